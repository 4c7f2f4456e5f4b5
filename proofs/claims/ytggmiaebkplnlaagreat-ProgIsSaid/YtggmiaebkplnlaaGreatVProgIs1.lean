/- The walks (printed by a program of ours). -/
import Derived.Test.YtggmiaebkplnlaaGreatV2
namespace Go.Proofs.YtggmiaebkplnlaaGreat
open Go Go.Fw
set_option linter.unusedVariables false
set_option linter.unusedSimpArgs false
set_option maxRecDepth 8000
set_option maxHeartbeats 1000000
open Tryz
theorem W_ref21_from {I : IH} {a0 : Int} {Q : Bool → Prop}  (hd : ref21_from a0 Q) :
  PFun prog 51 [.int .i64 a0] I (fun _ => o0_ Q) := by
 refine Fun.enter func51 r ntmps51 r (.c .n) fun w0 M => ?_
 refine .sr (.ks 1 r (.nilS [0] r r (.sr (.ks 3 r ?_))))
 refine splitP hd (fun hb1 hd => ?_) fun hb1 hd => ?_
 · rw [hb1]
   exact .ks 8 r (.nilS [2] r r (.ret (pret results51 (.t r .n) (.refl _) ⟨true, r, hd⟩)))
 rw [hb1]
 refine .ks 4 r ?_
 refine splitP hd (fun hb2 hd => ?_) fun hb2 hd => ?_
 · rw [hb2]
   exact .ks 4 r (.nilS [2] r r (.ret (pret results51 (.t r .n) (.refl _) ⟨true, r, hd⟩)))
 rw [hb2]
 exact .ks 4 r (.nilS [2] r r (.ret (pret results51 (.t r .n) (.refl _) ⟨(a0 == 4), r, hd⟩)))

theorem W_ref21_Right {I : IH} {a0 : Plan} {p1 : Option Addr} {c2 : Nat} {Q : Int → Prop} (R3 : RepSl eI64 I p1 c2 a0.Draws) (hd : ref21_Right a0 Q) :
  PFun prog 11 [.agg #[.int .i64 a0.Kind, .int .i64 a0.N, .int .i64 a0.Source, .int .i64 a0.Length, .slice p1 a0.Draws.length c2]] I (fun _ => o1_ Q) := by
 refine Fun.enter func11 r ntmps11 r (.c .n) fun w0 M => ?_
 refine .sr (.boxA r r r fun b6 => ?_)
 refine .ks 1 r (.nilS [1] r r (.seq (.sr (.fa underlying25 r sizeOf22 r (o := 0) r r r (.load1 isAgg22 r .z r r r (.ks 2 r ?_))))))
 refine splitP hd (fun hb10 hd => ?_) fun hb10 hd => ?_
 · rw [hb10]
   exact .ks 4 r (.nilS [11, 1] r r (.condKT r r (.sr (.ks 1 r (.nilS [2] r r (.drop .z (.ret (pret results11 (.t r .n) (.refl _) ⟨8, r, hd⟩))))))))
 rw [hb10]
 refine .gyes r r r (.fa underlying25 r sizeOf22 r (o := 0) r r r (.gyes r r r (.load1 isAgg22 r .z r r r (.ks 2 r (.nilS [11, 1] r r (.condP r hd (fun hb11 hd => ?_) fun hb11 hd => ?_))))))
 · exact .sr (.ks 1 r (.nilS [2] r r (.drop .z (.ret (pret results11 (.t r .n) (.refl _) ⟨8, r, hd⟩)))))
 refine .skipS [1] r r (.seq ?_)
 refine Cod.joinQ (σ := Unit) hd (fun (_ : Unit) c w => ∃ I_, IH.le I I_ ∧ Ok ⟨77, [], none⟩ [(1, .pointer (some ⟨b6, 0, none⟩))] c ∧ Sym w0 M I I_ [pto b6 (.cells #[.int .i64 a0.Kind, .int .i64 a0.N, .int .i64 a0.Source, .int .i64 a0.Length, .slice p1 a0.Draws.length c2] 25 (0, 0))] w) (fun k42 hd => ?_) ?_
 · skip
   refine .sr (.fa underlying25 r sizeOf3 r (o := 1) r r r (.load1 isAgg3 r .z r r r (.ks 2 r ?_)))
   refine splitP hd (fun hb43 hd => ?_) fun hb43 hd => ?_
   · rw [hb43]
     exact .ks 36 r (.nilS [51, 1] r r (.condKT r r (.sr (.ks 1 r (.nilS [2] r r (.drop .z (.ret (pret results11 (.t r .n) (.refl _) ⟨3, r, hd⟩))))))))
   rw [hb43]
   refine .gyes r r r (.fa underlying25 r sizeOf3 r (o := 1) r r r (.gyes r r r (.load1 isAgg3 r .z r r r (.ks 3 r ?_))))
   refine splitP hd (fun hb44 hd => ?_) fun hb44 hd => ?_
   · rw [hb44]
     exact .ks 31 r (.nilS [51, 1] r r (.condKT r r (.sr (.ks 1 r (.nilS [2] r r (.drop .z (.ret (pret results11 (.t r .n) (.refl _) ⟨3, r, hd⟩))))))))
   rw [hb44]
   refine .gyes r r r (.fa underlying25 r sizeOf22 r (o := 0) r r r (.gyes r r r (.load1 isAgg22 r .z r r r ?_)))
   have hw46 := W_ref21_from (I := I) hd
   refine .gyes r r r (.callP call51 r hw46 r r fun v47 hv48 => ?_)
   obtain ⟨r45, rfl, hd⟩ := hv48
   refine .ks 1 r ?_
   refine splitP hd (fun hb49 hd => ?_) fun hb49 hd => ?_
   · rw [hb49]
     refine .gyes r r r (.fa underlying25 r sizeOf3 r (o := 2) r r r (.gyes r r r (.load1 isAgg3 r .z r r r (.ks 2 r ?_))))
     refine splitP hd (fun hb50 hd => ?_) fun hb50 hd => ?_
     · rw [hb50]
       exact .ks 23 r (.nilS [51, 1] r r (.condKT r r (.sr (.ks 1 r (.nilS [2] r r (.drop .z (.ret (pret results11 (.t r .n) (.refl _) ⟨3, r, hd⟩))))))))
     rw [hb50]
     refine .gyes r r r (.fa underlying25 r sizeOf3 r (o := 2) r r r (.gyes r r r (.load1 isAgg3 r .z r r r (.gyes r r r (.fa underlying25 r sizeOf3 r (o := 1) r r r (.gyes r r r (.load1 isAgg3 r .z r r r (.ks 5 r ?_))))))))
     refine splitP hd (fun hb51 hd => ?_) fun hb51 hd => ?_
     · rw [hb51]
       exact .ks 14 r (.nilS [51, 1] r r (.condKT r r (.sr (.ks 1 r (.nilS [2] r r (.drop .z (.ret (pret results11 (.t r .n) (.refl _) ⟨3, r, hd⟩))))))))
     rw [hb51]
     refine .gyes r r r (.fa underlying25 r sizeOf22 r (o := 0) r r r (.gyes r r r (.load1 isAgg22 r .z r r r (.ks 2 r ?_))))
     refine splitP hd (fun hb52 hd => ?_) fun hb52 hd => ?_
     · rw [hb52]
       refine .gyes r r r (.fa underlying25 r sizeOf3 r (o := 3) r r r (.gyes r r r (.load1 isAgg3 r .z r r r (.ks 2 r ?_))))
       refine splitP hd (fun hb53 hd => ?_) fun hb53 hd => ?_
       · rw [hb53]
         exact .ks 6 r (.nilS [51, 1] r r (.condKT r r (.sr (.ks 1 r (.nilS [2] r r (.drop .z (.ret (pret results11 (.t r .n) (.refl _) ⟨3, r, hd⟩))))))))
       rw [hb53]
       refine .gyes r r r (.fa underlying25 r sizeOf3 r (o := 3) r r r (.gyes r r r (.load1 isAgg3 r .z r r r (.ks 4 r (.nilS [51, 1] r r (.condP r hd (fun hb54 hd => ?_) fun hb54 hd => ?_))))))
       · exact .sr (.ks 1 r (.nilS [2] r r (.drop .z (.ret (pret results11 (.t r .n) (.refl _) ⟨3, r, hd⟩)))))
       exact .skip' fun c w ho hs => ⟨(), hd, I, (.refl _), ho.sub ⟨r, trivial⟩, hs.pick (.c .z .n)⟩
     rw [hb52]
     exact .ks 10 r (.nilS [51, 1] r r (.condKF r r (.skip' fun c w ho hs => ⟨(), hd, I, (.refl _), ho.sub ⟨r, trivial⟩, hs.pick (.c .z .n)⟩)))
   rw [hb49]
   refine .ks 13 r (.gyes r r r (.fa underlying25 r sizeOf22 r (o := 0) r r r (.gyes r r r (.load1 isAgg22 r .z r r r (.ks 2 r ?_)))))
   refine splitP hd (fun hb55 hd => ?_) fun hb55 hd => ?_
   · rw [hb55]
     refine .gyes r r r (.fa underlying25 r sizeOf3 r (o := 3) r r r (.gyes r r r (.load1 isAgg3 r .z r r r (.ks 2 r ?_))))
     refine splitP hd (fun hb56 hd => ?_) fun hb56 hd => ?_
     · rw [hb56]
       exact .ks 6 r (.nilS [51, 1] r r (.condKT r r (.sr (.ks 1 r (.nilS [2] r r (.drop .z (.ret (pret results11 (.t r .n) (.refl _) ⟨3, r, hd⟩))))))))
     rw [hb56]
     refine .gyes r r r (.fa underlying25 r sizeOf3 r (o := 3) r r r (.gyes r r r (.load1 isAgg3 r .z r r r (.ks 4 r (.nilS [51, 1] r r (.condP r hd (fun hb57 hd => ?_) fun hb57 hd => ?_))))))
     · exact .sr (.ks 1 r (.nilS [2] r r (.drop .z (.ret (pret results11 (.t r .n) (.refl _) ⟨3, r, hd⟩)))))
     exact .skip' fun c w ho hs => ⟨(), hd, I, (.refl _), ho.sub ⟨r, trivial⟩, hs.pick (.c .z .n)⟩
   rw [hb55]
   exact .ks 10 r (.nilS [51, 1] r r (.condKF r r (.skip' fun c w ho hs => ⟨(), hd, I, (.refl _), ho.sub ⟨r, trivial⟩, hs.pick (.c .z .n)⟩)))
 rintro ⟨⟩ hd c w hst
 obtain ⟨I58, hl59, hok, hsym⟩ := hst
 replace R3 := R3.mono hl59
 refine Cod.at hok hsym (.seq (.sr (.fa underlying25 r sizeOf23 r (o := 4) r r r (.load1 isAgg23 r .z r r r (.len underlying23 r r r r (.ks 1 r (.nilS [55, 1] r r (.condP r hd (fun hb61 hd => ?_) fun hb61 hd => ?_))))))))
 · exact .sr (.ks 1 r (.nilS [2] r r (.drop .z (.ret (pret results11 (.t r .n) hl59 ⟨5, r, hd⟩)))))
 refine .skipS [1] r r (.seq (.sr (.ks 1 r (.nilS [3, 1] r r (.block (.loop hd (fun (s109 : Int) c w => ∃ I_, IH.le I58 I_ ∧ Ok ⟨77, [], none⟩ [(1, .pointer (some ⟨b6, 0, none⟩)), (3, .int .i64 s109)] c ∧ Sym w0 M I I_ [pto b6 (.cells #[.int .i64 a0.Kind, .int .i64 a0.N, .int .i64 a0.Source, .int .i64 a0.Length, .slice p1 a0.Draws.length c2] 25 (0, 0))] w) (fun c w ho hs => ⟨I58, (.refl _), ho.sub ⟨r, r, trivial⟩, hs.pick (.c .z .n)⟩) ?_))))))
 rintro s109 next110 hd c w hst
 obtain ⟨I111, hl112, hok, hsym⟩ := hst
 have le113 := IH.le.trans hl59 hl112
 replace R3 := R3.mono hl112
 refine Cod.at hok hsym (.seq (.sr (.ks 1 r (.fa underlying25 r sizeOf23 r (o := 4) r r r (.load1 isAgg23 r .z r r r (.len underlying23 r r r r (.ks 1 r (.nilS [60, 3, 1] r r (.condP r hd (fun hb115 hd => ?_) fun hb115 hd => ?_)))))))))
 · refine .skipS [3, 1] r r (.seq (.block (.sr (.fa underlying25 r sizeOf23 r (o := 4) r r r (.load1 isAgg23 r .z r r r (.ks 1 r ?_))))))
   obtain ⟨h116, x117, hx118, hd⟩ := hd
   obtain ⟨b119, o120, cs121, e122, hC123, hr124⟩ := R3.2 _ _ hx118
   cases hr124
   refine .ixa underlying23 sizeOf2 r e122 r h116 (idx_lt hx118 h116) r r (.ld1 (j := 0) isAgg2 hC123 r r r r r (.ks 2 r ?_))
   refine splitP hd (fun hb125 hd => ?_) fun hb125 hd => ?_
   · rw [hb125]
     exact .ks 7 r (.nilS [76, 3, 1] r r (.condKT r r (.sr (.ks 1 r (.nilS [2] r r (.drop .z (.ret (pret results11 (.t r .n) le113 ⟨7, r, hd⟩))))))))
   rw [hb125]
   refine .gyes r r r (.fa underlying25 r sizeOf23 r (o := 4) r r r (.gyes r r r (.load1 isAgg23 r .z r r r (.ks 1 r ?_))))
   obtain ⟨h126, x127, hx128, hd⟩ := hd
   obtain ⟨b129, o130, cs131, e132, hC133, hr134⟩ := R3.2 _ _ hx128
   cases hr134
   refine .gyes r r r (.ixa underlying23 sizeOf2 r e132 r h126 (idx_lt hx128 h126) r r (.gyes r r r (.ld1 (j := 0) isAgg2 hC133 r r r r r (.ks 2 r (.nilS [76, 3, 1] r r (.condP r hd (fun hb135 hd => ?_) fun hb135 hd => ?_))))))
   · exact .sr (.ks 1 r (.nilS [2] r r (.drop .z (.ret (pret results11 (.t r .n) le113 ⟨7, r, hd⟩)))))
   exact .skipS [3, 1] r r (.region (.ks 3 r (.nil' fun c w ho hs => ⟨(w64 (s109 + 1)), hd, I111, hl112, ho.sub ⟨r, r, trivial⟩, hs.pick (.c .z .n)⟩)))
 exact .exitS [] r r (.drop .z (.sr (.ks 1 r (.nilS [2] r r (.ret (pret results11 (.t r .n) le113 ⟨0, r, hd⟩))))))

theorem W_ref05_Right {I : IH} {a0 : Graph} {p1 : Option Addr} {c2 : Nat} {Q : Int → Prop} (R3 : RepSl eEdge I p1 c2 a0.Edges) (hd : ref05_Right a0 Q) :
  PFun prog 43 [.agg #[.int .i64 a0.N, .slice p1 a0.Edges.length c2]] I (fun _ => o1_ Q) := by
 refine Fun.enter func43 r ntmps43 r (.c .n) fun w0 M => ?_
 refine .sr (.boxA r r r fun b6 => ?_)
 refine .ks 1 r (.nilS [1] r r (.seq (.sr (.fa underlying28 r sizeOf3 r (o := 0) r r r (.load1 isAgg3 r .z r r r (.ks 1 r (.nilS [8, 1] r r (.condP r hd (fun hb9 hd => ?_) fun hb9 hd => ?_))))))))
 · exact .sr (.ks 1 r (.nilS [2] r r (.drop .z (.ret (pret results43 (.t r .n) (.refl _) ⟨3, r, hd⟩)))))
 refine .skipS [1] r r (.seq (.sr (.fa underlying28 r sizeOf3 r (o := 0) r r r (.load1 isAgg3 r .z r r r (.ks 2 r ?_)))))
 refine splitP hd (fun hb12 hd => ?_) fun hb12 hd => ?_
 · rw [hb12]
   exact .ks 5 r (.nilS [17, 1] r r (.condKT r r (.sr (.ks 1 r (.nilS [2] r r (.drop .z (.ret (pret results43 (.t r .n) (.refl _) ⟨5, r, hd⟩))))))))
 rw [hb12]
 refine .gyes r r r (.fa underlying28 r sizeOf26 r (o := 1) r r r (.gyes r r r (.load1 isAgg26 r .z r r r (.gyes r r r (.len underlying26 r r r r (.ks 2 r (.nilS [17, 1] r r (.condP r hd (fun hb13 hd => ?_) fun hb13 hd => ?_))))))))
 · exact .sr (.ks 1 r (.nilS [2] r r (.drop .z (.ret (pret results43 (.t r .n) (.refl _) ⟨5, r, hd⟩)))))
 refine .skipS [1] r r (.seq (.sr (.ks 1 r (.nilS [3, 1] r r (.block (.loop hd (fun (s164 : Int) c w => ∃ I_, IH.le I I_ ∧ Ok ⟨75, [], none⟩ [(1, .pointer (some ⟨b6, 0, none⟩)), (3, .int .i64 s164)] c ∧ Sym w0 M I I_ [pto b6 (.cells #[.int .i64 a0.N, .slice p1 a0.Edges.length c2] 28 (0, 0))] w) (fun c w ho hs => ⟨I, (.refl _), ho.sub ⟨r, r, trivial⟩, hs.pick (.c .z .n)⟩) ?_))))))
 rintro s164 next165 hd c w hst
 obtain ⟨I166, hl167, hok, hsym⟩ := hst
 replace R3 := R3.mono hl167
 refine Cod.at hok hsym (.seq (.sr (.ks 1 r (.fa underlying28 r sizeOf26 r (o := 1) r r r (.load1 isAgg26 r .z r r r (.len underlying26 r r r r (.ks 1 r (.nilS [22, 3, 1] r r (.condP r hd (fun hb169 hd => ?_) fun hb169 hd => ?_)))))))))
 · refine .skipS [3, 1] r r (.seq (.block (.sr (.fa underlying28 r sizeOf26 r (o := 1) r r r (.load1 isAgg26 r .z r r r (.ks 1 r ?_))))))
   obtain ⟨h181, x182, hx183, hd⟩ := hd
   obtain ⟨b184, o185, cs186, e187, hC188, hr189⟩ := R3.2 _ _ hx183
   cases hr189
   refine .ixa underlying26 sizeOf73 r e187 r h181 (idx_lt hx183 h181) r r (.ldW isAgg73 sizeOf73 hC188 r r r r (.allocA zeroValue73 r r fun b190 => ?_))
   refine .storeA sizeOf73 r r .z (.t (.t (.t .nil))) r r (.nilS [4, 3, 1] r r (.sr (.fa underlying73 r sizeOf3 r (o := 0) r r r (.load1 isAgg3 r .z r r r (.ks 2 r ?_)))))
   refine splitP hd (fun hb192 hd => ?_) fun hb192 hd => ?_
   · rw [hb192]
     exact .ks 18 r (.nilS [51, 3, 1] r r (.drop .z (.condKT r r (.sr (.ks 1 r (.nilS [2] r r (.drop .z (.ret (pret results43 (.t r .n) hl167 ⟨3, r, hd⟩)))))))))
   rw [hb192]
   refine .gyes r r r (.fa underlying73 r sizeOf3 r (o := 0) r r r (.gyes r r r (.load1 isAgg3 r .z r r r (.gyes r r r (.fa underlying28 r sizeOf3 r (o := 0) r r r (.gyes r r r (.load1 isAgg3 r (.s .z) r r r (.ks 3 r ?_))))))))
   refine splitP hd (fun hb193 hd => ?_) fun hb193 hd => ?_
   · rw [hb193]
     exact .ks 11 r (.nilS [51, 3, 1] r r (.drop .z (.condKT r r (.sr (.ks 1 r (.nilS [2] r r (.drop .z (.ret (pret results43 (.t r .n) hl167 ⟨3, r, hd⟩)))))))))
   rw [hb193]
   refine .gyes r r r (.fa underlying73 r sizeOf3 r (o := 1) r r r (.gyes r r r (.load1 isAgg3 r .z r r r (.ks 3 r ?_))))
   refine splitP hd (fun hb194 hd => ?_) fun hb194 hd => ?_
   · rw [hb194]
     exact .ks 6 r (.nilS [51, 3, 1] r r (.drop .z (.condKT r r (.sr (.ks 1 r (.nilS [2] r r (.drop .z (.ret (pret results43 (.t r .n) hl167 ⟨3, r, hd⟩)))))))))
   rw [hb194]
   refine .gyes r r r (.fa underlying73 r sizeOf3 r (o := 1) r r r (.gyes r r r (.load1 isAgg3 r .z r r r (.gyes r r r (.fa underlying28 r sizeOf3 r (o := 0) r r r (.gyes r r r (.load1 isAgg3 r (.s .z) r r r (.ks 2 r (.nilS [51, 3, 1] r r (.drop .z (.condP r hd (fun hb195 hd => ?_) fun hb195 hd => ?_)))))))))))
   · exact .sr (.ks 1 r (.nilS [2] r r (.drop .z (.ret (pret results43 (.t r .n) hl167 ⟨3, r, hd⟩)))))
   exact .skipS [3, 1] r r (.region (.ks 3 r (.nil' fun c w ho hs => ⟨(w64 (s164 + 1)), hd, I166, hl167, ho.sub ⟨r, r, trivial⟩, hs.pick (.c .z .n)⟩)))
 refine .exitS [1] r r (.seq (.sr (.ks 1 r (.nilS [5, 1] r r (.block (.loop hd (fun (s243 : Int) c w => ∃ I_, IH.le I166 I_ ∧ Ok ⟨75, [], none⟩ [(1, .pointer (some ⟨b6, 0, none⟩)), (5, .int .i64 s243)] c ∧ Sym w0 M I I_ [pto b6 (.cells #[.int .i64 a0.N, .slice p1 a0.Edges.length c2] 28 (0, 0))] w) (fun c w ho hs => ⟨I166, (.refl _), ho.sub ⟨r, r, trivial⟩, hs.pick (.c .z .n)⟩) ?_))))))
 rintro s243 next244 hd c w hst
 obtain ⟨I245, hl246, hok, hsym⟩ := hst
 have le247 := IH.le.trans hl167 hl246
 replace R3 := R3.mono hl246
 refine Cod.at hok hsym (.seq (.sr (.ks 1 r (.fa underlying28 r sizeOf26 r (o := 1) r r r (.load1 isAgg26 r .z r r r (.len underlying26 r r r r (.ks 1 r (.nilS [56, 5, 1] r r (.condP r hd (fun hb249 hd => ?_) fun hb249 hd => ?_)))))))))
 · refine .skipS [5, 1] r r (.seq (.block (.sr (.fa underlying28 r sizeOf26 r (o := 1) r r r (.load1 isAgg26 r .z r r r (.ks 1 r ?_))))))
   obtain ⟨h250, x251, hx252, hd⟩ := hd
   obtain ⟨b253, o254, cs255, e256, hC257, hr258⟩ := R3.2 _ _ hx252
   cases hr258
   refine .ixa underlying26 sizeOf73 r e256 r h250 (idx_lt hx252 h250) r r (.fa underlying73 r sizeOf2 r (o := o254 + s243.toNat * 3 + 2) r r r (.ld1 (j := 2) isAgg2 hC257 r r r r r (.ks 2 r ?_)))
   refine splitP hd (fun hb259 hd => ?_) fun hb259 hd => ?_
   · rw [hb259]
     exact .ks 8 r (.nilS [74, 5, 1] r r (.condKT r r (.sr (.ks 1 r (.nilS [2] r r (.drop .z (.ret (pret results43 (.t r .n) le247 ⟨7, r, hd⟩))))))))
   rw [hb259]
   refine .gyes r r r (.fa underlying28 r sizeOf26 r (o := 1) r r r (.gyes r r r (.load1 isAgg26 r .z r r r (.ks 1 r ?_))))
   obtain ⟨h260, x261, hx262, hd⟩ := hd
   obtain ⟨b263, o264, cs265, e266, hC267, hr268⟩ := R3.2 _ _ hx262
   cases hr268
   refine .gyes r r r (.ixa underlying26 sizeOf73 r e266 r h260 (idx_lt hx262 h260) r r (.gyes r r r (.fa underlying73 r sizeOf2 r (o := o264 + s243.toNat * 3 + 2) r r r (.gyes r r r (.ld1 (j := 2) isAgg2 hC267 r r r r r (.ks 2 r (.nilS [74, 5, 1] r r (.condP r hd (fun hb269 hd => ?_) fun hb269 hd => ?_))))))))
   · exact .sr (.ks 1 r (.nilS [2] r r (.drop .z (.ret (pret results43 (.t r .n) le247 ⟨7, r, hd⟩)))))
   exact .skipS [5, 1] r r (.region (.ks 3 r (.nil' fun c w ho hs => ⟨(w64 (s243 + 1)), hd, I245, hl246, ho.sub ⟨r, r, trivial⟩, hs.pick (.c .z .n)⟩)))
 exact .exitS [] r r (.drop .z (.sr (.ks 1 r (.nilS [2] r r (.ret (pret results43 (.t r .n) le247 ⟨0, r, hd⟩))))))

theorem W_ref02_Is {I : IH} {a0 : Int} {Q : Bool → Prop}  (hd : ref02_Is a0 Q) :
  PFun prog 120 [.int .i64 a0] I (fun _ => o0_ Q) := by
 refine Fun.enter func120 r ntmps120 r (.c .n) fun w0 M => ?_
 refine .sr (.ks 1 r (.nilS [0] r r (.sr (.ks 3 r ?_))))
 refine splitP hd (fun hb1 hd => ?_) fun hb1 hd => ?_
 · rw [hb1]
   exact .ks 4 r (.nilS [2] r r (.ret (pret results120 (.t r .n) (.refl _) ⟨(decide (a0 ≤ 5)), r, hd⟩)))
 rw [hb1]
 exact .ks 4 r (.nilS [2] r r (.ret (pret results120 (.t r .n) (.refl _) ⟨false, r, hd⟩)))

theorem W_ref05_below {I : IH} {a0 : Edge} {a1 : Edge} {Q : Bool → Prop}  (hd : ref05_below a0 a1 Q) :
  PFun prog 132 [.agg (encEdge a0).toArray, .agg (encEdge a1).toArray] I (fun _ => o0_ Q) := by
 refine Fun.enter func132 r ntmps132 r (.c (.c .n)) fun w0 M => ?_
 refine .sr (.boxA r r r fun b5 => ?_)
 refine .boxA r r r fun b7 => ?_
 refine .ks 1 r (.nilS [3, 2] r r (.sr (.fa underlying73 r sizeOf3 r (o := 0) r r r (.load1 isAgg3 r (.s .z) r r r (.fa underlying73 r sizeOf3 r (o := 0) r r r (.load1 isAgg3 r .z r r r (.ks 2 r ?_)))))))
 refine splitP hd (fun hb9 hd => ?_) fun hb9 hd => ?_
 · rw [hb9]
   exact .ks 14 r (.nilS [4] r r (.drop .z (.drop .z (.ret (pret results132 (.t r .n) (.refl _) ⟨true, r, hd⟩)))))
 rw [hb9]
 refine .gyes r r r (.fa underlying73 r sizeOf3 r (o := 0) r r r (.gyes r r r (.load1 isAgg3 r (.s .z) r r r (.gyes r r r (.fa underlying73 r sizeOf3 r (o := 0) r r r (.gyes r r r (.load1 isAgg3 r .z r r r (.ks 2 r ?_))))))))
 refine splitP hd (fun hb10 hd => ?_) fun hb10 hd => ?_
 · rw [hb10]
   exact .gyes r r r (.fa underlying73 r sizeOf3 r (o := 1) r r r (.gyes r r r (.load1 isAgg3 r (.s .z) r r r (.gyes r r r (.fa underlying73 r sizeOf3 r (o := 1) r r r (.gyes r r r (.load1 isAgg3 r .z r r r (.ks 4 r (.nilS [4] r r (.drop .z (.drop .z (.ret (pret results132 (.t r .n) (.refl _) ⟨(decide (a0.To < a1.To)), r, hd⟩)))))))))))))
 rw [hb10]
 exact .ks 8 r (.nilS [4] r r (.drop .z (.drop .z (.ret (pret results132 (.t r .n) (.refl _) ⟨false, r, hd⟩)))))

theorem W_ref01_Of {I : IH} {a0 : Int} {Q : Wide → Prop}  (hd : ref01_Of a0 Q) :
  PFun prog 133 [.int .i64 a0] I (fun _ => o2_ Q) := by
 refine Fun.enter func133 r ntmps133 r (.c .n) fun w0 M => ?_
 refine .sr (.allocA zeroValue144 r r fun b3 => ?_)
 refine .nilS [2, 0] r r (.seq (.sr (.ks 2 r (.nilS [4, 2, 0] r r (.condP r hd (fun hb5 hd => ?_) fun hb5 hd => ?_)))))
 · exact .sr (.ks 1 r (.conv underlying2 underlying96 r r r (.build zeroValue144 underlying144 BI144 (.c r r r (.t .nil) (.c r r r (.s (.t .nil)) .n)) (by exact ⟨⟨_, _, r, r, r⟩, ⟨⟨_, _, r, r, r⟩, trivial⟩⟩) r r (.storeA sizeOf144 r r .z (.t (.t .nil)) r r (.nilS [2] r r (.ret (pret results133 (.w isAgg144 sizeOf144 r .z r .n) (.refl _) ⟨({ Hi := (-1), Lo := IntKind.wrap .u64 (a0) } : Wide), r, hd⟩)))))))
 exact .skipS [2, 0] r r (.sr (.ks 1 r (.conv underlying2 underlying96 r r r (.build zeroValue144 underlying144 BI144 (.c r r r (.s (.t .nil)) .n) (by exact ⟨⟨_, _, r, r, r⟩, trivial⟩) r r (.storeA sizeOf144 r r .z (.t (.t .nil)) r r (.nilS [2] r r (.ret (pret results133 (.w isAgg144 sizeOf144 r .z r .n) (.refl _) ⟨({ Hi := 0, Lo := IntKind.wrap .u64 (a0) } : Wide), r, hd⟩))))))))

theorem W_ref01_Compare {I : IH} {a0 : Wide} {a1 : Wide} {Q : Int → Prop}  (hd : ref01_Compare a0 a1 Q) :
  PFun prog 147 [.agg (encWide a0).toArray, .agg (encWide a1).toArray] I (fun _ => o1_ Q) := by
 refine Fun.enter func147 r ntmps147 r (.c (.c .n)) fun w0 M => ?_
 refine .sr (.boxA r r r fun b5 => ?_)
 refine .boxA r r r fun b7 => ?_
 refine .ks 1 r (.nilS [3, 2] r r (.seq ?_))
 refine Cod.joinQ (σ := Unit) hd (fun (_ : Unit) c w => ∃ I_, IH.le I I_ ∧ Ok ⟨27, [], none⟩ [(2, .pointer (some ⟨b5, 0, none⟩)), (3, .pointer (some ⟨b7, 0, none⟩))] c ∧ Sym w0 M I I_ [pto b5 (.cells #[.int .i64 a0.Hi, .int .u64 a0.Lo] 144 (0, 0)), pto b7 (.cells #[.int .i64 a1.Hi, .int .u64 a1.Lo] 144 (0, 0))] w) (fun k15 hd => ?_) ?_
 · skip
   refine .sr (.fa underlying144 r sizeOf2 r (o := 0) r r r (.load1 isAgg2 r (.s .z) r r r (.fa underlying144 r sizeOf2 r (o := 0) r r r (.load1 isAgg2 r .z r r r (.ks 2 r ?_)))))
   refine splitP hd (fun hb16 hd => ?_) fun hb16 hd => ?_
   · rw [hb16]
     exact .ks 13 r (.nilS [23, 3, 2] r r (.condKT r r (.sr (.ks 1 r (.nilS [4] r r (.drop .z (.drop .z (.ret (pret results147 (.t r .n) (.refl _) ⟨(-1), r, hd⟩)))))))))
   rw [hb16]
   refine .gyes r r r (.fa underlying144 r sizeOf2 r (o := 0) r r r (.gyes r r r (.load1 isAgg2 r (.s .z) r r r (.gyes r r r (.fa underlying144 r sizeOf2 r (o := 0) r r r (.gyes r r r (.load1 isAgg2 r .z r r r (.ks 2 r ?_))))))))
   refine splitP hd (fun hb17 hd => ?_) fun hb17 hd => ?_
   · rw [hb17]
     refine .gyes r r r (.fa underlying144 r sizeOf96 r (o := 1) r r r (.gyes r r r (.load1 isAgg96 r (.s .z) r r r (.gyes r r r (.fa underlying144 r sizeOf96 r (o := 1) r r r (.gyes r r r (.load1 isAgg96 r .z r r r (.ks 3 r (.nilS [23, 3, 2] r r (.condP r hd (fun hb18 hd => ?_) fun hb18 hd => ?_))))))))))
     · exact .sr (.ks 1 r (.nilS [4] r r (.drop .z (.drop .z (.ret (pret results147 (.t r .n) (.refl _) ⟨(-1), r, hd⟩))))))
     exact .skip' fun c w ho hs => ⟨(), hd, I, (.refl _), ho.sub ⟨r, r, trivial⟩, hs.pick (.c (.s .z) (.c .z .n))⟩
   rw [hb17]
   exact .ks 7 r (.nilS [23, 3, 2] r r (.condKF r r (.skip' fun c w ho hs => ⟨(), hd, I, (.refl _), ho.sub ⟨r, r, trivial⟩, hs.pick (.c (.s .z) (.c .z .n))⟩)))
 rintro ⟨⟩ hd c w hst
 obtain ⟨I19, hl20, hok, hsym⟩ := hst
 refine Cod.at hok hsym (.seq (.sr (.loadW isAgg144 sizeOf144 r .z r r r (.loadW isAgg144 sizeOf144 r (.s .z) r r r (.eqV r r (EQ144 a0 a1) (EG144 _ _ _ _ _) r r r (.nilS [26] r r (.drop .z (.drop .z (.condP r hd (fun hb21 hd => ?_) fun hb21 hd => ?_)))))))))
 · exact .sr (.ks 1 r (.nilS [4] r r (.ret (pret results147 (.t r .n) hl20 ⟨0, r, hd⟩))))
 exact .skipS [] r r (.sr (.ks 1 r (.nilS [4] r r (.ret (pret results147 (.t r .n) hl20 ⟨1, r, hd⟩)))))

theorem W_ref02_truth {I : IH} {a0 : Bool} {Q : Wide → Prop}  (hd : ref02_truth a0 Q) :
  PFun prog 148 [.bool a0] I (fun _ => o2_ Q) := by
 refine Fun.enter func148 r ntmps148 r (.c .n) fun w0 M => ?_
 refine .sr (.allocA zeroValue144 r r fun b3 => ?_)
 refine .nilS [2, 0] r r (.seq (.sr (.ks 1 r (.nilS [3, 2] r r (.condP r hd (fun hb5 hd => ?_) fun hb5 hd => ?_)))))
 · exact .sr (.build zeroValue144 underlying144 BI144 (.c r r r (.s (.t .nil)) .n) (by exact ⟨⟨_, _, r, r, r⟩, trivial⟩) r r (.storeA sizeOf144 r r .z (.t (.t .nil)) r r (.nilS [2] r r (.ret (pret results148 (.w isAgg144 sizeOf144 r .z r .n) (.refl _) ⟨({ Hi := 0, Lo := 1 } : Wide), r, hd⟩)))))
 exact .skipS [2] r r (.sr (.build zeroValue144 underlying144 BI144 .n (by exact trivial) r r (.storeA sizeOf144 r r .z (.t (.t .nil)) r r (.nilS [2] r r (.ret (pret results148 (.w isAgg144 sizeOf144 r .z r .n) (.refl _) ⟨({ Hi := 0, Lo := 0 } : Wide), r, hd⟩))))))

theorem W_ref01_Add {I : IH} {a0 : Wide} {a1 : Wide} {Q : Wide → Prop}  (hd : ref01_Add a0 a1 Q) :
  PFun prog 149 [.agg (encWide a0).toArray, .agg (encWide a1).toArray] I (fun _ => o2_ Q) := by
 refine Fun.enter func149 r ntmps149 r (.c (.c .n)) fun w0 M => ?_
 refine .sr (.boxA r r r fun b7 => ?_)
 refine .boxA r r r fun b9 => ?_
 refine .allocA zeroValue144 r r fun b11 => ?_
 refine .nilS [4, 3, 2] r r (.sr (.fa underlying144 r sizeOf96 r (o := 1) r r r (.load1 isAgg96 r (.s (.s .z)) r r r (.fa underlying144 r sizeOf96 r (o := 1) r r r (.load1 isAgg96 r (.s .z) r r r (.ks 2 r (.nilS [5, 4, 3, 2] r r (.sr (.fa underlying144 r sizeOf2 r (o := 0) r r r ?_)))))))))
 refine .load1 isAgg2 r (.s (.s .z)) r r r (.fa underlying144 r sizeOf2 r (o := 0) r r r (.load1 isAgg2 r (.s .z) r r r (.ks 2 r (.nilS [6, 5, 4, 2] r r (.drop (.s .z) (.seq (.sr (.ks 1 r (.fa underlying144 r sizeOf96 r (o := 1) r r r ?_)))))))))
 refine .load1 isAgg96 r (.s .z) r r r (.ks 1 r (.nilS [20, 6, 5, 4] r r (.drop (.s .z) (.condP r hd (fun hb13 hd => ?_) fun hb13 hd => ?_))))
 · exact .region (.ks 3 r (.nilS [6, 5, 4] r r (.sr (.ks 2 r (.build zeroValue144 underlying144 BI144 (.c r r r (.t .nil) (.c r r r (.s (.t .nil)) .n)) (by exact ⟨⟨_, _, r, r, r⟩, ⟨⟨_, _, r, r, r⟩, trivial⟩⟩) r r (.storeA sizeOf144 r r .z (.t (.t .nil)) r r (.nilS [4] r r (.ret (pret results149 (.w isAgg144 sizeOf144 r .z r .n) (.refl _) ⟨({ Hi := w64 ((w64 (a0.Hi + a1.Hi)) + 1), Lo := IntKind.wrap .u64 (a0.Lo + a1.Lo) } : Wide), r, hd⟩)))))))))
 exact .skipS [6, 5, 4] r r (.sr (.ks 2 r (.build zeroValue144 underlying144 BI144 (.c r r r (.t .nil) (.c r r r (.s (.t .nil)) .n)) (by exact ⟨⟨_, _, r, r, r⟩, ⟨⟨_, _, r, r, r⟩, trivial⟩⟩) r r (.storeA sizeOf144 r r .z (.t (.t .nil)) r r (.nilS [4] r r (.ret (pret results149 (.w isAgg144 sizeOf144 r .z r .n) (.refl _) ⟨({ Hi := w64 (a0.Hi + a1.Hi), Lo := IntKind.wrap .u64 (a0.Lo + a1.Lo) } : Wide), r, hd⟩)))))))

theorem W_ref02_Add {I : IH} {a0 : Int} {a1 : Wide} {a2 : Wide} {Q : Wide → Prop}  (hd : ref02_Add a0 a1 a2 Q) :
  PFun prog 134 [.int .i64 a0, .agg (encWide a1).toArray, .agg (encWide a2).toArray] I (fun _ => o2_ Q) := by
 refine Fun.enter func134 r ntmps134 r (.c (.c (.c .n))) fun w0 M => ?_
 refine .sr (.boxA r r r fun b7 => ?_)
 refine .boxA r r r fun b9 => ?_
 refine .allocA zeroValue144 r r fun b11 => ?_
 refine .nilS [6, 5, 4, 0] r r (.sr (.ks 1 r (.nilS [7, 6, 5, 4] r r (.block (.seq ?_)))))
 refine Cod.joinQ (σ := Bool) hd (fun (s17 : Bool) c w => ∃ I_, IH.le I I_ ∧ Ok ⟨35, [], none⟩ [(4, .pointer (some ⟨b7, 0, none⟩)), (5, .pointer (some ⟨b9, 0, none⟩)), (6, .pointer (some ⟨b11, 0, none⟩)), (7, .int .i64 a0), (9, .bool s17)] c ∧ Sym w0 M I I_ [pto b7 (.cells #[.int .i64 a1.Hi, .int .u64 a1.Lo] 144 (0, 0)), pto b9 (.cells #[.int .i64 a2.Hi, .int .u64 a2.Lo] 144 (0, 0)), pto b11 (.cells #[.int .i64 0, .int .u64 0] 144 (0, 0))] w) (fun k18 hd => ?_) ?_
 · skip
   refine .sr (.ks 2 r (.nilS [9, 7, 6, 5, 4] r r (.condP r hd (fun hb19 hd => ?_) fun hb19 hd => ?_)))
   · exact .skip' fun c w ho hs => ⟨(a0 == 1), hd, I, (.refl _), ho.sub ⟨r, r, r, r, r, trivial⟩, hs.pick (.c (.s (.s .z)) (.c (.s .z) (.c .z .n)))⟩
   refine .sr (.ks 2 r (.nilS [9, 7, 6, 5, 4] r r (.condP r hd (fun hb20 hd => ?_) fun hb20 hd => ?_)))
   · exact .skip' fun c w ho hs => ⟨(a0 == 3), hd, I, (.refl _), ho.sub ⟨r, r, r, r, r, trivial⟩, hs.pick (.c (.s (.s .z)) (.c (.s .z) (.c .z .n)))⟩
   exact .region (.ks 2 r (.nil' fun c w ho hs => ⟨(a0 == 4), hd, I, (.refl _), ho.sub ⟨r, r, r, r, r, trivial⟩, hs.pick (.c (.s (.s .z)) (.c (.s .z) (.c .z .n)))⟩))
 rintro s17 hd c w hst
 obtain ⟨I21, hl22, hok, hsym⟩ := hst
 refine Cod.at hok hsym (.condP r hd (fun hb23 hd => ?_) fun hb23 hd => ?_)
 · refine .seq (.sr (.loadW isAgg144 sizeOf144 r (.s .z) r r r (.loadW isAgg144 sizeOf144 r .z r r r ?_)))
   have hw25 := W_ref01_Compare (I := I21) hd
   refine .callP call147 r hw25 r r fun v26 hv27 => ?_
   obtain ⟨r24, rfl, hd⟩ := hv27
   refine .ks 1 r (.nilS [16, 6, 5, 4] r r (.condP r hd (fun hb28 hd => ?_) fun hb28 hd => ?_))
   · exact .sr (.loadW isAgg144 sizeOf144 r (.s .z) r r r (.storeA sizeOf144 r r (.s (.s .z)) (.t (.t .nil)) r r (.nilS [6] r r (.drop .z (.drop .z (.ret (pret results134 (.w isAgg144 sizeOf144 r .z r .n) hl22 ⟨a2, r, hd⟩)))))))
   exact .skipS [6, 4] r r (.drop (.s .z) (.sr (.loadW isAgg144 sizeOf144 r .z r r r (.storeA sizeOf144 r r (.s .z) (.t (.t .nil)) r r (.nilS [6] r r (.drop .z (.ret (pret results134 (.w isAgg144 sizeOf144 r .z r .n) hl22 ⟨a1, r, hd⟩))))))))
 refine .sr (.ks 2 r (.nilS [19, 7, 6, 5, 4] r r (.condP r hd (fun hb29 hd => ?_) fun hb29 hd => ?_)))
 · refine .sr (.loadW isAgg144 sizeOf144 r .z r r r (.build zeroValue144 underlying144 BI144 .n (by exact trivial) r r (.neV r r (EQ144 a1 ({ Hi := 0, Lo := 0 } : Wide)) (EG144 _ _ _ _ _) r r r (.ks 1 r ?_))))
   refine splitP hd (fun hb30 hd => ?_) fun hb30 hd => ?_
   · rw [hb30]
     refine .ks 4 r ?_
     have hw32 := W_ref02_truth (I := I21) hd
     refine .callP call148 r hw32 r r fun v33 hv34 => ?_
     obtain ⟨r31, rfl, hd⟩ := hv34
     exact .storeA sizeOf144 r r (.s (.s .z)) (.t (.t .nil)) r r (.nilS [6] r r (.drop .z (.drop .z (.ret (pret results134 (.w isAgg144 sizeOf144 r .z r .n) hl22 ⟨r31, r, hd⟩)))))
   rw [hb30]
   refine .gyes r r r (.loadW isAgg144 sizeOf144 r (.s .z) r r r (.gyes r r r (.build zeroValue144 underlying144 BI144 .n (by exact trivial) r r (.gyes r r r (.neV r r (EQ144 a2 ({ Hi := 0, Lo := 0 } : Wide)) (EG144 _ _ _ _ _) r r r (.ks 1 r ?_))))))
   have hw36 := W_ref02_truth (I := I21) hd
   refine .callP call148 r hw36 r r fun v37 hv38 => ?_
   obtain ⟨r35, rfl, hd⟩ := hv38
   exact .storeA sizeOf144 r r (.s (.s .z)) (.t (.t .nil)) r r (.nilS [6] r r (.drop .z (.drop .z (.ret (pret results134 (.w isAgg144 sizeOf144 r .z r .n) hl22 ⟨r35, r, hd⟩)))))
 refine .sr (.ks 2 r (.nilS [30, 6, 5, 4] r r (.condP r hd (fun hb39 hd => ?_) fun hb39 hd => ?_)))
 · refine .sr (.loadW isAgg144 sizeOf144 r .z r r r (.loadW isAgg144 sizeOf144 r (.s .z) r r r ?_))
   have hw41 := W_ref01_Add (I := I21) hd
   refine .callP call149 r hw41 r r fun v42 hv43 => ?_
   obtain ⟨r40, rfl, hd⟩ := hv43
   exact .storeA sizeOf144 r r (.s (.s .z)) (.t (.t .nil)) r r (.nilS [6] r r (.drop .z (.drop .z (.ret (pret results134 (.w isAgg144 sizeOf144 r .z r .n) hl22 ⟨r40, r, hd⟩)))))
 exact .sr (.build zeroValue144 underlying144 BI144 .n (by exact trivial) r r (.storeA sizeOf144 r r (.s (.s .z)) (.t (.t .nil)) r r (.nilS [6] r r (.drop .z (.drop .z (.ret (pret results134 (.w isAgg144 sizeOf144 r .z r .n) hl22 ⟨({ Hi := 0, Lo := 0 } : Wide), r, hd⟩)))))))

theorem W_ref01_Narrow {I : IH} {a0 : Wide} {Q : (Int × Bool) → Prop}  (hd : ref01_Narrow a0 Q) :
  PFun prog 135 [.agg (encWide a0).toArray] I (fun _ => o4_ Q) := by
 refine Fun.enter func135 r ntmps135 r (.c .n) fun w0 M => ?_
 refine .sr (.boxA r r r fun b3 => ?_)
 refine .ks 2 r (.nilS [1] r r (.sr (.fa underlying144 r sizeOf96 r (o := 1) r r r (.load1 isAgg96 r .z r r r (.conv underlying96 underlying2 r r r (.ks 1 r (.nilS [4, 1] r r (.seq (.sr ?_)))))))))
 refine .fa underlying144 r sizeOf2 r (o := 0) r r r (.load1 isAgg2 r .z r r r (.ks 2 r ?_))
 refine splitP hd (fun hb5 hd => ?_) fun hb5 hd => ?_
 · rw [hb5]
   refine .ks 4 r ?_
   refine splitP hd (fun hb6 hd => ?_) fun hb6 hd => ?_
   · rw [hb6]
     exact .ks 8 r (.nilS [23, 4] r r (.drop .z (.condKT r r (.sr (.ks 3 r (.nilS [3, 2] r r (.ret (pret results135 (.t r (.t r .n)) (.refl _) ⟨(w64 (a0.Lo), true), r, hd⟩))))))))
   rw [hb6]
   refine .gyes r r r (.fa underlying144 r sizeOf2 r (o := 0) r r r (.gyes r r r (.load1 isAgg2 r .z r r r (.ks 2 r ?_))))
   refine splitP hd (fun hb7 hd => ?_) fun hb7 hd => ?_
   · rw [hb7]
     refine .ks 4 r (.nilS [23, 4] r r (.drop .z (.condP r hd (fun hb8 hd => ?_) fun hb8 hd => ?_)))
     · exact .sr (.ks 3 r (.nilS [3, 2] r r (.ret (pret results135 (.t r (.t r .n)) (.refl _) ⟨(w64 (a0.Lo), true), r, hd⟩))))
     exact .skipS [] r r (.sr (.ks 2 r (.nilS [3, 2] r r (.ret (pret results135 (.t r (.t r .n)) (.refl _) ⟨(0, false), r, hd⟩)))))
   rw [hb7]
   exact .ks 4 r (.nilS [23, 4] r r (.drop .z (.condKF r r (.skipS [] r r (.sr (.ks 2 r (.nilS [3, 2] r r (.ret (pret results135 (.t r (.t r .n)) (.refl _) ⟨(0, false), r, hd⟩)))))))))
 rw [hb5]
 refine .ks 4 r (.gyes r r r (.fa underlying144 r sizeOf2 r (o := 0) r r r (.gyes r r r (.load1 isAgg2 r .z r r r (.ks 2 r ?_)))))
 refine splitP hd (fun hb9 hd => ?_) fun hb9 hd => ?_
 · rw [hb9]
   refine .ks 4 r (.nilS [23, 4] r r (.drop .z (.condP r hd (fun hb10 hd => ?_) fun hb10 hd => ?_)))
   · exact .sr (.ks 3 r (.nilS [3, 2] r r (.ret (pret results135 (.t r (.t r .n)) (.refl _) ⟨(w64 (a0.Lo), true), r, hd⟩))))
   exact .skipS [] r r (.sr (.ks 2 r (.nilS [3, 2] r r (.ret (pret results135 (.t r (.t r .n)) (.refl _) ⟨(0, false), r, hd⟩)))))
 rw [hb9]
 exact .ks 4 r (.nilS [23, 4] r r (.drop .z (.condKF r r (.skipS [] r r (.sr (.ks 2 r (.nilS [3, 2] r r (.ret (pret results135 (.t r (.t r .n)) (.refl _) ⟨(0, false), r, hd⟩)))))))))

theorem W_ref05_Combine {I : IH} {a0 : Int} {a1 : List Edge} {p1 : Option Addr} {c2 : Nat} {Q : ((List Edge) × Int) → Prop} (R3 : RepSl eEdge I p1 c2 a1) (hd : ref05_Combine a0 a1 Q) :
  OFun prog 116 [.int .i64 a0, .slice p1 a1.length c2] I (fun I_ v l => ∃ r p4 c5, v = .tuple #[.slice p4 r.1.length c5, .int .i64 r.2] ∧ l = [OwnSl eEdge 73 p4 c5 r.1] ∧ Q r) := by
 refine Fun.enter func116 r ntmps116 r (.c (.c .n)) fun w0 M => ?_
 refine .sr (.ks 2 r (.nilS [1, 0] r r (.seq (.sr (.ks 1 r ?_)))))
 have hw13 := W_ref02_Is (I := I) hd
 refine .callP call120 r hw13 r r fun v14 hv15 => ?_
 obtain ⟨r12, rfl, hd⟩ := hv15
 refine .ks 1 r (.nilS [17, 1, 0] r r (.condP r hd (fun hb16 hd => ?_) fun hb16 hd => ?_))
 · exact .sr (.ks 2 r (.nilS [5, 4] r r (.own0 eEdge 73 (.ret (oret results116 (.t r (.t r .n)) (.refl _) (.c .z .n) ⟨(([] : List Edge), 8), _, _, r, r, hd⟩)))))
 refine .skipS [1, 0] r r (.sr (.ks 1 r (.nilS [6, 1, 0] r r (.sr (.ks 1 r (.nilS [7, 6, 1, 0] r r (.seq (.sr (.ks 1 r ?_)))))))))
 refine .nilS [8, 7, 6, 1, 0] r r (.block (.own0 eEdge 73 (.own0 eWide 144 (.loop hd (fun (s : (List Edge) × (List Wide) × Int) c w => match s with | (s2657, s2661, s2665) => ∃ I_ p2658 c2659 p2662 c2663, IH.le I I_ ∧ Ok ⟨145, [], none⟩ [(0, .int .i64 a0), (1, .slice p1 a1.length c2), (6, .slice p2658 s2657.length c2659), (7, .slice p2662 s2661.length c2663), (8, .int .i64 s2665)] c ∧ Sym w0 M I I_ [OwnSl eEdge 73 p2658 c2659 s2657, OwnSl eWide 144 p2662 c2663 s2661] w) (fun c w ho hs => ⟨I, _, _, _, _, (.refl _), ho.sub ⟨r, r, r, r, r, trivial⟩, hs.pick (.c (.s .z) (.c .z .n))⟩) ?_))))
 rintro ⟨s2657, s2661, s2665⟩ next2668 hd c w hst
 obtain ⟨I2669, p2658, c2659, p2662, c2663, hl2670, hok, hsym⟩ := hst
 replace R3 := R3.mono hl2670
 refine Cod.at hok hsym (.seq (.sr (.ks 2 r (.len underlying26 r r r r (.ks 1 r (.nilS [21, 8, 7, 6, 1, 0] r r (.condP r hd (fun hb2672 hd => ?_) fun hb2672 hd => ?_)))))))
 · refine .skipS [8, 7, 6, 1, 0] r r (.seq (.block (.sr (.ks 1 r (.nilS [9, 8, 7, 6, 1, 0] r r (.seq ?_))))))
   refine Cod.joinQ (σ := Int) hd (fun (s2821 : Int) c w => ∃ I_, IH.le I2669 I_ ∧ Ok ⟨145, [], none⟩ [(0, .int .i64 a0), (1, .slice p1 a1.length c2), (6, .slice p2658 s2657.length c2659), (7, .slice p2662 s2661.length c2663), (8, .int .i64 s2665), (9, .int .i64 s2821)] c ∧ Sym w0 M I I_ [OwnSl eEdge 73 p2658 c2659 s2657, OwnSl eWide 144 p2662 c2663 s2661] w) (fun k2822 hd => ?_) ?_
   · skip
     refine .block (.loop hd (fun (s2870 : Int) c w => ∃ I_, IH.le I2669 I_ ∧ Ok ⟨145, [], none⟩ [(0, .int .i64 a0), (1, .slice p1 a1.length c2), (6, .slice p2658 s2657.length c2659), (7, .slice p2662 s2661.length c2663), (8, .int .i64 s2665), (9, .int .i64 s2870)] c ∧ Sym w0 M I I_ [OwnSl eEdge 73 p2658 c2659 s2657, OwnSl eWide 144 p2662 c2663 s2661] w) (fun c w ho hs => ⟨I2669, (.refl _), ho.sub ⟨r, r, r, r, r, r, trivial⟩, hs.pick (.c .z (.c .z .n))⟩) ?_)
     rintro s2870 next2871 hd c w hst
     obtain ⟨I2872, hl2873, hok, hsym⟩ := hst
     have le2874 := IH.le.trans hl2670 hl2873
     replace R3 := R3.mono hl2873
     refine Cod.at hok hsym (.seq (.seq (.ownF .z fun hne2875 => ?_)))
     refine .ownF (.s .z) fun hne2876 => ?_
     refine .dr [0, 1, 2, 3, 4, 5, 6, 7, 8, 9, 10, 11, 12, 13, 14] 15 (.fk 2 r (.g r r r (fun _ => .len underlying26 r r r r .mk) (.fk 2 r ?_)))
     refine splitP hd (fun hb2877 hd => ?_) fun hb2877 hd => ?_
     · refine .g r r r (fun _ => .gyes r r hb2877 (.move r r r .mk)) (.g r r r (fun _ => .gyes r r hb2877 (.move r r r .mk)) ?_)
       obtain ⟨h2878, x2879, hx2880, hd⟩ := hd
       obtain ⟨b2881, e2882⟩ := hne2875 (idx_ne hx2880)
       cases e2882
       refine .g r r r (fun _ => .gyes r r hb2877 (.ixa0 underlying26 sizeOf73 r r h2878 (idx_lt hx2880 h2878) r r .mk)) (.g r r r (fun _ => .gyes r r hb2877 (.loA (j := 0) isAgg73 sizeOf73 .z hx2880 r r (.t (.t (.t .nil))) r r r .mk)) (.g r r r (fun _ => .gyes r r hb2877 (.move r r r .mk)) (.g r r r (fun _ => .gyes r r hb2877 (.move r r r .mk)) ?_)))
       obtain ⟨h2883, x2884, hx2885, hd⟩ := hd
       obtain ⟨b2886, o2887, cs2888, e2889, hC2890, hr2891⟩ := R3.2 _ _ hx2885
       cases hr2891
       refine .g r r r (fun _ => .gyes r r hb2877 (.ixa underlying26 sizeOf73 r e2889 r h2883 (idx_lt hx2885 h2883) r r .mk)) (.g r r r (fun _ => .gyes r r hb2877 (.ldW isAgg73 sizeOf73 hC2890 r r r r .mk)) (.ww r fun ex => ?_))
       have hw2893 := W_ref05_below (I := I2872) hd
       refine .gyes r r hb2877 (.callP call132 r hw2893 r r fun v2894 hv2895 => ?_)
       obtain ⟨r2892, rfl, hd⟩ := hv2895
       refine .so 2 r r r trivial (.g r r r (fun _ => .pickT r hb2877 r r r .mk) (.e2 15 (.nilS [38, 9, 8, 7, 6, 1, 0] r r (.condP r hd (fun hb2896 hd => ?_) fun hb2896 hd => ?_))))
       · exact .skipS [9, 8, 7, 6, 1, 0] r r (.block (.region (.ks 3 r (.nil' fun c w ho hs => ⟨(w64 (s2870 + 1)), hd, I2872, hl2873, ho.sub ⟨r, r, r, r, r, r, trivial⟩, hs.pick (.c .z (.c .z .n))⟩))))
       exact .exit fun c w ho hs => ⟨s2870, hd, I2872, hl2873, ho.sub ⟨r, r, r, r, r, r, trivial⟩, hs.pick (.c .z (.c .z .n))⟩
     refine .g r r r (fun _ => .gno r r hb2877 r r .mk) (.g r r r (fun _ => .gno r r hb2877 r r .mk) (.g r r r (fun _ => .gno r r hb2877 r r .mk) (.g r r r (fun _ => .gno r r hb2877 r r .mk) (.g r r r (fun _ => .gno r r hb2877 r r .mk) (.g r r r (fun _ => .gno r r hb2877 r r .mk) (.g r r r (fun _ => .gno r r hb2877 r r .mk) (.g r r r (fun _ => .gno r r hb2877 r r .mk) (.g r r r (fun _ => .gno r r hb2877 r r .mk) (.g r r r (fun _ => .pickF r hb2877 r r r .mk) ?_)))))))))
     exact .e2 15 (.nilS [38, 9, 8, 7, 6, 1, 0] r r (.condKF r r (.exit fun c w ho hs => ⟨s2870, hd, I2872, hl2873, ho.sub ⟨r, r, r, r, r, r, trivial⟩, hs.pick (.c .z (.c .z .n))⟩)))
   rintro s2821 hd c w hst
   obtain ⟨I2897, hl2898, hok, hsym⟩ := hst
   have le2899 := IH.le.trans hl2670 hl2898
   replace R3 := R3.mono hl2898
   refine Cod.at hok hsym (.sr (.ks 2 r ?_))
   obtain ⟨h2915, x2916, hx2917, hd⟩ := hd
   obtain ⟨b2918, o2919, cs2920, e2921, hC2922, hr2923⟩ := R3.2 _ _ hx2917
   cases hr2923
   refine .ixa underlying26 sizeOf73 r e2921 r h2915 (idx_lt hx2917 h2915) r r (.fa underlying73 r sizeOf2 r (o := o2919 + s2665.toNat * 3 + 2) r r r (.ld1 (j := 2) isAgg2 hC2922 r r r r r ?_))
   have hw2925 := W_ref01_Of (I := I2897) hd
   refine .callP call133 r hw2925 r r fun v2926 hv2927 => ?_
   obtain ⟨r2924, rfl, hd⟩ := hv2927
   refine .allocA zeroValue144 r r fun b2928 => ?_
   refine .storeA sizeOf144 r r .z (.t (.t .nil)) r r (.nilS [10, 9, 8, 7, 6, 1, 0] r r (.seq (.seq ?_)))
   refine Cod.joinQ (σ := Bool) hd (fun (s3056 : Bool) c w => ∃ I_, IH.le I2897 I_ ∧ Ok ⟨145, [], none⟩ [(0, .int .i64 a0), (1, .slice p1 a1.length c2), (6, .slice p2658 s2657.length c2659), (7, .slice p2662 s2661.length c2663), (8, .int .i64 s2665), (9, .int .i64 s2821), (10, .pointer (some ⟨b2928, 0, none⟩)), (62, .bool s3056)] c ∧ Sym w0 M I I_ [OwnSl eEdge 73 p2658 c2659 s2657, OwnSl eWide 144 p2662 c2663 s2661, pto b2928 (.cells #[.int .i64 r2924.Hi, .int .u64 r2924.Lo] 144 (0, 0))] w) (fun k3057 hd => ?_) ?_
   · skip
     refine .ownF (.s .z) fun hne3058 => ?_
     refine .ownF (.s (.s .z)) fun hne3059 => ?_
     refine .dr [0, 1, 2, 3, 4, 5, 6, 7, 8, 9, 10, 11, 12, 13, 14, 15] 16 (.fk 2 r (.g r r r (fun _ => .len underlying26 r r r r .mk) (.fk 2 r ?_)))
     refine splitP hd (fun hb3060 hd => ?_) fun hb3060 hd => ?_
     · refine .g r r r (fun _ => .gyes r r hb3060 (.move r r r .mk)) (.g r r r (fun _ => .gyes r r hb3060 (.move r r r .mk)) ?_)
       obtain ⟨h3061, x3062, hx3063, hd⟩ := hd
       obtain ⟨b3064, o3065, cs3066, e3067, hC3068, hr3069⟩ := R3.2 _ _ hx3063
       cases hr3069
       refine .g r r r (fun _ => .gyes r r hb3060 (.ixa underlying26 sizeOf73 r e3067 r h3061 (idx_lt hx3063 h3061) r r .mk)) (.g r r r (fun _ => .gyes r r hb3060 (.ldW isAgg73 sizeOf73 hC3068 r r r r .mk)) (.g r r r (fun _ => .gyes r r hb3060 (.move r r r .mk)) (.g r r r (fun _ => .gyes r r hb3060 (.move r r r .mk)) ?_)))
       obtain ⟨h3070, x3071, hx3072, hd⟩ := hd
       obtain ⟨b3073, e3074⟩ := hne3058 (idx_ne hx3072)
       cases e3074
       refine .g r r r (fun _ => .gyes r r hb3060 (.ixa0 underlying26 sizeOf73 r r h3070 (idx_lt hx3072 h3070) r r .mk)) (.g r r r (fun _ => .gyes r r hb3060 (.loA (j := 0) isAgg73 sizeOf73 (.s .z) hx3072 r r (.t (.t (.t .nil))) r r r .mk)) (.ww r fun ex => ?_))
       have hw3076 := W_ref05_below (I := I2897) hd
       refine .gyes r r hb3060 (.callP call132 r hw3076 r r fun v3077 hv3078 => ?_)
       obtain ⟨r3075, rfl, hd⟩ := hv3078
       exact .so 3 r r r trivial (.g r r r (fun _ => .gyes r r hb3060 (.not r r r .mk)) (.g r r r (fun _ => .pickT r hb3060 r r r .mk) (.e2 16 (.nil' fun c w ho hs => ⟨(!r3075), hd, I2897, (.refl _), ho.sub ⟨r, r, r, r, r, r, r, r, trivial⟩, hs.pick (.c (.s .z) (.c (.s .z) (.c .z .n)))⟩))))
     refine .g r r r (fun _ => .gno r r hb3060 r r .mk) (.g r r r (fun _ => .gno r r hb3060 r r .mk) (.g r r r (fun _ => .gno r r hb3060 r r .mk) (.g r r r (fun _ => .gno r r hb3060 r r .mk) (.g r r r (fun _ => .gno r r hb3060 r r .mk) (.g r r r (fun _ => .gno r r hb3060 r r .mk) (.g r r r (fun _ => .gno r r hb3060 r r .mk) (.g r r r (fun _ => .gno r r hb3060 r r .mk) (.g r r r (fun _ => .gno r r hb3060 r r .mk) (.g r r r (fun _ => .gno r r hb3060 r r .mk) ?_)))))))))
     exact .g r r r (fun _ => .pickF r hb3060 r r r .mk) (.e2 16 (.nil' fun c w ho hs => ⟨false, hd, I2897, (.refl _), ho.sub ⟨r, r, r, r, r, r, r, r, trivial⟩, hs.pick (.c (.s .z) (.c (.s .z) (.c .z .n)))⟩))
   rintro s3056 hd c w hst
   obtain ⟨I3079, hl3080, hok, hsym⟩ := hst
   have le3081 := IH.le.trans le2899 hl3080
   have le3082 := IH.le.trans hl2898 hl3080
   replace R3 := R3.mono hl3080
   refine Cod.at hok hsym (.condP r hd (fun hb3083 hd => ?_) fun hb3083 hd => ?_)
   · refine .seq (.ownF .z fun hne3084 => ?_)
     refine .ownF (.s .z) fun hne3085 => ?_
     refine .dr [0, 1, 2, 3, 4, 5, 6, 7, 8] 9 (.fk 5 r ?_)
     obtain ⟨h3086, x3087, hx3088, hd⟩ := hd
     obtain ⟨b3089, e3090⟩ := hne3085 (idx_ne hx3088)
     cases e3090
     refine .g r r r (fun _ => .ixa0 underlying151 sizeOf144 r r h3086 (idx_lt hx3088 h3086) r r .mk) (.g r r r (fun _ => .loA (j := 0) isAgg144 sizeOf144 (.s .z) hx3088 r r (.t (.t .nil)) r r r .mk) (.g r r r (fun _ => .loadW isAgg144 sizeOf144 r (.s (.s .z)) r r r .mk) (.ww r fun ex => ?_)))
     have hw3092 := W_ref02_Add (I := I3079) hd
     refine .callP call134 r hw3092 r r fun v3093 hv3094 => ?_
     obtain ⟨r3091, rfl, hd⟩ := hv3094
     refine .so 3 r r r (.ck 2 r r trivial) (.e2 9 ?_)
     obtain ⟨h3095, x3096, hx3097, hd⟩ := hd
     exact .ixa0 underlying151 sizeOf144 r r h3095 (idx_lt hx3097 h3095) r r (.stOA (j := 0) (v' := r3091) sizeOf144 (.s .z) hx3097 r r r (.t (.t .nil)) r r (.sub (E' := [(0, _), (1, _), (6, _), (7, .slice (some ⟨b3089, 0, none⟩) (s2661.set s2821.toNat r3091).length c2663), (8, _), (9, _), (10, _), (62, _), (63, .slice (some ⟨b3089, 0, none⟩) (s2661.set s2821.toNat r3091).length c2663), (64, _), (65, _), (66, .slice (some ⟨b3089, 0, none⟩) (s2661.set s2821.toNat r3091).length c2663), (67, _), (68, _), (69, _), (70, _), (71, _), (72, _)]) ⟨r, r, r, (by simp only [List.length_set]; rfl), r, r, r, r, (by simp only [List.length_set]; rfl), r, r, (by simp only [List.length_set]; rfl), r, r, r, r, r, r, trivial⟩ (.nilS [8, 7, 6, 1, 0] r r (.drop (.s (.s .z)) (.exitS [8, 7, 6, 1, 0] r r (.region (.ks 3 r (.nil' fun c w ho hs => ⟨(s2657, (s2661.set s2821.toNat r3091), w64 (s2665 + 1)), hd, I3079, _, _, _, _, le3081, ho.sub ⟨r, r, r, r, r, trivial⟩, hs.pick (.c .z (.c .z .n))⟩))))))))
   refine .skipS [10, 9, 8, 7, 6, 1, 0] r r (.sr (.ks 1 r (.build zeroValue73 underlying73 BI73 .n (by exact trivial) r r (.buildSlice 1 underlying26 sizeOf73 zeroValue73 r r (.c r r r .n) r r fun b3104 => ?_))))
   obtain ⟨hl3106, hd⟩ := hd
   refine .append (ys := [({ From := 0, To := 0, W := 0 } : Edge)]) 24 (.s .z) underlying26 underlying26 IN73 r r r r r r r r r (.box .z (.one r) r) hl3106 r r fun p3107 c3108 => ?_
   refine .ks 1 r (.nilS [6, 10, 9, 8, 7, 1, 0] r r (.drop (.s .z) (.sr (.ks 1 r (.build zeroValue144 underlying144 BI144 .n (by exact trivial) r r (.buildSlice 1 underlying151 sizeOf144 zeroValue144 r r (.c r r r .n) r r fun b3116 => ?_))))))
   obtain ⟨hl3118, hd⟩ := hd
   refine .append (ys := [({ Hi := 0, Lo := 0 } : Wide)]) 16 (.s (.s .z)) underlying151 underlying151 IN144 r r r r r r r r r (.box .z (.one r) r) hl3118 r r fun p3119 c3120 => ?_
   refine .ks 1 r (.nilS [7, 6, 10, 9, 8, 1, 0] r r (.drop (.s .z) (.seq (.sr (.ks 1 r (.len underlying26 r r r r (.ks 2 r (.nilS [11, 7, 6, 10, 9, 8, 1, 0] r r (.block ?_)))))))))
   refine .loop hd (fun (s : (List Edge) × (List Wide) × Int) c w => match s with | (s3281, s3285, s3289) => ∃ I_ p3282 c3283 p3286 c3287, IH.le I3079 I_ ∧ Ok ⟨145, [], none⟩ [(0, .int .i64 a0), (1, .slice p1 a1.length c2), (6, .slice p3282 s3281.length c3283), (7, .slice p3286 s3285.length c3287), (8, .int .i64 s2665), (9, .int .i64 s2821), (10, .pointer (some ⟨b2928, 0, none⟩)), (11, .int .i64 s3289)] c ∧ Sym w0 M I I_ [OwnSl eEdge 73 p3282 c3283 s3281, OwnSl eWide 144 p3286 c3287 s3285, pto b2928 (.cells #[.int .i64 r2924.Hi, .int .u64 r2924.Lo] 144 (0, 0))] w) (fun c w ho hs => ⟨I3079, _, _, _, _, (.refl _), ho.sub ⟨r, r, r, r, r, r, r, r, trivial⟩, hs.pick (.c (.s .z) (.c .z (.c .z .n)))⟩) ?_
   rintro ⟨s3281, s3285, s3289⟩ next3290 hd c w hst
   obtain ⟨I3291, p3282, c3283, p3286, c3287, hl3292, hok, hsym⟩ := hst
   have le3293 := IH.le.trans le3081 hl3292
   have le3294 := IH.le.trans le3082 hl3292
   have le3295 := IH.le.trans hl3080 hl3292
   replace R3 := R3.mono hl3292
   refine Cod.at hok hsym (.seq (.sr (.ks 3 r (.nilS [86, 11, 10, 9, 8, 7, 6, 1, 0] r r (.condP r hd (fun hb3297 hd => ?_) fun hb3297 hd => ?_)))))
   · refine .skipS [11, 10, 9, 8, 7, 6, 1, 0] r r (.seq (.block (.sr (.ks 5 r ?_))))
     obtain ⟨h3298, x3299, hx3300, hd⟩ := hd
     refine .ownNe .z (idx_ne hx3300) fun b3301 e3302 => ?_
     cases e3302
     refine .ixa0 underlying26 sizeOf73 r r h3298 (idx_lt hx3300 h3298) r r (.loA (j := 0) isAgg73 sizeOf73 .z hx3300 r r (.t (.t (.t .nil))) r r r ?_)
     obtain ⟨h3303, x3304, hx3305, hd⟩ := hd
     refine .ixa0 underlying26 sizeOf73 r r h3303 (idx_lt hx3305 h3303) r r (.stOA (j := 0) (v' := x3299) sizeOf73 .z hx3305 r r r (.t (.t (.t .nil))) r r (.sub (E' := [(0, _), (1, _), (6, .slice (some ⟨b3301, 0, none⟩) (s3281.set s3289.toNat x3299).length c3283), (7, _), (8, _), (9, _), (10, _), (11, _), (89, .slice (some ⟨b3301, 0, none⟩) (s3281.set s3289.toNat x3299).length c3283), (90, _), (91, .slice (some ⟨b3301, 0, none⟩) (s3281.set s3289.toNat x3299).length c3283), (92, _), (93, _), (94, _), (95, _), (96, _)]) ⟨r, r, (by simp only [List.length_set]; rfl), r, r, r, r, r, (by simp only [List.length_set]; rfl), r, (by simp only [List.length_set]; rfl), r, r, r, r, r, trivial⟩ (.nilS [11, 10, 9, 8, 7, 6, 1, 0] r r (.region (.ks 5 r ?_)))))
     obtain ⟨h3306, x3307, hx3308, hd⟩ := hd
     refine .ownNe (.s .z) (idx_ne hx3308) fun b3309 e3310 => ?_
     cases e3310
     refine .ixa0 underlying151 sizeOf144 r r h3306 (idx_lt hx3308 h3306) r r (.loA (j := 0) isAgg144 sizeOf144 (.s .z) hx3308 r r (.t (.t .nil)) r r r ?_)
     obtain ⟨h3311, x3312, hx3313, hd⟩ := hd
     exact .ixa0 underlying151 sizeOf144 r r h3311 (idx_lt hx3313 h3311) r r (.stOA (j := 0) (v' := x3307) sizeOf144 (.s .z) hx3313 r r r (.t (.t .nil)) r r (.sub (E' := [(0, _), (1, _), (6, _), (7, .slice (some ⟨b3309, 0, none⟩) (s3285.set s3289.toNat x3307).length c3287), (8, _), (9, _), (10, _), (11, _), (97, .slice (some ⟨b3309, 0, none⟩) (s3285.set s3289.toNat x3307).length c3287), (98, _), (99, .slice (some ⟨b3309, 0, none⟩) (s3285.set s3289.toNat x3307).length c3287), (100, _), (101, _), (102, _), (103, _), (104, _)]) ⟨r, r, r, (by simp only [List.length_set]; rfl), r, r, r, r, (by simp only [List.length_set]; rfl), r, (by simp only [List.length_set]; rfl), r, r, r, r, r, trivial⟩ (.nilS [11, 10, 9, 8, 7, 6, 1, 0] r r (.region (.ks 3 r (.nil' fun c w ho hs => ⟨((s3281.set s3289.toNat x3299), (s3285.set s3289.toNat x3307), w64 (s3289 - 1)), hd, I3291, _, _, _, _, hl3292, ho.sub ⟨r, r, r, r, r, r, r, r, trivial⟩, hs.pick (.c .z (.c .z (.c .z .n)))⟩))))))
   refine .exitS [10, 9, 8, 7, 6, 1, 0] r r (.seq (.ownF .z fun hne3314 => ?_))
   refine .ownF (.s .z) fun hne3315 => ?_
   refine .dr [0, 1, 2, 3, 4, 5, 6, 7, 8, 9, 10, 11, 12] 13 (.fk 4 r ?_)
   obtain ⟨h3316, x3317, hx3318, hd⟩ := hd
   obtain ⟨b3319, o3320, cs3321, e3322, hC3323, hr3324⟩ := R3.2 _ _ hx3318
   cases hr3324
   refine .g r r r (fun _ => .ixa underlying26 sizeOf73 r e3322 r h3316 (idx_lt hx3318 h3316) r r .mk) (.g r r r (fun _ => .fa underlying73 r sizeOf3 r (o := o3320 + s2665.toNat * 3) r r r .mk) (.g r r r (fun _ => .ld1 (j := 0) isAgg3 hC3323 r r r r r .mk) (.fk 2 r ?_)))
   obtain ⟨h3325, x3326, hx3327, hd⟩ := hd
   obtain ⟨b3328, o3329, cs3330, e3331, hC3332, hr3333⟩ := R3.2 _ _ hx3327
   cases hr3333
   refine .g r r r (fun _ => .ixa underlying26 sizeOf73 r e3331 r h3325 (idx_lt hx3327 h3325) r r .mk) (.g r r r (fun _ => .fa underlying73 r sizeOf3 r (o := o3329 + s2665.toNat * 3 + 1) r r r .mk) (.g r r r (fun _ => .ld1 (j := 1) isAgg3 hC3332 r r r r r .mk) (.g r r r (fun _ => .build zeroValue73 underlying73 BI73 (.c r r r (.t .nil) (.c r r r (.s (.t .nil)) .n)) (by exact ⟨⟨_, _, r, r, r⟩, ⟨⟨_, _, r, r, r⟩, trivial⟩⟩) r r .mk) (.e2 13 ?_))))
   obtain ⟨h3334, x3335, hx3336, hd⟩ := hd
   obtain ⟨b3337, e3338⟩ := hne3314 (idx_ne hx3336)
   cases e3338
   refine .ixa0 underlying26 sizeOf73 r r h3334 (idx_lt hx3336 h3334) r r (.stOA (j := 0) (v' := ({ From := x3317.From, To := x3326.To, W := 0 } : Edge)) sizeOf73 .z hx3336 r r r (.t (.t (.t .nil))) r r (.sub (E' := [(0, _), (1, _), (6, .slice (some ⟨b3337, 0, none⟩) (s3281.set s2821.toNat ({ From := x3317.From, To := x3326.To, W := 0 } : Edge)).length c3283), (7, _), (8, _), (9, _), (10, _), (105, .slice (some ⟨b3337, 0, none⟩) (s3281.set s2821.toNat ({ From := x3317.From, To := x3326.To, W := 0 } : Edge)).length c3283), (106, _), (107, _), (108, _), (109, _), (110, _), (111, _), (112, _), (113, _), (114, _), (115, _), (116, _), (117, _), (118, _)]) ⟨r, r, (by simp only [List.length_set]; rfl), r, r, r, r, (by simp only [List.length_set]; rfl), r, r, r, r, r, r, r, r, r, r, r, r, r, trivial⟩ (.nilS [10, 9, 8, 7, 6, 1, 0] r r (.region (.ks 2 r (.loadW isAgg144 sizeOf144 r (.s (.s .z)) r r r ?_))))))
   obtain ⟨h3339, x3340, hx3341, hd⟩ := hd
   obtain ⟨b3342, e3343⟩ := hne3315 (idx_ne hx3341)
   cases e3343
   exact .ixa0 underlying151 sizeOf144 r r h3339 (idx_lt hx3341 h3339) r r (.stOA (j := 0) (v' := r2924) sizeOf144 (.s .z) hx3341 r r r (.t (.t .nil)) r r (.sub (E' := [(0, _), (1, _), (6, _), (7, .slice (some ⟨b3342, 0, none⟩) (s3285.set s2821.toNat r2924).length c3287), (8, _), (9, _), (10, _), (119, .slice (some ⟨b3342, 0, none⟩) (s3285.set s2821.toNat r2924).length c3287), (120, _), (121, _), (122, _)]) ⟨r, r, r, (by simp only [List.length_set]; rfl), r, r, r, (by simp only [List.length_set]; rfl), r, r, r, trivial⟩ (.nilS [8, 7, 6, 1, 0] r r (.drop (.s (.s .z)) (.region (.ks 3 r (.nil' fun c w ho hs => ⟨((s3281.set s2821.toNat ({ From := x3317.From, To := x3326.To, W := 0 } : Edge)), (s3285.set s2821.toNat r2924), w64 (s2665 + 1)), hd, I3291, _, _, _, _, le3293, ho.sub ⟨r, r, r, r, r, trivial⟩, hs.pick (.c .z (.c .z .n))⟩)))))))
 refine .exitS [7, 6] r r (.seq (.sr (.ks 1 r (.nilS [12, 7, 6] r r (.block (.loop hd (fun (s : (List Edge) × Int) c w => match s with | (s3411, s3415) => ∃ I_ p3412 c3413, IH.le I2669 I_ ∧ Ok ⟨145, [], none⟩ [(6, .slice p3412 s3411.length c3413), (7, .slice p2662 s2661.length c2663), (12, .int .i64 s3415)] c ∧ Sym w0 M I I_ [OwnSl eEdge 73 p3412 c3413 s3411, OwnSl eWide 144 p2662 c2663 s2661] w) (fun c w ho hs => ⟨I2669, _, _, (.refl _), ho.sub ⟨r, r, r, trivial⟩, hs.pick (.c .z (.c .z .n))⟩) ?_))))))
 rintro ⟨s3411, s3415⟩ next3416 hd c w hst
 obtain ⟨I3417, p3412, c3413, hl3418, hok, hsym⟩ := hst
 have le3419 := IH.le.trans hl2670 hl3418
 refine Cod.at hok hsym (.seq (.sr (.ks 2 r (.len underlying26 r r r r (.ks 1 r (.nilS [126, 12, 7, 6] r r (.condP r hd (fun hb3421 hd => ?_) fun hb3421 hd => ?_)))))))
 · refine .skipS [12, 7, 6] r r (.seq (.block (.sr (.ks 2 r ?_))))
   obtain ⟨h3431, x3432, hx3433, hd⟩ := hd
   refine .ownNe (.s .z) (idx_ne hx3433) fun b3434 e3435 => ?_
   cases e3435
   refine .ixa0 underlying151 sizeOf144 r r h3431 (idx_lt hx3433 h3431) r r (.loA (j := 0) isAgg144 sizeOf144 (.s .z) hx3433 r r (.t (.t .nil)) r r r ?_)
   have hw3437 := W_ref01_Narrow (I := I3417) hd
   refine .callP call135 r hw3437 r r fun v3438 hv3439 => ?_
   obtain ⟨r3436, rfl, hd⟩ := hv3439
   refine .ks 5 r (.nilS [14, 13, 12, 7, 6] r r (.seq (.sr (.ks 2 r (.nilS [138, 13, 12, 7, 6] r r (.condP r hd (fun hb3440 hd => ?_) fun hb3440 hd => ?_))))))
   · exact .sr (.ks 2 r (.nilS [5, 4] r r (.drop .z (.drop .z (.own0 eEdge 73 (.ret (oret results116 (.t r (.t r .n)) le3419 (.c .z .n) ⟨(([] : List Edge), 12), _, _, r, r, hd⟩)))))))
   refine .skipS [13, 12, 7, 6] r r (.region (.ks 3 r ?_))
   obtain ⟨h3442, x3443, hx3444, hd⟩ := hd
   refine .ownNe .z (idx_ne hx3444) fun b3445 e3446 => ?_
   cases e3446
   exact .ixa0 underlying26 sizeOf73 r r h3442 (idx_lt hx3444 h3442) r r (.fa underlying73 r sizeOf2 r (o := s3415.toNat * 3 + 2) r r r (.stO1 (j := 2) (v' := ({ From := x3443.From, To := x3443.To, W := r3436.1 } : Edge)) sizeOf2 .z hx3444 r r r (.s (.s (.t .nil))) r (.sub (E' := [(6, .slice (some ⟨b3445, 0, none⟩) (s3411.set s3415.toNat ({ From := x3443.From, To := x3443.To, W := r3436.1 } : Edge)).length c3413), (7, _), (12, _), (13, _), (139, .slice (some ⟨b3445, 0, none⟩) (s3411.set s3415.toNat ({ From := x3443.From, To := x3443.To, W := r3436.1 } : Edge)).length c3413), (140, _), (141, _), (142, _), (143, _)]) ⟨(by simp only [List.length_set]; rfl), r, r, r, (by simp only [List.length_set]; rfl), r, r, r, r, trivial⟩ (.nilS [12, 7, 6] r r (.region (.ks 3 r (.nil' fun c w ho hs => ⟨((s3411.set s3415.toNat ({ From := x3443.From, To := x3443.To, W := r3436.1 } : Edge)), w64 (s3415 + 1)), hd, I3417, _, _, hl3418, ho.sub ⟨r, r, r, trivial⟩, hs.pick (.c .z (.c .z .n))⟩)))))))
 exact .exitS [6] r r (.drop (.s .z) (.sr (.ks 3 r (.nilS [5, 4] r r (.ret (oret results116 (.t r (.t r .n)) le3419 (.c .z .n) ⟨(s3411, 0), _, _, r, r, hd⟩))))))

theorem W_ref05_Canon {I : IH} {a0 : Graph} {p1 : Option Addr} {c2 : Nat} {Q : Graph → Prop} (R3 : RepSl eEdge I p1 c2 a0.Edges) (hd : ref05_Canon a0 Q) :
  OFun prog 91 [.agg #[.int .i64 a0.N, .slice p1 a0.Edges.length c2]] I (fun _ => o15_ Q) := by
 refine Fun.enter func91 r ntmps91 r (.c .n) fun w0 M => ?_
 refine .sr (.boxA r r r fun b11 => ?_)
 refine .allocA zeroValue28 r r fun b13 => ?_
 refine .nilS [2, 1] r r (.sr (.fa underlying28 r sizeOf26 r (o := 1) r r r (.load1 isAgg26 r (.s .z) r r r ?_)))
 have hw25 := W_ref05_Combine (I := I) R3 hd
 refine .callO call116 r hw25 r r fun v19 I16 l20 hl17 hv18 => ?_
 obtain ⟨r15, p21, c22, rfl, rfl, hd⟩ := hv18
 replace R3 := R3.mono hl17
 refine .ks 5 r (.nilS [3, 2, 1] r r (.sr (.fa underlying28 r sizeOf3 r (o := 0) r r r (.load1 isAgg3 r (.s (.s .z)) r r r (.ks 1 r (.build zeroValue28 underlying28 BI28 (.c r r r (.t .nil) (.c r r r (.s (.t .nil)) .n)) (by exact ⟨⟨_, _, r, r, r⟩, ⟨⟨_, _, r, r, r⟩, trivial⟩⟩) r r (.storeA sizeOf28 r r (.s .z) (.t (.t .nil)) r r (.nilS [2] r r (.drop (.s (.s .z)) ?_)))))))))
 exact .ret (oret results91 (.w isAgg28 sizeOf28 r (.s .z) r .n) hl17 (.c .z .n) ⟨({ N := a0.N, Edges := r15.1 } : Graph), _, _, r, r, hd⟩)

theorem W_ref05_Plain {I : IH} {a0 : Graph} {p1 : Option Addr} {c2 : Nat} {Q : Graph → Prop} (R3 : RepSl eEdge I p1 c2 a0.Edges) (hd : ref05_Plain a0 Q) :
  PFun prog 44 [.agg #[.int .i64 a0.N, .slice p1 a0.Edges.length c2]] I (o5_ Q) := by
 refine Fun.enter func44 r ntmps44 r (.c .n) fun w0 M => ?_
 refine .sr (.boxA r r r fun b11 => ?_)
 refine .allocA zeroValue28 r r fun b13 => ?_
 refine .nilS [2, 1] r r (.sr (.fa underlying28 r sizeOf3 r (o := 0) r r r (.load1 isAgg3 r (.s .z) r r r (.build zeroValue28 underlying28 BI28 (.c r r r (.t .nil) .n) (by exact ⟨⟨_, _, r, r, r⟩, trivial⟩) r r (.allocA zeroValue28 r r fun b17 => ?_)))))
 refine .storeA sizeOf28 r r .z (.t (.t .nil)) r r (.nilS [3, 2, 1] r r (.seq (.sr (.ks 1 r (.nilS [4, 3, 2, 1] r r (.block (.own0 eEdge 73 (.loop hd (fun (s : (List Edge) × Int) c w => match s with | (s88, s92) => ∃ I_ p89 c90, IH.le I I_ ∧ Ok ⟨35, [], none⟩ [(1, .pointer (some ⟨b11, 0, none⟩)), (2, .pointer (some ⟨b13, 0, none⟩)), (3, .pointer (some ⟨b17, 0, none⟩)), (4, .int .i64 s92)] c ∧ Sym w0 M I I_ [pto b11 (.cells #[.int .i64 a0.N, .slice p1 a0.Edges.length c2] 28 (0, 0)), pto b13 (.cells #[.int .i64 0, .slice none 0 0] 28 (0, 0)), pto b17 (.cells #[.int .i64 a0.N, .slice p89 s88.length c90] 28 (0, 0)), OwnSl eEdge 73 p89 c90 s88] w) (fun c w ho hs => ⟨I, _, _, (.refl _), ho.sub ⟨r, r, r, r, trivial⟩, hs.pick (.c (.s (.s (.s .z))) (.c (.s (.s .z)) (.c (.s .z) (.c .z .n))))⟩) ?_))))))))
 rintro ⟨s88, s92⟩ next94 hd c w hst
 obtain ⟨I95, p89, c90, hl96, hok, hsym⟩ := hst
 replace R3 := R3.mono hl96
 refine Cod.at hok hsym (.seq (.sr (.ks 1 r (.fa underlying28 r sizeOf26 r (o := 1) r r r (.load1 isAgg26 r .z r r r (.len underlying26 r r r r (.ks 1 r (.nilS [12, 4, 3, 2, 1] r r (.condP r hd (fun hb98 hd => ?_) fun hb98 hd => ?_)))))))))
 · refine .skipS [4, 3, 2, 1] r r (.seq (.block (.ownF (.s (.s (.s .z))) fun hne99 => ?_)))
   refine .dr [0, 1, 2, 3, 4, 5, 6, 7, 8, 9, 10, 11, 12, 13, 14, 15, 16] 17 (.g r r r (fun _ => .fa underlying28 r sizeOf26 r (o := 1) r r r .mk) (.g r r r (fun _ => .load1 isAgg26 r (.s (.s .z)) r r r .mk) (.g r r r (fun _ => .fa underlying28 r sizeOf26 r (o := 1) r r r .mk) (.g r r r (fun _ => .load1 isAgg26 r .z r r r .mk) (.fk 1 r ?_)))))
   obtain ⟨h100, x101, hx102, hd⟩ := hd
   obtain ⟨b103, o104, cs105, e106, hC107, hr108⟩ := R3.2 _ _ hx102
   cases hr108
   refine .g r r r (fun _ => .ixa underlying26 sizeOf73 r e106 r h100 (idx_lt hx102 h100) r r .mk) (.g r r r (fun _ => .fa underlying73 r sizeOf3 r (o := o104 + s92.toNat * 3) r r r .mk) (.g r r r (fun _ => .ld1 (j := 0) isAgg3 hC107 r r r r r .mk) (.g r r r (fun _ => .fa underlying28 r sizeOf26 r (o := 1) r r r .mk) (.g r r r (fun _ => .load1 isAgg26 r .z r r r .mk) (.fk 1 r ?_)))))
   obtain ⟨h109, x110, hx111, hd⟩ := hd
   obtain ⟨b112, o113, cs114, e115, hC116, hr117⟩ := R3.2 _ _ hx111
   cases hr117
   refine .g r r r (fun _ => .ixa underlying26 sizeOf73 r e115 r h109 (idx_lt hx111 h109) r r .mk) (.g r r r (fun _ => .fa underlying73 r sizeOf3 r (o := o113 + s92.toNat * 3 + 1) r r r .mk) (.g r r r (fun _ => .ld1 (j := 1) isAgg3 hC116 r r r r r .mk) (.g r r r (fun _ => .build zeroValue73 underlying73 BI73 (.c r r r (.t .nil) (.c r r r (.s (.t .nil)) (.c r r r (.s (.s (.t .nil))) .n))) (by exact ⟨⟨_, _, r, r, r⟩, ⟨⟨_, _, r, r, r⟩, ⟨⟨_, _, r, r, r⟩, trivial⟩⟩⟩) r r .mk) (.ww r fun ex => ?_))))
   refine .buildSlice 1 underlying26 sizeOf73 zeroValue73 r r (.c r r r .n) r r fun b118 => ?_
   refine .so 5 r r r (.cg r r r r (fun _ => .load1 isAgg26 r (.s (.s (.s .z))) r r r .mk) (.cg r r r r (fun _ => .fa underlying28 r sizeOf26 r (o := 1) r r r .mk) trivial)) (.ww r fun ex => ?_)
   obtain ⟨hl120, hd⟩ := hd
   refine .append (ys := [({ From := x101.From, To := x110.To, W := 1 } : Edge)]) 24 (.s (.s (.s (.s .z)))) underlying26 underlying26 IN73 r r r r r r r r r (.box .z (.one r) r) hl120 r r fun p121 c122 => ?_
   exact .so 5 r r r trivial (.e2 17 (.fa underlying28 r sizeOf26 r (o := 1) r r r (.store1 sizeOf26 r r (.s (.s (.s (.s .z)))) (.s (.t .nil)) r (.nilS [4, 3, 2, 1] r r (.drop (.s .z) (.region (.ks 3 r (.nil' fun c w ho hs => ⟨((s88 ++ ([({ From := x101.From, To := x110.To, W := 1 } : Edge)])), w64 (s92 + 1)), hd, I95, _, _, hl96, ho.sub ⟨r, r, r, r, trivial⟩, hs.pick (.c (.s .z) (.c (.s .z) (.c (.s .z) (.c .z .n))))⟩))))))))
 refine .exitS [3, 2] r r (.drop .z (.sr (.loadW isAgg28 sizeOf28 r (.s .z) r r r (.pub (.s (.s .z)) fun I124 hl125 R126 => ?_))))
 have le127 := IH.le.trans hl96 hl125
 have hw138 := W_ref05_Canon (I := I124) (a0 := ({ N := a0.N, Edges := s88 } : Graph)) R126 hd
 refine .callO call91 r hw138 r r fun v132 I129 l133 hl130 hv131 => ?_
 obtain ⟨r128, p134, c135, rfl, rfl, hd⟩ := hv131
 have le139 := IH.le.trans le127 hl130
 replace R126 := R126.mono hl130
 refine .storeA sizeOf28 r r (.s .z) (.t (.t .nil)) r r (.nilS [2] r r (.drop (.s (.s .z)) (.pub .z fun I140 hl141 R142 => ?_)))
 have le143 := IH.le.trans le139 hl141
 exact .ret (pret results44 (.w isAgg28 sizeOf28 r .z r .n) le143 ⟨r128, _, _, r, R142, hd⟩)

theorem W_ref05_Turn {I : IH} {a0 : Graph} {p1 : Option Addr} {c2 : Nat} {Q : Graph → Prop} (R3 : RepSl eEdge I p1 c2 a0.Edges) (hd : ref05_Turn a0 Q) :
  OFun prog 92 [.agg #[.int .i64 a0.N, .slice p1 a0.Edges.length c2]] I (fun _ => o15_ Q) := by
 refine Fun.enter func92 r ntmps92 r (.c .n) fun w0 M => ?_
 refine .sr (.boxA r r r fun b11 => ?_)
 refine .allocA zeroValue28 r r fun b13 => ?_
 refine .nilS [2, 1] r r (.sr (.fa underlying28 r sizeOf3 r (o := 0) r r r (.load1 isAgg3 r (.s .z) r r r (.build zeroValue28 underlying28 BI28 (.c r r r (.t .nil) .n) (by exact ⟨⟨_, _, r, r, r⟩, trivial⟩) r r (.allocA zeroValue28 r r fun b17 => ?_)))))
 refine .storeA sizeOf28 r r .z (.t (.t .nil)) r r (.nilS [3, 2, 1] r r (.seq (.sr (.ks 1 r (.nilS [4, 3, 2, 1] r r (.block (.own0 eEdge 73 (.loop hd (fun (s : (List Edge) × Int) c w => match s with | (s95, s99) => ∃ I_ p96 c97, IH.le I I_ ∧ Ok ⟨35, [], none⟩ [(1, .pointer (some ⟨b11, 0, none⟩)), (2, .pointer (some ⟨b13, 0, none⟩)), (3, .pointer (some ⟨b17, 0, none⟩)), (4, .int .i64 s99)] c ∧ Sym w0 M I I_ [pto b11 (.cells #[.int .i64 a0.N, .slice p1 a0.Edges.length c2] 28 (0, 0)), pto b13 (.cells #[.int .i64 0, .slice none 0 0] 28 (0, 0)), pto b17 (.cells #[.int .i64 a0.N, .slice p96 s95.length c97] 28 (0, 0)), OwnSl eEdge 73 p96 c97 s95] w) (fun c w ho hs => ⟨I, _, _, (.refl _), ho.sub ⟨r, r, r, r, trivial⟩, hs.pick (.c (.s (.s (.s .z))) (.c (.s (.s .z)) (.c (.s .z) (.c .z .n))))⟩) ?_))))))))
 rintro ⟨s95, s99⟩ next101 hd c w hst
 obtain ⟨I102, p96, c97, hl103, hok, hsym⟩ := hst
 replace R3 := R3.mono hl103
 refine Cod.at hok hsym (.seq (.sr (.ks 1 r (.fa underlying28 r sizeOf26 r (o := 1) r r r (.load1 isAgg26 r .z r r r (.len underlying26 r r r r (.ks 1 r (.nilS [13, 4, 3, 2, 1] r r (.condP r hd (fun hb105 hd => ?_) fun hb105 hd => ?_)))))))))
 · refine .skipS [4, 3, 2, 1] r r (.seq (.block (.sr (.fa underlying28 r sizeOf26 r (o := 1) r r r (.load1 isAgg26 r .z r r r (.ks 1 r ?_))))))
   obtain ⟨h117, x118, hx119, hd⟩ := hd
   obtain ⟨b120, o121, cs122, e123, hC124, hr125⟩ := R3.2 _ _ hx119
   cases hr125
   refine .ixa underlying26 sizeOf73 r e123 r h117 (idx_lt hx119 h117) r r (.ldW isAgg73 sizeOf73 hC124 r r r r (.allocA zeroValue73 r r fun b126 => ?_))
   refine .storeA sizeOf73 r r .z (.t (.t (.t .nil))) r r (.nilS [5, 4, 3, 2, 1] r r (.region (.fa underlying28 r sizeOf26 r (o := 1) r r r (.load1 isAgg26 r (.s (.s (.s .z))) r r r (.fa underlying73 r sizeOf3 r (o := 1) r r r (.load1 isAgg3 r .z r r r (.fa underlying73 r sizeOf3 r (o := 0) r r r (.load1 isAgg3 r .z r r r (.fa underlying73 r sizeOf2 r (o := 2) r r r ?_)))))))))
   refine .load1 isAgg2 r .z r r r (.build zeroValue73 underlying73 BI73 (.c r r r (.t .nil) (.c r r r (.s (.t .nil)) (.c r r r (.s (.s (.t .nil))) .n))) (by exact ⟨⟨_, _, r, r, r⟩, ⟨⟨_, _, r, r, r⟩, ⟨⟨_, _, r, r, r⟩, trivial⟩⟩⟩) r r (.buildSlice 1 underlying26 sizeOf73 zeroValue73 r r (.c r r r .n) r r fun b128 => ?_))
   obtain ⟨hl130, hd⟩ := hd
   refine .append (ys := [({ From := x118.To, To := x118.From, W := x118.W } : Edge)]) 24 (.s (.s (.s (.s (.s .z))))) underlying26 underlying26 IN73 r r r r r r r r r (.box .z (.one r) r) hl130 r r fun p131 c132 => ?_
   exact .fa underlying28 r sizeOf26 r (o := 1) r r r (.store1 sizeOf26 r r (.s (.s (.s (.s (.s .z))))) (.s (.t .nil)) r (.nilS [4, 3, 2, 1] r r (.drop (.s .z) (.drop (.s .z) (.region (.ks 3 r (.nil' fun c w ho hs => ⟨((s95 ++ ([({ From := x118.To, To := x118.From, W := x118.W } : Edge)])), w64 (s99 + 1)), hd, I102, _, _, hl103, ho.sub ⟨r, r, r, r, trivial⟩, hs.pick (.c (.s .z) (.c (.s .z) (.c (.s .z) (.c .z .n))))⟩)))))))
 refine .exitS [3, 2] r r (.drop .z (.sr (.loadW isAgg28 sizeOf28 r (.s .z) r r r (.pub (.s (.s .z)) fun I134 hl135 R136 => ?_))))
 have le137 := IH.le.trans hl103 hl135
 have hw148 := W_ref05_Canon (I := I134) (a0 := ({ N := a0.N, Edges := s95 } : Graph)) R136 hd
 refine .callO call91 r hw148 r r fun v142 I139 l143 hl140 hv141 => ?_
 obtain ⟨r138, p144, c145, rfl, rfl, hd⟩ := hv141
 have le149 := IH.le.trans le137 hl140
 replace R136 := R136.mono hl140
 exact .storeA sizeOf28 r r (.s .z) (.t (.t .nil)) r r (.nilS [2] r r (.drop (.s (.s .z)) (.ret (oret results92 (.w isAgg28 sizeOf28 r (.s .z) r .n) le149 (.c .z .n) ⟨r138, _, _, r, r, hd⟩))))

theorem W_ref05_Both {I : IH} {a0 : Graph} {p1 : Option Addr} {c2 : Nat} {Q : Graph → Prop} (R3 : RepSl eEdge I p1 c2 a0.Edges) (hd : ref05_Both a0 Q) :
  PFun prog 45 [.agg #[.int .i64 a0.N, .slice p1 a0.Edges.length c2]] I (o5_ Q) := by
 refine Fun.enter func45 r ntmps45 r (.c .n) fun w0 M => ?_
 refine .sr (.boxA r r r fun b11 => ?_)
 refine .allocA zeroValue28 r r fun b13 => ?_
 refine .nilS [2, 1] r r (.sr (.loadW isAgg28 sizeOf28 r (.s .z) r r r ?_))
 have hw38 := W_ref05_Turn (I := I) R3 hd
 refine .callO call92 r hw38 r r fun v32 I29 l33 hl30 hv31 => ?_
 obtain ⟨r28, p34, c35, rfl, rfl, hd⟩ := hv31
 replace R3 := R3.mono hl30
 refine .allocA zeroValue28 r r fun b39 => ?_
 refine .storeA sizeOf28 r r .z (.t (.t .nil)) r r (.nilS [3, 2, 1] r r (.sr (.fa underlying28 r sizeOf26 r (o := 1) r r r (.load1 isAgg26 r .z r r r (.fa underlying28 r sizeOf26 r (o := 1) r r r (.load1 isAgg26 r (.s (.s (.s .z))) r r r ?_))))))
 obtain ⟨hl41, hd⟩ := hd
 refine .append (ys := a0.Edges) 24 (.s .z) underlying26 underlying26 IN73 r r r r r r r r r (.imm R3 r) hl41 r r fun p42 c43 => ?_
 refine .fa underlying28 r sizeOf26 r (o := 1) r r r (.store1 sizeOf26 r r (.s .z) (.s (.t .nil)) r (.nilS [3, 2] r r (.drop (.s (.s (.s .z))) (.sr (.loadW isAgg28 sizeOf28 r (.s .z) r r r (.pub .z fun I45 hl46 R47 => ?_))))))
 have le48 := IH.le.trans hl30 hl46
 have hw59 := W_ref05_Canon (I := I45) (a0 := ({ N := r28.N, Edges := (r28.Edges ++ a0.Edges) } : Graph)) R47 hd
 refine .callO call91 r hw59 r r fun v53 I50 l54 hl51 hv52 => ?_
 obtain ⟨r49, p55, c56, rfl, rfl, hd⟩ := hv52
 have le60 := IH.le.trans le48 hl51
 replace R47 := R47.mono hl51
 refine .storeA sizeOf28 r r (.s (.s .z)) (.t (.t .nil)) r r (.nilS [2] r r (.drop (.s .z) (.pub .z fun I61 hl62 R63 => ?_)))
 have le64 := IH.le.trans le60 hl62
 exact .ret (pret results45 (.w isAgg28 sizeOf28 r .z r .n) le64 ⟨r49, _, _, r, R63, hd⟩)

theorem W_ref05_Simple {I : IH} {a0 : Graph} {p1 : Option Addr} {c2 : Nat} {Q : Graph → Prop} (R3 : RepSl eEdge I p1 c2 a0.Edges) (hd : ref05_Simple a0 Q) :
  PFun prog 46 [.agg #[.int .i64 a0.N, .slice p1 a0.Edges.length c2]] I (o5_ Q) := by
 refine Fun.enter func46 r ntmps46 r (.c .n) fun w0 M => ?_
 refine .sr (.boxA r r r fun b11 => ?_)
 refine .allocA zeroValue28 r r fun b13 => ?_
 refine .nilS [2, 1] r r (.sr (.fa underlying28 r sizeOf3 r (o := 0) r r r (.load1 isAgg3 r (.s .z) r r r (.build zeroValue28 underlying28 BI28 (.c r r r (.t .nil) .n) (by exact ⟨⟨_, _, r, r, r⟩, trivial⟩) r r (.allocA zeroValue28 r r fun b17 => ?_)))))
 refine .storeA sizeOf28 r r .z (.t (.t .nil)) r r (.nilS [3, 2, 1] r r (.seq (.sr (.ks 1 r (.nilS [4, 3, 2, 1] r r (.block (.own0 eEdge 73 (.loop hd (fun (s : (List Edge) × Int) c w => match s with | (s146, s150) => ∃ I_ p147 c148, IH.le I I_ ∧ Ok ⟨40, [], none⟩ [(1, .pointer (some ⟨b11, 0, none⟩)), (2, .pointer (some ⟨b13, 0, none⟩)), (3, .pointer (some ⟨b17, 0, none⟩)), (4, .int .i64 s150)] c ∧ Sym w0 M I I_ [pto b11 (.cells #[.int .i64 a0.N, .slice p1 a0.Edges.length c2] 28 (0, 0)), pto b13 (.cells #[.int .i64 0, .slice none 0 0] 28 (0, 0)), pto b17 (.cells #[.int .i64 a0.N, .slice p147 s146.length c148] 28 (0, 0)), OwnSl eEdge 73 p147 c148 s146] w) (fun c w ho hs => ⟨I, _, _, (.refl _), ho.sub ⟨r, r, r, r, trivial⟩, hs.pick (.c (.s (.s (.s .z))) (.c (.s (.s .z)) (.c (.s .z) (.c .z .n))))⟩) ?_))))))))
 rintro ⟨s146, s150⟩ next152 hd c w hst
 obtain ⟨I153, p147, c148, hl154, hok, hsym⟩ := hst
 replace R3 := R3.mono hl154
 refine Cod.at hok hsym (.seq (.sr (.ks 1 r (.fa underlying28 r sizeOf26 r (o := 1) r r r (.load1 isAgg26 r .z r r r (.len underlying26 r r r r (.ks 1 r (.nilS [12, 4, 3, 2, 1] r r (.condP r hd (fun hb156 hd => ?_) fun hb156 hd => ?_)))))))))
 · refine .skipS [4, 3, 2, 1] r r (.seq (.block (.seq (.ownF (.s (.s (.s .z))) fun hne176 => ?_))))
   refine .dr [0, 1, 2, 3, 4, 5, 6, 7, 8, 9, 10, 11, 12] 13 (.g r r r (fun _ => .fa underlying28 r sizeOf26 r (o := 1) r r r .mk) (.g r r r (fun _ => .load1 isAgg26 r .z r r r .mk) (.fk 1 r ?_)))
   obtain ⟨h177, x178, hx179, hd⟩ := hd
   obtain ⟨b180, o181, cs182, e183, hC184, hr185⟩ := R3.2 _ _ hx179
   cases hr185
   refine .g r r r (fun _ => .ixa underlying26 sizeOf73 r e183 r h177 (idx_lt hx179 h177) r r .mk) (.g r r r (fun _ => .fa underlying73 r sizeOf3 r (o := o181 + s150.toNat * 3) r r r .mk) (.g r r r (fun _ => .ld1 (j := 0) isAgg3 hC184 r r r r r .mk) (.g r r r (fun _ => .fa underlying28 r sizeOf26 r (o := 1) r r r .mk) (.g r r r (fun _ => .load1 isAgg26 r .z r r r .mk) (.fk 1 r ?_)))))
   obtain ⟨h186, x187, hx188, hd⟩ := hd
   obtain ⟨b189, o190, cs191, e192, hC193, hr194⟩ := R3.2 _ _ hx188
   cases hr194
   refine .g r r r (fun _ => .ixa underlying26 sizeOf73 r e192 r h186 (idx_lt hx188 h186) r r .mk) (.g r r r (fun _ => .fa underlying73 r sizeOf3 r (o := o190 + s150.toNat * 3 + 1) r r r .mk) (.g r r r (fun _ => .ld1 (j := 1) isAgg3 hC193 r r r r r .mk) (.fk 1 r (.e2 13 (.nilS [27, 4, 3, 2, 1] r r (.condP r hd (fun hb195 hd => ?_) fun hb195 hd => ?_))))))
   · refine .ownF (.s (.s (.s .z))) fun hne196 => ?_
     refine .dr [0, 1, 2, 3, 4, 5, 6, 7, 8] 9 (.g r r r (fun _ => .fa underlying28 r sizeOf26 r (o := 1) r r r .mk) (.g r r r (fun _ => .load1 isAgg26 r (.s (.s .z)) r r r .mk) (.g r r r (fun _ => .fa underlying28 r sizeOf26 r (o := 1) r r r .mk) (.g r r r (fun _ => .load1 isAgg26 r .z r r r .mk) (.fk 1 r ?_)))))
     obtain ⟨h197, x198, hx199, hd⟩ := hd
     obtain ⟨b200, o201, cs202, e203, hC204, hr205⟩ := R3.2 _ _ hx199
     cases hr205
     refine .g r r r (fun _ => .ixa underlying26 sizeOf73 r e203 r h197 (idx_lt hx199 h197) r r .mk) (.g r r r (fun _ => .ldW isAgg73 sizeOf73 hC204 r r r r .mk) (.ww r fun ex => ?_))
     refine .buildSlice 1 underlying26 sizeOf73 zeroValue73 r r (.c r r r .n) r r fun b206 => ?_
     refine .so 5 r r r (.cg r r r r (fun _ => .load1 isAgg26 r (.s (.s (.s .z))) r r r .mk) (.cg r r r r (fun _ => .fa underlying28 r sizeOf26 r (o := 1) r r r .mk) trivial)) (.ww r fun ex => ?_)
     obtain ⟨hl208, hd⟩ := hd
     refine .append (ys := [x198]) 24 (.s (.s (.s (.s .z)))) underlying26 underlying26 IN73 r r r r r r r r r (.box .z (.one r) r) hl208 r r fun p209 c210 => ?_
     exact .so 5 r r r trivial (.e2 9 (.fa underlying28 r sizeOf26 r (o := 1) r r r (.store1 sizeOf26 r r (.s (.s (.s (.s .z)))) (.s (.t .nil)) r (.nilS [4, 3, 2, 1] r r (.drop (.s .z) (.region (.ks 3 r (.nil' fun c w ho hs => ⟨((s146 ++ ([x198])), w64 (s150 + 1)), hd, I153, _, _, hl154, ho.sub ⟨r, r, r, r, trivial⟩, hs.pick (.c (.s .z) (.c (.s .z) (.c (.s .z) (.c .z .n))))⟩))))))))
   exact .skipS [4, 3, 2, 1] r r (.region (.ks 3 r (.nil' fun c w ho hs => ⟨(s146, w64 (s150 + 1)), hd, I153, _, _, hl154, ho.sub ⟨r, r, r, r, trivial⟩, hs.pick (.c .z (.c .z (.c .z (.c .z .n))))⟩)))
 refine .exitS [3, 2] r r (.drop .z (.sr (.loadW isAgg28 sizeOf28 r (.s .z) r r r (.pub (.s (.s .z)) fun I212 hl213 R214 => ?_))))
 have le215 := IH.le.trans hl154 hl213
 have hw226 := W_ref05_Canon (I := I212) (a0 := ({ N := a0.N, Edges := s146 } : Graph)) R214 hd
 refine .callO call91 r hw226 r r fun v220 I217 l221 hl218 hv219 => ?_
 obtain ⟨r216, p222, c223, rfl, rfl, hd⟩ := hv219
 have le227 := IH.le.trans le215 hl218
 replace R214 := R214.mono hl218
 refine .storeA sizeOf28 r r (.s .z) (.t (.t .nil)) r r (.nilS [2] r r (.drop (.s (.s .z)) (.pub .z fun I228 hl229 R230 => ?_)))
 have le231 := IH.le.trans le227 hl229
 exact .ret (pret results46 (.w isAgg28 sizeOf28 r .z r .n) le231 ⟨r216, _, _, r, R230, hd⟩)

theorem W_ref07_Empty {I : IH} {a0 : Int} {a1 : Int} {Q : Rows → Prop}  (hd : ref07_Empty a0 a1 Q) :
  OFun prog 117 [.int .i64 a0, .int .i64 a1] I (fun _ => o7_ Q) := by
 refine Fun.enter func117 r ntmps117 r (.c (.c .n)) fun w0 M => ?_
 refine .sr (.allocA zeroValue32 r r fun b10 => ?_)
 refine .nilS [4, 1, 0] r r (.sr (.ks 4 r ?_))
 obtain ⟨h12, h13, hd⟩ := hd
 refine .make (El := eI64) (zv := 0) 8 underlying30 IN3 r r r r r r h12 h13 r r r fun b14 => ?_
 exact .build zeroValue32 underlying32 BI32 (.c r r r (.t .nil) (.c r r r (.s (.t .nil)) (.c r r r (.s (.s (.t .nil))) .n))) (by exact ⟨⟨_, _, r, r, r⟩, ⟨⟨_, _, r, r, r⟩, ⟨⟨_, _, r, r, r⟩, trivial⟩⟩⟩) r r (.storeA sizeOf32 r r (.s .z) (.t (.t (.t (.t (.t .nil))))) r r (.nilS [4] r r (.own0 eI64 3 (.own0 eI64 2 (.ret (oret results117 (.w isAgg32 sizeOf32 r (.s (.s (.s .z))) r .n) (.refl _) (.c (.s (.s .z)) (.c (.s .z) (.c .z .n))) ⟨({ Rows := a0, Cols := a1, Start := (List.replicate (w64 (a0 + 1)).toNat 0), Col := ([] : List Int), Val := ([] : List Int) } : Rows), _, _, _, _, _, _, r, r, hd⟩))))))

theorem W_ref07_built {I : IH} {a0 : Int} {a1 : Int} {a2 : List Triple} {p1 : Option Addr} {c2 : Nat} {Q : Rows → Prop} (R3 : RepSl eTriple I p1 c2 a2) (hd : ref07_built a0 a1 a2 Q) :
  PFun prog 93 [.int .i64 a0, .int .i64 a1, .slice p1 a2.length c2] I (o8_ Q) := by
 refine Fun.enter func93 r ntmps93 r (.c (.c (.c .n))) fun w0 M => ?_
 refine .sr (.allocA zeroValue32 r r fun b15 => ?_)
 refine .nilS [6, 2, 1, 0] r r (.sr (.ks 2 r ?_))
 have hw56 := W_ref07_Empty (I := I) hd
 refine .callO call117 r hw56 r r fun v42 I39 l43 hl40 hv41 => ?_
 obtain ⟨r38, p44, c45, p47, c48, p50, c51, rfl, rfl, hd⟩ := hv41
 replace R3 := R3.mono hl40
 refine .allocA zeroValue32 r r fun b57 => ?_
 refine .storeA sizeOf32 r r .z (.t (.t (.t (.t (.t .nil))))) r r (.nilS [7, 6, 2, 0] r r (.seq (.sr (.ks 1 r (.nilS [8, 7, 6, 2, 0] r r (.block (.loop hd (fun (s : (List Int) × (List Int) × (List Int) × Int) c w => match s with | (s390, s394, s398, s402) => ∃ I_ p391 c392 p395 c396 p399 c400, IH.le I39 I_ ∧ Ok ⟨58, [], none⟩ [(0, .int .i64 a0), (2, .slice p1 a2.length c2), (6, .pointer (some ⟨b15, 0, none⟩)), (7, .pointer (some ⟨b57, 0, none⟩)), (8, .int .i64 s402)] c ∧ Sym w0 M I I_ [pto b15 (.cells #[.int .i64 0, .int .i64 0, .slice none 0 0, .slice none 0 0, .slice none 0 0] 32 (0, 0)), pto b57 (.cells #[.int .i64 r38.Rows, .int .i64 r38.Cols, .slice p391 s390.length c392, .slice p395 s394.length c396, .slice p399 s398.length c400] 32 (0, 0)), OwnSl eI64 3 p391 c392 s390, OwnSl eI64 3 p395 c396 s394, OwnSl eI64 2 p399 c400 s398] w) (fun c w ho hs => ⟨I39, _, _, _, _, _, _, (.refl _), ho.sub ⟨r, r, r, r, r, trivial⟩, hs.pick (.c (.s (.s (.s (.s .z)))) (.c .z (.c .z (.c .z (.c .z .n)))))⟩) ?_)))))))
 rintro ⟨s390, s394, s398, s402⟩ next403 hd c w hst
 obtain ⟨I404, p391, c392, p395, c396, p399, c400, hl405, hok, hsym⟩ := hst
 have le406 := IH.le.trans hl40 hl405
 replace R3 := R3.mono hl405
 refine Cod.at hok hsym (.seq (.sr (.ks 2 r (.len underlying113 r r r r (.ks 1 r (.nilS [16, 8, 7, 6, 2, 0] r r (.condP r hd (fun hb408 hd => ?_) fun hb408 hd => ?_)))))))
 · refine .skipS [8, 7, 6, 2, 0] r r (.seq (.block (.seq (.ownF (.s (.s .z)) fun hne427 => ?_))))
   refine .ownF (.s (.s (.s .z))) fun hne428 => ?_
   refine .ownF (.s (.s (.s (.s .z)))) fun hne429 => ?_
   refine .dr [0, 1, 2, 3, 4, 5, 6, 7, 8] 9 (.g r r r (fun _ => .fa underlying32 r sizeOf30 r (o := 3) r r r .mk) (.g r r r (fun _ => .load1 isAgg30 r (.s .z) r r r .mk) (.fk 2 r ?_)))
   obtain ⟨h430, x431, hx432, hd⟩ := hd
   obtain ⟨b433, o434, cs435, e436, hC437, hr438⟩ := R3.2 _ _ hx432
   cases hr438
   refine .g r r r (fun _ => .ixa underlying113 sizeOf115 r e436 r h430 (idx_lt hx432 h430) r r .mk) (.g r r r (fun _ => .fa underlying115 r sizeOf3 r (o := o434 + s402.toNat * 3 + 1) r r r .mk) (.g r r r (fun _ => .ld1 (j := 1) isAgg3 hC437 r r r r r .mk) (.ww r fun ex => ?_)))
   refine .buildSlice 1 underlying30 sizeOf3 zeroValue3 r r (.c r r r .n) r r fun b439 => ?_
   refine .so 6 r r r (.cg r r r r (fun _ => .load1 isAgg30 r (.s (.s .z)) r r r .mk) (.cg r r r r (fun _ => .fa underlying32 r sizeOf30 r (o := 3) r r r .mk) trivial)) (.ww r fun ex => ?_)
   obtain ⟨hl441, hd⟩ := hd
   refine .append (ys := [x431.Col]) 8 (.s (.s (.s (.s .z)))) underlying30 underlying30 IN3 r r r r r r r r r (.box .z (.one r) r) hl441 r r fun p442 c443 => ?_
   refine .so 6 r r r trivial (.e2 9 (.fa underlying32 r sizeOf30 r (o := 3) r r r (.store1 sizeOf30 r r (.s (.s (.s .z))) (.s (.s (.s (.t .nil)))) r (.nilS [8, 7, 6, 2, 0] r r (.drop (.s .z) (.seq (.ownF .z fun hne463 => ?_)))))))
   refine .ownF (.s (.s (.s .z))) fun hne464 => ?_
   refine .ownF (.s (.s (.s (.s .z)))) fun hne465 => ?_
   refine .dr [0, 1, 2, 3, 4, 5, 6, 7, 8] 9 (.g r r r (fun _ => .fa underlying32 r sizeOf23 r (o := 4) r r r .mk) (.g r r r (fun _ => .load1 isAgg23 r (.s (.s .z)) r r r .mk) (.fk 2 r ?_)))
   obtain ⟨h466, x467, hx468, hd⟩ := hd
   obtain ⟨b469, o470, cs471, e472, hC473, hr474⟩ := R3.2 _ _ hx468
   cases hr474
   refine .g r r r (fun _ => .ixa underlying113 sizeOf115 r e472 r h466 (idx_lt hx468 h466) r r .mk) (.g r r r (fun _ => .fa underlying115 r sizeOf2 r (o := o470 + s402.toNat * 3 + 2) r r r .mk) (.g r r r (fun _ => .ld1 (j := 2) isAgg2 hC473 r r r r r .mk) (.ww r fun ex => ?_)))
   refine .buildSlice 1 underlying23 sizeOf2 zeroValue2 r r (.c r r r .n) r r fun b475 => ?_
   refine .so 6 r r r (.cg r r r r (fun _ => .load1 isAgg23 r (.s (.s (.s .z))) r r r .mk) (.cg r r r r (fun _ => .fa underlying32 r sizeOf23 r (o := 4) r r r .mk) trivial)) (.ww r fun ex => ?_)
   obtain ⟨hl477, hd⟩ := hd
   refine .append (ys := [x467.Val]) 8 (.s (.s (.s (.s (.s .z))))) underlying23 underlying23 IN2 r r r r r r r r r (.box .z (.one r) r) hl477 r r fun p478 c479 => ?_
   refine .so 6 r r r trivial (.e2 9 (.fa underlying32 r sizeOf23 r (o := 4) r r r (.store1 sizeOf23 r r (.s (.s (.s (.s .z)))) (.s (.s (.s (.s (.t .nil))))) r (.nilS [8, 7, 6, 2, 0] r r (.drop (.s .z) (.sr (.ks 2 r ?_)))))))
   obtain ⟨h490, x491, hx492, hd⟩ := hd
   obtain ⟨b493, o494, cs495, e496, hC497, hr498⟩ := R3.2 _ _ hx492
   cases hr498
   refine .ixa underlying113 sizeOf115 r e496 r h490 (idx_lt hx492 h490) r r (.fa underlying115 r sizeOf3 r (o := o494 + s402.toNat * 3) r r r (.ld1 (j := 0) isAgg3 hC497 r r r r r (.ks 2 r (.nilS [9, 8, 7, 6, 2, 0] r r (.block (.loop hd (fun (s : (List Int) × Int) c w => match s with | (s534, s538) => ∃ I_ p535 c536, IH.le I404 I_ ∧ Ok ⟨58, [], none⟩ [(0, .int .i64 a0), (2, .slice p1 a2.length c2), (6, .pointer (some ⟨b15, 0, none⟩)), (7, .pointer (some ⟨b57, 0, none⟩)), (8, .int .i64 s402), (9, .int .i64 s538)] c ∧ Sym w0 M I I_ [pto b15 (.cells #[.int .i64 0, .int .i64 0, .slice none 0 0, .slice none 0 0, .slice none 0 0] 32 (0, 0)), pto b57 (.cells #[.int .i64 r38.Rows, .int .i64 r38.Cols, .slice p535 s534.length c536, .slice p442 (s394 ++ ([x431.Col])).length c443, .slice p478 (s398 ++ ([x467.Val])).length c479] 32 (0, 0)), OwnSl eI64 3 p535 c536 s534, OwnSl eI64 3 p442 c443 (s394 ++ ([x431.Col])), OwnSl eI64 2 p478 c479 (s398 ++ ([x467.Val]))] w) (fun c w ho hs => ⟨I404, _, _, (.refl _), ho.sub ⟨r, r, r, r, r, r, trivial⟩, hs.pick (.c (.s (.s .z)) (.c (.s (.s .z)) (.c (.s (.s .z)) (.c (.s .z) (.c .z .n)))))⟩) ?_))))))
   rintro ⟨s534, s538⟩ next539 hd c w hst
   obtain ⟨I540, p535, c536, hl541, hok, hsym⟩ := hst
   have le542 := IH.le.trans le406 hl541
   have le543 := IH.le.trans hl405 hl541
   replace R3 := R3.mono hl541
   refine Cod.at hok hsym (.seq (.sr (.ks 3 r (.nilS [47, 9, 8, 7, 6, 2, 0] r r (.condP r hd (fun hb545 hd => ?_) fun hb545 hd => ?_)))))
   · refine .skipS [9, 8, 7, 6, 2, 0] r r (.seq (.block (.region (.fa underlying32 r sizeOf30 r (o := 2) r r r (.load1 isAgg30 r (.s .z) r r r (.ks 1 r ?_))))))
     obtain ⟨h546, x547, hx548, hd⟩ := hd
     refine .ownNe (.s (.s .z)) (idx_ne hx548) fun b549 e550 => ?_
     cases e550
     refine .ixa0 underlying30 sizeOf3 r r h546 (idx_lt hx548 h546) r r (.lo1 (j := 0) isAgg3 (.s (.s .z)) hx548 r r r r r (.ks 1 r ?_))
     obtain ⟨h551, x552, hx553, hd⟩ := hd
     exact .ixa0 underlying30 sizeOf3 r r h551 (idx_lt hx553 h551) r r (.stO1 (j := 0) (v' := (w64 (x547 + 1))) sizeOf3 (.s (.s .z)) hx553 r r r (.t .nil) r (.sub (E' := [(0, _), (2, _), (6, _), (7, _), (8, _), (9, _), (50, _), (51, .slice (some ⟨b549, 0, none⟩) (s534.set s538.toNat (w64 (x547 + 1))).length c536), (52, _), (53, _), (54, _), (55, _), (56, _)]) ⟨r, r, r, r, r, r, r, (by simp only [List.length_set]; rfl), r, r, r, r, r, trivial⟩ (.reat (.s .z) (B := pto b57 (.cells #[.int .i64 r38.Rows, .int .i64 r38.Cols, .slice (some ⟨b549, 0, none⟩) (s534.set s538.toNat (w64 (x547 + 1))).length c536, .slice p442 (s394 ++ ([x431.Col])).length c443, .slice p478 (s398 ++ ([x467.Val])).length c479] 32 (0, 0))) (by simp only [List.length_set]) (.nilS [9, 8, 7, 6, 2, 0] r r (.region (.ks 3 r (.nil' fun c w ho hs => ⟨((s534.set s538.toNat (w64 (x547 + 1))), w64 (s538 + 1)), hd, I540, _, _, hl541, ho.sub ⟨r, r, r, r, r, r, trivial⟩, hs.pick (.c .z (.c .z (.c .z (.c .z (.c .z .n)))))⟩)))))))
   exact .exitS [8, 7, 6, 2, 0] r r (.region (.ks 3 r (.nil' fun c w ho hs => ⟨(s534, (s394 ++ ([x431.Col])), (s398 ++ ([x467.Val])), w64 (s402 + 1)), hd, I540, _, _, _, _, _, _, le543, ho.sub ⟨r, r, r, r, r, trivial⟩, hs.pick (.c .z (.c .z (.c .z (.c .z (.c .z .n)))))⟩)))
 refine .exitS [7, 6] r r (.sr (.loadW isAgg32 sizeOf32 r (.s .z) r r r (.storeA sizeOf32 r r .z (.t (.t (.t (.t (.t .nil))))) r r (.nilS [6] r r (.drop (.s .z) (.pub (.s .z) fun I554 hl555 R556 => ?_))))))
 have le557 := IH.le.trans le406 hl555
 have le558 := IH.le.trans hl405 hl555
 refine .pub (.s .z) fun I559 hl560 R561 => ?_
 have le562 := IH.le.trans le557 hl560
 have le563 := IH.le.trans le558 hl560
 replace R556 := R556.mono hl560
 refine .pub (.s .z) fun I564 hl565 R566 => ?_
 have le567 := IH.le.trans le562 hl565
 have le568 := IH.le.trans le563 hl565
 replace R556 := R556.mono hl565
 replace R561 := R561.mono hl565
 exact .ret (pret results93 (.w isAgg32 sizeOf32 r .z r .n) le567 ⟨({ Rows := r38.Rows, Cols := r38.Cols, Start := s390, Col := s394, Val := s398 } : Rows), _, _, _, _, _, _, r, R556, R561, R566, hd⟩)

theorem W_ref07_Graph {I : IH} {a0 : Graph} {p1 : Option Addr} {c2 : Nat} {Q : (Rows × Int) → Prop} (R3 : RepSl eEdge I p1 c2 a0.Edges) (hd : ref07_Graph a0 Q) :
  PFun prog 47 [.agg #[.int .i64 a0.N, .slice p1 a0.Edges.length c2]] I (o9_ Q) := by
 refine Fun.enter func47 r ntmps47 r (.c .n) fun w0 M => ?_
 refine .sr (.boxA r r r fun b17 => ?_)
 refine .allocA zeroValue32 r r fun b19 => ?_
 refine .ks 1 r (.nilS [2, 1] r r (.seq (.sr (.loadW isAgg28 sizeOf28 r (.s .z) r r r ?_))))
 have hw35 := W_ref05_Right (I := I) R3 hd
 refine .callP call43 r hw35 r r fun v36 hv37 => ?_
 obtain ⟨r34, rfl, hd⟩ := hv37
 refine .ks 1 r (.nilS [4, 2, 1] r r (.sr (.ks 2 r (.nilS [11, 4, 2, 1] r r (.condP r hd (fun hb38 hd => ?_) fun hb38 hd => ?_)))))
 · exact .sr (.build zeroValue32 underlying32 BI32 .n (by exact trivial) r r (.ks 1 r (.storeA sizeOf32 r r .z (.t (.t (.t (.t (.t .nil))))) r r (.ks 1 r (.nilS [3, 2] r r (.drop (.s .z) (.ret (pret results47 (.w isAgg32 sizeOf32 r .z r (.t r .n)) (.refl _) ⟨(({ Rows := 0, Cols := 0, Start := ([] : List Int), Col := ([] : List Int), Val := ([] : List Int) } : Rows), r34), _, _, _, _, _, _, r, (.nil _ _ _), (.nil _ _ _), (.nil _ _ _), hd⟩))))))))
 refine .skipS [2, 1] r r (.sr (.loadW isAgg28 sizeOf28 r (.s .z) r r r ?_))
 have hw62 := W_ref05_Turn (I := I) R3 hd
 refine .callO call92 r hw62 r r fun v56 I53 l57 hl54 hv55 => ?_
 obtain ⟨r52, p58, c59, rfl, rfl, hd⟩ := hv55
 replace R3 := R3.mono hl54
 refine .allocA zeroValue28 r r fun b63 => ?_
 refine .storeA sizeOf28 r r .z (.t (.t .nil)) r r (.nilS [5, 2, 1] r r (.sr (.ks 1 r (.nilS [6, 5, 2, 1] r r (.seq (.sr (.ks 1 r (.nilS [7, 6, 5, 2, 1] r r (.block ?_)))))))))
 refine .own0 eTriple 115 (.loop hd (fun (s : (List Triple) × Int) c w => match s with | (s122, s126) => ∃ I_ p123 c124, IH.le I53 I_ ∧ Ok ⟨51, [], none⟩ [(1, .pointer (some ⟨b17, 0, none⟩)), (2, .pointer (some ⟨b19, 0, none⟩)), (5, .pointer (some ⟨b63, 0, none⟩)), (6, .slice p123 s122.length c124), (7, .int .i64 s126)] c ∧ Sym w0 M I I_ [pto b17 (.cells #[.int .i64 a0.N, .slice p1 a0.Edges.length c2] 28 (0, 0)), pto b19 (.cells #[.int .i64 0, .int .i64 0, .slice none 0 0, .slice none 0 0, .slice none 0 0] 32 (0, 0)), pto b63 (.cells #[.int .i64 r52.N, .slice p58 r52.Edges.length c59] 28 (0, 0)), OwnSl eEdge 73 p58 c59 r52.Edges, OwnSl eTriple 115 p123 c124 s122] w) (fun c w ho hs => ⟨I53, _, _, (.refl _), ho.sub ⟨r, r, r, r, r, trivial⟩, hs.pick (.c (.s (.s (.s (.s .z)))) (.c (.s (.s (.s .z))) (.c (.s .z) (.c (.s .z) (.c .z .n)))))⟩) ?_)
 rintro ⟨s122, s126⟩ next128 hd c w hst
 obtain ⟨I129, p123, c124, hl130, hok, hsym⟩ := hst
 have le131 := IH.le.trans hl54 hl130
 replace R3 := R3.mono hl130
 refine Cod.at hok hsym (.seq (.sr (.ks 1 r (.fa underlying28 r sizeOf26 r (o := 1) r r r (.load1 isAgg26 r (.s (.s .z)) r r r (.len underlying26 r r r r (.ks 1 r (.nilS [20, 7, 6, 5, 2, 1] r r (.condP r hd (fun hb133 hd => ?_) fun hb133 hd => ?_)))))))))
 · refine .skipS [7, 6, 5, 2, 1] r r (.seq (.block (.ownF (.s (.s (.s .z))) fun hne134 => ?_)))
   refine .ownF (.s (.s (.s (.s .z)))) fun hne135 => ?_
   refine .dr [0, 1, 2, 3, 4, 5, 6, 7, 8, 9, 10, 11, 12, 13, 14, 15, 16, 17, 18, 19, 20, 21] 22 (.fk 1 r (.g r r r (fun _ => .fa underlying28 r sizeOf26 r (o := 1) r r r .mk) (.g r r r (fun _ => .load1 isAgg26 r (.s (.s .z)) r r r .mk) (.fk 1 r ?_))))
   obtain ⟨h136, x137, hx138, hd⟩ := hd
   obtain ⟨b139, e140⟩ := hne134 (idx_ne hx138)
   cases e140
   refine .g r r r (fun _ => .ixa0 underlying26 sizeOf73 r r h136 (idx_lt hx138 h136) r r .mk) (.g r r r (fun _ => .fa underlying73 r sizeOf3 r (o := s126.toNat * 3) r r r .mk) (.g r r r (fun _ => .lo1 (j := 0) isAgg3 (.s (.s (.s .z))) hx138 r r r r r .mk) (.g r r r (fun _ => .fa underlying28 r sizeOf26 r (o := 1) r r r .mk) (.g r r r (fun _ => .load1 isAgg26 r (.s (.s .z)) r r r .mk) (.fk 1 r ?_)))))
   obtain ⟨h141, x142, hx143, hd⟩ := hd
   refine .g r r r (fun _ => .ixa0 underlying26 sizeOf73 r r h141 (idx_lt hx143 h141) r r .mk) (.g r r r (fun _ => .fa underlying73 r sizeOf3 r (o := s126.toNat * 3 + 1) r r r .mk) (.g r r r (fun _ => .lo1 (j := 1) isAgg3 (.s (.s (.s .z))) hx143 r r r r r .mk) (.g r r r (fun _ => .fa underlying28 r sizeOf26 r (o := 1) r r r .mk) (.g r r r (fun _ => .load1 isAgg26 r (.s (.s .z)) r r r .mk) (.fk 1 r ?_)))))
   obtain ⟨h144, x145, hx146, hd⟩ := hd
   refine .g r r r (fun _ => .ixa0 underlying26 sizeOf73 r r h144 (idx_lt hx146 h144) r r .mk) (.g r r r (fun _ => .fa underlying73 r sizeOf2 r (o := s126.toNat * 3 + 2) r r r .mk) (.g r r r (fun _ => .lo1 (j := 2) isAgg2 (.s (.s (.s .z))) hx146 r r r r r .mk) (.g r r r (fun _ => .build zeroValue115 underlying115 BI115 (.c r r r (.t .nil) (.c r r r (.s (.t .nil)) (.c r r r (.s (.s (.t .nil))) .n))) (by exact ⟨⟨_, _, r, r, r⟩, ⟨⟨_, _, r, r, r⟩, ⟨⟨_, _, r, r, r⟩, trivial⟩⟩⟩) r r .mk) (.ww r fun ex => ?_))))
   refine .buildSlice 1 underlying113 sizeOf115 zeroValue115 r r (.c r r r .n) r r fun b147 => ?_
   refine .so 6 r r r (.ck 1 r r trivial) (.ww r fun ex => ?_)
   obtain ⟨hl149, hd⟩ := hd
   refine .append (ys := [({ Row := x137.From, Col := x142.To, Val := x145.W } : Triple)]) 24 (.s (.s (.s (.s (.s .z))))) underlying113 underlying113 IN115 r r r r r r r r r (.box .z (.one r) r) hl149 r r fun p150 c151 => ?_
   exact .so 6 r r r trivial (.e2 22 (.ks 1 r (.nilS [6, 7, 5, 2, 1] r r (.drop (.s .z) (.region (.ks 3 r (.nil' fun c w ho hs => ⟨((s122 ++ ([({ Row := x137.From, Col := x142.To, Val := x145.W } : Triple)])), w64 (s126 + 1)), hd, I129, _, _, hl130, ho.sub ⟨r, r, r, r, r, trivial⟩, hs.pick (.c (.s .z) (.c (.s .z) (.c (.s .z) (.c (.s .z) (.c .z .n)))))⟩)))))))
 refine .exitS [6, 2, 1] r r (.drop (.s (.s .z)) (.drop (.s (.s .z)) (.sr (.fa underlying28 r sizeOf3 r (o := 0) r r r (.load1 isAgg3 r .z r r r (.fa underlying28 r sizeOf3 r (o := 0) r r r (.load1 isAgg3 r .z r r r (.ks 1 r (.pub (.s (.s .z)) fun I153 hl154 R155 => ?_)))))))))
 have le156 := IH.le.trans le131 hl154
 have le157 := IH.le.trans hl130 hl154
 replace R3 := R3.mono hl154
 have hw173 := W_ref07_built (I := I153) R155 hd
 refine .call call93 r hw173 r r fun v162 I159 hl160 hv161 => ?_
 obtain ⟨r158, p164, c165, p167, c168, p170, c171, rfl, R166, R169, R172, hd⟩ := hv161
 have le174 := IH.le.trans le156 hl160
 have le175 := IH.le.trans le157 hl160
 replace R3 := R3.mono hl160
 replace R155 := R155.mono hl160
 exact .storeA sizeOf32 r r (.s .z) (.t (.t (.t (.t (.t .nil))))) r r (.ks 1 r (.nilS [3, 2] r r (.drop .z (.ret (pret results47 (.w isAgg32 sizeOf32 r .z r (.t r .n)) le174 ⟨(r158, 0), _, _, _, _, _, _, r, R166, R169, R172, hd⟩)))))

theorem W_ref21_Matrix {I : IH} {a0 : Plan} {a1 : Graph} {p1 : Option Addr} {c2 : Nat} {p4 : Option Addr} {c5 : Nat} {Q : (Rows × Int) → Prop} (R3 : RepSl eI64 I p1 c2 a0.Draws) (R6 : RepSl eEdge I p4 c5 a1.Edges) (hd : ref21_Matrix a0 a1 Q) :
  PFun prog 9 [.agg #[.int .i64 a0.Kind, .int .i64 a0.N, .int .i64 a0.Source, .int .i64 a0.Length, .slice p1 a0.Draws.length c2], .agg #[.int .i64 a1.N, .slice p4 a1.Edges.length c5]] I (o10_ Q) := by
 refine Fun.enter func9 r ntmps9 r (.c (.c .n)) fun w0 M => ?_
 refine .sr (.boxA r r r fun b22 => ?_)
 refine .boxA r r r fun b24 => ?_
 refine .allocA zeroValue32 r r fun b26 => ?_
 refine .ks 1 r (.nilS [4, 3, 2] r r (.seq (.sr (.loadW isAgg25 sizeOf25 r (.s (.s .z)) r r r ?_))))
 have hw42 := W_ref21_Right (I := I) R3 hd
 refine .callP call11 r hw42 r r fun v43 hv44 => ?_
 obtain ⟨r41, rfl, hd⟩ := hv44
 refine .ks 1 r (.nilS [6, 4, 3, 2] r r (.sr (.ks 2 r (.nilS [11, 6, 4, 3, 2] r r (.condP r hd (fun hb45 hd => ?_) fun hb45 hd => ?_)))))
 · exact .sr (.build zeroValue32 underlying32 BI32 .n (by exact trivial) r r (.ks 1 r (.storeA sizeOf32 r r .z (.t (.t (.t (.t (.t .nil))))) r r (.ks 1 r (.nilS [5, 4] r r (.drop (.s .z) (.drop (.s .z) (.ret (pret results9 (.w isAgg32 sizeOf32 r .z r (.t r .n)) (.refl _) ⟨(({ Rows := 0, Cols := 0, Start := ([] : List Int), Col := ([] : List Int), Val := ([] : List Int) } : Rows), r41), _, _, _, _, _, _, r, (.nil _ _ _), (.nil _ _ _), (.nil _ _ _), hd⟩)))))))))
 refine .skipS [4, 3, 2] r r (.seq (.sr (.fa underlying28 r sizeOf3 r (o := 0) r r r (.load1 isAgg3 r (.s .z) r r r (.fa underlying25 r sizeOf3 r (o := 1) r r r (.load1 isAgg3 r (.s (.s .z)) r r r (.ks 1 r (.nilS [18, 4, 3, 2] r r (.condP r hd (fun hb47 hd => ?_) fun hb47 hd => ?_)))))))))
 · exact .sr (.build zeroValue32 underlying32 BI32 .n (by exact trivial) r r (.storeA sizeOf32 r r .z (.t (.t (.t (.t (.t .nil))))) r r (.ks 1 r (.nilS [5, 4] r r (.drop (.s .z) (.drop (.s .z) (.ret (pret results9 (.w isAgg32 sizeOf32 r .z r (.t r .n)) (.refl _) ⟨(({ Rows := 0, Cols := 0, Start := ([] : List Int), Col := ([] : List Int), Val := ([] : List Int) } : Rows), 4), _, _, _, _, _, _, r, (.nil _ _ _), (.nil _ _ _), (.nil _ _ _), hd⟩))))))))
 refine .skipS [4, 3, 2] r r (.seq (.sr (.loadW isAgg28 sizeOf28 r (.s .z) r r r ?_)))
 have hw62 := W_ref05_Right (I := I) R6 hd
 refine .callP call43 r hw62 r r fun v63 hv64 => ?_
 obtain ⟨r61, rfl, hd⟩ := hv64
 refine .ks 1 r (.nilS [7, 4, 3, 2] r r (.sr (.ks 2 r (.nilS [23, 7, 4, 3, 2] r r (.condP r hd (fun hb65 hd => ?_) fun hb65 hd => ?_)))))
 · exact .sr (.build zeroValue32 underlying32 BI32 .n (by exact trivial) r r (.ks 1 r (.storeA sizeOf32 r r .z (.t (.t (.t (.t (.t .nil))))) r r (.ks 1 r (.nilS [5, 4] r r (.drop (.s .z) (.drop (.s .z) (.ret (pret results9 (.w isAgg32 sizeOf32 r .z r (.t r .n)) (.refl _) ⟨(({ Rows := 0, Cols := 0, Start := ([] : List Int), Col := ([] : List Int), Val := ([] : List Int) } : Rows), r61), _, _, _, _, _, _, r, (.nil _ _ _), (.nil _ _ _), (.nil _ _ _), hd⟩)))))))))
 refine .skipS [4, 3, 2] r r (.seq (.sr (.fa underlying25 r sizeOf22 r (o := 0) r r r (.load1 isAgg22 r (.s (.s .z)) r r r (.nilS [27, 4, 3] r r (.drop (.s (.s .z)) (.block (.sr (.ks 2 r ?_)))))))))
 refine .nilS [28, 27, 4, 3] r r (.condP r hd (fun hb66 hd => ?_) fun hb66 hd => ?_)
 · refine .region (.loadW isAgg28 sizeOf28 r (.s .z) r r r ?_)
   have hw76 := W_ref05_Plain (I := I) R6 hd
   refine .call call44 r hw76 r r fun v71 I68 hl69 hv70 => ?_
   obtain ⟨r67, p73, c74, rfl, R75, hd⟩ := hv70
   replace R6 := R6.mono hl69
   refine .storeA sizeOf28 r r (.s .z) (.t (.t .nil)) r r (.nilS [4, 3] r r (.sr (.loadW isAgg28 sizeOf28 r (.s .z) r r r ?_)))
   have hw92 := W_ref07_Graph (I := I68) R75 hd
   refine .call call47 r hw92 r r fun v81 I78 hl79 hv80 => ?_
   obtain ⟨r77, p83, c84, p86, c87, p89, c90, rfl, R85, R88, R91, hd⟩ := hv80
   have le93 := IH.le.trans hl69 hl79
   replace R75 := R75.mono hl79
   exact .ks 2 r (.storeA sizeOf32 r r .z (.t (.t (.t (.t (.t .nil))))) r r (.ks 1 r (.nilS [5, 4] r r (.drop (.s .z) (.ret (pret results9 (.w isAgg32 sizeOf32 r .z r (.t r .n)) le93 ⟨(r77.1, r77.2), _, _, _, _, _, _, r, R85, R88, R91, hd⟩))))))
 refine .sr (.ks 2 r (.nilS [32, 27, 4, 3] r r (.condP r hd (fun hb94 hd => ?_) fun hb94 hd => ?_)))
 · refine .region (.loadW isAgg28 sizeOf28 r (.s .z) r r r ?_)
   have hw104 := W_ref05_Both (I := I) R6 hd
   refine .call call45 r hw104 r r fun v99 I96 hl97 hv98 => ?_
   obtain ⟨r95, p101, c102, rfl, R103, hd⟩ := hv98
   replace R6 := R6.mono hl97
   have hw114 := W_ref05_Plain (I := I96) R103 hd
   refine .call call44 r hw114 r r fun v109 I106 hl107 hv108 => ?_
   obtain ⟨r105, p111, c112, rfl, R113, hd⟩ := hv108
   have le115 := IH.le.trans hl97 hl107
   replace R6 := R6.mono hl107
   replace R103 := R103.mono hl107
   refine .storeA sizeOf28 r r (.s .z) (.t (.t .nil)) r r (.nilS [4, 3] r r (.sr (.loadW isAgg28 sizeOf28 r (.s .z) r r r ?_)))
   have hw131 := W_ref07_Graph (I := I106) R113 hd
   refine .call call47 r hw131 r r fun v120 I117 hl118 hv119 => ?_
   obtain ⟨r116, p122, c123, p125, c126, p128, c129, rfl, R124, R127, R130, hd⟩ := hv119
   have le132 := IH.le.trans le115 hl118
   replace R113 := R113.mono hl118
   exact .ks 2 r (.storeA sizeOf32 r r .z (.t (.t (.t (.t (.t .nil))))) r r (.ks 1 r (.nilS [5, 4] r r (.drop (.s .z) (.ret (pret results9 (.w isAgg32 sizeOf32 r .z r (.t r .n)) le132 ⟨(r116.1, r116.2), _, _, _, _, _, _, r, R124, R127, R130, hd⟩))))))
 refine .sr (.ks 2 r (.nilS [37, 4, 3] r r (.condP r hd (fun hb133 hd => ?_) fun hb133 hd => ?_)))
 · refine .region (.loadW isAgg28 sizeOf28 r (.s .z) r r r ?_)
   have hw143 := W_ref05_Simple (I := I) R6 hd
   refine .call call46 r hw143 r r fun v138 I135 hl136 hv137 => ?_
   obtain ⟨r134, p140, c141, rfl, R142, hd⟩ := hv137
   replace R6 := R6.mono hl136
   have hw153 := W_ref05_Both (I := I135) R142 hd
   refine .call call45 r hw153 r r fun v148 I145 hl146 hv147 => ?_
   obtain ⟨r144, p150, c151, rfl, R152, hd⟩ := hv147
   have le154 := IH.le.trans hl136 hl146
   replace R6 := R6.mono hl146
   replace R142 := R142.mono hl146
   have hw164 := W_ref05_Plain (I := I145) R152 hd
   refine .call call44 r hw164 r r fun v159 I156 hl157 hv158 => ?_
   obtain ⟨r155, p161, c162, rfl, R163, hd⟩ := hv158
   have le165 := IH.le.trans le154 hl157
   replace R6 := R6.mono hl157
   replace R142 := R142.mono hl157
   replace R152 := R152.mono hl157
   refine .storeA sizeOf28 r r (.s .z) (.t (.t .nil)) r r (.nilS [4, 3] r r (.sr (.loadW isAgg28 sizeOf28 r (.s .z) r r r ?_)))
   have hw181 := W_ref07_Graph (I := I156) R163 hd
   refine .call call47 r hw181 r r fun v170 I167 hl168 hv169 => ?_
   obtain ⟨r166, p172, c173, p175, c176, p178, c179, rfl, R174, R177, R180, hd⟩ := hv169
   have le182 := IH.le.trans le165 hl168
   replace R163 := R163.mono hl168
   exact .ks 2 r (.storeA sizeOf32 r r .z (.t (.t (.t (.t (.t .nil))))) r r (.ks 1 r (.nilS [5, 4] r r (.drop (.s .z) (.ret (pret results9 (.w isAgg32 sizeOf32 r .z r (.t r .n)) le182 ⟨(r166.1, r166.2), _, _, _, _, _, _, r, R174, R177, R180, hd⟩))))))
 refine .skipS [4, 3] r r (.sr (.loadW isAgg28 sizeOf28 r (.s .z) r r r ?_))
 have hw198 := W_ref07_Graph (I := I) R6 hd
 refine .call call47 r hw198 r r fun v187 I184 hl185 hv186 => ?_
 obtain ⟨r183, p189, c190, p192, c193, p195, c196, rfl, R191, R194, R197, hd⟩ := hv186
 replace R6 := R6.mono hl185
 exact .ks 2 r (.storeA sizeOf32 r r .z (.t (.t (.t (.t (.t .nil))))) r r (.ks 1 r (.nilS [5, 4] r r (.drop (.s .z) (.ret (pret results9 (.w isAgg32 sizeOf32 r .z r (.t r .n)) hl185 ⟨(r183.1, r183.2), _, _, _, _, _, _, r, R191, R194, R197, hd⟩))))))

theorem W_ref21_Ring {I : IH} {a0 : Int} {a1 : Int} {Q : Int → Prop}  (hd : ref21_Ring a0 a1 Q) :
  PFun prog 13 [.int .i64 a0, .int .i64 a1] I (fun _ => o1_ Q) := by
 refine Fun.enter func13 r ntmps13 r (.c (.c .n)) fun w0 M => ?_
 refine .sr (.ks 1 r (.nilS [1, 0] r r (.sr (.ks 1 r (.nilS [5, 1] r r (.block (.seq ?_)))))))
 refine Cod.joinQ (σ := Bool) hd (fun (s3 : Bool) c w => ∃ I_, IH.le I I_ ∧ Ok ⟨18, [], none⟩ [(1, .int .i64 a1), (5, .int .i64 a0), (6, .bool s3)] c ∧ Sym w0 M I I_ [] w) (fun k4 hd => ?_) ?_
 · skip
   refine .sr (.ks 2 r (.nilS [6, 5, 1] r r (.condP r hd (fun hb5 hd => ?_) fun hb5 hd => ?_)))
   · exact .skip' fun c w ho hs => ⟨(a0 == 1), hd, I, (.refl _), ho.sub ⟨r, r, r, trivial⟩, hs.pick .n⟩
   exact .region (.ks 2 r (.nil' fun c w ho hs => ⟨(a0 == 3), hd, I, (.refl _), ho.sub ⟨r, r, r, trivial⟩, hs.pick .n⟩))
 rintro s3 hd c w hst
 obtain ⟨I6, hl7, hok, hsym⟩ := hst
 refine Cod.at hok hsym (.condP r hd (fun hb8 hd => ?_) fun hb8 hd => ?_)
 · exact .sr (.ks 1 r (.nilS [4] r r (.ret (pret results13 (.t r .n) hl7 ⟨4, r, hd⟩))))
 refine .sr (.ks 2 r (.nilS [9, 5, 1] r r (.condP r hd (fun hb9 hd => ?_) fun hb9 hd => ?_)))
 · exact .sr (.ks 1 r (.nilS [4] r r (.ret (pret results13 (.t r .n) hl7 ⟨1, r, hd⟩))))
 refine .sr (.ks 2 r (.nilS [11, 5, 1] r r (.condP r hd (fun hb10 hd => ?_) fun hb10 hd => ?_)))
 · exact .sr (.ks 1 r (.nilS [4] r r (.ret (pret results13 (.t r .n) hl7 ⟨5, r, hd⟩))))
 refine .sr (.ks 2 r (.nilS [13, 1] r r (.condP r hd (fun hb11 hd => ?_) fun hb11 hd => ?_)))
 · refine .seq (.sr (.ks 1 r (.rem r r (by decide) r r (.ks 1 r (.nilS [17] r r (.condP r hd (fun hb12 hd => ?_) fun hb12 hd => ?_))))))
   · exact .sr (.ks 1 r (.nilS [4] r r (.ret (pret results13 (.t r .n) hl7 ⟨2, r, hd⟩))))
   exact .skipS [] r r (.sr (.ks 1 r (.nilS [4] r r (.ret (pret results13 (.t r .n) hl7 ⟨4, r, hd⟩)))))
 exact .sr (.ks 1 r (.nilS [4] r r (.ret (pret results13 (.t r .n) hl7 ⟨0, r, hd⟩))))

theorem W_ref21_Draw {I : IH} {a0 : Plan} {a1 : Int} {a2 : Int} {p1 : Option Addr} {c2 : Nat} {Q : Int → Prop} (R3 : RepSl eI64 I p1 c2 a0.Draws) (hd : ref21_Draw a0 a1 a2 Q) :
  PFun prog 15 [.agg #[.int .i64 a0.Kind, .int .i64 a0.N, .int .i64 a0.Source, .int .i64 a0.Length, .slice p1 a0.Draws.length c2], .int .i64 a1, .int .i64 a2] I (fun _ => o1_ Q) := by
 refine Fun.enter func15 r ntmps15 r (.c (.c (.c .n))) fun w0 M => ?_
 refine .sr (.boxA r r r fun b6 => ?_)
 refine .ks 1 r (.nilS [3, 2, 1] r r (.seq (.sr (.loadW isAgg25 sizeOf25 r .z r r r ?_))))
 have hw18 := W_ref21_Right (I := I) R3 hd
 refine .callP call11 r hw18 r r fun v19 hv20 => ?_
 obtain ⟨r17, rfl, hd⟩ := hv20
 refine .ks 2 r ?_
 refine splitP hd (fun hb21 hd => ?_) fun hb21 hd => ?_
 · rw [hb21]
   exact .ks 17 r (.nilS [29, 3, 2, 1] r r (.condKT r r (.sr (.ks 1 r (.nilS [6] r r (.drop .z (.ret (pret results15 (.t r .n) (.refl _) ⟨0, r, hd⟩))))))))
 rw [hb21]
 refine .ks 4 r ?_
 refine splitP hd (fun hb22 hd => ?_) fun hb22 hd => ?_
 · rw [hb22]
   exact .ks 13 r (.nilS [29, 3, 2, 1] r r (.condKT r r (.sr (.ks 1 r (.nilS [6] r r (.drop .z (.ret (pret results15 (.t r .n) (.refl _) ⟨0, r, hd⟩))))))))
 rw [hb22]
 refine .ks 4 r ?_
 refine splitP hd (fun hb23 hd => ?_) fun hb23 hd => ?_
 · rw [hb23]
   exact .ks 9 r (.nilS [29, 3, 2, 1] r r (.condKT r r (.sr (.ks 1 r (.nilS [6] r r (.drop .z (.ret (pret results15 (.t r .n) (.refl _) ⟨0, r, hd⟩))))))))
 rw [hb23]
 refine .ks 4 r ?_
 refine splitP hd (fun hb24 hd => ?_) fun hb24 hd => ?_
 · rw [hb24]
   exact .ks 5 r (.nilS [29, 3, 2, 1] r r (.condKT r r (.sr (.ks 1 r (.nilS [6] r r (.drop .z (.ret (pret results15 (.t r .n) (.refl _) ⟨0, r, hd⟩))))))))
 rw [hb24]
 refine .ks 1 r (.gyes r r r (.fa underlying25 r sizeOf3 r (o := 1) r r r (.gyes r r r (.load1 isAgg3 r .z r r r (.ks 2 r (.nilS [29, 3, 2, 1] r r (.condP r hd (fun hb25 hd => ?_) fun hb25 hd => ?_)))))))
 · exact .sr (.ks 1 r (.nilS [6] r r (.drop .z (.ret (pret results15 (.t r .n) (.refl _) ⟨0, r, hd⟩)))))
 refine .skipS [3, 2, 1] r r (.sr (.ks 1 r (.nilS [7, 3, 2, 1] r r (.seq (.sr (.fa underlying25 r sizeOf23 r (o := 4) r r r (.load1 isAgg23 r .z r r r (.len underlying23 r r r r (.ks 1 r ?_)))))))))
 refine .nilS [8, 7, 3, 2, 1] r r (.sr (.ks 2 r (.nilS [34, 8, 7, 3, 2, 1] r r (.condP r hd (fun hb26 hd => ?_) fun hb26 hd => ?_))))
 · refine .dr [0, 1, 2, 3, 4, 5, 6, 7, 8, 9, 10, 11] 12 (.g r r r (fun _ => .fa underlying25 r sizeOf23 r (o := 4) r r r .mk) (.g r r r (fun _ => .load1 isAgg23 r .z r r r .mk) (.fk 1 r (.g r r r (fun _ => .fa underlying25 r sizeOf3 r (o := 1) r r r .mk) (.g r r r (fun _ => .load1 isAgg3 r .z r r r .mk) (.fk 4 r ?_))))))
   obtain ⟨hz27, hd⟩ := hd
   refine .g r r r (fun _ => .rem r r hz27 r r .mk) ?_
   obtain ⟨h28, x29, hx30, hd⟩ := hd
   obtain ⟨b31, o32, cs33, e34, hC35, hr36⟩ := R3.2 _ _ hx30
   cases hr36
   exact .g r r r (fun _ => .ixa underlying23 sizeOf2 r e34 r h28 (idx_lt hx30 h28) r r .mk) (.g r r r (fun _ => .ld1 (j := 0) isAgg2 hC35 r r r r r .mk) (.e2 12 (.ks 1 r (.nilS [7, 2] r r (.drop .z (.sr (.ks 5 r (.nilS [6] r r (.ret (pret results15 (.t r .n) (.refl _) ⟨(w64 ((w64 (x29 * 4096)) + a2)), r, hd⟩))))))))))
 exact .skipS [7, 2] r r (.drop .z (.sr (.ks 5 r (.nilS [6] r r (.ret (pret results15 (.t r .n) (.refl _) ⟨(w64 ((w64 (0 * 4096)) + a2)), r, hd⟩))))))

theorem W_ref07_Same {I : IH} {a0 : Rows} {a1 : Rows} {p1 : Option Addr} {c2 : Nat} {p4 : Option Addr} {c5 : Nat} {p7 : Option Addr} {c8 : Nat} {p10 : Option Addr} {c11 : Nat} {p13 : Option Addr} {c14 : Nat} {p16 : Option Addr} {c17 : Nat} {Q : Bool → Prop} (R3 : RepSl eI64 I p1 c2 a0.Start) (R6 : RepSl eI64 I p4 c5 a0.Col) (R9 : RepSl eI64 I p7 c8 a0.Val) (R12 : RepSl eI64 I p10 c11 a1.Start) (R15 : RepSl eI64 I p13 c14 a1.Col) (R18 : RepSl eI64 I p16 c17 a1.Val) (hd : ref07_Same a0 a1 Q) :
  PFun prog 16 [.agg #[.int .i64 a0.Rows, .int .i64 a0.Cols, .slice p1 a0.Start.length c2, .slice p4 a0.Col.length c5, .slice p7 a0.Val.length c8], .agg #[.int .i64 a1.Rows, .int .i64 a1.Cols, .slice p10 a1.Start.length c11, .slice p13 a1.Col.length c14, .slice p16 a1.Val.length c17]] I (fun _ => o0_ Q) := by
 refine Fun.enter func16 r ntmps16 r (.c (.c .n)) fun w0 M => ?_
 refine .sr (.boxA r r r fun b23 => ?_)
 refine .boxA r r r fun b25 => ?_
 refine .ks 1 r (.nilS [3, 2] r r (.sr (.fa underlying32 r sizeOf3 r (o := 0) r r r (.load1 isAgg3 r (.s .z) r r r (.fa underlying32 r sizeOf3 r (o := 0) r r r (.load1 isAgg3 r .z r r r (.ks 2 r ?_)))))))
 refine splitP hd (fun hb27 hd => ?_) fun hb27 hd => ?_
 · rw [hb27]
   refine .gyes r r r (.fa underlying32 r sizeOf3 r (o := 1) r r r (.gyes r r r (.load1 isAgg3 r (.s .z) r r r (.gyes r r r (.fa underlying32 r sizeOf3 r (o := 1) r r r (.gyes r r r (.load1 isAgg3 r .z r r r (.ks 3 r ?_))))))))
   refine splitP hd (fun hb28 hd => ?_) fun hb28 hd => ?_
   · rw [hb28]
     refine .gyes r r r (.fa underlying32 r sizeOf30 r (o := 2) r r r (.gyes r r r (.load1 isAgg30 r (.s .z) r r r (.gyes r r r (.fa underlying32 r sizeOf30 r (o := 2) r r r (.gyes r r r (.load1 isAgg30 r .z r r r ?_)))))))
     have hw30 := W_ref03_SameInts (I := I) R3 R12 hd
     refine .gyes r r r (.callP call36 r hw30 r r fun v31 hv32 => ?_)
     obtain ⟨r29, rfl, hd⟩ := hv32
     refine .ks 2 r ?_
     refine splitP hd (fun hb33 hd => ?_) fun hb33 hd => ?_
     · rw [hb33]
       refine .gyes r r r (.fa underlying32 r sizeOf30 r (o := 3) r r r (.gyes r r r (.load1 isAgg30 r (.s .z) r r r (.gyes r r r (.fa underlying32 r sizeOf30 r (o := 3) r r r (.gyes r r r (.load1 isAgg30 r .z r r r ?_)))))))
       have hw35 := W_ref03_SameInts (I := I) R6 R15 hd
       refine .gyes r r r (.callP call36 r hw35 r r fun v36 hv37 => ?_)
       obtain ⟨r34, rfl, hd⟩ := hv37
       refine .ks 2 r ?_
       refine splitP hd (fun hb38 hd => ?_) fun hb38 hd => ?_
       · rw [hb38]
         refine .gyes r r r (.fa underlying32 r sizeOf23 r (o := 4) r r r (.gyes r r r (.load1 isAgg23 r (.s .z) r r r (.gyes r r r (.fa underlying32 r sizeOf23 r (o := 4) r r r (.gyes r r r (.load1 isAgg23 r .z r r r ?_)))))))
         have hw40 := W_ref07_SameVals (I := I) R9 R18 hd
         refine .gyes r r r (.callP call35 r hw40 r r fun v41 hv42 => ?_)
         obtain ⟨r39, rfl, hd⟩ := hv42
         exact .ks 2 r (.nilS [4] r r (.drop .z (.drop .z (.ret (pret results16 (.t r .n) (.refl _) ⟨r39, r, hd⟩)))))
       rw [hb38]
       exact .ks 7 r (.nilS [4] r r (.drop .z (.drop .z (.ret (pret results16 (.t r .n) (.refl _) ⟨false, r, hd⟩)))))
     rw [hb33]
     exact .ks 14 r (.nilS [4] r r (.drop .z (.drop .z (.ret (pret results16 (.t r .n) (.refl _) ⟨false, r, hd⟩)))))
   rw [hb28]
   exact .ks 21 r (.nilS [4] r r (.drop .z (.drop .z (.ret (pret results16 (.t r .n) (.refl _) ⟨false, r, hd⟩)))))
 rw [hb27]
 exact .ks 28 r (.nilS [4] r r (.drop .z (.drop .z (.ret (pret results16 (.t r .n) (.refl _) ⟨false, r, hd⟩)))))

theorem W_law21_ProgIs {I : IH} {a0 : Plan} {a1 : Int} {a2 : Graph} {p1 : Option Addr} {c2 : Nat} {p4 : Option Addr} {c5 : Nat} {Q : Bool → Prop} (R3 : RepSl eI64 I p1 c2 a0.Draws) (R6 : RepSl eEdge I p4 c5 a2.Edges) (hd : law21_ProgIs a0 a1 a2 Q) :
  PFun prog 3 [.agg #[.int .i64 a0.Kind, .int .i64 a0.N, .int .i64 a0.Source, .int .i64 a0.Length, .slice p1 a0.Draws.length c2], .int .i64 a1, .agg #[.int .i64 a2.N, .slice p4 a2.Edges.length c5]] I (fun _ => o0_ Q) := by
 refine Fun.enter func3 r ntmps3 r (.c (.c (.c .n))) fun w0 M => ?_
 refine .sr (.boxA r r r fun b11 => ?_)
 refine .boxA r r r fun b13 => ?_
 refine .ks 1 r (.nilS [5, 3, 1] r r (.seq ?_))
 refine Cod.joinQ (σ := Unit) hd (fun (_ : Unit) c w => ∃ I_, IH.le I I_ ∧ Ok ⟨92, [], none⟩ [(1, .int .i64 a1), (3, .pointer (some ⟨b11, 0, none⟩)), (5, .pointer (some ⟨b13, 0, none⟩))] c ∧ Sym w0 M I I_ [pto b11 (.cells #[.int .i64 a0.Kind, .int .i64 a0.N, .int .i64 a0.Source, .int .i64 a0.Length, .slice p1 a0.Draws.length c2] 25 (0, 0)), pto b13 (.cells #[.int .i64 a2.N, .slice p4 a2.Edges.length c5] 28 (0, 0))] w) (fun k61 hd => ?_) ?_
 · skip
   refine .sr (.fa underlying28 r sizeOf26 r (o := 1) r r r (.load1 isAgg26 r .z r r r (.len underlying26 r r r r (.ks 2 r ?_))))
   refine splitP hd (fun hb62 hd => ?_) fun hb62 hd => ?_
   · rw [hb62]
     refine .ks 21 r (.nilS [36, 5, 3, 1] r r (.condKT r r (.sr ?_)))
     have hw64 := W_law21_live (I := I) hd
     refine .callP call7 r hw64 r r fun v65 hv66 => ?_
     obtain ⟨r63, rfl, hd⟩ := hv66
     exact .ks 1 r (.nilS [6] r r (.drop .z (.drop .z (.ret (pret results3 (.t r .n) (.refl _) ⟨r63, r, hd⟩)))))
   rw [hb62]
   refine .gyes r r r (.fa underlying25 r sizeOf23 r (o := 4) r r r (.gyes r r r (.load1 isAgg23 r (.s .z) r r r (.gyes r r r (.len underlying23 r r r r (.ks 2 r ?_))))))
   refine splitP hd (fun hb67 hd => ?_) fun hb67 hd => ?_
   · rw [hb67]
     refine .gyes r r r (.fa underlying25 r sizeOf23 r (o := 4) r r r (.gyes r r r (.load1 isAgg23 r (.s .z) r r r (.gyes r r r (.len underlying23 r r r r (.ks 4 r ?_))))))
     refine splitP hd (fun hb68 hd => ?_) fun hb68 hd => ?_
     · rw [hb68]
       refine .ks 9 r (.nilS [36, 5, 3, 1] r r (.condKT r r (.sr ?_)))
       have hw70 := W_law21_live (I := I) hd
       refine .callP call7 r hw70 r r fun v71 hv72 => ?_
       obtain ⟨r69, rfl, hd⟩ := hv72
       exact .ks 1 r (.nilS [6] r r (.drop .z (.drop .z (.ret (pret results3 (.t r .n) (.refl _) ⟨r69, r, hd⟩)))))
     rw [hb68]
     refine .gyes r r r (.fa underlying28 r sizeOf3 r (o := 0) r r r (.gyes r r r (.load1 isAgg3 r .z r r r (.ks 2 r ?_))))
     refine splitP hd (fun hb73 hd => ?_) fun hb73 hd => ?_
     · rw [hb73]
       refine .gyes r r r (.fa underlying28 r sizeOf3 r (o := 0) r r r (.gyes r r r (.load1 isAgg3 r .z r r r (.ks 3 r (.nilS [36, 5, 3, 1] r r (.condP r hd (fun hb74 hd => ?_) fun hb74 hd => ?_))))))
       · refine .sr ?_
         have hw76 := W_law21_live (I := I) hd
         refine .callP call7 r hw76 r r fun v77 hv78 => ?_
         obtain ⟨r75, rfl, hd⟩ := hv78
         exact .ks 1 r (.nilS [6] r r (.drop .z (.drop .z (.ret (pret results3 (.t r .n) (.refl _) ⟨r75, r, hd⟩)))))
       exact .skip' fun c w ho hs => ⟨(), hd, I, (.refl _), ho.sub ⟨r, r, r, trivial⟩, hs.pick (.c (.s .z) (.c .z .n))⟩
     rw [hb73]
     exact .ks 5 r (.nilS [36, 5, 3, 1] r r (.condKF r r (.skip' fun c w ho hs => ⟨(), hd, I, (.refl _), ho.sub ⟨r, r, r, trivial⟩, hs.pick (.c (.s .z) (.c .z .n))⟩)))
   rw [hb67]
   refine .ks 7 r (.gyes r r r (.fa underlying28 r sizeOf3 r (o := 0) r r r (.gyes r r r (.load1 isAgg3 r .z r r r (.ks 2 r ?_)))))
   refine splitP hd (fun hb79 hd => ?_) fun hb79 hd => ?_
   · rw [hb79]
     refine .gyes r r r (.fa underlying28 r sizeOf3 r (o := 0) r r r (.gyes r r r (.load1 isAgg3 r .z r r r (.ks 3 r (.nilS [36, 5, 3, 1] r r (.condP r hd (fun hb80 hd => ?_) fun hb80 hd => ?_))))))
     · refine .sr ?_
       have hw82 := W_law21_live (I := I) hd
       refine .callP call7 r hw82 r r fun v83 hv84 => ?_
       obtain ⟨r81, rfl, hd⟩ := hv84
       exact .ks 1 r (.nilS [6] r r (.drop .z (.drop .z (.ret (pret results3 (.t r .n) (.refl _) ⟨r81, r, hd⟩)))))
     exact .skip' fun c w ho hs => ⟨(), hd, I, (.refl _), ho.sub ⟨r, r, r, trivial⟩, hs.pick (.c (.s .z) (.c .z .n))⟩
   rw [hb79]
   exact .ks 5 r (.nilS [36, 5, 3, 1] r r (.condKF r r (.skip' fun c w ho hs => ⟨(), hd, I, (.refl _), ho.sub ⟨r, r, r, trivial⟩, hs.pick (.c (.s .z) (.c .z .n))⟩)))
 rintro ⟨⟩ hd c w hst
 obtain ⟨I85, hl86, hok, hsym⟩ := hst
 replace R3 := R3.mono hl86
 replace R6 := R6.mono hl86
 refine Cod.at hok hsym (.sr (.loadW isAgg25 sizeOf25 r .z r r r (.loadW isAgg28 sizeOf28 r (.s .z) r r r ?_)))
 have hw121 := W_prog_Matrix (I := I85) R3 R6 hd
 refine .call call8 r hw121 r r fun v110 I107 hl108 hv109 => ?_
 obtain ⟨r106, p112, c113, p115, c116, p118, c119, rfl, R114, R117, R120, hd⟩ := hv109
 have le122 := IH.le.trans hl86 hl108
 replace R3 := R3.mono hl108
 replace R6 := R6.mono hl108
 refine .ks 3 r (.allocA zeroValue32 r r fun b123 => ?_)
 refine .storeA sizeOf32 r r .z (.t (.t (.t (.t (.t .nil))))) r r (.ks 1 r (.nilS [8, 7, 5, 3, 1] r r (.sr (.loadW isAgg25 sizeOf25 r (.s .z) r r r (.loadW isAgg28 sizeOf28 r (.s (.s .z)) r r r ?_)))))
 have hw159 := W_ref21_Matrix (I := I107) R3 R6 hd
 refine .call call9 r hw159 r r fun v148 I145 hl146 hv147 => ?_
 obtain ⟨r144, p150, c151, p153, c154, p156, c157, rfl, R152, R155, R158, hd⟩ := hv147
 have le160 := IH.le.trans le122 hl146
 replace R3 := R3.mono hl146
 replace R6 := R6.mono hl146
 replace R114 := R114.mono hl146
 replace R117 := R117.mono hl146
 replace R120 := R120.mono hl146
 refine .ks 3 r (.allocA zeroValue32 r r fun b161 => ?_)
 refine .storeA sizeOf32 r r .z (.t (.t (.t (.t (.t .nil))))) r r (.ks 1 r (.nilS [10, 9, 8, 7, 3, 1] r r (.drop (.s (.s (.s .z))) (.seq (.dr [0, 1, 2, 4, 3, 5, 6, 7, 8, 9, 10, 11, 13, 14, 15, 12, 16, 17, 18, 19, 20, 21, 22, 23, 25, 26, 27, 28, 24, 29, 30, 31, 32, 33, 34, 35, 36, 37, 38, 39, 40, 41] 42 (.ww r fun ex => ?_))))))
 have hw164 := W_law21_live (I := I145) hd
 refine .callP call7 r hw164 r r fun v165 hv166 => ?_
 obtain ⟨r163, rfl, hd⟩ := hv166
 refine .so 3 r r r trivial (.fk 1 r ?_)
 refine splitP hd (fun hb167 hd => ?_) fun hb167 hd => ?_
 · refine .g r r r (fun _ => .gyes r r hb167 (.loadW isAgg25 sizeOf25 r (.s (.s .z)) r r r .mk)) (.g r r r (fun _ => .gyes r r hb167 (.loadW isAgg25 sizeOf25 r (.s (.s .z)) r r r .mk)) (.ww r fun ex => ?_))
   have hw169 := W_prog_Right (I := I145) R3 hd
   refine .gyes r r hb167 (.callP call10 r hw169 r r fun v170 hv171 => ?_)
   obtain ⟨r168, rfl, hd⟩ := hv171
   refine .so 3 r r r (.cg r r r r (fun _ => .gyes r r hb167 (.loadW isAgg25 sizeOf25 r (.s (.s .z)) r r r .mk)) trivial) (.ww r fun ex => ?_)
   have hw173 := W_ref21_Right (I := I145) R3 hd
   refine .gyes r r hb167 (.callP call11 r hw173 r r fun v174 hv175 => ?_)
   obtain ⟨r172, rfl, hd⟩ := hv175
   refine .so 3 r r r trivial (.g r r r (fun _ => .gyes r r hb167 (.eq r r r r .mk)) (.g r r r (fun _ => .pickT r hb167 r r r .mk) (.fk 1 r ?_)))
   refine splitP hd (fun hb176 hd => ?_) fun hb176 hd => ?_
   · refine .g r r r (fun _ => .gyes r r hb176 (.fa underlying25 r sizeOf22 r (o := 0) r r r .mk)) (.g r r r (fun _ => .gyes r r hb176 (.load1 isAgg22 r (.s (.s .z)) r r r .mk)) (.g r r r (fun _ => .gyes r r hb176 (.move r r r .mk)) (.g r r r (fun _ => .gyes r r hb176 (.fa underlying25 r sizeOf22 r (o := 0) r r r .mk)) (.g r r r (fun _ => .gyes r r hb176 (.load1 isAgg22 r (.s (.s .z)) r r r .mk)) (.g r r r (fun _ => .gyes r r hb176 (.move r r r .mk)) (.ww r fun ex => ?_))))))
     have hw178 := W_prog_Ring (I := I145) hd
     refine .gyes r r hb176 (.callP call12 r hw178 r r fun v179 hv180 => ?_)
     obtain ⟨r177, rfl, hd⟩ := hv180
     refine .so 3 r r r (.cg r r r r (fun _ => .gyes r r hb176 (.move r r r .mk)) (.cg r r r r (fun _ => .gyes r r hb176 (.load1 isAgg22 r (.s (.s .z)) r r r .mk)) (.cg r r r r (fun _ => .gyes r r hb176 (.fa underlying25 r sizeOf22 r (o := 0) r r r .mk)) trivial))) (.ww r fun ex => ?_)
     have hw182 := W_ref21_Ring (I := I145) hd
     refine .gyes r r hb176 (.callP call13 r hw182 r r fun v183 hv184 => ?_)
     obtain ⟨r181, rfl, hd⟩ := hv184
     refine .so 3 r r r trivial (.g r r r (fun _ => .gyes r r hb176 (.eq r r r r .mk)) (.g r r r (fun _ => .pickT r hb176 r r r .mk) (.fk 1 r ?_)))
     refine splitP hd (fun hb185 hd => ?_) fun hb185 hd => ?_
     · refine .g r r r (fun _ => .gyes r r hb185 (.loadW isAgg25 sizeOf25 r (.s (.s .z)) r r r .mk)) (.g r r r (fun _ => .gyes r r hb185 (.move r r r .mk)) (.g r r r (fun _ => .gyes r r hb185 (.fa underlying25 r sizeOf3 r (o := 2) r r r .mk)) (.g r r r (fun _ => .gyes r r hb185 (.load1 isAgg3 r (.s (.s .z)) r r r .mk)) (.g r r r (fun _ => .gyes r r hb185 (.loadW isAgg25 sizeOf25 r (.s (.s .z)) r r r .mk)) (.g r r r (fun _ => .gyes r r hb185 (.move r r r .mk)) (.g r r r (fun _ => .gyes r r hb185 (.fa underlying25 r sizeOf3 r (o := 2) r r r .mk)) (.g r r r (fun _ => .gyes r r hb185 (.load1 isAgg3 r (.s (.s .z)) r r r .mk)) (.ww r fun ex => ?_))))))))
       have hw187 := W_prog_Draw (I := I145) R3 hd
       refine .gyes r r hb185 (.callP call14 r hw187 r r fun v188 hv189 => ?_)
       obtain ⟨r186, rfl, hd⟩ := hv189
       refine .so 3 r r r (.cg r r r r (fun _ => .gyes r r hb185 (.load1 isAgg3 r (.s (.s .z)) r r r .mk)) (.cg r r r r (fun _ => .gyes r r hb185 (.fa underlying25 r sizeOf3 r (o := 2) r r r .mk)) (.cg r r r r (fun _ => .gyes r r hb185 (.move r r r .mk)) (.cg r r r r (fun _ => .gyes r r hb185 (.loadW isAgg25 sizeOf25 r (.s (.s .z)) r r r .mk)) trivial)))) (.ww r fun ex => ?_)
       have hw191 := W_ref21_Draw (I := I145) R3 hd
       refine .gyes r r hb185 (.callP call15 r hw191 r r fun v192 hv193 => ?_)
       obtain ⟨r190, rfl, hd⟩ := hv193
       refine .so 3 r r r trivial (.g r r r (fun _ => .gyes r r hb185 (.eq r r r r .mk)) (.g r r r (fun _ => .pickT r hb185 r r r .mk) (.fk 1 r ?_)))
       refine splitP hd (fun hb194 hd => ?_) fun hb194 hd => ?_
       · refine .g r r r (fun _ => .gyes r r hb194 (.loadW isAgg32 sizeOf32 r (.s .z) r r r .mk)) (.g r r r (fun _ => .gyes r r hb194 (.loadW isAgg32 sizeOf32 r .z r r r .mk)) (.ww r fun ex => ?_))
         have hw196 := W_ref07_Same (I := I145) R114 R117 R120 R152 R155 R158 hd
         refine .gyes r r hb194 (.callP call16 r hw196 r r fun v197 hv198 => ?_)
         obtain ⟨r195, rfl, hd⟩ := hv198
         refine .so 3 r r r trivial (.g r r r (fun _ => .pickT r hb194 r r r .mk) (.fk 1 r ?_))
         refine splitP hd (fun hb199 hd => ?_) fun hb199 hd => ?_
         · rw [hb199]
           exact .fk 4 r (.e2 42 (.ks 1 r (.nilS [6] r r (.drop .z (.drop .z (.drop .z (.ret (pret results3 (.t r .n) le160 ⟨(r106.2 == r144.2), r, hd⟩))))))))
         rw [hb199]
         exact .fk 4 r (.e2 42 (.ks 1 r (.nilS [6] r r (.drop .z (.drop .z (.drop .z (.ret (pret results3 (.t r .n) le160 ⟨false, r, hd⟩))))))))
       refine .g r r r (fun _ => .gno r r hb194 r r .mk) (.g r r r (fun _ => .gno r r hb194 r r .mk) (.g r r r (fun _ => .gno r r hb194 r r .mk) (.g r r r (fun _ => .pickF r hb194 r r r .mk) (.fk 5 r (.e2 42 (.ks 1 r (.nilS [6] r r (.drop .z (.drop .z ?_)))))))))
       exact .drop .z (.ret (pret results3 (.t r .n) le160 ⟨false, r, hd⟩))
     refine .g r r r (fun _ => .gno r r hb185 r r .mk) (.g r r r (fun _ => .gno r r hb185 r r .mk) (.g r r r (fun _ => .gno r r hb185 r r .mk) (.g r r r (fun _ => .gno r r hb185 r r .mk) (.g r r r (fun _ => .gno r r hb185 r r .mk) (.g r r r (fun _ => .gno r r hb185 r r .mk) (.g r r r (fun _ => .gno r r hb185 r r .mk) (.g r r r (fun _ => .gno r r hb185 r r .mk) (.g r r r (fun _ => .gno r r hb185 r r .mk) (.g r r r (fun _ => .gno r r hb185 r r .mk) ?_)))))))))
     exact .g r r r (fun _ => .gno r r hb185 r r .mk) (.g r r r (fun _ => .pickF r hb185 r r r .mk) (.fk 10 r (.e2 42 (.ks 1 r (.nilS [6] r r (.drop .z (.drop .z (.drop .z (.ret (pret results3 (.t r .n) le160 ⟨false, r, hd⟩))))))))))
   refine .g r r r (fun _ => .gno r r hb176 r r .mk) (.g r r r (fun _ => .gno r r hb176 r r .mk) (.g r r r (fun _ => .gno r r hb176 r r .mk) (.g r r r (fun _ => .gno r r hb176 r r .mk) (.g r r r (fun _ => .gno r r hb176 r r .mk) (.g r r r (fun _ => .gno r r hb176 r r .mk) (.g r r r (fun _ => .gno r r hb176 r r .mk) (.g r r r (fun _ => .gno r r hb176 r r .mk) (.g r r r (fun _ => .gno r r hb176 r r .mk) (.g r r r (fun _ => .pickF r hb176 r r r .mk) ?_)))))))))
   exact .fk 23 r (.e2 42 (.ks 1 r (.nilS [6] r r (.drop .z (.drop .z (.drop .z (.ret (pret results3 (.t r .n) le160 ⟨false, r, hd⟩))))))))
 refine .g r r r (fun _ => .gno r r hb167 r r .mk) (.g r r r (fun _ => .gno r r hb167 r r .mk) (.g r r r (fun _ => .gno r r hb167 r r .mk) (.g r r r (fun _ => .gno r r hb167 r r .mk) (.g r r r (fun _ => .gno r r hb167 r r .mk) (.g r r r (fun _ => .pickF r hb167 r r r .mk) (.fk 34 r (.e2 42 (.ks 1 r (.nilS [6] r r ?_)))))))))
 exact .drop .z (.drop .z (.drop .z (.ret (pret results3 (.t r .n) le160 ⟨false, r, hd⟩))))

end Go.Proofs.YtggmiaebkplnlaaGreat
