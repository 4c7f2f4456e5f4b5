/- The walks (printed by a program of ours). -/
import Derived.Test.YtdfiinkpdaggeaaGreatV2
namespace Go.Proofs.YtdfiinkpdaggeaaGreat
open Go Go.Fw
set_option linter.unusedVariables false
set_option linter.unusedSimpArgs false
set_option maxRecDepth 8000
set_option maxHeartbeats 1000000
open Tryz
theorem W_ref03_Has {I : IH} {a0 : List Int} {a1 : Int} {p1 : Option Addr} {c2 : Nat} {Q : Bool → Prop} (R3 : RepSl eU64 I p1 c2 a0) (hd : ref03_Has a0 a1 Q) :
    PFun Tryz.prog 82 [.slice p1 a0.length c2, .int .i64 a1] I (fun I_ v => ∃ r, v = .bool r ∧ Q r) := by
 refine Fun.enter func82 r ntmps82 r (.c (.c .n)) fun w0 M => ?_
 refine .seq (.region (.skips 1 r (.nilS [1, 0] r r (.seq (.region (.skips 1 r (.ge r r r r (.skips 1 r ?_))))))))
 refine splitP hd (fun hb4 hd => ?_) fun hb4 hd => ?_
 · rw [hb4]
   refine .gyes r r r (.move r r r (.gyes r r r (.quo r r (by decide) r r (.gyes r r r (.move r r r (.gyes r r r (.len underlying26 r r r r (.gyes r r r (.lt r r r r (.skips 2 r ?_))))))))))
   refine splitP hd (fun hb5 hd => ?_) fun hb5 hd => ?_
   · rw [hb5]
     refine .gyes r r r (.move r r r (.gyes r r r (.move r r r (.gyes r r r (.quo r r (by decide) r r ?_)))))
     obtain ⟨h6, x7, hx8, hd⟩ := hd
     obtain ⟨b9, o10, cs11, e12, hC13, hr14⟩ := R3.2 _ _ hx8
     cases hr14
     refine .gyes r r r (.ixa underlying26 sizeOf85 r e12 r h6 (idx_lt hx8 h6) r r (.gyes r r r (.ld1 (j := 0) isAgg85 hC13 r r r r r (.gyes r r r (.move r r r (.gyes r r r (.rem r r (by decide) r r (.gyes r r r (.conv underlying3 underlying164 r r r ?_)))))))))
     obtain ⟨hz15, hd⟩ := hd
     exact .gyes r r r (.shr' r r hz15 r r (.gyes r r r (.and r r r r (.gyes r r r (.eq r r r r (.skips 2 r (.nilS [4] r r (.ret (pret results82 (.t r .n) (.refl _) ⟨((bnd .u64 (shr .u64 x7 (IntKind.wrap .u64 (a1.tmod 64))) 1) == 1), r, hd⟩)))))))))
   rw [hb5]
   exact .skips 13 r (.nilS [4] r r (.ret (pret results82 (.t r .n) (.refl _) ⟨false, r, hd⟩)))
 rw [hb4]
 exact .skips 20 r (.nilS [4] r r (.ret (pret results82 (.t r .n) (.refl _) ⟨false, r, hd⟩)))

theorem W_ref03_List {I : IH} {a0 : List Int} {p1 : Option Addr} {c2 : Nat} {Q : (List Int) → Prop} (R3 : RepSl eU64 I p1 c2 a0) (hd : ref03_List a0 Q) :
    PFun Tryz.prog 131 [.slice p1 a0.length c2] I (fun I_ v => ∃ r p4 c5, v = .slice p4 r.length c5 ∧ RepSl eI64 I_ p4 c5 r ∧ Q r) := by
 refine Fun.enter func131 r ntmps131 r (.c .n) fun w0 M => ?_
 refine .seq (.region (.skips 1 r (.nilS [0] r r (.seq (.region (.skips 1 r (.nilS [3, 0] r r (.seq (.seq ?_)))))))))
 refine .region (.skips 1 r (.nilS [4, 3, 0] r r (.block (.own0 eI64 3 (.loop hd (fun (s : (List Int) × Int) c w => match s with | (s49, s53) => ∃ I_ p50 c51, IH.le I I_ ∧ Ok ⟨20, [], none⟩ [(0, .slice p1 a0.length c2), (3, .slice p50 s49.length c51), (4, .int .i64 s53)] c ∧ Sym w0 M I I_ [OwnSl eI64 3 p50 c51 s49] w) (fun c w ho hs => ⟨I, _, _, (.refl _), ho.sub ⟨r, r, r, trivial⟩, hs.pick (.c .z .n)⟩) ?_)))))
 rintro ⟨s49, s53⟩ next55 hd c w hst
 obtain ⟨I56, p50, c51, hl57, hok, hsym⟩ := hst
 have le58 := IH.le.trans (.refl _) hl57
 replace R3 := R3.mono hl57
 refine Cod.at hok hsym (.seq (.seq (.region (.skips 2 r (.len underlying26 r r r r (.mul r r r r (.lt r r r r (.nilS [9, 4, 3, 0] r r (.condP r hd (fun hb60 hd => ?_) fun hb60 hd => ?_)))))))))
 · refine .skipS [4, 3, 0] r r (.seq (.block (.seq (.region (.skips 2 r ?_)))))
   have hw62 := W_ref03_Has (I := I56) R3 hd
   refine .callP call82 r hw62 r r fun v63 hv64 => ?_
   obtain ⟨r61, rfl, hd⟩ := hv64
   refine .nilS [14, 4, 3, 0] r r (.condP r hd (fun hb65 hd => ?_) fun hb65 hd => ?_)
   · refine .region (.skips 2 r (.buildSlice 1 underlying29 sizeOf3 zeroValue3 r r (.c r r r .n) r r fun b66 => ?_))
     obtain ⟨hl68, hd⟩ := hd
     refine .append (ys := [s53]) 8 (.s .z) underlying29 underlying29 IN3 r r r r r r r r r (.box .z (.one r) r) hl68 r r fun p69 c70 => ?_
     exact .sub (E' := [(0, _), (4, _), (14, _), (15, _), (16, _), (17, _), (18, _)]) ⟨r, r, r, r, r, r, r, trivial⟩ (.skips 1 r (.nilS [3, 4, 0] r r (.drop (.s .z) (.region (.skips 1 r (.add r r r r (.sub (E' := [(0, _), (3, _), (10, _), (11, _)]) ⟨r, r, r, r, trivial⟩ (.skips 1 r (.nil' fun c w ho hs => ⟨((s49 ++ ([s53])), w64 (s53 + 1)), hd, I56, _, _, le58, ho.sub ⟨r, r, r, trivial⟩, hs.pick (.c .z .n)⟩)))))))))
   exact .skipS [4, 3, 0] r r (.region (.skips 1 r (.add r r r r (.sub (E' := [(0, _), (3, _), (10, _), (11, _)]) ⟨r, r, r, r, trivial⟩ (.skips 1 r (.nil' fun c w ho hs => ⟨(s49, w64 (s53 + 1)), hd, I56, _, _, le58, ho.sub ⟨r, r, r, trivial⟩, hs.pick (.c .z .n)⟩))))))
 refine .exitS [3] r r (.seq (.region (.skips 2 r (.nilS [2] r r (.pub .z fun I72 hl73 R74 => ?_)))))
 have le75 := IH.le.trans le58 hl73
 exact .ret (pret results131 (.t r .n) le75 ⟨s49, _, _, r, R74, hd⟩)

theorem W_ref03_words {I : IH} {a0 : Int}  {Q : Int → Prop}  (hd : ref03_words a0 Q) :
    PFun Tryz.prog 167 [.int .i64 a0] I (fun I_ v => ∃ r, v = .int .i64 r ∧ Q r) := by
 refine Fun.enter func167 r ntmps167 r (.c .n) fun w0 M => ?_
 refine .seq (.region (.skips 1 r (.nilS [0] r r (.seq ?_))))
 refine Cod.joinQ (σ := Int) hd (fun (s3 : Int) c w => ∃ I_, IH.le I I_ ∧ Ok ⟨10, [], none⟩ [(0, .int .i64 s3)] c ∧ Sym w0 M I I_ [] w) (fun k4 hd => ?_) ?_
 · skip
   refine .seq (.region (.skips 1 r (.gt r r r r (.nilS [4, 0] r r (.condP r hd (fun hb5 hd => ?_) fun hb5 hd => ?_)))))
   · exact .region (.sub (E' := [(4, _)]) ⟨r, trivial⟩ (.skips 1 r (.nil' fun c w ho hs => ⟨4096, hd, I, (.refl _), ho.sub ⟨r, trivial⟩, hs.pick .n⟩)))
   exact .skip' fun c w ho hs => ⟨a0, hd, I, (.refl _), ho.sub ⟨r, trivial⟩, hs.pick .n⟩
 rintro s3 hd c w hst
 obtain ⟨I6, hl7, hok, hsym⟩ := hst
 have le8 := IH.le.trans (.refl _) hl7
 refine Cod.at hok hsym (.seq (.seq (.region (.skips 1 r (.lt r r r r (.nilS [6, 0] r r (.condP r hd (fun hb9 hd => ?_) fun hb9 hd => ?_)))))))
 · exact .seq (.region (.skips 1 r (.nilS [2] r r (.ret (pret results167 (.t r .n) le8 ⟨0, r, hd⟩)))))
 exact .skipS [0] r r (.seq (.region (.skips 1 r (.add r r r r (.quo r r (by decide) r r (.skips 1 r (.nilS [2] r r (.ret (pret results167 (.t r .n) le8 ⟨(w64 ((w64 (s3 + 63)).tdiv 64)), r, hd⟩)))))))))

theorem W_ref03_Right {I : IH} {a0 : List Int} {a1 : Int} {p1 : Option Addr} {c2 : Nat} {Q : Bool → Prop} (R3 : RepSl eU64 I p1 c2 a0) (hd : ref03_Right a0 a1 Q) :
    PFun Tryz.prog 165 [.slice p1 a0.length c2, .int .i64 a1] I (fun I_ v => ∃ r, v = .bool r ∧ Q r) := by
 refine Fun.enter func165 r ntmps165 r (.c (.c .n)) fun w0 M => ?_
 refine .seq (.region (.skips 1 r (.nilS [1, 0] r r (.seq (.seq (.region (.skips 1 r (.lt r r r r (.skips 1 r ?_)))))))))
 refine splitP hd (fun hb11 hd => ?_) fun hb11 hd => ?_
 · rw [hb11]
   exact .skips 10 r (.nilS [18, 1, 0] r r (.condKT r r (.seq (.region (.skips 1 r (.nilS [4] r r (.ret (pret results165 (.t r .n) (.refl _) ⟨false, r, hd⟩))))))))
 rw [hb11]
 refine .gyes r r r (.move r r r (.gyes r r r (.gt r r r r (.skips 2 r ?_))))
 refine splitP hd (fun hb12 hd => ?_) fun hb12 hd => ?_
 · rw [hb12]
   exact .skips 6 r (.nilS [18, 1, 0] r r (.condKT r r (.seq (.region (.skips 1 r (.nilS [4] r r (.ret (pret results165 (.t r .n) (.refl _) ⟨false, r, hd⟩))))))))
 rw [hb12]
 refine .gyes r r r (.move r r r (.gyes r r r (.len underlying26 r r r r (.gyes r r r (.move r r r ?_)))))
 have hw14 := W_ref03_words (I := I) hd
 refine .gyes r r r (.callP call167 r hw14 r r fun v15 hv16 => ?_)
 obtain ⟨r13, rfl, hd⟩ := hv16
 refine .gyes r r r (.ne r r r r (.skips 1 r (.nilS [18, 1, 0] r r (.condP r hd (fun hb17 hd => ?_) fun hb17 hd => ?_))))
 · exact .seq (.region (.skips 1 r (.nilS [4] r r (.ret (pret results165 (.t r .n) (.refl _) ⟨false, r, hd⟩)))))
 refine .skipS [1, 0] r r (.seq (.region (.skips 1 r ?_)))
 have hw38 := W_ref03_List (I := I) R3 hd
 refine .call call131 r hw38 r r fun v33 I30 hl31 hv32 => ?_
 obtain ⟨r29, p35, c36, rfl, R37, hd⟩ := hv32
 have le39 := IH.le.trans (.refl _) hl31
 replace R3 := R3.mono hl31
 refine .skips 1 r (.nilS [5, 1] r r (.seq (.region (.skips 1 r (.len underlying29 r r r r (.eq r r r r (.skips 1 r ?_)))))))
 refine splitP hd (fun hb40 hd => ?_) fun hb40 hd => ?_
 · rw [hb40]
   exact .skips 10 r (.nilS [4] r r (.ret (pret results165 (.t r .n) le39 ⟨true, r, hd⟩)))
 rw [hb40]
 refine .gyes r r r (.move r r r (.gyes r r r (.move r r r (.gyes r r r (.len underlying29 r r r r (.gyes r r r (.sub' r r r r ?_)))))))
 obtain ⟨h41, x42, hx43, hd⟩ := hd
 obtain ⟨b44, o45, cs46, e47, hC48, hr49⟩ := R37.2 _ _ hx43
 cases hr49
 exact .gyes r r r (.ixa underlying29 sizeOf3 r e47 r h41 (idx_lt hx43 h41) r r (.gyes r r r (.ld1 (j := 0) isAgg3 hC48 r r r r r (.gyes r r r (.move r r r (.gyes r r r (.lt r r r r (.skips 2 r (.nilS [4] r r (.ret (pret results165 (.t r .n) le39 ⟨(decide (x42 < a1)), r, hd⟩)))))))))))

theorem W_ref10_Right {I : IH} {a0 : Dense} {p1 : Option Addr} {c2 : Nat} {p4 : Option Addr} {c5 : Nat} {Q : Bool → Prop} (R3 : RepSl eU64 I p1 c2 a0.Has) (R6 : RepSl eI64 I p4 c5 a0.Vals) (hd : ref10_Right a0 Q) :
    PFun Tryz.prog 130 [.agg #[.int .i64 a0.N, .slice p1 a0.Has.length c2, .slice p4 a0.Vals.length c5]] I (fun I_ v => ∃ r, v = .bool r ∧ Q r) := by
 refine Fun.enter func130 r ntmps130 r (.c .n) fun w0 M => ?_
 refine .seq (.region (.boxA r r r fun b9 => ?_))
 refine .skips 1 r (.nilS [1] r r (.seq (.seq (.region (.fieldAddr underlying62 r sizeOf3 r (o := 0) r r r (.load1 isAgg3 r .z r r r (.lt r r r r (.skips 1 r ?_))))))))
 refine splitP hd (fun hb19 hd => ?_) fun hb19 hd => ?_
 · rw [hb19]
   exact .skips 20 r (.nilS [27, 1] r r (.condKT r r (.seq (.region (.skips 1 r (.nilS [2] r r (.drop .z (.ret (pret results130 (.t r .n) (.refl _) ⟨false, r, hd⟩)))))))))
 rw [hb19]
 refine .gyes r r r (.fieldAddr underlying62 r sizeOf3 r (o := 0) r r r (.gyes r r r (.load1 isAgg3 r .z r r r (.gyes r r r (.gt r r r r (.skips 2 r ?_))))))
 refine splitP hd (fun hb20 hd => ?_) fun hb20 hd => ?_
 · rw [hb20]
   exact .skips 15 r (.nilS [27, 1] r r (.condKT r r (.seq (.region (.skips 1 r (.nilS [2] r r (.drop .z (.ret (pret results130 (.t r .n) (.refl _) ⟨false, r, hd⟩)))))))))
 rw [hb20]
 refine .gyes r r r (.fieldAddr underlying62 r sizeOf26 r (o := 1) r r r (.gyes r r r (.load1 isAgg26 r .z r r r (.gyes r r r (.fieldAddr underlying62 r sizeOf3 r (o := 0) r r r (.gyes r r r (.load1 isAgg3 r .z r r r ?_)))))))
 have hw22 := W_ref03_Right (I := I) R3 hd
 refine .gyes r r r (.callP call165 r hw22 r r fun v23 hv24 => ?_)
 obtain ⟨r21, rfl, hd⟩ := hv24
 refine .gyes r r r (.not r r r (.skips 2 r ?_))
 refine splitP hd (fun hb25 hd => ?_) fun hb25 hd => ?_
 · rw [hb25]
   exact .skips 7 r (.nilS [27, 1] r r (.condKT r r (.seq (.region (.skips 1 r (.nilS [2] r r (.drop .z (.ret (pret results130 (.t r .n) (.refl _) ⟨false, r, hd⟩)))))))))
 rw [hb25]
 refine .gyes r r r (.fieldAddr underlying62 r sizeOf30 r (o := 2) r r r (.gyes r r r (.load1 isAgg30 r .z r r r (.gyes r r r (.len underlying30 r r r r (.gyes r r r (.fieldAddr underlying62 r sizeOf3 r (o := 0) r r r (.gyes r r r (.load1 isAgg3 r .z r r r (.gyes r r r (.ne r r r r (.skips 1 r (.nilS [27, 1] r r (.condP r hd (fun hb26 hd => ?_) fun hb26 hd => ?_))))))))))))))
 · exact .seq (.region (.skips 1 r (.nilS [2] r r (.drop .z (.ret (pret results130 (.t r .n) (.refl _) ⟨false, r, hd⟩))))))
 refine .skipS [1] r r (.seq (.seq (.region (.skips 1 r (.nilS [3, 1] r r (.block (.loop hd (fun (s64 : Int) c w => ∃ I_, IH.le I I_ ∧ Ok ⟨47, [], none⟩ [(1, .pointer (some ⟨b9, 0, none⟩)), (3, .int .i64 s64)] c ∧ Sym w0 M I I_ [pto b9 (.cells #[.int .i64 a0.N, .slice p1 a0.Has.length c2, .slice p4 a0.Vals.length c5] 62 (0, 0))] w) (fun c w ho hs => ⟨I, (.refl _), ho.sub ⟨r, r, trivial⟩, hs.pick (.c .z .n)⟩) ?_)))))))
 rintro s64 next65 hd c w hst
 obtain ⟨I66, hl67, hok, hsym⟩ := hst
 have le68 := IH.le.trans (.refl _) hl67
 replace R3 := R3.mono hl67
 replace R6 := R6.mono hl67
 refine Cod.at hok hsym (.seq (.seq (.region (.skips 1 r (.fieldAddr underlying62 r sizeOf3 r (o := 0) r r r (.load1 isAgg3 r .z r r r (.lt r r r r (.nilS [31, 3, 1] r r (.condP r hd (fun hb70 hd => ?_) fun hb70 hd => ?_)))))))))
 · refine .skipS [3, 1] r r (.seq (.block (.seq (.region (.fieldAddr underlying62 r sizeOf26 r (o := 1) r r r (.load1 isAgg26 r .z r r r (.skips 1 r ?_)))))))
   have hw72 := W_ref03_Has (I := I66) R3 hd
   refine .callP call82 r hw72 r r fun v73 hv74 => ?_
   obtain ⟨r71, rfl, hd⟩ := hv74
   refine .not r r r (.skips 1 r ?_)
   refine splitP hd (fun hb75 hd => ?_) fun hb75 hd => ?_
   · rw [hb75]
     refine .gyes r r r (.fieldAddr underlying62 r sizeOf30 r (o := 2) r r r (.gyes r r r (.load1 isAgg30 r .z r r r (.gyes r r r (.move r r r ?_)))))
     obtain ⟨h76, x77, hx78, hd⟩ := hd
     obtain ⟨b79, o80, cs81, e82, hC83, hr84⟩ := R6.2 _ _ hx78
     cases hr84
     refine .gyes r r r (.ixa underlying30 sizeOf2 r e82 r h76 (idx_lt hx78 h76) r r (.gyes r r r (.ld1 (j := 0) isAgg2 hC83 r r r r r (.gyes r r r (.ne r r r r (.skips 1 r (.nilS [46, 3, 1] r r (.condP r hd (fun hb85 hd => ?_) fun hb85 hd => ?_))))))))
     · exact .seq (.region (.skips 1 r (.nilS [2] r r (.drop .z (.ret (pret results130 (.t r .n) le68 ⟨false, r, hd⟩))))))
     exact .skipS [3, 1] r r (.region (.skips 1 r (.add r r r r (.sub (E' := [(1, _), (32, _), (33, _)]) ⟨r, r, r, trivial⟩ (.skips 1 r (.nil' fun c w ho hs => ⟨(w64 (s64 + 1)), hd, I66, le68, ho.sub ⟨r, r, trivial⟩, hs.pick (.c .z .n)⟩))))))
   rw [hb75]
   exact .skips 7 r (.nilS [46, 3, 1] r r (.condKF r r (.skipS [3, 1] r r (.region (.skips 1 r (.add r r r r (.sub (E' := [(1, _), (32, _), (33, _)]) ⟨r, r, r, trivial⟩ (.skips 1 r (.nil' fun c w ho hs => ⟨(w64 (s64 + 1)), hd, I66, le68, ho.sub ⟨r, r, trivial⟩, hs.pick (.c .z .n)⟩)))))))))
 exact .exitS [] r r (.drop .z (.seq (.region (.skips 1 r (.nilS [2] r r (.ret (pret results130 (.t r .n) le68 ⟨true, r, hd⟩)))))))

theorem W_ref10_Back {I : IH} {a0 : Dense} {p1 : Option Addr} {c2 : Nat} {p4 : Option Addr} {c5 : Nat} {Q : Vec → Prop} (R3 : RepSl eU64 I p1 c2 a0.Has) (R6 : RepSl eI64 I p4 c5 a0.Vals) (hd : ref10_Back a0 Q) :
    PFun Tryz.prog 80 [.agg #[.int .i64 a0.N, .slice p1 a0.Has.length c2, .slice p4 a0.Vals.length c5]] I (fun I_ v => ∃ r p7 c8, v = .agg #[.int .i64 r.N, .slice p7 r.Items.length c8] ∧ RepSl eItem I_ p7 c8 r.Items ∧ Q r) := by
 refine Fun.enter func80 r ntmps80 r (.c .n) fun w0 M => ?_
 refine .seq (.region (.boxA r r r fun b14 => ?_))
 refine .allocA zeroValue38 r r fun b16 => ?_
 refine .nilS [2, 1] r r (.seq (.seq (.region (.loadW isAgg62 sizeOf62 r (.s .z) r r r ?_))))
 have hw24 := W_ref10_Right (I := I) R3 R6 hd
 refine .callP call130 r hw24 r r fun v25 hv26 => ?_
 obtain ⟨r23, rfl, hd⟩ := hv26
 refine .not r r r (.nilS [8, 2, 1] r r (.condP r hd (fun hb27 hd => ?_) fun hb27 hd => ?_))
 · exact .seq (.region (.build zeroValue38 underlying38 BI38 .n (by exact trivial) r r (.storeA sizeOf38 r r .z (.t (.t .nil)) r r (.nilS [2] r r (.drop (.s .z) (.ret (pret results80 (.w isAgg38 sizeOf38 r .z r .n) (.refl _) ⟨({ N := 0, Items := ([] : List Item) } : Vec), _, _, r, (.nil _ _ _), hd⟩)))))))
 refine .skipS [2, 1] r r (.seq (.region (.fieldAddr underlying62 r sizeOf3 r (o := 0) r r r (.load1 isAgg3 r (.s .z) r r r (.build zeroValue38 underlying38 BI38 (.c r r r (.t .nil) .n) (by exact ⟨⟨_, _, r, r, r⟩, trivial⟩) r r (.allocA zeroValue38 r r fun b30 => ?_))))))
 refine .storeA sizeOf38 r r .z (.t (.t .nil)) r r (.nilS [3, 2, 1] r r (.seq (.region (.fieldAddr underlying62 r sizeOf26 r (o := 1) r r r (.load1 isAgg26 r (.s (.s .z)) r r r ?_)))))
 have hw52 := W_ref03_List (I := I) R3 hd
 refine .call call131 r hw52 r r fun v47 I44 hl45 hv46 => ?_
 obtain ⟨r43, p49, c50, rfl, R51, hd⟩ := hv46
 have le53 := IH.le.trans (.refl _) hl45
 replace R3 := R3.mono hl45
 replace R6 := R6.mono hl45
 refine .skips 1 r (.nilS [4, 3, 2, 1] r r (.seq (.seq (.region (.skips 1 r (.nilS [5, 4, 3, 2, 1] r r (.block (.own0 eItem 67 (.loop hd (fun (s : (List Item) × Int) c w => match s with | (s141, s145) => ∃ I_ p142 c143, IH.le I44 I_ ∧ Ok ⟨41, [], none⟩ [(1, .pointer (some ⟨b14, 0, none⟩)), (2, .pointer (some ⟨b16, 0, none⟩)), (3, .pointer (some ⟨b30, 0, none⟩)), (4, .slice p49 r43.length c50), (5, .int .i64 s145)] c ∧ Sym w0 M I I_ [pto b14 (.cells #[.int .i64 a0.N, .slice p1 a0.Has.length c2, .slice p4 a0.Vals.length c5] 62 (0, 0)), pto b16 (.cells #[.int .i64 0, .slice none 0 0] 38 (0, 0)), pto b30 (.cells #[.int .i64 a0.N, .slice p142 s141.length c143] 38 (0, 0)), OwnSl eItem 67 p142 c143 s141] w) (fun c w ho hs => ⟨I44, _, _, (.refl _), ho.sub ⟨r, r, r, r, r, trivial⟩, hs.pick (.c (.s (.s (.s .z))) (.c (.s (.s .z)) (.c (.s .z) (.c .z .n))))⟩) ?_)))))))))
 rintro ⟨s141, s145⟩ next147 hd c w hst
 obtain ⟨I148, p142, c143, hl149, hok, hsym⟩ := hst
 have le150 := IH.le.trans le53 hl149
 have le151 := IH.le.trans (.refl _) hl149
 replace R3 := R3.mono hl149
 replace R6 := R6.mono hl149
 replace R51 := R51.mono hl149
 refine Cod.at hok hsym (.seq (.seq (.region (.skips 2 r (.len underlying29 r r r r (.lt r r r r (.nilS [19, 5, 4, 3, 2, 1] r r (.condP r hd (fun hb153 hd => ?_) fun hb153 hd => ?_))))))))
 · refine .skipS [5, 4, 3, 2, 1] r r (.seq (.block (.ownF (.s (.s (.s .z))) fun hne154 => ?_)))
   refine .draw [some 0, some 1, some 2, some 3, some 4, some 5, some 6, some 7, some 8, some 9, some 10, some 11, some 12, some 13, some 14, some 15, some 16] 17 MX (by kernel_rfl) (by kernel_rfl) (by kernel_rfl) (by kernel_rfl) (by kernel_rfl) (by kernel_rfl) (by kernel_rfl) (fun ex => (pto b14 (.cells #[.int .i64 a0.N, .slice p1 a0.Has.length c2, .slice p4 a0.Vals.length c5] 62 (0, 0))) :: (pto b16 (.cells #[.int .i64 0, .slice none 0 0] 38 (0, 0))) :: (pto b30 (.cells #[.int .i64 a0.N, .slice p142 s141.length c143] 38 (0, 0))) :: (OwnSl eItem 67 p142 c143 s141) :: ex) (fun _ _ => (.s (.s (.s (.s .z))))) r (.f [] r (by kernel_rfl) r r (fun ex => .fieldAddr underlying38 r sizeOf25 r (o := 1) r r r .mk) (.f [0] r (by kernel_rfl) r r (fun ex => .load1 isAgg25 r (.s (.s .z)) r r r .mk) (.fs [[], []] r (by kernel_rfl) ?_)))
   obtain ⟨h155, x156, hx157, hd⟩ := hd
   obtain ⟨b158, o159, cs160, e161, hC162, hr163⟩ := R51.2 _ _ hx157
   cases hr163
   refine .f [2, 3] r (by kernel_rfl) r r (fun ex => .ixa underlying29 sizeOf3 r e161 r h155 (idx_lt hx157 h155) r r .mk) (.f [4] r (by kernel_rfl) r r (fun ex => .ld1 (j := 0) isAgg3 hC162 r r r r r .mk) (.f [] r (by kernel_rfl) r r (fun ex => .fieldAddr underlying62 r sizeOf30 r (o := 2) r r r .mk) (.f [6] r (by kernel_rfl) r r (fun ex => .load1 isAgg30 r .z r r r .mk) (.fs [[], []] r (by kernel_rfl) ?_))))
   obtain ⟨h164, x165, hx166, hd⟩ := hd
   obtain ⟨b167, o168, cs169, e170, hC171, hr172⟩ := R51.2 _ _ hx166
   cases hr172
   refine .f [8, 9] r (by kernel_rfl) r r (fun ex => .ixa underlying29 sizeOf3 r e170 r h164 (idx_lt hx166 h164) r r .mk) (.f [10] r (by kernel_rfl) r r (fun ex => .ld1 (j := 0) isAgg3 hC171 r r r r r .mk) ?_)
   obtain ⟨h173, x174, hx175, hd⟩ := hd
   obtain ⟨b176, o177, cs178, e179, hC180, hr181⟩ := R6.2 _ _ hx175
   cases hr181
   refine .f [7, 11] r (by kernel_rfl) r r (fun ex => .ixa underlying30 sizeOf2 r e179 r h173 (idx_lt hx175 h173) r r .mk) (.f [12] r (by kernel_rfl) r r (fun ex => .ld1 (j := 0) isAgg2 hC180 r r r r r .mk) (.f [5, 13] r (by kernel_rfl) r r (fun ex => .build zeroValue67 underlying67 BI67 (.c r r r (.t .nil) (.c r r r (.s (.t .nil)) .n)) (by exact ⟨⟨_, _, r, r, r⟩, ⟨⟨_, _, r, r, r⟩, trivial⟩⟩) r r .mk) (.w [1, 0] [[], [14], [13, 14], [12, 13, 14], [11, 12, 13, 14], [10, 11, 12, 13, 14], [10, 11, 12, 13, 14], [12, 13, 14], [7, 12, 13, 14], [14], [5, 14], [4, 5, 14], [4, 5, 14]] [14] r (by kernel_rfl) (by kernel_rfl) (by kernel_rfl) ((dropE_kept r r)) (.inr (dropE_kept r r)) fun ex => ?_)))
   refine .buildSlice 1 underlying25 sizeOf67 zeroValue67 r r (.c r r r .n) r r fun b182 => ?_
   refine .some (fun ex => (pto b182 (.cells #[.int .i64 x156, .int .i64 x174] 67 (0, 0))) :: (pto b14 (.cells #[.int .i64 a0.N, .slice p1 a0.Has.length c2, .slice p4 a0.Vals.length c5] 62 (0, 0))) :: (pto b16 (.cells #[.int .i64 0, .slice none 0 0] 38 (0, 0))) :: (pto b30 (.cells #[.int .i64 a0.N, .slice p142 s141.length c143] 38 (0, 0))) :: (OwnSl eItem 67 p142 c143 s141) :: ex) r (fun _ _ => (.s (.s (.s (.s (.s .z)))))) r (.cc [0] r (by kernel_rfl) r r r (fun ex => .load1 isAgg25 r (.s (.s (.s .z))) r r r .mk) (.cc [] r (by kernel_rfl) r r r (fun ex => .fieldAddr underlying38 r sizeOf25 r (o := 1) r r r .mk) trivial)) (.w [] [[], [1]] [1, 15] r (by kernel_rfl) (by kernel_rfl) (by kernel_rfl) ((dropE_kept r r)) (.inr (dropE_kept r r)) fun ex => ?_)
   obtain ⟨hl184, hd⟩ := hd
   refine .append (ys := [({ At := x156, Val := x174 } : Item)]) 16 (.s (.s (.s (.s .z)))) underlying25 underlying25 IN67 r r r r r r r r r (.box .z (.one r) r) hl184 r r fun p185 c186 => ?_
   refine .some (fun ex => (OwnSl eItem 67 p185 c186 (s141 ++ ([({ At := x156, Val := x174 } : Item)]))) :: (pto b182 (.cells #[.int .i64 x156, .int .i64 x174] 67 (0, 0))) :: (pto b14 (.cells #[.int .i64 a0.N, .slice p1 a0.Has.length c2, .slice p4 a0.Vals.length c5] 62 (0, 0))) :: (pto b16 (.cells #[.int .i64 0, .slice none 0 0] 38 (0, 0))) :: (pto b30 (.cells #[.int .i64 a0.N, .slice p142 s141.length c143] 38 (0, 0))) :: ex) r (fun _ _ => (.s (.s (.s (.s (.s .z)))))) r trivial (.e 17 (by kernel_rfl) (by kernel_rfl) (by kernel_rfl) (.fieldAddr underlying38 r sizeOf25 r (o := 1) r r r (.store1 sizeOf25 r r (.s (.s (.s (.s .z)))) (.s (.t .nil)) r (.nilS [5, 4, 3, 2, 1] r r (.drop (.s .z) (.region (.skips 1 r (.add r r r r (.sub (E' := [(1, _), (2, _), (3, _), (4, _), (20, _), (21, _)]) ⟨r, r, r, r, r, r, trivial⟩ ?_)))))))))
   exact .skips 1 r (.nil' fun c w ho hs => ⟨((s141 ++ ([({ At := x156, Val := x174 } : Item)])), w64 (s145 + 1)), hd, I148, _, _, le151, ho.sub ⟨r, r, r, r, r, trivial⟩, hs.pick (.c (.s .z) (.c (.s .z) (.c (.s .z) (.c .z .n))))⟩)
 refine .exitS [3, 2] r r (.drop .z (.seq (.region (.loadW isAgg38 sizeOf38 r (.s .z) r r r (.storeA sizeOf38 r r .z (.t (.t .nil)) r r (.nilS [2] r r (.drop (.s .z) (.pub (.s .z) fun I188 hl189 R190 => ?_))))))))
 have le191 := IH.le.trans le150 hl189
 have le192 := IH.le.trans le151 hl189
 exact .ret (pret results80 (.w isAgg38 sizeOf38 r .z r .n) le191 ⟨({ N := a0.N, Items := s141 } : Vec), _, _, r, R190, hd⟩)

theorem W_ref09_Right {I : IH} {a0 : Vec} {p1 : Option Addr} {c2 : Nat} {Q : Bool → Prop} (R3 : RepSl eItem I p1 c2 a0.Items) (hd : ref09_Right a0 Q) :
    PFun Tryz.prog 98 [.agg #[.int .i64 a0.N, .slice p1 a0.Items.length c2]] I (fun I_ v => ∃ r, v = .bool r ∧ Q r) := by
 refine Fun.enter func98 r ntmps98 r (.c .n) fun w0 M => ?_
 refine .seq (.region (.boxA r r r fun b6 => ?_))
 refine .skips 1 r (.nilS [1] r r (.seq (.seq (.region (.fieldAddr underlying38 r sizeOf3 r (o := 0) r r r (.load1 isAgg3 r .z r r r (.lt r r r r (.skips 1 r ?_))))))))
 refine splitP hd (fun hb10 hd => ?_) fun hb10 hd => ?_
 · rw [hb10]
   exact .skips 4 r (.nilS [11, 1] r r (.condKT r r (.seq (.region (.skips 1 r (.nilS [2] r r (.drop .z (.ret (pret results98 (.t r .n) (.refl _) ⟨false, r, hd⟩)))))))))
 rw [hb10]
 refine .gyes r r r (.fieldAddr underlying38 r sizeOf3 r (o := 0) r r r (.gyes r r r (.load1 isAgg3 r .z r r r (.gyes r r r (.gt r r r r (.skips 1 r (.nilS [11, 1] r r (.condP r hd (fun hb11 hd => ?_) fun hb11 hd => ?_))))))))
 · exact .seq (.region (.skips 1 r (.nilS [2] r r (.drop .z (.ret (pret results98 (.t r .n) (.refl _) ⟨false, r, hd⟩))))))
 refine .skipS [1] r r (.seq (.seq (.region (.skips 1 r (.nilS [3, 1] r r (.block (.loop hd (fun (s79 : Int) c w => ∃ I_, IH.le I I_ ∧ Ok ⟨57, [], none⟩ [(1, .pointer (some ⟨b6, 0, none⟩)), (3, .int .i64 s79)] c ∧ Sym w0 M I I_ [pto b6 (.cells #[.int .i64 a0.N, .slice p1 a0.Items.length c2] 38 (0, 0))] w) (fun c w ho hs => ⟨I, (.refl _), ho.sub ⟨r, r, trivial⟩, hs.pick (.c .z .n)⟩) ?_)))))))
 rintro s79 next80 hd c w hst
 obtain ⟨I81, hl82, hok, hsym⟩ := hst
 have le83 := IH.le.trans (.refl _) hl82
 replace R3 := R3.mono hl82
 refine Cod.at hok hsym (.seq (.seq (.region (.skips 1 r (.fieldAddr underlying38 r sizeOf25 r (o := 1) r r r (.load1 isAgg25 r .z r r r (.len underlying25 r r r r (.lt r r r r (.nilS [16, 3, 1] r r ?_)))))))))
 refine .condP r hd (fun hb85 hd => ?_) fun hb85 hd => ?_
 · refine .skipS [3, 1] r r (.seq (.block (.seq (.draw [some 0, some 1, some 2, some 3, some 4, some 5, some 6, some 7, some 8, some 9, some 10, some 11, some 12, some 13, some 14, some 15, some 16, some 17, some 18, some 19, some 20, some 21, some 22, some 23, some 24, some 25, some 26, some 27, some 28, some 29, some 30, some 31, some 32, some 33, some 34, some 35, some 36, some 37] 38 MX (by kernel_rfl) (by kernel_rfl) (by kernel_rfl) (by kernel_rfl) (by kernel_rfl) (by kernel_rfl) (by kernel_rfl) (fun ex => (pto b6 (.cells #[.int .i64 a0.N, .slice p1 a0.Items.length c2] 38 (0, 0))) :: ex) (fun _ _ => (.s .z)) r (.f [] r (by kernel_rfl) r r (fun ex => .fieldAddr underlying38 r sizeOf25 r (o := 1) r r r .mk) (.f [0] r (by kernel_rfl) r r (fun ex => .load1 isAgg25 r .z r r r .mk) (.fs [[]] r (by kernel_rfl) ?_)))))))
   obtain ⟨h86, x87, hx88, hd⟩ := hd
   obtain ⟨b89, o90, cs91, e92, hC93, hr94⟩ := R3.2 _ _ hx88
   cases hr94
   refine .f [1, 2] r (by kernel_rfl) r r (fun ex => .ixa underlying25 sizeOf67 r e92 r h86 (idx_lt hx88 h86) r r .mk) (.f [3] r (by kernel_rfl) r r (fun ex => .fieldAddr underlying67 r sizeOf3 r (o := o90 + s79.toNat * 2) r r r .mk) (.f [4] r (by kernel_rfl) r r (fun ex => .ld1 (j := 0) isAgg3 hC93 r r r r r .mk) (.f [5] r (by kernel_rfl) r r (fun ex => .lt r r r r .mk) (.fs [[6]] r (by kernel_rfl) ?_))))
   refine splitP hd (fun hb95 hd => ?_) fun hb95 hd => ?_
   · rw [hb95]
     exact .fs [[7], [8, 7], [7], [9, 10, 7], [11, 7], [12, 7], [7], [14, 7], [13, 15, 7], [7, 16], [17, 7], [18], [19, 18], [20, 18, 18], [21], [22, 21], [21], [23, 24, 21], [25, 21], [26, 21], [21], [28, 21], [21], [30, 21], [29, 31, 21], [32, 21], [33, 21], [27, 34, 21], [21, 35, 18], [18, 36]] r (by kernel_rfl) (.e 38 (by kernel_rfl) (by kernel_rfl) (by kernel_rfl) (.nilS [56, 3, 1] r r (.condKT r r (.seq (.region (.skips 1 r (.nilS [2] r r (.drop .z (.ret (pret results98 (.t r .n) le83 ⟨false, r, hd⟩))))))))))
   rw [hb95]
   refine .f [7] r (by kernel_rfl) r r (fun ex => .gyes r r r (.fieldAddr underlying38 r sizeOf25 r (o := 1) r r r .mk)) (.f [8, 7] r (by kernel_rfl) r r (fun ex => .gyes r r r (.load1 isAgg25 r .z r r r .mk)) (.fs [[7]] r (by kernel_rfl) ?_))
   obtain ⟨h96, x97, hx98, hd⟩ := hd
   obtain ⟨b99, o100, cs101, e102, hC103, hr104⟩ := R3.2 _ _ hx98
   cases hr104
   refine .f [9, 10, 7] r (by kernel_rfl) r r (fun ex => .gyes r r r (.ixa underlying25 sizeOf67 r e102 r h96 (idx_lt hx98 h96) r r .mk)) (.f [11, 7] r (by kernel_rfl) r r (fun ex => .gyes r r r (.fieldAddr underlying67 r sizeOf3 r (o := o100 + s79.toNat * 2) r r r .mk)) (.f [12, 7] r (by kernel_rfl) r r (fun ex => .gyes r r r (.ld1 (j := 0) isAgg3 hC103 r r r r r .mk)) (.f [7] r (by kernel_rfl) r r (fun ex => .gyes r r r (.fieldAddr underlying38 r sizeOf3 r (o := 0) r r r .mk)) (.f [14, 7] r (by kernel_rfl) r r (fun ex => .gyes r r r (.load1 isAgg3 r .z r r r .mk)) (.f [13, 15, 7] r (by kernel_rfl) r r (fun ex => .gyes r r r (.ge r r r r .mk)) (.fs [[7, 16], [17, 7]] r (by kernel_rfl) ?_))))))
   refine splitP hd (fun hb105 hd => ?_) fun hb105 hd => ?_
   · rw [hb105]
     exact .fs [[18], [19, 18], [20, 18, 18], [21], [22, 21], [21], [23, 24, 21], [25, 21], [26, 21], [21], [28, 21], [21], [30, 21], [29, 31, 21], [32, 21], [33, 21], [27, 34, 21], [21, 35, 18], [18, 36]] r (by kernel_rfl) (.e 38 (by kernel_rfl) (by kernel_rfl) (by kernel_rfl) (.nilS [56, 3, 1] r r (.condKT r r (.seq (.region (.skips 1 r (.nilS [2] r r (.drop .z (.ret (pret results98 (.t r .n) le83 ⟨false, r, hd⟩))))))))))
   rw [hb105]
   refine .fs [[18]] r (by kernel_rfl) (.f [19, 18] r (by kernel_rfl) r r (fun ex => .gyes r r r (.gt r r r r .mk)) (.fs [[20, 18, 18]] r (by kernel_rfl) ?_))
   refine splitP hd (fun hb106 hd => ?_) fun hb106 hd => ?_
   · rw [hb106]
     refine .f [21] r (by kernel_rfl) r r (fun ex => .gyes r r r (.fieldAddr underlying38 r sizeOf25 r (o := 1) r r r .mk)) (.f [22, 21] r (by kernel_rfl) r r (fun ex => .gyes r r r (.load1 isAgg25 r .z r r r .mk)) (.fs [[21]] r (by kernel_rfl) ?_))
     obtain ⟨h107, x108, hx109, hd⟩ := hd
     obtain ⟨b110, o111, cs112, e113, hC114, hr115⟩ := R3.2 _ _ hx109
     cases hr115
     refine .f [23, 24, 21] r (by kernel_rfl) r r (fun ex => .gyes r r r (.ixa underlying25 sizeOf67 r e113 r h107 (idx_lt hx109 h107) r r .mk)) (.f [25, 21] r (by kernel_rfl) r r (fun ex => .gyes r r r (.fieldAddr underlying67 r sizeOf3 r (o := o111 + s79.toNat * 2) r r r .mk)) (.f [26, 21] r (by kernel_rfl) r r (fun ex => .gyes r r r (.ld1 (j := 0) isAgg3 hC114 r r r r r .mk)) (.f [21] r (by kernel_rfl) r r (fun ex => .gyes r r r (.fieldAddr underlying38 r sizeOf25 r (o := 1) r r r .mk)) (.f [28, 21] r (by kernel_rfl) r r (fun ex => .gyes r r r (.load1 isAgg25 r .z r r r .mk)) (.fs [[21]] r (by kernel_rfl) (.f [30, 21] r (by kernel_rfl) r r (fun ex => .gyes r r r (.sub' r r r r .mk)) ?_))))))
     obtain ⟨h116, x117, hx118, hd⟩ := hd
     obtain ⟨b119, o120, cs121, e122, hC123, hr124⟩ := R3.2 _ _ hx118
     cases hr124
     refine .f [29, 31, 21] r (by kernel_rfl) r r (fun ex => .gyes r r r (.ixa underlying25 sizeOf67 r e122 r h116 (idx_lt hx118 h116) r r .mk)) (.f [32, 21] r (by kernel_rfl) r r (fun ex => .gyes r r r (.fieldAddr underlying67 r sizeOf3 r (o := o120 + (w64 (s79 - 1)).toNat * 2) r r r .mk)) (.f [33, 21] r (by kernel_rfl) r r (fun ex => .gyes r r r (.ld1 (j := 0) isAgg3 hC123 r r r r r .mk)) (.f [27, 34, 21] r (by kernel_rfl) r r (fun ex => .gyes r r r (.le' r r r r .mk)) (.fs [[21, 35, 18], [18, 36]] r (by kernel_rfl) (.e 38 (by kernel_rfl) (by kernel_rfl) (by kernel_rfl) (.nilS [56, 3, 1] r r (.condP r hd (fun hb125 hd => ?_) fun hb125 hd => ?_)))))))
     · exact .seq (.region (.skips 1 r (.nilS [2] r r (.drop .z (.ret (pret results98 (.t r .n) le83 ⟨false, r, hd⟩))))))
     exact .skipS [3, 1] r r (.region (.skips 1 r (.add r r r r (.sub (E' := [(1, _), (17, _), (18, _)]) ⟨r, r, r, trivial⟩ (.skips 1 r (.nil' fun c w ho hs => ⟨(w64 (s79 + 1)), hd, I81, le83, ho.sub ⟨r, r, trivial⟩, hs.pick (.c .z .n)⟩))))))
   rw [hb106]
   refine .fs [[21], [22, 21], [21], [23, 24, 21], [25, 21], [26, 21], [21], [28, 21], [21], [30, 21], [29, 31, 21], [32, 21], [33, 21], [27, 34, 21], [21, 35, 18], [18, 36]] r (by kernel_rfl) (.e 38 (by kernel_rfl) (by kernel_rfl) (by kernel_rfl) (.nilS [56, 3, 1] r r (.condKF r r (.skipS [3, 1] r r (.region (.skips 1 r (.add r r r r (.sub (E' := [(1, _), (17, _), (18, _)]) ⟨r, r, r, trivial⟩ (.skips 1 r ?_)))))))))
   exact .nil' fun c w ho hs => ⟨(w64 (s79 + 1)), hd, I81, le83, ho.sub ⟨r, r, trivial⟩, hs.pick (.c .z .n)⟩
 exact .exitS [] r r (.drop .z (.seq (.region (.skips 1 r (.nilS [2] r r (.ret (pret results98 (.t r .n) le83 ⟨true, r, hd⟩)))))))

theorem W_ref09_Sure {I : IH} {a0 : Vec} {p1 : Option Addr} {c2 : Nat} {Q : Vec → Prop} (R3 : RepSl eItem I p1 c2 a0.Items) (hd : ref09_Sure a0 Q) :
    PFun Tryz.prog 53 [.agg #[.int .i64 a0.N, .slice p1 a0.Items.length c2]] I (fun I_ v => ∃ r p4 c5, v = .agg #[.int .i64 r.N, .slice p4 r.Items.length c5] ∧ RepSl eItem I_ p4 c5 r.Items ∧ Q r) := by
 refine Fun.enter func53 r ntmps53 r (.c .n) fun w0 M => ?_
 refine .seq (.region (.boxA r r r fun b11 => ?_))
 refine .allocA zeroValue38 r r fun b13 => ?_
 refine .nilS [2, 1] r r (.seq (.seq (.region (.loadW isAgg38 sizeOf38 r (.s .z) r r r ?_))))
 have hw16 := W_ref09_Right (I := I) R3 hd
 refine .callP call98 r hw16 r r fun v17 hv18 => ?_
 obtain ⟨r15, rfl, hd⟩ := hv18
 refine .nilS [4, 2, 1] r r (.condP r hd (fun hb19 hd => ?_) fun hb19 hd => ?_)
 · exact .seq (.region (.loadW isAgg38 sizeOf38 r (.s .z) r r r (.storeA sizeOf38 r r .z (.t (.t .nil)) r r (.nilS [2] r r (.drop (.s .z) (.ret (pret results53 (.w isAgg38 sizeOf38 r .z r .n) (.refl _) ⟨a0, _, _, r, R3, hd⟩)))))))
 exact .skipS [2] r r (.drop (.s .z) (.seq (.region (.build zeroValue38 underlying38 BI38 .n (by exact trivial) r r (.storeA sizeOf38 r r .z (.t (.t .nil)) r r (.nilS [2] r r (.ret (pret results53 (.w isAgg38 sizeOf38 r .z r .n) (.refl _) ⟨({ N := 0, Items := ([] : List Item) } : Vec), _, _, r, (.nil _ _ _), hd⟩))))))))

theorem W_ref09_Get {I : IH} {a0 : Vec} {a1 : Int} {p1 : Option Addr} {c2 : Nat} {Q : (Int × Bool) → Prop} (R3 : RepSl eItem I p1 c2 a0.Items) (hd : ref09_Get a0 a1 Q) :
    PFun Tryz.prog 83 [.agg #[.int .i64 a0.N, .slice p1 a0.Items.length c2], .int .i64 a1] I (fun I_ v => ∃ r, v = .tuple #[.int .i64 r.1, .bool r.2] ∧ Q r) := by
 refine Fun.enter func83 r ntmps83 r (.c (.c .n)) fun w0 M => ?_
 refine .seq (.region (.boxA r r r fun b6 => ?_))
 refine .skips 2 r (.nilS [2, 1] r r (.seq (.region (.loadW isAgg38 sizeOf38 r .z r r r ?_))))
 have hw28 := W_ref09_Sure (I := I) R3 hd
 refine .call call53 r hw28 r r fun v23 I20 hl21 hv22 => ?_
 obtain ⟨r19, p25, c26, rfl, R27, hd⟩ := hv22
 have le29 := IH.le.trans (.refl _) hl21
 replace R3 := R3.mono hl21
 refine .storeA sizeOf38 r r .z (.t (.t .nil)) r r (.nilS [2, 1] r r (.seq (.seq (.region (.skips 1 r (.nilS [6, 2, 1] r r (.block (.loop hd (fun (s93 : Int) c w => ∃ I_, IH.le I20 I_ ∧ Ok ⟨30, [], none⟩ [(1, .int .i64 a1), (2, .pointer (some ⟨b6, 0, none⟩)), (6, .int .i64 s93)] c ∧ Sym w0 M I I_ [pto b6 (.cells #[.int .i64 r19.N, .slice p25 r19.Items.length c26] 38 (0, 0))] w) (fun c w ho hs => ⟨I20, (.refl _), ho.sub ⟨r, r, r, trivial⟩, hs.pick (.c .z .n)⟩) ?_))))))))
 rintro s93 next94 hd c w hst
 obtain ⟨I95, hl96, hok, hsym⟩ := hst
 have le97 := IH.le.trans le29 hl96
 have le98 := IH.le.trans (.refl _) hl96
 replace R27 := R27.mono hl96
 refine Cod.at hok hsym (.seq (.seq (.region (.skips 1 r (.fieldAddr underlying38 r sizeOf25 r (o := 1) r r r (.load1 isAgg25 r .z r r r (.len underlying25 r r r r (.lt r r r r (.nilS [13, 6, 2, 1] r r ?_)))))))))
 refine .condP r hd (fun hb100 hd => ?_) fun hb100 hd => ?_
 · refine .skipS [6, 2, 1] r r (.seq (.block (.seq (.region (.fieldAddr underlying38 r sizeOf25 r (o := 1) r r r (.load1 isAgg25 r .z r r r (.skips 1 r ?_)))))))
   obtain ⟨h110, x111, hx112, hd⟩ := hd
   obtain ⟨b113, o114, cs115, e116, hC117, hr118⟩ := R27.2 _ _ hx112
   cases hr118
   refine .ixa underlying25 sizeOf67 r e116 r h110 (idx_lt hx112 h110) r r (.fieldAddr underlying67 r sizeOf3 r (o := o114 + s93.toNat * 2) r r r (.ld1 (j := 0) isAgg3 hC117 r r r r r (.skips 1 r (.eq r r r r (.nilS [23, 6, 2, 1] r r (.condP r hd (fun hb119 hd => ?_) fun hb119 hd => ?_))))))
   · refine .seq (.region (.fieldAddr underlying38 r sizeOf25 r (o := 1) r r r (.load1 isAgg25 r .z r r r (.skips 1 r ?_))))
     obtain ⟨h120, x121, hx122, hd⟩ := hd
     obtain ⟨b123, o124, cs125, e126, hC127, hr128⟩ := R27.2 _ _ hx122
     cases hr128
     exact .ixa underlying25 sizeOf67 r e126 r h120 (idx_lt hx122 h120) r r (.fieldAddr underlying67 r sizeOf2 r (o := o124 + s93.toNat * 2 + 1) r r r (.ld1 (j := 1) isAgg2 hC127 r r r r r (.skips 2 r (.nilS [5, 4] r r (.drop .z (.ret (pret results83 (.t r (.t r .n)) le97 ⟨(x121.Val, true), r, hd⟩)))))))
   exact .skipS [6, 2, 1] r r (.region (.skips 1 r (.add r r r r (.sub (E' := [(1, _), (2, _), (14, _), (15, _)]) ⟨r, r, r, r, trivial⟩ (.skips 1 r (.nil' fun c w ho hs => ⟨(w64 (s93 + 1)), hd, I95, le98, ho.sub ⟨r, r, r, trivial⟩, hs.pick (.c .z .n)⟩))))))
 exact .exitS [] r r (.drop .z (.seq (.region (.skips 2 r (.nilS [5, 4] r r (.ret (pret results83 (.t r (.t r .n)) le97 ⟨(0, false), r, hd⟩)))))))

theorem W_ref01_Minus {I : IH} {a0 : Wide}  {Q : Wide → Prop}  (hd : ref01_Minus a0 Q) :
    PFun Tryz.prog 166 [.agg (encWide a0).toArray] I (fun I_ v => ∃ r, v = .agg (encWide r).toArray ∧ Q r) := by
 refine Fun.enter func166 r ntmps166 r (.c .n) fun w0 M => ?_
 refine .seq (.region (.boxA r r r fun b5 => ?_))
 refine .allocA zeroValue87 r r fun b7 => ?_
 refine .nilS [2, 1] r r (.seq (.region (.fieldAddr underlying87 r sizeOf2 r (o := 0) r r r (.load1 isAgg2 r (.s .z) r r r (.invS r r r r (.fieldAddr underlying87 r sizeOf85 r (o := 1) r r r (.load1 isAgg85 r (.s .z) r r r (.invU (M := 18446744073709551615) r (by decide) r r r (.build zeroValue87 underlying87 BI87 (.c r r r (.t .nil) (.c r r r (.s (.t .nil)) .n)) (by exact ⟨⟨_, _, r, r, r⟩, ⟨⟨_, _, r, r, r⟩, trivial⟩⟩) r r ?_)))))))))
 refine .build zeroValue87 underlying87 BI87 (.c r r r (.s (.t .nil)) .n) (by exact ⟨⟨_, _, r, r, r⟩, trivial⟩) r r ?_
 have hw10 := W_ref01_Add (I := I) hd
 refine .callP call132 r hw10 r r fun v11 hv12 => ?_
 obtain ⟨r9, rfl, hd⟩ := hv12
 exact .storeA sizeOf87 r r .z (.t (.t .nil)) r r (.nilS [2] r r (.drop (.s .z) (.ret (pret results166 (.w isAgg87 sizeOf87 r .z r .n) (.refl _) ⟨r9, r, hd⟩))))

theorem W_ref01_Mul {I : IH} {a0 : Int} {a1 : Int}  {Q : Wide → Prop}  (hd : ref01_Mul a0 a1 Q) :
    PFun Tryz.prog 136 [.int .i64 a0, .int .i64 a1] I (fun I_ v => ∃ r, v = .agg (encWide r).toArray ∧ Q r) := by
 refine Fun.enter func136 r ntmps136 r (.c (.c .n)) fun w0 M => ?_
 refine .seq (.region (.allocA zeroValue87 r r fun b3 => ?_))
 refine .nilS [4, 1, 0] r r (.seq (.region (.skips 1 r ?_)))
 have hw12 := W_ref01_Of (I := I) hd
 refine .callP call133 r hw12 r r fun v13 hv14 => ?_
 obtain ⟨r11, rfl, hd⟩ := hv14
 refine .allocA zeroValue87 r r fun b15 => ?_
 refine .storeA sizeOf87 r r .z (.t (.t .nil)) r r (.nilS [5, 4, 1] r r (.seq (.region (.skips 1 r (.lt r r r r (.skips 1 r (.nilS [6, 5, 4, 1] r r (.seq (.region ?_)))))))))
 refine .skips 1 r (.conv underlying2 underlying85 r r r (.skips 1 r (.nilS [7, 6, 5, 4] r r (.seq ?_))))
 refine Cod.joinQ (σ := Int) hd (fun (s19 : Int) c w => ∃ I_, IH.le I I_ ∧ Ok ⟨35, [], none⟩ [(4, .pointer (some ⟨b3, 0, none⟩)), (5, .pointer (some ⟨b15, 0, none⟩)), (6, .bool (decide (a1 < 0))), (7, .int .u64 s19)] c ∧ Sym w0 M I I_ [pto b3 (.cells #[.int .i64 0, .int .u64 0] 87 (0, 0)), pto b15 (.cells #[.int .i64 r11.Hi, .int .u64 r11.Lo] 87 (0, 0))] w) (fun k20 hd => ?_) ?_
 · skip
   refine .seq (.region (.skips 1 r (.nilS [15, 7, 6, 5, 4] r r (.condP r hd (fun hb21 hd => ?_) fun hb21 hd => ?_))))
   · exact .region (.skips 1 r (.neg r r r (.sub (E' := [(4, _), (5, _), (6, _), (15, _), (16, _), (17, _)]) ⟨r, r, r, r, r, r, trivial⟩ (.skips 1 r (.nil' fun c w ho hs => ⟨(IntKind.wrap .u64 (0 - (IntKind.wrap .u64 (a1)))), hd, I, (.refl _), ho.sub ⟨r, r, r, r, trivial⟩, hs.pick (.c (.s .z) (.c .z .n))⟩)))))
   exact .skip' fun c w ho hs => ⟨(IntKind.wrap .u64 (a1)), hd, I, (.refl _), ho.sub ⟨r, r, r, r, trivial⟩, hs.pick (.c (.s .z) (.c .z .n))⟩
 rintro s19 hd c w hst
 obtain ⟨I22, hl23, hok, hsym⟩ := hst
 have le24 := IH.le.trans (.refl _) hl23
 refine Cod.at hok hsym (.seq (.region (.allocA zeroValue87 r r fun b27 => ?_)))
 refine .nilS [8, 7, 6, 5, 4] r r (.seq (.block (.loop hd (fun (s : Int × Int × Int × Int × Int) c w => match s with | (s144, s145, s146, s147, s148) => ∃ I_, IH.le I22 I_ ∧ Ok ⟨35, [], none⟩ [(4, .pointer (some ⟨b3, 0, none⟩)), (5, .pointer (some ⟨b15, 0, none⟩)), (6, .bool (decide (a1 < 0))), (7, .int .u64 s146), (8, .pointer (some ⟨b27, 0, none⟩))] c ∧ Sym w0 M I I_ [pto b3 (.cells #[.int .i64 0, .int .u64 0] 87 (0, 0)), pto b15 (.cells #[.int .i64 s144, .int .u64 s145] 87 (0, 0)), pto b27 (.cells #[.int .i64 s147, .int .u64 s148] 87 (0, 0))] w) (fun c w ho hs => ⟨I22, (.refl _), ho.sub ⟨r, r, r, r, r, trivial⟩, hs.pick (.c (.s .z) (.c (.s .z) (.c .z .n)))⟩) ?_)))
 rintro ⟨s144, s145, s146, s147, s148⟩ next149 hd c w hst
 obtain ⟨I150, hl151, hok, hsym⟩ := hst
 have le152 := IH.le.trans le24 hl151
 have le153 := IH.le.trans (.refl _) hl151
 refine Cod.at hok hsym (.seq (.seq (.region (.skips 1 r (.gt r r r r (.nilS [19, 8, 7, 6, 5, 4] r r (.condP r hd (fun hb155 hd => ?_) fun hb155 hd => ?_)))))))
 · refine .skipS [8, 7, 6, 5, 4] r r (.block (.seq (.seq (.region (.skips 1 r (.rem r r (by decide) r r (.eq r r r r (.nilS [22, 8, 7, 6, 5, 4] r r (.condP r hd (fun hb156 hd => ?_) fun hb156 hd => ?_)))))))))
   · refine .region (.loadW isAgg87 sizeOf87 r (.s (.s .z)) r r r (.loadW isAgg87 sizeOf87 r (.s .z) r r r ?_))
     have hw158 := W_ref01_Add (I := I150) hd
     refine .callP call132 r hw158 r r fun v159 hv160 => ?_
     obtain ⟨r157, rfl, hd⟩ := hv160
     refine .storeA sizeOf87 r r (.s (.s .z)) (.t (.t .nil)) r r (.nilS [8, 7, 6, 5, 4] r r (.seq (.region (.loadW isAgg87 sizeOf87 r (.s .z) r r r (.loadW isAgg87 sizeOf87 r (.s .z) r r r ?_)))))
     have hw162 := W_ref01_Add (I := I150) hd
     refine .callP call132 r hw162 r r fun v163 hv164 => ?_
     obtain ⟨r161, rfl, hd⟩ := hv164
     exact .storeA sizeOf87 r r (.s .z) (.t (.t .nil)) r r (.nilS [8, 7, 6, 5, 4] r r (.region (.skips 1 r (.quo r r (by decide) r r (.sub (E' := [(4, _), (5, _), (6, _), (8, _), (29, _), (30, _)]) ⟨r, r, r, r, r, r, trivial⟩ (.skips 1 r (.nil' fun c w ho hs => ⟨(r161.Hi, r161.Lo, IntKind.wrap .u64 (s146.tdiv 2), r157.Hi, r157.Lo), hd, I150, le153, ho.sub ⟨r, r, r, r, r, trivial⟩, hs.pick (.c .z (.c .z (.c .z .n)))⟩)))))))
   refine .skipS [8, 7, 6, 5, 4] r r (.seq (.region (.loadW isAgg87 sizeOf87 r (.s .z) r r r (.loadW isAgg87 sizeOf87 r (.s .z) r r r ?_))))
   have hw166 := W_ref01_Add (I := I150) hd
   refine .callP call132 r hw166 r r fun v167 hv168 => ?_
   obtain ⟨r165, rfl, hd⟩ := hv168
   exact .storeA sizeOf87 r r (.s .z) (.t (.t .nil)) r r (.nilS [8, 7, 6, 5, 4] r r (.region (.skips 1 r (.quo r r (by decide) r r (.sub (E' := [(4, _), (5, _), (6, _), (8, _), (29, _), (30, _)]) ⟨r, r, r, r, r, r, trivial⟩ (.skips 1 r (.nil' fun c w ho hs => ⟨(r165.Hi, r165.Lo, IntKind.wrap .u64 (s146.tdiv 2), s147, s148), hd, I150, le153, ho.sub ⟨r, r, r, r, r, trivial⟩, hs.pick (.c .z (.c .z (.c .z .n)))⟩)))))))
 refine .exitS [8, 6, 4] r r (.drop (.s .z) (.seq (.seq (.region (.skips 1 r (.nilS [31, 8, 4] r r (.condP r hd (fun hb169 hd => ?_) fun hb169 hd => ?_)))))))
 · refine .seq (.region (.loadW isAgg87 sizeOf87 r (.s .z) r r r ?_))
   have hw171 := W_ref01_Minus (I := I150) hd
   refine .callP call166 r hw171 r r fun v172 hv173 => ?_
   obtain ⟨r170, rfl, hd⟩ := hv173
   exact .storeA sizeOf87 r r .z (.t (.t .nil)) r r (.nilS [4] r r (.drop (.s .z) (.ret (pret results136 (.w isAgg87 sizeOf87 r .z r .n) le152 ⟨r170, r, hd⟩))))
 exact .skipS [8, 4] r r (.seq (.region (.loadW isAgg87 sizeOf87 r (.s .z) r r r (.storeA sizeOf87 r r .z (.t (.t .nil)) r r (.nilS [4] r r (.drop (.s .z) (.ret (pret results136 (.w isAgg87 sizeOf87 r .z r .n) le152 ⟨({ Hi := s147, Lo := s148 } : Wide), r, hd⟩))))))))

theorem W_ref02_Mul {I : IH} {a0 : Int} {a1 : Int} {a2 : Int}  {Q : Wide → Prop}  (hd : ref02_Mul a0 a1 a2 Q) :
    PFun Tryz.prog 84 [.int .i64 a0, .int .i64 a1, .int .i64 a2] I (fun I_ v => ∃ r, v = .agg (encWide r).toArray ∧ Q r) := by
 refine Fun.enter func84 r ntmps84 r (.c (.c (.c .n))) fun w0 M => ?_
 refine .seq (.region (.allocA zeroValue87 r r fun b3 => ?_))
 refine .nilS [6, 2, 1, 0] r r (.seq ?_)
 refine Cod.joinQ (σ := Bool) hd (fun (s7 : Bool) c w => ∃ I_, IH.le I I_ ∧ Ok ⟨59, [], none⟩ [(0, .int .i64 a0), (1, .int .i64 a1), (2, .int .i64 a2), (6, .pointer (some ⟨b3, 0, none⟩)), (7, .bool s7)] c ∧ Sym w0 M I I_ [pto b3 (.cells #[.int .i64 0, .int .u64 0] 87 (0, 0))] w) (fun k8 hd => ?_) ?_
 · skip
   refine .region (.skips 1 r (.ge r r r r (.skips 1 r ?_)))
   refine splitP hd (fun hb9 hd => ?_) fun hb9 hd => ?_
   · rw [hb9]
     exact .skips 4 r (.nil' fun c w ho hs => ⟨true, hd, I, (.refl _), ho.sub ⟨r, r, r, r, r, trivial⟩, hs.pick (.c .z .n)⟩)
   rw [hb9]
   exact .gyes r r r (.move r r r (.gyes r r r (.ge r r r r (.skips 2 r (.nil' fun c w ho hs => ⟨(decide (4611686018427387904 ≤ a2)), hd, I, (.refl _), ho.sub ⟨r, r, r, r, r, trivial⟩, hs.pick (.c .z .n)⟩)))))
 rintro s7 hd c w hst
 obtain ⟨I10, hl11, hok, hsym⟩ := hst
 have le12 := IH.le.trans (.refl _) hl11
 refine Cod.at hok hsym (.seq (.region (.skips 1 r (.nilS [15, 7, 6, 2, 1] r r (.block (.seq (.region (.eq r r r r (.skips 1 r ?_)))))))))
 refine .nilS [17, 15, 7, 6, 2, 1] r r (.condP r hd (fun hb13 hd => ?_) fun hb13 hd => ?_)
 · refine .seq (.region (.skips 1 r ?_))
   have hw29 := W_ref01_Of (I := I10) hd
   refine .callP call133 r hw29 r r fun v30 hv31 => ?_
   obtain ⟨r28, rfl, hd⟩ := hv31
   refine .skips 1 r ?_
   have hw33 := W_ref01_Of (I := I10) hd
   refine .callP call133 r hw33 r r fun v34 hv35 => ?_
   obtain ⟨r32, rfl, hd⟩ := hv35
   have hw37 := W_ref01_Add (I := I10) hd
   refine .callP call132 r hw37 r r fun v38 hv39 => ?_
   obtain ⟨r36, rfl, hd⟩ := hv39
   refine .allocA zeroValue87 r r fun b40 => ?_
   refine .storeA sizeOf87 r r .z (.t (.t .nil)) r r (.nilS [8, 7, 6] r r (.seq (.seq (.draw [some 0, some 1, some 2, some 3, some 4, some 5, some 6] 7 MX (by kernel_rfl) (by kernel_rfl) (by kernel_rfl) (by kernel_rfl) (by kernel_rfl) (by kernel_rfl) (by kernel_rfl) (fun ex => (pto b40 (.cells #[.int .i64 r36.Hi, .int .u64 r36.Lo] 87 (0, 0))) :: (pto b3 (.cells #[.int .i64 0, .int .u64 0] 87 (0, 0))) :: ex) (fun _ _ => (.s (.s .z))) r (.fs [[], [0]] r (by kernel_rfl) ?_)))))
   refine splitP hd (fun hb42 hd => ?_) fun hb42 hd => ?_
   · refine .f [1] r (by kernel_rfl) r r (fun ex => .gno r r hb42 r r .mk) (.f [1, 1] r (by kernel_rfl) r r (fun ex => .gno r r hb42 r r .mk) (.f [2, 3, 3, 1] r (by kernel_rfl) r r (fun ex => .gno r r hb42 r r .mk) (.f [4, 1] r (by kernel_rfl) r r (fun ex => .gno r r hb42 r r .mk) (.f [1, 5] r (by kernel_rfl) r r (fun ex => .pickT r hb42 r r r .mk) (.e 7 (by kernel_rfl) (by kernel_rfl) (by kernel_rfl) (.nilS [30, 8, 6] r r (.condKT r r (.seq (.region ?_)))))))))
     have hw44 := W_ref01_Of (I := I10) hd
     refine .callP call133 r hw44 r r fun v45 hv46 => ?_
     obtain ⟨r43, rfl, hd⟩ := hv46
     exact .storeA sizeOf87 r r (.s .z) (.t (.t .nil)) r r (.nilS [6] r r (.drop .z (.ret (pret results84 (.w isAgg87 sizeOf87 r .z r .n) le12 ⟨r43, r, hd⟩))))
   refine .f [1] r (by kernel_rfl) r r (fun ex => .gyes r r hb42 (.loadW isAgg87 sizeOf87 r .z r r r .mk)) (.w [2] [[], [1]] [1, 1] r (by kernel_rfl) (by kernel_rfl) (by kernel_rfl) ((dropE_kept r r)) (.inr (dropE_kept r r)) fun ex => ?_)
   have hw48 := W_ref01_Of (I := I10) hd
   refine .gyes r r hb42 (.callP call133 r hw48 r r fun v49 hv50 => ?_)
   obtain ⟨r47, rfl, hd⟩ := hv50
   refine .some (fun ex => (pto b40 (.cells #[.int .i64 r36.Hi, .int .u64 r36.Lo] 87 (0, 0))) :: (pto b3 (.cells #[.int .i64 0, .int .u64 0] 87 (0, 0))) :: ex) r (fun _ _ => (.s (.s .z))) r (.cc [1] r (by kernel_rfl) r r r (fun ex => .gyes r r hb42 (.loadW isAgg87 sizeOf87 r .z r r r .mk)) trivial) (.w [] [[]] [2, 3, 3, 1] r (by kernel_rfl) (by kernel_rfl) (by kernel_rfl) ((dropE_kept r r)) (.inr (dropE_kept r r)) fun ex => ?_)
   have hw52 := W_ref01_Compare (I := I10) hd
   refine .gyes r r hb42 (.callP call134 r hw52 r r fun v53 hv54 => ?_)
   obtain ⟨r51, rfl, hd⟩ := hv54
   refine .some (fun ex => (pto b40 (.cells #[.int .i64 r36.Hi, .int .u64 r36.Lo] 87 (0, 0))) :: (pto b3 (.cells #[.int .i64 0, .int .u64 0] 87 (0, 0))) :: ex) r (fun _ _ => (.s (.s .z))) r trivial (.f [4, 1] r (by kernel_rfl) r r (fun ex => .gyes r r hb42 (.gt r r r r .mk)) (.f [1, 5] r (by kernel_rfl) r r (fun ex => .pickF r hb42 r r r .mk) (.e 7 (by kernel_rfl) (by kernel_rfl) (by kernel_rfl) (.nilS [30, 8, 6] r r (.condP r hd (fun hb55 hd => ?_) fun hb55 hd => ?_)))))
   · refine .seq (.region ?_)
     have hw57 := W_ref01_Of (I := I10) hd
     refine .callP call133 r hw57 r r fun v58 hv59 => ?_
     obtain ⟨r56, rfl, hd⟩ := hv59
     exact .storeA sizeOf87 r r (.s .z) (.t (.t .nil)) r r (.nilS [6] r r (.drop .z (.ret (pret results84 (.w isAgg87 sizeOf87 r .z r .n) le12 ⟨r56, r, hd⟩))))
   exact .skipS [8, 6] r r (.seq (.region (.loadW isAgg87 sizeOf87 r .z r r r (.storeA sizeOf87 r r (.s .z) (.t (.t .nil)) r r (.nilS [6] r r (.drop .z (.ret (pret results84 (.w isAgg87 sizeOf87 r .z r .n) le12 ⟨r36, r, hd⟩))))))))
 refine .seq (.region (.eq r r r r (.skips 1 r (.nilS [33, 15, 7, 6, 2, 1] r r (.condP r hd (fun hb60 hd => ?_) fun hb60 hd => ?_)))))
 · refine .seq (.seq (.region (.skips 1 r (.nilS [35, 6, 1] r r (.condP r hd (fun hb61 hd => ?_) fun hb61 hd => ?_)))))
   · refine .seq (.region ?_)
     have hw63 := W_ref01_Of (I := I10) hd
     refine .callP call133 r hw63 r r fun v64 hv65 => ?_
     obtain ⟨r62, rfl, hd⟩ := hv65
     exact .storeA sizeOf87 r r .z (.t (.t .nil)) r r (.nilS [6] r r (.ret (pret results84 (.w isAgg87 sizeOf87 r .z r .n) le12 ⟨r62, r, hd⟩)))
   refine .skipS [6, 1] r r (.seq (.region (.skips 1 r ?_)))
   have hw67 := W_ref01_Of (I := I10) hd
   refine .callP call133 r hw67 r r fun v68 hv69 => ?_
   obtain ⟨r66, rfl, hd⟩ := hv69
   exact .storeA sizeOf87 r r .z (.t (.t .nil)) r r (.nilS [6] r r (.ret (pret results84 (.w isAgg87 sizeOf87 r .z r .n) le12 ⟨r66, r, hd⟩)))
 refine .seq (.region (.eq r r r r (.skips 1 r (.nilS [39, 15, 7, 6, 2, 1] r r (.condP r hd (fun hb70 hd => ?_) fun hb70 hd => ?_)))))
 · refine .seq (.seq (.region (.skips 1 r (.nilS [41, 6, 2] r r (.condP r hd (fun hb71 hd => ?_) fun hb71 hd => ?_)))))
   · refine .seq (.region ?_)
     have hw73 := W_ref01_Of (I := I10) hd
     refine .callP call133 r hw73 r r fun v74 hv75 => ?_
     obtain ⟨r72, rfl, hd⟩ := hv75
     exact .storeA sizeOf87 r r .z (.t (.t .nil)) r r (.nilS [6] r r (.ret (pret results84 (.w isAgg87 sizeOf87 r .z r .n) le12 ⟨r72, r, hd⟩)))
   refine .skipS [6, 2] r r (.seq (.region (.skips 1 r ?_)))
   have hw77 := W_ref01_Of (I := I10) hd
   refine .callP call133 r hw77 r r fun v78 hv79 => ?_
   obtain ⟨r76, rfl, hd⟩ := hv79
   exact .storeA sizeOf87 r r .z (.t (.t .nil)) r r (.nilS [6] r r (.ret (pret results84 (.w isAgg87 sizeOf87 r .z r .n) le12 ⟨r76, r, hd⟩)))
 refine .seq (.region (.eq r r r r (.skips 1 r (.nilS [45, 15, 6, 2, 1] r r (.condP r hd (fun hb80 hd => ?_) fun hb80 hd => ?_)))))
 · refine .seq (.region (.skips 1 r (.ne r r r r (.skips 1 r ?_))))
   refine splitP hd (fun hb81 hd => ?_) fun hb81 hd => ?_
   · rw [hb81]
     refine .gyes r r r (.move r r r (.gyes r r r (.ne r r r r (.skips 1 r ?_))))
     have hw83 := W_ref02_truth (I := I10) hd
     refine .callP call135 r hw83 r r fun v84 hv85 => ?_
     obtain ⟨r82, rfl, hd⟩ := hv85
     exact .storeA sizeOf87 r r .z (.t (.t .nil)) r r (.nilS [6] r r (.ret (pret results84 (.w isAgg87 sizeOf87 r .z r .n) le12 ⟨r82, r, hd⟩)))
   rw [hb81]
   refine .skips 3 r ?_
   have hw87 := W_ref02_truth (I := I10) hd
   refine .callP call135 r hw87 r r fun v88 hv89 => ?_
   obtain ⟨r86, rfl, hd⟩ := hv89
   exact .storeA sizeOf87 r r .z (.t (.t .nil)) r r (.nilS [6] r r (.ret (pret results84 (.w isAgg87 sizeOf87 r .z r .n) le12 ⟨r86, r, hd⟩)))
 refine .seq (.region (.eq r r r r (.skips 1 r (.nilS [54, 6, 2, 1] r r (.condP r hd (fun hb90 hd => ?_) fun hb90 hd => ?_)))))
 · refine .seq (.region (.skips 2 r ?_))
   have hw92 := W_ref01_Mul (I := I10) hd
   refine .callP call136 r hw92 r r fun v93 hv94 => ?_
   obtain ⟨r91, rfl, hd⟩ := hv94
   exact .storeA sizeOf87 r r .z (.t (.t .nil)) r r (.nilS [6] r r (.ret (pret results84 (.w isAgg87 sizeOf87 r .z r .n) le12 ⟨r91, r, hd⟩)))
 exact .seq (.region (.build zeroValue87 underlying87 BI87 .n (by exact trivial) r r (.storeA sizeOf87 r r .z (.t (.t .nil)) r r (.nilS [6] r r (.ret (pret results84 (.w isAgg87 sizeOf87 r .z r .n) le12 ⟨({ Hi := 0, Lo := 0 } : Wide), r, hd⟩))))))

theorem W_ref13_Sums {I : IH} {a0 : Int} {a1 : Rows} {a2 : Dense} {a3 : List Int} {a4 : Bool} {p1 : Option Addr} {c2 : Nat} {p4 : Option Addr} {c5 : Nat} {p7 : Option Addr} {c8 : Nat} {p10 : Option Addr} {c11 : Nat} {p13 : Option Addr} {c14 : Nat} {p16 : Option Addr} {c17 : Nat} {Q : ((List Sum) × Int) → Prop} (R3 : RepSl eI64 I p1 c2 a1.Start) (R6 : RepSl eI64 I p4 c5 a1.Col) (R9 : RepSl eI64 I p7 c8 a1.Val) (R12 : RepSl eU64 I p10 c11 a2.Has) (R15 : RepSl eI64 I p13 c14 a2.Vals) (R18 : RepSl eU64 I p16 c17 a3) (hd : ref13_Sums a0 a1 a2 a3 a4 Q) :
    PFun Tryz.prog 39 [.int .i64 a0, .agg #[.int .i64 a1.Rows, .int .i64 a1.Cols, .slice p1 a1.Start.length c2, .slice p4 a1.Col.length c5, .slice p7 a1.Val.length c8], .agg #[.int .i64 a2.N, .slice p10 a2.Has.length c11, .slice p13 a2.Vals.length c14], .slice p16 a3.length c17, .bool a4] I (fun I_ v => ∃ r p19 c20, v = .tuple #[.slice p19 r.1.length c20, .int .i64 r.2] ∧ RepSl eSum I_ p19 c20 r.1 ∧ Q r) := by
 refine Fun.enter func39 r ntmps39 r (.c (.c (.c (.c (.c .n))))) fun w0 M => ?_
 refine .seq (.region (.boxA r r r fun b26 => ?_))
 refine .boxA r r r fun b28 => ?_
 refine .skips 2 r (.nilS [7, 6, 4, 3, 0] r r (.seq (.region (.loadW isAgg35 sizeOf35 r (.s .z) r r r ?_))))
 have hw62 := W_ref07_Sure (I := I) R3 R6 R9 hd
 refine .call call50 r hw62 r r fun v51 I48 hl49 hv50 => ?_
 obtain ⟨r47, p53, c54, p56, c57, p59, c60, rfl, R55, R58, R61, hd⟩ := hv50
 have le63 := IH.le.trans (.refl _) hl49
 replace R3 := R3.mono hl49
 replace R6 := R6.mono hl49
 replace R9 := R9.mono hl49
 replace R12 := R12.mono hl49
 replace R15 := R15.mono hl49
 replace R18 := R18.mono hl49
 refine .storeA sizeOf35 r r (.s .z) (.t (.t (.t (.t (.t .nil))))) r r (.nilS [7, 6, 4, 3, 0] r r (.seq (.region (.loadW isAgg62 sizeOf62 r .z r r r ?_))))
 have hw86 := W_ref10_Back (I := I48) R12 R15 hd
 refine .call call80 r hw86 r r fun v81 I78 hl79 hv80 => ?_
 obtain ⟨r77, p83, c84, rfl, R85, hd⟩ := hv80
 have le87 := IH.le.trans le63 hl79
 replace R12 := R12.mono hl79
 replace R15 := R15.mono hl79
 replace R18 := R18.mono hl79
 replace R55 := R55.mono hl79
 replace R58 := R58.mono hl79
 replace R61 := R61.mono hl79
 refine .allocA zeroValue38 r r fun b88 => ?_
 refine .storeA sizeOf38 r r .z (.t (.t .nil)) r r (.nilS [12, 6, 4, 3, 0] r r (.drop (.s .z) (.seq (.seq (.region (.skips 1 r ?_))))))
 have hw96 := W_ref02_Is (I := I78) hd
 refine .callP call81 r hw96 r r fun v97 hv98 => ?_
 obtain ⟨r95, rfl, hd⟩ := hv98
 refine .not r r r (.nilS [27, 12, 6, 4, 3, 0] r r (.condP r hd (fun hb99 hd => ?_) fun hb99 hd => ?_))
 · exact .seq (.region (.skips 2 r (.nilS [11, 10] r r (.drop .z (.drop .z (.ret (pret results39 (.t r (.t r .n)) le87 ⟨(([] : List Sum), 8), _, _, r, (.nil _ _ _), hd⟩)))))))
 refine .skipS [12, 6, 4, 3, 0] r r (.seq (.seq (.region (.fieldAddr underlying38 r sizeOf3 r (o := 0) r r r (.load1 isAgg3 r .z r r r (.fieldAddr underlying35 r sizeOf3 r (o := 1) r r r (.load1 isAgg3 r (.s .z) r r r (.ne r r r r (.nilS [32, 12, 6, 4, 3, 0] r r ?_)))))))))
 refine .condP r hd (fun hb101 hd => ?_) fun hb101 hd => ?_
 · exact .seq (.region (.skips 2 r (.nilS [11, 10] r r (.drop .z (.drop .z (.ret (pret results39 (.t r (.t r .n)) le87 ⟨(([] : List Sum), 4), _, _, r, (.nil _ _ _), hd⟩)))))))
 refine .skipS [12, 6, 4, 3, 0] r r (.seq (.region (.skips 1 r (.nilS [13, 12, 6, 4, 3, 0] r r (.seq (.seq (.region (.skips 1 r (.nilS [14, 13, 12, 6, 4, 3, 0] r r ?_)))))))))
 refine .block (.own0 eSum 89 (.loop hd (fun (s : (List Sum) × Int) c w => match s with | (s1308, s1312) => ∃ I_ p1309 c1310, IH.le I78 I_ ∧ Ok ⟨93, [], none⟩ [(0, .int .i64 a0), (3, .slice p16 a3.length c17), (4, .bool a4), (6, .pointer (some ⟨b26, 0, none⟩)), (12, .pointer (some ⟨b88, 0, none⟩)), (13, .slice p1309 s1308.length c1310), (14, .int .i64 s1312)] c ∧ Sym w0 M I I_ [pto b26 (.cells #[.int .i64 r47.Rows, .int .i64 r47.Cols, .slice p53 r47.Start.length c54, .slice p56 r47.Col.length c57, .slice p59 r47.Val.length c60] 35 (0, 0)), pto b88 (.cells #[.int .i64 r77.N, .slice p83 r77.Items.length c84] 38 (0, 0)), OwnSl eSum 89 p1309 c1310 s1308] w) (fun c w ho hs => ⟨I78, _, _, (.refl _), ho.sub ⟨r, r, r, r, r, r, r, trivial⟩, hs.pick (.c (.s (.s .z)) (.c (.s .z) (.c .z .n)))⟩) ?_))
 rintro ⟨s1308, s1312⟩ next1314 hd c w hst
 obtain ⟨I1315, p1309, c1310, hl1316, hok, hsym⟩ := hst
 have le1317 := IH.le.trans le87 hl1316
 have le1318 := IH.le.trans (.refl _) hl1316
 replace R18 := R18.mono hl1316
 replace R55 := R55.mono hl1316
 replace R58 := R58.mono hl1316
 replace R61 := R61.mono hl1316
 replace R85 := R85.mono hl1316
 refine Cod.at hok hsym (.seq (.seq (.region (.skips 1 r (.fieldAddr underlying35 r sizeOf3 r (o := 0) r r r (.load1 isAgg3 r .z r r r (.lt r r r r (.nilS [36, 14, 13, 12, 6, 4, 3, 0] r r (.condP r hd (fun hb1320 hd => ?_) fun hb1320 hd => ?_)))))))))
 · refine .skipS [14, 13, 12, 6, 4, 3, 0] r r (.seq (.block (.seq (.seq (.region (.skips 2 r ?_))))))
   have hw1327 := W_ref03_Has (I := I1315) R18 hd
   refine .callP call82 r hw1327 r r fun v1328 hv1329 => ?_
   obtain ⟨r1326, rfl, hd⟩ := hv1329
   refine .skips 1 r (.eqB underlying4 r r r r (.nilS [43, 14, 13, 12, 6, 4, 3, 0] r r (.condP r hd (fun hb1330 hd => ?_) fun hb1330 hd => ?_)))
   · exact .exitS [14, 13, 12, 6, 4, 3, 0] r r (.region (.skips 1 r (.add r r r r (.sub (E' := [(0, _), (3, _), (4, _), (6, _), (12, _), (13, _), (37, _), (38, _)]) ⟨r, r, r, r, r, r, r, r, trivial⟩ (.skips 1 r (.nil' fun c w ho hs => ⟨(s1308, w64 (s1312 + 1)), hd, I1315, _, _, le1318, ho.sub ⟨r, r, r, r, r, r, r, trivial⟩, hs.pick (.c .z (.c .z (.c .z .n)))⟩))))))
   refine .skipS [14, 13, 12, 6, 4, 3, 0] r r (.seq (.region (.allocA zeroValue87 r r fun b1333 => ?_)))
   refine .nilS [15, 14, 13, 12, 6, 4, 3, 0] r r (.seq (.region (.skips 1 r (.nilS [16, 15, 14, 13, 12, 6, 4, 3, 0] r r (.seq (.seq (.region (.fieldAddr underlying35 r sizeOf29 r (o := 2) r r r (.load1 isAgg29 r (.s .z) r r r ?_)))))))))
   refine .skips 1 r ?_
   obtain ⟨h1634, x1635, hx1636, hd⟩ := hd
   obtain ⟨b1637, o1638, cs1639, e1640, hC1641, hr1642⟩ := R55.2 _ _ hx1636
   cases hr1642
   refine .ixa underlying29 sizeOf3 r e1640 r h1634 (idx_lt hx1636 h1634) r r (.ld1 (j := 0) isAgg3 hC1641 r r r r r (.skips 1 r (.nilS [17, 16, 15, 14, 13, 12, 6, 4, 3, 0] r r (.block (.loop hd (fun (s : Int × Int × Bool × Int) c w => match s with | (s1820, s1821, s1822, s1823) => ∃ I_, IH.le I1315 I_ ∧ Ok ⟨93, [], none⟩ [(0, .int .i64 a0), (3, .slice p16 a3.length c17), (4, .bool a4), (6, .pointer (some ⟨b26, 0, none⟩)), (12, .pointer (some ⟨b88, 0, none⟩)), (13, .slice p1309 s1308.length c1310), (14, .int .i64 s1312), (15, .pointer (some ⟨b1333, 0, none⟩)), (16, .bool s1822), (17, .int .i64 s1823)] c ∧ Sym w0 M I I_ [pto b26 (.cells #[.int .i64 r47.Rows, .int .i64 r47.Cols, .slice p53 r47.Start.length c54, .slice p56 r47.Col.length c57, .slice p59 r47.Val.length c60] 35 (0, 0)), pto b88 (.cells #[.int .i64 r77.N, .slice p83 r77.Items.length c84] 38 (0, 0)), OwnSl eSum 89 p1309 c1310 s1308, pto b1333 (.cells #[.int .i64 s1820, .int .u64 s1821] 87 (0, 0))] w) (fun c w ho hs => ⟨I1315, (.refl _), ho.sub ⟨r, r, r, r, r, r, r, r, r, r, trivial⟩, hs.pick (.c (.s .z) (.c (.s .z) (.c (.s .z) (.c .z .n))))⟩) ?_)))))
   rintro ⟨s1820, s1821, s1822, s1823⟩ next1824 hd c w hst
   obtain ⟨I1825, hl1826, hok, hsym⟩ := hst
   have le1827 := IH.le.trans le1317 hl1826
   have le1828 := IH.le.trans le1318 hl1826
   have le1829 := IH.le.trans (.refl _) hl1826
   replace R18 := R18.mono hl1826
   replace R55 := R55.mono hl1826
   replace R58 := R58.mono hl1826
   replace R61 := R61.mono hl1826
   replace R85 := R85.mono hl1826
   refine Cod.at hok hsym (.seq (.seq (.region (.skips 1 r (.fieldAddr underlying35 r sizeOf29 r (o := 2) r r r (.load1 isAgg29 r .z r r r (.skips 1 r (.add r r r r ?_))))))))
   obtain ⟨h1840, x1841, hx1842, hd⟩ := hd
   obtain ⟨b1843, o1844, cs1845, e1846, hC1847, hr1848⟩ := R55.2 _ _ hx1842
   cases hr1848
   refine .ixa underlying29 sizeOf3 r e1846 r h1840 (idx_lt hx1842 h1840) r r (.ld1 (j := 0) isAgg3 hC1847 r r r r r (.lt r r r r (.nilS [56, 17, 16, 15, 14, 13, 12, 6, 4, 3, 0] r r (.condP r hd (fun hb1849 hd => ?_) fun hb1849 hd => ?_))))
   · refine .skipS [17, 16, 15, 14, 13, 12, 6, 4, 3, 0] r r (.seq (.block (.seq (.ownF (.s (.s .z)) fun hne1864 => ?_))))
     refine .draw [some 0, some 1, some 2, some 3, some 4, some 5, some 6, some 7, some 8, some 9, some 10] 11 MX (by kernel_rfl) (by kernel_rfl) (by kernel_rfl) (by kernel_rfl) (by kernel_rfl) (by kernel_rfl) (by kernel_rfl) (fun ex => (pto b26 (.cells #[.int .i64 r47.Rows, .int .i64 r47.Cols, .slice p53 r47.Start.length c54, .slice p56 r47.Col.length c57, .slice p59 r47.Val.length c60] 35 (0, 0))) :: (pto b88 (.cells #[.int .i64 r77.N, .slice p83 r77.Items.length c84] 38 (0, 0))) :: (OwnSl eSum 89 p1309 c1310 s1308) :: (pto b1333 (.cells #[.int .i64 s1820, .int .u64 s1821] 87 (0, 0))) :: ex) (fun _ _ => (.s (.s (.s (.s .z))))) r (.f [] r (by kernel_rfl) r r (fun ex => .loadW isAgg38 sizeOf38 r (.s .z) r r r .mk) (.f [] r (by kernel_rfl) r r (fun ex => .fieldAddr underlying35 r sizeOf29 r (o := 3) r r r .mk) (.f [1] r (by kernel_rfl) r r (fun ex => .load1 isAgg29 r .z r r r .mk) (.fs [[]] r (by kernel_rfl) ?_))))
     obtain ⟨h1865, x1866, hx1867, hd⟩ := hd
     obtain ⟨b1868, o1869, cs1870, e1871, hC1872, hr1873⟩ := R58.2 _ _ hx1867
     cases hr1873
     refine .f [2, 3] r (by kernel_rfl) r r (fun ex => .ixa underlying29 sizeOf3 r e1871 r h1865 (idx_lt hx1867 h1865) r r .mk) (.f [4] r (by kernel_rfl) r r (fun ex => .ld1 (j := 0) isAgg3 hC1872 r r r r r .mk) (.w [] [[], [5], [4, 5], [4, 5], [2, 4, 5], []] [0, 5] r (by kernel_rfl) (by kernel_rfl) (by kernel_rfl) ((dropE_kept r r)) (.inr (dropE_kept r r)) fun ex => ?_))
     have hw1875 := W_ref09_Get (I := I1825) R85 hd
     refine .callP call83 r hw1875 r r fun v1876 hv1877 => ?_
     obtain ⟨r1874, rfl, hd⟩ := hv1877
     refine .some (fun ex => (pto b26 (.cells #[.int .i64 r47.Rows, .int .i64 r47.Cols, .slice p53 r47.Start.length c54, .slice p56 r47.Col.length c57, .slice p59 r47.Val.length c60] 35 (0, 0))) :: (pto b88 (.cells #[.int .i64 r77.N, .slice p83 r77.Items.length c84] 38 (0, 0))) :: (OwnSl eSum 89 p1309 c1310 s1308) :: (pto b1333 (.cells #[.int .i64 s1820, .int .u64 s1821] 87 (0, 0))) :: ex) r (fun _ _ => (.s (.s (.s (.s .z))))) r trivial (.fs [[6]] r (by kernel_rfl) (.f [7] r (by kernel_rfl) r r (fun ex => .extract r r r r .mk) (.f [7] r (by kernel_rfl) r r (fun ex => .extract r r r r .mk) (.fs [[8, 6, 0, 1, 2, 3, 4, 5, 6, 7, 8]] r (by kernel_rfl) (.e 11 (by kernel_rfl) (by kernel_rfl) (by kernel_rfl) (.skips 1 r (.nilS [19, 18, 17, 16, 15, 14, 13, 12, 6, 4, 3, 0] r r (.seq (.seq ?_)))))))))
     refine .region (.skips 1 r (.not r r r (.nilS [70, 18, 17, 16, 15, 14, 13, 12, 6, 4, 3, 0] r r (.condP r hd (fun hb1879 hd => ?_) fun hb1879 hd => ?_))))
     · exact .exitS [17, 16, 15, 14, 13, 12, 6, 4, 3, 0] r r (.region (.skips 1 r (.add r r r r (.sub (E' := [(0, _), (3, _), (4, _), (6, _), (12, _), (13, _), (14, _), (15, _), (16, _), (57, _), (58, _)]) ⟨r, r, r, r, r, r, r, r, r, r, r, trivial⟩ (.skips 1 r (.nil' fun c w ho hs => ⟨(s1820, s1821, s1822, w64 (s1823 + 1)), hd, I1825, le1829, ho.sub ⟨r, r, r, r, r, r, r, r, r, r, trivial⟩, hs.pick (.c .z (.c .z (.c .z (.c .z .n))))⟩))))))
     refine .skipS [18, 17, 16, 15, 14, 13, 12, 6, 4, 3, 0] r r (.seq (.region (.skips 1 r (.fieldAddr underlying35 r sizeOf30 r (o := 4) r r r (.load1 isAgg30 r .z r r r (.skips 1 r ?_))))))
     obtain ⟨h1895, x1896, hx1897, hd⟩ := hd
     obtain ⟨b1898, o1899, cs1900, e1901, hC1902, hr1903⟩ := R61.2 _ _ hx1897
     cases hr1903
     refine .ixa underlying30 sizeOf2 r e1901 r h1895 (idx_lt hx1897 h1895) r r (.ld1 (j := 0) isAgg2 hC1902 r r r r r (.skips 1 r ?_))
     have hw1905 := W_ref02_Mul (I := I1825) hd
     refine .callP call84 r hw1905 r r fun v1906 hv1907 => ?_
     obtain ⟨r1904, rfl, hd⟩ := hv1907
     refine .allocA zeroValue87 r r fun b1908 => ?_
     refine .storeA sizeOf87 r r .z (.t (.t .nil)) r r (.nilS [20, 17, 16, 15, 14, 13, 12, 6, 4, 3, 0] r r (.seq (.seq (.region (.skips 1 r (.nilS [79, 20, 17, 15, 14, 13, 12, 6, 4, 3, 0] r r (.condP r hd (fun hb1910 hd => ?_) fun hb1910 hd => ?_)))))))
     · refine .region (.skips 1 r (.loadW isAgg87 sizeOf87 r (.s (.s (.s (.s .z)))) r r r (.loadW isAgg87 sizeOf87 r .z r r r ?_)))
       have hw1912 := W_ref02_Add (I := I1825) hd
       refine .callP call85 r hw1912 r r fun v1913 hv1914 => ?_
       obtain ⟨r1911, rfl, hd⟩ := hv1914
       refine .storeA sizeOf87 r r (.s (.s (.s (.s .z)))) (.t (.t .nil)) r r (.nilS [17, 15, 14, 13, 12, 6, 4, 3, 0] r r (.drop .z (.region (.skips 1 r (.nilS [16, 17, 15, 14, 13, 12, 6, 4, 3, 0] r r (.region (.skips 1 r (.add r r r r (.sub (E' := [(0, _), (3, _), (4, _), (6, _), (12, _), (13, _), (14, _), (15, _), (16, _), (57, _), (58, _)]) ⟨r, r, r, r, r, r, r, r, r, r, r, trivial⟩ ?_)))))))))
       exact .skips 1 r (.nil' fun c w ho hs => ⟨(r1911.Hi, r1911.Lo, true, w64 (s1823 + 1)), hd, I1825, le1829, ho.sub ⟨r, r, r, r, r, r, r, r, r, r, trivial⟩, hs.pick (.c .z (.c .z (.c .z (.c .z .n))))⟩)
     refine .region (.loadW isAgg87 sizeOf87 r .z r r r (.storeA sizeOf87 r r (.s (.s (.s (.s .z)))) (.t (.t .nil)) r r (.nilS [17, 15, 14, 13, 12, 6, 4, 3, 0] r r (.drop .z (.region (.skips 1 r (.nilS [16, 17, 15, 14, 13, 12, 6, 4, 3, 0] r r (.region (.skips 1 r ?_)))))))))
     exact .add r r r r (.sub (E' := [(0, _), (3, _), (4, _), (6, _), (12, _), (13, _), (14, _), (15, _), (16, _), (57, _), (58, _)]) ⟨r, r, r, r, r, r, r, r, r, r, r, trivial⟩ (.skips 1 r (.nil' fun c w ho hs => ⟨(r1904.Hi, r1904.Lo, true, w64 (s1823 + 1)), hd, I1825, le1829, ho.sub ⟨r, r, r, r, r, r, r, r, r, r, trivial⟩, hs.pick (.c .z (.c .z (.c .z (.c .z .n))))⟩)))
   refine .exitS [16, 15, 14, 13, 12, 6, 4, 3, 0] r r (.seq (.region (.skips 1 r (.nilS [85, 15, 14, 13, 12, 6, 4, 3, 0] r r (.condP r hd (fun hb1915 hd => ?_) fun hb1915 hd => ?_)))))
   · refine .region (.skips 2 r (.loadW isAgg87 sizeOf87 r (.s (.s (.s .z))) r r r (.build zeroValue89 underlying89 BI89 (.c r r r (.t .nil) (.c r r r (.s (.t (.t .nil))) .n)) (by exact ⟨⟨_, _, r, r, r⟩, ⟨⟨_, _, r, r, r⟩, trivial⟩⟩) r r (.buildSlice 1 underlying41 sizeOf89 zeroValue89 r r (.c r r r .n) r r fun b1916 => ?_))))
     obtain ⟨hl1918, hd⟩ := hd
     refine .append (ys := [({ At := s1312, Val := ({ Hi := s1820, Lo := s1821 } : Wide) } : Sum)]) 24 (.s (.s (.s .z))) underlying41 underlying41 IN89 r r r r r r r r r (.box .z (.one r) r) hl1918 r r fun p1919 c1920 => ?_
     refine .sub (E' := [(0, _), (3, _), (4, _), (6, _), (12, _), (14, _), (15, _), (85, _), (86, _), (87, _), (88, _), (89, _), (90, _), (91, _)]) ⟨r, r, r, r, r, r, r, r, r, r, r, r, r, r, trivial⟩ (.skips 1 r (.nilS [13, 14, 12, 6, 4, 3, 0] r r (.drop (.s .z) (.drop (.s (.s (.s .z))) (.region (.skips 1 r (.add r r r r (.sub (E' := [(0, _), (3, _), (4, _), (6, _), (12, _), (13, _), (37, _), (38, _)]) ⟨r, r, r, r, r, r, r, r, trivial⟩ (.skips 1 r ?_)))))))))
     exact .nil' fun c w ho hs => ⟨((s1308 ++ ([({ At := s1312, Val := ({ Hi := s1820, Lo := s1821 } : Wide) } : Sum)])), w64 (s1312 + 1)), hd, I1825, _, _, le1828, ho.sub ⟨r, r, r, r, r, r, r, trivial⟩, hs.pick (.c (.s .z) (.c (.s .z) (.c .z .n)))⟩
   exact .skipS [14, 13, 12, 6, 4, 3, 0] r r (.drop (.s (.s (.s .z))) (.region (.skips 1 r (.add r r r r (.sub (E' := [(0, _), (3, _), (4, _), (6, _), (12, _), (13, _), (37, _), (38, _)]) ⟨r, r, r, r, r, r, r, r, trivial⟩ (.skips 1 r (.nil' fun c w ho hs => ⟨(s1308, w64 (s1312 + 1)), hd, I1825, _, _, le1828, ho.sub ⟨r, r, r, r, r, r, r, trivial⟩, hs.pick (.c .z (.c .z (.c .z .n)))⟩)))))))
 refine .exitS [13] r r (.drop .z (.drop .z (.seq (.region (.skips 3 r (.nilS [11, 10] r r (.pub .z fun I1922 hl1923 R1924 => ?_)))))))
 have le1925 := IH.le.trans le1317 hl1923
 have le1926 := IH.le.trans le1318 hl1923
 exact .ret (pret results39 (.t r (.t r .n)) le1925 ⟨(s1308, 0), _, _, r, R1924, hd⟩)

theorem W_ref08_Right {I : IH} {a0 : Columns} {p1 : Option Addr} {c2 : Nat} {p4 : Option Addr} {c5 : Nat} {p7 : Option Addr} {c8 : Nat} {p10 : Option Addr} {c11 : Nat} {Q : Bool → Prop} (R3 : RepSl eI64 I p1 c2 a0.At) (R6 : RepSl eI64 I p4 c5 a0.Start) (R9 : RepSl eI64 I p7 c8 a0.Row) (R12 : RepSl eI64 I p10 c11 a0.Val) (hd : ref08_Right a0 Q) :
    PFun Tryz.prog 137 [.agg #[.int .i64 a0.Rows, .int .i64 a0.Cols, .slice p1 a0.At.length c2, .slice p4 a0.Start.length c5, .slice p7 a0.Row.length c8, .slice p10 a0.Val.length c11]] I (fun I_ v => ∃ r, v = .bool r ∧ Q r) := by
 refine Fun.enter func137 r ntmps137 r (.c .n) fun w0 M => ?_
 refine .seq (.region (.boxA r r r fun b15 => ?_))
 refine .skips 1 r (.nilS [1] r r (.seq (.seq (.region (.fieldAddr underlying32 r sizeOf3 r (o := 0) r r r (.load1 isAgg3 r .z r r r (.lt r r r r (.skips 1 r ?_))))))))
 refine splitP hd (fun hb24 hd => ?_) fun hb24 hd => ?_
 · rw [hb24]
   exact .skips 39 r (.nilS [47, 1] r r (.condKT r r (.seq (.region (.skips 1 r (.nilS [2] r r (.drop .z (.ret (pret results137 (.t r .n) (.refl _) ⟨false, r, hd⟩)))))))))
 rw [hb24]
 refine .gyes r r r (.fieldAddr underlying32 r sizeOf3 r (o := 0) r r r (.gyes r r r (.load1 isAgg3 r .z r r r (.gyes r r r (.gt r r r r (.skips 2 r ?_))))))
 refine splitP hd (fun hb25 hd => ?_) fun hb25 hd => ?_
 · rw [hb25]
   exact .skips 34 r (.nilS [47, 1] r r (.condKT r r (.seq (.region (.skips 1 r (.nilS [2] r r (.drop .z (.ret (pret results137 (.t r .n) (.refl _) ⟨false, r, hd⟩)))))))))
 rw [hb25]
 refine .gyes r r r (.fieldAddr underlying32 r sizeOf3 r (o := 1) r r r (.gyes r r r (.load1 isAgg3 r .z r r r (.gyes r r r (.lt r r r r (.skips 2 r ?_))))))
 refine splitP hd (fun hb26 hd => ?_) fun hb26 hd => ?_
 · rw [hb26]
   exact .skips 29 r (.nilS [47, 1] r r (.condKT r r (.seq (.region (.skips 1 r (.nilS [2] r r (.drop .z (.ret (pret results137 (.t r .n) (.refl _) ⟨false, r, hd⟩)))))))))
 rw [hb26]
 refine .gyes r r r (.fieldAddr underlying32 r sizeOf3 r (o := 1) r r r (.gyes r r r (.load1 isAgg3 r .z r r r (.gyes r r r (.gt r r r r (.skips 2 r ?_))))))
 refine splitP hd (fun hb27 hd => ?_) fun hb27 hd => ?_
 · rw [hb27]
   exact .skips 24 r (.nilS [47, 1] r r (.condKT r r (.seq (.region (.skips 1 r (.nilS [2] r r (.drop .z (.ret (pret results137 (.t r .n) (.refl _) ⟨false, r, hd⟩)))))))))
 rw [hb27]
 refine .gyes r r r (.fieldAddr underlying32 r sizeOf29 r (o := 3) r r r (.gyes r r r (.load1 isAgg29 r .z r r r (.gyes r r r (.len underlying29 r r r r (.gyes r r r (.fieldAddr underlying32 r sizeOf29 r (o := 2) r r r (.gyes r r r (.load1 isAgg29 r .z r r r (.gyes r r r (.len underlying29 r r r r (.gyes r r r (.add r r r r (.gyes r r r (.ne r r r r (.skips 2 r ?_))))))))))))))))
 refine splitP hd (fun hb28 hd => ?_) fun hb28 hd => ?_
 · rw [hb28]
   exact .skips 14 r (.nilS [47, 1] r r (.condKT r r (.seq (.region (.skips 1 r (.nilS [2] r r (.drop .z (.ret (pret results137 (.t r .n) (.refl _) ⟨false, r, hd⟩)))))))))
 rw [hb28]
 refine .gyes r r r (.fieldAddr underlying32 r sizeOf29 r (o := 4) r r r (.gyes r r r (.load1 isAgg29 r .z r r r (.gyes r r r (.len underlying29 r r r r (.gyes r r r (.fieldAddr underlying32 r sizeOf30 r (o := 5) r r r (.gyes r r r (.load1 isAgg30 r .z r r r (.gyes r r r (.len underlying30 r r r r (.gyes r r r (.ne r r r r (.skips 2 r ?_))))))))))))))
 refine splitP hd (fun hb29 hd => ?_) fun hb29 hd => ?_
 · rw [hb29]
   exact .skips 5 r (.nilS [47, 1] r r (.condKT r r (.seq (.region (.skips 1 r (.nilS [2] r r (.drop .z (.ret (pret results137 (.t r .n) (.refl _) ⟨false, r, hd⟩)))))))))
 rw [hb29]
 refine .gyes r r r (.fieldAddr underlying32 r sizeOf29 r (o := 4) r r r (.gyes r r r (.load1 isAgg29 r .z r r r (.gyes r r r (.len underlying29 r r r r (.gyes r r r (.gt r r r r (.skips 1 r (.nilS [47, 1] r r (.condP r hd (fun hb30 hd => ?_) fun hb30 hd => ?_))))))))))
 · exact .seq (.region (.skips 1 r (.nilS [2] r r (.drop .z (.ret (pret results137 (.t r .n) (.refl _) ⟨false, r, hd⟩))))))
 refine .skipS [1] r r (.seq (.seq (.draw [some 0, some 1, some 2, some 3, some 4, some 5, some 6, some 7, some 8, some 9, some 10, some 11, some 12, some 13, some 14, some 15, some 16, some 17] 18 MX (by kernel_rfl) (by kernel_rfl) (by kernel_rfl) (by kernel_rfl) (by kernel_rfl) (by kernel_rfl) (by kernel_rfl) (fun ex => (pto b15 (.cells #[.int .i64 a0.Rows, .int .i64 a0.Cols, .slice p1 a0.At.length c2, .slice p4 a0.Start.length c5, .slice p7 a0.Row.length c8, .slice p10 a0.Val.length c11] 32 (0, 0))) :: ex) (fun _ _ => (.s .z)) r (.f [] r (by kernel_rfl) r r (fun ex => .fieldAddr underlying32 r sizeOf29 r (o := 3) r r r .mk) (.f [0] r (by kernel_rfl) r r (fun ex => .load1 isAgg29 r .z r r r .mk) ?_)))))
 obtain ⟨h51, x52, hx53, hd⟩ := hd
 obtain ⟨b54, o55, cs56, e57, hC58, hr59⟩ := R6.2 _ _ hx53
 cases hr59
 refine .f [1] r (by kernel_rfl) r r (fun ex => .ixa underlying29 sizeOf3 r e57 r h51 (idx_lt hx53 h51) r r .mk) (.f [2] r (by kernel_rfl) r r (fun ex => .ld1 (j := 0) isAgg3 hC58 r r r r r .mk) (.f [3] r (by kernel_rfl) r r (fun ex => .ne r r r r .mk) (.fs [[4]] r (by kernel_rfl) ?_)))
 refine splitP hd (fun hb60 hd => ?_) fun hb60 hd => ?_
 · rw [hb60]
   exact .fs [[5], [6, 5], [5], [8, 5], [9, 5], [7, 10, 5], [11, 5], [5], [13, 5], [14, 5], [12, 15, 5], [5, 16]] r (by kernel_rfl) (.e 18 (by kernel_rfl) (by kernel_rfl) (by kernel_rfl) (.nilS [65, 1] r r (.condKT r r (.seq (.region (.skips 1 r (.nilS [2] r r (.drop .z (.ret (pret results137 (.t r .n) (.refl _) ⟨false, r, hd⟩))))))))))
 rw [hb60]
 refine .f [5] r (by kernel_rfl) r r (fun ex => .gyes r r r (.fieldAddr underlying32 r sizeOf29 r (o := 3) r r r .mk)) (.f [6, 5] r (by kernel_rfl) r r (fun ex => .gyes r r r (.load1 isAgg29 r .z r r r .mk)) (.f [5] r (by kernel_rfl) r r (fun ex => .gyes r r r (.fieldAddr underlying32 r sizeOf29 r (o := 2) r r r .mk)) (.f [8, 5] r (by kernel_rfl) r r (fun ex => .gyes r r r (.load1 isAgg29 r .z r r r .mk)) (.f [9, 5] r (by kernel_rfl) r r (fun ex => .gyes r r r (.len underlying29 r r r r .mk)) ?_))))
 obtain ⟨h61, x62, hx63, hd⟩ := hd
 obtain ⟨b64, o65, cs66, e67, hC68, hr69⟩ := R6.2 _ _ hx63
 cases hr69
 refine .f [7, 10, 5] r (by kernel_rfl) r r (fun ex => .gyes r r r (.ixa underlying29 sizeOf3 r e67 r h61 (idx_lt hx63 h61) r r .mk)) (.f [11, 5] r (by kernel_rfl) r r (fun ex => .gyes r r r (.ld1 (j := 0) isAgg3 hC68 r r r r r .mk)) (.f [5] r (by kernel_rfl) r r (fun ex => .gyes r r r (.fieldAddr underlying32 r sizeOf29 r (o := 4) r r r .mk)) (.f [13, 5] r (by kernel_rfl) r r (fun ex => .gyes r r r (.load1 isAgg29 r .z r r r .mk)) (.f [14, 5] r (by kernel_rfl) r r (fun ex => .gyes r r r (.len underlying29 r r r r .mk)) (.f [12, 15, 5] r (by kernel_rfl) r r (fun ex => .gyes r r r (.ne r r r r .mk)) (.fs [[5, 16]] r (by kernel_rfl) (.e 18 (by kernel_rfl) (by kernel_rfl) (by kernel_rfl) (.nilS [65, 1] r r (.condP r hd (fun hb70 hd => ?_) fun hb70 hd => ?_)))))))))
 · exact .seq (.region (.skips 1 r (.nilS [2] r r (.drop .z (.ret (pret results137 (.t r .n) (.refl _) ⟨false, r, hd⟩))))))
 refine .skipS [1] r r (.seq (.seq (.region (.skips 1 r (.nilS [3, 1] r r (.block (.loop hd (fun (s865 : Int) c w => ∃ I_, IH.le I I_ ∧ Ok ⟨193, [], none⟩ [(1, .pointer (some ⟨b15, 0, none⟩)), (3, .int .i64 s865)] c ∧ Sym w0 M I I_ [pto b15 (.cells #[.int .i64 a0.Rows, .int .i64 a0.Cols, .slice p1 a0.At.length c2, .slice p4 a0.Start.length c5, .slice p7 a0.Row.length c8, .slice p10 a0.Val.length c11] 32 (0, 0))] w) (fun c w ho hs => ⟨I, (.refl _), ho.sub ⟨r, r, trivial⟩, hs.pick (.c .z .n)⟩) ?_)))))))
 rintro s865 next866 hd c w hst
 obtain ⟨I867, hl868, hok, hsym⟩ := hst
 have le869 := IH.le.trans (.refl _) hl868
 replace R3 := R3.mono hl868
 replace R6 := R6.mono hl868
 replace R9 := R9.mono hl868
 replace R12 := R12.mono hl868
 refine Cod.at hok hsym (.seq (.seq (.region (.skips 1 r (.fieldAddr underlying32 r sizeOf29 r (o := 2) r r r (.load1 isAgg29 r .z r r r (.len underlying29 r r r r (.lt r r r r (.nilS [70, 3, 1] r r ?_)))))))))
 refine .condP r hd (fun hb871 hd => ?_) fun hb871 hd => ?_
 · refine .skipS [3, 1] r r (.seq (.block (.seq ?_)))
   refine Cod.joinQ (σ := Unit) hd (fun (_ : Unit) c w => ∃ I_, IH.le I867 I_ ∧ Ok ⟨193, [], none⟩ [(1, .pointer (some ⟨b15, 0, none⟩)), (3, .int .i64 s865)] c ∧ Sym w0 M I I_ [pto b15 (.cells #[.int .i64 a0.Rows, .int .i64 a0.Cols, .slice p1 a0.At.length c2, .slice p4 a0.Start.length c5, .slice p7 a0.Row.length c8, .slice p10 a0.Val.length c11] 32 (0, 0))] w) (fun k952 hd => ?_) ?_
   · skip
     refine .seq (.draw [some 0, some 1, some 2, some 3, some 4, some 5, some 6, some 7, some 8, some 9, some 10, some 11, some 12, some 13, some 14, some 15, some 16, some 17, some 18, some 19, some 20, some 21, some 22, some 23, some 24, some 25, some 26, some 27, some 28, some 29, some 30, some 31, some 32, some 33] 34 MX (by kernel_rfl) (by kernel_rfl) (by kernel_rfl) (by kernel_rfl) (by kernel_rfl) (by kernel_rfl) (by kernel_rfl) (fun ex => (pto b15 (.cells #[.int .i64 a0.Rows, .int .i64 a0.Cols, .slice p1 a0.At.length c2, .slice p4 a0.Start.length c5, .slice p7 a0.Row.length c8, .slice p10 a0.Val.length c11] 32 (0, 0))) :: ex) (fun _ _ => (.s .z)) r (.f [] r (by kernel_rfl) r r (fun ex => .fieldAddr underlying32 r sizeOf29 r (o := 2) r r r .mk) (.f [0] r (by kernel_rfl) r r (fun ex => .load1 isAgg29 r .z r r r .mk) (.fs [[]] r (by kernel_rfl) ?_))))
     obtain ⟨h953, x954, hx955, hd⟩ := hd
     obtain ⟨b956, o957, cs958, e959, hC960, hr961⟩ := R3.2 _ _ hx955
     cases hr961
     refine .f [1, 2] r (by kernel_rfl) r r (fun ex => .ixa underlying29 sizeOf3 r e959 r h953 (idx_lt hx955 h953) r r .mk) (.f [3] r (by kernel_rfl) r r (fun ex => .ld1 (j := 0) isAgg3 hC960 r r r r r .mk) (.f [4] r (by kernel_rfl) r r (fun ex => .lt r r r r .mk) (.fs [[5]] r (by kernel_rfl) ?_)))
     refine splitP hd (fun hb962 hd => ?_) fun hb962 hd => ?_
     · rw [hb962]
       exact .fs [[6], [7, 6], [6], [8, 9, 6], [10, 6], [6], [12, 6], [11, 13, 6], [6, 14], [15, 6], [16], [17, 16], [18, 16, 16], [19], [20, 19], [19], [21, 22, 19], [23, 19], [19], [25, 19], [19], [27, 19], [26, 28, 19], [29, 19], [24, 30, 19], [19, 31, 16], [16, 32]] r (by kernel_rfl) (.e 34 (by kernel_rfl) (by kernel_rfl) (by kernel_rfl) (.nilS [106, 3, 1] r r (.condKT r r (.seq (.region (.skips 1 r (.nilS [2] r r (.drop .z (.ret (pret results137 (.t r .n) le869 ⟨false, r, hd⟩))))))))))
     rw [hb962]
     refine .f [6] r (by kernel_rfl) r r (fun ex => .gyes r r r (.fieldAddr underlying32 r sizeOf29 r (o := 2) r r r .mk)) (.f [7, 6] r (by kernel_rfl) r r (fun ex => .gyes r r r (.load1 isAgg29 r .z r r r .mk)) (.fs [[6]] r (by kernel_rfl) ?_))
     obtain ⟨h963, x964, hx965, hd⟩ := hd
     obtain ⟨b966, o967, cs968, e969, hC970, hr971⟩ := R3.2 _ _ hx965
     cases hr971
     refine .f [8, 9, 6] r (by kernel_rfl) r r (fun ex => .gyes r r r (.ixa underlying29 sizeOf3 r e969 r h963 (idx_lt hx965 h963) r r .mk)) (.f [10, 6] r (by kernel_rfl) r r (fun ex => .gyes r r r (.ld1 (j := 0) isAgg3 hC970 r r r r r .mk)) (.f [6] r (by kernel_rfl) r r (fun ex => .gyes r r r (.fieldAddr underlying32 r sizeOf3 r (o := 1) r r r .mk)) (.f [12, 6] r (by kernel_rfl) r r (fun ex => .gyes r r r (.load1 isAgg3 r .z r r r .mk)) (.f [11, 13, 6] r (by kernel_rfl) r r (fun ex => .gyes r r r (.ge r r r r .mk)) (.fs [[6, 14], [15, 6]] r (by kernel_rfl) ?_)))))
     refine splitP hd (fun hb972 hd => ?_) fun hb972 hd => ?_
     · rw [hb972]
       exact .fs [[16], [17, 16], [18, 16, 16], [19], [20, 19], [19], [21, 22, 19], [23, 19], [19], [25, 19], [19], [27, 19], [26, 28, 19], [29, 19], [24, 30, 19], [19, 31, 16], [16, 32]] r (by kernel_rfl) (.e 34 (by kernel_rfl) (by kernel_rfl) (by kernel_rfl) (.nilS [106, 3, 1] r r (.condKT r r (.seq (.region (.skips 1 r (.nilS [2] r r (.drop .z (.ret (pret results137 (.t r .n) le869 ⟨false, r, hd⟩))))))))))
     rw [hb972]
     refine .fs [[16]] r (by kernel_rfl) (.f [17, 16] r (by kernel_rfl) r r (fun ex => .gyes r r r (.gt r r r r .mk)) (.fs [[18, 16, 16]] r (by kernel_rfl) ?_))
     refine splitP hd (fun hb973 hd => ?_) fun hb973 hd => ?_
     · rw [hb973]
       refine .f [19] r (by kernel_rfl) r r (fun ex => .gyes r r r (.fieldAddr underlying32 r sizeOf29 r (o := 2) r r r .mk)) (.f [20, 19] r (by kernel_rfl) r r (fun ex => .gyes r r r (.load1 isAgg29 r .z r r r .mk)) (.fs [[19]] r (by kernel_rfl) ?_))
       obtain ⟨h974, x975, hx976, hd⟩ := hd
       obtain ⟨b977, o978, cs979, e980, hC981, hr982⟩ := R3.2 _ _ hx976
       cases hr982
       refine .f [21, 22, 19] r (by kernel_rfl) r r (fun ex => .gyes r r r (.ixa underlying29 sizeOf3 r e980 r h974 (idx_lt hx976 h974) r r .mk)) (.f [23, 19] r (by kernel_rfl) r r (fun ex => .gyes r r r (.ld1 (j := 0) isAgg3 hC981 r r r r r .mk)) (.f [19] r (by kernel_rfl) r r (fun ex => .gyes r r r (.fieldAddr underlying32 r sizeOf29 r (o := 2) r r r .mk)) (.f [25, 19] r (by kernel_rfl) r r (fun ex => .gyes r r r (.load1 isAgg29 r .z r r r .mk)) (.fs [[19]] r (by kernel_rfl) (.f [27, 19] r (by kernel_rfl) r r (fun ex => .gyes r r r (.sub' r r r r .mk)) ?_)))))
       obtain ⟨h983, x984, hx985, hd⟩ := hd
       obtain ⟨b986, o987, cs988, e989, hC990, hr991⟩ := R3.2 _ _ hx985
       cases hr991
       refine .f [26, 28, 19] r (by kernel_rfl) r r (fun ex => .gyes r r r (.ixa underlying29 sizeOf3 r e989 r h983 (idx_lt hx985 h983) r r .mk)) (.f [29, 19] r (by kernel_rfl) r r (fun ex => .gyes r r r (.ld1 (j := 0) isAgg3 hC990 r r r r r .mk)) (.f [24, 30, 19] r (by kernel_rfl) r r (fun ex => .gyes r r r (.le' r r r r .mk)) (.fs [[19, 31, 16], [16, 32]] r (by kernel_rfl) (.e 34 (by kernel_rfl) (by kernel_rfl) (by kernel_rfl) (.nilS [106, 3, 1] r r (.condP r hd (fun hb992 hd => ?_) fun hb992 hd => ?_))))))
       · exact .seq (.region (.skips 1 r (.nilS [2] r r (.drop .z (.ret (pret results137 (.t r .n) le869 ⟨false, r, hd⟩))))))
       exact .skip' fun c w ho hs => ⟨(), hd, I867, (.refl _), ho.sub ⟨r, r, trivial⟩, hs.pick (.c .z .n)⟩
     rw [hb973]
     exact .fs [[19], [20, 19], [19], [21, 22, 19], [23, 19], [19], [25, 19], [19], [27, 19], [26, 28, 19], [29, 19], [24, 30, 19], [19, 31, 16], [16, 32]] r (by kernel_rfl) (.e 34 (by kernel_rfl) (by kernel_rfl) (by kernel_rfl) (.nilS [106, 3, 1] r r (.condKF r r (.skip' fun c w ho hs => ⟨(), hd, I867, (.refl _), ho.sub ⟨r, r, trivial⟩, hs.pick (.c .z .n)⟩))))
   rintro ⟨⟩ hd c w hst
   obtain ⟨I993, hl994, hok, hsym⟩ := hst
   have le995 := IH.le.trans le869 hl994
   have le996 := IH.le.trans (.refl _) hl994
   replace R3 := R3.mono hl994
   replace R6 := R6.mono hl994
   replace R9 := R9.mono hl994
   replace R12 := R12.mono hl994
   refine Cod.at hok hsym (.seq (.seq (.draw [some 0, some 1, some 2, some 3, some 4, some 5, some 6, some 7, some 8, some 9, some 10, some 11, some 12, some 13, some 14, some 15, some 16, some 17, some 18, some 19, some 20, some 21, some 22, some 23, some 24, some 25, some 26, some 27, some 28, some 29, some 30, some 31] 32 MX (by kernel_rfl) (by kernel_rfl) (by kernel_rfl) (by kernel_rfl) (by kernel_rfl) (by kernel_rfl) (by kernel_rfl) (fun ex => (pto b15 (.cells #[.int .i64 a0.Rows, .int .i64 a0.Cols, .slice p1 a0.At.length c2, .slice p4 a0.Start.length c5, .slice p7 a0.Row.length c8, .slice p10 a0.Val.length c11] 32 (0, 0))) :: ex) (fun _ _ => (.s .z)) r (.f [] r (by kernel_rfl) r r (fun ex => .fieldAddr underlying32 r sizeOf29 r (o := 3) r r r .mk) (.f [0] r (by kernel_rfl) r r (fun ex => .load1 isAgg29 r .z r r r .mk) (.fs [[]] r (by kernel_rfl) ?_))))))
   obtain ⟨h1036, x1037, hx1038, hd⟩ := hd
   obtain ⟨b1039, o1040, cs1041, e1042, hC1043, hr1044⟩ := R6.2 _ _ hx1038
   cases hr1044
   refine .f [1, 2] r (by kernel_rfl) r r (fun ex => .ixa underlying29 sizeOf3 r e1042 r h1036 (idx_lt hx1038 h1036) r r .mk) (.f [3] r (by kernel_rfl) r r (fun ex => .ld1 (j := 0) isAgg3 hC1043 r r r r r .mk) (.f [4] r (by kernel_rfl) r r (fun ex => .lt r r r r .mk) (.fs [[5]] r (by kernel_rfl) ?_)))
   refine splitP hd (fun hb1045 hd => ?_) fun hb1045 hd => ?_
   · rw [hb1045]
     exact .fs [[6], [7, 6], [6], [8, 9, 6], [10, 6], [6], [12, 6], [6], [14, 6], [13, 15, 6], [16, 6], [11, 17, 6], [6, 18], [19, 6], [20], [21, 20], [20], [23, 20], [22, 24, 20], [25, 20], [20], [27, 20], [28, 20], [26, 29, 20], [20, 30]] r (by kernel_rfl) (.e 32 (by kernel_rfl) (by kernel_rfl) (by kernel_rfl) (.nilS [138, 3, 1] r r (.condKT r r (.seq (.region (.skips 1 r (.nilS [2] r r (.drop .z (.ret (pret results137 (.t r .n) le995 ⟨false, r, hd⟩))))))))))
   rw [hb1045]
   refine .f [6] r (by kernel_rfl) r r (fun ex => .gyes r r r (.fieldAddr underlying32 r sizeOf29 r (o := 3) r r r .mk)) (.f [7, 6] r (by kernel_rfl) r r (fun ex => .gyes r r r (.load1 isAgg29 r .z r r r .mk)) (.fs [[6]] r (by kernel_rfl) ?_))
   obtain ⟨h1046, x1047, hx1048, hd⟩ := hd
   obtain ⟨b1049, o1050, cs1051, e1052, hC1053, hr1054⟩ := R6.2 _ _ hx1048
   cases hr1054
   refine .f [8, 9, 6] r (by kernel_rfl) r r (fun ex => .gyes r r r (.ixa underlying29 sizeOf3 r e1052 r h1046 (idx_lt hx1048 h1046) r r .mk)) (.f [10, 6] r (by kernel_rfl) r r (fun ex => .gyes r r r (.ld1 (j := 0) isAgg3 hC1053 r r r r r .mk)) (.f [6] r (by kernel_rfl) r r (fun ex => .gyes r r r (.fieldAddr underlying32 r sizeOf29 r (o := 3) r r r .mk)) (.f [12, 6] r (by kernel_rfl) r r (fun ex => .gyes r r r (.load1 isAgg29 r .z r r r .mk)) (.fs [[6]] r (by kernel_rfl) (.f [14, 6] r (by kernel_rfl) r r (fun ex => .gyes r r r (.add r r r r .mk)) ?_)))))
   obtain ⟨h1055, x1056, hx1057, hd⟩ := hd
   obtain ⟨b1058, o1059, cs1060, e1061, hC1062, hr1063⟩ := R6.2 _ _ hx1057
   cases hr1063
   refine .f [13, 15, 6] r (by kernel_rfl) r r (fun ex => .gyes r r r (.ixa underlying29 sizeOf3 r e1061 r h1055 (idx_lt hx1057 h1055) r r .mk)) (.f [16, 6] r (by kernel_rfl) r r (fun ex => .gyes r r r (.ld1 (j := 0) isAgg3 hC1062 r r r r r .mk)) (.f [11, 17, 6] r (by kernel_rfl) r r (fun ex => .gyes r r r (.ge r r r r .mk)) (.fs [[6, 18], [19, 6]] r (by kernel_rfl) ?_)))
   refine splitP hd (fun hb1064 hd => ?_) fun hb1064 hd => ?_
   · rw [hb1064]
     exact .fs [[20], [21, 20], [20], [23, 20], [22, 24, 20], [25, 20], [20], [27, 20], [28, 20], [26, 29, 20], [20, 30]] r (by kernel_rfl) (.e 32 (by kernel_rfl) (by kernel_rfl) (by kernel_rfl) (.nilS [138, 3, 1] r r (.condKT r r (.seq (.region (.skips 1 r (.nilS [2] r r (.drop .z (.ret (pret results137 (.t r .n) le995 ⟨false, r, hd⟩))))))))))
   rw [hb1064]
   refine .f [20] r (by kernel_rfl) r r (fun ex => .gyes r r r (.fieldAddr underlying32 r sizeOf29 r (o := 3) r r r .mk)) (.f [21, 20] r (by kernel_rfl) r r (fun ex => .gyes r r r (.load1 isAgg29 r .z r r r .mk)) (.fs [[20]] r (by kernel_rfl) (.f [23, 20] r (by kernel_rfl) r r (fun ex => .gyes r r r (.add r r r r .mk)) ?_)))
   obtain ⟨h1065, x1066, hx1067, hd⟩ := hd
   obtain ⟨b1068, o1069, cs1070, e1071, hC1072, hr1073⟩ := R6.2 _ _ hx1067
   cases hr1073
   refine .f [22, 24, 20] r (by kernel_rfl) r r (fun ex => .gyes r r r (.ixa underlying29 sizeOf3 r e1071 r h1065 (idx_lt hx1067 h1065) r r .mk)) (.f [25, 20] r (by kernel_rfl) r r (fun ex => .gyes r r r (.ld1 (j := 0) isAgg3 hC1072 r r r r r .mk)) (.f [20] r (by kernel_rfl) r r (fun ex => .gyes r r r (.fieldAddr underlying32 r sizeOf29 r (o := 4) r r r .mk)) (.f [27, 20] r (by kernel_rfl) r r (fun ex => .gyes r r r (.load1 isAgg29 r .z r r r .mk)) (.f [28, 20] r (by kernel_rfl) r r (fun ex => .gyes r r r (.len underlying29 r r r r .mk)) (.f [26, 29, 20] r (by kernel_rfl) r r (fun ex => .gyes r r r (.gt r r r r .mk)) (.fs [[20, 30]] r (by kernel_rfl) (.e 32 (by kernel_rfl) (by kernel_rfl) (by kernel_rfl) (.nilS [138, 3, 1] r r (.condP r hd (fun hb1074 hd => ?_) fun hb1074 hd => ?_)))))))))
   · exact .seq (.region (.skips 1 r (.nilS [2] r r (.drop .z (.ret (pret results137 (.t r .n) le995 ⟨false, r, hd⟩))))))
   refine .skipS [3, 1] r r (.seq (.region (.fieldAddr underlying32 r sizeOf29 r (o := 3) r r r (.load1 isAgg29 r .z r r r (.skips 1 r ?_)))))
   obtain ⟨h1084, x1085, hx1086, hd⟩ := hd
   obtain ⟨b1087, o1088, cs1089, e1090, hC1091, hr1092⟩ := R6.2 _ _ hx1086
   cases hr1092
   refine .ixa underlying29 sizeOf3 r e1090 r h1084 (idx_lt hx1086 h1084) r r (.ld1 (j := 0) isAgg3 hC1091 r r r r r (.skips 1 r (.nilS [4, 3, 1] r r (.block (.loop hd (fun (s1234 : Int) c w => ∃ I_, IH.le I993 I_ ∧ Ok ⟨193, [], none⟩ [(1, .pointer (some ⟨b15, 0, none⟩)), (3, .int .i64 s865), (4, .int .i64 s1234)] c ∧ Sym w0 M I I_ [pto b15 (.cells #[.int .i64 a0.Rows, .int .i64 a0.Cols, .slice p1 a0.At.length c2, .slice p4 a0.Start.length c5, .slice p7 a0.Row.length c8, .slice p10 a0.Val.length c11] 32 (0, 0))] w) (fun c w ho hs => ⟨I993, (.refl _), ho.sub ⟨r, r, r, trivial⟩, hs.pick (.c .z .n)⟩) ?_)))))
   rintro s1234 next1235 hd c w hst
   obtain ⟨I1236, hl1237, hok, hsym⟩ := hst
   have le1238 := IH.le.trans le995 hl1237
   have le1239 := IH.le.trans le996 hl1237
   have le1240 := IH.le.trans (.refl _) hl1237
   replace R3 := R3.mono hl1237
   replace R6 := R6.mono hl1237
   replace R9 := R9.mono hl1237
   replace R12 := R12.mono hl1237
   refine Cod.at hok hsym (.seq (.seq (.region (.skips 1 r (.fieldAddr underlying32 r sizeOf29 r (o := 3) r r r (.load1 isAgg29 r .z r r r (.skips 1 r (.add r r r r ?_))))))))
   obtain ⟨h1251, x1252, hx1253, hd⟩ := hd
   obtain ⟨b1254, o1255, cs1256, e1257, hC1258, hr1259⟩ := R6.2 _ _ hx1253
   cases hr1259
   refine .ixa underlying29 sizeOf3 r e1257 r h1251 (idx_lt hx1253 h1251) r r (.ld1 (j := 0) isAgg3 hC1258 r r r r r (.lt r r r r (.nilS [151, 4, 3, 1] r r (.condP r hd (fun hb1260 hd => ?_) fun hb1260 hd => ?_))))
   · refine .skipS [4, 3, 1] r r (.seq (.block (.seq (.draw [some 0, some 1, some 2, some 3, some 4, some 5, some 6, some 7, some 8, some 9, some 10, some 11, some 12, some 13, some 14, some 15, some 16, some 17, some 18, some 19, some 20, some 21, some 22, some 23, some 24, some 25, some 26, some 27, some 28, some 29, some 30, some 31, some 32, some 33, some 34, some 35, some 36, some 37, some 38] 39 MX (by kernel_rfl) (by kernel_rfl) (by kernel_rfl) (by kernel_rfl) (by kernel_rfl) (by kernel_rfl) (by kernel_rfl) (fun ex => (pto b15 (.cells #[.int .i64 a0.Rows, .int .i64 a0.Cols, .slice p1 a0.At.length c2, .slice p4 a0.Start.length c5, .slice p7 a0.Row.length c8, .slice p10 a0.Val.length c11] 32 (0, 0))) :: ex) (fun _ _ => (.s .z)) r (.f [] r (by kernel_rfl) r r (fun ex => .fieldAddr underlying32 r sizeOf29 r (o := 4) r r r .mk) (.f [0] r (by kernel_rfl) r r (fun ex => .load1 isAgg29 r .z r r r .mk) (.fs [[]] r (by kernel_rfl) ?_)))))))
     obtain ⟨h1261, x1262, hx1263, hd⟩ := hd
     obtain ⟨b1264, o1265, cs1266, e1267, hC1268, hr1269⟩ := R9.2 _ _ hx1263
     cases hr1269
     refine .f [1, 2] r (by kernel_rfl) r r (fun ex => .ixa underlying29 sizeOf3 r e1267 r h1261 (idx_lt hx1263 h1261) r r .mk) (.f [3] r (by kernel_rfl) r r (fun ex => .ld1 (j := 0) isAgg3 hC1268 r r r r r .mk) (.f [4] r (by kernel_rfl) r r (fun ex => .lt r r r r .mk) (.fs [[5]] r (by kernel_rfl) ?_)))
     refine splitP hd (fun hb1270 hd => ?_) fun hb1270 hd => ?_
     · rw [hb1270]
       exact .fs [[6], [7, 6], [6], [8, 9, 6], [10, 6], [6], [12, 6], [11, 13, 6], [6, 14], [15, 6], [16], [16], [18, 16], [16], [19, 20, 16], [21, 16], [17, 22, 16], [23, 16, 16], [24], [25, 24], [24], [26, 27, 24], [28, 24], [24], [30, 24], [24], [32, 24], [31, 33, 24], [34, 24], [29, 35, 24], [24, 36, 16], [16, 37]] r (by kernel_rfl) (.e 39 (by kernel_rfl) (by kernel_rfl) (by kernel_rfl) (.nilS [192, 4, 3, 1] r r (.condKT r r (.seq (.region (.skips 1 r (.nilS [2] r r (.drop .z (.ret (pret results137 (.t r .n) le1238 ⟨false, r, hd⟩))))))))))
     rw [hb1270]
     refine .f [6] r (by kernel_rfl) r r (fun ex => .gyes r r r (.fieldAddr underlying32 r sizeOf29 r (o := 4) r r r .mk)) (.f [7, 6] r (by kernel_rfl) r r (fun ex => .gyes r r r (.load1 isAgg29 r .z r r r .mk)) (.fs [[6]] r (by kernel_rfl) ?_))
     obtain ⟨h1271, x1272, hx1273, hd⟩ := hd
     obtain ⟨b1274, o1275, cs1276, e1277, hC1278, hr1279⟩ := R9.2 _ _ hx1273
     cases hr1279
     refine .f [8, 9, 6] r (by kernel_rfl) r r (fun ex => .gyes r r r (.ixa underlying29 sizeOf3 r e1277 r h1271 (idx_lt hx1273 h1271) r r .mk)) (.f [10, 6] r (by kernel_rfl) r r (fun ex => .gyes r r r (.ld1 (j := 0) isAgg3 hC1278 r r r r r .mk)) (.f [6] r (by kernel_rfl) r r (fun ex => .gyes r r r (.fieldAddr underlying32 r sizeOf3 r (o := 0) r r r .mk)) (.f [12, 6] r (by kernel_rfl) r r (fun ex => .gyes r r r (.load1 isAgg3 r .z r r r .mk)) (.f [11, 13, 6] r (by kernel_rfl) r r (fun ex => .gyes r r r (.ge r r r r .mk)) (.fs [[6, 14], [15, 6]] r (by kernel_rfl) ?_)))))
     refine splitP hd (fun hb1280 hd => ?_) fun hb1280 hd => ?_
     · rw [hb1280]
       exact .fs [[16], [16], [18, 16], [16], [19, 20, 16], [21, 16], [17, 22, 16], [23, 16, 16], [24], [25, 24], [24], [26, 27, 24], [28, 24], [24], [30, 24], [24], [32, 24], [31, 33, 24], [34, 24], [29, 35, 24], [24, 36, 16], [16, 37]] r (by kernel_rfl) (.e 39 (by kernel_rfl) (by kernel_rfl) (by kernel_rfl) (.nilS [192, 4, 3, 1] r r (.condKT r r (.seq (.region (.skips 1 r (.nilS [2] r r (.drop .z (.ret (pret results137 (.t r .n) le1238 ⟨false, r, hd⟩))))))))))
     rw [hb1280]
     refine .fs [[16]] r (by kernel_rfl) (.f [16] r (by kernel_rfl) r r (fun ex => .gyes r r r (.fieldAddr underlying32 r sizeOf29 r (o := 3) r r r .mk)) (.f [18, 16] r (by kernel_rfl) r r (fun ex => .gyes r r r (.load1 isAgg29 r .z r r r .mk)) (.fs [[16]] r (by kernel_rfl) ?_)))
     obtain ⟨h1281, x1282, hx1283, hd⟩ := hd
     obtain ⟨b1284, o1285, cs1286, e1287, hC1288, hr1289⟩ := R6.2 _ _ hx1283
     cases hr1289
     refine .f [19, 20, 16] r (by kernel_rfl) r r (fun ex => .gyes r r r (.ixa underlying29 sizeOf3 r e1287 r h1281 (idx_lt hx1283 h1281) r r .mk)) (.f [21, 16] r (by kernel_rfl) r r (fun ex => .gyes r r r (.ld1 (j := 0) isAgg3 hC1288 r r r r r .mk)) (.f [17, 22, 16] r (by kernel_rfl) r r (fun ex => .gyes r r r (.gt r r r r .mk)) (.fs [[23, 16, 16]] r (by kernel_rfl) ?_)))
     refine splitP hd (fun hb1290 hd => ?_) fun hb1290 hd => ?_
     · rw [hb1290]
       refine .f [24] r (by kernel_rfl) r r (fun ex => .gyes r r r (.fieldAddr underlying32 r sizeOf29 r (o := 4) r r r .mk)) (.f [25, 24] r (by kernel_rfl) r r (fun ex => .gyes r r r (.load1 isAgg29 r .z r r r .mk)) (.fs [[24]] r (by kernel_rfl) ?_))
       obtain ⟨h1291, x1292, hx1293, hd⟩ := hd
       obtain ⟨b1294, o1295, cs1296, e1297, hC1298, hr1299⟩ := R9.2 _ _ hx1293
       cases hr1299
       refine .f [26, 27, 24] r (by kernel_rfl) r r (fun ex => .gyes r r r (.ixa underlying29 sizeOf3 r e1297 r h1291 (idx_lt hx1293 h1291) r r .mk)) (.f [28, 24] r (by kernel_rfl) r r (fun ex => .gyes r r r (.ld1 (j := 0) isAgg3 hC1298 r r r r r .mk)) (.f [24] r (by kernel_rfl) r r (fun ex => .gyes r r r (.fieldAddr underlying32 r sizeOf29 r (o := 4) r r r .mk)) (.f [30, 24] r (by kernel_rfl) r r (fun ex => .gyes r r r (.load1 isAgg29 r .z r r r .mk)) (.fs [[24]] r (by kernel_rfl) (.f [32, 24] r (by kernel_rfl) r r (fun ex => .gyes r r r (.sub' r r r r .mk)) ?_)))))
       obtain ⟨h1300, x1301, hx1302, hd⟩ := hd
       obtain ⟨b1303, o1304, cs1305, e1306, hC1307, hr1308⟩ := R9.2 _ _ hx1302
       cases hr1308
       refine .f [31, 33, 24] r (by kernel_rfl) r r (fun ex => .gyes r r r (.ixa underlying29 sizeOf3 r e1306 r h1300 (idx_lt hx1302 h1300) r r .mk)) (.f [34, 24] r (by kernel_rfl) r r (fun ex => .gyes r r r (.ld1 (j := 0) isAgg3 hC1307 r r r r r .mk)) (.f [29, 35, 24] r (by kernel_rfl) r r (fun ex => .gyes r r r (.le' r r r r .mk)) (.fs [[24, 36, 16], [16, 37]] r (by kernel_rfl) (.e 39 (by kernel_rfl) (by kernel_rfl) (by kernel_rfl) (.nilS [192, 4, 3, 1] r r (.condP r hd (fun hb1309 hd => ?_) fun hb1309 hd => ?_))))))
       · exact .seq (.region (.skips 1 r (.nilS [2] r r (.drop .z (.ret (pret results137 (.t r .n) le1238 ⟨false, r, hd⟩))))))
       exact .skipS [4, 3, 1] r r (.region (.skips 1 r (.add r r r r (.sub (E' := [(1, _), (3, _), (152, _), (153, _)]) ⟨r, r, r, r, trivial⟩ (.skips 1 r (.nil' fun c w ho hs => ⟨(w64 (s1234 + 1)), hd, I1236, le1240, ho.sub ⟨r, r, r, trivial⟩, hs.pick (.c .z .n)⟩))))))
     rw [hb1290]
     refine .fs [[24], [25, 24], [24], [26, 27, 24], [28, 24], [24], [30, 24], [24], [32, 24], [31, 33, 24], [34, 24], [29, 35, 24], [24, 36, 16], [16, 37]] r (by kernel_rfl) (.e 39 (by kernel_rfl) (by kernel_rfl) (by kernel_rfl) (.nilS [192, 4, 3, 1] r r (.condKF r r (.skipS [4, 3, 1] r r (.region (.skips 1 r (.add r r r r (.sub (E' := [(1, _), (3, _), (152, _), (153, _)]) ⟨r, r, r, r, trivial⟩ (.skips 1 r ?_)))))))))
     exact .nil' fun c w ho hs => ⟨(w64 (s1234 + 1)), hd, I1236, le1240, ho.sub ⟨r, r, r, trivial⟩, hs.pick (.c .z .n)⟩
   exact .exitS [3, 1] r r (.region (.skips 1 r (.add r r r r (.sub (E' := [(1, _), (71, _), (72, _)]) ⟨r, r, r, trivial⟩ (.skips 1 r (.nil' fun c w ho hs => ⟨(w64 (s865 + 1)), hd, I1236, le1238, ho.sub ⟨r, r, trivial⟩, hs.pick (.c .z .n)⟩))))))
 exact .exitS [] r r (.drop .z (.seq (.region (.skips 1 r (.nilS [2] r r (.ret (pret results137 (.t r .n) le869 ⟨true, r, hd⟩)))))))

theorem W_ref08_Sure {I : IH} {a0 : Columns} {p1 : Option Addr} {c2 : Nat} {p4 : Option Addr} {c5 : Nat} {p7 : Option Addr} {c8 : Nat} {p10 : Option Addr} {c11 : Nat} {Q : Columns → Prop} (R3 : RepSl eI64 I p1 c2 a0.At) (R6 : RepSl eI64 I p4 c5 a0.Start) (R9 : RepSl eI64 I p7 c8 a0.Row) (R12 : RepSl eI64 I p10 c11 a0.Val) (hd : ref08_Sure a0 Q) :
    PFun Tryz.prog 86 [.agg #[.int .i64 a0.Rows, .int .i64 a0.Cols, .slice p1 a0.At.length c2, .slice p4 a0.Start.length c5, .slice p7 a0.Row.length c8, .slice p10 a0.Val.length c11]] I (fun I_ v => ∃ r p13 c14 p16 c17 p19 c20 p22 c23, v = .agg #[.int .i64 r.Rows, .int .i64 r.Cols, .slice p13 r.At.length c14, .slice p16 r.Start.length c17, .slice p19 r.Row.length c20, .slice p22 r.Val.length c23] ∧ RepSl eI64 I_ p13 c14 r.At ∧ RepSl eI64 I_ p16 c17 r.Start ∧ RepSl eI64 I_ p19 c20 r.Row ∧ RepSl eI64 I_ p22 c23 r.Val ∧ Q r) := by
 refine Fun.enter func86 r ntmps86 r (.c .n) fun w0 M => ?_
 refine .seq (.region (.boxA r r r fun b29 => ?_))
 refine .allocA zeroValue32 r r fun b31 => ?_
 refine .nilS [2, 1] r r (.seq (.seq (.region (.loadW isAgg32 sizeOf32 r (.s .z) r r r ?_))))
 have hw34 := W_ref08_Right (I := I) R3 R6 R9 R12 hd
 refine .callP call137 r hw34 r r fun v35 hv36 => ?_
 obtain ⟨r33, rfl, hd⟩ := hv36
 refine .nilS [4, 2, 1] r r (.condP r hd (fun hb37 hd => ?_) fun hb37 hd => ?_)
 · exact .seq (.region (.loadW isAgg32 sizeOf32 r (.s .z) r r r (.storeA sizeOf32 r r .z (.t (.t (.t (.t (.t (.t .nil)))))) r r (.nilS [2] r r (.drop (.s .z) (.ret (pret results86 (.w isAgg32 sizeOf32 r .z r .n) (.refl _) ⟨a0, _, _, _, _, _, _, _, _, r, R3, R6, R9, R12, hd⟩)))))))
 refine .skipS [2] r r (.drop (.s .z) (.seq (.region (.buildSlice 1 underlying29 sizeOf3 zeroValue3 r r (.c r r r .n) r r fun b38 => ?_))))
 refine .ownB (El := eI64) (ys := ([0] : List Int)) .z (.one r) r (.build zeroValue32 underlying32 BI32 (.c r r r (.s (.s (.s (.t .nil)))) .n) (by exact ⟨⟨_, _, r, r, r⟩, trivial⟩) r r (.storeA sizeOf32 r r (.s .z) (.t (.t (.t (.t (.t (.t .nil)))))) r r (.nilS [2] r r (.pub .z fun I41 hl42 R43 => ?_))))
 have le44 := IH.le.trans (.refl _) hl42
 exact .ret (pret results86 (.w isAgg32 sizeOf32 r .z r .n) le44 ⟨({ Rows := 0, Cols := 0, At := ([] : List Int), Start := ([0] : List Int), Row := ([] : List Int), Val := ([] : List Int) } : Columns), _, _, _, _, _, _, _, _, r, (.nil _ _ _), R43, (.nil _ _ _), (.nil _ _ _), hd⟩)

theorem W_ref08_Back {I : IH} {a0 : Columns} {p1 : Option Addr} {c2 : Nat} {p4 : Option Addr} {c5 : Nat} {p7 : Option Addr} {c8 : Nat} {p10 : Option Addr} {c11 : Nat} {Q : Rows → Prop} (R3 : RepSl eI64 I p1 c2 a0.At) (R6 : RepSl eI64 I p4 c5 a0.Start) (R9 : RepSl eI64 I p7 c8 a0.Row) (R12 : RepSl eI64 I p10 c11 a0.Val) (hd : ref08_Back a0 Q) :
    PFun Tryz.prog 40 [.agg #[.int .i64 a0.Rows, .int .i64 a0.Cols, .slice p1 a0.At.length c2, .slice p4 a0.Start.length c5, .slice p7 a0.Row.length c8, .slice p10 a0.Val.length c11]] I (fun I_ v => ∃ r p13 c14 p16 c17 p19 c20, v = .agg #[.int .i64 r.Rows, .int .i64 r.Cols, .slice p13 r.Start.length c14, .slice p16 r.Col.length c17, .slice p19 r.Val.length c20] ∧ RepSl eI64 I_ p13 c14 r.Start ∧ RepSl eI64 I_ p16 c17 r.Col ∧ RepSl eI64 I_ p19 c20 r.Val ∧ Q r) := by
 refine Fun.enter func40 r ntmps40 r (.c .n) fun w0 M => ?_
 refine .seq (.region (.boxA r r r fun b26 => ?_))
 refine .allocA zeroValue35 r r fun b28 => ?_
 refine .nilS [2, 1] r r (.seq (.region (.loadW isAgg32 sizeOf32 r (.s .z) r r r ?_)))
 have hw68 := W_ref08_Sure (I := I) R3 R6 R9 R12 hd
 refine .call call86 r hw68 r r fun v54 I51 hl52 hv53 => ?_
 obtain ⟨r50, p56, c57, p59, c60, p62, c63, p65, c66, rfl, R58, R61, R64, R67, hd⟩ := hv53
 have le69 := IH.le.trans (.refl _) hl52
 replace R3 := R3.mono hl52
 replace R6 := R6.mono hl52
 replace R9 := R9.mono hl52
 replace R12 := R12.mono hl52
 refine .storeA sizeOf32 r r (.s .z) (.t (.t (.t (.t (.t (.t .nil)))))) r r (.nilS [2, 1] r r (.seq (.region (.skips 1 r (.nilS [3, 2, 1] r r (.seq ?_))))))
 refine Cod.joinQ (σ := (List Triple)) hd (fun (s1380 : (List Triple)) c w => ∃ I_ p1381 c1382, IH.le I51 I_ ∧ Ok ⟨69, [], none⟩ [(1, .pointer (some ⟨b26, 0, none⟩)), (2, .pointer (some ⟨b28, 0, none⟩)), (3, .slice p1381 s1380.length c1382)] c ∧ Sym w0 M I I_ [pto b26 (.cells #[.int .i64 r50.Rows, .int .i64 r50.Cols, .slice p56 r50.At.length c57, .slice p59 r50.Start.length c60, .slice p62 r50.Row.length c63, .slice p65 r50.Val.length c66] 32 (0, 0)), pto b28 (.cells #[.int .i64 0, .int .i64 0, .slice none 0 0, .slice none 0 0, .slice none 0 0] 35 (0, 0)), OwnSl eTriple 84 p1381 c1382 s1380] w) (fun k1384 hd => ?_) ?_
 · skip
   refine .seq (.region (.skips 1 r (.nilS [4, 3, 2, 1] r r (.block (.own0 eTriple 84 (.loop hd (fun (s : (List Triple) × Int) c w => match s with | (s1819, s1823) => ∃ I_ p1820 c1821, IH.le I51 I_ ∧ Ok ⟨69, [], none⟩ [(1, .pointer (some ⟨b26, 0, none⟩)), (2, .pointer (some ⟨b28, 0, none⟩)), (3, .slice p1820 s1819.length c1821), (4, .int .i64 s1823)] c ∧ Sym w0 M I I_ [pto b26 (.cells #[.int .i64 r50.Rows, .int .i64 r50.Cols, .slice p56 r50.At.length c57, .slice p59 r50.Start.length c60, .slice p62 r50.Row.length c63, .slice p65 r50.Val.length c66] 32 (0, 0)), pto b28 (.cells #[.int .i64 0, .int .i64 0, .slice none 0 0, .slice none 0 0, .slice none 0 0] 35 (0, 0)), OwnSl eTriple 84 p1820 c1821 s1819] w) (fun c w ho hs => ⟨I51, _, _, (.refl _), ho.sub ⟨r, r, r, r, trivial⟩, hs.pick (.c (.s (.s .z)) (.c (.s .z) (.c .z .n)))⟩) ?_))))))
   rintro ⟨s1819, s1823⟩ next1825 hd c w hst
   obtain ⟨I1826, p1820, c1821, hl1827, hok, hsym⟩ := hst
   have le1828 := IH.le.trans le69 hl1827
   have le1829 := IH.le.trans (.refl _) hl1827
   replace R58 := R58.mono hl1827
   replace R61 := R61.mono hl1827
   replace R64 := R64.mono hl1827
   replace R67 := R67.mono hl1827
   refine Cod.at hok hsym (.seq (.seq (.region (.skips 1 r (.fieldAddr underlying32 r sizeOf29 r (o := 2) r r r (.load1 isAgg29 r .z r r r (.len underlying29 r r r r (.lt r r r r (.skips 1 r ?_)))))))))
   refine splitP hd (fun hb1832 hd => ?_) fun hb1832 hd => ?_
   · rw [hb1832]
     refine .gyes r r r (.move r r r (.gyes r r r (.add r r r r (.gyes r r r (.fieldAddr underlying32 r sizeOf29 r (o := 3) r r r (.gyes r r r (.load1 isAgg29 r .z r r r (.gyes r r r (.len underlying29 r r r r (.gyes r r r (.lt r r r r (.skips 1 r (.nilS [22, 4, 3, 2, 1] r r (.condP r hd (fun hb1833 hd => ?_) fun hb1833 hd => ?_))))))))))))))
     · refine .skipS [4, 3, 2, 1] r r (.seq (.block (.seq (.region (.fieldAddr underlying32 r sizeOf29 r (o := 3) r r r (.load1 isAgg29 r .z r r r (.skips 1 r ?_)))))))
       obtain ⟨h1843, x1844, hx1845, hd⟩ := hd
       obtain ⟨b1846, o1847, cs1848, e1849, hC1850, hr1851⟩ := R61.2 _ _ hx1845
       cases hr1851
       refine .ixa underlying29 sizeOf3 r e1849 r h1843 (idx_lt hx1845 h1843) r r (.ld1 (j := 0) isAgg3 hC1850 r r r r r (.skips 1 r (.nilS [5, 4, 3, 2, 1] r r (.block (.loop hd (fun (s : (List Triple) × Int) c w => match s with | (s1975, s1979) => ∃ I_ p1976 c1977, IH.le I1826 I_ ∧ Ok ⟨69, [], none⟩ [(1, .pointer (some ⟨b26, 0, none⟩)), (2, .pointer (some ⟨b28, 0, none⟩)), (3, .slice p1976 s1975.length c1977), (4, .int .i64 s1823), (5, .int .i64 s1979)] c ∧ Sym w0 M I I_ [pto b26 (.cells #[.int .i64 r50.Rows, .int .i64 r50.Cols, .slice p56 r50.At.length c57, .slice p59 r50.Start.length c60, .slice p62 r50.Row.length c63, .slice p65 r50.Val.length c66] 32 (0, 0)), pto b28 (.cells #[.int .i64 0, .int .i64 0, .slice none 0 0, .slice none 0 0, .slice none 0 0] 35 (0, 0)), OwnSl eTriple 84 p1976 c1977 s1975] w) (fun c w ho hs => ⟨I1826, _, _, (.refl _), ho.sub ⟨r, r, r, r, r, trivial⟩, hs.pick (.c .z (.c .z (.c .z .n)))⟩) ?_)))))
       rintro ⟨s1975, s1979⟩ next1980 hd c w hst
       obtain ⟨I1981, p1976, c1977, hl1982, hok, hsym⟩ := hst
       have le1983 := IH.le.trans le1828 hl1982
       have le1984 := IH.le.trans le1829 hl1982
       have le1985 := IH.le.trans (.refl _) hl1982
       replace R58 := R58.mono hl1982
       replace R61 := R61.mono hl1982
       replace R64 := R64.mono hl1982
       replace R67 := R67.mono hl1982
       refine Cod.at hok hsym (.seq (.seq (.region (.skips 1 r (.fieldAddr underlying32 r sizeOf29 r (o := 3) r r r (.load1 isAgg29 r .z r r r (.skips 1 r (.add r r r r ?_))))))))
       obtain ⟨h1996, x1997, hx1998, hd⟩ := hd
       obtain ⟨b1999, o2000, cs2001, e2002, hC2003, hr2004⟩ := R61.2 _ _ hx1998
       cases hr2004
       refine .ixa underlying29 sizeOf3 r e2002 r h1996 (idx_lt hx1998 h1996) r r (.ld1 (j := 0) isAgg3 hC2003 r r r r r (.lt r r r r (.nilS [37, 5, 4, 3, 2, 1] r r (.condP r hd (fun hb2005 hd => ?_) fun hb2005 hd => ?_))))
       · refine .skipS [5, 4, 3, 2, 1] r r (.seq (.block (.ownF (.s (.s .z)) fun hne2006 => ?_)))
         refine .draw [some 0, some 1, some 2, some 3, some 4, some 5, some 6, some 7, some 8, some 9, some 10, some 11, some 12, some 13, some 14, some 15, some 16, some 17, some 18] 19 MX (by kernel_rfl) (by kernel_rfl) (by kernel_rfl) (by kernel_rfl) (by kernel_rfl) (by kernel_rfl) (by kernel_rfl) (fun ex => (pto b26 (.cells #[.int .i64 r50.Rows, .int .i64 r50.Cols, .slice p56 r50.At.length c57, .slice p59 r50.Start.length c60, .slice p62 r50.Row.length c63, .slice p65 r50.Val.length c66] 32 (0, 0))) :: (pto b28 (.cells #[.int .i64 0, .int .i64 0, .slice none 0 0, .slice none 0 0, .slice none 0 0] 35 (0, 0))) :: (OwnSl eTriple 84 p1976 c1977 s1975) :: ex) (fun _ _ => (.s (.s (.s .z)))) r (.fs [[]] r (by kernel_rfl) (.f [] r (by kernel_rfl) r r (fun ex => .fieldAddr underlying32 r sizeOf29 r (o := 4) r r r .mk) (.f [1] r (by kernel_rfl) r r (fun ex => .load1 isAgg29 r .z r r r .mk) (.fs [[]] r (by kernel_rfl) ?_))))
         obtain ⟨h2007, x2008, hx2009, hd⟩ := hd
         obtain ⟨b2010, o2011, cs2012, e2013, hC2014, hr2015⟩ := R64.2 _ _ hx2009
         cases hr2015
         refine .f [2, 3] r (by kernel_rfl) r r (fun ex => .ixa underlying29 sizeOf3 r e2013 r h2007 (idx_lt hx2009 h2007) r r .mk) (.f [4] r (by kernel_rfl) r r (fun ex => .ld1 (j := 0) isAgg3 hC2014 r r r r r .mk) (.f [] r (by kernel_rfl) r r (fun ex => .fieldAddr underlying32 r sizeOf29 r (o := 2) r r r .mk) (.f [6] r (by kernel_rfl) r r (fun ex => .load1 isAgg29 r .z r r r .mk) (.fs [[]] r (by kernel_rfl) ?_))))
         obtain ⟨h2016, x2017, hx2018, hd⟩ := hd
         obtain ⟨b2019, o2020, cs2021, e2022, hC2023, hr2024⟩ := R58.2 _ _ hx2018
         cases hr2024
         refine .f [7, 8] r (by kernel_rfl) r r (fun ex => .ixa underlying29 sizeOf3 r e2022 r h2016 (idx_lt hx2018 h2016) r r .mk) (.f [9] r (by kernel_rfl) r r (fun ex => .ld1 (j := 0) isAgg3 hC2023 r r r r r .mk) (.f [] r (by kernel_rfl) r r (fun ex => .fieldAddr underlying32 r sizeOf30 r (o := 5) r r r .mk) (.f [11] r (by kernel_rfl) r r (fun ex => .load1 isAgg30 r .z r r r .mk) (.fs [[]] r (by kernel_rfl) ?_))))
         obtain ⟨h2025, x2026, hx2027, hd⟩ := hd
         obtain ⟨b2028, o2029, cs2030, e2031, hC2032, hr2033⟩ := R67.2 _ _ hx2027
         cases hr2033
         refine .f [12, 13] r (by kernel_rfl) r r (fun ex => .ixa underlying30 sizeOf2 r e2031 r h2025 (idx_lt hx2027 h2025) r r .mk) (.f [14] r (by kernel_rfl) r r (fun ex => .ld1 (j := 0) isAgg2 hC2032 r r r r r .mk) (.f [5, 10, 15] r (by kernel_rfl) r r (fun ex => .build zeroValue84 underlying84 BI84 (.c r r r (.t .nil) (.c r r r (.s (.t .nil)) (.c r r r (.s (.s (.t .nil))) .n))) (by exact ⟨⟨_, _, r, r, r⟩, ⟨⟨_, _, r, r, r⟩, ⟨⟨_, _, r, r, r⟩, trivial⟩⟩⟩) r r .mk) (.w [0] [[], [16], [15, 16], [14, 15, 16], [14, 15, 16], [12, 14, 15, 16], [16], [10, 16], [9, 10, 16], [9, 10, 16], [7, 9, 10, 16], [16], [5, 16], [4, 5, 16], [4, 5, 16], [2, 4, 5, 16]] [16] r (by kernel_rfl) (by kernel_rfl) (by kernel_rfl) ((dropE_kept r r)) (.inr (dropE_kept r r)) fun ex => ?_)))
         refine .buildSlice 1 underlying24 sizeOf84 zeroValue84 r r (.c r r r .n) r r fun b2034 => ?_
         refine .some (fun ex => (pto b2034 (.cells #[.int .i64 x2008, .int .i64 x2017, .int .i64 x2026] 84 (0, 0))) :: (pto b26 (.cells #[.int .i64 r50.Rows, .int .i64 r50.Cols, .slice p56 r50.At.length c57, .slice p59 r50.Start.length c60, .slice p62 r50.Row.length c63, .slice p65 r50.Val.length c66] 32 (0, 0))) :: (pto b28 (.cells #[.int .i64 0, .int .i64 0, .slice none 0 0, .slice none 0 0, .slice none 0 0] 35 (0, 0))) :: (OwnSl eTriple 84 p1976 c1977 s1975) :: ex) r (fun _ _ => (.s (.s (.s (.s .z))))) r (.ccs [[]] r r (by kernel_rfl) trivial) (.w [] [[]] [0, 17] r (by kernel_rfl) (by kernel_rfl) (by kernel_rfl) ((dropE_kept r r)) (.inr (dropE_kept r r)) fun ex => ?_)
         obtain ⟨hl2036, hd⟩ := hd
         refine .append (ys := [({ Row := x2008, Col := x2017, Val := x2026 } : Triple)]) 24 (.s (.s (.s .z))) underlying24 underlying24 IN84 r r r r r r r r r (.box .z (.one r) r) hl2036 r r fun p2037 c2038 => ?_
         refine .some (fun ex => (OwnSl eTriple 84 p2037 c2038 (s1975 ++ ([({ Row := x2008, Col := x2017, Val := x2026 } : Triple)]))) :: (pto b2034 (.cells #[.int .i64 x2008, .int .i64 x2017, .int .i64 x2026] 84 (0, 0))) :: (pto b26 (.cells #[.int .i64 r50.Rows, .int .i64 r50.Cols, .slice p56 r50.At.length c57, .slice p59 r50.Start.length c60, .slice p62 r50.Row.length c63, .slice p65 r50.Val.length c66] 32 (0, 0))) :: (pto b28 (.cells #[.int .i64 0, .int .i64 0, .slice none 0 0, .slice none 0 0, .slice none 0 0] 35 (0, 0))) :: ex) r (fun _ _ => (.s (.s (.s (.s .z))))) r trivial (.e 19 (by kernel_rfl) (by kernel_rfl) (by kernel_rfl) (.sub (E' := [(1, _), (2, _), (4, _), (5, _), (40, _), (41, _), (42, _), (43, _), (44, _), (45, _), (46, _), (47, _), (48, _), (49, _), (50, _), (51, _), (52, _), (53, _), (54, _), (55, _), (56, _), (57, _), (58, _)]) ⟨r, r, r, r, r, r, r, r, r, r, r, r, r, r, r, r, r, r, r, r, r, r, r, trivial⟩ (.skips 1 r (.nilS [3, 5, 4, 2, 1] r r (.drop (.s .z) (.region (.skips 1 r (.add r r r r (.sub (E' := [(1, _), (2, _), (4, _), (3, _), (38, _), (39, _)]) ⟨r, r, r, r, r, r, trivial⟩ ?_)))))))))
         exact .skips 1 r (.nil' fun c w ho hs => ⟨((s1975 ++ ([({ Row := x2008, Col := x2017, Val := x2026 } : Triple)])), w64 (s1979 + 1)), hd, I1981, _, _, le1985, ho.sub ⟨r, r, r, r, r, trivial⟩, hs.pick (.c (.s .z) (.c (.s .z) (.c .z .n)))⟩)
       exact .exitS [4, 3, 2, 1] r r (.region (.skips 1 r (.add r r r r (.sub (E' := [(1, _), (2, _), (3, _), (23, _), (24, _)]) ⟨r, r, r, r, r, trivial⟩ (.skips 1 r (.nil' fun c w ho hs => ⟨(s1975, w64 (s1823 + 1)), hd, I1981, _, _, le1984, ho.sub ⟨r, r, r, r, trivial⟩, hs.pick (.c .z (.c .z (.c .z .n)))⟩))))))
     exact .exit fun c w ho hs => ⟨s1819, hd, I1826, _, _, le1829, ho.sub ⟨r, r, r, trivial⟩, hs.pick (.c .z (.c .z (.c .z .n)))⟩
   rw [hb1832]
   exact .skips 7 r (.nilS [22, 4, 3, 2, 1] r r (.condKF r r (.exit fun c w ho hs => ⟨s1819, hd, I1826, _, _, le1829, ho.sub ⟨r, r, r, trivial⟩, hs.pick (.c .z (.c .z (.c .z .n)))⟩)))
 rintro s1380 hd c w hst
 obtain ⟨I2040, p1381, c1382, hl2041, hok, hsym⟩ := hst
 have le2042 := IH.le.trans le69 hl2041
 have le2043 := IH.le.trans (.refl _) hl2041
 replace R58 := R58.mono hl2041
 replace R61 := R61.mono hl2041
 replace R64 := R64.mono hl2041
 replace R67 := R67.mono hl2041
 refine Cod.at hok hsym (.seq (.region (.fieldAddr underlying32 r sizeOf3 r (o := 0) r r r (.load1 isAgg3 r .z r r r (.fieldAddr underlying32 r sizeOf3 r (o := 1) r r r (.load1 isAgg3 r .z r r r (.skips 1 r (.pub (.s (.s .z)) fun I2044 hl2045 R2046 => ?_))))))))
 have le2047 := IH.le.trans le2042 hl2045
 have le2048 := IH.le.trans le2043 hl2045
 replace R58 := R58.mono hl2045
 replace R61 := R61.mono hl2045
 replace R64 := R64.mono hl2045
 replace R67 := R67.mono hl2045
 have hw2064 := W_ref07_Of (I := I2044) R2046 hd
 refine .call call44 r hw2064 r r fun v2053 I2050 hl2051 hv2052 => ?_
 obtain ⟨r2049, p2055, c2056, p2058, c2059, p2061, c2062, rfl, R2057, R2060, R2063, hd⟩ := hv2052
 have le2065 := IH.le.trans le2047 hl2051
 have le2066 := IH.le.trans le2048 hl2051
 replace R58 := R58.mono hl2051
 replace R61 := R61.mono hl2051
 replace R64 := R64.mono hl2051
 replace R67 := R67.mono hl2051
 replace R2046 := R2046.mono hl2051
 refine .skips 1 r (.extract r r r r (.extract r r r r (.allocA zeroValue35 r r fun b2067 => ?_)))
 refine .storeA sizeOf35 r r .z (.t (.t (.t (.t (.t .nil))))) r r (.skips 1 r (.nilS [6, 2] r r (.drop (.s .z) (.seq (.region (.loadW isAgg35 sizeOf35 r .z r r r (.storeA sizeOf35 r r (.s .z) (.t (.t (.t (.t (.t .nil))))) r r (.nilS [2] r r (.drop .z ?_)))))))))
 exact .ret (pret results40 (.w isAgg35 sizeOf35 r .z r .n) le2065 ⟨r2049.1, _, _, _, _, _, _, r, R2057, R2060, R2063, hd⟩)

theorem W_ref03_New {I : IH} {a0 : Int}  {Q : (List Int) → Prop}  (hd : ref03_New a0 Q) :
    PFun Tryz.prog 138 [.int .i64 a0] I (fun I_ v => ∃ r p1 c2, v = .slice p1 r.length c2 ∧ RepSl eU64 I_ p1 c2 r ∧ Q r) := by
 refine Fun.enter func138 r ntmps138 r (.c .n) fun w0 M => ?_
 refine .seq (.region (.skips 1 r (.nilS [0] r r (.seq (.region (.skips 1 r ?_))))))
 have hw5 := W_ref03_words (I := I) hd
 refine .callP call167 r hw5 r r fun v6 hv7 => ?_
 obtain ⟨r4, rfl, hd⟩ := hv7
 obtain ⟨h8, h9, hd⟩ := hd
 refine .make (El := eU64) (zv := 0) 8 underlying26 IN85 r r r r r r h8 h9 r r r fun b10 => ?_
 refine .skips 1 r (.nilS [2] r r (.pub .z fun I13 hl14 R15 => ?_))
 have le16 := IH.le.trans (.refl _) hl14
 exact .ret (pret results138 (.t r .n) le16 ⟨(List.replicate r4.toNat 0), _, _, r, R15, hd⟩)

theorem W_ref10_New {I : IH} {a0 : Int}  {Q : Dense → Prop}  (hd : ref10_New a0 Q) :
    OFun Tryz.prog 87 [.int .i64 a0] I (fun I_ v l => ∃ r p1 c2 p4 c5, v = .agg #[.int .i64 r.N, .slice p1 r.Has.length c2, .slice p4 r.Vals.length c5] ∧ RepSl eU64 I_ p1 c2 r.Has ∧ l = [OwnSl eI64 2 p4 c5 r.Vals] ∧ Q r) := by
 refine Fun.enter func87 r ntmps87 r (.c .n) fun w0 M => ?_
 refine .seq (.region (.allocA zeroValue62 r r fun b9 => ?_))
 refine .nilS [2, 0] r r (.seq (.seq (.region (.skips 1 r (.lt r r r r (.skips 1 r ?_))))))
 refine splitP hd (fun hb11 hd => ?_) fun hb11 hd => ?_
 · rw [hb11]
   refine .skips 3 r (.nilS [8, 2, 0] r r (.condKT r r (.region (.sub (E' := [(2, _), (8, _)]) ⟨r, r, trivial⟩ (.skips 1 r (.nilS [0, 2] r r (.seq (.draw [some 0, some 1, some 3, some 4, some 2, none, some 5] 6 MX (by kernel_rfl) (by kernel_rfl) (by kernel_rfl) (by kernel_rfl) (by kernel_rfl) (by kernel_rfl) (by kernel_rfl) (fun ex => (pto b9 (.cells #[.int .i64 0, .slice none 0 0, .slice none 0 0] 62 (0, 0))) :: ex) (fun _ _ => (.s .z)) r (.fs [[], [], []] r (by kernel_rfl) ?_)))))))))
   obtain ⟨h13, h14, hd⟩ := hd
   refine .a (fun b => .slice (some ⟨b, 0, none⟩) (List.replicate (Int.toNat 0) (0 : Int)).length (Int.toNat 0)) (fun b => OwnSl eI64 2 (some ⟨b, 0, none⟩) (Int.toNat 0) (List.replicate (Int.toNat 0) (0 : Int))) r r r r (fun _ L hL ex => .make (El := eI64) (zv := 0) 8 underlying30 IN2 r r r r r r h13 h14 r r r fun b => .mk (val := fun b => .slice (some ⟨b, 0, none⟩) (List.replicate (Int.toNat 0) (0 : Int)).length (Int.toNat 0)) (atom := fun b => OwnSl eI64 2 (some ⟨b, 0, none⟩) (Int.toNat 0) (List.replicate (Int.toNat 0) (0 : Int))) hL b) (.w [3, 0] [[]] [1] r (by kernel_rfl) (by kernel_rfl) (by kernel_rfl) ((dropE_kept r r)) (.inr (dropE_kept r r)) fun ex => ?_)
   have hw24 := W_ref03_New (I := I) hd
   refine .call call138 r hw24 r r fun v19 I16 hl17 hv18 => ?_
   obtain ⟨r15, p21, c22, rfl, R23, hd⟩ := hv18
   have le25 := IH.le.trans (.refl _) hl17
   exact .some (fun ex => (pto b9 (.cells #[.int .i64 0, .slice none 0 0, .slice none 0 0] 62 (0, 0))) :: ex) r (fun _ _ => (.s .z)) r (.ccs [[], []] r r (by kernel_rfl) trivial) (.b r fun b26 => DrawD.nop (.f [0, 2, 4] r (by kernel_rfl) r r (fun ex => .build zeroValue62 underlying62 BI62 (.c r r r (.t .nil) (.c r r r (.s (.t .nil)) (.c r r r (.s (.s (.t .nil))) .n))) (by exact ⟨⟨_, _, r, r, r⟩, ⟨⟨_, _, r, r, r⟩, ⟨⟨_, _, r, r, r⟩, trivial⟩⟩⟩) r r .mk) (.e 6 (by kernel_rfl) (by kernel_rfl) (by kernel_rfl) (.storeA sizeOf62 r r .z (.t (.t (.t .nil))) r r (.nilS [2] r r (.ret (oret results87 (.w isAgg62 sizeOf62 r .z r .n) le25 (.c (.s .z) .n) ⟨({ N := 0, Has := r15, Vals := (List.replicate (Int.toNat 0) (0 : Int)) } : Dense), _, _, _, _, r, R23, r, hd⟩)))))))
 rw [hb11]
 refine .gyes r r r (.move r r r (.gyes r r r (.gt r r r r (.skips 1 r (.nilS [8, 2, 0] r r (.condP r hd (fun hb27 hd => ?_) fun hb27 hd => ?_))))))
 · refine .region (.sub (E' := [(2, _), (8, _)]) ⟨r, r, trivial⟩ (.skips 1 r (.nilS [0, 2] r r (.seq (.draw [some 0, some 1, some 3, some 4, some 2, none, some 5] 6 MX (by kernel_rfl) (by kernel_rfl) (by kernel_rfl) (by kernel_rfl) (by kernel_rfl) (by kernel_rfl) (by kernel_rfl) (fun ex => (pto b9 (.cells #[.int .i64 0, .slice none 0 0, .slice none 0 0] 62 (0, 0))) :: ex) (fun _ _ => (.s .z)) r (.fs [[], [], []] r (by kernel_rfl) ?_))))))
   obtain ⟨h29, h30, hd⟩ := hd
   refine .a (fun b => .slice (some ⟨b, 0, none⟩) (List.replicate (Int.toNat 0) (0 : Int)).length (Int.toNat 0)) (fun b => OwnSl eI64 2 (some ⟨b, 0, none⟩) (Int.toNat 0) (List.replicate (Int.toNat 0) (0 : Int))) r r r r (fun _ L hL ex => .make (El := eI64) (zv := 0) 8 underlying30 IN2 r r r r r r h29 h30 r r r fun b => .mk (val := fun b => .slice (some ⟨b, 0, none⟩) (List.replicate (Int.toNat 0) (0 : Int)).length (Int.toNat 0)) (atom := fun b => OwnSl eI64 2 (some ⟨b, 0, none⟩) (Int.toNat 0) (List.replicate (Int.toNat 0) (0 : Int))) hL b) (.w [3, 0] [[]] [1] r (by kernel_rfl) (by kernel_rfl) (by kernel_rfl) ((dropE_kept r r)) (.inr (dropE_kept r r)) fun ex => ?_)
   have hw40 := W_ref03_New (I := I) hd
   refine .call call138 r hw40 r r fun v35 I32 hl33 hv34 => ?_
   obtain ⟨r31, p37, c38, rfl, R39, hd⟩ := hv34
   have le41 := IH.le.trans (.refl _) hl33
   exact .some (fun ex => (pto b9 (.cells #[.int .i64 0, .slice none 0 0, .slice none 0 0] 62 (0, 0))) :: ex) r (fun _ _ => (.s .z)) r (.ccs [[], []] r r (by kernel_rfl) trivial) (.b r fun b42 => DrawD.nop (.f [0, 2, 4] r (by kernel_rfl) r r (fun ex => .build zeroValue62 underlying62 BI62 (.c r r r (.t .nil) (.c r r r (.s (.t .nil)) (.c r r r (.s (.s (.t .nil))) .n))) (by exact ⟨⟨_, _, r, r, r⟩, ⟨⟨_, _, r, r, r⟩, ⟨⟨_, _, r, r, r⟩, trivial⟩⟩⟩) r r .mk) (.e 6 (by kernel_rfl) (by kernel_rfl) (by kernel_rfl) (.storeA sizeOf62 r r .z (.t (.t (.t .nil))) r r (.nilS [2] r r (.ret (oret results87 (.w isAgg62 sizeOf62 r .z r .n) le41 (.c (.s .z) .n) ⟨({ N := 0, Has := r31, Vals := (List.replicate (Int.toNat 0) (0 : Int)) } : Dense), _, _, _, _, r, R39, r, hd⟩)))))))
 refine .skipS [2, 0] r r (.seq (.draw [some 0, some 1, some 3, some 4, some 2, none, some 5] 6 MX (by kernel_rfl) (by kernel_rfl) (by kernel_rfl) (by kernel_rfl) (by kernel_rfl) (by kernel_rfl) (by kernel_rfl) (fun ex => (pto b9 (.cells #[.int .i64 0, .slice none 0 0, .slice none 0 0] 62 (0, 0))) :: ex) (fun _ _ => (.s .z)) r (.fs [[], [], []] r (by kernel_rfl) ?_)))
 obtain ⟨h44, h45, hd⟩ := hd
 refine .a (fun b => .slice (some ⟨b, 0, none⟩) (List.replicate a0.toNat (0 : Int)).length a0.toNat) (fun b => OwnSl eI64 2 (some ⟨b, 0, none⟩) a0.toNat (List.replicate a0.toNat (0 : Int))) r r r r (fun _ L hL ex => .make (El := eI64) (zv := 0) 8 underlying30 IN2 r r r r r r h44 h45 r r r fun b => .mk (val := fun b => .slice (some ⟨b, 0, none⟩) (List.replicate a0.toNat (0 : Int)).length a0.toNat) (atom := fun b => OwnSl eI64 2 (some ⟨b, 0, none⟩) a0.toNat (List.replicate a0.toNat (0 : Int))) hL b) (.w [3, 0] [[]] [1] r (by kernel_rfl) (by kernel_rfl) (by kernel_rfl) ((dropE_kept r r)) (.inr (dropE_kept r r)) fun ex => ?_)
 have hw55 := W_ref03_New (I := I) hd
 refine .call call138 r hw55 r r fun v50 I47 hl48 hv49 => ?_
 obtain ⟨r46, p52, c53, rfl, R54, hd⟩ := hv49
 have le56 := IH.le.trans (.refl _) hl48
 exact .some (fun ex => (pto b9 (.cells #[.int .i64 0, .slice none 0 0, .slice none 0 0] 62 (0, 0))) :: ex) r (fun _ _ => (.s .z)) r (.ccs [[], []] r r (by kernel_rfl) trivial) (.b r fun b57 => DrawD.nop (.f [0, 2, 4] r (by kernel_rfl) r r (fun ex => .build zeroValue62 underlying62 BI62 (.c r r r (.t .nil) (.c r r r (.s (.t .nil)) (.c r r r (.s (.s (.t .nil))) .n))) (by exact ⟨⟨_, _, r, r, r⟩, ⟨⟨_, _, r, r, r⟩, ⟨⟨_, _, r, r, r⟩, trivial⟩⟩⟩) r r .mk) (.e 6 (by kernel_rfl) (by kernel_rfl) (by kernel_rfl) (.storeA sizeOf62 r r .z (.t (.t (.t .nil))) r r (.nilS [2] r r (.ret (oret results87 (.w isAgg62 sizeOf62 r .z r .n) le56 (.c (.s .z) .n) ⟨({ N := a0, Has := r46, Vals := (List.replicate a0.toNat (0 : Int)) } : Dense), _, _, _, _, r, R54, r, hd⟩)))))))

theorem W_ref03_set {I : IH} {a0 : List Int} {a1 : Int} {a2 : Bool} {p1 : Option Addr} {c2 : Nat} {Q : (List Int) → Prop} (R3 : RepSl eU64 I p1 c2 a0) (hd : ref03_set a0 a1 a2 Q) :
    PFun Tryz.prog 168 [.slice p1 a0.length c2, .int .i64 a1, .bool a2] I (fun I_ v => ∃ r p4 c5, v = .slice p4 r.length c5 ∧ RepSl eU64 I_ p4 c5 r ∧ Q r) := by
 refine Fun.enter func168 r ntmps168 r (.c (.c (.c .n))) fun w0 M => ?_
 refine .seq (.region (.skips 1 r (.nilS [2, 1, 0] r r (.seq (.region (.skips 1 r (.nilS [7, 2, 1, 0] r r (.seq (.region ?_)))))))))
 refine .skips 2 r (.own0 eU64 85 ?_)
 obtain ⟨hl13, hd⟩ := hd
 refine .append (ys := a0) 8 .z underlying26 underlying26 IN85 r r r r r r r r r (.imm R3 r) hl13 r r fun p14 c15 => ?_
 refine .sub (E' := [(0, _), (1, _), (2, _), (9, _), (10, _), (11, _)]) ⟨r, r, r, r, r, r, trivial⟩ (.skips 1 r (.nilS [7, 2, 1, 0] r r (.seq (.seq (.region (.skips 1 r (.lt r r r r (.skips 1 r ?_))))))))
 refine splitP hd (fun hb19 hd => ?_) fun hb19 hd => ?_
 · rw [hb19]
   refine .skips 6 r (.nilS [20, 7, 2, 1] r r (.condKT r r (.seq (.region (.skips 2 r (.nilS [6] r r (.pub .z fun I20 hl21 R22 => ?_)))))))
   have le23 := IH.le.trans (.refl _) hl21
   exact .ret (pret results168 (.t r .n) le23 ⟨(([] : List Int) ++ a0), _, _, r, R22, hd⟩)
 rw [hb19]
 refine .gyes r r r (.move r r r (.gyes r r r (.quo r r (by decide) r r (.gyes r r r (.move r r r (.gyes r r r (.len underlying26 r r r r (.gyes r r r (.ge r r r r (.skips 1 r (.nilS [20, 7, 2, 1] r r (.condP r hd (fun hb24 hd => ?_) fun hb24 hd => ?_))))))))))))
 · refine .seq (.region (.skips 2 r (.nilS [6] r r (.pub .z fun I25 hl26 R27 => ?_))))
   have le28 := IH.le.trans (.refl _) hl26
   exact .ret (pret results168 (.t r .n) le28 ⟨(([] : List Int) ++ a0), _, _, r, R27, hd⟩)
 refine .skipS [7, 2, 1] r r (.seq (.region (.skips 1 r (.rem r r (by decide) r r (.conv underlying3 underlying164 r r r ?_)))))
 obtain ⟨hz30, hd⟩ := hd
 refine .shl' r r hz30 r r (.skips 1 r (.nilS [8, 7, 2, 1] r r (.seq (.seq (.region (.skips 1 r (.nilS [26, 8, 7, 1] r r (.condP r hd (fun hb31 hd => ?_) fun hb31 hd => ?_))))))))
 · refine .region (.skips 2 r (.quo r r (by decide) r r (.skips 2 r (.quo r r (by decide) r r ?_))))
   obtain ⟨h32, x33, hx34, hd⟩ := hd
   refine .ownNe .z (idx_ne hx34) fun b35 e36 => ?_
   cases e36
   refine .ixa0 underlying26 sizeOf85 r r h32 (idx_lt hx34 h32) r r (.lo1 (j := 0) isAgg85 .z hx34 r r r r r (.skips 1 r (.or r r r r ?_)))
   obtain ⟨h37, x38, hx39, hd⟩ := hd
   refine .ixa0 underlying26 sizeOf85 r r h37 (idx_lt hx39 h37) r r (.stO1 (j := 0) (v' := (bor .u64 x33 (shl .u64 1 (IntKind.wrap .u64 (a1.tmod 64))))) sizeOf85 .z hx39 r r r (.t .nil) r (.sub (E' := [(1, _), (7, .slice (some ⟨b35, 0, none⟩) ((([] : List Int) ++ a0).set ((w64 (a1.tdiv 64)).toNat) (bor .u64 x33 (shl .u64 1 (IntKind.wrap .u64 (a1.tmod 64))))).length c15), (8, _), (26, _), (27, .slice (some ⟨b35, 0, none⟩) ((([] : List Int) ++ a0).set ((w64 (a1.tdiv 64)).toNat) (bor .u64 x33 (shl .u64 1 (IntKind.wrap .u64 (a1.tmod 64))))).length c15), (28, _), (29, _), (30, .slice (some ⟨b35, 0, none⟩) ((([] : List Int) ++ a0).set ((w64 (a1.tdiv 64)).toNat) (bor .u64 x33 (shl .u64 1 (IntKind.wrap .u64 (a1.tmod 64))))).length c15), (31, _), (32, _), (33, _), (34, _), (35, _), (36, _), (37, _)]) ⟨r, (by simp only [List.length_set]; rfl), r, r, (by simp only [List.length_set]; rfl), r, r, (by simp only [List.length_set]; rfl), r, r, r, r, r, r, r, trivial⟩ (.nilS [7] r r (.seq (.region (.skips 2 r (.nilS [6] r r (.pub .z fun I40 hl41 R42 => ?_))))))))
   have le43 := IH.le.trans (.refl _) hl41
   exact .ret (pret results168 (.t r .n) le43 ⟨((([] : List Int) ++ a0).set ((w64 (a1.tdiv 64)).toNat) (bor .u64 x33 (shl .u64 1 (IntKind.wrap .u64 (a1.tmod 64))))), _, _, r, R42, hd⟩)
 refine .region (.skips 2 r (.quo r r (by decide) r r (.skips 2 r (.quo r r (by decide) r r ?_))))
 obtain ⟨h44, x45, hx46, hd⟩ := hd
 refine .ownNe .z (idx_ne hx46) fun b47 e48 => ?_
 cases e48
 refine .ixa0 underlying26 sizeOf85 r r h44 (idx_lt hx46 h44) r r (.lo1 (j := 0) isAgg85 .z hx46 r r r r r (.skips 1 r (.andNot r r r r ?_)))
 obtain ⟨h49, x50, hx51, hd⟩ := hd
 refine .ixa0 underlying26 sizeOf85 r r h49 (idx_lt hx51 h49) r r (.stO1 (j := 0) (v' := (bandn .u64 x45 (shl .u64 1 (IntKind.wrap .u64 (a1.tmod 64))))) sizeOf85 .z hx51 r r r (.t .nil) r (.sub (E' := [(1, _), (7, .slice (some ⟨b47, 0, none⟩) ((([] : List Int) ++ a0).set ((w64 (a1.tdiv 64)).toNat) (bandn .u64 x45 (shl .u64 1 (IntKind.wrap .u64 (a1.tmod 64))))).length c15), (8, _), (26, _), (38, .slice (some ⟨b47, 0, none⟩) ((([] : List Int) ++ a0).set ((w64 (a1.tdiv 64)).toNat) (bandn .u64 x45 (shl .u64 1 (IntKind.wrap .u64 (a1.tmod 64))))).length c15), (39, _), (40, _), (41, .slice (some ⟨b47, 0, none⟩) ((([] : List Int) ++ a0).set ((w64 (a1.tdiv 64)).toNat) (bandn .u64 x45 (shl .u64 1 (IntKind.wrap .u64 (a1.tmod 64))))).length c15), (42, _), (43, _), (44, _), (45, _), (46, _), (47, _), (48, _)]) ⟨r, (by simp only [List.length_set]; rfl), r, r, (by simp only [List.length_set]; rfl), r, r, (by simp only [List.length_set]; rfl), r, r, r, r, r, r, r, trivial⟩ (.nilS [7] r r (.seq (.region (.skips 2 r (.nilS [6] r r (.pub .z fun I52 hl53 R54 => ?_))))))))
 have le55 := IH.le.trans (.refl _) hl53
 exact .ret (pret results168 (.t r .n) le55 ⟨((([] : List Int) ++ a0).set ((w64 (a1.tdiv 64)).toNat) (bandn .u64 x45 (shl .u64 1 (IntKind.wrap .u64 (a1.tmod 64))))), _, _, r, R54, hd⟩)

theorem W_ref03_Put {I : IH} {a0 : List Int} {a1 : Int} {p1 : Option Addr} {c2 : Nat} {Q : (List Int) → Prop} (R3 : RepSl eU64 I p1 c2 a0) (hd : ref03_Put a0 a1 Q) :
    PFun Tryz.prog 139 [.slice p1 a0.length c2, .int .i64 a1] I (fun I_ v => ∃ r p4 c5, v = .slice p4 r.length c5 ∧ RepSl eU64 I_ p4 c5 r ∧ Q r) := by
 refine Fun.enter func139 r ntmps139 r (.c (.c .n)) fun w0 M => ?_
 refine .seq (.region (.skips 1 r (.nilS [1, 0] r r (.seq (.region (.skips 2 r ?_))))))
 have hw16 := W_ref03_set (I := I) R3 hd
 refine .call call168 r hw16 r r fun v11 I8 hl9 hv10 => ?_
 obtain ⟨r7, p13, c14, rfl, R15, hd⟩ := hv10
 have le17 := IH.le.trans (.refl _) hl9
 replace R3 := R3.mono hl9
 exact .skips 1 r (.nilS [4] r r (.ret (pret results139 (.t r .n) le17 ⟨r7, _, _, r, R15, hd⟩)))

theorem W_ref03_Of {I : IH} {a0 : Int} {a1 : List Int} {p1 : Option Addr} {c2 : Nat} {Q : (List Int) → Prop} (R3 : RepSl eI64 I p1 c2 a1) (hd : ref03_Of a0 a1 Q) :
    PFun Tryz.prog 88 [.int .i64 a0, .slice p1 a1.length c2] I (fun I_ v => ∃ r p4 c5, v = .slice p4 r.length c5 ∧ RepSl eU64 I_ p4 c5 r ∧ Q r) := by
 refine Fun.enter func88 r ntmps88 r (.c (.c .n)) fun w0 M => ?_
 refine .seq (.region (.skips 1 r (.nilS [1, 0] r r (.seq (.region (.skips 1 r ?_))))))
 have hw27 := W_ref03_New (I := I) hd
 refine .call call138 r hw27 r r fun v22 I19 hl20 hv21 => ?_
 obtain ⟨r18, p24, c25, rfl, R26, hd⟩ := hv21
 have le28 := IH.le.trans (.refl _) hl20
 replace R3 := R3.mono hl20
 refine .skips 1 r (.nilS [5, 1, 0] r r (.seq (.seq (.region (.skips 1 r (.nilS [6, 5, 1, 0] r r (.block (.loop hd (fun (s : (List Int) × Int) c w => match s with | (s150, s154) => ∃ I_ p151 c152, IH.le I19 I_ ∧ RepSl eU64 I_ p151 c152 s150 ∧ Ok ⟨42, [], none⟩ [(0, .int .i64 a0), (1, .slice p1 a1.length c2), (5, .slice p151 s150.length c152), (6, .int .i64 s154)] c ∧ Sym w0 M I I_ [] w) (fun c w ho hs => ⟨I19, _, _, (.refl _), R26, ho.sub ⟨r, r, r, r, trivial⟩, hs.pick .n⟩) ?_))))))))
 rintro ⟨s150, s154⟩ next155 hd c w hst
 obtain ⟨I156, p151, c152, hl157, R153, hok, hsym⟩ := hst
 have le158 := IH.le.trans le28 hl157
 have le159 := IH.le.trans (.refl _) hl157
 replace R3 := R3.mono hl157
 refine Cod.at hok hsym (.seq (.seq (.region (.skips 2 r (.len underlying29 r r r r (.lt r r r r (.nilS [12, 6, 5, 1, 0] r r (.condP r hd (fun hb161 hd => ?_) fun hb161 hd => ?_))))))))
 · refine .skipS [6, 5, 1, 0] r r (.seq (.block (.seq (.region (.skips 2 r ?_)))))
   obtain ⟨h162, x163, hx164, hd⟩ := hd
   obtain ⟨b165, o166, cs167, e168, hC169, hr170⟩ := R3.2 _ _ hx164
   cases hr170
   refine .ixa underlying29 sizeOf3 r e168 r h162 (idx_lt hx164 h162) r r (.ld1 (j := 0) isAgg3 hC169 r r r r r (.ge r r r r (.skips 1 r ?_)))
   refine splitP hd (fun hb171 hd => ?_) fun hb171 hd => ?_
   · rw [hb171]
     refine .gyes r r r (.move r r r (.gyes r r r (.move r r r ?_)))
     obtain ⟨h172, x173, hx174, hd⟩ := hd
     obtain ⟨b175, o176, cs177, e178, hC179, hr180⟩ := R3.2 _ _ hx174
     cases hr180
     refine .gyes r r r (.ixa underlying29 sizeOf3 r e178 r h172 (idx_lt hx174 h172) r r (.gyes r r r (.ld1 (j := 0) isAgg3 hC179 r r r r r (.gyes r r r (.move r r r (.gyes r r r (.lt r r r r (.skips 2 r ?_))))))))
     refine splitP hd (fun hb181 hd => ?_) fun hb181 hd => ?_
     · rw [hb181]
       refine .gyes r r r (.move r r r (.gyes r r r (.move r r r ?_)))
       obtain ⟨h182, x183, hx184, hd⟩ := hd
       obtain ⟨b185, o186, cs187, e188, hC189, hr190⟩ := R3.2 _ _ hx184
       cases hr190
       refine .gyes r r r (.ixa underlying29 sizeOf3 r e188 r h182 (idx_lt hx184 h182) r r (.gyes r r r (.ld1 (j := 0) isAgg3 hC189 r r r r r (.gyes r r r (.lt r r r r (.skips 1 r (.nilS [34, 6, 5, 1, 0] r r (.condP r hd (fun hb191 hd => ?_) fun hb191 hd => ?_))))))))
       · refine .region (.skips 3 r ?_)
         obtain ⟨h192, x193, hx194, hd⟩ := hd
         obtain ⟨b195, o196, cs197, e198, hC199, hr200⟩ := R3.2 _ _ hx194
         cases hr200
         refine .ixa underlying29 sizeOf3 r e198 r h192 (idx_lt hx194 h192) r r (.ld1 (j := 0) isAgg3 hC199 r r r r r ?_)
         have hw210 := W_ref03_Put (I := I156) R153 hd
         refine .call call139 r hw210 r r fun v205 I202 hl203 hv204 => ?_
         obtain ⟨r201, p207, c208, rfl, R209, hd⟩ := hv204
         have le211 := IH.le.trans le158 hl203
         have le212 := IH.le.trans le159 hl203
         replace R3 := R3.mono hl203
         replace R153 := R153.mono hl203
         replace hC199 := hC199.mono hl203
         exact .sub (E' := [(0, _), (1, _), (6, _), (34, _), (35, _), (36, _), (37, _), (38, _), (39, _), (40, _)]) ⟨r, r, r, r, r, r, r, r, r, r, trivial⟩ (.skips 1 r (.nilS [5, 6, 1, 0] r r (.region (.skips 1 r (.add r r r r (.sub (E' := [(0, _), (1, _), (5, _), (13, _), (14, _)]) ⟨r, r, r, r, r, trivial⟩ (.skips 1 r (.nil' fun c w ho hs => ⟨(r201, w64 (s154 + 1)), hd, I202, _, _, le212, R209, ho.sub ⟨r, r, r, r, trivial⟩, hs.pick .n⟩))))))))
       exact .skipS [6, 5, 1, 0] r r (.region (.skips 1 r (.add r r r r (.sub (E' := [(0, _), (1, _), (5, _), (13, _), (14, _)]) ⟨r, r, r, r, r, trivial⟩ (.skips 1 r (.nil' fun c w ho hs => ⟨(s150, w64 (s154 + 1)), hd, I156, _, _, le159, R153, ho.sub ⟨r, r, r, r, trivial⟩, hs.pick .n⟩))))))
     rw [hb181]
     exact .skips 6 r (.nilS [34, 6, 5, 1, 0] r r (.condKF r r (.skipS [6, 5, 1, 0] r r (.region (.skips 1 r (.add r r r r (.sub (E' := [(0, _), (1, _), (5, _), (13, _), (14, _)]) ⟨r, r, r, r, r, trivial⟩ (.skips 1 r (.nil' fun c w ho hs => ⟨(s150, w64 (s154 + 1)), hd, I156, _, _, le159, R153, ho.sub ⟨r, r, r, r, trivial⟩, hs.pick .n⟩)))))))))
   rw [hb171]
   exact .skips 14 r (.nilS [34, 6, 5, 1, 0] r r (.condKF r r (.skipS [6, 5, 1, 0] r r (.region (.skips 1 r (.add r r r r (.sub (E' := [(0, _), (1, _), (5, _), (13, _), (14, _)]) ⟨r, r, r, r, r, trivial⟩ (.skips 1 r (.nil' fun c w ho hs => ⟨(s150, w64 (s154 + 1)), hd, I156, _, _, le159, R153, ho.sub ⟨r, r, r, r, trivial⟩, hs.pick .n⟩)))))))))
 exact .exitS [5] r r (.seq (.region (.skips 2 r (.nilS [4] r r (.ret (pret results88 (.t r .n) le158 ⟨s150, _, _, r, R153, hd⟩))))))

theorem W_ref10_Of {I : IH} {a0 : Vec} {p1 : Option Addr} {c2 : Nat} {Q : Dense → Prop} (R3 : RepSl eItem I p1 c2 a0.Items) (hd : ref10_Of a0 Q) :
    PFun Tryz.prog 41 [.agg #[.int .i64 a0.N, .slice p1 a0.Items.length c2]] I (fun I_ v => ∃ r p4 c5 p7 c8, v = .agg #[.int .i64 r.N, .slice p4 r.Has.length c5, .slice p7 r.Vals.length c8] ∧ RepSl eU64 I_ p4 c5 r.Has ∧ RepSl eI64 I_ p7 c8 r.Vals ∧ Q r) := by
 refine Fun.enter func41 r ntmps41 r (.c .n) fun w0 M => ?_
 refine .seq (.region (.boxA r r r fun b14 => ?_))
 refine .allocA zeroValue62 r r fun b16 => ?_
 refine .nilS [2, 1] r r (.seq (.region (.loadW isAgg38 sizeOf38 r (.s .z) r r r ?_)))
 have hw38 := W_ref09_Sure (I := I) R3 hd
 refine .call call53 r hw38 r r fun v33 I30 hl31 hv32 => ?_
 obtain ⟨r29, p35, c36, rfl, R37, hd⟩ := hv32
 have le39 := IH.le.trans (.refl _) hl31
 replace R3 := R3.mono hl31
 refine .storeA sizeOf38 r r (.s .z) (.t (.t .nil)) r r (.nilS [2, 1] r r (.seq (.region (.fieldAddr underlying38 r sizeOf3 r (o := 0) r r r (.load1 isAgg3 r (.s .z) r r r ?_)))))
 have hw70 := W_ref10_New (I := I30) hd
 refine .callO call87 r hw70 r r fun v61 I58 l62 hl59 hv60 => ?_
 obtain ⟨r57, p63, c64, p66, c67, rfl, R65, rfl, hd⟩ := hv60
 have le71 := IH.le.trans le39 hl59
 replace R37 := R37.mono hl59
 refine .allocA zeroValue62 r r fun b72 => ?_
 refine .storeA sizeOf62 r r .z (.t (.t (.t .nil))) r r (.nilS [3, 2, 1] r r (.seq (.region (.skips 1 r (.nilS [4, 3, 2, 1] r r (.seq (.seq (.region (.skips 1 r ?_)))))))))
 refine .nilS [5, 4, 3, 2, 1] r r (.block (.own0 eI64 3 (.loop hd (fun (s : (List Int) × (List Int) × Int) c w => match s with | (s432, s436, s440) => ∃ I_ p433 c434 p437 c438, IH.le I58 I_ ∧ Ok ⟨48, [], none⟩ [(1, .pointer (some ⟨b14, 0, none⟩)), (2, .pointer (some ⟨b16, 0, none⟩)), (3, .pointer (some ⟨b72, 0, none⟩)), (4, .slice p437 s436.length c438), (5, .int .i64 s440)] c ∧ Sym w0 M I I_ [pto b14 (.cells #[.int .i64 r29.N, .slice p35 r29.Items.length c36] 38 (0, 0)), pto b16 (.cells #[.int .i64 0, .slice none 0 0, .slice none 0 0] 62 (0, 0)), pto b72 (.cells #[.int .i64 r57.N, .slice p63 r57.Has.length c64, .slice p433 s432.length c434] 62 (0, 0)), OwnSl eI64 2 p433 c434 s432, OwnSl eI64 3 p437 c438 s436] w) (fun c w ho hs => ⟨I58, _, _, _, _, (.refl _), ho.sub ⟨r, r, r, r, r, trivial⟩, hs.pick (.c (.s (.s (.s (.s .z)))) (.c (.s (.s (.s .z))) (.c (.s .z) (.c (.s .z) (.c .z .n)))))⟩) ?_)))
 rintro ⟨s432, s436, s440⟩ next442 hd c w hst
 obtain ⟨I443, p433, c434, p437, c438, hl444, hok, hsym⟩ := hst
 have le445 := IH.le.trans le71 hl444
 have le446 := IH.le.trans (.refl _) hl444
 replace R37 := R37.mono hl444
 replace R65 := R65.mono hl444
 refine Cod.at hok hsym (.seq (.seq (.region (.skips 1 r (.fieldAddr underlying38 r sizeOf25 r (o := 1) r r r (.load1 isAgg25 r .z r r r (.len underlying25 r r r r (.lt r r r r (.nilS [15, 5, 4, 3, 2, 1] r r ?_)))))))))
 refine .condP r hd (fun hb448 hd => ?_) fun hb448 hd => ?_
 · refine .skipS [5, 4, 3, 2, 1] r r (.seq (.block (.seq (.region (.skips 1 r (.fieldAddr underlying38 r sizeOf25 r (o := 1) r r r (.load1 isAgg25 r .z r r r (.skips 1 r ?_))))))))
   obtain ⟨h464, x465, hx466, hd⟩ := hd
   obtain ⟨b467, o468, cs469, e470, hC471, hr472⟩ := R37.2 _ _ hx466
   cases hr472
   refine .ixa underlying25 sizeOf67 r e470 r h464 (idx_lt hx466 h464) r r (.fieldAddr underlying67 r sizeOf3 r (o := o468 + s440.toNat * 2) r r r (.ld1 (j := 0) isAgg3 hC471 r r r r r (.buildSlice 1 underlying29 sizeOf3 zeroValue3 r r (.c r r r .n) r r fun b473 => ?_)))
   obtain ⟨hl475, hd⟩ := hd
   refine .append (ys := [x465.At]) 8 (.s (.s (.s (.s (.s .z))))) underlying29 underlying29 IN3 r r r r r r r r r (.box .z (.one r) r) hl475 r r fun p476 c477 => ?_
   refine .sub (E' := [(1, _), (2, _), (3, _), (5, _), (18, _), (19, _), (20, _), (21, _), (22, _), (23, _), (24, _), (25, _), (26, _)]) ⟨r, r, r, r, r, r, r, r, r, r, r, r, r, trivial⟩ (.skips 1 r (.nilS [4, 5, 3, 2, 1] r r (.drop (.s .z) (.ownF .z fun hne479 => ?_))))
   refine .ownF (.s (.s (.s (.s .z)))) fun hne480 => ?_
   refine .draw [some 0, some 1, some 2, some 3, some 4, some 5, some 6, some 7, some 8, some 9, some 10, some 11, some 12, some 13] 14 MX (by kernel_rfl) (by kernel_rfl) (by kernel_rfl) (by kernel_rfl) (by kernel_rfl) (by kernel_rfl) (by kernel_rfl) (fun ex => (OwnSl eI64 3 p476 c477 (s436 ++ ([x465.At]))) :: (pto b14 (.cells #[.int .i64 r29.N, .slice p35 r29.Items.length c36] 38 (0, 0))) :: (pto b16 (.cells #[.int .i64 0, .slice none 0 0, .slice none 0 0] 62 (0, 0))) :: (pto b72 (.cells #[.int .i64 r57.N, .slice p63 r57.Has.length c64, .slice p433 s432.length c434] 62 (0, 0))) :: (OwnSl eI64 2 p433 c434 s432) :: ex) (fun _ _ => (.s (.s (.s (.s (.s .z)))))) r (.f [] r (by kernel_rfl) r r (fun ex => .fieldAddr underlying62 r sizeOf30 r (o := 2) r r r .mk) (.f [0] r (by kernel_rfl) r r (fun ex => .load1 isAgg30 r (.s (.s (.s .z))) r r r .mk) (.f [] r (by kernel_rfl) r r (fun ex => .fieldAddr underlying38 r sizeOf25 r (o := 1) r r r .mk) (.f [2] r (by kernel_rfl) r r (fun ex => .load1 isAgg25 r (.s .z) r r r .mk) (.fs [[]] r (by kernel_rfl) ?_)))))
   obtain ⟨h481, x482, hx483, hd⟩ := hd
   obtain ⟨b484, o485, cs486, e487, hC488, hr489⟩ := R37.2 _ _ hx483
   cases hr489
   refine .f [3, 4] r (by kernel_rfl) r r (fun ex => .ixa underlying25 sizeOf67 r e487 r h481 (idx_lt hx483 h481) r r .mk) (.f [5] r (by kernel_rfl) r r (fun ex => .fieldAddr underlying67 r sizeOf3 r (o := o485 + s440.toNat * 2) r r r .mk) (.f [6] r (by kernel_rfl) r r (fun ex => .ld1 (j := 0) isAgg3 hC488 r r r r r .mk) (.f [] r (by kernel_rfl) r r (fun ex => .fieldAddr underlying38 r sizeOf25 r (o := 1) r r r .mk) (.f [8] r (by kernel_rfl) r r (fun ex => .load1 isAgg25 r (.s .z) r r r .mk) (.fs [[]] r (by kernel_rfl) ?_)))))
   obtain ⟨h490, x491, hx492, hd⟩ := hd
   obtain ⟨b493, o494, cs495, e496, hC497, hr498⟩ := R37.2 _ _ hx492
   cases hr498
   refine .f [9, 10] r (by kernel_rfl) r r (fun ex => .ixa underlying25 sizeOf67 r e496 r h490 (idx_lt hx492 h490) r r .mk) (.f [11] r (by kernel_rfl) r r (fun ex => .fieldAddr underlying67 r sizeOf2 r (o := o494 + s440.toNat * 2 + 1) r r r .mk) (.f [12] r (by kernel_rfl) r r (fun ex => .ld1 (j := 1) isAgg2 hC497 r r r r r .mk) (.e 14 (by kernel_rfl) (by kernel_rfl) (by kernel_rfl) ?_)))
   obtain ⟨h499, x500, hx501, hd⟩ := hd
   obtain ⟨b502, e503⟩ := hne480 (idx_ne hx501)
   cases e503
   refine .ixa0 underlying30 sizeOf2 r r h499 (idx_lt hx501 h499) r r (.stO1 (j := 0) (v' := x491.Val) sizeOf2 (.s (.s (.s (.s .z)))) hx501 r r r (.t .nil) r (.sub (E' := [(1, _), (2, _), (3, _), (5, _), (4, _), (27, _), (28, .slice (some ⟨b502, 0, none⟩) (s432.set x482.At.toNat x491.Val).length c434), (29, _), (30, _), (31, _), (32, _), (33, _), (34, _), (35, _), (36, _), (37, _), (38, _), (39, _), (40, _), (41, _)]) ⟨r, r, r, r, r, r, (by simp only [List.length_set]; rfl), r, r, r, r, r, r, r, r, r, r, r, r, r, trivial⟩ (.reat (.s (.s (.s .z))) (B := pto b72 (.cells #[.int .i64 r57.N, .slice p63 r57.Has.length c64, .slice (some ⟨b502, 0, none⟩) (s432.set x482.At.toNat x491.Val).length c434] 62 (0, 0))) (by simp only [List.length_set]) (.nilS [4, 5, 3, 2, 1] r r (.region (.skips 1 r (.add r r r r (.sub (E' := [(1, _), (2, _), (3, _), (4, _), (16, _), (17, _)]) ⟨r, r, r, r, r, r, trivial⟩ (.skips 1 r ?_)))))))))
   exact .nil' fun c w ho hs => ⟨((s432.set x482.At.toNat x491.Val), (s436 ++ ([x465.At])), w64 (s440 + 1)), hd, I443, _, _, _, _, le446, ho.sub ⟨r, r, r, r, r, trivial⟩, hs.pick (.c (.s .z) (.c (.s .z) (.c (.s .z) (.c (.s .z) (.c .z .n)))))⟩
 refine .exitS [4, 3, 2, 1] r r (.seq (.region (.fieldAddr underlying38 r sizeOf3 r (o := 0) r r r (.load1 isAgg3 r .z r r r (.skips 1 r (.pub (.s (.s (.s (.s .z)))) fun I504 hl505 R506 => ?_))))))
 have le507 := IH.le.trans le445 hl505
 have le508 := IH.le.trans le446 hl505
 replace R37 := R37.mono hl505
 replace R65 := R65.mono hl505
 have hw518 := W_ref03_Of (I := I504) R506 hd
 refine .call call88 r hw518 r r fun v513 I510 hl511 hv512 => ?_
 obtain ⟨r509, p515, c516, rfl, R517, hd⟩ := hv512
 have le519 := IH.le.trans le507 hl511
 have le520 := IH.le.trans le508 hl511
 replace R37 := R37.mono hl511
 replace R65 := R65.mono hl511
 replace R506 := R506.mono hl511
 refine .fieldAddr underlying62 r sizeOf26 r (o := 1) r r r (.store1 sizeOf26 r r (.s (.s .z)) (.s (.t .nil)) r (.nilS [3, 2] r r (.drop .z (.seq (.region (.loadW isAgg62 sizeOf62 r (.s .z) r r r (.storeA sizeOf62 r r .z (.t (.t (.t .nil))) r r (.nilS [2] r r (.drop (.s .z) ?_)))))))))
 refine .pub (.s .z) fun I521 hl522 R523 => ?_
 have le524 := IH.le.trans le519 hl522
 have le525 := IH.le.trans le520 hl522
 replace R517 := R517.mono hl522
 exact .ret (pret results41 (.w isAgg62 sizeOf62 r .z r .n) le524 ⟨({ N := r57.N, Has := r509, Vals := s432 } : Dense), _, _, _, _, r, R517, R523, hd⟩)

theorem W_ref14_Sums {I : IH} {a0 : Int} {a1 : Columns} {a2 : Vec} {a3 : List Int} {a4 : Bool} {p1 : Option Addr} {c2 : Nat} {p4 : Option Addr} {c5 : Nat} {p7 : Option Addr} {c8 : Nat} {p10 : Option Addr} {c11 : Nat} {p13 : Option Addr} {c14 : Nat} {p16 : Option Addr} {c17 : Nat} {Q : ((List Sum) × Int) → Prop} (R3 : RepSl eI64 I p1 c2 a1.At) (R6 : RepSl eI64 I p4 c5 a1.Start) (R9 : RepSl eI64 I p7 c8 a1.Row) (R12 : RepSl eI64 I p10 c11 a1.Val) (R15 : RepSl eItem I p13 c14 a2.Items) (R18 : RepSl eU64 I p16 c17 a3) (hd : ref14_Sums a0 a1 a2 a3 a4 Q) :
    PFun Tryz.prog 12 [.int .i64 a0, .agg #[.int .i64 a1.Rows, .int .i64 a1.Cols, .slice p1 a1.At.length c2, .slice p4 a1.Start.length c5, .slice p7 a1.Row.length c8, .slice p10 a1.Val.length c11], .agg #[.int .i64 a2.N, .slice p13 a2.Items.length c14], .slice p16 a3.length c17, .bool a4] I (fun I_ v => ∃ r p19 c20, v = .tuple #[.slice p19 r.1.length c20, .int .i64 r.2] ∧ RepSl eSum I_ p19 c20 r.1 ∧ Q r) := by
 refine Fun.enter func12 r ntmps12 r (.c (.c (.c (.c (.c .n))))) fun w0 M => ?_
 refine .seq (.region (.boxA r r r fun b26 => ?_))
 refine .boxA r r r fun b28 => ?_
 refine .skips 2 r (.nilS [7, 6, 4, 3, 0] r r (.seq (.draw [some 0, some 1, some 3, some 5, some 6, some 2, some 4, some 7, some 8, some 9] 10 MX (by kernel_rfl) (by kernel_rfl) (by kernel_rfl) (by kernel_rfl) (by kernel_rfl) (by kernel_rfl) (by kernel_rfl) (fun ex => (pto b28 (.cells #[.int .i64 a2.N, .slice p13 a2.Items.length c14] 38 (0, 0))) :: (pto b26 (.cells #[.int .i64 a1.Rows, .int .i64 a1.Cols, .slice p1 a1.At.length c2, .slice p4 a1.Start.length c5, .slice p7 a1.Row.length c8, .slice p10 a1.Val.length c11] 32 (0, 0))) :: ex) (fun _ _ => (.s (.s .z))) r (.fs [[]] r (by kernel_rfl) (.f [] r (by kernel_rfl) r r (fun ex => .loadW isAgg32 sizeOf32 r (.s .z) r r r .mk) (.f [] r (by kernel_rfl) r r (fun ex => .loadW isAgg38 sizeOf38 r .z r r r .mk) (.fs [[], []] r (by kernel_rfl) (.w [6, 5, 3, 0] [[]] [1] r (by kernel_rfl) (by kernel_rfl) (by kernel_rfl) ((dropE_kept r r)) (.inr (dropE_kept r r)) fun ex => ?_))))))))
 have hw45 := W_ref08_Back (I := I) R3 R6 R9 R12 hd
 refine .call call40 r hw45 r r fun v34 I31 hl32 hv33 => ?_
 obtain ⟨r30, p36, c37, p39, c40, p42, c43, rfl, R38, R41, R44, hd⟩ := hv33
 have le46 := IH.le.trans (.refl _) hl32
 replace R3 := R3.mono hl32
 replace R6 := R6.mono hl32
 replace R9 := R9.mono hl32
 replace R12 := R12.mono hl32
 replace R15 := R15.mono hl32
 replace R18 := R18.mono hl32
 refine .some (fun ex => (pto b28 (.cells #[.int .i64 a2.N, .slice p13 a2.Items.length c14] 38 (0, 0))) :: (pto b26 (.cells #[.int .i64 a1.Rows, .int .i64 a1.Cols, .slice p1 a1.At.length c2, .slice p4 a1.Start.length c5, .slice p7 a1.Row.length c8, .slice p10 a1.Val.length c11] 32 (0, 0))) :: ex) r (fun _ _ => (.s (.s .z))) r (.ccs [[], []] r r (by kernel_rfl) (.cc [] r (by kernel_rfl) r r r (fun ex => .loadW isAgg38 sizeOf38 r .z r r r .mk) (.ccs [[]] r r (by kernel_rfl) trivial))) (.w [6, 5, 0] [[]] [3, 2] r (by kernel_rfl) (by kernel_rfl) (by kernel_rfl) ((dropE_kept r r)) (.inr (dropE_kept r r)) fun ex => ?_)
 have hw59 := W_ref10_Of (I := I31) R15 hd
 refine .call call41 r hw59 r r fun v51 I48 hl49 hv50 => ?_
 obtain ⟨r47, p53, c54, p56, c57, rfl, R55, R58, hd⟩ := hv50
 have le60 := IH.le.trans le46 hl49
 replace R3 := R3.mono hl49
 replace R6 := R6.mono hl49
 replace R9 := R9.mono hl49
 replace R12 := R12.mono hl49
 replace R15 := R15.mono hl49
 replace R18 := R18.mono hl49
 replace R38 := R38.mono hl49
 replace R41 := R41.mono hl49
 replace R44 := R44.mono hl49
 refine .some (fun ex => (pto b28 (.cells #[.int .i64 a2.N, .slice p13 a2.Items.length c14] 38 (0, 0))) :: (pto b26 (.cells #[.int .i64 a1.Rows, .int .i64 a1.Cols, .slice p1 a1.At.length c2, .slice p4 a1.Start.length c5, .slice p7 a1.Row.length c8, .slice p10 a1.Val.length c11] 32 (0, 0))) :: ex) r (fun _ _ => (.s (.s .z))) r (.ccs [[], [], []] r r (by kernel_rfl) trivial) (.w [] [[], [], []] [0, 2, 4, 5, 6, 4] r (by kernel_rfl) (by kernel_rfl) (by kernel_rfl) ((dropE_kept r r)) (.inr (dropE_kept r r)) fun ex => ?_)
 have hw70 := W_ref13_Sums (I := I48) R38 R41 R44 R55 R58 R18 hd
 refine .call call39 r hw70 r r fun v65 I62 hl63 hv64 => ?_
 obtain ⟨r61, p67, c68, rfl, R69, hd⟩ := hv64
 have le71 := IH.le.trans le60 hl63
 replace R3 := R3.mono hl63
 replace R6 := R6.mono hl63
 replace R9 := R9.mono hl63
 replace R12 := R12.mono hl63
 replace R15 := R15.mono hl63
 replace R18 := R18.mono hl63
 replace R38 := R38.mono hl63
 replace R41 := R41.mono hl63
 replace R44 := R44.mono hl63
 replace R55 := R55.mono hl63
 replace R58 := R58.mono hl63
 exact .some (fun ex => (pto b28 (.cells #[.int .i64 a2.N, .slice p13 a2.Items.length c14] 38 (0, 0))) :: (pto b26 (.cells #[.int .i64 a1.Rows, .int .i64 a1.Cols, .slice p1 a1.At.length c2, .slice p4 a1.Start.length c5, .slice p7 a1.Row.length c8, .slice p10 a1.Val.length c11] 32 (0, 0))) :: ex) r (fun _ _ => (.s (.s .z))) r trivial (.f [7] r (by kernel_rfl) r r (fun ex => .extract r r r r .mk) (.f [7] r (by kernel_rfl) r r (fun ex => .extract r r r r .mk) (.e 10 (by kernel_rfl) (by kernel_rfl) (by kernel_rfl) (.skips 2 r (.nilS [11, 10] r r (.drop .z (.drop .z (.ret (pret results12 (.t r (.t r .n)) le71 ⟨(r61.1, r61.2), _, _, r, R69, hd⟩)))))))))

theorem W_ref13_SameSums {I : IH} {a0 : List Sum} {a1 : List Sum} {p1 : Option Addr} {c2 : Nat} {p4 : Option Addr} {c5 : Nat} {Q : Bool → Prop} (R3 : RepSl eSum I p1 c2 a0) (R6 : RepSl eSum I p4 c5 a1) (hd : ref13_SameSums a0 a1 Q) :
    PFun Tryz.prog 16 [.slice p1 a0.length c2, .slice p4 a1.length c5] I (fun I_ v => ∃ r, v = .bool r ∧ Q r) := by
 refine Fun.enter func16 r ntmps16 r (.c (.c .n)) fun w0 M => ?_
 refine .seq (.region (.skips 1 r (.nilS [1, 0] r r (.seq (.seq (.region (.skips 1 r (.len underlying41 r r r r (.skips 1 r ?_)))))))))
 refine .len underlying41 r r r r (.ne r r r r (.nilS [10, 1, 0] r r (.condP r hd (fun hb8 hd => ?_) fun hb8 hd => ?_)))
 · exact .seq (.region (.skips 1 r (.nilS [4] r r (.ret (pret results16 (.t r .n) (.refl _) ⟨false, r, hd⟩)))))
 refine .skipS [1, 0] r r (.seq (.seq (.region (.skips 1 r (.nilS [5, 1, 0] r r (.block (.loop hd (fun (s54 : Int) c w => ∃ I_, IH.le I I_ ∧ Ok ⟨26, [], none⟩ [(0, .slice p1 a0.length c2), (1, .slice p4 a1.length c5), (5, .int .i64 s54)] c ∧ Sym w0 M I I_ [] w) (fun c w ho hs => ⟨I, (.refl _), ho.sub ⟨r, r, r, trivial⟩, hs.pick .n⟩) ?_)))))))
 rintro s54 next55 hd c w hst
 obtain ⟨I56, hl57, hok, hsym⟩ := hst
 have le58 := IH.le.trans (.refl _) hl57
 replace R3 := R3.mono hl57
 replace R6 := R6.mono hl57
 refine Cod.at hok hsym (.seq (.seq (.region (.skips 2 r (.len underlying41 r r r r (.lt r r r r (.nilS [14, 5, 1, 0] r r (.condP r hd (fun hb60 hd => ?_) fun hb60 hd => ?_))))))))
 · refine .skipS [5, 1, 0] r r (.seq (.block (.seq (.draw [some 0, some 1, some 2, some 3, some 4, some 5, some 6, some 7, some 8] 9 MX (by kernel_rfl) (by kernel_rfl) (by kernel_rfl) (by kernel_rfl) (by kernel_rfl) (by kernel_rfl) (by kernel_rfl) (fun ex => ex) (fun _ _ => .z) r (.fs [[], []] r (by kernel_rfl) ?_)))))
   obtain ⟨h61, x62, hx63, hd⟩ := hd
   obtain ⟨b64, o65, cs66, e67, hC68, hr69⟩ := R3.2 _ _ hx63
   cases hr69
   refine .f [0, 1] r (by kernel_rfl) r r (fun ex => .ixa underlying41 sizeOf89 r e67 r h61 (idx_lt hx63 h61) r r .mk) (.f [2] r (by kernel_rfl) r r (fun ex => .ldW isAgg89 sizeOf89 hC68 r r r r .mk) (.fs [[], []] r (by kernel_rfl) ?_))
   obtain ⟨h70, x71, hx72, hd⟩ := hd
   obtain ⟨b73, o74, cs75, e76, hC77, hr78⟩ := R6.2 _ _ hx72
   cases hr78
   refine .f [4, 5] r (by kernel_rfl) r r (fun ex => .ixa underlying41 sizeOf89 r e76 r h70 (idx_lt hx72 h70) r r .mk) (.f [6] r (by kernel_rfl) r r (fun ex => .ldW isAgg89 sizeOf89 hC77 r r r r .mk) (.f [3, 7] r (by kernel_rfl) r r (fun ex => .neV r r (EQ89 x62 x71) (EG89 _ _ _ _ _) r r r .mk) (.e 9 (by kernel_rfl) (by kernel_rfl) (by kernel_rfl) (.nilS [25, 5, 1, 0] r r (.condP r hd (fun hb79 hd => ?_) fun hb79 hd => ?_)))))
   · exact .seq (.region (.skips 1 r (.nilS [4] r r (.ret (pret results16 (.t r .n) le58 ⟨false, r, hd⟩)))))
   exact .skipS [5, 1, 0] r r (.region (.skips 1 r (.add r r r r (.sub (E' := [(0, _), (1, _), (15, _), (16, _)]) ⟨r, r, r, r, trivial⟩ (.skips 1 r (.nil' fun c w ho hs => ⟨(w64 (s54 + 1)), hd, I56, le58, ho.sub ⟨r, r, r, trivial⟩, hs.pick .n⟩))))))
 exact .exitS [] r r (.seq (.region (.skips 1 r (.nilS [4] r r (.ret (pret results16 (.t r .n) le58 ⟨true, r, hd⟩))))))

theorem W_law09_Few {I : IH} {a0 : Vec} {p1 : Option Addr} {c2 : Nat} {Q : Vec → Prop} (R3 : RepSl eItem I p1 c2 a0.Items) (hd : law09_Few a0 Q) :
    PFun Tryz.prog 20 [.agg #[.int .i64 a0.N, .slice p1 a0.Items.length c2]] I (fun I_ v => ∃ r p4 c5, v = .agg #[.int .i64 r.N, .slice p4 r.Items.length c5] ∧ RepSl eItem I_ p4 c5 r.Items ∧ Q r) := by
 refine Fun.enter func20 r ntmps20 r (.c .n) fun w0 M => ?_
 refine .seq (.region (.boxA r r r fun b11 => ?_))
 refine .allocA zeroValue38 r r fun b13 => ?_
 refine .nilS [2, 1] r r (.seq (.seq (.region (.fieldAddr underlying38 r sizeOf25 r (o := 1) r r r (.load1 isAgg25 r (.s .z) r r r (.len underlying25 r r r r (.gt r r r r (.nilS [6, 2, 1] r r (.condP r hd (fun hb15 hd => ?_) fun hb15 hd => ?_)))))))))
 · refine .region (.fieldAddr underlying38 r sizeOf25 r (o := 1) r r r (.load1 isAgg25 r (.s .z) r r r ?_))
   obtain ⟨h16, h17, h18, hd⟩ := hd
   have h24 : Int.toNat 0 ≤ Int.toNat 60 := by omega
   have h25 : Int.toNat 60 ≤ a0.Items.length := by omega
   obtain ⟨p19, c20, e22, e23, R21⟩ := RepSl.sliceW R3 (Int.toNat 0) (Int.toNat 60) c2 h24 h25 (.inl rfl)
   refine .sliceW (L := Int.toNat 0) (H := Int.toNat 60) (cm := c2) underlying25 sizeOf67 r r R3.1 r r r (.inl ⟨r, r⟩) (.inr ⟨_, _, r, (by omega), r⟩) (.inl r) h24 h25 r e22 e23 r r (.fieldAddr underlying38 r sizeOf25 r (o := 1) r r r (.store1 sizeOf25 r r (.s .z) (.s (.t .nil)) r (.nilS [2, 1] r r (.seq (.region (.loadW isAgg38 sizeOf38 r (.s .z) r r r (.storeA sizeOf38 r r .z (.t (.t .nil)) r r (.nilS [2] r r (.drop (.s .z) ?_)))))))))
   exact .ret (pret results20 (.w isAgg38 sizeOf38 r .z r .n) (.refl _) ⟨({ N := a0.N, Items := ((a0.Items.take (Int.toNat 60)).drop (Int.toNat 0)) } : Vec), _, _, r, R21, hd⟩)
 exact .skipS [2, 1] r r (.seq (.region (.loadW isAgg38 sizeOf38 r (.s .z) r r r (.storeA sizeOf38 r r .z (.t (.t .nil)) r r (.nilS [2] r r (.drop (.s .z) (.ret (pret results20 (.w isAgg38 sizeOf38 r .z r .n) (.refl _) ⟨a0, _, _, r, R3, hd⟩))))))))

theorem W_law14_PushRaw {I : IH} {a0 : Int} {a1 : Columns} {a2 : Vec} {p1 : Option Addr} {c2 : Nat} {p4 : Option Addr} {c5 : Nat} {p7 : Option Addr} {c8 : Nat} {p10 : Option Addr} {c11 : Nat} {p13 : Option Addr} {c14 : Nat} {Q : Bool → Prop} (R3 : RepSl eI64 I p1 c2 a1.At) (R6 : RepSl eI64 I p4 c5 a1.Start) (R9 : RepSl eI64 I p7 c8 a1.Row) (R12 : RepSl eI64 I p10 c11 a1.Val) (R15 : RepSl eItem I p13 c14 a2.Items) (hd : law14_PushRaw a0 a1 a2 Q) :
    PFun Tryz.prog 4 [.int .i64 a0, .agg #[.int .i64 a1.Rows, .int .i64 a1.Cols, .slice p1 a1.At.length c2, .slice p4 a1.Start.length c5, .slice p7 a1.Row.length c8, .slice p10 a1.Val.length c11], .agg #[.int .i64 a2.N, .slice p13 a2.Items.length c14]] I (fun I_ v => ∃ r, v = .bool r ∧ Q r) := by
 refine Fun.enter func4 r ntmps4 r (.c (.c (.c .n))) fun w0 M => ?_
 refine .seq (.region (.boxA r r r fun b20 => ?_))
 refine .boxA r r r fun b22 => ?_
 refine .skips 1 r (.nilS [5, 4, 0] r r (.seq (.seq (.region (.fieldAddr underlying32 r sizeOf29 r (o := 2) r r r (.load1 isAgg29 r (.s .z) r r r (.len underlying29 r r r r (.gt r r r r (.skips 1 r ?_)))))))))
 refine splitP hd (fun hb39 hd => ?_) fun hb39 hd => ?_
 · rw [hb39]
   refine .skips 11 r (.nilS [26, 5, 4, 0] r r (.condKT r r (.seq (.region ?_))))
   have hw41 := W_law14_live (I := I) hd
   refine .callP call15 r hw41 r r fun v42 hv43 => ?_
   obtain ⟨r40, rfl, hd⟩ := hv43
   exact .skips 1 r (.nilS [6] r r (.drop .z (.drop .z (.ret (pret results4 (.t r .n) (.refl _) ⟨r40, r, hd⟩)))))
 rw [hb39]
 refine .gyes r r r (.fieldAddr underlying32 r sizeOf29 r (o := 3) r r r (.gyes r r r (.load1 isAgg29 r (.s .z) r r r (.gyes r r r (.len underlying29 r r r r (.gyes r r r (.gt r r r r (.skips 2 r ?_))))))))
 refine splitP hd (fun hb44 hd => ?_) fun hb44 hd => ?_
 · rw [hb44]
   refine .skips 5 r (.nilS [26, 5, 4, 0] r r (.condKT r r (.seq (.region ?_))))
   have hw46 := W_law14_live (I := I) hd
   refine .callP call15 r hw46 r r fun v47 hv48 => ?_
   obtain ⟨r45, rfl, hd⟩ := hv48
   exact .skips 1 r (.nilS [6] r r (.drop .z (.drop .z (.ret (pret results4 (.t r .n) (.refl _) ⟨r45, r, hd⟩)))))
 rw [hb44]
 refine .gyes r r r (.fieldAddr underlying32 r sizeOf29 r (o := 4) r r r (.gyes r r r (.load1 isAgg29 r (.s .z) r r r (.gyes r r r (.len underlying29 r r r r (.gyes r r r (.gt r r r r (.skips 1 r (.nilS [26, 5, 4, 0] r r (.condP r hd (fun hb49 hd => ?_) fun hb49 hd => ?_))))))))))
 · refine .seq (.region ?_)
   have hw51 := W_law14_live (I := I) hd
   refine .callP call15 r hw51 r r fun v52 hv53 => ?_
   obtain ⟨r50, rfl, hd⟩ := hv53
   exact .skips 1 r (.nilS [6] r r (.drop .z (.drop .z (.ret (pret results4 (.t r .n) (.refl _) ⟨r50, r, hd⟩)))))
 refine .skipS [5, 4, 0] r r (.seq (.region (.loadW isAgg38 sizeOf38 r .z r r r ?_)))
 have hw74 := W_law09_Few (I := I) R15 hd
 refine .call call20 r hw74 r r fun v69 I66 hl67 hv68 => ?_
 obtain ⟨r65, p71, c72, rfl, R73, hd⟩ := hv68
 have le75 := IH.le.trans (.refl _) hl67
 replace R3 := R3.mono hl67
 replace R6 := R6.mono hl67
 replace R9 := R9.mono hl67
 replace R12 := R12.mono hl67
 replace R15 := R15.mono hl67
 refine .storeA sizeOf38 r r .z (.t (.t .nil)) r r (.nilS [5, 4, 0] r r (.seq (.region (.skips 1 r (.loadW isAgg32 sizeOf32 r (.s .z) r r r (.loadW isAgg38 sizeOf38 r .z r r r ?_))))))
 have hw96 := W_push_Sums (I := I66) R3 R6 R9 R12 R73 (.nil _ none 0) hd
 refine .call call11 r hw96 r r fun v91 I88 hl89 hv90 => ?_
 obtain ⟨r87, p93, c94, rfl, R95, hd⟩ := hv90
 have le97 := IH.le.trans le75 hl89
 replace R3 := R3.mono hl89
 replace R6 := R6.mono hl89
 replace R9 := R9.mono hl89
 replace R12 := R12.mono hl89
 replace R73 := R73.mono hl89
 refine .skips 1 r (.extract r r r r (.extract r r r r (.skips 2 r (.nilS [8, 7, 5, 4, 0] r r (.seq (.region (.skips 1 r (.loadW isAgg32 sizeOf32 r (.s .z) r r r (.loadW isAgg38 sizeOf38 r .z r r r ?_)))))))))
 have hw118 := W_ref14_Sums (I := I88) R3 R6 R9 R12 R73 (.nil _ none 0) hd
 refine .call call12 r hw118 r r fun v113 I110 hl111 hv112 => ?_
 obtain ⟨r109, p115, c116, rfl, R117, hd⟩ := hv112
 have le119 := IH.le.trans le97 hl111
 replace R3 := R3.mono hl111
 replace R6 := R6.mono hl111
 replace R9 := R9.mono hl111
 replace R12 := R12.mono hl111
 replace R73 := R73.mono hl111
 replace R95 := R95.mono hl111
 refine .skips 1 r (.extract r r r r (.extract r r r r (.skips 2 r (.nilS [10, 9, 8, 7] r r (.drop .z (.drop .z (.seq (.region ?_))))))))
 have hw121 := W_law14_live (I := I110) hd
 refine .callP call15 r hw121 r r fun v122 hv123 => ?_
 obtain ⟨r120, rfl, hd⟩ := hv123
 refine .skips 1 r ?_
 refine splitP hd (fun hb124 hd => ?_) fun hb124 hd => ?_
 · rw [hb124]
   refine .gyes r r r (.move r r r (.gyes r r r (.move r r r ?_)))
   have hw126 := W_ref13_SameSums (I := I110) R95 R117 hd
   refine .gyes r r r (.callP call16 r hw126 r r fun v127 hv128 => ?_)
   obtain ⟨r125, rfl, hd⟩ := hv128
   refine .skips 2 r ?_
   refine splitP hd (fun hb129 hd => ?_) fun hb129 hd => ?_
   · rw [hb129]
     exact .gyes r r r (.move r r r (.gyes r r r (.move r r r (.gyes r r r (.eq r r r r (.skips 2 r (.nilS [6] r r (.ret (pret results4 (.t r .n) le119 ⟨(r87.2 == r109.2), r, hd⟩)))))))))
   rw [hb129]
   exact .skips 5 r (.nilS [6] r r (.ret (pret results4 (.t r .n) le119 ⟨false, r, hd⟩)))
 rw [hb124]
 exact .skips 10 r (.nilS [6] r r (.ret (pret results4 (.t r .n) le119 ⟨false, r, hd⟩)))

end Go.Proofs.YtdfiinkpdaggeaaGreat
