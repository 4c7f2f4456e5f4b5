/- The walks (printed by a program of ours). -/
import Derived.Test.YtjobeiikppmidaaGreatV1
namespace Go.Proofs.YtjobeiikppmidaaGreat
open Go Go.Fw
set_option linter.unusedVariables false
set_option linter.unusedSimpArgs false
set_option maxRecDepth 8000
set_option maxHeartbeats 1000000
open Tryz
theorem W_ref01_Narrow {I : IH} {a0 : Wide}  {Q : (Int × Bool) → Prop}  (hd : ref01_Narrow a0 Q) :
    PFun Tryz.prog 63 [.agg (encWide a0).toArray] I (fun I_ v => ∃ r, v = .tuple #[.int .i64 r.1, .bool r.2] ∧ Q r) := by
 refine Fun.enter func63 rfl ntmps63 rfl (.c .n) fun w0 M => ?_
 refine .seq (.region (.boxA rfl rfl rfl fun b3 => ?_))
 refine .skips 2 rfl (.nilS [1] rfl rfl (.seq (.region (.fieldAddr underlying86 rfl sizeOf84 rfl (o := 1) rfl rfl rfl (.load1 isAgg84 rfl .z rfl rfl rfl (.conv underlying84 underlying2 rfl rfl rfl (.skips 1 rfl (.nilS [4, 1] rfl rfl (.seq ?_)))))))))
 refine .seq (.region (.fieldAddr underlying86 rfl sizeOf2 rfl (o := 0) rfl rfl rfl (.load1 isAgg2 rfl .z rfl rfl rfl (.eq rfl rfl rfl rfl (.skips 1 rfl ?_)))))
 refine splitP hd (fun hb5 hd => ?_) fun hb5 hd => ?_
 · rw [hb5]
   refine .gyes rfl rfl rfl (.move rfl rfl rfl (.gyes rfl rfl rfl (.ge rfl rfl rfl rfl (.skips 2 rfl ?_))))
   refine splitP hd (fun hb6 hd => ?_) fun hb6 hd => ?_
   · rw [hb6]
     refine .skips 4 rfl (.gnoU rfl rfl rfl rfl (.gnoU rfl rfl rfl rfl (.skips 2 rfl (.nilS [23, 4] rfl rfl (.drop .z (.condKT rfl rfl (.seq (.region (.skips 3 rfl ?_)))))))))
     exact .nilS [3, 2] rfl rfl (.ret (pret results63 (.t rfl (.t rfl .n)) (.refl _) ⟨(w64 (a0.Lo), true), rfl, hd⟩))
   rw [hb6]
   refine .gyes rfl rfl rfl (.fieldAddr underlying86 rfl sizeOf2 rfl (o := 0) rfl rfl rfl (.gyes rfl rfl rfl (.load1 isAgg2 rfl .z rfl rfl rfl (.gyes rfl rfl rfl (.eq rfl rfl rfl rfl (.gyes rfl rfl rfl (.move rfl rfl rfl ?_)))))))
   refine splitP hd (fun hb7 hd => ?_) fun hb7 hd => ?_
   · rw [hb7]
     refine .gyes rfl rfl rfl (.move rfl rfl rfl (.gyes rfl rfl rfl (.lt rfl rfl rfl rfl (.gyes rfl rfl rfl (.pickT rfl rfl rfl rfl rfl (.skips 1 rfl (.nilS [23, 4] rfl rfl (.drop .z (.condP rfl hd (fun hb8 hd => ?_) fun hb8 hd => ?_)))))))))
     · exact .seq (.region (.skips 3 rfl (.nilS [3, 2] rfl rfl (.ret (pret results63 (.t rfl (.t rfl .n)) (.refl _) ⟨(w64 (a0.Lo), true), rfl, hd⟩)))))
     exact .skipS [] rfl rfl (.seq (.region (.skips 2 rfl (.nilS [3, 2] rfl rfl (.ret (pret results63 (.t rfl (.t rfl .n)) (.refl _) ⟨(0, false), rfl, hd⟩))))))
   rw [hb7]
   refine .skips 2 rfl (.gyes rfl rfl rfl (.pickF rfl rfl rfl rfl rfl (.skips 1 rfl (.nilS [23, 4] rfl rfl (.drop .z (.condKF rfl rfl (.skipS [] rfl rfl (.seq (.region (.skips 2 rfl ?_))))))))))
   exact .nilS [3, 2] rfl rfl (.ret (pret results63 (.t rfl (.t rfl .n)) (.refl _) ⟨(0, false), rfl, hd⟩))
 rw [hb5]
 refine .skips 4 rfl (.gyes rfl rfl rfl (.fieldAddr underlying86 rfl sizeOf2 rfl (o := 0) rfl rfl rfl (.gyes rfl rfl rfl (.load1 isAgg2 rfl .z rfl rfl rfl (.gyes rfl rfl rfl (.eq rfl rfl rfl rfl (.gyes rfl rfl rfl (.move rfl rfl rfl ?_))))))))
 refine splitP hd (fun hb9 hd => ?_) fun hb9 hd => ?_
 · rw [hb9]
   refine .gyes rfl rfl rfl (.move rfl rfl rfl (.gyes rfl rfl rfl (.lt rfl rfl rfl rfl (.gyes rfl rfl rfl (.pickT rfl rfl rfl rfl rfl (.skips 1 rfl (.nilS [23, 4] rfl rfl (.drop .z (.condP rfl hd (fun hb10 hd => ?_) fun hb10 hd => ?_)))))))))
   · exact .seq (.region (.skips 3 rfl (.nilS [3, 2] rfl rfl (.ret (pret results63 (.t rfl (.t rfl .n)) (.refl _) ⟨(w64 (a0.Lo), true), rfl, hd⟩)))))
   exact .skipS [] rfl rfl (.seq (.region (.skips 2 rfl (.nilS [3, 2] rfl rfl (.ret (pret results63 (.t rfl (.t rfl .n)) (.refl _) ⟨(0, false), rfl, hd⟩))))))
 rw [hb9]
 refine .skips 2 rfl (.gyes rfl rfl rfl (.pickF rfl rfl rfl rfl rfl (.skips 1 rfl (.nilS [23, 4] rfl rfl (.drop .z (.condKF rfl rfl (.skipS [] rfl rfl (.seq (.region (.skips 2 rfl ?_))))))))))
 exact .nilS [3, 2] rfl rfl (.ret (pret results63 (.t rfl (.t rfl .n)) (.refl _) ⟨(0, false), rfl, hd⟩))

theorem W_ref05_Combine {I : IH} {a0 : Int} {a1 : List Edge} {p1 : Option Addr} {c2 : Nat} {Q : ((List Edge) × Int) → Prop} (R3 : RepSl eEdge I p1 c2 a1) (hd : ref05_Combine a0 a1 Q) :
    PFun Tryz.prog 40 [.int .i64 a0, .slice p1 a1.length c2] I (fun I_ v => ∃ r p4 c5, v = .tuple #[.slice p4 r.1.length c5, .int .i64 r.2] ∧ RepSl eEdge I_ p4 c5 r.1 ∧ Q r) := by
 refine Fun.enter func40 rfl ntmps40 rfl (.c (.c .n)) fun w0 M => ?_
 refine .seq (.region (.skips 2 rfl (.nilS [1, 0] rfl rfl (.seq (.seq (.region (.skips 1 rfl ?_)))))))
 have hw13 := W_ref02_Is (I := I) hd
 refine .callP call39 rfl hw13 rfl rfl fun v14 hv15 => ?_
 obtain ⟨r12, rfl, hd⟩ := hv15
 refine .not rfl rfl rfl (.nilS [17, 1, 0] rfl rfl (.condP rfl hd (fun hb16 hd => ?_) fun hb16 hd => ?_))
 · exact .seq (.region (.skips 2 rfl (.nilS [5, 4] rfl rfl (.ret (pret results40 (.t rfl (.t rfl .n)) (.refl _) ⟨(([] : List Edge), 8), _, _, rfl, (.nil _ _ _), hd⟩)))))
 refine .skipS [1, 0] rfl rfl (.seq (.region (.skips 1 rfl (.nilS [6, 1, 0] rfl rfl (.seq (.region (.skips 1 rfl (.nilS [7, 6, 1, 0] rfl rfl (.seq ?_)))))))))
 refine .seq (.region (.skips 1 rfl (.nilS [8, 7, 6, 1, 0] rfl rfl (.block (.own0 eEdge 67 (.own0 eWide 86 (.loop hd (fun (s : (List Edge) × (List Wide) × Int) c w => match s with | (s2689, s2693, s2697) => ∃ I_ p2690 c2691 p2694 c2695, IH.le I I_ ∧ Ok ⟨145, [], none⟩ [(0, .int .i64 a0), (1, .slice p1 a1.length c2), (6, .slice p2690 s2689.length c2691), (7, .slice p2694 s2693.length c2695), (8, .int .i64 s2697)] c ∧ Sym w0 M I I_ [OwnSl eEdge 67 p2690 c2691 s2689, OwnSl eWide 86 p2694 c2695 s2693] w) (fun c w ho hs => ⟨I, _, _, _, _, (.refl _), ho.sub ⟨rfl, rfl, rfl, rfl, rfl, trivial⟩, hs.pick (.c (.s .z) (.c .z .n))⟩) ?_)))))))
 rintro ⟨s2689, s2693, s2697⟩ next2700 hd c w hst
 obtain ⟨I2701, p2690, c2691, p2694, c2695, hl2702, hok, hsym⟩ := hst
 have le2703 := IH.le.trans (.refl _) hl2702
 replace R3 := R3.mono hl2702
 refine Cod.at hok hsym (.seq (.seq (.region (.skips 2 rfl (.len underlying65 rfl rfl rfl rfl (.lt rfl rfl rfl rfl (.nilS [21, 8, 7, 6, 1, 0] rfl rfl (.condP rfl hd (fun hb2705 hd => ?_) fun hb2705 hd => ?_))))))))
 · refine .skipS [8, 7, 6, 1, 0] rfl rfl (.seq (.block (.seq (.region (.skips 1 rfl (.nilS [9, 8, 7, 6, 1, 0] rfl rfl (.seq ?_)))))))
   refine Cod.joinQ (σ := Int) hd (fun (s2856 : Int) c w => ∃ I_, IH.le I2701 I_ ∧ Ok ⟨145, [], none⟩ [(0, .int .i64 a0), (1, .slice p1 a1.length c2), (6, .slice p2690 s2689.length c2691), (7, .slice p2694 s2693.length c2695), (8, .int .i64 s2697), (9, .int .i64 s2856)] c ∧ Sym w0 M I I_ [OwnSl eEdge 67 p2690 c2691 s2689, OwnSl eWide 86 p2694 c2695 s2693] w) (fun k2857 hd => ?_) ?_
   · skip
     refine .block (.loop hd (fun (s2905 : Int) c w => ∃ I_, IH.le I2701 I_ ∧ Ok ⟨145, [], none⟩ [(0, .int .i64 a0), (1, .slice p1 a1.length c2), (6, .slice p2690 s2689.length c2691), (7, .slice p2694 s2693.length c2695), (8, .int .i64 s2697), (9, .int .i64 s2905)] c ∧ Sym w0 M I I_ [OwnSl eEdge 67 p2690 c2691 s2689, OwnSl eWide 86 p2694 c2695 s2693] w) (fun c w ho hs => ⟨I2701, (.refl _), ho.sub ⟨rfl, rfl, rfl, rfl, rfl, rfl, trivial⟩, hs.pick (.c .z (.c .z .n))⟩) ?_)
     rintro s2905 next2906 hd c w hst
     obtain ⟨I2907, hl2908, hok, hsym⟩ := hst
     have le2909 := IH.le.trans le2703 hl2908
     have le2910 := IH.le.trans (.refl _) hl2908
     replace R3 := R3.mono hl2908
     refine Cod.at hok hsym (.seq (.seq (.ownF .z fun hne2911 => ?_)))
     refine .ownF (.s .z) fun hne2912 => ?_
     refine .draw [some 0, some 1, some 2, some 3, some 4, some 5, some 6, some 7, some 8, some 9, some 10, some 11, some 12, some 13, some 14] 15 MX (by kernel_rfl) (by kernel_rfl) (by kernel_rfl) (by kernel_rfl) (by kernel_rfl) (by kernel_rfl) (by kernel_rfl) (fun ex => (OwnSl eEdge 67 p2690 c2691 s2689) :: (OwnSl eWide 86 p2694 c2695 s2693) :: ex) (fun _ _ => (.s (.s .z))) rfl (.fs [[], []] rfl (by kernel_rfl) (.f [1] rfl (by kernel_rfl) rfl rfl (fun ex => .len underlying65 rfl rfl rfl rfl .mk) (.f [0, 2] rfl (by kernel_rfl) rfl rfl (fun ex => .lt rfl rfl rfl rfl .mk) (.fs [[3]] rfl (by kernel_rfl) ?_))))
     refine splitP hd (fun hb2913 hd => ?_) fun hb2913 hd => ?_
     · refine .f [4] rfl (by kernel_rfl) rfl rfl (fun ex => .gyes rfl rfl hb2913 (.move rfl rfl rfl .mk)) (.f [4] rfl (by kernel_rfl) rfl rfl (fun ex => .gyes rfl rfl hb2913 (.move rfl rfl rfl .mk)) ?_)
       obtain ⟨h2914, x2915, hx2916, hd⟩ := hd
       obtain ⟨b2917, e2918⟩ := hne2911 (idx_ne hx2916)
       cases e2918
       refine .f [5, 6, 4] rfl (by kernel_rfl) rfl rfl (fun ex => .gyes rfl rfl hb2913 (.ixa0 underlying65 sizeOf67 rfl rfl h2914 (idx_lt hx2916 h2914) rfl rfl .mk)) (.f [7, 4] rfl (by kernel_rfl) rfl rfl (fun ex => .gyes rfl rfl hb2913 (.loA (j := 0) isAgg67 sizeOf67 .z hx2916 rfl rfl (.t (.t (.t .nil))) rfl rfl rfl .mk)) (.f [4] rfl (by kernel_rfl) rfl rfl (fun ex => .gyes rfl rfl hb2913 (.move rfl rfl rfl .mk)) (.f [4] rfl (by kernel_rfl) rfl rfl (fun ex => .gyes rfl rfl hb2913 (.move rfl rfl rfl .mk)) ?_)))
       obtain ⟨h2919, x2920, hx2921, hd⟩ := hd
       obtain ⟨b2922, o2923, cs2924, e2925, hC2926, hr2927⟩ := R3.2 _ _ hx2921
       cases hr2927
       refine .f [9, 10, 4] rfl (by kernel_rfl) rfl rfl (fun ex => .gyes rfl rfl hb2913 (.ixa underlying65 sizeOf67 rfl e2925 rfl h2919 (idx_lt hx2921 h2919) rfl rfl .mk)) (.f [11, 4] rfl (by kernel_rfl) rfl rfl (fun ex => .gyes rfl rfl hb2913 (.ldW isAgg67 sizeOf67 hC2926 rfl rfl rfl rfl .mk)) (.w [] [[], [12], [11, 12], [11, 12], [], [8], [7, 8], [7, 8], [], [4], [3, 4], [2, 3, 4], [3, 4]] [8, 12, 4, 4] rfl (by kernel_rfl) (by kernel_rfl) (by kernel_rfl) ((dropE_kept rfl rfl)) (.inr (dropE_kept rfl rfl)) fun ex => ?_))
       have hw2929 := W_ref05_below (I := I2907) hd
       refine .gyes rfl rfl hb2913 (.callP call60 rfl hw2929 rfl rfl fun v2930 hv2931 => ?_)
       obtain ⟨r2928, rfl, hd⟩ := hv2931
       refine .some (fun ex => (OwnSl eEdge 67 (some ⟨b2917, 0, none⟩) c2691 s2689) :: (OwnSl eWide 86 p2694 c2695 s2693) :: ex) rfl (fun _ _ => (.s (.s .z))) rfl trivial (.f [4, 13] rfl (by kernel_rfl) rfl rfl (fun ex => .pickT rfl hb2913 rfl rfl rfl .mk) (.e 15 (by kernel_rfl) (by kernel_rfl) (by kernel_rfl) (.nilS [38, 9, 8, 7, 6, 1, 0] rfl rfl (.condP rfl hd (fun hb2932 hd => ?_) fun hb2932 hd => ?_))))
       · exact .skipS [9, 8, 7, 6, 1, 0] rfl rfl (.block (.region (.skips 1 rfl (.add rfl rfl rfl rfl (.sub (E' := [(0, _), (1, _), (6, _), (7, _), (8, _), (39, _), (40, _)]) ⟨rfl, rfl, rfl, rfl, rfl, rfl, rfl, trivial⟩ (.skips 1 rfl (.nil' fun c w ho hs => ⟨(w64 (s2905 + 1)), hd, I2907, le2910, ho.sub ⟨rfl, rfl, rfl, rfl, rfl, rfl, trivial⟩, hs.pick (.c .z (.c .z .n))⟩)))))))
       exact .exit fun c w ho hs => ⟨s2905, hd, I2907, le2910, ho.sub ⟨rfl, rfl, rfl, rfl, rfl, rfl, trivial⟩, hs.pick (.c .z (.c .z .n))⟩
     refine .f [4] rfl (by kernel_rfl) rfl rfl (fun ex => .gno rfl rfl hb2913 rfl rfl .mk) (.f [4] rfl (by kernel_rfl) rfl rfl (fun ex => .gno rfl rfl hb2913 rfl rfl .mk) (.f [5, 6, 4] rfl (by kernel_rfl) rfl rfl (fun ex => .gno rfl rfl hb2913 rfl rfl .mk) (.f [7, 4] rfl (by kernel_rfl) rfl rfl (fun ex => .gno rfl rfl hb2913 rfl rfl .mk) (.f [4] rfl (by kernel_rfl) rfl rfl (fun ex => .gno rfl rfl hb2913 rfl rfl .mk) (.f [4] rfl (by kernel_rfl) rfl rfl (fun ex => .gno rfl rfl hb2913 rfl rfl .mk) (.f [9, 10, 4] rfl (by kernel_rfl) rfl rfl (fun ex => .gno rfl rfl hb2913 rfl rfl .mk) (.f [11, 4] rfl (by kernel_rfl) rfl rfl (fun ex => .gno rfl rfl hb2913 rfl rfl .mk) (.f [8, 12, 4, 4] rfl (by kernel_rfl) rfl rfl (fun ex => .gno rfl rfl hb2913 rfl rfl .mk) (.f [4, 13] rfl (by kernel_rfl) rfl rfl (fun ex => .pickF rfl hb2913 rfl rfl rfl .mk) ?_)))))))))
     exact .e 15 (by kernel_rfl) (by kernel_rfl) (by kernel_rfl) (.nilS [38, 9, 8, 7, 6, 1, 0] rfl rfl (.condKF rfl rfl (.exit fun c w ho hs => ⟨s2905, hd, I2907, le2910, ho.sub ⟨rfl, rfl, rfl, rfl, rfl, rfl, trivial⟩, hs.pick (.c .z (.c .z .n))⟩)))
   rintro s2856 hd c w hst
   obtain ⟨I2933, hl2934, hok, hsym⟩ := hst
   have le2935 := IH.le.trans le2703 hl2934
   have le2936 := IH.le.trans (.refl _) hl2934
   replace R3 := R3.mono hl2934
   refine Cod.at hok hsym (.seq (.region (.skips 2 rfl ?_)))
   obtain ⟨h2952, x2953, hx2954, hd⟩ := hd
   obtain ⟨b2955, o2956, cs2957, e2958, hC2959, hr2960⟩ := R3.2 _ _ hx2954
   cases hr2960
   refine .ixa underlying65 sizeOf67 rfl e2958 rfl h2952 (idx_lt hx2954 h2952) rfl rfl (.fieldAddr underlying67 rfl sizeOf2 rfl (o := o2956 + s2697.toNat * 3 + 2) rfl rfl rfl (.ld1 (j := 2) isAgg2 hC2959 rfl rfl rfl rfl rfl ?_))
   have hw2962 := W_ref01_Of (I := I2933) hd
   refine .callP call61 rfl hw2962 rfl rfl fun v2963 hv2964 => ?_
   obtain ⟨r2961, rfl, hd⟩ := hv2964
   refine .allocA zeroValue86 rfl rfl fun b2965 => ?_
   refine .storeA sizeOf86 rfl rfl .z (.t (.t .nil)) rfl rfl (.nilS [10, 9, 8, 7, 6, 1, 0] rfl rfl (.seq (.seq ?_)))
   refine Cod.joinQ (σ := Bool) hd (fun (s3094 : Bool) c w => ∃ I_, IH.le I2933 I_ ∧ Ok ⟨145, [], none⟩ [(0, .int .i64 a0), (1, .slice p1 a1.length c2), (6, .slice p2690 s2689.length c2691), (7, .slice p2694 s2693.length c2695), (8, .int .i64 s2697), (9, .int .i64 s2856), (10, .pointer (some ⟨b2965, 0, none⟩)), (62, .bool s3094)] c ∧ Sym w0 M I I_ [OwnSl eEdge 67 p2690 c2691 s2689, OwnSl eWide 86 p2694 c2695 s2693, pto b2965 (.cells #[.int .i64 r2961.Hi, .int .u64 r2961.Lo] 86 (0, 0))] w) (fun k3095 hd => ?_) ?_
   · skip
     refine .ownF (.s .z) fun hne3096 => ?_
     refine .ownF (.s (.s .z)) fun hne3097 => ?_
     refine .draw [some 0, some 1, some 2, some 3, some 4, some 5, some 6, some 7, some 8, some 9, some 10, some 11, some 12, some 13, some 14, some 15] 16 MX (by kernel_rfl) (by kernel_rfl) (by kernel_rfl) (by kernel_rfl) (by kernel_rfl) (by kernel_rfl) (by kernel_rfl) (fun ex => (pto b2965 (.cells #[.int .i64 r2961.Hi, .int .u64 r2961.Lo] 86 (0, 0))) :: (OwnSl eEdge 67 p2690 c2691 s2689) :: (OwnSl eWide 86 p2694 c2695 s2693) :: ex) (fun _ _ => (.s (.s (.s .z)))) rfl (.fs [[], []] rfl (by kernel_rfl) (.f [1] rfl (by kernel_rfl) rfl rfl (fun ex => .len underlying65 rfl rfl rfl rfl .mk) (.f [0, 2] rfl (by kernel_rfl) rfl rfl (fun ex => .lt rfl rfl rfl rfl .mk) (.fs [[3]] rfl (by kernel_rfl) ?_))))
     refine splitP hd (fun hb3098 hd => ?_) fun hb3098 hd => ?_
     · refine .f [4] rfl (by kernel_rfl) rfl rfl (fun ex => .gyes rfl rfl hb3098 (.move rfl rfl rfl .mk)) (.f [4] rfl (by kernel_rfl) rfl rfl (fun ex => .gyes rfl rfl hb3098 (.move rfl rfl rfl .mk)) ?_)
       obtain ⟨h3099, x3100, hx3101, hd⟩ := hd
       obtain ⟨b3102, o3103, cs3104, e3105, hC3106, hr3107⟩ := R3.2 _ _ hx3101
       cases hr3107
       refine .f [5, 6, 4] rfl (by kernel_rfl) rfl rfl (fun ex => .gyes rfl rfl hb3098 (.ixa underlying65 sizeOf67 rfl e3105 rfl h3099 (idx_lt hx3101 h3099) rfl rfl .mk)) (.f [7, 4] rfl (by kernel_rfl) rfl rfl (fun ex => .gyes rfl rfl hb3098 (.ldW isAgg67 sizeOf67 hC3106 rfl rfl rfl rfl .mk)) (.f [4] rfl (by kernel_rfl) rfl rfl (fun ex => .gyes rfl rfl hb3098 (.move rfl rfl rfl .mk)) (.f [4] rfl (by kernel_rfl) rfl rfl (fun ex => .gyes rfl rfl hb3098 (.move rfl rfl rfl .mk)) ?_)))
       obtain ⟨h3108, x3109, hx3110, hd⟩ := hd
       obtain ⟨b3111, e3112⟩ := hne3096 (idx_ne hx3110)
       cases e3112
       refine .f [9, 10, 4] rfl (by kernel_rfl) rfl rfl (fun ex => .gyes rfl rfl hb3098 (.ixa0 underlying65 sizeOf67 rfl rfl h3108 (idx_lt hx3110 h3108) rfl rfl .mk)) (.f [11, 4] rfl (by kernel_rfl) rfl rfl (fun ex => .gyes rfl rfl hb3098 (.loA (j := 0) isAgg67 sizeOf67 (.s .z) hx3110 rfl rfl (.t (.t (.t .nil))) rfl rfl rfl .mk)) (.w [] [[], [12], [11, 12], [11, 12], [], [8], [7, 8], [7, 8], [], [4], [3, 4], [2, 3, 4], [3, 4]] [8, 12, 4, 4] rfl (by kernel_rfl) (by kernel_rfl) (by kernel_rfl) ((dropE_kept rfl rfl)) (.inr (dropE_kept rfl rfl)) fun ex => ?_))
       have hw3114 := W_ref05_below (I := I2933) hd
       refine .gyes rfl rfl hb3098 (.callP call60 rfl hw3114 rfl rfl fun v3115 hv3116 => ?_)
       obtain ⟨r3113, rfl, hd⟩ := hv3116
       exact .some (fun ex => (pto b2965 (.cells #[.int .i64 r2961.Hi, .int .u64 r2961.Lo] 86 (0, 0))) :: (OwnSl eEdge 67 (some ⟨b3111, 0, none⟩) c2691 s2689) :: (OwnSl eWide 86 p2694 c2695 s2693) :: ex) rfl (fun _ _ => (.s (.s (.s .z)))) rfl trivial (.f [13, 4] rfl (by kernel_rfl) rfl rfl (fun ex => .gyes rfl rfl hb3098 (.not rfl rfl rfl .mk)) (.f [4, 14] rfl (by kernel_rfl) rfl rfl (fun ex => .pickT rfl hb3098 rfl rfl rfl .mk) (.e 16 (by kernel_rfl) (by kernel_rfl) (by kernel_rfl) (.nil' fun c w ho hs => ⟨(!r3113), hd, I2933, (.refl _), ho.sub ⟨rfl, rfl, rfl, rfl, rfl, rfl, rfl, rfl, trivial⟩, hs.pick (.c (.s .z) (.c (.s .z) (.c .z .n)))⟩))))
     refine .f [4] rfl (by kernel_rfl) rfl rfl (fun ex => .gno rfl rfl hb3098 rfl rfl .mk) (.f [4] rfl (by kernel_rfl) rfl rfl (fun ex => .gno rfl rfl hb3098 rfl rfl .mk) (.f [5, 6, 4] rfl (by kernel_rfl) rfl rfl (fun ex => .gno rfl rfl hb3098 rfl rfl .mk) (.f [7, 4] rfl (by kernel_rfl) rfl rfl (fun ex => .gno rfl rfl hb3098 rfl rfl .mk) (.f [4] rfl (by kernel_rfl) rfl rfl (fun ex => .gno rfl rfl hb3098 rfl rfl .mk) (.f [4] rfl (by kernel_rfl) rfl rfl (fun ex => .gno rfl rfl hb3098 rfl rfl .mk) (.f [9, 10, 4] rfl (by kernel_rfl) rfl rfl (fun ex => .gno rfl rfl hb3098 rfl rfl .mk) (.f [11, 4] rfl (by kernel_rfl) rfl rfl (fun ex => .gno rfl rfl hb3098 rfl rfl .mk) (.f [8, 12, 4, 4] rfl (by kernel_rfl) rfl rfl (fun ex => .gno rfl rfl hb3098 rfl rfl .mk) (.f [13, 4] rfl (by kernel_rfl) rfl rfl (fun ex => .gno rfl rfl hb3098 rfl rfl .mk) ?_)))))))))
     exact .f [4, 14] rfl (by kernel_rfl) rfl rfl (fun ex => .pickF rfl hb3098 rfl rfl rfl .mk) (.e 16 (by kernel_rfl) (by kernel_rfl) (by kernel_rfl) (.nil' fun c w ho hs => ⟨false, hd, I2933, (.refl _), ho.sub ⟨rfl, rfl, rfl, rfl, rfl, rfl, rfl, rfl, trivial⟩, hs.pick (.c (.s .z) (.c (.s .z) (.c .z .n)))⟩))
   rintro s3094 hd c w hst
   obtain ⟨I3117, hl3118, hok, hsym⟩ := hst
   have le3119 := IH.le.trans le2935 hl3118
   have le3120 := IH.le.trans le2936 hl3118
   have le3121 := IH.le.trans (.refl _) hl3118
   replace R3 := R3.mono hl3118
   refine Cod.at hok hsym (.condP rfl hd (fun hb3122 hd => ?_) fun hb3122 hd => ?_)
   · refine .seq (.ownF .z fun hne3123 => ?_)
     refine .ownF (.s .z) fun hne3124 => ?_
     refine .draw [some 0, some 1, some 2, some 3, some 4, some 5, some 6, some 7, some 8] 9 MX (by kernel_rfl) (by kernel_rfl) (by kernel_rfl) (by kernel_rfl) (by kernel_rfl) (by kernel_rfl) (by kernel_rfl) (fun ex => (OwnSl eEdge 67 p2690 c2691 s2689) :: (OwnSl eWide 86 p2694 c2695 s2693) :: (pto b2965 (.cells #[.int .i64 r2961.Hi, .int .u64 r2961.Lo] 86 (0, 0))) :: ex) (fun _ _ => (.s (.s (.s .z)))) rfl (.fs [[], [], [], [], []] rfl (by kernel_rfl) ?_)
     obtain ⟨h3125, x3126, hx3127, hd⟩ := hd
     obtain ⟨b3128, e3129⟩ := hne3124 (idx_ne hx3127)
     cases e3129
     refine .f [3, 4] rfl (by kernel_rfl) rfl rfl (fun ex => .ixa0 underlying82 sizeOf86 rfl rfl h3125 (idx_lt hx3127 h3125) rfl rfl .mk) (.f [5] rfl (by kernel_rfl) rfl rfl (fun ex => .loA (j := 0) isAgg86 sizeOf86 (.s .z) hx3127 rfl rfl (.t (.t .nil)) rfl rfl rfl .mk) (.f [] rfl (by kernel_rfl) rfl rfl (fun ex => .loadW isAgg86 sizeOf86 rfl (.s (.s .z)) rfl rfl rfl .mk) (.w [1, 0] [[], [], [6], [5, 6], [5, 6], []] [2, 6, 7] rfl (by kernel_rfl) (by kernel_rfl) (by kernel_rfl) ((dropE_kept rfl rfl)) (.inr (dropE_kept rfl rfl)) fun ex => ?_)))
     have hw3131 := W_ref02_Add (I := I3117) hd
     refine .callP call62 rfl hw3131 rfl rfl fun v3132 hv3133 => ?_
     obtain ⟨r3130, rfl, hd⟩ := hv3133
     refine .some (fun ex => (OwnSl eEdge 67 p2690 c2691 s2689) :: (OwnSl eWide 86 (some ⟨b3128, 0, none⟩) c2695 s2693) :: (pto b2965 (.cells #[.int .i64 r2961.Hi, .int .u64 r2961.Lo] 86 (0, 0))) :: ex) rfl (fun _ _ => (.s (.s (.s .z)))) rfl (.ccs [[], []] rfl rfl (by kernel_rfl) trivial) (.e 9 (by kernel_rfl) (by kernel_rfl) (by kernel_rfl) ?_)
     obtain ⟨h3134, x3135, hx3136, hd⟩ := hd
     refine .ixa0 underlying82 sizeOf86 rfl rfl h3134 (idx_lt hx3136 h3134) rfl rfl (.stOA (j := 0) (v' := r3130) sizeOf86 (.s .z) hx3136 rfl rfl rfl (.t (.t .nil)) rfl rfl (.sub (E' := [(0, _), (1, _), (6, _), (7, .slice (some ⟨b3128, 0, none⟩) (s2693.set s2856.toNat r3130).length c2695), (8, _), (9, _), (10, _), (62, _), (63, .slice (some ⟨b3128, 0, none⟩) (s2693.set s2856.toNat r3130).length c2695), (64, _), (65, _), (66, .slice (some ⟨b3128, 0, none⟩) (s2693.set s2856.toNat r3130).length c2695), (67, _), (68, _), (69, _), (70, _), (71, _), (72, _)]) ⟨rfl, rfl, rfl, (by simp only [List.length_set]; rfl), rfl, rfl, rfl, rfl, (by simp only [List.length_set]; rfl), rfl, rfl, (by simp only [List.length_set]; rfl), rfl, rfl, rfl, rfl, rfl, rfl, trivial⟩ (.nilS [8, 7, 6, 1, 0] rfl rfl (.drop (.s (.s .z)) (.exitS [8, 7, 6, 1, 0] rfl rfl (.region (.skips 1 rfl (.add rfl rfl rfl rfl (.sub (E' := [(0, _), (1, _), (6, _), (7, _), (22, _), (23, _)]) ⟨rfl, rfl, rfl, rfl, rfl, rfl, trivial⟩ ?_)))))))))
     exact .skips 1 rfl (.nil' fun c w ho hs => ⟨(s2689, (s2693.set s2856.toNat r3130), w64 (s2697 + 1)), hd, I3117, _, _, _, _, le3119, ho.sub ⟨rfl, rfl, rfl, rfl, rfl, trivial⟩, hs.pick (.c .z (.c .z .n))⟩)
   refine .skipS [10, 9, 8, 7, 6, 1, 0] rfl rfl (.seq (.region (.skips 1 rfl (.build zeroValue67 underlying67 BI67 .n (by exact trivial) rfl rfl (.buildSlice 1 underlying65 sizeOf67 zeroValue67 rfl rfl (.c rfl rfl rfl .n) rfl rfl fun b3143 => ?_)))))
   obtain ⟨hl3145, hd⟩ := hd
   refine .append (ys := [({ From := 0, To := 0, W := 0 } : Edge)]) 24 (.s .z) underlying65 underlying65 IN67 rfl rfl rfl rfl rfl rfl rfl rfl rfl (.box .z (.one rfl) rfl) hl3145 rfl rfl fun p3146 c3147 => ?_
   refine .sub (E' := [(0, _), (1, _), (7, _), (8, _), (9, _), (10, _), (73, _), (74, _), (75, _), (76, _)]) ⟨rfl, rfl, rfl, rfl, rfl, rfl, rfl, rfl, rfl, rfl, trivial⟩ (.skips 1 rfl (.nilS [6, 10, 9, 8, 7, 1, 0] rfl rfl (.drop (.s .z) (.seq (.region (.skips 1 rfl (.build zeroValue86 underlying86 BI86 .n (by exact trivial) rfl rfl (.buildSlice 1 underlying82 sizeOf86 zeroValue86 rfl rfl (.c rfl rfl rfl .n) rfl rfl fun b3155 => ?_))))))))
   obtain ⟨hl3157, hd⟩ := hd
   refine .append (ys := [({ Hi := 0, Lo := 0 } : Wide)]) 16 (.s (.s .z)) underlying82 underlying82 IN86 rfl rfl rfl rfl rfl rfl rfl rfl rfl (.box .z (.one rfl) rfl) hl3157 rfl rfl fun p3158 c3159 => ?_
   refine .sub (E' := [(0, _), (1, _), (8, _), (9, _), (10, _), (6, _), (77, _), (78, _), (79, _), (80, _)]) ⟨rfl, rfl, rfl, rfl, rfl, rfl, rfl, rfl, rfl, rfl, trivial⟩ (.skips 1 rfl (.nilS [7, 6, 10, 9, 8, 1, 0] rfl rfl (.drop (.s .z) (.seq (.seq (.region (.skips 1 rfl (.len underlying65 rfl rfl rfl rfl (.sub' rfl rfl rfl rfl ?_)))))))))
   refine .skips 1 rfl (.nilS [11, 7, 6, 10, 9, 8, 1, 0] rfl rfl (.block (.loop hd (fun (s : (List Edge) × (List Wide) × Int) c w => match s with | (s3321, s3325, s3329) => ∃ I_ p3322 c3323 p3326 c3327, IH.le I3117 I_ ∧ Ok ⟨145, [], none⟩ [(0, .int .i64 a0), (1, .slice p1 a1.length c2), (6, .slice p3322 s3321.length c3323), (7, .slice p3326 s3325.length c3327), (8, .int .i64 s2697), (9, .int .i64 s2856), (10, .pointer (some ⟨b2965, 0, none⟩)), (11, .int .i64 s3329)] c ∧ Sym w0 M I I_ [OwnSl eEdge 67 p3322 c3323 s3321, OwnSl eWide 86 p3326 c3327 s3325, pto b2965 (.cells #[.int .i64 r2961.Hi, .int .u64 r2961.Lo] 86 (0, 0))] w) (fun c w ho hs => ⟨I3117, _, _, _, _, (.refl _), ho.sub ⟨rfl, rfl, rfl, rfl, rfl, rfl, rfl, rfl, trivial⟩, hs.pick (.c (.s .z) (.c .z (.c .z .n)))⟩) ?_)))
   rintro ⟨s3321, s3325, s3329⟩ next3330 hd c w hst
   obtain ⟨I3331, p3322, c3323, p3326, c3327, hl3332, hok, hsym⟩ := hst
   have le3333 := IH.le.trans le3119 hl3332
   have le3334 := IH.le.trans le3120 hl3332
   have le3335 := IH.le.trans le3121 hl3332
   have le3336 := IH.le.trans (.refl _) hl3332
   replace R3 := R3.mono hl3332
   refine Cod.at hok hsym (.seq (.seq (.region (.skips 2 rfl (.gt rfl rfl rfl rfl (.nilS [86, 11, 10, 9, 8, 7, 6, 1, 0] rfl rfl (.condP rfl hd (fun hb3338 hd => ?_) fun hb3338 hd => ?_)))))))
   · refine .skipS [11, 10, 9, 8, 7, 6, 1, 0] rfl rfl (.seq (.block (.seq (.region (.skips 4 rfl (.sub' rfl rfl rfl rfl ?_))))))
     obtain ⟨h3339, x3340, hx3341, hd⟩ := hd
     refine .ownNe .z (idx_ne hx3341) fun b3342 e3343 => ?_
     cases e3343
     refine .ixa0 underlying65 sizeOf67 rfl rfl h3339 (idx_lt hx3341 h3339) rfl rfl (.loA (j := 0) isAgg67 sizeOf67 .z hx3341 rfl rfl (.t (.t (.t .nil))) rfl rfl rfl ?_)
     obtain ⟨h3344, x3345, hx3346, hd⟩ := hd
     refine .ixa0 underlying65 sizeOf67 rfl rfl h3344 (idx_lt hx3346 h3344) rfl rfl (.stOA (j := 0) (v' := x3340) sizeOf67 .z hx3346 rfl rfl rfl (.t (.t (.t .nil))) rfl rfl (.sub (E' := [(0, _), (1, _), (6, .slice (some ⟨b3342, 0, none⟩) (s3321.set s3329.toNat x3340).length c3323), (7, _), (8, _), (9, _), (10, _), (11, _), (89, .slice (some ⟨b3342, 0, none⟩) (s3321.set s3329.toNat x3340).length c3323), (90, _), (91, .slice (some ⟨b3342, 0, none⟩) (s3321.set s3329.toNat x3340).length c3323), (92, _), (93, _), (94, _), (95, _), (96, _)]) ⟨rfl, rfl, (by simp only [List.length_set]; rfl), rfl, rfl, rfl, rfl, rfl, (by simp only [List.length_set]; rfl), rfl, (by simp only [List.length_set]; rfl), rfl, rfl, rfl, rfl, rfl, trivial⟩ (.nilS [11, 10, 9, 8, 7, 6, 1, 0] rfl rfl (.region (.skips 4 rfl (.sub' rfl rfl rfl rfl ?_))))))
     obtain ⟨h3347, x3348, hx3349, hd⟩ := hd
     refine .ownNe (.s .z) (idx_ne hx3349) fun b3350 e3351 => ?_
     cases e3351
     refine .ixa0 underlying82 sizeOf86 rfl rfl h3347 (idx_lt hx3349 h3347) rfl rfl (.loA (j := 0) isAgg86 sizeOf86 (.s .z) hx3349 rfl rfl (.t (.t .nil)) rfl rfl rfl ?_)
     obtain ⟨h3352, x3353, hx3354, hd⟩ := hd
     exact .ixa0 underlying82 sizeOf86 rfl rfl h3352 (idx_lt hx3354 h3352) rfl rfl (.stOA (j := 0) (v' := x3348) sizeOf86 (.s .z) hx3354 rfl rfl rfl (.t (.t .nil)) rfl rfl (.sub (E' := [(0, _), (1, _), (6, _), (7, .slice (some ⟨b3350, 0, none⟩) (s3325.set s3329.toNat x3348).length c3327), (8, _), (9, _), (10, _), (11, _), (97, .slice (some ⟨b3350, 0, none⟩) (s3325.set s3329.toNat x3348).length c3327), (98, _), (99, .slice (some ⟨b3350, 0, none⟩) (s3325.set s3329.toNat x3348).length c3327), (100, _), (101, _), (102, _), (103, _), (104, _)]) ⟨rfl, rfl, rfl, (by simp only [List.length_set]; rfl), rfl, rfl, rfl, rfl, (by simp only [List.length_set]; rfl), rfl, (by simp only [List.length_set]; rfl), rfl, rfl, rfl, rfl, rfl, trivial⟩ (.nilS [11, 10, 9, 8, 7, 6, 1, 0] rfl rfl (.region (.skips 1 rfl (.sub' rfl rfl rfl rfl (.sub (E' := [(0, _), (1, _), (6, _), (7, _), (8, _), (9, _), (10, _), (87, _), (88, _)]) ⟨rfl, rfl, rfl, rfl, rfl, rfl, rfl, rfl, rfl, trivial⟩ (.skips 1 rfl (.nil' fun c w ho hs => ⟨((s3321.set s3329.toNat x3340), (s3325.set s3329.toNat x3348), w64 (s3329 - 1)), hd, I3331, _, _, _, _, le3336, ho.sub ⟨rfl, rfl, rfl, rfl, rfl, rfl, rfl, rfl, trivial⟩, hs.pick (.c .z (.c .z (.c .z .n)))⟩)))))))))
   refine .exitS [10, 9, 8, 7, 6, 1, 0] rfl rfl (.seq (.ownF .z fun hne3355 => ?_))
   refine .ownF (.s .z) fun hne3356 => ?_
   refine .draw [some 0, some 1, some 2, some 3, some 4, some 5, some 6, some 7, some 8, some 9, some 10, some 11, some 12] 13 MX (by kernel_rfl) (by kernel_rfl) (by kernel_rfl) (by kernel_rfl) (by kernel_rfl) (by kernel_rfl) (by kernel_rfl) (fun ex => (OwnSl eEdge 67 p3322 c3323 s3321) :: (OwnSl eWide 86 p3326 c3327 s3325) :: (pto b2965 (.cells #[.int .i64 r2961.Hi, .int .u64 r2961.Lo] 86 (0, 0))) :: ex) (fun _ _ => (.s (.s (.s .z)))) rfl (.fs [[], [], [], []] rfl (by kernel_rfl) ?_)
   obtain ⟨h3357, x3358, hx3359, hd⟩ := hd
   obtain ⟨b3360, o3361, cs3362, e3363, hC3364, hr3365⟩ := R3.2 _ _ hx3359
   cases hr3365
   refine .f [2, 3] rfl (by kernel_rfl) rfl rfl (fun ex => .ixa underlying65 sizeOf67 rfl e3363 rfl h3357 (idx_lt hx3359 h3357) rfl rfl .mk) (.f [4] rfl (by kernel_rfl) rfl rfl (fun ex => .fieldAddr underlying67 rfl sizeOf3 rfl (o := o3361 + s2697.toNat * 3) rfl rfl rfl .mk) (.f [5] rfl (by kernel_rfl) rfl rfl (fun ex => .ld1 (j := 0) isAgg3 hC3364 rfl rfl rfl rfl rfl .mk) (.fs [[], []] rfl (by kernel_rfl) ?_)))
   obtain ⟨h3366, x3367, hx3368, hd⟩ := hd
   obtain ⟨b3369, o3370, cs3371, e3372, hC3373, hr3374⟩ := R3.2 _ _ hx3368
   cases hr3374
   refine .f [7, 8] rfl (by kernel_rfl) rfl rfl (fun ex => .ixa underlying65 sizeOf67 rfl e3372 rfl h3366 (idx_lt hx3368 h3366) rfl rfl .mk) (.f [9] rfl (by kernel_rfl) rfl rfl (fun ex => .fieldAddr underlying67 rfl sizeOf3 rfl (o := o3370 + s2697.toNat * 3 + 1) rfl rfl rfl .mk) (.f [10] rfl (by kernel_rfl) rfl rfl (fun ex => .ld1 (j := 1) isAgg3 hC3373 rfl rfl rfl rfl rfl .mk) (.f [6, 11] rfl (by kernel_rfl) rfl rfl (fun ex => .build zeroValue67 underlying67 BI67 (.c rfl rfl rfl (.t .nil) (.c rfl rfl rfl (.s (.t .nil)) .n)) (by exact ⟨⟨_, _, rfl, rfl, rfl⟩, ⟨⟨_, _, rfl, rfl, rfl⟩, trivial⟩⟩) rfl rfl .mk) (.e 13 (by kernel_rfl) (by kernel_rfl) (by kernel_rfl) ?_))))
   obtain ⟨h3375, x3376, hx3377, hd⟩ := hd
   obtain ⟨b3378, e3379⟩ := hne3355 (idx_ne hx3377)
   cases e3379
   refine .ixa0 underlying65 sizeOf67 rfl rfl h3375 (idx_lt hx3377 h3375) rfl rfl (.stOA (j := 0) (v' := ({ From := x3358.From, To := x3367.To, W := 0 } : Edge)) sizeOf67 .z hx3377 rfl rfl rfl (.t (.t (.t .nil))) rfl rfl (.sub (E' := [(0, _), (1, _), (6, .slice (some ⟨b3378, 0, none⟩) (s3321.set s2856.toNat ({ From := x3358.From, To := x3367.To, W := 0 } : Edge)).length c3323), (7, _), (8, _), (9, _), (10, _), (105, .slice (some ⟨b3378, 0, none⟩) (s3321.set s2856.toNat ({ From := x3358.From, To := x3367.To, W := 0 } : Edge)).length c3323), (106, _), (107, _), (108, _), (109, _), (110, _), (111, _), (112, _), (113, _), (114, _), (115, _), (116, _), (117, _), (118, _)]) ⟨rfl, rfl, (by simp only [List.length_set]; rfl), rfl, rfl, rfl, rfl, (by simp only [List.length_set]; rfl), rfl, rfl, rfl, rfl, rfl, rfl, rfl, rfl, rfl, rfl, rfl, rfl, rfl, trivial⟩ (.nilS [10, 9, 8, 7, 6, 1, 0] rfl rfl (.region (.skips 2 rfl (.loadW isAgg86 sizeOf86 rfl (.s (.s .z)) rfl rfl rfl ?_))))))
   obtain ⟨h3380, x3381, hx3382, hd⟩ := hd
   obtain ⟨b3383, e3384⟩ := hne3356 (idx_ne hx3382)
   cases e3384
   refine .ixa0 underlying82 sizeOf86 rfl rfl h3380 (idx_lt hx3382 h3380) rfl rfl (.stOA (j := 0) (v' := r2961) sizeOf86 (.s .z) hx3382 rfl rfl rfl (.t (.t .nil)) rfl rfl (.sub (E' := [(0, _), (1, _), (6, _), (7, .slice (some ⟨b3383, 0, none⟩) (s3325.set s2856.toNat r2961).length c3327), (8, _), (9, _), (10, _), (119, .slice (some ⟨b3383, 0, none⟩) (s3325.set s2856.toNat r2961).length c3327), (120, _), (121, _), (122, _)]) ⟨rfl, rfl, rfl, (by simp only [List.length_set]; rfl), rfl, rfl, rfl, (by simp only [List.length_set]; rfl), rfl, rfl, rfl, trivial⟩ (.nilS [8, 7, 6, 1, 0] rfl rfl (.drop (.s (.s .z)) (.region (.skips 1 rfl (.add rfl rfl rfl rfl (.sub (E' := [(0, _), (1, _), (6, _), (7, _), (22, _), (23, _)]) ⟨rfl, rfl, rfl, rfl, rfl, rfl, trivial⟩ (.skips 1 rfl ?_)))))))))
   exact .nil' fun c w ho hs => ⟨((s3321.set s2856.toNat ({ From := x3358.From, To := x3367.To, W := 0 } : Edge)), (s3325.set s2856.toNat r2961), w64 (s2697 + 1)), hd, I3331, _, _, _, _, le3333, ho.sub ⟨rfl, rfl, rfl, rfl, rfl, trivial⟩, hs.pick (.c .z (.c .z .n))⟩
 refine .exitS [7, 6] rfl rfl (.seq (.seq (.region (.skips 1 rfl (.nilS [12, 7, 6] rfl rfl (.block (.loop hd (fun (s : (List Edge) × Int) c w => match s with | (s3452, s3456) => ∃ I_ p3453 c3454, IH.le I2701 I_ ∧ Ok ⟨145, [], none⟩ [(6, .slice p3453 s3452.length c3454), (7, .slice p2694 s2693.length c2695), (12, .int .i64 s3456)] c ∧ Sym w0 M I I_ [OwnSl eEdge 67 p3453 c3454 s3452, OwnSl eWide 86 p2694 c2695 s2693] w) (fun c w ho hs => ⟨I2701, _, _, (.refl _), ho.sub ⟨rfl, rfl, rfl, trivial⟩, hs.pick (.c .z (.c .z .n))⟩) ?_)))))))
 rintro ⟨s3452, s3456⟩ next3457 hd c w hst
 obtain ⟨I3458, p3453, c3454, hl3459, hok, hsym⟩ := hst
 have le3460 := IH.le.trans le2703 hl3459
 have le3461 := IH.le.trans (.refl _) hl3459
 refine Cod.at hok hsym (.seq (.seq (.region (.skips 2 rfl (.len underlying65 rfl rfl rfl rfl (.lt rfl rfl rfl rfl (.nilS [126, 12, 7, 6] rfl rfl (.condP rfl hd (fun hb3463 hd => ?_) fun hb3463 hd => ?_))))))))
 · refine .skipS [12, 7, 6] rfl rfl (.seq (.block (.seq (.region (.skips 2 rfl ?_)))))
   obtain ⟨h3473, x3474, hx3475, hd⟩ := hd
   refine .ownNe (.s .z) (idx_ne hx3475) fun b3476 e3477 => ?_
   cases e3477
   refine .ixa0 underlying82 sizeOf86 rfl rfl h3473 (idx_lt hx3475 h3473) rfl rfl (.loA (j := 0) isAgg86 sizeOf86 (.s .z) hx3475 rfl rfl (.t (.t .nil)) rfl rfl rfl ?_)
   have hw3479 := W_ref01_Narrow (I := I3458) hd
   refine .callP call63 rfl hw3479 rfl rfl fun v3480 hv3481 => ?_
   obtain ⟨r3478, rfl, hd⟩ := hv3481
   refine .skips 1 rfl (.extract rfl rfl rfl rfl (.extract rfl rfl rfl rfl (.skips 2 rfl (.nilS [14, 13, 12, 7, 6] rfl rfl (.seq (.seq (.region (.skips 1 rfl (.not rfl rfl rfl ?_)))))))))
   refine .nilS [138, 13, 12, 7, 6] rfl rfl (.condP rfl hd (fun hb3482 hd => ?_) fun hb3482 hd => ?_)
   · exact .seq (.region (.skips 2 rfl (.nilS [5, 4] rfl rfl (.drop .z (.drop .z (.ret (pret results40 (.t rfl (.t rfl .n)) le3460 ⟨(([] : List Edge), 12), _, _, rfl, (.nil _ _ _), hd⟩)))))))
   refine .skipS [13, 12, 7, 6] rfl rfl (.region (.skips 3 rfl ?_))
   obtain ⟨h3483, x3484, hx3485, hd⟩ := hd
   refine .ownNe .z (idx_ne hx3485) fun b3486 e3487 => ?_
   cases e3487
   refine .ixa0 underlying65 sizeOf67 rfl rfl h3483 (idx_lt hx3485 h3483) rfl rfl (.fieldAddr underlying67 rfl sizeOf2 rfl (o := s3456.toNat * 3 + 2) rfl rfl rfl (.stO1 (j := 2) (v' := ({ From := x3484.From, To := x3484.To, W := r3478.1 } : Edge)) sizeOf2 .z hx3485 rfl rfl rfl (.s (.s (.t .nil))) rfl (.sub (E' := [(6, .slice (some ⟨b3486, 0, none⟩) (s3452.set s3456.toNat ({ From := x3484.From, To := x3484.To, W := r3478.1 } : Edge)).length c3454), (7, _), (12, _), (13, _), (139, .slice (some ⟨b3486, 0, none⟩) (s3452.set s3456.toNat ({ From := x3484.From, To := x3484.To, W := r3478.1 } : Edge)).length c3454), (140, _), (141, _), (142, _), (143, _)]) ⟨(by simp only [List.length_set]; rfl), rfl, rfl, rfl, (by simp only [List.length_set]; rfl), rfl, rfl, rfl, rfl, trivial⟩ (.nilS [12, 7, 6] rfl rfl (.region (.skips 1 rfl (.add rfl rfl rfl rfl (.sub (E' := [(6, _), (7, _), (127, _), (128, _)]) ⟨rfl, rfl, rfl, rfl, trivial⟩ (.skips 1 rfl ?_)))))))))
   exact .nil' fun c w ho hs => ⟨((s3452.set s3456.toNat ({ From := x3484.From, To := x3484.To, W := r3478.1 } : Edge)), w64 (s3456 + 1)), hd, I3458, _, _, le3461, ho.sub ⟨rfl, rfl, rfl, trivial⟩, hs.pick (.c .z (.c .z .n))⟩
 refine .exitS [6] rfl rfl (.drop (.s .z) (.seq (.region (.skips 3 rfl (.nilS [5, 4] rfl rfl (.pub .z fun I3488 hl3489 R3490 => ?_))))))
 have le3491 := IH.le.trans le3460 hl3489
 have le3492 := IH.le.trans le3461 hl3489
 exact .ret (pret results40 (.t rfl (.t rfl .n)) le3491 ⟨(s3452, 0), _, _, rfl, R3490, hd⟩)

theorem W_ref07_Empty {I : IH} {a0 : Int} {a1 : Int}  {Q : Rows → Prop}  (hd : ref07_Empty a0 a1 Q) :
    OFun Tryz.prog 64 [.int .i64 a0, .int .i64 a1] I (fun I_ v l => ∃ r p1 c2 p4 c5 p7 c8, v = .agg #[.int .i64 r.Rows, .int .i64 r.Cols, .slice p1 r.Start.length c2, .slice p4 r.Col.length c5, .slice p7 r.Val.length c8] ∧ l = [OwnSl eI64 3 p1 c2 r.Start, OwnSl eI64 3 p4 c5 r.Col, OwnSl eI64 2 p7 c8 r.Val] ∧ Q r) := by
 refine Fun.enter func64 rfl ntmps64 rfl (.c (.c .n)) fun w0 M => ?_
 refine .seq (.region (.allocA zeroValue25 rfl rfl fun b10 => ?_))
 refine .nilS [4, 1, 0] rfl rfl (.seq (.region (.skips 3 rfl (.add rfl rfl rfl rfl ?_))))
 obtain ⟨h12, h13, hd⟩ := hd
 refine .make (El := eI64) (zv := 0) 8 underlying22 IN3 rfl rfl rfl rfl rfl rfl h12 h13 rfl rfl rfl fun b14 => ?_
 exact .build zeroValue25 underlying25 BI25 (.c rfl rfl rfl (.t .nil) (.c rfl rfl rfl (.s (.t .nil)) (.c rfl rfl rfl (.s (.s (.t .nil))) .n))) (by exact ⟨⟨_, _, rfl, rfl, rfl⟩, ⟨⟨_, _, rfl, rfl, rfl⟩, ⟨⟨_, _, rfl, rfl, rfl⟩, trivial⟩⟩⟩) rfl rfl (.storeA sizeOf25 rfl rfl (.s .z) (.t (.t (.t (.t (.t .nil))))) rfl rfl (.nilS [4] rfl rfl (.own0 eI64 3 (.own0 eI64 2 (.ret (oret results64 (.w isAgg25 sizeOf25 rfl (.s (.s (.s .z))) rfl .n) (.refl _) (.c (.s (.s .z)) (.c (.s .z) (.c .z .n))) ⟨({ Rows := a0, Cols := a1, Start := (List.replicate (w64 (a0 + 1)).toNat 0), Col := ([] : List Int), Val := ([] : List Int) } : Rows), _, _, _, _, _, _, rfl, rfl, hd⟩))))))

theorem W_ref07_built {I : IH} {a0 : Int} {a1 : Int} {a2 : List Triple} {p1 : Option Addr} {c2 : Nat} {Q : Rows → Prop} (R3 : RepSl eTriple I p1 c2 a2) (hd : ref07_built a0 a1 a2 Q) :
    PFun Tryz.prog 41 [.int .i64 a0, .int .i64 a1, .slice p1 a2.length c2] I (fun I_ v => ∃ r p4 c5 p7 c8 p10 c11, v = .agg #[.int .i64 r.Rows, .int .i64 r.Cols, .slice p4 r.Start.length c5, .slice p7 r.Col.length c8, .slice p10 r.Val.length c11] ∧ RepSl eI64 I_ p4 c5 r.Start ∧ RepSl eI64 I_ p7 c8 r.Col ∧ RepSl eI64 I_ p10 c11 r.Val ∧ Q r) := by
 refine Fun.enter func41 rfl ntmps41 rfl (.c (.c (.c .n))) fun w0 M => ?_
 refine .seq (.region (.allocA zeroValue25 rfl rfl fun b15 => ?_))
 refine .nilS [6, 2, 1, 0] rfl rfl (.seq (.region (.skips 2 rfl ?_)))
 have hw57 := W_ref07_Empty (I := I) hd
 refine .callO call64 rfl hw57 rfl rfl fun v43 I40 l44 hl41 hv42 => ?_
 obtain ⟨r39, p45, c46, p48, c49, p51, c52, rfl, rfl, hd⟩ := hv42
 have le58 := IH.le.trans (.refl _) hl41
 replace R3 := R3.mono hl41
 refine .allocA zeroValue25 rfl rfl fun b59 => ?_
 refine .storeA sizeOf25 rfl rfl .z (.t (.t (.t (.t (.t .nil))))) rfl rfl (.nilS [7, 6, 2, 0] rfl rfl (.seq (.seq (.region (.skips 1 rfl (.nilS [8, 7, 6, 2, 0] rfl rfl (.block (.loop hd (fun (s : (List Int) × (List Int) × (List Int) × Int) c w => match s with | (s394, s398, s402, s406) => ∃ I_ p395 c396 p399 c400 p403 c404, IH.le I40 I_ ∧ Ok ⟨58, [], none⟩ [(0, .int .i64 a0), (2, .slice p1 a2.length c2), (6, .pointer (some ⟨b15, 0, none⟩)), (7, .pointer (some ⟨b59, 0, none⟩)), (8, .int .i64 s406)] c ∧ Sym w0 M I I_ [pto b15 (.cells #[.int .i64 0, .int .i64 0, .slice none 0 0, .slice none 0 0, .slice none 0 0] 25 (0, 0)), pto b59 (.cells #[.int .i64 r39.Rows, .int .i64 r39.Cols, .slice p395 s394.length c396, .slice p399 s398.length c400, .slice p403 s402.length c404] 25 (0, 0)), OwnSl eI64 3 p395 c396 s394, OwnSl eI64 3 p399 c400 s398, OwnSl eI64 2 p403 c404 s402] w) (fun c w ho hs => ⟨I40, _, _, _, _, _, _, (.refl _), ho.sub ⟨rfl, rfl, rfl, rfl, rfl, trivial⟩, hs.pick (.c (.s (.s (.s (.s .z)))) (.c .z (.c .z (.c .z (.c .z .n)))))⟩) ?_))))))))
 rintro ⟨s394, s398, s402, s406⟩ next407 hd c w hst
 obtain ⟨I408, p395, c396, p399, c400, p403, c404, hl409, hok, hsym⟩ := hst
 have le410 := IH.le.trans le58 hl409
 have le411 := IH.le.trans (.refl _) hl409
 replace R3 := R3.mono hl409
 refine Cod.at hok hsym (.seq (.seq (.region (.skips 2 rfl (.len underlying48 rfl rfl rfl rfl (.lt rfl rfl rfl rfl (.nilS [16, 8, 7, 6, 2, 0] rfl rfl (.condP rfl hd (fun hb413 hd => ?_) fun hb413 hd => ?_))))))))
 · refine .skipS [8, 7, 6, 2, 0] rfl rfl (.seq (.block (.seq (.ownF (.s (.s .z)) fun hne432 => ?_))))
   refine .ownF (.s (.s (.s .z))) fun hne433 => ?_
   refine .ownF (.s (.s (.s (.s .z)))) fun hne434 => ?_
   refine .draw [some 0, some 1, some 2, some 3, some 4, some 5, some 6, some 7, some 8] 9 MX (by kernel_rfl) (by kernel_rfl) (by kernel_rfl) (by kernel_rfl) (by kernel_rfl) (by kernel_rfl) (by kernel_rfl) (fun ex => (pto b15 (.cells #[.int .i64 0, .int .i64 0, .slice none 0 0, .slice none 0 0, .slice none 0 0] 25 (0, 0))) :: (pto b59 (.cells #[.int .i64 r39.Rows, .int .i64 r39.Cols, .slice p395 s394.length c396, .slice p399 s398.length c400, .slice p403 s402.length c404] 25 (0, 0))) :: (OwnSl eI64 3 p395 c396 s394) :: (OwnSl eI64 3 p399 c400 s398) :: (OwnSl eI64 2 p403 c404 s402) :: ex) (fun _ _ => (.s (.s (.s (.s (.s .z)))))) rfl (.f [] rfl (by kernel_rfl) rfl rfl (fun ex => .fieldAddr underlying25 rfl sizeOf22 rfl (o := 3) rfl rfl rfl .mk) (.f [0] rfl (by kernel_rfl) rfl rfl (fun ex => .load1 isAgg22 rfl (.s .z) rfl rfl rfl .mk) (.fs [[], []] rfl (by kernel_rfl) ?_)))
   obtain ⟨h435, x436, hx437, hd⟩ := hd
   obtain ⟨b438, o439, cs440, e441, hC442, hr443⟩ := R3.2 _ _ hx437
   cases hr443
   refine .f [2, 3] rfl (by kernel_rfl) rfl rfl (fun ex => .ixa underlying48 sizeOf47 rfl e441 rfl h435 (idx_lt hx437 h435) rfl rfl .mk) (.f [4] rfl (by kernel_rfl) rfl rfl (fun ex => .fieldAddr underlying47 rfl sizeOf3 rfl (o := o439 + s406.toNat * 3 + 1) rfl rfl rfl .mk) (.f [5] rfl (by kernel_rfl) rfl rfl (fun ex => .ld1 (j := 1) isAgg3 hC442 rfl rfl rfl rfl rfl .mk) (.w [1, 0] [[], [6], [5, 6], [4, 5, 6], [4, 5, 6]] [6] rfl (by kernel_rfl) (by kernel_rfl) (by kernel_rfl) ((dropE_kept rfl rfl)) (.inr (dropE_kept rfl rfl)) fun ex => ?_)))
   refine .buildSlice 1 underlying22 sizeOf3 zeroValue3 rfl rfl (.c rfl rfl rfl .n) rfl rfl fun b444 => ?_
   refine .some (fun ex => (pto b444 (.cells #[.int .i64 x436.Col] 3 (0, 0))) :: (pto b15 (.cells #[.int .i64 0, .int .i64 0, .slice none 0 0, .slice none 0 0, .slice none 0 0] 25 (0, 0))) :: (pto b59 (.cells #[.int .i64 r39.Rows, .int .i64 r39.Cols, .slice p395 s394.length c396, .slice p399 s398.length c400, .slice p403 s402.length c404] 25 (0, 0))) :: (OwnSl eI64 3 p395 c396 s394) :: (OwnSl eI64 3 p399 c400 s398) :: (OwnSl eI64 2 p403 c404 s402) :: ex) rfl (fun _ _ => (.s (.s (.s (.s (.s (.s .z))))))) rfl (.cc [0] rfl (by kernel_rfl) rfl rfl rfl (fun ex => .load1 isAgg22 rfl (.s (.s .z)) rfl rfl rfl .mk) (.cc [] rfl (by kernel_rfl) rfl rfl rfl (fun ex => .fieldAddr underlying25 rfl sizeOf22 rfl (o := 3) rfl rfl rfl .mk) trivial)) (.w [] [[], [1]] [1, 7] rfl (by kernel_rfl) (by kernel_rfl) (by kernel_rfl) ((dropE_kept rfl rfl)) (.inr (dropE_kept rfl rfl)) fun ex => ?_)
   obtain ⟨hl446, hd⟩ := hd
   refine .append (ys := [x436.Col]) 8 (.s (.s (.s (.s .z)))) underlying22 underlying22 IN3 rfl rfl rfl rfl rfl rfl rfl rfl rfl (.box .z (.one rfl) rfl) hl446 rfl rfl fun p447 c448 => ?_
   refine .some (fun ex => (OwnSl eI64 3 p447 c448 (s398 ++ ([x436.Col]))) :: (pto b444 (.cells #[.int .i64 x436.Col] 3 (0, 0))) :: (pto b15 (.cells #[.int .i64 0, .int .i64 0, .slice none 0 0, .slice none 0 0, .slice none 0 0] 25 (0, 0))) :: (pto b59 (.cells #[.int .i64 r39.Rows, .int .i64 r39.Cols, .slice p395 s394.length c396, .slice p399 s398.length c400, .slice p403 s402.length c404] 25 (0, 0))) :: (OwnSl eI64 3 p395 c396 s394) :: (OwnSl eI64 2 p403 c404 s402) :: ex) rfl (fun _ _ => (.s (.s (.s (.s (.s (.s .z))))))) rfl trivial (.e 9 (by kernel_rfl) (by kernel_rfl) (by kernel_rfl) (.fieldAddr underlying25 rfl sizeOf22 rfl (o := 3) rfl rfl rfl (.store1 sizeOf22 rfl rfl (.s (.s (.s .z))) (.s (.s (.s (.t .nil)))) rfl (.nilS [8, 7, 6, 2, 0] rfl rfl (.drop (.s .z) (.seq (.ownF .z fun hne468 => ?_)))))))
   refine .ownF (.s (.s (.s .z))) fun hne469 => ?_
   refine .ownF (.s (.s (.s (.s .z)))) fun hne470 => ?_
   refine .draw [some 0, some 1, some 2, some 3, some 4, some 5, some 6, some 7, some 8] 9 MX (by kernel_rfl) (by kernel_rfl) (by kernel_rfl) (by kernel_rfl) (by kernel_rfl) (by kernel_rfl) (by kernel_rfl) (fun ex => (OwnSl eI64 3 p447 c448 (s398 ++ ([x436.Col]))) :: (pto b15 (.cells #[.int .i64 0, .int .i64 0, .slice none 0 0, .slice none 0 0, .slice none 0 0] 25 (0, 0))) :: (pto b59 (.cells #[.int .i64 r39.Rows, .int .i64 r39.Cols, .slice p395 s394.length c396, .slice p447 (s398 ++ ([x436.Col])).length c448, .slice p403 s402.length c404] 25 (0, 0))) :: (OwnSl eI64 3 p395 c396 s394) :: (OwnSl eI64 2 p403 c404 s402) :: ex) (fun _ _ => (.s (.s (.s (.s (.s .z)))))) rfl (.f [] rfl (by kernel_rfl) rfl rfl (fun ex => .fieldAddr underlying25 rfl sizeOf23 rfl (o := 4) rfl rfl rfl .mk) (.f [0] rfl (by kernel_rfl) rfl rfl (fun ex => .load1 isAgg23 rfl (.s (.s .z)) rfl rfl rfl .mk) (.fs [[], []] rfl (by kernel_rfl) ?_)))
   obtain ⟨h471, x472, hx473, hd⟩ := hd
   obtain ⟨b474, o475, cs476, e477, hC478, hr479⟩ := R3.2 _ _ hx473
   cases hr479
   refine .f [2, 3] rfl (by kernel_rfl) rfl rfl (fun ex => .ixa underlying48 sizeOf47 rfl e477 rfl h471 (idx_lt hx473 h471) rfl rfl .mk) (.f [4] rfl (by kernel_rfl) rfl rfl (fun ex => .fieldAddr underlying47 rfl sizeOf2 rfl (o := o475 + s406.toNat * 3 + 2) rfl rfl rfl .mk) (.f [5] rfl (by kernel_rfl) rfl rfl (fun ex => .ld1 (j := 2) isAgg2 hC478 rfl rfl rfl rfl rfl .mk) (.w [1, 0] [[], [6], [5, 6], [4, 5, 6], [4, 5, 6]] [6] rfl (by kernel_rfl) (by kernel_rfl) (by kernel_rfl) ((dropE_kept rfl rfl)) (.inr (dropE_kept rfl rfl)) fun ex => ?_)))
   refine .buildSlice 1 underlying23 sizeOf2 zeroValue2 rfl rfl (.c rfl rfl rfl .n) rfl rfl fun b480 => ?_
   refine .some (fun ex => (pto b480 (.cells #[.int .i64 x472.Val] 2 (0, 0))) :: (OwnSl eI64 3 p447 c448 (s398 ++ ([x436.Col]))) :: (pto b15 (.cells #[.int .i64 0, .int .i64 0, .slice none 0 0, .slice none 0 0, .slice none 0 0] 25 (0, 0))) :: (pto b59 (.cells #[.int .i64 r39.Rows, .int .i64 r39.Cols, .slice p395 s394.length c396, .slice p447 (s398 ++ ([x436.Col])).length c448, .slice p403 s402.length c404] 25 (0, 0))) :: (OwnSl eI64 3 p395 c396 s394) :: (OwnSl eI64 2 p403 c404 s402) :: ex) rfl (fun _ _ => (.s (.s (.s (.s (.s (.s .z))))))) rfl (.cc [0] rfl (by kernel_rfl) rfl rfl rfl (fun ex => .load1 isAgg23 rfl (.s (.s (.s .z))) rfl rfl rfl .mk) (.cc [] rfl (by kernel_rfl) rfl rfl rfl (fun ex => .fieldAddr underlying25 rfl sizeOf23 rfl (o := 4) rfl rfl rfl .mk) trivial)) (.w [] [[], [1]] [1, 7] rfl (by kernel_rfl) (by kernel_rfl) (by kernel_rfl) ((dropE_kept rfl rfl)) (.inr (dropE_kept rfl rfl)) fun ex => ?_)
   obtain ⟨hl482, hd⟩ := hd
   refine .append (ys := [x472.Val]) 8 (.s (.s (.s (.s (.s .z))))) underlying23 underlying23 IN2 rfl rfl rfl rfl rfl rfl rfl rfl rfl (.box .z (.one rfl) rfl) hl482 rfl rfl fun p483 c484 => ?_
   refine .some (fun ex => (OwnSl eI64 2 p483 c484 (s402 ++ ([x472.Val]))) :: (pto b480 (.cells #[.int .i64 x472.Val] 2 (0, 0))) :: (OwnSl eI64 3 p447 c448 (s398 ++ ([x436.Col]))) :: (pto b15 (.cells #[.int .i64 0, .int .i64 0, .slice none 0 0, .slice none 0 0, .slice none 0 0] 25 (0, 0))) :: (pto b59 (.cells #[.int .i64 r39.Rows, .int .i64 r39.Cols, .slice p395 s394.length c396, .slice p447 (s398 ++ ([x436.Col])).length c448, .slice p403 s402.length c404] 25 (0, 0))) :: (OwnSl eI64 3 p395 c396 s394) :: ex) rfl (fun _ _ => (.s (.s (.s (.s (.s (.s .z))))))) rfl trivial (.e 9 (by kernel_rfl) (by kernel_rfl) (by kernel_rfl) (.fieldAddr underlying25 rfl sizeOf23 rfl (o := 4) rfl rfl rfl (.store1 sizeOf23 rfl rfl (.s (.s (.s (.s .z)))) (.s (.s (.s (.s (.t .nil))))) rfl (.nilS [8, 7, 6, 2, 0] rfl rfl (.drop (.s .z) (.seq (.region (.skips 2 rfl ?_))))))))
   obtain ⟨h495, x496, hx497, hd⟩ := hd
   obtain ⟨b498, o499, cs500, e501, hC502, hr503⟩ := R3.2 _ _ hx497
   cases hr503
   refine .ixa underlying48 sizeOf47 rfl e501 rfl h495 (idx_lt hx497 h495) rfl rfl (.fieldAddr underlying47 rfl sizeOf3 rfl (o := o499 + s406.toNat * 3) rfl rfl rfl (.ld1 (j := 0) isAgg3 hC502 rfl rfl rfl rfl rfl (.add rfl rfl rfl rfl (.skips 1 rfl (.nilS [9, 8, 7, 6, 2, 0] rfl rfl (.block (.loop hd (fun (s : (List Int) × Int) c w => match s with | (s539, s543) => ∃ I_ p540 c541, IH.le I408 I_ ∧ Ok ⟨58, [], none⟩ [(0, .int .i64 a0), (2, .slice p1 a2.length c2), (6, .pointer (some ⟨b15, 0, none⟩)), (7, .pointer (some ⟨b59, 0, none⟩)), (8, .int .i64 s406), (9, .int .i64 s543)] c ∧ Sym w0 M I I_ [pto b15 (.cells #[.int .i64 0, .int .i64 0, .slice none 0 0, .slice none 0 0, .slice none 0 0] 25 (0, 0)), pto b59 (.cells #[.int .i64 r39.Rows, .int .i64 r39.Cols, .slice p540 s539.length c541, .slice p447 (s398 ++ ([x436.Col])).length c448, .slice p483 (s402 ++ ([x472.Val])).length c484] 25 (0, 0)), OwnSl eI64 3 p540 c541 s539, OwnSl eI64 3 p447 c448 (s398 ++ ([x436.Col])), OwnSl eI64 2 p483 c484 (s402 ++ ([x472.Val]))] w) (fun c w ho hs => ⟨I408, _, _, (.refl _), ho.sub ⟨rfl, rfl, rfl, rfl, rfl, rfl, trivial⟩, hs.pick (.c (.s (.s .z)) (.c (.s (.s .z)) (.c (.s (.s .z)) (.c (.s .z) (.c .z .n)))))⟩) ?_)))))))
   rintro ⟨s539, s543⟩ next544 hd c w hst
   obtain ⟨I545, p540, c541, hl546, hok, hsym⟩ := hst
   have le547 := IH.le.trans le410 hl546
   have le548 := IH.le.trans le411 hl546
   have le549 := IH.le.trans (.refl _) hl546
   replace R3 := R3.mono hl546
   refine Cod.at hok hsym (.seq (.seq (.region (.skips 2 rfl (.le' rfl rfl rfl rfl (.nilS [47, 9, 8, 7, 6, 2, 0] rfl rfl (.condP rfl hd (fun hb551 hd => ?_) fun hb551 hd => ?_)))))))
   · refine .skipS [9, 8, 7, 6, 2, 0] rfl rfl (.seq (.block (.region (.fieldAddr underlying25 rfl sizeOf22 rfl (o := 2) rfl rfl rfl (.load1 isAgg22 rfl (.s .z) rfl rfl rfl (.skips 1 rfl ?_))))))
     obtain ⟨h552, x553, hx554, hd⟩ := hd
     refine .ownNe (.s (.s .z)) (idx_ne hx554) fun b555 e556 => ?_
     cases e556
     refine .ixa0 underlying22 sizeOf3 rfl rfl h552 (idx_lt hx554 h552) rfl rfl (.lo1 (j := 0) isAgg3 (.s (.s .z)) hx554 rfl rfl rfl rfl rfl (.add rfl rfl rfl rfl ?_))
     obtain ⟨h557, x558, hx559, hd⟩ := hd
     refine .ixa0 underlying22 sizeOf3 rfl rfl h557 (idx_lt hx559 h557) rfl rfl (.stO1 (j := 0) (v' := (w64 (x553 + 1))) sizeOf3 (.s (.s .z)) hx559 rfl rfl rfl (.t .nil) rfl (.sub (E' := [(0, _), (2, _), (6, _), (7, _), (8, _), (9, _), (50, _), (51, .slice (some ⟨b555, 0, none⟩) (s539.set s543.toNat (w64 (x553 + 1))).length c541), (52, _), (53, _), (54, _), (55, _), (56, _)]) ⟨rfl, rfl, rfl, rfl, rfl, rfl, rfl, (by simp only [List.length_set]; rfl), rfl, rfl, rfl, rfl, rfl, trivial⟩ (.reat (.s .z) (B := pto b59 (.cells #[.int .i64 r39.Rows, .int .i64 r39.Cols, .slice (some ⟨b555, 0, none⟩) (s539.set s543.toNat (w64 (x553 + 1))).length c541, .slice p447 (s398 ++ ([x436.Col])).length c448, .slice p483 (s402 ++ ([x472.Val])).length c484] 25 (0, 0))) (by simp only [List.length_set]) (.nilS [9, 8, 7, 6, 2, 0] rfl rfl (.region (.skips 1 rfl (.add rfl rfl rfl rfl (.sub (E' := [(0, _), (2, _), (6, _), (7, _), (8, _), (48, _), (49, _)]) ⟨rfl, rfl, rfl, rfl, rfl, rfl, rfl, trivial⟩ (.skips 1 rfl ?_)))))))))
     exact .nil' fun c w ho hs => ⟨((s539.set s543.toNat (w64 (x553 + 1))), w64 (s543 + 1)), hd, I545, _, _, le549, ho.sub ⟨rfl, rfl, rfl, rfl, rfl, rfl, trivial⟩, hs.pick (.c .z (.c .z (.c .z (.c .z (.c .z .n)))))⟩
   exact .exitS [8, 7, 6, 2, 0] rfl rfl (.region (.skips 1 rfl (.add rfl rfl rfl rfl (.sub (E' := [(0, _), (2, _), (6, _), (7, _), (17, _), (18, _)]) ⟨rfl, rfl, rfl, rfl, rfl, rfl, trivial⟩ (.skips 1 rfl (.nil' fun c w ho hs => ⟨(s539, (s398 ++ ([x436.Col])), (s402 ++ ([x472.Val])), w64 (s406 + 1)), hd, I545, _, _, _, _, _, _, le548, ho.sub ⟨rfl, rfl, rfl, rfl, rfl, trivial⟩, hs.pick (.c .z (.c .z (.c .z (.c .z (.c .z .n)))))⟩))))))
 refine .exitS [7, 6] rfl rfl (.seq (.region (.loadW isAgg25 sizeOf25 rfl (.s .z) rfl rfl rfl (.storeA sizeOf25 rfl rfl .z (.t (.t (.t (.t (.t .nil))))) rfl rfl (.nilS [6] rfl rfl (.drop (.s .z) (.pub (.s .z) fun I560 hl561 R562 => ?_)))))))
 have le563 := IH.le.trans le410 hl561
 have le564 := IH.le.trans le411 hl561
 refine .pub (.s .z) fun I565 hl566 R567 => ?_
 have le568 := IH.le.trans le563 hl566
 have le569 := IH.le.trans le564 hl566
 replace R562 := R562.mono hl566
 refine .pub (.s .z) fun I570 hl571 R572 => ?_
 have le573 := IH.le.trans le568 hl571
 have le574 := IH.le.trans le569 hl571
 replace R562 := R562.mono hl571
 replace R567 := R567.mono hl571
 exact .ret (pret results41 (.w isAgg25 sizeOf25 rfl .z rfl .n) le573 ⟨({ Rows := r39.Rows, Cols := r39.Cols, Start := s394, Col := s398, Val := s402 } : Rows), _, _, _, _, _, _, rfl, R562, R567, R572, hd⟩)

theorem W_ref07_Of {I : IH} {a0 : Int} {a1 : Int} {a2 : Int} {a3 : List Triple} {p1 : Option Addr} {c2 : Nat} {Q : (Rows × Int) → Prop} (R3 : RepSl eTriple I p1 c2 a3) (hd : ref07_Of a0 a1 a2 a3 Q) :
    PFun Tryz.prog 22 [.int .i64 a0, .int .i64 a1, .int .i64 a2, .slice p1 a3.length c2] I (fun I_ v => ∃ r p4 c5 p7 c8 p10 c11, v = .tuple #[.agg #[.int .i64 r.1.Rows, .int .i64 r.1.Cols, .slice p4 r.1.Start.length c5, .slice p7 r.1.Col.length c8, .slice p10 r.1.Val.length c11], .int .i64 r.2] ∧ RepSl eI64 I_ p4 c5 r.1.Start ∧ RepSl eI64 I_ p7 c8 r.1.Col ∧ RepSl eI64 I_ p10 c11 r.1.Val ∧ Q r) := by
 refine Fun.enter func22 rfl ntmps22 rfl (.c (.c (.c (.c .n)))) fun w0 M => ?_
 refine .seq (.region (.allocA zeroValue25 rfl rfl fun b15 => ?_))
 refine .skips 1 rfl (.nilS [8, 3, 2, 1, 0] rfl rfl (.seq (.seq (.region (.skips 1 rfl ?_)))))
 have hw23 := W_ref02_Is (I := I) hd
 refine .callP call39 rfl hw23 rfl rfl fun v24 hv25 => ?_
 obtain ⟨r22, rfl, hd⟩ := hv25
 refine .not rfl rfl rfl (.nilS [17, 8, 3, 2, 1, 0] rfl rfl (.condP rfl hd (fun hb26 hd => ?_) fun hb26 hd => ?_))
 · exact .seq (.region (.build zeroValue25 underlying25 BI25 .n (by exact trivial) rfl rfl (.storeA sizeOf25 rfl rfl .z (.t (.t (.t (.t (.t .nil))))) rfl rfl (.skips 1 rfl (.nilS [9, 8] rfl rfl (.ret (pret results22 (.w isAgg25 sizeOf25 rfl .z rfl (.t rfl .n)) (.refl _) ⟨(({ Rows := 0, Cols := 0, Start := ([] : List Int), Col := ([] : List Int), Val := ([] : List Int) } : Rows), 8), _, _, _, _, _, _, rfl, (.nil _ _ _), (.nil _ _ _), (.nil _ _ _), hd⟩)))))))
 refine .skipS [8, 3, 2, 1, 0] rfl rfl (.seq (.seq (.region (.skips 1 rfl (.lt rfl rfl rfl rfl (.skips 1 rfl ?_))))))
 refine splitP hd (fun hb31 hd => ?_) fun hb31 hd => ?_
 · rw [hb31]
   exact .skips 11 rfl (.nilS [32, 8, 3, 2, 1, 0] rfl rfl (.condKT rfl rfl (.seq (.region (.build zeroValue25 underlying25 BI25 .n (by exact trivial) rfl rfl (.storeA sizeOf25 rfl rfl .z (.t (.t (.t (.t (.t .nil))))) rfl rfl (.skips 1 rfl (.nilS [9, 8] rfl rfl (.ret (pret results22 (.w isAgg25 sizeOf25 rfl .z rfl (.t rfl .n)) (.refl _) ⟨(({ Rows := 0, Cols := 0, Start := ([] : List Int), Col := ([] : List Int), Val := ([] : List Int) } : Rows), 3), _, _, _, _, _, _, rfl, (.nil _ _ _), (.nil _ _ _), (.nil _ _ _), hd⟩))))))))))
 rw [hb31]
 refine .gyes rfl rfl rfl (.move rfl rfl rfl (.gyes rfl rfl rfl (.gt rfl rfl rfl rfl (.skips 2 rfl ?_))))
 refine splitP hd (fun hb32 hd => ?_) fun hb32 hd => ?_
 · rw [hb32]
   exact .skips 7 rfl (.nilS [32, 8, 3, 2, 1, 0] rfl rfl (.condKT rfl rfl (.seq (.region (.build zeroValue25 underlying25 BI25 .n (by exact trivial) rfl rfl (.storeA sizeOf25 rfl rfl .z (.t (.t (.t (.t (.t .nil))))) rfl rfl (.skips 1 rfl (.nilS [9, 8] rfl rfl (.ret (pret results22 (.w isAgg25 sizeOf25 rfl .z rfl (.t rfl .n)) (.refl _) ⟨(({ Rows := 0, Cols := 0, Start := ([] : List Int), Col := ([] : List Int), Val := ([] : List Int) } : Rows), 3), _, _, _, _, _, _, rfl, (.nil _ _ _), (.nil _ _ _), (.nil _ _ _), hd⟩))))))))))
 rw [hb32]
 refine .gyes rfl rfl rfl (.move rfl rfl rfl (.gyes rfl rfl rfl (.lt rfl rfl rfl rfl (.skips 2 rfl ?_))))
 refine splitP hd (fun hb33 hd => ?_) fun hb33 hd => ?_
 · rw [hb33]
   exact .skips 3 rfl (.nilS [32, 8, 3, 2, 1, 0] rfl rfl (.condKT rfl rfl (.seq (.region (.build zeroValue25 underlying25 BI25 .n (by exact trivial) rfl rfl (.storeA sizeOf25 rfl rfl .z (.t (.t (.t (.t (.t .nil))))) rfl rfl (.skips 1 rfl (.nilS [9, 8] rfl rfl (.ret (pret results22 (.w isAgg25 sizeOf25 rfl .z rfl (.t rfl .n)) (.refl _) ⟨(({ Rows := 0, Cols := 0, Start := ([] : List Int), Col := ([] : List Int), Val := ([] : List Int) } : Rows), 3), _, _, _, _, _, _, rfl, (.nil _ _ _), (.nil _ _ _), (.nil _ _ _), hd⟩))))))))))
 rw [hb33]
 refine .gyes rfl rfl rfl (.move rfl rfl rfl (.gyes rfl rfl rfl (.gt rfl rfl rfl rfl (.skips 1 rfl (.nilS [32, 8, 3, 2, 1, 0] rfl rfl (.condP rfl hd (fun hb34 hd => ?_) fun hb34 hd => ?_))))))
 · exact .seq (.region (.build zeroValue25 underlying25 BI25 .n (by exact trivial) rfl rfl (.storeA sizeOf25 rfl rfl .z (.t (.t (.t (.t (.t .nil))))) rfl rfl (.skips 1 rfl (.nilS [9, 8] rfl rfl (.ret (pret results22 (.w isAgg25 sizeOf25 rfl .z rfl (.t rfl .n)) (.refl _) ⟨(({ Rows := 0, Cols := 0, Start := ([] : List Int), Col := ([] : List Int), Val := ([] : List Int) } : Rows), 3), _, _, _, _, _, _, rfl, (.nil _ _ _), (.nil _ _ _), (.nil _ _ _), hd⟩)))))))
 refine .skipS [8, 3, 2, 1, 0] rfl rfl (.seq (.seq (.region (.skips 1 rfl (.len underlying48 rfl rfl rfl rfl (.gt rfl rfl rfl rfl (.nilS [36, 8, 3, 2, 1, 0] rfl rfl (.condP rfl hd (fun hb36 hd => ?_) fun hb36 hd => ?_))))))))
 · exact .seq (.region (.build zeroValue25 underlying25 BI25 .n (by exact trivial) rfl rfl (.storeA sizeOf25 rfl rfl .z (.t (.t (.t (.t (.t .nil))))) rfl rfl (.skips 1 rfl (.nilS [9, 8] rfl rfl (.ret (pret results22 (.w isAgg25 sizeOf25 rfl .z rfl (.t rfl .n)) (.refl _) ⟨(({ Rows := 0, Cols := 0, Start := ([] : List Int), Col := ([] : List Int), Val := ([] : List Int) } : Rows), 5), _, _, _, _, _, _, rfl, (.nil _ _ _), (.nil _ _ _), (.nil _ _ _), hd⟩)))))))
 refine .skipS [8, 3, 2, 1, 0] rfl rfl (.seq (.region (.skips 1 rfl (.nilS [10, 8, 3, 2, 1, 0] rfl rfl (.seq (.seq (.region (.skips 1 rfl (.nilS [11, 10, 8, 3, 2, 1, 0] rfl rfl ?_)))))))))
 refine .block (.own0 eEdge 67 (.loop hd (fun (s : (List Edge) × Int) c w => match s with | (s657, s661) => ∃ I_ p658 c659, IH.le I I_ ∧ Ok ⟨135, [], none⟩ [(0, .int .i64 a0), (1, .int .i64 a1), (2, .int .i64 a2), (3, .slice p1 a3.length c2), (8, .pointer (some ⟨b15, 0, none⟩)), (10, .slice p658 s657.length c659), (11, .int .i64 s661)] c ∧ Sym w0 M I I_ [pto b15 (.cells #[.int .i64 0, .int .i64 0, .slice none 0 0, .slice none 0 0, .slice none 0 0] 25 (0, 0)), OwnSl eEdge 67 p658 c659 s657] w) (fun c w ho hs => ⟨I, _, _, (.refl _), ho.sub ⟨rfl, rfl, rfl, rfl, rfl, rfl, rfl, trivial⟩, hs.pick (.c (.s .z) (.c .z .n))⟩) ?_))
 rintro ⟨s657, s661⟩ next663 hd c w hst
 obtain ⟨I664, p658, c659, hl665, hok, hsym⟩ := hst
 have le666 := IH.le.trans (.refl _) hl665
 replace R3 := R3.mono hl665
 refine Cod.at hok hsym (.seq (.seq (.region (.skips 2 rfl (.len underlying48 rfl rfl rfl rfl (.lt rfl rfl rfl rfl (.nilS [41, 11, 10, 8, 3, 2, 1, 0] rfl rfl (.condP rfl hd (fun hb668 hd => ?_) fun hb668 hd => ?_))))))))
 · refine .skipS [11, 10, 8, 3, 2, 1, 0] rfl rfl (.seq (.block (.seq (.seq (.region (.skips 2 rfl ?_))))))
   obtain ⟨h709, x710, hx711, hd⟩ := hd
   obtain ⟨b712, o713, cs714, e715, hC716, hr717⟩ := R3.2 _ _ hx711
   cases hr717
   refine .ixa underlying48 sizeOf47 rfl e715 rfl h709 (idx_lt hx711 h709) rfl rfl (.fieldAddr underlying47 rfl sizeOf3 rfl (o := o713 + s661.toNat * 3) rfl rfl rfl (.ld1 (j := 0) isAgg3 hC716 rfl rfl rfl rfl rfl (.lt rfl rfl rfl rfl (.skips 1 rfl ?_))))
   refine splitP hd (fun hb718 hd => ?_) fun hb718 hd => ?_
   · rw [hb718]
     refine .skips 25 rfl (.nilS [75, 11, 10, 8, 3, 2, 1, 0] rfl rfl (.condKT rfl rfl (.seq (.region (.build zeroValue25 underlying25 BI25 .n (by exact trivial) rfl rfl (.storeA sizeOf25 rfl rfl .z (.t (.t (.t (.t (.t .nil))))) rfl rfl (.skips 1 rfl (.nilS [9, 8] rfl rfl (.drop (.s .z) ?_)))))))))
     exact .ret (pret results22 (.w isAgg25 sizeOf25 rfl .z rfl (.t rfl .n)) le666 ⟨(({ Rows := 0, Cols := 0, Start := ([] : List Int), Col := ([] : List Int), Val := ([] : List Int) } : Rows), 3), _, _, _, _, _, _, rfl, (.nil _ _ _), (.nil _ _ _), (.nil _ _ _), hd⟩)
   rw [hb718]
   refine .gyes rfl rfl rfl (.move rfl rfl rfl (.gyes rfl rfl rfl (.move rfl rfl rfl ?_)))
   obtain ⟨h719, x720, hx721, hd⟩ := hd
   obtain ⟨b722, o723, cs724, e725, hC726, hr727⟩ := R3.2 _ _ hx721
   cases hr727
   refine .gyes rfl rfl rfl (.ixa underlying48 sizeOf47 rfl e725 rfl h719 (idx_lt hx721 h719) rfl rfl (.gyes rfl rfl rfl (.fieldAddr underlying47 rfl sizeOf3 rfl (o := o723 + s661.toNat * 3) rfl rfl rfl (.gyes rfl rfl rfl (.ld1 (j := 0) isAgg3 hC726 rfl rfl rfl rfl rfl (.gyes rfl rfl rfl (.move rfl rfl rfl (.gyes rfl rfl rfl (.ge rfl rfl rfl rfl (.skips 2 rfl ?_))))))))))
   refine splitP hd (fun hb728 hd => ?_) fun hb728 hd => ?_
   · rw [hb728]
     refine .skips 16 rfl (.nilS [75, 11, 10, 8, 3, 2, 1, 0] rfl rfl (.condKT rfl rfl (.seq (.region (.build zeroValue25 underlying25 BI25 .n (by exact trivial) rfl rfl (.storeA sizeOf25 rfl rfl .z (.t (.t (.t (.t (.t .nil))))) rfl rfl (.skips 1 rfl (.nilS [9, 8] rfl rfl (.drop (.s .z) ?_)))))))))
     exact .ret (pret results22 (.w isAgg25 sizeOf25 rfl .z rfl (.t rfl .n)) le666 ⟨(({ Rows := 0, Cols := 0, Start := ([] : List Int), Col := ([] : List Int), Val := ([] : List Int) } : Rows), 3), _, _, _, _, _, _, rfl, (.nil _ _ _), (.nil _ _ _), (.nil _ _ _), hd⟩)
   rw [hb728]
   refine .gyes rfl rfl rfl (.move rfl rfl rfl (.gyes rfl rfl rfl (.move rfl rfl rfl ?_)))
   obtain ⟨h729, x730, hx731, hd⟩ := hd
   obtain ⟨b732, o733, cs734, e735, hC736, hr737⟩ := R3.2 _ _ hx731
   cases hr737
   refine .gyes rfl rfl rfl (.ixa underlying48 sizeOf47 rfl e735 rfl h729 (idx_lt hx731 h729) rfl rfl (.gyes rfl rfl rfl (.fieldAddr underlying47 rfl sizeOf3 rfl (o := o733 + s661.toNat * 3 + 1) rfl rfl rfl (.gyes rfl rfl rfl (.ld1 (j := 1) isAgg3 hC736 rfl rfl rfl rfl rfl (.gyes rfl rfl rfl (.lt rfl rfl rfl rfl (.skips 2 rfl ?_))))))))
   refine splitP hd (fun hb738 hd => ?_) fun hb738 hd => ?_
   · rw [hb738]
     refine .skips 8 rfl (.nilS [75, 11, 10, 8, 3, 2, 1, 0] rfl rfl (.condKT rfl rfl (.seq (.region (.build zeroValue25 underlying25 BI25 .n (by exact trivial) rfl rfl (.storeA sizeOf25 rfl rfl .z (.t (.t (.t (.t (.t .nil))))) rfl rfl (.skips 1 rfl (.nilS [9, 8] rfl rfl (.drop (.s .z) ?_)))))))))
     exact .ret (pret results22 (.w isAgg25 sizeOf25 rfl .z rfl (.t rfl .n)) le666 ⟨(({ Rows := 0, Cols := 0, Start := ([] : List Int), Col := ([] : List Int), Val := ([] : List Int) } : Rows), 3), _, _, _, _, _, _, rfl, (.nil _ _ _), (.nil _ _ _), (.nil _ _ _), hd⟩)
   rw [hb738]
   refine .gyes rfl rfl rfl (.move rfl rfl rfl (.gyes rfl rfl rfl (.move rfl rfl rfl ?_)))
   obtain ⟨h739, x740, hx741, hd⟩ := hd
   obtain ⟨b742, o743, cs744, e745, hC746, hr747⟩ := R3.2 _ _ hx741
   cases hr747
   refine .gyes rfl rfl rfl (.ixa underlying48 sizeOf47 rfl e745 rfl h739 (idx_lt hx741 h739) rfl rfl (.gyes rfl rfl rfl (.fieldAddr underlying47 rfl sizeOf3 rfl (o := o743 + s661.toNat * 3 + 1) rfl rfl rfl (.gyes rfl rfl rfl (.ld1 (j := 1) isAgg3 hC746 rfl rfl rfl rfl rfl (.gyes rfl rfl rfl (.move rfl rfl rfl (.gyes rfl rfl rfl (.ge rfl rfl rfl rfl (.skips 1 rfl (.nilS [75, 11, 10, 8, 3, 2, 1, 0] rfl rfl (.condP rfl hd (fun hb748 hd => ?_) fun hb748 hd => ?_))))))))))))
   · exact .seq (.region (.build zeroValue25 underlying25 BI25 .n (by exact trivial) rfl rfl (.storeA sizeOf25 rfl rfl .z (.t (.t (.t (.t (.t .nil))))) rfl rfl (.skips 1 rfl (.nilS [9, 8] rfl rfl (.drop (.s .z) (.ret (pret results22 (.w isAgg25 sizeOf25 rfl .z rfl (.t rfl .n)) le666 ⟨(({ Rows := 0, Cols := 0, Start := ([] : List Int), Col := ([] : List Int), Val := ([] : List Int) } : Rows), 3), _, _, _, _, _, _, rfl, (.nil _ _ _), (.nil _ _ _), (.nil _ _ _), hd⟩))))))))
   refine .skipS [11, 10, 8, 3, 2, 1, 0] rfl rfl (.ownF (.s .z) fun hne749 => ?_)
   refine .draw [some 0, some 1, some 2, some 3, some 4, some 5, some 6, some 7, some 8, some 9, some 10, some 11, some 12, some 13, some 14, some 15, some 16, some 17, some 18] 19 MX (by kernel_rfl) (by kernel_rfl) (by kernel_rfl) (by kernel_rfl) (by kernel_rfl) (by kernel_rfl) (by kernel_rfl) (fun ex => (pto b15 (.cells #[.int .i64 0, .int .i64 0, .slice none 0 0, .slice none 0 0, .slice none 0 0] 25 (0, 0))) :: (OwnSl eEdge 67 p658 c659 s657) :: ex) (fun _ _ => (.s (.s .z))) rfl (.fs [[], [], []] rfl (by kernel_rfl) ?_)
   obtain ⟨h750, x751, hx752, hd⟩ := hd
   obtain ⟨b753, o754, cs755, e756, hC757, hr758⟩ := R3.2 _ _ hx752
   cases hr758
   refine .f [1, 2] rfl (by kernel_rfl) rfl rfl (fun ex => .ixa underlying48 sizeOf47 rfl e756 rfl h750 (idx_lt hx752 h750) rfl rfl .mk) (.f [3] rfl (by kernel_rfl) rfl rfl (fun ex => .fieldAddr underlying47 rfl sizeOf3 rfl (o := o754 + s661.toNat * 3) rfl rfl rfl .mk) (.f [4] rfl (by kernel_rfl) rfl rfl (fun ex => .ld1 (j := 0) isAgg3 hC757 rfl rfl rfl rfl rfl .mk) (.fs [[], []] rfl (by kernel_rfl) ?_)))
   obtain ⟨h759, x760, hx761, hd⟩ := hd
   obtain ⟨b762, o763, cs764, e765, hC766, hr767⟩ := R3.2 _ _ hx761
   cases hr767
   refine .f [6, 7] rfl (by kernel_rfl) rfl rfl (fun ex => .ixa underlying48 sizeOf47 rfl e765 rfl h759 (idx_lt hx761 h759) rfl rfl .mk) (.f [8] rfl (by kernel_rfl) rfl rfl (fun ex => .fieldAddr underlying47 rfl sizeOf3 rfl (o := o763 + s661.toNat * 3 + 1) rfl rfl rfl .mk) (.f [9] rfl (by kernel_rfl) rfl rfl (fun ex => .ld1 (j := 1) isAgg3 hC766 rfl rfl rfl rfl rfl .mk) (.fs [[], []] rfl (by kernel_rfl) ?_)))
   obtain ⟨h768, x769, hx770, hd⟩ := hd
   obtain ⟨b771, o772, cs773, e774, hC775, hr776⟩ := R3.2 _ _ hx770
   cases hr776
   refine .f [11, 12] rfl (by kernel_rfl) rfl rfl (fun ex => .ixa underlying48 sizeOf47 rfl e774 rfl h768 (idx_lt hx770 h768) rfl rfl .mk) (.f [13] rfl (by kernel_rfl) rfl rfl (fun ex => .fieldAddr underlying47 rfl sizeOf2 rfl (o := o772 + s661.toNat * 3 + 2) rfl rfl rfl .mk) (.f [14] rfl (by kernel_rfl) rfl rfl (fun ex => .ld1 (j := 2) isAgg2 hC775 rfl rfl rfl rfl rfl .mk) (.f [5, 10, 15] rfl (by kernel_rfl) rfl rfl (fun ex => .build zeroValue67 underlying67 BI67 (.c rfl rfl rfl (.t .nil) (.c rfl rfl rfl (.s (.t .nil)) (.c rfl rfl rfl (.s (.s (.t .nil))) .n))) (by exact ⟨⟨_, _, rfl, rfl, rfl⟩, ⟨⟨_, _, rfl, rfl, rfl⟩, ⟨⟨_, _, rfl, rfl, rfl⟩, trivial⟩⟩⟩) rfl rfl .mk) (.w [0] [[], [16], [15, 16], [14, 15, 16], [13, 14, 15, 16], [13, 14, 15, 16], [16], [10, 16], [9, 10, 16], [8, 9, 10, 16], [8, 9, 10, 16], [16], [5, 16], [4, 5, 16], [3, 4, 5, 16], [3, 4, 5, 16]] [16] rfl (by kernel_rfl) (by kernel_rfl) (by kernel_rfl) ((dropE_kept rfl rfl)) (.inr (dropE_kept rfl rfl)) fun ex => ?_))))
   refine .buildSlice 1 underlying65 sizeOf67 zeroValue67 rfl rfl (.c rfl rfl rfl .n) rfl rfl fun b777 => ?_
   refine .some (fun ex => (pto b777 (.cells #[.int .i64 x751.Row, .int .i64 x760.Col, .int .i64 x769.Val] 67 (0, 0))) :: (pto b15 (.cells #[.int .i64 0, .int .i64 0, .slice none 0 0, .slice none 0 0, .slice none 0 0] 25 (0, 0))) :: (OwnSl eEdge 67 p658 c659 s657) :: ex) rfl (fun _ _ => (.s (.s (.s .z)))) rfl (.ccs [[]] rfl rfl (by kernel_rfl) trivial) (.w [] [[]] [0, 17] rfl (by kernel_rfl) (by kernel_rfl) (by kernel_rfl) ((dropE_kept rfl rfl)) (.inr (dropE_kept rfl rfl)) fun ex => ?_)
   obtain ⟨hl779, hd⟩ := hd
   refine .append (ys := [({ From := x751.Row, To := x760.Col, W := x769.Val } : Edge)]) 24 (.s (.s .z)) underlying65 underlying65 IN67 rfl rfl rfl rfl rfl rfl rfl rfl rfl (.box .z (.one rfl) rfl) hl779 rfl rfl fun p780 c781 => ?_
   refine .some (fun ex => (OwnSl eEdge 67 p780 c781 (s657 ++ ([({ From := x751.Row, To := x760.Col, W := x769.Val } : Edge)]))) :: (pto b777 (.cells #[.int .i64 x751.Row, .int .i64 x760.Col, .int .i64 x769.Val] 67 (0, 0))) :: (pto b15 (.cells #[.int .i64 0, .int .i64 0, .slice none 0 0, .slice none 0 0, .slice none 0 0] 25 (0, 0))) :: ex) rfl (fun _ _ => (.s (.s (.s .z)))) rfl trivial (.e 19 (by kernel_rfl) (by kernel_rfl) (by kernel_rfl) (.sub (E' := [(0, _), (1, _), (2, _), (3, _), (8, _), (11, _), (77, _), (78, _), (79, _), (80, _), (81, _), (82, _), (83, _), (84, _), (85, _), (86, _), (87, _), (88, _), (89, _), (90, _), (91, _), (92, _), (93, _), (94, _), (95, _)]) ⟨rfl, rfl, rfl, rfl, rfl, rfl, rfl, rfl, rfl, rfl, rfl, rfl, rfl, rfl, rfl, rfl, rfl, rfl, rfl, rfl, rfl, rfl, rfl, rfl, rfl, trivial⟩ (.skips 1 rfl (.nilS [10, 11, 8, 3, 2, 1, 0] rfl rfl (.drop (.s .z) (.region (.skips 1 rfl (.add rfl rfl rfl rfl (.sub (E' := [(0, _), (1, _), (2, _), (3, _), (8, _), (10, _), (42, _), (43, _)]) ⟨rfl, rfl, rfl, rfl, rfl, rfl, rfl, rfl, trivial⟩ ?_)))))))))
   exact .skips 1 rfl (.nil' fun c w ho hs => ⟨((s657 ++ ([({ From := x751.Row, To := x760.Col, W := x769.Val } : Edge)])), w64 (s661 + 1)), hd, I664, _, _, le666, ho.sub ⟨rfl, rfl, rfl, rfl, rfl, rfl, rfl, trivial⟩, hs.pick (.c (.s .z) (.c .z .n))⟩)
 refine .exitS [10, 8, 2, 1, 0] rfl rfl (.seq (.region (.skips 2 rfl (.pub (.s .z) fun I798 hl799 R800 => ?_))))
 have le801 := IH.le.trans le666 hl799
 have hw811 := W_ref05_Combine (I := I798) R800 hd
 refine .call call40 rfl hw811 rfl rfl fun v806 I803 hl804 hv805 => ?_
 obtain ⟨r802, p808, c809, rfl, R810, hd⟩ := hv805
 have le812 := IH.le.trans le801 hl804
 replace R800 := R800.mono hl804
 refine .skips 1 rfl (.extract rfl rfl rfl rfl (.extract rfl rfl rfl rfl (.sub (E' := [(0, _), (1, _), (2, _), (8, _), (97, _), (98, _), (99, _), (96, _), (100, _), (101, _)]) ⟨rfl, rfl, rfl, rfl, rfl, rfl, rfl, rfl, rfl, rfl, trivial⟩ (.skips 2 rfl (.nilS [12, 10, 8, 2, 1] rfl rfl (.seq (.seq (.region (.skips 1 rfl ?_)))))))))
 refine .ne rfl rfl rfl rfl (.nilS [103, 12, 10, 8, 2, 1] rfl rfl (.condP rfl hd (fun hb814 hd => ?_) fun hb814 hd => ?_))
 · exact .seq (.region (.build zeroValue25 underlying25 BI25 .n (by exact trivial) rfl rfl (.skips 1 rfl (.storeA sizeOf25 rfl rfl .z (.t (.t (.t (.t (.t .nil))))) rfl rfl (.skips 1 rfl (.nilS [9, 8] rfl rfl (.ret (pret results22 (.w isAgg25 sizeOf25 rfl .z rfl (.t rfl .n)) le812 ⟨(({ Rows := 0, Cols := 0, Start := ([] : List Int), Col := ([] : List Int), Val := ([] : List Int) } : Rows), r802.2), _, _, _, _, _, _, rfl, (.nil _ _ _), (.nil _ _ _), (.nil _ _ _), hd⟩))))))))
 refine .skipS [10, 8, 2, 1] rfl rfl (.seq (.region (.skips 1 rfl (.nilS [13, 10, 8, 2, 1] rfl rfl (.seq (.seq (.region (.skips 1 rfl (.nilS [14, 13, 10, 8, 2, 1] rfl rfl ?_)))))))))
 refine .block (.own0 eTriple 47 (.loop hd (fun (s : (List Triple) × Int) c w => match s with | (s902, s906) => ∃ I_ p903 c904, IH.le I803 I_ ∧ Ok ⟨135, [], none⟩ [(1, .int .i64 a1), (2, .int .i64 a2), (8, .pointer (some ⟨b15, 0, none⟩)), (10, .slice p808 r802.1.length c809), (13, .slice p903 s902.length c904), (14, .int .i64 s906)] c ∧ Sym w0 M I I_ [pto b15 (.cells #[.int .i64 0, .int .i64 0, .slice none 0 0, .slice none 0 0, .slice none 0 0] 25 (0, 0)), OwnSl eTriple 47 p903 c904 s902] w) (fun c w ho hs => ⟨I803, _, _, (.refl _), ho.sub ⟨rfl, rfl, rfl, rfl, rfl, rfl, trivial⟩, hs.pick (.c (.s .z) (.c .z .n))⟩) ?_))
 rintro ⟨s902, s906⟩ next908 hd c w hst
 obtain ⟨I909, p903, c904, hl910, hok, hsym⟩ := hst
 have le911 := IH.le.trans le812 hl910
 have le912 := IH.le.trans (.refl _) hl910
 replace R810 := R810.mono hl910
 refine Cod.at hok hsym (.seq (.seq (.region (.skips 2 rfl (.len underlying65 rfl rfl rfl rfl (.lt rfl rfl rfl rfl (.nilS [109, 14, 13, 10, 8, 2, 1] rfl rfl (.condP rfl hd (fun hb914 hd => ?_) fun hb914 hd => ?_))))))))
 · refine .skipS [14, 13, 10, 8, 2, 1] rfl rfl (.seq (.block (.ownF (.s .z) fun hne915 => ?_)))
   refine .draw [some 0, some 1, some 2, some 3, some 4, some 5, some 6, some 7, some 8, some 9, some 10, some 11, some 12, some 13, some 14, some 15, some 16, some 17, some 18] 19 MX (by kernel_rfl) (by kernel_rfl) (by kernel_rfl) (by kernel_rfl) (by kernel_rfl) (by kernel_rfl) (by kernel_rfl) (fun ex => (pto b15 (.cells #[.int .i64 0, .int .i64 0, .slice none 0 0, .slice none 0 0, .slice none 0 0] 25 (0, 0))) :: (OwnSl eTriple 47 p903 c904 s902) :: ex) (fun _ _ => (.s (.s .z))) rfl (.fs [[], [], []] rfl (by kernel_rfl) ?_)
   obtain ⟨h916, x917, hx918, hd⟩ := hd
   obtain ⟨b919, o920, cs921, e922, hC923, hr924⟩ := R810.2 _ _ hx918
   cases hr924
   refine .f [1, 2] rfl (by kernel_rfl) rfl rfl (fun ex => .ixa underlying65 sizeOf67 rfl e922 rfl h916 (idx_lt hx918 h916) rfl rfl .mk) (.f [3] rfl (by kernel_rfl) rfl rfl (fun ex => .fieldAddr underlying67 rfl sizeOf3 rfl (o := o920 + s906.toNat * 3) rfl rfl rfl .mk) (.f [4] rfl (by kernel_rfl) rfl rfl (fun ex => .ld1 (j := 0) isAgg3 hC923 rfl rfl rfl rfl rfl .mk) (.fs [[], []] rfl (by kernel_rfl) ?_)))
   obtain ⟨h925, x926, hx927, hd⟩ := hd
   obtain ⟨b928, o929, cs930, e931, hC932, hr933⟩ := R810.2 _ _ hx927
   cases hr933
   refine .f [6, 7] rfl (by kernel_rfl) rfl rfl (fun ex => .ixa underlying65 sizeOf67 rfl e931 rfl h925 (idx_lt hx927 h925) rfl rfl .mk) (.f [8] rfl (by kernel_rfl) rfl rfl (fun ex => .fieldAddr underlying67 rfl sizeOf3 rfl (o := o929 + s906.toNat * 3 + 1) rfl rfl rfl .mk) (.f [9] rfl (by kernel_rfl) rfl rfl (fun ex => .ld1 (j := 1) isAgg3 hC932 rfl rfl rfl rfl rfl .mk) (.fs [[], []] rfl (by kernel_rfl) ?_)))
   obtain ⟨h934, x935, hx936, hd⟩ := hd
   obtain ⟨b937, o938, cs939, e940, hC941, hr942⟩ := R810.2 _ _ hx936
   cases hr942
   refine .f [11, 12] rfl (by kernel_rfl) rfl rfl (fun ex => .ixa underlying65 sizeOf67 rfl e940 rfl h934 (idx_lt hx936 h934) rfl rfl .mk) (.f [13] rfl (by kernel_rfl) rfl rfl (fun ex => .fieldAddr underlying67 rfl sizeOf2 rfl (o := o938 + s906.toNat * 3 + 2) rfl rfl rfl .mk) (.f [14] rfl (by kernel_rfl) rfl rfl (fun ex => .ld1 (j := 2) isAgg2 hC941 rfl rfl rfl rfl rfl .mk) (.f [5, 10, 15] rfl (by kernel_rfl) rfl rfl (fun ex => .build zeroValue47 underlying47 BI47 (.c rfl rfl rfl (.t .nil) (.c rfl rfl rfl (.s (.t .nil)) (.c rfl rfl rfl (.s (.s (.t .nil))) .n))) (by exact ⟨⟨_, _, rfl, rfl, rfl⟩, ⟨⟨_, _, rfl, rfl, rfl⟩, ⟨⟨_, _, rfl, rfl, rfl⟩, trivial⟩⟩⟩) rfl rfl .mk) (.w [0] [[], [16], [15, 16], [14, 15, 16], [13, 14, 15, 16], [13, 14, 15, 16], [16], [10, 16], [9, 10, 16], [8, 9, 10, 16], [8, 9, 10, 16], [16], [5, 16], [4, 5, 16], [3, 4, 5, 16], [3, 4, 5, 16]] [16] rfl (by kernel_rfl) (by kernel_rfl) (by kernel_rfl) ((dropE_kept rfl rfl)) (.inr (dropE_kept rfl rfl)) fun ex => ?_))))
   refine .buildSlice 1 underlying48 sizeOf47 zeroValue47 rfl rfl (.c rfl rfl rfl .n) rfl rfl fun b943 => ?_
   refine .some (fun ex => (pto b943 (.cells #[.int .i64 x917.From, .int .i64 x926.To, .int .i64 x935.W] 47 (0, 0))) :: (pto b15 (.cells #[.int .i64 0, .int .i64 0, .slice none 0 0, .slice none 0 0, .slice none 0 0] 25 (0, 0))) :: (OwnSl eTriple 47 p903 c904 s902) :: ex) rfl (fun _ _ => (.s (.s (.s .z)))) rfl (.ccs [[]] rfl rfl (by kernel_rfl) trivial) (.w [] [[]] [0, 17] rfl (by kernel_rfl) (by kernel_rfl) (by kernel_rfl) ((dropE_kept rfl rfl)) (.inr (dropE_kept rfl rfl)) fun ex => ?_)
   obtain ⟨hl945, hd⟩ := hd
   refine .append (ys := [({ Row := x917.From, Col := x926.To, Val := x935.W } : Triple)]) 24 (.s (.s .z)) underlying48 underlying48 IN47 rfl rfl rfl rfl rfl rfl rfl rfl rfl (.box .z (.one rfl) rfl) hl945 rfl rfl fun p946 c947 => ?_
   refine .some (fun ex => (OwnSl eTriple 47 p946 c947 (s902 ++ ([({ Row := x917.From, Col := x926.To, Val := x935.W } : Triple)]))) :: (pto b943 (.cells #[.int .i64 x917.From, .int .i64 x926.To, .int .i64 x935.W] 47 (0, 0))) :: (pto b15 (.cells #[.int .i64 0, .int .i64 0, .slice none 0 0, .slice none 0 0, .slice none 0 0] 25 (0, 0))) :: ex) rfl (fun _ _ => (.s (.s (.s .z)))) rfl trivial (.e 19 (by kernel_rfl) (by kernel_rfl) (by kernel_rfl) (.sub (E' := [(1, _), (2, _), (8, _), (10, _), (14, _), (112, _), (113, _), (114, _), (115, _), (116, _), (117, _), (118, _), (119, _), (120, _), (121, _), (122, _), (123, _), (124, _), (125, _), (126, _), (127, _), (128, _), (129, _), (130, _)]) ⟨rfl, rfl, rfl, rfl, rfl, rfl, rfl, rfl, rfl, rfl, rfl, rfl, rfl, rfl, rfl, rfl, rfl, rfl, rfl, rfl, rfl, rfl, rfl, rfl, trivial⟩ (.skips 1 rfl (.nilS [13, 14, 10, 8, 2, 1] rfl rfl (.drop (.s .z) (.region (.skips 1 rfl (.add rfl rfl rfl rfl (.sub (E' := [(1, _), (2, _), (8, _), (10, _), (13, _), (110, _), (111, _)]) ⟨rfl, rfl, rfl, rfl, rfl, rfl, rfl, trivial⟩ ?_)))))))))
   exact .skips 1 rfl (.nil' fun c w ho hs => ⟨((s902 ++ ([({ Row := x917.From, Col := x926.To, Val := x935.W } : Triple)])), w64 (s906 + 1)), hd, I909, _, _, le912, ho.sub ⟨rfl, rfl, rfl, rfl, rfl, rfl, trivial⟩, hs.pick (.c (.s .z) (.c .z .n))⟩)
 refine .exitS [13, 8, 2, 1] rfl rfl (.seq (.region (.skips 3 rfl (.pub (.s .z) fun I949 hl950 R951 => ?_))))
 have le952 := IH.le.trans le911 hl950
 have le953 := IH.le.trans le912 hl950
 have hw969 := W_ref07_built (I := I949) R951 hd
 refine .call call41 rfl hw969 rfl rfl fun v958 I955 hl956 hv957 => ?_
 obtain ⟨r954, p960, c961, p963, c964, p966, c967, rfl, R962, R965, R968, hd⟩ := hv957
 have le970 := IH.le.trans le952 hl956
 have le971 := IH.le.trans le953 hl956
 replace R951 := R951.mono hl956
 exact .storeA sizeOf25 rfl rfl .z (.t (.t (.t (.t (.t .nil))))) rfl rfl (.skips 1 rfl (.nilS [9, 8] rfl rfl (.ret (pret results22 (.w isAgg25 sizeOf25 rfl .z rfl (.t rfl .n)) le970 ⟨(r954, 0), _, _, _, _, _, _, rfl, R962, R965, R968, hd⟩))))

theorem W_slices_Equal_int_int {I : IH} {a0 : List Int} {a1 : List Int} {p1 : Option Addr} {c2 : Nat} {p4 : Option Addr} {c5 : Nat} {Q : Bool → Prop} (R3 : RepSl eI64 I p1 c2 a0) (R6 : RepSl eI64 I p4 c5 a1) (hd : slices_Equal_int_int a0 a1 Q) :
    PFun Tryz.prog 42 [.slice p1 a0.length c2, .slice p4 a1.length c5] I (fun I_ v => ∃ r, v = .bool r ∧ Q r) := by
 refine Fun.enter func42 rfl ntmps42 rfl (.c (.c .n)) fun w0 M => ?_
 refine .seq (.region (.skips 1 rfl (.nilS [1, 0] rfl rfl (.seq (.seq (.region (.skips 1 rfl (.len underlying22 rfl rfl rfl rfl (.skips 1 rfl ?_)))))))))
 refine .len underlying22 rfl rfl rfl rfl (.ne rfl rfl rfl rfl (.nilS [10, 1, 0] rfl rfl (.condP rfl hd (fun hb8 hd => ?_) fun hb8 hd => ?_)))
 · exact .seq (.region (.skips 1 rfl (.nilS [4] rfl rfl (.ret (pret results42 (.t rfl .n) (.refl _) ⟨false, rfl, hd⟩)))))
 refine .skipS [1, 0] rfl rfl (.seq (.seq (.region (.skips 1 rfl (.len underlying22 rfl rfl rfl rfl (.skips 1 rfl (.nilS [13, 12, 1, 0] rfl rfl (.block (.loop hd (fun (s54 : Int) c w => ∃ I_, IH.le I I_ ∧ Ok ⟨26, [], none⟩ [(0, .slice p1 a0.length c2), (1, .slice p4 a1.length c5), (12, .int .i64 (a0.length : Int)), (13, .int .i64 s54)] c ∧ Sym w0 M I I_ [] w) (fun c w ho hs => ⟨I, (.refl _), ho.sub ⟨rfl, rfl, rfl, rfl, trivial⟩, hs.pick .n⟩) ?_)))))))))
 rintro s54 next55 hd c w hst
 obtain ⟨I56, hl57, hok, hsym⟩ := hst
 have le58 := IH.le.trans (.refl _) hl57
 replace R3 := R3.mono hl57
 replace R6 := R6.mono hl57
 refine Cod.at hok hsym (.seq (.region (.lt rfl rfl rfl rfl (.nilS [14, 13, 12, 1, 0] rfl rfl (.seq (.condP rfl hd (fun hb60 hd => ?_) fun hb60 hd => ?_))))))
 · refine .skipS [13, 12, 1, 0] rfl rfl (.seq (.block (.seq (.region (.skips 2 rfl (.nilS [5, 13, 12, 1, 0] rfl rfl (.seq (.draw [some 0, some 1, some 2, some 3, some 4, some 5, some 6, some 7, some 8] 9 MX (by kernel_rfl) (by kernel_rfl) (by kernel_rfl) (by kernel_rfl) (by kernel_rfl) (by kernel_rfl) (by kernel_rfl) (fun ex => ex) (fun _ _ => .z) rfl (.fs [[], []] rfl (by kernel_rfl) ?_)))))))))
   obtain ⟨h61, x62, hx63, hd⟩ := hd
   obtain ⟨b64, o65, cs66, e67, hC68, hr69⟩ := R3.2 _ _ hx63
   cases hr69
   refine .f [0, 1] rfl (by kernel_rfl) rfl rfl (fun ex => .ixa underlying22 sizeOf3 rfl e67 rfl h61 (idx_lt hx63 h61) rfl rfl .mk) (.f [2] rfl (by kernel_rfl) rfl rfl (fun ex => .ld1 (j := 0) isAgg3 hC68 rfl rfl rfl rfl rfl .mk) (.fs [[], []] rfl (by kernel_rfl) ?_))
   obtain ⟨h70, x71, hx72, hd⟩ := hd
   obtain ⟨b73, o74, cs75, e76, hC77, hr78⟩ := R6.2 _ _ hx72
   cases hr78
   refine .f [4, 5] rfl (by kernel_rfl) rfl rfl (fun ex => .ixa underlying22 sizeOf3 rfl e76 rfl h70 (idx_lt hx72 h70) rfl rfl .mk) (.f [6] rfl (by kernel_rfl) rfl rfl (fun ex => .ld1 (j := 0) isAgg3 hC77 rfl rfl rfl rfl rfl .mk) (.f [3, 7] rfl (by kernel_rfl) rfl rfl (fun ex => .ne rfl rfl rfl rfl .mk) (.e 9 (by kernel_rfl) (by kernel_rfl) (by kernel_rfl) (.nilS [24, 13, 12, 1, 0] rfl rfl (.condP rfl hd (fun hb79 hd => ?_) fun hb79 hd => ?_)))))
   · exact .seq (.region (.skips 1 rfl (.nilS [4] rfl rfl (.ret (pret results42 (.t rfl .n) le58 ⟨false, rfl, hd⟩)))))
   exact .skipS [13, 12, 1, 0] rfl rfl (.region (.add rfl rfl rfl rfl (.sub (E' := [(0, _), (1, _), (12, _), (25, _)]) ⟨rfl, rfl, rfl, rfl, trivial⟩ (.skips 1 rfl (.nil' fun c w ho hs => ⟨(w64 (s54 + 1)), hd, I56, le58, ho.sub ⟨rfl, rfl, rfl, rfl, trivial⟩, hs.pick .n⟩)))))
 exact .exitS [] rfl rfl (.seq (.region (.skips 1 rfl (.nilS [4] rfl rfl (.ret (pret results42 (.t rfl .n) le58 ⟨true, rfl, hd⟩))))))

theorem W_slices_Equal_int64_int64 {I : IH} {a0 : List Int} {a1 : List Int} {p1 : Option Addr} {c2 : Nat} {p4 : Option Addr} {c5 : Nat} {Q : Bool → Prop} (R3 : RepSl eI64 I p1 c2 a0) (R6 : RepSl eI64 I p4 c5 a1) (hd : slices_Equal_int64_int64 a0 a1 Q) :
    PFun Tryz.prog 43 [.slice p1 a0.length c2, .slice p4 a1.length c5] I (fun I_ v => ∃ r, v = .bool r ∧ Q r) := by
 refine Fun.enter func43 rfl ntmps43 rfl (.c (.c .n)) fun w0 M => ?_
 refine .seq (.region (.skips 1 rfl (.nilS [1, 0] rfl rfl (.seq (.seq (.region (.skips 1 rfl (.len underlying23 rfl rfl rfl rfl (.skips 1 rfl ?_)))))))))
 refine .len underlying23 rfl rfl rfl rfl (.ne rfl rfl rfl rfl (.nilS [10, 1, 0] rfl rfl (.condP rfl hd (fun hb8 hd => ?_) fun hb8 hd => ?_)))
 · exact .seq (.region (.skips 1 rfl (.nilS [4] rfl rfl (.ret (pret results43 (.t rfl .n) (.refl _) ⟨false, rfl, hd⟩)))))
 refine .skipS [1, 0] rfl rfl (.seq (.seq (.region (.skips 1 rfl (.len underlying23 rfl rfl rfl rfl (.skips 1 rfl (.nilS [13, 12, 1, 0] rfl rfl (.block (.loop hd (fun (s54 : Int) c w => ∃ I_, IH.le I I_ ∧ Ok ⟨26, [], none⟩ [(0, .slice p1 a0.length c2), (1, .slice p4 a1.length c5), (12, .int .i64 (a0.length : Int)), (13, .int .i64 s54)] c ∧ Sym w0 M I I_ [] w) (fun c w ho hs => ⟨I, (.refl _), ho.sub ⟨rfl, rfl, rfl, rfl, trivial⟩, hs.pick .n⟩) ?_)))))))))
 rintro s54 next55 hd c w hst
 obtain ⟨I56, hl57, hok, hsym⟩ := hst
 have le58 := IH.le.trans (.refl _) hl57
 replace R3 := R3.mono hl57
 replace R6 := R6.mono hl57
 refine Cod.at hok hsym (.seq (.region (.lt rfl rfl rfl rfl (.nilS [14, 13, 12, 1, 0] rfl rfl (.seq (.condP rfl hd (fun hb60 hd => ?_) fun hb60 hd => ?_))))))
 · refine .skipS [13, 12, 1, 0] rfl rfl (.seq (.block (.seq (.region (.skips 2 rfl (.nilS [5, 13, 12, 1, 0] rfl rfl (.seq (.draw [some 0, some 1, some 2, some 3, some 4, some 5, some 6, some 7, some 8] 9 MX (by kernel_rfl) (by kernel_rfl) (by kernel_rfl) (by kernel_rfl) (by kernel_rfl) (by kernel_rfl) (by kernel_rfl) (fun ex => ex) (fun _ _ => .z) rfl (.fs [[], []] rfl (by kernel_rfl) ?_)))))))))
   obtain ⟨h61, x62, hx63, hd⟩ := hd
   obtain ⟨b64, o65, cs66, e67, hC68, hr69⟩ := R3.2 _ _ hx63
   cases hr69
   refine .f [0, 1] rfl (by kernel_rfl) rfl rfl (fun ex => .ixa underlying23 sizeOf2 rfl e67 rfl h61 (idx_lt hx63 h61) rfl rfl .mk) (.f [2] rfl (by kernel_rfl) rfl rfl (fun ex => .ld1 (j := 0) isAgg2 hC68 rfl rfl rfl rfl rfl .mk) (.fs [[], []] rfl (by kernel_rfl) ?_))
   obtain ⟨h70, x71, hx72, hd⟩ := hd
   obtain ⟨b73, o74, cs75, e76, hC77, hr78⟩ := R6.2 _ _ hx72
   cases hr78
   refine .f [4, 5] rfl (by kernel_rfl) rfl rfl (fun ex => .ixa underlying23 sizeOf2 rfl e76 rfl h70 (idx_lt hx72 h70) rfl rfl .mk) (.f [6] rfl (by kernel_rfl) rfl rfl (fun ex => .ld1 (j := 0) isAgg2 hC77 rfl rfl rfl rfl rfl .mk) (.f [3, 7] rfl (by kernel_rfl) rfl rfl (fun ex => .ne rfl rfl rfl rfl .mk) (.e 9 (by kernel_rfl) (by kernel_rfl) (by kernel_rfl) (.nilS [24, 13, 12, 1, 0] rfl rfl (.condP rfl hd (fun hb79 hd => ?_) fun hb79 hd => ?_)))))
   · exact .seq (.region (.skips 1 rfl (.nilS [4] rfl rfl (.ret (pret results43 (.t rfl .n) le58 ⟨false, rfl, hd⟩)))))
   exact .skipS [13, 12, 1, 0] rfl rfl (.region (.add rfl rfl rfl rfl (.sub (E' := [(0, _), (1, _), (12, _), (25, _)]) ⟨rfl, rfl, rfl, rfl, trivial⟩ (.skips 1 rfl (.nil' fun c w ho hs => ⟨(w64 (s54 + 1)), hd, I56, le58, ho.sub ⟨rfl, rfl, rfl, rfl, trivial⟩, hs.pick .n⟩)))))
 exact .exitS [] rfl rfl (.seq (.region (.skips 1 rfl (.nilS [4] rfl rfl (.ret (pret results43 (.t rfl .n) le58 ⟨true, rfl, hd⟩))))))

theorem W_dcsc_Same {I : IH} {a0 : Columns} {a1 : Columns} {p1 : Option Addr} {c2 : Nat} {p4 : Option Addr} {c5 : Nat} {p7 : Option Addr} {c8 : Nat} {p10 : Option Addr} {c11 : Nat} {p13 : Option Addr} {c14 : Nat} {p16 : Option Addr} {c17 : Nat} {p19 : Option Addr} {c20 : Nat} {p22 : Option Addr} {c23 : Nat} {Q : Bool → Prop} (R3 : RepSl eI64 I p1 c2 a0.At) (R6 : RepSl eI64 I p4 c5 a0.Start) (R9 : RepSl eI64 I p7 c8 a0.Row) (R12 : RepSl eI64 I p10 c11 a0.Val) (R15 : RepSl eI64 I p13 c14 a1.At) (R18 : RepSl eI64 I p16 c17 a1.Start) (R21 : RepSl eI64 I p19 c20 a1.Row) (R24 : RepSl eI64 I p22 c23 a1.Val) (hd : dcsc_Same a0 a1 Q) :
    PFun Tryz.prog 23 [.agg #[.int .i64 a0.Rows, .int .i64 a0.Cols, .slice p1 a0.At.length c2, .slice p4 a0.Start.length c5, .slice p7 a0.Row.length c8, .slice p10 a0.Val.length c11], .agg #[.int .i64 a1.Rows, .int .i64 a1.Cols, .slice p13 a1.At.length c14, .slice p16 a1.Start.length c17, .slice p19 a1.Row.length c20, .slice p22 a1.Val.length c23]] I (fun I_ v => ∃ r, v = .bool r ∧ Q r) := by
 refine Fun.enter func23 rfl ntmps23 rfl (.c (.c .n)) fun w0 M => ?_
 refine .seq (.region (.boxA rfl rfl rfl fun b29 => ?_))
 refine .boxA rfl rfl rfl fun b31 => ?_
 refine .skips 1 rfl (.nilS [3, 2] rfl rfl (.seq (.region (.fieldAddr underlying27 rfl sizeOf3 rfl (o := 0) rfl rfl rfl (.load1 isAgg3 rfl (.s .z) rfl rfl rfl (.fieldAddr underlying27 rfl sizeOf3 rfl (o := 0) rfl rfl rfl (.load1 isAgg3 rfl .z rfl rfl rfl (.eq rfl rfl rfl rfl (.skips 1 rfl ?_)))))))))
 refine splitP hd (fun hb33 hd => ?_) fun hb33 hd => ?_
 · rw [hb33]
   refine .gyes rfl rfl rfl (.fieldAddr underlying27 rfl sizeOf3 rfl (o := 1) rfl rfl rfl (.gyes rfl rfl rfl (.load1 isAgg3 rfl (.s .z) rfl rfl rfl (.gyes rfl rfl rfl (.fieldAddr underlying27 rfl sizeOf3 rfl (o := 1) rfl rfl rfl (.gyes rfl rfl rfl (.load1 isAgg3 rfl .z rfl rfl rfl (.gyes rfl rfl rfl (.eq rfl rfl rfl rfl (.skips 2 rfl ?_))))))))))
   refine splitP hd (fun hb34 hd => ?_) fun hb34 hd => ?_
   · rw [hb34]
     refine .gyes rfl rfl rfl (.fieldAddr underlying27 rfl sizeOf22 rfl (o := 2) rfl rfl rfl (.gyes rfl rfl rfl (.load1 isAgg22 rfl (.s .z) rfl rfl rfl (.gyes rfl rfl rfl (.fieldAddr underlying27 rfl sizeOf22 rfl (o := 2) rfl rfl rfl (.gyes rfl rfl rfl (.load1 isAgg22 rfl .z rfl rfl rfl ?_)))))))
     have hw36 := W_slices_Equal_int_int (I := I) R3 R15 hd
     refine .gyes rfl rfl rfl (.callP call42 rfl hw36 rfl rfl fun v37 hv38 => ?_)
     obtain ⟨r35, rfl, hd⟩ := hv38
     refine .skips 2 rfl ?_
     refine splitP hd (fun hb39 hd => ?_) fun hb39 hd => ?_
     · rw [hb39]
       refine .gyes rfl rfl rfl (.fieldAddr underlying27 rfl sizeOf22 rfl (o := 3) rfl rfl rfl (.gyes rfl rfl rfl (.load1 isAgg22 rfl (.s .z) rfl rfl rfl (.gyes rfl rfl rfl (.fieldAddr underlying27 rfl sizeOf22 rfl (o := 3) rfl rfl rfl (.gyes rfl rfl rfl (.load1 isAgg22 rfl .z rfl rfl rfl ?_)))))))
       have hw41 := W_slices_Equal_int_int (I := I) R6 R18 hd
       refine .gyes rfl rfl rfl (.callP call42 rfl hw41 rfl rfl fun v42 hv43 => ?_)
       obtain ⟨r40, rfl, hd⟩ := hv43
       refine .skips 2 rfl ?_
       refine splitP hd (fun hb44 hd => ?_) fun hb44 hd => ?_
       · rw [hb44]
         refine .gyes rfl rfl rfl (.fieldAddr underlying27 rfl sizeOf22 rfl (o := 4) rfl rfl rfl (.gyes rfl rfl rfl (.load1 isAgg22 rfl (.s .z) rfl rfl rfl (.gyes rfl rfl rfl (.fieldAddr underlying27 rfl sizeOf22 rfl (o := 4) rfl rfl rfl (.gyes rfl rfl rfl (.load1 isAgg22 rfl .z rfl rfl rfl ?_)))))))
         have hw46 := W_slices_Equal_int_int (I := I) R9 R21 hd
         refine .gyes rfl rfl rfl (.callP call42 rfl hw46 rfl rfl fun v47 hv48 => ?_)
         obtain ⟨r45, rfl, hd⟩ := hv48
         refine .skips 2 rfl ?_
         refine splitP hd (fun hb49 hd => ?_) fun hb49 hd => ?_
         · rw [hb49]
           refine .gyes rfl rfl rfl (.fieldAddr underlying27 rfl sizeOf23 rfl (o := 5) rfl rfl rfl (.gyes rfl rfl rfl (.load1 isAgg23 rfl (.s .z) rfl rfl rfl (.gyes rfl rfl rfl (.fieldAddr underlying27 rfl sizeOf23 rfl (o := 5) rfl rfl rfl (.gyes rfl rfl rfl (.load1 isAgg23 rfl .z rfl rfl rfl ?_)))))))
           have hw51 := W_slices_Equal_int64_int64 (I := I) R12 R24 hd
           refine .gyes rfl rfl rfl (.callP call43 rfl hw51 rfl rfl fun v52 hv53 => ?_)
           obtain ⟨r50, rfl, hd⟩ := hv53
           exact .skips 2 rfl (.nilS [4] rfl rfl (.drop .z (.drop .z (.ret (pret results23 (.t rfl .n) (.refl _) ⟨r50, rfl, hd⟩)))))
         rw [hb49]
         exact .skips 7 rfl (.nilS [4] rfl rfl (.drop .z (.drop .z (.ret (pret results23 (.t rfl .n) (.refl _) ⟨false, rfl, hd⟩)))))
       rw [hb44]
       exact .skips 14 rfl (.nilS [4] rfl rfl (.drop .z (.drop .z (.ret (pret results23 (.t rfl .n) (.refl _) ⟨false, rfl, hd⟩)))))
     rw [hb39]
     exact .skips 21 rfl (.nilS [4] rfl rfl (.drop .z (.drop .z (.ret (pret results23 (.t rfl .n) (.refl _) ⟨false, rfl, hd⟩)))))
   rw [hb34]
   exact .skips 28 rfl (.nilS [4] rfl rfl (.drop .z (.drop .z (.ret (pret results23 (.t rfl .n) (.refl _) ⟨false, rfl, hd⟩)))))
 rw [hb33]
 exact .skips 35 rfl (.nilS [4] rfl rfl (.drop .z (.drop .z (.ret (pret results23 (.t rfl .n) (.refl _) ⟨false, rfl, hd⟩)))))

theorem W_law08_live {I : IH}   {Q : Bool → Prop}  (hd : law08_live Q) :
    PFun Tryz.prog 5 [] I (fun I_ v => ∃ r, v = .bool r ∧ Q r) := by
 refine Fun.enter func5 rfl ntmps5 rfl .n fun w0 M => ?_
 refine .seq (.region (.skips 1 rfl (.nilS [] rfl rfl (.seq (.region (.build zeroValue47 underlying47 BI47 (.c rfl rfl rfl (.t .nil) (.c rfl rfl rfl (.s (.t .nil)) (.c rfl rfl rfl (.s (.s (.t .nil))) .n))) (by exact ⟨⟨_, _, rfl, rfl, rfl⟩, ⟨⟨_, _, rfl, rfl, rfl⟩, ⟨⟨_, _, rfl, rfl, rfl⟩, trivial⟩⟩⟩) rfl rfl (.buildSlice 1 underlying48 sizeOf47 zeroValue47 rfl rfl (.c rfl rfl rfl .n) rfl rfl fun b26 => ?_)))))))
 refine .pubB (El := eTriple) (ys := ([({ Row := 1, Col := 700, Val := 4 } : Triple)] : List Triple)) (k := 1) .z (.one rfl) rfl fun I28 hl29 R30 => ?_
 have le31 := IH.le.trans (.refl _) hl29
 have hw47 := W_ref07_Of (I := I28) R30 hd
 refine .call call22 rfl hw47 rfl rfl fun v36 I33 hl34 hv35 => ?_
 obtain ⟨r32, p38, c39, p41, c42, p44, c45, rfl, R40, R43, R46, hd⟩ := hv35
 have le48 := IH.le.trans le31 hl34
 replace R30 := R30.mono hl34
 refine .skips 1 rfl (.extract rfl rfl rfl rfl (.extract rfl rfl rfl rfl (.allocA zeroValue25 rfl rfl fun b49 => ?_)))
 refine .storeA sizeOf25 rfl rfl .z (.t (.t (.t (.t (.t .nil))))) rfl rfl (.skips 1 rfl (.nilS [1] rfl rfl (.seq (.region (.loadW isAgg25 sizeOf25 rfl .z rfl rfl rfl ?_)))))
 have hw91 := W_dcsc_Of (I := I33) R40 R43 R46 hd
 refine .call call10 rfl hw91 rfl rfl fun v77 I74 hl75 hv76 => ?_
 obtain ⟨r73, p79, c80, p82, c83, p85, c86, p88, c89, rfl, R81, R84, R87, R90, hd⟩ := hv76
 have le92 := IH.le.trans le48 hl75
 replace R40 := R40.mono hl75
 replace R43 := R43.mono hl75
 replace R46 := R46.mono hl75
 refine .allocA zeroValue27 rfl rfl fun b93 => ?_
 refine .storeA sizeOf27 rfl rfl .z (.t (.t (.t (.t (.t (.t .nil)))))) rfl rfl (.nilS [3, 1] rfl rfl (.seq (.region (.loadW isAgg27 sizeOf27 rfl .z rfl rfl rfl ?_))))
 have hw115 := W_dcsc_Column (I := I74) R81 R84 R87 R90 hd
 refine .call call7 rfl hw115 rfl rfl fun v110 I107 hl108 hv109 => ?_
 obtain ⟨r106, p112, c113, rfl, R114, hd⟩ := hv109
 have le116 := IH.le.trans le92 hl108
 replace R40 := R40.mono hl108
 replace R43 := R43.mono hl108
 replace R46 := R46.mono hl108
 replace R81 := R81.mono hl108
 replace R84 := R84.mono hl108
 replace R87 := R87.mono hl108
 replace R90 := R90.mono hl108
 refine .skips 1 rfl (.nilS [4, 3, 1] rfl rfl (.seq (.draw [some 0, some 1, some 2, some 3, some 4, some 5, some 6, some 7, some 8, some 9, some 10, some 11, some 12, some 13, some 14, some 15, some 16, some 17, some 18, some 19, some 20, some 21, some 22, some 23, some 24, some 25, some 26, some 27, some 29, some 28, some 30, some 31, some 32, some 33, some 34, some 35, some 36, some 37, some 38, some 39, some 40, some 41, some 42, some 43, some 44, some 45, some 46, some 47, some 48, some 49, some 50, some 51, some 52, some 53, some 54, some 55, some 56, some 57] 58 MX (by kernel_rfl) (by kernel_rfl) (by kernel_rfl) (by kernel_rfl) (by kernel_rfl) (by kernel_rfl) (by kernel_rfl) (fun ex => (pto b93 (.cells #[.int .i64 r73.Rows, .int .i64 r73.Cols, .slice p79 r73.At.length c80, .slice p82 r73.Start.length c83, .slice p85 r73.Row.length c86, .slice p88 r73.Val.length c89] 27 (0, 0))) :: (pto b49 (.cells #[.int .i64 r32.1.Rows, .int .i64 r32.1.Cols, .slice p38 r32.1.Start.length c39, .slice p41 r32.1.Col.length c42, .slice p44 r32.1.Val.length c45] 25 (0, 0))) :: ex) (fun _ _ => (.s (.s .z))) rfl (.f [] rfl (by kernel_rfl) rfl rfl (fun ex => .loadW isAgg27 sizeOf27 rfl .z rfl rfl rfl .mk) (.w [] [[]] [0] rfl (by kernel_rfl) (by kernel_rfl) (by kernel_rfl) ((dropE_kept rfl rfl)) (.inr (dropE_kept rfl rfl)) fun ex => ?_)))))
 have hw118 := W_dcsc_Many (I := I107) R81 R84 R87 R90 hd
 refine .callP call17 rfl hw118 rfl rfl fun v119 hv120 => ?_
 obtain ⟨r117, rfl, hd⟩ := hv120
 refine .some (fun ex => (pto b93 (.cells #[.int .i64 r73.Rows, .int .i64 r73.Cols, .slice p79 r73.At.length c80, .slice p82 r73.Start.length c83, .slice p85 r73.Row.length c86, .slice p88 r73.Val.length c89] 27 (0, 0))) :: (pto b49 (.cells #[.int .i64 r32.1.Rows, .int .i64 r32.1.Cols, .slice p38 r32.1.Start.length c39, .slice p41 r32.1.Col.length c42, .slice p44 r32.1.Val.length c45] 25 (0, 0))) :: ex) rfl (fun _ _ => (.s (.s .z))) rfl trivial (.f [1] rfl (by kernel_rfl) rfl rfl (fun ex => .eq rfl rfl rfl rfl .mk) (.fs [[2, 1]] rfl (by kernel_rfl) ?_))
 refine splitP hd (fun hb121 hd => ?_) fun hb121 hd => ?_
 · refine .f [3] rfl (by kernel_rfl) rfl rfl (fun ex => .gyes rfl rfl hb121 (.loadW isAgg27 sizeOf27 rfl .z rfl rfl rfl .mk)) (.w [] [[], [], [3]] [4, 3, 3] rfl (by kernel_rfl) (by kernel_rfl) (by kernel_rfl) ((dropE_kept rfl rfl)) (.inr (dropE_kept rfl rfl)) fun ex => ?_)
   have hw123 := W_dcsc_Count (I := I107) R81 R84 R87 R90 hd
   refine .gyes rfl rfl hb121 (.callP call19 rfl hw123 rfl rfl fun v124 hv125 => ?_)
   obtain ⟨r122, rfl, hd⟩ := hv125
   refine .some (fun ex => (pto b93 (.cells #[.int .i64 r73.Rows, .int .i64 r73.Cols, .slice p79 r73.At.length c80, .slice p82 r73.Start.length c83, .slice p85 r73.Row.length c86, .slice p88 r73.Val.length c89] 27 (0, 0))) :: (pto b49 (.cells #[.int .i64 r32.1.Rows, .int .i64 r32.1.Cols, .slice p38 r32.1.Start.length c39, .slice p41 r32.1.Col.length c42, .slice p44 r32.1.Val.length c45] 25 (0, 0))) :: ex) rfl (fun _ _ => (.s (.s .z))) rfl trivial (.f [5, 3] rfl (by kernel_rfl) rfl rfl (fun ex => .gyes rfl rfl hb121 (.eq rfl rfl rfl rfl .mk)) (.f [3, 6] rfl (by kernel_rfl) rfl rfl (fun ex => .pickT rfl hb121 rfl rfl rfl .mk) (.fs [[7, 5]] rfl (by kernel_rfl) ?_)))
   refine splitP hd (fun hb126 hd => ?_) fun hb126 hd => ?_
   · refine .f [8] rfl (by kernel_rfl) rfl rfl (fun ex => .gyes rfl rfl hb126 (.move rfl rfl rfl .mk)) (.f [9, 8] rfl (by kernel_rfl) rfl rfl (fun ex => .gyes rfl rfl hb126 (.len underlying31 rfl rfl rfl rfl .mk)) (.f [10, 8] rfl (by kernel_rfl) rfl rfl (fun ex => .gyes rfl rfl hb126 (.eq rfl rfl rfl rfl .mk)) (.f [8, 11] rfl (by kernel_rfl) rfl rfl (fun ex => .pickT rfl hb126 rfl rfl rfl .mk) (.fs [[12, 8]] rfl (by kernel_rfl) ?_))))
     refine splitP hd (fun hb127 hd => ?_) fun hb127 hd => ?_
     · refine .f [13] rfl (by kernel_rfl) rfl rfl (fun ex => .gyes rfl rfl hb127 (.move rfl rfl rfl .mk)) ?_
       obtain ⟨h128, x129, hx130, hd⟩ := hd
       obtain ⟨b131, o132, cs133, e134, hC135, hr136⟩ := R114.2 _ _ hx130
       cases hr136
       refine .f [14, 13] rfl (by kernel_rfl) rfl rfl (fun ex => .gyes rfl rfl hb127 (.ixa underlying31 sizeOf50 rfl e134 rfl h128 (idx_lt hx130 h128) rfl rfl .mk)) (.f [15, 13] rfl (by kernel_rfl) rfl rfl (fun ex => .gyes rfl rfl hb127 (.ldW isAgg50 sizeOf50 hC135 rfl rfl rfl rfl .mk)) (.f [13] rfl (by kernel_rfl) rfl rfl (fun ex => .gyes rfl rfl hb127 (.build zeroValue50 underlying50 BI50 (.c rfl rfl rfl (.t .nil) (.c rfl rfl rfl (.s (.t .nil)) .n)) (by exact ⟨⟨_, _, rfl, rfl, rfl⟩, ⟨⟨_, _, rfl, rfl, rfl⟩, trivial⟩⟩) rfl rfl .mk)) (.f [16, 17, 13] rfl (by kernel_rfl) rfl rfl (fun ex => .gyes rfl rfl hb127 (.eqV rfl rfl (EQ50 x129 ({ At := 1, Val := 4 } : Item)) (EG50 _ _ _ _ _) rfl rfl rfl .mk)) (.f [13, 18] rfl (by kernel_rfl) rfl rfl (fun ex => .pickT rfl hb127 rfl rfl rfl .mk) (.fs [[19, 13]] rfl (by kernel_rfl) ?_)))))
       refine splitP hd (fun hb137 hd => ?_) fun hb137 hd => ?_
       · refine .f [20] rfl (by kernel_rfl) rfl rfl (fun ex => .gyes rfl rfl hb137 (.loadW isAgg27 sizeOf27 rfl .z rfl rfl rfl .mk)) (.w [] [[], [], [20], [19, 20], [18, 19, 20], [18, 19, 20], [16, 18, 19, 20], [15, 16, 18, 19, 20], [20], [13, 20], [12, 13, 20], [11, 12, 13, 20], [10, 11, 12, 13, 20], [13, 20], [8, 13, 20], [7, 8, 13, 20]] [21, 20, 20] rfl (by kernel_rfl) (by kernel_rfl) (by kernel_rfl) ((dropE_kept rfl rfl)) (.inr (dropE_kept rfl rfl)) fun ex => ?_)
         have hw147 := W_dcsc_Column (I := I107) R81 R84 R87 R90 hd
         refine .gyes rfl rfl hb137 (.call call7 rfl hw147 rfl rfl fun v142 I139 hl140 hv141 => ?_)
         obtain ⟨r138, p144, c145, rfl, R146, hd⟩ := hv141
         have le148 := IH.le.trans le116 hl140
         replace R40 := R40.mono hl140
         replace R43 := R43.mono hl140
         replace R46 := R46.mono hl140
         replace R81 := R81.mono hl140
         replace R84 := R84.mono hl140
         replace R87 := R87.mono hl140
         replace R90 := R90.mono hl140
         replace R114 := R114.mono hl140
         replace hC135 := hC135.mono hl140
         refine .some (fun ex => (pto b93 (.cells #[.int .i64 r73.Rows, .int .i64 r73.Cols, .slice p79 r73.At.length c80, .slice p82 r73.Start.length c83, .slice p85 r73.Row.length c86, .slice p88 r73.Val.length c89] 27 (0, 0))) :: (pto b49 (.cells #[.int .i64 r32.1.Rows, .int .i64 r32.1.Cols, .slice p38 r32.1.Start.length c39, .slice p41 r32.1.Col.length c42, .slice p44 r32.1.Val.length c45] 25 (0, 0))) :: ex) rfl (fun _ _ => (.s (.s .z))) rfl trivial (.f [22, 20] rfl (by kernel_rfl) rfl rfl (fun ex => .gyes rfl rfl hb137 (.len underlying31 rfl rfl rfl rfl .mk)) (.f [23, 20] rfl (by kernel_rfl) rfl rfl (fun ex => .gyes rfl rfl hb137 (.eq rfl rfl rfl rfl .mk)) (.f [20, 24] rfl (by kernel_rfl) rfl rfl (fun ex => .pickT rfl hb137 rfl rfl rfl .mk) (.fs [[25, 22]] rfl (by kernel_rfl) ?_))))
         refine splitP hd (fun hb149 hd => ?_) fun hb149 hd => ?_
         · refine .f [26] rfl (by kernel_rfl) rfl rfl (fun ex => .gyes rfl rfl hb149 (.loadW isAgg27 sizeOf27 rfl .z rfl rfl rfl .mk)) (.f [26] rfl (by kernel_rfl) rfl rfl (fun ex => .gyes rfl rfl hb149 (.loadW isAgg25 sizeOf25 rfl (.s .z) rfl rfl rfl .mk)) (.w [29] [[], [], [26], [25, 26], [24, 25, 26]] [27, 26, 26] rfl (by kernel_rfl) (by kernel_rfl) (by kernel_rfl) ((dropE_kept rfl rfl)) (.inr (dropE_kept rfl rfl)) fun ex => ?_))
           have hw165 := W_dcsc_Back (I := I139) R81 R84 R87 R90 hd
           refine .gyes rfl rfl hb149 (.call call15 rfl hw165 rfl rfl fun v154 I151 hl152 hv153 => ?_)
           obtain ⟨r150, p156, c157, p159, c160, p162, c163, rfl, R158, R161, R164, hd⟩ := hv153
           have le166 := IH.le.trans le148 hl152
           replace R40 := R40.mono hl152
           replace R43 := R43.mono hl152
           replace R46 := R46.mono hl152
           replace R81 := R81.mono hl152
           replace R84 := R84.mono hl152
           replace R87 := R87.mono hl152
           replace R90 := R90.mono hl152
           replace R114 := R114.mono hl152
           replace hC135 := hC135.mono hl152
           replace R146 := R146.mono hl152
           refine .some (fun ex => (pto b93 (.cells #[.int .i64 r73.Rows, .int .i64 r73.Cols, .slice p79 r73.At.length c80, .slice p82 r73.Start.length c83, .slice p85 r73.Row.length c86, .slice p88 r73.Val.length c89] 27 (0, 0))) :: (pto b49 (.cells #[.int .i64 r32.1.Rows, .int .i64 r32.1.Cols, .slice p38 r32.1.Start.length c39, .slice p41 r32.1.Col.length c42, .slice p44 r32.1.Val.length c45] 25 (0, 0))) :: ex) rfl (fun _ _ => (.s (.s .z))) rfl (.cc [26] rfl (by kernel_rfl) rfl rfl rfl (fun ex => .gyes rfl rfl hb149 (.loadW isAgg25 sizeOf25 rfl (.s .z) rfl rfl rfl .mk)) trivial) (.w [] [[]] [28, 29, 28, 26] rfl (by kernel_rfl) (by kernel_rfl) (by kernel_rfl) ((dropE_kept rfl rfl)) (.inr (dropE_kept rfl rfl)) fun ex => ?_)
           have hw168 := W_ref07_Same (I := I151) R158 R161 R164 R40 R43 R46 hd
           refine .gyes rfl rfl hb149 (.callP call14 rfl hw168 rfl rfl fun v169 hv170 => ?_)
           obtain ⟨r167, rfl, hd⟩ := hv170
           refine .some (fun ex => (pto b93 (.cells #[.int .i64 r73.Rows, .int .i64 r73.Cols, .slice p79 r73.At.length c80, .slice p82 r73.Start.length c83, .slice p85 r73.Row.length c86, .slice p88 r73.Val.length c89] 27 (0, 0))) :: (pto b49 (.cells #[.int .i64 r32.1.Rows, .int .i64 r32.1.Cols, .slice p38 r32.1.Start.length c39, .slice p41 r32.1.Col.length c42, .slice p44 r32.1.Val.length c45] 25 (0, 0))) :: ex) rfl (fun _ _ => (.s (.s .z))) rfl trivial (.f [26, 30] rfl (by kernel_rfl) rfl rfl (fun ex => .pickT rfl hb149 rfl rfl rfl .mk) (.fs [[31, 30]] rfl (by kernel_rfl) ?_))
           refine splitP hd (fun hb171 hd => ?_) fun hb171 hd => ?_
           · refine .f [32] rfl (by kernel_rfl) rfl rfl (fun ex => .gyes rfl rfl hb171 (.loadW isAgg27 sizeOf27 rfl .z rfl rfl rfl .mk)) (.w [] [[], [], [32]] [33, 32, 32] rfl (by kernel_rfl) (by kernel_rfl) (by kernel_rfl) ((dropE_kept rfl rfl)) (.inr (dropE_kept rfl rfl)) fun ex => ?_)
             have hw173 := W_dcsc_Right (I := I151) R81 R84 R87 R90 hd
             refine .gyes rfl rfl hb171 (.callP call12 rfl hw173 rfl rfl fun v174 hv175 => ?_)
             obtain ⟨r172, rfl, hd⟩ := hv175
             refine .some (fun ex => (pto b93 (.cells #[.int .i64 r73.Rows, .int .i64 r73.Cols, .slice p79 r73.At.length c80, .slice p82 r73.Start.length c83, .slice p85 r73.Row.length c86, .slice p88 r73.Val.length c89] 27 (0, 0))) :: (pto b49 (.cells #[.int .i64 r32.1.Rows, .int .i64 r32.1.Cols, .slice p38 r32.1.Start.length c39, .slice p41 r32.1.Col.length c42, .slice p44 r32.1.Val.length c45] 25 (0, 0))) :: ex) rfl (fun _ _ => (.s (.s .z))) rfl trivial (.f [32, 34] rfl (by kernel_rfl) rfl rfl (fun ex => .pickT rfl hb171 rfl rfl rfl .mk) (.fs [[35, 34]] rfl (by kernel_rfl) ?_))
             refine splitP hd (fun hb176 hd => ?_) fun hb176 hd => ?_
             · refine .f [36] rfl (by kernel_rfl) rfl rfl (fun ex => .gyes rfl rfl hb176 (.build zeroValue27 underlying27 BI27 .n (by exact trivial) rfl rfl .mk)) (.w [] [[], [], [36]] [37, 36, 36] rfl (by kernel_rfl) (by kernel_rfl) (by kernel_rfl) ((dropE_kept rfl rfl)) (.inr (dropE_kept rfl rfl)) fun ex => ?_)
               have hw178 := W_dcsc_Right (I := I151) (.nil _ none 0) (.nil _ none 0) (.nil _ none 0) (.nil _ none 0) hd
               refine .gyes rfl rfl hb176 (.callP call12 rfl hw178 rfl rfl fun v179 hv180 => ?_)
               obtain ⟨r177, rfl, hd⟩ := hv180
               refine .some (fun ex => (pto b93 (.cells #[.int .i64 r73.Rows, .int .i64 r73.Cols, .slice p79 r73.At.length c80, .slice p82 r73.Start.length c83, .slice p85 r73.Row.length c86, .slice p88 r73.Val.length c89] 27 (0, 0))) :: (pto b49 (.cells #[.int .i64 r32.1.Rows, .int .i64 r32.1.Cols, .slice p38 r32.1.Start.length c39, .slice p41 r32.1.Col.length c42, .slice p44 r32.1.Val.length c45] 25 (0, 0))) :: ex) rfl (fun _ _ => (.s (.s .z))) rfl trivial (.f [38, 36] rfl (by kernel_rfl) rfl rfl (fun ex => .gyes rfl rfl hb176 (.not rfl rfl rfl .mk)) (.f [36, 39] rfl (by kernel_rfl) rfl rfl (fun ex => .pickT rfl hb176 rfl rfl rfl .mk) (.fs [[40, 38]] rfl (by kernel_rfl) ?_)))
               refine splitP hd (fun hb181 hd => ?_) fun hb181 hd => ?_
               · refine .f [41] rfl (by kernel_rfl) rfl rfl (fun ex => .gyes rfl rfl hb181 (.loadW isAgg27 sizeOf27 rfl .z rfl rfl rfl .mk)) (.w [42] [[], [41], [40, 41]] [41] rfl (by kernel_rfl) (by kernel_rfl) (by kernel_rfl) ((dropE_kept rfl rfl)) (.inr (dropE_kept rfl rfl)) fun ex => ?_)
                 refine .gyes rfl rfl hb181 (.buildSlice 3 underlying22 sizeOf3 zeroValue3 rfl rfl (.c rfl rfl rfl (.c rfl rfl rfl (.c rfl rfl rfl .n))) rfl rfl fun b182 => ?_)
                 refine .some (fun ex => (pto b182 (.cells #[.int .i64 700, .int .i64 700, .int .i64 1] 3 (0, 0))) :: (pto b93 (.cells #[.int .i64 r73.Rows, .int .i64 r73.Cols, .slice p79 r73.At.length c80, .slice p82 r73.Start.length c83, .slice p85 r73.Row.length c86, .slice p88 r73.Val.length c89] 27 (0, 0))) :: (pto b49 (.cells #[.int .i64 r32.1.Rows, .int .i64 r32.1.Cols, .slice p38 r32.1.Start.length c39, .slice p41 r32.1.Col.length c42, .slice p44 r32.1.Val.length c45] 25 (0, 0))) :: ex) rfl (fun _ _ => (.s (.s (.s .z)))) rfl (.cc [41] rfl (by kernel_rfl) rfl rfl rfl (fun ex => .gyes rfl rfl hb181 (.loadW isAgg27 sizeOf27 rfl (.s .z) rfl rfl rfl .mk)) trivial) (.w [] [[]] [42, 43, 41, 41] rfl (by kernel_rfl) (by kernel_rfl) (by kernel_rfl) ((dropE_kept rfl rfl)) (.inr (dropE_kept rfl rfl)) fun ex => ?_)
                 refine .pubB (El := eI64) (ys := ([700, 700, 1] : List Int)) (k := 3) .z (RepCs.cons (cs := [.int .i64 700]) rfl (RepCs.cons (cs := [.int .i64 700]) rfl (RepCs.cons (cs := [.int .i64 1]) rfl .nil))) rfl fun I184 hl185 R186 => ?_
                 have le187 := IH.le.trans le166 hl185
                 replace R40 := R40.mono hl185
                 replace R43 := R43.mono hl185
                 replace R46 := R46.mono hl185
                 replace R81 := R81.mono hl185
                 replace R84 := R84.mono hl185
                 replace R87 := R87.mono hl185
                 replace R90 := R90.mono hl185
                 replace R114 := R114.mono hl185
                 replace hC135 := hC135.mono hl185
                 replace R146 := R146.mono hl185
                 replace R158 := R158.mono hl185
                 replace R161 := R161.mono hl185
                 replace R164 := R164.mono hl185
                 have hw189 := W_dcsc_Work (I := I184) R81 R84 R87 R90 R186 hd
                 refine .gyes rfl rfl hb181 (.callP call20 rfl hw189 rfl rfl fun v190 hv191 => ?_)
                 obtain ⟨r188, rfl, hd⟩ := hv191
                 refine .some (fun ex => (pto b93 (.cells #[.int .i64 r73.Rows, .int .i64 r73.Cols, .slice p79 r73.At.length c80, .slice p82 r73.Start.length c83, .slice p85 r73.Row.length c86, .slice p88 r73.Val.length c89] 27 (0, 0))) :: (pto b49 (.cells #[.int .i64 r32.1.Rows, .int .i64 r32.1.Cols, .slice p38 r32.1.Start.length c39, .slice p41 r32.1.Col.length c42, .slice p44 r32.1.Val.length c45] 25 (0, 0))) :: ex) rfl (fun _ _ => (.s (.s .z))) rfl trivial (.f [44, 41] rfl (by kernel_rfl) rfl rfl (fun ex => .gyes rfl rfl hb181 (.eq rfl rfl rfl rfl .mk)) (.f [41, 45] rfl (by kernel_rfl) rfl rfl (fun ex => .pickT rfl hb181 rfl rfl rfl .mk) (.fs [[46, 44]] rfl (by kernel_rfl) ?_)))
                 refine splitP hd (fun hb192 hd => ?_) fun hb192 hd => ?_
                 · refine .f [47] rfl (by kernel_rfl) rfl rfl (fun ex => .gyes rfl rfl hb192 (.loadW isAgg27 sizeOf27 rfl .z rfl rfl rfl .mk)) (.f [47] rfl (by kernel_rfl) rfl rfl (fun ex => .gyes rfl rfl hb192 (.loadW isAgg27 sizeOf27 rfl .z rfl rfl rfl .mk)) (.w [] [[], [], [], [47], [46, 47]] [48, 49, 47, 47] rfl (by kernel_rfl) (by kernel_rfl) (by kernel_rfl) ((dropE_kept rfl rfl)) (.inr (dropE_kept rfl rfl)) fun ex => ?_))
                   have hw194 := W_dcsc_Same (I := I184) R81 R84 R87 R90 R81 R84 R87 R90 hd
                   refine .gyes rfl rfl hb192 (.callP call23 rfl hw194 rfl rfl fun v195 hv196 => ?_)
                   obtain ⟨r193, rfl, hd⟩ := hv196
                   refine .some (fun ex => (pto b93 (.cells #[.int .i64 r73.Rows, .int .i64 r73.Cols, .slice p79 r73.At.length c80, .slice p82 r73.Start.length c83, .slice p85 r73.Row.length c86, .slice p88 r73.Val.length c89] 27 (0, 0))) :: (pto b49 (.cells #[.int .i64 r32.1.Rows, .int .i64 r32.1.Cols, .slice p38 r32.1.Start.length c39, .slice p41 r32.1.Col.length c42, .slice p44 r32.1.Val.length c45] 25 (0, 0))) :: ex) rfl (fun _ _ => (.s (.s .z))) rfl trivial (.f [47, 50] rfl (by kernel_rfl) rfl rfl (fun ex => .pickT rfl hb192 rfl rfl rfl .mk) (.fs [[51, 50]] rfl (by kernel_rfl) ?_))
                   refine splitP hd (fun hb197 hd => ?_) fun hb197 hd => ?_
                   · refine .f [52] rfl (by kernel_rfl) rfl rfl (fun ex => .gyes rfl rfl hb197 (.loadW isAgg27 sizeOf27 rfl .z rfl rfl rfl .mk)) (.f [52] rfl (by kernel_rfl) rfl rfl (fun ex => .gyes rfl rfl hb197 (.build zeroValue27 underlying27 BI27 .n (by exact trivial) rfl rfl .mk)) (.w [] [[], [], [], [52]] [53, 54, 52, 52] rfl (by kernel_rfl) (by kernel_rfl) (by kernel_rfl) ((dropE_kept rfl rfl)) (.inr (dropE_kept rfl rfl)) fun ex => ?_))
                     have hw199 := W_dcsc_Same (I := I184) R81 R84 R87 R90 (.nil _ none 0) (.nil _ none 0) (.nil _ none 0) (.nil _ none 0) hd
                     refine .gyes rfl rfl hb197 (.callP call23 rfl hw199 rfl rfl fun v200 hv201 => ?_)
                     obtain ⟨r198, rfl, hd⟩ := hv201
                     exact .some (fun ex => (pto b93 (.cells #[.int .i64 r73.Rows, .int .i64 r73.Cols, .slice p79 r73.At.length c80, .slice p82 r73.Start.length c83, .slice p85 r73.Row.length c86, .slice p88 r73.Val.length c89] 27 (0, 0))) :: (pto b49 (.cells #[.int .i64 r32.1.Rows, .int .i64 r32.1.Cols, .slice p38 r32.1.Start.length c39, .slice p41 r32.1.Col.length c42, .slice p44 r32.1.Val.length c45] 25 (0, 0))) :: ex) rfl (fun _ _ => (.s (.s .z))) rfl trivial (.f [55, 52] rfl (by kernel_rfl) rfl rfl (fun ex => .gyes rfl rfl hb197 (.not rfl rfl rfl .mk)) (.f [52, 56] rfl (by kernel_rfl) rfl rfl (fun ex => .pickT rfl hb197 rfl rfl rfl .mk) (.e 58 (by kernel_rfl) (by kernel_rfl) (by kernel_rfl) (.skips 1 rfl (.nilS [0] rfl rfl (.drop .z (.drop .z (.ret (pret results5 (.t rfl .n) le187 ⟨(!r198), rfl, hd⟩)))))))))
                   refine .f [52] rfl (by kernel_rfl) rfl rfl (fun ex => .gno rfl rfl hb197 rfl rfl .mk) (.f [52] rfl (by kernel_rfl) rfl rfl (fun ex => .gno rfl rfl hb197 rfl rfl .mk) (.f [53, 54, 52, 52] rfl (by kernel_rfl) rfl rfl (fun ex => .gno rfl rfl hb197 rfl rfl .mk) (.f [55, 52] rfl (by kernel_rfl) rfl rfl (fun ex => .gno rfl rfl hb197 rfl rfl .mk) (.f [52, 56] rfl (by kernel_rfl) rfl rfl (fun ex => .pickF rfl hb197 rfl rfl rfl .mk) (.e 58 (by kernel_rfl) (by kernel_rfl) (by kernel_rfl) (.skips 1 rfl (.nilS [0] rfl rfl (.drop .z (.drop .z ?_)))))))))
                   exact .ret (pret results5 (.t rfl .n) le187 ⟨false, rfl, hd⟩)
                 refine .f [47] rfl (by kernel_rfl) rfl rfl (fun ex => .gno rfl rfl hb192 rfl rfl .mk) (.f [47] rfl (by kernel_rfl) rfl rfl (fun ex => .gno rfl rfl hb192 rfl rfl .mk) (.f [48, 49, 47, 47] rfl (by kernel_rfl) rfl rfl (fun ex => .gno rfl rfl hb192 rfl rfl .mk) (.f [47, 50] rfl (by kernel_rfl) rfl rfl (fun ex => .pickF rfl hb192 rfl rfl rfl .mk) (.fs [[51, 50], [52], [52], [53, 54, 52, 52], [55, 52], [52, 56]] rfl (by kernel_rfl) (.e 58 (by kernel_rfl) (by kernel_rfl) (by kernel_rfl) (.skips 1 rfl (.nilS [0] rfl rfl (.drop .z (.drop .z ?_)))))))))
                 exact .ret (pret results5 (.t rfl .n) le187 ⟨false, rfl, hd⟩)
               refine .f [41] rfl (by kernel_rfl) rfl rfl (fun ex => .gno rfl rfl hb181 rfl rfl .mk) (.f [41] rfl (by kernel_rfl) rfl rfl (fun ex => .gno rfl rfl hb181 rfl rfl .mk) (.f [42, 43, 41, 41] rfl (by kernel_rfl) rfl rfl (fun ex => .gno rfl rfl hb181 rfl rfl .mk) (.f [44, 41] rfl (by kernel_rfl) rfl rfl (fun ex => .gno rfl rfl hb181 rfl rfl .mk) (.f [41, 45] rfl (by kernel_rfl) rfl rfl (fun ex => .pickF rfl hb181 rfl rfl rfl .mk) (.fs [[46, 44], [47], [47], [48, 49, 47, 47], [47, 50], [51, 50], [52], [52], [53, 54, 52, 52], [55, 52], [52, 56]] rfl (by kernel_rfl) (.e 58 (by kernel_rfl) (by kernel_rfl) (by kernel_rfl) (.skips 1 rfl (.nilS [0] rfl rfl (.drop .z ?_)))))))))
               exact .drop .z (.ret (pret results5 (.t rfl .n) le166 ⟨false, rfl, hd⟩))
             refine .f [36] rfl (by kernel_rfl) rfl rfl (fun ex => .gno rfl rfl hb176 rfl rfl .mk) (.f [37, 36, 36] rfl (by kernel_rfl) rfl rfl (fun ex => .gno rfl rfl hb176 rfl rfl .mk) (.f [38, 36] rfl (by kernel_rfl) rfl rfl (fun ex => .gno rfl rfl hb176 rfl rfl .mk) (.f [36, 39] rfl (by kernel_rfl) rfl rfl (fun ex => .pickF rfl hb176 rfl rfl rfl .mk) (.fs [[40, 38], [41], [41], [42, 43, 41, 41], [44, 41], [41, 45], [46, 44], [47], [47], [48, 49, 47, 47], [47, 50], [51, 50], [52], [52], [53, 54, 52, 52], [55, 52], [52, 56]] rfl (by kernel_rfl) (.e 58 (by kernel_rfl) (by kernel_rfl) (by kernel_rfl) (.skips 1 rfl (.nilS [0] rfl rfl (.drop .z (.drop .z ?_)))))))))
             exact .ret (pret results5 (.t rfl .n) le166 ⟨false, rfl, hd⟩)
           exact .f [32] rfl (by kernel_rfl) rfl rfl (fun ex => .gno rfl rfl hb171 rfl rfl .mk) (.f [33, 32, 32] rfl (by kernel_rfl) rfl rfl (fun ex => .gno rfl rfl hb171 rfl rfl .mk) (.f [32, 34] rfl (by kernel_rfl) rfl rfl (fun ex => .pickF rfl hb171 rfl rfl rfl .mk) (.fs [[35, 34], [36], [37, 36, 36], [38, 36], [36, 39], [40, 38], [41], [41], [42, 43, 41, 41], [44, 41], [41, 45], [46, 44], [47], [47], [48, 49, 47, 47], [47, 50], [51, 50], [52], [52], [53, 54, 52, 52], [55, 52], [52, 56]] rfl (by kernel_rfl) (.e 58 (by kernel_rfl) (by kernel_rfl) (by kernel_rfl) (.skips 1 rfl (.nilS [0] rfl rfl (.drop .z (.drop .z (.ret (pret results5 (.t rfl .n) le166 ⟨false, rfl, hd⟩))))))))))
         refine .f [26] rfl (by kernel_rfl) rfl rfl (fun ex => .gno rfl rfl hb149 rfl rfl .mk) (.f [26] rfl (by kernel_rfl) rfl rfl (fun ex => .gno rfl rfl hb149 rfl rfl .mk) (.f [27, 26, 26] rfl (by kernel_rfl) rfl rfl (fun ex => .gno rfl rfl hb149 rfl rfl .mk) (.f [28, 29, 28, 26] rfl (by kernel_rfl) rfl rfl (fun ex => .gno rfl rfl hb149 rfl rfl .mk) (.f [26, 30] rfl (by kernel_rfl) rfl rfl (fun ex => .pickF rfl hb149 rfl rfl rfl .mk) (.fs [[31, 30], [32], [33, 32, 32], [32, 34], [35, 34], [36], [37, 36, 36], [38, 36], [36, 39], [40, 38], [41], [41], [42, 43, 41, 41], [44, 41], [41, 45], [46, 44], [47], [47], [48, 49, 47, 47], [47, 50], [51, 50], [52], [52], [53, 54, 52, 52], [55, 52], [52, 56]] rfl (by kernel_rfl) (.e 58 (by kernel_rfl) (by kernel_rfl) (by kernel_rfl) (.skips 1 rfl (.nilS [0] rfl rfl (.drop .z ?_)))))))))
         exact .drop .z (.ret (pret results5 (.t rfl .n) le148 ⟨false, rfl, hd⟩))
       refine .f [20] rfl (by kernel_rfl) rfl rfl (fun ex => .gno rfl rfl hb137 rfl rfl .mk) (.f [21, 20, 20] rfl (by kernel_rfl) rfl rfl (fun ex => .gno rfl rfl hb137 rfl rfl .mk) (.f [22, 20] rfl (by kernel_rfl) rfl rfl (fun ex => .gno rfl rfl hb137 rfl rfl .mk) (.f [23, 20] rfl (by kernel_rfl) rfl rfl (fun ex => .gno rfl rfl hb137 rfl rfl .mk) (.f [20, 24] rfl (by kernel_rfl) rfl rfl (fun ex => .pickF rfl hb137 rfl rfl rfl .mk) (.fs [[25, 22], [26], [26], [27, 26, 26], [28, 29, 28, 26], [26, 30], [31, 30], [32], [33, 32, 32], [32, 34], [35, 34], [36], [37, 36, 36], [38, 36], [36, 39], [40, 38], [41], [41], [42, 43, 41, 41], [44, 41], [41, 45], [46, 44], [47], [47], [48, 49, 47, 47], [47, 50], [51, 50], [52], [52], [53, 54, 52, 52], [55, 52], [52, 56]] rfl (by kernel_rfl) (.e 58 (by kernel_rfl) (by kernel_rfl) (by kernel_rfl) (.skips 1 rfl (.nilS [0] rfl rfl (.drop .z ?_)))))))))
       exact .drop .z (.ret (pret results5 (.t rfl .n) le116 ⟨false, rfl, hd⟩))
     refine .f [13] rfl (by kernel_rfl) rfl rfl (fun ex => .gno rfl rfl hb127 rfl rfl .mk) (.f [14, 13] rfl (by kernel_rfl) rfl rfl (fun ex => .gno rfl rfl hb127 rfl rfl .mk) (.f [15, 13] rfl (by kernel_rfl) rfl rfl (fun ex => .gno rfl rfl hb127 rfl rfl .mk) (.f [13] rfl (by kernel_rfl) rfl rfl (fun ex => .gno rfl rfl hb127 rfl rfl .mk) (.f [16, 17, 13] rfl (by kernel_rfl) rfl rfl (fun ex => .gno rfl rfl hb127 rfl rfl .mk) (.f [13, 18] rfl (by kernel_rfl) rfl rfl (fun ex => .pickF rfl hb127 rfl rfl rfl .mk) (.fs [[19, 13], [20], [21, 20, 20], [22, 20], [23, 20], [20, 24], [25, 22], [26], [26], [27, 26, 26], [28, 29, 28, 26], [26, 30], [31, 30], [32], [33, 32, 32], [32, 34], [35, 34], [36], [37, 36, 36], [38, 36], [36, 39], [40, 38], [41], [41], [42, 43, 41, 41], [44, 41], [41, 45], [46, 44], [47], [47], [48, 49, 47, 47], [47, 50], [51, 50], [52], [52], [53, 54, 52, 52], [55, 52], [52, 56]] rfl (by kernel_rfl) (.e 58 (by kernel_rfl) (by kernel_rfl) (by kernel_rfl) (.skips 1 rfl (.nilS [0] rfl rfl ?_)))))))))
     exact .drop .z (.drop .z (.ret (pret results5 (.t rfl .n) le116 ⟨false, rfl, hd⟩)))
   refine .f [8] rfl (by kernel_rfl) rfl rfl (fun ex => .gno rfl rfl hb126 rfl rfl .mk) (.f [9, 8] rfl (by kernel_rfl) rfl rfl (fun ex => .gno rfl rfl hb126 rfl rfl .mk) (.f [10, 8] rfl (by kernel_rfl) rfl rfl (fun ex => .gno rfl rfl hb126 rfl rfl .mk) (.f [8, 11] rfl (by kernel_rfl) rfl rfl (fun ex => .pickF rfl hb126 rfl rfl rfl .mk) (.fs [[12, 8], [13], [14, 13], [15, 13], [13], [16, 17, 13], [13, 18], [19, 13], [20], [21, 20, 20], [22, 20], [23, 20], [20, 24], [25, 22], [26], [26], [27, 26, 26], [28, 29, 28, 26], [26, 30], [31, 30], [32], [33, 32, 32], [32, 34], [35, 34], [36], [37, 36, 36], [38, 36], [36, 39], [40, 38], [41], [41], [42, 43, 41, 41], [44, 41], [41, 45], [46, 44], [47], [47], [48, 49, 47, 47], [47, 50], [51, 50], [52], [52], [53, 54, 52, 52], [55, 52], [52, 56]] rfl (by kernel_rfl) (.e 58 (by kernel_rfl) (by kernel_rfl) (by kernel_rfl) (.skips 1 rfl (.nilS [0] rfl rfl (.drop .z (.drop .z ?_)))))))))
   exact .ret (pret results5 (.t rfl .n) le116 ⟨false, rfl, hd⟩)
 refine .f [3] rfl (by kernel_rfl) rfl rfl (fun ex => .gno rfl rfl hb121 rfl rfl .mk) (.f [4, 3, 3] rfl (by kernel_rfl) rfl rfl (fun ex => .gno rfl rfl hb121 rfl rfl .mk) (.f [5, 3] rfl (by kernel_rfl) rfl rfl (fun ex => .gno rfl rfl hb121 rfl rfl .mk) (.f [3, 6] rfl (by kernel_rfl) rfl rfl (fun ex => .pickF rfl hb121 rfl rfl rfl .mk) (.fs [[7, 5], [8], [9, 8], [10, 8], [8, 11], [12, 8], [13], [14, 13], [15, 13], [13], [16, 17, 13], [13, 18], [19, 13], [20], [21, 20, 20], [22, 20], [23, 20], [20, 24], [25, 22], [26], [26], [27, 26, 26], [28, 29, 28, 26], [26, 30], [31, 30], [32], [33, 32, 32], [32, 34], [35, 34], [36], [37, 36, 36], [38, 36], [36, 39], [40, 38], [41], [41], [42, 43, 41, 41], [44, 41], [41, 45], [46, 44], [47], [47], [48, 49, 47, 47], [47, 50], [51, 50], [52], [52], [53, 54, 52, 52], [55, 52], [52, 56]] rfl (by kernel_rfl) (.e 58 (by kernel_rfl) (by kernel_rfl) (by kernel_rfl) (.skips 1 rfl (.nilS [0] rfl rfl (.drop .z (.drop .z ?_)))))))))
 exact .ret (pret results5 (.t rfl .n) le116 ⟨false, rfl, hd⟩)

end Go.Proofs.YtjobeiikppmidaaGreat
