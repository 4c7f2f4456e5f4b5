/- The walks (printed by a program of ours). -/
import Derived.Test.YtpackolbhcmomaaGreatSL
namespace Go.Proofs.YtpackolbhcmomaaGreat
open Go Go.Fw
set_option linter.unusedVariables false
set_option linter.unusedSimpArgs false
set_option maxRecDepth 8000
set_option maxHeartbeats 1000000
open Tryz
theorem W_ref02_Is {I:IH} {a0:Int} {Q:Bool→Prop}  (hd:ref02_Is a0 Q) :
  PFun prog 77 [.int .i64 a0] I (fun _=>o1_ Q):=by
 refine Fun.enter func77 r ntmps77 r (.c .n) fun w0 M=>?_
 refine .sr (.ks 1 r (.nilS [0] r r (.sr (.ks 3 r ?_))))
 refine splitP hd (fun hb1 hd=>?_) fun hb1 hd=>?_
 · rw [hb1]
   exact .ks 4 r (.nilS [2] r r (.ret (pret results77 (.t r .n) (.refl _) ⟨(decide (a0≤5)),r,hd⟩)))
 rw [hb1]
 exact .ks 4 r (.nilS [2] r r (.ret (pret results77 (.t r .n) (.refl _) ⟨false,r,hd⟩)))
theorem W_ref01_Add {I:IH} {a0:Wide} {a1:Wide} {Q:Wide→Prop}  (hd:ref01_Add a0 a1 Q) :
  PFun prog 157 [.agg (encWide a0).toArray,.agg (encWide a1).toArray] I (fun _=>o2_ Q):=by
 refine Fun.enter func157 r ntmps157 r (.c (.c .n)) fun w0 M=>?_
 refine .sr (.boxA r r r fun b7=>?_)
 refine .boxA r r r fun b9=>?_
 refine .allocA zv78 r r fun b11=>?_
 refine .nilS [4,3,2] r r (.sr (.fa un78 r sz76 r (o:=1) r r r (.load1 ia76 r (.s (.s .z)) r r r (.fa un78 r sz76 r (o:=1) r r r (.load1 ia76 r (.s .z) r r r (.ks 2 r (.nilS [5,4,3,2] r r (.sr (.fa un78 r sz2 r (o:=0) r r r ?_)))))))))
 refine .load1 ia2 r (.s (.s .z)) r r r (.fa un78 r sz2 r (o:=0) r r r (.load1 ia2 r (.s .z) r r r (.ks 2 r (.nilS [6,5,4,2] r r (.drop (.s .z) (.seq (.sr (.ks 1 r (.fa un78 r sz76 r (o:=1) r r r ?_)))))))))
 refine .load1 ia76 r (.s .z) r r r (.ks 1 r (.nilS [20,6,5,4] r r (.drop (.s .z) (.condP r hd (fun hb13 hd=>?_) fun hb13 hd=>?_))))
 · exact .region (.ks 3 r (.nilS [6,5,4] r r (.sr (.ks 2 r (.build zv78 un78 BI78 (.c r r r (.t .nil) (.c r r r (.s (.t .nil)) .n)) (by exact ⟨⟨_,_,r,r,r⟩,⟨⟨_,_,r,r,r⟩,trivial⟩⟩) r r (.storeA sz78 r r .z (.t (.t .nil)) r r (.nilS [4] r r (.ret (pret results157 (.w ia78 sz78 r .z r .n) (.refl _) ⟨({ Hi:=w64 ((w64 (a0.Hi+a1.Hi))+1),Lo:=IntKind.wrap .u64 (a0.Lo+a1.Lo) }:Wide),r,hd⟩)))))))))
 exact .skipS [6,5,4] r r (.sr (.ks 2 r (.build zv78 un78 BI78 (.c r r r (.t .nil) (.c r r r (.s (.t .nil)) .n)) (by exact ⟨⟨_,_,r,r,r⟩,⟨⟨_,_,r,r,r⟩,trivial⟩⟩) r r (.storeA sz78 r r .z (.t (.t .nil)) r r (.nilS [4] r r (.ret (pret results157 (.w ia78 sz78 r .z r .n) (.refl _) ⟨({ Hi:=w64 (a0.Hi+a1.Hi),Lo:=IntKind.wrap .u64 (a0.Lo+a1.Lo) }:Wide),r,hd⟩)))))))
theorem W_ref01_Compare {I:IH} {a0:Wide} {a1:Wide} {Q:Int→Prop}  (hd:ref01_Compare a0 a1 Q) :
  PFun prog 158 [.agg (encWide a0).toArray,.agg (encWide a1).toArray] I (fun _=>o0_ Q):=by
 refine Fun.enter func158 r ntmps158 r (.c (.c .n)) fun w0 M=>?_
 refine .sr (.boxA r r r fun b5=>?_)
 refine .boxA r r r fun b7=>?_
 refine .ks 1 r (.nilS [3,2] r r (.seq ?_))
 refine Cod.joinQ (σ:=Unit) hd (fun (_:Unit) c w=>∃ I_,IH.le I I_∧Ok ⟨27,[],none⟩ [(2,.pointer (some ⟨b5,0,none⟩)),(3,.pointer (some ⟨b7,0,none⟩))] c∧Sym w0 M I I_ [pto b5 (.cells #[.int .i64 a0.Hi,.int .u64 a0.Lo] 78 (0,0)),pto b7 (.cells #[.int .i64 a1.Hi,.int .u64 a1.Lo] 78 (0,0))] w) (fun k15 hd=>?_) ?_
 · skip
   refine .sr (.fa un78 r sz2 r (o:=0) r r r (.load1 ia2 r (.s .z) r r r (.fa un78 r sz2 r (o:=0) r r r (.load1 ia2 r .z r r r (.ks 2 r ?_)))))
   refine splitP hd (fun hb16 hd=>?_) fun hb16 hd=>?_
   · rw [hb16]
     exact .ks 13 r (.nilS [23,3,2] r r (.condKT r r (.sr (.ks 1 r (.nilS [4] r r (.drop .z (.drop .z (.ret (pret results158 (.t r .n) (.refl _) ⟨(-1),r,hd⟩)))))))))
   rw [hb16]
   refine .gyes r r r (.fa un78 r sz2 r (o:=0) r r r (.gyes r r r (.load1 ia2 r (.s .z) r r r (.gyes r r r (.fa un78 r sz2 r (o:=0) r r r (.gyes r r r (.load1 ia2 r .z r r r (.ks 2 r ?_))))))))
   refine splitP hd (fun hb17 hd=>?_) fun hb17 hd=>?_
   · rw [hb17]
     refine .gyes r r r (.fa un78 r sz76 r (o:=1) r r r (.gyes r r r (.load1 ia76 r (.s .z) r r r (.gyes r r r (.fa un78 r sz76 r (o:=1) r r r (.gyes r r r (.load1 ia76 r .z r r r (.ks 3 r (.nilS [23,3,2] r r (.condP r hd (fun hb18 hd=>?_) fun hb18 hd=>?_))))))))))
     · exact .sr (.ks 1 r (.nilS [4] r r (.drop .z (.drop .z (.ret (pret results158 (.t r .n) (.refl _) ⟨(-1),r,hd⟩))))))
     exact .skip' fun c w ho hs=>⟨(),hd,I,(.refl _),ho.sub ⟨r,r,trivial⟩,hs.pick (.c (.s .z) (.c .z .n))⟩
   rw [hb17]
   exact .ks 7 r (.nilS [23,3,2] r r (.condKF r r (.skip' fun c w ho hs=>⟨(),hd,I,(.refl _),ho.sub ⟨r,r,trivial⟩,hs.pick (.c (.s .z) (.c .z .n))⟩)))
 rintro ⟨⟩ hd c w hst
 obtain ⟨I19,hl20,hok,hsym⟩:=hst
 refine Cod.at hok hsym (.seq (.sr (.loadW ia78 sz78 r .z r r r (.loadW ia78 sz78 r (.s .z) r r r (.eqV r r (EQ78 a0 a1) (EG78 _ _ _ _ _) r r r (.nilS [26] r r (.drop .z (.drop .z (.condP r hd (fun hb21 hd=>?_) fun hb21 hd=>?_)))))))))
 · exact .sr (.ks 1 r (.nilS [4] r r (.ret (pret results158 (.t r .n) hl20 ⟨0,r,hd⟩))))
 exact .skipS [] r r (.sr (.ks 1 r (.nilS [4] r r (.ret (pret results158 (.t r .n) hl20 ⟨1,r,hd⟩)))))
theorem W_ref02_truth {I:IH} {a0:Bool} {Q:Wide→Prop}  (hd:ref02_truth a0 Q) :
  PFun prog 159 [.bool a0] I (fun _=>o2_ Q):=by
 refine Fun.enter func159 r ntmps159 r (.c .n) fun w0 M=>?_
 refine .sr (.allocA zv78 r r fun b3=>?_)
 refine .nilS [2,0] r r (.seq (.sr (.ks 1 r (.nilS [3,2] r r (.condP r hd (fun hb5 hd=>?_) fun hb5 hd=>?_)))))
 · exact .sr (.build zv78 un78 BI78 (.c r r r (.s (.t .nil)) .n) (by exact ⟨⟨_,_,r,r,r⟩,trivial⟩) r r (.storeA sz78 r r .z (.t (.t .nil)) r r (.nilS [2] r r (.ret (pret results159 (.w ia78 sz78 r .z r .n) (.refl _) ⟨({ Hi:=0,Lo:=1 }:Wide),r,hd⟩)))))
 exact .skipS [2] r r (.sr (.build zv78 un78 BI78 .n (by exact trivial) r r (.storeA sz78 r r .z (.t (.t .nil)) r r (.nilS [2] r r (.ret (pret results159 (.w ia78 sz78 r .z r .n) (.refl _) ⟨({ Hi:=0,Lo:=0 }:Wide),r,hd⟩))))))
theorem W_ref02_Add {I:IH} {a0:Int} {a1:Wide} {a2:Wide} {Q:Wide→Prop}  (hd:ref02_Add a0 a1 a2 Q) :
  PFun prog 123 [.int .i64 a0,.agg (encWide a1).toArray,.agg (encWide a2).toArray] I (fun _=>o2_ Q):=by
 refine Fun.enter func123 r ntmps123 r (.c (.c (.c .n))) fun w0 M=>?_
 refine .sr (.boxA r r r fun b7=>?_)
 refine .boxA r r r fun b9=>?_
 refine .allocA zv78 r r fun b11=>?_
 refine .nilS [6,5,4,0] r r (.sr (.ks 1 r (.nilS [7,6,5,4] r r (.block (.seq ?_)))))
 refine Cod.joinQ (σ:=Bool) hd (fun (s17:Bool) c w=>∃ I_,IH.le I I_∧Ok ⟨35,[],none⟩ [(4,.pointer (some ⟨b7,0,none⟩)),(5,.pointer (some ⟨b9,0,none⟩)),(6,.pointer (some ⟨b11,0,none⟩)),(7,.int .i64 a0),(9,.bool s17)] c∧Sym w0 M I I_ [pto b7 (.cells #[.int .i64 a1.Hi,.int .u64 a1.Lo] 78 (0,0)),pto b9 (.cells #[.int .i64 a2.Hi,.int .u64 a2.Lo] 78 (0,0)),pto b11 (.cells #[.int .i64 0,.int .u64 0] 78 (0,0))] w) (fun k18 hd=>?_) ?_
 · skip
   refine .sr (.ks 2 r (.nilS [9,7,6,5,4] r r (.condP r hd (fun hb19 hd=>?_) fun hb19 hd=>?_)))
   · exact .skip' fun c w ho hs=>⟨(a0==1),hd,I,(.refl _),ho.sub ⟨r,r,r,r,r,trivial⟩,hs.pick (.c (.s (.s .z)) (.c (.s .z) (.c .z .n)))⟩
   refine .sr (.ks 2 r (.nilS [9,7,6,5,4] r r (.condP r hd (fun hb20 hd=>?_) fun hb20 hd=>?_)))
   · exact .skip' fun c w ho hs=>⟨(a0==3),hd,I,(.refl _),ho.sub ⟨r,r,r,r,r,trivial⟩,hs.pick (.c (.s (.s .z)) (.c (.s .z) (.c .z .n)))⟩
   exact .region (.ks 2 r (.nil' fun c w ho hs=>⟨(a0==4),hd,I,(.refl _),ho.sub ⟨r,r,r,r,r,trivial⟩,hs.pick (.c (.s (.s .z)) (.c (.s .z) (.c .z .n)))⟩))
 rintro s17 hd c w hst
 obtain ⟨I21,hl22,hok,hsym⟩:=hst
 refine Cod.at hok hsym (.condP r hd (fun hb23 hd=>?_) fun hb23 hd=>?_)
 · refine .seq (.sr (.loadW ia78 sz78 r (.s .z) r r r (.loadW ia78 sz78 r .z r r r ?_)))
   have hw25:=W_ref01_Compare (I:=I21) hd
   refine .callP call158 r hw25 r r fun v26 hv27=>?_
   obtain ⟨r24,rfl,hd⟩:=hv27
   refine .ks 1 r (.nilS [16,6,5,4] r r (.condP r hd (fun hb28 hd=>?_) fun hb28 hd=>?_))
   · exact .sr (.loadW ia78 sz78 r (.s .z) r r r (.storeA sz78 r r (.s (.s .z)) (.t (.t .nil)) r r (.nilS [6] r r (.drop .z (.drop .z (.ret (pret results123 (.w ia78 sz78 r .z r .n) hl22 ⟨a2,r,hd⟩)))))))
   exact .skipS [6,4] r r (.drop (.s .z) (.sr (.loadW ia78 sz78 r .z r r r (.storeA sz78 r r (.s .z) (.t (.t .nil)) r r (.nilS [6] r r (.drop .z (.ret (pret results123 (.w ia78 sz78 r .z r .n) hl22 ⟨a1,r,hd⟩))))))))
 refine .sr (.ks 2 r (.nilS [19,7,6,5,4] r r (.condP r hd (fun hb29 hd=>?_) fun hb29 hd=>?_)))
 · refine .sr (.loadW ia78 sz78 r .z r r r (.build zv78 un78 BI78 .n (by exact trivial) r r (.neV r r (EQ78 a1 ({ Hi:=0,Lo:=0 }:Wide)) (EG78 _ _ _ _ _) r r r (.ks 1 r ?_))))
   refine splitP hd (fun hb30 hd=>?_) fun hb30 hd=>?_
   · rw [hb30]
     refine .ks 4 r ?_
     have hw32:=W_ref02_truth (I:=I21) hd
     refine .callP call159 r hw32 r r fun v33 hv34=>?_
     obtain ⟨r31,rfl,hd⟩:=hv34
     exact .storeA sz78 r r (.s (.s .z)) (.t (.t .nil)) r r (.nilS [6] r r (.drop .z (.drop .z (.ret (pret results123 (.w ia78 sz78 r .z r .n) hl22 ⟨r31,r,hd⟩)))))
   rw [hb30]
   refine .gyes r r r (.loadW ia78 sz78 r (.s .z) r r r (.gyes r r r (.build zv78 un78 BI78 .n (by exact trivial) r r (.gyes r r r (.neV r r (EQ78 a2 ({ Hi:=0,Lo:=0 }:Wide)) (EG78 _ _ _ _ _) r r r (.ks 1 r ?_))))))
   have hw36:=W_ref02_truth (I:=I21) hd
   refine .callP call159 r hw36 r r fun v37 hv38=>?_
   obtain ⟨r35,rfl,hd⟩:=hv38
   exact .storeA sz78 r r (.s (.s .z)) (.t (.t .nil)) r r (.nilS [6] r r (.drop .z (.drop .z (.ret (pret results123 (.w ia78 sz78 r .z r .n) hl22 ⟨r35,r,hd⟩)))))
 refine .sr (.ks 2 r (.nilS [30,6,5,4] r r (.condP r hd (fun hb39 hd=>?_) fun hb39 hd=>?_)))
 · refine .sr (.loadW ia78 sz78 r .z r r r (.loadW ia78 sz78 r (.s .z) r r r ?_))
   have hw41:=W_ref01_Add (I:=I21) hd
   refine .callP call157 r hw41 r r fun v42 hv43=>?_
   obtain ⟨r40,rfl,hd⟩:=hv43
   exact .storeA sz78 r r (.s (.s .z)) (.t (.t .nil)) r r (.nilS [6] r r (.drop .z (.drop .z (.ret (pret results123 (.w ia78 sz78 r .z r .n) hl22 ⟨r40,r,hd⟩)))))
 exact .sr (.build zv78 un78 BI78 .n (by exact trivial) r r (.storeA sz78 r r (.s (.s .z)) (.t (.t .nil)) r r (.nilS [6] r r (.drop .z (.drop .z (.ret (pret results123 (.w ia78 sz78 r .z r .n) hl22 ⟨({ Hi:=0,Lo:=0 }:Wide),r,hd⟩)))))))
theorem W_ref05_below {I:IH} {a0:Edge} {a1:Edge} {Q:Bool→Prop}  (hd:ref05_below a0 a1 Q) :
  PFun prog 134 [.agg (encEdge a0).toArray,.agg (encEdge a1).toArray] I (fun _=>o1_ Q):=by
 refine Fun.enter func134 r ntmps134 r (.c (.c .n)) fun w0 M=>?_
 refine .sr (.boxA r r r fun b5=>?_)
 refine .boxA r r r fun b7=>?_
 refine .ks 1 r (.nilS [3,2] r r (.sr (.fa un123 r sz3 r (o:=0) r r r (.load1 ia3 r (.s .z) r r r (.fa un123 r sz3 r (o:=0) r r r (.load1 ia3 r .z r r r (.ks 2 r ?_)))))))
 refine splitP hd (fun hb9 hd=>?_) fun hb9 hd=>?_
 · rw [hb9]
   exact .ks 14 r (.nilS [4] r r (.drop .z (.drop .z (.ret (pret results134 (.t r .n) (.refl _) ⟨true,r,hd⟩)))))
 rw [hb9]
 refine .gyes r r r (.fa un123 r sz3 r (o:=0) r r r (.gyes r r r (.load1 ia3 r (.s .z) r r r (.gyes r r r (.fa un123 r sz3 r (o:=0) r r r (.gyes r r r (.load1 ia3 r .z r r r (.ks 2 r ?_))))))))
 refine splitP hd (fun hb10 hd=>?_) fun hb10 hd=>?_
 · rw [hb10]
   exact .gyes r r r (.fa un123 r sz3 r (o:=1) r r r (.gyes r r r (.load1 ia3 r (.s .z) r r r (.gyes r r r (.fa un123 r sz3 r (o:=1) r r r (.gyes r r r (.load1 ia3 r .z r r r (.ks 4 r (.nilS [4] r r (.drop .z (.drop .z (.ret (pret results134 (.t r .n) (.refl _) ⟨(decide (a0.To<a1.To)),r,hd⟩)))))))))))))
 rw [hb10]
 exact .ks 8 r (.nilS [4] r r (.drop .z (.drop .z (.ret (pret results134 (.t r .n) (.refl _) ⟨false,r,hd⟩)))))
theorem W_ref01_Of {I:IH} {a0:Int} {Q:Wide→Prop}  (hd:ref01_Of a0 Q) :
  PFun prog 135 [.int .i64 a0] I (fun _=>o2_ Q):=by
 refine Fun.enter func135 r ntmps135 r (.c .n) fun w0 M=>?_
 refine .sr (.allocA zv78 r r fun b3=>?_)
 refine .nilS [2,0] r r (.seq (.sr (.ks 2 r (.nilS [4,2,0] r r (.condP r hd (fun hb5 hd=>?_) fun hb5 hd=>?_)))))
 · exact .sr (.ks 1 r (.conv un2 un76 r r r (.build zv78 un78 BI78 (.c r r r (.t .nil) (.c r r r (.s (.t .nil)) .n)) (by exact ⟨⟨_,_,r,r,r⟩,⟨⟨_,_,r,r,r⟩,trivial⟩⟩) r r (.storeA sz78 r r .z (.t (.t .nil)) r r (.nilS [2] r r (.ret (pret results135 (.w ia78 sz78 r .z r .n) (.refl _) ⟨({ Hi:=(-1),Lo:=IntKind.wrap .u64 (a0) }:Wide),r,hd⟩)))))))
 exact .skipS [2,0] r r (.sr (.ks 1 r (.conv un2 un76 r r r (.build zv78 un78 BI78 (.c r r r (.s (.t .nil)) .n) (by exact ⟨⟨_,_,r,r,r⟩,trivial⟩) r r (.storeA sz78 r r .z (.t (.t .nil)) r r (.nilS [2] r r (.ret (pret results135 (.w ia78 sz78 r .z r .n) (.refl _) ⟨({ Hi:=0,Lo:=IntKind.wrap .u64 (a0) }:Wide),r,hd⟩))))))))
theorem W_ref01_Narrow {I:IH} {a0:Wide} {Q:(Int×Bool)→Prop}  (hd:ref01_Narrow a0 Q) :
  PFun prog 136 [.agg (encWide a0).toArray] I (fun _=>o3_ Q):=by
 refine Fun.enter func136 r ntmps136 r (.c .n) fun w0 M=>?_
 refine .sr (.boxA r r r fun b3=>?_)
 refine .ks 2 r (.nilS [1] r r (.sr (.fa un78 r sz76 r (o:=1) r r r (.load1 ia76 r .z r r r (.conv un76 un2 r r r (.ks 1 r (.nilS [4,1] r r (.seq (.sr ?_)))))))))
 refine .fa un78 r sz2 r (o:=0) r r r (.load1 ia2 r .z r r r (.ks 2 r ?_))
 refine splitP hd (fun hb5 hd=>?_) fun hb5 hd=>?_
 · rw [hb5]
   refine .ks 4 r ?_
   refine splitP hd (fun hb6 hd=>?_) fun hb6 hd=>?_
   · rw [hb6]
     exact .ks 8 r (.nilS [23,4] r r (.drop .z (.condKT r r (.sr (.ks 3 r (.nilS [3,2] r r (.ret (pret results136 (.t r (.t r .n)) (.refl _) ⟨(w64 (a0.Lo),true),r,hd⟩))))))))
   rw [hb6]
   refine .gyes r r r (.fa un78 r sz2 r (o:=0) r r r (.gyes r r r (.load1 ia2 r .z r r r (.ks 2 r ?_))))
   refine splitP hd (fun hb7 hd=>?_) fun hb7 hd=>?_
   · rw [hb7]
     refine .ks 4 r (.nilS [23,4] r r (.drop .z (.condP r hd (fun hb8 hd=>?_) fun hb8 hd=>?_)))
     · exact .sr (.ks 3 r (.nilS [3,2] r r (.ret (pret results136 (.t r (.t r .n)) (.refl _) ⟨(w64 (a0.Lo),true),r,hd⟩))))
     exact .skipS [] r r (.sr (.ks 2 r (.nilS [3,2] r r (.ret (pret results136 (.t r (.t r .n)) (.refl _) ⟨(0,false),r,hd⟩)))))
   rw [hb7]
   exact .ks 4 r (.nilS [23,4] r r (.drop .z (.condKF r r (.skipS [] r r (.sr (.ks 2 r (.nilS [3,2] r r (.ret (pret results136 (.t r (.t r .n)) (.refl _) ⟨(0,false),r,hd⟩)))))))))
 rw [hb5]
 refine .ks 4 r (.gyes r r r (.fa un78 r sz2 r (o:=0) r r r (.gyes r r r (.load1 ia2 r .z r r r (.ks 2 r ?_)))))
 refine splitP hd (fun hb9 hd=>?_) fun hb9 hd=>?_
 · rw [hb9]
   refine .ks 4 r (.nilS [23,4] r r (.drop .z (.condP r hd (fun hb10 hd=>?_) fun hb10 hd=>?_)))
   · exact .sr (.ks 3 r (.nilS [3,2] r r (.ret (pret results136 (.t r (.t r .n)) (.refl _) ⟨(w64 (a0.Lo),true),r,hd⟩))))
   exact .skipS [] r r (.sr (.ks 2 r (.nilS [3,2] r r (.ret (pret results136 (.t r (.t r .n)) (.refl _) ⟨(0,false),r,hd⟩)))))
 rw [hb9]
 exact .ks 4 r (.nilS [23,4] r r (.drop .z (.condKF r r (.skipS [] r r (.sr (.ks 2 r (.nilS [3,2] r r (.ret (pret results136 (.t r (.t r .n)) (.refl _) ⟨(0,false),r,hd⟩)))))))))
theorem W_ref05_Combine {I:IH} {a0:Int} {a1:List Edge} {p1:Option Addr} {c2:Nat} {Q:((List Edge)×Int)→Prop} (R3:RepSl eEdge I p1 c2 a1) (hd:ref05_Combine a0 a1 Q) :
  PFun prog 88 [.int .i64 a0,.slice p1 a1.length c2] I (fun I_ v=>∃ r p4 c5,v=.tuple #[.slice p4 r.1.length c5,.int .i64 r.2]∧RepSl eEdge I_ p4 c5 r.1∧Q r):=by
 refine Fun.enter func88 r ntmps88 r (.c (.c .n)) fun w0 M=>?_
 refine .sr (.ks 2 r (.nilS [1,0] r r (.seq (.sr (.ks 1 r ?_)))))
 have hw13:=W_ref02_Is (I:=I) hd
 refine .callP call77 r hw13 r r fun v14 hv15=>?_
 obtain ⟨r12,rfl,hd⟩:=hv15
 refine .ks 1 r (.nilS [17,1,0] r r (.condP r hd (fun hb16 hd=>?_) fun hb16 hd=>?_))
 · exact .sr (.ks 2 r (.nilS [5,4] r r (.ret (pret results88 (.t r (.t r .n)) (.refl _) ⟨(([]:List Edge),8),_,_,r,(.nil _ _ _),hd⟩))))
 refine .skipS [1,0] r r (.sr (.ks 1 r (.nilS [6,1,0] r r (.sr (.ks 1 r (.nilS [7,6,1,0] r r (.seq (.sr (.ks 1 r ?_)))))))))
 refine .nilS [8,7,6,1,0] r r (.block (.own0 eEdge 123 (.own0 eWide 78 (.loop hd (fun (s:(List Edge)×(List Wide)×Int) c w=>match s with | (s2656,s2660,s2664)=>∃ I_ p2657 c2658 p2661 c2662,IH.le I I_∧Ok ⟨145,[],none⟩ [(0,.int .i64 a0),(1,.slice p1 a1.length c2),(6,.slice p2657 s2656.length c2658),(7,.slice p2661 s2660.length c2662),(8,.int .i64 s2664)] c∧Sym w0 M I I_ [OwnSl eEdge 123 p2657 c2658 s2656,OwnSl eWide 78 p2661 c2662 s2660] w) (fun c w ho hs=>⟨I,_,_,_,_,(.refl _),ho.sub ⟨r,r,r,r,r,trivial⟩,hs.pick (.c (.s .z) (.c .z .n))⟩) ?_))))
 rintro ⟨s2656,s2660,s2664⟩ next2667 hd c w hst
 obtain ⟨I2668,p2657,c2658,p2661,c2662,hl2669,hok,hsym⟩:=hst
 replace R3:=R3.mono hl2669
 refine Cod.at hok hsym (.seq (.sr (.ks 2 r (.len un121 r r r r (.ks 1 r (.nilS [21,8,7,6,1,0] r r (.condP r hd (fun hb2671 hd=>?_) fun hb2671 hd=>?_)))))))
 · refine .skipS [8,7,6,1,0] r r (.seq (.block (.sr (.ks 1 r (.nilS [9,8,7,6,1,0] r r (.seq ?_))))))
   refine Cod.joinQ (σ:=Int) hd (fun (s2820:Int) c w=>∃ I_,IH.le I2668 I_∧Ok ⟨145,[],none⟩ [(0,.int .i64 a0),(1,.slice p1 a1.length c2),(6,.slice p2657 s2656.length c2658),(7,.slice p2661 s2660.length c2662),(8,.int .i64 s2664),(9,.int .i64 s2820)] c∧Sym w0 M I I_ [OwnSl eEdge 123 p2657 c2658 s2656,OwnSl eWide 78 p2661 c2662 s2660] w) (fun k2821 hd=>?_) ?_
   · skip
     refine .block (.loop hd (fun (s2869:Int) c w=>∃ I_,IH.le I2668 I_∧Ok ⟨145,[],none⟩ [(0,.int .i64 a0),(1,.slice p1 a1.length c2),(6,.slice p2657 s2656.length c2658),(7,.slice p2661 s2660.length c2662),(8,.int .i64 s2664),(9,.int .i64 s2869)] c∧Sym w0 M I I_ [OwnSl eEdge 123 p2657 c2658 s2656,OwnSl eWide 78 p2661 c2662 s2660] w) (fun c w ho hs=>⟨I2668,(.refl _),ho.sub ⟨r,r,r,r,r,r,trivial⟩,hs.pick (.c .z (.c .z .n))⟩) ?_)
     rintro s2869 next2870 hd c w hst
     obtain ⟨I2871,hl2872,hok,hsym⟩:=hst
     have le2873:=IH.le.trans hl2669 hl2872
     replace R3:=R3.mono hl2872
     refine Cod.at hok hsym (.seq (.seq (.ownF .z fun hne2874=>?_)))
     refine .ownF (.s .z) fun hne2875=>?_
     refine .dr [0,1,2,3,4,5,6,7,8,9,10,11,12,13,14] 15 (.fk 2 r (.g r r r (fun _=>.len un121 r r r r .mk) (.fk 2 r ?_)))
     refine splitP hd (fun hb2876 hd=>?_) fun hb2876 hd=>?_
     · refine .g r r r (fun _=>.gyes r r hb2876 (.move r r r .mk)) (.g r r r (fun _=>.gyes r r hb2876 (.move r r r .mk)) ?_)
       obtain ⟨h2877,x2878,hx2879,hd⟩:=hd
       obtain ⟨b2880,e2881⟩:=hne2874 (idx_ne hx2879)
       cases e2881
       refine .g r r r (fun _=>.gyes r r hb2876 (.ixa0 un121 sz123 r r h2877 (idx_lt hx2879 h2877) r r .mk)) (.g r r r (fun _=>.gyes r r hb2876 (.loA (j:=0) isAgg123 sz123 .z hx2879 r r (.t (.t (.t .nil))) r r r .mk)) (.g r r r (fun _=>.gyes r r hb2876 (.move r r r .mk)) (.g r r r (fun _=>.gyes r r hb2876 (.move r r r .mk)) ?_)))
       obtain ⟨h2882,x2883,hx2884,hd⟩:=hd
       obtain ⟨b2885,o2886,cs2887,e2888,hC2889,hr2890⟩:=R3.2 _ _ hx2884
       cases hr2890
       refine .g r r r (fun _=>.gyes r r hb2876 (.ixa un121 sz123 r e2888 r h2882 (idx_lt hx2884 h2882) r r .mk)) (.g r r r (fun _=>.gyes r r hb2876 (.ldW isAgg123 sz123 hC2889 r r r r .mk)) (.ww r fun ex=>?_))
       have hw2892:=W_ref05_below (I:=I2871) hd
       refine .gyes r r hb2876 (.callP call134 r hw2892 r r fun v2893 hv2894=>?_)
       obtain ⟨r2891,rfl,hd⟩:=hv2894
       refine .so 2 r r r trivial (.g r r r (fun _=>.pickT r hb2876 r r r .mk) (.e2 15 (.nilS [38,9,8,7,6,1,0] r r (.condP r hd (fun hb2895 hd=>?_) fun hb2895 hd=>?_))))
       · exact .skipS [9,8,7,6,1,0] r r (.block (.region (.ks 3 r (.nil' fun c w ho hs=>⟨(w64 (s2869+1)),hd,I2871,hl2872,ho.sub ⟨r,r,r,r,r,r,trivial⟩,hs.pick (.c .z (.c .z .n))⟩))))
       exact .exit fun c w ho hs=>⟨s2869,hd,I2871,hl2872,ho.sub ⟨r,r,r,r,r,r,trivial⟩,hs.pick (.c .z (.c .z .n))⟩
     refine .g r r r (fun _=>.gno r r hb2876 r r .mk) (.g r r r (fun _=>.gno r r hb2876 r r .mk) (.g r r r (fun _=>.gno r r hb2876 r r .mk) (.g r r r (fun _=>.gno r r hb2876 r r .mk) (.g r r r (fun _=>.gno r r hb2876 r r .mk) (.g r r r (fun _=>.gno r r hb2876 r r .mk) (.g r r r (fun _=>.gno r r hb2876 r r .mk) (.g r r r (fun _=>.gno r r hb2876 r r .mk) (.g r r r (fun _=>.gno r r hb2876 r r .mk) (.g r r r (fun _=>.pickF r hb2876 r r r .mk) ?_)))))))))
     exact .e2 15 (.nilS [38,9,8,7,6,1,0] r r (.condKF r r (.exit fun c w ho hs=>⟨s2869,hd,I2871,hl2872,ho.sub ⟨r,r,r,r,r,r,trivial⟩,hs.pick (.c .z (.c .z .n))⟩)))
   rintro s2820 hd c w hst
   obtain ⟨I2896,hl2897,hok,hsym⟩:=hst
   have le2898:=IH.le.trans hl2669 hl2897
   replace R3:=R3.mono hl2897
   refine Cod.at hok hsym (.sr (.ks 2 r ?_))
   obtain ⟨h2914,x2915,hx2916,hd⟩:=hd
   obtain ⟨b2917,o2918,cs2919,e2920,hC2921,hr2922⟩:=R3.2 _ _ hx2916
   cases hr2922
   refine .ixa un121 sz123 r e2920 r h2914 (idx_lt hx2916 h2914) r r (.fa un123 r sz2 r (o:=o2918+s2664.toNat*3+2) r r r (.ld1 (j:=2) ia2 hC2921 r r r r r ?_))
   have hw2924:=W_ref01_Of (I:=I2896) hd
   refine .callP call135 r hw2924 r r fun v2925 hv2926=>?_
   obtain ⟨r2923,rfl,hd⟩:=hv2926
   refine .allocA zv78 r r fun b2927=>?_
   refine .storeA sz78 r r .z (.t (.t .nil)) r r (.nilS [10,9,8,7,6,1,0] r r (.seq (.seq ?_)))
   refine Cod.joinQ (σ:=Bool) hd (fun (s3055:Bool) c w=>∃ I_,IH.le I2896 I_∧Ok ⟨145,[],none⟩ [(0,.int .i64 a0),(1,.slice p1 a1.length c2),(6,.slice p2657 s2656.length c2658),(7,.slice p2661 s2660.length c2662),(8,.int .i64 s2664),(9,.int .i64 s2820),(10,.pointer (some ⟨b2927,0,none⟩)),(62,.bool s3055)] c∧Sym w0 M I I_ [OwnSl eEdge 123 p2657 c2658 s2656,OwnSl eWide 78 p2661 c2662 s2660,pto b2927 (.cells #[.int .i64 r2923.Hi,.int .u64 r2923.Lo] 78 (0,0))] w) (fun k3056 hd=>?_) ?_
   · skip
     refine .ownF (.s .z) fun hne3057=>?_
     refine .ownF (.s (.s .z)) fun hne3058=>?_
     refine .dr [0,1,2,3,4,5,6,7,8,9,10,11,12,13,14,15] 16 (.fk 2 r (.g r r r (fun _=>.len un121 r r r r .mk) (.fk 2 r ?_)))
     refine splitP hd (fun hb3059 hd=>?_) fun hb3059 hd=>?_
     · refine .g r r r (fun _=>.gyes r r hb3059 (.move r r r .mk)) (.g r r r (fun _=>.gyes r r hb3059 (.move r r r .mk)) ?_)
       obtain ⟨h3060,x3061,hx3062,hd⟩:=hd
       obtain ⟨b3063,o3064,cs3065,e3066,hC3067,hr3068⟩:=R3.2 _ _ hx3062
       cases hr3068
       refine .g r r r (fun _=>.gyes r r hb3059 (.ixa un121 sz123 r e3066 r h3060 (idx_lt hx3062 h3060) r r .mk)) (.g r r r (fun _=>.gyes r r hb3059 (.ldW isAgg123 sz123 hC3067 r r r r .mk)) (.g r r r (fun _=>.gyes r r hb3059 (.move r r r .mk)) (.g r r r (fun _=>.gyes r r hb3059 (.move r r r .mk)) ?_)))
       obtain ⟨h3069,x3070,hx3071,hd⟩:=hd
       obtain ⟨b3072,e3073⟩:=hne3057 (idx_ne hx3071)
       cases e3073
       refine .g r r r (fun _=>.gyes r r hb3059 (.ixa0 un121 sz123 r r h3069 (idx_lt hx3071 h3069) r r .mk)) (.g r r r (fun _=>.gyes r r hb3059 (.loA (j:=0) isAgg123 sz123 (.s .z) hx3071 r r (.t (.t (.t .nil))) r r r .mk)) (.ww r fun ex=>?_))
       have hw3075:=W_ref05_below (I:=I2896) hd
       refine .gyes r r hb3059 (.callP call134 r hw3075 r r fun v3076 hv3077=>?_)
       obtain ⟨r3074,rfl,hd⟩:=hv3077
       exact .so 3 r r r trivial (.g r r r (fun _=>.gyes r r hb3059 (.not r r r .mk)) (.g r r r (fun _=>.pickT r hb3059 r r r .mk) (.e2 16 (.nil' fun c w ho hs=>⟨(!r3074),hd,I2896,(.refl _),ho.sub ⟨r,r,r,r,r,r,r,r,trivial⟩,hs.pick (.c (.s .z) (.c (.s .z) (.c .z .n)))⟩))))
     refine .g r r r (fun _=>.gno r r hb3059 r r .mk) (.g r r r (fun _=>.gno r r hb3059 r r .mk) (.g r r r (fun _=>.gno r r hb3059 r r .mk) (.g r r r (fun _=>.gno r r hb3059 r r .mk) (.g r r r (fun _=>.gno r r hb3059 r r .mk) (.g r r r (fun _=>.gno r r hb3059 r r .mk) (.g r r r (fun _=>.gno r r hb3059 r r .mk) (.g r r r (fun _=>.gno r r hb3059 r r .mk) (.g r r r (fun _=>.gno r r hb3059 r r .mk) (.g r r r (fun _=>.gno r r hb3059 r r .mk) ?_)))))))))
     exact .g r r r (fun _=>.pickF r hb3059 r r r .mk) (.e2 16 (.nil' fun c w ho hs=>⟨false,hd,I2896,(.refl _),ho.sub ⟨r,r,r,r,r,r,r,r,trivial⟩,hs.pick (.c (.s .z) (.c (.s .z) (.c .z .n)))⟩))
   rintro s3055 hd c w hst
   obtain ⟨I3078,hl3079,hok,hsym⟩:=hst
   have le3080:=IH.le.trans le2898 hl3079
   have le3081:=IH.le.trans hl2897 hl3079
   replace R3:=R3.mono hl3079
   refine Cod.at hok hsym (.condP r hd (fun hb3082 hd=>?_) fun hb3082 hd=>?_)
   · refine .seq (.ownF .z fun hne3083=>?_)
     refine .ownF (.s .z) fun hne3084=>?_
     refine .dr [0,1,2,3,4,5,6,7,8] 9 (.fk 5 r ?_)
     obtain ⟨h3085,x3086,hx3087,hd⟩:=hd
     obtain ⟨b3088,e3089⟩:=hne3084 (idx_ne hx3087)
     cases e3089
     refine .g r r r (fun _=>.ixa0 un168 sz78 r r h3085 (idx_lt hx3087 h3085) r r .mk) (.g r r r (fun _=>.loA (j:=0) ia78 sz78 (.s .z) hx3087 r r (.t (.t .nil)) r r r .mk) (.g r r r (fun _=>.loadW ia78 sz78 r (.s (.s .z)) r r r .mk) (.ww r fun ex=>?_)))
     have hw3091:=W_ref02_Add (I:=I3078) hd
     refine .callP call123 r hw3091 r r fun v3092 hv3093=>?_
     obtain ⟨r3090,rfl,hd⟩:=hv3093
     refine .so 3 r r r (.ck 2 r r trivial) (.e2 9 ?_)
     obtain ⟨h3094,x3095,hx3096,hd⟩:=hd
     exact .ixa0 un168 sz78 r r h3094 (idx_lt hx3096 h3094) r r (.stOA (j:=0) (v':=r3090) sz78 (.s .z) hx3096 r r r (.t (.t .nil)) r r (.sub (E':=[(0,_),(1,_),(6,_),(7,.slice (some ⟨b3088,0,none⟩) (s2660.set s2820.toNat r3090).length c2662),(8,_),(9,_),(10,_),(62,_),(63,.slice (some ⟨b3088,0,none⟩) (s2660.set s2820.toNat r3090).length c2662),(64,_),(65,_),(66,.slice (some ⟨b3088,0,none⟩) (s2660.set s2820.toNat r3090).length c2662),(67,_),(68,_),(69,_),(70,_),(71,_),(72,_)]) ⟨r,r,r,(by simp only [List.length_set]; rfl),r,r,r,r,(by simp only [List.length_set]; rfl),r,r,(by simp only [List.length_set]; rfl),r,r,r,r,r,r,trivial⟩ (.nilS [8,7,6,1,0] r r (.drop (.s (.s .z)) (.exitS [8,7,6,1,0] r r (.region (.ks 3 r (.nil' fun c w ho hs=>⟨(s2656,(s2660.set s2820.toNat r3090),w64 (s2664+1)),hd,I3078,_,_,_,_,le3080,ho.sub ⟨r,r,r,r,r,trivial⟩,hs.pick (.c .z (.c .z .n))⟩))))))))
   refine .skipS [10,9,8,7,6,1,0] r r (.sr (.ks 1 r (.build zv123 un123 BI123 .n (by exact trivial) r r (.buildSlice 1 un121 sz123 zv123 r r (.c r r r .n) r r fun b3103=>?_))))
   obtain ⟨hl3105,hd⟩:=hd
   refine .append (ys:=[({ From:=0,To:=0,W:=0 }:Edge)]) 24 (.s .z) un121 un121 IN123 r r r r r r r r r (.box .z (.one r) r) hl3105 r r fun p3106 c3107=>?_
   refine .ks 1 r (.nilS [6,10,9,8,7,1,0] r r (.drop (.s .z) (.sr (.ks 1 r (.build zv78 un78 BI78 .n (by exact trivial) r r (.buildSlice 1 un168 sz78 zv78 r r (.c r r r .n) r r fun b3115=>?_))))))
   obtain ⟨hl3117,hd⟩:=hd
   refine .append (ys:=[({ Hi:=0,Lo:=0 }:Wide)]) 16 (.s (.s .z)) un168 un168 IN78 r r r r r r r r r (.box .z (.one r) r) hl3117 r r fun p3118 c3119=>?_
   refine .ks 1 r (.nilS [7,6,10,9,8,1,0] r r (.drop (.s .z) (.seq (.sr (.ks 1 r (.len un121 r r r r (.ks 2 r (.nilS [11,7,6,10,9,8,1,0] r r (.block ?_)))))))))
   refine .loop hd (fun (s:(List Edge)×(List Wide)×Int) c w=>match s with | (s3280,s3284,s3288)=>∃ I_ p3281 c3282 p3285 c3286,IH.le I3078 I_∧Ok ⟨145,[],none⟩ [(0,.int .i64 a0),(1,.slice p1 a1.length c2),(6,.slice p3281 s3280.length c3282),(7,.slice p3285 s3284.length c3286),(8,.int .i64 s2664),(9,.int .i64 s2820),(10,.pointer (some ⟨b2927,0,none⟩)),(11,.int .i64 s3288)] c∧Sym w0 M I I_ [OwnSl eEdge 123 p3281 c3282 s3280,OwnSl eWide 78 p3285 c3286 s3284,pto b2927 (.cells #[.int .i64 r2923.Hi,.int .u64 r2923.Lo] 78 (0,0))] w) (fun c w ho hs=>⟨I3078,_,_,_,_,(.refl _),ho.sub ⟨r,r,r,r,r,r,r,r,trivial⟩,hs.pick (.c (.s .z) (.c .z (.c .z .n)))⟩) ?_
   rintro ⟨s3280,s3284,s3288⟩ next3289 hd c w hst
   obtain ⟨I3290,p3281,c3282,p3285,c3286,hl3291,hok,hsym⟩:=hst
   have le3292:=IH.le.trans le3080 hl3291
   have le3293:=IH.le.trans le3081 hl3291
   have le3294:=IH.le.trans hl3079 hl3291
   replace R3:=R3.mono hl3291
   refine Cod.at hok hsym (.seq (.sr (.ks 3 r (.nilS [86,11,10,9,8,7,6,1,0] r r (.condP r hd (fun hb3296 hd=>?_) fun hb3296 hd=>?_)))))
   · refine .skipS [11,10,9,8,7,6,1,0] r r (.seq (.block (.sr (.ks 5 r ?_))))
     obtain ⟨h3297,x3298,hx3299,hd⟩:=hd
     refine .ownNe .z (idx_ne hx3299) fun b3300 e3301=>?_
     cases e3301
     refine .ixa0 un121 sz123 r r h3297 (idx_lt hx3299 h3297) r r (.loA (j:=0) isAgg123 sz123 .z hx3299 r r (.t (.t (.t .nil))) r r r ?_)
     obtain ⟨h3302,x3303,hx3304,hd⟩:=hd
     refine .ixa0 un121 sz123 r r h3302 (idx_lt hx3304 h3302) r r (.stOA (j:=0) (v':=x3298) sz123 .z hx3304 r r r (.t (.t (.t .nil))) r r (.sub (E':=[(0,_),(1,_),(6,.slice (some ⟨b3300,0,none⟩) (s3280.set s3288.toNat x3298).length c3282),(7,_),(8,_),(9,_),(10,_),(11,_),(89,.slice (some ⟨b3300,0,none⟩) (s3280.set s3288.toNat x3298).length c3282),(90,_),(91,.slice (some ⟨b3300,0,none⟩) (s3280.set s3288.toNat x3298).length c3282),(92,_),(93,_),(94,_),(95,_),(96,_)]) ⟨r,r,(by simp only [List.length_set]; rfl),r,r,r,r,r,(by simp only [List.length_set]; rfl),r,(by simp only [List.length_set]; rfl),r,r,r,r,r,trivial⟩ (.nilS [11,10,9,8,7,6,1,0] r r (.region (.ks 5 r ?_)))))
     obtain ⟨h3305,x3306,hx3307,hd⟩:=hd
     refine .ownNe (.s .z) (idx_ne hx3307) fun b3308 e3309=>?_
     cases e3309
     refine .ixa0 un168 sz78 r r h3305 (idx_lt hx3307 h3305) r r (.loA (j:=0) ia78 sz78 (.s .z) hx3307 r r (.t (.t .nil)) r r r ?_)
     obtain ⟨h3310,x3311,hx3312,hd⟩:=hd
     exact .ixa0 un168 sz78 r r h3310 (idx_lt hx3312 h3310) r r (.stOA (j:=0) (v':=x3306) sz78 (.s .z) hx3312 r r r (.t (.t .nil)) r r (.sub (E':=[(0,_),(1,_),(6,_),(7,.slice (some ⟨b3308,0,none⟩) (s3284.set s3288.toNat x3306).length c3286),(8,_),(9,_),(10,_),(11,_),(97,.slice (some ⟨b3308,0,none⟩) (s3284.set s3288.toNat x3306).length c3286),(98,_),(99,.slice (some ⟨b3308,0,none⟩) (s3284.set s3288.toNat x3306).length c3286),(100,_),(101,_),(102,_),(103,_),(104,_)]) ⟨r,r,r,(by simp only [List.length_set]; rfl),r,r,r,r,(by simp only [List.length_set]; rfl),r,(by simp only [List.length_set]; rfl),r,r,r,r,r,trivial⟩ (.nilS [11,10,9,8,7,6,1,0] r r (.region (.ks 3 r (.nil' fun c w ho hs=>⟨((s3280.set s3288.toNat x3298),(s3284.set s3288.toNat x3306),w64 (s3288 - 1)),hd,I3290,_,_,_,_,hl3291,ho.sub ⟨r,r,r,r,r,r,r,r,trivial⟩,hs.pick (.c .z (.c .z (.c .z .n)))⟩))))))
   refine .exitS [10,9,8,7,6,1,0] r r (.seq (.ownF .z fun hne3313=>?_))
   refine .ownF (.s .z) fun hne3314=>?_
   refine .dr [0,1,2,3,4,5,6,7,8,9,10,11,12] 13 (.fk 4 r ?_)
   obtain ⟨h3315,x3316,hx3317,hd⟩:=hd
   obtain ⟨b3318,o3319,cs3320,e3321,hC3322,hr3323⟩:=R3.2 _ _ hx3317
   cases hr3323
   refine .g r r r (fun _=>.ixa un121 sz123 r e3321 r h3315 (idx_lt hx3317 h3315) r r .mk) (.g r r r (fun _=>.fa un123 r sz3 r (o:=o3319+s2664.toNat*3) r r r .mk) (.g r r r (fun _=>.ld1 (j:=0) ia3 hC3322 r r r r r .mk) (.fk 2 r ?_)))
   obtain ⟨h3324,x3325,hx3326,hd⟩:=hd
   obtain ⟨b3327,o3328,cs3329,e3330,hC3331,hr3332⟩:=R3.2 _ _ hx3326
   cases hr3332
   refine .g r r r (fun _=>.ixa un121 sz123 r e3330 r h3324 (idx_lt hx3326 h3324) r r .mk) (.g r r r (fun _=>.fa un123 r sz3 r (o:=o3328+s2664.toNat*3+1) r r r .mk) (.g r r r (fun _=>.ld1 (j:=1) ia3 hC3331 r r r r r .mk) (.g r r r (fun _=>.build zv123 un123 BI123 (.c r r r (.t .nil) (.c r r r (.s (.t .nil)) .n)) (by exact ⟨⟨_,_,r,r,r⟩,⟨⟨_,_,r,r,r⟩,trivial⟩⟩) r r .mk) (.e2 13 ?_))))
   obtain ⟨h3333,x3334,hx3335,hd⟩:=hd
   obtain ⟨b3336,e3337⟩:=hne3313 (idx_ne hx3335)
   cases e3337
   refine .ixa0 un121 sz123 r r h3333 (idx_lt hx3335 h3333) r r (.stOA (j:=0) (v':=({ From:=x3316.From,To:=x3325.To,W:=0 }:Edge)) sz123 .z hx3335 r r r (.t (.t (.t .nil))) r r (.sub (E':=[(0,_),(1,_),(6,.slice (some ⟨b3336,0,none⟩) (s3280.set s2820.toNat ({ From:=x3316.From,To:=x3325.To,W:=0 }:Edge)).length c3282),(7,_),(8,_),(9,_),(10,_),(105,.slice (some ⟨b3336,0,none⟩) (s3280.set s2820.toNat ({ From:=x3316.From,To:=x3325.To,W:=0 }:Edge)).length c3282),(106,_),(107,_),(108,_),(109,_),(110,_),(111,_),(112,_),(113,_),(114,_),(115,_),(116,_),(117,_),(118,_)]) ⟨r,r,(by simp only [List.length_set]; rfl),r,r,r,r,(by simp only [List.length_set]; rfl),r,r,r,r,r,r,r,r,r,r,r,r,r,trivial⟩ (.nilS [10,9,8,7,6,1,0] r r (.region (.ks 2 r (.loadW ia78 sz78 r (.s (.s .z)) r r r ?_))))))
   obtain ⟨h3338,x3339,hx3340,hd⟩:=hd
   obtain ⟨b3341,e3342⟩:=hne3314 (idx_ne hx3340)
   cases e3342
   exact .ixa0 un168 sz78 r r h3338 (idx_lt hx3340 h3338) r r (.stOA (j:=0) (v':=r2923) sz78 (.s .z) hx3340 r r r (.t (.t .nil)) r r (.sub (E':=[(0,_),(1,_),(6,_),(7,.slice (some ⟨b3341,0,none⟩) (s3284.set s2820.toNat r2923).length c3286),(8,_),(9,_),(10,_),(119,.slice (some ⟨b3341,0,none⟩) (s3284.set s2820.toNat r2923).length c3286),(120,_),(121,_),(122,_)]) ⟨r,r,r,(by simp only [List.length_set]; rfl),r,r,r,(by simp only [List.length_set]; rfl),r,r,r,trivial⟩ (.nilS [8,7,6,1,0] r r (.drop (.s (.s .z)) (.region (.ks 3 r (.nil' fun c w ho hs=>⟨((s3280.set s2820.toNat ({ From:=x3316.From,To:=x3325.To,W:=0 }:Edge)),(s3284.set s2820.toNat r2923),w64 (s2664+1)),hd,I3290,_,_,_,_,le3292,ho.sub ⟨r,r,r,r,r,trivial⟩,hs.pick (.c .z (.c .z .n))⟩)))))))
 refine .exitS [7,6] r r (.seq (.sr (.ks 1 r (.nilS [12,7,6] r r (.block (.loop hd (fun (s:(List Edge)×Int) c w=>match s with | (s3410,s3414)=>∃ I_ p3411 c3412,IH.le I2668 I_∧Ok ⟨145,[],none⟩ [(6,.slice p3411 s3410.length c3412),(7,.slice p2661 s2660.length c2662),(12,.int .i64 s3414)] c∧Sym w0 M I I_ [OwnSl eEdge 123 p3411 c3412 s3410,OwnSl eWide 78 p2661 c2662 s2660] w) (fun c w ho hs=>⟨I2668,_,_,(.refl _),ho.sub ⟨r,r,r,trivial⟩,hs.pick (.c .z (.c .z .n))⟩) ?_))))))
 rintro ⟨s3410,s3414⟩ next3415 hd c w hst
 obtain ⟨I3416,p3411,c3412,hl3417,hok,hsym⟩:=hst
 have le3418:=IH.le.trans hl2669 hl3417
 refine Cod.at hok hsym (.seq (.sr (.ks 2 r (.len un121 r r r r (.ks 1 r (.nilS [126,12,7,6] r r (.condP r hd (fun hb3420 hd=>?_) fun hb3420 hd=>?_)))))))
 · refine .skipS [12,7,6] r r (.seq (.block (.sr (.ks 2 r ?_))))
   obtain ⟨h3430,x3431,hx3432,hd⟩:=hd
   refine .ownNe (.s .z) (idx_ne hx3432) fun b3433 e3434=>?_
   cases e3434
   refine .ixa0 un168 sz78 r r h3430 (idx_lt hx3432 h3430) r r (.loA (j:=0) ia78 sz78 (.s .z) hx3432 r r (.t (.t .nil)) r r r ?_)
   have hw3436:=W_ref01_Narrow (I:=I3416) hd
   refine .callP call136 r hw3436 r r fun v3437 hv3438=>?_
   obtain ⟨r3435,rfl,hd⟩:=hv3438
   refine .ks 5 r (.nilS [14,13,12,7,6] r r (.seq (.sr (.ks 2 r (.nilS [138,13,12,7,6] r r (.condP r hd (fun hb3439 hd=>?_) fun hb3439 hd=>?_))))))
   · exact .sr (.ks 2 r (.nilS [5,4] r r (.drop .z (.drop .z (.ret (pret results88 (.t r (.t r .n)) le3418 ⟨(([]:List Edge),12),_,_,r,(.nil _ _ _),hd⟩))))))
   refine .skipS [13,12,7,6] r r (.region (.ks 3 r ?_))
   obtain ⟨h3440,x3441,hx3442,hd⟩:=hd
   refine .ownNe .z (idx_ne hx3442) fun b3443 e3444=>?_
   cases e3444
   exact .ixa0 un121 sz123 r r h3440 (idx_lt hx3442 h3440) r r (.fa un123 r sz2 r (o:=s3414.toNat*3+2) r r r (.stO1 (j:=2) (v':=({ From:=x3441.From,To:=x3441.To,W:=r3435.1 }:Edge)) sz2 .z hx3442 r r r (.s (.s (.t .nil))) r (.sub (E':=[(6,.slice (some ⟨b3443,0,none⟩) (s3410.set s3414.toNat ({ From:=x3441.From,To:=x3441.To,W:=r3435.1 }:Edge)).length c3412),(7,_),(12,_),(13,_),(139,.slice (some ⟨b3443,0,none⟩) (s3410.set s3414.toNat ({ From:=x3441.From,To:=x3441.To,W:=r3435.1 }:Edge)).length c3412),(140,_),(141,_),(142,_),(143,_)]) ⟨(by simp only [List.length_set]; rfl),r,r,r,(by simp only [List.length_set]; rfl),r,r,r,r,trivial⟩ (.nilS [12,7,6] r r (.region (.ks 3 r (.nil' fun c w ho hs=>⟨((s3410.set s3414.toNat ({ From:=x3441.From,To:=x3441.To,W:=r3435.1 }:Edge)),w64 (s3414+1)),hd,I3416,_,_,hl3417,ho.sub ⟨r,r,r,trivial⟩,hs.pick (.c .z (.c .z .n))⟩)))))))
 refine .exitS [6] r r (.drop (.s .z) (.sr (.ks 3 r (.nilS [5,4] r r (.pub .z fun I3445 hl3446 R3447=>?_)))))
 have le3448:=IH.le.trans le3418 hl3446
 have le3449:=IH.le.trans hl3417 hl3446
 exact .ret (pret results88 (.t r (.t r .n)) le3448 ⟨(s3410,0),_,_,r,R3447,hd⟩)
theorem W_ref07_Empty {I:IH} {a0:Int} {a1:Int} {Q:Rows→Prop}  (hd:ref07_Empty a0 a1 Q) :
  OFun prog 47 [.int .i64 a0,.int .i64 a1] I (fun _=>o4_ Q):=by
 refine Fun.enter func47 r ntmps47 r (.c (.c .n)) fun w0 M=>?_
 refine .sr (.allocA zv34 r r fun b10=>?_)
 refine .nilS [4,1,0] r r (.sr (.ks 4 r ?_))
 obtain ⟨h12,h13,hd⟩:=hd
 refine .make (El:=eI64) (zv:=0) 8 un31 IN3 r r r r r r h12 h13 r r r fun b14=>?_
 exact .build zv34 un34 BI34 (.c r r r (.t .nil) (.c r r r (.s (.t .nil)) (.c r r r (.s (.s (.t .nil))) .n))) (by exact ⟨⟨_,_,r,r,r⟩,⟨⟨_,_,r,r,r⟩,⟨⟨_,_,r,r,r⟩,trivial⟩⟩⟩) r r (.storeA sz34 r r (.s .z) (.t (.t (.t (.t (.t .nil))))) r r (.nilS [4] r r (.own0 eI64 3 (.own0 eI64 2 (.ret (oret results47 (.w ia34 sz34 r (.s (.s (.s .z))) r .n) (.refl _) (.c (.s (.s .z)) (.c (.s .z) (.c .z .n))) ⟨({ Rows:=a0,Cols:=a1,Start:=(List.replicate (w64 (a0+1)).toNat 0),Col:=([]:List Int),Val:=([]:List Int) }:Rows),_,_,_,_,_,_,r,r,hd⟩))))))
theorem W_ref07_built {I:IH} {a0:Int} {a1:Int} {a2:List Triple} {p1:Option Addr} {c2:Nat} {Q:Rows→Prop} (R3:RepSl eTriple I p1 c2 a2) (hd:ref07_built a0 a1 a2 Q) :
  PFun prog 89 [.int .i64 a0,.int .i64 a1,.slice p1 a2.length c2] I (o5_ Q):=by
 refine Fun.enter func89 r ntmps89 r (.c (.c (.c .n))) fun w0 M=>?_
 refine .sr (.allocA zv34 r r fun b15=>?_)
 refine .nilS [6,2,1,0] r r (.sr (.ks 2 r ?_))
 have hw56:=W_ref07_Empty (I:=I) hd
 refine .callO call47 r hw56 r r fun v42 I39 l43 hl40 hv41=>?_
 obtain ⟨r38,p44,c45,p47,c48,p50,c51,rfl,rfl,hd⟩:=hv41
 replace R3:=R3.mono hl40
 refine .allocA zv34 r r fun b57=>?_
 refine .storeA sz34 r r .z (.t (.t (.t (.t (.t .nil))))) r r (.nilS [7,6,2,0] r r (.seq (.sr (.ks 1 r (.nilS [8,7,6,2,0] r r (.block (.loop hd (fun (s:(List Int)×(List Int)×(List Int)×Int) c w=>match s with | (s390,s394,s398,s402)=>∃ I_ p391 c392 p395 c396 p399 c400,IH.le I39 I_∧Ok ⟨58,[],none⟩ [(0,.int .i64 a0),(2,.slice p1 a2.length c2),(6,.pointer (some ⟨b15,0,none⟩)),(7,.pointer (some ⟨b57,0,none⟩)),(8,.int .i64 s402)] c∧Sym w0 M I I_ [pto b15 (.cells #[.int .i64 0,.int .i64 0,.slice none 0 0,.slice none 0 0,.slice none 0 0] 34 (0,0)),pto b57 (.cells #[.int .i64 r38.Rows,.int .i64 r38.Cols,.slice p391 s390.length c392,.slice p395 s394.length c396,.slice p399 s398.length c400] 34 (0,0)),OwnSl eI64 3 p391 c392 s390,OwnSl eI64 3 p395 c396 s394,OwnSl eI64 2 p399 c400 s398] w) (fun c w ho hs=>⟨I39,_,_,_,_,_,_,(.refl _),ho.sub ⟨r,r,r,r,r,trivial⟩,hs.pick (.c (.s (.s (.s (.s .z)))) (.c .z (.c .z (.c .z (.c .z .n)))))⟩) ?_)))))))
 rintro ⟨s390,s394,s398,s402⟩ next403 hd c w hst
 obtain ⟨I404,p391,c392,p395,c396,p399,c400,hl405,hok,hsym⟩:=hst
 have le406:=IH.le.trans hl40 hl405
 replace R3:=R3.mono hl405
 refine Cod.at hok hsym (.seq (.sr (.ks 2 r (.len un24 r r r r (.ks 1 r (.nilS [16,8,7,6,2,0] r r (.condP r hd (fun hb408 hd=>?_) fun hb408 hd=>?_)))))))
 · refine .skipS [8,7,6,2,0] r r (.seq (.block (.seq (.ownF (.s (.s .z)) fun hne427=>?_))))
   refine .ownF (.s (.s (.s .z))) fun hne428=>?_
   refine .ownF (.s (.s (.s (.s .z)))) fun hne429=>?_
   refine .dr [0,1,2,3,4,5,6,7,8] 9 (.g r r r (fun _=>.fa un34 r sz31 r (o:=3) r r r .mk) (.g r r r (fun _=>.load1 ia31 r (.s .z) r r r .mk) (.fk 2 r ?_)))
   obtain ⟨h430,x431,hx432,hd⟩:=hd
   obtain ⟨b433,o434,cs435,e436,hC437,hr438⟩:=R3.2 _ _ hx432
   cases hr438
   refine .g r r r (fun _=>.ixa un24 sz75 r e436 r h430 (idx_lt hx432 h430) r r .mk) (.g r r r (fun _=>.fa un75 r sz3 r (o:=o434+s402.toNat*3+1) r r r .mk) (.g r r r (fun _=>.ld1 (j:=1) ia3 hC437 r r r r r .mk) (.ww r fun ex=>?_)))
   refine .buildSlice 1 un31 sz3 zv3 r r (.c r r r .n) r r fun b439=>?_
   refine .so 6 r r r (.cg r r r r (fun _=>.load1 ia31 r (.s (.s .z)) r r r .mk) (.cg r r r r (fun _=>.fa un34 r sz31 r (o:=3) r r r .mk) trivial)) (.ww r fun ex=>?_)
   obtain ⟨hl441,hd⟩:=hd
   refine .append (ys:=[x431.Col]) 8 (.s (.s (.s (.s .z)))) un31 un31 IN3 r r r r r r r r r (.box .z (.one r) r) hl441 r r fun p442 c443=>?_
   refine .so 6 r r r trivial (.e2 9 (.fa un34 r sz31 r (o:=3) r r r (.store1 sz31 r r (.s (.s (.s .z))) (.s (.s (.s (.t .nil)))) r (.nilS [8,7,6,2,0] r r (.drop (.s .z) (.seq (.ownF .z fun hne463=>?_)))))))
   refine .ownF (.s (.s (.s .z))) fun hne464=>?_
   refine .ownF (.s (.s (.s (.s .z)))) fun hne465=>?_
   refine .dr [0,1,2,3,4,5,6,7,8] 9 (.g r r r (fun _=>.fa un34 r sz32 r (o:=4) r r r .mk) (.g r r r (fun _=>.load1 ia32 r (.s (.s .z)) r r r .mk) (.fk 2 r ?_)))
   obtain ⟨h466,x467,hx468,hd⟩:=hd
   obtain ⟨b469,o470,cs471,e472,hC473,hr474⟩:=R3.2 _ _ hx468
   cases hr474
   refine .g r r r (fun _=>.ixa un24 sz75 r e472 r h466 (idx_lt hx468 h466) r r .mk) (.g r r r (fun _=>.fa un75 r sz2 r (o:=o470+s402.toNat*3+2) r r r .mk) (.g r r r (fun _=>.ld1 (j:=2) ia2 hC473 r r r r r .mk) (.ww r fun ex=>?_)))
   refine .buildSlice 1 un32 sz2 zeroValue2 r r (.c r r r .n) r r fun b475=>?_
   refine .so 6 r r r (.cg r r r r (fun _=>.load1 ia32 r (.s (.s (.s .z))) r r r .mk) (.cg r r r r (fun _=>.fa un34 r sz32 r (o:=4) r r r .mk) trivial)) (.ww r fun ex=>?_)
   obtain ⟨hl477,hd⟩:=hd
   refine .append (ys:=[x467.Val]) 8 (.s (.s (.s (.s (.s .z))))) un32 un32 IN2 r r r r r r r r r (.box .z (.one r) r) hl477 r r fun p478 c479=>?_
   refine .so 6 r r r trivial (.e2 9 (.fa un34 r sz32 r (o:=4) r r r (.store1 sz32 r r (.s (.s (.s (.s .z)))) (.s (.s (.s (.s (.t .nil))))) r (.nilS [8,7,6,2,0] r r (.drop (.s .z) (.sr (.ks 2 r ?_)))))))
   obtain ⟨h490,x491,hx492,hd⟩:=hd
   obtain ⟨b493,o494,cs495,e496,hC497,hr498⟩:=R3.2 _ _ hx492
   cases hr498
   refine .ixa un24 sz75 r e496 r h490 (idx_lt hx492 h490) r r (.fa un75 r sz3 r (o:=o494+s402.toNat*3) r r r (.ld1 (j:=0) ia3 hC497 r r r r r (.ks 2 r (.nilS [9,8,7,6,2,0] r r (.block (.loop hd (fun (s:(List Int)×Int) c w=>match s with | (s534,s538)=>∃ I_ p535 c536,IH.le I404 I_∧Ok ⟨58,[],none⟩ [(0,.int .i64 a0),(2,.slice p1 a2.length c2),(6,.pointer (some ⟨b15,0,none⟩)),(7,.pointer (some ⟨b57,0,none⟩)),(8,.int .i64 s402),(9,.int .i64 s538)] c∧Sym w0 M I I_ [pto b15 (.cells #[.int .i64 0,.int .i64 0,.slice none 0 0,.slice none 0 0,.slice none 0 0] 34 (0,0)),pto b57 (.cells #[.int .i64 r38.Rows,.int .i64 r38.Cols,.slice p535 s534.length c536,.slice p442 (s394++([x431.Col])).length c443,.slice p478 (s398++([x467.Val])).length c479] 34 (0,0)),OwnSl eI64 3 p535 c536 s534,OwnSl eI64 3 p442 c443 (s394++([x431.Col])),OwnSl eI64 2 p478 c479 (s398++([x467.Val]))] w) (fun c w ho hs=>⟨I404,_,_,(.refl _),ho.sub ⟨r,r,r,r,r,r,trivial⟩,hs.pick (.c (.s (.s .z)) (.c (.s (.s .z)) (.c (.s (.s .z)) (.c (.s .z) (.c .z .n)))))⟩) ?_))))))
   rintro ⟨s534,s538⟩ next539 hd c w hst
   obtain ⟨I540,p535,c536,hl541,hok,hsym⟩:=hst
   have le542:=IH.le.trans le406 hl541
   have le543:=IH.le.trans hl405 hl541
   replace R3:=R3.mono hl541
   refine Cod.at hok hsym (.seq (.sr (.ks 3 r (.nilS [47,9,8,7,6,2,0] r r (.condP r hd (fun hb545 hd=>?_) fun hb545 hd=>?_)))))
   · refine .skipS [9,8,7,6,2,0] r r (.seq (.block (.region (.fa un34 r sz31 r (o:=2) r r r (.load1 ia31 r (.s .z) r r r (.ks 1 r ?_))))))
     obtain ⟨h546,x547,hx548,hd⟩:=hd
     refine .ownNe (.s (.s .z)) (idx_ne hx548) fun b549 e550=>?_
     cases e550
     refine .ixa0 un31 sz3 r r h546 (idx_lt hx548 h546) r r (.lo1 (j:=0) ia3 (.s (.s .z)) hx548 r r r r r (.ks 1 r ?_))
     obtain ⟨h551,x552,hx553,hd⟩:=hd
     exact .ixa0 un31 sz3 r r h551 (idx_lt hx553 h551) r r (.stO1 (j:=0) (v':=(w64 (x547+1))) sz3 (.s (.s .z)) hx553 r r r (.t .nil) r (.sub (E':=[(0,_),(2,_),(6,_),(7,_),(8,_),(9,_),(50,_),(51,.slice (some ⟨b549,0,none⟩) (s534.set s538.toNat (w64 (x547+1))).length c536),(52,_),(53,_),(54,_),(55,_),(56,_)]) ⟨r,r,r,r,r,r,r,(by simp only [List.length_set]; rfl),r,r,r,r,r,trivial⟩ (.reat (.s .z) (B:=pto b57 (.cells #[.int .i64 r38.Rows,.int .i64 r38.Cols,.slice (some ⟨b549,0,none⟩) (s534.set s538.toNat (w64 (x547+1))).length c536,.slice p442 (s394++([x431.Col])).length c443,.slice p478 (s398++([x467.Val])).length c479] 34 (0,0))) (by simp only [List.length_set]) (.nilS [9,8,7,6,2,0] r r (.region (.ks 3 r (.nil' fun c w ho hs=>⟨((s534.set s538.toNat (w64 (x547+1))),w64 (s538+1)),hd,I540,_,_,hl541,ho.sub ⟨r,r,r,r,r,r,trivial⟩,hs.pick (.c .z (.c .z (.c .z (.c .z (.c .z .n)))))⟩)))))))
   exact .exitS [8,7,6,2,0] r r (.region (.ks 3 r (.nil' fun c w ho hs=>⟨(s534,(s394++([x431.Col])),(s398++([x467.Val])),w64 (s402+1)),hd,I540,_,_,_,_,_,_,le543,ho.sub ⟨r,r,r,r,r,trivial⟩,hs.pick (.c .z (.c .z (.c .z (.c .z (.c .z .n)))))⟩)))
 refine .exitS [7,6] r r (.sr (.loadW ia34 sz34 r (.s .z) r r r (.storeA sz34 r r .z (.t (.t (.t (.t (.t .nil))))) r r (.nilS [6] r r (.drop (.s .z) (.pub (.s .z) fun I554 hl555 R556=>?_))))))
 have le557:=IH.le.trans le406 hl555
 have le558:=IH.le.trans hl405 hl555
 refine .pub (.s .z) fun I559 hl560 R561=>?_
 have le562:=IH.le.trans le557 hl560
 have le563:=IH.le.trans le558 hl560
 replace R556:=R556.mono hl560
 refine .pub (.s .z) fun I564 hl565 R566=>?_
 have le567:=IH.le.trans le562 hl565
 have le568:=IH.le.trans le563 hl565
 replace R556:=R556.mono hl565
 replace R561:=R561.mono hl565
 exact .ret (pret results89 (.w ia34 sz34 r .z r .n) le567 ⟨({ Rows:=r38.Rows,Cols:=r38.Cols,Start:=s390,Col:=s394,Val:=s398 }:Rows),_,_,_,_,_,_,r,R556,R561,R566,hd⟩)
theorem W_ref07_Of {I:IH} {a0:Int} {a1:Int} {a2:Int} {a3:List Triple} {p1:Option Addr} {c2:Nat} {Q:(Rows×Int)→Prop} (R3:RepSl eTriple I p1 c2 a3) (hd:ref07_Of a0 a1 a2 a3 Q) :
  PFun prog 38 [.int .i64 a0,.int .i64 a1,.int .i64 a2,.slice p1 a3.length c2] I (o6_ Q):=by
 refine Fun.enter func38 r ntmps38 r (.c (.c (.c (.c .n)))) fun w0 M=>?_
 refine .sr (.allocA zv34 r r fun b15=>?_)
 refine .ks 1 r (.nilS [8,3,2,1,0] r r (.seq (.sr (.ks 1 r ?_))))
 have hw23:=W_ref02_Is (I:=I) hd
 refine .callP call77 r hw23 r r fun v24 hv25=>?_
 obtain ⟨r22,rfl,hd⟩:=hv25
 refine .ks 1 r (.nilS [17,8,3,2,1,0] r r (.condP r hd (fun hb26 hd=>?_) fun hb26 hd=>?_))
 · exact .sr (.build zv34 un34 BI34 .n (by exact trivial) r r (.storeA sz34 r r .z (.t (.t (.t (.t (.t .nil))))) r r (.ks 1 r (.nilS [9,8] r r (.ret (pret results38 (.w ia34 sz34 r .z r (.t r .n)) (.refl _) ⟨(({ Rows:=0,Cols:=0,Start:=([]:List Int),Col:=([]:List Int),Val:=([]:List Int) }:Rows),8),_,_,_,_,_,_,r,(.nil _ _ _),(.nil _ _ _),(.nil _ _ _),hd⟩))))))
 refine .skipS [8,3,2,1,0] r r (.seq (.sr (.ks 3 r ?_)))
 refine splitP hd (fun hb31 hd=>?_) fun hb31 hd=>?_
 · rw [hb31]
   exact .ks 11 r (.nilS [32,8,3,2,1,0] r r (.condKT r r (.sr (.build zv34 un34 BI34 .n (by exact trivial) r r (.storeA sz34 r r .z (.t (.t (.t (.t (.t .nil))))) r r (.ks 1 r (.nilS [9,8] r r (.ret (pret results38 (.w ia34 sz34 r .z r (.t r .n)) (.refl _) ⟨(({ Rows:=0,Cols:=0,Start:=([]:List Int),Col:=([]:List Int),Val:=([]:List Int) }:Rows),3),_,_,_,_,_,_,r,(.nil _ _ _),(.nil _ _ _),(.nil _ _ _),hd⟩)))))))))
 rw [hb31]
 refine .ks 4 r ?_
 refine splitP hd (fun hb32 hd=>?_) fun hb32 hd=>?_
 · rw [hb32]
   exact .ks 7 r (.nilS [32,8,3,2,1,0] r r (.condKT r r (.sr (.build zv34 un34 BI34 .n (by exact trivial) r r (.storeA sz34 r r .z (.t (.t (.t (.t (.t .nil))))) r r (.ks 1 r (.nilS [9,8] r r (.ret (pret results38 (.w ia34 sz34 r .z r (.t r .n)) (.refl _) ⟨(({ Rows:=0,Cols:=0,Start:=([]:List Int),Col:=([]:List Int),Val:=([]:List Int) }:Rows),3),_,_,_,_,_,_,r,(.nil _ _ _),(.nil _ _ _),(.nil _ _ _),hd⟩)))))))))
 rw [hb32]
 refine .ks 4 r ?_
 refine splitP hd (fun hb33 hd=>?_) fun hb33 hd=>?_
 · rw [hb33]
   exact .ks 3 r (.nilS [32,8,3,2,1,0] r r (.condKT r r (.sr (.build zv34 un34 BI34 .n (by exact trivial) r r (.storeA sz34 r r .z (.t (.t (.t (.t (.t .nil))))) r r (.ks 1 r (.nilS [9,8] r r (.ret (pret results38 (.w ia34 sz34 r .z r (.t r .n)) (.refl _) ⟨(({ Rows:=0,Cols:=0,Start:=([]:List Int),Col:=([]:List Int),Val:=([]:List Int) }:Rows),3),_,_,_,_,_,_,r,(.nil _ _ _),(.nil _ _ _),(.nil _ _ _),hd⟩)))))))))
 rw [hb33]
 refine .ks 3 r (.nilS [32,8,3,2,1,0] r r (.condP r hd (fun hb34 hd=>?_) fun hb34 hd=>?_))
 · exact .sr (.build zv34 un34 BI34 .n (by exact trivial) r r (.storeA sz34 r r .z (.t (.t (.t (.t (.t .nil))))) r r (.ks 1 r (.nilS [9,8] r r (.ret (pret results38 (.w ia34 sz34 r .z r (.t r .n)) (.refl _) ⟨(({ Rows:=0,Cols:=0,Start:=([]:List Int),Col:=([]:List Int),Val:=([]:List Int) }:Rows),3),_,_,_,_,_,_,r,(.nil _ _ _),(.nil _ _ _),(.nil _ _ _),hd⟩))))))
 refine .skipS [8,3,2,1,0] r r (.seq (.sr (.ks 1 r (.len un24 r r r r (.ks 1 r (.nilS [36,8,3,2,1,0] r r (.condP r hd (fun hb36 hd=>?_) fun hb36 hd=>?_)))))))
 · exact .sr (.build zv34 un34 BI34 .n (by exact trivial) r r (.storeA sz34 r r .z (.t (.t (.t (.t (.t .nil))))) r r (.ks 1 r (.nilS [9,8] r r (.ret (pret results38 (.w ia34 sz34 r .z r (.t r .n)) (.refl _) ⟨(({ Rows:=0,Cols:=0,Start:=([]:List Int),Col:=([]:List Int),Val:=([]:List Int) }:Rows),5),_,_,_,_,_,_,r,(.nil _ _ _),(.nil _ _ _),(.nil _ _ _),hd⟩))))))
 refine .skipS [8,3,2,1,0] r r (.sr (.ks 1 r (.nilS [10,8,3,2,1,0] r r (.seq (.sr (.ks 1 r (.nilS [11,10,8,3,2,1,0] r r (.block (.own0 eEdge 123 ?_)))))))))
 refine .loop hd (fun (s:(List Edge)×Int) c w=>match s with | (s656,s660)=>∃ I_ p657 c658,IH.le I I_∧Ok ⟨135,[],none⟩ [(0,.int .i64 a0),(1,.int .i64 a1),(2,.int .i64 a2),(3,.slice p1 a3.length c2),(8,.pointer (some ⟨b15,0,none⟩)),(10,.slice p657 s656.length c658),(11,.int .i64 s660)] c∧Sym w0 M I I_ [pto b15 (.cells #[.int .i64 0,.int .i64 0,.slice none 0 0,.slice none 0 0,.slice none 0 0] 34 (0,0)),OwnSl eEdge 123 p657 c658 s656] w) (fun c w ho hs=>⟨I,_,_,(.refl _),ho.sub ⟨r,r,r,r,r,r,r,trivial⟩,hs.pick (.c (.s .z) (.c .z .n))⟩) ?_
 rintro ⟨s656,s660⟩ next662 hd c w hst
 obtain ⟨I663,p657,c658,hl664,hok,hsym⟩:=hst
 replace R3:=R3.mono hl664
 refine Cod.at hok hsym (.seq (.sr (.ks 2 r (.len un24 r r r r (.ks 1 r (.nilS [41,11,10,8,3,2,1,0] r r (.condP r hd (fun hb666 hd=>?_) fun hb666 hd=>?_)))))))
 · refine .skipS [11,10,8,3,2,1,0] r r (.seq (.block (.seq (.sr (.ks 2 r ?_)))))
   obtain ⟨h707,x708,hx709,hd⟩:=hd
   obtain ⟨b710,o711,cs712,e713,hC714,hr715⟩:=R3.2 _ _ hx709
   cases hr715
   refine .ixa un24 sz75 r e713 r h707 (idx_lt hx709 h707) r r (.fa un75 r sz3 r (o:=o711+s660.toNat*3) r r r (.ld1 (j:=0) ia3 hC714 r r r r r (.ks 2 r ?_)))
   refine splitP hd (fun hb716 hd=>?_) fun hb716 hd=>?_
   · rw [hb716]
     exact .ks 25 r (.nilS [75,11,10,8,3,2,1,0] r r (.condKT r r (.sr (.build zv34 un34 BI34 .n (by exact trivial) r r (.storeA sz34 r r .z (.t (.t (.t (.t (.t .nil))))) r r (.ks 1 r (.nilS [9,8] r r (.drop (.s .z) (.ret (pret results38 (.w ia34 sz34 r .z r (.t r .n)) hl664 ⟨(({ Rows:=0,Cols:=0,Start:=([]:List Int),Col:=([]:List Int),Val:=([]:List Int) }:Rows),3),_,_,_,_,_,_,r,(.nil _ _ _),(.nil _ _ _),(.nil _ _ _),hd⟩))))))))))
   rw [hb716]
   refine .ks 2 r ?_
   obtain ⟨h717,x718,hx719,hd⟩:=hd
   obtain ⟨b720,o721,cs722,e723,hC724,hr725⟩:=R3.2 _ _ hx719
   cases hr725
   refine .gyes r r r (.ixa un24 sz75 r e723 r h717 (idx_lt hx719 h717) r r (.gyes r r r (.fa un75 r sz3 r (o:=o721+s660.toNat*3) r r r (.gyes r r r (.ld1 (j:=0) ia3 hC724 r r r r r (.ks 4 r ?_))))))
   refine splitP hd (fun hb726 hd=>?_) fun hb726 hd=>?_
   · rw [hb726]
     exact .ks 16 r (.nilS [75,11,10,8,3,2,1,0] r r (.condKT r r (.sr (.build zv34 un34 BI34 .n (by exact trivial) r r (.storeA sz34 r r .z (.t (.t (.t (.t (.t .nil))))) r r (.ks 1 r (.nilS [9,8] r r (.drop (.s .z) (.ret (pret results38 (.w ia34 sz34 r .z r (.t r .n)) hl664 ⟨(({ Rows:=0,Cols:=0,Start:=([]:List Int),Col:=([]:List Int),Val:=([]:List Int) }:Rows),3),_,_,_,_,_,_,r,(.nil _ _ _),(.nil _ _ _),(.nil _ _ _),hd⟩))))))))))
   rw [hb726]
   refine .ks 2 r ?_
   obtain ⟨h727,x728,hx729,hd⟩:=hd
   obtain ⟨b730,o731,cs732,e733,hC734,hr735⟩:=R3.2 _ _ hx729
   cases hr735
   refine .gyes r r r (.ixa un24 sz75 r e733 r h727 (idx_lt hx729 h727) r r (.gyes r r r (.fa un75 r sz3 r (o:=o731+s660.toNat*3+1) r r r (.gyes r r r (.ld1 (j:=1) ia3 hC734 r r r r r (.ks 3 r ?_))))))
   refine splitP hd (fun hb736 hd=>?_) fun hb736 hd=>?_
   · rw [hb736]
     exact .ks 8 r (.nilS [75,11,10,8,3,2,1,0] r r (.condKT r r (.sr (.build zv34 un34 BI34 .n (by exact trivial) r r (.storeA sz34 r r .z (.t (.t (.t (.t (.t .nil))))) r r (.ks 1 r (.nilS [9,8] r r (.drop (.s .z) (.ret (pret results38 (.w ia34 sz34 r .z r (.t r .n)) hl664 ⟨(({ Rows:=0,Cols:=0,Start:=([]:List Int),Col:=([]:List Int),Val:=([]:List Int) }:Rows),3),_,_,_,_,_,_,r,(.nil _ _ _),(.nil _ _ _),(.nil _ _ _),hd⟩))))))))))
   rw [hb736]
   refine .ks 2 r ?_
   obtain ⟨h737,x738,hx739,hd⟩:=hd
   obtain ⟨b740,o741,cs742,e743,hC744,hr745⟩:=R3.2 _ _ hx739
   cases hr745
   refine .gyes r r r (.ixa un24 sz75 r e743 r h737 (idx_lt hx739 h737) r r (.gyes r r r (.fa un75 r sz3 r (o:=o741+s660.toNat*3+1) r r r (.gyes r r r (.ld1 (j:=1) ia3 hC744 r r r r r (.ks 3 r (.nilS [75,11,10,8,3,2,1,0] r r (.condP r hd (fun hb746 hd=>?_) fun hb746 hd=>?_))))))))
   · exact .sr (.build zv34 un34 BI34 .n (by exact trivial) r r (.storeA sz34 r r .z (.t (.t (.t (.t (.t .nil))))) r r (.ks 1 r (.nilS [9,8] r r (.drop (.s .z) (.ret (pret results38 (.w ia34 sz34 r .z r (.t r .n)) hl664 ⟨(({ Rows:=0,Cols:=0,Start:=([]:List Int),Col:=([]:List Int),Val:=([]:List Int) }:Rows),3),_,_,_,_,_,_,r,(.nil _ _ _),(.nil _ _ _),(.nil _ _ _),hd⟩)))))))
   refine .skipS [11,10,8,3,2,1,0] r r (.ownF (.s .z) fun hne747=>?_)
   refine .dr [0,1,2,3,4,5,6,7,8,9,10,11,12,13,14,15,16,17,18] 19 (.fk 3 r ?_)
   obtain ⟨h748,x749,hx750,hd⟩:=hd
   obtain ⟨b751,o752,cs753,e754,hC755,hr756⟩:=R3.2 _ _ hx750
   cases hr756
   refine .g r r r (fun _=>.ixa un24 sz75 r e754 r h748 (idx_lt hx750 h748) r r .mk) (.g r r r (fun _=>.fa un75 r sz3 r (o:=o752+s660.toNat*3) r r r .mk) (.g r r r (fun _=>.ld1 (j:=0) ia3 hC755 r r r r r .mk) (.fk 2 r ?_)))
   obtain ⟨h757,x758,hx759,hd⟩:=hd
   obtain ⟨b760,o761,cs762,e763,hC764,hr765⟩:=R3.2 _ _ hx759
   cases hr765
   refine .g r r r (fun _=>.ixa un24 sz75 r e763 r h757 (idx_lt hx759 h757) r r .mk) (.g r r r (fun _=>.fa un75 r sz3 r (o:=o761+s660.toNat*3+1) r r r .mk) (.g r r r (fun _=>.ld1 (j:=1) ia3 hC764 r r r r r .mk) (.fk 2 r ?_)))
   obtain ⟨h766,x767,hx768,hd⟩:=hd
   obtain ⟨b769,o770,cs771,e772,hC773,hr774⟩:=R3.2 _ _ hx768
   cases hr774
   refine .g r r r (fun _=>.ixa un24 sz75 r e772 r h766 (idx_lt hx768 h766) r r .mk) (.g r r r (fun _=>.fa un75 r sz2 r (o:=o770+s660.toNat*3+2) r r r .mk) (.g r r r (fun _=>.ld1 (j:=2) ia2 hC773 r r r r r .mk) (.g r r r (fun _=>.build zv123 un123 BI123 (.c r r r (.t .nil) (.c r r r (.s (.t .nil)) (.c r r r (.s (.s (.t .nil))) .n))) (by exact ⟨⟨_,_,r,r,r⟩,⟨⟨_,_,r,r,r⟩,⟨⟨_,_,r,r,r⟩,trivial⟩⟩⟩) r r .mk) (.ww r fun ex=>?_))))
   refine .buildSlice 1 un121 sz123 zv123 r r (.c r r r .n) r r fun b775=>?_
   refine .so 3 r r r (.ck 1 r r trivial) (.ww r fun ex=>?_)
   obtain ⟨hl777,hd⟩:=hd
   refine .append (ys:=[({ From:=x749.Row,To:=x758.Col,W:=x767.Val }:Edge)]) 24 (.s (.s .z)) un121 un121 IN123 r r r r r r r r r (.box .z (.one r) r) hl777 r r fun p778 c779=>?_
   exact .so 3 r r r trivial (.e2 19 (.ks 1 r (.nilS [10,11,8,3,2,1,0] r r (.drop (.s .z) (.region (.ks 3 r (.nil' fun c w ho hs=>⟨((s656++([({ From:=x749.Row,To:=x758.Col,W:=x767.Val }:Edge)])),w64 (s660+1)),hd,I663,_,_,hl664,ho.sub ⟨r,r,r,r,r,r,r,trivial⟩,hs.pick (.c (.s .z) (.c .z .n))⟩)))))))
 refine .exitS [10,8,2,1,0] r r (.sr (.ks 2 r (.pub (.s .z) fun I796 hl797 R798=>?_)))
 have le799:=IH.le.trans hl664 hl797
 have hw809:=W_ref05_Combine (I:=I796) R798 hd
 refine .call call88 r hw809 r r fun v804 I801 hl802 hv803=>?_
 obtain ⟨r800,p806,c807,rfl,R808,hd⟩:=hv803
 have le810:=IH.le.trans le799 hl802
 replace R798:=R798.mono hl802
 refine .ks 5 r (.nilS [12,10,8,2,1] r r (.seq (.sr (.ks 2 r (.nilS [103,12,10,8,2,1] r r (.condP r hd (fun hb812 hd=>?_) fun hb812 hd=>?_))))))
 · exact .sr (.build zv34 un34 BI34 .n (by exact trivial) r r (.ks 1 r (.storeA sz34 r r .z (.t (.t (.t (.t (.t .nil))))) r r (.ks 1 r (.nilS [9,8] r r (.ret (pret results38 (.w ia34 sz34 r .z r (.t r .n)) le810 ⟨(({ Rows:=0,Cols:=0,Start:=([]:List Int),Col:=([]:List Int),Val:=([]:List Int) }:Rows),r800.2),_,_,_,_,_,_,r,(.nil _ _ _),(.nil _ _ _),(.nil _ _ _),hd⟩)))))))
 refine .skipS [10,8,2,1] r r (.sr (.ks 1 r (.nilS [13,10,8,2,1] r r (.seq (.sr (.ks 1 r (.nilS [14,13,10,8,2,1] r r (.block (.own0 eTriple 75 ?_)))))))))
 refine .loop hd (fun (s:(List Triple)×Int) c w=>match s with | (s900,s904)=>∃ I_ p901 c902,IH.le I801 I_∧Ok ⟨135,[],none⟩ [(1,.int .i64 a1),(2,.int .i64 a2),(8,.pointer (some ⟨b15,0,none⟩)),(10,.slice p806 r800.1.length c807),(13,.slice p901 s900.length c902),(14,.int .i64 s904)] c∧Sym w0 M I I_ [pto b15 (.cells #[.int .i64 0,.int .i64 0,.slice none 0 0,.slice none 0 0,.slice none 0 0] 34 (0,0)),OwnSl eTriple 75 p901 c902 s900] w) (fun c w ho hs=>⟨I801,_,_,(.refl _),ho.sub ⟨r,r,r,r,r,r,trivial⟩,hs.pick (.c (.s .z) (.c .z .n))⟩) ?_
 rintro ⟨s900,s904⟩ next906 hd c w hst
 obtain ⟨I907,p901,c902,hl908,hok,hsym⟩:=hst
 have le909:=IH.le.trans le810 hl908
 replace R808:=R808.mono hl908
 refine Cod.at hok hsym (.seq (.sr (.ks 2 r (.len un121 r r r r (.ks 1 r (.nilS [109,14,13,10,8,2,1] r r (.condP r hd (fun hb911 hd=>?_) fun hb911 hd=>?_)))))))
 · refine .skipS [14,13,10,8,2,1] r r (.seq (.block (.ownF (.s .z) fun hne912=>?_)))
   refine .dr [0,1,2,3,4,5,6,7,8,9,10,11,12,13,14,15,16,17,18] 19 (.fk 3 r ?_)
   obtain ⟨h913,x914,hx915,hd⟩:=hd
   obtain ⟨b916,o917,cs918,e919,hC920,hr921⟩:=R808.2 _ _ hx915
   cases hr921
   refine .g r r r (fun _=>.ixa un121 sz123 r e919 r h913 (idx_lt hx915 h913) r r .mk) (.g r r r (fun _=>.fa un123 r sz3 r (o:=o917+s904.toNat*3) r r r .mk) (.g r r r (fun _=>.ld1 (j:=0) ia3 hC920 r r r r r .mk) (.fk 2 r ?_)))
   obtain ⟨h922,x923,hx924,hd⟩:=hd
   obtain ⟨b925,o926,cs927,e928,hC929,hr930⟩:=R808.2 _ _ hx924
   cases hr930
   refine .g r r r (fun _=>.ixa un121 sz123 r e928 r h922 (idx_lt hx924 h922) r r .mk) (.g r r r (fun _=>.fa un123 r sz3 r (o:=o926+s904.toNat*3+1) r r r .mk) (.g r r r (fun _=>.ld1 (j:=1) ia3 hC929 r r r r r .mk) (.fk 2 r ?_)))
   obtain ⟨h931,x932,hx933,hd⟩:=hd
   obtain ⟨b934,o935,cs936,e937,hC938,hr939⟩:=R808.2 _ _ hx933
   cases hr939
   refine .g r r r (fun _=>.ixa un121 sz123 r e937 r h931 (idx_lt hx933 h931) r r .mk) (.g r r r (fun _=>.fa un123 r sz2 r (o:=o935+s904.toNat*3+2) r r r .mk) (.g r r r (fun _=>.ld1 (j:=2) ia2 hC938 r r r r r .mk) (.g r r r (fun _=>.build zv75 un75 BI75 (.c r r r (.t .nil) (.c r r r (.s (.t .nil)) (.c r r r (.s (.s (.t .nil))) .n))) (by exact ⟨⟨_,_,r,r,r⟩,⟨⟨_,_,r,r,r⟩,⟨⟨_,_,r,r,r⟩,trivial⟩⟩⟩) r r .mk) (.ww r fun ex=>?_))))
   refine .buildSlice 1 un24 sz75 zv75 r r (.c r r r .n) r r fun b940=>?_
   refine .so 3 r r r (.ck 1 r r trivial) (.ww r fun ex=>?_)
   obtain ⟨hl942,hd⟩:=hd
   refine .append (ys:=[({ Row:=x914.From,Col:=x923.To,Val:=x932.W }:Triple)]) 24 (.s (.s .z)) un24 un24 IN75 r r r r r r r r r (.box .z (.one r) r) hl942 r r fun p943 c944=>?_
   exact .so 3 r r r trivial (.e2 19 (.ks 1 r (.nilS [13,14,10,8,2,1] r r (.drop (.s .z) (.region (.ks 3 r (.nil' fun c w ho hs=>⟨((s900++([({ Row:=x914.From,Col:=x923.To,Val:=x932.W }:Triple)])),w64 (s904+1)),hd,I907,_,_,hl908,ho.sub ⟨r,r,r,r,r,r,trivial⟩,hs.pick (.c (.s .z) (.c .z .n))⟩)))))))
 refine .exitS [13,8,2,1] r r (.sr (.ks 3 r (.pub (.s .z) fun I946 hl947 R948=>?_)))
 have le949:=IH.le.trans le909 hl947
 have le950:=IH.le.trans hl908 hl947
 have hw966:=W_ref07_built (I:=I946) R948 hd
 refine .call call89 r hw966 r r fun v955 I952 hl953 hv954=>?_
 obtain ⟨r951,p957,c958,p960,c961,p963,c964,rfl,R959,R962,R965,hd⟩:=hv954
 have le967:=IH.le.trans le949 hl953
 have le968:=IH.le.trans le950 hl953
 replace R948:=R948.mono hl953
 exact .storeA sz34 r r .z (.t (.t (.t (.t (.t .nil))))) r r (.ks 1 r (.nilS [9,8] r r (.ret (pret results38 (.w ia34 sz34 r .z r (.t r .n)) le967 ⟨(r951,0),_,_,_,_,_,_,r,R959,R962,R965,hd⟩))))
theorem W_csr_within {I:IH} {a0:Int} {a1:Int} {Q:Bool→Prop}  (hd:csr_within a0 a1 Q) :
  PFun prog 90 [.int .i64 a0,.int .i64 a1] I (fun _=>o1_ Q):=by
 refine Fun.enter func90 r ntmps90 r (.c (.c .n)) fun w0 M=>?_
 refine .sr (.ks 1 r (.nilS [1,0] r r (.sr (.ks 3 r ?_))))
 refine splitP hd (fun hb1 hd=>?_) fun hb1 hd=>?_
 · rw [hb1]
   exact .ks 5 r (.nilS [4] r r (.ret (pret results90 (.t r .n) (.refl _) ⟨(decide (a0≤a1)),r,hd⟩)))
 rw [hb1]
 exact .ks 5 r (.nilS [4] r r (.ret (pret results90 (.t r .n) (.refl _) ⟨false,r,hd⟩)))
theorem W_cmp_isNaN_int {I:IH} {a0:Int} {Q:Bool→Prop}  (hd:cmp_isNaN_int a0 Q) :
  PFun prog 173 [.int .i64 a0] I (fun _=>o1_ Q):=by
 refine Fun.enter func173 r ntmps173 r (.c .n) fun w0 M=>?_
 exact .sr (.ks 1 r (.nilS [0] r r (.sr (.ks 4 r (.nilS [2] r r (.ret (pret results173 (.t r .n) (.refl _) ⟨(a0 != a0),r,hd⟩)))))))
theorem W_cmp_Less_int {I:IH} {a0:Int} {a1:Int} {Q:Bool→Prop}  (hd:cmp_Less_int a0 a1 Q) :
  PFun prog 137 [.int .i64 a0,.int .i64 a1] I (fun _=>o1_ Q):=by
 refine Fun.enter func137 r ntmps137 r (.c (.c .n)) fun w0 M=>?_
 refine .sr (.ks 1 r (.nilS [1,0] r r (.sr (.ks 1 r ?_))))
 have hw2:=W_cmp_isNaN_int (I:=I) hd
 refine .callP call173 r hw2 r r fun v3 hv4=>?_
 obtain ⟨r1,rfl,hd⟩:=hv4
 refine .ks 1 r ?_
 refine splitP hd (fun hb5 hd=>?_) fun hb5 hd=>?_
 · rw [hb5]
   refine .ks 1 r ?_
   have hw7:=W_cmp_isNaN_int (I:=I) hd
   refine .gyes r r r (.callP call173 r hw7 r r fun v8 hv9=>?_)
   obtain ⟨r6,rfl,hd⟩:=hv9
   refine .ks 3 r ?_
   refine splitP hd (fun hb10 hd=>?_) fun hb10 hd=>?_
   · rw [hb10]
     exact .ks 5 r (.nilS [4] r r (.ret (pret results137 (.t r .n) (.refl _) ⟨true,r,hd⟩)))
   rw [hb10]
   exact .ks 5 r (.nilS [4] r r (.ret (pret results137 (.t r .n) (.refl _) ⟨(decide (a0<a1)),r,hd⟩)))
 rw [hb5]
 exact .ks 10 r (.nilS [4] r r (.ret (pret results137 (.t r .n) (.refl _) ⟨(decide (a0<a1)),r,hd⟩)))
theorem W_slices_IsSorted_int_int {I:IH} {a0:List Int} {p1:Option Addr} {c2:Nat} {Q:Bool→Prop} (R3:RepSl eI64 I p1 c2 a0) (hd:slices_IsSorted_int_int a0 Q) :
  PFun prog 91 [.slice p1 a0.length c2] I (fun _=>o1_ Q):=by
 refine Fun.enter func91 r ntmps91 r (.c .n) fun w0 M=>?_
 refine .sr (.ks 1 r (.nilS [0] r r (.seq (.sr (.ks 1 r (.len un31 r r r r (.ks 2 r (.nilS [3,0] r r (.block ?_)))))))))
 refine .loop hd (fun (s57:Int) c w=>∃ I_,IH.le I I_∧Ok ⟨21,[],none⟩ [(0,.slice p1 a0.length c2),(3,.int .i64 s57)] c∧Sym w0 M I I_ [] w) (fun c w ho hs=>⟨I,(.refl _),ho.sub ⟨r,r,trivial⟩,hs.pick .n⟩) ?_
 rintro s57 next58 hd c w hst
 obtain ⟨I59,hl60,hok,hsym⟩:=hst
 replace R3:=R3.mono hl60
 refine Cod.at hok hsym (.seq (.sr (.ks 2 r (.nilS [8,3,0] r r (.condP r hd (fun hb62 hd=>?_) fun hb62 hd=>?_)))))
 · refine .skipS [3,0] r r (.seq (.block (.seq (.dr [0,1,2,3,4,5,6,7,8,9] 10 (.fk 2 r ?_)))))
   obtain ⟨h63,x64,hx65,hd⟩:=hd
   obtain ⟨b66,o67,cs68,e69,hC70,hr71⟩:=R3.2 _ _ hx65
   cases hr71
   refine .g r r r (fun _=>.ixa un31 sz3 r e69 r h63 (idx_lt hx65 h63) r r .mk) (.g r r r (fun _=>.ld1 (j:=0) ia3 hC70 r r r r r .mk) (.fk 3 r ?_))
   obtain ⟨h72,x73,hx74,hd⟩:=hd
   obtain ⟨b75,o76,cs77,e78,hC79,hr80⟩:=R3.2 _ _ hx74
   cases hr80
   refine .g r r r (fun _=>.ixa un31 sz3 r e78 r h72 (idx_lt hx74 h72) r r .mk) (.g r r r (fun _=>.ld1 (j:=0) ia3 hC79 r r r r r .mk) (.ww r fun ex=>?_))
   have hw82:=W_cmp_Less_int (I:=I59) hd
   refine .callP call137 r hw82 r r fun v83 hv84=>?_
   obtain ⟨r81,rfl,hd⟩:=hv84
   refine .so 0 r r r trivial (.e2 10 (.nilS [20,3,0] r r (.condP r hd (fun hb85 hd=>?_) fun hb85 hd=>?_)))
   · exact .sr (.ks 1 r (.nilS [2] r r (.ret (pret results91 (.t r .n) hl60 ⟨false,r,hd⟩))))
   exact .skipS [3,0] r r (.region (.ks 3 r (.nil' fun c w ho hs=>⟨(w64 (s57 - 1)),hd,I59,hl60,ho.sub ⟨r,r,trivial⟩,hs.pick .n⟩)))
 exact .exitS [] r r (.sr (.ks 1 r (.nilS [2] r r (.ret (pret results91 (.t r .n) hl60 ⟨true,r,hd⟩)))))
theorem W_csr_row {I:IH} {a0:List Int} {a1:Int} {p1:Option Addr} {c2:Nat} {Q:Bool→Prop} (R3:RepSl eI64 I p1 c2 a0) (hd:csr_row a0 a1 Q) :
  PFun prog 92 [.slice p1 a0.length c2,.int .i64 a1] I (fun _=>o1_ Q):=by
 refine Fun.enter func92 r ntmps92 r (.c (.c .n)) fun w0 M=>?_
 refine .sr (.ks 1 r (.nilS [1,0] r r (.seq (.sr (.ks 1 r (.len un31 r r r r (.ks 1 r (.nilS [9,8,7,1,0] r r (.block ?_)))))))))
 refine .loop hd (fun (s68:Int) c w=>∃ I_,IH.le I I_∧Ok ⟨33,[],none⟩ [(0,.slice p1 a0.length c2),(1,.int .i64 a1),(7,.slice p1 a0.length c2),(8,.int .i64 (a0.length:Int)),(9,.int .i64 s68)] c∧Sym w0 M I I_ [] w) (fun c w ho hs=>⟨I,(.refl _),ho.sub ⟨r,r,r,r,r,trivial⟩,hs.pick .n⟩) ?_
 rintro s68 next69 hd c w hst
 obtain ⟨I70,hl71,hok,hsym⟩:=hst
 replace R3:=R3.mono hl71
 refine Cod.at hok hsym (.sr (.ks 1 r (.nilS [10,9,8,7,1,0] r r (.seq (.condP r hd (fun hb73 hd=>?_) fun hb73 hd=>?_)))))
 · refine .skipS [9,8,7,1,0] r r (.seq (.block (.sr (.ks 1 r ?_))))
   obtain ⟨h83,x84,hx85,hd⟩:=hd
   obtain ⟨b86,o87,cs88,e89,hC90,hr91⟩:=R3.2 _ _ hx85
   cases hr91
   refine .ixa un31 sz3 r e89 r h83 (idx_lt hx85 h83) r r (.ld1 (j:=0) ia3 hC90 r r r r r (.ks 2 r (.nilS [6,5,9,8,7,1,0] r r (.sr (.ks 3 r ?_)))))
   have hw93:=W_csr_within (I:=I70) hd
   refine .callP call90 r hw93 r r fun v94 hv95=>?_
   obtain ⟨r92,rfl,hd⟩:=hv95
   refine .ks 2 r ?_
   refine splitP hd (fun hb96 hd=>?_) fun hb96 hd=>?_
   · rw [hb96]
     exact .ks 12 r (.nilS [31,9,8,7,1,0] r r (.condKT r r (.sr (.ks 1 r (.nilS [4] r r (.ret (pret results92 (.t r .n) hl71 ⟨false,r,hd⟩)))))))
   rw [hb96]
   refine .ks 3 r ?_
   refine splitP hd (fun hb97 hd=>?_) fun hb97 hd=>?_
   · rw [hb97]
     refine .ks 3 r ?_
     obtain ⟨h98,x99,hx100,hd⟩:=hd
     obtain ⟨b101,o102,cs103,e104,hC105,hr106⟩:=R3.2 _ _ hx100
     cases hr106
     refine .gyes r r r (.ixa un31 sz3 r e104 r h98 (idx_lt hx100 h98) r r (.gyes r r r (.ld1 (j:=0) ia3 hC105 r r r r r (.ks 4 r (.nilS [31,9,8,7,1,0] r r (.condP r hd (fun hb107 hd=>?_) fun hb107 hd=>?_))))))
     · exact .sr (.ks 1 r (.nilS [4] r r (.ret (pret results92 (.t r .n) hl71 ⟨false,r,hd⟩))))
     exact .skipS [9,8,7,1,0] r r (.region (.ks 2 r (.nil' fun c w ho hs=>⟨(w64 (s68+1)),hd,I70,hl71,ho.sub ⟨r,r,r,r,r,trivial⟩,hs.pick .n⟩)))
   rw [hb97]
   exact .ks 9 r (.nilS [31,9,8,7,1,0] r r (.condKF r r (.skipS [9,8,7,1,0] r r (.region (.ks 2 r (.nil' fun c w ho hs=>⟨(w64 (s68+1)),hd,I70,hl71,ho.sub ⟨r,r,r,r,r,trivial⟩,hs.pick .n⟩))))))
 exact .exitS [] r r (.sr (.ks 1 r (.nilS [4] r r (.ret (pret results92 (.t r .n) hl71 ⟨true,r,hd⟩)))))
theorem W_csr_Right {I:IH} {a0:Rows} {p1:Option Addr} {c2:Nat} {p4:Option Addr} {c5:Nat} {p7:Option Addr} {c8:Nat} {Q:Bool→Prop} (R3:RepSl eI64 I p1 c2 a0.Start) (R6:RepSl eI64 I p4 c5 a0.Col) (R9:RepSl eI64 I p7 c8 a0.Val) (hd:csr_Right a0 Q) :
  PFun prog 41 [.agg #[.int .i64 a0.Rows,.int .i64 a0.Cols,.slice p1 a0.Start.length c2,.slice p4 a0.Col.length c5,.slice p7 a0.Val.length c8]] I (fun _=>o1_ Q):=by
 refine Fun.enter func41 r ntmps41 r (.c .n) fun w0 M=>?_
 refine .sr (.boxA r r r fun b12=>?_)
 refine .ks 1 r (.nilS [1] r r (.sr (.fa un34 r sz31 r (o:=3) r r r (.load1 ia31 r .z r r r (.len un31 r r r r (.ks 1 r (.nilS [3,1] r r (.seq (.sr ?_)))))))))
 refine .fa un34 r sz3 r (o:=0) r r r (.load1 ia3 r .z r r r ?_)
 have hw28:=W_csr_within (I:=I) hd
 refine .callP call90 r hw28 r r fun v29 hv30=>?_
 obtain ⟨r27,rfl,hd⟩:=hv30
 refine .ks 2 r ?_
 refine splitP hd (fun hb31 hd=>?_) fun hb31 hd=>?_
 · rw [hb31]
   exact .ks 25 r (.nilS [37,3,1] r r (.condKT r r (.sr (.ks 1 r (.nilS [2] r r (.drop .z (.ret (pret results41 (.t r .n) (.refl _) ⟨false,r,hd⟩))))))))
 rw [hb31]
 refine .gyes r r r (.fa un34 r sz3 r (o:=1) r r r (.gyes r r r (.load1 ia3 r .z r r r ?_)))
 have hw33:=W_csr_within (I:=I) hd
 refine .gyes r r r (.callP call90 r hw33 r r fun v34 hv35=>?_)
 obtain ⟨r32,rfl,hd⟩:=hv35
 refine .ks 3 r ?_
 refine splitP hd (fun hb36 hd=>?_) fun hb36 hd=>?_
 · rw [hb36]
   exact .ks 19 r (.nilS [37,3,1] r r (.condKT r r (.sr (.ks 1 r (.nilS [2] r r (.drop .z (.ret (pret results41 (.t r .n) (.refl _) ⟨false,r,hd⟩))))))))
 rw [hb36]
 refine .gyes r r r (.fa un34 r sz31 r (o:=2) r r r (.gyes r r r (.load1 ia31 r .z r r r (.gyes r r r (.len un31 r r r r (.gyes r r r (.fa un34 r sz3 r (o:=0) r r r (.gyes r r r (.load1 ia3 r .z r r r (.ks 4 r ?_))))))))))
 refine splitP hd (fun hb37 hd=>?_) fun hb37 hd=>?_
 · rw [hb37]
   exact .ks 10 r (.nilS [37,3,1] r r (.condKT r r (.sr (.ks 1 r (.nilS [2] r r (.drop .z (.ret (pret results41 (.t r .n) (.refl _) ⟨false,r,hd⟩))))))))
 rw [hb37]
 refine .gyes r r r (.fa un34 r sz32 r (o:=4) r r r (.gyes r r r (.load1 ia32 r .z r r r (.gyes r r r (.len un32 r r r r (.ks 4 r ?_))))))
 refine splitP hd (fun hb38 hd=>?_) fun hb38 hd=>?_
 · rw [hb38]
   exact .ks 3 r (.nilS [37,3,1] r r (.condKT r r (.sr (.ks 1 r (.nilS [2] r r (.drop .z (.ret (pret results41 (.t r .n) (.refl _) ⟨false,r,hd⟩))))))))
 rw [hb38]
 refine .ks 3 r (.nilS [37,3,1] r r (.condP r hd (fun hb39 hd=>?_) fun hb39 hd=>?_))
 · exact .sr (.ks 1 r (.nilS [2] r r (.drop .z (.ret (pret results41 (.t r .n) (.refl _) ⟨false,r,hd⟩)))))
 refine .skipS [3,1] r r (.seq (.sr (.fa un34 r sz31 r (o:=2) r r r (.load1 ia31 r .z r r r ?_))))
 obtain ⟨h65,x66,hx67,hd⟩:=hd
 obtain ⟨b68,o69,cs70,e71,hC72,hr73⟩:=R3.2 _ _ hx67
 cases hr73
 refine .ixa un31 sz3 r e71 r h65 (idx_lt hx67 h65) r r (.ld1 (j:=0) ia3 hC72 r r r r r (.ks 2 r ?_))
 refine splitP hd (fun hb74 hd=>?_) fun hb74 hd=>?_
 · rw [hb74]
   exact .ks 15 r (.nilS [58,1] r r (.condKT r r (.sr (.ks 1 r (.nilS [2] r r (.drop .z (.ret (pret results41 (.t r .n) (.refl _) ⟨false,r,hd⟩))))))))
 rw [hb74]
 refine .gyes r r r (.fa un34 r sz31 r (o:=2) r r r (.gyes r r r (.load1 ia31 r .z r r r (.gyes r r r (.fa un34 r sz3 r (o:=0) r r r (.gyes r r r (.load1 ia3 r .z r r r ?_)))))))
 obtain ⟨h75,x76,hx77,hd⟩:=hd
 obtain ⟨b78,o79,cs80,e81,hC82,hr83⟩:=R3.2 _ _ hx77
 cases hr83
 refine .gyes r r r (.ixa un31 sz3 r e81 r h75 (idx_lt hx77 h75) r r (.gyes r r r (.ld1 (j:=0) ia3 hC82 r r r r r (.ks 4 r ?_))))
 refine splitP hd (fun hb84 hd=>?_) fun hb84 hd=>?_
 · rw [hb84]
   exact .ks 5 r (.nilS [58,1] r r (.condKT r r (.sr (.ks 1 r (.nilS [2] r r (.drop .z (.ret (pret results41 (.t r .n) (.refl _) ⟨false,r,hd⟩))))))))
 rw [hb84]
 refine .gyes r r r (.fa un34 r sz31 r (o:=2) r r r (.gyes r r r (.load1 ia31 r .z r r r ?_)))
 have hw86:=W_slices_IsSorted_int_int (I:=I) R3 hd
 refine .gyes r r r (.callP call91 r hw86 r r fun v87 hv88=>?_)
 obtain ⟨r85,rfl,hd⟩:=hv88
 refine .ks 2 r (.nilS [58,1] r r (.condP r hd (fun hb89 hd=>?_) fun hb89 hd=>?_))
 · exact .sr (.ks 1 r (.nilS [2] r r (.drop .z (.ret (pret results41 (.t r .n) (.refl _) ⟨false,r,hd⟩)))))
 refine .skipS [1] r r (.seq (.sr (.fa un34 r sz3 r (o:=0) r r r (.load1 ia3 r .z r r r (.ks 1 r (.nilS [61,60,1] r r (.block (.loop hd (fun (s163:Int) c w=>∃ I_,IH.le I I_∧Ok ⟨83,[],none⟩ [(1,.pointer (some ⟨b12,0,none⟩)),(60,.int .i64 a0.Rows),(61,.int .i64 s163)] c∧Sym w0 M I I_ [pto b12 (.cells #[.int .i64 a0.Rows,.int .i64 a0.Cols,.slice p1 a0.Start.length c2,.slice p4 a0.Col.length c5,.slice p7 a0.Val.length c8] 34 (0,0))] w) (fun c w ho hs=>⟨I,(.refl _),ho.sub ⟨r,r,r,trivial⟩,hs.pick (.c .z .n)⟩) ?_))))))))
 rintro s163 next164 hd c w hst
 obtain ⟨I165,hl166,hok,hsym⟩:=hst
 replace R3:=R3.mono hl166
 replace R6:=R6.mono hl166
 replace R9:=R9.mono hl166
 refine Cod.at hok hsym (.sr (.ks 1 r (.nilS [62,61,60,1] r r (.seq (.condP r hd (fun hb168 hd=>?_) fun hb168 hd=>?_)))))
 · refine .skipS [61,60,1] r r (.seq (.block (.sr (.ks 2 r (.nilS [4,61,60,1] r r (.seq (.dr [0,1,2,3,4,5,6,7,8,9,10,11,12,13,14,15,16,17] 18 (.g r r r (fun _=>.fa un34 r sz31 r (o:=3) r r r .mk) (.g r r r (fun _=>.load1 ia31 r .z r r r .mk) ?_)))))))))
   refine .g r r r (fun _=>.fa un34 r sz31 r (o:=2) r r r .mk) (.g r r r (fun _=>.load1 ia31 r .z r r r .mk) (.fk 1 r ?_))
   obtain ⟨h169,x170,hx171,hd⟩:=hd
   obtain ⟨b172,o173,cs174,e175,hC176,hr177⟩:=R3.2 _ _ hx171
   cases hr177
   refine .g r r r (fun _=>.ixa un31 sz3 r e175 r h169 (idx_lt hx171 h169) r r .mk) (.g r r r (fun _=>.ld1 (j:=0) ia3 hC176 r r r r r .mk) (.g r r r (fun _=>.fa un34 r sz31 r (o:=2) r r r .mk) (.g r r r (fun _=>.load1 ia31 r .z r r r .mk) (.fk 2 r ?_))))
   obtain ⟨h178,x179,hx180,hd⟩:=hd
   obtain ⟨b181,o182,cs183,e184,hC185,hr186⟩:=R3.2 _ _ hx180
   cases hr186
   refine .g r r r (fun _=>.ixa un31 sz3 r e184 r h178 (idx_lt hx180 h178) r r .mk) (.g r r r (fun _=>.ld1 (j:=0) ia3 hC185 r r r r r .mk) ?_)
   obtain ⟨h187,h188,h189,hd⟩:=hd
   have h195:Int.toNat x170≤Int.toNat x179:=by omega
   have h196:Int.toNat x179≤a0.Col.length:=by omega
   obtain ⟨p190,c191,e193,e194,R192⟩:=RepSl.sliceW R6 (Int.toNat x170) (Int.toNat x179) c5 h195 h196 (.inl rfl)
   refine .g r r r (fun _=>.sliceW (L:=Int.toNat x170) (H:=Int.toNat x179) (cm:=c5) un31 sz3 r r R6.1 r r r (.inr ⟨_,_,r,h187,r⟩) (.inr ⟨_,_,r,(by omega),r⟩) (.inl r) h195 h196 r e193 e194 r r .mk) (.g r r r (fun _=>.fa un34 r sz3 r (o:=1) r r r .mk) (.g r r r (fun _=>.load1 ia3 r .z r r r .mk) (.ww r fun ex=>?_)))
   have hw198:=W_csr_row (I:=I165) R192 hd
   refine .callP call92 r hw198 r r fun v199 hv200=>?_
   obtain ⟨r197,rfl,hd⟩:=hv200
   refine .so 1 r r r trivial (.fk 1 r (.e2 18 (.nilS [81,61,60,1] r r (.condP r hd (fun hb201 hd=>?_) fun hb201 hd=>?_))))
   · exact .sr (.ks 1 r (.nilS [2] r r (.drop .z (.ret (pret results41 (.t r .n) hl166 ⟨false,r,hd⟩)))))
   exact .skipS [61,60,1] r r (.region (.ks 2 r (.nil' fun c w ho hs=>⟨(w64 (s163+1)),hd,I165,hl166,ho.sub ⟨r,r,r,trivial⟩,hs.pick (.c .z .n)⟩)))
 exact .exitS [] r r (.drop .z (.sr (.ks 1 r (.nilS [2] r r (.ret (pret results41 (.t r .n) hl166 ⟨true,r,hd⟩))))))
theorem W_block_side {I:IH} {a0:Int} {Q:Bool→Prop}  (hd:block_side a0 Q) :
  PFun prog 62 [.int .i64 a0] I (fun _=>o1_ Q):=by
 refine Fun.enter func62 r ntmps62 r (.c .n) fun w0 M=>?_
 refine .sr (.ks 1 r (.nilS [0] r r (.sr (.ks 3 r ?_))))
 refine splitP hd (fun hb1 hd=>?_) fun hb1 hd=>?_
 · rw [hb1]
   exact .ks 4 r (.nilS [2] r r (.ret (pret results62 (.t r .n) (.refl _) ⟨(decide (a0≤8)),r,hd⟩)))
 rw [hb1]
 exact .ks 4 r (.nilS [2] r r (.ret (pret results62 (.t r .n) (.refl _) ⟨false,r,hd⟩)))
theorem W_block_grid {I:IH} {a0:Int} {a1:Int} {a2:Int} {a3:Int} {Q:Bool→Prop}  (hd:block_grid a0 a1 a2 a3 Q) :
  PFun prog 42 [.int .i64 a0,.int .i64 a1,.int .i64 a2,.int .i64 a3] I (fun _=>o1_ Q):=by
 refine Fun.enter func42 r ntmps42 r (.c (.c (.c (.c .n)))) fun w0 M=>?_
 refine .sr (.ks 1 r (.nilS [3,2,1,0] r r (.sr (.ks 1 r ?_))))
 have hw2:=W_block_side (I:=I) hd
 refine .callP call62 r hw2 r r fun v3 hv4=>?_
 obtain ⟨r1,rfl,hd⟩:=hv4
 refine .ks 1 r ?_
 refine splitP hd (fun hb5 hd=>?_) fun hb5 hd=>?_
 · rw [hb5]
   refine .ks 1 r ?_
   have hw7:=W_block_side (I:=I) hd
   refine .gyes r r r (.callP call62 r hw7 r r fun v8 hv9=>?_)
   obtain ⟨r6,rfl,hd⟩:=hv9
   refine .ks 2 r ?_
   refine splitP hd (fun hb10 hd=>?_) fun hb10 hd=>?_
   · rw [hb10]
     refine .ks 4 r ?_
     refine splitP hd (fun hb11 hd=>?_) fun hb11 hd=>?_
     · rw [hb11]
       refine .ks 5 r ?_
       refine splitP hd (fun hb12 hd=>?_) fun hb12 hd=>?_
       · rw [hb12]
         refine .ks 4 r ?_
         refine splitP hd (fun hb13 hd=>?_) fun hb13 hd=>?_
         · rw [hb13]
           exact .ks 5 r (.nilS [8] r r (.ret (pret results42 (.t r .n) (.refl _) ⟨(decide (a3<a1)),r,hd⟩)))
         rw [hb13]
         exact .ks 5 r (.nilS [8] r r (.ret (pret results42 (.t r .n) (.refl _) ⟨false,r,hd⟩)))
       rw [hb12]
       exact .ks 9 r (.nilS [8] r r (.ret (pret results42 (.t r .n) (.refl _) ⟨false,r,hd⟩)))
     rw [hb11]
     exact .ks 14 r (.nilS [8] r r (.ret (pret results42 (.t r .n) (.refl _) ⟨false,r,hd⟩)))
   rw [hb10]
   exact .ks 18 r (.nilS [8] r r (.ret (pret results42 (.t r .n) (.refl _) ⟨false,r,hd⟩)))
 rw [hb5]
 exact .ks 22 r (.nilS [8] r r (.ret (pret results42 (.t r .n) (.refl _) ⟨false,r,hd⟩)))
theorem W_csr_empty {I:IH} {a0:Int} {a1:Int} {Q:Rows→Prop}  (hd:csr_empty a0 a1 Q) :
  OFun prog 138 [.int .i64 a0,.int .i64 a1] I (fun _=>o4_ Q):=by
 refine Fun.enter func138 r ntmps138 r (.c (.c .n)) fun w0 M=>?_
 refine .sr (.allocA zv34 r r fun b10=>?_)
 refine .nilS [4,1,0] r r (.sr (.ks 4 r ?_))
 obtain ⟨h12,h13,hd⟩:=hd
 refine .make (El:=eI64) (zv:=0) 8 un31 IN3 r r r r r r h12 h13 r r r fun b14=>?_
 exact .build zv34 un34 BI34 (.c r r r (.t .nil) (.c r r r (.s (.t .nil)) (.c r r r (.s (.s (.t .nil))) .n))) (by exact ⟨⟨_,_,r,r,r⟩,⟨⟨_,_,r,r,r⟩,⟨⟨_,_,r,r,r⟩,trivial⟩⟩⟩) r r (.storeA sz34 r r (.s .z) (.t (.t (.t (.t (.t .nil))))) r r (.nilS [4] r r (.own0 eI64 3 (.own0 eI64 2 (.ret (oret results138 (.w ia34 sz34 r (.s (.s (.s .z))) r .n) (.refl _) (.c (.s (.s .z)) (.c (.s .z) (.c .z .n))) ⟨({ Rows:=a0,Cols:=a1,Start:=(List.replicate (w64 (a0+1)).toNat 0),Col:=([]:List Int),Val:=([]:List Int) }:Rows),_,_,_,_,_,_,r,r,hd⟩))))))
theorem W_csr_sure {I:IH} {a0:Rows} {p1:Option Addr} {c2:Nat} {p4:Option Addr} {c5:Nat} {p7:Option Addr} {c8:Nat} {Q:Rows→Prop} (R3:RepSl eI64 I p1 c2 a0.Start) (R6:RepSl eI64 I p4 c5 a0.Col) (R9:RepSl eI64 I p7 c8 a0.Val) (hd:csr_sure a0 Q) :
  PFun prog 93 [.agg #[.int .i64 a0.Rows,.int .i64 a0.Cols,.slice p1 a0.Start.length c2,.slice p4 a0.Col.length c5,.slice p7 a0.Val.length c8]] I (o9_ Q):=by
 refine Fun.enter func93 r ntmps93 r (.c .n) fun w0 M=>?_
 refine .sr (.boxA r r r fun b23=>?_)
 refine .allocA zv34 r r fun b25=>?_
 refine .nilS [2,1] r r (.seq (.sr (.loadW ia34 sz34 r (.s .z) r r r ?_)))
 have hw28:=W_csr_Right (I:=I) R3 R6 R9 hd
 refine .callP call41 r hw28 r r fun v29 hv30=>?_
 obtain ⟨r27,rfl,hd⟩:=hv30
 refine .nilS [4,2,1] r r (.condP r hd (fun hb31 hd=>?_) fun hb31 hd=>?_)
 · exact .sr (.loadW ia34 sz34 r (.s .z) r r r (.storeA sz34 r r .z (.t (.t (.t (.t (.t .nil))))) r r (.nilS [2] r r (.drop (.s .z) (.ret (pret results93 (.w ia34 sz34 r .z r .n) (.refl _) ⟨a0,_,_,_,_,_,_,r,R3,R6,R9,hd⟩))))))
 refine .skipS [2] r r (.drop (.s .z) (.sr ?_))
 have hw50:=W_csr_empty (I:=I) hd
 refine .callO call138 r hw50 r r fun v36 I33 l37 hl34 hv35=>?_
 obtain ⟨r32,p38,c39,p41,c42,p44,c45,rfl,rfl,hd⟩:=hv35
 refine .storeA sz34 r r (.s (.s (.s .z))) (.t (.t (.t (.t (.t .nil))))) r r (.nilS [2] r r (.pub .z fun I51 hl52 R53=>?_))
 have le54:=IH.le.trans hl34 hl52
 refine .pub .z fun I55 hl56 R57=>?_
 have le58:=IH.le.trans le54 hl56
 replace R53:=R53.mono hl56
 refine .pub .z fun I59 hl60 R61=>?_
 have le62:=IH.le.trans le58 hl60
 replace R53:=R53.mono hl60
 replace R57:=R57.mono hl60
 exact .ret (pret results93 (.w ia34 sz34 r .z r .n) le62 ⟨r32,_,_,_,_,_,_,r,R53,R57,R61,hd⟩)
theorem W_csr_bounds {I:IH} {a0:Int×Int} {a1:Int} {Q:(Int×Int)→Prop}  (hd:csr_bounds a0 a1 Q) :
  PFun prog 94 [.agg #[.int .i64 a0.1,.int .i64 a0.2],.int .i64 a1] I (fun _=>o10_ Q):=by
 refine Fun.enter func94 r ntmps94 r (.c (.c .n)) fun w0 M=>?_
 refine .sr (.boxA r r r fun b3=>?_)
 refine .ks 2 r (.nilS [2,1] r r (.sr (.ixArr (i:=0) un86 sz3 r r (by decide) (o:=0) r r r (.load1 ia3 r .z r r r (.maxI r r r r (.ks 1 r (.nilS [6,2,1] r r (.sr (.ixArr (i:=1) un86 sz3 r r (by decide) (o:=1) r r r ?_)))))))))
 refine .load1 ia3 r .z r r r (.ks 1 r (.minI r r r r (.ks 1 r (.nilS [7,6] r r (.drop .z (.seq (.sr (.ks 3 r (.nilS [17,7,6] r r ?_)))))))))
 refine .condP r hd (fun hb5 hd=>?_) fun hb5 hd=>?_
 · exact .sr (.ks 3 r (.nilS [5,4] r r (.ret (pret results94 (.t r (.t r .n)) (.refl _) ⟨((if 0 > a0.1 then 0 else a0.1),0),r,hd⟩))))
 exact .skipS [7,6] r r (.sr (.ks 6 r (.nilS [5,4] r r (.ret (pret results94 (.t r (.t r .n)) (.refl _) ⟨((if 0 > a0.1 then 0 else a0.1),w64 ((if a1<a0.2 then a1 else a0.2) - (if 0 > a0.1 then 0 else a0.1))),r,hd⟩)))))
theorem W_csr_part {I:IH} {a0:Rows} {a1:Int} {p1:Option Addr} {c2:Nat} {p4:Option Addr} {c5:Nat} {p7:Option Addr} {c8:Nat} {Q:((List Int)×(List Int))→Prop} (R3:RepSl eI64 I p1 c2 a0.Start) (R6:RepSl eI64 I p4 c5 a0.Col) (R9:RepSl eI64 I p7 c8 a0.Val) (hd:csr_part a0 a1 Q) :
  PFun prog 106 [.agg #[.int .i64 a0.Rows,.int .i64 a0.Cols,.slice p1 a0.Start.length c2,.slice p4 a0.Col.length c5,.slice p7 a0.Val.length c8],.int .i64 a1] I (fun I_ v=>∃ r p10 c11 p13 c14,v=.tuple #[.slice p10 r.1.length c11,.slice p13 r.2.length c14]∧RepSl eI64 I_ p10 c11 r.1∧RepSl eI64 I_ p13 c14 r.2∧Q r):=by
 refine Fun.enter func106 r ntmps106 r (.c (.c .n)) fun w0 M=>?_
 refine .sr (.boxA r r r fun b18=>?_)
 refine .ks 2 r (.nilS [2,1] r r (.seq (.dr [0,1,2,3,4,5,6,7,8,9,10,11] 12 (.g r r r (fun _=>.fa un34 r sz31 r (o:=2) r r r .mk) (.g r r r (fun _=>.load1 ia31 r .z r r r .mk) (.fk 1 r ?_))))))
 obtain ⟨h38,x39,hx40,hd⟩:=hd
 obtain ⟨b41,o42,cs43,e44,hC45,hr46⟩:=R3.2 _ _ hx40
 cases hr46
 refine .g r r r (fun _=>.ixa un31 sz3 r e44 r h38 (idx_lt hx40 h38) r r .mk) (.g r r r (fun _=>.ld1 (j:=0) ia3 hC45 r r r r r .mk) (.g r r r (fun _=>.fa un34 r sz31 r (o:=2) r r r .mk) (.g r r r (fun _=>.load1 ia31 r .z r r r .mk) (.fk 2 r ?_))))
 obtain ⟨h47,x48,hx49,hd⟩:=hd
 obtain ⟨b50,o51,cs52,e53,hC54,hr55⟩:=R3.2 _ _ hx49
 cases hr55
 refine .g r r r (fun _=>.ixa un31 sz3 r e53 r h47 (idx_lt hx49 h47) r r .mk) (.g r r r (fun _=>.ld1 (j:=0) ia3 hC54 r r r r r .mk) (.fk 1 r (.e2 12 (.ks 1 r (.nilS [7,6,2] r r (.seq (.dr [0,1,2,3,4,5,6,7,8,9,10,11,12] 13 (.g r r r (fun _=>.fa un34 r sz31 r (o:=3) r r r .mk) (.g r r r (fun _=>.load1 ia31 r .z r r r .mk) ?_)))))))))
 refine .fk 3 r ?_
 obtain ⟨h56,h57,h58,hd⟩:=hd
 have h64:Int.toNat x39≤Int.toNat x48:=by omega
 have h65:Int.toNat x48≤a0.Col.length:=by omega
 obtain ⟨p59,c60,e62,e63,R61⟩:=RepSl.sliceW R6 (Int.toNat x39) (Int.toNat x48) (Int.toNat x48) h64 h65 (.inr rfl)
 refine .g r r r (fun _=>.sliceW (L:=Int.toNat x39) (H:=Int.toNat x48) (cm:=Int.toNat x48) un31 sz3 r r R6.1 r r r (.inr ⟨_,_,r,h56,r⟩) (.inr ⟨_,_,r,(by omega),r⟩) (.inr r) h64 h65 r e62 e63 r r .mk) (.g r r r (fun _=>.fa un34 r sz32 r (o:=4) r r r .mk) (.g r r r (fun _=>.load1 ia32 r .z r r r .mk) (.fk 3 r ?_)))
 obtain ⟨h66,h67,h68,hd⟩:=hd
 have h74:Int.toNat x39≤Int.toNat x48:=by omega
 have h75:Int.toNat x48≤a0.Val.length:=by omega
 obtain ⟨p69,c70,e72,e73,R71⟩:=RepSl.sliceW R9 (Int.toNat x39) (Int.toNat x48) (Int.toNat x48) h74 h75 (.inr rfl)
 exact .g r r r (fun _=>.sliceW (L:=Int.toNat x39) (H:=Int.toNat x48) (cm:=Int.toNat x48) un32 sz2 r r R9.1 r r r (.inr ⟨_,_,r,h66,r⟩) (.inr ⟨_,_,r,(by omega),r⟩) (.inr r) h74 h75 r e72 e73 r r .mk) (.fk 1 r (.e2 13 (.ks 1 r (.nilS [5,4] r r (.drop .z (.ret (pret results106 (.t r (.t r .n)) (.refl _) ⟨(((a0.Col.take x48.toNat).drop x39.toNat),((a0.Val.take x48.toNat).drop x39.toNat)),_,_,_,_,r,R61,R71,hd⟩)))))))
theorem W_csr_Row {I:IH} {a0:Rows} {a1:Int} {p1:Option Addr} {c2:Nat} {p4:Option Addr} {c5:Nat} {p7:Option Addr} {c8:Nat} {Q:(List Item)→Prop} (R3:RepSl eI64 I p1 c2 a0.Start) (R6:RepSl eI64 I p4 c5 a0.Col) (R9:RepSl eI64 I p7 c8 a0.Val) (hd:csr_Row a0 a1 Q) :
  PFun prog 95 [.agg #[.int .i64 a0.Rows,.int .i64 a0.Cols,.slice p1 a0.Start.length c2,.slice p4 a0.Col.length c5,.slice p7 a0.Val.length c8],.int .i64 a1] I (o11_ Q):=by
 refine Fun.enter func95 r ntmps95 r (.c (.c .n)) fun w0 M=>?_
 refine .sr (.boxA r r r fun b15=>?_)
 refine .ks 1 r (.nilS [2,1] r r (.sr (.loadW ia34 sz34 r .z r r r ?_)))
 have hw48:=W_csr_sure (I:=I) R3 R6 R9 hd
 refine .call call93 r hw48 r r fun v37 I34 hl35 hv36=>?_
 obtain ⟨r33,p39,c40,p42,c43,p45,c46,rfl,R41,R44,R47,hd⟩:=hv36
 replace R3:=R3.mono hl35
 replace R6:=R6.mono hl35
 replace R9:=R9.mono hl35
 refine .storeA sz34 r r .z (.t (.t (.t (.t (.t .nil))))) r r (.nilS [2,1] r r (.seq (.sr (.ks 1 r (.fa un34 r sz3 r (o:=0) r r r (.load1 ia3 r .z r r r (.ks 1 r ?_)))))))
 have hw55:=W_csr_within (I:=I34) hd
 refine .callP call90 r hw55 r r fun v56 hv57=>?_
 obtain ⟨r54,rfl,hd⟩:=hv57
 refine .ks 1 r (.nilS [17,2,1] r r (.condP r hd (fun hb58 hd=>?_) fun hb58 hd=>?_))
 · exact .sr (.ks 1 r (.nilS [4] r r (.drop .z (.ret (pret results95 (.t r .n) hl35 ⟨([]:List Item),_,_,r,(.nil _ _ _),hd⟩)))))
 refine .skipS [2,1] r r (.sr (.ks 1 r (.nilS [5,2,1] r r (.sr (.loadW ia34 sz34 r .z r r r (.ks 1 r ?_))))))
 have hw85:=W_csr_part (I:=I34) R41 R44 R47 hd
 refine .call call106 r hw85 r r fun v77 I74 hl75 hv76=>?_
 obtain ⟨r73,p79,c80,p82,c83,rfl,R81,R84,hd⟩:=hv76
 have le86:=IH.le.trans hl35 hl75
 replace R41:=R41.mono hl75
 replace R44:=R44.mono hl75
 replace R47:=R47.mono hl75
 refine .ks 5 r (.nilS [7,6,5] r r (.drop .z (.seq (.sr (.ks 1 r (.len un31 r r r r (.ks 1 r (.nilS [26,25,24,7,5] r r (.block ?_)))))))))
 refine .own0 eItem 72 (.loop hd (fun (s:(List Item)×Int) c w=>match s with | (s155,s159)=>∃ I_ p156 c157,IH.le I74 I_∧Ok ⟨42,[],none⟩ [(5,.slice p156 s155.length c157),(7,.slice p82 r73.2.length c83),(24,.slice p79 r73.1.length c80),(25,.int .i64 (r73.1.length:Int)),(26,.int .i64 s159)] c∧Sym w0 M I I_ [OwnSl eItem 72 p156 c157 s155] w) (fun c w ho hs=>⟨I74,_,_,(.refl _),ho.sub ⟨r,r,r,r,r,trivial⟩,hs.pick (.c .z .n)⟩) ?_)
 rintro ⟨s155,s159⟩ next161 hd c w hst
 obtain ⟨I162,p156,c157,hl163,hok,hsym⟩:=hst
 have le164:=IH.le.trans le86 hl163
 replace R81:=R81.mono hl163
 replace R84:=R84.mono hl163
 refine Cod.at hok hsym (.sr (.ks 1 r (.nilS [27,26,25,24,7,5] r r (.seq (.condP r hd (fun hb166 hd=>?_) fun hb166 hd=>?_)))))
 · refine .skipS [26,25,24,7,5] r r (.seq (.block (.sr (.ks 1 r ?_))))
   obtain ⟨h167,x168,hx169,hd⟩:=hd
   obtain ⟨b170,o171,cs172,e173,hC174,hr175⟩:=R81.2 _ _ hx169
   cases hr175
   refine .ixa un31 sz3 r e173 r h167 (idx_lt hx169 h167) r r (.ld1 (j:=0) ia3 hC174 r r r r r (.ks 2 r (.nilS [9,8,26,25,24,7,5] r r (.region (.ks 4 r ?_)))))
   obtain ⟨h176,x177,hx178,hd⟩:=hd
   obtain ⟨b179,o180,cs181,e182,hC183,hr184⟩:=R84.2 _ _ hx178
   cases hr184
   refine .ixa un32 sz2 r e182 r h176 (idx_lt hx178 h176) r r (.ld1 (j:=0) ia2 hC183 r r r r r (.build zv72 un72 BI72 (.c r r r (.t .nil) (.c r r r (.s (.t .nil)) .n)) (by exact ⟨⟨_,_,r,r,r⟩,⟨⟨_,_,r,r,r⟩,trivial⟩⟩) r r (.buildSlice 1 un25 sz72 zv72 r r (.c r r r .n) r r fun b185=>?_)))
   obtain ⟨hl187,hd⟩:=hd
   refine .append (ys:=[({ At:=x168,Val:=x177 }:Item)]) 16 (.s .z) un25 un25 IN72 r r r r r r r r r (.box .z (.one r) r) hl187 r r fun p188 c189=>?_
   exact .ks 1 r (.nilS [5,26,25,24,7] r r (.drop (.s .z) (.region (.ks 2 r (.nil' fun c w ho hs=>⟨((s155++([({ At:=x168,Val:=x177 }:Item)])),w64 (s159+1)),hd,I162,_,_,hl163,ho.sub ⟨r,r,r,r,r,trivial⟩,hs.pick (.c .z .n)⟩)))))
 refine .exitS [5] r r (.sr (.ks 2 r (.nilS [4] r r (.pub .z fun I191 hl192 R193=>?_))))
 have le194:=IH.le.trans le164 hl192
 have le195:=IH.le.trans hl163 hl192
 exact .ret (pret results95 (.t r .n) le194 ⟨s155,_,_,r,R193,hd⟩)
theorem W_csr_built {I:IH} {a0:Int} {a1:Int} {a2:List Triple} {p1:Option Addr} {c2:Nat} {Q:Rows→Prop} (R3:RepSl eTriple I p1 c2 a2) (hd:csr_built a0 a1 a2 Q) :
  PFun prog 96 [.int .i64 a0,.int .i64 a1,.slice p1 a2.length c2] I (o5_ Q):=by
 refine Fun.enter func96 r ntmps96 r (.c (.c (.c .n))) fun w0 M=>?_
 refine .sr (.allocA zv34 r r fun b15=>?_)
 refine .nilS [6,2,1,0] r r (.sr (.ks 2 r ?_))
 have hw56:=W_csr_empty (I:=I) hd
 refine .callO call138 r hw56 r r fun v42 I39 l43 hl40 hv41=>?_
 obtain ⟨r38,p44,c45,p47,c48,p50,c51,rfl,rfl,hd⟩:=hv41
 replace R3:=R3.mono hl40
 refine .allocA zv34 r r fun b57=>?_
 refine .storeA sz34 r r .z (.t (.t (.t (.t (.t .nil))))) r r (.nilS [7,6,2,0] r r (.seq (.sr (.ks 1 r (.len un24 r r r r (.ks 1 r (.nilS [16,15,14,7,6,0] r r (.block (.loop hd (fun (s:(List Int)×(List Int)×(List Int)×Int) c w=>match s with | (s414,s418,s422,s426)=>∃ I_ p415 c416 p419 c420 p423 c424,IH.le I39 I_∧Ok ⟨63,[],none⟩ [(0,.int .i64 a0),(6,.pointer (some ⟨b15,0,none⟩)),(7,.pointer (some ⟨b57,0,none⟩)),(14,.slice p1 a2.length c2),(15,.int .i64 (a2.length:Int)),(16,.int .i64 s426)] c∧Sym w0 M I I_ [pto b15 (.cells #[.int .i64 0,.int .i64 0,.slice none 0 0,.slice none 0 0,.slice none 0 0] 34 (0,0)),pto b57 (.cells #[.int .i64 r38.Rows,.int .i64 r38.Cols,.slice p415 s414.length c416,.slice p419 s418.length c420,.slice p423 s422.length c424] 34 (0,0)),OwnSl eI64 3 p415 c416 s414,OwnSl eI64 3 p419 c420 s418,OwnSl eI64 2 p423 c424 s422] w) (fun c w ho hs=>⟨I39,_,_,_,_,_,_,(.refl _),ho.sub ⟨r,r,r,r,r,r,trivial⟩,hs.pick (.c (.s (.s (.s (.s .z)))) (.c .z (.c .z (.c .z (.c .z .n)))))⟩) ?_)))))))))
 rintro ⟨s414,s418,s422,s426⟩ next427 hd c w hst
 obtain ⟨I428,p415,c416,p419,c420,p423,c424,hl429,hok,hsym⟩:=hst
 have le430:=IH.le.trans hl40 hl429
 replace R3:=R3.mono hl429
 refine Cod.at hok hsym (.sr (.ks 1 r (.nilS [17,16,15,14,7,6,0] r r (.seq (.condP r hd (fun hb432 hd=>?_) fun hb432 hd=>?_)))))
 · refine .skipS [16,15,14,7,6,0] r r (.seq (.block (.sr ?_)))
   obtain ⟨h444,x445,hx446,hd⟩:=hd
   obtain ⟨b447,o448,cs449,e450,hC451,hr452⟩:=R3.2 _ _ hx446
   cases hr452
   refine .ixa un24 sz75 r e450 r h444 (idx_lt hx446 h444) r r (.ldW isAgg75 sz75 hC451 r r r r (.allocA zv75 r r fun b453=>?_))
   refine .storeA sz75 r r .z (.t (.t (.t .nil))) r r (.nilS [9,16,15,14,7,6,0] r r (.sr (.fa un34 r sz31 r (o:=2) r r r (.load1 ia31 r (.s (.s .z)) r r r (.fa un75 r sz3 r (o:=0) r r r (.load1 ia3 r .z r r r (.ks 1 r ?_)))))))
   obtain ⟨h463,x464,hx465,hd⟩:=hd
   refine .ownNe (.s (.s (.s .z))) (idx_ne hx465) fun b466 e467=>?_
   cases e467
   refine .ixa0 un31 sz3 r r h463 (idx_lt hx465 h463) r r (.lo1 (j:=0) ia3 (.s (.s (.s .z))) hx465 r r r r r (.ks 1 r ?_))
   obtain ⟨h468,x469,hx470,hd⟩:=hd
   refine .ixa0 un31 sz3 r r h468 (idx_lt hx470 h468) r r (.stO1 (j:=0) (v':=(w64 (x464+1))) sz3 (.s (.s (.s .z))) hx470 r r r (.t .nil) r (.sub (E':=[(0,_),(6,_),(7,_),(14,_),(15,_),(16,_),(9,_),(20,_),(21,.slice (some ⟨b466,0,none⟩) (s414.set ((w64 (x445.Row+1)).toNat) (w64 (x464+1))).length c416),(22,_),(23,_),(24,_),(25,_),(26,_),(27,_),(28,_)]) ⟨r,r,r,r,r,r,r,r,(by simp only [List.length_set]; rfl),r,r,r,r,r,r,r,trivial⟩ (.reat (.s (.s .z)) (B:=pto b57 (.cells #[.int .i64 r38.Rows,.int .i64 r38.Cols,.slice (some ⟨b466,0,none⟩) (s414.set ((w64 (x445.Row+1)).toNat) (w64 (x464+1))).length c416,.slice p419 s418.length c420,.slice p423 s422.length c424] 34 (0,0))) (by simp only [List.length_set]) (.nilS [9,16,15,14,7,6,0] r r (.sr (.fa un34 r sz31 r (o:=3) r r r (.load1 ia31 r (.s (.s .z)) r r r (.fa un75 r sz3 r (o:=1) r r r (.load1 ia3 r .z r r r ?_)))))))))
   refine .buildSlice 1 un31 sz3 zv3 r r (.c r r r .n) r r fun b471=>?_
   obtain ⟨hl473,hd⟩:=hd
   refine .append (ys:=[x445.Col]) 8 (.s (.s (.s (.s (.s .z))))) un31 un31 IN3 r r r r r r r r r (.box .z (.one r) r) hl473 r r fun p474 c475=>?_
   refine .fa un34 r sz31 r (o:=3) r r r (.store1 sz31 r r (.s (.s (.s (.s .z)))) (.s (.s (.s (.t .nil)))) r (.nilS [9,16,15,14,7,6,0] r r (.drop (.s .z) (.region (.fa un34 r sz32 r (o:=4) r r r (.load1 ia32 r (.s (.s (.s .z))) r r r (.fa un75 r sz2 r (o:=2) r r r (.load1 ia2 r (.s .z) r r r (.buildSlice 1 un32 sz2 zeroValue2 r r (.c r r r .n) r r fun b477=>?_)))))))))
   obtain ⟨hl479,hd⟩:=hd
   refine .append (ys:=[x445.Val]) 8 (.s (.s (.s (.s (.s (.s .z)))))) un32 un32 IN2 r r r r r r r r r (.box .z (.one r) r) hl479 r r fun p480 c481=>?_
   exact .fa un34 r sz32 r (o:=4) r r r (.store1 sz32 r r (.s (.s (.s (.s (.s .z))))) (.s (.s (.s (.s (.t .nil))))) r (.nilS [16,15,14,7,6,0] r r (.drop (.s .z) (.drop (.s (.s .z)) (.region (.ks 2 r (.nil' fun c w ho hs=>⟨((s414.set ((w64 (x445.Row+1)).toNat) (w64 (x464+1))),(s418++([x445.Col])),(s422++([x445.Val])),w64 (s426+1)),hd,I428,_,_,_,_,_,_,hl429,ho.sub ⟨r,r,r,r,r,r,trivial⟩,hs.pick (.c (.s (.s .z)) (.c (.s (.s .z)) (.c (.s (.s .z)) (.c (.s .z) (.c .z .n)))))⟩)))))))
 refine .exitS [7,6,0] r r (.seq (.sr (.ks 2 r (.nilS [45,44,7,6] r r (.block (.loop hd (fun (s:(List Int)×Int) c w=>match s with | (s530,s534)=>∃ I_ p531 c532,IH.le I428 I_∧Ok ⟨63,[],none⟩ [(6,.pointer (some ⟨b15,0,none⟩)),(7,.pointer (some ⟨b57,0,none⟩)),(44,.int .i64 a0),(45,.int .i64 s534)] c∧Sym w0 M I I_ [pto b15 (.cells #[.int .i64 0,.int .i64 0,.slice none 0 0,.slice none 0 0,.slice none 0 0] 34 (0,0)),pto b57 (.cells #[.int .i64 r38.Rows,.int .i64 r38.Cols,.slice p531 s530.length c532,.slice p419 s418.length c420,.slice p423 s422.length c424] 34 (0,0)),OwnSl eI64 3 p531 c532 s530,OwnSl eI64 3 p419 c420 s418,OwnSl eI64 2 p423 c424 s422] w) (fun c w ho hs=>⟨I428,_,_,(.refl _),ho.sub ⟨r,r,r,r,trivial⟩,hs.pick (.c .z (.c .z (.c .z (.c .z (.c .z .n)))))⟩) ?_))))))
 rintro ⟨s530,s534⟩ next535 hd c w hst
 obtain ⟨I536,p531,c532,hl537,hok,hsym⟩:=hst
 have le538:=IH.le.trans le430 hl537
 have le539:=IH.le.trans hl429 hl537
 refine Cod.at hok hsym (.sr (.ks 1 r (.nilS [46,45,44,7,6] r r (.seq (.condP r hd (fun hb541 hd=>?_) fun hb541 hd=>?_)))))
 · refine .skipS [45,44,7,6] r r (.seq (.block (.sr (.ks 2 r (.nilS [10,45,44,7,6] r r (.ownF (.s (.s .z)) fun hne542=>?_))))))
   refine .ownF (.s (.s (.s .z))) fun hne543=>?_
   refine .ownF (.s (.s (.s (.s .z)))) fun hne544=>?_
   refine .dr [0,1,2,3,4,5,6,7,8,9,10,11] 12 (.g r r r (fun _=>.fa un34 r sz31 r (o:=2) r r r .mk) (.g r r r (fun _=>.load1 ia31 r (.s .z) r r r .mk) (.fk 2 r ?_)))
   obtain ⟨h545,x546,hx547,hd⟩:=hd
   obtain ⟨b548,e549⟩:=hne542 (idx_ne hx547)
   cases e549
   refine .g r r r (fun _=>.ixa0 un31 sz3 r r h545 (idx_lt hx547 h545) r r .mk) (.g r r r (fun _=>.lo1 (j:=0) ia3 (.s (.s .z)) hx547 r r r r r .mk) (.g r r r (fun _=>.fa un34 r sz31 r (o:=2) r r r .mk) (.g r r r (fun _=>.load1 ia31 r (.s .z) r r r .mk) (.fk 1 r ?_))))
   obtain ⟨h550,x551,hx552,hd⟩:=hd
   refine .g r r r (fun _=>.ixa0 un31 sz3 r r h550 (idx_lt hx552 h550) r r .mk) (.g r r r (fun _=>.lo1 (j:=0) ia3 (.s (.s .z)) hx552 r r r r r .mk) (.fk 1 r (.e2 12 ?_)))
   obtain ⟨h553,x554,hx555,hd⟩:=hd
   exact .ixa0 un31 sz3 r r h553 (idx_lt hx555 h553) r r (.stO1 (j:=0) (v':=(w64 (x546+x551))) sz3 (.s (.s .z)) hx555 r r r (.t .nil) r (.sub (E':=[(6,_),(7,_),(44,_),(45,_),(10,_),(48,_),(49,.slice (some ⟨b548,0,none⟩) (s530.set ((w64 (s534+1)).toNat) (w64 (x546+x551))).length c532),(50,_),(51,_),(52,_),(53,_),(54,_),(55,.slice (some ⟨b548,0,none⟩) (s530.set ((w64 (s534+1)).toNat) (w64 (x546+x551))).length c532),(56,_),(57,_),(58,_),(59,_),(60,_)]) ⟨r,r,r,r,r,r,(by simp only [List.length_set]; rfl),r,r,r,r,r,(by simp only [List.length_set]; rfl),r,r,r,r,r,trivial⟩ (.reat (.s .z) (B:=pto b57 (.cells #[.int .i64 r38.Rows,.int .i64 r38.Cols,.slice (some ⟨b548,0,none⟩) (s530.set ((w64 (s534+1)).toNat) (w64 (x546+x551))).length c532,.slice p419 s418.length c420,.slice p423 s422.length c424] 34 (0,0))) (by simp only [List.length_set]) (.nilS [45,44,7,6] r r (.region (.ks 2 r (.nil' fun c w ho hs=>⟨((s530.set ((w64 (s534+1)).toNat) (w64 (x546+x551))),w64 (s534+1)),hd,I536,_,_,hl537,ho.sub ⟨r,r,r,r,trivial⟩,hs.pick (.c .z (.c .z (.c .z (.c .z (.c .z .n)))))⟩)))))))
 refine .exitS [7,6] r r (.sr (.loadW ia34 sz34 r (.s .z) r r r (.storeA sz34 r r .z (.t (.t (.t (.t (.t .nil))))) r r (.nilS [6] r r (.drop (.s .z) (.pub (.s .z) fun I556 hl557 R558=>?_))))))
 have le559:=IH.le.trans le538 hl557
 have le560:=IH.le.trans le539 hl557
 have le561:=IH.le.trans hl537 hl557
 refine .pub (.s .z) fun I562 hl563 R564=>?_
 have le565:=IH.le.trans le559 hl563
 have le566:=IH.le.trans le560 hl563
 have le567:=IH.le.trans le561 hl563
 replace R558:=R558.mono hl563
 refine .pub (.s .z) fun I568 hl569 R570=>?_
 have le571:=IH.le.trans le565 hl569
 have le572:=IH.le.trans le566 hl569
 have le573:=IH.le.trans le567 hl569
 replace R558:=R558.mono hl569
 replace R564:=R564.mono hl569
 exact .ret (pret results96 (.w ia34 sz34 r .z r .n) le571 ⟨({ Rows:=r38.Rows,Cols:=r38.Cols,Start:=s530,Col:=s418,Val:=s422 }:Rows),_,_,_,_,_,_,r,R558,R564,R570,hd⟩)
theorem W_csr_Cut {I:IH} {a0:Rows} {a1:Int×Int} {a2:Int×Int} {p1:Option Addr} {c2:Nat} {p4:Option Addr} {c5:Nat} {p7:Option Addr} {c8:Nat} {Q:Rows→Prop} (R3:RepSl eI64 I p1 c2 a0.Start) (R6:RepSl eI64 I p4 c5 a0.Col) (R9:RepSl eI64 I p7 c8 a0.Val) (hd:csr_Cut a0 a1 a2 Q) :
  PFun prog 43 [.agg #[.int .i64 a0.Rows,.int .i64 a0.Cols,.slice p1 a0.Start.length c2,.slice p4 a0.Col.length c5,.slice p7 a0.Val.length c8],.agg #[.int .i64 a1.1,.int .i64 a1.2],.agg #[.int .i64 a2.1,.int .i64 a2.2]] I (o9_ Q):=by
 refine Fun.enter func43 r ntmps43 r (.c (.c (.c .n))) fun w0 M=>?_
 refine .sr (.boxA r r r fun b27=>?_)
 refine .boxA r r r fun b29=>?_
 refine .boxA r r r fun b31=>?_
 refine .allocA zv34 r r fun b33=>?_
 refine .nilS [6,5,4,3] r r (.sr (.loadW ia34 sz34 r (.s (.s (.s .z))) r r r ?_))
 have hw66:=W_csr_sure (I:=I) R3 R6 R9 hd
 refine .call call93 r hw66 r r fun v55 I52 hl53 hv54=>?_
 obtain ⟨r51,p57,c58,p60,c61,p63,c64,rfl,R59,R62,R65,hd⟩:=hv54
 replace R3:=R3.mono hl53
 replace R6:=R6.mono hl53
 replace R9:=R9.mono hl53
 refine .storeA sz34 r r (.s (.s (.s .z))) (.t (.t (.t (.t (.t .nil))))) r r (.nilS [6,5,4,3] r r (.sr (.loadW isAgg86 sz86 r (.s (.s .z)) r r r (.fa un34 r sz3 r (o:=0) r r r (.load1 ia3 r (.s (.s (.s .z))) r r r ?_)))))
 have hw72:=W_csr_bounds (I:=I52) hd
 refine .callP call94 r hw72 r r fun v73 hv74=>?_
 obtain ⟨r71,rfl,hd⟩:=hv74
 refine .ks 5 r (.nilS [8,7,6,5,3] r r (.drop (.s (.s .z)) (.sr (.loadW isAgg86 sz86 r (.s .z) r r r (.fa un34 r sz3 r (o:=1) r r r (.load1 ia3 r (.s (.s .z)) r r r ?_))))))
 have hw80:=W_csr_bounds (I:=I52) hd
 refine .callP call94 r hw80 r r fun v81 hv82=>?_
 obtain ⟨r79,rfl,hd⟩:=hv82
 refine .ks 5 r (.nilS [10,9,8,7,6,3] r r (.drop (.s .z) (.sr (.ks 1 r (.nilS [11,10,9,8,7,6,3] r r (.seq (.sr (.ks 2 r (.nilS [32,31,11,10,9,8,7,6,3] r r ?_)))))))))
 refine .block (.own0 eTriple 75 (.loop hd (fun (s:(List Triple)×Int) c w=>match s with | (s440,s444)=>∃ I_ p441 c442,IH.le I52 I_∧Ok ⟨74,[],none⟩ [(3,.pointer (some ⟨b27,0,none⟩)),(6,.pointer (some ⟨b33,0,none⟩)),(7,.int .i64 r71.1),(8,.int .i64 r71.2),(9,.int .i64 r79.1),(10,.int .i64 r79.2),(11,.slice p441 s440.length c442),(31,.int .i64 r71.2),(32,.int .i64 s444)] c∧Sym w0 M I I_ [pto b27 (.cells #[.int .i64 r51.Rows,.int .i64 r51.Cols,.slice p57 r51.Start.length c58,.slice p60 r51.Col.length c61,.slice p63 r51.Val.length c64] 34 (0,0)),pto b33 (.cells #[.int .i64 0,.int .i64 0,.slice none 0 0,.slice none 0 0,.slice none 0 0] 34 (0,0)),OwnSl eTriple 75 p441 c442 s440] w) (fun c w ho hs=>⟨I52,_,_,(.refl _),ho.sub ⟨r,r,r,r,r,r,r,r,r,trivial⟩,hs.pick (.c (.s (.s .z)) (.c (.s .z) (.c .z .n)))⟩) ?_))
 rintro ⟨s440,s444⟩ next446 hd c w hst
 obtain ⟨I447,p441,c442,hl448,hok,hsym⟩:=hst
 have le449:=IH.le.trans hl53 hl448
 replace R59:=R59.mono hl448
 replace R62:=R62.mono hl448
 replace R65:=R65.mono hl448
 refine Cod.at hok hsym (.sr (.ks 1 r (.nilS [33,32,31,11,10,9,8,7,6,3] r r (.seq (.condP r hd (fun hb451 hd=>?_) fun hb451 hd=>?_)))))
 · refine .skipS [32,31,11,10,9,8,7,6,3] r r (.seq (.block (.sr (.ks 2 r (.nilS [12,32,31,11,10,9,8,7,6,3] r r (.sr (.loadW ia34 sz34 r .z r r r (.ks 3 r ?_))))))))
   have hw473:=W_csr_Row (I:=I447) R59 R62 R65 hd
   refine .call call95 r hw473 r r fun v468 I465 hl466 hv467=>?_
   obtain ⟨r464,p470,c471,rfl,R472,hd⟩:=hv467
   have le474:=IH.le.trans le449 hl466
   have le475:=IH.le.trans hl448 hl466
   replace R59:=R59.mono hl466
   replace R62:=R62.mono hl466
   replace R65:=R65.mono hl466
   refine .len un25 r r r r (.ks 1 r (.nilS [41,40,39,12,32,31,11,10,9,8,7,6,3] r r (.block (.loop hd (fun (s:(List Triple)×Int) c w=>match s with | (s571,s575)=>∃ I_ p572 c573,IH.le I465 I_∧Ok ⟨74,[],none⟩ [(3,.pointer (some ⟨b27,0,none⟩)),(6,.pointer (some ⟨b33,0,none⟩)),(7,.int .i64 r71.1),(8,.int .i64 r71.2),(9,.int .i64 r79.1),(10,.int .i64 r79.2),(11,.slice p572 s571.length c573),(12,.int .i64 s444),(31,.int .i64 r71.2),(32,.int .i64 s444),(39,.slice p470 r464.length c471),(40,.int .i64 (r464.length:Int)),(41,.int .i64 s575)] c∧Sym w0 M I I_ [pto b27 (.cells #[.int .i64 r51.Rows,.int .i64 r51.Cols,.slice p57 r51.Start.length c58,.slice p60 r51.Col.length c61,.slice p63 r51.Val.length c64] 34 (0,0)),pto b33 (.cells #[.int .i64 0,.int .i64 0,.slice none 0 0,.slice none 0 0,.slice none 0 0] 34 (0,0)),OwnSl eTriple 75 p572 c573 s571] w) (fun c w ho hs=>⟨I465,_,_,(.refl _),ho.sub ⟨r,r,r,r,r,r,r,r,r,r,r,r,r,trivial⟩,hs.pick (.c .z (.c .z (.c .z .n)))⟩) ?_))))
   rintro ⟨s571,s575⟩ next576 hd c w hst
   obtain ⟨I577,p572,c573,hl578,hok,hsym⟩:=hst
   have le579:=IH.le.trans le474 hl578
   have le580:=IH.le.trans le475 hl578
   replace R59:=R59.mono hl578
   replace R62:=R62.mono hl578
   replace R65:=R65.mono hl578
   replace R472:=R472.mono hl578
   refine Cod.at hok hsym (.sr (.ks 1 r (.nilS [42,41,40,39,32,31,12,11,10,9,8,7,6,3] r r (.seq (.condP r hd (fun hb582 hd=>?_) fun hb582 hd=>?_)))))
   · refine .skipS [41,40,39,32,31,12,11,10,9,8,7,6,3] r r (.seq (.block (.sr ?_)))
     obtain ⟨h594,x595,hx596,hd⟩:=hd
     obtain ⟨b597,o598,cs599,e600,hC601,hr602⟩:=R472.2 _ _ hx596
     cases hr602
     refine .ixa un25 sz72 r e600 r h594 (idx_lt hx596 h594) r r (.ldW ia72 sz72 hC601 r r r r (.allocA zv72 r r fun b603=>?_))
     refine .storeA sz72 r r .z (.t (.t .nil)) r r (.nilS [14,41,40,39,32,31,12,11,10,9,8,7,6,3] r r (.seq ?_))
     refine Cod.joinQ (σ:=Bool) hd (fun (s607:Bool) c w=>∃ I_,IH.le I577 I_∧Ok ⟨74,[],none⟩ [(3,.pointer (some ⟨b27,0,none⟩)),(6,.pointer (some ⟨b33,0,none⟩)),(7,.int .i64 r71.1),(8,.int .i64 r71.2),(9,.int .i64 r79.1),(10,.int .i64 r79.2),(11,.slice p572 s571.length c573),(12,.int .i64 s444),(14,.pointer (some ⟨b603,0,none⟩)),(31,.int .i64 r71.2),(32,.int .i64 s444),(39,.slice p470 r464.length c471),(40,.int .i64 (r464.length:Int)),(41,.int .i64 s575),(56,.bool s607)] c∧Sym w0 M I I_ [pto b27 (.cells #[.int .i64 r51.Rows,.int .i64 r51.Cols,.slice p57 r51.Start.length c58,.slice p60 r51.Col.length c61,.slice p63 r51.Val.length c64] 34 (0,0)),pto b33 (.cells #[.int .i64 0,.int .i64 0,.slice none 0 0,.slice none 0 0,.slice none 0 0] 34 (0,0)),OwnSl eTriple 75 p572 c573 s571,pto b603 (.cells #[.int .i64 x595.At,.int .i64 x595.Val] 72 (0,0))] w) (fun k608 hd=>?_) ?_
     · skip
       refine .region (.fa un72 r sz3 r (o:=0) r r r (.load1 ia3 r .z r r r (.ks 3 r ?_)))
       refine splitP hd (fun hb609 hd=>?_) fun hb609 hd=>?_
       · rw [hb609]
         exact .gyes r r r (.fa un72 r sz3 r (o:=0) r r r (.gyes r r r (.load1 ia3 r .z r r r (.ks 5 r (.nil' fun c w ho hs=>⟨(decide ((w64 (x595.At - r79.1))<r79.2)),hd,I577,(.refl _),ho.sub ⟨r,r,r,r,r,r,r,r,r,r,r,r,r,r,r,trivial⟩,hs.pick (.c (.s .z) (.c (.s .z) (.c (.s .z) (.c .z .n))))⟩)))))
       rw [hb609]
       exact .ks 7 r (.nil' fun c w ho hs=>⟨false,hd,I577,(.refl _),ho.sub ⟨r,r,r,r,r,r,r,r,r,r,r,r,r,r,r,trivial⟩,hs.pick (.c (.s .z) (.c (.s .z) (.c (.s .z) (.c .z .n))))⟩)
     rintro s607 hd c w hst
     obtain ⟨I610,hl611,hok,hsym⟩:=hst
     have le612:=IH.le.trans le579 hl611
     have le613:=IH.le.trans le580 hl611
     have le614:=IH.le.trans hl578 hl611
     replace R59:=R59.mono hl611
     replace R62:=R62.mono hl611
     replace R65:=R65.mono hl611
     replace R472:=R472.mono hl611
     refine Cod.at hok hsym (.condP r hd (fun hb615 hd=>?_) fun hb615 hd=>?_)
     · refine .region (.ks 2 r (.fa un72 r sz3 r (o:=0) r r r (.load1 ia3 r (.s (.s (.s .z))) r r r (.ks 2 r (.fa un72 r sz2 r (o:=1) r r r (.load1 ia2 r (.s (.s (.s .z))) r r r (.build zv75 un75 BI75 (.c r r r (.t .nil) (.c r r r (.s (.t .nil)) (.c r r r (.s (.s (.t .nil))) .n))) (by exact ⟨⟨_,_,r,r,r⟩,⟨⟨_,_,r,r,r⟩,⟨⟨_,_,r,r,r⟩,trivial⟩⟩⟩) r r (.buildSlice 1 un24 sz75 zv75 r r (.c r r r .n) r r fun b616=>?_))))))))
       obtain ⟨hl618,hd⟩:=hd
       refine .append (ys:=[({ Row:=s444,Col:=w64 (x595.At - r79.1),Val:=x595.Val }:Triple)]) 24 (.s (.s (.s .z))) un24 un24 IN75 r r r r r r r r r (.box .z (.one r) r) hl618 r r fun p619 c620=>?_
       exact .ks 1 r (.nilS [11,41,40,39,32,31,12,10,9,8,7,6,3] r r (.drop (.s .z) (.drop (.s (.s (.s .z))) (.region (.ks 2 r (.nil' fun c w ho hs=>⟨((s571++([({ Row:=s444,Col:=w64 (x595.At - r79.1),Val:=x595.Val }:Triple)])),w64 (s575+1)),hd,I610,_,_,le614,ho.sub ⟨r,r,r,r,r,r,r,r,r,r,r,r,r,trivial⟩,hs.pick (.c (.s .z) (.c (.s .z) (.c .z .n)))⟩))))))
     exact .skipS [41,40,39,32,31,12,11,10,9,8,7,6,3] r r (.drop (.s (.s (.s .z))) (.region (.ks 2 r (.nil' fun c w ho hs=>⟨(s571,w64 (s575+1)),hd,I610,_,_,le614,ho.sub ⟨r,r,r,r,r,r,r,r,r,r,r,r,r,trivial⟩,hs.pick (.c .z (.c .z (.c .z .n)))⟩))))
   exact .exitS [32,31,11,10,9,8,7,6,3] r r (.region (.ks 2 r (.nil' fun c w ho hs=>⟨(s571,w64 (s444+1)),hd,I577,_,_,le580,ho.sub ⟨r,r,r,r,r,r,r,r,r,trivial⟩,hs.pick (.c .z (.c .z (.c .z .n)))⟩)))
 refine .exitS [11,10,8,6] r r (.drop .z (.sr (.ks 3 r (.pub (.s .z) fun I622 hl623 R624=>?_))))
 have le625:=IH.le.trans le449 hl623
 have le626:=IH.le.trans hl448 hl623
 have hw642:=W_csr_built (I:=I622) R624 hd
 refine .call call96 r hw642 r r fun v631 I628 hl629 hv630=>?_
 obtain ⟨r627,p633,c634,p636,c637,p639,c640,rfl,R635,R638,R641,hd⟩:=hv630
 have le643:=IH.le.trans le625 hl629
 have le644:=IH.le.trans le626 hl629
 replace R624:=R624.mono hl629
 exact .storeA sz34 r r .z (.t (.t (.t (.t (.t .nil))))) r r (.nilS [6] r r (.ret (pret results43 (.w ia34 sz34 r .z r .n) le643 ⟨r627,_,_,_,_,_,_,r,R635,R638,R641,hd⟩)))
theorem W_part_side {I:IH} {a0:Int} {Q:Bool→Prop}  (hd:part_side a0 Q) :
  PFun prog 105 [.int .i64 a0] I (fun _=>o1_ Q):=by
 refine Fun.enter func105 r ntmps105 r (.c .n) fun w0 M=>?_
 refine .sr (.ks 1 r (.nilS [0] r r (.sr (.ks 3 r ?_))))
 refine splitP hd (fun hb1 hd=>?_) fun hb1 hd=>?_
 · rw [hb1]
   exact .ks 4 r (.nilS [2] r r (.ret (pret results105 (.t r .n) (.refl _) ⟨(decide (a0≤8)),r,hd⟩)))
 rw [hb1]
 exact .ks 4 r (.nilS [2] r r (.ret (pret results105 (.t r .n) (.refl _) ⟨false,r,hd⟩)))
theorem W_part_may {I:IH} {a0:Int} {a1:Int} {Q:Bool→Prop}  (hd:part_may a0 a1 Q) :
  PFun prog 107 [.int .i64 a0,.int .i64 a1] I (fun _=>o1_ Q):=by
 refine Fun.enter func107 r ntmps107 r (.c (.c .n)) fun w0 M=>?_
 refine .sr (.ks 1 r (.nilS [1,0] r r (.sr (.ks 3 r ?_))))
 refine splitP hd (fun hb1 hd=>?_) fun hb1 hd=>?_
 · rw [hb1]
   refine .ks 4 r ?_
   refine splitP hd (fun hb2 hd=>?_) fun hb2 hd=>?_
   · rw [hb2]
     refine .ks 1 r ?_
     have hw4:=W_part_side (I:=I) hd
     refine .gyes r r r (.callP call105 r hw4 r r fun v5 hv6=>?_)
     obtain ⟨r3,rfl,hd⟩:=hv6
     exact .ks 2 r (.nilS [4] r r (.ret (pret results107 (.t r .n) (.refl _) ⟨r3,r,hd⟩)))
   rw [hb2]
   exact .ks 4 r (.nilS [4] r r (.ret (pret results107 (.t r .n) (.refl _) ⟨false,r,hd⟩)))
 rw [hb1]
 exact .ks 8 r (.nilS [4] r r (.ret (pret results107 (.t r .n) (.refl _) ⟨false,r,hd⟩)))
theorem W_part_Low {I:IH} {a0:Int} {a1:Int} {a2:Int} {Q:Int→Prop}  (hd:part_Low a0 a1 a2 Q) :
  PFun prog 66 [.int .i64 a0,.int .i64 a1,.int .i64 a2] I (fun _=>o0_ Q):=by
 refine Fun.enter func66 r ntmps66 r (.c (.c (.c .n))) fun w0 M=>?_
 refine .sr (.ks 1 r (.nilS [2,1,0] r r (.seq (.sr (.ks 2 r ?_)))))
 have hw7:=W_part_may (I:=I) hd
 refine .callP call107 r hw7 r r fun v8 hv9=>?_
 obtain ⟨r6,rfl,hd⟩:=hv9
 refine .ks 1 r (.nilS [10,2,1,0] r r (.condP r hd (fun hb10 hd=>?_) fun hb10 hd=>?_))
 · exact .sr (.ks 1 r (.nilS [6] r r (.ret (pret results66 (.t r .n) (.refl _) ⟨0,r,hd⟩))))
 refine .skipS [2,1,0] r r (.sr (.ks 1 r (.maxI r r r r (.ks 1 r (.minI r r r r (.ks 3 r ?_))))))
 obtain ⟨hz11,hd⟩:=hd
 exact .quo r r hz11 r r (.ks 1 r (.nilS [6] r r (.ret (pret results66 (.t r .n) (.refl _) ⟨(w64 ((w64 ((if a1<(if 0 > a2 then 0 else a2) then a1 else (if 0 > a2 then 0 else a2))*a0)).tdiv a1)),r,hd⟩))))
theorem W_block_bounds {I:IH} {a0:Int} {a1:Int} {a2:Int} {Q:(Int×Int)→Prop}  (hd:block_bounds a0 a1 a2 Q) :
  PFun prog 44 [.int .i64 a0,.int .i64 a1,.int .i64 a2] I (fun _=>o12_ Q):=by
 refine Fun.enter func44 r ntmps44 r (.c (.c (.c .n))) fun w0 M=>?_
 refine .sr (.allocA zv86 r r fun b3=>?_)
 refine .nilS [6,2,1,0] r r (.sr (.ks 3 r ?_))
 have hw6:=W_part_Low (I:=I) hd
 refine .callP call66 r hw6 r r fun v7 hv8=>?_
 obtain ⟨r5,rfl,hd⟩:=hv8
 refine .ks 4 r ?_
 have hw10:=W_part_Low (I:=I) hd
 refine .callP call66 r hw10 r r fun v11 hv12=>?_
 obtain ⟨r9,rfl,hd⟩:=hv12
 exact .buildArr zv86 un86 sz3 (.c r r r (.t .nil) (.c r r r (.s (.t .nil)) .n)) r r (.storeA sz86 r r .z (.t (.t .nil)) r r (.nilS [6] r r (.ret (pret results44 (.w isAgg86 sz86 r .z r .n) (.refl _) ⟨(r5,r9),r,hd⟩))))
theorem W_block_Cut {I:IH} {a0:Rows} {a1:Int} {a2:Int} {a3:Int} {a4:Int} {p1:Option Addr} {c2:Nat} {p4:Option Addr} {c5:Nat} {p7:Option Addr} {c8:Nat} {Q:Rows→Prop} (R3:RepSl eI64 I p1 c2 a0.Start) (R6:RepSl eI64 I p4 c5 a0.Col) (R9:RepSl eI64 I p7 c8 a0.Val) (hd:block_Cut a0 a1 a2 a3 a4 Q) :
  PFun prog 12 [.agg #[.int .i64 a0.Rows,.int .i64 a0.Cols,.slice p1 a0.Start.length c2,.slice p4 a0.Col.length c5,.slice p7 a0.Val.length c8],.int .i64 a1,.int .i64 a2,.int .i64 a3,.int .i64 a4] I (o9_ Q):=by
 refine Fun.enter func12 r ntmps12 r (.c (.c (.c (.c (.c .n))))) fun w0 M=>?_
 refine .sr (.boxA r r r fun b23=>?_)
 refine .allocA zv34 r r fun b25=>?_
 refine .nilS [10,5,4,3,2,1] r r (.seq (.sr (.loadW ia34 sz34 r (.s .z) r r r ?_)))
 have hw70:=W_csr_Right (I:=I) R3 R6 R9 hd
 refine .callP call41 r hw70 r r fun v71 hv72=>?_
 obtain ⟨r69,rfl,hd⟩:=hv72
 refine .ks 2 r ?_
 refine splitP hd (fun hb73 hd=>?_) fun hb73 hd=>?_
 · rw [hb73]
   refine .ks 7 r (.nilS [21,10,5,4,3,2,1] r r (.condKT r r (.sr (.build zv34 un34 BI34 .n (by exact trivial) r r (.buildArr zv86 un86 sz3 .n r r (.buildArr zv86 un86 sz3 .n r r ?_))))))
   have hw89:=W_csr_Cut (I:=I) (a0:=({ Rows:=0,Cols:=0,Start:=([]:List Int),Col:=([]:List Int),Val:=([]:List Int) }:Rows)) (.nil _ none 0) (.nil _ none 0) (.nil _ none 0) hd
   refine .call call43 r hw89 r r fun v78 I75 hl76 hv77=>?_
   obtain ⟨r74,p80,c81,p83,c84,p86,c87,rfl,R82,R85,R88,hd⟩:=hv77
   replace R3:=R3.mono hl76
   replace R6:=R6.mono hl76
   replace R9:=R9.mono hl76
   exact .storeA sz34 r r .z (.t (.t (.t (.t (.t .nil))))) r r (.nilS [10] r r (.drop (.s .z) (.ret (pret results12 (.w ia34 sz34 r .z r .n) hl76 ⟨r74,_,_,_,_,_,_,r,R82,R85,R88,hd⟩))))
 rw [hb73]
 refine .ks 4 r ?_
 have hw91:=W_block_grid (I:=I) hd
 refine .gyes r r r (.callP call42 r hw91 r r fun v92 hv93=>?_)
 obtain ⟨r90,rfl,hd⟩:=hv93
 refine .ks 2 r (.nilS [21,10,5,4,3,2,1] r r (.condP r hd (fun hb94 hd=>?_) fun hb94 hd=>?_))
 · refine .sr (.build zv34 un34 BI34 .n (by exact trivial) r r (.buildArr zv86 un86 sz3 .n r r (.buildArr zv86 un86 sz3 .n r r ?_)))
   have hw110:=W_csr_Cut (I:=I) (a0:=({ Rows:=0,Cols:=0,Start:=([]:List Int),Col:=([]:List Int),Val:=([]:List Int) }:Rows)) (.nil _ none 0) (.nil _ none 0) (.nil _ none 0) hd
   refine .call call43 r hw110 r r fun v99 I96 hl97 hv98=>?_
   obtain ⟨r95,p101,c102,p104,c105,p107,c108,rfl,R103,R106,R109,hd⟩:=hv98
   replace R3:=R3.mono hl97
   replace R6:=R6.mono hl97
   replace R9:=R9.mono hl97
   exact .storeA sz34 r r .z (.t (.t (.t (.t (.t .nil))))) r r (.nilS [10] r r (.drop (.s .z) (.ret (pret results12 (.w ia34 sz34 r .z r .n) hl97 ⟨r95,_,_,_,_,_,_,r,R103,R106,R109,hd⟩))))
 refine .skipS [10,5,4,3,2,1] r r (.seq (.dr [0,1,2,3,4,6,7,8,9,5,10,11] 12 (.g r r r (fun _=>.loadW ia34 sz34 r (.s .z) r r r .mk) (.g r r r (fun _=>.fa un34 r sz3 r (o:=0) r r r .mk) (.g r r r (fun _=>.load1 ia3 r (.s .z) r r r .mk) (.fk 2 r (.g r r r (fun _=>.fa un34 r sz3 r (o:=1) r r r .mk) (.g r r r (fun _=>.load1 ia3 r (.s .z) r r r .mk) (.fk 2 r ?_)))))))))
 refine .ww r fun ex=>?_
 have hw112:=W_block_bounds (I:=I) hd
 refine .callP call44 r hw112 r r fun v113 hv114=>?_
 obtain ⟨r111,rfl,hd⟩:=hv114
 refine .so 2 r r r (.ck 2 r r (.cg r r r r (fun _=>.load1 ia3 r (.s .z) r r r .mk) (.cg r r r r (fun _=>.fa un34 r sz3 r (o:=1) r r r .mk) (.cg r r r r (fun _=>.loadW ia34 sz34 r (.s .z) r r r .mk) trivial)))) (.ww r fun ex=>?_)
 have hw116:=W_block_bounds (I:=I) hd
 refine .callP call44 r hw116 r r fun v117 hv118=>?_
 obtain ⟨r115,rfl,hd⟩:=hv118
 refine .so 2 r r r (.cg r r r r (fun _=>.loadW ia34 sz34 r (.s .z) r r r .mk) trivial) (.ww r fun ex=>?_)
 have hw134:=W_csr_Cut (I:=I) R3 R6 R9 hd
 refine .call call43 r hw134 r r fun v123 I120 hl121 hv122=>?_
 obtain ⟨r119,p125,c126,p128,c129,p131,c132,rfl,R127,R130,R133,hd⟩:=hv122
 replace R3:=R3.mono hl121
 replace R6:=R6.mono hl121
 replace R9:=R9.mono hl121
 exact .so 2 r r r trivial (.e2 12 (.storeA sz34 r r .z (.t (.t (.t (.t (.t .nil))))) r r (.nilS [10] r r (.drop (.s .z) (.ret (pret results12 (.w ia34 sz34 r .z r .n) hl121 ⟨r119,_,_,_,_,_,_,r,R127,R130,R133,hd⟩))))))
theorem W_ref07_SameItems {I:IH} {a0:List Item} {a1:List Item} {p1:Option Addr} {c2:Nat} {p4:Option Addr} {c5:Nat} {Q:Bool→Prop} (R3:RepSl eItem I p1 c2 a0) (R6:RepSl eItem I p4 c5 a1) (hd:ref07_SameItems a0 a1 Q) :
  PFun prog 50 [.slice p1 a0.length c2,.slice p4 a1.length c5] I (fun _=>o1_ Q):=by
 refine Fun.enter func50 r ntmps50 r (.c (.c .n)) fun w0 M=>?_
 refine .sr (.ks 1 r (.nilS [1,0] r r (.seq (.sr (.ks 1 r (.len un25 r r r r (.ks 1 r (.len un25 r r r r (.ks 1 r ?_)))))))))
 refine .nilS [10,1,0] r r (.condP r hd (fun hb8 hd=>?_) fun hb8 hd=>?_)
 · exact .sr (.ks 1 r (.nilS [4] r r (.ret (pret results50 (.t r .n) (.refl _) ⟨false,r,hd⟩))))
 refine .skipS [1,0] r r (.seq (.sr (.ks 1 r (.nilS [5,1,0] r r (.block (.loop hd (fun (s54:Int) c w=>∃ I_,IH.le I I_∧Ok ⟨26,[],none⟩ [(0,.slice p1 a0.length c2),(1,.slice p4 a1.length c5),(5,.int .i64 s54)] c∧Sym w0 M I I_ [] w) (fun c w ho hs=>⟨I,(.refl _),ho.sub ⟨r,r,r,trivial⟩,hs.pick .n⟩) ?_))))))
 rintro s54 next55 hd c w hst
 obtain ⟨I56,hl57,hok,hsym⟩:=hst
 replace R3:=R3.mono hl57
 replace R6:=R6.mono hl57
 refine Cod.at hok hsym (.seq (.sr (.ks 2 r (.len un25 r r r r (.ks 1 r (.nilS [14,5,1,0] r r (.condP r hd (fun hb59 hd=>?_) fun hb59 hd=>?_)))))))
 · refine .skipS [5,1,0] r r (.seq (.block (.seq (.dr [0,1,2,3,4,5,6,7,8] 9 (.fk 2 r ?_)))))
   obtain ⟨h60,x61,hx62,hd⟩:=hd
   obtain ⟨b63,o64,cs65,e66,hC67,hr68⟩:=R3.2 _ _ hx62
   cases hr68
   refine .g r r r (fun _=>.ixa un25 sz72 r e66 r h60 (idx_lt hx62 h60) r r .mk) (.g r r r (fun _=>.ldW ia72 sz72 hC67 r r r r .mk) (.fk 2 r ?_))
   obtain ⟨h69,x70,hx71,hd⟩:=hd
   obtain ⟨b72,o73,cs74,e75,hC76,hr77⟩:=R6.2 _ _ hx71
   cases hr77
   refine .g r r r (fun _=>.ixa un25 sz72 r e75 r h69 (idx_lt hx71 h69) r r .mk) (.g r r r (fun _=>.ldW ia72 sz72 hC76 r r r r .mk) (.g r r r (fun _=>.neV r r (EQ72 x61 x70) (EG72 _ _ _ _ _) r r r .mk) (.e2 9 (.nilS [25,5,1,0] r r (.condP r hd (fun hb78 hd=>?_) fun hb78 hd=>?_)))))
   · exact .sr (.ks 1 r (.nilS [4] r r (.ret (pret results50 (.t r .n) hl57 ⟨false,r,hd⟩))))
   exact .skipS [5,1,0] r r (.region (.ks 3 r (.nil' fun c w ho hs=>⟨(w64 (s54+1)),hd,I56,hl57,ho.sub ⟨r,r,r,trivial⟩,hs.pick .n⟩)))
 exact .exitS [] r r (.sr (.ks 1 r (.nilS [4] r r (.ret (pret results50 (.t r .n) hl57 ⟨true,r,hd⟩)))))
theorem W_ref09_Same {I:IH} {a0:Vec} {a1:Vec} {p1:Option Addr} {c2:Nat} {p4:Option Addr} {c5:Nat} {Q:Bool→Prop} (R3:RepSl eItem I p1 c2 a0.Items) (R6:RepSl eItem I p4 c5 a1.Items) (hd:ref09_Same a0 a1 Q) :
  PFun prog 14 [.agg #[.int .i64 a0.N,.slice p1 a0.Items.length c2],.agg #[.int .i64 a1.N,.slice p4 a1.Items.length c5]] I (fun _=>o1_ Q):=by
 refine Fun.enter func14 r ntmps14 r (.c (.c .n)) fun w0 M=>?_
 refine .sr (.boxA r r r fun b11=>?_)
 refine .boxA r r r fun b13=>?_
 refine .ks 1 r (.nilS [3,2] r r (.sr (.fa un37 r sz3 r (o:=0) r r r (.load1 ia3 r (.s .z) r r r (.fa un37 r sz3 r (o:=0) r r r (.load1 ia3 r .z r r r (.ks 2 r ?_)))))))
 refine splitP hd (fun hb15 hd=>?_) fun hb15 hd=>?_
 · rw [hb15]
   refine .gyes r r r (.fa un37 r sz25 r (o:=1) r r r (.gyes r r r (.load1 ia25 r (.s .z) r r r (.gyes r r r (.fa un37 r sz25 r (o:=1) r r r (.gyes r r r (.load1 ia25 r .z r r r ?_)))))))
   have hw17:=W_ref07_SameItems (I:=I) R3 R6 hd
   refine .gyes r r r (.callP call50 r hw17 r r fun v18 hv19=>?_)
   obtain ⟨r16,rfl,hd⟩:=hv19
   exact .ks 2 r (.nilS [4] r r (.drop .z (.drop .z (.ret (pret results14 (.t r .n) (.refl _) ⟨r16,r,hd⟩)))))
 rw [hb15]
 exact .ks 7 r (.nilS [4] r r (.drop .z (.drop .z (.ret (pret results14 (.t r .n) (.refl _) ⟨false,r,hd⟩)))))
theorem W_spvec_within {I:IH} {a0:Int} {a1:Int} {Q:Bool→Prop}  (hd:spvec_within a0 a1 Q) :
  PFun prog 98 [.int .i64 a0,.int .i64 a1] I (fun _=>o1_ Q):=by
 refine Fun.enter func98 r ntmps98 r (.c (.c .n)) fun w0 M=>?_
 refine .sr (.ks 1 r (.nilS [1,0] r r (.sr (.ks 3 r ?_))))
 refine splitP hd (fun hb1 hd=>?_) fun hb1 hd=>?_
 · rw [hb1]
   exact .ks 5 r (.nilS [4] r r (.ret (pret results98 (.t r .n) (.refl _) ⟨(decide (a0≤a1)),r,hd⟩)))
 rw [hb1]
 exact .ks 5 r (.nilS [4] r r (.ret (pret results98 (.t r .n) (.refl _) ⟨false,r,hd⟩)))
theorem W_spvec_Right_1_81a {I:IH} {o0:Int} {o1:Vec} {a0:Item} {b3:Nat} {b4:Nat} {p5:Option Addr} {c6:Nat} {Q:(Bool×Int)→Prop} (R7:RepSl eItem I p5 c6 o1.Items) (hd:spvec_Right_1_81a o0 o1 a0 Q) :
  Fun prog 100 #[.agg (encItem a0).toArray,.pointer (some ⟨b3,0,none⟩),.pointer (some ⟨b4,0,none⟩)] I [pto b3 (.cells #[.int .i64 o0] 3 (0,0)),pto b4 (.cells #[.int .i64 o1.N,.slice p5 o1.Items.length c6] 37 (0,0))] (fun I_ v l=>∃ r,v=.bool r.1∧l=[pto b3 (.cells #[.int .i64 r.2] 3 (0,0)),pto b4 (.cells #[.int .i64 o1.N,.slice p5 o1.Items.length c6] 37 (0,0))]∧Q r):=by
 refine Fun.enter (vs:=[.agg (encItem a0).toArray,.pointer (some ⟨b3,0,none⟩),.pointer (some ⟨b4,0,none⟩)]) func100 r ntmps100 r (.c (.c (.c .n))) fun w0 M=>?_
 refine .sr (.boxA r r r fun b10=>?_)
 refine .ks 1 r (.nilS [3,2,1] r r (.sr (.fa un72 r sz3 r (o:=0) r r r (.load1 ia3 r .z r r r (.load1 ia3 r (.s .z) r r r (.ks 2 r ?_))))))
 refine splitP hd (fun hb12 hd=>?_) fun hb12 hd=>?_
 · rw [hb12]
   refine .ks 7 r (.nilS [5,3,2,1] r r (.sr (.fa un72 r sz3 r (o:=0) r r r (.load1 ia3 r .z r r r (.store1 sz3 r r (.s .z) (.t .nil) r (.nilS [5,2,1] r r (.drop .z (.sr (.ks 2 r ?_)))))))))
   exact .nilS [4,2,1] r r (.ret (oret results100 (.t r .n) (.refl _) (.c .z (.c .z .n)) ⟨(true,a0.At),r,r,hd⟩))
 rw [hb12]
 refine .gyes r r r (.fa un72 r sz3 r (o:=0) r r r (.gyes r r r (.load1 ia3 r .z r r r (.gyes r r r (.fa un37 r sz3 r (o:=0) r r r (.gyes r r r (.load1 ia3 r (.s (.s .z)) r r r (.ks 3 r (.nilS [5,3,2,1] r r (.sr (.fa un72 r sz3 r (o:=0) r r r (.load1 ia3 r .z r r r (.store1 sz3 r r (.s .z) (.t .nil) r ?_)))))))))))))
 exact .nilS [5,2,1] r r (.drop .z (.sr (.ks 2 r (.nilS [4,2,1] r r (.ret (oret results100 (.t r .n) (.refl _) (.c .z (.c .z .n)) ⟨(decide (o1.N≤a0.At),a0.At),r,r,hd⟩))))))
theorem W_slices_IndexFunc_api_Item_api_Item_a3e {I:IH} {o0:Int} {o1:Vec} {a0:List Item} {b3:Nat} {b4:Nat} {p5:Option Addr} {c6:Nat} {p8:Option Addr} {c9:Nat} {Q:(Int×Int)→Prop} (R7:RepSl eItem I p5 c6 o1.Items) (R10:RepSl eItem I p8 c9 a0) (hd:slices_IndexFunc_api_Item_api_Item_a3e o0 o1 a0 Q) :
  Fun prog 139 #[.slice p8 a0.length c9,.func (.func 100) #[] #[.pointer (some ⟨b3,0,none⟩),.pointer (some ⟨b4,0,none⟩)]] I [pto b3 (.cells #[.int .i64 o0] 3 (0,0)),pto b4 (.cells #[.int .i64 o1.N,.slice p5 o1.Items.length c6] 37 (0,0))] (fun I_ v l=>∃ r,v=.int .i64 r.1∧l=[pto b3 (.cells #[.int .i64 r.2] 3 (0,0)),pto b4 (.cells #[.int .i64 o1.N,.slice p5 o1.Items.length c6] 37 (0,0))]∧Q r):=by
 refine Fun.enter (vs:=[.slice p8 a0.length c9,.func (.func 100) #[] #[.pointer (some ⟨b3,0,none⟩),.pointer (some ⟨b4,0,none⟩)]]) func139 r ntmps139 r (.c (.c .n)) fun w0 M=>?_
 refine .sr (.ks 1 r (.nilS [1,0] r r (.seq (.sr (.ks 1 r (.len un25 r r r r (.ks 1 r (.nilS [8,7,1,0] r r (.block ?_)))))))))
 refine .loop hd (fun (s:Int×Int) c w=>match s with | (s59,s60)=>∃ I_,IH.le I I_∧Ok ⟨19,[],none⟩ [(0,.slice p8 a0.length c9),(1,.func (.func 100) #[] #[.pointer (some ⟨b3,0,none⟩),.pointer (some ⟨b4,0,none⟩)]),(7,.int .i64 (a0.length:Int)),(8,.int .i64 s60)] c∧Sym w0 M I I_ [pto b3 (.cells #[.int .i64 s59] 3 (0,0)),pto b4 (.cells #[.int .i64 o1.N,.slice p5 o1.Items.length c6] 37 (0,0))] w) (fun c w ho hs=>⟨I,(.refl _),ho.sub ⟨r,r,r,r,trivial⟩,hs.pick (.c .z (.c .z .n))⟩) ?_
 rintro ⟨s59,s60⟩ next61 hd c w hst
 obtain ⟨I62,hl63,hok,hsym⟩:=hst
 replace R7:=R7.mono hl63
 replace R10:=R10.mono hl63
 refine Cod.at hok hsym (.sr (.ks 1 r (.nilS [9,8,7,1,0] r r (.seq (.condP r hd (fun hb65 hd=>?_) fun hb65 hd=>?_)))))
 · refine .skipS [8,7,1,0] r r (.seq (.block (.sr (.ks 2 r (.nilS [5,8,7,1,0] r r (.sr (.ks 3 r ?_)))))))
   obtain ⟨h66,x67,hx68,hd⟩:=hd
   obtain ⟨b69,o70,cs71,e72,hC73,hr74⟩:=R10.2 _ _ hx68
   cases hr74
   refine .ixa un25 sz72 r e72 r h66 (idx_lt hx68 h66) r r (.ldW ia72 sz72 hC73 r r r r ?_)
   have hw75:=W_spvec_Right_1_81a (I:=I62) (o0:=s59) (o1:=o1) (a0:=x67) (b3:=b3) (b4:=b4) (p5:=p5) (c6:=c6) R7 hd
   refine .callS (.c call100 r r) (.c .z (.c .z .n)) hw75 r r fun v79 I76 l80 hl77 hv78=>?_
   obtain ⟨r81,rfl,rfl,hd⟩:=hv78
   have le84:=IH.le.trans hl63 hl77
   replace R7:=R7.mono hl77
   replace R10:=R10.mono hl77
   replace hC73:=hC73.mono hl77
   refine .re (m':=[pto b3 (.cells #[.int .i64 r81.2] 3 (0,0)),pto b4 (.cells #[.int .i64 o1.N,.slice p5 o1.Items.length c6] 37 (0,0))]) r (.nilS [16,5,8,7,1,0] r r (.condP r hd (fun hb85 hd=>?_) fun hb85 hd=>?_))
   · exact .sr (.ks 2 r (.nilS [4,1] r r (.ret (oret results139 (.t r .n) le84 (.c .z (.c .z .n)) ⟨(s60,r81.2),r,r,hd⟩))))
   exact .skipS [8,7,1,0] r r (.region (.ks 2 r (.nil' fun c w ho hs=>⟨(r81.2,w64 (s60+1)),hd,I76,le84,ho.sub ⟨r,r,r,r,trivial⟩,hs.pick (.c .z (.c .z .n))⟩)))
 exact .exitS [1] r r (.sr (.ks 1 r (.nilS [4,1] r r (.ret (oret results139 (.t r .n) hl63 (.c .z (.c .z .n)) ⟨((-1),s59),r,r,hd⟩)))))
theorem W_slices_ContainsFunc_api_Item_api_Item_cd0 {I:IH} {o0:Int} {o1:Vec} {a0:List Item} {b3:Nat} {b4:Nat} {p5:Option Addr} {c6:Nat} {p8:Option Addr} {c9:Nat} {Q:(Bool×Int)→Prop} (R7:RepSl eItem I p5 c6 o1.Items) (R10:RepSl eItem I p8 c9 a0) (hd:slices_ContainsFunc_api_Item_api_Item_cd0 o0 o1 a0 Q) :
  Fun prog 99 #[.slice p8 a0.length c9,.func (.func 100) #[] #[.pointer (some ⟨b3,0,none⟩),.pointer (some ⟨b4,0,none⟩)]] I [pto b3 (.cells #[.int .i64 o0] 3 (0,0)),pto b4 (.cells #[.int .i64 o1.N,.slice p5 o1.Items.length c6] 37 (0,0))] (fun I_ v l=>∃ r,v=.bool r.1∧l=[pto b3 (.cells #[.int .i64 r.2] 3 (0,0)),pto b4 (.cells #[.int .i64 o1.N,.slice p5 o1.Items.length c6] 37 (0,0))]∧Q r):=by
 refine Fun.enter (vs:=[.slice p8 a0.length c9,.func (.func 100) #[] #[.pointer (some ⟨b3,0,none⟩),.pointer (some ⟨b4,0,none⟩)]]) func99 r ntmps99 r (.c (.c .n)) fun w0 M=>?_
 refine .sr (.ks 1 r (.nilS [1,0] r r (.sr (.ks 2 r ?_))))
 have hw11:=W_slices_IndexFunc_api_Item_api_Item_a3e (I:=I) (o0:=o0) (o1:=o1) (a0:=a0) (b3:=b3) (b4:=b4) (p5:=p5) (c6:=c6) R7 R10 hd
 refine .callS (.f call139 r) (.c .z (.c .z .n)) hw11 r r fun v15 I12 l16 hl13 hv14=>?_
 obtain ⟨r17,rfl,rfl,hd⟩:=hv14
 replace R7:=R7.mono hl13
 replace R10:=R10.mono hl13
 exact .re (m':=[pto b3 (.cells #[.int .i64 r17.2] 3 (0,0)),pto b4 (.cells #[.int .i64 o1.N,.slice p5 o1.Items.length c6] 37 (0,0))]) r (.ks 2 r (.nilS [4,1] r r (.ret (oret results99 (.t r .n) hl13 (.c .z (.c .z .n)) ⟨(decide (0≤r17.1),r17.2),r,r,hd⟩))))
theorem W_spvec_Right {I:IH} {a0:Vec} {p1:Option Addr} {c2:Nat} {Q:Bool→Prop} (R3:RepSl eItem I p1 c2 a0.Items) (hd:spvec_Right a0 Q) :
  PFun prog 51 [.agg #[.int .i64 a0.N,.slice p1 a0.Items.length c2]] I (fun _=>o1_ Q):=by
 refine Fun.enter func51 r ntmps51 r (.c .n) fun w0 M=>?_
 refine .sr (.boxA r r r fun b6=>?_)
 refine .ks 1 r (.nilS [1] r r (.seq (.sr (.fa un37 r sz3 r (o:=0) r r r (.load1 ia3 r .z r r r ?_)))))
 have hw14:=W_spvec_within (I:=I) hd
 refine .callP call98 r hw14 r r fun v15 hv16=>?_
 obtain ⟨r13,rfl,hd⟩:=hv16
 refine .ks 1 r (.nilS [7,1] r r (.condP r hd (fun hb17 hd=>?_) fun hb17 hd=>?_))
 · exact .sr (.ks 1 r (.nilS [2] r r (.drop .z (.ret (pret results51 (.t r .n) (.refl _) ⟨false,r,hd⟩)))))
 refine .skipS [1] r r (.sr (.alloc1 zv3 r r r fun b18=>?_))
 refine .store1 sz3 r r .z (.t .nil) r (.nilS [3,1] r r (.sr (.fa un37 r sz25 r (o:=1) r r r (.load1 ia25 r (.s .z) r r r (.mkFn r r r r ?_)))))
 have hw20:=W_slices_ContainsFunc_api_Item_api_Item_cd0 (I:=I) (o0:=(-1)) (o1:=a0) (a0:=a0.Items) (b3:=b18) (b4:=b6) (p5:=p1) (c6:=c2) R3 R3 hd
 refine .callS (.f call99 r) (.c .z (.c .z .n)) hw20 r r fun v24 I21 l25 hl22 hv23=>?_
 obtain ⟨r26,rfl,rfl,hd⟩:=hv23
 replace R3:=R3.mono hl22
 exact .re (m':=[pto b18 (.cells #[.int .i64 r26.2] 3 (0,0)),pto b6 (.cells #[.int .i64 a0.N,.slice p1 a0.Items.length c2] 37 (0,0))]) r (.ks 2 r (.nilS [2] r r (.drop .z (.drop .z (.ret (pret results51 (.t r .n) hl22 ⟨(!r26.1),r,hd⟩))))))
theorem W_spvec_sure {I:IH} {a0:Vec} {p1:Option Addr} {c2:Nat} {Q:Vec→Prop} (R3:RepSl eItem I p1 c2 a0.Items) (hd:spvec_sure a0 Q) :
  PFun prog 101 [.agg #[.int .i64 a0.N,.slice p1 a0.Items.length c2]] I (o8_ Q):=by
 refine Fun.enter func101 r ntmps101 r (.c .n) fun w0 M=>?_
 refine .sr (.boxA r r r fun b11=>?_)
 refine .allocA zv37 r r fun b13=>?_
 refine .nilS [2,1] r r (.seq (.sr (.loadW ia37 sz37 r (.s .z) r r r ?_)))
 have hw16:=W_spvec_Right (I:=I) R3 hd
 refine .callP call51 r hw16 r r fun v17 hv18=>?_
 obtain ⟨r15,rfl,hd⟩:=hv18
 refine .nilS [4,2,1] r r (.condP r hd (fun hb19 hd=>?_) fun hb19 hd=>?_)
 · exact .sr (.loadW ia37 sz37 r (.s .z) r r r (.storeA sz37 r r .z (.t (.t .nil)) r r (.nilS [2] r r (.drop (.s .z) (.ret (pret results101 (.w ia37 sz37 r .z r .n) (.refl _) ⟨a0,_,_,r,R3,hd⟩))))))
 exact .skipS [2] r r (.drop (.s .z) (.sr (.build zv37 un37 BI37 .n (by exact trivial) r r (.storeA sz37 r r .z (.t (.t .nil)) r r (.nilS [2] r r (.ret (pret results101 (.w ia37 sz37 r .z r .n) (.refl _) ⟨({ N:=0,Items:=([]:List Item) }:Vec),_,_,r,(.nil _ _ _),hd⟩)))))))
theorem W_cmp_Compare_int {I:IH} {a0:Int} {a1:Int} {Q:Int→Prop}  (hd:cmp_Compare_int a0 a1 Q) :
  PFun prog 174 [.int .i64 a0,.int .i64 a1] I (fun _=>o0_ Q):=by
 refine Fun.enter func174 r ntmps174 r (.c (.c .n)) fun w0 M=>?_
 refine .sr (.ks 1 r (.nilS [1,0] r r (.sr (.ks 1 r ?_))))
 have hw6:=W_cmp_isNaN_int (I:=I) hd
 refine .callP call173 r hw6 r r fun v7 hv8=>?_
 obtain ⟨r5,rfl,hd⟩:=hv8
 refine .ks 1 r (.nilS [5,1,0] r r (.sr (.ks 1 r ?_)))
 have hw14:=W_cmp_isNaN_int (I:=I) hd
 refine .callP call173 r hw14 r r fun v15 hv16=>?_
 obtain ⟨r13,rfl,hd⟩:=hv16
 refine .ks 1 r (.nilS [6,5,1,0] r r (.seq (.sr (.ks 1 r (.nilS [11,6,1,0] r r (.condP r hd (fun hb19 hd=>?_) fun hb19 hd=>?_))))))
 · refine .seq (.sr (.ks 1 r (.nilS [12] r r (.condP r hd (fun hb20 hd=>?_) fun hb20 hd=>?_))))
   · exact .sr (.ks 1 r (.nilS [4] r r (.ret (pret results174 (.t r .n) (.refl _) ⟨0,r,hd⟩))))
   exact .skipS [] r r (.sr (.ks 1 r (.nilS [4] r r (.ret (pret results174 (.t r .n) (.refl _) ⟨(-1),r,hd⟩)))))
 refine .skipS [6,1,0] r r (.seq (.sr (.ks 1 r (.nilS [13,1,0] r r (.condP r hd (fun hb22 hd=>?_) fun hb22 hd=>?_)))))
 · exact .sr (.ks 1 r (.nilS [4] r r (.ret (pret results174 (.t r .n) (.refl _) ⟨1,r,hd⟩))))
 refine .skipS [1,0] r r (.seq (.sr (.ks 3 r (.nilS [16,1,0] r r (.condP r hd (fun hb24 hd=>?_) fun hb24 hd=>?_)))))
 · exact .sr (.ks 1 r (.nilS [4] r r (.ret (pret results174 (.t r .n) (.refl _) ⟨(-1),r,hd⟩))))
 refine .skipS [1,0] r r (.seq (.sr (.ks 3 r (.nilS [19] r r (.condP r hd (fun hb25 hd=>?_) fun hb25 hd=>?_)))))
 · exact .sr (.ks 1 r (.nilS [4] r r (.ret (pret results174 (.t r .n) (.refl _) ⟨1,r,hd⟩))))
 exact .skipS [] r r (.sr (.ks 1 r (.nilS [4] r r (.ret (pret results174 (.t r .n) (.refl _) ⟨0,r,hd⟩)))))
theorem W_spvec_order_7ac {I:IH} {a0:Item} {a1:Int} {Q:Int→Prop}  (hd:spvec_order_7ac a0 a1 Q) :
  Fun prog 141 #[.agg (encItem a0).toArray,.int .i64 a1] I [] (fun I_ v l=>∃ r,v=.int .i64 r∧l=[]∧Q r):=by
 refine Fun.enter (vs:=[.agg (encItem a0).toArray,.int .i64 a1]) func141 r ntmps141 r (.c (.c .n)) fun w0 M=>?_
 refine .sr (.boxA r r r fun b1=>?_)
 refine .ks 1 r (.nilS [2,1] r r (.sr (.fa un72 r sz3 r (o:=0) r r r (.load1 ia3 r .z r r r (.ks 1 r ?_)))))
 have hw4:=W_cmp_Compare_int (I:=I) hd
 refine .callP call174 r hw4 r r fun v5 hv6=>?_
 obtain ⟨r3,rfl,hd⟩:=hv6
 exact .ks 1 r (.nilS [4] r r (.drop .z (.ret (oret results141 (.t r .n) (.refl _) .n ⟨r3,r,r,hd⟩))))
theorem W_slices_BinarySearchFunc_api_Item_api_Item_int_8a3 {I:IH} {a0:List Item} {a1:Int} {p1:Option Addr} {c2:Nat} {Q:(Int×Bool)→Prop} (R3:RepSl eItem I p1 c2 a0) (hd:slices_BinarySearchFunc_api_Item_api_Item_int_8a3 a0 a1 Q) :
  Fun prog 140 #[.slice p1 a0.length c2,.int .i64 a1,.func (.func 141) #[] #[]] I [] (fun I_ v l=>∃ r,v=.tuple #[.int .i64 r.1,.bool r.2]∧l=[]∧Q r):=by
 refine Fun.enter (vs:=[.slice p1 a0.length c2,.int .i64 a1,.func (.func 141) #[] #[]]) func140 r ntmps140 r (.c (.c (.c .n))) fun w0 M=>?_
 refine .sr (.ks 2 r (.nilS [2,1,0] r r (.sr (.ks 1 r (.len un25 r r r r (.ks 1 r (.nilS [8,2,1,0] r r (.sr (.ks 3 r ?_)))))))))
 refine .nilS [10,9,8,2,1,0] r r (.seq (.block (.loop hd (fun (s:Int×Int) c w=>match s with | (s117,s118)=>∃ I_,IH.le I I_∧Ok ⟨49,[],none⟩ [(0,.slice p1 a0.length c2),(1,.int .i64 a1),(2,.func (.func 141) #[] #[]),(8,.int .i64 (a0.length:Int)),(9,.int .i64 s117),(10,.int .i64 s118)] c∧Sym w0 M I I_ [] w) (fun c w ho hs=>⟨I,(.refl _),ho.sub ⟨r,r,r,r,r,r,trivial⟩,hs.pick .n⟩) ?_)))
 rintro ⟨s117,s118⟩ next119 hd c w hst
 obtain ⟨I120,hl121,hok,hsym⟩:=hst
 replace R3:=R3.mono hl121
 refine Cod.at hok hsym (.seq (.sr (.ks 3 r (.nilS [17,10,9,8,2,1,0] r r (.condP r hd (fun hb123 hd=>?_) fun hb123 hd=>?_)))))
 · refine .skipS [10,9,8,2,1,0] r r (.block (.sr (.ks 3 r (.conv un3 underlying191 r r r (.shr' r r (by decide) r r (.conv underlying191 un3 r r r (.ks 1 r (.nilS [11,10,9,8,2,1,0] r r (.sr ?_)))))))))
   refine .ks 3 r ?_
   obtain ⟨h124,x125,hx126,hd⟩:=hd
   obtain ⟨b127,o128,cs129,e130,hC131,hr132⟩:=R3.2 _ _ hx126
   cases hr132
   refine .ixa un25 sz72 r e130 r h124 (idx_lt hx126 h124) r r (.ldW ia72 sz72 hC131 r r r r (.ks 1 r ?_))
   have hw133:=W_spvec_order_7ac (I:=I120) (a0:=x125) (a1:=a1) hd
   refine .callS (.c call141 r r) .n hw133 r r fun v137 I134 l138 hl135 hv136=>?_
   obtain ⟨r139,rfl,rfl,hd⟩:=hv136
   have le140:=IH.le.trans hl121 hl135
   replace R3:=R3.mono hl135
   replace hC131:=hC131.mono hl135
   refine .re (m':=[]) r (.ks 1 r (.nilS [31,11,10,9,8,2,1,0] r r (.condP r hd (fun hb141 hd=>?_) fun hb141 hd=>?_)))
   · exact .region (.ks 3 r (.nil' fun c w ho hs=>⟨(w64 ((w64 (shr .u64 (IntKind.wrap .u64 (w64 (s117+s118))) 1))+1),s118),hd,I134,le140,ho.sub ⟨r,r,r,r,r,r,trivial⟩,hs.pick .n⟩))
   exact .region (.ks 2 r (.nil' fun c w ho hs=>⟨(s117,w64 (shr .u64 (IntKind.wrap .u64 (w64 (s117+s118))) 1)),hd,I134,le140,ho.sub ⟨r,r,r,r,r,r,trivial⟩,hs.pick .n⟩))
 refine .exitS [9,8,2,1,0] r r (.sr (.ks 5 r ?_))
 refine splitP hd (fun hb142 hd=>?_) fun hb142 hd=>?_
 · rw [hb142]
   refine .ks 3 r ?_
   obtain ⟨h143,x144,hx145,hd⟩:=hd
   obtain ⟨b146,o147,cs148,e149,hC150,hr151⟩:=R3.2 _ _ hx145
   cases hr151
   refine .gyes r r r (.ixa un25 sz72 r e149 r h143 (idx_lt hx145 h143) r r (.gyes r r r (.ldW ia72 sz72 hC150 r r r r (.ks 1 r ?_))))
   have hw152:=W_spvec_order_7ac (I:=I120) (a0:=x144) (a1:=a1) hd
   refine .gyes r r r (.callS (.c call141 r r) .n hw152 r r fun v156 I153 l157 hl154 hv155=>?_)
   obtain ⟨r158,rfl,rfl,hd⟩:=hv155
   have le159:=IH.le.trans hl121 hl154
   replace R3:=R3.mono hl154
   replace hC150:=hC150.mono hl154
   exact .re (m':=[]) r (.ks 4 r (.nilS [7,6,2] r r (.ret (oret results140 (.t r (.t r .n)) le159 .n ⟨(s117,r158==0),r,r,hd⟩))))
 rw [hb142]
 exact .ks 11 r (.nilS [7,6,2] r r (.ret (oret results140 (.t r (.t r .n)) hl121 .n ⟨(s117,false),r,r,hd⟩)))
theorem W_spvec_find {I:IH} {a0:Vec} {a1:Int} {p1:Option Addr} {c2:Nat} {Q:(Int×Bool)→Prop} (R3:RepSl eItem I p1 c2 a0.Items) (hd:spvec_find a0 a1 Q) :
  PFun prog 102 [.agg #[.int .i64 a0.N,.slice p1 a0.Items.length c2],.int .i64 a1] I (fun _=>o3_ Q):=by
 refine Fun.enter func102 r ntmps102 r (.c (.c .n)) fun w0 M=>?_
 refine .sr (.boxA r r r fun b4=>?_)
 refine .ks 2 r (.nilS [2,1] r r (.sr (.fa un37 r sz25 r (o:=1) r r r (.load1 ia25 r .z r r r (.ks 1 r ?_)))))
 have hw6:=W_slices_BinarySearchFunc_api_Item_api_Item_int_8a3 (I:=I) (a0:=a0.Items) (a1:=a1) R3 hd
 refine .callS (.f call140 r) .n hw6 r r fun v10 I7 l11 hl8 hv9=>?_
 obtain ⟨r12,rfl,rfl,hd⟩:=hv9
 replace R3:=R3.mono hl8
 exact .re (m':=[pto b4 (.cells #[.int .i64 a0.N,.slice p1 a0.Items.length c2] 37 (0,0))]) r (.ks 4 r (.nilS [5,4] r r (.drop .z (.ret (pret results102 (.t r (.t r .n)) hl8 ⟨(r12.1,r12.2),r,hd⟩)))))
theorem W_slices_Clone_api_Item_api_Item {I:IH} {a0:List Item} {p1:Option Addr} {c2:Nat} {Q:(List Item)→Prop} (R3:RepSl eItem I p1 c2 a0) (hd:slices_Clone_api_Item_api_Item a0 Q) :
  OFun prog 142 [.slice p1 a0.length c2] I (fun I_ v l=>∃ r p4 c5,v=.slice p4 r.length c5∧l=[OwnSl eItem 72 p4 c5 r]∧Q r):=by
 refine Fun.enter func142 r ntmps142 r (.c .n) fun w0 M=>?_
 refine .sr (.ks 1 r (.nilS [0] r r (.seq (.sr (.ks 1 r (.eqNilS un25 r r r r (.nilS [4,0] r r ?_)))))))
 refine split p1.isNone (fun hb7=>?_) (fun hb7=>?_)
 · have hd:=hd.1 (RepSl.ofNone R3 hb7)
   exact .condKT r hb7 (.sr (.ks 1 r (.nilS [2] r r (.own0 eItem 72 (.ret (oret results142 (.t r .n) (.refl _) (.c .z .n) ⟨([]:List Item),_,_,r,r,hd⟩))))))
 have hd:=hd.2
 refine .condKF r hb7 (.skipS [0] r r (.sr (.buildSlice 0 un25 sz72 zv72 r r .n r r fun b10=>?_)))
 refine .ks 1 r (.ownB (El:=eItem) (ys:=([]:List Item)) .z .nil r ?_)
 obtain ⟨hl13,hd⟩:=hd
 refine .append (ys:=a0) 16 .z un25 un25 IN72 r r r r r r r r r (.imm R3 r) hl13 r r fun p14 c15=>?_
 exact .ks 1 r (.nilS [2] r r (.ret (oret results142 (.t r .n) (.refl _) (.c .z .n) ⟨(([]:List Item)++a0),_,_,r,r,hd⟩)))
theorem W_spvec_Part_1_d5a {I:IH} {o0:Int} {a0:Item} {b2:Nat} {Q:Item→Prop}  (hd:spvec_Part_1_d5a o0 a0 Q) :
  Fun prog 104 #[.agg (encItem a0).toArray,.pointer (some ⟨b2,0,none⟩)] I [pto b2 (.cells #[.int .i64 o0] 3 (0,0))] (fun I_ v l=>∃ r,v=.agg (encItem r).toArray∧l=[pto b2 (.cells #[.int .i64 o0] 3 (0,0))]∧Q r):=by
 refine Fun.enter (vs:=[.agg (encItem a0).toArray,.pointer (some ⟨b2,0,none⟩)]) func104 r ntmps104 r (.c (.c .n)) fun w0 M=>?_
 refine .sr (.boxA r r r fun b3=>?_)
 refine .allocA zv72 r r fun b5=>?_
 refine .nilS [3,2,1] r r (.sr (.fa un72 r sz3 r (o:=0) r r r (.load1 ia3 r (.s .z) r r r (.load1 ia3 r (.s (.s .z)) r r r (.ks 1 r (.fa un72 r sz2 r (o:=1) r r r (.load1 ia2 r (.s .z) r r r (.build zv72 un72 BI72 (.c r r r (.t .nil) (.c r r r (.s (.t .nil)) .n)) (by exact ⟨⟨_,_,r,r,r⟩,⟨⟨_,_,r,r,r⟩,trivial⟩⟩) r r (.storeA sz72 r r .z (.t (.t .nil)) r r ?_)))))))))
 exact .nilS [3,1] r r (.drop (.s .z) (.ret (oret results104 (.w ia72 sz72 r .z r .n) (.refl _) (.c (.s .z) .n) ⟨({ At:=w64 (a0.At - o0),Val:=a0.Val }:Item),r,r,hd⟩)))
theorem W_spvec_each_bf7 {I:IH} {o0:Int} {a0:Vec} {b2:Nat} {p3:Option Addr} {c4:Nat} {Q:Vec→Prop} (R5:RepSl eItem I p3 c4 a0.Items) (hd:spvec_each_bf7 o0 a0 Q) :
  Fun prog 103 #[.agg #[.int .i64 a0.N,.slice p3 a0.Items.length c4],.func (.func 104) #[] #[.pointer (some ⟨b2,0,none⟩)]] I [pto b2 (.cells #[.int .i64 o0] 3 (0,0))] (fun I_ v l=>∃ r p6 c7,v=.agg #[.int .i64 r.N,.slice p6 r.Items.length c7]∧RepSl eItem I_ p6 c7 r.Items∧l=[pto b2 (.cells #[.int .i64 o0] 3 (0,0))]∧Q r):=by
 refine Fun.enter (vs:=[.agg #[.int .i64 a0.N,.slice p3 a0.Items.length c4],.func (.func 104) #[] #[.pointer (some ⟨b2,0,none⟩)]]) func103 r ntmps103 r (.c (.c .n)) fun w0 M=>?_
 refine .sr (.boxA r r r fun b10=>?_)
 refine .allocA zv37 r r fun b12=>?_
 refine .nilS [4,2,1] r r (.sr (.loadW ia37 sz37 r (.s .z) r r r ?_))
 have hw33:=W_spvec_sure (I:=I) R5 hd
 refine .call call101 r hw33 r r fun v28 I25 hl26 hv27=>?_
 obtain ⟨r24,p30,c31,rfl,R32,hd⟩:=hv27
 replace R5:=R5.mono hl26
 refine .storeA sz37 r r (.s .z) (.t (.t .nil)) r r (.nilS [4,2,1] r r (.seq (.dr [0,1,2,3,6,4,5,999] 7 (.g r r r (fun _=>.fa un37 r sz3 r (o:=0) r r r .mk) (.g r r r (fun _=>.load1 ia3 r (.s .z) r r r .mk) (.g r r r (fun _=>.fa un37 r sz25 r (o:=1) r r r .mk) (.g r r r (fun _=>.load1 ia25 r (.s .z) r r r .mk) (.a (fun b=>.pointer (some ⟨b,0,none⟩)) (fun b=>pto b (.cells #[.int .i64 0,.slice none 0 0] 37 (0,0))) r r r r (fun _ L hL ex=>.allocA zv37 r r fun b=>.mk (val:=fun b=>.pointer (some ⟨b,0,none⟩)) (atom:=fun b=>pto b (.cells #[.int .i64 0,.slice none 0 0] 37 (0,0))) hL b) (.ww r fun ex=>?_)))))))))
 have hw59:=W_slices_Clone_api_Item_api_Item (I:=I25) R32 hd
 refine .callO call142 r hw59 r r fun v53 I50 l54 hl51 hv52=>?_
 obtain ⟨r49,p55,c56,rfl,rfl,hd⟩:=hv52
 have le60:=IH.le.trans hl26 hl51
 replace R32:=R32.mono hl51
 refine .so 4 r r r (.cg r r r r (fun _=>.load1 ia3 r (.s (.s .z)) r r r .mk) (.cg r r r r (fun _=>.fa un37 r sz3 r (o:=0) r r r .mk) trivial)) (.g r r r (fun _=>.build zv37 un37 BI37 (.c r r r (.t .nil) (.c r r r (.s (.t .nil)) .n)) (by exact ⟨⟨_,_,r,r,r⟩,⟨⟨_,_,r,r,r⟩,trivial⟩⟩) r r .mk) (.b r fun b61=>DrawD.nop (.e2 7 (.storeA sz37 r r (.s (.s (.s (.s .z)))) (.t (.t .nil)) r r (.nilS [5,4,1] r r (.drop (.s (.s .z)) (.seq (.sr (.fa un37 r sz25 r (o:=1) r r r ?_)))))))))
 refine .load1 ia25 r (.s (.s (.s .z))) r r r (.len un25 r r r r (.ks 1 r (.nilS [19,18,17,5,4,1] r r (.block (.loop hd (fun (s:(List Item)×Int) c w=>match s with | (s120,s125)=>∃ I_ p121 c122,IH.le I50 I_∧Ok ⟨33,[],none⟩ [(1,.func (.func 104) #[] #[.pointer (some ⟨b2,0,none⟩)]),(4,.pointer (some ⟨b12,0,none⟩)),(5,.pointer (some ⟨b61,0,none⟩)),(17,.slice p121 s120.length c122),(18,.int .i64 (r49.length:Int)),(19,.int .i64 s125)] c∧Sym w0 M I I_ [pto b2 (.cells #[.int .i64 o0] 3 (0,0)),pto b12 (.cells #[.int .i64 0,.slice none 0 0] 37 (0,0)),pto b61 (.cells #[.int .i64 r24.N,.slice p121 s120.length c122] 37 (0,0)),OwnSl eItem 72 p121 c122 s120] w) (fun c w ho hs=>⟨I50,_,_,(.refl _),ho.sub ⟨r,r,r,r,r,r,trivial⟩,hs.pick (.c (.s (.s .z)) (.c (.s .z) (.c (.s .z) (.c .z .n))))⟩) ?_)))))
 rintro ⟨s120,s125⟩ next126 hd c w hst
 obtain ⟨I127,p121,c122,hl128,hok,hsym⟩:=hst
 have le129:=IH.le.trans le60 hl128
 refine Cod.at hok hsym (.sr (.ks 1 r (.nilS [20,19,18,17,5,4,1] r r (.seq (.condP r hd (fun hb131 hd=>?_) fun hb131 hd=>?_)))))
 · refine .skipS [19,18,17,5,4,1] r r (.seq (.block (.sr (.ks 1 r ?_))))
   obtain ⟨h132,x133,hx134,hd⟩:=hd
   refine .ownNe (.s (.s (.s .z))) (idx_ne hx134) fun b135 e136=>?_
   cases e136
   refine .ixa0 un25 sz72 r r h132 (idx_lt hx134 h132) r r (.loA (j:=0) ia72 sz72 (.s (.s (.s .z))) hx134 r r (.t (.t .nil)) r r r (.allocA zv72 r r fun b137=>?_))
   refine .ks 1 r (.storeA sz72 r r .z (.t (.t .nil)) r r (.nilS [6,7,19,18,17,5,4,1] r r (.dr [0,1,2,3,4,5] 6 (.g r r r (fun _=>.fa un37 r sz25 r (o:=1) r r r .mk) (.g r r r (fun _=>.load1 ia25 r (.s (.s (.s .z))) r r r .mk) (.fk 2 r (.g r r r (fun _=>.loadW ia72 sz72 r .z r r r .mk) (.ww r fun ex=>?_))))))))
   have hw139:=W_spvec_Part_1_d5a (I:=I127) (o0:=o0) (a0:=x133) (b2:=b2) hd
   refine .callS (.c call104 r r) (.c (.s .z) .n) hw139 r r fun v143 I140 l144 hl141 hv142=>?_
   obtain ⟨r145,rfl,rfl,hd⟩:=hv142
   have le146:=IH.le.trans le129 hl141
   have le147:=IH.le.trans hl128 hl141
   refine .re (m':=(pto b2 (.cells #[.int .i64 o0] 3 (0,0))) :: (pto b137 (.cells #[.int .i64 x133.At,.int .i64 x133.Val] 72 (0,0))) :: (pto b12 (.cells #[.int .i64 0,.slice none 0 0] 37 (0,0))) :: (pto b61 (.cells #[.int .i64 r24.N,.slice (some ⟨b135,0,none⟩) s120.length c122] 37 (0,0))) :: (OwnSl eItem 72 (some ⟨b135,0,none⟩) c122 s120) :: ex) r (.so 5 r r r (.ck 1 r r (.cg r r r r (fun _=>.load1 ia25 r (.s (.s (.s .z))) r r r .mk) (.cg r r r r (fun _=>.fa un37 r sz25 r (o:=1) r r r .mk) trivial))) (.e2 6 ?_))
   obtain ⟨h148,x149,hx150,hd⟩:=hd
   exact .ixa0 un25 sz72 r r h148 (idx_lt hx150 h148) r r (.stOA (j:=0) (v':=r145) sz72 (.s (.s (.s (.s .z)))) hx150 r r r (.t (.t .nil)) r r (.sub (E':=[(1,_),(4,_),(5,_),(17,.slice (some ⟨b135,0,none⟩) (s120.set s125.toNat r145).length c122),(18,_),(19,_),(7,_),(6,_),(24,_),(25,.slice (some ⟨b135,0,none⟩) (s120.set s125.toNat r145).length c122),(26,_),(27,_),(28,_),(29,_),(30,_)]) ⟨r,r,r,(by simp only [List.length_set]; rfl),r,r,r,r,r,(by simp only [List.length_set]; rfl),r,r,r,r,r,trivial⟩ (.reat (.s (.s (.s .z))) (B:=pto b61 (.cells #[.int .i64 r24.N,.slice (some ⟨b135,0,none⟩) (s120.set s125.toNat r145).length c122] 37 (0,0))) (by simp only [List.length_set]) (.nilS [19,18,17,5,4,1] r r (.drop (.s .z) (.region (.ks 2 r (.nil' fun c w ho hs=>⟨((s120.set s125.toNat r145),w64 (s125+1)),hd,I140,_,_,le147,ho.sub ⟨r,r,r,r,r,r,trivial⟩,hs.pick (.c .z (.c .z (.c .z (.c .z .n))))⟩))))))))
 refine .exitS [5,4,1] r r (.sr (.loadW ia37 sz37 r (.s (.s .z)) r r r (.storeA sz37 r r (.s .z) (.t (.t .nil)) r r (.nilS [4,1] r r (.drop (.s (.s .z)) (.pub (.s (.s .z)) fun I151 hl152 R153=>?_))))))
 have le154:=IH.le.trans le129 hl152
 have le155:=IH.le.trans hl128 hl152
 exact .ret (oret results103 (.w ia37 sz37 r (.s .z) r .n) le154 (.c .z .n) ⟨({ N:=r24.N,Items:=s120 }:Vec),_,_,r,R153,r,hd⟩)
theorem W_spvec_Part {I:IH} {a0:Vec} {a1:Int} {a2:Int} {p1:Option Addr} {c2:Nat} {Q:Vec→Prop} (R3:RepSl eItem I p1 c2 a0.Items) (hd:spvec_Part a0 a1 a2 Q) :
  PFun prog 52 [.agg #[.int .i64 a0.N,.slice p1 a0.Items.length c2],.int .i64 a1,.int .i64 a2] I (o8_ Q):=by
 refine Fun.enter func52 r ntmps52 r (.c (.c (.c .n))) fun w0 M=>?_
 refine .sr (.boxA r r r fun b13=>?_)
 refine .box1 r r r r fun b15=>?_
 refine .allocA zv37 r r fun b17=>?_
 refine .nilS [6,4,3,2] r r (.sr (.loadW ia37 sz37 r (.s (.s .z)) r r r ?_))
 have hw38:=W_spvec_sure (I:=I) R3 hd
 refine .call call101 r hw38 r r fun v33 I30 hl31 hv32=>?_
 obtain ⟨r29,p35,c36,rfl,R37,hd⟩:=hv32
 replace R3:=R3.mono hl31
 refine .storeA sz37 r r (.s (.s .z)) (.t (.t .nil)) r r (.nilS [6,4,3,2] r r (.seq (.dr [0,1,2,3,4,5,6] 7 (.g r r r (fun _=>.load1 ia3 r (.s .z) r r r .mk) (.g r r r (fun _=>.maxI r r r r .mk) (.fk 1 r (.g r r r (fun _=>.fa un37 r sz3 r (o:=0) r r r .mk) (.g r r r (fun _=>.load1 ia3 r (.s (.s .z)) r r r .mk) (.g r r r (fun _=>.minI r r r r .mk) ?_)))))))))
 refine .ww r fun ex=>?_
 refine .store1 sz3 r r (.s .z) (.t .nil) r (.sn 3 r r r (.cg r r r r (fun _=>.minI r r r r .mk) (.cg r r r r (fun _=>.load1 ia3 r (.s (.s .z)) r r r .mk) (.cg r r r r (fun _=>.fa un37 r sz3 r (o:=0) r r r .mk) (.ck 1 r r trivial)))) (.e2 7 (.ks 1 r (.nilS [2,6,4,3] r r (.seq (.sr (.ks 1 r (.load1 ia3 r (.s .z) r r r (.ks 1 r ?_)))))))))
 refine .nilS [23,2,6,4,3] r r (.condP r hd (fun hb40 hd=>?_) fun hb40 hd=>?_)
 · exact .sr (.build zv37 un37 BI37 .n (by exact trivial) r r (.storeA sz37 r r .z (.t (.t .nil)) r r (.nilS [6] r r (.drop (.s .z) (.drop (.s .z) (.ret (pret results52 (.w ia37 sz37 r .z r .n) hl31 ⟨({ N:=0,Items:=([]:List Item) }:Vec),_,_,r,(.nil _ _ _),hd⟩)))))))
 refine .skipS [2,6,4,3] r r (.sr (.loadW ia37 sz37 r (.s (.s .z)) r r r (.load1 ia3 r (.s .z) r r r ?_)))
 have hw46:=W_spvec_find (I:=I30) R37 hd
 refine .callP call102 r hw46 r r fun v47 hv48=>?_
 obtain ⟨r45,rfl,hd⟩:=hv48
 refine .ks 5 r (.nilS [7,2,6,4,3] r r (.sr (.loadW ia37 sz37 r (.s (.s .z)) r r r (.ks 1 r ?_))))
 have hw54:=W_spvec_find (I:=I30) R37 hd
 refine .callP call102 r hw54 r r fun v55 hv56=>?_
 obtain ⟨r53,rfl,hd⟩:=hv56
 refine .ks 5 r (.nilS [9,7,2,6,4,3] r r (.seq (.dr [0,1,2,3,4,5,6,7,8] 9 (.g r r r (fun _=>.fa un37 r sz3 r (o:=0) r r r .mk) (.g r r r (fun _=>.load1 ia3 r (.s (.s .z)) r r r .mk) (.g r r r (fun _=>.fa un37 r sz25 r (o:=1) r r r .mk) (.g r r r (fun _=>.load1 ia25 r (.s (.s .z)) r r r .mk) (.fk 2 r ?_))))))))
 obtain ⟨h69,h70,h71,hd⟩:=hd
 have h77:Int.toNat r45.1≤Int.toNat r53.1:=by omega
 have h78:Int.toNat r53.1≤r29.Items.length:=by omega
 obtain ⟨p72,c73,e75,e76,R74⟩:=RepSl.sliceW R37 (Int.toNat r45.1) (Int.toNat r53.1) c36 h77 h78 (.inl rfl)
 refine .g r r r (fun _=>.sliceW (L:=Int.toNat r45.1) (H:=Int.toNat r53.1) (cm:=c36) un25 sz72 r r R37.1 r r r (.inr ⟨_,_,r,h69,r⟩) (.inr ⟨_,_,r,(by omega),r⟩) (.inl r) h77 h78 r e75 e76 r r .mk) (.g r r r (fun _=>.build zv37 un37 BI37 (.c r r r (.t .nil) (.c r r r (.s (.t .nil)) .n)) (by exact ⟨⟨_,_,r,r,r⟩,⟨⟨_,_,r,r,r⟩,trivial⟩⟩) r r .mk) (.ww r fun ex=>?_))
 refine .allocA zv37 r r fun b79=>?_
 refine .so 4 r r r (.cg r r r r (fun _=>.build zv37 un37 BI37 (.c r r r (.t .nil) (.c r r r (.s (.t .nil)) .n)) (by exact ⟨⟨_,_,r,r,r⟩,⟨⟨_,_,r,r,r⟩,trivial⟩⟩) r r .mk) (.cg r r r r (fun _=>.sliceW (L:=Int.toNat r45.1) (H:=Int.toNat r53.1) (cm:=c36) un25 sz72 r r R37.1 r r r (.inr ⟨_,_,r,h69,r⟩) (.inr ⟨_,_,r,(by omega),r⟩) (.inl r) h77 h78 r e75 e76 r r .mk) (.ck 2 r r (.cg r r r r (fun _=>.load1 ia25 r (.s (.s (.s .z))) r r r .mk) (.cg r r r r (fun _=>.fa un37 r sz25 r (o:=1) r r r .mk) (.cg r r r r (fun _=>.load1 ia3 r (.s (.s (.s .z))) r r r .mk) (.cg r r r r (fun _=>.fa un37 r sz3 r (o:=0) r r r .mk) trivial))))))) (.e2 9 (.storeA sz37 r r .z (.t (.t .nil)) r r (.nilS [11,2,6,4] r r (.drop (.s (.s (.s .z))) (.sr (.loadW ia37 sz37 r .z r r r (.mkFn r r r r ?_)))))))
 have hw81:=W_spvec_each_bf7 (I:=I30) (o0:=(if 0 > a1 then 0 else a1)) (a0:=({ N:=r29.N,Items:=((r29.Items.take r53.1.toNat).drop r45.1.toNat) }:Vec)) (b2:=b15) R74 hd
 refine .callS (.f call103 r) (.c (.s (.s .z)) .n) hw81 r r fun v85 I82 l86 hl83 hv84=>?_
 obtain ⟨r87,p88,c89,rfl,R90,rfl,hd⟩:=hv84
 have le91:=IH.le.trans hl31 hl83
 replace R74:=R74.mono hl83
 refine .re (m':=[pto b15 (.cells #[.int .i64 (if 0 > a1 then 0 else a1)] 3 (0,0)),pto b79 (.cells #[.int .i64 r29.N,.slice p72 ((r29.Items.take r53.1.toNat).drop r45.1.toNat).length c73] 37 (0,0)),pto b17 (.cells #[.int .i64 0,.slice none 0 0] 37 (0,0))]) r (.allocA zv37 r r fun b92=>?_)
 refine .storeA sz37 r r .z (.t (.t .nil)) r r (.nilS [12,2,6,4] r r (.drop (.s (.s .z)) (.sr (.ks 1 r (.load1 ia3 r (.s .z) r r r (.ks 1 r (.fa un37 r sz3 r (o:=0) r r r (.store1 sz3 r r .z (.t .nil) r (.nilS [12,6] r r ?_)))))))))
 exact .drop (.s .z) (.sr (.loadW ia37 sz37 r .z r r r (.storeA sz37 r r (.s .z) (.t (.t .nil)) r r (.nilS [6] r r (.drop .z (.ret (pret results52 (.w ia37 sz37 r .z r .n) le91 ⟨({ N:=w64 ((if r29.N<a2 then r29.N else a2) - (if 0 > a1 then 0 else a1)),Items:=r87.Items }:Vec),_,_,r,R90,hd⟩)))))))
theorem W_block_Piece {I:IH} {a0:Vec} {a1:Int} {a2:Int} {p1:Option Addr} {c2:Nat} {Q:Vec→Prop} (R3:RepSl eItem I p1 c2 a0.Items) (hd:block_Piece a0 a1 a2 Q) :
  PFun prog 15 [.agg #[.int .i64 a0.N,.slice p1 a0.Items.length c2],.int .i64 a1,.int .i64 a2] I (o8_ Q):=by
 refine Fun.enter func15 r ntmps15 r (.c (.c (.c .n))) fun w0 M=>?_
 refine .sr (.boxA r r r fun b11=>?_)
 refine .allocA zv37 r r fun b13=>?_
 refine .nilS [6,3,2,1] r r (.seq (.sr (.loadW ia37 sz37 r (.s .z) r r r ?_)))
 have hw26:=W_spvec_Right (I:=I) R3 hd
 refine .callP call51 r hw26 r r fun v27 hv28=>?_
 obtain ⟨r25,rfl,hd⟩:=hv28
 refine .ks 2 r ?_
 refine splitP hd (fun hb29 hd=>?_) fun hb29 hd=>?_
 · rw [hb29]
   exact .ks 5 r (.nilS [16,6,3,2,1] r r (.condKT r r (.sr (.build zv37 un37 BI37 .n (by exact trivial) r r (.storeA sz37 r r .z (.t (.t .nil)) r r (.nilS [6] r r (.drop (.s .z) (.ret (pret results15 (.w ia37 sz37 r .z r .n) (.refl _) ⟨({ N:=0,Items:=([]:List Item) }:Vec),_,_,r,(.nil _ _ _),hd⟩)))))))))
 rw [hb29]
 refine .ks 2 r ?_
 have hw31:=W_block_grid (I:=I) hd
 refine .gyes r r r (.callP call42 r hw31 r r fun v32 hv33=>?_)
 obtain ⟨r30,rfl,hd⟩:=hv33
 refine .ks 2 r (.nilS [16,6,3,2,1] r r (.condP r hd (fun hb34 hd=>?_) fun hb34 hd=>?_))
 · exact .sr (.build zv37 un37 BI37 .n (by exact trivial) r r (.storeA sz37 r r .z (.t (.t .nil)) r r (.nilS [6] r r (.drop (.s .z) (.ret (pret results15 (.w ia37 sz37 r .z r .n) (.refl _) ⟨({ N:=0,Items:=([]:List Item) }:Vec),_,_,r,(.nil _ _ _),hd⟩))))))
 refine .skipS [6,3,2,1] r r (.sr (.fa un37 r sz3 r (o:=0) r r r (.load1 ia3 r (.s .z) r r r (.ks 2 r ?_))))
 have hw36:=W_block_bounds (I:=I) hd
 refine .callP call44 r hw36 r r fun v37 hv38=>?_
 obtain ⟨r35,rfl,hd⟩:=hv38
 refine .allocA zv86 r r fun b39=>?_
 refine .storeA sz86 r r .z (.t (.t .nil)) r r (.nilS [7,6,3] r r (.sr (.loadW ia37 sz37 r (.s (.s .z)) r r r (.ixArr (i:=0) un86 sz3 r r (by decide) (o:=0) r r r (.load1 ia3 r .z r r r (.ixArr (i:=1) un86 sz3 r r (by decide) (o:=1) r r r (.load1 ia3 r .z r r r ?_)))))))
 have hw50:=W_spvec_Part (I:=I) R3 hd
 refine .call call52 r hw50 r r fun v45 I42 hl43 hv44=>?_
 obtain ⟨r41,p47,c48,rfl,R49,hd⟩:=hv44
 replace R3:=R3.mono hl43
 exact .storeA sz37 r r (.s .z) (.t (.t .nil)) r r (.nilS [6] r r (.drop .z (.drop (.s .z) (.ret (pret results15 (.w ia37 sz37 r .z r .n) hl43 ⟨r41,_,_,r,R49,hd⟩)))))
theorem W_block_within {I:IH} {a0:Int} {Q:Bool→Prop}  (hd:block_within a0 Q) :
  PFun prog 55 [.int .i64 a0] I (fun _=>o1_ Q):=by
 refine Fun.enter func55 r ntmps55 r (.c .n) fun w0 M=>?_
 refine .sr (.ks 1 r (.nilS [0] r r (.sr (.ks 3 r ?_))))
 refine splitP hd (fun hb1 hd=>?_) fun hb1 hd=>?_
 · rw [hb1]
   exact .ks 4 r (.nilS [2] r r (.ret (pret results55 (.t r .n) (.refl _) ⟨(decide (a0≤4096)),r,hd⟩)))
 rw [hb1]
 exact .ks 4 r (.nilS [2] r r (.ret (pret results55 (.t r .n) (.refl _) ⟨false,r,hd⟩)))
theorem W_part_Size {I:IH} {a0:Int} {a1:Int} {a2:Int} {Q:Int→Prop}  (hd:part_Size a0 a1 a2 Q) :
  PFun prog 56 [.int .i64 a0,.int .i64 a1,.int .i64 a2] I (fun _=>o0_ Q):=by
 refine Fun.enter func56 r ntmps56 r (.c (.c (.c .n))) fun w0 M=>?_
 refine .sr (.ks 1 r (.nilS [2,1,0] r r (.seq (.sr (.ks 3 r ?_)))))
 refine splitP hd (fun hb3 hd=>?_) fun hb3 hd=>?_
 · rw [hb3]
   exact .ks 4 r (.nilS [13,2,1,0] r r (.condKT r r (.sr (.ks 1 r (.nilS [6] r r (.ret (pret results56 (.t r .n) (.refl _) ⟨0,r,hd⟩)))))))
 rw [hb3]
 refine .ks 4 r (.nilS [13,2,1,0] r r (.condP r hd (fun hb4 hd=>?_) fun hb4 hd=>?_))
 · exact .sr (.ks 1 r (.nilS [6] r r (.ret (pret results56 (.t r .n) (.refl _) ⟨0,r,hd⟩))))
 refine .skipS [2,1,0] r r (.sr (.ks 4 r ?_))
 have hw6:=W_part_Low (I:=I) hd
 refine .callP call66 r hw6 r r fun v7 hv8=>?_
 obtain ⟨r5,rfl,hd⟩:=hv8
 refine .ks 3 r ?_
 have hw10:=W_part_Low (I:=I) hd
 refine .callP call66 r hw10 r r fun v11 hv12=>?_
 obtain ⟨r9,rfl,hd⟩:=hv12
 exact .ks 2 r (.nilS [6] r r (.ret (pret results56 (.t r .n) (.refl _) ⟨(w64 (r5 - r9)),r,hd⟩)))
theorem W_block_common {I:IH} {a0:Int×Int} {a1:Int×Int} {Q:(Int×Int)→Prop}  (hd:block_common a0 a1 Q) :
  PFun prog 57 [.agg #[.int .i64 a0.1,.int .i64 a0.2],.agg #[.int .i64 a1.1,.int .i64 a1.2]] I (fun _=>o12_ Q):=by
 refine Fun.enter func57 r ntmps57 r (.c (.c .n)) fun w0 M=>?_
 refine .sr (.boxA r r r fun b7=>?_)
 refine .boxA r r r fun b9=>?_
 refine .allocA zv86 r r fun b11=>?_
 refine .nilS [4,3,2] r r (.sr (.ixArr (i:=0) un86 sz3 r r (by decide) (o:=0) r r r (.load1 ia3 r (.s (.s .z)) r r r (.ixArr (i:=0) un86 sz3 r r (by decide) (o:=0) r r r (.load1 ia3 r (.s .z) r r r (.maxI r r r r (.ks 1 r (.nilS [5,4,3,2] r r (.sr ?_)))))))))
 refine .ks 2 r (.ixArr (i:=1) un86 sz3 r r (by decide) (o:=1) r r r (.load1 ia3 r (.s (.s .z)) r r r (.ixArr (i:=1) un86 sz3 r r (by decide) (o:=1) r r r (.load1 ia3 r (.s .z) r r r (.minI r r r r (.maxI r r r r (.buildArr zv86 un86 sz3 (.c r r r (.t .nil) (.c r r r (.s (.t .nil)) .n)) r r (.storeA sz86 r r .z (.t (.t .nil)) r r (.nilS [4] r r ?_)))))))))
 exact .drop (.s .z) (.drop (.s .z) (.ret (pret results57 (.w isAgg86 sz86 r .z r .n) (.refl _) ⟨((if a1.1 > a0.1 then a1.1 else a0.1),(if (if a1.2<a0.2 then a1.2 else a0.2) > (if a1.1 > a0.1 then a1.1 else a0.1) then (if a1.2<a0.2 then a1.2 else a0.2) else (if a1.1 > a0.1 then a1.1 else a0.1))),r,hd⟩)))
theorem W_block_Slice {I:IH} {a0:Vec} {a1:Int} {a2:Int} {a3:Int} {a4:Int} {a5:Int} {p1:Option Addr} {c2:Nat} {Q:Vec→Prop} (R3:RepSl eItem I p1 c2 a0.Items) (hd:block_Slice a0 a1 a2 a3 a4 a5 Q) :
  PFun prog 17 [.agg #[.int .i64 a0.N,.slice p1 a0.Items.length c2],.int .i64 a1,.int .i64 a2,.int .i64 a3,.int .i64 a4,.int .i64 a5] I (o8_ Q):=by
 refine Fun.enter func17 r ntmps17 r (.c (.c (.c (.c (.c (.c .n)))))) fun w0 M=>?_
 refine .sr (.boxA r r r fun b11=>?_)
 refine .allocA zv37 r r fun b13=>?_
 refine .nilS [12,6,5,4,3,2,1] r r (.seq (.seq (.dr [0,1,2,3,4,5,6,7,8,9,10,11,12,13,14,15,16,17,18,19,20,21,22,23,24] 25 (.fk 1 r (.ww r fun ex=>?_)))))
 have hw36:=W_block_within (I:=I) hd
 refine .callP call55 r hw36 r r fun v37 hv38=>?_
 obtain ⟨r35,rfl,hd⟩:=hv38
 refine .so 2 r r r trivial (.fk 2 r ?_)
 refine splitP hd (fun hb39 hd=>?_) fun hb39 hd=>?_
 · refine .g r r r (fun _=>.gno r r hb39 r r .mk) (.g r r r (fun _=>.gno r r hb39 r r .mk) (.g r r r (fun _=>.gno r r hb39 r r .mk) (.g r r r (fun _=>.gno r r hb39 r r .mk) (.g r r r (fun _=>.gno r r hb39 r r .mk) (.g r r r (fun _=>.gno r r hb39 r r .mk) (.g r r r (fun _=>.pickT r hb39 r r r .mk) (.fk 14 r (.e2 25 (.nilS [39,12,6,5,4,3,2,1] r r ?_)))))))))
   exact .condKT r r (.sr (.build zv37 un37 BI37 .n (by exact trivial) r r (.storeA sz37 r r .z (.t (.t .nil)) r r (.nilS [12] r r (.drop (.s .z) (.ret (pret results17 (.w ia37 sz37 r .z r .n) (.refl _) ⟨({ N:=0,Items:=([]:List Item) }:Vec),_,_,r,(.nil _ _ _),hd⟩)))))))
 refine .g r r r (fun _=>.gyes r r hb39 (.move r r r .mk)) (.g r r r (fun _=>.gyes r r hb39 (.move r r r .mk)) (.g r r r (fun _=>.gyes r r hb39 (.move r r r .mk)) (.g r r r (fun _=>.gyes r r hb39 (.move r r r .mk)) (.ww r fun ex=>?_))))
 have hw41:=W_block_grid (I:=I) hd
 refine .gyes r r hb39 (.callP call42 r hw41 r r fun v42 hv43=>?_)
 obtain ⟨r40,rfl,hd⟩:=hv43
 refine .so 2 r r r trivial (.g r r r (fun _=>.gyes r r hb39 (.not r r r .mk)) (.g r r r (fun _=>.pickF r hb39 r r r .mk) (.fk 1 r ?_)))
 refine splitP hd (fun hb44 hd=>?_) fun hb44 hd=>?_
 · refine .g r r r (fun _=>.gno r r hb44 r r .mk) (.g r r r (fun _=>.gno r r hb44 r r .mk) (.g r r r (fun _=>.gno r r hb44 r r .mk) (.g r r r (fun _=>.pickT r hb44 r r r .mk) (.fk 9 r (.e2 25 (.nilS [39,12,6,5,4,3,2,1] r r (.condKT r r (.sr (.build zv37 un37 BI37 .n (by exact trivial) r r ?_)))))))))
   exact .storeA sz37 r r .z (.t (.t .nil)) r r (.nilS [12] r r (.drop (.s .z) (.ret (pret results17 (.w ia37 sz37 r .z r .n) (.refl _) ⟨({ N:=0,Items:=([]:List Item) }:Vec),_,_,r,(.nil _ _ _),hd⟩))))
 refine .g r r r (fun _=>.gyes r r hb44 (.loadW ia37 sz37 r (.s .z) r r r .mk)) (.ww r fun ex=>?_)
 have hw46:=W_spvec_Right (I:=I) R3 hd
 refine .gyes r r hb44 (.callP call51 r hw46 r r fun v47 hv48=>?_)
 obtain ⟨r45,rfl,hd⟩:=hv48
 refine .so 2 r r r trivial (.g r r r (fun _=>.gyes r r hb44 (.not r r r .mk)) (.g r r r (fun _=>.pickF r hb44 r r r .mk) (.fk 1 r ?_)))
 refine splitP hd (fun hb49 hd=>?_) fun hb49 hd=>?_
 · refine .g r r r (fun _=>.gno r r hb49 r r .mk) (.g r r r (fun _=>.gno r r hb49 r r .mk) (.g r r r (fun _=>.gno r r hb49 r r .mk) (.g r r r (fun _=>.gno r r hb49 r r .mk) (.g r r r (fun _=>.gno r r hb49 r r .mk) (.g r r r (fun _=>.gno r r hb49 r r .mk) (.g r r r (fun _=>.gno r r hb49 r r .mk) (.g r r r (fun _=>.pickT r hb49 r r r .mk) (.e2 25 (.nilS [39,12,6,5,4,3,2,1] r r ?_)))))))))
   exact .condKT r r (.sr (.build zv37 un37 BI37 .n (by exact trivial) r r (.storeA sz37 r r .z (.t (.t .nil)) r r (.nilS [12] r r (.drop (.s .z) (.ret (pret results17 (.w ia37 sz37 r .z r .n) (.refl _) ⟨({ N:=0,Items:=([]:List Item) }:Vec),_,_,r,(.nil _ _ _),hd⟩)))))))
 refine .g r r r (fun _=>.gyes r r hb49 (.fa un37 r sz3 r (o:=0) r r r .mk)) (.g r r r (fun _=>.gyes r r hb49 (.load1 ia3 r (.s .z) r r r .mk)) (.g r r r (fun _=>.gyes r r hb49 (.move r r r .mk)) (.g r r r (fun _=>.gyes r r hb49 (.move r r r .mk)) (.g r r r (fun _=>.gyes r r hb49 (.move r r r .mk)) (.ww r fun ex=>?_)))))
 have hw51:=W_part_Size (I:=I) hd
 refine .gyes r r hb49 (.callP call56 r hw51 r r fun v52 hv53=>?_)
 obtain ⟨r50,rfl,hd⟩:=hv53
 refine .so 2 r r r (.cg r r r r (fun _=>.gyes r r hb49 (.load1 ia3 r (.s .z) r r r .mk)) (.cg r r r r (fun _=>.gyes r r hb49 (.fa un37 r sz3 r (o:=0) r r r .mk)) trivial)) (.g r r r (fun _=>.gyes r r hb49 (.ne r r r r .mk)) (.g r r r (fun _=>.pickF r hb49 r r r .mk) (.e2 25 (.nilS [39,12,6,5,4,3,2,1] r r (.condP r hd (fun hb54 hd=>?_) fun hb54 hd=>?_)))))
 · exact .sr (.build zv37 un37 BI37 .n (by exact trivial) r r (.storeA sz37 r r .z (.t (.t .nil)) r r (.nilS [12] r r (.drop (.s .z) (.ret (pret results17 (.w ia37 sz37 r .z r .n) (.refl _) ⟨({ N:=0,Items:=([]:List Item) }:Vec),_,_,r,(.nil _ _ _),hd⟩))))))
 refine .skipS [12,6,5,4,3,2,1] r r (.sr (.ks 3 r ?_))
 have hw62:=W_block_bounds (I:=I) hd
 refine .callP call44 r hw62 r r fun v63 hv64=>?_
 obtain ⟨r61,rfl,hd⟩:=hv64
 refine .allocA zv86 r r fun b65=>?_
 refine .storeA sz86 r r .z (.t (.t .nil)) r r (.nilS [13,12,6,5,3,1] r r (.seq (.dr [0,1,2,3,6,4,5,999] 7 (.g r r r (fun _=>.loadW isAgg86 sz86 r .z r r r .mk) (.fk 3 r (.a (fun b=>.pointer (some ⟨b,0,none⟩)) (fun b=>pto b (.cells #[.int .i64 0,.int .i64 0] 86 (0,0))) r r r r (fun _ L hL ex=>.allocA zv86 r r fun b=>.mk (val:=fun b=>.pointer (some ⟨b,0,none⟩)) (atom:=fun b=>pto b (.cells #[.int .i64 0,.int .i64 0] 86 (0,0))) hL b) (.ww r fun ex=>?_)))))))
 have hw79:=W_block_bounds (I:=I) hd
 refine .callP call44 r hw79 r r fun v80 hv81=>?_
 obtain ⟨r78,rfl,hd⟩:=hv81
 refine .so 3 r r r (.cg r r r r (fun _=>.loadW isAgg86 sz86 r .z r r r .mk) trivial) (.ww r fun ex=>?_)
 have hw83:=W_block_common (I:=I) hd
 refine .callP call57 r hw83 r r fun v84 hv85=>?_
 obtain ⟨r82,rfl,hd⟩:=hv85
 refine .so 3 r r r trivial (.b r fun b86=>DrawD.nop (.e2 7 (.storeA sz86 r r (.s (.s (.s .z))) (.t (.t .nil)) r r (.nilS [14,13,12,6] r r (.sr (.loadW ia37 sz37 r (.s (.s .z)) r r r (.ixArr (i:=0) un86 sz3 r r (by decide) (o:=0) r r r (.load1 ia3 r (.s (.s (.s .z))) r r r (.ixArr (i:=0) un86 sz3 r r (by decide) (o:=0) r r r ?_)))))))))
 refine .load1 ia3 r .z r r r (.ks 1 r (.ixArr (i:=1) un86 sz3 r r (by decide) (o:=1) r r r (.load1 ia3 r (.s (.s (.s .z))) r r r (.ixArr (i:=0) un86 sz3 r r (by decide) (o:=0) r r r (.load1 ia3 r .z r r r (.ks 1 r ?_))))))
 have hw96:=W_spvec_Part (I:=I) R3 hd
 refine .call call52 r hw96 r r fun v91 I88 hl89 hv90=>?_
 obtain ⟨r87,p93,c94,rfl,R95,hd⟩:=hv90
 replace R3:=R3.mono hl89
 exact .storeA sz37 r r (.s .z) (.t (.t .nil)) r r (.nilS [12] r r (.drop .z (.drop (.s .z) (.drop (.s .z) (.ret (pret results17 (.w ia37 sz37 r .z r .n) hl89 ⟨r87,_,_,r,R95,hd⟩))))))
theorem W_part_Row {I:IH} {a0:Int} {a1:Int} {Q:Int→Prop}  (hd:part_Row a0 a1 Q) :
  PFun prog 63 [.int .i64 a0,.int .i64 a1] I (fun _=>o0_ Q):=by
 refine Fun.enter func63 r ntmps63 r (.c (.c .n)) fun w0 M=>?_
 refine .sr (.ks 1 r (.nilS [1,0] r r (.seq (.sr (.ks 1 r ?_)))))
 have hw2:=W_part_side (I:=I) hd
 refine .callP call105 r hw2 r r fun v3 hv4=>?_
 obtain ⟨r1,rfl,hd⟩:=hv4
 refine .ks 2 r ?_
 refine splitP hd (fun hb5 hd=>?_) fun hb5 hd=>?_
 · rw [hb5]
   exact .ks 9 r (.nilS [17,1,0] r r (.condKT r r (.sr (.ks 1 r (.nilS [4] r r (.ret (pret results63 (.t r .n) (.refl _) ⟨(-1),r,hd⟩)))))))
 rw [hb5]
 refine .ks 4 r ?_
 refine splitP hd (fun hb6 hd=>?_) fun hb6 hd=>?_
 · rw [hb6]
   exact .ks 5 r (.nilS [17,1,0] r r (.condKT r r (.sr (.ks 1 r (.nilS [4] r r (.ret (pret results63 (.t r .n) (.refl _) ⟨(-1),r,hd⟩)))))))
 rw [hb6]
 refine .ks 5 r (.nilS [17,1,0] r r (.condP r hd (fun hb7 hd=>?_) fun hb7 hd=>?_))
 · exact .sr (.ks 1 r (.nilS [4] r r (.ret (pret results63 (.t r .n) (.refl _) ⟨(-1),r,hd⟩))))
 refine .skipS [1,0] r r (.sr (.ks 2 r ?_))
 obtain ⟨hz8,hd⟩:=hd
 exact .quo r r hz8 r r (.ks 1 r (.nilS [4] r r (.ret (pret results63 (.t r .n) (.refl _) ⟨(w64 (a1.tdiv a0)),r,hd⟩))))
theorem W_part_Col {I:IH} {a0:Int} {a1:Int} {Q:Int→Prop}  (hd:part_Col a0 a1 Q) :
  PFun prog 64 [.int .i64 a0,.int .i64 a1] I (fun _=>o0_ Q):=by
 refine Fun.enter func64 r ntmps64 r (.c (.c .n)) fun w0 M=>?_
 refine .sr (.ks 1 r (.nilS [1,0] r r (.seq (.sr (.ks 2 r ?_)))))
 have hw2:=W_part_Row (I:=I) hd
 refine .callP call63 r hw2 r r fun v3 hv4=>?_
 obtain ⟨r1,rfl,hd⟩:=hv4
 refine .ks 1 r (.nilS [8,1,0] r r (.condP r hd (fun hb5 hd=>?_) fun hb5 hd=>?_))
 · exact .sr (.ks 1 r (.nilS [4] r r (.ret (pret results64 (.t r .n) (.refl _) ⟨(-1),r,hd⟩))))
 refine .skipS [1,0] r r (.sr (.ks 2 r ?_))
 obtain ⟨hz6,hd⟩:=hd
 exact .rem r r hz6 r r (.ks 1 r (.nilS [4] r r (.ret (pret results64 (.t r .n) (.refl _) ⟨(a1.tmod a0),r,hd⟩))))
theorem W_csr_Triples {I:IH} {a0:Rows} {p1:Option Addr} {c2:Nat} {p4:Option Addr} {c5:Nat} {p7:Option Addr} {c8:Nat} {Q:(List Triple)→Prop} (R3:RepSl eI64 I p1 c2 a0.Start) (R6:RepSl eI64 I p4 c5 a0.Col) (R9:RepSl eI64 I p7 c8 a0.Val) (hd:csr_Triples a0 Q) :
  OFun prog 65 [.agg #[.int .i64 a0.Rows,.int .i64 a0.Cols,.slice p1 a0.Start.length c2,.slice p4 a0.Col.length c5,.slice p7 a0.Val.length c8]] I (fun I_ v l=>∃ r p10 c11,v=.slice p10 r.length c11∧l=[OwnSl eTriple 75 p10 c11 r]∧Q r):=by
 refine Fun.enter func65 r ntmps65 r (.c .n) fun w0 M=>?_
 refine .sr (.boxA r r r fun b15=>?_)
 refine .ks 1 r (.nilS [1] r r (.sr (.loadW ia34 sz34 r .z r r r ?_)))
 have hw48:=W_csr_sure (I:=I) R3 R6 R9 hd
 refine .call call93 r hw48 r r fun v37 I34 hl35 hv36=>?_
 obtain ⟨r33,p39,c40,p42,c43,p45,c46,rfl,R41,R44,R47,hd⟩:=hv36
 replace R3:=R3.mono hl35
 replace R6:=R6.mono hl35
 replace R9:=R9.mono hl35
 refine .storeA sz34 r r .z (.t (.t (.t (.t (.t .nil))))) r r (.nilS [1] r r (.sr (.ks 1 r (.nilS [3,1] r r (.seq (.sr (.fa un34 r sz3 r (o:=0) r r r (.load1 ia3 r .z r r r (.ks 1 r ?_)))))))))
 refine .nilS [13,12,3,1] r r (.block (.own0 eTriple 75 (.loop hd (fun (s:(List Triple)×Int) c w=>match s with | (s386,s390)=>∃ I_ p387 c388,IH.le I34 I_∧Ok ⟨42,[],none⟩ [(1,.pointer (some ⟨b15,0,none⟩)),(3,.slice p387 s386.length c388),(12,.int .i64 r33.Rows),(13,.int .i64 s390)] c∧Sym w0 M I I_ [pto b15 (.cells #[.int .i64 r33.Rows,.int .i64 r33.Cols,.slice p39 r33.Start.length c40,.slice p42 r33.Col.length c43,.slice p45 r33.Val.length c46] 34 (0,0)),OwnSl eTriple 75 p387 c388 s386] w) (fun c w ho hs=>⟨I34,_,_,(.refl _),ho.sub ⟨r,r,r,r,trivial⟩,hs.pick (.c (.s .z) (.c .z .n))⟩) ?_)))
 rintro ⟨s386,s390⟩ next392 hd c w hst
 obtain ⟨I393,p387,c388,hl394,hok,hsym⟩:=hst
 have le395:=IH.le.trans hl35 hl394
 replace R41:=R41.mono hl394
 replace R44:=R44.mono hl394
 replace R47:=R47.mono hl394
 refine Cod.at hok hsym (.sr (.ks 1 r (.nilS [14,13,12,3,1] r r (.seq (.condP r hd (fun hb397 hd=>?_) fun hb397 hd=>?_)))))
 · refine .skipS [13,12,3,1] r r (.seq (.block (.sr (.ks 2 r (.nilS [4,13,12,3,1] r r (.sr (.loadW ia34 sz34 r .z r r r (.ks 1 r ?_))))))))
   have hw425:=W_csr_part (I:=I393) R41 R44 R47 hd
   refine .call call106 r hw425 r r fun v417 I414 hl415 hv416=>?_
   obtain ⟨r413,p419,c420,p422,c423,rfl,R421,R424,hd⟩:=hv416
   have le426:=IH.le.trans le395 hl415
   have le427:=IH.le.trans hl394 hl415
   replace R41:=R41.mono hl415
   replace R44:=R44.mono hl415
   replace R47:=R47.mono hl415
   refine .ks 5 r (.nilS [6,5,4,13,12,3,1] r r (.sr (.ks 1 r (.len un31 r r r r (.ks 1 r (.nilS [24,23,22,6,4,13,12,3,1] r r (.block (.loop hd (fun (s:(List Triple)×Int) c w=>match s with | (s513,s517)=>∃ I_ p514 c515,IH.le I414 I_∧Ok ⟨42,[],none⟩ [(1,.pointer (some ⟨b15,0,none⟩)),(3,.slice p514 s513.length c515),(4,.int .i64 s390),(6,.slice p422 r413.2.length c423),(12,.int .i64 r33.Rows),(13,.int .i64 s390),(22,.slice p419 r413.1.length c420),(23,.int .i64 (r413.1.length:Int)),(24,.int .i64 s517)] c∧Sym w0 M I I_ [pto b15 (.cells #[.int .i64 r33.Rows,.int .i64 r33.Cols,.slice p39 r33.Start.length c40,.slice p42 r33.Col.length c43,.slice p45 r33.Val.length c46] 34 (0,0)),OwnSl eTriple 75 p514 c515 s513] w) (fun c w ho hs=>⟨I414,_,_,(.refl _),ho.sub ⟨r,r,r,r,r,r,r,r,r,trivial⟩,hs.pick (.c .z (.c .z .n))⟩) ?_))))))))
   rintro ⟨s513,s517⟩ next518 hd c w hst
   obtain ⟨I519,p514,c515,hl520,hok,hsym⟩:=hst
   have le521:=IH.le.trans le426 hl520
   have le522:=IH.le.trans le427 hl520
   replace R41:=R41.mono hl520
   replace R44:=R44.mono hl520
   replace R47:=R47.mono hl520
   replace R421:=R421.mono hl520
   replace R424:=R424.mono hl520
   refine Cod.at hok hsym (.sr (.ks 1 r (.nilS [25,24,23,22,13,12,6,4,3,1] r r (.seq (.condP r hd (fun hb524 hd=>?_) fun hb524 hd=>?_)))))
   · refine .skipS [24,23,22,13,12,6,4,3,1] r r (.seq (.block (.sr (.ks 1 r ?_))))
     obtain ⟨h534,x535,hx536,hd⟩:=hd
     obtain ⟨b537,o538,cs539,e540,hC541,hr542⟩:=R421.2 _ _ hx536
     cases hr542
     refine .ixa un31 sz3 r e540 r h534 (idx_lt hx536 h534) r r (.ld1 (j:=0) ia3 hC541 r r r r r (.ks 2 r (.nilS [8,7,24,23,22,13,12,6,4,3,1] r r (.region (.ks 5 r ?_)))))
     obtain ⟨h543,x544,hx545,hd⟩:=hd
     obtain ⟨b546,o547,cs548,e549,hC550,hr551⟩:=R424.2 _ _ hx545
     cases hr551
     refine .ixa un32 sz2 r e549 r h543 (idx_lt hx545 h543) r r (.ld1 (j:=0) ia2 hC550 r r r r r (.build zv75 un75 BI75 (.c r r r (.t .nil) (.c r r r (.s (.t .nil)) (.c r r r (.s (.s (.t .nil))) .n))) (by exact ⟨⟨_,_,r,r,r⟩,⟨⟨_,_,r,r,r⟩,⟨⟨_,_,r,r,r⟩,trivial⟩⟩⟩) r r (.buildSlice 1 un24 sz75 zv75 r r (.c r r r .n) r r fun b552=>?_)))
     obtain ⟨hl554,hd⟩:=hd
     refine .append (ys:=[({ Row:=s390,Col:=x535,Val:=x544 }:Triple)]) 24 (.s (.s .z)) un24 un24 IN75 r r r r r r r r r (.box .z (.one r) r) hl554 r r fun p555 c556=>?_
     exact .ks 1 r (.nilS [3,24,23,22,13,12,6,4,1] r r (.drop (.s .z) (.region (.ks 2 r (.nil' fun c w ho hs=>⟨((s513++([({ Row:=s390,Col:=x535,Val:=x544 }:Triple)])),w64 (s517+1)),hd,I519,_,_,hl520,ho.sub ⟨r,r,r,r,r,r,r,r,r,trivial⟩,hs.pick (.c (.s .z) (.c .z .n))⟩)))))
   exact .exitS [13,12,3,1] r r (.region (.ks 2 r (.nil' fun c w ho hs=>⟨(s513,w64 (s390+1)),hd,I519,_,_,le522,ho.sub ⟨r,r,r,r,trivial⟩,hs.pick (.c .z (.c .z .n))⟩)))
 exact .exitS [3] r r (.drop .z (.sr (.ks 2 r (.nilS [2] r r (.ret (oret results65 (.t r .n) le395 (.c .z .n) ⟨s386,_,_,r,r,hd⟩))))))
theorem W_ring_Is {I:IH} {a0:Int} {Q:Bool→Prop}  (hd:ring_Is a0 Q) :
  PFun prog 73 [.int .i64 a0] I (fun _=>o1_ Q):=by
 refine Fun.enter func73 r ntmps73 r (.c .n) fun w0 M=>?_
 refine .sr (.ks 1 r (.nilS [0] r r (.sr (.ks 3 r ?_))))
 refine splitP hd (fun hb1 hd=>?_) fun hb1 hd=>?_
 · rw [hb1]
   exact .ks 4 r (.nilS [2] r r (.ret (pret results73 (.t r .n) (.refl _) ⟨(decide (a0<6)),r,hd⟩)))
 rw [hb1]
 exact .ks 4 r (.nilS [2] r r (.ret (pret results73 (.t r .n) (.refl _) ⟨false,r,hd⟩)))
theorem W_wide_Of {I:IH} {a0:Int} {Q:Wide→Prop}  (hd:wide_Of a0 Q) :
  PFun prog 144 [.int .i64 a0] I (fun _=>o2_ Q):=by
 refine Fun.enter func144 r ntmps144 r (.c .n) fun w0 M=>?_
 refine .sr (.allocA zv78 r r fun b1=>?_)
 exact .nilS [2,0] r r (.sr (.ks 1 r (.shr' r r (by decide) r r (.ks 1 r (.conv un2 un76 r r r (.build zv78 un78 BI78 (.c r r r (.t .nil) (.c r r r (.s (.t .nil)) .n)) (by exact ⟨⟨_,_,r,r,r⟩,⟨⟨_,_,r,r,r⟩,trivial⟩⟩) r r (.storeA sz78 r r .z (.t (.t .nil)) r r (.nilS [2] r r (.ret (pret results144 (.w ia78 sz78 r .z r .n) (.refl _) ⟨({ Hi:=shr .i64 a0 63,Lo:=IntKind.wrap .u64 (a0) }:Wide),r,hd⟩))))))))))
theorem W_ring_truth {I:IH} {a0:Bool} {Q:Wide→Prop}  (hd:ring_truth a0 Q) :
  PFun prog 167 [.bool a0] I (fun _=>o2_ Q):=by
 refine Fun.enter func167 r ntmps167 r (.c .n) fun w0 M=>?_
 refine .sr (.allocA zv78 r r fun b3=>?_)
 refine .nilS [2,0] r r (.seq (.sr (.ks 1 r (.nilS [3,2] r r (.condP r hd (fun hb5 hd=>?_) fun hb5 hd=>?_)))))
 · refine .sr ?_
   have hw7:=W_wide_Of (I:=I) hd
   refine .callP call144 r hw7 r r fun v8 hv9=>?_
   obtain ⟨r6,rfl,hd⟩:=hv9
   exact .storeA sz78 r r .z (.t (.t .nil)) r r (.nilS [2] r r (.ret (pret results167 (.w ia78 sz78 r .z r .n) (.refl _) ⟨r6,r,hd⟩)))
 exact .skipS [2] r r (.sr (.build zv78 un78 BI78 .n (by exact trivial) r r (.storeA sz78 r r .z (.t (.t .nil)) r r (.nilS [2] r r (.ret (pret results167 (.w ia78 sz78 r .z r .n) (.refl _) ⟨({ Hi:=0,Lo:=0 }:Wide),r,hd⟩))))))
theorem W_cmp_Or_int {I:IH} {a0:List Int} {p1:Option Addr} {c2:Nat} {Q:Int→Prop} (R3:RepSl eI64 I p1 c2 a0) (hd:cmp_Or_int a0 Q) :
  PFun prog 178 [.slice p1 a0.length c2] I (fun _=>o0_ Q):=by
 refine Fun.enter func178 r ntmps178 r (.c .n) fun w0 M=>?_
 refine .sr (.ks 1 r (.nilS [0] r r (.sr (.ks 1 r (.nilS [3,0] r r (.seq (.sr (.ks 1 r (.len un31 r r r r ?_)))))))))
 refine .ks 1 r (.nilS [8,7,6,3] r r (.block (.loop hd (fun (s31:Int) c w=>∃ I_,IH.le I I_∧Ok ⟨18,[],none⟩ [(3,.int .i64 0),(6,.slice p1 a0.length c2),(7,.int .i64 (a0.length:Int)),(8,.int .i64 s31)] c∧Sym w0 M I I_ [] w) (fun c w ho hs=>⟨I,(.refl _),ho.sub ⟨r,r,r,r,trivial⟩,hs.pick .n⟩) ?_)))
 rintro s31 next32 hd c w hst
 obtain ⟨I33,hl34,hok,hsym⟩:=hst
 replace R3:=R3.mono hl34
 refine Cod.at hok hsym (.sr (.ks 1 r (.nilS [9,8,7,6,3] r r (.seq (.condP r hd (fun hb36 hd=>?_) fun hb36 hd=>?_)))))
 · refine .skipS [8,7,6,3] r r (.seq (.block (.sr ?_)))
   obtain ⟨h37,x38,hx39,hd⟩:=hd
   obtain ⟨b40,o41,cs42,e43,hC44,hr45⟩:=R3.2 _ _ hx39
   cases hr45
   refine .ixa un31 sz3 r e43 r h37 (idx_lt hx39 h37) r r (.ld1 (j:=0) ia3 hC44 r r r r r (.ks 1 r (.nilS [5,8,7,6,3] r r (.sr (.ks 3 r (.nilS [14,5,8,7,6,3] r r (.condP r hd (fun hb46 hd=>?_) fun hb46 hd=>?_)))))))
   · exact .sr (.ks 2 r (.nilS [2] r r (.ret (pret results178 (.t r .n) hl34 ⟨x38,r,hd⟩))))
   exact .skipS [8,7,6,3] r r (.region (.ks 2 r (.nil' fun c w ho hs=>⟨(w64 (s31+1)),hd,I33,hl34,ho.sub ⟨r,r,r,r,trivial⟩,hs.pick .n⟩)))
 exact .exitS [3] r r (.sr (.ks 2 r (.nilS [2] r r (.ret (pret results178 (.t r .n) hl34 ⟨0,r,hd⟩)))))
theorem W_cmp_isNaN_int64 {I:IH} {a0:Int} {Q:Bool→Prop}  (hd:cmp_isNaN_int64 a0 Q) :
  PFun prog 208 [.int .i64 a0] I (fun _=>o1_ Q):=by
 refine Fun.enter func208 r ntmps208 r (.c .n) fun w0 M=>?_
 exact .sr (.ks 1 r (.nilS [0] r r (.sr (.ks 4 r (.nilS [2] r r (.ret (pret results208 (.t r .n) (.refl _) ⟨(a0 != a0),r,hd⟩)))))))
theorem W_cmp_Compare_int64 {I:IH} {a0:Int} {a1:Int} {Q:Int→Prop}  (hd:cmp_Compare_int64 a0 a1 Q) :
  PFun prog 201 [.int .i64 a0,.int .i64 a1] I (fun _=>o0_ Q):=by
 refine Fun.enter func201 r ntmps201 r (.c (.c .n)) fun w0 M=>?_
 refine .sr (.ks 1 r (.nilS [1,0] r r (.sr (.ks 1 r ?_))))
 have hw6:=W_cmp_isNaN_int64 (I:=I) hd
 refine .callP call208 r hw6 r r fun v7 hv8=>?_
 obtain ⟨r5,rfl,hd⟩:=hv8
 refine .ks 1 r (.nilS [5,1,0] r r (.sr (.ks 1 r ?_)))
 have hw14:=W_cmp_isNaN_int64 (I:=I) hd
 refine .callP call208 r hw14 r r fun v15 hv16=>?_
 obtain ⟨r13,rfl,hd⟩:=hv16
 refine .ks 1 r (.nilS [6,5,1,0] r r (.seq (.sr (.ks 1 r (.nilS [11,6,1,0] r r (.condP r hd (fun hb19 hd=>?_) fun hb19 hd=>?_))))))
 · refine .seq (.sr (.ks 1 r (.nilS [12] r r (.condP r hd (fun hb20 hd=>?_) fun hb20 hd=>?_))))
   · exact .sr (.ks 1 r (.nilS [4] r r (.ret (pret results201 (.t r .n) (.refl _) ⟨0,r,hd⟩))))
   exact .skipS [] r r (.sr (.ks 1 r (.nilS [4] r r (.ret (pret results201 (.t r .n) (.refl _) ⟨(-1),r,hd⟩)))))
 refine .skipS [6,1,0] r r (.seq (.sr (.ks 1 r (.nilS [13,1,0] r r (.condP r hd (fun hb22 hd=>?_) fun hb22 hd=>?_)))))
 · exact .sr (.ks 1 r (.nilS [4] r r (.ret (pret results201 (.t r .n) (.refl _) ⟨1,r,hd⟩))))
 refine .skipS [1,0] r r (.seq (.sr (.ks 3 r (.nilS [16,1,0] r r (.condP r hd (fun hb24 hd=>?_) fun hb24 hd=>?_)))))
 · exact .sr (.ks 1 r (.nilS [4] r r (.ret (pret results201 (.t r .n) (.refl _) ⟨(-1),r,hd⟩))))
 refine .skipS [1,0] r r (.seq (.sr (.ks 3 r (.nilS [19] r r (.condP r hd (fun hb25 hd=>?_) fun hb25 hd=>?_)))))
 · exact .sr (.ks 1 r (.nilS [4] r r (.ret (pret results201 (.t r .n) (.refl _) ⟨1,r,hd⟩))))
 exact .skipS [] r r (.sr (.ks 1 r (.nilS [4] r r (.ret (pret results201 (.t r .n) (.refl _) ⟨0,r,hd⟩)))))
theorem W_cmp_isNaN_uint64 {I:IH} {a0:Int} {Q:Bool→Prop}  (hd:cmp_isNaN_uint64 a0 Q) :
  PFun prog 209 [.int .u64 a0] I (fun _=>o1_ Q):=by
 refine Fun.enter func209 r ntmps209 r (.c .n) fun w0 M=>?_
 exact .sr (.ks 1 r (.nilS [0] r r (.sr (.ks 4 r (.nilS [2] r r (.ret (pret results209 (.t r .n) (.refl _) ⟨(a0 != a0),r,hd⟩)))))))
theorem W_cmp_Compare_uint64 {I:IH} {a0:Int} {a1:Int} {Q:Int→Prop}  (hd:cmp_Compare_uint64 a0 a1 Q) :
  PFun prog 202 [.int .u64 a0,.int .u64 a1] I (fun _=>o0_ Q):=by
 refine Fun.enter func202 r ntmps202 r (.c (.c .n)) fun w0 M=>?_
 refine .sr (.ks 1 r (.nilS [1,0] r r (.sr (.ks 1 r ?_))))
 have hw6:=W_cmp_isNaN_uint64 (I:=I) hd
 refine .callP call209 r hw6 r r fun v7 hv8=>?_
 obtain ⟨r5,rfl,hd⟩:=hv8
 refine .ks 1 r (.nilS [5,1,0] r r (.sr (.ks 1 r ?_)))
 have hw14:=W_cmp_isNaN_uint64 (I:=I) hd
 refine .callP call209 r hw14 r r fun v15 hv16=>?_
 obtain ⟨r13,rfl,hd⟩:=hv16
 refine .ks 1 r (.nilS [6,5,1,0] r r (.seq (.sr (.ks 1 r (.nilS [11,6,1,0] r r (.condP r hd (fun hb19 hd=>?_) fun hb19 hd=>?_))))))
 · refine .seq (.sr (.ks 1 r (.nilS [12] r r (.condP r hd (fun hb20 hd=>?_) fun hb20 hd=>?_))))
   · exact .sr (.ks 1 r (.nilS [4] r r (.ret (pret results202 (.t r .n) (.refl _) ⟨0,r,hd⟩))))
   exact .skipS [] r r (.sr (.ks 1 r (.nilS [4] r r (.ret (pret results202 (.t r .n) (.refl _) ⟨(-1),r,hd⟩)))))
 refine .skipS [6,1,0] r r (.seq (.sr (.ks 1 r (.nilS [13,1,0] r r (.condP r hd (fun hb22 hd=>?_) fun hb22 hd=>?_)))))
 · exact .sr (.ks 1 r (.nilS [4] r r (.ret (pret results202 (.t r .n) (.refl _) ⟨1,r,hd⟩))))
 refine .skipS [1,0] r r (.seq (.sr (.ks 3 r (.nilS [16,1,0] r r (.condP r hd (fun hb24 hd=>?_) fun hb24 hd=>?_)))))
 · exact .sr (.ks 1 r (.nilS [4] r r (.ret (pret results202 (.t r .n) (.refl _) ⟨(-1),r,hd⟩))))
 refine .skipS [1,0] r r (.seq (.sr (.ks 3 r (.nilS [19] r r (.condP r hd (fun hb25 hd=>?_) fun hb25 hd=>?_)))))
 · exact .sr (.ks 1 r (.nilS [4] r r (.ret (pret results202 (.t r .n) (.refl _) ⟨1,r,hd⟩))))
 exact .skipS [] r r (.sr (.ks 1 r (.nilS [4] r r (.ret (pret results202 (.t r .n) (.refl _) ⟨0,r,hd⟩)))))
theorem W_wide_Compare {I:IH} {a0:Wide} {a1:Wide} {Q:Int→Prop}  (hd:wide_Compare a0 a1 Q) :
  PFun prog 188 [.agg (encWide a0).toArray,.agg (encWide a1).toArray] I (fun _=>o0_ Q):=by
 refine Fun.enter func188 r ntmps188 r (.c (.c .n)) fun w0 M=>?_
 refine .sr (.boxA r r r fun b5=>?_)
 refine .boxA r r r fun b7=>?_
 refine .ks 1 r (.nilS [3,2] r r (.seq (.dr [0,1,2,3,5,6,7,8,4,9,10,11] 12 (.g r r r (fun _=>.fa un78 r sz2 r (o:=0) r r r .mk) (.g r r r (fun _=>.load1 ia2 r (.s .z) r r r .mk) (.g r r r (fun _=>.fa un78 r sz2 r (o:=0) r r r .mk) (.g r r r (fun _=>.load1 ia2 r .z r r r .mk) (.g r r r (fun _=>.fa un78 r sz76 r (o:=1) r r r .mk) (.g r r r (fun _=>.load1 ia76 r (.s .z) r r r .mk) ?_)))))))))
 refine .g r r r (fun _=>.fa un78 r sz76 r (o:=1) r r r .mk) (.g r r r (fun _=>.load1 ia76 r .z r r r .mk) (.ww r fun ex=>?_))
 have hw10:=W_cmp_Compare_int64 (I:=I) hd
 refine .callP call201 r hw10 r r fun v11 hv12=>?_
 obtain ⟨r9,rfl,hd⟩:=hv12
 refine .so 2 r r r (.cg r r r r (fun _=>.load1 ia76 r .z r r r .mk) (.cg r r r r (fun _=>.fa un78 r sz76 r (o:=1) r r r .mk) (.cg r r r r (fun _=>.load1 ia76 r (.s .z) r r r .mk) (.cg r r r r (fun _=>.fa un78 r sz76 r (o:=1) r r r .mk) trivial)))) (.ww r fun ex=>?_)
 have hw14:=W_cmp_Compare_uint64 (I:=I) hd
 refine .callP call202 r hw14 r r fun v15 hv16=>?_
 obtain ⟨r13,rfl,hd⟩:=hv16
 refine .so 2 r r r trivial (.ww r fun ex=>?_)
 refine .buildSlice 2 un31 sz3 zv3 r r (.c r r r (.c r r r .n)) r r fun b17=>?_
 refine .so 3 r r r trivial (.ww r fun ex=>?_)
 refine .pubB (El:=eI64) (ys:=([r9,r13]:List Int)) (k:=2) .z (RepCs.cons (cs:=[.int .i64 r9]) r (RepCs.cons (cs:=[.int .i64 r13]) r .nil)) r fun I19 hl20 R21=>?_
 have hw23:=W_cmp_Or_int (I:=I19) R21 hd
 refine .callP call178 r hw23 r r fun v24 hv25=>?_
 obtain ⟨r22,rfl,hd⟩:=hv25
 exact .so 2 r r r trivial (.e2 12 (.ks 1 r (.nilS [4] r r (.drop .z (.drop .z (.ret (pret results188 (.t r .n) hl20 ⟨r22,r,hd⟩)))))))
theorem W_ring_lesser {I:IH} {a0:Wide} {a1:Wide} {Q:Wide→Prop}  (hd:ring_lesser a0 a1 Q) :
  PFun prog 169 [.agg (encWide a0).toArray,.agg (encWide a1).toArray] I (fun _=>o2_ Q):=by
 refine Fun.enter func169 r ntmps169 r (.c (.c .n)) fun w0 M=>?_
 refine .sr (.boxA r r r fun b7=>?_)
 refine .boxA r r r fun b9=>?_
 refine .allocA zv78 r r fun b11=>?_
 refine .nilS [4,3,2] r r (.seq (.sr (.loadW ia78 sz78 r (.s (.s .z)) r r r (.loadW ia78 sz78 r (.s .z) r r r ?_))))
 have hw14:=W_wide_Compare (I:=I) hd
 refine .callP call188 r hw14 r r fun v15 hv16=>?_
 obtain ⟨r13,rfl,hd⟩:=hv16
 refine .ks 1 r (.nilS [8,4,3,2] r r (.condP r hd (fun hb17 hd=>?_) fun hb17 hd=>?_))
 · exact .sr (.loadW ia78 sz78 r (.s (.s .z)) r r r (.storeA sz78 r r .z (.t (.t .nil)) r r (.nilS [4] r r (.drop (.s .z) (.drop (.s .z) (.ret (pret results169 (.w ia78 sz78 r .z r .n) (.refl _) ⟨a0,r,hd⟩)))))))
 exact .skipS [4,3] r r (.drop (.s (.s .z)) (.sr (.loadW ia78 sz78 r (.s .z) r r r (.storeA sz78 r r .z (.t (.t .nil)) r r (.nilS [4] r r (.drop (.s .z) (.ret (pret results169 (.w ia78 sz78 r .z r .n) (.refl _) ⟨a1,r,hd⟩))))))))
theorem W_wide_carry {I:IH} {a0:Bool} {Q:Int→Prop}  (hd:wide_carry a0 Q) :
  PFun prog 189 [.bool a0] I (fun _=>o13_ Q):=by
 refine Fun.enter func189 r ntmps189 r (.c .n) fun w0 M=>?_
 refine .sr (.ks 1 r (.nilS [0] r r (.seq (.sr (.ks 1 r (.nilS [3] r r (.condP r hd (fun hb1 hd=>?_) fun hb1 hd=>?_)))))))
 · exact .sr (.ks 1 r (.nilS [2] r r (.ret (pret results189 (.t r .n) (.refl _) ⟨1,r,hd⟩))))
 exact .skipS [] r r (.sr (.ks 1 r (.nilS [2] r r (.ret (pret results189 (.t r .n) (.refl _) ⟨0,r,hd⟩)))))
theorem W_wide_Add {I:IH} {a0:Wide} {a1:Wide} {Q:Wide→Prop}  (hd:wide_Add a0 a1 Q) :
  PFun prog 170 [.agg (encWide a0).toArray,.agg (encWide a1).toArray] I (fun _=>o2_ Q):=by
 refine Fun.enter func170 r ntmps170 r (.c (.c .n)) fun w0 M=>?_
 refine .sr (.boxA r r r fun b7=>?_)
 refine .boxA r r r fun b9=>?_
 refine .allocA zv78 r r fun b11=>?_
 refine .nilS [4,3,2] r r (.sr (.fa un78 r sz76 r (o:=1) r r r (.load1 ia76 r (.s (.s .z)) r r r (.fa un78 r sz76 r (o:=1) r r r (.load1 ia76 r (.s .z) r r r (.ks 2 r (.nilS [5,4,3,2] r r (.seq (.dr [0,1,2,3,4,5,6,7,8,9,10,14,11,12,13,15] 16 ?_)))))))))
 refine .g r r r (fun _=>.fa un78 r sz2 r (o:=0) r r r .mk) (.g r r r (fun _=>.load1 ia2 r (.s (.s .z)) r r r .mk) (.g r r r (fun _=>.conv un2 un76 r r r .mk) (.g r r r (fun _=>.fa un78 r sz2 r (o:=0) r r r .mk) (.g r r r (fun _=>.load1 ia2 r (.s .z) r r r .mk) (.g r r r (fun _=>.conv un2 un76 r r r .mk) (.fk 2 r (.g r r r (fun _=>.fa un78 r sz76 r (o:=1) r r r .mk) (.g r r r (fun _=>.load1 ia76 r (.s .z) r r r .mk) (.fk 2 r ?_)))))))))
 refine .ww r fun ex=>?_
 have hw14:=W_wide_carry (I:=I) hd
 refine .callP call189 r hw14 r r fun v15 hv16=>?_
 obtain ⟨r13,rfl,hd⟩:=hv16
 exact .so 3 r r r (.ck 2 r r (.cg r r r r (fun _=>.conv un2 un76 r r r .mk) (.cg r r r r (fun _=>.load1 ia2 r (.s .z) r r r .mk) (.cg r r r r (fun _=>.fa un78 r sz2 r (o:=0) r r r .mk) (.cg r r r r (fun _=>.conv un2 un76 r r r .mk) (.cg r r r r (fun _=>.load1 ia2 r (.s (.s .z)) r r r .mk) (.cg r r r r (fun _=>.fa un78 r sz2 r (o:=0) r r r .mk) trivial))))))) (.fk 1 r (.g r r r (fun _=>.conv un76 un2 r r r .mk) (.g r r r (fun _=>.build zv78 un78 BI78 (.c r r r (.t .nil) (.c r r r (.s (.t .nil)) .n)) (by exact ⟨⟨_,_,r,r,r⟩,⟨⟨_,_,r,r,r⟩,trivial⟩⟩) r r .mk) (.e2 16 (.storeA sz78 r r .z (.t (.t .nil)) r r (.nilS [4] r r (.drop (.s .z) (.drop (.s .z) (.ret (pret results170 (.w ia78 sz78 r .z r .n) (.refl _) ⟨({ Hi:=w64 (IntKind.wrap .u64 ((IntKind.wrap .u64 ((IntKind.wrap .u64 (a0.Hi))+(IntKind.wrap .u64 (a1.Hi))))+r13)),Lo:=IntKind.wrap .u64 (a0.Lo+a1.Lo) }:Wide),r,hd⟩))))))))))
theorem W_ring_Add {I:IH} {a0:Int} {a1:Wide} {a2:Wide} {Q:Wide→Prop}  (hd:ring_Add a0 a1 a2 Q) :
  PFun prog 145 [.int .i64 a0,.agg (encWide a1).toArray,.agg (encWide a2).toArray] I (fun _=>o2_ Q):=by
 refine Fun.enter func145 r ntmps145 r (.c (.c (.c .n))) fun w0 M=>?_
 refine .sr (.boxA r r r fun b7=>?_)
 refine .boxA r r r fun b9=>?_
 refine .allocA zv78 r r fun b11=>?_
 refine .nilS [6,5,4,0] r r (.seq (.sr (.ks 1 r (.nilS [7,6,5,4] r r (.block (.seq ?_))))))
 refine Cod.joinQ (σ:=Bool) hd (fun (s17:Bool) c w=>∃ I_,IH.le I I_∧Ok ⟨32,[],none⟩ [(4,.pointer (some ⟨b7,0,none⟩)),(5,.pointer (some ⟨b9,0,none⟩)),(6,.pointer (some ⟨b11,0,none⟩)),(7,.int .i64 a0),(8,.bool s17)] c∧Sym w0 M I I_ [pto b7 (.cells #[.int .i64 a1.Hi,.int .u64 a1.Lo] 78 (0,0)),pto b9 (.cells #[.int .i64 a2.Hi,.int .u64 a2.Lo] 78 (0,0)),pto b11 (.cells #[.int .i64 0,.int .u64 0] 78 (0,0))] w) (fun k18 hd=>?_) ?_
 · skip
   refine .sr (.ks 2 r (.nilS [8,7,6,5,4] r r (.condP r hd (fun hb19 hd=>?_) fun hb19 hd=>?_)))
   · exact .skip' fun c w ho hs=>⟨(a0==1),hd,I,(.refl _),ho.sub ⟨r,r,r,r,r,trivial⟩,hs.pick (.c (.s (.s .z)) (.c (.s .z) (.c .z .n)))⟩
   refine .sr (.ks 2 r (.nilS [8,7,6,5,4] r r (.condP r hd (fun hb20 hd=>?_) fun hb20 hd=>?_)))
   · exact .skip' fun c w ho hs=>⟨(a0==3),hd,I,(.refl _),ho.sub ⟨r,r,r,r,r,trivial⟩,hs.pick (.c (.s (.s .z)) (.c (.s .z) (.c .z .n)))⟩
   exact .region (.ks 2 r (.nil' fun c w ho hs=>⟨(a0==4),hd,I,(.refl _),ho.sub ⟨r,r,r,r,r,trivial⟩,hs.pick (.c (.s (.s .z)) (.c (.s .z) (.c .z .n)))⟩))
 rintro s17 hd c w hst
 obtain ⟨I21,hl22,hok,hsym⟩:=hst
 refine Cod.at hok hsym (.condP r hd (fun hb23 hd=>?_) fun hb23 hd=>?_)
 · refine .sr (.loadW ia78 sz78 r .z r r r (.loadW ia78 sz78 r (.s .z) r r r ?_))
   have hw25:=W_ring_lesser (I:=I21) hd
   refine .callP call169 r hw25 r r fun v26 hv27=>?_
   obtain ⟨r24,rfl,hd⟩:=hv27
   exact .storeA sz78 r r (.s (.s .z)) (.t (.t .nil)) r r (.nilS [6] r r (.drop .z (.drop .z (.ret (pret results145 (.w ia78 sz78 r .z r .n) hl22 ⟨r24,r,hd⟩)))))
 refine .sr (.ks 2 r (.nilS [15,7,6,5,4] r r (.condP r hd (fun hb28 hd=>?_) fun hb28 hd=>?_)))
 · refine .sr (.loadW ia78 sz78 r .z r r r (.loadW ia78 sz78 r (.s .z) r r r (.neV r r (EQ78 a1 a2) (EG78 _ _ _ _ _) r r r (.ks 1 r ?_))))
   refine splitP hd (fun hb29 hd=>?_) fun hb29 hd=>?_
   · rw [hb29]
     refine .ks 4 r ?_
     have hw31:=W_ring_truth (I:=I21) hd
     refine .callP call167 r hw31 r r fun v32 hv33=>?_
     obtain ⟨r30,rfl,hd⟩:=hv33
     exact .storeA sz78 r r (.s (.s .z)) (.t (.t .nil)) r r (.nilS [6] r r (.drop .z (.drop .z (.ret (pret results145 (.w ia78 sz78 r .z r .n) hl22 ⟨r30,r,hd⟩)))))
   rw [hb29]
   refine .gyes r r r (.loadW ia78 sz78 r .z r r r (.gyes r r r (.build zv78 un78 BI78 .n (by exact trivial) r r (.gyes r r r (.neV r r (EQ78 a1 ({ Hi:=0,Lo:=0 }:Wide)) (EG78 _ _ _ _ _) r r r (.ks 1 r ?_))))))
   have hw35:=W_ring_truth (I:=I21) hd
   refine .callP call167 r hw35 r r fun v36 hv37=>?_
   obtain ⟨r34,rfl,hd⟩:=hv37
   exact .storeA sz78 r r (.s (.s .z)) (.t (.t .nil)) r r (.nilS [6] r r (.drop .z (.drop .z (.ret (pret results145 (.w ia78 sz78 r .z r .n) hl22 ⟨r34,r,hd⟩)))))
 refine .sr (.ks 2 r (.nilS [26,6,5,4] r r (.condP r hd (fun hb38 hd=>?_) fun hb38 hd=>?_)))
 · refine .sr (.loadW ia78 sz78 r .z r r r (.loadW ia78 sz78 r (.s .z) r r r ?_))
   have hw40:=W_wide_Add (I:=I21) hd
   refine .callP call170 r hw40 r r fun v41 hv42=>?_
   obtain ⟨r39,rfl,hd⟩:=hv42
   exact .storeA sz78 r r (.s (.s .z)) (.t (.t .nil)) r r (.nilS [6] r r (.drop .z (.drop .z (.ret (pret results145 (.w ia78 sz78 r .z r .n) hl22 ⟨r39,r,hd⟩)))))
 exact .skipS [6] r r (.drop .z (.drop .z (.sr (.build zv78 un78 BI78 .n (by exact trivial) r r (.storeA sz78 r r .z (.t (.t .nil)) r r (.nilS [6] r r (.ret (pret results145 (.w ia78 sz78 r .z r .n) hl22 ⟨({ Hi:=0,Lo:=0 }:Wide),r,hd⟩))))))))
theorem W_wide_Narrow {I:IH} {a0:Wide} {Q:(Int×Bool)→Prop}  (hd:wide_Narrow a0 Q) :
  PFun prog 175 [.agg (encWide a0).toArray] I (fun _=>o3_ Q):=by
 refine Fun.enter func175 r ntmps175 r (.c .n) fun w0 M=>?_
 refine .sr (.boxA r r r fun b3=>?_)
 refine .ks 2 r (.nilS [1] r r (.sr (.fa un78 r sz76 r (o:=1) r r r (.load1 ia76 r .z r r r (.conv un76 un2 r r r (.ks 1 r (.nilS [4,1] r r (.seq (.seq ?_)))))))))
 refine .dr [0,2,1,3] 4 (.fk 1 r (.g r r r (fun _=>.loadW ia78 sz78 r .z r r r .mk) (.ww r fun ex=>?_)))
 have hw6:=W_wide_Of (I:=I) hd
 refine .callP call144 r hw6 r r fun v7 hv8=>?_
 obtain ⟨r5,rfl,hd⟩:=hv8
 refine .so 1 r r r (.cg r r r r (fun _=>.loadW ia78 sz78 r .z r r r .mk) trivial) (.g r r r (fun _=>.neV r r (EQ78 r5 a0) (EG78 _ _ _ _ _) r r r .mk) (.e2 4 (.nilS [11,4] r r (.drop .z (.condP r hd (fun hb9 hd=>?_) fun hb9 hd=>?_)))))
 · exact .sr (.ks 2 r (.nilS [3,2] r r (.ret (pret results175 (.t r (.t r .n)) (.refl _) ⟨(0,false),r,hd⟩))))
 exact .skipS [4] r r (.sr (.ks 3 r (.nilS [3,2] r r (.ret (pret results175 (.t r (.t r .n)) (.refl _) ⟨(w64 (a0.Lo),true),r,hd⟩)))))
theorem W_ring_Narrow {I:IH} {a0:Int} {a1:Wide} {Q:(Int×Bool)→Prop}  (hd:ring_Narrow a0 a1 Q) :
  PFun prog 146 [.int .i64 a0,.agg (encWide a1).toArray] I (fun _=>o3_ Q):=by
 refine Fun.enter func146 r ntmps146 r (.c (.c .n)) fun w0 M=>?_
 refine .sr (.boxA r r r fun b1=>?_)
 refine .ks 2 r (.nilS [3] r r (.sr (.loadW ia78 sz78 r .z r r r ?_)))
 have hw4:=W_wide_Narrow (I:=I) hd
 refine .callP call175 r hw4 r r fun v5 hv6=>?_
 obtain ⟨r3,rfl,hd⟩:=hv6
 exact .ks 4 r (.nilS [5,4] r r (.drop .z (.ret (pret results146 (.t r (.t r .n)) (.refl _) ⟨(r3.1,r3.2),r,hd⟩))))
theorem W_csr_order {I:IH} {a0:Triple} {a1:Triple} {Q:Int→Prop}  (hd:csr_order a0 a1 Q) :
  PFun prog 148 [.agg (encTriple a0).toArray,.agg (encTriple a1).toArray] I (fun _=>o0_ Q):=by
 refine Fun.enter func148 r ntmps148 r (.c (.c .n)) fun w0 M=>?_
 refine .sr (.boxA r r r fun b5=>?_)
 refine .boxA r r r fun b7=>?_
 refine .ks 1 r (.nilS [3,2] r r (.seq (.dr [0,1,2,3,5,6,7,8,4,9,10,11] 12 (.g r r r (fun _=>.fa un75 r sz3 r (o:=0) r r r .mk) (.g r r r (fun _=>.load1 ia3 r (.s .z) r r r .mk) (.g r r r (fun _=>.fa un75 r sz3 r (o:=0) r r r .mk) (.g r r r (fun _=>.load1 ia3 r .z r r r .mk) (.g r r r (fun _=>.fa un75 r sz3 r (o:=1) r r r .mk) (.g r r r (fun _=>.load1 ia3 r (.s .z) r r r .mk) ?_)))))))))
 refine .g r r r (fun _=>.fa un75 r sz3 r (o:=1) r r r .mk) (.g r r r (fun _=>.load1 ia3 r .z r r r .mk) (.ww r fun ex=>?_))
 have hw10:=W_cmp_Compare_int (I:=I) hd
 refine .callP call174 r hw10 r r fun v11 hv12=>?_
 obtain ⟨r9,rfl,hd⟩:=hv12
 refine .so 2 r r r (.cg r r r r (fun _=>.load1 ia3 r .z r r r .mk) (.cg r r r r (fun _=>.fa un75 r sz3 r (o:=1) r r r .mk) (.cg r r r r (fun _=>.load1 ia3 r (.s .z) r r r .mk) (.cg r r r r (fun _=>.fa un75 r sz3 r (o:=1) r r r .mk) trivial)))) (.ww r fun ex=>?_)
 have hw14:=W_cmp_Compare_int (I:=I) hd
 refine .callP call174 r hw14 r r fun v15 hv16=>?_
 obtain ⟨r13,rfl,hd⟩:=hv16
 refine .so 2 r r r trivial (.ww r fun ex=>?_)
 refine .buildSlice 2 un31 sz3 zv3 r r (.c r r r (.c r r r .n)) r r fun b17=>?_
 refine .so 3 r r r trivial (.ww r fun ex=>?_)
 refine .pubB (El:=eI64) (ys:=([r9,r13]:List Int)) (k:=2) .z (RepCs.cons (cs:=[.int .i64 r9]) r (RepCs.cons (cs:=[.int .i64 r13]) r .nil)) r fun I19 hl20 R21=>?_
 have hw23:=W_cmp_Or_int (I:=I19) R21 hd
 refine .callP call178 r hw23 r r fun v24 hv25=>?_
 obtain ⟨r22,rfl,hd⟩:=hv25
 exact .so 2 r r r trivial (.e2 12 (.ks 1 r (.nilS [4] r r (.drop .z (.drop .z (.ret (pret results148 (.t r .n) hl20 ⟨r22,r,hd⟩)))))))
theorem W_csr_summed {I:IH} {a0:Int} {a1:List Triple} {p1:Option Addr} {c2:Nat} {Q:((List Triple)×Int)→Prop} (R3:RepSl eTriple I p1 c2 a1) (hd:csr_summed a0 a1 Q) :
  PFun prog 110 [.int .i64 a0,.slice p1 a1.length c2] I (fun I_ v=>∃ r p4 c5,v=.tuple #[.slice p4 r.1.length c5,.int .i64 r.2]∧RepSl eTriple I_ p4 c5 r.1∧Q r):=by
 refine Fun.enter func110 r ntmps110 r (.c (.c .n)) fun w0 M=>?_
 refine .sr (.ks 2 r (.nilS [1,0] r r (.sr (.mkMap kArr2 eWide true r r fun b9=>?_))))
 refine .ks 1 r (.nilS [6,1,0] r r (.seq (.sr (.ks 1 r (.len un24 r r r r (.ks 1 r (.nilS [21,20,19,6,0] r r (.block (.loop hd (fun (s:(List ((Int×Int)×Wide))×Int) c w=>match s with | (s293,s294)=>∃ I_,IH.le I I_∧Ok ⟨75,[],none⟩ [(0,.int .i64 a0),(6,.map (some b9)),(19,.slice p1 a1.length c2),(20,.int .i64 (a1.length:Int)),(21,.int .i64 s294)] c∧Sym w0 M I I_ [OwnMap kArr2 eWide true b9 s293] w) (fun c w ho hs=>⟨I,(.refl _),ho.sub ⟨r,r,r,r,r,trivial⟩,hs.pick (.c .z .n)⟩) ?_)))))))))
 rintro ⟨s293,s294⟩ next295 hd c w hst
 obtain ⟨I296,hl297,hok,hsym⟩:=hst
 replace R3:=R3.mono hl297
 refine Cod.at hok hsym (.sr (.ks 1 r (.nilS [22,21,20,19,6,0] r r (.seq (.condP r hd (fun hb299 hd=>?_) fun hb299 hd=>?_)))))
 · refine .skipS [21,20,19,6,0] r r (.seq (.block (.sr ?_)))
   obtain ⟨h311,x312,hx313,hd⟩:=hd
   obtain ⟨b314,o315,cs316,e317,hC318,hr319⟩:=R3.2 _ _ hx313
   cases hr319
   refine .ixa un24 sz75 r e317 r h311 (idx_lt hx313 h311) r r (.ldW isAgg75 sz75 hC318 r r r r (.allocA zv75 r r fun b320=>?_))
   refine .storeA sz75 r r .z (.t (.t (.t .nil))) r r (.nilS [8,21,20,19,6,0] r r (.sr (.fa un75 r sz3 r (o:=0) r r r (.load1 ia3 r .z r r r (.fa un75 r sz3 r (o:=1) r r r (.load1 ia3 r .z r r r (.buildArr zv86 un86 sz3 (.c r r r (.t .nil) (.c r r r (.s (.t .nil)) .n)) r r (.allocA zv86 r r fun b324=>?_))))))))
   refine .storeA sz86 r r .z (.t (.t .nil)) r r (.nilS [9,8,21,20,19,6,0] r r (.sr (.fa un75 r sz2 r (o:=2) r r r (.load1 ia2 r (.s .z) r r r ?_))))
   have hw333:=W_wide_Of (I:=I296) hd
   refine .callP call144 r hw333 r r fun v334 hv335=>?_
   obtain ⟨r332,rfl,hd⟩:=hv335
   refine .allocA zv78 r r fun b336=>?_
   refine .storeA sz78 r r .z (.t (.t .nil)) r r (.nilS [10,9,21,20,19,6,0] r r (.drop (.s (.s .z)) (.seq (.sr (.ks 1 r (.loadW isAgg86 sz86 r (.s .z) r r r (.lookM2 (k:=(x312.Row,x312.Col)) (El:=eWide) (ag:=true) (zv:=.agg #[.int .i64 0,.int .u64 0]) (z:=({ Hi:=0,Lo:=0 }:Wide)) KA86 underlying177 zv78 ⟨[.int .i64 0,.int .u64 0],r,.a⟩ (.s (.s .z)) r r hd r r fun v341 r338 t343 cs342 hd hr339 hv340=>?_)))))))
   cases hr339
   cases hv340
   refine .ks 3 r (.allocA zv78 r r fun b344=>?_)
   refine .storeA sz78 r r .z (.t (.t .nil)) r r (.ks 1 r (.nilS [12,11,10,9,21,20,19,6,0] r r (.sr (.ks 1 r (.nilS [39,11,10,9,21,20,19,6,0] r r (.condP r hd (fun hb346 hd=>?_) fun hb346 hd=>?_))))))
   · refine .region (.ks 1 r (.loadW ia78 sz78 r .z r r r (.loadW ia78 sz78 r (.s .z) r r r ?_)))
     have hw348:=W_ring_Add (I:=I296) hd
     refine .callP call145 r hw348 r r fun v349 hv350=>?_
     obtain ⟨r347,rfl,hd⟩:=hv350
     refine .storeA sz78 r r (.s .z) (.t (.t .nil)) r r (.nilS [10,9,21,20,19,6,0] r r (.drop .z (.region (.ks 1 r (.loadW isAgg86 sz86 r (.s .z) r r r (.loadW ia78 sz78 r .z r r r (.updM (k:=(x312.Row,x312.Col)) (El:=eWide) (ag:=true) (v:=r347) KA86 underlying177 (.s (.s .z)) r r r ⟨[.int .i64 r347.Hi,.int .u64 r347.Lo],r,.a⟩ (.nilS [21,20,19,6,0] r r (.drop .z ?_)))))))))
     exact .drop .z (.region (.ks 2 r (.nil' fun c w ho hs=>⟨((mput (x312.Row,x312.Col) r347 s293),w64 (s294+1)),hd,I296,hl297,ho.sub ⟨r,r,r,r,r,trivial⟩,hs.pick (.c .z .n)⟩)))
   refine .skipS [10,9,21,20,19,6,0] r r (.drop .z (.region (.ks 1 r (.loadW isAgg86 sz86 r (.s .z) r r r (.loadW ia78 sz78 r .z r r r (.updM (k:=(x312.Row,x312.Col)) (El:=eWide) (ag:=true) (v:=r332) KA86 underlying177 (.s (.s .z)) r r r ⟨[.int .i64 r332.Hi,.int .u64 r332.Lo],r,.a⟩ (.nilS [21,20,19,6,0] r r (.drop .z (.drop .z ?_)))))))))
   exact .region (.ks 2 r (.nil' fun c w ho hs=>⟨((mput (x312.Row,x312.Col) r332 s293),w64 (s294+1)),hd,I296,hl297,ho.sub ⟨r,r,r,r,r,trivial⟩,hs.pick (.c .z .n)⟩))
 refine .exitS [6,0] r r (.sr (.ks 1 r (.nilS [13,6,0] r r (.seq (.sr (.ks 1 r (.rangeM underlying177 .z r r r fun b352=>?_)))))))
 refine .nilS [49,13,0] r r (.block (.own0 eTriple 75 (.loop hd (fun (s:(List Triple)×(List ((Int×Int)×Wide))) c w=>match s with | (s457,s461)=>∃ I_ p458 c459,IH.le I296 I_∧Ok ⟨75,[],none⟩ [(0,.int .i64 a0),(13,.slice p458 s457.length c459),(49,.pointer (some ⟨b352,0,none⟩))] c∧Sym w0 M I I_ [OwnSl eTriple 75 p458 c459 s457,OwnIt kArr2 eWide true b9 b352 s293 s461 none] w) (fun c w ho hs=>⟨I296,_,_,(.refl _),ho.sub ⟨r,r,r,trivial⟩,hs.pick (.c .z (.c .z .n))⟩) ?_)))
 rintro ⟨s457,s461⟩ next463 hd c w hst
 obtain ⟨I464,p458,c459,hl465,hok,hsym⟩:=hst
 have le466:=IH.le.trans hl297 hl465
 refine Cod.at hok hsym (.sr (.nextM (.s .z) r hd r r (fun hd hn487=>?_) (fun p481 l482 v483 cs484 hd hr485 hv486 hn487=>?_)))
 · skip
   refine .ks 1 r (.nilS [51,49,13,0] r r (.seq (.condKF r r (.exitS [13] r r (.drop (.s .z) (.sr (.ks 1 r ?_)))))))
   have hw488:=Fun.sort (hk:=fun _=>⟨r,r⟩) SL147 isAgg75 sz75 (fun x y J Q hq=>W_csr_order (I:=J) (a0:=x) (a1:=y) (Q:=Q) hq) call148 (I:=I464) (T:=75) (a:=p458) (cap:=c459) hd
   refine .callS (.f call147 r) (.c .z .n) hw488 r r fun v489 I490 l491 hl492 hv493=>?_
   obtain ⟨y494,rfl,hlen495,rfl,hd⟩:=hv493
   have le496:=IH.le.trans le466 hl492
   have le497:=IH.le.trans hl465 hl492
   refine .sub (E':=[(13,.slice p458 y494.length c459),(72,.slice p458 y494.length c459),(73,_)]) ⟨(by rw [hlen495]; rfl),(by rw [hlen495]; rfl),r,trivial⟩ (.nilS [13] r r (.sr (.ks 3 r (.nilS [5,4] r r (.pub .z fun I498 hl499 R500=>?_)))))
   have le501:=IH.le.trans le496 hl499
   have le502:=IH.le.trans le497 hl499
   exact .ret (pret results110 (.t r (.t r .n)) le501 ⟨(y494,0),_,_,r,R500,hd⟩)
 cases hr485
 cases hv486
 refine .ks 1 r (.nilS [51,49,13,0] r r (.seq (.condKT r r (.skipS [49,13,0] r r (.block (.sr (.entryM .z r r r (.ks 2 r (.allocA zv86 r r fun b507=>?_)))))))))
 refine .allocA zv78 r r fun b509=>?_
 refine .storeA sz86 r r (.s .z) (.t (.t .nil)) r r (.storeA sz78 r r .z (.t (.t .nil)) r r (.nilS [15,14,49,13,0] r r (.sr (.ks 1 r (.loadW ia78 sz78 r .z r r r ?_)))))
 have hw516:=W_ring_Narrow (I:=I464) hd
 refine .callP call146 r hw516 r r fun v517 hv518=>?_
 obtain ⟨r515,rfl,hd⟩:=hv518
 refine .ks 5 r (.nilS [17,16,14,49,13,0] r r (.drop .z (.seq (.sr (.ks 2 r (.nilS [62,16,14,49,13,0] r r (.condP r hd (fun hb519 hd=>?_) fun hb519 hd=>?_)))))))
 · exact .sr (.ks 2 r (.nilS [5,4] r r (.drop .z (.drop .z (.drop .z (.ret (pret results110 (.t r (.t r .n)) le466 ⟨(([]:List Triple),12),_,_,r,(.nil _ _ _),hd⟩)))))))
 refine .skipS [16,14,49,13,0] r r (.region (.ks 1 r (.ixArr (i:=0) un86 sz3 r r (by decide) (o:=0) r r r (.load1 ia3 r .z r r r (.ixArr (i:=1) un86 sz3 r r (by decide) (o:=1) r r r (.load1 ia3 r .z r r r (.ks 1 r (.build zv75 un75 BI75 (.c r r r (.t .nil) (.c r r r (.s (.t .nil)) (.c r r r (.s (.s (.t .nil))) .n))) (by exact ⟨⟨_,_,r,r,r⟩,⟨⟨_,_,r,r,r⟩,⟨⟨_,_,r,r,r⟩,trivial⟩⟩⟩) r r (.buildSlice 1 un24 sz75 zv75 r r (.c r r r .n) r r fun b520=>?_)))))))))
 obtain ⟨hl522,hd⟩:=hd
 refine .append (ys:=[({ Row:=p481.1.1,Col:=p481.1.2,Val:=r515.1 }:Triple)]) 24 (.s (.s (.s .z))) un24 un24 IN75 r r r r r r r r r (.box .z (.one r) r) hl522 r r fun p523 c524=>?_
 exact .ks 1 r (.nil' fun c w ho hs=>⟨((s457++([({ Row:=p481.1.1,Col:=p481.1.2,Val:=r515.1 }:Triple)])),l482),hd,I464,_,_,hl465,ho.sub ⟨r,r,r,trivial⟩,hs.pick (.c .z (.c (.s (.s .z)) .n))⟩)
theorem W_csr_Of_1_fca {I:IH} {o0:Int} {o1:Int} {a0:Triple} {b3:Nat} {b4:Nat} {Q:Bool→Prop}  (hd:csr_Of_1_fca o0 o1 a0 Q) :
  Fun prog 109 #[.agg (encTriple a0).toArray,.pointer (some ⟨b3,0,none⟩),.pointer (some ⟨b4,0,none⟩)] I [pto b3 (.cells #[.int .i64 o0] 3 (0,0)),pto b4 (.cells #[.int .i64 o1] 3 (0,0))] (fun I_ v l=>∃ r,v=.bool r∧l=[pto b3 (.cells #[.int .i64 o0] 3 (0,0)),pto b4 (.cells #[.int .i64 o1] 3 (0,0))]∧Q r):=by
 refine Fun.enter (vs:=[.agg (encTriple a0).toArray,.pointer (some ⟨b3,0,none⟩),.pointer (some ⟨b4,0,none⟩)]) func109 r ntmps109 r (.c (.c (.c .n))) fun w0 M=>?_
 refine .sr (.boxA r r r fun b7=>?_)
 refine .ks 1 r (.nilS [3,2,1] r r (.sr (.fa un75 r sz3 r (o:=0) r r r (.load1 ia3 r .z r r r (.load1 ia3 r (.s .z) r r r (.ks 1 r ?_))))))
 have hw10:=W_csr_within (I:=I) hd
 refine .callP call90 r hw10 r r fun v11 hv12=>?_
 obtain ⟨r9,rfl,hd⟩:=hv12
 refine .ks 2 r ?_
 refine splitP hd (fun hb13 hd=>?_) fun hb13 hd=>?_
 · rw [hb13]
   exact .ks 8 r (.nilS [4,2,1] r r (.drop .z (.ret (oret results109 (.t r .n) (.refl _) (.c .z (.c .z .n)) ⟨true,r,r,hd⟩))))
 rw [hb13]
 refine .gyes r r r (.fa un75 r sz3 r (o:=1) r r r (.gyes r r r (.load1 ia3 r .z r r r (.gyes r r r (.load1 ia3 r (.s (.s .z)) r r r (.ks 1 r ?_))))))
 have hw15:=W_csr_within (I:=I) hd
 refine .gyes r r r (.callP call90 r hw15 r r fun v16 hv17=>?_)
 obtain ⟨r14,rfl,hd⟩:=hv17
 exact .ks 3 r (.nilS [4,2,1] r r (.drop .z (.ret (oret results109 (.t r .n) (.refl _) (.c .z (.c .z .n)) ⟨(!r14),r,r,hd⟩))))
theorem W_slices_IndexFunc_api_Triple_api_Triple_77e {I:IH} {o0:Int} {o1:Int} {a0:List Triple} {b3:Nat} {b4:Nat} {p5:Option Addr} {c6:Nat} {Q:Int→Prop} (R7:RepSl eTriple I p5 c6 a0) (hd:slices_IndexFunc_api_Triple_api_Triple_77e o0 o1 a0 Q) :
  Fun prog 143 #[.slice p5 a0.length c6,.func (.func 109) #[] #[.pointer (some ⟨b3,0,none⟩),.pointer (some ⟨b4,0,none⟩)]] I [pto b3 (.cells #[.int .i64 o0] 3 (0,0)),pto b4 (.cells #[.int .i64 o1] 3 (0,0))] (fun I_ v l=>∃ r,v=.int .i64 r∧l=[pto b3 (.cells #[.int .i64 o0] 3 (0,0)),pto b4 (.cells #[.int .i64 o1] 3 (0,0))]∧Q r):=by
 refine Fun.enter (vs:=[.slice p5 a0.length c6,.func (.func 109) #[] #[.pointer (some ⟨b3,0,none⟩),.pointer (some ⟨b4,0,none⟩)]]) func143 r ntmps143 r (.c (.c .n)) fun w0 M=>?_
 refine .sr (.ks 1 r (.nilS [1,0] r r (.seq (.sr (.ks 1 r (.len un24 r r r r (.ks 1 r (.nilS [8,7,1,0] r r (.block ?_)))))))))
 refine .loop hd (fun (s49:Int) c w=>∃ I_,IH.le I I_∧Ok ⟨19,[],none⟩ [(0,.slice p5 a0.length c6),(1,.func (.func 109) #[] #[.pointer (some ⟨b3,0,none⟩),.pointer (some ⟨b4,0,none⟩)]),(7,.int .i64 (a0.length:Int)),(8,.int .i64 s49)] c∧Sym w0 M I I_ [pto b3 (.cells #[.int .i64 o0] 3 (0,0)),pto b4 (.cells #[.int .i64 o1] 3 (0,0))] w) (fun c w ho hs=>⟨I,(.refl _),ho.sub ⟨r,r,r,r,trivial⟩,hs.pick (.c .z (.c .z .n))⟩) ?_
 rintro s49 next50 hd c w hst
 obtain ⟨I51,hl52,hok,hsym⟩:=hst
 replace R7:=R7.mono hl52
 refine Cod.at hok hsym (.sr (.ks 1 r (.nilS [9,8,7,1,0] r r (.seq (.condP r hd (fun hb54 hd=>?_) fun hb54 hd=>?_)))))
 · refine .skipS [8,7,1,0] r r (.seq (.block (.sr (.ks 2 r (.nilS [5,8,7,1,0] r r (.sr (.ks 3 r ?_)))))))
   obtain ⟨h55,x56,hx57,hd⟩:=hd
   obtain ⟨b58,o59,cs60,e61,hC62,hr63⟩:=R7.2 _ _ hx57
   cases hr63
   refine .ixa un24 sz75 r e61 r h55 (idx_lt hx57 h55) r r (.ldW isAgg75 sz75 hC62 r r r r ?_)
   have hw64:=W_csr_Of_1_fca (I:=I51) (o0:=o0) (o1:=o1) (a0:=x56) (b3:=b3) (b4:=b4) hd
   refine .callS (.c call109 r r) (.c .z (.c .z .n)) hw64 r r fun v68 I65 l69 hl66 hv67=>?_
   obtain ⟨r70,rfl,rfl,hd⟩:=hv67
   have le71:=IH.le.trans hl52 hl66
   replace R7:=R7.mono hl66
   replace hC62:=hC62.mono hl66
   refine .re (m':=[pto b3 (.cells #[.int .i64 o0] 3 (0,0)),pto b4 (.cells #[.int .i64 o1] 3 (0,0))]) r (.nilS [16,5,8,7,1,0] r r (.condP r hd (fun hb72 hd=>?_) fun hb72 hd=>?_))
   · exact .sr (.ks 2 r (.nilS [4,1] r r (.ret (oret results143 (.t r .n) le71 (.c .z (.c .z .n)) ⟨s49,r,r,hd⟩))))
   exact .skipS [8,7,1,0] r r (.region (.ks 2 r (.nil' fun c w ho hs=>⟨(w64 (s49+1)),hd,I65,le71,ho.sub ⟨r,r,r,r,trivial⟩,hs.pick (.c .z (.c .z .n))⟩)))
 exact .exitS [1] r r (.sr (.ks 1 r (.nilS [4,1] r r (.ret (oret results143 (.t r .n) hl52 (.c .z (.c .z .n)) ⟨(-1),r,r,hd⟩)))))
theorem W_slices_ContainsFunc_api_Triple_api_Triple_988 {I:IH} {o0:Int} {o1:Int} {a0:List Triple} {b3:Nat} {b4:Nat} {p5:Option Addr} {c6:Nat} {Q:Bool→Prop} (R7:RepSl eTriple I p5 c6 a0) (hd:slices_ContainsFunc_api_Triple_api_Triple_988 o0 o1 a0 Q) :
  Fun prog 108 #[.slice p5 a0.length c6,.func (.func 109) #[] #[.pointer (some ⟨b3,0,none⟩),.pointer (some ⟨b4,0,none⟩)]] I [pto b3 (.cells #[.int .i64 o0] 3 (0,0)),pto b4 (.cells #[.int .i64 o1] 3 (0,0))] (fun I_ v l=>∃ r,v=.bool r∧l=[pto b3 (.cells #[.int .i64 o0] 3 (0,0)),pto b4 (.cells #[.int .i64 o1] 3 (0,0))]∧Q r):=by
 refine Fun.enter (vs:=[.slice p5 a0.length c6,.func (.func 109) #[] #[.pointer (some ⟨b3,0,none⟩),.pointer (some ⟨b4,0,none⟩)]]) func108 r ntmps108 r (.c (.c .n)) fun w0 M=>?_
 refine .sr (.ks 1 r (.nilS [1,0] r r (.sr (.ks 2 r ?_))))
 have hw8:=W_slices_IndexFunc_api_Triple_api_Triple_77e (I:=I) (o0:=o0) (o1:=o1) (a0:=a0) (b3:=b3) (b4:=b4) R7 hd
 refine .callS (.f call143 r) (.c .z (.c .z .n)) hw8 r r fun v12 I9 l13 hl10 hv11=>?_
 obtain ⟨r14,rfl,rfl,hd⟩:=hv11
 replace R7:=R7.mono hl10
 exact .re (m':=[pto b3 (.cells #[.int .i64 o0] 3 (0,0)),pto b4 (.cells #[.int .i64 o1] 3 (0,0))]) r (.ks 2 r (.nilS [4,1] r r (.ret (oret results108 (.t r .n) hl10 (.c .z (.c .z .n)) ⟨(decide (0≤r14)),r,r,hd⟩))))
theorem W_csr_Of {I:IH} {a0:Int} {a1:Int} {a2:Int} {a3:List Triple} {p1:Option Addr} {c2:Nat} {Q:(Rows×Int)→Prop} (R3:RepSl eTriple I p1 c2 a3) (hd:csr_Of a0 a1 a2 a3 Q) :
  PFun prog 67 [.int .i64 a0,.int .i64 a1,.int .i64 a2,.slice p1 a3.length c2] I (o6_ Q):=by
 refine Fun.enter func67 r ntmps67 r (.c (.c (.c (.c .n)))) fun w0 M=>?_
 refine .sr (.box1 r r r r fun b19=>?_)
 refine .box1 r r r r fun b21=>?_
 refine .allocA zv34 r r fun b23=>?_
 refine .ks 1 r (.nilS [8,6,5,3,0] r r (.seq (.block (.sr (.ks 1 r ?_)))))
 have hw81:=W_ring_Is (I:=I) hd
 refine .callP call73 r hw81 r r fun v82 hv83=>?_
 obtain ⟨r80,rfl,hd⟩:=hv83
 refine .ks 2 r (.nilS [12,8,6,5,3,0] r r (.condP r hd (fun hb84 hd=>?_) fun hb84 hd=>?_))
 · exact .sr (.build zv34 un34 BI34 .n (by exact trivial) r r (.storeA sz34 r r .z (.t (.t (.t (.t (.t .nil))))) r r (.ks 1 r (.nilS [9,8] r r (.drop (.s .z) (.drop (.s .z) (.ret (pret results67 (.w ia34 sz34 r .z r (.t r .n)) (.refl _) ⟨(({ Rows:=0,Cols:=0,Start:=([]:List Int),Col:=([]:List Int),Val:=([]:List Int) }:Rows),8),_,_,_,_,_,_,r,(.nil _ _ _),(.nil _ _ _),(.nil _ _ _),hd⟩))))))))
 refine .seq ?_
 refine Cod.joinQ (σ:=Bool) hd (fun (s103:Bool) c w=>∃ I_,IH.le I I_∧Ok ⟨51,[],none⟩ [(0,.int .i64 a0),(3,.slice p1 a3.length c2),(5,.pointer (some ⟨b19,0,none⟩)),(6,.pointer (some ⟨b21,0,none⟩)),(8,.pointer (some ⟨b23,0,none⟩)),(17,.bool s103)] c∧Sym w0 M I I_ [pto b19 (.cells #[.int .i64 a1] 3 (0,0)),pto b21 (.cells #[.int .i64 a2] 3 (0,0)),pto b23 (.cells #[.int .i64 0,.int .i64 0,.slice none 0 0,.slice none 0 0,.slice none 0 0] 34 (0,0))] w) (fun k104 hd=>?_) ?_
 · skip
   refine .region (.load1 ia3 r (.s (.s .z)) r r r ?_)
   have hw106:=W_csr_within (I:=I) hd
   refine .callP call90 r hw106 r r fun v107 hv108=>?_
   obtain ⟨r105,rfl,hd⟩:=hv108
   refine .ks 2 r ?_
   refine splitP hd (fun hb109 hd=>?_) fun hb109 hd=>?_
   · rw [hb109]
     exact .ks 5 r (.nil' fun c w ho hs=>⟨true,hd,I,(.refl _),ho.sub ⟨r,r,r,r,r,r,trivial⟩,hs.pick (.c (.s (.s .z)) (.c (.s .z) (.c .z .n)))⟩)
   rw [hb109]
   refine .gyes r r r (.load1 ia3 r (.s .z) r r r ?_)
   have hw111:=W_csr_within (I:=I) hd
   refine .gyes r r r (.callP call90 r hw111 r r fun v112 hv113=>?_)
   obtain ⟨r110,rfl,hd⟩:=hv113
   exact .ks 3 r (.nil' fun c w ho hs=>⟨(!r110),hd,I,(.refl _),ho.sub ⟨r,r,r,r,r,r,trivial⟩,hs.pick (.c (.s (.s .z)) (.c (.s .z) (.c .z .n)))⟩)
 rintro s103 hd c w hst
 obtain ⟨I114,hl115,hok,hsym⟩:=hst
 replace R3:=R3.mono hl115
 refine Cod.at hok hsym (.condP r hd (fun hb116 hd=>?_) fun hb116 hd=>?_)
 · exact .sr (.build zv34 un34 BI34 .n (by exact trivial) r r (.storeA sz34 r r (.s (.s .z)) (.t (.t (.t (.t (.t .nil))))) r r (.ks 1 r (.nilS [9,8] r r (.drop .z (.drop .z (.ret (pret results67 (.w ia34 sz34 r .z r (.t r .n)) hl115 ⟨(({ Rows:=0,Cols:=0,Start:=([]:List Int),Col:=([]:List Int),Val:=([]:List Int) }:Rows),3),_,_,_,_,_,_,r,(.nil _ _ _),(.nil _ _ _),(.nil _ _ _),hd⟩))))))))
 refine .sr (.ks 1 r (.len un24 r r r r (.ks 2 r (.nilS [27,8,6,5,3,0] r r (.condP r hd (fun hb117 hd=>?_) fun hb117 hd=>?_)))))
 · exact .sr (.build zv34 un34 BI34 .n (by exact trivial) r r (.storeA sz34 r r (.s (.s .z)) (.t (.t (.t (.t (.t .nil))))) r r (.ks 1 r (.nilS [9,8] r r (.drop .z (.drop .z (.ret (pret results67 (.w ia34 sz34 r .z r (.t r .n)) hl115 ⟨(({ Rows:=0,Cols:=0,Start:=([]:List Int),Col:=([]:List Int),Val:=([]:List Int) }:Rows),5),_,_,_,_,_,_,r,(.nil _ _ _),(.nil _ _ _),(.nil _ _ _),hd⟩))))))))
 refine .sr (.ks 1 r (.mkFn r r r r ?_))
 have hw118:=W_slices_ContainsFunc_api_Triple_api_Triple_988 (I:=I114) (o0:=a1) (o1:=a2) (a0:=a3) (b3:=b19) (b4:=b21) R3 hd
 refine .callS (.f call108 r) (.c .z (.c .z .n)) hw118 r r fun v122 I119 l123 hl120 hv121=>?_
 obtain ⟨r124,rfl,rfl,hd⟩:=hv121
 have le125:=IH.le.trans hl115 hl120
 replace R3:=R3.mono hl120
 refine .re (m':=[pto b19 (.cells #[.int .i64 a1] 3 (0,0)),pto b21 (.cells #[.int .i64 a2] 3 (0,0)),pto b23 (.cells #[.int .i64 0,.int .i64 0,.slice none 0 0,.slice none 0 0,.slice none 0 0] 34 (0,0))]) r (.ks 1 r (.nilS [32,8,6,5,3,0] r r (.condP r hd (fun hb126 hd=>?_) fun hb126 hd=>?_)))
 · exact .sr (.build zv34 un34 BI34 .n (by exact trivial) r r (.storeA sz34 r r (.s (.s .z)) (.t (.t (.t (.t (.t .nil))))) r r (.ks 1 r (.nilS [9,8] r r (.drop .z (.drop .z (.ret (pret results67 (.w ia34 sz34 r .z r (.t r .n)) le125 ⟨(({ Rows:=0,Cols:=0,Start:=([]:List Int),Col:=([]:List Int),Val:=([]:List Int) }:Rows),3),_,_,_,_,_,_,r,(.nil _ _ _),(.nil _ _ _),(.nil _ _ _),hd⟩))))))))
 refine .skipS [8,6,5,3,0] r r (.sr (.ks 2 r ?_))
 have hw147:=W_csr_summed (I:=I119) R3 hd
 refine .call call110 r hw147 r r fun v142 I139 hl140 hv141=>?_
 obtain ⟨r138,p144,c145,rfl,R146,hd⟩:=hv141
 have le148:=IH.le.trans le125 hl140
 replace R3:=R3.mono hl140
 refine .ks 5 r (.nilS [11,10,8,6,5] r r (.seq (.sr (.ks 2 r (.nilS [44,11,10,8,6,5] r r (.condP r hd (fun hb149 hd=>?_) fun hb149 hd=>?_))))))
 · exact .sr (.build zv34 un34 BI34 .n (by exact trivial) r r (.ks 1 r (.storeA sz34 r r (.s (.s .z)) (.t (.t (.t (.t (.t .nil))))) r r (.ks 1 r (.nilS [9,8] r r (.drop .z (.drop .z (.ret (pret results67 (.w ia34 sz34 r .z r (.t r .n)) le148 ⟨(({ Rows:=0,Cols:=0,Start:=([]:List Int),Col:=([]:List Int),Val:=([]:List Int) }:Rows),r138.2),_,_,_,_,_,_,r,(.nil _ _ _),(.nil _ _ _),(.nil _ _ _),hd⟩)))))))))
 refine .skipS [10,8,6,5] r r (.sr (.load1 ia3 r .z r r r (.load1 ia3 r (.s .z) r r r (.ks 1 r ?_))))
 have hw165:=W_csr_built (I:=I139) R146 hd
 refine .call call96 r hw165 r r fun v154 I151 hl152 hv153=>?_
 obtain ⟨r150,p156,c157,p159,c160,p162,c163,rfl,R158,R161,R164,hd⟩:=hv153
 have le166:=IH.le.trans le148 hl152
 replace R146:=R146.mono hl152
 exact .storeA sz34 r r (.s (.s .z)) (.t (.t (.t (.t (.t .nil))))) r r (.ks 1 r (.nilS [9,8] r r (.drop .z (.drop .z (.ret (pret results67 (.w ia34 sz34 r .z r (.t r .n)) le166 ⟨(r150,0),_,_,_,_,_,_,r,R158,R161,R164,hd⟩))))))
theorem W_block_Join {I:IH} {a0:Int} {a1:Int} {a2:Int} {a3:Int} {a4:List Rows} {p1:Option Addr} {c2:Nat} {Q:(Rows×Int)→Prop} (R3:RepSl eRows I p1 c2 a4) (hd:block_Join a0 a1 a2 a3 a4 Q) :
  PFun prog 20 [.int .i64 a0,.int .i64 a1,.int .i64 a2,.int .i64 a3,.slice p1 a4.length c2] I (o6_ Q):=by
 refine Fun.enter func20 r ntmps20 r (.c (.c (.c (.c (.c .n))))) fun w0 M=>?_
 refine .sr (.allocA zv34 r r fun b15=>?_)
 refine .ks 1 r (.nilS [10,4,3,2,1,0] r r (.seq (.block (.seq ?_))))
 refine Cod.joinQ (σ:=Bool) hd (fun (s118:Bool) c w=>∃ I_,IH.le I I_∧Ok ⟨117,[],none⟩ [(0,.int .i64 a0),(1,.int .i64 a1),(2,.int .i64 a2),(3,.int .i64 a3),(4,.slice p1 a4.length c2),(10,.pointer (some ⟨b15,0,none⟩)),(19,.bool s118)] c∧Sym w0 M I I_ [pto b15 (.cells #[.int .i64 0,.int .i64 0,.slice none 0 0,.slice none 0 0,.slice none 0 0] 34 (0,0))] w) (fun k119 hd=>?_) ?_
 · skip
   refine .region (.ks 1 r ?_)
   have hw121:=W_block_within (I:=I) hd
   refine .callP call55 r hw121 r r fun v122 hv123=>?_
   obtain ⟨r120,rfl,hd⟩:=hv123
   refine .ks 2 r ?_
   refine splitP hd (fun hb124 hd=>?_) fun hb124 hd=>?_
   · rw [hb124]
     exact .ks 15 r (.nil' fun c w ho hs=>⟨true,hd,I,(.refl _),ho.sub ⟨r,r,r,r,r,r,r,trivial⟩,hs.pick (.c .z .n)⟩)
   rw [hb124]
   refine .ks 1 r ?_
   have hw126:=W_block_within (I:=I) hd
   refine .gyes r r r (.callP call55 r hw126 r r fun v127 hv128=>?_)
   obtain ⟨r125,rfl,hd⟩:=hv128
   refine .ks 3 r ?_
   refine splitP hd (fun hb129 hd=>?_) fun hb129 hd=>?_
   · rw [hb129]
     exact .ks 10 r (.nil' fun c w ho hs=>⟨true,hd,I,(.refl _),ho.sub ⟨r,r,r,r,r,r,r,trivial⟩,hs.pick (.c .z .n)⟩)
   rw [hb129]
   refine .ks 1 r ?_
   have hw131:=W_block_side (I:=I) hd
   refine .gyes r r r (.callP call62 r hw131 r r fun v132 hv133=>?_)
   obtain ⟨r130,rfl,hd⟩:=hv133
   refine .ks 3 r ?_
   refine splitP hd (fun hb134 hd=>?_) fun hb134 hd=>?_
   · rw [hb134]
     exact .ks 5 r (.nil' fun c w ho hs=>⟨true,hd,I,(.refl _),ho.sub ⟨r,r,r,r,r,r,r,trivial⟩,hs.pick (.c .z .n)⟩)
   rw [hb134]
   refine .ks 1 r ?_
   have hw136:=W_block_side (I:=I) hd
   refine .gyes r r r (.callP call62 r hw136 r r fun v137 hv138=>?_)
   obtain ⟨r135,rfl,hd⟩:=hv138
   exact .ks 3 r (.nil' fun c w ho hs=>⟨(!r135),hd,I,(.refl _),ho.sub ⟨r,r,r,r,r,r,r,trivial⟩,hs.pick (.c .z .n)⟩)
 rintro s118 hd c w hst
 obtain ⟨I139,hl140,hok,hsym⟩:=hst
 replace R3:=R3.mono hl140
 refine Cod.at hok hsym (.condP r hd (fun hb141 hd=>?_) fun hb141 hd=>?_)
 · exact .sr (.build zv34 un34 BI34 .n (by exact trivial) r r (.storeA sz34 r r .z (.t (.t (.t (.t (.t .nil))))) r r (.ks 1 r (.nilS [11,10] r r (.ret (pret results20 (.w ia34 sz34 r .z r (.t r .n)) hl140 ⟨(({ Rows:=0,Cols:=0,Start:=([]:List Int),Col:=([]:List Int),Val:=([]:List Int) }:Rows),3),_,_,_,_,_,_,r,(.nil _ _ _),(.nil _ _ _),(.nil _ _ _),hd⟩))))))
 refine .sr (.ks 1 r (.len un46 r r r r (.ks 5 r (.nilS [39,10,4,3,2,1,0] r r (.condP r hd (fun hb142 hd=>?_) fun hb142 hd=>?_)))))
 · exact .sr (.build zv34 un34 BI34 .n (by exact trivial) r r (.storeA sz34 r r .z (.t (.t (.t (.t (.t .nil))))) r r (.ks 1 r (.nilS [11,10] r r (.ret (pret results20 (.w ia34 sz34 r .z r (.t r .n)) hl140 ⟨(({ Rows:=0,Cols:=0,Start:=([]:List Int),Col:=([]:List Int),Val:=([]:List Int) }:Rows),4),_,_,_,_,_,_,r,(.nil _ _ _),(.nil _ _ _),(.nil _ _ _),hd⟩))))))
 refine .skipS [10,4,3,2,1,0] r r (.sr (.ks 1 r (.nilS [12,10,4,3,2,1,0] r r (.seq (.sr (.ks 1 r (.len un46 r r r r (.ks 1 r (.nilS [49,48,47,12,10,3,2,1,0] r r ?_)))))))))
 refine .block (.own0 eTriple 75 (.loop hd (fun (s:(List Triple)×Int) c w=>match s with | (s614,s618)=>∃ I_ p615 c616,IH.le I139 I_∧Ok ⟨117,[],none⟩ [(0,.int .i64 a0),(1,.int .i64 a1),(2,.int .i64 a2),(3,.int .i64 a3),(10,.pointer (some ⟨b15,0,none⟩)),(12,.slice p615 s614.length c616),(47,.slice p1 a4.length c2),(48,.int .i64 (a4.length:Int)),(49,.int .i64 s618)] c∧Sym w0 M I I_ [pto b15 (.cells #[.int .i64 0,.int .i64 0,.slice none 0 0,.slice none 0 0,.slice none 0 0] 34 (0,0)),OwnSl eTriple 75 p615 c616 s614] w) (fun c w ho hs=>⟨I139,_,_,(.refl _),ho.sub ⟨r,r,r,r,r,r,r,r,r,trivial⟩,hs.pick (.c (.s .z) (.c .z .n))⟩) ?_))
 rintro ⟨s614,s618⟩ next620 hd c w hst
 obtain ⟨I621,p615,c616,hl622,hok,hsym⟩:=hst
 have le623:=IH.le.trans hl140 hl622
 replace R3:=R3.mono hl622
 refine Cod.at hok hsym (.sr (.ks 1 r (.nilS [50,49,48,47,12,10,3,2,1,0] r r (.seq (.condP r hd (fun hb625 hd=>?_) fun hb625 hd=>?_)))))
 · refine .skipS [49,48,47,12,10,3,2,1,0] r r (.seq (.block (.sr (.ks 1 r ?_))))
   obtain ⟨h646,x647,hx648,hd⟩:=hd
   obtain ⟨b649,o650,cs651,e652,hC653,hr654⟩:=R3.2 _ _ hx648
   obtain ⟨p655,c656,p658,c659,p661,c662,rfl,R657,R660,R663⟩:=hr654
   refine .ixa un46 sz34 r e652 r h646 (idx_lt hx648 h646) r r (.ldW ia34 sz34 hC653 r r r r (.allocA zv34 r r fun b664=>?_))
   refine .ks 1 r (.storeA sz34 r r .z (.t (.t (.t (.t (.t .nil))))) r r (.nilS [13,14,49,48,47,12,10,3,2,1,0] r r (.sr (.ks 2 r ?_))))
   have hw675:=W_part_Row (I:=I621) hd
   refine .callP call63 r hw675 r r fun v676 hv677=>?_
   obtain ⟨r674,rfl,hd⟩:=hv677
   refine .ks 2 r ?_
   have hw679:=W_part_Col (I:=I621) hd
   refine .callP call64 r hw679 r r fun v680 hv681=>?_
   obtain ⟨r678,rfl,hd⟩:=hv681
   refine .ks 2 r (.nilS [16,15,14,49,48,47,12,10,3,2,1,0] r r (.seq (.seq (.dr [0,1,2,3,4,5,6,7,8,9,10,11,12,13,14,15,16,17,18,19,20] 21 (.g r r r (fun _=>.loadW ia34 sz34 r .z r r r .mk) (.ww r fun ex=>?_))))))
   have hw698:=W_csr_Right (I:=I621) R657 R660 R663 hd
   refine .callP call41 r hw698 r r fun v699 hv700=>?_
   obtain ⟨r697,rfl,hd⟩:=hv700
   refine .so 3 r r r trivial (.fk 2 r ?_)
   refine splitP hd (fun hb701 hd=>?_) fun hb701 hd=>?_
   · refine .g r r r (fun _=>.gno r r hb701 r r .mk) (.g r r r (fun _=>.gno r r hb701 r r .mk) (.g r r r (fun _=>.gno r r hb701 r r .mk) (.g r r r (fun _=>.gno r r hb701 r r .mk) (.g r r r (fun _=>.gno r r hb701 r r .mk) (.g r r r (fun _=>.gno r r hb701 r r .mk) (.g r r r (fun _=>.gno r r hb701 r r .mk) (.g r r r (fun _=>.pickT r hb701 r r r .mk) (.fk 9 r (.e2 21 ?_)))))))))
     exact .nilS [80,16,15,14,49,48,47,12,10,3,2,1,0] r r (.condKT r r (.sr (.build zv34 un34 BI34 .n (by exact trivial) r r (.storeA sz34 r r (.s .z) (.t (.t (.t (.t (.t .nil))))) r r (.ks 1 r (.nilS [11,10] r r (.drop .z (.drop (.s .z) (.ret (pret results20 (.w ia34 sz34 r .z r (.t r .n)) le623 ⟨(({ Rows:=0,Cols:=0,Start:=([]:List Int),Col:=([]:List Int),Val:=([]:List Int) }:Rows),4),_,_,_,_,_,_,r,(.nil _ _ _),(.nil _ _ _),(.nil _ _ _),hd⟩))))))))))
   refine .g r r r (fun _=>.gyes r r hb701 (.fa un34 r sz3 r (o:=0) r r r .mk)) (.g r r r (fun _=>.gyes r r hb701 (.load1 ia3 r .z r r r .mk)) (.g r r r (fun _=>.gyes r r hb701 (.move r r r .mk)) (.g r r r (fun _=>.gyes r r hb701 (.move r r r .mk)) (.g r r r (fun _=>.gyes r r hb701 (.move r r r .mk)) (.ww r fun ex=>?_)))))
   have hw703:=W_part_Size (I:=I621) hd
   refine .gyes r r hb701 (.callP call56 r hw703 r r fun v704 hv705=>?_)
   obtain ⟨r702,rfl,hd⟩:=hv705
   refine .so 3 r r r (.cg r r r r (fun _=>.gyes r r hb701 (.load1 ia3 r .z r r r .mk)) (.cg r r r r (fun _=>.gyes r r hb701 (.fa un34 r sz3 r (o:=0) r r r .mk)) trivial)) (.g r r r (fun _=>.gyes r r hb701 (.ne r r r r .mk)) (.g r r r (fun _=>.pickF r hb701 r r r .mk) (.fk 1 r ?_)))
   refine splitP hd (fun hb706 hd=>?_) fun hb706 hd=>?_
   · refine .g r r r (fun _=>.gno r r hb706 r r .mk) (.g r r r (fun _=>.gno r r hb706 r r .mk) (.g r r r (fun _=>.gno r r hb706 r r .mk) (.g r r r (fun _=>.gno r r hb706 r r .mk) (.g r r r (fun _=>.gno r r hb706 r r .mk) (.g r r r (fun _=>.gno r r hb706 r r .mk) (.g r r r (fun _=>.gno r r hb706 r r .mk) (.g r r r (fun _=>.pickT r hb706 r r r .mk) (.e2 21 (.nilS [80,16,15,14,49,48,47,12,10,3,2,1,0] r r ?_)))))))))
     exact .condKT r r (.sr (.build zv34 un34 BI34 .n (by exact trivial) r r (.storeA sz34 r r (.s .z) (.t (.t (.t (.t (.t .nil))))) r r (.ks 1 r (.nilS [11,10] r r (.drop .z (.drop (.s .z) (.ret (pret results20 (.w ia34 sz34 r .z r (.t r .n)) le623 ⟨(({ Rows:=0,Cols:=0,Start:=([]:List Int),Col:=([]:List Int),Val:=([]:List Int) }:Rows),4),_,_,_,_,_,_,r,(.nil _ _ _),(.nil _ _ _),(.nil _ _ _),hd⟩)))))))))
   refine .g r r r (fun _=>.gyes r r hb706 (.fa un34 r sz3 r (o:=1) r r r .mk)) (.g r r r (fun _=>.gyes r r hb706 (.load1 ia3 r .z r r r .mk)) (.g r r r (fun _=>.gyes r r hb706 (.move r r r .mk)) (.g r r r (fun _=>.gyes r r hb706 (.move r r r .mk)) (.g r r r (fun _=>.gyes r r hb706 (.move r r r .mk)) (.ww r fun ex=>?_)))))
   have hw708:=W_part_Size (I:=I621) hd
   refine .gyes r r hb706 (.callP call56 r hw708 r r fun v709 hv710=>?_)
   obtain ⟨r707,rfl,hd⟩:=hv710
   refine .so 3 r r r (.cg r r r r (fun _=>.gyes r r hb706 (.load1 ia3 r .z r r r .mk)) (.cg r r r r (fun _=>.gyes r r hb706 (.fa un34 r sz3 r (o:=1) r r r .mk)) trivial)) (.g r r r (fun _=>.gyes r r hb706 (.ne r r r r .mk)) (.g r r r (fun _=>.pickF r hb706 r r r .mk) (.e2 21 (.nilS [80,16,15,14,49,48,47,12,10,3,2,1,0] r r (.condP r hd (fun hb711 hd=>?_) fun hb711 hd=>?_)))))
   · exact .sr (.build zv34 un34 BI34 .n (by exact trivial) r r (.storeA sz34 r r (.s .z) (.t (.t (.t (.t (.t .nil))))) r r (.ks 1 r (.nilS [11,10] r r (.drop .z (.drop (.s .z) (.ret (pret results20 (.w ia34 sz34 r .z r (.t r .n)) le623 ⟨(({ Rows:=0,Cols:=0,Start:=([]:List Int),Col:=([]:List Int),Val:=([]:List Int) }:Rows),4),_,_,_,_,_,_,r,(.nil _ _ _),(.nil _ _ _),(.nil _ _ _),hd⟩))))))))
   refine .skipS [16,15,14,49,48,47,12,10,3,2,1,0] r r (.sr (.loadW ia34 sz34 r .z r r r ?_))
   have hw735:=W_csr_Triples (I:=I621) R657 R660 R663 hd
   refine .callO call65 r hw735 r r fun v729 I726 l730 hl727 hv728=>?_
   obtain ⟨r725,p731,c732,rfl,rfl,hd⟩:=hv728
   have le736:=IH.le.trans le623 hl727
   have le737:=IH.le.trans hl622 hl727
   replace R3:=R3.mono hl727
   replace R657:=R657.mono hl727
   replace R660:=R660.mono hl727
   replace R663:=R663.mono hl727
   refine .len un24 r r r r (.ks 1 r (.nilS [85,84,83,16,15,49,48,47,12,10,3,2,1,0] r r (.drop (.s .z) (.block (.loop hd (fun (s:(List Triple)×Int) c w=>match s with | (s813,s817)=>∃ I_ p814 c815,IH.le I726 I_∧Ok ⟨117,[],none⟩ [(0,.int .i64 a0),(1,.int .i64 a1),(2,.int .i64 a2),(3,.int .i64 a3),(10,.pointer (some ⟨b15,0,none⟩)),(12,.slice p814 s813.length c815),(15,.int .i64 r674),(16,.int .i64 r678),(47,.slice p1 a4.length c2),(48,.int .i64 (a4.length:Int)),(49,.int .i64 s618),(83,.slice p731 r725.length c732),(84,.int .i64 (r725.length:Int)),(85,.int .i64 s817)] c∧Sym w0 M I I_ [pto b15 (.cells #[.int .i64 0,.int .i64 0,.slice none 0 0,.slice none 0 0,.slice none 0 0] 34 (0,0)),OwnSl eTriple 75 p814 c815 s813,OwnSl eTriple 75 p731 c732 r725] w) (fun c w ho hs=>⟨I726,_,_,(.refl _),ho.sub ⟨r,r,r,r,r,r,r,r,r,r,r,r,r,r,trivial⟩,hs.pick (.c (.s .z) (.c (.s .z) (.c .z .n)))⟩) ?_)))))
   rintro ⟨s813,s817⟩ next818 hd c w hst
   obtain ⟨I819,p814,c815,hl820,hok,hsym⟩:=hst
   have le821:=IH.le.trans le736 hl820
   have le822:=IH.le.trans le737 hl820
   replace R3:=R3.mono hl820
   refine Cod.at hok hsym (.sr (.ks 1 r (.nilS [86,85,84,83,49,48,47,16,15,12,10,3,2,1,0] r r (.seq (.condP r hd (fun hb824 hd=>?_) fun hb824 hd=>?_)))))
   · refine .skipS [85,84,83,49,48,47,16,15,12,10,3,2,1,0] r r (.seq (.block (.sr ?_)))
     obtain ⟨h832,x833,hx834,hd⟩:=hd
     refine .ownNe (.s (.s .z)) (idx_ne hx834) fun b835 e836=>?_
     cases e836
     refine .ixa0 un24 sz75 r r h832 (idx_lt hx834 h832) r r (.loA (j:=0) isAgg75 sz75 (.s (.s .z)) hx834 r r (.t (.t (.t .nil))) r r r (.allocA zv75 r r fun b837=>?_))
     refine .storeA sz75 r r .z (.t (.t (.t .nil))) r r (.nilS [18,85,84,83,49,48,47,16,15,12,10,3,2,1,0] r r (.dr [0,1,2,3,4,5,8,9,10,11,12,15,16,6,7,13,14,17,18,19] 20 (.fk 1 r (.g r r r (fun _=>.fa un75 r sz3 r (o:=0) r r r .mk) (.g r r r (fun _=>.load1 ia3 r .z r r r .mk) (.fk 3 r (.g r r r (fun _=>.fa un75 r sz3 r (o:=1) r r r .mk) (.g r r r (fun _=>.load1 ia3 r .z r r r .mk) (.fk 3 r ?_)))))))))
     refine .g r r r (fun _=>.fa un75 r sz2 r (o:=2) r r r .mk) (.g r r r (fun _=>.load1 ia2 r .z r r r .mk) (.ww r fun ex=>?_))
     have hw840:=W_part_Low (I:=I819) hd
     refine .callP call66 r hw840 r r fun v841 hv842=>?_
     obtain ⟨r839,rfl,hd⟩:=hv842
     refine .so 4 r r r (.cg r r r r (fun _=>.load1 ia2 r .z r r r .mk) (.cg r r r r (fun _=>.fa un75 r sz2 r (o:=2) r r r .mk) (.ck 3 r r (.cg r r r r (fun _=>.load1 ia3 r .z r r r .mk) (.cg r r r r (fun _=>.fa un75 r sz3 r (o:=1) r r r .mk) (.cg r r r r (fun _=>.load1 ia3 r .z r r r .mk) (.cg r r r r (fun _=>.fa un75 r sz3 r (o:=0) r r r .mk) (.ck 1 r r trivial)))))))) (.fk 1 r (.ww r fun ex=>?_))
     have hw844:=W_part_Low (I:=I819) hd
     refine .callP call66 r hw844 r r fun v845 hv846=>?_
     obtain ⟨r843,rfl,hd⟩:=hv846
     refine .so 4 r r r (.ck 1 r r (.cg r r r r (fun _=>.load1 ia2 r .z r r r .mk) (.cg r r r r (fun _=>.fa un75 r sz2 r (o:=2) r r r .mk) (.cg r r r r (fun _=>.load1 ia3 r .z r r r .mk) (.cg r r r r (fun _=>.fa un75 r sz3 r (o:=1) r r r .mk) (.cg r r r r (fun _=>.load1 ia3 r .z r r r .mk) (.cg r r r r (fun _=>.fa un75 r sz3 r (o:=0) r r r .mk) (.ck 1 r r trivial)))))))) (.fk 1 r (.g r r r (fun _=>.build zv75 un75 BI75 (.c r r r (.t .nil) (.c r r r (.s (.t .nil)) (.c r r r (.s (.s (.t .nil))) .n))) (by exact ⟨⟨_,_,r,r,r⟩,⟨⟨_,_,r,r,r⟩,⟨⟨_,_,r,r,r⟩,trivial⟩⟩⟩) r r .mk) (.ww r fun ex=>?_)))
     refine .buildSlice 1 un24 sz75 zv75 r r (.c r r r .n) r r fun b847=>?_
     refine .so 5 r r r (.ck 1 r r trivial) (.ww r fun ex=>?_)
     obtain ⟨hl849,hd⟩:=hd
     refine .append (ys:=[({ Row:=w64 (x833.Row+r839),Col:=w64 (x833.Col+r843),Val:=x833.Val }:Triple)]) 24 (.s (.s (.s .z))) un24 un24 IN75 r r r r r r r r r (.box .z (.one r) r) hl849 r r fun p850 c851=>?_
     exact .so 5 r r r trivial (.e2 20 (.ks 1 r (.nilS [12,85,84,83,49,48,47,16,15,10,3,2,1,0] r r (.drop (.s .z) (.drop (.s .z) (.region (.ks 2 r (.nil' fun c w ho hs=>⟨((s813++([({ Row:=w64 (x833.Row+r839),Col:=w64 (x833.Col+r843),Val:=x833.Val }:Triple)])),w64 (s817+1)),hd,I819,_,_,hl820,ho.sub ⟨r,r,r,r,r,r,r,r,r,r,r,r,r,r,trivial⟩,hs.pick (.c (.s .z) (.c .z (.c .z .n)))⟩))))))))
   exact .exitS [49,48,47,12,10,3,2,1,0] r r (.drop (.s (.s .z)) (.region (.ks 2 r (.nil' fun c w ho hs=>⟨(s813,w64 (s618+1)),hd,I819,_,_,le822,ho.sub ⟨r,r,r,r,r,r,r,r,r,trivial⟩,hs.pick (.c .z (.c .z .n))⟩))))
 refine .exitS [12,10,1,0] r r (.sr (.ks 3 r (.pub (.s .z) fun I853 hl854 R855=>?_)))
 have le856:=IH.le.trans le623 hl854
 have le857:=IH.le.trans hl622 hl854
 have hw873:=W_csr_Of (I:=I853) R855 hd
 refine .call call67 r hw873 r r fun v862 I859 hl860 hv861=>?_
 obtain ⟨r858,p864,c865,p867,c868,p870,c871,rfl,R866,R869,R872,hd⟩:=hv861
 have le874:=IH.le.trans le856 hl860
 have le875:=IH.le.trans le857 hl860
 replace R855:=R855.mono hl860
 exact .ks 2 r (.storeA sz34 r r .z (.t (.t (.t (.t (.t .nil))))) r r (.ks 1 r (.nilS [11,10] r r (.ret (pret results20 (.w ia34 sz34 r .z r (.t r .n)) le874 ⟨(r858.1,r858.2),_,_,_,_,_,_,r,R866,R869,R872,hd⟩)))))
theorem W_spvec_Glue_1_53d {I:IH} {o0:Int} {a0:Item} {b2:Nat} {Q:Item→Prop}  (hd:spvec_Glue_1_53d o0 a0 Q) :
  Fun prog 149 #[.agg (encItem a0).toArray,.pointer (some ⟨b2,0,none⟩)] I [pto b2 (.cells #[.int .i64 o0] 3 (0,0))] (fun I_ v l=>∃ r,v=.agg (encItem r).toArray∧l=[pto b2 (.cells #[.int .i64 o0] 3 (0,0))]∧Q r):=by
 refine Fun.enter (vs:=[.agg (encItem a0).toArray,.pointer (some ⟨b2,0,none⟩)]) func149 r ntmps149 r (.c (.c .n)) fun w0 M=>?_
 refine .sr (.boxA r r r fun b3=>?_)
 refine .allocA zv72 r r fun b5=>?_
 refine .nilS [3,2,1] r r (.sr (.load1 ia3 r (.s (.s .z)) r r r (.fa un72 r sz3 r (o:=0) r r r (.load1 ia3 r (.s .z) r r r (.ks 1 r (.fa un72 r sz2 r (o:=1) r r r (.load1 ia2 r (.s .z) r r r (.build zv72 un72 BI72 (.c r r r (.t .nil) (.c r r r (.s (.t .nil)) .n)) (by exact ⟨⟨_,_,r,r,r⟩,⟨⟨_,_,r,r,r⟩,trivial⟩⟩) r r (.storeA sz72 r r .z (.t (.t .nil)) r r ?_)))))))))
 exact .nilS [3,1] r r (.drop (.s .z) (.ret (oret results149 (.w ia72 sz72 r .z r .n) (.refl _) (.c (.s .z) .n) ⟨({ At:=w64 (o0+a0.At),Val:=a0.Val }:Item),r,r,hd⟩)))
theorem W_spvec_each_2bc {I:IH} {o0:Int} {a0:Vec} {b2:Nat} {p3:Option Addr} {c4:Nat} {Q:Vec→Prop} (R5:RepSl eItem I p3 c4 a0.Items) (hd:spvec_each_2bc o0 a0 Q) :
  Fun prog 103 #[.agg #[.int .i64 a0.N,.slice p3 a0.Items.length c4],.func (.func 149) #[] #[.pointer (some ⟨b2,0,none⟩)]] I [pto b2 (.cells #[.int .i64 o0] 3 (0,0))] (fun I_ v l=>∃ r p6 c7,v=.agg #[.int .i64 r.N,.slice p6 r.Items.length c7]∧RepSl eItem I_ p6 c7 r.Items∧l=[pto b2 (.cells #[.int .i64 o0] 3 (0,0))]∧Q r):=by
 refine Fun.enter (vs:=[.agg #[.int .i64 a0.N,.slice p3 a0.Items.length c4],.func (.func 149) #[] #[.pointer (some ⟨b2,0,none⟩)]]) func103 r ntmps103 r (.c (.c .n)) fun w0 M=>?_
 refine .sr (.boxA r r r fun b10=>?_)
 refine .allocA zv37 r r fun b12=>?_
 refine .nilS [4,2,1] r r (.sr (.loadW ia37 sz37 r (.s .z) r r r ?_))
 have hw33:=W_spvec_sure (I:=I) R5 hd
 refine .call call101 r hw33 r r fun v28 I25 hl26 hv27=>?_
 obtain ⟨r24,p30,c31,rfl,R32,hd⟩:=hv27
 replace R5:=R5.mono hl26
 refine .storeA sz37 r r (.s .z) (.t (.t .nil)) r r (.nilS [4,2,1] r r (.seq (.dr [0,1,2,3,6,4,5,999] 7 (.g r r r (fun _=>.fa un37 r sz3 r (o:=0) r r r .mk) (.g r r r (fun _=>.load1 ia3 r (.s .z) r r r .mk) (.g r r r (fun _=>.fa un37 r sz25 r (o:=1) r r r .mk) (.g r r r (fun _=>.load1 ia25 r (.s .z) r r r .mk) (.a (fun b=>.pointer (some ⟨b,0,none⟩)) (fun b=>pto b (.cells #[.int .i64 0,.slice none 0 0] 37 (0,0))) r r r r (fun _ L hL ex=>.allocA zv37 r r fun b=>.mk (val:=fun b=>.pointer (some ⟨b,0,none⟩)) (atom:=fun b=>pto b (.cells #[.int .i64 0,.slice none 0 0] 37 (0,0))) hL b) (.ww r fun ex=>?_)))))))))
 have hw59:=W_slices_Clone_api_Item_api_Item (I:=I25) R32 hd
 refine .callO call142 r hw59 r r fun v53 I50 l54 hl51 hv52=>?_
 obtain ⟨r49,p55,c56,rfl,rfl,hd⟩:=hv52
 have le60:=IH.le.trans hl26 hl51
 replace R32:=R32.mono hl51
 refine .so 4 r r r (.cg r r r r (fun _=>.load1 ia3 r (.s (.s .z)) r r r .mk) (.cg r r r r (fun _=>.fa un37 r sz3 r (o:=0) r r r .mk) trivial)) (.g r r r (fun _=>.build zv37 un37 BI37 (.c r r r (.t .nil) (.c r r r (.s (.t .nil)) .n)) (by exact ⟨⟨_,_,r,r,r⟩,⟨⟨_,_,r,r,r⟩,trivial⟩⟩) r r .mk) (.b r fun b61=>DrawD.nop (.e2 7 (.storeA sz37 r r (.s (.s (.s (.s .z)))) (.t (.t .nil)) r r (.nilS [5,4,1] r r (.drop (.s (.s .z)) (.seq (.sr (.fa un37 r sz25 r (o:=1) r r r ?_)))))))))
 refine .load1 ia25 r (.s (.s (.s .z))) r r r (.len un25 r r r r (.ks 1 r (.nilS [19,18,17,5,4,1] r r (.block (.loop hd (fun (s:(List Item)×Int) c w=>match s with | (s120,s125)=>∃ I_ p121 c122,IH.le I50 I_∧Ok ⟨33,[],none⟩ [(1,.func (.func 149) #[] #[.pointer (some ⟨b2,0,none⟩)]),(4,.pointer (some ⟨b12,0,none⟩)),(5,.pointer (some ⟨b61,0,none⟩)),(17,.slice p121 s120.length c122),(18,.int .i64 (r49.length:Int)),(19,.int .i64 s125)] c∧Sym w0 M I I_ [pto b2 (.cells #[.int .i64 o0] 3 (0,0)),pto b12 (.cells #[.int .i64 0,.slice none 0 0] 37 (0,0)),pto b61 (.cells #[.int .i64 r24.N,.slice p121 s120.length c122] 37 (0,0)),OwnSl eItem 72 p121 c122 s120] w) (fun c w ho hs=>⟨I50,_,_,(.refl _),ho.sub ⟨r,r,r,r,r,r,trivial⟩,hs.pick (.c (.s (.s .z)) (.c (.s .z) (.c (.s .z) (.c .z .n))))⟩) ?_)))))
 rintro ⟨s120,s125⟩ next126 hd c w hst
 obtain ⟨I127,p121,c122,hl128,hok,hsym⟩:=hst
 have le129:=IH.le.trans le60 hl128
 refine Cod.at hok hsym (.sr (.ks 1 r (.nilS [20,19,18,17,5,4,1] r r (.seq (.condP r hd (fun hb131 hd=>?_) fun hb131 hd=>?_)))))
 · refine .skipS [19,18,17,5,4,1] r r (.seq (.block (.sr (.ks 1 r ?_))))
   obtain ⟨h132,x133,hx134,hd⟩:=hd
   refine .ownNe (.s (.s (.s .z))) (idx_ne hx134) fun b135 e136=>?_
   cases e136
   refine .ixa0 un25 sz72 r r h132 (idx_lt hx134 h132) r r (.loA (j:=0) ia72 sz72 (.s (.s (.s .z))) hx134 r r (.t (.t .nil)) r r r (.allocA zv72 r r fun b137=>?_))
   refine .ks 1 r (.storeA sz72 r r .z (.t (.t .nil)) r r (.nilS [6,7,19,18,17,5,4,1] r r (.dr [0,1,2,3,4,5] 6 (.g r r r (fun _=>.fa un37 r sz25 r (o:=1) r r r .mk) (.g r r r (fun _=>.load1 ia25 r (.s (.s (.s .z))) r r r .mk) (.fk 2 r (.g r r r (fun _=>.loadW ia72 sz72 r .z r r r .mk) (.ww r fun ex=>?_))))))))
   have hw139:=W_spvec_Glue_1_53d (I:=I127) (o0:=o0) (a0:=x133) (b2:=b2) hd
   refine .callS (.c call149 r r) (.c (.s .z) .n) hw139 r r fun v143 I140 l144 hl141 hv142=>?_
   obtain ⟨r145,rfl,rfl,hd⟩:=hv142
   have le146:=IH.le.trans le129 hl141
   have le147:=IH.le.trans hl128 hl141
   refine .re (m':=(pto b2 (.cells #[.int .i64 o0] 3 (0,0))) :: (pto b137 (.cells #[.int .i64 x133.At,.int .i64 x133.Val] 72 (0,0))) :: (pto b12 (.cells #[.int .i64 0,.slice none 0 0] 37 (0,0))) :: (pto b61 (.cells #[.int .i64 r24.N,.slice (some ⟨b135,0,none⟩) s120.length c122] 37 (0,0))) :: (OwnSl eItem 72 (some ⟨b135,0,none⟩) c122 s120) :: ex) r (.so 5 r r r (.ck 1 r r (.cg r r r r (fun _=>.load1 ia25 r (.s (.s (.s .z))) r r r .mk) (.cg r r r r (fun _=>.fa un37 r sz25 r (o:=1) r r r .mk) trivial))) (.e2 6 ?_))
   obtain ⟨h148,x149,hx150,hd⟩:=hd
   exact .ixa0 un25 sz72 r r h148 (idx_lt hx150 h148) r r (.stOA (j:=0) (v':=r145) sz72 (.s (.s (.s (.s .z)))) hx150 r r r (.t (.t .nil)) r r (.sub (E':=[(1,_),(4,_),(5,_),(17,.slice (some ⟨b135,0,none⟩) (s120.set s125.toNat r145).length c122),(18,_),(19,_),(7,_),(6,_),(24,_),(25,.slice (some ⟨b135,0,none⟩) (s120.set s125.toNat r145).length c122),(26,_),(27,_),(28,_),(29,_),(30,_)]) ⟨r,r,r,(by simp only [List.length_set]; rfl),r,r,r,r,r,(by simp only [List.length_set]; rfl),r,r,r,r,r,trivial⟩ (.reat (.s (.s (.s .z))) (B:=pto b61 (.cells #[.int .i64 r24.N,.slice (some ⟨b135,0,none⟩) (s120.set s125.toNat r145).length c122] 37 (0,0))) (by simp only [List.length_set]) (.nilS [19,18,17,5,4,1] r r (.drop (.s .z) (.region (.ks 2 r (.nil' fun c w ho hs=>⟨((s120.set s125.toNat r145),w64 (s125+1)),hd,I140,_,_,le147,ho.sub ⟨r,r,r,r,r,r,trivial⟩,hs.pick (.c .z (.c .z (.c .z (.c .z .n))))⟩))))))))
 refine .exitS [5,4,1] r r (.sr (.loadW ia37 sz37 r (.s (.s .z)) r r r (.storeA sz37 r r (.s .z) (.t (.t .nil)) r r (.nilS [4,1] r r (.drop (.s (.s .z)) (.pub (.s (.s .z)) fun I151 hl152 R153=>?_))))))
 have le154:=IH.le.trans le129 hl152
 have le155:=IH.le.trans hl128 hl152
 exact .ret (oret results103 (.w ia37 sz37 r (.s .z) r .n) le154 (.c .z .n) ⟨({ N:=r24.N,Items:=s120 }:Vec),_,_,r,R153,r,hd⟩)
theorem W_spvec_Glue {I:IH} {a0:List Vec} {p1:Option Addr} {c2:Nat} {Q:(Vec×Int)→Prop} (R3:RepSl eVec I p1 c2 a0) (hd:spvec_Glue a0 Q) :
  PFun prog 111 [.slice p1 a0.length c2] I (o7_ Q):=by
 refine Fun.enter func111 r ntmps111 r (.c .n) fun w0 M=>?_
 refine .sr (.allocA zv37 r r fun b9=>?_)
 refine .ks 1 r (.nilS [2,0] r r (.sr (.allocA zv37 r r fun b13=>?_)))
 refine .nilS [4,2,0] r r (.seq (.sr (.ks 1 r (.len un47 r r r r (.ks 1 r (.nilS [10,9,8,4,2] r r (.block (.own0 eItem 72 (.loop hd (fun (s:Int×(List Item)×Int) c w=>match s with | (s154,s155,s159)=>∃ I_ p156 c157,IH.le I I_∧Ok ⟨39,[],none⟩ [(2,.pointer (some ⟨b9,0,none⟩)),(4,.pointer (some ⟨b13,0,none⟩)),(8,.slice p1 a0.length c2),(9,.int .i64 (a0.length:Int)),(10,.int .i64 s159)] c∧Sym w0 M I I_ [pto b9 (.cells #[.int .i64 0,.slice none 0 0] 37 (0,0)),pto b13 (.cells #[.int .i64 s154,.slice p156 s155.length c157] 37 (0,0)),OwnSl eItem 72 p156 c157 s155] w) (fun c w ho hs=>⟨I,_,_,(.refl _),ho.sub ⟨r,r,r,r,r,trivial⟩,hs.pick (.c (.s (.s .z)) (.c (.s .z) (.c .z .n)))⟩) ?_)))))))))
 rintro ⟨s154,s155,s159⟩ next161 hd c w hst
 obtain ⟨I162,p156,c157,hl163,hok,hsym⟩:=hst
 replace R3:=R3.mono hl163
 refine Cod.at hok hsym (.sr (.ks 1 r (.nilS [11,10,9,8,4,2] r r (.seq (.condP r hd (fun hb165 hd=>?_) fun hb165 hd=>?_)))))
 · refine .skipS [10,9,8,4,2] r r (.seq (.block (.sr ?_)))
   obtain ⟨h180,x181,hx182,hd⟩:=hd
   obtain ⟨b183,o184,cs185,e186,hC187,hr188⟩:=R3.2 _ _ hx182
   obtain ⟨p189,c190,rfl,R191⟩:=hr188
   refine .ixa un47 sz37 r e186 r h180 (idx_lt hx182 h180) r r (.ldW ia37 sz37 hC187 r r r r (.allocA zv37 r r fun b192=>?_))
   refine .storeA sz37 r r .z (.t (.t .nil)) r r (.nilS [6,10,9,8,4,2] r r (.sr (.fa un37 r sz3 r (o:=0) r r r (.load1 ia3 r (.s (.s .z)) r r r (.alloc1 zv3 r r r fun b196=>?_)))))
   refine .store1 sz3 r r .z (.t .nil) r (.nilS [7,6,10,9,8,4,2] r r (.sr (.loadW ia37 sz37 r (.s .z) r r r (.mkFn r r r r ?_))))
   have hw209:=W_spvec_each_2bc (I:=I162) (o0:=s154) (a0:=x181) (b2:=b196) R191 hd
   refine .callS (.f call103 r) (.c .z .n) hw209 r r fun v213 I210 l214 hl211 hv212=>?_
   obtain ⟨r215,p216,c217,rfl,R218,rfl,hd⟩:=hv212
   have le219:=IH.le.trans hl163 hl211
   replace R3:=R3.mono hl211
   replace R191:=R191.mono hl211
   refine .re (m':=[pto b196 (.cells #[.int .i64 s154] 3 (0,0)),pto b192 (.cells #[.int .i64 x181.N,.slice p189 x181.Items.length c190] 37 (0,0)),pto b9 (.cells #[.int .i64 0,.slice none 0 0] 37 (0,0)),pto b13 (.cells #[.int .i64 s154,.slice p156 s155.length c157] 37 (0,0)),OwnSl eItem 72 p156 c157 s155]) r (.storeA sz37 r r (.s .z) (.t (.t .nil)) r r (.nilS [6,10,9,8,4,2] r r (.drop .z (.seq (.sr (.fa un37 r sz3 r (o:=0) r r r (.load1 ia3 r .z r r r (.fa un37 r sz3 r (o:=0) r r r (.load1 ia3 r (.s (.s .z)) r r r ?_)))))))))
   refine .ks 2 r (.nilS [24,6,10,9,8,4,2] r r (.condP r hd (fun hb221 hd=>?_) fun hb221 hd=>?_))
   · exact .sr (.build zv37 un37 BI37 .n (by exact trivial) r r (.storeA sz37 r r (.s .z) (.t (.t .nil)) r r (.ks 1 r (.nilS [3,2] r r (.drop .z (.drop (.s .z) (.drop (.s .z) (.ret (pret results111 (.w ia37 sz37 r .z r (.t r .n)) le219 ⟨(({ N:=0,Items:=([]:List Item) }:Vec),5),_,_,r,(.nil _ _ _),hd⟩)))))))))
   refine .skipS [6,10,9,8,4,2] r r (.dr [0,1,2,3,4,5,6,7,8,9,10] 11 (.g r r r (fun _=>.fa un37 r sz3 r (o:=0) r r r .mk) (.g r r r (fun _=>.load1 ia3 r (.s (.s .z)) r r r .mk) (.g r r r (fun _=>.fa un37 r sz3 r (o:=0) r r r .mk) (.g r r r (fun _=>.load1 ia3 r .z r r r .mk) (.fk 1 r (.g r r r (fun _=>.fa un37 r sz25 r (o:=1) r r r .mk) (.g r r r (fun _=>.load1 ia25 r (.s (.s .z)) r r r .mk) (.g r r r (fun _=>.fa un37 r sz25 r (o:=1) r r r .mk) ?_)))))))))
   refine .g r r r (fun _=>.load1 ia25 r .z r r r .mk) (.ww r fun ex=>?_)
   obtain ⟨hl222,hd⟩:=hd
   refine .append (ys:=r215.Items) 16 (.s (.s (.s .z))) un25 un25 IN72 r r r r r r r r r (.imm R218 r) hl222 r r fun p223 c224=>?_
   exact .so 4 r r r (.ck 1 r r (.cg r r r r (fun _=>.load1 ia3 r (.s .z) r r r .mk) (.cg r r r r (fun _=>.fa un37 r sz3 r (o:=0) r r r .mk) (.cg r r r r (fun _=>.load1 ia3 r (.s (.s (.s .z))) r r r .mk) (.cg r r r r (fun _=>.fa un37 r sz3 r (o:=0) r r r .mk) trivial))))) (.g r r r (fun _=>.build zv37 un37 BI37 (.c r r r (.t .nil) (.c r r r (.s (.t .nil)) .n)) (by exact ⟨⟨_,_,r,r,r⟩,⟨⟨_,_,r,r,r⟩,trivial⟩⟩) r r .mk) (.e2 11 (.storeA sz37 r r (.s (.s (.s .z))) (.t (.t .nil)) r r (.nilS [10,9,8,4,2] r r (.drop (.s .z) (.region (.ks 2 r (.nil' fun c w ho hs=>⟨(w64 (s154+r215.N),(s155++r215.Items),w64 (s159+1)),hd,I210,_,_,le219,ho.sub ⟨r,r,r,r,r,trivial⟩,hs.pick (.c (.s .z) (.c (.s .z) (.c .z .n)))⟩))))))))
 refine .exitS [4,2] r r (.sr (.loadW ia37 sz37 r (.s .z) r r r (.storeA sz37 r r .z (.t (.t .nil)) r r (.ks 1 r (.nilS [3,2] r r (.drop (.s .z) (.pub (.s .z) fun I226 hl227 R228=>?_)))))))
 have le229:=IH.le.trans hl163 hl227
 exact .ret (pret results111 (.w ia37 sz37 r .z r (.t r .n)) le229 ⟨(({ N:=s154,Items:=s155 }:Vec),0),_,_,r,R228,hd⟩)
theorem W_block_Glue_1_d22 {I:IH} {o0:Int} {o1:Int} {a0:Int} {b3:Nat} {b4:Nat} {Q:Int→Prop}  (hd:block_Glue_1_d22 o0 o1 a0 Q) :
  Fun prog 70 #[.int .i64 a0,.pointer (some ⟨b3,0,none⟩),.pointer (some ⟨b4,0,none⟩)] I [pto b3 (.cells #[.int .i64 o0] 3 (0,0)),pto b4 (.cells #[.int .i64 o1] 3 (0,0))] (fun I_ v l=>∃ r,v=.int .i64 r∧l=[pto b3 (.cells #[.int .i64 o0] 3 (0,0)),pto b4 (.cells #[.int .i64 o1] 3 (0,0))]∧Q r):=by
 refine Fun.enter (vs:=[.int .i64 a0,.pointer (some ⟨b3,0,none⟩),.pointer (some ⟨b4,0,none⟩)]) func70 r ntmps70 r (.c (.c (.c .n))) fun w0 M=>?_
 refine .sr (.ks 1 r (.nilS [2,1,0] r r (.sr (.load1 ia3 r .z r r r (.load1 ia3 r (.s .z) r r r (.ks 1 r ?_))))))
 have hw6:=W_part_Size (I:=I) hd
 refine .callP call56 r hw6 r r fun v7 hv8=>?_
 obtain ⟨r5,rfl,hd⟩:=hv8
 exact .ks 1 r (.nilS [4,2,1] r r (.ret (oret results70 (.t r .n) (.refl _) (.c .z (.c .z .n)) ⟨r5,r,r,hd⟩)))
end Go.Proofs.YtpackolbhcmomaaGreat
