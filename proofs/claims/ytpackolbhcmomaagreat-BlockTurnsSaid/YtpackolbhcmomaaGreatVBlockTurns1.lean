/- The walks (printed by a program of ours). -/
import Derived.Test.YtpackolbhcmomaaGreatV2
namespace Go.Proofs.YtpackolbhcmomaaGreat
open Go Go.Fw
set_option linter.unusedVariables false
set_option linter.unusedSimpArgs false
set_option maxRecDepth 8000
set_option maxHeartbeats 1000000
open Tryz
theorem W_law07_Size {I:IH} {a0:Int} {Q:Int→Prop}  (hd:law07_Size a0 Q) :
  PFun prog 36 [.int .u8 a0] I (fun _=>o0_ Q):=by
 refine Fun.enter func36 r ntmps36 r (.c .n) fun w0 M=>?_
 exact .sr (.ks 1 r (.nilS [0] r r (.sr (.ks 1 r (.conv underlying5 un3 r r r (.rem r r (by decide) r r (.ks 1 r (.nilS [2] r r (.ret (pret results36 (.t r .n) (.refl _) ⟨((w64 (a0)).tmod 40),r,hd⟩))))))))))
theorem W_law13_Right {I:IH} {a0:Int} {Q:Int→Prop}  (hd:law13_Right a0 Q) :
  PFun prog 33 [.int .i64 a0] I (fun _=>o0_ Q):=by
 refine Fun.enter func33 r ntmps33 r (.c .n) fun w0 M=>?_
 refine .sr (.ks 1 r (.nilS [0] r r (.seq (.sr (.ks 3 r ?_)))))
 refine splitP hd (fun hb1 hd=>?_) fun hb1 hd=>?_
 · rw [hb1]
   exact .ks 3 r (.nilS [8,0] r r (.condKT r r (.sr (.ks 1 r (.nilS [2] r r (.ret (pret results33 (.t r .n) (.refl _) ⟨1,r,hd⟩)))))))
 rw [hb1]
 refine .ks 3 r (.nilS [8,0] r r (.condP r hd (fun hb2 hd=>?_) fun hb2 hd=>?_))
 · exact .sr (.ks 1 r (.nilS [2] r r (.ret (pret results33 (.t r .n) (.refl _) ⟨1,r,hd⟩))))
 exact .skipS [0] r r (.sr (.ks 2 r (.nilS [2] r r (.ret (pret results33 (.t r .n) (.refl _) ⟨a0,r,hd⟩)))))
theorem W_law02_Value {I:IH} {a0:Int} {a1:Int} {Q:Int→Prop}  (hd:law02_Value a0 a1 Q) :
  PFun prog 37 [.int .i64 a0,.int .i64 a1] I (fun _=>o0_ Q):=by
 refine Fun.enter func37 r ntmps37 r (.c (.c .n)) fun w0 M=>?_
 refine .sr (.ks 1 r (.nilS [1,0] r r (.sr (.ks 1 r (.nilS [5,1] r r (.block (.sr (.ks 2 r (.nilS [12,5,1] r r ?_)))))))))
 refine .condP r hd (fun hb1 hd=>?_) fun hb1 hd=>?_
 · exact .sr (.ks 2 r (.nilS [4] r r (.ret (pret results37 (.t r .n) (.refl _) ⟨a1,r,hd⟩))))
 refine .sr (.ks 2 r (.nilS [15,1] r r (.condP r hd (fun hb2 hd=>?_) fun hb2 hd=>?_)))
 · exact .sr (.ks 3 r (.nilS [4] r r (.ret (pret results37 (.t r .n) (.refl _) ⟨(bnd .i64 a1 1),r,hd⟩))))
 refine .sr (.ks 3 r (.nilS [1] r r (.seq (.sr (.ks 1 r (.rem r r (by decide) r r (.ks 1 r (.nilS [10,1] r r (.condP r hd (fun hb3 hd=>?_) fun hb3 hd=>?_)))))))))
 · exact .sr (.ks 1 r (.nilS [4] r r (.ret (pret results37 (.t r .n) (.refl _) ⟨4611686018427387904,r,hd⟩))))
 exact .skipS [1] r r (.sr (.ks 2 r (.nilS [4] r r (.ret (pret results37 (.t r .n) (.refl _) ⟨(bnd .i64 a1 4611686018427387903),r,hd⟩)))))
theorem W_ref09_Of {I:IH} {a0:Int} {a1:Int} {a2:List Item} {p1:Option Addr} {c2:Nat} {Q:(Vec×Int)→Prop} (R3:RepSl eItem I p1 c2 a2) (hd:ref09_Of a0 a1 a2 Q) :
  PFun prog 87 [.int .i64 a0,.int .i64 a1,.slice p1 a2.length c2] I (o7_ Q):=by
 refine Fun.enter func87 r ntmps87 r (.c (.c (.c .n))) fun w0 M=>?_
 refine .sr (.allocA zv37 r r fun b9=>?_)
 refine .ks 1 r (.nilS [6,2,1,0] r r (.seq (.sr (.ks 1 r ?_))))
 have hw17:=W_ref02_Is (I:=I) hd
 refine .callP call77 r hw17 r r fun v18 hv19=>?_
 obtain ⟨r16,rfl,hd⟩:=hv19
 refine .ks 1 r (.nilS [15,6,2,1,0] r r (.condP r hd (fun hb20 hd=>?_) fun hb20 hd=>?_))
 · exact .sr (.build zv37 un37 BI37 .n (by exact trivial) r r (.storeA sz37 r r .z (.t (.t .nil)) r r (.ks 1 r (.nilS [7,6] r r (.ret (pret results87 (.w ia37 sz37 r .z r (.t r .n)) (.refl _) ⟨(({ N:=0,Items:=([]:List Item) }:Vec),8),_,_,r,(.nil _ _ _),hd⟩))))))
 refine .skipS [6,2,1,0] r r (.seq (.sr (.ks 3 r ?_)))
 refine splitP hd (fun hb23 hd=>?_) fun hb23 hd=>?_
 · rw [hb23]
   exact .ks 3 r (.nilS [22,6,2,1,0] r r (.condKT r r (.sr (.build zv37 un37 BI37 .n (by exact trivial) r r (.storeA sz37 r r .z (.t (.t .nil)) r r (.ks 1 r (.nilS [7,6] r r (.ret (pret results87 (.w ia37 sz37 r .z r (.t r .n)) (.refl _) ⟨(({ N:=0,Items:=([]:List Item) }:Vec),3),_,_,r,(.nil _ _ _),hd⟩)))))))))
 rw [hb23]
 refine .ks 3 r (.nilS [22,6,2,1,0] r r (.condP r hd (fun hb24 hd=>?_) fun hb24 hd=>?_))
 · exact .sr (.build zv37 un37 BI37 .n (by exact trivial) r r (.storeA sz37 r r .z (.t (.t .nil)) r r (.ks 1 r (.nilS [7,6] r r (.ret (pret results87 (.w ia37 sz37 r .z r (.t r .n)) (.refl _) ⟨(({ N:=0,Items:=([]:List Item) }:Vec),3),_,_,r,(.nil _ _ _),hd⟩))))))
 refine .skipS [6,2,1,0] r r (.sr (.ks 1 r (.nilS [8,6,2,1,0] r r (.seq (.sr (.ks 1 r (.nilS [9,8,6,2,1,0] r r (.block (.own0 eEdge 123 ?_)))))))))
 refine .loop hd (fun (s:(List Edge)×Int) c w=>match s with | (s399,s403)=>∃ I_ p400 c401,IH.le I I_∧Ok ⟨95,[],none⟩ [(0,.int .i64 a0),(1,.int .i64 a1),(2,.slice p1 a2.length c2),(6,.pointer (some ⟨b9,0,none⟩)),(8,.slice p400 s399.length c401),(9,.int .i64 s403)] c∧Sym w0 M I I_ [pto b9 (.cells #[.int .i64 0,.slice none 0 0] 37 (0,0)),OwnSl eEdge 123 p400 c401 s399] w) (fun c w ho hs=>⟨I,_,_,(.refl _),ho.sub ⟨r,r,r,r,r,r,trivial⟩,hs.pick (.c (.s .z) (.c .z .n))⟩) ?_
 rintro ⟨s399,s403⟩ next405 hd c w hst
 obtain ⟨I406,p400,c401,hl407,hok,hsym⟩:=hst
 replace R3:=R3.mono hl407
 refine Cod.at hok hsym (.seq (.sr (.ks 2 r (.len un25 r r r r (.ks 1 r (.nilS [27,9,8,6,2,1,0] r r (.condP r hd (fun hb409 hd=>?_) fun hb409 hd=>?_)))))))
 · refine .skipS [9,8,6,2,1,0] r r (.seq (.block (.seq (.sr (.ks 2 r ?_)))))
   obtain ⟨h430,x431,hx432,hd⟩:=hd
   obtain ⟨b433,o434,cs435,e436,hC437,hr438⟩:=R3.2 _ _ hx432
   cases hr438
   refine .ixa un25 sz72 r e436 r h430 (idx_lt hx432 h430) r r (.fa un72 r sz3 r (o:=o434+s403.toNat*2) r r r (.ld1 (j:=0) ia3 hC437 r r r r r (.ks 2 r ?_)))
   refine splitP hd (fun hb439 hd=>?_) fun hb439 hd=>?_
   · rw [hb439]
     exact .ks 8 r (.nilS [44,9,8,6,2,1,0] r r (.condKT r r (.sr (.build zv37 un37 BI37 .n (by exact trivial) r r (.storeA sz37 r r .z (.t (.t .nil)) r r (.ks 1 r (.nilS [7,6] r r (.drop (.s .z) (.ret (pret results87 (.w ia37 sz37 r .z r (.t r .n)) hl407 ⟨(({ N:=0,Items:=([]:List Item) }:Vec),3),_,_,r,(.nil _ _ _),hd⟩))))))))))
   rw [hb439]
   refine .ks 2 r ?_
   obtain ⟨h440,x441,hx442,hd⟩:=hd
   obtain ⟨b443,o444,cs445,e446,hC447,hr448⟩:=R3.2 _ _ hx442
   cases hr448
   refine .gyes r r r (.ixa un25 sz72 r e446 r h440 (idx_lt hx442 h440) r r (.gyes r r r (.fa un72 r sz3 r (o:=o444+s403.toNat*2) r r r (.gyes r r r (.ld1 (j:=0) ia3 hC447 r r r r r (.ks 3 r (.nilS [44,9,8,6,2,1,0] r r (.condP r hd (fun hb449 hd=>?_) fun hb449 hd=>?_))))))))
   · exact .sr (.build zv37 un37 BI37 .n (by exact trivial) r r (.storeA sz37 r r .z (.t (.t .nil)) r r (.ks 1 r (.nilS [7,6] r r (.drop (.s .z) (.ret (pret results87 (.w ia37 sz37 r .z r (.t r .n)) hl407 ⟨(({ N:=0,Items:=([]:List Item) }:Vec),3),_,_,r,(.nil _ _ _),hd⟩)))))))
   refine .skipS [9,8,6,2,1,0] r r (.ownF (.s .z) fun hne450=>?_)
   refine .dr [0,1,2,3,4,5,6,7,8,9,10,11,12,13] 14 (.fk 3 r ?_)
   obtain ⟨h451,x452,hx453,hd⟩:=hd
   obtain ⟨b454,o455,cs456,e457,hC458,hr459⟩:=R3.2 _ _ hx453
   cases hr459
   refine .g r r r (fun _=>.ixa un25 sz72 r e457 r h451 (idx_lt hx453 h451) r r .mk) (.g r r r (fun _=>.fa un72 r sz3 r (o:=o455+s403.toNat*2) r r r .mk) (.g r r r (fun _=>.ld1 (j:=0) ia3 hC458 r r r r r .mk) (.fk 2 r ?_)))
   obtain ⟨h460,x461,hx462,hd⟩:=hd
   obtain ⟨b463,o464,cs465,e466,hC467,hr468⟩:=R3.2 _ _ hx462
   cases hr468
   refine .g r r r (fun _=>.ixa un25 sz72 r e466 r h460 (idx_lt hx462 h460) r r .mk) (.g r r r (fun _=>.fa un72 r sz2 r (o:=o464+s403.toNat*2+1) r r r .mk) (.g r r r (fun _=>.ld1 (j:=1) ia2 hC467 r r r r r .mk) (.g r r r (fun _=>.build zv123 un123 BI123 (.c r r r (.s (.t .nil)) (.c r r r (.s (.s (.t .nil))) .n)) (by exact ⟨⟨_,_,r,r,r⟩,⟨⟨_,_,r,r,r⟩,trivial⟩⟩) r r .mk) (.ww r fun ex=>?_))))
   refine .buildSlice 1 un121 sz123 zv123 r r (.c r r r .n) r r fun b469=>?_
   refine .so 3 r r r (.ck 1 r r trivial) (.ww r fun ex=>?_)
   obtain ⟨hl471,hd⟩:=hd
   refine .append (ys:=[({ From:=0,To:=x452.At,W:=x461.Val }:Edge)]) 24 (.s (.s .z)) un121 un121 IN123 r r r r r r r r r (.box .z (.one r) r) hl471 r r fun p472 c473=>?_
   exact .so 3 r r r trivial (.e2 14 (.ks 1 r (.nilS [8,9,6,2,1,0] r r (.drop (.s .z) (.region (.ks 3 r (.nil' fun c w ho hs=>⟨((s399++([({ From:=0,To:=x452.At,W:=x461.Val }:Edge)])),w64 (s403+1)),hd,I406,_,_,hl407,ho.sub ⟨r,r,r,r,r,r,trivial⟩,hs.pick (.c (.s .z) (.c .z .n))⟩)))))))
 refine .exitS [8,6,1,0] r r (.sr (.ks 2 r (.pub (.s .z) fun I490 hl491 R492=>?_)))
 have le493:=IH.le.trans hl407 hl491
 have hw503:=W_ref05_Combine (I:=I490) R492 hd
 refine .call call88 r hw503 r r fun v498 I495 hl496 hv497=>?_
 obtain ⟨r494,p500,c501,rfl,R502,hd⟩:=hv497
 have le504:=IH.le.trans le493 hl496
 replace R492:=R492.mono hl496
 refine .ks 5 r (.nilS [10,8,6,1] r r (.seq (.sr (.ks 2 r (.nilS [67,10,8,6,1] r r (.condP r hd (fun hb506 hd=>?_) fun hb506 hd=>?_))))))
 · exact .sr (.build zv37 un37 BI37 .n (by exact trivial) r r (.ks 1 r (.storeA sz37 r r .z (.t (.t .nil)) r r (.ks 1 r (.nilS [7,6] r r (.ret (pret results87 (.w ia37 sz37 r .z r (.t r .n)) le504 ⟨(({ N:=0,Items:=([]:List Item) }:Vec),r494.2),_,_,r,(.nil _ _ _),hd⟩)))))))
 refine .skipS [8,6,1] r r (.sr (.ks 1 r (.build zv37 un37 BI37 (.c r r r (.t .nil) .n) (by exact ⟨⟨_,_,r,r,r⟩,trivial⟩) r r (.allocA zv37 r r fun b509=>?_))))
 refine .storeA sz37 r r .z (.t (.t .nil)) r r (.nilS [11,8,6] r r (.seq (.sr (.ks 1 r (.nilS [12,11,8,6] r r (.block (.own0 eItem 72 (.loop hd (fun (s:(List Item)×Int) c w=>match s with | (s580,s584)=>∃ I_ p581 c582,IH.le I495 I_∧Ok ⟨95,[],none⟩ [(6,.pointer (some ⟨b9,0,none⟩)),(8,.slice p500 r494.1.length c501),(11,.pointer (some ⟨b509,0,none⟩)),(12,.int .i64 s584)] c∧Sym w0 M I I_ [pto b9 (.cells #[.int .i64 0,.slice none 0 0] 37 (0,0)),pto b509 (.cells #[.int .i64 a1,.slice p581 s580.length c582] 37 (0,0)),OwnSl eItem 72 p581 c582 s580] w) (fun c w ho hs=>⟨I495,_,_,(.refl _),ho.sub ⟨r,r,r,r,trivial⟩,hs.pick (.c (.s (.s .z)) (.c (.s .z) (.c .z .n)))⟩) ?_))))))))
 rintro ⟨s580,s584⟩ next586 hd c w hst
 obtain ⟨I587,p581,c582,hl588,hok,hsym⟩:=hst
 have le589:=IH.le.trans le504 hl588
 replace R502:=R502.mono hl588
 refine Cod.at hok hsym (.seq (.sr (.ks 2 r (.len un121 r r r r (.ks 1 r (.nilS [75,12,11,8,6] r r (.condP r hd (fun hb591 hd=>?_) fun hb591 hd=>?_)))))))
 · refine .skipS [12,11,8,6] r r (.seq (.block (.ownF (.s (.s .z)) fun hne592=>?_)))
   refine .dr [0,1,2,3,4,5,6,7,8,9,10,11,12,13,14] 15 (.g r r r (fun _=>.fa un37 r sz25 r (o:=1) r r r .mk) (.g r r r (fun _=>.load1 ia25 r (.s .z) r r r .mk) (.fk 2 r ?_)))
   obtain ⟨h593,x594,hx595,hd⟩:=hd
   obtain ⟨b596,o597,cs598,e599,hC600,hr601⟩:=R502.2 _ _ hx595
   cases hr601
   refine .g r r r (fun _=>.ixa un121 sz123 r e599 r h593 (idx_lt hx595 h593) r r .mk) (.g r r r (fun _=>.fa un123 r sz3 r (o:=o597+s584.toNat*3+1) r r r .mk) (.g r r r (fun _=>.ld1 (j:=1) ia3 hC600 r r r r r .mk) (.fk 2 r ?_)))
   obtain ⟨h602,x603,hx604,hd⟩:=hd
   obtain ⟨b605,o606,cs607,e608,hC609,hr610⟩:=R502.2 _ _ hx604
   cases hr610
   refine .g r r r (fun _=>.ixa un121 sz123 r e608 r h602 (idx_lt hx604 h602) r r .mk) (.g r r r (fun _=>.fa un123 r sz2 r (o:=o606+s584.toNat*3+2) r r r .mk) (.g r r r (fun _=>.ld1 (j:=2) ia2 hC609 r r r r r .mk) (.g r r r (fun _=>.build zv72 un72 BI72 (.c r r r (.t .nil) (.c r r r (.s (.t .nil)) .n)) (by exact ⟨⟨_,_,r,r,r⟩,⟨⟨_,_,r,r,r⟩,trivial⟩⟩) r r .mk) (.ww r fun ex=>?_))))
   refine .buildSlice 1 un25 sz72 zv72 r r (.c r r r .n) r r fun b611=>?_
   refine .so 4 r r r (.cg r r r r (fun _=>.load1 ia25 r (.s (.s .z)) r r r .mk) (.cg r r r r (fun _=>.fa un37 r sz25 r (o:=1) r r r .mk) trivial)) (.ww r fun ex=>?_)
   obtain ⟨hl613,hd⟩:=hd
   refine .append (ys:=[({ At:=x594.To,Val:=x603.W }:Item)]) 16 (.s (.s (.s .z))) un25 un25 IN72 r r r r r r r r r (.box .z (.one r) r) hl613 r r fun p614 c615=>?_
   exact .so 4 r r r trivial (.e2 15 (.fa un37 r sz25 r (o:=1) r r r (.store1 sz25 r r (.s (.s (.s .z))) (.s (.t .nil)) r (.nilS [12,11,8,6] r r (.drop (.s .z) (.region (.ks 3 r (.nil' fun c w ho hs=>⟨((s580++([({ At:=x594.To,Val:=x603.W }:Item)])),w64 (s584+1)),hd,I587,_,_,hl588,ho.sub ⟨r,r,r,r,trivial⟩,hs.pick (.c (.s .z) (.c (.s .z) (.c .z .n)))⟩))))))))
 refine .exitS [11,6] r r (.sr (.loadW ia37 sz37 r (.s .z) r r r (.storeA sz37 r r .z (.t (.t .nil)) r r (.ks 1 r (.nilS [7,6] r r (.drop (.s .z) (.pub (.s .z) fun I617 hl618 R619=>?_)))))))
 have le620:=IH.le.trans le589 hl618
 have le621:=IH.le.trans hl588 hl618
 exact .ret (pret results87 (.w ia37 sz37 r .z r (.t r .n)) le620 ⟨(({ N:=a1,Items:=s580 }:Vec),0),_,_,r,R619,hd⟩)
theorem W_law09_Some {I:IH} {a0:Int} {a1:List Item} {p1:Option Addr} {c2:Nat} {Q:Vec→Prop} (R3:RepSl eItem I p1 c2 a1) (hd:law09_Some a0 a1 Q) :
  PFun prog 35 [.int .u8 a0,.slice p1 a1.length c2] I (o8_ Q):=by
 refine Fun.enter func35 r ntmps35 r (.c (.c .n)) fun w0 M=>?_
 refine .sr (.allocA zv37 r r fun b9=>?_)
 refine .nilS [4,1,0] r r (.sr (.ks 1 r (.conv underlying5 un3 r r r (.rem r r (by decide) r r (.ks 1 r (.nilS [5,4,1] r r (.sr (.ks 1 r (.nilS [6,5,4,1] r r ?_)))))))))
 refine .seq ?_
 refine Cod.joinQ (σ:=(List Item)) hd (fun (s361:(List Item)) c w=>∃ I_ p362 c363,IH.le I I_∧Ok ⟨56,[],none⟩ [(4,.pointer (some ⟨b9,0,none⟩)),(5,.int .i64 ((w64 (a0)).tmod 60)),(6,.slice p362 s361.length c363)] c∧Sym w0 M I I_ [pto b9 (.cells #[.int .i64 0,.slice none 0 0] 37 (0,0)),OwnSl eItem 72 p362 c363 s361] w) (fun k365 hd=>?_) ?_
 · skip
   refine .sr (.ks 1 r (.nilS [7,6,5,4,1] r r (.block (.own0 eItem 72 (.loop hd (fun (s:(List Item)×Int) c w=>match s with | (s481,s485)=>∃ I_ p482 c483,IH.le I I_∧Ok ⟨56,[],none⟩ [(1,.slice p1 a1.length c2),(4,.pointer (some ⟨b9,0,none⟩)),(5,.int .i64 ((w64 (a0)).tmod 60)),(6,.slice p482 s481.length c483),(7,.int .i64 s485)] c∧Sym w0 M I I_ [pto b9 (.cells #[.int .i64 0,.slice none 0 0] 37 (0,0)),OwnSl eItem 72 p482 c483 s481] w) (fun c w ho hs=>⟨I,_,_,(.refl _),ho.sub ⟨r,r,r,r,r,trivial⟩,hs.pick (.c (.s .z) (.c .z .n))⟩) ?_)))))
   rintro ⟨s481,s485⟩ next487 hd c w hst
   obtain ⟨I488,p482,c483,hl489,hok,hsym⟩:=hst
   replace R3:=R3.mono hl489
   refine Cod.at hok hsym (.seq (.sr (.ks 2 r (.len un25 r r r r (.ks 2 r ?_)))))
   refine splitP hd (fun hb493 hd=>?_) fun hb493 hd=>?_
   · rw [hb493]
     refine .ks 4 r ?_
     refine splitP hd (fun hb494 hd=>?_) fun hb494 hd=>?_
     · rw [hb494]
       refine .ks 3 r (.nilS [24,7,6,5,4,1] r r (.condP r hd (fun hb495 hd=>?_) fun hb495 hd=>?_))
       · refine .skipS [7,6,5,4,1] r r (.seq (.block (.sr (.ks 2 r ?_))))
         obtain ⟨h505,x506,hx507,hd⟩:=hd
         obtain ⟨b508,o509,cs510,e511,hC512,hr513⟩:=R3.2 _ _ hx507
         cases hr513
         refine .ixa un25 sz72 r e511 r h505 (idx_lt hx507 h505) r r (.fa un72 r sz3 r (o:=o509+s485.toNat*2) r r r (.ld1 (j:=0) ia3 hC512 r r r r r (.ks 1 r (.nilS [32,7,6,5,4,1] r r (.condP r hd (fun hb514 hd=>?_) fun hb514 hd=>?_)))))
         · refine .ownF (.s .z) fun hne515=>?_
           refine .dr [0,1,2,3,4,5,6,7,8,9,10,11,12,13,14,15] 16 (.fk 3 r ?_)
           obtain ⟨h516,x517,hx518,hd⟩:=hd
           obtain ⟨b519,o520,cs521,e522,hC523,hr524⟩:=R3.2 _ _ hx518
           cases hr524
           refine .g r r r (fun _=>.ixa un25 sz72 r e522 r h516 (idx_lt hx518 h516) r r .mk) (.g r r r (fun _=>.fa un72 r sz3 r (o:=o520+s485.toNat*2) r r r .mk) (.g r r r (fun _=>.ld1 (j:=0) ia3 hC523 r r r r r .mk) (.fk 1 r ?_)))
           obtain ⟨hz525,hd⟩:=hd
           refine .g r r r (fun _=>.rem r r hz525 r r .mk) (.fk 2 r ?_)
           obtain ⟨h526,x527,hx528,hd⟩:=hd
           obtain ⟨b529,o530,cs531,e532,hC533,hr534⟩:=R3.2 _ _ hx528
           cases hr534
           refine .g r r r (fun _=>.ixa un25 sz72 r e532 r h526 (idx_lt hx528 h526) r r .mk) (.g r r r (fun _=>.fa un72 r sz2 r (o:=o530+s485.toNat*2+1) r r r .mk) (.g r r r (fun _=>.ld1 (j:=1) ia2 hC533 r r r r r .mk) (.g r r r (fun _=>.build zv72 un72 BI72 (.c r r r (.t .nil) (.c r r r (.s (.t .nil)) .n)) (by exact ⟨⟨_,_,r,r,r⟩,⟨⟨_,_,r,r,r⟩,trivial⟩⟩) r r .mk) (.ww r fun ex=>?_))))
           refine .buildSlice 1 un25 sz72 zv72 r r (.c r r r .n) r r fun b535=>?_
           refine .so 3 r r r (.ck 1 r r trivial) (.ww r fun ex=>?_)
           obtain ⟨hl537,hd⟩:=hd
           refine .append (ys:=[({ At:=x517.At.tmod ((w64 (a0)).tmod 60),Val:=x527.Val }:Item)]) 16 (.s (.s .z)) un25 un25 IN72 r r r r r r r r r (.box .z (.one r) r) hl537 r r fun p538 c539=>?_
           exact .so 3 r r r trivial (.e2 16 (.ks 1 r (.nilS [6,7,5,4,1] r r (.drop (.s .z) (.region (.ks 3 r (.nil' fun c w ho hs=>⟨((s481++([({ At:=x517.At.tmod ((w64 (a0)).tmod 60),Val:=x527.Val }:Item)])),w64 (s485+1)),hd,I488,_,_,hl489,ho.sub ⟨r,r,r,r,r,trivial⟩,hs.pick (.c (.s .z) (.c .z .n))⟩)))))))
         exact .skipS [7,6,5,4,1] r r (.region (.ks 3 r (.nil' fun c w ho hs=>⟨(s481,w64 (s485+1)),hd,I488,_,_,hl489,ho.sub ⟨r,r,r,r,r,trivial⟩,hs.pick (.c .z (.c .z .n))⟩)))
       exact .exit fun c w ho hs=>⟨s481,hd,I488,_,_,hl489,ho.sub ⟨r,r,r,trivial⟩,hs.pick (.c .z (.c .z .n))⟩
     rw [hb494]
     exact .ks 3 r (.nilS [24,7,6,5,4,1] r r (.condKF r r (.exit fun c w ho hs=>⟨s481,hd,I488,_,_,hl489,ho.sub ⟨r,r,r,trivial⟩,hs.pick (.c .z (.c .z .n))⟩)))
   rw [hb493]
   exact .ks 7 r (.nilS [24,7,6,5,4,1] r r (.condKF r r (.exit fun c w ho hs=>⟨s481,hd,I488,_,_,hl489,ho.sub ⟨r,r,r,trivial⟩,hs.pick (.c .z (.c .z .n))⟩)))
 rintro s361 hd c w hst
 obtain ⟨I541,p362,c363,hl542,hok,hsym⟩:=hst
 refine Cod.at hok hsym (.sr (.ks 2 r (.pub (.s .z) fun I543 hl544 R545=>?_)))
 have le546:=IH.le.trans hl542 hl544
 have hw556:=W_ref09_Of (I:=I543) R545 hd
 refine .call call87 r hw556 r r fun v551 I548 hl549 hv550=>?_
 obtain ⟨r547,p553,c554,rfl,R555,hd⟩:=hv550
 have le557:=IH.le.trans le546 hl549
 replace R545:=R545.mono hl549
 refine .ks 3 r (.allocA zv37 r r fun b558=>?_)
 exact .storeA sz37 r r .z (.t (.t .nil)) r r (.ks 1 r (.nilS [8,4] r r (.sr (.loadW ia37 sz37 r .z r r r (.storeA sz37 r r (.s .z) (.t (.t .nil)) r r (.nilS [4] r r (.drop .z (.ret (pret results35 (.w ia37 sz37 r .z r .n) le557 ⟨r547.1,_,_,r,R555,hd⟩)))))))))
theorem W_law13_Task_Vector {I:IH} {a0:Law13_Task} {a1:List Item} {p1:Option Addr} {c2:Nat} {p4:Option Addr} {c5:Nat} {p7:Option Addr} {c8:Nat} {p10:Option Addr} {c11:Nat} {p13:Option Addr} {c14:Nat} {Q:Vec→Prop} (R3:RepSl eTriple I p1 c2 a0.L) (R6:RepSl eItem I p4 c5 a0.X) (R9:RepSl eItem I p7 c8 a0.Y) (R12:RepSl eU64 I p10 c11 a0.F) (R15:RepSl eItem I p13 c14 a1) (hd:law13_Task_Vector a0 a1 Q) :
  PFun prog 9 [.agg #[.int .i64 a0.Ring,.int .u8 a0.Size.1,.int .u8 a0.Size.2,.slice p1 a0.L.length c2,.slice p4 a0.X.length c5,.slice p7 a0.Y.length c8,.slice p10 a0.F.length c11,.bool a0.Others],.slice p13 a1.length c14] I (fun I_ v=>∃ r p16 c17,v=.agg #[.int .i64 r.N,.slice p16 r.Items.length c17]∧RepSl eItem I_ p16 c17 r.Items∧Q r):=by
 refine Fun.enter func9 r ntmps9 r (.c (.c .n)) fun w0 M=>?_
 refine .sr (.boxA r r r fun b23=>?_)
 refine .allocA zv37 r r fun b25=>?_
 refine .nilS [4,2,1] r r (.sr (.fa un28 r sizeOf23 r (o:=1) r r r (.ixArr (i:=1) underlying23 sizeOf5 r r (by decide) (o:=2) r r r (.load1 isAgg5 r (.s .z) r r r ?_))))
 have hw44:=W_law07_Size (I:=I) hd
 refine .callP call36 r hw44 r r fun v45 hv46=>?_
 obtain ⟨r43,rfl,hd⟩:=hv46
 refine .conv un3 underlying5 r r r (.ks 1 r ?_)
 have hw56:=W_law09_Some (I:=I) R15 hd
 refine .call call35 r hw56 r r fun v51 I48 hl49 hv50=>?_
 obtain ⟨r47,p53,c54,rfl,R55,hd⟩:=hv50
 replace R3:=R3.mono hl49
 replace R6:=R6.mono hl49
 replace R9:=R9.mono hl49
 replace R12:=R12.mono hl49
 replace R15:=R15.mono hl49
 refine .allocA zv37 r r fun b57=>?_
 refine .storeA sz37 r r .z (.t (.t .nil)) r r (.nilS [5,4,2] r r (.sr (.ks 1 r (.nilS [6,5,4,2] r r (.seq (.sr (.ks 1 r (.nilS [7,6,5,4,2] r r (.block ?_)))))))))
 refine .own0 eItem 72 (.loop hd (fun (s:(List Item)×Int) c w=>match s with | (s144,s148)=>∃ I_ p145 c146,IH.le I48 I_∧Ok ⟨46,[],none⟩ [(2,.pointer (some ⟨b23,0,none⟩)),(4,.pointer (some ⟨b25,0,none⟩)),(5,.pointer (some ⟨b57,0,none⟩)),(6,.slice p145 s144.length c146),(7,.int .i64 s148)] c∧Sym w0 M I I_ [pto b23 (.cells #[.int .i64 a0.Ring,.int .u8 a0.Size.1,.int .u8 a0.Size.2,.slice p1 a0.L.length c2,.slice p4 a0.X.length c5,.slice p7 a0.Y.length c8,.slice p10 a0.F.length c11,.bool a0.Others] 28 (0,0)),pto b25 (.cells #[.int .i64 0,.slice none 0 0] 37 (0,0)),pto b57 (.cells #[.int .i64 r47.N,.slice p53 r47.Items.length c54] 37 (0,0)),OwnSl eItem 72 p145 c146 s144] w) (fun c w ho hs=>⟨I48,_,_,(.refl _),ho.sub ⟨r,r,r,r,r,trivial⟩,hs.pick (.c (.s (.s (.s .z))) (.c (.s (.s .z)) (.c (.s .z) (.c .z .n))))⟩) ?_)
 rintro ⟨s144,s148⟩ next150 hd c w hst
 obtain ⟨I151,p145,c146,hl152,hok,hsym⟩:=hst
 have le153:=IH.le.trans hl49 hl152
 replace R3:=R3.mono hl152
 replace R6:=R6.mono hl152
 replace R9:=R9.mono hl152
 replace R12:=R12.mono hl152
 replace R55:=R55.mono hl152
 refine Cod.at hok hsym (.seq (.sr (.ks 1 r (.fa un37 r sz25 r (o:=1) r r r (.load1 ia25 r (.s (.s .z)) r r r (.len un25 r r r r (.ks 1 r (.nilS [19,7,6,5,4,2] r r (.condP r hd (fun hb155 hd=>?_) fun hb155 hd=>?_)))))))))
 · refine .skipS [7,6,5,4,2] r r (.seq (.block (.ownF (.s (.s (.s .z))) fun hne156=>?_)))
   refine .dr [0,1,2,3,4,5,6,7,8,10,11,12,13,14,15,9,16,17,18,19] 20 (.fk 1 r (.g r r r (fun _=>.fa un37 r sz25 r (o:=1) r r r .mk) (.g r r r (fun _=>.load1 ia25 r (.s (.s .z)) r r r .mk) (.fk 1 r ?_))))
   obtain ⟨h157,x158,hx159,hd⟩:=hd
   obtain ⟨b160,o161,cs162,e163,hC164,hr165⟩:=R55.2 _ _ hx159
   cases hr165
   refine .g r r r (fun _=>.ixa un25 sz72 r e163 r h157 (idx_lt hx159 h157) r r .mk) (.g r r r (fun _=>.fa un72 r sz3 r (o:=o161+s148.toNat*2) r r r .mk) (.g r r r (fun _=>.ld1 (j:=0) ia3 hC164 r r r r r .mk) (.g r r r (fun _=>.fa un28 r sizeOf22 r (o:=0) r r r .mk) (.g r r r (fun _=>.load1 isAgg22 r .z r r r .mk) (.g r r r (fun _=>.fa un37 r sz25 r (o:=1) r r r .mk) (.g r r r (fun _=>.load1 ia25 r (.s (.s .z)) r r r .mk) (.fk 1 r ?_)))))))
   obtain ⟨h166,x167,hx168,hd⟩:=hd
   obtain ⟨b169,o170,cs171,e172,hC173,hr174⟩:=R55.2 _ _ hx168
   cases hr174
   refine .g r r r (fun _=>.ixa un25 sz72 r e172 r h166 (idx_lt hx168 h166) r r .mk) (.g r r r (fun _=>.fa un72 r sz2 r (o:=o170+s148.toNat*2+1) r r r .mk) (.g r r r (fun _=>.ld1 (j:=1) ia2 hC173 r r r r r .mk) (.ww r fun ex=>?_)))
   have hw176:=W_law13_Right (I:=I151) hd
   refine .callP call33 r hw176 r r fun v177 hv178=>?_
   obtain ⟨r175,rfl,hd⟩:=hv178
   refine .so 4 r r r (.cg r r r r (fun _=>.ld1 (j:=1) ia2 hC173 r r r r r .mk) (.cg r r r r (fun _=>.fa un72 r sz2 r (o:=o170+s148.toNat*2+1) r r r .mk) (.cg r r r r (fun _=>.ixa un25 sz72 r e172 r h166 (idx_lt hx168 h166) r r .mk) (.ck 1 r r (.cg r r r r (fun _=>.load1 ia25 r (.s (.s .z)) r r r .mk) (.cg r r r r (fun _=>.fa un37 r sz25 r (o:=1) r r r .mk) (.cg r r r r (fun _=>.ld1 (j:=0) ia3 hC164 r r r r r .mk) (.cg r r r r (fun _=>.fa un72 r sz3 r (o:=o161+s148.toNat*2) r r r .mk) (.cg r r r r (fun _=>.ixa un25 sz72 r e163 r h157 (idx_lt hx159 h157) r r .mk) (.ck 1 r r (.cg r r r r (fun _=>.load1 ia25 r (.s (.s .z)) r r r .mk) (.cg r r r r (fun _=>.fa un37 r sz25 r (o:=1) r r r .mk) (.ck 1 r r trivial))))))))))))) (.ww r fun ex=>?_)
   have hw180:=W_law02_Value (I:=I151) hd
   refine .callP call37 r hw180 r r fun v181 hv182=>?_
   obtain ⟨r179,rfl,hd⟩:=hv182
   refine .so 4 r r r (.cg r r r r (fun _=>.ld1 (j:=0) ia3 hC164 r r r r r .mk) (.cg r r r r (fun _=>.fa un72 r sz3 r (o:=o161+s148.toNat*2) r r r .mk) (.cg r r r r (fun _=>.ixa un25 sz72 r e163 r h157 (idx_lt hx159 h157) r r .mk) (.ck 1 r r (.cg r r r r (fun _=>.load1 ia25 r (.s (.s .z)) r r r .mk) (.cg r r r r (fun _=>.fa un37 r sz25 r (o:=1) r r r .mk) (.ck 1 r r trivial))))))) (.g r r r (fun _=>.build zv72 un72 BI72 (.c r r r (.t .nil) (.c r r r (.s (.t .nil)) .n)) (by exact ⟨⟨_,_,r,r,r⟩,⟨⟨_,_,r,r,r⟩,trivial⟩⟩) r r .mk) (.ww r fun ex=>?_))
   refine .buildSlice 1 un25 sz72 zv72 r r (.c r r r .n) r r fun b183=>?_
   refine .so 5 r r r (.ck 1 r r trivial) (.ww r fun ex=>?_)
   obtain ⟨hl185,hd⟩:=hd
   refine .append (ys:=[({ At:=x158.At,Val:=r179 }:Item)]) 16 (.s (.s (.s (.s .z)))) un25 un25 IN72 r r r r r r r r r (.box .z (.one r) r) hl185 r r fun p186 c187=>?_
   exact .so 5 r r r trivial (.e2 20 (.ks 1 r (.nilS [6,7,5,4,2] r r (.drop (.s .z) (.region (.ks 3 r (.nil' fun c w ho hs=>⟨((s144++([({ At:=x158.At,Val:=r179 }:Item)])),w64 (s148+1)),hd,I151,_,_,hl152,ho.sub ⟨r,r,r,r,r,trivial⟩,hs.pick (.c (.s .z) (.c (.s .z) (.c (.s .z) (.c .z .n))))⟩)))))))
 refine .exitS [6,5,4] r r (.drop .z (.sr (.fa un37 r sz3 r (o:=0) r r r (.load1 ia3 r (.s .z) r r r (.ks 1 r (.build zv37 un37 BI37 (.c r r r (.t .nil) (.c r r r (.s (.t .nil)) .n)) (by exact ⟨⟨_,_,r,r,r⟩,⟨⟨_,_,r,r,r⟩,trivial⟩⟩) r r (.storeA sz37 r r .z (.t (.t .nil)) r r (.nilS [4] r r (.drop (.s .z) ?_)))))))))
 refine .pub (.s .z) fun I189 hl190 R191=>?_
 have le192:=IH.le.trans le153 hl190
 have le193:=IH.le.trans hl152 hl190
 exact .ret (pret results9 (.w ia37 sz37 r .z r .n) le192 ⟨({ N:=r47.N,Items:=s144 }:Vec),_,_,r,R191,hd⟩)
theorem W_law18_Side {I:IH} {a0:Int} {Q:Int→Prop}  (hd:law18_Side a0 Q) :
  PFun prog 26 [.int .u8 a0] I (fun _=>o0_ Q):=by
 refine Fun.enter func26 r ntmps26 r (.c .n) fun w0 M=>?_
 exact .sr (.ks 1 r (.nilS [0] r r (.sr (.ks 1 r (.conv underlying5 un3 r r r (.rem r r (by decide) r r (.ks 2 r (.nilS [2] r r (.ret (pret results26 (.t r .n) (.refl _) ⟨(w64 (((w64 (a0)).tmod 8)+1)),r,hd⟩))))))))))
theorem W_law18_BlockTurns {I:IH} {a0:Law13_Task} {a1:Int} {a2:Int} {p1:Option Addr} {c2:Nat} {p4:Option Addr} {c5:Nat} {p7:Option Addr} {c8:Nat} {p10:Option Addr} {c11:Nat} {Q:Bool→Prop} (R3:RepSl eTriple I p1 c2 a0.L) (R6:RepSl eItem I p4 c5 a0.X) (R9:RepSl eItem I p7 c8 a0.Y) (R12:RepSl eU64 I p10 c11 a0.F) (hd:law18_BlockTurns a0 a1 a2 Q) :
  PFun prog 6 [.agg #[.int .i64 a0.Ring,.int .u8 a0.Size.1,.int .u8 a0.Size.2,.slice p1 a0.L.length c2,.slice p4 a0.X.length c5,.slice p7 a0.Y.length c8,.slice p10 a0.F.length c11,.bool a0.Others],.int .u8 a1,.int .u8 a2] I (fun _=>o1_ Q):=by
 refine Fun.enter func6 r ntmps6 r (.c (.c (.c .n))) fun w0 M=>?_
 refine .sr (.boxA r r r fun b15=>?_)
 refine .ks 1 r (.nilS [3,2,1] r r (.sr (.loadW isAgg28 sizeOf28 r .z r r r (.fa un28 r sz25 r (o:=4) r r r (.load1 ia25 r .z r r r ?_)))))
 have hw38:=W_law13_Task_Vector (I:=I) R3 R6 R9 R12 R6 hd
 refine .call call9 r hw38 r r fun v33 I30 hl31 hv32=>?_
 obtain ⟨r29,p35,c36,rfl,R37,hd⟩:=hv32
 replace R3:=R3.mono hl31
 replace R6:=R6.mono hl31
 replace R9:=R9.mono hl31
 replace R12:=R12.mono hl31
 refine .allocA zv37 r r fun b39=>?_
 refine .storeA sz37 r r .z (.t (.t .nil)) r r (.nilS [7,2,1] r r (.drop (.s .z) (.sr (.ks 1 r ?_))))
 have hw50:=W_law18_Side (I:=I30) hd
 refine .callP call26 r hw50 r r fun v51 hv52=>?_
 obtain ⟨r49,rfl,hd⟩:=hv52
 refine .ks 1 r ?_
 have hw54:=W_law18_Side (I:=I30) hd
 refine .callP call26 r hw54 r r fun v55 hv56=>?_
 obtain ⟨r53,rfl,hd⟩:=hv56
 refine .ks 2 r (.nilS [9,8,7] r r (.seq (.sr (.ks 1 r (.nilS [10,9,8,7] r r (.block (.loop hd (fun (s656:Int) c w=>∃ I_,IH.le I30 I_∧Ok ⟨69,[],none⟩ [(7,.pointer (some ⟨b39,0,none⟩)),(8,.int .i64 r49),(9,.int .i64 r53),(10,.int .i64 s656)] c∧Sym w0 M I I_ [pto b39 (.cells #[.int .i64 r29.N,.slice p35 r29.Items.length c36] 37 (0,0))] w) (fun c w ho hs=>⟨I30,(.refl _),ho.sub ⟨r,r,r,r,trivial⟩,hs.pick (.c .z .n)⟩) ?_)))))))
 rintro s656 next657 hd c w hst
 obtain ⟨I658,hl659,hok,hsym⟩:=hst
 have le660:=IH.le.trans hl31 hl659
 replace R37:=R37.mono hl659
 refine Cod.at hok hsym (.seq (.sr (.ks 3 r (.nilS [25,10,9,8,7] r r (.condP r hd (fun hb662 hd=>?_) fun hb662 hd=>?_)))))
 · refine .skipS [10,9,8,7] r r (.seq (.block (.sr (.ks 1 r (.nilS [11,10,9,8,7] r r (.seq (.sr (.ks 1 r (.nilS [12,11,10,9,8,7] r r ?_)))))))))
   refine .block (.own0 eVec 37 (.loop hd (fun (s:(List Vec)×Int) c w=>match s with | (s872,s876)=>∃ I_ p873 c874,IH.le I658 I_∧Ok ⟨69,[],none⟩ [(7,.pointer (some ⟨b39,0,none⟩)),(8,.int .i64 r49),(9,.int .i64 r53),(10,.int .i64 s656),(11,.slice p873 s872.length c874),(12,.int .i64 s876)] c∧Sym w0 M I I_ [pto b39 (.cells #[.int .i64 r29.N,.slice p35 r29.Items.length c36] 37 (0,0)),OwnSl eVec 37 p873 c874 s872] w) (fun c w ho hs=>⟨I658,_,_,(.refl _),ho.sub ⟨r,r,r,r,r,r,trivial⟩,hs.pick (.c (.s .z) (.c .z .n))⟩) ?_))
   rintro ⟨s872,s876⟩ next878 hd c w hst
   obtain ⟨I879,p873,c874,hl880,hok,hsym⟩:=hst
   have le881:=IH.le.trans le660 hl880
   have le882:=IH.le.trans hl659 hl880
   replace R37:=R37.mono hl880
   refine Cod.at hok hsym (.seq (.sr (.ks 3 r (.nilS [30,12,11,10,9,8,7] r r (.condP r hd (fun hb884 hd=>?_) fun hb884 hd=>?_)))))
   · refine .skipS [12,11,10,9,8,7] r r (.seq (.block (.dr [0,1,2,3,5,6,7,8,9,10,4,11,12,13] 14 (.fk 1 r (.g r r r (fun _=>.loadW ia37 sz37 r .z r r r .mk) (.fk 2 r (.g r r r (fun _=>.fa un37 r sz3 r (o:=0) r r r .mk) (.g r r r (fun _=>.load1 ia3 r .z r r r .mk) (.fk 4 r ?_)))))))))
     refine .ww r fun ex=>?_
     have hw894:=W_block_Piece (I:=I879) R37 hd
     refine .call call15 r hw894 r r fun v889 I886 hl887 hv888=>?_
     obtain ⟨r885,p891,c892,rfl,R893,hd⟩:=hv888
     have le895:=IH.le.trans le881 hl887
     have le896:=IH.le.trans le882 hl887
     have le897:=IH.le.trans hl880 hl887
     replace R37:=R37.mono hl887
     refine .so 2 r r r (.ck 4 r r (.cg r r r r (fun _=>.load1 ia3 r .z r r r .mk) (.cg r r r r (fun _=>.fa un37 r sz3 r (o:=0) r r r .mk) (.ck 1 r r trivial)))) (.ww r fun ex=>?_)
     have hw907:=W_block_Slice (I:=I886) R893 hd
     refine .call call17 r hw907 r r fun v902 I899 hl900 hv901=>?_
     obtain ⟨r898,p904,c905,rfl,R906,hd⟩:=hv901
     have le908:=IH.le.trans le895 hl900
     have le909:=IH.le.trans le896 hl900
     have le910:=IH.le.trans le897 hl900
     replace R37:=R37.mono hl900
     replace R893:=R893.mono hl900
     refine .so 2 r r r (.ck 1 r r trivial) (.ww r fun ex=>?_)
     refine .buildSlice 1 un47 sz37 zv37 r r (.c r r r .n) r r fun b911=>?_
     refine .so 3 r r r (.ck 1 r r trivial) (.ww r fun ex=>?_)
     obtain ⟨hl913,hd⟩:=hd
     refine .append (ys:=[r898]) 32 (.s (.s .z)) un47 un47 IN37 r r r r r r r r r (.box .z (.one ⟨_,_,r,R906⟩) r) hl913 r r fun p914 c915=>?_
     exact .so 3 r r r trivial (.e2 14 (.ks 1 r (.nilS [11,12,10,9,8,7] r r (.drop (.s .z) (.region (.ks 3 r (.nil' fun c w ho hs=>⟨((s872++([r898])),w64 (s876+1)),hd,I899,_,_,le910,ho.sub ⟨r,r,r,r,r,r,trivial⟩,hs.pick (.c (.s .z) (.c .z .n))⟩)))))))
   refine .exitS [11,10,9,8,7] r r (.sr (.fa un37 r sz3 r (o:=0) r r r (.load1 ia3 r .z r r r (.ks 4 r (.pub (.s .z) fun I938 hl939 R940=>?_)))))
   have le941:=IH.le.trans le881 hl939
   have le942:=IH.le.trans le882 hl939
   have le943:=IH.le.trans hl880 hl939
   replace R37:=R37.mono hl939
   have hw953:=W_block_Fit (I:=I938) R940 hd
   refine .call call24 r hw953 r r fun v948 I945 hl946 hv947=>?_
   obtain ⟨r944,p950,c951,rfl,R952,hd⟩:=hv947
   have le954:=IH.le.trans le941 hl946
   have le955:=IH.le.trans le942 hl946
   have le956:=IH.le.trans le943 hl946
   replace R37:=R37.mono hl946
   replace R940:=R940.mono hl946
   refine .ks 3 r (.allocA zv37 r r fun b957=>?_)
   refine .storeA sz37 r r .z (.t (.t .nil)) r r (.ks 1 r (.nilS [14,13,10,9,8,7] r r (.seq (.dr [0,1,2,3,4,5,6,7,8,9,10] 11 (.fk 3 r ?_)))))
   refine splitP hd (fun hb959 hd=>?_) fun hb959 hd=>?_
   · refine .g r r r (fun _=>.gno r r hb959 r r .mk) (.g r r r (fun _=>.gno r r hb959 r r .mk) (.g r r r (fun _=>.gno r r hb959 r r .mk) (.g r r r (fun _=>.gno r r hb959 r r .mk) (.g r r r (fun _=>.gno r r hb959 r r .mk) (.g r r r (fun _=>.gno r r hb959 r r .mk) (.g r r r (fun _=>.gno r r hb959 r r .mk) (.g r r r (fun _=>.pickT r hb959 r r r .mk) (.e2 11 (.nilS [67,10,9,8,7] r r ?_)))))))))
     exact .drop .z (.condKT r r (.sr (.ks 1 r (.nilS [6] r r (.drop .z (.ret (pret results6 (.t r .n) le954 ⟨false,r,hd⟩)))))))
   refine .g r r r (fun _=>.gyes r r hb959 (.loadW ia37 sz37 r .z r r r .mk)) (.g r r r (fun _=>.gyes r r hb959 (.loadW ia37 sz37 r (.s .z) r r r .mk)) (.g r r r (fun _=>.gyes r r hb959 (.move r r r .mk)) (.g r r r (fun _=>.gyes r r hb959 (.move r r r .mk)) (.ww r fun ex=>?_))))
   have hw969:=W_block_Piece (I:=I945) R37 hd
   refine .gyes r r hb959 (.call call15 r hw969 r r fun v964 I961 hl962 hv963=>?_)
   obtain ⟨r960,p966,c967,rfl,R968,hd⟩:=hv963
   have le970:=IH.le.trans le954 hl962
   have le971:=IH.le.trans le955 hl962
   have le972:=IH.le.trans le956 hl962
   replace R37:=R37.mono hl962
   replace R952:=R952.mono hl962
   refine .so 2 r r r (.cg r r r r (fun _=>.gyes r r hb959 (.loadW ia37 sz37 r .z r r r .mk)) trivial) (.ww r fun ex=>?_)
   have hw974:=W_ref09_Same (I:=I961) R952 R968 hd
   refine .gyes r r hb959 (.callP call14 r hw974 r r fun v975 hv976=>?_)
   obtain ⟨r973,rfl,hd⟩:=hv976
   refine .so 2 r r r trivial (.g r r r (fun _=>.gyes r r hb959 (.not r r r .mk)) (.g r r r (fun _=>.pickF r hb959 r r r .mk) (.e2 11 (.nilS [67,10,9,8,7] r r (.drop .z (.condP r hd (fun hb977 hd=>?_) fun hb977 hd=>?_))))))
   · exact .sr (.ks 1 r (.nilS [6] r r (.drop .z (.ret (pret results6 (.t r .n) le970 ⟨false,r,hd⟩)))))
   exact .skipS [10,9,8,7] r r (.region (.ks 3 r (.nil' fun c w ho hs=>⟨(w64 (s656+1)),hd,I961,le971,ho.sub ⟨r,r,r,r,trivial⟩,hs.pick (.c .z .n)⟩)))
 refine .exitS [] r r (.drop .z (.sr ?_))
 have hw979:=W_law18_live (I:=I658) hd
 refine .callP call10 r hw979 r r fun v980 hv981=>?_
 obtain ⟨r978,rfl,hd⟩:=hv981
 exact .ks 1 r (.nilS [6] r r (.ret (pret results6 (.t r .n) le660 ⟨r978,r,hd⟩)))
end Go.Proofs.YtpackolbhcmomaaGreat
