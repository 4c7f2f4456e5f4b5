/- The walks (printed by a program of ours). -/
import Derived.Test.YtpackolbhcmomaaGreatV2
namespace Go.Proofs.YtpackolbhcmomaaGreat
open Go Go.Fw
set_option linter.unusedVariables false
set_option linter.unusedSimpArgs false
set_option maxRecDepth 8000
set_option maxHeartbeats 1000000
open Tryz
theorem W_law07_Size {I:IH} {a0:Int} {Q:Int→Prop}  (hd:law07_Size a0 Q) :
  PFun prog 36 [.int .u8 a0] I (fun _=>o0_ Q):=by
 refine Fun.enter func36 r ntmps36 r (.c .n) fun w0 M=>?_
 exact .sr (.ks 1 r (.nilS [0] r r (.sr (.ks 1 r (.conv underlying5 un3 r r r (.rem r r (by decide) r r (.ks 1 r (.nilS [2] r r (.ret (pret results36 (.t r .n) (.refl _) ⟨((w64 (a0)).tmod 40),r,hd⟩))))))))))
theorem W_law07_Few {I:IH} {a0:List Triple} {p1:Option Addr} {c2:Nat} {Q:(List Triple)→Prop} (R3:RepSl eTriple I p1 c2 a0) (hd:law07_Few a0 Q) :
  PFun prog 86 [.slice p1 a0.length c2] I (fun I_ v=>∃ r p4 c5,v=.slice p4 r.length c5∧RepSl eTriple I_ p4 c5 r∧Q r):=by
 refine Fun.enter func86 r ntmps86 r (.c .n) fun w0 M=>?_
 refine .sr (.ks 1 r (.nilS [0] r r (.seq (.sr (.ks 1 r (.len un24 r r r r (.ks 1 r (.nilS [5,0] r r (.condP r hd (fun hb7 hd=>?_) fun hb7 hd=>?_)))))))))
 · refine .region (.ks 1 r ?_)
   obtain ⟨h8,h9,h10,hd⟩:=hd
   have h16:Int.toNat 0≤Int.toNat 60:=by omega
   have h17:Int.toNat 60≤a0.length:=by omega
   obtain ⟨p11,c12,e14,e15,R13⟩:=RepSl.sliceW R3 (Int.toNat 0) (Int.toNat 60) c2 h16 h17 (.inl rfl)
   exact .sliceW (L:=Int.toNat 0) (H:=Int.toNat 60) (cm:=c2) un24 sz75 r r R3.1 r r r (.inl ⟨r,r⟩) (.inr ⟨_,_,r,(by omega),r⟩) (.inl r) h16 h17 r e14 e15 r r (.ks 1 r (.nilS [0] r r (.sr (.ks 2 r (.nilS [2] r r (.ret (pret results86 (.t r .n) (.refl _) ⟨((a0.take (Int.toNat 60)).drop (Int.toNat 0)),_,_,r,R13,hd⟩)))))))
 exact .skipS [0] r r (.sr (.ks 2 r (.nilS [2] r r (.ret (pret results86 (.t r .n) (.refl _) ⟨a0,_,_,r,R3,hd⟩)))))
theorem W_law07_Some {I:IH} {a0:Int×Int} {a1:List Triple} {p1:Option Addr} {c2:Nat} {Q:Rows→Prop} (R3:RepSl eTriple I p1 c2 a1) (hd:law07_Some a0 a1 Q) :
  PFun prog 32 [.agg #[.int .u8 a0.1,.int .u8 a0.2],.slice p1 a1.length c2] I (o5_ Q):=by
 refine Fun.enter func32 r ntmps32 r (.c (.c .n)) fun w0 M=>?_
 refine .sr (.boxA r r r fun b17=>?_)
 refine .allocA zv34 r r fun b19=>?_
 refine .nilS [4,2,1] r r (.seq (.dr [0,1,3,4,2,5,6] 7 (.g r r r (fun _=>.ixArr (i:=0) underlying23 sizeOf5 r r (by decide) (o:=0) r r r .mk) (.g r r r (fun _=>.load1 isAgg5 r (.s .z) r r r .mk) (.g r r r (fun _=>.ixArr (i:=1) underlying23 sizeOf5 r r (by decide) (o:=1) r r r .mk) (.g r r r (fun _=>.load1 isAgg5 r (.s .z) r r r .mk) (.ww r fun ex=>?_)))))))
 have hw30:=W_law07_Size (I:=I) hd
 refine .callP call36 r hw30 r r fun v31 hv32=>?_
 obtain ⟨r29,rfl,hd⟩:=hv32
 refine .so 2 r r r (.cg r r r r (fun _=>.load1 isAgg5 r (.s .z) r r r .mk) (.cg r r r r (fun _=>.ixArr (i:=1) underlying23 sizeOf5 r r (by decide) (o:=1) r r r .mk) trivial)) (.ww r fun ex=>?_)
 have hw34:=W_law07_Size (I:=I) hd
 refine .callP call36 r hw34 r r fun v35 hv36=>?_
 obtain ⟨r33,rfl,hd⟩:=hv36
 refine .so 2 r r r trivial (.fk 1 r (.e2 7 (.ks 1 r (.nilS [6,5,4,1] r r (.drop (.s .z) (.sr (.ks 1 r (.nilS [7,6,5,4,1] r r (.sr ?_)))))))))
 refine .ks 1 r ?_
 have hw56:=W_law07_Few (I:=I) R3 hd
 refine .call call86 r hw56 r r fun v51 I48 hl49 hv50=>?_
 obtain ⟨r47,p53,c54,rfl,R55,hd⟩:=hv50
 replace R3:=R3.mono hl49
 refine .ks 1 r (.nilS [1,7,6,5,4] r r (.seq (.sr (.ks 1 r (.nilS [8,1,7,6,5,4] r r (.block (.own0 eTriple 75 (.loop hd (fun (s:(List Triple)×Int) c w=>match s with | (s304,s308)=>∃ I_ p305 c306,IH.le I48 I_∧Ok ⟨73,[],none⟩ [(1,.slice p53 r47.length c54),(4,.pointer (some ⟨b19,0,none⟩)),(5,.int .i64 r29),(6,.int .i64 r33),(7,.slice p305 s304.length c306),(8,.int .i64 s308)] c∧Sym w0 M I I_ [pto b19 (.cells #[.int .i64 0,.int .i64 0,.slice none 0 0,.slice none 0 0,.slice none 0 0] 34 (0,0)),OwnSl eTriple 75 p305 c306 s304] w) (fun c w ho hs=>⟨I48,_,_,(.refl _),ho.sub ⟨r,r,r,r,r,r,trivial⟩,hs.pick (.c (.s .z) (.c .z .n))⟩) ?_))))))))
 rintro ⟨s304,s308⟩ next310 hd c w hst
 obtain ⟨I311,p305,c306,hl312,hok,hsym⟩:=hst
 have le313:=IH.le.trans hl49 hl312
 replace R55:=R55.mono hl312
 refine Cod.at hok hsym (.seq (.sr (.ks 2 r (.len un24 r r r r (.ks 1 r (.nilS [23,8,7,6,5,4,1] r r (.condP r hd (fun hb315 hd=>?_) fun hb315 hd=>?_)))))))
 · refine .skipS [8,7,6,5,4,1] r r (.seq (.block (.sr (.ks 2 r ?_))))
   obtain ⟨h327,x328,hx329,hd⟩:=hd
   obtain ⟨b330,o331,cs332,e333,hC334,hr335⟩:=R55.2 _ _ hx329
   cases hr335
   refine .ixa un24 sz75 r e333 r h327 (idx_lt hx329 h327) r r (.ldW isAgg75 sz75 hC334 r r r r (.allocA zv75 r r fun b336=>?_))
   refine .storeA sz75 r r .z (.t (.t (.t .nil))) r r (.nilS [9,8,7,6,5,4,1] r r (.seq (.sr (.fa un75 r sz3 r (o:=0) r r r (.load1 ia3 r .z r r r (.ks 2 r ?_))))))
   refine splitP hd (fun hb342 hd=>?_) fun hb342 hd=>?_
   · rw [hb342]
     exact .ks 12 r (.nilS [45,9,8,7,6,5,4,1] r r (.condKT r r (.exitS [8,7,6,5,4,1] r r (.drop .z (.region (.ks 3 r (.nil' fun c w ho hs=>⟨(s304,w64 (s308+1)),hd,I311,_,_,hl312,ho.sub ⟨r,r,r,r,r,r,trivial⟩,hs.pick (.c .z (.c .z .n))⟩)))))))
   rw [hb342]
   refine .gyes r r r (.fa un75 r sz3 r (o:=1) r r r (.gyes r r r (.load1 ia3 r .z r r r (.ks 3 r ?_))))
   refine splitP hd (fun hb343 hd=>?_) fun hb343 hd=>?_
   · rw [hb343]
     exact .ks 7 r (.nilS [45,9,8,7,6,5,4,1] r r (.condKT r r (.exitS [8,7,6,5,4,1] r r (.drop .z (.region (.ks 3 r (.nil' fun c w ho hs=>⟨(s304,w64 (s308+1)),hd,I311,_,_,hl312,ho.sub ⟨r,r,r,r,r,r,trivial⟩,hs.pick (.c .z (.c .z .n))⟩)))))))
   rw [hb343]
   refine .ks 4 r ?_
   refine splitP hd (fun hb344 hd=>?_) fun hb344 hd=>?_
   · rw [hb344]
     exact .ks 3 r (.nilS [45,9,8,7,6,5,4,1] r r (.condKT r r (.exitS [8,7,6,5,4,1] r r (.drop .z (.region (.ks 3 r (.nil' fun c w ho hs=>⟨(s304,w64 (s308+1)),hd,I311,_,_,hl312,ho.sub ⟨r,r,r,r,r,r,trivial⟩,hs.pick (.c .z (.c .z .n))⟩)))))))
   rw [hb344]
   refine .ks 3 r (.nilS [45,9,8,7,6,5,4,1] r r (.condP r hd (fun hb345 hd=>?_) fun hb345 hd=>?_))
   · exact .exitS [8,7,6,5,4,1] r r (.drop .z (.region (.ks 3 r (.nil' fun c w ho hs=>⟨(s304,w64 (s308+1)),hd,I311,_,_,hl312,ho.sub ⟨r,r,r,r,r,r,trivial⟩,hs.pick (.c .z (.c .z .n))⟩))))
   refine .skipS [9,8,7,6,5,4,1] r r (.sr (.fa un75 r sz3 r (o:=0) r r r (.load1 ia3 r .z r r r (.ks 1 r ?_))))
   obtain ⟨hz347,hd⟩:=hd
   refine .rem r r hz347 r r (.fa un75 r sz3 r (o:=0) r r r (.store1 sz3 r r .z (.t .nil) r (.nilS [9,8,7,6,5,4,1] r r (.sr (.fa un75 r sz3 r (o:=1) r r r (.load1 ia3 r .z r r r (.ks 1 r ?_)))))))
   obtain ⟨hz348,hd⟩:=hd
   refine .rem r r hz348 r r (.fa un75 r sz3 r (o:=1) r r r (.store1 sz3 r r .z (.s (.t .nil)) r (.nilS [9,8,7,6,5,4,1] r r (.region (.ks 1 r (.loadW isAgg75 sz75 r .z r r r (.buildSlice 1 un24 sz75 zv75 r r (.c r r r .n) r r fun b349=>?_)))))))
   obtain ⟨hl351,hd⟩:=hd
   refine .append (ys:=[({ Row:=x328.Row.tmod r29,Col:=x328.Col.tmod r33,Val:=x328.Val }:Triple)]) 24 (.s (.s (.s .z))) un24 un24 IN75 r r r r r r r r r (.box .z (.one r) r) hl351 r r fun p352 c353=>?_
   exact .ks 1 r (.nilS [7,8,6,5,4,1] r r (.drop (.s .z) (.drop (.s .z) (.region (.ks 3 r (.nil' fun c w ho hs=>⟨((s304++([({ Row:=x328.Row.tmod r29,Col:=x328.Col.tmod r33,Val:=x328.Val }:Triple)])),w64 (s308+1)),hd,I311,_,_,hl312,ho.sub ⟨r,r,r,r,r,r,trivial⟩,hs.pick (.c (.s .z) (.c .z .n))⟩))))))
 refine .exitS [7,6,5,4] r r (.sr (.ks 3 r (.pub (.s .z) fun I380 hl381 R382=>?_)))
 have le383:=IH.le.trans le313 hl381
 have le384:=IH.le.trans hl312 hl381
 have hw400:=W_ref07_Of (I:=I380) R382 hd
 refine .call call38 r hw400 r r fun v389 I386 hl387 hv388=>?_
 obtain ⟨r385,p391,c392,p394,c395,p397,c398,rfl,R393,R396,R399,hd⟩:=hv388
 have le401:=IH.le.trans le383 hl387
 have le402:=IH.le.trans le384 hl387
 replace R382:=R382.mono hl387
 refine .ks 3 r (.allocA zv34 r r fun b403=>?_)
 refine .storeA sz34 r r .z (.t (.t (.t (.t (.t .nil))))) r r (.ks 1 r (.nilS [11,10,6,5,4] r r (.seq (.sr (.ks 2 r (.nilS [68,10,6,5,4] r r (.condP r hd (fun hb405 hd=>?_) fun hb405 hd=>?_)))))))
 · refine .sr (.ks 2 r ?_)
   have hw424:=W_ref07_Empty (I:=I386) hd
   refine .callO call47 r hw424 r r fun v410 I407 l411 hl408 hv409=>?_
   obtain ⟨r406,p412,c413,p415,c416,p418,c419,rfl,rfl,hd⟩:=hv409
   have le425:=IH.le.trans le401 hl408
   have le426:=IH.le.trans le402 hl408
   replace R393:=R393.mono hl408
   replace R396:=R396.mono hl408
   replace R399:=R399.mono hl408
   refine .storeA sz34 r r (.s (.s (.s (.s .z)))) (.t (.t (.t (.t (.t .nil))))) r r (.nilS [4] r r (.drop (.s (.s (.s .z))) (.pub .z fun I427 hl428 R429=>?_)))
   have le430:=IH.le.trans le425 hl428
   have le431:=IH.le.trans le426 hl428
   refine .pub .z fun I432 hl433 R434=>?_
   have le435:=IH.le.trans le430 hl433
   have le436:=IH.le.trans le431 hl433
   replace R429:=R429.mono hl433
   refine .pub .z fun I437 hl438 R439=>?_
   have le440:=IH.le.trans le435 hl438
   have le441:=IH.le.trans le436 hl438
   replace R429:=R429.mono hl438
   replace R434:=R434.mono hl438
   exact .ret (pret results32 (.w ia34 sz34 r .z r .n) le440 ⟨r406,_,_,_,_,_,_,r,R429,R434,R439,hd⟩)
 exact .skipS [10,4] r r (.sr (.loadW ia34 sz34 r .z r r r (.storeA sz34 r r (.s .z) (.t (.t (.t (.t (.t .nil))))) r r (.nilS [4] r r (.drop .z (.ret (pret results32 (.w ia34 sz34 r .z r .n) le401 ⟨r385.1,_,_,_,_,_,_,r,R393,R396,R399,hd⟩)))))))
theorem W_law13_Right {I:IH} {a0:Int} {Q:Int→Prop}  (hd:law13_Right a0 Q) :
  PFun prog 33 [.int .i64 a0] I (fun _=>o0_ Q):=by
 refine Fun.enter func33 r ntmps33 r (.c .n) fun w0 M=>?_
 refine .sr (.ks 1 r (.nilS [0] r r (.seq (.sr (.ks 3 r ?_)))))
 refine splitP hd (fun hb1 hd=>?_) fun hb1 hd=>?_
 · rw [hb1]
   exact .ks 3 r (.nilS [8,0] r r (.condKT r r (.sr (.ks 1 r (.nilS [2] r r (.ret (pret results33 (.t r .n) (.refl _) ⟨1,r,hd⟩)))))))
 rw [hb1]
 refine .ks 3 r (.nilS [8,0] r r (.condP r hd (fun hb2 hd=>?_) fun hb2 hd=>?_))
 · exact .sr (.ks 1 r (.nilS [2] r r (.ret (pret results33 (.t r .n) (.refl _) ⟨1,r,hd⟩))))
 exact .skipS [0] r r (.sr (.ks 2 r (.nilS [2] r r (.ret (pret results33 (.t r .n) (.refl _) ⟨a0,r,hd⟩)))))
theorem W_law02_Value {I:IH} {a0:Int} {a1:Int} {Q:Int→Prop}  (hd:law02_Value a0 a1 Q) :
  PFun prog 37 [.int .i64 a0,.int .i64 a1] I (fun _=>o0_ Q):=by
 refine Fun.enter func37 r ntmps37 r (.c (.c .n)) fun w0 M=>?_
 refine .sr (.ks 1 r (.nilS [1,0] r r (.sr (.ks 1 r (.nilS [5,1] r r (.block (.sr (.ks 2 r (.nilS [12,5,1] r r ?_)))))))))
 refine .condP r hd (fun hb1 hd=>?_) fun hb1 hd=>?_
 · exact .sr (.ks 2 r (.nilS [4] r r (.ret (pret results37 (.t r .n) (.refl _) ⟨a1,r,hd⟩))))
 refine .sr (.ks 2 r (.nilS [15,1] r r (.condP r hd (fun hb2 hd=>?_) fun hb2 hd=>?_)))
 · exact .sr (.ks 3 r (.nilS [4] r r (.ret (pret results37 (.t r .n) (.refl _) ⟨(bnd .i64 a1 1),r,hd⟩))))
 refine .sr (.ks 3 r (.nilS [1] r r (.seq (.sr (.ks 1 r (.rem r r (by decide) r r (.ks 1 r (.nilS [10,1] r r (.condP r hd (fun hb3 hd=>?_) fun hb3 hd=>?_)))))))))
 · exact .sr (.ks 1 r (.nilS [4] r r (.ret (pret results37 (.t r .n) (.refl _) ⟨4611686018427387904,r,hd⟩))))
 exact .skipS [1] r r (.sr (.ks 2 r (.nilS [4] r r (.ret (pret results37 (.t r .n) (.refl _) ⟨(bnd .i64 a1 4611686018427387903),r,hd⟩)))))
theorem W_law02_Factor {I:IH} {a0:Int} {a1:Int} {Q:Int→Prop}  (hd:law02_Factor a0 a1 Q) :
  PFun prog 34 [.int .i64 a0,.int .i64 a1] I (fun _=>o0_ Q):=by
 refine Fun.enter func34 r ntmps34 r (.c (.c .n)) fun w0 M=>?_
 refine .sr (.ks 1 r (.nilS [1,0] r r (.seq (.sr (.ks 2 r (.nilS [6,1,0] r r (.condP r hd (fun hb1 hd=>?_) fun hb1 hd=>?_)))))))
 · exact .sr (.ks 1 r (.rem r r (by decide) r r (.ks 1 r (.nilS [4] r r (.ret (pret results34 (.t r .n) (.refl _) ⟨(a1.tmod 2147483648),r,hd⟩))))))
 refine .skipS [1,0] r r (.sr (.ks 2 r ?_))
 have hw3:=W_law02_Value (I:=I) hd
 refine .callP call37 r hw3 r r fun v4 hv5=>?_
 obtain ⟨r2,rfl,hd⟩:=hv5
 exact .ks 1 r (.nilS [4] r r (.ret (pret results34 (.t r .n) (.refl _) ⟨r2,r,hd⟩)))
theorem W_law13_Task_Matrix {I:IH} {a0:Law13_Task} {p1:Option Addr} {c2:Nat} {p4:Option Addr} {c5:Nat} {p7:Option Addr} {c8:Nat} {p10:Option Addr} {c11:Nat} {Q:Rows→Prop} (R3:RepSl eTriple I p1 c2 a0.L) (R6:RepSl eItem I p4 c5 a0.X) (R9:RepSl eItem I p7 c8 a0.Y) (R12:RepSl eU64 I p10 c11 a0.F) (hd:law13_Task_Matrix a0 Q) :
  PFun prog 8 [.agg #[.int .i64 a0.Ring,.int .u8 a0.Size.1,.int .u8 a0.Size.2,.slice p1 a0.L.length c2,.slice p4 a0.X.length c5,.slice p7 a0.Y.length c8,.slice p10 a0.F.length c11,.bool a0.Others]] I (fun I_ v=>∃ r p13 c14 p16 c17 p19 c20,v=.agg #[.int .i64 r.Rows,.int .i64 r.Cols,.slice p13 r.Start.length c14,.slice p16 r.Col.length c17,.slice p19 r.Val.length c20]∧RepSl eI64 I_ p13 c14 r.Start∧RepSl eI64 I_ p16 c17 r.Col∧RepSl eI64 I_ p19 c20 r.Val∧Q r):=by
 refine Fun.enter func8 r ntmps8 r (.c .n) fun w0 M=>?_
 refine .sr (.boxA r r r fun b26=>?_)
 refine .allocA zv34 r r fun b28=>?_
 refine .nilS [2,1] r r (.sr (.fa un28 r sizeOf23 r (o:=1) r r r (.loadA isAgg23 sizeOf23 r (.s .z) (.s (.t (.t .nil))) r r r (.fa un28 r sizeOf24 r (o:=3) r r r (.load1 isAgg24 r (.s .z) r r r ?_)))))
 have hw63:=W_law07_Some (I:=I) R3 hd
 refine .call call32 r hw63 r r fun v52 I49 hl50 hv51=>?_
 obtain ⟨r48,p54,c55,p57,c58,p60,c61,rfl,R56,R59,R62,hd⟩:=hv51
 replace R3:=R3.mono hl50
 replace R6:=R6.mono hl50
 replace R9:=R9.mono hl50
 replace R12:=R12.mono hl50
 refine .allocA zv34 r r fun b64=>?_
 refine .storeA sz34 r r .z (.t (.t (.t (.t (.t .nil))))) r r (.nilS [3,2,1] r r (.sr (.fa un28 r sizeOf22 r (o:=0) r r r (.load1 isAgg22 r (.s (.s .z)) r r r ?_))))
 have hw71:=W_law13_Right (I:=I49) hd
 refine .callP call33 r hw71 r r fun v72 hv73=>?_
 obtain ⟨r70,rfl,hd⟩:=hv73
 refine .ks 1 r (.nilS [4,3,2] r r (.drop (.s (.s .z)) (.sr (.ks 1 r (.nilS [5,4,3,2] r r (.seq (.sr (.ks 1 r (.nilS [6,5,4,3,2] r r ?_)))))))))
 refine .block (.own0 eI64 2 (.loop hd (fun (s:(List Int)×Int) c w=>match s with | (s132,s136)=>∃ I_ p133 c134,IH.le I49 I_∧Ok ⟨35,[],none⟩ [(2,.pointer (some ⟨b28,0,none⟩)),(3,.pointer (some ⟨b64,0,none⟩)),(4,.int .i64 r70),(5,.slice p133 s132.length c134),(6,.int .i64 s136)] c∧Sym w0 M I I_ [pto b28 (.cells #[.int .i64 0,.int .i64 0,.slice none 0 0,.slice none 0 0,.slice none 0 0] 34 (0,0)),pto b64 (.cells #[.int .i64 r48.Rows,.int .i64 r48.Cols,.slice p54 r48.Start.length c55,.slice p57 r48.Col.length c58,.slice p60 r48.Val.length c61] 34 (0,0)),OwnSl eI64 2 p133 c134 s132] w) (fun c w ho hs=>⟨I49,_,_,(.refl _),ho.sub ⟨r,r,r,r,r,trivial⟩,hs.pick (.c (.s (.s .z)) (.c (.s .z) (.c .z .n)))⟩) ?_))
 rintro ⟨s132,s136⟩ next138 hd c w hst
 obtain ⟨I139,p133,c134,hl140,hok,hsym⟩:=hst
 have le141:=IH.le.trans hl50 hl140
 replace R56:=R56.mono hl140
 replace R59:=R59.mono hl140
 replace R62:=R62.mono hl140
 refine Cod.at hok hsym (.seq (.sr (.ks 1 r (.fa un34 r sz32 r (o:=4) r r r (.load1 ia32 r (.s .z) r r r (.len un32 r r r r (.ks 1 r (.nilS [19,6,5,4,3,2] r r (.condP r hd (fun hb143 hd=>?_) fun hb143 hd=>?_)))))))))
 · refine .skipS [6,5,4,3,2] r r (.seq (.block (.region (.ks 2 r (.fa un34 r sz32 r (o:=4) r r r (.load1 ia32 r (.s .z) r r r (.ks 1 r ?_)))))))
   obtain ⟨h144,x145,hx146,hd⟩:=hd
   obtain ⟨b147,o148,cs149,e150,hC151,hr152⟩:=R62.2 _ _ hx146
   cases hr152
   refine .ixa un32 sz2 r e150 r h144 (idx_lt hx146 h144) r r (.ld1 (j:=0) ia2 hC151 r r r r r ?_)
   have hw154:=W_law02_Factor (I:=I139) hd
   refine .callP call34 r hw154 r r fun v155 hv156=>?_
   obtain ⟨r153,rfl,hd⟩:=hv156
   refine .buildSlice 1 un32 sz2 zeroValue2 r r (.c r r r .n) r r fun b157=>?_
   obtain ⟨hl159,hd⟩:=hd
   refine .append (ys:=[r153]) 8 (.s (.s (.s .z))) un32 un32 IN2 r r r r r r r r r (.box .z (.one r) r) hl159 r r fun p160 c161=>?_
   exact .ks 1 r (.nilS [5,6,4,3,2] r r (.drop (.s .z) (.region (.ks 3 r (.nil' fun c w ho hs=>⟨((s132++([r153])),w64 (s136+1)),hd,I139,_,_,hl140,ho.sub ⟨r,r,r,r,r,trivial⟩,hs.pick (.c (.s .z) (.c (.s .z) (.c .z .n)))⟩)))))
 refine .exitS [5,3,2] r r (.sr (.ks 1 r (.fa un34 r sz32 r (o:=4) r r r (.store1 sz32 r r (.s .z) (.s (.s (.s (.s (.t .nil))))) r (.nilS [3,2] r r (.sr (.loadW ia34 sz34 r (.s .z) r r r (.storeA sz34 r r .z (.t (.t (.t (.t (.t .nil))))) r r (.nilS [2] r r ?_)))))))))
 refine .drop (.s .z) (.pub (.s .z) fun I163 hl164 R165=>?_)
 have le166:=IH.le.trans le141 hl164
 have le167:=IH.le.trans hl140 hl164
 replace R56:=R56.mono hl164
 replace R59:=R59.mono hl164
 exact .ret (pret results8 (.w ia34 sz34 r .z r .n) le166 ⟨({ Rows:=r48.Rows,Cols:=r48.Cols,Start:=r48.Start,Col:=r48.Col,Val:=s132 }:Rows),_,_,_,_,_,_,r,R56,R59,R165,hd⟩)
theorem W_ref09_Of {I:IH} {a0:Int} {a1:Int} {a2:List Item} {p1:Option Addr} {c2:Nat} {Q:(Vec×Int)→Prop} (R3:RepSl eItem I p1 c2 a2) (hd:ref09_Of a0 a1 a2 Q) :
  PFun prog 87 [.int .i64 a0,.int .i64 a1,.slice p1 a2.length c2] I (o7_ Q):=by
 refine Fun.enter func87 r ntmps87 r (.c (.c (.c .n))) fun w0 M=>?_
 refine .sr (.allocA zv37 r r fun b9=>?_)
 refine .ks 1 r (.nilS [6,2,1,0] r r (.seq (.sr (.ks 1 r ?_))))
 have hw17:=W_ref02_Is (I:=I) hd
 refine .callP call77 r hw17 r r fun v18 hv19=>?_
 obtain ⟨r16,rfl,hd⟩:=hv19
 refine .ks 1 r (.nilS [15,6,2,1,0] r r (.condP r hd (fun hb20 hd=>?_) fun hb20 hd=>?_))
 · exact .sr (.build zv37 un37 BI37 .n (by exact trivial) r r (.storeA sz37 r r .z (.t (.t .nil)) r r (.ks 1 r (.nilS [7,6] r r (.ret (pret results87 (.w ia37 sz37 r .z r (.t r .n)) (.refl _) ⟨(({ N:=0,Items:=([]:List Item) }:Vec),8),_,_,r,(.nil _ _ _),hd⟩))))))
 refine .skipS [6,2,1,0] r r (.seq (.sr (.ks 3 r ?_)))
 refine splitP hd (fun hb23 hd=>?_) fun hb23 hd=>?_
 · rw [hb23]
   exact .ks 3 r (.nilS [22,6,2,1,0] r r (.condKT r r (.sr (.build zv37 un37 BI37 .n (by exact trivial) r r (.storeA sz37 r r .z (.t (.t .nil)) r r (.ks 1 r (.nilS [7,6] r r (.ret (pret results87 (.w ia37 sz37 r .z r (.t r .n)) (.refl _) ⟨(({ N:=0,Items:=([]:List Item) }:Vec),3),_,_,r,(.nil _ _ _),hd⟩)))))))))
 rw [hb23]
 refine .ks 3 r (.nilS [22,6,2,1,0] r r (.condP r hd (fun hb24 hd=>?_) fun hb24 hd=>?_))
 · exact .sr (.build zv37 un37 BI37 .n (by exact trivial) r r (.storeA sz37 r r .z (.t (.t .nil)) r r (.ks 1 r (.nilS [7,6] r r (.ret (pret results87 (.w ia37 sz37 r .z r (.t r .n)) (.refl _) ⟨(({ N:=0,Items:=([]:List Item) }:Vec),3),_,_,r,(.nil _ _ _),hd⟩))))))
 refine .skipS [6,2,1,0] r r (.sr (.ks 1 r (.nilS [8,6,2,1,0] r r (.seq (.sr (.ks 1 r (.nilS [9,8,6,2,1,0] r r (.block (.own0 eEdge 123 ?_)))))))))
 refine .loop hd (fun (s:(List Edge)×Int) c w=>match s with | (s399,s403)=>∃ I_ p400 c401,IH.le I I_∧Ok ⟨95,[],none⟩ [(0,.int .i64 a0),(1,.int .i64 a1),(2,.slice p1 a2.length c2),(6,.pointer (some ⟨b9,0,none⟩)),(8,.slice p400 s399.length c401),(9,.int .i64 s403)] c∧Sym w0 M I I_ [pto b9 (.cells #[.int .i64 0,.slice none 0 0] 37 (0,0)),OwnSl eEdge 123 p400 c401 s399] w) (fun c w ho hs=>⟨I,_,_,(.refl _),ho.sub ⟨r,r,r,r,r,r,trivial⟩,hs.pick (.c (.s .z) (.c .z .n))⟩) ?_
 rintro ⟨s399,s403⟩ next405 hd c w hst
 obtain ⟨I406,p400,c401,hl407,hok,hsym⟩:=hst
 replace R3:=R3.mono hl407
 refine Cod.at hok hsym (.seq (.sr (.ks 2 r (.len un25 r r r r (.ks 1 r (.nilS [27,9,8,6,2,1,0] r r (.condP r hd (fun hb409 hd=>?_) fun hb409 hd=>?_)))))))
 · refine .skipS [9,8,6,2,1,0] r r (.seq (.block (.seq (.sr (.ks 2 r ?_)))))
   obtain ⟨h430,x431,hx432,hd⟩:=hd
   obtain ⟨b433,o434,cs435,e436,hC437,hr438⟩:=R3.2 _ _ hx432
   cases hr438
   refine .ixa un25 sz72 r e436 r h430 (idx_lt hx432 h430) r r (.fa un72 r sz3 r (o:=o434+s403.toNat*2) r r r (.ld1 (j:=0) ia3 hC437 r r r r r (.ks 2 r ?_)))
   refine splitP hd (fun hb439 hd=>?_) fun hb439 hd=>?_
   · rw [hb439]
     exact .ks 8 r (.nilS [44,9,8,6,2,1,0] r r (.condKT r r (.sr (.build zv37 un37 BI37 .n (by exact trivial) r r (.storeA sz37 r r .z (.t (.t .nil)) r r (.ks 1 r (.nilS [7,6] r r (.drop (.s .z) (.ret (pret results87 (.w ia37 sz37 r .z r (.t r .n)) hl407 ⟨(({ N:=0,Items:=([]:List Item) }:Vec),3),_,_,r,(.nil _ _ _),hd⟩))))))))))
   rw [hb439]
   refine .ks 2 r ?_
   obtain ⟨h440,x441,hx442,hd⟩:=hd
   obtain ⟨b443,o444,cs445,e446,hC447,hr448⟩:=R3.2 _ _ hx442
   cases hr448
   refine .gyes r r r (.ixa un25 sz72 r e446 r h440 (idx_lt hx442 h440) r r (.gyes r r r (.fa un72 r sz3 r (o:=o444+s403.toNat*2) r r r (.gyes r r r (.ld1 (j:=0) ia3 hC447 r r r r r (.ks 3 r (.nilS [44,9,8,6,2,1,0] r r (.condP r hd (fun hb449 hd=>?_) fun hb449 hd=>?_))))))))
   · exact .sr (.build zv37 un37 BI37 .n (by exact trivial) r r (.storeA sz37 r r .z (.t (.t .nil)) r r (.ks 1 r (.nilS [7,6] r r (.drop (.s .z) (.ret (pret results87 (.w ia37 sz37 r .z r (.t r .n)) hl407 ⟨(({ N:=0,Items:=([]:List Item) }:Vec),3),_,_,r,(.nil _ _ _),hd⟩)))))))
   refine .skipS [9,8,6,2,1,0] r r (.ownF (.s .z) fun hne450=>?_)
   refine .dr [0,1,2,3,4,5,6,7,8,9,10,11,12,13] 14 (.fk 3 r ?_)
   obtain ⟨h451,x452,hx453,hd⟩:=hd
   obtain ⟨b454,o455,cs456,e457,hC458,hr459⟩:=R3.2 _ _ hx453
   cases hr459
   refine .g r r r (fun _=>.ixa un25 sz72 r e457 r h451 (idx_lt hx453 h451) r r .mk) (.g r r r (fun _=>.fa un72 r sz3 r (o:=o455+s403.toNat*2) r r r .mk) (.g r r r (fun _=>.ld1 (j:=0) ia3 hC458 r r r r r .mk) (.fk 2 r ?_)))
   obtain ⟨h460,x461,hx462,hd⟩:=hd
   obtain ⟨b463,o464,cs465,e466,hC467,hr468⟩:=R3.2 _ _ hx462
   cases hr468
   refine .g r r r (fun _=>.ixa un25 sz72 r e466 r h460 (idx_lt hx462 h460) r r .mk) (.g r r r (fun _=>.fa un72 r sz2 r (o:=o464+s403.toNat*2+1) r r r .mk) (.g r r r (fun _=>.ld1 (j:=1) ia2 hC467 r r r r r .mk) (.g r r r (fun _=>.build zv123 un123 BI123 (.c r r r (.s (.t .nil)) (.c r r r (.s (.s (.t .nil))) .n)) (by exact ⟨⟨_,_,r,r,r⟩,⟨⟨_,_,r,r,r⟩,trivial⟩⟩) r r .mk) (.ww r fun ex=>?_))))
   refine .buildSlice 1 un121 sz123 zv123 r r (.c r r r .n) r r fun b469=>?_
   refine .so 3 r r r (.ck 1 r r trivial) (.ww r fun ex=>?_)
   obtain ⟨hl471,hd⟩:=hd
   refine .append (ys:=[({ From:=0,To:=x452.At,W:=x461.Val }:Edge)]) 24 (.s (.s .z)) un121 un121 IN123 r r r r r r r r r (.box .z (.one r) r) hl471 r r fun p472 c473=>?_
   exact .so 3 r r r trivial (.e2 14 (.ks 1 r (.nilS [8,9,6,2,1,0] r r (.drop (.s .z) (.region (.ks 3 r (.nil' fun c w ho hs=>⟨((s399++([({ From:=0,To:=x452.At,W:=x461.Val }:Edge)])),w64 (s403+1)),hd,I406,_,_,hl407,ho.sub ⟨r,r,r,r,r,r,trivial⟩,hs.pick (.c (.s .z) (.c .z .n))⟩)))))))
 refine .exitS [8,6,1,0] r r (.sr (.ks 2 r (.pub (.s .z) fun I490 hl491 R492=>?_)))
 have le493:=IH.le.trans hl407 hl491
 have hw503:=W_ref05_Combine (I:=I490) R492 hd
 refine .call call88 r hw503 r r fun v498 I495 hl496 hv497=>?_
 obtain ⟨r494,p500,c501,rfl,R502,hd⟩:=hv497
 have le504:=IH.le.trans le493 hl496
 replace R492:=R492.mono hl496
 refine .ks 5 r (.nilS [10,8,6,1] r r (.seq (.sr (.ks 2 r (.nilS [67,10,8,6,1] r r (.condP r hd (fun hb506 hd=>?_) fun hb506 hd=>?_))))))
 · exact .sr (.build zv37 un37 BI37 .n (by exact trivial) r r (.ks 1 r (.storeA sz37 r r .z (.t (.t .nil)) r r (.ks 1 r (.nilS [7,6] r r (.ret (pret results87 (.w ia37 sz37 r .z r (.t r .n)) le504 ⟨(({ N:=0,Items:=([]:List Item) }:Vec),r494.2),_,_,r,(.nil _ _ _),hd⟩)))))))
 refine .skipS [8,6,1] r r (.sr (.ks 1 r (.build zv37 un37 BI37 (.c r r r (.t .nil) .n) (by exact ⟨⟨_,_,r,r,r⟩,trivial⟩) r r (.allocA zv37 r r fun b509=>?_))))
 refine .storeA sz37 r r .z (.t (.t .nil)) r r (.nilS [11,8,6] r r (.seq (.sr (.ks 1 r (.nilS [12,11,8,6] r r (.block (.own0 eItem 72 (.loop hd (fun (s:(List Item)×Int) c w=>match s with | (s580,s584)=>∃ I_ p581 c582,IH.le I495 I_∧Ok ⟨95,[],none⟩ [(6,.pointer (some ⟨b9,0,none⟩)),(8,.slice p500 r494.1.length c501),(11,.pointer (some ⟨b509,0,none⟩)),(12,.int .i64 s584)] c∧Sym w0 M I I_ [pto b9 (.cells #[.int .i64 0,.slice none 0 0] 37 (0,0)),pto b509 (.cells #[.int .i64 a1,.slice p581 s580.length c582] 37 (0,0)),OwnSl eItem 72 p581 c582 s580] w) (fun c w ho hs=>⟨I495,_,_,(.refl _),ho.sub ⟨r,r,r,r,trivial⟩,hs.pick (.c (.s (.s .z)) (.c (.s .z) (.c .z .n)))⟩) ?_))))))))
 rintro ⟨s580,s584⟩ next586 hd c w hst
 obtain ⟨I587,p581,c582,hl588,hok,hsym⟩:=hst
 have le589:=IH.le.trans le504 hl588
 replace R502:=R502.mono hl588
 refine Cod.at hok hsym (.seq (.sr (.ks 2 r (.len un121 r r r r (.ks 1 r (.nilS [75,12,11,8,6] r r (.condP r hd (fun hb591 hd=>?_) fun hb591 hd=>?_)))))))
 · refine .skipS [12,11,8,6] r r (.seq (.block (.ownF (.s (.s .z)) fun hne592=>?_)))
   refine .dr [0,1,2,3,4,5,6,7,8,9,10,11,12,13,14] 15 (.g r r r (fun _=>.fa un37 r sz25 r (o:=1) r r r .mk) (.g r r r (fun _=>.load1 ia25 r (.s .z) r r r .mk) (.fk 2 r ?_)))
   obtain ⟨h593,x594,hx595,hd⟩:=hd
   obtain ⟨b596,o597,cs598,e599,hC600,hr601⟩:=R502.2 _ _ hx595
   cases hr601
   refine .g r r r (fun _=>.ixa un121 sz123 r e599 r h593 (idx_lt hx595 h593) r r .mk) (.g r r r (fun _=>.fa un123 r sz3 r (o:=o597+s584.toNat*3+1) r r r .mk) (.g r r r (fun _=>.ld1 (j:=1) ia3 hC600 r r r r r .mk) (.fk 2 r ?_)))
   obtain ⟨h602,x603,hx604,hd⟩:=hd
   obtain ⟨b605,o606,cs607,e608,hC609,hr610⟩:=R502.2 _ _ hx604
   cases hr610
   refine .g r r r (fun _=>.ixa un121 sz123 r e608 r h602 (idx_lt hx604 h602) r r .mk) (.g r r r (fun _=>.fa un123 r sz2 r (o:=o606+s584.toNat*3+2) r r r .mk) (.g r r r (fun _=>.ld1 (j:=2) ia2 hC609 r r r r r .mk) (.g r r r (fun _=>.build zv72 un72 BI72 (.c r r r (.t .nil) (.c r r r (.s (.t .nil)) .n)) (by exact ⟨⟨_,_,r,r,r⟩,⟨⟨_,_,r,r,r⟩,trivial⟩⟩) r r .mk) (.ww r fun ex=>?_))))
   refine .buildSlice 1 un25 sz72 zv72 r r (.c r r r .n) r r fun b611=>?_
   refine .so 4 r r r (.cg r r r r (fun _=>.load1 ia25 r (.s (.s .z)) r r r .mk) (.cg r r r r (fun _=>.fa un37 r sz25 r (o:=1) r r r .mk) trivial)) (.ww r fun ex=>?_)
   obtain ⟨hl613,hd⟩:=hd
   refine .append (ys:=[({ At:=x594.To,Val:=x603.W }:Item)]) 16 (.s (.s (.s .z))) un25 un25 IN72 r r r r r r r r r (.box .z (.one r) r) hl613 r r fun p614 c615=>?_
   exact .so 4 r r r trivial (.e2 15 (.fa un37 r sz25 r (o:=1) r r r (.store1 sz25 r r (.s (.s (.s .z))) (.s (.t .nil)) r (.nilS [12,11,8,6] r r (.drop (.s .z) (.region (.ks 3 r (.nil' fun c w ho hs=>⟨((s580++([({ At:=x594.To,Val:=x603.W }:Item)])),w64 (s584+1)),hd,I587,_,_,hl588,ho.sub ⟨r,r,r,r,trivial⟩,hs.pick (.c (.s .z) (.c (.s .z) (.c .z .n)))⟩))))))))
 refine .exitS [11,6] r r (.sr (.loadW ia37 sz37 r (.s .z) r r r (.storeA sz37 r r .z (.t (.t .nil)) r r (.ks 1 r (.nilS [7,6] r r (.drop (.s .z) (.pub (.s .z) fun I617 hl618 R619=>?_)))))))
 have le620:=IH.le.trans le589 hl618
 have le621:=IH.le.trans hl588 hl618
 exact .ret (pret results87 (.w ia37 sz37 r .z r (.t r .n)) le620 ⟨(({ N:=a1,Items:=s580 }:Vec),0),_,_,r,R619,hd⟩)
theorem W_law09_Some {I:IH} {a0:Int} {a1:List Item} {p1:Option Addr} {c2:Nat} {Q:Vec→Prop} (R3:RepSl eItem I p1 c2 a1) (hd:law09_Some a0 a1 Q) :
  PFun prog 35 [.int .u8 a0,.slice p1 a1.length c2] I (o8_ Q):=by
 refine Fun.enter func35 r ntmps35 r (.c (.c .n)) fun w0 M=>?_
 refine .sr (.allocA zv37 r r fun b9=>?_)
 refine .nilS [4,1,0] r r (.sr (.ks 1 r (.conv underlying5 un3 r r r (.rem r r (by decide) r r (.ks 1 r (.nilS [5,4,1] r r (.sr (.ks 1 r (.nilS [6,5,4,1] r r ?_)))))))))
 refine .seq ?_
 refine Cod.joinQ (σ:=(List Item)) hd (fun (s361:(List Item)) c w=>∃ I_ p362 c363,IH.le I I_∧Ok ⟨56,[],none⟩ [(4,.pointer (some ⟨b9,0,none⟩)),(5,.int .i64 ((w64 (a0)).tmod 60)),(6,.slice p362 s361.length c363)] c∧Sym w0 M I I_ [pto b9 (.cells #[.int .i64 0,.slice none 0 0] 37 (0,0)),OwnSl eItem 72 p362 c363 s361] w) (fun k365 hd=>?_) ?_
 · skip
   refine .sr (.ks 1 r (.nilS [7,6,5,4,1] r r (.block (.own0 eItem 72 (.loop hd (fun (s:(List Item)×Int) c w=>match s with | (s481,s485)=>∃ I_ p482 c483,IH.le I I_∧Ok ⟨56,[],none⟩ [(1,.slice p1 a1.length c2),(4,.pointer (some ⟨b9,0,none⟩)),(5,.int .i64 ((w64 (a0)).tmod 60)),(6,.slice p482 s481.length c483),(7,.int .i64 s485)] c∧Sym w0 M I I_ [pto b9 (.cells #[.int .i64 0,.slice none 0 0] 37 (0,0)),OwnSl eItem 72 p482 c483 s481] w) (fun c w ho hs=>⟨I,_,_,(.refl _),ho.sub ⟨r,r,r,r,r,trivial⟩,hs.pick (.c (.s .z) (.c .z .n))⟩) ?_)))))
   rintro ⟨s481,s485⟩ next487 hd c w hst
   obtain ⟨I488,p482,c483,hl489,hok,hsym⟩:=hst
   replace R3:=R3.mono hl489
   refine Cod.at hok hsym (.seq (.sr (.ks 2 r (.len un25 r r r r (.ks 2 r ?_)))))
   refine splitP hd (fun hb493 hd=>?_) fun hb493 hd=>?_
   · rw [hb493]
     refine .ks 4 r ?_
     refine splitP hd (fun hb494 hd=>?_) fun hb494 hd=>?_
     · rw [hb494]
       refine .ks 3 r (.nilS [24,7,6,5,4,1] r r (.condP r hd (fun hb495 hd=>?_) fun hb495 hd=>?_))
       · refine .skipS [7,6,5,4,1] r r (.seq (.block (.sr (.ks 2 r ?_))))
         obtain ⟨h505,x506,hx507,hd⟩:=hd
         obtain ⟨b508,o509,cs510,e511,hC512,hr513⟩:=R3.2 _ _ hx507
         cases hr513
         refine .ixa un25 sz72 r e511 r h505 (idx_lt hx507 h505) r r (.fa un72 r sz3 r (o:=o509+s485.toNat*2) r r r (.ld1 (j:=0) ia3 hC512 r r r r r (.ks 1 r (.nilS [32,7,6,5,4,1] r r (.condP r hd (fun hb514 hd=>?_) fun hb514 hd=>?_)))))
         · refine .ownF (.s .z) fun hne515=>?_
           refine .dr [0,1,2,3,4,5,6,7,8,9,10,11,12,13,14,15] 16 (.fk 3 r ?_)
           obtain ⟨h516,x517,hx518,hd⟩:=hd
           obtain ⟨b519,o520,cs521,e522,hC523,hr524⟩:=R3.2 _ _ hx518
           cases hr524
           refine .g r r r (fun _=>.ixa un25 sz72 r e522 r h516 (idx_lt hx518 h516) r r .mk) (.g r r r (fun _=>.fa un72 r sz3 r (o:=o520+s485.toNat*2) r r r .mk) (.g r r r (fun _=>.ld1 (j:=0) ia3 hC523 r r r r r .mk) (.fk 1 r ?_)))
           obtain ⟨hz525,hd⟩:=hd
           refine .g r r r (fun _=>.rem r r hz525 r r .mk) (.fk 2 r ?_)
           obtain ⟨h526,x527,hx528,hd⟩:=hd
           obtain ⟨b529,o530,cs531,e532,hC533,hr534⟩:=R3.2 _ _ hx528
           cases hr534
           refine .g r r r (fun _=>.ixa un25 sz72 r e532 r h526 (idx_lt hx528 h526) r r .mk) (.g r r r (fun _=>.fa un72 r sz2 r (o:=o530+s485.toNat*2+1) r r r .mk) (.g r r r (fun _=>.ld1 (j:=1) ia2 hC533 r r r r r .mk) (.g r r r (fun _=>.build zv72 un72 BI72 (.c r r r (.t .nil) (.c r r r (.s (.t .nil)) .n)) (by exact ⟨⟨_,_,r,r,r⟩,⟨⟨_,_,r,r,r⟩,trivial⟩⟩) r r .mk) (.ww r fun ex=>?_))))
           refine .buildSlice 1 un25 sz72 zv72 r r (.c r r r .n) r r fun b535=>?_
           refine .so 3 r r r (.ck 1 r r trivial) (.ww r fun ex=>?_)
           obtain ⟨hl537,hd⟩:=hd
           refine .append (ys:=[({ At:=x517.At.tmod ((w64 (a0)).tmod 60),Val:=x527.Val }:Item)]) 16 (.s (.s .z)) un25 un25 IN72 r r r r r r r r r (.box .z (.one r) r) hl537 r r fun p538 c539=>?_
           exact .so 3 r r r trivial (.e2 16 (.ks 1 r (.nilS [6,7,5,4,1] r r (.drop (.s .z) (.region (.ks 3 r (.nil' fun c w ho hs=>⟨((s481++([({ At:=x517.At.tmod ((w64 (a0)).tmod 60),Val:=x527.Val }:Item)])),w64 (s485+1)),hd,I488,_,_,hl489,ho.sub ⟨r,r,r,r,r,trivial⟩,hs.pick (.c (.s .z) (.c .z .n))⟩)))))))
         exact .skipS [7,6,5,4,1] r r (.region (.ks 3 r (.nil' fun c w ho hs=>⟨(s481,w64 (s485+1)),hd,I488,_,_,hl489,ho.sub ⟨r,r,r,r,r,trivial⟩,hs.pick (.c .z (.c .z .n))⟩)))
       exact .exit fun c w ho hs=>⟨s481,hd,I488,_,_,hl489,ho.sub ⟨r,r,r,trivial⟩,hs.pick (.c .z (.c .z .n))⟩
     rw [hb494]
     exact .ks 3 r (.nilS [24,7,6,5,4,1] r r (.condKF r r (.exit fun c w ho hs=>⟨s481,hd,I488,_,_,hl489,ho.sub ⟨r,r,r,trivial⟩,hs.pick (.c .z (.c .z .n))⟩)))
   rw [hb493]
   exact .ks 7 r (.nilS [24,7,6,5,4,1] r r (.condKF r r (.exit fun c w ho hs=>⟨s481,hd,I488,_,_,hl489,ho.sub ⟨r,r,r,trivial⟩,hs.pick (.c .z (.c .z .n))⟩)))
 rintro s361 hd c w hst
 obtain ⟨I541,p362,c363,hl542,hok,hsym⟩:=hst
 refine Cod.at hok hsym (.sr (.ks 2 r (.pub (.s .z) fun I543 hl544 R545=>?_)))
 have le546:=IH.le.trans hl542 hl544
 have hw556:=W_ref09_Of (I:=I543) R545 hd
 refine .call call87 r hw556 r r fun v551 I548 hl549 hv550=>?_
 obtain ⟨r547,p553,c554,rfl,R555,hd⟩:=hv550
 have le557:=IH.le.trans le546 hl549
 replace R545:=R545.mono hl549
 refine .ks 3 r (.allocA zv37 r r fun b558=>?_)
 exact .storeA sz37 r r .z (.t (.t .nil)) r r (.ks 1 r (.nilS [8,4] r r (.sr (.loadW ia37 sz37 r .z r r r (.storeA sz37 r r (.s .z) (.t (.t .nil)) r r (.nilS [4] r r (.drop .z (.ret (pret results35 (.w ia37 sz37 r .z r .n) le557 ⟨r547.1,_,_,r,R555,hd⟩)))))))))
theorem W_law13_Task_Vector {I:IH} {a0:Law13_Task} {a1:List Item} {p1:Option Addr} {c2:Nat} {p4:Option Addr} {c5:Nat} {p7:Option Addr} {c8:Nat} {p10:Option Addr} {c11:Nat} {p13:Option Addr} {c14:Nat} {Q:Vec→Prop} (R3:RepSl eTriple I p1 c2 a0.L) (R6:RepSl eItem I p4 c5 a0.X) (R9:RepSl eItem I p7 c8 a0.Y) (R12:RepSl eU64 I p10 c11 a0.F) (R15:RepSl eItem I p13 c14 a1) (hd:law13_Task_Vector a0 a1 Q) :
  PFun prog 9 [.agg #[.int .i64 a0.Ring,.int .u8 a0.Size.1,.int .u8 a0.Size.2,.slice p1 a0.L.length c2,.slice p4 a0.X.length c5,.slice p7 a0.Y.length c8,.slice p10 a0.F.length c11,.bool a0.Others],.slice p13 a1.length c14] I (fun I_ v=>∃ r p16 c17,v=.agg #[.int .i64 r.N,.slice p16 r.Items.length c17]∧RepSl eItem I_ p16 c17 r.Items∧Q r):=by
 refine Fun.enter func9 r ntmps9 r (.c (.c .n)) fun w0 M=>?_
 refine .sr (.boxA r r r fun b23=>?_)
 refine .allocA zv37 r r fun b25=>?_
 refine .nilS [4,2,1] r r (.sr (.fa un28 r sizeOf23 r (o:=1) r r r (.ixArr (i:=1) underlying23 sizeOf5 r r (by decide) (o:=2) r r r (.load1 isAgg5 r (.s .z) r r r ?_))))
 have hw44:=W_law07_Size (I:=I) hd
 refine .callP call36 r hw44 r r fun v45 hv46=>?_
 obtain ⟨r43,rfl,hd⟩:=hv46
 refine .conv un3 underlying5 r r r (.ks 1 r ?_)
 have hw56:=W_law09_Some (I:=I) R15 hd
 refine .call call35 r hw56 r r fun v51 I48 hl49 hv50=>?_
 obtain ⟨r47,p53,c54,rfl,R55,hd⟩:=hv50
 replace R3:=R3.mono hl49
 replace R6:=R6.mono hl49
 replace R9:=R9.mono hl49
 replace R12:=R12.mono hl49
 replace R15:=R15.mono hl49
 refine .allocA zv37 r r fun b57=>?_
 refine .storeA sz37 r r .z (.t (.t .nil)) r r (.nilS [5,4,2] r r (.sr (.ks 1 r (.nilS [6,5,4,2] r r (.seq (.sr (.ks 1 r (.nilS [7,6,5,4,2] r r (.block ?_)))))))))
 refine .own0 eItem 72 (.loop hd (fun (s:(List Item)×Int) c w=>match s with | (s144,s148)=>∃ I_ p145 c146,IH.le I48 I_∧Ok ⟨46,[],none⟩ [(2,.pointer (some ⟨b23,0,none⟩)),(4,.pointer (some ⟨b25,0,none⟩)),(5,.pointer (some ⟨b57,0,none⟩)),(6,.slice p145 s144.length c146),(7,.int .i64 s148)] c∧Sym w0 M I I_ [pto b23 (.cells #[.int .i64 a0.Ring,.int .u8 a0.Size.1,.int .u8 a0.Size.2,.slice p1 a0.L.length c2,.slice p4 a0.X.length c5,.slice p7 a0.Y.length c8,.slice p10 a0.F.length c11,.bool a0.Others] 28 (0,0)),pto b25 (.cells #[.int .i64 0,.slice none 0 0] 37 (0,0)),pto b57 (.cells #[.int .i64 r47.N,.slice p53 r47.Items.length c54] 37 (0,0)),OwnSl eItem 72 p145 c146 s144] w) (fun c w ho hs=>⟨I48,_,_,(.refl _),ho.sub ⟨r,r,r,r,r,trivial⟩,hs.pick (.c (.s (.s (.s .z))) (.c (.s (.s .z)) (.c (.s .z) (.c .z .n))))⟩) ?_)
 rintro ⟨s144,s148⟩ next150 hd c w hst
 obtain ⟨I151,p145,c146,hl152,hok,hsym⟩:=hst
 have le153:=IH.le.trans hl49 hl152
 replace R3:=R3.mono hl152
 replace R6:=R6.mono hl152
 replace R9:=R9.mono hl152
 replace R12:=R12.mono hl152
 replace R55:=R55.mono hl152
 refine Cod.at hok hsym (.seq (.sr (.ks 1 r (.fa un37 r sz25 r (o:=1) r r r (.load1 ia25 r (.s (.s .z)) r r r (.len un25 r r r r (.ks 1 r (.nilS [19,7,6,5,4,2] r r (.condP r hd (fun hb155 hd=>?_) fun hb155 hd=>?_)))))))))
 · refine .skipS [7,6,5,4,2] r r (.seq (.block (.ownF (.s (.s (.s .z))) fun hne156=>?_)))
   refine .dr [0,1,2,3,4,5,6,7,8,10,11,12,13,14,15,9,16,17,18,19] 20 (.fk 1 r (.g r r r (fun _=>.fa un37 r sz25 r (o:=1) r r r .mk) (.g r r r (fun _=>.load1 ia25 r (.s (.s .z)) r r r .mk) (.fk 1 r ?_))))
   obtain ⟨h157,x158,hx159,hd⟩:=hd
   obtain ⟨b160,o161,cs162,e163,hC164,hr165⟩:=R55.2 _ _ hx159
   cases hr165
   refine .g r r r (fun _=>.ixa un25 sz72 r e163 r h157 (idx_lt hx159 h157) r r .mk) (.g r r r (fun _=>.fa un72 r sz3 r (o:=o161+s148.toNat*2) r r r .mk) (.g r r r (fun _=>.ld1 (j:=0) ia3 hC164 r r r r r .mk) (.g r r r (fun _=>.fa un28 r sizeOf22 r (o:=0) r r r .mk) (.g r r r (fun _=>.load1 isAgg22 r .z r r r .mk) (.g r r r (fun _=>.fa un37 r sz25 r (o:=1) r r r .mk) (.g r r r (fun _=>.load1 ia25 r (.s (.s .z)) r r r .mk) (.fk 1 r ?_)))))))
   obtain ⟨h166,x167,hx168,hd⟩:=hd
   obtain ⟨b169,o170,cs171,e172,hC173,hr174⟩:=R55.2 _ _ hx168
   cases hr174
   refine .g r r r (fun _=>.ixa un25 sz72 r e172 r h166 (idx_lt hx168 h166) r r .mk) (.g r r r (fun _=>.fa un72 r sz2 r (o:=o170+s148.toNat*2+1) r r r .mk) (.g r r r (fun _=>.ld1 (j:=1) ia2 hC173 r r r r r .mk) (.ww r fun ex=>?_)))
   have hw176:=W_law13_Right (I:=I151) hd
   refine .callP call33 r hw176 r r fun v177 hv178=>?_
   obtain ⟨r175,rfl,hd⟩:=hv178
   refine .so 4 r r r (.cg r r r r (fun _=>.ld1 (j:=1) ia2 hC173 r r r r r .mk) (.cg r r r r (fun _=>.fa un72 r sz2 r (o:=o170+s148.toNat*2+1) r r r .mk) (.cg r r r r (fun _=>.ixa un25 sz72 r e172 r h166 (idx_lt hx168 h166) r r .mk) (.ck 1 r r (.cg r r r r (fun _=>.load1 ia25 r (.s (.s .z)) r r r .mk) (.cg r r r r (fun _=>.fa un37 r sz25 r (o:=1) r r r .mk) (.cg r r r r (fun _=>.ld1 (j:=0) ia3 hC164 r r r r r .mk) (.cg r r r r (fun _=>.fa un72 r sz3 r (o:=o161+s148.toNat*2) r r r .mk) (.cg r r r r (fun _=>.ixa un25 sz72 r e163 r h157 (idx_lt hx159 h157) r r .mk) (.ck 1 r r (.cg r r r r (fun _=>.load1 ia25 r (.s (.s .z)) r r r .mk) (.cg r r r r (fun _=>.fa un37 r sz25 r (o:=1) r r r .mk) (.ck 1 r r trivial))))))))))))) (.ww r fun ex=>?_)
   have hw180:=W_law02_Value (I:=I151) hd
   refine .callP call37 r hw180 r r fun v181 hv182=>?_
   obtain ⟨r179,rfl,hd⟩:=hv182
   refine .so 4 r r r (.cg r r r r (fun _=>.ld1 (j:=0) ia3 hC164 r r r r r .mk) (.cg r r r r (fun _=>.fa un72 r sz3 r (o:=o161+s148.toNat*2) r r r .mk) (.cg r r r r (fun _=>.ixa un25 sz72 r e163 r h157 (idx_lt hx159 h157) r r .mk) (.ck 1 r r (.cg r r r r (fun _=>.load1 ia25 r (.s (.s .z)) r r r .mk) (.cg r r r r (fun _=>.fa un37 r sz25 r (o:=1) r r r .mk) (.ck 1 r r trivial))))))) (.g r r r (fun _=>.build zv72 un72 BI72 (.c r r r (.t .nil) (.c r r r (.s (.t .nil)) .n)) (by exact ⟨⟨_,_,r,r,r⟩,⟨⟨_,_,r,r,r⟩,trivial⟩⟩) r r .mk) (.ww r fun ex=>?_))
   refine .buildSlice 1 un25 sz72 zv72 r r (.c r r r .n) r r fun b183=>?_
   refine .so 5 r r r (.ck 1 r r trivial) (.ww r fun ex=>?_)
   obtain ⟨hl185,hd⟩:=hd
   refine .append (ys:=[({ At:=x158.At,Val:=r179 }:Item)]) 16 (.s (.s (.s (.s .z)))) un25 un25 IN72 r r r r r r r r r (.box .z (.one r) r) hl185 r r fun p186 c187=>?_
   exact .so 5 r r r trivial (.e2 20 (.ks 1 r (.nilS [6,7,5,4,2] r r (.drop (.s .z) (.region (.ks 3 r (.nil' fun c w ho hs=>⟨((s144++([({ At:=x158.At,Val:=r179 }:Item)])),w64 (s148+1)),hd,I151,_,_,hl152,ho.sub ⟨r,r,r,r,r,trivial⟩,hs.pick (.c (.s .z) (.c (.s .z) (.c (.s .z) (.c .z .n))))⟩)))))))
 refine .exitS [6,5,4] r r (.drop .z (.sr (.fa un37 r sz3 r (o:=0) r r r (.load1 ia3 r (.s .z) r r r (.ks 1 r (.build zv37 un37 BI37 (.c r r r (.t .nil) (.c r r r (.s (.t .nil)) .n)) (by exact ⟨⟨_,_,r,r,r⟩,⟨⟨_,_,r,r,r⟩,trivial⟩⟩) r r (.storeA sz37 r r .z (.t (.t .nil)) r r (.nilS [4] r r (.drop (.s .z) ?_)))))))))
 refine .pub (.s .z) fun I189 hl190 R191=>?_
 have le192:=IH.le.trans le153 hl190
 have le193:=IH.le.trans hl152 hl190
 exact .ret (pret results9 (.w ia37 sz37 r .z r .n) le192 ⟨({ N:=r47.N,Items:=s144 }:Vec),_,_,r,R191,hd⟩)
theorem W_ref03_SameInts {I:IH} {a0:List Int} {a1:List Int} {p1:Option Addr} {c2:Nat} {p4:Option Addr} {c5:Nat} {Q:Bool→Prop} (R3:RepSl eI64 I p1 c2 a0) (R6:RepSl eI64 I p4 c5 a1) (hd:ref03_SameInts a0 a1 Q) :
  PFun prog 39 [.slice p1 a0.length c2,.slice p4 a1.length c5] I (fun _=>o1_ Q):=by
 refine Fun.enter func39 r ntmps39 r (.c (.c .n)) fun w0 M=>?_
 refine .sr (.ks 1 r (.nilS [1,0] r r (.seq (.sr (.ks 1 r (.len un31 r r r r (.ks 1 r (.len un31 r r r r (.ks 1 r ?_)))))))))
 refine .nilS [10,1,0] r r (.condP r hd (fun hb8 hd=>?_) fun hb8 hd=>?_)
 · exact .sr (.ks 1 r (.nilS [4] r r (.ret (pret results39 (.t r .n) (.refl _) ⟨false,r,hd⟩))))
 refine .skipS [1,0] r r (.seq (.sr (.ks 1 r (.nilS [5,1,0] r r (.block (.loop hd (fun (s54:Int) c w=>∃ I_,IH.le I I_∧Ok ⟨26,[],none⟩ [(0,.slice p1 a0.length c2),(1,.slice p4 a1.length c5),(5,.int .i64 s54)] c∧Sym w0 M I I_ [] w) (fun c w ho hs=>⟨I,(.refl _),ho.sub ⟨r,r,r,trivial⟩,hs.pick .n⟩) ?_))))))
 rintro s54 next55 hd c w hst
 obtain ⟨I56,hl57,hok,hsym⟩:=hst
 replace R3:=R3.mono hl57
 replace R6:=R6.mono hl57
 refine Cod.at hok hsym (.seq (.sr (.ks 2 r (.len un31 r r r r (.ks 1 r (.nilS [14,5,1,0] r r (.condP r hd (fun hb59 hd=>?_) fun hb59 hd=>?_)))))))
 · refine .skipS [5,1,0] r r (.seq (.block (.seq (.dr [0,1,2,3,4,5,6,7,8] 9 (.fk 2 r ?_)))))
   obtain ⟨h60,x61,hx62,hd⟩:=hd
   obtain ⟨b63,o64,cs65,e66,hC67,hr68⟩:=R3.2 _ _ hx62
   cases hr68
   refine .g r r r (fun _=>.ixa un31 sz3 r e66 r h60 (idx_lt hx62 h60) r r .mk) (.g r r r (fun _=>.ld1 (j:=0) ia3 hC67 r r r r r .mk) (.fk 2 r ?_))
   obtain ⟨h69,x70,hx71,hd⟩:=hd
   obtain ⟨b72,o73,cs74,e75,hC76,hr77⟩:=R6.2 _ _ hx71
   cases hr77
   refine .g r r r (fun _=>.ixa un31 sz3 r e75 r h69 (idx_lt hx71 h69) r r .mk) (.g r r r (fun _=>.ld1 (j:=0) ia3 hC76 r r r r r .mk) (.fk 1 r (.e2 9 (.nilS [25,5,1,0] r r (.condP r hd (fun hb78 hd=>?_) fun hb78 hd=>?_)))))
   · exact .sr (.ks 1 r (.nilS [4] r r (.ret (pret results39 (.t r .n) hl57 ⟨false,r,hd⟩))))
   exact .skipS [5,1,0] r r (.region (.ks 3 r (.nil' fun c w ho hs=>⟨(w64 (s54+1)),hd,I56,hl57,ho.sub ⟨r,r,r,trivial⟩,hs.pick .n⟩)))
 exact .exitS [] r r (.sr (.ks 1 r (.nilS [4] r r (.ret (pret results39 (.t r .n) hl57 ⟨true,r,hd⟩)))))
theorem W_ref07_SameVals {I:IH} {a0:List Int} {a1:List Int} {p1:Option Addr} {c2:Nat} {p4:Option Addr} {c5:Nat} {Q:Bool→Prop} (R3:RepSl eI64 I p1 c2 a0) (R6:RepSl eI64 I p4 c5 a1) (hd:ref07_SameVals a0 a1 Q) :
  PFun prog 40 [.slice p1 a0.length c2,.slice p4 a1.length c5] I (fun _=>o1_ Q):=by
 refine Fun.enter func40 r ntmps40 r (.c (.c .n)) fun w0 M=>?_
 refine .sr (.ks 1 r (.nilS [1,0] r r (.seq (.sr (.ks 1 r (.len un32 r r r r (.ks 1 r (.len un32 r r r r (.ks 1 r ?_)))))))))
 refine .nilS [10,1,0] r r (.condP r hd (fun hb8 hd=>?_) fun hb8 hd=>?_)
 · exact .sr (.ks 1 r (.nilS [4] r r (.ret (pret results40 (.t r .n) (.refl _) ⟨false,r,hd⟩))))
 refine .skipS [1,0] r r (.seq (.sr (.ks 1 r (.nilS [5,1,0] r r (.block (.loop hd (fun (s54:Int) c w=>∃ I_,IH.le I I_∧Ok ⟨26,[],none⟩ [(0,.slice p1 a0.length c2),(1,.slice p4 a1.length c5),(5,.int .i64 s54)] c∧Sym w0 M I I_ [] w) (fun c w ho hs=>⟨I,(.refl _),ho.sub ⟨r,r,r,trivial⟩,hs.pick .n⟩) ?_))))))
 rintro s54 next55 hd c w hst
 obtain ⟨I56,hl57,hok,hsym⟩:=hst
 replace R3:=R3.mono hl57
 replace R6:=R6.mono hl57
 refine Cod.at hok hsym (.seq (.sr (.ks 2 r (.len un32 r r r r (.ks 1 r (.nilS [14,5,1,0] r r (.condP r hd (fun hb59 hd=>?_) fun hb59 hd=>?_)))))))
 · refine .skipS [5,1,0] r r (.seq (.block (.seq (.dr [0,1,2,3,4,5,6,7,8] 9 (.fk 2 r ?_)))))
   obtain ⟨h60,x61,hx62,hd⟩:=hd
   obtain ⟨b63,o64,cs65,e66,hC67,hr68⟩:=R3.2 _ _ hx62
   cases hr68
   refine .g r r r (fun _=>.ixa un32 sz2 r e66 r h60 (idx_lt hx62 h60) r r .mk) (.g r r r (fun _=>.ld1 (j:=0) ia2 hC67 r r r r r .mk) (.fk 2 r ?_))
   obtain ⟨h69,x70,hx71,hd⟩:=hd
   obtain ⟨b72,o73,cs74,e75,hC76,hr77⟩:=R6.2 _ _ hx71
   cases hr77
   refine .g r r r (fun _=>.ixa un32 sz2 r e75 r h69 (idx_lt hx71 h69) r r .mk) (.g r r r (fun _=>.ld1 (j:=0) ia2 hC76 r r r r r .mk) (.fk 1 r (.e2 9 (.nilS [25,5,1,0] r r (.condP r hd (fun hb78 hd=>?_) fun hb78 hd=>?_)))))
   · exact .sr (.ks 1 r (.nilS [4] r r (.ret (pret results40 (.t r .n) hl57 ⟨false,r,hd⟩))))
   exact .skipS [5,1,0] r r (.region (.ks 3 r (.nil' fun c w ho hs=>⟨(w64 (s54+1)),hd,I56,hl57,ho.sub ⟨r,r,r,trivial⟩,hs.pick .n⟩)))
 exact .exitS [] r r (.sr (.ks 1 r (.nilS [4] r r (.ret (pret results40 (.t r .n) hl57 ⟨true,r,hd⟩)))))
theorem W_ref07_Same {I:IH} {a0:Rows} {a1:Rows} {p1:Option Addr} {c2:Nat} {p4:Option Addr} {c5:Nat} {p7:Option Addr} {c8:Nat} {p10:Option Addr} {c11:Nat} {p13:Option Addr} {c14:Nat} {p16:Option Addr} {c17:Nat} {Q:Bool→Prop} (R3:RepSl eI64 I p1 c2 a0.Start) (R6:RepSl eI64 I p4 c5 a0.Col) (R9:RepSl eI64 I p7 c8 a0.Val) (R12:RepSl eI64 I p10 c11 a1.Start) (R15:RepSl eI64 I p13 c14 a1.Col) (R18:RepSl eI64 I p16 c17 a1.Val) (hd:ref07_Same a0 a1 Q) :
  PFun prog 11 [.agg #[.int .i64 a0.Rows,.int .i64 a0.Cols,.slice p1 a0.Start.length c2,.slice p4 a0.Col.length c5,.slice p7 a0.Val.length c8],.agg #[.int .i64 a1.Rows,.int .i64 a1.Cols,.slice p10 a1.Start.length c11,.slice p13 a1.Col.length c14,.slice p16 a1.Val.length c17]] I (fun _=>o1_ Q):=by
 refine Fun.enter func11 r ntmps11 r (.c (.c .n)) fun w0 M=>?_
 refine .sr (.boxA r r r fun b23=>?_)
 refine .boxA r r r fun b25=>?_
 refine .ks 1 r (.nilS [3,2] r r (.sr (.fa un34 r sz3 r (o:=0) r r r (.load1 ia3 r (.s .z) r r r (.fa un34 r sz3 r (o:=0) r r r (.load1 ia3 r .z r r r (.ks 2 r ?_)))))))
 refine splitP hd (fun hb27 hd=>?_) fun hb27 hd=>?_
 · rw [hb27]
   refine .gyes r r r (.fa un34 r sz3 r (o:=1) r r r (.gyes r r r (.load1 ia3 r (.s .z) r r r (.gyes r r r (.fa un34 r sz3 r (o:=1) r r r (.gyes r r r (.load1 ia3 r .z r r r (.ks 3 r ?_))))))))
   refine splitP hd (fun hb28 hd=>?_) fun hb28 hd=>?_
   · rw [hb28]
     refine .gyes r r r (.fa un34 r sz31 r (o:=2) r r r (.gyes r r r (.load1 ia31 r (.s .z) r r r (.gyes r r r (.fa un34 r sz31 r (o:=2) r r r (.gyes r r r (.load1 ia31 r .z r r r ?_)))))))
     have hw30:=W_ref03_SameInts (I:=I) R3 R12 hd
     refine .gyes r r r (.callP call39 r hw30 r r fun v31 hv32=>?_)
     obtain ⟨r29,rfl,hd⟩:=hv32
     refine .ks 2 r ?_
     refine splitP hd (fun hb33 hd=>?_) fun hb33 hd=>?_
     · rw [hb33]
       refine .gyes r r r (.fa un34 r sz31 r (o:=3) r r r (.gyes r r r (.load1 ia31 r (.s .z) r r r (.gyes r r r (.fa un34 r sz31 r (o:=3) r r r (.gyes r r r (.load1 ia31 r .z r r r ?_)))))))
       have hw35:=W_ref03_SameInts (I:=I) R6 R15 hd
       refine .gyes r r r (.callP call39 r hw35 r r fun v36 hv37=>?_)
       obtain ⟨r34,rfl,hd⟩:=hv37
       refine .ks 2 r ?_
       refine splitP hd (fun hb38 hd=>?_) fun hb38 hd=>?_
       · rw [hb38]
         refine .gyes r r r (.fa un34 r sz32 r (o:=4) r r r (.gyes r r r (.load1 ia32 r (.s .z) r r r (.gyes r r r (.fa un34 r sz32 r (o:=4) r r r (.gyes r r r (.load1 ia32 r .z r r r ?_)))))))
         have hw40:=W_ref07_SameVals (I:=I) R9 R18 hd
         refine .gyes r r r (.callP call40 r hw40 r r fun v41 hv42=>?_)
         obtain ⟨r39,rfl,hd⟩:=hv42
         exact .ks 2 r (.nilS [4] r r (.drop .z (.drop .z (.ret (pret results11 (.t r .n) (.refl _) ⟨r39,r,hd⟩)))))
       rw [hb38]
       exact .ks 7 r (.nilS [4] r r (.drop .z (.drop .z (.ret (pret results11 (.t r .n) (.refl _) ⟨false,r,hd⟩)))))
     rw [hb33]
     exact .ks 14 r (.nilS [4] r r (.drop .z (.drop .z (.ret (pret results11 (.t r .n) (.refl _) ⟨false,r,hd⟩)))))
   rw [hb28]
   exact .ks 21 r (.nilS [4] r r (.drop .z (.drop .z (.ret (pret results11 (.t r .n) (.refl _) ⟨false,r,hd⟩)))))
 rw [hb27]
 exact .ks 28 r (.nilS [4] r r (.drop .z (.drop .z (.ret (pret results11 (.t r .n) (.refl _) ⟨false,r,hd⟩)))))
theorem W_law18_Side {I:IH} {a0:Int} {Q:Int→Prop}  (hd:law18_Side a0 Q) :
  PFun prog 26 [.int .u8 a0] I (fun _=>o0_ Q):=by
 refine Fun.enter func26 r ntmps26 r (.c .n) fun w0 M=>?_
 exact .sr (.ks 1 r (.nilS [0] r r (.sr (.ks 1 r (.conv underlying5 un3 r r r (.rem r r (by decide) r r (.ks 2 r (.nilS [2] r r (.ret (pret results26 (.t r .n) (.refl _) ⟨(w64 (((w64 (a0)).tmod 8)+1)),r,hd⟩))))))))))
theorem W_law18_BlockBack {I:IH} {a0:Law13_Task} {a1:Int} {a2:Int} {p1:Option Addr} {c2:Nat} {p4:Option Addr} {c5:Nat} {p7:Option Addr} {c8:Nat} {p10:Option Addr} {c11:Nat} {Q:Bool→Prop} (R3:RepSl eTriple I p1 c2 a0.L) (R6:RepSl eItem I p4 c5 a0.X) (R9:RepSl eItem I p7 c8 a0.Y) (R12:RepSl eU64 I p10 c11 a0.F) (hd:law18_BlockBack a0 a1 a2 Q) :
  PFun prog 5 [.agg #[.int .i64 a0.Ring,.int .u8 a0.Size.1,.int .u8 a0.Size.2,.slice p1 a0.L.length c2,.slice p4 a0.X.length c5,.slice p7 a0.Y.length c8,.slice p10 a0.F.length c11,.bool a0.Others],.int .u8 a1,.int .u8 a2] I (fun _=>o1_ Q):=by
 refine Fun.enter func5 r ntmps5 r (.c (.c (.c .n))) fun w0 M=>?_
 refine .sr (.boxA r r r fun b15=>?_)
 refine .ks 1 r (.nilS [3,2,1] r r (.seq (.dr [0,2,3,4,6,7,1,5,999,8] 9 (.g r r r (fun _=>.loadW isAgg28 sizeOf28 r .z r r r .mk) (.g r r r (fun _=>.loadW isAgg28 sizeOf28 r .z r r r .mk) (.g r r r (fun _=>.fa un28 r sz25 r (o:=4) r r r .mk) (.g r r r (fun _=>.load1 ia25 r .z r r r .mk) (.a (fun b=>.pointer (some ⟨b,0,none⟩)) (fun b=>pto b (.cells #[.int .i64 0,.int .i64 0,.slice none 0 0,.slice none 0 0,.slice none 0 0] 34 (0,0))) r r r r (fun _ L hL ex=>.allocA zv34 r r fun b=>.mk (val:=fun b=>.pointer (some ⟨b,0,none⟩)) (atom:=fun b=>pto b (.cells #[.int .i64 0,.int .i64 0,.slice none 0 0,.slice none 0 0,.slice none 0 0] 34 (0,0))) hL b) (.a (fun b=>.pointer (some ⟨b,0,none⟩)) (fun b=>pto b (.cells #[.int .i64 0,.slice none 0 0] 37 (0,0))) r r r r (fun _ L hL ex=>.allocA zv37 r r fun b=>.mk (val:=fun b=>.pointer (some ⟨b,0,none⟩)) (atom:=fun b=>pto b (.cells #[.int .i64 0,.slice none 0 0] 37 (0,0))) hL b) ?_)))))))))
 refine .ww r fun ex=>?_
 have hw65:=W_law13_Task_Matrix (I:=I) R3 R6 R9 R12 hd
 refine .call call8 r hw65 r r fun v54 I51 hl52 hv53=>?_
 obtain ⟨r50,p56,c57,p59,c60,p62,c63,rfl,R58,R61,R64,hd⟩:=hv53
 replace R3:=R3.mono hl52
 replace R6:=R6.mono hl52
 replace R9:=R9.mono hl52
 replace R12:=R12.mono hl52
 refine .so 1 r r r (.cg r r r r (fun _=>.load1 ia25 r .z r r r .mk) (.cg r r r r (fun _=>.fa un28 r sz25 r (o:=4) r r r .mk) (.cg r r r r (fun _=>.loadW isAgg28 sizeOf28 r .z r r r .mk) trivial))) (.ww r fun ex=>?_)
 have hw75:=W_law13_Task_Vector (I:=I51) R3 R6 R9 R12 R6 hd
 refine .call call9 r hw75 r r fun v70 I67 hl68 hv69=>?_
 obtain ⟨r66,p72,c73,rfl,R74,hd⟩:=hv69
 have le76:=IH.le.trans hl52 hl68
 replace R3:=R3.mono hl68
 replace R6:=R6.mono hl68
 replace R9:=R9.mono hl68
 replace R12:=R12.mono hl68
 replace R58:=R58.mono hl68
 replace R61:=R61.mono hl68
 replace R64:=R64.mono hl68
 refine .so 1 r r r trivial (.b r fun b77 b78=>DrawD.nop (.ww r fun ex=>?_))
 refine .storeA sz34 r r (.s (.s .z)) (.t (.t (.t (.t (.t .nil))))) r r (.sn 3 r r r trivial (.e2 9 (.storeA sz37 r r (.s .z) (.t (.t .nil)) r r (.nilS [7,8,2,1] r r (.drop .z (.sr (.ks 1 r ?_)))))))
 have hw88:=W_law18_Side (I:=I67) hd
 refine .callP call26 r hw88 r r fun v89 hv90=>?_
 obtain ⟨r87,rfl,hd⟩:=hv90
 refine .ks 1 r ?_
 have hw92:=W_law18_Side (I:=I67) hd
 refine .callP call26 r hw92 r r fun v93 hv94=>?_
 obtain ⟨r91,rfl,hd⟩:=hv94
 refine .ks 2 r (.nilS [10,9,7,8] r r (.sr (.ks 1 r (.nilS [11,10,9,7,8] r r (.seq (.sr (.ks 1 r (.nilS [12,11,10,9,7,8] r r (.block ?_)))))))))
 refine .own0 eRows 34 (.loop hd (fun (s:(List Rows)×Int) c w=>match s with | (s653,s657)=>∃ I_ p654 c655,IH.le I67 I_∧Ok ⟨99,[],none⟩ [(7,.pointer (some ⟨b78,0,none⟩)),(8,.pointer (some ⟨b77,0,none⟩)),(9,.int .i64 r87),(10,.int .i64 r91),(11,.slice p654 s653.length c655),(12,.int .i64 s657)] c∧Sym w0 M I I_ [pto b78 (.cells #[.int .i64 r50.Rows,.int .i64 r50.Cols,.slice p56 r50.Start.length c57,.slice p59 r50.Col.length c60,.slice p62 r50.Val.length c63] 34 (0,0)),pto b77 (.cells #[.int .i64 r66.N,.slice p72 r66.Items.length c73] 37 (0,0)),OwnSl eRows 34 p654 c655 s653] w) (fun c w ho hs=>⟨I67,_,_,(.refl _),ho.sub ⟨r,r,r,r,r,r,trivial⟩,hs.pick (.c (.s (.s .z)) (.c (.s .z) (.c .z .n)))⟩) ?_)
 rintro ⟨s653,s657⟩ next659 hd c w hst
 obtain ⟨I660,p654,c655,hl661,hok,hsym⟩:=hst
 have le662:=IH.le.trans le76 hl661
 replace R58:=R58.mono hl661
 replace R61:=R61.mono hl661
 replace R64:=R64.mono hl661
 replace R74:=R74.mono hl661
 refine Cod.at hok hsym (.seq (.sr (.ks 3 r (.nilS [32,12,11,10,9,8,7] r r (.condP r hd (fun hb664 hd=>?_) fun hb664 hd=>?_)))))
 · refine .skipS [12,11,10,9,8,7] r r (.seq (.block (.sr (.ks 1 r (.nilS [13,12,11,10,9,8,7] r r (.block (.loop hd (fun (s:(List Rows)×Int) c w=>match s with | (s732,s736)=>∃ I_ p733 c734,IH.le I660 I_∧Ok ⟨99,[],none⟩ [(7,.pointer (some ⟨b78,0,none⟩)),(8,.pointer (some ⟨b77,0,none⟩)),(9,.int .i64 r87),(10,.int .i64 r91),(11,.slice p733 s732.length c734),(12,.int .i64 s657),(13,.int .i64 s736)] c∧Sym w0 M I I_ [pto b78 (.cells #[.int .i64 r50.Rows,.int .i64 r50.Cols,.slice p56 r50.Start.length c57,.slice p59 r50.Col.length c60,.slice p62 r50.Val.length c63] 34 (0,0)),pto b77 (.cells #[.int .i64 r66.N,.slice p72 r66.Items.length c73] 37 (0,0)),OwnSl eRows 34 p733 c734 s732] w) (fun c w ho hs=>⟨I660,_,_,(.refl _),ho.sub ⟨r,r,r,r,r,r,r,trivial⟩,hs.pick (.c .z (.c .z (.c .z .n)))⟩) ?_)))))))
   rintro ⟨s732,s736⟩ next737 hd c w hst
   obtain ⟨I738,p733,c734,hl739,hok,hsym⟩:=hst
   have le740:=IH.le.trans le662 hl739
   have le741:=IH.le.trans hl661 hl739
   replace R58:=R58.mono hl739
   replace R61:=R61.mono hl739
   replace R64:=R64.mono hl739
   replace R74:=R74.mono hl739
   refine Cod.at hok hsym (.seq (.sr (.ks 3 r (.nilS [37,13,12,11,10,9,8,7] r r (.condP r hd (fun hb743 hd=>?_) fun hb743 hd=>?_)))))
   · refine .skipS [13,12,11,10,9,8,7] r r (.seq (.block (.region (.ks 1 r (.loadW ia34 sz34 r .z r r r (.ks 4 r ?_))))))
     have hw759:=W_block_Cut (I:=I738) R58 R61 R64 hd
     refine .call call12 r hw759 r r fun v748 I745 hl746 hv747=>?_
     obtain ⟨r744,p750,c751,p753,c754,p756,c757,rfl,R752,R755,R758,hd⟩:=hv747
     have le760:=IH.le.trans le740 hl746
     have le761:=IH.le.trans le741 hl746
     have le762:=IH.le.trans hl739 hl746
     replace R58:=R58.mono hl746
     replace R61:=R61.mono hl746
     replace R64:=R64.mono hl746
     replace R74:=R74.mono hl746
     refine .buildSlice 1 un46 sz34 zv34 r r (.c r r r .n) r r fun b763=>?_
     obtain ⟨hl765,hd⟩:=hd
     refine .append (ys:=[r744]) 88 (.s (.s (.s .z))) un46 un46 IN34 r r r r r r r r r (.box .z (.one ⟨_,_,_,_,_,_,r,R752,R755,R758⟩) r) hl765 r r fun p766 c767=>?_
     exact .ks 1 r (.nilS [11,13,12,10,9,8,7] r r (.drop (.s .z) (.region (.ks 3 r (.nil' fun c w ho hs=>⟨((s732++([r744])),w64 (s736+1)),hd,I745,_,_,le762,ho.sub ⟨r,r,r,r,r,r,r,trivial⟩,hs.pick (.c (.s .z) (.c (.s .z) (.c .z .n)))⟩)))))
   exact .exitS [12,11,10,9,8,7] r r (.region (.ks 3 r (.nil' fun c w ho hs=>⟨(s732,w64 (s657+1)),hd,I738,_,_,le741,ho.sub ⟨r,r,r,r,r,r,trivial⟩,hs.pick (.c .z (.c .z (.c .z .n)))⟩)))
 refine .exitS [11,10,9,8,7] r r (.sr (.ks 1 r (.nilS [14,11,10,9,8,7] r r (.seq (.sr (.ks 1 r (.nilS [15,14,11,10,9,8,7] r r (.block (.own0 eVec 37 ?_)))))))))
 refine .loop hd (fun (s:(List Vec)×Int) c w=>match s with | (s913,s917)=>∃ I_ p914 c915,IH.le I660 I_∧Ok ⟨99,[],none⟩ [(7,.pointer (some ⟨b78,0,none⟩)),(8,.pointer (some ⟨b77,0,none⟩)),(9,.int .i64 r87),(10,.int .i64 r91),(11,.slice p654 s653.length c655),(14,.slice p914 s913.length c915),(15,.int .i64 s917)] c∧Sym w0 M I I_ [pto b78 (.cells #[.int .i64 r50.Rows,.int .i64 r50.Cols,.slice p56 r50.Start.length c57,.slice p59 r50.Col.length c60,.slice p62 r50.Val.length c63] 34 (0,0)),pto b77 (.cells #[.int .i64 r66.N,.slice p72 r66.Items.length c73] 37 (0,0)),OwnSl eRows 34 p654 c655 s653,OwnSl eVec 37 p914 c915 s913] w) (fun c w ho hs=>⟨I660,_,_,(.refl _),ho.sub ⟨r,r,r,r,r,r,r,trivial⟩,hs.pick (.c (.s .z) (.c (.s .z) (.c (.s .z) (.c .z .n))))⟩) ?_
 rintro ⟨s913,s917⟩ next919 hd c w hst
 obtain ⟨I920,p914,c915,hl921,hok,hsym⟩:=hst
 have le922:=IH.le.trans le662 hl921
 have le923:=IH.le.trans hl661 hl921
 replace R58:=R58.mono hl921
 replace R61:=R61.mono hl921
 replace R64:=R64.mono hl921
 replace R74:=R74.mono hl921
 refine Cod.at hok hsym (.seq (.sr (.ks 3 r (.nilS [51,15,14,11,10,9,8,7] r r (.condP r hd (fun hb925 hd=>?_) fun hb925 hd=>?_)))))
 · refine .skipS [15,14,11,10,9,8,7] r r (.seq (.block (.region (.ks 1 r (.loadW ia37 sz37 r (.s .z) r r r (.ks 2 r ?_))))))
   have hw935:=W_block_Piece (I:=I920) R74 hd
   refine .call call15 r hw935 r r fun v930 I927 hl928 hv929=>?_
   obtain ⟨r926,p932,c933,rfl,R934,hd⟩:=hv929
   have le936:=IH.le.trans le922 hl928
   have le937:=IH.le.trans le923 hl928
   have le938:=IH.le.trans hl921 hl928
   replace R58:=R58.mono hl928
   replace R61:=R61.mono hl928
   replace R64:=R64.mono hl928
   replace R74:=R74.mono hl928
   refine .buildSlice 1 un47 sz37 zv37 r r (.c r r r .n) r r fun b939=>?_
   obtain ⟨hl941,hd⟩:=hd
   refine .append (ys:=[r926]) 32 (.s (.s (.s (.s .z)))) un47 un47 IN37 r r r r r r r r r (.box .z (.one ⟨_,_,r,R934⟩) r) hl941 r r fun p942 c943=>?_
   exact .ks 1 r (.nilS [14,15,11,10,9,8,7] r r (.drop (.s .z) (.region (.ks 3 r (.nil' fun c w ho hs=>⟨((s913++([r926])),w64 (s917+1)),hd,I927,_,_,le938,ho.sub ⟨r,r,r,r,r,r,r,trivial⟩,hs.pick (.c (.s .z) (.c (.s .z) (.c (.s .z) (.c .z .n))))⟩)))))
 refine .exitS [14,11,10,9,8,7] r r (.sr (.fa un34 r sz3 r (o:=0) r r r (.load1 ia3 r .z r r r (.fa un34 r sz3 r (o:=1) r r r (.load1 ia3 r .z r r r (.ks 3 r (.pub (.s (.s .z)) fun I972 hl973 R974=>?_)))))))
 have le975:=IH.le.trans le922 hl973
 have le976:=IH.le.trans le923 hl973
 have le977:=IH.le.trans hl921 hl973
 replace R58:=R58.mono hl973
 replace R61:=R61.mono hl973
 replace R64:=R64.mono hl973
 replace R74:=R74.mono hl973
 have hw993:=W_block_Join (I:=I972) R974 hd
 refine .call call20 r hw993 r r fun v982 I979 hl980 hv981=>?_
 obtain ⟨r978,p984,c985,p987,c988,p990,c991,rfl,R986,R989,R992,hd⟩:=hv981
 have le994:=IH.le.trans le975 hl980
 have le995:=IH.le.trans le976 hl980
 have le996:=IH.le.trans le977 hl980
 replace R58:=R58.mono hl980
 replace R61:=R61.mono hl980
 replace R64:=R64.mono hl980
 replace R74:=R74.mono hl980
 replace R974:=R974.mono hl980
 refine .ks 3 r (.allocA zv34 r r fun b997=>?_)
 refine .storeA sz34 r r .z (.t (.t (.t (.t (.t .nil))))) r r (.ks 1 r (.nilS [17,16,14,9,8,7] r r (.sr (.fa un37 r sz3 r (o:=0) r r r (.load1 ia3 r (.s (.s .z)) r r r (.ks 2 r (.pub (.s (.s (.s .z))) fun I1020 hl1021 R1022=>?_)))))))
 have le1023:=IH.le.trans le994 hl1021
 have le1024:=IH.le.trans le995 hl1021
 have le1025:=IH.le.trans le996 hl1021
 replace R58:=R58.mono hl1021
 replace R61:=R61.mono hl1021
 replace R64:=R64.mono hl1021
 replace R74:=R74.mono hl1021
 replace R986:=R986.mono hl1021
 replace R989:=R989.mono hl1021
 replace R992:=R992.mono hl1021
 have hw1035:=W_block_Glue (I:=I1020) R1022 hd
 refine .call call22 r hw1035 r r fun v1030 I1027 hl1028 hv1029=>?_
 obtain ⟨r1026,p1032,c1033,rfl,R1034,hd⟩:=hv1029
 have le1036:=IH.le.trans le1023 hl1028
 have le1037:=IH.le.trans le1024 hl1028
 have le1038:=IH.le.trans le1025 hl1028
 replace R58:=R58.mono hl1028
 replace R61:=R61.mono hl1028
 replace R64:=R64.mono hl1028
 replace R74:=R74.mono hl1028
 replace R986:=R986.mono hl1028
 replace R989:=R989.mono hl1028
 replace R992:=R992.mono hl1028
 replace R1022:=R1022.mono hl1028
 refine .ks 3 r (.allocA zv37 r r fun b1039=>?_)
 refine .storeA sz37 r r .z (.t (.t .nil)) r r (.ks 1 r (.nilS [19,18,17,16,8,7] r r (.sr ?_)))
 have hw1042:=W_law18_live (I:=I1027) hd
 refine .callP call10 r hw1042 r r fun v1043 hv1044=>?_
 obtain ⟨r1041,rfl,hd⟩:=hv1044
 refine .ks 1 r ?_
 refine splitP hd (fun hb1045 hd=>?_) fun hb1045 hd=>?_
 · rw [hb1045]
   refine .ks 4 r ?_
   refine splitP hd (fun hb1046 hd=>?_) fun hb1046 hd=>?_
   · rw [hb1046]
     refine .ks 4 r ?_
     refine splitP hd (fun hb1047 hd=>?_) fun hb1047 hd=>?_
     · rw [hb1047]
       refine .gyes r r r (.loadW ia34 sz34 r (.s .z) r r r (.gyes r r r (.loadW ia34 sz34 r (.s (.s .z)) r r r ?_)))
       have hw1049:=W_ref07_Same (I:=I1027) R986 R989 R992 R58 R61 R64 hd
       refine .gyes r r r (.callP call11 r hw1049 r r fun v1050 hv1051=>?_)
       obtain ⟨r1048,rfl,hd⟩:=hv1051
       refine .ks 2 r ?_
       refine splitP hd (fun hb1052 hd=>?_) fun hb1052 hd=>?_
       · rw [hb1052]
         refine .gyes r r r (.loadW ia37 sz37 r .z r r r (.gyes r r r (.loadW ia37 sz37 r (.s (.s (.s .z))) r r r ?_)))
         have hw1054:=W_ref09_Same (I:=I1027) R1034 R74 hd
         refine .gyes r r r (.callP call14 r hw1054 r r fun v1055 hv1056=>?_)
         obtain ⟨r1053,rfl,hd⟩:=hv1056
         exact .ks 2 r (.nilS [6] r r (.drop .z (.drop .z (.drop .z (.drop .z (.ret (pret results5 (.t r .n) le1036 ⟨r1053,r,hd⟩)))))))
       rw [hb1052]
       exact .ks 5 r (.nilS [6] r r (.drop .z (.drop .z (.drop .z (.drop .z (.ret (pret results5 (.t r .n) le1036 ⟨false,r,hd⟩)))))))
     rw [hb1047]
     exact .ks 10 r (.nilS [6] r r (.drop .z (.drop .z (.drop .z (.drop .z (.ret (pret results5 (.t r .n) le1036 ⟨false,r,hd⟩)))))))
   rw [hb1046]
   exact .ks 14 r (.nilS [6] r r (.drop .z (.drop .z (.drop .z (.drop .z (.ret (pret results5 (.t r .n) le1036 ⟨false,r,hd⟩)))))))
 rw [hb1045]
 exact .ks 18 r (.nilS [6] r r (.drop .z (.drop .z (.drop .z (.drop .z (.ret (pret results5 (.t r .n) le1036 ⟨false,r,hd⟩)))))))
end Go.Proofs.YtpackolbhcmomaaGreat
