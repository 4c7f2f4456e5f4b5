/- The walks (printed by a program of ours). -/
import Derived.Test.YtpackolbhcmomaaGreatV2
namespace Go.Proofs.YtpackolbhcmomaaGreat
open Go Go.Fw
set_option linter.unusedVariables false
set_option linter.unusedSimpArgs false
set_option maxRecDepth 8000
set_option maxHeartbeats 1000000
open Tryz
theorem W_law07_Size {I:IH} {a0:Int} {Q:Int→Prop}  (hd:law07_Size a0 Q) :
  PFun prog 36 [.int .u8 a0] I (fun _=>o0_ Q):=by
 refine Fun.enter func36 r ntmps36 r (.c .n) fun w0 M=>?_
 exact .sr (.ks 1 r (.nilS [0] r r (.sr (.ks 1 r (.conv underlying5 un3 r r r (.rem r r (by decide) r r (.ks 1 r (.nilS [2] r r (.ret (pret results36 (.t r .n) (.refl _) ⟨((w64 (a0)).tmod 40),r,hd⟩))))))))))
theorem W_law07_Few {I:IH} {a0:List Triple} {p1:Option Addr} {c2:Nat} {Q:(List Triple)→Prop} (R3:RepSl eTriple I p1 c2 a0) (hd:law07_Few a0 Q) :
  PFun prog 86 [.slice p1 a0.length c2] I (fun I_ v=>∃ r p4 c5,v=.slice p4 r.length c5∧RepSl eTriple I_ p4 c5 r∧Q r):=by
 refine Fun.enter func86 r ntmps86 r (.c .n) fun w0 M=>?_
 refine .sr (.ks 1 r (.nilS [0] r r (.seq (.sr (.ks 1 r (.len un24 r r r r (.ks 1 r (.nilS [5,0] r r (.condP r hd (fun hb7 hd=>?_) fun hb7 hd=>?_)))))))))
 · refine .region (.ks 1 r ?_)
   obtain ⟨h8,h9,h10,hd⟩:=hd
   have h16:Int.toNat 0≤Int.toNat 60:=by omega
   have h17:Int.toNat 60≤a0.length:=by omega
   obtain ⟨p11,c12,e14,e15,R13⟩:=RepSl.sliceW R3 (Int.toNat 0) (Int.toNat 60) c2 h16 h17 (.inl rfl)
   exact .sliceW (L:=Int.toNat 0) (H:=Int.toNat 60) (cm:=c2) un24 sz75 r r R3.1 r r r (.inl ⟨r,r⟩) (.inr ⟨_,_,r,(by omega),r⟩) (.inl r) h16 h17 r e14 e15 r r (.ks 1 r (.nilS [0] r r (.sr (.ks 2 r (.nilS [2] r r (.ret (pret results86 (.t r .n) (.refl _) ⟨((a0.take (Int.toNat 60)).drop (Int.toNat 0)),_,_,r,R13,hd⟩)))))))
 exact .skipS [0] r r (.sr (.ks 2 r (.nilS [2] r r (.ret (pret results86 (.t r .n) (.refl _) ⟨a0,_,_,r,R3,hd⟩)))))
theorem W_law07_Some {I:IH} {a0:Int×Int} {a1:List Triple} {p1:Option Addr} {c2:Nat} {Q:Rows→Prop} (R3:RepSl eTriple I p1 c2 a1) (hd:law07_Some a0 a1 Q) :
  PFun prog 32 [.agg #[.int .u8 a0.1,.int .u8 a0.2],.slice p1 a1.length c2] I (o5_ Q):=by
 refine Fun.enter func32 r ntmps32 r (.c (.c .n)) fun w0 M=>?_
 refine .sr (.boxA r r r fun b17=>?_)
 refine .allocA zv34 r r fun b19=>?_
 refine .nilS [4,2,1] r r (.seq (.dr [0,1,3,4,2,5,6] 7 (.g r r r (fun _=>.ixArr (i:=0) underlying23 sizeOf5 r r (by decide) (o:=0) r r r .mk) (.g r r r (fun _=>.load1 isAgg5 r (.s .z) r r r .mk) (.g r r r (fun _=>.ixArr (i:=1) underlying23 sizeOf5 r r (by decide) (o:=1) r r r .mk) (.g r r r (fun _=>.load1 isAgg5 r (.s .z) r r r .mk) (.ww r fun ex=>?_)))))))
 have hw30:=W_law07_Size (I:=I) hd
 refine .callP call36 r hw30 r r fun v31 hv32=>?_
 obtain ⟨r29,rfl,hd⟩:=hv32
 refine .so 2 r r r (.cg r r r r (fun _=>.load1 isAgg5 r (.s .z) r r r .mk) (.cg r r r r (fun _=>.ixArr (i:=1) underlying23 sizeOf5 r r (by decide) (o:=1) r r r .mk) trivial)) (.ww r fun ex=>?_)
 have hw34:=W_law07_Size (I:=I) hd
 refine .callP call36 r hw34 r r fun v35 hv36=>?_
 obtain ⟨r33,rfl,hd⟩:=hv36
 refine .so 2 r r r trivial (.fk 1 r (.e2 7 (.ks 1 r (.nilS [6,5,4,1] r r (.drop (.s .z) (.sr (.ks 1 r (.nilS [7,6,5,4,1] r r (.sr ?_)))))))))
 refine .ks 1 r ?_
 have hw56:=W_law07_Few (I:=I) R3 hd
 refine .call call86 r hw56 r r fun v51 I48 hl49 hv50=>?_
 obtain ⟨r47,p53,c54,rfl,R55,hd⟩:=hv50
 replace R3:=R3.mono hl49
 refine .ks 1 r (.nilS [1,7,6,5,4] r r (.seq (.sr (.ks 1 r (.nilS [8,1,7,6,5,4] r r (.block (.own0 eTriple 75 (.loop hd (fun (s:(List Triple)×Int) c w=>match s with | (s304,s308)=>∃ I_ p305 c306,IH.le I48 I_∧Ok ⟨73,[],none⟩ [(1,.slice p53 r47.length c54),(4,.pointer (some ⟨b19,0,none⟩)),(5,.int .i64 r29),(6,.int .i64 r33),(7,.slice p305 s304.length c306),(8,.int .i64 s308)] c∧Sym w0 M I I_ [pto b19 (.cells #[.int .i64 0,.int .i64 0,.slice none 0 0,.slice none 0 0,.slice none 0 0] 34 (0,0)),OwnSl eTriple 75 p305 c306 s304] w) (fun c w ho hs=>⟨I48,_,_,(.refl _),ho.sub ⟨r,r,r,r,r,r,trivial⟩,hs.pick (.c (.s .z) (.c .z .n))⟩) ?_))))))))
 rintro ⟨s304,s308⟩ next310 hd c w hst
 obtain ⟨I311,p305,c306,hl312,hok,hsym⟩:=hst
 have le313:=IH.le.trans hl49 hl312
 replace R55:=R55.mono hl312
 refine Cod.at hok hsym (.seq (.sr (.ks 2 r (.len un24 r r r r (.ks 1 r (.nilS [23,8,7,6,5,4,1] r r (.condP r hd (fun hb315 hd=>?_) fun hb315 hd=>?_)))))))
 · refine .skipS [8,7,6,5,4,1] r r (.seq (.block (.sr (.ks 2 r ?_))))
   obtain ⟨h327,x328,hx329,hd⟩:=hd
   obtain ⟨b330,o331,cs332,e333,hC334,hr335⟩:=R55.2 _ _ hx329
   cases hr335
   refine .ixa un24 sz75 r e333 r h327 (idx_lt hx329 h327) r r (.ldW isAgg75 sz75 hC334 r r r r (.allocA zv75 r r fun b336=>?_))
   refine .storeA sz75 r r .z (.t (.t (.t .nil))) r r (.nilS [9,8,7,6,5,4,1] r r (.seq (.sr (.fa un75 r sz3 r (o:=0) r r r (.load1 ia3 r .z r r r (.ks 2 r ?_))))))
   refine splitP hd (fun hb342 hd=>?_) fun hb342 hd=>?_
   · rw [hb342]
     exact .ks 12 r (.nilS [45,9,8,7,6,5,4,1] r r (.condKT r r (.exitS [8,7,6,5,4,1] r r (.drop .z (.region (.ks 3 r (.nil' fun c w ho hs=>⟨(s304,w64 (s308+1)),hd,I311,_,_,hl312,ho.sub ⟨r,r,r,r,r,r,trivial⟩,hs.pick (.c .z (.c .z .n))⟩)))))))
   rw [hb342]
   refine .gyes r r r (.fa un75 r sz3 r (o:=1) r r r (.gyes r r r (.load1 ia3 r .z r r r (.ks 3 r ?_))))
   refine splitP hd (fun hb343 hd=>?_) fun hb343 hd=>?_
   · rw [hb343]
     exact .ks 7 r (.nilS [45,9,8,7,6,5,4,1] r r (.condKT r r (.exitS [8,7,6,5,4,1] r r (.drop .z (.region (.ks 3 r (.nil' fun c w ho hs=>⟨(s304,w64 (s308+1)),hd,I311,_,_,hl312,ho.sub ⟨r,r,r,r,r,r,trivial⟩,hs.pick (.c .z (.c .z .n))⟩)))))))
   rw [hb343]
   refine .ks 4 r ?_
   refine splitP hd (fun hb344 hd=>?_) fun hb344 hd=>?_
   · rw [hb344]
     exact .ks 3 r (.nilS [45,9,8,7,6,5,4,1] r r (.condKT r r (.exitS [8,7,6,5,4,1] r r (.drop .z (.region (.ks 3 r (.nil' fun c w ho hs=>⟨(s304,w64 (s308+1)),hd,I311,_,_,hl312,ho.sub ⟨r,r,r,r,r,r,trivial⟩,hs.pick (.c .z (.c .z .n))⟩)))))))
   rw [hb344]
   refine .ks 3 r (.nilS [45,9,8,7,6,5,4,1] r r (.condP r hd (fun hb345 hd=>?_) fun hb345 hd=>?_))
   · exact .exitS [8,7,6,5,4,1] r r (.drop .z (.region (.ks 3 r (.nil' fun c w ho hs=>⟨(s304,w64 (s308+1)),hd,I311,_,_,hl312,ho.sub ⟨r,r,r,r,r,r,trivial⟩,hs.pick (.c .z (.c .z .n))⟩))))
   refine .skipS [9,8,7,6,5,4,1] r r (.sr (.fa un75 r sz3 r (o:=0) r r r (.load1 ia3 r .z r r r (.ks 1 r ?_))))
   obtain ⟨hz347,hd⟩:=hd
   refine .rem r r hz347 r r (.fa un75 r sz3 r (o:=0) r r r (.store1 sz3 r r .z (.t .nil) r (.nilS [9,8,7,6,5,4,1] r r (.sr (.fa un75 r sz3 r (o:=1) r r r (.load1 ia3 r .z r r r (.ks 1 r ?_)))))))
   obtain ⟨hz348,hd⟩:=hd
   refine .rem r r hz348 r r (.fa un75 r sz3 r (o:=1) r r r (.store1 sz3 r r .z (.s (.t .nil)) r (.nilS [9,8,7,6,5,4,1] r r (.region (.ks 1 r (.loadW isAgg75 sz75 r .z r r r (.buildSlice 1 un24 sz75 zv75 r r (.c r r r .n) r r fun b349=>?_)))))))
   obtain ⟨hl351,hd⟩:=hd
   refine .append (ys:=[({ Row:=x328.Row.tmod r29,Col:=x328.Col.tmod r33,Val:=x328.Val }:Triple)]) 24 (.s (.s (.s .z))) un24 un24 IN75 r r r r r r r r r (.box .z (.one r) r) hl351 r r fun p352 c353=>?_
   exact .ks 1 r (.nilS [7,8,6,5,4,1] r r (.drop (.s .z) (.drop (.s .z) (.region (.ks 3 r (.nil' fun c w ho hs=>⟨((s304++([({ Row:=x328.Row.tmod r29,Col:=x328.Col.tmod r33,Val:=x328.Val }:Triple)])),w64 (s308+1)),hd,I311,_,_,hl312,ho.sub ⟨r,r,r,r,r,r,trivial⟩,hs.pick (.c (.s .z) (.c .z .n))⟩))))))
 refine .exitS [7,6,5,4] r r (.sr (.ks 3 r (.pub (.s .z) fun I380 hl381 R382=>?_)))
 have le383:=IH.le.trans le313 hl381
 have le384:=IH.le.trans hl312 hl381
 have hw400:=W_ref07_Of (I:=I380) R382 hd
 refine .call call38 r hw400 r r fun v389 I386 hl387 hv388=>?_
 obtain ⟨r385,p391,c392,p394,c395,p397,c398,rfl,R393,R396,R399,hd⟩:=hv388
 have le401:=IH.le.trans le383 hl387
 have le402:=IH.le.trans le384 hl387
 replace R382:=R382.mono hl387
 refine .ks 3 r (.allocA zv34 r r fun b403=>?_)
 refine .storeA sz34 r r .z (.t (.t (.t (.t (.t .nil))))) r r (.ks 1 r (.nilS [11,10,6,5,4] r r (.seq (.sr (.ks 2 r (.nilS [68,10,6,5,4] r r (.condP r hd (fun hb405 hd=>?_) fun hb405 hd=>?_)))))))
 · refine .sr (.ks 2 r ?_)
   have hw424:=W_ref07_Empty (I:=I386) hd
   refine .callO call47 r hw424 r r fun v410 I407 l411 hl408 hv409=>?_
   obtain ⟨r406,p412,c413,p415,c416,p418,c419,rfl,rfl,hd⟩:=hv409
   have le425:=IH.le.trans le401 hl408
   have le426:=IH.le.trans le402 hl408
   replace R393:=R393.mono hl408
   replace R396:=R396.mono hl408
   replace R399:=R399.mono hl408
   refine .storeA sz34 r r (.s (.s (.s (.s .z)))) (.t (.t (.t (.t (.t .nil))))) r r (.nilS [4] r r (.drop (.s (.s (.s .z))) (.pub .z fun I427 hl428 R429=>?_)))
   have le430:=IH.le.trans le425 hl428
   have le431:=IH.le.trans le426 hl428
   refine .pub .z fun I432 hl433 R434=>?_
   have le435:=IH.le.trans le430 hl433
   have le436:=IH.le.trans le431 hl433
   replace R429:=R429.mono hl433
   refine .pub .z fun I437 hl438 R439=>?_
   have le440:=IH.le.trans le435 hl438
   have le441:=IH.le.trans le436 hl438
   replace R429:=R429.mono hl438
   replace R434:=R434.mono hl438
   exact .ret (pret results32 (.w ia34 sz34 r .z r .n) le440 ⟨r406,_,_,_,_,_,_,r,R429,R434,R439,hd⟩)
 exact .skipS [10,4] r r (.sr (.loadW ia34 sz34 r .z r r r (.storeA sz34 r r (.s .z) (.t (.t (.t (.t (.t .nil))))) r r (.nilS [4] r r (.drop .z (.ret (pret results32 (.w ia34 sz34 r .z r .n) le401 ⟨r385.1,_,_,_,_,_,_,r,R393,R396,R399,hd⟩)))))))
theorem W_law13_Right {I:IH} {a0:Int} {Q:Int→Prop}  (hd:law13_Right a0 Q) :
  PFun prog 33 [.int .i64 a0] I (fun _=>o0_ Q):=by
 refine Fun.enter func33 r ntmps33 r (.c .n) fun w0 M=>?_
 refine .sr (.ks 1 r (.nilS [0] r r (.seq (.sr (.ks 3 r ?_)))))
 refine splitP hd (fun hb1 hd=>?_) fun hb1 hd=>?_
 · rw [hb1]
   exact .ks 3 r (.nilS [8,0] r r (.condKT r r (.sr (.ks 1 r (.nilS [2] r r (.ret (pret results33 (.t r .n) (.refl _) ⟨1,r,hd⟩)))))))
 rw [hb1]
 refine .ks 3 r (.nilS [8,0] r r (.condP r hd (fun hb2 hd=>?_) fun hb2 hd=>?_))
 · exact .sr (.ks 1 r (.nilS [2] r r (.ret (pret results33 (.t r .n) (.refl _) ⟨1,r,hd⟩))))
 exact .skipS [0] r r (.sr (.ks 2 r (.nilS [2] r r (.ret (pret results33 (.t r .n) (.refl _) ⟨a0,r,hd⟩)))))
theorem W_law02_Value {I:IH} {a0:Int} {a1:Int} {Q:Int→Prop}  (hd:law02_Value a0 a1 Q) :
  PFun prog 37 [.int .i64 a0,.int .i64 a1] I (fun _=>o0_ Q):=by
 refine Fun.enter func37 r ntmps37 r (.c (.c .n)) fun w0 M=>?_
 refine .sr (.ks 1 r (.nilS [1,0] r r (.sr (.ks 1 r (.nilS [5,1] r r (.block (.sr (.ks 2 r (.nilS [12,5,1] r r ?_)))))))))
 refine .condP r hd (fun hb1 hd=>?_) fun hb1 hd=>?_
 · exact .sr (.ks 2 r (.nilS [4] r r (.ret (pret results37 (.t r .n) (.refl _) ⟨a1,r,hd⟩))))
 refine .sr (.ks 2 r (.nilS [15,1] r r (.condP r hd (fun hb2 hd=>?_) fun hb2 hd=>?_)))
 · exact .sr (.ks 3 r (.nilS [4] r r (.ret (pret results37 (.t r .n) (.refl _) ⟨(bnd .i64 a1 1),r,hd⟩))))
 refine .sr (.ks 3 r (.nilS [1] r r (.seq (.sr (.ks 1 r (.rem r r (by decide) r r (.ks 1 r (.nilS [10,1] r r (.condP r hd (fun hb3 hd=>?_) fun hb3 hd=>?_)))))))))
 · exact .sr (.ks 1 r (.nilS [4] r r (.ret (pret results37 (.t r .n) (.refl _) ⟨4611686018427387904,r,hd⟩))))
 exact .skipS [1] r r (.sr (.ks 2 r (.nilS [4] r r (.ret (pret results37 (.t r .n) (.refl _) ⟨(bnd .i64 a1 4611686018427387903),r,hd⟩)))))
theorem W_law02_Factor {I:IH} {a0:Int} {a1:Int} {Q:Int→Prop}  (hd:law02_Factor a0 a1 Q) :
  PFun prog 34 [.int .i64 a0,.int .i64 a1] I (fun _=>o0_ Q):=by
 refine Fun.enter func34 r ntmps34 r (.c (.c .n)) fun w0 M=>?_
 refine .sr (.ks 1 r (.nilS [1,0] r r (.seq (.sr (.ks 2 r (.nilS [6,1,0] r r (.condP r hd (fun hb1 hd=>?_) fun hb1 hd=>?_)))))))
 · exact .sr (.ks 1 r (.rem r r (by decide) r r (.ks 1 r (.nilS [4] r r (.ret (pret results34 (.t r .n) (.refl _) ⟨(a1.tmod 2147483648),r,hd⟩))))))
 refine .skipS [1,0] r r (.sr (.ks 2 r ?_))
 have hw3:=W_law02_Value (I:=I) hd
 refine .callP call37 r hw3 r r fun v4 hv5=>?_
 obtain ⟨r2,rfl,hd⟩:=hv5
 exact .ks 1 r (.nilS [4] r r (.ret (pret results34 (.t r .n) (.refl _) ⟨r2,r,hd⟩)))
theorem W_law13_Task_Matrix {I:IH} {a0:Law13_Task} {p1:Option Addr} {c2:Nat} {p4:Option Addr} {c5:Nat} {p7:Option Addr} {c8:Nat} {p10:Option Addr} {c11:Nat} {Q:Rows→Prop} (R3:RepSl eTriple I p1 c2 a0.L) (R6:RepSl eItem I p4 c5 a0.X) (R9:RepSl eItem I p7 c8 a0.Y) (R12:RepSl eU64 I p10 c11 a0.F) (hd:law13_Task_Matrix a0 Q) :
  PFun prog 8 [.agg #[.int .i64 a0.Ring,.int .u8 a0.Size.1,.int .u8 a0.Size.2,.slice p1 a0.L.length c2,.slice p4 a0.X.length c5,.slice p7 a0.Y.length c8,.slice p10 a0.F.length c11,.bool a0.Others]] I (fun I_ v=>∃ r p13 c14 p16 c17 p19 c20,v=.agg #[.int .i64 r.Rows,.int .i64 r.Cols,.slice p13 r.Start.length c14,.slice p16 r.Col.length c17,.slice p19 r.Val.length c20]∧RepSl eI64 I_ p13 c14 r.Start∧RepSl eI64 I_ p16 c17 r.Col∧RepSl eI64 I_ p19 c20 r.Val∧Q r):=by
 refine Fun.enter func8 r ntmps8 r (.c .n) fun w0 M=>?_
 refine .sr (.boxA r r r fun b26=>?_)
 refine .allocA zv34 r r fun b28=>?_
 refine .nilS [2,1] r r (.sr (.fa un28 r sizeOf23 r (o:=1) r r r (.loadA isAgg23 sizeOf23 r (.s .z) (.s (.t (.t .nil))) r r r (.fa un28 r sizeOf24 r (o:=3) r r r (.load1 isAgg24 r (.s .z) r r r ?_)))))
 have hw63:=W_law07_Some (I:=I) R3 hd
 refine .call call32 r hw63 r r fun v52 I49 hl50 hv51=>?_
 obtain ⟨r48,p54,c55,p57,c58,p60,c61,rfl,R56,R59,R62,hd⟩:=hv51
 replace R3:=R3.mono hl50
 replace R6:=R6.mono hl50
 replace R9:=R9.mono hl50
 replace R12:=R12.mono hl50
 refine .allocA zv34 r r fun b64=>?_
 refine .storeA sz34 r r .z (.t (.t (.t (.t (.t .nil))))) r r (.nilS [3,2,1] r r (.sr (.fa un28 r sizeOf22 r (o:=0) r r r (.load1 isAgg22 r (.s (.s .z)) r r r ?_))))
 have hw71:=W_law13_Right (I:=I49) hd
 refine .callP call33 r hw71 r r fun v72 hv73=>?_
 obtain ⟨r70,rfl,hd⟩:=hv73
 refine .ks 1 r (.nilS [4,3,2] r r (.drop (.s (.s .z)) (.sr (.ks 1 r (.nilS [5,4,3,2] r r (.seq (.sr (.ks 1 r (.nilS [6,5,4,3,2] r r ?_)))))))))
 refine .block (.own0 eI64 2 (.loop hd (fun (s:(List Int)×Int) c w=>match s with | (s132,s136)=>∃ I_ p133 c134,IH.le I49 I_∧Ok ⟨35,[],none⟩ [(2,.pointer (some ⟨b28,0,none⟩)),(3,.pointer (some ⟨b64,0,none⟩)),(4,.int .i64 r70),(5,.slice p133 s132.length c134),(6,.int .i64 s136)] c∧Sym w0 M I I_ [pto b28 (.cells #[.int .i64 0,.int .i64 0,.slice none 0 0,.slice none 0 0,.slice none 0 0] 34 (0,0)),pto b64 (.cells #[.int .i64 r48.Rows,.int .i64 r48.Cols,.slice p54 r48.Start.length c55,.slice p57 r48.Col.length c58,.slice p60 r48.Val.length c61] 34 (0,0)),OwnSl eI64 2 p133 c134 s132] w) (fun c w ho hs=>⟨I49,_,_,(.refl _),ho.sub ⟨r,r,r,r,r,trivial⟩,hs.pick (.c (.s (.s .z)) (.c (.s .z) (.c .z .n)))⟩) ?_))
 rintro ⟨s132,s136⟩ next138 hd c w hst
 obtain ⟨I139,p133,c134,hl140,hok,hsym⟩:=hst
 have le141:=IH.le.trans hl50 hl140
 replace R56:=R56.mono hl140
 replace R59:=R59.mono hl140
 replace R62:=R62.mono hl140
 refine Cod.at hok hsym (.seq (.sr (.ks 1 r (.fa un34 r sz32 r (o:=4) r r r (.load1 ia32 r (.s .z) r r r (.len un32 r r r r (.ks 1 r (.nilS [19,6,5,4,3,2] r r (.condP r hd (fun hb143 hd=>?_) fun hb143 hd=>?_)))))))))
 · refine .skipS [6,5,4,3,2] r r (.seq (.block (.region (.ks 2 r (.fa un34 r sz32 r (o:=4) r r r (.load1 ia32 r (.s .z) r r r (.ks 1 r ?_)))))))
   obtain ⟨h144,x145,hx146,hd⟩:=hd
   obtain ⟨b147,o148,cs149,e150,hC151,hr152⟩:=R62.2 _ _ hx146
   cases hr152
   refine .ixa un32 sz2 r e150 r h144 (idx_lt hx146 h144) r r (.ld1 (j:=0) ia2 hC151 r r r r r ?_)
   have hw154:=W_law02_Factor (I:=I139) hd
   refine .callP call34 r hw154 r r fun v155 hv156=>?_
   obtain ⟨r153,rfl,hd⟩:=hv156
   refine .buildSlice 1 un32 sz2 zeroValue2 r r (.c r r r .n) r r fun b157=>?_
   obtain ⟨hl159,hd⟩:=hd
   refine .append (ys:=[r153]) 8 (.s (.s (.s .z))) un32 un32 IN2 r r r r r r r r r (.box .z (.one r) r) hl159 r r fun p160 c161=>?_
   exact .ks 1 r (.nilS [5,6,4,3,2] r r (.drop (.s .z) (.region (.ks 3 r (.nil' fun c w ho hs=>⟨((s132++([r153])),w64 (s136+1)),hd,I139,_,_,hl140,ho.sub ⟨r,r,r,r,r,trivial⟩,hs.pick (.c (.s .z) (.c (.s .z) (.c .z .n)))⟩)))))
 refine .exitS [5,3,2] r r (.sr (.ks 1 r (.fa un34 r sz32 r (o:=4) r r r (.store1 sz32 r r (.s .z) (.s (.s (.s (.s (.t .nil))))) r (.nilS [3,2] r r (.sr (.loadW ia34 sz34 r (.s .z) r r r (.storeA sz34 r r .z (.t (.t (.t (.t (.t .nil))))) r r (.nilS [2] r r ?_)))))))))
 refine .drop (.s .z) (.pub (.s .z) fun I163 hl164 R165=>?_)
 have le166:=IH.le.trans le141 hl164
 have le167:=IH.le.trans hl140 hl164
 replace R56:=R56.mono hl164
 replace R59:=R59.mono hl164
 exact .ret (pret results8 (.w ia34 sz34 r .z r .n) le166 ⟨({ Rows:=r48.Rows,Cols:=r48.Cols,Start:=r48.Start,Col:=r48.Col,Val:=s132 }:Rows),_,_,_,_,_,_,r,R56,R59,R165,hd⟩)
theorem W_ref09_Of {I:IH} {a0:Int} {a1:Int} {a2:List Item} {p1:Option Addr} {c2:Nat} {Q:(Vec×Int)→Prop} (R3:RepSl eItem I p1 c2 a2) (hd:ref09_Of a0 a1 a2 Q) :
  PFun prog 87 [.int .i64 a0,.int .i64 a1,.slice p1 a2.length c2] I (o7_ Q):=by
 refine Fun.enter func87 r ntmps87 r (.c (.c (.c .n))) fun w0 M=>?_
 refine .sr (.allocA zv37 r r fun b9=>?_)
 refine .ks 1 r (.nilS [6,2,1,0] r r (.seq (.sr (.ks 1 r ?_))))
 have hw17:=W_ref02_Is (I:=I) hd
 refine .callP call77 r hw17 r r fun v18 hv19=>?_
 obtain ⟨r16,rfl,hd⟩:=hv19
 refine .ks 1 r (.nilS [15,6,2,1,0] r r (.condP r hd (fun hb20 hd=>?_) fun hb20 hd=>?_))
 · exact .sr (.build zv37 un37 BI37 .n (by exact trivial) r r (.storeA sz37 r r .z (.t (.t .nil)) r r (.ks 1 r (.nilS [7,6] r r (.ret (pret results87 (.w ia37 sz37 r .z r (.t r .n)) (.refl _) ⟨(({ N:=0,Items:=([]:List Item) }:Vec),8),_,_,r,(.nil _ _ _),hd⟩))))))
 refine .skipS [6,2,1,0] r r (.seq (.sr (.ks 3 r ?_)))
 refine splitP hd (fun hb23 hd=>?_) fun hb23 hd=>?_
 · rw [hb23]
   exact .ks 3 r (.nilS [22,6,2,1,0] r r (.condKT r r (.sr (.build zv37 un37 BI37 .n (by exact trivial) r r (.storeA sz37 r r .z (.t (.t .nil)) r r (.ks 1 r (.nilS [7,6] r r (.ret (pret results87 (.w ia37 sz37 r .z r (.t r .n)) (.refl _) ⟨(({ N:=0,Items:=([]:List Item) }:Vec),3),_,_,r,(.nil _ _ _),hd⟩)))))))))
 rw [hb23]
 refine .ks 3 r (.nilS [22,6,2,1,0] r r (.condP r hd (fun hb24 hd=>?_) fun hb24 hd=>?_))
 · exact .sr (.build zv37 un37 BI37 .n (by exact trivial) r r (.storeA sz37 r r .z (.t (.t .nil)) r r (.ks 1 r (.nilS [7,6] r r (.ret (pret results87 (.w ia37 sz37 r .z r (.t r .n)) (.refl _) ⟨(({ N:=0,Items:=([]:List Item) }:Vec),3),_,_,r,(.nil _ _ _),hd⟩))))))
 refine .skipS [6,2,1,0] r r (.sr (.ks 1 r (.nilS [8,6,2,1,0] r r (.seq (.sr (.ks 1 r (.nilS [9,8,6,2,1,0] r r (.block (.own0 eEdge 123 ?_)))))))))
 refine .loop hd (fun (s:(List Edge)×Int) c w=>match s with | (s399,s403)=>∃ I_ p400 c401,IH.le I I_∧Ok ⟨95,[],none⟩ [(0,.int .i64 a0),(1,.int .i64 a1),(2,.slice p1 a2.length c2),(6,.pointer (some ⟨b9,0,none⟩)),(8,.slice p400 s399.length c401),(9,.int .i64 s403)] c∧Sym w0 M I I_ [pto b9 (.cells #[.int .i64 0,.slice none 0 0] 37 (0,0)),OwnSl eEdge 123 p400 c401 s399] w) (fun c w ho hs=>⟨I,_,_,(.refl _),ho.sub ⟨r,r,r,r,r,r,trivial⟩,hs.pick (.c (.s .z) (.c .z .n))⟩) ?_
 rintro ⟨s399,s403⟩ next405 hd c w hst
 obtain ⟨I406,p400,c401,hl407,hok,hsym⟩:=hst
 replace R3:=R3.mono hl407
 refine Cod.at hok hsym (.seq (.sr (.ks 2 r (.len un25 r r r r (.ks 1 r (.nilS [27,9,8,6,2,1,0] r r (.condP r hd (fun hb409 hd=>?_) fun hb409 hd=>?_)))))))
 · refine .skipS [9,8,6,2,1,0] r r (.seq (.block (.seq (.sr (.ks 2 r ?_)))))
   obtain ⟨h430,x431,hx432,hd⟩:=hd
   obtain ⟨b433,o434,cs435,e436,hC437,hr438⟩:=R3.2 _ _ hx432
   cases hr438
   refine .ixa un25 sz72 r e436 r h430 (idx_lt hx432 h430) r r (.fa un72 r sz3 r (o:=o434+s403.toNat*2) r r r (.ld1 (j:=0) ia3 hC437 r r r r r (.ks 2 r ?_)))
   refine splitP hd (fun hb439 hd=>?_) fun hb439 hd=>?_
   · rw [hb439]
     exact .ks 8 r (.nilS [44,9,8,6,2,1,0] r r (.condKT r r (.sr (.build zv37 un37 BI37 .n (by exact trivial) r r (.storeA sz37 r r .z (.t (.t .nil)) r r (.ks 1 r (.nilS [7,6] r r (.drop (.s .z) (.ret (pret results87 (.w ia37 sz37 r .z r (.t r .n)) hl407 ⟨(({ N:=0,Items:=([]:List Item) }:Vec),3),_,_,r,(.nil _ _ _),hd⟩))))))))))
   rw [hb439]
   refine .ks 2 r ?_
   obtain ⟨h440,x441,hx442,hd⟩:=hd
   obtain ⟨b443,o444,cs445,e446,hC447,hr448⟩:=R3.2 _ _ hx442
   cases hr448
   refine .gyes r r r (.ixa un25 sz72 r e446 r h440 (idx_lt hx442 h440) r r (.gyes r r r (.fa un72 r sz3 r (o:=o444+s403.toNat*2) r r r (.gyes r r r (.ld1 (j:=0) ia3 hC447 r r r r r (.ks 3 r (.nilS [44,9,8,6,2,1,0] r r (.condP r hd (fun hb449 hd=>?_) fun hb449 hd=>?_))))))))
   · exact .sr (.build zv37 un37 BI37 .n (by exact trivial) r r (.storeA sz37 r r .z (.t (.t .nil)) r r (.ks 1 r (.nilS [7,6] r r (.drop (.s .z) (.ret (pret results87 (.w ia37 sz37 r .z r (.t r .n)) hl407 ⟨(({ N:=0,Items:=([]:List Item) }:Vec),3),_,_,r,(.nil _ _ _),hd⟩)))))))
   refine .skipS [9,8,6,2,1,0] r r (.ownF (.s .z) fun hne450=>?_)
   refine .dr [0,1,2,3,4,5,6,7,8,9,10,11,12,13] 14 (.fk 3 r ?_)
   obtain ⟨h451,x452,hx453,hd⟩:=hd
   obtain ⟨b454,o455,cs456,e457,hC458,hr459⟩:=R3.2 _ _ hx453
   cases hr459
   refine .g r r r (fun _=>.ixa un25 sz72 r e457 r h451 (idx_lt hx453 h451) r r .mk) (.g r r r (fun _=>.fa un72 r sz3 r (o:=o455+s403.toNat*2) r r r .mk) (.g r r r (fun _=>.ld1 (j:=0) ia3 hC458 r r r r r .mk) (.fk 2 r ?_)))
   obtain ⟨h460,x461,hx462,hd⟩:=hd
   obtain ⟨b463,o464,cs465,e466,hC467,hr468⟩:=R3.2 _ _ hx462
   cases hr468
   refine .g r r r (fun _=>.ixa un25 sz72 r e466 r h460 (idx_lt hx462 h460) r r .mk) (.g r r r (fun _=>.fa un72 r sz2 r (o:=o464+s403.toNat*2+1) r r r .mk) (.g r r r (fun _=>.ld1 (j:=1) ia2 hC467 r r r r r .mk) (.g r r r (fun _=>.build zv123 un123 BI123 (.c r r r (.s (.t .nil)) (.c r r r (.s (.s (.t .nil))) .n)) (by exact ⟨⟨_,_,r,r,r⟩,⟨⟨_,_,r,r,r⟩,trivial⟩⟩) r r .mk) (.ww r fun ex=>?_))))
   refine .buildSlice 1 un121 sz123 zv123 r r (.c r r r .n) r r fun b469=>?_
   refine .so 3 r r r (.ck 1 r r trivial) (.ww r fun ex=>?_)
   obtain ⟨hl471,hd⟩:=hd
   refine .append (ys:=[({ From:=0,To:=x452.At,W:=x461.Val }:Edge)]) 24 (.s (.s .z)) un121 un121 IN123 r r r r r r r r r (.box .z (.one r) r) hl471 r r fun p472 c473=>?_
   exact .so 3 r r r trivial (.e2 14 (.ks 1 r (.nilS [8,9,6,2,1,0] r r (.drop (.s .z) (.region (.ks 3 r (.nil' fun c w ho hs=>⟨((s399++([({ From:=0,To:=x452.At,W:=x461.Val }:Edge)])),w64 (s403+1)),hd,I406,_,_,hl407,ho.sub ⟨r,r,r,r,r,r,trivial⟩,hs.pick (.c (.s .z) (.c .z .n))⟩)))))))
 refine .exitS [8,6,1,0] r r (.sr (.ks 2 r (.pub (.s .z) fun I490 hl491 R492=>?_)))
 have le493:=IH.le.trans hl407 hl491
 have hw503:=W_ref05_Combine (I:=I490) R492 hd
 refine .call call88 r hw503 r r fun v498 I495 hl496 hv497=>?_
 obtain ⟨r494,p500,c501,rfl,R502,hd⟩:=hv497
 have le504:=IH.le.trans le493 hl496
 replace R492:=R492.mono hl496
 refine .ks 5 r (.nilS [10,8,6,1] r r (.seq (.sr (.ks 2 r (.nilS [67,10,8,6,1] r r (.condP r hd (fun hb506 hd=>?_) fun hb506 hd=>?_))))))
 · exact .sr (.build zv37 un37 BI37 .n (by exact trivial) r r (.ks 1 r (.storeA sz37 r r .z (.t (.t .nil)) r r (.ks 1 r (.nilS [7,6] r r (.ret (pret results87 (.w ia37 sz37 r .z r (.t r .n)) le504 ⟨(({ N:=0,Items:=([]:List Item) }:Vec),r494.2),_,_,r,(.nil _ _ _),hd⟩)))))))
 refine .skipS [8,6,1] r r (.sr (.ks 1 r (.build zv37 un37 BI37 (.c r r r (.t .nil) .n) (by exact ⟨⟨_,_,r,r,r⟩,trivial⟩) r r (.allocA zv37 r r fun b509=>?_))))
 refine .storeA sz37 r r .z (.t (.t .nil)) r r (.nilS [11,8,6] r r (.seq (.sr (.ks 1 r (.nilS [12,11,8,6] r r (.block (.own0 eItem 72 (.loop hd (fun (s:(List Item)×Int) c w=>match s with | (s580,s584)=>∃ I_ p581 c582,IH.le I495 I_∧Ok ⟨95,[],none⟩ [(6,.pointer (some ⟨b9,0,none⟩)),(8,.slice p500 r494.1.length c501),(11,.pointer (some ⟨b509,0,none⟩)),(12,.int .i64 s584)] c∧Sym w0 M I I_ [pto b9 (.cells #[.int .i64 0,.slice none 0 0] 37 (0,0)),pto b509 (.cells #[.int .i64 a1,.slice p581 s580.length c582] 37 (0,0)),OwnSl eItem 72 p581 c582 s580] w) (fun c w ho hs=>⟨I495,_,_,(.refl _),ho.sub ⟨r,r,r,r,trivial⟩,hs.pick (.c (.s (.s .z)) (.c (.s .z) (.c .z .n)))⟩) ?_))))))))
 rintro ⟨s580,s584⟩ next586 hd c w hst
 obtain ⟨I587,p581,c582,hl588,hok,hsym⟩:=hst
 have le589:=IH.le.trans le504 hl588
 replace R502:=R502.mono hl588
 refine Cod.at hok hsym (.seq (.sr (.ks 2 r (.len un121 r r r r (.ks 1 r (.nilS [75,12,11,8,6] r r (.condP r hd (fun hb591 hd=>?_) fun hb591 hd=>?_)))))))
 · refine .skipS [12,11,8,6] r r (.seq (.block (.ownF (.s (.s .z)) fun hne592=>?_)))
   refine .dr [0,1,2,3,4,5,6,7,8,9,10,11,12,13,14] 15 (.g r r r (fun _=>.fa un37 r sz25 r (o:=1) r r r .mk) (.g r r r (fun _=>.load1 ia25 r (.s .z) r r r .mk) (.fk 2 r ?_)))
   obtain ⟨h593,x594,hx595,hd⟩:=hd
   obtain ⟨b596,o597,cs598,e599,hC600,hr601⟩:=R502.2 _ _ hx595
   cases hr601
   refine .g r r r (fun _=>.ixa un121 sz123 r e599 r h593 (idx_lt hx595 h593) r r .mk) (.g r r r (fun _=>.fa un123 r sz3 r (o:=o597+s584.toNat*3+1) r r r .mk) (.g r r r (fun _=>.ld1 (j:=1) ia3 hC600 r r r r r .mk) (.fk 2 r ?_)))
   obtain ⟨h602,x603,hx604,hd⟩:=hd
   obtain ⟨b605,o606,cs607,e608,hC609,hr610⟩:=R502.2 _ _ hx604
   cases hr610
   refine .g r r r (fun _=>.ixa un121 sz123 r e608 r h602 (idx_lt hx604 h602) r r .mk) (.g r r r (fun _=>.fa un123 r sz2 r (o:=o606+s584.toNat*3+2) r r r .mk) (.g r r r (fun _=>.ld1 (j:=2) ia2 hC609 r r r r r .mk) (.g r r r (fun _=>.build zv72 un72 BI72 (.c r r r (.t .nil) (.c r r r (.s (.t .nil)) .n)) (by exact ⟨⟨_,_,r,r,r⟩,⟨⟨_,_,r,r,r⟩,trivial⟩⟩) r r .mk) (.ww r fun ex=>?_))))
   refine .buildSlice 1 un25 sz72 zv72 r r (.c r r r .n) r r fun b611=>?_
   refine .so 4 r r r (.cg r r r r (fun _=>.load1 ia25 r (.s (.s .z)) r r r .mk) (.cg r r r r (fun _=>.fa un37 r sz25 r (o:=1) r r r .mk) trivial)) (.ww r fun ex=>?_)
   obtain ⟨hl613,hd⟩:=hd
   refine .append (ys:=[({ At:=x594.To,Val:=x603.W }:Item)]) 16 (.s (.s (.s .z))) un25 un25 IN72 r r r r r r r r r (.box .z (.one r) r) hl613 r r fun p614 c615=>?_
   exact .so 4 r r r trivial (.e2 15 (.fa un37 r sz25 r (o:=1) r r r (.store1 sz25 r r (.s (.s (.s .z))) (.s (.t .nil)) r (.nilS [12,11,8,6] r r (.drop (.s .z) (.region (.ks 3 r (.nil' fun c w ho hs=>⟨((s580++([({ At:=x594.To,Val:=x603.W }:Item)])),w64 (s584+1)),hd,I587,_,_,hl588,ho.sub ⟨r,r,r,r,trivial⟩,hs.pick (.c (.s .z) (.c (.s .z) (.c .z .n)))⟩))))))))
 refine .exitS [11,6] r r (.sr (.loadW ia37 sz37 r (.s .z) r r r (.storeA sz37 r r .z (.t (.t .nil)) r r (.ks 1 r (.nilS [7,6] r r (.drop (.s .z) (.pub (.s .z) fun I617 hl618 R619=>?_)))))))
 have le620:=IH.le.trans le589 hl618
 have le621:=IH.le.trans hl588 hl618
 exact .ret (pret results87 (.w ia37 sz37 r .z r (.t r .n)) le620 ⟨(({ N:=a1,Items:=s580 }:Vec),0),_,_,r,R619,hd⟩)
theorem W_law09_Some {I:IH} {a0:Int} {a1:List Item} {p1:Option Addr} {c2:Nat} {Q:Vec→Prop} (R3:RepSl eItem I p1 c2 a1) (hd:law09_Some a0 a1 Q) :
  PFun prog 35 [.int .u8 a0,.slice p1 a1.length c2] I (o8_ Q):=by
 refine Fun.enter func35 r ntmps35 r (.c (.c .n)) fun w0 M=>?_
 refine .sr (.allocA zv37 r r fun b9=>?_)
 refine .nilS [4,1,0] r r (.sr (.ks 1 r (.conv underlying5 un3 r r r (.rem r r (by decide) r r (.ks 1 r (.nilS [5,4,1] r r (.sr (.ks 1 r (.nilS [6,5,4,1] r r ?_)))))))))
 refine .seq ?_
 refine Cod.joinQ (σ:=(List Item)) hd (fun (s361:(List Item)) c w=>∃ I_ p362 c363,IH.le I I_∧Ok ⟨56,[],none⟩ [(4,.pointer (some ⟨b9,0,none⟩)),(5,.int .i64 ((w64 (a0)).tmod 60)),(6,.slice p362 s361.length c363)] c∧Sym w0 M I I_ [pto b9 (.cells #[.int .i64 0,.slice none 0 0] 37 (0,0)),OwnSl eItem 72 p362 c363 s361] w) (fun k365 hd=>?_) ?_
 · skip
   refine .sr (.ks 1 r (.nilS [7,6,5,4,1] r r (.block (.own0 eItem 72 (.loop hd (fun (s:(List Item)×Int) c w=>match s with | (s481,s485)=>∃ I_ p482 c483,IH.le I I_∧Ok ⟨56,[],none⟩ [(1,.slice p1 a1.length c2),(4,.pointer (some ⟨b9,0,none⟩)),(5,.int .i64 ((w64 (a0)).tmod 60)),(6,.slice p482 s481.length c483),(7,.int .i64 s485)] c∧Sym w0 M I I_ [pto b9 (.cells #[.int .i64 0,.slice none 0 0] 37 (0,0)),OwnSl eItem 72 p482 c483 s481] w) (fun c w ho hs=>⟨I,_,_,(.refl _),ho.sub ⟨r,r,r,r,r,trivial⟩,hs.pick (.c (.s .z) (.c .z .n))⟩) ?_)))))
   rintro ⟨s481,s485⟩ next487 hd c w hst
   obtain ⟨I488,p482,c483,hl489,hok,hsym⟩:=hst
   replace R3:=R3.mono hl489
   refine Cod.at hok hsym (.seq (.sr (.ks 2 r (.len un25 r r r r (.ks 2 r ?_)))))
   refine splitP hd (fun hb493 hd=>?_) fun hb493 hd=>?_
   · rw [hb493]
     refine .ks 4 r ?_
     refine splitP hd (fun hb494 hd=>?_) fun hb494 hd=>?_
     · rw [hb494]
       refine .ks 3 r (.nilS [24,7,6,5,4,1] r r (.condP r hd (fun hb495 hd=>?_) fun hb495 hd=>?_))
       · refine .skipS [7,6,5,4,1] r r (.seq (.block (.sr (.ks 2 r ?_))))
         obtain ⟨h505,x506,hx507,hd⟩:=hd
         obtain ⟨b508,o509,cs510,e511,hC512,hr513⟩:=R3.2 _ _ hx507
         cases hr513
         refine .ixa un25 sz72 r e511 r h505 (idx_lt hx507 h505) r r (.fa un72 r sz3 r (o:=o509+s485.toNat*2) r r r (.ld1 (j:=0) ia3 hC512 r r r r r (.ks 1 r (.nilS [32,7,6,5,4,1] r r (.condP r hd (fun hb514 hd=>?_) fun hb514 hd=>?_)))))
         · refine .ownF (.s .z) fun hne515=>?_
           refine .dr [0,1,2,3,4,5,6,7,8,9,10,11,12,13,14,15] 16 (.fk 3 r ?_)
           obtain ⟨h516,x517,hx518,hd⟩:=hd
           obtain ⟨b519,o520,cs521,e522,hC523,hr524⟩:=R3.2 _ _ hx518
           cases hr524
           refine .g r r r (fun _=>.ixa un25 sz72 r e522 r h516 (idx_lt hx518 h516) r r .mk) (.g r r r (fun _=>.fa un72 r sz3 r (o:=o520+s485.toNat*2) r r r .mk) (.g r r r (fun _=>.ld1 (j:=0) ia3 hC523 r r r r r .mk) (.fk 1 r ?_)))
           obtain ⟨hz525,hd⟩:=hd
           refine .g r r r (fun _=>.rem r r hz525 r r .mk) (.fk 2 r ?_)
           obtain ⟨h526,x527,hx528,hd⟩:=hd
           obtain ⟨b529,o530,cs531,e532,hC533,hr534⟩:=R3.2 _ _ hx528
           cases hr534
           refine .g r r r (fun _=>.ixa un25 sz72 r e532 r h526 (idx_lt hx528 h526) r r .mk) (.g r r r (fun _=>.fa un72 r sz2 r (o:=o530+s485.toNat*2+1) r r r .mk) (.g r r r (fun _=>.ld1 (j:=1) ia2 hC533 r r r r r .mk) (.g r r r (fun _=>.build zv72 un72 BI72 (.c r r r (.t .nil) (.c r r r (.s (.t .nil)) .n)) (by exact ⟨⟨_,_,r,r,r⟩,⟨⟨_,_,r,r,r⟩,trivial⟩⟩) r r .mk) (.ww r fun ex=>?_))))
           refine .buildSlice 1 un25 sz72 zv72 r r (.c r r r .n) r r fun b535=>?_
           refine .so 3 r r r (.ck 1 r r trivial) (.ww r fun ex=>?_)
           obtain ⟨hl537,hd⟩:=hd
           refine .append (ys:=[({ At:=x517.At.tmod ((w64 (a0)).tmod 60),Val:=x527.Val }:Item)]) 16 (.s (.s .z)) un25 un25 IN72 r r r r r r r r r (.box .z (.one r) r) hl537 r r fun p538 c539=>?_
           exact .so 3 r r r trivial (.e2 16 (.ks 1 r (.nilS [6,7,5,4,1] r r (.drop (.s .z) (.region (.ks 3 r (.nil' fun c w ho hs=>⟨((s481++([({ At:=x517.At.tmod ((w64 (a0)).tmod 60),Val:=x527.Val }:Item)])),w64 (s485+1)),hd,I488,_,_,hl489,ho.sub ⟨r,r,r,r,r,trivial⟩,hs.pick (.c (.s .z) (.c .z .n))⟩)))))))
         exact .skipS [7,6,5,4,1] r r (.region (.ks 3 r (.nil' fun c w ho hs=>⟨(s481,w64 (s485+1)),hd,I488,_,_,hl489,ho.sub ⟨r,r,r,r,r,trivial⟩,hs.pick (.c .z (.c .z .n))⟩)))
       exact .exit fun c w ho hs=>⟨s481,hd,I488,_,_,hl489,ho.sub ⟨r,r,r,trivial⟩,hs.pick (.c .z (.c .z .n))⟩
     rw [hb494]
     exact .ks 3 r (.nilS [24,7,6,5,4,1] r r (.condKF r r (.exit fun c w ho hs=>⟨s481,hd,I488,_,_,hl489,ho.sub ⟨r,r,r,trivial⟩,hs.pick (.c .z (.c .z .n))⟩)))
   rw [hb493]
   exact .ks 7 r (.nilS [24,7,6,5,4,1] r r (.condKF r r (.exit fun c w ho hs=>⟨s481,hd,I488,_,_,hl489,ho.sub ⟨r,r,r,trivial⟩,hs.pick (.c .z (.c .z .n))⟩)))
 rintro s361 hd c w hst
 obtain ⟨I541,p362,c363,hl542,hok,hsym⟩:=hst
 refine Cod.at hok hsym (.sr (.ks 2 r (.pub (.s .z) fun I543 hl544 R545=>?_)))
 have le546:=IH.le.trans hl542 hl544
 have hw556:=W_ref09_Of (I:=I543) R545 hd
 refine .call call87 r hw556 r r fun v551 I548 hl549 hv550=>?_
 obtain ⟨r547,p553,c554,rfl,R555,hd⟩:=hv550
 have le557:=IH.le.trans le546 hl549
 replace R545:=R545.mono hl549
 refine .ks 3 r (.allocA zv37 r r fun b558=>?_)
 exact .storeA sz37 r r .z (.t (.t .nil)) r r (.ks 1 r (.nilS [8,4] r r (.sr (.loadW ia37 sz37 r .z r r r (.storeA sz37 r r (.s .z) (.t (.t .nil)) r r (.nilS [4] r r (.drop .z (.ret (pret results35 (.w ia37 sz37 r .z r .n) le557 ⟨r547.1,_,_,r,R555,hd⟩)))))))))
theorem W_law13_Task_Vector {I:IH} {a0:Law13_Task} {a1:List Item} {p1:Option Addr} {c2:Nat} {p4:Option Addr} {c5:Nat} {p7:Option Addr} {c8:Nat} {p10:Option Addr} {c11:Nat} {p13:Option Addr} {c14:Nat} {Q:Vec→Prop} (R3:RepSl eTriple I p1 c2 a0.L) (R6:RepSl eItem I p4 c5 a0.X) (R9:RepSl eItem I p7 c8 a0.Y) (R12:RepSl eU64 I p10 c11 a0.F) (R15:RepSl eItem I p13 c14 a1) (hd:law13_Task_Vector a0 a1 Q) :
  PFun prog 9 [.agg #[.int .i64 a0.Ring,.int .u8 a0.Size.1,.int .u8 a0.Size.2,.slice p1 a0.L.length c2,.slice p4 a0.X.length c5,.slice p7 a0.Y.length c8,.slice p10 a0.F.length c11,.bool a0.Others],.slice p13 a1.length c14] I (fun I_ v=>∃ r p16 c17,v=.agg #[.int .i64 r.N,.slice p16 r.Items.length c17]∧RepSl eItem I_ p16 c17 r.Items∧Q r):=by
 refine Fun.enter func9 r ntmps9 r (.c (.c .n)) fun w0 M=>?_
 refine .sr (.boxA r r r fun b23=>?_)
 refine .allocA zv37 r r fun b25=>?_
 refine .nilS [4,2,1] r r (.sr (.fa un28 r sizeOf23 r (o:=1) r r r (.ixArr (i:=1) underlying23 sizeOf5 r r (by decide) (o:=2) r r r (.load1 isAgg5 r (.s .z) r r r ?_))))
 have hw44:=W_law07_Size (I:=I) hd
 refine .callP call36 r hw44 r r fun v45 hv46=>?_
 obtain ⟨r43,rfl,hd⟩:=hv46
 refine .conv un3 underlying5 r r r (.ks 1 r ?_)
 have hw56:=W_law09_Some (I:=I) R15 hd
 refine .call call35 r hw56 r r fun v51 I48 hl49 hv50=>?_
 obtain ⟨r47,p53,c54,rfl,R55,hd⟩:=hv50
 replace R3:=R3.mono hl49
 replace R6:=R6.mono hl49
 replace R9:=R9.mono hl49
 replace R12:=R12.mono hl49
 replace R15:=R15.mono hl49
 refine .allocA zv37 r r fun b57=>?_
 refine .storeA sz37 r r .z (.t (.t .nil)) r r (.nilS [5,4,2] r r (.sr (.ks 1 r (.nilS [6,5,4,2] r r (.seq (.sr (.ks 1 r (.nilS [7,6,5,4,2] r r (.block ?_)))))))))
 refine .own0 eItem 72 (.loop hd (fun (s:(List Item)×Int) c w=>match s with | (s144,s148)=>∃ I_ p145 c146,IH.le I48 I_∧Ok ⟨46,[],none⟩ [(2,.pointer (some ⟨b23,0,none⟩)),(4,.pointer (some ⟨b25,0,none⟩)),(5,.pointer (some ⟨b57,0,none⟩)),(6,.slice p145 s144.length c146),(7,.int .i64 s148)] c∧Sym w0 M I I_ [pto b23 (.cells #[.int .i64 a0.Ring,.int .u8 a0.Size.1,.int .u8 a0.Size.2,.slice p1 a0.L.length c2,.slice p4 a0.X.length c5,.slice p7 a0.Y.length c8,.slice p10 a0.F.length c11,.bool a0.Others] 28 (0,0)),pto b25 (.cells #[.int .i64 0,.slice none 0 0] 37 (0,0)),pto b57 (.cells #[.int .i64 r47.N,.slice p53 r47.Items.length c54] 37 (0,0)),OwnSl eItem 72 p145 c146 s144] w) (fun c w ho hs=>⟨I48,_,_,(.refl _),ho.sub ⟨r,r,r,r,r,trivial⟩,hs.pick (.c (.s (.s (.s .z))) (.c (.s (.s .z)) (.c (.s .z) (.c .z .n))))⟩) ?_)
 rintro ⟨s144,s148⟩ next150 hd c w hst
 obtain ⟨I151,p145,c146,hl152,hok,hsym⟩:=hst
 have le153:=IH.le.trans hl49 hl152
 replace R3:=R3.mono hl152
 replace R6:=R6.mono hl152
 replace R9:=R9.mono hl152
 replace R12:=R12.mono hl152
 replace R55:=R55.mono hl152
 refine Cod.at hok hsym (.seq (.sr (.ks 1 r (.fa un37 r sz25 r (o:=1) r r r (.load1 ia25 r (.s (.s .z)) r r r (.len un25 r r r r (.ks 1 r (.nilS [19,7,6,5,4,2] r r (.condP r hd (fun hb155 hd=>?_) fun hb155 hd=>?_)))))))))
 · refine .skipS [7,6,5,4,2] r r (.seq (.block (.ownF (.s (.s (.s .z))) fun hne156=>?_)))
   refine .dr [0,1,2,3,4,5,6,7,8,10,11,12,13,14,15,9,16,17,18,19] 20 (.fk 1 r (.g r r r (fun _=>.fa un37 r sz25 r (o:=1) r r r .mk) (.g r r r (fun _=>.load1 ia25 r (.s (.s .z)) r r r .mk) (.fk 1 r ?_))))
   obtain ⟨h157,x158,hx159,hd⟩:=hd
   obtain ⟨b160,o161,cs162,e163,hC164,hr165⟩:=R55.2 _ _ hx159
   cases hr165
   refine .g r r r (fun _=>.ixa un25 sz72 r e163 r h157 (idx_lt hx159 h157) r r .mk) (.g r r r (fun _=>.fa un72 r sz3 r (o:=o161+s148.toNat*2) r r r .mk) (.g r r r (fun _=>.ld1 (j:=0) ia3 hC164 r r r r r .mk) (.g r r r (fun _=>.fa un28 r sizeOf22 r (o:=0) r r r .mk) (.g r r r (fun _=>.load1 isAgg22 r .z r r r .mk) (.g r r r (fun _=>.fa un37 r sz25 r (o:=1) r r r .mk) (.g r r r (fun _=>.load1 ia25 r (.s (.s .z)) r r r .mk) (.fk 1 r ?_)))))))
   obtain ⟨h166,x167,hx168,hd⟩:=hd
   obtain ⟨b169,o170,cs171,e172,hC173,hr174⟩:=R55.2 _ _ hx168
   cases hr174
   refine .g r r r (fun _=>.ixa un25 sz72 r e172 r h166 (idx_lt hx168 h166) r r .mk) (.g r r r (fun _=>.fa un72 r sz2 r (o:=o170+s148.toNat*2+1) r r r .mk) (.g r r r (fun _=>.ld1 (j:=1) ia2 hC173 r r r r r .mk) (.ww r fun ex=>?_)))
   have hw176:=W_law13_Right (I:=I151) hd
   refine .callP call33 r hw176 r r fun v177 hv178=>?_
   obtain ⟨r175,rfl,hd⟩:=hv178
   refine .so 4 r r r (.cg r r r r (fun _=>.ld1 (j:=1) ia2 hC173 r r r r r .mk) (.cg r r r r (fun _=>.fa un72 r sz2 r (o:=o170+s148.toNat*2+1) r r r .mk) (.cg r r r r (fun _=>.ixa un25 sz72 r e172 r h166 (idx_lt hx168 h166) r r .mk) (.ck 1 r r (.cg r r r r (fun _=>.load1 ia25 r (.s (.s .z)) r r r .mk) (.cg r r r r (fun _=>.fa un37 r sz25 r (o:=1) r r r .mk) (.cg r r r r (fun _=>.ld1 (j:=0) ia3 hC164 r r r r r .mk) (.cg r r r r (fun _=>.fa un72 r sz3 r (o:=o161+s148.toNat*2) r r r .mk) (.cg r r r r (fun _=>.ixa un25 sz72 r e163 r h157 (idx_lt hx159 h157) r r .mk) (.ck 1 r r (.cg r r r r (fun _=>.load1 ia25 r (.s (.s .z)) r r r .mk) (.cg r r r r (fun _=>.fa un37 r sz25 r (o:=1) r r r .mk) (.ck 1 r r trivial))))))))))))) (.ww r fun ex=>?_)
   have hw180:=W_law02_Value (I:=I151) hd
   refine .callP call37 r hw180 r r fun v181 hv182=>?_
   obtain ⟨r179,rfl,hd⟩:=hv182
   refine .so 4 r r r (.cg r r r r (fun _=>.ld1 (j:=0) ia3 hC164 r r r r r .mk) (.cg r r r r (fun _=>.fa un72 r sz3 r (o:=o161+s148.toNat*2) r r r .mk) (.cg r r r r (fun _=>.ixa un25 sz72 r e163 r h157 (idx_lt hx159 h157) r r .mk) (.ck 1 r r (.cg r r r r (fun _=>.load1 ia25 r (.s (.s .z)) r r r .mk) (.cg r r r r (fun _=>.fa un37 r sz25 r (o:=1) r r r .mk) (.ck 1 r r trivial))))))) (.g r r r (fun _=>.build zv72 un72 BI72 (.c r r r (.t .nil) (.c r r r (.s (.t .nil)) .n)) (by exact ⟨⟨_,_,r,r,r⟩,⟨⟨_,_,r,r,r⟩,trivial⟩⟩) r r .mk) (.ww r fun ex=>?_))
   refine .buildSlice 1 un25 sz72 zv72 r r (.c r r r .n) r r fun b183=>?_
   refine .so 5 r r r (.ck 1 r r trivial) (.ww r fun ex=>?_)
   obtain ⟨hl185,hd⟩:=hd
   refine .append (ys:=[({ At:=x158.At,Val:=r179 }:Item)]) 16 (.s (.s (.s (.s .z)))) un25 un25 IN72 r r r r r r r r r (.box .z (.one r) r) hl185 r r fun p186 c187=>?_
   exact .so 5 r r r trivial (.e2 20 (.ks 1 r (.nilS [6,7,5,4,2] r r (.drop (.s .z) (.region (.ks 3 r (.nil' fun c w ho hs=>⟨((s144++([({ At:=x158.At,Val:=r179 }:Item)])),w64 (s148+1)),hd,I151,_,_,hl152,ho.sub ⟨r,r,r,r,r,trivial⟩,hs.pick (.c (.s .z) (.c (.s .z) (.c (.s .z) (.c .z .n))))⟩)))))))
 refine .exitS [6,5,4] r r (.drop .z (.sr (.fa un37 r sz3 r (o:=0) r r r (.load1 ia3 r (.s .z) r r r (.ks 1 r (.build zv37 un37 BI37 (.c r r r (.t .nil) (.c r r r (.s (.t .nil)) .n)) (by exact ⟨⟨_,_,r,r,r⟩,⟨⟨_,_,r,r,r⟩,trivial⟩⟩) r r (.storeA sz37 r r .z (.t (.t .nil)) r r (.nilS [4] r r (.drop (.s .z) ?_)))))))))
 refine .pub (.s .z) fun I189 hl190 R191=>?_
 have le192:=IH.le.trans le153 hl190
 have le193:=IH.le.trans hl152 hl190
 exact .ret (pret results9 (.w ia37 sz37 r .z r .n) le192 ⟨({ N:=r47.N,Items:=s144 }:Vec),_,_,r,R191,hd⟩)
theorem W_ref03_SameInts {I:IH} {a0:List Int} {a1:List Int} {p1:Option Addr} {c2:Nat} {p4:Option Addr} {c5:Nat} {Q:Bool→Prop} (R3:RepSl eI64 I p1 c2 a0) (R6:RepSl eI64 I p4 c5 a1) (hd:ref03_SameInts a0 a1 Q) :
  PFun prog 39 [.slice p1 a0.length c2,.slice p4 a1.length c5] I (fun _=>o1_ Q):=by
 refine Fun.enter func39 r ntmps39 r (.c (.c .n)) fun w0 M=>?_
 refine .sr (.ks 1 r (.nilS [1,0] r r (.seq (.sr (.ks 1 r (.len un31 r r r r (.ks 1 r (.len un31 r r r r (.ks 1 r ?_)))))))))
 refine .nilS [10,1,0] r r (.condP r hd (fun hb8 hd=>?_) fun hb8 hd=>?_)
 · exact .sr (.ks 1 r (.nilS [4] r r (.ret (pret results39 (.t r .n) (.refl _) ⟨false,r,hd⟩))))
 refine .skipS [1,0] r r (.seq (.sr (.ks 1 r (.nilS [5,1,0] r r (.block (.loop hd (fun (s54:Int) c w=>∃ I_,IH.le I I_∧Ok ⟨26,[],none⟩ [(0,.slice p1 a0.length c2),(1,.slice p4 a1.length c5),(5,.int .i64 s54)] c∧Sym w0 M I I_ [] w) (fun c w ho hs=>⟨I,(.refl _),ho.sub ⟨r,r,r,trivial⟩,hs.pick .n⟩) ?_))))))
 rintro s54 next55 hd c w hst
 obtain ⟨I56,hl57,hok,hsym⟩:=hst
 replace R3:=R3.mono hl57
 replace R6:=R6.mono hl57
 refine Cod.at hok hsym (.seq (.sr (.ks 2 r (.len un31 r r r r (.ks 1 r (.nilS [14,5,1,0] r r (.condP r hd (fun hb59 hd=>?_) fun hb59 hd=>?_)))))))
 · refine .skipS [5,1,0] r r (.seq (.block (.seq (.dr [0,1,2,3,4,5,6,7,8] 9 (.fk 2 r ?_)))))
   obtain ⟨h60,x61,hx62,hd⟩:=hd
   obtain ⟨b63,o64,cs65,e66,hC67,hr68⟩:=R3.2 _ _ hx62
   cases hr68
   refine .g r r r (fun _=>.ixa un31 sz3 r e66 r h60 (idx_lt hx62 h60) r r .mk) (.g r r r (fun _=>.ld1 (j:=0) ia3 hC67 r r r r r .mk) (.fk 2 r ?_))
   obtain ⟨h69,x70,hx71,hd⟩:=hd
   obtain ⟨b72,o73,cs74,e75,hC76,hr77⟩:=R6.2 _ _ hx71
   cases hr77
   refine .g r r r (fun _=>.ixa un31 sz3 r e75 r h69 (idx_lt hx71 h69) r r .mk) (.g r r r (fun _=>.ld1 (j:=0) ia3 hC76 r r r r r .mk) (.fk 1 r (.e2 9 (.nilS [25,5,1,0] r r (.condP r hd (fun hb78 hd=>?_) fun hb78 hd=>?_)))))
   · exact .sr (.ks 1 r (.nilS [4] r r (.ret (pret results39 (.t r .n) hl57 ⟨false,r,hd⟩))))
   exact .skipS [5,1,0] r r (.region (.ks 3 r (.nil' fun c w ho hs=>⟨(w64 (s54+1)),hd,I56,hl57,ho.sub ⟨r,r,r,trivial⟩,hs.pick .n⟩)))
 exact .exitS [] r r (.sr (.ks 1 r (.nilS [4] r r (.ret (pret results39 (.t r .n) hl57 ⟨true,r,hd⟩)))))
theorem W_ref07_SameVals {I:IH} {a0:List Int} {a1:List Int} {p1:Option Addr} {c2:Nat} {p4:Option Addr} {c5:Nat} {Q:Bool→Prop} (R3:RepSl eI64 I p1 c2 a0) (R6:RepSl eI64 I p4 c5 a1) (hd:ref07_SameVals a0 a1 Q) :
  PFun prog 40 [.slice p1 a0.length c2,.slice p4 a1.length c5] I (fun _=>o1_ Q):=by
 refine Fun.enter func40 r ntmps40 r (.c (.c .n)) fun w0 M=>?_
 refine .sr (.ks 1 r (.nilS [1,0] r r (.seq (.sr (.ks 1 r (.len un32 r r r r (.ks 1 r (.len un32 r r r r (.ks 1 r ?_)))))))))
 refine .nilS [10,1,0] r r (.condP r hd (fun hb8 hd=>?_) fun hb8 hd=>?_)
 · exact .sr (.ks 1 r (.nilS [4] r r (.ret (pret results40 (.t r .n) (.refl _) ⟨false,r,hd⟩))))
 refine .skipS [1,0] r r (.seq (.sr (.ks 1 r (.nilS [5,1,0] r r (.block (.loop hd (fun (s54:Int) c w=>∃ I_,IH.le I I_∧Ok ⟨26,[],none⟩ [(0,.slice p1 a0.length c2),(1,.slice p4 a1.length c5),(5,.int .i64 s54)] c∧Sym w0 M I I_ [] w) (fun c w ho hs=>⟨I,(.refl _),ho.sub ⟨r,r,r,trivial⟩,hs.pick .n⟩) ?_))))))
 rintro s54 next55 hd c w hst
 obtain ⟨I56,hl57,hok,hsym⟩:=hst
 replace R3:=R3.mono hl57
 replace R6:=R6.mono hl57
 refine Cod.at hok hsym (.seq (.sr (.ks 2 r (.len un32 r r r r (.ks 1 r (.nilS [14,5,1,0] r r (.condP r hd (fun hb59 hd=>?_) fun hb59 hd=>?_)))))))
 · refine .skipS [5,1,0] r r (.seq (.block (.seq (.dr [0,1,2,3,4,5,6,7,8] 9 (.fk 2 r ?_)))))
   obtain ⟨h60,x61,hx62,hd⟩:=hd
   obtain ⟨b63,o64,cs65,e66,hC67,hr68⟩:=R3.2 _ _ hx62
   cases hr68
   refine .g r r r (fun _=>.ixa un32 sz2 r e66 r h60 (idx_lt hx62 h60) r r .mk) (.g r r r (fun _=>.ld1 (j:=0) ia2 hC67 r r r r r .mk) (.fk 2 r ?_))
   obtain ⟨h69,x70,hx71,hd⟩:=hd
   obtain ⟨b72,o73,cs74,e75,hC76,hr77⟩:=R6.2 _ _ hx71
   cases hr77
   refine .g r r r (fun _=>.ixa un32 sz2 r e75 r h69 (idx_lt hx71 h69) r r .mk) (.g r r r (fun _=>.ld1 (j:=0) ia2 hC76 r r r r r .mk) (.fk 1 r (.e2 9 (.nilS [25,5,1,0] r r (.condP r hd (fun hb78 hd=>?_) fun hb78 hd=>?_)))))
   · exact .sr (.ks 1 r (.nilS [4] r r (.ret (pret results40 (.t r .n) hl57 ⟨false,r,hd⟩))))
   exact .skipS [5,1,0] r r (.region (.ks 3 r (.nil' fun c w ho hs=>⟨(w64 (s54+1)),hd,I56,hl57,ho.sub ⟨r,r,r,trivial⟩,hs.pick .n⟩)))
 exact .exitS [] r r (.sr (.ks 1 r (.nilS [4] r r (.ret (pret results40 (.t r .n) hl57 ⟨true,r,hd⟩)))))
theorem W_ref07_Same {I:IH} {a0:Rows} {a1:Rows} {p1:Option Addr} {c2:Nat} {p4:Option Addr} {c5:Nat} {p7:Option Addr} {c8:Nat} {p10:Option Addr} {c11:Nat} {p13:Option Addr} {c14:Nat} {p16:Option Addr} {c17:Nat} {Q:Bool→Prop} (R3:RepSl eI64 I p1 c2 a0.Start) (R6:RepSl eI64 I p4 c5 a0.Col) (R9:RepSl eI64 I p7 c8 a0.Val) (R12:RepSl eI64 I p10 c11 a1.Start) (R15:RepSl eI64 I p13 c14 a1.Col) (R18:RepSl eI64 I p16 c17 a1.Val) (hd:ref07_Same a0 a1 Q) :
  PFun prog 11 [.agg #[.int .i64 a0.Rows,.int .i64 a0.Cols,.slice p1 a0.Start.length c2,.slice p4 a0.Col.length c5,.slice p7 a0.Val.length c8],.agg #[.int .i64 a1.Rows,.int .i64 a1.Cols,.slice p10 a1.Start.length c11,.slice p13 a1.Col.length c14,.slice p16 a1.Val.length c17]] I (fun _=>o1_ Q):=by
 refine Fun.enter func11 r ntmps11 r (.c (.c .n)) fun w0 M=>?_
 refine .sr (.boxA r r r fun b23=>?_)
 refine .boxA r r r fun b25=>?_
 refine .ks 1 r (.nilS [3,2] r r (.sr (.fa un34 r sz3 r (o:=0) r r r (.load1 ia3 r (.s .z) r r r (.fa un34 r sz3 r (o:=0) r r r (.load1 ia3 r .z r r r (.ks 2 r ?_)))))))
 refine splitP hd (fun hb27 hd=>?_) fun hb27 hd=>?_
 · rw [hb27]
   refine .gyes r r r (.fa un34 r sz3 r (o:=1) r r r (.gyes r r r (.load1 ia3 r (.s .z) r r r (.gyes r r r (.fa un34 r sz3 r (o:=1) r r r (.gyes r r r (.load1 ia3 r .z r r r (.ks 3 r ?_))))))))
   refine splitP hd (fun hb28 hd=>?_) fun hb28 hd=>?_
   · rw [hb28]
     refine .gyes r r r (.fa un34 r sz31 r (o:=2) r r r (.gyes r r r (.load1 ia31 r (.s .z) r r r (.gyes r r r (.fa un34 r sz31 r (o:=2) r r r (.gyes r r r (.load1 ia31 r .z r r r ?_)))))))
     have hw30:=W_ref03_SameInts (I:=I) R3 R12 hd
     refine .gyes r r r (.callP call39 r hw30 r r fun v31 hv32=>?_)
     obtain ⟨r29,rfl,hd⟩:=hv32
     refine .ks 2 r ?_
     refine splitP hd (fun hb33 hd=>?_) fun hb33 hd=>?_
     · rw [hb33]
       refine .gyes r r r (.fa un34 r sz31 r (o:=3) r r r (.gyes r r r (.load1 ia31 r (.s .z) r r r (.gyes r r r (.fa un34 r sz31 r (o:=3) r r r (.gyes r r r (.load1 ia31 r .z r r r ?_)))))))
       have hw35:=W_ref03_SameInts (I:=I) R6 R15 hd
       refine .gyes r r r (.callP call39 r hw35 r r fun v36 hv37=>?_)
       obtain ⟨r34,rfl,hd⟩:=hv37
       refine .ks 2 r ?_
       refine splitP hd (fun hb38 hd=>?_) fun hb38 hd=>?_
       · rw [hb38]
         refine .gyes r r r (.fa un34 r sz32 r (o:=4) r r r (.gyes r r r (.load1 ia32 r (.s .z) r r r (.gyes r r r (.fa un34 r sz32 r (o:=4) r r r (.gyes r r r (.load1 ia32 r .z r r r ?_)))))))
         have hw40:=W_ref07_SameVals (I:=I) R9 R18 hd
         refine .gyes r r r (.callP call40 r hw40 r r fun v41 hv42=>?_)
         obtain ⟨r39,rfl,hd⟩:=hv42
         exact .ks 2 r (.nilS [4] r r (.drop .z (.drop .z (.ret (pret results11 (.t r .n) (.refl _) ⟨r39,r,hd⟩)))))
       rw [hb38]
       exact .ks 7 r (.nilS [4] r r (.drop .z (.drop .z (.ret (pret results11 (.t r .n) (.refl _) ⟨false,r,hd⟩)))))
     rw [hb33]
     exact .ks 14 r (.nilS [4] r r (.drop .z (.drop .z (.ret (pret results11 (.t r .n) (.refl _) ⟨false,r,hd⟩)))))
   rw [hb28]
   exact .ks 21 r (.nilS [4] r r (.drop .z (.drop .z (.ret (pret results11 (.t r .n) (.refl _) ⟨false,r,hd⟩)))))
 rw [hb27]
 exact .ks 28 r (.nilS [4] r r (.drop .z (.drop .z (.ret (pret results11 (.t r .n) (.refl _) ⟨false,r,hd⟩)))))
theorem W_ref07_Right {I:IH} {a0:Rows} {p1:Option Addr} {c2:Nat} {p4:Option Addr} {c5:Nat} {p7:Option Addr} {c8:Nat} {Q:Bool→Prop} (R3:RepSl eI64 I p1 c2 a0.Start) (R6:RepSl eI64 I p4 c5 a0.Col) (R9:RepSl eI64 I p7 c8 a0.Val) (hd:ref07_Right a0 Q) :
  PFun prog 45 [.agg #[.int .i64 a0.Rows,.int .i64 a0.Cols,.slice p1 a0.Start.length c2,.slice p4 a0.Col.length c5,.slice p7 a0.Val.length c8]] I (fun _=>o1_ Q):=by
 refine Fun.enter func45 r ntmps45 r (.c .n) fun w0 M=>?_
 refine .sr (.boxA r r r fun b12=>?_)
 refine .ks 1 r (.nilS [1] r r (.seq (.sr (.fa un34 r sz3 r (o:=0) r r r (.load1 ia3 r .z r r r (.ks 2 r ?_))))))
 refine splitP hd (fun hb21 hd=>?_) fun hb21 hd=>?_
 · rw [hb21]
   exact .ks 38 r (.nilS [46,1] r r (.condKT r r (.sr (.ks 1 r (.nilS [2] r r (.drop .z (.ret (pret results45 (.t r .n) (.refl _) ⟨false,r,hd⟩))))))))
 rw [hb21]
 refine .gyes r r r (.fa un34 r sz3 r (o:=0) r r r (.gyes r r r (.load1 ia3 r .z r r r (.ks 3 r ?_))))
 refine splitP hd (fun hb22 hd=>?_) fun hb22 hd=>?_
 · rw [hb22]
   exact .ks 33 r (.nilS [46,1] r r (.condKT r r (.sr (.ks 1 r (.nilS [2] r r (.drop .z (.ret (pret results45 (.t r .n) (.refl _) ⟨false,r,hd⟩))))))))
 rw [hb22]
 refine .gyes r r r (.fa un34 r sz3 r (o:=1) r r r (.gyes r r r (.load1 ia3 r .z r r r (.ks 3 r ?_))))
 refine splitP hd (fun hb23 hd=>?_) fun hb23 hd=>?_
 · rw [hb23]
   exact .ks 28 r (.nilS [46,1] r r (.condKT r r (.sr (.ks 1 r (.nilS [2] r r (.drop .z (.ret (pret results45 (.t r .n) (.refl _) ⟨false,r,hd⟩))))))))
 rw [hb23]
 refine .gyes r r r (.fa un34 r sz3 r (o:=1) r r r (.gyes r r r (.load1 ia3 r .z r r r (.ks 3 r ?_))))
 refine splitP hd (fun hb24 hd=>?_) fun hb24 hd=>?_
 · rw [hb24]
   exact .ks 23 r (.nilS [46,1] r r (.condKT r r (.sr (.ks 1 r (.nilS [2] r r (.drop .z (.ret (pret results45 (.t r .n) (.refl _) ⟨false,r,hd⟩))))))))
 rw [hb24]
 refine .gyes r r r (.fa un34 r sz31 r (o:=2) r r r (.gyes r r r (.load1 ia31 r .z r r r (.gyes r r r (.len un31 r r r r (.gyes r r r (.fa un34 r sz3 r (o:=0) r r r (.gyes r r r (.load1 ia3 r .z r r r (.ks 4 r ?_))))))))))
 refine splitP hd (fun hb25 hd=>?_) fun hb25 hd=>?_
 · rw [hb25]
   exact .ks 14 r (.nilS [46,1] r r (.condKT r r (.sr (.ks 1 r (.nilS [2] r r (.drop .z (.ret (pret results45 (.t r .n) (.refl _) ⟨false,r,hd⟩))))))))
 rw [hb25]
 refine .gyes r r r (.fa un34 r sz31 r (o:=3) r r r (.gyes r r r (.load1 ia31 r .z r r r (.gyes r r r (.len un31 r r r r (.gyes r r r (.fa un34 r sz32 r (o:=4) r r r (.gyes r r r (.load1 ia32 r .z r r r (.gyes r r r (.len un32 r r r r (.ks 3 r ?_))))))))))))
 refine splitP hd (fun hb26 hd=>?_) fun hb26 hd=>?_
 · rw [hb26]
   exact .ks 5 r (.nilS [46,1] r r (.condKT r r (.sr (.ks 1 r (.nilS [2] r r (.drop .z (.ret (pret results45 (.t r .n) (.refl _) ⟨false,r,hd⟩))))))))
 rw [hb26]
 refine .gyes r r r (.fa un34 r sz31 r (o:=3) r r r (.gyes r r r (.load1 ia31 r .z r r r (.gyes r r r (.len un31 r r r r (.ks 2 r (.nilS [46,1] r r (.condP r hd (fun hb27 hd=>?_) fun hb27 hd=>?_))))))))
 · exact .sr (.ks 1 r (.nilS [2] r r (.drop .z (.ret (pret results45 (.t r .n) (.refl _) ⟨false,r,hd⟩)))))
 refine .skipS [1] r r (.seq (.seq (.dr [0,1,2,3,4,5,6,7,8,9,10,11,12,13,14,15,16] 17 (.g r r r (fun _=>.fa un34 r sz31 r (o:=2) r r r .mk) (.g r r r (fun _=>.load1 ia31 r .z r r r .mk) ?_)))))
 obtain ⟨h48,x49,hx50,hd⟩:=hd
 obtain ⟨b51,o52,cs53,e54,hC55,hr56⟩:=R3.2 _ _ hx50
 cases hr56
 refine .g r r r (fun _=>.ixa un31 sz3 r e54 r h48 (idx_lt hx50 h48) r r .mk) (.g r r r (fun _=>.ld1 (j:=0) ia3 hC55 r r r r r .mk) (.fk 2 r ?_))
 refine splitP hd (fun hb57 hd=>?_) fun hb57 hd=>?_
 · rw [hb57]
   exact .fk 11 r (.e2 17 (.nilS [63,1] r r (.condKT r r (.sr (.ks 1 r (.nilS [2] r r (.drop .z (.ret (pret results45 (.t r .n) (.refl _) ⟨false,r,hd⟩)))))))))
 rw [hb57]
 refine .g r r r (fun _=>.gyes r r r (.fa un34 r sz31 r (o:=2) r r r .mk)) (.g r r r (fun _=>.gyes r r r (.load1 ia31 r .z r r r .mk)) (.g r r r (fun _=>.gyes r r r (.fa un34 r sz3 r (o:=0) r r r .mk)) (.g r r r (fun _=>.gyes r r r (.load1 ia3 r .z r r r .mk)) ?_)))
 obtain ⟨h58,x59,hx60,hd⟩:=hd
 obtain ⟨b61,o62,cs63,e64,hC65,hr66⟩:=R3.2 _ _ hx60
 cases hr66
 refine .g r r r (fun _=>.gyes r r r (.ixa un31 sz3 r e64 r h58 (idx_lt hx60 h58) r r .mk)) (.g r r r (fun _=>.gyes r r r (.ld1 (j:=0) ia3 hC65 r r r r r .mk)) (.g r r r (fun _=>.gyes r r r (.fa un34 r sz31 r (o:=3) r r r .mk)) (.g r r r (fun _=>.gyes r r r (.load1 ia31 r .z r r r .mk)) (.g r r r (fun _=>.gyes r r r (.len un31 r r r r .mk)) (.fk 2 r (.e2 17 (.nilS [63,1] r r (.condP r hd (fun hb67 hd=>?_) fun hb67 hd=>?_))))))))
 · exact .sr (.ks 1 r (.nilS [2] r r (.drop .z (.ret (pret results45 (.t r .n) (.refl _) ⟨false,r,hd⟩)))))
 refine .skipS [1] r r (.seq (.sr (.ks 1 r (.nilS [3,1] r r (.block (.loop hd (fun (s695:Int) c w=>∃ I_,IH.le I I_∧Ok ⟨156,[],none⟩ [(1,.pointer (some ⟨b12,0,none⟩)),(3,.int .i64 s695)] c∧Sym w0 M I I_ [pto b12 (.cells #[.int .i64 a0.Rows,.int .i64 a0.Cols,.slice p1 a0.Start.length c2,.slice p4 a0.Col.length c5,.slice p7 a0.Val.length c8] 34 (0,0))] w) (fun c w ho hs=>⟨I,(.refl _),ho.sub ⟨r,r,trivial⟩,hs.pick (.c .z .n)⟩) ?_))))))
 rintro s695 next696 hd c w hst
 obtain ⟨I697,hl698,hok,hsym⟩:=hst
 replace R3:=R3.mono hl698
 replace R6:=R6.mono hl698
 replace R9:=R9.mono hl698
 refine Cod.at hok hsym (.seq (.sr (.ks 1 r (.fa un34 r sz3 r (o:=0) r r r (.load1 ia3 r .z r r r (.ks 1 r (.nilS [67,3,1] r r (.condP r hd (fun hb700 hd=>?_) fun hb700 hd=>?_))))))))
 · refine .skipS [3,1] r r (.seq (.block (.seq (.seq (.dr [0,1,2,3,4,5,6,7,8,9,10,11,12,13,14,15,16,17,18,19,20,21,22,23,24,25,26,27,28,29,30,31] 32 (.g r r r (fun _=>.fa un34 r sz31 r (o:=2) r r r .mk) (.g r r r (fun _=>.load1 ia31 r .z r r r .mk) (.fk 1 r ?_))))))))
   obtain ⟨h740,x741,hx742,hd⟩:=hd
   obtain ⟨b743,o744,cs745,e746,hC747,hr748⟩:=R3.2 _ _ hx742
   cases hr748
   refine .g r r r (fun _=>.ixa un31 sz3 r e746 r h740 (idx_lt hx742 h740) r r .mk) (.g r r r (fun _=>.ld1 (j:=0) ia3 hC747 r r r r r .mk) (.g r r r (fun _=>.fa un34 r sz31 r (o:=2) r r r .mk) (.g r r r (fun _=>.load1 ia31 r .z r r r .mk) (.fk 2 r ?_))))
   obtain ⟨h749,x750,hx751,hd⟩:=hd
   obtain ⟨b752,o753,cs754,e755,hC756,hr757⟩:=R3.2 _ _ hx751
   cases hr757
   refine .g r r r (fun _=>.ixa un31 sz3 r e755 r h749 (idx_lt hx751 h749) r r .mk) (.g r r r (fun _=>.ld1 (j:=0) ia3 hC756 r r r r r .mk) (.fk 2 r ?_))
   refine splitP hd (fun hb758 hd=>?_) fun hb758 hd=>?_
   · rw [hb758]
     exact .fk 19 r (.e2 32 (.nilS [101,3,1] r r (.condKT r r (.sr (.ks 1 r (.nilS [2] r r (.drop .z (.ret (pret results45 (.t r .n) hl698 ⟨false,r,hd⟩)))))))))
   rw [hb758]
   refine .g r r r (fun _=>.gyes r r r (.fa un34 r sz31 r (o:=2) r r r .mk)) (.g r r r (fun _=>.gyes r r r (.load1 ia31 r .z r r r .mk)) (.fk 1 r ?_))
   obtain ⟨h759,x760,hx761,hd⟩:=hd
   obtain ⟨b762,o763,cs764,e765,hC766,hr767⟩:=R3.2 _ _ hx761
   cases hr767
   refine .g r r r (fun _=>.gyes r r r (.ixa un31 sz3 r e765 r h759 (idx_lt hx761 h759) r r .mk)) (.g r r r (fun _=>.gyes r r r (.ld1 (j:=0) ia3 hC766 r r r r r .mk)) (.fk 3 r ?_))
   refine splitP hd (fun hb768 hd=>?_) fun hb768 hd=>?_
   · rw [hb768]
     exact .fk 11 r (.e2 32 (.nilS [101,3,1] r r (.condKT r r (.sr (.ks 1 r (.nilS [2] r r (.drop .z (.ret (pret results45 (.t r .n) hl698 ⟨false,r,hd⟩)))))))))
   rw [hb768]
   refine .g r r r (fun _=>.gyes r r r (.fa un34 r sz31 r (o:=2) r r r .mk)) (.g r r r (fun _=>.gyes r r r (.load1 ia31 r .z r r r .mk)) (.fk 2 r ?_))
   obtain ⟨h769,x770,hx771,hd⟩:=hd
   obtain ⟨b772,o773,cs774,e775,hC776,hr777⟩:=R3.2 _ _ hx771
   cases hr777
   refine .g r r r (fun _=>.gyes r r r (.ixa un31 sz3 r e775 r h769 (idx_lt hx771 h769) r r .mk)) (.g r r r (fun _=>.gyes r r r (.ld1 (j:=0) ia3 hC776 r r r r r .mk)) (.g r r r (fun _=>.gyes r r r (.fa un34 r sz31 r (o:=3) r r r .mk)) (.g r r r (fun _=>.gyes r r r (.load1 ia31 r .z r r r .mk)) (.g r r r (fun _=>.gyes r r r (.len un31 r r r r .mk)) (.fk 2 r (.e2 32 (.nilS [101,3,1] r r (.condP r hd (fun hb778 hd=>?_) fun hb778 hd=>?_))))))))
   · exact .sr (.ks 1 r (.nilS [2] r r (.drop .z (.ret (pret results45 (.t r .n) hl698 ⟨false,r,hd⟩)))))
   refine .skipS [3,1] r r (.sr (.fa un34 r sz31 r (o:=2) r r r (.load1 ia31 r .z r r r (.ks 1 r ?_))))
   obtain ⟨h788,x789,hx790,hd⟩:=hd
   obtain ⟨b791,o792,cs793,e794,hC795,hr796⟩:=R3.2 _ _ hx790
   cases hr796
   refine .ixa un31 sz3 r e794 r h788 (idx_lt hx790 h788) r r (.ld1 (j:=0) ia3 hC795 r r r r r (.ks 1 r (.nilS [4,3,1] r r (.block (.loop hd (fun (s938:Int) c w=>∃ I_,IH.le I697 I_∧Ok ⟨156,[],none⟩ [(1,.pointer (some ⟨b12,0,none⟩)),(3,.int .i64 s695),(4,.int .i64 s938)] c∧Sym w0 M I I_ [pto b12 (.cells #[.int .i64 a0.Rows,.int .i64 a0.Cols,.slice p1 a0.Start.length c2,.slice p4 a0.Col.length c5,.slice p7 a0.Val.length c8] 34 (0,0))] w) (fun c w ho hs=>⟨I697,(.refl _),ho.sub ⟨r,r,r,trivial⟩,hs.pick (.c .z .n)⟩) ?_)))))
   rintro s938 next939 hd c w hst
   obtain ⟨I940,hl941,hok,hsym⟩:=hst
   have le942:=IH.le.trans hl698 hl941
   replace R3:=R3.mono hl941
   replace R6:=R6.mono hl941
   replace R9:=R9.mono hl941
   refine Cod.at hok hsym (.seq (.sr (.ks 1 r (.fa un34 r sz31 r (o:=2) r r r (.load1 ia31 r .z r r r (.ks 2 r ?_))))))
   obtain ⟨h953,x954,hx955,hd⟩:=hd
   obtain ⟨b956,o957,cs958,e959,hC960,hr961⟩:=R3.2 _ _ hx955
   cases hr961
   refine .ixa un31 sz3 r e959 r h953 (idx_lt hx955 h953) r r (.ld1 (j:=0) ia3 hC960 r r r r r (.ks 1 r (.nilS [114,4,3,1] r r (.condP r hd (fun hb962 hd=>?_) fun hb962 hd=>?_))))
   · refine .skipS [4,3,1] r r (.seq (.block (.seq (.dr [0,1,2,3,4,5,6,7,8,9,10,11,12,13,14,15,16,17,18,19,20,21,22,23,24,25,26,27,28,29,30,31,32,33,34,35,36,37,38] 39 (.g r r r (fun _=>.fa un34 r sz31 r (o:=3) r r r .mk) (.g r r r (fun _=>.load1 ia31 r .z r r r .mk) (.fk 1 r ?_)))))))
     obtain ⟨h963,x964,hx965,hd⟩:=hd
     obtain ⟨b966,o967,cs968,e969,hC970,hr971⟩:=R6.2 _ _ hx965
     cases hr971
     refine .g r r r (fun _=>.ixa un31 sz3 r e969 r h963 (idx_lt hx965 h963) r r .mk) (.g r r r (fun _=>.ld1 (j:=0) ia3 hC970 r r r r r .mk) (.fk 2 r ?_))
     refine splitP hd (fun hb972 hd=>?_) fun hb972 hd=>?_
     · rw [hb972]
       exact .fk 32 r (.e2 39 (.nilS [155,4,3,1] r r (.condKT r r (.sr (.ks 1 r (.nilS [2] r r (.drop .z (.ret (pret results45 (.t r .n) le942 ⟨false,r,hd⟩)))))))))
     rw [hb972]
     refine .g r r r (fun _=>.gyes r r r (.fa un34 r sz31 r (o:=3) r r r .mk)) (.g r r r (fun _=>.gyes r r r (.load1 ia31 r .z r r r .mk)) (.fk 1 r ?_))
     obtain ⟨h973,x974,hx975,hd⟩:=hd
     obtain ⟨b976,o977,cs978,e979,hC980,hr981⟩:=R6.2 _ _ hx975
     cases hr981
     refine .g r r r (fun _=>.gyes r r r (.ixa un31 sz3 r e979 r h973 (idx_lt hx975 h973) r r .mk)) (.g r r r (fun _=>.gyes r r r (.ld1 (j:=0) ia3 hC980 r r r r r .mk)) (.g r r r (fun _=>.gyes r r r (.fa un34 r sz3 r (o:=1) r r r .mk)) (.g r r r (fun _=>.gyes r r r (.load1 ia3 r .z r r r .mk)) (.fk 3 r ?_))))
     refine splitP hd (fun hb982 hd=>?_) fun hb982 hd=>?_
     · rw [hb982]
       exact .fk 22 r (.e2 39 (.nilS [155,4,3,1] r r (.condKT r r (.sr (.ks 1 r (.nilS [2] r r (.drop .z (.ret (pret results45 (.t r .n) le942 ⟨false,r,hd⟩)))))))))
     rw [hb982]
     refine .fk 1 r (.g r r r (fun _=>.gyes r r r (.fa un34 r sz31 r (o:=2) r r r .mk)) (.g r r r (fun _=>.gyes r r r (.load1 ia31 r .z r r r .mk)) (.fk 1 r ?_)))
     obtain ⟨h983,x984,hx985,hd⟩:=hd
     obtain ⟨b986,o987,cs988,e989,hC990,hr991⟩:=R3.2 _ _ hx985
     cases hr991
     refine .g r r r (fun _=>.gyes r r r (.ixa un31 sz3 r e989 r h983 (idx_lt hx985 h983) r r .mk)) (.g r r r (fun _=>.gyes r r r (.ld1 (j:=0) ia3 hC990 r r r r r .mk)) (.fk 2 r ?_))
     refine splitP hd (fun hb992 hd=>?_) fun hb992 hd=>?_
     · rw [hb992]
       refine .g r r r (fun _=>.gyes r r r (.fa un34 r sz31 r (o:=3) r r r .mk)) (.g r r r (fun _=>.gyes r r r (.load1 ia31 r .z r r r .mk)) (.fk 1 r ?_))
       obtain ⟨h993,x994,hx995,hd⟩:=hd
       obtain ⟨b996,o997,cs998,e999,hC1000,hr1001⟩:=R6.2 _ _ hx995
       cases hr1001
       refine .g r r r (fun _=>.gyes r r r (.ixa un31 sz3 r e999 r h993 (idx_lt hx995 h993) r r .mk)) (.g r r r (fun _=>.gyes r r r (.ld1 (j:=0) ia3 hC1000 r r r r r .mk)) (.g r r r (fun _=>.gyes r r r (.fa un34 r sz31 r (o:=3) r r r .mk)) (.g r r r (fun _=>.gyes r r r (.load1 ia31 r .z r r r .mk)) (.fk 2 r ?_))))
       obtain ⟨h1002,x1003,hx1004,hd⟩:=hd
       obtain ⟨b1005,o1006,cs1007,e1008,hC1009,hr1010⟩:=R6.2 _ _ hx1004
       cases hr1010
       refine .g r r r (fun _=>.gyes r r r (.ixa un31 sz3 r e1008 r h1002 (idx_lt hx1004 h1002) r r .mk)) (.g r r r (fun _=>.gyes r r r (.ld1 (j:=0) ia3 hC1009 r r r r r .mk)) (.fk 3 r (.e2 39 (.nilS [155,4,3,1] r r (.condP r hd (fun hb1011 hd=>?_) fun hb1011 hd=>?_)))))
       · exact .sr (.ks 1 r (.nilS [2] r r (.drop .z (.ret (pret results45 (.t r .n) le942 ⟨false,r,hd⟩)))))
       exact .skipS [4,3,1] r r (.region (.ks 3 r (.nil' fun c w ho hs=>⟨(w64 (s938+1)),hd,I940,hl941,ho.sub ⟨r,r,r,trivial⟩,hs.pick (.c .z .n)⟩)))
     rw [hb992]
     exact .fk 14 r (.e2 39 (.nilS [155,4,3,1] r r (.condKF r r (.skipS [4,3,1] r r (.region (.ks 3 r (.nil' fun c w ho hs=>⟨(w64 (s938+1)),hd,I940,hl941,ho.sub ⟨r,r,r,trivial⟩,hs.pick (.c .z .n)⟩)))))))
   exact .exitS [3,1] r r (.region (.ks 3 r (.nil' fun c w ho hs=>⟨(w64 (s695+1)),hd,I940,le942,ho.sub ⟨r,r,trivial⟩,hs.pick (.c .z .n)⟩)))
 exact .exitS [] r r (.drop .z (.sr (.ks 1 r (.nilS [2] r r (.ret (pret results45 (.t r .n) hl698 ⟨true,r,hd⟩))))))
theorem W_ref18_sides {I:IH} {a0:Int} {a1:Int} {Q:Bool→Prop}  (hd:ref18_sides a0 a1 Q) :
  PFun prog 46 [.int .i64 a0,.int .i64 a1] I (fun _=>o1_ Q):=by
 refine Fun.enter func46 r ntmps46 r (.c (.c .n)) fun w0 M=>?_
 refine .sr (.ks 1 r (.nilS [1,0] r r (.sr (.ks 3 r ?_))))
 refine splitP hd (fun hb1 hd=>?_) fun hb1 hd=>?_
 · rw [hb1]
   refine .ks 4 r ?_
   refine splitP hd (fun hb2 hd=>?_) fun hb2 hd=>?_
   · rw [hb2]
     refine .ks 4 r ?_
     refine splitP hd (fun hb3 hd=>?_) fun hb3 hd=>?_
     · rw [hb3]
       exact .ks 4 r (.nilS [4] r r (.ret (pret results46 (.t r .n) (.refl _) ⟨(decide (a1≤8)),r,hd⟩)))
     rw [hb3]
     exact .ks 4 r (.nilS [4] r r (.ret (pret results46 (.t r .n) (.refl _) ⟨false,r,hd⟩)))
   rw [hb2]
   exact .ks 8 r (.nilS [4] r r (.ret (pret results46 (.t r .n) (.refl _) ⟨false,r,hd⟩)))
 rw [hb1]
 exact .ks 12 r (.nilS [4] r r (.ret (pret results46 (.t r .n) (.refl _) ⟨false,r,hd⟩)))
theorem W_ref17_may {I:IH} {a0:Int} {a1:Int} {Q:Bool→Prop}  (hd:ref17_may a0 a1 Q) :
  PFun prog 97 [.int .i64 a0,.int .i64 a1] I (fun _=>o1_ Q):=by
 refine Fun.enter func97 r ntmps97 r (.c (.c .n)) fun w0 M=>?_
 refine .sr (.ks 1 r (.nilS [1,0] r r (.sr (.ks 3 r ?_))))
 refine splitP hd (fun hb1 hd=>?_) fun hb1 hd=>?_
 · rw [hb1]
   refine .ks 4 r ?_
   refine splitP hd (fun hb2 hd=>?_) fun hb2 hd=>?_
   · rw [hb2]
     refine .ks 4 r ?_
     refine splitP hd (fun hb3 hd=>?_) fun hb3 hd=>?_
     · rw [hb3]
       exact .ks 4 r (.nilS [4] r r (.ret (pret results97 (.t r .n) (.refl _) ⟨(decide (a1≤8)),r,hd⟩)))
     rw [hb3]
     exact .ks 4 r (.nilS [4] r r (.ret (pret results97 (.t r .n) (.refl _) ⟨false,r,hd⟩)))
   rw [hb2]
   exact .ks 8 r (.nilS [4] r r (.ret (pret results97 (.t r .n) (.refl _) ⟨false,r,hd⟩)))
 rw [hb1]
 exact .ks 12 r (.nilS [4] r r (.ret (pret results97 (.t r .n) (.refl _) ⟨false,r,hd⟩)))
theorem W_ref17_Low {I:IH} {a0:Int} {a1:Int} {a2:Int} {Q:Int→Prop}  (hd:ref17_Low a0 a1 a2 Q) :
  PFun prog 48 [.int .i64 a0,.int .i64 a1,.int .i64 a2] I (fun _=>o0_ Q):=by
 refine Fun.enter func48 r ntmps48 r (.c (.c (.c .n))) fun w0 M=>?_
 refine .sr (.ks 1 r (.nilS [2,1,0] r r (.seq (.sr (.ks 2 r ?_)))))
 have hw8:=W_ref17_may (I:=I) hd
 refine .callP call97 r hw8 r r fun v9 hv10=>?_
 obtain ⟨r7,rfl,hd⟩:=hv10
 refine .ks 2 r ?_
 refine splitP hd (fun hb11 hd=>?_) fun hb11 hd=>?_
 · rw [hb11]
   exact .ks 3 r (.nilS [14,2,1,0] r r (.condKT r r (.sr (.ks 1 r (.nilS [6] r r (.ret (pret results48 (.t r .n) (.refl _) ⟨0,r,hd⟩)))))))
 rw [hb11]
 refine .ks 3 r (.nilS [14,2,1,0] r r (.condP r hd (fun hb12 hd=>?_) fun hb12 hd=>?_))
 · exact .sr (.ks 1 r (.nilS [6] r r (.ret (pret results48 (.t r .n) (.refl _) ⟨0,r,hd⟩))))
 refine .skipS [2,1,0] r r (.seq (.sr (.ks 3 r (.nilS [17,2,1,0] r r (.condP r hd (fun hb13 hd=>?_) fun hb13 hd=>?_)))))
 · exact .sr (.ks 2 r (.nilS [6] r r (.ret (pret results48 (.t r .n) (.refl _) ⟨a0,r,hd⟩))))
 refine .skipS [2,1,0] r r (.sr (.ks 4 r ?_))
 obtain ⟨hz14,hd⟩:=hd
 exact .quo r r hz14 r r (.ks 1 r (.nilS [6] r r (.ret (pret results48 (.t r .n) (.refl _) ⟨(w64 ((w64 (a2*a0)).tdiv a1)),r,hd⟩))))
theorem W_ref07_Sure {I:IH} {a0:Rows} {p1:Option Addr} {c2:Nat} {p4:Option Addr} {c5:Nat} {p7:Option Addr} {c8:Nat} {Q:Rows→Prop} (R3:RepSl eI64 I p1 c2 a0.Start) (R6:RepSl eI64 I p4 c5 a0.Col) (R9:RepSl eI64 I p7 c8 a0.Val) (hd:ref07_Sure a0 Q) :
  PFun prog 76 [.agg #[.int .i64 a0.Rows,.int .i64 a0.Cols,.slice p1 a0.Start.length c2,.slice p4 a0.Col.length c5,.slice p7 a0.Val.length c8]] I (o9_ Q):=by
 refine Fun.enter func76 r ntmps76 r (.c .n) fun w0 M=>?_
 refine .sr (.boxA r r r fun b23=>?_)
 refine .allocA zv34 r r fun b25=>?_
 refine .nilS [2,1] r r (.seq (.sr (.loadW ia34 sz34 r (.s .z) r r r ?_)))
 have hw28:=W_ref07_Right (I:=I) R3 R6 R9 hd
 refine .callP call45 r hw28 r r fun v29 hv30=>?_
 obtain ⟨r27,rfl,hd⟩:=hv30
 refine .nilS [4,2,1] r r (.condP r hd (fun hb31 hd=>?_) fun hb31 hd=>?_)
 · exact .sr (.loadW ia34 sz34 r (.s .z) r r r (.storeA sz34 r r .z (.t (.t (.t (.t (.t .nil))))) r r (.nilS [2] r r (.drop (.s .z) (.ret (pret results76 (.w ia34 sz34 r .z r .n) (.refl _) ⟨a0,_,_,_,_,_,_,r,R3,R6,R9,hd⟩))))))
 refine .skipS [2] r r (.drop (.s .z) (.sr ?_))
 have hw50:=W_ref07_Empty (I:=I) hd
 refine .callO call47 r hw50 r r fun v36 I33 l37 hl34 hv35=>?_
 obtain ⟨r32,p38,c39,p41,c42,p44,c45,rfl,rfl,hd⟩:=hv35
 refine .storeA sz34 r r (.s (.s (.s .z))) (.t (.t (.t (.t (.t .nil))))) r r (.nilS [2] r r (.pub .z fun I51 hl52 R53=>?_))
 have le54:=IH.le.trans hl34 hl52
 refine .pub .z fun I55 hl56 R57=>?_
 have le58:=IH.le.trans le54 hl56
 replace R53:=R53.mono hl56
 refine .pub .z fun I59 hl60 R61=>?_
 have le62:=IH.le.trans le58 hl60
 replace R53:=R53.mono hl60
 replace R57:=R57.mono hl60
 exact .ret (pret results76 (.w ia34 sz34 r .z r .n) le62 ⟨r32,_,_,_,_,_,_,r,R53,R57,R61,hd⟩)
theorem W_ref07_Triples {I:IH} {a0:Rows} {p1:Option Addr} {c2:Nat} {p4:Option Addr} {c5:Nat} {p7:Option Addr} {c8:Nat} {Q:(List Triple)→Prop} (R3:RepSl eI64 I p1 c2 a0.Start) (R6:RepSl eI64 I p4 c5 a0.Col) (R9:RepSl eI64 I p7 c8 a0.Val) (hd:ref07_Triples a0 Q) :
  PFun prog 68 [.agg #[.int .i64 a0.Rows,.int .i64 a0.Cols,.slice p1 a0.Start.length c2,.slice p4 a0.Col.length c5,.slice p7 a0.Val.length c8]] I (fun I_ v=>∃ r p10 c11,v=.slice p10 r.length c11∧RepSl eTriple I_ p10 c11 r∧Q r):=by
 refine Fun.enter func68 r ntmps68 r (.c .n) fun w0 M=>?_
 refine .sr (.boxA r r r fun b15=>?_)
 refine .ks 1 r (.nilS [1] r r (.sr (.loadW ia34 sz34 r .z r r r ?_)))
 have hw48:=W_ref07_Sure (I:=I) R3 R6 R9 hd
 refine .call call76 r hw48 r r fun v37 I34 hl35 hv36=>?_
 obtain ⟨r33,p39,c40,p42,c43,p45,c46,rfl,R41,R44,R47,hd⟩:=hv36
 replace R3:=R3.mono hl35
 replace R6:=R6.mono hl35
 replace R9:=R9.mono hl35
 refine .storeA sz34 r r .z (.t (.t (.t (.t (.t .nil))))) r r (.nilS [1] r r (.sr (.ks 1 r (.nilS [3,1] r r (.seq (.sr (.ks 1 r (.nilS [4,3,1] r r (.block ?_)))))))))
 refine .own0 eTriple 75 (.loop hd (fun (s:(List Triple)×Int) c w=>match s with | (s423,s427)=>∃ I_ p424 c425,IH.le I34 I_∧Ok ⟨45,[],none⟩ [(1,.pointer (some ⟨b15,0,none⟩)),(3,.slice p424 s423.length c425),(4,.int .i64 s427)] c∧Sym w0 M I I_ [pto b15 (.cells #[.int .i64 r33.Rows,.int .i64 r33.Cols,.slice p39 r33.Start.length c40,.slice p42 r33.Col.length c43,.slice p45 r33.Val.length c46] 34 (0,0)),OwnSl eTriple 75 p424 c425 s423] w) (fun c w ho hs=>⟨I34,_,_,(.refl _),ho.sub ⟨r,r,r,trivial⟩,hs.pick (.c (.s .z) (.c .z .n))⟩) ?_)
 rintro ⟨s423,s427⟩ next429 hd c w hst
 obtain ⟨I430,p424,c425,hl431,hok,hsym⟩:=hst
 have le432:=IH.le.trans hl35 hl431
 replace R41:=R41.mono hl431
 replace R44:=R44.mono hl431
 replace R47:=R47.mono hl431
 refine Cod.at hok hsym (.seq (.sr (.ks 1 r (.fa un34 r sz3 r (o:=0) r r r (.load1 ia3 r .z r r r (.ks 1 r (.nilS [11,4,3,1] r r (.condP r hd (fun hb434 hd=>?_) fun hb434 hd=>?_))))))))
 · refine .skipS [4,3,1] r r (.seq (.block (.sr (.fa un34 r sz31 r (o:=2) r r r (.load1 ia31 r .z r r r (.ks 1 r ?_))))))
   obtain ⟨h444,x445,hx446,hd⟩:=hd
   obtain ⟨b447,o448,cs449,e450,hC451,hr452⟩:=R41.2 _ _ hx446
   cases hr452
   refine .ixa un31 sz3 r e450 r h444 (idx_lt hx446 h444) r r (.ld1 (j:=0) ia3 hC451 r r r r r (.ks 1 r (.nilS [5,4,3,1] r r (.block (.loop hd (fun (s:(List Triple)×Int) c w=>match s with | (s558,s562)=>∃ I_ p559 c560,IH.le I430 I_∧Ok ⟨45,[],none⟩ [(1,.pointer (some ⟨b15,0,none⟩)),(3,.slice p559 s558.length c560),(4,.int .i64 s427),(5,.int .i64 s562)] c∧Sym w0 M I I_ [pto b15 (.cells #[.int .i64 r33.Rows,.int .i64 r33.Cols,.slice p39 r33.Start.length c40,.slice p42 r33.Col.length c43,.slice p45 r33.Val.length c46] 34 (0,0)),OwnSl eTriple 75 p559 c560 s558] w) (fun c w ho hs=>⟨I430,_,_,(.refl _),ho.sub ⟨r,r,r,r,trivial⟩,hs.pick (.c .z (.c .z .n))⟩) ?_)))))
   rintro ⟨s558,s562⟩ next563 hd c w hst
   obtain ⟨I564,p559,c560,hl565,hok,hsym⟩:=hst
   have le566:=IH.le.trans le432 hl565
   have le567:=IH.le.trans hl431 hl565
   replace R41:=R41.mono hl565
   replace R44:=R44.mono hl565
   replace R47:=R47.mono hl565
   refine Cod.at hok hsym (.seq (.sr (.ks 1 r (.fa un34 r sz31 r (o:=2) r r r (.load1 ia31 r .z r r r (.ks 2 r ?_))))))
   obtain ⟨h578,x579,hx580,hd⟩:=hd
   obtain ⟨b581,o582,cs583,e584,hC585,hr586⟩:=R41.2 _ _ hx580
   cases hr586
   refine .ixa un31 sz3 r e584 r h578 (idx_lt hx580 h578) r r (.ld1 (j:=0) ia3 hC585 r r r r r (.ks 1 r (.nilS [26,5,4,3,1] r r (.condP r hd (fun hb587 hd=>?_) fun hb587 hd=>?_))))
   · refine .skipS [5,4,3,1] r r (.seq (.block (.ownF (.s .z) fun hne588=>?_)))
     refine .dr [0,1,2,3,4,5,6,7,8,9,10,11,12,13,14] 15 (.fk 2 r (.g r r r (fun _=>.fa un34 r sz31 r (o:=3) r r r .mk) (.g r r r (fun _=>.load1 ia31 r .z r r r .mk) (.fk 1 r ?_))))
     obtain ⟨h589,x590,hx591,hd⟩:=hd
     obtain ⟨b592,o593,cs594,e595,hC596,hr597⟩:=R44.2 _ _ hx591
     cases hr597
     refine .g r r r (fun _=>.ixa un31 sz3 r e595 r h589 (idx_lt hx591 h589) r r .mk) (.g r r r (fun _=>.ld1 (j:=0) ia3 hC596 r r r r r .mk) (.g r r r (fun _=>.fa un34 r sz32 r (o:=4) r r r .mk) (.g r r r (fun _=>.load1 ia32 r .z r r r .mk) (.fk 1 r ?_))))
     obtain ⟨h598,x599,hx600,hd⟩:=hd
     obtain ⟨b601,o602,cs603,e604,hC605,hr606⟩:=R47.2 _ _ hx600
     cases hr606
     refine .g r r r (fun _=>.ixa un32 sz2 r e604 r h598 (idx_lt hx600 h598) r r .mk) (.g r r r (fun _=>.ld1 (j:=0) ia2 hC605 r r r r r .mk) (.g r r r (fun _=>.build zv75 un75 BI75 (.c r r r (.t .nil) (.c r r r (.s (.t .nil)) (.c r r r (.s (.s (.t .nil))) .n))) (by exact ⟨⟨_,_,r,r,r⟩,⟨⟨_,_,r,r,r⟩,⟨⟨_,_,r,r,r⟩,trivial⟩⟩⟩) r r .mk) (.ww r fun ex=>?_)))
     refine .buildSlice 1 un24 sz75 zv75 r r (.c r r r .n) r r fun b607=>?_
     refine .so 3 r r r (.ck 1 r r trivial) (.ww r fun ex=>?_)
     obtain ⟨hl609,hd⟩:=hd
     refine .append (ys:=[({ Row:=s427,Col:=x590,Val:=x599 }:Triple)]) 24 (.s (.s .z)) un24 un24 IN75 r r r r r r r r r (.box .z (.one r) r) hl609 r r fun p610 c611=>?_
     exact .so 3 r r r trivial (.e2 15 (.ks 1 r (.nilS [3,5,4,1] r r (.drop (.s .z) (.region (.ks 3 r (.nil' fun c w ho hs=>⟨((s558++([({ Row:=s427,Col:=x590,Val:=x599 }:Triple)])),w64 (s562+1)),hd,I564,_,_,hl565,ho.sub ⟨r,r,r,r,trivial⟩,hs.pick (.c (.s .z) (.c .z .n))⟩)))))))
   exact .exitS [4,3,1] r r (.region (.ks 3 r (.nil' fun c w ho hs=>⟨(s558,w64 (s427+1)),hd,I564,_,_,le567,ho.sub ⟨r,r,r,trivial⟩,hs.pick (.c .z (.c .z .n))⟩)))
 refine .exitS [3] r r (.drop .z (.sr (.ks 2 r (.nilS [2] r r (.pub .z fun I613 hl614 R615=>?_)))))
 have le616:=IH.le.trans le432 hl614
 have le617:=IH.le.trans hl431 hl614
 exact .ret (pret results68 (.t r .n) le616 ⟨s423,_,_,r,R615,hd⟩)
theorem W_ref07_Cut {I:IH} {a0:Rows} {a1:Int×Int} {a2:Int×Int} {p1:Option Addr} {c2:Nat} {p4:Option Addr} {c5:Nat} {p7:Option Addr} {c8:Nat} {Q:Rows→Prop} (R3:RepSl eI64 I p1 c2 a0.Start) (R6:RepSl eI64 I p4 c5 a0.Col) (R9:RepSl eI64 I p7 c8 a0.Val) (hd:ref07_Cut a0 a1 a2 Q) :
  PFun prog 49 [.agg #[.int .i64 a0.Rows,.int .i64 a0.Cols,.slice p1 a0.Start.length c2,.slice p4 a0.Col.length c5,.slice p7 a0.Val.length c8],.agg #[.int .i64 a1.1,.int .i64 a1.2],.agg #[.int .i64 a2.1,.int .i64 a2.2]] I (o9_ Q):=by
 refine Fun.enter func49 r ntmps49 r (.c (.c (.c .n))) fun w0 M=>?_
 refine .sr (.boxA r r r fun b27=>?_)
 refine .boxA r r r fun b29=>?_
 refine .boxA r r r fun b31=>?_
 refine .allocA zv34 r r fun b33=>?_
 refine .nilS [6,5,4,3] r r (.sr (.loadW ia34 sz34 r (.s (.s (.s .z))) r r r ?_))
 have hw66:=W_ref07_Sure (I:=I) R3 R6 R9 hd
 refine .call call76 r hw66 r r fun v55 I52 hl53 hv54=>?_
 obtain ⟨r51,p57,c58,p60,c61,p63,c64,rfl,R59,R62,R65,hd⟩:=hv54
 replace R3:=R3.mono hl53
 replace R6:=R6.mono hl53
 replace R9:=R9.mono hl53
 refine .storeA sz34 r r (.s (.s (.s .z))) (.t (.t (.t (.t (.t .nil))))) r r (.nilS [6,5,4,3] r r (.seq (.dr [0,1,2,3,4,5,6] 7 (.g r r r (fun _=>.ixArr (i:=0) un86 sz3 r r (by decide) (o:=0) r r r .mk) (.g r r r (fun _=>.load1 ia3 r (.s (.s .z)) r r r .mk) (.g r r r (fun _=>.maxI r r r r .mk) (.g r r r (fun _=>.ixArr (i:=0) un86 sz3 r r (by decide) (o:=0) r r r .mk) (.g r r r (fun _=>.load1 ia3 r (.s .z) r r r .mk) (.g r r r (fun _=>.maxI r r r r .mk) ?_)))))))))
 refine .fk 1 r (.e2 7 (.ks 1 r (.nilS [8,7,6,5,4,3] r r (.seq (.dr [0,1,2,3,4,5,6,7,8,9,10] 11 (.g r r r (fun _=>.ixArr (i:=1) un86 sz3 r r (by decide) (o:=1) r r r .mk) (.g r r r (fun _=>.load1 ia3 r (.s (.s .z)) r r r .mk) (.g r r r (fun _=>.fa un34 r sz3 r (o:=0) r r r .mk) (.g r r r (fun _=>.load1 ia3 r (.s (.s (.s .z))) r r r .mk) ?_)))))))))
 refine .g r r r (fun _=>.minI r r r r .mk) (.g r r r (fun _=>.ixArr (i:=1) un86 sz3 r r (by decide) (o:=1) r r r .mk) (.g r r r (fun _=>.load1 ia3 r (.s .z) r r r .mk) (.g r r r (fun _=>.fa un34 r sz3 r (o:=1) r r r .mk) (.g r r r (fun _=>.load1 ia3 r (.s (.s (.s .z))) r r r .mk) (.g r r r (fun _=>.minI r r r r .mk) (.fk 1 r (.e2 11 (.ks 1 r (.nilS [10,9,8,7,6,3] r r ?_)))))))))
 refine .drop (.s .z) (.drop (.s .z) (.sr (.loadW ia34 sz34 r (.s .z) r r r ?_)))
 have hw87:=W_ref07_Triples (I:=I52) R59 R62 R65 hd
 refine .call call68 r hw87 r r fun v82 I79 hl80 hv81=>?_
 obtain ⟨r78,p84,c85,rfl,R86,hd⟩:=hv81
 have le88:=IH.le.trans hl53 hl80
 replace R59:=R59.mono hl80
 replace R62:=R62.mono hl80
 replace R65:=R65.mono hl80
 refine .ks 1 r (.nilS [11,10,9,8,7,6] r r (.drop (.s .z) (.sr (.ks 1 r (.nilS [12,11,10,9,8,7,6] r r (.seq (.sr (.ks 1 r (.nilS [13,12,11,10,9,8,7,6] r r ?_)))))))))
 refine .block (.own0 eTriple 75 (.loop hd (fun (s:(List Triple)×Int) c w=>match s with | (s925,s929)=>∃ I_ p926 c927,IH.le I79 I_∧Ok ⟨121,[],none⟩ [(6,.pointer (some ⟨b33,0,none⟩)),(7,.int .i64 (if 0 > a1.1 then 0 else a1.1)),(8,.int .i64 (if 0 > a2.1 then 0 else a2.1)),(9,.int .i64 (if r51.Rows<a1.2 then r51.Rows else a1.2)),(10,.int .i64 (if r51.Cols<a2.2 then r51.Cols else a2.2)),(11,.slice p84 r78.length c85),(12,.slice p926 s925.length c927),(13,.int .i64 s929)] c∧Sym w0 M I I_ [pto b33 (.cells #[.int .i64 0,.int .i64 0,.slice none 0 0,.slice none 0 0,.slice none 0 0] 34 (0,0)),OwnSl eTriple 75 p926 c927 s925] w) (fun c w ho hs=>⟨I79,_,_,(.refl _),ho.sub ⟨r,r,r,r,r,r,r,r,trivial⟩,hs.pick (.c (.s .z) (.c .z .n))⟩) ?_))
 rintro ⟨s925,s929⟩ next931 hd c w hst
 obtain ⟨I932,p926,c927,hl933,hok,hsym⟩:=hst
 have le934:=IH.le.trans le88 hl933
 replace R86:=R86.mono hl933
 refine Cod.at hok hsym (.seq (.sr (.ks 2 r (.len un24 r r r r (.ks 1 r (.nilS [39,13,12,11,10,9,8,7,6] r r (.condP r hd (fun hb936 hd=>?_) fun hb936 hd=>?_)))))))
 · refine .skipS [13,12,11,10,9,8,7,6] r r (.seq (.block (.seq ?_)))
   refine Cod.joinQ (σ:=Bool) hd (fun (s1015:Bool) c w=>∃ I_,IH.le I932 I_∧Ok ⟨121,[],none⟩ [(6,.pointer (some ⟨b33,0,none⟩)),(7,.int .i64 (if 0 > a1.1 then 0 else a1.1)),(8,.int .i64 (if 0 > a2.1 then 0 else a2.1)),(9,.int .i64 (if r51.Rows<a1.2 then r51.Rows else a1.2)),(10,.int .i64 (if r51.Cols<a2.2 then r51.Cols else a2.2)),(11,.slice p84 r78.length c85),(12,.slice p926 s925.length c927),(13,.int .i64 s929),(75,.bool s1015)] c∧Sym w0 M I I_ [pto b33 (.cells #[.int .i64 0,.int .i64 0,.slice none 0 0,.slice none 0 0,.slice none 0 0] 34 (0,0)),OwnSl eTriple 75 p926 c927 s925] w) (fun k1016 hd=>?_) ?_
   · skip
     refine .region (.ks 2 r ?_)
     obtain ⟨h1017,x1018,hx1019,hd⟩:=hd
     obtain ⟨b1020,o1021,cs1022,e1023,hC1024,hr1025⟩:=R86.2 _ _ hx1019
     cases hr1025
     refine .ixa un24 sz75 r e1023 r h1017 (idx_lt hx1019 h1017) r r (.fa un75 r sz3 r (o:=o1021+s929.toNat*3) r r r (.ld1 (j:=0) ia3 hC1024 r r r r r (.ks 3 r ?_)))
     refine splitP hd (fun hb1026 hd=>?_) fun hb1026 hd=>?_
     · rw [hb1026]
       refine .ks 2 r ?_
       obtain ⟨h1027,x1028,hx1029,hd⟩:=hd
       obtain ⟨b1030,o1031,cs1032,e1033,hC1034,hr1035⟩:=R86.2 _ _ hx1029
       cases hr1035
       refine .gyes r r r (.ixa un24 sz75 r e1033 r h1027 (idx_lt hx1029 h1027) r r (.gyes r r r (.fa un75 r sz3 r (o:=o1031+s929.toNat*3) r r r (.gyes r r r (.ld1 (j:=0) ia3 hC1034 r r r r r (.ks 4 r ?_))))))
       refine splitP hd (fun hb1036 hd=>?_) fun hb1036 hd=>?_
       · rw [hb1036]
         refine .ks 2 r ?_
         obtain ⟨h1037,x1038,hx1039,hd⟩:=hd
         obtain ⟨b1040,o1041,cs1042,e1043,hC1044,hr1045⟩:=R86.2 _ _ hx1039
         cases hr1045
         refine .gyes r r r (.ixa un24 sz75 r e1043 r h1037 (idx_lt hx1039 h1037) r r (.gyes r r r (.fa un75 r sz3 r (o:=o1041+s929.toNat*3+1) r r r (.gyes r r r (.ld1 (j:=1) ia3 hC1044 r r r r r (.ks 4 r ?_))))))
         refine splitP hd (fun hb1046 hd=>?_) fun hb1046 hd=>?_
         · rw [hb1046]
           refine .ks 2 r ?_
           obtain ⟨h1047,x1048,hx1049,hd⟩:=hd
           obtain ⟨b1050,o1051,cs1052,e1053,hC1054,hr1055⟩:=R86.2 _ _ hx1049
           cases hr1055
           exact .gyes r r r (.ixa un24 sz75 r e1053 r h1047 (idx_lt hx1049 h1047) r r (.gyes r r r (.fa un75 r sz3 r (o:=o1051+s929.toNat*3+1) r r r (.gyes r r r (.ld1 (j:=1) ia3 hC1054 r r r r r (.ks 3 r (.nil' fun c w ho hs=>⟨(decide (x1048.Col<(if r51.Cols<a2.2 then r51.Cols else a2.2))),hd,I932,(.refl _),ho.sub ⟨r,r,r,r,r,r,r,r,r,trivial⟩,hs.pick (.c .z (.c .z .n))⟩)))))))
         rw [hb1046]
         exact .ks 8 r (.nil' fun c w ho hs=>⟨false,hd,I932,(.refl _),ho.sub ⟨r,r,r,r,r,r,r,r,r,trivial⟩,hs.pick (.c .z (.c .z .n))⟩)
       rw [hb1036]
       exact .ks 17 r (.nil' fun c w ho hs=>⟨false,hd,I932,(.refl _),ho.sub ⟨r,r,r,r,r,r,r,r,r,trivial⟩,hs.pick (.c .z (.c .z .n))⟩)
     rw [hb1026]
     exact .ks 26 r (.nil' fun c w ho hs=>⟨false,hd,I932,(.refl _),ho.sub ⟨r,r,r,r,r,r,r,r,r,trivial⟩,hs.pick (.c .z (.c .z .n))⟩)
   rintro s1015 hd c w hst
   obtain ⟨I1056,hl1057,hok,hsym⟩:=hst
   have le1058:=IH.le.trans le934 hl1057
   have le1059:=IH.le.trans hl933 hl1057
   replace R86:=R86.mono hl1057
   refine Cod.at hok hsym (.condP r hd (fun hb1060 hd=>?_) fun hb1060 hd=>?_)
   · refine .ownF (.s .z) fun hne1061=>?_
     refine .dr [0,1,2,3,4,5,6,7,8,9,10,11,12,13,14,15,16,17,18,19,20,21,22] 23 (.fk 3 r ?_)
     obtain ⟨h1062,x1063,hx1064,hd⟩:=hd
     obtain ⟨b1065,o1066,cs1067,e1068,hC1069,hr1070⟩:=R86.2 _ _ hx1064
     cases hr1070
     refine .g r r r (fun _=>.ixa un24 sz75 r e1068 r h1062 (idx_lt hx1064 h1062) r r .mk) (.g r r r (fun _=>.fa un75 r sz3 r (o:=o1066+s929.toNat*3) r r r .mk) (.g r r r (fun _=>.ld1 (j:=0) ia3 hC1069 r r r r r .mk) (.fk 4 r ?_)))
     obtain ⟨h1071,x1072,hx1073,hd⟩:=hd
     obtain ⟨b1074,o1075,cs1076,e1077,hC1078,hr1079⟩:=R86.2 _ _ hx1073
     cases hr1079
     refine .g r r r (fun _=>.ixa un24 sz75 r e1077 r h1071 (idx_lt hx1073 h1071) r r .mk) (.g r r r (fun _=>.fa un75 r sz3 r (o:=o1075+s929.toNat*3+1) r r r .mk) (.g r r r (fun _=>.ld1 (j:=1) ia3 hC1078 r r r r r .mk) (.fk 4 r ?_)))
     obtain ⟨h1080,x1081,hx1082,hd⟩:=hd
     obtain ⟨b1083,o1084,cs1085,e1086,hC1087,hr1088⟩:=R86.2 _ _ hx1082
     cases hr1088
     refine .g r r r (fun _=>.ixa un24 sz75 r e1086 r h1080 (idx_lt hx1082 h1080) r r .mk) (.g r r r (fun _=>.fa un75 r sz2 r (o:=o1084+s929.toNat*3+2) r r r .mk) (.g r r r (fun _=>.ld1 (j:=2) ia2 hC1087 r r r r r .mk) (.g r r r (fun _=>.build zv75 un75 BI75 (.c r r r (.t .nil) (.c r r r (.s (.t .nil)) (.c r r r (.s (.s (.t .nil))) .n))) (by exact ⟨⟨_,_,r,r,r⟩,⟨⟨_,_,r,r,r⟩,⟨⟨_,_,r,r,r⟩,trivial⟩⟩⟩) r r .mk) (.ww r fun ex=>?_))))
     refine .buildSlice 1 un24 sz75 zv75 r r (.c r r r .n) r r fun b1089=>?_
     refine .so 3 r r r (.ck 1 r r trivial) (.ww r fun ex=>?_)
     obtain ⟨hl1091,hd⟩:=hd
     refine .append (ys:=[({ Row:=w64 (x1063.Row - (if 0 > a1.1 then 0 else a1.1)),Col:=w64 (x1072.Col - (if 0 > a2.1 then 0 else a2.1)),Val:=x1081.Val }:Triple)]) 24 (.s (.s .z)) un24 un24 IN75 r r r r r r r r r (.box .z (.one r) r) hl1091 r r fun p1092 c1093=>?_
     exact .so 3 r r r trivial (.e2 23 (.ks 1 r (.nilS [12,13,11,10,9,8,7,6] r r (.drop (.s .z) (.region (.ks 3 r (.nil' fun c w ho hs=>⟨((s925++([({ Row:=w64 (x1063.Row - (if 0 > a1.1 then 0 else a1.1)),Col:=w64 (x1072.Col - (if 0 > a2.1 then 0 else a2.1)),Val:=x1081.Val }:Triple)])),w64 (s929+1)),hd,I1056,_,_,le1059,ho.sub ⟨r,r,r,r,r,r,r,r,trivial⟩,hs.pick (.c (.s .z) (.c .z .n))⟩)))))))
   exact .skipS [13,12,11,10,9,8,7,6] r r (.region (.ks 3 r (.nil' fun c w ho hs=>⟨(s925,w64 (s929+1)),hd,I1056,_,_,le1059,ho.sub ⟨r,r,r,r,r,r,r,r,trivial⟩,hs.pick (.c .z (.c .z .n))⟩)))
 refine .exitS [12,10,9,8,7,6] r r (.sr (.ks 2 r (.nilS [15,14,12,10,9,8,7,6] r r (.seq ?_))))
 refine Cod.joinQ (σ:=Int) hd (fun (s1097:Int) c w=>∃ I_,IH.le I932 I_∧Ok ⟨121,[],none⟩ [(6,.pointer (some ⟨b33,0,none⟩)),(8,.int .i64 (if 0 > a2.1 then 0 else a2.1)),(10,.int .i64 (if r51.Cols<a2.2 then r51.Cols else a2.2)),(12,.slice p926 s925.length c927),(14,.int .i64 s1097),(15,.int .i64 0)] c∧Sym w0 M I I_ [pto b33 (.cells #[.int .i64 0,.int .i64 0,.slice none 0 0,.slice none 0 0,.slice none 0 0] 34 (0,0)),OwnSl eTriple 75 p926 c927 s925] w) (fun k1098 hd=>?_) ?_
 · skip
   refine .sr (.ks 3 r (.nilS [101,15,14,12,10,9,8,7,6] r r (.condP r hd (fun hb1099 hd=>?_) fun hb1099 hd=>?_)))
   · exact .region (.ks 4 r (.nil' fun c w ho hs=>⟨(w64 ((if r51.Rows<a1.2 then r51.Rows else a1.2) - (if 0 > a1.1 then 0 else a1.1))),hd,I932,(.refl _),ho.sub ⟨r,r,r,r,r,r,trivial⟩,hs.pick (.c .z (.c .z .n))⟩))
   exact .skip' fun c w ho hs=>⟨0,hd,I932,(.refl _),ho.sub ⟨r,r,r,r,r,r,trivial⟩,hs.pick (.c .z (.c .z .n))⟩
 rintro s1097 hd c w hst
 obtain ⟨I1100,hl1101,hok,hsym⟩:=hst
 have le1102:=IH.le.trans le934 hl1101
 have le1103:=IH.le.trans hl933 hl1101
 refine Cod.at hok hsym (.seq ?_)
 refine Cod.joinQ (σ:=Int) hd (fun (s1106:Int) c w=>∃ I_,IH.le I1100 I_∧Ok ⟨121,[],none⟩ [(6,.pointer (some ⟨b33,0,none⟩)),(12,.slice p926 s925.length c927),(14,.int .i64 s1097),(15,.int .i64 s1106)] c∧Sym w0 M I I_ [pto b33 (.cells #[.int .i64 0,.int .i64 0,.slice none 0 0,.slice none 0 0,.slice none 0 0] 34 (0,0)),OwnSl eTriple 75 p926 c927 s925] w) (fun k1107 hd=>?_) ?_
 · skip
   refine .sr (.ks 3 r (.nilS [107,15,14,12,10,8,6] r r (.condP r hd (fun hb1108 hd=>?_) fun hb1108 hd=>?_)))
   · exact .region (.ks 4 r (.nil' fun c w ho hs=>⟨(w64 ((if r51.Cols<a2.2 then r51.Cols else a2.2) - (if 0 > a2.1 then 0 else a2.1))),hd,I1100,(.refl _),ho.sub ⟨r,r,r,r,trivial⟩,hs.pick (.c .z (.c .z .n))⟩))
   exact .skip' fun c w ho hs=>⟨0,hd,I1100,(.refl _),ho.sub ⟨r,r,r,r,trivial⟩,hs.pick (.c .z (.c .z .n))⟩
 rintro s1106 hd c w hst
 obtain ⟨I1109,hl1110,hok,hsym⟩:=hst
 have le1111:=IH.le.trans le1102 hl1110
 have le1112:=IH.le.trans le1103 hl1110
 have le1113:=IH.le.trans hl1101 hl1110
 refine Cod.at hok hsym (.seq (.sr (.ks 3 r ?_)))
 refine splitP hd (fun hb1114 hd=>?_) fun hb1114 hd=>?_
 · rw [hb1114]
   refine .ks 3 r (.nilS [116,15,14,12,6] r r (.condKT r r (.region (.ks 1 r (.nilS [12,15,14,6] r r (.drop (.s .z) (.sr (.ks 3 r ?_))))))))
   have hw1130:=W_ref07_built (I:=I1109) (.nil _ none 0) hd
   refine .call call89 r hw1130 r r fun v1119 I1116 hl1117 hv1118=>?_
   obtain ⟨r1115,p1121,c1122,p1124,c1125,p1127,c1128,rfl,R1123,R1126,R1129,hd⟩:=hv1118
   have le1131:=IH.le.trans le1111 hl1117
   have le1132:=IH.le.trans le1112 hl1117
   have le1133:=IH.le.trans le1113 hl1117
   have le1134:=IH.le.trans hl1110 hl1117
   exact .storeA sz34 r r .z (.t (.t (.t (.t (.t .nil))))) r r (.nilS [6] r r (.ret (pret results49 (.w ia34 sz34 r .z r .n) le1131 ⟨r1115,_,_,_,_,_,_,r,R1123,R1126,R1129,hd⟩)))
 rw [hb1114]
 refine .ks 3 r (.nilS [116,15,14,12,6] r r (.condP r hd (fun hb1135 hd=>?_) fun hb1135 hd=>?_))
 · refine .region (.ks 1 r (.nilS [12,15,14,6] r r (.drop (.s .z) (.sr (.ks 3 r ?_)))))
   have hw1151:=W_ref07_built (I:=I1109) (.nil _ none 0) hd
   refine .call call89 r hw1151 r r fun v1140 I1137 hl1138 hv1139=>?_
   obtain ⟨r1136,p1142,c1143,p1145,c1146,p1148,c1149,rfl,R1144,R1147,R1150,hd⟩:=hv1139
   have le1152:=IH.le.trans le1111 hl1138
   have le1153:=IH.le.trans le1112 hl1138
   have le1154:=IH.le.trans le1113 hl1138
   have le1155:=IH.le.trans hl1110 hl1138
   exact .storeA sz34 r r .z (.t (.t (.t (.t (.t .nil))))) r r (.nilS [6] r r (.ret (pret results49 (.w ia34 sz34 r .z r .n) le1152 ⟨r1136,_,_,_,_,_,_,r,R1144,R1147,R1150,hd⟩)))
 refine .skipS [15,14,12,6] r r (.sr (.ks 3 r (.pub (.s .z) fun I1156 hl1157 R1158=>?_)))
 have le1159:=IH.le.trans le1111 hl1157
 have le1160:=IH.le.trans le1112 hl1157
 have le1161:=IH.le.trans le1113 hl1157
 have le1162:=IH.le.trans hl1110 hl1157
 have hw1178:=W_ref07_built (I:=I1156) R1158 hd
 refine .call call89 r hw1178 r r fun v1167 I1164 hl1165 hv1166=>?_
 obtain ⟨r1163,p1169,c1170,p1172,c1173,p1175,c1176,rfl,R1171,R1174,R1177,hd⟩:=hv1166
 have le1179:=IH.le.trans le1159 hl1165
 have le1180:=IH.le.trans le1160 hl1165
 have le1181:=IH.le.trans le1161 hl1165
 have le1182:=IH.le.trans le1162 hl1165
 replace R1158:=R1158.mono hl1165
 exact .storeA sz34 r r .z (.t (.t (.t (.t (.t .nil))))) r r (.nilS [6] r r (.ret (pret results49 (.w ia34 sz34 r .z r .n) le1179 ⟨r1163,_,_,_,_,_,_,r,R1171,R1174,R1177,hd⟩)))
theorem W_ref18_Cut {I:IH} {a0:Rows} {a1:Int} {a2:Int} {a3:Int} {a4:Int} {p1:Option Addr} {c2:Nat} {p4:Option Addr} {c5:Nat} {p7:Option Addr} {c8:Nat} {Q:Rows→Prop} (R3:RepSl eI64 I p1 c2 a0.Start) (R6:RepSl eI64 I p4 c5 a0.Col) (R9:RepSl eI64 I p7 c8 a0.Val) (hd:ref18_Cut a0 a1 a2 a3 a4 Q) :
  PFun prog 13 [.agg #[.int .i64 a0.Rows,.int .i64 a0.Cols,.slice p1 a0.Start.length c2,.slice p4 a0.Col.length c5,.slice p7 a0.Val.length c8],.int .i64 a1,.int .i64 a2,.int .i64 a3,.int .i64 a4] I (o9_ Q):=by
 refine Fun.enter func13 r ntmps13 r (.c (.c (.c (.c (.c .n))))) fun w0 M=>?_
 refine .sr (.boxA r r r fun b23=>?_)
 refine .allocA zv34 r r fun b25=>?_
 refine .nilS [10,5,4,3,2,1] r r (.seq (.sr (.loadW ia34 sz34 r (.s .z) r r r ?_)))
 have hw156:=W_ref07_Right (I:=I) R3 R6 R9 hd
 refine .callP call45 r hw156 r r fun v157 hv158=>?_
 obtain ⟨r155,rfl,hd⟩:=hv158
 refine .ks 2 r ?_
 refine splitP hd (fun hb159 hd=>?_) fun hb159 hd=>?_
 · rw [hb159]
   refine .ks 23 r (.nilS [39,10,5,4,3,2,1] r r (.condKT r r (.sr ?_)))
   have hw178:=W_ref07_Empty (I:=I) hd
   refine .callO call47 r hw178 r r fun v164 I161 l165 hl162 hv163=>?_
   obtain ⟨r160,p166,c167,p169,c170,p172,c173,rfl,rfl,hd⟩:=hv163
   replace R3:=R3.mono hl162
   replace R6:=R6.mono hl162
   replace R9:=R9.mono hl162
   refine .storeA sz34 r r (.s (.s (.s .z))) (.t (.t (.t (.t (.t .nil))))) r r (.nilS [10] r r (.drop (.s (.s (.s (.s .z)))) (.pub .z fun I179 hl180 R181=>?_)))
   have le182:=IH.le.trans hl162 hl180
   refine .pub .z fun I183 hl184 R185=>?_
   have le186:=IH.le.trans le182 hl184
   replace R181:=R181.mono hl184
   refine .pub .z fun I187 hl188 R189=>?_
   have le190:=IH.le.trans le186 hl188
   replace R181:=R181.mono hl188
   replace R185:=R185.mono hl188
   exact .ret (pret results13 (.w ia34 sz34 r .z r .n) le190 ⟨r160,_,_,_,_,_,_,r,R181,R185,R189,hd⟩)
 rw [hb159]
 refine .ks 2 r ?_
 have hw192:=W_ref18_sides (I:=I) hd
 refine .gyes r r r (.callP call46 r hw192 r r fun v193 hv194=>?_)
 obtain ⟨r191,rfl,hd⟩:=hv194
 refine .ks 3 r ?_
 refine splitP hd (fun hb195 hd=>?_) fun hb195 hd=>?_
 · rw [hb195]
   refine .ks 17 r (.nilS [39,10,5,4,3,2,1] r r (.condKT r r (.sr ?_)))
   have hw214:=W_ref07_Empty (I:=I) hd
   refine .callO call47 r hw214 r r fun v200 I197 l201 hl198 hv199=>?_
   obtain ⟨r196,p202,c203,p205,c206,p208,c209,rfl,rfl,hd⟩:=hv199
   replace R3:=R3.mono hl198
   replace R6:=R6.mono hl198
   replace R9:=R9.mono hl198
   refine .storeA sz34 r r (.s (.s (.s .z))) (.t (.t (.t (.t (.t .nil))))) r r (.nilS [10] r r (.drop (.s (.s (.s (.s .z)))) (.pub .z fun I215 hl216 R217=>?_)))
   have le218:=IH.le.trans hl198 hl216
   refine .pub .z fun I219 hl220 R221=>?_
   have le222:=IH.le.trans le218 hl220
   replace R217:=R217.mono hl220
   refine .pub .z fun I223 hl224 R225=>?_
   have le226:=IH.le.trans le222 hl224
   replace R217:=R217.mono hl224
   replace R221:=R221.mono hl224
   exact .ret (pret results13 (.w ia34 sz34 r .z r .n) le226 ⟨r196,_,_,_,_,_,_,r,R217,R221,R225,hd⟩)
 rw [hb195]
 refine .ks 4 r ?_
 refine splitP hd (fun hb227 hd=>?_) fun hb227 hd=>?_
 · rw [hb227]
   refine .ks 13 r (.nilS [39,10,5,4,3,2,1] r r (.condKT r r (.sr ?_)))
   have hw246:=W_ref07_Empty (I:=I) hd
   refine .callO call47 r hw246 r r fun v232 I229 l233 hl230 hv231=>?_
   obtain ⟨r228,p234,c235,p237,c238,p240,c241,rfl,rfl,hd⟩:=hv231
   replace R3:=R3.mono hl230
   replace R6:=R6.mono hl230
   replace R9:=R9.mono hl230
   refine .storeA sz34 r r (.s (.s (.s .z))) (.t (.t (.t (.t (.t .nil))))) r r (.nilS [10] r r (.drop (.s (.s (.s (.s .z)))) (.pub .z fun I247 hl248 R249=>?_)))
   have le250:=IH.le.trans hl230 hl248
   refine .pub .z fun I251 hl252 R253=>?_
   have le254:=IH.le.trans le250 hl252
   replace R249:=R249.mono hl252
   refine .pub .z fun I255 hl256 R257=>?_
   have le258:=IH.le.trans le254 hl256
   replace R249:=R249.mono hl256
   replace R253:=R253.mono hl256
   exact .ret (pret results13 (.w ia34 sz34 r .z r .n) le258 ⟨r228,_,_,_,_,_,_,r,R249,R253,R257,hd⟩)
 rw [hb227]
 refine .ks 5 r ?_
 refine splitP hd (fun hb259 hd=>?_) fun hb259 hd=>?_
 · rw [hb259]
   refine .ks 8 r (.nilS [39,10,5,4,3,2,1] r r (.condKT r r (.sr ?_)))
   have hw278:=W_ref07_Empty (I:=I) hd
   refine .callO call47 r hw278 r r fun v264 I261 l265 hl262 hv263=>?_
   obtain ⟨r260,p266,c267,p269,c270,p272,c273,rfl,rfl,hd⟩:=hv263
   replace R3:=R3.mono hl262
   replace R6:=R6.mono hl262
   replace R9:=R9.mono hl262
   refine .storeA sz34 r r (.s (.s (.s .z))) (.t (.t (.t (.t (.t .nil))))) r r (.nilS [10] r r (.drop (.s (.s (.s (.s .z)))) (.pub .z fun I279 hl280 R281=>?_)))
   have le282:=IH.le.trans hl262 hl280
   refine .pub .z fun I283 hl284 R285=>?_
   have le286:=IH.le.trans le282 hl284
   replace R281:=R281.mono hl284
   refine .pub .z fun I287 hl288 R289=>?_
   have le290:=IH.le.trans le286 hl288
   replace R281:=R281.mono hl288
   replace R285:=R285.mono hl288
   exact .ret (pret results13 (.w ia34 sz34 r .z r .n) le290 ⟨r260,_,_,_,_,_,_,r,R281,R285,R289,hd⟩)
 rw [hb259]
 refine .ks 4 r ?_
 refine splitP hd (fun hb291 hd=>?_) fun hb291 hd=>?_
 · rw [hb291]
   refine .ks 4 r (.nilS [39,10,5,4,3,2,1] r r (.condKT r r (.sr ?_)))
   have hw310:=W_ref07_Empty (I:=I) hd
   refine .callO call47 r hw310 r r fun v296 I293 l297 hl294 hv295=>?_
   obtain ⟨r292,p298,c299,p301,c302,p304,c305,rfl,rfl,hd⟩:=hv295
   replace R3:=R3.mono hl294
   replace R6:=R6.mono hl294
   replace R9:=R9.mono hl294
   refine .storeA sz34 r r (.s (.s (.s .z))) (.t (.t (.t (.t (.t .nil))))) r r (.nilS [10] r r (.drop (.s (.s (.s (.s .z)))) (.pub .z fun I311 hl312 R313=>?_)))
   have le314:=IH.le.trans hl294 hl312
   refine .pub .z fun I315 hl316 R317=>?_
   have le318:=IH.le.trans le314 hl316
   replace R313:=R313.mono hl316
   refine .pub .z fun I319 hl320 R321=>?_
   have le322:=IH.le.trans le318 hl320
   replace R313:=R313.mono hl320
   replace R317:=R317.mono hl320
   exact .ret (pret results13 (.w ia34 sz34 r .z r .n) le322 ⟨r292,_,_,_,_,_,_,r,R313,R317,R321,hd⟩)
 rw [hb291]
 refine .ks 4 r (.nilS [39,10,5,4,3,2,1] r r (.condP r hd (fun hb323 hd=>?_) fun hb323 hd=>?_))
 · refine .sr ?_
   have hw342:=W_ref07_Empty (I:=I) hd
   refine .callO call47 r hw342 r r fun v328 I325 l329 hl326 hv327=>?_
   obtain ⟨r324,p330,c331,p333,c334,p336,c337,rfl,rfl,hd⟩:=hv327
   replace R3:=R3.mono hl326
   replace R6:=R6.mono hl326
   replace R9:=R9.mono hl326
   refine .storeA sz34 r r (.s (.s (.s .z))) (.t (.t (.t (.t (.t .nil))))) r r (.nilS [10] r r (.drop (.s (.s (.s (.s .z)))) (.pub .z fun I343 hl344 R345=>?_)))
   have le346:=IH.le.trans hl326 hl344
   refine .pub .z fun I347 hl348 R349=>?_
   have le350:=IH.le.trans le346 hl348
   replace R345:=R345.mono hl348
   refine .pub .z fun I351 hl352 R353=>?_
   have le354:=IH.le.trans le350 hl352
   replace R345:=R345.mono hl352
   replace R349:=R349.mono hl352
   exact .ret (pret results13 (.w ia34 sz34 r .z r .n) le354 ⟨r324,_,_,_,_,_,_,r,R345,R349,R353,hd⟩)
 refine .skipS [10,5,4,3,2,1] r r (.seq (.dr [0,1,2,3,5,6,7,8,9,12,4,10,11,999] 13 (.g r r r (fun _=>.fa un34 r sz3 r (o:=0) r r r .mk) (.g r r r (fun _=>.load1 ia3 r (.s .z) r r r .mk) (.fk 2 r (.g r r r (fun _=>.fa un34 r sz3 r (o:=0) r r r .mk) (.g r r r (fun _=>.load1 ia3 r (.s .z) r r r .mk) (.fk 3 r (.a (fun b=>.pointer (some ⟨b,0,none⟩)) (fun b=>pto b (.cells #[.int .i64 0,.int .i64 0] 86 (0,0))) r r r r (fun _ L hL ex=>.allocA zv86 r r fun b=>.mk (val:=fun b=>.pointer (some ⟨b,0,none⟩)) (atom:=fun b=>pto b (.cells #[.int .i64 0,.int .i64 0] 86 (0,0))) hL b) ?_)))))))))
 refine .ww r fun ex=>?_
 have hw367:=W_ref17_Low (I:=I) hd
 refine .callP call48 r hw367 r r fun v368 hv369=>?_
 obtain ⟨r366,rfl,hd⟩:=hv369
 refine .so 2 r r r (.ck 3 r r (.cg r r r r (fun _=>.load1 ia3 r (.s .z) r r r .mk) (.cg r r r r (fun _=>.fa un34 r sz3 r (o:=0) r r r .mk) trivial))) (.ww r fun ex=>?_)
 have hw371:=W_ref17_Low (I:=I) hd
 refine .callP call48 r hw371 r r fun v372 hv373=>?_
 obtain ⟨r370,rfl,hd⟩:=hv373
 refine .so 2 r r r trivial (.g r r r (fun _=>.buildArr zv86 un86 sz3 (.c r r r (.t .nil) (.c r r r (.s (.t .nil)) .n)) r r .mk) (.b r fun b374=>DrawD.nop (.e2 13 (.storeA sz86 r r (.s (.s .z)) (.t (.t .nil)) r r (.nilS [11,10,5,4,2] r r (.seq (.dr [0,1,2,3,5,6,7,8,9,12,4,10,11,999] 13 (.g r r r (fun _=>.fa un34 r sz3 r (o:=1) r r r .mk) (.g r r r (fun _=>.load1 ia3 r (.s .z) r r r .mk) ?_)))))))))
 refine .fk 2 r (.g r r r (fun _=>.fa un34 r sz3 r (o:=1) r r r .mk) (.g r r r (fun _=>.load1 ia3 r (.s .z) r r r .mk) (.fk 3 r (.a (fun b=>.pointer (some ⟨b,0,none⟩)) (fun b=>pto b (.cells #[.int .i64 0,.int .i64 0] 86 (0,0))) r r r r (fun _ L hL ex=>.allocA zv86 r r fun b=>.mk (val:=fun b=>.pointer (some ⟨b,0,none⟩)) (atom:=fun b=>pto b (.cells #[.int .i64 0,.int .i64 0] 86 (0,0))) hL b) (.ww r fun ex=>?_)))))
 have hw377:=W_ref17_Low (I:=I) hd
 refine .callP call48 r hw377 r r fun v378 hv379=>?_
 obtain ⟨r376,rfl,hd⟩:=hv379
 refine .so 3 r r r (.ck 3 r r (.cg r r r r (fun _=>.load1 ia3 r (.s .z) r r r .mk) (.cg r r r r (fun _=>.fa un34 r sz3 r (o:=1) r r r .mk) trivial))) (.ww r fun ex=>?_)
 have hw381:=W_ref17_Low (I:=I) hd
 refine .callP call48 r hw381 r r fun v382 hv383=>?_
 obtain ⟨r380,rfl,hd⟩:=hv383
 refine .so 3 r r r trivial (.g r r r (fun _=>.buildArr zv86 un86 sz3 (.c r r r (.t .nil) (.c r r r (.s (.t .nil)) .n)) r r .mk) (.b r fun b384=>DrawD.nop (.e2 13 (.storeA sz86 r r (.s (.s (.s .z))) (.t (.t .nil)) r r (.nilS [12,11,10,5] r r (.sr (.loadW ia34 sz34 r (.s .z) r r r (.loadW isAgg86 sz86 r (.s (.s .z)) r r r (.loadW isAgg86 sz86 r (.s (.s (.s .z))) r r r ?_)))))))))
 have hw400:=W_ref07_Cut (I:=I) R3 R6 R9 hd
 refine .call call49 r hw400 r r fun v389 I386 hl387 hv388=>?_
 obtain ⟨r385,p391,c392,p394,c395,p397,c398,rfl,R393,R396,R399,hd⟩:=hv388
 replace R3:=R3.mono hl387
 replace R6:=R6.mono hl387
 replace R9:=R9.mono hl387
 exact .storeA sz34 r r .z (.t (.t (.t (.t (.t .nil))))) r r (.nilS [10] r r (.drop (.s .z) (.drop (.s .z) (.drop (.s .z) (.ret (pret results13 (.w ia34 sz34 r .z r .n) hl387 ⟨r385,_,_,_,_,_,_,r,R393,R396,R399,hd⟩))))))
theorem W_ref09_Right {I:IH} {a0:Vec} {p1:Option Addr} {c2:Nat} {Q:Bool→Prop} (R3:RepSl eItem I p1 c2 a0.Items) (hd:ref09_Right a0 Q) :
  PFun prog 59 [.agg #[.int .i64 a0.N,.slice p1 a0.Items.length c2]] I (fun _=>o1_ Q):=by
 refine Fun.enter func59 r ntmps59 r (.c .n) fun w0 M=>?_
 refine .sr (.boxA r r r fun b6=>?_)
 refine .ks 1 r (.nilS [1] r r (.seq (.sr (.fa un37 r sz3 r (o:=0) r r r (.load1 ia3 r .z r r r (.ks 2 r ?_))))))
 refine splitP hd (fun hb10 hd=>?_) fun hb10 hd=>?_
 · rw [hb10]
   exact .ks 4 r (.nilS [11,1] r r (.condKT r r (.sr (.ks 1 r (.nilS [2] r r (.drop .z (.ret (pret results59 (.t r .n) (.refl _) ⟨false,r,hd⟩))))))))
 rw [hb10]
 refine .gyes r r r (.fa un37 r sz3 r (o:=0) r r r (.gyes r r r (.load1 ia3 r .z r r r (.ks 2 r (.nilS [11,1] r r (.condP r hd (fun hb11 hd=>?_) fun hb11 hd=>?_))))))
 · exact .sr (.ks 1 r (.nilS [2] r r (.drop .z (.ret (pret results59 (.t r .n) (.refl _) ⟨false,r,hd⟩)))))
 refine .skipS [1] r r (.seq (.sr (.ks 1 r (.nilS [3,1] r r (.block (.loop hd (fun (s79:Int) c w=>∃ I_,IH.le I I_∧Ok ⟨57,[],none⟩ [(1,.pointer (some ⟨b6,0,none⟩)),(3,.int .i64 s79)] c∧Sym w0 M I I_ [pto b6 (.cells #[.int .i64 a0.N,.slice p1 a0.Items.length c2] 37 (0,0))] w) (fun c w ho hs=>⟨I,(.refl _),ho.sub ⟨r,r,trivial⟩,hs.pick (.c .z .n)⟩) ?_))))))
 rintro s79 next80 hd c w hst
 obtain ⟨I81,hl82,hok,hsym⟩:=hst
 replace R3:=R3.mono hl82
 refine Cod.at hok hsym (.seq (.sr (.ks 1 r (.fa un37 r sz25 r (o:=1) r r r (.load1 ia25 r .z r r r (.len un25 r r r r (.ks 1 r (.nilS [16,3,1] r r (.condP r hd (fun hb84 hd=>?_) fun hb84 hd=>?_)))))))))
 · refine .skipS [3,1] r r (.seq (.block (.seq (.dr [0,1,2,3,4,5,6,7,8,9,10,11,12,13,14,15,16,17,18,19,20,21,22,23,24,25,26,27,28,29,30,31,32,33,34,35,36,37] 38 (.g r r r (fun _=>.fa un37 r sz25 r (o:=1) r r r .mk) (.g r r r (fun _=>.load1 ia25 r .z r r r .mk) (.fk 1 r ?_)))))))
   obtain ⟨h85,x86,hx87,hd⟩:=hd
   obtain ⟨b88,o89,cs90,e91,hC92,hr93⟩:=R3.2 _ _ hx87
   cases hr93
   refine .g r r r (fun _=>.ixa un25 sz72 r e91 r h85 (idx_lt hx87 h85) r r .mk) (.g r r r (fun _=>.fa un72 r sz3 r (o:=o89+s79.toNat*2) r r r .mk) (.g r r r (fun _=>.ld1 (j:=0) ia3 hC92 r r r r r .mk) (.fk 2 r ?_)))
   refine splitP hd (fun hb94 hd=>?_) fun hb94 hd=>?_
   · rw [hb94]
     exact .fk 30 r (.e2 38 (.nilS [56,3,1] r r (.condKT r r (.sr (.ks 1 r (.nilS [2] r r (.drop .z (.ret (pret results59 (.t r .n) hl82 ⟨false,r,hd⟩)))))))))
   rw [hb94]
   refine .g r r r (fun _=>.gyes r r r (.fa un37 r sz25 r (o:=1) r r r .mk)) (.g r r r (fun _=>.gyes r r r (.load1 ia25 r .z r r r .mk)) (.fk 1 r ?_))
   obtain ⟨h95,x96,hx97,hd⟩:=hd
   obtain ⟨b98,o99,cs100,e101,hC102,hr103⟩:=R3.2 _ _ hx97
   cases hr103
   refine .g r r r (fun _=>.gyes r r r (.ixa un25 sz72 r e101 r h95 (idx_lt hx97 h95) r r .mk)) (.g r r r (fun _=>.gyes r r r (.fa un72 r sz3 r (o:=o99+s79.toNat*2) r r r .mk)) (.g r r r (fun _=>.gyes r r r (.ld1 (j:=0) ia3 hC102 r r r r r .mk)) (.g r r r (fun _=>.gyes r r r (.fa un37 r sz3 r (o:=0) r r r .mk)) (.g r r r (fun _=>.gyes r r r (.load1 ia3 r .z r r r .mk)) (.fk 3 r ?_)))))
   refine splitP hd (fun hb104 hd=>?_) fun hb104 hd=>?_
   · rw [hb104]
     exact .fk 19 r (.e2 38 (.nilS [56,3,1] r r (.condKT r r (.sr (.ks 1 r (.nilS [2] r r (.drop .z (.ret (pret results59 (.t r .n) hl82 ⟨false,r,hd⟩)))))))))
   rw [hb104]
   refine .fk 3 r ?_
   refine splitP hd (fun hb105 hd=>?_) fun hb105 hd=>?_
   · rw [hb105]
     refine .g r r r (fun _=>.gyes r r r (.fa un37 r sz25 r (o:=1) r r r .mk)) (.g r r r (fun _=>.gyes r r r (.load1 ia25 r .z r r r .mk)) (.fk 1 r ?_))
     obtain ⟨h106,x107,hx108,hd⟩:=hd
     obtain ⟨b109,o110,cs111,e112,hC113,hr114⟩:=R3.2 _ _ hx108
     cases hr114
     refine .g r r r (fun _=>.gyes r r r (.ixa un25 sz72 r e112 r h106 (idx_lt hx108 h106) r r .mk)) (.g r r r (fun _=>.gyes r r r (.fa un72 r sz3 r (o:=o110+s79.toNat*2) r r r .mk)) (.g r r r (fun _=>.gyes r r r (.ld1 (j:=0) ia3 hC113 r r r r r .mk)) (.g r r r (fun _=>.gyes r r r (.fa un37 r sz25 r (o:=1) r r r .mk)) (.g r r r (fun _=>.gyes r r r (.load1 ia25 r .z r r r .mk)) (.fk 2 r ?_)))))
     obtain ⟨h115,x116,hx117,hd⟩:=hd
     obtain ⟨b118,o119,cs120,e121,hC122,hr123⟩:=R3.2 _ _ hx117
     cases hr123
     refine .g r r r (fun _=>.gyes r r r (.ixa un25 sz72 r e121 r h115 (idx_lt hx117 h115) r r .mk)) (.g r r r (fun _=>.gyes r r r (.fa un72 r sz3 r (o:=o119+(w64 (s79 - 1)).toNat*2) r r r .mk)) (.g r r r (fun _=>.gyes r r r (.ld1 (j:=0) ia3 hC122 r r r r r .mk)) (.fk 3 r (.e2 38 (.nilS [56,3,1] r r (.condP r hd (fun hb124 hd=>?_) fun hb124 hd=>?_))))))
     · exact .sr (.ks 1 r (.nilS [2] r r (.drop .z (.ret (pret results59 (.t r .n) hl82 ⟨false,r,hd⟩)))))
     exact .skipS [3,1] r r (.region (.ks 3 r (.nil' fun c w ho hs=>⟨(w64 (s79+1)),hd,I81,hl82,ho.sub ⟨r,r,trivial⟩,hs.pick (.c .z .n)⟩)))
   rw [hb105]
   exact .fk 16 r (.e2 38 (.nilS [56,3,1] r r (.condKF r r (.skipS [3,1] r r (.region (.ks 3 r (.nil' fun c w ho hs=>⟨(w64 (s79+1)),hd,I81,hl82,ho.sub ⟨r,r,trivial⟩,hs.pick (.c .z .n)⟩)))))))
 exact .exitS [] r r (.drop .z (.sr (.ks 1 r (.nilS [2] r r (.ret (pret results59 (.t r .n) hl82 ⟨true,r,hd⟩))))))
theorem W_ref09_Sure {I:IH} {a0:Vec} {p1:Option Addr} {c2:Nat} {Q:Vec→Prop} (R3:RepSl eItem I p1 c2 a0.Items) (hd:ref09_Sure a0 Q) :
  PFun prog 53 [.agg #[.int .i64 a0.N,.slice p1 a0.Items.length c2]] I (o8_ Q):=by
 refine Fun.enter func53 r ntmps53 r (.c .n) fun w0 M=>?_
 refine .sr (.boxA r r r fun b11=>?_)
 refine .allocA zv37 r r fun b13=>?_
 refine .nilS [2,1] r r (.seq (.sr (.loadW ia37 sz37 r (.s .z) r r r ?_)))
 have hw16:=W_ref09_Right (I:=I) R3 hd
 refine .callP call59 r hw16 r r fun v17 hv18=>?_
 obtain ⟨r15,rfl,hd⟩:=hv18
 refine .nilS [4,2,1] r r (.condP r hd (fun hb19 hd=>?_) fun hb19 hd=>?_)
 · exact .sr (.loadW ia37 sz37 r (.s .z) r r r (.storeA sz37 r r .z (.t (.t .nil)) r r (.nilS [2] r r (.drop (.s .z) (.ret (pret results53 (.w ia37 sz37 r .z r .n) (.refl _) ⟨a0,_,_,r,R3,hd⟩))))))
 exact .skipS [2] r r (.drop (.s .z) (.sr (.build zv37 un37 BI37 .n (by exact trivial) r r (.storeA sz37 r r .z (.t (.t .nil)) r r (.nilS [2] r r (.ret (pret results53 (.w ia37 sz37 r .z r .n) (.refl _) ⟨({ N:=0,Items:=([]:List Item) }:Vec),_,_,r,(.nil _ _ _),hd⟩)))))))
theorem W_ref09_Part {I:IH} {a0:Vec} {a1:Int} {a2:Int} {p1:Option Addr} {c2:Nat} {Q:Vec→Prop} (R3:RepSl eItem I p1 c2 a0.Items) (hd:ref09_Part a0 a1 a2 Q) :
  PFun prog 54 [.agg #[.int .i64 a0.N,.slice p1 a0.Items.length c2],.int .i64 a1,.int .i64 a2] I (o8_ Q):=by
 refine Fun.enter func54 r ntmps54 r (.c (.c (.c .n))) fun w0 M=>?_
 refine .sr (.boxA r r r fun b11=>?_)
 refine .allocA zv37 r r fun b13=>?_
 refine .nilS [6,3,2,1] r r (.sr (.loadW ia37 sz37 r (.s .z) r r r ?_))
 have hw34:=W_ref09_Sure (I:=I) R3 hd
 refine .call call53 r hw34 r r fun v29 I26 hl27 hv28=>?_
 obtain ⟨r25,p31,c32,rfl,R33,hd⟩:=hv28
 replace R3:=R3.mono hl27
 refine .storeA sz37 r r (.s .z) (.t (.t .nil)) r r (.nilS [6,3,2,1] r r (.seq (.dr [0,1,2,3,4,5,6] 7 (.fk 1 r (.g r r r (fun _=>.maxI r r r r .mk) (.fk 1 r (.g r r r (fun _=>.fa un37 r sz3 r (o:=0) r r r .mk) (.g r r r (fun _=>.load1 ia3 r (.s .z) r r r .mk) (.g r r r (fun _=>.minI r r r r .mk) ?_)))))))))
 refine .w [5,4,3,2] [[],[]] [1,0,1] r (by kernel_rfl) (by kernel_rfl) (by kernel_rfl) (r) (.inl r) fun ex=>?_
 refine .sub (E':=[(11,_),(12,_),(2,_),(3,_),(6,_)]) ⟨r,r,r,r,r,trivial⟩ (.ks 1 r (.so 2 r r r (.cg r r r r (fun _=>.minI r r r r .mk) (.cg r r r r (fun _=>.load1 ia3 r (.s .z) r r r .mk) (.cg r r r r (fun _=>.fa un37 r sz3 r (o:=0) r r r .mk) (.ck 1 r r trivial)))) (.e2 7 (.ks 1 r (.nilS [2,6,3,1] r r (.seq (.sr (.ks 3 r (.nilS [19,2,6,3,1] r r ?_)))))))))
 refine .condP r hd (fun hb36 hd=>?_) fun hb36 hd=>?_
 · exact .sr (.build zv37 un37 BI37 .n (by exact trivial) r r (.storeA sz37 r r .z (.t (.t .nil)) r r (.nilS [6] r r (.drop (.s .z) (.ret (pret results54 (.w ia37 sz37 r .z r .n) hl27 ⟨({ N:=0,Items:=([]:List Item) }:Vec),_,_,r,(.nil _ _ _),hd⟩))))))
 refine .skipS [2,6,3,1] r r (.sr (.ks 3 r (.build zv37 un37 BI37 (.c r r r (.t .nil) .n) (by exact ⟨⟨_,_,r,r,r⟩,trivial⟩) r r (.allocA zv37 r r fun b39=>?_))))
 refine .storeA sz37 r r .z (.t (.t .nil)) r r (.nilS [7,2,6,3,1] r r (.seq (.sr (.ks 1 r (.nilS [8,7,2,6,3,1] r r (.block (.own0 eItem 72 (.loop hd (fun (s:(List Item)×Int) c w=>match s with | (s236,s240)=>∃ I_ p237 c238,IH.le I26 I_∧Ok ⟨71,[],none⟩ [(1,.int .i64 (if 0 > a1 then 0 else a1)),(2,.int .i64 (if r25.N<a2 then r25.N else a2)),(3,.pointer (some ⟨b11,0,none⟩)),(6,.pointer (some ⟨b13,0,none⟩)),(7,.pointer (some ⟨b39,0,none⟩)),(8,.int .i64 s240)] c∧Sym w0 M I I_ [pto b11 (.cells #[.int .i64 r25.N,.slice p31 r25.Items.length c32] 37 (0,0)),pto b13 (.cells #[.int .i64 0,.slice none 0 0] 37 (0,0)),pto b39 (.cells #[.int .i64 (w64 ((if r25.N<a2 then r25.N else a2) - (if 0 > a1 then 0 else a1))),.slice p237 s236.length c238] 37 (0,0)),OwnSl eItem 72 p237 c238 s236] w) (fun c w ho hs=>⟨I26,_,_,(.refl _),ho.sub ⟨r,r,r,r,r,r,trivial⟩,hs.pick (.c (.s (.s (.s .z))) (.c (.s (.s .z)) (.c (.s .z) (.c .z .n))))⟩) ?_))))))))
 rintro ⟨s236,s240⟩ next242 hd c w hst
 obtain ⟨I243,p237,c238,hl244,hok,hsym⟩:=hst
 have le245:=IH.le.trans hl27 hl244
 replace R33:=R33.mono hl244
 refine Cod.at hok hsym (.seq (.sr (.ks 1 r (.fa un37 r sz25 r (o:=1) r r r (.load1 ia25 r .z r r r (.len un25 r r r r (.ks 1 r (.nilS [29,8,7,6,3,2,1] r r (.condP r hd (fun hb247 hd=>?_) fun hb247 hd=>?_)))))))))
 · refine .skipS [8,7,6,3,2,1] r r (.seq (.block (.seq ?_)))
   refine Cod.joinQ (σ:=Bool) hd (fun (s286:Bool) c w=>∃ I_,IH.le I243 I_∧Ok ⟨71,[],none⟩ [(1,.int .i64 (if 0 > a1 then 0 else a1)),(2,.int .i64 (if r25.N<a2 then r25.N else a2)),(3,.pointer (some ⟨b11,0,none⟩)),(6,.pointer (some ⟨b13,0,none⟩)),(7,.pointer (some ⟨b39,0,none⟩)),(8,.int .i64 s240),(49,.bool s286)] c∧Sym w0 M I I_ [pto b11 (.cells #[.int .i64 r25.N,.slice p31 r25.Items.length c32] 37 (0,0)),pto b13 (.cells #[.int .i64 0,.slice none 0 0] 37 (0,0)),pto b39 (.cells #[.int .i64 (w64 ((if r25.N<a2 then r25.N else a2) - (if 0 > a1 then 0 else a1))),.slice p237 s236.length c238] 37 (0,0)),OwnSl eItem 72 p237 c238 s236] w) (fun k287 hd=>?_) ?_
   · skip
     refine .region (.fa un37 r sz25 r (o:=1) r r r (.load1 ia25 r .z r r r (.ks 1 r ?_)))
     obtain ⟨h288,x289,hx290,hd⟩:=hd
     obtain ⟨b291,o292,cs293,e294,hC295,hr296⟩:=R33.2 _ _ hx290
     cases hr296
     refine .ixa un25 sz72 r e294 r h288 (idx_lt hx290 h288) r r (.fa un72 r sz3 r (o:=o292+s240.toNat*2) r r r (.ld1 (j:=0) ia3 hC295 r r r r r (.ks 3 r ?_)))
     refine splitP hd (fun hb297 hd=>?_) fun hb297 hd=>?_
     · rw [hb297]
       refine .gyes r r r (.fa un37 r sz25 r (o:=1) r r r (.gyes r r r (.load1 ia25 r .z r r r (.ks 1 r ?_))))
       obtain ⟨h298,x299,hx300,hd⟩:=hd
       obtain ⟨b301,o302,cs303,e304,hC305,hr306⟩:=R33.2 _ _ hx300
       cases hr306
       exact .gyes r r r (.ixa un25 sz72 r e304 r h298 (idx_lt hx300 h298) r r (.gyes r r r (.fa un72 r sz3 r (o:=o302+s240.toNat*2) r r r (.gyes r r r (.ld1 (j:=0) ia3 hC305 r r r r r (.ks 3 r (.nil' fun c w ho hs=>⟨(decide (x299.At<(if r25.N<a2 then r25.N else a2))),hd,I243,(.refl _),ho.sub ⟨r,r,r,r,r,r,r,trivial⟩,hs.pick (.c .z (.c .z (.c .z (.c .z .n))))⟩)))))))
     rw [hb297]
     exact .ks 9 r (.nil' fun c w ho hs=>⟨false,hd,I243,(.refl _),ho.sub ⟨r,r,r,r,r,r,r,trivial⟩,hs.pick (.c .z (.c .z (.c .z (.c .z .n))))⟩)
   rintro s286 hd c w hst
   obtain ⟨I307,hl308,hok,hsym⟩:=hst
   have le309:=IH.le.trans le245 hl308
   have le310:=IH.le.trans hl244 hl308
   replace R33:=R33.mono hl308
   refine Cod.at hok hsym (.condP r hd (fun hb311 hd=>?_) fun hb311 hd=>?_)
   · refine .ownF (.s (.s (.s .z))) fun hne312=>?_
     refine .dr [0,1,2,3,4,5,6,7,8,9,10,11,12,13,14,15,16,17,18] 19 (.g r r r (fun _=>.fa un37 r sz25 r (o:=1) r r r .mk) (.g r r r (fun _=>.load1 ia25 r (.s (.s .z)) r r r .mk) (.g r r r (fun _=>.fa un37 r sz25 r (o:=1) r r r .mk) (.g r r r (fun _=>.load1 ia25 r .z r r r .mk) (.fk 1 r ?_)))))
     obtain ⟨h313,x314,hx315,hd⟩:=hd
     obtain ⟨b316,o317,cs318,e319,hC320,hr321⟩:=R33.2 _ _ hx315
     cases hr321
     refine .g r r r (fun _=>.ixa un25 sz72 r e319 r h313 (idx_lt hx315 h313) r r .mk) (.g r r r (fun _=>.fa un72 r sz3 r (o:=o317+s240.toNat*2) r r r .mk) (.g r r r (fun _=>.ld1 (j:=0) ia3 hC320 r r r r r .mk) (.fk 2 r (.g r r r (fun _=>.fa un37 r sz25 r (o:=1) r r r .mk) (.g r r r (fun _=>.load1 ia25 r .z r r r .mk) (.fk 1 r ?_))))))
     obtain ⟨h322,x323,hx324,hd⟩:=hd
     obtain ⟨b325,o326,cs327,e328,hC329,hr330⟩:=R33.2 _ _ hx324
     cases hr330
     refine .g r r r (fun _=>.ixa un25 sz72 r e328 r h322 (idx_lt hx324 h322) r r .mk) (.g r r r (fun _=>.fa un72 r sz2 r (o:=o326+s240.toNat*2+1) r r r .mk) (.g r r r (fun _=>.ld1 (j:=1) ia2 hC329 r r r r r .mk) (.g r r r (fun _=>.build zv72 un72 BI72 (.c r r r (.t .nil) (.c r r r (.s (.t .nil)) .n)) (by exact ⟨⟨_,_,r,r,r⟩,⟨⟨_,_,r,r,r⟩,trivial⟩⟩) r r .mk) (.ww r fun ex=>?_))))
     refine .buildSlice 1 un25 sz72 zv72 r r (.c r r r .n) r r fun b331=>?_
     refine .so 5 r r r (.cg r r r r (fun _=>.load1 ia25 r (.s (.s (.s .z))) r r r .mk) (.cg r r r r (fun _=>.fa un37 r sz25 r (o:=1) r r r .mk) trivial)) (.ww r fun ex=>?_)
     obtain ⟨hl333,hd⟩:=hd
     refine .append (ys:=[({ At:=w64 (x314.At - (if 0 > a1 then 0 else a1)),Val:=x323.Val }:Item)]) 16 (.s (.s (.s (.s .z)))) un25 un25 IN72 r r r r r r r r r (.box .z (.one r) r) hl333 r r fun p334 c335=>?_
     exact .so 5 r r r trivial (.e2 19 (.fa un37 r sz25 r (o:=1) r r r (.store1 sz25 r r (.s (.s (.s (.s .z)))) (.s (.t .nil)) r (.nilS [8,7,6,3,2,1] r r (.drop (.s .z) (.region (.ks 3 r (.nil' fun c w ho hs=>⟨((s236++([({ At:=w64 (x314.At - (if 0 > a1 then 0 else a1)),Val:=x323.Val }:Item)])),w64 (s240+1)),hd,I307,_,_,le310,ho.sub ⟨r,r,r,r,r,r,trivial⟩,hs.pick (.c (.s .z) (.c (.s .z) (.c (.s .z) (.c .z .n))))⟩))))))))
   exact .skipS [8,7,6,3,2,1] r r (.region (.ks 3 r (.nil' fun c w ho hs=>⟨(s236,w64 (s240+1)),hd,I307,_,_,le310,ho.sub ⟨r,r,r,r,r,r,trivial⟩,hs.pick (.c .z (.c .z (.c .z (.c .z .n))))⟩)))
 refine .exitS [7,6] r r (.drop .z (.sr (.loadW ia37 sz37 r (.s .z) r r r (.storeA sz37 r r .z (.t (.t .nil)) r r (.nilS [6] r r (.drop (.s .z) (.pub (.s .z) fun I337 hl338 R339=>?_)))))))
 have le340:=IH.le.trans le245 hl338
 have le341:=IH.le.trans hl244 hl338
 exact .ret (pret results54 (.w ia37 sz37 r .z r .n) le340 ⟨({ N:=w64 ((if r25.N<a2 then r25.N else a2) - (if 0 > a1 then 0 else a1)),Items:=s236 }:Vec),_,_,r,R339,hd⟩)
theorem W_ref18_Piece {I:IH} {a0:Vec} {a1:Int} {a2:Int} {p1:Option Addr} {c2:Nat} {Q:Vec→Prop} (R3:RepSl eItem I p1 c2 a0.Items) (hd:ref18_Piece a0 a1 a2 Q) :
  PFun prog 16 [.agg #[.int .i64 a0.N,.slice p1 a0.Items.length c2],.int .i64 a1,.int .i64 a2] I (o8_ Q):=by
 refine Fun.enter func16 r ntmps16 r (.c (.c (.c .n))) fun w0 M=>?_
 refine .sr (.boxA r r r fun b11=>?_)
 refine .allocA zv37 r r fun b13=>?_
 refine .nilS [6,3,2,1] r r (.sr (.loadW ia37 sz37 r (.s .z) r r r ?_))
 have hw34:=W_ref09_Sure (I:=I) R3 hd
 refine .call call53 r hw34 r r fun v29 I26 hl27 hv28=>?_
 obtain ⟨r25,p31,c32,rfl,R33,hd⟩:=hv28
 replace R3:=R3.mono hl27
 refine .storeA sz37 r r (.s .z) (.t (.t .nil)) r r (.nilS [6,3,2,1] r r (.seq (.sr (.ks 2 r ?_))))
 have hw43:=W_ref18_sides (I:=I26) hd
 refine .callP call46 r hw43 r r fun v44 hv45=>?_
 obtain ⟨r42,rfl,hd⟩:=hv45
 refine .ks 2 r ?_
 refine splitP hd (fun hb46 hd=>?_) fun hb46 hd=>?_
 · rw [hb46]
   exact .ks 8 r (.nilS [21,6,3,2,1] r r (.condKT r r (.sr (.build zv37 un37 BI37 .n (by exact trivial) r r (.storeA sz37 r r .z (.t (.t .nil)) r r (.nilS [6] r r (.drop (.s .z) (.ret (pret results16 (.w ia37 sz37 r .z r .n) hl27 ⟨({ N:=0,Items:=([]:List Item) }:Vec),_,_,r,(.nil _ _ _),hd⟩)))))))))
 rw [hb46]
 refine .ks 4 r ?_
 refine splitP hd (fun hb47 hd=>?_) fun hb47 hd=>?_
 · rw [hb47]
   exact .ks 4 r (.nilS [21,6,3,2,1] r r (.condKT r r (.sr (.build zv37 un37 BI37 .n (by exact trivial) r r (.storeA sz37 r r .z (.t (.t .nil)) r r (.nilS [6] r r (.drop (.s .z) (.ret (pret results16 (.w ia37 sz37 r .z r .n) hl27 ⟨({ N:=0,Items:=([]:List Item) }:Vec),_,_,r,(.nil _ _ _),hd⟩)))))))))
 rw [hb47]
 refine .ks 4 r (.nilS [21,6,3,2,1] r r (.condP r hd (fun hb48 hd=>?_) fun hb48 hd=>?_))
 · exact .sr (.build zv37 un37 BI37 .n (by exact trivial) r r (.storeA sz37 r r .z (.t (.t .nil)) r r (.nilS [6] r r (.drop (.s .z) (.ret (pret results16 (.w ia37 sz37 r .z r .n) hl27 ⟨({ N:=0,Items:=([]:List Item) }:Vec),_,_,r,(.nil _ _ _),hd⟩))))))
 refine .skipS [6,3,2,1] r r (.seq (.dr [0,1,2,3,4,6,7,8,9,10,5,11,12] 13 (.g r r r (fun _=>.loadW ia37 sz37 r (.s .z) r r r .mk) (.g r r r (fun _=>.fa un37 r sz3 r (o:=0) r r r .mk) (.g r r r (fun _=>.load1 ia3 r (.s .z) r r r .mk) (.fk 2 r (.g r r r (fun _=>.fa un37 r sz3 r (o:=0) r r r .mk) (.g r r r (fun _=>.load1 ia3 r (.s .z) r r r .mk) (.fk 3 r ?_)))))))))
 refine .ww r fun ex=>?_
 have hw50:=W_ref17_Low (I:=I26) hd
 refine .callP call48 r hw50 r r fun v51 hv52=>?_
 obtain ⟨r49,rfl,hd⟩:=hv52
 refine .so 2 r r r (.ck 3 r r (.cg r r r r (fun _=>.load1 ia3 r (.s .z) r r r .mk) (.cg r r r r (fun _=>.fa un37 r sz3 r (o:=0) r r r .mk) (.cg r r r r (fun _=>.loadW ia37 sz37 r (.s .z) r r r .mk) trivial)))) (.ww r fun ex=>?_)
 have hw54:=W_ref17_Low (I:=I26) hd
 refine .callP call48 r hw54 r r fun v55 hv56=>?_
 obtain ⟨r53,rfl,hd⟩:=hv56
 refine .so 2 r r r (.cg r r r r (fun _=>.loadW ia37 sz37 r (.s .z) r r r .mk) trivial) (.ww r fun ex=>?_)
 have hw66:=W_ref09_Part (I:=I26) R33 hd
 refine .call call54 r hw66 r r fun v61 I58 hl59 hv60=>?_
 obtain ⟨r57,p63,c64,rfl,R65,hd⟩:=hv60
 have le67:=IH.le.trans hl27 hl59
 replace R33:=R33.mono hl59
 exact .so 2 r r r trivial (.e2 13 (.storeA sz37 r r .z (.t (.t .nil)) r r (.nilS [6] r r (.drop (.s .z) (.ret (pret results16 (.w ia37 sz37 r .z r .n) le67 ⟨r57,_,_,r,R65,hd⟩))))))
theorem W_ref18_within {I:IH} {a0:Int} {Q:Bool→Prop}  (hd:ref18_within a0 Q) :
  PFun prog 58 [.int .i64 a0] I (fun _=>o1_ Q):=by
 refine Fun.enter func58 r ntmps58 r (.c .n) fun w0 M=>?_
 refine .sr (.ks 1 r (.nilS [0] r r (.sr (.ks 3 r ?_))))
 refine splitP hd (fun hb1 hd=>?_) fun hb1 hd=>?_
 · rw [hb1]
   exact .ks 4 r (.nilS [2] r r (.ret (pret results58 (.t r .n) (.refl _) ⟨(decide (a0≤4096)),r,hd⟩)))
 rw [hb1]
 exact .ks 4 r (.nilS [2] r r (.ret (pret results58 (.t r .n) (.refl _) ⟨false,r,hd⟩)))
theorem W_ref17_Size {I:IH} {a0:Int} {a1:Int} {a2:Int} {Q:Int→Prop}  (hd:ref17_Size a0 a1 a2 Q) :
  PFun prog 60 [.int .i64 a0,.int .i64 a1,.int .i64 a2] I (fun _=>o0_ Q):=by
 refine Fun.enter func60 r ntmps60 r (.c (.c (.c .n))) fun w0 M=>?_
 refine .sr (.ks 1 r (.nilS [2,1,0] r r (.seq (.sr (.ks 2 r ?_)))))
 have hw9:=W_ref17_may (I:=I) hd
 refine .callP call97 r hw9 r r fun v10 hv11=>?_
 obtain ⟨r8,rfl,hd⟩:=hv11
 refine .ks 2 r ?_
 refine splitP hd (fun hb12 hd=>?_) fun hb12 hd=>?_
 · rw [hb12]
   exact .ks 8 r (.nilS [19,2,1,0] r r (.condKT r r (.sr (.ks 1 r (.nilS [6] r r (.ret (pret results60 (.t r .n) (.refl _) ⟨0,r,hd⟩)))))))
 rw [hb12]
 refine .ks 4 r ?_
 refine splitP hd (fun hb13 hd=>?_) fun hb13 hd=>?_
 · rw [hb13]
   exact .ks 4 r (.nilS [19,2,1,0] r r (.condKT r r (.sr (.ks 1 r (.nilS [6] r r (.ret (pret results60 (.t r .n) (.refl _) ⟨0,r,hd⟩)))))))
 rw [hb13]
 refine .ks 4 r (.nilS [19,2,1,0] r r (.condP r hd (fun hb14 hd=>?_) fun hb14 hd=>?_))
 · exact .sr (.ks 1 r (.nilS [6] r r (.ret (pret results60 (.t r .n) (.refl _) ⟨0,r,hd⟩))))
 refine .skipS [2,1,0] r r (.sr (.ks 4 r ?_))
 have hw16:=W_ref17_Low (I:=I) hd
 refine .callP call48 r hw16 r r fun v17 hv18=>?_
 obtain ⟨r15,rfl,hd⟩:=hv18
 refine .ks 3 r ?_
 have hw20:=W_ref17_Low (I:=I) hd
 refine .callP call48 r hw20 r r fun v21 hv22=>?_
 obtain ⟨r19,rfl,hd⟩:=hv22
 exact .ks 2 r (.nilS [6] r r (.ret (pret results60 (.t r .n) (.refl _) ⟨(w64 (r15 - r19)),r,hd⟩)))
theorem W_ref18_bounds {I:IH} {a0:Int} {a1:Int} {a2:Int} {a3:Int} {a4:Int} {Q:(Int×Int)→Prop}  (hd:ref18_bounds a0 a1 a2 a3 a4 Q) :
  PFun prog 61 [.int .i64 a0,.int .i64 a1,.int .i64 a2,.int .i64 a3,.int .i64 a4] I (fun _=>o10_ Q):=by
 refine Fun.enter func61 r ntmps61 r (.c (.c (.c (.c (.c .n))))) fun w0 M=>?_
 refine .sr (.ks 2 r (.nilS [4,3,2,1,0] r r (.sr (.ks 3 r ?_))))
 have hw10:=W_ref17_Low (I:=I) hd
 refine .callP call48 r hw10 r r fun v11 hv12=>?_
 obtain ⟨r9,rfl,hd⟩:=hv12
 refine .ks 3 r ?_
 have hw14:=W_ref17_Low (I:=I) hd
 refine .callP call48 r hw14 r r fun v15 hv16=>?_
 obtain ⟨r13,rfl,hd⟩:=hv16
 refine .maxI r r r r (.ks 1 r (.nilS [12,4,3,2,1,0] r r (.sr (.ks 4 r ?_))))
 have hw26:=W_ref17_Low (I:=I) hd
 refine .callP call48 r hw26 r r fun v27 hv28=>?_
 obtain ⟨r25,rfl,hd⟩:=hv28
 refine .ks 4 r ?_
 have hw30:=W_ref17_Low (I:=I) hd
 refine .callP call48 r hw30 r r fun v31 hv32=>?_
 obtain ⟨r29,rfl,hd⟩:=hv32
 refine .minI r r r r (.ks 1 r (.nilS [13,12] r r (.seq (.sr (.ks 3 r (.nilS [36,13,12] r r (.condP r hd (fun hb33 hd=>?_) fun hb33 hd=>?_)))))))
 · exact .region (.ks 2 r (.nilS [13,12] r r (.sr (.ks 4 r (.nilS [11,10] r r (.ret (pret results61 (.t r (.t r .n)) (.refl _) ⟨((if r13 > r9 then r13 else r9),(if r13 > r9 then r13 else r9)),r,hd⟩)))))))
 exact .skipS [13,12] r r (.sr (.ks 4 r (.nilS [11,10] r r (.ret (pret results61 (.t r (.t r .n)) (.refl _) ⟨((if r13 > r9 then r13 else r9),(if r29<r25 then r29 else r25)),r,hd⟩)))))
theorem W_ref18_Slice {I:IH} {a0:Vec} {a1:Int} {a2:Int} {a3:Int} {a4:Int} {a5:Int} {p1:Option Addr} {c2:Nat} {Q:Vec→Prop} (R3:RepSl eItem I p1 c2 a0.Items) (hd:ref18_Slice a0 a1 a2 a3 a4 a5 Q) :
  PFun prog 18 [.agg #[.int .i64 a0.N,.slice p1 a0.Items.length c2],.int .i64 a1,.int .i64 a2,.int .i64 a3,.int .i64 a4,.int .i64 a5] I (o8_ Q):=by
 refine Fun.enter func18 r ntmps18 r (.c (.c (.c (.c (.c (.c .n)))))) fun w0 M=>?_
 refine .sr (.boxA r r r fun b11=>?_)
 refine .allocA zv37 r r fun b13=>?_
 refine .nilS [12,6,5,4,3,2,1] r r (.seq (.seq (.dr [0,1,2,3,4,5,6,7,8,9,10,11,12,13,14,15,16,17,18,19,20,21,22,23,24,25,26,27,28,29,30,31,32,33,34,35,36,37,38,39,40] 41 (.fk 1 r (.ww r fun ex=>?_)))))
 have hw40:=W_ref18_within (I:=I) hd
 refine .callP call58 r hw40 r r fun v41 hv42=>?_
 obtain ⟨r39,rfl,hd⟩:=hv42
 refine .so 2 r r r trivial (.fk 2 r ?_)
 refine splitP hd (fun hb43 hd=>?_) fun hb43 hd=>?_
 · refine .g r r r (fun _=>.gno r r hb43 r r .mk) (.g r r r (fun _=>.gno r r hb43 r r .mk) (.g r r r (fun _=>.gno r r hb43 r r .mk) (.g r r r (fun _=>.gno r r hb43 r r .mk) (.g r r r (fun _=>.pickT r hb43 r r r .mk) (.fk 32 r (.e2 41 (.nilS [56,12,6,5,4,3,2,1] r r (.condKT r r (.sr ?_)))))))))
   exact .build zv37 un37 BI37 .n (by exact trivial) r r (.storeA sz37 r r .z (.t (.t .nil)) r r (.nilS [12] r r (.drop (.s .z) (.ret (pret results18 (.w ia37 sz37 r .z r .n) (.refl _) ⟨({ N:=0,Items:=([]:List Item) }:Vec),_,_,r,(.nil _ _ _),hd⟩)))))
 refine .g r r r (fun _=>.gyes r r hb43 (.move r r r .mk)) (.g r r r (fun _=>.gyes r r hb43 (.move r r r .mk)) (.ww r fun ex=>?_))
 have hw45:=W_ref18_sides (I:=I) hd
 refine .gyes r r hb43 (.callP call46 r hw45 r r fun v46 hv47=>?_)
 obtain ⟨r44,rfl,hd⟩:=hv47
 refine .so 2 r r r trivial (.g r r r (fun _=>.gyes r r hb43 (.not r r r .mk)) (.g r r r (fun _=>.pickF r hb43 r r r .mk) (.fk 1 r ?_)))
 refine splitP hd (fun hb48 hd=>?_) fun hb48 hd=>?_
 · refine .g r r r (fun _=>.gno r r hb48 r r .mk) (.g r r r (fun _=>.gno r r hb48 r r .mk) (.g r r r (fun _=>.pickT r hb48 r r r .mk) (.fk 28 r (.e2 41 (.nilS [56,12,6,5,4,3,2,1] r r (.condKT r r (.sr (.build zv37 un37 BI37 .n (by exact trivial) r r (.storeA sz37 r r .z (.t (.t .nil)) r r ?_)))))))))
   exact .nilS [12] r r (.drop (.s .z) (.ret (pret results18 (.w ia37 sz37 r .z r .n) (.refl _) ⟨({ N:=0,Items:=([]:List Item) }:Vec),_,_,r,(.nil _ _ _),hd⟩)))
 refine .g r r r (fun _=>.gyes r r hb48 (.move r r r .mk)) (.g r r r (fun _=>.gyes r r hb48 (.lt r r r r .mk)) (.g r r r (fun _=>.pickF r hb48 r r r .mk) (.fk 1 r ?_)))
 refine splitP hd (fun hb49 hd=>?_) fun hb49 hd=>?_
 · refine .g r r r (fun _=>.gno r r hb49 r r .mk) (.g r r r (fun _=>.gno r r hb49 r r .mk) (.g r r r (fun _=>.gno r r hb49 r r .mk) (.g r r r (fun _=>.pickT r hb49 r r r .mk) (.fk 23 r (.e2 41 (.nilS [56,12,6,5,4,3,2,1] r r (.condKT r r (.sr (.build zv37 un37 BI37 .n (by exact trivial) r r ?_)))))))))
   exact .storeA sz37 r r .z (.t (.t .nil)) r r (.nilS [12] r r (.drop (.s .z) (.ret (pret results18 (.w ia37 sz37 r .z r .n) (.refl _) ⟨({ N:=0,Items:=([]:List Item) }:Vec),_,_,r,(.nil _ _ _),hd⟩))))
 refine .g r r r (fun _=>.gyes r r hb49 (.move r r r .mk)) (.g r r r (fun _=>.gyes r r hb49 (.move r r r .mk)) (.g r r r (fun _=>.gyes r r hb49 (.ge r r r r .mk)) (.g r r r (fun _=>.pickF r hb49 r r r .mk) (.fk 1 r ?_))))
 refine splitP hd (fun hb50 hd=>?_) fun hb50 hd=>?_
 · refine .g r r r (fun _=>.gno r r hb50 r r .mk) (.g r r r (fun _=>.gno r r hb50 r r .mk) (.g r r r (fun _=>.pickT r hb50 r r r .mk) (.fk 19 r (.e2 41 (.nilS [56,12,6,5,4,3,2,1] r r (.condKT r r (.sr (.build zv37 un37 BI37 .n (by exact trivial) r r (.storeA sz37 r r .z (.t (.t .nil)) r r ?_)))))))))
   exact .nilS [12] r r (.drop (.s .z) (.ret (pret results18 (.w ia37 sz37 r .z r .n) (.refl _) ⟨({ N:=0,Items:=([]:List Item) }:Vec),_,_,r,(.nil _ _ _),hd⟩)))
 refine .g r r r (fun _=>.gyes r r hb50 (.move r r r .mk)) (.g r r r (fun _=>.gyes r r hb50 (.lt r r r r .mk)) (.g r r r (fun _=>.pickF r hb50 r r r .mk) (.fk 1 r ?_)))
 refine splitP hd (fun hb51 hd=>?_) fun hb51 hd=>?_
 · refine .g r r r (fun _=>.gno r r hb51 r r .mk) (.g r r r (fun _=>.gno r r hb51 r r .mk) (.g r r r (fun _=>.gno r r hb51 r r .mk) (.g r r r (fun _=>.pickT r hb51 r r r .mk) (.fk 14 r (.e2 41 (.nilS [56,12,6,5,4,3,2,1] r r (.condKT r r (.sr (.build zv37 un37 BI37 .n (by exact trivial) r r ?_)))))))))
   exact .storeA sz37 r r .z (.t (.t .nil)) r r (.nilS [12] r r (.drop (.s .z) (.ret (pret results18 (.w ia37 sz37 r .z r .n) (.refl _) ⟨({ N:=0,Items:=([]:List Item) }:Vec),_,_,r,(.nil _ _ _),hd⟩))))
 refine .g r r r (fun _=>.gyes r r hb51 (.move r r r .mk)) (.g r r r (fun _=>.gyes r r hb51 (.move r r r .mk)) (.g r r r (fun _=>.gyes r r hb51 (.ge r r r r .mk)) (.g r r r (fun _=>.pickF r hb51 r r r .mk) (.fk 1 r ?_))))
 refine splitP hd (fun hb52 hd=>?_) fun hb52 hd=>?_
 · refine .g r r r (fun _=>.gno r r hb52 r r .mk) (.g r r r (fun _=>.gno r r hb52 r r .mk) (.g r r r (fun _=>.gno r r hb52 r r .mk) (.g r r r (fun _=>.pickT r hb52 r r r .mk) (.fk 9 r (.e2 41 (.nilS [56,12,6,5,4,3,2,1] r r (.condKT r r (.sr (.build zv37 un37 BI37 .n (by exact trivial) r r ?_)))))))))
   exact .storeA sz37 r r .z (.t (.t .nil)) r r (.nilS [12] r r (.drop (.s .z) (.ret (pret results18 (.w ia37 sz37 r .z r .n) (.refl _) ⟨({ N:=0,Items:=([]:List Item) }:Vec),_,_,r,(.nil _ _ _),hd⟩))))
 refine .g r r r (fun _=>.gyes r r hb52 (.loadW ia37 sz37 r (.s .z) r r r .mk)) (.ww r fun ex=>?_)
 have hw54:=W_ref09_Right (I:=I) R3 hd
 refine .gyes r r hb52 (.callP call59 r hw54 r r fun v55 hv56=>?_)
 obtain ⟨r53,rfl,hd⟩:=hv56
 refine .so 2 r r r trivial (.g r r r (fun _=>.gyes r r hb52 (.not r r r .mk)) (.g r r r (fun _=>.pickF r hb52 r r r .mk) (.fk 1 r ?_)))
 refine splitP hd (fun hb57 hd=>?_) fun hb57 hd=>?_
 · refine .g r r r (fun _=>.gno r r hb57 r r .mk) (.g r r r (fun _=>.gno r r hb57 r r .mk) (.g r r r (fun _=>.gno r r hb57 r r .mk) (.g r r r (fun _=>.gno r r hb57 r r .mk) (.g r r r (fun _=>.gno r r hb57 r r .mk) (.g r r r (fun _=>.gno r r hb57 r r .mk) (.g r r r (fun _=>.gno r r hb57 r r .mk) (.g r r r (fun _=>.pickT r hb57 r r r .mk) (.e2 41 (.nilS [56,12,6,5,4,3,2,1] r r ?_)))))))))
   exact .condKT r r (.sr (.build zv37 un37 BI37 .n (by exact trivial) r r (.storeA sz37 r r .z (.t (.t .nil)) r r (.nilS [12] r r (.drop (.s .z) (.ret (pret results18 (.w ia37 sz37 r .z r .n) (.refl _) ⟨({ N:=0,Items:=([]:List Item) }:Vec),_,_,r,(.nil _ _ _),hd⟩)))))))
 refine .g r r r (fun _=>.gyes r r hb57 (.fa un37 r sz3 r (o:=0) r r r .mk)) (.g r r r (fun _=>.gyes r r hb57 (.load1 ia3 r (.s .z) r r r .mk)) (.g r r r (fun _=>.gyes r r hb57 (.move r r r .mk)) (.g r r r (fun _=>.gyes r r hb57 (.move r r r .mk)) (.g r r r (fun _=>.gyes r r hb57 (.move r r r .mk)) (.ww r fun ex=>?_)))))
 have hw59:=W_ref17_Size (I:=I) hd
 refine .gyes r r hb57 (.callP call60 r hw59 r r fun v60 hv61=>?_)
 obtain ⟨r58,rfl,hd⟩:=hv61
 refine .so 2 r r r (.cg r r r r (fun _=>.gyes r r hb57 (.load1 ia3 r (.s .z) r r r .mk)) (.cg r r r r (fun _=>.gyes r r hb57 (.fa un37 r sz3 r (o:=0) r r r .mk)) trivial)) (.g r r r (fun _=>.gyes r r hb57 (.ne r r r r .mk)) (.g r r r (fun _=>.pickF r hb57 r r r .mk) (.e2 41 (.nilS [56,12,6,5,4,3,2,1] r r (.condP r hd (fun hb62 hd=>?_) fun hb62 hd=>?_)))))
 · exact .sr (.build zv37 un37 BI37 .n (by exact trivial) r r (.storeA sz37 r r .z (.t (.t .nil)) r r (.nilS [12] r r (.drop (.s .z) (.ret (pret results18 (.w ia37 sz37 r .z r .n) (.refl _) ⟨({ N:=0,Items:=([]:List Item) }:Vec),_,_,r,(.nil _ _ _),hd⟩))))))
 refine .skipS [12,6,5,4,3,2,1] r r (.sr (.ks 5 r ?_))
 have hw68:=W_ref18_bounds (I:=I) hd
 refine .callP call61 r hw68 r r fun v69 hv70=>?_
 obtain ⟨r67,rfl,hd⟩:=hv70
 refine .ks 5 r (.nilS [14,13,12,6,4,2,1] r r (.sr (.ks 3 r ?_)))
 have hw76:=W_ref17_Low (I:=I) hd
 refine .callP call48 r hw76 r r fun v77 hv78=>?_
 obtain ⟨r75,rfl,hd⟩:=hv78
 refine .ks 1 r (.nilS [15,14,13,12,6] r r (.sr (.loadW ia37 sz37 r (.s .z) r r r (.ks 6 r ?_))))
 have hw88:=W_ref09_Part (I:=I) R3 hd
 refine .call call54 r hw88 r r fun v83 I80 hl81 hv82=>?_
 obtain ⟨r79,p85,c86,rfl,R87,hd⟩:=hv82
 replace R3:=R3.mono hl81
 exact .storeA sz37 r r .z (.t (.t .nil)) r r (.nilS [12] r r (.drop (.s .z) (.ret (pret results18 (.w ia37 sz37 r .z r .n) hl81 ⟨r79,_,_,r,R87,hd⟩))))
theorem W_law18_BlockCuts {I:IH} {a0:Law13_Task} {a1:Int} {a2:Law18_Grid} {p1:Option Addr} {c2:Nat} {p4:Option Addr} {c5:Nat} {p7:Option Addr} {c8:Nat} {p10:Option Addr} {c11:Nat} {Q:Bool→Prop} (R3:RepSl eTriple I p1 c2 a0.L) (R6:RepSl eItem I p4 c5 a0.X) (R9:RepSl eItem I p7 c8 a0.Y) (R12:RepSl eU64 I p10 c11 a0.F) (hd:law18_BlockCuts a0 a1 a2 Q) :
  PFun prog 3 [.agg #[.int .i64 a0.Ring,.int .u8 a0.Size.1,.int .u8 a0.Size.2,.slice p1 a0.L.length c2,.slice p4 a0.X.length c5,.slice p7 a0.Y.length c8,.slice p10 a0.F.length c11,.bool a0.Others],.int .i64 a1,.agg (encLaw18_Grid a2).toArray] I (fun _=>o1_ Q):=by
 refine Fun.enter func3 r ntmps3 r (.c (.c (.c .n))) fun w0 M=>?_
 refine .sr (.boxA r r r fun b17=>?_)
 refine .boxA r r r fun b19=>?_
 refine .ks 1 r (.nilS [5,3,1] r r (.seq (.dr [0,2,3,4,6,7,1,5,999,8] 9 (.g r r r (fun _=>.loadW isAgg28 sizeOf28 r (.s .z) r r r .mk) (.g r r r (fun _=>.loadW isAgg28 sizeOf28 r (.s .z) r r r .mk) (.g r r r (fun _=>.fa un28 r sz25 r (o:=4) r r r .mk) (.g r r r (fun _=>.load1 ia25 r (.s .z) r r r .mk) (.a (fun b=>.pointer (some ⟨b,0,none⟩)) (fun b=>pto b (.cells #[.int .i64 0,.int .i64 0,.slice none 0 0,.slice none 0 0,.slice none 0 0] 34 (0,0))) r r r r (fun _ L hL ex=>.allocA zv34 r r fun b=>.mk (val:=fun b=>.pointer (some ⟨b,0,none⟩)) (atom:=fun b=>pto b (.cells #[.int .i64 0,.int .i64 0,.slice none 0 0,.slice none 0 0,.slice none 0 0] 34 (0,0))) hL b) (.a (fun b=>.pointer (some ⟨b,0,none⟩)) (fun b=>pto b (.cells #[.int .i64 0,.slice none 0 0] 37 (0,0))) r r r r (fun _ L hL ex=>.allocA zv37 r r fun b=>.mk (val:=fun b=>.pointer (some ⟨b,0,none⟩)) (atom:=fun b=>pto b (.cells #[.int .i64 0,.slice none 0 0] 37 (0,0))) hL b) ?_)))))))))
 refine .ww r fun ex=>?_
 have hw69:=W_law13_Task_Matrix (I:=I) R3 R6 R9 R12 hd
 refine .call call8 r hw69 r r fun v58 I55 hl56 hv57=>?_
 obtain ⟨r54,p60,c61,p63,c64,p66,c67,rfl,R62,R65,R68,hd⟩:=hv57
 replace R3:=R3.mono hl56
 replace R6:=R6.mono hl56
 replace R9:=R9.mono hl56
 replace R12:=R12.mono hl56
 refine .so 2 r r r (.cg r r r r (fun _=>.load1 ia25 r (.s .z) r r r .mk) (.cg r r r r (fun _=>.fa un28 r sz25 r (o:=4) r r r .mk) (.cg r r r r (fun _=>.loadW isAgg28 sizeOf28 r (.s .z) r r r .mk) trivial))) (.ww r fun ex=>?_)
 have hw79:=W_law13_Task_Vector (I:=I55) R3 R6 R9 R12 R6 hd
 refine .call call9 r hw79 r r fun v74 I71 hl72 hv73=>?_
 obtain ⟨r70,p76,c77,rfl,R78,hd⟩:=hv73
 have le80:=IH.le.trans hl56 hl72
 replace R3:=R3.mono hl72
 replace R6:=R6.mono hl72
 replace R9:=R9.mono hl72
 replace R12:=R12.mono hl72
 replace R62:=R62.mono hl72
 replace R65:=R65.mono hl72
 replace R68:=R68.mono hl72
 refine .so 2 r r r trivial (.b r fun b81 b82=>DrawD.nop (.ww r fun ex=>?_))
 refine .storeA sz34 r r (.s (.s (.s .z))) (.t (.t (.t (.t (.t .nil))))) r r (.sn 4 r r r trivial (.e2 9 (.storeA sz37 r r (.s (.s .z)) (.t (.t .nil)) r r (.nilS [7,8,5,1] r r (.drop (.s .z) (.seq (.dr [0,1,2,3,4,5,6,7,8,9,10,12,13,14,15,16,17,18,19,20,11,21,22,23,24,25,26,27,28,29,31,32,33,34,35,30,36,37,38,39,40,41,42,43,44,45,46,47,48,49,51,52,53,54,55,56,57,58,59,60,50,61,62,63] 64 (.ww r fun ex=>?_))))))))
 have hw84:=W_law18_live (I:=I71) hd
 refine .callP call10 r hw84 r r fun v85 hv86=>?_
 obtain ⟨r83,rfl,hd⟩:=hv86
 refine .so 3 r r r trivial (.fk 1 r ?_)
 refine splitP hd (fun hb87 hd=>?_) fun hb87 hd=>?_
 · refine .g r r r (fun _=>.gyes r r hb87 (.loadW ia34 sz34 r (.s (.s .z)) r r r .mk)) (.g r r r (fun _=>.gyes r r hb87 (.fa un30 r sz3 r (o:=0) r r r .mk)) (.g r r r (fun _=>.gyes r r hb87 (.load1 ia3 r .z r r r .mk)) (.g r r r (fun _=>.gyes r r hb87 (.fa un30 r sz3 r (o:=1) r r r .mk)) (.g r r r (fun _=>.gyes r r hb87 (.load1 ia3 r .z r r r .mk)) (.g r r r (fun _=>.gyes r r hb87 (.fa un30 r sz3 r (o:=2) r r r .mk)) (.g r r r (fun _=>.gyes r r hb87 (.load1 ia3 r .z r r r .mk)) (.g r r r (fun _=>.gyes r r hb87 (.fa un30 r sz3 r (o:=3) r r r .mk)) (.g r r r (fun _=>.gyes r r hb87 (.load1 ia3 r .z r r r .mk)) (.g r r r (fun _=>.gyes r r hb87 (.loadW ia34 sz34 r (.s (.s .z)) r r r .mk)) ?_)))))))))
   refine .g r r r (fun _=>.gyes r r hb87 (.fa un30 r sz3 r (o:=0) r r r .mk)) (.g r r r (fun _=>.gyes r r hb87 (.load1 ia3 r .z r r r .mk)) (.g r r r (fun _=>.gyes r r hb87 (.fa un30 r sz3 r (o:=1) r r r .mk)) (.g r r r (fun _=>.gyes r r hb87 (.load1 ia3 r .z r r r .mk)) (.g r r r (fun _=>.gyes r r hb87 (.fa un30 r sz3 r (o:=2) r r r .mk)) (.g r r r (fun _=>.gyes r r hb87 (.load1 ia3 r .z r r r .mk)) (.g r r r (fun _=>.gyes r r hb87 (.fa un30 r sz3 r (o:=3) r r r .mk)) (.g r r r (fun _=>.gyes r r hb87 (.load1 ia3 r .z r r r .mk)) (.ww r fun ex=>?_))))))))
   have hw103:=W_block_Cut (I:=I71) R62 R65 R68 hd
   refine .gyes r r hb87 (.call call12 r hw103 r r fun v92 I89 hl90 hv91=>?_)
   obtain ⟨r88,p94,c95,p97,c98,p100,c101,rfl,R96,R99,R102,hd⟩:=hv91
   have le104:=IH.le.trans le80 hl90
   replace R62:=R62.mono hl90
   replace R65:=R65.mono hl90
   replace R68:=R68.mono hl90
   replace R78:=R78.mono hl90
   refine .so 3 r r r (.cg r r r r (fun _=>.gyes r r hb87 (.load1 ia3 r .z r r r .mk)) (.cg r r r r (fun _=>.gyes r r hb87 (.fa un30 r sz3 r (o:=3) r r r .mk)) (.cg r r r r (fun _=>.gyes r r hb87 (.load1 ia3 r .z r r r .mk)) (.cg r r r r (fun _=>.gyes r r hb87 (.fa un30 r sz3 r (o:=2) r r r .mk)) (.cg r r r r (fun _=>.gyes r r hb87 (.load1 ia3 r .z r r r .mk)) (.cg r r r r (fun _=>.gyes r r hb87 (.fa un30 r sz3 r (o:=1) r r r .mk)) (.cg r r r r (fun _=>.gyes r r hb87 (.load1 ia3 r .z r r r .mk)) (.cg r r r r (fun _=>.gyes r r hb87 (.fa un30 r sz3 r (o:=0) r r r .mk)) (.cg r r r r (fun _=>.gyes r r hb87 (.loadW ia34 sz34 r (.s (.s .z)) r r r .mk)) trivial))))))))) (.ww r fun ex=>?_)
   have hw120:=W_ref18_Cut (I:=I89) R62 R65 R68 hd
   refine .gyes r r hb87 (.call call13 r hw120 r r fun v109 I106 hl107 hv108=>?_)
   obtain ⟨r105,p111,c112,p114,c115,p117,c118,rfl,R113,R116,R119,hd⟩:=hv108
   have le121:=IH.le.trans le104 hl107
   replace R62:=R62.mono hl107
   replace R65:=R65.mono hl107
   replace R68:=R68.mono hl107
   replace R78:=R78.mono hl107
   replace R96:=R96.mono hl107
   replace R99:=R99.mono hl107
   replace R102:=R102.mono hl107
   refine .so 3 r r r trivial (.ww r fun ex=>?_)
   have hw123:=W_ref07_Same (I:=I106) R96 R99 R102 R113 R116 R119 hd
   refine .gyes r r hb87 (.callP call11 r hw123 r r fun v124 hv125=>?_)
   obtain ⟨r122,rfl,hd⟩:=hv125
   refine .so 3 r r r trivial (.g r r r (fun _=>.pickT r hb87 r r r .mk) (.fk 1 r ?_))
   refine splitP hd (fun hb126 hd=>?_) fun hb126 hd=>?_
   · refine .g r r r (fun _=>.gyes r r hb126 (.loadW ia37 sz37 r (.s .z) r r r .mk)) (.g r r r (fun _=>.gyes r r hb126 (.fa un30 r sz3 r (o:=0) r r r .mk)) (.g r r r (fun _=>.gyes r r hb126 (.load1 ia3 r .z r r r .mk)) (.g r r r (fun _=>.gyes r r hb126 (.fa un30 r sz3 r (o:=2) r r r .mk)) (.g r r r (fun _=>.gyes r r hb126 (.load1 ia3 r .z r r r .mk)) (.g r r r (fun _=>.gyes r r hb126 (.loadW ia37 sz37 r (.s .z) r r r .mk)) (.g r r r (fun _=>.gyes r r hb126 (.fa un30 r sz3 r (o:=0) r r r .mk)) (.g r r r (fun _=>.gyes r r hb126 (.load1 ia3 r .z r r r .mk)) (.g r r r (fun _=>.gyes r r hb126 (.fa un30 r sz3 r (o:=2) r r r .mk)) (.g r r r (fun _=>.gyes r r hb126 (.load1 ia3 r .z r r r .mk)) ?_)))))))))
     refine .ww r fun ex=>?_
     have hw136:=W_block_Piece (I:=I106) R78 hd
     refine .gyes r r hb126 (.call call15 r hw136 r r fun v131 I128 hl129 hv130=>?_)
     obtain ⟨r127,p133,c134,rfl,R135,hd⟩:=hv130
     have le137:=IH.le.trans le121 hl129
     replace R62:=R62.mono hl129
     replace R65:=R65.mono hl129
     replace R68:=R68.mono hl129
     replace R78:=R78.mono hl129
     replace R96:=R96.mono hl129
     replace R99:=R99.mono hl129
     replace R102:=R102.mono hl129
     replace R113:=R113.mono hl129
     replace R116:=R116.mono hl129
     replace R119:=R119.mono hl129
     refine .so 3 r r r (.cg r r r r (fun _=>.gyes r r hb126 (.load1 ia3 r .z r r r .mk)) (.cg r r r r (fun _=>.gyes r r hb126 (.fa un30 r sz3 r (o:=2) r r r .mk)) (.cg r r r r (fun _=>.gyes r r hb126 (.load1 ia3 r .z r r r .mk)) (.cg r r r r (fun _=>.gyes r r hb126 (.fa un30 r sz3 r (o:=0) r r r .mk)) (.cg r r r r (fun _=>.gyes r r hb126 (.loadW ia37 sz37 r (.s .z) r r r .mk)) trivial))))) (.ww r fun ex=>?_)
     have hw147:=W_ref18_Piece (I:=I128) R78 hd
     refine .gyes r r hb126 (.call call16 r hw147 r r fun v142 I139 hl140 hv141=>?_)
     obtain ⟨r138,p144,c145,rfl,R146,hd⟩:=hv141
     have le148:=IH.le.trans le137 hl140
     replace R62:=R62.mono hl140
     replace R65:=R65.mono hl140
     replace R68:=R68.mono hl140
     replace R78:=R78.mono hl140
     replace R96:=R96.mono hl140
     replace R99:=R99.mono hl140
     replace R102:=R102.mono hl140
     replace R113:=R113.mono hl140
     replace R116:=R116.mono hl140
     replace R119:=R119.mono hl140
     replace R135:=R135.mono hl140
     refine .so 3 r r r trivial (.ww r fun ex=>?_)
     have hw150:=W_ref09_Same (I:=I139) R135 R146 hd
     refine .gyes r r hb126 (.callP call14 r hw150 r r fun v151 hv152=>?_)
     obtain ⟨r149,rfl,hd⟩:=hv152
     refine .so 3 r r r trivial (.g r r r (fun _=>.pickT r hb126 r r r .mk) (.fk 1 r ?_))
     refine splitP hd (fun hb153 hd=>?_) fun hb153 hd=>?_
     · refine .g r r r (fun _=>.gyes r r hb153 (.loadW ia37 sz37 r (.s .z) r r r .mk)) (.g r r r (fun _=>.gyes r r hb153 (.move r r r .mk)) (.g r r r (fun _=>.gyes r r hb153 (.fa un30 r sz3 r (o:=0) r r r .mk)) (.g r r r (fun _=>.gyes r r hb153 (.load1 ia3 r .z r r r .mk)) (.g r r r (fun _=>.gyes r r hb153 (.fa un30 r sz3 r (o:=1) r r r .mk)) (.g r r r (fun _=>.gyes r r hb153 (.load1 ia3 r .z r r r .mk)) (.g r r r (fun _=>.gyes r r hb153 (.fa un30 r sz3 r (o:=2) r r r .mk)) (.g r r r (fun _=>.gyes r r hb153 (.load1 ia3 r .z r r r .mk)) (.g r r r (fun _=>.gyes r r hb153 (.fa un30 r sz3 r (o:=3) r r r .mk)) (.g r r r (fun _=>.gyes r r hb153 (.load1 ia3 r .z r r r .mk)) ?_)))))))))
       refine .g r r r (fun _=>.gyes r r hb153 (.loadW ia37 sz37 r (.s .z) r r r .mk)) (.g r r r (fun _=>.gyes r r hb153 (.move r r r .mk)) (.g r r r (fun _=>.gyes r r hb153 (.fa un30 r sz3 r (o:=0) r r r .mk)) (.g r r r (fun _=>.gyes r r hb153 (.load1 ia3 r .z r r r .mk)) (.g r r r (fun _=>.gyes r r hb153 (.fa un30 r sz3 r (o:=1) r r r .mk)) (.g r r r (fun _=>.gyes r r hb153 (.load1 ia3 r .z r r r .mk)) (.g r r r (fun _=>.gyes r r hb153 (.fa un30 r sz3 r (o:=2) r r r .mk)) (.g r r r (fun _=>.gyes r r hb153 (.load1 ia3 r .z r r r .mk)) (.g r r r (fun _=>.gyes r r hb153 (.fa un30 r sz3 r (o:=3) r r r .mk)) (.g r r r (fun _=>.gyes r r hb153 (.load1 ia3 r .z r r r .mk)) ?_)))))))))
       refine .ww r fun ex=>?_
       have hw163:=W_block_Slice (I:=I139) R78 hd
       refine .gyes r r hb153 (.call call17 r hw163 r r fun v158 I155 hl156 hv157=>?_)
       obtain ⟨r154,p160,c161,rfl,R162,hd⟩:=hv157
       have le164:=IH.le.trans le148 hl156
       replace R62:=R62.mono hl156
       replace R65:=R65.mono hl156
       replace R68:=R68.mono hl156
       replace R78:=R78.mono hl156
       replace R96:=R96.mono hl156
       replace R99:=R99.mono hl156
       replace R102:=R102.mono hl156
       replace R113:=R113.mono hl156
       replace R116:=R116.mono hl156
       replace R119:=R119.mono hl156
       replace R135:=R135.mono hl156
       replace R146:=R146.mono hl156
       refine .so 3 r r r (.cg r r r r (fun _=>.gyes r r hb153 (.load1 ia3 r .z r r r .mk)) (.cg r r r r (fun _=>.gyes r r hb153 (.fa un30 r sz3 r (o:=3) r r r .mk)) (.cg r r r r (fun _=>.gyes r r hb153 (.load1 ia3 r .z r r r .mk)) (.cg r r r r (fun _=>.gyes r r hb153 (.fa un30 r sz3 r (o:=2) r r r .mk)) (.cg r r r r (fun _=>.gyes r r hb153 (.load1 ia3 r .z r r r .mk)) (.cg r r r r (fun _=>.gyes r r hb153 (.fa un30 r sz3 r (o:=1) r r r .mk)) (.cg r r r r (fun _=>.gyes r r hb153 (.load1 ia3 r .z r r r .mk)) (.cg r r r r (fun _=>.gyes r r hb153 (.fa un30 r sz3 r (o:=0) r r r .mk)) (.cg r r r r (fun _=>.gyes r r hb153 (.move r r r .mk)) (.cg r r r r (fun _=>.gyes r r hb153 (.loadW ia37 sz37 r (.s .z) r r r .mk)) trivial)))))))))) (.ww r fun ex=>?_)
       have hw174:=W_ref18_Slice (I:=I155) R78 hd
       refine .gyes r r hb153 (.call call18 r hw174 r r fun v169 I166 hl167 hv168=>?_)
       obtain ⟨r165,p171,c172,rfl,R173,hd⟩:=hv168
       have le175:=IH.le.trans le164 hl167
       replace R62:=R62.mono hl167
       replace R65:=R65.mono hl167
       replace R68:=R68.mono hl167
       replace R78:=R78.mono hl167
       replace R96:=R96.mono hl167
       replace R99:=R99.mono hl167
       replace R102:=R102.mono hl167
       replace R113:=R113.mono hl167
       replace R116:=R116.mono hl167
       replace R119:=R119.mono hl167
       replace R135:=R135.mono hl167
       replace R146:=R146.mono hl167
       replace R162:=R162.mono hl167
       refine .so 3 r r r trivial (.ww r fun ex=>?_)
       have hw177:=W_ref09_Same (I:=I166) R162 R173 hd
       refine .gyes r r hb153 (.callP call14 r hw177 r r fun v178 hv179=>?_)
       obtain ⟨r176,rfl,hd⟩:=hv179
       exact .so 3 r r r trivial (.g r r r (fun _=>.pickT r hb153 r r r .mk) (.e2 64 (.ks 1 r (.nilS [6] r r (.drop .z (.drop .z (.drop .z (.ret (pret results3 (.t r .n) le175 ⟨r176,r,hd⟩)))))))))
     refine .g r r r (fun _=>.gno r r hb153 r r .mk) (.g r r r (fun _=>.gno r r hb153 r r .mk) (.g r r r (fun _=>.gno r r hb153 r r .mk) (.g r r r (fun _=>.gno r r hb153 r r .mk) (.g r r r (fun _=>.gno r r hb153 r r .mk) (.g r r r (fun _=>.gno r r hb153 r r .mk) (.g r r r (fun _=>.gno r r hb153 r r .mk) (.g r r r (fun _=>.gno r r hb153 r r .mk) (.g r r r (fun _=>.gno r r hb153 r r .mk) (.g r r r (fun _=>.gno r r hb153 r r .mk) ?_)))))))))
     refine .g r r r (fun _=>.gno r r hb153 r r .mk) (.g r r r (fun _=>.gno r r hb153 r r .mk) (.g r r r (fun _=>.gno r r hb153 r r .mk) (.g r r r (fun _=>.gno r r hb153 r r .mk) (.g r r r (fun _=>.gno r r hb153 r r .mk) (.g r r r (fun _=>.gno r r hb153 r r .mk) (.g r r r (fun _=>.gno r r hb153 r r .mk) (.g r r r (fun _=>.gno r r hb153 r r .mk) (.g r r r (fun _=>.gno r r hb153 r r .mk) (.g r r r (fun _=>.gno r r hb153 r r .mk) ?_)))))))))
     refine .g r r r (fun _=>.gno r r hb153 r r .mk) (.g r r r (fun _=>.gno r r hb153 r r .mk) (.g r r r (fun _=>.gno r r hb153 r r .mk) (.g r r r (fun _=>.pickF r hb153 r r r .mk) (.e2 64 (.ks 1 r (.nilS [6] r r (.drop .z (.drop .z (.drop .z ?_)))))))))
     exact .ret (pret results3 (.t r .n) le148 ⟨false,r,hd⟩)
   refine .g r r r (fun _=>.gno r r hb126 r r .mk) (.g r r r (fun _=>.gno r r hb126 r r .mk) (.g r r r (fun _=>.gno r r hb126 r r .mk) (.g r r r (fun _=>.gno r r hb126 r r .mk) (.g r r r (fun _=>.gno r r hb126 r r .mk) (.g r r r (fun _=>.gno r r hb126 r r .mk) (.g r r r (fun _=>.gno r r hb126 r r .mk) (.g r r r (fun _=>.gno r r hb126 r r .mk) (.g r r r (fun _=>.gno r r hb126 r r .mk) (.g r r r (fun _=>.gno r r hb126 r r .mk) ?_)))))))))
   refine .g r r r (fun _=>.gno r r hb126 r r .mk) (.g r r r (fun _=>.gno r r hb126 r r .mk) (.g r r r (fun _=>.gno r r hb126 r r .mk) (.g r r r (fun _=>.pickF r hb126 r r r .mk) (.fk 25 r (.e2 64 (.ks 1 r (.nilS [6] r r (.drop .z (.drop .z ?_)))))))))
   exact .drop .z (.ret (pret results3 (.t r .n) le121 ⟨false,r,hd⟩))
 refine .g r r r (fun _=>.gno r r hb87 r r .mk) (.g r r r (fun _=>.gno r r hb87 r r .mk) (.g r r r (fun _=>.gno r r hb87 r r .mk) (.g r r r (fun _=>.gno r r hb87 r r .mk) (.g r r r (fun _=>.gno r r hb87 r r .mk) (.g r r r (fun _=>.gno r r hb87 r r .mk) (.g r r r (fun _=>.gno r r hb87 r r .mk) (.g r r r (fun _=>.gno r r hb87 r r .mk) (.g r r r (fun _=>.gno r r hb87 r r .mk) (.g r r r (fun _=>.gno r r hb87 r r .mk) ?_)))))))))
 refine .g r r r (fun _=>.gno r r hb87 r r .mk) (.g r r r (fun _=>.gno r r hb87 r r .mk) (.g r r r (fun _=>.gno r r hb87 r r .mk) (.g r r r (fun _=>.gno r r hb87 r r .mk) (.g r r r (fun _=>.gno r r hb87 r r .mk) (.g r r r (fun _=>.gno r r hb87 r r .mk) (.g r r r (fun _=>.gno r r hb87 r r .mk) (.g r r r (fun _=>.gno r r hb87 r r .mk) (.g r r r (fun _=>.gno r r hb87 r r .mk) (.g r r r (fun _=>.gno r r hb87 r r .mk) ?_)))))))))
 exact .g r r r (fun _=>.gno r r hb87 r r .mk) (.g r r r (fun _=>.pickF r hb87 r r r .mk) (.fk 40 r (.e2 64 (.ks 1 r (.nilS [6] r r (.drop .z (.drop .z (.drop .z (.ret (pret results3 (.t r .n) le80 ⟨false,r,hd⟩))))))))))
end Go.Proofs.YtpackolbhcmomaaGreat
