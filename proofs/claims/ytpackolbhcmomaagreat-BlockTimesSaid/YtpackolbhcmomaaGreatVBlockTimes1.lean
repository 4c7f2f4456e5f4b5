/- The walks (printed by a program of ours). -/
import Derived.Test.YtpackolbhcmomaaGreatV2
namespace Go.Proofs.YtpackolbhcmomaaGreat
open Go Go.Fw
set_option linter.unusedVariables false
set_option linter.unusedSimpArgs false
set_option maxRecDepth 8000
set_option maxHeartbeats 1000000
open Tryz
theorem W_law07_Size {I:IH} {a0:Int} {Q:Int→Prop}  (hd:law07_Size a0 Q) :
  PFun prog 36 [.int .u8 a0] I (fun _=>o0_ Q):=by
 refine Fun.enter func36 r ntmps36 r (.c .n) fun w0 M=>?_
 exact .sr (.ks 1 r (.nilS [0] r r (.sr (.ks 1 r (.conv underlying5 un3 r r r (.rem r r (by decide) r r (.ks 1 r (.nilS [2] r r (.ret (pret results36 (.t r .n) (.refl _) ⟨((w64 (a0)).tmod 40),r,hd⟩))))))))))
theorem W_law07_Few {I:IH} {a0:List Triple} {p1:Option Addr} {c2:Nat} {Q:(List Triple)→Prop} (R3:RepSl eTriple I p1 c2 a0) (hd:law07_Few a0 Q) :
  PFun prog 86 [.slice p1 a0.length c2] I (fun I_ v=>∃ r p4 c5,v=.slice p4 r.length c5∧RepSl eTriple I_ p4 c5 r∧Q r):=by
 refine Fun.enter func86 r ntmps86 r (.c .n) fun w0 M=>?_
 refine .sr (.ks 1 r (.nilS [0] r r (.seq (.sr (.ks 1 r (.len un24 r r r r (.ks 1 r (.nilS [5,0] r r (.condP r hd (fun hb7 hd=>?_) fun hb7 hd=>?_)))))))))
 · refine .region (.ks 1 r ?_)
   obtain ⟨h8,h9,h10,hd⟩:=hd
   have h16:Int.toNat 0≤Int.toNat 60:=by omega
   have h17:Int.toNat 60≤a0.length:=by omega
   obtain ⟨p11,c12,e14,e15,R13⟩:=RepSl.sliceW R3 (Int.toNat 0) (Int.toNat 60) c2 h16 h17 (.inl rfl)
   exact .sliceW (L:=Int.toNat 0) (H:=Int.toNat 60) (cm:=c2) un24 sz75 r r R3.1 r r r (.inl ⟨r,r⟩) (.inr ⟨_,_,r,(by omega),r⟩) (.inl r) h16 h17 r e14 e15 r r (.ks 1 r (.nilS [0] r r (.sr (.ks 2 r (.nilS [2] r r (.ret (pret results86 (.t r .n) (.refl _) ⟨((a0.take (Int.toNat 60)).drop (Int.toNat 0)),_,_,r,R13,hd⟩)))))))
 exact .skipS [0] r r (.sr (.ks 2 r (.nilS [2] r r (.ret (pret results86 (.t r .n) (.refl _) ⟨a0,_,_,r,R3,hd⟩)))))
theorem W_law07_Some {I:IH} {a0:Int×Int} {a1:List Triple} {p1:Option Addr} {c2:Nat} {Q:Rows→Prop} (R3:RepSl eTriple I p1 c2 a1) (hd:law07_Some a0 a1 Q) :
  PFun prog 32 [.agg #[.int .u8 a0.1,.int .u8 a0.2],.slice p1 a1.length c2] I (o5_ Q):=by
 refine Fun.enter func32 r ntmps32 r (.c (.c .n)) fun w0 M=>?_
 refine .sr (.boxA r r r fun b17=>?_)
 refine .allocA zv34 r r fun b19=>?_
 refine .nilS [4,2,1] r r (.seq (.dr [0,1,3,4,2,5,6] 7 (.g r r r (fun _=>.ixArr (i:=0) underlying23 sizeOf5 r r (by decide) (o:=0) r r r .mk) (.g r r r (fun _=>.load1 isAgg5 r (.s .z) r r r .mk) (.g r r r (fun _=>.ixArr (i:=1) underlying23 sizeOf5 r r (by decide) (o:=1) r r r .mk) (.g r r r (fun _=>.load1 isAgg5 r (.s .z) r r r .mk) (.ww r fun ex=>?_)))))))
 have hw30:=W_law07_Size (I:=I) hd
 refine .callP call36 r hw30 r r fun v31 hv32=>?_
 obtain ⟨r29,rfl,hd⟩:=hv32
 refine .so 2 r r r (.cg r r r r (fun _=>.load1 isAgg5 r (.s .z) r r r .mk) (.cg r r r r (fun _=>.ixArr (i:=1) underlying23 sizeOf5 r r (by decide) (o:=1) r r r .mk) trivial)) (.ww r fun ex=>?_)
 have hw34:=W_law07_Size (I:=I) hd
 refine .callP call36 r hw34 r r fun v35 hv36=>?_
 obtain ⟨r33,rfl,hd⟩:=hv36
 refine .so 2 r r r trivial (.fk 1 r (.e2 7 (.ks 1 r (.nilS [6,5,4,1] r r (.drop (.s .z) (.sr (.ks 1 r (.nilS [7,6,5,4,1] r r (.sr ?_)))))))))
 refine .ks 1 r ?_
 have hw56:=W_law07_Few (I:=I) R3 hd
 refine .call call86 r hw56 r r fun v51 I48 hl49 hv50=>?_
 obtain ⟨r47,p53,c54,rfl,R55,hd⟩:=hv50
 replace R3:=R3.mono hl49
 refine .ks 1 r (.nilS [1,7,6,5,4] r r (.seq (.sr (.ks 1 r (.nilS [8,1,7,6,5,4] r r (.block (.own0 eTriple 75 (.loop hd (fun (s:(List Triple)×Int) c w=>match s with | (s304,s308)=>∃ I_ p305 c306,IH.le I48 I_∧Ok ⟨73,[],none⟩ [(1,.slice p53 r47.length c54),(4,.pointer (some ⟨b19,0,none⟩)),(5,.int .i64 r29),(6,.int .i64 r33),(7,.slice p305 s304.length c306),(8,.int .i64 s308)] c∧Sym w0 M I I_ [pto b19 (.cells #[.int .i64 0,.int .i64 0,.slice none 0 0,.slice none 0 0,.slice none 0 0] 34 (0,0)),OwnSl eTriple 75 p305 c306 s304] w) (fun c w ho hs=>⟨I48,_,_,(.refl _),ho.sub ⟨r,r,r,r,r,r,trivial⟩,hs.pick (.c (.s .z) (.c .z .n))⟩) ?_))))))))
 rintro ⟨s304,s308⟩ next310 hd c w hst
 obtain ⟨I311,p305,c306,hl312,hok,hsym⟩:=hst
 have le313:=IH.le.trans hl49 hl312
 replace R55:=R55.mono hl312
 refine Cod.at hok hsym (.seq (.sr (.ks 2 r (.len un24 r r r r (.ks 1 r (.nilS [23,8,7,6,5,4,1] r r (.condP r hd (fun hb315 hd=>?_) fun hb315 hd=>?_)))))))
 · refine .skipS [8,7,6,5,4,1] r r (.seq (.block (.sr (.ks 2 r ?_))))
   obtain ⟨h327,x328,hx329,hd⟩:=hd
   obtain ⟨b330,o331,cs332,e333,hC334,hr335⟩:=R55.2 _ _ hx329
   cases hr335
   refine .ixa un24 sz75 r e333 r h327 (idx_lt hx329 h327) r r (.ldW isAgg75 sz75 hC334 r r r r (.allocA zv75 r r fun b336=>?_))
   refine .storeA sz75 r r .z (.t (.t (.t .nil))) r r (.nilS [9,8,7,6,5,4,1] r r (.seq (.sr (.fa un75 r sz3 r (o:=0) r r r (.load1 ia3 r .z r r r (.ks 2 r ?_))))))
   refine splitP hd (fun hb342 hd=>?_) fun hb342 hd=>?_
   · rw [hb342]
     exact .ks 12 r (.nilS [45,9,8,7,6,5,4,1] r r (.condKT r r (.exitS [8,7,6,5,4,1] r r (.drop .z (.region (.ks 3 r (.nil' fun c w ho hs=>⟨(s304,w64 (s308+1)),hd,I311,_,_,hl312,ho.sub ⟨r,r,r,r,r,r,trivial⟩,hs.pick (.c .z (.c .z .n))⟩)))))))
   rw [hb342]
   refine .gyes r r r (.fa un75 r sz3 r (o:=1) r r r (.gyes r r r (.load1 ia3 r .z r r r (.ks 3 r ?_))))
   refine splitP hd (fun hb343 hd=>?_) fun hb343 hd=>?_
   · rw [hb343]
     exact .ks 7 r (.nilS [45,9,8,7,6,5,4,1] r r (.condKT r r (.exitS [8,7,6,5,4,1] r r (.drop .z (.region (.ks 3 r (.nil' fun c w ho hs=>⟨(s304,w64 (s308+1)),hd,I311,_,_,hl312,ho.sub ⟨r,r,r,r,r,r,trivial⟩,hs.pick (.c .z (.c .z .n))⟩)))))))
   rw [hb343]
   refine .ks 4 r ?_
   refine splitP hd (fun hb344 hd=>?_) fun hb344 hd=>?_
   · rw [hb344]
     exact .ks 3 r (.nilS [45,9,8,7,6,5,4,1] r r (.condKT r r (.exitS [8,7,6,5,4,1] r r (.drop .z (.region (.ks 3 r (.nil' fun c w ho hs=>⟨(s304,w64 (s308+1)),hd,I311,_,_,hl312,ho.sub ⟨r,r,r,r,r,r,trivial⟩,hs.pick (.c .z (.c .z .n))⟩)))))))
   rw [hb344]
   refine .ks 3 r (.nilS [45,9,8,7,6,5,4,1] r r (.condP r hd (fun hb345 hd=>?_) fun hb345 hd=>?_))
   · exact .exitS [8,7,6,5,4,1] r r (.drop .z (.region (.ks 3 r (.nil' fun c w ho hs=>⟨(s304,w64 (s308+1)),hd,I311,_,_,hl312,ho.sub ⟨r,r,r,r,r,r,trivial⟩,hs.pick (.c .z (.c .z .n))⟩))))
   refine .skipS [9,8,7,6,5,4,1] r r (.sr (.fa un75 r sz3 r (o:=0) r r r (.load1 ia3 r .z r r r (.ks 1 r ?_))))
   obtain ⟨hz347,hd⟩:=hd
   refine .rem r r hz347 r r (.fa un75 r sz3 r (o:=0) r r r (.store1 sz3 r r .z (.t .nil) r (.nilS [9,8,7,6,5,4,1] r r (.sr (.fa un75 r sz3 r (o:=1) r r r (.load1 ia3 r .z r r r (.ks 1 r ?_)))))))
   obtain ⟨hz348,hd⟩:=hd
   refine .rem r r hz348 r r (.fa un75 r sz3 r (o:=1) r r r (.store1 sz3 r r .z (.s (.t .nil)) r (.nilS [9,8,7,6,5,4,1] r r (.region (.ks 1 r (.loadW isAgg75 sz75 r .z r r r (.buildSlice 1 un24 sz75 zv75 r r (.c r r r .n) r r fun b349=>?_)))))))
   obtain ⟨hl351,hd⟩:=hd
   refine .append (ys:=[({ Row:=x328.Row.tmod r29,Col:=x328.Col.tmod r33,Val:=x328.Val }:Triple)]) 24 (.s (.s (.s .z))) un24 un24 IN75 r r r r r r r r r (.box .z (.one r) r) hl351 r r fun p352 c353=>?_
   exact .ks 1 r (.nilS [7,8,6,5,4,1] r r (.drop (.s .z) (.drop (.s .z) (.region (.ks 3 r (.nil' fun c w ho hs=>⟨((s304++([({ Row:=x328.Row.tmod r29,Col:=x328.Col.tmod r33,Val:=x328.Val }:Triple)])),w64 (s308+1)),hd,I311,_,_,hl312,ho.sub ⟨r,r,r,r,r,r,trivial⟩,hs.pick (.c (.s .z) (.c .z .n))⟩))))))
 refine .exitS [7,6,5,4] r r (.sr (.ks 3 r (.pub (.s .z) fun I380 hl381 R382=>?_)))
 have le383:=IH.le.trans le313 hl381
 have le384:=IH.le.trans hl312 hl381
 have hw400:=W_ref07_Of (I:=I380) R382 hd
 refine .call call38 r hw400 r r fun v389 I386 hl387 hv388=>?_
 obtain ⟨r385,p391,c392,p394,c395,p397,c398,rfl,R393,R396,R399,hd⟩:=hv388
 have le401:=IH.le.trans le383 hl387
 have le402:=IH.le.trans le384 hl387
 replace R382:=R382.mono hl387
 refine .ks 3 r (.allocA zv34 r r fun b403=>?_)
 refine .storeA sz34 r r .z (.t (.t (.t (.t (.t .nil))))) r r (.ks 1 r (.nilS [11,10,6,5,4] r r (.seq (.sr (.ks 2 r (.nilS [68,10,6,5,4] r r (.condP r hd (fun hb405 hd=>?_) fun hb405 hd=>?_)))))))
 · refine .sr (.ks 2 r ?_)
   have hw424:=W_ref07_Empty (I:=I386) hd
   refine .callO call47 r hw424 r r fun v410 I407 l411 hl408 hv409=>?_
   obtain ⟨r406,p412,c413,p415,c416,p418,c419,rfl,rfl,hd⟩:=hv409
   have le425:=IH.le.trans le401 hl408
   have le426:=IH.le.trans le402 hl408
   replace R393:=R393.mono hl408
   replace R396:=R396.mono hl408
   replace R399:=R399.mono hl408
   refine .storeA sz34 r r (.s (.s (.s (.s .z)))) (.t (.t (.t (.t (.t .nil))))) r r (.nilS [4] r r (.drop (.s (.s (.s .z))) (.pub .z fun I427 hl428 R429=>?_)))
   have le430:=IH.le.trans le425 hl428
   have le431:=IH.le.trans le426 hl428
   refine .pub .z fun I432 hl433 R434=>?_
   have le435:=IH.le.trans le430 hl433
   have le436:=IH.le.trans le431 hl433
   replace R429:=R429.mono hl433
   refine .pub .z fun I437 hl438 R439=>?_
   have le440:=IH.le.trans le435 hl438
   have le441:=IH.le.trans le436 hl438
   replace R429:=R429.mono hl438
   replace R434:=R434.mono hl438
   exact .ret (pret results32 (.w ia34 sz34 r .z r .n) le440 ⟨r406,_,_,_,_,_,_,r,R429,R434,R439,hd⟩)
 exact .skipS [10,4] r r (.sr (.loadW ia34 sz34 r .z r r r (.storeA sz34 r r (.s .z) (.t (.t (.t (.t (.t .nil))))) r r (.nilS [4] r r (.drop .z (.ret (pret results32 (.w ia34 sz34 r .z r .n) le401 ⟨r385.1,_,_,_,_,_,_,r,R393,R396,R399,hd⟩)))))))
theorem W_law13_Right {I:IH} {a0:Int} {Q:Int→Prop}  (hd:law13_Right a0 Q) :
  PFun prog 33 [.int .i64 a0] I (fun _=>o0_ Q):=by
 refine Fun.enter func33 r ntmps33 r (.c .n) fun w0 M=>?_
 refine .sr (.ks 1 r (.nilS [0] r r (.seq (.sr (.ks 3 r ?_)))))
 refine splitP hd (fun hb1 hd=>?_) fun hb1 hd=>?_
 · rw [hb1]
   exact .ks 3 r (.nilS [8,0] r r (.condKT r r (.sr (.ks 1 r (.nilS [2] r r (.ret (pret results33 (.t r .n) (.refl _) ⟨1,r,hd⟩)))))))
 rw [hb1]
 refine .ks 3 r (.nilS [8,0] r r (.condP r hd (fun hb2 hd=>?_) fun hb2 hd=>?_))
 · exact .sr (.ks 1 r (.nilS [2] r r (.ret (pret results33 (.t r .n) (.refl _) ⟨1,r,hd⟩))))
 exact .skipS [0] r r (.sr (.ks 2 r (.nilS [2] r r (.ret (pret results33 (.t r .n) (.refl _) ⟨a0,r,hd⟩)))))
theorem W_law02_Value {I:IH} {a0:Int} {a1:Int} {Q:Int→Prop}  (hd:law02_Value a0 a1 Q) :
  PFun prog 37 [.int .i64 a0,.int .i64 a1] I (fun _=>o0_ Q):=by
 refine Fun.enter func37 r ntmps37 r (.c (.c .n)) fun w0 M=>?_
 refine .sr (.ks 1 r (.nilS [1,0] r r (.sr (.ks 1 r (.nilS [5,1] r r (.block (.sr (.ks 2 r (.nilS [12,5,1] r r ?_)))))))))
 refine .condP r hd (fun hb1 hd=>?_) fun hb1 hd=>?_
 · exact .sr (.ks 2 r (.nilS [4] r r (.ret (pret results37 (.t r .n) (.refl _) ⟨a1,r,hd⟩))))
 refine .sr (.ks 2 r (.nilS [15,1] r r (.condP r hd (fun hb2 hd=>?_) fun hb2 hd=>?_)))
 · exact .sr (.ks 3 r (.nilS [4] r r (.ret (pret results37 (.t r .n) (.refl _) ⟨(bnd .i64 a1 1),r,hd⟩))))
 refine .sr (.ks 3 r (.nilS [1] r r (.seq (.sr (.ks 1 r (.rem r r (by decide) r r (.ks 1 r (.nilS [10,1] r r (.condP r hd (fun hb3 hd=>?_) fun hb3 hd=>?_)))))))))
 · exact .sr (.ks 1 r (.nilS [4] r r (.ret (pret results37 (.t r .n) (.refl _) ⟨4611686018427387904,r,hd⟩))))
 exact .skipS [1] r r (.sr (.ks 2 r (.nilS [4] r r (.ret (pret results37 (.t r .n) (.refl _) ⟨(bnd .i64 a1 4611686018427387903),r,hd⟩)))))
theorem W_law02_Factor {I:IH} {a0:Int} {a1:Int} {Q:Int→Prop}  (hd:law02_Factor a0 a1 Q) :
  PFun prog 34 [.int .i64 a0,.int .i64 a1] I (fun _=>o0_ Q):=by
 refine Fun.enter func34 r ntmps34 r (.c (.c .n)) fun w0 M=>?_
 refine .sr (.ks 1 r (.nilS [1,0] r r (.seq (.sr (.ks 2 r (.nilS [6,1,0] r r (.condP r hd (fun hb1 hd=>?_) fun hb1 hd=>?_)))))))
 · exact .sr (.ks 1 r (.rem r r (by decide) r r (.ks 1 r (.nilS [4] r r (.ret (pret results34 (.t r .n) (.refl _) ⟨(a1.tmod 2147483648),r,hd⟩))))))
 refine .skipS [1,0] r r (.sr (.ks 2 r ?_))
 have hw3:=W_law02_Value (I:=I) hd
 refine .callP call37 r hw3 r r fun v4 hv5=>?_
 obtain ⟨r2,rfl,hd⟩:=hv5
 exact .ks 1 r (.nilS [4] r r (.ret (pret results34 (.t r .n) (.refl _) ⟨r2,r,hd⟩)))
theorem W_law13_Task_Matrix {I:IH} {a0:Law13_Task} {p1:Option Addr} {c2:Nat} {p4:Option Addr} {c5:Nat} {p7:Option Addr} {c8:Nat} {p10:Option Addr} {c11:Nat} {Q:Rows→Prop} (R3:RepSl eTriple I p1 c2 a0.L) (R6:RepSl eItem I p4 c5 a0.X) (R9:RepSl eItem I p7 c8 a0.Y) (R12:RepSl eU64 I p10 c11 a0.F) (hd:law13_Task_Matrix a0 Q) :
  PFun prog 8 [.agg #[.int .i64 a0.Ring,.int .u8 a0.Size.1,.int .u8 a0.Size.2,.slice p1 a0.L.length c2,.slice p4 a0.X.length c5,.slice p7 a0.Y.length c8,.slice p10 a0.F.length c11,.bool a0.Others]] I (fun I_ v=>∃ r p13 c14 p16 c17 p19 c20,v=.agg #[.int .i64 r.Rows,.int .i64 r.Cols,.slice p13 r.Start.length c14,.slice p16 r.Col.length c17,.slice p19 r.Val.length c20]∧RepSl eI64 I_ p13 c14 r.Start∧RepSl eI64 I_ p16 c17 r.Col∧RepSl eI64 I_ p19 c20 r.Val∧Q r):=by
 refine Fun.enter func8 r ntmps8 r (.c .n) fun w0 M=>?_
 refine .sr (.boxA r r r fun b26=>?_)
 refine .allocA zv34 r r fun b28=>?_
 refine .nilS [2,1] r r (.sr (.fa un28 r sizeOf23 r (o:=1) r r r (.loadA isAgg23 sizeOf23 r (.s .z) (.s (.t (.t .nil))) r r r (.fa un28 r sizeOf24 r (o:=3) r r r (.load1 isAgg24 r (.s .z) r r r ?_)))))
 have hw63:=W_law07_Some (I:=I) R3 hd
 refine .call call32 r hw63 r r fun v52 I49 hl50 hv51=>?_
 obtain ⟨r48,p54,c55,p57,c58,p60,c61,rfl,R56,R59,R62,hd⟩:=hv51
 replace R3:=R3.mono hl50
 replace R6:=R6.mono hl50
 replace R9:=R9.mono hl50
 replace R12:=R12.mono hl50
 refine .allocA zv34 r r fun b64=>?_
 refine .storeA sz34 r r .z (.t (.t (.t (.t (.t .nil))))) r r (.nilS [3,2,1] r r (.sr (.fa un28 r sizeOf22 r (o:=0) r r r (.load1 isAgg22 r (.s (.s .z)) r r r ?_))))
 have hw71:=W_law13_Right (I:=I49) hd
 refine .callP call33 r hw71 r r fun v72 hv73=>?_
 obtain ⟨r70,rfl,hd⟩:=hv73
 refine .ks 1 r (.nilS [4,3,2] r r (.drop (.s (.s .z)) (.sr (.ks 1 r (.nilS [5,4,3,2] r r (.seq (.sr (.ks 1 r (.nilS [6,5,4,3,2] r r ?_)))))))))
 refine .block (.own0 eI64 2 (.loop hd (fun (s:(List Int)×Int) c w=>match s with | (s132,s136)=>∃ I_ p133 c134,IH.le I49 I_∧Ok ⟨35,[],none⟩ [(2,.pointer (some ⟨b28,0,none⟩)),(3,.pointer (some ⟨b64,0,none⟩)),(4,.int .i64 r70),(5,.slice p133 s132.length c134),(6,.int .i64 s136)] c∧Sym w0 M I I_ [pto b28 (.cells #[.int .i64 0,.int .i64 0,.slice none 0 0,.slice none 0 0,.slice none 0 0] 34 (0,0)),pto b64 (.cells #[.int .i64 r48.Rows,.int .i64 r48.Cols,.slice p54 r48.Start.length c55,.slice p57 r48.Col.length c58,.slice p60 r48.Val.length c61] 34 (0,0)),OwnSl eI64 2 p133 c134 s132] w) (fun c w ho hs=>⟨I49,_,_,(.refl _),ho.sub ⟨r,r,r,r,r,trivial⟩,hs.pick (.c (.s (.s .z)) (.c (.s .z) (.c .z .n)))⟩) ?_))
 rintro ⟨s132,s136⟩ next138 hd c w hst
 obtain ⟨I139,p133,c134,hl140,hok,hsym⟩:=hst
 have le141:=IH.le.trans hl50 hl140
 replace R56:=R56.mono hl140
 replace R59:=R59.mono hl140
 replace R62:=R62.mono hl140
 refine Cod.at hok hsym (.seq (.sr (.ks 1 r (.fa un34 r sz32 r (o:=4) r r r (.load1 ia32 r (.s .z) r r r (.len un32 r r r r (.ks 1 r (.nilS [19,6,5,4,3,2] r r (.condP r hd (fun hb143 hd=>?_) fun hb143 hd=>?_)))))))))
 · refine .skipS [6,5,4,3,2] r r (.seq (.block (.region (.ks 2 r (.fa un34 r sz32 r (o:=4) r r r (.load1 ia32 r (.s .z) r r r (.ks 1 r ?_)))))))
   obtain ⟨h144,x145,hx146,hd⟩:=hd
   obtain ⟨b147,o148,cs149,e150,hC151,hr152⟩:=R62.2 _ _ hx146
   cases hr152
   refine .ixa un32 sz2 r e150 r h144 (idx_lt hx146 h144) r r (.ld1 (j:=0) ia2 hC151 r r r r r ?_)
   have hw154:=W_law02_Factor (I:=I139) hd
   refine .callP call34 r hw154 r r fun v155 hv156=>?_
   obtain ⟨r153,rfl,hd⟩:=hv156
   refine .buildSlice 1 un32 sz2 zeroValue2 r r (.c r r r .n) r r fun b157=>?_
   obtain ⟨hl159,hd⟩:=hd
   refine .append (ys:=[r153]) 8 (.s (.s (.s .z))) un32 un32 IN2 r r r r r r r r r (.box .z (.one r) r) hl159 r r fun p160 c161=>?_
   exact .ks 1 r (.nilS [5,6,4,3,2] r r (.drop (.s .z) (.region (.ks 3 r (.nil' fun c w ho hs=>⟨((s132++([r153])),w64 (s136+1)),hd,I139,_,_,hl140,ho.sub ⟨r,r,r,r,r,trivial⟩,hs.pick (.c (.s .z) (.c (.s .z) (.c .z .n)))⟩)))))
 refine .exitS [5,3,2] r r (.sr (.ks 1 r (.fa un34 r sz32 r (o:=4) r r r (.store1 sz32 r r (.s .z) (.s (.s (.s (.s (.t .nil))))) r (.nilS [3,2] r r (.sr (.loadW ia34 sz34 r (.s .z) r r r (.storeA sz34 r r .z (.t (.t (.t (.t (.t .nil))))) r r (.nilS [2] r r ?_)))))))))
 refine .drop (.s .z) (.pub (.s .z) fun I163 hl164 R165=>?_)
 have le166:=IH.le.trans le141 hl164
 have le167:=IH.le.trans hl140 hl164
 replace R56:=R56.mono hl164
 replace R59:=R59.mono hl164
 exact .ret (pret results8 (.w ia34 sz34 r .z r .n) le166 ⟨({ Rows:=r48.Rows,Cols:=r48.Cols,Start:=r48.Start,Col:=r48.Col,Val:=s132 }:Rows),_,_,_,_,_,_,r,R56,R59,R165,hd⟩)
theorem W_ref09_Of {I:IH} {a0:Int} {a1:Int} {a2:List Item} {p1:Option Addr} {c2:Nat} {Q:(Vec×Int)→Prop} (R3:RepSl eItem I p1 c2 a2) (hd:ref09_Of a0 a1 a2 Q) :
  PFun prog 87 [.int .i64 a0,.int .i64 a1,.slice p1 a2.length c2] I (o7_ Q):=by
 refine Fun.enter func87 r ntmps87 r (.c (.c (.c .n))) fun w0 M=>?_
 refine .sr (.allocA zv37 r r fun b9=>?_)
 refine .ks 1 r (.nilS [6,2,1,0] r r (.seq (.sr (.ks 1 r ?_))))
 have hw17:=W_ref02_Is (I:=I) hd
 refine .callP call77 r hw17 r r fun v18 hv19=>?_
 obtain ⟨r16,rfl,hd⟩:=hv19
 refine .ks 1 r (.nilS [15,6,2,1,0] r r (.condP r hd (fun hb20 hd=>?_) fun hb20 hd=>?_))
 · exact .sr (.build zv37 un37 BI37 .n (by exact trivial) r r (.storeA sz37 r r .z (.t (.t .nil)) r r (.ks 1 r (.nilS [7,6] r r (.ret (pret results87 (.w ia37 sz37 r .z r (.t r .n)) (.refl _) ⟨(({ N:=0,Items:=([]:List Item) }:Vec),8),_,_,r,(.nil _ _ _),hd⟩))))))
 refine .skipS [6,2,1,0] r r (.seq (.sr (.ks 3 r ?_)))
 refine splitP hd (fun hb23 hd=>?_) fun hb23 hd=>?_
 · rw [hb23]
   exact .ks 3 r (.nilS [22,6,2,1,0] r r (.condKT r r (.sr (.build zv37 un37 BI37 .n (by exact trivial) r r (.storeA sz37 r r .z (.t (.t .nil)) r r (.ks 1 r (.nilS [7,6] r r (.ret (pret results87 (.w ia37 sz37 r .z r (.t r .n)) (.refl _) ⟨(({ N:=0,Items:=([]:List Item) }:Vec),3),_,_,r,(.nil _ _ _),hd⟩)))))))))
 rw [hb23]
 refine .ks 3 r (.nilS [22,6,2,1,0] r r (.condP r hd (fun hb24 hd=>?_) fun hb24 hd=>?_))
 · exact .sr (.build zv37 un37 BI37 .n (by exact trivial) r r (.storeA sz37 r r .z (.t (.t .nil)) r r (.ks 1 r (.nilS [7,6] r r (.ret (pret results87 (.w ia37 sz37 r .z r (.t r .n)) (.refl _) ⟨(({ N:=0,Items:=([]:List Item) }:Vec),3),_,_,r,(.nil _ _ _),hd⟩))))))
 refine .skipS [6,2,1,0] r r (.sr (.ks 1 r (.nilS [8,6,2,1,0] r r (.seq (.sr (.ks 1 r (.nilS [9,8,6,2,1,0] r r (.block (.own0 eEdge 123 ?_)))))))))
 refine .loop hd (fun (s:(List Edge)×Int) c w=>match s with | (s399,s403)=>∃ I_ p400 c401,IH.le I I_∧Ok ⟨95,[],none⟩ [(0,.int .i64 a0),(1,.int .i64 a1),(2,.slice p1 a2.length c2),(6,.pointer (some ⟨b9,0,none⟩)),(8,.slice p400 s399.length c401),(9,.int .i64 s403)] c∧Sym w0 M I I_ [pto b9 (.cells #[.int .i64 0,.slice none 0 0] 37 (0,0)),OwnSl eEdge 123 p400 c401 s399] w) (fun c w ho hs=>⟨I,_,_,(.refl _),ho.sub ⟨r,r,r,r,r,r,trivial⟩,hs.pick (.c (.s .z) (.c .z .n))⟩) ?_
 rintro ⟨s399,s403⟩ next405 hd c w hst
 obtain ⟨I406,p400,c401,hl407,hok,hsym⟩:=hst
 replace R3:=R3.mono hl407
 refine Cod.at hok hsym (.seq (.sr (.ks 2 r (.len un25 r r r r (.ks 1 r (.nilS [27,9,8,6,2,1,0] r r (.condP r hd (fun hb409 hd=>?_) fun hb409 hd=>?_)))))))
 · refine .skipS [9,8,6,2,1,0] r r (.seq (.block (.seq (.sr (.ks 2 r ?_)))))
   obtain ⟨h430,x431,hx432,hd⟩:=hd
   obtain ⟨b433,o434,cs435,e436,hC437,hr438⟩:=R3.2 _ _ hx432
   cases hr438
   refine .ixa un25 sz72 r e436 r h430 (idx_lt hx432 h430) r r (.fa un72 r sz3 r (o:=o434+s403.toNat*2) r r r (.ld1 (j:=0) ia3 hC437 r r r r r (.ks 2 r ?_)))
   refine splitP hd (fun hb439 hd=>?_) fun hb439 hd=>?_
   · rw [hb439]
     exact .ks 8 r (.nilS [44,9,8,6,2,1,0] r r (.condKT r r (.sr (.build zv37 un37 BI37 .n (by exact trivial) r r (.storeA sz37 r r .z (.t (.t .nil)) r r (.ks 1 r (.nilS [7,6] r r (.drop (.s .z) (.ret (pret results87 (.w ia37 sz37 r .z r (.t r .n)) hl407 ⟨(({ N:=0,Items:=([]:List Item) }:Vec),3),_,_,r,(.nil _ _ _),hd⟩))))))))))
   rw [hb439]
   refine .ks 2 r ?_
   obtain ⟨h440,x441,hx442,hd⟩:=hd
   obtain ⟨b443,o444,cs445,e446,hC447,hr448⟩:=R3.2 _ _ hx442
   cases hr448
   refine .gyes r r r (.ixa un25 sz72 r e446 r h440 (idx_lt hx442 h440) r r (.gyes r r r (.fa un72 r sz3 r (o:=o444+s403.toNat*2) r r r (.gyes r r r (.ld1 (j:=0) ia3 hC447 r r r r r (.ks 3 r (.nilS [44,9,8,6,2,1,0] r r (.condP r hd (fun hb449 hd=>?_) fun hb449 hd=>?_))))))))
   · exact .sr (.build zv37 un37 BI37 .n (by exact trivial) r r (.storeA sz37 r r .z (.t (.t .nil)) r r (.ks 1 r (.nilS [7,6] r r (.drop (.s .z) (.ret (pret results87 (.w ia37 sz37 r .z r (.t r .n)) hl407 ⟨(({ N:=0,Items:=([]:List Item) }:Vec),3),_,_,r,(.nil _ _ _),hd⟩)))))))
   refine .skipS [9,8,6,2,1,0] r r (.ownF (.s .z) fun hne450=>?_)
   refine .dr [0,1,2,3,4,5,6,7,8,9,10,11,12,13] 14 (.fk 3 r ?_)
   obtain ⟨h451,x452,hx453,hd⟩:=hd
   obtain ⟨b454,o455,cs456,e457,hC458,hr459⟩:=R3.2 _ _ hx453
   cases hr459
   refine .g r r r (fun _=>.ixa un25 sz72 r e457 r h451 (idx_lt hx453 h451) r r .mk) (.g r r r (fun _=>.fa un72 r sz3 r (o:=o455+s403.toNat*2) r r r .mk) (.g r r r (fun _=>.ld1 (j:=0) ia3 hC458 r r r r r .mk) (.fk 2 r ?_)))
   obtain ⟨h460,x461,hx462,hd⟩:=hd
   obtain ⟨b463,o464,cs465,e466,hC467,hr468⟩:=R3.2 _ _ hx462
   cases hr468
   refine .g r r r (fun _=>.ixa un25 sz72 r e466 r h460 (idx_lt hx462 h460) r r .mk) (.g r r r (fun _=>.fa un72 r sz2 r (o:=o464+s403.toNat*2+1) r r r .mk) (.g r r r (fun _=>.ld1 (j:=1) ia2 hC467 r r r r r .mk) (.g r r r (fun _=>.build zv123 un123 BI123 (.c r r r (.s (.t .nil)) (.c r r r (.s (.s (.t .nil))) .n)) (by exact ⟨⟨_,_,r,r,r⟩,⟨⟨_,_,r,r,r⟩,trivial⟩⟩) r r .mk) (.ww r fun ex=>?_))))
   refine .buildSlice 1 un121 sz123 zv123 r r (.c r r r .n) r r fun b469=>?_
   refine .so 3 r r r (.ck 1 r r trivial) (.ww r fun ex=>?_)
   obtain ⟨hl471,hd⟩:=hd
   refine .append (ys:=[({ From:=0,To:=x452.At,W:=x461.Val }:Edge)]) 24 (.s (.s .z)) un121 un121 IN123 r r r r r r r r r (.box .z (.one r) r) hl471 r r fun p472 c473=>?_
   exact .so 3 r r r trivial (.e2 14 (.ks 1 r (.nilS [8,9,6,2,1,0] r r (.drop (.s .z) (.region (.ks 3 r (.nil' fun c w ho hs=>⟨((s399++([({ From:=0,To:=x452.At,W:=x461.Val }:Edge)])),w64 (s403+1)),hd,I406,_,_,hl407,ho.sub ⟨r,r,r,r,r,r,trivial⟩,hs.pick (.c (.s .z) (.c .z .n))⟩)))))))
 refine .exitS [8,6,1,0] r r (.sr (.ks 2 r (.pub (.s .z) fun I490 hl491 R492=>?_)))
 have le493:=IH.le.trans hl407 hl491
 have hw503:=W_ref05_Combine (I:=I490) R492 hd
 refine .call call88 r hw503 r r fun v498 I495 hl496 hv497=>?_
 obtain ⟨r494,p500,c501,rfl,R502,hd⟩:=hv497
 have le504:=IH.le.trans le493 hl496
 replace R492:=R492.mono hl496
 refine .ks 5 r (.nilS [10,8,6,1] r r (.seq (.sr (.ks 2 r (.nilS [67,10,8,6,1] r r (.condP r hd (fun hb506 hd=>?_) fun hb506 hd=>?_))))))
 · exact .sr (.build zv37 un37 BI37 .n (by exact trivial) r r (.ks 1 r (.storeA sz37 r r .z (.t (.t .nil)) r r (.ks 1 r (.nilS [7,6] r r (.ret (pret results87 (.w ia37 sz37 r .z r (.t r .n)) le504 ⟨(({ N:=0,Items:=([]:List Item) }:Vec),r494.2),_,_,r,(.nil _ _ _),hd⟩)))))))
 refine .skipS [8,6,1] r r (.sr (.ks 1 r (.build zv37 un37 BI37 (.c r r r (.t .nil) .n) (by exact ⟨⟨_,_,r,r,r⟩,trivial⟩) r r (.allocA zv37 r r fun b509=>?_))))
 refine .storeA sz37 r r .z (.t (.t .nil)) r r (.nilS [11,8,6] r r (.seq (.sr (.ks 1 r (.nilS [12,11,8,6] r r (.block (.own0 eItem 72 (.loop hd (fun (s:(List Item)×Int) c w=>match s with | (s580,s584)=>∃ I_ p581 c582,IH.le I495 I_∧Ok ⟨95,[],none⟩ [(6,.pointer (some ⟨b9,0,none⟩)),(8,.slice p500 r494.1.length c501),(11,.pointer (some ⟨b509,0,none⟩)),(12,.int .i64 s584)] c∧Sym w0 M I I_ [pto b9 (.cells #[.int .i64 0,.slice none 0 0] 37 (0,0)),pto b509 (.cells #[.int .i64 a1,.slice p581 s580.length c582] 37 (0,0)),OwnSl eItem 72 p581 c582 s580] w) (fun c w ho hs=>⟨I495,_,_,(.refl _),ho.sub ⟨r,r,r,r,trivial⟩,hs.pick (.c (.s (.s .z)) (.c (.s .z) (.c .z .n)))⟩) ?_))))))))
 rintro ⟨s580,s584⟩ next586 hd c w hst
 obtain ⟨I587,p581,c582,hl588,hok,hsym⟩:=hst
 have le589:=IH.le.trans le504 hl588
 replace R502:=R502.mono hl588
 refine Cod.at hok hsym (.seq (.sr (.ks 2 r (.len un121 r r r r (.ks 1 r (.nilS [75,12,11,8,6] r r (.condP r hd (fun hb591 hd=>?_) fun hb591 hd=>?_)))))))
 · refine .skipS [12,11,8,6] r r (.seq (.block (.ownF (.s (.s .z)) fun hne592=>?_)))
   refine .dr [0,1,2,3,4,5,6,7,8,9,10,11,12,13,14] 15 (.g r r r (fun _=>.fa un37 r sz25 r (o:=1) r r r .mk) (.g r r r (fun _=>.load1 ia25 r (.s .z) r r r .mk) (.fk 2 r ?_)))
   obtain ⟨h593,x594,hx595,hd⟩:=hd
   obtain ⟨b596,o597,cs598,e599,hC600,hr601⟩:=R502.2 _ _ hx595
   cases hr601
   refine .g r r r (fun _=>.ixa un121 sz123 r e599 r h593 (idx_lt hx595 h593) r r .mk) (.g r r r (fun _=>.fa un123 r sz3 r (o:=o597+s584.toNat*3+1) r r r .mk) (.g r r r (fun _=>.ld1 (j:=1) ia3 hC600 r r r r r .mk) (.fk 2 r ?_)))
   obtain ⟨h602,x603,hx604,hd⟩:=hd
   obtain ⟨b605,o606,cs607,e608,hC609,hr610⟩:=R502.2 _ _ hx604
   cases hr610
   refine .g r r r (fun _=>.ixa un121 sz123 r e608 r h602 (idx_lt hx604 h602) r r .mk) (.g r r r (fun _=>.fa un123 r sz2 r (o:=o606+s584.toNat*3+2) r r r .mk) (.g r r r (fun _=>.ld1 (j:=2) ia2 hC609 r r r r r .mk) (.g r r r (fun _=>.build zv72 un72 BI72 (.c r r r (.t .nil) (.c r r r (.s (.t .nil)) .n)) (by exact ⟨⟨_,_,r,r,r⟩,⟨⟨_,_,r,r,r⟩,trivial⟩⟩) r r .mk) (.ww r fun ex=>?_))))
   refine .buildSlice 1 un25 sz72 zv72 r r (.c r r r .n) r r fun b611=>?_
   refine .so 4 r r r (.cg r r r r (fun _=>.load1 ia25 r (.s (.s .z)) r r r .mk) (.cg r r r r (fun _=>.fa un37 r sz25 r (o:=1) r r r .mk) trivial)) (.ww r fun ex=>?_)
   obtain ⟨hl613,hd⟩:=hd
   refine .append (ys:=[({ At:=x594.To,Val:=x603.W }:Item)]) 16 (.s (.s (.s .z))) un25 un25 IN72 r r r r r r r r r (.box .z (.one r) r) hl613 r r fun p614 c615=>?_
   exact .so 4 r r r trivial (.e2 15 (.fa un37 r sz25 r (o:=1) r r r (.store1 sz25 r r (.s (.s (.s .z))) (.s (.t .nil)) r (.nilS [12,11,8,6] r r (.drop (.s .z) (.region (.ks 3 r (.nil' fun c w ho hs=>⟨((s580++([({ At:=x594.To,Val:=x603.W }:Item)])),w64 (s584+1)),hd,I587,_,_,hl588,ho.sub ⟨r,r,r,r,trivial⟩,hs.pick (.c (.s .z) (.c (.s .z) (.c .z .n)))⟩))))))))
 refine .exitS [11,6] r r (.sr (.loadW ia37 sz37 r (.s .z) r r r (.storeA sz37 r r .z (.t (.t .nil)) r r (.ks 1 r (.nilS [7,6] r r (.drop (.s .z) (.pub (.s .z) fun I617 hl618 R619=>?_)))))))
 have le620:=IH.le.trans le589 hl618
 have le621:=IH.le.trans hl588 hl618
 exact .ret (pret results87 (.w ia37 sz37 r .z r (.t r .n)) le620 ⟨(({ N:=a1,Items:=s580 }:Vec),0),_,_,r,R619,hd⟩)
theorem W_law09_Some {I:IH} {a0:Int} {a1:List Item} {p1:Option Addr} {c2:Nat} {Q:Vec→Prop} (R3:RepSl eItem I p1 c2 a1) (hd:law09_Some a0 a1 Q) :
  PFun prog 35 [.int .u8 a0,.slice p1 a1.length c2] I (o8_ Q):=by
 refine Fun.enter func35 r ntmps35 r (.c (.c .n)) fun w0 M=>?_
 refine .sr (.allocA zv37 r r fun b9=>?_)
 refine .nilS [4,1,0] r r (.sr (.ks 1 r (.conv underlying5 un3 r r r (.rem r r (by decide) r r (.ks 1 r (.nilS [5,4,1] r r (.sr (.ks 1 r (.nilS [6,5,4,1] r r ?_)))))))))
 refine .seq ?_
 refine Cod.joinQ (σ:=(List Item)) hd (fun (s361:(List Item)) c w=>∃ I_ p362 c363,IH.le I I_∧Ok ⟨56,[],none⟩ [(4,.pointer (some ⟨b9,0,none⟩)),(5,.int .i64 ((w64 (a0)).tmod 60)),(6,.slice p362 s361.length c363)] c∧Sym w0 M I I_ [pto b9 (.cells #[.int .i64 0,.slice none 0 0] 37 (0,0)),OwnSl eItem 72 p362 c363 s361] w) (fun k365 hd=>?_) ?_
 · skip
   refine .sr (.ks 1 r (.nilS [7,6,5,4,1] r r (.block (.own0 eItem 72 (.loop hd (fun (s:(List Item)×Int) c w=>match s with | (s481,s485)=>∃ I_ p482 c483,IH.le I I_∧Ok ⟨56,[],none⟩ [(1,.slice p1 a1.length c2),(4,.pointer (some ⟨b9,0,none⟩)),(5,.int .i64 ((w64 (a0)).tmod 60)),(6,.slice p482 s481.length c483),(7,.int .i64 s485)] c∧Sym w0 M I I_ [pto b9 (.cells #[.int .i64 0,.slice none 0 0] 37 (0,0)),OwnSl eItem 72 p482 c483 s481] w) (fun c w ho hs=>⟨I,_,_,(.refl _),ho.sub ⟨r,r,r,r,r,trivial⟩,hs.pick (.c (.s .z) (.c .z .n))⟩) ?_)))))
   rintro ⟨s481,s485⟩ next487 hd c w hst
   obtain ⟨I488,p482,c483,hl489,hok,hsym⟩:=hst
   replace R3:=R3.mono hl489
   refine Cod.at hok hsym (.seq (.sr (.ks 2 r (.len un25 r r r r (.ks 2 r ?_)))))
   refine splitP hd (fun hb493 hd=>?_) fun hb493 hd=>?_
   · rw [hb493]
     refine .ks 4 r ?_
     refine splitP hd (fun hb494 hd=>?_) fun hb494 hd=>?_
     · rw [hb494]
       refine .ks 3 r (.nilS [24,7,6,5,4,1] r r (.condP r hd (fun hb495 hd=>?_) fun hb495 hd=>?_))
       · refine .skipS [7,6,5,4,1] r r (.seq (.block (.sr (.ks 2 r ?_))))
         obtain ⟨h505,x506,hx507,hd⟩:=hd
         obtain ⟨b508,o509,cs510,e511,hC512,hr513⟩:=R3.2 _ _ hx507
         cases hr513
         refine .ixa un25 sz72 r e511 r h505 (idx_lt hx507 h505) r r (.fa un72 r sz3 r (o:=o509+s485.toNat*2) r r r (.ld1 (j:=0) ia3 hC512 r r r r r (.ks 1 r (.nilS [32,7,6,5,4,1] r r (.condP r hd (fun hb514 hd=>?_) fun hb514 hd=>?_)))))
         · refine .ownF (.s .z) fun hne515=>?_
           refine .dr [0,1,2,3,4,5,6,7,8,9,10,11,12,13,14,15] 16 (.fk 3 r ?_)
           obtain ⟨h516,x517,hx518,hd⟩:=hd
           obtain ⟨b519,o520,cs521,e522,hC523,hr524⟩:=R3.2 _ _ hx518
           cases hr524
           refine .g r r r (fun _=>.ixa un25 sz72 r e522 r h516 (idx_lt hx518 h516) r r .mk) (.g r r r (fun _=>.fa un72 r sz3 r (o:=o520+s485.toNat*2) r r r .mk) (.g r r r (fun _=>.ld1 (j:=0) ia3 hC523 r r r r r .mk) (.fk 1 r ?_)))
           obtain ⟨hz525,hd⟩:=hd
           refine .g r r r (fun _=>.rem r r hz525 r r .mk) (.fk 2 r ?_)
           obtain ⟨h526,x527,hx528,hd⟩:=hd
           obtain ⟨b529,o530,cs531,e532,hC533,hr534⟩:=R3.2 _ _ hx528
           cases hr534
           refine .g r r r (fun _=>.ixa un25 sz72 r e532 r h526 (idx_lt hx528 h526) r r .mk) (.g r r r (fun _=>.fa un72 r sz2 r (o:=o530+s485.toNat*2+1) r r r .mk) (.g r r r (fun _=>.ld1 (j:=1) ia2 hC533 r r r r r .mk) (.g r r r (fun _=>.build zv72 un72 BI72 (.c r r r (.t .nil) (.c r r r (.s (.t .nil)) .n)) (by exact ⟨⟨_,_,r,r,r⟩,⟨⟨_,_,r,r,r⟩,trivial⟩⟩) r r .mk) (.ww r fun ex=>?_))))
           refine .buildSlice 1 un25 sz72 zv72 r r (.c r r r .n) r r fun b535=>?_
           refine .so 3 r r r (.ck 1 r r trivial) (.ww r fun ex=>?_)
           obtain ⟨hl537,hd⟩:=hd
           refine .append (ys:=[({ At:=x517.At.tmod ((w64 (a0)).tmod 60),Val:=x527.Val }:Item)]) 16 (.s (.s .z)) un25 un25 IN72 r r r r r r r r r (.box .z (.one r) r) hl537 r r fun p538 c539=>?_
           exact .so 3 r r r trivial (.e2 16 (.ks 1 r (.nilS [6,7,5,4,1] r r (.drop (.s .z) (.region (.ks 3 r (.nil' fun c w ho hs=>⟨((s481++([({ At:=x517.At.tmod ((w64 (a0)).tmod 60),Val:=x527.Val }:Item)])),w64 (s485+1)),hd,I488,_,_,hl489,ho.sub ⟨r,r,r,r,r,trivial⟩,hs.pick (.c (.s .z) (.c .z .n))⟩)))))))
         exact .skipS [7,6,5,4,1] r r (.region (.ks 3 r (.nil' fun c w ho hs=>⟨(s481,w64 (s485+1)),hd,I488,_,_,hl489,ho.sub ⟨r,r,r,r,r,trivial⟩,hs.pick (.c .z (.c .z .n))⟩)))
       exact .exit fun c w ho hs=>⟨s481,hd,I488,_,_,hl489,ho.sub ⟨r,r,r,trivial⟩,hs.pick (.c .z (.c .z .n))⟩
     rw [hb494]
     exact .ks 3 r (.nilS [24,7,6,5,4,1] r r (.condKF r r (.exit fun c w ho hs=>⟨s481,hd,I488,_,_,hl489,ho.sub ⟨r,r,r,trivial⟩,hs.pick (.c .z (.c .z .n))⟩)))
   rw [hb493]
   exact .ks 7 r (.nilS [24,7,6,5,4,1] r r (.condKF r r (.exit fun c w ho hs=>⟨s481,hd,I488,_,_,hl489,ho.sub ⟨r,r,r,trivial⟩,hs.pick (.c .z (.c .z .n))⟩)))
 rintro s361 hd c w hst
 obtain ⟨I541,p362,c363,hl542,hok,hsym⟩:=hst
 refine Cod.at hok hsym (.sr (.ks 2 r (.pub (.s .z) fun I543 hl544 R545=>?_)))
 have le546:=IH.le.trans hl542 hl544
 have hw556:=W_ref09_Of (I:=I543) R545 hd
 refine .call call87 r hw556 r r fun v551 I548 hl549 hv550=>?_
 obtain ⟨r547,p553,c554,rfl,R555,hd⟩:=hv550
 have le557:=IH.le.trans le546 hl549
 replace R545:=R545.mono hl549
 refine .ks 3 r (.allocA zv37 r r fun b558=>?_)
 exact .storeA sz37 r r .z (.t (.t .nil)) r r (.ks 1 r (.nilS [8,4] r r (.sr (.loadW ia37 sz37 r .z r r r (.storeA sz37 r r (.s .z) (.t (.t .nil)) r r (.nilS [4] r r (.drop .z (.ret (pret results35 (.w ia37 sz37 r .z r .n) le557 ⟨r547.1,_,_,r,R555,hd⟩)))))))))
theorem W_law13_Task_Vector {I:IH} {a0:Law13_Task} {a1:List Item} {p1:Option Addr} {c2:Nat} {p4:Option Addr} {c5:Nat} {p7:Option Addr} {c8:Nat} {p10:Option Addr} {c11:Nat} {p13:Option Addr} {c14:Nat} {Q:Vec→Prop} (R3:RepSl eTriple I p1 c2 a0.L) (R6:RepSl eItem I p4 c5 a0.X) (R9:RepSl eItem I p7 c8 a0.Y) (R12:RepSl eU64 I p10 c11 a0.F) (R15:RepSl eItem I p13 c14 a1) (hd:law13_Task_Vector a0 a1 Q) :
  PFun prog 9 [.agg #[.int .i64 a0.Ring,.int .u8 a0.Size.1,.int .u8 a0.Size.2,.slice p1 a0.L.length c2,.slice p4 a0.X.length c5,.slice p7 a0.Y.length c8,.slice p10 a0.F.length c11,.bool a0.Others],.slice p13 a1.length c14] I (fun I_ v=>∃ r p16 c17,v=.agg #[.int .i64 r.N,.slice p16 r.Items.length c17]∧RepSl eItem I_ p16 c17 r.Items∧Q r):=by
 refine Fun.enter func9 r ntmps9 r (.c (.c .n)) fun w0 M=>?_
 refine .sr (.boxA r r r fun b23=>?_)
 refine .allocA zv37 r r fun b25=>?_
 refine .nilS [4,2,1] r r (.sr (.fa un28 r sizeOf23 r (o:=1) r r r (.ixArr (i:=1) underlying23 sizeOf5 r r (by decide) (o:=2) r r r (.load1 isAgg5 r (.s .z) r r r ?_))))
 have hw44:=W_law07_Size (I:=I) hd
 refine .callP call36 r hw44 r r fun v45 hv46=>?_
 obtain ⟨r43,rfl,hd⟩:=hv46
 refine .conv un3 underlying5 r r r (.ks 1 r ?_)
 have hw56:=W_law09_Some (I:=I) R15 hd
 refine .call call35 r hw56 r r fun v51 I48 hl49 hv50=>?_
 obtain ⟨r47,p53,c54,rfl,R55,hd⟩:=hv50
 replace R3:=R3.mono hl49
 replace R6:=R6.mono hl49
 replace R9:=R9.mono hl49
 replace R12:=R12.mono hl49
 replace R15:=R15.mono hl49
 refine .allocA zv37 r r fun b57=>?_
 refine .storeA sz37 r r .z (.t (.t .nil)) r r (.nilS [5,4,2] r r (.sr (.ks 1 r (.nilS [6,5,4,2] r r (.seq (.sr (.ks 1 r (.nilS [7,6,5,4,2] r r (.block ?_)))))))))
 refine .own0 eItem 72 (.loop hd (fun (s:(List Item)×Int) c w=>match s with | (s144,s148)=>∃ I_ p145 c146,IH.le I48 I_∧Ok ⟨46,[],none⟩ [(2,.pointer (some ⟨b23,0,none⟩)),(4,.pointer (some ⟨b25,0,none⟩)),(5,.pointer (some ⟨b57,0,none⟩)),(6,.slice p145 s144.length c146),(7,.int .i64 s148)] c∧Sym w0 M I I_ [pto b23 (.cells #[.int .i64 a0.Ring,.int .u8 a0.Size.1,.int .u8 a0.Size.2,.slice p1 a0.L.length c2,.slice p4 a0.X.length c5,.slice p7 a0.Y.length c8,.slice p10 a0.F.length c11,.bool a0.Others] 28 (0,0)),pto b25 (.cells #[.int .i64 0,.slice none 0 0] 37 (0,0)),pto b57 (.cells #[.int .i64 r47.N,.slice p53 r47.Items.length c54] 37 (0,0)),OwnSl eItem 72 p145 c146 s144] w) (fun c w ho hs=>⟨I48,_,_,(.refl _),ho.sub ⟨r,r,r,r,r,trivial⟩,hs.pick (.c (.s (.s (.s .z))) (.c (.s (.s .z)) (.c (.s .z) (.c .z .n))))⟩) ?_)
 rintro ⟨s144,s148⟩ next150 hd c w hst
 obtain ⟨I151,p145,c146,hl152,hok,hsym⟩:=hst
 have le153:=IH.le.trans hl49 hl152
 replace R3:=R3.mono hl152
 replace R6:=R6.mono hl152
 replace R9:=R9.mono hl152
 replace R12:=R12.mono hl152
 replace R55:=R55.mono hl152
 refine Cod.at hok hsym (.seq (.sr (.ks 1 r (.fa un37 r sz25 r (o:=1) r r r (.load1 ia25 r (.s (.s .z)) r r r (.len un25 r r r r (.ks 1 r (.nilS [19,7,6,5,4,2] r r (.condP r hd (fun hb155 hd=>?_) fun hb155 hd=>?_)))))))))
 · refine .skipS [7,6,5,4,2] r r (.seq (.block (.ownF (.s (.s (.s .z))) fun hne156=>?_)))
   refine .dr [0,1,2,3,4,5,6,7,8,10,11,12,13,14,15,9,16,17,18,19] 20 (.fk 1 r (.g r r r (fun _=>.fa un37 r sz25 r (o:=1) r r r .mk) (.g r r r (fun _=>.load1 ia25 r (.s (.s .z)) r r r .mk) (.fk 1 r ?_))))
   obtain ⟨h157,x158,hx159,hd⟩:=hd
   obtain ⟨b160,o161,cs162,e163,hC164,hr165⟩:=R55.2 _ _ hx159
   cases hr165
   refine .g r r r (fun _=>.ixa un25 sz72 r e163 r h157 (idx_lt hx159 h157) r r .mk) (.g r r r (fun _=>.fa un72 r sz3 r (o:=o161+s148.toNat*2) r r r .mk) (.g r r r (fun _=>.ld1 (j:=0) ia3 hC164 r r r r r .mk) (.g r r r (fun _=>.fa un28 r sizeOf22 r (o:=0) r r r .mk) (.g r r r (fun _=>.load1 isAgg22 r .z r r r .mk) (.g r r r (fun _=>.fa un37 r sz25 r (o:=1) r r r .mk) (.g r r r (fun _=>.load1 ia25 r (.s (.s .z)) r r r .mk) (.fk 1 r ?_)))))))
   obtain ⟨h166,x167,hx168,hd⟩:=hd
   obtain ⟨b169,o170,cs171,e172,hC173,hr174⟩:=R55.2 _ _ hx168
   cases hr174
   refine .g r r r (fun _=>.ixa un25 sz72 r e172 r h166 (idx_lt hx168 h166) r r .mk) (.g r r r (fun _=>.fa un72 r sz2 r (o:=o170+s148.toNat*2+1) r r r .mk) (.g r r r (fun _=>.ld1 (j:=1) ia2 hC173 r r r r r .mk) (.ww r fun ex=>?_)))
   have hw176:=W_law13_Right (I:=I151) hd
   refine .callP call33 r hw176 r r fun v177 hv178=>?_
   obtain ⟨r175,rfl,hd⟩:=hv178
   refine .so 4 r r r (.cg r r r r (fun _=>.ld1 (j:=1) ia2 hC173 r r r r r .mk) (.cg r r r r (fun _=>.fa un72 r sz2 r (o:=o170+s148.toNat*2+1) r r r .mk) (.cg r r r r (fun _=>.ixa un25 sz72 r e172 r h166 (idx_lt hx168 h166) r r .mk) (.ck 1 r r (.cg r r r r (fun _=>.load1 ia25 r (.s (.s .z)) r r r .mk) (.cg r r r r (fun _=>.fa un37 r sz25 r (o:=1) r r r .mk) (.cg r r r r (fun _=>.ld1 (j:=0) ia3 hC164 r r r r r .mk) (.cg r r r r (fun _=>.fa un72 r sz3 r (o:=o161+s148.toNat*2) r r r .mk) (.cg r r r r (fun _=>.ixa un25 sz72 r e163 r h157 (idx_lt hx159 h157) r r .mk) (.ck 1 r r (.cg r r r r (fun _=>.load1 ia25 r (.s (.s .z)) r r r .mk) (.cg r r r r (fun _=>.fa un37 r sz25 r (o:=1) r r r .mk) (.ck 1 r r trivial))))))))))))) (.ww r fun ex=>?_)
   have hw180:=W_law02_Value (I:=I151) hd
   refine .callP call37 r hw180 r r fun v181 hv182=>?_
   obtain ⟨r179,rfl,hd⟩:=hv182
   refine .so 4 r r r (.cg r r r r (fun _=>.ld1 (j:=0) ia3 hC164 r r r r r .mk) (.cg r r r r (fun _=>.fa un72 r sz3 r (o:=o161+s148.toNat*2) r r r .mk) (.cg r r r r (fun _=>.ixa un25 sz72 r e163 r h157 (idx_lt hx159 h157) r r .mk) (.ck 1 r r (.cg r r r r (fun _=>.load1 ia25 r (.s (.s .z)) r r r .mk) (.cg r r r r (fun _=>.fa un37 r sz25 r (o:=1) r r r .mk) (.ck 1 r r trivial))))))) (.g r r r (fun _=>.build zv72 un72 BI72 (.c r r r (.t .nil) (.c r r r (.s (.t .nil)) .n)) (by exact ⟨⟨_,_,r,r,r⟩,⟨⟨_,_,r,r,r⟩,trivial⟩⟩) r r .mk) (.ww r fun ex=>?_))
   refine .buildSlice 1 un25 sz72 zv72 r r (.c r r r .n) r r fun b183=>?_
   refine .so 5 r r r (.ck 1 r r trivial) (.ww r fun ex=>?_)
   obtain ⟨hl185,hd⟩:=hd
   refine .append (ys:=[({ At:=x158.At,Val:=r179 }:Item)]) 16 (.s (.s (.s (.s .z)))) un25 un25 IN72 r r r r r r r r r (.box .z (.one r) r) hl185 r r fun p186 c187=>?_
   exact .so 5 r r r trivial (.e2 20 (.ks 1 r (.nilS [6,7,5,4,2] r r (.drop (.s .z) (.region (.ks 3 r (.nil' fun c w ho hs=>⟨((s144++([({ At:=x158.At,Val:=r179 }:Item)])),w64 (s148+1)),hd,I151,_,_,hl152,ho.sub ⟨r,r,r,r,r,trivial⟩,hs.pick (.c (.s .z) (.c (.s .z) (.c (.s .z) (.c .z .n))))⟩)))))))
 refine .exitS [6,5,4] r r (.drop .z (.sr (.fa un37 r sz3 r (o:=0) r r r (.load1 ia3 r (.s .z) r r r (.ks 1 r (.build zv37 un37 BI37 (.c r r r (.t .nil) (.c r r r (.s (.t .nil)) .n)) (by exact ⟨⟨_,_,r,r,r⟩,⟨⟨_,_,r,r,r⟩,trivial⟩⟩) r r (.storeA sz37 r r .z (.t (.t .nil)) r r (.nilS [4] r r (.drop (.s .z) ?_)))))))))
 refine .pub (.s .z) fun I189 hl190 R191=>?_
 have le192:=IH.le.trans le153 hl190
 have le193:=IH.le.trans hl152 hl190
 exact .ret (pret results9 (.w ia37 sz37 r .z r .n) le192 ⟨({ N:=r47.N,Items:=s144 }:Vec),_,_,r,R191,hd⟩)
theorem W_ref07_Right {I:IH} {a0:Rows} {p1:Option Addr} {c2:Nat} {p4:Option Addr} {c5:Nat} {p7:Option Addr} {c8:Nat} {Q:Bool→Prop} (R3:RepSl eI64 I p1 c2 a0.Start) (R6:RepSl eI64 I p4 c5 a0.Col) (R9:RepSl eI64 I p7 c8 a0.Val) (hd:ref07_Right a0 Q) :
  PFun prog 45 [.agg #[.int .i64 a0.Rows,.int .i64 a0.Cols,.slice p1 a0.Start.length c2,.slice p4 a0.Col.length c5,.slice p7 a0.Val.length c8]] I (fun _=>o1_ Q):=by
 refine Fun.enter func45 r ntmps45 r (.c .n) fun w0 M=>?_
 refine .sr (.boxA r r r fun b12=>?_)
 refine .ks 1 r (.nilS [1] r r (.seq (.sr (.fa un34 r sz3 r (o:=0) r r r (.load1 ia3 r .z r r r (.ks 2 r ?_))))))
 refine splitP hd (fun hb21 hd=>?_) fun hb21 hd=>?_
 · rw [hb21]
   exact .ks 38 r (.nilS [46,1] r r (.condKT r r (.sr (.ks 1 r (.nilS [2] r r (.drop .z (.ret (pret results45 (.t r .n) (.refl _) ⟨false,r,hd⟩))))))))
 rw [hb21]
 refine .gyes r r r (.fa un34 r sz3 r (o:=0) r r r (.gyes r r r (.load1 ia3 r .z r r r (.ks 3 r ?_))))
 refine splitP hd (fun hb22 hd=>?_) fun hb22 hd=>?_
 · rw [hb22]
   exact .ks 33 r (.nilS [46,1] r r (.condKT r r (.sr (.ks 1 r (.nilS [2] r r (.drop .z (.ret (pret results45 (.t r .n) (.refl _) ⟨false,r,hd⟩))))))))
 rw [hb22]
 refine .gyes r r r (.fa un34 r sz3 r (o:=1) r r r (.gyes r r r (.load1 ia3 r .z r r r (.ks 3 r ?_))))
 refine splitP hd (fun hb23 hd=>?_) fun hb23 hd=>?_
 · rw [hb23]
   exact .ks 28 r (.nilS [46,1] r r (.condKT r r (.sr (.ks 1 r (.nilS [2] r r (.drop .z (.ret (pret results45 (.t r .n) (.refl _) ⟨false,r,hd⟩))))))))
 rw [hb23]
 refine .gyes r r r (.fa un34 r sz3 r (o:=1) r r r (.gyes r r r (.load1 ia3 r .z r r r (.ks 3 r ?_))))
 refine splitP hd (fun hb24 hd=>?_) fun hb24 hd=>?_
 · rw [hb24]
   exact .ks 23 r (.nilS [46,1] r r (.condKT r r (.sr (.ks 1 r (.nilS [2] r r (.drop .z (.ret (pret results45 (.t r .n) (.refl _) ⟨false,r,hd⟩))))))))
 rw [hb24]
 refine .gyes r r r (.fa un34 r sz31 r (o:=2) r r r (.gyes r r r (.load1 ia31 r .z r r r (.gyes r r r (.len un31 r r r r (.gyes r r r (.fa un34 r sz3 r (o:=0) r r r (.gyes r r r (.load1 ia3 r .z r r r (.ks 4 r ?_))))))))))
 refine splitP hd (fun hb25 hd=>?_) fun hb25 hd=>?_
 · rw [hb25]
   exact .ks 14 r (.nilS [46,1] r r (.condKT r r (.sr (.ks 1 r (.nilS [2] r r (.drop .z (.ret (pret results45 (.t r .n) (.refl _) ⟨false,r,hd⟩))))))))
 rw [hb25]
 refine .gyes r r r (.fa un34 r sz31 r (o:=3) r r r (.gyes r r r (.load1 ia31 r .z r r r (.gyes r r r (.len un31 r r r r (.gyes r r r (.fa un34 r sz32 r (o:=4) r r r (.gyes r r r (.load1 ia32 r .z r r r (.gyes r r r (.len un32 r r r r (.ks 3 r ?_))))))))))))
 refine splitP hd (fun hb26 hd=>?_) fun hb26 hd=>?_
 · rw [hb26]
   exact .ks 5 r (.nilS [46,1] r r (.condKT r r (.sr (.ks 1 r (.nilS [2] r r (.drop .z (.ret (pret results45 (.t r .n) (.refl _) ⟨false,r,hd⟩))))))))
 rw [hb26]
 refine .gyes r r r (.fa un34 r sz31 r (o:=3) r r r (.gyes r r r (.load1 ia31 r .z r r r (.gyes r r r (.len un31 r r r r (.ks 2 r (.nilS [46,1] r r (.condP r hd (fun hb27 hd=>?_) fun hb27 hd=>?_))))))))
 · exact .sr (.ks 1 r (.nilS [2] r r (.drop .z (.ret (pret results45 (.t r .n) (.refl _) ⟨false,r,hd⟩)))))
 refine .skipS [1] r r (.seq (.seq (.dr [0,1,2,3,4,5,6,7,8,9,10,11,12,13,14,15,16] 17 (.g r r r (fun _=>.fa un34 r sz31 r (o:=2) r r r .mk) (.g r r r (fun _=>.load1 ia31 r .z r r r .mk) ?_)))))
 obtain ⟨h48,x49,hx50,hd⟩:=hd
 obtain ⟨b51,o52,cs53,e54,hC55,hr56⟩:=R3.2 _ _ hx50
 cases hr56
 refine .g r r r (fun _=>.ixa un31 sz3 r e54 r h48 (idx_lt hx50 h48) r r .mk) (.g r r r (fun _=>.ld1 (j:=0) ia3 hC55 r r r r r .mk) (.fk 2 r ?_))
 refine splitP hd (fun hb57 hd=>?_) fun hb57 hd=>?_
 · rw [hb57]
   exact .fk 11 r (.e2 17 (.nilS [63,1] r r (.condKT r r (.sr (.ks 1 r (.nilS [2] r r (.drop .z (.ret (pret results45 (.t r .n) (.refl _) ⟨false,r,hd⟩)))))))))
 rw [hb57]
 refine .g r r r (fun _=>.gyes r r r (.fa un34 r sz31 r (o:=2) r r r .mk)) (.g r r r (fun _=>.gyes r r r (.load1 ia31 r .z r r r .mk)) (.g r r r (fun _=>.gyes r r r (.fa un34 r sz3 r (o:=0) r r r .mk)) (.g r r r (fun _=>.gyes r r r (.load1 ia3 r .z r r r .mk)) ?_)))
 obtain ⟨h58,x59,hx60,hd⟩:=hd
 obtain ⟨b61,o62,cs63,e64,hC65,hr66⟩:=R3.2 _ _ hx60
 cases hr66
 refine .g r r r (fun _=>.gyes r r r (.ixa un31 sz3 r e64 r h58 (idx_lt hx60 h58) r r .mk)) (.g r r r (fun _=>.gyes r r r (.ld1 (j:=0) ia3 hC65 r r r r r .mk)) (.g r r r (fun _=>.gyes r r r (.fa un34 r sz31 r (o:=3) r r r .mk)) (.g r r r (fun _=>.gyes r r r (.load1 ia31 r .z r r r .mk)) (.g r r r (fun _=>.gyes r r r (.len un31 r r r r .mk)) (.fk 2 r (.e2 17 (.nilS [63,1] r r (.condP r hd (fun hb67 hd=>?_) fun hb67 hd=>?_))))))))
 · exact .sr (.ks 1 r (.nilS [2] r r (.drop .z (.ret (pret results45 (.t r .n) (.refl _) ⟨false,r,hd⟩)))))
 refine .skipS [1] r r (.seq (.sr (.ks 1 r (.nilS [3,1] r r (.block (.loop hd (fun (s695:Int) c w=>∃ I_,IH.le I I_∧Ok ⟨156,[],none⟩ [(1,.pointer (some ⟨b12,0,none⟩)),(3,.int .i64 s695)] c∧Sym w0 M I I_ [pto b12 (.cells #[.int .i64 a0.Rows,.int .i64 a0.Cols,.slice p1 a0.Start.length c2,.slice p4 a0.Col.length c5,.slice p7 a0.Val.length c8] 34 (0,0))] w) (fun c w ho hs=>⟨I,(.refl _),ho.sub ⟨r,r,trivial⟩,hs.pick (.c .z .n)⟩) ?_))))))
 rintro s695 next696 hd c w hst
 obtain ⟨I697,hl698,hok,hsym⟩:=hst
 replace R3:=R3.mono hl698
 replace R6:=R6.mono hl698
 replace R9:=R9.mono hl698
 refine Cod.at hok hsym (.seq (.sr (.ks 1 r (.fa un34 r sz3 r (o:=0) r r r (.load1 ia3 r .z r r r (.ks 1 r (.nilS [67,3,1] r r (.condP r hd (fun hb700 hd=>?_) fun hb700 hd=>?_))))))))
 · refine .skipS [3,1] r r (.seq (.block (.seq (.seq (.dr [0,1,2,3,4,5,6,7,8,9,10,11,12,13,14,15,16,17,18,19,20,21,22,23,24,25,26,27,28,29,30,31] 32 (.g r r r (fun _=>.fa un34 r sz31 r (o:=2) r r r .mk) (.g r r r (fun _=>.load1 ia31 r .z r r r .mk) (.fk 1 r ?_))))))))
   obtain ⟨h740,x741,hx742,hd⟩:=hd
   obtain ⟨b743,o744,cs745,e746,hC747,hr748⟩:=R3.2 _ _ hx742
   cases hr748
   refine .g r r r (fun _=>.ixa un31 sz3 r e746 r h740 (idx_lt hx742 h740) r r .mk) (.g r r r (fun _=>.ld1 (j:=0) ia3 hC747 r r r r r .mk) (.g r r r (fun _=>.fa un34 r sz31 r (o:=2) r r r .mk) (.g r r r (fun _=>.load1 ia31 r .z r r r .mk) (.fk 2 r ?_))))
   obtain ⟨h749,x750,hx751,hd⟩:=hd
   obtain ⟨b752,o753,cs754,e755,hC756,hr757⟩:=R3.2 _ _ hx751
   cases hr757
   refine .g r r r (fun _=>.ixa un31 sz3 r e755 r h749 (idx_lt hx751 h749) r r .mk) (.g r r r (fun _=>.ld1 (j:=0) ia3 hC756 r r r r r .mk) (.fk 2 r ?_))
   refine splitP hd (fun hb758 hd=>?_) fun hb758 hd=>?_
   · rw [hb758]
     exact .fk 19 r (.e2 32 (.nilS [101,3,1] r r (.condKT r r (.sr (.ks 1 r (.nilS [2] r r (.drop .z (.ret (pret results45 (.t r .n) hl698 ⟨false,r,hd⟩)))))))))
   rw [hb758]
   refine .g r r r (fun _=>.gyes r r r (.fa un34 r sz31 r (o:=2) r r r .mk)) (.g r r r (fun _=>.gyes r r r (.load1 ia31 r .z r r r .mk)) (.fk 1 r ?_))
   obtain ⟨h759,x760,hx761,hd⟩:=hd
   obtain ⟨b762,o763,cs764,e765,hC766,hr767⟩:=R3.2 _ _ hx761
   cases hr767
   refine .g r r r (fun _=>.gyes r r r (.ixa un31 sz3 r e765 r h759 (idx_lt hx761 h759) r r .mk)) (.g r r r (fun _=>.gyes r r r (.ld1 (j:=0) ia3 hC766 r r r r r .mk)) (.fk 3 r ?_))
   refine splitP hd (fun hb768 hd=>?_) fun hb768 hd=>?_
   · rw [hb768]
     exact .fk 11 r (.e2 32 (.nilS [101,3,1] r r (.condKT r r (.sr (.ks 1 r (.nilS [2] r r (.drop .z (.ret (pret results45 (.t r .n) hl698 ⟨false,r,hd⟩)))))))))
   rw [hb768]
   refine .g r r r (fun _=>.gyes r r r (.fa un34 r sz31 r (o:=2) r r r .mk)) (.g r r r (fun _=>.gyes r r r (.load1 ia31 r .z r r r .mk)) (.fk 2 r ?_))
   obtain ⟨h769,x770,hx771,hd⟩:=hd
   obtain ⟨b772,o773,cs774,e775,hC776,hr777⟩:=R3.2 _ _ hx771
   cases hr777
   refine .g r r r (fun _=>.gyes r r r (.ixa un31 sz3 r e775 r h769 (idx_lt hx771 h769) r r .mk)) (.g r r r (fun _=>.gyes r r r (.ld1 (j:=0) ia3 hC776 r r r r r .mk)) (.g r r r (fun _=>.gyes r r r (.fa un34 r sz31 r (o:=3) r r r .mk)) (.g r r r (fun _=>.gyes r r r (.load1 ia31 r .z r r r .mk)) (.g r r r (fun _=>.gyes r r r (.len un31 r r r r .mk)) (.fk 2 r (.e2 32 (.nilS [101,3,1] r r (.condP r hd (fun hb778 hd=>?_) fun hb778 hd=>?_))))))))
   · exact .sr (.ks 1 r (.nilS [2] r r (.drop .z (.ret (pret results45 (.t r .n) hl698 ⟨false,r,hd⟩)))))
   refine .skipS [3,1] r r (.sr (.fa un34 r sz31 r (o:=2) r r r (.load1 ia31 r .z r r r (.ks 1 r ?_))))
   obtain ⟨h788,x789,hx790,hd⟩:=hd
   obtain ⟨b791,o792,cs793,e794,hC795,hr796⟩:=R3.2 _ _ hx790
   cases hr796
   refine .ixa un31 sz3 r e794 r h788 (idx_lt hx790 h788) r r (.ld1 (j:=0) ia3 hC795 r r r r r (.ks 1 r (.nilS [4,3,1] r r (.block (.loop hd (fun (s938:Int) c w=>∃ I_,IH.le I697 I_∧Ok ⟨156,[],none⟩ [(1,.pointer (some ⟨b12,0,none⟩)),(3,.int .i64 s695),(4,.int .i64 s938)] c∧Sym w0 M I I_ [pto b12 (.cells #[.int .i64 a0.Rows,.int .i64 a0.Cols,.slice p1 a0.Start.length c2,.slice p4 a0.Col.length c5,.slice p7 a0.Val.length c8] 34 (0,0))] w) (fun c w ho hs=>⟨I697,(.refl _),ho.sub ⟨r,r,r,trivial⟩,hs.pick (.c .z .n)⟩) ?_)))))
   rintro s938 next939 hd c w hst
   obtain ⟨I940,hl941,hok,hsym⟩:=hst
   have le942:=IH.le.trans hl698 hl941
   replace R3:=R3.mono hl941
   replace R6:=R6.mono hl941
   replace R9:=R9.mono hl941
   refine Cod.at hok hsym (.seq (.sr (.ks 1 r (.fa un34 r sz31 r (o:=2) r r r (.load1 ia31 r .z r r r (.ks 2 r ?_))))))
   obtain ⟨h953,x954,hx955,hd⟩:=hd
   obtain ⟨b956,o957,cs958,e959,hC960,hr961⟩:=R3.2 _ _ hx955
   cases hr961
   refine .ixa un31 sz3 r e959 r h953 (idx_lt hx955 h953) r r (.ld1 (j:=0) ia3 hC960 r r r r r (.ks 1 r (.nilS [114,4,3,1] r r (.condP r hd (fun hb962 hd=>?_) fun hb962 hd=>?_))))
   · refine .skipS [4,3,1] r r (.seq (.block (.seq (.dr [0,1,2,3,4,5,6,7,8,9,10,11,12,13,14,15,16,17,18,19,20,21,22,23,24,25,26,27,28,29,30,31,32,33,34,35,36,37,38] 39 (.g r r r (fun _=>.fa un34 r sz31 r (o:=3) r r r .mk) (.g r r r (fun _=>.load1 ia31 r .z r r r .mk) (.fk 1 r ?_)))))))
     obtain ⟨h963,x964,hx965,hd⟩:=hd
     obtain ⟨b966,o967,cs968,e969,hC970,hr971⟩:=R6.2 _ _ hx965
     cases hr971
     refine .g r r r (fun _=>.ixa un31 sz3 r e969 r h963 (idx_lt hx965 h963) r r .mk) (.g r r r (fun _=>.ld1 (j:=0) ia3 hC970 r r r r r .mk) (.fk 2 r ?_))
     refine splitP hd (fun hb972 hd=>?_) fun hb972 hd=>?_
     · rw [hb972]
       exact .fk 32 r (.e2 39 (.nilS [155,4,3,1] r r (.condKT r r (.sr (.ks 1 r (.nilS [2] r r (.drop .z (.ret (pret results45 (.t r .n) le942 ⟨false,r,hd⟩)))))))))
     rw [hb972]
     refine .g r r r (fun _=>.gyes r r r (.fa un34 r sz31 r (o:=3) r r r .mk)) (.g r r r (fun _=>.gyes r r r (.load1 ia31 r .z r r r .mk)) (.fk 1 r ?_))
     obtain ⟨h973,x974,hx975,hd⟩:=hd
     obtain ⟨b976,o977,cs978,e979,hC980,hr981⟩:=R6.2 _ _ hx975
     cases hr981
     refine .g r r r (fun _=>.gyes r r r (.ixa un31 sz3 r e979 r h973 (idx_lt hx975 h973) r r .mk)) (.g r r r (fun _=>.gyes r r r (.ld1 (j:=0) ia3 hC980 r r r r r .mk)) (.g r r r (fun _=>.gyes r r r (.fa un34 r sz3 r (o:=1) r r r .mk)) (.g r r r (fun _=>.gyes r r r (.load1 ia3 r .z r r r .mk)) (.fk 3 r ?_))))
     refine splitP hd (fun hb982 hd=>?_) fun hb982 hd=>?_
     · rw [hb982]
       exact .fk 22 r (.e2 39 (.nilS [155,4,3,1] r r (.condKT r r (.sr (.ks 1 r (.nilS [2] r r (.drop .z (.ret (pret results45 (.t r .n) le942 ⟨false,r,hd⟩)))))))))
     rw [hb982]
     refine .fk 1 r (.g r r r (fun _=>.gyes r r r (.fa un34 r sz31 r (o:=2) r r r .mk)) (.g r r r (fun _=>.gyes r r r (.load1 ia31 r .z r r r .mk)) (.fk 1 r ?_)))
     obtain ⟨h983,x984,hx985,hd⟩:=hd
     obtain ⟨b986,o987,cs988,e989,hC990,hr991⟩:=R3.2 _ _ hx985
     cases hr991
     refine .g r r r (fun _=>.gyes r r r (.ixa un31 sz3 r e989 r h983 (idx_lt hx985 h983) r r .mk)) (.g r r r (fun _=>.gyes r r r (.ld1 (j:=0) ia3 hC990 r r r r r .mk)) (.fk 2 r ?_))
     refine splitP hd (fun hb992 hd=>?_) fun hb992 hd=>?_
     · rw [hb992]
       refine .g r r r (fun _=>.gyes r r r (.fa un34 r sz31 r (o:=3) r r r .mk)) (.g r r r (fun _=>.gyes r r r (.load1 ia31 r .z r r r .mk)) (.fk 1 r ?_))
       obtain ⟨h993,x994,hx995,hd⟩:=hd
       obtain ⟨b996,o997,cs998,e999,hC1000,hr1001⟩:=R6.2 _ _ hx995
       cases hr1001
       refine .g r r r (fun _=>.gyes r r r (.ixa un31 sz3 r e999 r h993 (idx_lt hx995 h993) r r .mk)) (.g r r r (fun _=>.gyes r r r (.ld1 (j:=0) ia3 hC1000 r r r r r .mk)) (.g r r r (fun _=>.gyes r r r (.fa un34 r sz31 r (o:=3) r r r .mk)) (.g r r r (fun _=>.gyes r r r (.load1 ia31 r .z r r r .mk)) (.fk 2 r ?_))))
       obtain ⟨h1002,x1003,hx1004,hd⟩:=hd
       obtain ⟨b1005,o1006,cs1007,e1008,hC1009,hr1010⟩:=R6.2 _ _ hx1004
       cases hr1010
       refine .g r r r (fun _=>.gyes r r r (.ixa un31 sz3 r e1008 r h1002 (idx_lt hx1004 h1002) r r .mk)) (.g r r r (fun _=>.gyes r r r (.ld1 (j:=0) ia3 hC1009 r r r r r .mk)) (.fk 3 r (.e2 39 (.nilS [155,4,3,1] r r (.condP r hd (fun hb1011 hd=>?_) fun hb1011 hd=>?_)))))
       · exact .sr (.ks 1 r (.nilS [2] r r (.drop .z (.ret (pret results45 (.t r .n) le942 ⟨false,r,hd⟩)))))
       exact .skipS [4,3,1] r r (.region (.ks 3 r (.nil' fun c w ho hs=>⟨(w64 (s938+1)),hd,I940,hl941,ho.sub ⟨r,r,r,trivial⟩,hs.pick (.c .z .n)⟩)))
     rw [hb992]
     exact .fk 14 r (.e2 39 (.nilS [155,4,3,1] r r (.condKF r r (.skipS [4,3,1] r r (.region (.ks 3 r (.nil' fun c w ho hs=>⟨(w64 (s938+1)),hd,I940,hl941,ho.sub ⟨r,r,r,trivial⟩,hs.pick (.c .z .n)⟩)))))))
   exact .exitS [3,1] r r (.region (.ks 3 r (.nil' fun c w ho hs=>⟨(w64 (s695+1)),hd,I940,le942,ho.sub ⟨r,r,trivial⟩,hs.pick (.c .z .n)⟩)))
 exact .exitS [] r r (.drop .z (.sr (.ks 1 r (.nilS [2] r r (.ret (pret results45 (.t r .n) hl698 ⟨true,r,hd⟩))))))
theorem W_ref18_sides {I:IH} {a0:Int} {a1:Int} {Q:Bool→Prop}  (hd:ref18_sides a0 a1 Q) :
  PFun prog 46 [.int .i64 a0,.int .i64 a1] I (fun _=>o1_ Q):=by
 refine Fun.enter func46 r ntmps46 r (.c (.c .n)) fun w0 M=>?_
 refine .sr (.ks 1 r (.nilS [1,0] r r (.sr (.ks 3 r ?_))))
 refine splitP hd (fun hb1 hd=>?_) fun hb1 hd=>?_
 · rw [hb1]
   refine .ks 4 r ?_
   refine splitP hd (fun hb2 hd=>?_) fun hb2 hd=>?_
   · rw [hb2]
     refine .ks 4 r ?_
     refine splitP hd (fun hb3 hd=>?_) fun hb3 hd=>?_
     · rw [hb3]
       exact .ks 4 r (.nilS [4] r r (.ret (pret results46 (.t r .n) (.refl _) ⟨(decide (a1≤8)),r,hd⟩)))
     rw [hb3]
     exact .ks 4 r (.nilS [4] r r (.ret (pret results46 (.t r .n) (.refl _) ⟨false,r,hd⟩)))
   rw [hb2]
   exact .ks 8 r (.nilS [4] r r (.ret (pret results46 (.t r .n) (.refl _) ⟨false,r,hd⟩)))
 rw [hb1]
 exact .ks 12 r (.nilS [4] r r (.ret (pret results46 (.t r .n) (.refl _) ⟨false,r,hd⟩)))
theorem W_ref17_may {I:IH} {a0:Int} {a1:Int} {Q:Bool→Prop}  (hd:ref17_may a0 a1 Q) :
  PFun prog 97 [.int .i64 a0,.int .i64 a1] I (fun _=>o1_ Q):=by
 refine Fun.enter func97 r ntmps97 r (.c (.c .n)) fun w0 M=>?_
 refine .sr (.ks 1 r (.nilS [1,0] r r (.sr (.ks 3 r ?_))))
 refine splitP hd (fun hb1 hd=>?_) fun hb1 hd=>?_
 · rw [hb1]
   refine .ks 4 r ?_
   refine splitP hd (fun hb2 hd=>?_) fun hb2 hd=>?_
   · rw [hb2]
     refine .ks 4 r ?_
     refine splitP hd (fun hb3 hd=>?_) fun hb3 hd=>?_
     · rw [hb3]
       exact .ks 4 r (.nilS [4] r r (.ret (pret results97 (.t r .n) (.refl _) ⟨(decide (a1≤8)),r,hd⟩)))
     rw [hb3]
     exact .ks 4 r (.nilS [4] r r (.ret (pret results97 (.t r .n) (.refl _) ⟨false,r,hd⟩)))
   rw [hb2]
   exact .ks 8 r (.nilS [4] r r (.ret (pret results97 (.t r .n) (.refl _) ⟨false,r,hd⟩)))
 rw [hb1]
 exact .ks 12 r (.nilS [4] r r (.ret (pret results97 (.t r .n) (.refl _) ⟨false,r,hd⟩)))
theorem W_ref17_Low {I:IH} {a0:Int} {a1:Int} {a2:Int} {Q:Int→Prop}  (hd:ref17_Low a0 a1 a2 Q) :
  PFun prog 48 [.int .i64 a0,.int .i64 a1,.int .i64 a2] I (fun _=>o0_ Q):=by
 refine Fun.enter func48 r ntmps48 r (.c (.c (.c .n))) fun w0 M=>?_
 refine .sr (.ks 1 r (.nilS [2,1,0] r r (.seq (.sr (.ks 2 r ?_)))))
 have hw8:=W_ref17_may (I:=I) hd
 refine .callP call97 r hw8 r r fun v9 hv10=>?_
 obtain ⟨r7,rfl,hd⟩:=hv10
 refine .ks 2 r ?_
 refine splitP hd (fun hb11 hd=>?_) fun hb11 hd=>?_
 · rw [hb11]
   exact .ks 3 r (.nilS [14,2,1,0] r r (.condKT r r (.sr (.ks 1 r (.nilS [6] r r (.ret (pret results48 (.t r .n) (.refl _) ⟨0,r,hd⟩)))))))
 rw [hb11]
 refine .ks 3 r (.nilS [14,2,1,0] r r (.condP r hd (fun hb12 hd=>?_) fun hb12 hd=>?_))
 · exact .sr (.ks 1 r (.nilS [6] r r (.ret (pret results48 (.t r .n) (.refl _) ⟨0,r,hd⟩))))
 refine .skipS [2,1,0] r r (.seq (.sr (.ks 3 r (.nilS [17,2,1,0] r r (.condP r hd (fun hb13 hd=>?_) fun hb13 hd=>?_)))))
 · exact .sr (.ks 2 r (.nilS [6] r r (.ret (pret results48 (.t r .n) (.refl _) ⟨a0,r,hd⟩))))
 refine .skipS [2,1,0] r r (.sr (.ks 4 r ?_))
 obtain ⟨hz14,hd⟩:=hd
 exact .quo r r hz14 r r (.ks 1 r (.nilS [6] r r (.ret (pret results48 (.t r .n) (.refl _) ⟨(w64 ((w64 (a2*a0)).tdiv a1)),r,hd⟩))))
theorem W_ref07_Sure {I:IH} {a0:Rows} {p1:Option Addr} {c2:Nat} {p4:Option Addr} {c5:Nat} {p7:Option Addr} {c8:Nat} {Q:Rows→Prop} (R3:RepSl eI64 I p1 c2 a0.Start) (R6:RepSl eI64 I p4 c5 a0.Col) (R9:RepSl eI64 I p7 c8 a0.Val) (hd:ref07_Sure a0 Q) :
  PFun prog 76 [.agg #[.int .i64 a0.Rows,.int .i64 a0.Cols,.slice p1 a0.Start.length c2,.slice p4 a0.Col.length c5,.slice p7 a0.Val.length c8]] I (o9_ Q):=by
 refine Fun.enter func76 r ntmps76 r (.c .n) fun w0 M=>?_
 refine .sr (.boxA r r r fun b23=>?_)
 refine .allocA zv34 r r fun b25=>?_
 refine .nilS [2,1] r r (.seq (.sr (.loadW ia34 sz34 r (.s .z) r r r ?_)))
 have hw28:=W_ref07_Right (I:=I) R3 R6 R9 hd
 refine .callP call45 r hw28 r r fun v29 hv30=>?_
 obtain ⟨r27,rfl,hd⟩:=hv30
 refine .nilS [4,2,1] r r (.condP r hd (fun hb31 hd=>?_) fun hb31 hd=>?_)
 · exact .sr (.loadW ia34 sz34 r (.s .z) r r r (.storeA sz34 r r .z (.t (.t (.t (.t (.t .nil))))) r r (.nilS [2] r r (.drop (.s .z) (.ret (pret results76 (.w ia34 sz34 r .z r .n) (.refl _) ⟨a0,_,_,_,_,_,_,r,R3,R6,R9,hd⟩))))))
 refine .skipS [2] r r (.drop (.s .z) (.sr ?_))
 have hw50:=W_ref07_Empty (I:=I) hd
 refine .callO call47 r hw50 r r fun v36 I33 l37 hl34 hv35=>?_
 obtain ⟨r32,p38,c39,p41,c42,p44,c45,rfl,rfl,hd⟩:=hv35
 refine .storeA sz34 r r (.s (.s (.s .z))) (.t (.t (.t (.t (.t .nil))))) r r (.nilS [2] r r (.pub .z fun I51 hl52 R53=>?_))
 have le54:=IH.le.trans hl34 hl52
 refine .pub .z fun I55 hl56 R57=>?_
 have le58:=IH.le.trans le54 hl56
 replace R53:=R53.mono hl56
 refine .pub .z fun I59 hl60 R61=>?_
 have le62:=IH.le.trans le58 hl60
 replace R53:=R53.mono hl60
 replace R57:=R57.mono hl60
 exact .ret (pret results76 (.w ia34 sz34 r .z r .n) le62 ⟨r32,_,_,_,_,_,_,r,R53,R57,R61,hd⟩)
theorem W_ref07_Triples {I:IH} {a0:Rows} {p1:Option Addr} {c2:Nat} {p4:Option Addr} {c5:Nat} {p7:Option Addr} {c8:Nat} {Q:(List Triple)→Prop} (R3:RepSl eI64 I p1 c2 a0.Start) (R6:RepSl eI64 I p4 c5 a0.Col) (R9:RepSl eI64 I p7 c8 a0.Val) (hd:ref07_Triples a0 Q) :
  PFun prog 68 [.agg #[.int .i64 a0.Rows,.int .i64 a0.Cols,.slice p1 a0.Start.length c2,.slice p4 a0.Col.length c5,.slice p7 a0.Val.length c8]] I (fun I_ v=>∃ r p10 c11,v=.slice p10 r.length c11∧RepSl eTriple I_ p10 c11 r∧Q r):=by
 refine Fun.enter func68 r ntmps68 r (.c .n) fun w0 M=>?_
 refine .sr (.boxA r r r fun b15=>?_)
 refine .ks 1 r (.nilS [1] r r (.sr (.loadW ia34 sz34 r .z r r r ?_)))
 have hw48:=W_ref07_Sure (I:=I) R3 R6 R9 hd
 refine .call call76 r hw48 r r fun v37 I34 hl35 hv36=>?_
 obtain ⟨r33,p39,c40,p42,c43,p45,c46,rfl,R41,R44,R47,hd⟩:=hv36
 replace R3:=R3.mono hl35
 replace R6:=R6.mono hl35
 replace R9:=R9.mono hl35
 refine .storeA sz34 r r .z (.t (.t (.t (.t (.t .nil))))) r r (.nilS [1] r r (.sr (.ks 1 r (.nilS [3,1] r r (.seq (.sr (.ks 1 r (.nilS [4,3,1] r r (.block ?_)))))))))
 refine .own0 eTriple 75 (.loop hd (fun (s:(List Triple)×Int) c w=>match s with | (s423,s427)=>∃ I_ p424 c425,IH.le I34 I_∧Ok ⟨45,[],none⟩ [(1,.pointer (some ⟨b15,0,none⟩)),(3,.slice p424 s423.length c425),(4,.int .i64 s427)] c∧Sym w0 M I I_ [pto b15 (.cells #[.int .i64 r33.Rows,.int .i64 r33.Cols,.slice p39 r33.Start.length c40,.slice p42 r33.Col.length c43,.slice p45 r33.Val.length c46] 34 (0,0)),OwnSl eTriple 75 p424 c425 s423] w) (fun c w ho hs=>⟨I34,_,_,(.refl _),ho.sub ⟨r,r,r,trivial⟩,hs.pick (.c (.s .z) (.c .z .n))⟩) ?_)
 rintro ⟨s423,s427⟩ next429 hd c w hst
 obtain ⟨I430,p424,c425,hl431,hok,hsym⟩:=hst
 have le432:=IH.le.trans hl35 hl431
 replace R41:=R41.mono hl431
 replace R44:=R44.mono hl431
 replace R47:=R47.mono hl431
 refine Cod.at hok hsym (.seq (.sr (.ks 1 r (.fa un34 r sz3 r (o:=0) r r r (.load1 ia3 r .z r r r (.ks 1 r (.nilS [11,4,3,1] r r (.condP r hd (fun hb434 hd=>?_) fun hb434 hd=>?_))))))))
 · refine .skipS [4,3,1] r r (.seq (.block (.sr (.fa un34 r sz31 r (o:=2) r r r (.load1 ia31 r .z r r r (.ks 1 r ?_))))))
   obtain ⟨h444,x445,hx446,hd⟩:=hd
   obtain ⟨b447,o448,cs449,e450,hC451,hr452⟩:=R41.2 _ _ hx446
   cases hr452
   refine .ixa un31 sz3 r e450 r h444 (idx_lt hx446 h444) r r (.ld1 (j:=0) ia3 hC451 r r r r r (.ks 1 r (.nilS [5,4,3,1] r r (.block (.loop hd (fun (s:(List Triple)×Int) c w=>match s with | (s558,s562)=>∃ I_ p559 c560,IH.le I430 I_∧Ok ⟨45,[],none⟩ [(1,.pointer (some ⟨b15,0,none⟩)),(3,.slice p559 s558.length c560),(4,.int .i64 s427),(5,.int .i64 s562)] c∧Sym w0 M I I_ [pto b15 (.cells #[.int .i64 r33.Rows,.int .i64 r33.Cols,.slice p39 r33.Start.length c40,.slice p42 r33.Col.length c43,.slice p45 r33.Val.length c46] 34 (0,0)),OwnSl eTriple 75 p559 c560 s558] w) (fun c w ho hs=>⟨I430,_,_,(.refl _),ho.sub ⟨r,r,r,r,trivial⟩,hs.pick (.c .z (.c .z .n))⟩) ?_)))))
   rintro ⟨s558,s562⟩ next563 hd c w hst
   obtain ⟨I564,p559,c560,hl565,hok,hsym⟩:=hst
   have le566:=IH.le.trans le432 hl565
   have le567:=IH.le.trans hl431 hl565
   replace R41:=R41.mono hl565
   replace R44:=R44.mono hl565
   replace R47:=R47.mono hl565
   refine Cod.at hok hsym (.seq (.sr (.ks 1 r (.fa un34 r sz31 r (o:=2) r r r (.load1 ia31 r .z r r r (.ks 2 r ?_))))))
   obtain ⟨h578,x579,hx580,hd⟩:=hd
   obtain ⟨b581,o582,cs583,e584,hC585,hr586⟩:=R41.2 _ _ hx580
   cases hr586
   refine .ixa un31 sz3 r e584 r h578 (idx_lt hx580 h578) r r (.ld1 (j:=0) ia3 hC585 r r r r r (.ks 1 r (.nilS [26,5,4,3,1] r r (.condP r hd (fun hb587 hd=>?_) fun hb587 hd=>?_))))
   · refine .skipS [5,4,3,1] r r (.seq (.block (.ownF (.s .z) fun hne588=>?_)))
     refine .dr [0,1,2,3,4,5,6,7,8,9,10,11,12,13,14] 15 (.fk 2 r (.g r r r (fun _=>.fa un34 r sz31 r (o:=3) r r r .mk) (.g r r r (fun _=>.load1 ia31 r .z r r r .mk) (.fk 1 r ?_))))
     obtain ⟨h589,x590,hx591,hd⟩:=hd
     obtain ⟨b592,o593,cs594,e595,hC596,hr597⟩:=R44.2 _ _ hx591
     cases hr597
     refine .g r r r (fun _=>.ixa un31 sz3 r e595 r h589 (idx_lt hx591 h589) r r .mk) (.g r r r (fun _=>.ld1 (j:=0) ia3 hC596 r r r r r .mk) (.g r r r (fun _=>.fa un34 r sz32 r (o:=4) r r r .mk) (.g r r r (fun _=>.load1 ia32 r .z r r r .mk) (.fk 1 r ?_))))
     obtain ⟨h598,x599,hx600,hd⟩:=hd
     obtain ⟨b601,o602,cs603,e604,hC605,hr606⟩:=R47.2 _ _ hx600
     cases hr606
     refine .g r r r (fun _=>.ixa un32 sz2 r e604 r h598 (idx_lt hx600 h598) r r .mk) (.g r r r (fun _=>.ld1 (j:=0) ia2 hC605 r r r r r .mk) (.g r r r (fun _=>.build zv75 un75 BI75 (.c r r r (.t .nil) (.c r r r (.s (.t .nil)) (.c r r r (.s (.s (.t .nil))) .n))) (by exact ⟨⟨_,_,r,r,r⟩,⟨⟨_,_,r,r,r⟩,⟨⟨_,_,r,r,r⟩,trivial⟩⟩⟩) r r .mk) (.ww r fun ex=>?_)))
     refine .buildSlice 1 un24 sz75 zv75 r r (.c r r r .n) r r fun b607=>?_
     refine .so 3 r r r (.ck 1 r r trivial) (.ww r fun ex=>?_)
     obtain ⟨hl609,hd⟩:=hd
     refine .append (ys:=[({ Row:=s427,Col:=x590,Val:=x599 }:Triple)]) 24 (.s (.s .z)) un24 un24 IN75 r r r r r r r r r (.box .z (.one r) r) hl609 r r fun p610 c611=>?_
     exact .so 3 r r r trivial (.e2 15 (.ks 1 r (.nilS [3,5,4,1] r r (.drop (.s .z) (.region (.ks 3 r (.nil' fun c w ho hs=>⟨((s558++([({ Row:=s427,Col:=x590,Val:=x599 }:Triple)])),w64 (s562+1)),hd,I564,_,_,hl565,ho.sub ⟨r,r,r,r,trivial⟩,hs.pick (.c (.s .z) (.c .z .n))⟩)))))))
   exact .exitS [4,3,1] r r (.region (.ks 3 r (.nil' fun c w ho hs=>⟨(s558,w64 (s427+1)),hd,I564,_,_,le567,ho.sub ⟨r,r,r,trivial⟩,hs.pick (.c .z (.c .z .n))⟩)))
 refine .exitS [3] r r (.drop .z (.sr (.ks 2 r (.nilS [2] r r (.pub .z fun I613 hl614 R615=>?_)))))
 have le616:=IH.le.trans le432 hl614
 have le617:=IH.le.trans hl431 hl614
 exact .ret (pret results68 (.t r .n) le616 ⟨s423,_,_,r,R615,hd⟩)
theorem W_ref07_Cut {I:IH} {a0:Rows} {a1:Int×Int} {a2:Int×Int} {p1:Option Addr} {c2:Nat} {p4:Option Addr} {c5:Nat} {p7:Option Addr} {c8:Nat} {Q:Rows→Prop} (R3:RepSl eI64 I p1 c2 a0.Start) (R6:RepSl eI64 I p4 c5 a0.Col) (R9:RepSl eI64 I p7 c8 a0.Val) (hd:ref07_Cut a0 a1 a2 Q) :
  PFun prog 49 [.agg #[.int .i64 a0.Rows,.int .i64 a0.Cols,.slice p1 a0.Start.length c2,.slice p4 a0.Col.length c5,.slice p7 a0.Val.length c8],.agg #[.int .i64 a1.1,.int .i64 a1.2],.agg #[.int .i64 a2.1,.int .i64 a2.2]] I (o9_ Q):=by
 refine Fun.enter func49 r ntmps49 r (.c (.c (.c .n))) fun w0 M=>?_
 refine .sr (.boxA r r r fun b27=>?_)
 refine .boxA r r r fun b29=>?_
 refine .boxA r r r fun b31=>?_
 refine .allocA zv34 r r fun b33=>?_
 refine .nilS [6,5,4,3] r r (.sr (.loadW ia34 sz34 r (.s (.s (.s .z))) r r r ?_))
 have hw66:=W_ref07_Sure (I:=I) R3 R6 R9 hd
 refine .call call76 r hw66 r r fun v55 I52 hl53 hv54=>?_
 obtain ⟨r51,p57,c58,p60,c61,p63,c64,rfl,R59,R62,R65,hd⟩:=hv54
 replace R3:=R3.mono hl53
 replace R6:=R6.mono hl53
 replace R9:=R9.mono hl53
 refine .storeA sz34 r r (.s (.s (.s .z))) (.t (.t (.t (.t (.t .nil))))) r r (.nilS [6,5,4,3] r r (.seq (.dr [0,1,2,3,4,5,6] 7 (.g r r r (fun _=>.ixArr (i:=0) un86 sz3 r r (by decide) (o:=0) r r r .mk) (.g r r r (fun _=>.load1 ia3 r (.s (.s .z)) r r r .mk) (.g r r r (fun _=>.maxI r r r r .mk) (.g r r r (fun _=>.ixArr (i:=0) un86 sz3 r r (by decide) (o:=0) r r r .mk) (.g r r r (fun _=>.load1 ia3 r (.s .z) r r r .mk) (.g r r r (fun _=>.maxI r r r r .mk) ?_)))))))))
 refine .fk 1 r (.e2 7 (.ks 1 r (.nilS [8,7,6,5,4,3] r r (.seq (.dr [0,1,2,3,4,5,6,7,8,9,10] 11 (.g r r r (fun _=>.ixArr (i:=1) un86 sz3 r r (by decide) (o:=1) r r r .mk) (.g r r r (fun _=>.load1 ia3 r (.s (.s .z)) r r r .mk) (.g r r r (fun _=>.fa un34 r sz3 r (o:=0) r r r .mk) (.g r r r (fun _=>.load1 ia3 r (.s (.s (.s .z))) r r r .mk) ?_)))))))))
 refine .g r r r (fun _=>.minI r r r r .mk) (.g r r r (fun _=>.ixArr (i:=1) un86 sz3 r r (by decide) (o:=1) r r r .mk) (.g r r r (fun _=>.load1 ia3 r (.s .z) r r r .mk) (.g r r r (fun _=>.fa un34 r sz3 r (o:=1) r r r .mk) (.g r r r (fun _=>.load1 ia3 r (.s (.s (.s .z))) r r r .mk) (.g r r r (fun _=>.minI r r r r .mk) (.fk 1 r (.e2 11 (.ks 1 r (.nilS [10,9,8,7,6,3] r r ?_)))))))))
 refine .drop (.s .z) (.drop (.s .z) (.sr (.loadW ia34 sz34 r (.s .z) r r r ?_)))
 have hw87:=W_ref07_Triples (I:=I52) R59 R62 R65 hd
 refine .call call68 r hw87 r r fun v82 I79 hl80 hv81=>?_
 obtain ⟨r78,p84,c85,rfl,R86,hd⟩:=hv81
 have le88:=IH.le.trans hl53 hl80
 replace R59:=R59.mono hl80
 replace R62:=R62.mono hl80
 replace R65:=R65.mono hl80
 refine .ks 1 r (.nilS [11,10,9,8,7,6] r r (.drop (.s .z) (.sr (.ks 1 r (.nilS [12,11,10,9,8,7,6] r r (.seq (.sr (.ks 1 r (.nilS [13,12,11,10,9,8,7,6] r r ?_)))))))))
 refine .block (.own0 eTriple 75 (.loop hd (fun (s:(List Triple)×Int) c w=>match s with | (s925,s929)=>∃ I_ p926 c927,IH.le I79 I_∧Ok ⟨121,[],none⟩ [(6,.pointer (some ⟨b33,0,none⟩)),(7,.int .i64 (if 0 > a1.1 then 0 else a1.1)),(8,.int .i64 (if 0 > a2.1 then 0 else a2.1)),(9,.int .i64 (if r51.Rows<a1.2 then r51.Rows else a1.2)),(10,.int .i64 (if r51.Cols<a2.2 then r51.Cols else a2.2)),(11,.slice p84 r78.length c85),(12,.slice p926 s925.length c927),(13,.int .i64 s929)] c∧Sym w0 M I I_ [pto b33 (.cells #[.int .i64 0,.int .i64 0,.slice none 0 0,.slice none 0 0,.slice none 0 0] 34 (0,0)),OwnSl eTriple 75 p926 c927 s925] w) (fun c w ho hs=>⟨I79,_,_,(.refl _),ho.sub ⟨r,r,r,r,r,r,r,r,trivial⟩,hs.pick (.c (.s .z) (.c .z .n))⟩) ?_))
 rintro ⟨s925,s929⟩ next931 hd c w hst
 obtain ⟨I932,p926,c927,hl933,hok,hsym⟩:=hst
 have le934:=IH.le.trans le88 hl933
 replace R86:=R86.mono hl933
 refine Cod.at hok hsym (.seq (.sr (.ks 2 r (.len un24 r r r r (.ks 1 r (.nilS [39,13,12,11,10,9,8,7,6] r r (.condP r hd (fun hb936 hd=>?_) fun hb936 hd=>?_)))))))
 · refine .skipS [13,12,11,10,9,8,7,6] r r (.seq (.block (.seq ?_)))
   refine Cod.joinQ (σ:=Bool) hd (fun (s1015:Bool) c w=>∃ I_,IH.le I932 I_∧Ok ⟨121,[],none⟩ [(6,.pointer (some ⟨b33,0,none⟩)),(7,.int .i64 (if 0 > a1.1 then 0 else a1.1)),(8,.int .i64 (if 0 > a2.1 then 0 else a2.1)),(9,.int .i64 (if r51.Rows<a1.2 then r51.Rows else a1.2)),(10,.int .i64 (if r51.Cols<a2.2 then r51.Cols else a2.2)),(11,.slice p84 r78.length c85),(12,.slice p926 s925.length c927),(13,.int .i64 s929),(75,.bool s1015)] c∧Sym w0 M I I_ [pto b33 (.cells #[.int .i64 0,.int .i64 0,.slice none 0 0,.slice none 0 0,.slice none 0 0] 34 (0,0)),OwnSl eTriple 75 p926 c927 s925] w) (fun k1016 hd=>?_) ?_
   · skip
     refine .region (.ks 2 r ?_)
     obtain ⟨h1017,x1018,hx1019,hd⟩:=hd
     obtain ⟨b1020,o1021,cs1022,e1023,hC1024,hr1025⟩:=R86.2 _ _ hx1019
     cases hr1025
     refine .ixa un24 sz75 r e1023 r h1017 (idx_lt hx1019 h1017) r r (.fa un75 r sz3 r (o:=o1021+s929.toNat*3) r r r (.ld1 (j:=0) ia3 hC1024 r r r r r (.ks 3 r ?_)))
     refine splitP hd (fun hb1026 hd=>?_) fun hb1026 hd=>?_
     · rw [hb1026]
       refine .ks 2 r ?_
       obtain ⟨h1027,x1028,hx1029,hd⟩:=hd
       obtain ⟨b1030,o1031,cs1032,e1033,hC1034,hr1035⟩:=R86.2 _ _ hx1029
       cases hr1035
       refine .gyes r r r (.ixa un24 sz75 r e1033 r h1027 (idx_lt hx1029 h1027) r r (.gyes r r r (.fa un75 r sz3 r (o:=o1031+s929.toNat*3) r r r (.gyes r r r (.ld1 (j:=0) ia3 hC1034 r r r r r (.ks 4 r ?_))))))
       refine splitP hd (fun hb1036 hd=>?_) fun hb1036 hd=>?_
       · rw [hb1036]
         refine .ks 2 r ?_
         obtain ⟨h1037,x1038,hx1039,hd⟩:=hd
         obtain ⟨b1040,o1041,cs1042,e1043,hC1044,hr1045⟩:=R86.2 _ _ hx1039
         cases hr1045
         refine .gyes r r r (.ixa un24 sz75 r e1043 r h1037 (idx_lt hx1039 h1037) r r (.gyes r r r (.fa un75 r sz3 r (o:=o1041+s929.toNat*3+1) r r r (.gyes r r r (.ld1 (j:=1) ia3 hC1044 r r r r r (.ks 4 r ?_))))))
         refine splitP hd (fun hb1046 hd=>?_) fun hb1046 hd=>?_
         · rw [hb1046]
           refine .ks 2 r ?_
           obtain ⟨h1047,x1048,hx1049,hd⟩:=hd
           obtain ⟨b1050,o1051,cs1052,e1053,hC1054,hr1055⟩:=R86.2 _ _ hx1049
           cases hr1055
           exact .gyes r r r (.ixa un24 sz75 r e1053 r h1047 (idx_lt hx1049 h1047) r r (.gyes r r r (.fa un75 r sz3 r (o:=o1051+s929.toNat*3+1) r r r (.gyes r r r (.ld1 (j:=1) ia3 hC1054 r r r r r (.ks 3 r (.nil' fun c w ho hs=>⟨(decide (x1048.Col<(if r51.Cols<a2.2 then r51.Cols else a2.2))),hd,I932,(.refl _),ho.sub ⟨r,r,r,r,r,r,r,r,r,trivial⟩,hs.pick (.c .z (.c .z .n))⟩)))))))
         rw [hb1046]
         exact .ks 8 r (.nil' fun c w ho hs=>⟨false,hd,I932,(.refl _),ho.sub ⟨r,r,r,r,r,r,r,r,r,trivial⟩,hs.pick (.c .z (.c .z .n))⟩)
       rw [hb1036]
       exact .ks 17 r (.nil' fun c w ho hs=>⟨false,hd,I932,(.refl _),ho.sub ⟨r,r,r,r,r,r,r,r,r,trivial⟩,hs.pick (.c .z (.c .z .n))⟩)
     rw [hb1026]
     exact .ks 26 r (.nil' fun c w ho hs=>⟨false,hd,I932,(.refl _),ho.sub ⟨r,r,r,r,r,r,r,r,r,trivial⟩,hs.pick (.c .z (.c .z .n))⟩)
   rintro s1015 hd c w hst
   obtain ⟨I1056,hl1057,hok,hsym⟩:=hst
   have le1058:=IH.le.trans le934 hl1057
   have le1059:=IH.le.trans hl933 hl1057
   replace R86:=R86.mono hl1057
   refine Cod.at hok hsym (.condP r hd (fun hb1060 hd=>?_) fun hb1060 hd=>?_)
   · refine .ownF (.s .z) fun hne1061=>?_
     refine .dr [0,1,2,3,4,5,6,7,8,9,10,11,12,13,14,15,16,17,18,19,20,21,22] 23 (.fk 3 r ?_)
     obtain ⟨h1062,x1063,hx1064,hd⟩:=hd
     obtain ⟨b1065,o1066,cs1067,e1068,hC1069,hr1070⟩:=R86.2 _ _ hx1064
     cases hr1070
     refine .g r r r (fun _=>.ixa un24 sz75 r e1068 r h1062 (idx_lt hx1064 h1062) r r .mk) (.g r r r (fun _=>.fa un75 r sz3 r (o:=o1066+s929.toNat*3) r r r .mk) (.g r r r (fun _=>.ld1 (j:=0) ia3 hC1069 r r r r r .mk) (.fk 4 r ?_)))
     obtain ⟨h1071,x1072,hx1073,hd⟩:=hd
     obtain ⟨b1074,o1075,cs1076,e1077,hC1078,hr1079⟩:=R86.2 _ _ hx1073
     cases hr1079
     refine .g r r r (fun _=>.ixa un24 sz75 r e1077 r h1071 (idx_lt hx1073 h1071) r r .mk) (.g r r r (fun _=>.fa un75 r sz3 r (o:=o1075+s929.toNat*3+1) r r r .mk) (.g r r r (fun _=>.ld1 (j:=1) ia3 hC1078 r r r r r .mk) (.fk 4 r ?_)))
     obtain ⟨h1080,x1081,hx1082,hd⟩:=hd
     obtain ⟨b1083,o1084,cs1085,e1086,hC1087,hr1088⟩:=R86.2 _ _ hx1082
     cases hr1088
     refine .g r r r (fun _=>.ixa un24 sz75 r e1086 r h1080 (idx_lt hx1082 h1080) r r .mk) (.g r r r (fun _=>.fa un75 r sz2 r (o:=o1084+s929.toNat*3+2) r r r .mk) (.g r r r (fun _=>.ld1 (j:=2) ia2 hC1087 r r r r r .mk) (.g r r r (fun _=>.build zv75 un75 BI75 (.c r r r (.t .nil) (.c r r r (.s (.t .nil)) (.c r r r (.s (.s (.t .nil))) .n))) (by exact ⟨⟨_,_,r,r,r⟩,⟨⟨_,_,r,r,r⟩,⟨⟨_,_,r,r,r⟩,trivial⟩⟩⟩) r r .mk) (.ww r fun ex=>?_))))
     refine .buildSlice 1 un24 sz75 zv75 r r (.c r r r .n) r r fun b1089=>?_
     refine .so 3 r r r (.ck 1 r r trivial) (.ww r fun ex=>?_)
     obtain ⟨hl1091,hd⟩:=hd
     refine .append (ys:=[({ Row:=w64 (x1063.Row - (if 0 > a1.1 then 0 else a1.1)),Col:=w64 (x1072.Col - (if 0 > a2.1 then 0 else a2.1)),Val:=x1081.Val }:Triple)]) 24 (.s (.s .z)) un24 un24 IN75 r r r r r r r r r (.box .z (.one r) r) hl1091 r r fun p1092 c1093=>?_
     exact .so 3 r r r trivial (.e2 23 (.ks 1 r (.nilS [12,13,11,10,9,8,7,6] r r (.drop (.s .z) (.region (.ks 3 r (.nil' fun c w ho hs=>⟨((s925++([({ Row:=w64 (x1063.Row - (if 0 > a1.1 then 0 else a1.1)),Col:=w64 (x1072.Col - (if 0 > a2.1 then 0 else a2.1)),Val:=x1081.Val }:Triple)])),w64 (s929+1)),hd,I1056,_,_,le1059,ho.sub ⟨r,r,r,r,r,r,r,r,trivial⟩,hs.pick (.c (.s .z) (.c .z .n))⟩)))))))
   exact .skipS [13,12,11,10,9,8,7,6] r r (.region (.ks 3 r (.nil' fun c w ho hs=>⟨(s925,w64 (s929+1)),hd,I1056,_,_,le1059,ho.sub ⟨r,r,r,r,r,r,r,r,trivial⟩,hs.pick (.c .z (.c .z .n))⟩)))
 refine .exitS [12,10,9,8,7,6] r r (.sr (.ks 2 r (.nilS [15,14,12,10,9,8,7,6] r r (.seq ?_))))
 refine Cod.joinQ (σ:=Int) hd (fun (s1097:Int) c w=>∃ I_,IH.le I932 I_∧Ok ⟨121,[],none⟩ [(6,.pointer (some ⟨b33,0,none⟩)),(8,.int .i64 (if 0 > a2.1 then 0 else a2.1)),(10,.int .i64 (if r51.Cols<a2.2 then r51.Cols else a2.2)),(12,.slice p926 s925.length c927),(14,.int .i64 s1097),(15,.int .i64 0)] c∧Sym w0 M I I_ [pto b33 (.cells #[.int .i64 0,.int .i64 0,.slice none 0 0,.slice none 0 0,.slice none 0 0] 34 (0,0)),OwnSl eTriple 75 p926 c927 s925] w) (fun k1098 hd=>?_) ?_
 · skip
   refine .sr (.ks 3 r (.nilS [101,15,14,12,10,9,8,7,6] r r (.condP r hd (fun hb1099 hd=>?_) fun hb1099 hd=>?_)))
   · exact .region (.ks 4 r (.nil' fun c w ho hs=>⟨(w64 ((if r51.Rows<a1.2 then r51.Rows else a1.2) - (if 0 > a1.1 then 0 else a1.1))),hd,I932,(.refl _),ho.sub ⟨r,r,r,r,r,r,trivial⟩,hs.pick (.c .z (.c .z .n))⟩))
   exact .skip' fun c w ho hs=>⟨0,hd,I932,(.refl _),ho.sub ⟨r,r,r,r,r,r,trivial⟩,hs.pick (.c .z (.c .z .n))⟩
 rintro s1097 hd c w hst
 obtain ⟨I1100,hl1101,hok,hsym⟩:=hst
 have le1102:=IH.le.trans le934 hl1101
 have le1103:=IH.le.trans hl933 hl1101
 refine Cod.at hok hsym (.seq ?_)
 refine Cod.joinQ (σ:=Int) hd (fun (s1106:Int) c w=>∃ I_,IH.le I1100 I_∧Ok ⟨121,[],none⟩ [(6,.pointer (some ⟨b33,0,none⟩)),(12,.slice p926 s925.length c927),(14,.int .i64 s1097),(15,.int .i64 s1106)] c∧Sym w0 M I I_ [pto b33 (.cells #[.int .i64 0,.int .i64 0,.slice none 0 0,.slice none 0 0,.slice none 0 0] 34 (0,0)),OwnSl eTriple 75 p926 c927 s925] w) (fun k1107 hd=>?_) ?_
 · skip
   refine .sr (.ks 3 r (.nilS [107,15,14,12,10,8,6] r r (.condP r hd (fun hb1108 hd=>?_) fun hb1108 hd=>?_)))
   · exact .region (.ks 4 r (.nil' fun c w ho hs=>⟨(w64 ((if r51.Cols<a2.2 then r51.Cols else a2.2) - (if 0 > a2.1 then 0 else a2.1))),hd,I1100,(.refl _),ho.sub ⟨r,r,r,r,trivial⟩,hs.pick (.c .z (.c .z .n))⟩))
   exact .skip' fun c w ho hs=>⟨0,hd,I1100,(.refl _),ho.sub ⟨r,r,r,r,trivial⟩,hs.pick (.c .z (.c .z .n))⟩
 rintro s1106 hd c w hst
 obtain ⟨I1109,hl1110,hok,hsym⟩:=hst
 have le1111:=IH.le.trans le1102 hl1110
 have le1112:=IH.le.trans le1103 hl1110
 have le1113:=IH.le.trans hl1101 hl1110
 refine Cod.at hok hsym (.seq (.sr (.ks 3 r ?_)))
 refine splitP hd (fun hb1114 hd=>?_) fun hb1114 hd=>?_
 · rw [hb1114]
   refine .ks 3 r (.nilS [116,15,14,12,6] r r (.condKT r r (.region (.ks 1 r (.nilS [12,15,14,6] r r (.drop (.s .z) (.sr (.ks 3 r ?_))))))))
   have hw1130:=W_ref07_built (I:=I1109) (.nil _ none 0) hd
   refine .call call89 r hw1130 r r fun v1119 I1116 hl1117 hv1118=>?_
   obtain ⟨r1115,p1121,c1122,p1124,c1125,p1127,c1128,rfl,R1123,R1126,R1129,hd⟩:=hv1118
   have le1131:=IH.le.trans le1111 hl1117
   have le1132:=IH.le.trans le1112 hl1117
   have le1133:=IH.le.trans le1113 hl1117
   have le1134:=IH.le.trans hl1110 hl1117
   exact .storeA sz34 r r .z (.t (.t (.t (.t (.t .nil))))) r r (.nilS [6] r r (.ret (pret results49 (.w ia34 sz34 r .z r .n) le1131 ⟨r1115,_,_,_,_,_,_,r,R1123,R1126,R1129,hd⟩)))
 rw [hb1114]
 refine .ks 3 r (.nilS [116,15,14,12,6] r r (.condP r hd (fun hb1135 hd=>?_) fun hb1135 hd=>?_))
 · refine .region (.ks 1 r (.nilS [12,15,14,6] r r (.drop (.s .z) (.sr (.ks 3 r ?_)))))
   have hw1151:=W_ref07_built (I:=I1109) (.nil _ none 0) hd
   refine .call call89 r hw1151 r r fun v1140 I1137 hl1138 hv1139=>?_
   obtain ⟨r1136,p1142,c1143,p1145,c1146,p1148,c1149,rfl,R1144,R1147,R1150,hd⟩:=hv1139
   have le1152:=IH.le.trans le1111 hl1138
   have le1153:=IH.le.trans le1112 hl1138
   have le1154:=IH.le.trans le1113 hl1138
   have le1155:=IH.le.trans hl1110 hl1138
   exact .storeA sz34 r r .z (.t (.t (.t (.t (.t .nil))))) r r (.nilS [6] r r (.ret (pret results49 (.w ia34 sz34 r .z r .n) le1152 ⟨r1136,_,_,_,_,_,_,r,R1144,R1147,R1150,hd⟩)))
 refine .skipS [15,14,12,6] r r (.sr (.ks 3 r (.pub (.s .z) fun I1156 hl1157 R1158=>?_)))
 have le1159:=IH.le.trans le1111 hl1157
 have le1160:=IH.le.trans le1112 hl1157
 have le1161:=IH.le.trans le1113 hl1157
 have le1162:=IH.le.trans hl1110 hl1157
 have hw1178:=W_ref07_built (I:=I1156) R1158 hd
 refine .call call89 r hw1178 r r fun v1167 I1164 hl1165 hv1166=>?_
 obtain ⟨r1163,p1169,c1170,p1172,c1173,p1175,c1176,rfl,R1171,R1174,R1177,hd⟩:=hv1166
 have le1179:=IH.le.trans le1159 hl1165
 have le1180:=IH.le.trans le1160 hl1165
 have le1181:=IH.le.trans le1161 hl1165
 have le1182:=IH.le.trans le1162 hl1165
 replace R1158:=R1158.mono hl1165
 exact .storeA sz34 r r .z (.t (.t (.t (.t (.t .nil))))) r r (.nilS [6] r r (.ret (pret results49 (.w ia34 sz34 r .z r .n) le1179 ⟨r1163,_,_,_,_,_,_,r,R1171,R1174,R1177,hd⟩)))
theorem W_ref18_Cut {I:IH} {a0:Rows} {a1:Int} {a2:Int} {a3:Int} {a4:Int} {p1:Option Addr} {c2:Nat} {p4:Option Addr} {c5:Nat} {p7:Option Addr} {c8:Nat} {Q:Rows→Prop} (R3:RepSl eI64 I p1 c2 a0.Start) (R6:RepSl eI64 I p4 c5 a0.Col) (R9:RepSl eI64 I p7 c8 a0.Val) (hd:ref18_Cut a0 a1 a2 a3 a4 Q) :
  PFun prog 13 [.agg #[.int .i64 a0.Rows,.int .i64 a0.Cols,.slice p1 a0.Start.length c2,.slice p4 a0.Col.length c5,.slice p7 a0.Val.length c8],.int .i64 a1,.int .i64 a2,.int .i64 a3,.int .i64 a4] I (o9_ Q):=by
 refine Fun.enter func13 r ntmps13 r (.c (.c (.c (.c (.c .n))))) fun w0 M=>?_
 refine .sr (.boxA r r r fun b23=>?_)
 refine .allocA zv34 r r fun b25=>?_
 refine .nilS [10,5,4,3,2,1] r r (.seq (.sr (.loadW ia34 sz34 r (.s .z) r r r ?_)))
 have hw156:=W_ref07_Right (I:=I) R3 R6 R9 hd
 refine .callP call45 r hw156 r r fun v157 hv158=>?_
 obtain ⟨r155,rfl,hd⟩:=hv158
 refine .ks 2 r ?_
 refine splitP hd (fun hb159 hd=>?_) fun hb159 hd=>?_
 · rw [hb159]
   refine .ks 23 r (.nilS [39,10,5,4,3,2,1] r r (.condKT r r (.sr ?_)))
   have hw178:=W_ref07_Empty (I:=I) hd
   refine .callO call47 r hw178 r r fun v164 I161 l165 hl162 hv163=>?_
   obtain ⟨r160,p166,c167,p169,c170,p172,c173,rfl,rfl,hd⟩:=hv163
   replace R3:=R3.mono hl162
   replace R6:=R6.mono hl162
   replace R9:=R9.mono hl162
   refine .storeA sz34 r r (.s (.s (.s .z))) (.t (.t (.t (.t (.t .nil))))) r r (.nilS [10] r r (.drop (.s (.s (.s (.s .z)))) (.pub .z fun I179 hl180 R181=>?_)))
   have le182:=IH.le.trans hl162 hl180
   refine .pub .z fun I183 hl184 R185=>?_
   have le186:=IH.le.trans le182 hl184
   replace R181:=R181.mono hl184
   refine .pub .z fun I187 hl188 R189=>?_
   have le190:=IH.le.trans le186 hl188
   replace R181:=R181.mono hl188
   replace R185:=R185.mono hl188
   exact .ret (pret results13 (.w ia34 sz34 r .z r .n) le190 ⟨r160,_,_,_,_,_,_,r,R181,R185,R189,hd⟩)
 rw [hb159]
 refine .ks 2 r ?_
 have hw192:=W_ref18_sides (I:=I) hd
 refine .gyes r r r (.callP call46 r hw192 r r fun v193 hv194=>?_)
 obtain ⟨r191,rfl,hd⟩:=hv194
 refine .ks 3 r ?_
 refine splitP hd (fun hb195 hd=>?_) fun hb195 hd=>?_
 · rw [hb195]
   refine .ks 17 r (.nilS [39,10,5,4,3,2,1] r r (.condKT r r (.sr ?_)))
   have hw214:=W_ref07_Empty (I:=I) hd
   refine .callO call47 r hw214 r r fun v200 I197 l201 hl198 hv199=>?_
   obtain ⟨r196,p202,c203,p205,c206,p208,c209,rfl,rfl,hd⟩:=hv199
   replace R3:=R3.mono hl198
   replace R6:=R6.mono hl198
   replace R9:=R9.mono hl198
   refine .storeA sz34 r r (.s (.s (.s .z))) (.t (.t (.t (.t (.t .nil))))) r r (.nilS [10] r r (.drop (.s (.s (.s (.s .z)))) (.pub .z fun I215 hl216 R217=>?_)))
   have le218:=IH.le.trans hl198 hl216
   refine .pub .z fun I219 hl220 R221=>?_
   have le222:=IH.le.trans le218 hl220
   replace R217:=R217.mono hl220
   refine .pub .z fun I223 hl224 R225=>?_
   have le226:=IH.le.trans le222 hl224
   replace R217:=R217.mono hl224
   replace R221:=R221.mono hl224
   exact .ret (pret results13 (.w ia34 sz34 r .z r .n) le226 ⟨r196,_,_,_,_,_,_,r,R217,R221,R225,hd⟩)
 rw [hb195]
 refine .ks 4 r ?_
 refine splitP hd (fun hb227 hd=>?_) fun hb227 hd=>?_
 · rw [hb227]
   refine .ks 13 r (.nilS [39,10,5,4,3,2,1] r r (.condKT r r (.sr ?_)))
   have hw246:=W_ref07_Empty (I:=I) hd
   refine .callO call47 r hw246 r r fun v232 I229 l233 hl230 hv231=>?_
   obtain ⟨r228,p234,c235,p237,c238,p240,c241,rfl,rfl,hd⟩:=hv231
   replace R3:=R3.mono hl230
   replace R6:=R6.mono hl230
   replace R9:=R9.mono hl230
   refine .storeA sz34 r r (.s (.s (.s .z))) (.t (.t (.t (.t (.t .nil))))) r r (.nilS [10] r r (.drop (.s (.s (.s (.s .z)))) (.pub .z fun I247 hl248 R249=>?_)))
   have le250:=IH.le.trans hl230 hl248
   refine .pub .z fun I251 hl252 R253=>?_
   have le254:=IH.le.trans le250 hl252
   replace R249:=R249.mono hl252
   refine .pub .z fun I255 hl256 R257=>?_
   have le258:=IH.le.trans le254 hl256
   replace R249:=R249.mono hl256
   replace R253:=R253.mono hl256
   exact .ret (pret results13 (.w ia34 sz34 r .z r .n) le258 ⟨r228,_,_,_,_,_,_,r,R249,R253,R257,hd⟩)
 rw [hb227]
 refine .ks 5 r ?_
 refine splitP hd (fun hb259 hd=>?_) fun hb259 hd=>?_
 · rw [hb259]
   refine .ks 8 r (.nilS [39,10,5,4,3,2,1] r r (.condKT r r (.sr ?_)))
   have hw278:=W_ref07_Empty (I:=I) hd
   refine .callO call47 r hw278 r r fun v264 I261 l265 hl262 hv263=>?_
   obtain ⟨r260,p266,c267,p269,c270,p272,c273,rfl,rfl,hd⟩:=hv263
   replace R3:=R3.mono hl262
   replace R6:=R6.mono hl262
   replace R9:=R9.mono hl262
   refine .storeA sz34 r r (.s (.s (.s .z))) (.t (.t (.t (.t (.t .nil))))) r r (.nilS [10] r r (.drop (.s (.s (.s (.s .z)))) (.pub .z fun I279 hl280 R281=>?_)))
   have le282:=IH.le.trans hl262 hl280
   refine .pub .z fun I283 hl284 R285=>?_
   have le286:=IH.le.trans le282 hl284
   replace R281:=R281.mono hl284
   refine .pub .z fun I287 hl288 R289=>?_
   have le290:=IH.le.trans le286 hl288
   replace R281:=R281.mono hl288
   replace R285:=R285.mono hl288
   exact .ret (pret results13 (.w ia34 sz34 r .z r .n) le290 ⟨r260,_,_,_,_,_,_,r,R281,R285,R289,hd⟩)
 rw [hb259]
 refine .ks 4 r ?_
 refine splitP hd (fun hb291 hd=>?_) fun hb291 hd=>?_
 · rw [hb291]
   refine .ks 4 r (.nilS [39,10,5,4,3,2,1] r r (.condKT r r (.sr ?_)))
   have hw310:=W_ref07_Empty (I:=I) hd
   refine .callO call47 r hw310 r r fun v296 I293 l297 hl294 hv295=>?_
   obtain ⟨r292,p298,c299,p301,c302,p304,c305,rfl,rfl,hd⟩:=hv295
   replace R3:=R3.mono hl294
   replace R6:=R6.mono hl294
   replace R9:=R9.mono hl294
   refine .storeA sz34 r r (.s (.s (.s .z))) (.t (.t (.t (.t (.t .nil))))) r r (.nilS [10] r r (.drop (.s (.s (.s (.s .z)))) (.pub .z fun I311 hl312 R313=>?_)))
   have le314:=IH.le.trans hl294 hl312
   refine .pub .z fun I315 hl316 R317=>?_
   have le318:=IH.le.trans le314 hl316
   replace R313:=R313.mono hl316
   refine .pub .z fun I319 hl320 R321=>?_
   have le322:=IH.le.trans le318 hl320
   replace R313:=R313.mono hl320
   replace R317:=R317.mono hl320
   exact .ret (pret results13 (.w ia34 sz34 r .z r .n) le322 ⟨r292,_,_,_,_,_,_,r,R313,R317,R321,hd⟩)
 rw [hb291]
 refine .ks 4 r (.nilS [39,10,5,4,3,2,1] r r (.condP r hd (fun hb323 hd=>?_) fun hb323 hd=>?_))
 · refine .sr ?_
   have hw342:=W_ref07_Empty (I:=I) hd
   refine .callO call47 r hw342 r r fun v328 I325 l329 hl326 hv327=>?_
   obtain ⟨r324,p330,c331,p333,c334,p336,c337,rfl,rfl,hd⟩:=hv327
   replace R3:=R3.mono hl326
   replace R6:=R6.mono hl326
   replace R9:=R9.mono hl326
   refine .storeA sz34 r r (.s (.s (.s .z))) (.t (.t (.t (.t (.t .nil))))) r r (.nilS [10] r r (.drop (.s (.s (.s (.s .z)))) (.pub .z fun I343 hl344 R345=>?_)))
   have le346:=IH.le.trans hl326 hl344
   refine .pub .z fun I347 hl348 R349=>?_
   have le350:=IH.le.trans le346 hl348
   replace R345:=R345.mono hl348
   refine .pub .z fun I351 hl352 R353=>?_
   have le354:=IH.le.trans le350 hl352
   replace R345:=R345.mono hl352
   replace R349:=R349.mono hl352
   exact .ret (pret results13 (.w ia34 sz34 r .z r .n) le354 ⟨r324,_,_,_,_,_,_,r,R345,R349,R353,hd⟩)
 refine .skipS [10,5,4,3,2,1] r r (.seq (.dr [0,1,2,3,5,6,7,8,9,12,4,10,11,999] 13 (.g r r r (fun _=>.fa un34 r sz3 r (o:=0) r r r .mk) (.g r r r (fun _=>.load1 ia3 r (.s .z) r r r .mk) (.fk 2 r (.g r r r (fun _=>.fa un34 r sz3 r (o:=0) r r r .mk) (.g r r r (fun _=>.load1 ia3 r (.s .z) r r r .mk) (.fk 3 r (.a (fun b=>.pointer (some ⟨b,0,none⟩)) (fun b=>pto b (.cells #[.int .i64 0,.int .i64 0] 86 (0,0))) r r r r (fun _ L hL ex=>.allocA zv86 r r fun b=>.mk (val:=fun b=>.pointer (some ⟨b,0,none⟩)) (atom:=fun b=>pto b (.cells #[.int .i64 0,.int .i64 0] 86 (0,0))) hL b) ?_)))))))))
 refine .ww r fun ex=>?_
 have hw367:=W_ref17_Low (I:=I) hd
 refine .callP call48 r hw367 r r fun v368 hv369=>?_
 obtain ⟨r366,rfl,hd⟩:=hv369
 refine .so 2 r r r (.ck 3 r r (.cg r r r r (fun _=>.load1 ia3 r (.s .z) r r r .mk) (.cg r r r r (fun _=>.fa un34 r sz3 r (o:=0) r r r .mk) trivial))) (.ww r fun ex=>?_)
 have hw371:=W_ref17_Low (I:=I) hd
 refine .callP call48 r hw371 r r fun v372 hv373=>?_
 obtain ⟨r370,rfl,hd⟩:=hv373
 refine .so 2 r r r trivial (.g r r r (fun _=>.buildArr zv86 un86 sz3 (.c r r r (.t .nil) (.c r r r (.s (.t .nil)) .n)) r r .mk) (.b r fun b374=>DrawD.nop (.e2 13 (.storeA sz86 r r (.s (.s .z)) (.t (.t .nil)) r r (.nilS [11,10,5,4,2] r r (.seq (.dr [0,1,2,3,5,6,7,8,9,12,4,10,11,999] 13 (.g r r r (fun _=>.fa un34 r sz3 r (o:=1) r r r .mk) (.g r r r (fun _=>.load1 ia3 r (.s .z) r r r .mk) ?_)))))))))
 refine .fk 2 r (.g r r r (fun _=>.fa un34 r sz3 r (o:=1) r r r .mk) (.g r r r (fun _=>.load1 ia3 r (.s .z) r r r .mk) (.fk 3 r (.a (fun b=>.pointer (some ⟨b,0,none⟩)) (fun b=>pto b (.cells #[.int .i64 0,.int .i64 0] 86 (0,0))) r r r r (fun _ L hL ex=>.allocA zv86 r r fun b=>.mk (val:=fun b=>.pointer (some ⟨b,0,none⟩)) (atom:=fun b=>pto b (.cells #[.int .i64 0,.int .i64 0] 86 (0,0))) hL b) (.ww r fun ex=>?_)))))
 have hw377:=W_ref17_Low (I:=I) hd
 refine .callP call48 r hw377 r r fun v378 hv379=>?_
 obtain ⟨r376,rfl,hd⟩:=hv379
 refine .so 3 r r r (.ck 3 r r (.cg r r r r (fun _=>.load1 ia3 r (.s .z) r r r .mk) (.cg r r r r (fun _=>.fa un34 r sz3 r (o:=1) r r r .mk) trivial))) (.ww r fun ex=>?_)
 have hw381:=W_ref17_Low (I:=I) hd
 refine .callP call48 r hw381 r r fun v382 hv383=>?_
 obtain ⟨r380,rfl,hd⟩:=hv383
 refine .so 3 r r r trivial (.g r r r (fun _=>.buildArr zv86 un86 sz3 (.c r r r (.t .nil) (.c r r r (.s (.t .nil)) .n)) r r .mk) (.b r fun b384=>DrawD.nop (.e2 13 (.storeA sz86 r r (.s (.s (.s .z))) (.t (.t .nil)) r r (.nilS [12,11,10,5] r r (.sr (.loadW ia34 sz34 r (.s .z) r r r (.loadW isAgg86 sz86 r (.s (.s .z)) r r r (.loadW isAgg86 sz86 r (.s (.s (.s .z))) r r r ?_)))))))))
 have hw400:=W_ref07_Cut (I:=I) R3 R6 R9 hd
 refine .call call49 r hw400 r r fun v389 I386 hl387 hv388=>?_
 obtain ⟨r385,p391,c392,p394,c395,p397,c398,rfl,R393,R396,R399,hd⟩:=hv388
 replace R3:=R3.mono hl387
 replace R6:=R6.mono hl387
 replace R9:=R9.mono hl387
 exact .storeA sz34 r r .z (.t (.t (.t (.t (.t .nil))))) r r (.nilS [10] r r (.drop (.s .z) (.drop (.s .z) (.drop (.s .z) (.ret (pret results13 (.w ia34 sz34 r .z r .n) hl387 ⟨r385,_,_,_,_,_,_,r,R393,R396,R399,hd⟩))))))
theorem W_ref09_Right {I:IH} {a0:Vec} {p1:Option Addr} {c2:Nat} {Q:Bool→Prop} (R3:RepSl eItem I p1 c2 a0.Items) (hd:ref09_Right a0 Q) :
  PFun prog 59 [.agg #[.int .i64 a0.N,.slice p1 a0.Items.length c2]] I (fun _=>o1_ Q):=by
 refine Fun.enter func59 r ntmps59 r (.c .n) fun w0 M=>?_
 refine .sr (.boxA r r r fun b6=>?_)
 refine .ks 1 r (.nilS [1] r r (.seq (.sr (.fa un37 r sz3 r (o:=0) r r r (.load1 ia3 r .z r r r (.ks 2 r ?_))))))
 refine splitP hd (fun hb10 hd=>?_) fun hb10 hd=>?_
 · rw [hb10]
   exact .ks 4 r (.nilS [11,1] r r (.condKT r r (.sr (.ks 1 r (.nilS [2] r r (.drop .z (.ret (pret results59 (.t r .n) (.refl _) ⟨false,r,hd⟩))))))))
 rw [hb10]
 refine .gyes r r r (.fa un37 r sz3 r (o:=0) r r r (.gyes r r r (.load1 ia3 r .z r r r (.ks 2 r (.nilS [11,1] r r (.condP r hd (fun hb11 hd=>?_) fun hb11 hd=>?_))))))
 · exact .sr (.ks 1 r (.nilS [2] r r (.drop .z (.ret (pret results59 (.t r .n) (.refl _) ⟨false,r,hd⟩)))))
 refine .skipS [1] r r (.seq (.sr (.ks 1 r (.nilS [3,1] r r (.block (.loop hd (fun (s79:Int) c w=>∃ I_,IH.le I I_∧Ok ⟨57,[],none⟩ [(1,.pointer (some ⟨b6,0,none⟩)),(3,.int .i64 s79)] c∧Sym w0 M I I_ [pto b6 (.cells #[.int .i64 a0.N,.slice p1 a0.Items.length c2] 37 (0,0))] w) (fun c w ho hs=>⟨I,(.refl _),ho.sub ⟨r,r,trivial⟩,hs.pick (.c .z .n)⟩) ?_))))))
 rintro s79 next80 hd c w hst
 obtain ⟨I81,hl82,hok,hsym⟩:=hst
 replace R3:=R3.mono hl82
 refine Cod.at hok hsym (.seq (.sr (.ks 1 r (.fa un37 r sz25 r (o:=1) r r r (.load1 ia25 r .z r r r (.len un25 r r r r (.ks 1 r (.nilS [16,3,1] r r (.condP r hd (fun hb84 hd=>?_) fun hb84 hd=>?_)))))))))
 · refine .skipS [3,1] r r (.seq (.block (.seq (.dr [0,1,2,3,4,5,6,7,8,9,10,11,12,13,14,15,16,17,18,19,20,21,22,23,24,25,26,27,28,29,30,31,32,33,34,35,36,37] 38 (.g r r r (fun _=>.fa un37 r sz25 r (o:=1) r r r .mk) (.g r r r (fun _=>.load1 ia25 r .z r r r .mk) (.fk 1 r ?_)))))))
   obtain ⟨h85,x86,hx87,hd⟩:=hd
   obtain ⟨b88,o89,cs90,e91,hC92,hr93⟩:=R3.2 _ _ hx87
   cases hr93
   refine .g r r r (fun _=>.ixa un25 sz72 r e91 r h85 (idx_lt hx87 h85) r r .mk) (.g r r r (fun _=>.fa un72 r sz3 r (o:=o89+s79.toNat*2) r r r .mk) (.g r r r (fun _=>.ld1 (j:=0) ia3 hC92 r r r r r .mk) (.fk 2 r ?_)))
   refine splitP hd (fun hb94 hd=>?_) fun hb94 hd=>?_
   · rw [hb94]
     exact .fk 30 r (.e2 38 (.nilS [56,3,1] r r (.condKT r r (.sr (.ks 1 r (.nilS [2] r r (.drop .z (.ret (pret results59 (.t r .n) hl82 ⟨false,r,hd⟩)))))))))
   rw [hb94]
   refine .g r r r (fun _=>.gyes r r r (.fa un37 r sz25 r (o:=1) r r r .mk)) (.g r r r (fun _=>.gyes r r r (.load1 ia25 r .z r r r .mk)) (.fk 1 r ?_))
   obtain ⟨h95,x96,hx97,hd⟩:=hd
   obtain ⟨b98,o99,cs100,e101,hC102,hr103⟩:=R3.2 _ _ hx97
   cases hr103
   refine .g r r r (fun _=>.gyes r r r (.ixa un25 sz72 r e101 r h95 (idx_lt hx97 h95) r r .mk)) (.g r r r (fun _=>.gyes r r r (.fa un72 r sz3 r (o:=o99+s79.toNat*2) r r r .mk)) (.g r r r (fun _=>.gyes r r r (.ld1 (j:=0) ia3 hC102 r r r r r .mk)) (.g r r r (fun _=>.gyes r r r (.fa un37 r sz3 r (o:=0) r r r .mk)) (.g r r r (fun _=>.gyes r r r (.load1 ia3 r .z r r r .mk)) (.fk 3 r ?_)))))
   refine splitP hd (fun hb104 hd=>?_) fun hb104 hd=>?_
   · rw [hb104]
     exact .fk 19 r (.e2 38 (.nilS [56,3,1] r r (.condKT r r (.sr (.ks 1 r (.nilS [2] r r (.drop .z (.ret (pret results59 (.t r .n) hl82 ⟨false,r,hd⟩)))))))))
   rw [hb104]
   refine .fk 3 r ?_
   refine splitP hd (fun hb105 hd=>?_) fun hb105 hd=>?_
   · rw [hb105]
     refine .g r r r (fun _=>.gyes r r r (.fa un37 r sz25 r (o:=1) r r r .mk)) (.g r r r (fun _=>.gyes r r r (.load1 ia25 r .z r r r .mk)) (.fk 1 r ?_))
     obtain ⟨h106,x107,hx108,hd⟩:=hd
     obtain ⟨b109,o110,cs111,e112,hC113,hr114⟩:=R3.2 _ _ hx108
     cases hr114
     refine .g r r r (fun _=>.gyes r r r (.ixa un25 sz72 r e112 r h106 (idx_lt hx108 h106) r r .mk)) (.g r r r (fun _=>.gyes r r r (.fa un72 r sz3 r (o:=o110+s79.toNat*2) r r r .mk)) (.g r r r (fun _=>.gyes r r r (.ld1 (j:=0) ia3 hC113 r r r r r .mk)) (.g r r r (fun _=>.gyes r r r (.fa un37 r sz25 r (o:=1) r r r .mk)) (.g r r r (fun _=>.gyes r r r (.load1 ia25 r .z r r r .mk)) (.fk 2 r ?_)))))
     obtain ⟨h115,x116,hx117,hd⟩:=hd
     obtain ⟨b118,o119,cs120,e121,hC122,hr123⟩:=R3.2 _ _ hx117
     cases hr123
     refine .g r r r (fun _=>.gyes r r r (.ixa un25 sz72 r e121 r h115 (idx_lt hx117 h115) r r .mk)) (.g r r r (fun _=>.gyes r r r (.fa un72 r sz3 r (o:=o119+(w64 (s79 - 1)).toNat*2) r r r .mk)) (.g r r r (fun _=>.gyes r r r (.ld1 (j:=0) ia3 hC122 r r r r r .mk)) (.fk 3 r (.e2 38 (.nilS [56,3,1] r r (.condP r hd (fun hb124 hd=>?_) fun hb124 hd=>?_))))))
     · exact .sr (.ks 1 r (.nilS [2] r r (.drop .z (.ret (pret results59 (.t r .n) hl82 ⟨false,r,hd⟩)))))
     exact .skipS [3,1] r r (.region (.ks 3 r (.nil' fun c w ho hs=>⟨(w64 (s79+1)),hd,I81,hl82,ho.sub ⟨r,r,trivial⟩,hs.pick (.c .z .n)⟩)))
   rw [hb105]
   exact .fk 16 r (.e2 38 (.nilS [56,3,1] r r (.condKF r r (.skipS [3,1] r r (.region (.ks 3 r (.nil' fun c w ho hs=>⟨(w64 (s79+1)),hd,I81,hl82,ho.sub ⟨r,r,trivial⟩,hs.pick (.c .z .n)⟩)))))))
 exact .exitS [] r r (.drop .z (.sr (.ks 1 r (.nilS [2] r r (.ret (pret results59 (.t r .n) hl82 ⟨true,r,hd⟩))))))
theorem W_ref09_Sure {I:IH} {a0:Vec} {p1:Option Addr} {c2:Nat} {Q:Vec→Prop} (R3:RepSl eItem I p1 c2 a0.Items) (hd:ref09_Sure a0 Q) :
  PFun prog 53 [.agg #[.int .i64 a0.N,.slice p1 a0.Items.length c2]] I (o8_ Q):=by
 refine Fun.enter func53 r ntmps53 r (.c .n) fun w0 M=>?_
 refine .sr (.boxA r r r fun b11=>?_)
 refine .allocA zv37 r r fun b13=>?_
 refine .nilS [2,1] r r (.seq (.sr (.loadW ia37 sz37 r (.s .z) r r r ?_)))
 have hw16:=W_ref09_Right (I:=I) R3 hd
 refine .callP call59 r hw16 r r fun v17 hv18=>?_
 obtain ⟨r15,rfl,hd⟩:=hv18
 refine .nilS [4,2,1] r r (.condP r hd (fun hb19 hd=>?_) fun hb19 hd=>?_)
 · exact .sr (.loadW ia37 sz37 r (.s .z) r r r (.storeA sz37 r r .z (.t (.t .nil)) r r (.nilS [2] r r (.drop (.s .z) (.ret (pret results53 (.w ia37 sz37 r .z r .n) (.refl _) ⟨a0,_,_,r,R3,hd⟩))))))
 exact .skipS [2] r r (.drop (.s .z) (.sr (.build zv37 un37 BI37 .n (by exact trivial) r r (.storeA sz37 r r .z (.t (.t .nil)) r r (.nilS [2] r r (.ret (pret results53 (.w ia37 sz37 r .z r .n) (.refl _) ⟨({ N:=0,Items:=([]:List Item) }:Vec),_,_,r,(.nil _ _ _),hd⟩)))))))
theorem W_ref09_Part {I:IH} {a0:Vec} {a1:Int} {a2:Int} {p1:Option Addr} {c2:Nat} {Q:Vec→Prop} (R3:RepSl eItem I p1 c2 a0.Items) (hd:ref09_Part a0 a1 a2 Q) :
  PFun prog 54 [.agg #[.int .i64 a0.N,.slice p1 a0.Items.length c2],.int .i64 a1,.int .i64 a2] I (o8_ Q):=by
 refine Fun.enter func54 r ntmps54 r (.c (.c (.c .n))) fun w0 M=>?_
 refine .sr (.boxA r r r fun b11=>?_)
 refine .allocA zv37 r r fun b13=>?_
 refine .nilS [6,3,2,1] r r (.sr (.loadW ia37 sz37 r (.s .z) r r r ?_))
 have hw34:=W_ref09_Sure (I:=I) R3 hd
 refine .call call53 r hw34 r r fun v29 I26 hl27 hv28=>?_
 obtain ⟨r25,p31,c32,rfl,R33,hd⟩:=hv28
 replace R3:=R3.mono hl27
 refine .storeA sz37 r r (.s .z) (.t (.t .nil)) r r (.nilS [6,3,2,1] r r (.seq (.dr [0,1,2,3,4,5,6] 7 (.fk 1 r (.g r r r (fun _=>.maxI r r r r .mk) (.fk 1 r (.g r r r (fun _=>.fa un37 r sz3 r (o:=0) r r r .mk) (.g r r r (fun _=>.load1 ia3 r (.s .z) r r r .mk) (.g r r r (fun _=>.minI r r r r .mk) ?_)))))))))
 refine .w [5,4,3,2] [[],[]] [1,0,1] r (by kernel_rfl) (by kernel_rfl) (by kernel_rfl) (r) (.inl r) fun ex=>?_
 refine .sub (E':=[(11,_),(12,_),(2,_),(3,_),(6,_)]) ⟨r,r,r,r,r,trivial⟩ (.ks 1 r (.so 2 r r r (.cg r r r r (fun _=>.minI r r r r .mk) (.cg r r r r (fun _=>.load1 ia3 r (.s .z) r r r .mk) (.cg r r r r (fun _=>.fa un37 r sz3 r (o:=0) r r r .mk) (.ck 1 r r trivial)))) (.e2 7 (.ks 1 r (.nilS [2,6,3,1] r r (.seq (.sr (.ks 3 r (.nilS [19,2,6,3,1] r r ?_)))))))))
 refine .condP r hd (fun hb36 hd=>?_) fun hb36 hd=>?_
 · exact .sr (.build zv37 un37 BI37 .n (by exact trivial) r r (.storeA sz37 r r .z (.t (.t .nil)) r r (.nilS [6] r r (.drop (.s .z) (.ret (pret results54 (.w ia37 sz37 r .z r .n) hl27 ⟨({ N:=0,Items:=([]:List Item) }:Vec),_,_,r,(.nil _ _ _),hd⟩))))))
 refine .skipS [2,6,3,1] r r (.sr (.ks 3 r (.build zv37 un37 BI37 (.c r r r (.t .nil) .n) (by exact ⟨⟨_,_,r,r,r⟩,trivial⟩) r r (.allocA zv37 r r fun b39=>?_))))
 refine .storeA sz37 r r .z (.t (.t .nil)) r r (.nilS [7,2,6,3,1] r r (.seq (.sr (.ks 1 r (.nilS [8,7,2,6,3,1] r r (.block (.own0 eItem 72 (.loop hd (fun (s:(List Item)×Int) c w=>match s with | (s236,s240)=>∃ I_ p237 c238,IH.le I26 I_∧Ok ⟨71,[],none⟩ [(1,.int .i64 (if 0 > a1 then 0 else a1)),(2,.int .i64 (if r25.N<a2 then r25.N else a2)),(3,.pointer (some ⟨b11,0,none⟩)),(6,.pointer (some ⟨b13,0,none⟩)),(7,.pointer (some ⟨b39,0,none⟩)),(8,.int .i64 s240)] c∧Sym w0 M I I_ [pto b11 (.cells #[.int .i64 r25.N,.slice p31 r25.Items.length c32] 37 (0,0)),pto b13 (.cells #[.int .i64 0,.slice none 0 0] 37 (0,0)),pto b39 (.cells #[.int .i64 (w64 ((if r25.N<a2 then r25.N else a2) - (if 0 > a1 then 0 else a1))),.slice p237 s236.length c238] 37 (0,0)),OwnSl eItem 72 p237 c238 s236] w) (fun c w ho hs=>⟨I26,_,_,(.refl _),ho.sub ⟨r,r,r,r,r,r,trivial⟩,hs.pick (.c (.s (.s (.s .z))) (.c (.s (.s .z)) (.c (.s .z) (.c .z .n))))⟩) ?_))))))))
 rintro ⟨s236,s240⟩ next242 hd c w hst
 obtain ⟨I243,p237,c238,hl244,hok,hsym⟩:=hst
 have le245:=IH.le.trans hl27 hl244
 replace R33:=R33.mono hl244
 refine Cod.at hok hsym (.seq (.sr (.ks 1 r (.fa un37 r sz25 r (o:=1) r r r (.load1 ia25 r .z r r r (.len un25 r r r r (.ks 1 r (.nilS [29,8,7,6,3,2,1] r r (.condP r hd (fun hb247 hd=>?_) fun hb247 hd=>?_)))))))))
 · refine .skipS [8,7,6,3,2,1] r r (.seq (.block (.seq ?_)))
   refine Cod.joinQ (σ:=Bool) hd (fun (s286:Bool) c w=>∃ I_,IH.le I243 I_∧Ok ⟨71,[],none⟩ [(1,.int .i64 (if 0 > a1 then 0 else a1)),(2,.int .i64 (if r25.N<a2 then r25.N else a2)),(3,.pointer (some ⟨b11,0,none⟩)),(6,.pointer (some ⟨b13,0,none⟩)),(7,.pointer (some ⟨b39,0,none⟩)),(8,.int .i64 s240),(49,.bool s286)] c∧Sym w0 M I I_ [pto b11 (.cells #[.int .i64 r25.N,.slice p31 r25.Items.length c32] 37 (0,0)),pto b13 (.cells #[.int .i64 0,.slice none 0 0] 37 (0,0)),pto b39 (.cells #[.int .i64 (w64 ((if r25.N<a2 then r25.N else a2) - (if 0 > a1 then 0 else a1))),.slice p237 s236.length c238] 37 (0,0)),OwnSl eItem 72 p237 c238 s236] w) (fun k287 hd=>?_) ?_
   · skip
     refine .region (.fa un37 r sz25 r (o:=1) r r r (.load1 ia25 r .z r r r (.ks 1 r ?_)))
     obtain ⟨h288,x289,hx290,hd⟩:=hd
     obtain ⟨b291,o292,cs293,e294,hC295,hr296⟩:=R33.2 _ _ hx290
     cases hr296
     refine .ixa un25 sz72 r e294 r h288 (idx_lt hx290 h288) r r (.fa un72 r sz3 r (o:=o292+s240.toNat*2) r r r (.ld1 (j:=0) ia3 hC295 r r r r r (.ks 3 r ?_)))
     refine splitP hd (fun hb297 hd=>?_) fun hb297 hd=>?_
     · rw [hb297]
       refine .gyes r r r (.fa un37 r sz25 r (o:=1) r r r (.gyes r r r (.load1 ia25 r .z r r r (.ks 1 r ?_))))
       obtain ⟨h298,x299,hx300,hd⟩:=hd
       obtain ⟨b301,o302,cs303,e304,hC305,hr306⟩:=R33.2 _ _ hx300
       cases hr306
       exact .gyes r r r (.ixa un25 sz72 r e304 r h298 (idx_lt hx300 h298) r r (.gyes r r r (.fa un72 r sz3 r (o:=o302+s240.toNat*2) r r r (.gyes r r r (.ld1 (j:=0) ia3 hC305 r r r r r (.ks 3 r (.nil' fun c w ho hs=>⟨(decide (x299.At<(if r25.N<a2 then r25.N else a2))),hd,I243,(.refl _),ho.sub ⟨r,r,r,r,r,r,r,trivial⟩,hs.pick (.c .z (.c .z (.c .z (.c .z .n))))⟩)))))))
     rw [hb297]
     exact .ks 9 r (.nil' fun c w ho hs=>⟨false,hd,I243,(.refl _),ho.sub ⟨r,r,r,r,r,r,r,trivial⟩,hs.pick (.c .z (.c .z (.c .z (.c .z .n))))⟩)
   rintro s286 hd c w hst
   obtain ⟨I307,hl308,hok,hsym⟩:=hst
   have le309:=IH.le.trans le245 hl308
   have le310:=IH.le.trans hl244 hl308
   replace R33:=R33.mono hl308
   refine Cod.at hok hsym (.condP r hd (fun hb311 hd=>?_) fun hb311 hd=>?_)
   · refine .ownF (.s (.s (.s .z))) fun hne312=>?_
     refine .dr [0,1,2,3,4,5,6,7,8,9,10,11,12,13,14,15,16,17,18] 19 (.g r r r (fun _=>.fa un37 r sz25 r (o:=1) r r r .mk) (.g r r r (fun _=>.load1 ia25 r (.s (.s .z)) r r r .mk) (.g r r r (fun _=>.fa un37 r sz25 r (o:=1) r r r .mk) (.g r r r (fun _=>.load1 ia25 r .z r r r .mk) (.fk 1 r ?_)))))
     obtain ⟨h313,x314,hx315,hd⟩:=hd
     obtain ⟨b316,o317,cs318,e319,hC320,hr321⟩:=R33.2 _ _ hx315
     cases hr321
     refine .g r r r (fun _=>.ixa un25 sz72 r e319 r h313 (idx_lt hx315 h313) r r .mk) (.g r r r (fun _=>.fa un72 r sz3 r (o:=o317+s240.toNat*2) r r r .mk) (.g r r r (fun _=>.ld1 (j:=0) ia3 hC320 r r r r r .mk) (.fk 2 r (.g r r r (fun _=>.fa un37 r sz25 r (o:=1) r r r .mk) (.g r r r (fun _=>.load1 ia25 r .z r r r .mk) (.fk 1 r ?_))))))
     obtain ⟨h322,x323,hx324,hd⟩:=hd
     obtain ⟨b325,o326,cs327,e328,hC329,hr330⟩:=R33.2 _ _ hx324
     cases hr330
     refine .g r r r (fun _=>.ixa un25 sz72 r e328 r h322 (idx_lt hx324 h322) r r .mk) (.g r r r (fun _=>.fa un72 r sz2 r (o:=o326+s240.toNat*2+1) r r r .mk) (.g r r r (fun _=>.ld1 (j:=1) ia2 hC329 r r r r r .mk) (.g r r r (fun _=>.build zv72 un72 BI72 (.c r r r (.t .nil) (.c r r r (.s (.t .nil)) .n)) (by exact ⟨⟨_,_,r,r,r⟩,⟨⟨_,_,r,r,r⟩,trivial⟩⟩) r r .mk) (.ww r fun ex=>?_))))
     refine .buildSlice 1 un25 sz72 zv72 r r (.c r r r .n) r r fun b331=>?_
     refine .so 5 r r r (.cg r r r r (fun _=>.load1 ia25 r (.s (.s (.s .z))) r r r .mk) (.cg r r r r (fun _=>.fa un37 r sz25 r (o:=1) r r r .mk) trivial)) (.ww r fun ex=>?_)
     obtain ⟨hl333,hd⟩:=hd
     refine .append (ys:=[({ At:=w64 (x314.At - (if 0 > a1 then 0 else a1)),Val:=x323.Val }:Item)]) 16 (.s (.s (.s (.s .z)))) un25 un25 IN72 r r r r r r r r r (.box .z (.one r) r) hl333 r r fun p334 c335=>?_
     exact .so 5 r r r trivial (.e2 19 (.fa un37 r sz25 r (o:=1) r r r (.store1 sz25 r r (.s (.s (.s (.s .z)))) (.s (.t .nil)) r (.nilS [8,7,6,3,2,1] r r (.drop (.s .z) (.region (.ks 3 r (.nil' fun c w ho hs=>⟨((s236++([({ At:=w64 (x314.At - (if 0 > a1 then 0 else a1)),Val:=x323.Val }:Item)])),w64 (s240+1)),hd,I307,_,_,le310,ho.sub ⟨r,r,r,r,r,r,trivial⟩,hs.pick (.c (.s .z) (.c (.s .z) (.c (.s .z) (.c .z .n))))⟩))))))))
   exact .skipS [8,7,6,3,2,1] r r (.region (.ks 3 r (.nil' fun c w ho hs=>⟨(s236,w64 (s240+1)),hd,I307,_,_,le310,ho.sub ⟨r,r,r,r,r,r,trivial⟩,hs.pick (.c .z (.c .z (.c .z (.c .z .n))))⟩)))
 refine .exitS [7,6] r r (.drop .z (.sr (.loadW ia37 sz37 r (.s .z) r r r (.storeA sz37 r r .z (.t (.t .nil)) r r (.nilS [6] r r (.drop (.s .z) (.pub (.s .z) fun I337 hl338 R339=>?_)))))))
 have le340:=IH.le.trans le245 hl338
 have le341:=IH.le.trans hl244 hl338
 exact .ret (pret results54 (.w ia37 sz37 r .z r .n) le340 ⟨({ N:=w64 ((if r25.N<a2 then r25.N else a2) - (if 0 > a1 then 0 else a1)),Items:=s236 }:Vec),_,_,r,R339,hd⟩)
theorem W_ref18_Piece {I:IH} {a0:Vec} {a1:Int} {a2:Int} {p1:Option Addr} {c2:Nat} {Q:Vec→Prop} (R3:RepSl eItem I p1 c2 a0.Items) (hd:ref18_Piece a0 a1 a2 Q) :
  PFun prog 16 [.agg #[.int .i64 a0.N,.slice p1 a0.Items.length c2],.int .i64 a1,.int .i64 a2] I (o8_ Q):=by
 refine Fun.enter func16 r ntmps16 r (.c (.c (.c .n))) fun w0 M=>?_
 refine .sr (.boxA r r r fun b11=>?_)
 refine .allocA zv37 r r fun b13=>?_
 refine .nilS [6,3,2,1] r r (.sr (.loadW ia37 sz37 r (.s .z) r r r ?_))
 have hw34:=W_ref09_Sure (I:=I) R3 hd
 refine .call call53 r hw34 r r fun v29 I26 hl27 hv28=>?_
 obtain ⟨r25,p31,c32,rfl,R33,hd⟩:=hv28
 replace R3:=R3.mono hl27
 refine .storeA sz37 r r (.s .z) (.t (.t .nil)) r r (.nilS [6,3,2,1] r r (.seq (.sr (.ks 2 r ?_))))
 have hw43:=W_ref18_sides (I:=I26) hd
 refine .callP call46 r hw43 r r fun v44 hv45=>?_
 obtain ⟨r42,rfl,hd⟩:=hv45
 refine .ks 2 r ?_
 refine splitP hd (fun hb46 hd=>?_) fun hb46 hd=>?_
 · rw [hb46]
   exact .ks 8 r (.nilS [21,6,3,2,1] r r (.condKT r r (.sr (.build zv37 un37 BI37 .n (by exact trivial) r r (.storeA sz37 r r .z (.t (.t .nil)) r r (.nilS [6] r r (.drop (.s .z) (.ret (pret results16 (.w ia37 sz37 r .z r .n) hl27 ⟨({ N:=0,Items:=([]:List Item) }:Vec),_,_,r,(.nil _ _ _),hd⟩)))))))))
 rw [hb46]
 refine .ks 4 r ?_
 refine splitP hd (fun hb47 hd=>?_) fun hb47 hd=>?_
 · rw [hb47]
   exact .ks 4 r (.nilS [21,6,3,2,1] r r (.condKT r r (.sr (.build zv37 un37 BI37 .n (by exact trivial) r r (.storeA sz37 r r .z (.t (.t .nil)) r r (.nilS [6] r r (.drop (.s .z) (.ret (pret results16 (.w ia37 sz37 r .z r .n) hl27 ⟨({ N:=0,Items:=([]:List Item) }:Vec),_,_,r,(.nil _ _ _),hd⟩)))))))))
 rw [hb47]
 refine .ks 4 r (.nilS [21,6,3,2,1] r r (.condP r hd (fun hb48 hd=>?_) fun hb48 hd=>?_))
 · exact .sr (.build zv37 un37 BI37 .n (by exact trivial) r r (.storeA sz37 r r .z (.t (.t .nil)) r r (.nilS [6] r r (.drop (.s .z) (.ret (pret results16 (.w ia37 sz37 r .z r .n) hl27 ⟨({ N:=0,Items:=([]:List Item) }:Vec),_,_,r,(.nil _ _ _),hd⟩))))))
 refine .skipS [6,3,2,1] r r (.seq (.dr [0,1,2,3,4,6,7,8,9,10,5,11,12] 13 (.g r r r (fun _=>.loadW ia37 sz37 r (.s .z) r r r .mk) (.g r r r (fun _=>.fa un37 r sz3 r (o:=0) r r r .mk) (.g r r r (fun _=>.load1 ia3 r (.s .z) r r r .mk) (.fk 2 r (.g r r r (fun _=>.fa un37 r sz3 r (o:=0) r r r .mk) (.g r r r (fun _=>.load1 ia3 r (.s .z) r r r .mk) (.fk 3 r ?_)))))))))
 refine .ww r fun ex=>?_
 have hw50:=W_ref17_Low (I:=I26) hd
 refine .callP call48 r hw50 r r fun v51 hv52=>?_
 obtain ⟨r49,rfl,hd⟩:=hv52
 refine .so 2 r r r (.ck 3 r r (.cg r r r r (fun _=>.load1 ia3 r (.s .z) r r r .mk) (.cg r r r r (fun _=>.fa un37 r sz3 r (o:=0) r r r .mk) (.cg r r r r (fun _=>.loadW ia37 sz37 r (.s .z) r r r .mk) trivial)))) (.ww r fun ex=>?_)
 have hw54:=W_ref17_Low (I:=I26) hd
 refine .callP call48 r hw54 r r fun v55 hv56=>?_
 obtain ⟨r53,rfl,hd⟩:=hv56
 refine .so 2 r r r (.cg r r r r (fun _=>.loadW ia37 sz37 r (.s .z) r r r .mk) trivial) (.ww r fun ex=>?_)
 have hw66:=W_ref09_Part (I:=I26) R33 hd
 refine .call call54 r hw66 r r fun v61 I58 hl59 hv60=>?_
 obtain ⟨r57,p63,c64,rfl,R65,hd⟩:=hv60
 have le67:=IH.le.trans hl27 hl59
 replace R33:=R33.mono hl59
 exact .so 2 r r r trivial (.e2 13 (.storeA sz37 r r .z (.t (.t .nil)) r r (.nilS [6] r r (.drop (.s .z) (.ret (pret results16 (.w ia37 sz37 r .z r .n) le67 ⟨r57,_,_,r,R65,hd⟩))))))
theorem W_ref03_Has {I:IH} {a0:List Int} {a1:Int} {p1:Option Addr} {c2:Nat} {Q:Bool→Prop} (R3:RepSl eU64 I p1 c2 a0) (hd:ref03_Has a0 a1 Q) :
  PFun prog 120 [.slice p1 a0.length c2,.int .i64 a1] I (fun _=>o1_ Q):=by
 refine Fun.enter func120 r ntmps120 r (.c (.c .n)) fun w0 M=>?_
 refine .sr (.ks 1 r (.nilS [1,0] r r (.sr (.ks 3 r ?_))))
 refine splitP hd (fun hb4 hd=>?_) fun hb4 hd=>?_
 · rw [hb4]
   refine .ks 1 r (.gyes r r r (.quo r r (by decide) r r (.ks 1 r (.gyes r r r (.len un26 r r r r (.ks 3 r ?_))))))
   refine splitP hd (fun hb5 hd=>?_) fun hb5 hd=>?_
   · rw [hb5]
     refine .ks 2 r (.gyes r r r (.quo r r (by decide) r r ?_))
     obtain ⟨h6,x7,hx8,hd⟩:=hd
     obtain ⟨b9,o10,cs11,e12,hC13,hr14⟩:=R3.2 _ _ hx8
     cases hr14
     refine .gyes r r r (.ixa un26 sz76 r e12 r h6 (idx_lt hx8 h6) r r (.gyes r r r (.ld1 (j:=0) ia76 hC13 r r r r r (.ks 1 r (.gyes r r r (.rem r r (by decide) r r (.gyes r r r (.conv un3 underlying191 r r r ?_))))))))
     obtain ⟨hz15,hd⟩:=hd
     exact .gyes r r r (.shr' r r hz15 r r (.ks 4 r (.nilS [4] r r (.ret (pret results120 (.t r .n) (.refl _) ⟨((bnd .u64 (shr .u64 x7 (IntKind.wrap .u64 (a1.tmod 64))) 1)==1),r,hd⟩)))))
   rw [hb5]
   exact .ks 13 r (.nilS [4] r r (.ret (pret results120 (.t r .n) (.refl _) ⟨false,r,hd⟩)))
 rw [hb4]
 exact .ks 20 r (.nilS [4] r r (.ret (pret results120 (.t r .n) (.refl _) ⟨false,r,hd⟩)))
theorem W_ref03_List {I:IH} {a0:List Int} {p1:Option Addr} {c2:Nat} {Q:(List Int)→Prop} (R3:RepSl eU64 I p1 c2 a0) (hd:ref03_List a0 Q) :
  PFun prog 156 [.slice p1 a0.length c2] I (fun I_ v=>∃ r p4 c5,v=.slice p4 r.length c5∧RepSl eI64 I_ p4 c5 r∧Q r):=by
 refine Fun.enter func156 r ntmps156 r (.c .n) fun w0 M=>?_
 refine .sr (.ks 1 r (.nilS [0] r r (.sr (.ks 1 r (.nilS [3,0] r r (.seq (.sr (.ks 1 r (.nilS [4,3,0] r r ?_)))))))))
 refine .block (.own0 eI64 3 (.loop hd (fun (s:(List Int)×Int) c w=>match s with | (s49,s53)=>∃ I_ p50 c51,IH.le I I_∧Ok ⟨20,[],none⟩ [(0,.slice p1 a0.length c2),(3,.slice p50 s49.length c51),(4,.int .i64 s53)] c∧Sym w0 M I I_ [OwnSl eI64 3 p50 c51 s49] w) (fun c w ho hs=>⟨I,_,_,(.refl _),ho.sub ⟨r,r,r,trivial⟩,hs.pick (.c .z .n)⟩) ?_))
 rintro ⟨s49,s53⟩ next55 hd c w hst
 obtain ⟨I56,p50,c51,hl57,hok,hsym⟩:=hst
 replace R3:=R3.mono hl57
 refine Cod.at hok hsym (.seq (.sr (.ks 2 r (.len un26 r r r r (.ks 2 r (.nilS [9,4,3,0] r r (.condP r hd (fun hb59 hd=>?_) fun hb59 hd=>?_)))))))
 · refine .skipS [4,3,0] r r (.seq (.block (.sr (.ks 2 r ?_))))
   have hw61:=W_ref03_Has (I:=I56) R3 hd
   refine .callP call120 r hw61 r r fun v62 hv63=>?_
   obtain ⟨r60,rfl,hd⟩:=hv63
   refine .nilS [14,4,3,0] r r (.condP r hd (fun hb64 hd=>?_) fun hb64 hd=>?_)
   · refine .region (.ks 2 r (.buildSlice 1 un31 sz3 zv3 r r (.c r r r .n) r r fun b65=>?_))
     obtain ⟨hl67,hd⟩:=hd
     refine .append (ys:=[s53]) 8 (.s .z) un31 un31 IN3 r r r r r r r r r (.box .z (.one r) r) hl67 r r fun p68 c69=>?_
     exact .ks 1 r (.nilS [3,4,0] r r (.drop (.s .z) (.region (.ks 3 r (.nil' fun c w ho hs=>⟨((s49++([s53])),w64 (s53+1)),hd,I56,_,_,hl57,ho.sub ⟨r,r,r,trivial⟩,hs.pick (.c .z .n)⟩)))))
   exact .skipS [4,3,0] r r (.region (.ks 3 r (.nil' fun c w ho hs=>⟨(s49,w64 (s53+1)),hd,I56,_,_,hl57,ho.sub ⟨r,r,r,trivial⟩,hs.pick (.c .z .n)⟩)))
 refine .exitS [3] r r (.sr (.ks 2 r (.nilS [2] r r (.pub .z fun I71 hl72 R73=>?_))))
 have le74:=IH.le.trans hl57 hl72
 exact .ret (pret results156 (.t r .n) le74 ⟨s49,_,_,r,R73,hd⟩)
theorem W_ref03_words {I:IH} {a0:Int} {Q:Int→Prop}  (hd:ref03_words a0 Q) :
  PFun prog 183 [.int .i64 a0] I (fun _=>o0_ Q):=by
 refine Fun.enter func183 r ntmps183 r (.c .n) fun w0 M=>?_
 refine .sr (.ks 1 r (.nilS [0] r r (.seq ?_)))
 refine Cod.joinQ (σ:=Int) hd (fun (s3:Int) c w=>∃ I_,IH.le I I_∧Ok ⟨10,[],none⟩ [(0,.int .i64 s3)] c∧Sym w0 M I I_ [] w) (fun k4 hd=>?_) ?_
 · skip
   refine .sr (.ks 2 r (.nilS [4,0] r r (.condP r hd (fun hb5 hd=>?_) fun hb5 hd=>?_)))
   · exact .region (.ks 1 r (.nil' fun c w ho hs=>⟨4096,hd,I,(.refl _),ho.sub ⟨r,trivial⟩,hs.pick .n⟩))
   exact .skip' fun c w ho hs=>⟨a0,hd,I,(.refl _),ho.sub ⟨r,trivial⟩,hs.pick .n⟩
 rintro s3 hd c w hst
 obtain ⟨I6,hl7,hok,hsym⟩:=hst
 refine Cod.at hok hsym (.seq (.sr (.ks 2 r (.nilS [6,0] r r (.condP r hd (fun hb8 hd=>?_) fun hb8 hd=>?_)))))
 · exact .sr (.ks 1 r (.nilS [2] r r (.ret (pret results183 (.t r .n) hl7 ⟨0,r,hd⟩))))
 exact .skipS [0] r r (.sr (.ks 2 r (.quo r r (by decide) r r (.ks 1 r (.nilS [2] r r (.ret (pret results183 (.t r .n) hl7 ⟨(w64 ((w64 (s3+63)).tdiv 64)),r,hd⟩)))))))
theorem W_ref03_Right {I:IH} {a0:List Int} {a1:Int} {p1:Option Addr} {c2:Nat} {Q:Bool→Prop} (R3:RepSl eU64 I p1 c2 a0) (hd:ref03_Right a0 a1 Q) :
  PFun prog 181 [.slice p1 a0.length c2,.int .i64 a1] I (fun _=>o1_ Q):=by
 refine Fun.enter func181 r ntmps181 r (.c (.c .n)) fun w0 M=>?_
 refine .sr (.ks 1 r (.nilS [1,0] r r (.seq (.sr (.ks 3 r ?_)))))
 refine splitP hd (fun hb11 hd=>?_) fun hb11 hd=>?_
 · rw [hb11]
   exact .ks 10 r (.nilS [18,1,0] r r (.condKT r r (.sr (.ks 1 r (.nilS [4] r r (.ret (pret results181 (.t r .n) (.refl _) ⟨false,r,hd⟩)))))))
 rw [hb11]
 refine .ks 4 r ?_
 refine splitP hd (fun hb12 hd=>?_) fun hb12 hd=>?_
 · rw [hb12]
   exact .ks 6 r (.nilS [18,1,0] r r (.condKT r r (.sr (.ks 1 r (.nilS [4] r r (.ret (pret results181 (.t r .n) (.refl _) ⟨false,r,hd⟩)))))))
 rw [hb12]
 refine .ks 1 r (.gyes r r r (.len un26 r r r r (.ks 1 r ?_)))
 have hw14:=W_ref03_words (I:=I) hd
 refine .gyes r r r (.callP call183 r hw14 r r fun v15 hv16=>?_)
 obtain ⟨r13,rfl,hd⟩:=hv16
 refine .ks 2 r (.nilS [18,1,0] r r (.condP r hd (fun hb17 hd=>?_) fun hb17 hd=>?_))
 · exact .sr (.ks 1 r (.nilS [4] r r (.ret (pret results181 (.t r .n) (.refl _) ⟨false,r,hd⟩))))
 refine .skipS [1,0] r r (.sr (.ks 1 r ?_))
 have hw37:=W_ref03_List (I:=I) R3 hd
 refine .call call156 r hw37 r r fun v32 I29 hl30 hv31=>?_
 obtain ⟨r28,p34,c35,rfl,R36,hd⟩:=hv31
 replace R3:=R3.mono hl30
 refine .ks 1 r (.nilS [5,1] r r (.sr (.ks 1 r (.len un31 r r r r (.ks 2 r ?_)))))
 refine splitP hd (fun hb38 hd=>?_) fun hb38 hd=>?_
 · rw [hb38]
   exact .ks 10 r (.nilS [4] r r (.ret (pret results181 (.t r .n) hl30 ⟨true,r,hd⟩)))
 rw [hb38]
 refine .ks 2 r (.gyes r r r (.len un31 r r r r (.ks 1 r ?_)))
 obtain ⟨h39,x40,hx41,hd⟩:=hd
 obtain ⟨b42,o43,cs44,e45,hC46,hr47⟩:=R36.2 _ _ hx41
 cases hr47
 exact .gyes r r r (.ixa un31 sz3 r e45 r h39 (idx_lt hx41 h39) r r (.gyes r r r (.ld1 (j:=0) ia3 hC46 r r r r r (.ks 4 r (.nilS [4] r r (.ret (pret results181 (.t r .n) hl30 ⟨(decide (x40<a1)),r,hd⟩)))))))
theorem W_ref10_Right {I:IH} {a0:Dense} {p1:Option Addr} {c2:Nat} {p4:Option Addr} {c5:Nat} {Q:Bool→Prop} (R3:RepSl eU64 I p1 c2 a0.Has) (R6:RepSl eI64 I p4 c5 a0.Vals) (hd:ref10_Right a0 Q) :
  PFun prog 155 [.agg #[.int .i64 a0.N,.slice p1 a0.Has.length c2,.slice p4 a0.Vals.length c5]] I (fun _=>o1_ Q):=by
 refine Fun.enter func155 r ntmps155 r (.c .n) fun w0 M=>?_
 refine .sr (.boxA r r r fun b9=>?_)
 refine .ks 1 r (.nilS [1] r r (.seq (.sr (.fa un111 r sz3 r (o:=0) r r r (.load1 ia3 r .z r r r (.ks 2 r ?_))))))
 refine splitP hd (fun hb19 hd=>?_) fun hb19 hd=>?_
 · rw [hb19]
   exact .ks 20 r (.nilS [27,1] r r (.condKT r r (.sr (.ks 1 r (.nilS [2] r r (.drop .z (.ret (pret results155 (.t r .n) (.refl _) ⟨false,r,hd⟩))))))))
 rw [hb19]
 refine .gyes r r r (.fa un111 r sz3 r (o:=0) r r r (.gyes r r r (.load1 ia3 r .z r r r (.ks 3 r ?_))))
 refine splitP hd (fun hb20 hd=>?_) fun hb20 hd=>?_
 · rw [hb20]
   exact .ks 15 r (.nilS [27,1] r r (.condKT r r (.sr (.ks 1 r (.nilS [2] r r (.drop .z (.ret (pret results155 (.t r .n) (.refl _) ⟨false,r,hd⟩))))))))
 rw [hb20]
 refine .gyes r r r (.fa un111 r sizeOf26 r (o:=1) r r r (.gyes r r r (.load1 isAgg26 r .z r r r (.gyes r r r (.fa un111 r sz3 r (o:=0) r r r (.gyes r r r (.load1 ia3 r .z r r r ?_)))))))
 have hw22:=W_ref03_Right (I:=I) R3 hd
 refine .gyes r r r (.callP call181 r hw22 r r fun v23 hv24=>?_)
 obtain ⟨r21,rfl,hd⟩:=hv24
 refine .ks 3 r ?_
 refine splitP hd (fun hb25 hd=>?_) fun hb25 hd=>?_
 · rw [hb25]
   exact .ks 7 r (.nilS [27,1] r r (.condKT r r (.sr (.ks 1 r (.nilS [2] r r (.drop .z (.ret (pret results155 (.t r .n) (.refl _) ⟨false,r,hd⟩))))))))
 rw [hb25]
 refine .gyes r r r (.fa un111 r sz32 r (o:=2) r r r (.gyes r r r (.load1 ia32 r .z r r r (.gyes r r r (.len un32 r r r r (.gyes r r r (.fa un111 r sz3 r (o:=0) r r r (.gyes r r r (.load1 ia3 r .z r r r (.ks 2 r (.nilS [27,1] r r (.condP r hd (fun hb26 hd=>?_) fun hb26 hd=>?_))))))))))))
 · exact .sr (.ks 1 r (.nilS [2] r r (.drop .z (.ret (pret results155 (.t r .n) (.refl _) ⟨false,r,hd⟩)))))
 refine .skipS [1] r r (.seq (.sr (.ks 1 r (.nilS [3,1] r r (.block (.loop hd (fun (s64:Int) c w=>∃ I_,IH.le I I_∧Ok ⟨47,[],none⟩ [(1,.pointer (some ⟨b9,0,none⟩)),(3,.int .i64 s64)] c∧Sym w0 M I I_ [pto b9 (.cells #[.int .i64 a0.N,.slice p1 a0.Has.length c2,.slice p4 a0.Vals.length c5] 111 (0,0))] w) (fun c w ho hs=>⟨I,(.refl _),ho.sub ⟨r,r,trivial⟩,hs.pick (.c .z .n)⟩) ?_))))))
 rintro s64 next65 hd c w hst
 obtain ⟨I66,hl67,hok,hsym⟩:=hst
 replace R3:=R3.mono hl67
 replace R6:=R6.mono hl67
 refine Cod.at hok hsym (.seq (.sr (.ks 1 r (.fa un111 r sz3 r (o:=0) r r r (.load1 ia3 r .z r r r (.ks 1 r (.nilS [31,3,1] r r (.condP r hd (fun hb69 hd=>?_) fun hb69 hd=>?_))))))))
 · refine .skipS [3,1] r r (.seq (.block (.sr (.fa un111 r sizeOf26 r (o:=1) r r r (.load1 isAgg26 r .z r r r (.ks 1 r ?_))))))
   have hw71:=W_ref03_Has (I:=I66) R3 hd
   refine .callP call120 r hw71 r r fun v72 hv73=>?_
   obtain ⟨r70,rfl,hd⟩:=hv73
   refine .ks 2 r ?_
   refine splitP hd (fun hb74 hd=>?_) fun hb74 hd=>?_
   · rw [hb74]
     refine .gyes r r r (.fa un111 r sz32 r (o:=2) r r r (.gyes r r r (.load1 ia32 r .z r r r (.ks 1 r ?_))))
     obtain ⟨h75,x76,hx77,hd⟩:=hd
     obtain ⟨b78,o79,cs80,e81,hC82,hr83⟩:=R6.2 _ _ hx77
     cases hr83
     refine .gyes r r r (.ixa un32 sz2 r e81 r h75 (idx_lt hx77 h75) r r (.gyes r r r (.ld1 (j:=0) ia2 hC82 r r r r r (.ks 2 r (.nilS [46,3,1] r r (.condP r hd (fun hb84 hd=>?_) fun hb84 hd=>?_))))))
     · exact .sr (.ks 1 r (.nilS [2] r r (.drop .z (.ret (pret results155 (.t r .n) hl67 ⟨false,r,hd⟩)))))
     exact .skipS [3,1] r r (.region (.ks 3 r (.nil' fun c w ho hs=>⟨(w64 (s64+1)),hd,I66,hl67,ho.sub ⟨r,r,trivial⟩,hs.pick (.c .z .n)⟩)))
   rw [hb74]
   exact .ks 7 r (.nilS [46,3,1] r r (.condKF r r (.skipS [3,1] r r (.region (.ks 3 r (.nil' fun c w ho hs=>⟨(w64 (s64+1)),hd,I66,hl67,ho.sub ⟨r,r,trivial⟩,hs.pick (.c .z .n)⟩))))))
 exact .exitS [] r r (.drop .z (.sr (.ks 1 r (.nilS [2] r r (.ret (pret results155 (.t r .n) hl67 ⟨true,r,hd⟩))))))
theorem W_ref10_Back {I:IH} {a0:Dense} {p1:Option Addr} {c2:Nat} {p4:Option Addr} {c5:Nat} {Q:Vec→Prop} (R3:RepSl eU64 I p1 c2 a0.Has) (R6:RepSl eI64 I p4 c5 a0.Vals) (hd:ref10_Back a0 Q) :
  PFun prog 119 [.agg #[.int .i64 a0.N,.slice p1 a0.Has.length c2,.slice p4 a0.Vals.length c5]] I (fun I_ v=>∃ r p7 c8,v=.agg #[.int .i64 r.N,.slice p7 r.Items.length c8]∧RepSl eItem I_ p7 c8 r.Items∧Q r):=by
 refine Fun.enter func119 r ntmps119 r (.c .n) fun w0 M=>?_
 refine .sr (.boxA r r r fun b14=>?_)
 refine .allocA zv37 r r fun b16=>?_
 refine .nilS [2,1] r r (.seq (.sr (.loadW isAgg111 sz111 r (.s .z) r r r ?_)))
 have hw24:=W_ref10_Right (I:=I) R3 R6 hd
 refine .callP call155 r hw24 r r fun v25 hv26=>?_
 obtain ⟨r23,rfl,hd⟩:=hv26
 refine .ks 1 r (.nilS [8,2,1] r r (.condP r hd (fun hb27 hd=>?_) fun hb27 hd=>?_))
 · exact .sr (.build zv37 un37 BI37 .n (by exact trivial) r r (.storeA sz37 r r .z (.t (.t .nil)) r r (.nilS [2] r r (.drop (.s .z) (.ret (pret results119 (.w ia37 sz37 r .z r .n) (.refl _) ⟨({ N:=0,Items:=([]:List Item) }:Vec),_,_,r,(.nil _ _ _),hd⟩))))))
 refine .skipS [2,1] r r (.sr (.fa un111 r sz3 r (o:=0) r r r (.load1 ia3 r (.s .z) r r r (.build zv37 un37 BI37 (.c r r r (.t .nil) .n) (by exact ⟨⟨_,_,r,r,r⟩,trivial⟩) r r (.allocA zv37 r r fun b30=>?_)))))
 refine .storeA sz37 r r .z (.t (.t .nil)) r r (.nilS [3,2,1] r r (.sr (.fa un111 r sizeOf26 r (o:=1) r r r (.load1 isAgg26 r (.s (.s .z)) r r r ?_))))
 have hw51:=W_ref03_List (I:=I) R3 hd
 refine .call call156 r hw51 r r fun v46 I43 hl44 hv45=>?_
 obtain ⟨r42,p48,c49,rfl,R50,hd⟩:=hv45
 replace R3:=R3.mono hl44
 replace R6:=R6.mono hl44
 refine .ks 1 r (.nilS [4,3,2,1] r r (.seq (.sr (.ks 1 r (.nilS [5,4,3,2,1] r r (.block (.own0 eItem 72 (.loop hd (fun (s:(List Item)×Int) c w=>match s with | (s139,s143)=>∃ I_ p140 c141,IH.le I43 I_∧Ok ⟨41,[],none⟩ [(1,.pointer (some ⟨b14,0,none⟩)),(2,.pointer (some ⟨b16,0,none⟩)),(3,.pointer (some ⟨b30,0,none⟩)),(4,.slice p48 r42.length c49),(5,.int .i64 s143)] c∧Sym w0 M I I_ [pto b14 (.cells #[.int .i64 a0.N,.slice p1 a0.Has.length c2,.slice p4 a0.Vals.length c5] 111 (0,0)),pto b16 (.cells #[.int .i64 0,.slice none 0 0] 37 (0,0)),pto b30 (.cells #[.int .i64 a0.N,.slice p140 s139.length c141] 37 (0,0)),OwnSl eItem 72 p140 c141 s139] w) (fun c w ho hs=>⟨I43,_,_,(.refl _),ho.sub ⟨r,r,r,r,r,trivial⟩,hs.pick (.c (.s (.s (.s .z))) (.c (.s (.s .z)) (.c (.s .z) (.c .z .n))))⟩) ?_))))))))
 rintro ⟨s139,s143⟩ next145 hd c w hst
 obtain ⟨I146,p140,c141,hl147,hok,hsym⟩:=hst
 have le148:=IH.le.trans hl44 hl147
 replace R3:=R3.mono hl147
 replace R6:=R6.mono hl147
 replace R50:=R50.mono hl147
 refine Cod.at hok hsym (.seq (.sr (.ks 2 r (.len un31 r r r r (.ks 1 r (.nilS [19,5,4,3,2,1] r r (.condP r hd (fun hb150 hd=>?_) fun hb150 hd=>?_)))))))
 · refine .skipS [5,4,3,2,1] r r (.seq (.block (.ownF (.s (.s (.s .z))) fun hne151=>?_)))
   refine .dr [0,1,2,3,4,5,6,7,8,9,10,11,12,13,14,15,16] 17 (.g r r r (fun _=>.fa un37 r sz25 r (o:=1) r r r .mk) (.g r r r (fun _=>.load1 ia25 r (.s (.s .z)) r r r .mk) (.fk 2 r ?_)))
   obtain ⟨h152,x153,hx154,hd⟩:=hd
   obtain ⟨b155,o156,cs157,e158,hC159,hr160⟩:=R50.2 _ _ hx154
   cases hr160
   refine .g r r r (fun _=>.ixa un31 sz3 r e158 r h152 (idx_lt hx154 h152) r r .mk) (.g r r r (fun _=>.ld1 (j:=0) ia3 hC159 r r r r r .mk) (.g r r r (fun _=>.fa un111 r sz32 r (o:=2) r r r .mk) (.g r r r (fun _=>.load1 ia32 r .z r r r .mk) (.fk 2 r ?_))))
   obtain ⟨h161,x162,hx163,hd⟩:=hd
   obtain ⟨b164,o165,cs166,e167,hC168,hr169⟩:=R50.2 _ _ hx163
   cases hr169
   refine .g r r r (fun _=>.ixa un31 sz3 r e167 r h161 (idx_lt hx163 h161) r r .mk) (.g r r r (fun _=>.ld1 (j:=0) ia3 hC168 r r r r r .mk) ?_)
   obtain ⟨h170,x171,hx172,hd⟩:=hd
   obtain ⟨b173,o174,cs175,e176,hC177,hr178⟩:=R6.2 _ _ hx172
   cases hr178
   refine .g r r r (fun _=>.ixa un32 sz2 r e176 r h170 (idx_lt hx172 h170) r r .mk) (.g r r r (fun _=>.ld1 (j:=0) ia2 hC177 r r r r r .mk) (.g r r r (fun _=>.build zv72 un72 BI72 (.c r r r (.t .nil) (.c r r r (.s (.t .nil)) .n)) (by exact ⟨⟨_,_,r,r,r⟩,⟨⟨_,_,r,r,r⟩,trivial⟩⟩) r r .mk) (.ww r fun ex=>?_)))
   refine .buildSlice 1 un25 sz72 zv72 r r (.c r r r .n) r r fun b179=>?_
   refine .so 5 r r r (.cg r r r r (fun _=>.load1 ia25 r (.s (.s (.s .z))) r r r .mk) (.cg r r r r (fun _=>.fa un37 r sz25 r (o:=1) r r r .mk) trivial)) (.ww r fun ex=>?_)
   obtain ⟨hl181,hd⟩:=hd
   refine .append (ys:=[({ At:=x153,Val:=x171 }:Item)]) 16 (.s (.s (.s (.s .z)))) un25 un25 IN72 r r r r r r r r r (.box .z (.one r) r) hl181 r r fun p182 c183=>?_
   exact .so 5 r r r trivial (.e2 17 (.fa un37 r sz25 r (o:=1) r r r (.store1 sz25 r r (.s (.s (.s (.s .z)))) (.s (.t .nil)) r (.nilS [5,4,3,2,1] r r (.drop (.s .z) (.region (.ks 3 r (.nil' fun c w ho hs=>⟨((s139++([({ At:=x153,Val:=x171 }:Item)])),w64 (s143+1)),hd,I146,_,_,hl147,ho.sub ⟨r,r,r,r,r,trivial⟩,hs.pick (.c (.s .z) (.c (.s .z) (.c (.s .z) (.c .z .n))))⟩))))))))
 refine .exitS [3,2] r r (.drop .z (.sr (.loadW ia37 sz37 r (.s .z) r r r (.storeA sz37 r r .z (.t (.t .nil)) r r (.nilS [2] r r (.drop (.s .z) (.pub (.s .z) fun I185 hl186 R187=>?_)))))))
 have le188:=IH.le.trans le148 hl186
 have le189:=IH.le.trans hl147 hl186
 exact .ret (pret results119 (.w ia37 sz37 r .z r .n) le188 ⟨({ N:=a0.N,Items:=s139 }:Vec),_,_,r,R187,hd⟩)
theorem W_ref09_Get {I:IH} {a0:Vec} {a1:Int} {p1:Option Addr} {c2:Nat} {Q:(Int×Bool)→Prop} (R3:RepSl eItem I p1 c2 a0.Items) (hd:ref09_Get a0 a1 Q) :
  PFun prog 121 [.agg #[.int .i64 a0.N,.slice p1 a0.Items.length c2],.int .i64 a1] I (fun _=>o3_ Q):=by
 refine Fun.enter func121 r ntmps121 r (.c (.c .n)) fun w0 M=>?_
 refine .sr (.boxA r r r fun b6=>?_)
 refine .ks 2 r (.nilS [2,1] r r (.sr (.loadW ia37 sz37 r .z r r r ?_)))
 have hw27:=W_ref09_Sure (I:=I) R3 hd
 refine .call call53 r hw27 r r fun v22 I19 hl20 hv21=>?_
 obtain ⟨r18,p24,c25,rfl,R26,hd⟩:=hv21
 replace R3:=R3.mono hl20
 refine .storeA sz37 r r .z (.t (.t .nil)) r r (.nilS [2,1] r r (.seq (.sr (.ks 1 r (.nilS [6,2,1] r r (.block (.loop hd (fun (s91:Int) c w=>∃ I_,IH.le I19 I_∧Ok ⟨30,[],none⟩ [(1,.int .i64 a1),(2,.pointer (some ⟨b6,0,none⟩)),(6,.int .i64 s91)] c∧Sym w0 M I I_ [pto b6 (.cells #[.int .i64 r18.N,.slice p24 r18.Items.length c25] 37 (0,0))] w) (fun c w ho hs=>⟨I19,(.refl _),ho.sub ⟨r,r,r,trivial⟩,hs.pick (.c .z .n)⟩) ?_)))))))
 rintro s91 next92 hd c w hst
 obtain ⟨I93,hl94,hok,hsym⟩:=hst
 have le95:=IH.le.trans hl20 hl94
 replace R26:=R26.mono hl94
 refine Cod.at hok hsym (.seq (.sr (.ks 1 r (.fa un37 r sz25 r (o:=1) r r r (.load1 ia25 r .z r r r (.len un25 r r r r (.ks 1 r (.nilS [13,6,2,1] r r (.condP r hd (fun hb97 hd=>?_) fun hb97 hd=>?_)))))))))
 · refine .skipS [6,2,1] r r (.seq (.block (.sr (.fa un37 r sz25 r (o:=1) r r r (.load1 ia25 r .z r r r (.ks 1 r ?_))))))
   obtain ⟨h107,x108,hx109,hd⟩:=hd
   obtain ⟨b110,o111,cs112,e113,hC114,hr115⟩:=R26.2 _ _ hx109
   cases hr115
   refine .ixa un25 sz72 r e113 r h107 (idx_lt hx109 h107) r r (.fa un72 r sz3 r (o:=o111+s91.toNat*2) r r r (.ld1 (j:=0) ia3 hC114 r r r r r (.ks 2 r (.nilS [23,6,2,1] r r (.condP r hd (fun hb116 hd=>?_) fun hb116 hd=>?_)))))
   · refine .sr (.fa un37 r sz25 r (o:=1) r r r (.load1 ia25 r .z r r r (.ks 1 r ?_)))
     obtain ⟨h117,x118,hx119,hd⟩:=hd
     obtain ⟨b120,o121,cs122,e123,hC124,hr125⟩:=R26.2 _ _ hx119
     cases hr125
     exact .ixa un25 sz72 r e123 r h117 (idx_lt hx119 h117) r r (.fa un72 r sz2 r (o:=o121+s91.toNat*2+1) r r r (.ld1 (j:=1) ia2 hC124 r r r r r (.ks 2 r (.nilS [5,4] r r (.drop .z (.ret (pret results121 (.t r (.t r .n)) le95 ⟨(x118.Val,true),r,hd⟩)))))))
   exact .skipS [6,2,1] r r (.region (.ks 3 r (.nil' fun c w ho hs=>⟨(w64 (s91+1)),hd,I93,hl94,ho.sub ⟨r,r,r,trivial⟩,hs.pick (.c .z .n)⟩)))
 exact .exitS [] r r (.drop .z (.sr (.ks 2 r (.nilS [5,4] r r (.ret (pret results121 (.t r (.t r .n)) le95 ⟨(0,false),r,hd⟩))))))
theorem W_ref01_Minus {I:IH} {a0:Wide} {Q:Wide→Prop}  (hd:ref01_Minus a0 Q) :
  PFun prog 182 [.agg (encWide a0).toArray] I (fun _=>o2_ Q):=by
 refine Fun.enter func182 r ntmps182 r (.c .n) fun w0 M=>?_
 refine .sr (.boxA r r r fun b5=>?_)
 refine .allocA zv78 r r fun b7=>?_
 refine .nilS [2,1] r r (.sr (.fa un78 r sz2 r (o:=0) r r r (.load1 ia2 r (.s .z) r r r (.invS r r r r (.fa un78 r sz76 r (o:=1) r r r (.load1 ia76 r (.s .z) r r r (.invU (M:=18446744073709551615) r (by decide) r r r (.build zv78 un78 BI78 (.c r r r (.t .nil) (.c r r r (.s (.t .nil)) .n)) (by exact ⟨⟨_,_,r,r,r⟩,⟨⟨_,_,r,r,r⟩,trivial⟩⟩) r r (.build zv78 un78 BI78 (.c r r r (.s (.t .nil)) .n) (by exact ⟨⟨_,_,r,r,r⟩,trivial⟩) r r ?_)))))))))
 have hw10:=W_ref01_Add (I:=I) hd
 refine .callP call157 r hw10 r r fun v11 hv12=>?_
 obtain ⟨r9,rfl,hd⟩:=hv12
 exact .storeA sz78 r r .z (.t (.t .nil)) r r (.nilS [2] r r (.drop (.s .z) (.ret (pret results182 (.w ia78 sz78 r .z r .n) (.refl _) ⟨r9,r,hd⟩))))
theorem W_ref01_Mul {I:IH} {a0:Int} {a1:Int} {Q:Wide→Prop}  (hd:ref01_Mul a0 a1 Q) :
  PFun prog 160 [.int .i64 a0,.int .i64 a1] I (fun _=>o2_ Q):=by
 refine Fun.enter func160 r ntmps160 r (.c (.c .n)) fun w0 M=>?_
 refine .sr (.allocA zv78 r r fun b3=>?_)
 refine .nilS [4,1,0] r r (.sr (.ks 1 r ?_))
 have hw12:=W_ref01_Of (I:=I) hd
 refine .callP call135 r hw12 r r fun v13 hv14=>?_
 obtain ⟨r11,rfl,hd⟩:=hv14
 refine .allocA zv78 r r fun b15=>?_
 refine .storeA sz78 r r .z (.t (.t .nil)) r r (.nilS [5,4,1] r r (.sr (.ks 3 r (.nilS [6,5,4,1] r r (.sr (.ks 1 r (.conv un2 un76 r r r (.ks 1 r (.nilS [7,6,5,4] r r ?_)))))))))
 refine .seq ?_
 refine Cod.joinQ (σ:=Int) hd (fun (s19:Int) c w=>∃ I_,IH.le I I_∧Ok ⟨35,[],none⟩ [(4,.pointer (some ⟨b3,0,none⟩)),(5,.pointer (some ⟨b15,0,none⟩)),(6,.bool (decide (a1<0))),(7,.int .u64 s19)] c∧Sym w0 M I I_ [pto b3 (.cells #[.int .i64 0,.int .u64 0] 78 (0,0)),pto b15 (.cells #[.int .i64 r11.Hi,.int .u64 r11.Lo] 78 (0,0))] w) (fun k20 hd=>?_) ?_
 · skip
   refine .sr (.ks 1 r (.nilS [15,7,6,5,4] r r (.condP r hd (fun hb21 hd=>?_) fun hb21 hd=>?_)))
   · exact .region (.ks 1 r (.neg r r r (.ks 1 r (.nil' fun c w ho hs=>⟨(IntKind.wrap .u64 (0 - (IntKind.wrap .u64 (a1)))),hd,I,(.refl _),ho.sub ⟨r,r,r,r,trivial⟩,hs.pick (.c (.s .z) (.c .z .n))⟩))))
   exact .skip' fun c w ho hs=>⟨(IntKind.wrap .u64 (a1)),hd,I,(.refl _),ho.sub ⟨r,r,r,r,trivial⟩,hs.pick (.c (.s .z) (.c .z .n))⟩
 rintro s19 hd c w hst
 obtain ⟨I22,hl23,hok,hsym⟩:=hst
 refine Cod.at hok hsym (.sr (.allocA zv78 r r fun b26=>?_))
 refine .nilS [8,7,6,5,4] r r (.seq (.block (.loop hd (fun (s:Int×Int×Int×Int×Int) c w=>match s with | (s142,s143,s144,s145,s146)=>∃ I_,IH.le I22 I_∧Ok ⟨35,[],none⟩ [(4,.pointer (some ⟨b3,0,none⟩)),(5,.pointer (some ⟨b15,0,none⟩)),(6,.bool (decide (a1<0))),(7,.int .u64 s144),(8,.pointer (some ⟨b26,0,none⟩))] c∧Sym w0 M I I_ [pto b3 (.cells #[.int .i64 0,.int .u64 0] 78 (0,0)),pto b15 (.cells #[.int .i64 s142,.int .u64 s143] 78 (0,0)),pto b26 (.cells #[.int .i64 s145,.int .u64 s146] 78 (0,0))] w) (fun c w ho hs=>⟨I22,(.refl _),ho.sub ⟨r,r,r,r,r,trivial⟩,hs.pick (.c (.s .z) (.c (.s .z) (.c .z .n)))⟩) ?_)))
 rintro ⟨s142,s143,s144,s145,s146⟩ next147 hd c w hst
 obtain ⟨I148,hl149,hok,hsym⟩:=hst
 have le150:=IH.le.trans hl23 hl149
 refine Cod.at hok hsym (.seq (.sr (.ks 2 r (.nilS [19,8,7,6,5,4] r r (.condP r hd (fun hb152 hd=>?_) fun hb152 hd=>?_)))))
 · refine .skipS [8,7,6,5,4] r r (.block (.seq (.sr (.ks 1 r (.rem r r (by decide) r r (.ks 1 r (.nilS [22,8,7,6,5,4] r r (.condP r hd (fun hb153 hd=>?_) fun hb153 hd=>?_))))))))
   · refine .region (.loadW ia78 sz78 r (.s (.s .z)) r r r (.loadW ia78 sz78 r (.s .z) r r r ?_))
     have hw155:=W_ref01_Add (I:=I148) hd
     refine .callP call157 r hw155 r r fun v156 hv157=>?_
     obtain ⟨r154,rfl,hd⟩:=hv157
     refine .storeA sz78 r r (.s (.s .z)) (.t (.t .nil)) r r (.nilS [8,7,6,5,4] r r (.sr (.loadW ia78 sz78 r (.s .z) r r r (.loadW ia78 sz78 r (.s .z) r r r ?_))))
     have hw159:=W_ref01_Add (I:=I148) hd
     refine .callP call157 r hw159 r r fun v160 hv161=>?_
     obtain ⟨r158,rfl,hd⟩:=hv161
     exact .storeA sz78 r r (.s .z) (.t (.t .nil)) r r (.nilS [8,7,6,5,4] r r (.region (.ks 1 r (.quo r r (by decide) r r (.ks 1 r (.nil' fun c w ho hs=>⟨(r158.Hi,r158.Lo,IntKind.wrap .u64 (s144.tdiv 2),r154.Hi,r154.Lo),hd,I148,hl149,ho.sub ⟨r,r,r,r,r,trivial⟩,hs.pick (.c .z (.c .z (.c .z .n)))⟩))))))
   refine .skipS [8,7,6,5,4] r r (.sr (.loadW ia78 sz78 r (.s .z) r r r (.loadW ia78 sz78 r (.s .z) r r r ?_)))
   have hw163:=W_ref01_Add (I:=I148) hd
   refine .callP call157 r hw163 r r fun v164 hv165=>?_
   obtain ⟨r162,rfl,hd⟩:=hv165
   exact .storeA sz78 r r (.s .z) (.t (.t .nil)) r r (.nilS [8,7,6,5,4] r r (.region (.ks 1 r (.quo r r (by decide) r r (.ks 1 r (.nil' fun c w ho hs=>⟨(r162.Hi,r162.Lo,IntKind.wrap .u64 (s144.tdiv 2),s145,s146),hd,I148,hl149,ho.sub ⟨r,r,r,r,r,trivial⟩,hs.pick (.c .z (.c .z (.c .z .n)))⟩))))))
 refine .exitS [8,6,4] r r (.drop (.s .z) (.seq (.sr (.ks 1 r (.nilS [31,8,4] r r (.condP r hd (fun hb166 hd=>?_) fun hb166 hd=>?_))))))
 · refine .sr (.loadW ia78 sz78 r (.s .z) r r r ?_)
   have hw168:=W_ref01_Minus (I:=I148) hd
   refine .callP call182 r hw168 r r fun v169 hv170=>?_
   obtain ⟨r167,rfl,hd⟩:=hv170
   exact .storeA sz78 r r .z (.t (.t .nil)) r r (.nilS [4] r r (.drop (.s .z) (.ret (pret results160 (.w ia78 sz78 r .z r .n) le150 ⟨r167,r,hd⟩))))
 exact .skipS [8,4] r r (.sr (.loadW ia78 sz78 r (.s .z) r r r (.storeA sz78 r r .z (.t (.t .nil)) r r (.nilS [4] r r (.drop (.s .z) (.ret (pret results160 (.w ia78 sz78 r .z r .n) le150 ⟨({ Hi:=s145,Lo:=s146 }:Wide),r,hd⟩)))))))
theorem W_ref02_Mul {I:IH} {a0:Int} {a1:Int} {a2:Int} {Q:Wide→Prop}  (hd:ref02_Mul a0 a1 a2 Q) :
  PFun prog 122 [.int .i64 a0,.int .i64 a1,.int .i64 a2] I (fun _=>o2_ Q):=by
 refine Fun.enter func122 r ntmps122 r (.c (.c (.c .n))) fun w0 M=>?_
 refine .sr (.allocA zv78 r r fun b3=>?_)
 refine .nilS [6,2,1,0] r r (.seq ?_)
 refine Cod.joinQ (σ:=Bool) hd (fun (s7:Bool) c w=>∃ I_,IH.le I I_∧Ok ⟨59,[],none⟩ [(0,.int .i64 a0),(1,.int .i64 a1),(2,.int .i64 a2),(6,.pointer (some ⟨b3,0,none⟩)),(7,.bool s7)] c∧Sym w0 M I I_ [pto b3 (.cells #[.int .i64 0,.int .u64 0] 78 (0,0))] w) (fun k8 hd=>?_) ?_
 · skip
   refine .region (.ks 3 r ?_)
   refine splitP hd (fun hb9 hd=>?_) fun hb9 hd=>?_
   · rw [hb9]
     exact .ks 4 r (.nil' fun c w ho hs=>⟨true,hd,I,(.refl _),ho.sub ⟨r,r,r,r,r,trivial⟩,hs.pick (.c .z .n)⟩)
   rw [hb9]
   exact .ks 4 r (.nil' fun c w ho hs=>⟨(decide (4611686018427387904≤a2)),hd,I,(.refl _),ho.sub ⟨r,r,r,r,r,trivial⟩,hs.pick (.c .z .n)⟩)
 rintro s7 hd c w hst
 obtain ⟨I10,hl11,hok,hsym⟩:=hst
 refine Cod.at hok hsym (.sr (.ks 1 r (.nilS [15,7,6,2,1] r r (.block (.sr (.ks 2 r (.nilS [17,15,7,6,2,1] r r (.condP r hd (fun hb12 hd=>?_) fun hb12 hd=>?_))))))))
 · refine .sr (.ks 1 r ?_)
   have hw28:=W_ref01_Of (I:=I10) hd
   refine .callP call135 r hw28 r r fun v29 hv30=>?_
   obtain ⟨r27,rfl,hd⟩:=hv30
   refine .ks 1 r ?_
   have hw32:=W_ref01_Of (I:=I10) hd
   refine .callP call135 r hw32 r r fun v33 hv34=>?_
   obtain ⟨r31,rfl,hd⟩:=hv34
   have hw36:=W_ref01_Add (I:=I10) hd
   refine .callP call157 r hw36 r r fun v37 hv38=>?_
   obtain ⟨r35,rfl,hd⟩:=hv38
   refine .allocA zv78 r r fun b39=>?_
   refine .storeA sz78 r r .z (.t (.t .nil)) r r (.nilS [8,7,6] r r (.seq (.seq (.dr [0,1,2,3,4,5,6] 7 (.fk 2 r ?_)))))
   refine splitP hd (fun hb41 hd=>?_) fun hb41 hd=>?_
   · refine .g r r r (fun _=>.gno r r hb41 r r .mk) (.g r r r (fun _=>.gno r r hb41 r r .mk) (.g r r r (fun _=>.gno r r hb41 r r .mk) (.g r r r (fun _=>.gno r r hb41 r r .mk) (.g r r r (fun _=>.pickT r hb41 r r r .mk) (.e2 7 (.nilS [30,8,6] r r (.condKT r r (.sr ?_))))))))
     have hw43:=W_ref01_Of (I:=I10) hd
     refine .callP call135 r hw43 r r fun v44 hv45=>?_
     obtain ⟨r42,rfl,hd⟩:=hv45
     exact .storeA sz78 r r (.s .z) (.t (.t .nil)) r r (.nilS [6] r r (.drop .z (.ret (pret results122 (.w ia78 sz78 r .z r .n) hl11 ⟨r42,r,hd⟩))))
   refine .g r r r (fun _=>.gyes r r hb41 (.loadW ia78 sz78 r .z r r r .mk)) (.ww r fun ex=>?_)
   have hw47:=W_ref01_Of (I:=I10) hd
   refine .gyes r r hb41 (.callP call135 r hw47 r r fun v48 hv49=>?_)
   obtain ⟨r46,rfl,hd⟩:=hv49
   refine .so 2 r r r (.cg r r r r (fun _=>.gyes r r hb41 (.loadW ia78 sz78 r .z r r r .mk)) trivial) (.ww r fun ex=>?_)
   have hw51:=W_ref01_Compare (I:=I10) hd
   refine .gyes r r hb41 (.callP call158 r hw51 r r fun v52 hv53=>?_)
   obtain ⟨r50,rfl,hd⟩:=hv53
   refine .so 2 r r r trivial (.g r r r (fun _=>.gyes r r hb41 (.gt r r r r .mk)) (.g r r r (fun _=>.pickF r hb41 r r r .mk) (.e2 7 (.nilS [30,8,6] r r (.condP r hd (fun hb54 hd=>?_) fun hb54 hd=>?_)))))
   · refine .sr ?_
     have hw56:=W_ref01_Of (I:=I10) hd
     refine .callP call135 r hw56 r r fun v57 hv58=>?_
     obtain ⟨r55,rfl,hd⟩:=hv58
     exact .storeA sz78 r r (.s .z) (.t (.t .nil)) r r (.nilS [6] r r (.drop .z (.ret (pret results122 (.w ia78 sz78 r .z r .n) hl11 ⟨r55,r,hd⟩))))
   exact .skipS [8,6] r r (.sr (.loadW ia78 sz78 r .z r r r (.storeA sz78 r r (.s .z) (.t (.t .nil)) r r (.nilS [6] r r (.drop .z (.ret (pret results122 (.w ia78 sz78 r .z r .n) hl11 ⟨r35,r,hd⟩)))))))
 refine .sr (.ks 2 r (.nilS [33,15,7,6,2,1] r r (.condP r hd (fun hb59 hd=>?_) fun hb59 hd=>?_)))
 · refine .seq (.sr (.ks 1 r (.nilS [35,6,1] r r (.condP r hd (fun hb60 hd=>?_) fun hb60 hd=>?_))))
   · refine .sr ?_
     have hw62:=W_ref01_Of (I:=I10) hd
     refine .callP call135 r hw62 r r fun v63 hv64=>?_
     obtain ⟨r61,rfl,hd⟩:=hv64
     exact .storeA sz78 r r .z (.t (.t .nil)) r r (.nilS [6] r r (.ret (pret results122 (.w ia78 sz78 r .z r .n) hl11 ⟨r61,r,hd⟩)))
   refine .skipS [6,1] r r (.sr (.ks 1 r ?_))
   have hw66:=W_ref01_Of (I:=I10) hd
   refine .callP call135 r hw66 r r fun v67 hv68=>?_
   obtain ⟨r65,rfl,hd⟩:=hv68
   exact .storeA sz78 r r .z (.t (.t .nil)) r r (.nilS [6] r r (.ret (pret results122 (.w ia78 sz78 r .z r .n) hl11 ⟨r65,r,hd⟩)))
 refine .sr (.ks 2 r (.nilS [39,15,7,6,2,1] r r (.condP r hd (fun hb69 hd=>?_) fun hb69 hd=>?_)))
 · refine .seq (.sr (.ks 1 r (.nilS [41,6,2] r r (.condP r hd (fun hb70 hd=>?_) fun hb70 hd=>?_))))
   · refine .sr ?_
     have hw72:=W_ref01_Of (I:=I10) hd
     refine .callP call135 r hw72 r r fun v73 hv74=>?_
     obtain ⟨r71,rfl,hd⟩:=hv74
     exact .storeA sz78 r r .z (.t (.t .nil)) r r (.nilS [6] r r (.ret (pret results122 (.w ia78 sz78 r .z r .n) hl11 ⟨r71,r,hd⟩)))
   refine .skipS [6,2] r r (.sr (.ks 1 r ?_))
   have hw76:=W_ref01_Of (I:=I10) hd
   refine .callP call135 r hw76 r r fun v77 hv78=>?_
   obtain ⟨r75,rfl,hd⟩:=hv78
   exact .storeA sz78 r r .z (.t (.t .nil)) r r (.nilS [6] r r (.ret (pret results122 (.w ia78 sz78 r .z r .n) hl11 ⟨r75,r,hd⟩)))
 refine .sr (.ks 2 r (.nilS [45,15,6,2,1] r r (.condP r hd (fun hb79 hd=>?_) fun hb79 hd=>?_)))
 · refine .sr (.ks 3 r ?_)
   refine splitP hd (fun hb80 hd=>?_) fun hb80 hd=>?_
   · rw [hb80]
     refine .ks 3 r ?_
     have hw82:=W_ref02_truth (I:=I10) hd
     refine .callP call159 r hw82 r r fun v83 hv84=>?_
     obtain ⟨r81,rfl,hd⟩:=hv84
     exact .storeA sz78 r r .z (.t (.t .nil)) r r (.nilS [6] r r (.ret (pret results122 (.w ia78 sz78 r .z r .n) hl11 ⟨r81,r,hd⟩)))
   rw [hb80]
   refine .ks 3 r ?_
   have hw86:=W_ref02_truth (I:=I10) hd
   refine .callP call159 r hw86 r r fun v87 hv88=>?_
   obtain ⟨r85,rfl,hd⟩:=hv88
   exact .storeA sz78 r r .z (.t (.t .nil)) r r (.nilS [6] r r (.ret (pret results122 (.w ia78 sz78 r .z r .n) hl11 ⟨r85,r,hd⟩)))
 refine .sr (.ks 2 r (.nilS [54,6,2,1] r r (.condP r hd (fun hb89 hd=>?_) fun hb89 hd=>?_)))
 · refine .sr (.ks 2 r ?_)
   have hw91:=W_ref01_Mul (I:=I10) hd
   refine .callP call160 r hw91 r r fun v92 hv93=>?_
   obtain ⟨r90,rfl,hd⟩:=hv93
   exact .storeA sz78 r r .z (.t (.t .nil)) r r (.nilS [6] r r (.ret (pret results122 (.w ia78 sz78 r .z r .n) hl11 ⟨r90,r,hd⟩)))
 exact .sr (.build zv78 un78 BI78 .n (by exact trivial) r r (.storeA sz78 r r .z (.t (.t .nil)) r r (.nilS [6] r r (.ret (pret results122 (.w ia78 sz78 r .z r .n) hl11 ⟨({ Hi:=0,Lo:=0 }:Wide),r,hd⟩)))))
theorem W_ref13_Sums {I:IH} {a0:Int} {a1:Rows} {a2:Dense} {a3:List Int} {a4:Bool} {p1:Option Addr} {c2:Nat} {p4:Option Addr} {c5:Nat} {p7:Option Addr} {c8:Nat} {p10:Option Addr} {c11:Nat} {p13:Option Addr} {c14:Nat} {p16:Option Addr} {c17:Nat} {Q:((List Sum)×Int)→Prop} (R3:RepSl eI64 I p1 c2 a1.Start) (R6:RepSl eI64 I p4 c5 a1.Col) (R9:RepSl eI64 I p7 c8 a1.Val) (R12:RepSl eU64 I p10 c11 a2.Has) (R15:RepSl eI64 I p13 c14 a2.Vals) (R18:RepSl eU64 I p16 c17 a3) (hd:ref13_Sums a0 a1 a2 a3 a4 Q) :
  PFun prog 78 [.int .i64 a0,.agg #[.int .i64 a1.Rows,.int .i64 a1.Cols,.slice p1 a1.Start.length c2,.slice p4 a1.Col.length c5,.slice p7 a1.Val.length c8],.agg #[.int .i64 a2.N,.slice p10 a2.Has.length c11,.slice p13 a2.Vals.length c14],.slice p16 a3.length c17,.bool a4] I (fun I_ v=>∃ r p19 c20,v=.tuple #[.slice p19 r.1.length c20,.int .i64 r.2]∧RepSl eSum I_ p19 c20 r.1∧Q r):=by
 refine Fun.enter func78 r ntmps78 r (.c (.c (.c (.c (.c .n))))) fun w0 M=>?_
 refine .sr (.boxA r r r fun b26=>?_)
 refine .boxA r r r fun b28=>?_
 refine .ks 2 r (.nilS [7,6,4,3,0] r r (.sr (.loadW ia34 sz34 r (.s .z) r r r ?_)))
 have hw61:=W_ref07_Sure (I:=I) R3 R6 R9 hd
 refine .call call76 r hw61 r r fun v50 I47 hl48 hv49=>?_
 obtain ⟨r46,p52,c53,p55,c56,p58,c59,rfl,R54,R57,R60,hd⟩:=hv49
 replace R3:=R3.mono hl48
 replace R6:=R6.mono hl48
 replace R9:=R9.mono hl48
 replace R12:=R12.mono hl48
 replace R15:=R15.mono hl48
 replace R18:=R18.mono hl48
 refine .storeA sz34 r r (.s .z) (.t (.t (.t (.t (.t .nil))))) r r (.nilS [7,6,4,3,0] r r (.sr (.loadW isAgg111 sz111 r .z r r r ?_)))
 have hw84:=W_ref10_Back (I:=I47) R12 R15 hd
 refine .call call119 r hw84 r r fun v79 I76 hl77 hv78=>?_
 obtain ⟨r75,p81,c82,rfl,R83,hd⟩:=hv78
 have le85:=IH.le.trans hl48 hl77
 replace R12:=R12.mono hl77
 replace R15:=R15.mono hl77
 replace R18:=R18.mono hl77
 replace R54:=R54.mono hl77
 replace R57:=R57.mono hl77
 replace R60:=R60.mono hl77
 refine .allocA zv37 r r fun b86=>?_
 refine .storeA sz37 r r .z (.t (.t .nil)) r r (.nilS [12,6,4,3,0] r r (.drop (.s .z) (.seq (.sr (.ks 1 r ?_)))))
 have hw94:=W_ref02_Is (I:=I76) hd
 refine .callP call77 r hw94 r r fun v95 hv96=>?_
 obtain ⟨r93,rfl,hd⟩:=hv96
 refine .ks 1 r (.nilS [27,12,6,4,3,0] r r (.condP r hd (fun hb97 hd=>?_) fun hb97 hd=>?_))
 · exact .sr (.ks 2 r (.nilS [11,10] r r (.drop .z (.drop .z (.ret (pret results78 (.t r (.t r .n)) le85 ⟨(([]:List Sum),8),_,_,r,(.nil _ _ _),hd⟩))))))
 refine .skipS [12,6,4,3,0] r r (.seq (.sr (.fa un37 r sz3 r (o:=0) r r r (.load1 ia3 r .z r r r (.fa un34 r sz3 r (o:=1) r r r (.load1 ia3 r (.s .z) r r r (.ks 1 r (.nilS [32,12,6,4,3,0] r r (.condP r hd (fun hb99 hd=>?_) fun hb99 hd=>?_)))))))))
 · exact .sr (.ks 2 r (.nilS [11,10] r r (.drop .z (.drop .z (.ret (pret results78 (.t r (.t r .n)) le85 ⟨(([]:List Sum),4),_,_,r,(.nil _ _ _),hd⟩))))))
 refine .skipS [12,6,4,3,0] r r (.sr (.ks 1 r (.nilS [13,12,6,4,3,0] r r (.seq (.sr (.ks 1 r (.nilS [14,13,12,6,4,3,0] r r (.block (.own0 eSum 80 ?_)))))))))
 refine .loop hd (fun (s:(List Sum)×Int) c w=>match s with | (s1302,s1306)=>∃ I_ p1303 c1304,IH.le I76 I_∧Ok ⟨93,[],none⟩ [(0,.int .i64 a0),(3,.slice p16 a3.length c17),(4,.bool a4),(6,.pointer (some ⟨b26,0,none⟩)),(12,.pointer (some ⟨b86,0,none⟩)),(13,.slice p1303 s1302.length c1304),(14,.int .i64 s1306)] c∧Sym w0 M I I_ [pto b26 (.cells #[.int .i64 r46.Rows,.int .i64 r46.Cols,.slice p52 r46.Start.length c53,.slice p55 r46.Col.length c56,.slice p58 r46.Val.length c59] 34 (0,0)),pto b86 (.cells #[.int .i64 r75.N,.slice p81 r75.Items.length c82] 37 (0,0)),OwnSl eSum 80 p1303 c1304 s1302] w) (fun c w ho hs=>⟨I76,_,_,(.refl _),ho.sub ⟨r,r,r,r,r,r,r,trivial⟩,hs.pick (.c (.s (.s .z)) (.c (.s .z) (.c .z .n)))⟩) ?_
 rintro ⟨s1302,s1306⟩ next1308 hd c w hst
 obtain ⟨I1309,p1303,c1304,hl1310,hok,hsym⟩:=hst
 have le1311:=IH.le.trans le85 hl1310
 replace R18:=R18.mono hl1310
 replace R54:=R54.mono hl1310
 replace R57:=R57.mono hl1310
 replace R60:=R60.mono hl1310
 replace R83:=R83.mono hl1310
 refine Cod.at hok hsym (.seq (.sr (.ks 1 r (.fa un34 r sz3 r (o:=0) r r r (.load1 ia3 r .z r r r (.ks 1 r (.nilS [36,14,13,12,6,4,3,0] r r (.condP r hd (fun hb1313 hd=>?_) fun hb1313 hd=>?_))))))))
 · refine .skipS [14,13,12,6,4,3,0] r r (.seq (.block (.seq (.sr (.ks 2 r ?_)))))
   have hw1320:=W_ref03_Has (I:=I1309) R18 hd
   refine .callP call120 r hw1320 r r fun v1321 hv1322=>?_
   obtain ⟨r1319,rfl,hd⟩:=hv1322
   refine .ks 1 r (.eqB underlying4 r r r r (.nilS [43,14,13,12,6,4,3,0] r r (.condP r hd (fun hb1323 hd=>?_) fun hb1323 hd=>?_)))
   · exact .exitS [14,13,12,6,4,3,0] r r (.region (.ks 3 r (.nil' fun c w ho hs=>⟨(s1302,w64 (s1306+1)),hd,I1309,_,_,hl1310,ho.sub ⟨r,r,r,r,r,r,r,trivial⟩,hs.pick (.c .z (.c .z (.c .z .n)))⟩)))
   refine .skipS [14,13,12,6,4,3,0] r r (.sr (.allocA zv78 r r fun b1326=>?_))
   refine .nilS [15,14,13,12,6,4,3,0] r r (.sr (.ks 1 r (.nilS [16,15,14,13,12,6,4,3,0] r r (.seq (.sr (.fa un34 r sz31 r (o:=2) r r r (.load1 ia31 r (.s .z) r r r (.ks 1 r ?_))))))))
   obtain ⟨h1626,x1627,hx1628,hd⟩:=hd
   obtain ⟨b1629,o1630,cs1631,e1632,hC1633,hr1634⟩:=R54.2 _ _ hx1628
   cases hr1634
   refine .ixa un31 sz3 r e1632 r h1626 (idx_lt hx1628 h1626) r r (.ld1 (j:=0) ia3 hC1633 r r r r r (.ks 1 r (.nilS [17,16,15,14,13,12,6,4,3,0] r r (.block (.loop hd (fun (s:Int×Int×Bool×Int) c w=>match s with | (s1812,s1813,s1814,s1815)=>∃ I_,IH.le I1309 I_∧Ok ⟨93,[],none⟩ [(0,.int .i64 a0),(3,.slice p16 a3.length c17),(4,.bool a4),(6,.pointer (some ⟨b26,0,none⟩)),(12,.pointer (some ⟨b86,0,none⟩)),(13,.slice p1303 s1302.length c1304),(14,.int .i64 s1306),(15,.pointer (some ⟨b1326,0,none⟩)),(16,.bool s1814),(17,.int .i64 s1815)] c∧Sym w0 M I I_ [pto b26 (.cells #[.int .i64 r46.Rows,.int .i64 r46.Cols,.slice p52 r46.Start.length c53,.slice p55 r46.Col.length c56,.slice p58 r46.Val.length c59] 34 (0,0)),pto b86 (.cells #[.int .i64 r75.N,.slice p81 r75.Items.length c82] 37 (0,0)),OwnSl eSum 80 p1303 c1304 s1302,pto b1326 (.cells #[.int .i64 s1812,.int .u64 s1813] 78 (0,0))] w) (fun c w ho hs=>⟨I1309,(.refl _),ho.sub ⟨r,r,r,r,r,r,r,r,r,r,trivial⟩,hs.pick (.c (.s .z) (.c (.s .z) (.c (.s .z) (.c .z .n))))⟩) ?_)))))
   rintro ⟨s1812,s1813,s1814,s1815⟩ next1816 hd c w hst
   obtain ⟨I1817,hl1818,hok,hsym⟩:=hst
   have le1819:=IH.le.trans le1311 hl1818
   have le1820:=IH.le.trans hl1310 hl1818
   replace R18:=R18.mono hl1818
   replace R54:=R54.mono hl1818
   replace R57:=R57.mono hl1818
   replace R60:=R60.mono hl1818
   replace R83:=R83.mono hl1818
   refine Cod.at hok hsym (.seq (.sr (.ks 1 r (.fa un34 r sz31 r (o:=2) r r r (.load1 ia31 r .z r r r (.ks 2 r ?_))))))
   obtain ⟨h1831,x1832,hx1833,hd⟩:=hd
   obtain ⟨b1834,o1835,cs1836,e1837,hC1838,hr1839⟩:=R54.2 _ _ hx1833
   cases hr1839
   refine .ixa un31 sz3 r e1837 r h1831 (idx_lt hx1833 h1831) r r (.ld1 (j:=0) ia3 hC1838 r r r r r (.ks 1 r (.nilS [56,17,16,15,14,13,12,6,4,3,0] r r (.condP r hd (fun hb1840 hd=>?_) fun hb1840 hd=>?_))))
   · refine .skipS [17,16,15,14,13,12,6,4,3,0] r r (.seq (.block (.seq (.ownF (.s (.s .z)) fun hne1855=>?_))))
     refine .dr [0,1,2,3,4,5,6,7,8,9,10] 11 (.g r r r (fun _=>.loadW ia37 sz37 r (.s .z) r r r .mk) (.g r r r (fun _=>.fa un34 r sz31 r (o:=3) r r r .mk) (.g r r r (fun _=>.load1 ia31 r .z r r r .mk) (.fk 1 r ?_))))
     obtain ⟨h1856,x1857,hx1858,hd⟩:=hd
     obtain ⟨b1859,o1860,cs1861,e1862,hC1863,hr1864⟩:=R57.2 _ _ hx1858
     cases hr1864
     refine .g r r r (fun _=>.ixa un31 sz3 r e1862 r h1856 (idx_lt hx1858 h1856) r r .mk) (.g r r r (fun _=>.ld1 (j:=0) ia3 hC1863 r r r r r .mk) (.ww r fun ex=>?_))
     have hw1866:=W_ref09_Get (I:=I1817) R83 hd
     refine .callP call121 r hw1866 r r fun v1867 hv1868=>?_
     obtain ⟨r1865,rfl,hd⟩:=hv1868
     refine .so 4 r r r trivial (.fk 4 r (.e2 11 (.ks 1 r (.nilS [19,18,17,16,15,14,13,12,6,4,3,0] r r (.seq (.sr (.ks 2 r (.nilS [70,18,17,16,15,14,13,12,6,4,3,0] r r (.condP r hd (fun hb1870 hd=>?_) fun hb1870 hd=>?_)))))))))
     · exact .exitS [17,16,15,14,13,12,6,4,3,0] r r (.region (.ks 3 r (.nil' fun c w ho hs=>⟨(s1812,s1813,s1814,w64 (s1815+1)),hd,I1817,hl1818,ho.sub ⟨r,r,r,r,r,r,r,r,r,r,trivial⟩,hs.pick (.c .z (.c .z (.c .z (.c .z .n))))⟩)))
     refine .skipS [18,17,16,15,14,13,12,6,4,3,0] r r (.sr (.ks 1 r (.fa un34 r sz32 r (o:=4) r r r (.load1 ia32 r .z r r r (.ks 1 r ?_)))))
     obtain ⟨h1886,x1887,hx1888,hd⟩:=hd
     obtain ⟨b1889,o1890,cs1891,e1892,hC1893,hr1894⟩:=R60.2 _ _ hx1888
     cases hr1894
     refine .ixa un32 sz2 r e1892 r h1886 (idx_lt hx1888 h1886) r r (.ld1 (j:=0) ia2 hC1893 r r r r r (.ks 1 r ?_))
     have hw1896:=W_ref02_Mul (I:=I1817) hd
     refine .callP call122 r hw1896 r r fun v1897 hv1898=>?_
     obtain ⟨r1895,rfl,hd⟩:=hv1898
     refine .allocA zv78 r r fun b1899=>?_
     refine .storeA sz78 r r .z (.t (.t .nil)) r r (.nilS [20,17,16,15,14,13,12,6,4,3,0] r r (.seq (.sr (.ks 1 r (.nilS [79,20,17,15,14,13,12,6,4,3,0] r r (.condP r hd (fun hb1901 hd=>?_) fun hb1901 hd=>?_))))))
     · refine .region (.ks 1 r (.loadW ia78 sz78 r (.s (.s (.s (.s .z)))) r r r (.loadW ia78 sz78 r .z r r r ?_)))
       have hw1903:=W_ref02_Add (I:=I1817) hd
       refine .callP call123 r hw1903 r r fun v1904 hv1905=>?_
       obtain ⟨r1902,rfl,hd⟩:=hv1905
       exact .storeA sz78 r r (.s (.s (.s (.s .z)))) (.t (.t .nil)) r r (.nilS [17,15,14,13,12,6,4,3,0] r r (.drop .z (.region (.ks 1 r (.nilS [16,17,15,14,13,12,6,4,3,0] r r (.region (.ks 3 r (.nil' fun c w ho hs=>⟨(r1902.Hi,r1902.Lo,true,w64 (s1815+1)),hd,I1817,hl1818,ho.sub ⟨r,r,r,r,r,r,r,r,r,r,trivial⟩,hs.pick (.c .z (.c .z (.c .z (.c .z .n))))⟩))))))))
     refine .region (.loadW ia78 sz78 r .z r r r (.storeA sz78 r r (.s (.s (.s (.s .z)))) (.t (.t .nil)) r r (.nilS [17,15,14,13,12,6,4,3,0] r r (.drop .z (.region (.ks 1 r (.nilS [16,17,15,14,13,12,6,4,3,0] r r (.region (.ks 3 r ?_)))))))))
     exact .nil' fun c w ho hs=>⟨(r1895.Hi,r1895.Lo,true,w64 (s1815+1)),hd,I1817,hl1818,ho.sub ⟨r,r,r,r,r,r,r,r,r,r,trivial⟩,hs.pick (.c .z (.c .z (.c .z (.c .z .n))))⟩
   refine .exitS [16,15,14,13,12,6,4,3,0] r r (.sr (.ks 1 r (.nilS [85,15,14,13,12,6,4,3,0] r r (.condP r hd (fun hb1906 hd=>?_) fun hb1906 hd=>?_))))
   · refine .region (.ks 2 r (.loadW ia78 sz78 r (.s (.s (.s .z))) r r r (.build zv80 un80 BI80 (.c r r r (.t .nil) (.c r r r (.s (.t (.t .nil))) .n)) (by exact ⟨⟨_,_,r,r,r⟩,⟨⟨_,_,r,r,r⟩,trivial⟩⟩) r r (.buildSlice 1 un58 sz80 zv80 r r (.c r r r .n) r r fun b1907=>?_))))
     obtain ⟨hl1909,hd⟩:=hd
     refine .append (ys:=[({ At:=s1306,Val:=({ Hi:=s1812,Lo:=s1813 }:Wide) }:Sum)]) 24 (.s (.s (.s .z))) un58 un58 IN80 r r r r r r r r r (.box .z (.one r) r) hl1909 r r fun p1910 c1911=>?_
     exact .ks 1 r (.nilS [13,14,12,6,4,3,0] r r (.drop (.s .z) (.drop (.s (.s (.s .z))) (.region (.ks 3 r (.nil' fun c w ho hs=>⟨((s1302++([({ At:=s1306,Val:=({ Hi:=s1812,Lo:=s1813 }:Wide) }:Sum)])),w64 (s1306+1)),hd,I1817,_,_,le1820,ho.sub ⟨r,r,r,r,r,r,r,trivial⟩,hs.pick (.c (.s .z) (.c (.s .z) (.c .z .n)))⟩))))))
   exact .skipS [14,13,12,6,4,3,0] r r (.drop (.s (.s (.s .z))) (.region (.ks 3 r (.nil' fun c w ho hs=>⟨(s1302,w64 (s1306+1)),hd,I1817,_,_,le1820,ho.sub ⟨r,r,r,r,r,r,r,trivial⟩,hs.pick (.c .z (.c .z (.c .z .n)))⟩))))
 refine .exitS [13] r r (.drop .z (.drop .z (.sr (.ks 3 r (.nilS [11,10] r r (.pub .z fun I1913 hl1914 R1915=>?_))))))
 have le1916:=IH.le.trans le1311 hl1914
 have le1917:=IH.le.trans hl1310 hl1914
 exact .ret (pret results78 (.t r (.t r .n)) le1916 ⟨(s1302,0),_,_,r,R1915,hd⟩)
theorem W_ref03_New {I:IH} {a0:Int} {Q:(List Int)→Prop}  (hd:ref03_New a0 Q) :
  PFun prog 161 [.int .i64 a0] I (fun I_ v=>∃ r p1 c2,v=.slice p1 r.length c2∧RepSl eU64 I_ p1 c2 r∧Q r):=by
 refine Fun.enter func161 r ntmps161 r (.c .n) fun w0 M=>?_
 refine .sr (.ks 1 r (.nilS [0] r r (.sr (.ks 1 r ?_))))
 have hw5:=W_ref03_words (I:=I) hd
 refine .callP call183 r hw5 r r fun v6 hv7=>?_
 obtain ⟨r4,rfl,hd⟩:=hv7
 obtain ⟨h8,h9,hd⟩:=hd
 refine .make (El:=eU64) (zv:=0) 8 un26 IN76 r r r r r r h8 h9 r r r fun b10=>?_
 refine .ks 1 r (.nilS [2] r r (.pub .z fun I13 hl14 R15=>?_))
 exact .ret (pret results161 (.t r .n) hl14 ⟨(List.replicate r4.toNat 0),_,_,r,R15,hd⟩)
theorem W_ref10_New {I:IH} {a0:Int} {Q:Dense→Prop}  (hd:ref10_New a0 Q) :
  OFun prog 124 [.int .i64 a0] I (fun I_ v l=>∃ r p1 c2 p4 c5,v=.agg #[.int .i64 r.N,.slice p1 r.Has.length c2,.slice p4 r.Vals.length c5]∧RepSl eU64 I_ p1 c2 r.Has∧l=[OwnSl eI64 2 p4 c5 r.Vals]∧Q r):=by
 refine Fun.enter func124 r ntmps124 r (.c .n) fun w0 M=>?_
 refine .sr (.allocA zv111 r r fun b9=>?_)
 refine .nilS [2,0] r r (.seq (.sr (.ks 3 r ?_)))
 refine splitP hd (fun hb11 hd=>?_) fun hb11 hd=>?_
 · rw [hb11]
   refine .ks 3 r (.nilS [8,2,0] r r (.condKT r r (.region (.ks 1 r (.nilS [0,2] r r (.seq (.dr [0,1,3,4,2,999,5] 6 (.fk 3 r ?_))))))))
   obtain ⟨h13,h14,hd⟩:=hd
   refine .a (fun b=>.slice (some ⟨b,0,none⟩) (List.replicate (Int.toNat 0) (0:Int)).length (Int.toNat 0)) (fun b=>OwnSl eI64 2 (some ⟨b,0,none⟩) (Int.toNat 0) (List.replicate (Int.toNat 0) (0:Int))) r r r r (fun _ L hL ex=>.make (El:=eI64) (zv:=0) 8 un32 IN2 r r r r r r h13 h14 r r r fun b=>.mk (val:=fun b=>.slice (some ⟨b,0,none⟩) (List.replicate (Int.toNat 0) (0:Int)).length (Int.toNat 0)) (atom:=fun b=>OwnSl eI64 2 (some ⟨b,0,none⟩) (Int.toNat 0) (List.replicate (Int.toNat 0) (0:Int))) hL b) (.ww r fun ex=>?_)
   have hw24:=W_ref03_New (I:=I) hd
   refine .call call161 r hw24 r r fun v19 I16 hl17 hv18=>?_
   obtain ⟨r15,p21,c22,rfl,R23,hd⟩:=hv18
   exact .so 1 r r r (.ck 2 r r trivial) (.b r fun b25=>DrawD.nop (.g r r r (fun _=>.build zv111 un111 BI111 (.c r r r (.t .nil) (.c r r r (.s (.t .nil)) (.c r r r (.s (.s (.t .nil))) .n))) (by exact ⟨⟨_,_,r,r,r⟩,⟨⟨_,_,r,r,r⟩,⟨⟨_,_,r,r,r⟩,trivial⟩⟩⟩) r r .mk) (.e2 6 (.storeA sz111 r r .z (.t (.t (.t .nil))) r r (.nilS [2] r r (.ret (oret results124 (.w isAgg111 sz111 r .z r .n) hl17 (.c (.s .z) .n) ⟨({ N:=0,Has:=r15,Vals:=(List.replicate (Int.toNat 0) (0:Int)) }:Dense),_,_,_,_,r,R23,r,hd⟩)))))))
 rw [hb11]
 refine .ks 3 r (.nilS [8,2,0] r r (.condP r hd (fun hb26 hd=>?_) fun hb26 hd=>?_))
 · refine .region (.ks 1 r (.nilS [0,2] r r (.seq (.dr [0,1,3,4,2,999,5] 6 (.fk 3 r ?_)))))
   obtain ⟨h28,h29,hd⟩:=hd
   refine .a (fun b=>.slice (some ⟨b,0,none⟩) (List.replicate (Int.toNat 0) (0:Int)).length (Int.toNat 0)) (fun b=>OwnSl eI64 2 (some ⟨b,0,none⟩) (Int.toNat 0) (List.replicate (Int.toNat 0) (0:Int))) r r r r (fun _ L hL ex=>.make (El:=eI64) (zv:=0) 8 un32 IN2 r r r r r r h28 h29 r r r fun b=>.mk (val:=fun b=>.slice (some ⟨b,0,none⟩) (List.replicate (Int.toNat 0) (0:Int)).length (Int.toNat 0)) (atom:=fun b=>OwnSl eI64 2 (some ⟨b,0,none⟩) (Int.toNat 0) (List.replicate (Int.toNat 0) (0:Int))) hL b) (.ww r fun ex=>?_)
   have hw39:=W_ref03_New (I:=I) hd
   refine .call call161 r hw39 r r fun v34 I31 hl32 hv33=>?_
   obtain ⟨r30,p36,c37,rfl,R38,hd⟩:=hv33
   exact .so 1 r r r (.ck 2 r r trivial) (.b r fun b40=>DrawD.nop (.g r r r (fun _=>.build zv111 un111 BI111 (.c r r r (.t .nil) (.c r r r (.s (.t .nil)) (.c r r r (.s (.s (.t .nil))) .n))) (by exact ⟨⟨_,_,r,r,r⟩,⟨⟨_,_,r,r,r⟩,⟨⟨_,_,r,r,r⟩,trivial⟩⟩⟩) r r .mk) (.e2 6 (.storeA sz111 r r .z (.t (.t (.t .nil))) r r (.nilS [2] r r (.ret (oret results124 (.w isAgg111 sz111 r .z r .n) hl32 (.c (.s .z) .n) ⟨({ N:=0,Has:=r30,Vals:=(List.replicate (Int.toNat 0) (0:Int)) }:Dense),_,_,_,_,r,R38,r,hd⟩)))))))
 refine .skipS [2,0] r r (.seq (.dr [0,1,3,4,2,999,5] 6 (.fk 3 r ?_)))
 obtain ⟨h42,h43,hd⟩:=hd
 refine .a (fun b=>.slice (some ⟨b,0,none⟩) (List.replicate a0.toNat (0:Int)).length a0.toNat) (fun b=>OwnSl eI64 2 (some ⟨b,0,none⟩) a0.toNat (List.replicate a0.toNat (0:Int))) r r r r (fun _ L hL ex=>.make (El:=eI64) (zv:=0) 8 un32 IN2 r r r r r r h42 h43 r r r fun b=>.mk (val:=fun b=>.slice (some ⟨b,0,none⟩) (List.replicate a0.toNat (0:Int)).length a0.toNat) (atom:=fun b=>OwnSl eI64 2 (some ⟨b,0,none⟩) a0.toNat (List.replicate a0.toNat (0:Int))) hL b) (.ww r fun ex=>?_)
 have hw53:=W_ref03_New (I:=I) hd
 refine .call call161 r hw53 r r fun v48 I45 hl46 hv47=>?_
 obtain ⟨r44,p50,c51,rfl,R52,hd⟩:=hv47
 exact .so 1 r r r (.ck 2 r r trivial) (.b r fun b54=>DrawD.nop (.g r r r (fun _=>.build zv111 un111 BI111 (.c r r r (.t .nil) (.c r r r (.s (.t .nil)) (.c r r r (.s (.s (.t .nil))) .n))) (by exact ⟨⟨_,_,r,r,r⟩,⟨⟨_,_,r,r,r⟩,⟨⟨_,_,r,r,r⟩,trivial⟩⟩⟩) r r .mk) (.e2 6 (.storeA sz111 r r .z (.t (.t (.t .nil))) r r (.nilS [2] r r (.ret (oret results124 (.w isAgg111 sz111 r .z r .n) hl46 (.c (.s .z) .n) ⟨({ N:=a0,Has:=r44,Vals:=(List.replicate a0.toNat (0:Int)) }:Dense),_,_,_,_,r,R52,r,hd⟩)))))))
theorem W_ref03_set {I:IH} {a0:List Int} {a1:Int} {a2:Bool} {p1:Option Addr} {c2:Nat} {Q:(List Int)→Prop} (R3:RepSl eU64 I p1 c2 a0) (hd:ref03_set a0 a1 a2 Q) :
  PFun prog 184 [.slice p1 a0.length c2,.int .i64 a1,.bool a2] I (o17_ Q):=by
 refine Fun.enter func184 r ntmps184 r (.c (.c (.c .n))) fun w0 M=>?_
 refine .sr (.ks 1 r (.nilS [2,1,0] r r (.sr (.ks 1 r (.nilS [7,2,1,0] r r (.sr (.ks 2 r (.own0 eU64 76 ?_))))))))
 obtain ⟨hl13,hd⟩:=hd
 refine .append (ys:=a0) 8 .z un26 un26 IN76 r r r r r r r r r (.imm R3 r) hl13 r r fun p14 c15=>?_
 refine .ks 1 r (.nilS [7,2,1,0] r r (.seq (.sr (.ks 3 r ?_))))
 refine splitP hd (fun hb19 hd=>?_) fun hb19 hd=>?_
 · rw [hb19]
   refine .ks 6 r (.nilS [20,7,2,1] r r (.condKT r r (.sr (.ks 2 r (.nilS [6] r r (.pub .z fun I20 hl21 R22=>?_))))))
   exact .ret (pret results184 (.t r .n) hl21 ⟨(([]:List Int)++a0),_,_,r,R22,hd⟩)
 rw [hb19]
 refine .ks 1 r (.gyes r r r (.quo r r (by decide) r r (.ks 1 r (.gyes r r r (.len un26 r r r r (.ks 2 r (.nilS [20,7,2,1] r r (.condP r hd (fun hb23 hd=>?_) fun hb23 hd=>?_))))))))
 · refine .sr (.ks 2 r (.nilS [6] r r (.pub .z fun I24 hl25 R26=>?_)))
   exact .ret (pret results184 (.t r .n) hl25 ⟨(([]:List Int)++a0),_,_,r,R26,hd⟩)
 refine .skipS [7,2,1] r r (.sr (.ks 1 r (.rem r r (by decide) r r (.conv un3 underlying191 r r r ?_))))
 obtain ⟨hz28,hd⟩:=hd
 refine .shl' r r hz28 r r (.ks 1 r (.nilS [8,7,2,1] r r (.seq (.sr (.ks 1 r (.nilS [26,8,7,1] r r (.condP r hd (fun hb29 hd=>?_) fun hb29 hd=>?_)))))))
 · refine .region (.ks 2 r (.quo r r (by decide) r r (.ks 2 r (.quo r r (by decide) r r ?_))))
   obtain ⟨h30,x31,hx32,hd⟩:=hd
   refine .ownNe .z (idx_ne hx32) fun b33 e34=>?_
   cases e34
   refine .ixa0 un26 sz76 r r h30 (idx_lt hx32 h30) r r (.lo1 (j:=0) ia76 .z hx32 r r r r r (.ks 2 r ?_))
   obtain ⟨h35,x36,hx37,hd⟩:=hd
   refine .ixa0 un26 sz76 r r h35 (idx_lt hx37 h35) r r (.stO1 (j:=0) (v':=(bor .u64 x31 (shl .u64 1 (IntKind.wrap .u64 (a1.tmod 64))))) sz76 .z hx37 r r r (.t .nil) r (.sub (E':=[(1,_),(7,.slice (some ⟨b33,0,none⟩) ((([]:List Int)++a0).set ((w64 (a1.tdiv 64)).toNat) (bor .u64 x31 (shl .u64 1 (IntKind.wrap .u64 (a1.tmod 64))))).length c15),(8,_),(26,_),(27,.slice (some ⟨b33,0,none⟩) ((([]:List Int)++a0).set ((w64 (a1.tdiv 64)).toNat) (bor .u64 x31 (shl .u64 1 (IntKind.wrap .u64 (a1.tmod 64))))).length c15),(28,_),(29,_),(30,.slice (some ⟨b33,0,none⟩) ((([]:List Int)++a0).set ((w64 (a1.tdiv 64)).toNat) (bor .u64 x31 (shl .u64 1 (IntKind.wrap .u64 (a1.tmod 64))))).length c15),(31,_),(32,_),(33,_),(34,_),(35,_),(36,_),(37,_)]) ⟨r,(by simp only [List.length_set]; rfl),r,r,(by simp only [List.length_set]; rfl),r,r,(by simp only [List.length_set]; rfl),r,r,r,r,r,r,r,trivial⟩ (.nilS [7] r r (.sr (.ks 2 r (.nilS [6] r r (.pub .z fun I38 hl39 R40=>?_)))))))
   exact .ret (pret results184 (.t r .n) hl39 ⟨((([]:List Int)++a0).set ((w64 (a1.tdiv 64)).toNat) (bor .u64 x31 (shl .u64 1 (IntKind.wrap .u64 (a1.tmod 64))))),_,_,r,R40,hd⟩)
 refine .region (.ks 2 r (.quo r r (by decide) r r (.ks 2 r (.quo r r (by decide) r r ?_))))
 obtain ⟨h41,x42,hx43,hd⟩:=hd
 refine .ownNe .z (idx_ne hx43) fun b44 e45=>?_
 cases e45
 refine .ixa0 un26 sz76 r r h41 (idx_lt hx43 h41) r r (.lo1 (j:=0) ia76 .z hx43 r r r r r (.ks 2 r ?_))
 obtain ⟨h46,x47,hx48,hd⟩:=hd
 refine .ixa0 un26 sz76 r r h46 (idx_lt hx48 h46) r r (.stO1 (j:=0) (v':=(bandn .u64 x42 (shl .u64 1 (IntKind.wrap .u64 (a1.tmod 64))))) sz76 .z hx48 r r r (.t .nil) r (.sub (E':=[(1,_),(7,.slice (some ⟨b44,0,none⟩) ((([]:List Int)++a0).set ((w64 (a1.tdiv 64)).toNat) (bandn .u64 x42 (shl .u64 1 (IntKind.wrap .u64 (a1.tmod 64))))).length c15),(8,_),(26,_),(38,.slice (some ⟨b44,0,none⟩) ((([]:List Int)++a0).set ((w64 (a1.tdiv 64)).toNat) (bandn .u64 x42 (shl .u64 1 (IntKind.wrap .u64 (a1.tmod 64))))).length c15),(39,_),(40,_),(41,.slice (some ⟨b44,0,none⟩) ((([]:List Int)++a0).set ((w64 (a1.tdiv 64)).toNat) (bandn .u64 x42 (shl .u64 1 (IntKind.wrap .u64 (a1.tmod 64))))).length c15),(42,_),(43,_),(44,_),(45,_),(46,_),(47,_),(48,_)]) ⟨r,(by simp only [List.length_set]; rfl),r,r,(by simp only [List.length_set]; rfl),r,r,(by simp only [List.length_set]; rfl),r,r,r,r,r,r,r,trivial⟩ (.nilS [7] r r (.sr (.ks 2 r (.nilS [6] r r (.pub .z fun I49 hl50 R51=>?_)))))))
 exact .ret (pret results184 (.t r .n) hl50 ⟨((([]:List Int)++a0).set ((w64 (a1.tdiv 64)).toNat) (bandn .u64 x42 (shl .u64 1 (IntKind.wrap .u64 (a1.tmod 64))))),_,_,r,R51,hd⟩)
theorem W_ref03_Put {I:IH} {a0:List Int} {a1:Int} {p1:Option Addr} {c2:Nat} {Q:(List Int)→Prop} (R3:RepSl eU64 I p1 c2 a0) (hd:ref03_Put a0 a1 Q) :
  PFun prog 162 [.slice p1 a0.length c2,.int .i64 a1] I (o17_ Q):=by
 refine Fun.enter func162 r ntmps162 r (.c (.c .n)) fun w0 M=>?_
 refine .sr (.ks 1 r (.nilS [1,0] r r (.sr (.ks 2 r ?_))))
 have hw16:=W_ref03_set (I:=I) R3 hd
 refine .call call184 r hw16 r r fun v11 I8 hl9 hv10=>?_
 obtain ⟨r7,p13,c14,rfl,R15,hd⟩:=hv10
 replace R3:=R3.mono hl9
 exact .ks 1 r (.nilS [4] r r (.ret (pret results162 (.t r .n) hl9 ⟨r7,_,_,r,R15,hd⟩)))
theorem W_ref03_Of {I:IH} {a0:Int} {a1:List Int} {p1:Option Addr} {c2:Nat} {Q:(List Int)→Prop} (R3:RepSl eI64 I p1 c2 a1) (hd:ref03_Of a0 a1 Q) :
  PFun prog 125 [.int .i64 a0,.slice p1 a1.length c2] I (o17_ Q):=by
 refine Fun.enter func125 r ntmps125 r (.c (.c .n)) fun w0 M=>?_
 refine .sr (.ks 1 r (.nilS [1,0] r r (.sr (.ks 1 r ?_))))
 have hw26:=W_ref03_New (I:=I) hd
 refine .call call161 r hw26 r r fun v21 I18 hl19 hv20=>?_
 obtain ⟨r17,p23,c24,rfl,R25,hd⟩:=hv20
 replace R3:=R3.mono hl19
 refine .ks 1 r (.nilS [5,1,0] r r (.seq (.sr (.ks 1 r (.nilS [6,5,1,0] r r (.block (.loop hd (fun (s:(List Int)×Int) c w=>match s with | (s146,s150)=>∃ I_ p147 c148,IH.le I18 I_∧RepSl eU64 I_ p147 c148 s146∧Ok ⟨42,[],none⟩ [(0,.int .i64 a0),(1,.slice p1 a1.length c2),(5,.slice p147 s146.length c148),(6,.int .i64 s150)] c∧Sym w0 M I I_ [] w) (fun c w ho hs=>⟨I18,_,_,(.refl _),R25,ho.sub ⟨r,r,r,r,trivial⟩,hs.pick .n⟩) ?_)))))))
 rintro ⟨s146,s150⟩ next151 hd c w hst
 obtain ⟨I152,p147,c148,hl153,R149,hok,hsym⟩:=hst
 have le154:=IH.le.trans hl19 hl153
 replace R3:=R3.mono hl153
 refine Cod.at hok hsym (.seq (.sr (.ks 2 r (.len un31 r r r r (.ks 1 r (.nilS [12,6,5,1,0] r r (.condP r hd (fun hb156 hd=>?_) fun hb156 hd=>?_)))))))
 · refine .skipS [6,5,1,0] r r (.seq (.block (.sr (.ks 2 r ?_))))
   obtain ⟨h157,x158,hx159,hd⟩:=hd
   obtain ⟨b160,o161,cs162,e163,hC164,hr165⟩:=R3.2 _ _ hx159
   cases hr165
   refine .ixa un31 sz3 r e163 r h157 (idx_lt hx159 h157) r r (.ld1 (j:=0) ia3 hC164 r r r r r (.ks 2 r ?_))
   refine splitP hd (fun hb166 hd=>?_) fun hb166 hd=>?_
   · rw [hb166]
     refine .ks 2 r ?_
     obtain ⟨h167,x168,hx169,hd⟩:=hd
     obtain ⟨b170,o171,cs172,e173,hC174,hr175⟩:=R3.2 _ _ hx169
     cases hr175
     refine .gyes r r r (.ixa un31 sz3 r e173 r h167 (idx_lt hx169 h167) r r (.gyes r r r (.ld1 (j:=0) ia3 hC174 r r r r r (.ks 4 r ?_))))
     refine splitP hd (fun hb176 hd=>?_) fun hb176 hd=>?_
     · rw [hb176]
       refine .ks 2 r ?_
       obtain ⟨h177,x178,hx179,hd⟩:=hd
       obtain ⟨b180,o181,cs182,e183,hC184,hr185⟩:=R3.2 _ _ hx179
       cases hr185
       refine .gyes r r r (.ixa un31 sz3 r e183 r h177 (idx_lt hx179 h177) r r (.gyes r r r (.ld1 (j:=0) ia3 hC184 r r r r r (.ks 2 r (.nilS [34,6,5,1,0] r r (.condP r hd (fun hb186 hd=>?_) fun hb186 hd=>?_))))))
       · refine .region (.ks 3 r ?_)
         obtain ⟨h187,x188,hx189,hd⟩:=hd
         obtain ⟨b190,o191,cs192,e193,hC194,hr195⟩:=R3.2 _ _ hx189
         cases hr195
         refine .ixa un31 sz3 r e193 r h187 (idx_lt hx189 h187) r r (.ld1 (j:=0) ia3 hC194 r r r r r ?_)
         have hw205:=W_ref03_Put (I:=I152) R149 hd
         refine .call call162 r hw205 r r fun v200 I197 hl198 hv199=>?_
         obtain ⟨r196,p202,c203,rfl,R204,hd⟩:=hv199
         have le206:=IH.le.trans le154 hl198
         have le207:=IH.le.trans hl153 hl198
         replace R3:=R3.mono hl198
         replace R149:=R149.mono hl198
         replace hC194:=hC194.mono hl198
         exact .ks 1 r (.nilS [5,6,1,0] r r (.region (.ks 3 r (.nil' fun c w ho hs=>⟨(r196,w64 (s150+1)),hd,I197,_,_,le207,R204,ho.sub ⟨r,r,r,r,trivial⟩,hs.pick .n⟩))))
       exact .skipS [6,5,1,0] r r (.region (.ks 3 r (.nil' fun c w ho hs=>⟨(s146,w64 (s150+1)),hd,I152,_,_,hl153,R149,ho.sub ⟨r,r,r,r,trivial⟩,hs.pick .n⟩)))
     rw [hb176]
     exact .ks 6 r (.nilS [34,6,5,1,0] r r (.condKF r r (.skipS [6,5,1,0] r r (.region (.ks 3 r (.nil' fun c w ho hs=>⟨(s146,w64 (s150+1)),hd,I152,_,_,hl153,R149,ho.sub ⟨r,r,r,r,trivial⟩,hs.pick .n⟩))))))
   rw [hb166]
   exact .ks 14 r (.nilS [34,6,5,1,0] r r (.condKF r r (.skipS [6,5,1,0] r r (.region (.ks 3 r (.nil' fun c w ho hs=>⟨(s146,w64 (s150+1)),hd,I152,_,_,hl153,R149,ho.sub ⟨r,r,r,r,trivial⟩,hs.pick .n⟩))))))
 exact .exitS [5] r r (.sr (.ks 2 r (.nilS [4] r r (.ret (pret results125 (.t r .n) le154 ⟨s146,_,_,r,R149,hd⟩)))))
theorem W_ref10_Of {I:IH} {a0:Vec} {p1:Option Addr} {c2:Nat} {Q:Dense→Prop} (R3:RepSl eItem I p1 c2 a0.Items) (hd:ref10_Of a0 Q) :
  PFun prog 79 [.agg #[.int .i64 a0.N,.slice p1 a0.Items.length c2]] I (fun I_ v=>∃ r p4 c5 p7 c8,v=.agg #[.int .i64 r.N,.slice p4 r.Has.length c5,.slice p7 r.Vals.length c8]∧RepSl eU64 I_ p4 c5 r.Has∧RepSl eI64 I_ p7 c8 r.Vals∧Q r):=by
 refine Fun.enter func79 r ntmps79 r (.c .n) fun w0 M=>?_
 refine .sr (.boxA r r r fun b14=>?_)
 refine .allocA zv111 r r fun b16=>?_
 refine .nilS [2,1] r r (.sr (.loadW ia37 sz37 r (.s .z) r r r ?_))
 have hw37:=W_ref09_Sure (I:=I) R3 hd
 refine .call call53 r hw37 r r fun v32 I29 hl30 hv31=>?_
 obtain ⟨r28,p34,c35,rfl,R36,hd⟩:=hv31
 replace R3:=R3.mono hl30
 refine .storeA sz37 r r (.s .z) (.t (.t .nil)) r r (.nilS [2,1] r r (.sr (.fa un37 r sz3 r (o:=0) r r r (.load1 ia3 r (.s .z) r r r ?_))))
 have hw68:=W_ref10_New (I:=I29) hd
 refine .callO call124 r hw68 r r fun v59 I56 l60 hl57 hv58=>?_
 obtain ⟨r55,p61,c62,p64,c65,rfl,R63,rfl,hd⟩:=hv58
 have le69:=IH.le.trans hl30 hl57
 replace R36:=R36.mono hl57
 refine .allocA zv111 r r fun b70=>?_
 refine .storeA sz111 r r .z (.t (.t (.t .nil))) r r (.nilS [3,2,1] r r (.sr (.ks 1 r (.nilS [4,3,2,1] r r (.seq (.sr (.ks 1 r (.nilS [5,4,3,2,1] r r (.block ?_)))))))))
 refine .own0 eI64 3 (.loop hd (fun (s:(List Int)×(List Int)×Int) c w=>match s with | (s429,s433,s437)=>∃ I_ p430 c431 p434 c435,IH.le I56 I_∧Ok ⟨48,[],none⟩ [(1,.pointer (some ⟨b14,0,none⟩)),(2,.pointer (some ⟨b16,0,none⟩)),(3,.pointer (some ⟨b70,0,none⟩)),(4,.slice p434 s433.length c435),(5,.int .i64 s437)] c∧Sym w0 M I I_ [pto b14 (.cells #[.int .i64 r28.N,.slice p34 r28.Items.length c35] 37 (0,0)),pto b16 (.cells #[.int .i64 0,.slice none 0 0,.slice none 0 0] 111 (0,0)),pto b70 (.cells #[.int .i64 r55.N,.slice p61 r55.Has.length c62,.slice p430 s429.length c431] 111 (0,0)),OwnSl eI64 2 p430 c431 s429,OwnSl eI64 3 p434 c435 s433] w) (fun c w ho hs=>⟨I56,_,_,_,_,(.refl _),ho.sub ⟨r,r,r,r,r,trivial⟩,hs.pick (.c (.s (.s (.s (.s .z)))) (.c (.s (.s (.s .z))) (.c (.s .z) (.c (.s .z) (.c .z .n)))))⟩) ?_)
 rintro ⟨s429,s433,s437⟩ next439 hd c w hst
 obtain ⟨I440,p430,c431,p434,c435,hl441,hok,hsym⟩:=hst
 have le442:=IH.le.trans le69 hl441
 replace R36:=R36.mono hl441
 replace R63:=R63.mono hl441
 refine Cod.at hok hsym (.seq (.sr (.ks 1 r (.fa un37 r sz25 r (o:=1) r r r (.load1 ia25 r .z r r r (.len un25 r r r r (.ks 1 r (.nilS [15,5,4,3,2,1] r r (.condP r hd (fun hb444 hd=>?_) fun hb444 hd=>?_)))))))))
 · refine .skipS [5,4,3,2,1] r r (.seq (.block (.sr (.ks 1 r (.fa un37 r sz25 r (o:=1) r r r (.load1 ia25 r .z r r r (.ks 1 r ?_)))))))
   obtain ⟨h460,x461,hx462,hd⟩:=hd
   obtain ⟨b463,o464,cs465,e466,hC467,hr468⟩:=R36.2 _ _ hx462
   cases hr468
   refine .ixa un25 sz72 r e466 r h460 (idx_lt hx462 h460) r r (.fa un72 r sz3 r (o:=o464+s437.toNat*2) r r r (.ld1 (j:=0) ia3 hC467 r r r r r (.buildSlice 1 un31 sz3 zv3 r r (.c r r r .n) r r fun b469=>?_)))
   obtain ⟨hl471,hd⟩:=hd
   refine .append (ys:=[x461.At]) 8 (.s (.s (.s (.s (.s .z))))) un31 un31 IN3 r r r r r r r r r (.box .z (.one r) r) hl471 r r fun p472 c473=>?_
   refine .ks 1 r (.nilS [4,5,3,2,1] r r (.drop (.s .z) (.ownF .z fun hne475=>?_)))
   refine .ownF (.s (.s (.s (.s .z)))) fun hne476=>?_
   refine .dr [0,1,2,3,4,5,6,7,8,9,10,11,12,13] 14 (.g r r r (fun _=>.fa un111 r sz32 r (o:=2) r r r .mk) (.g r r r (fun _=>.load1 ia32 r (.s (.s (.s .z))) r r r .mk) (.g r r r (fun _=>.fa un37 r sz25 r (o:=1) r r r .mk) (.g r r r (fun _=>.load1 ia25 r (.s .z) r r r .mk) (.fk 1 r ?_)))))
   obtain ⟨h477,x478,hx479,hd⟩:=hd
   obtain ⟨b480,o481,cs482,e483,hC484,hr485⟩:=R36.2 _ _ hx479
   cases hr485
   refine .g r r r (fun _=>.ixa un25 sz72 r e483 r h477 (idx_lt hx479 h477) r r .mk) (.g r r r (fun _=>.fa un72 r sz3 r (o:=o481+s437.toNat*2) r r r .mk) (.g r r r (fun _=>.ld1 (j:=0) ia3 hC484 r r r r r .mk) (.g r r r (fun _=>.fa un37 r sz25 r (o:=1) r r r .mk) (.g r r r (fun _=>.load1 ia25 r (.s .z) r r r .mk) (.fk 1 r ?_)))))
   obtain ⟨h486,x487,hx488,hd⟩:=hd
   obtain ⟨b489,o490,cs491,e492,hC493,hr494⟩:=R36.2 _ _ hx488
   cases hr494
   refine .g r r r (fun _=>.ixa un25 sz72 r e492 r h486 (idx_lt hx488 h486) r r .mk) (.g r r r (fun _=>.fa un72 r sz2 r (o:=o490+s437.toNat*2+1) r r r .mk) (.g r r r (fun _=>.ld1 (j:=1) ia2 hC493 r r r r r .mk) (.e2 14 ?_)))
   obtain ⟨h495,x496,hx497,hd⟩:=hd
   obtain ⟨b498,e499⟩:=hne476 (idx_ne hx497)
   cases e499
   exact .ixa0 un32 sz2 r r h495 (idx_lt hx497 h495) r r (.stO1 (j:=0) (v':=x487.Val) sz2 (.s (.s (.s (.s .z)))) hx497 r r r (.t .nil) r (.sub (E':=[(1,_),(2,_),(3,_),(5,_),(4,_),(27,_),(28,.slice (some ⟨b498,0,none⟩) (s429.set x478.At.toNat x487.Val).length c431),(29,_),(30,_),(31,_),(32,_),(33,_),(34,_),(35,_),(36,_),(37,_),(38,_),(39,_),(40,_),(41,_)]) ⟨r,r,r,r,r,r,(by simp only [List.length_set]; rfl),r,r,r,r,r,r,r,r,r,r,r,r,r,trivial⟩ (.reat (.s (.s (.s .z))) (B:=pto b70 (.cells #[.int .i64 r55.N,.slice p61 r55.Has.length c62,.slice (some ⟨b498,0,none⟩) (s429.set x478.At.toNat x487.Val).length c431] 111 (0,0))) (by simp only [List.length_set]) (.nilS [4,5,3,2,1] r r (.region (.ks 3 r (.nil' fun c w ho hs=>⟨((s429.set x478.At.toNat x487.Val),(s433++([x461.At])),w64 (s437+1)),hd,I440,_,_,_,_,hl441,ho.sub ⟨r,r,r,r,r,trivial⟩,hs.pick (.c (.s .z) (.c (.s .z) (.c (.s .z) (.c (.s .z) (.c .z .n)))))⟩)))))))
 refine .exitS [4,3,2,1] r r (.sr (.fa un37 r sz3 r (o:=0) r r r (.load1 ia3 r .z r r r (.ks 1 r (.pub (.s (.s (.s (.s .z)))) fun I500 hl501 R502=>?_)))))
 have le503:=IH.le.trans le442 hl501
 have le504:=IH.le.trans hl441 hl501
 replace R36:=R36.mono hl501
 replace R63:=R63.mono hl501
 have hw514:=W_ref03_Of (I:=I500) R502 hd
 refine .call call125 r hw514 r r fun v509 I506 hl507 hv508=>?_
 obtain ⟨r505,p511,c512,rfl,R513,hd⟩:=hv508
 have le515:=IH.le.trans le503 hl507
 have le516:=IH.le.trans le504 hl507
 replace R36:=R36.mono hl507
 replace R63:=R63.mono hl507
 replace R502:=R502.mono hl507
 refine .fa un111 r sizeOf26 r (o:=1) r r r (.store1 sizeOf26 r r (.s (.s .z)) (.s (.t .nil)) r (.nilS [3,2] r r (.drop .z (.sr (.loadW isAgg111 sz111 r (.s .z) r r r (.storeA sz111 r r .z (.t (.t (.t .nil))) r r (.nilS [2] r r (.drop (.s .z) (.pub (.s .z) fun I517 hl518 R519=>?_)))))))))
 have le520:=IH.le.trans le515 hl518
 have le521:=IH.le.trans le516 hl518
 replace R513:=R513.mono hl518
 exact .ret (pret results79 (.w isAgg111 sz111 r .z r .n) le520 ⟨({ N:=r55.N,Has:=r505,Vals:=s429 }:Dense),_,_,_,_,r,R513,R519,hd⟩)
theorem W_ref14_both {I:IH} {a0:Int} {a1:List Sum} {a2:List Sum} {p1:Option Addr} {c2:Nat} {p4:Option Addr} {c5:Nat} {Q:(List Sum)→Prop} (R3:RepSl eSum I p1 c2 a1) (R6:RepSl eSum I p4 c5 a2) (hd:ref14_both a0 a1 a2 Q) :
  PFun prog 126 [.int .i64 a0,.slice p1 a1.length c2,.slice p4 a2.length c5] I (o14_ Q):=by
 refine Fun.enter func126 r ntmps126 r (.c (.c (.c .n))) fun w0 M=>?_
 refine .sr (.ks 1 r (.nilS [2,1,0] r r (.sr (.ks 1 r (.nilS [7,2,1,0] r r (.sr (.ks 2 r (.nilS [9,8,7,2,1,0] r r (.seq ?_)))))))))
 refine .block (.own0 eSum 80 (.loop hd (fun (s:(List Sum)×Int×Int) c w=>match s with | (s450,s454,s455)=>∃ I_ p451 c452,IH.le I I_∧Ok ⟨106,[],none⟩ [(0,.int .i64 a0),(1,.slice p1 a1.length c2),(2,.slice p4 a2.length c5),(7,.slice p451 s450.length c452),(8,.int .i64 s454),(9,.int .i64 s455)] c∧Sym w0 M I I_ [OwnSl eSum 80 p451 c452 s450] w) (fun c w ho hs=>⟨I,_,_,(.refl _),ho.sub ⟨r,r,r,r,r,r,trivial⟩,hs.pick (.c .z .n)⟩) ?_))
 rintro ⟨s450,s454,s455⟩ next457 hd c w hst
 obtain ⟨I458,p451,c452,hl459,hok,hsym⟩:=hst
 replace R3:=R3.mono hl459
 replace R6:=R6.mono hl459
 refine Cod.at hok hsym (.seq ?_)
 refine Cod.joinQ (σ:=Unit) hd (fun (_:Unit) c w=>∃ I_,IH.le I458 I_∧Ok ⟨106,[],none⟩ [(0,.int .i64 a0),(1,.slice p1 a1.length c2),(2,.slice p4 a2.length c5),(7,.slice p451 s450.length c452),(8,.int .i64 s454),(9,.int .i64 s455)] c∧Sym w0 M I I_ [OwnSl eSum 80 p451 c452 s450] w) (fun k464 hd=>?_) ?_
 · skip
   refine .sr (.ks 2 r (.len un58 r r r r (.ks 2 r ?_)))
   refine splitP hd (fun hb465 hd=>?_) fun hb465 hd=>?_
   · rw [hb465]
     exact .ks 5 r (.nilS [19,9,8,7,2,1,0] r r (.condKT r r (.skip' fun c w ho hs=>⟨(),hd,I458,(.refl _),ho.sub ⟨r,r,r,r,r,r,trivial⟩,hs.pick (.c .z .n)⟩)))
   rw [hb465]
   refine .ks 2 r (.gyes r r r (.len un58 r r r r (.ks 2 r (.nilS [19,9,8,7,2,1,0] r r (.condP r hd (fun hb466 hd=>?_) fun hb466 hd=>?_)))))
   · exact .skip' fun c w ho hs=>⟨(),hd,I458,(.refl _),ho.sub ⟨r,r,r,r,r,r,trivial⟩,hs.pick (.c .z .n)⟩
   refine .exitS [7] r r (.sr (.ks 2 r (.nilS [6] r r (.pub .z fun I467 hl468 R469=>?_))))
   have le470:=IH.le.trans hl459 hl468
   exact .ret (pret results126 (.t r .n) le470 ⟨s450,_,_,r,R469,hd⟩)
 rintro ⟨⟩ hd c w hst
 obtain ⟨I471,hl472,hok,hsym⟩:=hst
 have le473:=IH.le.trans hl459 hl472
 replace R3:=R3.mono hl472
 replace R6:=R6.mono hl472
 refine Cod.at hok hsym (.block (.block (.seq ?_)))
 refine Cod.joinQ (σ:=Bool) hd (fun (s516:Bool) c w=>∃ I_,IH.le I471 I_∧Ok ⟨106,[],none⟩ [(0,.int .i64 a0),(1,.slice p1 a1.length c2),(2,.slice p4 a2.length c5),(7,.slice p451 s450.length c452),(8,.int .i64 s454),(9,.int .i64 s455),(45,.bool s516)] c∧Sym w0 M I I_ [OwnSl eSum 80 p451 c452 s450] w) (fun k517 hd=>?_) ?_
 · skip
   refine .ownF .z fun hne518=>?_
   refine .dr [0,1,2,3,4,5,6,7,8,9,10,11,12,13,14,15,16,17,18,19,20,21,22,23] 24 (.fk 2 r (.g r r r (fun _=>.len un58 r r r r .mk) (.fk 2 r ?_)))
   refine splitP hd (fun hb519 hd=>?_) fun hb519 hd=>?_
   · rw [hb519]
     exact .fk 19 r (.e2 24 (.nil' fun c w ho hs=>⟨true,hd,I471,(.refl _),ho.sub ⟨r,r,r,r,r,r,r,trivial⟩,hs.pick (.c .z .n)⟩))
   rw [hb519]
   refine .fk 2 r (.g r r r (fun _=>.gyes r r r (.len un58 r r r r .mk)) (.fk 2 r ?_))
   refine splitP hd (fun hb520 hd=>?_) fun hb520 hd=>?_
   · rw [hb520]
     refine .fk 2 r ?_
     obtain ⟨h521,x522,hx523,hd⟩:=hd
     obtain ⟨b524,o525,cs526,e527,hC528,hr529⟩:=R3.2 _ _ hx523
     cases hr529
     refine .g r r r (fun _=>.gyes r r r (.ixa un58 sz80 r e527 r h521 (idx_lt hx523 h521) r r .mk)) (.g r r r (fun _=>.gyes r r r (.fa un80 r sz3 r (o:=o525+s454.toNat*3) r r r .mk)) (.g r r r (fun _=>.gyes r r r (.ld1 (j:=0) ia3 hC528 r r r r r .mk)) (.fk 2 r ?_)))
     obtain ⟨h530,x531,hx532,hd⟩:=hd
     obtain ⟨b533,o534,cs535,e536,hC537,hr538⟩:=R6.2 _ _ hx532
     cases hr538
     exact .g r r r (fun _=>.gyes r r r (.ixa un58 sz80 r e536 r h530 (idx_lt hx532 h530) r r .mk)) (.g r r r (fun _=>.gyes r r r (.fa un80 r sz3 r (o:=o534+s455.toNat*3) r r r .mk)) (.g r r r (fun _=>.gyes r r r (.ld1 (j:=0) ia3 hC537 r r r r r .mk)) (.fk 4 r (.e2 24 (.nil' fun c w ho hs=>⟨(decide (x522.At<x531.At)),hd,I471,(.refl _),ho.sub ⟨r,r,r,r,r,r,r,trivial⟩,hs.pick (.c .z .n)⟩)))))
   rw [hb520]
   exact .fk 14 r (.e2 24 (.nil' fun c w ho hs=>⟨false,hd,I471,(.refl _),ho.sub ⟨r,r,r,r,r,r,r,trivial⟩,hs.pick (.c .z .n)⟩))
 rintro s516 hd c w hst
 obtain ⟨I539,hl540,hok,hsym⟩:=hst
 have le541:=IH.le.trans le473 hl540
 have le542:=IH.le.trans hl472 hl540
 replace R3:=R3.mono hl540
 replace R6:=R6.mono hl540
 refine Cod.at hok hsym (.condP r hd (fun hb543 hd=>?_) fun hb543 hd=>?_)
 · refine .sr (.ks 3 r ?_)
   obtain ⟨h544,x545,hx546,hd⟩:=hd
   obtain ⟨b547,o548,cs549,e550,hC551,hr552⟩:=R3.2 _ _ hx546
   cases hr552
   refine .ixa un58 sz80 r e550 r h544 (idx_lt hx546 h544) r r (.ldW isAgg80 sz80 hC551 r r r r (.buildSlice 1 un58 sz80 zv80 r r (.c r r r .n) r r fun b553=>?_))
   obtain ⟨hl555,hd⟩:=hd
   refine .append (ys:=[x545]) 24 (.s .z) un58 un58 IN80 r r r r r r r r r (.box .z (.one r) r) hl555 r r fun p556 c557=>?_
   exact .ks 1 r (.nilS [7,9,8,2,1,0] r r (.drop (.s .z) (.region (.ks 3 r (.nil' fun c w ho hs=>⟨((s450++([x545])),w64 (s454+1),s455),hd,I539,_,_,le541,ho.sub ⟨r,r,r,r,r,r,trivial⟩,hs.pick (.c .z .n)⟩)))))
 refine .seq ?_
 refine Cod.joinQ (σ:=Bool) hd (fun (s599:Bool) c w=>∃ I_,IH.le I539 I_∧Ok ⟨106,[],none⟩ [(0,.int .i64 a0),(1,.slice p1 a1.length c2),(2,.slice p4 a2.length c5),(7,.slice p451 s450.length c452),(8,.int .i64 s454),(9,.int .i64 s455),(78,.bool s599)] c∧Sym w0 M I I_ [OwnSl eSum 80 p451 c452 s450] w) (fun k600 hd=>?_) ?_
 · skip
   refine .ownF .z fun hne601=>?_
   refine .dr [0,1,2,3,4,5,6,7,8,9,10,11,12,13,14,15,16,17] 18 (.fk 2 r (.g r r r (fun _=>.len un58 r r r r .mk) (.fk 2 r ?_)))
   refine splitP hd (fun hb602 hd=>?_) fun hb602 hd=>?_
   · rw [hb602]
     exact .fk 13 r (.e2 18 (.nil' fun c w ho hs=>⟨true,hd,I539,(.refl _),ho.sub ⟨r,r,r,r,r,r,r,trivial⟩,hs.pick (.c .z .n)⟩))
   rw [hb602]
   refine .fk 2 r ?_
   obtain ⟨h603,x604,hx605,hd⟩:=hd
   obtain ⟨b606,o607,cs608,e609,hC610,hr611⟩:=R6.2 _ _ hx605
   cases hr611
   refine .g r r r (fun _=>.gyes r r r (.ixa un58 sz80 r e609 r h603 (idx_lt hx605 h603) r r .mk)) (.g r r r (fun _=>.gyes r r r (.fa un80 r sz3 r (o:=o607+s455.toNat*3) r r r .mk)) (.g r r r (fun _=>.gyes r r r (.ld1 (j:=0) ia3 hC610 r r r r r .mk)) (.fk 2 r ?_)))
   obtain ⟨h612,x613,hx614,hd⟩:=hd
   obtain ⟨b615,o616,cs617,e618,hC619,hr620⟩:=R3.2 _ _ hx614
   cases hr620
   exact .g r r r (fun _=>.gyes r r r (.ixa un58 sz80 r e618 r h612 (idx_lt hx614 h612) r r .mk)) (.g r r r (fun _=>.gyes r r r (.fa un80 r sz3 r (o:=o616+s454.toNat*3) r r r .mk)) (.g r r r (fun _=>.gyes r r r (.ld1 (j:=0) ia3 hC619 r r r r r .mk)) (.fk 3 r (.e2 18 (.nil' fun c w ho hs=>⟨(decide (x604.At<x613.At)),hd,I539,(.refl _),ho.sub ⟨r,r,r,r,r,r,r,trivial⟩,hs.pick (.c .z .n)⟩)))))
 rintro s599 hd c w hst
 obtain ⟨I621,hl622,hok,hsym⟩:=hst
 have le623:=IH.le.trans le541 hl622
 have le624:=IH.le.trans le542 hl622
 have le625:=IH.le.trans hl540 hl622
 replace R3:=R3.mono hl622
 replace R6:=R6.mono hl622
 refine Cod.at hok hsym (.condP r hd (fun hb626 hd=>?_) fun hb626 hd=>?_)
 · refine .sr (.ks 3 r ?_)
   obtain ⟨h627,x628,hx629,hd⟩:=hd
   obtain ⟨b630,o631,cs632,e633,hC634,hr635⟩:=R6.2 _ _ hx629
   cases hr635
   refine .ixa un58 sz80 r e633 r h627 (idx_lt hx629 h627) r r (.ldW isAgg80 sz80 hC634 r r r r (.buildSlice 1 un58 sz80 zv80 r r (.c r r r .n) r r fun b636=>?_))
   obtain ⟨hl638,hd⟩:=hd
   refine .append (ys:=[x628]) 24 (.s .z) un58 un58 IN80 r r r r r r r r r (.box .z (.one r) r) hl638 r r fun p639 c640=>?_
   exact .ks 1 r (.nilS [7,9,8,2,1,0] r r (.drop (.s .z) (.region (.ks 3 r (.nil' fun c w ho hs=>⟨((s450++([x628])),s454,w64 (s455+1)),hd,I621,_,_,le623,ho.sub ⟨r,r,r,r,r,r,trivial⟩,hs.pick (.c .z .n)⟩)))))
 refine .seq (.ownF .z fun hne642=>?_)
 refine .dr [0,1,2,3,4,5,6,7,8,9,10,11,12,13,14,15,16,17,18,19,20] 21 (.fk 3 r ?_)
 obtain ⟨h643,x644,hx645,hd⟩:=hd
 obtain ⟨b646,o647,cs648,e649,hC650,hr651⟩:=R3.2 _ _ hx645
 cases hr651
 refine .g r r r (fun _=>.ixa un58 sz80 r e649 r h643 (idx_lt hx645 h643) r r .mk) (.g r r r (fun _=>.fa un80 r sz3 r (o:=o647+s454.toNat*3) r r r .mk) (.g r r r (fun _=>.ld1 (j:=0) ia3 hC650 r r r r r .mk) (.fk 3 r ?_)))
 obtain ⟨h652,x653,hx654,hd⟩:=hd
 obtain ⟨b655,o656,cs657,e658,hC659,hr660⟩:=R3.2 _ _ hx654
 cases hr660
 refine .g r r r (fun _=>.ixa un58 sz80 r e658 r h652 (idx_lt hx654 h652) r r .mk) (.g r r r (fun _=>.fa un80 r sz78 r (o:=o656+s454.toNat*3+1) r r r .mk) (.g r r r (fun _=>.ldA (j:=1) ia78 sz78 hC659 r r (.s (.t (.t .nil))) r r r .mk) (.fk 2 r ?_)))
 obtain ⟨h661,x662,hx663,hd⟩:=hd
 obtain ⟨b664,o665,cs666,e667,hC668,hr669⟩:=R6.2 _ _ hx663
 cases hr669
 refine .g r r r (fun _=>.ixa un58 sz80 r e667 r h661 (idx_lt hx663 h661) r r .mk) (.g r r r (fun _=>.fa un80 r sz78 r (o:=o665+s455.toNat*3+1) r r r .mk) (.g r r r (fun _=>.ldA (j:=1) ia78 sz78 hC668 r r (.s (.t (.t .nil))) r r r .mk) (.ww r fun ex=>?_)))
 have hw671:=W_ref02_Add (I:=I621) hd
 refine .callP call123 r hw671 r r fun v672 hv673=>?_
 obtain ⟨r670,rfl,hd⟩:=hv673
 refine .so 1 r r r (.cg r r r r (fun _=>.ld1 (j:=0) ia3 hC650 r r r r r .mk) (.cg r r r r (fun _=>.fa un80 r sz3 r (o:=o647+s454.toNat*3) r r r .mk) (.cg r r r r (fun _=>.ixa un58 sz80 r e649 r h643 (idx_lt hx645 h643) r r .mk) (.ck 3 r r trivial)))) (.g r r r (fun _=>.build zv80 un80 BI80 (.c r r r (.t .nil) (.c r r r (.s (.t (.t .nil))) .n)) (by exact ⟨⟨_,_,r,r,r⟩,⟨⟨_,_,r,r,r⟩,trivial⟩⟩) r r .mk) (.ww r fun ex=>?_))
 refine .buildSlice 1 un58 sz80 zv80 r r (.c r r r .n) r r fun b674=>?_
 refine .so 2 r r r (.ck 1 r r trivial) (.ww r fun ex=>?_)
 obtain ⟨hl676,hd⟩:=hd
 refine .append (ys:=[({ At:=x644.At,Val:=r670 }:Sum)]) 24 (.s .z) un58 un58 IN80 r r r r r r r r r (.box .z (.one r) r) hl676 r r fun p677 c678=>?_
 refine .so 2 r r r trivial (.e2 21 (.ks 1 r (.nilS [7,9,8,2,1,0] r r (.drop (.s .z) (.sr (.ks 3 r (.nilS [8,7,9,2,1,0] r r (.region (.ks 3 r ?_)))))))))
 exact .nil' fun c w ho hs=>⟨((s450++([({ At:=x644.At,Val:=r670 }:Sum)])),w64 (s454+1),w64 (s455+1)),hd,I621,_,_,le623,ho.sub ⟨r,r,r,r,r,r,trivial⟩,hs.pick (.c .z .n)⟩
theorem W_ref14_Merge {I:IH} {a0:Int} {a1:List (List Sum)} {p1:Option Addr} {c2:Nat} {Q:((List Sum)×Int)→Prop} (R3:RepSl (slEl eSum) I p1 c2 a1) (hd:ref14_Merge a0 a1 Q) :
  PFun prog 80 [.int .i64 a0,.slice p1 a1.length c2] I (fun I_ v=>∃ r p4 c5,v=.tuple #[.slice p4 r.1.length c5,.int .i64 r.2]∧RepSl eSum I_ p4 c5 r.1∧Q r):=by
 refine Fun.enter func80 r ntmps80 r (.c (.c .n)) fun w0 M=>?_
 refine .sr (.ks 2 r (.nilS [1,0] r r (.seq (.sr (.ks 1 r ?_)))))
 have hw13:=W_ref02_Is (I:=I) hd
 refine .callP call77 r hw13 r r fun v14 hv15=>?_
 obtain ⟨r12,rfl,hd⟩:=hv15
 refine .ks 1 r (.nilS [12,1,0] r r (.condP r hd (fun hb16 hd=>?_) fun hb16 hd=>?_))
 · exact .sr (.ks 2 r (.nilS [5,4] r r (.ret (pret results80 (.t r (.t r .n)) (.refl _) ⟨(([]:List Sum),8),_,_,r,(.nil _ _ _),hd⟩))))
 refine .skipS [1,0] r r (.seq (.sr (.ks 1 r (.nilS [6,1,0] r r (.block (.loop hd (fun (s1108:Int) c w=>∃ I_,IH.le I I_∧Ok ⟨60,[],none⟩ [(0,.int .i64 a0),(1,.slice p1 a1.length c2),(6,.int .i64 s1108)] c∧Sym w0 M I I_ [] w) (fun c w ho hs=>⟨I,(.refl _),ho.sub ⟨r,r,r,trivial⟩,hs.pick .n⟩) ?_))))))
 rintro s1108 next1109 hd c w hst
 obtain ⟨I1110,hl1111,hok,hsym⟩:=hst
 replace R3:=R3.mono hl1111
 refine Cod.at hok hsym (.seq (.sr (.ks 2 r (.len un106 r r r r (.ks 1 r (.nilS [16,6,1,0] r r (.condP r hd (fun hb1113 hd=>?_) fun hb1113 hd=>?_)))))))
 · refine .skipS [6,1,0] r r (.seq (.block (.sr (.ks 1 r (.nilS [7,6,1,0] r r (.block (.loop hd (fun (s1255:Int) c w=>∃ I_,IH.le I1110 I_∧Ok ⟨60,[],none⟩ [(0,.int .i64 a0),(1,.slice p1 a1.length c2),(6,.int .i64 s1108),(7,.int .i64 s1255)] c∧Sym w0 M I I_ [] w) (fun c w ho hs=>⟨I1110,(.refl _),ho.sub ⟨r,r,r,r,trivial⟩,hs.pick .n⟩) ?_)))))))
   rintro s1255 next1256 hd c w hst
   obtain ⟨I1257,hl1258,hok,hsym⟩:=hst
   have le1259:=IH.le.trans hl1111 hl1258
   replace R3:=R3.mono hl1258
   refine Cod.at hok hsym (.seq (.sr (.ks 3 r ?_)))
   obtain ⟨h1273,x1274,hx1275,hd⟩:=hd
   obtain ⟨b1276,o1277,cs1278,e1279,hC1280,hr1281⟩:=R3.2 _ _ hx1275
   obtain ⟨p1282,c1283,rfl,R1284⟩:=hr1281
   refine .ixa un106 sz58 r e1279 r h1273 (idx_lt hx1275 h1273) r r (.ld1 (j:=0) ia58 hC1280 r r r r r (.len un58 r r r r (.ks 1 r (.nilS [25,7,6,1,0] r r (.condP r hd (fun hb1285 hd=>?_) fun hb1285 hd=>?_)))))
   · refine .skipS [7,6,1,0] r r (.seq (.block (.seq (.dr [0,1,2,3,4,5,6,7,8,9,10,11,12,13,14,15,16,17] 18 (.fk 2 r ?_)))))
     obtain ⟨h1286,x1287,hx1288,hd⟩:=hd
     obtain ⟨b1289,o1290,cs1291,e1292,hC1293,hr1294⟩:=R3.2 _ _ hx1288
     obtain ⟨p1295,c1296,rfl,R1297⟩:=hr1294
     refine .g r r r (fun _=>.ixa un106 sz58 r e1292 r h1286 (idx_lt hx1288 h1286) r r .mk) (.g r r r (fun _=>.ld1 (j:=0) ia58 hC1293 r r r r r .mk) (.fk 1 r ?_))
     obtain ⟨h1298,x1299,hx1300,hd⟩:=hd
     obtain ⟨b1301,o1302,cs1303,e1304,hC1305,hr1306⟩:=R1297.2 _ _ hx1300
     cases hr1306
     refine .g r r r (fun _=>.ixa un58 sz80 r e1304 r h1298 (idx_lt hx1300 h1298) r r .mk) (.g r r r (fun _=>.fa un80 r sz3 r (o:=o1302+s1255.toNat*3) r r r .mk) (.g r r r (fun _=>.ld1 (j:=0) ia3 hC1305 r r r r r .mk) (.fk 2 r ?_)))
     obtain ⟨h1307,x1308,hx1309,hd⟩:=hd
     obtain ⟨b1310,o1311,cs1312,e1313,hC1314,hr1315⟩:=R3.2 _ _ hx1309
     obtain ⟨p1316,c1317,rfl,R1318⟩:=hr1315
     refine .g r r r (fun _=>.ixa un106 sz58 r e1313 r h1307 (idx_lt hx1309 h1307) r r .mk) (.g r r r (fun _=>.ld1 (j:=0) ia58 hC1314 r r r r r .mk) (.fk 2 r ?_))
     obtain ⟨h1319,x1320,hx1321,hd⟩:=hd
     obtain ⟨b1322,o1323,cs1324,e1325,hC1326,hr1327⟩:=R1318.2 _ _ hx1321
     cases hr1327
     refine .g r r r (fun _=>.ixa un58 sz80 r e1325 r h1319 (idx_lt hx1321 h1319) r r .mk) (.g r r r (fun _=>.fa un80 r sz3 r (o:=o1323+(w64 (s1255 - 1)).toNat*3) r r r .mk) (.g r r r (fun _=>.ld1 (j:=0) ia3 hC1326 r r r r r .mk) (.fk 1 r (.e2 18 (.nilS [45,7,6,1,0] r r (.condP r hd (fun hb1328 hd=>?_) fun hb1328 hd=>?_))))))
     · exact .sr (.ks 2 r (.nilS [5,4] r r (.ret (pret results80 (.t r (.t r .n)) le1259 ⟨(([]:List Sum),6),_,_,r,(.nil _ _ _),hd⟩))))
     exact .skipS [7,6,1,0] r r (.region (.ks 3 r (.nil' fun c w ho hs=>⟨(w64 (s1255+1)),hd,I1257,hl1258,ho.sub ⟨r,r,r,r,trivial⟩,hs.pick .n⟩)))
   exact .exitS [6,1,0] r r (.region (.ks 3 r (.nil' fun c w ho hs=>⟨(w64 (s1108+1)),hd,I1257,le1259,ho.sub ⟨r,r,r,trivial⟩,hs.pick .n⟩)))
 refine .exitS [1,0] r r (.sr (.ks 1 r (.nilS [8,1,0] r r (.seq (.sr (.ks 1 r (.nilS [9,8,1,0] r r (.block (.loop hd (fun (s:(List Sum)×Int) c w=>match s with | (s1394,s1398)=>∃ I_ p1395 c1396,IH.le I1110 I_∧RepSl eSum I_ p1395 c1396 s1394∧Ok ⟨60,[],none⟩ [(0,.int .i64 a0),(1,.slice p1 a1.length c2),(8,.slice p1395 s1394.length c1396),(9,.int .i64 s1398)] c∧Sym w0 M I I_ [] w) (fun c w ho hs=>⟨I1110,_,_,(.refl _),.nil _ _ _,ho.sub ⟨r,r,r,r,trivial⟩,hs.pick .n⟩) ?_)))))))))
 rintro ⟨s1394,s1398⟩ next1399 hd c w hst
 obtain ⟨I1400,p1395,c1396,hl1401,R1397,hok,hsym⟩:=hst
 have le1402:=IH.le.trans hl1111 hl1401
 replace R3:=R3.mono hl1401
 refine Cod.at hok hsym (.seq (.sr (.ks 2 r (.len un106 r r r r (.ks 1 r (.nilS [49,9,8,1,0] r r (.condP r hd (fun hb1404 hd=>?_) fun hb1404 hd=>?_)))))))
 · refine .skipS [9,8,1,0] r r (.seq (.block (.region (.ks 4 r ?_))))
   obtain ⟨h1405,x1406,hx1407,hd⟩:=hd
   obtain ⟨b1408,o1409,cs1410,e1411,hC1412,hr1413⟩:=R3.2 _ _ hx1407
   obtain ⟨p1414,c1415,rfl,R1416⟩:=hr1413
   refine .ixa un106 sz58 r e1411 r h1405 (idx_lt hx1407 h1405) r r (.ld1 (j:=0) ia58 hC1412 r r r r r ?_)
   have hw1426:=W_ref14_both (I:=I1400) R1397 R1416 hd
   refine .call call126 r hw1426 r r fun v1421 I1418 hl1419 hv1420=>?_
   obtain ⟨r1417,p1423,c1424,rfl,R1425,hd⟩:=hv1420
   have le1427:=IH.le.trans le1402 hl1419
   have le1428:=IH.le.trans hl1401 hl1419
   replace R3:=R3.mono hl1419
   replace R1397:=R1397.mono hl1419
   replace R1416:=R1416.mono hl1419
   replace hC1412:=hC1412.mono hl1419
   exact .ks 1 r (.nilS [8,9,1,0] r r (.region (.ks 3 r (.nil' fun c w ho hs=>⟨(r1417,w64 (s1398+1)),hd,I1418,_,_,le1428,R1425,ho.sub ⟨r,r,r,r,trivial⟩,hs.pick .n⟩))))
 exact .exitS [8] r r (.sr (.ks 3 r (.nilS [5,4] r r (.ret (pret results80 (.t r (.t r .n)) le1402 ⟨(s1394,0),_,_,r,R1397,hd⟩)))))
theorem W_ref18_Times {I:IH} {a0:Int} {a1:Rows} {a2:Vec} {a3:Int} {a4:Int} {p1:Option Addr} {c2:Nat} {p4:Option Addr} {c5:Nat} {p7:Option Addr} {c8:Nat} {p10:Option Addr} {c11:Nat} {Q:((List Sum)×Int)→Prop} (R3:RepSl eI64 I p1 c2 a1.Start) (R6:RepSl eI64 I p4 c5 a1.Col) (R9:RepSl eI64 I p7 c8 a1.Val) (R12:RepSl eItem I p10 c11 a2.Items) (hd:ref18_Times a0 a1 a2 a3 a4 Q) :
  PFun prog 28 [.int .i64 a0,.agg #[.int .i64 a1.Rows,.int .i64 a1.Cols,.slice p1 a1.Start.length c2,.slice p4 a1.Col.length c5,.slice p7 a1.Val.length c8],.agg #[.int .i64 a2.N,.slice p10 a2.Items.length c11],.int .i64 a3,.int .i64 a4] I (o16_ Q):=by
 refine Fun.enter func28 r ntmps28 r (.c (.c (.c (.c (.c .n))))) fun w0 M=>?_
 refine .sr (.boxA r r r fun b20=>?_)
 refine .boxA r r r fun b22=>?_
 refine .ks 2 r (.nilS [7,6,4,3,0] r r (.seq (.dr [0,2,1,3,4] 5 (.g r r r (fun _=>.loadW ia34 sz34 r (.s .z) r r r .mk) (.g r r r (fun _=>.loadW ia37 sz37 r .z r r r .mk) (.ww r fun ex=>?_))))))
 have hw66:=W_ref07_Sure (I:=I) R3 R6 R9 hd
 refine .call call76 r hw66 r r fun v55 I52 hl53 hv54=>?_
 obtain ⟨r51,p57,c58,p60,c61,p63,c64,rfl,R59,R62,R65,hd⟩:=hv54
 replace R3:=R3.mono hl53
 replace R6:=R6.mono hl53
 replace R9:=R9.mono hl53
 replace R12:=R12.mono hl53
 refine .so 2 r r r (.cg r r r r (fun _=>.loadW ia37 sz37 r .z r r r .mk) trivial) (.ww r fun ex=>?_)
 have hw76:=W_ref09_Sure (I:=I52) R12 hd
 refine .call call53 r hw76 r r fun v71 I68 hl69 hv70=>?_
 obtain ⟨r67,p73,c74,rfl,R75,hd⟩:=hv70
 have le77:=IH.le.trans hl53 hl69
 replace R3:=R3.mono hl69
 replace R6:=R6.mono hl69
 replace R9:=R9.mono hl69
 replace R12:=R12.mono hl69
 replace R59:=R59.mono hl69
 replace R62:=R62.mono hl69
 replace R65:=R65.mono hl69
 refine .so 2 r r r trivial (.ww r fun ex=>?_)
 refine .storeA sz34 r r (.s .z) (.t (.t (.t (.t (.t .nil))))) r r (.sn 2 r r r trivial (.e2 5 (.storeA sz37 r r .z (.t (.t .nil)) r r (.nilS [7,6,4,3,0] r r (.seq (.sr (.ks 1 r ?_)))))))
 have hw84:=W_ref02_Is (I:=I68) hd
 refine .callP call77 r hw84 r r fun v85 hv86=>?_
 obtain ⟨r83,rfl,hd⟩:=hv86
 refine .ks 1 r (.nilS [26,7,6,4,3,0] r r (.condP r hd (fun hb87 hd=>?_) fun hb87 hd=>?_))
 · exact .sr (.ks 2 r (.nilS [11,10] r r (.drop .z (.drop .z (.ret (pret results28 (.t r (.t r .n)) le77 ⟨(([]:List Sum),8),_,_,r,(.nil _ _ _),hd⟩))))))
 refine .skipS [7,6,4,3,0] r r (.seq (.sr (.ks 2 r ?_)))
 have hw94:=W_ref18_sides (I:=I68) hd
 refine .callP call46 r hw94 r r fun v95 hv96=>?_
 obtain ⟨r93,rfl,hd⟩:=hv96
 refine .ks 1 r (.nilS [30,7,6,4,3,0] r r (.condP r hd (fun hb97 hd=>?_) fun hb97 hd=>?_))
 · exact .sr (.ks 2 r (.nilS [11,10] r r (.drop .z (.drop .z (.ret (pret results28 (.t r (.t r .n)) le77 ⟨(([]:List Sum),3),_,_,r,(.nil _ _ _),hd⟩))))))
 refine .skipS [7,6,4,3,0] r r (.seq (.sr (.fa un37 r sz3 r (o:=0) r r r (.load1 ia3 r .z r r r (.fa un34 r sz3 r (o:=1) r r r (.load1 ia3 r (.s .z) r r r (.ks 1 r (.nilS [35,7,6,4,3,0] r r (.condP r hd (fun hb99 hd=>?_) fun hb99 hd=>?_)))))))))
 · exact .sr (.ks 2 r (.nilS [11,10] r r (.drop .z (.drop .z (.ret (pret results28 (.t r (.t r .n)) le77 ⟨(([]:List Sum),4),_,_,r,(.nil _ _ _),hd⟩))))))
 refine .skipS [7,6,4,3,0] r r (.sr (.ks 1 r (.nilS [12,7,6,4,3,0] r r (.seq (.sr (.ks 1 r (.nilS [13,12,7,6,4,3,0] r r (.block (.own0 (slEl eSum) 58 ?_)))))))))
 refine .loop hd (fun (s:(List (List Sum))×Int) c w=>match s with | (s1682,s1686)=>∃ I_ p1683 c1684,IH.le I68 I_∧Ok ⟨98,[],none⟩ [(0,.int .i64 a0),(3,.int .i64 a3),(4,.int .i64 a4),(6,.pointer (some ⟨b20,0,none⟩)),(7,.pointer (some ⟨b22,0,none⟩)),(12,.slice p1683 s1682.length c1684),(13,.int .i64 s1686)] c∧Sym w0 M I I_ [pto b20 (.cells #[.int .i64 r51.Rows,.int .i64 r51.Cols,.slice p57 r51.Start.length c58,.slice p60 r51.Col.length c61,.slice p63 r51.Val.length c64] 34 (0,0)),pto b22 (.cells #[.int .i64 r67.N,.slice p73 r67.Items.length c74] 37 (0,0)),OwnSl (slEl eSum) 58 p1683 c1684 s1682] w) (fun c w ho hs=>⟨I68,_,_,(.refl _),ho.sub ⟨r,r,r,r,r,r,r,trivial⟩,hs.pick (.c (.s (.s .z)) (.c (.s .z) (.c .z .n)))⟩) ?_
 rintro ⟨s1682,s1686⟩ next1688 hd c w hst
 obtain ⟨I1689,p1683,c1684,hl1690,hok,hsym⟩:=hst
 have le1691:=IH.le.trans le77 hl1690
 replace R59:=R59.mono hl1690
 replace R62:=R62.mono hl1690
 replace R65:=R65.mono hl1690
 replace R75:=R75.mono hl1690
 refine Cod.at hok hsym (.seq (.sr (.ks 3 r (.nilS [38,13,12,7,6,4,3,0] r r (.condP r hd (fun hb1693 hd=>?_) fun hb1693 hd=>?_)))))
 · refine .skipS [13,12,7,6,4,3,0] r r (.seq (.block (.sr (.ks 1 r (.nilS [14,13,12,7,6,4,3,0] r r (.block (.loop hd (fun (s:(List (List Sum))×Int) c w=>match s with | (s2233,s2237)=>∃ I_ p2234 c2235,IH.le I1689 I_∧Ok ⟨98,[],none⟩ [(0,.int .i64 a0),(3,.int .i64 a3),(4,.int .i64 a4),(6,.pointer (some ⟨b20,0,none⟩)),(7,.pointer (some ⟨b22,0,none⟩)),(12,.slice p2234 s2233.length c2235),(13,.int .i64 s1686),(14,.int .i64 s2237)] c∧Sym w0 M I I_ [pto b20 (.cells #[.int .i64 r51.Rows,.int .i64 r51.Cols,.slice p57 r51.Start.length c58,.slice p60 r51.Col.length c61,.slice p63 r51.Val.length c64] 34 (0,0)),pto b22 (.cells #[.int .i64 r67.N,.slice p73 r67.Items.length c74] 37 (0,0)),OwnSl (slEl eSum) 58 p2234 c2235 s2233] w) (fun c w ho hs=>⟨I1689,_,_,(.refl _),ho.sub ⟨r,r,r,r,r,r,r,r,trivial⟩,hs.pick (.c .z (.c .z (.c .z .n)))⟩) ?_)))))))
   rintro ⟨s2233,s2237⟩ next2238 hd c w hst
   obtain ⟨I2239,p2234,c2235,hl2240,hok,hsym⟩:=hst
   have le2241:=IH.le.trans le1691 hl2240
   have le2242:=IH.le.trans hl1690 hl2240
   replace R59:=R59.mono hl2240
   replace R62:=R62.mono hl2240
   replace R65:=R65.mono hl2240
   replace R75:=R75.mono hl2240
   refine Cod.at hok hsym (.seq (.sr (.ks 3 r (.nilS [43,14,13,12,7,6,4,3,0] r r (.condP r hd (fun hb2244 hd=>?_) fun hb2244 hd=>?_)))))
   · refine .skipS [14,13,12,7,6,4,3,0] r r (.seq (.block (.sr (.loadW ia34 sz34 r .z r r r (.ks 4 r ?_)))))
     have hw2281:=W_ref18_Cut (I:=I2239) R59 R62 R65 hd
     refine .call call13 r hw2281 r r fun v2270 I2267 hl2268 hv2269=>?_
     obtain ⟨r2266,p2272,c2273,p2275,c2276,p2278,c2279,rfl,R2274,R2277,R2280,hd⟩:=hv2269
     have le2282:=IH.le.trans le2241 hl2268
     have le2283:=IH.le.trans le2242 hl2268
     have le2284:=IH.le.trans hl2240 hl2268
     replace R59:=R59.mono hl2268
     replace R62:=R62.mono hl2268
     replace R65:=R65.mono hl2268
     replace R75:=R75.mono hl2268
     refine .allocA zv34 r r fun b2285=>?_
     refine .storeA sz34 r r .z (.t (.t (.t (.t (.t .nil))))) r r (.nilS [15,14,13,12,7,6,4,3,0] r r (.seq (.dr [0,1,2,3,4,5,6,7,8,9,10,11] 12 (.fk 1 r (.g r r r (fun _=>.loadW ia34 sz34 r .z r r r .mk) (.g r r r (fun _=>.loadW ia37 sz37 r (.s (.s .z)) r r r .mk) (.fk 2 r (.ww r fun ex=>?_))))))))
     have hw2338:=W_ref18_Piece (I:=I2267) R75 hd
     refine .call call16 r hw2338 r r fun v2333 I2330 hl2331 hv2332=>?_
     obtain ⟨r2329,p2335,c2336,rfl,R2337,hd⟩:=hv2332
     have le2339:=IH.le.trans le2282 hl2331
     have le2340:=IH.le.trans le2283 hl2331
     have le2341:=IH.le.trans le2284 hl2331
     replace R59:=R59.mono hl2331
     replace R62:=R62.mono hl2331
     replace R65:=R65.mono hl2331
     replace R75:=R75.mono hl2331
     replace R2274:=R2274.mono hl2331
     replace R2277:=R2277.mono hl2331
     replace R2280:=R2280.mono hl2331
     refine .so 4 r r r (.cg r r r r (fun _=>.loadW ia34 sz34 r .z r r r .mk) (.ck 1 r r trivial)) (.ww r fun ex=>?_)
     have hw2354:=W_ref10_Of (I:=I2330) R2337 hd
     refine .call call79 r hw2354 r r fun v2346 I2343 hl2344 hv2345=>?_
     obtain ⟨r2342,p2348,c2349,p2351,c2352,rfl,R2350,R2353,hd⟩:=hv2345
     have le2355:=IH.le.trans le2339 hl2344
     have le2356:=IH.le.trans le2340 hl2344
     have le2357:=IH.le.trans le2341 hl2344
     replace R59:=R59.mono hl2344
     replace R62:=R62.mono hl2344
     replace R65:=R65.mono hl2344
     replace R75:=R75.mono hl2344
     replace R2274:=R2274.mono hl2344
     replace R2277:=R2277.mono hl2344
     replace R2280:=R2280.mono hl2344
     replace R2337:=R2337.mono hl2344
     refine .so 4 r r r (.cg r r r r (fun _=>.loadW ia34 sz34 r .z r r r .mk) (.ck 1 r r trivial)) (.ww r fun ex=>?_)
     have hw2367:=W_ref13_Sums (I:=I2343) R2274 R2277 R2280 R2350 R2353 (.nil _ none 0) hd
     refine .call call78 r hw2367 r r fun v2362 I2359 hl2360 hv2361=>?_
     obtain ⟨r2358,p2364,c2365,rfl,R2366,hd⟩:=hv2361
     have le2368:=IH.le.trans le2355 hl2360
     have le2369:=IH.le.trans le2356 hl2360
     have le2370:=IH.le.trans le2357 hl2360
     replace R59:=R59.mono hl2360
     replace R62:=R62.mono hl2360
     replace R65:=R65.mono hl2360
     replace R75:=R75.mono hl2360
     replace R2274:=R2274.mono hl2360
     replace R2277:=R2277.mono hl2360
     replace R2280:=R2280.mono hl2360
     replace R2337:=R2337.mono hl2360
     replace R2350:=R2350.mono hl2360
     replace R2353:=R2353.mono hl2360
     refine .so 4 r r r trivial (.fk 4 r (.e2 12 (.ks 1 r (.nilS [16,14,13,12,7,6,4,3,0] r r (.drop .z (.sr (.ks 1 r (.nilS [18,16,14,13,12,7,6,4,3,0] r r (.seq ?_)))))))))
     refine .sr (.ks 1 r (.nilS [19,18,16,14,13,12,7,6,4,3,0] r r (.block (.own0 eSum 80 (.loop hd (fun (s:(List Sum)×Int) c w=>match s with | (s2450,s2454)=>∃ I_ p2451 c2452,IH.le I2359 I_∧Ok ⟨98,[],none⟩ [(0,.int .i64 a0),(3,.int .i64 a3),(4,.int .i64 a4),(6,.pointer (some ⟨b20,0,none⟩)),(7,.pointer (some ⟨b22,0,none⟩)),(12,.slice p2234 s2233.length c2235),(13,.int .i64 s1686),(14,.int .i64 s2237),(16,.slice p2364 r2358.1.length c2365),(18,.slice p2451 s2450.length c2452),(19,.int .i64 s2454)] c∧Sym w0 M I I_ [pto b20 (.cells #[.int .i64 r51.Rows,.int .i64 r51.Cols,.slice p57 r51.Start.length c58,.slice p60 r51.Col.length c61,.slice p63 r51.Val.length c64] 34 (0,0)),pto b22 (.cells #[.int .i64 r67.N,.slice p73 r67.Items.length c74] 37 (0,0)),OwnSl (slEl eSum) 58 p2234 c2235 s2233,OwnSl eSum 80 p2451 c2452 s2450] w) (fun c w ho hs=>⟨I2359,_,_,(.refl _),ho.sub ⟨r,r,r,r,r,r,r,r,r,r,r,trivial⟩,hs.pick (.c (.s .z) (.c (.s .z) (.c (.s .z) (.c .z .n))))⟩) ?_)))))
     rintro ⟨s2450,s2454⟩ next2456 hd c w hst
     obtain ⟨I2457,p2451,c2452,hl2458,hok,hsym⟩:=hst
     have le2459:=IH.le.trans le2368 hl2458
     have le2460:=IH.le.trans le2369 hl2458
     have le2461:=IH.le.trans le2370 hl2458
     replace R59:=R59.mono hl2458
     replace R62:=R62.mono hl2458
     replace R65:=R65.mono hl2458
     replace R75:=R75.mono hl2458
     replace R2366:=R2366.mono hl2458
     refine Cod.at hok hsym (.seq (.sr (.ks 2 r (.len un58 r r r r (.ks 1 r (.nilS [66,19,18,16,14,13,12,7,6,4,3,0] r r (.condP r hd (fun hb2463 hd=>?_) fun hb2463 hd=>?_)))))))
     · refine .skipS [19,18,16,14,13,12,7,6,4,3,0] r r (.seq (.block (.ownF (.s (.s .z)) fun hne2464=>?_)))
       refine .ownF (.s (.s (.s .z))) fun hne2465=>?_
       refine .dr [0,1,2,3,4,5,6,7,8,9,12,13,14,15,16,10,11,17,18,19] 20 (.fk 3 r ?_)
       obtain ⟨h2466,x2467,hx2468,hd⟩:=hd
       obtain ⟨b2469,o2470,cs2471,e2472,hC2473,hr2474⟩:=R2366.2 _ _ hx2468
       cases hr2474
       refine .g r r r (fun _=>.ixa un58 sz80 r e2472 r h2466 (idx_lt hx2468 h2466) r r .mk) (.g r r r (fun _=>.fa un80 r sz3 r (o:=o2470+s2454.toNat*3) r r r .mk) (.g r r r (fun _=>.ld1 (j:=0) ia3 hC2473 r r r r r .mk) (.g r r r (fun _=>.fa un34 r sz3 r (o:=0) r r r .mk) (.g r r r (fun _=>.load1 ia3 r .z r r r .mk) (.fk 4 r ?_)))))
       obtain ⟨h2475,x2476,hx2477,hd⟩:=hd
       obtain ⟨b2478,o2479,cs2480,e2481,hC2482,hr2483⟩:=R2366.2 _ _ hx2477
       cases hr2483
       refine .g r r r (fun _=>.ixa un58 sz80 r e2481 r h2475 (idx_lt hx2477 h2475) r r .mk) (.g r r r (fun _=>.fa un80 r sz78 r (o:=o2479+s2454.toNat*3+1) r r r .mk) (.g r r r (fun _=>.ldA (j:=1) ia78 sz78 hC2482 r r (.s (.t (.t .nil))) r r r .mk) (.ww r fun ex=>?_)))
       have hw2485:=W_ref17_Low (I:=I2457) hd
       refine .callP call48 r hw2485 r r fun v2486 hv2487=>?_
       obtain ⟨r2484,rfl,hd⟩:=hv2487
       refine .so 4 r r r (.cg r r r r (fun _=>.ldA (j:=1) ia78 sz78 hC2482 r r (.s (.t (.t .nil))) r r r .mk) (.cg r r r r (fun _=>.fa un80 r sz78 r (o:=o2479+s2454.toNat*3+1) r r r .mk) (.cg r r r r (fun _=>.ixa un58 sz80 r e2481 r h2475 (idx_lt hx2477 h2475) r r .mk) (.ck 2 r r (.cg r r r r (fun _=>.ld1 (j:=0) ia3 hC2473 r r r r r .mk) (.cg r r r r (fun _=>.fa un80 r sz3 r (o:=o2470+s2454.toNat*3) r r r .mk) (.cg r r r r (fun _=>.ixa un58 sz80 r e2472 r h2466 (idx_lt hx2468 h2466) r r .mk) (.ck 3 r r trivial)))))))) (.fk 1 r (.g r r r (fun _=>.build zv80 un80 BI80 (.c r r r (.t .nil) (.c r r r (.s (.t (.t .nil))) .n)) (by exact ⟨⟨_,_,r,r,r⟩,⟨⟨_,_,r,r,r⟩,trivial⟩⟩) r r .mk) (.ww r fun ex=>?_)))
       refine .buildSlice 1 un58 sz80 zv80 r r (.c r r r .n) r r fun b2488=>?_
       refine .so 5 r r r (.ck 1 r r trivial) (.ww r fun ex=>?_)
       obtain ⟨hl2490,hd⟩:=hd
       refine .append (ys:=[({ At:=w64 (x2467.At+r2484),Val:=x2476.Val }:Sum)]) 24 (.s (.s (.s (.s .z)))) un58 un58 IN80 r r r r r r r r r (.box .z (.one r) r) hl2490 r r fun p2491 c2492=>?_
       exact .so 5 r r r trivial (.e2 20 (.ks 1 r (.nilS [18,19,16,14,13,12,7,6,4,3,0] r r (.drop (.s .z) (.region (.ks 3 r (.nil' fun c w ho hs=>⟨((s2450++([({ At:=w64 (x2467.At+r2484),Val:=x2476.Val }:Sum)])),w64 (s2454+1)),hd,I2457,_,_,hl2458,ho.sub ⟨r,r,r,r,r,r,r,r,r,r,r,trivial⟩,hs.pick (.c (.s .z) (.c (.s .z) (.c (.s .z) (.c .z .n))))⟩)))))))
     refine .exitS [18,14,13,12,7,6,4,3,0] r r (.region (.ks 2 r (.buildSlice 1 un106 sz58 zv58 r r (.c r r r .n) r r fun b2494=>?_)))
     refine .pub (.s (.s (.s (.s .z)))) fun I2496 hl2497 R2498=>?_
     have le2499:=IH.le.trans le2459 hl2497
     have le2500:=IH.le.trans le2460 hl2497
     have le2501:=IH.le.trans le2461 hl2497
     have le2502:=IH.le.trans hl2458 hl2497
     replace R59:=R59.mono hl2497
     replace R62:=R62.mono hl2497
     replace R65:=R65.mono hl2497
     replace R75:=R75.mono hl2497
     obtain ⟨hl2503,hd⟩:=hd
     refine .append (ys:=[s2450]) 24 (.s (.s (.s .z))) un106 un106 IN58 r r r r r r r r r (.box .z (.one ⟨_,_,r,R2498⟩) r) hl2503 r r fun p2504 c2505=>?_
     exact .ks 1 r (.nilS [12,14,13,7,6,4,3,0] r r (.drop (.s .z) (.region (.ks 3 r (.nil' fun c w ho hs=>⟨((s2233++([s2450])),w64 (s2237+1)),hd,I2496,_,_,le2501,ho.sub ⟨r,r,r,r,r,r,r,r,trivial⟩,hs.pick (.c (.s .z) (.c (.s .z) (.c .z .n)))⟩)))))
   exact .exitS [13,12,7,6,4,3,0] r r (.region (.ks 3 r (.nil' fun c w ho hs=>⟨(s2233,w64 (s1686+1)),hd,I2239,_,_,le2242,ho.sub ⟨r,r,r,r,r,r,r,trivial⟩,hs.pick (.c .z (.c .z (.c .z .n)))⟩)))
 refine .exitS [12,0] r r (.drop .z (.drop .z (.sr (.ks 2 r (.pub .z fun I2507 hl2508 R2509=>?_)))))
 have le2510:=IH.le.trans le1691 hl2508
 have le2511:=IH.le.trans hl1690 hl2508
 have hw2521:=W_ref14_Merge (I:=I2507) R2509 hd
 refine .call call80 r hw2521 r r fun v2516 I2513 hl2514 hv2515=>?_
 obtain ⟨r2512,p2518,c2519,rfl,R2520,hd⟩:=hv2515
 have le2522:=IH.le.trans le2510 hl2514
 have le2523:=IH.le.trans le2511 hl2514
 replace R2509:=R2509.mono hl2514
 exact .ks 4 r (.nilS [11,10] r r (.ret (pret results28 (.t r (.t r .n)) le2522 ⟨(r2512.1,r2512.2),_,_,r,R2520,hd⟩)))
theorem W_ref13_SameSums {I:IH} {a0:List Sum} {a1:List Sum} {p1:Option Addr} {c2:Nat} {p4:Option Addr} {c5:Nat} {Q:Bool→Prop} (R3:RepSl eSum I p1 c2 a0) (R6:RepSl eSum I p4 c5 a1) (hd:ref13_SameSums a0 a1 Q) :
  PFun prog 29 [.slice p1 a0.length c2,.slice p4 a1.length c5] I (fun _=>o1_ Q):=by
 refine Fun.enter func29 r ntmps29 r (.c (.c .n)) fun w0 M=>?_
 refine .sr (.ks 1 r (.nilS [1,0] r r (.seq (.sr (.ks 1 r (.len un58 r r r r (.ks 1 r (.len un58 r r r r (.ks 1 r ?_)))))))))
 refine .nilS [10,1,0] r r (.condP r hd (fun hb8 hd=>?_) fun hb8 hd=>?_)
 · exact .sr (.ks 1 r (.nilS [4] r r (.ret (pret results29 (.t r .n) (.refl _) ⟨false,r,hd⟩))))
 refine .skipS [1,0] r r (.seq (.sr (.ks 1 r (.nilS [5,1,0] r r (.block (.loop hd (fun (s54:Int) c w=>∃ I_,IH.le I I_∧Ok ⟨26,[],none⟩ [(0,.slice p1 a0.length c2),(1,.slice p4 a1.length c5),(5,.int .i64 s54)] c∧Sym w0 M I I_ [] w) (fun c w ho hs=>⟨I,(.refl _),ho.sub ⟨r,r,r,trivial⟩,hs.pick .n⟩) ?_))))))
 rintro s54 next55 hd c w hst
 obtain ⟨I56,hl57,hok,hsym⟩:=hst
 replace R3:=R3.mono hl57
 replace R6:=R6.mono hl57
 refine Cod.at hok hsym (.seq (.sr (.ks 2 r (.len un58 r r r r (.ks 1 r (.nilS [14,5,1,0] r r (.condP r hd (fun hb59 hd=>?_) fun hb59 hd=>?_)))))))
 · refine .skipS [5,1,0] r r (.seq (.block (.seq (.dr [0,1,2,3,4,5,6,7,8] 9 (.fk 2 r ?_)))))
   obtain ⟨h60,x61,hx62,hd⟩:=hd
   obtain ⟨b63,o64,cs65,e66,hC67,hr68⟩:=R3.2 _ _ hx62
   cases hr68
   refine .g r r r (fun _=>.ixa un58 sz80 r e66 r h60 (idx_lt hx62 h60) r r .mk) (.g r r r (fun _=>.ldW isAgg80 sz80 hC67 r r r r .mk) (.fk 2 r ?_))
   obtain ⟨h69,x70,hx71,hd⟩:=hd
   obtain ⟨b72,o73,cs74,e75,hC76,hr77⟩:=R6.2 _ _ hx71
   cases hr77
   refine .g r r r (fun _=>.ixa un58 sz80 r e75 r h69 (idx_lt hx71 h69) r r .mk) (.g r r r (fun _=>.ldW isAgg80 sz80 hC76 r r r r .mk) (.g r r r (fun _=>.neV r r (EQ80 x61 x70) (EG80 _ _ _ _ _) r r r .mk) (.e2 9 (.nilS [25,5,1,0] r r (.condP r hd (fun hb78 hd=>?_) fun hb78 hd=>?_)))))
   · exact .sr (.ks 1 r (.nilS [4] r r (.ret (pret results29 (.t r .n) hl57 ⟨false,r,hd⟩))))
   exact .skipS [5,1,0] r r (.region (.ks 3 r (.nil' fun c w ho hs=>⟨(w64 (s54+1)),hd,I56,hl57,ho.sub ⟨r,r,r,trivial⟩,hs.pick .n⟩)))
 exact .exitS [] r r (.sr (.ks 1 r (.nilS [4] r r (.ret (pret results29 (.t r .n) hl57 ⟨true,r,hd⟩)))))
theorem W_ref07_Turn {I:IH} {a0:Rows} {p1:Option Addr} {c2:Nat} {p4:Option Addr} {c5:Nat} {p7:Option Addr} {c8:Nat} {Q:Rows→Prop} (R3:RepSl eI64 I p1 c2 a0.Start) (R6:RepSl eI64 I p4 c5 a0.Col) (R9:RepSl eI64 I p7 c8 a0.Val) (hd:ref07_Turn a0 Q) :
  PFun prog 84 [.agg #[.int .i64 a0.Rows,.int .i64 a0.Cols,.slice p1 a0.Start.length c2,.slice p4 a0.Col.length c5,.slice p7 a0.Val.length c8]] I (o9_ Q):=by
 refine Fun.enter func84 r ntmps84 r (.c .n) fun w0 M=>?_
 refine .sr (.boxA r r r fun b23=>?_)
 refine .allocA zv34 r r fun b25=>?_
 refine .nilS [2,1] r r (.sr (.loadW ia34 sz34 r (.s .z) r r r ?_))
 have hw58:=W_ref07_Sure (I:=I) R3 R6 R9 hd
 refine .call call76 r hw58 r r fun v47 I44 hl45 hv46=>?_
 obtain ⟨r43,p49,c50,p52,c53,p55,c56,rfl,R51,R54,R57,hd⟩:=hv46
 replace R3:=R3.mono hl45
 replace R6:=R6.mono hl45
 replace R9:=R9.mono hl45
 refine .storeA sz34 r r (.s .z) (.t (.t (.t (.t (.t .nil))))) r r (.nilS [2,1] r r (.sr (.loadW ia34 sz34 r (.s .z) r r r ?_)))
 have hw79:=W_ref07_Triples (I:=I44) R51 R54 R57 hd
 refine .call call68 r hw79 r r fun v74 I71 hl72 hv73=>?_
 obtain ⟨r70,p76,c77,rfl,R78,hd⟩:=hv73
 have le80:=IH.le.trans hl45 hl72
 replace R51:=R51.mono hl72
 replace R54:=R54.mono hl72
 replace R57:=R57.mono hl72
 refine .ks 1 r (.nilS [3,2,1] r r (.sr (.ks 1 r (.nilS [4,3,2,1] r r (.seq (.sr (.ks 1 r (.nilS [5,4,3,2,1] r r (.block ?_)))))))))
 refine .own0 eTriple 75 (.loop hd (fun (s:(List Triple)×Int) c w=>match s with | (s425,s429)=>∃ I_ p426 c427,IH.le I71 I_∧Ok ⟨51,[],none⟩ [(1,.pointer (some ⟨b23,0,none⟩)),(2,.pointer (some ⟨b25,0,none⟩)),(3,.slice p76 r70.length c77),(4,.slice p426 s425.length c427),(5,.int .i64 s429)] c∧Sym w0 M I I_ [pto b23 (.cells #[.int .i64 r43.Rows,.int .i64 r43.Cols,.slice p49 r43.Start.length c50,.slice p52 r43.Col.length c53,.slice p55 r43.Val.length c56] 34 (0,0)),pto b25 (.cells #[.int .i64 0,.int .i64 0,.slice none 0 0,.slice none 0 0,.slice none 0 0] 34 (0,0)),OwnSl eTriple 75 p426 c427 s425] w) (fun c w ho hs=>⟨I71,_,_,(.refl _),ho.sub ⟨r,r,r,r,r,trivial⟩,hs.pick (.c (.s (.s .z)) (.c (.s .z) (.c .z .n)))⟩) ?_)
 rintro ⟨s425,s429⟩ next431 hd c w hst
 obtain ⟨I432,p426,c427,hl433,hok,hsym⟩:=hst
 have le434:=IH.le.trans le80 hl433
 replace R51:=R51.mono hl433
 replace R54:=R54.mono hl433
 replace R57:=R57.mono hl433
 replace R78:=R78.mono hl433
 refine Cod.at hok hsym (.seq (.sr (.ks 1 r (.fa un34 r sz3 r (o:=1) r r r (.load1 ia3 r .z r r r (.ks 1 r (.nilS [14,5,4,3,2,1] r r (.condP r hd (fun hb436 hd=>?_) fun hb436 hd=>?_))))))))
 · refine .skipS [5,4,3,2,1] r r (.seq (.block (.sr (.ks 1 r (.nilS [6,5,4,3,2,1] r r (.block (.loop hd (fun (s:(List Triple)×Int) c w=>match s with | (s544,s548)=>∃ I_ p545 c546,IH.le I432 I_∧Ok ⟨51,[],none⟩ [(1,.pointer (some ⟨b23,0,none⟩)),(2,.pointer (some ⟨b25,0,none⟩)),(3,.slice p76 r70.length c77),(4,.slice p545 s544.length c546),(5,.int .i64 s429),(6,.int .i64 s548)] c∧Sym w0 M I I_ [pto b23 (.cells #[.int .i64 r43.Rows,.int .i64 r43.Cols,.slice p49 r43.Start.length c50,.slice p52 r43.Col.length c53,.slice p55 r43.Val.length c56] 34 (0,0)),pto b25 (.cells #[.int .i64 0,.int .i64 0,.slice none 0 0,.slice none 0 0,.slice none 0 0] 34 (0,0)),OwnSl eTriple 75 p545 c546 s544] w) (fun c w ho hs=>⟨I432,_,_,(.refl _),ho.sub ⟨r,r,r,r,r,r,trivial⟩,hs.pick (.c .z (.c .z (.c .z .n)))⟩) ?_)))))))
   rintro ⟨s544,s548⟩ next549 hd c w hst
   obtain ⟨I550,p545,c546,hl551,hok,hsym⟩:=hst
   have le552:=IH.le.trans le434 hl551
   have le553:=IH.le.trans hl433 hl551
   replace R51:=R51.mono hl551
   replace R54:=R54.mono hl551
   replace R57:=R57.mono hl551
   replace R78:=R78.mono hl551
   refine Cod.at hok hsym (.seq (.sr (.ks 2 r (.len un24 r r r r (.ks 1 r (.nilS [20,6,5,4,3,2,1] r r (.condP r hd (fun hb555 hd=>?_) fun hb555 hd=>?_)))))))
   · refine .skipS [6,5,4,3,2,1] r r (.seq (.block (.sr (.ks 2 r ?_))))
     obtain ⟨h565,x566,hx567,hd⟩:=hd
     obtain ⟨b568,o569,cs570,e571,hC572,hr573⟩:=R78.2 _ _ hx567
     cases hr573
     refine .ixa un24 sz75 r e571 r h565 (idx_lt hx567 h565) r r (.fa un75 r sz3 r (o:=o569+s548.toNat*3+1) r r r (.ld1 (j:=1) ia3 hC572 r r r r r (.ks 2 r (.nilS [29,6,5,4,3,2,1] r r (.condP r hd (fun hb574 hd=>?_) fun hb574 hd=>?_)))))
     · refine .ownF (.s (.s .z)) fun hne575=>?_
       refine .dr [0,1,2,3,4,5,6,7,8,9,10,11,12,13,14] 15 (.fk 4 r ?_)
       obtain ⟨h576,x577,hx578,hd⟩:=hd
       obtain ⟨b579,o580,cs581,e582,hC583,hr584⟩:=R78.2 _ _ hx578
       cases hr584
       refine .g r r r (fun _=>.ixa un24 sz75 r e582 r h576 (idx_lt hx578 h576) r r .mk) (.g r r r (fun _=>.fa un75 r sz3 r (o:=o580+s548.toNat*3) r r r .mk) (.g r r r (fun _=>.ld1 (j:=0) ia3 hC583 r r r r r .mk) (.fk 2 r ?_)))
       obtain ⟨h585,x586,hx587,hd⟩:=hd
       obtain ⟨b588,o589,cs590,e591,hC592,hr593⟩:=R78.2 _ _ hx587
       cases hr593
       refine .g r r r (fun _=>.ixa un24 sz75 r e591 r h585 (idx_lt hx587 h585) r r .mk) (.g r r r (fun _=>.fa un75 r sz2 r (o:=o589+s548.toNat*3+2) r r r .mk) (.g r r r (fun _=>.ld1 (j:=2) ia2 hC592 r r r r r .mk) (.g r r r (fun _=>.build zv75 un75 BI75 (.c r r r (.t .nil) (.c r r r (.s (.t .nil)) (.c r r r (.s (.s (.t .nil))) .n))) (by exact ⟨⟨_,_,r,r,r⟩,⟨⟨_,_,r,r,r⟩,⟨⟨_,_,r,r,r⟩,trivial⟩⟩⟩) r r .mk) (.ww r fun ex=>?_))))
       refine .buildSlice 1 un24 sz75 zv75 r r (.c r r r .n) r r fun b594=>?_
       refine .so 4 r r r (.ck 1 r r trivial) (.ww r fun ex=>?_)
       obtain ⟨hl596,hd⟩:=hd
       refine .append (ys:=[({ Row:=s429,Col:=x577.Row,Val:=x586.Val }:Triple)]) 24 (.s (.s (.s .z))) un24 un24 IN75 r r r r r r r r r (.box .z (.one r) r) hl596 r r fun p597 c598=>?_
       exact .so 4 r r r trivial (.e2 15 (.ks 1 r (.nilS [4,6,5,3,2,1] r r (.drop (.s .z) (.region (.ks 3 r (.nil' fun c w ho hs=>⟨((s544++([({ Row:=s429,Col:=x577.Row,Val:=x586.Val }:Triple)])),w64 (s548+1)),hd,I550,_,_,hl551,ho.sub ⟨r,r,r,r,r,r,trivial⟩,hs.pick (.c (.s .z) (.c (.s .z) (.c .z .n)))⟩)))))))
     exact .skipS [6,5,4,3,2,1] r r (.region (.ks 3 r (.nil' fun c w ho hs=>⟨(s544,w64 (s548+1)),hd,I550,_,_,hl551,ho.sub ⟨r,r,r,r,r,r,trivial⟩,hs.pick (.c .z (.c .z (.c .z .n)))⟩)))
   exact .exitS [5,4,3,2,1] r r (.region (.ks 3 r (.nil' fun c w ho hs=>⟨(s544,w64 (s429+1)),hd,I550,_,_,le553,ho.sub ⟨r,r,r,r,r,trivial⟩,hs.pick (.c .z (.c .z (.c .z .n)))⟩)))
 refine .exitS [4,2,1] r r (.sr (.fa un34 r sz3 r (o:=1) r r r (.load1 ia3 r .z r r r (.fa un34 r sz3 r (o:=0) r r r (.load1 ia3 r .z r r r (.ks 1 r (.pub (.s (.s .z)) fun I600 hl601 R602=>?_)))))))
 have le603:=IH.le.trans le434 hl601
 have le604:=IH.le.trans hl433 hl601
 replace R51:=R51.mono hl601
 replace R54:=R54.mono hl601
 replace R57:=R57.mono hl601
 have hw620:=W_ref07_built (I:=I600) R602 hd
 refine .call call89 r hw620 r r fun v609 I606 hl607 hv608=>?_
 obtain ⟨r605,p611,c612,p614,c615,p617,c618,rfl,R613,R616,R619,hd⟩:=hv608
 have le621:=IH.le.trans le603 hl607
 have le622:=IH.le.trans le604 hl607
 replace R51:=R51.mono hl607
 replace R54:=R54.mono hl607
 replace R57:=R57.mono hl607
 replace R602:=R602.mono hl607
 exact .storeA sz34 r r (.s .z) (.t (.t (.t (.t (.t .nil))))) r r (.nilS [2] r r (.drop .z (.ret (pret results84 (.w ia34 sz34 r .z r .n) le621 ⟨r605,_,_,_,_,_,_,r,R613,R616,R619,hd⟩))))
theorem W_ref07_Row {I:IH} {a0:Rows} {a1:Int} {p1:Option Addr} {c2:Nat} {p4:Option Addr} {c5:Nat} {p7:Option Addr} {c8:Nat} {Q:(List Item)→Prop} (R3:RepSl eI64 I p1 c2 a0.Start) (R6:RepSl eI64 I p4 c5 a0.Col) (R9:RepSl eI64 I p7 c8 a0.Val) (hd:ref07_Row a0 a1 Q) :
  PFun prog 85 [.agg #[.int .i64 a0.Rows,.int .i64 a0.Cols,.slice p1 a0.Start.length c2,.slice p4 a0.Col.length c5,.slice p7 a0.Val.length c8],.int .i64 a1] I (o11_ Q):=by
 refine Fun.enter func85 r ntmps85 r (.c (.c .n)) fun w0 M=>?_
 refine .sr (.boxA r r r fun b15=>?_)
 refine .ks 1 r (.nilS [2,1] r r (.sr (.loadW ia34 sz34 r .z r r r ?_)))
 have hw48:=W_ref07_Sure (I:=I) R3 R6 R9 hd
 refine .call call76 r hw48 r r fun v37 I34 hl35 hv36=>?_
 obtain ⟨r33,p39,c40,p42,c43,p45,c46,rfl,R41,R44,R47,hd⟩:=hv36
 replace R3:=R3.mono hl35
 replace R6:=R6.mono hl35
 replace R9:=R9.mono hl35
 refine .storeA sz34 r r .z (.t (.t (.t (.t (.t .nil))))) r r (.nilS [2,1] r r (.sr (.ks 1 r (.nilS [5,2,1] r r (.seq (.sr (.ks 3 r ?_)))))))
 refine splitP hd (fun hb51 hd=>?_) fun hb51 hd=>?_
 · rw [hb51]
   exact .ks 5 r (.nilS [16,5,2,1] r r (.condKT r r (.sr (.ks 2 r (.nilS [4] r r (.drop .z (.ret (pret results85 (.t r .n) hl35 ⟨([]:List Item),_,_,r,(.nil _ _ _),hd⟩))))))))
 rw [hb51]
 refine .ks 1 r (.gyes r r r (.fa un34 r sz3 r (o:=0) r r r (.gyes r r r (.load1 ia3 r .z r r r (.ks 2 r (.nilS [16,5,2,1] r r (.condP r hd (fun hb52 hd=>?_) fun hb52 hd=>?_)))))))
 · exact .sr (.ks 2 r (.nilS [4] r r (.drop .z (.ret (pret results85 (.t r .n) hl35 ⟨([]:List Item),_,_,r,(.nil _ _ _),hd⟩)))))
 refine .skipS [5,2,1] r r (.seq (.sr (.fa un34 r sz31 r (o:=2) r r r (.load1 ia31 r .z r r r (.ks 1 r ?_)))))
 obtain ⟨h62,x63,hx64,hd⟩:=hd
 obtain ⟨b65,o66,cs67,e68,hC69,hr70⟩:=R41.2 _ _ hx64
 cases hr70
 refine .ixa un31 sz3 r e68 r h62 (idx_lt hx64 h62) r r (.ld1 (j:=0) ia3 hC69 r r r r r (.ks 1 r (.nilS [6,5,2,1] r r (.block (.own0 eItem 72 (.loop hd (fun (s:(List Item)×Int) c w=>match s with | (s176,s180)=>∃ I_ p177 c178,IH.le I34 I_∧Ok ⟨48,[],none⟩ [(1,.int .i64 a1),(2,.pointer (some ⟨b15,0,none⟩)),(5,.slice p177 s176.length c178),(6,.int .i64 s180)] c∧Sym w0 M I I_ [pto b15 (.cells #[.int .i64 r33.Rows,.int .i64 r33.Cols,.slice p39 r33.Start.length c40,.slice p42 r33.Col.length c43,.slice p45 r33.Val.length c46] 34 (0,0)),OwnSl eItem 72 p177 c178 s176] w) (fun c w ho hs=>⟨I34,_,_,(.refl _),ho.sub ⟨r,r,r,r,trivial⟩,hs.pick (.c (.s .z) (.c .z .n))⟩) ?_))))))
 rintro ⟨s176,s180⟩ next182 hd c w hst
 obtain ⟨I183,p177,c178,hl184,hok,hsym⟩:=hst
 have le185:=IH.le.trans hl35 hl184
 replace R41:=R41.mono hl184
 replace R44:=R44.mono hl184
 replace R47:=R47.mono hl184
 refine Cod.at hok hsym (.seq (.sr (.ks 1 r (.fa un34 r sz31 r (o:=2) r r r (.load1 ia31 r .z r r r (.ks 2 r ?_))))))
 obtain ⟨h196,x197,hx198,hd⟩:=hd
 obtain ⟨b199,o200,cs201,e202,hC203,hr204⟩:=R41.2 _ _ hx198
 cases hr204
 refine .ixa un31 sz3 r e202 r h196 (idx_lt hx198 h196) r r (.ld1 (j:=0) ia3 hC203 r r r r r (.ks 1 r (.nilS [30,6,5,2,1] r r (.condP r hd (fun hb205 hd=>?_) fun hb205 hd=>?_))))
 · refine .skipS [6,5,2,1] r r (.seq (.block (.ownF (.s .z) fun hne206=>?_)))
   refine .dr [0,1,2,3,4,5,6,7,8,9,10,11,12,13] 14 (.fk 1 r (.g r r r (fun _=>.fa un34 r sz31 r (o:=3) r r r .mk) (.g r r r (fun _=>.load1 ia31 r .z r r r .mk) (.fk 1 r ?_))))
   obtain ⟨h207,x208,hx209,hd⟩:=hd
   obtain ⟨b210,o211,cs212,e213,hC214,hr215⟩:=R44.2 _ _ hx209
   cases hr215
   refine .g r r r (fun _=>.ixa un31 sz3 r e213 r h207 (idx_lt hx209 h207) r r .mk) (.g r r r (fun _=>.ld1 (j:=0) ia3 hC214 r r r r r .mk) (.g r r r (fun _=>.fa un34 r sz32 r (o:=4) r r r .mk) (.g r r r (fun _=>.load1 ia32 r .z r r r .mk) (.fk 1 r ?_))))
   obtain ⟨h216,x217,hx218,hd⟩:=hd
   obtain ⟨b219,o220,cs221,e222,hC223,hr224⟩:=R47.2 _ _ hx218
   cases hr224
   refine .g r r r (fun _=>.ixa un32 sz2 r e222 r h216 (idx_lt hx218 h216) r r .mk) (.g r r r (fun _=>.ld1 (j:=0) ia2 hC223 r r r r r .mk) (.g r r r (fun _=>.build zv72 un72 BI72 (.c r r r (.t .nil) (.c r r r (.s (.t .nil)) .n)) (by exact ⟨⟨_,_,r,r,r⟩,⟨⟨_,_,r,r,r⟩,trivial⟩⟩) r r .mk) (.ww r fun ex=>?_)))
   refine .buildSlice 1 un25 sz72 zv72 r r (.c r r r .n) r r fun b225=>?_
   refine .so 3 r r r (.ck 1 r r trivial) (.ww r fun ex=>?_)
   obtain ⟨hl227,hd⟩:=hd
   refine .append (ys:=[({ At:=x208,Val:=x217 }:Item)]) 16 (.s (.s .z)) un25 un25 IN72 r r r r r r r r r (.box .z (.one r) r) hl227 r r fun p228 c229=>?_
   exact .so 3 r r r trivial (.e2 14 (.ks 1 r (.nilS [5,6,2,1] r r (.drop (.s .z) (.region (.ks 3 r (.nil' fun c w ho hs=>⟨((s176++([({ At:=x208,Val:=x217 }:Item)])),w64 (s180+1)),hd,I183,_,_,hl184,ho.sub ⟨r,r,r,r,trivial⟩,hs.pick (.c (.s .z) (.c .z .n))⟩)))))))
 refine .exitS [5] r r (.drop .z (.sr (.ks 2 r (.nilS [4] r r (.pub .z fun I231 hl232 R233=>?_)))))
 have le234:=IH.le.trans le185 hl232
 have le235:=IH.le.trans hl184 hl232
 exact .ret (pret results85 (.t r .n) le234 ⟨s176,_,_,r,R233,hd⟩)
theorem W_ref08_Of {I:IH} {a0:Rows} {p1:Option Addr} {c2:Nat} {p4:Option Addr} {c5:Nat} {p7:Option Addr} {c8:Nat} {Q:Columns→Prop} (R3:RepSl eI64 I p1 c2 a0.Start) (R6:RepSl eI64 I p4 c5 a0.Col) (R9:RepSl eI64 I p7 c8 a0.Val) (hd:ref08_Of a0 Q) :
  PFun prog 31 [.agg #[.int .i64 a0.Rows,.int .i64 a0.Cols,.slice p1 a0.Start.length c2,.slice p4 a0.Col.length c5,.slice p7 a0.Val.length c8]] I (o15_ Q):=by
 refine Fun.enter func31 r ntmps31 r (.c .n) fun w0 M=>?_
 refine .sr (.boxA r r r fun b26=>?_)
 refine .allocA zv64 r r fun b28=>?_
 refine .nilS [2,1] r r (.sr (.loadW ia34 sz34 r (.s .z) r r r ?_))
 have hw63:=W_ref07_Turn (I:=I) R3 R6 R9 hd
 refine .call call84 r hw63 r r fun v52 I49 hl50 hv51=>?_
 obtain ⟨r48,p54,c55,p57,c58,p60,c61,rfl,R56,R59,R62,hd⟩:=hv51
 replace R3:=R3.mono hl50
 replace R6:=R6.mono hl50
 replace R9:=R9.mono hl50
 refine .allocA zv34 r r fun b64=>?_
 refine .storeA sz34 r r .z (.t (.t (.t (.t (.t .nil))))) r r (.nilS [3,2] r r (.drop (.s (.s .z)) (.sr (.fa un34 r sz3 r (o:=1) r r r (.load1 ia3 r .z r r r (.fa un34 r sz3 r (o:=0) r r r (.load1 ia3 r .z r r r (.buildSlice 1 un31 sz3 zv3 r r (.c r r r .n) r r fun b71=>?_))))))))
 refine .ownB (El:=eI64) (ys:=([0]:List Int)) .z (.one r) r (.build zv64 un64 BI64 (.c r r r (.t .nil) (.c r r r (.s (.t .nil)) (.c r r r (.s (.s (.s (.t .nil)))) .n))) (by exact ⟨⟨_,_,r,r,r⟩,⟨⟨_,_,r,r,r⟩,⟨⟨_,_,r,r,r⟩,trivial⟩⟩⟩) r r (.allocA zv64 r r fun b74=>?_))
 refine .storeA sz64 r r .z (.t (.t (.t (.t (.t (.t .nil)))))) r r (.nilS [4,3,2] r r (.seq (.sr (.ks 1 r (.nilS [5,4,3,2] r r (.block (.own0 eI64 3 (.own0 eI64 3 (.own0 eI64 2 ?_)))))))))
 refine .loop hd (fun (s:(List Int)×(List Int)×(List Int)×(List Int)×Int) c w=>match s with | (s644,s648,s652,s656,s660)=>∃ I_ p645 c646 p649 c650 p653 c654 p657 c658,IH.le I49 I_∧Ok ⟨69,[],none⟩ [(2,.pointer (some ⟨b28,0,none⟩)),(3,.pointer (some ⟨b64,0,none⟩)),(4,.pointer (some ⟨b74,0,none⟩)),(5,.int .i64 s660)] c∧Sym w0 M I I_ [pto b28 (.cells #[.int .i64 0,.int .i64 0,.slice none 0 0,.slice none 0 0,.slice none 0 0,.slice none 0 0] 64 (0,0)),pto b64 (.cells #[.int .i64 r48.Rows,.int .i64 r48.Cols,.slice p54 r48.Start.length c55,.slice p57 r48.Col.length c58,.slice p60 r48.Val.length c61] 34 (0,0)),pto b74 (.cells #[.int .i64 r48.Cols,.int .i64 r48.Rows,.slice p645 s644.length c646,.slice p649 s648.length c650,.slice p653 s652.length c654,.slice p657 s656.length c658] 64 (0,0)),OwnSl eI64 3 p645 c646 s644,OwnSl eI64 3 p649 c650 s648,OwnSl eI64 3 p653 c654 s652,OwnSl eI64 2 p657 c658 s656] w) (fun c w ho hs=>⟨I49,_,_,_,_,_,_,_,_,(.refl _),ho.sub ⟨r,r,r,r,trivial⟩,hs.pick (.c (.s (.s (.s (.s (.s (.s .z)))))) (.c (.s (.s (.s (.s (.s .z))))) (.c (.s (.s (.s .z))) (.c (.s (.s .z)) (.c (.s (.s .z)) (.c (.s .z) (.c .z .n)))))))⟩) ?_
 rintro ⟨s644,s648,s652,s656,s660⟩ next664 hd c w hst
 obtain ⟨I665,p645,c646,p649,c650,p653,c654,p657,c658,hl666,hok,hsym⟩:=hst
 have le667:=IH.le.trans hl50 hl666
 replace R56:=R56.mono hl666
 replace R59:=R59.mono hl666
 replace R62:=R62.mono hl666
 refine Cod.at hok hsym (.seq (.sr (.ks 1 r (.fa un34 r sz3 r (o:=0) r r r (.load1 ia3 r (.s .z) r r r (.ks 1 r (.nilS [19,5,4,3,2] r r (.condP r hd (fun hb669 hd=>?_) fun hb669 hd=>?_))))))))
 · refine .skipS [5,4,3,2] r r (.seq (.block (.sr (.loadW ia34 sz34 r (.s .z) r r r (.ks 1 r ?_)))))
   have hw691:=W_ref07_Row (I:=I665) R56 R59 R62 hd
   refine .call call85 r hw691 r r fun v686 I683 hl684 hv685=>?_
   obtain ⟨r682,p688,c689,rfl,R690,hd⟩:=hv685
   have le692:=IH.le.trans le667 hl684
   have le693:=IH.le.trans hl666 hl684
   replace R56:=R56.mono hl684
   replace R59:=R59.mono hl684
   replace R62:=R62.mono hl684
   refine .ks 1 r (.nilS [6,5,4,3,2] r r (.seq (.sr (.ks 1 r (.len un25 r r r r (.ks 1 r (.nilS [27,6,5,4,3,2] r r (.condP r hd (fun hb695 hd=>?_) fun hb695 hd=>?_))))))))
   · exact .exitS [5,4,3,2] r r (.region (.ks 3 r (.nil' fun c w ho hs=>⟨(s644,s648,s652,s656,w64 (s660+1)),hd,I683,_,_,_,_,_,_,_,_,le693,ho.sub ⟨r,r,r,r,trivial⟩,hs.pick (.c .z (.c .z (.c .z (.c .z (.c .z (.c .z (.c .z .n)))))))⟩)))
   refine .skipS [6,5,4,3,2] r r (.sr (.fa un64 r sz31 r (o:=2) r r r (.load1 ia31 r (.s (.s .z)) r r r (.ks 1 r (.buildSlice 1 un31 sz3 zv3 r r (.c r r r .n) r r fun b702=>?_)))))
   obtain ⟨hl704,hd⟩:=hd
   refine .append (ys:=[s660]) 8 (.s (.s (.s (.s .z)))) un31 un31 IN3 r r r r r r r r r (.box .z (.one r) r) hl704 r r fun p705 c706=>?_
   refine .fa un64 r sz31 r (o:=2) r r r (.store1 sz31 r r (.s (.s (.s (.s .z)))) (.s (.s (.t .nil))) r (.nilS [6,5,4,3,2] r r (.drop (.s .z) (.seq (.sr (.ks 1 r (.nilS [7,6,5,4,3,2] r r (.block (.loop hd (fun (s:(List Int)×(List Int)×Int) c w=>match s with | (s853,s857,s861)=>∃ I_ p854 c855 p858 c859,IH.le I683 I_∧Ok ⟨69,[],none⟩ [(2,.pointer (some ⟨b28,0,none⟩)),(3,.pointer (some ⟨b64,0,none⟩)),(4,.pointer (some ⟨b74,0,none⟩)),(5,.int .i64 s660),(6,.slice p688 r682.length c689),(7,.int .i64 s861)] c∧Sym w0 M I I_ [pto b28 (.cells #[.int .i64 0,.int .i64 0,.slice none 0 0,.slice none 0 0,.slice none 0 0,.slice none 0 0] 64 (0,0)),pto b64 (.cells #[.int .i64 r48.Rows,.int .i64 r48.Cols,.slice p54 r48.Start.length c55,.slice p57 r48.Col.length c58,.slice p60 r48.Val.length c61] 34 (0,0)),pto b74 (.cells #[.int .i64 r48.Cols,.int .i64 r48.Rows,.slice p705 (s644++([s660])).length c706,.slice p649 s648.length c650,.slice p854 s853.length c855,.slice p858 s857.length c859] 64 (0,0)),OwnSl eI64 3 p705 c706 (s644++([s660])),OwnSl eI64 3 p649 c650 s648,OwnSl eI64 3 p854 c855 s853,OwnSl eI64 2 p858 c859 s857] w) (fun c w ho hs=>⟨I683,_,_,_,_,(.refl _),ho.sub ⟨r,r,r,r,r,r,trivial⟩,hs.pick (.c (.s .z) (.c (.s .z) (.c (.s .z) (.c .z (.c .z (.c .z (.c .z .n)))))))⟩) ?_)))))))))
   rintro ⟨s853,s857,s861⟩ next862 hd c w hst
   obtain ⟨I863,p854,c855,p858,c859,hl864,hok,hsym⟩:=hst
   have le865:=IH.le.trans le692 hl864
   have le866:=IH.le.trans le693 hl864
   replace R56:=R56.mono hl864
   replace R59:=R59.mono hl864
   replace R62:=R62.mono hl864
   replace R690:=R690.mono hl864
   refine Cod.at hok hsym (.seq (.sr (.ks 2 r (.len un25 r r r r (.ks 1 r (.nilS [37,7,6,5,4,3,2] r r (.condP r hd (fun hb868 hd=>?_) fun hb868 hd=>?_)))))))
   · refine .skipS [7,6,5,4,3,2] r r (.seq (.block (.seq (.ownF (.s (.s (.s .z))) fun hne888=>?_))))
     refine .ownF (.s (.s (.s (.s .z)))) fun hne889=>?_
     refine .ownF (.s (.s (.s (.s (.s .z))))) fun hne890=>?_
     refine .ownF (.s (.s (.s (.s (.s (.s .z)))))) fun hne891=>?_
     refine .dr [0,1,2,3,4,5,6,7,8] 9 (.g r r r (fun _=>.fa un64 r sz31 r (o:=4) r r r .mk) (.g r r r (fun _=>.load1 ia31 r (.s (.s .z)) r r r .mk) (.fk 2 r ?_)))
     obtain ⟨h892,x893,hx894,hd⟩:=hd
     obtain ⟨b895,o896,cs897,e898,hC899,hr900⟩:=R690.2 _ _ hx894
     cases hr900
     refine .g r r r (fun _=>.ixa un25 sz72 r e898 r h892 (idx_lt hx894 h892) r r .mk) (.g r r r (fun _=>.fa un72 r sz3 r (o:=o896+s861.toNat*2) r r r .mk) (.g r r r (fun _=>.ld1 (j:=0) ia3 hC899 r r r r r .mk) (.ww r fun ex=>?_)))
     refine .buildSlice 1 un31 sz3 zv3 r r (.c r r r .n) r r fun b901=>?_
     refine .so 8 r r r (.cg r r r r (fun _=>.load1 ia31 r (.s (.s (.s .z))) r r r .mk) (.cg r r r r (fun _=>.fa un64 r sz31 r (o:=4) r r r .mk) trivial)) (.ww r fun ex=>?_)
     obtain ⟨hl903,hd⟩:=hd
     refine .append (ys:=[x893.At]) 8 (.s (.s (.s (.s (.s (.s .z)))))) un31 un31 IN3 r r r r r r r r r (.box .z (.one r) r) hl903 r r fun p904 c905=>?_
     refine .so 8 r r r trivial (.e2 9 (.fa un64 r sz31 r (o:=4) r r r (.store1 sz31 r r (.s (.s (.s (.s .z)))) (.s (.s (.s (.s (.t .nil))))) r (.nilS [7,6,5,4,3,2] r r (.drop (.s .z) (.ownF .z fun hne907=>?_))))))
     refine .ownF (.s (.s (.s (.s .z)))) fun hne908=>?_
     refine .ownF (.s (.s (.s (.s (.s .z))))) fun hne909=>?_
     refine .ownF (.s (.s (.s (.s (.s (.s .z)))))) fun hne910=>?_
     refine .dr [0,1,2,3,4,5,6,7,8] 9 (.g r r r (fun _=>.fa un64 r sz32 r (o:=5) r r r .mk) (.g r r r (fun _=>.load1 ia32 r (.s (.s (.s .z))) r r r .mk) (.fk 2 r ?_)))
     obtain ⟨h911,x912,hx913,hd⟩:=hd
     obtain ⟨b914,o915,cs916,e917,hC918,hr919⟩:=R690.2 _ _ hx913
     cases hr919
     refine .g r r r (fun _=>.ixa un25 sz72 r e917 r h911 (idx_lt hx913 h911) r r .mk) (.g r r r (fun _=>.fa un72 r sz2 r (o:=o915+s861.toNat*2+1) r r r .mk) (.g r r r (fun _=>.ld1 (j:=1) ia2 hC918 r r r r r .mk) (.ww r fun ex=>?_)))
     refine .buildSlice 1 un32 sz2 zeroValue2 r r (.c r r r .n) r r fun b920=>?_
     refine .so 8 r r r (.cg r r r r (fun _=>.load1 ia32 r (.s (.s (.s (.s .z)))) r r r .mk) (.cg r r r r (fun _=>.fa un64 r sz32 r (o:=5) r r r .mk) trivial)) (.ww r fun ex=>?_)
     obtain ⟨hl922,hd⟩:=hd
     refine .append (ys:=[x912.Val]) 8 (.s (.s (.s (.s (.s (.s (.s .z))))))) un32 un32 IN2 r r r r r r r r r (.box .z (.one r) r) hl922 r r fun p923 c924=>?_
     exact .so 8 r r r trivial (.e2 9 (.fa un64 r sz32 r (o:=5) r r r (.store1 sz32 r r (.s (.s (.s (.s (.s .z))))) (.s (.s (.s (.s (.s (.t .nil)))))) r (.nilS [7,6,5,4,3,2] r r (.drop (.s .z) (.region (.ks 3 r (.nil' fun c w ho hs=>⟨((s853++([x893.At])),(s857++([x912.Val])),w64 (s861+1)),hd,I863,_,_,_,_,hl864,ho.sub ⟨r,r,r,r,r,r,trivial⟩,hs.pick (.c (.s (.s .z)) (.c (.s (.s .z)) (.c (.s (.s .z)) (.c (.s (.s .z)) (.c (.s (.s .z)) (.c (.s .z) (.c .z .n)))))))⟩))))))))
   refine .exitS [5,4,3,2] r r (.region (.fa un64 r sz31 r (o:=3) r r r (.load1 ia31 r (.s (.s .z)) r r r (.fa un64 r sz31 r (o:=4) r r r (.load1 ia31 r (.s (.s .z)) r r r (.len un31 r r r r (.buildSlice 1 un31 sz3 zv3 r r (.c r r r .n) r r fun b926=>?_)))))))
   obtain ⟨hl928,hd⟩:=hd
   refine .append (ys:=[(s853.length:Int)]) 8 (.s (.s (.s (.s (.s .z))))) un31 un31 IN3 r r r r r r r r r (.box .z (.one r) r) hl928 r r fun p929 c930=>?_
   exact .fa un64 r sz31 r (o:=3) r r r (.store1 sz31 r r (.s (.s (.s (.s .z)))) (.s (.s (.s (.t .nil)))) r (.nilS [5,4,3,2] r r (.drop (.s .z) (.region (.ks 3 r (.nil' fun c w ho hs=>⟨((s644++([s660])),(s648++([(s853.length:Int)])),s853,s857,w64 (s660+1)),hd,I863,_,_,_,_,_,_,_,_,le866,ho.sub ⟨r,r,r,r,trivial⟩,hs.pick (.c (.s .z) (.c (.s .z) (.c (.s .z) (.c (.s .z) (.c .z (.c .z (.c .z .n)))))))⟩))))))
 refine .exitS [4,2] r r (.drop (.s .z) (.sr (.loadW ia64 sz64 r (.s .z) r r r (.storeA sz64 r r .z (.t (.t (.t (.t (.t (.t .nil)))))) r r (.nilS [2] r r (.drop (.s .z) (.pub (.s .z) fun I932 hl933 R934=>?_)))))))
 have le935:=IH.le.trans le667 hl933
 have le936:=IH.le.trans hl666 hl933
 refine .pub (.s .z) fun I937 hl938 R939=>?_
 have le940:=IH.le.trans le935 hl938
 have le941:=IH.le.trans le936 hl938
 replace R934:=R934.mono hl938
 refine .pub (.s .z) fun I942 hl943 R944=>?_
 have le945:=IH.le.trans le940 hl943
 have le946:=IH.le.trans le941 hl943
 replace R934:=R934.mono hl943
 replace R939:=R939.mono hl943
 refine .pub (.s .z) fun I947 hl948 R949=>?_
 have le950:=IH.le.trans le945 hl948
 have le951:=IH.le.trans le946 hl948
 replace R934:=R934.mono hl948
 replace R939:=R939.mono hl948
 replace R944:=R944.mono hl948
 exact .ret (pret results31 (.w ia64 sz64 r .z r .n) le950 ⟨({ Rows:=r48.Cols,Cols:=r48.Rows,At:=s644,Start:=s648,Row:=s652,Val:=s656 }:Columns),_,_,_,_,_,_,_,_,r,R934,R939,R944,R949,hd⟩)
theorem W_law18_BlockTimes {I:IH} {a0:Law13_Task} {a1:Int} {a2:Int} {p1:Option Addr} {c2:Nat} {p4:Option Addr} {c5:Nat} {p7:Option Addr} {c8:Nat} {p10:Option Addr} {c11:Nat} {Q:Bool→Prop} (R3:RepSl eTriple I p1 c2 a0.L) (R6:RepSl eItem I p4 c5 a0.X) (R9:RepSl eItem I p7 c8 a0.Y) (R12:RepSl eU64 I p10 c11 a0.F) (hd:law18_BlockTimes a0 a1 a2 Q) :
  PFun prog 7 [.agg #[.int .i64 a0.Ring,.int .u8 a0.Size.1,.int .u8 a0.Size.2,.slice p1 a0.L.length c2,.slice p4 a0.X.length c5,.slice p7 a0.Y.length c8,.slice p10 a0.F.length c11,.bool a0.Others],.int .i64 a1,.int .i64 a2] I (fun _=>o1_ Q):=by
 refine Fun.enter func7 r ntmps7 r (.c (.c (.c .n))) fun w0 M=>?_
 refine .sr (.boxA r r r fun b15=>?_)
 refine .ks 1 r (.nilS [3,2,1] r r (.seq (.dr [0,2,3,4,6,7,1,5,999,8] 9 (.g r r r (fun _=>.loadW isAgg28 sizeOf28 r .z r r r .mk) (.g r r r (fun _=>.loadW isAgg28 sizeOf28 r .z r r r .mk) (.g r r r (fun _=>.fa un28 r sz25 r (o:=4) r r r .mk) (.g r r r (fun _=>.load1 ia25 r .z r r r .mk) (.a (fun b=>.pointer (some ⟨b,0,none⟩)) (fun b=>pto b (.cells #[.int .i64 0,.int .i64 0,.slice none 0 0,.slice none 0 0,.slice none 0 0] 34 (0,0))) r r r r (fun _ L hL ex=>.allocA zv34 r r fun b=>.mk (val:=fun b=>.pointer (some ⟨b,0,none⟩)) (atom:=fun b=>pto b (.cells #[.int .i64 0,.int .i64 0,.slice none 0 0,.slice none 0 0,.slice none 0 0] 34 (0,0))) hL b) (.a (fun b=>.pointer (some ⟨b,0,none⟩)) (fun b=>pto b (.cells #[.int .i64 0,.slice none 0 0] 37 (0,0))) r r r r (fun _ L hL ex=>.allocA zv37 r r fun b=>.mk (val:=fun b=>.pointer (some ⟨b,0,none⟩)) (atom:=fun b=>pto b (.cells #[.int .i64 0,.slice none 0 0] 37 (0,0))) hL b) ?_)))))))))
 refine .ww r fun ex=>?_
 have hw65:=W_law13_Task_Matrix (I:=I) R3 R6 R9 R12 hd
 refine .call call8 r hw65 r r fun v54 I51 hl52 hv53=>?_
 obtain ⟨r50,p56,c57,p59,c60,p62,c63,rfl,R58,R61,R64,hd⟩:=hv53
 replace R3:=R3.mono hl52
 replace R6:=R6.mono hl52
 replace R9:=R9.mono hl52
 replace R12:=R12.mono hl52
 refine .so 1 r r r (.cg r r r r (fun _=>.load1 ia25 r .z r r r .mk) (.cg r r r r (fun _=>.fa un28 r sz25 r (o:=4) r r r .mk) (.cg r r r r (fun _=>.loadW isAgg28 sizeOf28 r .z r r r .mk) trivial))) (.ww r fun ex=>?_)
 have hw75:=W_law13_Task_Vector (I:=I51) R3 R6 R9 R12 R6 hd
 refine .call call9 r hw75 r r fun v70 I67 hl68 hv69=>?_
 obtain ⟨r66,p72,c73,rfl,R74,hd⟩:=hv69
 have le76:=IH.le.trans hl52 hl68
 replace R3:=R3.mono hl68
 replace R6:=R6.mono hl68
 replace R9:=R9.mono hl68
 replace R12:=R12.mono hl68
 replace R58:=R58.mono hl68
 replace R61:=R61.mono hl68
 replace R64:=R64.mono hl68
 refine .so 1 r r r trivial (.b r fun b77 b78=>DrawD.nop (.ww r fun ex=>?_))
 refine .storeA sz34 r r (.s (.s .z)) (.t (.t (.t (.t (.t .nil))))) r r (.sn 3 r r r trivial (.e2 9 (.storeA sz37 r r (.s .z) (.t (.t .nil)) r r (.nilS [7,8,3,2,1] r r (.sr (.fa un28 r sizeOf22 r (o:=0) r r r (.load1 isAgg22 r .z r r r (.loadW ia34 sz34 r (.s (.s .z)) r r r (.loadW ia37 sz37 r (.s .z) r r r ?_)))))))))
 refine .ks 2 r ?_
 have hw99:=W_block_Times (I:=I67) R58 R61 R64 R74 hd
 refine .call call27 r hw99 r r fun v94 I91 hl92 hv93=>?_
 obtain ⟨r90,p96,c97,rfl,R98,hd⟩:=hv93
 have le100:=IH.le.trans le76 hl92
 replace R3:=R3.mono hl92
 replace R6:=R6.mono hl92
 replace R9:=R9.mono hl92
 replace R12:=R12.mono hl92
 replace R58:=R58.mono hl92
 replace R61:=R61.mono hl92
 replace R64:=R64.mono hl92
 replace R74:=R74.mono hl92
 refine .ks 5 r (.nilS [10,9,7,8,3,2,1] r r (.sr (.fa un28 r sizeOf22 r (o:=0) r r r (.load1 isAgg22 r .z r r r (.loadW ia34 sz34 r (.s (.s .z)) r r r (.loadW ia37 sz37 r (.s .z) r r r (.ks 2 r ?_)))))))
 have hw121:=W_ref18_Times (I:=I91) R58 R61 R64 R74 hd
 refine .call call28 r hw121 r r fun v116 I113 hl114 hv115=>?_
 obtain ⟨r112,p118,c119,rfl,R120,hd⟩:=hv115
 have le122:=IH.le.trans le100 hl114
 replace R3:=R3.mono hl114
 replace R6:=R6.mono hl114
 replace R9:=R9.mono hl114
 replace R12:=R12.mono hl114
 replace R58:=R58.mono hl114
 replace R61:=R61.mono hl114
 replace R64:=R64.mono hl114
 replace R74:=R74.mono hl114
 replace R98:=R98.mono hl114
 refine .ks 5 r (.nilS [12,11,10,9,7,8,3] r r (.seq (.sr ?_)))
 have hw135:=W_law18_live (I:=I113) hd
 refine .callP call10 r hw135 r r fun v136 hv137=>?_
 obtain ⟨r134,rfl,hd⟩:=hv137
 refine .ks 2 r ?_
 refine splitP hd (fun hb138 hd=>?_) fun hb138 hd=>?_
 · rw [hb138]
   exact .ks 10 r (.nilS [53,10,9,7,8,3] r r (.condKT r r (.sr (.ks 1 r (.nilS [6] r r (.drop .z (.drop .z (.drop .z (.ret (pret results7 (.t r .n) le122 ⟨false,r,hd⟩))))))))))
 rw [hb138]
 refine .ks 5 r ?_
 refine splitP hd (fun hb139 hd=>?_) fun hb139 hd=>?_
 · rw [hb139]
   exact .ks 5 r (.nilS [53,10,9,7,8,3] r r (.condKT r r (.sr (.ks 1 r (.nilS [6] r r (.drop .z (.drop .z (.drop .z (.ret (pret results7 (.t r .n) le122 ⟨false,r,hd⟩))))))))))
 rw [hb139]
 refine .ks 2 r ?_
 have hw141:=W_ref13_SameSums (I:=I113) R98 R120 hd
 refine .gyes r r r (.callP call29 r hw141 r r fun v142 hv143=>?_)
 obtain ⟨r140,rfl,hd⟩:=hv143
 refine .ks 2 r (.nilS [53,10,9,7,8,3] r r (.condP r hd (fun hb144 hd=>?_) fun hb144 hd=>?_))
 · exact .sr (.ks 1 r (.nilS [6] r r (.drop .z (.drop .z (.drop .z (.ret (pret results7 (.t r .n) le122 ⟨false,r,hd⟩)))))))
 refine .skipS [10,9,7,8,3] r r (.seq (.dr [0,1,2,4,3,5,6,7,8,9] 10 (.g r r r (fun _=>.fa un28 r sizeOf22 r (o:=0) r r r .mk) (.g r r r (fun _=>.load1 isAgg22 r .z r r r .mk) (.g r r r (fun _=>.loadW ia34 sz34 r (.s (.s .z)) r r r .mk) (.g r r r (fun _=>.loadW ia37 sz37 r (.s .z) r r r .mk) (.ww r fun ex=>?_)))))))
 have hw195:=W_ref08_Of (I:=I113) R58 R61 R64 hd
 refine .call call31 r hw195 r r fun v181 I178 hl179 hv180=>?_
 obtain ⟨r177,p183,c184,p186,c187,p189,c190,p192,c193,rfl,R185,R188,R191,R194,hd⟩:=hv180
 have le196:=IH.le.trans le122 hl179
 replace R3:=R3.mono hl179
 replace R6:=R6.mono hl179
 replace R9:=R9.mono hl179
 replace R12:=R12.mono hl179
 replace R58:=R58.mono hl179
 replace R61:=R61.mono hl179
 replace R64:=R64.mono hl179
 replace R74:=R74.mono hl179
 replace R98:=R98.mono hl179
 refine .so 3 r r r (.cg r r r r (fun _=>.loadW ia37 sz37 r (.s .z) r r r .mk) (.cg r r r r (fun _=>.load1 isAgg22 r .z r r r .mk) (.cg r r r r (fun _=>.fa un28 r sizeOf22 r (o:=0) r r r .mk) trivial))) (.ww r fun ex=>?_)
 have hw207:=W_push_Sums (I:=I178) R185 R188 R191 R194 R74 (.nil _ none 0) hd
 refine .callO call30 r hw207 r r fun v201 I198 l202 hl199 hv200=>?_
 obtain ⟨r197,p203,c204,rfl,rfl,hd⟩:=hv200
 have le208:=IH.le.trans le196 hl199
 replace R3:=R3.mono hl199
 replace R6:=R6.mono hl199
 replace R9:=R9.mono hl199
 replace R12:=R12.mono hl199
 replace R58:=R58.mono hl199
 replace R61:=R61.mono hl199
 replace R64:=R64.mono hl199
 replace R74:=R74.mono hl199
 replace R98:=R98.mono hl199
 replace R185:=R185.mono hl199
 replace R188:=R188.mono hl199
 replace R191:=R191.mono hl199
 replace R194:=R194.mono hl199
 refine .so 4 r r r trivial (.fk 4 r (.e2 10 (.ks 1 r (.nilS [14,13,10,9] r r (.drop (.s .z) (.drop (.s .z) (.drop (.s .z) (.sr (.ks 3 r ?_)))))))))
 refine splitP hd (fun hb209 hd=>?_) fun hb209 hd=>?_
 · rw [hb209]
   exact .ks 9 r (.nilS [6] r r (.drop .z (.ret (pret results7 (.t r .n) le208 ⟨true,r,hd⟩))))
 rw [hb209]
 refine .ks 3 r ?_
 refine splitP hd (fun hb210 hd=>?_) fun hb210 hd=>?_
 · rw [hb210]
   refine .ks 2 r ?_
   have hw212:=fun (J:IH) (hJ:IH.le I198 J) (hL:lentAll J [OwnSl eSum 80 p203 c204 r197.1])=>W_ref13_SameSums (I:=J) (R98.mono hJ) (lent hL.1) hd
   refine .gyes r r r (.callB (.f call29 r) (.c .z .n) hw212 r r fun v213 _ hv214=>?_)
   obtain ⟨r211,rfl,hd⟩:=hv214
   exact .ks 3 r (.nilS [6] r r (.drop .z (.ret (pret results7 (.t r .n) le208 ⟨r211,r,hd⟩))))
 rw [hb210]
 exact .ks 6 r (.nilS [6] r r (.drop .z (.ret (pret results7 (.t r .n) le208 ⟨false,r,hd⟩))))
end Go.Proofs.YtpackolbhcmomaaGreat
