/- The walks (printed by a program of ours). -/
import Derived.Test.YtaefnmlbnkmahaaGreatV1
namespace Go.Proofs.YtaefnmlbnkmahaaGreat
open Go Go.Fw
set_option linter.unusedVariables false
set_option linter.unusedSimpArgs false
set_option maxRecDepth 8000
set_option maxHeartbeats 1000000
open Tryz
theorem W_pull_Times {I:IH} {a0:Int} {a1:Rows} {a2:Dense} {a3:List Int} {a4:Bool} {p1:Option Addr} {c2:Nat} {p4:Option Addr} {c5:Nat} {p7:Option Addr} {c8:Nat} {p10:Option Addr} {c11:Nat} {p13:Option Addr} {c14:Nat} {p16:Option Addr} {c17:Nat} {Q:(Vec×Int)→Prop} (R3:RepSl eI64 I p1 c2 a1.Start) (R6:RepSl eI64 I p4 c5 a1.Col) (R9:RepSl eI64 I p7 c8 a1.Val) (R12:RepSl eU64 I p10 c11 a2.Has) (R15:RepSl eI64 I p13 c14 a2.Vals) (R18:RepSl eU64 I p16 c17 a3) (hd:pull_Times a0 a1 a2 a3 a4 Q) :
  PFun prog 21 [.int .i64 a0,.agg #[.int .i64 a1.Rows,.int .i64 a1.Cols,.slice p1 a1.Start.length c2,.slice p4 a1.Col.length c5,.slice p7 a1.Val.length c8],.agg #[.int .i64 a2.N,.slice p10 a2.Has.length c11,.slice p13 a2.Vals.length c14],.slice p16 a3.length c17,.bool a4] I (o18_ Q):=by
 refine Fun.enter func21 r ntmps21 r (.c (.c (.c (.c (.c .n))))) fun w0 M=>?_
 refine .sr (.boxA r r r fun b28=>?_)
 refine .boxA r r r fun b30=>?_
 refine .allocA zv54 r r fun b32=>?_
 refine .ks 1 r (.nilS [10,7,6,4,3,0] r r (.sr (.ks 1 r (.loadW ia32 sz32 r (.s (.s .z)) r r r (.loadW ia58 sz58 r (.s .z) r r r (.ks 2 r ?_))))))
 have hw53:=W_pull_Sums (I:=I) R3 R6 R9 R12 R15 R18 hd
 refine .call call57 r hw53 r r fun v48 I45 hl46 hv47=>?_
 obtain ⟨r44,p50,c51,rfl,R52,hd⟩:=hv47
 replace R3:=R3.mono hl46
 replace R6:=R6.mono hl46
 replace R9:=R9.mono hl46
 replace R12:=R12.mono hl46
 replace R15:=R15.mono hl46
 replace R18:=R18.mono hl46
 refine .ks 5 r (.nilS [13,12,10,7,6,0] r r (.seq (.sr (.ks 2 r (.nilS [24,13,12,10,7,6,0] r r (.condP r hd (fun hb55 hd=>?_) fun hb55 hd=>?_))))))
 · exact .sr (.build zv54 un54 BI54 .n (by exact trivial) r r (.ks 1 r (.storeA sz54 r r .z (.t (.t .nil)) r r (.ks 1 r (.nilS [11,10] r r (.drop (.s .z) (.drop (.s .z) (.ret (pret results21 (.w ia54 sz54 r .z r (.t r .n)) hl46 ⟨(({ N:=0,Items:=([]:List Item) }:Vec),r44.2),_,_,r,(.nil _ _ _),hd⟩)))))))))
 refine .skipS [12,10,7,6,0] r r (.sr (.loadW ia32 sz32 r (.s (.s .z)) r r r (.loadW ia58 sz58 r (.s .z) r r r ?_)))
 have hw100:=W_pull_sure (I:=I45) R3 R6 R9 R12 R15 hd
 refine .call call58 r hw100 r r fun v83 I80 hl81 hv82=>?_
 obtain ⟨r79,p85,c86,p88,c89,p91,c92,p94,c95,p97,c98,rfl,R87,R90,R93,R96,R99,hd⟩:=hv82
 have le101:=IH.le.trans hl46 hl81
 replace R3:=R3.mono hl81
 replace R6:=R6.mono hl81
 replace R9:=R9.mono hl81
 replace R12:=R12.mono hl81
 replace R15:=R15.mono hl81
 replace R52:=R52.mono hl81
 refine .ks 3 r (.storeA sz32 r r (.s (.s .z)) (.t (.t (.t (.t (.t .nil))))) r r (.nilS [12,10,6,0] r r (.drop (.s .z) (.sr (.ks 1 r (.fa un32 r sz3 r (o:=0) r r r (.load1 ia3 r (.s .z) r r r (.ks 1 r ?_))))))))
 have hw111:=W_pull_Done (I:=I80) R52 hd
 refine .call call59 r hw111 r r fun v106 I103 hl104 hv105=>?_
 obtain ⟨r102,p108,c109,rfl,R110,hd⟩:=hv105
 have le112:=IH.le.trans le101 hl104
 replace R52:=R52.mono hl104
 replace R87:=R87.mono hl104
 replace R90:=R90.mono hl104
 replace R93:=R93.mono hl104
 exact .ks 2 r (.storeA sz54 r r .z (.t (.t .nil)) r r (.ks 1 r (.nilS [11,10] r r (.drop (.s .z) (.ret (pret results21 (.w ia54 sz54 r .z r (.t r .n)) le112 ⟨(r102.1,r102.2),_,_,r,R110,hd⟩))))))
theorem W_prog_Ring {I:IH} {a0:Int} {a1:Int} {Q:Int→Prop}  (hd:prog_Ring a0 a1 Q) :
  PFun prog 76 [.int .i64 a0,.int .i64 a1] I (fun _=>o0_ Q):=by
 refine Fun.enter func76 r ntmps76 r (.c (.c .n)) fun w0 M=>?_
 refine .sr (.ks 1 r (.nilS [1,0] r r (.seq (.sr (.ks 1 r (.nilS [5,1] r r (.block (.seq (.block ?_)))))))))
 refine .seq (.block (.seq (.block (.seq (.block (.seq (.seq (.sr (.ks 2 r ?_)))))))))
 refine .nilS [6,5,1] r r (.condP r hd (fun hb2 hd=>?_) fun hb2 hd=>?_)
 · exact .exitS [] r r (.seq (.sr (.ks 1 r (.nilS [4] r r (.ret (pret results76 (.t r .n) (.refl _) ⟨1,r,hd⟩))))))
 refine .skipS [5,1] r r (.seq (.sr (.ks 2 r (.nilS [8,5,1] r r (.condP r hd (fun hb4 hd=>?_) fun hb4 hd=>?_)))))
 · exact .exitS [] r r (.seq (.sr (.ks 1 r (.nilS [4] r r (.ret (pret results76 (.t r .n) (.refl _) ⟨5,r,hd⟩))))))
 refine .skipS [5,1] r r (.seq (.sr (.ks 2 r (.nilS [10,5,1] r r (.condP r hd (fun hb6 hd=>?_) fun hb6 hd=>?_)))))
 · refine .exitS [1] r r (.sr (.ks 3 r (.nilS [17] r r (.condP r hd (fun hb7 hd=>?_) fun hb7 hd=>?_))))
   · exact .sr (.ks 1 r (.nilS [4] r r (.ret (pret results76 (.t r .n) (.refl _) ⟨2,r,hd⟩))))
   exact .skipS [] r r (.seq (.sr (.ks 1 r (.nilS [4] r r (.ret (pret results76 (.t r .n) (.refl _) ⟨4,r,hd⟩))))))
 refine .skipS [5] r r (.seq (.sr (.ks 2 r (.nilS [12,5] r r (.condP r hd (fun hb8 hd=>?_) fun hb8 hd=>?_)))))
 · exact .skipS [12] r r (.condKT r hb8 (.exitS [] r r (.seq (.sr (.ks 1 r (.nilS [4] r r (.ret (pret results76 (.t r .n) (.refl _) ⟨4,r,hd⟩))))))))
 refine .region (.ks 2 r (.nilS [12] r r (.condP r hd (fun hb9 hd=>?_) fun hb9 hd=>?_)))
 · exact .exitS [] r r (.seq (.sr (.ks 1 r (.nilS [4] r r (.ret (pret results76 (.t r .n) (.refl _) ⟨4,r,hd⟩))))))
 exact .skipS [] r r (.exitS [] r r (.sr (.ks 1 r (.nilS [4] r r (.ret (pret results76 (.t r .n) (.refl _) ⟨0,r,hd⟩))))))
theorem W_prog_can {I:IH} {a0:Plan} {a1:State} {p1:Option Addr} {c2:Nat} {p4:Option Addr} {c5:Nat} {p7:Option Addr} {c8:Nat} {p10:Option Addr} {c11:Nat} {Q:Bool→Prop} (R3:RepSl eI64 I p1 c2 a0.Draws) (R6:RepSl eI64 I p4 c5 a1.A) (R9:RepSl eI64 I p7 c8 a1.B) (R12:RepSl eU64 I p10 c11 a1.On) (hd:prog_can a0 a1 Q) :
  PFun prog 215 [.agg #[.int .i64 a0.Kind,.int .i64 a0.N,.int .i64 a0.Source,.int .i64 a0.Length,.slice p1 a0.Draws.length c2],.agg #[.int .i64 a1.Low,.int .i64 a1.High,.slice p4 a1.A.length c5,.slice p7 a1.B.length c8,.slice p10 a1.On.length c11]] I (fun _=>o4_ Q):=by
 refine Fun.enter func215 r ntmps215 r (.c (.c .n)) fun w0 M=>?_
 refine .sr (.boxA r r r fun b17=>?_)
 refine .boxA r r r fun b19=>?_
 refine .ks 1 r (.nilS [3,2] r r (.seq (.sr (.loadW ia49 sz49 r (.s .z) r r r ?_))))
 have hw30:=W_prog_Right (I:=I) R3 hd
 refine .callP call95 r hw30 r r fun v31 hv32=>?_
 obtain ⟨r29,rfl,hd⟩:=hv32
 refine .ks 2 r ?_
 refine splitP hd (fun hb33 hd=>?_) fun hb33 hd=>?_
 · rw [hb33]
   exact .ks 18 r (.nilS [27,3] r r (.drop (.s .z) (.condKT r r (.sr (.ks 1 r (.nilS [4] r r (.drop .z (.ret (pret results215 (.t r .n) (.refl _) ⟨false,r,hd⟩)))))))))
 rw [hb33]
 refine .gyes r r r (.fa un42 r sz3 r (o:=0) r r r (.gyes r r r (.load1 ia3 r .z r r r (.ks 3 r ?_))))
 refine splitP hd (fun hb34 hd=>?_) fun hb34 hd=>?_
 · rw [hb34]
   exact .ks 13 r (.nilS [27,3] r r (.drop (.s .z) (.condKT r r (.sr (.ks 1 r (.nilS [4] r r (.drop .z (.ret (pret results215 (.t r .n) (.refl _) ⟨false,r,hd⟩)))))))))
 rw [hb34]
 refine .gyes r r r (.fa un42 r sz3 r (o:=1) r r r (.gyes r r r (.load1 ia3 r .z r r r (.gyes r r r (.fa un42 r sz3 r (o:=0) r r r (.gyes r r r (.load1 ia3 r .z r r r (.ks 3 r ?_))))))))
 refine splitP hd (fun hb35 hd=>?_) fun hb35 hd=>?_
 · rw [hb35]
   exact .ks 6 r (.nilS [27,3] r r (.drop (.s .z) (.condKT r r (.sr (.ks 1 r (.nilS [4] r r (.drop .z (.ret (pret results215 (.t r .n) (.refl _) ⟨false,r,hd⟩)))))))))
 rw [hb35]
 refine .gyes r r r (.fa un42 r sz3 r (o:=1) r r r (.gyes r r r (.load1 ia3 r .z r r r (.gyes r r r (.fa un49 r sz3 r (o:=1) r r r (.gyes r r r (.load1 ia3 r (.s .z) r r r (.ks 2 r (.nilS [27,3] r r (.drop (.s .z) (.condP r hd (fun hb36 hd=>?_) fun hb36 hd=>?_)))))))))))
 · exact .sr (.ks 1 r (.nilS [4] r r (.drop .z (.ret (pret results215 (.t r .n) (.refl _) ⟨false,r,hd⟩)))))
 refine .skipS [3] r r (.sr (.fa un42 r sz3 r (o:=1) r r r (.load1 ia3 r .z r r r (.fa un42 r sz3 r (o:=0) r r r (.load1 ia3 r .z r r r (.ks 2 r (.nilS [5,3] r r (.sr (.fa un42 r sz30 r (o:=2) r r r ?_)))))))))
 refine .load1 ia30 r .z r r r (.len un30 r r r r (.ks 3 r ?_))
 refine splitP hd (fun hb37 hd=>?_) fun hb37 hd=>?_
 · rw [hb37]
   refine .gyes r r r (.fa un42 r sz30 r (o:=3) r r r (.gyes r r r (.load1 ia30 r .z r r r (.gyes r r r (.len un30 r r r r (.ks 4 r ?_))))))
   refine splitP hd (fun hb38 hd=>?_) fun hb38 hd=>?_
   · rw [hb38]
     refine .gyes r r r (.fa un42 r sz40 r (o:=4) r r r (.gyes r r r (.load1 ia40 r .z r r r (.ks 1 r ?_))))
     have hw40:=W_flags_Right (I:=I) R12 hd
     refine .gyes r r r (.callP call170 r hw40 r r fun v41 hv42=>?_)
     obtain ⟨r39,rfl,hd⟩:=hv42
     exact .ks 2 r (.nilS [4] r r (.drop .z (.ret (pret results215 (.t r .n) (.refl _) ⟨r39,r,hd⟩))))
   rw [hb38]
   exact .ks 6 r (.nilS [4] r r (.drop .z (.ret (pret results215 (.t r .n) (.refl _) ⟨false,r,hd⟩))))
 rw [hb37]
 exact .ks 13 r (.nilS [4] r r (.drop .z (.ret (pret results215 (.t r .n) (.refl _) ⟨false,r,hd⟩))))
theorem W_prog_sure {I:IH} {a0:Plan} {a1:State} {p1:Option Addr} {c2:Nat} {p4:Option Addr} {c5:Nat} {p7:Option Addr} {c8:Nat} {p10:Option Addr} {c11:Nat} {Q:State→Prop} (R3:RepSl eI64 I p1 c2 a0.Draws) (R6:RepSl eI64 I p4 c5 a1.A) (R9:RepSl eI64 I p7 c8 a1.B) (R12:RepSl eU64 I p10 c11 a1.On) (hd:prog_sure a0 a1 Q) :
  PFun prog 151 [.agg #[.int .i64 a0.Kind,.int .i64 a0.N,.int .i64 a0.Source,.int .i64 a0.Length,.slice p1 a0.Draws.length c2],.agg #[.int .i64 a1.Low,.int .i64 a1.High,.slice p4 a1.A.length c5,.slice p7 a1.B.length c8,.slice p10 a1.On.length c11]] I (o24_ Q):=by
 refine Fun.enter func151 r ntmps151 r (.c (.c .n)) fun w0 M=>?_
 refine .sr (.boxA r r r fun b28=>?_)
 refine .boxA r r r fun b30=>?_
 refine .allocA zv42 r r fun b32=>?_
 refine .nilS [4,3,2] r r (.seq (.sr (.loadW ia49 sz49 r (.s (.s .z)) r r r (.loadW ia42 sz42 r (.s .z) r r r ?_))))
 have hw35:=W_prog_can (I:=I) R3 R6 R9 R12 hd
 refine .callP call215 r hw35 r r fun v36 hv37=>?_
 obtain ⟨r34,rfl,hd⟩:=hv37
 refine .nilS [7,4,3] r r (.drop (.s (.s .z)) (.condP r hd (fun hb38 hd=>?_) fun hb38 hd=>?_))
 · exact .sr (.loadW ia42 sz42 r (.s .z) r r r (.storeA sz42 r r .z (.t (.t (.t (.t (.t .nil))))) r r (.nilS [4] r r (.drop (.s .z) (.ret (pret results151 (.w ia42 sz42 r .z r .n) (.refl _) ⟨a1,_,_,_,_,_,_,r,R6,R9,R12,hd⟩))))))
 exact .skipS [4] r r (.drop (.s .z) (.sr (.build zv42 un42 BI42 .n (by exact trivial) r r (.storeA sz42 r r .z (.t (.t (.t (.t (.t .nil))))) r r (.nilS [4] r r (.ret (pret results151 (.w ia42 sz42 r .z r .n) (.refl _) ⟨({ Low:=0,High:=0,A:=([]:List Int),B:=([]:List Int),On:=([]:List Int) }:State),_,_,_,_,_,_,r,(.nil _ _ _),(.nil _ _ _),(.nil _ _ _),hd⟩)))))))
theorem W_prog_number {I:IH} {a0:Plan} {a1:Int} {a2:Int} {p1:Option Addr} {c2:Nat} {Q:Int→Prop} (R3:RepSl eI64 I p1 c2 a0.Draws) (hd:prog_number a0 a1 a2 Q) :
  PFun prog 221 [.agg #[.int .i64 a0.Kind,.int .i64 a0.N,.int .i64 a0.Source,.int .i64 a0.Length,.slice p1 a0.Draws.length c2],.int .i64 a1,.int .i64 a2] I (fun _=>o0_ Q):=by
 refine Fun.enter func221 r ntmps221 r (.c (.c (.c .n))) fun w0 M=>?_
 refine .sr (.boxA r r r fun b6=>?_)
 refine .ks 1 r (.nilS [3,2,1] r r (.seq (.sr (.ks 1 r ?_))))
 have hw19:=W_prog_within (I:=I) hd
 refine .callP call164 r hw19 r r fun v20 hv21=>?_
 obtain ⟨r18,rfl,hd⟩:=hv21
 refine .ks 2 r ?_
 refine splitP hd (fun hb22 hd=>?_) fun hb22 hd=>?_
 · rw [hb22]
   exact .ks 7 r (.nilS [19,3,2,1] r r (.condKT r r (.sr (.ks 1 r (.nilS [6] r r (.drop .z (.ret (pret results221 (.t r .n) (.refl _) ⟨0,r,hd⟩))))))))
 rw [hb22]
 refine .ks 1 r (.gyes r r r (.fa un49 r sz3 r (o:=1) r r r (.gyes r r r (.load1 ia3 r .z r r r (.ks 1 r ?_)))))
 have hw24:=W_prog_within (I:=I) hd
 refine .gyes r r r (.callP call164 r hw24 r r fun v25 hv26=>?_)
 obtain ⟨r23,rfl,hd⟩:=hv26
 refine .ks 2 r (.nilS [19,3,2,1] r r (.condP r hd (fun hb27 hd=>?_) fun hb27 hd=>?_))
 · exact .sr (.ks 1 r (.nilS [6] r r (.drop .z (.ret (pret results221 (.t r .n) (.refl _) ⟨0,r,hd⟩)))))
 refine .skipS [3,2,1] r r (.sr (.ks 1 r (.nilS [7,3,2,1] r r (.seq (.sr (.fa un49 r sz30 r (o:=4) r r r (.load1 ia30 r .z r r r (.len un30 r r r r (.ks 1 r ?_)))))))))
 refine .nilS [8,7,3,2,1] r r (.sr (.ks 2 r (.nilS [24,8,7,3,2,1] r r (.condP r hd (fun hb28 hd=>?_) fun hb28 hd=>?_))))
 · refine .dr [0,1,2,3,4,5,6,7,8,9,10,11] 12 (.g r r r (fun _=>.fa un49 r sz30 r (o:=4) r r r .mk) (.g r r r (fun _=>.load1 ia30 r .z r r r .mk) (.fk 1 r (.g r r r (fun _=>.fa un49 r sz3 r (o:=1) r r r .mk) (.g r r r (fun _=>.load1 ia3 r .z r r r .mk) (.fk 4 r ?_))))))
   obtain ⟨hz29,hd⟩:=hd
   refine .g r r r (fun _=>.rem r r hz29 r r .mk) ?_
   obtain ⟨h30,x31,hx32,hd⟩:=hd
   obtain ⟨b33,o34,cs35,e36,hC37,hr38⟩:=R3.2 _ _ hx32
   cases hr38
   refine .g r r r (fun _=>.ixa un30 sz2 r e36 r h30 (idx_lt hx32 h30) r r .mk) (.g r r r (fun _=>.ld1 (j:=0) ia2 hC37 r r r r r .mk) (.e2 12 (.ks 1 r (.nilS [7,2] r r (.drop .z (.sr (.ks 1 r (.shl' r r (by decide) r r (.ks 3 r ?_)))))))))
   exact .nilS [6] r r (.ret (pret results221 (.t r .n) (.refl _) ⟨(bor .i64 (shl .i64 x31 12) a2),r,hd⟩))
 exact .skipS [7,2] r r (.drop .z (.sr (.ks 1 r (.shl' r r (by decide) r r (.ks 3 r (.nilS [6] r r (.ret (pret results221 (.t r .n) (.refl _) ⟨(bor .i64 (shl .i64 0 12) a2),r,hd⟩))))))))
theorem W_prog_draw {I:IH} {a0:Int} {Q:Int→Prop}  (hd:prog_draw a0 Q) :
  PFun prog 222 [.int .i64 a0] I (fun _=>o0_ Q):=by
 refine Fun.enter func222 r ntmps222 r (.c .n) fun w0 M=>?_
 exact .sr (.ks 1 r (.nilS [0] r r (.sr (.ks 2 r (.shr' r r (by decide) r r (.ks 1 r (.nilS [2] r r (.ret (pret results222 (.t r .n) (.refl _) ⟨(shr .i64 (w64 (a0 - 1)) 1),r,hd⟩)))))))))
theorem W_prog_tells {I:IH} {a0:Plan} {a1:State} {a2:Int} {a3:Int} {p1:Option Addr} {c2:Nat} {p4:Option Addr} {c5:Nat} {p7:Option Addr} {c8:Nat} {p10:Option Addr} {c11:Nat} {Q:(Int×Bool)→Prop} (R3:RepSl eI64 I p1 c2 a0.Draws) (R6:RepSl eI64 I p4 c5 a1.A) (R9:RepSl eI64 I p7 c8 a1.B) (R12:RepSl eU64 I p10 c11 a1.On) (hd:prog_tells a0 a1 a2 a3 Q) :
  PFun prog 172 [.agg #[.int .i64 a0.Kind,.int .i64 a0.N,.int .i64 a0.Source,.int .i64 a0.Length,.slice p1 a0.Draws.length c2],.agg #[.int .i64 a1.Low,.int .i64 a1.High,.slice p4 a1.A.length c5,.slice p7 a1.B.length c8,.slice p10 a1.On.length c11],.int .i64 a2,.int .i64 a3] I (fun _=>o3_ Q):=by
 refine Fun.enter func172 r ntmps172 r (.c (.c (.c (.c .n)))) fun w0 M=>?_
 refine .sr (.boxA r r r fun b17=>?_)
 refine .boxA r r r fun b19=>?_
 refine .ks 2 r (.nilS [5,4,3,2] r r (.sr (.fa un42 r sz40 r (o:=4) r r r (.load1 ia40 r .z r r r (.ks 1 r ?_)))))
 have hw26:=W_flags_Has (I:=I) R12 hd
 refine .callP call84 r hw26 r r fun v27 hv28=>?_
 obtain ⟨r25,rfl,hd⟩:=hv28
 refine .ks 1 r (.nilS [10,5,4,3,2] r r (.seq (.sr (.fa un49 r sz47 r (o:=0) r r r (.load1 ia47 r (.s .z) r r r (.nilS [16,10,5,4,3,2] r r (.block (.sr (.ks 2 r ?_)))))))))
 refine .nilS [17,16,10,5,4,3,2] r r (.condP r hd (fun hb29 hd=>?_) fun hb29 hd=>?_)
 · exact .sr (.fa un42 r sz3 r (o:=0) r r r (.load1 ia3 r .z r r r (.ks 5 r (.nilS [9,8] r r (.drop .z (.drop .z (.ret (pret results172 (.t r (.t r .n)) (.refl _) ⟨(w64 (a1.Low+a3),r25),r,hd⟩))))))))
 refine .sr (.ks 2 r (.nilS [24,10,5,4,3,2] r r (.condP r hd (fun hb30 hd=>?_) fun hb30 hd=>?_)))
 · refine .seq (.sr (.ks 3 r (.nilS [28,10,5,4,3,2] r r (.condP r hd (fun hb32 hd=>?_) fun hb32 hd=>?_))))
   · exact .sr (.ks 3 r (.nilS [9,8] r r (.drop .z (.drop .z (.ret (pret results172 (.t r (.t r .n)) (.refl _) ⟨(1,r25),r,hd⟩))))))
   refine .skipS [5,4,3,2] r r (.seq (.dr [0,1,3,4,5,6,8,9,10,11,12,13,2,7,14] 15 (.g r r r (fun _=>.loadW ia49 sz49 r (.s .z) r r r .mk) (.fk 1 r (.g r r r (fun _=>.fa un42 r sz3 r (o:=0) r r r .mk) (.g r r r (fun _=>.load1 ia3 r .z r r r .mk) (.fk 2 r (.g r r r (fun _=>.fa un42 r sz30 r (o:=2) r r r .mk) (.g r r r (fun _=>.load1 ia30 r .z r r r .mk) ?_)))))))))
   refine .fk 1 r ?_
   obtain ⟨h33,x34,hx35,hd⟩:=hd
   obtain ⟨b36,o37,cs38,e39,hC40,hr41⟩:=R6.2 _ _ hx35
   cases hr41
   refine .g r r r (fun _=>.ixa un30 sz2 r e39 r h33 (idx_lt hx35 h33) r r .mk) (.g r r r (fun _=>.ld1 (j:=0) ia2 hC40 r r r r r .mk) (.fk 1 r (.ww r fun ex=>?_)))
   have hw43:=W_prog_draw (I:=I) hd
   refine .callP call222 r hw43 r r fun v44 hv45=>?_
   obtain ⟨r42,rfl,hd⟩:=hv45
   refine .so 2 r r r (.ck 1 r r (.cg r r r r (fun _=>.ld1 (j:=0) ia2 hC40 r r r r r .mk) (.cg r r r r (fun _=>.ixa un30 sz2 r e39 r h33 (idx_lt hx35 h33) r r .mk) (.ck 1 r r (.cg r r r r (fun _=>.load1 ia30 r .z r r r .mk) (.cg r r r r (fun _=>.fa un42 r sz30 r (o:=2) r r r .mk) (.ck 2 r r (.cg r r r r (fun _=>.load1 ia3 r .z r r r .mk) (.cg r r r r (fun _=>.fa un42 r sz3 r (o:=0) r r r .mk) (.cg r r r r (fun _=>.loadW ia49 sz49 r (.s .z) r r r .mk) trivial)))))))))) (.ww r fun ex=>?_)
   have hw47:=W_prog_number (I:=I) R3 hd
   refine .callP call221 r hw47 r r fun v48 hv49=>?_
   obtain ⟨r46,rfl,hd⟩:=hv49
   exact .so 2 r r r (.ck 1 r r (.cg r r r r (fun _=>.ld1 (j:=0) ia2 hC40 r r r r r .mk) (.cg r r r r (fun _=>.ixa un30 sz2 r e39 r h33 (idx_lt hx35 h33) r r .mk) (.ck 1 r r (.cg r r r r (fun _=>.load1 ia30 r .z r r r .mk) (.cg r r r r (fun _=>.fa un42 r sz30 r (o:=2) r r r .mk) trivial)))))) (.fk 1 r (.e2 15 (.ks 1 r (.nilS [9,8] r r (.drop .z (.drop .z (.ret (pret results172 (.t r (.t r .n)) (.refl _) ⟨(r46,x34==0),r,hd⟩))))))))
 refine .skipS [10,5,3] r r (.drop (.s .z) (.sr (.fa un42 r sz30 r (o:=2) r r r (.load1 ia30 r .z r r r (.ks 1 r ?_)))))
 obtain ⟨h50,x51,hx52,hd⟩:=hd
 obtain ⟨b53,o54,cs55,e56,hC57,hr58⟩:=R6.2 _ _ hx52
 cases hr58
 exact .ixa un30 sz2 r e56 r h50 (idx_lt hx52 h50) r r (.ld1 (j:=0) ia2 hC57 r r r r r (.ks 3 r (.nilS [9,8] r r (.drop .z (.ret (pret results172 (.t r (.t r .n)) (.refl _) ⟨(x51,r25),r,hd⟩))))))
theorem W_prog_Out {I:IH} {a0:Plan} {a1:State} {a2:Int} {p1:Option Addr} {c2:Nat} {p4:Option Addr} {c5:Nat} {p7:Option Addr} {c8:Nat} {p10:Option Addr} {c11:Nat} {Q:Vec→Prop} (R3:RepSl eI64 I p1 c2 a0.Draws) (R6:RepSl eI64 I p4 c5 a1.A) (R9:RepSl eI64 I p7 c8 a1.B) (R12:RepSl eU64 I p10 c11 a1.On) (hd:prog_Out a0 a1 a2 Q) :
  PFun prog 99 [.agg #[.int .i64 a0.Kind,.int .i64 a0.N,.int .i64 a0.Source,.int .i64 a0.Length,.slice p1 a0.Draws.length c2],.agg #[.int .i64 a1.Low,.int .i64 a1.High,.slice p4 a1.A.length c5,.slice p7 a1.B.length c8,.slice p10 a1.On.length c11],.int .i64 a2] I (o25_ Q):=by
 refine Fun.enter func99 r ntmps99 r (.c (.c (.c .n))) fun w0 M=>?_
 refine .sr (.boxA r r r fun b22=>?_)
 refine .boxA r r r fun b24=>?_
 refine .allocA zv54 r r fun b26=>?_
 refine .nilS [6,4,3,2] r r (.sr (.loadW ia49 sz49 r (.s (.s .z)) r r r (.loadW ia42 sz42 r (.s .z) r r r ?_)))
 have hw59:=W_prog_sure (I:=I) R3 R6 R9 R12 hd
 refine .call call151 r hw59 r r fun v48 I45 hl46 hv47=>?_
 obtain ⟨r44,p50,c51,p53,c54,p56,c57,rfl,R52,R55,R58,hd⟩:=hv47
 replace R3:=R3.mono hl46
 replace R6:=R6.mono hl46
 replace R9:=R9.mono hl46
 replace R12:=R12.mono hl46
 refine .storeA sz42 r r (.s .z) (.t (.t (.t (.t (.t .nil))))) r r (.nilS [6,4,3,2] r r (.sr (.fa un42 r sz3 r (o:=1) r r r (.load1 ia3 r (.s .z) r r r (.fa un42 r sz3 r (o:=0) r r r (.load1 ia3 r (.s .z) r r r (.ks 1 r (.build zv54 un54 BI54 (.c r r r (.t .nil) .n) (by exact ⟨⟨_,_,r,r,r⟩,trivial⟩) r r (.allocA zv54 r r fun b62=>?_)))))))))
 refine .storeA sz54 r r .z (.t (.t .nil)) r r (.nilS [7,6,4,3,2] r r (.seq (.sr (.fa un54 r sz3 r (o:=0) r r r (.load1 ia3 r .z r r r (.ks 1 r (.nilS [22,21,7,6,4,3,2] r r (.block (.own0 eItem 51 ?_)))))))))
 refine .loop hd (fun (s:(List Item)×Int) c w=>match s with | (s114,s118)=>∃ I_ p115 c116,IH.le I45 I_∧Ok ⟨44,[],none⟩ [(2,.int .i64 a2),(3,.pointer (some ⟨b22,0,none⟩)),(4,.pointer (some ⟨b24,0,none⟩)),(6,.pointer (some ⟨b26,0,none⟩)),(7,.pointer (some ⟨b62,0,none⟩)),(21,.int .i64 (w64 (r44.High - r44.Low))),(22,.int .i64 s118)] c∧Sym w0 M I I_ [pto b22 (.cells #[.int .i64 a0.Kind,.int .i64 a0.N,.int .i64 a0.Source,.int .i64 a0.Length,.slice p1 a0.Draws.length c2] 49 (0,0)),pto b24 (.cells #[.int .i64 r44.Low,.int .i64 r44.High,.slice p50 r44.A.length c51,.slice p53 r44.B.length c54,.slice p56 r44.On.length c57] 42 (0,0)),pto b26 (.cells #[.int .i64 0,.slice none 0 0] 54 (0,0)),pto b62 (.cells #[.int .i64 (w64 (r44.High - r44.Low)),.slice p115 s114.length c116] 54 (0,0)),OwnSl eItem 51 p115 c116 s114] w) (fun c w ho hs=>⟨I45,_,_,(.refl _),ho.sub ⟨r,r,r,r,r,r,r,trivial⟩,hs.pick (.c (.s (.s (.s (.s .z)))) (.c (.s (.s (.s .z))) (.c (.s (.s .z)) (.c (.s .z) (.c .z .n)))))⟩) ?_
 rintro ⟨s114,s118⟩ next120 hd c w hst
 obtain ⟨I121,p115,c116,hl122,hok,hsym⟩:=hst
 have le123:=IH.le.trans hl46 hl122
 replace R3:=R3.mono hl122
 replace R52:=R52.mono hl122
 replace R55:=R55.mono hl122
 replace R58:=R58.mono hl122
 refine Cod.at hok hsym (.sr (.ks 1 r (.nilS [23,22,21,7,6,4,3,2] r r (.seq (.condP r hd (fun hb125 hd=>?_) fun hb125 hd=>?_)))))
 · refine .skipS [22,21,7,6,4,3,2] r r (.seq (.block (.sr (.ks 2 r (.nilS [8,22,21,7,6,4,3,2] r r (.sr (.loadW ia49 sz49 r .z r r r (.loadW ia42 sz42 r (.s .z) r r r (.ks 2 r ?_)))))))))
   have hw131:=W_prog_tells (I:=I121) R3 R52 R55 R58 hd
   refine .callP call172 r hw131 r r fun v132 hv133=>?_
   obtain ⟨r130,rfl,hd⟩:=hv133
   refine .ks 5 r (.nilS [10,9,8,22,21,7,6,4,3,2] r r (.sr (.ks 1 r (.nilS [33,9,8,22,21,7,6,4,3,2] r r (.condP r hd (fun hb134 hd=>?_) fun hb134 hd=>?_)))))
   · refine .region (.fa un54 r sz52 r (o:=1) r r r (.load1 ia52 r (.s (.s (.s .z))) r r r (.ks 2 r (.build zv51 un51 BI51 (.c r r r (.t .nil) (.c r r r (.s (.t .nil)) .n)) (by exact ⟨⟨_,_,r,r,r⟩,⟨⟨_,_,r,r,r⟩,trivial⟩⟩) r r (.buildSlice 1 un52 sz51 zv51 r r (.c r r r .n) r r fun b135=>?_)))))
     obtain ⟨hl137,hd⟩:=hd
     refine .append (ys:=[({ At:=s118,Val:=r130.1 }:Item)]) 16 (.s (.s (.s (.s (.s .z))))) un52 un52 IN51 r r r r r r r r r (.box .z (.one r) r) hl137 r r fun p138 c139=>?_
     exact .fa un54 r sz52 r (o:=1) r r r (.store1 sz52 r r (.s (.s (.s (.s (.s .z))))) (.s (.t .nil)) r (.nilS [22,21,7,6,4,3,2] r r (.drop (.s .z) (.region (.ks 2 r (.nil' fun c w ho hs=>⟨((s114++([({ At:=s118,Val:=r130.1 }:Item)])),w64 (s118+1)),hd,I121,_,_,hl122,ho.sub ⟨r,r,r,r,r,r,r,trivial⟩,hs.pick (.c (.s .z) (.c (.s .z) (.c (.s .z) (.c (.s .z) (.c .z .n)))))⟩))))))
   exact .skipS [22,21,7,6,4,3,2] r r (.region (.ks 2 r (.nil' fun c w ho hs=>⟨(s114,w64 (s118+1)),hd,I121,_,_,hl122,ho.sub ⟨r,r,r,r,r,r,r,trivial⟩,hs.pick (.c .z (.c .z (.c .z (.c .z (.c .z .n)))))⟩)))
 refine .exitS [7,6] r r (.drop .z (.drop .z (.sr (.loadW ia54 sz54 r (.s .z) r r r (.storeA sz54 r r .z (.t (.t .nil)) r r (.nilS [6] r r (.drop (.s .z) (.pub (.s .z) fun I141 hl142 R143=>?_))))))))
 have le144:=IH.le.trans le123 hl142
 have le145:=IH.le.trans hl122 hl142
 exact .ret (pret results99 (.w ia54 sz54 r .z r .n) le144 ⟨({ N:=w64 (r44.High - r44.Low),Items:=s114 }:Vec),_,_,r,R143,hd⟩)
theorem W_flags_Of {I:IH} {a0:Int} {a1:List Int} {p1:Option Addr} {c2:Nat} {Q:(List Int)→Prop} (R3:RepSl eI64 I p1 c2 a1) (hd:flags_Of a0 a1 Q) :
  PFun prog 152 [.int .i64 a0,.slice p1 a1.length c2] I (o20_ Q):=by
 refine Fun.enter func152 r ntmps152 r (.c (.c .n)) fun w0 M=>?_
 refine .sr (.ks 1 r (.nilS [1,0] r r (.sr (.ks 1 r ?_))))
 have hw28:=W_flags_New (I:=I) hd
 refine .callO call188 r hw28 r r fun v22 I19 l23 hl20 hv21=>?_
 obtain ⟨r18,p24,c25,rfl,rfl,hd⟩:=hv21
 replace R3:=R3.mono hl20
 refine .ks 1 r (.nilS [5,1,0] r r (.seq (.sr (.ks 1 r (.len un29 r r r r (.ks 1 r (.nilS [12,11,10,5,0] r r (.block (.loop hd (fun (s:(List Int)×Int) c w=>match s with | (s152,s156)=>∃ I_ p153 c154,IH.le I19 I_∧Ok ⟨35,[],none⟩ [(0,.int .i64 a0),(5,.slice p153 s152.length c154),(10,.slice p1 a1.length c2),(11,.int .i64 (a1.length:Int)),(12,.int .i64 s156)] c∧Sym w0 M I I_ [OwnSl eU64 125 p153 c154 s152] w) (fun c w ho hs=>⟨I19,_,_,(.refl _),ho.sub ⟨r,r,r,r,r,trivial⟩,hs.pick (.c .z .n)⟩) ?_)))))))))
 rintro ⟨s152,s156⟩ next157 hd c w hst
 obtain ⟨I158,p153,c154,hl159,hok,hsym⟩:=hst
 have le160:=IH.le.trans hl20 hl159
 replace R3:=R3.mono hl159
 refine Cod.at hok hsym (.sr (.ks 1 r (.nilS [13,12,11,10,5,0] r r (.seq (.condP r hd (fun hb162 hd=>?_) fun hb162 hd=>?_)))))
 · refine .skipS [12,11,10,5,0] r r (.seq (.block (.sr ?_)))
   obtain ⟨h172,x173,hx174,hd⟩:=hd
   obtain ⟨b175,o176,cs177,e178,hC179,hr180⟩:=R3.2 _ _ hx174
   cases hr180
   refine .ixa un29 sz3 r e178 r h172 (idx_lt hx174 h172) r r (.ld1 (j:=0) ia3 hC179 r r r r r (.ks 1 r (.nilS [7,12,11,10,5,0] r r (.seq ?_))))
   refine Cod.joinQ (σ:=Bool) hd (fun (s191:Bool) c w=>∃ I_,IH.le I158 I_∧Ok ⟨35,[],none⟩ [(0,.int .i64 a0),(5,.slice p153 s152.length c154),(7,.int .i64 x173),(10,.slice p1 a1.length c2),(11,.int .i64 (a1.length:Int)),(12,.int .i64 s156),(23,.bool s191)] c∧Sym w0 M I I_ [OwnSl eU64 125 p153 c154 s152] w) (fun k192 hd=>?_) ?_
   · skip
     refine .region (.ks 4 r ?_)
     refine splitP hd (fun hb193 hd=>?_) fun hb193 hd=>?_
     · rw [hb193]
       refine .ks 2 r ?_
       have hw195:=fun (J:IH) (hJ:IH.le I158 J) (hL:lentAll J [OwnSl eU64 125 p153 c154 s152])=>W_flags_within (I:=J) (lent hL.1) hd
       refine .gyes r r r (.callB (.f call153 r) (.c .z .n) hw195 r r fun v196 _ hv197=>?_)
       obtain ⟨r194,rfl,hd⟩:=hv197
       exact .ks 1 r (.nil' fun c w ho hs=>⟨r194,hd,I158,(.refl _),ho.sub ⟨r,r,r,r,r,r,r,trivial⟩,hs.pick (.c .z .n)⟩)
     rw [hb193]
     exact .ks 4 r (.nil' fun c w ho hs=>⟨false,hd,I158,(.refl _),ho.sub ⟨r,r,r,r,r,r,r,trivial⟩,hs.pick (.c .z .n)⟩)
   rintro s191 hd c w hst
   obtain ⟨I198,hl199,hok,hsym⟩:=hst
   have le200:=IH.le.trans le160 hl199
   have le201:=IH.le.trans hl159 hl199
   replace R3:=R3.mono hl199
   refine Cod.at hok hsym (.condP r hd (fun hb202 hd=>?_) fun hb202 hd=>?_)
   · refine .ownF .z fun hne203=>?_
     refine .dr [0,1,2,3,4,5,6,7] 8 (.fk 2 r (.g r r r (fun _=>.shr' r r (by decide) r r .mk) ?_))
     obtain ⟨h204,x205,hx206,hd⟩:=hd
     obtain ⟨b207,e208⟩:=hne203 (idx_ne hx206)
     cases e208
     refine .g r r r (fun _=>.ixa0 un40 sz125 r r h204 (idx_lt hx206 h204) r r .mk) (.g r r r (fun _=>.lo1 (j:=0) ia125 .z hx206 r r r r r .mk) (.fk 1 r (.ww r fun ex=>?_)))
     have hw210:=W_flags_bit (I:=I198) hd
     refine .callP call154 r hw210 r r fun v211 hv212=>?_
     obtain ⟨r209,rfl,hd⟩:=hv212
     refine .so 1 r r r (.cg r r r r (fun _=>.lo1 (j:=0) ia125 .z hx206 r r r r r .mk) (.cg r r r r (fun _=>.ixa0 un40 sz125 r r h204 (idx_lt hx206 h204) r r .mk) (.cg r r r r (fun _=>.shr' r r (by decide) r r .mk) (.ck 2 r r trivial)))) (.fk 1 r (.e2 8 ?_))
     obtain ⟨h213,x214,hx215,hd⟩:=hd
     exact .ixa0 un40 sz125 r r h213 (idx_lt hx215 h213) r r (.stO1 (j:=0) (v':=(bor .u64 x205 r209)) sz125 .z hx215 r r r (.t .nil) r (.sub (E':=[(0,_),(5,.slice (some ⟨b207,0,none⟩) (s152.set ((shr .i64 x173 6).toNat) (bor .u64 x205 r209)).length c154),(7,_),(10,_),(11,_),(12,_),(23,_),(24,.slice (some ⟨b207,0,none⟩) (s152.set ((shr .i64 x173 6).toNat) (bor .u64 x205 r209)).length c154),(25,_),(26,_),(27,_),(28,_),(29,_),(30,_),(31,_),(32,_)]) ⟨r,(by simp only [List.length_set]; rfl),r,r,r,r,r,(by simp only [List.length_set]; rfl),r,r,r,r,r,r,r,r,trivial⟩ (.nilS [12,11,10,5,0] r r (.region (.ks 2 r (.nil' fun c w ho hs=>⟨((s152.set ((shr .i64 x173 6).toNat) (bor .u64 x205 r209)),w64 (s156+1)),hd,I198,_,_,le201,ho.sub ⟨r,r,r,r,r,trivial⟩,hs.pick (.c .z .n)⟩))))))
   exact .skipS [12,11,10,5,0] r r (.region (.ks 2 r (.nil' fun c w ho hs=>⟨(s152,w64 (s156+1)),hd,I198,_,_,le201,ho.sub ⟨r,r,r,r,r,trivial⟩,hs.pick (.c .z .n)⟩)))
 refine .exitS [5] r r (.sr (.ks 2 r (.nilS [4] r r (.pub .z fun I216 hl217 R218=>?_))))
 have le219:=IH.le.trans le160 hl217
 have le220:=IH.le.trans hl159 hl217
 exact .ret (pret results152 (.t r .n) le219 ⟨s152,_,_,r,R218,hd⟩)
theorem W_prog_Asked {I:IH} {a0:Plan} {a1:State} {a2:Int} {p1:Option Addr} {c2:Nat} {p4:Option Addr} {c5:Nat} {p7:Option Addr} {c8:Nat} {p10:Option Addr} {c11:Nat} {Q:((List Int)×Bool)→Prop} (R3:RepSl eI64 I p1 c2 a0.Draws) (R6:RepSl eI64 I p4 c5 a1.A) (R9:RepSl eI64 I p7 c8 a1.B) (R12:RepSl eU64 I p10 c11 a1.On) (hd:prog_Asked a0 a1 a2 Q) :
  PFun prog 83 [.agg #[.int .i64 a0.Kind,.int .i64 a0.N,.int .i64 a0.Source,.int .i64 a0.Length,.slice p1 a0.Draws.length c2],.agg #[.int .i64 a1.Low,.int .i64 a1.High,.slice p4 a1.A.length c5,.slice p7 a1.B.length c8,.slice p10 a1.On.length c11],.int .i64 a2] I (o28_ Q):=by
 refine Fun.enter func83 r ntmps83 r (.c (.c (.c .n))) fun w0 M=>?_
 refine .sr (.boxA r r r fun b20=>?_)
 refine .boxA r r r fun b22=>?_
 refine .ks 2 r (.nilS [4,3] r r (.sr (.loadW ia49 sz49 r (.s .z) r r r (.loadW ia42 sz42 r .z r r r ?_))))
 have hw55:=W_prog_sure (I:=I) R3 R6 R9 R12 hd
 refine .call call151 r hw55 r r fun v44 I41 hl42 hv43=>?_
 obtain ⟨r40,p46,c47,p49,c50,p52,c53,rfl,R48,R51,R54,hd⟩:=hv43
 replace R3:=R3.mono hl42
 replace R6:=R6.mono hl42
 replace R9:=R9.mono hl42
 replace R12:=R12.mono hl42
 refine .storeA sz42 r r .z (.t (.t (.t (.t (.t .nil))))) r r (.nilS [4,3] r r (.sr (.ks 1 r (.nilS [8,4,3] r r (.seq ?_)))))
 refine Cod.joinQ (σ:=Int) hd (fun (s60:Int) c w=>∃ I_,IH.le I41 I_∧Ok ⟨44,[],none⟩ [(4,.pointer (some ⟨b22,0,none⟩)),(8,.int .i64 s60)] c∧Sym w0 M I I_ [pto b22 (.cells #[.int .i64 r40.Low,.int .i64 r40.High,.slice p46 r40.A.length c47,.slice p49 r40.B.length c50,.slice p52 r40.On.length c53] 42 (0,0))] w) (fun k61 hd=>?_) ?_
 · skip
   refine .sr (.fa un49 r sz47 r (o:=0) r r r (.load1 ia47 r (.s .z) r r r (.nilS [16,8,4] r r (.drop (.s .z) (.block (.sr (.ks 2 r (.nilS [17,16,8,4] r r (.condP r hd (fun hb62 hd=>?_) fun hb62 hd=>?_)))))))))
   · exact .region (.ks 1 r (.nil' fun c w ho hs=>⟨(-1),hd,I41,(.refl _),ho.sub ⟨r,r,trivial⟩,hs.pick (.c .z .n)⟩))
   refine .sr (.ks 2 r (.nilS [19,8,4] r r (.condP r hd (fun hb63 hd=>?_) fun hb63 hd=>?_)))
   · exact .skip' fun c w ho hs=>⟨0,hd,I41,(.refl _),ho.sub ⟨r,r,trivial⟩,hs.pick (.c .z .n)⟩
   exact .sr (.ks 2 r (.nilS [7,6] r r (.drop .z (.ret (pret results83 (.t r (.t r .n)) hl42 ⟨(([]:List Int),true),_,_,r,(.nil _ _ _),hd⟩)))))
 rintro s60 hd c w hst
 obtain ⟨I64,hl65,hok,hsym⟩:=hst
 have le66:=IH.le.trans hl42 hl65
 replace R48:=R48.mono hl65
 replace R51:=R51.mono hl65
 replace R54:=R54.mono hl65
 refine Cod.at hok hsym (.sr (.ks 1 r (.nilS [9,8,4] r r (.seq (.sr (.fa un42 r sz30 r (o:=2) r r r (.load1 ia30 r .z r r r (.len un30 r r r r (.ks 1 r ?_)))))))))
 refine .nilS [24,23,22,9,8,4] r r (.block (.own0 eI64 3 (.loop hd (fun (s:(List Int)×Int) c w=>match s with | (s245,s249)=>∃ I_ p246 c247,IH.le I64 I_∧Ok ⟨44,[],none⟩ [(4,.pointer (some ⟨b22,0,none⟩)),(8,.int .i64 s60),(9,.slice p246 s245.length c247),(22,.slice p46 r40.A.length c47),(23,.int .i64 (r40.A.length:Int)),(24,.int .i64 s249)] c∧Sym w0 M I I_ [pto b22 (.cells #[.int .i64 r40.Low,.int .i64 r40.High,.slice p46 r40.A.length c47,.slice p49 r40.B.length c50,.slice p52 r40.On.length c53] 42 (0,0)),OwnSl eI64 3 p246 c247 s245] w) (fun c w ho hs=>⟨I64,_,_,(.refl _),ho.sub ⟨r,r,r,r,r,r,trivial⟩,hs.pick (.c (.s .z) (.c .z .n))⟩) ?_)))
 rintro ⟨s245,s249⟩ next251 hd c w hst
 obtain ⟨I252,p246,c247,hl253,hok,hsym⟩:=hst
 have le254:=IH.le.trans le66 hl253
 have le255:=IH.le.trans hl65 hl253
 replace R48:=R48.mono hl253
 replace R51:=R51.mono hl253
 replace R54:=R54.mono hl253
 refine Cod.at hok hsym (.sr (.ks 1 r (.nilS [25,24,23,22,9,8,4] r r (.seq (.condP r hd (fun hb257 hd=>?_) fun hb257 hd=>?_)))))
 · refine .skipS [24,23,22,9,8,4] r r (.seq (.block (.sr (.ks 1 r ?_))))
   obtain ⟨h267,x268,hx269,hd⟩:=hd
   obtain ⟨b270,o271,cs272,e273,hC274,hr275⟩:=R48.2 _ _ hx269
   cases hr275
   refine .ixa un30 sz2 r e273 r h267 (idx_lt hx269 h267) r r (.ld1 (j:=0) ia2 hC274 r r r r r (.ks 2 r (.nilS [11,10,24,23,22,9,8,4] r r (.sr (.ks 3 r (.nilS [31,10,24,23,22,9,8,4] r r (.condP r hd (fun hb276 hd=>?_) fun hb276 hd=>?_)))))))
   · refine .region (.ks 2 r (.buildSlice 1 un29 sz3 zv3 r r (.c r r r .n) r r fun b277=>?_))
     obtain ⟨hl279,hd⟩:=hd
     refine .append (ys:=[s249]) 8 (.s (.s .z)) un29 un29 IN3 r r r r r r r r r (.box .z (.one r) r) hl279 r r fun p280 c281=>?_
     exact .ks 1 r (.nilS [9,24,23,22,8,4] r r (.drop (.s .z) (.region (.ks 2 r (.nil' fun c w ho hs=>⟨((s245++([s249])),w64 (s249+1)),hd,I252,_,_,hl253,ho.sub ⟨r,r,r,r,r,r,trivial⟩,hs.pick (.c (.s .z) (.c .z .n))⟩)))))
   exact .skipS [24,23,22,9,8,4] r r (.region (.ks 2 r (.nil' fun c w ho hs=>⟨(s245,w64 (s249+1)),hd,I252,_,_,hl253,ho.sub ⟨r,r,r,r,r,r,trivial⟩,hs.pick (.c .z (.c .z .n))⟩)))
 refine .exitS [9,4] r r (.sr (.fa un42 r sz3 r (o:=1) r r r (.load1 ia3 r .z r r r (.fa un42 r sz3 r (o:=0) r r r (.load1 ia3 r .z r r r (.ks 2 r (.pub (.s .z) fun I283 hl284 R285=>?_)))))))
 have le286:=IH.le.trans le254 hl284
 have le287:=IH.le.trans le255 hl284
 have le288:=IH.le.trans hl253 hl284
 replace R48:=R48.mono hl284
 replace R51:=R51.mono hl284
 replace R54:=R54.mono hl284
 have hw298:=W_flags_Of (I:=I283) R285 hd
 refine .call call152 r hw298 r r fun v293 I290 hl291 hv292=>?_
 obtain ⟨r289,p295,c296,rfl,R297,hd⟩:=hv292
 have le299:=IH.le.trans le286 hl291
 have le300:=IH.le.trans le287 hl291
 have le301:=IH.le.trans le288 hl291
 replace R48:=R48.mono hl291
 replace R51:=R51.mono hl291
 replace R54:=R54.mono hl291
 replace R285:=R285.mono hl291
 exact .ks 2 r (.nilS [7,6] r r (.drop .z (.ret (pret results83 (.t r (.t r .n)) le299 ⟨(r289,false),_,_,r,R297,hd⟩))))
theorem W_spvec_within {I:IH} {a0:Int} {a1:Int} {Q:Bool→Prop}  (hd:spvec_within a0 a1 Q) :
  PFun prog 216 [.int .i64 a0,.int .i64 a1] I (fun _=>o4_ Q):=by
 refine Fun.enter func216 r ntmps216 r (.c (.c .n)) fun w0 M=>?_
 refine .sr (.ks 1 r (.nilS [1,0] r r (.sr (.ks 3 r ?_))))
 refine splitP hd (fun hb1 hd=>?_) fun hb1 hd=>?_
 · rw [hb1]
   exact .ks 5 r (.nilS [4] r r (.ret (pret results216 (.t r .n) (.refl _) ⟨(decide (a0≤a1)),r,hd⟩)))
 rw [hb1]
 exact .ks 5 r (.nilS [4] r r (.ret (pret results216 (.t r .n) (.refl _) ⟨false,r,hd⟩)))
theorem W_spvec_Right_1_81a {I:IH} {o0:Int} {o1:Vec} {a0:Item} {b3:Nat} {b4:Nat} {p5:Option Addr} {c6:Nat} {Q:(Bool×Int)→Prop} (R7:RepSl eItem I p5 c6 o1.Items) (hd:spvec_Right_1_81a o0 o1 a0 Q) :
  Fun prog 218 #[.agg (encItem a0).toArray,.pointer (some ⟨b3,0,none⟩),.pointer (some ⟨b4,0,none⟩)] I [pto b3 (.cells #[.int .i64 o0] 3 (0,0)),pto b4 (.cells #[.int .i64 o1.N,.slice p5 o1.Items.length c6] 54 (0,0))] (fun I_ v l=>∃ r,v=.bool r.1∧l=[pto b3 (.cells #[.int .i64 r.2] 3 (0,0)),pto b4 (.cells #[.int .i64 o1.N,.slice p5 o1.Items.length c6] 54 (0,0))]∧Q r):=by
 refine Fun.enter (vs:=[.agg (encItem a0).toArray,.pointer (some ⟨b3,0,none⟩),.pointer (some ⟨b4,0,none⟩)]) func218 r ntmps218 r (.c (.c (.c .n))) fun w0 M=>?_
 refine .sr (.boxA r r r fun b10=>?_)
 refine .ks 1 r (.nilS [3,2,1] r r (.sr (.fa un51 r sz3 r (o:=0) r r r (.load1 ia3 r .z r r r (.load1 ia3 r (.s .z) r r r (.ks 2 r ?_))))))
 refine splitP hd (fun hb12 hd=>?_) fun hb12 hd=>?_
 · rw [hb12]
   refine .ks 7 r (.nilS [5,3,2,1] r r (.sr (.fa un51 r sz3 r (o:=0) r r r (.load1 ia3 r .z r r r (.store1 sz3 r r (.s .z) (.t .nil) r (.nilS [5,2,1] r r (.drop .z (.sr (.ks 2 r ?_)))))))))
   exact .nilS [4,2,1] r r (.ret (oret results218 (.t r .n) (.refl _) (.c .z (.c .z .n)) ⟨(true,a0.At),r,r,hd⟩))
 rw [hb12]
 refine .gyes r r r (.fa un51 r sz3 r (o:=0) r r r (.gyes r r r (.load1 ia3 r .z r r r (.gyes r r r (.fa un54 r sz3 r (o:=0) r r r (.gyes r r r (.load1 ia3 r (.s (.s .z)) r r r (.ks 3 r (.nilS [5,3,2,1] r r (.sr (.fa un51 r sz3 r (o:=0) r r r (.load1 ia3 r .z r r r (.store1 sz3 r r (.s .z) (.t .nil) r ?_)))))))))))))
 exact .nilS [5,2,1] r r (.drop .z (.sr (.ks 2 r (.nilS [4,2,1] r r (.ret (oret results218 (.t r .n) (.refl _) (.c .z (.c .z .n)) ⟨(decide (o1.N≤a0.At),a0.At),r,r,hd⟩))))))
theorem W_slices_IndexFunc_api_Item_api_Item_a3e {I:IH} {o0:Int} {o1:Vec} {a0:List Item} {b3:Nat} {b4:Nat} {p5:Option Addr} {c6:Nat} {p8:Option Addr} {c9:Nat} {Q:(Int×Int)→Prop} (R7:RepSl eItem I p5 c6 o1.Items) (R10:RepSl eItem I p8 c9 a0) (hd:slices_IndexFunc_api_Item_api_Item_a3e o0 o1 a0 Q) :
  Fun prog 251 #[.slice p8 a0.length c9,.func (.func 218) #[] #[.pointer (some ⟨b3,0,none⟩),.pointer (some ⟨b4,0,none⟩)]] I [pto b3 (.cells #[.int .i64 o0] 3 (0,0)),pto b4 (.cells #[.int .i64 o1.N,.slice p5 o1.Items.length c6] 54 (0,0))] (fun I_ v l=>∃ r,v=.int .i64 r.1∧l=[pto b3 (.cells #[.int .i64 r.2] 3 (0,0)),pto b4 (.cells #[.int .i64 o1.N,.slice p5 o1.Items.length c6] 54 (0,0))]∧Q r):=by
 refine Fun.enter (vs:=[.slice p8 a0.length c9,.func (.func 218) #[] #[.pointer (some ⟨b3,0,none⟩),.pointer (some ⟨b4,0,none⟩)]]) func251 r ntmps251 r (.c (.c .n)) fun w0 M=>?_
 refine .sr (.ks 1 r (.nilS [1,0] r r (.seq (.sr (.ks 1 r (.len un52 r r r r (.ks 1 r (.nilS [8,7,1,0] r r (.block ?_)))))))))
 refine .loop hd (fun (s:Int×Int) c w=>match s with | (s59,s60)=>∃ I_,IH.le I I_∧Ok ⟨19,[],none⟩ [(0,.slice p8 a0.length c9),(1,.func (.func 218) #[] #[.pointer (some ⟨b3,0,none⟩),.pointer (some ⟨b4,0,none⟩)]),(7,.int .i64 (a0.length:Int)),(8,.int .i64 s60)] c∧Sym w0 M I I_ [pto b3 (.cells #[.int .i64 s59] 3 (0,0)),pto b4 (.cells #[.int .i64 o1.N,.slice p5 o1.Items.length c6] 54 (0,0))] w) (fun c w ho hs=>⟨I,(.refl _),ho.sub ⟨r,r,r,r,trivial⟩,hs.pick (.c .z (.c .z .n))⟩) ?_
 rintro ⟨s59,s60⟩ next61 hd c w hst
 obtain ⟨I62,hl63,hok,hsym⟩:=hst
 replace R7:=R7.mono hl63
 replace R10:=R10.mono hl63
 refine Cod.at hok hsym (.sr (.ks 1 r (.nilS [9,8,7,1,0] r r (.seq (.condP r hd (fun hb65 hd=>?_) fun hb65 hd=>?_)))))
 · refine .skipS [8,7,1,0] r r (.seq (.block (.sr (.ks 2 r (.nilS [5,8,7,1,0] r r (.sr (.ks 3 r ?_)))))))
   obtain ⟨h66,x67,hx68,hd⟩:=hd
   obtain ⟨b69,o70,cs71,e72,hC73,hr74⟩:=R10.2 _ _ hx68
   cases hr74
   refine .ixa un52 sz51 r e72 r h66 (idx_lt hx68 h66) r r (.ldW isAgg51 sz51 hC73 r r r r ?_)
   have hw75:=W_spvec_Right_1_81a (I:=I62) (o0:=s59) (o1:=o1) (a0:=x67) (b3:=b3) (b4:=b4) (p5:=p5) (c6:=c6) R7 hd
   refine .callS (.c call218 r r) (.c .z (.c .z .n)) hw75 r r fun v79 I76 l80 hl77 hv78=>?_
   obtain ⟨r81,rfl,rfl,hd⟩:=hv78
   have le84:=IH.le.trans hl63 hl77
   replace R7:=R7.mono hl77
   replace R10:=R10.mono hl77
   replace hC73:=hC73.mono hl77
   refine .re (m':=[pto b3 (.cells #[.int .i64 r81.2] 3 (0,0)),pto b4 (.cells #[.int .i64 o1.N,.slice p5 o1.Items.length c6] 54 (0,0))]) r (.nilS [16,5,8,7,1,0] r r (.condP r hd (fun hb85 hd=>?_) fun hb85 hd=>?_))
   · exact .sr (.ks 2 r (.nilS [4,1] r r (.ret (oret results251 (.t r .n) le84 (.c .z (.c .z .n)) ⟨(s60,r81.2),r,r,hd⟩))))
   exact .skipS [8,7,1,0] r r (.region (.ks 2 r (.nil' fun c w ho hs=>⟨(r81.2,w64 (s60+1)),hd,I76,le84,ho.sub ⟨r,r,r,r,trivial⟩,hs.pick (.c .z (.c .z .n))⟩)))
 exact .exitS [1] r r (.sr (.ks 1 r (.nilS [4,1] r r (.ret (oret results251 (.t r .n) hl63 (.c .z (.c .z .n)) ⟨((-1),s59),r,r,hd⟩)))))
theorem W_slices_ContainsFunc_api_Item_api_Item_cd0 {I:IH} {o0:Int} {o1:Vec} {a0:List Item} {b3:Nat} {b4:Nat} {p5:Option Addr} {c6:Nat} {p8:Option Addr} {c9:Nat} {Q:(Bool×Int)→Prop} (R7:RepSl eItem I p5 c6 o1.Items) (R10:RepSl eItem I p8 c9 a0) (hd:slices_ContainsFunc_api_Item_api_Item_cd0 o0 o1 a0 Q) :
  Fun prog 217 #[.slice p8 a0.length c9,.func (.func 218) #[] #[.pointer (some ⟨b3,0,none⟩),.pointer (some ⟨b4,0,none⟩)]] I [pto b3 (.cells #[.int .i64 o0] 3 (0,0)),pto b4 (.cells #[.int .i64 o1.N,.slice p5 o1.Items.length c6] 54 (0,0))] (fun I_ v l=>∃ r,v=.bool r.1∧l=[pto b3 (.cells #[.int .i64 r.2] 3 (0,0)),pto b4 (.cells #[.int .i64 o1.N,.slice p5 o1.Items.length c6] 54 (0,0))]∧Q r):=by
 refine Fun.enter (vs:=[.slice p8 a0.length c9,.func (.func 218) #[] #[.pointer (some ⟨b3,0,none⟩),.pointer (some ⟨b4,0,none⟩)]]) func217 r ntmps217 r (.c (.c .n)) fun w0 M=>?_
 refine .sr (.ks 1 r (.nilS [1,0] r r (.sr (.ks 2 r ?_))))
 have hw11:=W_slices_IndexFunc_api_Item_api_Item_a3e (I:=I) (o0:=o0) (o1:=o1) (a0:=a0) (b3:=b3) (b4:=b4) (p5:=p5) (c6:=c6) R7 R10 hd
 refine .callS (.f call251 r) (.c .z (.c .z .n)) hw11 r r fun v15 I12 l16 hl13 hv14=>?_
 obtain ⟨r17,rfl,rfl,hd⟩:=hv14
 replace R7:=R7.mono hl13
 replace R10:=R10.mono hl13
 exact .re (m':=[pto b3 (.cells #[.int .i64 r17.2] 3 (0,0)),pto b4 (.cells #[.int .i64 o1.N,.slice p5 o1.Items.length c6] 54 (0,0))]) r (.ks 2 r (.nilS [4,1] r r (.ret (oret results217 (.t r .n) hl13 (.c .z (.c .z .n)) ⟨(decide (0≤r17.1),r17.2),r,r,hd⟩))))
theorem W_spvec_Right {I:IH} {a0:Vec} {p1:Option Addr} {c2:Nat} {Q:Bool→Prop} (R3:RepSl eItem I p1 c2 a0.Items) (hd:spvec_Right a0 Q) :
  PFun prog 155 [.agg #[.int .i64 a0.N,.slice p1 a0.Items.length c2]] I (fun _=>o4_ Q):=by
 refine Fun.enter func155 r ntmps155 r (.c .n) fun w0 M=>?_
 refine .sr (.boxA r r r fun b6=>?_)
 refine .ks 1 r (.nilS [1] r r (.seq (.sr (.fa un54 r sz3 r (o:=0) r r r (.load1 ia3 r .z r r r ?_)))))
 have hw14:=W_spvec_within (I:=I) hd
 refine .callP call216 r hw14 r r fun v15 hv16=>?_
 obtain ⟨r13,rfl,hd⟩:=hv16
 refine .ks 1 r (.nilS [7,1] r r (.condP r hd (fun hb17 hd=>?_) fun hb17 hd=>?_))
 · exact .sr (.ks 1 r (.nilS [2] r r (.drop .z (.ret (pret results155 (.t r .n) (.refl _) ⟨false,r,hd⟩)))))
 refine .skipS [1] r r (.sr (.alloc1 zv3 r r r fun b18=>?_))
 refine .store1 sz3 r r .z (.t .nil) r (.nilS [3,1] r r (.sr (.fa un54 r sz52 r (o:=1) r r r (.load1 ia52 r (.s .z) r r r (.mkFn r r r r ?_)))))
 have hw20:=W_slices_ContainsFunc_api_Item_api_Item_cd0 (I:=I) (o0:=(-1)) (o1:=a0) (a0:=a0.Items) (b3:=b18) (b4:=b6) (p5:=p1) (c6:=c2) R3 R3 hd
 refine .callS (.f call217 r) (.c .z (.c .z .n)) hw20 r r fun v24 I21 l25 hl22 hv23=>?_
 obtain ⟨r26,rfl,rfl,hd⟩:=hv23
 replace R3:=R3.mono hl22
 exact .re (m':=[pto b18 (.cells #[.int .i64 r26.2] 3 (0,0)),pto b6 (.cells #[.int .i64 a0.N,.slice p1 a0.Items.length c2] 54 (0,0))]) r (.ks 2 r (.nilS [2] r r (.drop .z (.drop .z (.ret (pret results155 (.t r .n) hl22 ⟨(!r26.1),r,hd⟩))))))
theorem W_slices_Clone_int64_int64 {I:IH} {a0:List Int} {p1:Option Addr} {c2:Nat} {Q:(List Int)→Prop} (R3:RepSl eI64 I p1 c2 a0) (hd:slices_Clone_int64_int64 a0 Q) :
  PFun prog 156 [.slice p1 a0.length c2] I (o29_ Q):=by
 refine Fun.enter func156 r ntmps156 r (.c .n) fun w0 M=>?_
 refine .sr (.ks 1 r (.nilS [0] r r (.seq (.sr (.ks 1 r (.eqNilS un30 r r r r (.nilS [4,0] r r ?_)))))))
 refine split p1.isNone (fun hb7=>?_) (fun hb7=>?_)
 · have hd:=hd.1 (RepSl.ofNone R3 hb7)
   exact .condKT r hb7 (.sr (.ks 1 r (.nilS [2] r r (.ret (pret results156 (.t r .n) (.refl _) ⟨([]:List Int),_,_,r,(.nil _ _ _),hd⟩)))))
 have hd:=hd.2
 refine .condKF r hb7 (.skipS [0] r r (.sr (.buildSlice 0 un30 sz2 zv2 r r .n r r fun b9=>?_)))
 refine .ks 1 r (.ownB (El:=eI64) (ys:=([]:List Int)) .z .nil r ?_)
 obtain ⟨hl12,hd⟩:=hd
 refine .append (ys:=a0) 8 .z un30 un30 IN2 r r r r r r r r r (.imm R3 r) hl12 r r fun p13 c14=>?_
 refine .ks 1 r (.nilS [2] r r (.pub .z fun I16 hl17 R18=>?_))
 exact .ret (pret results156 (.t r .n) hl17 ⟨(([]:List Int)++a0),_,_,r,R18,hd⟩)
theorem W_slices_Clone_uint64_uint64 {I:IH} {a0:List Int} {p1:Option Addr} {c2:Nat} {Q:(List Int)→Prop} (R3:RepSl eU64 I p1 c2 a0) (hd:slices_Clone_uint64_uint64 a0 Q) :
  PFun prog 157 [.slice p1 a0.length c2] I (o20_ Q):=by
 refine Fun.enter func157 r ntmps157 r (.c .n) fun w0 M=>?_
 refine .sr (.ks 1 r (.nilS [0] r r (.seq (.sr (.ks 1 r (.eqNilS un40 r r r r (.nilS [4,0] r r ?_)))))))
 refine split p1.isNone (fun hb7=>?_) (fun hb7=>?_)
 · have hd:=hd.1 (RepSl.ofNone R3 hb7)
   exact .condKT r hb7 (.sr (.ks 1 r (.nilS [2] r r (.ret (pret results157 (.t r .n) (.refl _) ⟨([]:List Int),_,_,r,(.nil _ _ _),hd⟩)))))
 have hd:=hd.2
 refine .condKF r hb7 (.skipS [0] r r (.sr (.buildSlice 0 un40 sz125 zeroValue125 r r .n r r fun b9=>?_)))
 refine .ks 1 r (.ownB (El:=eU64) (ys:=([]:List Int)) .z .nil r ?_)
 obtain ⟨hl12,hd⟩:=hd
 refine .append (ys:=a0) 8 .z un40 un40 IN125 r r r r r r r r r (.imm R3 r) hl12 r r fun p13 c14=>?_
 refine .ks 1 r (.nilS [2] r r (.pub .z fun I16 hl17 R18=>?_))
 exact .ret (pret results157 (.t r .n) hl17 ⟨(([]:List Int)++a0),_,_,r,R18,hd⟩)
theorem W_flags_ones {I:IH} {a0:Int} {Q:Int→Prop}  (hd:flags_ones a0 Q) :
  PFun prog 236 [.int .u64 a0] I (fun _=>o0_ Q):=by
 refine Fun.enter func236 r ntmps236 r (.c .n) fun w0 M=>?_
 refine .sr (.ks 1 r (.nilS [0] r r (.scope (.sr (.ks 1 r (.nilS [3,0] r r (.seq (.labelS [3,0] r r (.seq ?_)))))))))
 refine .block (.loop hd (fun (s:Int×Int) c w=>match s with | (s9,s10)=>∃ I_,IH.le I I_∧Ok ⟨13,[],none⟩ [(0,.int .u64 s9),(3,.int .i64 s10)] c∧Sym w0 M I I_ [] w) (fun c w ho hs=>⟨I,(.refl _),ho.sub ⟨r,r,trivial⟩,hs.pick .n⟩) ?_)
 rintro ⟨s9,s10⟩ next11 hd c w hst
 obtain ⟨I12,hl13,hok,hsym⟩:=hst
 refine Cod.at hok hsym (.block (.seq (.sr (.ks 2 r (.nilS [5,3,0] r r (.condP r hd (fun hb14 hd=>?_) fun hb14 hd=>?_))))))
 · exact .exitS [3] r r (.sr (.ks 2 r (.nilS [2] r r (.ret (pret results236 (.t r .n) hl13 ⟨s10,r,hd⟩)))))
 exact .skipS [3,0] r r (.sr (.ks 5 r (.nilS [0,3] r r (.region (.ks 3 r (.nil' fun c w ho hs=>⟨(bnd .u64 s9 (IntKind.wrap .u64 (s9 - 1)),w64 (s10+1)),hd,I12,hl13,ho.sub ⟨r,r,trivial⟩,hs.pick .n⟩))))))
theorem W_flags_Count {I:IH} {a0:List Int} {p1:Option Addr} {c2:Nat} {Q:Int→Prop} (R3:RepSl eU64 I p1 c2 a0) (hd:flags_Count a0 Q) :
  PFun prog 185 [.slice p1 a0.length c2] I (fun _=>o0_ Q):=by
 refine Fun.enter func185 r ntmps185 r (.c .n) fun w0 M=>?_
 refine .sr (.ks 1 r (.nilS [0] r r (.sr (.ks 1 r (.nilS [3,0] r r (.seq (.sr (.ks 1 r (.len un40 r r r r ?_)))))))))
 refine .ks 1 r (.nilS [8,7,6,3] r r (.block (.loop hd (fun (s:Int×Int) c w=>match s with | (s40,s41)=>∃ I_,IH.le I I_∧Ok ⟨18,[],none⟩ [(3,.int .i64 s40),(6,.slice p1 a0.length c2),(7,.int .i64 (a0.length:Int)),(8,.int .i64 s41)] c∧Sym w0 M I I_ [] w) (fun c w ho hs=>⟨I,(.refl _),ho.sub ⟨r,r,r,r,trivial⟩,hs.pick .n⟩) ?_)))
 rintro ⟨s40,s41⟩ next42 hd c w hst
 obtain ⟨I43,hl44,hok,hsym⟩:=hst
 replace R3:=R3.mono hl44
 refine Cod.at hok hsym (.sr (.ks 1 r (.nilS [9,8,7,6,3] r r (.seq (.condP r hd (fun hb46 hd=>?_) fun hb46 hd=>?_)))))
 · refine .skipS [8,7,6,3] r r (.seq (.block (.sr ?_)))
   obtain ⟨h47,x48,hx49,hd⟩:=hd
   obtain ⟨b50,o51,cs52,e53,hC54,hr55⟩:=R3.2 _ _ hx49
   cases hr55
   refine .ixa un40 sz125 r e53 r h47 (idx_lt hx49 h47) r r (.ld1 (j:=0) ia125 hC54 r r r r r (.ks 1 r (.nilS [5,8,7,6,3] r r (.region (.ks 2 r ?_)))))
   have hw57:=W_flags_ones (I:=I43) hd
   refine .callP call236 r hw57 r r fun v58 hv59=>?_
   obtain ⟨r56,rfl,hd⟩:=hv59
   exact .ks 2 r (.nilS [3,8,7,6] r r (.region (.ks 2 r (.nil' fun c w ho hs=>⟨(w64 (s40+r56),w64 (s41+1)),hd,I43,hl44,ho.sub ⟨r,r,r,r,trivial⟩,hs.pick .n⟩))))
 exact .exitS [3] r r (.sr (.ks 2 r (.nilS [2] r r (.ret (pret results185 (.t r .n) hl44 ⟨s40,r,hd⟩)))))
theorem W_prog_Live {I:IH} {a0:Plan} {a1:State} {a2:Int} {p1:Option Addr} {c2:Nat} {p4:Option Addr} {c5:Nat} {p7:Option Addr} {c8:Nat} {p10:Option Addr} {c11:Nat} {Q:Int→Prop} (R3:RepSl eI64 I p1 c2 a0.Draws) (R6:RepSl eI64 I p4 c5 a1.A) (R9:RepSl eI64 I p7 c8 a1.B) (R12:RepSl eU64 I p10 c11 a1.On) (hd:prog_Live a0 a1 a2 Q) :
  PFun prog 116 [.agg #[.int .i64 a0.Kind,.int .i64 a0.N,.int .i64 a0.Source,.int .i64 a0.Length,.slice p1 a0.Draws.length c2],.agg #[.int .i64 a1.Low,.int .i64 a1.High,.slice p4 a1.A.length c5,.slice p7 a1.B.length c8,.slice p10 a1.On.length c11],.int .i64 a2] I (fun _=>o0_ Q):=by
 refine Fun.enter func116 r ntmps116 r (.c (.c (.c .n))) fun w0 M=>?_
 refine .sr (.boxA r r r fun b17=>?_)
 refine .boxA r r r fun b19=>?_
 refine .ks 1 r (.nilS [4,3,2] r r (.sr (.loadW ia49 sz49 r (.s .z) r r r (.loadW ia42 sz42 r .z r r r ?_))))
 have hw52:=W_prog_sure (I:=I) R3 R6 R9 R12 hd
 refine .call call151 r hw52 r r fun v41 I38 hl39 hv40=>?_
 obtain ⟨r37,p43,c44,p46,c47,p49,c50,rfl,R45,R48,R51,hd⟩:=hv40
 replace R3:=R3.mono hl39
 replace R6:=R6.mono hl39
 replace R9:=R9.mono hl39
 replace R12:=R12.mono hl39
 refine .storeA sz42 r r .z (.t (.t (.t (.t (.t .nil))))) r r (.nilS [4,3,2] r r (.seq (.sr (.fa un49 r sz47 r (o:=0) r r r (.load1 ia47 r (.s .z) r r r (.nilS [14,4,3,2] r r (.block (.sr (.ks 2 r ?_)))))))))
 refine .nilS [15,14,4,3,2] r r (.condP r hd (fun hb53 hd=>?_) fun hb53 hd=>?_)
 · refine .sr (.ks 1 r (.fa un49 r sz3 r (o:=3) r r r (.load1 ia3 r (.s .z) r r r (.ks 1 r (.nilS [20,4] r r (.drop (.s .z) (.condP r hd (fun hb54 hd=>?_) fun hb54 hd=>?_)))))))
   · exact .sr (.ks 1 r (.nilS [6] r r (.drop .z (.ret (pret results116 (.t r .n) hl39 ⟨0,r,hd⟩)))))
   refine .skipS [4] r r (.sr (.fa un42 r sz40 r (o:=4) r r r (.load1 ia40 r .z r r r ?_)))
   have hw56:=W_flags_Count (I:=I38) R51 hd
   refine .callP call185 r hw56 r r fun v57 hv58=>?_
   obtain ⟨r55,rfl,hd⟩:=hv58
   exact .ks 1 r (.nilS [6] r r (.drop .z (.ret (pret results116 (.t r .n) hl39 ⟨r55,r,hd⟩))))
 refine .sr (.ks 2 r (.nilS [21,4] r r (.drop (.s .z) (.condP r hd (fun hb59 hd=>?_) fun hb59 hd=>?_))))
 · refine .sr (.ks 1 r (.nilS [7,4] r r (.seq (.sr (.fa un42 r sz30 r (o:=2) r r r (.load1 ia30 r .z r r r (.len un30 r r r r (.ks 1 r (.nilS [26,25,24,7] r r ?_)))))))))
   refine .drop .z (.block (.loop hd (fun (s:Int×Int) c w=>match s with | (s90,s91)=>∃ I_,IH.le I38 I_∧Ok ⟨39,[],none⟩ [(7,.int .i64 s90),(24,.slice p43 r37.A.length c44),(25,.int .i64 (r37.A.length:Int)),(26,.int .i64 s91)] c∧Sym w0 M I I_ [] w) (fun c w ho hs=>⟨I38,(.refl _),ho.sub ⟨r,r,r,r,trivial⟩,hs.pick .n⟩) ?_))
   rintro ⟨s90,s91⟩ next92 hd c w hst
   obtain ⟨I93,hl94,hok,hsym⟩:=hst
   have le95:=IH.le.trans hl39 hl94
   replace R45:=R45.mono hl94
   refine Cod.at hok hsym (.sr (.ks 1 r (.nilS [27,26,25,24,7] r r (.seq (.condP r hd (fun hb97 hd=>?_) fun hb97 hd=>?_)))))
   · refine .skipS [26,25,24,7] r r (.seq (.block (.sr ?_)))
     obtain ⟨h98,x99,hx100,hd⟩:=hd
     obtain ⟨b101,o102,cs103,e104,hC105,hr106⟩:=R45.2 _ _ hx100
     cases hr106
     refine .ixa un30 sz2 r e104 r h98 (idx_lt hx100 h98) r r (.ld1 (j:=0) ia2 hC105 r r r r r (.ks 1 r (.nilS [9,26,25,24,7] r r (.sr (.ks 2 r (.nilS [31,26,25,24,7] r r (.condP r hd (fun hb107 hd=>?_) fun hb107 hd=>?_)))))))
     · exact .region (.ks 3 r (.nilS [7,26,25,24] r r (.region (.ks 2 r (.nil' fun c w ho hs=>⟨(w64 (s90+1),w64 (s91+1)),hd,I93,hl94,ho.sub ⟨r,r,r,r,trivial⟩,hs.pick .n⟩)))))
     exact .skipS [26,25,24,7] r r (.region (.ks 2 r (.nil' fun c w ho hs=>⟨(s90,w64 (s91+1)),hd,I93,hl94,ho.sub ⟨r,r,r,r,trivial⟩,hs.pick .n⟩)))
   exact .exitS [7] r r (.sr (.ks 2 r (.nilS [6] r r (.ret (pret results116 (.t r .n) le95 ⟨s90,r,hd⟩)))))
 refine .skipS [4] r r (.sr (.fa un42 r sz40 r (o:=4) r r r (.load1 ia40 r .z r r r ?_)))
 have hw109:=W_flags_Count (I:=I38) R51 hd
 refine .callP call185 r hw109 r r fun v110 hv111=>?_
 obtain ⟨r108,rfl,hd⟩:=hv111
 exact .ks 1 r (.nilS [6] r r (.drop .z (.ret (pret results116 (.t r .n) hl39 ⟨r108,r,hd⟩))))
theorem W_model_whole {I:IH} {a0:Plan} {a1:State} {p1:Option Addr} {c2:Nat} {p4:Option Addr} {c5:Nat} {p7:Option Addr} {c8:Nat} {p10:Option Addr} {c11:Nat} {Q:Bool→Prop} (R3:RepSl eI64 I p1 c2 a0.Draws) (R6:RepSl eI64 I p4 c5 a1.A) (R9:RepSl eI64 I p7 c8 a1.B) (R12:RepSl eU64 I p10 c11 a1.On) (hd:model_whole a0 a1 Q) :
  PFun prog 97 [.agg #[.int .i64 a0.Kind,.int .i64 a0.N,.int .i64 a0.Source,.int .i64 a0.Length,.slice p1 a0.Draws.length c2],.agg #[.int .i64 a1.Low,.int .i64 a1.High,.slice p4 a1.A.length c5,.slice p7 a1.B.length c8,.slice p10 a1.On.length c11]] I (fun _=>o4_ Q):=by
 refine Fun.enter func97 r ntmps97 r (.c (.c .n)) fun w0 M=>?_
 refine .sr (.boxA r r r fun b17=>?_)
 refine .boxA r r r fun b19=>?_
 refine .ks 1 r (.nilS [3,2] r r (.seq (.dr [0,1,2,3,4,5,6,7,8,9,10,11,12,15,16,13,14,17,18,19,20,21,22,23,24,25,26,27,28,29,30,31,32,33,34,35,36,37,38,39,40,41] 42 (.g r r r (fun _=>.fa un42 r sz3 r (o:=0) r r r .mk) (.g r r r (fun _=>.load1 ia3 r .z r r r .mk) (.fk 2 r ?_))))))
 refine splitP hd (fun hb21 hd=>?_) fun hb21 hd=>?_
 · refine .g r r r (fun _=>.gyes r r hb21 (.fa un42 r sz3 r (o:=1) r r r .mk)) (.g r r r (fun _=>.gyes r r hb21 (.load1 ia3 r .z r r r .mk)) (.g r r r (fun _=>.gyes r r hb21 (.fa un49 r sz3 r (o:=1) r r r .mk)) (.g r r r (fun _=>.gyes r r hb21 (.load1 ia3 r (.s .z) r r r .mk)) (.g r r r (fun _=>.gyes r r hb21 (.eq r r r r .mk)) (.g r r r (fun _=>.pickT r hb21 r r r .mk) (.fk 1 r ?_))))))
   refine splitP hd (fun hb22 hd=>?_) fun hb22 hd=>?_
   · refine .g r r r (fun _=>.gyes r r hb22 (.loadW ia49 sz49 r (.s .z) r r r .mk)) (.g r r r (fun _=>.gyes r r hb22 (.loadW ia42 sz42 r .z r r r .mk)) (.g r r r (fun _=>.gyes r r hb22 (.fa un49 r sz3 r (o:=1) r r r .mk)) (.g r r r (fun _=>.gyes r r hb22 (.load1 ia3 r (.s .z) r r r .mk)) (.ww r fun ex=>?_))))
     have hw32:=W_prog_Out (I:=I) R3 R6 R9 R12 hd
     refine .gyes r r hb22 (.call call99 r hw32 r r fun v27 I24 hl25 hv26=>?_)
     obtain ⟨r23,p29,c30,rfl,R31,hd⟩:=hv26
     replace R3:=R3.mono hl25
     replace R6:=R6.mono hl25
     replace R9:=R9.mono hl25
     replace R12:=R12.mono hl25
     refine .so 2 r r r (.cg r r r r (fun _=>.gyes r r hb22 (.load1 ia3 r (.s .z) r r r .mk)) (.cg r r r r (fun _=>.gyes r r hb22 (.fa un49 r sz3 r (o:=1) r r r .mk)) trivial)) (.g r r r (fun _=>.gyes r r hb22 (.field1 un54 r ia3 r r r r .mk)) (.g r r r (fun _=>.gyes r r hb22 (.eq r r r r .mk)) (.g r r r (fun _=>.pickT r hb22 r r r .mk) (.fk 1 r ?_))))
     refine splitP hd (fun hb33 hd=>?_) fun hb33 hd=>?_
     · refine .g r r r (fun _=>.gyes r r hb33 (.fa un42 r sz30 r (o:=2) r r r .mk)) (.g r r r (fun _=>.gyes r r hb33 (.load1 ia30 r .z r r r .mk)) (.g r r r (fun _=>.gyes r r hb33 (.len un30 r r r r .mk)) (.g r r r (fun _=>.gyes r r hb33 (.fa un49 r sz3 r (o:=1) r r r .mk)) (.g r r r (fun _=>.gyes r r hb33 (.load1 ia3 r (.s .z) r r r .mk)) (.g r r r (fun _=>.gyes r r hb33 (.eq r r r r .mk)) (.g r r r (fun _=>.pickT r hb33 r r r .mk) (.fk 1 r ?_)))))))
       refine splitP hd (fun hb34 hd=>?_) fun hb34 hd=>?_
       · refine .g r r r (fun _=>.gyes r r hb34 (.fa un42 r sz30 r (o:=3) r r r .mk)) (.g r r r (fun _=>.gyes r r hb34 (.load1 ia30 r .z r r r .mk)) (.g r r r (fun _=>.gyes r r hb34 (.len un30 r r r r .mk)) (.g r r r (fun _=>.gyes r r hb34 (.fa un49 r sz3 r (o:=1) r r r .mk)) (.g r r r (fun _=>.gyes r r hb34 (.load1 ia3 r (.s .z) r r r .mk)) (.g r r r (fun _=>.gyes r r hb34 (.eq r r r r .mk)) (.g r r r (fun _=>.pickT r hb34 r r r .mk) (.fk 1 r ?_)))))))
         refine splitP hd (fun hb35 hd=>?_) fun hb35 hd=>?_
         · refine .g r r r (fun _=>.gyes r r hb35 (.fa un42 r sz40 r (o:=4) r r r .mk)) (.g r r r (fun _=>.gyes r r hb35 (.load1 ia40 r .z r r r .mk)) (.g r r r (fun _=>.gyes r r hb35 (.fa un49 r sz3 r (o:=1) r r r .mk)) (.g r r r (fun _=>.gyes r r hb35 (.load1 ia3 r (.s .z) r r r .mk)) (.ww r fun ex=>?_))))
           have hw37:=W_flags_Right (I:=I24) R12 hd
           refine .gyes r r hb35 (.callP call170 r hw37 r r fun v38 hv39=>?_)
           obtain ⟨r36,rfl,hd⟩:=hv39
           exact .so 2 r r r trivial (.g r r r (fun _=>.pickT r hb35 r r r .mk) (.e2 42 (.ks 1 r (.nilS [4] r r (.drop .z (.drop .z (.ret (pret results97 (.t r .n) hl25 ⟨r36,r,hd⟩))))))))
         refine .g r r r (fun _=>.gno r r hb35 r r .mk) (.g r r r (fun _=>.gno r r hb35 r r .mk) (.g r r r (fun _=>.gno r r hb35 r r .mk) (.g r r r (fun _=>.gno r r hb35 r r .mk) (.g r r r (fun _=>.gno r r hb35 r r .mk) (.g r r r (fun _=>.pickF r hb35 r r r .mk) (.e2 42 (.ks 1 r (.nilS [4] r r (.drop .z ?_)))))))))
         exact .drop .z (.ret (pret results97 (.t r .n) hl25 ⟨false,r,hd⟩))
       refine .g r r r (fun _=>.gno r r hb34 r r .mk) (.g r r r (fun _=>.gno r r hb34 r r .mk) (.g r r r (fun _=>.gno r r hb34 r r .mk) (.g r r r (fun _=>.gno r r hb34 r r .mk) (.g r r r (fun _=>.gno r r hb34 r r .mk) (.g r r r (fun _=>.gno r r hb34 r r .mk) (.g r r r (fun _=>.pickF r hb34 r r r .mk) (.fk 7 r (.e2 42 (.ks 1 r ?_)))))))))
       exact .nilS [4] r r (.drop .z (.drop .z (.ret (pret results97 (.t r .n) hl25 ⟨false,r,hd⟩))))
     refine .g r r r (fun _=>.gno r r hb33 r r .mk) (.g r r r (fun _=>.gno r r hb33 r r .mk) (.g r r r (fun _=>.gno r r hb33 r r .mk) (.g r r r (fun _=>.gno r r hb33 r r .mk) (.g r r r (fun _=>.gno r r hb33 r r .mk) (.g r r r (fun _=>.gno r r hb33 r r .mk) (.g r r r (fun _=>.pickF r hb33 r r r .mk) (.fk 15 r (.e2 42 (.ks 1 r ?_)))))))))
     exact .nilS [4] r r (.drop .z (.drop .z (.ret (pret results97 (.t r .n) hl25 ⟨false,r,hd⟩))))
   refine .g r r r (fun _=>.gno r r hb22 r r .mk) (.g r r r (fun _=>.gno r r hb22 r r .mk) (.g r r r (fun _=>.gno r r hb22 r r .mk) (.g r r r (fun _=>.gno r r hb22 r r .mk) (.g r r r (fun _=>.gno r r hb22 r r .mk) (.g r r r (fun _=>.gno r r hb22 r r .mk) (.g r r r (fun _=>.gno r r hb22 r r .mk) (.g r r r (fun _=>.pickF r hb22 r r r .mk) (.fk 23 r (.e2 42 ?_)))))))))
   exact .ks 1 r (.nilS [4] r r (.drop .z (.drop .z (.ret (pret results97 (.t r .n) (.refl _) ⟨false,r,hd⟩)))))
 refine .g r r r (fun _=>.gno r r hb21 r r .mk) (.g r r r (fun _=>.gno r r hb21 r r .mk) (.g r r r (fun _=>.gno r r hb21 r r .mk) (.g r r r (fun _=>.gno r r hb21 r r .mk) (.g r r r (fun _=>.gno r r hb21 r r .mk) (.g r r r (fun _=>.pickF r hb21 r r r .mk) (.fk 32 r (.e2 42 (.ks 1 r (.nilS [4] r r ?_)))))))))
 exact .drop .z (.drop .z (.ret (pret results97 (.t r .n) (.refl _) ⟨false,r,hd⟩)))
theorem W_spvec_sure {I:IH} {a0:Vec} {p1:Option Addr} {c2:Nat} {Q:Vec→Prop} (R3:RepSl eItem I p1 c2 a0.Items) (hd:spvec_sure a0 Q) :
  PFun prog 219 [.agg #[.int .i64 a0.N,.slice p1 a0.Items.length c2]] I (o19_ Q):=by
 refine Fun.enter func219 r ntmps219 r (.c .n) fun w0 M=>?_
 refine .sr (.boxA r r r fun b11=>?_)
 refine .allocA zv54 r r fun b13=>?_
 refine .nilS [2,1] r r (.seq (.sr (.loadW ia54 sz54 r (.s .z) r r r ?_)))
 have hw16:=W_spvec_Right (I:=I) R3 hd
 refine .callP call155 r hw16 r r fun v17 hv18=>?_
 obtain ⟨r15,rfl,hd⟩:=hv18
 refine .nilS [4,2,1] r r (.condP r hd (fun hb19 hd=>?_) fun hb19 hd=>?_)
 · exact .sr (.loadW ia54 sz54 r (.s .z) r r r (.storeA sz54 r r .z (.t (.t .nil)) r r (.nilS [2] r r (.drop (.s .z) (.ret (pret results219 (.w ia54 sz54 r .z r .n) (.refl _) ⟨a0,_,_,r,R3,hd⟩))))))
 exact .skipS [2] r r (.drop (.s .z) (.sr (.build zv54 un54 BI54 .n (by exact trivial) r r (.storeA sz54 r r .z (.t (.t .nil)) r r (.nilS [2] r r (.ret (pret results219 (.w ia54 sz54 r .z r .n) (.refl _) ⟨({ N:=0,Items:=([]:List Item) }:Vec),_,_,r,(.nil _ _ _),hd⟩)))))))
theorem W_spvec_Places {I:IH} {a0:Vec} {p1:Option Addr} {c2:Nat} {Q:(List Int)→Prop} (R3:RepSl eItem I p1 c2 a0.Items) (hd:spvec_Places a0 Q) :
  PFun prog 171 [.agg #[.int .i64 a0.N,.slice p1 a0.Items.length c2]] I (o29_ Q):=by
 refine Fun.enter func171 r ntmps171 r (.c .n) fun w0 M=>?_
 refine .sr (.boxA r r r fun b9=>?_)
 refine .ks 1 r (.nilS [1] r r (.sr (.ks 1 r (.nilS [3,1] r r (.seq (.sr (.loadW ia54 sz54 r .z r r r ?_)))))))
 have hw30:=W_spvec_sure (I:=I) R3 hd
 refine .call call219 r hw30 r r fun v25 I22 hl23 hv24=>?_
 obtain ⟨r21,p27,c28,rfl,R29,hd⟩:=hv24
 replace R3:=R3.mono hl23
 refine .field1 un54 r ia52 r r r r (.len un52 r r r r (.ks 1 r (.nilS [10,9,8,3] r r (.drop .z (.block (.own0 eI64 3 (.loop hd (fun (s:(List Int)×Int) c w=>match s with | (s85,s89)=>∃ I_ p86 c87,IH.le I22 I_∧Ok ⟨21,[],none⟩ [(3,.slice p86 s85.length c87),(8,.slice p27 r21.Items.length c28),(9,.int .i64 (r21.Items.length:Int)),(10,.int .i64 s89)] c∧Sym w0 M I I_ [OwnSl eI64 3 p86 c87 s85] w) (fun c w ho hs=>⟨I22,_,_,(.refl _),ho.sub ⟨r,r,r,r,trivial⟩,hs.pick (.c .z .n)⟩) ?_)))))))
 rintro ⟨s85,s89⟩ next91 hd c w hst
 obtain ⟨I92,p86,c87,hl93,hok,hsym⟩:=hst
 have le94:=IH.le.trans hl23 hl93
 replace R29:=R29.mono hl93
 refine Cod.at hok hsym (.sr (.ks 1 r (.nilS [11,10,9,8,3] r r (.seq (.condP r hd (fun hb96 hd=>?_) fun hb96 hd=>?_)))))
 · refine .skipS [10,9,8,3] r r (.seq (.block (.sr ?_)))
   obtain ⟨h97,x98,hx99,hd⟩:=hd
   obtain ⟨b100,o101,cs102,e103,hC104,hr105⟩:=R29.2 _ _ hx99
   cases hr105
   refine .ixa un52 sz51 r e103 r h97 (idx_lt hx99 h97) r r (.ldW isAgg51 sz51 hC104 r r r r (.allocA zv51 r r fun b106=>?_))
   refine .storeA sz51 r r .z (.t (.t .nil)) r r (.nilS [5,10,9,8,3] r r (.region (.ks 1 r (.fa un51 r sz3 r (o:=0) r r r (.load1 ia3 r .z r r r (.buildSlice 1 un29 sz3 zv3 r r (.c r r r .n) r r fun b108=>?_))))))
   obtain ⟨hl110,hd⟩:=hd
   refine .append (ys:=[x98.At]) 8 (.s (.s .z)) un29 un29 IN3 r r r r r r r r r (.box .z (.one r) r) hl110 r r fun p111 c112=>?_
   exact .ks 1 r (.nilS [3,10,9,8] r r (.drop (.s .z) (.drop (.s .z) (.region (.ks 2 r (.nil' fun c w ho hs=>⟨((s85++([x98.At])),w64 (s89+1)),hd,I92,_,_,hl93,ho.sub ⟨r,r,r,r,trivial⟩,hs.pick (.c .z .n)⟩))))))
 refine .exitS [3] r r (.sr (.ks 2 r (.nilS [2] r r (.pub .z fun I114 hl115 R116=>?_))))
 have le117:=IH.le.trans le94 hl115
 have le118:=IH.le.trans hl93 hl115
 exact .ret (pret results171 (.t r .n) le117 ⟨s85,_,_,r,R116,hd⟩)
theorem W_devec_Of {I:IH} {a0:Vec} {p1:Option Addr} {c2:Nat} {Q:Dense→Prop} (R3:RepSl eItem I p1 c2 a0.Items) (hd:devec_Of a0 Q) :
  PFun prog 98 [.agg #[.int .i64 a0.N,.slice p1 a0.Items.length c2]] I (o21_ Q):=by
 refine Fun.enter func98 r ntmps98 r (.c .n) fun w0 M=>?_
 refine .sr (.boxA r r r fun b14=>?_)
 refine .allocA zv58 r r fun b16=>?_
 refine .nilS [2,1] r r (.seq (.sr (.loadW ia54 sz54 r (.s .z) r r r ?_)))
 have hw38:=W_spvec_Right (I:=I) R3 hd
 refine .callP call155 r hw38 r r fun v39 hv40=>?_
 obtain ⟨r37,rfl,hd⟩:=hv40
 refine .ks 1 r (.nilS [8,2,1] r r (.condP r hd (fun hb41 hd=>?_) fun hb41 hd=>?_))
 · refine .sr ?_
   have hw55:=W_devec_New (I:=I) hd
   refine .callO call120 r hw55 r r fun v46 I43 l47 hl44 hv45=>?_
   obtain ⟨r42,p48,c49,p51,c52,rfl,R50,rfl,hd⟩:=hv45
   replace R3:=R3.mono hl44
   refine .storeA sz58 r r (.s .z) (.t (.t (.t .nil))) r r (.nilS [2] r r (.drop (.s (.s .z)) (.pub .z fun I56 hl57 R58=>?_)))
   have le59:=IH.le.trans hl44 hl57
   replace R50:=R50.mono hl57
   exact .ret (pret results98 (.w ia58 sz58 r .z r .n) le59 ⟨r42,_,_,_,_,r,R50,R58,hd⟩)
 refine .skipS [2,1] r r (.sr (.fa un54 r sz3 r (o:=0) r r r (.load1 ia3 r (.s .z) r r r ?_)))
 have hw89:=W_devec_New (I:=I) hd
 refine .callO call120 r hw89 r r fun v80 I77 l81 hl78 hv79=>?_
 obtain ⟨r76,p82,c83,p85,c86,rfl,R84,rfl,hd⟩:=hv79
 replace R3:=R3.mono hl78
 refine .allocA zv58 r r fun b90=>?_
 refine .storeA sz58 r r .z (.t (.t (.t .nil))) r r (.nilS [3,2,1] r r (.seq (.sr (.fa un54 r sz52 r (o:=1) r r r (.load1 ia52 r (.s (.s (.s .z))) r r r (.len un52 r r r r (.ks 1 r (.nilS [16,15,14,3,2,1] r r (.block ?_)))))))))
 refine .loop hd (fun (s:(List Int)×Int) c w=>match s with | (s221,s225)=>∃ I_ p222 c223,IH.le I77 I_∧Ok ⟨35,[],none⟩ [(1,.pointer (some ⟨b14,0,none⟩)),(2,.pointer (some ⟨b16,0,none⟩)),(3,.pointer (some ⟨b90,0,none⟩)),(14,.slice p1 a0.Items.length c2),(15,.int .i64 (a0.Items.length:Int)),(16,.int .i64 s225)] c∧Sym w0 M I I_ [pto b14 (.cells #[.int .i64 a0.N,.slice p1 a0.Items.length c2] 54 (0,0)),pto b16 (.cells #[.int .i64 0,.slice none 0 0,.slice none 0 0] 58 (0,0)),pto b90 (.cells #[.int .i64 r76.N,.slice p82 r76.Has.length c83,.slice p222 s221.length c223] 58 (0,0)),OwnSl eI64 2 p222 c223 s221] w) (fun c w ho hs=>⟨I77,_,_,(.refl _),ho.sub ⟨r,r,r,r,r,r,trivial⟩,hs.pick (.c (.s (.s (.s .z))) (.c (.s (.s .z)) (.c .z (.c .z .n))))⟩) ?_
 rintro ⟨s221,s225⟩ next226 hd c w hst
 obtain ⟨I227,p222,c223,hl228,hok,hsym⟩:=hst
 have le229:=IH.le.trans hl78 hl228
 replace R3:=R3.mono hl228
 replace R84:=R84.mono hl228
 refine Cod.at hok hsym (.sr (.ks 1 r (.nilS [17,16,15,14,3,2,1] r r (.seq (.condP r hd (fun hb231 hd=>?_) fun hb231 hd=>?_)))))
 · refine .skipS [16,15,14,3,2,1] r r (.seq (.block (.sr ?_)))
   obtain ⟨h232,x233,hx234,hd⟩:=hd
   obtain ⟨b235,o236,cs237,e238,hC239,hr240⟩:=R3.2 _ _ hx234
   cases hr240
   refine .ixa un52 sz51 r e238 r h232 (idx_lt hx234 h232) r r (.ldW isAgg51 sz51 hC239 r r r r (.allocA zv51 r r fun b241=>?_))
   refine .storeA sz51 r r .z (.t (.t .nil)) r r (.nilS [5,16,15,14,3,2,1] r r (.region (.fa un58 r sz30 r (o:=2) r r r (.load1 ia30 r (.s (.s (.s .z))) r r r (.fa un51 r sz3 r (o:=0) r r r (.load1 ia3 r .z r r r (.fa un51 r sz2 r (o:=1) r r r (.load1 ia2 r .z r r r ?_))))))))
   obtain ⟨h243,x244,hx245,hd⟩:=hd
   refine .ownNe (.s (.s (.s (.s .z)))) (idx_ne hx245) fun b246 e247=>?_
   cases e247
   exact .ixa0 un30 sz2 r r h243 (idx_lt hx245 h243) r r (.stO1 (j:=0) (v':=x233.Val) sz2 (.s (.s (.s (.s .z)))) hx245 r r r (.t .nil) r (.sub (E':=[(1,_),(2,_),(3,_),(14,_),(15,_),(16,_),(5,_),(20,_),(21,.slice (some ⟨b246,0,none⟩) (s221.set x233.At.toNat x233.Val).length c223),(22,_),(23,_),(24,_),(25,_),(26,_)]) ⟨r,r,r,r,r,r,r,r,(by simp only [List.length_set]; rfl),r,r,r,r,r,trivial⟩ (.reat (.s (.s (.s .z))) (B:=pto b90 (.cells #[.int .i64 r76.N,.slice p82 r76.Has.length c83,.slice (some ⟨b246,0,none⟩) (s221.set x233.At.toNat x233.Val).length c223] 58 (0,0))) (by simp only [List.length_set]) (.nilS [16,15,14,3,2,1] r r (.drop .z (.region (.ks 2 r (.nil' fun c w ho hs=>⟨((s221.set x233.At.toNat x233.Val),w64 (s225+1)),hd,I227,_,_,hl228,ho.sub ⟨r,r,r,r,r,r,trivial⟩,hs.pick (.c .z (.c .z (.c .z (.c .z .n))))⟩))))))))
 refine .exitS [3,2,1] r r (.seq (.dr [0,1,2,3,4] 5 (.g r r r (fun _=>.fa un54 r sz3 r (o:=0) r r r .mk) (.g r r r (fun _=>.load1 ia3 r .z r r r .mk) (.g r r r (fun _=>.loadW ia54 sz54 r .z r r r .mk) (.ww r fun ex=>?_))))))
 have hw257:=W_spvec_Places (I:=I227) R3 hd
 refine .call call171 r hw257 r r fun v252 I249 hl250 hv251=>?_
 obtain ⟨r248,p254,c255,rfl,R256,hd⟩:=hv251
 have le258:=IH.le.trans le229 hl250
 have le259:=IH.le.trans hl228 hl250
 replace R3:=R3.mono hl250
 replace R84:=R84.mono hl250
 refine .so 4 r r r (.cg r r r r (fun _=>.load1 ia3 r .z r r r .mk) (.cg r r r r (fun _=>.fa un54 r sz3 r (o:=0) r r r .mk) trivial)) (.ww r fun ex=>?_)
 have hw269:=W_flags_Of (I:=I249) R256 hd
 refine .call call152 r hw269 r r fun v264 I261 hl262 hv263=>?_
 obtain ⟨r260,p266,c267,rfl,R268,hd⟩:=hv263
 have le270:=IH.le.trans le258 hl262
 have le271:=IH.le.trans le259 hl262
 replace R3:=R3.mono hl262
 replace R84:=R84.mono hl262
 replace R256:=R256.mono hl262
 refine .so 4 r r r trivial (.e2 5 (.fa un58 r sz40 r (o:=1) r r r (.store1 sz40 r r (.s (.s .z)) (.s (.t .nil)) r (.nilS [3,2] r r (.drop .z (.sr (.loadW ia58 sz58 r (.s .z) r r r (.storeA sz58 r r .z (.t (.t (.t .nil))) r r (.nilS [2] r r ?_)))))))))
 refine .drop (.s .z) (.pub (.s .z) fun I272 hl273 R274=>?_)
 have le275:=IH.le.trans le270 hl273
 have le276:=IH.le.trans le271 hl273
 replace R268:=R268.mono hl273
 exact .ret (pret results98 (.w ia58 sz58 r .z r .n) le275 ⟨({ N:=r76.N,Has:=r260,Vals:=s221 }:Dense),_,_,_,_,r,R268,R274,hd⟩)
theorem W_spvec_order_7ac {I:IH} {a0:Item} {a1:Int} {Q:Int→Prop}  (hd:spvec_order_7ac a0 a1 Q) :
  Fun prog 253 #[.agg (encItem a0).toArray,.int .i64 a1] I [] (fun I_ v l=>∃ r,v=.int .i64 r∧l=[]∧Q r):=by
 refine Fun.enter (vs:=[.agg (encItem a0).toArray,.int .i64 a1]) func253 r ntmps253 r (.c (.c .n)) fun w0 M=>?_
 refine .sr (.boxA r r r fun b1=>?_)
 refine .ks 1 r (.nilS [2,1] r r (.sr (.fa un51 r sz3 r (o:=0) r r r (.load1 ia3 r .z r r r (.ks 1 r ?_)))))
 have hw4:=W_cmp_Compare_int (I:=I) hd
 refine .callP call232 r hw4 r r fun v5 hv6=>?_
 obtain ⟨r3,rfl,hd⟩:=hv6
 exact .ks 1 r (.nilS [4] r r (.drop .z (.ret (oret results253 (.t r .n) (.refl _) .n ⟨r3,r,r,hd⟩))))
theorem W_slices_BinarySearchFunc_api_Item_api_Item_int_8a3 {I:IH} {a0:List Item} {a1:Int} {p1:Option Addr} {c2:Nat} {Q:(Int×Bool)→Prop} (R3:RepSl eItem I p1 c2 a0) (hd:slices_BinarySearchFunc_api_Item_api_Item_int_8a3 a0 a1 Q) :
  Fun prog 252 #[.slice p1 a0.length c2,.int .i64 a1,.func (.func 253) #[] #[]] I [] (fun I_ v l=>∃ r,v=.tuple #[.int .i64 r.1,.bool r.2]∧l=[]∧Q r):=by
 refine Fun.enter (vs:=[.slice p1 a0.length c2,.int .i64 a1,.func (.func 253) #[] #[]]) func252 r ntmps252 r (.c (.c (.c .n))) fun w0 M=>?_
 refine .sr (.ks 2 r (.nilS [2,1,0] r r (.sr (.ks 1 r (.len un52 r r r r (.ks 1 r (.nilS [8,2,1,0] r r (.sr (.ks 3 r ?_)))))))))
 refine .nilS [10,9,8,2,1,0] r r (.seq (.block (.loop hd (fun (s:Int×Int) c w=>match s with | (s117,s118)=>∃ I_,IH.le I I_∧Ok ⟨49,[],none⟩ [(0,.slice p1 a0.length c2),(1,.int .i64 a1),(2,.func (.func 253) #[] #[]),(8,.int .i64 (a0.length:Int)),(9,.int .i64 s117),(10,.int .i64 s118)] c∧Sym w0 M I I_ [] w) (fun c w ho hs=>⟨I,(.refl _),ho.sub ⟨r,r,r,r,r,r,trivial⟩,hs.pick .n⟩) ?_)))
 rintro ⟨s117,s118⟩ next119 hd c w hst
 obtain ⟨I120,hl121,hok,hsym⟩:=hst
 replace R3:=R3.mono hl121
 refine Cod.at hok hsym (.seq (.sr (.ks 3 r (.nilS [17,10,9,8,2,1,0] r r (.condP r hd (fun hb123 hd=>?_) fun hb123 hd=>?_)))))
 · refine .skipS [10,9,8,2,1,0] r r (.block (.sr (.ks 3 r (.conv un3 underlying201 r r r (.shr' r r (by decide) r r (.conv underlying201 un3 r r r (.ks 1 r (.nilS [11,10,9,8,2,1,0] r r (.sr ?_)))))))))
   refine .ks 3 r ?_
   obtain ⟨h124,x125,hx126,hd⟩:=hd
   obtain ⟨b127,o128,cs129,e130,hC131,hr132⟩:=R3.2 _ _ hx126
   cases hr132
   refine .ixa un52 sz51 r e130 r h124 (idx_lt hx126 h124) r r (.ldW isAgg51 sz51 hC131 r r r r (.ks 1 r ?_))
   have hw133:=W_spvec_order_7ac (I:=I120) (a0:=x125) (a1:=a1) hd
   refine .callS (.c call253 r r) .n hw133 r r fun v137 I134 l138 hl135 hv136=>?_
   obtain ⟨r139,rfl,rfl,hd⟩:=hv136
   have le140:=IH.le.trans hl121 hl135
   replace R3:=R3.mono hl135
   replace hC131:=hC131.mono hl135
   refine .re (m':=[]) r (.ks 1 r (.nilS [31,11,10,9,8,2,1,0] r r (.condP r hd (fun hb141 hd=>?_) fun hb141 hd=>?_)))
   · exact .region (.ks 3 r (.nil' fun c w ho hs=>⟨(w64 ((w64 (shr .u64 (IntKind.wrap .u64 (w64 (s117+s118))) 1))+1),s118),hd,I134,le140,ho.sub ⟨r,r,r,r,r,r,trivial⟩,hs.pick .n⟩))
   exact .region (.ks 2 r (.nil' fun c w ho hs=>⟨(s117,w64 (shr .u64 (IntKind.wrap .u64 (w64 (s117+s118))) 1)),hd,I134,le140,ho.sub ⟨r,r,r,r,r,r,trivial⟩,hs.pick .n⟩))
 refine .exitS [9,8,2,1,0] r r (.sr (.ks 5 r ?_))
 refine splitP hd (fun hb142 hd=>?_) fun hb142 hd=>?_
 · rw [hb142]
   refine .ks 3 r ?_
   obtain ⟨h143,x144,hx145,hd⟩:=hd
   obtain ⟨b146,o147,cs148,e149,hC150,hr151⟩:=R3.2 _ _ hx145
   cases hr151
   refine .gyes r r r (.ixa un52 sz51 r e149 r h143 (idx_lt hx145 h143) r r (.gyes r r r (.ldW isAgg51 sz51 hC150 r r r r (.ks 1 r ?_))))
   have hw152:=W_spvec_order_7ac (I:=I120) (a0:=x144) (a1:=a1) hd
   refine .gyes r r r (.callS (.c call253 r r) .n hw152 r r fun v156 I153 l157 hl154 hv155=>?_)
   obtain ⟨r158,rfl,rfl,hd⟩:=hv155
   have le159:=IH.le.trans hl121 hl154
   replace R3:=R3.mono hl154
   replace hC150:=hC150.mono hl154
   exact .re (m':=[]) r (.ks 4 r (.nilS [7,6,2] r r (.ret (oret results252 (.t r (.t r .n)) le159 .n ⟨(s117,r158==0),r,r,hd⟩))))
 rw [hb142]
 exact .ks 11 r (.nilS [7,6,2] r r (.ret (oret results252 (.t r (.t r .n)) hl121 .n ⟨(s117,false),r,r,hd⟩)))
theorem W_spvec_find {I:IH} {a0:Vec} {a1:Int} {p1:Option Addr} {c2:Nat} {Q:(Int×Bool)→Prop} (R3:RepSl eItem I p1 c2 a0.Items) (hd:spvec_find a0 a1 Q) :
  PFun prog 220 [.agg #[.int .i64 a0.N,.slice p1 a0.Items.length c2],.int .i64 a1] I (fun _=>o3_ Q):=by
 refine Fun.enter func220 r ntmps220 r (.c (.c .n)) fun w0 M=>?_
 refine .sr (.boxA r r r fun b4=>?_)
 refine .ks 2 r (.nilS [2,1] r r (.sr (.fa un54 r sz52 r (o:=1) r r r (.load1 ia52 r .z r r r (.ks 1 r ?_)))))
 have hw6:=W_slices_BinarySearchFunc_api_Item_api_Item_int_8a3 (I:=I) (a0:=a0.Items) (a1:=a1) R3 hd
 refine .callS (.f call252 r) .n hw6 r r fun v10 I7 l11 hl8 hv9=>?_
 obtain ⟨r12,rfl,rfl,hd⟩:=hv9
 replace R3:=R3.mono hl8
 exact .re (m':=[pto b4 (.cells #[.int .i64 a0.N,.slice p1 a0.Items.length c2] 54 (0,0))]) r (.ks 4 r (.nilS [5,4] r r (.drop .z (.ret (pret results220 (.t r (.t r .n)) hl8 ⟨(r12.1,r12.2),r,hd⟩)))))
theorem W_spvec_Get {I:IH} {a0:Vec} {a1:Int} {p1:Option Addr} {c2:Nat} {Q:(Int×Bool)→Prop} (R3:RepSl eItem I p1 c2 a0.Items) (hd:spvec_Get a0 a1 Q) :
  PFun prog 160 [.agg #[.int .i64 a0.N,.slice p1 a0.Items.length c2],.int .i64 a1] I (fun _=>o3_ Q):=by
 refine Fun.enter func160 r ntmps160 r (.c (.c .n)) fun w0 M=>?_
 refine .sr (.boxA r r r fun b6=>?_)
 refine .ks 2 r (.nilS [2,1] r r (.sr (.loadW ia54 sz54 r .z r r r ?_)))
 have hw27:=W_spvec_sure (I:=I) R3 hd
 refine .call call219 r hw27 r r fun v22 I19 hl20 hv21=>?_
 obtain ⟨r18,p24,c25,rfl,R26,hd⟩:=hv21
 replace R3:=R3.mono hl20
 refine .storeA sz54 r r .z (.t (.t .nil)) r r (.nilS [2,1] r r (.sr (.loadW ia54 sz54 r .z r r r (.ks 1 r ?_))))
 have hw33:=W_spvec_find (I:=I19) R26 hd
 refine .callP call220 r hw33 r r fun v34 hv35=>?_
 obtain ⟨r32,rfl,hd⟩:=hv35
 refine .ks 5 r (.nilS [7,6,2] r r (.seq (.sr (.ks 2 r (.nilS [17,6,2] r r (.condP r hd (fun hb36 hd=>?_) fun hb36 hd=>?_))))))
 · exact .sr (.ks 2 r (.nilS [5,4] r r (.drop .z (.ret (pret results160 (.t r (.t r .n)) hl20 ⟨(0,false),r,hd⟩)))))
 refine .skipS [6,2] r r (.sr (.fa un54 r sz52 r (o:=1) r r r (.load1 ia52 r .z r r r (.ks 1 r ?_))))
 obtain ⟨h37,x38,hx39,hd⟩:=hd
 obtain ⟨b40,o41,cs42,e43,hC44,hr45⟩:=R26.2 _ _ hx39
 cases hr45
 exact .ixa un52 sz51 r e43 r h37 (idx_lt hx39 h37) r r (.fa un51 r sz2 r (o:=o41+r32.1.toNat*2+1) r r r (.ld1 (j:=1) ia2 hC44 r r r r r (.ks 2 r (.nilS [5,4] r r (.drop .z (.ret (pret results160 (.t r (.t r .n)) hl20 ⟨(x38.Val,true),r,hd⟩)))))))
theorem W_prog_behind {I:IH} {a0:Plan} {a1:State} {a2:Int} {a3:Int} {a4:Int} {a5:Bool} {p1:Option Addr} {c2:Nat} {p4:Option Addr} {c5:Nat} {p7:Option Addr} {c8:Nat} {p10:Option Addr} {c11:Nat} {Q:(Int×Int×Bool)→Prop} (R3:RepSl eI64 I p1 c2 a0.Draws) (R6:RepSl eI64 I p4 c5 a1.A) (R9:RepSl eI64 I p7 c8 a1.B) (R12:RepSl eU64 I p10 c11 a1.On) (hd:prog_behind a0 a1 a2 a3 a4 a5 Q) :
  PFun prog 161 [.agg #[.int .i64 a0.Kind,.int .i64 a0.N,.int .i64 a0.Source,.int .i64 a0.Length,.slice p1 a0.Draws.length c2],.agg #[.int .i64 a1.Low,.int .i64 a1.High,.slice p4 a1.A.length c5,.slice p7 a1.B.length c8,.slice p10 a1.On.length c11],.int .i64 a2,.int .i64 a3,.int .i64 a4,.bool a5] I (fun I_ v=>∃ r,v=.tuple #[.int .i64 r.1,.int .i64 r.2.1,.bool r.2.2]∧Q r):=by
 refine Fun.enter func161 r ntmps161 r (.c (.c (.c (.c (.c (.c .n)))))) fun w0 M=>?_
 refine .sr (.boxA r r r fun b17=>?_)
 refine .boxA r r r fun b19=>?_
 refine .ks 3 r (.nilS [7,6,5,4,3,2] r r (.seq (.dr [0,1,2,3,4,5,6,7,8,9,10] 11 (.g r r r (fun _=>.fa un42 r sz30 r (o:=2) r r r .mk) (.g r r r (fun _=>.load1 ia30 r .z r r r .mk) (.fk 1 r ?_))))))
 obtain ⟨h39,x40,hx41,hd⟩:=hd
 obtain ⟨b42,o43,cs44,e45,hC46,hr47⟩:=R6.2 _ _ hx41
 cases hr47
 refine .g r r r (fun _=>.ixa un30 sz2 r e45 r h39 (idx_lt hx41 h39) r r .mk) (.g r r r (fun _=>.ld1 (j:=0) ia2 hC46 r r r r r .mk) (.g r r r (fun _=>.fa un42 r sz30 r (o:=3) r r r .mk) (.g r r r (fun _=>.load1 ia30 r .z r r r .mk) (.fk 1 r ?_))))
 obtain ⟨h48,x49,hx50,hd⟩:=hd
 obtain ⟨b51,o52,cs53,e54,hC55,hr56⟩:=R9.2 _ _ hx50
 cases hr56
 refine .g r r r (fun _=>.ixa un30 sz2 r e54 r h48 (idx_lt hx50 h48) r r .mk) (.g r r r (fun _=>.ld1 (j:=0) ia2 hC55 r r r r r .mk) (.fk 1 r (.e2 11 (.ks 1 r (.nilS [16,15,7,6,5,4,3,2] r r (.seq (.sr (.fa un49 r sz47 r (o:=0) r r r (.load1 ia47 r (.s .z) r r r ?_)))))))))
 refine .nilS [28,16,15,7,6,5,4,3,2] r r (.block (.sr (.ks 2 r (.nilS [29,28,16,15,7,6,5,4,3,2] r r (.condP r hd (fun hb57 hd=>?_) fun hb57 hd=>?_)))))
 · refine .sr (.ks 2 r ?_)
   refine splitP hd (fun hb58 hd=>?_) fun hb58 hd=>?_
   · rw [hb58]
     refine .ks 3 r (.nilS [35,16,15,4,2] r r (.drop .z (.drop .z (.condP r hd (fun hb59 hd=>?_) fun hb59 hd=>?_))))
     · exact .sr (.ks 5 r (.nilS [14,13,12] r r (.ret (pret results161 (.t r (.t r (.t r .n))) (.refl _) ⟨(a2,a4,true),r,hd⟩))))
     exact .skipS [16,15] r r (.sr (.ks 5 r (.nilS [14,13,12] r r (.ret (pret results161 (.t r (.t r (.t r .n))) (.refl _) ⟨(x40,x49,false),r,hd⟩)))))
   rw [hb58]
   exact .ks 3 r (.nilS [35,16,15,4,2] r r (.drop .z (.drop .z (.condKF r r (.skipS [16,15] r r (.sr (.ks 5 r (.nilS [14,13,12] r r (.ret (pret results161 (.t r (.t r (.t r .n))) (.refl _) ⟨(x40,x49,false),r,hd⟩))))))))))
 refine .seq ?_
 refine Cod.joinQ (σ:=Bool) hd (fun (s62:Bool) c w=>∃ I_,IH.le I I_∧Ok ⟨91,[],none⟩ [(2,.int .i64 a2),(3,.int .i64 a3),(4,.int .i64 a4),(5,.bool a5),(6,.pointer (some ⟨b17,0,none⟩)),(7,.pointer (some ⟨b19,0,none⟩)),(15,.int .i64 x40),(16,.int .i64 x49),(28,.int .i64 a0.Kind),(38,.bool s62)] c∧Sym w0 M I I_ [pto b17 (.cells #[.int .i64 a0.Kind,.int .i64 a0.N,.int .i64 a0.Source,.int .i64 a0.Length,.slice p1 a0.Draws.length c2] 49 (0,0)),pto b19 (.cells #[.int .i64 a1.Low,.int .i64 a1.High,.slice p4 a1.A.length c5,.slice p7 a1.B.length c8,.slice p10 a1.On.length c11] 42 (0,0))] w) (fun k63 hd=>?_) ?_
 · skip
   refine .sr (.ks 2 r (.nilS [38,28,16,15,7,6,5,4,3,2] r r (.condP r hd (fun hb64 hd=>?_) fun hb64 hd=>?_)))
   · exact .skip' fun c w ho hs=>⟨(a0.Kind==2),hd,I,(.refl _),ho.sub ⟨r,r,r,r,r,r,r,r,r,r,trivial⟩,hs.pick (.c (.s .z) (.c .z .n))⟩
   exact .region (.ks 2 r (.nil' fun c w ho hs=>⟨(a0.Kind==3),hd,I,(.refl _),ho.sub ⟨r,r,r,r,r,r,r,r,r,r,trivial⟩,hs.pick (.c (.s .z) (.c .z .n))⟩))
 rintro s62 hd c w hst
 obtain ⟨I65,hl66,hok,hsym⟩:=hst
 replace R3:=R3.mono hl66
 replace R6:=R6.mono hl66
 replace R9:=R9.mono hl66
 replace R12:=R12.mono hl66
 refine Cod.at hok hsym (.condP r hd (fun hb67 hd=>?_) fun hb67 hd=>?_)
 · refine .sr (.ks 2 r ?_)
   refine splitP hd (fun hb68 hd=>?_) fun hb68 hd=>?_
   · rw [hb68]
     refine .ks 4 r (.nilS [46,16,15,4] r r (.drop .z (.drop .z (.condP r hd (fun hb69 hd=>?_) fun hb69 hd=>?_))))
     · exact .sr (.ks 5 r (.nilS [14,13,12] r r (.ret (pret results161 (.t r (.t r (.t r .n))) hl66 ⟨(a4,x49,true),r,hd⟩))))
     exact .skipS [16,15] r r (.sr (.ks 5 r (.nilS [14,13,12] r r (.ret (pret results161 (.t r (.t r (.t r .n))) hl66 ⟨(x40,x49,false),r,hd⟩)))))
   rw [hb68]
   exact .ks 4 r (.nilS [46,16,15,4] r r (.drop .z (.drop .z (.condKF r r (.skipS [16,15] r r (.sr (.ks 5 r (.nilS [14,13,12] r r (.ret (pret results161 (.t r (.t r (.t r .n))) hl66 ⟨(x40,x49,false),r,hd⟩))))))))))
 refine .sr (.ks 2 r (.nilS [49,28,16,15,7,6,5,4,3,2] r r (.condP r hd (fun hb70 hd=>?_) fun hb70 hd=>?_)))
 · exact .sr (.ks 7 r (.nilS [14,13,12] r r (.drop .z (.drop .z (.ret (pret results161 (.t r (.t r (.t r .n))) hl66 ⟨(a4,x49,a4 != 0),r,hd⟩))))))
 refine .sr (.ks 2 r (.nilS [55,16,15,7,6,5,4,3,2] r r (.condP r hd (fun hb71 hd=>?_) fun hb71 hd=>?_)))
 · refine .block (.sr (.ks 3 r (.nilS [57,16,15,7,6,5,4,3,2] r r (.condP r hd (fun hb72 hd=>?_) fun hb72 hd=>?_))))
   · exact .skipS [16,15] r r (.drop .z (.drop .z (.sr (.ks 5 r (.nilS [14,13,12] r r (.ret (pret results161 (.t r (.t r (.t r .n))) hl66 ⟨(x40,x49,false),r,hd⟩)))))))
   refine .seq ?_
   refine Cod.joinQ (σ:=Bool) hd (fun (s75:Bool) c w=>∃ I_,IH.le I65 I_∧Ok ⟨91,[],none⟩ [(2,.int .i64 a2),(3,.int .i64 a3),(4,.int .i64 a4),(5,.bool a5),(6,.pointer (some ⟨b17,0,none⟩)),(7,.pointer (some ⟨b19,0,none⟩)),(15,.int .i64 x40),(16,.int .i64 x49),(60,.bool s75)] c∧Sym w0 M I I_ [pto b17 (.cells #[.int .i64 a0.Kind,.int .i64 a0.N,.int .i64 a0.Source,.int .i64 a0.Length,.slice p1 a0.Draws.length c2] 49 (0,0)),pto b19 (.cells #[.int .i64 a1.Low,.int .i64 a1.High,.slice p4 a1.A.length c5,.slice p7 a1.B.length c8,.slice p10 a1.On.length c11] 42 (0,0))] w) (fun k76 hd=>?_) ?_
   · skip
     refine .region (.ks 4 r ?_)
     refine splitP hd (fun hb77 hd=>?_) fun hb77 hd=>?_
     · rw [hb77]
       exact .ks 3 r (.nil' fun c w ho hs=>⟨a5,hd,I65,(.refl _),ho.sub ⟨r,r,r,r,r,r,r,r,r,trivial⟩,hs.pick (.c .z (.c .z .n))⟩)
     rw [hb77]
     exact .ks 3 r (.nil' fun c w ho hs=>⟨false,hd,I65,(.refl _),ho.sub ⟨r,r,r,r,r,r,r,r,r,trivial⟩,hs.pick (.c .z (.c .z .n))⟩)
   rintro s75 hd c w hst
   obtain ⟨I78,hl79,hok,hsym⟩:=hst
   have le80:=IH.le.trans hl66 hl79
   replace R3:=R3.mono hl79
   replace R6:=R6.mono hl79
   replace R9:=R9.mono hl79
   replace R12:=R12.mono hl79
   refine Cod.at hok hsym (.condP r hd (fun hb81 hd=>?_) fun hb81 hd=>?_)
   · exact .sr (.ks 4 r (.nilS [14,13,12] r r (.drop .z (.drop .z (.ret (pret results161 (.t r (.t r (.t r .n))) le80 ⟨(2,x49,false),r,hd⟩))))))
   refine .seq (.dr [0,1,2,3,4,5,6,7,8,9,11,12,13,14,10,15,16,17,18,19] 20 (.fk 4 r ?_))
   refine splitP hd (fun hb82 hd=>?_) fun hb82 hd=>?_
   · refine .g r r r (fun _=>.gyes r r hb82 (.move r r r .mk)) (.g r r r (fun _=>.gyes r r hb82 (.not r r r .mk)) (.g r r r (fun _=>.gyes r r hb82 (.move r r r .mk)) ?_))
     refine splitP hd (fun hb83 hd=>?_) fun hb83 hd=>?_
     · refine .g r r r (fun _=>.gno r r hb83 r r .mk) (.g r r r (fun _=>.gno r r hb83 r r .mk) (.g r r r (fun _=>.gno r r hb83 r r .mk) (.g r r r (fun _=>.gno r r hb83 r r .mk) (.g r r r (fun _=>.gno r r hb83 r r .mk) (.g r r r (fun _=>.gno r r hb83 r r .mk) (.g r r r (fun _=>.gno r r hb83 r r .mk) (.g r r r (fun _=>.gno r r hb83 r r .mk) (.g r r r (fun _=>.gno r r hb83 r r .mk) (.g r r r (fun _=>.gno r r hb83 r r .mk) ?_)))))))))
       refine .g r r r (fun _=>.gyes r r hb82 (.pickT r hb83 r r r .mk)) (.g r r r (fun _=>.pickT r hb82 r r r .mk) (.fk 1 r (.e2 20 (.nilS [68,16,15] r r (.drop .z (.drop .z (.condKT r r (.sr (.ks 4 r ?_)))))))))
       exact .nilS [14,13,12] r r (.ret (pret results161 (.t r (.t r (.t r .n))) le80 ⟨(1,x49,true),r,hd⟩))
     refine .g r r r (fun _=>.gyes r r hb83 (.move r r r .mk)) (.g r r r (fun _=>.gyes r r hb83 (.loadW ia49 sz49 r .z r r r .mk)) (.g r r r (fun _=>.gyes r r hb83 (.move r r r .mk)) (.g r r r (fun _=>.gyes r r hb83 (.fa un42 r sz3 r (o:=0) r r r .mk)) (.g r r r (fun _=>.gyes r r hb83 (.load1 ia3 r (.s .z) r r r .mk)) (.g r r r (fun _=>.gyes r r hb83 (.move r r r .mk)) (.g r r r (fun _=>.gyes r r hb83 (.add r r r r .mk)) (.ww r fun ex=>?_)))))))
     have hw85:=W_prog_draw (I:=I78) hd
     refine .gyes r r hb83 (.callP call222 r hw85 r r fun v86 hv87=>?_)
     obtain ⟨r84,rfl,hd⟩:=hv87
     refine .so 2 r r r (.cg r r r r (fun _=>.gyes r r hb83 (.add r r r r .mk)) (.cg r r r r (fun _=>.gyes r r hb83 (.move r r r .mk)) (.cg r r r r (fun _=>.gyes r r hb83 (.load1 ia3 r (.s .z) r r r .mk)) (.cg r r r r (fun _=>.gyes r r hb83 (.fa un42 r sz3 r (o:=0) r r r .mk)) (.cg r r r r (fun _=>.gyes r r hb83 (.loadW ia49 sz49 r .z r r r .mk)) (.cg r r r r (fun _=>.gyes r r hb83 (.move r r r .mk)) trivial)))))) (.ww r fun ex=>?_)
     have hw89:=W_prog_number (I:=I78) R3 hd
     refine .gyes r r hb83 (.callP call221 r hw89 r r fun v90 hv91=>?_)
     obtain ⟨r88,rfl,hd⟩:=hv91
     refine .so 2 r r r (.cg r r r r (fun _=>.gyes r r hb83 (.move r r r .mk)) trivial) (.g r r r (fun _=>.gyes r r hb83 (.gt r r r r .mk)) (.g r r r (fun _=>.gyes r r hb82 (.pickF r hb83 r r r .mk)) (.g r r r (fun _=>.pickT r hb82 r r r .mk) (.fk 1 r (.e2 20 (.nilS [68,16,15] r r (.drop .z (.drop .z (.condP r hd (fun hb92 hd=>?_) fun hb92 hd=>?_)))))))))
     · exact .sr (.ks 4 r (.nilS [14,13,12] r r (.ret (pret results161 (.t r (.t r (.t r .n))) le80 ⟨(1,x49,true),r,hd⟩))))
     exact .skipS [16,15] r r (.sr (.ks 5 r (.nilS [14,13,12] r r (.ret (pret results161 (.t r (.t r (.t r .n))) le80 ⟨(x40,x49,false),r,hd⟩)))))
   refine .g r r r (fun _=>.gno r r hb82 r r .mk) (.g r r r (fun _=>.gno r r hb82 r r .mk) (.g r r r (fun _=>.gno r r hb82 r r .mk) (.fk 10 r (.g r r r (fun _=>.gno r r hb82 r r .mk) (.g r r r (fun _=>.pickF r hb82 r r r .mk) (.fk 1 r (.e2 20 (.nilS [68,16,15] r r (.drop .z ?_)))))))))
   exact .drop .z (.condKF r r (.skipS [16,15] r r (.sr (.ks 5 r (.nilS [14,13,12] r r (.ret (pret results161 (.t r (.t r (.t r .n))) le80 ⟨(x40,x49,false),r,hd⟩)))))))
 exact .skipS [16,15] r r (.drop .z (.drop .z (.sr (.ks 5 r (.nilS [14,13,12] r r (.ret (pret results161 (.t r (.t r (.t r .n))) hl66 ⟨(x40,x49,false),r,hd⟩)))))))
theorem W_prog_first {I:IH} {a0:Plan} {a1:Int} {p1:Option Addr} {c2:Nat} {Q:(Int×Bool)→Prop} (R3:RepSl eI64 I p1 c2 a0.Draws) (hd:prog_first a0 a1 Q) :
  PFun prog 184 [.agg #[.int .i64 a0.Kind,.int .i64 a0.N,.int .i64 a0.Source,.int .i64 a0.Length,.slice p1 a0.Draws.length c2],.int .i64 a1] I (fun _=>o3_ Q):=by
 refine Fun.enter func184 r ntmps184 r (.c (.c .n)) fun w0 M=>?_
 refine .sr (.boxA r r r fun b6=>?_)
 refine .ks 2 r (.nilS [2,1] r r (.sr (.ks 1 r (.fa un49 r sz3 r (o:=2) r r r (.load1 ia3 r .z r r r (.ks 2 r (.nilS [6,2,1] r r (.seq (.block ?_)))))))))
 refine .sr (.fa un49 r sz47 r (o:=0) r r r (.load1 ia47 r .z r r r (.ks 2 r (.nilS [11,6,2,1] r r (.condP r hd (fun hb8 hd=>?_) fun hb8 hd=>?_)))))
 · exact .sr (.ks 3 r (.nilS [5,4] r r (.drop .z (.ret (pret results184 (.t r (.t r .n)) (.refl _) ⟨(a1,true),r,hd⟩)))))
 refine .sr (.fa un49 r sz47 r (o:=0) r r r (.load1 ia47 r .z r r r (.ks 2 r (.nilS [16,6,2] r r (.condP r hd (fun hb9 hd=>?_) fun hb9 hd=>?_)))))
 · exact .sr (.ks 2 r (.nilS [5,4] r r (.drop .z (.ret (pret results184 (.t r (.t r .n)) (.refl _) ⟨(0,false),r,hd⟩)))))
 refine .seq ?_
 refine Cod.joinQ (σ:=Bool) hd (fun (s12:Bool) c w=>∃ I_,IH.le I I_∧Ok ⟨39,[],none⟩ [(2,.pointer (some ⟨b6,0,none⟩)),(6,.bool (a1==a0.Source)),(20,.bool s12)] c∧Sym w0 M I I_ [pto b6 (.cells #[.int .i64 a0.Kind,.int .i64 a0.N,.int .i64 a0.Source,.int .i64 a0.Length,.slice p1 a0.Draws.length c2] 49 (0,0))] w) (fun k13 hd=>?_) ?_
 · skip
   refine .region (.fa un49 r sz47 r (o:=0) r r r (.load1 ia47 r .z r r r (.ks 2 r ?_)))
   refine splitP hd (fun hb14 hd=>?_) fun hb14 hd=>?_
   · rw [hb14]
     exact .ks 3 r (.nil' fun c w ho hs=>⟨(a1==a0.Source),hd,I,(.refl _),ho.sub ⟨r,r,r,trivial⟩,hs.pick (.c .z .n)⟩)
   rw [hb14]
   exact .ks 3 r (.nil' fun c w ho hs=>⟨false,hd,I,(.refl _),ho.sub ⟨r,r,r,trivial⟩,hs.pick (.c .z .n)⟩)
 rintro s12 hd c w hst
 obtain ⟨I15,hl16,hok,hsym⟩:=hst
 replace R3:=R3.mono hl16
 refine Cod.at hok hsym (.condP r hd (fun hb17 hd=>?_) fun hb17 hd=>?_)
 · exact .sr (.ks 2 r (.nilS [5,4] r r (.drop .z (.ret (pret results184 (.t r (.t r .n)) hl16 ⟨(1,true),r,hd⟩)))))
 refine .seq ?_
 refine Cod.joinQ (σ:=Bool×Bool) hd (fun (s:Bool×Bool) c w=>match s with | (s20,s21)=>∃ I_,IH.le I15 I_∧Ok ⟨39,[],none⟩ [(2,.pointer (some ⟨b6,0,none⟩)),(6,.bool s20),(27,.bool s21)] c∧Sym w0 M I I_ [pto b6 (.cells #[.int .i64 a0.Kind,.int .i64 a0.N,.int .i64 a0.Source,.int .i64 a0.Length,.slice p1 a0.Draws.length c2] 49 (0,0))] w) (fun k22 hd=>?_) ?_
 · skip
   refine .region (.ks 2 r ?_)
   refine splitP hd (fun hb23 hd=>?_) fun hb23 hd=>?_
   · rw [hb23]
     exact .ks 5 r (.nil' fun c w ho hs=>⟨(true,true),hd,I15,(.refl _),ho.sub ⟨r,r,r,trivial⟩,hs.pick (.c .z .n)⟩)
   rw [hb23]
   exact .gyes r r r (.fa un49 r sz47 r (o:=0) r r r (.gyes r r r (.load1 ia47 r .z r r r (.ks 3 r (.nil' fun c w ho hs=>⟨(false,a0.Kind==4),hd,I15,(.refl _),ho.sub ⟨r,r,r,trivial⟩,hs.pick (.c .z .n)⟩)))))
 rintro ⟨s20,s21⟩ hd c w hst
 obtain ⟨I24,hl25,hok,hsym⟩:=hst
 have le26:=IH.le.trans hl16 hl25
 replace R3:=R3.mono hl25
 refine Cod.at hok hsym (.condP r hd (fun hb27 hd=>?_) fun hb27 hd=>?_)
 · exact .sr (.ks 3 r (.nilS [5,4] r r (.drop .z (.ret (pret results184 (.t r (.t r .n)) le26 ⟨(0,s20),r,hd⟩)))))
 refine .sr (.fa un49 r sz47 r (o:=0) r r r (.load1 ia47 r .z r r r (.ks 2 r (.nilS [35] r r (.drop .z (.condP r hd (fun hb28 hd=>?_) fun hb28 hd=>?_))))))
 · exact .sr (.ks 2 r (.nilS [5,4] r r (.ret (pret results184 (.t r (.t r .n)) le26 ⟨((-1),false),r,hd⟩))))
 exact .skipS [] r r (.sr (.ks 2 r (.nilS [5,4] r r (.ret (pret results184 (.t r (.t r .n)) le26 ⟨(4611686018427387904,false),r,hd⟩)))))
theorem W_prog_Update_1_24a {I:IH} {o0:Vec} {o1:Plan} {o2:State} {o3:Int} {a0:Int} {b5:Nat} {p6:Option Addr} {c7:Nat} {b9:Nat} {p10:Option Addr} {c11:Nat} {b13:Nat} {p14:Option Addr} {c15:Nat} {p17:Option Addr} {c18:Nat} {p20:Option Addr} {c21:Nat} {b23:Nat} {Q:(Int×Int×Bool)→Prop} (R8:RepSl eItem I p6 c7 o0.Items) (R12:RepSl eI64 I p10 c11 o1.Draws) (R16:RepSl eI64 I p14 c15 o2.A) (R19:RepSl eI64 I p17 c18 o2.B) (R22:RepSl eU64 I p20 c21 o2.On) (hd:prog_Update_1_24a o0 o1 o2 o3 a0 Q) :
  Fun prog 159 #[.int .i64 a0,.pointer (some ⟨b5,0,none⟩),.pointer (some ⟨b9,0,none⟩),.pointer (some ⟨b13,0,none⟩),.pointer (some ⟨b23,0,none⟩)] I [pto b5 (.cells #[.int .i64 o0.N,.slice p6 o0.Items.length c7] 54 (0,0)),pto b9 (.cells #[.int .i64 o1.Kind,.int .i64 o1.N,.int .i64 o1.Source,.int .i64 o1.Length,.slice p10 o1.Draws.length c11] 49 (0,0)),pto b13 (.cells #[.int .i64 o2.Low,.int .i64 o2.High,.slice p14 o2.A.length c15,.slice p17 o2.B.length c18,.slice p20 o2.On.length c21] 42 (0,0)),pto b23 (.cells #[.int .i64 o3] 3 (0,0))] (fun I_ v l=>∃ r,v=.tuple #[.int .i64 r.1,.int .i64 r.2.1,.bool r.2.2]∧l=[pto b5 (.cells #[.int .i64 o0.N,.slice p6 o0.Items.length c7] 54 (0,0)),pto b9 (.cells #[.int .i64 o1.Kind,.int .i64 o1.N,.int .i64 o1.Source,.int .i64 o1.Length,.slice p10 o1.Draws.length c11] 49 (0,0)),pto b13 (.cells #[.int .i64 o2.Low,.int .i64 o2.High,.slice p14 o2.A.length c15,.slice p17 o2.B.length c18,.slice p20 o2.On.length c21] 42 (0,0)),pto b23 (.cells #[.int .i64 o3] 3 (0,0))]∧Q r):=by
 refine Fun.enter (vs:=[.int .i64 a0,.pointer (some ⟨b5,0,none⟩),.pointer (some ⟨b9,0,none⟩),.pointer (some ⟨b13,0,none⟩),.pointer (some ⟨b23,0,none⟩)]) func159 r ntmps159 r (.c (.c (.c (.c (.c .n))))) fun w0 M=>?_
 refine .sr (.ks 3 r (.nilS [4,3,2,1,0] r r (.sr (.loadW ia54 sz54 r .z r r r (.ks 1 r ?_)))))
 have hw29:=W_spvec_Get (I:=I) R8 hd
 refine .callP call160 r hw29 r r fun v30 hv31=>?_
 obtain ⟨r28,rfl,hd⟩:=hv31
 refine .ks 5 r (.nilS [10,9,4,3,2,1,0] r r (.sr (.loadW ia49 sz49 r (.s .z) r r r (.loadW ia42 sz42 r (.s (.s .z)) r r r (.load1 ia3 r (.s (.s (.s .z))) r r r (.ks 3 r ?_))))))
 have hw33:=W_prog_behind (I:=I) R12 R16 R19 R22 hd
 refine .callP call161 r hw33 r r fun v34 hv35=>?_
 obtain ⟨r32,rfl,hd⟩:=hv35
 exact .ks 6 r (.nilS [8,7,6,4,3,2,1] r r (.ret (oret results159 (.t r (.t r (.t r .n))) (.refl _) (.c .z (.c .z (.c .z (.c .z .n)))) ⟨(r32.1,r32.2.1,r32.2.2),r,r,hd⟩)))
theorem W_prog_changed_59a {I:IH} {o0:Vec} {o1:Plan} {o2:State} {o3:Int} {a0:State} {a1:Int} {b5:Nat} {p6:Option Addr} {c7:Nat} {b9:Nat} {p10:Option Addr} {c11:Nat} {b13:Nat} {p14:Option Addr} {c15:Nat} {p17:Option Addr} {c18:Nat} {p20:Option Addr} {c21:Nat} {b23:Nat} {p24:Option Addr} {c25:Nat} {p27:Option Addr} {c28:Nat} {p30:Option Addr} {c31:Nat} {Q:State→Prop} (R8:RepSl eItem I p6 c7 o0.Items) (R12:RepSl eI64 I p10 c11 o1.Draws) (R16:RepSl eI64 I p14 c15 o2.A) (R19:RepSl eI64 I p17 c18 o2.B) (R22:RepSl eU64 I p20 c21 o2.On) (R26:RepSl eI64 I p24 c25 a0.A) (R29:RepSl eI64 I p27 c28 a0.B) (R32:RepSl eU64 I p30 c31 a0.On) (hd:prog_changed_59a o0 o1 o2 o3 a0 a1 Q) :
  Fun prog 158 #[.agg #[.int .i64 a0.Low,.int .i64 a0.High,.slice p24 a0.A.length c25,.slice p27 a0.B.length c28,.slice p30 a0.On.length c31],.int .i64 a1,.func (.func 159) #[] #[.pointer (some ⟨b5,0,none⟩),.pointer (some ⟨b9,0,none⟩),.pointer (some ⟨b13,0,none⟩),.pointer (some ⟨b23,0,none⟩)]] I [pto b5 (.cells #[.int .i64 o0.N,.slice p6 o0.Items.length c7] 54 (0,0)),pto b9 (.cells #[.int .i64 o1.Kind,.int .i64 o1.N,.int .i64 o1.Source,.int .i64 o1.Length,.slice p10 o1.Draws.length c11] 49 (0,0)),pto b13 (.cells #[.int .i64 o2.Low,.int .i64 o2.High,.slice p14 o2.A.length c15,.slice p17 o2.B.length c18,.slice p20 o2.On.length c21] 42 (0,0)),pto b23 (.cells #[.int .i64 o3] 3 (0,0))] (fun I_ v l=>∃ r p33 c34 p36 c37 p39 c40,v=.agg #[.int .i64 r.Low,.int .i64 r.High,.slice p33 r.A.length c34,.slice p36 r.B.length c37,.slice p39 r.On.length c40]∧RepSl eI64 I_ p33 c34 r.A∧RepSl eI64 I_ p36 c37 r.B∧RepSl eU64 I_ p39 c40 r.On∧l=[pto b5 (.cells #[.int .i64 o0.N,.slice p6 o0.Items.length c7] 54 (0,0)),pto b9 (.cells #[.int .i64 o1.Kind,.int .i64 o1.N,.int .i64 o1.Source,.int .i64 o1.Length,.slice p10 o1.Draws.length c11] 49 (0,0)),pto b13 (.cells #[.int .i64 o2.Low,.int .i64 o2.High,.slice p14 o2.A.length c15,.slice p17 o2.B.length c18,.slice p20 o2.On.length c21] 42 (0,0)),pto b23 (.cells #[.int .i64 o3] 3 (0,0))]∧Q r):=by
 refine Fun.enter (vs:=[.agg #[.int .i64 a0.Low,.int .i64 a0.High,.slice p24 a0.A.length c25,.slice p27 a0.B.length c28,.slice p30 a0.On.length c31],.int .i64 a1,.func (.func 159) #[] #[.pointer (some ⟨b5,0,none⟩),.pointer (some ⟨b9,0,none⟩),.pointer (some ⟨b13,0,none⟩),.pointer (some ⟨b23,0,none⟩)]]) func158 r ntmps158 r (.c (.c (.c .n))) fun w0 M=>?_
 refine .sr (.boxA r r r fun b37=>?_)
 refine .allocA zv42 r r fun b39=>?_
 refine .nilS [6,3,2,1] r r (.sr (.fa un42 r sz3 r (o:=0) r r r (.load1 ia3 r (.s .z) r r r (.fa un42 r sz3 r (o:=1) r r r (.load1 ia3 r (.s .z) r r r (.build zv42 un42 BI42 (.c r r r (.t .nil) (.c r r r (.s (.t .nil)) .n)) (by exact ⟨⟨_,_,r,r,r⟩,⟨⟨_,_,r,r,r⟩,trivial⟩⟩) r r (.allocA zv42 r r fun b43=>?_)))))))
 refine .storeA sz42 r r .z (.t (.t (.t (.t (.t .nil))))) r r (.nilS [7,6,2,1] r r (.drop (.s (.s .z)) (.sr (.ks 1 r (.nilS [8,7,6,2,1] r r (.seq (.sr (.ks 2 r (.nilS [19,18,8,7,6,2,1] r r ?_)))))))))
 refine .block (.own0 eI64 2 (.own0 eI64 2 (.own0 eI64 3 (.loop hd (fun (s:(List Int)×(List Int)×(List Int)×Int) c w=>match s with | (s157,s161,s165,s169)=>∃ I_ p158 c159 p162 c163 p166 c167,IH.le I I_∧Ok ⟨52,[],none⟩ [(1,.int .i64 a1),(2,.func (.func 159) #[] #[.pointer (some ⟨b5,0,none⟩),.pointer (some ⟨b9,0,none⟩),.pointer (some ⟨b13,0,none⟩),.pointer (some ⟨b23,0,none⟩)]),(6,.pointer (some ⟨b39,0,none⟩)),(7,.pointer (some ⟨b43,0,none⟩)),(8,.slice p166 s165.length c167),(18,.int .i64 a1),(19,.int .i64 s169)] c∧Sym w0 M I I_ [pto b5 (.cells #[.int .i64 o0.N,.slice p6 o0.Items.length c7] 54 (0,0)),pto b9 (.cells #[.int .i64 o1.Kind,.int .i64 o1.N,.int .i64 o1.Source,.int .i64 o1.Length,.slice p10 o1.Draws.length c11] 49 (0,0)),pto b13 (.cells #[.int .i64 o2.Low,.int .i64 o2.High,.slice p14 o2.A.length c15,.slice p17 o2.B.length c18,.slice p20 o2.On.length c21] 42 (0,0)),pto b23 (.cells #[.int .i64 o3] 3 (0,0)),pto b39 (.cells #[.int .i64 0,.int .i64 0,.slice none 0 0,.slice none 0 0,.slice none 0 0] 42 (0,0)),pto b43 (.cells #[.int .i64 a0.Low,.int .i64 a0.High,.slice p158 s157.length c159,.slice p162 s161.length c163,.slice none 0 0] 42 (0,0)),OwnSl eI64 2 p158 c159 s157,OwnSl eI64 2 p162 c163 s161,OwnSl eI64 3 p166 c167 s165] w) (fun c w ho hs=>⟨I,_,_,_,_,_,_,(.refl _),ho.sub ⟨r,r,r,r,r,r,r,trivial⟩,hs.pick (.c (.s (.s (.s (.s (.s .z))))) (.c (.s (.s (.s (.s (.s .z))))) (.c (.s (.s (.s (.s (.s .z))))) (.c (.s (.s (.s (.s (.s .z))))) (.c (.s (.s (.s (.s .z)))) (.c (.s (.s (.s .z))) (.c (.s (.s .z)) (.c (.s .z) (.c .z .n)))))))))⟩) ?_))))
 rintro ⟨s157,s161,s165,s169⟩ next173 hd c w hst
 obtain ⟨I174,p158,c159,p162,c163,p166,c167,hl175,hok,hsym⟩:=hst
 replace R8:=R8.mono hl175
 replace R12:=R12.mono hl175
 replace R16:=R16.mono hl175
 replace R19:=R19.mono hl175
 replace R22:=R22.mono hl175
 refine Cod.at hok hsym (.sr (.ks 1 r (.nilS [20,19,18,8,7,6,2,1] r r (.seq (.condP r hd (fun hb177 hd=>?_) fun hb177 hd=>?_)))))
 · refine .skipS [19,18,8,7,6,2,1] r r (.seq (.block (.sr (.ks 2 r (.nilS [9,19,18,8,7,6,2,1] r r (.sr (.ks 2 r ?_)))))))
   have hw186:=W_prog_Update_1_24a (I:=I174) (o0:=o0) (o1:=o1) (o2:=o2) (o3:=o3) (a0:=s169) (b5:=b5) (p6:=p6) (c7:=c7) (b9:=b9) (p10:=p10) (c11:=c11) (b13:=b13) (p14:=p14) (c15:=c15) (p17:=p17) (c18:=c18) (p20:=p20) (c21:=c21) (b23:=b23) R8 R12 R16 R19 R22 hd
   refine .callS (.c call159 r r) (.c .z (.c .z (.c .z (.c .z .n)))) hw186 r r fun v190 I187 l191 hl188 hv189=>?_
   obtain ⟨r192,rfl,rfl,hd⟩:=hv189
   have le193:=IH.le.trans hl175 hl188
   replace R8:=R8.mono hl188
   replace R12:=R12.mono hl188
   replace R16:=R16.mono hl188
   replace R19:=R19.mono hl188
   replace R22:=R22.mono hl188
   refine .re (m':=[pto b5 (.cells #[.int .i64 o0.N,.slice p6 o0.Items.length c7] 54 (0,0)),pto b9 (.cells #[.int .i64 o1.Kind,.int .i64 o1.N,.int .i64 o1.Source,.int .i64 o1.Length,.slice p10 o1.Draws.length c11] 49 (0,0)),pto b13 (.cells #[.int .i64 o2.Low,.int .i64 o2.High,.slice p14 o2.A.length c15,.slice p17 o2.B.length c18,.slice p20 o2.On.length c21] 42 (0,0)),pto b23 (.cells #[.int .i64 o3] 3 (0,0)),pto b39 (.cells #[.int .i64 0,.int .i64 0,.slice none 0 0,.slice none 0 0,.slice none 0 0] 42 (0,0)),pto b43 (.cells #[.int .i64 a0.Low,.int .i64 a0.High,.slice p158 s157.length c159,.slice p162 s161.length c163,.slice none 0 0] 42 (0,0)),OwnSl eI64 2 p158 c159 s157,OwnSl eI64 2 p162 c163 s161,OwnSl eI64 3 p166 c167 s165]) r (.ks 7 r (.nilS [12,11,10,9,19,18,8,7,6,2,1] r r (.seq (.dr [0,1,2,5,6,7,8,3,4,10,999,9,11] 12 (.g r r r (fun _=>.fa un42 r sz30 r (o:=2) r r r .mk) (.g r r r (fun _=>.load1 ia30 r (.s (.s (.s (.s (.s .z))))) r r r .mk) (.fk 1 r (.g r r r (fun _=>.fa un42 r sz30 r (o:=3) r r r .mk) (.g r r r (fun _=>.load1 ia30 r (.s (.s (.s (.s (.s .z))))) r r r .mk) ?_)))))))))
   refine .fk 1 r (.a (fun b=>.slice (some ⟨b,0,none⟩) 1 1) (fun b=>pto b (.cells #[.int .i64 r192.2.1] 2 (0,0))) r r r r (fun _ L hL ex=>.buildSlice 1 un30 sz2 zv2 r r (.c r r r .n) r r fun b=>.mk (val:=fun b=>.slice (some ⟨b,0,none⟩) 1 1) (atom:=fun b=>pto b (.cells #[.int .i64 r192.2.1] 2 (0,0))) hL b) (.ww r fun ex=>?_))
   refine .buildSlice 1 un30 sz2 zv2 r r (.c r r r .n) r r fun b195=>?_
   refine .so 10 r r r (.ck 1 r r (.cg r r r r (fun _=>.load1 ia30 r (.s (.s (.s (.s (.s (.s .z)))))) r r r .mk) (.cg r r r r (fun _=>.fa un42 r sz30 r (o:=3) r r r .mk) (.cg r r r r (fun _=>.load1 ia30 r (.s (.s (.s (.s (.s (.s .z)))))) r r r .mk) (.cg r r r r (fun _=>.fa un42 r sz30 r (o:=2) r r r .mk) trivial))))) (.ww r fun ex=>?_)
   obtain ⟨hl197,hd⟩:=hd
   refine .append (ys:=[r192.1]) 8 (.s (.s (.s (.s (.s (.s (.s .z))))))) un30 un30 IN2 r r r r r r r r r (.box .z (.one r) r) hl197 r r fun p198 c199=>?_
   refine .so 10 r r r (.ck 1 r r (.cg r r r r (fun _=>.load1 ia30 r (.s (.s (.s (.s (.s (.s (.s .z))))))) r r r .mk) (.cg r r r r (fun _=>.fa un42 r sz30 r (o:=3) r r r .mk) trivial))) (.g r r r (fun _=>.fa un42 r sz30 r (o:=2) r r r .mk) (.b r fun b201=>DrawD.nop (.ww r fun ex=>?_)))
   obtain ⟨hl202,hd⟩:=hd
   refine .append (ys:=[r192.2.1]) 8 (.s (.s (.s (.s (.s (.s (.s (.s .z)))))))) un30 un30 IN2 r r r r r r r r r (.box (.s (.s (.s (.s (.s (.s (.s (.s (.s (.s .z)))))))))) (.one r) r) hl202 r r fun p203 c204=>?_
   refine .so 11 r r r (.cg r r r r (fun _=>.fa un42 r sz30 r (o:=2) r r r .mk) trivial) (.ww r fun ex=>?_)
   refine .store1 sz30 r r (.s (.s (.s (.s (.s (.s (.s (.s .z)))))))) (.s (.s (.t .nil))) r (.sn 11 r r r trivial (.e2 12 (.fa un42 r sz30 r (o:=3) r r r (.store1 sz30 r r (.s (.s (.s (.s (.s (.s (.s (.s .z)))))))) (.s (.s (.s (.t .nil)))) r (.nilS [12,9,19,18,8,7,6,2,1] r r (.drop (.s (.s .z)) (.drop (.s (.s (.s (.s (.s (.s (.s (.s (.s .z))))))))) (.sr (.ks 1 r ?_)))))))))
   refine .nilS [41,9,19,18,8,7,6,2,1] r r (.condP r hd (fun hb206 hd=>?_) fun hb206 hd=>?_)
   · refine .region (.ks 2 r (.buildSlice 1 un29 sz3 zv3 r r (.c r r r .n) r r fun b207=>?_))
     obtain ⟨hl209,hd⟩:=hd
     refine .append (ys:=[s169]) 8 (.s (.s (.s (.s (.s (.s (.s (.s (.s .z))))))))) un29 un29 IN3 r r r r r r r r r (.box .z (.one r) r) hl209 r r fun p210 c211=>?_
     exact .ks 1 r (.nilS [8,19,18,7,6,2,1] r r (.drop (.s .z) (.region (.ks 2 r (.nil' fun c w ho hs=>⟨((s157++([r192.1])),(s161++([r192.2.1])),(s165++([s169])),w64 (s169+1)),hd,I187,_,_,_,_,_,_,le193,ho.sub ⟨r,r,r,r,r,r,r,trivial⟩,hs.pick (.c (.s (.s (.s .z))) (.c (.s (.s (.s .z))) (.c (.s (.s (.s .z))) (.c (.s (.s (.s .z))) (.c (.s (.s (.s .z))) (.c (.s (.s (.s .z))) (.c (.s (.s .z)) (.c (.s .z) (.c .z .n)))))))))⟩)))))
   exact .skipS [19,18,8,7,6,2,1] r r (.region (.ks 2 r (.nil' fun c w ho hs=>⟨((s157++([r192.1])),(s161++([r192.2.1])),s165,w64 (s169+1)),hd,I187,_,_,_,_,_,_,le193,ho.sub ⟨r,r,r,r,r,r,r,trivial⟩,hs.pick (.c (.s (.s .z)) (.c (.s (.s .z)) (.c (.s (.s .z)) (.c (.s (.s .z)) (.c (.s (.s .z)) (.c (.s (.s .z)) (.c (.s .z) (.c .z (.c .z .n)))))))))⟩)))
 refine .exitS [8,7,6,2,1] r r (.sr (.ks 2 r (.pub (.s (.s (.s (.s (.s (.s (.s (.s .z)))))))) fun I213 hl214 R215=>?_)))
 have le216:=IH.le.trans hl175 hl214
 replace R8:=R8.mono hl214
 replace R12:=R12.mono hl214
 replace R16:=R16.mono hl214
 replace R19:=R19.mono hl214
 replace R22:=R22.mono hl214
 have hw226:=W_flags_Of (I:=I213) R215 hd
 refine .call call152 r hw226 r r fun v221 I218 hl219 hv220=>?_
 obtain ⟨r217,p223,c224,rfl,R225,hd⟩:=hv220
 have le227:=IH.le.trans le216 hl219
 replace R8:=R8.mono hl219
 replace R12:=R12.mono hl219
 replace R16:=R16.mono hl219
 replace R19:=R19.mono hl219
 replace R22:=R22.mono hl219
 replace R215:=R215.mono hl219
 refine .fa un42 r sz40 r (o:=4) r r r (.store1 sz40 r r (.s (.s (.s (.s (.s .z))))) (.s (.s (.s (.s (.t .nil))))) r (.nilS [7,6,2] r r (.sr (.loadW ia42 sz42 r (.s (.s (.s (.s (.s .z))))) r r r (.storeA sz42 r r (.s (.s (.s (.s .z)))) (.t (.t (.t (.t (.t .nil))))) r r (.nilS [6,2] r r (.drop (.s (.s (.s (.s (.s .z))))) (.pub (.s (.s (.s (.s (.s (.s .z)))))) fun I228 hl229 R230=>?_))))))))
 have le231:=IH.le.trans le227 hl229
 replace R8:=R8.mono hl229
 replace R12:=R12.mono hl229
 replace R16:=R16.mono hl229
 replace R19:=R19.mono hl229
 replace R22:=R22.mono hl229
 replace R225:=R225.mono hl229
 refine .pub (.s (.s (.s (.s (.s .z))))) fun I232 hl233 R234=>?_
 have le235:=IH.le.trans le231 hl233
 replace R8:=R8.mono hl233
 replace R12:=R12.mono hl233
 replace R16:=R16.mono hl233
 replace R19:=R19.mono hl233
 replace R22:=R22.mono hl233
 replace R225:=R225.mono hl233
 replace R230:=R230.mono hl233
 exact .ret (oret results158 (.w ia42 sz42 r (.s (.s (.s (.s .z)))) r .n) le235 (.c .z (.c .z (.c .z (.c .z .n)))) ⟨({ Low:=a0.Low,High:=a0.High,A:=s157,B:=s161,On:=r217 }:State),_,_,_,_,_,_,r,R234,R230,R225,r,hd⟩)
theorem W_prog_Update {I:IH} {a0:Plan} {a1:State} {a2:Int} {a3:Vec} {p1:Option Addr} {c2:Nat} {p4:Option Addr} {c5:Nat} {p7:Option Addr} {c8:Nat} {p10:Option Addr} {c11:Nat} {p13:Option Addr} {c14:Nat} {Q:State→Prop} (R3:RepSl eI64 I p1 c2 a0.Draws) (R6:RepSl eI64 I p4 c5 a1.A) (R9:RepSl eI64 I p7 c8 a1.B) (R12:RepSl eU64 I p10 c11 a1.On) (R15:RepSl eItem I p13 c14 a3.Items) (hd:prog_Update a0 a1 a2 a3 Q) :
  PFun prog 85 [.agg #[.int .i64 a0.Kind,.int .i64 a0.N,.int .i64 a0.Source,.int .i64 a0.Length,.slice p1 a0.Draws.length c2],.agg #[.int .i64 a1.Low,.int .i64 a1.High,.slice p4 a1.A.length c5,.slice p7 a1.B.length c8,.slice p10 a1.On.length c11],.int .i64 a2,.agg #[.int .i64 a3.N,.slice p13 a3.Items.length c14]] I (o31_ Q):=by
 refine Fun.enter func85 r ntmps85 r (.c (.c (.c (.c .n)))) fun w0 M=>?_
 refine .sr (.boxA r r r fun b35=>?_)
 refine .boxA r r r fun b37=>?_
 refine .box1 r r r r fun b39=>?_
 refine .boxA r r r fun b41=>?_
 refine .allocA zv42 r r fun b43=>?_
 refine .nilS [8,7,6,5,4] r r (.sr (.loadW ia49 sz49 r (.s (.s (.s (.s .z)))) r r r (.loadW ia42 sz42 r (.s (.s (.s .z))) r r r ?_)))
 have hw76:=W_prog_sure (I:=I) R3 R6 R9 R12 hd
 refine .call call151 r hw76 r r fun v65 I62 hl63 hv64=>?_
 obtain ⟨r61,p67,c68,p70,c71,p73,c74,rfl,R69,R72,R75,hd⟩:=hv64
 replace R3:=R3.mono hl63
 replace R6:=R6.mono hl63
 replace R9:=R9.mono hl63
 replace R12:=R12.mono hl63
 replace R15:=R15.mono hl63
 refine .storeA sz42 r r (.s (.s (.s .z))) (.t (.t (.t (.t (.t .nil))))) r r (.nilS [8,7,6,5,4] r r (.sr (.fa un42 r sz3 r (o:=1) r r r (.load1 ia3 r (.s (.s (.s .z))) r r r (.fa un42 r sz3 r (o:=0) r r r (.load1 ia3 r (.s (.s (.s .z))) r r r (.ks 2 r (.nilS [9,8,7,6,5,4] r r (.seq ?_)))))))))
 refine .seq ?_
 refine Cod.joinQ (σ:=Bool) hd (fun (s87:Bool) c w=>∃ I_,IH.le I62 I_∧Ok ⟨45,[],none⟩ [(4,.pointer (some ⟨b35,0,none⟩)),(5,.pointer (some ⟨b37,0,none⟩)),(6,.pointer (some ⟨b39,0,none⟩)),(7,.pointer (some ⟨b41,0,none⟩)),(8,.pointer (some ⟨b43,0,none⟩)),(9,.int .i64 (w64 (r61.High - r61.Low))),(26,.bool s87)] c∧Sym w0 M I I_ [pto b35 (.cells #[.int .i64 a0.Kind,.int .i64 a0.N,.int .i64 a0.Source,.int .i64 a0.Length,.slice p1 a0.Draws.length c2] 49 (0,0)),pto b37 (.cells #[.int .i64 r61.Low,.int .i64 r61.High,.slice p67 r61.A.length c68,.slice p70 r61.B.length c71,.slice p73 r61.On.length c74] 42 (0,0)),pto b39 (.cells #[.int .i64 a2] 3 (0,0)),pto b41 (.cells #[.int .i64 a3.N,.slice p13 a3.Items.length c14] 54 (0,0)),pto b43 (.cells #[.int .i64 0,.int .i64 0,.slice none 0 0,.slice none 0 0,.slice none 0 0] 42 (0,0))] w) (fun k88 hd=>?_) ?_
 · skip
   refine .region (.loadW ia54 sz54 r (.s .z) r r r ?_)
   have hw90:=W_spvec_Right (I:=I62) R15 hd
   refine .callP call155 r hw90 r r fun v91 hv92=>?_
   obtain ⟨r89,rfl,hd⟩:=hv92
   refine .ks 2 r ?_
   refine splitP hd (fun hb93 hd=>?_) fun hb93 hd=>?_
   · rw [hb93]
     exact .ks 5 r (.nil' fun c w ho hs=>⟨true,hd,I62,(.refl _),ho.sub ⟨r,r,r,r,r,r,r,trivial⟩,hs.pick (.c (.s (.s (.s (.s .z)))) (.c (.s (.s (.s .z))) (.c (.s (.s .z)) (.c (.s .z) (.c .z .n)))))⟩)
   rw [hb93]
   exact .gyes r r r (.fa un54 r sz3 r (o:=0) r r r (.gyes r r r (.load1 ia3 r (.s .z) r r r (.ks 3 r (.nil' fun c w ho hs=>⟨(a3.N != (w64 (r61.High - r61.Low))),hd,I62,(.refl _),ho.sub ⟨r,r,r,r,r,r,r,trivial⟩,hs.pick (.c (.s (.s (.s (.s .z)))) (.c (.s (.s (.s .z))) (.c (.s (.s .z)) (.c (.s .z) (.c .z .n)))))⟩)))))
 rintro s87 hd c w hst
 obtain ⟨I94,hl95,hok,hsym⟩:=hst
 have le96:=IH.le.trans hl63 hl95
 replace R3:=R3.mono hl95
 replace R15:=R15.mono hl95
 replace R69:=R69.mono hl95
 replace R72:=R72.mono hl95
 replace R75:=R75.mono hl95
 refine Cod.at hok hsym (.condP r hd (fun hb97 hd=>?_) fun hb97 hd=>?_)
 · refine .seq (.dr [0,1,2,3,4,5,7,8,10,11,6,9,12,13] 14 (.g r r r (fun _=>.fa un42 r sz3 r (o:=0) r r r .mk) (.g r r r (fun _=>.load1 ia3 r (.s .z) r r r .mk) (.g r r r (fun _=>.fa un42 r sz3 r (o:=1) r r r .mk) (.g r r r (fun _=>.load1 ia3 r (.s .z) r r r .mk) (.g r r r (fun _=>.fa un42 r sz30 r (o:=2) r r r .mk) (.g r r r (fun _=>.load1 ia30 r (.s .z) r r r .mk) (.g r r r (fun _=>.fa un42 r sz30 r (o:=3) r r r .mk) (.g r r r (fun _=>.load1 ia30 r (.s .z) r r r .mk) ?_)))))))))
   refine .g r r r (fun _=>.fa un42 r sz40 r (o:=4) r r r .mk) (.g r r r (fun _=>.load1 ia40 r (.s .z) r r r .mk) (.ww r fun ex=>?_))
   have hw107:=W_slices_Clone_int64_int64 (I:=I94) R69 hd
   refine .call call156 r hw107 r r fun v102 I99 hl100 hv101=>?_
   obtain ⟨r98,p104,c105,rfl,R106,hd⟩:=hv101
   have le108:=IH.le.trans le96 hl100
   have le109:=IH.le.trans hl95 hl100
   replace R3:=R3.mono hl100
   replace R15:=R15.mono hl100
   replace R69:=R69.mono hl100
   replace R72:=R72.mono hl100
   replace R75:=R75.mono hl100
   refine .so 5 r r r (.cg r r r r (fun _=>.load1 ia40 r (.s .z) r r r .mk) (.cg r r r r (fun _=>.fa un42 r sz40 r (o:=4) r r r .mk) (.cg r r r r (fun _=>.load1 ia30 r (.s .z) r r r .mk) (.cg r r r r (fun _=>.fa un42 r sz30 r (o:=3) r r r .mk) (.cg r r r r (fun _=>.load1 ia3 r (.s .z) r r r .mk) (.cg r r r r (fun _=>.fa un42 r sz3 r (o:=1) r r r .mk) (.cg r r r r (fun _=>.load1 ia3 r (.s .z) r r r .mk) (.cg r r r r (fun _=>.fa un42 r sz3 r (o:=0) r r r .mk) trivial)))))))) (.ww r fun ex=>?_)
   have hw119:=W_slices_Clone_int64_int64 (I:=I99) R72 hd
   refine .call call156 r hw119 r r fun v114 I111 hl112 hv113=>?_
   obtain ⟨r110,p116,c117,rfl,R118,hd⟩:=hv113
   have le120:=IH.le.trans le108 hl112
   have le121:=IH.le.trans le109 hl112
   replace R3:=R3.mono hl112
   replace R15:=R15.mono hl112
   replace R69:=R69.mono hl112
   replace R72:=R72.mono hl112
   replace R75:=R75.mono hl112
   replace R106:=R106.mono hl112
   refine .so 5 r r r (.cg r r r r (fun _=>.load1 ia40 r (.s .z) r r r .mk) (.cg r r r r (fun _=>.fa un42 r sz40 r (o:=4) r r r .mk) (.cg r r r r (fun _=>.load1 ia3 r (.s .z) r r r .mk) (.cg r r r r (fun _=>.fa un42 r sz3 r (o:=1) r r r .mk) (.cg r r r r (fun _=>.load1 ia3 r (.s .z) r r r .mk) (.cg r r r r (fun _=>.fa un42 r sz3 r (o:=0) r r r .mk) trivial)))))) (.ww r fun ex=>?_)
   have hw131:=W_slices_Clone_uint64_uint64 (I:=I111) R75 hd
   refine .call call157 r hw131 r r fun v126 I123 hl124 hv125=>?_
   obtain ⟨r122,p128,c129,rfl,R130,hd⟩:=hv125
   have le132:=IH.le.trans le120 hl124
   have le133:=IH.le.trans le121 hl124
   replace R3:=R3.mono hl124
   replace R15:=R15.mono hl124
   replace R69:=R69.mono hl124
   replace R72:=R72.mono hl124
   replace R75:=R75.mono hl124
   replace R106:=R106.mono hl124
   replace R118:=R118.mono hl124
   exact .so 5 r r r (.cg r r r r (fun _=>.load1 ia3 r (.s .z) r r r .mk) (.cg r r r r (fun _=>.fa un42 r sz3 r (o:=1) r r r .mk) (.cg r r r r (fun _=>.load1 ia3 r (.s .z) r r r .mk) (.cg r r r r (fun _=>.fa un42 r sz3 r (o:=0) r r r .mk) trivial)))) (.g r r r (fun _=>.build zv42 un42 BI42 (.c r r r (.t .nil) (.c r r r (.s (.t .nil)) (.c r r r (.s (.s (.t .nil))) (.c r r r (.s (.s (.s (.t .nil)))) (.c r r r (.s (.s (.s (.s (.t .nil))))) .n))))) (by exact ⟨⟨_,_,r,r,r⟩,⟨⟨_,_,r,r,r⟩,⟨⟨_,_,r,r,r⟩,⟨⟨_,_,r,r,r⟩,⟨⟨_,_,r,r,r⟩,trivial⟩⟩⟩⟩⟩) r r .mk) (.e2 14 (.storeA sz42 r r (.s (.s (.s (.s .z)))) (.t (.t (.t (.t (.t .nil))))) r r (.nilS [8] r r (.drop .z (.drop .z (.drop .z (.drop .z (.ret (pret results85 (.w ia42 sz42 r .z r .n) le132 ⟨({ Low:=r61.Low,High:=r61.High,A:=r98,B:=r110,On:=r122 }:State),_,_,_,_,_,_,r,R106,R118,R130,hd⟩))))))))))
 refine .skipS [9,8,7,6,5,4] r r (.sr (.loadW ia42 sz42 r (.s .z) r r r (.ks 1 r (.mkFn r r r r ?_))))
 have hw134:=W_prog_changed_59a (I:=I94) (o0:=a3) (o1:=a0) (o2:=r61) (o3:=a2) (a0:=r61) (a1:=(w64 (r61.High - r61.Low))) (b5:=b41) (p6:=p13) (c7:=c14) (b9:=b35) (p10:=p1) (c11:=c2) (b13:=b37) (p14:=p67) (c15:=c68) (p17:=p70) (c18:=c71) (p20:=p73) (c21:=c74) (b23:=b39) R15 R3 R69 R72 R75 R69 R72 R75 hd
 refine .callS (.f call158 r) (.c (.s (.s (.s .z))) (.c .z (.c .z (.c .z .n)))) hw134 r r fun v138 I135 l139 hl136 hv137=>?_
 obtain ⟨r140,p141,c142,p144,c145,p147,c148,rfl,R143,R146,R149,rfl,hd⟩:=hv137
 have le150:=IH.le.trans le96 hl136
 have le151:=IH.le.trans hl95 hl136
 replace R3:=R3.mono hl136
 replace R15:=R15.mono hl136
 replace R69:=R69.mono hl136
 replace R72:=R72.mono hl136
 replace R75:=R75.mono hl136
 exact .re (m':=[pto b41 (.cells #[.int .i64 a3.N,.slice p13 a3.Items.length c14] 54 (0,0)),pto b35 (.cells #[.int .i64 a0.Kind,.int .i64 a0.N,.int .i64 a0.Source,.int .i64 a0.Length,.slice p1 a0.Draws.length c2] 49 (0,0)),pto b37 (.cells #[.int .i64 r61.Low,.int .i64 r61.High,.slice p67 r61.A.length c68,.slice p70 r61.B.length c71,.slice p73 r61.On.length c74] 42 (0,0)),pto b39 (.cells #[.int .i64 a2] 3 (0,0)),pto b43 (.cells #[.int .i64 0,.int .i64 0,.slice none 0 0,.slice none 0 0,.slice none 0 0] 42 (0,0))]) r (.storeA sz42 r r (.s (.s (.s (.s .z)))) (.t (.t (.t (.t (.t .nil))))) r r (.nilS [8] r r (.drop .z (.drop .z (.drop .z (.drop .z (.ret (pret results85 (.w ia42 sz42 r .z r .n) le150 ⟨r140,_,_,_,_,_,_,r,R143,R146,R149,hd⟩))))))))
theorem W_prog_Begin_1_d27 {I:IH} {o0:Plan} {o1:Int} {a0:Int} {b3:Nat} {p4:Option Addr} {c5:Nat} {b7:Nat} {Q:(Int×Int×Bool)→Prop} (R6:RepSl eI64 I p4 c5 o0.Draws) (hd:prog_Begin_1_d27 o0 o1 a0 Q) :
  Fun prog 183 #[.int .i64 a0,.pointer (some ⟨b3,0,none⟩),.pointer (some ⟨b7,0,none⟩)] I [pto b3 (.cells #[.int .i64 o0.Kind,.int .i64 o0.N,.int .i64 o0.Source,.int .i64 o0.Length,.slice p4 o0.Draws.length c5] 49 (0,0)),pto b7 (.cells #[.int .i64 o1] 3 (0,0))] (fun I_ v l=>∃ r,v=.tuple #[.int .i64 r.1,.int .i64 r.2.1,.bool r.2.2]∧l=[pto b3 (.cells #[.int .i64 o0.Kind,.int .i64 o0.N,.int .i64 o0.Source,.int .i64 o0.Length,.slice p4 o0.Draws.length c5] 49 (0,0)),pto b7 (.cells #[.int .i64 o1] 3 (0,0))]∧Q r):=by
 refine Fun.enter (vs:=[.int .i64 a0,.pointer (some ⟨b3,0,none⟩),.pointer (some ⟨b7,0,none⟩)]) func183 r ntmps183 r (.c (.c (.c .n))) fun w0 M=>?_
 refine .sr (.ks 3 r (.nilS [2,1,0] r r (.sr (.loadW ia49 sz49 r .z r r r (.load1 ia3 r (.s .z) r r r (.ks 2 r ?_))))))
 have hw9:=W_prog_first (I:=I) R6 hd
 refine .callP call184 r hw9 r r fun v10 hv11=>?_
 obtain ⟨r8,rfl,hd⟩:=hv11
 exact .ks 5 r (.nilS [8,7,2,1] r r (.sr (.ks 5 r (.nilS [6,5,4,2,1] r r (.ret (oret results183 (.t r (.t r (.t r .n))) (.refl _) (.c .z (.c .z .n)) ⟨(r8.1,(-1),r8.2),r,r,hd⟩))))))
theorem W_prog_changed_b13 {I:IH} {o0:Plan} {o1:Int} {a0:State} {a1:Int} {b3:Nat} {p4:Option Addr} {c5:Nat} {b7:Nat} {p8:Option Addr} {c9:Nat} {p11:Option Addr} {c12:Nat} {p14:Option Addr} {c15:Nat} {Q:State→Prop} (R6:RepSl eI64 I p4 c5 o0.Draws) (R10:RepSl eI64 I p8 c9 a0.A) (R13:RepSl eI64 I p11 c12 a0.B) (R16:RepSl eU64 I p14 c15 a0.On) (hd:prog_changed_b13 o0 o1 a0 a1 Q) :
  Fun prog 158 #[.agg #[.int .i64 a0.Low,.int .i64 a0.High,.slice p8 a0.A.length c9,.slice p11 a0.B.length c12,.slice p14 a0.On.length c15],.int .i64 a1,.func (.func 183) #[] #[.pointer (some ⟨b3,0,none⟩),.pointer (some ⟨b7,0,none⟩)]] I [pto b3 (.cells #[.int .i64 o0.Kind,.int .i64 o0.N,.int .i64 o0.Source,.int .i64 o0.Length,.slice p4 o0.Draws.length c5] 49 (0,0)),pto b7 (.cells #[.int .i64 o1] 3 (0,0))] (fun I_ v l=>∃ r p17 c18 p20 c21 p23 c24,v=.agg #[.int .i64 r.Low,.int .i64 r.High,.slice p17 r.A.length c18,.slice p20 r.B.length c21,.slice p23 r.On.length c24]∧RepSl eI64 I_ p17 c18 r.A∧RepSl eI64 I_ p20 c21 r.B∧RepSl eU64 I_ p23 c24 r.On∧l=[pto b3 (.cells #[.int .i64 o0.Kind,.int .i64 o0.N,.int .i64 o0.Source,.int .i64 o0.Length,.slice p4 o0.Draws.length c5] 49 (0,0)),pto b7 (.cells #[.int .i64 o1] 3 (0,0))]∧Q r):=by
 refine Fun.enter (vs:=[.agg #[.int .i64 a0.Low,.int .i64 a0.High,.slice p8 a0.A.length c9,.slice p11 a0.B.length c12,.slice p14 a0.On.length c15],.int .i64 a1,.func (.func 183) #[] #[.pointer (some ⟨b3,0,none⟩),.pointer (some ⟨b7,0,none⟩)]]) func158 r ntmps158 r (.c (.c (.c .n))) fun w0 M=>?_
 refine .sr (.boxA r r r fun b21=>?_)
 refine .allocA zv42 r r fun b23=>?_
 refine .nilS [6,3,2,1] r r (.sr (.fa un42 r sz3 r (o:=0) r r r (.load1 ia3 r (.s .z) r r r (.fa un42 r sz3 r (o:=1) r r r (.load1 ia3 r (.s .z) r r r (.build zv42 un42 BI42 (.c r r r (.t .nil) (.c r r r (.s (.t .nil)) .n)) (by exact ⟨⟨_,_,r,r,r⟩,⟨⟨_,_,r,r,r⟩,trivial⟩⟩) r r (.allocA zv42 r r fun b27=>?_)))))))
 refine .storeA sz42 r r .z (.t (.t (.t (.t (.t .nil))))) r r (.nilS [7,6,2,1] r r (.drop (.s (.s .z)) (.sr (.ks 1 r (.nilS [8,7,6,2,1] r r (.seq (.sr (.ks 2 r (.nilS [19,18,8,7,6,2,1] r r ?_)))))))))
 refine .block (.own0 eI64 2 (.own0 eI64 2 (.own0 eI64 3 (.loop hd (fun (s:(List Int)×(List Int)×(List Int)×Int) c w=>match s with | (s141,s145,s149,s153)=>∃ I_ p142 c143 p146 c147 p150 c151,IH.le I I_∧Ok ⟨52,[],none⟩ [(1,.int .i64 a1),(2,.func (.func 183) #[] #[.pointer (some ⟨b3,0,none⟩),.pointer (some ⟨b7,0,none⟩)]),(6,.pointer (some ⟨b23,0,none⟩)),(7,.pointer (some ⟨b27,0,none⟩)),(8,.slice p150 s149.length c151),(18,.int .i64 a1),(19,.int .i64 s153)] c∧Sym w0 M I I_ [pto b3 (.cells #[.int .i64 o0.Kind,.int .i64 o0.N,.int .i64 o0.Source,.int .i64 o0.Length,.slice p4 o0.Draws.length c5] 49 (0,0)),pto b7 (.cells #[.int .i64 o1] 3 (0,0)),pto b23 (.cells #[.int .i64 0,.int .i64 0,.slice none 0 0,.slice none 0 0,.slice none 0 0] 42 (0,0)),pto b27 (.cells #[.int .i64 a0.Low,.int .i64 a0.High,.slice p142 s141.length c143,.slice p146 s145.length c147,.slice none 0 0] 42 (0,0)),OwnSl eI64 2 p142 c143 s141,OwnSl eI64 2 p146 c147 s145,OwnSl eI64 3 p150 c151 s149] w) (fun c w ho hs=>⟨I,_,_,_,_,_,_,(.refl _),ho.sub ⟨r,r,r,r,r,r,r,trivial⟩,hs.pick (.c (.s (.s (.s (.s (.s .z))))) (.c (.s (.s (.s (.s (.s .z))))) (.c (.s (.s (.s (.s .z)))) (.c (.s (.s (.s .z))) (.c (.s (.s .z)) (.c (.s .z) (.c .z .n)))))))⟩) ?_))))
 rintro ⟨s141,s145,s149,s153⟩ next157 hd c w hst
 obtain ⟨I158,p142,c143,p146,c147,p150,c151,hl159,hok,hsym⟩:=hst
 replace R6:=R6.mono hl159
 refine Cod.at hok hsym (.sr (.ks 1 r (.nilS [20,19,18,8,7,6,2,1] r r (.seq (.condP r hd (fun hb161 hd=>?_) fun hb161 hd=>?_)))))
 · refine .skipS [19,18,8,7,6,2,1] r r (.seq (.block (.sr (.ks 2 r (.nilS [9,19,18,8,7,6,2,1] r r (.sr (.ks 2 r ?_)))))))
   have hw170:=W_prog_Begin_1_d27 (I:=I158) (o0:=o0) (o1:=o1) (a0:=s153) (b3:=b3) (p4:=p4) (c5:=c5) (b7:=b7) R6 hd
   refine .callS (.c call183 r r) (.c .z (.c .z .n)) hw170 r r fun v174 I171 l175 hl172 hv173=>?_
   obtain ⟨r176,rfl,rfl,hd⟩:=hv173
   have le177:=IH.le.trans hl159 hl172
   replace R6:=R6.mono hl172
   refine .re (m':=[pto b3 (.cells #[.int .i64 o0.Kind,.int .i64 o0.N,.int .i64 o0.Source,.int .i64 o0.Length,.slice p4 o0.Draws.length c5] 49 (0,0)),pto b7 (.cells #[.int .i64 o1] 3 (0,0)),pto b23 (.cells #[.int .i64 0,.int .i64 0,.slice none 0 0,.slice none 0 0,.slice none 0 0] 42 (0,0)),pto b27 (.cells #[.int .i64 a0.Low,.int .i64 a0.High,.slice p142 s141.length c143,.slice p146 s145.length c147,.slice none 0 0] 42 (0,0)),OwnSl eI64 2 p142 c143 s141,OwnSl eI64 2 p146 c147 s145,OwnSl eI64 3 p150 c151 s149]) r (.ks 7 r (.nilS [12,11,10,9,19,18,8,7,6,2,1] r r (.seq (.dr [0,1,2,5,6,7,8,3,4,10,999,9,11] 12 (.g r r r (fun _=>.fa un42 r sz30 r (o:=2) r r r .mk) (.g r r r (fun _=>.load1 ia30 r (.s (.s (.s .z))) r r r .mk) (.fk 1 r (.g r r r (fun _=>.fa un42 r sz30 r (o:=3) r r r .mk) (.g r r r (fun _=>.load1 ia30 r (.s (.s (.s .z))) r r r .mk) ?_)))))))))
   refine .fk 1 r (.a (fun b=>.slice (some ⟨b,0,none⟩) 1 1) (fun b=>pto b (.cells #[.int .i64 r176.2.1] 2 (0,0))) r r r r (fun _ L hL ex=>.buildSlice 1 un30 sz2 zv2 r r (.c r r r .n) r r fun b=>.mk (val:=fun b=>.slice (some ⟨b,0,none⟩) 1 1) (atom:=fun b=>pto b (.cells #[.int .i64 r176.2.1] 2 (0,0))) hL b) (.ww r fun ex=>?_))
   refine .buildSlice 1 un30 sz2 zv2 r r (.c r r r .n) r r fun b179=>?_
   refine .so 8 r r r (.ck 1 r r (.cg r r r r (fun _=>.load1 ia30 r (.s (.s (.s (.s .z)))) r r r .mk) (.cg r r r r (fun _=>.fa un42 r sz30 r (o:=3) r r r .mk) (.cg r r r r (fun _=>.load1 ia30 r (.s (.s (.s (.s .z)))) r r r .mk) (.cg r r r r (fun _=>.fa un42 r sz30 r (o:=2) r r r .mk) trivial))))) (.ww r fun ex=>?_)
   obtain ⟨hl181,hd⟩:=hd
   refine .append (ys:=[r176.1]) 8 (.s (.s (.s (.s (.s .z))))) un30 un30 IN2 r r r r r r r r r (.box .z (.one r) r) hl181 r r fun p182 c183=>?_
   refine .so 8 r r r (.ck 1 r r (.cg r r r r (fun _=>.load1 ia30 r (.s (.s (.s (.s (.s .z))))) r r r .mk) (.cg r r r r (fun _=>.fa un42 r sz30 r (o:=3) r r r .mk) trivial))) (.g r r r (fun _=>.fa un42 r sz30 r (o:=2) r r r .mk) (.b r fun b185=>DrawD.nop (.ww r fun ex=>?_)))
   obtain ⟨hl186,hd⟩:=hd
   refine .append (ys:=[r176.2.1]) 8 (.s (.s (.s (.s (.s (.s .z)))))) un30 un30 IN2 r r r r r r r r r (.box (.s (.s (.s (.s (.s (.s (.s (.s .z)))))))) (.one r) r) hl186 r r fun p187 c188=>?_
   refine .so 9 r r r (.cg r r r r (fun _=>.fa un42 r sz30 r (o:=2) r r r .mk) trivial) (.ww r fun ex=>?_)
   refine .store1 sz30 r r (.s (.s (.s (.s (.s (.s .z)))))) (.s (.s (.t .nil))) r (.sn 9 r r r trivial (.e2 12 (.fa un42 r sz30 r (o:=3) r r r (.store1 sz30 r r (.s (.s (.s (.s (.s (.s .z)))))) (.s (.s (.s (.t .nil)))) r (.nilS [12,9,19,18,8,7,6,2,1] r r (.drop (.s (.s .z)) (.drop (.s (.s (.s (.s (.s (.s (.s .z))))))) (.sr (.ks 1 r ?_)))))))))
   refine .nilS [41,9,19,18,8,7,6,2,1] r r (.condP r hd (fun hb190 hd=>?_) fun hb190 hd=>?_)
   · refine .region (.ks 2 r (.buildSlice 1 un29 sz3 zv3 r r (.c r r r .n) r r fun b191=>?_))
     obtain ⟨hl193,hd⟩:=hd
     refine .append (ys:=[s153]) 8 (.s (.s (.s (.s (.s (.s (.s .z))))))) un29 un29 IN3 r r r r r r r r r (.box .z (.one r) r) hl193 r r fun p194 c195=>?_
     exact .ks 1 r (.nilS [8,19,18,7,6,2,1] r r (.drop (.s .z) (.region (.ks 2 r (.nil' fun c w ho hs=>⟨((s141++([r176.1])),(s145++([r176.2.1])),(s149++([s153])),w64 (s153+1)),hd,I171,_,_,_,_,_,_,le177,ho.sub ⟨r,r,r,r,r,r,r,trivial⟩,hs.pick (.c (.s (.s (.s .z))) (.c (.s (.s (.s .z))) (.c (.s (.s (.s .z))) (.c (.s (.s (.s .z))) (.c (.s (.s .z)) (.c (.s .z) (.c .z .n)))))))⟩)))))
   exact .skipS [19,18,8,7,6,2,1] r r (.region (.ks 2 r (.nil' fun c w ho hs=>⟨((s141++([r176.1])),(s145++([r176.2.1])),s149,w64 (s153+1)),hd,I171,_,_,_,_,_,_,le177,ho.sub ⟨r,r,r,r,r,r,r,trivial⟩,hs.pick (.c (.s (.s .z)) (.c (.s (.s .z)) (.c (.s (.s .z)) (.c (.s (.s .z)) (.c (.s .z) (.c .z (.c .z .n)))))))⟩)))
 refine .exitS [8,7,6,2,1] r r (.sr (.ks 2 r (.pub (.s (.s (.s (.s (.s (.s .z)))))) fun I197 hl198 R199=>?_)))
 have le200:=IH.le.trans hl159 hl198
 replace R6:=R6.mono hl198
 have hw210:=W_flags_Of (I:=I197) R199 hd
 refine .call call152 r hw210 r r fun v205 I202 hl203 hv204=>?_
 obtain ⟨r201,p207,c208,rfl,R209,hd⟩:=hv204
 have le211:=IH.le.trans le200 hl203
 replace R6:=R6.mono hl203
 replace R199:=R199.mono hl203
 refine .fa un42 r sz40 r (o:=4) r r r (.store1 sz40 r r (.s (.s (.s .z))) (.s (.s (.s (.s (.t .nil))))) r (.nilS [7,6,2] r r (.sr (.loadW ia42 sz42 r (.s (.s (.s .z))) r r r (.storeA sz42 r r (.s (.s .z)) (.t (.t (.t (.t (.t .nil))))) r r (.nilS [6,2] r r (.drop (.s (.s (.s .z))) (.pub (.s (.s (.s (.s .z)))) fun I212 hl213 R214=>?_))))))))
 have le215:=IH.le.trans le211 hl213
 replace R6:=R6.mono hl213
 replace R209:=R209.mono hl213
 refine .pub (.s (.s (.s .z))) fun I216 hl217 R218=>?_
 have le219:=IH.le.trans le215 hl217
 replace R6:=R6.mono hl217
 replace R209:=R209.mono hl217
 replace R214:=R214.mono hl217
 exact .ret (oret results158 (.w ia42 sz42 r (.s (.s .z)) r .n) le219 (.c .z (.c .z .n)) ⟨({ Low:=a0.Low,High:=a0.High,A:=s141,B:=s145,On:=r201 }:State),_,_,_,_,_,_,r,R218,R214,R209,r,hd⟩)
theorem W_prog_Begin {I:IH} {a0:Plan} {a1:Int} {a2:Int} {p1:Option Addr} {c2:Nat} {Q:State→Prop} (R3:RepSl eI64 I p1 c2 a0.Draws) (hd:prog_Begin a0 a1 a2 Q) :
  PFun prog 115 [.agg #[.int .i64 a0.Kind,.int .i64 a0.N,.int .i64 a0.Source,.int .i64 a0.Length,.slice p1 a0.Draws.length c2],.int .i64 a1,.int .i64 a2] I (o30_ Q):=by
 refine Fun.enter func115 r ntmps115 r (.c (.c (.c .n))) fun w0 M=>?_
 refine .sr (.boxA r r r fun b19=>?_)
 refine .box1 r r r r fun b21=>?_
 refine .allocA zv42 r r fun b23=>?_
 refine .nilS [6,4,3,2] r r (.seq (.sr (.loadW ia49 sz49 r (.s (.s .z)) r r r ?_)))
 have hw34:=W_prog_Right (I:=I) R3 hd
 refine .callP call95 r hw34 r r fun v35 hv36=>?_
 obtain ⟨r33,rfl,hd⟩:=hv36
 refine .ks 2 r ?_
 refine splitP hd (fun hb37 hd=>?_) fun hb37 hd=>?_
 · rw [hb37]
   exact .ks 14 r (.nilS [25,6,4,3,2] r r (.condKT r r (.sr (.build zv42 un42 BI42 .n (by exact trivial) r r (.storeA sz42 r r .z (.t (.t (.t (.t (.t .nil))))) r r (.nilS [6] r r (.drop (.s .z) (.drop (.s .z) (.ret (pret results115 (.w ia42 sz42 r .z r .n) (.refl _) ⟨({ Low:=0,High:=0,A:=([]:List Int),B:=([]:List Int),On:=([]:List Int) }:State),_,_,_,_,_,_,r,(.nil _ _ _),(.nil _ _ _),(.nil _ _ _),hd⟩))))))))))
 rw [hb37]
 refine .gyes r r r (.load1 ia3 r (.s .z) r r r (.ks 3 r ?_))
 refine splitP hd (fun hb38 hd=>?_) fun hb38 hd=>?_
 · rw [hb38]
   exact .ks 10 r (.nilS [25,6,4,3,2] r r (.condKT r r (.sr (.build zv42 un42 BI42 .n (by exact trivial) r r (.storeA sz42 r r .z (.t (.t (.t (.t (.t .nil))))) r r (.nilS [6] r r (.drop (.s .z) (.drop (.s .z) (.ret (pret results115 (.w ia42 sz42 r .z r .n) (.refl _) ⟨({ Low:=0,High:=0,A:=([]:List Int),B:=([]:List Int),On:=([]:List Int) }:State),_,_,_,_,_,_,r,(.nil _ _ _),(.nil _ _ _),(.nil _ _ _),hd⟩))))))))))
 rw [hb38]
 refine .ks 1 r (.gyes r r r (.load1 ia3 r (.s .z) r r r (.ks 3 r ?_)))
 refine splitP hd (fun hb39 hd=>?_) fun hb39 hd=>?_
 · rw [hb39]
   exact .ks 5 r (.nilS [25,6,4,3,2] r r (.condKT r r (.sr (.build zv42 un42 BI42 .n (by exact trivial) r r (.storeA sz42 r r .z (.t (.t (.t (.t (.t .nil))))) r r (.nilS [6] r r (.drop (.s .z) (.drop (.s .z) (.ret (pret results115 (.w ia42 sz42 r .z r .n) (.refl _) ⟨({ Low:=0,High:=0,A:=([]:List Int),B:=([]:List Int),On:=([]:List Int) }:State),_,_,_,_,_,_,r,(.nil _ _ _),(.nil _ _ _),(.nil _ _ _),hd⟩))))))))))
 rw [hb39]
 refine .ks 1 r (.gyes r r r (.fa un49 r sz3 r (o:=1) r r r (.gyes r r r (.load1 ia3 r (.s (.s .z)) r r r (.ks 2 r (.nilS [25,6,4,3,2] r r (.condP r hd (fun hb40 hd=>?_) fun hb40 hd=>?_)))))))
 · exact .sr (.build zv42 un42 BI42 .n (by exact trivial) r r (.storeA sz42 r r .z (.t (.t (.t (.t (.t .nil))))) r r (.nilS [6] r r (.drop (.s .z) (.drop (.s .z) (.ret (pret results115 (.w ia42 sz42 r .z r .n) (.refl _) ⟨({ Low:=0,High:=0,A:=([]:List Int),B:=([]:List Int),On:=([]:List Int) }:State),_,_,_,_,_,_,r,(.nil _ _ _),(.nil _ _ _),(.nil _ _ _),hd⟩)))))))
 refine .skipS [6,4,3,2] r r (.sr (.load1 ia3 r (.s .z) r r r (.ks 1 r (.build zv42 un42 BI42 (.c r r r (.t .nil) (.c r r r (.s (.t .nil)) .n)) (by exact ⟨⟨_,_,r,r,r⟩,⟨⟨_,_,r,r,r⟩,trivial⟩⟩) r r (.allocA zv42 r r fun b41=>?_)))))
 refine .storeA sz42 r r .z (.t (.t (.t (.t (.t .nil))))) r r (.nilS [7,6,4,3,2] r r (.sr (.loadW ia42 sz42 r .z r r r (.ks 1 r (.load1 ia3 r (.s (.s .z)) r r r (.ks 1 r (.mkFn r r r r ?_)))))))
 have hw43:=W_prog_changed_b13 (I:=I) (o0:=a0) (o1:=a1) (a0:=({ Low:=a1,High:=a2,A:=([]:List Int),B:=([]:List Int),On:=([]:List Int) }:State)) (a1:=(w64 (a2 - a1))) (b3:=b19) (p4:=p1) (c5:=c2) (b7:=b21) R3 (.nil _ none 0) (.nil _ none 0) (.nil _ none 0) hd
 refine .callS (.f call158 r) (.c (.s (.s (.s .z))) (.c (.s (.s .z)) .n)) hw43 r r fun v47 I44 l48 hl45 hv46=>?_
 obtain ⟨r49,p50,c51,p53,c54,p56,c57,rfl,R52,R55,R58,rfl,hd⟩:=hv46
 replace R3:=R3.mono hl45
 exact .re (m':=[pto b19 (.cells #[.int .i64 a0.Kind,.int .i64 a0.N,.int .i64 a0.Source,.int .i64 a0.Length,.slice p1 a0.Draws.length c2] 49 (0,0)),pto b21 (.cells #[.int .i64 a1] 3 (0,0)),pto b41 (.cells #[.int .i64 a1,.int .i64 a2,.slice none 0 0,.slice none 0 0,.slice none 0 0] 42 (0,0)),pto b23 (.cells #[.int .i64 0,.int .i64 0,.slice none 0 0,.slice none 0 0,.slice none 0 0] 42 (0,0))]) r (.storeA sz42 r r (.s (.s (.s .z))) (.t (.t (.t (.t (.t .nil))))) r r (.nilS [6] r r (.drop .z (.drop .z (.drop .z (.ret (pret results115 (.w ia42 sz42 r .z r .n) hl45 ⟨r49,_,_,_,_,_,_,r,R52,R55,R58,hd⟩)))))))
theorem W_model_Step {I:IH} {a0:Plan} {a1:Rows} {a2:State} {a3:Int} {p1:Option Addr} {c2:Nat} {p4:Option Addr} {c5:Nat} {p7:Option Addr} {c8:Nat} {p10:Option Addr} {c11:Nat} {p13:Option Addr} {c14:Nat} {p16:Option Addr} {c17:Nat} {p19:Option Addr} {c20:Nat} {Q:(State×Int)→Prop} (R3:RepSl eI64 I p1 c2 a0.Draws) (R6:RepSl eI64 I p4 c5 a1.Start) (R9:RepSl eI64 I p7 c8 a1.Col) (R12:RepSl eI64 I p10 c11 a1.Val) (R15:RepSl eI64 I p13 c14 a2.A) (R18:RepSl eI64 I p16 c17 a2.B) (R21:RepSl eU64 I p19 c20 a2.On) (hd:model_Step a0 a1 a2 a3 Q) :
  PFun prog 48 [.agg #[.int .i64 a0.Kind,.int .i64 a0.N,.int .i64 a0.Source,.int .i64 a0.Length,.slice p1 a0.Draws.length c2],.agg #[.int .i64 a1.Rows,.int .i64 a1.Cols,.slice p4 a1.Start.length c5,.slice p7 a1.Col.length c8,.slice p10 a1.Val.length c11],.agg #[.int .i64 a2.Low,.int .i64 a2.High,.slice p13 a2.A.length c14,.slice p16 a2.B.length c17,.slice p19 a2.On.length c20],.int .i64 a3] I (o32_ Q):=by
 refine Fun.enter func48 r ntmps48 r (.c (.c (.c (.c .n)))) fun w0 M=>?_
 refine .sr (.boxA r r r fun b39=>?_)
 refine .boxA r r r fun b41=>?_
 refine .boxA r r r fun b43=>?_
 refine .allocA zv42 r r fun b45=>?_
 refine .ks 1 r (.nilS [8,6,5,4,3] r r (.seq (.sr (.loadW ia49 sz49 r (.s (.s (.s .z))) r r r ?_))))
 have hw61:=W_prog_Right (I:=I) R3 hd
 refine .callP call95 r hw61 r r fun v62 hv63=>?_
 obtain ⟨r60,rfl,hd⟩:=hv63
 refine .ks 1 r (.nilS [10,8,6,5,4,3] r r (.sr (.ks 2 r (.nilS [18,10,8,6,5,4,3] r r (.condP r hd (fun hb64 hd=>?_) fun hb64 hd=>?_)))))
 · exact .sr (.build zv42 un42 BI42 .n (by exact trivial) r r (.ks 1 r (.storeA sz42 r r .z (.t (.t (.t (.t (.t .nil))))) r r (.ks 1 r (.nilS [9,8] r r (.drop (.s .z) (.drop (.s .z) (.drop (.s .z) (.ret (pret results48 (.w ia42 sz42 r .z r (.t r .n)) (.refl _) ⟨(({ Low:=0,High:=0,A:=([]:List Int),B:=([]:List Int),On:=([]:List Int) }:State),r60),_,_,_,_,_,_,r,(.nil _ _ _),(.nil _ _ _),(.nil _ _ _),hd⟩))))))))))
 refine .skipS [8,6,5,4,3] r r (.seq ?_)
 refine Cod.joinQ (σ:=Int×Int×(List Int)×(List Int)×(List Int)) hd (fun (s:Int×Int×(List Int)×(List Int)×(List Int)) c w=>match s with | (s75,s76,s77,s81,s85)=>∃ I_ p78 c79 p82 c83 p86 c87,IH.le I I_∧RepSl eI64 I_ p78 c79 s77∧RepSl eI64 I_ p82 c83 s81∧RepSl eI64 I_ p86 c87 s85∧Ok ⟨76,[],none⟩ [(3,.int .i64 a3),(4,.pointer (some ⟨b39,0,none⟩)),(5,.pointer (some ⟨b41,0,none⟩)),(6,.pointer (some ⟨b43,0,none⟩)),(8,.pointer (some ⟨b45,0,none⟩))] c∧Sym w0 M I I_ [pto b39 (.cells #[.int .i64 a0.Kind,.int .i64 a0.N,.int .i64 a0.Source,.int .i64 a0.Length,.slice p1 a0.Draws.length c2] 49 (0,0)),pto b41 (.cells #[.int .i64 s75,.int .i64 s76,.slice p78 s77.length c79,.slice p82 s81.length c83,.slice p86 s85.length c87] 32 (0,0)),pto b43 (.cells #[.int .i64 a2.Low,.int .i64 a2.High,.slice p13 a2.A.length c14,.slice p16 a2.B.length c17,.slice p19 a2.On.length c20] 42 (0,0)),pto b45 (.cells #[.int .i64 0,.int .i64 0,.slice none 0 0,.slice none 0 0,.slice none 0 0] 42 (0,0))] w) (fun k89 hd=>?_) ?_
 · skip
   refine .sr (.loadW ia32 sz32 r (.s (.s .z)) r r r ?_)
   have hw91:=W_csr_Right (I:=I) R6 R9 R12 hd
   refine .callP call96 r hw91 r r fun v92 hv93=>?_
   obtain ⟨r90,rfl,hd⟩:=hv93
   refine .ks 1 r (.nilS [23,8,6,5,4,3] r r (.condP r hd (fun hb94 hd=>?_) fun hb94 hd=>?_))
   · exact .region (.build zv32 un32 BI32 .n (by exact trivial) r r (.storeA sz32 r r (.s (.s .z)) (.t (.t (.t (.t (.t .nil))))) r r (.nil' fun c w ho hs=>⟨(0,0,([]:List Int),([]:List Int),([]:List Int)),hd,I,_,_,_,_,_,_,(.refl _),.nil _ _ _,.nil _ _ _,.nil _ _ _,ho.sub ⟨r,r,r,r,r,trivial⟩,hs.pick (.c (.s (.s (.s .z))) (.c (.s (.s .z)) (.c (.s .z) (.c .z .n))))⟩)))
   exact .skip' fun c w ho hs=>⟨(a1.Rows,a1.Cols,a1.Start,a1.Col,a1.Val),hd,I,_,_,_,_,_,_,(.refl _),R6,R9,R12,ho.sub ⟨r,r,r,r,r,trivial⟩,hs.pick (.c (.s (.s (.s .z))) (.c (.s (.s .z)) (.c (.s .z) (.c .z .n))))⟩
 rintro ⟨s75,s76,s77,s81,s85⟩ hd c w hst
 obtain ⟨I95,p78,c79,p82,c83,p86,c87,hl96,R80,R84,R88,hok,hsym⟩:=hst
 replace R3:=R3.mono hl96
 replace R15:=R15.mono hl96
 replace R18:=R18.mono hl96
 replace R21:=R21.mono hl96
 refine Cod.at hok hsym (.seq (.sr (.fa un32 r sz3 r (o:=0) r r r (.load1 ia3 r (.s .z) r r r (.fa un49 r sz3 r (o:=1) r r r (.load1 ia3 r .z r r r (.ks 2 r ?_)))))))
 refine splitP hd (fun hb104 hd=>?_) fun hb104 hd=>?_
 · rw [hb104]
   refine .ks 12 r (.nilS [42,8,6,5,4,3] r r (.condKT r r (.sr (.build zv42 un42 BI42 .n (by exact trivial) r r (.storeA sz42 r r (.s (.s (.s .z))) (.t (.t (.t (.t (.t .nil))))) r r (.ks 1 r (.nilS [9,8] r r (.drop .z (.drop .z ?_)))))))))
   exact .drop .z (.ret (pret results48 (.w ia42 sz42 r .z r (.t r .n)) hl96 ⟨(({ Low:=0,High:=0,A:=([]:List Int),B:=([]:List Int),On:=([]:List Int) }:State),4),_,_,_,_,_,_,r,(.nil _ _ _),(.nil _ _ _),(.nil _ _ _),hd⟩))
 rw [hb104]
 refine .gyes r r r (.fa un32 r sz3 r (o:=1) r r r (.gyes r r r (.load1 ia3 r (.s .z) r r r (.gyes r r r (.fa un49 r sz3 r (o:=1) r r r (.gyes r r r (.load1 ia3 r .z r r r (.ks 3 r ?_))))))))
 refine splitP hd (fun hb105 hd=>?_) fun hb105 hd=>?_
 · rw [hb105]
   refine .ks 5 r (.nilS [42,8,6,5,4,3] r r (.condKT r r (.sr (.build zv42 un42 BI42 .n (by exact trivial) r r (.storeA sz42 r r (.s (.s (.s .z))) (.t (.t (.t (.t (.t .nil))))) r r (.ks 1 r (.nilS [9,8] r r (.drop .z (.drop .z ?_)))))))))
   exact .drop .z (.ret (pret results48 (.w ia42 sz42 r .z r (.t r .n)) hl96 ⟨(({ Low:=0,High:=0,A:=([]:List Int),B:=([]:List Int),On:=([]:List Int) }:State),4),_,_,_,_,_,_,r,(.nil _ _ _),(.nil _ _ _),(.nil _ _ _),hd⟩))
 rw [hb105]
 refine .gyes r r r (.loadW ia49 sz49 r .z r r r (.gyes r r r (.loadW ia42 sz42 r (.s (.s .z)) r r r ?_)))
 have hw107:=W_model_whole (I:=I95) R3 R15 R18 R21 hd
 refine .gyes r r r (.callP call97 r hw107 r r fun v108 hv109=>?_)
 obtain ⟨r106,rfl,hd⟩:=hv109
 refine .ks 2 r (.nilS [42,8,6,5,4,3] r r (.condP r hd (fun hb110 hd=>?_) fun hb110 hd=>?_))
 · exact .sr (.build zv42 un42 BI42 .n (by exact trivial) r r (.storeA sz42 r r (.s (.s (.s .z))) (.t (.t (.t (.t (.t .nil))))) r r (.ks 1 r (.nilS [9,8] r r (.drop .z (.drop .z (.drop .z (.ret (pret results48 (.w ia42 sz42 r .z r (.t r .n)) hl96 ⟨(({ Low:=0,High:=0,A:=([]:List Int),B:=([]:List Int),On:=([]:List Int) }:State),4),_,_,_,_,_,_,r,(.nil _ _ _),(.nil _ _ _),(.nil _ _ _),hd⟩)))))))))
 refine .skipS [8,6,5,4,3] r r (.sr (.loadW ia49 sz49 r .z r r r (.loadW ia42 sz42 r (.s (.s .z)) r r r (.ks 1 r ?_))))
 have hw131:=W_prog_Asked (I:=I95) R3 R15 R18 R21 hd
 refine .call call83 r hw131 r r fun v126 I123 hl124 hv125=>?_
 obtain ⟨r122,p128,c129,rfl,R130,hd⟩:=hv125
 have le132:=IH.le.trans hl96 hl124
 replace R3:=R3.mono hl124
 replace R15:=R15.mono hl124
 replace R18:=R18.mono hl124
 replace R21:=R21.mono hl124
 replace R80:=R80.mono hl124
 replace R84:=R84.mono hl124
 replace R88:=R88.mono hl124
 refine .ks 5 r (.nilS [12,11,8,6,5,4,3] r r (.seq (.dr [0,1,2,4,5,6,7,10,11,16,3,8,9,12,13,14,15,999,17] 18 (.g r r r (fun _=>.fa un49 r sz47 r (o:=0) r r r .mk) (.g r r r (fun _=>.load1 ia47 r .z r r r .mk) (.fk 1 r (.g r r r (fun _=>.loadW ia32 sz32 r (.s .z) r r r .mk) (.g r r r (fun _=>.loadW ia49 sz49 r .z r r r .mk) (.g r r r (fun _=>.loadW ia42 sz42 r (.s (.s .z)) r r r .mk) ?_)))))))))
 refine .fk 3 r (.a (fun b=>.pointer (some ⟨b,0,none⟩)) (fun b=>pto b (.cells #[.int .i64 0,.slice none 0 0] 54 (0,0))) r r r r (fun _ L hL ex=>.allocA zv54 r r fun b=>.mk (val:=fun b=>.pointer (some ⟨b,0,none⟩)) (atom:=fun b=>pto b (.cells #[.int .i64 0,.slice none 0 0] 54 (0,0))) hL b) (.ww r fun ex=>?_))
 have hw177:=W_prog_Ring (I:=I123) hd
 refine .callP call76 r hw177 r r fun v178 hv179=>?_
 obtain ⟨r176,rfl,hd⟩:=hv179
 refine .so 4 r r r (.ck 3 r r (.cg r r r r (fun _=>.loadW ia42 sz42 r (.s (.s .z)) r r r .mk) (.cg r r r r (fun _=>.loadW ia49 sz49 r .z r r r .mk) (.cg r r r r (fun _=>.loadW ia32 sz32 r (.s .z) r r r .mk) trivial)))) (.ww r fun ex=>?_)
 have hw189:=W_prog_Out (I:=I123) R3 R15 R18 R21 hd
 refine .call call99 r hw189 r r fun v184 I181 hl182 hv183=>?_
 obtain ⟨r180,p186,c187,rfl,R188,hd⟩:=hv183
 have le190:=IH.le.trans le132 hl182
 replace R3:=R3.mono hl182
 replace R15:=R15.mono hl182
 replace R18:=R18.mono hl182
 replace R21:=R21.mono hl182
 replace R80:=R80.mono hl182
 replace R84:=R84.mono hl182
 replace R88:=R88.mono hl182
 replace R130:=R130.mono hl182
 refine .so 4 r r r (.ck 2 r r (.cg r r r r (fun _=>.loadW ia32 sz32 r (.s .z) r r r .mk) trivial)) (.ww r fun ex=>?_)
 have hw203:=W_devec_Of (I:=I181) R188 hd
 refine .call call98 r hw203 r r fun v195 I192 hl193 hv194=>?_
 obtain ⟨r191,p197,c198,p200,c201,rfl,R199,R202,hd⟩:=hv194
 have le204:=IH.le.trans le190 hl193
 replace R3:=R3.mono hl193
 replace R15:=R15.mono hl193
 replace R18:=R18.mono hl193
 replace R21:=R21.mono hl193
 replace R80:=R80.mono hl193
 replace R84:=R84.mono hl193
 replace R88:=R88.mono hl193
 replace R130:=R130.mono hl193
 replace R188:=R188.mono hl193
 refine .so 4 r r r (.ck 2 r r (.cg r r r r (fun _=>.loadW ia32 sz32 r (.s .z) r r r .mk) trivial)) (.ww r fun ex=>?_)
 have hw214:=W_pull_Times (I:=I192) (a1:=({ Rows:=s75,Cols:=s76,Start:=s77,Col:=s81,Val:=s85 }:Rows)) R80 R84 R88 R199 R202 R130 hd
 refine .call call21 r hw214 r r fun v209 I206 hl207 hv208=>?_
 obtain ⟨r205,p211,c212,rfl,R213,hd⟩:=hv208
 have le215:=IH.le.trans le204 hl207
 replace R3:=R3.mono hl207
 replace R15:=R15.mono hl207
 replace R18:=R18.mono hl207
 replace R21:=R21.mono hl207
 replace R80:=R80.mono hl207
 replace R84:=R84.mono hl207
 replace R88:=R88.mono hl207
 replace R130:=R130.mono hl207
 replace R188:=R188.mono hl207
 replace R199:=R199.mono hl207
 replace R202:=R202.mono hl207
 refine .so 4 r r r trivial (.fk 3 r (.b r fun b216=>DrawD.nop (.ww r fun ex=>?_)))
 refine .storeA sz54 r r (.s (.s (.s (.s .z)))) (.t (.t .nil)) r r (.sn 5 r r r (.ck 1 r r trivial) (.e2 18 (.ks 1 r (.nilS [14,13,8,6,4,3] r r (.drop (.s .z) (.seq (.sr (.ks 2 r (.nilS [68,14,13,8,6,4,3] r r ?_)))))))))
 refine .condP r hd (fun hb217 hd=>?_) fun hb217 hd=>?_
 · exact .sr (.build zv42 un42 BI42 .n (by exact trivial) r r (.ks 1 r (.storeA sz42 r r (.s (.s .z)) (.t (.t (.t (.t (.t .nil))))) r r (.ks 1 r (.nilS [9,8] r r (.drop .z (.drop .z (.drop (.s .z) (.ret (pret results48 (.w ia42 sz42 r .z r (.t r .n)) le215 ⟨(({ Low:=0,High:=0,A:=([]:List Int),B:=([]:List Int),On:=([]:List Int) }:State),r205.2),_,_,_,_,_,_,r,(.nil _ _ _),(.nil _ _ _),(.nil _ _ _),hd⟩))))))))))
 refine .skipS [13,8,6,4,3] r r (.sr (.loadW ia49 sz49 r .z r r r (.loadW ia42 sz42 r (.s .z) r r r (.ks 1 r (.loadW ia54 sz54 r (.s (.s (.s .z))) r r r ?_)))))
 have hw233:=W_prog_Update (I:=I206) R3 R15 R18 R21 R213 hd
 refine .call call85 r hw233 r r fun v222 I219 hl220 hv221=>?_
 obtain ⟨r218,p224,c225,p227,c228,p230,c231,rfl,R226,R229,R232,hd⟩:=hv221
 have le234:=IH.le.trans le215 hl220
 replace R3:=R3.mono hl220
 replace R15:=R15.mono hl220
 replace R18:=R18.mono hl220
 replace R21:=R21.mono hl220
 replace R213:=R213.mono hl220
 exact .storeA sz42 r r (.s (.s .z)) (.t (.t (.t (.t (.t .nil))))) r r (.ks 1 r (.nilS [9,8] r r (.drop .z (.drop .z (.drop (.s .z) (.ret (pret results48 (.w ia42 sz42 r .z r (.t r .n)) le234 ⟨(r218,0),_,_,_,_,_,_,r,R226,R229,R232,hd⟩)))))))
theorem W_model_states_1_e9c {I:IH} {o0:Nat} {o1:Result} {o2:Plan} {o3:Graph} {o5:Int} {Y:Nat→Result→State→((Bool×Nat×Result)→Prop)→Prop} {b7:Nat} {p8:Option Addr} {c9:Nat} {p11:Option Addr} {c12:Nat} {p14:Option Addr} {c15:Nat} {b17:Nat} {p18:Option Addr} {c19:Nat} {b21:Nat} {p22:Option Addr} {c23:Nat} {b25:Nat} {b26:Nat} {lr:Nat} {Rr:Nat→HA} {Q:(Nat×Result)→Prop} (hY:∀ {J_:IH},I.le J_→∀ {y27:Nat} {y28:Result} {x39:State} {p30:Option Addr} {c31:Nat} {p33:Option Addr} {c34:Nat} {p36:Option Addr} {c37:Nat} {p40:Option Addr} {c41:Nat} {p43:Option Addr} {c44:Nat} {p46:Option Addr} {c47:Nat} {Qy:(Bool×Nat×Result)→Prop},RepSl eI64 J_ p30 c31 y28.State.A→RepSl eI64 J_ p33 c34 y28.State.B→RepSl eU64 J_ p36 c37 y28.State.On→RepSl eI64 J_ p40 c41 x39.A→RepSl eI64 J_ p43 c44 x39.B→RepSl eU64 J_ p46 c47 x39.On→Y y27 y28 x39 Qy→RFun prog lr [.agg #[.int .i64 x39.Low,.int .i64 x39.High,.slice p40 x39.A.length c41,.slice p43 x39.B.length c44,.slice p46 x39.On.length c47]] J_ [Rr y27,pto b7 (.cells #[.int .i64 y28.Status,.int .i64 y28.Rounds,.int .i64 y28.State.Low,.int .i64 y28.State.High,.slice p30 y28.State.A.length c31,.slice p33 y28.State.B.length c34,.slice p36 y28.State.On.length c37] 44 (0,0))] (fun I_ v l=>∃ r p50 c51 p53 c54 p56 c57,v=.bool r.1∧RepSl eI64 I_ p50 c51 r.2.2.State.A∧RepSl eI64 I_ p53 c54 r.2.2.State.B∧RepSl eU64 I_ p56 c57 r.2.2.State.On∧l=[Rr r.2.1,pto b7 (.cells #[.int .i64 r.2.2.Status,.int .i64 r.2.2.Rounds,.int .i64 r.2.2.State.Low,.int .i64 r.2.2.State.High,.slice p50 r.2.2.State.A.length c51,.slice p53 r.2.2.State.B.length c54,.slice p56 r.2.2.State.On.length c57] 44 (0,0))]∧Qy r)) (R10:RepSl eI64 I p8 c9 o1.State.A) (R13:RepSl eI64 I p11 c12 o1.State.B) (R16:RepSl eU64 I p14 c15 o1.State.On) (R20:RepSl eI64 I p18 c19 o2.Draws) (R24:RepSl eEdge I p22 c23 o3.Edges) (hd:model_states_1_e9c o0 o1 o2 o3 o5 Y Q) :
  Fun prog 114 #[.func (.yield lr) #[] #[],.pointer (some ⟨b17,0,none⟩),.pointer (some ⟨b21,0,none⟩),.pointer (some ⟨b25,0,none⟩),.pointer (some ⟨b26,0,none⟩)] I [Rr o0,pto b7 (.cells #[.int .i64 o1.Status,.int .i64 o1.Rounds,.int .i64 o1.State.Low,.int .i64 o1.State.High,.slice p8 o1.State.A.length c9,.slice p11 o1.State.B.length c12,.slice p14 o1.State.On.length c15] 44 (0,0)),pto b17 (.cells #[.int .i64 o2.Kind,.int .i64 o2.N,.int .i64 o2.Source,.int .i64 o2.Length,.slice p18 o2.Draws.length c19] 49 (0,0)),pto b21 (.cells #[.int .i64 o3.N,.slice p22 o3.Edges.length c23] 24 (0,0)),pto b25 (.cells #[.pointer (some ⟨b7,0,none⟩)] 113 (0,0)),pto b26 (.cells #[.int .i64 o5] 3 (0,0))] (fun I_ v l=>∃ r p28 c29 p31 c32 p34 c35,v=.tuple #[]∧RepSl eI64 I_ p28 c29 r.2.State.A∧RepSl eI64 I_ p31 c32 r.2.State.B∧RepSl eU64 I_ p34 c35 r.2.State.On∧l=[Rr r.1,pto b7 (.cells #[.int .i64 r.2.Status,.int .i64 r.2.Rounds,.int .i64 r.2.State.Low,.int .i64 r.2.State.High,.slice p28 r.2.State.A.length c29,.slice p31 r.2.State.B.length c32,.slice p34 r.2.State.On.length c35] 44 (0,0)),pto b17 (.cells #[.int .i64 o2.Kind,.int .i64 o2.N,.int .i64 o2.Source,.int .i64 o2.Length,.slice p18 o2.Draws.length c19] 49 (0,0)),pto b21 (.cells #[.int .i64 o3.N,.slice p22 o3.Edges.length c23] 24 (0,0)),pto b25 (.cells #[.pointer (some ⟨b7,0,none⟩)] 113 (0,0)),pto b26 (.cells #[.int .i64 o5] 3 (0,0))]∧Q r):=by
 refine Fun.enter (vs:=[.func (.yield lr) #[] #[],.pointer (some ⟨b17,0,none⟩),.pointer (some ⟨b21,0,none⟩),.pointer (some ⟨b25,0,none⟩),.pointer (some ⟨b26,0,none⟩)]) func114 r ntmps114 r (.c (.c (.c (.c (.c .n))))) fun w0 M=>?_
 refine .scope (.sr (.loadW ia49 sz49 r (.s (.s .z)) r r r (.loadW ia24 sz24 r (.s (.s (.s .z))) r r r ?_)))
 have hw82:=W_prog_Matrix (I:=I) R20 R24 hd
 refine .call call64 r hw82 r r fun v71 I68 hl69 hv70=>?_
 obtain ⟨r67,p73,c74,p76,c77,p79,c80,rfl,R75,R78,R81,hd⟩:=hv70
 replace R10:=R10.mono hl69
 replace R13:=R13.mono hl69
 replace R16:=R16.mono hl69
 replace R20:=R20.mono hl69
 replace R24:=R24.mono hl69
 refine .ks 3 r (.allocA zv32 r r fun b83=>?_)
 refine .storeA sz32 r r .z (.t (.t (.t (.t (.t .nil))))) r r (.ks 1 r (.nilS [6,4,3,1,0] r r (.sr (.loadW ia49 sz49 r (.s (.s (.s .z))) r r r (.fa un49 r sz3 r (o:=1) r r r (.load1 ia3 r (.s (.s (.s .z))) r r r ?_))))))
 have hw119:=W_prog_Begin (I:=I68) R20 hd
 refine .call call115 r hw119 r r fun v108 I105 hl106 hv107=>?_
 obtain ⟨r104,p110,c111,p113,c114,p116,c117,rfl,R112,R115,R118,hd⟩:=hv107
 have le120:=IH.le.trans hl69 hl106
 replace R10:=R10.mono hl106
 replace R13:=R13.mono hl106
 replace R16:=R16.mono hl106
 replace R20:=R20.mono hl106
 replace R24:=R24.mono hl106
 replace R75:=R75.mono hl106
 replace R78:=R78.mono hl106
 replace R81:=R81.mono hl106
 refine .allocA zv42 r r fun b121=>?_
 refine .storeA sz42 r r .z (.t (.t (.t (.t (.t .nil))))) r r (.nilS [8,6,4,3,1,0] r r (.sr (.ks 1 r (.nilS [9,8,6,4,3,1,0] r r (.seq (.labelS [9,8,6,4,3,1,0] r r (.block (.loop hd (fun (s:Int×Int×Int×Int×(List Int)×(List Int)×(List Int)×Int×Int×(List Int)×(List Int)×(List Int)×Int×Nat) c w=>match s with | (s425,s426,s427,s428,s429,s433,s437,s441,s442,s443,s447,s451,s455,s456)=>∃ I_ p430 c431 p434 c435 p438 c439 p444 c445 p448 c449 p452 c453,IH.le I105 I_∧RepSl eI64 I_ p430 c431 s429∧RepSl eI64 I_ p434 c435 s433∧RepSl eU64 I_ p438 c439 s437∧RepSl eI64 I_ p444 c445 s443∧RepSl eI64 I_ p448 c449 s447∧RepSl eU64 I_ p452 c453 s451∧Ok ⟨54,[],none⟩ [(0,.func (.yield lr) #[] #[]),(1,.pointer (some ⟨b17,0,none⟩)),(3,.pointer (some ⟨b25,0,none⟩)),(4,.pointer (some ⟨b26,0,none⟩)),(6,.pointer (some ⟨b83,0,none⟩)),(8,.pointer (some ⟨b121,0,none⟩)),(9,.int .i64 s455)] c∧Sym w0 M I I_ [pto b7 (.cells #[.int .i64 s425,.int .i64 s426,.int .i64 s427,.int .i64 s428,.slice p430 s429.length c431,.slice p434 s433.length c435,.slice p438 s437.length c439] 44 (0,0)),pto b17 (.cells #[.int .i64 o2.Kind,.int .i64 o2.N,.int .i64 o2.Source,.int .i64 o2.Length,.slice p18 o2.Draws.length c19] 49 (0,0)),pto b25 (.cells #[.pointer (some ⟨b7,0,none⟩)] 113 (0,0)),pto b26 (.cells #[.int .i64 o5] 3 (0,0)),pto b83 (.cells #[.int .i64 r67.1.Rows,.int .i64 r67.1.Cols,.slice p73 r67.1.Start.length c74,.slice p76 r67.1.Col.length c77,.slice p79 r67.1.Val.length c80] 32 (0,0)),pto b121 (.cells #[.int .i64 s441,.int .i64 s442,.slice p444 s443.length c445,.slice p448 s447.length c449,.slice p452 s451.length c453] 42 (0,0)),pto b21 (.cells #[.int .i64 o3.N,.slice p22 o3.Edges.length c23] 24 (0,0)),Rr s456] w) (fun c w ho hs=>⟨I105,_,_,_,_,_,_,_,_,_,_,_,_,(.refl _),R10,R13,R16,R112,R115,R118,ho.sub ⟨r,r,r,r,r,r,r,trivial⟩,hs.pick (.c (.s (.s (.s .z))) (.c (.s (.s (.s .z))) (.c (.s (.s (.s (.s .z)))) (.c (.s (.s (.s (.s .z)))) (.c (.s .z) (.c .z (.c (.s .z) (.c .z .n))))))))⟩) ?_))))))))
 rintro ⟨s425,s426,s427,s428,s429,s433,s437,s441,s442,s443,s447,s451,s455,s456⟩ next457 hd c w hst
 obtain ⟨I458,p430,c431,p434,c435,p438,c439,p444,c445,p448,c449,p452,c453,hl459,R432,R436,R440,R446,R450,R454,hok,hsym⟩:=hst
 have le460:=IH.le.trans le120 hl459
 replace R20:=R20.mono hl459
 replace R24:=R24.mono hl459
 replace R75:=R75.mono hl459
 replace R78:=R78.mono hl459
 replace R81:=R81.mono hl459
 refine Cod.at hok hsym (.seq (.sr (.ks 1 r (.loadW ia42 sz42 r (.s (.s (.s (.s (.s .z))))) r r r ?_))))
 have hw483:=hY (J_:=I458) le460 (y27:=s456) (y28:=({ Status:=s425,Rounds:=s426,State:=({ Low:=s427,High:=s428,A:=s429,B:=s433,On:=s437 }:State) }:Result)) (x39:=({ Low:=s441,High:=s442,A:=s443,B:=s447,On:=s451 }:State)) (p30:=p430) (c31:=c431) (p33:=p434) (c34:=c435) (p36:=p438) (c37:=c439) R432 R436 R440 R446 R450 R454 hd
 refine .callY r r (.c (.s (.s (.s (.s (.s (.s (.s .z))))))) (.c .z .n)) hw483 r r fun v487 I484 l488 hl485 hv486=>?_
 obtain ⟨r489,p493,c494,p496,c497,p499,c500,rfl,R495,R498,R501,rfl,hd⟩:=hv486
 have le502:=IH.le.trans le460 hl485
 have le503:=IH.le.trans hl459 hl485
 replace R20:=R20.mono hl485
 replace R24:=R24.mono hl485
 replace R75:=R75.mono hl485
 replace R78:=R78.mono hl485
 replace R81:=R81.mono hl485
 replace R432:=R432.mono hl485
 replace R436:=R436.mono hl485
 replace R440:=R440.mono hl485
 replace R446:=R446.mono hl485
 replace R450:=R450.mono hl485
 replace R454:=R454.mono hl485
 refine .re (m':=[Rr r489.2.1,pto b7 (.cells #[.int .i64 r489.2.2.Status,.int .i64 r489.2.2.Rounds,.int .i64 r489.2.2.State.Low,.int .i64 r489.2.2.State.High,.slice p493 r489.2.2.State.A.length c494,.slice p496 r489.2.2.State.B.length c497,.slice p499 r489.2.2.State.On.length c500] 44 (0,0)),pto b17 (.cells #[.int .i64 o2.Kind,.int .i64 o2.N,.int .i64 o2.Source,.int .i64 o2.Length,.slice p18 o2.Draws.length c19] 49 (0,0)),pto b25 (.cells #[.pointer (some ⟨b7,0,none⟩)] 113 (0,0)),pto b26 (.cells #[.int .i64 o5] 3 (0,0)),pto b83 (.cells #[.int .i64 r67.1.Rows,.int .i64 r67.1.Cols,.slice p73 r67.1.Start.length c74,.slice p76 r67.1.Col.length c77,.slice p79 r67.1.Val.length c80] 32 (0,0)),pto b121 (.cells #[.int .i64 s441,.int .i64 s442,.slice p444 s443.length c445,.slice p448 s447.length c449,.slice p452 s451.length c453] 42 (0,0)),pto b21 (.cells #[.int .i64 o3.N,.slice p22 o3.Edges.length c23] 24 (0,0))]) r (.nilS [24,9,8,6,4,3,1,0] r r (.condP r hd (fun hb504 hd=>?_) fun hb504 hd=>?_))
 · refine .skipS [9,8,6,4,3,1,0] r r (.block (.seq (.block (.sr (.loadW ia49 sz49 r (.s (.s .z)) r r r (.loadW ia42 sz42 r (.s (.s (.s (.s (.s (.s .z)))))) r r r (.ks 1 r ?_)))))))
   have hw520:=W_prog_Live (I:=I484) (a1:=({ Low:=s441,High:=s442,A:=s443,B:=s447,On:=s451 }:State)) R20 R446 R450 R454 hd
   refine .callP call116 r hw520 r r fun v521 hv522=>?_
   obtain ⟨r519,rfl,hd⟩:=hv522
   refine .ks 2 r (.nilS [25,9,8,6,4,3,1,0] r r (.condP r hd (fun hb523 hd=>?_) fun hb523 hd=>?_))
   · exact .sr (.load1 isAgg113 r (.s (.s (.s .z))) r r r (.nilCheckP r r r (.store1 sz39 r r (.s .z) (.t .nil) r (.nilS [] r r (.drop (.s (.s (.s (.s (.s .z))))) (.drop (.s (.s (.s (.s (.s .z))))) (.exit (oretN results114 .n le502 (.c .z (.c .z (.c .z (.c (.s (.s .z)) (.c .z (.c .z .n)))))) ⟨(r489.2.1,({ Status:=1,Rounds:=r489.2.2.Rounds,State:=r489.2.2.State }:Result)),_,_,_,_,_,_,r,R495,R498,R501,r,hd⟩))))))))
   refine .sr (.ks 1 r (.load1 ia3 r (.s (.s (.s (.s .z)))) r r r (.ks 2 r (.nilS [33,9,8,6,4,3,1,0] r r (.condP r hd (fun hb524 hd=>?_) fun hb524 hd=>?_)))))
   · exact .sr (.load1 isAgg113 r (.s (.s (.s .z))) r r r (.nilCheckP r r r (.store1 sz39 r r (.s .z) (.t .nil) r (.nilS [] r r (.drop (.s (.s (.s (.s (.s .z))))) (.drop (.s (.s (.s (.s (.s .z))))) (.exit (oretN results114 .n le502 (.c .z (.c .z (.c .z (.c (.s (.s .z)) (.c .z (.c .z .n)))))) ⟨(r489.2.1,({ Status:=2,Rounds:=r489.2.2.Rounds,State:=r489.2.2.State }:Result)),_,_,_,_,_,_,r,R495,R498,R501,r,hd⟩))))))))
   refine .skipS [9,8,6,4,3,1,0] r r (.sr (.ks 3 r (.nilS [9,8,6,4,3,1,0] r r (.sr (.loadW ia49 sz49 r (.s (.s .z)) r r r (.loadW ia32 sz32 r (.s (.s (.s (.s (.s .z))))) r r r (.loadW ia42 sz42 r (.s (.s (.s (.s (.s (.s .z)))))) r r r (.ks 1 r ?_))))))))
   have hw560:=W_model_Step (I:=I484) (a2:=({ Low:=s441,High:=s442,A:=s443,B:=s447,On:=s451 }:State)) R20 R75 R78 R81 R446 R450 R454 hd
   refine .call call48 r hw560 r r fun v549 I546 hl547 hv548=>?_
   obtain ⟨r545,p551,c552,p554,c555,p557,c558,rfl,R553,R556,R559,hd⟩:=hv548
   have le561:=IH.le.trans le502 hl547
   have le562:=IH.le.trans le503 hl547
   replace R20:=R20.mono hl547
   replace R24:=R24.mono hl547
   replace R75:=R75.mono hl547
   replace R78:=R78.mono hl547
   replace R81:=R81.mono hl547
   replace R446:=R446.mono hl547
   replace R450:=R450.mono hl547
   replace R454:=R454.mono hl547
   replace R495:=R495.mono hl547
   replace R498:=R498.mono hl547
   replace R501:=R501.mono hl547
   refine .ks 3 r (.allocA zv42 r r fun b563=>?_)
   refine .storeA sz42 r r .z (.t (.t (.t (.t (.t .nil))))) r r (.ks 1 r (.nilS [11,10,9,8,6,4,3,1,0] r r (.seq (.sr (.ks 2 r (.nilS [50,10,9,8,6,4,3,1,0] r r (.condP r hd (fun hb565 hd=>?_) fun hb565 hd=>?_)))))))
   · exact .sr (.load1 isAgg113 r (.s (.s (.s (.s .z)))) r r r (.nilCheckP r r r (.store1 sz39 r r (.s (.s .z)) (.t .nil) r (.nilS [] r r (.drop .z (.drop (.s (.s (.s (.s (.s .z))))) (.drop (.s (.s (.s (.s (.s .z))))) (.exit (oretN results114 .n le561 (.c .z (.c .z (.c .z (.c (.s (.s .z)) (.c .z (.c .z .n)))))) ⟨(r489.2.1,({ Status:=3,Rounds:=r489.2.2.Rounds,State:=r489.2.2.State }:Result)),_,_,_,_,_,_,r,R495,R498,R501,r,hd⟩)))))))))
   exact .skipS [10,9,8,6,4,3,1,0] r r (.region (.loadW ia42 sz42 r .z r r r (.storeA sz42 r r (.s (.s (.s (.s (.s (.s (.s .z))))))) (.t (.t (.t (.t (.t .nil))))) r r (.nil' fun c w ho hs=>⟨(r489.2.2.Status,r489.2.2.Rounds,r489.2.2.State.Low,r489.2.2.State.High,r489.2.2.State.A,r489.2.2.State.B,r489.2.2.State.On,r545.1.Low,r545.1.High,r545.1.A,r545.1.B,r545.1.On,w64 (s455+1),r489.2.1),hd,I546,_,_,_,_,_,_,_,_,_,_,_,_,le562,R495,R498,R501,R553,R556,R559,ho.sub ⟨r,r,r,r,r,r,r,trivial⟩,hs.pick (.c (.s (.s .z)) (.c (.s (.s .z)) (.c (.s (.s .z)) (.c (.s (.s .z)) (.c (.s (.s .z)) (.c (.s (.s .z)) (.c (.s (.s .z)) (.c (.s .z) .n))))))))⟩))))
 exact .exit (oretN results114 .n le502 (.c .z (.c .z (.c .z (.c (.s (.s (.s (.s .z)))) (.c .z (.c .z .n)))))) ⟨(r489.2.1,r489.2.2),_,_,_,_,_,_,r,R495,R498,R501,r,hd⟩)
theorem W_model_Run {I:IH} {a0:Plan} {a1:Graph} {a2:Int} {p1:Option Addr} {c2:Nat} {p4:Option Addr} {c5:Nat} {Q:(Result×Int)→Prop} (R3:RepSl eI64 I p1 c2 a0.Draws) (R6:RepSl eEdge I p4 c5 a1.Edges) (hd:model_Run a0 a1 a2 Q) :
  PFun prog 20 [.agg #[.int .i64 a0.Kind,.int .i64 a0.N,.int .i64 a0.Source,.int .i64 a0.Length,.slice p1 a0.Draws.length c2],.agg #[.int .i64 a1.N,.slice p4 a1.Edges.length c5],.int .i64 a2] I (o34_ Q):=by
 refine Fun.enter func20 r ntmps20 r (.c (.c (.c .n))) fun w0 M=>?_
 refine .marks0 (.sr (.boxA r r r fun b22=>?_))
 refine .boxA r r r fun b24=>?_
 refine .allocA zv44 r r fun b26=>?_
 refine .ks 1 r (.nilS [6,4,3,2] r r (.seq (.sr (.loadW ia49 sz49 r (.s (.s .z)) r r r (.loadW ia24 sz24 r (.s .z) r r r (.ks 1 r ?_))))))
 have hw42:=W_model_Check (I:=I) R3 R6 hd
 refine .callP call47 r hw42 r r fun v43 hv44=>?_
 obtain ⟨r41,rfl,hd⟩:=hv44
 refine .ks 1 r (.nilS [8,6,4,3,2] r r (.sr (.ks 2 r (.nilS [16,8,6,4,3,2] r r (.condP r hd (fun hb45 hd=>?_) fun hb45 hd=>?_)))))
 · exact .sr (.build zv44 un44 BI44 .n (by exact trivial) r r (.ks 1 r (.storeA sz44 r r .z (.t (.t (.t (.t (.t (.t (.t .nil))))))) r r (.ks 1 r (.nilS [7,6] r r (.drop (.s .z) (.drop (.s .z) (.ret (pretM (.s .z) results20 (.w ia44 sz44 r .z r (.t r .n)) (.refl _) ⟨(({ Status:=0,Rounds:=0,State:=({ Low:=0,High:=0,A:=([]:List Int),B:=([]:List Int),On:=([]:List Int) }:State) }:Result),r41),_,_,_,_,_,_,r,(.nil _ _ _),(.nil _ _ _),(.nil _ _ _),hd⟩)))))))))
 refine .skipS [6,4,3,2] r r (.sr (.build zv44 un44 BI44 (.c r r r (.s (.t .nil)) .n) (by exact ⟨⟨_,_,r,r,r⟩,trivial⟩) r r (.allocA zv44 r r fun b48=>?_)))
 refine .storeA sz44 r r .z (.t (.t (.t (.t (.t (.t (.t .nil))))))) r r (.nilS [9,6,4,3,2] r r (.seq (.sr (.loadW ia49 sz49 r (.s (.s (.s .z))) r r r (.loadW ia24 sz24 r (.s (.s .z)) r r r (.ks 1 r (.fa un44 r sz39 r (o:=0) r r r ?_)))))))
 have hw71:=W_model_states_18b (I:=I) (o0:=({ Status:=0,Rounds:=(-1),State:=({ Low:=0,High:=0,A:=([]:List Int),B:=([]:List Int),On:=([]:List Int) }:State) }:Result)) (a0:=a0) (a1:=a1) (a2:=a2) (b2:=b48) (p3:=none) (c4:=0) (p6:=none) (c7:=0) (p9:=none) (c10:=0) (.nil _ none 0) (.nil _ none 0) (.nil _ none 0) R3 R6 hd
 refine .callS (.f call56 r) (.c .z .n) hw71 r r fun v75 I72 l76 hl73 hv74=>?_
 obtain ⟨r77,b82,p83,c84,b86,p87,c88,b90,b91,rfl,R85,R89,rfl,hd⟩:=hv74
 replace R3:=R3.mono hl73
 replace R6:=R6.mono hl73
 refine .re (m':=[pto b48 (.cells #[.int .i64 0,.int .i64 (-1),.int .i64 0,.int .i64 0,.slice none 0 0,.slice none 0 0,.slice none 0 0] 44 (0,0)),pto b82 (.cells #[.int .i64 r77.1.Kind,.int .i64 r77.1.N,.int .i64 r77.1.Source,.int .i64 r77.1.Length,.slice p83 r77.1.Draws.length c84] 49 (0,0)),pto b86 (.cells #[.int .i64 r77.2.1.N,.slice p87 r77.2.1.Edges.length c88] 24 (0,0)),pto b90 (.cells #[.pointer (some ⟨b48,0,none⟩)] 113 (0,0)),pto b91 (.cells #[.int .i64 r77.2.2] 3 (0,0)),pto b26 (.cells #[.int .i64 0,.int .i64 0,.int .i64 0,.int .i64 0,.slice none 0 0,.slice none 0 0,.slice none 0 0] 44 (0,0)),pto b24 (.cells #[.int .i64 a1.N,.slice p4 a1.Edges.length c5] 24 (0,0)),pto b22 (.cells #[.int .i64 a0.Kind,.int .i64 a0.N,.int .i64 a0.Source,.int .i64 a0.Length,.slice p1 a0.Draws.length c2] 49 (0,0)),Marks ([])]) r (.nilS [24,9,6] r r (.drop (.s (.s (.s (.s (.s (.s .z)))))) (.drop (.s (.s (.s (.s (.s (.s .z)))))) (.block (.rangeF [] r call114 (.c (.s (.s (.s (.s (.s (.s .z)))))) (.c .z (.c .z (.c .z (.c .z (.c .z .n)))))) fun lr D rc hrc=>?_)))))
 refine ⟨_,W_model_states_1_e9c (I:=I72) (lr:=lr) (Rr:=recA lr [] rc) (o0:=0) (o1:=({ Status:=0,Rounds:=(-1),State:=({ Low:=0,High:=0,A:=([]:List Int),B:=([]:List Int),On:=([]:List Int) }:State) }:Result)) (o2:=r77.1) (o3:=r77.2.1) (o5:=r77.2.2) (b7:=b48) (p8:=none) (c9:=0) (p11:=none) (c12:=0) (p14:=none) (c15:=0) (b17:=b82) (p18:=p83) (c19:=c84) (b21:=b86) (p22:=p87) (c23:=c88) (b25:=b90) (b26:=b91) ?_ (.nil _ none 0) (.nil _ none 0) (.nil _ none 0) R85 R89 hd,?_⟩
 · skip
   intro I hJ y141 y142 x153 p144 c145 p147 c148 p150 c151 p154 c155 p157 c158 p160 c161 Qy R146 R149 R152 R156 R159 R162 hd
   replace R85:=R85.mono hJ
   replace R89:=R89.mono hJ
   obtain ⟨rfl,hd⟩:=hd
   refine RFun.mk hrc r fun w0 M=>?_
   refine .region (.allocA zv42 r r fun b163=>?_)
   refine .storeA sz42 r r .z (.t (.t (.t (.t (.t .nil))))) r r (.nil' fun c w ho hs=>beginR (E':=[(9,_),(10,_)]) ho ⟨r,r,trivial⟩ hs (.s .z) (.block (.sr (.loadW ia42 sz42 r .z r r r (.fa un44 r sz42 r (o:=2) r r r (.storeA sz42 r r (.s (.s .z)) (.s (.s (.t (.t (.t (.t (.t .nil))))))) r r (.nilS [9] r r (.drop .z (.region ?_)))))))))
   refine .fa un44 r sz3 r (o:=1) r r r (.load1 ia3 r (.s .z) r r r (.ks 1 r (.fa un44 r sz3 r (o:=1) r r r (.store1 sz3 r r (.s .z) (.s (.t .nil)) r ?_))))
   exact .nil' fun c w ho hs=>endR 0 (.inl rfl) (.refl _) .z (.c .z .n) ⟨(true,0,({ Status:=y142.Status,Rounds:=w64 (y142.Rounds+1),State:=x153 }:Result)),_,_,_,_,_,_,rfl,R156,R159,R162,rfl,hd⟩ hs
 intro v168 I165 l' hl166 hv167
 obtain ⟨r169,p173,c174,p176,c177,p179,c180,rfl,R175,R178,R181,rfl,hd⟩:=hv167
 have le182:=IH.le.trans hl73 hl166
 replace R85:=R85.mono hl166
 replace R89:=R89.mono hl166
 obtain ⟨hz,hd⟩:=hd
 refine ⟨_,_,r,fun hj=>?_,fun i hj=>absurd (hz.symm.trans hj) (by simp)⟩
 refine .re (m':=[Marks (D :: []),pto b48 (.cells #[.int .i64 r169.2.Status,.int .i64 r169.2.Rounds,.int .i64 r169.2.State.Low,.int .i64 r169.2.State.High,.slice p173 r169.2.State.A.length c174,.slice p176 r169.2.State.B.length c177,.slice p179 r169.2.State.On.length c180] 44 (0,0)),pto b82 (.cells #[.int .i64 r77.1.Kind,.int .i64 r77.1.N,.int .i64 r77.1.Source,.int .i64 r77.1.Length,.slice p83 r77.1.Draws.length c84] 49 (0,0)),pto b86 (.cells #[.int .i64 r77.2.1.N,.slice p87 r77.2.1.Edges.length c88] 24 (0,0)),pto b90 (.cells #[.pointer (some ⟨b48,0,none⟩)] 113 (0,0)),pto b91 (.cells #[.int .i64 r77.2.2] 3 (0,0)),pto b26 (.cells #[.int .i64 0,.int .i64 0,.int .i64 0,.int .i64 0,.slice none 0 0,.slice none 0 0,.slice none 0 0] 44 (0,0))]) r (.mkS [9,6] r r (.drop (.s (.s .z)) (.drop (.s (.s .z)) (.drop (.s (.s .z)) (.drop (.s (.s .z)) (.sr (.loadW ia44 sz44 r (.s .z) r r r (.storeA sz44 r r (.s (.s .z)) (.t (.t (.t (.t (.t (.t (.t .nil))))))) r r (.ks 1 r ?_)))))))))
 exact .nilS [7,6] r r (.drop (.s .z) (.ret (pretM .z results20 (.w ia44 sz44 r .z r (.t r .n)) le182 ⟨(r169.2,0),_,_,_,_,_,_,r,R175,R178,R181,hd⟩)))
end Go.Proofs.YtaefnmlbnkmahaaGreat
