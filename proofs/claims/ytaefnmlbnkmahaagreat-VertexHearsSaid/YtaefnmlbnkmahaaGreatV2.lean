/- The walks (printed by a program of ours). -/
import Derived.Test.YtaefnmlbnkmahaaGreatV1
namespace Go.Proofs.YtaefnmlbnkmahaaGreat
open Go Go.Fw
set_option linter.unusedVariables false
set_option linter.unusedSimpArgs false
set_option maxRecDepth 8000
set_option maxHeartbeats 1000000
open Tryz
theorem W_prog_Ring {I:IH} {a0:Int} {a1:Int} {Q:Int→Prop}  (hd:prog_Ring a0 a1 Q) :
  PFun prog 76 [.int .i64 a0,.int .i64 a1] I (fun _=>o0_ Q):=by
 refine Fun.enter func76 r ntmps76 r (.c (.c .n)) fun w0 M=>?_
 refine .sr (.ks 1 r (.nilS [1,0] r r (.seq (.sr (.ks 1 r (.nilS [5,1] r r (.block (.seq (.block ?_)))))))))
 refine .seq (.block (.seq (.block (.seq (.block (.seq (.seq (.sr (.ks 2 r ?_)))))))))
 refine .nilS [6,5,1] r r (.condP r hd (fun b hd=>?_) fun b hd=>?_)
 · exact .exitS [] r r (.seq (.sr (.ks 1 r (.nilS [4] r r (.ret (pret results76 (.t r .n) (.refl _) ⟨1,r,hd⟩))))))
 refine .skipS [5,1] r r (.seq (.sr (.ks 2 r (.nilS [8,5,1] r r (.condP r hd (fun d hd=>?_) fun d hd=>?_)))))
 · exact .exitS [] r r (.seq (.sr (.ks 1 r (.nilS [4] r r (.ret (pret results76 (.t r .n) (.refl _) ⟨5,r,hd⟩))))))
 refine .skipS [5,1] r r (.seq (.sr (.ks 2 r (.nilS [10,5,1] r r (.condP r hd (fun e hd=>?_) fun e hd=>?_)))))
 · refine .exitS [1] r r (.sr (.ks 3 r (.nilS [17] r r (.condP r hd (fun f hd=>?_) fun f hd=>?_))))
   · exact .sr (.ks 1 r (.nilS [4] r r (.ret (pret results76 (.t r .n) (.refl _) ⟨2,r,hd⟩))))
   exact .skipS [] r r (.seq (.sr (.ks 1 r (.nilS [4] r r (.ret (pret results76 (.t r .n) (.refl _) ⟨4,r,hd⟩))))))
 refine .skipS [5] r r (.seq (.sr (.ks 2 r (.nilS [12,5] r r (.condP r hd (fun a hd=>?_) fun a hd=>?_)))))
 · exact .skipS [12] r r (.condKT r a (.exitS [] r r (.seq (.sr (.ks 1 r (.nilS [4] r r (.ret (pret results76 (.t r .n) (.refl _) ⟨4,r,hd⟩))))))))
 refine .region (.ks 2 r (.nilS [12] r r (.condP r hd (fun g hd=>?_) fun g hd=>?_)))
 · exact .exitS [] r r (.seq (.sr (.ks 1 r (.nilS [4] r r (.ret (pret results76 (.t r .n) (.refl _) ⟨4,r,hd⟩))))))
 exact .skipS [] r r (.exitS [] r r (.sr (.ks 1 r (.nilS [4] r r (.ret (pret results76 (.t r .n) (.refl _) ⟨0,r,hd⟩))))))
theorem W_prog_can {I:IH} {a0:Plan} {a1:State} {p1:Option Addr} {c2:Nat} {p4:Option Addr} {c5:Nat} {p7:Option Addr} {c8:Nat} {p10:Option Addr} {c11:Nat} {Q:Bool→Prop} (R3:RepSl eI64 I p1 c2 a0.Draws) (R6:RepSl eI64 I p4 c5 a1.A) (R9:RepSl eI64 I p7 c8 a1.B) (R12:RepSl eU64 I p10 c11 a1.On) (hd:prog_can a0 a1 Q) :
  PFun prog 215 [.agg #[.int .i64 a0.Kind,.int .i64 a0.N,.int .i64 a0.Source,.int .i64 a0.Length,.slice p1 a0.Draws.length c2],.agg #[.int .i64 a1.Low,.int .i64 a1.High,.slice p4 a1.A.length c5,.slice p7 a1.B.length c8,.slice p10 a1.On.length c11]] I (fun _=>o4_ Q):=by
 refine Fun.enter func215 r ntmps215 r (.c (.c .n)) fun w0 M=>?_
 refine .sr (.boxA r r r fun m=>?_)
 refine .boxA r r r fun p=>?_
 refine .ks 1 r (.nilS [3,2] r r (.seq (.sr (.loadW ia49 sz49 r (.s .z) r r r ?_))))
 have g:=W_prog_Right (I:=I) R3 hd
 refine .callP call95 r g r r fun q h=>?_
 obtain ⟨u,rfl,hd⟩:=h
 refine .ks 2 r ?_
 refine splitP hd (fun a hd=>?_) fun a hd=>?_
 · rw [a]
   exact .ks 18 r (.nilS [27,3] r r (.drop (.s .z) (.condKT r r (.sr (.ks 1 r (.nilS [4] r r (.drop .z (.ret (pret results215 (.t r .n) (.refl _) ⟨false,r,hd⟩)))))))))
 rw [a]
 refine .gyes r r r (.fa un42 r sz3 r (o:=0) r r r (.gyes r r r (.load1 ia3 r .z r r r (.ks 3 r ?_))))
 refine splitP hd (fun b hd=>?_) fun b hd=>?_
 · rw [b]
   exact .ks 13 r (.nilS [27,3] r r (.drop (.s .z) (.condKT r r (.sr (.ks 1 r (.nilS [4] r r (.drop .z (.ret (pret results215 (.t r .n) (.refl _) ⟨false,r,hd⟩)))))))))
 rw [b]
 refine .gyes r r r (.fa un42 r sz3 r (o:=1) r r r (.gyes r r r (.load1 ia3 r .z r r r (.gyes r r r (.fa un42 r sz3 r (o:=0) r r r (.gyes r r r (.load1 ia3 r .z r r r (.ks 3 r ?_))))))))
 refine splitP hd (fun d hd=>?_) fun d hd=>?_
 · rw [d]
   exact .ks 6 r (.nilS [27,3] r r (.drop (.s .z) (.condKT r r (.sr (.ks 1 r (.nilS [4] r r (.drop .z (.ret (pret results215 (.t r .n) (.refl _) ⟨false,r,hd⟩)))))))))
 rw [d]
 refine .gyes r r r (.fa un42 r sz3 r (o:=1) r r r (.gyes r r r (.load1 ia3 r .z r r r (.gyes r r r (.fa un49 r sz3 r (o:=1) r r r (.gyes r r r (.load1 ia3 r (.s .z) r r r (.ks 2 r (.nilS [27,3] r r (.drop (.s .z) (.condP r hd (fun i hd=>?_) fun i hd=>?_)))))))))))
 · exact .sr (.ks 1 r (.nilS [4] r r (.drop .z (.ret (pret results215 (.t r .n) (.refl _) ⟨false,r,hd⟩)))))
 refine .skipS [3] r r (.sr (.fa un42 r sz3 r (o:=1) r r r (.load1 ia3 r .z r r r (.fa un42 r sz3 r (o:=0) r r r (.load1 ia3 r .z r r r (.ks 2 r (.nilS [5,3] r r (.sr (.fa un42 r sz30 r (o:=2) r r r ?_)))))))))
 refine .load1 ia30 r .z r r r (.len un30 r r r r (.ks 3 r ?_))
 refine splitP hd (fun e hd=>?_) fun e hd=>?_
 · rw [e]
   refine .gyes r r r (.fa un42 r sz30 r (o:=3) r r r (.gyes r r r (.load1 ia30 r .z r r r (.gyes r r r (.len un30 r r r r (.ks 4 r ?_))))))
   refine splitP hd (fun f hd=>?_) fun f hd=>?_
   · rw [f]
     refine .gyes r r r (.fa un42 r sz40 r (o:=4) r r r (.gyes r r r (.load1 ia40 r .z r r r (.ks 1 r ?_))))
     have j:=W_flags_Right (I:=I) R12 hd
     refine .gyes r r r (.callP call170 r j r r fun v k=>?_)
     obtain ⟨l,rfl,hd⟩:=k
     exact .ks 2 r (.nilS [4] r r (.drop .z (.ret (pret results215 (.t r .n) (.refl _) ⟨l,r,hd⟩))))
   rw [f]
   exact .ks 6 r (.nilS [4] r r (.drop .z (.ret (pret results215 (.t r .n) (.refl _) ⟨false,r,hd⟩))))
 rw [e]
 exact .ks 13 r (.nilS [4] r r (.drop .z (.ret (pret results215 (.t r .n) (.refl _) ⟨false,r,hd⟩))))
theorem W_prog_sure {I:IH} {a0:Plan} {a1:State} {p1:Option Addr} {c2:Nat} {p4:Option Addr} {c5:Nat} {p7:Option Addr} {c8:Nat} {p10:Option Addr} {c11:Nat} {Q:State→Prop} (R3:RepSl eI64 I p1 c2 a0.Draws) (R6:RepSl eI64 I p4 c5 a1.A) (R9:RepSl eI64 I p7 c8 a1.B) (R12:RepSl eU64 I p10 c11 a1.On) (hd:prog_sure a0 a1 Q) :
  PFun prog 151 [.agg #[.int .i64 a0.Kind,.int .i64 a0.N,.int .i64 a0.Source,.int .i64 a0.Length,.slice p1 a0.Draws.length c2],.agg #[.int .i64 a1.Low,.int .i64 a1.High,.slice p4 a1.A.length c5,.slice p7 a1.B.length c8,.slice p10 a1.On.length c11]] I (o24_ Q):=by
 refine Fun.enter func151 r ntmps151 r (.c (.c .n)) fun w0 M=>?_
 refine .sr (.boxA r r r fun e=>?_)
 refine .boxA r r r fun f=>?_
 refine .allocA zv42 r r fun g=>?_
 refine .nilS [4,3,2] r r (.seq (.sr (.loadW ia49 sz49 r (.s (.s .z)) r r r (.loadW ia42 sz42 r (.s .z) r r r ?_))))
 have a:=W_prog_can (I:=I) R3 R6 R9 R12 hd
 refine .callP call215 r a r r fun h b=>?_
 obtain ⟨i,rfl,hd⟩:=b
 refine .nilS [7,4,3] r r (.drop (.s (.s .z)) (.condP r hd (fun d hd=>?_) fun d hd=>?_))
 · exact .sr (.loadW ia42 sz42 r (.s .z) r r r (.storeA sz42 r r .z (.t (.t (.t (.t (.t .nil))))) r r (.nilS [4] r r (.drop (.s .z) (.ret (pret results151 (.w ia42 sz42 r .z r .n) (.refl _) ⟨a1,_,_,_,_,_,_,r,R6,R9,R12,hd⟩))))))
 exact .skipS [4] r r (.drop (.s .z) (.sr (.build zv42 un42 BI42 .n (by exact trivial) r r (.storeA sz42 r r .z (.t (.t (.t (.t (.t .nil))))) r r (.nilS [4] r r (.ret (pret results151 (.w ia42 sz42 r .z r .n) (.refl _) ⟨({ Low:=0,High:=0,A:=([]:List Int),B:=([]:List Int),On:=([]:List Int) }:State),_,_,_,_,_,_,r,(.nil _ _ _),(.nil _ _ _),(.nil _ _ _),hd⟩)))))))
theorem W_prog_number {I:IH} {a0:Plan} {a1:Int} {a2:Int} {p1:Option Addr} {c2:Nat} {Q:Int→Prop} (R3:RepSl eI64 I p1 c2 a0.Draws) (hd:prog_number a0 a1 a2 Q) :
  PFun prog 221 [.agg #[.int .i64 a0.Kind,.int .i64 a0.N,.int .i64 a0.Source,.int .i64 a0.Length,.slice p1 a0.Draws.length c2],.int .i64 a1,.int .i64 a2] I (fun _=>o0_ Q):=by
 refine Fun.enter func221 r ntmps221 r (.c (.c (.c .n))) fun w0 M=>?_
 refine .sr (.boxA r r r fun C=>?_)
 refine .ks 1 r (.nilS [3,2,1] r r (.seq (.sr (.ks 1 r ?_))))
 have e:=W_prog_within (I:=I) hd
 refine .callP call164 r e r r fun w f=>?_
 obtain ⟨x,rfl,hd⟩:=f
 refine .ks 2 r ?_
 refine splitP hd (fun a hd=>?_) fun a hd=>?_
 · rw [a]
   exact .ks 7 r (.nilS [19,3,2,1] r r (.condKT r r (.sr (.ks 1 r (.nilS [6] r r (.drop .z (.ret (pret results221 (.t r .n) (.refl _) ⟨0,r,hd⟩))))))))
 rw [a]
 refine .ks 1 r (.gyes r r r (.fa un49 r sz3 r (o:=1) r r r (.gyes r r r (.load1 ia3 r .z r r r (.ks 1 r ?_)))))
 have h:=W_prog_within (I:=I) hd
 refine .gyes r r r (.callP call164 r h r r fun y i=>?_)
 obtain ⟨A,rfl,hd⟩:=i
 refine .ks 2 r (.nilS [19,3,2,1] r r (.condP r hd (fun k hd=>?_) fun k hd=>?_))
 · exact .sr (.ks 1 r (.nilS [6] r r (.drop .z (.ret (pret results221 (.t r .n) (.refl _) ⟨0,r,hd⟩)))))
 refine .skipS [3,2,1] r r (.sr (.ks 1 r (.nilS [7,3,2,1] r r (.seq (.sr (.fa un49 r sz30 r (o:=4) r r r (.load1 ia30 r .z r r r (.len un30 r r r r (.ks 1 r ?_)))))))))
 refine .nilS [8,7,3,2,1] r r (.sr (.ks 2 r (.nilS [24,8,7,3,2,1] r r (.condP r hd (fun l hd=>?_) fun l hd=>?_))))
 · refine .dr [0,1,2,3,4,5,6,7,8,9,10,11] 12 (.g r r r (fun _=>.fa un49 r sz30 r (o:=4) r r r .mk) (.g r r r (fun _=>.load1 ia30 r .z r r r .mk) (.fk 1 r (.g r r r (fun _=>.fa un49 r sz3 r (o:=1) r r r .mk) (.g r r r (fun _=>.load1 ia3 r .z r r r .mk) (.fk 4 r ?_))))))
   obtain ⟨m,hd⟩:=hd
   refine .g r r r (fun _=>.rem r r m r r .mk) ?_
   obtain ⟨d,s,b,hd⟩:=hd
   obtain ⟨B,o34,v,u,p,q⟩:=R3.2 _ _ b
   cases q
   refine .g r r r (fun _=>.ixa un30 sz2 r u r d (idx_lt b d) r r .mk) (.g r r r (fun _=>.ld1 (j:=0) ia2 p r r r r r .mk) (.e2 12 (.ks 1 r (.nilS [7,2] r r (.drop .z (.sr (.ks 1 r (.shl' r r (by decide) r r (.ks 3 r ?_)))))))))
   exact .nilS [6] r r (.ret (pret results221 (.t r .n) (.refl _) ⟨(bor .i64 (shl .i64 s 12) a2),r,hd⟩))
 exact .skipS [7,2] r r (.drop .z (.sr (.ks 1 r (.shl' r r (by decide) r r (.ks 3 r (.nilS [6] r r (.ret (pret results221 (.t r .n) (.refl _) ⟨(bor .i64 (shl .i64 0 12) a2),r,hd⟩))))))))
theorem W_prog_draw {I:IH} {a0:Int} {Q:Int→Prop}  (hd:prog_draw a0 Q) :
  PFun prog 222 [.int .i64 a0] I (fun _=>o0_ Q):=by
 refine Fun.enter func222 r ntmps222 r (.c .n) fun w0 M=>?_
 exact .sr (.ks 1 r (.nilS [0] r r (.sr (.ks 2 r (.shr' r r (by decide) r r (.ks 1 r (.nilS [2] r r (.ret (pret results222 (.t r .n) (.refl _) ⟨(shr .i64 (w64 (a0 - 1)) 1),r,hd⟩)))))))))
theorem W_prog_tells {I:IH} {a0:Plan} {a1:State} {a2:Int} {a3:Int} {p1:Option Addr} {c2:Nat} {p4:Option Addr} {c5:Nat} {p7:Option Addr} {c8:Nat} {p10:Option Addr} {c11:Nat} {Q:(Int×Bool)→Prop} (R3:RepSl eI64 I p1 c2 a0.Draws) (R6:RepSl eI64 I p4 c5 a1.A) (R9:RepSl eI64 I p7 c8 a1.B) (R12:RepSl eU64 I p10 c11 a1.On) (hd:prog_tells a0 a1 a2 a3 Q) :
  PFun prog 172 [.agg #[.int .i64 a0.Kind,.int .i64 a0.N,.int .i64 a0.Source,.int .i64 a0.Length,.slice p1 a0.Draws.length c2],.agg #[.int .i64 a1.Low,.int .i64 a1.High,.slice p4 a1.A.length c5,.slice p7 a1.B.length c8,.slice p10 a1.On.length c11],.int .i64 a2,.int .i64 a3] I (fun _=>o3_ Q):=by
 refine Fun.enter func172 r ntmps172 r (.c (.c (.c (.c .n)))) fun w0 M=>?_
 refine .sr (.boxA r r r fun L=>?_)
 refine .boxA r r r fun O=>?_
 refine .ks 2 r (.nilS [5,4,3,2] r r (.sr (.fa un42 r sz40 r (o:=4) r r r (.load1 ia40 r .z r r r (.ks 1 r ?_)))))
 have k:=W_flags_Has (I:=I) R12 hd
 refine .callP call84 r k r r fun P l=>?_
 obtain ⟨e,rfl,hd⟩:=l
 refine .ks 1 r (.nilS [10,5,4,3,2] r r (.seq (.sr (.fa un49 r sz47 r (o:=0) r r r (.load1 ia47 r (.s .z) r r r (.nilS [16,10,5,4,3,2] r r (.block (.sr (.ks 2 r ?_)))))))))
 refine .nilS [17,16,10,5,4,3,2] r r (.condP r hd (fun m hd=>?_) fun m hd=>?_)
 · exact .sr (.fa un42 r sz3 r (o:=0) r r r (.load1 ia3 r .z r r r (.ks 5 r (.nilS [9,8] r r (.drop .z (.drop .z (.ret (pret results172 (.t r (.t r .n)) (.refl _) ⟨(w64 (a1.Low+a3),e),r,hd⟩))))))))
 refine .sr (.ks 2 r (.nilS [24,10,5,4,3,2] r r (.condP r hd (fun p hd=>?_) fun p hd=>?_)))
 · refine .seq (.sr (.ks 3 r (.nilS [28,10,5,4,3,2] r r (.condP r hd (fun q hd=>?_) fun q hd=>?_))))
   · exact .sr (.ks 3 r (.nilS [9,8] r r (.drop .z (.drop .z (.ret (pret results172 (.t r (.t r .n)) (.refl _) ⟨(1,e),r,hd⟩))))))
   refine .skipS [5,4,3,2] r r (.seq (.dr [0,1,3,4,5,6,8,9,10,11,12,13,2,7,14] 15 (.g r r r (fun _=>.loadW ia49 sz49 r (.s .z) r r r .mk) (.fk 1 r (.g r r r (fun _=>.fa un42 r sz3 r (o:=0) r r r .mk) (.g r r r (fun _=>.load1 ia3 r .z r r r .mk) (.fk 2 r (.g r r r (fun _=>.fa un42 r sz30 r (o:=2) r r r .mk) (.g r r r (fun _=>.load1 ia30 r .z r r r .mk) ?_)))))))))
   refine .fk 1 r ?_
   obtain ⟨a,E,b,hd⟩:=hd
   obtain ⟨R,o37,J,f,d,u⟩:=R6.2 _ _ b
   cases u
   refine .g r r r (fun _=>.ixa un30 sz2 r f r a (idx_lt b a) r r .mk) (.g r r r (fun _=>.ld1 (j:=0) ia2 d r r r r r .mk) (.fk 1 r (.ww r fun ex=>?_)))
   have v:=W_prog_draw (I:=I) hd
   refine .callP call222 r v r r fun S w=>?_
   obtain ⟨T,rfl,hd⟩:=w
   refine .so 2 r r r (.ck 1 r r (.cg r r r r (fun _=>.ld1 (j:=0) ia2 d r r r r r .mk) (.cg r r r r (fun _=>.ixa un30 sz2 r f r a (idx_lt b a) r r .mk) (.ck 1 r r (.cg r r r r (fun _=>.load1 ia30 r .z r r r .mk) (.cg r r r r (fun _=>.fa un42 r sz30 r (o:=2) r r r .mk) (.ck 2 r r (.cg r r r r (fun _=>.load1 ia3 r .z r r r .mk) (.cg r r r r (fun _=>.fa un42 r sz3 r (o:=0) r r r .mk) (.cg r r r r (fun _=>.loadW ia49 sz49 r (.s .z) r r r .mk) trivial)))))))))) (.ww r fun ex=>?_)
   have x:=W_prog_number (I:=I) R3 hd
   refine .callP call221 r x r r fun U y=>?_
   obtain ⟨F,rfl,hd⟩:=y
   exact .so 2 r r r (.ck 1 r r (.cg r r r r (fun _=>.ld1 (j:=0) ia2 d r r r r r .mk) (.cg r r r r (fun _=>.ixa un30 sz2 r f r a (idx_lt b a) r r .mk) (.ck 1 r r (.cg r r r r (fun _=>.load1 ia30 r .z r r r .mk) (.cg r r r r (fun _=>.fa un42 r sz30 r (o:=2) r r r .mk) trivial)))))) (.fk 1 r (.e2 15 (.ks 1 r (.nilS [9,8] r r (.drop .z (.drop .z (.ret (pret results172 (.t r (.t r .n)) (.refl _) ⟨(F,E==0),r,hd⟩))))))))
 refine .skipS [10,5,3] r r (.drop (.s .z) (.sr (.fa un42 r sz30 r (o:=2) r r r (.load1 ia30 r .z r r r (.ks 1 r ?_)))))
 obtain ⟨i,G,h,hd⟩:=hd
 obtain ⟨V,o54,K,H,C,D⟩:=R6.2 _ _ h
 cases D
 exact .ixa un30 sz2 r H r i (idx_lt h i) r r (.ld1 (j:=0) ia2 C r r r r r (.ks 3 r (.nilS [9,8] r r (.drop .z (.ret (pret results172 (.t r (.t r .n)) (.refl _) ⟨(G,e),r,hd⟩))))))
theorem W_prog_Out {I:IH} {a0:Plan} {a1:State} {a2:Int} {p1:Option Addr} {c2:Nat} {p4:Option Addr} {c5:Nat} {p7:Option Addr} {c8:Nat} {p10:Option Addr} {c11:Nat} {Q:Vec→Prop} (R3:RepSl eI64 I p1 c2 a0.Draws) (R6:RepSl eI64 I p4 c5 a1.A) (R9:RepSl eI64 I p7 c8 a1.B) (R12:RepSl eU64 I p10 c11 a1.On) (hd:prog_Out a0 a1 a2 Q) :
  PFun prog 99 [.agg #[.int .i64 a0.Kind,.int .i64 a0.N,.int .i64 a0.Source,.int .i64 a0.Length,.slice p1 a0.Draws.length c2],.agg #[.int .i64 a1.Low,.int .i64 a1.High,.slice p4 a1.A.length c5,.slice p7 a1.B.length c8,.slice p10 a1.On.length c11],.int .i64 a2] I (o25_ Q):=by
 refine Fun.enter func99 r ntmps99 r (.c (.c (.c .n))) fun w0 M=>?_
 refine .sr (.boxA r r r fun E=>?_)
 refine .boxA r r r fun F=>?_
 refine .allocA zv54 r r fun G=>?_
 refine .nilS [6,4,3,2] r r (.sr (.loadW ia49 sz49 r (.s (.s .z)) r r r (.loadW ia42 sz42 r (.s .z) r r r ?_)))
 have K:=W_prog_sure (I:=I) R3 R6 R9 R12 hd
 refine .call call151 r K r r fun a6 H f L=>?_
 obtain ⟨b,R,S,T,U,V,W,rfl,k,l,m,hd⟩:=L
 replace R3:=R3.mono f
 replace R6:=R6.mono f
 replace R9:=R9.mono f
 replace R12:=R12.mono f
 refine .storeA sz42 r r (.s .z) (.t (.t (.t (.t (.t .nil))))) r r (.nilS [6,4,3,2] r r (.sr (.fa un42 r sz3 r (o:=1) r r r (.load1 ia3 r (.s .z) r r r (.fa un42 r sz3 r (o:=0) r r r (.load1 ia3 r (.s .z) r r r (.ks 1 r (.build zv54 un54 BI54 (.c r r r (.t .nil) .n) (by exact ⟨⟨_,_,r,r,r⟩,trivial⟩) r r (.allocA zv54 r r fun J=>?_)))))))))
 refine .storeA sz54 r r .z (.t (.t .nil)) r r (.nilS [7,6,4,3,2] r r (.seq (.sr (.fa un54 r sz3 r (o:=0) r r r (.load1 ia3 r .z r r r (.ks 1 r (.nilS [22,21,7,6,4,3,2] r r (.block (.own0 eItem 51 ?_)))))))))
 refine .loop hd (fun (s:(List Item)×Int) c w=>match s with | (d,e)=>∃ I_ g h,IH.le H I_∧Ok ⟨44,[],none⟩ [(2,.int .i64 a2),(3,.pointer (some ⟨E,0,none⟩)),(4,.pointer (some ⟨F,0,none⟩)),(6,.pointer (some ⟨G,0,none⟩)),(7,.pointer (some ⟨J,0,none⟩)),(21,.int .i64 (w64 (b.High - b.Low))),(22,.int .i64 e)] c∧Sym w0 M I I_ [pto E (.cells #[.int .i64 a0.Kind,.int .i64 a0.N,.int .i64 a0.Source,.int .i64 a0.Length,.slice p1 a0.Draws.length c2] 49 (0,0)),pto F (.cells #[.int .i64 b.Low,.int .i64 b.High,.slice R b.A.length S,.slice T b.B.length U,.slice V b.On.length W] 42 (0,0)),pto G (.cells #[.int .i64 0,.slice none 0 0] 54 (0,0)),pto J (.cells #[.int .i64 (w64 (b.High - b.Low)),.slice g d.length h] 54 (0,0)),OwnSl eItem 51 g h d] w) (fun c w ho hs=>⟨H,_,_,(.refl _),ho.sub ⟨r,r,r,r,r,r,r,trivial⟩,hs.pick (.c (.s (.s (.s (.s .z)))) (.c (.s (.s (.s .z))) (.c (.s (.s .z)) (.c (.s .z) (.c .z .n)))))⟩) ?_
 rintro ⟨d,e⟩ P hd c w hst
 obtain ⟨i,g,h,a,hok,hsym⟩:=hst
 have q:=IH.le.trans f a
 replace R3:=R3.mono a
 replace k:=k.mono a
 replace l:=l.mono a
 replace m:=m.mono a
 refine Cod.at hok hsym (.sr (.ks 1 r (.nilS [23,22,21,7,6,4,3,2] r r (.seq (.condP r hd (fun u hd=>?_) fun u hd=>?_)))))
 · refine .skipS [22,21,7,6,4,3,2] r r (.seq (.block (.sr (.ks 2 r (.nilS [8,22,21,7,6,4,3,2] r r (.sr (.loadW ia49 sz49 r .z r r r (.loadW ia42 sz42 r (.s .z) r r r (.ks 2 r ?_)))))))))
   have v:=W_prog_tells (I:=i) R3 k l m hd
   refine .callP call172 r v r r fun Y x=>?_
   obtain ⟨p,rfl,hd⟩:=x
   refine .ks 5 r (.nilS [10,9,8,22,21,7,6,4,3,2] r r (.sr (.ks 1 r (.nilS [33,9,8,22,21,7,6,4,3,2] r r (.condP r hd (fun y hd=>?_) fun y hd=>?_)))))
   · refine .region (.fa un54 r sz52 r (o:=1) r r r (.load1 ia52 r (.s (.s (.s .z))) r r r (.ks 2 r (.build zv51 un51 BI51 (.c r r r (.t .nil) (.c r r r (.s (.t .nil)) .n)) (by exact ⟨⟨_,_,r,r,r⟩,⟨⟨_,_,r,r,r⟩,trivial⟩⟩) r r (.buildSlice 1 un52 sz51 zv51 r r (.c r r r .n) r r fun Z=>?_)))))
     obtain ⟨C,hd⟩:=hd
     refine .append (ys:=[({ At:=e,Val:=p.1 }:Item)]) 16 (.s (.s (.s (.s (.s .z))))) un52 un52 IN51 r r r r r r r r r (.box .z (.one r) r) C r r fun a3 a4=>?_
     exact .fa un54 r sz52 r (o:=1) r r r (.store1 sz52 r r (.s (.s (.s (.s (.s .z))))) (.s (.t .nil)) r (.nilS [22,21,7,6,4,3,2] r r (.drop (.s .z) (.region (.ks 2 r (.nil' fun c w ho hs=>⟨((d++([({ At:=e,Val:=p.1 }:Item)])),w64 (e+1)),hd,i,_,_,a,ho.sub ⟨r,r,r,r,r,r,r,trivial⟩,hs.pick (.c (.s .z) (.c (.s .z) (.c (.s .z) (.c (.s .z) (.c .z .n)))))⟩))))))
   exact .skipS [22,21,7,6,4,3,2] r r (.region (.ks 2 r (.nil' fun c w ho hs=>⟨(d,w64 (e+1)),hd,i,_,_,a,ho.sub ⟨r,r,r,r,r,r,r,trivial⟩,hs.pick (.c .z (.c .z (.c .z (.c .z (.c .z .n)))))⟩)))
 refine .exitS [7,6] r r (.drop .z (.drop .z (.sr (.loadW ia54 sz54 r (.s .z) r r r (.storeA sz54 r r .z (.t (.t .nil)) r r (.nilS [6] r r (.drop (.s .z) (.pub (.s .z) fun a5 j O=>?_))))))))
 have D:=IH.le.trans q j
 have X:=IH.le.trans a j
 exact .ret (pret results99 (.w ia54 sz54 r .z r .n) D ⟨({ N:=w64 (b.High - b.Low),Items:=d }:Vec),_,_,r,O,hd⟩)
theorem W_flags_Of {I:IH} {a0:Int} {a1:List Int} {p1:Option Addr} {c2:Nat} {Q:(List Int)→Prop} (R3:RepSl eI64 I p1 c2 a1) (hd:flags_Of a0 a1 Q) :
  PFun prog 152 [.int .i64 a0,.slice p1 a1.length c2] I (o20_ Q):=by
 refine Fun.enter func152 r ntmps152 r (.c (.c .n)) fun w0 M=>?_
 refine .sr (.ks 1 r (.nilS [1,0] r r (.sr (.ks 1 r ?_))))
 have X:=W_flags_New (I:=I) hd
 refine .callO call188 r X r r fun b5 W b6 D Y=>?_
 obtain ⟨b7,b8,b9,rfl,rfl,hd⟩:=Y
 replace R3:=R3.mono D
 refine .ks 1 r (.nilS [5,1,0] r r (.seq (.sr (.ks 1 r (.len un29 r r r r (.ks 1 r (.nilS [12,11,10,5,0] r r (.block (.loop hd (fun (s:(List Int)×Int) c w=>match s with | (a,i)=>∃ I_ e b,IH.le W I_∧Ok ⟨35,[],none⟩ [(0,.int .i64 a0),(5,.slice e a.length b),(10,.slice p1 a1.length c2),(11,.int .i64 (a1.length:Int)),(12,.int .i64 i)] c∧Sym w0 M I I_ [OwnSl eU64 125 e b a] w) (fun c w ho hs=>⟨W,_,_,(.refl _),ho.sub ⟨r,r,r,r,r,trivial⟩,hs.pick (.c .z .n)⟩) ?_)))))))))
 rintro ⟨a,i⟩ a5 hd c w hst
 obtain ⟨k,e,b,h,hok,hsym⟩:=hst
 have x:=IH.le.trans D h
 replace R3:=R3.mono h
 refine Cod.at hok hsym (.sr (.ks 1 r (.nilS [13,12,11,10,5,0] r r (.seq (.condP r hd (fun L hd=>?_) fun L hd=>?_)))))
 · refine .skipS [12,11,10,5,0] r r (.seq (.block (.sr ?_)))
   obtain ⟨E,l,y,hd⟩:=hd
   obtain ⟨a9,o176,a6,Z,N,O⟩:=R3.2 _ _ y
   cases O
   refine .ixa un29 sz3 r Z r E (idx_lt y E) r r (.ld1 (j:=0) ia3 N r r r r r (.ks 1 r (.nilS [7,12,11,10,5,0] r r (.seq ?_))))
   refine Cod.joinQ (σ:=Bool) hd (fun (F:Bool) c w=>∃ I_,IH.le k I_∧Ok ⟨35,[],none⟩ [(0,.int .i64 a0),(5,.slice e a.length b),(7,.int .i64 l),(10,.slice p1 a1.length c2),(11,.int .i64 (a1.length:Int)),(12,.int .i64 i),(23,.bool F)] c∧Sym w0 M I I_ [OwnSl eU64 125 e b a] w) (fun b0 hd=>?_) ?_
   · skip
     refine .region (.ks 4 r ?_)
     refine splitP hd (fun m hd=>?_) fun m hd=>?_
     · rw [m]
       refine .ks 2 r ?_
       have P:=fun (J:IH) (hJ:IH.le k J) (hL:lentAll J [OwnSl eU64 125 e b a])=>W_flags_within (I:=J) (lent hL.1) hd
       refine .gyes r r r (.callB (.f call153 r) (.c .z .n) P r r fun b1 _ R=>?_)
       obtain ⟨a2,rfl,hd⟩:=R
       exact .ks 1 r (.nil' fun c w ho hs=>⟨a2,hd,k,(.refl _),ho.sub ⟨r,r,r,r,r,r,r,trivial⟩,hs.pick (.c .z .n)⟩)
     rw [m]
     exact .ks 4 r (.nil' fun c w ho hs=>⟨false,hd,k,(.refl _),ho.sub ⟨r,r,r,r,r,r,r,trivial⟩,hs.pick (.c .z .n)⟩)
   rintro F hd c w hst
   obtain ⟨v,o,hok,hsym⟩:=hst
   have a7:=IH.le.trans x o
   have A:=IH.le.trans h o
   replace R3:=R3.mono o
   refine Cod.at hok hsym (.condP r hd (fun S hd=>?_) fun S hd=>?_)
   · refine .ownF .z fun G=>?_
     refine .dr [0,1,2,3,4,5,6,7] 8 (.fk 2 r (.g r r r (fun _=>.shr' r r (by decide) r r .mk) ?_))
     obtain ⟨p,q,d,hd⟩:=hd
     obtain ⟨H,a3⟩:=G (idx_ne d)
     cases a3
     refine .g r r r (fun _=>.ixa0 un40 sz125 r r p (idx_lt d p) r r .mk) (.g r r r (fun _=>.lo1 (j:=0) ia125 .z d r r r r r .mk) (.fk 1 r (.ww r fun ex=>?_)))
     have T:=W_flags_bit (I:=v) hd
     refine .callP call154 r T r r fun b2 U=>?_
     obtain ⟨u,rfl,hd⟩:=U
     refine .so 1 r r r (.cg r r r r (fun _=>.lo1 (j:=0) ia125 .z d r r r r r .mk) (.cg r r r r (fun _=>.ixa0 un40 sz125 r r p (idx_lt d p) r r .mk) (.cg r r r r (fun _=>.shr' r r (by decide) r r .mk) (.ck 2 r r trivial)))) (.fk 1 r (.e2 8 ?_))
     obtain ⟨K,b3,B,hd⟩:=hd
     exact .ixa0 un40 sz125 r r K (idx_lt B K) r r (.stO1 (j:=0) (v':=(bor .u64 q u)) sz125 .z B r r r (.t .nil) r (.sub (E':=[(0,_),(5,.slice (some ⟨H,0,none⟩) (a.set ((shr .i64 l 6).toNat) (bor .u64 q u)).length b),(7,_),(10,_),(11,_),(12,_),(23,_),(24,.slice (some ⟨H,0,none⟩) (a.set ((shr .i64 l 6).toNat) (bor .u64 q u)).length b),(25,_),(26,_),(27,_),(28,_),(29,_),(30,_),(31,_),(32,_)]) ⟨r,(by simp only [List.length_set]; rfl),r,r,r,r,r,(by simp only [List.length_set]; rfl),r,r,r,r,r,r,r,r,trivial⟩ (.nilS [12,11,10,5,0] r r (.region (.ks 2 r (.nil' fun c w ho hs=>⟨((a.set ((shr .i64 l 6).toNat) (bor .u64 q u)),w64 (i+1)),hd,v,_,_,A,ho.sub ⟨r,r,r,r,r,trivial⟩,hs.pick (.c .z .n)⟩))))))
   exact .skipS [12,11,10,5,0] r r (.region (.ks 2 r (.nil' fun c w ho hs=>⟨(a,w64 (i+1)),hd,v,_,_,A,ho.sub ⟨r,r,r,r,r,trivial⟩,hs.pick (.c .z .n)⟩)))
 refine .exitS [5] r r (.sr (.ks 2 r (.nilS [4] r r (.pub .z fun b4 C a4=>?_))))
 have V:=IH.le.trans x C
 have a8:=IH.le.trans h C
 exact .ret (pret results152 (.t r .n) V ⟨a,_,_,r,a4,hd⟩)
theorem W_prog_Asked {I:IH} {a0:Plan} {a1:State} {a2:Int} {p1:Option Addr} {c2:Nat} {p4:Option Addr} {c5:Nat} {p7:Option Addr} {c8:Nat} {p10:Option Addr} {c11:Nat} {Q:((List Int)×Bool)→Prop} (R3:RepSl eI64 I p1 c2 a0.Draws) (R6:RepSl eI64 I p4 c5 a1.A) (R9:RepSl eI64 I p7 c8 a1.B) (R12:RepSl eU64 I p10 c11 a1.On) (hd:prog_Asked a0 a1 a2 Q) :
  PFun prog 83 [.agg #[.int .i64 a0.Kind,.int .i64 a0.N,.int .i64 a0.Source,.int .i64 a0.Length,.slice p1 a0.Draws.length c2],.agg #[.int .i64 a1.Low,.int .i64 a1.High,.slice p4 a1.A.length c5,.slice p7 a1.B.length c8,.slice p10 a1.On.length c11],.int .i64 a2] I (o28_ Q):=by
 refine Fun.enter func83 r ntmps83 r (.c (.c (.c .n))) fun w0 M=>?_
 refine .sr (.boxA r r r fun d1=>?_)
 refine .boxA r r r fun v=>?_
 refine .ks 2 r (.nilS [4,3] r r (.sr (.loadW ia49 sz49 r (.s .z) r r r (.loadW ia42 sz42 r .z r r r ?_))))
 have a6:=W_prog_sure (I:=I) R3 R6 R9 R12 hd
 refine .call call151 r a6 r r fun d2 y g a7=>?_
 obtain ⟨d,C,D,Y,Z,a3,a4,rfl,f,i,k,hd⟩:=a7
 replace R3:=R3.mono g
 replace R6:=R6.mono g
 replace R9:=R9.mono g
 replace R12:=R12.mono g
 refine .storeA sz42 r r .z (.t (.t (.t (.t (.t .nil))))) r r (.nilS [4,3] r r (.sr (.ks 1 r (.nilS [8,4,3] r r (.seq ?_)))))
 refine Cod.joinQ (σ:=Int) hd (fun (E:Int) c w=>∃ I_,IH.le y I_∧Ok ⟨44,[],none⟩ [(4,.pointer (some ⟨v,0,none⟩)),(8,.int .i64 E)] c∧Sym w0 M I I_ [pto v (.cells #[.int .i64 d.Low,.int .i64 d.High,.slice C d.A.length D,.slice Y d.B.length Z,.slice a3 d.On.length a4] 42 (0,0))] w) (fun d3 hd=>?_) ?_
 · skip
   refine .sr (.fa un49 r sz47 r (o:=0) r r r (.load1 ia47 r (.s .z) r r r (.nilS [16,8,4] r r (.drop (.s .z) (.block (.sr (.ks 2 r (.nilS [17,16,8,4] r r (.condP r hd (fun a8 hd=>?_) fun a8 hd=>?_)))))))))
   · exact .region (.ks 1 r (.nil' fun c w ho hs=>⟨(-1),hd,y,(.refl _),ho.sub ⟨r,r,trivial⟩,hs.pick (.c .z .n)⟩))
   refine .sr (.ks 2 r (.nilS [19,8,4] r r (.condP r hd (fun a9 hd=>?_) fun a9 hd=>?_)))
   · exact .skip' fun c w ho hs=>⟨0,hd,y,(.refl _),ho.sub ⟨r,r,trivial⟩,hs.pick (.c .z .n)⟩
   exact .sr (.ks 2 r (.nilS [7,6] r r (.drop .z (.ret (pret results83 (.t r (.t r .n)) g ⟨(([]:List Int),true),_,_,r,(.nil _ _ _),hd⟩)))))
 rintro E hd c w hst
 obtain ⟨a5,l,hok,hsym⟩:=hst
 have b0:=IH.le.trans g l
 replace f:=f.mono l
 replace i:=i.mono l
 replace k:=k.mono l
 refine Cod.at hok hsym (.sr (.ks 1 r (.nilS [9,8,4] r r (.seq (.sr (.fa un42 r sz30 r (o:=2) r r r (.load1 ia30 r .z r r r (.len un30 r r r r (.ks 1 r ?_)))))))))
 refine .nilS [24,23,22,9,8,4] r r (.block (.own0 eI64 3 (.loop hd (fun (s:(List Int)×Int) c w=>match s with | (m,h)=>∃ I_ p q,IH.le a5 I_∧Ok ⟨44,[],none⟩ [(4,.pointer (some ⟨v,0,none⟩)),(8,.int .i64 E),(9,.slice p m.length q),(22,.slice C d.A.length D),(23,.int .i64 (d.A.length:Int)),(24,.int .i64 h)] c∧Sym w0 M I I_ [pto v (.cells #[.int .i64 d.Low,.int .i64 d.High,.slice C d.A.length D,.slice Y d.B.length Z,.slice a3 d.On.length a4] 42 (0,0)),OwnSl eI64 3 p q m] w) (fun c w ho hs=>⟨a5,_,_,(.refl _),ho.sub ⟨r,r,r,r,r,r,trivial⟩,hs.pick (.c (.s .z) (.c .z .n))⟩) ?_)))
 rintro ⟨m,h⟩ b5 hd c w hst
 obtain ⟨F,p,q,a,hok,hsym⟩:=hst
 have H:=IH.le.trans b0 a
 have J:=IH.le.trans l a
 replace f:=f.mono a
 replace i:=i.mono a
 replace k:=k.mono a
 refine Cod.at hok hsym (.sr (.ks 1 r (.nilS [25,24,23,22,9,8,4] r r (.seq (.condP r hd (fun K hd=>?_) fun K hd=>?_)))))
 · refine .skipS [24,23,22,9,8,4] r r (.seq (.block (.sr (.ks 1 r ?_))))
   obtain ⟨G,b9,x,hd⟩:=hd
   obtain ⟨c0,o271,b6,b1,L,O⟩:=f.2 _ _ x
   cases O
   refine .ixa un30 sz2 r b1 r G (idx_lt x G) r r (.ld1 (j:=0) ia2 L r r r r r (.ks 2 r (.nilS [11,10,24,23,22,9,8,4] r r (.sr (.ks 3 r (.nilS [31,10,24,23,22,9,8,4] r r (.condP r hd (fun P hd=>?_) fun P hd=>?_)))))))
   · refine .region (.ks 2 r (.buildSlice 1 un29 sz3 zv3 r r (.c r r r .n) r r fun c1=>?_))
     obtain ⟨R,hd⟩:=hd
     refine .append (ys:=[h]) 8 (.s (.s .z)) un29 un29 IN3 r r r r r r r r r (.box .z (.one r) r) R r r fun c3 c4=>?_
     exact .ks 1 r (.nilS [9,24,23,22,8,4] r r (.drop (.s .z) (.region (.ks 2 r (.nil' fun c w ho hs=>⟨((m++([h])),w64 (h+1)),hd,F,_,_,a,ho.sub ⟨r,r,r,r,r,r,trivial⟩,hs.pick (.c (.s .z) (.c .z .n))⟩)))))
   exact .skipS [24,23,22,9,8,4] r r (.region (.ks 2 r (.nil' fun c w ho hs=>⟨(m,w64 (h+1)),hd,F,_,_,a,ho.sub ⟨r,r,r,r,r,r,trivial⟩,hs.pick (.c .z (.c .z .n))⟩)))
 refine .exitS [9,4] r r (.sr (.fa un42 r sz3 r (o:=1) r r r (.load1 ia3 r .z r r r (.fa un42 r sz3 r (o:=0) r r r (.load1 ia3 r .z r r r (.ks 2 r (.pub (.s .z) fun b2 e u=>?_)))))))
 have S:=IH.le.trans H e
 have T:=IH.le.trans J e
 have U:=IH.le.trans a e
 replace f:=f.mono e
 replace i:=i.mono e
 replace k:=k.mono e
 have V:=W_flags_Of (I:=b2) u hd
 refine .call call152 r V r r fun c6 c7 b W=>?_
 obtain ⟨b3,c9,d0,rfl,b4,hd⟩:=W
 have X:=IH.le.trans S b
 have b7:=IH.le.trans T b
 have b8:=IH.le.trans U b
 replace f:=f.mono b
 replace i:=i.mono b
 replace k:=k.mono b
 replace u:=u.mono b
 exact .ks 2 r (.nilS [7,6] r r (.drop .z (.ret (pret results83 (.t r (.t r .n)) X ⟨(b3,false),_,_,r,b4,hd⟩))))
theorem W_spvec_within {I:IH} {a0:Int} {a1:Int} {Q:Bool→Prop}  (hd:spvec_within a0 a1 Q) :
  PFun prog 216 [.int .i64 a0,.int .i64 a1] I (fun _=>o4_ Q):=by
 refine Fun.enter func216 r ntmps216 r (.c (.c .n)) fun w0 M=>?_
 refine .sr (.ks 1 r (.nilS [1,0] r r (.sr (.ks 3 r ?_))))
 refine splitP hd (fun a hd=>?_) fun a hd=>?_
 · rw [a]
   exact .ks 5 r (.nilS [4] r r (.ret (pret results216 (.t r .n) (.refl _) ⟨(decide (a0≤a1)),r,hd⟩)))
 rw [a]
 exact .ks 5 r (.nilS [4] r r (.ret (pret results216 (.t r .n) (.refl _) ⟨false,r,hd⟩)))
theorem W_spvec_Right_1_81a {I:IH} {o0:Int} {o1:Vec} {a0:Item} {b3:Nat} {b4:Nat} {p5:Option Addr} {c6:Nat} {Q:(Bool×Int)→Prop} (R7:RepSl eItem I p5 c6 o1.Items) (hd:spvec_Right_1_81a o0 o1 a0 Q) :
  Fun prog 218 #[.agg (encItem a0).toArray,.pointer (some ⟨b3,0,none⟩),.pointer (some ⟨b4,0,none⟩)] I [pto b3 (.cells #[.int .i64 o0] 3 (0,0)),pto b4 (.cells #[.int .i64 o1.N,.slice p5 o1.Items.length c6] 54 (0,0))] (fun I_ v l=>∃ r,v=.bool r.1∧l=[pto b3 (.cells #[.int .i64 r.2] 3 (0,0)),pto b4 (.cells #[.int .i64 o1.N,.slice p5 o1.Items.length c6] 54 (0,0))]∧Q r):=by
 refine Fun.enter (vs:=[.agg (encItem a0).toArray,.pointer (some ⟨b3,0,none⟩),.pointer (some ⟨b4,0,none⟩)]) func218 r ntmps218 r (.c (.c (.c .n))) fun w0 M=>?_
 refine .sr (.boxA r r r fun b=>?_)
 refine .ks 1 r (.nilS [3,2,1] r r (.sr (.fa un51 r sz3 r (o:=0) r r r (.load1 ia3 r .z r r r (.load1 ia3 r (.s .z) r r r (.ks 2 r ?_))))))
 refine splitP hd (fun a hd=>?_) fun a hd=>?_
 · rw [a]
   refine .ks 7 r (.nilS [5,3,2,1] r r (.sr (.fa un51 r sz3 r (o:=0) r r r (.load1 ia3 r .z r r r (.store1 sz3 r r (.s .z) (.t .nil) r (.nilS [5,2,1] r r (.drop .z (.sr (.ks 2 r ?_)))))))))
   exact .nilS [4,2,1] r r (.ret (oret results218 (.t r .n) (.refl _) (.c .z (.c .z .n)) ⟨(true,a0.At),r,r,hd⟩))
 rw [a]
 refine .gyes r r r (.fa un51 r sz3 r (o:=0) r r r (.gyes r r r (.load1 ia3 r .z r r r (.gyes r r r (.fa un54 r sz3 r (o:=0) r r r (.gyes r r r (.load1 ia3 r (.s (.s .z)) r r r (.ks 3 r (.nilS [5,3,2,1] r r (.sr (.fa un51 r sz3 r (o:=0) r r r (.load1 ia3 r .z r r r (.store1 sz3 r r (.s .z) (.t .nil) r ?_)))))))))))))
 exact .nilS [5,2,1] r r (.drop .z (.sr (.ks 2 r (.nilS [4,2,1] r r (.ret (oret results218 (.t r .n) (.refl _) (.c .z (.c .z .n)) ⟨(decide (o1.N≤a0.At),a0.At),r,r,hd⟩))))))
theorem W_slices_IndexFunc_api_Item_api_Item_a3e {I:IH} {o0:Int} {o1:Vec} {a0:List Item} {b3:Nat} {b4:Nat} {p5:Option Addr} {c6:Nat} {p8:Option Addr} {c9:Nat} {Q:(Int×Int)→Prop} (R7:RepSl eItem I p5 c6 o1.Items) (R10:RepSl eItem I p8 c9 a0) (hd:slices_IndexFunc_api_Item_api_Item_a3e o0 o1 a0 Q) :
  Fun prog 251 #[.slice p8 a0.length c9,.func (.func 218) #[] #[.pointer (some ⟨b3,0,none⟩),.pointer (some ⟨b4,0,none⟩)]] I [pto b3 (.cells #[.int .i64 o0] 3 (0,0)),pto b4 (.cells #[.int .i64 o1.N,.slice p5 o1.Items.length c6] 54 (0,0))] (fun I_ v l=>∃ r,v=.int .i64 r.1∧l=[pto b3 (.cells #[.int .i64 r.2] 3 (0,0)),pto b4 (.cells #[.int .i64 o1.N,.slice p5 o1.Items.length c6] 54 (0,0))]∧Q r):=by
 refine Fun.enter (vs:=[.slice p8 a0.length c9,.func (.func 218) #[] #[.pointer (some ⟨b3,0,none⟩),.pointer (some ⟨b4,0,none⟩)]]) func251 r ntmps251 r (.c (.c .n)) fun w0 M=>?_
 refine .sr (.ks 1 r (.nilS [1,0] r r (.seq (.sr (.ks 1 r (.len un52 r r r r (.ks 1 r (.nilS [8,7,1,0] r r (.block ?_)))))))))
 refine .loop hd (fun (s:Int×Int) c w=>match s with | (e,f)=>∃ I_,IH.le I I_∧Ok ⟨19,[],none⟩ [(0,.slice p8 a0.length c9),(1,.func (.func 218) #[] #[.pointer (some ⟨b3,0,none⟩),.pointer (some ⟨b4,0,none⟩)]),(7,.int .i64 (a0.length:Int)),(8,.int .i64 f)] c∧Sym w0 M I I_ [pto b3 (.cells #[.int .i64 e] 3 (0,0)),pto b4 (.cells #[.int .i64 o1.N,.slice p5 o1.Items.length c6] 54 (0,0))] w) (fun c w ho hs=>⟨I,(.refl _),ho.sub ⟨r,r,r,r,trivial⟩,hs.pick (.c .z (.c .z .n))⟩) ?_
 rintro ⟨e,f⟩ u hd c w hst
 obtain ⟨x,a,hok,hsym⟩:=hst
 replace R7:=R7.mono a
 replace R10:=R10.mono a
 refine Cod.at hok hsym (.sr (.ks 1 r (.nilS [9,8,7,1,0] r r (.seq (.condP r hd (fun k hd=>?_) fun k hd=>?_)))))
 · refine .skipS [8,7,1,0] r r (.seq (.block (.sr (.ks 2 r (.nilS [5,8,7,1,0] r r (.sr (.ks 3 r ?_)))))))
   obtain ⟨j,y,g,hd⟩:=hd
   obtain ⟨D,o70,C,A,d,m⟩:=R10.2 _ _ g
   cases m
   refine .ixa un52 sz51 r A r j (idx_lt g j) r r (.ldW isAgg51 sz51 d r r r r ?_)
   have o:=W_spvec_Right_1_81a (I:=x) (o0:=e) (o1:=o1) (a0:=y) (b3:=b3) (b4:=b4) (p5:=p5) (c6:=c6) R7 hd
   refine .callS (.c call218 r r) (.c .z (.c .z .n)) o r r fun E B F b p=>?_
   obtain ⟨h,rfl,rfl,hd⟩:=p
   have i:=IH.le.trans a b
   replace R7:=R7.mono b
   replace R10:=R10.mono b
   replace d:=d.mono b
   refine .re (m':=[pto b3 (.cells #[.int .i64 h.2] 3 (0,0)),pto b4 (.cells #[.int .i64 o1.N,.slice p5 o1.Items.length c6] 54 (0,0))]) r (.nilS [16,5,8,7,1,0] r r (.condP r hd (fun q hd=>?_) fun q hd=>?_))
   · exact .sr (.ks 2 r (.nilS [4,1] r r (.ret (oret results251 (.t r .n) i (.c .z (.c .z .n)) ⟨(f,h.2),r,r,hd⟩))))
   exact .skipS [8,7,1,0] r r (.region (.ks 2 r (.nil' fun c w ho hs=>⟨(h.2,w64 (f+1)),hd,B,i,ho.sub ⟨r,r,r,r,trivial⟩,hs.pick (.c .z (.c .z .n))⟩)))
 exact .exitS [1] r r (.sr (.ks 1 r (.nilS [4,1] r r (.ret (oret results251 (.t r .n) a (.c .z (.c .z .n)) ⟨((-1),e),r,r,hd⟩)))))
theorem W_slices_ContainsFunc_api_Item_api_Item_cd0 {I:IH} {o0:Int} {o1:Vec} {a0:List Item} {b3:Nat} {b4:Nat} {p5:Option Addr} {c6:Nat} {p8:Option Addr} {c9:Nat} {Q:(Bool×Int)→Prop} (R7:RepSl eItem I p5 c6 o1.Items) (R10:RepSl eItem I p8 c9 a0) (hd:slices_ContainsFunc_api_Item_api_Item_cd0 o0 o1 a0 Q) :
  Fun prog 217 #[.slice p8 a0.length c9,.func (.func 218) #[] #[.pointer (some ⟨b3,0,none⟩),.pointer (some ⟨b4,0,none⟩)]] I [pto b3 (.cells #[.int .i64 o0] 3 (0,0)),pto b4 (.cells #[.int .i64 o1.N,.slice p5 o1.Items.length c6] 54 (0,0))] (fun I_ v l=>∃ r,v=.bool r.1∧l=[pto b3 (.cells #[.int .i64 r.2] 3 (0,0)),pto b4 (.cells #[.int .i64 o1.N,.slice p5 o1.Items.length c6] 54 (0,0))]∧Q r):=by
 refine Fun.enter (vs:=[.slice p8 a0.length c9,.func (.func 218) #[] #[.pointer (some ⟨b3,0,none⟩),.pointer (some ⟨b4,0,none⟩)]]) func217 r ntmps217 r (.c (.c .n)) fun w0 M=>?_
 refine .sr (.ks 1 r (.nilS [1,0] r r (.sr (.ks 2 r ?_))))
 have d:=W_slices_IndexFunc_api_Item_api_Item_a3e (I:=I) (o0:=o0) (o1:=o1) (a0:=a0) (b3:=b3) (b4:=b4) (p5:=p5) (c6:=c6) R7 R10 hd
 refine .callS (.f call251 r) (.c .z (.c .z .n)) d r r fun g h i a e=>?_
 obtain ⟨b,rfl,rfl,hd⟩:=e
 replace R7:=R7.mono a
 replace R10:=R10.mono a
 exact .re (m':=[pto b3 (.cells #[.int .i64 b.2] 3 (0,0)),pto b4 (.cells #[.int .i64 o1.N,.slice p5 o1.Items.length c6] 54 (0,0))]) r (.ks 2 r (.nilS [4,1] r r (.ret (oret results217 (.t r .n) a (.c .z (.c .z .n)) ⟨(decide (0≤b.1),b.2),r,r,hd⟩))))
theorem W_spvec_Right {I:IH} {a0:Vec} {p1:Option Addr} {c2:Nat} {Q:Bool→Prop} (R3:RepSl eItem I p1 c2 a0.Items) (hd:spvec_Right a0 Q) :
  PFun prog 155 [.agg #[.int .i64 a0.N,.slice p1 a0.Items.length c2]] I (fun _=>o4_ Q):=by
 refine Fun.enter func155 r ntmps155 r (.c .n) fun w0 M=>?_
 refine .sr (.boxA r r r fun k=>?_)
 refine .ks 1 r (.nilS [1] r r (.seq (.sr (.fa un54 r sz3 r (o:=0) r r r (.load1 ia3 r .z r r r ?_)))))
 have e:=W_spvec_within (I:=I) hd
 refine .callP call216 r e r r fun l g=>?_
 obtain ⟨m,rfl,hd⟩:=g
 refine .ks 1 r (.nilS [7,1] r r (.condP r hd (fun h hd=>?_) fun h hd=>?_))
 · exact .sr (.ks 1 r (.nilS [2] r r (.drop .z (.ret (pret results155 (.t r .n) (.refl _) ⟨false,r,hd⟩)))))
 refine .skipS [1] r r (.sr (.alloc1 zv3 r r r fun b=>?_))
 refine .store1 sz3 r r .z (.t .nil) r (.nilS [3,1] r r (.sr (.fa un54 r sz52 r (o:=1) r r r (.load1 ia52 r (.s .z) r r r (.mkFn r r r r ?_)))))
 have i:=W_slices_ContainsFunc_api_Item_api_Item_cd0 (I:=I) (o0:=(-1)) (o1:=a0) (a0:=a0.Items) (b3:=b) (b4:=k) (p5:=p1) (c6:=c2) R3 R3 hd
 refine .callS (.f call217 r) (.c .z (.c .z .n)) i r r fun p q u a j=>?_
 obtain ⟨d,rfl,rfl,hd⟩:=j
 replace R3:=R3.mono a
 exact .re (m':=[pto b (.cells #[.int .i64 d.2] 3 (0,0)),pto k (.cells #[.int .i64 a0.N,.slice p1 a0.Items.length c2] 54 (0,0))]) r (.ks 2 r (.nilS [2] r r (.drop .z (.drop .z (.ret (pret results155 (.t r .n) a ⟨(!d.1),r,hd⟩))))))
theorem W_slices_Clone_int64_int64 {I:IH} {a0:List Int} {p1:Option Addr} {c2:Nat} {Q:(List Int)→Prop} (R3:RepSl eI64 I p1 c2 a0) (hd:slices_Clone_int64_int64 a0 Q) :
  PFun prog 156 [.slice p1 a0.length c2] I (o29_ Q):=by
 refine Fun.enter func156 r ntmps156 r (.c .n) fun w0 M=>?_
 refine .sr (.ks 1 r (.nilS [0] r r (.seq (.sr (.ks 1 r (.eqNilS un30 r r r r (.nilS [4,0] r r ?_)))))))
 refine split p1.isNone (fun a=>?_) (fun a=>?_)
 · have hd:=hd.1 (RepSl.ofNone R3 a)
   exact .condKT r a (.sr (.ks 1 r (.nilS [2] r r (.ret (pret results156 (.t r .n) (.refl _) ⟨([]:List Int),_,_,r,(.nil _ _ _),hd⟩)))))
 have hd:=hd.2
 refine .condKF r a (.skipS [0] r r (.sr (.buildSlice 0 un30 sz2 zv2 r r .n r r fun i=>?_)))
 refine .ks 1 r (.ownB (El:=eI64) (ys:=([]:List Int)) .z .nil r ?_)
 obtain ⟨b,hd⟩:=hd
 refine .append (ys:=a0) 8 .z un30 un30 IN2 r r r r r r r r r (.imm R3 r) b r r fun f g=>?_
 refine .ks 1 r (.nilS [2] r r (.pub .z fun h d e=>?_))
 exact .ret (pret results156 (.t r .n) d ⟨(([]:List Int)++a0),_,_,r,e,hd⟩)
theorem W_slices_Clone_uint64_uint64 {I:IH} {a0:List Int} {p1:Option Addr} {c2:Nat} {Q:(List Int)→Prop} (R3:RepSl eU64 I p1 c2 a0) (hd:slices_Clone_uint64_uint64 a0 Q) :
  PFun prog 157 [.slice p1 a0.length c2] I (o20_ Q):=by
 refine Fun.enter func157 r ntmps157 r (.c .n) fun w0 M=>?_
 refine .sr (.ks 1 r (.nilS [0] r r (.seq (.sr (.ks 1 r (.eqNilS un40 r r r r (.nilS [4,0] r r ?_)))))))
 refine split p1.isNone (fun a=>?_) (fun a=>?_)
 · have hd:=hd.1 (RepSl.ofNone R3 a)
   exact .condKT r a (.sr (.ks 1 r (.nilS [2] r r (.ret (pret results157 (.t r .n) (.refl _) ⟨([]:List Int),_,_,r,(.nil _ _ _),hd⟩)))))
 have hd:=hd.2
 refine .condKF r a (.skipS [0] r r (.sr (.buildSlice 0 un40 sz125 zeroValue125 r r .n r r fun i=>?_)))
 refine .ks 1 r (.ownB (El:=eU64) (ys:=([]:List Int)) .z .nil r ?_)
 obtain ⟨b,hd⟩:=hd
 refine .append (ys:=a0) 8 .z un40 un40 IN125 r r r r r r r r r (.imm R3 r) b r r fun f g=>?_
 refine .ks 1 r (.nilS [2] r r (.pub .z fun h d e=>?_))
 exact .ret (pret results157 (.t r .n) d ⟨(([]:List Int)++a0),_,_,r,e,hd⟩)
theorem W_flags_ones {I:IH} {a0:Int} {Q:Int→Prop}  (hd:flags_ones a0 Q) :
  PFun prog 236 [.int .u64 a0] I (fun _=>o0_ Q):=by
 refine Fun.enter func236 r ntmps236 r (.c .n) fun w0 M=>?_
 refine .sr (.ks 1 r (.nilS [0] r r (.scope (.sr (.ks 1 r (.nilS [3,0] r r (.seq (.labelS [3,0] r r (.seq ?_)))))))))
 refine .block (.loop hd (fun (s:Int×Int) c w=>match s with | (d,a)=>∃ I_,IH.le I I_∧Ok ⟨13,[],none⟩ [(0,.int .u64 d),(3,.int .i64 a)] c∧Sym w0 M I I_ [] w) (fun c w ho hs=>⟨I,(.refl _),ho.sub ⟨r,r,trivial⟩,hs.pick .n⟩) ?_)
 rintro ⟨d,a⟩ f hd c w hst
 obtain ⟨g,b,hok,hsym⟩:=hst
 refine Cod.at hok hsym (.block (.seq (.sr (.ks 2 r (.nilS [5,3,0] r r (.condP r hd (fun e hd=>?_) fun e hd=>?_))))))
 · exact .exitS [3] r r (.sr (.ks 2 r (.nilS [2] r r (.ret (pret results236 (.t r .n) b ⟨a,r,hd⟩)))))
 exact .skipS [3,0] r r (.sr (.ks 5 r (.nilS [0,3] r r (.region (.ks 3 r (.nil' fun c w ho hs=>⟨(bnd .u64 d (IntKind.wrap .u64 (d - 1)),w64 (a+1)),hd,g,b,ho.sub ⟨r,r,trivial⟩,hs.pick .n⟩))))))
theorem W_flags_Count {I:IH} {a0:List Int} {p1:Option Addr} {c2:Nat} {Q:Int→Prop} (R3:RepSl eU64 I p1 c2 a0) (hd:flags_Count a0 Q) :
  PFun prog 185 [.slice p1 a0.length c2] I (fun _=>o0_ Q):=by
 refine Fun.enter func185 r ntmps185 r (.c .n) fun w0 M=>?_
 refine .sr (.ks 1 r (.nilS [0] r r (.sr (.ks 1 r (.nilS [3,0] r r (.seq (.sr (.ks 1 r (.len un40 r r r r ?_)))))))))
 refine .ks 1 r (.nilS [8,7,6,3] r r (.block (.loop hd (fun (s:Int×Int) c w=>match s with | (b,d)=>∃ I_,IH.le I I_∧Ok ⟨18,[],none⟩ [(3,.int .i64 b),(6,.slice p1 a0.length c2),(7,.int .i64 (a0.length:Int)),(8,.int .i64 d)] c∧Sym w0 M I I_ [] w) (fun c w ho hs=>⟨I,(.refl _),ho.sub ⟨r,r,r,r,trivial⟩,hs.pick .n⟩) ?_)))
 rintro ⟨b,d⟩ o hd c w hst
 obtain ⟨f,a,hok,hsym⟩:=hst
 replace R3:=R3.mono a
 refine Cod.at hok hsym (.sr (.ks 1 r (.nilS [9,8,7,6,3] r r (.seq (.condP r hd (fun h hd=>?_) fun h hd=>?_)))))
 · refine .skipS [8,7,6,3] r r (.seq (.block (.sr ?_)))
   obtain ⟨g,v,e,hd⟩:=hd
   obtain ⟨x,o51,u,p,i,k⟩:=R3.2 _ _ e
   cases k
   refine .ixa un40 sz125 r p r g (idx_lt e g) r r (.ld1 (j:=0) ia125 i r r r r r (.ks 1 r (.nilS [5,8,7,6,3] r r (.region (.ks 2 r ?_)))))
   have l:=W_flags_ones (I:=f) hd
   refine .callP call236 r l r r fun y m=>?_
   obtain ⟨q,rfl,hd⟩:=m
   exact .ks 2 r (.nilS [3,8,7,6] r r (.region (.ks 2 r (.nil' fun c w ho hs=>⟨(w64 (b+q),w64 (d+1)),hd,f,a,ho.sub ⟨r,r,r,r,trivial⟩,hs.pick .n⟩))))
 exact .exitS [3] r r (.sr (.ks 2 r (.nilS [2] r r (.ret (pret results185 (.t r .n) a ⟨b,r,hd⟩)))))
theorem W_prog_Live {I:IH} {a0:Plan} {a1:State} {a2:Int} {p1:Option Addr} {c2:Nat} {p4:Option Addr} {c5:Nat} {p7:Option Addr} {c8:Nat} {p10:Option Addr} {c11:Nat} {Q:Int→Prop} (R3:RepSl eI64 I p1 c2 a0.Draws) (R6:RepSl eI64 I p4 c5 a1.A) (R9:RepSl eI64 I p7 c8 a1.B) (R12:RepSl eU64 I p10 c11 a1.On) (hd:prog_Live a0 a1 a2 Q) :
  PFun prog 116 [.agg #[.int .i64 a0.Kind,.int .i64 a0.N,.int .i64 a0.Source,.int .i64 a0.Length,.slice p1 a0.Draws.length c2],.agg #[.int .i64 a1.Low,.int .i64 a1.High,.slice p4 a1.A.length c5,.slice p7 a1.B.length c8,.slice p10 a1.On.length c11],.int .i64 a2] I (fun _=>o0_ Q):=by
 refine Fun.enter func116 r ntmps116 r (.c (.c (.c .n))) fun w0 M=>?_
 refine .sr (.boxA r r r fun X=>?_)
 refine .boxA r r r fun Y=>?_
 refine .ks 1 r (.nilS [4,3,2] r r (.sr (.loadW ia49 sz49 r (.s .z) r r r (.loadW ia42 sz42 r .z r r r ?_))))
 have y:=W_prog_sure (I:=I) R3 R6 R9 R12 hd
 refine .call call151 r y r r fun Z e a C=>?_
 obtain ⟨q,P,R,a3,a4,a5,a6,rfl,h,a7,u,hd⟩:=C
 replace R3:=R3.mono a
 replace R6:=R6.mono a
 replace R9:=R9.mono a
 replace R12:=R12.mono a
 refine .storeA sz42 r r .z (.t (.t (.t (.t (.t .nil))))) r r (.nilS [4,3,2] r r (.seq (.sr (.fa un49 r sz47 r (o:=0) r r r (.load1 ia47 r (.s .z) r r r (.nilS [14,4,3,2] r r (.block (.sr (.ks 2 r ?_)))))))))
 refine .nilS [15,14,4,3,2] r r (.condP r hd (fun D hd=>?_) fun D hd=>?_)
 · refine .sr (.ks 1 r (.fa un49 r sz3 r (o:=3) r r r (.load1 ia3 r (.s .z) r r r (.ks 1 r (.nilS [20,4] r r (.drop (.s .z) (.condP r hd (fun E hd=>?_) fun E hd=>?_)))))))
   · exact .sr (.ks 1 r (.nilS [6] r r (.drop .z (.ret (pret results116 (.t r .n) a ⟨0,r,hd⟩)))))
   refine .skipS [4] r r (.sr (.fa un42 r sz40 r (o:=4) r r r (.load1 ia40 r .z r r r ?_)))
   have F:=W_flags_Count (I:=e) u hd
   refine .callP call185 r F r r fun a8 G=>?_
   obtain ⟨S,rfl,hd⟩:=G
   exact .ks 1 r (.nilS [6] r r (.drop .z (.ret (pret results116 (.t r .n) a ⟨S,r,hd⟩))))
 refine .sr (.ks 2 r (.nilS [21,4] r r (.drop (.s .z) (.condP r hd (fun H hd=>?_) fun H hd=>?_))))
 · refine .sr (.ks 1 r (.nilS [7,4] r r (.seq (.sr (.fa un42 r sz30 r (o:=2) r r r (.load1 ia30 r .z r r r (.len un30 r r r r (.ks 1 r (.nilS [26,25,24,7] r r ?_)))))))))
   refine .drop .z (.block (.loop hd (fun (s:Int×Int) c w=>match s with | (d,f)=>∃ I_,IH.le e I_∧Ok ⟨39,[],none⟩ [(7,.int .i64 d),(24,.slice P q.A.length R),(25,.int .i64 (q.A.length:Int)),(26,.int .i64 f)] c∧Sym w0 M I I_ [] w) (fun c w ho hs=>⟨e,(.refl _),ho.sub ⟨r,r,r,r,trivial⟩,hs.pick .n⟩) ?_))
   rintro ⟨d,f⟩ T hd c w hst
   obtain ⟨v,b,hok,hsym⟩:=hst
   have J:=IH.le.trans a b
   replace h:=h.mono b
   refine Cod.at hok hsym (.sr (.ks 1 r (.nilS [27,26,25,24,7] r r (.seq (.condP r hd (fun K hd=>?_) fun K hd=>?_)))))
   · refine .skipS [26,25,24,7] r r (.seq (.block (.sr ?_)))
     obtain ⟨x,a9,g,hd⟩:=hd
     obtain ⟨V,o102,U,L,i,k⟩:=h.2 _ _ g
     cases k
     refine .ixa un30 sz2 r L r x (idx_lt g x) r r (.ld1 (j:=0) ia2 i r r r r r (.ks 1 r (.nilS [9,26,25,24,7] r r (.sr (.ks 2 r (.nilS [31,26,25,24,7] r r (.condP r hd (fun l hd=>?_) fun l hd=>?_)))))))
     · exact .region (.ks 3 r (.nilS [7,26,25,24] r r (.region (.ks 2 r (.nil' fun c w ho hs=>⟨(w64 (d+1),w64 (f+1)),hd,v,b,ho.sub ⟨r,r,r,r,trivial⟩,hs.pick .n⟩)))))
     exact .skipS [26,25,24,7] r r (.region (.ks 2 r (.nil' fun c w ho hs=>⟨(d,w64 (f+1)),hd,v,b,ho.sub ⟨r,r,r,r,trivial⟩,hs.pick .n⟩)))
   exact .exitS [7] r r (.sr (.ks 2 r (.nilS [6] r r (.ret (pret results116 (.t r .n) J ⟨d,r,hd⟩)))))
 refine .skipS [4] r r (.sr (.fa un42 r sz40 r (o:=4) r r r (.load1 ia40 r .z r r r ?_)))
 have m:=W_flags_Count (I:=e) u hd
 refine .callP call185 r m r r fun W p=>?_
 obtain ⟨O,rfl,hd⟩:=p
 exact .ks 1 r (.nilS [6] r r (.drop .z (.ret (pret results116 (.t r .n) a ⟨O,r,hd⟩))))
theorem W_ref07_SameVals {I:IH} {a0:List Int} {a1:List Int} {p1:Option Addr} {c2:Nat} {p4:Option Addr} {c5:Nat} {Q:Bool→Prop} (R3:RepSl eI64 I p1 c2 a0) (R6:RepSl eI64 I p4 c5 a1) (hd:ref07_SameVals a0 a1 Q) :
  PFun prog 67 [.slice p1 a0.length c2,.slice p4 a1.length c5] I (fun _=>o4_ Q):=by
 refine Fun.enter func67 r ntmps67 r (.c (.c .n)) fun w0 M=>?_
 refine .sr (.ks 1 r (.nilS [1,0] r r (.seq (.sr (.ks 1 r (.len un30 r r r r (.ks 1 r (.len un30 r r r r (.ks 1 r ?_)))))))))
 refine .nilS [10,1,0] r r (.condP r hd (fun q hd=>?_) fun q hd=>?_)
 · exact .sr (.ks 1 r (.nilS [4] r r (.ret (pret results67 (.t r .n) (.refl _) ⟨false,r,hd⟩))))
 refine .skipS [1,0] r r (.seq (.sr (.ks 1 r (.nilS [5,1,0] r r (.block (.loop hd (fun (b:Int) c w=>∃ I_,IH.le I I_∧Ok ⟨26,[],none⟩ [(0,.slice p1 a0.length c2),(1,.slice p4 a1.length c5),(5,.int .i64 b)] c∧Sym w0 M I I_ [] w) (fun c w ho hs=>⟨I,(.refl _),ho.sub ⟨r,r,r,trivial⟩,hs.pick .n⟩) ?_))))))
 rintro b s hd c w hst
 obtain ⟨u,a,hok,hsym⟩:=hst
 replace R3:=R3.mono a
 replace R6:=R6.mono a
 refine Cod.at hok hsym (.seq (.sr (.ks 2 r (.len un30 r r r r (.ks 1 r (.nilS [14,5,1,0] r r (.condP r hd (fun i hd=>?_) fun i hd=>?_)))))))
 · refine .skipS [5,1,0] r r (.seq (.block (.seq (.dr [0,1,2,3,4,5,6,7,8] 9 (.fk 2 r ?_)))))
   obtain ⟨f,A,d,hd⟩:=hd
   obtain ⟨B,o64,y,v,k,l⟩:=R3.2 _ _ d
   cases l
   refine .g r r r (fun _=>.ixa un30 sz2 r v r f (idx_lt d f) r r .mk) (.g r r r (fun _=>.ld1 (j:=0) ia2 k r r r r r .mk) (.fk 2 r ?_))
   obtain ⟨h,C,e,hd⟩:=hd
   obtain ⟨D,o73,z,x,m,o⟩:=R6.2 _ _ e
   cases o
   refine .g r r r (fun _=>.ixa un30 sz2 r x r h (idx_lt e h) r r .mk) (.g r r r (fun _=>.ld1 (j:=0) ia2 m r r r r r .mk) (.fk 1 r (.e2 9 (.nilS [25,5,1,0] r r (.condP r hd (fun p hd=>?_) fun p hd=>?_)))))
   · exact .sr (.ks 1 r (.nilS [4] r r (.ret (pret results67 (.t r .n) a ⟨false,r,hd⟩))))
   exact .skipS [5,1,0] r r (.region (.ks 3 r (.nil' fun c w ho hs=>⟨(w64 (b+1)),hd,u,a,ho.sub ⟨r,r,r,trivial⟩,hs.pick .n⟩)))
 exact .exitS [] r r (.sr (.ks 1 r (.nilS [4] r r (.ret (pret results67 (.t r .n) a ⟨true,r,hd⟩)))))
theorem W_spvec_sure {I:IH} {a0:Vec} {p1:Option Addr} {c2:Nat} {Q:Vec→Prop} (R3:RepSl eItem I p1 c2 a0.Items) (hd:spvec_sure a0 Q) :
  PFun prog 219 [.agg #[.int .i64 a0.N,.slice p1 a0.Items.length c2]] I (o19_ Q):=by
 refine Fun.enter func219 r ntmps219 r (.c .n) fun w0 M=>?_
 refine .sr (.boxA r r r fun e=>?_)
 refine .allocA zv54 r r fun f=>?_
 refine .nilS [2,1] r r (.seq (.sr (.loadW ia54 sz54 r (.s .z) r r r ?_)))
 have a:=W_spvec_Right (I:=I) R3 hd
 refine .callP call155 r a r r fun g b=>?_
 obtain ⟨h,rfl,hd⟩:=b
 refine .nilS [4,2,1] r r (.condP r hd (fun d hd=>?_) fun d hd=>?_)
 · exact .sr (.loadW ia54 sz54 r (.s .z) r r r (.storeA sz54 r r .z (.t (.t .nil)) r r (.nilS [2] r r (.drop (.s .z) (.ret (pret results219 (.w ia54 sz54 r .z r .n) (.refl _) ⟨a0,_,_,r,R3,hd⟩))))))
 exact .skipS [2] r r (.drop (.s .z) (.sr (.build zv54 un54 BI54 .n (by exact trivial) r r (.storeA sz54 r r .z (.t (.t .nil)) r r (.nilS [2] r r (.ret (pret results219 (.w ia54 sz54 r .z r .n) (.refl _) ⟨({ N:=0,Items:=([]:List Item) }:Vec),_,_,r,(.nil _ _ _),hd⟩)))))))
theorem W_spvec_order_7ac {I:IH} {a0:Item} {a1:Int} {Q:Int→Prop}  (hd:spvec_order_7ac a0 a1 Q) :
  Fun prog 253 #[.agg (encItem a0).toArray,.int .i64 a1] I [] (fun I_ v l=>∃ r,v=.int .i64 r∧l=[]∧Q r):=by
 refine Fun.enter (vs:=[.agg (encItem a0).toArray,.int .i64 a1]) func253 r ntmps253 r (.c (.c .n)) fun w0 M=>?_
 refine .sr (.boxA r r r fun e=>?_)
 refine .ks 1 r (.nilS [2,1] r r (.sr (.fa un51 r sz3 r (o:=0) r r r (.load1 ia3 r .z r r r (.ks 1 r ?_)))))
 have a:=W_cmp_Compare_int (I:=I) hd
 refine .callP call232 r a r r fun f b=>?_
 obtain ⟨d,rfl,hd⟩:=b
 exact .ks 1 r (.nilS [4] r r (.drop .z (.ret (oret results253 (.t r .n) (.refl _) .n ⟨d,r,r,hd⟩))))
theorem W_slices_BinarySearchFunc_api_Item_api_Item_int_8a3 {I:IH} {a0:List Item} {a1:Int} {p1:Option Addr} {c2:Nat} {Q:(Int×Bool)→Prop} (R3:RepSl eItem I p1 c2 a0) (hd:slices_BinarySearchFunc_api_Item_api_Item_int_8a3 a0 a1 Q) :
  Fun prog 252 #[.slice p1 a0.length c2,.int .i64 a1,.func (.func 253) #[] #[]] I [] (fun I_ v l=>∃ r,v=.tuple #[.int .i64 r.1,.bool r.2]∧l=[]∧Q r):=by
 refine Fun.enter (vs:=[.slice p1 a0.length c2,.int .i64 a1,.func (.func 253) #[] #[]]) func252 r ntmps252 r (.c (.c (.c .n))) fun w0 M=>?_
 refine .sr (.ks 2 r (.nilS [2,1,0] r r (.sr (.ks 1 r (.len un52 r r r r (.ks 1 r (.nilS [8,2,1,0] r r (.sr (.ks 3 r ?_)))))))))
 refine .nilS [10,9,8,2,1,0] r r (.seq (.block (.loop hd (fun (s:Int×Int) c w=>match s with | (a,d)=>∃ I_,IH.le I I_∧Ok ⟨49,[],none⟩ [(0,.slice p1 a0.length c2),(1,.int .i64 a1),(2,.func (.func 253) #[] #[]),(8,.int .i64 (a0.length:Int)),(9,.int .i64 a),(10,.int .i64 d)] c∧Sym w0 M I I_ [] w) (fun c w ho hs=>⟨I,(.refl _),ho.sub ⟨r,r,r,r,r,r,trivial⟩,hs.pick .n⟩) ?_)))
 rintro ⟨a,d⟩ N hd c w hst
 obtain ⟨o,b,hok,hsym⟩:=hst
 replace R3:=R3.mono b
 refine Cod.at hok hsym (.seq (.sr (.ks 3 r (.nilS [17,10,9,8,2,1,0] r r (.condP r hd (fun x hd=>?_) fun x hd=>?_)))))
 · refine .skipS [10,9,8,2,1,0] r r (.block (.sr (.ks 3 r (.conv un3 underlying201 r r r (.shr' r r (by decide) r r (.conv underlying201 un3 r r r (.ks 1 r (.nilS [11,10,9,8,2,1,0] r r (.sr ?_)))))))))
   refine .ks 3 r ?_
   obtain ⟨p,G,j,hd⟩:=hd
   obtain ⟨R,o128,O,H,e,y⟩:=R3.2 _ _ j
   cases y
   refine .ixa un52 sz51 r H r p (idx_lt j p) r r (.ldW isAgg51 sz51 e r r r r (.ks 1 r ?_))
   have z:=W_spvec_order_7ac (I:=o) (a0:=G) (a1:=a1) hd
   refine .callS (.c call253 r r) .n z r r fun S q T f A=>?_
   obtain ⟨U,rfl,rfl,hd⟩:=A
   have k:=IH.le.trans b f
   replace R3:=R3.mono f
   replace e:=e.mono f
   refine .re (m':=[]) r (.ks 1 r (.nilS [31,11,10,9,8,2,1,0] r r (.condP r hd (fun B hd=>?_) fun B hd=>?_)))
   · exact .region (.ks 3 r (.nil' fun c w ho hs=>⟨(w64 ((w64 (shr .u64 (IntKind.wrap .u64 (w64 (a+d))) 1))+1),d),hd,q,k,ho.sub ⟨r,r,r,r,r,r,trivial⟩,hs.pick .n⟩))
   exact .region (.ks 2 r (.nil' fun c w ho hs=>⟨(a,w64 (shr .u64 (IntKind.wrap .u64 (w64 (a+d))) 1)),hd,q,k,ho.sub ⟨r,r,r,r,r,r,trivial⟩,hs.pick .n⟩))
 refine .exitS [9,8,2,1,0] r r (.sr (.ks 5 r ?_))
 refine splitP hd (fun g hd=>?_) fun g hd=>?_
 · rw [g]
   refine .ks 3 r ?_
   obtain ⟨u,J,m,hd⟩:=hd
   obtain ⟨V,o147,P,K,h,C⟩:=R3.2 _ _ m
   cases C
   refine .gyes r r r (.ixa un52 sz51 r K r u (idx_lt m u) r r (.gyes r r r (.ldW isAgg51 sz51 h r r r r (.ks 1 r ?_))))
   have D:=W_spvec_order_7ac (I:=o) (a0:=J) (a1:=a1) hd
   refine .gyes r r r (.callS (.c call253 r r) .n D r r fun W X Y i E=>?_)
   obtain ⟨L,rfl,rfl,hd⟩:=E
   have F:=IH.le.trans b i
   replace R3:=R3.mono i
   replace h:=h.mono i
   exact .re (m':=[]) r (.ks 4 r (.nilS [7,6,2] r r (.ret (oret results252 (.t r (.t r .n)) F .n ⟨(a,L==0),r,r,hd⟩))))
 rw [g]
 exact .ks 11 r (.nilS [7,6,2] r r (.ret (oret results252 (.t r (.t r .n)) b .n ⟨(a,false),r,r,hd⟩)))
theorem W_spvec_find {I:IH} {a0:Vec} {a1:Int} {p1:Option Addr} {c2:Nat} {Q:(Int×Bool)→Prop} (R3:RepSl eItem I p1 c2 a0.Items) (hd:spvec_find a0 a1 Q) :
  PFun prog 220 [.agg #[.int .i64 a0.N,.slice p1 a0.Items.length c2],.int .i64 a1] I (fun _=>o3_ Q):=by
 refine Fun.enter func220 r ntmps220 r (.c (.c .n)) fun w0 M=>?_
 refine .sr (.boxA r r r fun g=>?_)
 refine .ks 2 r (.nilS [2,1] r r (.sr (.fa un54 r sz52 r (o:=1) r r r (.load1 ia52 r .z r r r (.ks 1 r ?_)))))
 have d:=W_slices_BinarySearchFunc_api_Item_api_Item_int_8a3 (I:=I) (a0:=a0.Items) (a1:=a1) R3 hd
 refine .callS (.f call252 r) .n d r r fun h j i a e=>?_
 obtain ⟨b,rfl,rfl,hd⟩:=e
 replace R3:=R3.mono a
 exact .re (m':=[pto g (.cells #[.int .i64 a0.N,.slice p1 a0.Items.length c2] 54 (0,0))]) r (.ks 4 r (.nilS [5,4] r r (.drop .z (.ret (pret results220 (.t r (.t r .n)) a ⟨(b.1,b.2),r,hd⟩)))))
theorem W_spvec_Get {I:IH} {a0:Vec} {a1:Int} {p1:Option Addr} {c2:Nat} {Q:(Int×Bool)→Prop} (R3:RepSl eItem I p1 c2 a0.Items) (hd:spvec_Get a0 a1 Q) :
  PFun prog 160 [.agg #[.int .i64 a0.N,.slice p1 a0.Items.length c2],.int .i64 a1] I (fun _=>o3_ Q):=by
 refine Fun.enter func160 r ntmps160 r (.c (.c .n)) fun w0 M=>?_
 refine .sr (.boxA r r r fun D=>?_)
 refine .ks 2 r (.nilS [2,1] r r (.sr (.loadW ia54 sz54 r .z r r r ?_)))
 have f:=W_spvec_sure (I:=I) R3 hd
 refine .call call219 r f r r fun w p a g=>?_
 obtain ⟨x,y,A,rfl,d,hd⟩:=g
 replace R3:=R3.mono a
 refine .storeA sz54 r r .z (.t (.t .nil)) r r (.nilS [2,1] r r (.sr (.loadW ia54 sz54 r .z r r r (.ks 1 r ?_))))
 have h:=W_spvec_find (I:=p) d hd
 refine .callP call220 r h r r fun B i=>?_
 obtain ⟨q,rfl,hd⟩:=i
 refine .ks 5 r (.nilS [7,6,2] r r (.seq (.sr (.ks 2 r (.nilS [17,6,2] r r (.condP r hd (fun k hd=>?_) fun k hd=>?_))))))
 · exact .sr (.ks 2 r (.nilS [5,4] r r (.drop .z (.ret (pret results160 (.t r (.t r .n)) a ⟨(0,false),r,hd⟩)))))
 refine .skipS [6,2] r r (.sr (.fa un54 r sz52 r (o:=1) r r r (.load1 ia52 r .z r r r (.ks 1 r ?_))))
 obtain ⟨e,s,b,hd⟩:=hd
 obtain ⟨C,o41,v,u,l,m⟩:=d.2 _ _ b
 cases m
 exact .ixa un52 sz51 r u r e (idx_lt b e) r r (.fa un51 r sz2 r (o:=o41+q.1.toNat*2+1) r r r (.ld1 (j:=1) ia2 l r r r r r (.ks 2 r (.nilS [5,4] r r (.drop .z (.ret (pret results160 (.t r (.t r .n)) a ⟨(s.Val,true),r,hd⟩)))))))
theorem W_prog_behind {I:IH} {a0:Plan} {a1:State} {a2:Int} {a3:Int} {a4:Int} {a5:Bool} {p1:Option Addr} {c2:Nat} {p4:Option Addr} {c5:Nat} {p7:Option Addr} {c8:Nat} {p10:Option Addr} {c11:Nat} {Q:(Int×Int×Bool)→Prop} (R3:RepSl eI64 I p1 c2 a0.Draws) (R6:RepSl eI64 I p4 c5 a1.A) (R9:RepSl eI64 I p7 c8 a1.B) (R12:RepSl eU64 I p10 c11 a1.On) (hd:prog_behind a0 a1 a2 a3 a4 a5 Q) :
  PFun prog 161 [.agg #[.int .i64 a0.Kind,.int .i64 a0.N,.int .i64 a0.Source,.int .i64 a0.Length,.slice p1 a0.Draws.length c2],.agg #[.int .i64 a1.Low,.int .i64 a1.High,.slice p4 a1.A.length c5,.slice p7 a1.B.length c8,.slice p10 a1.On.length c11],.int .i64 a2,.int .i64 a3,.int .i64 a4,.bool a5] I (fun I_ v=>∃ r,v=.tuple #[.int .i64 r.1,.int .i64 r.2.1,.bool r.2.2]∧Q r):=by
 refine Fun.enter func161 r ntmps161 r (.c (.c (.c (.c (.c (.c .n)))))) fun w0 M=>?_
 refine .sr (.boxA r r r fun p=>?_)
 refine .boxA r r r fun q=>?_
 refine .ks 3 r (.nilS [7,6,5,4,3,2] r r (.seq (.dr [0,1,2,3,4,5,6,7,8,9,10] 11 (.g r r r (fun _=>.fa un42 r sz30 r (o:=2) r r r .mk) (.g r r r (fun _=>.load1 ia30 r .z r r r .mk) (.fk 1 r ?_))))))
 obtain ⟨C,f,u,hd⟩:=hd
 obtain ⟨b3,o43,b1,a9,H,J⟩:=R6.2 _ _ u
 cases J
 refine .g r r r (fun _=>.ixa un30 sz2 r a9 r C (idx_lt u C) r r .mk) (.g r r r (fun _=>.ld1 (j:=0) ia2 H r r r r r .mk) (.g r r r (fun _=>.fa un42 r sz30 r (o:=3) r r r .mk) (.g r r r (fun _=>.load1 ia30 r .z r r r .mk) (.fk 1 r ?_))))
 obtain ⟨D,d,x,hd⟩:=hd
 obtain ⟨b4,o52,b2,b0,K,L⟩:=R9.2 _ _ x
 cases L
 refine .g r r r (fun _=>.ixa un30 sz2 r b0 r D (idx_lt x D) r r .mk) (.g r r r (fun _=>.ld1 (j:=0) ia2 K r r r r r .mk) (.fk 1 r (.e2 11 (.ks 1 r (.nilS [16,15,7,6,5,4,3,2] r r (.seq (.sr (.fa un49 r sz47 r (o:=0) r r r (.load1 ia47 r (.s .z) r r r ?_)))))))))
 refine .nilS [28,16,15,7,6,5,4,3,2] r r (.block (.sr (.ks 2 r (.nilS [29,28,16,15,7,6,5,4,3,2] r r (.condP r hd (fun O hd=>?_) fun O hd=>?_)))))
 · refine .sr (.ks 2 r ?_)
   refine splitP hd (fun k hd=>?_) fun k hd=>?_
   · rw [k]
     refine .ks 3 r (.nilS [35,16,15,4,2] r r (.drop .z (.drop .z (.condP r hd (fun P hd=>?_) fun P hd=>?_))))
     · exact .sr (.ks 5 r (.nilS [14,13,12] r r (.ret (pret results161 (.t r (.t r (.t r .n))) (.refl _) ⟨(a2,a4,true),r,hd⟩))))
     exact .skipS [16,15] r r (.sr (.ks 5 r (.nilS [14,13,12] r r (.ret (pret results161 (.t r (.t r (.t r .n))) (.refl _) ⟨(f,d,false),r,hd⟩)))))
   rw [k]
   exact .ks 3 r (.nilS [35,16,15,4,2] r r (.drop .z (.drop .z (.condKF r r (.skipS [16,15] r r (.sr (.ks 5 r (.nilS [14,13,12] r r (.ret (pret results161 (.t r (.t r (.t r .n))) (.refl _) ⟨(f,d,false),r,hd⟩))))))))))
 refine .seq ?_
 refine Cod.joinQ (σ:=Bool) hd (fun (E:Bool) c w=>∃ I_,IH.le I I_∧Ok ⟨91,[],none⟩ [(2,.int .i64 a2),(3,.int .i64 a3),(4,.int .i64 a4),(5,.bool a5),(6,.pointer (some ⟨p,0,none⟩)),(7,.pointer (some ⟨q,0,none⟩)),(15,.int .i64 f),(16,.int .i64 d),(28,.int .i64 a0.Kind),(38,.bool E)] c∧Sym w0 M I I_ [pto p (.cells #[.int .i64 a0.Kind,.int .i64 a0.N,.int .i64 a0.Source,.int .i64 a0.Length,.slice p1 a0.Draws.length c2] 49 (0,0)),pto q (.cells #[.int .i64 a1.Low,.int .i64 a1.High,.slice p4 a1.A.length c5,.slice p7 a1.B.length c8,.slice p10 a1.On.length c11] 42 (0,0))] w) (fun b5 hd=>?_) ?_
 · skip
   refine .sr (.ks 2 r (.nilS [38,28,16,15,7,6,5,4,3,2] r r (.condP r hd (fun R hd=>?_) fun R hd=>?_)))
   · exact .skip' fun c w ho hs=>⟨(a0.Kind==2),hd,I,(.refl _),ho.sub ⟨r,r,r,r,r,r,r,r,r,r,trivial⟩,hs.pick (.c (.s .z) (.c .z .n))⟩
   exact .region (.ks 2 r (.nil' fun c w ho hs=>⟨(a0.Kind==3),hd,I,(.refl _),ho.sub ⟨r,r,r,r,r,r,r,r,r,r,trivial⟩,hs.pick (.c (.s .z) (.c .z .n))⟩))
 rintro E hd c w hst
 obtain ⟨y,e,hok,hsym⟩:=hst
 replace R3:=R3.mono e
 replace R6:=R6.mono e
 replace R9:=R9.mono e
 replace R12:=R12.mono e
 refine Cod.at hok hsym (.condP r hd (fun S hd=>?_) fun S hd=>?_)
 · refine .sr (.ks 2 r ?_)
   refine splitP hd (fun l hd=>?_) fun l hd=>?_
   · rw [l]
     refine .ks 4 r (.nilS [46,16,15,4] r r (.drop .z (.drop .z (.condP r hd (fun T hd=>?_) fun T hd=>?_))))
     · exact .sr (.ks 5 r (.nilS [14,13,12] r r (.ret (pret results161 (.t r (.t r (.t r .n))) e ⟨(a4,d,true),r,hd⟩))))
     exact .skipS [16,15] r r (.sr (.ks 5 r (.nilS [14,13,12] r r (.ret (pret results161 (.t r (.t r (.t r .n))) e ⟨(f,d,false),r,hd⟩)))))
   rw [l]
   exact .ks 4 r (.nilS [46,16,15,4] r r (.drop .z (.drop .z (.condKF r r (.skipS [16,15] r r (.sr (.ks 5 r (.nilS [14,13,12] r r (.ret (pret results161 (.t r (.t r (.t r .n))) e ⟨(f,d,false),r,hd⟩))))))))))
 refine .sr (.ks 2 r (.nilS [49,28,16,15,7,6,5,4,3,2] r r (.condP r hd (fun U hd=>?_) fun U hd=>?_)))
 · exact .sr (.ks 7 r (.nilS [14,13,12] r r (.drop .z (.drop .z (.ret (pret results161 (.t r (.t r (.t r .n))) e ⟨(a4,d,a4 != 0),r,hd⟩))))))
 refine .sr (.ks 2 r (.nilS [55,16,15,7,6,5,4,3,2] r r (.condP r hd (fun V hd=>?_) fun V hd=>?_)))
 · refine .block (.sr (.ks 3 r (.nilS [57,16,15,7,6,5,4,3,2] r r (.condP r hd (fun W hd=>?_) fun W hd=>?_))))
   · exact .skipS [16,15] r r (.drop .z (.drop .z (.sr (.ks 5 r (.nilS [14,13,12] r r (.ret (pret results161 (.t r (.t r (.t r .n))) e ⟨(f,d,false),r,hd⟩)))))))
   refine .seq ?_
   refine Cod.joinQ (σ:=Bool) hd (fun (F:Bool) c w=>∃ I_,IH.le y I_∧Ok ⟨91,[],none⟩ [(2,.int .i64 a2),(3,.int .i64 a3),(4,.int .i64 a4),(5,.bool a5),(6,.pointer (some ⟨p,0,none⟩)),(7,.pointer (some ⟨q,0,none⟩)),(15,.int .i64 f),(16,.int .i64 d),(60,.bool F)] c∧Sym w0 M I I_ [pto p (.cells #[.int .i64 a0.Kind,.int .i64 a0.N,.int .i64 a0.Source,.int .i64 a0.Length,.slice p1 a0.Draws.length c2] 49 (0,0)),pto q (.cells #[.int .i64 a1.Low,.int .i64 a1.High,.slice p4 a1.A.length c5,.slice p7 a1.B.length c8,.slice p10 a1.On.length c11] 42 (0,0))] w) (fun b6 hd=>?_) ?_
   · skip
     refine .region (.ks 4 r ?_)
     refine splitP hd (fun m hd=>?_) fun m hd=>?_
     · rw [m]
       exact .ks 3 r (.nil' fun c w ho hs=>⟨a5,hd,y,(.refl _),ho.sub ⟨r,r,r,r,r,r,r,r,r,trivial⟩,hs.pick (.c .z (.c .z .n))⟩)
     rw [m]
     exact .ks 3 r (.nil' fun c w ho hs=>⟨false,hd,y,(.refl _),ho.sub ⟨r,r,r,r,r,r,r,r,r,trivial⟩,hs.pick (.c .z (.c .z .n))⟩)
   rintro F hd c w hst
   obtain ⟨G,h,hok,hsym⟩:=hst
   have i:=IH.le.trans e h
   replace R3:=R3.mono h
   replace R6:=R6.mono h
   replace R9:=R9.mono h
   replace R12:=R12.mono h
   refine Cod.at hok hsym (.condP r hd (fun X hd=>?_) fun X hd=>?_)
   · exact .sr (.ks 4 r (.nilS [14,13,12] r r (.drop .z (.drop .z (.ret (pret results161 (.t r (.t r (.t r .n))) i ⟨(2,d,false),r,hd⟩))))))
   refine .seq (.dr [0,1,2,3,4,5,6,7,8,9,11,12,13,14,10,15,16,17,18,19] 20 (.fk 4 r ?_))
   refine splitP hd (fun b hd=>?_) fun b hd=>?_
   · refine .g r r r (fun _=>.gyes r r b (.move r r r .mk)) (.g r r r (fun _=>.gyes r r b (.not r r r .mk)) (.g r r r (fun _=>.gyes r r b (.move r r r .mk)) ?_))
     refine splitP hd (fun a hd=>?_) fun a hd=>?_
     · refine .g r r r (fun _=>.gno r r a r r .mk) (.g r r r (fun _=>.gno r r a r r .mk) (.g r r r (fun _=>.gno r r a r r .mk) (.g r r r (fun _=>.gno r r a r r .mk) (.g r r r (fun _=>.gno r r a r r .mk) (.g r r r (fun _=>.gno r r a r r .mk) (.g r r r (fun _=>.gno r r a r r .mk) (.g r r r (fun _=>.gno r r a r r .mk) (.g r r r (fun _=>.gno r r a r r .mk) (.g r r r (fun _=>.gno r r a r r .mk) ?_)))))))))
       refine .g r r r (fun _=>.gyes r r b (.pickT r a r r r .mk)) (.g r r r (fun _=>.pickT r b r r r .mk) (.fk 1 r (.e2 20 (.nilS [68,16,15] r r (.drop .z (.drop .z (.condKT r r (.sr (.ks 4 r ?_)))))))))
       exact .nilS [14,13,12] r r (.ret (pret results161 (.t r (.t r (.t r .n))) i ⟨(1,d,true),r,hd⟩))
     refine .g r r r (fun _=>.gyes r r a (.move r r r .mk)) (.g r r r (fun _=>.gyes r r a (.loadW ia49 sz49 r .z r r r .mk)) (.g r r r (fun _=>.gyes r r a (.move r r r .mk)) (.g r r r (fun _=>.gyes r r a (.fa un42 r sz3 r (o:=0) r r r .mk)) (.g r r r (fun _=>.gyes r r a (.load1 ia3 r (.s .z) r r r .mk)) (.g r r r (fun _=>.gyes r r a (.move r r r .mk)) (.g r r r (fun _=>.gyes r r a (.add r r r r .mk)) (.ww r fun ex=>?_)))))))
     have Y:=W_prog_draw (I:=G) hd
     refine .gyes r r a (.callP call222 r Y r r fun b7 Z=>?_)
     obtain ⟨b8,rfl,hd⟩:=Z
     refine .so 2 r r r (.cg r r r r (fun _=>.gyes r r a (.add r r r r .mk)) (.cg r r r r (fun _=>.gyes r r a (.move r r r .mk)) (.cg r r r r (fun _=>.gyes r r a (.load1 ia3 r (.s .z) r r r .mk)) (.cg r r r r (fun _=>.gyes r r a (.fa un42 r sz3 r (o:=0) r r r .mk)) (.cg r r r r (fun _=>.gyes r r a (.loadW ia49 sz49 r .z r r r .mk)) (.cg r r r r (fun _=>.gyes r r a (.move r r r .mk)) trivial)))))) (.ww r fun ex=>?_)
     have a6:=W_prog_number (I:=G) R3 hd
     refine .gyes r r a (.callP call221 r a6 r r fun b9 a7=>?_)
     obtain ⟨c0,rfl,hd⟩:=a7
     refine .so 2 r r r (.cg r r r r (fun _=>.gyes r r a (.move r r r .mk)) trivial) (.g r r r (fun _=>.gyes r r a (.gt r r r r .mk)) (.g r r r (fun _=>.gyes r r b (.pickF r a r r r .mk)) (.g r r r (fun _=>.pickT r b r r r .mk) (.fk 1 r (.e2 20 (.nilS [68,16,15] r r (.drop .z (.drop .z (.condP r hd (fun a8 hd=>?_) fun a8 hd=>?_)))))))))
     · exact .sr (.ks 4 r (.nilS [14,13,12] r r (.ret (pret results161 (.t r (.t r (.t r .n))) i ⟨(1,d,true),r,hd⟩))))
     exact .skipS [16,15] r r (.sr (.ks 5 r (.nilS [14,13,12] r r (.ret (pret results161 (.t r (.t r (.t r .n))) i ⟨(f,d,false),r,hd⟩)))))
   refine .g r r r (fun _=>.gno r r b r r .mk) (.g r r r (fun _=>.gno r r b r r .mk) (.g r r r (fun _=>.gno r r b r r .mk) (.fk 10 r (.g r r r (fun _=>.gno r r b r r .mk) (.g r r r (fun _=>.pickF r b r r r .mk) (.fk 1 r (.e2 20 (.nilS [68,16,15] r r (.drop .z ?_)))))))))
   exact .drop .z (.condKF r r (.skipS [16,15] r r (.sr (.ks 5 r (.nilS [14,13,12] r r (.ret (pret results161 (.t r (.t r (.t r .n))) i ⟨(f,d,false),r,hd⟩)))))))
 exact .skipS [16,15] r r (.drop .z (.drop .z (.sr (.ks 5 r (.nilS [14,13,12] r r (.ret (pret results161 (.t r (.t r (.t r .n))) e ⟨(f,d,false),r,hd⟩)))))))
theorem W_prog_first {I:IH} {a0:Plan} {a1:Int} {p1:Option Addr} {c2:Nat} {Q:(Int×Bool)→Prop} (R3:RepSl eI64 I p1 c2 a0.Draws) (hd:prog_first a0 a1 Q) :
  PFun prog 184 [.agg #[.int .i64 a0.Kind,.int .i64 a0.N,.int .i64 a0.Source,.int .i64 a0.Length,.slice p1 a0.Draws.length c2],.int .i64 a1] I (fun _=>o3_ Q):=by
 refine Fun.enter func184 r ntmps184 r (.c (.c .n)) fun w0 M=>?_
 refine .sr (.boxA r r r fun i=>?_)
 refine .ks 2 r (.nilS [2,1] r r (.sr (.ks 1 r (.fa un49 r sz3 r (o:=2) r r r (.load1 ia3 r .z r r r (.ks 2 r (.nilS [6,2,1] r r (.seq (.block ?_)))))))))
 refine .sr (.fa un49 r sz47 r (o:=0) r r r (.load1 ia47 r .z r r r (.ks 2 r (.nilS [11,6,2,1] r r (.condP r hd (fun q hd=>?_) fun q hd=>?_)))))
 · exact .sr (.ks 3 r (.nilS [5,4] r r (.drop .z (.ret (pret results184 (.t r (.t r .n)) (.refl _) ⟨(a1,true),r,hd⟩)))))
 refine .sr (.fa un49 r sz47 r (o:=0) r r r (.load1 ia47 r .z r r r (.ks 2 r (.nilS [16,6,2] r r (.condP r hd (fun u hd=>?_) fun u hd=>?_)))))
 · exact .sr (.ks 2 r (.nilS [5,4] r r (.drop .z (.ret (pret results184 (.t r (.t r .n)) (.refl _) ⟨(0,false),r,hd⟩)))))
 refine .seq ?_
 refine Cod.joinQ (σ:=Bool) hd (fun (j:Bool) c w=>∃ I_,IH.le I I_∧Ok ⟨39,[],none⟩ [(2,.pointer (some ⟨i,0,none⟩)),(6,.bool (a1==a0.Source)),(20,.bool j)] c∧Sym w0 M I I_ [pto i (.cells #[.int .i64 a0.Kind,.int .i64 a0.N,.int .i64 a0.Source,.int .i64 a0.Length,.slice p1 a0.Draws.length c2] 49 (0,0))] w) (fun v hd=>?_) ?_
 · skip
   refine .region (.fa un49 r sz47 r (o:=0) r r r (.load1 ia47 r .z r r r (.ks 2 r ?_)))
   refine splitP hd (fun a hd=>?_) fun a hd=>?_
   · rw [a]
     exact .ks 3 r (.nil' fun c w ho hs=>⟨(a1==a0.Source),hd,I,(.refl _),ho.sub ⟨r,r,r,trivial⟩,hs.pick (.c .z .n)⟩)
   rw [a]
   exact .ks 3 r (.nil' fun c w ho hs=>⟨false,hd,I,(.refl _),ho.sub ⟨r,r,r,trivial⟩,hs.pick (.c .z .n)⟩)
 rintro j hd c w hst
 obtain ⟨f,b,hok,hsym⟩:=hst
 replace R3:=R3.mono b
 refine Cod.at hok hsym (.condP r hd (fun l hd=>?_) fun l hd=>?_)
 · exact .sr (.ks 2 r (.nilS [5,4] r r (.drop .z (.ret (pret results184 (.t r (.t r .n)) b ⟨(1,true),r,hd⟩)))))
 refine .seq ?_
 refine Cod.joinQ (σ:=Bool×Bool) hd (fun (s:Bool×Bool) c w=>match s with | (g,k)=>∃ I_,IH.le f I_∧Ok ⟨39,[],none⟩ [(2,.pointer (some ⟨i,0,none⟩)),(6,.bool g),(27,.bool k)] c∧Sym w0 M I I_ [pto i (.cells #[.int .i64 a0.Kind,.int .i64 a0.N,.int .i64 a0.Source,.int .i64 a0.Length,.slice p1 a0.Draws.length c2] 49 (0,0))] w) (fun x hd=>?_) ?_
 · skip
   refine .region (.ks 2 r ?_)
   refine splitP hd (fun d hd=>?_) fun d hd=>?_
   · rw [d]
     exact .ks 5 r (.nil' fun c w ho hs=>⟨(true,true),hd,f,(.refl _),ho.sub ⟨r,r,r,trivial⟩,hs.pick (.c .z .n)⟩)
   rw [d]
   exact .gyes r r r (.fa un49 r sz47 r (o:=0) r r r (.gyes r r r (.load1 ia47 r .z r r r (.ks 3 r (.nil' fun c w ho hs=>⟨(false,a0.Kind==4),hd,f,(.refl _),ho.sub ⟨r,r,r,trivial⟩,hs.pick (.c .z .n)⟩)))))
 rintro ⟨g,k⟩ hd c w hst
 obtain ⟨y,h,hok,hsym⟩:=hst
 have e:=IH.le.trans b h
 replace R3:=R3.mono h
 refine Cod.at hok hsym (.condP r hd (fun m hd=>?_) fun m hd=>?_)
 · exact .sr (.ks 3 r (.nilS [5,4] r r (.drop .z (.ret (pret results184 (.t r (.t r .n)) e ⟨(0,g),r,hd⟩)))))
 refine .sr (.fa un49 r sz47 r (o:=0) r r r (.load1 ia47 r .z r r r (.ks 2 r (.nilS [35] r r (.drop .z (.condP r hd (fun p hd=>?_) fun p hd=>?_))))))
 · exact .sr (.ks 2 r (.nilS [5,4] r r (.ret (pret results184 (.t r (.t r .n)) e ⟨((-1),false),r,hd⟩))))
 exact .skipS [] r r (.sr (.ks 2 r (.nilS [5,4] r r (.ret (pret results184 (.t r (.t r .n)) e ⟨(4611686018427387904,false),r,hd⟩)))))
theorem W_prog_Update_1_24a {I:IH} {o0:Vec} {o1:Plan} {o2:State} {o3:Int} {a0:Int} {b5:Nat} {p6:Option Addr} {c7:Nat} {b9:Nat} {p10:Option Addr} {c11:Nat} {b13:Nat} {p14:Option Addr} {c15:Nat} {p17:Option Addr} {c18:Nat} {p20:Option Addr} {c21:Nat} {b23:Nat} {Q:(Int×Int×Bool)→Prop} (R8:RepSl eItem I p6 c7 o0.Items) (R12:RepSl eI64 I p10 c11 o1.Draws) (R16:RepSl eI64 I p14 c15 o2.A) (R19:RepSl eI64 I p17 c18 o2.B) (R22:RepSl eU64 I p20 c21 o2.On) (hd:prog_Update_1_24a o0 o1 o2 o3 a0 Q) :
  Fun prog 159 #[.int .i64 a0,.pointer (some ⟨b5,0,none⟩),.pointer (some ⟨b9,0,none⟩),.pointer (some ⟨b13,0,none⟩),.pointer (some ⟨b23,0,none⟩)] I [pto b5 (.cells #[.int .i64 o0.N,.slice p6 o0.Items.length c7] 54 (0,0)),pto b9 (.cells #[.int .i64 o1.Kind,.int .i64 o1.N,.int .i64 o1.Source,.int .i64 o1.Length,.slice p10 o1.Draws.length c11] 49 (0,0)),pto b13 (.cells #[.int .i64 o2.Low,.int .i64 o2.High,.slice p14 o2.A.length c15,.slice p17 o2.B.length c18,.slice p20 o2.On.length c21] 42 (0,0)),pto b23 (.cells #[.int .i64 o3] 3 (0,0))] (fun I_ v l=>∃ r,v=.tuple #[.int .i64 r.1,.int .i64 r.2.1,.bool r.2.2]∧l=[pto b5 (.cells #[.int .i64 o0.N,.slice p6 o0.Items.length c7] 54 (0,0)),pto b9 (.cells #[.int .i64 o1.Kind,.int .i64 o1.N,.int .i64 o1.Source,.int .i64 o1.Length,.slice p10 o1.Draws.length c11] 49 (0,0)),pto b13 (.cells #[.int .i64 o2.Low,.int .i64 o2.High,.slice p14 o2.A.length c15,.slice p17 o2.B.length c18,.slice p20 o2.On.length c21] 42 (0,0)),pto b23 (.cells #[.int .i64 o3] 3 (0,0))]∧Q r):=by
 refine Fun.enter (vs:=[.int .i64 a0,.pointer (some ⟨b5,0,none⟩),.pointer (some ⟨b9,0,none⟩),.pointer (some ⟨b13,0,none⟩),.pointer (some ⟨b23,0,none⟩)]) func159 r ntmps159 r (.c (.c (.c (.c (.c .n))))) fun w0 M=>?_
 refine .sr (.ks 3 r (.nilS [4,3,2,1,0] r r (.sr (.loadW ia54 sz54 r .z r r r (.ks 1 r ?_)))))
 have b:=W_spvec_Get (I:=I) R8 hd
 refine .callP call160 r b r r fun g d=>?_
 obtain ⟨h,rfl,hd⟩:=d
 refine .ks 5 r (.nilS [10,9,4,3,2,1,0] r r (.sr (.loadW ia49 sz49 r (.s .z) r r r (.loadW ia42 sz42 r (.s (.s .z)) r r r (.load1 ia3 r (.s (.s (.s .z))) r r r (.ks 3 r ?_))))))
 have e:=W_prog_behind (I:=I) R12 R16 R19 R22 hd
 refine .callP call161 r e r r fun i f=>?_
 obtain ⟨a,rfl,hd⟩:=f
 exact .ks 6 r (.nilS [8,7,6,4,3,2,1] r r (.ret (oret results159 (.t r (.t r (.t r .n))) (.refl _) (.c .z (.c .z (.c .z (.c .z .n)))) ⟨(a.1,a.2.1,a.2.2),r,r,hd⟩)))
theorem W_prog_changed_59a {I:IH} {o0:Vec} {o1:Plan} {o2:State} {o3:Int} {a0:State} {a1:Int} {b5:Nat} {p6:Option Addr} {c7:Nat} {b9:Nat} {p10:Option Addr} {c11:Nat} {b13:Nat} {p14:Option Addr} {c15:Nat} {p17:Option Addr} {c18:Nat} {p20:Option Addr} {c21:Nat} {b23:Nat} {p24:Option Addr} {c25:Nat} {p27:Option Addr} {c28:Nat} {p30:Option Addr} {c31:Nat} {Q:State→Prop} (R8:RepSl eItem I p6 c7 o0.Items) (R12:RepSl eI64 I p10 c11 o1.Draws) (R16:RepSl eI64 I p14 c15 o2.A) (R19:RepSl eI64 I p17 c18 o2.B) (R22:RepSl eU64 I p20 c21 o2.On) (R26:RepSl eI64 I p24 c25 a0.A) (R29:RepSl eI64 I p27 c28 a0.B) (R32:RepSl eU64 I p30 c31 a0.On) (hd:prog_changed_59a o0 o1 o2 o3 a0 a1 Q) :
  Fun prog 158 #[.agg #[.int .i64 a0.Low,.int .i64 a0.High,.slice p24 a0.A.length c25,.slice p27 a0.B.length c28,.slice p30 a0.On.length c31],.int .i64 a1,.func (.func 159) #[] #[.pointer (some ⟨b5,0,none⟩),.pointer (some ⟨b9,0,none⟩),.pointer (some ⟨b13,0,none⟩),.pointer (some ⟨b23,0,none⟩)]] I [pto b5 (.cells #[.int .i64 o0.N,.slice p6 o0.Items.length c7] 54 (0,0)),pto b9 (.cells #[.int .i64 o1.Kind,.int .i64 o1.N,.int .i64 o1.Source,.int .i64 o1.Length,.slice p10 o1.Draws.length c11] 49 (0,0)),pto b13 (.cells #[.int .i64 o2.Low,.int .i64 o2.High,.slice p14 o2.A.length c15,.slice p17 o2.B.length c18,.slice p20 o2.On.length c21] 42 (0,0)),pto b23 (.cells #[.int .i64 o3] 3 (0,0))] (fun I_ v l=>∃ r p33 c34 p36 c37 p39 c40,v=.agg #[.int .i64 r.Low,.int .i64 r.High,.slice p33 r.A.length c34,.slice p36 r.B.length c37,.slice p39 r.On.length c40]∧RepSl eI64 I_ p33 c34 r.A∧RepSl eI64 I_ p36 c37 r.B∧RepSl eU64 I_ p39 c40 r.On∧l=[pto b5 (.cells #[.int .i64 o0.N,.slice p6 o0.Items.length c7] 54 (0,0)),pto b9 (.cells #[.int .i64 o1.Kind,.int .i64 o1.N,.int .i64 o1.Source,.int .i64 o1.Length,.slice p10 o1.Draws.length c11] 49 (0,0)),pto b13 (.cells #[.int .i64 o2.Low,.int .i64 o2.High,.slice p14 o2.A.length c15,.slice p17 o2.B.length c18,.slice p20 o2.On.length c21] 42 (0,0)),pto b23 (.cells #[.int .i64 o3] 3 (0,0))]∧Q r):=by
 refine Fun.enter (vs:=[.agg #[.int .i64 a0.Low,.int .i64 a0.High,.slice p24 a0.A.length c25,.slice p27 a0.B.length c28,.slice p30 a0.On.length c31],.int .i64 a1,.func (.func 159) #[] #[.pointer (some ⟨b5,0,none⟩),.pointer (some ⟨b9,0,none⟩),.pointer (some ⟨b13,0,none⟩),.pointer (some ⟨b23,0,none⟩)]]) func158 r ntmps158 r (.c (.c (.c .n))) fun w0 M=>?_
 refine .sr (.boxA r r r fun d2=>?_)
 refine .allocA zv42 r r fun O=>?_
 refine .nilS [6,3,2,1] r r (.sr (.fa un42 r sz3 r (o:=0) r r r (.load1 ia3 r (.s .z) r r r (.fa un42 r sz3 r (o:=1) r r r (.load1 ia3 r (.s .z) r r r (.build zv42 un42 BI42 (.c r r r (.t .nil) (.c r r r (.s (.t .nil)) .n)) (by exact ⟨⟨_,_,r,r,r⟩,⟨⟨_,_,r,r,r⟩,trivial⟩⟩) r r (.allocA zv42 r r fun P=>?_)))))))
 refine .storeA sz42 r r .z (.t (.t (.t (.t (.t .nil))))) r r (.nilS [7,6,2,1] r r (.drop (.s (.s .z)) (.sr (.ks 1 r (.nilS [8,7,6,2,1] r r (.seq (.sr (.ks 2 r (.nilS [19,18,8,7,6,2,1] r r ?_)))))))))
 refine .block (.own0 eI64 2 (.own0 eI64 2 (.own0 eI64 3 (.loop hd (fun (s:(List Int)×(List Int)×(List Int)×Int) c w=>match s with | (i,j,u,q)=>∃ I_ x y C D F G,IH.le I I_∧Ok ⟨52,[],none⟩ [(1,.int .i64 a1),(2,.func (.func 159) #[] #[.pointer (some ⟨b5,0,none⟩),.pointer (some ⟨b9,0,none⟩),.pointer (some ⟨b13,0,none⟩),.pointer (some ⟨b23,0,none⟩)]),(6,.pointer (some ⟨O,0,none⟩)),(7,.pointer (some ⟨P,0,none⟩)),(8,.slice F u.length G),(18,.int .i64 a1),(19,.int .i64 q)] c∧Sym w0 M I I_ [pto b5 (.cells #[.int .i64 o0.N,.slice p6 o0.Items.length c7] 54 (0,0)),pto b9 (.cells #[.int .i64 o1.Kind,.int .i64 o1.N,.int .i64 o1.Source,.int .i64 o1.Length,.slice p10 o1.Draws.length c11] 49 (0,0)),pto b13 (.cells #[.int .i64 o2.Low,.int .i64 o2.High,.slice p14 o2.A.length c15,.slice p17 o2.B.length c18,.slice p20 o2.On.length c21] 42 (0,0)),pto b23 (.cells #[.int .i64 o3] 3 (0,0)),pto O (.cells #[.int .i64 0,.int .i64 0,.slice none 0 0,.slice none 0 0,.slice none 0 0] 42 (0,0)),pto P (.cells #[.int .i64 a0.Low,.int .i64 a0.High,.slice x i.length y,.slice C j.length D,.slice none 0 0] 42 (0,0)),OwnSl eI64 2 x y i,OwnSl eI64 2 C D j,OwnSl eI64 3 F G u] w) (fun c w ho hs=>⟨I,_,_,_,_,_,_,(.refl _),ho.sub ⟨r,r,r,r,r,r,r,trivial⟩,hs.pick (.c (.s (.s (.s (.s (.s .z))))) (.c (.s (.s (.s (.s (.s .z))))) (.c (.s (.s (.s (.s (.s .z))))) (.c (.s (.s (.s (.s (.s .z))))) (.c (.s (.s (.s (.s .z)))) (.c (.s (.s (.s .z))) (.c (.s (.s .z)) (.c (.s .z) (.c .z .n)))))))))⟩) ?_))))
 rintro ⟨i,j,u,q⟩ b1 hd c w hst
 obtain ⟨a7,x,y,C,D,F,G,e,hok,hsym⟩:=hst
 replace R8:=R8.mono e
 replace R12:=R12.mono e
 replace R16:=R16.mono e
 replace R19:=R19.mono e
 replace R22:=R22.mono e
 refine Cod.at hok hsym (.sr (.ks 1 r (.nilS [20,19,18,8,7,6,2,1] r r (.seq (.condP r hd (fun S hd=>?_) fun S hd=>?_)))))
 · refine .skipS [19,18,8,7,6,2,1] r r (.seq (.block (.sr (.ks 2 r (.nilS [9,19,18,8,7,6,2,1] r r (.sr (.ks 2 r ?_)))))))
   have T:=W_prog_Update_1_24a (I:=a7) (o0:=o0) (o1:=o1) (o2:=o2) (o3:=o3) (a0:=q) (b5:=b5) (p6:=p6) (c7:=c7) (b9:=b9) (p10:=p10) (c11:=c11) (b13:=b13) (p14:=p14) (c15:=c15) (p17:=p17) (c18:=c18) (p20:=p20) (c21:=c21) (b23:=b23) R8 R12 R16 R19 R22 hd
   refine .callS (.c call159 r r) (.c .z (.c .z (.c .z (.c .z .n)))) T r r fun b2 R b3 m U=>?_
   obtain ⟨k,rfl,rfl,hd⟩:=U
   have K:=IH.le.trans e m
   replace R8:=R8.mono m
   replace R12:=R12.mono m
   replace R16:=R16.mono m
   replace R19:=R19.mono m
   replace R22:=R22.mono m
   refine .re (m':=[pto b5 (.cells #[.int .i64 o0.N,.slice p6 o0.Items.length c7] 54 (0,0)),pto b9 (.cells #[.int .i64 o1.Kind,.int .i64 o1.N,.int .i64 o1.Source,.int .i64 o1.Length,.slice p10 o1.Draws.length c11] 49 (0,0)),pto b13 (.cells #[.int .i64 o2.Low,.int .i64 o2.High,.slice p14 o2.A.length c15,.slice p17 o2.B.length c18,.slice p20 o2.On.length c21] 42 (0,0)),pto b23 (.cells #[.int .i64 o3] 3 (0,0)),pto O (.cells #[.int .i64 0,.int .i64 0,.slice none 0 0,.slice none 0 0,.slice none 0 0] 42 (0,0)),pto P (.cells #[.int .i64 a0.Low,.int .i64 a0.High,.slice x i.length y,.slice C j.length D,.slice none 0 0] 42 (0,0)),OwnSl eI64 2 x y i,OwnSl eI64 2 C D j,OwnSl eI64 3 F G u]) r (.ks 7 r (.nilS [12,11,10,9,19,18,8,7,6,2,1] r r (.seq (.dr [0,1,2,5,6,7,8,3,4,10,999,9,11] 12 (.g r r r (fun _=>.fa un42 r sz30 r (o:=2) r r r .mk) (.g r r r (fun _=>.load1 ia30 r (.s (.s (.s (.s (.s .z))))) r r r .mk) (.fk 1 r (.g r r r (fun _=>.fa un42 r sz30 r (o:=3) r r r .mk) (.g r r r (fun _=>.load1 ia30 r (.s (.s (.s (.s (.s .z))))) r r r .mk) ?_)))))))))
   refine .fk 1 r (.a (fun b=>.slice (some ⟨b,0,none⟩) 1 1) (fun b=>pto b (.cells #[.int .i64 k.2.1] 2 (0,0))) r r r r (fun _ L hL ex=>.buildSlice 1 un30 sz2 zv2 r r (.c r r r .n) r r fun b=>.mk (val:=fun b=>.slice (some ⟨b,0,none⟩) 1 1) (atom:=fun b=>pto b (.cells #[.int .i64 k.2.1] 2 (0,0))) hL b) (.ww r fun ex=>?_))
   refine .buildSlice 1 un30 sz2 zv2 r r (.c r r r .n) r r fun b4=>?_
   refine .so 10 r r r (.ck 1 r r (.cg r r r r (fun _=>.load1 ia30 r (.s (.s (.s (.s (.s (.s .z)))))) r r r .mk) (.cg r r r r (fun _=>.fa un42 r sz30 r (o:=3) r r r .mk) (.cg r r r r (fun _=>.load1 ia30 r (.s (.s (.s (.s (.s (.s .z)))))) r r r .mk) (.cg r r r r (fun _=>.fa un42 r sz30 r (o:=2) r r r .mk) trivial))))) (.ww r fun ex=>?_)
   obtain ⟨V,hd⟩:=hd
   refine .append (ys:=[k.1]) 8 (.s (.s (.s (.s (.s (.s (.s .z))))))) un30 un30 IN2 r r r r r r r r r (.box .z (.one r) r) V r r fun b6 b7=>?_
   refine .so 10 r r r (.ck 1 r r (.cg r r r r (fun _=>.load1 ia30 r (.s (.s (.s (.s (.s (.s (.s .z))))))) r r r .mk) (.cg r r r r (fun _=>.fa un42 r sz30 r (o:=3) r r r .mk) trivial))) (.g r r r (fun _=>.fa un42 r sz30 r (o:=2) r r r .mk) (.b r fun b8=>DrawD.nop (.ww r fun ex=>?_)))
   obtain ⟨W,hd⟩:=hd
   refine .append (ys:=[k.2.1]) 8 (.s (.s (.s (.s (.s (.s (.s (.s .z)))))))) un30 un30 IN2 r r r r r r r r r (.box (.s (.s (.s (.s (.s (.s (.s (.s (.s (.s .z)))))))))) (.one r) r) W r r fun c0 c1=>?_
   refine .so 11 r r r (.cg r r r r (fun _=>.fa un42 r sz30 r (o:=2) r r r .mk) trivial) (.ww r fun ex=>?_)
   refine .store1 sz30 r r (.s (.s (.s (.s (.s (.s (.s (.s .z)))))))) (.s (.s (.t .nil))) r (.sn 11 r r r trivial (.e2 12 (.fa un42 r sz30 r (o:=3) r r r (.store1 sz30 r r (.s (.s (.s (.s (.s (.s (.s (.s .z)))))))) (.s (.s (.s (.t .nil)))) r (.nilS [12,9,19,18,8,7,6,2,1] r r (.drop (.s (.s .z)) (.drop (.s (.s (.s (.s (.s (.s (.s (.s (.s .z))))))))) (.sr (.ks 1 r ?_)))))))))
   refine .nilS [41,9,19,18,8,7,6,2,1] r r (.condP r hd (fun X hd=>?_) fun X hd=>?_)
   · refine .region (.ks 2 r (.buildSlice 1 un29 sz3 zv3 r r (.c r r r .n) r r fun c2=>?_))
     obtain ⟨Y,hd⟩:=hd
     refine .append (ys:=[q]) 8 (.s (.s (.s (.s (.s (.s (.s (.s (.s .z))))))))) un29 un29 IN3 r r r r r r r r r (.box .z (.one r) r) Y r r fun c3 c4=>?_
     exact .ks 1 r (.nilS [8,19,18,7,6,2,1] r r (.drop (.s .z) (.region (.ks 2 r (.nil' fun c w ho hs=>⟨((i++([k.1])),(j++([k.2.1])),(u++([q])),w64 (q+1)),hd,R,_,_,_,_,_,_,K,ho.sub ⟨r,r,r,r,r,r,r,trivial⟩,hs.pick (.c (.s (.s (.s .z))) (.c (.s (.s (.s .z))) (.c (.s (.s (.s .z))) (.c (.s (.s (.s .z))) (.c (.s (.s (.s .z))) (.c (.s (.s (.s .z))) (.c (.s (.s .z)) (.c (.s .z) (.c .z .n)))))))))⟩)))))
   exact .skipS [19,18,8,7,6,2,1] r r (.region (.ks 2 r (.nil' fun c w ho hs=>⟨((i++([k.1])),(j++([k.2.1])),u,w64 (q+1)),hd,R,_,_,_,_,_,_,K,ho.sub ⟨r,r,r,r,r,r,r,trivial⟩,hs.pick (.c (.s (.s .z)) (.c (.s (.s .z)) (.c (.s (.s .z)) (.c (.s (.s .z)) (.c (.s (.s .z)) (.c (.s (.s .z)) (.c (.s .z) (.c .z (.c .z .n)))))))))⟩)))
 refine .exitS [8,7,6,2,1] r r (.sr (.ks 2 r (.pub (.s (.s (.s (.s (.s (.s (.s (.s .z)))))))) fun a8 p H=>?_)))
 have Z:=IH.le.trans e p
 replace R8:=R8.mono p
 replace R12:=R12.mono p
 replace R16:=R16.mono p
 replace R19:=R19.mono p
 replace R22:=R22.mono p
 have a2:=W_flags_Of (I:=a8) H hd
 refine .call call152 r a2 r r fun c5 c6 f a3=>?_
 obtain ⟨a9,c8,c9,rfl,E,hd⟩:=a3
 have a4:=IH.le.trans Z f
 replace R8:=R8.mono f
 replace R12:=R12.mono f
 replace R16:=R16.mono f
 replace R19:=R19.mono f
 replace R22:=R22.mono f
 replace H:=H.mono f
 refine .fa un42 r sz40 r (o:=4) r r r (.store1 sz40 r r (.s (.s (.s (.s (.s .z))))) (.s (.s (.s (.s (.t .nil))))) r (.nilS [7,6,2] r r (.sr (.loadW ia42 sz42 r (.s (.s (.s (.s (.s .z))))) r r r (.storeA sz42 r r (.s (.s (.s (.s .z)))) (.t (.t (.t (.t (.t .nil))))) r r (.nilS [6,2] r r (.drop (.s (.s (.s (.s (.s .z))))) (.pub (.s (.s (.s (.s (.s (.s .z)))))) fun d0 h J=>?_))))))))
 have a5:=IH.le.trans a4 h
 replace R8:=R8.mono h
 replace R12:=R12.mono h
 replace R16:=R16.mono h
 replace R19:=R19.mono h
 replace R22:=R22.mono h
 replace E:=E.mono h
 refine .pub (.s (.s (.s (.s (.s .z))))) fun d1 d b0=>?_
 have a6:=IH.le.trans a5 d
 replace R8:=R8.mono d
 replace R12:=R12.mono d
 replace R16:=R16.mono d
 replace R19:=R19.mono d
 replace R22:=R22.mono d
 replace E:=E.mono d
 replace J:=J.mono d
 exact .ret (oret results158 (.w ia42 sz42 r (.s (.s (.s (.s .z)))) r .n) a6 (.c .z (.c .z (.c .z (.c .z .n)))) ⟨({ Low:=a0.Low,High:=a0.High,A:=i,B:=j,On:=a9 }:State),_,_,_,_,_,_,r,b0,J,E,r,hd⟩)
theorem W_prog_Update {I:IH} {a0:Plan} {a1:State} {a2:Int} {a3:Vec} {p1:Option Addr} {c2:Nat} {p4:Option Addr} {c5:Nat} {p7:Option Addr} {c8:Nat} {p10:Option Addr} {c11:Nat} {p13:Option Addr} {c14:Nat} {Q:State→Prop} (R3:RepSl eI64 I p1 c2 a0.Draws) (R6:RepSl eI64 I p4 c5 a1.A) (R9:RepSl eI64 I p7 c8 a1.B) (R12:RepSl eU64 I p10 c11 a1.On) (R15:RepSl eItem I p13 c14 a3.Items) (hd:prog_Update a0 a1 a2 a3 Q) :
  PFun prog 85 [.agg #[.int .i64 a0.Kind,.int .i64 a0.N,.int .i64 a0.Source,.int .i64 a0.Length,.slice p1 a0.Draws.length c2],.agg #[.int .i64 a1.Low,.int .i64 a1.High,.slice p4 a1.A.length c5,.slice p7 a1.B.length c8,.slice p10 a1.On.length c11],.int .i64 a2,.agg #[.int .i64 a3.N,.slice p13 a3.Items.length c14]] I (o31_ Q):=by
 refine Fun.enter func85 r ntmps85 r (.c (.c (.c (.c .n)))) fun w0 M=>?_
 refine .sr (.boxA r r r fun v=>?_)
 refine .boxA r r r fun x=>?_
 refine .box1 r r r r fun y=>?_
 refine .boxA r r r fun C=>?_
 refine .allocA zv42 r r fun E=>?_
 refine .nilS [8,7,6,5,4] r r (.sr (.loadW ia49 sz49 r (.s (.s (.s (.s .z)))) r r r (.loadW ia42 sz42 r (.s (.s (.s .z))) r r r ?_)))
 have b0:=W_prog_sure (I:=I) R3 R6 R9 R12 hd
 refine .call call151 r b0 r r fun f3 D m b1=>?_
 obtain ⟨a,F,G,H,J,K,L,rfl,e,h,i,hd⟩:=b1
 replace R3:=R3.mono m
 replace R6:=R6.mono m
 replace R9:=R9.mono m
 replace R12:=R12.mono m
 replace R15:=R15.mono m
 refine .storeA sz42 r r (.s (.s (.s .z))) (.t (.t (.t (.t (.t .nil))))) r r (.nilS [8,7,6,5,4] r r (.sr (.fa un42 r sz3 r (o:=1) r r r (.load1 ia3 r (.s (.s (.s .z))) r r r (.fa un42 r sz3 r (o:=0) r r r (.load1 ia3 r (.s (.s (.s .z))) r r r (.ks 2 r (.nilS [9,8,7,6,5,4] r r (.seq ?_)))))))))
 refine .seq ?_
 refine Cod.joinQ (σ:=Bool) hd (fun (a8:Bool) c w=>∃ I_,IH.le D I_∧Ok ⟨45,[],none⟩ [(4,.pointer (some ⟨v,0,none⟩)),(5,.pointer (some ⟨x,0,none⟩)),(6,.pointer (some ⟨y,0,none⟩)),(7,.pointer (some ⟨C,0,none⟩)),(8,.pointer (some ⟨E,0,none⟩)),(9,.int .i64 (w64 (a.High - a.Low))),(26,.bool a8)] c∧Sym w0 M I I_ [pto v (.cells #[.int .i64 a0.Kind,.int .i64 a0.N,.int .i64 a0.Source,.int .i64 a0.Length,.slice p1 a0.Draws.length c2] 49 (0,0)),pto x (.cells #[.int .i64 a.Low,.int .i64 a.High,.slice F a.A.length G,.slice H a.B.length J,.slice K a.On.length L] 42 (0,0)),pto y (.cells #[.int .i64 a2] 3 (0,0)),pto C (.cells #[.int .i64 a3.N,.slice p13 a3.Items.length c14] 54 (0,0)),pto E (.cells #[.int .i64 0,.int .i64 0,.slice none 0 0,.slice none 0 0,.slice none 0 0] 42 (0,0))] w) (fun f4 hd=>?_) ?_
 · skip
   refine .region (.loadW ia54 sz54 r (.s .z) r r r ?_)
   have b2:=W_spvec_Right (I:=D) R15 hd
   refine .callP call155 r b2 r r fun f5 b3=>?_
   obtain ⟨f6,rfl,hd⟩:=b3
   refine .ks 2 r ?_
   refine splitP hd (fun q hd=>?_) fun q hd=>?_
   · rw [q]
     exact .ks 5 r (.nil' fun c w ho hs=>⟨true,hd,D,(.refl _),ho.sub ⟨r,r,r,r,r,r,r,trivial⟩,hs.pick (.c (.s (.s (.s (.s .z)))) (.c (.s (.s (.s .z))) (.c (.s (.s .z)) (.c (.s .z) (.c .z .n)))))⟩)
   rw [q]
   exact .gyes r r r (.fa un54 r sz3 r (o:=0) r r r (.gyes r r r (.load1 ia3 r (.s .z) r r r (.ks 3 r (.nil' fun c w ho hs=>⟨(a3.N != (w64 (a.High - a.Low))),hd,D,(.refl _),ho.sub ⟨r,r,r,r,r,r,r,trivial⟩,hs.pick (.c (.s (.s (.s (.s .z)))) (.c (.s (.s (.s .z))) (.c (.s (.s .z)) (.c (.s .z) (.c .z .n)))))⟩)))))
 rintro a8 hd c w hst
 obtain ⟨a9,l,hok,hsym⟩:=hst
 have O:=IH.le.trans m l
 replace R3:=R3.mono l
 replace R15:=R15.mono l
 replace e:=e.mono l
 replace h:=h.mono l
 replace i:=i.mono l
 refine Cod.at hok hsym (.condP r hd (fun b4 hd=>?_) fun b4 hd=>?_)
 · refine .seq (.dr [0,1,2,3,4,5,7,8,10,11,6,9,12,13] 14 (.g r r r (fun _=>.fa un42 r sz3 r (o:=0) r r r .mk) (.g r r r (fun _=>.load1 ia3 r (.s .z) r r r .mk) (.g r r r (fun _=>.fa un42 r sz3 r (o:=1) r r r .mk) (.g r r r (fun _=>.load1 ia3 r (.s .z) r r r .mk) (.g r r r (fun _=>.fa un42 r sz30 r (o:=2) r r r .mk) (.g r r r (fun _=>.load1 ia30 r (.s .z) r r r .mk) (.g r r r (fun _=>.fa un42 r sz30 r (o:=3) r r r .mk) (.g r r r (fun _=>.load1 ia30 r (.s .z) r r r .mk) ?_)))))))))
   refine .g r r r (fun _=>.fa un42 r sz40 r (o:=4) r r r .mk) (.g r r r (fun _=>.load1 ia40 r (.s .z) r r r .mk) (.ww r fun ex=>?_))
   have P:=W_slices_Clone_int64_int64 (I:=a9) e hd
   refine .call call156 r P r r fun d3 c9 j R=>?_
   obtain ⟨d0,d4,d5,rfl,p,hd⟩:=R
   have S:=IH.le.trans O j
   have T:=IH.le.trans l j
   replace R3:=R3.mono j
   replace R15:=R15.mono j
   replace e:=e.mono j
   replace h:=h.mono j
   replace i:=i.mono j
   refine .so 5 r r r (.cg r r r r (fun _=>.load1 ia40 r (.s .z) r r r .mk) (.cg r r r r (fun _=>.fa un42 r sz40 r (o:=4) r r r .mk) (.cg r r r r (fun _=>.load1 ia30 r (.s .z) r r r .mk) (.cg r r r r (fun _=>.fa un42 r sz30 r (o:=3) r r r .mk) (.cg r r r r (fun _=>.load1 ia3 r (.s .z) r r r .mk) (.cg r r r r (fun _=>.fa un42 r sz3 r (o:=1) r r r .mk) (.cg r r r r (fun _=>.load1 ia3 r (.s .z) r r r .mk) (.cg r r r r (fun _=>.fa un42 r sz3 r (o:=0) r r r .mk) trivial)))))))) (.ww r fun ex=>?_)
   have U:=W_slices_Clone_int64_int64 (I:=c9) h hd
   refine .call call156 r U r r fun d6 b6 d V=>?_
   obtain ⟨b7,d7,d8,rfl,u,hd⟩:=V
   have W:=IH.le.trans S d
   have X:=IH.le.trans T d
   replace R3:=R3.mono d
   replace R15:=R15.mono d
   replace e:=e.mono d
   replace h:=h.mono d
   replace i:=i.mono d
   replace p:=p.mono d
   refine .so 5 r r r (.cg r r r r (fun _=>.load1 ia40 r (.s .z) r r r .mk) (.cg r r r r (fun _=>.fa un42 r sz40 r (o:=4) r r r .mk) (.cg r r r r (fun _=>.load1 ia3 r (.s .z) r r r .mk) (.cg r r r r (fun _=>.fa un42 r sz3 r (o:=1) r r r .mk) (.cg r r r r (fun _=>.load1 ia3 r (.s .z) r r r .mk) (.cg r r r r (fun _=>.fa un42 r sz3 r (o:=0) r r r .mk) trivial)))))) (.ww r fun ex=>?_)
   have Y:=W_slices_Clone_uint64_uint64 (I:=b6) i hd
   refine .call call157 r Y r r fun d9 e0 b Z=>?_
   obtain ⟨b8,e1,e3,rfl,c0,hd⟩:=Z
   have a4:=IH.le.trans W b
   have d1:=IH.le.trans X b
   replace R3:=R3.mono b
   replace R15:=R15.mono b
   replace e:=e.mono b
   replace h:=h.mono b
   replace i:=i.mono b
   replace p:=p.mono b
   replace u:=u.mono b
   exact .so 5 r r r (.cg r r r r (fun _=>.load1 ia3 r (.s .z) r r r .mk) (.cg r r r r (fun _=>.fa un42 r sz3 r (o:=1) r r r .mk) (.cg r r r r (fun _=>.load1 ia3 r (.s .z) r r r .mk) (.cg r r r r (fun _=>.fa un42 r sz3 r (o:=0) r r r .mk) trivial)))) (.g r r r (fun _=>.build zv42 un42 BI42 (.c r r r (.t .nil) (.c r r r (.s (.t .nil)) (.c r r r (.s (.s (.t .nil))) (.c r r r (.s (.s (.s (.t .nil)))) (.c r r r (.s (.s (.s (.s (.t .nil))))) .n))))) (by exact ⟨⟨_,_,r,r,r⟩,⟨⟨_,_,r,r,r⟩,⟨⟨_,_,r,r,r⟩,⟨⟨_,_,r,r,r⟩,⟨⟨_,_,r,r,r⟩,trivial⟩⟩⟩⟩⟩) r r .mk) (.e2 14 (.storeA sz42 r r (.s (.s (.s (.s .z)))) (.t (.t (.t (.t (.t .nil))))) r r (.nilS [8] r r (.drop .z (.drop .z (.drop .z (.drop .z (.ret (pret results85 (.w ia42 sz42 r .z r .n) a4 ⟨({ Low:=a.Low,High:=a.High,A:=d0,B:=b7,On:=b8 }:State),_,_,_,_,_,_,r,p,u,c0,hd⟩))))))))))
 refine .skipS [9,8,7,6,5,4] r r (.sr (.loadW ia42 sz42 r (.s .z) r r r (.ks 1 r (.mkFn r r r r ?_))))
 have a5:=W_prog_changed_59a (I:=a9) (o0:=a3) (o1:=a0) (o2:=a) (o3:=a2) (a0:=a) (a1:=(w64 (a.High - a.Low))) (b5:=C) (p6:=p13) (c7:=c14) (b9:=v) (p10:=p1) (c11:=c2) (b13:=x) (p14:=F) (c15:=G) (p17:=H) (c18:=J) (p20:=K) (c21:=L) (b23:=y) R15 R3 e h i e h i hd
 refine .callS (.f call158 r) (.c (.s (.s (.s .z))) (.c .z (.c .z (.c .z .n)))) a5 r r fun e4 e5 e6 k a6=>?_
 obtain ⟨c1,e7,e8,e9,f0,f1,f2,rfl,c3,c4,c6,rfl,hd⟩:=a6
 have a7:=IH.le.trans O k
 have d2:=IH.le.trans l k
 replace R3:=R3.mono k
 replace R15:=R15.mono k
 replace e:=e.mono k
 replace h:=h.mono k
 replace i:=i.mono k
 exact .re (m':=[pto C (.cells #[.int .i64 a3.N,.slice p13 a3.Items.length c14] 54 (0,0)),pto v (.cells #[.int .i64 a0.Kind,.int .i64 a0.N,.int .i64 a0.Source,.int .i64 a0.Length,.slice p1 a0.Draws.length c2] 49 (0,0)),pto x (.cells #[.int .i64 a.Low,.int .i64 a.High,.slice F a.A.length G,.slice H a.B.length J,.slice K a.On.length L] 42 (0,0)),pto y (.cells #[.int .i64 a2] 3 (0,0)),pto E (.cells #[.int .i64 0,.int .i64 0,.slice none 0 0,.slice none 0 0,.slice none 0 0] 42 (0,0))]) r (.storeA sz42 r r (.s (.s (.s (.s .z)))) (.t (.t (.t (.t (.t .nil))))) r r (.nilS [8] r r (.drop .z (.drop .z (.drop .z (.drop .z (.ret (pret results85 (.w ia42 sz42 r .z r .n) a7 ⟨c1,_,_,_,_,_,_,r,c3,c4,c6,hd⟩))))))))
theorem W_prog_Begin_1_d27 {I:IH} {o0:Plan} {o1:Int} {a0:Int} {b3:Nat} {p4:Option Addr} {c5:Nat} {b7:Nat} {Q:(Int×Int×Bool)→Prop} (R6:RepSl eI64 I p4 c5 o0.Draws) (hd:prog_Begin_1_d27 o0 o1 a0 Q) :
  Fun prog 183 #[.int .i64 a0,.pointer (some ⟨b3,0,none⟩),.pointer (some ⟨b7,0,none⟩)] I [pto b3 (.cells #[.int .i64 o0.Kind,.int .i64 o0.N,.int .i64 o0.Source,.int .i64 o0.Length,.slice p4 o0.Draws.length c5] 49 (0,0)),pto b7 (.cells #[.int .i64 o1] 3 (0,0))] (fun I_ v l=>∃ r,v=.tuple #[.int .i64 r.1,.int .i64 r.2.1,.bool r.2.2]∧l=[pto b3 (.cells #[.int .i64 o0.Kind,.int .i64 o0.N,.int .i64 o0.Source,.int .i64 o0.Length,.slice p4 o0.Draws.length c5] 49 (0,0)),pto b7 (.cells #[.int .i64 o1] 3 (0,0))]∧Q r):=by
 refine Fun.enter (vs:=[.int .i64 a0,.pointer (some ⟨b3,0,none⟩),.pointer (some ⟨b7,0,none⟩)]) func183 r ntmps183 r (.c (.c (.c .n))) fun w0 M=>?_
 refine .sr (.ks 3 r (.nilS [2,1,0] r r (.sr (.loadW ia49 sz49 r .z r r r (.load1 ia3 r (.s .z) r r r (.ks 2 r ?_))))))
 have b:=W_prog_first (I:=I) R6 hd
 refine .callP call184 r b r r fun e a=>?_
 obtain ⟨d,rfl,hd⟩:=a
 exact .ks 5 r (.nilS [8,7,2,1] r r (.sr (.ks 5 r (.nilS [6,5,4,2,1] r r (.ret (oret results183 (.t r (.t r (.t r .n))) (.refl _) (.c .z (.c .z .n)) ⟨(d.1,(-1),d.2),r,r,hd⟩))))))
theorem W_prog_changed_b13 {I:IH} {o0:Plan} {o1:Int} {a0:State} {a1:Int} {b3:Nat} {p4:Option Addr} {c5:Nat} {b7:Nat} {p8:Option Addr} {c9:Nat} {p11:Option Addr} {c12:Nat} {p14:Option Addr} {c15:Nat} {Q:State→Prop} (R6:RepSl eI64 I p4 c5 o0.Draws) (R10:RepSl eI64 I p8 c9 a0.A) (R13:RepSl eI64 I p11 c12 a0.B) (R16:RepSl eU64 I p14 c15 a0.On) (hd:prog_changed_b13 o0 o1 a0 a1 Q) :
  Fun prog 158 #[.agg #[.int .i64 a0.Low,.int .i64 a0.High,.slice p8 a0.A.length c9,.slice p11 a0.B.length c12,.slice p14 a0.On.length c15],.int .i64 a1,.func (.func 183) #[] #[.pointer (some ⟨b3,0,none⟩),.pointer (some ⟨b7,0,none⟩)]] I [pto b3 (.cells #[.int .i64 o0.Kind,.int .i64 o0.N,.int .i64 o0.Source,.int .i64 o0.Length,.slice p4 o0.Draws.length c5] 49 (0,0)),pto b7 (.cells #[.int .i64 o1] 3 (0,0))] (fun I_ v l=>∃ r p17 c18 p20 c21 p23 c24,v=.agg #[.int .i64 r.Low,.int .i64 r.High,.slice p17 r.A.length c18,.slice p20 r.B.length c21,.slice p23 r.On.length c24]∧RepSl eI64 I_ p17 c18 r.A∧RepSl eI64 I_ p20 c21 r.B∧RepSl eU64 I_ p23 c24 r.On∧l=[pto b3 (.cells #[.int .i64 o0.Kind,.int .i64 o0.N,.int .i64 o0.Source,.int .i64 o0.Length,.slice p4 o0.Draws.length c5] 49 (0,0)),pto b7 (.cells #[.int .i64 o1] 3 (0,0))]∧Q r):=by
 refine Fun.enter (vs:=[.agg #[.int .i64 a0.Low,.int .i64 a0.High,.slice p8 a0.A.length c9,.slice p11 a0.B.length c12,.slice p14 a0.On.length c15],.int .i64 a1,.func (.func 183) #[] #[.pointer (some ⟨b3,0,none⟩),.pointer (some ⟨b7,0,none⟩)]]) func158 r ntmps158 r (.c (.c (.c .n))) fun w0 M=>?_
 refine .sr (.boxA r r r fun d3=>?_)
 refine .allocA zv42 r r fun O=>?_
 refine .nilS [6,3,2,1] r r (.sr (.fa un42 r sz3 r (o:=0) r r r (.load1 ia3 r (.s .z) r r r (.fa un42 r sz3 r (o:=1) r r r (.load1 ia3 r (.s .z) r r r (.build zv42 un42 BI42 (.c r r r (.t .nil) (.c r r r (.s (.t .nil)) .n)) (by exact ⟨⟨_,_,r,r,r⟩,⟨⟨_,_,r,r,r⟩,trivial⟩⟩) r r (.allocA zv42 r r fun P=>?_)))))))
 refine .storeA sz42 r r .z (.t (.t (.t (.t (.t .nil))))) r r (.nilS [7,6,2,1] r r (.drop (.s (.s .z)) (.sr (.ks 1 r (.nilS [8,7,6,2,1] r r (.seq (.sr (.ks 2 r (.nilS [19,18,8,7,6,2,1] r r ?_)))))))))
 refine .block (.own0 eI64 2 (.own0 eI64 2 (.own0 eI64 3 (.loop hd (fun (s:(List Int)×(List Int)×(List Int)×Int) c w=>match s with | (d,e,i,h)=>∃ I_ k m p q x y,IH.le I I_∧Ok ⟨52,[],none⟩ [(1,.int .i64 a1),(2,.func (.func 183) #[] #[.pointer (some ⟨b3,0,none⟩),.pointer (some ⟨b7,0,none⟩)]),(6,.pointer (some ⟨O,0,none⟩)),(7,.pointer (some ⟨P,0,none⟩)),(8,.slice x i.length y),(18,.int .i64 a1),(19,.int .i64 h)] c∧Sym w0 M I I_ [pto b3 (.cells #[.int .i64 o0.Kind,.int .i64 o0.N,.int .i64 o0.Source,.int .i64 o0.Length,.slice p4 o0.Draws.length c5] 49 (0,0)),pto b7 (.cells #[.int .i64 o1] 3 (0,0)),pto O (.cells #[.int .i64 0,.int .i64 0,.slice none 0 0,.slice none 0 0,.slice none 0 0] 42 (0,0)),pto P (.cells #[.int .i64 a0.Low,.int .i64 a0.High,.slice k d.length m,.slice p e.length q,.slice none 0 0] 42 (0,0)),OwnSl eI64 2 k m d,OwnSl eI64 2 p q e,OwnSl eI64 3 x y i] w) (fun c w ho hs=>⟨I,_,_,_,_,_,_,(.refl _),ho.sub ⟨r,r,r,r,r,r,r,trivial⟩,hs.pick (.c (.s (.s (.s (.s (.s .z))))) (.c (.s (.s (.s (.s (.s .z))))) (.c (.s (.s (.s (.s .z)))) (.c (.s (.s (.s .z))) (.c (.s (.s .z)) (.c (.s .z) (.c .z .n)))))))⟩) ?_))))
 rintro ⟨d,e,i,h⟩ b1 hd c w hst
 obtain ⟨a7,k,m,p,q,x,y,C,hok,hsym⟩:=hst
 replace R6:=R6.mono C
 refine Cod.at hok hsym (.sr (.ks 1 r (.nilS [20,19,18,8,7,6,2,1] r r (.seq (.condP r hd (fun S hd=>?_) fun S hd=>?_)))))
 · refine .skipS [19,18,8,7,6,2,1] r r (.seq (.block (.sr (.ks 2 r (.nilS [9,19,18,8,7,6,2,1] r r (.sr (.ks 2 r ?_)))))))
   have T:=W_prog_Begin_1_d27 (I:=a7) (o0:=o0) (o1:=o1) (a0:=h) (b3:=b3) (p4:=p4) (c5:=c5) (b7:=b7) R6 hd
   refine .callS (.c call183 r r) (.c .z (.c .z .n)) T r r fun b2 R b4 H U=>?_
   obtain ⟨f,rfl,rfl,hd⟩:=U
   have J:=IH.le.trans C H
   replace R6:=R6.mono H
   refine .re (m':=[pto b3 (.cells #[.int .i64 o0.Kind,.int .i64 o0.N,.int .i64 o0.Source,.int .i64 o0.Length,.slice p4 o0.Draws.length c5] 49 (0,0)),pto b7 (.cells #[.int .i64 o1] 3 (0,0)),pto O (.cells #[.int .i64 0,.int .i64 0,.slice none 0 0,.slice none 0 0,.slice none 0 0] 42 (0,0)),pto P (.cells #[.int .i64 a0.Low,.int .i64 a0.High,.slice k d.length m,.slice p e.length q,.slice none 0 0] 42 (0,0)),OwnSl eI64 2 k m d,OwnSl eI64 2 p q e,OwnSl eI64 3 x y i]) r (.ks 7 r (.nilS [12,11,10,9,19,18,8,7,6,2,1] r r (.seq (.dr [0,1,2,5,6,7,8,3,4,10,999,9,11] 12 (.g r r r (fun _=>.fa un42 r sz30 r (o:=2) r r r .mk) (.g r r r (fun _=>.load1 ia30 r (.s (.s (.s .z))) r r r .mk) (.fk 1 r (.g r r r (fun _=>.fa un42 r sz30 r (o:=3) r r r .mk) (.g r r r (fun _=>.load1 ia30 r (.s (.s (.s .z))) r r r .mk) ?_)))))))))
   refine .fk 1 r (.a (fun b=>.slice (some ⟨b,0,none⟩) 1 1) (fun b=>pto b (.cells #[.int .i64 f.2.1] 2 (0,0))) r r r r (fun _ L hL ex=>.buildSlice 1 un30 sz2 zv2 r r (.c r r r .n) r r fun b=>.mk (val:=fun b=>.slice (some ⟨b,0,none⟩) 1 1) (atom:=fun b=>pto b (.cells #[.int .i64 f.2.1] 2 (0,0))) hL b) (.ww r fun ex=>?_))
   refine .buildSlice 1 un30 sz2 zv2 r r (.c r r r .n) r r fun b5=>?_
   refine .so 8 r r r (.ck 1 r r (.cg r r r r (fun _=>.load1 ia30 r (.s (.s (.s (.s .z)))) r r r .mk) (.cg r r r r (fun _=>.fa un42 r sz30 r (o:=3) r r r .mk) (.cg r r r r (fun _=>.load1 ia30 r (.s (.s (.s (.s .z)))) r r r .mk) (.cg r r r r (fun _=>.fa un42 r sz30 r (o:=2) r r r .mk) trivial))))) (.ww r fun ex=>?_)
   obtain ⟨V,hd⟩:=hd
   refine .append (ys:=[f.1]) 8 (.s (.s (.s (.s (.s .z))))) un30 un30 IN2 r r r r r r r r r (.box .z (.one r) r) V r r fun b6 b8=>?_
   refine .so 8 r r r (.ck 1 r r (.cg r r r r (fun _=>.load1 ia30 r (.s (.s (.s (.s (.s .z))))) r r r .mk) (.cg r r r r (fun _=>.fa un42 r sz30 r (o:=3) r r r .mk) trivial))) (.g r r r (fun _=>.fa un42 r sz30 r (o:=2) r r r .mk) (.b r fun b9=>DrawD.nop (.ww r fun ex=>?_)))
   obtain ⟨W,hd⟩:=hd
   refine .append (ys:=[f.2.1]) 8 (.s (.s (.s (.s (.s (.s .z)))))) un30 un30 IN2 r r r r r r r r r (.box (.s (.s (.s (.s (.s (.s (.s (.s .z)))))))) (.one r) r) W r r fun c0 c1=>?_
   refine .so 9 r r r (.cg r r r r (fun _=>.fa un42 r sz30 r (o:=2) r r r .mk) trivial) (.ww r fun ex=>?_)
   refine .store1 sz30 r r (.s (.s (.s (.s (.s (.s .z)))))) (.s (.s (.t .nil))) r (.sn 9 r r r trivial (.e2 12 (.fa un42 r sz30 r (o:=3) r r r (.store1 sz30 r r (.s (.s (.s (.s (.s (.s .z)))))) (.s (.s (.s (.t .nil)))) r (.nilS [12,9,19,18,8,7,6,2,1] r r (.drop (.s (.s .z)) (.drop (.s (.s (.s (.s (.s (.s (.s .z))))))) (.sr (.ks 1 r ?_)))))))))
   refine .nilS [41,9,19,18,8,7,6,2,1] r r (.condP r hd (fun X hd=>?_) fun X hd=>?_)
   · refine .region (.ks 2 r (.buildSlice 1 un29 sz3 zv3 r r (.c r r r .n) r r fun c2=>?_))
     obtain ⟨Y,hd⟩:=hd
     refine .append (ys:=[h]) 8 (.s (.s (.s (.s (.s (.s (.s .z))))))) un29 un29 IN3 r r r r r r r r r (.box .z (.one r) r) Y r r fun c3 c4=>?_
     exact .ks 1 r (.nilS [8,19,18,7,6,2,1] r r (.drop (.s .z) (.region (.ks 2 r (.nil' fun c w ho hs=>⟨((d++([f.1])),(e++([f.2.1])),(i++([h])),w64 (h+1)),hd,R,_,_,_,_,_,_,J,ho.sub ⟨r,r,r,r,r,r,r,trivial⟩,hs.pick (.c (.s (.s (.s .z))) (.c (.s (.s (.s .z))) (.c (.s (.s (.s .z))) (.c (.s (.s (.s .z))) (.c (.s (.s .z)) (.c (.s .z) (.c .z .n)))))))⟩)))))
   exact .skipS [19,18,8,7,6,2,1] r r (.region (.ks 2 r (.nil' fun c w ho hs=>⟨((d++([f.1])),(e++([f.2.1])),i,w64 (h+1)),hd,R,_,_,_,_,_,_,J,ho.sub ⟨r,r,r,r,r,r,r,trivial⟩,hs.pick (.c (.s (.s .z)) (.c (.s (.s .z)) (.c (.s (.s .z)) (.c (.s (.s .z)) (.c (.s .z) (.c .z (.c .z .n)))))))⟩)))
 refine .exitS [8,7,6,2,1] r r (.sr (.ks 2 r (.pub (.s (.s (.s (.s (.s (.s .z)))))) fun a8 K F=>?_)))
 have Z:=IH.le.trans C K
 replace R6:=R6.mono K
 have a2:=W_flags_Of (I:=a8) F hd
 refine .call call152 r a2 r r fun c6 c7 D a3=>?_
 obtain ⟨a9,c8,d0,rfl,u,hd⟩:=a3
 have a4:=IH.le.trans Z D
 replace R6:=R6.mono D
 replace F:=F.mono D
 refine .fa un42 r sz40 r (o:=4) r r r (.store1 sz40 r r (.s (.s (.s .z))) (.s (.s (.s (.s (.t .nil))))) r (.nilS [7,6,2] r r (.sr (.loadW ia42 sz42 r (.s (.s (.s .z))) r r r (.storeA sz42 r r (.s (.s .z)) (.t (.t (.t (.t (.t .nil))))) r r (.nilS [6,2] r r (.drop (.s (.s (.s .z))) (.pub (.s (.s (.s (.s .z)))) fun d1 E G=>?_))))))))
 have a5:=IH.le.trans a4 E
 replace R6:=R6.mono E
 replace u:=u.mono E
 refine .pub (.s (.s (.s .z))) fun d2 j b0=>?_
 have a6:=IH.le.trans a5 j
 replace R6:=R6.mono j
 replace u:=u.mono j
 replace G:=G.mono j
 exact .ret (oret results158 (.w ia42 sz42 r (.s (.s .z)) r .n) a6 (.c .z (.c .z .n)) ⟨({ Low:=a0.Low,High:=a0.High,A:=d,B:=e,On:=a9 }:State),_,_,_,_,_,_,r,b0,G,u,r,hd⟩)
theorem W_prog_Begin {I:IH} {a0:Plan} {a1:Int} {a2:Int} {p1:Option Addr} {c2:Nat} {Q:State→Prop} (R3:RepSl eI64 I p1 c2 a0.Draws) (hd:prog_Begin a0 a1 a2 Q) :
  PFun prog 115 [.agg #[.int .i64 a0.Kind,.int .i64 a0.N,.int .i64 a0.Source,.int .i64 a0.Length,.slice p1 a0.Draws.length c2],.int .i64 a1,.int .i64 a2] I (o30_ Q):=by
 refine Fun.enter func115 r ntmps115 r (.c (.c (.c .n))) fun w0 M=>?_
 refine .sr (.boxA r r r fun g=>?_)
 refine .box1 r r r r fun h=>?_
 refine .allocA zv42 r r fun p=>?_
 refine .nilS [6,4,3,2] r r (.seq (.sr (.loadW ia49 sz49 r (.s (.s .z)) r r r ?_)))
 have i:=W_prog_Right (I:=I) R3 hd
 refine .callP call95 r i r r fun C j=>?_
 obtain ⟨D,rfl,hd⟩:=j
 refine .ks 2 r ?_
 refine splitP hd (fun a hd=>?_) fun a hd=>?_
 · rw [a]
   exact .ks 14 r (.nilS [25,6,4,3,2] r r (.condKT r r (.sr (.build zv42 un42 BI42 .n (by exact trivial) r r (.storeA sz42 r r .z (.t (.t (.t (.t (.t .nil))))) r r (.nilS [6] r r (.drop (.s .z) (.drop (.s .z) (.ret (pret results115 (.w ia42 sz42 r .z r .n) (.refl _) ⟨({ Low:=0,High:=0,A:=([]:List Int),B:=([]:List Int),On:=([]:List Int) }:State),_,_,_,_,_,_,r,(.nil _ _ _),(.nil _ _ _),(.nil _ _ _),hd⟩))))))))))
 rw [a]
 refine .gyes r r r (.load1 ia3 r (.s .z) r r r (.ks 3 r ?_))
 refine splitP hd (fun b hd=>?_) fun b hd=>?_
 · rw [b]
   exact .ks 10 r (.nilS [25,6,4,3,2] r r (.condKT r r (.sr (.build zv42 un42 BI42 .n (by exact trivial) r r (.storeA sz42 r r .z (.t (.t (.t (.t (.t .nil))))) r r (.nilS [6] r r (.drop (.s .z) (.drop (.s .z) (.ret (pret results115 (.w ia42 sz42 r .z r .n) (.refl _) ⟨({ Low:=0,High:=0,A:=([]:List Int),B:=([]:List Int),On:=([]:List Int) }:State),_,_,_,_,_,_,r,(.nil _ _ _),(.nil _ _ _),(.nil _ _ _),hd⟩))))))))))
 rw [b]
 refine .ks 1 r (.gyes r r r (.load1 ia3 r (.s .z) r r r (.ks 3 r ?_)))
 refine splitP hd (fun d hd=>?_) fun d hd=>?_
 · rw [d]
   exact .ks 5 r (.nilS [25,6,4,3,2] r r (.condKT r r (.sr (.build zv42 un42 BI42 .n (by exact trivial) r r (.storeA sz42 r r .z (.t (.t (.t (.t (.t .nil))))) r r (.nilS [6] r r (.drop (.s .z) (.drop (.s .z) (.ret (pret results115 (.w ia42 sz42 r .z r .n) (.refl _) ⟨({ Low:=0,High:=0,A:=([]:List Int),B:=([]:List Int),On:=([]:List Int) }:State),_,_,_,_,_,_,r,(.nil _ _ _),(.nil _ _ _),(.nil _ _ _),hd⟩))))))))))
 rw [d]
 refine .ks 1 r (.gyes r r r (.fa un49 r sz3 r (o:=1) r r r (.gyes r r r (.load1 ia3 r (.s (.s .z)) r r r (.ks 2 r (.nilS [25,6,4,3,2] r r (.condP r hd (fun k hd=>?_) fun k hd=>?_)))))))
 · exact .sr (.build zv42 un42 BI42 .n (by exact trivial) r r (.storeA sz42 r r .z (.t (.t (.t (.t (.t .nil))))) r r (.nilS [6] r r (.drop (.s .z) (.drop (.s .z) (.ret (pret results115 (.w ia42 sz42 r .z r .n) (.refl _) ⟨({ Low:=0,High:=0,A:=([]:List Int),B:=([]:List Int),On:=([]:List Int) }:State),_,_,_,_,_,_,r,(.nil _ _ _),(.nil _ _ _),(.nil _ _ _),hd⟩)))))))
 refine .skipS [6,4,3,2] r r (.sr (.load1 ia3 r (.s .z) r r r (.ks 1 r (.build zv42 un42 BI42 (.c r r r (.t .nil) (.c r r r (.s (.t .nil)) .n)) (by exact ⟨⟨_,_,r,r,r⟩,⟨⟨_,_,r,r,r⟩,trivial⟩⟩) r r (.allocA zv42 r r fun q=>?_)))))
 refine .storeA sz42 r r .z (.t (.t (.t (.t (.t .nil))))) r r (.nilS [7,6,4,3,2] r r (.sr (.loadW ia42 sz42 r .z r r r (.ks 1 r (.load1 ia3 r (.s (.s .z)) r r r (.ks 1 r (.mkFn r r r r ?_)))))))
 have l:=W_prog_changed_b13 (I:=I) (o0:=a0) (o1:=a1) (a0:=({ Low:=a1,High:=a2,A:=([]:List Int),B:=([]:List Int),On:=([]:List Int) }:State)) (a1:=(w64 (a2 - a1))) (b3:=g) (p4:=p1) (c5:=c2) (b7:=h) R3 (.nil _ none 0) (.nil _ none 0) (.nil _ none 0) hd
 refine .callS (.f call158 r) (.c (.s (.s (.s .z))) (.c (.s (.s .z)) .n)) l r r fun E F G e m=>?_
 obtain ⟨u,H,J,K,L,O,P,rfl,v,x,y,rfl,hd⟩:=m
 replace R3:=R3.mono e
 exact .re (m':=[pto g (.cells #[.int .i64 a0.Kind,.int .i64 a0.N,.int .i64 a0.Source,.int .i64 a0.Length,.slice p1 a0.Draws.length c2] 49 (0,0)),pto h (.cells #[.int .i64 a1] 3 (0,0)),pto q (.cells #[.int .i64 a1,.int .i64 a2,.slice none 0 0,.slice none 0 0,.slice none 0 0] 42 (0,0)),pto p (.cells #[.int .i64 0,.int .i64 0,.slice none 0 0,.slice none 0 0,.slice none 0 0] 42 (0,0))]) r (.storeA sz42 r r (.s (.s (.s .z))) (.t (.t (.t (.t (.t .nil))))) r r (.nilS [6] r r (.drop .z (.drop .z (.drop .z (.ret (pret results115 (.w ia42 sz42 r .z r .n) e ⟨u,_,_,_,_,_,_,r,v,x,y,hd⟩)))))))
end Go.Proofs.YtaefnmlbnkmahaaGreat
