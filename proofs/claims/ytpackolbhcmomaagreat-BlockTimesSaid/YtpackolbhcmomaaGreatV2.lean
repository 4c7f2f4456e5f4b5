/- The walks (printed by a program of ours). -/
import Derived.Test.YtpackolbhcmomaaGreatV1
namespace Go.Proofs.YtpackolbhcmomaaGreat
open Go Go.Fw
set_option linter.unusedVariables false
set_option linter.unusedSimpArgs false
set_option maxRecDepth 8000
set_option maxHeartbeats 1000000
open Tryz
theorem W_block_glued_57b {I:IH} {o0:Int} {o1:Int} {a0:List Vec} {a1:Int} {b3:Nat} {b4:Nat} {p5:Option Addr} {c6:Nat} {Q:(Vec×Int)→Prop} (R7:RepSl eVec I p5 c6 a0) (hd:block_glued_57b o0 o1 a0 a1 Q) :
  Fun prog 69 #[.slice p5 a0.length c6,.int .i64 a1,.func (.func 70) #[] #[.pointer (some ⟨b3,0,none⟩),.pointer (some ⟨b4,0,none⟩)]] I [pto b3 (.cells #[.int .i64 o0] 3 (0,0)),pto b4 (.cells #[.int .i64 o1] 3 (0,0))] (fun I_ v l=>∃ r p8 c9,v=.tuple #[.agg #[.int .i64 r.1.N,.slice p8 r.1.Items.length c9],.int .i64 r.2]∧RepSl eItem I_ p8 c9 r.1.Items∧l=[pto b3 (.cells #[.int .i64 o0] 3 (0,0)),pto b4 (.cells #[.int .i64 o1] 3 (0,0))]∧Q r):=by
 refine Fun.enter (vs:=[.slice p5 a0.length c6,.int .i64 a1,.func (.func 70) #[] #[.pointer (some ⟨b3,0,none⟩),.pointer (some ⟨b4,0,none⟩)]]) func69 r ntmps69 r (.c (.c (.c .n))) fun w0 M=>?_
 refine .sr (.allocA zv37 r r fun b10=>?_)
 refine .ks 1 r (.nilS [6,2,1,0] r r (.seq (.sr (.ks 1 r (.len un47 r r r r (.ks 2 r (.nilS [13,6,2,0] r r (.condP r hd (fun hb13 hd=>?_) fun hb13 hd=>?_))))))))
 · exact .sr (.build zv37 un37 BI37 .n (by exact trivial) r r (.storeA sz37 r r .z (.t (.t .nil)) r r (.ks 1 r (.nilS [7,6,2] r r (.ret (oret results69 (.w ia37 sz37 r .z r (.t r .n)) (.refl _) (.c (.s .z) (.c (.s .z) .n)) ⟨(({ N:=0,Items:=([]:List Item) }:Vec),4),_,_,r,(.nil _ none 0),r,hd⟩))))))
 refine .skipS [6,2,0] r r (.seq (.sr (.ks 1 r (.len un47 r r r r (.ks 1 r (.nilS [17,16,15,6,2,0] r r (.block (.loop hd (fun (s103:Int) c w=>∃ I_,IH.le I I_∧Ok ⟨39,[],none⟩ [(0,.slice p5 a0.length c6),(2,.func (.func 70) #[] #[.pointer (some ⟨b3,0,none⟩),.pointer (some ⟨b4,0,none⟩)]),(6,.pointer (some ⟨b10,0,none⟩)),(15,.slice p5 a0.length c6),(16,.int .i64 (a0.length:Int)),(17,.int .i64 s103)] c∧Sym w0 M I I_ [pto b3 (.cells #[.int .i64 o0] 3 (0,0)),pto b4 (.cells #[.int .i64 o1] 3 (0,0)),pto b10 (.cells #[.int .i64 0,.slice none 0 0] 37 (0,0))] w) (fun c w ho hs=>⟨I,(.refl _),ho.sub ⟨r,r,r,r,r,r,trivial⟩,hs.pick (.c (.s .z) (.c (.s .z) (.c .z .n)))⟩) ?_))))))))
 rintro s103 next104 hd c w hst
 obtain ⟨I105,hl106,hok,hsym⟩:=hst
 replace R7:=R7.mono hl106
 refine Cod.at hok hsym (.sr (.ks 1 r (.nilS [18,17,16,15,6,2,0] r r (.seq (.condP r hd (fun hb108 hd=>?_) fun hb108 hd=>?_)))))
 · refine .skipS [17,16,15,6,2,0] r r (.seq (.block (.sr (.ks 1 r ?_))))
   obtain ⟨h123,x124,hx125,hd⟩:=hd
   obtain ⟨b126,o127,cs128,e129,hC130,hr131⟩:=R7.2 _ _ hx125
   obtain ⟨p132,c133,rfl,R134⟩:=hr131
   refine .ixa un47 sz37 r e129 r h123 (idx_lt hx125 h123) r r (.ldW ia37 sz37 hC130 r r r r (.allocA zv37 r r fun b135=>?_))
   refine .ks 1 r (.storeA sz37 r r .z (.t (.t .nil)) r r (.nilS [8,9,17,16,15,6,2,0] r r (.seq (.dr [0,1,2,3,4,5,6,7,8,9,10] 11 (.g r r r (fun _=>.loadW ia37 sz37 r .z r r r .mk) (.ww r fun ex=>?_))))))
   have hw138:=W_spvec_Right (I:=I105) R134 hd
   refine .callP call51 r hw138 r r fun v139 hv140=>?_
   obtain ⟨r137,rfl,hd⟩:=hv140
   refine .so 4 r r r trivial (.fk 2 r ?_)
   refine splitP hd (fun hb141 hd=>?_) fun hb141 hd=>?_
   · refine .g r r r (fun _=>.gno r r hb141 r r .mk) (.g r r r (fun _=>.gno r r hb141 r r .mk) (.g r r r (fun _=>.gno r r hb141 r r .mk) (.g r r r (fun _=>.gno r r hb141 r r .mk) (.g r r r (fun _=>.gno r r hb141 r r .mk) (.g r r r (fun _=>.gno r r hb141 r r .mk) (.g r r r (fun _=>.pickT r hb141 r r r .mk) (.e2 11 (.nilS [32,17,16,15,6,2,0] r r (.drop .z ?_)))))))))
     exact .condKT r r (.sr (.build zv37 un37 BI37 .n (by exact trivial) r r (.storeA sz37 r r (.s (.s .z)) (.t (.t .nil)) r r (.ks 1 r (.nilS [7,6,2] r r (.ret (oret results69 (.w ia37 sz37 r (.s (.s .z)) r (.t r .n)) hl106 (.c .z (.c .z .n)) ⟨(({ N:=0,Items:=([]:List Item) }:Vec),4),_,_,r,(.nil _ none 0),r,hd⟩)))))))
   refine .g r r r (fun _=>.gyes r r hb141 (.fa un37 r sz3 r (o:=0) r r r .mk)) (.g r r r (fun _=>.gyes r r hb141 (.load1 ia3 r .z r r r .mk)) (.g r r r (fun _=>.gyes r r hb141 (.move r r r .mk)) (.g r r r (fun _=>.gyes r r hb141 (.move r r r .mk)) (.ww r fun ex=>?_))))
   have hw142:=W_block_Glue_1_d22 (I:=I105) (o0:=o0) (o1:=o1) (a0:=s103) (b3:=b3) (b4:=b4) hd
   refine .gyes r r hb141 (.callS (.c call70 r r) (.c (.s .z) (.c (.s .z) .n)) hw142 r r fun v146 I143 l147 hl144 hv145=>?_)
   obtain ⟨r148,rfl,rfl,hd⟩:=hv145
   have le149:=IH.le.trans hl106 hl144
   replace R7:=R7.mono hl144
   replace R134:=R134.mono hl144
   refine .re (m':=(pto b3 (.cells #[.int .i64 o0] 3 (0,0))) :: (pto b4 (.cells #[.int .i64 o1] 3 (0,0))) :: (pto b135 (.cells #[.int .i64 x124.N,.slice p132 x124.Items.length c133] 37 (0,0))) :: (pto b10 (.cells #[.int .i64 0,.slice none 0 0] 37 (0,0))) :: ex) r (.so 4 r r r (.cg r r r r (fun _=>.gyes r r hb141 (.load1 ia3 r (.s (.s .z)) r r r .mk)) (.cg r r r r (fun _=>.gyes r r hb141 (.fa un37 r sz3 r (o:=0) r r r .mk)) trivial)) (.g r r r (fun _=>.gyes r r hb141 (.ne r r r r .mk)) (.g r r r (fun _=>.pickF r hb141 r r r .mk) (.e2 11 (.nilS [32,17,16,15,6,2,0] r r (.drop (.s (.s .z)) (.condP r hd (fun hb150 hd=>?_) fun hb150 hd=>?_)))))))
   · exact .sr (.build zv37 un37 BI37 .n (by exact trivial) r r (.storeA sz37 r r (.s (.s .z)) (.t (.t .nil)) r r (.ks 1 r (.nilS [7,6,2] r r (.ret (oret results69 (.w ia37 sz37 r (.s (.s .z)) r (.t r .n)) le149 (.c .z (.c .z .n)) ⟨(({ N:=0,Items:=([]:List Item) }:Vec),4),_,_,r,(.nil _ none 0),r,hd⟩))))))
   exact .skipS [17,16,15,6,2,0] r r (.region (.ks 2 r (.nil' fun c w ho hs=>⟨(w64 (s103+1)),hd,I143,le149,ho.sub ⟨r,r,r,r,r,r,trivial⟩,hs.pick (.c .z (.c .z (.c .z .n)))⟩)))
 refine .exitS [6,2,0] r r (.sr (.ks 1 r ?_))
 have hw160:=W_spvec_Glue (I:=I105) R7 hd
 refine .call call111 r hw160 r r fun v155 I152 hl153 hv154=>?_
 obtain ⟨r151,p157,c158,rfl,R159,hd⟩:=hv154
 have le161:=IH.le.trans hl106 hl153
 replace R7:=R7.mono hl153
 exact .ks 2 r (.storeA sz37 r r (.s (.s .z)) (.t (.t .nil)) r r (.ks 1 r (.nilS [7,6,2] r r (.ret (oret results69 (.w ia37 sz37 r (.s (.s .z)) r (.t r .n)) le161 (.c .z (.c .z .n)) ⟨(r151.1,r151.2),_,_,r,R159,r,hd⟩)))))
theorem W_block_Glue {I:IH} {a0:Int} {a1:Int} {a2:List Vec} {p1:Option Addr} {c2:Nat} {Q:(Vec×Int)→Prop} (R3:RepSl eVec I p1 c2 a2) (hd:block_Glue a0 a1 a2 Q) :
  PFun prog 22 [.int .i64 a0,.int .i64 a1,.slice p1 a2.length c2] I (o7_ Q):=by
 refine Fun.enter func22 r ntmps22 r (.c (.c (.c .n))) fun w0 M=>?_
 refine .sr (.box1 r r r r fun b13=>?_)
 refine .box1 r r r r fun b15=>?_
 refine .allocA zv37 r r fun b17=>?_
 refine .ks 1 r (.nilS [6,4,3,2] r r (.seq (.sr (.load1 ia3 r (.s (.s .z)) r r r ?_))))
 have hw20:=W_block_within (I:=I) hd
 refine .callP call55 r hw20 r r fun v21 hv22=>?_
 obtain ⟨r19,rfl,hd⟩:=hv22
 refine .ks 2 r ?_
 refine splitP hd (fun hb23 hd=>?_) fun hb23 hd=>?_
 · rw [hb23]
   refine .ks 4 r (.nilS [15,6,4,3,2] r r (.condKT r r (.sr (.build zv37 un37 BI37 .n (by exact trivial) r r (.storeA sz37 r r .z (.t (.t .nil)) r r (.ks 1 r (.nilS [7,6] r r (.drop (.s .z) (.drop (.s .z) ?_)))))))))
   exact .ret (pret results22 (.w ia37 sz37 r .z r (.t r .n)) (.refl _) ⟨(({ N:=0,Items:=([]:List Item) }:Vec),3),_,_,r,(.nil _ _ _),hd⟩)
 rw [hb23]
 refine .gyes r r r (.load1 ia3 r (.s .z) r r r ?_)
 have hw25:=W_block_side (I:=I) hd
 refine .gyes r r r (.callP call62 r hw25 r r fun v26 hv27=>?_)
 obtain ⟨r24,rfl,hd⟩:=hv27
 refine .ks 2 r (.nilS [15,6,4,3,2] r r (.condP r hd (fun hb28 hd=>?_) fun hb28 hd=>?_))
 · exact .sr (.build zv37 un37 BI37 .n (by exact trivial) r r (.storeA sz37 r r .z (.t (.t .nil)) r r (.ks 1 r (.nilS [7,6] r r (.drop (.s .z) (.drop (.s .z) (.ret (pret results22 (.w ia37 sz37 r .z r (.t r .n)) (.refl _) ⟨(({ N:=0,Items:=([]:List Item) }:Vec),3),_,_,r,(.nil _ _ _),hd⟩))))))))
 refine .skipS [6,4,3,2] r r (.sr (.ks 1 r (.load1 ia3 r (.s .z) r r r (.mkFn r r r r ?_))))
 have hw29:=W_block_glued_57b (I:=I) (o0:=a0) (o1:=a1) (a0:=a2) (a1:=a1) (b3:=b13) (b4:=b15) R3 hd
 refine .callS (.f call69 r) (.c (.s (.s .z)) (.c (.s .z) .n)) hw29 r r fun v33 I30 l34 hl31 hv32=>?_
 obtain ⟨r35,p36,c37,rfl,R38,rfl,hd⟩:=hv32
 replace R3:=R3.mono hl31
 exact .re (m':=[pto b13 (.cells #[.int .i64 a0] 3 (0,0)),pto b15 (.cells #[.int .i64 a1] 3 (0,0)),pto b17 (.cells #[.int .i64 0,.slice none 0 0] 37 (0,0))]) r (.ks 2 r (.storeA sz37 r r (.s (.s .z)) (.t (.t .nil)) r r (.ks 1 r (.nilS [7,6] r r (.drop .z (.drop .z (.ret (pret results22 (.w ia37 sz37 r .z r (.t r .n)) hl31 ⟨(r35.1,r35.2),_,_,r,R38,hd⟩))))))))
theorem W_block_Fit_1_802 {I:IH} {o0:Int} {o1:Int} {o2:Int} {o3:Int} {a0:Int} {b5:Nat} {b6:Nat} {b7:Nat} {b8:Nat} {Q:Int→Prop}  (hd:block_Fit_1_802 o0 o1 o2 o3 a0 Q) :
  Fun prog 72 #[.int .i64 a0,.pointer (some ⟨b5,0,none⟩),.pointer (some ⟨b6,0,none⟩),.pointer (some ⟨b7,0,none⟩),.pointer (some ⟨b8,0,none⟩)] I [pto b5 (.cells #[.int .i64 o0] 3 (0,0)),pto b6 (.cells #[.int .i64 o1] 3 (0,0)),pto b7 (.cells #[.int .i64 o2] 3 (0,0)),pto b8 (.cells #[.int .i64 o3] 3 (0,0))] (fun I_ v l=>∃ r,v=.int .i64 r∧l=[pto b5 (.cells #[.int .i64 o0] 3 (0,0)),pto b6 (.cells #[.int .i64 o1] 3 (0,0)),pto b7 (.cells #[.int .i64 o2] 3 (0,0)),pto b8 (.cells #[.int .i64 o3] 3 (0,0))]∧Q r):=by
 refine Fun.enter (vs:=[.int .i64 a0,.pointer (some ⟨b5,0,none⟩),.pointer (some ⟨b6,0,none⟩),.pointer (some ⟨b7,0,none⟩),.pointer (some ⟨b8,0,none⟩)]) func72 r ntmps72 r (.c (.c (.c (.c (.c .n))))) fun w0 M=>?_
 refine .sr (.ks 1 r (.nilS [4,3,2,1,0] r r (.seq (.dr [0,1,2,4,5,6,9,3,7,8,999] 10 (.g r r r (fun _=>.load1 ia3 r .z r r r .mk) (.g r r r (fun _=>.load1 ia3 r (.s .z) r r r .mk) (.fk 1 r (.g r r r (fun _=>.load1 ia3 r .z r r r .mk) (.g r r r (fun _=>.load1 ia3 r (.s (.s .z)) r r r .mk) ?_)))))))))
 refine .g r r r (fun _=>.load1 ia3 r (.s (.s (.s .z))) r r r .mk) (.a (fun b=>.pointer (some ⟨b,0,none⟩)) (fun b=>pto b (.cells #[.int .i64 0,.int .i64 0] 86 (0,0))) r r r r (fun _ L hL ex=>.allocA zv86 r r fun b=>.mk (val:=fun b=>.pointer (some ⟨b,0,none⟩)) (atom:=fun b=>pto b (.cells #[.int .i64 0,.int .i64 0] 86 (0,0))) hL b) (.ww r fun ex=>?_))
 have hw11:=W_block_bounds (I:=I) hd
 refine .callP call44 r hw11 r r fun v12 hv13=>?_
 obtain ⟨r10,rfl,hd⟩:=hv13
 refine .so 4 r r r (.cg r r r r (fun _=>.load1 ia3 r (.s (.s (.s .z))) r r r .mk) (.cg r r r r (fun _=>.load1 ia3 r (.s (.s .z)) r r r .mk) (.cg r r r r (fun _=>.load1 ia3 r .z r r r .mk) trivial))) (.ww r fun ex=>?_)
 have hw15:=W_block_bounds (I:=I) hd
 refine .callP call44 r hw15 r r fun v16 hv17=>?_
 obtain ⟨r14,rfl,hd⟩:=hv17
 refine .so 4 r r r trivial (.ww r fun ex=>?_)
 have hw19:=W_block_common (I:=I) hd
 refine .callP call57 r hw19 r r fun v20 hv21=>?_
 obtain ⟨r18,rfl,hd⟩:=hv21
 refine .so 4 r r r trivial (.b r fun b22=>DrawD.nop (.e2 10 (.storeA sz86 r r (.s (.s (.s (.s .z)))) (.t (.t .nil)) r r (.nilS [7,4,3,2,1] r r (.sr (.ixArr (i:=1) un86 sz3 r r (by decide) (o:=1) r r r (.load1 ia3 r (.s (.s (.s (.s .z)))) r r r (.ixArr (i:=0) un86 sz3 r r (by decide) (o:=0) r r r (.load1 ia3 r (.s (.s (.s (.s .z)))) r r r ?_)))))))))
 exact .ks 2 r (.nilS [6,4,3,2,1] r r (.drop (.s (.s (.s (.s .z)))) (.ret (oret results72 (.t r .n) (.refl _) (.c .z (.c .z (.c .z (.c .z .n)))) ⟨(w64 (r18.2 - r18.1)),r,r,hd⟩))))
theorem W_block_glued_ecf {I:IH} {o0:Int} {o1:Int} {o2:Int} {o3:Int} {a0:List Vec} {a1:Int} {b5:Nat} {b6:Nat} {b7:Nat} {b8:Nat} {p9:Option Addr} {c10:Nat} {Q:(Vec×Int)→Prop} (R11:RepSl eVec I p9 c10 a0) (hd:block_glued_ecf o0 o1 o2 o3 a0 a1 Q) :
  Fun prog 69 #[.slice p9 a0.length c10,.int .i64 a1,.func (.func 72) #[] #[.pointer (some ⟨b5,0,none⟩),.pointer (some ⟨b6,0,none⟩),.pointer (some ⟨b7,0,none⟩),.pointer (some ⟨b8,0,none⟩)]] I [pto b5 (.cells #[.int .i64 o0] 3 (0,0)),pto b6 (.cells #[.int .i64 o1] 3 (0,0)),pto b7 (.cells #[.int .i64 o2] 3 (0,0)),pto b8 (.cells #[.int .i64 o3] 3 (0,0))] (fun I_ v l=>∃ r p12 c13,v=.tuple #[.agg #[.int .i64 r.1.N,.slice p12 r.1.Items.length c13],.int .i64 r.2]∧RepSl eItem I_ p12 c13 r.1.Items∧l=[pto b5 (.cells #[.int .i64 o0] 3 (0,0)),pto b6 (.cells #[.int .i64 o1] 3 (0,0)),pto b7 (.cells #[.int .i64 o2] 3 (0,0)),pto b8 (.cells #[.int .i64 o3] 3 (0,0))]∧Q r):=by
 refine Fun.enter (vs:=[.slice p9 a0.length c10,.int .i64 a1,.func (.func 72) #[] #[.pointer (some ⟨b5,0,none⟩),.pointer (some ⟨b6,0,none⟩),.pointer (some ⟨b7,0,none⟩),.pointer (some ⟨b8,0,none⟩)]]) func69 r ntmps69 r (.c (.c (.c .n))) fun w0 M=>?_
 refine .sr (.allocA zv37 r r fun b14=>?_)
 refine .ks 1 r (.nilS [6,2,1,0] r r (.seq (.sr (.ks 1 r (.len un47 r r r r (.ks 2 r (.nilS [13,6,2,0] r r (.condP r hd (fun hb17 hd=>?_) fun hb17 hd=>?_))))))))
 · exact .sr (.build zv37 un37 BI37 .n (by exact trivial) r r (.storeA sz37 r r .z (.t (.t .nil)) r r (.ks 1 r (.nilS [7,6,2] r r (.ret (oret results69 (.w ia37 sz37 r .z r (.t r .n)) (.refl _) (.c (.s .z) (.c (.s .z) (.c (.s .z) (.c (.s .z) .n)))) ⟨(({ N:=0,Items:=([]:List Item) }:Vec),4),_,_,r,(.nil _ none 0),r,hd⟩))))))
 refine .skipS [6,2,0] r r (.seq (.sr (.ks 1 r (.len un47 r r r r (.ks 1 r (.nilS [17,16,15,6,2,0] r r (.block (.loop hd (fun (s107:Int) c w=>∃ I_,IH.le I I_∧Ok ⟨39,[],none⟩ [(0,.slice p9 a0.length c10),(2,.func (.func 72) #[] #[.pointer (some ⟨b5,0,none⟩),.pointer (some ⟨b6,0,none⟩),.pointer (some ⟨b7,0,none⟩),.pointer (some ⟨b8,0,none⟩)]),(6,.pointer (some ⟨b14,0,none⟩)),(15,.slice p9 a0.length c10),(16,.int .i64 (a0.length:Int)),(17,.int .i64 s107)] c∧Sym w0 M I I_ [pto b5 (.cells #[.int .i64 o0] 3 (0,0)),pto b6 (.cells #[.int .i64 o1] 3 (0,0)),pto b7 (.cells #[.int .i64 o2] 3 (0,0)),pto b8 (.cells #[.int .i64 o3] 3 (0,0)),pto b14 (.cells #[.int .i64 0,.slice none 0 0] 37 (0,0))] w) (fun c w ho hs=>⟨I,(.refl _),ho.sub ⟨r,r,r,r,r,r,trivial⟩,hs.pick (.c (.s .z) (.c (.s .z) (.c (.s .z) (.c (.s .z) (.c .z .n)))))⟩) ?_))))))))
 rintro s107 next108 hd c w hst
 obtain ⟨I109,hl110,hok,hsym⟩:=hst
 replace R11:=R11.mono hl110
 refine Cod.at hok hsym (.sr (.ks 1 r (.nilS [18,17,16,15,6,2,0] r r (.seq (.condP r hd (fun hb112 hd=>?_) fun hb112 hd=>?_)))))
 · refine .skipS [17,16,15,6,2,0] r r (.seq (.block (.sr (.ks 1 r ?_))))
   obtain ⟨h127,x128,hx129,hd⟩:=hd
   obtain ⟨b130,o131,cs132,e133,hC134,hr135⟩:=R11.2 _ _ hx129
   obtain ⟨p136,c137,rfl,R138⟩:=hr135
   refine .ixa un47 sz37 r e133 r h127 (idx_lt hx129 h127) r r (.ldW ia37 sz37 hC134 r r r r (.allocA zv37 r r fun b139=>?_))
   refine .ks 1 r (.storeA sz37 r r .z (.t (.t .nil)) r r (.nilS [8,9,17,16,15,6,2,0] r r (.seq (.dr [0,1,2,3,4,5,6,7,8,9,10] 11 (.g r r r (fun _=>.loadW ia37 sz37 r .z r r r .mk) (.ww r fun ex=>?_))))))
   have hw142:=W_spvec_Right (I:=I109) R138 hd
   refine .callP call51 r hw142 r r fun v143 hv144=>?_
   obtain ⟨r141,rfl,hd⟩:=hv144
   refine .so 6 r r r trivial (.fk 2 r ?_)
   refine splitP hd (fun hb145 hd=>?_) fun hb145 hd=>?_
   · refine .g r r r (fun _=>.gno r r hb145 r r .mk) (.g r r r (fun _=>.gno r r hb145 r r .mk) (.g r r r (fun _=>.gno r r hb145 r r .mk) (.g r r r (fun _=>.gno r r hb145 r r .mk) (.g r r r (fun _=>.gno r r hb145 r r .mk) (.g r r r (fun _=>.gno r r hb145 r r .mk) (.g r r r (fun _=>.pickT r hb145 r r r .mk) (.e2 11 (.nilS [32,17,16,15,6,2,0] r r (.drop .z ?_)))))))))
     exact .condKT r r (.sr (.build zv37 un37 BI37 .n (by exact trivial) r r (.storeA sz37 r r (.s (.s (.s (.s .z)))) (.t (.t .nil)) r r (.ks 1 r (.nilS [7,6,2] r r (.ret (oret results69 (.w ia37 sz37 r (.s (.s (.s (.s .z)))) r (.t r .n)) hl110 (.c .z (.c .z (.c .z (.c .z .n)))) ⟨(({ N:=0,Items:=([]:List Item) }:Vec),4),_,_,r,(.nil _ none 0),r,hd⟩)))))))
   refine .g r r r (fun _=>.gyes r r hb145 (.fa un37 r sz3 r (o:=0) r r r .mk)) (.g r r r (fun _=>.gyes r r hb145 (.load1 ia3 r .z r r r .mk)) (.g r r r (fun _=>.gyes r r hb145 (.move r r r .mk)) (.g r r r (fun _=>.gyes r r hb145 (.move r r r .mk)) (.ww r fun ex=>?_))))
   have hw146:=W_block_Fit_1_802 (I:=I109) (o0:=o0) (o1:=o1) (o2:=o2) (o3:=o3) (a0:=s107) (b5:=b5) (b6:=b6) (b7:=b7) (b8:=b8) hd
   refine .gyes r r hb145 (.callS (.c call72 r r) (.c (.s .z) (.c (.s .z) (.c (.s .z) (.c (.s .z) .n)))) hw146 r r fun v150 I147 l151 hl148 hv149=>?_)
   obtain ⟨r152,rfl,rfl,hd⟩:=hv149
   have le153:=IH.le.trans hl110 hl148
   replace R11:=R11.mono hl148
   replace R138:=R138.mono hl148
   refine .re (m':=(pto b5 (.cells #[.int .i64 o0] 3 (0,0))) :: (pto b6 (.cells #[.int .i64 o1] 3 (0,0))) :: (pto b7 (.cells #[.int .i64 o2] 3 (0,0))) :: (pto b8 (.cells #[.int .i64 o3] 3 (0,0))) :: (pto b139 (.cells #[.int .i64 x128.N,.slice p136 x128.Items.length c137] 37 (0,0))) :: (pto b14 (.cells #[.int .i64 0,.slice none 0 0] 37 (0,0))) :: ex) r (.so 6 r r r (.cg r r r r (fun _=>.gyes r r hb145 (.load1 ia3 r (.s (.s (.s (.s .z)))) r r r .mk)) (.cg r r r r (fun _=>.gyes r r hb145 (.fa un37 r sz3 r (o:=0) r r r .mk)) trivial)) (.g r r r (fun _=>.gyes r r hb145 (.ne r r r r .mk)) (.g r r r (fun _=>.pickF r hb145 r r r .mk) (.e2 11 (.nilS [32,17,16,15,6,2,0] r r (.drop (.s (.s (.s (.s .z)))) (.condP r hd (fun hb154 hd=>?_) fun hb154 hd=>?_)))))))
   · exact .sr (.build zv37 un37 BI37 .n (by exact trivial) r r (.storeA sz37 r r (.s (.s (.s (.s .z)))) (.t (.t .nil)) r r (.ks 1 r (.nilS [7,6,2] r r (.ret (oret results69 (.w ia37 sz37 r (.s (.s (.s (.s .z)))) r (.t r .n)) le153 (.c .z (.c .z (.c .z (.c .z .n)))) ⟨(({ N:=0,Items:=([]:List Item) }:Vec),4),_,_,r,(.nil _ none 0),r,hd⟩))))))
   exact .skipS [17,16,15,6,2,0] r r (.region (.ks 2 r (.nil' fun c w ho hs=>⟨(w64 (s107+1)),hd,I147,le153,ho.sub ⟨r,r,r,r,r,r,trivial⟩,hs.pick (.c .z (.c .z (.c .z (.c .z (.c .z .n)))))⟩)))
 refine .exitS [6,2,0] r r (.sr (.ks 1 r ?_))
 have hw164:=W_spvec_Glue (I:=I109) R11 hd
 refine .call call111 r hw164 r r fun v159 I156 hl157 hv158=>?_
 obtain ⟨r155,p161,c162,rfl,R163,hd⟩:=hv158
 have le165:=IH.le.trans hl110 hl157
 replace R11:=R11.mono hl157
 exact .ks 2 r (.storeA sz37 r r (.s (.s (.s (.s .z)))) (.t (.t .nil)) r r (.ks 1 r (.nilS [7,6,2] r r (.ret (oret results69 (.w ia37 sz37 r (.s (.s (.s (.s .z)))) r (.t r .n)) le165 (.c .z (.c .z (.c .z (.c .z .n)))) ⟨(r155.1,r155.2),_,_,r,R163,r,hd⟩)))))
theorem W_block_Fit {I:IH} {a0:Int} {a1:Int} {a2:Int} {a3:Int} {a4:List Vec} {p1:Option Addr} {c2:Nat} {Q:(Vec×Int)→Prop} (R3:RepSl eVec I p1 c2 a4) (hd:block_Fit a0 a1 a2 a3 a4 Q) :
  PFun prog 24 [.int .i64 a0,.int .i64 a1,.int .i64 a2,.int .i64 a3,.slice p1 a4.length c2] I (o7_ Q):=by
 refine Fun.enter func24 r ntmps24 r (.c (.c (.c (.c (.c .n))))) fun w0 M=>?_
 refine .sr (.box1 r r r r fun b17=>?_)
 refine .box1 r r r r fun b19=>?_
 refine .box1 r r r r fun b21=>?_
 refine .box1 r r r r fun b23=>?_
 refine .allocA zv37 r r fun b25=>?_
 refine .ks 1 r (.nilS [10,8,7,6,5,4] r r (.seq (.sr (.load1 ia3 r (.s (.s (.s (.s .z)))) r r r ?_))))
 have hw28:=W_block_within (I:=I) hd
 refine .callP call55 r hw28 r r fun v29 hv30=>?_
 obtain ⟨r27,rfl,hd⟩:=hv30
 refine .ks 2 r ?_
 refine splitP hd (fun hb31 hd=>?_) fun hb31 hd=>?_
 · rw [hb31]
   refine .ks 6 r (.nilS [21,10,8,7,6,5,4] r r (.condKT r r (.sr (.build zv37 un37 BI37 .n (by exact trivial) r r (.storeA sz37 r r .z (.t (.t .nil)) r r (.ks 1 r (.nilS [11,10] r r (.drop (.s .z) (.drop (.s .z) ?_)))))))))
   exact .drop (.s .z) (.drop (.s .z) (.ret (pret results24 (.w ia37 sz37 r .z r (.t r .n)) (.refl _) ⟨(({ N:=0,Items:=([]:List Item) }:Vec),3),_,_,r,(.nil _ _ _),hd⟩)))
 rw [hb31]
 refine .gyes r r r (.load1 ia3 r (.s (.s (.s .z))) r r r (.gyes r r r (.load1 ia3 r (.s (.s .z)) r r r (.gyes r r r (.load1 ia3 r (.s .z) r r r ?_)))))
 have hw33:=W_block_grid (I:=I) hd
 refine .gyes r r r (.callP call42 r hw33 r r fun v34 hv35=>?_)
 obtain ⟨r32,rfl,hd⟩:=hv35
 refine .ks 2 r (.nilS [21,10,8,7,6,5,4] r r (.condP r hd (fun hb36 hd=>?_) fun hb36 hd=>?_))
 · exact .sr (.build zv37 un37 BI37 .n (by exact trivial) r r (.storeA sz37 r r .z (.t (.t .nil)) r r (.ks 1 r (.nilS [11,10] r r (.drop (.s .z) (.drop (.s .z) (.drop (.s .z) (.drop (.s .z) (.ret (pret results24 (.w ia37 sz37 r .z r (.t r .n)) (.refl _) ⟨(({ N:=0,Items:=([]:List Item) }:Vec),3),_,_,r,(.nil _ _ _),hd⟩))))))))))
 refine .skipS [10,8,7,6,5,4] r r (.sr (.ks 1 r (.load1 ia3 r (.s (.s (.s .z))) r r r (.mkFn r r r r ?_))))
 have hw37:=W_block_glued_ecf (I:=I) (o0:=a0) (o1:=a1) (o2:=a2) (o3:=a3) (a0:=a4) (a1:=a1) (b5:=b17) (b6:=b19) (b7:=b21) (b8:=b23) R3 hd
 refine .callS (.f call69 r) (.c (.s (.s (.s (.s .z)))) (.c (.s (.s (.s .z))) (.c (.s (.s .z)) (.c (.s .z) .n)))) hw37 r r fun v41 I38 l42 hl39 hv40=>?_
 obtain ⟨r43,p44,c45,rfl,R46,rfl,hd⟩:=hv40
 replace R3:=R3.mono hl39
 exact .re (m':=[pto b17 (.cells #[.int .i64 a0] 3 (0,0)),pto b19 (.cells #[.int .i64 a1] 3 (0,0)),pto b21 (.cells #[.int .i64 a2] 3 (0,0)),pto b23 (.cells #[.int .i64 a3] 3 (0,0)),pto b25 (.cells #[.int .i64 0,.slice none 0 0] 37 (0,0))]) r (.ks 2 r (.storeA sz37 r r (.s (.s (.s (.s .z)))) (.t (.t .nil)) r r (.ks 1 r (.nilS [11,10] r r (.drop .z (.drop .z (.drop .z (.drop .z (.ret (pret results24 (.w ia37 sz37 r .z r (.t r .n)) hl39 ⟨(r43.1,r43.2),_,_,r,R46,hd⟩))))))))))
theorem W_push_rises {I:IH} {a0:List Sum} {p1:Option Addr} {c2:Nat} {Q:Bool→Prop} (R3:RepSl eSum I p1 c2 a0) (hd:push_rises a0 Q) :
  PFun prog 115 [.slice p1 a0.length c2] I (fun _=>o1_ Q):=by
 refine Fun.enter func115 r ntmps115 r (.c .n) fun w0 M=>?_
 refine .sr (.ks 1 r (.nilS [0] r r (.seq (.sr (.ks 1 r (.len un58 r r r r (.ks 1 r (.nilS [6,5,0] r r (.block ?_)))))))))
 refine .loop hd (fun (s31:Int) c w=>∃ I_,IH.le I I_∧Ok ⟨26,[],none⟩ [(0,.slice p1 a0.length c2),(5,.int .i64 (a0.length:Int)),(6,.int .i64 s31)] c∧Sym w0 M I I_ [] w) (fun c w ho hs=>⟨I,(.refl _),ho.sub ⟨r,r,r,trivial⟩,hs.pick .n⟩) ?_
 rintro s31 next32 hd c w hst
 obtain ⟨I33,hl34,hok,hsym⟩:=hst
 replace R3:=R3.mono hl34
 refine Cod.at hok hsym (.sr (.ks 1 r (.nilS [7,6,5,0] r r (.seq (.condP r hd (fun hb36 hd=>?_) fun hb36 hd=>?_)))))
 · refine .skipS [6,5,0] r r (.seq (.block (.sr (.ks 2 r (.nilS [3,6,5,0] r r (.seq (.dr [0,1,2,3,4,5,6,7,8,9,10,11,12,13,14,15] 16 (.fk 3 r ?_))))))))
   refine splitP hd (fun hb37 hd=>?_) fun hb37 hd=>?_
   · rw [hb37]
     refine .fk 3 r ?_
     obtain ⟨h38,x39,hx40,hd⟩:=hd
     obtain ⟨b41,o42,cs43,e44,hC45,hr46⟩:=R3.2 _ _ hx40
     cases hr46
     refine .g r r r (fun _=>.gyes r r r (.ixa un58 sz80 r e44 r h38 (idx_lt hx40 h38) r r .mk)) (.g r r r (fun _=>.gyes r r r (.fa un80 r sz3 r (o:=o42+(w64 (s31 - 1)).toNat*3) r r r .mk)) (.g r r r (fun _=>.gyes r r r (.ld1 (j:=0) ia3 hC45 r r r r r .mk)) (.fk 2 r ?_)))
     obtain ⟨h47,x48,hx49,hd⟩:=hd
     obtain ⟨b50,o51,cs52,e53,hC54,hr55⟩:=R3.2 _ _ hx49
     cases hr55
     refine .g r r r (fun _=>.gyes r r r (.ixa un58 sz80 r e53 r h47 (idx_lt hx49 h47) r r .mk)) (.g r r r (fun _=>.gyes r r r (.fa un80 r sz3 r (o:=o51+s31.toNat*3) r r r .mk)) (.g r r r (fun _=>.gyes r r r (.ld1 (j:=0) ia3 hC54 r r r r r .mk)) (.fk 2 r (.e2 16 (.nilS [24,6,5,0] r r (.condP r hd (fun hb56 hd=>?_) fun hb56 hd=>?_))))))
     · exact .sr (.ks 1 r (.nilS [2] r r (.ret (pret results115 (.t r .n) hl34 ⟨false,r,hd⟩))))
     exact .skipS [6,5,0] r r (.region (.ks 2 r (.nil' fun c w ho hs=>⟨(w64 (s31+1)),hd,I33,hl34,ho.sub ⟨r,r,r,trivial⟩,hs.pick .n⟩)))
   rw [hb37]
   exact .fk 13 r (.e2 16 (.nilS [24,6,5,0] r r (.condKF r r (.skipS [6,5,0] r r (.region (.ks 2 r (.nil' fun c w ho hs=>⟨(w64 (s31+1)),hd,I33,hl34,ho.sub ⟨r,r,r,trivial⟩,hs.pick .n⟩)))))))
 exact .exitS [] r r (.sr (.ks 1 r (.nilS [2] r r (.ret (pret results115 (.t r .n) hl34 ⟨true,r,hd⟩)))))
theorem W_push_heads_Len {I:IH} {a0:List Push_head} {p1:Option Addr} {c2:Nat} {Q:Int→Prop} (R3:RepSl ePush_head I p1 c2 a0) (hd:push_heads_Len a0 Q) :
  PFun prog 117 [.slice p1 a0.length c2] I (fun _=>o0_ Q):=by
 refine Fun.enter func117 r ntmps117 r (.c .n) fun w0 M=>?_
 exact .sr (.ks 1 r (.nilS [0] r r (.sr (.ks 1 r (.len un147 r r r r (.ks 1 r (.nilS [2] r r (.ret (pret results117 (.t r .n) (.refl _) ⟨(a0.length:Int),r,hd⟩)))))))))
theorem W_push_Merge_1_d96 {I:IH} {a0:List Sum} {p1:Option Addr} {c2:Nat} {Q:Bool→Prop} (R3:RepSl eSum I p1 c2 a0) (hd:push_Merge_1_d96 a0 Q) :
  Fun prog 114 #[.slice p1 a0.length c2] I [] (fun I_ v l=>∃ r,v=.bool r∧l=[]∧Q r):=by
 refine Fun.enter (vs:=[.slice p1 a0.length c2]) func114 r ntmps114 r (.c .n) fun w0 M=>?_
 refine .sr (.ks 1 r (.nilS [0] r r (.sr (.ks 1 r ?_))))
 have hw5:=W_push_rises (I:=I) R3 hd
 refine .callP call115 r hw5 r r fun v6 hv7=>?_
 obtain ⟨r4,rfl,hd⟩:=hv7
 exact .ks 2 r (.nilS [2] r r (.ret (oret results114 (.t r .n) (.refl _) .n ⟨(!r4),r,r,hd⟩)))
theorem W_slices_IndexFunc_api_Sum_api_Sum_acf {I:IH} {a0:List (List Sum)} {p1:Option Addr} {c2:Nat} {Q:Int→Prop} (R3:RepSl (slEl eSum) I p1 c2 a0) (hd:slices_IndexFunc_api_Sum_api_Sum_acf a0 Q) :
  Fun prog 152 #[.slice p1 a0.length c2,.func (.func 114) #[] #[]] I [] (fun I_ v l=>∃ r,v=.int .i64 r∧l=[]∧Q r):=by
 refine Fun.enter (vs:=[.slice p1 a0.length c2,.func (.func 114) #[] #[]]) func152 r ntmps152 r (.c (.c .n)) fun w0 M=>?_
 refine .sr (.ks 1 r (.nilS [1,0] r r (.seq (.sr (.ks 1 r (.len un106 r r r r (.ks 1 r (.nilS [8,7,1,0] r r (.block ?_)))))))))
 refine .loop hd (fun (s51:Int) c w=>∃ I_,IH.le I I_∧Ok ⟨19,[],none⟩ [(0,.slice p1 a0.length c2),(1,.func (.func 114) #[] #[]),(7,.int .i64 (a0.length:Int)),(8,.int .i64 s51)] c∧Sym w0 M I I_ [] w) (fun c w ho hs=>⟨I,(.refl _),ho.sub ⟨r,r,r,r,trivial⟩,hs.pick .n⟩) ?_
 rintro s51 next52 hd c w hst
 obtain ⟨I53,hl54,hok,hsym⟩:=hst
 replace R3:=R3.mono hl54
 refine Cod.at hok hsym (.sr (.ks 1 r (.nilS [9,8,7,1,0] r r (.seq (.condP r hd (fun hb56 hd=>?_) fun hb56 hd=>?_)))))
 · refine .skipS [8,7,1,0] r r (.seq (.block (.sr (.ks 2 r (.nilS [5,8,7,1,0] r r (.sr (.ks 3 r ?_)))))))
   obtain ⟨h57,x58,hx59,hd⟩:=hd
   obtain ⟨b60,o61,cs62,e63,hC64,hr65⟩:=R3.2 _ _ hx59
   obtain ⟨p66,c67,rfl,R68⟩:=hr65
   refine .ixa un106 sz58 r e63 r h57 (idx_lt hx59 h57) r r (.ld1 (j:=0) ia58 hC64 r r r r r ?_)
   have hw69:=W_push_Merge_1_d96 (I:=I53) (a0:=x58) R68 hd
   refine .callS (.c call114 r r) .n hw69 r r fun v73 I70 l74 hl71 hv72=>?_
   obtain ⟨r75,rfl,rfl,hd⟩:=hv72
   have le76:=IH.le.trans hl54 hl71
   replace R3:=R3.mono hl71
   replace R68:=R68.mono hl71
   replace hC64:=hC64.mono hl71
   refine .re (m':=[]) r (.nilS [16,5,8,7,1,0] r r (.condP r hd (fun hb77 hd=>?_) fun hb77 hd=>?_))
   · exact .sr (.ks 2 r (.nilS [4,1] r r (.ret (oret results152 (.t r .n) le76 .n ⟨s51,r,r,hd⟩))))
   exact .skipS [8,7,1,0] r r (.region (.ks 2 r (.nil' fun c w ho hs=>⟨(w64 (s51+1)),hd,I70,le76,ho.sub ⟨r,r,r,r,trivial⟩,hs.pick .n⟩)))
 exact .exitS [1] r r (.sr (.ks 1 r (.nilS [4,1] r r (.ret (oret results152 (.t r .n) hl54 .n ⟨(-1),r,r,hd⟩)))))
theorem W_slices_ContainsFunc_api_Sum_api_Sum_bfd {I:IH} {a0:List (List Sum)} {p1:Option Addr} {c2:Nat} {Q:Bool→Prop} (R3:RepSl (slEl eSum) I p1 c2 a0) (hd:slices_ContainsFunc_api_Sum_api_Sum_bfd a0 Q) :
  Fun prog 113 #[.slice p1 a0.length c2,.func (.func 114) #[] #[]] I [] (fun I_ v l=>∃ r,v=.bool r∧l=[]∧Q r):=by
 refine Fun.enter (vs:=[.slice p1 a0.length c2,.func (.func 114) #[] #[]]) func113 r ntmps113 r (.c (.c .n)) fun w0 M=>?_
 refine .sr (.ks 1 r (.nilS [1,0] r r (.sr (.ks 2 r ?_))))
 have hw4:=W_slices_IndexFunc_api_Sum_api_Sum_acf (I:=I) (a0:=a0) R3 hd
 refine .callS (.f call152 r) .n hw4 r r fun v8 I5 l9 hl6 hv7=>?_
 obtain ⟨r10,rfl,rfl,hd⟩:=hv7
 replace R3:=R3.mono hl6
 exact .re (m':=[]) r (.ks 2 r (.nilS [4,1] r r (.ret (oret results113 (.t r .n) hl6 .n ⟨(decide (0≤r10)),r,r,hd⟩))))
theorem W_push_heads_Push_5fa {I:IH} {o0:Push_merger} {a0:Push_head} {b2:Nat} {p3:Option Addr} {c4:Nat} {p6:Option Addr} {c7:Nat} {p11:Option Addr} {c12:Nat} {Q:Push_merger→Prop} (R13:RepSl eSum I p11 c12 a0.l) (hd:push_heads_Push_5fa o0 a0 Q) :
  Fun prog 229 #[.pointer (some ⟨b2,0,none⟩),.iface 187 (.agg #[.slice p11 a0.l.length c12,.int .i64 a0.which])] I [pto b2 (.cells #[.slice p3 o0.heads.length c4,.int .i64 o0.r,.slice p6 o0.out.length c7] 149 (0,0)),OwnSl ePush_head 187 p3 c4 o0.heads,OwnSl eSum 80 p6 c7 o0.out] (fun I_ v l=>∃ r p15 c16 p18 c19,v=.tuple #[]∧l=[pto b2 (.cells #[.slice p15 r.heads.length c16,.int .i64 r.r,.slice p18 r.out.length c19] 149 (0,0)),OwnSl ePush_head 187 p15 c16 r.heads,OwnSl eSum 80 p18 c19 r.out]∧Q r):=by
 refine Fun.enter (vs:=[.pointer (some ⟨b2,0,none⟩),.iface 187 (.agg #[.slice p11 a0.l.length c12,.int .i64 a0.which])]) func229 r ntmps229 r (.c (.c .n)) fun w0 M=>?_
 refine .sr (.ks 1 r (.assertOk un187 r r r r (.ks 3 r (.allocA zeroValue187 r r fun b16=>?_))))
 refine .storeA sz187 r r .z (.t (.t .nil)) r r (.ks 1 r (.nilS [5,4,0] r r (.sr (.ks 1 r (.nilS [11,4,0] r r (.condKT r r (.dr [0,1,2,3,4,5,6] 7 (.fk 2 r (.g r r r (fun _=>.nilCheckP r r r .mk) ?_)))))))))
 refine .g r r r (fun _=>.load1 ia147 r (.s .z) r r r .mk) (.g r r r (fun _=>.loadW isAgg187 sz187 r .z r r r .mk) (.ww r fun ex=>?_))
 refine .buildSlice 1 un147 sz187 zeroValue187 r r (.c r r r .n) r r fun b18=>?_
 refine .so 5 r r r (.cg r r r r (fun _=>.load1 ia147 r (.s (.s .z)) r r r .mk) (.cg r r r r (fun _=>.nilCheckP r r r .mk) (.ck 2 r r trivial))) (.ww r fun ex=>?_)
 obtain ⟨hl20,hd⟩:=hd
 refine .append (ys:=[a0]) 32 (.s (.s (.s .z))) un147 un147 IN187 r r r r r r r r r (.box .z (.one ⟨_,_,r,R13⟩) r) hl20 r r fun p21 c22=>?_
 exact .so 5 r r r (.ck 1 r r trivial) (.e2 7 (.nilCheckP r r r (.store1 sizeOf147 r r (.s (.s (.s .z))) (.t .nil) r (.nil' (oretN results229 .n (.refl _) (.c (.s (.s (.s .z))) (.c .z (.c (.s (.s .z)) .n))) ⟨({ heads:=(o0.heads++([a0])),r:=o0.r,out:=o0.out }:Push_merger),_,_,_,_,r,r,hd⟩)))))
theorem W_push_heads_Len_66a {I:IH} {o0:List Push_head} {p2:Option Addr} {c3:Nat} {Q:Int→Prop}  (hd:push_heads_Len_66a o0 Q) :
  Fun prog 117 #[.slice p2 o0.length c3] I [OwnSl ePush_head 187 p2 c3 o0] (fun I_ v l=>∃ r,v=.int .i64 r∧l=[OwnSl ePush_head 187 p2 c3 o0]∧Q r):=by
 refine Fun.enter (vs:=[.slice p2 o0.length c3]) func117 r ntmps117 r (.c .n) fun w0 M=>?_
 exact .sr (.ks 1 r (.nilS [0] r r (.sr (.ks 1 r (.len un147 r r r r (.ks 1 r (.nilS [2,0] r r (.ret (oret results117 (.t r .n) (.refl _) (.c .z .n) ⟨(o0.length:Int),r,r,hd⟩)))))))))
theorem W_push_heads_Less_706 {I:IH} {o0:List Push_head} {a0:Int} {a1:Int} {p2:Option Addr} {c3:Nat} {Q:Bool→Prop}  (hd:push_heads_Less_706 o0 a0 a1 Q) :
  Fun prog 227 #[.slice p2 o0.length c3,.int .i64 a0,.int .i64 a1] I [OwnSl ePush_head 187 p2 c3 o0] (fun I_ v l=>∃ r,v=.bool r∧l=[OwnSl ePush_head 187 p2 c3 o0]∧Q r):=by
 refine Fun.enter (vs:=[.slice p2 o0.length c3,.int .i64 a0,.int .i64 a1]) func227 r ntmps227 r (.c (.c (.c .n))) fun w0 M=>?_
 refine .sr (.ks 1 r (.nilS [2,1,0] r r (.seq (.ownF .z fun hne4=>?_))))
 refine .openS .z fun css5 hrep6=>?_
 refine .dr [0,1,2,3,4,5,6,7,8,9,10,11,12,13,14,15,17,18,19,20,21,22,23,24,25,26,16,27,28,29,30] 31 (.fk 2 r ?_)
 obtain ⟨h7,x8,hx9,hd⟩:=hd
 obtain ⟨b10,e11⟩:=hne4 (idx_ne hx9)
 cases e11
 obtain ⟨cs12,hc13,hcs14,hr15⟩:=hrep6.get hx9
 obtain ⟨p16,c17,rfl,R18⟩:=hr15
 refine .g r r r (fun _=>.ixa0 un147 sz187 r r h7 (idx_lt hx9 h7) r r .mk) (.g r r r (fun _=>.fa un187 r sz58 r (o:=a0.toNat*2) r r r .mk) (.g r r r (fun _=>.lo1 (j:=0) ia58 .z hcs14 r r r r r .mk) ?_))
 obtain ⟨h19,x20,hx21,hd⟩:=hd
 obtain ⟨b22,o23,cs24,e25,hC26,hr27⟩:=R18.2 _ _ hx21
 cases hr27
 refine .g r r r (fun _=>.ixa un58 sz80 r e25 r h19 (idx_lt hx21 h19) r r .mk) (.g r r r (fun _=>.fa un80 r sz3 r (o:=o23+(Int.toNat 0)*3) r r r .mk) (.g r r r (fun _=>.ld1 (j:=0) ia3 hC26 r r r r r .mk) (.fk 2 r ?_)))
 obtain ⟨h28,x29,hx30,hd⟩:=hd
 obtain ⟨cs31,hc32,hcs33,hr34⟩:=hrep6.get hx30
 obtain ⟨p35,c36,rfl,R37⟩:=hr34
 refine .g r r r (fun _=>.ixa0 un147 sz187 r r h28 (idx_lt hx30 h28) r r .mk) (.g r r r (fun _=>.fa un187 r sz58 r (o:=a1.toNat*2) r r r .mk) (.g r r r (fun _=>.lo1 (j:=0) ia58 .z hcs33 r r r r r .mk) ?_))
 obtain ⟨h38,x39,hx40,hd⟩:=hd
 obtain ⟨b41,o42,cs43,e44,hC45,hr46⟩:=R37.2 _ _ hx40
 cases hr46
 refine .g r r r (fun _=>.ixa un58 sz80 r e44 r h38 (idx_lt hx40 h38) r r .mk) (.g r r r (fun _=>.fa un80 r sz3 r (o:=o42+(Int.toNat 0)*3) r r r .mk) (.g r r r (fun _=>.ld1 (j:=0) ia3 hC45 r r r r r .mk) (.fk 2 r ?_)))
 obtain ⟨h47,x48,hx49,hd⟩:=hd
 obtain ⟨cs50,hc51,hcs52,hr53⟩:=hrep6.get hx49
 obtain ⟨p54,c55,rfl,R56⟩:=hr53
 refine .g r r r (fun _=>.ixa0 un147 sz187 r r h47 (idx_lt hx49 h47) r r .mk) (.g r r r (fun _=>.fa un187 r sz3 r (o:=a0.toNat*2+1) r r r .mk) (.g r r r (fun _=>.lo1 (j:=1) ia3 .z hcs52 r r r r r .mk) (.fk 2 r ?_)))
 obtain ⟨h57,x58,hx59,hd⟩:=hd
 obtain ⟨cs60,hc61,hcs62,hr63⟩:=hrep6.get hx59
 obtain ⟨p64,c65,rfl,R66⟩:=hr63
 refine .g r r r (fun _=>.ixa0 un147 sz187 r r h57 (idx_lt hx59 h57) r r .mk) (.g r r r (fun _=>.fa un187 r sz3 r (o:=a1.toNat*2+1) r r r .mk) (.g r r r (fun _=>.lo1 (j:=1) ia3 .z hcs62 r r r r r .mk) (.ww r fun ex=>?_)))
 have hw68:=W_cmp_Compare_int (I:=I) hd
 refine .callP call174 r hw68 r r fun v69 hv70=>?_
 obtain ⟨r67,rfl,hd⟩:=hv70
 refine .so 1 r r r (.cg r r r r (fun _=>.lo1 (j:=1) ia3 .z hcs62 r r r r r .mk) (.cg r r r r (fun _=>.fa un187 r sz3 r (o:=a1.toNat*2+1) r r r .mk) (.cg r r r r (fun _=>.ixa0 un147 sz187 r r h57 (idx_lt hx59 h57) r r .mk) (.ck 2 r r (.cg r r r r (fun _=>.lo1 (j:=1) ia3 .z hcs52 r r r r r .mk) (.cg r r r r (fun _=>.fa un187 r sz3 r (o:=a0.toNat*2+1) r r r .mk) (.cg r r r r (fun _=>.ixa0 un147 sz187 r r h47 (idx_lt hx49 h47) r r .mk) (.ck 2 r r trivial)))))))) (.ww r fun ex=>?_)
 have hw72:=W_cmp_Compare_int (I:=I) hd
 refine .callP call174 r hw72 r r fun v73 hv74=>?_
 obtain ⟨r71,rfl,hd⟩:=hv74
 refine .so 1 r r r trivial (.ww r fun ex=>?_)
 refine .buildSlice 2 un31 sz3 zv3 r r (.c r r r (.c r r r .n)) r r fun b75=>?_
 refine .so 2 r r r trivial (.ww r fun ex=>?_)
 refine .pubB (El:=eI64) (ys:=([r67,r71]:List Int)) (k:=2) .z (RepCs.cons (cs:=[.int .i64 r67]) r (RepCs.cons (cs:=[.int .i64 r71]) r .nil)) r fun I77 hl78 R79=>?_
 replace hrep6:=hrep6.mono hl78
 replace R18:=R18.mono hl78
 replace hC26:=hC26.mono hl78
 replace R37:=R37.mono hl78
 replace hC45:=hC45.mono hl78
 have hw81:=W_cmp_Or_int (I:=I77) R79 hd
 refine .callP call178 r hw81 r r fun v82 hv83=>?_
 obtain ⟨r80,rfl,hd⟩:=hv83
 exact .so 1 r r r trivial (.fk 1 r (.e2 31 (.closeS .z hrep6 (.ks 1 r (.nilS [6,0] r r (.ret (oret results227 (.t r .n) hl78 (.c .z .n) ⟨(decide (r80<0)),r,r,hd⟩)))))))
theorem W_push_heads_Swap_c73 {I:IH} {o0:List Push_head} {a0:Int} {a1:Int} {p2:Option Addr} {c3:Nat} {Q:(List Push_head)→Prop}  (hd:push_heads_Swap_c73 o0 a0 a1 Q) :
  Fun prog 230 #[.slice p2 o0.length c3,.int .i64 a0,.int .i64 a1] I [OwnSl ePush_head 187 p2 c3 o0] (fun I_ v l=>∃ r,v=.tuple #[]∧r.length=o0.length∧l=[OwnSl ePush_head 187 p2 c3 r]∧Q r):=by
 refine Fun.enter (vs:=[.slice p2 o0.length c3,.int .i64 a0,.int .i64 a1]) func230 r ntmps230 r (.c (.c (.c .n))) fun w0 M=>?_
 refine .ownF .z fun hne4=>?_
 refine .openS .z fun css5 hrep6=>?_
 refine .dr [0,1,2,3,4,5,6,7,8,9,10,11,12,13] 14 (.fk 6 r ?_)
 obtain ⟨h7,x8,hx9,hd⟩:=hd
 obtain ⟨b10,e11⟩:=hne4 (idx_ne hx9)
 cases e11
 obtain ⟨cs12,hc13,hcs14,hr15⟩:=hrep6.get hx9
 obtain ⟨p16,c17,rfl,R18⟩:=hr15
 refine .g r r r (fun _=>.ixa0 un147 sz187 r r h7 (idx_lt hx9 h7) r r .mk) (.g r r r (fun _=>.loA (j:=0) isAgg187 sz187 .z hcs14 r r (.t (.t .nil)) r r r .mk) (.fk 2 r ?_))
 obtain ⟨h19,x20,hx21,hd⟩:=hd
 obtain ⟨cs22,hc23,hcs24,hr25⟩:=hrep6.get hx21
 obtain ⟨p26,c27,rfl,R28⟩:=hr25
 refine .g r r r (fun _=>.ixa0 un147 sz187 r r h19 (idx_lt hx21 h19) r r .mk) (.g r r r (fun _=>.loA (j:=0) isAgg187 sz187 .z hcs24 r r (.t (.t .nil)) r r r .mk) ?_)
 obtain ⟨h29,x30,hx31,hd⟩:=hd
 obtain ⟨cs32,hc33,hcs34,hr35⟩:=hrep6.get hx31
 obtain ⟨p36,c37,rfl,R38⟩:=hr35
 refine .g r r r (fun _=>.ixa0 un147 sz187 r r h29 (idx_lt hx31 h29) r r .mk) (.ww r fun ex=>?_)
 have hrep39:=hrep6.set (x:=x8) a0.toNat (cs:=[.slice p16 x8.l.length c17,.int .i64 x8.which]) ⟨_,_,r,R18⟩ ⟨r,r⟩
 refine .stOA (j:=0) (v':=⟨[.slice p16 x8.l.length c17,.int .i64 x8.which],r,r⟩) sz187 .z hcs34 r r r (.t (.t .nil)) r r (.sn 1 r r r (.ck 2 r r trivial) (.e2 14 (.sub (E':=[(0,.slice (some ⟨b10,0,none⟩) (o0.set a0.toNat x8).length c3),(1,_),(2,_),(6,.slice (some ⟨b10,0,none⟩) (o0.set a0.toNat x8).length c3),(7,_),(8,.slice (some ⟨b10,0,none⟩) (o0.set a0.toNat x8).length c3),(9,_),(10,.slice (some ⟨b10,0,none⟩) (o0.set a0.toNat x8).length c3),(11,_),(12,_),(13,_),(14,.slice (some ⟨b10,0,none⟩) (o0.set a0.toNat x8).length c3),(15,_),(16,_),(17,_),(18,_)]) ⟨(by simp only [List.length_set]; rfl),r,r,(by simp only [List.length_set]; rfl),r,(by simp only [List.length_set]; rfl),r,(by simp only [List.length_set]; rfl),r,r,r,(by simp only [List.length_set]; rfl),r,r,r,r,trivial⟩ (.closeS .z hrep39 ?_))))
 obtain ⟨h40,x41,hx42,hd⟩:=hd
 refine .ixa0 un147 sz187 r r h40 (idx_lt hx42 h40) r r (.openS .z fun css43 hrep44=>?_)
 obtain ⟨cs45,hc46,hcs47,hr48⟩:=hrep44.get hx42
 obtain ⟨p49,c50,rfl,R51⟩:=hr48
 have hrep52:=hrep44.set (x:=x20) a1.toNat (cs:=[.slice p26 x20.l.length c27,.int .i64 x20.which]) ⟨_,_,r,R28⟩ ⟨r,r⟩
 exact .stOA (j:=0) (v':=⟨[.slice p26 x20.l.length c27,.int .i64 x20.which],r,r⟩) sz187 .z hcs47 r r r (.t (.t .nil)) r r (.closeS .z hrep52 (.sub (E':=[(0,.slice (some ⟨b10,0,none⟩) ((o0.set a0.toNat x8).set a1.toNat x20).length c3),(1,_),(2,_),(6,.slice (some ⟨b10,0,none⟩) ((o0.set a0.toNat x8).set a1.toNat x20).length c3),(7,_),(8,.slice (some ⟨b10,0,none⟩) ((o0.set a0.toNat x8).set a1.toNat x20).length c3),(9,_),(10,.slice (some ⟨b10,0,none⟩) ((o0.set a0.toNat x8).set a1.toNat x20).length c3),(11,_),(12,_),(13,_),(14,.slice (some ⟨b10,0,none⟩) ((o0.set a0.toNat x8).set a1.toNat x20).length c3),(15,_),(16,_),(17,_),(18,_),(19,_)]) ⟨(by simp only [List.length_set]; rfl),r,r,(by simp only [List.length_set]; rfl),r,(by simp only [List.length_set]; rfl),r,(by simp only [List.length_set]; rfl),r,r,r,(by simp only [List.length_set]; rfl),r,r,r,r,r,trivial⟩ (.nil' (oretN results230 .n (.refl _) (.c .z .n) ⟨((o0.set a0.toNat x8).set a1.toNat x20),r,(by first | exact r | assumption | omega | (simp only [List.length_set]; done) | (simp only [List.length_set]; omega) | (simp only [List.length_set] at *; omega)),r,hd⟩))))
theorem W_container_heap_up_248 {I:IH} {o0:Push_merger} {a0:Int} {b2:Nat} {p3:Option Addr} {c4:Nat} {p6:Option Addr} {c7:Nat} {Q:Push_merger→Prop}  (hd:container_heap_up_248 o0 a0 Q) :
  Fun prog 179 #[.iface 185 (.pointer (some ⟨b2,0,none⟩)),.int .i64 a0] I [pto b2 (.cells #[.slice p3 o0.heads.length c4,.int .i64 o0.r,.slice p6 o0.out.length c7] 149 (0,0)),OwnSl ePush_head 187 p3 c4 o0.heads,OwnSl eSum 80 p6 c7 o0.out] (fun I_ v l=>∃ r p12 c13 p15 c16,v=.tuple #[]∧l=[pto b2 (.cells #[.slice p12 r.heads.length c13,.int .i64 r.r,.slice p15 r.out.length c16] 149 (0,0)),OwnSl ePush_head 187 p12 c13 r.heads,OwnSl eSum 80 p15 c16 r.out]∧Q r):=by
 refine Fun.enter (vs:=[.iface 185 (.pointer (some ⟨b2,0,none⟩)),.int .i64 a0]) func179 r ntmps179 r (.c (.c .n)) fun w0 M=>?_
 refine .block (.loop hd (fun (s:(List Push_head)×Int) c w=>match s with | (s59,s60)=>∃ I_,IH.le I I_∧s59.length=o0.heads.length∧Ok ⟨23,[],none⟩ [(0,.iface 185 (.pointer (some ⟨b2,0,none⟩))),(1,.int .i64 s60)] c∧Sym w0 M I I_ [pto b2 (.cells #[.slice p3 s59.length c4,.int .i64 o0.r,.slice p6 o0.out.length c7] 149 (0,0)),OwnSl ePush_head 187 p3 c4 s59,OwnSl eSum 80 p6 c7 o0.out] w) (fun c w ho hs=>⟨I,(.refl _),(by first | exact r | assumption | omega | (simp only [List.length_set]; done) | (simp only [List.length_set]; omega) | (simp only [List.length_set] at *; omega)),ho.sub ⟨r,r,trivial⟩,hs.pick (.c .z (.c .z (.c .z .n)))⟩) ?_)
 rintro ⟨s59,s60⟩ next61 hd c w hst
 obtain ⟨I62,hl63,hlen64,hok,hsym⟩:=hst
 refine Cod.at hok hsym (.block (.sr (.ks 2 r (.quo r r (by decide) r r (.ks 1 r (.nilS [4,1,0] r r (.seq (.sr (.ks 4 r ?_)))))))))
 refine splitP hd (fun hb65 hd=>?_) fun hb65 hd=>?_
 · rw [hb65]
   exact .ks 6 r (.nilS [17,4,1,0] r r (.condKT r r (.exit (oretN results179 .n hl63 (.c .z (.c .z (.c .z .n))) ⟨({ heads:=s59,r:=o0.r,out:=o0.out }:Push_merger),_,_,_,_,r,r,hd⟩))))
 rw [hb65]
 refine .ks 3 r ?_
 have hw66:=W_push_heads_Less_706 (I:=I62) (o0:=s59) (a0:=s60) (a1:=(w64 ((w64 (s60 - 1)).tdiv 2))) (p2:=p3) (c3:=c4) hd
 refine .gyes r r r (.callS (.iv call227 (methodV (method_val MD IN185 r r r un185) ia147 .z r) r r) (.c (.s .z) .n) hw66 r r fun v70 I67 l71 hl68 hv69=>?_)
 obtain ⟨r72,rfl,rfl,hd⟩:=hv69
 have le73:=IH.le.trans hl63 hl68
 refine .re (m':=[OwnSl ePush_head 187 p3 c4 s59,pto b2 (.cells #[.slice p3 s59.length c4,.int .i64 o0.r,.slice p6 o0.out.length c7] 149 (0,0)),OwnSl eSum 80 p6 c7 o0.out]) r (.ks 2 r (.nilS [17,4,1,0] r r (.condP r hd (fun hb74 hd=>?_) fun hb74 hd=>?_)))
 · exact .exit (oretN results179 .n le73 (.c (.s .z) (.c .z (.c .z .n))) ⟨({ heads:=s59,r:=o0.r,out:=o0.out }:Push_merger),_,_,_,_,r,r,hd⟩)
 refine .skipS [4,1,0] r r (.sr (.ks 3 r ?_))
 have hw75:=W_push_heads_Swap_c73 (I:=I67) (o0:=s59) (a0:=(w64 ((w64 (s60 - 1)).tdiv 2))) (a1:=s60) (p2:=p3) (c3:=c4) hd
 refine .callS (.iv call230 (methodV (method_val MD IN185 r r r un185) ia147 (.s .z) r) r r) (.c .z .n) hw75 r r fun v79 I76 l80 hl77 hv78=>?_
 obtain ⟨r81,rfl,hlen85,rfl,hd⟩:=hv78
 have le86:=IH.le.trans le73 hl77
 exact .reat (.s .z) (B:=pto b2 (.cells #[.slice p3 r81.length c4,.int .i64 o0.r,.slice p6 o0.out.length c7] 149 (0,0))) (by rw [hlen85]) (.nilS [4,0] r r (.region (.ks 2 r (.nil' fun c w ho hs=>⟨(r81,w64 ((w64 (s60 - 1)).tdiv 2)),hd,I76,le86,(by first | exact r | assumption | omega | (simp only [List.length_set]; done) | (simp only [List.length_set]; omega) | (simp only [List.length_set] at *; omega)),ho.sub ⟨r,r,trivial⟩,hs.pick (.c (.s .z) (.c .z (.c .z .n)))⟩))))
theorem W_container_heap_Push_f07 {I:IH} {o0:Push_merger} {a0:Push_head} {b2:Nat} {p3:Option Addr} {c4:Nat} {p6:Option Addr} {c7:Nat} {p11:Option Addr} {c12:Nat} {Q:Push_merger→Prop} (R13:RepSl eSum I p11 c12 a0.l) (hd:container_heap_Push_f07 o0 a0 Q) :
  Fun prog 153 #[.iface 185 (.pointer (some ⟨b2,0,none⟩)),.iface 187 (.agg #[.slice p11 a0.l.length c12,.int .i64 a0.which])] I [pto b2 (.cells #[.slice p3 o0.heads.length c4,.int .i64 o0.r,.slice p6 o0.out.length c7] 149 (0,0)),OwnSl ePush_head 187 p3 c4 o0.heads,OwnSl eSum 80 p6 c7 o0.out] (fun I_ v l=>∃ r p15 c16 p18 c19,v=.tuple #[]∧l=[pto b2 (.cells #[.slice p15 r.heads.length c16,.int .i64 r.r,.slice p18 r.out.length c19] 149 (0,0)),OwnSl ePush_head 187 p15 c16 r.heads,OwnSl eSum 80 p18 c19 r.out]∧Q r):=by
 refine Fun.enter (vs:=[.iface 185 (.pointer (some ⟨b2,0,none⟩)),.iface 187 (.agg #[.slice p11 a0.l.length c12,.int .i64 a0.which])]) func153 r ntmps153 r (.c (.c .n)) fun w0 M=>?_
 refine .sr (.ks 2 r ?_)
 have hw14:=W_push_heads_Push_5fa (I:=I) (o0:=o0) (a0:=a0) (b2:=b2) (p3:=p3) (c4:=c4) (p6:=p6) (c7:=c7) R13 hd
 refine .callS (.i call229 (method_ptr MD IN185 r r r un185) r r) (.c .z (.c .z (.c .z .n))) hw14 r r fun v18 I15 l19 hl16 hv17=>?_
 obtain ⟨r20,p23,c24,p26,c27,rfl,rfl,hd⟩:=hv17
 replace R13:=R13.mono hl16
 refine .re (m':=[pto b2 (.cells #[.slice p23 r20.heads.length c24,.int .i64 r20.r,.slice p26 r20.out.length c27] 149 (0,0)),OwnSl ePush_head 187 p23 c24 r20.heads,OwnSl eSum 80 p26 c27 r20.out]) r (.nilS [0] r r (.region (.ks 2 r ?_)))
 have hw31:=W_push_heads_Len_66a (I:=I15) (o0:=r20.heads) (p2:=p23) (c3:=c24) hd
 refine .callS (.iv call117 (methodV (method_val MD IN185 r r r un185) ia147 .z r) r r) (.c (.s .z) .n) hw31 r r fun v35 I32 l36 hl33 hv34=>?_
 obtain ⟨r37,rfl,rfl,hd⟩:=hv34
 have le38:=IH.le.trans hl16 hl33
 refine .re (m':=[OwnSl ePush_head 187 p23 c24 r20.heads,pto b2 (.cells #[.slice p23 r20.heads.length c24,.int .i64 r20.r,.slice p26 r20.out.length c27] 149 (0,0)),OwnSl eSum 80 p26 c27 r20.out]) r (.ks 1 r ?_)
 have hw39:=W_container_heap_up_248 (I:=I32) (o0:=r20) (a0:=(w64 (r37 - 1))) (b2:=b2) (p3:=p23) (c4:=c24) (p6:=p26) (c7:=c27) hd
 refine .callS (.f call179 r) (.c (.s .z) (.c .z (.c .z .n))) hw39 r r fun v43 I40 l44 hl41 hv42=>?_
 obtain ⟨r45,p48,c49,p51,c52,rfl,rfl,hd⟩:=hv42
 have le56:=IH.le.trans le38 hl41
 exact .re (m':=[pto b2 (.cells #[.slice p48 r45.heads.length c49,.int .i64 r45.r,.slice p51 r45.out.length c52] 149 (0,0)),OwnSl ePush_head 187 p48 c49 r45.heads,OwnSl eSum 80 p51 c52 r45.out]) r (.nil' (oretN results153 .n le56 (.c .z (.c .z (.c .z .n))) ⟨r45,_,_,_,_,r,r,hd⟩))
theorem W_push_merger_put_46e {I:IH} {o0:Push_merger} {a0:List Sum} {a1:Int} {b2:Nat} {p3:Option Addr} {c4:Nat} {p6:Option Addr} {c7:Nat} {p11:Option Addr} {c12:Nat} {Q:Push_merger→Prop} (R13:RepSl eSum I p11 c12 a0) (hd:push_merger_put_46e o0 a0 a1 Q) :
  Fun prog 116 #[.pointer (some ⟨b2,0,none⟩),.slice p11 a0.length c12,.int .i64 a1] I [pto b2 (.cells #[.slice p3 o0.heads.length c4,.int .i64 o0.r,.slice p6 o0.out.length c7] 149 (0,0)),OwnSl ePush_head 187 p3 c4 o0.heads,OwnSl eSum 80 p6 c7 o0.out] (fun I_ v l=>∃ r p15 c16 p18 c19,v=.tuple #[]∧l=[pto b2 (.cells #[.slice p15 r.heads.length c16,.int .i64 r.r,.slice p18 r.out.length c19] 149 (0,0)),OwnSl ePush_head 187 p15 c16 r.heads,OwnSl eSum 80 p18 c19 r.out]∧Q r):=by
 refine Fun.enter (vs:=[.pointer (some ⟨b2,0,none⟩),.slice p11 a0.length c12,.int .i64 a1]) func116 r ntmps116 r (.c (.c (.c .n))) fun w0 M=>?_
 refine .sr (.ks 1 r (.len un58 r r r r (.ks 1 r (.nilS [8,2,1,0] r r (.condP r hd (fun hb14 hd=>?_) fun hb14 hd=>?_)))))
 · refine .region (.ks 1 r (.nilCheckP r r r (.fa un149 r sizeOf147 r (o:=0) r r r (.mkIface un185 r r r r (.ks 2 r (.build zeroValue187 un187 BI187 (.c r r r (.t .nil) (.c r r r (.s (.t .nil)) .n)) (by exact ⟨⟨_,_,r,r,r⟩,⟨⟨_,_,r,r,r⟩,trivial⟩⟩) r r (.mkIface un187 r r r r ?_)))))))
   have hw15:=W_container_heap_Push_f07 (I:=I) (o0:=o0) (a0:=({ l:=a0,which:=a1 }:Push_head)) (b2:=b2) (p3:=p3) (c4:=c4) (p6:=p6) (c7:=c7) R13 hd
   refine .callS (.f call153 r) (.c .z (.c .z (.c .z .n))) hw15 r r fun v19 I16 l20 hl17 hv18=>?_
   obtain ⟨r21,p24,c25,p27,c28,rfl,rfl,hd⟩:=hv18
   replace R13:=R13.mono hl17
   exact .re (m':=[pto b2 (.cells #[.slice p24 r21.heads.length c25,.int .i64 r21.r,.slice p27 r21.out.length c28] 149 (0,0)),OwnSl ePush_head 187 p24 c25 r21.heads,OwnSl eSum 80 p27 c28 r21.out]) r (.nil' (oretN results116 .n hl17 (.c .z (.c .z (.c .z .n))) ⟨r21,_,_,_,_,r,r,hd⟩))
 exact .skip' (oretN results116 .n (.refl _) (.c .z (.c .z (.c .z .n))) ⟨o0,_,_,_,_,r,r,hd⟩)
theorem W_container_heap_down_206 {I:IH} {o0:Push_merger} {a0:Int} {a1:Int} {b2:Nat} {p3:Option Addr} {c4:Nat} {p6:Option Addr} {c7:Nat} {Q:(Bool×Push_merger)→Prop}  (hd:container_heap_down_206 o0 a0 a1 Q) :
  Fun prog 180 #[.iface 185 (.pointer (some ⟨b2,0,none⟩)),.int .i64 a0,.int .i64 a1] I [pto b2 (.cells #[.slice p3 o0.heads.length c4,.int .i64 o0.r,.slice p6 o0.out.length c7] 149 (0,0)),OwnSl ePush_head 187 p3 c4 o0.heads,OwnSl eSum 80 p6 c7 o0.out] (fun I_ v l=>∃ r p12 c13 p15 c16,v=.bool r.1∧l=[pto b2 (.cells #[.slice p12 r.2.heads.length c13,.int .i64 r.2.r,.slice p15 r.2.out.length c16] 149 (0,0)),OwnSl ePush_head 187 p12 c13 r.2.heads,OwnSl eSum 80 p15 c16 r.2.out]∧Q r):=by
 refine Fun.enter (vs:=[.iface 185 (.pointer (some ⟨b2,0,none⟩)),.int .i64 a0,.int .i64 a1]) func180 r ntmps180 r (.c (.c (.c .n))) fun w0 M=>?_
 refine .sr (.ks 1 r (.nilS [2,1,0] r r (.sr (.ks 2 r (.nilS [7,2,1,0] r r (.seq (.block (.loop hd (fun (s:(List Push_head)×Int) c w=>match s with | (s129,s130)=>∃ I_,IH.le I I_∧s129.length=o0.heads.length∧Ok ⟨48,[],none⟩ [(0,.iface 185 (.pointer (some ⟨b2,0,none⟩))),(1,.int .i64 a0),(2,.int .i64 a1),(7,.int .i64 s130)] c∧Sym w0 M I I_ [pto b2 (.cells #[.slice p3 s129.length c4,.int .i64 o0.r,.slice p6 o0.out.length c7] 149 (0,0)),OwnSl ePush_head 187 p3 c4 s129,OwnSl eSum 80 p6 c7 o0.out] w) (fun c w ho hs=>⟨I,(.refl _),(by first | exact r | assumption | omega | (simp only [List.length_set]; done) | (simp only [List.length_set]; omega) | (simp only [List.length_set] at *; omega)),ho.sub ⟨r,r,r,r,trivial⟩,hs.pick (.c .z (.c .z (.c .z .n)))⟩) ?_))))))))
 rintro ⟨s129,s130⟩ next131 hd c w hst
 obtain ⟨I132,hl133,hlen134,hok,hsym⟩:=hst
 refine Cod.at hok hsym (.block (.sr (.ks 4 r (.nilS [8,7,2,1,0] r r (.seq (.sr (.ks 4 r ?_)))))))
 refine splitP hd (fun hb137 hd=>?_) fun hb137 hd=>?_
 · rw [hb137]
   exact .ks 3 r (.nilS [21,8,7,2,1,0] r r (.condKT r r (.exitS [7,1,0] r r (.sr (.ks 4 r (.nilS [6,0] r r (.ret (oret results180 (.t r .n) hl133 (.c .z (.c .z (.c .z .n))) ⟨(decide (a0<s130),({ heads:=s129,r:=o0.r,out:=o0.out }:Push_merger)),_,_,_,_,r,r,hd⟩))))))))
 rw [hb137]
 refine .ks 3 r (.nilS [21,8,7,2,1,0] r r (.condP r hd (fun hb138 hd=>?_) fun hb138 hd=>?_))
 · exact .exitS [7,1,0] r r (.sr (.ks 4 r (.nilS [6,0] r r (.ret (oret results180 (.t r .n) hl133 (.c .z (.c .z (.c .z .n))) ⟨(decide (a0<s130),({ heads:=s129,r:=o0.r,out:=o0.out }:Push_merger)),_,_,_,_,r,r,hd⟩)))))
 refine .skipS [8,7,2,1,0] r r (.sr (.ks 2 r (.nilS [9,8,7,2,1,0] r r (.seq ?_))))
 refine Cod.joinQ (σ:=Int) hd (fun (s159:Int) c w=>∃ I_,IH.le I132 I_∧Ok ⟨48,[],none⟩ [(0,.iface 185 (.pointer (some ⟨b2,0,none⟩))),(1,.int .i64 a0),(2,.int .i64 a1),(7,.int .i64 s130),(9,.int .i64 s159)] c∧Sym w0 M I I_ [pto b2 (.cells #[.slice p3 s129.length c4,.int .i64 o0.r,.slice p6 o0.out.length c7] 149 (0,0)),OwnSl ePush_head 187 p3 c4 s129,OwnSl eSum 80 p6 c7 o0.out] w) (fun k160 hd=>?_) ?_
 · skip
   refine .sr (.ks 3 r (.nilS [10,9,8,7,2,1,0] r r (.sr (.ks 4 r ?_))))
   refine splitP hd (fun hb161 hd=>?_) fun hb161 hd=>?_
   · rw [hb161]
     refine .ks 3 r ?_
     have hw162:=W_push_heads_Less_706 (I:=I132) (o0:=s129) (a0:=(w64 ((w64 ((w64 (2*s130))+1))+1))) (a1:=(w64 ((w64 (2*s130))+1))) (p2:=p3) (c3:=c4) hd
     refine .gyes r r r (.callS (.iv call227 (methodV (method_val MD IN185 r r r un185) ia147 .z r) r r) (.c (.s .z) .n) hw162 r r fun v166 I163 l167 hl164 hv165=>?_)
     obtain ⟨r168,rfl,rfl,hd⟩:=hv165
     have le169:=IH.le.trans hl133 hl164
     refine .re (m':=[OwnSl ePush_head 187 p3 c4 s129,pto b2 (.cells #[.slice p3 s129.length c4,.int .i64 o0.r,.slice p6 o0.out.length c7] 149 (0,0)),OwnSl eSum 80 p6 c7 o0.out]) r (.ks 1 r (.nilS [33,10,9,7,2,1,0] r r (.condP r hd (fun hb170 hd=>?_) fun hb170 hd=>?_)))
     · exact .region (.ks 2 r (.nil' fun c w ho hs=>⟨(w64 ((w64 ((w64 (2*s130))+1))+1)),hd,I163,hl164,ho.sub ⟨r,r,r,r,r,trivial⟩,hs.pick (.c (.s .z) (.c .z (.c .z .n)))⟩))
     exact .skip' fun c w ho hs=>⟨(w64 ((w64 (2*s130))+1)),hd,I163,hl164,ho.sub ⟨r,r,r,r,r,trivial⟩,hs.pick (.c (.s .z) (.c .z (.c .z .n)))⟩
   rw [hb161]
   exact .ks 5 r (.nilS [33,10,9,7,2,1,0] r r (.condKF r r (.skip' fun c w ho hs=>⟨(w64 ((w64 (2*s130))+1)),hd,I132,(.refl _),ho.sub ⟨r,r,r,r,r,trivial⟩,hs.pick (.c .z (.c .z (.c .z .n)))⟩)))
 rintro s159 hd c w hst
 obtain ⟨I171,hl172,hok,hsym⟩:=hst
 have le173:=IH.le.trans hl133 hl172
 refine Cod.at hok hsym (.seq (.sr (.ks 3 r ?_)))
 have hw174:=W_push_heads_Less_706 (I:=I171) (o0:=s129) (a0:=s159) (a1:=s130) (p2:=p3) (c3:=c4) hd
 refine .callS (.iv call227 (methodV (method_val MD IN185 r r r un185) ia147 .z r) r r) (.c (.s .z) .n) hw174 r r fun v178 I175 l179 hl176 hv177=>?_
 obtain ⟨r180,rfl,rfl,hd⟩:=hv177
 have le181:=IH.le.trans le173 hl176
 have le182:=IH.le.trans hl172 hl176
 refine .re (m':=[OwnSl ePush_head 187 p3 c4 s129,pto b2 (.cells #[.slice p3 s129.length c4,.int .i64 o0.r,.slice p6 o0.out.length c7] 149 (0,0)),OwnSl eSum 80 p6 c7 o0.out]) r (.ks 1 r (.nilS [39,9,7,2,1,0] r r (.condP r hd (fun hb183 hd=>?_) fun hb183 hd=>?_)))
 · exact .exitS [7,1,0] r r (.sr (.ks 4 r (.nilS [6,0] r r (.ret (oret results180 (.t r .n) le181 (.c (.s .z) (.c .z (.c .z .n))) ⟨(decide (a0<s130),({ heads:=s129,r:=o0.r,out:=o0.out }:Push_merger)),_,_,_,_,r,r,hd⟩)))))
 refine .skipS [9,7,2,1,0] r r (.sr (.ks 3 r ?_))
 have hw184:=W_push_heads_Swap_c73 (I:=I175) (o0:=s129) (a0:=s130) (a1:=s159) (p2:=p3) (c3:=c4) hd
 refine .callS (.iv call230 (methodV (method_val MD IN185 r r r un185) ia147 (.s .z) r) r r) (.c .z .n) hw184 r r fun v188 I185 l189 hl186 hv187=>?_
 obtain ⟨r190,rfl,hlen194,rfl,hd⟩:=hv187
 have le195:=IH.le.trans le181 hl186
 have le196:=IH.le.trans le182 hl186
 exact .reat (.s .z) (B:=pto b2 (.cells #[.slice p3 r190.length c4,.int .i64 o0.r,.slice p6 o0.out.length c7] 149 (0,0))) (by rw [hlen194]) (.nilS [9,2,1,0] r r (.region (.ks 2 r (.nil' fun c w ho hs=>⟨(r190,s159),hd,I185,le195,(by first | exact r | assumption | omega | (simp only [List.length_set]; done) | (simp only [List.length_set]; omega) | (simp only [List.length_set] at *; omega)),ho.sub ⟨r,r,r,r,trivial⟩,hs.pick (.c (.s .z) (.c .z (.c .z .n)))⟩))))
theorem W_push_heads_Pop_df2 {I:IH} {o0:Push_merger} {b2:Nat} {p3:Option Addr} {c4:Nat} {p6:Option Addr} {c7:Nat} {Q:(Push_head×Push_merger)→Prop}  (hd:push_heads_Pop_df2 o0 Q) :
  Fun prog 228 #[.pointer (some ⟨b2,0,none⟩)] I [pto b2 (.cells #[.slice p3 o0.heads.length c4,.int .i64 o0.r,.slice p6 o0.out.length c7] 149 (0,0)),OwnSl ePush_head 187 p3 c4 o0.heads,OwnSl eSum 80 p6 c7 o0.out] (fun I_ v l=>∃ r p20 c21 p12 c13 p15 c16,v=.iface 187 (.agg #[.slice p20 r.1.l.length c21,.int .i64 r.1.which])∧RepSl eSum I_ p20 c21 r.1.l∧l=[pto b2 (.cells #[.slice p12 r.2.heads.length c13,.int .i64 r.2.r,.slice p15 r.2.out.length c16] 149 (0,0)),OwnSl ePush_head 187 p12 c13 r.2.heads,OwnSl eSum 80 p15 c16 r.2.out]∧Q r):=by
 refine Fun.enter (vs:=[.pointer (some ⟨b2,0,none⟩)]) func228 r ntmps228 r (.c .n) fun w0 M=>?_
 refine .sr (.ks 1 r (.nilS [0] r r (.sr (.ks 1 r (.nilCheckP r r r (.load1 ia147 r .z r r r (.len un147 r r r r (.ks 2 r (.nilS [3,0] r r ?_)))))))))
 refine .sr (.ks 1 r (.nilCheckP r r r (.load1 ia147 r .z r r r (.ks 1 r ?_))))
 obtain ⟨h23,x24,hx25,hd⟩:=hd
 refine .ownNe (.s .z) (idx_ne hx25) fun b26 e27=>?_
 cases e27
 refine .ixa0 un147 sz187 r r h23 (idx_lt hx25 h23) r r (.loEW isAgg187 sz187 (.s .z) hx25 r r r r r fun cs31 hr32=>?_)
 obtain ⟨p28,c29,rfl,R30⟩:=hr32
 refine .allocA zeroValue187 r r fun b33=>?_
 refine .storeA sz187 r r .z (.t (.t .nil)) r r (.nilS [4,3,0] r r (.sr (.ks 2 r (.nilCheckP r r r (.load1 ia147 r (.s .z) r r r (.ks 1 r ?_))))))
 obtain ⟨h35,h36,h37,hd⟩:=hd
 refine .sliceT (H:=(w64 ((o0.heads.length:Int) - 1)).toNat) un147 sz187 r r (.s (.s .z)) (.s (.s .z)) r (by omega) r (by omega) r r (.nilCheckP r r r (.store1 sizeOf147 r r (.s .z) (.t .nil) r (.nilS [4,0] r r (.sr (.loadW isAgg187 sz187 r .z r r r (.mkIface un187 r r r r (.ks 1 r (.nilS [2,0] r r (.drop .z ?_)))))))))
 exact .ret (oret results228 (.t r .n) (.refl _) (.c .z (.c .z (.c .z .n))) ⟨(x24,({ heads:=(o0.heads.take (w64 ((o0.heads.length:Int) - 1)).toNat),r:=o0.r,out:=o0.out }:Push_merger)),_,_,_,_,_,_,r,R30,r,hd⟩)
theorem W_container_heap_Pop_4c3 {I:IH} {o0:Push_merger} {b2:Nat} {p3:Option Addr} {c4:Nat} {p6:Option Addr} {c7:Nat} {Q:(Push_head×Push_merger)→Prop}  (hd:container_heap_Pop_4c3 o0 Q) :
  Fun prog 154 #[.iface 185 (.pointer (some ⟨b2,0,none⟩))] I [pto b2 (.cells #[.slice p3 o0.heads.length c4,.int .i64 o0.r,.slice p6 o0.out.length c7] 149 (0,0)),OwnSl ePush_head 187 p3 c4 o0.heads,OwnSl eSum 80 p6 c7 o0.out] (fun I_ v l=>∃ r p20 c21 p12 c13 p15 c16,v=.iface 187 (.agg #[.slice p20 r.1.l.length c21,.int .i64 r.1.which])∧RepSl eSum I_ p20 c21 r.1.l∧l=[pto b2 (.cells #[.slice p12 r.2.heads.length c13,.int .i64 r.2.r,.slice p15 r.2.out.length c16] 149 (0,0)),OwnSl ePush_head 187 p12 c13 r.2.heads,OwnSl eSum 80 p15 c16 r.2.out]∧Q r):=by
 refine Fun.enter (vs:=[.iface 185 (.pointer (some ⟨b2,0,none⟩))]) func154 r ntmps154 r (.c .n) fun w0 M=>?_
 refine .sr (.ks 1 r (.nilS [0] r r (.sr (.ks 1 r ?_))))
 have hw18:=W_push_heads_Len_66a (I:=I) (o0:=o0.heads) (p2:=p3) (c3:=c4) hd
 refine .callS (.iv call117 (methodV (method_val MD IN185 r r r un185) ia147 .z r) r r) (.c (.s .z) .n) hw18 r r fun v22 I19 l23 hl20 hv21=>?_
 obtain ⟨r24,rfl,rfl,hd⟩:=hv21
 refine .re (m':=[OwnSl ePush_head 187 p3 c4 o0.heads,pto b2 (.cells #[.slice p3 o0.heads.length c4,.int .i64 o0.r,.slice p6 o0.out.length c7] 149 (0,0)),OwnSl eSum 80 p6 c7 o0.out]) r (.ks 2 r (.nilS [3,0] r r (.sr (.ks 2 r ?_))))
 have hw25:=W_push_heads_Swap_c73 (I:=I19) (o0:=o0.heads) (a0:=0) (a1:=(w64 (r24 - 1))) (p2:=p3) (c3:=c4) hd
 refine .callS (.iv call230 (methodV (method_val MD IN185 r r r un185) ia147 (.s .z) r) r r) (.c .z .n) hw25 r r fun v29 I26 l30 hl27 hv28=>?_
 obtain ⟨r31,rfl,hlen35,rfl,hd⟩:=hv28
 have le36:=IH.le.trans hl20 hl27
 refine .reat (.s .z) (B:=pto b2 (.cells #[.slice p3 r31.length c4,.int .i64 o0.r,.slice p6 o0.out.length c7] 149 (0,0))) (by rw [hlen35]) (.nilS [3,0] r r (.sr (.ks 2 r ?_)))
 have hw37:=W_container_heap_down_206 (I:=I26) (o0:=({ heads:=r31,r:=o0.r,out:=o0.out }:Push_merger)) (a0:=0) (a1:=(w64 (r24 - 1))) (b2:=b2) (p3:=p3) (c4:=c4) (p6:=p6) (c7:=c7) hd
 refine .callS (.f call180 r) (.c (.s .z) (.c .z (.c .z .n))) hw37 r r fun v41 I38 l42 hl39 hv40=>?_
 obtain ⟨r43,p46,c47,p49,c50,rfl,rfl,hd⟩:=hv40
 have le54:=IH.le.trans le36 hl39
 refine .re (m':=[pto b2 (.cells #[.slice p46 r43.2.heads.length c47,.int .i64 r43.2.r,.slice p49 r43.2.out.length c50] 149 (0,0)),OwnSl ePush_head 187 p46 c47 r43.2.heads,OwnSl eSum 80 p49 c50 r43.2.out]) r (.nilS [0] r r (.sr (.ks 1 r ?_)))
 have hw55:=W_push_heads_Pop_df2 (I:=I38) (o0:=r43.2) (b2:=b2) (p3:=p46) (c4:=c47) (p6:=p49) (c7:=c50) hd
 refine .callS (.i call228 (method_ptr MD IN185 r r r un185) r r) (.c .z (.c .z (.c .z .n))) hw55 r r fun v59 I56 l60 hl57 hv58=>?_
 obtain ⟨r61,p62,c63,p67,c68,p70,c71,rfl,R64,rfl,hd⟩:=hv58
 have le75:=IH.le.trans le54 hl57
 exact .re (m':=[pto b2 (.cells #[.slice p67 r61.2.heads.length c68,.int .i64 r61.2.r,.slice p70 r61.2.out.length c71] 149 (0,0)),OwnSl ePush_head 187 p67 c68 r61.2.heads,OwnSl eSum 80 p70 c71 r61.2.out]) r (.ks 1 r (.nilS [2,0] r r (.ret (oret results154 (.t r .n) le75 (.c .z (.c .z (.c .z .n))) ⟨(r61.1,r61.2),_,_,_,_,_,_,r,R64,r,hd⟩))))
theorem W_push_merger_next_d58 {I:IH} {o0:Push_merger} {b2:Nat} {p3:Option Addr} {c4:Nat} {p6:Option Addr} {c7:Nat} {Q:Push_merger→Prop}  (hd:push_merger_next_d58 o0 Q) :
  Fun prog 118 #[.pointer (some ⟨b2,0,none⟩)] I [pto b2 (.cells #[.slice p3 o0.heads.length c4,.int .i64 o0.r,.slice p6 o0.out.length c7] 149 (0,0)),OwnSl ePush_head 187 p3 c4 o0.heads,OwnSl eSum 80 p6 c7 o0.out] (fun I_ v l=>∃ r p12 c13 p15 c16,v=.tuple #[]∧l=[pto b2 (.cells #[.slice p12 r.heads.length c13,.int .i64 r.r,.slice p15 r.out.length c16] 149 (0,0)),OwnSl ePush_head 187 p12 c13 r.heads,OwnSl eSum 80 p15 c16 r.out]∧Q r):=by
 refine Fun.enter (vs:=[.pointer (some ⟨b2,0,none⟩)]) func118 r ntmps118 r (.c .n) fun w0 M=>?_
 refine .sr (.ks 1 r (.nilCheckP r r r (.fa un149 r sizeOf147 r (o:=0) r r r (.load1 ia147 r .z r r r ?_))))
 obtain ⟨h23,x24,hx25,hd⟩:=hd
 refine .ownNe (.s .z) (idx_ne hx25) fun b26 e27=>?_
 cases e27
 refine .ixa0 un147 sz187 r r h23 (idx_lt hx25 h23) r r (.loEW isAgg187 sz187 (.s .z) hx25 r r r r r fun cs31 hr32=>?_)
 obtain ⟨p28,c29,rfl,R30⟩:=hr32
 refine .allocA zeroValue187 r r fun b33=>?_
 refine .storeA sz187 r r .z (.t (.t .nil)) r r (.nilS [2,0] r r (.sr (.ks 1 r (.nilCheckP r r r (.fa un149 r sizeOf147 r (o:=0) r r r (.mkIface un185 r r r r ?_))))))
 have hw55:=W_container_heap_Pop_4c3 (I:=I) (o0:=o0) (b2:=b2) (p3:=some ⟨b26,0,none⟩) (c4:=c4) (p6:=p6) (c7:=c7) hd
 refine .callS (.f call154 r) (.c (.s .z) (.c (.s .z) (.c (.s .z) .n))) hw55 r r fun v59 I56 l60 hl57 hv58=>?_
 obtain ⟨r61,p62,c63,p67,c68,p70,c71,rfl,R64,rfl,hd⟩:=hv58
 replace R30:=R30.mono hl57
 refine .re (m':=[pto b2 (.cells #[.slice p67 r61.2.heads.length c68,.int .i64 r61.2.r,.slice p70 r61.2.out.length c71] 149 (0,0)),OwnSl ePush_head 187 p67 c68 r61.2.heads,OwnSl eSum 80 p70 c71 r61.2.out,pto b33 (.cells #[.slice p28 x24.l.length c29,.int .i64 x24.which] 187 (0,0))]) r (.nilS [2,0] r r (.sr (.fa un187 r sz58 r (o:=0) r r r (.load1 ia58 r (.s (.s (.s .z))) r r r ?_))))
 obtain ⟨h86,x87,hx88,hd⟩:=hd
 obtain ⟨b89,o90,cs91,e92,hC93,hr94⟩:=R30.2 _ _ hx88
 cases hr94
 refine .ixa un58 sz80 r e92 r h86 (idx_lt hx88 h86) r r (.ldW isAgg80 sz80 hC93 r r r r (.allocA zv80 r r fun b95=>?_))
 refine .storeA sz80 r r .z (.t (.t (.t .nil))) r r (.nilS [3,2,0] r r (.seq (.dr [0,1,2,3,4,5,6] 7 (.fk 1 r (.g r r r (fun _=>.fa un187 r sz58 r (o:=0) r r r .mk) (.g r r r (fun _=>.load1 ia58 r (.s (.s (.s (.s .z)))) r r r .mk) ?_))))))
 obtain ⟨h125,h126,h127,hd⟩:=hd
 have h133:Int.toNat 1≤Int.toNat (x24.l.length:Int):=by omega
 have h134:Int.toNat (x24.l.length:Int)≤x24.l.length:=by omega
 obtain ⟨p128,c129,e131,e132,R130⟩:=RepSl.sliceW R30 (Int.toNat 1) (Int.toNat (x24.l.length:Int)) c29 h133 h134 (.inl rfl)
 refine .g r r r (fun _=>.sliceW (L:=Int.toNat 1) (H:=Int.toNat (x24.l.length:Int)) (cm:=c29) un58 sz80 r r R30.1 r r r (.inr ⟨_,_,r,h125,r⟩) (.inl ⟨r,r,r⟩) (.inl r) h133 h134 r e131 e132 r r .mk) (.g r r r (fun _=>.fa un187 r sz3 r (o:=1) r r r .mk) (.g r r r (fun _=>.load1 ia3 r (.s (.s (.s (.s .z)))) r r r .mk) (.ww r fun ex=>?_)))
 have hw135:=W_push_merger_put_46e (I:=I56) (o0:=r61.2) (a0:=((x24.l.take (x24.l.length:Int).toNat).drop (Int.toNat 1))) (a1:=x24.which) (b2:=b2) (p3:=p67) (c4:=c68) (p6:=p70) (c7:=c71) R130 hd
 refine .callS (.f call116 r) (.c (.s .z) (.c (.s .z) (.c (.s .z) .n))) hw135 r r fun v139 I136 l140 hl137 hv138=>?_
 obtain ⟨r141,p144,c145,p147,c148,rfl,rfl,hd⟩:=hv138
 have le152:=IH.le.trans hl57 hl137
 replace R30:=R30.mono hl137
 replace R130:=R130.mono hl137
 refine .re (m':=(pto b2 (.cells #[.slice p144 r141.heads.length c145,.int .i64 r141.r,.slice p147 r141.out.length c148] 149 (0,0))) :: (OwnSl ePush_head 187 p144 c145 r141.heads) :: (OwnSl eSum 80 p147 c148 r141.out) :: (pto b95 (.cells #[.int .i64 x87.At,.int .i64 x87.Val.Hi,.int .u64 x87.Val.Lo] 80 (0,0))) :: (pto b33 (.cells #[.slice p28 x24.l.length c29,.int .i64 x24.which] 187 (0,0))) :: ex) r (.so 5 r r r trivial (.e2 7 (.nilS [3,0] r r (.drop (.s (.s (.s (.s .z)))) (.seq (.sr (.ks 1 r (.nilCheckP r r r (.fa un149 r sz58 r (o:=2) r r r ?_)))))))))
 refine .load1 ia58 r .z r r r (.len un58 r r r r (.ks 1 r (.nilS [4,3,0] r r (.seq ?_))))
 refine Cod.joinQ (σ:=Bool) hd (fun (s213:Bool) c w=>∃ I_,IH.le I136 I_∧Ok ⟨82,[],none⟩ [(0,.pointer (some ⟨b2,0,none⟩)),(3,.pointer (some ⟨b95,0,none⟩)),(4,.int .i64 (r141.out.length:Int)),(47,.bool s213)] c∧Sym w0 M I I_ [pto b2 (.cells #[.slice p144 r141.heads.length c145,.int .i64 r141.r,.slice p147 r141.out.length c148] 149 (0,0)),OwnSl ePush_head 187 p144 c145 r141.heads,OwnSl eSum 80 p147 c148 r141.out,pto b95 (.cells #[.int .i64 x87.At,.int .i64 x87.Val.Hi,.int .u64 x87.Val.Lo] 80 (0,0))] w) (fun k214 hd=>?_) ?_
 · skip
   refine .ownF (.s .z) fun hne215=>?_
   refine .ownF (.s (.s .z)) fun hne216=>?_
   refine .dr [0,1,2,3,4,5,6,7,8,9,10,11,12,13,14,15] 16 (.fk 3 r ?_)
   refine splitP hd (fun hb217 hd=>?_) fun hb217 hd=>?_
   · rw [hb217]
     refine .fk 1 r (.g r r r (fun _=>.gyes r r r (.nilCheckP r r r .mk)) (.g r r r (fun _=>.gyes r r r (.fa un149 r sz58 r (o:=2) r r r .mk)) (.g r r r (fun _=>.gyes r r r (.load1 ia58 r .z r r r .mk)) (.fk 2 r ?_))))
     obtain ⟨h218,x219,hx220,hd⟩:=hd
     obtain ⟨b221,e222⟩:=hne216 (idx_ne hx220)
     cases e222
     exact .g r r r (fun _=>.gyes r r r (.ixa0 un58 sz80 r r h218 (idx_lt hx220 h218) r r .mk)) (.g r r r (fun _=>.gyes r r r (.fa un80 r sz3 r (o:=((w64 ((r141.out.length:Int) - 1)).toNat)*3) r r r .mk)) (.g r r r (fun _=>.gyes r r r (.lo1 (j:=0) ia3 (.s (.s .z)) hx220 r r r r r .mk)) (.g r r r (fun _=>.gyes r r r (.fa un80 r sz3 r (o:=0) r r r .mk)) (.g r r r (fun _=>.gyes r r r (.load1 ia3 r (.s (.s (.s .z))) r r r .mk)) (.fk 2 r (.e2 16 (.nil' fun c w ho hs=>⟨(x219.At==x87.At),hd,I136,(.refl _),ho.sub ⟨r,r,r,r,trivial⟩,hs.pick (.c .z (.c .z (.c .z (.c .z .n))))⟩)))))))
   rw [hb217]
   exact .fk 13 r (.e2 16 (.nil' fun c w ho hs=>⟨false,hd,I136,(.refl _),ho.sub ⟨r,r,r,r,trivial⟩,hs.pick (.c .z (.c .z (.c .z (.c .z .n))))⟩))
 rintro s213 hd c w hst
 obtain ⟨I223,hl224,hok,hsym⟩:=hst
 have le225:=IH.le.trans le152 hl224
 refine Cod.at hok hsym (.condP r hd (fun hb226 hd=>?_) fun hb226 hd=>?_)
 · refine .seq (.ownF (.s .z) fun hne227=>?_)
   refine .ownF (.s (.s .z)) fun hne228=>?_
   refine .dr [0,1,2,3,4,5,6,7,8,9,10,11,12,13,14,15,16,17,18,19,20,21,22,23,24] 25 (.fk 1 r (.g r r r (fun _=>.nilCheckP r r r .mk) (.g r r r (fun _=>.fa un149 r sz58 r (o:=2) r r r .mk) (.g r r r (fun _=>.load1 ia58 r .z r r r .mk) (.fk 3 r (.g r r r (fun _=>.nilCheckP r r r .mk) (.g r r r (fun _=>.fa un149 r sizeOf22 r (o:=1) r r r .mk) (.g r r r (fun _=>.load1 isAgg22 r .z r r r .mk) (.fk 1 r ?_)))))))))
   refine .g r r r (fun _=>.nilCheckP r r r .mk) (.g r r r (fun _=>.fa un149 r sz58 r (o:=2) r r r .mk) (.g r r r (fun _=>.load1 ia58 r .z r r r .mk) (.fk 2 r ?_)))
   obtain ⟨h229,x230,hx231,hd⟩:=hd
   obtain ⟨b232,e233⟩:=hne228 (idx_ne hx231)
   cases e233
   refine .g r r r (fun _=>.ixa0 un58 sz80 r r h229 (idx_lt hx231 h229) r r .mk) (.g r r r (fun _=>.fa un80 r sz78 r (o:=((w64 ((r141.out.length:Int) - 1)).toNat)*3+1) r r r .mk) (.g r r r (fun _=>.loA (j:=1) ia78 sz78 (.s (.s .z)) hx231 r r (.s (.t (.t .nil))) r r r .mk) (.g r r r (fun _=>.fa un80 r sz78 r (o:=1) r r r .mk) (.g r r r (fun _=>.loadA ia78 sz78 r (.s (.s (.s .z))) (.s (.t (.t .nil))) r r r .mk) (.ww r fun ex=>?_)))))
   have hw235:=W_ring_Add (I:=I223) hd
   refine .callP call145 r hw235 r r fun v236 hv237=>?_
   obtain ⟨r234,rfl,hd⟩:=hv237
   refine .so 4 r r r (.ck 2 r r (.cg r r r r (fun _=>.load1 ia58 r .z r r r .mk) (.cg r r r r (fun _=>.fa un149 r sz58 r (o:=2) r r r .mk) (.cg r r r r (fun _=>.nilCheckP r r r .mk) (.ck 1 r r trivial))))) ?_
   obtain ⟨h238,x239,hx240,hd⟩:=hd
   refine .g r r r (fun _=>.ixa0 un58 sz80 r r h238 (idx_lt hx240 h238) r r .mk) (.g r r r (fun _=>.fa un80 r sz78 r (o:=((w64 ((r141.out.length:Int) - 1)).toNat)*3+1) r r r .mk) (.ww r fun ex=>?_))
   exact .stOA (j:=1) (v':=({ At:=x239.At,Val:=r234 }:Sum)) sz78 (.s (.s .z)) hx240 r r r (.s (.t (.t .nil))) r r (.reat .z (B:=pto b2 (.cells #[.slice p144 r141.heads.length c145,.int .i64 r141.r,.slice (some ⟨b232,0,none⟩) (r141.out.set ((w64 ((r141.out.length:Int) - 1)).toNat) ({ At:=x239.At,Val:=r234 }:Sum)).length c148] 149 (0,0))) (by simp only [List.length_set]) (.sn 4 r r r trivial (.e2 25 (.sub (E':=[(0,_),(3,_),(4,_),(47,_),(48,_),(49,_),(50,_),(51,.slice (some ⟨b232,0,none⟩) (r141.out.set ((w64 ((r141.out.length:Int) - 1)).toNat) ({ At:=x239.At,Val:=r234 }:Sum)).length c148),(52,_),(53,_),(54,_),(55,_),(56,_),(57,_),(58,_),(59,_),(60,_),(61,.slice (some ⟨b232,0,none⟩) (r141.out.set ((w64 ((r141.out.length:Int) - 1)).toNat) ({ At:=x239.At,Val:=r234 }:Sum)).length c148),(62,_),(63,_),(64,_),(65,_),(66,_),(67,_),(68,_),(69,_),(70,_),(71,_)]) ⟨r,r,r,r,r,r,r,(by simp only [List.length_set]; rfl),r,r,r,r,r,r,r,r,r,(by simp only [List.length_set]; rfl),r,r,r,r,r,r,r,r,r,r,trivial⟩ (.reat .z (B:=pto b2 (.cells #[.slice p144 r141.heads.length c145,.int .i64 r141.r,.slice (some ⟨b232,0,none⟩) (r141.out.set ((w64 ((r141.out.length:Int) - 1)).toNat) ({ At:=x239.At,Val:=r234 }:Sum)).length c148] 149 (0,0))) (by simp only [List.length_set]) (.nilS [0] r r (.drop (.s (.s (.s .z))) (.ret (oret results118 .n le225 (.c .z (.c .z (.c .z .n))) ⟨({ heads:=r141.heads,r:=r141.r,out:=(r141.out.set ((w64 ((r141.out.length:Int) - 1)).toNat) ({ At:=x239.At,Val:=r234 }:Sum)) }:Push_merger),_,_,_,_,r,r,hd⟩)))))))))
 refine .skipS [3,0] r r (.dr [0,1,2,3,4,5,6,7,8,9,10] 11 (.fk 2 r (.g r r r (fun _=>.nilCheckP r r r .mk) (.g r r r (fun _=>.fa un149 r sz58 r (o:=2) r r r .mk) (.g r r r (fun _=>.load1 ia58 r .z r r r .mk) (.g r r r (fun _=>.loadW isAgg80 sz80 r (.s (.s (.s .z))) r r r .mk) (.ww r fun ex=>?_)))))))
 refine .buildSlice 1 un58 sz80 zv80 r r (.c r r r .n) r r fun b241=>?_
 refine .so 5 r r r (.cg r r r r (fun _=>.load1 ia58 r (.s .z) r r r .mk) (.cg r r r r (fun _=>.fa un149 r sz58 r (o:=2) r r r .mk) (.cg r r r r (fun _=>.nilCheckP r r r .mk) (.ck 2 r r trivial)))) (.ww r fun ex=>?_)
 obtain ⟨hl243,hd⟩:=hd
 refine .append (ys:=[x87]) 24 (.s (.s (.s .z))) un58 un58 IN80 r r r r r r r r r (.box .z (.one r) r) hl243 r r fun p244 c245=>?_
 refine .so 5 r r r (.ck 1 r r trivial) (.g r r r (fun _=>.nilCheckP r r r .mk) (.g r r r (fun _=>.fa un149 r sz58 r (o:=2) r r r .mk) (.ww r fun ex=>?_)))
 exact .store1 sz58 r r (.s (.s .z)) (.s (.s (.t .nil))) r (.sn 5 r r r trivial (.e2 11 (.nil' (oretN results118 .n le225 (.c (.s (.s .z)) (.c (.s (.s .z)) (.c .z .n))) ⟨({ heads:=r141.heads,r:=r141.r,out:=(r141.out++([x87])) }:Push_merger),_,_,_,_,r,r,hd⟩))))
theorem W_push_Merge {I:IH} {a0:Int} {a1:List (List Sum)} {p1:Option Addr} {c2:Nat} {Q:((List Sum)×Int)→Prop} (R3:RepSl (slEl eSum) I p1 c2 a1) (hd:push_Merge a0 a1 Q) :
  OFun prog 75 [.int .i64 a0,.slice p1 a1.length c2] I (fun I_ v l=>∃ r p4 c5,v=.tuple #[.slice p4 r.1.length c5,.int .i64 r.2]∧l=[OwnSl eSum 80 p4 c5 r.1]∧Q r):=by
 refine Fun.enter func75 r ntmps75 r (.c (.c .n)) fun w0 M=>?_
 refine .sr (.ks 2 r (.nilS [1,0] r r (.seq (.sr (.ks 1 r ?_)))))
 have hw13:=W_ring_Is (I:=I) hd
 refine .callP call73 r hw13 r r fun v14 hv15=>?_
 obtain ⟨r12,rfl,hd⟩:=hv15
 refine .ks 1 r (.nilS [11,1,0] r r (.condP r hd (fun hb16 hd=>?_) fun hb16 hd=>?_))
 · exact .sr (.ks 2 r (.nilS [5,4] r r (.own0 eSum 80 (.ret (oret results75 (.t r (.t r .n)) (.refl _) (.c .z .n) ⟨(([]:List Sum),8),_,_,r,r,hd⟩)))))
 refine .skipS [1,0] r r (.seq (.sr (.ks 1 r ?_)))
 have hw26:=W_slices_ContainsFunc_api_Sum_api_Sum_bfd (I:=I) (a0:=a1) R3 hd
 refine .callS (.f call113 r) .n hw26 r r fun v30 I27 l31 hl28 hv29=>?_
 obtain ⟨r32,rfl,rfl,hd⟩:=hv29
 replace R3:=R3.mono hl28
 refine .re (m':=[]) r (.nilS [13,1,0] r r (.condP r hd (fun hb33 hd=>?_) fun hb33 hd=>?_))
 · exact .sr (.ks 2 r (.nilS [5,4] r r (.own0 eSum 80 (.ret (oret results75 (.t r (.t r .n)) hl28 (.c .z .n) ⟨(([]:List Sum),6),_,_,r,r,hd⟩)))))
 refine .skipS [1,0] r r (.sr (.ks 1 r (.build zeroValue149 un149 BI149 (.c r r r (.s (.t .nil)) .n) (by exact ⟨⟨_,_,r,r,r⟩,trivial⟩) r r (.boxA r r r fun b37=>?_))))
 refine .ks 1 r (.nilS [6,1] r r (.seq (.sr (.ks 1 r (.len un106 r r r r (.ks 1 r (.nilS [19,18,17,6] r r (.block (.own0 ePush_head 187 ?_)))))))))
 refine .own0 eSum 80 (.loop hd (fun (s:(List Push_head)×Int×(List Sum)×Int) c w=>match s with | (s280,s284,s285,s289)=>∃ I_ p281 c282 p286 c287,IH.le I27 I_∧Ok ⟨41,[],none⟩ [(6,.pointer (some ⟨b37,0,none⟩)),(17,.slice p1 a1.length c2),(18,.int .i64 (a1.length:Int)),(19,.int .i64 s289)] c∧Sym w0 M I I_ [pto b37 (.cells #[.slice p281 s280.length c282,.int .i64 s284,.slice p286 s285.length c287] 149 (0,0)),OwnSl ePush_head 187 p281 c282 s280,OwnSl eSum 80 p286 c287 s285] w) (fun c w ho hs=>⟨I27,_,_,_,_,(.refl _),ho.sub ⟨r,r,r,r,trivial⟩,hs.pick (.c (.s (.s .z)) (.c (.s .z) (.c .z .n)))⟩) ?_)
 rintro ⟨s280,s284,s285,s289⟩ next292 hd c w hst
 obtain ⟨I293,p281,c282,p286,c287,hl294,hok,hsym⟩:=hst
 have le295:=IH.le.trans hl28 hl294
 replace R3:=R3.mono hl294
 refine Cod.at hok hsym (.sr (.ks 1 r (.nilS [20,19,18,17,6] r r (.seq (.condP r hd (fun hb297 hd=>?_) fun hb297 hd=>?_)))))
 · refine .skipS [19,18,17,6] r r (.seq (.block (.sr (.ks 1 r ?_))))
   obtain ⟨h298,x299,hx300,hd⟩:=hd
   obtain ⟨b301,o302,cs303,e304,hC305,hr306⟩:=R3.2 _ _ hx300
   obtain ⟨p307,c308,rfl,R309⟩:=hr306
   refine .ixa un106 sz58 r e304 r h298 (idx_lt hx300 h298) r r (.ld1 (j:=0) ia58 hC305 r r r r r (.ks 2 r (.nilS [8,7,19,18,17,6] r r (.region (.ks 3 r ?_)))))
   have hw310:=W_push_merger_put_46e (I:=I293) (o0:=({ heads:=s280,r:=s284,out:=s285 }:Push_merger)) (a0:=x299) (a1:=s289) (b2:=b37) (p3:=p281) (c4:=c282) (p6:=p286) (c7:=c287) R309 hd
   refine .callS (.f call116 r) (.c .z (.c .z (.c .z .n))) hw310 r r fun v314 I311 l315 hl312 hv313=>?_
   obtain ⟨r316,p319,c320,p322,c323,rfl,rfl,hd⟩:=hv313
   have le327:=IH.le.trans le295 hl312
   have le328:=IH.le.trans hl294 hl312
   replace R3:=R3.mono hl312
   replace R309:=R309.mono hl312
   exact .re (m':=[pto b37 (.cells #[.slice p319 r316.heads.length c320,.int .i64 r316.r,.slice p322 r316.out.length c323] 149 (0,0)),OwnSl ePush_head 187 p319 c320 r316.heads,OwnSl eSum 80 p322 c323 r316.out]) r (.nilS [19,18,17,6] r r (.region (.ks 2 r (.nil' fun c w ho hs=>⟨(r316.heads,r316.r,r316.out,w64 (s289+1)),hd,I311,_,_,_,_,le328,ho.sub ⟨r,r,r,r,trivial⟩,hs.pick (.c .z (.c .z (.c .z .n)))⟩))))
 refine .exitS [6] r r (.seq (.block (.loop hd (fun (s:(List Push_head)×Int×(List Sum)) c w=>match s with | (s404,s408,s409)=>∃ I_ p405 c406 p410 c411,IH.le I293 I_∧Ok ⟨41,[],none⟩ [(6,.pointer (some ⟨b37,0,none⟩))] c∧Sym w0 M I I_ [pto b37 (.cells #[.slice p405 s404.length c406,.int .i64 s408,.slice p410 s409.length c411] 149 (0,0)),OwnSl ePush_head 187 p405 c406 s404,OwnSl eSum 80 p410 c411 s409] w) (fun c w ho hs=>⟨I293,_,_,_,_,(.refl _),ho.sub ⟨r,trivial⟩,hs.pick (.c .z (.c .z (.c .z .n)))⟩) ?_)))
 rintro ⟨s404,s408,s409⟩ next413 hd c w hst
 obtain ⟨I414,p405,c406,p410,c411,hl415,hok,hsym⟩:=hst
 have le416:=IH.le.trans le295 hl415
 have le417:=IH.le.trans hl294 hl415
 refine Cod.at hok hsym (.seq (.sr (.ks 1 r (.nilCheckP r r r (.fa un149 r sizeOf147 r (o:=0) r r r (.load1 ia147 r .z r r r ?_))))))
 have hw419:=fun (J:IH) (hJ:IH.le I414 J) (hL:lentAll J [OwnSl ePush_head 187 p405 c406 s404])=>W_push_heads_Len (I:=J) (lent hL.1) hd
 refine .callB (.f call117 r) (.c (.s .z) .n) hw419 r r fun v420 _ hv421=>?_
 obtain ⟨r418,rfl,hd⟩:=hv421
 refine .ks 1 r (.nilS [34,6] r r (.condP r hd (fun hb422 hd=>?_) fun hb422 hd=>?_))
 · refine .skipS [6] r r (.block (.region (.ks 1 r ?_)))
   have hw423:=W_push_merger_next_d58 (I:=I414) (o0:=({ heads:=s404,r:=s408,out:=s409 }:Push_merger)) (b2:=b37) (p3:=p405) (c4:=c406) (p6:=p410) (c7:=c411) hd
   refine .callS (.f call118 r) (.c .z (.c .z (.c .z .n))) hw423 r r fun v427 I424 l428 hl425 hv426=>?_
   obtain ⟨r429,p432,c433,p435,c436,rfl,rfl,hd⟩:=hv426
   have le440:=IH.le.trans le416 hl425
   have le441:=IH.le.trans le417 hl425
   have le442:=IH.le.trans hl415 hl425
   exact .re (m':=[pto b37 (.cells #[.slice p432 r429.heads.length c433,.int .i64 r429.r,.slice p435 r429.out.length c436] 149 (0,0)),OwnSl ePush_head 187 p432 c433 r429.heads,OwnSl eSum 80 p435 c436 r429.out]) r (.nil' fun c w ho hs=>⟨(r429.heads,r429.r,r429.out),hd,I424,_,_,_,_,le442,ho.sub ⟨r,trivial⟩,hs.pick (.c .z (.c .z (.c .z .n)))⟩)
 refine .exitS [6] r r (.sr (.ks 1 r (.nilCheckP r r r (.fa un149 r sz58 r (o:=2) r r r (.load1 ia58 r .z r r r (.ks 2 r (.nilS [5,4] r r (.drop .z (.drop .z ?_)))))))))
 exact .ret (oret results75 (.t r (.t r .n)) le416 (.c .z .n) ⟨(s409,0),_,_,r,r,hd⟩)
theorem W_dcsc_within {I:IH} {a0:Int} {a1:Int} {Q:Bool→Prop}  (hd:dcsc_within a0 a1 Q) :
  PFun prog 163 [.int .i64 a0,.int .i64 a1] I (fun _=>o1_ Q):=by
 refine Fun.enter func163 r ntmps163 r (.c (.c .n)) fun w0 M=>?_
 refine .sr (.ks 1 r (.nilS [1,0] r r (.sr (.ks 3 r ?_))))
 refine splitP hd (fun hb1 hd=>?_) fun hb1 hd=>?_
 · rw [hb1]
   exact .ks 5 r (.nilS [4] r r (.ret (pret results163 (.t r .n) (.refl _) ⟨(decide (a0≤a1)),r,hd⟩)))
 rw [hb1]
 exact .ks 5 r (.nilS [4] r r (.ret (pret results163 (.t r .n) (.refl _) ⟨false,r,hd⟩)))
theorem W_dcsc_rising {I:IH} {a0:List Int} {a1:Int} {p1:Option Addr} {c2:Nat} {Q:Bool→Prop} (R3:RepSl eI64 I p1 c2 a0) (hd:dcsc_rising a0 a1 Q) :
  PFun prog 164 [.slice p1 a0.length c2,.int .i64 a1] I (fun _=>o1_ Q):=by
 refine Fun.enter func164 r ntmps164 r (.c (.c .n)) fun w0 M=>?_
 refine .sr (.ks 1 r (.nilS [1,0] r r (.seq (.sr (.ks 1 r (.len un31 r r r r (.ks 1 r (.nilS [9,8,7,1,0] r r (.block ?_)))))))))
 refine .loop hd (fun (s68:Int) c w=>∃ I_,IH.le I I_∧Ok ⟨33,[],none⟩ [(0,.slice p1 a0.length c2),(1,.int .i64 a1),(7,.slice p1 a0.length c2),(8,.int .i64 (a0.length:Int)),(9,.int .i64 s68)] c∧Sym w0 M I I_ [] w) (fun c w ho hs=>⟨I,(.refl _),ho.sub ⟨r,r,r,r,r,trivial⟩,hs.pick .n⟩) ?_
 rintro s68 next69 hd c w hst
 obtain ⟨I70,hl71,hok,hsym⟩:=hst
 replace R3:=R3.mono hl71
 refine Cod.at hok hsym (.sr (.ks 1 r (.nilS [10,9,8,7,1,0] r r (.seq (.condP r hd (fun hb73 hd=>?_) fun hb73 hd=>?_)))))
 · refine .skipS [9,8,7,1,0] r r (.seq (.block (.sr (.ks 1 r ?_))))
   obtain ⟨h83,x84,hx85,hd⟩:=hd
   obtain ⟨b86,o87,cs88,e89,hC90,hr91⟩:=R3.2 _ _ hx85
   cases hr91
   refine .ixa un31 sz3 r e89 r h83 (idx_lt hx85 h83) r r (.ld1 (j:=0) ia3 hC90 r r r r r (.ks 2 r (.nilS [6,5,9,8,7,1,0] r r (.sr (.ks 3 r ?_)))))
   have hw93:=W_dcsc_within (I:=I70) hd
   refine .callP call163 r hw93 r r fun v94 hv95=>?_
   obtain ⟨r92,rfl,hd⟩:=hv95
   refine .ks 2 r ?_
   refine splitP hd (fun hb96 hd=>?_) fun hb96 hd=>?_
   · rw [hb96]
     exact .ks 12 r (.nilS [31,9,8,7,1,0] r r (.condKT r r (.sr (.ks 1 r (.nilS [4] r r (.ret (pret results164 (.t r .n) hl71 ⟨false,r,hd⟩)))))))
   rw [hb96]
   refine .ks 3 r ?_
   refine splitP hd (fun hb97 hd=>?_) fun hb97 hd=>?_
   · rw [hb97]
     refine .ks 3 r ?_
     obtain ⟨h98,x99,hx100,hd⟩:=hd
     obtain ⟨b101,o102,cs103,e104,hC105,hr106⟩:=R3.2 _ _ hx100
     cases hr106
     refine .gyes r r r (.ixa un31 sz3 r e104 r h98 (idx_lt hx100 h98) r r (.gyes r r r (.ld1 (j:=0) ia3 hC105 r r r r r (.ks 4 r (.nilS [31,9,8,7,1,0] r r (.condP r hd (fun hb107 hd=>?_) fun hb107 hd=>?_))))))
     · exact .sr (.ks 1 r (.nilS [4] r r (.ret (pret results164 (.t r .n) hl71 ⟨false,r,hd⟩))))
     exact .skipS [9,8,7,1,0] r r (.region (.ks 2 r (.nil' fun c w ho hs=>⟨(w64 (s68+1)),hd,I70,hl71,ho.sub ⟨r,r,r,r,r,trivial⟩,hs.pick .n⟩)))
   rw [hb97]
   exact .ks 9 r (.nilS [31,9,8,7,1,0] r r (.condKF r r (.skipS [9,8,7,1,0] r r (.region (.ks 2 r (.nil' fun c w ho hs=>⟨(w64 (s68+1)),hd,I70,hl71,ho.sub ⟨r,r,r,r,r,trivial⟩,hs.pick .n⟩))))))
 exact .exitS [] r r (.sr (.ks 1 r (.nilS [4] r r (.ret (pret results164 (.t r .n) hl71 ⟨true,r,hd⟩)))))
theorem W_dcsc_Right {I:IH} {a0:Columns} {p1:Option Addr} {c2:Nat} {p4:Option Addr} {c5:Nat} {p7:Option Addr} {c8:Nat} {p10:Option Addr} {c11:Nat} {Q:Bool→Prop} (R3:RepSl eI64 I p1 c2 a0.At) (R6:RepSl eI64 I p4 c5 a0.Start) (R9:RepSl eI64 I p7 c8 a0.Row) (R12:RepSl eI64 I p10 c11 a0.Val) (hd:dcsc_Right a0 Q) :
  PFun prog 127 [.agg #[.int .i64 a0.Rows,.int .i64 a0.Cols,.slice p1 a0.At.length c2,.slice p4 a0.Start.length c5,.slice p7 a0.Row.length c8,.slice p10 a0.Val.length c11]] I (fun _=>o1_ Q):=by
 refine Fun.enter func127 r ntmps127 r (.c .n) fun w0 M=>?_
 refine .sr (.boxA r r r fun b15=>?_)
 refine .ks 1 r (.nilS [1] r r (.sr (.fa un64 r sz31 r (o:=4) r r r (.load1 ia31 r .z r r r (.len un31 r r r r (.ks 1 r (.nilS [3,1] r r (.seq (.sr ?_)))))))))
 refine .fa un64 r sz3 r (o:=0) r r r (.load1 ia3 r .z r r r ?_)
 have hw31:=W_dcsc_within (I:=I) hd
 refine .callP call163 r hw31 r r fun v32 hv33=>?_
 obtain ⟨r30,rfl,hd⟩:=hv33
 refine .ks 2 r ?_
 refine splitP hd (fun hb34 hd=>?_) fun hb34 hd=>?_
 · rw [hb34]
   exact .ks 26 r (.nilS [38,3,1] r r (.condKT r r (.sr (.ks 1 r (.nilS [2] r r (.drop .z (.ret (pret results127 (.t r .n) (.refl _) ⟨false,r,hd⟩))))))))
 rw [hb34]
 refine .gyes r r r (.fa un64 r sz3 r (o:=1) r r r (.gyes r r r (.load1 ia3 r .z r r r ?_)))
 have hw36:=W_dcsc_within (I:=I) hd
 refine .gyes r r r (.callP call163 r hw36 r r fun v37 hv38=>?_)
 obtain ⟨r35,rfl,hd⟩:=hv38
 refine .ks 3 r ?_
 refine splitP hd (fun hb39 hd=>?_) fun hb39 hd=>?_
 · rw [hb39]
   exact .ks 20 r (.nilS [38,3,1] r r (.condKT r r (.sr (.ks 1 r (.nilS [2] r r (.drop .z (.ret (pret results127 (.t r .n) (.refl _) ⟨false,r,hd⟩))))))))
 rw [hb39]
 refine .gyes r r r (.fa un64 r sz31 r (o:=3) r r r (.gyes r r r (.load1 ia31 r .z r r r (.gyes r r r (.len un31 r r r r (.gyes r r r (.fa un64 r sz31 r (o:=2) r r r (.gyes r r r (.load1 ia31 r .z r r r (.gyes r r r (.len un31 r r r r (.ks 4 r ?_))))))))))))
 refine splitP hd (fun hb40 hd=>?_) fun hb40 hd=>?_
 · rw [hb40]
   exact .ks 10 r (.nilS [38,3,1] r r (.condKT r r (.sr (.ks 1 r (.nilS [2] r r (.drop .z (.ret (pret results127 (.t r .n) (.refl _) ⟨false,r,hd⟩))))))))
 rw [hb40]
 refine .gyes r r r (.fa un64 r sz32 r (o:=5) r r r (.gyes r r r (.load1 ia32 r .z r r r (.gyes r r r (.len un32 r r r r (.ks 4 r ?_))))))
 refine splitP hd (fun hb41 hd=>?_) fun hb41 hd=>?_
 · rw [hb41]
   exact .ks 3 r (.nilS [38,3,1] r r (.condKT r r (.sr (.ks 1 r (.nilS [2] r r (.drop .z (.ret (pret results127 (.t r .n) (.refl _) ⟨false,r,hd⟩))))))))
 rw [hb41]
 refine .ks 3 r (.nilS [38,3,1] r r (.condP r hd (fun hb42 hd=>?_) fun hb42 hd=>?_))
 · exact .sr (.ks 1 r (.nilS [2] r r (.drop .z (.ret (pret results127 (.t r .n) (.refl _) ⟨false,r,hd⟩)))))
 refine .skipS [3,1] r r (.seq (.sr (.fa un64 r sz31 r (o:=2) r r r (.load1 ia31 r .z r r r (.fa un64 r sz3 r (o:=1) r r r (.load1 ia3 r .z r r r ?_))))))
 have hw74:=W_dcsc_rising (I:=I) R3 hd
 refine .callP call164 r hw74 r r fun v75 hv76=>?_
 obtain ⟨r73,rfl,hd⟩:=hv76
 refine .ks 2 r ?_
 refine splitP hd (fun hb77 hd=>?_) fun hb77 hd=>?_
 · rw [hb77]
   exact .ks 25 r (.nilS [70,1] r r (.condKT r r (.sr (.ks 1 r (.nilS [2] r r (.drop .z (.ret (pret results127 (.t r .n) (.refl _) ⟨false,r,hd⟩))))))))
 rw [hb77]
 refine .gyes r r r (.fa un64 r sz31 r (o:=3) r r r (.gyes r r r (.load1 ia31 r .z r r r (.ks 2 r ?_))))
 have hw79:=W_dcsc_rising (I:=I) R6 hd
 refine .gyes r r r (.callP call164 r hw79 r r fun v80 hv81=>?_)
 obtain ⟨r78,rfl,hd⟩:=hv81
 refine .ks 3 r ?_
 refine splitP hd (fun hb82 hd=>?_) fun hb82 hd=>?_
 · rw [hb82]
   exact .ks 17 r (.nilS [70,1] r r (.condKT r r (.sr (.ks 1 r (.nilS [2] r r (.drop .z (.ret (pret results127 (.t r .n) (.refl _) ⟨false,r,hd⟩))))))))
 rw [hb82]
 refine .gyes r r r (.fa un64 r sz31 r (o:=3) r r r (.gyes r r r (.load1 ia31 r .z r r r ?_)))
 obtain ⟨h83,x84,hx85,hd⟩:=hd
 obtain ⟨b86,o87,cs88,e89,hC90,hr91⟩:=R6.2 _ _ hx85
 cases hr91
 refine .gyes r r r (.ixa un31 sz3 r e89 r h83 (idx_lt hx85 h83) r r (.gyes r r r (.ld1 (j:=0) ia3 hC90 r r r r r (.ks 3 r ?_))))
 refine splitP hd (fun hb92 hd=>?_) fun hb92 hd=>?_
 · rw [hb92]
   exact .ks 10 r (.nilS [70,1] r r (.condKT r r (.sr (.ks 1 r (.nilS [2] r r (.drop .z (.ret (pret results127 (.t r .n) (.refl _) ⟨false,r,hd⟩))))))))
 rw [hb92]
 refine .gyes r r r (.fa un64 r sz31 r (o:=3) r r r (.gyes r r r (.load1 ia31 r .z r r r (.gyes r r r (.fa un64 r sz31 r (o:=2) r r r (.gyes r r r (.load1 ia31 r .z r r r (.gyes r r r (.len un31 r r r r ?_)))))))))
 obtain ⟨h93,x94,hx95,hd⟩:=hd
 obtain ⟨b96,o97,cs98,e99,hC100,hr101⟩:=R6.2 _ _ hx95
 cases hr101
 refine .gyes r r r (.ixa un31 sz3 r e99 r h93 (idx_lt hx95 h93) r r (.gyes r r r (.ld1 (j:=0) ia3 hC100 r r r r r (.ks 3 r (.nilS [70,1] r r (.condP r hd (fun hb102 hd=>?_) fun hb102 hd=>?_))))))
 · exact .sr (.ks 1 r (.nilS [2] r r (.drop .z (.ret (pret results127 (.t r .n) (.refl _) ⟨false,r,hd⟩)))))
 refine .skipS [1] r r (.seq (.sr (.fa un64 r sz31 r (o:=2) r r r (.load1 ia31 r .z r r r (.len un31 r r r r (.ks 1 r (.nilS [74,73,1] r r (.block (.loop hd (fun (s176:Int) c w=>∃ I_,IH.le I I_∧Ok ⟨96,[],none⟩ [(1,.pointer (some ⟨b15,0,none⟩)),(73,.int .i64 (a0.At.length:Int)),(74,.int .i64 s176)] c∧Sym w0 M I I_ [pto b15 (.cells #[.int .i64 a0.Rows,.int .i64 a0.Cols,.slice p1 a0.At.length c2,.slice p4 a0.Start.length c5,.slice p7 a0.Row.length c8,.slice p10 a0.Val.length c11] 64 (0,0))] w) (fun c w ho hs=>⟨I,(.refl _),ho.sub ⟨r,r,r,trivial⟩,hs.pick (.c .z .n)⟩) ?_)))))))))
 rintro s176 next177 hd c w hst
 obtain ⟨I178,hl179,hok,hsym⟩:=hst
 replace R3:=R3.mono hl179
 replace R6:=R6.mono hl179
 replace R9:=R9.mono hl179
 replace R12:=R12.mono hl179
 refine Cod.at hok hsym (.sr (.ks 1 r (.nilS [75,74,73,1] r r (.seq (.condP r hd (fun hb181 hd=>?_) fun hb181 hd=>?_)))))
 · refine .skipS [74,73,1] r r (.seq (.block (.sr (.ks 2 r (.nilS [4,74,73,1] r r (.seq (.dr [0,1,2,3,4,5,6,7,8,9,10,11,12,13,14,15,16,17] 18 (.g r r r (fun _=>.fa un64 r sz31 r (o:=4) r r r .mk) (.g r r r (fun _=>.load1 ia31 r .z r r r .mk) ?_)))))))))
   refine .g r r r (fun _=>.fa un64 r sz31 r (o:=3) r r r .mk) (.g r r r (fun _=>.load1 ia31 r .z r r r .mk) (.fk 1 r ?_))
   obtain ⟨h182,x183,hx184,hd⟩:=hd
   obtain ⟨b185,o186,cs187,e188,hC189,hr190⟩:=R6.2 _ _ hx184
   cases hr190
   refine .g r r r (fun _=>.ixa un31 sz3 r e188 r h182 (idx_lt hx184 h182) r r .mk) (.g r r r (fun _=>.ld1 (j:=0) ia3 hC189 r r r r r .mk) (.g r r r (fun _=>.fa un64 r sz31 r (o:=3) r r r .mk) (.g r r r (fun _=>.load1 ia31 r .z r r r .mk) (.fk 2 r ?_))))
   obtain ⟨h191,x192,hx193,hd⟩:=hd
   obtain ⟨b194,o195,cs196,e197,hC198,hr199⟩:=R6.2 _ _ hx193
   cases hr199
   refine .g r r r (fun _=>.ixa un31 sz3 r e197 r h191 (idx_lt hx193 h191) r r .mk) (.g r r r (fun _=>.ld1 (j:=0) ia3 hC198 r r r r r .mk) ?_)
   obtain ⟨h200,h201,h202,hd⟩:=hd
   have h208:Int.toNat x183≤Int.toNat x192:=by omega
   have h209:Int.toNat x192≤a0.Row.length:=by omega
   obtain ⟨p203,c204,e206,e207,R205⟩:=RepSl.sliceW R9 (Int.toNat x183) (Int.toNat x192) c8 h208 h209 (.inl rfl)
   refine .g r r r (fun _=>.sliceW (L:=Int.toNat x183) (H:=Int.toNat x192) (cm:=c8) un31 sz3 r r R9.1 r r r (.inr ⟨_,_,r,h200,r⟩) (.inr ⟨_,_,r,(by omega),r⟩) (.inl r) h208 h209 r e206 e207 r r .mk) (.g r r r (fun _=>.fa un64 r sz3 r (o:=0) r r r .mk) (.g r r r (fun _=>.load1 ia3 r .z r r r .mk) (.ww r fun ex=>?_)))
   have hw211:=W_dcsc_rising (I:=I178) R205 hd
   refine .callP call164 r hw211 r r fun v212 hv213=>?_
   obtain ⟨r210,rfl,hd⟩:=hv213
   refine .so 1 r r r trivial (.fk 1 r (.e2 18 (.nilS [94,74,73,1] r r (.condP r hd (fun hb214 hd=>?_) fun hb214 hd=>?_))))
   · exact .sr (.ks 1 r (.nilS [2] r r (.drop .z (.ret (pret results127 (.t r .n) hl179 ⟨false,r,hd⟩)))))
   exact .skipS [74,73,1] r r (.region (.ks 2 r (.nil' fun c w ho hs=>⟨(w64 (s176+1)),hd,I178,hl179,ho.sub ⟨r,r,r,trivial⟩,hs.pick (.c .z .n)⟩)))
 exact .exitS [] r r (.drop .z (.sr (.ks 1 r (.nilS [2] r r (.ret (pret results127 (.t r .n) hl179 ⟨true,r,hd⟩))))))
theorem W_push_sure {I:IH} {a0:Columns} {a1:Vec} {p1:Option Addr} {c2:Nat} {p4:Option Addr} {c5:Nat} {p7:Option Addr} {c8:Nat} {p10:Option Addr} {c11:Nat} {p13:Option Addr} {c14:Nat} {Q:(Columns×Vec)→Prop} (R3:RepSl eI64 I p1 c2 a0.At) (R6:RepSl eI64 I p4 c5 a0.Start) (R9:RepSl eI64 I p7 c8 a0.Row) (R12:RepSl eI64 I p10 c11 a0.Val) (R15:RepSl eItem I p13 c14 a1.Items) (hd:push_sure a0 a1 Q) :
  PFun prog 81 [.agg #[.int .i64 a0.Rows,.int .i64 a0.Cols,.slice p1 a0.At.length c2,.slice p4 a0.Start.length c5,.slice p7 a0.Row.length c8,.slice p10 a0.Val.length c11],.agg #[.int .i64 a1.N,.slice p13 a1.Items.length c14]] I (fun I_ v=>∃ r p16 c17 p19 c20 p22 c23 p25 c26 p28 c29,v=.tuple #[.agg #[.int .i64 r.1.Rows,.int .i64 r.1.Cols,.slice p16 r.1.At.length c17,.slice p19 r.1.Start.length c20,.slice p22 r.1.Row.length c23,.slice p25 r.1.Val.length c26],.agg #[.int .i64 r.2.N,.slice p28 r.2.Items.length c29]]∧RepSl eI64 I_ p16 c17 r.1.At∧RepSl eI64 I_ p19 c20 r.1.Start∧RepSl eI64 I_ p22 c23 r.1.Row∧RepSl eI64 I_ p25 c26 r.1.Val∧RepSl eItem I_ p28 c29 r.2.Items∧Q r):=by
 refine Fun.enter func81 r ntmps81 r (.c (.c .n)) fun w0 M=>?_
 refine .sr (.boxA r r r fun b39=>?_)
 refine .boxA r r r fun b41=>?_
 refine .allocA zv64 r r fun b43=>?_
 refine .allocA zv37 r r fun b45=>?_
 refine .nilS [5,4,3,2] r r (.seq ?_)
 refine Cod.joinQ (σ:=Int×Int×(List Int)×(List Int)×(List Int)×(List Int)) hd (fun (s:Int×Int×(List Int)×(List Int)×(List Int)×(List Int)) c w=>match s with | (s63,s64,s65,s69,s73,s77)=>∃ I_ p66 c67 p70 c71 p74 c75 p78 c79,IH.le I I_∧RepSl eI64 I_ p66 c67 s65∧RepSl eI64 I_ p70 c71 s69∧RepSl eI64 I_ p74 c75 s73∧RepSl eI64 I_ p78 c79 s77∧Ok ⟨17,[],none⟩ [(2,.pointer (some ⟨b39,0,none⟩)),(3,.pointer (some ⟨b41,0,none⟩)),(4,.pointer (some ⟨b43,0,none⟩)),(5,.pointer (some ⟨b45,0,none⟩))] c∧Sym w0 M I I_ [pto b39 (.cells #[.int .i64 s63,.int .i64 s64,.slice p66 s65.length c67,.slice p70 s69.length c71,.slice p74 s73.length c75,.slice p78 s77.length c79] 64 (0,0)),pto b41 (.cells #[.int .i64 a1.N,.slice p13 a1.Items.length c14] 37 (0,0)),pto b43 (.cells #[.int .i64 0,.int .i64 0,.slice none 0 0,.slice none 0 0,.slice none 0 0,.slice none 0 0] 64 (0,0)),pto b45 (.cells #[.int .i64 0,.slice none 0 0] 37 (0,0))] w) (fun k81 hd=>?_) ?_
 · skip
   refine .sr (.loadW ia64 sz64 r (.s (.s (.s .z))) r r r ?_)
   have hw83:=W_dcsc_Right (I:=I) R3 R6 R9 R12 hd
   refine .callP call127 r hw83 r r fun v84 hv85=>?_
   obtain ⟨r82,rfl,hd⟩:=hv85
   refine .ks 1 r (.nilS [8,5,4,3,2] r r (.condP r hd (fun hb86 hd=>?_) fun hb86 hd=>?_))
   · refine .region (.buildSlice 1 un31 sz3 zv3 r r (.c r r r .n) r r fun b87=>?_)
     refine .ownB (El:=eI64) (ys:=([0]:List Int)) .z (.one r) r (.build zv64 un64 BI64 (.c r r r (.s (.s (.s (.t .nil)))) .n) (by exact ⟨⟨_,_,r,r,r⟩,trivial⟩) r r (.storeA sz64 r r (.s (.s (.s (.s .z)))) (.t (.t (.t (.t (.t (.t .nil)))))) r r (.pub .z fun I90 hl91 R92=>?_)))
     replace R15:=R15.mono hl91
     exact .nil' fun c w ho hs=>⟨(0,0,([]:List Int),([0]:List Int),([]:List Int),([]:List Int)),hd,I90,_,_,_,_,_,_,_,_,hl91,.nil _ _ _,R92,.nil _ _ _,.nil _ _ _,ho.sub ⟨r,r,r,r,trivial⟩,hs.pick (.c (.s (.s (.s .z))) (.c (.s (.s .z)) (.c (.s .z) (.c .z .n))))⟩
   exact .skip' fun c w ho hs=>⟨(a0.Rows,a0.Cols,a0.At,a0.Start,a0.Row,a0.Val),hd,I,_,_,_,_,_,_,_,_,(.refl _),R3,R6,R9,R12,ho.sub ⟨r,r,r,r,trivial⟩,hs.pick (.c (.s (.s (.s .z))) (.c (.s (.s .z)) (.c (.s .z) (.c .z .n))))⟩
 rintro ⟨s63,s64,s65,s69,s73,s77⟩ hd c w hst
 obtain ⟨I93,p66,c67,p70,c71,p74,c75,p78,c79,hl94,R68,R72,R76,R80,hok,hsym⟩:=hst
 replace R15:=R15.mono hl94
 refine Cod.at hok hsym (.seq (.sr (.loadW ia37 sz37 r (.s .z) r r r ?_)))
 have hw96:=W_spvec_Right (I:=I93) R15 hd
 refine .callP call51 r hw96 r r fun v97 hv98=>?_
 obtain ⟨r95,rfl,hd⟩:=hv98
 refine .ks 1 r (.nilS [13,5,4,3,2] r r (.condP r hd (fun hb99 hd=>?_) fun hb99 hd=>?_))
 · refine .region (.build zv37 un37 BI37 .n (by exact trivial) r r (.storeA sz37 r r (.s .z) (.t (.t .nil)) r r (.nilS [5,4,3,2] r r (.seq (.dr [0,1,2] 3 (.g r r r (fun _=>.loadW ia64 sz64 r .z r r r .mk) (.g r r r (fun _=>.loadW ia37 sz37 r (.s .z) r r r .mk) (.ww r fun ex=>?_))))))))
   exact .storeA sz64 r r (.s (.s .z)) (.t (.t (.t (.t (.t (.t .nil)))))) r r (.sn 4 r r r (.cg r r r r (fun _=>.loadW ia37 sz37 r (.s .z) r r r .mk) trivial) (.e2 3 (.storeA sz37 r r (.s (.s (.s .z))) (.t (.t .nil)) r r (.nilS [5,4] r r (.drop .z (.drop .z (.ret (pret results81 (.w ia64 sz64 r .z r (.w ia37 sz37 r (.s .z) r .n)) hl94 ⟨(({ Rows:=s63,Cols:=s64,At:=s65,Start:=s69,Row:=s73,Val:=s77 }:Columns),({ N:=0,Items:=([]:List Item) }:Vec)),_,_,_,_,_,_,_,_,_,_,r,R68,R72,R76,R80,(.nil _ _ _),hd⟩))))))))
 refine .skipS [5,4,3,2] r r (.seq (.dr [0,1,2] 3 (.g r r r (fun _=>.loadW ia64 sz64 r .z r r r .mk) (.g r r r (fun _=>.loadW ia37 sz37 r (.s .z) r r r .mk) (.ww r fun ex=>?_)))))
 exact .storeA sz64 r r (.s (.s .z)) (.t (.t (.t (.t (.t (.t .nil)))))) r r (.sn 4 r r r (.cg r r r r (fun _=>.loadW ia37 sz37 r (.s .z) r r r .mk) trivial) (.e2 3 (.storeA sz37 r r (.s (.s (.s .z))) (.t (.t .nil)) r r (.nilS [5,4] r r (.drop .z (.drop .z (.ret (pret results81 (.w ia64 sz64 r .z r (.w ia37 sz37 r (.s .z) r .n)) hl94 ⟨(({ Rows:=s63,Cols:=s64,At:=s65,Start:=s69,Row:=s73,Val:=s77 }:Columns),a1),_,_,_,_,_,_,_,_,_,_,r,R68,R72,R76,R80,R15,hd⟩))))))))
theorem W_flags_within {I:IH} {a0:List Int} {a1:Int} {p1:Option Addr} {c2:Nat} {Q:Bool→Prop} (R3:RepSl eU64 I p1 c2 a0) (hd:flags_within a0 a1 Q) :
  PFun prog 165 [.slice p1 a0.length c2,.int .i64 a1] I (fun _=>o1_ Q):=by
 refine Fun.enter func165 r ntmps165 r (.c (.c .n)) fun w0 M=>?_
 refine .sr (.ks 1 r (.nilS [1,0] r r (.sr (.ks 3 r ?_))))
 refine splitP hd (fun hb4 hd=>?_) fun hb4 hd=>?_
 · rw [hb4]
   exact .ks 1 r (.gyes r r r (.shr' r r (by decide) r r (.ks 1 r (.gyes r r r (.len un26 r r r r (.ks 3 r (.nilS [4] r r (.ret (pret results165 (.t r .n) (.refl _) ⟨(decide ((shr .i64 a1 6)<(a0.length:Int))),r,hd⟩)))))))))
 rw [hb4]
 exact .ks 7 r (.nilS [4] r r (.ret (pret results165 (.t r .n) (.refl _) ⟨false,r,hd⟩)))
theorem W_flags_bit {I:IH} {a0:Int} {Q:Int→Prop}  (hd:flags_bit a0 Q) :
  PFun prog 166 [.int .i64 a0] I (fun _=>o13_ Q):=by
 refine Fun.enter func166 r ntmps166 r (.c .n) fun w0 M=>?_
 refine .sr (.ks 1 r (.nilS [0] r r (.sr (.ks 1 r (.conv un3 underlying191 r r r (.ks 1 r ?_))))))
 obtain ⟨hz1,hd⟩:=hd
 exact .shl' r r hz1 r r (.ks 1 r (.nilS [2] r r (.ret (pret results166 (.t r .n) (.refl _) ⟨(shl .u64 1 (bnd .u64 (IntKind.wrap .u64 (a0)) 63)),r,hd⟩))))
theorem W_flags_Has {I:IH} {a0:List Int} {a1:Int} {p1:Option Addr} {c2:Nat} {Q:Bool→Prop} (R3:RepSl eU64 I p1 c2 a0) (hd:flags_Has a0 a1 Q) :
  PFun prog 128 [.slice p1 a0.length c2,.int .i64 a1] I (fun _=>o1_ Q):=by
 refine Fun.enter func128 r ntmps128 r (.c (.c .n)) fun w0 M=>?_
 refine .sr (.ks 1 r (.nilS [1,0] r r (.seq (.dr [0,1,2,3,4,5,6,7,8,9,10,11,12,13] 14 (.fk 2 r (.ww r fun ex=>?_))))))
 have hw5:=W_flags_within (I:=I) R3 hd
 refine .callP call165 r hw5 r r fun v6 hv7=>?_
 obtain ⟨r4,rfl,hd⟩:=hv7
 refine .so 0 r r r trivial (.fk 1 r ?_)
 refine splitP hd (fun hb8 hd=>?_) fun hb8 hd=>?_
 · refine .g r r r (fun _=>.gyes r r hb8 (.move r r r .mk)) (.g r r r (fun _=>.gyes r r hb8 (.move r r r .mk)) (.g r r r (fun _=>.gyes r r hb8 (.shr' r r (by decide) r r .mk)) ?_))
   obtain ⟨h9,x10,hx11,hd⟩:=hd
   obtain ⟨b12,o13,cs14,e15,hC16,hr17⟩:=R3.2 _ _ hx11
   cases hr17
   refine .g r r r (fun _=>.gyes r r hb8 (.ixa un26 sz76 r e15 r h9 (idx_lt hx11 h9) r r .mk)) (.g r r r (fun _=>.gyes r r hb8 (.ld1 (j:=0) ia76 hC16 r r r r r .mk)) (.g r r r (fun _=>.gyes r r hb8 (.move r r r .mk)) (.ww r fun ex=>?_)))
   have hw19:=W_flags_bit (I:=I) hd
   refine .gyes r r hb8 (.callP call166 r hw19 r r fun v20 hv21=>?_)
   obtain ⟨r18,rfl,hd⟩:=hv21
   exact .so 0 r r r (.cg r r r r (fun _=>.gyes r r hb8 (.ld1 (j:=0) ia76 hC16 r r r r r .mk)) (.cg r r r r (fun _=>.gyes r r hb8 (.ixa un26 sz76 r e15 r h9 (idx_lt hx11 h9) r r .mk)) (.cg r r r r (fun _=>.gyes r r hb8 (.shr' r r (by decide) r r .mk)) (.cg r r r r (fun _=>.gyes r r hb8 (.move r r r .mk)) (.cg r r r r (fun _=>.gyes r r hb8 (.move r r r .mk)) trivial))))) (.g r r r (fun _=>.gyes r r hb8 (.and r r r r .mk)) (.g r r r (fun _=>.gyes r r hb8 (.ne r r r r .mk)) (.g r r r (fun _=>.pickT r hb8 r r r .mk) (.e2 14 (.ks 1 r (.nilS [4] r r (.ret (pret results128 (.t r .n) (.refl _) ⟨((bnd .u64 x10 r18) != 0),r,hd⟩))))))))
 refine .g r r r (fun _=>.gno r r hb8 r r .mk) (.g r r r (fun _=>.gno r r hb8 r r .mk) (.g r r r (fun _=>.gno r r hb8 r r .mk) (.g r r r (fun _=>.gno r r hb8 r r .mk) (.g r r r (fun _=>.gno r r hb8 r r .mk) (.g r r r (fun _=>.gno r r hb8 r r .mk) (.g r r r (fun _=>.gno r r hb8 r r .mk) (.g r r r (fun _=>.gno r r hb8 r r .mk) (.g r r r (fun _=>.gno r r hb8 r r .mk) (.g r r r (fun _=>.pickF r hb8 r r r .mk) ?_)))))))))
 exact .e2 14 (.ks 1 r (.nilS [4] r r (.ret (pret results128 (.t r .n) (.refl _) ⟨false,r,hd⟩))))
theorem W_wide_halves {I:IH} {a0:Int} {Q:(Int×Int)→Prop}  (hd:wide_halves a0 Q) :
  PFun prog 200 [.int .u64 a0] I (fun I_ v=>∃ r,v=.agg #[.int .u64 r.1,.int .u64 r.2]∧Q r):=by
 refine Fun.enter func200 r ntmps200 r (.c .n) fun w0 M=>?_
 refine .sr (.allocA zv225 r r fun b1=>?_)
 refine .nilS [2,0] r r (.sr (.ks 1 r (.shl' r r (by decide) r r (.shr' r r (by decide) r r (.ks 1 r (.shr' r r (by decide) r r (.buildArr zv225 un225 sz76 (.c r r r (.t .nil) (.c r r r (.s (.t .nil)) .n)) r r (.storeA sizeOf225 r r .z (.t (.t .nil)) r r (.nilS [2] r r ?_)))))))))
 exact .ret (pret results200 (.w isAgg225 sizeOf225 r .z r .n) (.refl _) ⟨(shr .u64 (shl .u64 a0 32) 32,shr .u64 a0 32),r,hd⟩)
theorem W_wide_product {I:IH} {a0:Int} {a1:Int} {Q:Wide→Prop}  (hd:wide_product a0 a1 Q) :
  PFun prog 185 [.int .u64 a0,.int .u64 a1] I (fun _=>o2_ Q):=by
 refine Fun.enter func185 r ntmps185 r (.c (.c .n)) fun w0 M=>?_
 refine .sr (.allocA zv78 r r fun b3=>?_)
 refine .nilS [4,1,0] r r (.sr (.ks 1 r ?_))
 have hw18:=W_wide_halves (I:=I) hd
 refine .callP call200 r hw18 r r fun v19 hv20=>?_
 obtain ⟨r17,rfl,hd⟩:=hv20
 refine .ks 1 r ?_
 have hw22:=W_wide_halves (I:=I) hd
 refine .callP call200 r hw22 r r fun v23 hv24=>?_
 obtain ⟨r21,rfl,hd⟩:=hv24
 refine .allocA zv225 r r fun b25=>?_
 refine .allocA zv225 r r fun b27=>?_
 refine .storeA sizeOf225 r r (.s .z) (.t (.t .nil)) r r (.storeA sizeOf225 r r .z (.t (.t .nil)) r r (.nilS [6,5,4] r r (.sr (.ixArr (i:=0) un225 sz76 r r (by decide) (o:=0) r r r (.load1 ia76 r (.s .z) r r r (.ixArr (i:=0) un225 sz76 r r (by decide) (o:=0) r r r (.load1 ia76 r .z r r r (.ks 2 r (.nilS [7,6,5,4] r r ?_)))))))))
 refine .seq (.dr [0,1,2,3,4,5,10,6,7,8,9,999] 11 (.g r r r (fun _=>.ixArr (i:=1) un225 sz76 r r (by decide) (o:=1) r r r .mk) (.g r r r (fun _=>.load1 ia76 r (.s .z) r r r .mk) (.g r r r (fun _=>.ixArr (i:=0) un225 sz76 r r (by decide) (o:=0) r r r .mk) (.g r r r (fun _=>.load1 ia76 r .z r r r .mk) (.fk 2 r (.a (fun b=>.pointer (some ⟨b,0,none⟩)) (fun b=>pto b (.cells #[.int .u64 0,.int .u64 0] 225 (0,0))) r r r r (fun _ L hL ex=>.allocA zv225 r r fun b=>.mk (val:=fun b=>.pointer (some ⟨b,0,none⟩)) (atom:=fun b=>pto b (.cells #[.int .u64 0,.int .u64 0] 225 (0,0))) hL b) (.ww r fun ex=>?_))))))))
 have hw41:=W_wide_halves (I:=I) hd
 refine .callP call200 r hw41 r r fun v42 hv43=>?_
 obtain ⟨r40,rfl,hd⟩:=hv43
 refine .so 3 r r r (.ck 1 r r (.cg r r r r (fun _=>.load1 ia76 r .z r r r .mk) (.cg r r r r (fun _=>.ixArr (i:=0) un225 sz76 r r (by decide) (o:=0) r r r .mk) (.cg r r r r (fun _=>.load1 ia76 r (.s .z) r r r .mk) (.cg r r r r (fun _=>.ixArr (i:=1) un225 sz76 r r (by decide) (o:=1) r r r .mk) trivial))))) (.g r r r (fun _=>.index1 (i:=1) un225 sz76 ia76 r r (by decide) r r r .mk) (.fk 1 r (.ww r fun ex=>?_)))
 have hw45:=W_wide_halves (I:=I) hd
 refine .callP call200 r hw45 r r fun v46 hv47=>?_
 obtain ⟨r44,rfl,hd⟩:=hv47
 refine .so 3 r r r trivial (.b r fun b48=>DrawD.nop (.e2 11 (.storeA sizeOf225 r r (.s (.s (.s .z))) (.t (.t .nil)) r r (.nilS [8,7,6,5,4] r r (.sr (.ixArr (i:=0) un225 sz76 r r (by decide) (o:=0) r r r (.load1 ia76 r (.s .z) r r r (.ixArr (i:=1) un225 sz76 r r (by decide) (o:=1) r r r (.load1 ia76 r .z r r r ?_)))))))))
 refine .ks 1 r (.ixArr (i:=0) un225 sz76 r r (by decide) (o:=0) r r r (.load1 ia76 r (.s (.s (.s .z))) r r r (.ks 1 r ?_)))
 have hw56:=W_wide_halves (I:=I) hd
 refine .callP call200 r hw56 r r fun v57 hv58=>?_
 obtain ⟨r55,rfl,hd⟩:=hv58
 refine .allocA zv225 r r fun b59=>?_
 refine .storeA sizeOf225 r r .z (.t (.t .nil)) r r (.nilS [9,8,7,6,5,4] r r (.seq (.dr [0,1,2,3,4,5,6,7,8,9,10,11,12,13,14,15,16,17,18,19] 20 (.g r r r (fun _=>.ixArr (i:=1) un225 sz76 r r (by decide) (o:=1) r r r .mk) (.g r r r (fun _=>.load1 ia76 r (.s (.s .z)) r r r .mk) (.g r r r (fun _=>.ixArr (i:=1) un225 sz76 r r (by decide) (o:=1) r r r .mk) (.g r r r (fun _=>.load1 ia76 r (.s .z) r r r .mk) (.fk 1 r (.g r r r (fun _=>.ixArr (i:=1) un225 sz76 r r (by decide) (o:=1) r r r .mk) ?_)))))))))
 refine .g r r r (fun _=>.load1 ia76 r (.s (.s (.s (.s .z)))) r r r .mk) (.fk 1 r (.g r r r (fun _=>.ixArr (i:=1) un225 sz76 r r (by decide) (o:=1) r r r .mk) (.g r r r (fun _=>.load1 ia76 r .z r r r .mk) (.fk 1 r (.g r r r (fun _=>.conv un76 un2 r r r .mk) (.g r r r (fun _=>.ixArr (i:=0) un225 sz76 r r (by decide) (o:=0) r r r .mk) (.g r r r (fun _=>.load1 ia76 r .z r r r .mk) (.g r r r (fun _=>.shl' r r (by decide) r r .mk) (.fk 1 r ?_)))))))))
 refine .ww r fun ex=>?_
 have hw62:=W_wide_halves (I:=I) hd
 refine .callP call200 r hw62 r r fun v63 hv64=>?_
 obtain ⟨r61,rfl,hd⟩:=hv64
 refine .so 5 r r r (.cg r r r r (fun _=>.shl' r r (by decide) r r .mk) (.cg r r r r (fun _=>.load1 ia76 r .z r r r .mk) (.cg r r r r (fun _=>.ixArr (i:=0) un225 sz76 r r (by decide) (o:=0) r r r .mk) (.cg r r r r (fun _=>.conv un76 un2 r r r .mk) (.ck 1 r r (.cg r r r r (fun _=>.load1 ia76 r .z r r r .mk) (.cg r r r r (fun _=>.ixArr (i:=1) un225 sz76 r r (by decide) (o:=1) r r r .mk) (.ck 1 r r (.cg r r r r (fun _=>.load1 ia76 r (.s (.s (.s (.s .z)))) r r r .mk) (.cg r r r r (fun _=>.ixArr (i:=1) un225 sz76 r r (by decide) (o:=1) r r r .mk) (.ck 1 r r (.cg r r r r (fun _=>.load1 ia76 r (.s .z) r r r .mk) (.cg r r r r (fun _=>.ixArr (i:=1) un225 sz76 r r (by decide) (o:=1) r r r .mk) (.cg r r r r (fun _=>.load1 ia76 r (.s (.s .z)) r r r .mk) (.cg r r r r (fun _=>.ixArr (i:=1) un225 sz76 r r (by decide) (o:=1) r r r .mk) trivial))))))))))))))) (.g r r r (fun _=>.index1 (i:=0) un225 sz76 ia76 r r (by decide) r r r .mk) (.fk 1 r (.g r r r (fun _=>.build zv78 un78 BI78 (.c r r r (.t .nil) (.c r r r (.s (.t .nil)) .n)) (by exact ⟨⟨_,_,r,r,r⟩,⟨⟨_,_,r,r,r⟩,trivial⟩⟩) r r .mk) (.e2 20 (.storeA sz78 r r (.s (.s (.s .z))) (.t (.t .nil)) r r (.nilS [4] r r (.drop .z (.drop .z (.drop .z ?_)))))))))
 exact .drop (.s .z) (.ret (pret results185 (.w ia78 sz78 r .z r .n) (.refl _) ⟨({ Hi:=w64 (IntKind.wrap .u64 ((IntKind.wrap .u64 ((IntKind.wrap .u64 (r17.2*r21.2))+r44.2))+r55.2)),Lo:=bor .u64 (shl .u64 r55.1 32) r61.1 }:Wide),r,hd⟩))
theorem W_wide_size {I:IH} {a0:Int} {Q:Int→Prop}  (hd:wide_size a0 Q) :
  PFun prog 186 [.int .i64 a0] I (fun _=>o13_ Q):=by
 refine Fun.enter func186 r ntmps186 r (.c .n) fun w0 M=>?_
 refine .sr (.ks 1 r (.nilS [0] r r (.seq (.sr (.ks 2 r (.nilS [4,0] r r (.condP r hd (fun hb1 hd=>?_) fun hb1 hd=>?_)))))))
 · exact .sr (.ks 1 r (.conv un2 un76 r r r (.neg r r r (.ks 1 r (.nilS [2] r r (.ret (pret results186 (.t r .n) (.refl _) ⟨(IntKind.wrap .u64 (0 - (IntKind.wrap .u64 (a0)))),r,hd⟩)))))))
 exact .skipS [0] r r (.sr (.ks 1 r (.conv un2 un76 r r r (.ks 1 r (.nilS [2] r r (.ret (pret results186 (.t r .n) (.refl _) ⟨(IntKind.wrap .u64 (a0)),r,hd⟩)))))))
theorem W_wide_Sub {I:IH} {a0:Wide} {a1:Wide} {Q:Wide→Prop}  (hd:wide_Sub a0 a1 Q) :
  PFun prog 187 [.agg (encWide a0).toArray,.agg (encWide a1).toArray] I (fun _=>o2_ Q):=by
 refine Fun.enter func187 r ntmps187 r (.c (.c .n)) fun w0 M=>?_
 refine .sr (.boxA r r r fun b7=>?_)
 refine .boxA r r r fun b9=>?_
 refine .allocA zv78 r r fun b11=>?_
 refine .nilS [4,3,2] r r (.seq (.dr [0,1,2,3,4,5,6,7,8,9,10,11,15,16,17,18,19,12,13,14,20] 21 (.g r r r (fun _=>.fa un78 r sz2 r (o:=0) r r r .mk) (.g r r r (fun _=>.load1 ia2 r (.s (.s .z)) r r r .mk) (.g r r r (fun _=>.conv un2 un76 r r r .mk) (.g r r r (fun _=>.fa un78 r sz2 r (o:=0) r r r .mk) (.g r r r (fun _=>.load1 ia2 r (.s .z) r r r .mk) (.g r r r (fun _=>.conv un2 un76 r r r .mk) (.fk 1 r ?_)))))))))
 refine .g r r r (fun _=>.fa un78 r sz76 r (o:=1) r r r .mk) (.g r r r (fun _=>.load1 ia76 r (.s (.s .z)) r r r .mk) (.g r r r (fun _=>.fa un78 r sz76 r (o:=1) r r r .mk) (.g r r r (fun _=>.load1 ia76 r (.s .z) r r r .mk) (.fk 1 r (.g r r r (fun _=>.fa un78 r sz76 r (o:=1) r r r .mk) (.g r r r (fun _=>.load1 ia76 r (.s (.s .z)) r r r .mk) (.g r r r (fun _=>.fa un78 r sz76 r (o:=1) r r r .mk) (.g r r r (fun _=>.load1 ia76 r (.s .z) r r r .mk) (.fk 1 r ?_)))))))))
 refine .ww r fun ex=>?_
 have hw14:=W_wide_carry (I:=I) hd
 refine .callP call189 r hw14 r r fun v15 hv16=>?_
 obtain ⟨r13,rfl,hd⟩:=hv16
 exact .so 3 r r r (.ck 1 r r (.cg r r r r (fun _=>.load1 ia76 r (.s .z) r r r .mk) (.cg r r r r (fun _=>.fa un78 r sz76 r (o:=1) r r r .mk) (.cg r r r r (fun _=>.load1 ia76 r (.s (.s .z)) r r r .mk) (.cg r r r r (fun _=>.fa un78 r sz76 r (o:=1) r r r .mk) (.ck 1 r r (.cg r r r r (fun _=>.conv un2 un76 r r r .mk) (.cg r r r r (fun _=>.load1 ia2 r (.s .z) r r r .mk) (.cg r r r r (fun _=>.fa un78 r sz2 r (o:=0) r r r .mk) (.cg r r r r (fun _=>.conv un2 un76 r r r .mk) (.cg r r r r (fun _=>.load1 ia2 r (.s (.s .z)) r r r .mk) (.cg r r r r (fun _=>.fa un78 r sz2 r (o:=0) r r r .mk) trivial)))))))))))) (.fk 1 r (.g r r r (fun _=>.conv un76 un2 r r r .mk) (.g r r r (fun _=>.build zv78 un78 BI78 (.c r r r (.t .nil) (.c r r r (.s (.t .nil)) .n)) (by exact ⟨⟨_,_,r,r,r⟩,⟨⟨_,_,r,r,r⟩,trivial⟩⟩) r r .mk) (.e2 21 (.storeA sz78 r r .z (.t (.t .nil)) r r (.nilS [4] r r (.drop (.s .z) (.drop (.s .z) (.ret (pret results187 (.w ia78 sz78 r .z r .n) (.refl _) ⟨({ Hi:=w64 (IntKind.wrap .u64 ((IntKind.wrap .u64 ((IntKind.wrap .u64 (a0.Hi)) - (IntKind.wrap .u64 (a1.Hi)))) - r13)),Lo:=IntKind.wrap .u64 (a0.Lo - a1.Lo) }:Wide),r,hd⟩))))))))))
theorem W_wide_Mul {I:IH} {a0:Int} {a1:Int} {Q:Wide→Prop}  (hd:wide_Mul a0 a1 Q) :
  PFun prog 168 [.int .i64 a0,.int .i64 a1] I (fun _=>o2_ Q):=by
 refine Fun.enter func168 r ntmps168 r (.c (.c .n)) fun w0 M=>?_
 refine .sr (.allocA zv78 r r fun b3=>?_)
 refine .nilS [4,1,0] r r (.sr (.ks 1 r ?_))
 have hw20:=W_wide_size (I:=I) hd
 refine .callP call186 r hw20 r r fun v21 hv22=>?_
 obtain ⟨r19,rfl,hd⟩:=hv22
 refine .ks 1 r ?_
 have hw24:=W_wide_size (I:=I) hd
 refine .callP call186 r hw24 r r fun v25 hv26=>?_
 obtain ⟨r23,rfl,hd⟩:=hv26
 have hw28:=W_wide_product (I:=I) hd
 refine .callP call185 r hw28 r r fun v29 hv30=>?_
 obtain ⟨r27,rfl,hd⟩:=hv30
 refine .allocA zv78 r r fun b31=>?_
 refine .storeA sz78 r r .z (.t (.t .nil)) r r (.nilS [5,4,1,0] r r (.seq (.sr (.ks 4 r (.neB underlying4 r r r r (.nilS [15,5,4] r r (.condP r hd (fun hb33 hd=>?_) fun hb33 hd=>?_)))))))
 · refine .sr (.build zv78 un78 BI78 .n (by exact trivial) r r (.loadW ia78 sz78 r .z r r r ?_))
   have hw35:=W_wide_Sub (I:=I) hd
   refine .callP call187 r hw35 r r fun v36 hv37=>?_
   obtain ⟨r34,rfl,hd⟩:=hv37
   exact .storeA sz78 r r (.s .z) (.t (.t .nil)) r r (.nilS [4] r r (.drop .z (.ret (pret results168 (.w ia78 sz78 r .z r .n) (.refl _) ⟨r34,r,hd⟩))))
 exact .skipS [5,4] r r (.sr (.loadW ia78 sz78 r .z r r r (.storeA sz78 r r (.s .z) (.t (.t .nil)) r r (.nilS [4] r r (.drop .z (.ret (pret results168 (.w ia78 sz78 r .z r .n) (.refl _) ⟨r27,r,hd⟩)))))))
theorem W_ring_Mul {I:IH} {a0:Int} {a1:Int} {a2:Int} {Q:Wide→Prop}  (hd:ring_Mul a0 a1 a2 Q) :
  PFun prog 129 [.int .i64 a0,.int .i64 a1,.int .i64 a2] I (fun _=>o2_ Q):=by
 refine Fun.enter func129 r ntmps129 r (.c (.c (.c .n))) fun w0 M=>?_
 refine .sr (.allocA zv78 r r fun b3=>?_)
 refine .nilS [6,2,1,0] r r (.seq (.sr (.ks 1 r (.nilS [8,6,2,1,0] r r (.block (.sr (.ks 2 r (.nilS [9,8,6,2,1,0] r r (.condP r hd (fun hb20 hd=>?_) fun hb20 hd=>?_)))))))))
 · refine .sr (.ks 3 r ?_)
   refine splitP hd (fun hb21 hd=>?_) fun hb21 hd=>?_
   · rw [hb21]
     refine .ks 3 r ?_
     have hw23:=W_ring_truth (I:=I) hd
     refine .callP call167 r hw23 r r fun v24 hv25=>?_
     obtain ⟨r22,rfl,hd⟩:=hv25
     exact .storeA sz78 r r .z (.t (.t .nil)) r r (.nilS [6] r r (.ret (pret results129 (.w ia78 sz78 r .z r .n) (.refl _) ⟨r22,r,hd⟩)))
   rw [hb21]
   refine .ks 3 r ?_
   have hw27:=W_ring_truth (I:=I) hd
   refine .callP call167 r hw27 r r fun v28 hv29=>?_
   obtain ⟨r26,rfl,hd⟩:=hv29
   exact .storeA sz78 r r .z (.t (.t .nil)) r r (.nilS [6] r r (.ret (pret results129 (.w ia78 sz78 r .z r .n) (.refl _) ⟨r26,r,hd⟩)))
 refine .sr (.ks 2 r (.nilS [18,6,2,1,0] r r (.condP r hd (fun hb30 hd=>?_) fun hb30 hd=>?_)))
 · refine .sr (.ks 2 r ?_)
   have hw32:=W_wide_Mul (I:=I) hd
   refine .callP call168 r hw32 r r fun v33 hv34=>?_
   obtain ⟨r31,rfl,hd⟩:=hv34
   exact .storeA sz78 r r .z (.t (.t .nil)) r r (.nilS [6] r r (.ret (pret results129 (.w ia78 sz78 r .z r .n) (.refl _) ⟨r31,r,hd⟩)))
 refine .skipS [6,2,1,0] r r (.seq ?_)
 refine Cod.joinQ (σ:=Unit) hd (fun (_:Unit) c w=>∃ I_,IH.le I I_∧Ok ⟨51,[],none⟩ [(0,.int .i64 a0),(1,.int .i64 a1),(2,.int .i64 a2),(6,.pointer (some ⟨b3,0,none⟩))] c∧Sym w0 M I I_ [pto b3 (.cells #[.int .i64 0,.int .u64 0] 78 (0,0))] w) (fun k55 hd=>?_) ?_
 · skip
   refine .sr (.ks 1 r ?_)
   have hw57:=W_ring_Is (I:=I) hd
   refine .callP call73 r hw57 r r fun v58 hv59=>?_
   obtain ⟨r56,rfl,hd⟩:=hv59
   refine .ks 1 r ?_
   refine splitP hd (fun hb60 hd=>?_) fun hb60 hd=>?_
   · rw [hb60]
     refine .ks 2 r (.gyes r r r (.maxI r r r r (.ks 2 r (.nilS [30,6,2,1,0] r r (.condP r hd (fun hb61 hd=>?_) fun hb61 hd=>?_)))))
     · refine .sr ?_
       have hw63:=W_wide_Of (I:=I) hd
       refine .callP call144 r hw63 r r fun v64 hv65=>?_
       obtain ⟨r62,rfl,hd⟩:=hv65
       exact .storeA sz78 r r .z (.t (.t .nil)) r r (.nilS [6] r r (.ret (pret results129 (.w ia78 sz78 r .z r .n) (.refl _) ⟨r62,r,hd⟩)))
     exact .skip' fun c w ho hs=>⟨(),hd,I,(.refl _),ho.sub ⟨r,r,r,r,trivial⟩,hs.pick (.c .z .n)⟩
   rw [hb60]
   exact .ks 5 r (.nilS [30,6,2,1,0] r r (.condKF r r (.skip' fun c w ho hs=>⟨(),hd,I,(.refl _),ho.sub ⟨r,r,r,r,trivial⟩,hs.pick (.c .z .n)⟩)))
 rintro ⟨⟩ hd c w hst
 obtain ⟨I66,hl67,hok,hsym⟩:=hst
 refine Cod.at hok hsym (.sr (.build zv78 un78 BI78 .n (by exact trivial) r r (.allocA zv78 r r fun b70=>?_)))
 refine .storeA sz78 r r .z (.t (.t .nil)) r r (.nilS [7,6,2,1,0] r r (.seq (.sr (.ks 1 r (.nilS [33,7,6,2,1] r r (.block (.seq (.block (.seq ?_)))))))))
 refine Cod.joinQ (σ:=Int×Int) hd (fun (s:Int×Int) c w=>match s with | (s88,s89)=>∃ I_,IH.le I66 I_∧Ok ⟨51,[],none⟩ [(2,.int .i64 a2),(6,.pointer (some ⟨b3,0,none⟩)),(7,.pointer (some ⟨b70,0,none⟩))] c∧Sym w0 M I I_ [pto b3 (.cells #[.int .i64 0,.int .u64 0] 78 (0,0)),pto b70 (.cells #[.int .i64 s88,.int .u64 s89] 78 (0,0))] w) (fun k90 hd=>?_) ?_
 · skip
   refine .block (.seq (.block (.seq (.seq (.sr (.ks 2 r (.nilS [34,33,7,6,2,1] r r (.condP r hd (fun hb92 hd=>?_) fun hb92 hd=>?_))))))))
   · refine .exitS [7,6,2,1] r r (.region (.ks 1 r ?_))
     have hw94:=W_wide_Of (I:=I66) hd
     refine .callP call144 r hw94 r r fun v95 hv96=>?_
     obtain ⟨r93,rfl,hd⟩:=hv96
     exact .storeA sz78 r r .z (.t (.t .nil)) r r (.nil' fun c w ho hs=>⟨(r93.Hi,r93.Lo),hd,I66,(.refl _),ho.sub ⟨r,r,r,trivial⟩,hs.pick (.c (.s .z) (.c .z .n))⟩)
   refine .skipS [33,7,6,2,1] r r (.seq (.sr (.ks 2 r (.nilS [36,33,7,6,2,1] r r (.condP r hd (fun hb97 hd=>?_) fun hb97 hd=>?_)))))
   · exact .exit fun c w ho hs=>⟨(0,0),hd,I66,(.refl _),ho.sub ⟨r,r,r,trivial⟩,hs.pick (.c (.s .z) (.c .z .n))⟩
   refine .skipS [33,7,6,1] r r (.sr (.ks 2 r (.nilS [38,7,6,1] r r (.condP r hd (fun hb98 hd=>?_) fun hb98 hd=>?_))))
   · refine .exitS [6,1] r r (.drop .z (.seq (.sr (.ks 1 r ?_))))
     have hw100:=W_wide_Of (I:=I66) hd
     refine .callP call144 r hw100 r r fun v101 hv102=>?_
     obtain ⟨r99,rfl,hd⟩:=hv102
     exact .storeA sz78 r r .z (.t (.t .nil)) r r (.nilS [6] r r (.ret (pret results129 (.w ia78 sz78 r .z r .n) hl67 ⟨r99,r,hd⟩)))
   exact .skipS [7,6] r r (.exitS [7,6] r r (.sr (.loadW ia78 sz78 r .z r r r (.storeA sz78 r r (.s .z) (.t (.t .nil)) r r (.nilS [6] r r (.drop .z (.ret (pret results129 (.w ia78 sz78 r .z r .n) hl67 ⟨({ Hi:=0,Lo:=0 }:Wide),r,hd⟩))))))))
 rintro ⟨s88,s89⟩ hd c w hst
 obtain ⟨I103,hl104,hok,hsym⟩:=hst
 have le105:=IH.le.trans hl67 hl104
 refine Cod.at hok hsym (.seq (.seq (.dr [1,2,0,3,4,5] 6 (.g r r r (fun _=>.loadW ia78 sz78 r (.s .z) r r r .mk) (.fk 1 r (.ww r fun ex=>?_))))))
 have hw107:=W_wide_Of (I:=I103) hd
 refine .callP call144 r hw107 r r fun v108 hv109=>?_
 obtain ⟨r106,rfl,hd⟩:=hv109
 refine .so 2 r r r (.ck 1 r r (.cg r r r r (fun _=>.loadW ia78 sz78 r (.s .z) r r r .mk) trivial)) (.ww r fun ex=>?_)
 have hw111:=W_wide_Of (I:=I103) hd
 refine .callP call144 r hw111 r r fun v112 hv113=>?_
 obtain ⟨r110,rfl,hd⟩:=hv113
 refine .so 2 r r r (.cg r r r r (fun _=>.loadW ia78 sz78 r (.s .z) r r r .mk) trivial) (.ww r fun ex=>?_)
 have hw115:=W_wide_Add (I:=I103) hd
 refine .callP call170 r hw115 r r fun v116 hv117=>?_
 obtain ⟨r114,rfl,hd⟩:=hv117
 refine .so 2 r r r trivial (.ww r fun ex=>?_)
 have hw119:=W_ring_lesser (I:=I103) hd
 refine .callP call169 r hw119 r r fun v120 hv121=>?_
 obtain ⟨r118,rfl,hd⟩:=hv121
 exact .so 2 r r r trivial (.e2 6 (.storeA sz78 r r .z (.t (.t .nil)) r r (.nilS [6] r r (.drop (.s .z) (.ret (pret results129 (.w ia78 sz78 r .z r .n) le105 ⟨r118,r,hd⟩))))))
theorem W_push_column {I:IH} {a0:Int} {a1:List Item} {a2:Int} {a3:List Int} {a4:Bool} {p1:Option Addr} {c2:Nat} {p4:Option Addr} {c5:Nat} {Q:(List Sum)→Prop} (R3:RepSl eItem I p1 c2 a1) (R6:RepSl eU64 I p4 c5 a3) (hd:push_column a0 a1 a2 a3 a4 Q) :
  PFun prog 82 [.int .i64 a0,.slice p1 a1.length c2,.int .i64 a2,.slice p4 a3.length c5,.bool a4] I (o14_ Q):=by
 refine Fun.enter func82 r ntmps82 r (.c (.c (.c (.c (.c .n))))) fun w0 M=>?_
 refine .sr (.ks 1 r (.nilS [4,3,2,1,0] r r (.sr (.ks 1 r (.nilS [11,4,3,2,1,0] r r (.seq (.sr (.ks 1 r (.len un25 r r r r ?_)))))))))
 refine .ks 1 r (.nilS [16,15,14,11,4,3,2,0] r r (.block (.own0 eSum 80 (.loop hd (fun (s:(List Sum)×Int) c w=>match s with | (s112,s116)=>∃ I_ p113 c114,IH.le I I_∧Ok ⟨39,[],none⟩ [(0,.int .i64 a0),(2,.int .i64 a2),(3,.slice p4 a3.length c5),(4,.bool a4),(11,.slice p113 s112.length c114),(14,.slice p1 a1.length c2),(15,.int .i64 (a1.length:Int)),(16,.int .i64 s116)] c∧Sym w0 M I I_ [OwnSl eSum 80 p113 c114 s112] w) (fun c w ho hs=>⟨I,_,_,(.refl _),ho.sub ⟨r,r,r,r,r,r,r,r,trivial⟩,hs.pick (.c .z .n)⟩) ?_))))
 rintro ⟨s112,s116⟩ next118 hd c w hst
 obtain ⟨I119,p113,c114,hl120,hok,hsym⟩:=hst
 replace R3:=R3.mono hl120
 replace R6:=R6.mono hl120
 refine Cod.at hok hsym (.sr (.ks 1 r (.nilS [17,16,15,14,11,4,3,2,0] r r (.seq (.condP r hd (fun hb122 hd=>?_) fun hb122 hd=>?_)))))
 · refine .skipS [16,15,14,11,4,3,2,0] r r (.seq (.block (.sr ?_)))
   obtain ⟨h134,x135,hx136,hd⟩:=hd
   obtain ⟨b137,o138,cs139,e140,hC141,hr142⟩:=R3.2 _ _ hx136
   cases hr142
   refine .ixa un25 sz72 r e140 r h134 (idx_lt hx136 h134) r r (.ldW ia72 sz72 hC141 r r r r (.allocA zv72 r r fun b143=>?_))
   refine .storeA sz72 r r .z (.t (.t .nil)) r r (.nilS [13,16,15,14,11,4,3,2,0] r r (.sr (.ks 1 r (.fa un72 r sz3 r (o:=0) r r r (.load1 ia3 r .z r r r ?_)))))
   have hw150:=W_flags_Has (I:=I119) R6 hd
   refine .callP call128 r hw150 r r fun v151 hv152=>?_
   obtain ⟨r149,rfl,hd⟩:=hv152
   refine .ks 1 r (.neB underlying4 r r r r (.nilS [25,13,16,15,14,11,4,3,2,0] r r (.condP r hd (fun hb153 hd=>?_) fun hb153 hd=>?_)))
   · refine .dr [0,1,2,3,4,5,6,7,8,9,10] 11 (.fk 1 r (.g r r r (fun _=>.fa un72 r sz3 r (o:=0) r r r .mk) (.g r r r (fun _=>.load1 ia3 r .z r r r .mk) (.fk 1 r (.g r r r (fun _=>.fa un72 r sz2 r (o:=1) r r r .mk) (.g r r r (fun _=>.load1 ia2 r .z r r r .mk) (.fk 1 r (.ww r fun ex=>?_))))))))
     have hw155:=W_ring_Mul (I:=I119) hd
     refine .callP call129 r hw155 r r fun v156 hv157=>?_
     obtain ⟨r154,rfl,hd⟩:=hv157
     refine .so 2 r r r (.cg r r r r (fun _=>.load1 ia3 r .z r r r .mk) (.cg r r r r (fun _=>.fa un72 r sz3 r (o:=0) r r r .mk) (.ck 1 r r trivial))) (.g r r r (fun _=>.build zv80 un80 BI80 (.c r r r (.t .nil) (.c r r r (.s (.t (.t .nil))) .n)) (by exact ⟨⟨_,_,r,r,r⟩,⟨⟨_,_,r,r,r⟩,trivial⟩⟩) r r .mk) (.ww r fun ex=>?_))
     refine .buildSlice 1 un58 sz80 zv80 r r (.c r r r .n) r r fun b158=>?_
     refine .so 3 r r r (.ck 1 r r trivial) (.ww r fun ex=>?_)
     obtain ⟨hl160,hd⟩:=hd
     refine .append (ys:=[({ At:=x135.At,Val:=r154 }:Sum)]) 24 (.s (.s .z)) un58 un58 IN80 r r r r r r r r r (.box .z (.one r) r) hl160 r r fun p161 c162=>?_
     exact .so 3 r r r trivial (.e2 11 (.ks 1 r (.nilS [11,16,15,14,4,3,2,0] r r (.drop (.s .z) (.drop (.s .z) (.region (.ks 2 r (.nil' fun c w ho hs=>⟨((s112++([({ At:=x135.At,Val:=r154 }:Sum)])),w64 (s116+1)),hd,I119,_,_,hl120,ho.sub ⟨r,r,r,r,r,r,r,r,trivial⟩,hs.pick (.c .z .n)⟩))))))))
   exact .skipS [16,15,14,11,4,3,2,0] r r (.drop .z (.region (.ks 2 r (.nil' fun c w ho hs=>⟨(s112,w64 (s116+1)),hd,I119,_,_,hl120,ho.sub ⟨r,r,r,r,r,r,r,r,trivial⟩,hs.pick (.c .z .n)⟩))))
 refine .exitS [11] r r (.sr (.ks 2 r (.nilS [10] r r (.pub .z fun I164 hl165 R166=>?_))))
 have le167:=IH.le.trans hl120 hl165
 exact .ret (pret results82 (.t r .n) le167 ⟨s112,_,_,r,R166,hd⟩)
theorem W_dcsc_none {I:IH} {Q:Columns→Prop}  (hd:dcsc_none Q) :
  OFun prog 150 [] I (fun I_ v l=>∃ r p1 c2 p4 c5 p7 c8 p10 c11,v=.agg #[.int .i64 r.Rows,.int .i64 r.Cols,.slice p1 r.At.length c2,.slice p4 r.Start.length c5,.slice p7 r.Row.length c8,.slice p10 r.Val.length c11]∧l=[OwnSl eI64 3 p1 c2 r.At,OwnSl eI64 3 p4 c5 r.Start,OwnSl eI64 3 p7 c8 r.Row,OwnSl eI64 2 p10 c11 r.Val]∧Q r):=by
 refine Fun.enter func150 r ntmps150 r .n fun w0 M=>?_
 refine .sr (.allocA zv64 r r fun b13=>?_)
 refine .nilS [0] r r (.sr (.buildSlice 1 un31 sz3 zv3 r r (.c r r r .n) r r fun b15=>?_))
 exact .ownB (El:=eI64) (ys:=([0]:List Int)) .z (.one r) r (.build zv64 un64 BI64 (.c r r r (.s (.s (.s (.t .nil)))) .n) (by exact ⟨⟨_,_,r,r,r⟩,trivial⟩) r r (.storeA sz64 r r (.s .z) (.t (.t (.t (.t (.t (.t .nil)))))) r r (.nilS [0] r r (.own0 eI64 3 (.own0 eI64 3 (.own0 eI64 2 (.ret (oret results150 (.w ia64 sz64 r (.s (.s (.s (.s .z)))) r .n) (.refl _) (.c (.s (.s .z)) (.c (.s (.s .z)) (.c (.s .z) (.c .z .n)))) ⟨({ Rows:=0,Cols:=0,At:=([]:List Int),Start:=([0]:List Int),Row:=([]:List Int),Val:=([]:List Int) }:Columns),_,_,_,_,_,_,_,_,r,r,hd⟩))))))))
theorem W_dcsc_sure {I:IH} {a0:Columns} {p1:Option Addr} {c2:Nat} {p4:Option Addr} {c5:Nat} {p7:Option Addr} {c8:Nat} {p10:Option Addr} {c11:Nat} {Q:Columns→Prop} (R3:RepSl eI64 I p1 c2 a0.At) (R6:RepSl eI64 I p4 c5 a0.Start) (R9:RepSl eI64 I p7 c8 a0.Row) (R12:RepSl eI64 I p10 c11 a0.Val) (hd:dcsc_sure a0 Q) :
  PFun prog 130 [.agg #[.int .i64 a0.Rows,.int .i64 a0.Cols,.slice p1 a0.At.length c2,.slice p4 a0.Start.length c5,.slice p7 a0.Row.length c8,.slice p10 a0.Val.length c11]] I (fun I_ v=>∃ r p13 c14 p16 c17 p19 c20 p22 c23,v=.agg #[.int .i64 r.Rows,.int .i64 r.Cols,.slice p13 r.At.length c14,.slice p16 r.Start.length c17,.slice p19 r.Row.length c20,.slice p22 r.Val.length c23]∧RepSl eI64 I_ p13 c14 r.At∧RepSl eI64 I_ p16 c17 r.Start∧RepSl eI64 I_ p19 c20 r.Row∧RepSl eI64 I_ p22 c23 r.Val∧Q r):=by
 refine Fun.enter func130 r ntmps130 r (.c .n) fun w0 M=>?_
 refine .sr (.boxA r r r fun b29=>?_)
 refine .allocA zv64 r r fun b31=>?_
 refine .nilS [2,1] r r (.seq (.sr (.loadW ia64 sz64 r (.s .z) r r r ?_)))
 have hw34:=W_dcsc_Right (I:=I) R3 R6 R9 R12 hd
 refine .callP call127 r hw34 r r fun v35 hv36=>?_
 obtain ⟨r33,rfl,hd⟩:=hv36
 refine .nilS [4,2,1] r r (.condP r hd (fun hb37 hd=>?_) fun hb37 hd=>?_)
 · exact .sr (.loadW ia64 sz64 r (.s .z) r r r (.storeA sz64 r r .z (.t (.t (.t (.t (.t (.t .nil)))))) r r (.nilS [2] r r (.drop (.s .z) (.ret (pret results130 (.w ia64 sz64 r .z r .n) (.refl _) ⟨a0,_,_,_,_,_,_,_,_,r,R3,R6,R9,R12,hd⟩))))))
 refine .skipS [2] r r (.drop (.s .z) (.sr ?_))
 have hw60:=W_dcsc_none (I:=I) hd
 refine .callO call150 r hw60 r r fun v42 I39 l43 hl40 hv41=>?_
 obtain ⟨r38,p44,c45,p47,c48,p50,c51,p53,c54,rfl,rfl,hd⟩:=hv41
 refine .storeA sz64 r r (.s (.s (.s (.s .z)))) (.t (.t (.t (.t (.t (.t .nil)))))) r r (.nilS [2] r r (.pub .z fun I61 hl62 R63=>?_))
 have le64:=IH.le.trans hl40 hl62
 refine .pub .z fun I65 hl66 R67=>?_
 have le68:=IH.le.trans le64 hl66
 replace R63:=R63.mono hl66
 refine .pub .z fun I69 hl70 R71=>?_
 have le72:=IH.le.trans le68 hl70
 replace R63:=R63.mono hl70
 replace R67:=R67.mono hl70
 refine .pub .z fun I73 hl74 R75=>?_
 have le76:=IH.le.trans le72 hl74
 replace R63:=R63.mono hl74
 replace R67:=R67.mono hl74
 replace R71:=R71.mono hl74
 exact .ret (pret results130 (.w ia64 sz64 r .z r .n) le76 ⟨r38,_,_,_,_,_,_,_,_,r,R63,R67,R71,R75,hd⟩)
theorem W_dcsc_place {I:IH} {a0:Columns} {a1:Int} {p1:Option Addr} {c2:Nat} {p4:Option Addr} {c5:Nat} {p7:Option Addr} {c8:Nat} {p10:Option Addr} {c11:Nat} {Q:Int→Prop} (R3:RepSl eI64 I p1 c2 a0.At) (R6:RepSl eI64 I p4 c5 a0.Start) (R9:RepSl eI64 I p7 c8 a0.Row) (R12:RepSl eI64 I p10 c11 a0.Val) (hd:dcsc_place a0 a1 Q) :
  PFun prog 131 [.agg #[.int .i64 a0.Rows,.int .i64 a0.Cols,.slice p1 a0.At.length c2,.slice p4 a0.Start.length c5,.slice p7 a0.Row.length c8,.slice p10 a0.Val.length c11],.int .i64 a1] I (fun _=>o0_ Q):=by
 refine Fun.enter func131 r ntmps131 r (.c (.c .n)) fun w0 M=>?_
 refine .sr (.boxA r r r fun b15=>?_)
 refine .ks 1 r (.nilS [2,1] r r (.scope (.seq (.dr [0,1,2,3] 4 (.g r r r (fun _=>.fa un64 r sz31 r (o:=2) r r r .mk) (.g r r r (fun _=>.load1 ia31 r .z r r r .mk) (.g r r r (fun _=>.len un31 r r r r .mk) (.fk 1 r (.e2 4 ?_)))))))))
 refine .ks 1 r (.nilS [6,5,2,1] r r (.seq (.labelS [6,5,2,1] r r (.seq ?_))))
 refine Cod.joinQ (σ:=Int×Int) hd (fun (s:Int×Int) c w=>match s with | (s225,s226)=>∃ I_,IH.le I I_∧Ok ⟨44,[],none⟩ [(5,.int .i64 s225),(6,.int .i64 s226)] c∧Sym w0 M I I_ [] w) (fun k227 hd=>?_) ?_
 · skip
   refine .block (.loop hd (fun (s:Int×Int) c w=>match s with | (s296,s297)=>∃ I_,IH.le I I_∧Ok ⟨44,[],none⟩ [(1,.int .i64 a1),(2,.pointer (some ⟨b15,0,none⟩)),(5,.int .i64 s296),(6,.int .i64 s297)] c∧Sym w0 M I I_ [pto b15 (.cells #[.int .i64 a0.Rows,.int .i64 a0.Cols,.slice p1 a0.At.length c2,.slice p4 a0.Start.length c5,.slice p7 a0.Row.length c8,.slice p10 a0.Val.length c11] 64 (0,0))] w) (fun c w ho hs=>⟨I,(.refl _),ho.sub ⟨r,r,r,r,trivial⟩,hs.pick (.c .z .n)⟩) ?_)
   rintro ⟨s296,s297⟩ next298 hd c w hst
   obtain ⟨I299,hl300,hok,hsym⟩:=hst
   replace R3:=R3.mono hl300
   replace R6:=R6.mono hl300
   replace R9:=R9.mono hl300
   replace R12:=R12.mono hl300
   refine Cod.at hok hsym (.seq (.sr (.ks 3 r (.nilS [13,6,5,2,1] r r (.condP r hd (fun hb302 hd=>?_) fun hb302 hd=>?_)))))
   · refine .skipS [6,5,2,1] r r (.block (.sr (.ks 4 r (.quo r r (by decide) r r (.ks 2 r (.nilS [7,6,5,2,1] r r (.block (.sr (.fa un64 r sz31 r (o:=2) r r r ?_)))))))))
     refine .load1 ia31 r .z r r r (.ks 1 r ?_)
     obtain ⟨h312,x313,hx314,hd⟩:=hd
     obtain ⟨b315,o316,cs317,e318,hC319,hr320⟩:=R3.2 _ _ hx314
     cases hr320
     refine .ixa un31 sz3 r e318 r h312 (idx_lt hx314 h312) r r (.ld1 (j:=0) ia3 hC319 r r r r r (.ks 3 r (.nilS [21,7,6,5,2,1] r r (.condP r hd (fun hb321 hd=>?_) fun hb321 hd=>?_))))
     · exact .sr (.ks 2 r (.nilS [5,6] r r (.drop .z (.exit fun c w ho hs=>⟨(w64 (s296+(w64 ((w64 (s297 - s296)).tdiv 2))),s297),hd,I299,hl300,ho.sub ⟨r,r,trivial⟩,hs.pick .n⟩))))
     refine .sr (.fa un64 r sz31 r (o:=2) r r r (.load1 ia31 r .z r r r (.ks 1 r ?_)))
     obtain ⟨h322,x323,hx324,hd⟩:=hd
     obtain ⟨b325,o326,cs327,e328,hC329,hr330⟩:=R3.2 _ _ hx324
     cases hr330
     refine .ixa un31 sz3 r e328 r h322 (idx_lt hx324 h322) r r (.ld1 (j:=0) ia3 hC329 r r r r r (.ks 3 r (.nilS [30,7,6,5,2,1] r r (.condP r hd (fun hb331 hd=>?_) fun hb331 hd=>?_))))
     · exact .region (.ks 3 r (.nil' fun c w ho hs=>⟨(w64 ((w64 (s296+(w64 ((w64 (s297 - s296)).tdiv 2))))+1),s297),hd,I299,hl300,ho.sub ⟨r,r,r,r,trivial⟩,hs.pick (.c .z .n)⟩))
     exact .region (.ks 2 r (.nil' fun c w ho hs=>⟨(s296,w64 (s296+(w64 ((w64 (s297 - s296)).tdiv 2)))),hd,I299,hl300,ho.sub ⟨r,r,r,r,trivial⟩,hs.pick (.c .z .n)⟩))
   exact .exit fun c w ho hs=>⟨(s296,s297),hd,I299,hl300,ho.sub ⟨r,r,trivial⟩,hs.pick .n⟩
 rintro ⟨s225,s226⟩ hd c w hst
 obtain ⟨I332,hl333,hok,hsym⟩:=hst
 refine Cod.at hok hsym (.seq (.sr (.ks 3 r (.nilS [42,5] r r (.condP r hd (fun hb334 hd=>?_) fun hb334 hd=>?_)))))
 · exact .sr (.ks 2 r (.nilS [4] r r (.ret (pret results131 (.t r .n) hl333 ⟨s225,r,hd⟩))))
 exact .skipS [] r r (.sr (.ks 1 r (.nilS [4] r r (.ret (pret results131 (.t r .n) hl333 ⟨(-1),r,hd⟩)))))
theorem W_dcsc_items_9d2 {I:IH} {a0:Columns} {a1:Int} {p1:Option Addr} {c2:Nat} {p4:Option Addr} {c5:Nat} {p7:Option Addr} {c8:Nat} {p10:Option Addr} {c11:Nat} {Q:(Columns×Int)→Prop} (R3:RepSl eI64 I p1 c2 a0.At) (R6:RepSl eI64 I p4 c5 a0.Start) (R9:RepSl eI64 I p7 c8 a0.Row) (R12:RepSl eI64 I p10 c11 a0.Val) (hd:dcsc_items_9d2 a0 a1 Q) :
  Fun prog 133 #[.agg #[.int .i64 a0.Rows,.int .i64 a0.Cols,.slice p1 a0.At.length c2,.slice p4 a0.Start.length c5,.slice p7 a0.Row.length c8,.slice p10 a0.Val.length c11],.int .i64 a1] I [] (fun I_ v l=>∃ r b13 p14 c15 p17 c18 p20 c21 p23 c24 b26,v=.func (.func 172) #[] #[.pointer (some ⟨b13,0,none⟩),.pointer (some ⟨b26,0,none⟩)]∧RepSl eI64 I_ p14 c15 r.1.At∧RepSl eI64 I_ p17 c18 r.1.Start∧RepSl eI64 I_ p20 c21 r.1.Row∧RepSl eI64 I_ p23 c24 r.1.Val∧l=[pto b13 (.cells #[.int .i64 r.1.Rows,.int .i64 r.1.Cols,.slice p14 r.1.At.length c15,.slice p17 r.1.Start.length c18,.slice p20 r.1.Row.length c21,.slice p23 r.1.Val.length c24] 64 (0,0)),pto b26 (.cells #[.int .i64 r.2] 3 (0,0))]∧Q r):=by
 refine Fun.enter (vs:=[.agg #[.int .i64 a0.Rows,.int .i64 a0.Cols,.slice p1 a0.At.length c2,.slice p4 a0.Start.length c5,.slice p7 a0.Row.length c8,.slice p10 a0.Val.length c11],.int .i64 a1]) func133 r ntmps133 r (.c (.c .n)) fun w0 M=>?_
 refine .sr (.boxA r r r fun b13=>?_)
 refine .box1 r r r r fun b15=>?_
 exact .ks 1 r (.nilS [3,2] r r (.sr (.mkFn r r r r (.ks 1 r (.nilS [4] r r (.ret (oret results133 (.t r .n) (.refl _) (.c (.s .z) (.c .z .n)) ⟨(a0,a1),_,_,_,_,_,_,_,_,_,_,r,R3,R6,R9,R12,r,hd⟩)))))))
theorem W_dcsc_items_1_1ae {I:IH} {o0:Nat} {o1:List Item} {o2:Columns} {o3:Int} {Y:Nat→(List Item)→Item→((Bool×Nat×(List Item))→Prop)→Prop} {b5:Nat} {p6:Option Addr} {c7:Nat} {b10:Nat} {p11:Option Addr} {c12:Nat} {p14:Option Addr} {c15:Nat} {p17:Option Addr} {c18:Nat} {p20:Option Addr} {c21:Nat} {b23:Nat} {lr:Nat} {Rr:Nat→HA} {Q:(Nat×(List Item))→Prop} (hY:∀ {J_:IH},I.le J_→∀ {y24:Nat} {y25:List Item} {x31:Item} {p27:Option Addr} {c28:Nat} {Qy:(Bool×Nat×(List Item))→Prop},Y y24 y25 x31 Qy→RFun prog lr [.agg (encItem x31).toArray] J_ [Rr y24,pto b5 (.cells #[.slice p27 y25.length c28] 25 (0,0)),OwnSl eItem 72 p27 c28 y25] (fun I_ v l=>∃ r p33 c34,v=.bool r.1∧l=[Rr r.2.1,pto b5 (.cells #[.slice p33 r.2.2.length c34] 25 (0,0)),OwnSl eItem 72 p33 c34 r.2.2]∧Qy r)) (R13:RepSl eI64 I p11 c12 o2.At) (R16:RepSl eI64 I p14 c15 o2.Start) (R19:RepSl eI64 I p17 c18 o2.Row) (R22:RepSl eI64 I p20 c21 o2.Val) (hd:dcsc_items_1_1ae o0 o1 o2 o3 Y Q) :
  Fun prog 172 #[.func (.yield lr) #[] #[],.pointer (some ⟨b10,0,none⟩),.pointer (some ⟨b23,0,none⟩)] I [Rr o0,pto b5 (.cells #[.slice p6 o1.length c7] 25 (0,0)),OwnSl eItem 72 p6 c7 o1,pto b10 (.cells #[.int .i64 o2.Rows,.int .i64 o2.Cols,.slice p11 o2.At.length c12,.slice p14 o2.Start.length c15,.slice p17 o2.Row.length c18,.slice p20 o2.Val.length c21] 64 (0,0)),pto b23 (.cells #[.int .i64 o3] 3 (0,0))] (fun I_ v l=>∃ r p25 c26,v=.tuple #[]∧l=[Rr r.1,pto b5 (.cells #[.slice p25 r.2.length c26] 25 (0,0)),OwnSl eItem 72 p25 c26 r.2,pto b10 (.cells #[.int .i64 o2.Rows,.int .i64 o2.Cols,.slice p11 o2.At.length c12,.slice p14 o2.Start.length c15,.slice p17 o2.Row.length c18,.slice p20 o2.Val.length c21] 64 (0,0)),pto b23 (.cells #[.int .i64 o3] 3 (0,0))]∧Q r):=by
 refine Fun.enter (vs:=[.func (.yield lr) #[] #[],.pointer (some ⟨b10,0,none⟩),.pointer (some ⟨b23,0,none⟩)]) func172 r ntmps172 r (.c (.c (.c .n))) fun w0 M=>?_
 refine .sr (.fa un64 r sz31 r (o:=3) r r r (.load1 ia31 r (.s (.s (.s .z))) r r r (.load1 ia3 r (.s (.s (.s (.s .z)))) r r r ?_)))
 obtain ⟨h41,x42,hx43,hd⟩:=hd
 obtain ⟨b44,o45,cs46,e47,hC48,hr49⟩:=R16.2 _ _ hx43
 cases hr49
 refine .ixa un31 sz3 r e47 r h41 (idx_lt hx43 h41) r r (.ld1 (j:=0) ia3 hC48 r r r r r (.ks 1 r (.nilS [4,2,1,0] r r (.block (.loop hd (fun (s:(List Item)×Int×Nat) c w=>match s with | (s176,s180,s181)=>∃ I_ p177 c178,IH.le I I_∧Ok ⟨34,[],none⟩ [(0,.func (.yield lr) #[] #[]),(1,.pointer (some ⟨b10,0,none⟩)),(2,.pointer (some ⟨b23,0,none⟩)),(4,.int .i64 s180)] c∧Sym w0 M I I_ [pto b5 (.cells #[.slice p177 s176.length c178] 25 (0,0)),OwnSl eItem 72 p177 c178 s176,pto b10 (.cells #[.int .i64 o2.Rows,.int .i64 o2.Cols,.slice p11 o2.At.length c12,.slice p14 o2.Start.length c15,.slice p17 o2.Row.length c18,.slice p20 o2.Val.length c21] 64 (0,0)),pto b23 (.cells #[.int .i64 o3] 3 (0,0)),Rr s181] w) (fun c w ho hs=>⟨I,_,_,(.refl _),ho.sub ⟨r,r,r,r,trivial⟩,hs.pick (.c (.s .z) (.c (.s .z) (.c (.s .z) (.c (.s .z) (.c .z .n)))))⟩) ?_)))))
 rintro ⟨s176,s180,s181⟩ next182 hd c w hst
 obtain ⟨I183,p177,c178,hl184,hok,hsym⟩:=hst
 replace R13:=R13.mono hl184
 replace R16:=R16.mono hl184
 replace R19:=R19.mono hl184
 replace R22:=R22.mono hl184
 refine Cod.at hok hsym (.seq (.sr (.ks 1 r (.fa un64 r sz31 r (o:=3) r r r (.load1 ia31 r (.s (.s .z)) r r r (.load1 ia3 r (.s (.s (.s .z))) r r r (.ks 1 r ?_)))))))
 obtain ⟨h195,x196,hx197,hd⟩:=hd
 obtain ⟨b198,o199,cs200,e201,hC202,hr203⟩:=R16.2 _ _ hx197
 cases hr203
 refine .ixa un31 sz3 r e201 r h195 (idx_lt hx197 h195) r r (.ld1 (j:=0) ia3 hC202 r r r r r (.ks 1 r (.nilS [17,4,2,1,0] r r (.condP r hd (fun hb204 hd=>?_) fun hb204 hd=>?_))))
 · refine .skipS [4,2,1,0] r r (.seq (.block (.seq (.ownF (.s .z) fun hne205=>?_))))
   refine .dr [0,1,2,3,4,5,6,7,8,9,10,11,12,13] 14 (.fk 1 r (.g r r r (fun _=>.fa un64 r sz31 r (o:=4) r r r .mk) (.g r r r (fun _=>.load1 ia31 r (.s (.s .z)) r r r .mk) (.fk 1 r ?_))))
   obtain ⟨h206,x207,hx208,hd⟩:=hd
   obtain ⟨b209,o210,cs211,e212,hC213,hr214⟩:=R19.2 _ _ hx208
   cases hr214
   refine .g r r r (fun _=>.ixa un31 sz3 r e212 r h206 (idx_lt hx208 h206) r r .mk) (.g r r r (fun _=>.ld1 (j:=0) ia3 hC213 r r r r r .mk) (.g r r r (fun _=>.fa un64 r sz32 r (o:=5) r r r .mk) (.g r r r (fun _=>.load1 ia32 r (.s (.s .z)) r r r .mk) (.fk 1 r ?_))))
   obtain ⟨h215,x216,hx217,hd⟩:=hd
   obtain ⟨b218,o219,cs220,e221,hC222,hr223⟩:=R22.2 _ _ hx217
   cases hr223
   refine .g r r r (fun _=>.ixa un32 sz2 r e221 r h215 (idx_lt hx217 h215) r r .mk) (.g r r r (fun _=>.ld1 (j:=0) ia2 hC222 r r r r r .mk) (.g r r r (fun _=>.build zv72 un72 BI72 (.c r r r (.t .nil) (.c r r r (.s (.t .nil)) .n)) (by exact ⟨⟨_,_,r,r,r⟩,⟨⟨_,_,r,r,r⟩,trivial⟩⟩) r r .mk) (.ww r fun ex=>?_)))
   have hw224:=hY (J_:=I183) hl184 (y24:=s181) (y25:=s176) (x31:=({ At:=x207,Val:=x216 }:Item)) (p27:=p177) (c28:=c178) hd
   refine .callY r r (.c (.s (.s (.s (.s .z)))) (.c .z (.c .z .n))) hw224 r r fun v228 I225 l229 hl226 hv227=>?_
   obtain ⟨r230,p234,c235,rfl,rfl,hd⟩:=hv227
   have le238:=IH.le.trans hl184 hl226
   replace R13:=R13.mono hl226
   replace R16:=R16.mono hl226
   replace R19:=R19.mono hl226
   replace R22:=R22.mono hl226
   replace hC213:=hC213.mono hl226
   replace hC222:=hC222.mono hl226
   refine .re (m':=(Rr r230.2.1) :: (pto b5 (.cells #[.slice p234 r230.2.2.length c235] 25 (0,0))) :: (OwnSl eItem 72 p234 c235 r230.2.2) :: (pto b10 (.cells #[.int .i64 o2.Rows,.int .i64 o2.Cols,.slice p11 o2.At.length c12,.slice p14 o2.Start.length c15,.slice p17 o2.Row.length c18,.slice p20 o2.Val.length c21] 64 (0,0))) :: (pto b23 (.cells #[.int .i64 o3] 3 (0,0))) :: ex) r (.so 5 r r r trivial (.fk 1 r (.e2 14 (.nilS [33,4,2,1,0] r r (.condP r hd (fun hb239 hd=>?_) fun hb239 hd=>?_)))))
   · exact .ret (oret results172 .n le238 (.c .z (.c .z (.c .z (.c .z (.c .z .n))))) ⟨(r230.2.1,r230.2.2),_,_,r,r,hd⟩)
   exact .skipS [4,2,1,0] r r (.region (.ks 3 r (.nil' fun c w ho hs=>⟨(r230.2.2,w64 (s180+1),r230.2.1),hd,I225,_,_,le238,ho.sub ⟨r,r,r,r,trivial⟩,hs.pick (.c (.s .z) (.c (.s .z) (.c (.s .z) (.c (.s .z) (.c .z .n)))))⟩)))
 exact .exit (oretN results172 .n hl184 (.c (.s (.s (.s (.s .z)))) (.c .z (.c .z (.c .z (.c .z .n))))) ⟨(s181,s176),_,_,r,r,hd⟩)
theorem W_slices_AppendSeq_api_Item_api_Item_828 {I:IH} {o0:Columns} {o1:Int} {b3:Nat} {p4:Option Addr} {c5:Nat} {p7:Option Addr} {c8:Nat} {p10:Option Addr} {c11:Nat} {p13:Option Addr} {c14:Nat} {b16:Nat} {Q:(List Item)→Prop} (R6:RepSl eI64 I p4 c5 o0.At) (R9:RepSl eI64 I p7 c8 o0.Start) (R12:RepSl eI64 I p10 c11 o0.Row) (R15:RepSl eI64 I p13 c14 o0.Val) (hd:slices_AppendSeq_api_Item_api_Item_828 o0 o1 Q) :
  Fun prog 171 #[.slice none 0 0,.func (.func 172) #[] #[.pointer (some ⟨b3,0,none⟩),.pointer (some ⟨b16,0,none⟩)]] I [pto b3 (.cells #[.int .i64 o0.Rows,.int .i64 o0.Cols,.slice p4 o0.At.length c5,.slice p7 o0.Start.length c8,.slice p10 o0.Row.length c11,.slice p13 o0.Val.length c14] 64 (0,0)),pto b16 (.cells #[.int .i64 o1] 3 (0,0))] (fun I_ v l=>∃ r p17 c18,v=.slice p17 r.length c18∧RepSl eItem I_ p17 c18 r∧l=[pto b3 (.cells #[.int .i64 o0.Rows,.int .i64 o0.Cols,.slice p4 o0.At.length c5,.slice p7 o0.Start.length c8,.slice p10 o0.Row.length c11,.slice p13 o0.Val.length c14] 64 (0,0)),pto b16 (.cells #[.int .i64 o1] 3 (0,0))]∧Q r):=by
 refine Fun.enter (vs:=[.slice none 0 0,.func (.func 172) #[] #[.pointer (some ⟨b3,0,none⟩),.pointer (some ⟨b16,0,none⟩)]]) func171 r ntmps171 r (.c (.c .n)) fun w0 M=>?_
 refine .marks0 (.sr (.box1 r r r r fun b19=>?_))
 refine .ks 1 r (.nilS [2,1] r r (.seq (.sr (.ks 1 r (.nilS [6,2,1] r r (.block (.own0 eItem 72 (.rangeF [] r call172 (.c (.s (.s .z)) (.c (.s .z) (.c .z (.c .z (.c .z .n))))) fun lr D rc hrc=>?_))))))))
 refine ⟨_,W_dcsc_items_1_1ae (I:=I) (lr:=lr) (Rr:=recA lr [] rc) (o0:=0) (o1:=([]:List Item)) (o2:=o0) (o3:=o1) (b5:=b19) (p6:=none) (c7:=0) (b10:=b3) (p11:=p4) (c12:=c5) (p14:=p7) (c15:=c8) (p17:=p10) (c18:=c11) (p20:=p13) (c21:=c14) (b23:=b16) ?_ R6 R9 R12 R15 hd,?_⟩
 · skip
   intro I hJ y55 y56 x62 p58 c59 Qy  hd
   replace R6:=R6.mono hJ
   replace R9:=R9.mono hJ
   replace R12:=R12.mono hJ
   replace R15:=R15.mono hJ
   obtain ⟨rfl,hd⟩:=hd
   refine RFun.mk hrc r fun w0 M=>?_
   refine .region (.allocA zv72 r r fun b63=>?_)
   refine .storeA sz72 r r .z (.t (.t .nil)) r r (.nil' fun c w ho hs=>beginR (E':=[(2,_),(5,_)]) ho ⟨r,r,trivial⟩ hs (.s .z) (.block (.region (.load1 ia25 r (.s (.s .z)) r r r (.loadW ia72 sz72 r .z r r r (.buildSlice 1 un25 sz72 zv72 r r (.c r r r .n) r r fun b65=>?_))))))
   obtain ⟨hl67,hd⟩:=hd
   refine .append (ys:=[x62]) 16 (.s (.s (.s (.s .z)))) un25 un25 IN72 r r r r r r r r r (.box .z (.one r) r) hl67 r r fun p68 c69=>?_
   refine .store1 sz25 r r (.s (.s (.s (.s .z)))) (.t .nil) r ?_
   exact .nil' fun c w ho hs=>endR 0 (.inl rfl) (.refl _) (.s (.s (.s .z))) (.c (.s (.s (.s .z))) (.c .z .n)) ⟨(true,0,(y56++([x62]))),_,_,rfl,rfl,hd⟩ hs
 intro v74 I71 l' hl72 hv73
 obtain ⟨r75,p79,c80,rfl,rfl,hd⟩:=hv73
 replace R6:=R6.mono hl72
 replace R9:=R9.mono hl72
 replace R12:=R12.mono hl72
 replace R15:=R15.mono hl72
 obtain ⟨hz,hd⟩:=hd
 refine ⟨_,_,r,fun hj=>?_,fun i hj=>absurd (hz.symm.trans hj) (by simp)⟩
 refine .re (m':=[Marks (D :: []),pto b19 (.cells #[.slice p79 r75.2.length c80] 25 (0,0)),OwnSl eItem 72 p79 c80 r75.2,pto b3 (.cells #[.int .i64 o0.Rows,.int .i64 o0.Cols,.slice p4 o0.At.length c5,.slice p7 o0.Start.length c8,.slice p10 o0.Row.length c11,.slice p13 o0.Val.length c14] 64 (0,0)),pto b16 (.cells #[.int .i64 o1] 3 (0,0))]) r (.mkS [2,1] r r (.sr (.load1 ia25 r (.s .z) r r r (.ks 1 r (.nilS [4,1] r r (.drop (.s .z) (.pub (.s .z) fun I83 hl84 R85=>?_)))))))
 have le86:=IH.le.trans hl72 hl84
 replace R6:=R6.mono hl84
 replace R9:=R9.mono hl84
 replace R12:=R12.mono hl84
 replace R15:=R15.mono hl84
 exact .ret (oretM .z results171 (.t r .n) le86 (.c .z (.c .z .n)) ⟨r75.2,_,_,r,R85,r,hd⟩)
theorem W_slices_Collect_api_Item_d7d {I:IH} {o0:Columns} {o1:Int} {b3:Nat} {p4:Option Addr} {c5:Nat} {p7:Option Addr} {c8:Nat} {p10:Option Addr} {c11:Nat} {p13:Option Addr} {c14:Nat} {b16:Nat} {Q:(List Item)→Prop} (R6:RepSl eI64 I p4 c5 o0.At) (R9:RepSl eI64 I p7 c8 o0.Start) (R12:RepSl eI64 I p10 c11 o0.Row) (R15:RepSl eI64 I p13 c14 o0.Val) (hd:slices_Collect_api_Item_d7d o0 o1 Q) :
  Fun prog 132 #[.func (.func 172) #[] #[.pointer (some ⟨b3,0,none⟩),.pointer (some ⟨b16,0,none⟩)]] I [pto b3 (.cells #[.int .i64 o0.Rows,.int .i64 o0.Cols,.slice p4 o0.At.length c5,.slice p7 o0.Start.length c8,.slice p10 o0.Row.length c11,.slice p13 o0.Val.length c14] 64 (0,0)),pto b16 (.cells #[.int .i64 o1] 3 (0,0))] (fun I_ v l=>∃ r p17 c18,v=.slice p17 r.length c18∧RepSl eItem I_ p17 c18 r∧l=[pto b3 (.cells #[.int .i64 o0.Rows,.int .i64 o0.Cols,.slice p4 o0.At.length c5,.slice p7 o0.Start.length c8,.slice p10 o0.Row.length c11,.slice p13 o0.Val.length c14] 64 (0,0)),pto b16 (.cells #[.int .i64 o1] 3 (0,0))]∧Q r):=by
 refine Fun.enter (vs:=[.func (.func 172) #[] #[.pointer (some ⟨b3,0,none⟩),.pointer (some ⟨b16,0,none⟩)]]) func132 r ntmps132 r (.c .n) fun w0 M=>?_
 refine .sr (.ks 1 r (.nilS [0] r r (.sr (.ks 1 r ?_))))
 have hw17:=W_slices_AppendSeq_api_Item_api_Item_828 (I:=I) (o0:=o0) (o1:=o1) (b3:=b3) (p4:=p4) (c5:=c5) (p7:=p7) (c8:=c8) (p10:=p10) (c11:=c11) (p13:=p13) (c14:=c14) (b16:=b16) R6 R9 R12 R15 hd
 refine .callS (.f call171 r) (.c .z (.c .z .n)) hw17 r r fun v21 I18 l22 hl19 hv20=>?_
 obtain ⟨r23,p24,c25,rfl,R26,rfl,hd⟩:=hv20
 replace R6:=R6.mono hl19
 replace R9:=R9.mono hl19
 replace R12:=R12.mono hl19
 replace R15:=R15.mono hl19
 exact .re (m':=[pto b3 (.cells #[.int .i64 o0.Rows,.int .i64 o0.Cols,.slice p4 o0.At.length c5,.slice p7 o0.Start.length c8,.slice p10 o0.Row.length c11,.slice p13 o0.Val.length c14] 64 (0,0)),pto b16 (.cells #[.int .i64 o1] 3 (0,0))]) r (.ks 1 r (.nilS [2,0] r r (.ret (oret results132 (.t r .n) hl19 (.c .z (.c .z .n)) ⟨r23,_,_,r,R26,r,hd⟩))))
theorem W_dcsc_Column {I:IH} {a0:Columns} {a1:Int} {p1:Option Addr} {c2:Nat} {p4:Option Addr} {c5:Nat} {p7:Option Addr} {c8:Nat} {p10:Option Addr} {c11:Nat} {Q:(List Item)→Prop} (R3:RepSl eI64 I p1 c2 a0.At) (R6:RepSl eI64 I p4 c5 a0.Start) (R9:RepSl eI64 I p7 c8 a0.Row) (R12:RepSl eI64 I p10 c11 a0.Val) (hd:dcsc_Column a0 a1 Q) :
  PFun prog 83 [.agg #[.int .i64 a0.Rows,.int .i64 a0.Cols,.slice p1 a0.At.length c2,.slice p4 a0.Start.length c5,.slice p7 a0.Row.length c8,.slice p10 a0.Val.length c11],.int .i64 a1] I (fun I_ v=>∃ r p13 c14,v=.slice p13 r.length c14∧RepSl eItem I_ p13 c14 r∧Q r):=by
 refine Fun.enter func83 r ntmps83 r (.c (.c .n)) fun w0 M=>?_
 refine .sr (.boxA r r r fun b18=>?_)
 refine .ks 1 r (.nilS [2,1] r r (.sr (.loadW ia64 sz64 r .z r r r ?_)))
 have hw57:=W_dcsc_sure (I:=I) R3 R6 R9 R12 hd
 refine .call call130 r hw57 r r fun v43 I40 hl41 hv42=>?_
 obtain ⟨r39,p45,c46,p48,c49,p51,c52,p54,c55,rfl,R47,R50,R53,R56,hd⟩:=hv42
 replace R3:=R3.mono hl41
 replace R6:=R6.mono hl41
 replace R9:=R9.mono hl41
 replace R12:=R12.mono hl41
 refine .storeA sz64 r r .z (.t (.t (.t (.t (.t (.t .nil)))))) r r (.nilS [2,1] r r (.sr (.loadW ia64 sz64 r .z r r r (.ks 1 r ?_))))
 have hw63:=W_dcsc_place (I:=I40) R47 R50 R53 R56 hd
 refine .callP call131 r hw63 r r fun v64 hv65=>?_
 obtain ⟨r62,rfl,hd⟩:=hv65
 refine .ks 1 r (.nilS [5,2] r r (.seq (.sr (.ks 2 r (.nilS [12,5,2] r r (.condP r hd (fun hb66 hd=>?_) fun hb66 hd=>?_))))))
 · exact .sr (.ks 1 r (.nilS [4] r r (.drop .z (.ret (pret results83 (.t r .n) hl41 ⟨([]:List Item),_,_,r,(.nil _ _ _),hd⟩)))))
 refine .skipS [5,2] r r (.sr (.loadW ia64 sz64 r .z r r r (.ks 1 r ?_)))
 have hw67:=W_dcsc_items_9d2 (I:=I40) (a0:=r39) (a1:=r62) R47 R50 R53 R56 hd
 refine .callS (.f call133 r) .n hw67 r r fun v71 I68 l72 hl69 hv70=>?_
 obtain ⟨r73,b76,p77,c78,p80,c81,p83,c84,p86,c87,b89,rfl,R79,R82,R85,R88,rfl,hd⟩:=hv70
 have le90:=IH.le.trans hl41 hl69
 replace R47:=R47.mono hl69
 replace R50:=R50.mono hl69
 replace R53:=R53.mono hl69
 replace R56:=R56.mono hl69
 refine .re (m':=[pto b76 (.cells #[.int .i64 r73.1.Rows,.int .i64 r73.1.Cols,.slice p77 r73.1.At.length c78,.slice p80 r73.1.Start.length c81,.slice p83 r73.1.Row.length c84,.slice p86 r73.1.Val.length c87] 64 (0,0)),pto b89 (.cells #[.int .i64 r73.2] 3 (0,0)),pto b18 (.cells #[.int .i64 r39.Rows,.int .i64 r39.Cols,.slice p45 r39.At.length c46,.slice p48 r39.Start.length c49,.slice p51 r39.Row.length c52,.slice p54 r39.Val.length c55] 64 (0,0))]) r ?_
 have hw91:=W_slices_Collect_api_Item_d7d (I:=I68) (o0:=r73.1) (o1:=r73.2) (b3:=b76) (p4:=p77) (c5:=c78) (p7:=p80) (c8:=c81) (p10:=p83) (c11:=c84) (p13:=p86) (c14:=c87) (b16:=b89) R79 R82 R85 R88 hd
 refine .callS (.f call132 r) (.c .z (.c .z .n)) hw91 r r fun v95 I92 l96 hl93 hv94=>?_
 obtain ⟨r97,p98,c99,rfl,R100,rfl,hd⟩:=hv94
 have le101:=IH.le.trans le90 hl93
 replace R47:=R47.mono hl93
 replace R50:=R50.mono hl93
 replace R53:=R53.mono hl93
 replace R56:=R56.mono hl93
 replace R79:=R79.mono hl93
 replace R82:=R82.mono hl93
 replace R85:=R85.mono hl93
 replace R88:=R88.mono hl93
 exact .re (m':=[pto b76 (.cells #[.int .i64 r73.1.Rows,.int .i64 r73.1.Cols,.slice p77 r73.1.At.length c78,.slice p80 r73.1.Start.length c81,.slice p83 r73.1.Row.length c84,.slice p86 r73.1.Val.length c87] 64 (0,0)),pto b89 (.cells #[.int .i64 r73.2] 3 (0,0)),pto b18 (.cells #[.int .i64 r39.Rows,.int .i64 r39.Cols,.slice p45 r39.At.length c46,.slice p48 r39.Start.length c49,.slice p51 r39.Row.length c52,.slice p54 r39.Val.length c55] 64 (0,0))]) r (.ks 1 r (.nilS [4] r r (.drop .z (.drop .z (.drop .z (.ret (pret results83 (.t r .n) le101 ⟨r97,_,_,r,R100,hd⟩)))))))
theorem W_push_Sums {I:IH} {a0:Int} {a1:Columns} {a2:Vec} {a3:List Int} {a4:Bool} {p1:Option Addr} {c2:Nat} {p4:Option Addr} {c5:Nat} {p7:Option Addr} {c8:Nat} {p10:Option Addr} {c11:Nat} {p13:Option Addr} {c14:Nat} {p16:Option Addr} {c17:Nat} {Q:((List Sum)×Int)→Prop} (R3:RepSl eI64 I p1 c2 a1.At) (R6:RepSl eI64 I p4 c5 a1.Start) (R9:RepSl eI64 I p7 c8 a1.Row) (R12:RepSl eI64 I p10 c11 a1.Val) (R15:RepSl eItem I p13 c14 a2.Items) (R18:RepSl eU64 I p16 c17 a3) (hd:push_Sums a0 a1 a2 a3 a4 Q) :
  OFun prog 30 [.int .i64 a0,.agg #[.int .i64 a1.Rows,.int .i64 a1.Cols,.slice p1 a1.At.length c2,.slice p4 a1.Start.length c5,.slice p7 a1.Row.length c8,.slice p10 a1.Val.length c11],.agg #[.int .i64 a2.N,.slice p13 a2.Items.length c14],.slice p16 a3.length c17,.bool a4] I (fun I_ v l=>∃ r p19 c20,v=.tuple #[.slice p19 r.1.length c20,.int .i64 r.2]∧l=[OwnSl eSum 80 p19 c20 r.1]∧Q r):=by
 refine Fun.enter func30 r ntmps30 r (.c (.c (.c (.c (.c .n))))) fun w0 M=>?_
 refine .sr (.boxA r r r fun b26=>?_)
 refine .boxA r r r fun b28=>?_
 refine .ks 2 r (.nilS [7,6,4,3,0] r r (.sr (.loadW ia64 sz64 r (.s .z) r r r (.loadW ia37 sz37 r .z r r r ?_))))
 have hw73:=W_push_sure (I:=I) R3 R6 R9 R12 R15 hd
 refine .call call81 r hw73 r r fun v56 I53 hl54 hv55=>?_
 obtain ⟨r52,p58,c59,p61,c62,p64,c65,p67,c68,p70,c71,rfl,R60,R63,R66,R69,R72,hd⟩:=hv55
 replace R3:=R3.mono hl54
 replace R6:=R6.mono hl54
 replace R9:=R9.mono hl54
 replace R12:=R12.mono hl54
 replace R15:=R15.mono hl54
 replace R18:=R18.mono hl54
 refine .ks 3 r (.storeA sz64 r r (.s .z) (.t (.t (.t (.t (.t (.t .nil)))))) r r (.storeA sz37 r r .z (.t (.t .nil)) r r (.nilS [7,6,4,3,0] r r (.seq (.block (.sr (.ks 1 r ?_)))))))
 have hw89:=W_ring_Is (I:=I53) hd
 refine .callP call73 r hw89 r r fun v90 hv91=>?_
 obtain ⟨r88,rfl,hd⟩:=hv91
 refine .ks 2 r (.nilS [21,7,6,4,3,0] r r (.condP r hd (fun hb92 hd=>?_) fun hb92 hd=>?_))
 · exact .sr (.ks 2 r (.nilS [11,10] r r (.drop .z (.drop .z (.own0 eSum 80 (.ret (oret results30 (.t r (.t r .n)) hl54 (.c .z .n) ⟨(([]:List Sum),8),_,_,r,r,hd⟩)))))))
 refine .sr (.fa un37 r sz3 r (o:=0) r r r (.load1 ia3 r .z r r r (.fa un64 r sz3 r (o:=1) r r r (.load1 ia3 r (.s .z) r r r (.ks 2 r (.nilS [25,7,6,4,3,0] r r (.condP r hd (fun hb94 hd=>?_) fun hb94 hd=>?_)))))))
 · exact .sr (.ks 2 r (.nilS [11,10] r r (.drop .z (.drop .z (.own0 eSum 80 (.ret (oret results30 (.t r (.t r .n)) hl54 (.c .z .n) ⟨(([]:List Sum),4),_,_,r,r,hd⟩)))))))
 refine .skipS [7,6,4,3,0] r r (.sr (.ks 1 r (.nilS [12,7,6,4,3,0] r r (.seq (.sr (.fa un37 r sz25 r (o:=1) r r r (.load1 ia25 r .z r r r (.len un25 r r r r (.ks 1 r ?_)))))))))
 refine .nilS [34,33,32,12,6,4,3,0] r r (.drop .z (.block (.own0 (slEl eSum) 58 (.loop hd (fun (s:(List (List Sum))×Int) c w=>match s with | (s218,s222)=>∃ I_ p219 c220,IH.le I53 I_∧Ok ⟨57,[],none⟩ [(0,.int .i64 a0),(3,.slice p16 a3.length c17),(4,.bool a4),(6,.pointer (some ⟨b26,0,none⟩)),(12,.slice p219 s218.length c220),(32,.slice p70 r52.2.Items.length c71),(33,.int .i64 (r52.2.Items.length:Int)),(34,.int .i64 s222)] c∧Sym w0 M I I_ [pto b26 (.cells #[.int .i64 r52.1.Rows,.int .i64 r52.1.Cols,.slice p58 r52.1.At.length c59,.slice p61 r52.1.Start.length c62,.slice p64 r52.1.Row.length c65,.slice p67 r52.1.Val.length c68] 64 (0,0)),OwnSl (slEl eSum) 58 p219 c220 s218] w) (fun c w ho hs=>⟨I53,_,_,(.refl _),ho.sub ⟨r,r,r,r,r,r,r,r,trivial⟩,hs.pick (.c (.s .z) (.c .z .n))⟩) ?_))))
 rintro ⟨s218,s222⟩ next224 hd c w hst
 obtain ⟨I225,p219,c220,hl226,hok,hsym⟩:=hst
 have le227:=IH.le.trans hl54 hl226
 replace R18:=R18.mono hl226
 replace R60:=R60.mono hl226
 replace R63:=R63.mono hl226
 replace R66:=R66.mono hl226
 replace R69:=R69.mono hl226
 replace R72:=R72.mono hl226
 refine Cod.at hok hsym (.sr (.ks 1 r (.nilS [35,34,33,32,12,6,4,3,0] r r (.seq (.condP r hd (fun hb229 hd=>?_) fun hb229 hd=>?_)))))
 · refine .skipS [34,33,32,12,6,4,3,0] r r (.seq (.block (.sr ?_)))
   obtain ⟨h241,x242,hx243,hd⟩:=hd
   obtain ⟨b244,o245,cs246,e247,hC248,hr249⟩:=R72.2 _ _ hx243
   cases hr249
   refine .ixa un25 sz72 r e247 r h241 (idx_lt hx243 h241) r r (.ldW ia72 sz72 hC248 r r r r (.allocA zv72 r r fun b250=>?_))
   refine .storeA sz72 r r .z (.t (.t .nil)) r r (.nilS [14,34,33,32,12,6,4,3,0] r r (.dr [0,1,2,3,4,6,7,8,9,5,10,11,12] 13 (.fk 2 r (.g r r r (fun _=>.loadW ia64 sz64 r (.s .z) r r r .mk) (.g r r r (fun _=>.fa un72 r sz3 r (o:=0) r r r .mk) (.g r r r (fun _=>.load1 ia3 r .z r r r .mk) (.g r r r (fun _=>.fa un72 r sz2 r (o:=1) r r r .mk) (.g r r r (fun _=>.load1 ia2 r .z r r r .mk) (.fk 2 r ?_)))))))))
   refine .ww r fun ex=>?_
   have hw261:=W_dcsc_Column (I:=I225) R60 R63 R66 R69 hd
   refine .call call83 r hw261 r r fun v256 I253 hl254 hv255=>?_
   obtain ⟨r252,p258,c259,rfl,R260,hd⟩:=hv255
   have le262:=IH.le.trans le227 hl254
   have le263:=IH.le.trans hl226 hl254
   replace R18:=R18.mono hl254
   replace R60:=R60.mono hl254
   replace R63:=R63.mono hl254
   replace R66:=R66.mono hl254
   replace R69:=R69.mono hl254
   replace R72:=R72.mono hl254
   refine .so 3 r r r (.ck 2 r r (.cg r r r r (fun _=>.load1 ia2 r .z r r r .mk) (.cg r r r r (fun _=>.fa un72 r sz2 r (o:=1) r r r .mk) (.ck 2 r r trivial)))) (.ww r fun ex=>?_)
   have hw273:=W_push_column (I:=I253) R260 R18 hd
   refine .call call82 r hw273 r r fun v268 I265 hl266 hv267=>?_
   obtain ⟨r264,p270,c271,rfl,R272,hd⟩:=hv267
   have le274:=IH.le.trans le262 hl266
   have le275:=IH.le.trans le263 hl266
   replace R18:=R18.mono hl266
   replace R60:=R60.mono hl266
   replace R63:=R63.mono hl266
   replace R66:=R66.mono hl266
   replace R69:=R69.mono hl266
   replace R72:=R72.mono hl266
   replace R260:=R260.mono hl266
   refine .so 3 r r r (.ck 1 r r trivial) (.ww r fun ex=>?_)
   refine .buildSlice 1 un106 sz58 zv58 r r (.c r r r .n) r r fun b276=>?_
   refine .so 4 r r r (.ck 1 r r trivial) (.ww r fun ex=>?_)
   obtain ⟨hl278,hd⟩:=hd
   refine .append (ys:=[r264]) 24 (.s (.s (.s .z))) un106 un106 IN58 r r r r r r r r r (.box .z (.one ⟨_,_,r,R272⟩) r) hl278 r r fun p279 c280=>?_
   exact .so 4 r r r trivial (.e2 13 (.ks 1 r (.nilS [12,34,33,32,6,4,3,0] r r (.drop (.s .z) (.drop (.s .z) (.region (.ks 2 r (.nil' fun c w ho hs=>⟨((s218++([r264])),w64 (s222+1)),hd,I265,_,_,le275,ho.sub ⟨r,r,r,r,r,r,r,r,trivial⟩,hs.pick (.c (.s .z) (.c .z .n))⟩))))))))
 refine .exitS [12,0] r r (.drop .z (.sr (.ks 2 r (.pub .z fun I282 hl283 R284=>?_))))
 have le285:=IH.le.trans le227 hl283
 have le286:=IH.le.trans hl226 hl283
 have hw297:=W_push_Merge (I:=I282) R284 hd
 refine .callO call75 r hw297 r r fun v291 I288 l292 hl289 hv290=>?_
 obtain ⟨r287,p293,c294,rfl,rfl,hd⟩:=hv290
 have le298:=IH.le.trans le285 hl289
 have le299:=IH.le.trans le286 hl289
 replace R284:=R284.mono hl289
 exact .ks 4 r (.nilS [11,10] r r (.ret (oret results30 (.t r (.t r .n)) le298 (.c .z .n) ⟨(r287.1,r287.2),_,_,r,r,hd⟩)))
theorem W_csr_Turn {I:IH} {a0:Rows} {p1:Option Addr} {c2:Nat} {p4:Option Addr} {c5:Nat} {p7:Option Addr} {c8:Nat} {Q:Rows→Prop} (R3:RepSl eI64 I p1 c2 a0.Start) (R6:RepSl eI64 I p4 c5 a0.Col) (R9:RepSl eI64 I p7 c8 a0.Val) (hd:csr_Turn a0 Q) :
  PFun prog 151 [.agg #[.int .i64 a0.Rows,.int .i64 a0.Cols,.slice p1 a0.Start.length c2,.slice p4 a0.Col.length c5,.slice p7 a0.Val.length c8]] I (o9_ Q):=by
 refine Fun.enter func151 r ntmps151 r (.c .n) fun w0 M=>?_
 refine .sr (.boxA r r r fun b23=>?_)
 refine .allocA zv34 r r fun b25=>?_
 refine .nilS [2,1] r r (.sr (.loadW ia34 sz34 r (.s .z) r r r ?_))
 have hw58:=W_csr_sure (I:=I) R3 R6 R9 hd
 refine .call call93 r hw58 r r fun v47 I44 hl45 hv46=>?_
 obtain ⟨r43,p49,c50,p52,c53,p55,c56,rfl,R51,R54,R57,hd⟩:=hv46
 replace R3:=R3.mono hl45
 replace R6:=R6.mono hl45
 replace R9:=R9.mono hl45
 refine .storeA sz34 r r (.s .z) (.t (.t (.t (.t (.t .nil))))) r r (.nilS [2,1] r r (.sr (.loadW ia34 sz34 r (.s .z) r r r ?_)))
 have hw81:=W_csr_Triples (I:=I44) R51 R54 R57 hd
 refine .callO call65 r hw81 r r fun v75 I72 l76 hl73 hv74=>?_
 obtain ⟨r71,p77,c78,rfl,rfl,hd⟩:=hv74
 have le82:=IH.le.trans hl45 hl73
 replace R51:=R51.mono hl73
 replace R54:=R54.mono hl73
 replace R57:=R57.mono hl73
 refine .ks 1 r (.nilS [3,2,1] r r (.seq (.sr (.ks 1 r (.len un24 r r r r (.ks 1 r (.nilS [12,11,10,3,2,1] r r (.block (.loop hd (fun (s:(List Triple)×Int) c w=>match s with | (s224,s229)=>∃ I_ p225 c226,IH.le I72 I_∧Ok ⟨36,[],none⟩ [(1,.pointer (some ⟨b23,0,none⟩)),(2,.pointer (some ⟨b25,0,none⟩)),(3,.slice p225 s224.length c226),(10,.slice p225 s224.length c226),(11,.int .i64 (r71.length:Int)),(12,.int .i64 s229)] c∧Sym w0 M I I_ [pto b23 (.cells #[.int .i64 r43.Rows,.int .i64 r43.Cols,.slice p49 r43.Start.length c50,.slice p52 r43.Col.length c53,.slice p55 r43.Val.length c56] 34 (0,0)),pto b25 (.cells #[.int .i64 0,.int .i64 0,.slice none 0 0,.slice none 0 0,.slice none 0 0] 34 (0,0)),OwnSl eTriple 75 p225 c226 s224] w) (fun c w ho hs=>⟨I72,_,_,(.refl _),ho.sub ⟨r,r,r,r,r,r,trivial⟩,hs.pick (.c (.s (.s .z)) (.c (.s .z) (.c .z .n)))⟩) ?_)))))))))
 rintro ⟨s224,s229⟩ next230 hd c w hst
 obtain ⟨I231,p225,c226,hl232,hok,hsym⟩:=hst
 have le233:=IH.le.trans le82 hl232
 replace R51:=R51.mono hl232
 replace R54:=R54.mono hl232
 replace R57:=R57.mono hl232
 refine Cod.at hok hsym (.sr (.ks 1 r (.nilS [13,12,11,10,3,2,1] r r (.seq (.condP r hd (fun hb235 hd=>?_) fun hb235 hd=>?_)))))
 · refine .skipS [12,11,10,3,2,1] r r (.seq (.block (.sr (.ks 1 r ?_))))
   obtain ⟨h243,x244,hx245,hd⟩:=hd
   refine .ownNe (.s (.s .z)) (idx_ne hx245) fun b246 e247=>?_
   cases e247
   refine .ixa0 un24 sz75 r r h243 (idx_lt hx245 h243) r r (.loA (j:=0) isAgg75 sz75 (.s (.s .z)) hx245 r r (.t (.t (.t .nil))) r r r (.allocA zv75 r r fun b248=>?_))
   refine .ks 1 r (.storeA sz75 r r .z (.t (.t (.t .nil))) r r (.nilS [4,5,12,11,10,3,2,1] r r (.region (.ks 2 r (.fa un75 r sz3 r (o:=1) r r r (.load1 ia3 r .z r r r (.fa un75 r sz3 r (o:=0) r r r (.load1 ia3 r .z r r r (.fa un75 r sz2 r (o:=2) r r r ?_)))))))))
   refine .load1 ia2 r .z r r r (.build zv75 un75 BI75 (.c r r r (.t .nil) (.c r r r (.s (.t .nil)) (.c r r r (.s (.s (.t .nil))) .n))) (by exact ⟨⟨_,_,r,r,r⟩,⟨⟨_,_,r,r,r⟩,⟨⟨_,_,r,r,r⟩,trivial⟩⟩⟩) r r ?_)
   obtain ⟨h250,x251,hx252,hd⟩:=hd
   exact .ixa0 un24 sz75 r r h250 (idx_lt hx252 h250) r r (.stOA (j:=0) (v':=({ Row:=x244.Col,Col:=x244.Row,Val:=x244.Val }:Triple)) sz75 (.s (.s (.s .z))) hx252 r r r (.t (.t (.t .nil))) r r (.sub (E':=[(1,_),(2,_),(3,.slice (some ⟨b246,0,none⟩) (s224.set s229.toNat ({ Row:=x244.Col,Col:=x244.Row,Val:=x244.Val }:Triple)).length c226),(10,.slice (some ⟨b246,0,none⟩) (s224.set s229.toNat ({ Row:=x244.Col,Col:=x244.Row,Val:=x244.Val }:Triple)).length c226),(11,_),(12,_),(5,_),(4,_),(17,.slice (some ⟨b246,0,none⟩) (s224.set s229.toNat ({ Row:=x244.Col,Col:=x244.Row,Val:=x244.Val }:Triple)).length c226),(18,_),(19,_),(20,_),(21,_),(22,_),(23,_),(24,_),(25,_),(26,_)]) ⟨r,r,(by simp only [List.length_set]; rfl),(by simp only [List.length_set]; rfl),r,r,r,r,(by simp only [List.length_set]; rfl),r,r,r,r,r,r,r,r,r,trivial⟩ (.nilS [12,11,10,3,2,1] r r (.drop .z (.region (.ks 2 r (.nil' fun c w ho hs=>⟨((s224.set s229.toNat ({ Row:=x244.Col,Col:=x244.Row,Val:=x244.Val }:Triple)),w64 (s229+1)),hd,I231,_,_,hl232,ho.sub ⟨r,r,r,r,r,r,trivial⟩,hs.pick (.c .z (.c .z (.c .z .n)))⟩)))))))
 refine .exitS [3,2,1] r r (.sr (.ks 1 r ?_))
 have hw253:=Fun.sort (hk:=fun _=>⟨r,r⟩) SL147 isAgg75 sz75 (fun x y J Q hq=>W_csr_order (I:=J) (a0:=x) (a1:=y) (Q:=Q) hq) call148 (I:=I231) (T:=75) (a:=p225) (cap:=c226) hd
 refine .callS (.f call147 r) (.c (.s (.s .z)) .n) hw253 r r fun v254 I255 l256 hl257 hv258=>?_
 obtain ⟨y259,rfl,hlen260,rfl,hd⟩:=hv258
 have le261:=IH.le.trans le233 hl257
 have le262:=IH.le.trans hl232 hl257
 replace R51:=R51.mono hl257
 replace R54:=R54.mono hl257
 replace R57:=R57.mono hl257
 refine .sub (E':=[(1,_),(2,_),(3,.slice p225 y259.length c226),(28,.slice p225 y259.length c226),(29,_)]) ⟨r,r,(by rw [hlen260]; rfl),(by rw [hlen260]; rfl),r,trivial⟩ (.nilS [3,2,1] r r (.sr (.fa un34 r sz3 r (o:=1) r r r (.load1 ia3 r (.s .z) r r r (.fa un34 r sz3 r (o:=0) r r r (.load1 ia3 r (.s .z) r r r (.ks 1 r (.pub .z fun I263 hl264 R265=>?_))))))))
 have le266:=IH.le.trans le261 hl264
 have le267:=IH.le.trans le262 hl264
 replace R51:=R51.mono hl264
 replace R54:=R54.mono hl264
 replace R57:=R57.mono hl264
 have hw283:=W_csr_built (I:=I263) R265 hd
 refine .call call96 r hw283 r r fun v272 I269 hl270 hv271=>?_
 obtain ⟨r268,p274,c275,p277,c278,p280,c281,rfl,R276,R279,R282,hd⟩:=hv271
 have le284:=IH.le.trans le266 hl270
 have le285:=IH.le.trans le267 hl270
 replace R51:=R51.mono hl270
 replace R54:=R54.mono hl270
 replace R57:=R57.mono hl270
 replace R265:=R265.mono hl270
 exact .storeA sz34 r r (.s .z) (.t (.t (.t (.t (.t .nil))))) r r (.nilS [2] r r (.drop .z (.ret (pret results151 (.w ia34 sz34 r .z r .n) le284 ⟨r268,_,_,_,_,_,_,r,R276,R279,R282,hd⟩))))
theorem W_dcsc_Of {I:IH} {a0:Rows} {p1:Option Addr} {c2:Nat} {p4:Option Addr} {c5:Nat} {p7:Option Addr} {c8:Nat} {Q:Columns→Prop} (R3:RepSl eI64 I p1 c2 a0.Start) (R6:RepSl eI64 I p4 c5 a0.Col) (R9:RepSl eI64 I p7 c8 a0.Val) (hd:dcsc_Of a0 Q) :
  PFun prog 112 [.agg #[.int .i64 a0.Rows,.int .i64 a0.Cols,.slice p1 a0.Start.length c2,.slice p4 a0.Col.length c5,.slice p7 a0.Val.length c8]] I (o15_ Q):=by
 refine Fun.enter func112 r ntmps112 r (.c .n) fun w0 M=>?_
 refine .sr (.boxA r r r fun b26=>?_)
 refine .allocA zv64 r r fun b28=>?_
 refine .nilS [2,1] r r (.sr ?_)
 have hw77:=W_dcsc_none (I:=I) hd
 refine .callO call150 r hw77 r r fun v59 I56 l60 hl57 hv58=>?_
 obtain ⟨r55,p61,c62,p64,c65,p67,c68,p70,c71,rfl,rfl,hd⟩:=hv58
 replace R3:=R3.mono hl57
 replace R6:=R6.mono hl57
 replace R9:=R9.mono hl57
 refine .allocA zv64 r r fun b78=>?_
 refine .storeA sz64 r r .z (.t (.t (.t (.t (.t (.t .nil)))))) r r (.nilS [3,2,1] r r (.seq (.sr (.loadW ia34 sz34 r (.s (.s (.s (.s (.s (.s .z)))))) r r r ?_))))
 have hw86:=W_csr_Right (I:=I56) R3 R6 R9 hd
 refine .callP call41 r hw86 r r fun v87 hv88=>?_
 obtain ⟨r85,rfl,hd⟩:=hv88
 refine .ks 1 r (.nilS [10,3,2,1] r r (.condP r hd (fun hb89 hd=>?_) fun hb89 hd=>?_))
 · refine .sr (.loadW ia64 sz64 r .z r r r (.storeA sz64 r r (.s (.s (.s (.s (.s .z))))) (.t (.t (.t (.t (.t (.t .nil)))))) r r (.nilS [2] r r (.drop .z (.drop (.s (.s (.s (.s (.s .z))))) (.pub .z fun I90 hl91 R92=>?_))))))
   have le93:=IH.le.trans hl57 hl91
   refine .pub .z fun I94 hl95 R96=>?_
   have le97:=IH.le.trans le93 hl95
   replace R92:=R92.mono hl95
   refine .pub .z fun I98 hl99 R100=>?_
   have le101:=IH.le.trans le97 hl99
   replace R92:=R92.mono hl99
   replace R96:=R96.mono hl99
   refine .pub .z fun I102 hl103 R104=>?_
   have le105:=IH.le.trans le101 hl103
   replace R92:=R92.mono hl103
   replace R96:=R96.mono hl103
   replace R100:=R100.mono hl103
   exact .ret (pret results112 (.w ia64 sz64 r .z r .n) le105 ⟨r55,_,_,_,_,_,_,_,_,r,R92,R96,R100,R104,hd⟩)
 refine .skipS [3,2,1] r r (.seq (.dr [0,1,2,3,4,5] 6 (.g r r r (fun _=>.fa un34 r sz3 r (o:=0) r r r .mk) (.g r r r (fun _=>.load1 ia3 r (.s (.s (.s (.s (.s (.s .z)))))) r r r .mk) (.g r r r (fun _=>.fa un34 r sz3 r (o:=1) r r r .mk) (.g r r r (fun _=>.load1 ia3 r (.s (.s (.s (.s (.s (.s .z)))))) r r r .mk) (.g r r r (fun _=>.fa un64 r sz3 r (o:=0) r r r .mk) (.ww r fun ex=>?_))))))))
 refine .store1 sz3 r r .z (.t .nil) r (.sn 7 r r r (.cg r r r r (fun _=>.load1 ia3 r (.s (.s (.s (.s (.s (.s .z)))))) r r r .mk) (.cg r r r r (fun _=>.fa un34 r sz3 r (o:=1) r r r .mk) trivial)) (.e2 6 (.fa un64 r sz3 r (o:=1) r r r (.store1 sz3 r r .z (.s (.t .nil)) r (.nilS [3,2,1] r r (.seq (.sr (.loadW ia34 sz34 r (.s (.s (.s (.s (.s (.s .z)))))) r r r ?_))))))))
 have hw150:=W_csr_Turn (I:=I56) R3 R6 R9 hd
 refine .call call151 r hw150 r r fun v139 I136 hl137 hv138=>?_
 obtain ⟨r135,p141,c142,p144,c145,p147,c148,rfl,R143,R146,R149,hd⟩:=hv138
 have le151:=IH.le.trans hl57 hl137
 replace R3:=R3.mono hl137
 replace R6:=R6.mono hl137
 replace R9:=R9.mono hl137
 have hw162:=W_csr_Triples (I:=I136) R143 R146 R149 hd
 refine .callO call65 r hw162 r r fun v156 I153 l157 hl154 hv155=>?_
 obtain ⟨r152,p158,c159,rfl,rfl,hd⟩:=hv155
 have le163:=IH.le.trans le151 hl154
 replace R3:=R3.mono hl154
 replace R6:=R6.mono hl154
 replace R9:=R9.mono hl154
 replace R143:=R143.mono hl154
 replace R146:=R146.mono hl154
 replace R149:=R149.mono hl154
 refine .len un24 r r r r (.ks 1 r (.nilS [22,21,20,3,2] r r (.drop (.s (.s (.s (.s (.s (.s (.s .z))))))) (.block (.loop hd (fun (s:(List Int)×(List Int)×(List Int)×(List Int)×Int) c w=>match s with | (s605,s609,s613,s617,s621)=>∃ I_ p606 c607 p610 c611 p614 c615 p618 c619,IH.le I153 I_∧Ok ⟨79,[],none⟩ [(2,.pointer (some ⟨b28,0,none⟩)),(3,.pointer (some ⟨b78,0,none⟩)),(20,.slice p158 r152.length c159),(21,.int .i64 (r152.length:Int)),(22,.int .i64 s621)] c∧Sym w0 M I I_ [pto b28 (.cells #[.int .i64 0,.int .i64 0,.slice none 0 0,.slice none 0 0,.slice none 0 0,.slice none 0 0] 64 (0,0)),pto b78 (.cells #[.int .i64 a0.Rows,.int .i64 a0.Cols,.slice p606 s605.length c607,.slice p610 s609.length c611,.slice p614 s613.length c615,.slice p618 s617.length c619] 64 (0,0)),OwnSl eI64 3 p606 c607 s605,OwnSl eI64 3 p610 c611 s609,OwnSl eI64 3 p614 c615 s613,OwnSl eI64 2 p618 c619 s617,OwnSl eTriple 75 p158 c159 r152] w) (fun c w ho hs=>⟨I153,_,_,_,_,_,_,_,_,(.refl _),ho.sub ⟨r,r,r,r,r,trivial⟩,hs.pick (.c (.s (.s (.s (.s (.s (.s .z)))))) (.c (.s .z) (.c (.s .z) (.c (.s .z) (.c (.s .z) (.c (.s .z) (.c .z .n)))))))⟩) ?_)))))
 rintro ⟨s605,s609,s613,s617,s621⟩ next622 hd c w hst
 obtain ⟨I623,p606,c607,p610,c611,p614,c615,p618,c619,hl624,hok,hsym⟩:=hst
 have le625:=IH.le.trans le163 hl624
 refine Cod.at hok hsym (.sr (.ks 1 r (.nilS [23,22,21,20,3,2] r r (.seq (.condP r hd (fun hb627 hd=>?_) fun hb627 hd=>?_)))))
 · refine .skipS [22,21,20,3,2] r r (.seq (.block (.sr ?_)))
   obtain ⟨h635,x636,hx637,hd⟩:=hd
   refine .ownNe (.s (.s (.s (.s (.s (.s .z)))))) (idx_ne hx637) fun b638 e639=>?_
   cases e639
   refine .ixa0 un24 sz75 r r h635 (idx_lt hx637 h635) r r (.loA (j:=0) isAgg75 sz75 (.s (.s (.s (.s (.s (.s .z)))))) hx637 r r (.t (.t (.t .nil))) r r r (.allocA zv75 r r fun b640=>?_))
   refine .storeA sz75 r r .z (.t (.t (.t .nil))) r r (.nilS [5,22,21,20,3,2] r r (.seq ?_))
   refine Cod.joinQ (σ:=(List Int)×(List Int)) hd (fun (s:(List Int)×(List Int)) c w=>match s with | (s740,s744)=>∃ I_ p741 c742 p745 c746,IH.le I623 I_∧Ok ⟨79,[],none⟩ [(2,.pointer (some ⟨b28,0,none⟩)),(3,.pointer (some ⟨b78,0,none⟩)),(5,.pointer (some ⟨b640,0,none⟩)),(20,.slice (some ⟨b638,0,none⟩) r152.length c159),(21,.int .i64 (r152.length:Int)),(22,.int .i64 s621)] c∧Sym w0 M I I_ [pto b28 (.cells #[.int .i64 0,.int .i64 0,.slice none 0 0,.slice none 0 0,.slice none 0 0,.slice none 0 0] 64 (0,0)),pto b78 (.cells #[.int .i64 a0.Rows,.int .i64 a0.Cols,.slice p741 s740.length c742,.slice p745 s744.length c746,.slice p614 s613.length c615,.slice p618 s617.length c619] 64 (0,0)),OwnSl eI64 3 p741 c742 s740,OwnSl eI64 3 p745 c746 s744,OwnSl eI64 3 p614 c615 s613,OwnSl eI64 2 p618 c619 s617,pto b640 (.cells #[.int .i64 x636.Row,.int .i64 x636.Col,.int .i64 x636.Val] 75 (0,0)),OwnSl eTriple 75 (some ⟨b638,0,none⟩) c159 r152] w) (fun k748 hd=>?_) ?_
   · skip
     refine .sr (.fa un64 r sz31 r (o:=2) r r r (.load1 ia31 r (.s (.s .z)) r r r (.len un31 r r r r (.ks 1 r (.nilS [6,5,22,21,20,3,2] r r (.seq ?_))))))
     refine Cod.joinQ (σ:=Bool) hd (fun (s769:Bool) c w=>∃ I_,IH.le I623 I_∧Ok ⟨79,[],none⟩ [(2,.pointer (some ⟨b28,0,none⟩)),(3,.pointer (some ⟨b78,0,none⟩)),(5,.pointer (some ⟨b640,0,none⟩)),(20,.slice (some ⟨b638,0,none⟩) r152.length c159),(21,.int .i64 (r152.length:Int)),(22,.int .i64 s621),(41,.bool s769)] c∧Sym w0 M I I_ [pto b28 (.cells #[.int .i64 0,.int .i64 0,.slice none 0 0,.slice none 0 0,.slice none 0 0,.slice none 0 0] 64 (0,0)),pto b78 (.cells #[.int .i64 a0.Rows,.int .i64 a0.Cols,.slice p606 s605.length c607,.slice p610 s609.length c611,.slice p614 s613.length c615,.slice p618 s617.length c619] 64 (0,0)),OwnSl eI64 3 p606 c607 s605,OwnSl eI64 3 p610 c611 s609,OwnSl eI64 3 p614 c615 s613,OwnSl eI64 2 p618 c619 s617,pto b640 (.cells #[.int .i64 x636.Row,.int .i64 x636.Col,.int .i64 x636.Val] 75 (0,0)),OwnSl eTriple 75 (some ⟨b638,0,none⟩) c159 r152] w) (fun k770 hd=>?_) ?_
     · skip
       refine .ownF (.s (.s (.s .z))) fun hne771=>?_
       refine .ownF (.s (.s (.s (.s .z)))) fun hne772=>?_
       refine .ownF (.s (.s (.s (.s (.s .z))))) fun hne773=>?_
       refine .ownF (.s (.s (.s (.s (.s (.s .z)))))) fun hne774=>?_
       refine .dr [0,1,2,3,4,5,6,7,8,9,10,11,12] 13 (.fk 3 r ?_)
       refine splitP hd (fun hb775 hd=>?_) fun hb775 hd=>?_
       · rw [hb775]
         exact .fk 10 r (.e2 13 (.nil' fun c w ho hs=>⟨true,hd,I623,(.refl _),ho.sub ⟨r,r,r,r,r,r,r,trivial⟩,hs.pick (.c (.s .z) (.c (.s .z) (.c (.s .z) (.c (.s .z) (.c (.s .z) (.c (.s .z) (.c .z (.c .z .n))))))))⟩))
       rw [hb775]
       refine .g r r r (fun _=>.gyes r r r (.fa un64 r sz31 r (o:=2) r r r .mk)) (.g r r r (fun _=>.gyes r r r (.load1 ia31 r (.s (.s .z)) r r r .mk)) (.fk 2 r ?_))
       obtain ⟨h776,x777,hx778,hd⟩:=hd
       obtain ⟨b779,e780⟩:=hne771 (idx_ne hx778)
       cases e780
       exact .g r r r (fun _=>.gyes r r r (.ixa0 un31 sz3 r r h776 (idx_lt hx778 h776) r r .mk)) (.g r r r (fun _=>.gyes r r r (.lo1 (j:=0) ia3 (.s (.s (.s .z))) hx778 r r r r r .mk)) (.g r r r (fun _=>.gyes r r r (.fa un75 r sz3 r (o:=0) r r r .mk)) (.g r r r (fun _=>.gyes r r r (.load1 ia3 r .z r r r .mk)) (.fk 2 r (.e2 13 (.nil' fun c w ho hs=>⟨(x777 != x636.Row),hd,I623,(.refl _),ho.sub ⟨r,r,r,r,r,r,r,trivial⟩,hs.pick (.c (.s .z) (.c (.s .z) (.c (.s .z) (.c (.s .z) (.c (.s .z) (.c (.s .z) (.c .z (.c .z .n))))))))⟩))))))
     rintro s769 hd c w hst
     obtain ⟨I781,hl782,hok,hsym⟩:=hst
     have le783:=IH.le.trans le625 hl782
     have le784:=IH.le.trans hl624 hl782
     refine Cod.at hok hsym (.condP r hd (fun hb785 hd=>?_) fun hb785 hd=>?_)
     · refine .sr (.fa un64 r sz31 r (o:=2) r r r (.load1 ia31 r (.s .z) r r r (.fa un75 r sz3 r (o:=0) r r r (.load1 ia3 r (.s (.s (.s (.s (.s (.s .z)))))) r r r (.buildSlice 1 un31 sz3 zv3 r r (.c r r r .n) r r fun b786=>?_)))))
       obtain ⟨hl788,hd⟩:=hd
       refine .append (ys:=[x636.Row]) 8 (.s (.s (.s .z))) un31 un31 IN3 r r r r r r r r r (.box .z (.one r) r) hl788 r r fun p789 c790=>?_
       refine .fa un64 r sz31 r (o:=2) r r r (.store1 sz31 r r (.s (.s (.s .z))) (.s (.s (.t .nil))) r (.nilS [22,21,20,5,3,2] r r (.drop (.s .z) (.region (.fa un64 r sz31 r (o:=3) r r r (.load1 ia31 r (.s (.s .z)) r r r (.buildSlice 1 un31 sz3 zv3 r r (.c r r r .n) r r fun b792=>?_)))))))
       obtain ⟨hl794,hd⟩:=hd
       refine .append (ys:=[0]) 8 (.s (.s (.s (.s .z)))) un31 un31 IN3 r r r r r r r r r (.box .z (.one r) r) hl794 r r fun p795 c796=>?_
       exact .fa un64 r sz31 r (o:=3) r r r (.store1 sz31 r r (.s (.s (.s (.s .z)))) (.s (.s (.s (.t .nil)))) r (.nil' fun c w ho hs=>⟨((s605++([x636.Row])),(s609++([0]))),hd,I781,_,_,_,_,hl782,ho.sub ⟨r,r,r,r,r,r,trivial⟩,hs.pick (.c (.s (.s (.s .z))) (.c (.s (.s (.s .z))) (.c (.s (.s .z)) (.c .z (.c (.s .z) (.c (.s .z) (.c (.s .z) (.c (.s .z) .n))))))))⟩))
     exact .skip' fun c w ho hs=>⟨(s605,s609),hd,I781,_,_,_,_,hl782,ho.sub ⟨r,r,r,r,r,r,trivial⟩,hs.pick (.c .z (.c .z (.c .z (.c .z (.c .z (.c .z (.c .z (.c .z .n))))))))⟩
   rintro ⟨s740,s744⟩ hd c w hst
   obtain ⟨I798,p741,c742,p745,c746,hl799,hok,hsym⟩:=hst
   have le800:=IH.le.trans le625 hl799
   have le801:=IH.le.trans hl624 hl799
   refine Cod.at hok hsym (.sr (.fa un64 r sz31 r (o:=4) r r r (.load1 ia31 r (.s .z) r r r (.fa un75 r sz3 r (o:=1) r r r (.load1 ia3 r (.s (.s (.s (.s (.s (.s .z)))))) r r r (.buildSlice 1 un31 sz3 zv3 r r (.c r r r .n) r r fun b808=>?_))))))
   obtain ⟨hl810,hd⟩:=hd
   refine .append (ys:=[x636.Col]) 8 (.s (.s (.s (.s (.s .z))))) un31 un31 IN3 r r r r r r r r r (.box .z (.one r) r) hl810 r r fun p811 c812=>?_
   refine .fa un64 r sz31 r (o:=4) r r r (.store1 sz31 r r (.s (.s (.s .z))) (.s (.s (.s (.s (.t .nil))))) r (.nilS [22,21,20,5,3,2] r r (.drop (.s .z) (.sr (.fa un64 r sz32 r (o:=5) r r r (.load1 ia32 r (.s (.s .z)) r r r (.fa un75 r sz2 r (o:=2) r r r (.load1 ia2 r (.s (.s (.s (.s (.s (.s .z)))))) r r r (.buildSlice 1 un32 sz2 zeroValue2 r r (.c r r r .n) r r fun b814=>?_)))))))))
   obtain ⟨hl816,hd⟩:=hd
   refine .append (ys:=[x636.Val]) 8 (.s (.s (.s (.s (.s (.s .z)))))) un32 un32 IN2 r r r r r r r r r (.box .z (.one r) r) hl816 r r fun p817 c818=>?_
   refine .fa un64 r sz32 r (o:=5) r r r (.store1 sz32 r r (.s (.s (.s (.s .z)))) (.s (.s (.s (.s (.s (.t .nil)))))) r (.nilS [22,21,20,3,2] r r (.drop (.s .z) (.drop (.s (.s (.s (.s (.s (.s .z)))))) (.region (.fa un64 r sz31 r (o:=3) r r r (.load1 ia31 r (.s (.s (.s .z))) r r r (.fa un64 r sz31 r (o:=2) r r r (.load1 ia31 r (.s (.s (.s .z))) r r r ?_)))))))))
   refine .len un31 r r r r (.fa un64 r sz31 r (o:=4) r r r (.load1 ia31 r (.s (.s (.s .z))) r r r (.len un31 r r r r ?_)))
   obtain ⟨h820,x821,hx822,hd⟩:=hd
   refine .ownNe (.s (.s (.s (.s (.s .z))))) (idx_ne hx822) fun b823 e824=>?_
   cases e824
   exact .ixa0 un31 sz3 r r h820 (idx_lt hx822 h820) r r (.stO1 (j:=0) (v':=((s613++([x636.Col])).length:Int)) sz3 (.s (.s (.s (.s (.s .z))))) hx822 r r r (.t .nil) r (.sub (E':=[(2,_),(3,_),(20,_),(21,_),(22,_),(68,_),(69,.slice (some ⟨b823,0,none⟩) (s744.set ((s740.length:Int).toNat) ((s613++([x636.Col])).length:Int)).length c746),(70,_),(71,_),(72,_),(73,_),(74,_),(75,_),(76,_)]) ⟨r,r,r,r,r,r,(by simp only [List.length_set]; rfl),r,r,r,r,r,r,r,trivial⟩ (.reat (.s (.s (.s .z))) (B:=pto b78 (.cells #[.int .i64 a0.Rows,.int .i64 a0.Cols,.slice p741 s740.length c742,.slice (some ⟨b823,0,none⟩) (s744.set ((s740.length:Int).toNat) ((s613++([x636.Col])).length:Int)).length c746,.slice p811 (s613++([x636.Col])).length c812,.slice p817 (s617++([x636.Val])).length c818] 64 (0,0))) (by simp only [List.length_set]) (.nilS [22,21,20,3,2] r r (.region (.ks 2 r (.nil' fun c w ho hs=>⟨(s740,(s744.set ((s740.length:Int).toNat) ((s613++([x636.Col])).length:Int)),(s613++([x636.Col])),(s617++([x636.Val])),w64 (s621+1)),hd,I798,_,_,_,_,_,_,_,_,le801,ho.sub ⟨r,r,r,r,r,trivial⟩,hs.pick (.c (.s (.s .z)) (.c (.s (.s .z)) (.c (.s (.s .z)) (.c (.s (.s .z)) (.c (.s .z) (.c .z (.c .z .n)))))))⟩)))))))
 refine .exitS [3,2] r r (.drop (.s (.s (.s (.s (.s (.s .z)))))) (.sr (.loadW ia64 sz64 r (.s .z) r r r (.storeA sz64 r r .z (.t (.t (.t (.t (.t (.t .nil)))))) r r (.nilS [2] r r (.drop (.s .z) (.pub (.s .z) fun I825 hl826 R827=>?_)))))))
 have le828:=IH.le.trans le625 hl826
 have le829:=IH.le.trans hl624 hl826
 refine .pub (.s .z) fun I830 hl831 R832=>?_
 have le833:=IH.le.trans le828 hl831
 have le834:=IH.le.trans le829 hl831
 replace R827:=R827.mono hl831
 refine .pub (.s .z) fun I835 hl836 R837=>?_
 have le838:=IH.le.trans le833 hl836
 have le839:=IH.le.trans le834 hl836
 replace R827:=R827.mono hl836
 replace R832:=R832.mono hl836
 refine .pub (.s .z) fun I840 hl841 R842=>?_
 have le843:=IH.le.trans le838 hl841
 have le844:=IH.le.trans le839 hl841
 replace R827:=R827.mono hl841
 replace R832:=R832.mono hl841
 replace R837:=R837.mono hl841
 exact .ret (pret results112 (.w ia64 sz64 r .z r .n) le843 ⟨({ Rows:=a0.Rows,Cols:=a0.Cols,At:=s605,Start:=s609,Row:=s613,Val:=s617 }:Columns),_,_,_,_,_,_,_,_,r,R827,R832,R837,R842,hd⟩)
theorem W_block_blocks_03e {I:IH} {a0:Int} {a1:Rows} {a2:Vec} {a3:Int} {a4:Int} {p1:Option Addr} {c2:Nat} {p4:Option Addr} {c5:Nat} {p7:Option Addr} {c8:Nat} {p10:Option Addr} {c11:Nat} {Q0:Int→Prop} {Q1:(Int×(List ((Int×Int)×(List Sum))))→Prop} (R3:RepSl eI64 I p1 c2 a1.Start) (R6:RepSl eI64 I p4 c5 a1.Col) (R9:RepSl eI64 I p7 c8 a1.Val) (R12:RepSl eItem I p10 c11 a2.Items) (hd:block_blocks_03e a0 a1 a2 a3 a4 Q0 Q1) :
  Fun prog 74 #[.int .i64 a0,.agg #[.int .i64 a1.Rows,.int .i64 a1.Cols,.slice p1 a1.Start.length c2,.slice p4 a1.Col.length c5,.slice p7 a1.Val.length c8],.agg #[.int .i64 a2.N,.slice p10 a2.Items.length c11],.int .i64 a3,.int .i64 a4] I [] (fun I_ v l=>(∃ r,v=.tuple #[.map none,.int .i64 r]∧l=[]∧Q0 r)∨(∃ r b13,v=.tuple #[.map (some b13),.int .i64 r.1]∧l=[OwnMap kArr2 (slEl eSum) false b13 r.2]∧Q1 r)):=by
 refine Fun.enter (vs:=[.int .i64 a0,.agg #[.int .i64 a1.Rows,.int .i64 a1.Cols,.slice p1 a1.Start.length c2,.slice p4 a1.Col.length c5,.slice p7 a1.Val.length c8],.agg #[.int .i64 a2.N,.slice p10 a2.Items.length c11],.int .i64 a3,.int .i64 a4]) func74 r ntmps74 r (.c (.c (.c (.c (.c .n))))) fun w0 M=>?_
 refine .sr (.boxA r r r fun b17=>?_)
 refine .boxA r r r fun b19=>?_
 refine .ks 2 r (.nilS [7,6,4,3,0] r r (.scope (.sr (.mkMap kArr2 (slEl eSum) false r r fun b23=>?_))))
 refine .ks 1 r (.nilS [12,7,6,4,3,0] r r (.seq (.labelS [12,7,6,4,3,0] r r (.seq (.sr (.ks 2 r (.nilS [21,20,12,7,6,4,3,0] r r (.block (.loop hd (fun (s:(List ((Int×Int)×(List Sum)))×Int) c w=>match s with | (s1207,s1208)=>∃ I_,IH.le I I_∧Ok ⟨79,[],none⟩ [(0,.int .i64 a0),(3,.int .i64 a3),(4,.int .i64 a4),(6,.pointer (some ⟨b17,0,none⟩)),(7,.pointer (some ⟨b19,0,none⟩)),(12,.map (some b23)),(20,.int .i64 a4),(21,.int .i64 s1208)] c∧Sym w0 M I I_ [pto b17 (.cells #[.int .i64 a1.Rows,.int .i64 a1.Cols,.slice p1 a1.Start.length c2,.slice p4 a1.Col.length c5,.slice p7 a1.Val.length c8] 34 (0,0)),pto b19 (.cells #[.int .i64 a2.N,.slice p10 a2.Items.length c11] 37 (0,0)),OwnMap kArr2 (slEl eSum) false b23 s1207] w) (fun c w ho hs=>⟨I,(.refl _),ho.sub ⟨r,r,r,r,r,r,r,r,trivial⟩,hs.pick (.c (.s (.s .z)) (.c (.s .z) (.c .z .n)))⟩) ?_)))))))))
 rintro ⟨s1207,s1208⟩ next1209 hd c w hst
 obtain ⟨I1210,hl1211,hok,hsym⟩:=hst
 replace R3:=R3.mono hl1211
 replace R6:=R6.mono hl1211
 replace R9:=R9.mono hl1211
 replace R12:=R12.mono hl1211
 refine Cod.at hok hsym (.sr (.ks 1 r (.nilS [22,21,20,12,7,6,4,3,0] r r (.seq (.condP r hd (fun hb1213 hd=>?_) fun hb1213 hd=>?_)))))
 · refine .skipS [21,20,12,7,6,4,3,0] r r (.seq (.block (.sr (.ks 2 r (.nilS [13,21,20,12,7,6,4,3,0] r r (.sr (.loadW ia37 sz37 r (.s .z) r r r (.ks 2 r ?_))))))))
   have hw1236:=W_block_Piece (I:=I1210) R12 hd
   refine .call call15 r hw1236 r r fun v1231 I1228 hl1229 hv1230=>?_
   obtain ⟨r1227,p1233,c1234,rfl,R1235,hd⟩:=hv1230
   have le1237:=IH.le.trans hl1211 hl1229
   replace R3:=R3.mono hl1229
   replace R6:=R6.mono hl1229
   replace R9:=R9.mono hl1229
   replace R12:=R12.mono hl1229
   refine .allocA zv37 r r fun b1238=>?_
   refine .storeA sz37 r r .z (.t (.t .nil)) r r (.nilS [14,13,21,20,12,7,6,4,3,0] r r (.seq (.sr (.fa un37 r sz25 r (o:=1) r r r (.load1 ia25 r .z r r r (.len un25 r r r r (.ks 1 r (.nilS [31,14,13,21,20,12,7,6,4,3,0] r r (.condP r hd (fun hb1241 hd=>?_) fun hb1241 hd=>?_)))))))))
   · exact .exitS [21,20,12,7,6,4,3,0] r r (.drop .z (.region (.ks 2 r (.nil' fun c w ho hs=>⟨(s1207,w64 (s1208+1)),hd,I1228,le1237,ho.sub ⟨r,r,r,r,r,r,r,r,trivial⟩,hs.pick (.c .z (.c .z (.c .z .n)))⟩))))
   refine .skipS [14,13,21,20,12,7,6,4,3,0] r r (.sr (.ks 2 r (.nilS [33,32,14,13,21,20,12,7,6,4,3,0] r r (.block (.loop hd (fun (s:(List ((Int×Int)×(List Sum)))×Int) c w=>match s with | (s1612,s1613)=>∃ I_,IH.le I1228 I_∧Ok ⟨79,[],none⟩ [(0,.int .i64 a0),(3,.int .i64 a3),(4,.int .i64 a4),(6,.pointer (some ⟨b17,0,none⟩)),(7,.pointer (some ⟨b19,0,none⟩)),(12,.map (some b23)),(13,.int .i64 s1208),(14,.pointer (some ⟨b1238,0,none⟩)),(20,.int .i64 a4),(21,.int .i64 s1208),(32,.int .i64 a3),(33,.int .i64 s1613)] c∧Sym w0 M I I_ [pto b17 (.cells #[.int .i64 a1.Rows,.int .i64 a1.Cols,.slice p1 a1.Start.length c2,.slice p4 a1.Col.length c5,.slice p7 a1.Val.length c8] 34 (0,0)),pto b19 (.cells #[.int .i64 a2.N,.slice p10 a2.Items.length c11] 37 (0,0)),OwnMap kArr2 (slEl eSum) false b23 s1612,pto b1238 (.cells #[.int .i64 r1227.N,.slice p1233 r1227.Items.length c1234] 37 (0,0))] w) (fun c w ho hs=>⟨I1228,(.refl _),ho.sub ⟨r,r,r,r,r,r,r,r,r,r,r,r,trivial⟩,hs.pick (.c (.s .z) (.c (.s .z) (.c (.s .z) (.c .z .n))))⟩) ?_)))))
   rintro ⟨s1612,s1613⟩ next1614 hd c w hst
   obtain ⟨I1615,hl1616,hok,hsym⟩:=hst
   have le1617:=IH.le.trans le1237 hl1616
   replace R3:=R3.mono hl1616
   replace R6:=R6.mono hl1616
   replace R9:=R9.mono hl1616
   replace R12:=R12.mono hl1616
   replace R1235:=R1235.mono hl1616
   refine Cod.at hok hsym (.sr (.ks 1 r (.nilS [34,33,32,21,20,14,13,12,7,6,4,3,0] r r (.seq (.condP r hd (fun hb1619 hd=>?_) fun hb1619 hd=>?_)))))
   · refine .skipS [33,32,21,20,14,13,12,7,6,4,3,0] r r (.seq (.block (.sr (.ks 2 r (.nilS [15,33,32,21,20,14,13,12,7,6,4,3,0] r r (.seq (.dr [0,1,2,3,4,5,8,6,7,9,10,11,12,13] 14 (.fk 1 r (.g r r r (fun _=>.loadW ia34 sz34 r .z r r r .mk) ?_)))))))))
     refine .fk 4 r (.g r r r (fun _=>.loadW ia37 sz37 r (.s (.s (.s .z))) r r r .mk) (.ww r fun ex=>?_))
     have hw1687:=W_block_Cut (I:=I1615) R3 R6 R9 hd
     refine .call call12 r hw1687 r r fun v1676 I1673 hl1674 hv1675=>?_
     obtain ⟨r1672,p1678,c1679,p1681,c1682,p1684,c1685,rfl,R1680,R1683,R1686,hd⟩:=hv1675
     have le1688:=IH.le.trans le1617 hl1674
     have le1689:=IH.le.trans hl1616 hl1674
     replace R3:=R3.mono hl1674
     replace R6:=R6.mono hl1674
     replace R9:=R9.mono hl1674
     replace R12:=R12.mono hl1674
     replace R1235:=R1235.mono hl1674
     refine .so 4 r r r (.cg r r r r (fun _=>.loadW ia37 sz37 r (.s (.s (.s .z))) r r r .mk) (.ck 1 r r trivial)) (.ww r fun ex=>?_)
     have hw1708:=W_dcsc_Of (I:=I1673) R1680 R1683 R1686 hd
     refine .call call112 r hw1708 r r fun v1694 I1691 hl1692 hv1693=>?_
     obtain ⟨r1690,p1696,c1697,p1699,c1700,p1702,c1703,p1705,c1706,rfl,R1698,R1701,R1704,R1707,hd⟩:=hv1693
     have le1709:=IH.le.trans le1688 hl1692
     have le1710:=IH.le.trans le1689 hl1692
     replace R3:=R3.mono hl1692
     replace R6:=R6.mono hl1692
     replace R9:=R9.mono hl1692
     replace R12:=R12.mono hl1692
     replace R1235:=R1235.mono hl1692
     replace R1680:=R1680.mono hl1692
     replace R1683:=R1683.mono hl1692
     replace R1686:=R1686.mono hl1692
     refine .so 4 r r r (.cg r r r r (fun _=>.loadW ia37 sz37 r (.s (.s (.s .z))) r r r .mk) (.ck 1 r r trivial)) (.ww r fun ex=>?_)
     have hw1721:=W_push_Sums (I:=I1691) R1698 R1701 R1704 R1707 R1235 (.nil _ none 0) hd
     refine .callO call30 r hw1721 r r fun v1715 I1712 l1716 hl1713 hv1714=>?_
     obtain ⟨r1711,p1717,c1718,rfl,rfl,hd⟩:=hv1714
     have le1722:=IH.le.trans le1709 hl1713
     have le1723:=IH.le.trans le1710 hl1713
     replace R3:=R3.mono hl1713
     replace R6:=R6.mono hl1713
     replace R9:=R9.mono hl1713
     replace R12:=R12.mono hl1713
     replace R1235:=R1235.mono hl1713
     replace R1680:=R1680.mono hl1713
     replace R1683:=R1683.mono hl1713
     replace R1686:=R1686.mono hl1713
     replace R1698:=R1698.mono hl1713
     replace R1701:=R1701.mono hl1713
     replace R1704:=R1704.mono hl1713
     replace R1707:=R1707.mono hl1713
     refine .so 5 r r r trivial (.fk 4 r (.e2 14 (.ks 1 r (.nilS [17,16,15,33,32,21,20,14,13,12,7,6,4,3,0] r r (.seq (.sr (.ks 2 r (.nilS [50,17,16,15,33,32,21,20,14,13,12,7,6,4,3,0] r r (.condP r hd (fun hb1725 hd=>?_) fun hb1725 hd=>?_)))))))))
     · exact .sr (.ks 3 r (.nilS [11,10] r r (.drop .z (.drop .z (.drop .z (.drop .z (.drop .z (.ret (oret results74 (.t r (.t r .n)) le1722 .n (.inl ⟨r1711.2,r,r,hd⟩))))))))))
     refine .skipS [16,15,33,32,21,20,14,13,12,7,6,4,3,0] r r (.seq (.sr (.ks 1 r (.len un58 r r r r (.ks 1 r (.nilS [54,53,16,15,33,32,21,20,14,13,12,7,6,4,3,0] r r (.block (.loop hd (fun (s:(List Sum)×Int) c w=>match s with | (s1771,s1775)=>∃ I_ p1772 c1773,IH.le I1712 I_∧Ok ⟨79,[],none⟩ [(0,.int .i64 a0),(3,.int .i64 a3),(4,.int .i64 a4),(6,.pointer (some ⟨b17,0,none⟩)),(7,.pointer (some ⟨b19,0,none⟩)),(12,.map (some b23)),(13,.int .i64 s1208),(14,.pointer (some ⟨b1238,0,none⟩)),(15,.int .i64 s1613),(16,.slice p1772 s1771.length c1773),(20,.int .i64 a4),(21,.int .i64 s1208),(32,.int .i64 a3),(33,.int .i64 s1613),(53,.int .i64 (r1711.1.length:Int)),(54,.int .i64 s1775)] c∧Sym w0 M I I_ [pto b17 (.cells #[.int .i64 a1.Rows,.int .i64 a1.Cols,.slice p1 a1.Start.length c2,.slice p4 a1.Col.length c5,.slice p7 a1.Val.length c8] 34 (0,0)),pto b19 (.cells #[.int .i64 a2.N,.slice p10 a2.Items.length c11] 37 (0,0)),OwnMap kArr2 (slEl eSum) false b23 s1612,pto b1238 (.cells #[.int .i64 r1227.N,.slice p1233 r1227.Items.length c1234] 37 (0,0)),OwnSl eSum 80 p1772 c1773 s1771] w) (fun c w ho hs=>⟨I1712,_,_,(.refl _),ho.sub ⟨r,r,r,r,r,r,r,r,r,r,r,r,r,r,r,r,trivial⟩,hs.pick (.c (.s .z) (.c (.s .z) (.c (.s .z) (.c (.s .z) (.c .z .n)))))⟩) ?_))))))))
     rintro ⟨s1771,s1775⟩ next1776 hd c w hst
     obtain ⟨I1777,p1772,c1773,hl1778,hok,hsym⟩:=hst
     have le1779:=IH.le.trans le1722 hl1778
     have le1780:=IH.le.trans le1723 hl1778
     replace R3:=R3.mono hl1778
     replace R6:=R6.mono hl1778
     replace R9:=R9.mono hl1778
     replace R12:=R12.mono hl1778
     replace R1235:=R1235.mono hl1778
     refine Cod.at hok hsym (.sr (.ks 1 r (.nilS [55,54,53,33,32,21,20,16,15,14,13,12,7,6,4,3,0] r r (.seq (.condP r hd (fun hb1782 hd=>?_) fun hb1782 hd=>?_)))))
     · refine .skipS [54,53,33,32,21,20,16,15,14,13,12,7,6,4,3,0] r r (.seq (.block (.sr (.ks 2 r (.nilS [18,54,53,33,32,21,20,16,15,14,13,12,7,6,4,3,0] r r (.ownF (.s (.s (.s (.s .z)))) fun hne1783=>?_))))))
       refine .dr [0,1,2,3,4,5,6,7,8,9,10,11,12,13] 14 (.fk 2 r ?_)
       obtain ⟨h1784,x1785,hx1786,hd⟩:=hd
       obtain ⟨b1787,e1788⟩:=hne1783 (idx_ne hx1786)
       cases e1788
       refine .g r r r (fun _=>.ixa0 un58 sz80 r r h1784 (idx_lt hx1786 h1784) r r .mk) (.g r r r (fun _=>.fa un80 r sz3 r (o:=s1775.toNat*3) r r r .mk) (.g r r r (fun _=>.lo1 (j:=0) ia3 (.s (.s (.s (.s .z)))) hx1786 r r r r r .mk) (.g r r r (fun _=>.fa un34 r sz3 r (o:=0) r r r .mk) (.g r r r (fun _=>.load1 ia3 r .z r r r .mk) (.fk 2 r (.ww r fun ex=>?_))))))
       have hw1790:=W_part_Low (I:=I1777) hd
       refine .callP call66 r hw1790 r r fun v1791 hv1792=>?_
       obtain ⟨r1789,rfl,hd⟩:=hv1792
       refine .so 5 r r r (.cg r r r r (fun _=>.lo1 (j:=0) ia3 (.s (.s (.s (.s .z)))) hx1786 r r r r r .mk) (.cg r r r r (fun _=>.fa un80 r sz3 r (o:=s1775.toNat*3) r r r .mk) (.cg r r r r (fun _=>.ixa0 un58 sz80 r r h1784 (idx_lt hx1786 h1784) r r .mk) (.ck 2 r r trivial)))) (.fk 1 r ?_)
       obtain ⟨h1793,x1794,hx1795,hd⟩:=hd
       refine .g r r r (fun _=>.ixa0 un58 sz80 r r h1793 (idx_lt hx1795 h1793) r r .mk) (.g r r r (fun _=>.fa un80 r sz3 r (o:=s1775.toNat*3) r r r .mk) (.ww r fun ex=>?_))
       exact .stO1 (j:=0) (v':=({ At:=w64 (x1785.At+r1789),Val:=x1794.Val }:Sum)) sz3 (.s (.s (.s (.s .z)))) hx1795 r r r (.t .nil) r (.sn 5 r r r trivial (.e2 14 (.sub (E':=[(0,_),(3,_),(4,_),(6,_),(7,_),(12,_),(13,_),(14,_),(15,_),(16,.slice (some ⟨b1787,0,none⟩) (s1771.set s1775.toNat ({ At:=w64 (x1785.At+r1789),Val:=x1794.Val }:Sum)).length c1773),(20,_),(21,_),(32,_),(33,_),(53,_),(54,_),(18,_),(57,.slice (some ⟨b1787,0,none⟩) (s1771.set s1775.toNat ({ At:=w64 (x1785.At+r1789),Val:=x1794.Val }:Sum)).length c1773),(58,_),(59,_),(60,_),(61,_),(62,_),(63,_),(64,_),(65,_),(66,_),(67,_),(68,_),(69,_)]) ⟨r,r,r,r,r,r,r,r,r,(by simp only [List.length_set]; rfl),r,r,r,r,r,r,r,(by simp only [List.length_set]; rfl),r,r,r,r,r,r,r,r,r,r,r,r,trivial⟩ (.nilS [54,53,33,32,21,20,16,15,14,13,12,7,6,4,3,0] r r (.region (.ks 2 r (.nil' fun c w ho hs=>⟨((s1771.set s1775.toNat ({ At:=w64 (x1785.At+r1789),Val:=x1794.Val }:Sum)),w64 (s1775+1)),hd,I1777,_,_,hl1778,ho.sub ⟨r,r,r,r,r,r,r,r,r,r,r,r,r,r,r,r,trivial⟩,hs.pick (.c .z (.c .z (.c .z (.c .z (.c .z .n)))))⟩)))))))
     refine .exitS [33,32,21,20,16,15,14,13,12,7,6,4,3,0] r r (.region (.ks 3 r (.buildArr zv86 un86 sz3 (.c r r r (.t .nil) (.c r r r (.s (.t .nil)) .n)) r r (.ks 1 r (.pub (.s (.s (.s (.s .z)))) fun I1796 hl1797 R1798=>?_)))))
     have le1799:=IH.le.trans le1779 hl1797
     have le1800:=IH.le.trans le1780 hl1797
     have le1801:=IH.le.trans hl1778 hl1797
     replace R3:=R3.mono hl1797
     replace R6:=R6.mono hl1797
     replace R9:=R9.mono hl1797
     replace R12:=R12.mono hl1797
     replace R1235:=R1235.mono hl1797
     exact .updM (k:=(s1613,s1208)) (El:=(slEl eSum)) (ag:=false) (v:=s1771) KA86 underlying103 (.s (.s .z)) r r r ⟨[.slice p1772 s1771.length c1773],⟨_,_,r,R1798⟩,.s⟩ (.nilS [33,32,21,20,14,13,12,7,6,4,3,0] r r (.region (.ks 2 r (.nil' fun c w ho hs=>⟨((mput (s1613,s1208) s1771 s1612),w64 (s1613+1)),hd,I1796,le1800,ho.sub ⟨r,r,r,r,r,r,r,r,r,r,r,r,trivial⟩,hs.pick (.c .z (.c .z (.c .z (.c .z .n))))⟩))))
   exact .exitS [21,20,12,7,6,4,3,0] r r (.drop (.s (.s (.s .z))) (.region (.ks 2 r (.nil' fun c w ho hs=>⟨(s1612,w64 (s1208+1)),hd,I1615,le1617,ho.sub ⟨r,r,r,r,r,r,r,r,trivial⟩,hs.pick (.c .z (.c .z (.c .z .n)))⟩))))
 exact .exitS [12] r r (.drop .z (.drop .z (.sr (.ks 3 r (.nilS [11,10] r r (.ret (oret results74 (.t r (.t r .n)) hl1211 (.c .z .n) (.inr ⟨(0,s1207),_,r,r,hd⟩))))))))
theorem W_block_Times {I:IH} {a0:Int} {a1:Rows} {a2:Vec} {a3:Int} {a4:Int} {p1:Option Addr} {c2:Nat} {p4:Option Addr} {c5:Nat} {p7:Option Addr} {c8:Nat} {p10:Option Addr} {c11:Nat} {Q:((List Sum)×Int)→Prop} (R3:RepSl eI64 I p1 c2 a1.Start) (R6:RepSl eI64 I p4 c5 a1.Col) (R9:RepSl eI64 I p7 c8 a1.Val) (R12:RepSl eItem I p10 c11 a2.Items) (hd:block_Times a0 a1 a2 a3 a4 Q) :
  PFun prog 27 [.int .i64 a0,.agg #[.int .i64 a1.Rows,.int .i64 a1.Cols,.slice p1 a1.Start.length c2,.slice p4 a1.Col.length c5,.slice p7 a1.Val.length c8],.agg #[.int .i64 a2.N,.slice p10 a2.Items.length c11],.int .i64 a3,.int .i64 a4] I (o16_ Q):=by
 refine Fun.enter func27 r ntmps27 r (.c (.c (.c (.c (.c .n))))) fun w0 M=>?_
 refine .sr (.boxA r r r fun b20=>?_)
 refine .boxA r r r fun b22=>?_
 refine .ks 2 r (.nilS [7,6,4,3,0] r r (.seq ?_))
 refine Cod.joinQ (σ:=Int×Int×(List Int)×(List Int)×(List Int)) hd (fun (s:Int×Int×(List Int)×(List Int)×(List Int)) c w=>match s with | (s66,s67,s68,s72,s76)=>∃ I_ p69 c70 p73 c74 p77 c78,IH.le I I_∧RepSl eI64 I_ p69 c70 s68∧RepSl eI64 I_ p73 c74 s72∧RepSl eI64 I_ p77 c78 s76∧Ok ⟨82,[],none⟩ [(0,.int .i64 a0),(3,.int .i64 a3),(4,.int .i64 a4),(6,.pointer (some ⟨b20,0,none⟩)),(7,.pointer (some ⟨b22,0,none⟩))] c∧Sym w0 M I I_ [pto b20 (.cells #[.int .i64 s66,.int .i64 s67,.slice p69 s68.length c70,.slice p73 s72.length c74,.slice p77 s76.length c78] 34 (0,0)),pto b22 (.cells #[.int .i64 a2.N,.slice p10 a2.Items.length c11] 37 (0,0))] w) (fun k80 hd=>?_) ?_
 · skip
   refine .sr (.loadW ia34 sz34 r (.s .z) r r r ?_)
   have hw82:=W_csr_Right (I:=I) R3 R6 R9 hd
   refine .callP call41 r hw82 r r fun v83 hv84=>?_
   obtain ⟨r81,rfl,hd⟩:=hv84
   refine .ks 1 r (.nilS [19,7,6,4,3,0] r r (.condP r hd (fun hb85 hd=>?_) fun hb85 hd=>?_))
   · refine .region (.build zv34 un34 BI34 .n (by exact trivial) r r (.buildArr zv86 un86 sz3 .n r r (.buildArr zv86 un86 sz3 .n r r ?_)))
     have hw101:=W_csr_Cut (I:=I) (a0:=({ Rows:=0,Cols:=0,Start:=([]:List Int),Col:=([]:List Int),Val:=([]:List Int) }:Rows)) (.nil _ none 0) (.nil _ none 0) (.nil _ none 0) hd
     refine .call call43 r hw101 r r fun v90 I87 hl88 hv89=>?_
     obtain ⟨r86,p92,c93,p95,c96,p98,c99,rfl,R94,R97,R100,hd⟩:=hv89
     replace R3:=R3.mono hl88
     replace R6:=R6.mono hl88
     replace R9:=R9.mono hl88
     replace R12:=R12.mono hl88
     exact .storeA sz34 r r (.s .z) (.t (.t (.t (.t (.t .nil))))) r r (.nil' fun c w ho hs=>⟨(r86.Rows,r86.Cols,r86.Start,r86.Col,r86.Val),hd,I87,_,_,_,_,_,_,hl88,R94,R97,R100,ho.sub ⟨r,r,r,r,r,trivial⟩,hs.pick (.c (.s .z) (.c .z .n))⟩)
   exact .skip' fun c w ho hs=>⟨(a1.Rows,a1.Cols,a1.Start,a1.Col,a1.Val),hd,I,_,_,_,_,_,_,(.refl _),R3,R6,R9,ho.sub ⟨r,r,r,r,r,trivial⟩,hs.pick (.c (.s .z) (.c .z .n))⟩
 rintro ⟨s66,s67,s68,s72,s76⟩ hd c w hst
 obtain ⟨I102,p69,c70,p73,c74,p77,c78,hl103,R71,R75,R79,hok,hsym⟩:=hst
 replace R12:=R12.mono hl103
 refine Cod.at hok hsym (.seq ?_)
 refine Cod.joinQ (σ:=Int×(List Item)) hd (fun (s:Int×(List Item)) c w=>match s with | (s114,s115)=>∃ I_ p116 c117,IH.le I102 I_∧RepSl eItem I_ p116 c117 s115∧Ok ⟨82,[],none⟩ [(0,.int .i64 a0),(3,.int .i64 a3),(4,.int .i64 a4),(6,.pointer (some ⟨b20,0,none⟩)),(7,.pointer (some ⟨b22,0,none⟩))] c∧Sym w0 M I I_ [pto b20 (.cells #[.int .i64 s66,.int .i64 s67,.slice p69 s68.length c70,.slice p73 s72.length c74,.slice p77 s76.length c78] 34 (0,0)),pto b22 (.cells #[.int .i64 s114,.slice p116 s115.length c117] 37 (0,0))] w) (fun k119 hd=>?_) ?_
 · skip
   refine .sr (.loadW ia37 sz37 r (.s .z) r r r ?_)
   have hw121:=W_spvec_Right (I:=I102) R12 hd
   refine .callP call51 r hw121 r r fun v122 hv123=>?_
   obtain ⟨r120,rfl,hd⟩:=hv123
   refine .ks 1 r (.nilS [26,7,6,4,3,0] r r (.condP r hd (fun hb124 hd=>?_) fun hb124 hd=>?_))
   · exact .region (.build zv37 un37 BI37 .n (by exact trivial) r r (.storeA sz37 r r (.s .z) (.t (.t .nil)) r r (.nil' fun c w ho hs=>⟨(0,([]:List Item)),hd,I102,_,_,(.refl _),.nil _ _ _,ho.sub ⟨r,r,r,r,r,trivial⟩,hs.pick (.c .z (.c .z .n))⟩)))
   exact .skip' fun c w ho hs=>⟨(a2.N,a2.Items),hd,I102,_,_,(.refl _),R12,ho.sub ⟨r,r,r,r,r,trivial⟩,hs.pick (.c .z (.c .z .n))⟩
 rintro ⟨s114,s115⟩ hd c w hst
 obtain ⟨I125,p116,c117,hl126,R118,hok,hsym⟩:=hst
 have le127:=IH.le.trans hl103 hl126
 replace R71:=R71.mono hl126
 replace R75:=R75.mono hl126
 replace R79:=R79.mono hl126
 refine Cod.at hok hsym (.seq (.block (.sr (.ks 1 r ?_))))
 have hw177:=W_ring_Is (I:=I125) hd
 refine .callP call73 r hw177 r r fun v178 hv179=>?_
 obtain ⟨r176,rfl,hd⟩:=hv179
 refine .ks 2 r (.nilS [28,7,6,4,3,0] r r (.condP r hd (fun hb180 hd=>?_) fun hb180 hd=>?_))
 · exact .sr (.ks 2 r (.nilS [11,10] r r (.drop .z (.drop .z (.ret (pret results27 (.t r (.t r .n)) le127 ⟨(([]:List Sum),8),_,_,r,(.nil _ _ _),hd⟩))))))
 refine .seq ?_
 refine Cod.joinQ (σ:=Bool) hd (fun (s199:Bool) c w=>∃ I_,IH.le I125 I_∧Ok ⟨82,[],none⟩ [(0,.int .i64 a0),(3,.int .i64 a3),(4,.int .i64 a4),(6,.pointer (some ⟨b20,0,none⟩)),(7,.pointer (some ⟨b22,0,none⟩)),(32,.bool s199)] c∧Sym w0 M I I_ [pto b20 (.cells #[.int .i64 s66,.int .i64 s67,.slice p69 s68.length c70,.slice p73 s72.length c74,.slice p77 s76.length c78] 34 (0,0)),pto b22 (.cells #[.int .i64 s114,.slice p116 s115.length c117] 37 (0,0))] w) (fun k200 hd=>?_) ?_
 · skip
   refine .region (.ks 1 r ?_)
   have hw202:=W_block_side (I:=I125) hd
   refine .callP call62 r hw202 r r fun v203 hv204=>?_
   obtain ⟨r201,rfl,hd⟩:=hv204
   refine .ks 2 r ?_
   refine splitP hd (fun hb205 hd=>?_) fun hb205 hd=>?_
   · rw [hb205]
     exact .ks 5 r (.nil' fun c w ho hs=>⟨true,hd,I125,(.refl _),ho.sub ⟨r,r,r,r,r,r,trivial⟩,hs.pick (.c .z (.c .z .n))⟩)
   rw [hb205]
   refine .ks 1 r ?_
   have hw207:=W_block_side (I:=I125) hd
   refine .gyes r r r (.callP call62 r hw207 r r fun v208 hv209=>?_)
   obtain ⟨r206,rfl,hd⟩:=hv209
   exact .ks 3 r (.nil' fun c w ho hs=>⟨(!r206),hd,I125,(.refl _),ho.sub ⟨r,r,r,r,r,r,trivial⟩,hs.pick (.c .z (.c .z .n))⟩)
 rintro s199 hd c w hst
 obtain ⟨I210,hl211,hok,hsym⟩:=hst
 have le212:=IH.le.trans le127 hl211
 have le213:=IH.le.trans hl126 hl211
 replace R71:=R71.mono hl211
 replace R75:=R75.mono hl211
 replace R79:=R79.mono hl211
 replace R118:=R118.mono hl211
 refine Cod.at hok hsym (.condP r hd (fun hb214 hd=>?_) fun hb214 hd=>?_)
 · exact .sr (.ks 2 r (.nilS [11,10] r r (.drop .z (.drop .z (.ret (pret results27 (.t r (.t r .n)) le212 ⟨(([]:List Sum),3),_,_,r,(.nil _ _ _),hd⟩))))))
 refine .sr (.fa un37 r sz3 r (o:=0) r r r (.load1 ia3 r (.s .z) r r r (.fa un34 r sz3 r (o:=1) r r r (.load1 ia3 r .z r r r (.ks 2 r (.nilS [41,7,6,4,3,0] r r (.condP r hd (fun hb215 hd=>?_) fun hb215 hd=>?_)))))))
 · exact .sr (.ks 2 r (.nilS [11,10] r r (.drop .z (.drop .z (.ret (pret results27 (.t r (.t r .n)) le212 ⟨(([]:List Sum),4),_,_,r,(.nil _ _ _),hd⟩))))))
 refine .skipS [7,6,4,3,0] r r (.sr (.ks 1 r (.loadW ia34 sz34 r .z r r r (.loadW ia37 sz37 r (.s .z) r r r (.ks 2 r ?_)))))
 have hw248:=W_block_blocks_03e (I:=I210) (a0:=a0) (a1:=({ Rows:=s66,Cols:=s67,Start:=s68,Col:=s72,Val:=s76 }:Rows)) (a2:=({ N:=s114,Items:=s115 }:Vec)) (a3:=a3) (a4:=a4) R71 R75 R79 R118 hd
 refine .callS (.f call74 r) .n hw248 r r fun v252 I249 l253 hl250 hv251=>?_
 rcases hv251 with hv251 | hv251
 · obtain ⟨r254,rfl,rfl,hd⟩:=hv251
   have le258:=IH.le.trans le212 hl250
   have le259:=IH.le.trans le213 hl250
   have le260:=IH.le.trans hl211 hl250
   replace R71:=R71.mono hl250
   replace R75:=R75.mono hl250
   replace R79:=R79.mono hl250
   replace R118:=R118.mono hl250
   refine .re (m':=[pto b20 (.cells #[.int .i64 s66,.int .i64 s67,.slice p69 s68.length c70,.slice p73 s72.length c74,.slice p77 s76.length c78] 34 (0,0)),pto b22 (.cells #[.int .i64 s114,.slice p116 s115.length c117] 37 (0,0))]) r (.ks 5 r (.nilS [13,12,4,3,0] r r (.drop .z (.drop .z (.seq (.sr (.ks 2 r (.nilS [57,13,12,4,3,0] r r (.condP r hd (fun hb262 hd=>?_) fun hb262 hd=>?_)))))))))
   · exact .sr (.ks 3 r (.nilS [11,10] r r (.ret (pret results27 (.t r (.t r .n)) le258 ⟨(([]:List Sum),r254),_,_,r,(.nil _ _ _),hd⟩))))
   refine .skipS [12,4,3,0] r r (.sr (.ks 1 r (.nilS [14,12,4,3,0] r r (.seq (.sr (.ks 2 r (.nilS [60,59,14,12,4,0] r r (.block (.own0 (slEl eSum) 58 ?_)))))))))
   refine .loop hd (fun (s:(List (List Sum))×Int) c w=>match s with | (s384,s388)=>∃ I_ p385 c386,IH.le I249 I_∧Ok ⟨82,[],none⟩ [(0,.int .i64 a0),(4,.int .i64 a4),(12,.map none),(14,.slice p385 s384.length c386),(59,.int .i64 a3),(60,.int .i64 s388)] c∧Sym w0 M I I_ [OwnSl (slEl eSum) 58 p385 c386 s384] w) (fun c w ho hs=>⟨I249,_,_,(.refl _),ho.sub ⟨r,r,r,r,r,r,trivial⟩,hs.pick (.c .z .n)⟩) ?_
   rintro ⟨s384,s388⟩ next390 hd c w hst
   obtain ⟨I391,p385,c386,hl392,hok,hsym⟩:=hst
   have le393:=IH.le.trans le258 hl392
   have le394:=IH.le.trans le259 hl392
   have le395:=IH.le.trans le260 hl392
   refine Cod.at hok hsym (.sr (.ks 1 r (.nilS [61,60,59,14,12,4,0] r r (.seq (.condP r hd (fun hb397 hd=>?_) fun hb397 hd=>?_)))))
   · refine .skipS [60,59,14,12,4,0] r r (.seq (.block (.sr (.ks 2 r (.nilS [15,60,59,14,12,4,0] r r (.sr (.ks 2 r (.nilS [64,63,15,60,59,14,12,4,0] r r (.block ?_)))))))))
     refine .loop hd (fun (s:(List (List Sum))×Int) c w=>match s with | (s429,s433)=>∃ I_ p430 c431,IH.le I391 I_∧Ok ⟨82,[],none⟩ [(0,.int .i64 a0),(4,.int .i64 a4),(12,.map none),(14,.slice p430 s429.length c431),(15,.int .i64 s388),(59,.int .i64 a3),(60,.int .i64 s388),(63,.int .i64 a4),(64,.int .i64 s433)] c∧Sym w0 M I I_ [OwnSl (slEl eSum) 58 p430 c431 s429] w) (fun c w ho hs=>⟨I391,_,_,(.refl _),ho.sub ⟨r,r,r,r,r,r,r,r,r,trivial⟩,hs.pick (.c .z .n)⟩) ?_
     rintro ⟨s429,s433⟩ next434 hd c w hst
     obtain ⟨I435,p430,c431,hl436,hok,hsym⟩:=hst
     have le437:=IH.le.trans le393 hl436
     have le438:=IH.le.trans le394 hl436
     have le439:=IH.le.trans le395 hl436
     have le440:=IH.le.trans hl392 hl436
     refine Cod.at hok hsym (.sr (.ks 1 r (.nilS [65,64,63,60,59,15,14,12,4,0] r r (.seq (.condP r hd (fun hb442 hd=>?_) fun hb442 hd=>?_)))))
     · refine .skipS [64,63,60,59,15,14,12,4,0] r r (.seq (.block (.sr (.ks 2 r (.nilS [16,64,63,60,59,15,14,12,4,0] r r (.region (.ks 4 r (.buildArr zv86 un86 sz3 (.c r r r (.t .nil) (.c r r r (.s (.t .nil)) .n)) r r (.lookN (k:=(s388,s433)) KA86 underlying103 zv58 r r r r ?_)))))))))
       refine .buildSlice 1 un106 sz58 zv58 r r (.c r r r .n) r r fun b443=>?_
       obtain ⟨hl445,hd⟩:=hd
       refine .append (ys:=[([]:List Sum)]) 24 (.s .z) un106 un106 IN58 r r r r r r r r r (.box .z (.one ⟨_,_,r,.nil _ _ _⟩) r) hl445 r r fun p446 c447=>?_
       exact .ks 1 r (.nilS [14,64,63,60,59,15,12,4,0] r r (.drop (.s .z) (.region (.ks 2 r (.nil' fun c w ho hs=>⟨((s429++([([]:List Sum)])),w64 (s433+1)),hd,I435,_,_,hl436,ho.sub ⟨r,r,r,r,r,r,r,r,r,trivial⟩,hs.pick (.c .z .n)⟩)))))
     exact .exitS [60,59,14,12,4,0] r r (.region (.ks 2 r (.nil' fun c w ho hs=>⟨(s429,w64 (s388+1)),hd,I435,_,_,le440,ho.sub ⟨r,r,r,r,r,r,trivial⟩,hs.pick (.c .z .n)⟩)))
   refine .exitS [14,0] r r (.sr (.ks 2 r (.pub .z fun I449 hl450 R451=>?_)))
   have le452:=IH.le.trans le393 hl450
   have le453:=IH.le.trans le394 hl450
   have le454:=IH.le.trans le395 hl450
   have le455:=IH.le.trans hl392 hl450
   have hw466:=W_push_Merge (I:=I449) R451 hd
   refine .callO call75 r hw466 r r fun v460 I457 l461 hl458 hv459=>?_
   obtain ⟨r456,p462,c463,rfl,rfl,hd⟩:=hv459
   have le467:=IH.le.trans le452 hl458
   have le468:=IH.le.trans le453 hl458
   have le469:=IH.le.trans le454 hl458
   have le470:=IH.le.trans le455 hl458
   replace R451:=R451.mono hl458
   refine .ks 4 r (.nilS [11,10] r r (.pub .z fun I471 hl472 R473=>?_))
   have le474:=IH.le.trans le467 hl472
   have le475:=IH.le.trans le468 hl472
   have le476:=IH.le.trans le469 hl472
   have le477:=IH.le.trans le470 hl472
   exact .ret (pret results27 (.t r (.t r .n)) le474 ⟨(r456.1,r456.2),_,_,r,R473,hd⟩)
 obtain ⟨r255,b257,rfl,rfl,hd⟩:=hv251
 have le478:=IH.le.trans le212 hl250
 have le479:=IH.le.trans le213 hl250
 have le480:=IH.le.trans hl211 hl250
 replace R71:=R71.mono hl250
 replace R75:=R75.mono hl250
 replace R79:=R79.mono hl250
 replace R118:=R118.mono hl250
 refine .re (m':=[OwnMap kArr2 (slEl eSum) false b257 r255.2,pto b20 (.cells #[.int .i64 s66,.int .i64 s67,.slice p69 s68.length c70,.slice p73 s72.length c74,.slice p77 s76.length c78] 34 (0,0)),pto b22 (.cells #[.int .i64 s114,.slice p116 s115.length c117] 37 (0,0))]) r (.ks 5 r (.nilS [13,12,4,3,0] r r (.drop (.s .z) (.drop (.s .z) (.seq (.sr (.ks 2 r (.nilS [57,13,12,4,3,0] r r (.condP r hd (fun hb482 hd=>?_) fun hb482 hd=>?_)))))))))
 · exact .sr (.ks 3 r (.nilS [11,10] r r (.drop .z (.ret (pret results27 (.t r (.t r .n)) le478 ⟨(([]:List Sum),r255.1),_,_,r,(.nil _ _ _),hd⟩)))))
 refine .skipS [12,4,3,0] r r (.sr (.ks 1 r (.nilS [14,12,4,3,0] r r (.seq (.sr (.ks 2 r (.nilS [60,59,14,12,4,0] r r (.block (.own0 (slEl eSum) 58 ?_)))))))))
 refine .loop hd (fun (s:(List (List Sum))×Int) c w=>match s with | (s658,s662)=>∃ I_ p659 c660,IH.le I249 I_∧Ok ⟨82,[],none⟩ [(0,.int .i64 a0),(4,.int .i64 a4),(12,.map (some b257)),(14,.slice p659 s658.length c660),(59,.int .i64 a3),(60,.int .i64 s662)] c∧Sym w0 M I I_ [OwnMap kArr2 (slEl eSum) false b257 r255.2,OwnSl (slEl eSum) 58 p659 c660 s658] w) (fun c w ho hs=>⟨I249,_,_,(.refl _),ho.sub ⟨r,r,r,r,r,r,trivial⟩,hs.pick (.c (.s .z) (.c .z .n))⟩) ?_
 rintro ⟨s658,s662⟩ next664 hd c w hst
 obtain ⟨I665,p659,c660,hl666,hok,hsym⟩:=hst
 have le667:=IH.le.trans le478 hl666
 have le668:=IH.le.trans le479 hl666
 have le669:=IH.le.trans le480 hl666
 refine Cod.at hok hsym (.sr (.ks 1 r (.nilS [61,60,59,14,12,4,0] r r (.seq (.condP r hd (fun hb671 hd=>?_) fun hb671 hd=>?_)))))
 · refine .skipS [60,59,14,12,4,0] r r (.seq (.block (.sr (.ks 2 r (.nilS [15,60,59,14,12,4,0] r r (.sr (.ks 2 r (.nilS [64,63,15,60,59,14,12,4,0] r r (.block ?_)))))))))
   refine .loop hd (fun (s:(List (List Sum))×Int) c w=>match s with | (s721,s725)=>∃ I_ p722 c723,IH.le I665 I_∧Ok ⟨82,[],none⟩ [(0,.int .i64 a0),(4,.int .i64 a4),(12,.map (some b257)),(14,.slice p722 s721.length c723),(15,.int .i64 s662),(59,.int .i64 a3),(60,.int .i64 s662),(63,.int .i64 a4),(64,.int .i64 s725)] c∧Sym w0 M I I_ [OwnMap kArr2 (slEl eSum) false b257 r255.2,OwnSl (slEl eSum) 58 p722 c723 s721] w) (fun c w ho hs=>⟨I665,_,_,(.refl _),ho.sub ⟨r,r,r,r,r,r,r,r,r,trivial⟩,hs.pick (.c .z (.c .z .n))⟩) ?_
   rintro ⟨s721,s725⟩ next726 hd c w hst
   obtain ⟨I727,p722,c723,hl728,hok,hsym⟩:=hst
   have le729:=IH.le.trans le667 hl728
   have le730:=IH.le.trans le668 hl728
   have le731:=IH.le.trans le669 hl728
   have le732:=IH.le.trans hl666 hl728
   refine Cod.at hok hsym (.sr (.ks 1 r (.nilS [65,64,63,60,59,15,14,12,4,0] r r (.seq (.condP r hd (fun hb734 hd=>?_) fun hb734 hd=>?_)))))
   · refine .skipS [64,63,60,59,15,14,12,4,0] r r (.seq (.block (.sr (.ks 2 r (.nilS [16,64,63,60,59,15,14,12,4,0] r r (.region (.ks 4 r (.buildArr zv86 un86 sz3 (.c r r r (.t .nil) (.c r r r (.s (.t .nil)) .n)) r r (.lookM (k:=(s662,s725)) (El:=(slEl eSum)) (ag:=false) (zv:=.slice none 0 0) (z:=([]:List Sum)) KA86 underlying103 zv58 ⟨[.slice none 0 0],⟨_,_,r,.nil _ _ _⟩,.s⟩ .z r r hd r r fun v738 r735 cs739 hd hr736 hv737=>?_)))))))))
     obtain ⟨p741,c742,rfl,R743⟩:=hr736
     cases hv737
     refine .buildSlice 1 un106 sz58 zv58 r r (.c r r r .n) r r fun b744=>?_
     obtain ⟨hl746,hd⟩:=hd
     refine .append (ys:=[r735]) 24 (.s (.s .z)) un106 un106 IN58 r r r r r r r r r (.box .z (.one ⟨_,_,r,R743⟩) r) hl746 r r fun p747 c748=>?_
     exact .ks 1 r (.nilS [14,64,63,60,59,15,12,4,0] r r (.drop (.s .z) (.region (.ks 2 r (.nil' fun c w ho hs=>⟨((s721++([r735])),w64 (s725+1)),hd,I727,_,_,hl728,ho.sub ⟨r,r,r,r,r,r,r,r,r,trivial⟩,hs.pick (.c (.s .z) (.c .z .n))⟩)))))
   exact .exitS [60,59,14,12,4,0] r r (.region (.ks 2 r (.nil' fun c w ho hs=>⟨(s721,w64 (s662+1)),hd,I727,_,_,le732,ho.sub ⟨r,r,r,r,r,r,trivial⟩,hs.pick (.c .z (.c .z .n))⟩)))
 refine .exitS [14,0] r r (.drop .z (.sr (.ks 2 r (.pub .z fun I750 hl751 R752=>?_))))
 have le753:=IH.le.trans le667 hl751
 have le754:=IH.le.trans le668 hl751
 have le755:=IH.le.trans le669 hl751
 have le756:=IH.le.trans hl666 hl751
 have hw767:=W_push_Merge (I:=I750) R752 hd
 refine .callO call75 r hw767 r r fun v761 I758 l762 hl759 hv760=>?_
 obtain ⟨r757,p763,c764,rfl,rfl,hd⟩:=hv760
 have le768:=IH.le.trans le753 hl759
 have le769:=IH.le.trans le754 hl759
 have le770:=IH.le.trans le755 hl759
 have le771:=IH.le.trans le756 hl759
 replace R752:=R752.mono hl759
 refine .ks 4 r (.nilS [11,10] r r (.pub .z fun I772 hl773 R774=>?_))
 have le775:=IH.le.trans le768 hl773
 have le776:=IH.le.trans le769 hl773
 have le777:=IH.le.trans le770 hl773
 have le778:=IH.le.trans le771 hl773
 exact .ret (pret results27 (.t r (.t r .n)) le775 ⟨(r757.1,r757.2),_,_,r,R774,hd⟩)
theorem W_law18_live {I:IH} {Q:Bool→Prop}  (hd:law18_live Q) :
  PFun prog 10 [] I (fun _=>o1_ Q):=by
 refine Fun.enter func10 r ntmps10 r .n fun w0 M=>?_
 refine .sr (.ks 1 r (.nilS [] r r (.sr (.build zv75 un75 BI75 (.c r r r (.t .nil) (.c r r r (.s (.t .nil)) (.c r r r (.s (.s (.t .nil))) .n))) (by exact ⟨⟨_,_,r,r,r⟩,⟨⟨_,_,r,r,r⟩,⟨⟨_,_,r,r,r⟩,trivial⟩⟩⟩) r r (.buildSlice 1 un24 sz75 zv75 r r (.c r r r .n) r r fun b25=>?_)))))
 refine .pubB (El:=eTriple) (ys:=([({ Row:=4,Col:=1,Val:=7 }:Triple)]:List Triple)) (k:=1) .z (.one r) r fun I27 hl28 R29=>?_
 have hw45:=W_ref07_Of (I:=I27) R29 hd
 refine .call call38 r hw45 r r fun v34 I31 hl32 hv33=>?_
 obtain ⟨r30,p36,c37,p39,c40,p42,c43,rfl,R38,R41,R44,hd⟩:=hv33
 have le46:=IH.le.trans hl28 hl32
 replace R29:=R29.mono hl32
 refine .ks 3 r (.allocA zv34 r r fun b47=>?_)
 refine .storeA sz34 r r .z (.t (.t (.t (.t (.t .nil))))) r r (.ks 1 r (.nilS [1] r r (.sr (.loadW ia34 sz34 r .z r r r ?_))))
 have hw83:=W_block_Cut (I:=I31) R38 R41 R44 hd
 refine .call call12 r hw83 r r fun v72 I69 hl70 hv71=>?_
 obtain ⟨r68,p74,c75,p77,c78,p80,c81,rfl,R76,R79,R82,hd⟩:=hv71
 have le84:=IH.le.trans le46 hl70
 replace R38:=R38.mono hl70
 replace R41:=R41.mono hl70
 replace R44:=R44.mono hl70
 refine .allocA zv34 r r fun b85=>?_
 refine .storeA sz34 r r .z (.t (.t (.t (.t (.t .nil))))) r r (.nilS [3,1] r r (.sr (.build zv72 un72 BI72 (.c r r r (.t .nil) (.c r r r (.s (.t .nil)) .n)) (by exact ⟨⟨_,_,r,r,r⟩,⟨⟨_,_,r,r,r⟩,trivial⟩⟩) r r (.buildSlice 1 un25 sz72 zv72 r r (.c r r r .n) r r fun b92=>?_))))
 refine .ownB (El:=eItem) (ys:=([({ At:=3,Val:=9 }:Item)]:List Item)) .z (.one r) r (.build zv37 un37 BI37 (.c r r r (.t .nil) (.c r r r (.s (.t .nil)) .n)) (by exact ⟨⟨_,_,r,r,r⟩,⟨⟨_,_,r,r,r⟩,trivial⟩⟩) r r (.allocA zv37 r r fun b95=>?_))
 refine .storeA sz37 r r .z (.t (.t .nil)) r r (.nilS [4,3,1] r r (.sr (.loadW ia37 sz37 r .z r r r (.pub (.s .z) fun I114 hl115 R116=>?_))))
 have le117:=IH.le.trans le84 hl115
 replace R38:=R38.mono hl115
 replace R41:=R41.mono hl115
 replace R44:=R44.mono hl115
 replace R76:=R76.mono hl115
 replace R79:=R79.mono hl115
 replace R82:=R82.mono hl115
 have hw127:=W_block_Piece (I:=I114) (a0:=({ N:=5,Items:=([({ At:=3,Val:=9 }:Item)]:List Item) }:Vec)) R116 hd
 refine .call call15 r hw127 r r fun v122 I119 hl120 hv121=>?_
 obtain ⟨r118,p124,c125,rfl,R126,hd⟩:=hv121
 have le128:=IH.le.trans le117 hl120
 replace R38:=R38.mono hl120
 replace R41:=R41.mono hl120
 replace R44:=R44.mono hl120
 replace R76:=R76.mono hl120
 replace R79:=R79.mono hl120
 replace R82:=R82.mono hl120
 replace R116:=R116.mono hl120
 refine .allocA zv37 r r fun b129=>?_
 refine .storeA sz37 r r .z (.t (.t .nil)) r r (.nilS [5,4,3,1] r r (.sr (.loadW ia37 sz37 r .z r r r ?_)))
 have hw153:=W_block_Slice (I:=I119) R126 hd
 refine .call call17 r hw153 r r fun v148 I145 hl146 hv147=>?_
 obtain ⟨r144,p150,c151,rfl,R152,hd⟩:=hv147
 have le154:=IH.le.trans le128 hl146
 replace R38:=R38.mono hl146
 replace R41:=R41.mono hl146
 replace R44:=R44.mono hl146
 replace R76:=R76.mono hl146
 replace R79:=R79.mono hl146
 replace R82:=R82.mono hl146
 replace R116:=R116.mono hl146
 replace R126:=R126.mono hl146
 refine .allocA zv37 r r fun b155=>?_
 refine .storeA sz37 r r .z (.t (.t .nil)) r r (.nilS [6,5,4,3,1] r r (.seq (.dr [0,2,8,1,3,4,5,6,7,999,9] 10 (.g r r r (fun _=>.loadW ia37 sz37 r (.s (.s .z)) r r r .mk) (.g r r r (fun _=>.loadW ia37 sz37 r (.s .z) r r r .mk) (.a (fun b=>.pointer (some ⟨b,0,none⟩)) (fun b=>pto b (.cells #[.int .i64 0,.slice none 0 0] 37 (0,0))) r r r r (fun _ L hL ex=>.allocA zv37 r r fun b=>.mk (val:=fun b=>.pointer (some ⟨b,0,none⟩)) (atom:=fun b=>pto b (.cells #[.int .i64 0,.slice none 0 0] 37 (0,0))) hL b) (.ww r fun ex=>?_)))))))
 have hw197:=W_block_Piece (I:=I145) (a0:=({ N:=5,Items:=([({ At:=3,Val:=9 }:Item)]:List Item) }:Vec)) R116 hd
 refine .call call15 r hw197 r r fun v192 I189 hl190 hv191=>?_
 obtain ⟨r188,p194,c195,rfl,R196,hd⟩:=hv191
 have le198:=IH.le.trans le154 hl190
 replace R38:=R38.mono hl190
 replace R41:=R41.mono hl190
 replace R44:=R44.mono hl190
 replace R76:=R76.mono hl190
 replace R79:=R79.mono hl190
 replace R82:=R82.mono hl190
 replace R116:=R116.mono hl190
 replace R126:=R126.mono hl190
 replace R152:=R152.mono hl190
 refine .so 5 r r r (.cg r r r r (fun _=>.loadW ia37 sz37 r (.s .z) r r r .mk) trivial) (.ww r fun ex=>?_)
 refine .buildSlice 2 un47 sz37 zv37 r r (.c r r r (.c r r r .n)) r r fun b199=>?_
 refine .so 6 r r r trivial (.ww r fun ex=>?_)
 refine .pubB (El:=eVec) (ys:=([r188,r118]:List Vec)) (k:=2) .z (RepCs.cons (cs:=[.int .i64 r188.N,.slice p194 r188.Items.length c195]) ⟨_,_,r,R196⟩ (RepCs.cons (cs:=[.int .i64 r118.N,.slice p124 r118.Items.length c125]) ⟨_,_,r,R126⟩ .nil)) r fun I201 hl202 R203=>?_
 have le204:=IH.le.trans le198 hl202
 replace R38:=R38.mono hl202
 replace R41:=R41.mono hl202
 replace R44:=R44.mono hl202
 replace R76:=R76.mono hl202
 replace R79:=R79.mono hl202
 replace R82:=R82.mono hl202
 replace R116:=R116.mono hl202
 replace R126:=R126.mono hl202
 replace R152:=R152.mono hl202
 replace R196:=R196.mono hl202
 have hw214:=W_block_Glue (I:=I201) R203 hd
 refine .call call22 r hw214 r r fun v209 I206 hl207 hv208=>?_
 obtain ⟨r205,p211,c212,rfl,R213,hd⟩:=hv208
 have le215:=IH.le.trans le204 hl207
 replace R38:=R38.mono hl207
 replace R41:=R41.mono hl207
 replace R44:=R44.mono hl207
 replace R76:=R76.mono hl207
 replace R79:=R79.mono hl207
 replace R82:=R82.mono hl207
 replace R116:=R116.mono hl207
 replace R126:=R126.mono hl207
 replace R152:=R152.mono hl207
 replace R196:=R196.mono hl207
 replace R203:=R203.mono hl207
 refine .so 5 r r r trivial (.fk 3 r (.b r fun b216=>DrawD.nop (.ww r fun ex=>?_)))
 refine .storeA sz37 r r (.s (.s (.s (.s (.s .z))))) (.t (.t .nil)) r r (.sn 6 r r r (.ck 1 r r trivial) (.e2 10 (.ks 1 r (.nilS [8,7,6,5,4,3,1] r r (.sr ?_)))))
 have hw251:=W_block_Join (I:=I206) (.nil _ none 0) hd
 refine .call call20 r hw251 r r fun v240 I237 hl238 hv239=>?_
 obtain ⟨r236,p242,c243,p245,c246,p248,c249,rfl,R244,R247,R250,hd⟩:=hv239
 have le252:=IH.le.trans le215 hl238
 replace R38:=R38.mono hl238
 replace R41:=R41.mono hl238
 replace R44:=R44.mono hl238
 replace R76:=R76.mono hl238
 replace R79:=R79.mono hl238
 replace R82:=R82.mono hl238
 replace R116:=R116.mono hl238
 replace R126:=R126.mono hl238
 replace R152:=R152.mono hl238
 replace R213:=R213.mono hl238
 refine .ks 3 r (.allocA zv34 r r fun b253=>?_)
 refine .storeA sz34 r r .z (.t (.t (.t (.t (.t .nil))))) r r (.ks 1 r (.nilS [10,8,7,6,5,4,3,1] r r (.drop .z (.sr ?_))))
 have hw277:=W_block_Fit (I:=I237) (.nil _ none 0) hd
 refine .call call24 r hw277 r r fun v272 I269 hl270 hv271=>?_
 obtain ⟨r268,p274,c275,rfl,R276,hd⟩:=hv271
 have le278:=IH.le.trans le252 hl270
 replace R38:=R38.mono hl270
 replace R41:=R41.mono hl270
 replace R44:=R44.mono hl270
 replace R76:=R76.mono hl270
 replace R79:=R79.mono hl270
 replace R82:=R82.mono hl270
 replace R116:=R116.mono hl270
 replace R126:=R126.mono hl270
 replace R152:=R152.mono hl270
 replace R213:=R213.mono hl270
 refine .ks 3 r (.allocA zv37 r r fun b279=>?_)
 refine .storeA sz37 r r .z (.t (.t .nil)) r r (.ks 1 r (.nilS [12,10,8,7,6,5,4,3,1] r r (.drop .z (.sr (.loadW ia34 sz34 r (.s (.s (.s (.s .z)))) r r r (.build zv72 un72 BI72 (.c r r r (.t .nil) (.c r r r (.s (.t .nil)) .n)) (by exact ⟨⟨_,_,r,r,r⟩,⟨⟨_,_,r,r,r⟩,trivial⟩⟩) r r (.buildSlice 1 un25 sz72 zv72 r r (.c r r r .n) r r fun b299=>?_)))))))
 refine .ownB (El:=eItem) (ys:=([({ At:=1,Val:=3 }:Item)]:List Item)) .z (.one r) r (.build zv37 un37 BI37 (.c r r r (.t .nil) (.c r r r (.s (.t .nil)) .n)) (by exact ⟨⟨_,_,r,r,r⟩,⟨⟨_,_,r,r,r⟩,trivial⟩⟩) r r (.pub .z fun I302 hl303 R304=>?_))
 have le305:=IH.le.trans le278 hl303
 replace R38:=R38.mono hl303
 replace R41:=R41.mono hl303
 replace R44:=R44.mono hl303
 replace R76:=R76.mono hl303
 replace R79:=R79.mono hl303
 replace R82:=R82.mono hl303
 replace R116:=R116.mono hl303
 replace R126:=R126.mono hl303
 replace R152:=R152.mono hl303
 replace R213:=R213.mono hl303
 have hw315:=W_block_Times (I:=I302) (a2:=({ N:=5,Items:=([({ At:=1,Val:=3 }:Item)]:List Item) }:Vec)) R38 R41 R44 R304 hd
 refine .call call27 r hw315 r r fun v310 I307 hl308 hv309=>?_
 obtain ⟨r306,p312,c313,rfl,R314,hd⟩:=hv309
 have le316:=IH.le.trans le305 hl308
 replace R38:=R38.mono hl308
 replace R41:=R41.mono hl308
 replace R44:=R44.mono hl308
 replace R76:=R76.mono hl308
 replace R79:=R79.mono hl308
 replace R82:=R82.mono hl308
 replace R116:=R116.mono hl308
 replace R126:=R126.mono hl308
 replace R152:=R152.mono hl308
 replace R213:=R213.mono hl308
 replace R304:=R304.mono hl308
 refine .ks 5 r (.nilS [14,13,12,10,8,7,6,5,4,3] r r (.drop (.s (.s (.s (.s .z)))) (.sr (.fa un34 r sz3 r (o:=0) r r r (.load1 ia3 r (.s (.s (.s .z))) r r r (.ks 2 r ?_))))))
 refine splitP hd (fun hb317 hd=>?_) fun hb317 hd=>?_
 · rw [hb317]
   refine .gyes r r r (.fa un34 r sz3 r (o:=1) r r r (.gyes r r r (.load1 ia3 r (.s (.s (.s .z))) r r r (.ks 3 r ?_))))
   refine splitP hd (fun hb318 hd=>?_) fun hb318 hd=>?_
   · rw [hb318]
     refine .gyes r r r (.fa un34 r sz32 r (o:=4) r r r (.gyes r r r (.load1 ia32 r (.s (.s (.s .z))) r r r (.gyes r r r (.len un32 r r r r (.ks 3 r ?_))))))
     refine splitP hd (fun hb319 hd=>?_) fun hb319 hd=>?_
     · rw [hb319]
       refine .gyes r r r (.fa un37 r sz3 r (o:=0) r r r (.gyes r r r (.load1 ia3 r (.s .z) r r r (.ks 3 r ?_))))
       refine splitP hd (fun hb320 hd=>?_) fun hb320 hd=>?_
       · rw [hb320]
         refine .gyes r r r (.fa un37 r sz3 r (o:=0) r r r (.gyes r r r (.load1 ia3 r .z r r r (.ks 3 r ?_))))
         refine splitP hd (fun hb321 hd=>?_) fun hb321 hd=>?_
         · rw [hb321]
           refine .gyes r r r (.fa un37 r sz25 r (o:=1) r r r (.gyes r r r (.load1 ia25 r .z r r r (.gyes r r r (.len un25 r r r r (.ks 3 r ?_))))))
           refine splitP hd (fun hb322 hd=>?_) fun hb322 hd=>?_
           · rw [hb322]
             refine .ks 4 r ?_
             refine splitP hd (fun hb323 hd=>?_) fun hb323 hd=>?_
             · rw [hb323]
               refine .gyes r r r (.loadW ia37 sz37 r (.s (.s (.s (.s .z)))) r r r (.gyes r r r (.loadW ia37 sz37 r (.s (.s .z)) r r r ?_)))
               have hw325:=W_ref09_Same (I:=I307) (a1:=({ N:=5,Items:=([({ At:=3,Val:=9 }:Item)]:List Item) }:Vec)) R213 R116 hd
               refine .gyes r r r (.callP call14 r hw325 r r fun v326 hv327=>?_)
               obtain ⟨r324,rfl,hd⟩:=hv327
               refine .ks 2 r ?_
               refine splitP hd (fun hb328 hd=>?_) fun hb328 hd=>?_
               · rw [hb328]
                 refine .ks 4 r ?_
                 refine splitP hd (fun hb329 hd=>?_) fun hb329 hd=>?_
                 · rw [hb329]
                   refine .ks 4 r ?_
                   refine splitP hd (fun hb330 hd=>?_) fun hb330 hd=>?_
                   · rw [hb330]
                     refine .ks 4 r ?_
                     refine splitP hd (fun hb331 hd=>?_) fun hb331 hd=>?_
                     · rw [hb331]
                       refine .ks 1 r (.gyes r r r (.len un58 r r r r (.ks 3 r ?_)))
                       refine splitP hd (fun hb332 hd=>?_) fun hb332 hd=>?_
                       · rw [hb332]
                         refine .ks 1 r ?_
                         obtain ⟨h333,x334,hx335,hd⟩:=hd
                         obtain ⟨b336,o337,cs338,e339,hC340,hr341⟩:=R314.2 _ _ hx335
                         cases hr341
                         refine .gyes r r r (.ixa un58 sz80 r e339 r h333 (idx_lt hx335 h333) r r (.gyes r r r (.ldW isAgg80 sz80 hC340 r r r r (.gyes r r r (.build zv78 un78 BI78 (.c r r r (.s (.t .nil)) .n) (by exact ⟨⟨_,_,r,r,r⟩,trivial⟩) r r (.gyes r r r (.build zv80 un80 BI80 (.c r r r (.t .nil) (.c r r r (.s (.t (.t .nil))) .n)) (by exact ⟨⟨_,_,r,r,r⟩,⟨⟨_,_,r,r,r⟩,trivial⟩⟩) r r (.gyes r r r (.eqV r r (EQ80 x334 ({ At:=4,Val:=({ Hi:=0,Lo:=3 }:Wide) }:Sum)) (EG80 _ _ _ _ _) r r r (.ks 2 r (.nilS [0] r r (.drop .z (.drop .z (.drop .z ?_))))))))))))))
                         exact .drop .z (.drop .z (.ret (pret results10 (.t r .n) le316 ⟨(x334==({ At:=4,Val:=({ Hi:=0,Lo:=3 }:Wide) }:Sum)),r,hd⟩)))
                       rw [hb332]
                       exact .ks 8 r (.nilS [0] r r (.drop .z (.drop .z (.drop .z (.drop .z (.drop .z (.ret (pret results10 (.t r .n) le316 ⟨false,r,hd⟩))))))))
                     rw [hb331]
                     exact .ks 13 r (.nilS [0] r r (.drop .z (.drop .z (.drop .z (.drop .z (.drop .z (.ret (pret results10 (.t r .n) le316 ⟨false,r,hd⟩))))))))
                   rw [hb330]
                   exact .ks 17 r (.nilS [0] r r (.drop .z (.drop .z (.drop .z (.drop .z (.drop .z (.ret (pret results10 (.t r .n) le316 ⟨false,r,hd⟩))))))))
                 rw [hb329]
                 exact .ks 21 r (.nilS [0] r r (.drop .z (.drop .z (.drop .z (.drop .z (.drop .z (.ret (pret results10 (.t r .n) le316 ⟨false,r,hd⟩))))))))
               rw [hb328]
               exact .ks 25 r (.nilS [0] r r (.drop .z (.drop .z (.drop .z (.drop .z (.drop .z (.ret (pret results10 (.t r .n) le316 ⟨false,r,hd⟩))))))))
             rw [hb323]
             exact .ks 30 r (.nilS [0] r r (.drop .z (.drop .z (.drop .z (.drop .z (.drop .z (.ret (pret results10 (.t r .n) le316 ⟨false,r,hd⟩))))))))
           rw [hb322]
           exact .ks 34 r (.nilS [0] r r (.drop .z (.drop .z (.drop .z (.drop .z (.drop .z (.ret (pret results10 (.t r .n) le316 ⟨false,r,hd⟩))))))))
         rw [hb321]
         exact .ks 40 r (.nilS [0] r r (.drop .z (.drop .z (.drop .z (.drop .z (.drop .z (.ret (pret results10 (.t r .n) le316 ⟨false,r,hd⟩))))))))
       rw [hb320]
       exact .ks 45 r (.nilS [0] r r (.drop .z (.drop .z (.drop .z (.drop .z (.drop .z (.ret (pret results10 (.t r .n) le316 ⟨false,r,hd⟩))))))))
     rw [hb319]
     exact .ks 50 r (.nilS [0] r r (.drop .z (.drop .z (.drop .z (.drop .z (.drop .z (.ret (pret results10 (.t r .n) le316 ⟨false,r,hd⟩))))))))
   rw [hb318]
   exact .ks 56 r (.nilS [0] r r (.drop .z (.drop .z (.drop .z (.drop .z (.drop .z (.ret (pret results10 (.t r .n) le316 ⟨false,r,hd⟩))))))))
 rw [hb317]
 exact .ks 61 r (.nilS [0] r r (.drop .z (.drop .z (.drop .z (.drop .z (.drop .z (.ret (pret results10 (.t r .n) le316 ⟨false,r,hd⟩))))))))
end Go.Proofs.YtpackolbhcmomaaGreat
