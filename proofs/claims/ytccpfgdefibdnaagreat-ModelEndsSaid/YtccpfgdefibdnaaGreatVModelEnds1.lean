/- The walks (printed by a program of ours). -/
import Derived.Test.YtccpfgdefibdnaaGreatV2
namespace Go.Proofs.YtccpfgdefibdnaaGreat
open Go Go.Fw
set_option linter.unusedVariables false
set_option linter.unusedSimpArgs false
set_option maxRecDepth 8000
set_option maxHeartbeats 1000000
open Tryz
theorem W_law21_Within {I:IH} {a0:Int} {a1:Int} {Q:Int→Prop}  (hd:law21_Within a0 a1 Q) :
  PFun prog 20 [.int .i64 a0,.int .i64 a1] I (fun _=>o0_ Q):=by
 refine Fun.enter func20 r ntmps20 r (.c (.c .n)) fun w0 M=>?_
 refine .sr (.ks 1 r (.nilS [1,0] r r (.seq (.sr (.ks 3 r ?_)))))
 refine splitP hd (fun a hd=>?_) fun a hd=>?_
 · rw [a]
   exact .ks 3 r (.nilS [10,1,0] r r (.condKT r r (.sr (.ks 1 r (.nilS [4] r r (.ret (pret results20 (.t r .n) (.refl _) ⟨0,r,hd⟩)))))))
 rw [a]
 refine .ks 3 r (.nilS [10,1,0] r r (.condP r hd (fun b hd=>?_) fun b hd=>?_))
 · exact .sr (.ks 1 r (.nilS [4] r r (.ret (pret results20 (.t r .n) (.refl _) ⟨0,r,hd⟩))))
 refine .skipS [1,0] r r (.sr (.ks 2 r ?_))
 obtain ⟨d,hd⟩:=hd
 exact .rem r r d r r (.ks 1 r (.nilS [4] r r (.ret (pret results20 (.t r .n) (.refl _) ⟨(a0.tmod a1),r,hd⟩))))
theorem W_law21_Graph {I:IH} {a0:Graph} {p1:Option Addr} {c2:Nat} {Q:Graph→Prop} (R3:RepSl eEdge I p1 c2 a0.Edges) (hd:law21_Graph a0 Q) :
  PFun prog 21 [.agg #[.int .i64 a0.N,.slice p1 a0.Edges.length c2]] I (o1_ Q):=by
 refine Fun.enter func21 r ntmps21 r (.c .n) fun w0 M=>?_
 refine .sr (.boxA r r r fun O=>?_)
 refine .allocA zv28 r r fun P=>?_
 refine .nilS [2,1] r r (.sr (.fa un28 r sz3 r (o:=0) r r r (.load1 ia3 r (.s .z) r r r ?_)))
 have S:=W_law21_Within (I:=I) hd
 refine .callP call20 r S r r fun b2 T=>?_
 obtain ⟨k,rfl,hd⟩:=T
 refine .build zv28 un28 BI28 (.c r r r (.t .nil) .n) (by exact ⟨⟨_,_,r,r,r⟩,trivial⟩) r r (.allocA zv28 r r fun R=>?_)
 refine .storeA sz28 r r .z (.t (.t .nil)) r r (.nilS [3,2,1] r r (.seq (.sr (.ks 1 r (.nilS [4,3,2,1] r r (.block (.own0 eEdge 70 (.loop hd (fun (s:(List Edge)×Int) c w=>match s with | (a,f)=>∃ I_ h i,IH.le I I_∧Ok ⟨51,[],none⟩ [(1,.pointer (some ⟨O,0,none⟩)),(2,.pointer (some ⟨P,0,none⟩)),(3,.pointer (some ⟨R,0,none⟩)),(4,.int .i64 f)] c∧Sym w0 M I I_ [pto O (.cells #[.int .i64 a0.N,.slice p1 a0.Edges.length c2] 28 (0,0)),pto P (.cells #[.int .i64 0,.slice none 0 0] 28 (0,0)),pto R (.cells #[.int .i64 k,.slice h a.length i] 28 (0,0)),OwnSl eEdge 70 h i a] w) (fun c w ho hs=>⟨I,_,_,(.refl _),ho.sub ⟨r,r,r,r,trivial⟩,hs.pick (.c (.s (.s (.s .z))) (.c (.s (.s .z)) (.c (.s .z) (.c .z .n))))⟩) ?_))))))))
 rintro ⟨a,f⟩ Z hd c w hst
 obtain ⟨j,h,i,b,hok,hsym⟩:=hst
 replace R3:=R3.mono b
 refine Cod.at hok hsym (.seq (.sr (.ks 1 r (.fa un28 r sz26 r (o:=1) r r r (.load1 ia26 r .z r r r (.len un26 r r r r (.ks 2 r ?_)))))))
 refine splitP hd (fun d hd=>?_) fun d hd=>?_
 · rw [d]
   refine .ks 4 r ?_
   refine splitP hd (fun e hd=>?_) fun e hd=>?_
   · rw [e]
     refine .gyes r r r (.fa un28 r sz3 r (o:=0) r r r (.gyes r r r (.load1 ia3 r (.s (.s .z)) r r r (.ks 2 r (.nilS [23,4,3,2,1] r r (.condP r hd (fun v hd=>?_) fun v hd=>?_))))))
     · refine .skipS [4,3,2,1] r r (.seq (.block (.sr (.fa un28 r sz26 r (o:=1) r r r (.load1 ia26 r .z r r r (.ks 1 r ?_))))))
       obtain ⟨m,p,l,hd⟩:=hd
       obtain ⟨a2,o155,a1,U,x,y⟩:=R3.2 _ _ l
       cases y
       refine .ixa un26 sz70 r U r m (idx_lt l m) r r (.ldW ia70 sz70 x r r r r (.allocA zv70 r r fun a3=>?_))
       refine .storeA sz70 r r .z (.t (.t (.t .nil))) r r (.nilS [5,4,3,2,1] r r (.dr [0,1,2,3,4,5,7,8,9,10,12,13,14,6,11,15,16,17] 18 (.g r r r (fun _=>.fa un28 r sz26 r (o:=1) r r r .mk) (.g r r r (fun _=>.load1 ia26 r (.s (.s (.s .z))) r r r .mk) (.g r r r (fun _=>.fa un70 r sz3 r (o:=0) r r r .mk) (.g r r r (fun _=>.load1 ia3 r .z r r r .mk) (.g r r r (fun _=>.fa un28 r sz3 r (o:=0) r r r .mk) (.g r r r (fun _=>.load1 ia3 r (.s (.s (.s .z))) r r r .mk) (.g r r r (fun _=>.fa un70 r sz3 r (o:=1) r r r .mk) ?_)))))))))
       refine .g r r r (fun _=>.load1 ia3 r .z r r r .mk) (.g r r r (fun _=>.fa un28 r sz3 r (o:=0) r r r .mk) (.g r r r (fun _=>.load1 ia3 r (.s (.s (.s .z))) r r r .mk) (.g r r r (fun _=>.fa un70 r sz2 r (o:=2) r r r .mk) (.g r r r (fun _=>.load1 ia2 r .z r r r .mk) (.fk 1 r (.ww r fun ex=>?_))))))
       have A:=W_law21_Within (I:=j) hd
       refine .callP call20 r A r r fun a4 B=>?_
       obtain ⟨q,rfl,hd⟩:=B
       refine .so 5 r r r (.ck 1 r r (.cg r r r r (fun _=>.load1 ia2 r .z r r r .mk) (.cg r r r r (fun _=>.fa un70 r sz2 r (o:=2) r r r .mk) (.cg r r r r (fun _=>.load1 ia3 r (.s (.s (.s .z))) r r r .mk) (.cg r r r r (fun _=>.fa un28 r sz3 r (o:=0) r r r .mk) (.cg r r r r (fun _=>.load1 ia3 r .z r r r .mk) (.cg r r r r (fun _=>.fa un70 r sz3 r (o:=1) r r r .mk) (.cg r r r r (fun _=>.load1 ia26 r (.s (.s (.s .z))) r r r .mk) (.cg r r r r (fun _=>.fa un28 r sz26 r (o:=1) r r r .mk) trivial))))))))) (.ww r fun ex=>?_)
       have C:=W_law21_Within (I:=j) hd
       refine .callP call20 r C r r fun a5 D=>?_
       obtain ⟨u,rfl,hd⟩:=D
       refine .so 5 r r r (.ck 1 r r (.cg r r r r (fun _=>.load1 ia2 r .z r r r .mk) (.cg r r r r (fun _=>.fa un70 r sz2 r (o:=2) r r r .mk) (.cg r r r r (fun _=>.load1 ia26 r (.s (.s (.s .z))) r r r .mk) (.cg r r r r (fun _=>.fa un28 r sz26 r (o:=1) r r r .mk) trivial))))) (.g r r r (fun _=>.build zv70 un70 BI70 (.c r r r (.t .nil) (.c r r r (.s (.t .nil)) (.c r r r (.s (.s (.t .nil))) .n))) (by exact ⟨⟨_,_,r,r,r⟩,⟨⟨_,_,r,r,r⟩,⟨⟨_,_,r,r,r⟩,trivial⟩⟩⟩) r r .mk) (.ww r fun ex=>?_))
       refine .buildSlice 1 un26 sz70 zv70 r r (.c r r r .n) r r fun a6=>?_
       refine .so 6 r r r (.cg r r r r (fun _=>.load1 ia26 r (.s (.s (.s (.s .z)))) r r r .mk) (.cg r r r r (fun _=>.fa un28 r sz26 r (o:=1) r r r .mk) trivial)) (.ww r fun ex=>?_)
       obtain ⟨E,hd⟩:=hd
       refine .append (ys:=[({ From:=q,To:=u,W:=bnd .i64 p.W 2147483647 }:Edge)]) 24 (.s (.s (.s (.s (.s .z))))) un26 un26 IN70 r r r r r r r r r (.box .z (.one r) r) E r r fun a7 a8=>?_
       exact .so 6 r r r trivial (.e2 18 (.fa un28 r sz26 r (o:=1) r r r (.store1 sz26 r r (.s (.s (.s (.s (.s .z))))) (.s (.t .nil)) r (.nilS [4,3,2,1] r r (.drop (.s .z) (.drop (.s .z) (.region (.ks 3 r (.nil' fun c w ho hs=>⟨((a++([({ From:=q,To:=u,W:=bnd .i64 p.W 2147483647 }:Edge)])),w64 (f+1)),hd,j,_,_,b,ho.sub ⟨r,r,r,r,trivial⟩,hs.pick (.c (.s .z) (.c (.s .z) (.c (.s .z) (.c .z .n))))⟩)))))))))
     refine .exitS [3,2] r r (.drop .z (.sr (.loadW ia28 sz28 r (.s .z) r r r (.storeA sz28 r r .z (.t (.t .nil)) r r (.nilS [2] r r (.drop (.s .z) (.pub (.s .z) fun a9 F V=>?_)))))))
     have G:=IH.le.trans b F
     exact .ret (pret results21 (.w ia28 sz28 r .z r .n) G ⟨({ N:=k,Edges:=a }:Graph),_,_,r,V,hd⟩)
   rw [e]
   refine .ks 4 r (.nilS [23,4,3,2,1] r r (.condKF r r (.exitS [3,2] r r (.drop .z (.sr (.loadW ia28 sz28 r (.s .z) r r r (.storeA sz28 r r .z (.t (.t .nil)) r r (.nilS [2] r r (.drop (.s .z) ?_)))))))))
   refine .pub (.s .z) fun b0 H X=>?_
   have J:=IH.le.trans b H
   exact .ret (pret results21 (.w ia28 sz28 r .z r .n) J ⟨({ N:=k,Edges:=a }:Graph),_,_,r,X,hd⟩)
 rw [d]
 refine .ks 8 r (.nilS [23,4,3,2,1] r r (.condKF r r (.exitS [3,2] r r (.drop .z (.sr (.loadW ia28 sz28 r (.s .z) r r r (.storeA sz28 r r .z (.t (.t .nil)) r r (.nilS [2] r r (.drop (.s .z) ?_)))))))))
 refine .pub (.s .z) fun b1 K Y=>?_
 have L:=IH.le.trans b K
 exact .ret (pret results21 (.w ia28 sz28 r .z r .n) L ⟨({ N:=k,Edges:=a }:Graph),_,_,r,Y,hd⟩)
theorem W_law21_Plan {I:IH} {a0:Plan} {a1:Int} {p1:Option Addr} {c2:Nat} {Q:Plan→Prop} (R3:RepSl eI64 I p1 c2 a0.Draws) (hd:law21_Plan a0 a1 Q) :
  PFun prog 22 [.agg #[.int .i64 a0.Kind,.int .i64 a0.N,.int .i64 a0.Source,.int .i64 a0.Length,.slice p1 a0.Draws.length c2],.int .i64 a1] I (fun I_ v=>∃ r p4 c5,v=.agg #[.int .i64 r.Kind,.int .i64 r.N,.int .i64 r.Source,.int .i64 r.Length,.slice p4 r.Draws.length c5]∧RepSl eI64 I_ p4 c5 r.Draws∧Q r):=by
 refine Fun.enter func22 r ntmps22 r (.c (.c .n)) fun w0 M=>?_
 refine .sr (.boxA r r r fun f=>?_)
 refine .allocA zv25 r r fun g=>?_
 refine .nilS [4,2,1] r r (.seq ?_)
 refine Cod.joinQ (σ:=Int) hd (fun (h:Int) c w=>∃ I_,IH.le I I_∧Ok ⟨58,[],none⟩ [(1,.int .i64 a1),(2,.pointer (some ⟨f,0,none⟩)),(4,.pointer (some ⟨g,0,none⟩))] c∧Sym w0 M I I_ [pto f (.cells #[.int .i64 h,.int .i64 a0.N,.int .i64 a0.Source,.int .i64 a0.Length,.slice p1 a0.Draws.length c2] 25 (0,0)),pto g (.cells #[.int .i64 0,.int .i64 0,.int .i64 0,.int .i64 0,.slice none 0 0] 25 (0,0))] w) (fun c4 hd=>?_) ?_
 · skip
   refine .sr (.fa un25 r sz22 r (o:=0) r r r (.load1 ia22 r (.s .z) r r r (.ks 2 r ?_)))
   refine splitP hd (fun u hd=>?_) fun u hd=>?_
   · rw [u]
     exact .ks 4 r (.nilS [14,4,2,1] r r (.condKT r r (.region (.fa un25 r sz22 r (o:=0) r r r (.store1 sz22 r r (.s .z) (.t .nil) r (.nil' fun c w ho hs=>⟨3,hd,I,(.refl _),ho.sub ⟨r,r,r,trivial⟩,hs.pick (.c (.s .z) (.c .z .n))⟩))))))
   rw [u]
   refine .gyes r r r (.fa un25 r sz22 r (o:=0) r r r (.gyes r r r (.load1 ia22 r (.s .z) r r r (.ks 2 r (.nilS [14,4,2,1] r r (.condP r hd (fun X hd=>?_) fun X hd=>?_))))))
   · exact .region (.fa un25 r sz22 r (o:=0) r r r (.store1 sz22 r r (.s .z) (.t .nil) r (.nil' fun c w ho hs=>⟨3,hd,I,(.refl _),ho.sub ⟨r,r,r,trivial⟩,hs.pick (.c (.s .z) (.c .z .n))⟩)))
   exact .skip' fun c w ho hs=>⟨a0.Kind,hd,I,(.refl _),ho.sub ⟨r,r,r,trivial⟩,hs.pick (.c (.s .z) (.c .z .n))⟩
 rintro h hd c w hst
 obtain ⟨m,x,hok,hsym⟩:=hst
 replace R3:=R3.mono x
 refine Cod.at hok hsym (.sr (.ks 1 r (.fa un25 r sz3 r (o:=1) r r r (.store1 sz3 r r .z (.s (.t .nil)) r (.nilS [4,2,1] r r (.sr (.fa un25 r sz3 r (o:=2) r r r (.load1 ia3 r .z r r r (.ks 1 r ?_)))))))))
 have Y:=W_law21_Within (I:=m) hd
 refine .callP call20 r Y r r fun c6 Z=>?_
 obtain ⟨p,rfl,hd⟩:=Z
 refine .fa un25 r sz3 r (o:=2) r r r (.store1 sz3 r r .z (.s (.s (.t .nil))) r (.nilS [4,2,1] r r (.sr (.fa un25 r sz3 r (o:=3) r r r (.load1 ia3 r .z r r r ?_)))))
 have a2:=W_law21_Within (I:=m) hd
 refine .callP call20 r a2 r r fun c7 a3=>?_
 obtain ⟨q,rfl,hd⟩:=a3
 refine .fa un25 r sz3 r (o:=3) r r r (.store1 sz3 r r .z (.s (.s (.s (.t .nil)))) r (.nilS [4,2,1] r r (.sr (.ks 1 r (.nilS [5,4,2,1] r r (.seq ?_))))))
 refine Cod.joinQ (σ:=(List Int)) hd (fun (d:(List Int)) c w=>∃ I_ y A,IH.le m I_∧Ok ⟨58,[],none⟩ [(1,.int .i64 a1),(2,.pointer (some ⟨f,0,none⟩)),(4,.pointer (some ⟨g,0,none⟩)),(5,.slice y d.length A)] c∧Sym w0 M I I_ [pto f (.cells #[.int .i64 h,.int .i64 a1,.int .i64 p,.int .i64 q,.slice p1 a0.Draws.length c2] 25 (0,0)),pto g (.cells #[.int .i64 0,.int .i64 0,.int .i64 0,.int .i64 0,.slice none 0 0] 25 (0,0)),OwnSl eI64 2 y A d] w) (fun b4 hd=>?_) ?_
 · skip
   refine .sr (.ks 1 r (.nilS [6,5,4,2,1] r r (.block (.own0 eI64 2 (.loop hd (fun (s:(List Int)×Int) c w=>match s with | (e,B)=>∃ I_ C D,IH.le m I_∧Ok ⟨58,[],none⟩ [(1,.int .i64 a1),(2,.pointer (some ⟨f,0,none⟩)),(4,.pointer (some ⟨g,0,none⟩)),(5,.slice C e.length D),(6,.int .i64 B)] c∧Sym w0 M I I_ [pto f (.cells #[.int .i64 h,.int .i64 a1,.int .i64 p,.int .i64 q,.slice p1 a0.Draws.length c2] 25 (0,0)),pto g (.cells #[.int .i64 0,.int .i64 0,.int .i64 0,.int .i64 0,.slice none 0 0] 25 (0,0)),OwnSl eI64 2 C D e] w) (fun c w ho hs=>⟨m,_,_,(.refl _),ho.sub ⟨r,r,r,r,r,trivial⟩,hs.pick (.c (.s .z) (.c (.s .z) (.c .z .n)))⟩) ?_)))))
   rintro ⟨e,B⟩ a8 hd c w hst
   obtain ⟨E,C,D,a,hok,hsym⟩:=hst
   have a9:=IH.le.trans x a
   replace R3:=R3.mono a
   refine Cod.at hok hsym (.seq (.sr (.ks 1 r (.fa un25 r sz23 r (o:=4) r r r (.load1 ia23 r .z r r r (.len un23 r r r r (.ks 2 r ?_)))))))
   refine splitP hd (fun i hd=>?_) fun i hd=>?_
   · rw [i]
     refine .ks 3 r (.nilS [35,6,5,4,2,1] r r (.condP r hd (fun O hd=>?_) fun O hd=>?_))
     · refine .skipS [6,5,4,2,1] r r (.seq (.block (.region (.ks 1 r (.fa un25 r sz23 r (o:=4) r r r (.load1 ia23 r .z r r r (.ks 1 r ?_)))))))
       obtain ⟨K,L,F,hd⟩:=hd
       obtain ⟨b5,o278,b0,a4,P,R⟩:=R3.2 _ _ F
       cases R
       refine .ixa un23 sz2 r a4 r K (idx_lt F K) r r (.ld1 (j:=0) ia2 P r r r r r (.ks 1 r (.buildSlice 1 un23 sz2 zv2 r r (.c r r r .n) r r fun b6=>?_)))
       obtain ⟨S,hd⟩:=hd
       refine .append (ys:=[bnd .i64 L 2147483647]) 8 (.s (.s (.s .z))) un23 un23 IN2 r r r r r r r r r (.box .z (.one r) r) S r r fun b7 b8=>?_
       exact .ks 1 r (.nilS [5,6,4,2,1] r r (.drop (.s .z) (.region (.ks 3 r (.nil' fun c w ho hs=>⟨((e++([bnd .i64 L 2147483647])),w64 (B+1)),hd,E,_,_,a,ho.sub ⟨r,r,r,r,r,trivial⟩,hs.pick (.c (.s .z) (.c (.s .z) (.c .z .n)))⟩)))))
     exact .exit fun c w ho hs=>⟨e,hd,E,_,_,a,ho.sub ⟨r,r,r,r,trivial⟩,hs.pick (.c .z (.c .z (.c .z .n)))⟩
   rw [i]
   exact .ks 3 r (.nilS [35,6,5,4,2,1] r r (.condKF r r (.exit fun c w ho hs=>⟨e,hd,E,_,_,a,ho.sub ⟨r,r,r,r,trivial⟩,hs.pick (.c .z (.c .z (.c .z .n)))⟩)))
 rintro d hd c w hst
 obtain ⟨b9,y,A,b,hok,hsym⟩:=hst
 have k:=IH.le.trans x b
 replace R3:=R3.mono b
 refine Cod.at hok hsym (.sr (.ks 1 r (.fa un25 r sz23 r (o:=4) r r r (.store1 sz23 r r .z (.s (.s (.s (.s (.t .nil))))) r (.nilS [4,2,1] r r (.seq (.sr (.ks 3 r ?_))))))))
 refine splitP hd (fun l hd=>?_) fun l hd=>?_
 · rw [l]
   refine .gyes r r r (.fa un25 r sz22 r (o:=0) r r r (.gyes r r r (.load1 ia22 r .z r r r (.ks 2 r (.nilS [55,4,2] r r (.condP r hd (fun T hd=>?_) fun T hd=>?_))))))
   · refine .region (.fa un25 r sz22 r (o:=0) r r r (.store1 sz22 r r .z (.t .nil) r (.nilS [4,2] r r (.sr (.loadW ia25 sz25 r .z r r r (.storeA sz25 r r (.s .z) (.t (.t (.t (.t (.t .nil))))) r r (.nilS [4] r r (.drop .z (.pub (.s .z) fun c0 G a5=>?_)))))))))
     have U:=IH.le.trans k G
     have b1:=IH.le.trans b G
     exact .ret (pret results22 (.w ia25 sz25 r .z r .n) U ⟨({ Kind:=3,N:=a1,Source:=p,Length:=q,Draws:=d }:Plan),_,_,r,a5,hd⟩)
   refine .skipS [4,2] r r (.sr (.loadW ia25 sz25 r .z r r r (.storeA sz25 r r (.s .z) (.t (.t (.t (.t (.t .nil))))) r r (.nilS [4] r r (.drop .z (.pub (.s .z) fun c1 H a6=>?_))))))
   have V:=IH.le.trans k H
   have b2:=IH.le.trans b H
   exact .ret (pret results22 (.w ia25 sz25 r .z r .n) V ⟨({ Kind:=h,N:=a1,Source:=p,Length:=q,Draws:=d }:Plan),_,_,r,a6,hd⟩)
 rw [l]
 refine .ks 4 r (.nilS [55,4,2] r r (.condKF r r (.skipS [4,2] r r (.sr (.loadW ia25 sz25 r .z r r r (.storeA sz25 r r (.s .z) (.t (.t (.t (.t (.t .nil))))) r r (.nilS [4] r r (.drop .z (.pub (.s .z) fun c3 J a7=>?_)))))))))
 have W:=IH.le.trans k J
 have b3:=IH.le.trans b J
 exact .ret (pret results22 (.w ia25 sz25 r .z r .n) W ⟨({ Kind:=h,N:=a1,Source:=p,Length:=q,Draws:=d }:Plan),_,_,r,a7,hd⟩)
theorem W_law22_Case_Make {I:IH} {a0:Law22_Case} {p1:Option Addr} {c2:Nat} {p4:Option Addr} {c5:Nat} {Q:(Plan×Graph×Int)→Prop} (R3:RepSl eI64 I p1 c2 a0.P.Draws) (R6:RepSl eEdge I p4 c5 a0.G.Edges) (hd:law22_Case_Make a0 Q) :
  PFun prog 8 [.agg #[.int .i64 a0.P.Kind,.int .i64 a0.P.N,.int .i64 a0.P.Source,.int .i64 a0.P.Length,.slice p1 a0.P.Draws.length c2,.int .i64 a0.G.N,.slice p4 a0.G.Edges.length c5,.int .u8 a0.Limit]] I (fun I_ v=>∃ r p7 c8 p10 c11,v=.tuple #[.agg #[.int .i64 r.1.Kind,.int .i64 r.1.N,.int .i64 r.1.Source,.int .i64 r.1.Length,.slice p7 r.1.Draws.length c8],.agg #[.int .i64 r.2.1.N,.slice p10 r.2.1.Edges.length c11],.int .i64 r.2.2]∧RepSl eI64 I_ p7 c8 r.1.Draws∧RepSl eEdge I_ p10 c11 r.2.1.Edges∧Q r):=by
 refine Fun.enter func8 r ntmps8 r (.c .n) fun w0 M=>?_
 refine .sr (.boxA r r r fun q=>?_)
 refine .allocA zv25 r r fun u=>?_
 refine .allocA zv28 r r fun x=>?_
 refine .ks 1 r (.nilS [3,2,1] r r (.sr (.fa un30 r sz28 r (o:=5) r r r (.loadA ia28 sz28 r (.s (.s .z)) (.s (.s (.s (.s (.s (.t (.t .nil))))))) r r r ?_))))
 have e:=W_law21_Graph (I:=I) R6 hd
 refine .call call21 r e r r fun y k b f=>?_
 obtain ⟨l,A,B,rfl,d,hd⟩:=f
 replace R3:=R3.mono b
 replace R6:=R6.mono b
 refine .allocA zv28 r r fun C=>?_
 refine .storeA sz28 r r .z (.t (.t .nil)) r r (.nilS [5,3,2,1] r r (.seq (.dr [0,1,2,3,5,6,7,8,9,4,10,11] 12 (.g r r r (fun _=>.fa un30 r sz25 r (o:=0) r r r .mk) (.g r r r (fun _=>.loadA ia25 sz25 r (.s (.s (.s .z))) (.t (.t (.t (.t (.t .nil))))) r r r .mk) (.g r r r (fun _=>.fa un28 r sz3 r (o:=0) r r r .mk) (.g r r r (fun _=>.load1 ia3 r .z r r r .mk) (.g r r r (fun _=>.loadW ia28 sz28 r .z r r r .mk) (.g r r r (fun _=>.fa un30 r sizeOf5 r (o:=7) r r r .mk) ?_)))))))))
 refine .g r r r (fun _=>.load1 isAgg5 r (.s (.s (.s .z))) r r r .mk) (.g r r r (fun _=>.conv underlying5 un3 r r r .mk) (.g r r r (fun _=>.rem r r (by decide) r r .mk) (.ww r fun ex=>?_)))
 have h:=W_law21_Plan (I:=k) R3 hd
 refine .call call22 r h r r fun D E a i=>?_
 obtain ⟨m,F,H,rfl,p,hd⟩:=i
 have j:=IH.le.trans b a
 replace R3:=R3.mono a
 replace R6:=R6.mono a
 replace d:=d.mono a
 refine .so 4 r r r (.cg r r r r (fun _=>.rem r r (by decide) r r .mk) (.cg r r r r (fun _=>.conv underlying5 un3 r r r .mk) (.cg r r r r (fun _=>.load1 isAgg5 r (.s (.s (.s .z))) r r r .mk) (.cg r r r r (fun _=>.fa un30 r sizeOf5 r (o:=7) r r r .mk) (.cg r r r r (fun _=>.loadW ia28 sz28 r .z r r r .mk) trivial))))) (.ww r fun ex=>?_)
 refine .storeA sz25 r r (.s (.s .z)) (.t (.t (.t (.t (.t .nil))))) r r (.sn 4 r r r (.cg r r r r (fun _=>.rem r r (by decide) r r .mk) (.cg r r r r (fun _=>.conv underlying5 un3 r r r .mk) (.cg r r r r (fun _=>.load1 isAgg5 r (.s (.s (.s .z))) r r r .mk) (.cg r r r r (fun _=>.fa un30 r sizeOf5 r (o:=7) r r r .mk) (.cg r r r r (fun _=>.loadW ia28 sz28 r .z r r r .mk) trivial))))) (.ww r fun ex=>?_))
 exact .storeA sz28 r r (.s .z) (.t (.t .nil)) r r (.sn 4 r r r (.cg r r r r (fun _=>.rem r r (by decide) r r .mk) (.cg r r r r (fun _=>.conv underlying5 un3 r r r .mk) (.cg r r r r (fun _=>.load1 isAgg5 r (.s (.s (.s .z))) r r r .mk) (.cg r r r r (fun _=>.fa un30 r sizeOf5 r (o:=7) r r r .mk) trivial)))) (.e2 12 (.ks 1 r (.nilS [4,3,2] r r (.drop .z (.drop (.s (.s .z)) (.ret (pret results8 (.w ia25 sz25 r (.s .z) r (.w ia28 sz28 r .z r (.t r .n))) j ⟨(m,l,(w64 (a0.Limit)).tmod 40),_,_,_,_,r,p,d,hd⟩))))))))
theorem W_law22_ModelEnds {I:IH} {a0:Law22_Case} {p1:Option Addr} {c2:Nat} {p4:Option Addr} {c5:Nat} {Q:Bool→Prop} (R3:RepSl eI64 I p1 c2 a0.P.Draws) (R6:RepSl eEdge I p4 c5 a0.G.Edges) (hd:law22_ModelEnds a0 Q) :
  PFun prog 7 [.agg #[.int .i64 a0.P.Kind,.int .i64 a0.P.N,.int .i64 a0.P.Source,.int .i64 a0.P.Length,.slice p1 a0.P.Draws.length c2,.int .i64 a0.G.N,.slice p4 a0.G.Edges.length c5,.int .u8 a0.Limit]] I (fun _=>o2_ Q):=by
 refine Fun.enter func7 r ntmps7 r (.c .n) fun w0 M=>?_
 refine .sr (.boxA r r r fun b9=>?_)
 refine .ks 1 r (.nilS [1] r r (.sr (.loadW isAgg30 sizeOf30 r .z r r r ?_)))
 have J:=W_law22_Case_Make (I:=I) R3 R6 hd
 refine .call call8 r J r r fun a5 v p K=>?_
 obtain ⟨a,C,D,E,F,rfl,d,e,hd⟩:=K
 replace R3:=R3.mono p
 replace R6:=R6.mono p
 refine .ks 4 r (.allocA zv25 r r fun q=>?_)
 refine .allocA zv28 r r fun u=>?_
 refine .storeA sz25 r r (.s .z) (.t (.t (.t (.t (.t .nil))))) r r (.storeA sz28 r r .z (.t (.t .nil)) r r (.ks 1 r (.nilS [4,3] r r (.drop (.s (.s .z)) (.sr (.fa un28 r sz3 r (o:=0) r r r (.load1 ia3 r .z r r r (.ks 2 r (.nilS [6,4,3] r r ?_)))))))))
 refine .seq ?_
 refine Cod.joinQ (σ:=Int) hd (fun (x:Int) c w=>∃ I_,IH.le v I_∧Ok ⟨62,[],none⟩ [(3,.pointer (some ⟨q,0,none⟩)),(4,.pointer (some ⟨u,0,none⟩)),(6,.int .i64 x)] c∧Sym w0 M I I_ [pto q (.cells #[.int .i64 a.1.Kind,.int .i64 a.1.N,.int .i64 a.1.Source,.int .i64 a.1.Length,.slice C a.1.Draws.length D] 25 (0,0)),pto u (.cells #[.int .i64 a.2.1.N,.slice E a.2.1.Edges.length F] 28 (0,0))] w) (fun a6 hd=>?_) ?_
 · skip
   refine .sr (.fa un25 r sz22 r (o:=0) r r r (.load1 ia22 r (.s .z) r r r (.ks 1 r (.nilS [20,6,4,3] r r (.condP r hd (fun L hd=>?_) fun L hd=>?_)))))
   · exact .region (.fa un28 r sz3 r (o:=0) r r r (.load1 ia3 r .z r r r (.ks 2 r (.nil' fun c w ho hs=>⟨(w64 (2*a.2.1.N)),hd,v,(.refl _),ho.sub ⟨r,r,r,trivial⟩,hs.pick (.c (.s .z) (.c .z .n))⟩))))
   exact .skip' fun c w ho hs=>⟨(w64 (a.2.1.N+1)),hd,v,(.refl _),ho.sub ⟨r,r,r,trivial⟩,hs.pick (.c (.s .z) (.c .z .n))⟩
 rintro x hd c w hst
 obtain ⟨y,h,hok,hsym⟩:=hst
 have O:=IH.le.trans p h
 replace d:=d.mono h
 replace e:=e.mono h
 refine Cod.at hok hsym (.seq ?_)
 refine Cod.joinQ (σ:=Int) hd (fun (H:Int) c w=>∃ I_,IH.le y I_∧Ok ⟨62,[],none⟩ [(3,.pointer (some ⟨q,0,none⟩)),(4,.pointer (some ⟨u,0,none⟩)),(6,.int .i64 H)] c∧Sym w0 M I I_ [pto q (.cells #[.int .i64 a.1.Kind,.int .i64 a.1.N,.int .i64 a.1.Source,.int .i64 a.1.Length,.slice C a.1.Draws.length D] 25 (0,0)),pto u (.cells #[.int .i64 a.2.1.N,.slice E a.2.1.Edges.length F] 28 (0,0))] w) (fun a7 hd=>?_) ?_
 · skip
   refine .sr (.fa un25 r sz22 r (o:=0) r r r (.load1 ia22 r .z r r r (.ks 1 r (.nilS [26,6,4,3] r r (.condP r hd (fun R hd=>?_) fun R hd=>?_)))))
   · exact .region (.fa un25 r sz3 r (o:=3) r r r (.load1 ia3 r .z r r r (.ks 1 r (.nil' fun c w ho hs=>⟨a.1.Length,hd,y,(.refl _),ho.sub ⟨r,r,r,trivial⟩,hs.pick (.c .z (.c .z .n))⟩))))
   exact .skip' fun c w ho hs=>⟨x,hd,y,(.refl _),ho.sub ⟨r,r,r,trivial⟩,hs.pick (.c .z (.c .z .n))⟩
 rintro H hd c w hst
 obtain ⟨W,f,hok,hsym⟩:=hst
 have S:=IH.le.trans O f
 have T:=IH.le.trans h f
 replace d:=d.mono f
 replace e:=e.mono f
 refine Cod.at hok hsym (.sr (.loadW ia25 sz25 r .z r r r (.loadW ia28 sz28 r (.s .z) r r r (.ks 1 r ?_))))
 have U:=W_model_Run (I:=W) d e hd
 refine .call call9 r U r r fun a8 X g V=>?_
 obtain ⟨Y,a9,b0,b1,b2,b3,b4,rfl,b5,b6,b7,hd⟩:=V
 have b:=IH.le.trans S g
 have Z:=IH.le.trans T g
 have a1:=IH.le.trans f g
 replace d:=d.mono g
 replace e:=e.mono g
 refine .ks 3 r (.allocA zv38 r r fun a2=>?_)
 refine .storeA sz38 r r .z (.t (.t (.t (.t (.t (.t (.t .nil))))))) r r (.ks 1 r (.nilS [8,7,6,3] r r (.drop (.s (.s .z)) (.sr ?_))))
 have A:=W_law22_live (I:=X) hd
 refine .callP call13 r A r r fun a3 B=>?_
 obtain ⟨a4,rfl,hd⟩:=B
 refine .ks 1 r ?_
 refine splitP hd (fun i hd=>?_) fun i hd=>?_
 · rw [i]
   refine .ks 4 r ?_
   refine splitP hd (fun j hd=>?_) fun j hd=>?_
   · rw [j]
     refine .gyes r r r (.fa un38 r sz3 r (o:=1) r r r (.gyes r r r (.load1 ia3 r .z r r r (.ks 4 r ?_))))
     refine splitP hd (fun k hd=>?_) fun k hd=>?_
     · rw [k]
       refine .gyes r r r (.fa un38 r sz33 r (o:=0) r r r (.gyes r r r (.load1 isAgg33 r .z r r r (.ks 2 r ?_))))
       refine splitP hd (fun l hd=>?_) fun l hd=>?_
       · rw [l]
         exact .ks 11 r (.nilS [2] r r (.drop .z (.drop .z (.ret (pret results7 (.t r .n) b ⟨true,r,hd⟩)))))
       rw [l]
       refine .gyes r r r (.fa un25 r sz22 r (o:=0) r r r (.gyes r r r (.load1 ia22 r (.s .z) r r r (.ks 2 r ?_))))
       refine splitP hd (fun m hd=>?_) fun m hd=>?_
       · rw [m]
         exact .gyes r r r (.fa un38 r sz33 r (o:=0) r r r (.gyes r r r (.load1 isAgg33 r .z r r r (.ks 5 r (.nilS [2] r r (.drop .z (.drop .z (.ret (pret results7 (.t r .n) b ⟨(Y.1.Status==3),r,hd⟩)))))))))
       rw [m]
       exact .ks 7 r (.nilS [2] r r (.drop .z (.drop .z (.ret (pret results7 (.t r .n) b ⟨false,r,hd⟩)))))
     rw [k]
     exact .ks 15 r (.nilS [2] r r (.drop .z (.drop .z (.ret (pret results7 (.t r .n) b ⟨false,r,hd⟩)))))
   rw [j]
   exact .ks 21 r (.nilS [2] r r (.drop .z (.drop .z (.ret (pret results7 (.t r .n) b ⟨false,r,hd⟩)))))
 rw [i]
 exact .ks 25 r (.nilS [2] r r (.drop .z (.drop .z (.ret (pret results7 (.t r .n) b ⟨false,r,hd⟩)))))
end Go.Proofs.YtccpfgdefibdnaaGreat
