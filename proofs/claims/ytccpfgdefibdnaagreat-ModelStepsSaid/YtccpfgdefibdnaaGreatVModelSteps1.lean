/- The walks (printed by a program of ours). -/
import Derived.Test.YtccpfgdefibdnaaGreatV2
namespace Go.Proofs.YtccpfgdefibdnaaGreat
open Go Go.Fw
set_option linter.unusedVariables false
set_option linter.unusedSimpArgs false
set_option maxRecDepth 8000
set_option maxHeartbeats 1000000
open Tryz
theorem W_law21_Within {I:IH} {a0:Int} {a1:Int} {Q:Int→Prop}  (hd:law21_Within a0 a1 Q) :
  PFun prog 20 [.int .i64 a0,.int .i64 a1] I (fun _=>o0_ Q):=by
 refine Fun.enter func20 r ntmps20 r (.c (.c .n)) fun w0 M=>?_
 refine .sr (.ks 1 r (.nilS [1,0] r r (.seq (.sr (.ks 3 r ?_)))))
 refine splitP hd (fun a hd=>?_) fun a hd=>?_
 · rw [a]
   exact .ks 3 r (.nilS [10,1,0] r r (.condKT r r (.sr (.ks 1 r (.nilS [4] r r (.ret (pret results20 (.t r .n) (.refl _) ⟨0,r,hd⟩)))))))
 rw [a]
 refine .ks 3 r (.nilS [10,1,0] r r (.condP r hd (fun b hd=>?_) fun b hd=>?_))
 · exact .sr (.ks 1 r (.nilS [4] r r (.ret (pret results20 (.t r .n) (.refl _) ⟨0,r,hd⟩))))
 refine .skipS [1,0] r r (.sr (.ks 2 r ?_))
 obtain ⟨d,hd⟩:=hd
 exact .rem r r d r r (.ks 1 r (.nilS [4] r r (.ret (pret results20 (.t r .n) (.refl _) ⟨(a0.tmod a1),r,hd⟩))))
theorem W_law21_Graph {I:IH} {a0:Graph} {p1:Option Addr} {c2:Nat} {Q:Graph→Prop} (R3:RepSl eEdge I p1 c2 a0.Edges) (hd:law21_Graph a0 Q) :
  PFun prog 21 [.agg #[.int .i64 a0.N,.slice p1 a0.Edges.length c2]] I (o1_ Q):=by
 refine Fun.enter func21 r ntmps21 r (.c .n) fun w0 M=>?_
 refine .sr (.boxA r r r fun O=>?_)
 refine .allocA zv28 r r fun P=>?_
 refine .nilS [2,1] r r (.sr (.fa un28 r sz3 r (o:=0) r r r (.load1 ia3 r (.s .z) r r r ?_)))
 have S:=W_law21_Within (I:=I) hd
 refine .callP call20 r S r r fun b2 T=>?_
 obtain ⟨k,rfl,hd⟩:=T
 refine .build zv28 un28 BI28 (.c r r r (.t .nil) .n) (by exact ⟨⟨_,_,r,r,r⟩,trivial⟩) r r (.allocA zv28 r r fun R=>?_)
 refine .storeA sz28 r r .z (.t (.t .nil)) r r (.nilS [3,2,1] r r (.seq (.sr (.ks 1 r (.nilS [4,3,2,1] r r (.block (.own0 eEdge 70 (.loop hd (fun (s:(List Edge)×Int) c w=>match s with | (a,f)=>∃ I_ h i,IH.le I I_∧Ok ⟨51,[],none⟩ [(1,.pointer (some ⟨O,0,none⟩)),(2,.pointer (some ⟨P,0,none⟩)),(3,.pointer (some ⟨R,0,none⟩)),(4,.int .i64 f)] c∧Sym w0 M I I_ [pto O (.cells #[.int .i64 a0.N,.slice p1 a0.Edges.length c2] 28 (0,0)),pto P (.cells #[.int .i64 0,.slice none 0 0] 28 (0,0)),pto R (.cells #[.int .i64 k,.slice h a.length i] 28 (0,0)),OwnSl eEdge 70 h i a] w) (fun c w ho hs=>⟨I,_,_,(.refl _),ho.sub ⟨r,r,r,r,trivial⟩,hs.pick (.c (.s (.s (.s .z))) (.c (.s (.s .z)) (.c (.s .z) (.c .z .n))))⟩) ?_))))))))
 rintro ⟨a,f⟩ Z hd c w hst
 obtain ⟨j,h,i,b,hok,hsym⟩:=hst
 replace R3:=R3.mono b
 refine Cod.at hok hsym (.seq (.sr (.ks 1 r (.fa un28 r sz26 r (o:=1) r r r (.load1 ia26 r .z r r r (.len un26 r r r r (.ks 2 r ?_)))))))
 refine splitP hd (fun d hd=>?_) fun d hd=>?_
 · rw [d]
   refine .ks 4 r ?_
   refine splitP hd (fun e hd=>?_) fun e hd=>?_
   · rw [e]
     refine .gyes r r r (.fa un28 r sz3 r (o:=0) r r r (.gyes r r r (.load1 ia3 r (.s (.s .z)) r r r (.ks 2 r (.nilS [23,4,3,2,1] r r (.condP r hd (fun v hd=>?_) fun v hd=>?_))))))
     · refine .skipS [4,3,2,1] r r (.seq (.block (.sr (.fa un28 r sz26 r (o:=1) r r r (.load1 ia26 r .z r r r (.ks 1 r ?_))))))
       obtain ⟨m,p,l,hd⟩:=hd
       obtain ⟨a2,o155,a1,U,x,y⟩:=R3.2 _ _ l
       cases y
       refine .ixa un26 sz70 r U r m (idx_lt l m) r r (.ldW ia70 sz70 x r r r r (.allocA zv70 r r fun a3=>?_))
       refine .storeA sz70 r r .z (.t (.t (.t .nil))) r r (.nilS [5,4,3,2,1] r r (.dr [0,1,2,3,4,5,7,8,9,10,12,13,14,6,11,15,16,17] 18 (.g r r r (fun _=>.fa un28 r sz26 r (o:=1) r r r .mk) (.g r r r (fun _=>.load1 ia26 r (.s (.s (.s .z))) r r r .mk) (.g r r r (fun _=>.fa un70 r sz3 r (o:=0) r r r .mk) (.g r r r (fun _=>.load1 ia3 r .z r r r .mk) (.g r r r (fun _=>.fa un28 r sz3 r (o:=0) r r r .mk) (.g r r r (fun _=>.load1 ia3 r (.s (.s (.s .z))) r r r .mk) (.g r r r (fun _=>.fa un70 r sz3 r (o:=1) r r r .mk) ?_)))))))))
       refine .g r r r (fun _=>.load1 ia3 r .z r r r .mk) (.g r r r (fun _=>.fa un28 r sz3 r (o:=0) r r r .mk) (.g r r r (fun _=>.load1 ia3 r (.s (.s (.s .z))) r r r .mk) (.g r r r (fun _=>.fa un70 r sz2 r (o:=2) r r r .mk) (.g r r r (fun _=>.load1 ia2 r .z r r r .mk) (.fk 1 r (.ww r fun ex=>?_))))))
       have A:=W_law21_Within (I:=j) hd
       refine .callP call20 r A r r fun a4 B=>?_
       obtain ⟨q,rfl,hd⟩:=B
       refine .so 5 r r r (.ck 1 r r (.cg r r r r (fun _=>.load1 ia2 r .z r r r .mk) (.cg r r r r (fun _=>.fa un70 r sz2 r (o:=2) r r r .mk) (.cg r r r r (fun _=>.load1 ia3 r (.s (.s (.s .z))) r r r .mk) (.cg r r r r (fun _=>.fa un28 r sz3 r (o:=0) r r r .mk) (.cg r r r r (fun _=>.load1 ia3 r .z r r r .mk) (.cg r r r r (fun _=>.fa un70 r sz3 r (o:=1) r r r .mk) (.cg r r r r (fun _=>.load1 ia26 r (.s (.s (.s .z))) r r r .mk) (.cg r r r r (fun _=>.fa un28 r sz26 r (o:=1) r r r .mk) trivial))))))))) (.ww r fun ex=>?_)
       have C:=W_law21_Within (I:=j) hd
       refine .callP call20 r C r r fun a5 D=>?_
       obtain ⟨u,rfl,hd⟩:=D
       refine .so 5 r r r (.ck 1 r r (.cg r r r r (fun _=>.load1 ia2 r .z r r r .mk) (.cg r r r r (fun _=>.fa un70 r sz2 r (o:=2) r r r .mk) (.cg r r r r (fun _=>.load1 ia26 r (.s (.s (.s .z))) r r r .mk) (.cg r r r r (fun _=>.fa un28 r sz26 r (o:=1) r r r .mk) trivial))))) (.g r r r (fun _=>.build zv70 un70 BI70 (.c r r r (.t .nil) (.c r r r (.s (.t .nil)) (.c r r r (.s (.s (.t .nil))) .n))) (by exact ⟨⟨_,_,r,r,r⟩,⟨⟨_,_,r,r,r⟩,⟨⟨_,_,r,r,r⟩,trivial⟩⟩⟩) r r .mk) (.ww r fun ex=>?_))
       refine .buildSlice 1 un26 sz70 zv70 r r (.c r r r .n) r r fun a6=>?_
       refine .so 6 r r r (.cg r r r r (fun _=>.load1 ia26 r (.s (.s (.s (.s .z)))) r r r .mk) (.cg r r r r (fun _=>.fa un28 r sz26 r (o:=1) r r r .mk) trivial)) (.ww r fun ex=>?_)
       obtain ⟨E,hd⟩:=hd
       refine .append (ys:=[({ From:=q,To:=u,W:=bnd .i64 p.W 2147483647 }:Edge)]) 24 (.s (.s (.s (.s (.s .z))))) un26 un26 IN70 r r r r r r r r r (.box .z (.one r) r) E r r fun a7 a8=>?_
       exact .so 6 r r r trivial (.e2 18 (.fa un28 r sz26 r (o:=1) r r r (.store1 sz26 r r (.s (.s (.s (.s (.s .z))))) (.s (.t .nil)) r (.nilS [4,3,2,1] r r (.drop (.s .z) (.drop (.s .z) (.region (.ks 3 r (.nil' fun c w ho hs=>⟨((a++([({ From:=q,To:=u,W:=bnd .i64 p.W 2147483647 }:Edge)])),w64 (f+1)),hd,j,_,_,b,ho.sub ⟨r,r,r,r,trivial⟩,hs.pick (.c (.s .z) (.c (.s .z) (.c (.s .z) (.c .z .n))))⟩)))))))))
     refine .exitS [3,2] r r (.drop .z (.sr (.loadW ia28 sz28 r (.s .z) r r r (.storeA sz28 r r .z (.t (.t .nil)) r r (.nilS [2] r r (.drop (.s .z) (.pub (.s .z) fun a9 F V=>?_)))))))
     have G:=IH.le.trans b F
     exact .ret (pret results21 (.w ia28 sz28 r .z r .n) G ⟨({ N:=k,Edges:=a }:Graph),_,_,r,V,hd⟩)
   rw [e]
   refine .ks 4 r (.nilS [23,4,3,2,1] r r (.condKF r r (.exitS [3,2] r r (.drop .z (.sr (.loadW ia28 sz28 r (.s .z) r r r (.storeA sz28 r r .z (.t (.t .nil)) r r (.nilS [2] r r (.drop (.s .z) ?_)))))))))
   refine .pub (.s .z) fun b0 H X=>?_
   have J:=IH.le.trans b H
   exact .ret (pret results21 (.w ia28 sz28 r .z r .n) J ⟨({ N:=k,Edges:=a }:Graph),_,_,r,X,hd⟩)
 rw [d]
 refine .ks 8 r (.nilS [23,4,3,2,1] r r (.condKF r r (.exitS [3,2] r r (.drop .z (.sr (.loadW ia28 sz28 r (.s .z) r r r (.storeA sz28 r r .z (.t (.t .nil)) r r (.nilS [2] r r (.drop (.s .z) ?_)))))))))
 refine .pub (.s .z) fun b1 K Y=>?_
 have L:=IH.le.trans b K
 exact .ret (pret results21 (.w ia28 sz28 r .z r .n) L ⟨({ N:=k,Edges:=a }:Graph),_,_,r,Y,hd⟩)
theorem W_law21_Plan {I:IH} {a0:Plan} {a1:Int} {p1:Option Addr} {c2:Nat} {Q:Plan→Prop} (R3:RepSl eI64 I p1 c2 a0.Draws) (hd:law21_Plan a0 a1 Q) :
  PFun prog 22 [.agg #[.int .i64 a0.Kind,.int .i64 a0.N,.int .i64 a0.Source,.int .i64 a0.Length,.slice p1 a0.Draws.length c2],.int .i64 a1] I (fun I_ v=>∃ r p4 c5,v=.agg #[.int .i64 r.Kind,.int .i64 r.N,.int .i64 r.Source,.int .i64 r.Length,.slice p4 r.Draws.length c5]∧RepSl eI64 I_ p4 c5 r.Draws∧Q r):=by
 refine Fun.enter func22 r ntmps22 r (.c (.c .n)) fun w0 M=>?_
 refine .sr (.boxA r r r fun f=>?_)
 refine .allocA zv25 r r fun g=>?_
 refine .nilS [4,2,1] r r (.seq ?_)
 refine Cod.joinQ (σ:=Int) hd (fun (h:Int) c w=>∃ I_,IH.le I I_∧Ok ⟨58,[],none⟩ [(1,.int .i64 a1),(2,.pointer (some ⟨f,0,none⟩)),(4,.pointer (some ⟨g,0,none⟩))] c∧Sym w0 M I I_ [pto f (.cells #[.int .i64 h,.int .i64 a0.N,.int .i64 a0.Source,.int .i64 a0.Length,.slice p1 a0.Draws.length c2] 25 (0,0)),pto g (.cells #[.int .i64 0,.int .i64 0,.int .i64 0,.int .i64 0,.slice none 0 0] 25 (0,0))] w) (fun c4 hd=>?_) ?_
 · skip
   refine .sr (.fa un25 r sz22 r (o:=0) r r r (.load1 ia22 r (.s .z) r r r (.ks 2 r ?_)))
   refine splitP hd (fun u hd=>?_) fun u hd=>?_
   · rw [u]
     exact .ks 4 r (.nilS [14,4,2,1] r r (.condKT r r (.region (.fa un25 r sz22 r (o:=0) r r r (.store1 sz22 r r (.s .z) (.t .nil) r (.nil' fun c w ho hs=>⟨3,hd,I,(.refl _),ho.sub ⟨r,r,r,trivial⟩,hs.pick (.c (.s .z) (.c .z .n))⟩))))))
   rw [u]
   refine .gyes r r r (.fa un25 r sz22 r (o:=0) r r r (.gyes r r r (.load1 ia22 r (.s .z) r r r (.ks 2 r (.nilS [14,4,2,1] r r (.condP r hd (fun X hd=>?_) fun X hd=>?_))))))
   · exact .region (.fa un25 r sz22 r (o:=0) r r r (.store1 sz22 r r (.s .z) (.t .nil) r (.nil' fun c w ho hs=>⟨3,hd,I,(.refl _),ho.sub ⟨r,r,r,trivial⟩,hs.pick (.c (.s .z) (.c .z .n))⟩)))
   exact .skip' fun c w ho hs=>⟨a0.Kind,hd,I,(.refl _),ho.sub ⟨r,r,r,trivial⟩,hs.pick (.c (.s .z) (.c .z .n))⟩
 rintro h hd c w hst
 obtain ⟨m,x,hok,hsym⟩:=hst
 replace R3:=R3.mono x
 refine Cod.at hok hsym (.sr (.ks 1 r (.fa un25 r sz3 r (o:=1) r r r (.store1 sz3 r r .z (.s (.t .nil)) r (.nilS [4,2,1] r r (.sr (.fa un25 r sz3 r (o:=2) r r r (.load1 ia3 r .z r r r (.ks 1 r ?_)))))))))
 have Y:=W_law21_Within (I:=m) hd
 refine .callP call20 r Y r r fun c6 Z=>?_
 obtain ⟨p,rfl,hd⟩:=Z
 refine .fa un25 r sz3 r (o:=2) r r r (.store1 sz3 r r .z (.s (.s (.t .nil))) r (.nilS [4,2,1] r r (.sr (.fa un25 r sz3 r (o:=3) r r r (.load1 ia3 r .z r r r ?_)))))
 have a2:=W_law21_Within (I:=m) hd
 refine .callP call20 r a2 r r fun c7 a3=>?_
 obtain ⟨q,rfl,hd⟩:=a3
 refine .fa un25 r sz3 r (o:=3) r r r (.store1 sz3 r r .z (.s (.s (.s (.t .nil)))) r (.nilS [4,2,1] r r (.sr (.ks 1 r (.nilS [5,4,2,1] r r (.seq ?_))))))
 refine Cod.joinQ (σ:=(List Int)) hd (fun (d:(List Int)) c w=>∃ I_ y A,IH.le m I_∧Ok ⟨58,[],none⟩ [(1,.int .i64 a1),(2,.pointer (some ⟨f,0,none⟩)),(4,.pointer (some ⟨g,0,none⟩)),(5,.slice y d.length A)] c∧Sym w0 M I I_ [pto f (.cells #[.int .i64 h,.int .i64 a1,.int .i64 p,.int .i64 q,.slice p1 a0.Draws.length c2] 25 (0,0)),pto g (.cells #[.int .i64 0,.int .i64 0,.int .i64 0,.int .i64 0,.slice none 0 0] 25 (0,0)),OwnSl eI64 2 y A d] w) (fun b4 hd=>?_) ?_
 · skip
   refine .sr (.ks 1 r (.nilS [6,5,4,2,1] r r (.block (.own0 eI64 2 (.loop hd (fun (s:(List Int)×Int) c w=>match s with | (e,B)=>∃ I_ C D,IH.le m I_∧Ok ⟨58,[],none⟩ [(1,.int .i64 a1),(2,.pointer (some ⟨f,0,none⟩)),(4,.pointer (some ⟨g,0,none⟩)),(5,.slice C e.length D),(6,.int .i64 B)] c∧Sym w0 M I I_ [pto f (.cells #[.int .i64 h,.int .i64 a1,.int .i64 p,.int .i64 q,.slice p1 a0.Draws.length c2] 25 (0,0)),pto g (.cells #[.int .i64 0,.int .i64 0,.int .i64 0,.int .i64 0,.slice none 0 0] 25 (0,0)),OwnSl eI64 2 C D e] w) (fun c w ho hs=>⟨m,_,_,(.refl _),ho.sub ⟨r,r,r,r,r,trivial⟩,hs.pick (.c (.s .z) (.c (.s .z) (.c .z .n)))⟩) ?_)))))
   rintro ⟨e,B⟩ a8 hd c w hst
   obtain ⟨E,C,D,a,hok,hsym⟩:=hst
   have a9:=IH.le.trans x a
   replace R3:=R3.mono a
   refine Cod.at hok hsym (.seq (.sr (.ks 1 r (.fa un25 r sz23 r (o:=4) r r r (.load1 ia23 r .z r r r (.len un23 r r r r (.ks 2 r ?_)))))))
   refine splitP hd (fun i hd=>?_) fun i hd=>?_
   · rw [i]
     refine .ks 3 r (.nilS [35,6,5,4,2,1] r r (.condP r hd (fun O hd=>?_) fun O hd=>?_))
     · refine .skipS [6,5,4,2,1] r r (.seq (.block (.region (.ks 1 r (.fa un25 r sz23 r (o:=4) r r r (.load1 ia23 r .z r r r (.ks 1 r ?_)))))))
       obtain ⟨K,L,F,hd⟩:=hd
       obtain ⟨b5,o278,b0,a4,P,R⟩:=R3.2 _ _ F
       cases R
       refine .ixa un23 sz2 r a4 r K (idx_lt F K) r r (.ld1 (j:=0) ia2 P r r r r r (.ks 1 r (.buildSlice 1 un23 sz2 zv2 r r (.c r r r .n) r r fun b6=>?_)))
       obtain ⟨S,hd⟩:=hd
       refine .append (ys:=[bnd .i64 L 2147483647]) 8 (.s (.s (.s .z))) un23 un23 IN2 r r r r r r r r r (.box .z (.one r) r) S r r fun b7 b8=>?_
       exact .ks 1 r (.nilS [5,6,4,2,1] r r (.drop (.s .z) (.region (.ks 3 r (.nil' fun c w ho hs=>⟨((e++([bnd .i64 L 2147483647])),w64 (B+1)),hd,E,_,_,a,ho.sub ⟨r,r,r,r,r,trivial⟩,hs.pick (.c (.s .z) (.c (.s .z) (.c .z .n)))⟩)))))
     exact .exit fun c w ho hs=>⟨e,hd,E,_,_,a,ho.sub ⟨r,r,r,r,trivial⟩,hs.pick (.c .z (.c .z (.c .z .n)))⟩
   rw [i]
   exact .ks 3 r (.nilS [35,6,5,4,2,1] r r (.condKF r r (.exit fun c w ho hs=>⟨e,hd,E,_,_,a,ho.sub ⟨r,r,r,r,trivial⟩,hs.pick (.c .z (.c .z (.c .z .n)))⟩)))
 rintro d hd c w hst
 obtain ⟨b9,y,A,b,hok,hsym⟩:=hst
 have k:=IH.le.trans x b
 replace R3:=R3.mono b
 refine Cod.at hok hsym (.sr (.ks 1 r (.fa un25 r sz23 r (o:=4) r r r (.store1 sz23 r r .z (.s (.s (.s (.s (.t .nil))))) r (.nilS [4,2,1] r r (.seq (.sr (.ks 3 r ?_))))))))
 refine splitP hd (fun l hd=>?_) fun l hd=>?_
 · rw [l]
   refine .gyes r r r (.fa un25 r sz22 r (o:=0) r r r (.gyes r r r (.load1 ia22 r .z r r r (.ks 2 r (.nilS [55,4,2] r r (.condP r hd (fun T hd=>?_) fun T hd=>?_))))))
   · refine .region (.fa un25 r sz22 r (o:=0) r r r (.store1 sz22 r r .z (.t .nil) r (.nilS [4,2] r r (.sr (.loadW ia25 sz25 r .z r r r (.storeA sz25 r r (.s .z) (.t (.t (.t (.t (.t .nil))))) r r (.nilS [4] r r (.drop .z (.pub (.s .z) fun c0 G a5=>?_)))))))))
     have U:=IH.le.trans k G
     have b1:=IH.le.trans b G
     exact .ret (pret results22 (.w ia25 sz25 r .z r .n) U ⟨({ Kind:=3,N:=a1,Source:=p,Length:=q,Draws:=d }:Plan),_,_,r,a5,hd⟩)
   refine .skipS [4,2] r r (.sr (.loadW ia25 sz25 r .z r r r (.storeA sz25 r r (.s .z) (.t (.t (.t (.t (.t .nil))))) r r (.nilS [4] r r (.drop .z (.pub (.s .z) fun c1 H a6=>?_))))))
   have V:=IH.le.trans k H
   have b2:=IH.le.trans b H
   exact .ret (pret results22 (.w ia25 sz25 r .z r .n) V ⟨({ Kind:=h,N:=a1,Source:=p,Length:=q,Draws:=d }:Plan),_,_,r,a6,hd⟩)
 rw [l]
 refine .ks 4 r (.nilS [55,4,2] r r (.condKF r r (.skipS [4,2] r r (.sr (.loadW ia25 sz25 r .z r r r (.storeA sz25 r r (.s .z) (.t (.t (.t (.t (.t .nil))))) r r (.nilS [4] r r (.drop .z (.pub (.s .z) fun c3 J a7=>?_)))))))))
 have W:=IH.le.trans k J
 have b3:=IH.le.trans b J
 exact .ret (pret results22 (.w ia25 sz25 r .z r .n) W ⟨({ Kind:=h,N:=a1,Source:=p,Length:=q,Draws:=d }:Plan),_,_,r,a7,hd⟩)
theorem W_law22_Case_Make {I:IH} {a0:Law22_Case} {p1:Option Addr} {c2:Nat} {p4:Option Addr} {c5:Nat} {Q:(Plan×Graph×Int)→Prop} (R3:RepSl eI64 I p1 c2 a0.P.Draws) (R6:RepSl eEdge I p4 c5 a0.G.Edges) (hd:law22_Case_Make a0 Q) :
  PFun prog 8 [.agg #[.int .i64 a0.P.Kind,.int .i64 a0.P.N,.int .i64 a0.P.Source,.int .i64 a0.P.Length,.slice p1 a0.P.Draws.length c2,.int .i64 a0.G.N,.slice p4 a0.G.Edges.length c5,.int .u8 a0.Limit]] I (fun I_ v=>∃ r p7 c8 p10 c11,v=.tuple #[.agg #[.int .i64 r.1.Kind,.int .i64 r.1.N,.int .i64 r.1.Source,.int .i64 r.1.Length,.slice p7 r.1.Draws.length c8],.agg #[.int .i64 r.2.1.N,.slice p10 r.2.1.Edges.length c11],.int .i64 r.2.2]∧RepSl eI64 I_ p7 c8 r.1.Draws∧RepSl eEdge I_ p10 c11 r.2.1.Edges∧Q r):=by
 refine Fun.enter func8 r ntmps8 r (.c .n) fun w0 M=>?_
 refine .sr (.boxA r r r fun q=>?_)
 refine .allocA zv25 r r fun u=>?_
 refine .allocA zv28 r r fun x=>?_
 refine .ks 1 r (.nilS [3,2,1] r r (.sr (.fa un30 r sz28 r (o:=5) r r r (.loadA ia28 sz28 r (.s (.s .z)) (.s (.s (.s (.s (.s (.t (.t .nil))))))) r r r ?_))))
 have e:=W_law21_Graph (I:=I) R6 hd
 refine .call call21 r e r r fun y k b f=>?_
 obtain ⟨l,A,B,rfl,d,hd⟩:=f
 replace R3:=R3.mono b
 replace R6:=R6.mono b
 refine .allocA zv28 r r fun C=>?_
 refine .storeA sz28 r r .z (.t (.t .nil)) r r (.nilS [5,3,2,1] r r (.seq (.dr [0,1,2,3,5,6,7,8,9,4,10,11] 12 (.g r r r (fun _=>.fa un30 r sz25 r (o:=0) r r r .mk) (.g r r r (fun _=>.loadA ia25 sz25 r (.s (.s (.s .z))) (.t (.t (.t (.t (.t .nil))))) r r r .mk) (.g r r r (fun _=>.fa un28 r sz3 r (o:=0) r r r .mk) (.g r r r (fun _=>.load1 ia3 r .z r r r .mk) (.g r r r (fun _=>.loadW ia28 sz28 r .z r r r .mk) (.g r r r (fun _=>.fa un30 r sizeOf5 r (o:=7) r r r .mk) ?_)))))))))
 refine .g r r r (fun _=>.load1 isAgg5 r (.s (.s (.s .z))) r r r .mk) (.g r r r (fun _=>.conv underlying5 un3 r r r .mk) (.g r r r (fun _=>.rem r r (by decide) r r .mk) (.ww r fun ex=>?_)))
 have h:=W_law21_Plan (I:=k) R3 hd
 refine .call call22 r h r r fun D E a i=>?_
 obtain ⟨m,F,H,rfl,p,hd⟩:=i
 have j:=IH.le.trans b a
 replace R3:=R3.mono a
 replace R6:=R6.mono a
 replace d:=d.mono a
 refine .so 4 r r r (.cg r r r r (fun _=>.rem r r (by decide) r r .mk) (.cg r r r r (fun _=>.conv underlying5 un3 r r r .mk) (.cg r r r r (fun _=>.load1 isAgg5 r (.s (.s (.s .z))) r r r .mk) (.cg r r r r (fun _=>.fa un30 r sizeOf5 r (o:=7) r r r .mk) (.cg r r r r (fun _=>.loadW ia28 sz28 r .z r r r .mk) trivial))))) (.ww r fun ex=>?_)
 refine .storeA sz25 r r (.s (.s .z)) (.t (.t (.t (.t (.t .nil))))) r r (.sn 4 r r r (.cg r r r r (fun _=>.rem r r (by decide) r r .mk) (.cg r r r r (fun _=>.conv underlying5 un3 r r r .mk) (.cg r r r r (fun _=>.load1 isAgg5 r (.s (.s (.s .z))) r r r .mk) (.cg r r r r (fun _=>.fa un30 r sizeOf5 r (o:=7) r r r .mk) (.cg r r r r (fun _=>.loadW ia28 sz28 r .z r r r .mk) trivial))))) (.ww r fun ex=>?_))
 exact .storeA sz28 r r (.s .z) (.t (.t .nil)) r r (.sn 4 r r r (.cg r r r r (fun _=>.rem r r (by decide) r r .mk) (.cg r r r r (fun _=>.conv underlying5 un3 r r r .mk) (.cg r r r r (fun _=>.load1 isAgg5 r (.s (.s (.s .z))) r r r .mk) (.cg r r r r (fun _=>.fa un30 r sizeOf5 r (o:=7) r r r .mk) trivial)))) (.e2 12 (.ks 1 r (.nilS [4,3,2] r r (.drop .z (.drop (.s (.s .z)) (.ret (pret results8 (.w ia25 sz25 r (.s .z) r (.w ia28 sz28 r .z r (.t r .n))) j ⟨(m,l,(w64 (a0.Limit)).tmod 40),_,_,_,_,r,p,d,hd⟩))))))))
theorem W_ref21_from {I:IH} {a0:Int} {Q:Bool→Prop}  (hd:ref21_from a0 Q) :
  PFun prog 58 [.int .i64 a0] I (fun _=>o2_ Q):=by
 refine Fun.enter func58 r ntmps58 r (.c .n) fun w0 M=>?_
 refine .sr (.ks 1 r (.nilS [0] r r (.sr (.ks 3 r ?_))))
 refine splitP hd (fun a hd=>?_) fun a hd=>?_
 · rw [a]
   exact .ks 8 r (.nilS [2] r r (.ret (pret results58 (.t r .n) (.refl _) ⟨true,r,hd⟩)))
 rw [a]
 refine .ks 4 r ?_
 refine splitP hd (fun b hd=>?_) fun b hd=>?_
 · rw [b]
   exact .ks 4 r (.nilS [2] r r (.ret (pret results58 (.t r .n) (.refl _) ⟨true,r,hd⟩)))
 rw [b]
 exact .ks 4 r (.nilS [2] r r (.ret (pret results58 (.t r .n) (.refl _) ⟨(a0==4),r,hd⟩)))
theorem W_ref21_Right {I:IH} {a0:Plan} {p1:Option Addr} {c2:Nat} {Q:Int→Prop} (R3:RepSl eI64 I p1 c2 a0.Draws) (hd:ref21_Right a0 Q) :
  PFun prog 30 [.agg #[.int .i64 a0.Kind,.int .i64 a0.N,.int .i64 a0.Source,.int .i64 a0.Length,.slice p1 a0.Draws.length c2]] I (fun _=>o0_ Q):=by
 refine Fun.enter func30 r ntmps30 r (.c .n) fun w0 M=>?_
 refine .sr (.boxA r r r fun B=>?_)
 refine .ks 1 r (.nilS [1] r r (.seq (.sr (.fa un25 r sz22 r (o:=0) r r r (.load1 ia22 r .z r r r (.ks 2 r ?_))))))
 refine splitP hd (fun e hd=>?_) fun e hd=>?_
 · rw [e]
   exact .ks 4 r (.nilS [11,1] r r (.condKT r r (.sr (.ks 1 r (.nilS [2] r r (.drop .z (.ret (pret results30 (.t r .n) (.refl _) ⟨8,r,hd⟩))))))))
 rw [e]
 refine .gyes r r r (.fa un25 r sz22 r (o:=0) r r r (.gyes r r r (.load1 ia22 r .z r r r (.ks 2 r (.nilS [11,1] r r (.condP r hd (fun K hd=>?_) fun K hd=>?_))))))
 · exact .sr (.ks 1 r (.nilS [2] r r (.drop .z (.ret (pret results30 (.t r .n) (.refl _) ⟨8,r,hd⟩)))))
 refine .skipS [1] r r (.seq ?_)
 refine Cod.joinQ (σ:=Unit) hd (fun (_:Unit) c w=>∃ I_,IH.le I I_∧Ok ⟨77,[],none⟩ [(1,.pointer (some ⟨B,0,none⟩))] c∧Sym w0 M I I_ [pto B (.cells #[.int .i64 a0.Kind,.int .i64 a0.N,.int .i64 a0.Source,.int .i64 a0.Length,.slice p1 a0.Draws.length c2] 25 (0,0))] w) (fun a4 hd=>?_) ?_
 · skip
   refine .sr (.fa un25 r sz3 r (o:=1) r r r (.load1 ia3 r .z r r r (.ks 2 r ?_)))
   refine splitP hd (fun f hd=>?_) fun f hd=>?_
   · rw [f]
     exact .ks 36 r (.nilS [51,1] r r (.condKT r r (.sr (.ks 1 r (.nilS [2] r r (.drop .z (.ret (pret results30 (.t r .n) (.refl _) ⟨3,r,hd⟩))))))))
   rw [f]
   refine .gyes r r r (.fa un25 r sz3 r (o:=1) r r r (.gyes r r r (.load1 ia3 r .z r r r (.ks 3 r ?_))))
   refine splitP hd (fun g hd=>?_) fun g hd=>?_
   · rw [g]
     exact .ks 31 r (.nilS [51,1] r r (.condKT r r (.sr (.ks 1 r (.nilS [2] r r (.drop .z (.ret (pret results30 (.t r .n) (.refl _) ⟨3,r,hd⟩))))))))
   rw [g]
   refine .gyes r r r (.fa un25 r sz22 r (o:=0) r r r (.gyes r r r (.load1 ia22 r .z r r r ?_)))
   have L:=W_ref21_from (I:=I) hd
   refine .gyes r r r (.callP call58 r L r r fun a5 O=>?_)
   obtain ⟨a6,rfl,hd⟩:=O
   refine .ks 1 r ?_
   refine splitP hd (fun h hd=>?_) fun h hd=>?_
   · rw [h]
     refine .gyes r r r (.fa un25 r sz3 r (o:=2) r r r (.gyes r r r (.load1 ia3 r .z r r r (.ks 2 r ?_))))
     refine splitP hd (fun i hd=>?_) fun i hd=>?_
     · rw [i]
       exact .ks 23 r (.nilS [51,1] r r (.condKT r r (.sr (.ks 1 r (.nilS [2] r r (.drop .z (.ret (pret results30 (.t r .n) (.refl _) ⟨3,r,hd⟩))))))))
     rw [i]
     refine .gyes r r r (.fa un25 r sz3 r (o:=2) r r r (.gyes r r r (.load1 ia3 r .z r r r (.gyes r r r (.fa un25 r sz3 r (o:=1) r r r (.gyes r r r (.load1 ia3 r .z r r r (.ks 5 r ?_))))))))
     refine splitP hd (fun k hd=>?_) fun k hd=>?_
     · rw [k]
       exact .ks 14 r (.nilS [51,1] r r (.condKT r r (.sr (.ks 1 r (.nilS [2] r r (.drop .z (.ret (pret results30 (.t r .n) (.refl _) ⟨3,r,hd⟩))))))))
     rw [k]
     refine .gyes r r r (.fa un25 r sz22 r (o:=0) r r r (.gyes r r r (.load1 ia22 r .z r r r (.ks 2 r ?_))))
     refine splitP hd (fun l hd=>?_) fun l hd=>?_
     · rw [l]
       refine .gyes r r r (.fa un25 r sz3 r (o:=3) r r r (.gyes r r r (.load1 ia3 r .z r r r (.ks 2 r ?_))))
       refine splitP hd (fun m hd=>?_) fun m hd=>?_
       · rw [m]
         exact .ks 6 r (.nilS [51,1] r r (.condKT r r (.sr (.ks 1 r (.nilS [2] r r (.drop .z (.ret (pret results30 (.t r .n) (.refl _) ⟨3,r,hd⟩))))))))
       rw [m]
       refine .gyes r r r (.fa un25 r sz3 r (o:=3) r r r (.gyes r r r (.load1 ia3 r .z r r r (.ks 4 r (.nilS [51,1] r r (.condP r hd (fun P hd=>?_) fun P hd=>?_))))))
       · exact .sr (.ks 1 r (.nilS [2] r r (.drop .z (.ret (pret results30 (.t r .n) (.refl _) ⟨3,r,hd⟩)))))
       exact .skip' fun c w ho hs=>⟨(),hd,I,(.refl _),ho.sub ⟨r,trivial⟩,hs.pick (.c .z .n)⟩
     rw [l]
     exact .ks 10 r (.nilS [51,1] r r (.condKF r r (.skip' fun c w ho hs=>⟨(),hd,I,(.refl _),ho.sub ⟨r,trivial⟩,hs.pick (.c .z .n)⟩)))
   rw [h]
   refine .ks 13 r (.gyes r r r (.fa un25 r sz22 r (o:=0) r r r (.gyes r r r (.load1 ia22 r .z r r r (.ks 2 r ?_)))))
   refine splitP hd (fun p hd=>?_) fun p hd=>?_
   · rw [p]
     refine .gyes r r r (.fa un25 r sz3 r (o:=3) r r r (.gyes r r r (.load1 ia3 r .z r r r (.ks 2 r ?_))))
     refine splitP hd (fun q hd=>?_) fun q hd=>?_
     · rw [q]
       exact .ks 6 r (.nilS [51,1] r r (.condKT r r (.sr (.ks 1 r (.nilS [2] r r (.drop .z (.ret (pret results30 (.t r .n) (.refl _) ⟨3,r,hd⟩))))))))
     rw [q]
     refine .gyes r r r (.fa un25 r sz3 r (o:=3) r r r (.gyes r r r (.load1 ia3 r .z r r r (.ks 4 r (.nilS [51,1] r r (.condP r hd (fun R hd=>?_) fun R hd=>?_))))))
     · exact .sr (.ks 1 r (.nilS [2] r r (.drop .z (.ret (pret results30 (.t r .n) (.refl _) ⟨3,r,hd⟩)))))
     exact .skip' fun c w ho hs=>⟨(),hd,I,(.refl _),ho.sub ⟨r,trivial⟩,hs.pick (.c .z .n)⟩
   rw [p]
   exact .ks 10 r (.nilS [51,1] r r (.condKF r r (.skip' fun c w ho hs=>⟨(),hd,I,(.refl _),ho.sub ⟨r,trivial⟩,hs.pick (.c .z .n)⟩)))
 rintro ⟨⟩ hd c w hst
 obtain ⟨J,s,hok,hsym⟩:=hst
 replace R3:=R3.mono s
 refine Cod.at hok hsym (.seq (.sr (.fa un25 r sz23 r (o:=4) r r r (.load1 ia23 r .z r r r (.len un23 r r r r (.ks 1 r (.nilS [55,1] r r (.condP r hd (fun S hd=>?_) fun S hd=>?_))))))))
 · exact .sr (.ks 1 r (.nilS [2] r r (.drop .z (.ret (pret results30 (.t r .n) s ⟨5,r,hd⟩)))))
 refine .skipS [1] r r (.seq (.sr (.ks 1 r (.nilS [3,1] r r (.block (.loop hd (fun (u:Int) c w=>∃ I_,IH.le J I_∧Ok ⟨77,[],none⟩ [(1,.pointer (some ⟨B,0,none⟩)),(3,.int .i64 u)] c∧Sym w0 M I I_ [pto B (.cells #[.int .i64 a0.Kind,.int .i64 a0.N,.int .i64 a0.Source,.int .i64 a0.Length,.slice p1 a0.Draws.length c2] 25 (0,0))] w) (fun c w ho hs=>⟨J,(.refl _),ho.sub ⟨r,r,trivial⟩,hs.pick (.c .z .n)⟩) ?_))))))
 rintro u W hd c w hst
 obtain ⟨T,a,hok,hsym⟩:=hst
 have b:=IH.le.trans s a
 replace R3:=R3.mono a
 refine Cod.at hok hsym (.seq (.sr (.ks 1 r (.fa un25 r sz23 r (o:=4) r r r (.load1 ia23 r .z r r r (.len un23 r r r r (.ks 1 r (.nilS [60,3,1] r r (.condP r hd (fun C hd=>?_) fun C hd=>?_)))))))))
 · refine .skipS [3,1] r r (.seq (.block (.sr (.fa un25 r sz23 r (o:=4) r r r (.load1 ia23 r .z r r r (.ks 1 r ?_))))))
   obtain ⟨y,Z,v,hd⟩:=hd
   obtain ⟨a1,o120,X,U,D,E⟩:=R3.2 _ _ v
   cases E
   refine .ixa un23 sz2 r U r y (idx_lt v y) r r (.ld1 (j:=0) ia2 D r r r r r (.ks 2 r ?_))
   refine splitP hd (fun d hd=>?_) fun d hd=>?_
   · rw [d]
     exact .ks 7 r (.nilS [76,3,1] r r (.condKT r r (.sr (.ks 1 r (.nilS [2] r r (.drop .z (.ret (pret results30 (.t r .n) b ⟨7,r,hd⟩))))))))
   rw [d]
   refine .gyes r r r (.fa un25 r sz23 r (o:=4) r r r (.gyes r r r (.load1 ia23 r .z r r r (.ks 1 r ?_))))
   obtain ⟨A,a2,x,hd⟩:=hd
   obtain ⟨a3,o130,Y,V,F,G⟩:=R3.2 _ _ x
   cases G
   refine .gyes r r r (.ixa un23 sz2 r V r A (idx_lt x A) r r (.gyes r r r (.ld1 (j:=0) ia2 F r r r r r (.ks 2 r (.nilS [76,3,1] r r (.condP r hd (fun H hd=>?_) fun H hd=>?_))))))
   · exact .sr (.ks 1 r (.nilS [2] r r (.drop .z (.ret (pret results30 (.t r .n) b ⟨7,r,hd⟩)))))
   exact .skipS [3,1] r r (.region (.ks 3 r (.nil' fun c w ho hs=>⟨(w64 (u+1)),hd,T,a,ho.sub ⟨r,r,trivial⟩,hs.pick (.c .z .n)⟩)))
 exact .exitS [] r r (.drop .z (.sr (.ks 1 r (.nilS [2] r r (.ret (pret results30 (.t r .n) b ⟨0,r,hd⟩))))))
theorem W_ref05_Right {I:IH} {a0:Graph} {p1:Option Addr} {c2:Nat} {Q:Int→Prop} (R3:RepSl eEdge I p1 c2 a0.Edges) (hd:ref05_Right a0 Q) :
  PFun prog 31 [.agg #[.int .i64 a0.N,.slice p1 a0.Edges.length c2]] I (fun _=>o0_ Q):=by
 refine Fun.enter func31 r ntmps31 r (.c .n) fun w0 M=>?_
 refine .sr (.boxA r r r fun A=>?_)
 refine .ks 1 r (.nilS [1] r r (.seq (.sr (.fa un28 r sz3 r (o:=0) r r r (.load1 ia3 r .z r r r (.ks 1 r (.nilS [8,1] r r (.condP r hd (fun W hd=>?_) fun W hd=>?_))))))))
 · exact .sr (.ks 1 r (.nilS [2] r r (.drop .z (.ret (pret results31 (.t r .n) (.refl _) ⟨3,r,hd⟩)))))
 refine .skipS [1] r r (.seq (.sr (.fa un28 r sz3 r (o:=0) r r r (.load1 ia3 r .z r r r (.ks 2 r ?_)))))
 refine splitP hd (fun k hd=>?_) fun k hd=>?_
 · rw [k]
   exact .ks 5 r (.nilS [17,1] r r (.condKT r r (.sr (.ks 1 r (.nilS [2] r r (.drop .z (.ret (pret results31 (.t r .n) (.refl _) ⟨5,r,hd⟩))))))))
 rw [k]
 refine .gyes r r r (.fa un28 r sz26 r (o:=1) r r r (.gyes r r r (.load1 ia26 r .z r r r (.gyes r r r (.len un26 r r r r (.ks 2 r (.nilS [17,1] r r (.condP r hd (fun O hd=>?_) fun O hd=>?_))))))))
 · exact .sr (.ks 1 r (.nilS [2] r r (.drop .z (.ret (pret results31 (.t r .n) (.refl _) ⟨5,r,hd⟩)))))
 refine .skipS [1] r r (.seq (.sr (.ks 1 r (.nilS [3,1] r r (.block (.loop hd (fun (l:Int) c w=>∃ I_,IH.le I I_∧Ok ⟨75,[],none⟩ [(1,.pointer (some ⟨A,0,none⟩)),(3,.int .i64 l)] c∧Sym w0 M I I_ [pto A (.cells #[.int .i64 a0.N,.slice p1 a0.Edges.length c2] 28 (0,0))] w) (fun c w ho hs=>⟨I,(.refl _),ho.sub ⟨r,r,trivial⟩,hs.pick (.c .z .n)⟩) ?_))))))
 rintro l U hd c w hst
 obtain ⟨m,a,hok,hsym⟩:=hst
 replace R3:=R3.mono a
 refine Cod.at hok hsym (.seq (.sr (.ks 1 r (.fa un28 r sz26 r (o:=1) r r r (.load1 ia26 r .z r r r (.len un26 r r r r (.ks 1 r (.nilS [22,3,1] r r (.condP r hd (fun B hd=>?_) fun B hd=>?_)))))))))
 · refine .skipS [3,1] r r (.seq (.block (.sr (.fa un28 r sz26 r (o:=1) r r r (.load1 ia26 r .z r r r (.ks 1 r ?_))))))
   obtain ⟨v,a1,p,hd⟩:=hd
   obtain ⟨a2,o185,X,P,C,D⟩:=R3.2 _ _ p
   cases D
   refine .ixa un26 sz70 r P r v (idx_lt p v) r r (.ldW ia70 sz70 C r r r r (.allocA zv70 r r fun a3=>?_))
   refine .storeA sz70 r r .z (.t (.t (.t .nil))) r r (.nilS [4,3,1] r r (.sr (.fa un70 r sz3 r (o:=0) r r r (.load1 ia3 r .z r r r (.ks 2 r ?_)))))
   refine splitP hd (fun d hd=>?_) fun d hd=>?_
   · rw [d]
     exact .ks 18 r (.nilS [51,3,1] r r (.drop .z (.condKT r r (.sr (.ks 1 r (.nilS [2] r r (.drop .z (.ret (pret results31 (.t r .n) a ⟨3,r,hd⟩)))))))))
   rw [d]
   refine .gyes r r r (.fa un70 r sz3 r (o:=0) r r r (.gyes r r r (.load1 ia3 r .z r r r (.gyes r r r (.fa un28 r sz3 r (o:=0) r r r (.gyes r r r (.load1 ia3 r (.s .z) r r r (.ks 3 r ?_))))))))
   refine splitP hd (fun e hd=>?_) fun e hd=>?_
   · rw [e]
     exact .ks 11 r (.nilS [51,3,1] r r (.drop .z (.condKT r r (.sr (.ks 1 r (.nilS [2] r r (.drop .z (.ret (pret results31 (.t r .n) a ⟨3,r,hd⟩)))))))))
   rw [e]
   refine .gyes r r r (.fa un70 r sz3 r (o:=1) r r r (.gyes r r r (.load1 ia3 r .z r r r (.ks 3 r ?_))))
   refine splitP hd (fun f hd=>?_) fun f hd=>?_
   · rw [f]
     exact .ks 6 r (.nilS [51,3,1] r r (.drop .z (.condKT r r (.sr (.ks 1 r (.nilS [2] r r (.drop .z (.ret (pret results31 (.t r .n) a ⟨3,r,hd⟩)))))))))
   rw [f]
   refine .gyes r r r (.fa un70 r sz3 r (o:=1) r r r (.gyes r r r (.load1 ia3 r .z r r r (.gyes r r r (.fa un28 r sz3 r (o:=0) r r r (.gyes r r r (.load1 ia3 r (.s .z) r r r (.ks 2 r (.nilS [51,3,1] r r (.drop .z (.condP r hd (fun E hd=>?_) fun E hd=>?_)))))))))))
   · exact .sr (.ks 1 r (.nilS [2] r r (.drop .z (.ret (pret results31 (.t r .n) a ⟨3,r,hd⟩)))))
   exact .skipS [3,1] r r (.region (.ks 3 r (.nil' fun c w ho hs=>⟨(w64 (l+1)),hd,m,a,ho.sub ⟨r,r,trivial⟩,hs.pick (.c .z .n)⟩)))
 refine .exitS [1] r r (.seq (.sr (.ks 1 r (.nilS [5,1] r r (.block (.loop hd (fun (b:Int) c w=>∃ I_,IH.le m I_∧Ok ⟨75,[],none⟩ [(1,.pointer (some ⟨A,0,none⟩)),(5,.int .i64 b)] c∧Sym w0 M I I_ [pto A (.cells #[.int .i64 a0.N,.slice p1 a0.Edges.length c2] 28 (0,0))] w) (fun c w ho hs=>⟨m,(.refl _),ho.sub ⟨r,r,trivial⟩,hs.pick (.c .z .n)⟩) ?_))))))
 rintro b V hd c w hst
 obtain ⟨R,g,hok,hsym⟩:=hst
 have h:=IH.le.trans a g
 replace R3:=R3.mono g
 refine Cod.at hok hsym (.seq (.sr (.ks 1 r (.fa un28 r sz26 r (o:=1) r r r (.load1 ia26 r .z r r r (.len un26 r r r r (.ks 1 r (.nilS [56,5,1] r r (.condP r hd (fun F hd=>?_) fun F hd=>?_)))))))))
 · refine .skipS [5,1] r r (.seq (.block (.sr (.fa un28 r sz26 r (o:=1) r r r (.load1 ia26 r .z r r r (.ks 1 r ?_))))))
   obtain ⟨x,a4,q,hd⟩:=hd
   obtain ⟨a5,o254,Y,S,G,H⟩:=R3.2 _ _ q
   cases H
   refine .ixa un26 sz70 r S r x (idx_lt q x) r r (.fa un70 r sz2 r (o:=o254+b.toNat*3+2) r r r (.ld1 (j:=2) ia2 G r r r r r (.ks 2 r ?_)))
   refine splitP hd (fun i hd=>?_) fun i hd=>?_
   · rw [i]
     exact .ks 8 r (.nilS [74,5,1] r r (.condKT r r (.sr (.ks 1 r (.nilS [2] r r (.drop .z (.ret (pret results31 (.t r .n) h ⟨7,r,hd⟩))))))))
   rw [i]
   refine .gyes r r r (.fa un28 r sz26 r (o:=1) r r r (.gyes r r r (.load1 ia26 r .z r r r (.ks 1 r ?_))))
   obtain ⟨y,a6,u,hd⟩:=hd
   obtain ⟨a7,o264,Z,T,J,K⟩:=R3.2 _ _ u
   cases K
   refine .gyes r r r (.ixa un26 sz70 r T r y (idx_lt u y) r r (.gyes r r r (.fa un70 r sz2 r (o:=o264+b.toNat*3+2) r r r (.gyes r r r (.ld1 (j:=2) ia2 J r r r r r (.ks 2 r (.nilS [74,5,1] r r (.condP r hd (fun L hd=>?_) fun L hd=>?_))))))))
   · exact .sr (.ks 1 r (.nilS [2] r r (.drop .z (.ret (pret results31 (.t r .n) h ⟨7,r,hd⟩)))))
   exact .skipS [5,1] r r (.region (.ks 3 r (.nil' fun c w ho hs=>⟨(w64 (b+1)),hd,R,g,ho.sub ⟨r,r,trivial⟩,hs.pick (.c .z .n)⟩)))
 exact .exitS [] r r (.drop .z (.sr (.ks 1 r (.nilS [2] r r (.ret (pret results31 (.t r .n) h ⟨0,r,hd⟩))))))
theorem W_ref02_Is {I:IH} {a0:Int} {Q:Bool→Prop}  (hd:ref02_Is a0 Q) :
  PFun prog 157 [.int .i64 a0] I (fun _=>o2_ Q):=by
 refine Fun.enter func157 r ntmps157 r (.c .n) fun w0 M=>?_
 refine .sr (.ks 1 r (.nilS [0] r r (.sr (.ks 3 r ?_))))
 refine splitP hd (fun a hd=>?_) fun a hd=>?_
 · rw [a]
   exact .ks 4 r (.nilS [2] r r (.ret (pret results157 (.t r .n) (.refl _) ⟨(decide (a0≤5)),r,hd⟩)))
 rw [a]
 exact .ks 4 r (.nilS [2] r r (.ret (pret results157 (.t r .n) (.refl _) ⟨false,r,hd⟩)))
theorem W_ref05_below {I:IH} {a0:Edge} {a1:Edge} {Q:Bool→Prop}  (hd:ref05_below a0 a1 Q) :
  PFun prog 158 [.agg (encEdge a0).toArray,.agg (encEdge a1).toArray] I (fun _=>o2_ Q):=by
 refine Fun.enter func158 r ntmps158 r (.c (.c .n)) fun w0 M=>?_
 refine .sr (.boxA r r r fun d=>?_)
 refine .boxA r r r fun e=>?_
 refine .ks 1 r (.nilS [3,2] r r (.sr (.fa un70 r sz3 r (o:=0) r r r (.load1 ia3 r (.s .z) r r r (.fa un70 r sz3 r (o:=0) r r r (.load1 ia3 r .z r r r (.ks 2 r ?_)))))))
 refine splitP hd (fun b hd=>?_) fun b hd=>?_
 · rw [b]
   exact .ks 14 r (.nilS [4] r r (.drop .z (.drop .z (.ret (pret results158 (.t r .n) (.refl _) ⟨true,r,hd⟩)))))
 rw [b]
 refine .gyes r r r (.fa un70 r sz3 r (o:=0) r r r (.gyes r r r (.load1 ia3 r (.s .z) r r r (.gyes r r r (.fa un70 r sz3 r (o:=0) r r r (.gyes r r r (.load1 ia3 r .z r r r (.ks 2 r ?_))))))))
 refine splitP hd (fun a hd=>?_) fun a hd=>?_
 · rw [a]
   exact .gyes r r r (.fa un70 r sz3 r (o:=1) r r r (.gyes r r r (.load1 ia3 r (.s .z) r r r (.gyes r r r (.fa un70 r sz3 r (o:=1) r r r (.gyes r r r (.load1 ia3 r .z r r r (.ks 4 r (.nilS [4] r r (.drop .z (.drop .z (.ret (pret results158 (.t r .n) (.refl _) ⟨(decide (a0.To<a1.To)),r,hd⟩)))))))))))))
 rw [a]
 exact .ks 8 r (.nilS [4] r r (.drop .z (.drop .z (.ret (pret results158 (.t r .n) (.refl _) ⟨false,r,hd⟩)))))
theorem W_ref01_Of {I:IH} {a0:Int} {Q:Wide→Prop}  (hd:ref01_Of a0 Q) :
  PFun prog 159 [.int .i64 a0] I (fun _=>o3_ Q):=by
 refine Fun.enter func159 r ntmps159 r (.c .n) fun w0 M=>?_
 refine .sr (.allocA zv155 r r fun b=>?_)
 refine .nilS [2,0] r r (.seq (.sr (.ks 2 r (.nilS [4,2,0] r r (.condP r hd (fun a hd=>?_) fun a hd=>?_)))))
 · exact .sr (.ks 1 r (.conv un2 un96 r r r (.build zv155 un155 BI155 (.c r r r (.t .nil) (.c r r r (.s (.t .nil)) .n)) (by exact ⟨⟨_,_,r,r,r⟩,⟨⟨_,_,r,r,r⟩,trivial⟩⟩) r r (.storeA sz155 r r .z (.t (.t .nil)) r r (.nilS [2] r r (.ret (pret results159 (.w ia155 sz155 r .z r .n) (.refl _) ⟨({ Hi:=(-1),Lo:=IntKind.wrap .u64 (a0) }:Wide),r,hd⟩)))))))
 exact .skipS [2,0] r r (.sr (.ks 1 r (.conv un2 un96 r r r (.build zv155 un155 BI155 (.c r r r (.s (.t .nil)) .n) (by exact ⟨⟨_,_,r,r,r⟩,trivial⟩) r r (.storeA sz155 r r .z (.t (.t .nil)) r r (.nilS [2] r r (.ret (pret results159 (.w ia155 sz155 r .z r .n) (.refl _) ⟨({ Hi:=0,Lo:=IntKind.wrap .u64 (a0) }:Wide),r,hd⟩))))))))
theorem W_ref01_Compare {I:IH} {a0:Wide} {a1:Wide} {Q:Int→Prop}  (hd:ref01_Compare a0 a1 Q) :
  PFun prog 185 [.agg (encWide a0).toArray,.agg (encWide a1).toArray] I (fun _=>o0_ Q):=by
 refine Fun.enter func185 r ntmps185 r (.c (.c .n)) fun w0 M=>?_
 refine .sr (.boxA r r r fun g=>?_)
 refine .boxA r r r fun h=>?_
 refine .ks 1 r (.nilS [3,2] r r (.seq ?_))
 refine Cod.joinQ (σ:=Unit) hd (fun (_:Unit) c w=>∃ I_,IH.le I I_∧Ok ⟨27,[],none⟩ [(2,.pointer (some ⟨g,0,none⟩)),(3,.pointer (some ⟨h,0,none⟩))] c∧Sym w0 M I I_ [pto g (.cells #[.int .i64 a0.Hi,.int .u64 a0.Lo] 155 (0,0)),pto h (.cells #[.int .i64 a1.Hi,.int .u64 a1.Lo] 155 (0,0))] w) (fun i hd=>?_) ?_
 · skip
   refine .sr (.fa un155 r sz2 r (o:=0) r r r (.load1 ia2 r (.s .z) r r r (.fa un155 r sz2 r (o:=0) r r r (.load1 ia2 r .z r r r (.ks 2 r ?_)))))
   refine splitP hd (fun a hd=>?_) fun a hd=>?_
   · rw [a]
     exact .ks 13 r (.nilS [23,3,2] r r (.condKT r r (.sr (.ks 1 r (.nilS [4] r r (.drop .z (.drop .z (.ret (pret results185 (.t r .n) (.refl _) ⟨(-1),r,hd⟩)))))))))
   rw [a]
   refine .gyes r r r (.fa un155 r sz2 r (o:=0) r r r (.gyes r r r (.load1 ia2 r (.s .z) r r r (.gyes r r r (.fa un155 r sz2 r (o:=0) r r r (.gyes r r r (.load1 ia2 r .z r r r (.ks 2 r ?_))))))))
   refine splitP hd (fun b hd=>?_) fun b hd=>?_
   · rw [b]
     refine .gyes r r r (.fa un155 r sz96 r (o:=1) r r r (.gyes r r r (.load1 ia96 r (.s .z) r r r (.gyes r r r (.fa un155 r sz96 r (o:=1) r r r (.gyes r r r (.load1 ia96 r .z r r r (.ks 3 r (.nilS [23,3,2] r r (.condP r hd (fun e hd=>?_) fun e hd=>?_))))))))))
     · exact .sr (.ks 1 r (.nilS [4] r r (.drop .z (.drop .z (.ret (pret results185 (.t r .n) (.refl _) ⟨(-1),r,hd⟩))))))
     exact .skip' fun c w ho hs=>⟨(),hd,I,(.refl _),ho.sub ⟨r,r,trivial⟩,hs.pick (.c (.s .z) (.c .z .n))⟩
   rw [b]
   exact .ks 7 r (.nilS [23,3,2] r r (.condKF r r (.skip' fun c w ho hs=>⟨(),hd,I,(.refl _),ho.sub ⟨r,r,trivial⟩,hs.pick (.c (.s .z) (.c .z .n))⟩)))
 rintro ⟨⟩ hd c w hst
 obtain ⟨j,d,hok,hsym⟩:=hst
 refine Cod.at hok hsym (.seq (.sr (.loadW ia155 sz155 r .z r r r (.loadW ia155 sz155 r (.s .z) r r r (.eqV r r (EQ155 a0 a1) (EG155 _ _ _ _ _) r r r (.nilS [26] r r (.drop .z (.drop .z (.condP r hd (fun f hd=>?_) fun f hd=>?_)))))))))
 · exact .sr (.ks 1 r (.nilS [4] r r (.ret (pret results185 (.t r .n) d ⟨0,r,hd⟩))))
 exact .skipS [] r r (.sr (.ks 1 r (.nilS [4] r r (.ret (pret results185 (.t r .n) d ⟨1,r,hd⟩)))))
theorem W_ref02_truth {I:IH} {a0:Bool} {Q:Wide→Prop}  (hd:ref02_truth a0 Q) :
  PFun prog 186 [.bool a0] I (fun _=>o3_ Q):=by
 refine Fun.enter func186 r ntmps186 r (.c .n) fun w0 M=>?_
 refine .sr (.allocA zv155 r r fun b=>?_)
 refine .nilS [2,0] r r (.seq (.sr (.ks 1 r (.nilS [3,2] r r (.condP r hd (fun a hd=>?_) fun a hd=>?_)))))
 · exact .sr (.build zv155 un155 BI155 (.c r r r (.s (.t .nil)) .n) (by exact ⟨⟨_,_,r,r,r⟩,trivial⟩) r r (.storeA sz155 r r .z (.t (.t .nil)) r r (.nilS [2] r r (.ret (pret results186 (.w ia155 sz155 r .z r .n) (.refl _) ⟨({ Hi:=0,Lo:=1 }:Wide),r,hd⟩)))))
 exact .skipS [2] r r (.sr (.build zv155 un155 BI155 .n (by exact trivial) r r (.storeA sz155 r r .z (.t (.t .nil)) r r (.nilS [2] r r (.ret (pret results186 (.w ia155 sz155 r .z r .n) (.refl _) ⟨({ Hi:=0,Lo:=0 }:Wide),r,hd⟩))))))
theorem W_ref01_Add {I:IH} {a0:Wide} {a1:Wide} {Q:Wide→Prop}  (hd:ref01_Add a0 a1 Q) :
  PFun prog 187 [.agg (encWide a0).toArray,.agg (encWide a1).toArray] I (fun _=>o3_ Q):=by
 refine Fun.enter func187 r ntmps187 r (.c (.c .n)) fun w0 M=>?_
 refine .sr (.boxA r r r fun d=>?_)
 refine .boxA r r r fun e=>?_
 refine .allocA zv155 r r fun b=>?_
 refine .nilS [4,3,2] r r (.sr (.fa un155 r sz96 r (o:=1) r r r (.load1 ia96 r (.s (.s .z)) r r r (.fa un155 r sz96 r (o:=1) r r r (.load1 ia96 r (.s .z) r r r (.ks 2 r (.nilS [5,4,3,2] r r (.sr (.fa un155 r sz2 r (o:=0) r r r ?_)))))))))
 refine .load1 ia2 r (.s (.s .z)) r r r (.fa un155 r sz2 r (o:=0) r r r (.load1 ia2 r (.s .z) r r r (.ks 2 r (.nilS [6,5,4,2] r r (.drop (.s .z) (.seq (.sr (.ks 1 r (.fa un155 r sz96 r (o:=1) r r r ?_)))))))))
 refine .load1 ia96 r (.s .z) r r r (.ks 1 r (.nilS [20,6,5,4] r r (.drop (.s .z) (.condP r hd (fun a hd=>?_) fun a hd=>?_))))
 · exact .region (.ks 3 r (.nilS [6,5,4] r r (.sr (.ks 2 r (.build zv155 un155 BI155 (.c r r r (.t .nil) (.c r r r (.s (.t .nil)) .n)) (by exact ⟨⟨_,_,r,r,r⟩,⟨⟨_,_,r,r,r⟩,trivial⟩⟩) r r (.storeA sz155 r r .z (.t (.t .nil)) r r (.nilS [4] r r (.ret (pret results187 (.w ia155 sz155 r .z r .n) (.refl _) ⟨({ Hi:=w64 ((w64 (a0.Hi+a1.Hi))+1),Lo:=IntKind.wrap .u64 (a0.Lo+a1.Lo) }:Wide),r,hd⟩)))))))))
 exact .skipS [6,5,4] r r (.sr (.ks 2 r (.build zv155 un155 BI155 (.c r r r (.t .nil) (.c r r r (.s (.t .nil)) .n)) (by exact ⟨⟨_,_,r,r,r⟩,⟨⟨_,_,r,r,r⟩,trivial⟩⟩) r r (.storeA sz155 r r .z (.t (.t .nil)) r r (.nilS [4] r r (.ret (pret results187 (.w ia155 sz155 r .z r .n) (.refl _) ⟨({ Hi:=w64 (a0.Hi+a1.Hi),Lo:=IntKind.wrap .u64 (a0.Lo+a1.Lo) }:Wide),r,hd⟩)))))))
theorem W_ref02_Add {I:IH} {a0:Int} {a1:Wide} {a2:Wide} {Q:Wide→Prop}  (hd:ref02_Add a0 a1 a2 Q) :
  PFun prog 160 [.int .i64 a0,.agg (encWide a1).toArray,.agg (encWide a2).toArray] I (fun _=>o3_ Q):=by
 refine Fun.enter func160 r ntmps160 r (.c (.c (.c .n))) fun w0 M=>?_
 refine .sr (.boxA r r r fun A=>?_)
 refine .boxA r r r fun B=>?_
 refine .allocA zv155 r r fun e=>?_
 refine .nilS [6,5,4,0] r r (.sr (.ks 1 r (.nilS [7,6,5,4] r r (.block (.seq ?_)))))
 refine Cod.joinQ (σ:=Bool) hd (fun (f:Bool) c w=>∃ I_,IH.le I I_∧Ok ⟨35,[],none⟩ [(4,.pointer (some ⟨A,0,none⟩)),(5,.pointer (some ⟨B,0,none⟩)),(6,.pointer (some ⟨e,0,none⟩)),(7,.int .i64 a0),(9,.bool f)] c∧Sym w0 M I I_ [pto A (.cells #[.int .i64 a1.Hi,.int .u64 a1.Lo] 155 (0,0)),pto B (.cells #[.int .i64 a2.Hi,.int .u64 a2.Lo] 155 (0,0)),pto e (.cells #[.int .i64 0,.int .u64 0] 155 (0,0))] w) (fun F hd=>?_) ?_
 · skip
   refine .sr (.ks 2 r (.nilS [9,7,6,5,4] r r (.condP r hd (fun g hd=>?_) fun g hd=>?_)))
   · exact .skip' fun c w ho hs=>⟨(a0==1),hd,I,(.refl _),ho.sub ⟨r,r,r,r,r,trivial⟩,hs.pick (.c (.s (.s .z)) (.c (.s .z) (.c .z .n)))⟩
   refine .sr (.ks 2 r (.nilS [9,7,6,5,4] r r (.condP r hd (fun h hd=>?_) fun h hd=>?_)))
   · exact .skip' fun c w ho hs=>⟨(a0==3),hd,I,(.refl _),ho.sub ⟨r,r,r,r,r,trivial⟩,hs.pick (.c (.s (.s .z)) (.c (.s .z) (.c .z .n)))⟩
   exact .region (.ks 2 r (.nil' fun c w ho hs=>⟨(a0==4),hd,I,(.refl _),ho.sub ⟨r,r,r,r,r,trivial⟩,hs.pick (.c (.s (.s .z)) (.c (.s .z) (.c .z .n)))⟩))
 rintro f hd c w hst
 obtain ⟨d,a,hok,hsym⟩:=hst
 refine Cod.at hok hsym (.condP r hd (fun i hd=>?_) fun i hd=>?_)
 · refine .seq (.sr (.loadW ia155 sz155 r (.s .z) r r r (.loadW ia155 sz155 r .z r r r ?_)))
   have j:=W_ref01_Compare (I:=d) hd
   refine .callP call185 r j r r fun G k=>?_
   obtain ⟨H,rfl,hd⟩:=k
   refine .ks 1 r (.nilS [16,6,5,4] r r (.condP r hd (fun l hd=>?_) fun l hd=>?_))
   · exact .sr (.loadW ia155 sz155 r (.s .z) r r r (.storeA sz155 r r (.s (.s .z)) (.t (.t .nil)) r r (.nilS [6] r r (.drop .z (.drop .z (.ret (pret results160 (.w ia155 sz155 r .z r .n) a ⟨a2,r,hd⟩)))))))
   exact .skipS [6,4] r r (.drop (.s .z) (.sr (.loadW ia155 sz155 r .z r r r (.storeA sz155 r r (.s .z) (.t (.t .nil)) r r (.nilS [6] r r (.drop .z (.ret (pret results160 (.w ia155 sz155 r .z r .n) a ⟨a1,r,hd⟩))))))))
 refine .sr (.ks 2 r (.nilS [19,7,6,5,4] r r (.condP r hd (fun m hd=>?_) fun m hd=>?_)))
 · refine .sr (.loadW ia155 sz155 r .z r r r (.build zv155 un155 BI155 .n (by exact trivial) r r (.neV r r (EQ155 a1 ({ Hi:=0,Lo:=0 }:Wide)) (EG155 _ _ _ _ _) r r r (.ks 1 r ?_))))
   refine splitP hd (fun b hd=>?_) fun b hd=>?_
   · rw [b]
     refine .ks 4 r ?_
     have o:=W_ref02_truth (I:=d) hd
     refine .callP call186 r o r r fun J p=>?_
     obtain ⟨C,rfl,hd⟩:=p
     exact .storeA sz155 r r (.s (.s .z)) (.t (.t .nil)) r r (.nilS [6] r r (.drop .z (.drop .z (.ret (pret results160 (.w ia155 sz155 r .z r .n) a ⟨C,r,hd⟩)))))
   rw [b]
   refine .gyes r r r (.loadW ia155 sz155 r (.s .z) r r r (.gyes r r r (.build zv155 un155 BI155 .n (by exact trivial) r r (.gyes r r r (.neV r r (EQ155 a2 ({ Hi:=0,Lo:=0 }:Wide)) (EG155 _ _ _ _ _) r r r (.ks 1 r ?_))))))
   have q:=W_ref02_truth (I:=d) hd
   refine .callP call186 r q r r fun K u=>?_
   obtain ⟨D,rfl,hd⟩:=u
   exact .storeA sz155 r r (.s (.s .z)) (.t (.t .nil)) r r (.nilS [6] r r (.drop .z (.drop .z (.ret (pret results160 (.w ia155 sz155 r .z r .n) a ⟨D,r,hd⟩)))))
 refine .sr (.ks 2 r (.nilS [30,6,5,4] r r (.condP r hd (fun v hd=>?_) fun v hd=>?_)))
 · refine .sr (.loadW ia155 sz155 r .z r r r (.loadW ia155 sz155 r (.s .z) r r r ?_))
   have x:=W_ref01_Add (I:=d) hd
   refine .callP call187 r x r r fun L y=>?_
   obtain ⟨E,rfl,hd⟩:=y
   exact .storeA sz155 r r (.s (.s .z)) (.t (.t .nil)) r r (.nilS [6] r r (.drop .z (.drop .z (.ret (pret results160 (.w ia155 sz155 r .z r .n) a ⟨E,r,hd⟩)))))
 exact .sr (.build zv155 un155 BI155 .n (by exact trivial) r r (.storeA sz155 r r (.s (.s .z)) (.t (.t .nil)) r r (.nilS [6] r r (.drop .z (.drop .z (.ret (pret results160 (.w ia155 sz155 r .z r .n) a ⟨({ Hi:=0,Lo:=0 }:Wide),r,hd⟩)))))))
theorem W_ref01_Narrow {I:IH} {a0:Wide} {Q:(Int×Bool)→Prop}  (hd:ref01_Narrow a0 Q) :
  PFun prog 161 [.agg (encWide a0).toArray] I (fun _=>o4_ Q):=by
 refine Fun.enter func161 r ntmps161 r (.c .n) fun w0 M=>?_
 refine .sr (.boxA r r r fun h=>?_)
 refine .ks 2 r (.nilS [1] r r (.sr (.fa un155 r sz96 r (o:=1) r r r (.load1 ia96 r .z r r r (.conv un96 un2 r r r (.ks 1 r (.nilS [4,1] r r (.seq (.sr ?_)))))))))
 refine .fa un155 r sz2 r (o:=0) r r r (.load1 ia2 r .z r r r (.ks 2 r ?_))
 refine splitP hd (fun a hd=>?_) fun a hd=>?_
 · rw [a]
   refine .ks 4 r ?_
   refine splitP hd (fun b hd=>?_) fun b hd=>?_
   · rw [b]
     exact .ks 8 r (.nilS [23,4] r r (.drop .z (.condKT r r (.sr (.ks 3 r (.nilS [3,2] r r (.ret (pret results161 (.t r (.t r .n)) (.refl _) ⟨(w64 (a0.Lo),true),r,hd⟩))))))))
   rw [b]
   refine .gyes r r r (.fa un155 r sz2 r (o:=0) r r r (.gyes r r r (.load1 ia2 r .z r r r (.ks 2 r ?_))))
   refine splitP hd (fun d hd=>?_) fun d hd=>?_
   · rw [d]
     refine .ks 4 r (.nilS [23,4] r r (.drop .z (.condP r hd (fun g hd=>?_) fun g hd=>?_)))
     · exact .sr (.ks 3 r (.nilS [3,2] r r (.ret (pret results161 (.t r (.t r .n)) (.refl _) ⟨(w64 (a0.Lo),true),r,hd⟩))))
     exact .skipS [] r r (.sr (.ks 2 r (.nilS [3,2] r r (.ret (pret results161 (.t r (.t r .n)) (.refl _) ⟨(0,false),r,hd⟩)))))
   rw [d]
   exact .ks 4 r (.nilS [23,4] r r (.drop .z (.condKF r r (.skipS [] r r (.sr (.ks 2 r (.nilS [3,2] r r (.ret (pret results161 (.t r (.t r .n)) (.refl _) ⟨(0,false),r,hd⟩)))))))))
 rw [a]
 refine .ks 4 r (.gyes r r r (.fa un155 r sz2 r (o:=0) r r r (.gyes r r r (.load1 ia2 r .z r r r (.ks 2 r ?_)))))
 refine splitP hd (fun e hd=>?_) fun e hd=>?_
 · rw [e]
   refine .ks 4 r (.nilS [23,4] r r (.drop .z (.condP r hd (fun f hd=>?_) fun f hd=>?_)))
   · exact .sr (.ks 3 r (.nilS [3,2] r r (.ret (pret results161 (.t r (.t r .n)) (.refl _) ⟨(w64 (a0.Lo),true),r,hd⟩))))
   exact .skipS [] r r (.sr (.ks 2 r (.nilS [3,2] r r (.ret (pret results161 (.t r (.t r .n)) (.refl _) ⟨(0,false),r,hd⟩)))))
 rw [e]
 exact .ks 4 r (.nilS [23,4] r r (.drop .z (.condKF r r (.skipS [] r r (.sr (.ks 2 r (.nilS [3,2] r r (.ret (pret results161 (.t r (.t r .n)) (.refl _) ⟨(0,false),r,hd⟩)))))))))
theorem W_ref05_Combine {I:IH} {a0:Int} {a1:List Edge} {p1:Option Addr} {c2:Nat} {Q:((List Edge)×Int)→Prop} (R3:RepSl eEdge I p1 c2 a1) (hd:ref05_Combine a0 a1 Q) :
  OFun prog 111 [.int .i64 a0,.slice p1 a1.length c2] I (fun I_ v l=>∃ r p4 c5,v=.tuple #[.slice p4 r.1.length c5,.int .i64 r.2]∧l=[OwnSl eEdge 70 p4 c5 r.1]∧Q r):=by
 refine Fun.enter func111 r ntmps111 r (.c (.c .n)) fun w0 M=>?_
 refine .sr (.ks 2 r (.nilS [1,0] r r (.seq (.sr (.ks 1 r ?_)))))
 have k6:=W_ref02_Is (I:=I) hd
 refine .callP call157 r k6 r r fun q0 k7=>?_
 obtain ⟨q1,rfl,hd⟩:=k7
 refine .ks 1 r (.nilS [17,1,0] r r (.condP r hd (fun k8 hd=>?_) fun k8 hd=>?_))
 · exact .sr (.ks 2 r (.nilS [5,4] r r (.own0 eEdge 70 (.ret (oret results111 (.t r (.t r .n)) (.refl _) (.c .z .n) ⟨(([]:List Edge),8),_,_,r,r,hd⟩)))))
 refine .skipS [1,0] r r (.sr (.ks 1 r (.nilS [6,1,0] r r (.sr (.ks 1 r (.nilS [7,6,1,0] r r (.seq (.sr (.ks 1 r ?_)))))))))
 refine .nilS [8,7,6,1,0] r r (.block (.own0 eEdge 70 (.own0 eWide 155 (.loop hd (fun (s:(List Edge)×(List Wide)×Int) c w=>match s with | (m,d,h)=>∃ I_ u x i e,IH.le I I_∧Ok ⟨145,[],none⟩ [(0,.int .i64 a0),(1,.slice p1 a1.length c2),(6,.slice u m.length x),(7,.slice i d.length e),(8,.int .i64 h)] c∧Sym w0 M I I_ [OwnSl eEdge 70 u x m,OwnSl eWide 155 i e d] w) (fun c w ho hs=>⟨I,_,_,_,_,(.refl _),ho.sub ⟨r,r,r,r,r,trivial⟩,hs.pick (.c (.s .z) (.c .z .n))⟩) ?_))))
 rintro ⟨m,d,h⟩ k9 hd c w hst
 obtain ⟨H,u,x,i,e,J,hok,hsym⟩:=hst
 replace R3:=R3.mono J
 refine Cod.at hok hsym (.seq (.sr (.ks 2 r (.len un26 r r r r (.ks 1 r (.nilS [21,8,7,6,1,0] r r (.condP r hd (fun g0 hd=>?_) fun g0 hd=>?_)))))))
 · refine .skipS [8,7,6,1,0] r r (.seq (.block (.sr (.ks 1 r (.nilS [9,8,7,6,1,0] r r (.seq ?_))))))
   refine Cod.joinQ (σ:=Int) hd (fun (f:Int) c w=>∃ I_,IH.le H I_∧Ok ⟨145,[],none⟩ [(0,.int .i64 a0),(1,.slice p1 a1.length c2),(6,.slice u m.length x),(7,.slice i d.length e),(8,.int .i64 h),(9,.int .i64 f)] c∧Sym w0 M I I_ [OwnSl eEdge 70 u x m,OwnSl eWide 155 i e d] w) (fun m4 hd=>?_) ?_
   · skip
     refine .block (.loop hd (fun (K:Int) c w=>∃ I_,IH.le H I_∧Ok ⟨145,[],none⟩ [(0,.int .i64 a0),(1,.slice p1 a1.length c2),(6,.slice u m.length x),(7,.slice i d.length e),(8,.int .i64 h),(9,.int .i64 K)] c∧Sym w0 M I I_ [OwnSl eEdge 70 u x m,OwnSl eWide 155 i e d] w) (fun c w ho hs=>⟨H,(.refl _),ho.sub ⟨r,r,r,r,r,r,trivial⟩,hs.pick (.c .z (.c .z .n))⟩) ?_)
     rintro K l0 hd c w hst
     obtain ⟨T,F,hok,hsym⟩:=hst
     have l6:=IH.le.trans J F
     replace R3:=R3.mono F
     refine Cod.at hok hsym (.seq (.seq (.ownF .z fun f5=>?_)))
     refine .ownF (.s .z) fun l3=>?_
     refine .dr [0,1,2,3,4,5,6,7,8,9,10,11,12,13,14] 15 (.fk 2 r (.g r r r (fun _=>.len un26 r r r r .mk) (.fk 2 r ?_)))
     refine splitP hd (fun b hd=>?_) fun b hd=>?_
     · refine .g r r r (fun _=>.gyes r r b (.move r r r .mk)) (.g r r r (fun _=>.gyes r r b (.move r r r .mk)) ?_)
       obtain ⟨d1,m5,a2,hd⟩:=hd
       obtain ⟨m6,j1⟩:=f5 (idx_ne a2)
       cases j1
       refine .g r r r (fun _=>.gyes r r b (.ixa0 un26 sz70 r r d1 (idx_lt a2 d1) r r .mk)) (.g r r r (fun _=>.gyes r r b (.loA (j:=0) ia70 sz70 .z a2 r r (.t (.t (.t .nil))) r r r .mk)) (.g r r r (fun _=>.gyes r r b (.move r r r .mk)) (.g r r r (fun _=>.gyes r r b (.move r r r .mk)) ?_)))
       obtain ⟨d2,m7,b8,hd⟩:=hd
       obtain ⟨m8,o2887,l7,j2,g1,g2⟩:=R3.2 _ _ b8
       cases g2
       refine .g r r r (fun _=>.gyes r r b (.ixa un26 sz70 r j2 r d2 (idx_lt b8 d2) r r .mk)) (.g r r r (fun _=>.gyes r r b (.ldW ia70 sz70 g1 r r r r .mk)) (.ww r fun ex=>?_))
       have g3:=W_ref05_below (I:=T) hd
       refine .gyes r r b (.callP call158 r g3 r r fun m9 g4=>?_)
       obtain ⟨n0,rfl,hd⟩:=g4
       refine .so 2 r r r trivial (.g r r r (fun _=>.pickT r b r r r .mk) (.e2 15 (.nilS [38,9,8,7,6,1,0] r r (.condP r hd (fun g5 hd=>?_) fun g5 hd=>?_))))
       · exact .skipS [9,8,7,6,1,0] r r (.block (.region (.ks 3 r (.nil' fun c w ho hs=>⟨(w64 (K+1)),hd,T,F,ho.sub ⟨r,r,r,r,r,r,trivial⟩,hs.pick (.c .z (.c .z .n))⟩))))
       exact .exit fun c w ho hs=>⟨K,hd,T,F,ho.sub ⟨r,r,r,r,r,r,trivial⟩,hs.pick (.c .z (.c .z .n))⟩
     refine .g r r r (fun _=>.gno r r b r r .mk) (.g r r r (fun _=>.gno r r b r r .mk) (.g r r r (fun _=>.gno r r b r r .mk) (.g r r r (fun _=>.gno r r b r r .mk) (.g r r r (fun _=>.gno r r b r r .mk) (.g r r r (fun _=>.gno r r b r r .mk) (.g r r r (fun _=>.gno r r b r r .mk) (.g r r r (fun _=>.gno r r b r r .mk) (.g r r r (fun _=>.gno r r b r r .mk) (.g r r r (fun _=>.pickF r b r r r .mk) ?_)))))))))
     exact .e2 15 (.nilS [38,9,8,7,6,1,0] r r (.condKF r r (.exit fun c w ho hs=>⟨K,hd,T,F,ho.sub ⟨r,r,r,r,r,r,trivial⟩,hs.pick (.c .z (.c .z .n))⟩)))
   rintro f hd c w hst
   obtain ⟨L,a3,hok,hsym⟩:=hst
   have g6:=IH.le.trans J a3
   replace R3:=R3.mono a3
   refine Cod.at hok hsym (.sr (.ks 2 r ?_))
   obtain ⟨d3,n1,b9,hd⟩:=hd
   obtain ⟨n2,o2919,l8,j3,g7,g8⟩:=R3.2 _ _ b9
   cases g8
   refine .ixa un26 sz70 r j3 r d3 (idx_lt b9 d3) r r (.fa un70 r sz2 r (o:=o2919+h.toNat*3+2) r r r (.ld1 (j:=2) ia2 g7 r r r r r ?_))
   have g9:=W_ref01_Of (I:=L) hd
   refine .callP call159 r g9 r r fun n3 h0=>?_
   obtain ⟨y,rfl,hd⟩:=h0
   refine .allocA zv155 r r fun U=>?_
   refine .storeA sz155 r r .z (.t (.t .nil)) r r (.nilS [10,9,8,7,6,1,0] r r (.seq (.seq ?_)))
   refine Cod.joinQ (σ:=Bool) hd (fun (d4:Bool) c w=>∃ I_,IH.le L I_∧Ok ⟨145,[],none⟩ [(0,.int .i64 a0),(1,.slice p1 a1.length c2),(6,.slice u m.length x),(7,.slice i d.length e),(8,.int .i64 h),(9,.int .i64 f),(10,.pointer (some ⟨U,0,none⟩)),(62,.bool d4)] c∧Sym w0 M I I_ [OwnSl eEdge 70 u x m,OwnSl eWide 155 i e d,pto U (.cells #[.int .i64 y.Hi,.int .u64 y.Lo] 155 (0,0))] w) (fun n4 hd=>?_) ?_
   · skip
     refine .ownF (.s .z) fun f6=>?_
     refine .ownF (.s (.s .z)) fun l4=>?_
     refine .dr [0,1,2,3,4,5,6,7,8,9,10,11,12,13,14,15] 16 (.fk 2 r (.g r r r (fun _=>.len un26 r r r r .mk) (.fk 2 r ?_)))
     refine splitP hd (fun a hd=>?_) fun a hd=>?_
     · refine .g r r r (fun _=>.gyes r r a (.move r r r .mk)) (.g r r r (fun _=>.gyes r r a (.move r r r .mk)) ?_)
       obtain ⟨d5,n5,c0,hd⟩:=hd
       obtain ⟨n6,o3065,l9,j4,h1,h2⟩:=R3.2 _ _ c0
       cases h2
       refine .g r r r (fun _=>.gyes r r a (.ixa un26 sz70 r j4 r d5 (idx_lt c0 d5) r r .mk)) (.g r r r (fun _=>.gyes r r a (.ldW ia70 sz70 h1 r r r r .mk)) (.g r r r (fun _=>.gyes r r a (.move r r r .mk)) (.g r r r (fun _=>.gyes r r a (.move r r r .mk)) ?_)))
       obtain ⟨d6,n7,a4,hd⟩:=hd
       obtain ⟨n8,j5⟩:=f6 (idx_ne a4)
       cases j5
       refine .g r r r (fun _=>.gyes r r a (.ixa0 un26 sz70 r r d6 (idx_lt a4 d6) r r .mk)) (.g r r r (fun _=>.gyes r r a (.loA (j:=0) ia70 sz70 (.s .z) a4 r r (.t (.t (.t .nil))) r r r .mk)) (.ww r fun ex=>?_))
       have h3:=W_ref05_below (I:=L) hd
       refine .gyes r r a (.callP call158 r h3 r r fun n9 h4=>?_)
       obtain ⟨j6,rfl,hd⟩:=h4
       exact .so 3 r r r trivial (.g r r r (fun _=>.gyes r r a (.not r r r .mk)) (.g r r r (fun _=>.pickT r a r r r .mk) (.e2 16 (.nil' fun c w ho hs=>⟨(!j6),hd,L,(.refl _),ho.sub ⟨r,r,r,r,r,r,r,r,trivial⟩,hs.pick (.c (.s .z) (.c (.s .z) (.c .z .n)))⟩))))
     refine .g r r r (fun _=>.gno r r a r r .mk) (.g r r r (fun _=>.gno r r a r r .mk) (.g r r r (fun _=>.gno r r a r r .mk) (.g r r r (fun _=>.gno r r a r r .mk) (.g r r r (fun _=>.gno r r a r r .mk) (.g r r r (fun _=>.gno r r a r r .mk) (.g r r r (fun _=>.gno r r a r r .mk) (.g r r r (fun _=>.gno r r a r r .mk) (.g r r r (fun _=>.gno r r a r r .mk) (.g r r r (fun _=>.gno r r a r r .mk) ?_)))))))))
     exact .g r r r (fun _=>.pickF r a r r r .mk) (.e2 16 (.nil' fun c w ho hs=>⟨false,hd,L,(.refl _),ho.sub ⟨r,r,r,r,r,r,r,r,trivial⟩,hs.pick (.c (.s .z) (.c (.s .z) (.c .z .n)))⟩))
   rintro d4 hd c w hst
   obtain ⟨V,N,hok,hsym⟩:=hst
   have c1:=IH.le.trans g6 N
   have h5:=IH.le.trans a3 N
   replace R3:=R3.mono N
   refine Cod.at hok hsym (.condP r hd (fun h6 hd=>?_) fun h6 hd=>?_)
   · refine .seq (.ownF .z fun l5=>?_)
     refine .ownF (.s .z) fun f7=>?_
     refine .dr [0,1,2,3,4,5,6,7,8] 9 (.fk 5 r ?_)
     obtain ⟨d7,o0,a5,hd⟩:=hd
     obtain ⟨b2,j7⟩:=f7 (idx_ne a5)
     cases j7
     refine .g r r r (fun _=>.ixa0 un179 sz155 r r d7 (idx_lt a5 d7) r r .mk) (.g r r r (fun _=>.loA (j:=0) ia155 sz155 (.s .z) a5 r r (.t (.t .nil)) r r r .mk) (.g r r r (fun _=>.loadW ia155 sz155 r (.s (.s .z)) r r r .mk) (.ww r fun ex=>?_)))
     have h7:=W_ref02_Add (I:=V) hd
     refine .callP call160 r h7 r r fun o1 h8=>?_
     obtain ⟨O,rfl,hd⟩:=h8
     refine .so 3 r r r (.ck 2 r r trivial) (.e2 9 ?_)
     obtain ⟨d8,o2,c3,hd⟩:=hd
     exact .ixa0 un179 sz155 r r d8 (idx_lt c3 d8) r r (.stOA (j:=0) (v':=O) sz155 (.s .z) c3 r r r (.t (.t .nil)) r r (.sub (E':=[(0,_),(1,_),(6,_),(7,.slice (some ⟨b2,0,none⟩) (d.set f.toNat O).length e),(8,_),(9,_),(10,_),(62,_),(63,.slice (some ⟨b2,0,none⟩) (d.set f.toNat O).length e),(64,_),(65,_),(66,.slice (some ⟨b2,0,none⟩) (d.set f.toNat O).length e),(67,_),(68,_),(69,_),(70,_),(71,_),(72,_)]) ⟨r,r,r,(by simp only [List.length_set]; rfl),r,r,r,r,(by simp only [List.length_set]; rfl),r,r,(by simp only [List.length_set]; rfl),r,r,r,r,r,r,trivial⟩ (.nilS [8,7,6,1,0] r r (.drop (.s (.s .z)) (.exitS [8,7,6,1,0] r r (.region (.ks 3 r (.nil' fun c w ho hs=>⟨(m,(d.set f.toNat O),w64 (h+1)),hd,V,_,_,_,_,c1,ho.sub ⟨r,r,r,r,r,trivial⟩,hs.pick (.c .z (.c .z .n))⟩))))))))
   refine .skipS [10,9,8,7,6,1,0] r r (.sr (.ks 1 r (.build zv70 un70 BI70 .n (by exact trivial) r r (.buildSlice 1 un26 sz70 zv70 r r (.c r r r .n) r r fun o3=>?_))))
   obtain ⟨h9,hd⟩:=hd
   refine .append (ys:=[({ From:=0,To:=0,W:=0 }:Edge)]) 24 (.s .z) un26 un26 IN70 r r r r r r r r r (.box .z (.one r) r) h9 r r fun o4 o5=>?_
   refine .ks 1 r (.nilS [6,10,9,8,7,1,0] r r (.drop (.s .z) (.sr (.ks 1 r (.build zv155 un155 BI155 .n (by exact trivial) r r (.buildSlice 1 un179 sz155 zv155 r r (.c r r r .n) r r fun o6=>?_))))))
   obtain ⟨i0,hd⟩:=hd
   refine .append (ys:=[({ Hi:=0,Lo:=0 }:Wide)]) 16 (.s (.s .z)) un179 un179 IN155 r r r r r r r r r (.box .z (.one r) r) i0 r r fun o7 o8=>?_
   refine .ks 1 r (.nilS [7,6,10,9,8,1,0] r r (.drop (.s .z) (.seq (.sr (.ks 1 r (.len un26 r r r r (.ks 2 r (.nilS [11,7,6,10,9,8,1,0] r r (.block ?_)))))))))
   refine .loop hd (fun (s:(List Edge)×(List Wide)×Int) c w=>match s with | (p,q,k)=>∃ I_ b3 A b4 B,IH.le V I_∧Ok ⟨145,[],none⟩ [(0,.int .i64 a0),(1,.slice p1 a1.length c2),(6,.slice b3 p.length A),(7,.slice b4 q.length B),(8,.int .i64 h),(9,.int .i64 f),(10,.pointer (some ⟨U,0,none⟩)),(11,.int .i64 k)] c∧Sym w0 M I I_ [OwnSl eEdge 70 b3 A p,OwnSl eWide 155 b4 B q,pto U (.cells #[.int .i64 y.Hi,.int .u64 y.Lo] 155 (0,0))] w) (fun c w ho hs=>⟨V,_,_,_,_,(.refl _),ho.sub ⟨r,r,r,r,r,r,r,r,trivial⟩,hs.pick (.c (.s .z) (.c .z (.c .z .n)))⟩) ?_
   rintro ⟨p,q,k⟩ l1 hd c w hst
   obtain ⟨d9,b3,A,b4,B,G,hok,hsym⟩:=hst
   have i1:=IH.le.trans c1 G
   have m0:=IH.le.trans h5 G
   have m1:=IH.le.trans N G
   replace R3:=R3.mono G
   refine Cod.at hok hsym (.seq (.sr (.ks 3 r (.nilS [86,11,10,9,8,7,6,1,0] r r (.condP r hd (fun i2 hd=>?_) fun i2 hd=>?_)))))
   · refine .skipS [11,10,9,8,7,6,1,0] r r (.seq (.block (.sr (.ks 5 r ?_))))
     obtain ⟨e0,P,a6,hd⟩:=hd
     refine .ownNe .z (idx_ne a6) fun b5 j8=>?_
     cases j8
     refine .ixa0 un26 sz70 r r e0 (idx_lt a6 e0) r r (.loA (j:=0) ia70 sz70 .z a6 r r (.t (.t (.t .nil))) r r r ?_)
     obtain ⟨e1,o9,c4,hd⟩:=hd
     refine .ixa0 un26 sz70 r r e1 (idx_lt c4 e1) r r (.stOA (j:=0) (v':=P) sz70 .z c4 r r r (.t (.t (.t .nil))) r r (.sub (E':=[(0,_),(1,_),(6,.slice (some ⟨b5,0,none⟩) (p.set k.toNat P).length A),(7,_),(8,_),(9,_),(10,_),(11,_),(89,.slice (some ⟨b5,0,none⟩) (p.set k.toNat P).length A),(90,_),(91,.slice (some ⟨b5,0,none⟩) (p.set k.toNat P).length A),(92,_),(93,_),(94,_),(95,_),(96,_)]) ⟨r,r,(by simp only [List.length_set]; rfl),r,r,r,r,r,(by simp only [List.length_set]; rfl),r,(by simp only [List.length_set]; rfl),r,r,r,r,r,trivial⟩ (.nilS [11,10,9,8,7,6,1,0] r r (.region (.ks 5 r ?_)))))
     obtain ⟨e3,R,a7,hd⟩:=hd
     refine .ownNe (.s .z) (idx_ne a7) fun b6 j9=>?_
     cases j9
     refine .ixa0 un179 sz155 r r e3 (idx_lt a7 e3) r r (.loA (j:=0) ia155 sz155 (.s .z) a7 r r (.t (.t .nil)) r r r ?_)
     obtain ⟨e4,p0,c6,hd⟩:=hd
     exact .ixa0 un179 sz155 r r e4 (idx_lt c6 e4) r r (.stOA (j:=0) (v':=R) sz155 (.s .z) c6 r r r (.t (.t .nil)) r r (.sub (E':=[(0,_),(1,_),(6,_),(7,.slice (some ⟨b6,0,none⟩) (q.set k.toNat R).length B),(8,_),(9,_),(10,_),(11,_),(97,.slice (some ⟨b6,0,none⟩) (q.set k.toNat R).length B),(98,_),(99,.slice (some ⟨b6,0,none⟩) (q.set k.toNat R).length B),(100,_),(101,_),(102,_),(103,_),(104,_)]) ⟨r,r,r,(by simp only [List.length_set]; rfl),r,r,r,r,(by simp only [List.length_set]; rfl),r,(by simp only [List.length_set]; rfl),r,r,r,r,r,trivial⟩ (.nilS [11,10,9,8,7,6,1,0] r r (.region (.ks 3 r (.nil' fun c w ho hs=>⟨((p.set k.toNat P),(q.set k.toNat R),w64 (k - 1)),hd,d9,_,_,_,_,G,ho.sub ⟨r,r,r,r,r,r,r,r,trivial⟩,hs.pick (.c .z (.c .z (.c .z .n)))⟩))))))
   refine .exitS [10,9,8,7,6,1,0] r r (.seq (.ownF .z fun f8=>?_))
   refine .ownF (.s .z) fun f9=>?_
   refine .dr [0,1,2,3,4,5,6,7,8,9,10,11,12] 13 (.fk 4 r ?_)
   obtain ⟨e5,X,c7,hd⟩:=hd
   obtain ⟨p2,o3320,m2,k0,i3,i4⟩:=R3.2 _ _ c7
   cases i4
   refine .g r r r (fun _=>.ixa un26 sz70 r k0 r e5 (idx_lt c7 e5) r r .mk) (.g r r r (fun _=>.fa un70 r sz3 r (o:=o3320+h.toNat*3) r r r .mk) (.g r r r (fun _=>.ld1 (j:=0) ia3 i3 r r r r r .mk) (.fk 2 r ?_)))
   obtain ⟨e6,Y,c8,hd⟩:=hd
   obtain ⟨p3,o3329,m3,k1,i5,i6⟩:=R3.2 _ _ c8
   cases i6
   refine .g r r r (fun _=>.ixa un26 sz70 r k1 r e6 (idx_lt c8 e6) r r .mk) (.g r r r (fun _=>.fa un70 r sz3 r (o:=o3329+h.toNat*3+1) r r r .mk) (.g r r r (fun _=>.ld1 (j:=1) ia3 i5 r r r r r .mk) (.g r r r (fun _=>.build zv70 un70 BI70 (.c r r r (.t .nil) (.c r r r (.s (.t .nil)) .n)) (by exact ⟨⟨_,_,r,r,r⟩,⟨⟨_,_,r,r,r⟩,trivial⟩⟩) r r .mk) (.e2 13 ?_))))
   obtain ⟨e7,p5,a8,hd⟩:=hd
   obtain ⟨e8,k2⟩:=f8 (idx_ne a8)
   cases k2
   refine .ixa0 un26 sz70 r r e7 (idx_lt a8 e7) r r (.stOA (j:=0) (v':=({ From:=X.From,To:=Y.To,W:=0 }:Edge)) sz70 .z a8 r r r (.t (.t (.t .nil))) r r (.sub (E':=[(0,_),(1,_),(6,.slice (some ⟨e8,0,none⟩) (p.set f.toNat ({ From:=X.From,To:=Y.To,W:=0 }:Edge)).length A),(7,_),(8,_),(9,_),(10,_),(105,.slice (some ⟨e8,0,none⟩) (p.set f.toNat ({ From:=X.From,To:=Y.To,W:=0 }:Edge)).length A),(106,_),(107,_),(108,_),(109,_),(110,_),(111,_),(112,_),(113,_),(114,_),(115,_),(116,_),(117,_),(118,_)]) ⟨r,r,(by simp only [List.length_set]; rfl),r,r,r,r,(by simp only [List.length_set]; rfl),r,r,r,r,r,r,r,r,r,r,r,r,r,trivial⟩ (.nilS [10,9,8,7,6,1,0] r r (.region (.ks 2 r (.loadW ia155 sz155 r (.s (.s .z)) r r r ?_))))))
   obtain ⟨e9,p6,a9,hd⟩:=hd
   obtain ⟨f0,k3⟩:=f9 (idx_ne a9)
   cases k3
   exact .ixa0 un179 sz155 r r e9 (idx_lt a9 e9) r r (.stOA (j:=0) (v':=y) sz155 (.s .z) a9 r r r (.t (.t .nil)) r r (.sub (E':=[(0,_),(1,_),(6,_),(7,.slice (some ⟨f0,0,none⟩) (q.set f.toNat y).length B),(8,_),(9,_),(10,_),(119,.slice (some ⟨f0,0,none⟩) (q.set f.toNat y).length B),(120,_),(121,_),(122,_)]) ⟨r,r,r,(by simp only [List.length_set]; rfl),r,r,r,(by simp only [List.length_set]; rfl),r,r,r,trivial⟩ (.nilS [8,7,6,1,0] r r (.drop (.s (.s .z)) (.region (.ks 3 r (.nil' fun c w ho hs=>⟨((p.set f.toNat ({ From:=X.From,To:=Y.To,W:=0 }:Edge)),(q.set f.toNat y),w64 (h+1)),hd,d9,_,_,_,_,i1,ho.sub ⟨r,r,r,r,r,trivial⟩,hs.pick (.c .z (.c .z .n))⟩)))))))
 refine .exitS [7,6] r r (.seq (.sr (.ks 1 r (.nilS [12,7,6] r r (.block (.loop hd (fun (s:(List Edge)×Int) c w=>match s with | (D,E)=>∃ I_ b7 S,IH.le H I_∧Ok ⟨145,[],none⟩ [(6,.slice b7 D.length S),(7,.slice i d.length e),(12,.int .i64 E)] c∧Sym w0 M I I_ [OwnSl eEdge 70 b7 S D,OwnSl eWide 155 i e d] w) (fun c w ho hs=>⟨H,_,_,(.refl _),ho.sub ⟨r,r,r,trivial⟩,hs.pick (.c .z (.c .z .n))⟩) ?_))))))
 rintro ⟨D,E⟩ l2 hd c w hst
 obtain ⟨f1,b7,S,c9,hok,hsym⟩:=hst
 have d0:=IH.le.trans J c9
 refine Cod.at hok hsym (.seq (.sr (.ks 2 r (.len un26 r r r r (.ks 1 r (.nilS [126,12,7,6] r r (.condP r hd (fun i7 hd=>?_) fun i7 hd=>?_)))))))
 · refine .skipS [12,7,6] r r (.seq (.block (.sr (.ks 2 r ?_))))
   obtain ⟨f2,p7,b0,hd⟩:=hd
   refine .ownNe (.s .z) (idx_ne b0) fun p8 k4=>?_
   cases k4
   refine .ixa0 un179 sz155 r r f2 (idx_lt b0 f2) r r (.loA (j:=0) ia155 sz155 (.s .z) b0 r r (.t (.t .nil)) r r r ?_)
   have i8:=W_ref01_Narrow (I:=f1) hd
   refine .callP call161 r i8 r r fun p9 i9=>?_
   obtain ⟨Z,rfl,hd⟩:=i9
   refine .ks 5 r (.nilS [14,13,12,7,6] r r (.seq (.sr (.ks 2 r (.nilS [138,13,12,7,6] r r (.condP r hd (fun j0 hd=>?_) fun j0 hd=>?_))))))
   · exact .sr (.ks 2 r (.nilS [5,4] r r (.drop .z (.drop .z (.own0 eEdge 70 (.ret (oret results111 (.t r (.t r .n)) d0 (.c .z .n) ⟨(([]:List Edge),12),_,_,r,r,hd⟩)))))))
   refine .skipS [13,12,7,6] r r (.region (.ks 3 r ?_))
   obtain ⟨f3,C,b1,hd⟩:=hd
   refine .ownNe .z (idx_ne b1) fun f4 k5=>?_
   cases k5
   exact .ixa0 un26 sz70 r r f3 (idx_lt b1 f3) r r (.fa un70 r sz2 r (o:=E.toNat*3+2) r r r (.stO1 (j:=2) (v':=({ From:=C.From,To:=C.To,W:=Z.1 }:Edge)) sz2 .z b1 r r r (.s (.s (.t .nil))) r (.sub (E':=[(6,.slice (some ⟨f4,0,none⟩) (D.set E.toNat ({ From:=C.From,To:=C.To,W:=Z.1 }:Edge)).length S),(7,_),(12,_),(13,_),(139,.slice (some ⟨f4,0,none⟩) (D.set E.toNat ({ From:=C.From,To:=C.To,W:=Z.1 }:Edge)).length S),(140,_),(141,_),(142,_),(143,_)]) ⟨(by simp only [List.length_set]; rfl),r,r,r,(by simp only [List.length_set]; rfl),r,r,r,r,trivial⟩ (.nilS [12,7,6] r r (.region (.ks 3 r (.nil' fun c w ho hs=>⟨((D.set E.toNat ({ From:=C.From,To:=C.To,W:=Z.1 }:Edge)),w64 (E+1)),hd,f1,_,_,c9,ho.sub ⟨r,r,r,trivial⟩,hs.pick (.c .z (.c .z .n))⟩)))))))
 exact .exitS [6] r r (.drop (.s .z) (.sr (.ks 3 r (.nilS [5,4] r r (.ret (oret results111 (.t r (.t r .n)) d0 (.c .z .n) ⟨(D,0),_,_,r,r,hd⟩))))))
theorem W_ref05_Canon {I:IH} {a0:Graph} {p1:Option Addr} {c2:Nat} {Q:Graph→Prop} (R3:RepSl eEdge I p1 c2 a0.Edges) (hd:ref05_Canon a0 Q) :
  OFun prog 59 [.agg #[.int .i64 a0.N,.slice p1 a0.Edges.length c2]] I (fun _=>o11_ Q):=by
 refine Fun.enter func59 r ntmps59 r (.c .n) fun w0 M=>?_
 refine .sr (.boxA r r r fun f=>?_)
 refine .allocA zv28 r r fun g=>?_
 refine .nilS [2,1] r r (.sr (.fa un28 r sz26 r (o:=1) r r r (.load1 ia26 r (.s .z) r r r ?_)))
 have b:=W_ref05_Combine (I:=I) R3 hd
 refine .callO call111 r b r r fun h i j a d=>?_
 obtain ⟨e,k,l,rfl,rfl,hd⟩:=d
 replace R3:=R3.mono a
 refine .ks 5 r (.nilS [3,2,1] r r (.sr (.fa un28 r sz3 r (o:=0) r r r (.load1 ia3 r (.s (.s .z)) r r r (.ks 1 r (.build zv28 un28 BI28 (.c r r r (.t .nil) (.c r r r (.s (.t .nil)) .n)) (by exact ⟨⟨_,_,r,r,r⟩,⟨⟨_,_,r,r,r⟩,trivial⟩⟩) r r (.storeA sz28 r r (.s .z) (.t (.t .nil)) r r (.nilS [2] r r (.drop (.s (.s .z)) ?_)))))))))
 exact .ret (oret results59 (.w ia28 sz28 r (.s .z) r .n) a (.c .z .n) ⟨({ N:=a0.N,Edges:=e.1 }:Graph),_,_,r,r,hd⟩)
theorem W_ref05_Plain {I:IH} {a0:Graph} {p1:Option Addr} {c2:Nat} {Q:Graph→Prop} (R3:RepSl eEdge I p1 c2 a0.Edges) (hd:ref05_Plain a0 Q) :
  PFun prog 32 [.agg #[.int .i64 a0.N,.slice p1 a0.Edges.length c2]] I (o1_ Q):=by
 refine Fun.enter func32 r ntmps32 r (.c .n) fun w0 M=>?_
 refine .sr (.boxA r r r fun K=>?_)
 refine .allocA zv28 r r fun L=>?_
 refine .nilS [2,1] r r (.sr (.fa un28 r sz3 r (o:=0) r r r (.load1 ia3 r (.s .z) r r r (.build zv28 un28 BI28 (.c r r r (.t .nil) .n) (by exact ⟨⟨_,_,r,r,r⟩,trivial⟩) r r (.allocA zv28 r r fun O=>?_)))))
 refine .storeA sz28 r r .z (.t (.t .nil)) r r (.nilS [3,2,1] r r (.seq (.sr (.ks 1 r (.nilS [4,3,2,1] r r (.block (.own0 eEdge 70 (.loop hd (fun (s:(List Edge)×Int) c w=>match s with | (a,b)=>∃ I_ k l,IH.le I I_∧Ok ⟨35,[],none⟩ [(1,.pointer (some ⟨K,0,none⟩)),(2,.pointer (some ⟨L,0,none⟩)),(3,.pointer (some ⟨O,0,none⟩)),(4,.int .i64 b)] c∧Sym w0 M I I_ [pto K (.cells #[.int .i64 a0.N,.slice p1 a0.Edges.length c2] 28 (0,0)),pto L (.cells #[.int .i64 0,.slice none 0 0] 28 (0,0)),pto O (.cells #[.int .i64 a0.N,.slice k a.length l] 28 (0,0)),OwnSl eEdge 70 k l a] w) (fun c w ho hs=>⟨I,_,_,(.refl _),ho.sub ⟨r,r,r,r,trivial⟩,hs.pick (.c (.s (.s (.s .z))) (.c (.s (.s .z)) (.c (.s .z) (.c .z .n))))⟩) ?_))))))))
 rintro ⟨a,b⟩ X hd c w hst
 obtain ⟨Y,k,l,d,hok,hsym⟩:=hst
 replace R3:=R3.mono d
 refine Cod.at hok hsym (.seq (.sr (.ks 1 r (.fa un28 r sz26 r (o:=1) r r r (.load1 ia26 r .z r r r (.len un26 r r r r (.ks 1 r (.nilS [12,4,3,2,1] r r (.condP r hd (fun P hd=>?_) fun P hd=>?_)))))))))
 · refine .skipS [4,3,2,1] r r (.seq (.block (.ownF (.s (.s (.s .z))) fun Z=>?_)))
   refine .dr [0,1,2,3,4,5,6,7,8,9,10,11,12,13,14,15,16] 17 (.g r r r (fun _=>.fa un28 r sz26 r (o:=1) r r r .mk) (.g r r r (fun _=>.load1 ia26 r (.s (.s .z)) r r r .mk) (.g r r r (fun _=>.fa un28 r sz26 r (o:=1) r r r .mk) (.g r r r (fun _=>.load1 ia26 r .z r r r .mk) (.fk 1 r ?_)))))
   obtain ⟨m,p,f,hd⟩:=hd
   obtain ⟨a3,o104,a1,R,v,x⟩:=R3.2 _ _ f
   cases x
   refine .g r r r (fun _=>.ixa un26 sz70 r R r m (idx_lt f m) r r .mk) (.g r r r (fun _=>.fa un70 r sz3 r (o:=o104+b.toNat*3) r r r .mk) (.g r r r (fun _=>.ld1 (j:=0) ia3 v r r r r r .mk) (.g r r r (fun _=>.fa un28 r sz26 r (o:=1) r r r .mk) (.g r r r (fun _=>.load1 ia26 r .z r r r .mk) (.fk 1 r ?_)))))
   obtain ⟨q,u,h,hd⟩:=hd
   obtain ⟨a4,o113,a2,S,y,A⟩:=R3.2 _ _ h
   cases A
   refine .g r r r (fun _=>.ixa un26 sz70 r S r q (idx_lt h q) r r .mk) (.g r r r (fun _=>.fa un70 r sz3 r (o:=o113+b.toNat*3+1) r r r .mk) (.g r r r (fun _=>.ld1 (j:=1) ia3 y r r r r r .mk) (.g r r r (fun _=>.build zv70 un70 BI70 (.c r r r (.t .nil) (.c r r r (.s (.t .nil)) (.c r r r (.s (.s (.t .nil))) .n))) (by exact ⟨⟨_,_,r,r,r⟩,⟨⟨_,_,r,r,r⟩,⟨⟨_,_,r,r,r⟩,trivial⟩⟩⟩) r r .mk) (.ww r fun ex=>?_))))
   refine .buildSlice 1 un26 sz70 zv70 r r (.c r r r .n) r r fun a5=>?_
   refine .so 5 r r r (.cg r r r r (fun _=>.load1 ia26 r (.s (.s (.s .z))) r r r .mk) (.cg r r r r (fun _=>.fa un28 r sz26 r (o:=1) r r r .mk) trivial)) (.ww r fun ex=>?_)
   obtain ⟨B,hd⟩:=hd
   refine .append (ys:=[({ From:=p.From,To:=u.To,W:=1 }:Edge)]) 24 (.s (.s (.s (.s .z)))) un26 un26 IN70 r r r r r r r r r (.box .z (.one r) r) B r r fun a6 a7=>?_
   exact .so 5 r r r trivial (.e2 17 (.fa un28 r sz26 r (o:=1) r r r (.store1 sz26 r r (.s (.s (.s (.s .z)))) (.s (.t .nil)) r (.nilS [4,3,2,1] r r (.drop (.s .z) (.region (.ks 3 r (.nil' fun c w ho hs=>⟨((a++([({ From:=p.From,To:=u.To,W:=1 }:Edge)])),w64 (b+1)),hd,Y,_,_,d,ho.sub ⟨r,r,r,r,trivial⟩,hs.pick (.c (.s .z) (.c (.s .z) (.c (.s .z) (.c .z .n))))⟩))))))))
 refine .exitS [3,2] r r (.drop .z (.sr (.loadW ia28 sz28 r (.s .z) r r r (.pub (.s (.s .z)) fun T C e=>?_))))
 have D:=IH.le.trans d C
 have E:=W_ref05_Canon (I:=T) (a0:=({ N:=a0.N,Edges:=a }:Graph)) e hd
 refine .callO call59 r E r r fun a8 a9 b0 i F=>?_
 obtain ⟨U,b1,b2,rfl,rfl,hd⟩:=F
 have G:=IH.le.trans D i
 replace e:=e.mono i
 refine .storeA sz28 r r (.s .z) (.t (.t .nil)) r r (.nilS [2] r r (.drop (.s (.s .z)) (.pub .z fun b3 H V=>?_)))
 have J:=IH.le.trans G H
 exact .ret (pret results32 (.w ia28 sz28 r .z r .n) J ⟨U,_,_,r,V,hd⟩)
theorem W_ref05_Turn {I:IH} {a0:Graph} {p1:Option Addr} {c2:Nat} {Q:Graph→Prop} (R3:RepSl eEdge I p1 c2 a0.Edges) (hd:ref05_Turn a0 Q) :
  OFun prog 60 [.agg #[.int .i64 a0.N,.slice p1 a0.Edges.length c2]] I (fun _=>o11_ Q):=by
 refine Fun.enter func60 r ntmps60 r (.c .n) fun w0 M=>?_
 refine .sr (.boxA r r r fun B=>?_)
 refine .allocA zv28 r r fun C=>?_
 refine .nilS [2,1] r r (.sr (.fa un28 r sz3 r (o:=0) r r r (.load1 ia3 r (.s .z) r r r (.build zv28 un28 BI28 (.c r r r (.t .nil) .n) (by exact ⟨⟨_,_,r,r,r⟩,trivial⟩) r r (.allocA zv28 r r fun D=>?_)))))
 refine .storeA sz28 r r .z (.t (.t .nil)) r r (.nilS [3,2,1] r r (.seq (.sr (.ks 1 r (.nilS [4,3,2,1] r r (.block (.own0 eEdge 70 (.loop hd (fun (s:(List Edge)×Int) c w=>match s with | (d,h)=>∃ I_ i j,IH.le I I_∧Ok ⟨35,[],none⟩ [(1,.pointer (some ⟨B,0,none⟩)),(2,.pointer (some ⟨C,0,none⟩)),(3,.pointer (some ⟨D,0,none⟩)),(4,.int .i64 h)] c∧Sym w0 M I I_ [pto B (.cells #[.int .i64 a0.N,.slice p1 a0.Edges.length c2] 28 (0,0)),pto C (.cells #[.int .i64 0,.slice none 0 0] 28 (0,0)),pto D (.cells #[.int .i64 a0.N,.slice i d.length j] 28 (0,0)),OwnSl eEdge 70 i j d] w) (fun c w ho hs=>⟨I,_,_,(.refl _),ho.sub ⟨r,r,r,r,trivial⟩,hs.pick (.c (.s (.s (.s .z))) (.c (.s (.s .z)) (.c (.s .z) (.c .z .n))))⟩) ?_))))))))
 rintro ⟨d,h⟩ J hd c w hst
 obtain ⟨E,i,j,b,hok,hsym⟩:=hst
 replace R3:=R3.mono b
 refine Cod.at hok hsym (.seq (.sr (.ks 1 r (.fa un28 r sz26 r (o:=1) r r r (.load1 ia26 r .z r r r (.len un26 r r r r (.ks 1 r (.nilS [13,4,3,2,1] r r (.condP r hd (fun l hd=>?_) fun l hd=>?_)))))))))
 · refine .skipS [4,3,2,1] r r (.seq (.block (.sr (.fa un28 r sz26 r (o:=1) r r r (.load1 ia26 r .z r r r (.ks 1 r ?_))))))
   obtain ⟨k,a,f,hd⟩:=hd
   obtain ⟨L,o121,K,F,m,p⟩:=R3.2 _ _ f
   cases p
   refine .ixa un26 sz70 r F r k (idx_lt f k) r r (.ldW ia70 sz70 m r r r r (.allocA zv70 r r fun O=>?_))
   refine .storeA sz70 r r .z (.t (.t (.t .nil))) r r (.nilS [5,4,3,2,1] r r (.region (.fa un28 r sz26 r (o:=1) r r r (.load1 ia26 r (.s (.s (.s .z))) r r r (.fa un70 r sz3 r (o:=1) r r r (.load1 ia3 r .z r r r (.fa un70 r sz3 r (o:=0) r r r (.load1 ia3 r .z r r r (.fa un70 r sz2 r (o:=2) r r r ?_)))))))))
   refine .load1 ia2 r .z r r r (.build zv70 un70 BI70 (.c r r r (.t .nil) (.c r r r (.s (.t .nil)) (.c r r r (.s (.s (.t .nil))) .n))) (by exact ⟨⟨_,_,r,r,r⟩,⟨⟨_,_,r,r,r⟩,⟨⟨_,_,r,r,r⟩,trivial⟩⟩⟩) r r (.buildSlice 1 un26 sz70 zv70 r r (.c r r r .n) r r fun P=>?_))
   obtain ⟨q,hd⟩:=hd
   refine .append (ys:=[({ From:=a.To,To:=a.From,W:=a.W }:Edge)]) 24 (.s (.s (.s (.s (.s .z))))) un26 un26 IN70 r r r r r r r r r (.box .z (.one r) r) q r r fun R S=>?_
   exact .fa un28 r sz26 r (o:=1) r r r (.store1 sz26 r r (.s (.s (.s (.s (.s .z))))) (.s (.t .nil)) r (.nilS [4,3,2,1] r r (.drop (.s .z) (.drop (.s .z) (.region (.ks 3 r (.nil' fun c w ho hs=>⟨((d++([({ From:=a.To,To:=a.From,W:=a.W }:Edge)])),w64 (h+1)),hd,E,_,_,b,ho.sub ⟨r,r,r,r,trivial⟩,hs.pick (.c (.s .z) (.c (.s .z) (.c (.s .z) (.c .z .n))))⟩)))))))
 refine .exitS [3,2] r r (.drop .z (.sr (.loadW ia28 sz28 r (.s .z) r r r (.pub (.s (.s .z)) fun G u e=>?_))))
 have v:=IH.le.trans b u
 have x:=W_ref05_Canon (I:=G) (a0:=({ N:=a0.N,Edges:=d }:Graph)) e hd
 refine .callO call59 r x r r fun T U V g y=>?_
 obtain ⟨H,X,Y,rfl,rfl,hd⟩:=y
 have A:=IH.le.trans v g
 replace e:=e.mono g
 exact .storeA sz28 r r (.s .z) (.t (.t .nil)) r r (.nilS [2] r r (.drop (.s (.s .z)) (.ret (oret results60 (.w ia28 sz28 r (.s .z) r .n) A (.c .z .n) ⟨H,_,_,r,r,hd⟩))))
theorem W_ref05_Both {I:IH} {a0:Graph} {p1:Option Addr} {c2:Nat} {Q:Graph→Prop} (R3:RepSl eEdge I p1 c2 a0.Edges) (hd:ref05_Both a0 Q) :
  PFun prog 33 [.agg #[.int .i64 a0.N,.slice p1 a0.Edges.length c2]] I (o1_ Q):=by
 refine Fun.enter func33 r ntmps33 r (.c .n) fun w0 M=>?_
 refine .sr (.boxA r r r fun y=>?_)
 refine .allocA zv28 r r fun A=>?_
 refine .nilS [2,1] r r (.sr (.loadW ia28 sz28 r (.s .z) r r r ?_))
 have f:=W_ref05_Turn (I:=I) R3 hd
 refine .callO call60 r f r r fun B C D a g=>?_
 obtain ⟨e,E,F,rfl,rfl,hd⟩:=g
 replace R3:=R3.mono a
 refine .allocA zv28 r r fun G=>?_
 refine .storeA sz28 r r .z (.t (.t .nil)) r r (.nilS [3,2,1] r r (.sr (.fa un28 r sz26 r (o:=1) r r r (.load1 ia26 r .z r r r (.fa un28 r sz26 r (o:=1) r r r (.load1 ia26 r (.s (.s (.s .z))) r r r ?_))))))
 obtain ⟨h,hd⟩:=hd
 refine .append (ys:=a0.Edges) 24 (.s .z) un26 un26 IN70 r r r r r r r r r (.imm R3 r) h r r fun H J=>?_
 refine .fa un28 r sz26 r (o:=1) r r r (.store1 sz26 r r (.s .z) (.s (.t .nil)) r (.nilS [3,2] r r (.drop (.s (.s (.s .z))) (.sr (.loadW ia28 sz28 r (.s .z) r r r (.pub .z fun u i b=>?_))))))
 have j:=IH.le.trans a i
 have k:=W_ref05_Canon (I:=u) (a0:=({ N:=e.N,Edges:=(e.Edges++a0.Edges) }:Graph)) b hd
 refine .callO call59 r k r r fun K L O d l=>?_
 obtain ⟨v,P,R,rfl,rfl,hd⟩:=l
 have m:=IH.le.trans j d
 replace b:=b.mono d
 refine .storeA sz28 r r (.s (.s .z)) (.t (.t .nil)) r r (.nilS [2] r r (.drop (.s .z) (.pub .z fun S p x=>?_)))
 have q:=IH.le.trans m p
 exact .ret (pret results33 (.w ia28 sz28 r .z r .n) q ⟨v,_,_,r,x,hd⟩)
theorem W_ref05_Simple {I:IH} {a0:Graph} {p1:Option Addr} {c2:Nat} {Q:Graph→Prop} (R3:RepSl eEdge I p1 c2 a0.Edges) (hd:ref05_Simple a0 Q) :
  PFun prog 34 [.agg #[.int .i64 a0.N,.slice p1 a0.Edges.length c2]] I (o1_ Q):=by
 refine Fun.enter func34 r ntmps34 r (.c .n) fun w0 M=>?_
 refine .sr (.boxA r r r fun T=>?_)
 refine .allocA zv28 r r fun U=>?_
 refine .nilS [2,1] r r (.sr (.fa un28 r sz3 r (o:=0) r r r (.load1 ia3 r (.s .z) r r r (.build zv28 un28 BI28 (.c r r r (.t .nil) .n) (by exact ⟨⟨_,_,r,r,r⟩,trivial⟩) r r (.allocA zv28 r r fun V=>?_)))))
 refine .storeA sz28 r r .z (.t (.t .nil)) r r (.nilS [3,2,1] r r (.seq (.sr (.ks 1 r (.nilS [4,3,2,1] r r (.block (.own0 eEdge 70 (.loop hd (fun (s:(List Edge)×Int) c w=>match s with | (a,b)=>∃ I_ e f,IH.le I I_∧Ok ⟨40,[],none⟩ [(1,.pointer (some ⟨T,0,none⟩)),(2,.pointer (some ⟨U,0,none⟩)),(3,.pointer (some ⟨V,0,none⟩)),(4,.int .i64 b)] c∧Sym w0 M I I_ [pto T (.cells #[.int .i64 a0.N,.slice p1 a0.Edges.length c2] 28 (0,0)),pto U (.cells #[.int .i64 0,.slice none 0 0] 28 (0,0)),pto V (.cells #[.int .i64 a0.N,.slice e a.length f] 28 (0,0)),OwnSl eEdge 70 e f a] w) (fun c w ho hs=>⟨I,_,_,(.refl _),ho.sub ⟨r,r,r,r,trivial⟩,hs.pick (.c (.s (.s (.s .z))) (.c (.s (.s .z)) (.c (.s .z) (.c .z .n))))⟩) ?_))))))))
 rintro ⟨a,b⟩ a3 hd c w hst
 obtain ⟨p,e,f,d,hok,hsym⟩:=hst
 replace R3:=R3.mono d
 refine Cod.at hok hsym (.seq (.sr (.ks 1 r (.fa un28 r sz26 r (o:=1) r r r (.load1 ia26 r .z r r r (.len un26 r r r r (.ks 1 r (.nilS [12,4,3,2,1] r r (.condP r hd (fun y hd=>?_) fun y hd=>?_)))))))))
 · refine .skipS [4,3,2,1] r r (.seq (.block (.seq (.ownF (.s (.s (.s .z))) fun a4=>?_))))
   refine .dr [0,1,2,3,4,5,6,7,8,9,10,11,12] 13 (.g r r r (fun _=>.fa un28 r sz26 r (o:=1) r r r .mk) (.g r r r (fun _=>.load1 ia26 r .z r r r .mk) (.fk 1 r ?_)))
   obtain ⟨q,a9,i,hd⟩:=hd
   obtain ⟨b0,o181,a6,W,A,B⟩:=R3.2 _ _ i
   cases B
   refine .g r r r (fun _=>.ixa un26 sz70 r W r q (idx_lt i q) r r .mk) (.g r r r (fun _=>.fa un70 r sz3 r (o:=o181+b.toNat*3) r r r .mk) (.g r r r (fun _=>.ld1 (j:=0) ia3 A r r r r r .mk) (.g r r r (fun _=>.fa un28 r sz26 r (o:=1) r r r .mk) (.g r r r (fun _=>.load1 ia26 r .z r r r .mk) (.fk 1 r ?_)))))
   obtain ⟨u,b1,k,hd⟩:=hd
   obtain ⟨b2,o190,a7,X,C,D⟩:=R3.2 _ _ k
   cases D
   refine .g r r r (fun _=>.ixa un26 sz70 r X r u (idx_lt k u) r r .mk) (.g r r r (fun _=>.fa un70 r sz3 r (o:=o190+b.toNat*3+1) r r r .mk) (.g r r r (fun _=>.ld1 (j:=1) ia3 C r r r r r .mk) (.fk 1 r (.e2 13 (.nilS [27,4,3,2,1] r r (.condP r hd (fun E hd=>?_) fun E hd=>?_))))))
   · refine .ownF (.s (.s (.s .z))) fun a5=>?_
     refine .dr [0,1,2,3,4,5,6,7,8] 9 (.g r r r (fun _=>.fa un28 r sz26 r (o:=1) r r r .mk) (.g r r r (fun _=>.load1 ia26 r (.s (.s .z)) r r r .mk) (.g r r r (fun _=>.fa un28 r sz26 r (o:=1) r r r .mk) (.g r r r (fun _=>.load1 ia26 r .z r r r .mk) (.fk 1 r ?_)))))
     obtain ⟨v,x,l,hd⟩:=hd
     obtain ⟨b3,o201,a8,Y,F,G⟩:=R3.2 _ _ l
     cases G
     refine .g r r r (fun _=>.ixa un26 sz70 r Y r v (idx_lt l v) r r .mk) (.g r r r (fun _=>.ldW ia70 sz70 F r r r r .mk) (.ww r fun ex=>?_))
     refine .buildSlice 1 un26 sz70 zv70 r r (.c r r r .n) r r fun b4=>?_
     refine .so 5 r r r (.cg r r r r (fun _=>.load1 ia26 r (.s (.s (.s .z))) r r r .mk) (.cg r r r r (fun _=>.fa un28 r sz26 r (o:=1) r r r .mk) trivial)) (.ww r fun ex=>?_)
     obtain ⟨H,hd⟩:=hd
     refine .append (ys:=[x]) 24 (.s (.s (.s (.s .z)))) un26 un26 IN70 r r r r r r r r r (.box .z (.one r) r) H r r fun b5 b6=>?_
     exact .so 5 r r r trivial (.e2 9 (.fa un28 r sz26 r (o:=1) r r r (.store1 sz26 r r (.s (.s (.s (.s .z)))) (.s (.t .nil)) r (.nilS [4,3,2,1] r r (.drop (.s .z) (.region (.ks 3 r (.nil' fun c w ho hs=>⟨((a++([x])),w64 (b+1)),hd,p,_,_,d,ho.sub ⟨r,r,r,r,trivial⟩,hs.pick (.c (.s .z) (.c (.s .z) (.c (.s .z) (.c .z .n))))⟩))))))))
   exact .skipS [4,3,2,1] r r (.region (.ks 3 r (.nil' fun c w ho hs=>⟨(a,w64 (b+1)),hd,p,_,_,d,ho.sub ⟨r,r,r,r,trivial⟩,hs.pick (.c .z (.c .z (.c .z (.c .z .n))))⟩)))
 refine .exitS [3,2] r r (.drop .z (.sr (.loadW ia28 sz28 r (.s .z) r r r (.pub (.s (.s .z)) fun Z J h=>?_))))
 have K:=IH.le.trans d J
 have L:=W_ref05_Canon (I:=Z) (a0:=({ N:=a0.N,Edges:=a }:Graph)) h hd
 refine .callO call59 r L r r fun b7 b8 b9 m O=>?_
 obtain ⟨a1,c0,c1,rfl,rfl,hd⟩:=O
 have P:=IH.le.trans K m
 replace h:=h.mono m
 refine .storeA sz28 r r (.s .z) (.t (.t .nil)) r r (.nilS [2] r r (.drop (.s (.s .z)) (.pub .z fun c3 R a2=>?_)))
 have S:=IH.le.trans P R
 exact .ret (pret results34 (.w ia28 sz28 r .z r .n) S ⟨a1,_,_,r,a2,hd⟩)
theorem W_ref07_Empty {I:IH} {a0:Int} {a1:Int} {Q:Rows→Prop}  (hd:ref07_Empty a0 a1 Q) :
  OFun prog 112 [.int .i64 a0,.int .i64 a1] I (fun _=>o7_ Q):=by
 refine Fun.enter func112 r ntmps112 r (.c (.c .n)) fun w0 M=>?_
 refine .sr (.allocA zv53 r r fun d=>?_)
 refine .nilS [4,1,0] r r (.sr (.ks 4 r ?_))
 obtain ⟨a,b,hd⟩:=hd
 refine .make (El:=eI64) (zv:=0) 8 un51 IN3 r r r r r r a b r r r fun e=>?_
 exact .build zv53 un53 BI53 (.c r r r (.t .nil) (.c r r r (.s (.t .nil)) (.c r r r (.s (.s (.t .nil))) .n))) (by exact ⟨⟨_,_,r,r,r⟩,⟨⟨_,_,r,r,r⟩,⟨⟨_,_,r,r,r⟩,trivial⟩⟩⟩) r r (.storeA sz53 r r (.s .z) (.t (.t (.t (.t (.t .nil))))) r r (.nilS [4] r r (.own0 eI64 3 (.own0 eI64 2 (.ret (oret results112 (.w ia53 sz53 r (.s (.s (.s .z))) r .n) (.refl _) (.c (.s (.s .z)) (.c (.s .z) (.c .z .n))) ⟨({ Rows:=a0,Cols:=a1,Start:=(List.replicate (w64 (a0+1)).toNat 0),Col:=([]:List Int),Val:=([]:List Int) }:Rows),_,_,_,_,_,_,r,r,hd⟩))))))
theorem W_ref07_built {I:IH} {a0:Int} {a1:Int} {a2:List Triple} {p1:Option Addr} {c2:Nat} {Q:Rows→Prop} (R3:RepSl eTriple I p1 c2 a2) (hd:ref07_built a0 a1 a2 Q) :
  PFun prog 61 [.int .i64 a0,.int .i64 a1,.slice p1 a2.length c2] I (o8_ Q):=by
 refine Fun.enter func61 r ntmps61 r (.c (.c (.c .n))) fun w0 M=>?_
 refine .sr (.allocA zv53 r r fun S=>?_)
 refine .nilS [6,2,1,0] r r (.sr (.ks 2 r ?_))
 have c9:=W_ref07_Empty (I:=I) hd
 refine .callO call112 r c9 r r fun g0 c8 g1 Z d0=>?_
 obtain ⟨h,g2,g3,g4,g5,g6,g7,rfl,rfl,hd⟩:=d0
 replace R3:=R3.mono Z
 refine .allocA zv53 r r fun C=>?_
 refine .storeA sz53 r r .z (.t (.t (.t (.t (.t .nil))))) r r (.nilS [7,6,2,0] r r (.seq (.sr (.ks 1 r (.nilS [8,7,6,2,0] r r (.block (.loop hd (fun (s:(List Int)×(List Int)×(List Int)×Int) c w=>match s with | (v,a,b,d)=>∃ I_ D E F G H J,IH.le c8 I_∧Ok ⟨58,[],none⟩ [(0,.int .i64 a0),(2,.slice p1 a2.length c2),(6,.pointer (some ⟨S,0,none⟩)),(7,.pointer (some ⟨C,0,none⟩)),(8,.int .i64 d)] c∧Sym w0 M I I_ [pto S (.cells #[.int .i64 0,.int .i64 0,.slice none 0 0,.slice none 0 0,.slice none 0 0] 53 (0,0)),pto C (.cells #[.int .i64 h.Rows,.int .i64 h.Cols,.slice D v.length E,.slice F a.length G,.slice H b.length J] 53 (0,0)),OwnSl eI64 3 D E v,OwnSl eI64 3 F G a,OwnSl eI64 2 H J b] w) (fun c w ho hs=>⟨c8,_,_,_,_,_,_,(.refl _),ho.sub ⟨r,r,r,r,r,trivial⟩,hs.pick (.c (.s (.s (.s (.s .z)))) (.c .z (.c .z (.c .z (.c .z .n)))))⟩) ?_)))))))
 rintro ⟨v,a,b,d⟩ d6 hd c w hst
 obtain ⟨a3,D,E,F,G,H,J,i,hok,hsym⟩:=hst
 have T:=IH.le.trans Z i
 replace R3:=R3.mono i
 refine Cod.at hok hsym (.seq (.sr (.ks 2 r (.len un98 r r r r (.ks 1 r (.nilS [16,8,7,6,2,0] r r (.condP r hd (fun b1 hd=>?_) fun b1 hd=>?_)))))))
 · refine .skipS [8,7,6,2,0] r r (.seq (.block (.seq (.ownF (.s (.s .z)) fun d8=>?_))))
   refine .ownF (.s (.s (.s .z))) fun d9=>?_
   refine .ownF (.s (.s (.s (.s .z)))) fun e0=>?_
   refine .dr [0,1,2,3,4,5,6,7,8] 9 (.g r r r (fun _=>.fa un53 r sz51 r (o:=3) r r r .mk) (.g r r r (fun _=>.load1 ia51 r (.s .z) r r r .mk) (.fk 2 r ?_)))
   obtain ⟨a4,m,U,hd⟩:=hd
   obtain ⟨f0,o434,e5,d1,b2,b3⟩:=R3.2 _ _ U
   cases b3
   refine .g r r r (fun _=>.ixa un98 sizeOf100 r d1 r a4 (idx_lt U a4) r r .mk) (.g r r r (fun _=>.fa un100 r sz3 r (o:=o434+d.toNat*3+1) r r r .mk) (.g r r r (fun _=>.ld1 (j:=1) ia3 b2 r r r r r .mk) (.ww r fun ex=>?_)))
   refine .buildSlice 1 un51 sz3 zv3 r r (.c r r r .n) r r fun f1=>?_
   refine .so 6 r r r (.cg r r r r (fun _=>.load1 ia51 r (.s (.s .z)) r r r .mk) (.cg r r r r (fun _=>.fa un53 r sz51 r (o:=3) r r r .mk) trivial)) (.ww r fun ex=>?_)
   obtain ⟨b4,hd⟩:=hd
   refine .append (ys:=[m.Col]) 8 (.s (.s (.s (.s .z)))) un51 un51 IN3 r r r r r r r r r (.box .z (.one r) r) b4 r r fun K L=>?_
   refine .so 6 r r r trivial (.e2 9 (.fa un53 r sz51 r (o:=3) r r r (.store1 sz51 r r (.s (.s (.s .z))) (.s (.s (.s (.t .nil)))) r (.nilS [8,7,6,2,0] r r (.drop (.s .z) (.seq (.ownF .z fun e1=>?_)))))))
   refine .ownF (.s (.s (.s .z))) fun e3=>?_
   refine .ownF (.s (.s (.s (.s .z)))) fun e4=>?_
   refine .dr [0,1,2,3,4,5,6,7,8] 9 (.g r r r (fun _=>.fa un53 r sz23 r (o:=4) r r r .mk) (.g r r r (fun _=>.load1 ia23 r (.s (.s .z)) r r r .mk) (.fk 2 r ?_)))
   obtain ⟨a5,p,V,hd⟩:=hd
   obtain ⟨f2,o470,e6,d2,b5,b6⟩:=R3.2 _ _ V
   cases b6
   refine .g r r r (fun _=>.ixa un98 sizeOf100 r d2 r a5 (idx_lt V a5) r r .mk) (.g r r r (fun _=>.fa un100 r sz2 r (o:=o470+d.toNat*3+2) r r r .mk) (.g r r r (fun _=>.ld1 (j:=2) ia2 b5 r r r r r .mk) (.ww r fun ex=>?_)))
   refine .buildSlice 1 un23 sz2 zv2 r r (.c r r r .n) r r fun f3=>?_
   refine .so 6 r r r (.cg r r r r (fun _=>.load1 ia23 r (.s (.s (.s .z))) r r r .mk) (.cg r r r r (fun _=>.fa un53 r sz23 r (o:=4) r r r .mk) trivial)) (.ww r fun ex=>?_)
   obtain ⟨b7,hd⟩:=hd
   refine .append (ys:=[p.Val]) 8 (.s (.s (.s (.s (.s .z))))) un23 un23 IN2 r r r r r r r r r (.box .z (.one r) r) b7 r r fun N O=>?_
   refine .so 6 r r r trivial (.e2 9 (.fa un53 r sz23 r (o:=4) r r r (.store1 sz23 r r (.s (.s (.s (.s .z)))) (.s (.s (.s (.s (.t .nil))))) r (.nilS [8,7,6,2,0] r r (.drop (.s .z) (.sr (.ks 2 r ?_)))))))
   obtain ⟨a6,f4,W,hd⟩:=hd
   obtain ⟨f5,o494,e7,d3,b8,b9⟩:=R3.2 _ _ W
   cases b9
   refine .ixa un98 sizeOf100 r d3 r a6 (idx_lt W a6) r r (.fa un100 r sz3 r (o:=o494+d.toNat*3) r r r (.ld1 (j:=0) ia3 b8 r r r r r (.ks 2 r (.nilS [9,8,7,6,2,0] r r (.block (.loop hd (fun (s:(List Int)×Int) c w=>match s with | (e,f)=>∃ I_ P q,IH.le a3 I_∧Ok ⟨58,[],none⟩ [(0,.int .i64 a0),(2,.slice p1 a2.length c2),(6,.pointer (some ⟨S,0,none⟩)),(7,.pointer (some ⟨C,0,none⟩)),(8,.int .i64 d),(9,.int .i64 f)] c∧Sym w0 M I I_ [pto S (.cells #[.int .i64 0,.int .i64 0,.slice none 0 0,.slice none 0 0,.slice none 0 0] 53 (0,0)),pto C (.cells #[.int .i64 h.Rows,.int .i64 h.Cols,.slice P e.length q,.slice K (a++([m.Col])).length L,.slice N (b++([p.Val])).length O] 53 (0,0)),OwnSl eI64 3 P q e,OwnSl eI64 3 K L (a++([m.Col])),OwnSl eI64 2 N O (b++([p.Val]))] w) (fun c w ho hs=>⟨a3,_,_,(.refl _),ho.sub ⟨r,r,r,r,r,r,trivial⟩,hs.pick (.c (.s (.s .z)) (.c (.s (.s .z)) (.c (.s (.s .z)) (.c (.s .z) (.c .z .n)))))⟩) ?_))))))
   rintro ⟨e,f⟩ d7 hd c w hst
   obtain ⟨a7,P,q,k,hok,hsym⟩:=hst
   have e8:=IH.le.trans T k
   have c0:=IH.le.trans i k
   replace R3:=R3.mono k
   refine Cod.at hok hsym (.seq (.sr (.ks 3 r (.nilS [47,9,8,7,6,2,0] r r (.condP r hd (fun c1 hd=>?_) fun c1 hd=>?_)))))
   · refine .skipS [9,8,7,6,2,0] r r (.seq (.block (.region (.fa un53 r sz51 r (o:=2) r r r (.load1 ia51 r (.s .z) r r r (.ks 1 r ?_))))))
     obtain ⟨a8,x,y,hd⟩:=hd
     refine .ownNe (.s (.s .z)) (idx_ne y) fun a9 d4=>?_
     cases d4
     refine .ixa0 un51 sz3 r r a8 (idx_lt y a8) r r (.lo1 (j:=0) ia3 (.s (.s .z)) y r r r r r (.ks 1 r ?_))
     obtain ⟨b0,f6,X,hd⟩:=hd
     exact .ixa0 un51 sz3 r r b0 (idx_lt X b0) r r (.stO1 (j:=0) (v':=(w64 (x+1))) sz3 (.s (.s .z)) X r r r (.t .nil) r (.sub (E':=[(0,_),(2,_),(6,_),(7,_),(8,_),(9,_),(50,_),(51,.slice (some ⟨a9,0,none⟩) (e.set f.toNat (w64 (x+1))).length q),(52,_),(53,_),(54,_),(55,_),(56,_)]) ⟨r,r,r,r,r,r,r,(by simp only [List.length_set]; rfl),r,r,r,r,r,trivial⟩ (.reat (.s .z) (B:=pto C (.cells #[.int .i64 h.Rows,.int .i64 h.Cols,.slice (some ⟨a9,0,none⟩) (e.set f.toNat (w64 (x+1))).length q,.slice K (a++([m.Col])).length L,.slice N (b++([p.Val])).length O] 53 (0,0))) (by simp only [List.length_set]) (.nilS [9,8,7,6,2,0] r r (.region (.ks 3 r (.nil' fun c w ho hs=>⟨((e.set f.toNat (w64 (x+1))),w64 (f+1)),hd,a7,_,_,k,ho.sub ⟨r,r,r,r,r,r,trivial⟩,hs.pick (.c .z (.c .z (.c .z (.c .z (.c .z .n)))))⟩)))))))
   exact .exitS [8,7,6,2,0] r r (.region (.ks 3 r (.nil' fun c w ho hs=>⟨(e,(a++([m.Col])),(b++([p.Val])),w64 (d+1)),hd,a7,_,_,_,_,_,_,c0,ho.sub ⟨r,r,r,r,r,trivial⟩,hs.pick (.c .z (.c .z (.c .z (.c .z (.c .z .n)))))⟩)))
 refine .exitS [7,6] r r (.sr (.loadW ia53 sz53 r (.s .z) r r r (.storeA sz53 r r .z (.t (.t (.t (.t (.t .nil))))) r r (.nilS [6] r r (.drop (.s .z) (.pub (.s .z) fun f7 Y u=>?_))))))
 have c3:=IH.le.trans T Y
 have c4:=IH.le.trans i Y
 refine .pub (.s .z) fun f8 A R=>?_
 have c5:=IH.le.trans c3 A
 have c6:=IH.le.trans c4 A
 replace u:=u.mono A
 refine .pub (.s .z) fun f9 l d5=>?_
 have c7:=IH.le.trans c5 l
 have e9:=IH.le.trans c6 l
 replace u:=u.mono l
 replace R:=R.mono l
 exact .ret (pret results61 (.w ia53 sz53 r .z r .n) c7 ⟨({ Rows:=h.Rows,Cols:=h.Cols,Start:=v,Col:=a,Val:=b }:Rows),_,_,_,_,_,_,r,u,R,d5,hd⟩)
theorem W_ref07_Graph {I:IH} {a0:Graph} {p1:Option Addr} {c2:Nat} {Q:(Rows×Int)→Prop} (R3:RepSl eEdge I p1 c2 a0.Edges) (hd:ref07_Graph a0 Q) :
  PFun prog 35 [.agg #[.int .i64 a0.N,.slice p1 a0.Edges.length c2]] I (o9_ Q):=by
 refine Fun.enter func35 r ntmps35 r (.c .n) fun w0 M=>?_
 refine .sr (.boxA r r r fun P=>?_)
 refine .allocA zv53 r r fun R=>?_
 refine .ks 1 r (.nilS [2,1] r r (.seq (.sr (.loadW ia28 sz28 r (.s .z) r r r ?_))))
 have X:=W_ref05_Right (I:=I) R3 hd
 refine .callP call31 r X r r fun c7 Y=>?_
 obtain ⟨b1,rfl,hd⟩:=Y
 refine .ks 1 r (.nilS [4,2,1] r r (.sr (.ks 2 r (.nilS [11,4,2,1] r r (.condP r hd (fun Z hd=>?_) fun Z hd=>?_)))))
 · exact .sr (.build zv53 un53 BI53 .n (by exact trivial) r r (.ks 1 r (.storeA sz53 r r .z (.t (.t (.t (.t (.t .nil))))) r r (.ks 1 r (.nilS [3,2] r r (.drop (.s .z) (.ret (pret results35 (.w ia53 sz53 r .z r (.t r .n)) (.refl _) ⟨(({ Rows:=0,Cols:=0,Start:=([]:List Int),Col:=([]:List Int),Val:=([]:List Int) }:Rows),b1),_,_,_,_,_,_,r,(.nil _ _ _),(.nil _ _ _),(.nil _ _ _),hd⟩))))))))
 refine .skipS [2,1] r r (.sr (.loadW ia28 sz28 r (.s .z) r r r ?_))
 have a1:=W_ref05_Turn (I:=I) R3 hd
 refine .callO call60 r a1 r r fun c8 S c9 q a2=>?_
 obtain ⟨u,T,U,rfl,rfl,hd⟩:=a2
 replace R3:=R3.mono q
 refine .allocA zv28 r r fun V=>?_
 refine .storeA sz28 r r .z (.t (.t .nil)) r r (.nilS [5,2,1] r r (.sr (.ks 1 r (.nilS [6,5,2,1] r r (.seq (.sr (.ks 1 r (.nilS [7,6,5,2,1] r r (.block ?_)))))))))
 refine .own0 eTriple 100 (.loop hd (fun (s:(List Triple)×Int) c w=>match s with | (e,a)=>∃ I_ i k,IH.le S I_∧Ok ⟨51,[],none⟩ [(1,.pointer (some ⟨P,0,none⟩)),(2,.pointer (some ⟨R,0,none⟩)),(5,.pointer (some ⟨V,0,none⟩)),(6,.slice i e.length k),(7,.int .i64 a)] c∧Sym w0 M I I_ [pto P (.cells #[.int .i64 a0.N,.slice p1 a0.Edges.length c2] 28 (0,0)),pto R (.cells #[.int .i64 0,.int .i64 0,.slice none 0 0,.slice none 0 0,.slice none 0 0] 53 (0,0)),pto V (.cells #[.int .i64 u.N,.slice T u.Edges.length U] 28 (0,0)),OwnSl eEdge 70 T U u.Edges,OwnSl eTriple 100 i k e] w) (fun c w ho hs=>⟨S,_,_,(.refl _),ho.sub ⟨r,r,r,r,r,trivial⟩,hs.pick (.c (.s (.s (.s (.s .z)))) (.c (.s (.s (.s .z))) (.c (.s .z) (.c (.s .z) (.c .z .n)))))⟩) ?_)
 rintro ⟨e,a⟩ b0 hd c w hst
 obtain ⟨a3,i,k,b,hok,hsym⟩:=hst
 have E:=IH.le.trans q b
 replace R3:=R3.mono b
 refine Cod.at hok hsym (.seq (.sr (.ks 1 r (.fa un28 r sz26 r (o:=1) r r r (.load1 ia26 r (.s (.s .z)) r r r (.len un26 r r r r (.ks 1 r (.nilS [20,7,6,5,2,1] r r (.condP r hd (fun F hd=>?_) fun F hd=>?_)))))))))
 · refine .skipS [7,6,5,2,1] r r (.seq (.block (.ownF (.s (.s (.s .z))) fun v=>?_)))
   refine .ownF (.s (.s (.s (.s .z)))) fun b2=>?_
   refine .dr [0,1,2,3,4,5,6,7,8,9,10,11,12,13,14,15,16,17,18,19,20,21] 22 (.fk 1 r (.g r r r (fun _=>.fa un28 r sz26 r (o:=1) r r r .mk) (.g r r r (fun _=>.load1 ia26 r (.s (.s .z)) r r r .mk) (.fk 1 r ?_))))
   obtain ⟨x,y,f,hd⟩:=hd
   obtain ⟨b4,a4⟩:=v (idx_ne f)
   cases a4
   refine .g r r r (fun _=>.ixa0 un26 sz70 r r x (idx_lt f x) r r .mk) (.g r r r (fun _=>.fa un70 r sz3 r (o:=a.toNat*3) r r r .mk) (.g r r r (fun _=>.lo1 (j:=0) ia3 (.s (.s (.s .z))) f r r r r r .mk) (.g r r r (fun _=>.fa un28 r sz26 r (o:=1) r r r .mk) (.g r r r (fun _=>.load1 ia26 r (.s (.s .z)) r r r .mk) (.fk 1 r ?_)))))
   obtain ⟨A,B,m,hd⟩:=hd
   refine .g r r r (fun _=>.ixa0 un26 sz70 r r A (idx_lt m A) r r .mk) (.g r r r (fun _=>.fa un70 r sz3 r (o:=a.toNat*3+1) r r r .mk) (.g r r r (fun _=>.lo1 (j:=1) ia3 (.s (.s (.s .z))) m r r r r r .mk) (.g r r r (fun _=>.fa un28 r sz26 r (o:=1) r r r .mk) (.g r r r (fun _=>.load1 ia26 r (.s (.s .z)) r r r .mk) (.fk 1 r ?_)))))
   obtain ⟨C,D,p,hd⟩:=hd
   refine .g r r r (fun _=>.ixa0 un26 sz70 r r C (idx_lt p C) r r .mk) (.g r r r (fun _=>.fa un70 r sz2 r (o:=a.toNat*3+2) r r r .mk) (.g r r r (fun _=>.lo1 (j:=2) ia2 (.s (.s (.s .z))) p r r r r r .mk) (.g r r r (fun _=>.build zv100 un100 BI100 (.c r r r (.t .nil) (.c r r r (.s (.t .nil)) (.c r r r (.s (.s (.t .nil))) .n))) (by exact ⟨⟨_,_,r,r,r⟩,⟨⟨_,_,r,r,r⟩,⟨⟨_,_,r,r,r⟩,trivial⟩⟩⟩) r r .mk) (.ww r fun ex=>?_))))
   refine .buildSlice 1 un98 sizeOf100 zv100 r r (.c r r r .n) r r fun b5=>?_
   refine .so 6 r r r (.ck 1 r r trivial) (.ww r fun ex=>?_)
   obtain ⟨G,hd⟩:=hd
   refine .append (ys:=[({ Row:=y.From,Col:=B.To,Val:=D.W }:Triple)]) 24 (.s (.s (.s (.s (.s .z))))) un98 un98 IN100 r r r r r r r r r (.box .z (.one r) r) G r r fun b6 b7=>?_
   exact .so 6 r r r trivial (.e2 22 (.ks 1 r (.nilS [6,7,5,2,1] r r (.drop (.s .z) (.region (.ks 3 r (.nil' fun c w ho hs=>⟨((e++([({ Row:=y.From,Col:=B.To,Val:=D.W }:Triple)])),w64 (a+1)),hd,a3,_,_,b,ho.sub ⟨r,r,r,r,r,trivial⟩,hs.pick (.c (.s .z) (.c (.s .z) (.c (.s .z) (.c (.s .z) (.c .z .n)))))⟩)))))))
 refine .exitS [6,2,1] r r (.drop (.s (.s .z)) (.drop (.s (.s .z)) (.sr (.fa un28 r sz3 r (o:=0) r r r (.load1 ia3 r .z r r r (.fa un28 r sz3 r (o:=0) r r r (.load1 ia3 r .z r r r (.ks 1 r (.pub (.s (.s .z)) fun a5 h l=>?_)))))))))
 have H:=IH.le.trans E h
 have J:=IH.le.trans b h
 replace R3:=R3.mono h
 have K:=W_ref07_built (I:=a5) l hd
 refine .call call61 r K r r fun b8 b9 d L=>?_
 obtain ⟨a6,c0,c1,c3,c4,c5,c6,rfl,a7,a8,a9,hd⟩:=L
 have O:=IH.le.trans H d
 have b3:=IH.le.trans J d
 replace R3:=R3.mono d
 replace l:=l.mono d
 exact .storeA sz53 r r (.s .z) (.t (.t (.t (.t (.t .nil))))) r r (.ks 1 r (.nilS [3,2] r r (.drop .z (.ret (pret results35 (.w ia53 sz53 r .z r (.t r .n)) O ⟨(a6,0),_,_,_,_,_,_,r,a7,a8,a9,hd⟩)))))
theorem W_ref21_Matrix {I:IH} {a0:Plan} {a1:Graph} {p1:Option Addr} {c2:Nat} {p4:Option Addr} {c5:Nat} {Q:(Rows×Int)→Prop} (R3:RepSl eI64 I p1 c2 a0.Draws) (R6:RepSl eEdge I p4 c5 a1.Edges) (hd:ref21_Matrix a0 a1 Q) :
  PFun prog 18 [.agg #[.int .i64 a0.Kind,.int .i64 a0.N,.int .i64 a0.Source,.int .i64 a0.Length,.slice p1 a0.Draws.length c2],.agg #[.int .i64 a1.N,.slice p4 a1.Edges.length c5]] I (o10_ Q):=by
 refine Fun.enter func18 r ntmps18 r (.c (.c .n)) fun w0 M=>?_
 refine .sr (.boxA r r r fun i2=>?_)
 refine .boxA r r r fun i3=>?_
 refine .allocA zv53 r r fun i4=>?_
 refine .ks 1 r (.nilS [4,3,2] r r (.seq (.sr (.loadW ia25 sz25 r (.s (.s .z)) r r r ?_))))
 have a3:=W_ref21_Right (I:=I) R3 hd
 refine .callP call30 r a3 r r fun i5 a4=>?_
 obtain ⟨d3,rfl,hd⟩:=a4
 refine .ks 1 r (.nilS [6,4,3,2] r r (.sr (.ks 2 r (.nilS [11,6,4,3,2] r r (.condP r hd (fun a5 hd=>?_) fun a5 hd=>?_)))))
 · exact .sr (.build zv53 un53 BI53 .n (by exact trivial) r r (.ks 1 r (.storeA sz53 r r .z (.t (.t (.t (.t (.t .nil))))) r r (.ks 1 r (.nilS [5,4] r r (.drop (.s .z) (.drop (.s .z) (.ret (pret results18 (.w ia53 sz53 r .z r (.t r .n)) (.refl _) ⟨(({ Rows:=0,Cols:=0,Start:=([]:List Int),Col:=([]:List Int),Val:=([]:List Int) }:Rows),d3),_,_,_,_,_,_,r,(.nil _ _ _),(.nil _ _ _),(.nil _ _ _),hd⟩)))))))))
 refine .skipS [4,3,2] r r (.seq (.sr (.fa un28 r sz3 r (o:=0) r r r (.load1 ia3 r (.s .z) r r r (.fa un25 r sz3 r (o:=1) r r r (.load1 ia3 r (.s (.s .z)) r r r (.ks 1 r (.nilS [18,4,3,2] r r (.condP r hd (fun a6 hd=>?_) fun a6 hd=>?_)))))))))
 · exact .sr (.build zv53 un53 BI53 .n (by exact trivial) r r (.storeA sz53 r r .z (.t (.t (.t (.t (.t .nil))))) r r (.ks 1 r (.nilS [5,4] r r (.drop (.s .z) (.drop (.s .z) (.ret (pret results18 (.w ia53 sz53 r .z r (.t r .n)) (.refl _) ⟨(({ Rows:=0,Cols:=0,Start:=([]:List Int),Col:=([]:List Int),Val:=([]:List Int) }:Rows),4),_,_,_,_,_,_,r,(.nil _ _ _),(.nil _ _ _),(.nil _ _ _),hd⟩))))))))
 refine .skipS [4,3,2] r r (.seq (.sr (.loadW ia28 sz28 r (.s .z) r r r ?_)))
 have a7:=W_ref05_Right (I:=I) R6 hd
 refine .callP call31 r a7 r r fun i6 a8=>?_
 obtain ⟨d4,rfl,hd⟩:=a8
 refine .ks 1 r (.nilS [7,4,3,2] r r (.sr (.ks 2 r (.nilS [23,7,4,3,2] r r (.condP r hd (fun a9 hd=>?_) fun a9 hd=>?_)))))
 · exact .sr (.build zv53 un53 BI53 .n (by exact trivial) r r (.ks 1 r (.storeA sz53 r r .z (.t (.t (.t (.t (.t .nil))))) r r (.ks 1 r (.nilS [5,4] r r (.drop (.s .z) (.drop (.s .z) (.ret (pret results18 (.w ia53 sz53 r .z r (.t r .n)) (.refl _) ⟨(({ Rows:=0,Cols:=0,Start:=([]:List Int),Col:=([]:List Int),Val:=([]:List Int) }:Rows),d4),_,_,_,_,_,_,r,(.nil _ _ _),(.nil _ _ _),(.nil _ _ _),hd⟩)))))))))
 refine .skipS [4,3,2] r r (.seq (.sr (.fa un25 r sz22 r (o:=0) r r r (.load1 ia22 r (.s (.s .z)) r r r (.nilS [27,4,3] r r (.drop (.s (.s .z)) (.block (.sr (.ks 2 r ?_)))))))))
 refine .nilS [28,27,4,3] r r (.condP r hd (fun b0 hd=>?_) fun b0 hd=>?_)
 · refine .region (.loadW ia28 sz28 r (.s .z) r r r ?_)
   have b1:=W_ref05_Plain (I:=I) R6 hd
   refine .call call32 r b1 r r fun i7 d5 p b2=>?_
   obtain ⟨i8,i9,j0,rfl,q,hd⟩:=b2
   replace R6:=R6.mono p
   refine .storeA sz28 r r (.s .z) (.t (.t .nil)) r r (.nilS [4,3] r r (.sr (.loadW ia28 sz28 r (.s .z) r r r ?_)))
   have b3:=W_ref07_Graph (I:=d5) q hd
   refine .call call35 r b3 r r fun j1 j2 u b4=>?_
   obtain ⟨a2,j3,j4,j5,j6,j7,j8,rfl,d6,d7,d8,hd⟩:=b4
   have b5:=IH.le.trans p u
   replace q:=q.mono u
   exact .ks 2 r (.storeA sz53 r r .z (.t (.t (.t (.t (.t .nil))))) r r (.ks 1 r (.nilS [5,4] r r (.drop (.s .z) (.ret (pret results18 (.w ia53 sz53 r .z r (.t r .n)) b5 ⟨(a2.1,a2.2),_,_,_,_,_,_,r,d6,d7,d8,hd⟩))))))
 refine .sr (.ks 2 r (.nilS [32,27,4,3] r r (.condP r hd (fun b6 hd=>?_) fun b6 hd=>?_)))
 · refine .region (.loadW ia28 sz28 r (.s .z) r r r ?_)
   have B:=W_ref05_Both (I:=I) R6 hd
   refine .call call33 r B r r fun j9 d9 v b7=>?_
   obtain ⟨k0,e0,e1,rfl,f,hd⟩:=b7
   replace R6:=R6.mono v
   have C:=W_ref05_Plain (I:=d9) f hd
   refine .call call32 r C r r fun e2 b8 d D=>?_
   obtain ⟨e3,e4,e5,rfl,g,hd⟩:=D
   have E:=IH.le.trans v d
   replace R6:=R6.mono d
   replace f:=f.mono d
   refine .storeA sz28 r r (.s .z) (.t (.t .nil)) r r (.nilS [4,3] r r (.sr (.loadW ia28 sz28 r (.s .z) r r r ?_)))
   have F:=W_ref07_Graph (I:=b8) g hd
   refine .call call35 r F r r fun e6 e7 j G=>?_
   obtain ⟨x,e8,e9,f0,f1,f2,f3,rfl,b9,c0,c1,hd⟩:=G
   have H:=IH.le.trans E j
   replace g:=g.mono j
   exact .ks 2 r (.storeA sz53 r r .z (.t (.t (.t (.t (.t .nil))))) r r (.ks 1 r (.nilS [5,4] r r (.drop (.s .z) (.ret (pret results18 (.w ia53 sz53 r .z r (.t r .n)) H ⟨(x.1,x.2),_,_,_,_,_,_,r,b9,c0,c1,hd⟩))))))
 refine .sr (.ks 2 r (.nilS [37,4,3] r r (.condP r hd (fun J hd=>?_) fun J hd=>?_)))
 · refine .region (.loadW ia28 sz28 r (.s .z) r r r ?_)
   have K:=W_ref05_Simple (I:=I) R6 hd
   refine .call call34 r K r r fun f4 c3 k L=>?_
   obtain ⟨f5,f6,f7,rfl,b,hd⟩:=L
   replace R6:=R6.mono k
   have O:=W_ref05_Both (I:=c3) b hd
   refine .call call33 r O r r fun f8 c4 e P=>?_
   obtain ⟨f9,g0,g1,rfl,h,hd⟩:=P
   have R:=IH.le.trans k e
   replace R6:=R6.mono e
   replace b:=b.mono e
   have S:=W_ref05_Plain (I:=c4) h hd
   refine .call call32 r S r r fun g2 c6 a T=>?_
   obtain ⟨g3,g4,g5,rfl,i,hd⟩:=T
   have U:=IH.le.trans R a
   replace R6:=R6.mono a
   replace b:=b.mono a
   replace h:=h.mono a
   refine .storeA sz28 r r (.s .z) (.t (.t .nil)) r r (.nilS [4,3] r r (.sr (.loadW ia28 sz28 r (.s .z) r r r ?_)))
   have V:=W_ref07_Graph (I:=c6) i hd
   refine .call call35 r V r r fun g6 g7 l W=>?_
   obtain ⟨y,g8,g9,h0,h1,h2,h3,rfl,c7,c8,c9,hd⟩:=W
   have X:=IH.le.trans U l
   replace i:=i.mono l
   exact .ks 2 r (.storeA sz53 r r .z (.t (.t (.t (.t (.t .nil))))) r r (.ks 1 r (.nilS [5,4] r r (.drop (.s .z) (.ret (pret results18 (.w ia53 sz53 r .z r (.t r .n)) X ⟨(y.1,y.2),_,_,_,_,_,_,r,c7,c8,c9,hd⟩))))))
 refine .skipS [4,3] r r (.sr (.loadW ia28 sz28 r (.s .z) r r r ?_))
 have Y:=W_ref07_Graph (I:=I) R6 hd
 refine .call call35 r Y r r fun h4 h5 m Z=>?_
 obtain ⟨A,h6,h7,h8,h9,i0,i1,rfl,d0,d1,d2,hd⟩:=Z
 replace R6:=R6.mono m
 exact .ks 2 r (.storeA sz53 r r .z (.t (.t (.t (.t (.t .nil))))) r r (.ks 1 r (.nilS [5,4] r r (.drop (.s .z) (.ret (pret results18 (.w ia53 sz53 r .z r (.t r .n)) m ⟨(A.1,A.2),_,_,_,_,_,_,r,d0,d1,d2,hd⟩))))))
theorem W_ref03_Same {I:IH} {a0:List Int} {a1:List Int} {p1:Option Addr} {c2:Nat} {p4:Option Addr} {c5:Nat} {Q:Bool→Prop} (R3:RepSl eU64 I p1 c2 a0) (R6:RepSl eU64 I p4 c5 a1) (hd:ref03_Same a0 a1 Q) :
  PFun prog 28 [.slice p1 a0.length c2,.slice p4 a1.length c5] I (fun _=>o2_ Q):=by
 refine Fun.enter func28 r ntmps28 r (.c (.c .n)) fun w0 M=>?_
 refine .sr (.ks 1 r (.nilS [1,0] r r (.seq (.sr (.ks 1 r (.len un34 r r r r (.ks 1 r (.len un34 r r r r (.ks 1 r ?_)))))))))
 refine .nilS [10,1,0] r r (.condP r hd (fun q hd=>?_) fun q hd=>?_)
 · exact .sr (.ks 1 r (.nilS [4] r r (.ret (pret results28 (.t r .n) (.refl _) ⟨false,r,hd⟩))))
 refine .skipS [1,0] r r (.seq (.sr (.ks 1 r (.nilS [5,1,0] r r (.block (.loop hd (fun (b:Int) c w=>∃ I_,IH.le I I_∧Ok ⟨26,[],none⟩ [(0,.slice p1 a0.length c2),(1,.slice p4 a1.length c5),(5,.int .i64 b)] c∧Sym w0 M I I_ [] w) (fun c w ho hs=>⟨I,(.refl _),ho.sub ⟨r,r,r,trivial⟩,hs.pick .n⟩) ?_))))))
 rintro b s hd c w hst
 obtain ⟨u,a,hok,hsym⟩:=hst
 replace R3:=R3.mono a
 replace R6:=R6.mono a
 refine Cod.at hok hsym (.seq (.sr (.ks 2 r (.len un34 r r r r (.ks 1 r (.nilS [14,5,1,0] r r (.condP r hd (fun i hd=>?_) fun i hd=>?_)))))))
 · refine .skipS [5,1,0] r r (.seq (.block (.seq (.dr [0,1,2,3,4,5,6,7,8] 9 (.fk 2 r ?_)))))
   obtain ⟨f,A,d,hd⟩:=hd
   obtain ⟨B,o64,y,v,k,l⟩:=R3.2 _ _ d
   cases l
   refine .g r r r (fun _=>.ixa un34 sz96 r v r f (idx_lt d f) r r .mk) (.g r r r (fun _=>.ld1 (j:=0) ia96 k r r r r r .mk) (.fk 2 r ?_))
   obtain ⟨h,C,e,hd⟩:=hd
   obtain ⟨D,o73,z,x,m,o⟩:=R6.2 _ _ e
   cases o
   refine .g r r r (fun _=>.ixa un34 sz96 r x r h (idx_lt e h) r r .mk) (.g r r r (fun _=>.ld1 (j:=0) ia96 m r r r r r .mk) (.fk 1 r (.e2 9 (.nilS [25,5,1,0] r r (.condP r hd (fun p hd=>?_) fun p hd=>?_)))))
   · exact .sr (.ks 1 r (.nilS [4] r r (.ret (pret results28 (.t r .n) a ⟨false,r,hd⟩))))
   exact .skipS [5,1,0] r r (.region (.ks 3 r (.nil' fun c w ho hs=>⟨(w64 (b+1)),hd,u,a,ho.sub ⟨r,r,r,trivial⟩,hs.pick .n⟩)))
 exact .exitS [] r r (.sr (.ks 1 r (.nilS [4] r r (.ret (pret results28 (.t r .n) a ⟨true,r,hd⟩)))))
theorem W_ref21_Same {I:IH} {a0:State} {a1:State} {p1:Option Addr} {c2:Nat} {p4:Option Addr} {c5:Nat} {p7:Option Addr} {c8:Nat} {p10:Option Addr} {c11:Nat} {p13:Option Addr} {c14:Nat} {p16:Option Addr} {c17:Nat} {Q:Bool→Prop} (R3:RepSl eI64 I p1 c2 a0.A) (R6:RepSl eI64 I p4 c5 a0.B) (R9:RepSl eU64 I p7 c8 a0.On) (R12:RepSl eI64 I p10 c11 a1.A) (R15:RepSl eI64 I p13 c14 a1.B) (R18:RepSl eU64 I p16 c17 a1.On) (hd:ref21_Same a0 a1 Q) :
  PFun prog 15 [.agg #[.int .i64 a0.Low,.int .i64 a0.High,.slice p1 a0.A.length c2,.slice p4 a0.B.length c5,.slice p7 a0.On.length c8],.agg #[.int .i64 a1.Low,.int .i64 a1.High,.slice p10 a1.A.length c11,.slice p13 a1.B.length c14,.slice p16 a1.On.length c17]] I (fun _=>o2_ Q):=by
 refine Fun.enter func15 r ntmps15 r (.c (.c .n)) fun w0 M=>?_
 refine .sr (.boxA r r r fun m=>?_)
 refine .boxA r r r fun p=>?_
 refine .ks 1 r (.nilS [3,2] r r (.sr (.fa un36 r sz3 r (o:=0) r r r (.load1 ia3 r (.s .z) r r r (.fa un36 r sz3 r (o:=0) r r r (.load1 ia3 r .z r r r (.ks 2 r ?_)))))))
 refine splitP hd (fun a hd=>?_) fun a hd=>?_
 · rw [a]
   refine .gyes r r r (.fa un36 r sz3 r (o:=1) r r r (.gyes r r r (.load1 ia3 r (.s .z) r r r (.gyes r r r (.fa un36 r sz3 r (o:=1) r r r (.gyes r r r (.load1 ia3 r .z r r r (.ks 3 r ?_))))))))
   refine splitP hd (fun b hd=>?_) fun b hd=>?_
   · rw [b]
     refine .gyes r r r (.fa un36 r sz23 r (o:=2) r r r (.gyes r r r (.load1 ia23 r (.s .z) r r r (.gyes r r r (.fa un36 r sz23 r (o:=2) r r r (.gyes r r r (.load1 ia23 r .z r r r ?_)))))))
     have f:=W_ref07_SameVals (I:=I) R3 R12 hd
     refine .gyes r r r (.callP call26 r f r r fun q g=>?_)
     obtain ⟨u,rfl,hd⟩:=g
     refine .ks 2 r ?_
     refine splitP hd (fun d hd=>?_) fun d hd=>?_
     · rw [d]
       refine .gyes r r r (.fa un36 r sz23 r (o:=3) r r r (.gyes r r r (.load1 ia23 r (.s .z) r r r (.gyes r r r (.fa un36 r sz23 r (o:=3) r r r (.gyes r r r (.load1 ia23 r .z r r r ?_)))))))
       have h:=W_ref07_SameVals (I:=I) R6 R15 hd
       refine .gyes r r r (.callP call26 r h r r fun v i=>?_)
       obtain ⟨w,rfl,hd⟩:=i
       refine .ks 2 r ?_
       refine splitP hd (fun e hd=>?_) fun e hd=>?_
       · rw [e]
         refine .gyes r r r (.fa un36 r sz34 r (o:=4) r r r (.gyes r r r (.load1 ia34 r (.s .z) r r r (.gyes r r r (.fa un36 r sz34 r (o:=4) r r r (.gyes r r r (.load1 ia34 r .z r r r ?_)))))))
         have j:=W_ref03_Same (I:=I) R9 R18 hd
         refine .gyes r r r (.callP call28 r j r r fun x k=>?_)
         obtain ⟨l,rfl,hd⟩:=k
         exact .ks 2 r (.nilS [4] r r (.drop .z (.drop .z (.ret (pret results15 (.t r .n) (.refl _) ⟨l,r,hd⟩)))))
       rw [e]
       exact .ks 7 r (.nilS [4] r r (.drop .z (.drop .z (.ret (pret results15 (.t r .n) (.refl _) ⟨false,r,hd⟩)))))
     rw [d]
     exact .ks 14 r (.nilS [4] r r (.drop .z (.drop .z (.ret (pret results15 (.t r .n) (.refl _) ⟨false,r,hd⟩)))))
   rw [b]
   exact .ks 21 r (.nilS [4] r r (.drop .z (.drop .z (.ret (pret results15 (.t r .n) (.refl _) ⟨false,r,hd⟩)))))
 rw [a]
 exact .ks 28 r (.nilS [4] r r (.drop .z (.drop .z (.ret (pret results15 (.t r .n) (.refl _) ⟨false,r,hd⟩)))))
theorem W_law22_ModelSteps {I:IH} {a0:Law22_Case} {p1:Option Addr} {c2:Nat} {p4:Option Addr} {c5:Nat} {Q:Bool→Prop} (R3:RepSl eI64 I p1 c2 a0.P.Draws) (R6:RepSl eEdge I p4 c5 a0.G.Edges) (hd:law22_ModelSteps a0 Q) :
  PFun prog 5 [.agg #[.int .i64 a0.P.Kind,.int .i64 a0.P.N,.int .i64 a0.P.Source,.int .i64 a0.P.Length,.slice p1 a0.P.Draws.length c2,.int .i64 a0.G.N,.slice p4 a0.G.Edges.length c5,.int .u8 a0.Limit]] I (fun _=>o2_ Q):=by
 refine Fun.enter func5 r ntmps5 r (.c .n) fun w0 M=>?_
 refine .sr (.boxA r r r fun b9=>?_)
 refine .ks 1 r (.nilS [1] r r (.sr (.loadW isAgg30 sizeOf30 r .z r r r ?_)))
 have d6:=W_law22_Case_Make (I:=I) R3 R6 hd
 refine .call call8 r d6 r r fun n8 g3 J d7=>?_
 obtain ⟨F,g4,g5,n9,o0,rfl,i,x,hd⟩:=d7
 replace R3:=R3.mono J
 replace R6:=R6.mono J
 refine .ks 4 r (.allocA zv25 r r fun d4=>?_)
 refine .allocA zv28 r r fun o1=>?_
 refine .storeA sz25 r r (.s .z) (.t (.t (.t (.t (.t .nil))))) r r (.storeA sz28 r r .z (.t (.t .nil)) r r (.ks 1 r (.nilS [5,4,3] r r (.drop (.s (.s .z)) (.sr (.loadW ia25 sz25 r (.s .z) r r r (.loadW ia28 sz28 r .z r r r ?_)))))))
 have d8:=W_ref21_Matrix (I:=g3) i x hd
 refine .call call18 r d8 r r fun o2 g6 K d9=>?_
 obtain ⟨H,g7,g8,g9,h0,h1,h2,rfl,p,q,u,hd⟩:=d9
 have e0:=IH.le.trans J K
 replace i:=i.mono K
 replace x:=x.mono K
 refine .ks 3 r (.allocA zv53 r r fun d5=>?_)
 refine .storeA sz53 r r .z (.t (.t (.t (.t (.t .nil))))) r r (.ks 1 r (.nilS [6,5,4,3] r r (.sr (.loadW ia25 sz25 r (.s (.s .z)) r r r (.loadW ia28 sz28 r (.s .z) r r r (.ks 1 r ?_))))))
 have a8:=W_model_Trace (I:=g6) i x hd
 refine .call call11 r a8 r r fun o3 h3 C e1=>?_
 obtain ⟨h4,e3,e4,rfl,k,hd⟩:=e1
 have a9:=IH.le.trans e0 C
 replace i:=i.mono C
 replace x:=x.mono C
 replace p:=p.mono C
 replace q:=q.mono C
 replace u:=u.mono C
 refine .ks 5 r (.nilS [9,8,6,5,4,3] r r (.sr (.loadW ia25 sz25 r (.s (.s .z)) r r r (.loadW ia28 sz28 r (.s .z) r r r (.ks 1 r ?_)))))
 have b0:=W_model_Run (I:=h3) i x hd
 refine .call call9 r b0 r r fun h9 O l b1=>?_
 obtain ⟨i0,i1,i2,i3,i4,i5,i6,rfl,e5,e6,e7,hd⟩:=b1
 have y:=IH.le.trans a9 l
 replace i:=i.mono l
 replace x:=x.mono l
 replace p:=p.mono l
 replace q:=q.mono l
 replace u:=u.mono l
 replace k:=k.mono l
 refine .ks 3 r (.allocA zv38 r r fun i7=>?_)
 refine .storeA sz38 r r .z (.t (.t (.t (.t (.t (.t (.t .nil))))))) r r (.ks 1 r (.nilS [11,10,9,8,6,3] r r (.drop (.s (.s .z)) (.seq (.seq (.dr [0,1,2,3,4,5,6,7,8,9,10,11,12,13,14,15,16,17,18,19,20,21,22,23,24,25] 26 (.fk 3 r ?_)))))))
 refine splitP hd (fun m hd=>?_) fun m hd=>?_
 · refine .g r r r (fun _=>.gno r r m r r .mk) (.g r r r (fun _=>.gno r r m r r .mk) (.g r r r (fun _=>.pickT r m r r r .mk) (.fk 20 r (.e2 26 (.nilS [68,8,6,3] r r (.drop .z (.condKT r r (.sr (.ks 1 r ?_)))))))))
   exact .nilS [2] r r (.drop .z (.drop .z (.ret (pret results5 (.t r .n) y ⟨false,r,hd⟩))))
 refine .g r r r (fun _=>.gyes r r m (.move r r r .mk)) (.g r r r (fun _=>.gyes r r m (.ne r r r r .mk)) (.g r r r (fun _=>.pickF r m r r r .mk) (.fk 1 r ?_)))
 refine splitP hd (fun f hd=>?_) fun f hd=>?_
 · refine .g r r r (fun _=>.gno r r f r r .mk) (.g r r r (fun _=>.gno r r f r r .mk) (.g r r r (fun _=>.gno r r f r r .mk) (.g r r r (fun _=>.gno r r f r r .mk) (.g r r r (fun _=>.gno r r f r r .mk) (.g r r r (fun _=>.gno r r f r r .mk) (.g r r r (fun _=>.pickT r f r r r .mk) (.fk 12 r (.e2 26 (.nilS [68,8,6,3] r r ?_)))))))))
   exact .drop .z (.condKT r r (.sr (.ks 1 r (.nilS [2] r r (.drop .z (.drop .z (.ret (pret results5 (.t r .n) y ⟨false,r,hd⟩))))))))
 refine .g r r r (fun _=>.gyes r r f (.move r r r .mk)) (.g r r r (fun _=>.gyes r r f (.len un42 r r r r .mk)) (.g r r r (fun _=>.gyes r r f (.fa un38 r sz3 r (o:=1) r r r .mk)) (.g r r r (fun _=>.gyes r r f (.load1 ia3 r .z r r r .mk)) (.g r r r (fun _=>.gyes r r f (.add r r r r .mk)) (.g r r r (fun _=>.gyes r r f (.ne r r r r .mk)) (.g r r r (fun _=>.pickF r f r r r .mk) (.fk 1 r ?_)))))))
 refine splitP hd (fun d hd=>?_) fun d hd=>?_
 · refine .g r r r (fun _=>.gno r r d r r .mk) (.g r r r (fun _=>.gno r r d r r .mk) (.g r r r (fun _=>.gno r r d r r .mk) (.g r r r (fun _=>.gno r r d r r .mk) (.g r r r (fun _=>.gno r r d r r .mk) (.g r r r (fun _=>.gno r r d r r .mk) (.g r r r (fun _=>.gno r r d r r .mk) (.g r r r (fun _=>.gno r r d r r .mk) (.g r r r (fun _=>.gno r r d r r .mk) (.g r r r (fun _=>.gno r r d r r .mk) ?_)))))))))
   refine .g r r r (fun _=>.pickT r d r r r .mk) (.e2 26 (.nilS [68,8,6,3] r r (.drop .z (.condKT r r (.sr (.ks 1 r (.nilS [2] r r (.drop .z (.drop .z ?_)))))))))
   exact .ret (pret results5 (.t r .n) y ⟨false,r,hd⟩)
 refine .g r r r (fun _=>.gyes r r d (.move r r r .mk)) (.g r r r (fun _=>.gyes r r d (.move r r r .mk)) (.g r r r (fun _=>.gyes r r d (.len un42 r r r r .mk)) (.g r r r (fun _=>.gyes r r d (.sub' r r r r .mk)) ?_)))
 obtain ⟨a3,i8,V,hd⟩:=hd
 obtain ⟨i9,o176,h5,e8,b2,b3⟩:=k.2 _ _ V
 obtain ⟨j0,j1,j2,j3,j4,j5,rfl,e9,f0,f1⟩:=b3
 refine .g r r r (fun _=>.gyes r r d (.ixa un42 sz36 r e8 r a3 (idx_lt V a3) r r .mk)) (.g r r r (fun _=>.gyes r r d (.ldW ia36 sz36 b2 r r r r .mk)) (.g r r r (fun _=>.gyes r r d (.fa un38 r sz36 r (o:=2) r r r .mk)) (.g r r r (fun _=>.gyes r r d (.loadA ia36 sz36 r .z (.s (.s (.t (.t (.t (.t (.t .nil))))))) r r r .mk)) (.ww r fun ex=>?_))))
 have b4:=W_ref21_Same (I:=O) e9 f0 f1 e5 e6 e7 hd
 refine .gyes r r d (.callP call15 r b4 r r fun j6 b5=>?_)
 obtain ⟨j7,rfl,hd⟩:=b5
 refine .so 3 r r r trivial (.g r r r (fun _=>.gyes r r d (.not r r r .mk)) (.g r r r (fun _=>.pickF r d r r r .mk) (.e2 26 (.nilS [68,8,6,3] r r (.drop .z (.condP r hd (fun b6 hd=>?_) fun b6 hd=>?_))))))
 · exact .sr (.ks 1 r (.nilS [2] r r (.drop .z (.drop .z (.ret (pret results5 (.t r .n) y ⟨false,r,hd⟩))))))
 refine .skipS [8,6,3] r r (.seq (.sr (.ks 1 r (.nilS [12,8,6,3] r r (.block (.loop hd (fun (R:Int) c w=>∃ I_,IH.le O I_∧Ok ⟨110,[],none⟩ [(3,.pointer (some ⟨d4,0,none⟩)),(6,.pointer (some ⟨d5,0,none⟩)),(8,.slice e3 h4.1.length e4),(12,.int .i64 R)] c∧Sym w0 M I I_ [pto d4 (.cells #[.int .i64 F.1.Kind,.int .i64 F.1.N,.int .i64 F.1.Source,.int .i64 F.1.Length,.slice g4 F.1.Draws.length g5] 25 (0,0)),pto d5 (.cells #[.int .i64 H.1.Rows,.int .i64 H.1.Cols,.slice g7 H.1.Start.length g8,.slice g9 H.1.Col.length h0,.slice h1 H.1.Val.length h2] 53 (0,0))] w) (fun c w ho hs=>⟨O,(.refl _),ho.sub ⟨r,r,r,r,trivial⟩,hs.pick (.c (.s .z) (.c .z .n))⟩) ?_))))))
 rintro R g2 hd c w hst
 obtain ⟨a4,j,hok,hsym⟩:=hst
 have W:=IH.le.trans y j
 replace i:=i.mono j
 replace p:=p.mono j
 replace q:=q.mono j
 replace u:=u.mono j
 replace k:=k.mono j
 refine Cod.at hok hsym (.seq (.sr (.ks 2 r (.len un42 r r r r (.ks 1 r (.nilS [72,12,8,6,3] r r (.condP r hd (fun b7 hd=>?_) fun b7 hd=>?_)))))))
 · refine .skipS [12,8,6,3] r r (.seq (.block (.seq (.dr [0,1,2,3,4,5,6,7,12,8,9,10,11,999,13] 14 (.g r r r (fun _=>.loadW ia25 sz25 r .z r r r .mk) (.g r r r (fun _=>.loadW ia53 sz53 r (.s .z) r r r .mk) (.fk 3 r ?_)))))))
   obtain ⟨a5,j8,X,hd⟩:=hd
   obtain ⟨j9,o757,h6,f2,D,b8⟩:=k.2 _ _ X
   obtain ⟨k0,k1,k2,k3,k4,k5,rfl,S,T,U⟩:=b8
   refine .g r r r (fun _=>.ixa un42 sz36 r f2 r a5 (idx_lt X a5) r r .mk) (.g r r r (fun _=>.ldW ia36 sz36 D r r r r .mk) (.fk 1 r (.a (fun b=>.pointer (some ⟨b,0,none⟩)) (fun b=>pto b (.cells #[.int .i64 0,.int .i64 0,.slice none 0 0,.slice none 0 0,.slice none 0 0] 36 (0,0))) r r r r (fun _ L hL ex=>.allocA zv36 r r fun b=>.mk (val:=fun b=>.pointer (some ⟨b,0,none⟩)) (atom:=fun b=>pto b (.cells #[.int .i64 0,.int .i64 0,.slice none 0 0,.slice none 0 0,.slice none 0 0] 36 (0,0))) hL b) (.ww r fun ex=>?_))))
   have c0:=W_model_Step (I:=a4) i p q u S T U hd
   refine .call call19 r c0 r r fun k6 a6 h c1=>?_
   obtain ⟨k7,k8,k9,l0,l1,l2,l3,rfl,f3,f4,f5,hd⟩:=c1
   have Y:=IH.le.trans W h
   have c3:=IH.le.trans j h
   replace i:=i.mono h
   replace p:=p.mono h
   replace q:=q.mono h
   replace u:=u.mono h
   replace k:=k.mono h
   replace S:=S.mono h
   replace T:=T.mono h
   replace U:=U.mono h
   replace D:=D.mono h
   refine .so 2 r r r trivial (.fk 3 r (.b r fun l4=>DrawD.nop (.ww r fun ex=>?_)))
   refine .storeA sz36 r r (.s (.s .z)) (.t (.t (.t (.t (.t .nil))))) r r (.sn 3 r r r (.ck 1 r r trivial) (.e2 14 (.ks 1 r (.nilS [14,13,12,8,6,3] r r (.seq (.dr [0,1,2,3,4,5,6,7,8,9,10] 11 (.fk 3 r ?_)))))))
   refine splitP hd (fun e hd=>?_) fun e hd=>?_
   · refine .g r r r (fun _=>.gno r r e r r .mk) (.g r r r (fun _=>.gno r r e r r .mk) (.g r r r (fun _=>.gno r r e r r .mk) (.g r r r (fun _=>.gno r r e r r .mk) (.g r r r (fun _=>.gno r r e r r .mk) (.g r r r (fun _=>.gno r r e r r .mk) (.g r r r (fun _=>.gno r r e r r .mk) (.g r r r (fun _=>.pickT r e r r r .mk) (.e2 11 (.nilS [97,12,8,6,3] r r ?_)))))))))
     exact .drop (.s (.s .z)) (.condKT r r (.sr (.ks 1 r (.nilS [2] r r (.drop .z (.drop .z (.ret (pret results5 (.t r .n) Y ⟨false,r,hd⟩))))))))
   refine .g r r r (fun _=>.gyes r r e (.loadW ia36 sz36 r (.s (.s .z)) r r r .mk)) (.g r r r (fun _=>.gyes r r e (.move r r r .mk)) (.g r r r (fun _=>.gyes r r e (.move r r r .mk)) ?_))
   obtain ⟨a7,l5,Z,hd⟩:=hd
   obtain ⟨l6,o796,h7,f6,c4,c6⟩:=k.2 _ _ Z
   obtain ⟨l7,l8,l9,m0,m1,m2,rfl,f7,f8,f9⟩:=c6
   refine .g r r r (fun _=>.gyes r r e (.ixa un42 sz36 r f6 r a7 (idx_lt Z a7) r r .mk)) (.g r r r (fun _=>.gyes r r e (.ldW ia36 sz36 c4 r r r r .mk)) (.ww r fun ex=>?_))
   have c7:=W_ref21_Same (I:=a6) f3 f4 f5 f7 f8 f9 hd
   refine .gyes r r e (.callP call15 r c7 r r fun m3 c8=>?_)
   obtain ⟨m4,rfl,hd⟩:=c8
   refine .so 3 r r r trivial (.g r r r (fun _=>.gyes r r e (.not r r r .mk)) (.g r r r (fun _=>.pickF r e r r r .mk) (.e2 11 (.nilS [97,12,8,6,3] r r (.drop (.s (.s .z)) (.condP r hd (fun c9 hd=>?_) fun c9 hd=>?_))))))
   · exact .sr (.ks 1 r (.nilS [2] r r (.drop .z (.drop .z (.ret (pret results5 (.t r .n) Y ⟨false,r,hd⟩))))))
   exact .skipS [12,8,6,3] r r (.region (.ks 3 r (.nil' fun c w ho hs=>⟨(w64 (R+1)),hd,a6,c3,ho.sub ⟨r,r,r,r,trivial⟩,hs.pick (.c .z (.c .z .n))⟩)))
 refine .exitS [6,3] r r (.sr (.loadW ia25 sz25 r .z r r r (.loadW ia53 sz53 r (.s .z) r r r (.build zv36 un36 BI36 (.c r r r (.t .nil) (.c r r r (.s (.t .nil)) .n)) (by exact ⟨⟨_,_,r,r,r⟩,⟨⟨_,_,r,r,r⟩,trivial⟩⟩) r r ?_))))
 have d0:=W_model_Step (I:=a4) (a2:=({ Low:=1,High:=0,A:=([]:List Int),B:=([]:List Int),On:=([]:List Int) }:State)) i p q u (.nil _ none 0) (.nil _ none 0) (.nil _ none 0) hd
 refine .call call19 r d0 r r fun m5 g0 v d1=>?_
 obtain ⟨g1,m6,m7,m8,m9,n0,n1,rfl,n2,n3,n4,hd⟩:=d1
 have a1:=IH.le.trans W v
 have h8:=IH.le.trans j v
 replace i:=i.mono v
 replace p:=p.mono v
 replace q:=q.mono v
 replace u:=u.mono v
 refine .ks 3 r (.allocA zv36 r r fun n5=>?_)
 refine .storeA sz36 r r .z (.t (.t (.t (.t (.t .nil))))) r r (.ks 1 r (.nilS [16] r r (.drop .z (.drop .z (.drop .z (.sr ?_))))))
 have d2:=W_law22_live (I:=g0) hd
 refine .callP call13 r d2 r r fun n6 d3=>?_
 obtain ⟨n7,rfl,hd⟩:=d3
 refine .ks 1 r ?_
 refine splitP hd (fun E hd=>?_) fun E hd=>?_
 · rw [E]
   exact .ks 4 r (.nilS [2] r r (.ret (pret results5 (.t r .n) a1 ⟨(g1.2==4),r,hd⟩)))
 rw [E]
 exact .ks 4 r (.nilS [2] r r (.ret (pret results5 (.t r .n) a1 ⟨false,r,hd⟩)))
end Go.Proofs.YtccpfgdefibdnaaGreat
