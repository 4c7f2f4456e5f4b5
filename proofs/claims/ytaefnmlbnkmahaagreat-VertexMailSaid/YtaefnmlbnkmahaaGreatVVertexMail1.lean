/- The walks (printed by a program of ours). -/
import Derived.Test.YtaefnmlbnkmahaaGreatV2
namespace Go.Proofs.YtaefnmlbnkmahaaGreat
open Go Go.Fw
set_option linter.unusedVariables false
set_option linter.unusedSimpArgs false
set_option maxRecDepth 8000
set_option maxHeartbeats 1000000
open Tryz
theorem W_law21_Within {I:IH} {a0:Int} {a1:Int} {Q:Int→Prop}  (hd:law21_Within a0 a1 Q) :
  PFun prog 16 [.int .i64 a0,.int .i64 a1] I (fun _=>o0_ Q):=by
 refine Fun.enter func16 r ntmps16 r (.c (.c .n)) fun w0 M=>?_
 refine .sr (.ks 1 r (.nilS [1,0] r r (.seq (.sr (.ks 3 r ?_)))))
 refine splitP hd (fun a hd=>?_) fun a hd=>?_
 · rw [a]
   exact .ks 3 r (.nilS [10,1,0] r r (.condKT r r (.sr (.ks 1 r (.nilS [4] r r (.ret (pret results16 (.t r .n) (.refl _) ⟨0,r,hd⟩)))))))
 rw [a]
 refine .ks 3 r (.nilS [10,1,0] r r (.condP r hd (fun b hd=>?_) fun b hd=>?_))
 · exact .sr (.ks 1 r (.nilS [4] r r (.ret (pret results16 (.t r .n) (.refl _) ⟨0,r,hd⟩))))
 refine .skipS [1,0] r r (.sr (.ks 2 r ?_))
 obtain ⟨d,hd⟩:=hd
 exact .rem r r d r r (.ks 1 r (.nilS [4] r r (.ret (pret results16 (.t r .n) (.refl _) ⟨(a0.tmod a1),r,hd⟩))))
theorem W_law21_Graph {I:IH} {a0:Graph} {p1:Option Addr} {c2:Nat} {Q:Graph→Prop} (R3:RepSl eEdge I p1 c2 a0.Edges) (hd:law21_Graph a0 Q) :
  OFun prog 15 [.agg #[.int .i64 a0.N,.slice p1 a0.Edges.length c2]] I (fun _=>o1_ Q):=by
 refine Fun.enter func15 r ntmps15 r (.c .n) fun w0 M=>?_
 refine .sr (.boxA r r r fun F=>?_)
 refine .allocA zv24 r r fun G=>?_
 refine .nilS [2,1] r r (.sr (.fa un24 r sz3 r (o:=0) r r r (.load1 ia3 r (.s .z) r r r ?_)))
 have J:=W_law21_Within (I:=I) hd
 refine .callP call16 r J r r fun Z K=>?_
 obtain ⟨k,rfl,hd⟩:=K
 refine .build zv24 un24 BI24 (.c r r r (.t .nil) .n) (by exact ⟨⟨_,_,r,r,r⟩,trivial⟩) r r (.allocA zv24 r r fun H=>?_)
 refine .storeA sz24 r r .z (.t (.t .nil)) r r (.nilS [3,2,1] r r (.seq (.sr (.ks 1 r (.nilS [4,3,2,1] r r (.block (.own0 eEdge 27 (.loop hd (fun (s:(List Edge)×Int) c w=>match s with | (a,f)=>∃ I_ h i,IH.le I I_∧Ok ⟨51,[],none⟩ [(1,.pointer (some ⟨F,0,none⟩)),(2,.pointer (some ⟨G,0,none⟩)),(3,.pointer (some ⟨H,0,none⟩)),(4,.int .i64 f)] c∧Sym w0 M I I_ [pto F (.cells #[.int .i64 a0.N,.slice p1 a0.Edges.length c2] 24 (0,0)),pto G (.cells #[.int .i64 0,.slice none 0 0] 24 (0,0)),pto H (.cells #[.int .i64 k,.slice h a.length i] 24 (0,0)),OwnSl eEdge 27 h i a] w) (fun c w ho hs=>⟨I,_,_,(.refl _),ho.sub ⟨r,r,r,r,trivial⟩,hs.pick (.c (.s (.s (.s .z))) (.c (.s (.s .z)) (.c (.s .z) (.c .z .n))))⟩) ?_))))))))
 rintro ⟨a,f⟩ O hd c w hst
 obtain ⟨j,h,i,b,hok,hsym⟩:=hst
 replace R3:=R3.mono b
 refine Cod.at hok hsym (.seq (.sr (.ks 1 r (.fa un24 r sz22 r (o:=1) r r r (.load1 ia22 r .z r r r (.len un22 r r r r (.ks 2 r ?_)))))))
 refine splitP hd (fun d hd=>?_) fun d hd=>?_
 · rw [d]
   refine .ks 4 r ?_
   refine splitP hd (fun e hd=>?_) fun e hd=>?_
   · rw [e]
     refine .gyes r r r (.fa un24 r sz3 r (o:=0) r r r (.gyes r r r (.load1 ia3 r (.s (.s .z)) r r r (.ks 2 r (.nilS [23,4,3,2,1] r r (.condP r hd (fun v hd=>?_) fun v hd=>?_))))))
     · refine .skipS [4,3,2,1] r r (.seq (.block (.sr (.fa un24 r sz22 r (o:=1) r r r (.load1 ia22 r .z r r r (.ks 1 r ?_))))))
       obtain ⟨m,p,l,hd⟩:=hd
       obtain ⟨R,o155,P,L,x,y⟩:=R3.2 _ _ l
       cases y
       refine .ixa un22 sz27 r L r m (idx_lt l m) r r (.ldW ia27 sz27 x r r r r (.allocA zv27 r r fun S=>?_))
       refine .storeA sz27 r r .z (.t (.t (.t .nil))) r r (.nilS [5,4,3,2,1] r r (.dr [0,1,2,3,4,5,7,8,9,10,12,13,14,6,11,15,16,17] 18 (.g r r r (fun _=>.fa un24 r sz22 r (o:=1) r r r .mk) (.g r r r (fun _=>.load1 ia22 r (.s (.s (.s .z))) r r r .mk) (.g r r r (fun _=>.fa un27 r sz3 r (o:=0) r r r .mk) (.g r r r (fun _=>.load1 ia3 r .z r r r .mk) (.g r r r (fun _=>.fa un24 r sz3 r (o:=0) r r r .mk) (.g r r r (fun _=>.load1 ia3 r (.s (.s (.s .z))) r r r .mk) (.g r r r (fun _=>.fa un27 r sz3 r (o:=1) r r r .mk) ?_)))))))))
       refine .g r r r (fun _=>.load1 ia3 r .z r r r .mk) (.g r r r (fun _=>.fa un24 r sz3 r (o:=0) r r r .mk) (.g r r r (fun _=>.load1 ia3 r (.s (.s (.s .z))) r r r .mk) (.g r r r (fun _=>.fa un27 r sz2 r (o:=2) r r r .mk) (.g r r r (fun _=>.load1 ia2 r .z r r r .mk) (.fk 1 r (.ww r fun ex=>?_))))))
       have A:=W_law21_Within (I:=j) hd
       refine .callP call16 r A r r fun T B=>?_
       obtain ⟨q,rfl,hd⟩:=B
       refine .so 5 r r r (.ck 1 r r (.cg r r r r (fun _=>.load1 ia2 r .z r r r .mk) (.cg r r r r (fun _=>.fa un27 r sz2 r (o:=2) r r r .mk) (.cg r r r r (fun _=>.load1 ia3 r (.s (.s (.s .z))) r r r .mk) (.cg r r r r (fun _=>.fa un24 r sz3 r (o:=0) r r r .mk) (.cg r r r r (fun _=>.load1 ia3 r .z r r r .mk) (.cg r r r r (fun _=>.fa un27 r sz3 r (o:=1) r r r .mk) (.cg r r r r (fun _=>.load1 ia22 r (.s (.s (.s .z))) r r r .mk) (.cg r r r r (fun _=>.fa un24 r sz22 r (o:=1) r r r .mk) trivial))))))))) (.ww r fun ex=>?_)
       have C:=W_law21_Within (I:=j) hd
       refine .callP call16 r C r r fun U D=>?_
       obtain ⟨u,rfl,hd⟩:=D
       refine .so 5 r r r (.ck 1 r r (.cg r r r r (fun _=>.load1 ia2 r .z r r r .mk) (.cg r r r r (fun _=>.fa un27 r sz2 r (o:=2) r r r .mk) (.cg r r r r (fun _=>.load1 ia22 r (.s (.s (.s .z))) r r r .mk) (.cg r r r r (fun _=>.fa un24 r sz22 r (o:=1) r r r .mk) trivial))))) (.g r r r (fun _=>.build zv27 un27 BI27 (.c r r r (.t .nil) (.c r r r (.s (.t .nil)) (.c r r r (.s (.s (.t .nil))) .n))) (by exact ⟨⟨_,_,r,r,r⟩,⟨⟨_,_,r,r,r⟩,⟨⟨_,_,r,r,r⟩,trivial⟩⟩⟩) r r .mk) (.ww r fun ex=>?_))
       refine .buildSlice 1 un22 sz27 zv27 r r (.c r r r .n) r r fun V=>?_
       refine .so 6 r r r (.cg r r r r (fun _=>.load1 ia22 r (.s (.s (.s (.s .z)))) r r r .mk) (.cg r r r r (fun _=>.fa un24 r sz22 r (o:=1) r r r .mk) trivial)) (.ww r fun ex=>?_)
       obtain ⟨E,hd⟩:=hd
       refine .append (ys:=[({ From:=q,To:=u,W:=bnd .i64 p.W 2147483647 }:Edge)]) 24 (.s (.s (.s (.s (.s .z))))) un22 un22 IN27 r r r r r r r r r (.box .z (.one r) r) E r r fun X Y=>?_
       exact .so 6 r r r trivial (.e2 18 (.fa un24 r sz22 r (o:=1) r r r (.store1 sz22 r r (.s (.s (.s (.s (.s .z))))) (.s (.t .nil)) r (.nilS [4,3,2,1] r r (.drop (.s .z) (.drop (.s .z) (.region (.ks 3 r (.nil' fun c w ho hs=>⟨((a++([({ From:=q,To:=u,W:=bnd .i64 p.W 2147483647 }:Edge)])),w64 (f+1)),hd,j,_,_,b,ho.sub ⟨r,r,r,r,trivial⟩,hs.pick (.c (.s .z) (.c (.s .z) (.c (.s .z) (.c .z .n))))⟩)))))))))
     exact .exitS [3,2] r r (.drop .z (.sr (.loadW ia24 sz24 r (.s .z) r r r (.storeA sz24 r r .z (.t (.t .nil)) r r (.nilS [2] r r (.drop (.s .z) (.ret (oret results15 (.w ia24 sz24 r .z r .n) b (.c (.s .z) .n) ⟨({ N:=k,Edges:=a }:Graph),_,_,r,r,hd⟩))))))))
   rw [e]
   refine .ks 4 r (.nilS [23,4,3,2,1] r r (.condKF r r (.exitS [3,2] r r (.drop .z (.sr (.loadW ia24 sz24 r (.s .z) r r r (.storeA sz24 r r .z (.t (.t .nil)) r r (.nilS [2] r r (.drop (.s .z) ?_)))))))))
   exact .ret (oret results15 (.w ia24 sz24 r .z r .n) b (.c (.s .z) .n) ⟨({ N:=k,Edges:=a }:Graph),_,_,r,r,hd⟩)
 rw [d]
 refine .ks 8 r (.nilS [23,4,3,2,1] r r (.condKF r r (.exitS [3,2] r r (.drop .z (.sr (.loadW ia24 sz24 r (.s .z) r r r (.storeA sz24 r r .z (.t (.t .nil)) r r (.nilS [2] r r (.drop (.s .z) ?_)))))))))
 exact .ret (oret results15 (.w ia24 sz24 r .z r .n) b (.c (.s .z) .n) ⟨({ N:=k,Edges:=a }:Graph),_,_,r,r,hd⟩)
theorem W_ref05_Right {I:IH} {a0:Graph} {p1:Option Addr} {c2:Nat} {Q:Int→Prop} (R3:RepSl eEdge I p1 c2 a0.Edges) (hd:ref05_Right a0 Q) :
  PFun prog 49 [.agg #[.int .i64 a0.N,.slice p1 a0.Edges.length c2]] I (fun _=>o0_ Q):=by
 refine Fun.enter func49 r ntmps49 r (.c .n) fun w0 M=>?_
 refine .sr (.boxA r r r fun A=>?_)
 refine .ks 1 r (.nilS [1] r r (.seq (.sr (.fa un24 r sz3 r (o:=0) r r r (.load1 ia3 r .z r r r (.ks 1 r (.nilS [8,1] r r (.condP r hd (fun W hd=>?_) fun W hd=>?_))))))))
 · exact .sr (.ks 1 r (.nilS [2] r r (.drop .z (.ret (pret results49 (.t r .n) (.refl _) ⟨3,r,hd⟩)))))
 refine .skipS [1] r r (.seq (.sr (.fa un24 r sz3 r (o:=0) r r r (.load1 ia3 r .z r r r (.ks 2 r ?_)))))
 refine splitP hd (fun k hd=>?_) fun k hd=>?_
 · rw [k]
   exact .ks 5 r (.nilS [17,1] r r (.condKT r r (.sr (.ks 1 r (.nilS [2] r r (.drop .z (.ret (pret results49 (.t r .n) (.refl _) ⟨5,r,hd⟩))))))))
 rw [k]
 refine .gyes r r r (.fa un24 r sz22 r (o:=1) r r r (.gyes r r r (.load1 ia22 r .z r r r (.gyes r r r (.len un22 r r r r (.ks 2 r (.nilS [17,1] r r (.condP r hd (fun O hd=>?_) fun O hd=>?_))))))))
 · exact .sr (.ks 1 r (.nilS [2] r r (.drop .z (.ret (pret results49 (.t r .n) (.refl _) ⟨5,r,hd⟩)))))
 refine .skipS [1] r r (.seq (.sr (.ks 1 r (.nilS [3,1] r r (.block (.loop hd (fun (l:Int) c w=>∃ I_,IH.le I I_∧Ok ⟨75,[],none⟩ [(1,.pointer (some ⟨A,0,none⟩)),(3,.int .i64 l)] c∧Sym w0 M I I_ [pto A (.cells #[.int .i64 a0.N,.slice p1 a0.Edges.length c2] 24 (0,0))] w) (fun c w ho hs=>⟨I,(.refl _),ho.sub ⟨r,r,trivial⟩,hs.pick (.c .z .n)⟩) ?_))))))
 rintro l U hd c w hst
 obtain ⟨m,a,hok,hsym⟩:=hst
 replace R3:=R3.mono a
 refine Cod.at hok hsym (.seq (.sr (.ks 1 r (.fa un24 r sz22 r (o:=1) r r r (.load1 ia22 r .z r r r (.len un22 r r r r (.ks 1 r (.nilS [22,3,1] r r (.condP r hd (fun B hd=>?_) fun B hd=>?_)))))))))
 · refine .skipS [3,1] r r (.seq (.block (.sr (.fa un24 r sz22 r (o:=1) r r r (.load1 ia22 r .z r r r (.ks 1 r ?_))))))
   obtain ⟨v,a1,p,hd⟩:=hd
   obtain ⟨a2,o185,X,P,C,D⟩:=R3.2 _ _ p
   cases D
   refine .ixa un22 sz27 r P r v (idx_lt p v) r r (.ldW ia27 sz27 C r r r r (.allocA zv27 r r fun a3=>?_))
   refine .storeA sz27 r r .z (.t (.t (.t .nil))) r r (.nilS [4,3,1] r r (.sr (.fa un27 r sz3 r (o:=0) r r r (.load1 ia3 r .z r r r (.ks 2 r ?_)))))
   refine splitP hd (fun d hd=>?_) fun d hd=>?_
   · rw [d]
     exact .ks 18 r (.nilS [51,3,1] r r (.drop .z (.condKT r r (.sr (.ks 1 r (.nilS [2] r r (.drop .z (.ret (pret results49 (.t r .n) a ⟨3,r,hd⟩)))))))))
   rw [d]
   refine .gyes r r r (.fa un27 r sz3 r (o:=0) r r r (.gyes r r r (.load1 ia3 r .z r r r (.gyes r r r (.fa un24 r sz3 r (o:=0) r r r (.gyes r r r (.load1 ia3 r (.s .z) r r r (.ks 3 r ?_))))))))
   refine splitP hd (fun e hd=>?_) fun e hd=>?_
   · rw [e]
     exact .ks 11 r (.nilS [51,3,1] r r (.drop .z (.condKT r r (.sr (.ks 1 r (.nilS [2] r r (.drop .z (.ret (pret results49 (.t r .n) a ⟨3,r,hd⟩)))))))))
   rw [e]
   refine .gyes r r r (.fa un27 r sz3 r (o:=1) r r r (.gyes r r r (.load1 ia3 r .z r r r (.ks 3 r ?_))))
   refine splitP hd (fun f hd=>?_) fun f hd=>?_
   · rw [f]
     exact .ks 6 r (.nilS [51,3,1] r r (.drop .z (.condKT r r (.sr (.ks 1 r (.nilS [2] r r (.drop .z (.ret (pret results49 (.t r .n) a ⟨3,r,hd⟩)))))))))
   rw [f]
   refine .gyes r r r (.fa un27 r sz3 r (o:=1) r r r (.gyes r r r (.load1 ia3 r .z r r r (.gyes r r r (.fa un24 r sz3 r (o:=0) r r r (.gyes r r r (.load1 ia3 r (.s .z) r r r (.ks 2 r (.nilS [51,3,1] r r (.drop .z (.condP r hd (fun E hd=>?_) fun E hd=>?_)))))))))))
   · exact .sr (.ks 1 r (.nilS [2] r r (.drop .z (.ret (pret results49 (.t r .n) a ⟨3,r,hd⟩)))))
   exact .skipS [3,1] r r (.region (.ks 3 r (.nil' fun c w ho hs=>⟨(w64 (l+1)),hd,m,a,ho.sub ⟨r,r,trivial⟩,hs.pick (.c .z .n)⟩)))
 refine .exitS [1] r r (.seq (.sr (.ks 1 r (.nilS [5,1] r r (.block (.loop hd (fun (b:Int) c w=>∃ I_,IH.le m I_∧Ok ⟨75,[],none⟩ [(1,.pointer (some ⟨A,0,none⟩)),(5,.int .i64 b)] c∧Sym w0 M I I_ [pto A (.cells #[.int .i64 a0.N,.slice p1 a0.Edges.length c2] 24 (0,0))] w) (fun c w ho hs=>⟨m,(.refl _),ho.sub ⟨r,r,trivial⟩,hs.pick (.c .z .n)⟩) ?_))))))
 rintro b V hd c w hst
 obtain ⟨R,g,hok,hsym⟩:=hst
 have h:=IH.le.trans a g
 replace R3:=R3.mono g
 refine Cod.at hok hsym (.seq (.sr (.ks 1 r (.fa un24 r sz22 r (o:=1) r r r (.load1 ia22 r .z r r r (.len un22 r r r r (.ks 1 r (.nilS [56,5,1] r r (.condP r hd (fun F hd=>?_) fun F hd=>?_)))))))))
 · refine .skipS [5,1] r r (.seq (.block (.sr (.fa un24 r sz22 r (o:=1) r r r (.load1 ia22 r .z r r r (.ks 1 r ?_))))))
   obtain ⟨x,a4,q,hd⟩:=hd
   obtain ⟨a5,o254,Y,S,G,H⟩:=R3.2 _ _ q
   cases H
   refine .ixa un22 sz27 r S r x (idx_lt q x) r r (.fa un27 r sz2 r (o:=o254+b.toNat*3+2) r r r (.ld1 (j:=2) ia2 G r r r r r (.ks 2 r ?_)))
   refine splitP hd (fun i hd=>?_) fun i hd=>?_
   · rw [i]
     exact .ks 8 r (.nilS [74,5,1] r r (.condKT r r (.sr (.ks 1 r (.nilS [2] r r (.drop .z (.ret (pret results49 (.t r .n) h ⟨7,r,hd⟩))))))))
   rw [i]
   refine .gyes r r r (.fa un24 r sz22 r (o:=1) r r r (.gyes r r r (.load1 ia22 r .z r r r (.ks 1 r ?_))))
   obtain ⟨y,a6,u,hd⟩:=hd
   obtain ⟨a7,o264,Z,T,J,K⟩:=R3.2 _ _ u
   cases K
   refine .gyes r r r (.ixa un22 sz27 r T r y (idx_lt u y) r r (.gyes r r r (.fa un27 r sz2 r (o:=o264+b.toNat*3+2) r r r (.gyes r r r (.ld1 (j:=2) ia2 J r r r r r (.ks 2 r (.nilS [74,5,1] r r (.condP r hd (fun L hd=>?_) fun L hd=>?_))))))))
   · exact .sr (.ks 1 r (.nilS [2] r r (.drop .z (.ret (pret results49 (.t r .n) h ⟨7,r,hd⟩)))))
   exact .skipS [5,1] r r (.region (.ks 3 r (.nil' fun c w ho hs=>⟨(w64 (b+1)),hd,R,g,ho.sub ⟨r,r,trivial⟩,hs.pick (.c .z .n)⟩)))
 exact .exitS [] r r (.drop .z (.sr (.ks 1 r (.nilS [2] r r (.ret (pret results49 (.t r .n) h ⟨0,r,hd⟩))))))
theorem W_ref01_Add {I:IH} {a0:Wide} {a1:Wide} {Q:Wide→Prop}  (hd:ref01_Add a0 a1 Q) :
  PFun prog 141 [.agg (encWide a0).toArray,.agg (encWide a1).toArray] I (fun _=>o2_ Q):=by
 refine Fun.enter func141 r ntmps141 r (.c (.c .n)) fun w0 M=>?_
 refine .sr (.boxA r r r fun d=>?_)
 refine .boxA r r r fun e=>?_
 refine .allocA zv127 r r fun b=>?_
 refine .nilS [4,3,2] r r (.sr (.fa un127 r sz125 r (o:=1) r r r (.load1 ia125 r (.s (.s .z)) r r r (.fa un127 r sz125 r (o:=1) r r r (.load1 ia125 r (.s .z) r r r (.ks 2 r (.nilS [5,4,3,2] r r (.sr (.fa un127 r sz2 r (o:=0) r r r ?_)))))))))
 refine .load1 ia2 r (.s (.s .z)) r r r (.fa un127 r sz2 r (o:=0) r r r (.load1 ia2 r (.s .z) r r r (.ks 2 r (.nilS [6,5,4,2] r r (.drop (.s .z) (.seq (.sr (.ks 1 r (.fa un127 r sz125 r (o:=1) r r r ?_)))))))))
 refine .load1 ia125 r (.s .z) r r r (.ks 1 r (.nilS [20,6,5,4] r r (.drop (.s .z) (.condP r hd (fun a hd=>?_) fun a hd=>?_))))
 · exact .region (.ks 3 r (.nilS [6,5,4] r r (.sr (.ks 2 r (.build zv127 un127 BI127 (.c r r r (.t .nil) (.c r r r (.s (.t .nil)) .n)) (by exact ⟨⟨_,_,r,r,r⟩,⟨⟨_,_,r,r,r⟩,trivial⟩⟩) r r (.storeA sz127 r r .z (.t (.t .nil)) r r (.nilS [4] r r (.ret (pret results141 (.w ia127 sz127 r .z r .n) (.refl _) ⟨({ Hi:=w64 ((w64 (a0.Hi+a1.Hi))+1),Lo:=IntKind.wrap .u64 (a0.Lo+a1.Lo) }:Wide),r,hd⟩)))))))))
 exact .skipS [6,5,4] r r (.sr (.ks 2 r (.build zv127 un127 BI127 (.c r r r (.t .nil) (.c r r r (.s (.t .nil)) .n)) (by exact ⟨⟨_,_,r,r,r⟩,⟨⟨_,_,r,r,r⟩,trivial⟩⟩) r r (.storeA sz127 r r .z (.t (.t .nil)) r r (.nilS [4] r r (.ret (pret results141 (.w ia127 sz127 r .z r .n) (.refl _) ⟨({ Hi:=w64 (a0.Hi+a1.Hi),Lo:=IntKind.wrap .u64 (a0.Lo+a1.Lo) }:Wide),r,hd⟩)))))))
theorem W_ref01_Compare {I:IH} {a0:Wide} {a1:Wide} {Q:Int→Prop}  (hd:ref01_Compare a0 a1 Q) :
  PFun prog 143 [.agg (encWide a0).toArray,.agg (encWide a1).toArray] I (fun _=>o0_ Q):=by
 refine Fun.enter func143 r ntmps143 r (.c (.c .n)) fun w0 M=>?_
 refine .sr (.boxA r r r fun g=>?_)
 refine .boxA r r r fun h=>?_
 refine .ks 1 r (.nilS [3,2] r r (.seq ?_))
 refine Cod.joinQ (σ:=Unit) hd (fun (_:Unit) c w=>∃ I_,IH.le I I_∧Ok ⟨27,[],none⟩ [(2,.pointer (some ⟨g,0,none⟩)),(3,.pointer (some ⟨h,0,none⟩))] c∧Sym w0 M I I_ [pto g (.cells #[.int .i64 a0.Hi,.int .u64 a0.Lo] 127 (0,0)),pto h (.cells #[.int .i64 a1.Hi,.int .u64 a1.Lo] 127 (0,0))] w) (fun i hd=>?_) ?_
 · skip
   refine .sr (.fa un127 r sz2 r (o:=0) r r r (.load1 ia2 r (.s .z) r r r (.fa un127 r sz2 r (o:=0) r r r (.load1 ia2 r .z r r r (.ks 2 r ?_)))))
   refine splitP hd (fun a hd=>?_) fun a hd=>?_
   · rw [a]
     exact .ks 13 r (.nilS [23,3,2] r r (.condKT r r (.sr (.ks 1 r (.nilS [4] r r (.drop .z (.drop .z (.ret (pret results143 (.t r .n) (.refl _) ⟨(-1),r,hd⟩)))))))))
   rw [a]
   refine .gyes r r r (.fa un127 r sz2 r (o:=0) r r r (.gyes r r r (.load1 ia2 r (.s .z) r r r (.gyes r r r (.fa un127 r sz2 r (o:=0) r r r (.gyes r r r (.load1 ia2 r .z r r r (.ks 2 r ?_))))))))
   refine splitP hd (fun b hd=>?_) fun b hd=>?_
   · rw [b]
     refine .gyes r r r (.fa un127 r sz125 r (o:=1) r r r (.gyes r r r (.load1 ia125 r (.s .z) r r r (.gyes r r r (.fa un127 r sz125 r (o:=1) r r r (.gyes r r r (.load1 ia125 r .z r r r (.ks 3 r (.nilS [23,3,2] r r (.condP r hd (fun e hd=>?_) fun e hd=>?_))))))))))
     · exact .sr (.ks 1 r (.nilS [4] r r (.drop .z (.drop .z (.ret (pret results143 (.t r .n) (.refl _) ⟨(-1),r,hd⟩))))))
     exact .skip' fun c w ho hs=>⟨(),hd,I,(.refl _),ho.sub ⟨r,r,trivial⟩,hs.pick (.c (.s .z) (.c .z .n))⟩
   rw [b]
   exact .ks 7 r (.nilS [23,3,2] r r (.condKF r r (.skip' fun c w ho hs=>⟨(),hd,I,(.refl _),ho.sub ⟨r,r,trivial⟩,hs.pick (.c (.s .z) (.c .z .n))⟩)))
 rintro ⟨⟩ hd c w hst
 obtain ⟨j,d,hok,hsym⟩:=hst
 refine Cod.at hok hsym (.seq (.sr (.loadW ia127 sz127 r .z r r r (.loadW ia127 sz127 r (.s .z) r r r (.eqV r r (EQ127 a0 a1) (EG127 _ _ _ _ _) r r r (.nilS [26] r r (.drop .z (.drop .z (.condP r hd (fun f hd=>?_) fun f hd=>?_)))))))))
 · exact .sr (.ks 1 r (.nilS [4] r r (.ret (pret results143 (.t r .n) d ⟨0,r,hd⟩))))
 exact .skipS [] r r (.sr (.ks 1 r (.nilS [4] r r (.ret (pret results143 (.t r .n) d ⟨1,r,hd⟩)))))
theorem W_ref02_truth {I:IH} {a0:Bool} {Q:Wide→Prop}  (hd:ref02_truth a0 Q) :
  PFun prog 144 [.bool a0] I (fun _=>o2_ Q):=by
 refine Fun.enter func144 r ntmps144 r (.c .n) fun w0 M=>?_
 refine .sr (.allocA zv127 r r fun b=>?_)
 refine .nilS [2,0] r r (.seq (.sr (.ks 1 r (.nilS [3,2] r r (.condP r hd (fun a hd=>?_) fun a hd=>?_)))))
 · exact .sr (.build zv127 un127 BI127 (.c r r r (.s (.t .nil)) .n) (by exact ⟨⟨_,_,r,r,r⟩,trivial⟩) r r (.storeA sz127 r r .z (.t (.t .nil)) r r (.nilS [2] r r (.ret (pret results144 (.w ia127 sz127 r .z r .n) (.refl _) ⟨({ Hi:=0,Lo:=1 }:Wide),r,hd⟩)))))
 exact .skipS [2] r r (.sr (.build zv127 un127 BI127 .n (by exact trivial) r r (.storeA sz127 r r .z (.t (.t .nil)) r r (.nilS [2] r r (.ret (pret results144 (.w ia127 sz127 r .z r .n) (.refl _) ⟨({ Hi:=0,Lo:=0 }:Wide),r,hd⟩))))))
theorem W_ref02_Add {I:IH} {a0:Int} {a1:Wide} {a2:Wide} {Q:Wide→Prop}  (hd:ref02_Add a0 a1 a2 Q) :
  PFun prog 80 [.int .i64 a0,.agg (encWide a1).toArray,.agg (encWide a2).toArray] I (fun _=>o2_ Q):=by
 refine Fun.enter func80 r ntmps80 r (.c (.c (.c .n))) fun w0 M=>?_
 refine .sr (.boxA r r r fun A=>?_)
 refine .boxA r r r fun B=>?_
 refine .allocA zv127 r r fun e=>?_
 refine .nilS [6,5,4,0] r r (.sr (.ks 1 r (.nilS [7,6,5,4] r r (.block (.seq ?_)))))
 refine Cod.joinQ (σ:=Bool) hd (fun (f:Bool) c w=>∃ I_,IH.le I I_∧Ok ⟨35,[],none⟩ [(4,.pointer (some ⟨A,0,none⟩)),(5,.pointer (some ⟨B,0,none⟩)),(6,.pointer (some ⟨e,0,none⟩)),(7,.int .i64 a0),(9,.bool f)] c∧Sym w0 M I I_ [pto A (.cells #[.int .i64 a1.Hi,.int .u64 a1.Lo] 127 (0,0)),pto B (.cells #[.int .i64 a2.Hi,.int .u64 a2.Lo] 127 (0,0)),pto e (.cells #[.int .i64 0,.int .u64 0] 127 (0,0))] w) (fun F hd=>?_) ?_
 · skip
   refine .sr (.ks 2 r (.nilS [9,7,6,5,4] r r (.condP r hd (fun g hd=>?_) fun g hd=>?_)))
   · exact .skip' fun c w ho hs=>⟨(a0==1),hd,I,(.refl _),ho.sub ⟨r,r,r,r,r,trivial⟩,hs.pick (.c (.s (.s .z)) (.c (.s .z) (.c .z .n)))⟩
   refine .sr (.ks 2 r (.nilS [9,7,6,5,4] r r (.condP r hd (fun h hd=>?_) fun h hd=>?_)))
   · exact .skip' fun c w ho hs=>⟨(a0==3),hd,I,(.refl _),ho.sub ⟨r,r,r,r,r,trivial⟩,hs.pick (.c (.s (.s .z)) (.c (.s .z) (.c .z .n)))⟩
   exact .region (.ks 2 r (.nil' fun c w ho hs=>⟨(a0==4),hd,I,(.refl _),ho.sub ⟨r,r,r,r,r,trivial⟩,hs.pick (.c (.s (.s .z)) (.c (.s .z) (.c .z .n)))⟩))
 rintro f hd c w hst
 obtain ⟨d,a,hok,hsym⟩:=hst
 refine Cod.at hok hsym (.condP r hd (fun i hd=>?_) fun i hd=>?_)
 · refine .seq (.sr (.loadW ia127 sz127 r (.s .z) r r r (.loadW ia127 sz127 r .z r r r ?_)))
   have j:=W_ref01_Compare (I:=d) hd
   refine .callP call143 r j r r fun G k=>?_
   obtain ⟨H,rfl,hd⟩:=k
   refine .ks 1 r (.nilS [16,6,5,4] r r (.condP r hd (fun l hd=>?_) fun l hd=>?_))
   · exact .sr (.loadW ia127 sz127 r (.s .z) r r r (.storeA sz127 r r (.s (.s .z)) (.t (.t .nil)) r r (.nilS [6] r r (.drop .z (.drop .z (.ret (pret results80 (.w ia127 sz127 r .z r .n) a ⟨a2,r,hd⟩)))))))
   exact .skipS [6,4] r r (.drop (.s .z) (.sr (.loadW ia127 sz127 r .z r r r (.storeA sz127 r r (.s .z) (.t (.t .nil)) r r (.nilS [6] r r (.drop .z (.ret (pret results80 (.w ia127 sz127 r .z r .n) a ⟨a1,r,hd⟩))))))))
 refine .sr (.ks 2 r (.nilS [19,7,6,5,4] r r (.condP r hd (fun m hd=>?_) fun m hd=>?_)))
 · refine .sr (.loadW ia127 sz127 r .z r r r (.build zv127 un127 BI127 .n (by exact trivial) r r (.neV r r (EQ127 a1 ({ Hi:=0,Lo:=0 }:Wide)) (EG127 _ _ _ _ _) r r r (.ks 1 r ?_))))
   refine splitP hd (fun b hd=>?_) fun b hd=>?_
   · rw [b]
     refine .ks 4 r ?_
     have o:=W_ref02_truth (I:=d) hd
     refine .callP call144 r o r r fun J p=>?_
     obtain ⟨C,rfl,hd⟩:=p
     exact .storeA sz127 r r (.s (.s .z)) (.t (.t .nil)) r r (.nilS [6] r r (.drop .z (.drop .z (.ret (pret results80 (.w ia127 sz127 r .z r .n) a ⟨C,r,hd⟩)))))
   rw [b]
   refine .gyes r r r (.loadW ia127 sz127 r (.s .z) r r r (.gyes r r r (.build zv127 un127 BI127 .n (by exact trivial) r r (.gyes r r r (.neV r r (EQ127 a2 ({ Hi:=0,Lo:=0 }:Wide)) (EG127 _ _ _ _ _) r r r (.ks 1 r ?_))))))
   have q:=W_ref02_truth (I:=d) hd
   refine .callP call144 r q r r fun K u=>?_
   obtain ⟨D,rfl,hd⟩:=u
   exact .storeA sz127 r r (.s (.s .z)) (.t (.t .nil)) r r (.nilS [6] r r (.drop .z (.drop .z (.ret (pret results80 (.w ia127 sz127 r .z r .n) a ⟨D,r,hd⟩)))))
 refine .sr (.ks 2 r (.nilS [30,6,5,4] r r (.condP r hd (fun v hd=>?_) fun v hd=>?_)))
 · refine .sr (.loadW ia127 sz127 r .z r r r (.loadW ia127 sz127 r (.s .z) r r r ?_))
   have x:=W_ref01_Add (I:=d) hd
   refine .callP call141 r x r r fun L y=>?_
   obtain ⟨E,rfl,hd⟩:=y
   exact .storeA sz127 r r (.s (.s .z)) (.t (.t .nil)) r r (.nilS [6] r r (.drop .z (.drop .z (.ret (pret results80 (.w ia127 sz127 r .z r .n) a ⟨E,r,hd⟩)))))
 exact .sr (.build zv127 un127 BI127 .n (by exact trivial) r r (.storeA sz127 r r (.s (.s .z)) (.t (.t .nil)) r r (.nilS [6] r r (.drop .z (.drop .z (.ret (pret results80 (.w ia127 sz127 r .z r .n) a ⟨({ Hi:=0,Lo:=0 }:Wide),r,hd⟩)))))))
theorem W_ref01_Narrow {I:IH} {a0:Wide} {Q:(Int×Bool)→Prop}  (hd:ref01_Narrow a0 Q) :
  PFun prog 81 [.agg (encWide a0).toArray] I (fun _=>o3_ Q):=by
 refine Fun.enter func81 r ntmps81 r (.c .n) fun w0 M=>?_
 refine .sr (.boxA r r r fun h=>?_)
 refine .ks 2 r (.nilS [1] r r (.sr (.fa un127 r sz125 r (o:=1) r r r (.load1 ia125 r .z r r r (.conv un125 un2 r r r (.ks 1 r (.nilS [4,1] r r (.seq (.sr ?_)))))))))
 refine .fa un127 r sz2 r (o:=0) r r r (.load1 ia2 r .z r r r (.ks 2 r ?_))
 refine splitP hd (fun a hd=>?_) fun a hd=>?_
 · rw [a]
   refine .ks 4 r ?_
   refine splitP hd (fun b hd=>?_) fun b hd=>?_
   · rw [b]
     exact .ks 8 r (.nilS [23,4] r r (.drop .z (.condKT r r (.sr (.ks 3 r (.nilS [3,2] r r (.ret (pret results81 (.t r (.t r .n)) (.refl _) ⟨(w64 (a0.Lo),true),r,hd⟩))))))))
   rw [b]
   refine .gyes r r r (.fa un127 r sz2 r (o:=0) r r r (.gyes r r r (.load1 ia2 r .z r r r (.ks 2 r ?_))))
   refine splitP hd (fun d hd=>?_) fun d hd=>?_
   · rw [d]
     refine .ks 4 r (.nilS [23,4] r r (.drop .z (.condP r hd (fun g hd=>?_) fun g hd=>?_)))
     · exact .sr (.ks 3 r (.nilS [3,2] r r (.ret (pret results81 (.t r (.t r .n)) (.refl _) ⟨(w64 (a0.Lo),true),r,hd⟩))))
     exact .skipS [] r r (.sr (.ks 2 r (.nilS [3,2] r r (.ret (pret results81 (.t r (.t r .n)) (.refl _) ⟨(0,false),r,hd⟩)))))
   rw [d]
   exact .ks 4 r (.nilS [23,4] r r (.drop .z (.condKF r r (.skipS [] r r (.sr (.ks 2 r (.nilS [3,2] r r (.ret (pret results81 (.t r (.t r .n)) (.refl _) ⟨(0,false),r,hd⟩)))))))))
 rw [a]
 refine .ks 4 r (.gyes r r r (.fa un127 r sz2 r (o:=0) r r r (.gyes r r r (.load1 ia2 r .z r r r (.ks 2 r ?_)))))
 refine splitP hd (fun e hd=>?_) fun e hd=>?_
 · rw [e]
   refine .ks 4 r (.nilS [23,4] r r (.drop .z (.condP r hd (fun f hd=>?_) fun f hd=>?_)))
   · exact .sr (.ks 3 r (.nilS [3,2] r r (.ret (pret results81 (.t r (.t r .n)) (.refl _) ⟨(w64 (a0.Lo),true),r,hd⟩))))
   exact .skipS [] r r (.sr (.ks 2 r (.nilS [3,2] r r (.ret (pret results81 (.t r (.t r .n)) (.refl _) ⟨(0,false),r,hd⟩)))))
 rw [e]
 exact .ks 4 r (.nilS [23,4] r r (.drop .z (.condKF r r (.skipS [] r r (.sr (.ks 2 r (.nilS [3,2] r r (.ret (pret results81 (.t r (.t r .n)) (.refl _) ⟨(0,false),r,hd⟩)))))))))
theorem W_ref02_Is {I:IH} {a0:Int} {Q:Bool→Prop}  (hd:ref02_Is a0 Q) :
  PFun prog 112 [.int .i64 a0] I (fun _=>o4_ Q):=by
 refine Fun.enter func112 r ntmps112 r (.c .n) fun w0 M=>?_
 refine .sr (.ks 1 r (.nilS [0] r r (.sr (.ks 3 r ?_))))
 refine splitP hd (fun a hd=>?_) fun a hd=>?_
 · rw [a]
   exact .ks 4 r (.nilS [2] r r (.ret (pret results112 (.t r .n) (.refl _) ⟨(decide (a0≤5)),r,hd⟩)))
 rw [a]
 exact .ks 4 r (.nilS [2] r r (.ret (pret results112 (.t r .n) (.refl _) ⟨false,r,hd⟩)))
theorem W_ref01_Of {I:IH} {a0:Int} {Q:Wide→Prop}  (hd:ref01_Of a0 Q) :
  PFun prog 142 [.int .i64 a0] I (fun _=>o2_ Q):=by
 refine Fun.enter func142 r ntmps142 r (.c .n) fun w0 M=>?_
 refine .sr (.allocA zv127 r r fun b=>?_)
 refine .nilS [2,0] r r (.seq (.sr (.ks 2 r (.nilS [4,2,0] r r (.condP r hd (fun a hd=>?_) fun a hd=>?_)))))
 · exact .sr (.ks 1 r (.conv un2 un125 r r r (.build zv127 un127 BI127 (.c r r r (.t .nil) (.c r r r (.s (.t .nil)) .n)) (by exact ⟨⟨_,_,r,r,r⟩,⟨⟨_,_,r,r,r⟩,trivial⟩⟩) r r (.storeA sz127 r r .z (.t (.t .nil)) r r (.nilS [2] r r (.ret (pret results142 (.w ia127 sz127 r .z r .n) (.refl _) ⟨({ Hi:=(-1),Lo:=IntKind.wrap .u64 (a0) }:Wide),r,hd⟩)))))))
 exact .skipS [2,0] r r (.sr (.ks 1 r (.conv un2 un125 r r r (.build zv127 un127 BI127 (.c r r r (.s (.t .nil)) .n) (by exact ⟨⟨_,_,r,r,r⟩,trivial⟩) r r (.storeA sz127 r r .z (.t (.t .nil)) r r (.nilS [2] r r (.ret (pret results142 (.w ia127 sz127 r .z r .n) (.refl _) ⟨({ Hi:=0,Lo:=IntKind.wrap .u64 (a0) }:Wide),r,hd⟩))))))))
theorem W_ref05_below {I:IH} {a0:Edge} {a1:Edge} {Q:Bool→Prop}  (hd:ref05_below a0 a1 Q) :
  PFun prog 182 [.agg (encEdge a0).toArray,.agg (encEdge a1).toArray] I (fun _=>o4_ Q):=by
 refine Fun.enter func182 r ntmps182 r (.c (.c .n)) fun w0 M=>?_
 refine .sr (.boxA r r r fun d=>?_)
 refine .boxA r r r fun e=>?_
 refine .ks 1 r (.nilS [3,2] r r (.sr (.fa un27 r sz3 r (o:=0) r r r (.load1 ia3 r (.s .z) r r r (.fa un27 r sz3 r (o:=0) r r r (.load1 ia3 r .z r r r (.ks 2 r ?_)))))))
 refine splitP hd (fun b hd=>?_) fun b hd=>?_
 · rw [b]
   exact .ks 14 r (.nilS [4] r r (.drop .z (.drop .z (.ret (pret results182 (.t r .n) (.refl _) ⟨true,r,hd⟩)))))
 rw [b]
 refine .gyes r r r (.fa un27 r sz3 r (o:=0) r r r (.gyes r r r (.load1 ia3 r (.s .z) r r r (.gyes r r r (.fa un27 r sz3 r (o:=0) r r r (.gyes r r r (.load1 ia3 r .z r r r (.ks 2 r ?_))))))))
 refine splitP hd (fun a hd=>?_) fun a hd=>?_
 · rw [a]
   exact .gyes r r r (.fa un27 r sz3 r (o:=1) r r r (.gyes r r r (.load1 ia3 r (.s .z) r r r (.gyes r r r (.fa un27 r sz3 r (o:=1) r r r (.gyes r r r (.load1 ia3 r .z r r r (.ks 4 r (.nilS [4] r r (.drop .z (.drop .z (.ret (pret results182 (.t r .n) (.refl _) ⟨(decide (a0.To<a1.To)),r,hd⟩)))))))))))))
 rw [a]
 exact .ks 8 r (.nilS [4] r r (.drop .z (.drop .z (.ret (pret results182 (.t r .n) (.refl _) ⟨false,r,hd⟩)))))
theorem W_ref05_Combine {I:IH} {a0:Int} {a1:List Edge} {p1:Option Addr} {c2:Nat} {Q:((List Edge)×Int)→Prop} (R3:RepSl eEdge I p1 c2 a1) (hd:ref05_Combine a0 a1 Q) :
  OFun prog 113 [.int .i64 a0,.slice p1 a1.length c2] I (fun I_ v l=>∃ r p4 c5,v=.tuple #[.slice p4 r.1.length c5,.int .i64 r.2]∧l=[OwnSl eEdge 27 p4 c5 r.1]∧Q r):=by
 refine Fun.enter func113 r ntmps113 r (.c (.c .n)) fun w0 M=>?_
 refine .sr (.ks 2 r (.nilS [1,0] r r (.seq (.sr (.ks 1 r ?_)))))
 have k6:=W_ref02_Is (I:=I) hd
 refine .callP call112 r k6 r r fun q0 k7=>?_
 obtain ⟨q1,rfl,hd⟩:=k7
 refine .ks 1 r (.nilS [17,1,0] r r (.condP r hd (fun k8 hd=>?_) fun k8 hd=>?_))
 · exact .sr (.ks 2 r (.nilS [5,4] r r (.own0 eEdge 27 (.ret (oret results113 (.t r (.t r .n)) (.refl _) (.c .z .n) ⟨(([]:List Edge),8),_,_,r,r,hd⟩)))))
 refine .skipS [1,0] r r (.sr (.ks 1 r (.nilS [6,1,0] r r (.sr (.ks 1 r (.nilS [7,6,1,0] r r (.seq (.sr (.ks 1 r ?_)))))))))
 refine .nilS [8,7,6,1,0] r r (.block (.own0 eEdge 27 (.own0 eWide 127 (.loop hd (fun (s:(List Edge)×(List Wide)×Int) c w=>match s with | (m,d,h)=>∃ I_ u x i e,IH.le I I_∧Ok ⟨145,[],none⟩ [(0,.int .i64 a0),(1,.slice p1 a1.length c2),(6,.slice u m.length x),(7,.slice i d.length e),(8,.int .i64 h)] c∧Sym w0 M I I_ [OwnSl eEdge 27 u x m,OwnSl eWide 127 i e d] w) (fun c w ho hs=>⟨I,_,_,_,_,(.refl _),ho.sub ⟨r,r,r,r,r,trivial⟩,hs.pick (.c (.s .z) (.c .z .n))⟩) ?_))))
 rintro ⟨m,d,h⟩ k9 hd c w hst
 obtain ⟨H,u,x,i,e,J,hok,hsym⟩:=hst
 replace R3:=R3.mono J
 refine Cod.at hok hsym (.seq (.sr (.ks 2 r (.len un22 r r r r (.ks 1 r (.nilS [21,8,7,6,1,0] r r (.condP r hd (fun g0 hd=>?_) fun g0 hd=>?_)))))))
 · refine .skipS [8,7,6,1,0] r r (.seq (.block (.sr (.ks 1 r (.nilS [9,8,7,6,1,0] r r (.seq ?_))))))
   refine Cod.joinQ (σ:=Int) hd (fun (f:Int) c w=>∃ I_,IH.le H I_∧Ok ⟨145,[],none⟩ [(0,.int .i64 a0),(1,.slice p1 a1.length c2),(6,.slice u m.length x),(7,.slice i d.length e),(8,.int .i64 h),(9,.int .i64 f)] c∧Sym w0 M I I_ [OwnSl eEdge 27 u x m,OwnSl eWide 127 i e d] w) (fun m4 hd=>?_) ?_
   · skip
     refine .block (.loop hd (fun (K:Int) c w=>∃ I_,IH.le H I_∧Ok ⟨145,[],none⟩ [(0,.int .i64 a0),(1,.slice p1 a1.length c2),(6,.slice u m.length x),(7,.slice i d.length e),(8,.int .i64 h),(9,.int .i64 K)] c∧Sym w0 M I I_ [OwnSl eEdge 27 u x m,OwnSl eWide 127 i e d] w) (fun c w ho hs=>⟨H,(.refl _),ho.sub ⟨r,r,r,r,r,r,trivial⟩,hs.pick (.c .z (.c .z .n))⟩) ?_)
     rintro K l0 hd c w hst
     obtain ⟨T,F,hok,hsym⟩:=hst
     have l6:=IH.le.trans J F
     replace R3:=R3.mono F
     refine Cod.at hok hsym (.seq (.seq (.ownF .z fun f5=>?_)))
     refine .ownF (.s .z) fun l3=>?_
     refine .dr [0,1,2,3,4,5,6,7,8,9,10,11,12,13,14] 15 (.fk 2 r (.g r r r (fun _=>.len un22 r r r r .mk) (.fk 2 r ?_)))
     refine splitP hd (fun b hd=>?_) fun b hd=>?_
     · refine .g r r r (fun _=>.gyes r r b (.move r r r .mk)) (.g r r r (fun _=>.gyes r r b (.move r r r .mk)) ?_)
       obtain ⟨d1,m5,a2,hd⟩:=hd
       obtain ⟨m6,j1⟩:=f5 (idx_ne a2)
       cases j1
       refine .g r r r (fun _=>.gyes r r b (.ixa0 un22 sz27 r r d1 (idx_lt a2 d1) r r .mk)) (.g r r r (fun _=>.gyes r r b (.loA (j:=0) ia27 sz27 .z a2 r r (.t (.t (.t .nil))) r r r .mk)) (.g r r r (fun _=>.gyes r r b (.move r r r .mk)) (.g r r r (fun _=>.gyes r r b (.move r r r .mk)) ?_)))
       obtain ⟨d2,m7,b8,hd⟩:=hd
       obtain ⟨m8,o2887,l7,j2,g1,g2⟩:=R3.2 _ _ b8
       cases g2
       refine .g r r r (fun _=>.gyes r r b (.ixa un22 sz27 r j2 r d2 (idx_lt b8 d2) r r .mk)) (.g r r r (fun _=>.gyes r r b (.ldW ia27 sz27 g1 r r r r .mk)) (.ww r fun ex=>?_))
       have g3:=W_ref05_below (I:=T) hd
       refine .gyes r r b (.callP call182 r g3 r r fun m9 g4=>?_)
       obtain ⟨n0,rfl,hd⟩:=g4
       refine .so 2 r r r trivial (.g r r r (fun _=>.pickT r b r r r .mk) (.e2 15 (.nilS [38,9,8,7,6,1,0] r r (.condP r hd (fun g5 hd=>?_) fun g5 hd=>?_))))
       · exact .skipS [9,8,7,6,1,0] r r (.block (.region (.ks 3 r (.nil' fun c w ho hs=>⟨(w64 (K+1)),hd,T,F,ho.sub ⟨r,r,r,r,r,r,trivial⟩,hs.pick (.c .z (.c .z .n))⟩))))
       exact .exit fun c w ho hs=>⟨K,hd,T,F,ho.sub ⟨r,r,r,r,r,r,trivial⟩,hs.pick (.c .z (.c .z .n))⟩
     refine .g r r r (fun _=>.gno r r b r r .mk) (.g r r r (fun _=>.gno r r b r r .mk) (.g r r r (fun _=>.gno r r b r r .mk) (.g r r r (fun _=>.gno r r b r r .mk) (.g r r r (fun _=>.gno r r b r r .mk) (.g r r r (fun _=>.gno r r b r r .mk) (.g r r r (fun _=>.gno r r b r r .mk) (.g r r r (fun _=>.gno r r b r r .mk) (.g r r r (fun _=>.gno r r b r r .mk) (.g r r r (fun _=>.pickF r b r r r .mk) ?_)))))))))
     exact .e2 15 (.nilS [38,9,8,7,6,1,0] r r (.condKF r r (.exit fun c w ho hs=>⟨K,hd,T,F,ho.sub ⟨r,r,r,r,r,r,trivial⟩,hs.pick (.c .z (.c .z .n))⟩)))
   rintro f hd c w hst
   obtain ⟨L,a3,hok,hsym⟩:=hst
   have g6:=IH.le.trans J a3
   replace R3:=R3.mono a3
   refine Cod.at hok hsym (.sr (.ks 2 r ?_))
   obtain ⟨d3,n1,b9,hd⟩:=hd
   obtain ⟨n2,o2919,l8,j3,g7,g8⟩:=R3.2 _ _ b9
   cases g8
   refine .ixa un22 sz27 r j3 r d3 (idx_lt b9 d3) r r (.fa un27 r sz2 r (o:=o2919+h.toNat*3+2) r r r (.ld1 (j:=2) ia2 g7 r r r r r ?_))
   have g9:=W_ref01_Of (I:=L) hd
   refine .callP call142 r g9 r r fun n3 h0=>?_
   obtain ⟨y,rfl,hd⟩:=h0
   refine .allocA zv127 r r fun U=>?_
   refine .storeA sz127 r r .z (.t (.t .nil)) r r (.nilS [10,9,8,7,6,1,0] r r (.seq (.seq ?_)))
   refine Cod.joinQ (σ:=Bool) hd (fun (d4:Bool) c w=>∃ I_,IH.le L I_∧Ok ⟨145,[],none⟩ [(0,.int .i64 a0),(1,.slice p1 a1.length c2),(6,.slice u m.length x),(7,.slice i d.length e),(8,.int .i64 h),(9,.int .i64 f),(10,.pointer (some ⟨U,0,none⟩)),(62,.bool d4)] c∧Sym w0 M I I_ [OwnSl eEdge 27 u x m,OwnSl eWide 127 i e d,pto U (.cells #[.int .i64 y.Hi,.int .u64 y.Lo] 127 (0,0))] w) (fun n4 hd=>?_) ?_
   · skip
     refine .ownF (.s .z) fun f6=>?_
     refine .ownF (.s (.s .z)) fun l4=>?_
     refine .dr [0,1,2,3,4,5,6,7,8,9,10,11,12,13,14,15] 16 (.fk 2 r (.g r r r (fun _=>.len un22 r r r r .mk) (.fk 2 r ?_)))
     refine splitP hd (fun a hd=>?_) fun a hd=>?_
     · refine .g r r r (fun _=>.gyes r r a (.move r r r .mk)) (.g r r r (fun _=>.gyes r r a (.move r r r .mk)) ?_)
       obtain ⟨d5,n5,c0,hd⟩:=hd
       obtain ⟨n6,o3065,l9,j4,h1,h2⟩:=R3.2 _ _ c0
       cases h2
       refine .g r r r (fun _=>.gyes r r a (.ixa un22 sz27 r j4 r d5 (idx_lt c0 d5) r r .mk)) (.g r r r (fun _=>.gyes r r a (.ldW ia27 sz27 h1 r r r r .mk)) (.g r r r (fun _=>.gyes r r a (.move r r r .mk)) (.g r r r (fun _=>.gyes r r a (.move r r r .mk)) ?_)))
       obtain ⟨d6,n7,a4,hd⟩:=hd
       obtain ⟨n8,j5⟩:=f6 (idx_ne a4)
       cases j5
       refine .g r r r (fun _=>.gyes r r a (.ixa0 un22 sz27 r r d6 (idx_lt a4 d6) r r .mk)) (.g r r r (fun _=>.gyes r r a (.loA (j:=0) ia27 sz27 (.s .z) a4 r r (.t (.t (.t .nil))) r r r .mk)) (.ww r fun ex=>?_))
       have h3:=W_ref05_below (I:=L) hd
       refine .gyes r r a (.callP call182 r h3 r r fun n9 h4=>?_)
       obtain ⟨j6,rfl,hd⟩:=h4
       exact .so 3 r r r trivial (.g r r r (fun _=>.gyes r r a (.not r r r .mk)) (.g r r r (fun _=>.pickT r a r r r .mk) (.e2 16 (.nil' fun c w ho hs=>⟨(!j6),hd,L,(.refl _),ho.sub ⟨r,r,r,r,r,r,r,r,trivial⟩,hs.pick (.c (.s .z) (.c (.s .z) (.c .z .n)))⟩))))
     refine .g r r r (fun _=>.gno r r a r r .mk) (.g r r r (fun _=>.gno r r a r r .mk) (.g r r r (fun _=>.gno r r a r r .mk) (.g r r r (fun _=>.gno r r a r r .mk) (.g r r r (fun _=>.gno r r a r r .mk) (.g r r r (fun _=>.gno r r a r r .mk) (.g r r r (fun _=>.gno r r a r r .mk) (.g r r r (fun _=>.gno r r a r r .mk) (.g r r r (fun _=>.gno r r a r r .mk) (.g r r r (fun _=>.gno r r a r r .mk) ?_)))))))))
     exact .g r r r (fun _=>.pickF r a r r r .mk) (.e2 16 (.nil' fun c w ho hs=>⟨false,hd,L,(.refl _),ho.sub ⟨r,r,r,r,r,r,r,r,trivial⟩,hs.pick (.c (.s .z) (.c (.s .z) (.c .z .n)))⟩))
   rintro d4 hd c w hst
   obtain ⟨V,N,hok,hsym⟩:=hst
   have c1:=IH.le.trans g6 N
   have h5:=IH.le.trans a3 N
   replace R3:=R3.mono N
   refine Cod.at hok hsym (.condP r hd (fun h6 hd=>?_) fun h6 hd=>?_)
   · refine .seq (.ownF .z fun l5=>?_)
     refine .ownF (.s .z) fun f7=>?_
     refine .dr [0,1,2,3,4,5,6,7,8] 9 (.fk 5 r ?_)
     obtain ⟨d7,o0,a5,hd⟩:=hd
     obtain ⟨b2,j7⟩:=f7 (idx_ne a5)
     cases j7
     refine .g r r r (fun _=>.ixa0 un78 sz127 r r d7 (idx_lt a5 d7) r r .mk) (.g r r r (fun _=>.loA (j:=0) ia127 sz127 (.s .z) a5 r r (.t (.t .nil)) r r r .mk) (.g r r r (fun _=>.loadW ia127 sz127 r (.s (.s .z)) r r r .mk) (.ww r fun ex=>?_)))
     have h7:=W_ref02_Add (I:=V) hd
     refine .callP call80 r h7 r r fun o1 h8=>?_
     obtain ⟨O,rfl,hd⟩:=h8
     refine .so 3 r r r (.ck 2 r r trivial) (.e2 9 ?_)
     obtain ⟨d8,o2,c3,hd⟩:=hd
     exact .ixa0 un78 sz127 r r d8 (idx_lt c3 d8) r r (.stOA (j:=0) (v':=O) sz127 (.s .z) c3 r r r (.t (.t .nil)) r r (.sub (E':=[(0,_),(1,_),(6,_),(7,.slice (some ⟨b2,0,none⟩) (d.set f.toNat O).length e),(8,_),(9,_),(10,_),(62,_),(63,.slice (some ⟨b2,0,none⟩) (d.set f.toNat O).length e),(64,_),(65,_),(66,.slice (some ⟨b2,0,none⟩) (d.set f.toNat O).length e),(67,_),(68,_),(69,_),(70,_),(71,_),(72,_)]) ⟨r,r,r,(by simp only [List.length_set]; rfl),r,r,r,r,(by simp only [List.length_set]; rfl),r,r,(by simp only [List.length_set]; rfl),r,r,r,r,r,r,trivial⟩ (.nilS [8,7,6,1,0] r r (.drop (.s (.s .z)) (.exitS [8,7,6,1,0] r r (.region (.ks 3 r (.nil' fun c w ho hs=>⟨(m,(d.set f.toNat O),w64 (h+1)),hd,V,_,_,_,_,c1,ho.sub ⟨r,r,r,r,r,trivial⟩,hs.pick (.c .z (.c .z .n))⟩))))))))
   refine .skipS [10,9,8,7,6,1,0] r r (.sr (.ks 1 r (.build zv27 un27 BI27 .n (by exact trivial) r r (.buildSlice 1 un22 sz27 zv27 r r (.c r r r .n) r r fun o3=>?_))))
   obtain ⟨h9,hd⟩:=hd
   refine .append (ys:=[({ From:=0,To:=0,W:=0 }:Edge)]) 24 (.s .z) un22 un22 IN27 r r r r r r r r r (.box .z (.one r) r) h9 r r fun o4 o5=>?_
   refine .ks 1 r (.nilS [6,10,9,8,7,1,0] r r (.drop (.s .z) (.sr (.ks 1 r (.build zv127 un127 BI127 .n (by exact trivial) r r (.buildSlice 1 un78 sz127 zv127 r r (.c r r r .n) r r fun o6=>?_))))))
   obtain ⟨i0,hd⟩:=hd
   refine .append (ys:=[({ Hi:=0,Lo:=0 }:Wide)]) 16 (.s (.s .z)) un78 un78 IN127 r r r r r r r r r (.box .z (.one r) r) i0 r r fun o7 o8=>?_
   refine .ks 1 r (.nilS [7,6,10,9,8,1,0] r r (.drop (.s .z) (.seq (.sr (.ks 1 r (.len un22 r r r r (.ks 2 r (.nilS [11,7,6,10,9,8,1,0] r r (.block ?_)))))))))
   refine .loop hd (fun (s:(List Edge)×(List Wide)×Int) c w=>match s with | (p,q,k)=>∃ I_ b3 A b4 B,IH.le V I_∧Ok ⟨145,[],none⟩ [(0,.int .i64 a0),(1,.slice p1 a1.length c2),(6,.slice b3 p.length A),(7,.slice b4 q.length B),(8,.int .i64 h),(9,.int .i64 f),(10,.pointer (some ⟨U,0,none⟩)),(11,.int .i64 k)] c∧Sym w0 M I I_ [OwnSl eEdge 27 b3 A p,OwnSl eWide 127 b4 B q,pto U (.cells #[.int .i64 y.Hi,.int .u64 y.Lo] 127 (0,0))] w) (fun c w ho hs=>⟨V,_,_,_,_,(.refl _),ho.sub ⟨r,r,r,r,r,r,r,r,trivial⟩,hs.pick (.c (.s .z) (.c .z (.c .z .n)))⟩) ?_
   rintro ⟨p,q,k⟩ l1 hd c w hst
   obtain ⟨d9,b3,A,b4,B,G,hok,hsym⟩:=hst
   have i1:=IH.le.trans c1 G
   have m0:=IH.le.trans h5 G
   have m1:=IH.le.trans N G
   replace R3:=R3.mono G
   refine Cod.at hok hsym (.seq (.sr (.ks 3 r (.nilS [86,11,10,9,8,7,6,1,0] r r (.condP r hd (fun i2 hd=>?_) fun i2 hd=>?_)))))
   · refine .skipS [11,10,9,8,7,6,1,0] r r (.seq (.block (.sr (.ks 5 r ?_))))
     obtain ⟨e0,P,a6,hd⟩:=hd
     refine .ownNe .z (idx_ne a6) fun b5 j8=>?_
     cases j8
     refine .ixa0 un22 sz27 r r e0 (idx_lt a6 e0) r r (.loA (j:=0) ia27 sz27 .z a6 r r (.t (.t (.t .nil))) r r r ?_)
     obtain ⟨e1,o9,c4,hd⟩:=hd
     refine .ixa0 un22 sz27 r r e1 (idx_lt c4 e1) r r (.stOA (j:=0) (v':=P) sz27 .z c4 r r r (.t (.t (.t .nil))) r r (.sub (E':=[(0,_),(1,_),(6,.slice (some ⟨b5,0,none⟩) (p.set k.toNat P).length A),(7,_),(8,_),(9,_),(10,_),(11,_),(89,.slice (some ⟨b5,0,none⟩) (p.set k.toNat P).length A),(90,_),(91,.slice (some ⟨b5,0,none⟩) (p.set k.toNat P).length A),(92,_),(93,_),(94,_),(95,_),(96,_)]) ⟨r,r,(by simp only [List.length_set]; rfl),r,r,r,r,r,(by simp only [List.length_set]; rfl),r,(by simp only [List.length_set]; rfl),r,r,r,r,r,trivial⟩ (.nilS [11,10,9,8,7,6,1,0] r r (.region (.ks 5 r ?_)))))
     obtain ⟨e3,R,a7,hd⟩:=hd
     refine .ownNe (.s .z) (idx_ne a7) fun b6 j9=>?_
     cases j9
     refine .ixa0 un78 sz127 r r e3 (idx_lt a7 e3) r r (.loA (j:=0) ia127 sz127 (.s .z) a7 r r (.t (.t .nil)) r r r ?_)
     obtain ⟨e4,p0,c6,hd⟩:=hd
     exact .ixa0 un78 sz127 r r e4 (idx_lt c6 e4) r r (.stOA (j:=0) (v':=R) sz127 (.s .z) c6 r r r (.t (.t .nil)) r r (.sub (E':=[(0,_),(1,_),(6,_),(7,.slice (some ⟨b6,0,none⟩) (q.set k.toNat R).length B),(8,_),(9,_),(10,_),(11,_),(97,.slice (some ⟨b6,0,none⟩) (q.set k.toNat R).length B),(98,_),(99,.slice (some ⟨b6,0,none⟩) (q.set k.toNat R).length B),(100,_),(101,_),(102,_),(103,_),(104,_)]) ⟨r,r,r,(by simp only [List.length_set]; rfl),r,r,r,r,(by simp only [List.length_set]; rfl),r,(by simp only [List.length_set]; rfl),r,r,r,r,r,trivial⟩ (.nilS [11,10,9,8,7,6,1,0] r r (.region (.ks 3 r (.nil' fun c w ho hs=>⟨((p.set k.toNat P),(q.set k.toNat R),w64 (k - 1)),hd,d9,_,_,_,_,G,ho.sub ⟨r,r,r,r,r,r,r,r,trivial⟩,hs.pick (.c .z (.c .z (.c .z .n)))⟩))))))
   refine .exitS [10,9,8,7,6,1,0] r r (.seq (.ownF .z fun f8=>?_))
   refine .ownF (.s .z) fun f9=>?_
   refine .dr [0,1,2,3,4,5,6,7,8,9,10,11,12] 13 (.fk 4 r ?_)
   obtain ⟨e5,X,c7,hd⟩:=hd
   obtain ⟨p2,o3320,m2,k0,i3,i4⟩:=R3.2 _ _ c7
   cases i4
   refine .g r r r (fun _=>.ixa un22 sz27 r k0 r e5 (idx_lt c7 e5) r r .mk) (.g r r r (fun _=>.fa un27 r sz3 r (o:=o3320+h.toNat*3) r r r .mk) (.g r r r (fun _=>.ld1 (j:=0) ia3 i3 r r r r r .mk) (.fk 2 r ?_)))
   obtain ⟨e6,Y,c8,hd⟩:=hd
   obtain ⟨p3,o3329,m3,k1,i5,i6⟩:=R3.2 _ _ c8
   cases i6
   refine .g r r r (fun _=>.ixa un22 sz27 r k1 r e6 (idx_lt c8 e6) r r .mk) (.g r r r (fun _=>.fa un27 r sz3 r (o:=o3329+h.toNat*3+1) r r r .mk) (.g r r r (fun _=>.ld1 (j:=1) ia3 i5 r r r r r .mk) (.g r r r (fun _=>.build zv27 un27 BI27 (.c r r r (.t .nil) (.c r r r (.s (.t .nil)) .n)) (by exact ⟨⟨_,_,r,r,r⟩,⟨⟨_,_,r,r,r⟩,trivial⟩⟩) r r .mk) (.e2 13 ?_))))
   obtain ⟨e7,p5,a8,hd⟩:=hd
   obtain ⟨e8,k2⟩:=f8 (idx_ne a8)
   cases k2
   refine .ixa0 un22 sz27 r r e7 (idx_lt a8 e7) r r (.stOA (j:=0) (v':=({ From:=X.From,To:=Y.To,W:=0 }:Edge)) sz27 .z a8 r r r (.t (.t (.t .nil))) r r (.sub (E':=[(0,_),(1,_),(6,.slice (some ⟨e8,0,none⟩) (p.set f.toNat ({ From:=X.From,To:=Y.To,W:=0 }:Edge)).length A),(7,_),(8,_),(9,_),(10,_),(105,.slice (some ⟨e8,0,none⟩) (p.set f.toNat ({ From:=X.From,To:=Y.To,W:=0 }:Edge)).length A),(106,_),(107,_),(108,_),(109,_),(110,_),(111,_),(112,_),(113,_),(114,_),(115,_),(116,_),(117,_),(118,_)]) ⟨r,r,(by simp only [List.length_set]; rfl),r,r,r,r,(by simp only [List.length_set]; rfl),r,r,r,r,r,r,r,r,r,r,r,r,r,trivial⟩ (.nilS [10,9,8,7,6,1,0] r r (.region (.ks 2 r (.loadW ia127 sz127 r (.s (.s .z)) r r r ?_))))))
   obtain ⟨e9,p6,a9,hd⟩:=hd
   obtain ⟨f0,k3⟩:=f9 (idx_ne a9)
   cases k3
   exact .ixa0 un78 sz127 r r e9 (idx_lt a9 e9) r r (.stOA (j:=0) (v':=y) sz127 (.s .z) a9 r r r (.t (.t .nil)) r r (.sub (E':=[(0,_),(1,_),(6,_),(7,.slice (some ⟨f0,0,none⟩) (q.set f.toNat y).length B),(8,_),(9,_),(10,_),(119,.slice (some ⟨f0,0,none⟩) (q.set f.toNat y).length B),(120,_),(121,_),(122,_)]) ⟨r,r,r,(by simp only [List.length_set]; rfl),r,r,r,(by simp only [List.length_set]; rfl),r,r,r,trivial⟩ (.nilS [8,7,6,1,0] r r (.drop (.s (.s .z)) (.region (.ks 3 r (.nil' fun c w ho hs=>⟨((p.set f.toNat ({ From:=X.From,To:=Y.To,W:=0 }:Edge)),(q.set f.toNat y),w64 (h+1)),hd,d9,_,_,_,_,i1,ho.sub ⟨r,r,r,r,r,trivial⟩,hs.pick (.c .z (.c .z .n))⟩)))))))
 refine .exitS [7,6] r r (.seq (.sr (.ks 1 r (.nilS [12,7,6] r r (.block (.loop hd (fun (s:(List Edge)×Int) c w=>match s with | (D,E)=>∃ I_ b7 S,IH.le H I_∧Ok ⟨145,[],none⟩ [(6,.slice b7 D.length S),(7,.slice i d.length e),(12,.int .i64 E)] c∧Sym w0 M I I_ [OwnSl eEdge 27 b7 S D,OwnSl eWide 127 i e d] w) (fun c w ho hs=>⟨H,_,_,(.refl _),ho.sub ⟨r,r,r,trivial⟩,hs.pick (.c .z (.c .z .n))⟩) ?_))))))
 rintro ⟨D,E⟩ l2 hd c w hst
 obtain ⟨f1,b7,S,c9,hok,hsym⟩:=hst
 have d0:=IH.le.trans J c9
 refine Cod.at hok hsym (.seq (.sr (.ks 2 r (.len un22 r r r r (.ks 1 r (.nilS [126,12,7,6] r r (.condP r hd (fun i7 hd=>?_) fun i7 hd=>?_)))))))
 · refine .skipS [12,7,6] r r (.seq (.block (.sr (.ks 2 r ?_))))
   obtain ⟨f2,p7,b0,hd⟩:=hd
   refine .ownNe (.s .z) (idx_ne b0) fun p8 k4=>?_
   cases k4
   refine .ixa0 un78 sz127 r r f2 (idx_lt b0 f2) r r (.loA (j:=0) ia127 sz127 (.s .z) b0 r r (.t (.t .nil)) r r r ?_)
   have i8:=W_ref01_Narrow (I:=f1) hd
   refine .callP call81 r i8 r r fun p9 i9=>?_
   obtain ⟨Z,rfl,hd⟩:=i9
   refine .ks 5 r (.nilS [14,13,12,7,6] r r (.seq (.sr (.ks 2 r (.nilS [138,13,12,7,6] r r (.condP r hd (fun j0 hd=>?_) fun j0 hd=>?_))))))
   · exact .sr (.ks 2 r (.nilS [5,4] r r (.drop .z (.drop .z (.own0 eEdge 27 (.ret (oret results113 (.t r (.t r .n)) d0 (.c .z .n) ⟨(([]:List Edge),12),_,_,r,r,hd⟩)))))))
   refine .skipS [13,12,7,6] r r (.region (.ks 3 r ?_))
   obtain ⟨f3,C,b1,hd⟩:=hd
   refine .ownNe .z (idx_ne b1) fun f4 k5=>?_
   cases k5
   exact .ixa0 un22 sz27 r r f3 (idx_lt b1 f3) r r (.fa un27 r sz2 r (o:=E.toNat*3+2) r r r (.stO1 (j:=2) (v':=({ From:=C.From,To:=C.To,W:=Z.1 }:Edge)) sz2 .z b1 r r r (.s (.s (.t .nil))) r (.sub (E':=[(6,.slice (some ⟨f4,0,none⟩) (D.set E.toNat ({ From:=C.From,To:=C.To,W:=Z.1 }:Edge)).length S),(7,_),(12,_),(13,_),(139,.slice (some ⟨f4,0,none⟩) (D.set E.toNat ({ From:=C.From,To:=C.To,W:=Z.1 }:Edge)).length S),(140,_),(141,_),(142,_),(143,_)]) ⟨(by simp only [List.length_set]; rfl),r,r,r,(by simp only [List.length_set]; rfl),r,r,r,r,trivial⟩ (.nilS [12,7,6] r r (.region (.ks 3 r (.nil' fun c w ho hs=>⟨((D.set E.toNat ({ From:=C.From,To:=C.To,W:=Z.1 }:Edge)),w64 (E+1)),hd,f1,_,_,c9,ho.sub ⟨r,r,r,trivial⟩,hs.pick (.c .z (.c .z .n))⟩)))))))
 exact .exitS [6] r r (.drop (.s .z) (.sr (.ks 3 r (.nilS [5,4] r r (.ret (oret results113 (.t r (.t r .n)) d0 (.c .z .n) ⟨(D,0),_,_,r,r,hd⟩))))))
theorem W_ref05_Canon {I:IH} {a0:Graph} {p1:Option Addr} {c2:Nat} {Q:Graph→Prop} (R3:RepSl eEdge I p1 c2 a0.Edges) (hd:ref05_Canon a0 Q) :
  OFun prog 100 [.agg #[.int .i64 a0.N,.slice p1 a0.Edges.length c2]] I (fun _=>o1_ Q):=by
 refine Fun.enter func100 r ntmps100 r (.c .n) fun w0 M=>?_
 refine .sr (.boxA r r r fun f=>?_)
 refine .allocA zv24 r r fun g=>?_
 refine .nilS [2,1] r r (.sr (.fa un24 r sz22 r (o:=1) r r r (.load1 ia22 r (.s .z) r r r ?_)))
 have b:=W_ref05_Combine (I:=I) R3 hd
 refine .callO call113 r b r r fun h i j a d=>?_
 obtain ⟨e,k,l,rfl,rfl,hd⟩:=d
 replace R3:=R3.mono a
 refine .ks 5 r (.nilS [3,2,1] r r (.sr (.fa un24 r sz3 r (o:=0) r r r (.load1 ia3 r (.s (.s .z)) r r r (.ks 1 r (.build zv24 un24 BI24 (.c r r r (.t .nil) (.c r r r (.s (.t .nil)) .n)) (by exact ⟨⟨_,_,r,r,r⟩,⟨⟨_,_,r,r,r⟩,trivial⟩⟩) r r (.storeA sz24 r r (.s .z) (.t (.t .nil)) r r (.nilS [2] r r (.drop (.s (.s .z)) ?_)))))))))
 exact .ret (oret results100 (.w ia24 sz24 r (.s .z) r .n) a (.c .z .n) ⟨({ N:=a0.N,Edges:=e.1 }:Graph),_,_,r,r,hd⟩)
theorem W_ref05_Turn {I:IH} {a0:Graph} {p1:Option Addr} {c2:Nat} {Q:Graph→Prop} (R3:RepSl eEdge I p1 c2 a0.Edges) (hd:ref05_Turn a0 Q) :
  OFun prog 50 [.agg #[.int .i64 a0.N,.slice p1 a0.Edges.length c2]] I (fun _=>o1_ Q):=by
 refine Fun.enter func50 r ntmps50 r (.c .n) fun w0 M=>?_
 refine .sr (.boxA r r r fun B=>?_)
 refine .allocA zv24 r r fun C=>?_
 refine .nilS [2,1] r r (.sr (.fa un24 r sz3 r (o:=0) r r r (.load1 ia3 r (.s .z) r r r (.build zv24 un24 BI24 (.c r r r (.t .nil) .n) (by exact ⟨⟨_,_,r,r,r⟩,trivial⟩) r r (.allocA zv24 r r fun D=>?_)))))
 refine .storeA sz24 r r .z (.t (.t .nil)) r r (.nilS [3,2,1] r r (.seq (.sr (.ks 1 r (.nilS [4,3,2,1] r r (.block (.own0 eEdge 27 (.loop hd (fun (s:(List Edge)×Int) c w=>match s with | (d,h)=>∃ I_ i j,IH.le I I_∧Ok ⟨35,[],none⟩ [(1,.pointer (some ⟨B,0,none⟩)),(2,.pointer (some ⟨C,0,none⟩)),(3,.pointer (some ⟨D,0,none⟩)),(4,.int .i64 h)] c∧Sym w0 M I I_ [pto B (.cells #[.int .i64 a0.N,.slice p1 a0.Edges.length c2] 24 (0,0)),pto C (.cells #[.int .i64 0,.slice none 0 0] 24 (0,0)),pto D (.cells #[.int .i64 a0.N,.slice i d.length j] 24 (0,0)),OwnSl eEdge 27 i j d] w) (fun c w ho hs=>⟨I,_,_,(.refl _),ho.sub ⟨r,r,r,r,trivial⟩,hs.pick (.c (.s (.s (.s .z))) (.c (.s (.s .z)) (.c (.s .z) (.c .z .n))))⟩) ?_))))))))
 rintro ⟨d,h⟩ J hd c w hst
 obtain ⟨E,i,j,b,hok,hsym⟩:=hst
 replace R3:=R3.mono b
 refine Cod.at hok hsym (.seq (.sr (.ks 1 r (.fa un24 r sz22 r (o:=1) r r r (.load1 ia22 r .z r r r (.len un22 r r r r (.ks 1 r (.nilS [13,4,3,2,1] r r (.condP r hd (fun l hd=>?_) fun l hd=>?_)))))))))
 · refine .skipS [4,3,2,1] r r (.seq (.block (.sr (.fa un24 r sz22 r (o:=1) r r r (.load1 ia22 r .z r r r (.ks 1 r ?_))))))
   obtain ⟨k,a,f,hd⟩:=hd
   obtain ⟨L,o121,K,F,m,p⟩:=R3.2 _ _ f
   cases p
   refine .ixa un22 sz27 r F r k (idx_lt f k) r r (.ldW ia27 sz27 m r r r r (.allocA zv27 r r fun O=>?_))
   refine .storeA sz27 r r .z (.t (.t (.t .nil))) r r (.nilS [5,4,3,2,1] r r (.region (.fa un24 r sz22 r (o:=1) r r r (.load1 ia22 r (.s (.s (.s .z))) r r r (.fa un27 r sz3 r (o:=1) r r r (.load1 ia3 r .z r r r (.fa un27 r sz3 r (o:=0) r r r (.load1 ia3 r .z r r r (.fa un27 r sz2 r (o:=2) r r r ?_)))))))))
   refine .load1 ia2 r .z r r r (.build zv27 un27 BI27 (.c r r r (.t .nil) (.c r r r (.s (.t .nil)) (.c r r r (.s (.s (.t .nil))) .n))) (by exact ⟨⟨_,_,r,r,r⟩,⟨⟨_,_,r,r,r⟩,⟨⟨_,_,r,r,r⟩,trivial⟩⟩⟩) r r (.buildSlice 1 un22 sz27 zv27 r r (.c r r r .n) r r fun P=>?_))
   obtain ⟨q,hd⟩:=hd
   refine .append (ys:=[({ From:=a.To,To:=a.From,W:=a.W }:Edge)]) 24 (.s (.s (.s (.s (.s .z))))) un22 un22 IN27 r r r r r r r r r (.box .z (.one r) r) q r r fun R S=>?_
   exact .fa un24 r sz22 r (o:=1) r r r (.store1 sz22 r r (.s (.s (.s (.s (.s .z))))) (.s (.t .nil)) r (.nilS [4,3,2,1] r r (.drop (.s .z) (.drop (.s .z) (.region (.ks 3 r (.nil' fun c w ho hs=>⟨((d++([({ From:=a.To,To:=a.From,W:=a.W }:Edge)])),w64 (h+1)),hd,E,_,_,b,ho.sub ⟨r,r,r,r,trivial⟩,hs.pick (.c (.s .z) (.c (.s .z) (.c (.s .z) (.c .z .n))))⟩)))))))
 refine .exitS [3,2] r r (.drop .z (.sr (.loadW ia24 sz24 r (.s .z) r r r (.pub (.s (.s .z)) fun G u e=>?_))))
 have v:=IH.le.trans b u
 have x:=W_ref05_Canon (I:=G) (a0:=({ N:=a0.N,Edges:=d }:Graph)) e hd
 refine .callO call100 r x r r fun T U V g y=>?_
 obtain ⟨H,X,Y,rfl,rfl,hd⟩:=y
 have A:=IH.le.trans v g
 replace e:=e.mono g
 exact .storeA sz24 r r (.s .z) (.t (.t .nil)) r r (.nilS [2] r r (.drop (.s (.s .z)) (.ret (oret results50 (.w ia24 sz24 r (.s .z) r .n) A (.c .z .n) ⟨H,_,_,r,r,hd⟩))))
theorem W_ref07_Empty {I:IH} {a0:Int} {a1:Int} {Q:Rows→Prop}  (hd:ref07_Empty a0 a1 Q) :
  OFun prog 101 [.int .i64 a0,.int .i64 a1] I (fun _=>o5_ Q):=by
 refine Fun.enter func101 r ntmps101 r (.c (.c .n)) fun w0 M=>?_
 refine .sr (.allocA zv32 r r fun d=>?_)
 refine .nilS [4,1,0] r r (.sr (.ks 4 r ?_))
 obtain ⟨a,b,hd⟩:=hd
 refine .make (El:=eI64) (zv:=0) 8 un29 IN3 r r r r r r a b r r r fun e=>?_
 exact .build zv32 un32 BI32 (.c r r r (.t .nil) (.c r r r (.s (.t .nil)) (.c r r r (.s (.s (.t .nil))) .n))) (by exact ⟨⟨_,_,r,r,r⟩,⟨⟨_,_,r,r,r⟩,⟨⟨_,_,r,r,r⟩,trivial⟩⟩⟩) r r (.storeA sz32 r r (.s .z) (.t (.t (.t (.t (.t .nil))))) r r (.nilS [4] r r (.own0 eI64 3 (.own0 eI64 2 (.ret (oret results101 (.w ia32 sz32 r (.s (.s (.s .z))) r .n) (.refl _) (.c (.s (.s .z)) (.c (.s .z) (.c .z .n))) ⟨({ Rows:=a0,Cols:=a1,Start:=(List.replicate (w64 (a0+1)).toNat 0),Col:=([]:List Int),Val:=([]:List Int) }:Rows),_,_,_,_,_,_,r,r,hd⟩))))))
theorem W_ref07_built {I:IH} {a0:Int} {a1:Int} {a2:List Triple} {p1:Option Addr} {c2:Nat} {Q:Rows→Prop} (R3:RepSl eTriple I p1 c2 a2) (hd:ref07_built a0 a1 a2 Q) :
  PFun prog 51 [.int .i64 a0,.int .i64 a1,.slice p1 a2.length c2] I (o6_ Q):=by
 refine Fun.enter func51 r ntmps51 r (.c (.c (.c .n))) fun w0 M=>?_
 refine .sr (.allocA zv32 r r fun S=>?_)
 refine .nilS [6,2,1,0] r r (.sr (.ks 2 r ?_))
 have c9:=W_ref07_Empty (I:=I) hd
 refine .callO call101 r c9 r r fun g0 c8 g1 Z d0=>?_
 obtain ⟨h,g2,g3,g4,g5,g6,g7,rfl,rfl,hd⟩:=d0
 replace R3:=R3.mono Z
 refine .allocA zv32 r r fun C=>?_
 refine .storeA sz32 r r .z (.t (.t (.t (.t (.t .nil))))) r r (.nilS [7,6,2,0] r r (.seq (.sr (.ks 1 r (.nilS [8,7,6,2,0] r r (.block (.loop hd (fun (s:(List Int)×(List Int)×(List Int)×Int) c w=>match s with | (v,a,b,d)=>∃ I_ D E F G H J,IH.le c8 I_∧Ok ⟨58,[],none⟩ [(0,.int .i64 a0),(2,.slice p1 a2.length c2),(6,.pointer (some ⟨S,0,none⟩)),(7,.pointer (some ⟨C,0,none⟩)),(8,.int .i64 d)] c∧Sym w0 M I I_ [pto S (.cells #[.int .i64 0,.int .i64 0,.slice none 0 0,.slice none 0 0,.slice none 0 0] 32 (0,0)),pto C (.cells #[.int .i64 h.Rows,.int .i64 h.Cols,.slice D v.length E,.slice F a.length G,.slice H b.length J] 32 (0,0)),OwnSl eI64 3 D E v,OwnSl eI64 3 F G a,OwnSl eI64 2 H J b] w) (fun c w ho hs=>⟨c8,_,_,_,_,_,_,(.refl _),ho.sub ⟨r,r,r,r,r,trivial⟩,hs.pick (.c (.s (.s (.s (.s .z)))) (.c .z (.c .z (.c .z (.c .z .n)))))⟩) ?_)))))))
 rintro ⟨v,a,b,d⟩ d6 hd c w hst
 obtain ⟨a3,D,E,F,G,H,J,i,hok,hsym⟩:=hst
 have T:=IH.le.trans Z i
 replace R3:=R3.mono i
 refine Cod.at hok hsym (.seq (.sr (.ks 2 r (.len un99 r r r r (.ks 1 r (.nilS [16,8,7,6,2,0] r r (.condP r hd (fun b1 hd=>?_) fun b1 hd=>?_)))))))
 · refine .skipS [8,7,6,2,0] r r (.seq (.block (.seq (.ownF (.s (.s .z)) fun d8=>?_))))
   refine .ownF (.s (.s (.s .z))) fun d9=>?_
   refine .ownF (.s (.s (.s (.s .z)))) fun e0=>?_
   refine .dr [0,1,2,3,4,5,6,7,8] 9 (.g r r r (fun _=>.fa un32 r sz29 r (o:=3) r r r .mk) (.g r r r (fun _=>.load1 ia29 r (.s .z) r r r .mk) (.fk 2 r ?_)))
   obtain ⟨a4,m,U,hd⟩:=hd
   obtain ⟨f0,o434,e5,d1,b2,b3⟩:=R3.2 _ _ U
   cases b3
   refine .g r r r (fun _=>.ixa un99 sz101 r d1 r a4 (idx_lt U a4) r r .mk) (.g r r r (fun _=>.fa un101 r sz3 r (o:=o434+d.toNat*3+1) r r r .mk) (.g r r r (fun _=>.ld1 (j:=1) ia3 b2 r r r r r .mk) (.ww r fun ex=>?_)))
   refine .buildSlice 1 un29 sz3 zv3 r r (.c r r r .n) r r fun f1=>?_
   refine .so 6 r r r (.cg r r r r (fun _=>.load1 ia29 r (.s (.s .z)) r r r .mk) (.cg r r r r (fun _=>.fa un32 r sz29 r (o:=3) r r r .mk) trivial)) (.ww r fun ex=>?_)
   obtain ⟨b4,hd⟩:=hd
   refine .append (ys:=[m.Col]) 8 (.s (.s (.s (.s .z)))) un29 un29 IN3 r r r r r r r r r (.box .z (.one r) r) b4 r r fun K L=>?_
   refine .so 6 r r r trivial (.e2 9 (.fa un32 r sz29 r (o:=3) r r r (.store1 sz29 r r (.s (.s (.s .z))) (.s (.s (.s (.t .nil)))) r (.nilS [8,7,6,2,0] r r (.drop (.s .z) (.seq (.ownF .z fun e1=>?_)))))))
   refine .ownF (.s (.s (.s .z))) fun e3=>?_
   refine .ownF (.s (.s (.s (.s .z)))) fun e4=>?_
   refine .dr [0,1,2,3,4,5,6,7,8] 9 (.g r r r (fun _=>.fa un32 r sz30 r (o:=4) r r r .mk) (.g r r r (fun _=>.load1 ia30 r (.s (.s .z)) r r r .mk) (.fk 2 r ?_)))
   obtain ⟨a5,p,V,hd⟩:=hd
   obtain ⟨f2,o470,e6,d2,b5,b6⟩:=R3.2 _ _ V
   cases b6
   refine .g r r r (fun _=>.ixa un99 sz101 r d2 r a5 (idx_lt V a5) r r .mk) (.g r r r (fun _=>.fa un101 r sz2 r (o:=o470+d.toNat*3+2) r r r .mk) (.g r r r (fun _=>.ld1 (j:=2) ia2 b5 r r r r r .mk) (.ww r fun ex=>?_)))
   refine .buildSlice 1 un30 sz2 zv2 r r (.c r r r .n) r r fun f3=>?_
   refine .so 6 r r r (.cg r r r r (fun _=>.load1 ia30 r (.s (.s (.s .z))) r r r .mk) (.cg r r r r (fun _=>.fa un32 r sz30 r (o:=4) r r r .mk) trivial)) (.ww r fun ex=>?_)
   obtain ⟨b7,hd⟩:=hd
   refine .append (ys:=[p.Val]) 8 (.s (.s (.s (.s (.s .z))))) un30 un30 IN2 r r r r r r r r r (.box .z (.one r) r) b7 r r fun N O=>?_
   refine .so 6 r r r trivial (.e2 9 (.fa un32 r sz30 r (o:=4) r r r (.store1 sz30 r r (.s (.s (.s (.s .z)))) (.s (.s (.s (.s (.t .nil))))) r (.nilS [8,7,6,2,0] r r (.drop (.s .z) (.sr (.ks 2 r ?_)))))))
   obtain ⟨a6,f4,W,hd⟩:=hd
   obtain ⟨f5,o494,e7,d3,b8,b9⟩:=R3.2 _ _ W
   cases b9
   refine .ixa un99 sz101 r d3 r a6 (idx_lt W a6) r r (.fa un101 r sz3 r (o:=o494+d.toNat*3) r r r (.ld1 (j:=0) ia3 b8 r r r r r (.ks 2 r (.nilS [9,8,7,6,2,0] r r (.block (.loop hd (fun (s:(List Int)×Int) c w=>match s with | (e,f)=>∃ I_ P q,IH.le a3 I_∧Ok ⟨58,[],none⟩ [(0,.int .i64 a0),(2,.slice p1 a2.length c2),(6,.pointer (some ⟨S,0,none⟩)),(7,.pointer (some ⟨C,0,none⟩)),(8,.int .i64 d),(9,.int .i64 f)] c∧Sym w0 M I I_ [pto S (.cells #[.int .i64 0,.int .i64 0,.slice none 0 0,.slice none 0 0,.slice none 0 0] 32 (0,0)),pto C (.cells #[.int .i64 h.Rows,.int .i64 h.Cols,.slice P e.length q,.slice K (a++([m.Col])).length L,.slice N (b++([p.Val])).length O] 32 (0,0)),OwnSl eI64 3 P q e,OwnSl eI64 3 K L (a++([m.Col])),OwnSl eI64 2 N O (b++([p.Val]))] w) (fun c w ho hs=>⟨a3,_,_,(.refl _),ho.sub ⟨r,r,r,r,r,r,trivial⟩,hs.pick (.c (.s (.s .z)) (.c (.s (.s .z)) (.c (.s (.s .z)) (.c (.s .z) (.c .z .n)))))⟩) ?_))))))
   rintro ⟨e,f⟩ d7 hd c w hst
   obtain ⟨a7,P,q,k,hok,hsym⟩:=hst
   have e8:=IH.le.trans T k
   have c0:=IH.le.trans i k
   replace R3:=R3.mono k
   refine Cod.at hok hsym (.seq (.sr (.ks 3 r (.nilS [47,9,8,7,6,2,0] r r (.condP r hd (fun c1 hd=>?_) fun c1 hd=>?_)))))
   · refine .skipS [9,8,7,6,2,0] r r (.seq (.block (.region (.fa un32 r sz29 r (o:=2) r r r (.load1 ia29 r (.s .z) r r r (.ks 1 r ?_))))))
     obtain ⟨a8,x,y,hd⟩:=hd
     refine .ownNe (.s (.s .z)) (idx_ne y) fun a9 d4=>?_
     cases d4
     refine .ixa0 un29 sz3 r r a8 (idx_lt y a8) r r (.lo1 (j:=0) ia3 (.s (.s .z)) y r r r r r (.ks 1 r ?_))
     obtain ⟨b0,f6,X,hd⟩:=hd
     exact .ixa0 un29 sz3 r r b0 (idx_lt X b0) r r (.stO1 (j:=0) (v':=(w64 (x+1))) sz3 (.s (.s .z)) X r r r (.t .nil) r (.sub (E':=[(0,_),(2,_),(6,_),(7,_),(8,_),(9,_),(50,_),(51,.slice (some ⟨a9,0,none⟩) (e.set f.toNat (w64 (x+1))).length q),(52,_),(53,_),(54,_),(55,_),(56,_)]) ⟨r,r,r,r,r,r,r,(by simp only [List.length_set]; rfl),r,r,r,r,r,trivial⟩ (.reat (.s .z) (B:=pto C (.cells #[.int .i64 h.Rows,.int .i64 h.Cols,.slice (some ⟨a9,0,none⟩) (e.set f.toNat (w64 (x+1))).length q,.slice K (a++([m.Col])).length L,.slice N (b++([p.Val])).length O] 32 (0,0))) (by simp only [List.length_set]) (.nilS [9,8,7,6,2,0] r r (.region (.ks 3 r (.nil' fun c w ho hs=>⟨((e.set f.toNat (w64 (x+1))),w64 (f+1)),hd,a7,_,_,k,ho.sub ⟨r,r,r,r,r,r,trivial⟩,hs.pick (.c .z (.c .z (.c .z (.c .z (.c .z .n)))))⟩)))))))
   exact .exitS [8,7,6,2,0] r r (.region (.ks 3 r (.nil' fun c w ho hs=>⟨(e,(a++([m.Col])),(b++([p.Val])),w64 (d+1)),hd,a7,_,_,_,_,_,_,c0,ho.sub ⟨r,r,r,r,r,trivial⟩,hs.pick (.c .z (.c .z (.c .z (.c .z (.c .z .n)))))⟩)))
 refine .exitS [7,6] r r (.sr (.loadW ia32 sz32 r (.s .z) r r r (.storeA sz32 r r .z (.t (.t (.t (.t (.t .nil))))) r r (.nilS [6] r r (.drop (.s .z) (.pub (.s .z) fun f7 Y u=>?_))))))
 have c3:=IH.le.trans T Y
 have c4:=IH.le.trans i Y
 refine .pub (.s .z) fun f8 A R=>?_
 have c5:=IH.le.trans c3 A
 have c6:=IH.le.trans c4 A
 replace u:=u.mono A
 refine .pub (.s .z) fun f9 l d5=>?_
 have c7:=IH.le.trans c5 l
 have e9:=IH.le.trans c6 l
 replace u:=u.mono l
 replace R:=R.mono l
 exact .ret (pret results51 (.w ia32 sz32 r .z r .n) c7 ⟨({ Rows:=h.Rows,Cols:=h.Cols,Start:=v,Col:=a,Val:=b }:Rows),_,_,_,_,_,_,r,u,R,d5,hd⟩)
theorem W_ref07_Graph {I:IH} {a0:Graph} {p1:Option Addr} {c2:Nat} {Q:(Rows×Int)→Prop} (R3:RepSl eEdge I p1 c2 a0.Edges) (hd:ref07_Graph a0 Q) :
  PFun prog 17 [.agg #[.int .i64 a0.N,.slice p1 a0.Edges.length c2]] I (o7_ Q):=by
 refine Fun.enter func17 r ntmps17 r (.c .n) fun w0 M=>?_
 refine .sr (.boxA r r r fun P=>?_)
 refine .allocA zv32 r r fun R=>?_
 refine .ks 1 r (.nilS [2,1] r r (.seq (.sr (.loadW ia24 sz24 r (.s .z) r r r ?_))))
 have X:=W_ref05_Right (I:=I) R3 hd
 refine .callP call49 r X r r fun c7 Y=>?_
 obtain ⟨b1,rfl,hd⟩:=Y
 refine .ks 1 r (.nilS [4,2,1] r r (.sr (.ks 2 r (.nilS [11,4,2,1] r r (.condP r hd (fun Z hd=>?_) fun Z hd=>?_)))))
 · exact .sr (.build zv32 un32 BI32 .n (by exact trivial) r r (.ks 1 r (.storeA sz32 r r .z (.t (.t (.t (.t (.t .nil))))) r r (.ks 1 r (.nilS [3,2] r r (.drop (.s .z) (.ret (pret results17 (.w ia32 sz32 r .z r (.t r .n)) (.refl _) ⟨(({ Rows:=0,Cols:=0,Start:=([]:List Int),Col:=([]:List Int),Val:=([]:List Int) }:Rows),b1),_,_,_,_,_,_,r,(.nil _ _ _),(.nil _ _ _),(.nil _ _ _),hd⟩))))))))
 refine .skipS [2,1] r r (.sr (.loadW ia24 sz24 r (.s .z) r r r ?_))
 have a1:=W_ref05_Turn (I:=I) R3 hd
 refine .callO call50 r a1 r r fun c8 S c9 q a2=>?_
 obtain ⟨u,T,U,rfl,rfl,hd⟩:=a2
 replace R3:=R3.mono q
 refine .allocA zv24 r r fun V=>?_
 refine .storeA sz24 r r .z (.t (.t .nil)) r r (.nilS [5,2,1] r r (.sr (.ks 1 r (.nilS [6,5,2,1] r r (.seq (.sr (.ks 1 r (.nilS [7,6,5,2,1] r r (.block ?_)))))))))
 refine .own0 eTriple 101 (.loop hd (fun (s:(List Triple)×Int) c w=>match s with | (e,a)=>∃ I_ i k,IH.le S I_∧Ok ⟨51,[],none⟩ [(1,.pointer (some ⟨P,0,none⟩)),(2,.pointer (some ⟨R,0,none⟩)),(5,.pointer (some ⟨V,0,none⟩)),(6,.slice i e.length k),(7,.int .i64 a)] c∧Sym w0 M I I_ [pto P (.cells #[.int .i64 a0.N,.slice p1 a0.Edges.length c2] 24 (0,0)),pto R (.cells #[.int .i64 0,.int .i64 0,.slice none 0 0,.slice none 0 0,.slice none 0 0] 32 (0,0)),pto V (.cells #[.int .i64 u.N,.slice T u.Edges.length U] 24 (0,0)),OwnSl eEdge 27 T U u.Edges,OwnSl eTriple 101 i k e] w) (fun c w ho hs=>⟨S,_,_,(.refl _),ho.sub ⟨r,r,r,r,r,trivial⟩,hs.pick (.c (.s (.s (.s (.s .z)))) (.c (.s (.s (.s .z))) (.c (.s .z) (.c (.s .z) (.c .z .n)))))⟩) ?_)
 rintro ⟨e,a⟩ b0 hd c w hst
 obtain ⟨a3,i,k,b,hok,hsym⟩:=hst
 have E:=IH.le.trans q b
 replace R3:=R3.mono b
 refine Cod.at hok hsym (.seq (.sr (.ks 1 r (.fa un24 r sz22 r (o:=1) r r r (.load1 ia22 r (.s (.s .z)) r r r (.len un22 r r r r (.ks 1 r (.nilS [20,7,6,5,2,1] r r (.condP r hd (fun F hd=>?_) fun F hd=>?_)))))))))
 · refine .skipS [7,6,5,2,1] r r (.seq (.block (.ownF (.s (.s (.s .z))) fun v=>?_)))
   refine .ownF (.s (.s (.s (.s .z)))) fun b2=>?_
   refine .dr [0,1,2,3,4,5,6,7,8,9,10,11,12,13,14,15,16,17,18,19,20,21] 22 (.fk 1 r (.g r r r (fun _=>.fa un24 r sz22 r (o:=1) r r r .mk) (.g r r r (fun _=>.load1 ia22 r (.s (.s .z)) r r r .mk) (.fk 1 r ?_))))
   obtain ⟨x,y,f,hd⟩:=hd
   obtain ⟨b4,a4⟩:=v (idx_ne f)
   cases a4
   refine .g r r r (fun _=>.ixa0 un22 sz27 r r x (idx_lt f x) r r .mk) (.g r r r (fun _=>.fa un27 r sz3 r (o:=a.toNat*3) r r r .mk) (.g r r r (fun _=>.lo1 (j:=0) ia3 (.s (.s (.s .z))) f r r r r r .mk) (.g r r r (fun _=>.fa un24 r sz22 r (o:=1) r r r .mk) (.g r r r (fun _=>.load1 ia22 r (.s (.s .z)) r r r .mk) (.fk 1 r ?_)))))
   obtain ⟨A,B,m,hd⟩:=hd
   refine .g r r r (fun _=>.ixa0 un22 sz27 r r A (idx_lt m A) r r .mk) (.g r r r (fun _=>.fa un27 r sz3 r (o:=a.toNat*3+1) r r r .mk) (.g r r r (fun _=>.lo1 (j:=1) ia3 (.s (.s (.s .z))) m r r r r r .mk) (.g r r r (fun _=>.fa un24 r sz22 r (o:=1) r r r .mk) (.g r r r (fun _=>.load1 ia22 r (.s (.s .z)) r r r .mk) (.fk 1 r ?_)))))
   obtain ⟨C,D,p,hd⟩:=hd
   refine .g r r r (fun _=>.ixa0 un22 sz27 r r C (idx_lt p C) r r .mk) (.g r r r (fun _=>.fa un27 r sz2 r (o:=a.toNat*3+2) r r r .mk) (.g r r r (fun _=>.lo1 (j:=2) ia2 (.s (.s (.s .z))) p r r r r r .mk) (.g r r r (fun _=>.build zv101 un101 BI101 (.c r r r (.t .nil) (.c r r r (.s (.t .nil)) (.c r r r (.s (.s (.t .nil))) .n))) (by exact ⟨⟨_,_,r,r,r⟩,⟨⟨_,_,r,r,r⟩,⟨⟨_,_,r,r,r⟩,trivial⟩⟩⟩) r r .mk) (.ww r fun ex=>?_))))
   refine .buildSlice 1 un99 sz101 zv101 r r (.c r r r .n) r r fun b5=>?_
   refine .so 6 r r r (.ck 1 r r trivial) (.ww r fun ex=>?_)
   obtain ⟨G,hd⟩:=hd
   refine .append (ys:=[({ Row:=y.From,Col:=B.To,Val:=D.W }:Triple)]) 24 (.s (.s (.s (.s (.s .z))))) un99 un99 IN101 r r r r r r r r r (.box .z (.one r) r) G r r fun b6 b7=>?_
   exact .so 6 r r r trivial (.e2 22 (.ks 1 r (.nilS [6,7,5,2,1] r r (.drop (.s .z) (.region (.ks 3 r (.nil' fun c w ho hs=>⟨((e++([({ Row:=y.From,Col:=B.To,Val:=D.W }:Triple)])),w64 (a+1)),hd,a3,_,_,b,ho.sub ⟨r,r,r,r,r,trivial⟩,hs.pick (.c (.s .z) (.c (.s .z) (.c (.s .z) (.c (.s .z) (.c .z .n)))))⟩)))))))
 refine .exitS [6,2,1] r r (.drop (.s (.s .z)) (.drop (.s (.s .z)) (.sr (.fa un24 r sz3 r (o:=0) r r r (.load1 ia3 r .z r r r (.fa un24 r sz3 r (o:=0) r r r (.load1 ia3 r .z r r r (.ks 1 r (.pub (.s (.s .z)) fun a5 h l=>?_)))))))))
 have H:=IH.le.trans E h
 have J:=IH.le.trans b h
 replace R3:=R3.mono h
 have K:=W_ref07_built (I:=a5) l hd
 refine .call call51 r K r r fun b8 b9 d L=>?_
 obtain ⟨a6,c0,c1,c3,c4,c5,c6,rfl,a7,a8,a9,hd⟩:=L
 have O:=IH.le.trans H d
 have b3:=IH.le.trans J d
 replace R3:=R3.mono d
 replace l:=l.mono d
 exact .storeA sz32 r r (.s .z) (.t (.t (.t (.t (.t .nil))))) r r (.ks 1 r (.nilS [3,2] r r (.drop .z (.ret (pret results17 (.w ia32 sz32 r .z r (.t r .n)) O ⟨(a6,0),_,_,_,_,_,_,r,a7,a8,a9,hd⟩)))))
theorem W_ref09_Right {I:IH} {a0:Vec} {p1:Option Addr} {c2:Nat} {Q:Bool→Prop} (R3:RepSl eItem I p1 c2 a0.Items) (hd:ref09_Right a0 Q) :
  PFun prog 123 [.agg #[.int .i64 a0.N,.slice p1 a0.Items.length c2]] I (fun _=>o4_ Q):=by
 refine Fun.enter func123 r ntmps123 r (.c .n) fun w0 M=>?_
 refine .sr (.boxA r r r fun P=>?_)
 refine .ks 1 r (.nilS [1] r r (.seq (.sr (.fa un54 r sz3 r (o:=0) r r r (.load1 ia3 r .z r r r (.ks 2 r ?_))))))
 refine splitP hd (fun f hd=>?_) fun f hd=>?_
 · rw [f]
   exact .ks 4 r (.nilS [11,1] r r (.condKT r r (.sr (.ks 1 r (.nilS [2] r r (.drop .z (.ret (pret results123 (.t r .n) (.refl _) ⟨false,r,hd⟩))))))))
 rw [f]
 refine .gyes r r r (.fa un54 r sz3 r (o:=0) r r r (.gyes r r r (.load1 ia3 r .z r r r (.ks 2 r (.nilS [11,1] r r (.condP r hd (fun F hd=>?_) fun F hd=>?_))))))
 · exact .sr (.ks 1 r (.nilS [2] r r (.drop .z (.ret (pret results123 (.t r .n) (.refl _) ⟨false,r,hd⟩)))))
 refine .skipS [1] r r (.seq (.sr (.ks 1 r (.nilS [3,1] r r (.block (.loop hd (fun (b:Int) c w=>∃ I_,IH.le I I_∧Ok ⟨57,[],none⟩ [(1,.pointer (some ⟨P,0,none⟩)),(3,.int .i64 b)] c∧Sym w0 M I I_ [pto P (.cells #[.int .i64 a0.N,.slice p1 a0.Items.length c2] 54 (0,0))] w) (fun c w ho hs=>⟨I,(.refl _),ho.sub ⟨r,r,trivial⟩,hs.pick (.c .z .n)⟩) ?_))))))
 rintro b R hd c w hst
 obtain ⟨C,a,hok,hsym⟩:=hst
 replace R3:=R3.mono a
 refine Cod.at hok hsym (.seq (.sr (.ks 1 r (.fa un54 r sz52 r (o:=1) r r r (.load1 ia52 r .z r r r (.len un52 r r r r (.ks 1 r (.nilS [16,3,1] r r (.condP r hd (fun G hd=>?_) fun G hd=>?_)))))))))
 · refine .skipS [3,1] r r (.seq (.block (.seq (.dr [0,1,2,3,4,5,6,7,8,9,10,11,12,13,14,15,16,17,18,19,20,21,22,23,24,25,26,27,28,29,30,31,32,33,34,35,36,37] 38 (.g r r r (fun _=>.fa un54 r sz52 r (o:=1) r r r .mk) (.g r r r (fun _=>.load1 ia52 r .z r r r .mk) (.fk 1 r ?_)))))))
   obtain ⟨D,a2,l,hd⟩:=hd
   obtain ⟨a3,o89,W,S,H,J⟩:=R3.2 _ _ l
   cases J
   refine .g r r r (fun _=>.ixa un52 sz51 r S r D (idx_lt l D) r r .mk) (.g r r r (fun _=>.fa un51 r sz3 r (o:=o89+b.toNat*2) r r r .mk) (.g r r r (fun _=>.ld1 (j:=0) ia3 H r r r r r .mk) (.fk 2 r ?_)))
   refine splitP hd (fun h hd=>?_) fun h hd=>?_
   · rw [h]
     exact .fk 30 r (.e2 38 (.nilS [56,3,1] r r (.condKT r r (.sr (.ks 1 r (.nilS [2] r r (.drop .z (.ret (pret results123 (.t r .n) a ⟨false,r,hd⟩)))))))))
   rw [h]
   refine .g r r r (fun _=>.gyes r r r (.fa un54 r sz52 r (o:=1) r r r .mk)) (.g r r r (fun _=>.gyes r r r (.load1 ia52 r .z r r r .mk)) (.fk 1 r ?_))
   obtain ⟨E,a4,m,hd⟩:=hd
   obtain ⟨a5,o99,T,K,s,u⟩:=R3.2 _ _ m
   cases u
   refine .g r r r (fun _=>.gyes r r r (.ixa un52 sz51 r K r E (idx_lt m E) r r .mk)) (.g r r r (fun _=>.gyes r r r (.fa un51 r sz3 r (o:=o99+b.toNat*2) r r r .mk)) (.g r r r (fun _=>.gyes r r r (.ld1 (j:=0) ia3 s r r r r r .mk)) (.g r r r (fun _=>.gyes r r r (.fa un54 r sz3 r (o:=0) r r r .mk)) (.g r r r (fun _=>.gyes r r r (.load1 ia3 r .z r r r .mk)) (.fk 3 r ?_)))))
   refine splitP hd (fun d hd=>?_) fun d hd=>?_
   · rw [d]
     exact .fk 19 r (.e2 38 (.nilS [56,3,1] r r (.condKT r r (.sr (.ks 1 r (.nilS [2] r r (.drop .z (.ret (pret results123 (.t r .n) a ⟨false,r,hd⟩)))))))))
   rw [d]
   refine .fk 3 r ?_
   refine splitP hd (fun e hd=>?_) fun e hd=>?_
   · rw [e]
     refine .g r r r (fun _=>.gyes r r r (.fa un54 r sz52 r (o:=1) r r r .mk)) (.g r r r (fun _=>.gyes r r r (.load1 ia52 r .z r r r .mk)) (.fk 1 r ?_))
     obtain ⟨p,X,i,hd⟩:=hd
     obtain ⟨Y,o110,U,L,v,x⟩:=R3.2 _ _ i
     cases x
     refine .g r r r (fun _=>.gyes r r r (.ixa un52 sz51 r L r p (idx_lt i p) r r .mk)) (.g r r r (fun _=>.gyes r r r (.fa un51 r sz3 r (o:=o110+b.toNat*2) r r r .mk)) (.g r r r (fun _=>.gyes r r r (.ld1 (j:=0) ia3 v r r r r r .mk)) (.g r r r (fun _=>.gyes r r r (.fa un54 r sz52 r (o:=1) r r r .mk)) (.g r r r (fun _=>.gyes r r r (.load1 ia52 r .z r r r .mk)) (.fk 2 r ?_)))))
     obtain ⟨q,Z,k,hd⟩:=hd
     obtain ⟨a1,o119,V,O,y,A⟩:=R3.2 _ _ k
     cases A
     refine .g r r r (fun _=>.gyes r r r (.ixa un52 sz51 r O r q (idx_lt k q) r r .mk)) (.g r r r (fun _=>.gyes r r r (.fa un51 r sz3 r (o:=o119+(w64 (b - 1)).toNat*2) r r r .mk)) (.g r r r (fun _=>.gyes r r r (.ld1 (j:=0) ia3 y r r r r r .mk)) (.fk 3 r (.e2 38 (.nilS [56,3,1] r r (.condP r hd (fun B hd=>?_) fun B hd=>?_))))))
     · exact .sr (.ks 1 r (.nilS [2] r r (.drop .z (.ret (pret results123 (.t r .n) a ⟨false,r,hd⟩)))))
     exact .skipS [3,1] r r (.region (.ks 3 r (.nil' fun c w ho hs=>⟨(w64 (b+1)),hd,C,a,ho.sub ⟨r,r,trivial⟩,hs.pick (.c .z .n)⟩)))
   rw [e]
   exact .fk 16 r (.e2 38 (.nilS [56,3,1] r r (.condKF r r (.skipS [3,1] r r (.region (.ks 3 r (.nil' fun c w ho hs=>⟨(w64 (b+1)),hd,C,a,ho.sub ⟨r,r,trivial⟩,hs.pick (.c .z .n)⟩)))))))
 exact .exitS [] r r (.drop .z (.sr (.ks 1 r (.nilS [2] r r (.ret (pret results123 (.t r .n) a ⟨true,r,hd⟩))))))
theorem W_ref09_Sure {I:IH} {a0:Vec} {p1:Option Addr} {c2:Nat} {Q:Vec→Prop} (R3:RepSl eItem I p1 c2 a0.Items) (hd:ref09_Sure a0 Q) :
  PFun prog 60 [.agg #[.int .i64 a0.N,.slice p1 a0.Items.length c2]] I (o19_ Q):=by
 refine Fun.enter func60 r ntmps60 r (.c .n) fun w0 M=>?_
 refine .sr (.boxA r r r fun e=>?_)
 refine .allocA zv54 r r fun f=>?_
 refine .nilS [2,1] r r (.seq (.sr (.loadW ia54 sz54 r (.s .z) r r r ?_)))
 have a:=W_ref09_Right (I:=I) R3 hd
 refine .callP call123 r a r r fun g b=>?_
 obtain ⟨h,rfl,hd⟩:=b
 refine .nilS [4,2,1] r r (.condP r hd (fun d hd=>?_) fun d hd=>?_)
 · exact .sr (.loadW ia54 sz54 r (.s .z) r r r (.storeA sz54 r r .z (.t (.t .nil)) r r (.nilS [2] r r (.drop (.s .z) (.ret (pret results60 (.w ia54 sz54 r .z r .n) (.refl _) ⟨a0,_,_,r,R3,hd⟩))))))
 exact .skipS [2] r r (.drop (.s .z) (.sr (.build zv54 un54 BI54 .n (by exact trivial) r r (.storeA sz54 r r .z (.t (.t .nil)) r r (.nilS [2] r r (.ret (pret results60 (.w ia54 sz54 r .z r .n) (.refl _) ⟨({ N:=0,Items:=([]:List Item) }:Vec),_,_,r,(.nil _ _ _),hd⟩)))))))
theorem W_ref03_words {I:IH} {a0:Int} {Q:Int→Prop}  (hd:ref03_words a0 Q) :
  PFun prog 190 [.int .i64 a0] I (fun _=>o0_ Q):=by
 refine Fun.enter func190 r ntmps190 r (.c .n) fun w0 M=>?_
 refine .sr (.ks 1 r (.nilS [0] r r (.seq ?_)))
 refine Cod.joinQ (σ:=Int) hd (fun (b:Int) c w=>∃ I_,IH.le I I_∧Ok ⟨10,[],none⟩ [(0,.int .i64 b)] c∧Sym w0 M I I_ [] w) (fun f hd=>?_) ?_
 · skip
   refine .sr (.ks 2 r (.nilS [4,0] r r (.condP r hd (fun d hd=>?_) fun d hd=>?_)))
   · exact .region (.ks 1 r (.nil' fun c w ho hs=>⟨4096,hd,I,(.refl _),ho.sub ⟨r,trivial⟩,hs.pick .n⟩))
   exact .skip' fun c w ho hs=>⟨a0,hd,I,(.refl _),ho.sub ⟨r,trivial⟩,hs.pick .n⟩
 rintro b hd c w hst
 obtain ⟨g,a,hok,hsym⟩:=hst
 refine Cod.at hok hsym (.seq (.sr (.ks 2 r (.nilS [6,0] r r (.condP r hd (fun e hd=>?_) fun e hd=>?_)))))
 · exact .sr (.ks 1 r (.nilS [2] r r (.ret (pret results190 (.t r .n) a ⟨0,r,hd⟩))))
 exact .skipS [0] r r (.sr (.ks 2 r (.quo r r (by decide) r r (.ks 1 r (.nilS [2] r r (.ret (pret results190 (.t r .n) a ⟨(w64 ((w64 (b+63)).tdiv 64)),r,hd⟩)))))))
theorem W_ref03_New {I:IH} {a0:Int} {Q:(List Int)→Prop}  (hd:ref03_New a0 Q) :
  PFun prog 124 [.int .i64 a0] I (fun I_ v=>∃ r p1 c2,v=.slice p1 r.length c2∧RepSl eU64 I_ p1 c2 r∧Q r):=by
 refine Fun.enter func124 r ntmps124 r (.c .n) fun w0 M=>?_
 refine .sr (.ks 1 r (.nilS [0] r r (.sr (.ks 1 r ?_))))
 have b:=W_ref03_words (I:=I) hd
 refine .callP call190 r b r r fun k d=>?_
 obtain ⟨f,rfl,hd⟩:=d
 obtain ⟨g,h,hd⟩:=hd
 refine .make (El:=eU64) (zv:=0) 8 un40 IN125 r r r r r r g h r r r fun i=>?_
 refine .ks 1 r (.nilS [2] r r (.pub .z fun j a e=>?_))
 exact .ret (pret results124 (.t r .n) a ⟨(List.replicate f.toNat 0),_,_,r,e,hd⟩)
theorem W_ref10_New {I:IH} {a0:Int} {Q:Dense→Prop}  (hd:ref10_New a0 Q) :
  OFun prog 61 [.int .i64 a0] I (o15_ Q):=by
 refine Fun.enter func61 r ntmps61 r (.c .n) fun w0 M=>?_
 refine .sr (.allocA zv58 r r fun b9=>?_)
 refine .nilS [2,0] r r (.seq (.sr (.ks 3 r ?_)))
 refine splitP hd (fun d hd=>?_) fun d hd=>?_
 · rw [d]
   refine .ks 3 r (.nilS [8,2,0] r r (.condKT r r (.region (.ks 1 r (.nilS [0,2] r r (.seq (.dr [0,1,3,4,2,999,5] 6 (.fk 3 r ?_))))))))
   obtain ⟨q,u,hd⟩:=hd
   refine .a (fun b=>.slice (some ⟨b,0,none⟩) (List.replicate (Int.toNat 0) (0:Int)).length (Int.toNat 0)) (fun b=>OwnSl eI64 2 (some ⟨b,0,none⟩) (Int.toNat 0) (List.replicate (Int.toNat 0) (0:Int))) r r r r (fun _ L hL ex=>.make (El:=eI64) (zv:=0) 8 un30 IN2 r r r r r r q u r r r fun b=>.mk (val:=fun b=>.slice (some ⟨b,0,none⟩) (List.replicate (Int.toNat 0) (0:Int)).length (Int.toNat 0)) (atom:=fun b=>OwnSl eI64 2 (some ⟨b,0,none⟩) (Int.toNat 0) (List.replicate (Int.toNat 0) (0:Int))) hL b) (.ww r fun ex=>?_)
   have e:=W_ref03_New (I:=I) hd
   refine .call call124 r e r r fun H J f h=>?_
   obtain ⟨v,K,O,rfl,x,hd⟩:=h
   exact .so 1 r r r (.ck 2 r r trivial) (.b r fun P=>DrawD.nop (.g r r r (fun _=>.build zv58 un58 BI58 (.c r r r (.t .nil) (.c r r r (.s (.t .nil)) (.c r r r (.s (.s (.t .nil))) .n))) (by exact ⟨⟨_,_,r,r,r⟩,⟨⟨_,_,r,r,r⟩,⟨⟨_,_,r,r,r⟩,trivial⟩⟩⟩) r r .mk) (.e2 6 (.storeA sz58 r r .z (.t (.t (.t .nil))) r r (.nilS [2] r r (.ret (oret results61 (.w ia58 sz58 r .z r .n) f (.c (.s .z) .n) ⟨({ N:=0,Has:=v,Vals:=(List.replicate (Int.toNat 0) (0:Int)) }:Dense),_,_,_,_,r,x,r,hd⟩)))))))
 rw [d]
 refine .ks 3 r (.nilS [8,2,0] r r (.condP r hd (fun i hd=>?_) fun i hd=>?_))
 · refine .region (.ks 1 r (.nilS [0,2] r r (.seq (.dr [0,1,3,4,2,999,5] 6 (.fk 3 r ?_)))))
   obtain ⟨y,A,hd⟩:=hd
   refine .a (fun b=>.slice (some ⟨b,0,none⟩) (List.replicate (Int.toNat 0) (0:Int)).length (Int.toNat 0)) (fun b=>OwnSl eI64 2 (some ⟨b,0,none⟩) (Int.toNat 0) (List.replicate (Int.toNat 0) (0:Int))) r r r r (fun _ L hL ex=>.make (El:=eI64) (zv:=0) 8 un30 IN2 r r r r r r y A r r r fun b=>.mk (val:=fun b=>.slice (some ⟨b,0,none⟩) (List.replicate (Int.toNat 0) (0:Int)).length (Int.toNat 0)) (atom:=fun b=>OwnSl eI64 2 (some ⟨b,0,none⟩) (Int.toNat 0) (List.replicate (Int.toNat 0) (0:Int))) hL b) (.ww r fun ex=>?_)
   have j:=W_ref03_New (I:=I) hd
   refine .call call124 r j r r fun R S k l=>?_
   obtain ⟨B,T,U,rfl,C,hd⟩:=l
   exact .so 1 r r r (.ck 2 r r trivial) (.b r fun V=>DrawD.nop (.g r r r (fun _=>.build zv58 un58 BI58 (.c r r r (.t .nil) (.c r r r (.s (.t .nil)) (.c r r r (.s (.s (.t .nil))) .n))) (by exact ⟨⟨_,_,r,r,r⟩,⟨⟨_,_,r,r,r⟩,⟨⟨_,_,r,r,r⟩,trivial⟩⟩⟩) r r .mk) (.e2 6 (.storeA sz58 r r .z (.t (.t (.t .nil))) r r (.nilS [2] r r (.ret (oret results61 (.w ia58 sz58 r .z r .n) k (.c (.s .z) .n) ⟨({ N:=0,Has:=B,Vals:=(List.replicate (Int.toNat 0) (0:Int)) }:Dense),_,_,_,_,r,C,r,hd⟩)))))))
 refine .skipS [2,0] r r (.seq (.dr [0,1,3,4,2,999,5] 6 (.fk 3 r ?_)))
 obtain ⟨D,E,hd⟩:=hd
 refine .a (fun b=>.slice (some ⟨b,0,none⟩) (List.replicate a0.toNat (0:Int)).length a0.toNat) (fun b=>OwnSl eI64 2 (some ⟨b,0,none⟩) a0.toNat (List.replicate a0.toNat (0:Int))) r r r r (fun _ L hL ex=>.make (El:=eI64) (zv:=0) 8 un30 IN2 r r r r r r D E r r r fun b=>.mk (val:=fun b=>.slice (some ⟨b,0,none⟩) (List.replicate a0.toNat (0:Int)).length a0.toNat) (atom:=fun b=>OwnSl eI64 2 (some ⟨b,0,none⟩) a0.toNat (List.replicate a0.toNat (0:Int))) hL b) (.ww r fun ex=>?_)
 have m:=W_ref03_New (I:=I) hd
 refine .call call124 r m r r fun W X o p=>?_
 obtain ⟨F,Y,Z,rfl,G,hd⟩:=p
 exact .so 1 r r r (.ck 2 r r trivial) (.b r fun a1=>DrawD.nop (.g r r r (fun _=>.build zv58 un58 BI58 (.c r r r (.t .nil) (.c r r r (.s (.t .nil)) (.c r r r (.s (.s (.t .nil))) .n))) (by exact ⟨⟨_,_,r,r,r⟩,⟨⟨_,_,r,r,r⟩,⟨⟨_,_,r,r,r⟩,trivial⟩⟩⟩) r r .mk) (.e2 6 (.storeA sz58 r r .z (.t (.t (.t .nil))) r r (.nilS [2] r r (.ret (oret results61 (.w ia58 sz58 r .z r .n) o (.c (.s .z) .n) ⟨({ N:=a0,Has:=F,Vals:=(List.replicate a0.toNat (0:Int)) }:Dense),_,_,_,_,r,G,r,hd⟩)))))))
theorem W_ref03_set {I:IH} {a0:List Int} {a1:Int} {a2:Bool} {p1:Option Addr} {c2:Nat} {Q:(List Int)→Prop} (R3:RepSl eU64 I p1 c2 a0) (hd:ref03_set a0 a1 a2 Q) :
  PFun prog 191 [.slice p1 a0.length c2,.int .i64 a1,.bool a2] I (o20_ Q):=by
 refine Fun.enter func191 r ntmps191 r (.c (.c (.c .n))) fun w0 M=>?_
 refine .sr (.ks 1 r (.nilS [2,1,0] r r (.sr (.ks 1 r (.nilS [7,2,1,0] r r (.sr (.ks 2 r (.own0 eU64 125 ?_))))))))
 obtain ⟨s,hd⟩:=hd
 refine .append (ys:=a0) 8 .z un40 un40 IN125 r r r r r r r r r (.imm R3 r) s r r fun J a=>?_
 refine .ks 1 r (.nilS [7,2,1,0] r r (.seq (.sr (.ks 3 r ?_))))
 refine splitP hd (fun e hd=>?_) fun e hd=>?_
 · rw [e]
   refine .ks 6 r (.nilS [20,7,2,1] r r (.condKT r r (.sr (.ks 2 r (.nilS [6] r r (.pub .z fun K u C=>?_))))))
   exact .ret (pret results191 (.t r .n) u ⟨(([]:List Int)++a0),_,_,r,C,hd⟩)
 rw [e]
 refine .ks 1 r (.gyes r r r (.quo r r (by decide) r r (.ks 1 r (.gyes r r r (.len un40 r r r r (.ks 2 r (.nilS [20,7,2,1] r r (.condP r hd (fun v hd=>?_) fun v hd=>?_))))))))
 · refine .sr (.ks 2 r (.nilS [6] r r (.pub .z fun L w D=>?_)))
   exact .ret (pret results191 (.t r .n) w ⟨(([]:List Int)++a0),_,_,r,D,hd⟩)
 refine .skipS [7,2,1] r r (.sr (.ks 1 r (.rem r r (by decide) r r (.conv un3 underlying201 r r r ?_))))
 obtain ⟨x,hd⟩:=hd
 refine .shl' r r x r r (.ks 1 r (.nilS [8,7,2,1] r r (.seq (.sr (.ks 1 r (.nilS [26,8,7,1] r r (.condP r hd (fun y hd=>?_) fun y hd=>?_)))))))
 · refine .region (.ks 2 r (.quo r r (by decide) r r (.ks 2 r (.quo r r (by decide) r r ?_))))
   obtain ⟨m,b,f,hd⟩:=hd
   refine .ownNe .z (idx_ne f) fun h E=>?_
   cases E
   refine .ixa0 un40 sz125 r r m (idx_lt f m) r r (.lo1 (j:=0) ia125 .z f r r r r r (.ks 2 r ?_))
   obtain ⟨o,N,i,hd⟩:=hd
   refine .ixa0 un40 sz125 r r o (idx_lt i o) r r (.stO1 (j:=0) (v':=(bor .u64 b (shl .u64 1 (IntKind.wrap .u64 (a1.tmod 64))))) sz125 .z i r r r (.t .nil) r (.sub (E':=[(1,_),(7,.slice (some ⟨h,0,none⟩) ((([]:List Int)++a0).set ((w64 (a1.tdiv 64)).toNat) (bor .u64 b (shl .u64 1 (IntKind.wrap .u64 (a1.tmod 64))))).length a),(8,_),(26,_),(27,.slice (some ⟨h,0,none⟩) ((([]:List Int)++a0).set ((w64 (a1.tdiv 64)).toNat) (bor .u64 b (shl .u64 1 (IntKind.wrap .u64 (a1.tmod 64))))).length a),(28,_),(29,_),(30,.slice (some ⟨h,0,none⟩) ((([]:List Int)++a0).set ((w64 (a1.tdiv 64)).toNat) (bor .u64 b (shl .u64 1 (IntKind.wrap .u64 (a1.tmod 64))))).length a),(31,_),(32,_),(33,_),(34,_),(35,_),(36,_),(37,_)]) ⟨r,(by simp only [List.length_set]; rfl),r,r,(by simp only [List.length_set]; rfl),r,r,(by simp only [List.length_set]; rfl),r,r,r,r,r,r,r,trivial⟩ (.nilS [7] r r (.sr (.ks 2 r (.nilS [6] r r (.pub .z fun O A F=>?_)))))))
   exact .ret (pret results191 (.t r .n) A ⟨((([]:List Int)++a0).set ((w64 (a1.tdiv 64)).toNat) (bor .u64 b (shl .u64 1 (IntKind.wrap .u64 (a1.tmod 64))))),_,_,r,F,hd⟩)
 refine .region (.ks 2 r (.quo r r (by decide) r r (.ks 2 r (.quo r r (by decide) r r ?_))))
 obtain ⟨p,d,g,hd⟩:=hd
 refine .ownNe .z (idx_ne g) fun k G=>?_
 cases G
 refine .ixa0 un40 sz125 r r p (idx_lt g p) r r (.lo1 (j:=0) ia125 .z g r r r r r (.ks 2 r ?_))
 obtain ⟨q,P,l,hd⟩:=hd
 refine .ixa0 un40 sz125 r r q (idx_lt l q) r r (.stO1 (j:=0) (v':=(bandn .u64 d (shl .u64 1 (IntKind.wrap .u64 (a1.tmod 64))))) sz125 .z l r r r (.t .nil) r (.sub (E':=[(1,_),(7,.slice (some ⟨k,0,none⟩) ((([]:List Int)++a0).set ((w64 (a1.tdiv 64)).toNat) (bandn .u64 d (shl .u64 1 (IntKind.wrap .u64 (a1.tmod 64))))).length a),(8,_),(26,_),(38,.slice (some ⟨k,0,none⟩) ((([]:List Int)++a0).set ((w64 (a1.tdiv 64)).toNat) (bandn .u64 d (shl .u64 1 (IntKind.wrap .u64 (a1.tmod 64))))).length a),(39,_),(40,_),(41,.slice (some ⟨k,0,none⟩) ((([]:List Int)++a0).set ((w64 (a1.tdiv 64)).toNat) (bandn .u64 d (shl .u64 1 (IntKind.wrap .u64 (a1.tmod 64))))).length a),(42,_),(43,_),(44,_),(45,_),(46,_),(47,_),(48,_)]) ⟨r,(by simp only [List.length_set]; rfl),r,r,(by simp only [List.length_set]; rfl),r,r,(by simp only [List.length_set]; rfl),r,r,r,r,r,r,r,trivial⟩ (.nilS [7] r r (.sr (.ks 2 r (.nilS [6] r r (.pub .z fun R B H=>?_)))))))
 exact .ret (pret results191 (.t r .n) B ⟨((([]:List Int)++a0).set ((w64 (a1.tdiv 64)).toNat) (bandn .u64 d (shl .u64 1 (IntKind.wrap .u64 (a1.tmod 64))))),_,_,r,H,hd⟩)
theorem W_ref03_Put {I:IH} {a0:List Int} {a1:Int} {p1:Option Addr} {c2:Nat} {Q:(List Int)→Prop} (R3:RepSl eU64 I p1 c2 a0) (hd:ref03_Put a0 a1 Q) :
  PFun prog 125 [.slice p1 a0.length c2,.int .i64 a1] I (o20_ Q):=by
 refine Fun.enter func125 r ntmps125 r (.c (.c .n)) fun w0 M=>?_
 refine .sr (.ks 1 r (.nilS [1,0] r r (.sr (.ks 2 r ?_))))
 have b:=W_ref03_set (I:=I) R3 hd
 refine .call call191 r b r r fun g j a d=>?_
 obtain ⟨f,h,i,rfl,e,hd⟩:=d
 replace R3:=R3.mono a
 exact .ks 1 r (.nilS [4] r r (.ret (pret results125 (.t r .n) a ⟨f,_,_,r,e,hd⟩)))
theorem W_ref03_Of {I:IH} {a0:Int} {a1:List Int} {p1:Option Addr} {c2:Nat} {Q:(List Int)→Prop} (R3:RepSl eI64 I p1 c2 a1) (hd:ref03_Of a0 a1 Q) :
  PFun prog 62 [.int .i64 a0,.slice p1 a1.length c2] I (o20_ Q):=by
 refine Fun.enter func62 r ntmps62 r (.c (.c .n)) fun w0 M=>?_
 refine .sr (.ks 1 r (.nilS [1,0] r r (.sr (.ks 1 r ?_))))
 have S:=W_ref03_New (I:=I) hd
 refine .call call124 r S r r fun c1 R x T=>?_
 obtain ⟨c3,c4,c5,rfl,a4,hd⟩:=T
 replace R3:=R3.mono x
 refine .ks 1 r (.nilS [5,1,0] r r (.seq (.sr (.ks 1 r (.nilS [6,5,1,0] r r (.block (.loop hd (fun (s:(List Int)×Int) c w=>match s with | (b,f)=>∃ I_ l m,IH.le R I_∧RepSl eU64 I_ l m b∧Ok ⟨42,[],none⟩ [(0,.int .i64 a0),(1,.slice p1 a1.length c2),(5,.slice l b.length m),(6,.int .i64 f)] c∧Sym w0 M I I_ [] w) (fun c w ho hs=>⟨R,_,_,(.refl _),a4,ho.sub ⟨r,r,r,r,trivial⟩,hs.pick .n⟩) ?_)))))))
 rintro ⟨b,f⟩ a3 hd c w hst
 obtain ⟨g,l,m,a,d,hok,hsym⟩:=hst
 have o:=IH.le.trans x a
 replace R3:=R3.mono a
 refine Cod.at hok hsym (.seq (.sr (.ks 2 r (.len un29 r r r r (.ks 1 r (.nilS [12,6,5,1,0] r r (.condP r hd (fun C hd=>?_) fun C hd=>?_)))))))
 · refine .skipS [6,5,1,0] r r (.seq (.block (.sr (.ks 2 r ?_))))
   obtain ⟨y,b0,p,hd⟩:=hd
   obtain ⟨b1,o161,a5,U,D,E⟩:=R3.2 _ _ p
   cases E
   refine .ixa un29 sz3 r U r y (idx_lt p y) r r (.ld1 (j:=0) ia3 D r r r r r (.ks 2 r ?_))
   refine splitP hd (fun h hd=>?_) fun h hd=>?_
   · rw [h]
     refine .ks 2 r ?_
     obtain ⟨z,b2,q,hd⟩:=hd
     obtain ⟨b3,o171,a6,V,F,G⟩:=R3.2 _ _ q
     cases G
     refine .gyes r r r (.ixa un29 sz3 r V r z (idx_lt q z) r r (.gyes r r r (.ld1 (j:=0) ia3 F r r r r r (.ks 4 r ?_))))
     refine splitP hd (fun i hd=>?_) fun i hd=>?_
     · rw [i]
       refine .ks 2 r ?_
       obtain ⟨A,b4,u,hd⟩:=hd
       obtain ⟨b5,o181,a7,W,H,J⟩:=R3.2 _ _ u
       cases J
       refine .gyes r r r (.ixa un29 sz3 r W r A (idx_lt u A) r r (.gyes r r r (.ld1 (j:=0) ia3 H r r r r r (.ks 2 r (.nilS [34,6,5,1,0] r r (.condP r hd (fun K hd=>?_) fun K hd=>?_))))))
       · refine .region (.ks 3 r ?_)
         obtain ⟨B,b6,v,hd⟩:=hd
         obtain ⟨b7,o191,a8,X,k,L⟩:=R3.2 _ _ v
         cases L
         refine .ixa un29 sz3 r X r B (idx_lt v B) r r (.ld1 (j:=0) ia3 k r r r r r ?_)
         have N:=W_ref03_Put (I:=g) d hd
         refine .call call125 r N r r fun b8 Y e O=>?_
         obtain ⟨Z,b9,c0,rfl,a2,hd⟩:=O
         have a9:=IH.le.trans o e
         have P:=IH.le.trans a e
         replace R3:=R3.mono e
         replace d:=d.mono e
         replace k:=k.mono e
         exact .ks 1 r (.nilS [5,6,1,0] r r (.region (.ks 3 r (.nil' fun c w ho hs=>⟨(Z,w64 (f+1)),hd,Y,_,_,P,a2,ho.sub ⟨r,r,r,r,trivial⟩,hs.pick .n⟩))))
       exact .skipS [6,5,1,0] r r (.region (.ks 3 r (.nil' fun c w ho hs=>⟨(b,w64 (f+1)),hd,g,_,_,a,d,ho.sub ⟨r,r,r,r,trivial⟩,hs.pick .n⟩)))
     rw [i]
     exact .ks 6 r (.nilS [34,6,5,1,0] r r (.condKF r r (.skipS [6,5,1,0] r r (.region (.ks 3 r (.nil' fun c w ho hs=>⟨(b,w64 (f+1)),hd,g,_,_,a,d,ho.sub ⟨r,r,r,r,trivial⟩,hs.pick .n⟩))))))
   rw [h]
   exact .ks 14 r (.nilS [34,6,5,1,0] r r (.condKF r r (.skipS [6,5,1,0] r r (.region (.ks 3 r (.nil' fun c w ho hs=>⟨(b,w64 (f+1)),hd,g,_,_,a,d,ho.sub ⟨r,r,r,r,trivial⟩,hs.pick .n⟩))))))
 exact .exitS [5] r r (.sr (.ks 2 r (.nilS [4] r r (.ret (pret results62 (.t r .n) o ⟨b,_,_,r,d,hd⟩)))))
theorem W_ref10_Of {I:IH} {a0:Vec} {p1:Option Addr} {c2:Nat} {Q:Dense→Prop} (R3:RepSl eItem I p1 c2 a0.Items) (hd:ref10_Of a0 Q) :
  PFun prog 22 [.agg #[.int .i64 a0.N,.slice p1 a0.Items.length c2]] I (o21_ Q):=by
 refine Fun.enter func22 r ntmps22 r (.c .n) fun w0 M=>?_
 refine .sr (.boxA r r r fun b2=>?_)
 refine .allocA zv58 r r fun b3=>?_
 refine .nilS [2,1] r r (.sr (.loadW ia54 sz54 r (.s .z) r r r ?_))
 have b8:=W_ref09_Sure (I:=I) R3 hd
 refine .call call60 r b8 r r fun f4 d3 H b9=>?_
 obtain ⟨b4,d4,d5,rfl,a,hd⟩:=b9
 replace R3:=R3.mono H
 refine .storeA sz54 r r (.s .z) (.t (.t .nil)) r r (.nilS [2,1] r r (.sr (.fa un54 r sz3 r (o:=0) r r r (.load1 ia3 r (.s .z) r r r ?_))))
 have c0:=W_ref10_New (I:=d3) hd
 refine .callO call61 r c0 r r fun f5 b5 f6 J c1=>?_
 obtain ⟨u,b6,b7,f7,f8,rfl,k,rfl,hd⟩:=c1
 have c3:=IH.le.trans H J
 replace a:=a.mono J
 refine .allocA zv58 r r fun K=>?_
 refine .storeA sz58 r r .z (.t (.t (.t .nil))) r r (.nilS [3,2,1] r r (.sr (.ks 1 r (.nilS [4,3,2,1] r r (.seq (.sr (.ks 1 r (.nilS [5,4,3,2,1] r r (.block ?_)))))))))
 refine .own0 eI64 3 (.loop hd (fun (s:(List Int)×(List Int)×Int) c w=>match s with | (b,l,f)=>∃ I_ v i x y,IH.le b5 I_∧Ok ⟨48,[],none⟩ [(1,.pointer (some ⟨b2,0,none⟩)),(2,.pointer (some ⟨b3,0,none⟩)),(3,.pointer (some ⟨K,0,none⟩)),(4,.slice x l.length y),(5,.int .i64 f)] c∧Sym w0 M I I_ [pto b2 (.cells #[.int .i64 b4.N,.slice d4 b4.Items.length d5] 54 (0,0)),pto b3 (.cells #[.int .i64 0,.slice none 0 0,.slice none 0 0] 58 (0,0)),pto K (.cells #[.int .i64 u.N,.slice b6 u.Has.length b7,.slice v b.length i] 58 (0,0)),OwnSl eI64 2 v i b,OwnSl eI64 3 x y l] w) (fun c w ho hs=>⟨b5,_,_,_,_,(.refl _),ho.sub ⟨r,r,r,r,r,trivial⟩,hs.pick (.c (.s (.s (.s (.s .z)))) (.c (.s (.s (.s .z))) (.c (.s .z) (.c (.s .z) (.c .z .n)))))⟩) ?_)
 rintro ⟨b,l,f⟩ d2 hd c w hst
 obtain ⟨c4,v,i,x,y,d,hok,hsym⟩:=hst
 have V:=IH.le.trans c3 d
 replace a:=a.mono d
 replace k:=k.mono d
 refine Cod.at hok hsym (.seq (.sr (.ks 1 r (.fa un54 r sz52 r (o:=1) r r r (.load1 ia52 r .z r r r (.len un52 r r r r (.ks 1 r (.nilS [15,5,4,3,2,1] r r (.condP r hd (fun W hd=>?_) fun W hd=>?_)))))))))
 · refine .skipS [5,4,3,2,1] r r (.seq (.block (.sr (.ks 1 r (.fa un54 r sz52 r (o:=1) r r r (.load1 ia52 r .z r r r (.ks 1 r ?_)))))))
   obtain ⟨L,O,E,hd⟩:=hd
   obtain ⟨e1,o464,d7,c5,X,Y⟩:=a.2 _ _ E
   cases Y
   refine .ixa un52 sz51 r c5 r L (idx_lt E L) r r (.fa un51 r sz3 r (o:=o464+f.toNat*2) r r r (.ld1 (j:=0) ia3 X r r r r r (.buildSlice 1 un29 sz3 zv3 r r (.c r r r .n) r r fun e3=>?_)))
   obtain ⟨Z,hd⟩:=hd
   refine .append (ys:=[O.At]) 8 (.s (.s (.s (.s (.s .z))))) un29 un29 IN3 r r r r r r r r r (.box .z (.one r) r) Z r r fun e4 e5=>?_
   refine .ks 1 r (.nilS [4,5,3,2,1] r r (.drop (.s .z) (.ownF .z fun d6=>?_)))
   refine .ownF (.s (.s (.s (.s .z)))) fun P=>?_
   refine .dr [0,1,2,3,4,5,6,7,8,9,10,11,12,13] 14 (.g r r r (fun _=>.fa un58 r sz30 r (o:=2) r r r .mk) (.g r r r (fun _=>.load1 ia30 r (.s (.s (.s .z))) r r r .mk) (.g r r r (fun _=>.fa un54 r sz52 r (o:=1) r r r .mk) (.g r r r (fun _=>.load1 ia52 r (.s .z) r r r .mk) (.fk 1 r ?_)))))
   obtain ⟨R,A,F,hd⟩:=hd
   obtain ⟨e6,o481,d8,c6,a1,a2⟩:=a.2 _ _ F
   cases a2
   refine .g r r r (fun _=>.ixa un52 sz51 r c6 r R (idx_lt F R) r r .mk) (.g r r r (fun _=>.fa un51 r sz3 r (o:=o481+f.toNat*2) r r r .mk) (.g r r r (fun _=>.ld1 (j:=0) ia3 a1 r r r r r .mk) (.g r r r (fun _=>.fa un54 r sz52 r (o:=1) r r r .mk) (.g r r r (fun _=>.load1 ia52 r (.s .z) r r r .mk) (.fk 1 r ?_)))))
   obtain ⟨S,m,G,hd⟩:=hd
   obtain ⟨e7,o490,d9,c7,a3,a4⟩:=a.2 _ _ G
   cases a4
   refine .g r r r (fun _=>.ixa un52 sz51 r c7 r S (idx_lt G S) r r .mk) (.g r r r (fun _=>.fa un51 r sz2 r (o:=o490+f.toNat*2+1) r r r .mk) (.g r r r (fun _=>.ld1 (j:=1) ia2 a3 r r r r r .mk) (.e2 14 ?_)))
   obtain ⟨T,e8,p,hd⟩:=hd
   obtain ⟨U,c8⟩:=P (idx_ne p)
   cases c8
   exact .ixa0 un30 sz2 r r T (idx_lt p T) r r (.stO1 (j:=0) (v':=m.Val) sz2 (.s (.s (.s (.s .z)))) p r r r (.t .nil) r (.sub (E':=[(1,_),(2,_),(3,_),(5,_),(4,_),(27,_),(28,.slice (some ⟨U,0,none⟩) (b.set A.At.toNat m.Val).length i),(29,_),(30,_),(31,_),(32,_),(33,_),(34,_),(35,_),(36,_),(37,_),(38,_),(39,_),(40,_),(41,_)]) ⟨r,r,r,r,r,r,(by simp only [List.length_set]; rfl),r,r,r,r,r,r,r,r,r,r,r,r,r,trivial⟩ (.reat (.s (.s (.s .z))) (B:=pto K (.cells #[.int .i64 u.N,.slice b6 u.Has.length b7,.slice (some ⟨U,0,none⟩) (b.set A.At.toNat m.Val).length i] 58 (0,0))) (by simp only [List.length_set]) (.nilS [4,5,3,2,1] r r (.region (.ks 3 r (.nil' fun c w ho hs=>⟨((b.set A.At.toNat m.Val),(l++([O.At])),w64 (f+1)),hd,c4,_,_,_,_,d,ho.sub ⟨r,r,r,r,r,trivial⟩,hs.pick (.c (.s .z) (.c (.s .z) (.c (.s .z) (.c (.s .z) (.c .z .n)))))⟩)))))))
 refine .exitS [4,3,2,1] r r (.sr (.fa un54 r sz3 r (o:=0) r r r (.load1 ia3 r .z r r r (.ks 1 r (.pub (.s (.s (.s (.s .z)))) fun c9 h C=>?_)))))
 have a5:=IH.le.trans V h
 have a6:=IH.le.trans d h
 replace a:=a.mono h
 replace k:=k.mono h
 have a7:=W_ref03_Of (I:=c9) C hd
 refine .call call62 r a7 r r fun e9 f0 e a8=>?_
 obtain ⟨d0,f1,f2,rfl,D,hd⟩:=a8
 have a9:=IH.le.trans a5 e
 have b0:=IH.le.trans a6 e
 replace a:=a.mono e
 replace k:=k.mono e
 replace C:=C.mono e
 refine .fa un58 r sz40 r (o:=1) r r r (.store1 sz40 r r (.s (.s .z)) (.s (.t .nil)) r (.nilS [3,2] r r (.drop .z (.sr (.loadW ia58 sz58 r (.s .z) r r r (.storeA sz58 r r .z (.t (.t (.t .nil))) r r (.nilS [2] r r (.drop (.s .z) (.pub (.s .z) fun f3 q d1=>?_)))))))))
 have b1:=IH.le.trans a9 q
 have e0:=IH.le.trans b0 q
 replace D:=D.mono q
 exact .ret (pret results22 (.w ia58 sz58 r .z r .n) b1 ⟨({ N:=u.N,Has:=d0,Vals:=b }:Dense),_,_,_,_,r,D,d1,hd⟩)
theorem W_ref09_Get {I:IH} {a0:Vec} {a1:Int} {p1:Option Addr} {c2:Nat} {Q:(Int×Bool)→Prop} (R3:RepSl eItem I p1 c2 a0.Items) (hd:ref09_Get a0 a1 Q) :
  PFun prog 23 [.agg #[.int .i64 a0.N,.slice p1 a0.Items.length c2],.int .i64 a1] I (fun _=>o3_ Q):=by
 refine Fun.enter func23 r ntmps23 r (.c (.c .n)) fun w0 M=>?_
 refine .sr (.boxA r r r fun E=>?_)
 refine .ks 2 r (.nilS [2,1] r r (.sr (.loadW ia54 sz54 r .z r r r ?_)))
 have x:=W_ref09_Sure (I:=I) R3 hd
 refine .call call60 r x r r fun S u g y=>?_
 obtain ⟨v,F,G,rfl,d,hd⟩:=y
 replace R3:=R3.mono g
 refine .storeA sz54 r r .z (.t (.t .nil)) r r (.nilS [2,1] r r (.seq (.sr (.ks 1 r (.nilS [6,2,1] r r (.block (.loop hd (fun (a:Int) c w=>∃ I_,IH.le u I_∧Ok ⟨30,[],none⟩ [(1,.int .i64 a1),(2,.pointer (some ⟨E,0,none⟩)),(6,.int .i64 a)] c∧Sym w0 M I I_ [pto E (.cells #[.int .i64 v.N,.slice F v.Items.length G] 54 (0,0))] w) (fun c w ho hs=>⟨u,(.refl _),ho.sub ⟨r,r,r,trivial⟩,hs.pick (.c .z .n)⟩) ?_)))))))
 rintro a H hd c w hst
 obtain ⟨J,b,hok,hsym⟩:=hst
 have h:=IH.le.trans g b
 replace d:=d.mono b
 refine Cod.at hok hsym (.seq (.sr (.ks 1 r (.fa un54 r sz52 r (o:=1) r r r (.load1 ia52 r .z r r r (.len un52 r r r r (.ks 1 r (.nilS [13,6,2,1] r r (.condP r hd (fun A hd=>?_) fun A hd=>?_)))))))))
 · refine .skipS [6,2,1] r r (.seq (.block (.sr (.fa un54 r sz52 r (o:=1) r r r (.load1 ia52 r .z r r r (.ks 1 r ?_))))))
   obtain ⟨i,O,e,hd⟩:=hd
   obtain ⟨P,o111,K,B,l,m⟩:=d.2 _ _ e
   cases m
   refine .ixa un52 sz51 r B r i (idx_lt e i) r r (.fa un51 r sz3 r (o:=o111+a.toNat*2) r r r (.ld1 (j:=0) ia3 l r r r r r (.ks 2 r (.nilS [23,6,2,1] r r (.condP r hd (fun p hd=>?_) fun p hd=>?_)))))
   · refine .sr (.fa un54 r sz52 r (o:=1) r r r (.load1 ia52 r .z r r r (.ks 1 r ?_)))
     obtain ⟨k,C,f,hd⟩:=hd
     obtain ⟨R,o121,L,D,q,s⟩:=d.2 _ _ f
     cases s
     exact .ixa un52 sz51 r D r k (idx_lt f k) r r (.fa un51 r sz2 r (o:=o121+a.toNat*2+1) r r r (.ld1 (j:=1) ia2 q r r r r r (.ks 2 r (.nilS [5,4] r r (.drop .z (.ret (pret results23 (.t r (.t r .n)) h ⟨(C.Val,true),r,hd⟩)))))))
   exact .skipS [6,2,1] r r (.region (.ks 3 r (.nil' fun c w ho hs=>⟨(w64 (a+1)),hd,J,b,ho.sub ⟨r,r,r,trivial⟩,hs.pick (.c .z .n)⟩)))
 exact .exitS [] r r (.drop .z (.sr (.ks 2 r (.nilS [5,4] r r (.ret (pret results23 (.t r (.t r .n)) h ⟨(0,false),r,hd⟩))))))
theorem W_law21_Plan {I:IH} {a0:Plan} {a1:Int} {p1:Option Addr} {c2:Nat} {Q:Plan→Prop} (R3:RepSl eI64 I p1 c2 a0.Draws) (hd:law21_Plan a0 a1 Q) :
  PFun prog 63 [.agg #[.int .i64 a0.Kind,.int .i64 a0.N,.int .i64 a0.Source,.int .i64 a0.Length,.slice p1 a0.Draws.length c2],.int .i64 a1] I (fun I_ v=>∃ r p4 c5,v=.agg #[.int .i64 r.Kind,.int .i64 r.N,.int .i64 r.Source,.int .i64 r.Length,.slice p4 r.Draws.length c5]∧RepSl eI64 I_ p4 c5 r.Draws∧Q r):=by
 refine Fun.enter func63 r ntmps63 r (.c (.c .n)) fun w0 M=>?_
 refine .sr (.boxA r r r fun f=>?_)
 refine .allocA zv49 r r fun g=>?_
 refine .nilS [4,2,1] r r (.seq ?_)
 refine Cod.joinQ (σ:=Int) hd (fun (h:Int) c w=>∃ I_,IH.le I I_∧Ok ⟨58,[],none⟩ [(1,.int .i64 a1),(2,.pointer (some ⟨f,0,none⟩)),(4,.pointer (some ⟨g,0,none⟩))] c∧Sym w0 M I I_ [pto f (.cells #[.int .i64 h,.int .i64 a0.N,.int .i64 a0.Source,.int .i64 a0.Length,.slice p1 a0.Draws.length c2] 49 (0,0)),pto g (.cells #[.int .i64 0,.int .i64 0,.int .i64 0,.int .i64 0,.slice none 0 0] 49 (0,0))] w) (fun c4 hd=>?_) ?_
 · skip
   refine .sr (.fa un49 r sz47 r (o:=0) r r r (.load1 ia47 r (.s .z) r r r (.ks 2 r ?_)))
   refine splitP hd (fun u hd=>?_) fun u hd=>?_
   · rw [u]
     exact .ks 4 r (.nilS [14,4,2,1] r r (.condKT r r (.region (.fa un49 r sz47 r (o:=0) r r r (.store1 sz47 r r (.s .z) (.t .nil) r (.nil' fun c w ho hs=>⟨3,hd,I,(.refl _),ho.sub ⟨r,r,r,trivial⟩,hs.pick (.c (.s .z) (.c .z .n))⟩))))))
   rw [u]
   refine .gyes r r r (.fa un49 r sz47 r (o:=0) r r r (.gyes r r r (.load1 ia47 r (.s .z) r r r (.ks 2 r (.nilS [14,4,2,1] r r (.condP r hd (fun X hd=>?_) fun X hd=>?_))))))
   · exact .region (.fa un49 r sz47 r (o:=0) r r r (.store1 sz47 r r (.s .z) (.t .nil) r (.nil' fun c w ho hs=>⟨3,hd,I,(.refl _),ho.sub ⟨r,r,r,trivial⟩,hs.pick (.c (.s .z) (.c .z .n))⟩)))
   exact .skip' fun c w ho hs=>⟨a0.Kind,hd,I,(.refl _),ho.sub ⟨r,r,r,trivial⟩,hs.pick (.c (.s .z) (.c .z .n))⟩
 rintro h hd c w hst
 obtain ⟨m,x,hok,hsym⟩:=hst
 replace R3:=R3.mono x
 refine Cod.at hok hsym (.sr (.ks 1 r (.fa un49 r sz3 r (o:=1) r r r (.store1 sz3 r r .z (.s (.t .nil)) r (.nilS [4,2,1] r r (.sr (.fa un49 r sz3 r (o:=2) r r r (.load1 ia3 r .z r r r (.ks 1 r ?_)))))))))
 have Y:=W_law21_Within (I:=m) hd
 refine .callP call16 r Y r r fun c6 Z=>?_
 obtain ⟨p,rfl,hd⟩:=Z
 refine .fa un49 r sz3 r (o:=2) r r r (.store1 sz3 r r .z (.s (.s (.t .nil))) r (.nilS [4,2,1] r r (.sr (.fa un49 r sz3 r (o:=3) r r r (.load1 ia3 r .z r r r ?_)))))
 have a2:=W_law21_Within (I:=m) hd
 refine .callP call16 r a2 r r fun c7 a3=>?_
 obtain ⟨q,rfl,hd⟩:=a3
 refine .fa un49 r sz3 r (o:=3) r r r (.store1 sz3 r r .z (.s (.s (.s (.t .nil)))) r (.nilS [4,2,1] r r (.sr (.ks 1 r (.nilS [5,4,2,1] r r (.seq ?_))))))
 refine Cod.joinQ (σ:=(List Int)) hd (fun (d:(List Int)) c w=>∃ I_ y A,IH.le m I_∧Ok ⟨58,[],none⟩ [(1,.int .i64 a1),(2,.pointer (some ⟨f,0,none⟩)),(4,.pointer (some ⟨g,0,none⟩)),(5,.slice y d.length A)] c∧Sym w0 M I I_ [pto f (.cells #[.int .i64 h,.int .i64 a1,.int .i64 p,.int .i64 q,.slice p1 a0.Draws.length c2] 49 (0,0)),pto g (.cells #[.int .i64 0,.int .i64 0,.int .i64 0,.int .i64 0,.slice none 0 0] 49 (0,0)),OwnSl eI64 2 y A d] w) (fun b4 hd=>?_) ?_
 · skip
   refine .sr (.ks 1 r (.nilS [6,5,4,2,1] r r (.block (.own0 eI64 2 (.loop hd (fun (s:(List Int)×Int) c w=>match s with | (e,B)=>∃ I_ C D,IH.le m I_∧Ok ⟨58,[],none⟩ [(1,.int .i64 a1),(2,.pointer (some ⟨f,0,none⟩)),(4,.pointer (some ⟨g,0,none⟩)),(5,.slice C e.length D),(6,.int .i64 B)] c∧Sym w0 M I I_ [pto f (.cells #[.int .i64 h,.int .i64 a1,.int .i64 p,.int .i64 q,.slice p1 a0.Draws.length c2] 49 (0,0)),pto g (.cells #[.int .i64 0,.int .i64 0,.int .i64 0,.int .i64 0,.slice none 0 0] 49 (0,0)),OwnSl eI64 2 C D e] w) (fun c w ho hs=>⟨m,_,_,(.refl _),ho.sub ⟨r,r,r,r,r,trivial⟩,hs.pick (.c (.s .z) (.c (.s .z) (.c .z .n)))⟩) ?_)))))
   rintro ⟨e,B⟩ a8 hd c w hst
   obtain ⟨E,C,D,a,hok,hsym⟩:=hst
   have a9:=IH.le.trans x a
   replace R3:=R3.mono a
   refine Cod.at hok hsym (.seq (.sr (.ks 1 r (.fa un49 r sz30 r (o:=4) r r r (.load1 ia30 r .z r r r (.len un30 r r r r (.ks 2 r ?_)))))))
   refine splitP hd (fun i hd=>?_) fun i hd=>?_
   · rw [i]
     refine .ks 3 r (.nilS [35,6,5,4,2,1] r r (.condP r hd (fun O hd=>?_) fun O hd=>?_))
     · refine .skipS [6,5,4,2,1] r r (.seq (.block (.region (.ks 1 r (.fa un49 r sz30 r (o:=4) r r r (.load1 ia30 r .z r r r (.ks 1 r ?_)))))))
       obtain ⟨K,L,F,hd⟩:=hd
       obtain ⟨b5,o278,b0,a4,P,R⟩:=R3.2 _ _ F
       cases R
       refine .ixa un30 sz2 r a4 r K (idx_lt F K) r r (.ld1 (j:=0) ia2 P r r r r r (.ks 1 r (.buildSlice 1 un30 sz2 zv2 r r (.c r r r .n) r r fun b6=>?_)))
       obtain ⟨S,hd⟩:=hd
       refine .append (ys:=[bnd .i64 L 2147483647]) 8 (.s (.s (.s .z))) un30 un30 IN2 r r r r r r r r r (.box .z (.one r) r) S r r fun b7 b8=>?_
       exact .ks 1 r (.nilS [5,6,4,2,1] r r (.drop (.s .z) (.region (.ks 3 r (.nil' fun c w ho hs=>⟨((e++([bnd .i64 L 2147483647])),w64 (B+1)),hd,E,_,_,a,ho.sub ⟨r,r,r,r,r,trivial⟩,hs.pick (.c (.s .z) (.c (.s .z) (.c .z .n)))⟩)))))
     exact .exit fun c w ho hs=>⟨e,hd,E,_,_,a,ho.sub ⟨r,r,r,r,trivial⟩,hs.pick (.c .z (.c .z (.c .z .n)))⟩
   rw [i]
   exact .ks 3 r (.nilS [35,6,5,4,2,1] r r (.condKF r r (.exit fun c w ho hs=>⟨e,hd,E,_,_,a,ho.sub ⟨r,r,r,r,trivial⟩,hs.pick (.c .z (.c .z (.c .z .n)))⟩)))
 rintro d hd c w hst
 obtain ⟨b9,y,A,b,hok,hsym⟩:=hst
 have k:=IH.le.trans x b
 replace R3:=R3.mono b
 refine Cod.at hok hsym (.sr (.ks 1 r (.fa un49 r sz30 r (o:=4) r r r (.store1 sz30 r r .z (.s (.s (.s (.s (.t .nil))))) r (.nilS [4,2,1] r r (.seq (.sr (.ks 3 r ?_))))))))
 refine splitP hd (fun l hd=>?_) fun l hd=>?_
 · rw [l]
   refine .gyes r r r (.fa un49 r sz47 r (o:=0) r r r (.gyes r r r (.load1 ia47 r .z r r r (.ks 2 r (.nilS [55,4,2] r r (.condP r hd (fun T hd=>?_) fun T hd=>?_))))))
   · refine .region (.fa un49 r sz47 r (o:=0) r r r (.store1 sz47 r r .z (.t .nil) r (.nilS [4,2] r r (.sr (.loadW ia49 sz49 r .z r r r (.storeA sz49 r r (.s .z) (.t (.t (.t (.t (.t .nil))))) r r (.nilS [4] r r (.drop .z (.pub (.s .z) fun c0 G a5=>?_)))))))))
     have U:=IH.le.trans k G
     have b1:=IH.le.trans b G
     exact .ret (pret results63 (.w ia49 sz49 r .z r .n) U ⟨({ Kind:=3,N:=a1,Source:=p,Length:=q,Draws:=d }:Plan),_,_,r,a5,hd⟩)
   refine .skipS [4,2] r r (.sr (.loadW ia49 sz49 r .z r r r (.storeA sz49 r r (.s .z) (.t (.t (.t (.t (.t .nil))))) r r (.nilS [4] r r (.drop .z (.pub (.s .z) fun c1 H a6=>?_))))))
   have V:=IH.le.trans k H
   have b2:=IH.le.trans b H
   exact .ret (pret results63 (.w ia49 sz49 r .z r .n) V ⟨({ Kind:=h,N:=a1,Source:=p,Length:=q,Draws:=d }:Plan),_,_,r,a6,hd⟩)
 rw [l]
 refine .ks 4 r (.nilS [55,4,2] r r (.condKF r r (.skipS [4,2] r r (.sr (.loadW ia49 sz49 r .z r r r (.storeA sz49 r r (.s .z) (.t (.t (.t (.t (.t .nil))))) r r (.nilS [4] r r (.drop .z (.pub (.s .z) fun c3 J a7=>?_)))))))))
 have W:=IH.le.trans k J
 have b3:=IH.le.trans b J
 exact .ret (pret results63 (.w ia49 sz49 r .z r .n) W ⟨({ Kind:=h,N:=a1,Source:=p,Length:=q,Draws:=d }:Plan),_,_,r,a7,hd⟩)
theorem W_law22_Case_Make {I:IH} {a0:Law22_Case} {p1:Option Addr} {c2:Nat} {p4:Option Addr} {c5:Nat} {Q:(Plan×Graph×Int)→Prop} (R3:RepSl eI64 I p1 c2 a0.P.Draws) (R6:RepSl eEdge I p4 c5 a0.G.Edges) (hd:law22_Case_Make a0 Q) :
  PFun prog 24 [.agg #[.int .i64 a0.P.Kind,.int .i64 a0.P.N,.int .i64 a0.P.Source,.int .i64 a0.P.Length,.slice p1 a0.P.Draws.length c2,.int .i64 a0.G.N,.slice p4 a0.G.Edges.length c5,.int .u8 a0.Limit]] I (fun I_ v=>∃ r p7 c8 p10 c11,v=.tuple #[.agg #[.int .i64 r.1.Kind,.int .i64 r.1.N,.int .i64 r.1.Source,.int .i64 r.1.Length,.slice p7 r.1.Draws.length c8],.agg #[.int .i64 r.2.1.N,.slice p10 r.2.1.Edges.length c11],.int .i64 r.2.2]∧RepSl eI64 I_ p7 c8 r.1.Draws∧RepSl eEdge I_ p10 c11 r.2.1.Edges∧Q r):=by
 refine Fun.enter func24 r ntmps24 r (.c .n) fun w0 M=>?_
 refine .sr (.boxA r r r fun x=>?_)
 refine .allocA zv49 r r fun y=>?_
 refine .allocA zv24 r r fun A=>?_
 refine .ks 1 r (.nilS [3,2,1] r r (.sr (.fa un64 r sz24 r (o:=5) r r r (.loadA ia24 sz24 r (.s (.s .z)) (.s (.s (.s (.s (.s (.t (.t .nil))))))) r r r ?_))))
 have f:=W_law21_Graph (I:=I) R6 hd
 refine .callO call15 r f r r fun B m C a h=>?_
 obtain ⟨p,D,E,rfl,rfl,hd⟩:=h
 replace R3:=R3.mono a
 replace R6:=R6.mono a
 refine .allocA zv24 r r fun F=>?_
 refine .storeA sz24 r r .z (.t (.t .nil)) r r (.nilS [5,3,2,1] r r (.seq (.dr [0,1,2,3,5,6,7,8,9,4,10,11] 12 (.g r r r (fun _=>.fa un64 r sz49 r (o:=0) r r r .mk) (.g r r r (fun _=>.loadA ia49 sz49 r (.s (.s (.s (.s .z)))) (.t (.t (.t (.t (.t .nil))))) r r r .mk) (.g r r r (fun _=>.fa un24 r sz3 r (o:=0) r r r .mk) (.g r r r (fun _=>.load1 ia3 r .z r r r .mk) (.g r r r (fun _=>.loadW ia24 sz24 r .z r r r .mk) (.g r r r (fun _=>.fa un64 r sizeOf5 r (o:=7) r r r .mk) ?_)))))))))
 refine .g r r r (fun _=>.load1 isAgg5 r (.s (.s (.s (.s .z)))) r r r .mk) (.g r r r (fun _=>.conv un5 un3 r r r .mk) (.g r r r (fun _=>.rem r r (by decide) r r .mk) (.ww r fun ex=>?_)))
 have i:=W_law21_Plan (I:=m) R3 hd
 refine .call call63 r i r r fun H J b j=>?_
 obtain ⟨q,K,L,rfl,d,hd⟩:=j
 have k:=IH.le.trans a b
 replace R3:=R3.mono b
 replace R6:=R6.mono b
 refine .so 5 r r r (.cg r r r r (fun _=>.rem r r (by decide) r r .mk) (.cg r r r r (fun _=>.conv un5 un3 r r r .mk) (.cg r r r r (fun _=>.load1 isAgg5 r (.s (.s (.s (.s .z)))) r r r .mk) (.cg r r r r (fun _=>.fa un64 r sizeOf5 r (o:=7) r r r .mk) (.cg r r r r (fun _=>.loadW ia24 sz24 r .z r r r .mk) trivial))))) (.ww r fun ex=>?_)
 refine .storeA sz49 r r (.s (.s (.s .z))) (.t (.t (.t (.t (.t .nil))))) r r (.sn 5 r r r (.cg r r r r (fun _=>.rem r r (by decide) r r .mk) (.cg r r r r (fun _=>.conv un5 un3 r r r .mk) (.cg r r r r (fun _=>.load1 isAgg5 r (.s (.s (.s (.s .z)))) r r r .mk) (.cg r r r r (fun _=>.fa un64 r sizeOf5 r (o:=7) r r r .mk) (.cg r r r r (fun _=>.loadW ia24 sz24 r .z r r r .mk) trivial))))) (.ww r fun ex=>?_))
 refine .storeA sz24 r r (.s (.s .z)) (.t (.t .nil)) r r (.sn 5 r r r (.cg r r r r (fun _=>.rem r r (by decide) r r .mk) (.cg r r r r (fun _=>.conv un5 un3 r r r .mk) (.cg r r r r (fun _=>.load1 isAgg5 r (.s (.s (.s (.s .z)))) r r r .mk) (.cg r r r r (fun _=>.fa un64 r sizeOf5 r (o:=7) r r r .mk) trivial)))) (.e2 12 (.ks 1 r (.nilS [4,3,2] r r (.drop .z (.drop (.s (.s (.s .z))) (.pub .z fun O e u=>?_)))))))
 have l:=IH.le.trans k e
 replace d:=d.mono e
 exact .ret (pret results24 (.w ia49 sz49 r (.s .z) r (.w ia24 sz24 r .z r (.t r .n))) l ⟨(q,p,(w64 (a0.Limit)).tmod 40),_,_,_,_,r,d,u,hd⟩)
theorem W_vertex_named {I:IH} {a0:Plan} {a1:Graph} {p1:Option Addr} {c2:Nat} {p4:Option Addr} {c5:Nat} {Q:Graph→Prop} (R3:RepSl eI64 I p1 c2 a0.Draws) (R6:RepSl eEdge I p4 c5 a1.Edges) (hd:vertex_named a0 a1 Q) :
  PFun prog 65 [.agg #[.int .i64 a0.Kind,.int .i64 a0.N,.int .i64 a0.Source,.int .i64 a0.Length,.slice p1 a0.Draws.length c2],.agg #[.int .i64 a1.N,.slice p4 a1.Edges.length c5]] I (o22_ Q):=by
 refine Fun.enter func65 r ntmps65 r (.c (.c .n)) fun w0 M=>?_
 refine .sr (.boxA r r r fun a3=>?_)
 refine .boxA r r r fun a4=>?_
 refine .allocA zv24 r r fun a5=>?_
 refine .nilS [4,3,2] r r (.seq (.sr (.fa un49 r sz47 r (o:=0) r r r (.load1 ia47 r (.s (.s .z)) r r r (.nilS [6,4,3] r r (.drop (.s (.s .z)) (.block (.seq (.block ?_)))))))))
 refine .seq (.block (.seq (.block (.seq (.seq (.sr (.ks 2 r (.nilS [7,6,4,3] r r (.condP r hd (fun l hd=>?_) fun l hd=>?_)))))))))
 · refine .exitS [4,3] r r (.region (.loadW ia24 sz24 r (.s .z) r r r ?_))
   have m:=W_edges_Simple (I:=I) R6 hd
   refine .call call127 r m r r fun a6 P a p=>?_
   obtain ⟨a7,a8,a9,rfl,b,hd⟩:=p
   replace R6:=R6.mono a
   refine .storeA sz24 r r (.s .z) (.t (.t .nil)) r r (.nilS [4,3] r r (.region (.loadW ia24 sz24 r (.s .z) r r r ?_)))
   have q:=W_edges_Both (I:=P) b hd
   refine .call call128 r q r r fun b0 R d u=>?_
   obtain ⟨b1,b2,b3,rfl,e,hd⟩:=u
   have v:=IH.le.trans a d
   replace b:=b.mono d
   refine .storeA sz24 r r (.s .z) (.t (.t .nil)) r r (.nilS [4,3] r r (.seq (.sr (.loadW ia24 sz24 r (.s .z) r r r ?_))))
   have x:=W_edges_Plain (I:=R) e hd
   refine .call call129 r x r r fun b4 b5 f y=>?_
   obtain ⟨S,b6,b7,rfl,T,hd⟩:=y
   have A:=IH.le.trans v f
   replace e:=e.mono f
   exact .storeA sz24 r r .z (.t (.t .nil)) r r (.nilS [4] r r (.drop (.s .z) (.ret (pret results65 (.w ia24 sz24 r .z r .n) A ⟨S,_,_,r,T,hd⟩))))
 refine .skipS [6,4,3] r r (.seq (.sr (.ks 2 r (.nilS [9,6,4,3] r r (.condP r hd (fun B hd=>?_) fun B hd=>?_)))))
 · refine .exitS [4,3] r r (.region (.loadW ia24 sz24 r (.s .z) r r r ?_))
   have C:=W_edges_Both (I:=I) R6 hd
   refine .call call128 r C r r fun b8 U g D=>?_
   obtain ⟨b9,c0,c1,rfl,h,hd⟩:=D
   replace R6:=R6.mono g
   refine .storeA sz24 r r (.s .z) (.t (.t .nil)) r r (.nilS [4,3] r r (.seq (.sr (.loadW ia24 sz24 r (.s .z) r r r ?_))))
   have E:=W_edges_Plain (I:=U) h hd
   refine .call call129 r E r r fun c3 c4 i F=>?_
   obtain ⟨V,c6,c7,rfl,W,hd⟩:=F
   have G:=IH.le.trans g i
   replace h:=h.mono i
   exact .storeA sz24 r r .z (.t (.t .nil)) r r (.nilS [4] r r (.drop (.s .z) (.ret (pret results65 (.w ia24 sz24 r .z r .n) G ⟨V,_,_,r,W,hd⟩))))
 refine .skipS [6,4,3] r r (.sr (.ks 2 r (.nilS [11,4,3] r r (.condP r hd (fun H hd=>?_) fun H hd=>?_))))
 · refine .exitS [4,3] r r (.seq (.sr (.loadW ia24 sz24 r (.s .z) r r r ?_)))
   have J:=W_edges_Plain (I:=I) R6 hd
   refine .call call129 r J r r fun c8 c9 j K=>?_
   obtain ⟨X,d0,d1,rfl,Y,hd⟩:=K
   replace R6:=R6.mono j
   exact .storeA sz24 r r .z (.t (.t .nil)) r r (.nilS [4] r r (.drop (.s .z) (.ret (pret results65 (.w ia24 sz24 r .z r .n) j ⟨X,_,_,r,Y,hd⟩))))
 refine .skipS [4,3] r r (.exitS [4,3] r r (.sr (.loadW ia24 sz24 r (.s .z) r r r ?_)))
 have L:=W_edges_Canon (I:=I) R6 hd
 refine .call call131 r L r r fun d2 d3 k O=>?_
 obtain ⟨Z,d4,d5,rfl,a2,hd⟩:=O
 replace R6:=R6.mono k
 exact .storeA sz24 r r .z (.t (.t .nil)) r r (.nilS [4] r r (.drop (.s .z) (.ret (pret results65 (.w ia24 sz24 r .z r .n) k ⟨Z,_,_,r,a2,hd⟩))))
theorem W_vertex_Links {I:IH} {a0:Plan} {a1:Graph} {p1:Option Addr} {c2:Nat} {p4:Option Addr} {c5:Nat} {Q:((List Edge)×Int)→Prop} (R3:RepSl eI64 I p1 c2 a0.Draws) (R6:RepSl eEdge I p4 c5 a1.Edges) (hd:vertex_Links a0 a1 Q) :
  PFun prog 25 [.agg #[.int .i64 a0.Kind,.int .i64 a0.N,.int .i64 a0.Source,.int .i64 a0.Length,.slice p1 a0.Draws.length c2],.agg #[.int .i64 a1.N,.slice p4 a1.Edges.length c5]] I (o23_ Q):=by
 refine Fun.enter func25 r ntmps25 r (.c (.c .n)) fun w0 M=>?_
 refine .sr (.boxA r r r fun o=>?_)
 refine .boxA r r r fun p=>?_
 refine .ks 2 r (.nilS [3,2] r r (.seq (.sr (.loadW ia49 sz49 r (.s .z) r r r (.loadW ia24 sz24 r .z r r r ?_)))))
 have d:=W_prog_Matrix (I:=I) R3 R6 hd
 refine .call call64 r d r r fun q j a e=>?_
 obtain ⟨k,u,v,w,x,y,A,rfl,B,C,D,hd⟩:=e
 replace R3:=R3.mono a
 replace R6:=R6.mono a
 refine .ks 3 r (.allocA zv32 r r fun E=>?_)
 refine .storeA sz32 r r .z (.t (.t (.t (.t (.t .nil))))) r r (.ks 1 r (.nilS [7,3,2] r r (.drop .z (.sr (.ks 2 r (.nilS [15,7,3,2] r r (.condP r hd (fun f hd=>?_) fun f hd=>?_)))))))
 · exact .sr (.ks 3 r (.nilS [5,4] r r (.drop .z (.drop .z (.ret (pret results25 (.t r (.t r .n)) a ⟨(([]:List Edge),k.2),_,_,r,(.nil _ _ _),hd⟩))))))
 refine .skipS [3,2] r r (.sr (.loadW ia49 sz49 r (.s .z) r r r (.loadW ia24 sz24 r .z r r r ?_)))
 have g:=W_vertex_named (I:=j) R3 R6 hd
 refine .call call65 r g r r fun F G b h=>?_
 obtain ⟨l,H,J,rfl,m,hd⟩:=h
 have i:=IH.le.trans a b
 replace R3:=R3.mono b
 replace R6:=R6.mono b
 exact .field1 un24 r ia22 r r r r (.ks 2 r (.nilS [5,4] r r (.drop .z (.drop .z (.ret (pret results25 (.t r (.t r .n)) i ⟨(l.Edges,0),_,_,r,m,hd⟩))))))
theorem W_ref21_from {I:IH} {a0:Int} {Q:Bool→Prop}  (hd:ref21_from a0 Q) :
  PFun prog 92 [.int .i64 a0] I (fun _=>o4_ Q):=by
 refine Fun.enter func92 r ntmps92 r (.c .n) fun w0 M=>?_
 refine .sr (.ks 1 r (.nilS [0] r r (.sr (.ks 3 r ?_))))
 refine splitP hd (fun a hd=>?_) fun a hd=>?_
 · rw [a]
   exact .ks 8 r (.nilS [2] r r (.ret (pret results92 (.t r .n) (.refl _) ⟨true,r,hd⟩)))
 rw [a]
 refine .ks 4 r ?_
 refine splitP hd (fun b hd=>?_) fun b hd=>?_
 · rw [b]
   exact .ks 4 r (.nilS [2] r r (.ret (pret results92 (.t r .n) (.refl _) ⟨true,r,hd⟩)))
 rw [b]
 exact .ks 4 r (.nilS [2] r r (.ret (pret results92 (.t r .n) (.refl _) ⟨(a0==4),r,hd⟩)))
theorem W_ref21_Right {I:IH} {a0:Plan} {p1:Option Addr} {c2:Nat} {Q:Int→Prop} (R3:RepSl eI64 I p1 c2 a0.Draws) (hd:ref21_Right a0 Q) :
  PFun prog 71 [.agg #[.int .i64 a0.Kind,.int .i64 a0.N,.int .i64 a0.Source,.int .i64 a0.Length,.slice p1 a0.Draws.length c2]] I (fun _=>o0_ Q):=by
 refine Fun.enter func71 r ntmps71 r (.c .n) fun w0 M=>?_
 refine .sr (.boxA r r r fun B=>?_)
 refine .ks 1 r (.nilS [1] r r (.seq (.sr (.fa un49 r sz47 r (o:=0) r r r (.load1 ia47 r .z r r r (.ks 2 r ?_))))))
 refine splitP hd (fun e hd=>?_) fun e hd=>?_
 · rw [e]
   exact .ks 4 r (.nilS [11,1] r r (.condKT r r (.sr (.ks 1 r (.nilS [2] r r (.drop .z (.ret (pret results71 (.t r .n) (.refl _) ⟨8,r,hd⟩))))))))
 rw [e]
 refine .gyes r r r (.fa un49 r sz47 r (o:=0) r r r (.gyes r r r (.load1 ia47 r .z r r r (.ks 2 r (.nilS [11,1] r r (.condP r hd (fun K hd=>?_) fun K hd=>?_))))))
 · exact .sr (.ks 1 r (.nilS [2] r r (.drop .z (.ret (pret results71 (.t r .n) (.refl _) ⟨8,r,hd⟩)))))
 refine .skipS [1] r r (.seq ?_)
 refine Cod.joinQ (σ:=Unit) hd (fun (_:Unit) c w=>∃ I_,IH.le I I_∧Ok ⟨77,[],none⟩ [(1,.pointer (some ⟨B,0,none⟩))] c∧Sym w0 M I I_ [pto B (.cells #[.int .i64 a0.Kind,.int .i64 a0.N,.int .i64 a0.Source,.int .i64 a0.Length,.slice p1 a0.Draws.length c2] 49 (0,0))] w) (fun a4 hd=>?_) ?_
 · skip
   refine .sr (.fa un49 r sz3 r (o:=1) r r r (.load1 ia3 r .z r r r (.ks 2 r ?_)))
   refine splitP hd (fun f hd=>?_) fun f hd=>?_
   · rw [f]
     exact .ks 36 r (.nilS [51,1] r r (.condKT r r (.sr (.ks 1 r (.nilS [2] r r (.drop .z (.ret (pret results71 (.t r .n) (.refl _) ⟨3,r,hd⟩))))))))
   rw [f]
   refine .gyes r r r (.fa un49 r sz3 r (o:=1) r r r (.gyes r r r (.load1 ia3 r .z r r r (.ks 3 r ?_))))
   refine splitP hd (fun g hd=>?_) fun g hd=>?_
   · rw [g]
     exact .ks 31 r (.nilS [51,1] r r (.condKT r r (.sr (.ks 1 r (.nilS [2] r r (.drop .z (.ret (pret results71 (.t r .n) (.refl _) ⟨3,r,hd⟩))))))))
   rw [g]
   refine .gyes r r r (.fa un49 r sz47 r (o:=0) r r r (.gyes r r r (.load1 ia47 r .z r r r ?_)))
   have L:=W_ref21_from (I:=I) hd
   refine .gyes r r r (.callP call92 r L r r fun a5 O=>?_)
   obtain ⟨a6,rfl,hd⟩:=O
   refine .ks 1 r ?_
   refine splitP hd (fun h hd=>?_) fun h hd=>?_
   · rw [h]
     refine .gyes r r r (.fa un49 r sz3 r (o:=2) r r r (.gyes r r r (.load1 ia3 r .z r r r (.ks 2 r ?_))))
     refine splitP hd (fun i hd=>?_) fun i hd=>?_
     · rw [i]
       exact .ks 23 r (.nilS [51,1] r r (.condKT r r (.sr (.ks 1 r (.nilS [2] r r (.drop .z (.ret (pret results71 (.t r .n) (.refl _) ⟨3,r,hd⟩))))))))
     rw [i]
     refine .gyes r r r (.fa un49 r sz3 r (o:=2) r r r (.gyes r r r (.load1 ia3 r .z r r r (.gyes r r r (.fa un49 r sz3 r (o:=1) r r r (.gyes r r r (.load1 ia3 r .z r r r (.ks 5 r ?_))))))))
     refine splitP hd (fun k hd=>?_) fun k hd=>?_
     · rw [k]
       exact .ks 14 r (.nilS [51,1] r r (.condKT r r (.sr (.ks 1 r (.nilS [2] r r (.drop .z (.ret (pret results71 (.t r .n) (.refl _) ⟨3,r,hd⟩))))))))
     rw [k]
     refine .gyes r r r (.fa un49 r sz47 r (o:=0) r r r (.gyes r r r (.load1 ia47 r .z r r r (.ks 2 r ?_))))
     refine splitP hd (fun l hd=>?_) fun l hd=>?_
     · rw [l]
       refine .gyes r r r (.fa un49 r sz3 r (o:=3) r r r (.gyes r r r (.load1 ia3 r .z r r r (.ks 2 r ?_))))
       refine splitP hd (fun m hd=>?_) fun m hd=>?_
       · rw [m]
         exact .ks 6 r (.nilS [51,1] r r (.condKT r r (.sr (.ks 1 r (.nilS [2] r r (.drop .z (.ret (pret results71 (.t r .n) (.refl _) ⟨3,r,hd⟩))))))))
       rw [m]
       refine .gyes r r r (.fa un49 r sz3 r (o:=3) r r r (.gyes r r r (.load1 ia3 r .z r r r (.ks 4 r (.nilS [51,1] r r (.condP r hd (fun P hd=>?_) fun P hd=>?_))))))
       · exact .sr (.ks 1 r (.nilS [2] r r (.drop .z (.ret (pret results71 (.t r .n) (.refl _) ⟨3,r,hd⟩)))))
       exact .skip' fun c w ho hs=>⟨(),hd,I,(.refl _),ho.sub ⟨r,trivial⟩,hs.pick (.c .z .n)⟩
     rw [l]
     exact .ks 10 r (.nilS [51,1] r r (.condKF r r (.skip' fun c w ho hs=>⟨(),hd,I,(.refl _),ho.sub ⟨r,trivial⟩,hs.pick (.c .z .n)⟩)))
   rw [h]
   refine .ks 13 r (.gyes r r r (.fa un49 r sz47 r (o:=0) r r r (.gyes r r r (.load1 ia47 r .z r r r (.ks 2 r ?_)))))
   refine splitP hd (fun p hd=>?_) fun p hd=>?_
   · rw [p]
     refine .gyes r r r (.fa un49 r sz3 r (o:=3) r r r (.gyes r r r (.load1 ia3 r .z r r r (.ks 2 r ?_))))
     refine splitP hd (fun q hd=>?_) fun q hd=>?_
     · rw [q]
       exact .ks 6 r (.nilS [51,1] r r (.condKT r r (.sr (.ks 1 r (.nilS [2] r r (.drop .z (.ret (pret results71 (.t r .n) (.refl _) ⟨3,r,hd⟩))))))))
     rw [q]
     refine .gyes r r r (.fa un49 r sz3 r (o:=3) r r r (.gyes r r r (.load1 ia3 r .z r r r (.ks 4 r (.nilS [51,1] r r (.condP r hd (fun R hd=>?_) fun R hd=>?_))))))
     · exact .sr (.ks 1 r (.nilS [2] r r (.drop .z (.ret (pret results71 (.t r .n) (.refl _) ⟨3,r,hd⟩)))))
     exact .skip' fun c w ho hs=>⟨(),hd,I,(.refl _),ho.sub ⟨r,trivial⟩,hs.pick (.c .z .n)⟩
   rw [p]
   exact .ks 10 r (.nilS [51,1] r r (.condKF r r (.skip' fun c w ho hs=>⟨(),hd,I,(.refl _),ho.sub ⟨r,trivial⟩,hs.pick (.c .z .n)⟩)))
 rintro ⟨⟩ hd c w hst
 obtain ⟨J,s,hok,hsym⟩:=hst
 replace R3:=R3.mono s
 refine Cod.at hok hsym (.seq (.sr (.fa un49 r sz30 r (o:=4) r r r (.load1 ia30 r .z r r r (.len un30 r r r r (.ks 1 r (.nilS [55,1] r r (.condP r hd (fun S hd=>?_) fun S hd=>?_))))))))
 · exact .sr (.ks 1 r (.nilS [2] r r (.drop .z (.ret (pret results71 (.t r .n) s ⟨5,r,hd⟩)))))
 refine .skipS [1] r r (.seq (.sr (.ks 1 r (.nilS [3,1] r r (.block (.loop hd (fun (u:Int) c w=>∃ I_,IH.le J I_∧Ok ⟨77,[],none⟩ [(1,.pointer (some ⟨B,0,none⟩)),(3,.int .i64 u)] c∧Sym w0 M I I_ [pto B (.cells #[.int .i64 a0.Kind,.int .i64 a0.N,.int .i64 a0.Source,.int .i64 a0.Length,.slice p1 a0.Draws.length c2] 49 (0,0))] w) (fun c w ho hs=>⟨J,(.refl _),ho.sub ⟨r,r,trivial⟩,hs.pick (.c .z .n)⟩) ?_))))))
 rintro u W hd c w hst
 obtain ⟨T,a,hok,hsym⟩:=hst
 have b:=IH.le.trans s a
 replace R3:=R3.mono a
 refine Cod.at hok hsym (.seq (.sr (.ks 1 r (.fa un49 r sz30 r (o:=4) r r r (.load1 ia30 r .z r r r (.len un30 r r r r (.ks 1 r (.nilS [60,3,1] r r (.condP r hd (fun C hd=>?_) fun C hd=>?_)))))))))
 · refine .skipS [3,1] r r (.seq (.block (.sr (.fa un49 r sz30 r (o:=4) r r r (.load1 ia30 r .z r r r (.ks 1 r ?_))))))
   obtain ⟨y,Z,v,hd⟩:=hd
   obtain ⟨a1,o120,X,U,D,E⟩:=R3.2 _ _ v
   cases E
   refine .ixa un30 sz2 r U r y (idx_lt v y) r r (.ld1 (j:=0) ia2 D r r r r r (.ks 2 r ?_))
   refine splitP hd (fun d hd=>?_) fun d hd=>?_
   · rw [d]
     exact .ks 7 r (.nilS [76,3,1] r r (.condKT r r (.sr (.ks 1 r (.nilS [2] r r (.drop .z (.ret (pret results71 (.t r .n) b ⟨7,r,hd⟩))))))))
   rw [d]
   refine .gyes r r r (.fa un49 r sz30 r (o:=4) r r r (.gyes r r r (.load1 ia30 r .z r r r (.ks 1 r ?_))))
   obtain ⟨A,a2,x,hd⟩:=hd
   obtain ⟨a3,o130,Y,V,F,G⟩:=R3.2 _ _ x
   cases G
   refine .gyes r r r (.ixa un30 sz2 r V r A (idx_lt x A) r r (.gyes r r r (.ld1 (j:=0) ia2 F r r r r r (.ks 2 r (.nilS [76,3,1] r r (.condP r hd (fun H hd=>?_) fun H hd=>?_))))))
   · exact .sr (.ks 1 r (.nilS [2] r r (.drop .z (.ret (pret results71 (.t r .n) b ⟨7,r,hd⟩)))))
   exact .skipS [3,1] r r (.region (.ks 3 r (.nil' fun c w ho hs=>⟨(w64 (u+1)),hd,T,a,ho.sub ⟨r,r,trivial⟩,hs.pick (.c .z .n)⟩)))
 exact .exitS [] r r (.drop .z (.sr (.ks 1 r (.nilS [2] r r (.ret (pret results71 (.t r .n) b ⟨0,r,hd⟩))))))
theorem W_ref05_Plain {I:IH} {a0:Graph} {p1:Option Addr} {c2:Nat} {Q:Graph→Prop} (R3:RepSl eEdge I p1 c2 a0.Edges) (hd:ref05_Plain a0 Q) :
  PFun prog 88 [.agg #[.int .i64 a0.N,.slice p1 a0.Edges.length c2]] I (o12_ Q):=by
 refine Fun.enter func88 r ntmps88 r (.c .n) fun w0 M=>?_
 refine .sr (.boxA r r r fun K=>?_)
 refine .allocA zv24 r r fun L=>?_
 refine .nilS [2,1] r r (.sr (.fa un24 r sz3 r (o:=0) r r r (.load1 ia3 r (.s .z) r r r (.build zv24 un24 BI24 (.c r r r (.t .nil) .n) (by exact ⟨⟨_,_,r,r,r⟩,trivial⟩) r r (.allocA zv24 r r fun O=>?_)))))
 refine .storeA sz24 r r .z (.t (.t .nil)) r r (.nilS [3,2,1] r r (.seq (.sr (.ks 1 r (.nilS [4,3,2,1] r r (.block (.own0 eEdge 27 (.loop hd (fun (s:(List Edge)×Int) c w=>match s with | (a,b)=>∃ I_ k l,IH.le I I_∧Ok ⟨35,[],none⟩ [(1,.pointer (some ⟨K,0,none⟩)),(2,.pointer (some ⟨L,0,none⟩)),(3,.pointer (some ⟨O,0,none⟩)),(4,.int .i64 b)] c∧Sym w0 M I I_ [pto K (.cells #[.int .i64 a0.N,.slice p1 a0.Edges.length c2] 24 (0,0)),pto L (.cells #[.int .i64 0,.slice none 0 0] 24 (0,0)),pto O (.cells #[.int .i64 a0.N,.slice k a.length l] 24 (0,0)),OwnSl eEdge 27 k l a] w) (fun c w ho hs=>⟨I,_,_,(.refl _),ho.sub ⟨r,r,r,r,trivial⟩,hs.pick (.c (.s (.s (.s .z))) (.c (.s (.s .z)) (.c (.s .z) (.c .z .n))))⟩) ?_))))))))
 rintro ⟨a,b⟩ X hd c w hst
 obtain ⟨Y,k,l,d,hok,hsym⟩:=hst
 replace R3:=R3.mono d
 refine Cod.at hok hsym (.seq (.sr (.ks 1 r (.fa un24 r sz22 r (o:=1) r r r (.load1 ia22 r .z r r r (.len un22 r r r r (.ks 1 r (.nilS [12,4,3,2,1] r r (.condP r hd (fun P hd=>?_) fun P hd=>?_)))))))))
 · refine .skipS [4,3,2,1] r r (.seq (.block (.ownF (.s (.s (.s .z))) fun Z=>?_)))
   refine .dr [0,1,2,3,4,5,6,7,8,9,10,11,12,13,14,15,16] 17 (.g r r r (fun _=>.fa un24 r sz22 r (o:=1) r r r .mk) (.g r r r (fun _=>.load1 ia22 r (.s (.s .z)) r r r .mk) (.g r r r (fun _=>.fa un24 r sz22 r (o:=1) r r r .mk) (.g r r r (fun _=>.load1 ia22 r .z r r r .mk) (.fk 1 r ?_)))))
   obtain ⟨m,p,f,hd⟩:=hd
   obtain ⟨a3,o104,a1,R,v,x⟩:=R3.2 _ _ f
   cases x
   refine .g r r r (fun _=>.ixa un22 sz27 r R r m (idx_lt f m) r r .mk) (.g r r r (fun _=>.fa un27 r sz3 r (o:=o104+b.toNat*3) r r r .mk) (.g r r r (fun _=>.ld1 (j:=0) ia3 v r r r r r .mk) (.g r r r (fun _=>.fa un24 r sz22 r (o:=1) r r r .mk) (.g r r r (fun _=>.load1 ia22 r .z r r r .mk) (.fk 1 r ?_)))))
   obtain ⟨q,u,h,hd⟩:=hd
   obtain ⟨a4,o113,a2,S,y,A⟩:=R3.2 _ _ h
   cases A
   refine .g r r r (fun _=>.ixa un22 sz27 r S r q (idx_lt h q) r r .mk) (.g r r r (fun _=>.fa un27 r sz3 r (o:=o113+b.toNat*3+1) r r r .mk) (.g r r r (fun _=>.ld1 (j:=1) ia3 y r r r r r .mk) (.g r r r (fun _=>.build zv27 un27 BI27 (.c r r r (.t .nil) (.c r r r (.s (.t .nil)) (.c r r r (.s (.s (.t .nil))) .n))) (by exact ⟨⟨_,_,r,r,r⟩,⟨⟨_,_,r,r,r⟩,⟨⟨_,_,r,r,r⟩,trivial⟩⟩⟩) r r .mk) (.ww r fun ex=>?_))))
   refine .buildSlice 1 un22 sz27 zv27 r r (.c r r r .n) r r fun a5=>?_
   refine .so 5 r r r (.cg r r r r (fun _=>.load1 ia22 r (.s (.s (.s .z))) r r r .mk) (.cg r r r r (fun _=>.fa un24 r sz22 r (o:=1) r r r .mk) trivial)) (.ww r fun ex=>?_)
   obtain ⟨B,hd⟩:=hd
   refine .append (ys:=[({ From:=p.From,To:=u.To,W:=1 }:Edge)]) 24 (.s (.s (.s (.s .z)))) un22 un22 IN27 r r r r r r r r r (.box .z (.one r) r) B r r fun a6 a7=>?_
   exact .so 5 r r r trivial (.e2 17 (.fa un24 r sz22 r (o:=1) r r r (.store1 sz22 r r (.s (.s (.s (.s .z)))) (.s (.t .nil)) r (.nilS [4,3,2,1] r r (.drop (.s .z) (.region (.ks 3 r (.nil' fun c w ho hs=>⟨((a++([({ From:=p.From,To:=u.To,W:=1 }:Edge)])),w64 (b+1)),hd,Y,_,_,d,ho.sub ⟨r,r,r,r,trivial⟩,hs.pick (.c (.s .z) (.c (.s .z) (.c (.s .z) (.c .z .n))))⟩))))))))
 refine .exitS [3,2] r r (.drop .z (.sr (.loadW ia24 sz24 r (.s .z) r r r (.pub (.s (.s .z)) fun T C e=>?_))))
 have D:=IH.le.trans d C
 have E:=W_ref05_Canon (I:=T) (a0:=({ N:=a0.N,Edges:=a }:Graph)) e hd
 refine .callO call100 r E r r fun a8 a9 b0 i F=>?_
 obtain ⟨U,b1,b2,rfl,rfl,hd⟩:=F
 have G:=IH.le.trans D i
 replace e:=e.mono i
 refine .storeA sz24 r r (.s .z) (.t (.t .nil)) r r (.nilS [2] r r (.drop (.s (.s .z)) (.pub .z fun b3 H V=>?_)))
 have J:=IH.le.trans G H
 exact .ret (pret results88 (.w ia24 sz24 r .z r .n) J ⟨U,_,_,r,V,hd⟩)
theorem W_ref05_Both {I:IH} {a0:Graph} {p1:Option Addr} {c2:Nat} {Q:Graph→Prop} (R3:RepSl eEdge I p1 c2 a0.Edges) (hd:ref05_Both a0 Q) :
  PFun prog 89 [.agg #[.int .i64 a0.N,.slice p1 a0.Edges.length c2]] I (o12_ Q):=by
 refine Fun.enter func89 r ntmps89 r (.c .n) fun w0 M=>?_
 refine .sr (.boxA r r r fun y=>?_)
 refine .allocA zv24 r r fun A=>?_
 refine .nilS [2,1] r r (.sr (.loadW ia24 sz24 r (.s .z) r r r ?_))
 have f:=W_ref05_Turn (I:=I) R3 hd
 refine .callO call50 r f r r fun B C D a g=>?_
 obtain ⟨e,E,F,rfl,rfl,hd⟩:=g
 replace R3:=R3.mono a
 refine .allocA zv24 r r fun G=>?_
 refine .storeA sz24 r r .z (.t (.t .nil)) r r (.nilS [3,2,1] r r (.sr (.fa un24 r sz22 r (o:=1) r r r (.load1 ia22 r .z r r r (.fa un24 r sz22 r (o:=1) r r r (.load1 ia22 r (.s (.s (.s .z))) r r r ?_))))))
 obtain ⟨h,hd⟩:=hd
 refine .append (ys:=a0.Edges) 24 (.s .z) un22 un22 IN27 r r r r r r r r r (.imm R3 r) h r r fun H J=>?_
 refine .fa un24 r sz22 r (o:=1) r r r (.store1 sz22 r r (.s .z) (.s (.t .nil)) r (.nilS [3,2] r r (.drop (.s (.s (.s .z))) (.sr (.loadW ia24 sz24 r (.s .z) r r r (.pub .z fun u i b=>?_))))))
 have j:=IH.le.trans a i
 have k:=W_ref05_Canon (I:=u) (a0:=({ N:=e.N,Edges:=(e.Edges++a0.Edges) }:Graph)) b hd
 refine .callO call100 r k r r fun K L O d l=>?_
 obtain ⟨v,P,R,rfl,rfl,hd⟩:=l
 have m:=IH.le.trans j d
 replace b:=b.mono d
 refine .storeA sz24 r r (.s (.s .z)) (.t (.t .nil)) r r (.nilS [2] r r (.drop (.s .z) (.pub .z fun S p x=>?_)))
 have q:=IH.le.trans m p
 exact .ret (pret results89 (.w ia24 sz24 r .z r .n) q ⟨v,_,_,r,x,hd⟩)
theorem W_ref05_Simple {I:IH} {a0:Graph} {p1:Option Addr} {c2:Nat} {Q:Graph→Prop} (R3:RepSl eEdge I p1 c2 a0.Edges) (hd:ref05_Simple a0 Q) :
  PFun prog 90 [.agg #[.int .i64 a0.N,.slice p1 a0.Edges.length c2]] I (o12_ Q):=by
 refine Fun.enter func90 r ntmps90 r (.c .n) fun w0 M=>?_
 refine .sr (.boxA r r r fun T=>?_)
 refine .allocA zv24 r r fun U=>?_
 refine .nilS [2,1] r r (.sr (.fa un24 r sz3 r (o:=0) r r r (.load1 ia3 r (.s .z) r r r (.build zv24 un24 BI24 (.c r r r (.t .nil) .n) (by exact ⟨⟨_,_,r,r,r⟩,trivial⟩) r r (.allocA zv24 r r fun V=>?_)))))
 refine .storeA sz24 r r .z (.t (.t .nil)) r r (.nilS [3,2,1] r r (.seq (.sr (.ks 1 r (.nilS [4,3,2,1] r r (.block (.own0 eEdge 27 (.loop hd (fun (s:(List Edge)×Int) c w=>match s with | (a,b)=>∃ I_ e f,IH.le I I_∧Ok ⟨40,[],none⟩ [(1,.pointer (some ⟨T,0,none⟩)),(2,.pointer (some ⟨U,0,none⟩)),(3,.pointer (some ⟨V,0,none⟩)),(4,.int .i64 b)] c∧Sym w0 M I I_ [pto T (.cells #[.int .i64 a0.N,.slice p1 a0.Edges.length c2] 24 (0,0)),pto U (.cells #[.int .i64 0,.slice none 0 0] 24 (0,0)),pto V (.cells #[.int .i64 a0.N,.slice e a.length f] 24 (0,0)),OwnSl eEdge 27 e f a] w) (fun c w ho hs=>⟨I,_,_,(.refl _),ho.sub ⟨r,r,r,r,trivial⟩,hs.pick (.c (.s (.s (.s .z))) (.c (.s (.s .z)) (.c (.s .z) (.c .z .n))))⟩) ?_))))))))
 rintro ⟨a,b⟩ a3 hd c w hst
 obtain ⟨p,e,f,d,hok,hsym⟩:=hst
 replace R3:=R3.mono d
 refine Cod.at hok hsym (.seq (.sr (.ks 1 r (.fa un24 r sz22 r (o:=1) r r r (.load1 ia22 r .z r r r (.len un22 r r r r (.ks 1 r (.nilS [12,4,3,2,1] r r (.condP r hd (fun y hd=>?_) fun y hd=>?_)))))))))
 · refine .skipS [4,3,2,1] r r (.seq (.block (.seq (.ownF (.s (.s (.s .z))) fun a4=>?_))))
   refine .dr [0,1,2,3,4,5,6,7,8,9,10,11,12] 13 (.g r r r (fun _=>.fa un24 r sz22 r (o:=1) r r r .mk) (.g r r r (fun _=>.load1 ia22 r .z r r r .mk) (.fk 1 r ?_)))
   obtain ⟨q,a9,i,hd⟩:=hd
   obtain ⟨b0,o181,a6,W,A,B⟩:=R3.2 _ _ i
   cases B
   refine .g r r r (fun _=>.ixa un22 sz27 r W r q (idx_lt i q) r r .mk) (.g r r r (fun _=>.fa un27 r sz3 r (o:=o181+b.toNat*3) r r r .mk) (.g r r r (fun _=>.ld1 (j:=0) ia3 A r r r r r .mk) (.g r r r (fun _=>.fa un24 r sz22 r (o:=1) r r r .mk) (.g r r r (fun _=>.load1 ia22 r .z r r r .mk) (.fk 1 r ?_)))))
   obtain ⟨u,b1,k,hd⟩:=hd
   obtain ⟨b2,o190,a7,X,C,D⟩:=R3.2 _ _ k
   cases D
   refine .g r r r (fun _=>.ixa un22 sz27 r X r u (idx_lt k u) r r .mk) (.g r r r (fun _=>.fa un27 r sz3 r (o:=o190+b.toNat*3+1) r r r .mk) (.g r r r (fun _=>.ld1 (j:=1) ia3 C r r r r r .mk) (.fk 1 r (.e2 13 (.nilS [27,4,3,2,1] r r (.condP r hd (fun E hd=>?_) fun E hd=>?_))))))
   · refine .ownF (.s (.s (.s .z))) fun a5=>?_
     refine .dr [0,1,2,3,4,5,6,7,8] 9 (.g r r r (fun _=>.fa un24 r sz22 r (o:=1) r r r .mk) (.g r r r (fun _=>.load1 ia22 r (.s (.s .z)) r r r .mk) (.g r r r (fun _=>.fa un24 r sz22 r (o:=1) r r r .mk) (.g r r r (fun _=>.load1 ia22 r .z r r r .mk) (.fk 1 r ?_)))))
     obtain ⟨v,x,l,hd⟩:=hd
     obtain ⟨b3,o201,a8,Y,F,G⟩:=R3.2 _ _ l
     cases G
     refine .g r r r (fun _=>.ixa un22 sz27 r Y r v (idx_lt l v) r r .mk) (.g r r r (fun _=>.ldW ia27 sz27 F r r r r .mk) (.ww r fun ex=>?_))
     refine .buildSlice 1 un22 sz27 zv27 r r (.c r r r .n) r r fun b4=>?_
     refine .so 5 r r r (.cg r r r r (fun _=>.load1 ia22 r (.s (.s (.s .z))) r r r .mk) (.cg r r r r (fun _=>.fa un24 r sz22 r (o:=1) r r r .mk) trivial)) (.ww r fun ex=>?_)
     obtain ⟨H,hd⟩:=hd
     refine .append (ys:=[x]) 24 (.s (.s (.s (.s .z)))) un22 un22 IN27 r r r r r r r r r (.box .z (.one r) r) H r r fun b5 b6=>?_
     exact .so 5 r r r trivial (.e2 9 (.fa un24 r sz22 r (o:=1) r r r (.store1 sz22 r r (.s (.s (.s (.s .z)))) (.s (.t .nil)) r (.nilS [4,3,2,1] r r (.drop (.s .z) (.region (.ks 3 r (.nil' fun c w ho hs=>⟨((a++([x])),w64 (b+1)),hd,p,_,_,d,ho.sub ⟨r,r,r,r,trivial⟩,hs.pick (.c (.s .z) (.c (.s .z) (.c (.s .z) (.c .z .n))))⟩))))))))
   exact .skipS [4,3,2,1] r r (.region (.ks 3 r (.nil' fun c w ho hs=>⟨(a,w64 (b+1)),hd,p,_,_,d,ho.sub ⟨r,r,r,r,trivial⟩,hs.pick (.c .z (.c .z (.c .z (.c .z .n))))⟩)))
 refine .exitS [3,2] r r (.drop .z (.sr (.loadW ia24 sz24 r (.s .z) r r r (.pub (.s (.s .z)) fun Z J h=>?_))))
 have K:=IH.le.trans d J
 have L:=W_ref05_Canon (I:=Z) (a0:=({ N:=a0.N,Edges:=a }:Graph)) h hd
 refine .callO call100 r L r r fun b7 b8 b9 m O=>?_
 obtain ⟨a1,c0,c1,rfl,rfl,hd⟩:=O
 have P:=IH.le.trans K m
 replace h:=h.mono m
 refine .storeA sz24 r r (.s .z) (.t (.t .nil)) r r (.nilS [2] r r (.drop (.s (.s .z)) (.pub .z fun c3 R a2=>?_)))
 have S:=IH.le.trans P R
 exact .ret (pret results90 (.w ia24 sz24 r .z r .n) S ⟨a1,_,_,r,a2,hd⟩)
theorem W_ref21_Matrix {I:IH} {a0:Plan} {a1:Graph} {p1:Option Addr} {c2:Nat} {p4:Option Addr} {c5:Nat} {Q:(Rows×Int)→Prop} (R3:RepSl eI64 I p1 c2 a0.Draws) (R6:RepSl eEdge I p4 c5 a1.Edges) (hd:ref21_Matrix a0 a1 Q) :
  PFun prog 42 [.agg #[.int .i64 a0.Kind,.int .i64 a0.N,.int .i64 a0.Source,.int .i64 a0.Length,.slice p1 a0.Draws.length c2],.agg #[.int .i64 a1.N,.slice p4 a1.Edges.length c5]] I (o14_ Q):=by
 refine Fun.enter func42 r ntmps42 r (.c (.c .n)) fun w0 M=>?_
 refine .sr (.boxA r r r fun i2=>?_)
 refine .boxA r r r fun i3=>?_
 refine .allocA zv32 r r fun i4=>?_
 refine .ks 1 r (.nilS [4,3,2] r r (.seq (.sr (.loadW ia49 sz49 r (.s (.s .z)) r r r ?_))))
 have a3:=W_ref21_Right (I:=I) R3 hd
 refine .callP call71 r a3 r r fun i5 a4=>?_
 obtain ⟨d3,rfl,hd⟩:=a4
 refine .ks 1 r (.nilS [6,4,3,2] r r (.sr (.ks 2 r (.nilS [11,6,4,3,2] r r (.condP r hd (fun a5 hd=>?_) fun a5 hd=>?_)))))
 · exact .sr (.build zv32 un32 BI32 .n (by exact trivial) r r (.ks 1 r (.storeA sz32 r r .z (.t (.t (.t (.t (.t .nil))))) r r (.ks 1 r (.nilS [5,4] r r (.drop (.s .z) (.drop (.s .z) (.ret (pret results42 (.w ia32 sz32 r .z r (.t r .n)) (.refl _) ⟨(({ Rows:=0,Cols:=0,Start:=([]:List Int),Col:=([]:List Int),Val:=([]:List Int) }:Rows),d3),_,_,_,_,_,_,r,(.nil _ _ _),(.nil _ _ _),(.nil _ _ _),hd⟩)))))))))
 refine .skipS [4,3,2] r r (.seq (.sr (.fa un24 r sz3 r (o:=0) r r r (.load1 ia3 r (.s .z) r r r (.fa un49 r sz3 r (o:=1) r r r (.load1 ia3 r (.s (.s .z)) r r r (.ks 1 r (.nilS [18,4,3,2] r r (.condP r hd (fun a6 hd=>?_) fun a6 hd=>?_)))))))))
 · exact .sr (.build zv32 un32 BI32 .n (by exact trivial) r r (.storeA sz32 r r .z (.t (.t (.t (.t (.t .nil))))) r r (.ks 1 r (.nilS [5,4] r r (.drop (.s .z) (.drop (.s .z) (.ret (pret results42 (.w ia32 sz32 r .z r (.t r .n)) (.refl _) ⟨(({ Rows:=0,Cols:=0,Start:=([]:List Int),Col:=([]:List Int),Val:=([]:List Int) }:Rows),4),_,_,_,_,_,_,r,(.nil _ _ _),(.nil _ _ _),(.nil _ _ _),hd⟩))))))))
 refine .skipS [4,3,2] r r (.seq (.sr (.loadW ia24 sz24 r (.s .z) r r r ?_)))
 have a7:=W_ref05_Right (I:=I) R6 hd
 refine .callP call49 r a7 r r fun i6 a8=>?_
 obtain ⟨d4,rfl,hd⟩:=a8
 refine .ks 1 r (.nilS [7,4,3,2] r r (.sr (.ks 2 r (.nilS [23,7,4,3,2] r r (.condP r hd (fun a9 hd=>?_) fun a9 hd=>?_)))))
 · exact .sr (.build zv32 un32 BI32 .n (by exact trivial) r r (.ks 1 r (.storeA sz32 r r .z (.t (.t (.t (.t (.t .nil))))) r r (.ks 1 r (.nilS [5,4] r r (.drop (.s .z) (.drop (.s .z) (.ret (pret results42 (.w ia32 sz32 r .z r (.t r .n)) (.refl _) ⟨(({ Rows:=0,Cols:=0,Start:=([]:List Int),Col:=([]:List Int),Val:=([]:List Int) }:Rows),d4),_,_,_,_,_,_,r,(.nil _ _ _),(.nil _ _ _),(.nil _ _ _),hd⟩)))))))))
 refine .skipS [4,3,2] r r (.seq (.sr (.fa un49 r sz47 r (o:=0) r r r (.load1 ia47 r (.s (.s .z)) r r r (.nilS [27,4,3] r r (.drop (.s (.s .z)) (.block (.sr (.ks 2 r ?_)))))))))
 refine .nilS [28,27,4,3] r r (.condP r hd (fun b0 hd=>?_) fun b0 hd=>?_)
 · refine .region (.loadW ia24 sz24 r (.s .z) r r r ?_)
   have b1:=W_ref05_Plain (I:=I) R6 hd
   refine .call call88 r b1 r r fun i7 d5 p b2=>?_
   obtain ⟨i8,i9,j0,rfl,q,hd⟩:=b2
   replace R6:=R6.mono p
   refine .storeA sz24 r r (.s .z) (.t (.t .nil)) r r (.nilS [4,3] r r (.sr (.loadW ia24 sz24 r (.s .z) r r r ?_)))
   have b3:=W_ref07_Graph (I:=d5) q hd
   refine .call call17 r b3 r r fun j1 j2 u b4=>?_
   obtain ⟨a2,j3,j4,j5,j6,j7,j8,rfl,d6,d7,d8,hd⟩:=b4
   have b5:=IH.le.trans p u
   replace q:=q.mono u
   exact .ks 2 r (.storeA sz32 r r .z (.t (.t (.t (.t (.t .nil))))) r r (.ks 1 r (.nilS [5,4] r r (.drop (.s .z) (.ret (pret results42 (.w ia32 sz32 r .z r (.t r .n)) b5 ⟨(a2.1,a2.2),_,_,_,_,_,_,r,d6,d7,d8,hd⟩))))))
 refine .sr (.ks 2 r (.nilS [32,27,4,3] r r (.condP r hd (fun b6 hd=>?_) fun b6 hd=>?_)))
 · refine .region (.loadW ia24 sz24 r (.s .z) r r r ?_)
   have B:=W_ref05_Both (I:=I) R6 hd
   refine .call call89 r B r r fun j9 d9 v b7=>?_
   obtain ⟨k0,e0,e1,rfl,f,hd⟩:=b7
   replace R6:=R6.mono v
   have C:=W_ref05_Plain (I:=d9) f hd
   refine .call call88 r C r r fun e2 b8 d D=>?_
   obtain ⟨e3,e4,e5,rfl,g,hd⟩:=D
   have E:=IH.le.trans v d
   replace R6:=R6.mono d
   replace f:=f.mono d
   refine .storeA sz24 r r (.s .z) (.t (.t .nil)) r r (.nilS [4,3] r r (.sr (.loadW ia24 sz24 r (.s .z) r r r ?_)))
   have F:=W_ref07_Graph (I:=b8) g hd
   refine .call call17 r F r r fun e6 e7 j G=>?_
   obtain ⟨x,e8,e9,f0,f1,f2,f3,rfl,b9,c0,c1,hd⟩:=G
   have H:=IH.le.trans E j
   replace g:=g.mono j
   exact .ks 2 r (.storeA sz32 r r .z (.t (.t (.t (.t (.t .nil))))) r r (.ks 1 r (.nilS [5,4] r r (.drop (.s .z) (.ret (pret results42 (.w ia32 sz32 r .z r (.t r .n)) H ⟨(x.1,x.2),_,_,_,_,_,_,r,b9,c0,c1,hd⟩))))))
 refine .sr (.ks 2 r (.nilS [37,4,3] r r (.condP r hd (fun J hd=>?_) fun J hd=>?_)))
 · refine .region (.loadW ia24 sz24 r (.s .z) r r r ?_)
   have K:=W_ref05_Simple (I:=I) R6 hd
   refine .call call90 r K r r fun f4 c3 k L=>?_
   obtain ⟨f5,f6,f7,rfl,b,hd⟩:=L
   replace R6:=R6.mono k
   have O:=W_ref05_Both (I:=c3) b hd
   refine .call call89 r O r r fun f8 c4 e P=>?_
   obtain ⟨f9,g0,g1,rfl,h,hd⟩:=P
   have R:=IH.le.trans k e
   replace R6:=R6.mono e
   replace b:=b.mono e
   have S:=W_ref05_Plain (I:=c4) h hd
   refine .call call88 r S r r fun g2 c6 a T=>?_
   obtain ⟨g3,g4,g5,rfl,i,hd⟩:=T
   have U:=IH.le.trans R a
   replace R6:=R6.mono a
   replace b:=b.mono a
   replace h:=h.mono a
   refine .storeA sz24 r r (.s .z) (.t (.t .nil)) r r (.nilS [4,3] r r (.sr (.loadW ia24 sz24 r (.s .z) r r r ?_)))
   have V:=W_ref07_Graph (I:=c6) i hd
   refine .call call17 r V r r fun g6 g7 l W=>?_
   obtain ⟨y,g8,g9,h0,h1,h2,h3,rfl,c7,c8,c9,hd⟩:=W
   have X:=IH.le.trans U l
   replace i:=i.mono l
   exact .ks 2 r (.storeA sz32 r r .z (.t (.t (.t (.t (.t .nil))))) r r (.ks 1 r (.nilS [5,4] r r (.drop (.s .z) (.ret (pret results42 (.w ia32 sz32 r .z r (.t r .n)) X ⟨(y.1,y.2),_,_,_,_,_,_,r,c7,c8,c9,hd⟩))))))
 refine .skipS [4,3] r r (.sr (.loadW ia24 sz24 r (.s .z) r r r ?_))
 have Y:=W_ref07_Graph (I:=I) R6 hd
 refine .call call17 r Y r r fun h4 h5 m Z=>?_
 obtain ⟨A,h6,h7,h8,h9,i0,i1,rfl,d0,d1,d2,hd⟩:=Z
 replace R6:=R6.mono m
 exact .ks 2 r (.storeA sz32 r r .z (.t (.t (.t (.t (.t .nil))))) r r (.ks 1 r (.nilS [5,4] r r (.drop (.s .z) (.ret (pret results42 (.w ia32 sz32 r .z r (.t r .n)) m ⟨(A.1,A.2),_,_,_,_,_,_,r,d0,d1,d2,hd⟩))))))
theorem W_ref35_named {I:IH} {a0:Plan} {a1:Graph} {p1:Option Addr} {c2:Nat} {p4:Option Addr} {c5:Nat} {Q:Graph→Prop} (R3:RepSl eI64 I p1 c2 a0.Draws) (R6:RepSl eEdge I p4 c5 a1.Edges) (hd:ref35_named a0 a1 Q) :
  PFun prog 66 [.agg #[.int .i64 a0.Kind,.int .i64 a0.N,.int .i64 a0.Source,.int .i64 a0.Length,.slice p1 a0.Draws.length c2],.agg #[.int .i64 a1.N,.slice p4 a1.Edges.length c5]] I (o22_ Q):=by
 refine Fun.enter func66 r ntmps66 r (.c (.c .n)) fun w0 M=>?_
 refine .sr (.boxA r r r fun a5=>?_)
 refine .boxA r r r fun a6=>?_
 refine .allocA zv24 r r fun a7=>?_
 refine .nilS [4,3,2] r r (.sr (.fa un49 r sz47 r (o:=0) r r r (.load1 ia47 r (.s (.s .z)) r r r (.nilS [6,4,3] r r (.drop (.s (.s .z)) (.block (.sr (.ks 2 r (.nilS [9,6,4,3] r r ?_)))))))))
 refine .condP r hd (fun p hd=>?_) fun p hd=>?_
 · refine .sr (.loadW ia24 sz24 r (.s .z) r r r ?_)
   have q:=W_ref05_Plain (I:=I) R6 hd
   refine .call call88 r q r r fun a8 a9 f u=>?_
   obtain ⟨T,b0,b1,rfl,U,hd⟩:=u
   replace R6:=R6.mono f
   exact .storeA sz24 r r .z (.t (.t .nil)) r r (.nilS [4] r r (.drop (.s .z) (.ret (pret results66 (.w ia24 sz24 r .z r .n) f ⟨T,_,_,r,U,hd⟩))))
 refine .sr (.ks 2 r (.nilS [13,6,4,3] r r (.condP r hd (fun v hd=>?_) fun v hd=>?_)))
 · refine .sr (.loadW ia24 sz24 r (.s .z) r r r ?_)
   have x:=W_ref05_Both (I:=I) R6 hd
   refine .call call89 r x r r fun b2 V g y=>?_
   obtain ⟨b3,b4,b5,rfl,h,hd⟩:=y
   replace R6:=R6.mono g
   have A:=W_ref05_Plain (I:=V) h hd
   refine .call call88 r A r r fun b6 b7 d B=>?_
   obtain ⟨W,b8,b9,rfl,X,hd⟩:=B
   have C:=IH.le.trans g d
   replace R6:=R6.mono d
   replace h:=h.mono d
   exact .storeA sz24 r r .z (.t (.t .nil)) r r (.nilS [4] r r (.drop (.s .z) (.ret (pret results66 (.w ia24 sz24 r .z r .n) C ⟨W,_,_,r,X,hd⟩))))
 refine .sr (.ks 2 r (.nilS [18,4,3] r r (.condP r hd (fun D hd=>?_) fun D hd=>?_)))
 · refine .sr (.loadW ia24 sz24 r (.s .z) r r r ?_)
   have E:=W_ref05_Simple (I:=I) R6 hd
   refine .call call90 r E r r fun c0 Y i F=>?_
   obtain ⟨c1,c3,c4,rfl,b,hd⟩:=F
   replace R6:=R6.mono i
   have G:=W_ref05_Both (I:=Y) b hd
   refine .call call89 r G r r fun c6 Z e H=>?_
   obtain ⟨c7,c8,c9,rfl,j,hd⟩:=H
   have J:=IH.le.trans i e
   replace R6:=R6.mono e
   replace b:=b.mono e
   have K:=W_ref05_Plain (I:=Z) j hd
   refine .call call88 r K r r fun d0 d1 a L=>?_
   obtain ⟨a2,d2,d3,rfl,a3,hd⟩:=L
   have O:=IH.le.trans J a
   replace R6:=R6.mono a
   replace b:=b.mono a
   replace j:=j.mono a
   exact .storeA sz24 r r .z (.t (.t .nil)) r r (.nilS [4] r r (.drop (.s .z) (.ret (pret results66 (.w ia24 sz24 r .z r .n) O ⟨a2,_,_,r,a3,hd⟩))))
 refine .sr (.loadW ia24 sz24 r (.s .z) r r r ?_)
 have P:=W_ref05_Canon (I:=I) R6 hd
 refine .callO call100 r P r r fun d4 d5 d6 k R=>?_
 obtain ⟨a4,d7,d8,rfl,rfl,hd⟩:=R
 replace R6:=R6.mono k
 refine .storeA sz24 r r (.s .z) (.t (.t .nil)) r r (.nilS [4] r r (.drop (.s (.s .z)) (.pub .z fun d9 l S=>?_)))
 have m:=IH.le.trans k l
 exact .ret (pret results66 (.w ia24 sz24 r .z r .n) m ⟨a4,_,_,r,S,hd⟩)
theorem W_ref35_Links {I:IH} {a0:Plan} {a1:Graph} {p1:Option Addr} {c2:Nat} {p4:Option Addr} {c5:Nat} {Q:((List Edge)×Int)→Prop} (R3:RepSl eI64 I p1 c2 a0.Draws) (R6:RepSl eEdge I p4 c5 a1.Edges) (hd:ref35_Links a0 a1 Q) :
  PFun prog 26 [.agg #[.int .i64 a0.Kind,.int .i64 a0.N,.int .i64 a0.Source,.int .i64 a0.Length,.slice p1 a0.Draws.length c2],.agg #[.int .i64 a1.N,.slice p4 a1.Edges.length c5]] I (o23_ Q):=by
 refine Fun.enter func26 r ntmps26 r (.c (.c .n)) fun w0 M=>?_
 refine .sr (.boxA r r r fun o=>?_)
 refine .boxA r r r fun p=>?_
 refine .ks 2 r (.nilS [3,2] r r (.seq (.sr (.loadW ia49 sz49 r (.s .z) r r r (.loadW ia24 sz24 r .z r r r ?_)))))
 have d:=W_ref21_Matrix (I:=I) R3 R6 hd
 refine .call call42 r d r r fun q j a e=>?_
 obtain ⟨k,u,v,w,x,y,A,rfl,B,C,D,hd⟩:=e
 replace R3:=R3.mono a
 replace R6:=R6.mono a
 refine .ks 3 r (.allocA zv32 r r fun E=>?_)
 refine .storeA sz32 r r .z (.t (.t (.t (.t (.t .nil))))) r r (.ks 1 r (.nilS [7,3,2] r r (.drop .z (.sr (.ks 2 r (.nilS [15,7,3,2] r r (.condP r hd (fun f hd=>?_) fun f hd=>?_)))))))
 · exact .sr (.ks 3 r (.nilS [5,4] r r (.drop .z (.drop .z (.ret (pret results26 (.t r (.t r .n)) a ⟨(([]:List Edge),k.2),_,_,r,(.nil _ _ _),hd⟩))))))
 refine .skipS [3,2] r r (.sr (.loadW ia49 sz49 r (.s .z) r r r (.loadW ia24 sz24 r .z r r r ?_)))
 have g:=W_ref35_named (I:=j) R3 R6 hd
 refine .call call66 r g r r fun F G b h=>?_
 obtain ⟨l,H,J,rfl,m,hd⟩:=h
 have i:=IH.le.trans a b
 replace R3:=R3.mono b
 replace R6:=R6.mono b
 exact .field1 un24 r ia22 r r r r (.ks 2 r (.nilS [5,4] r r (.drop .z (.drop .z (.ret (pret results26 (.t r (.t r .n)) i ⟨(l.Edges,0),_,_,r,m,hd⟩))))))
theorem W_vertex_whole {I:IH} {a0:Plan} {a1:State} {p1:Option Addr} {c2:Nat} {p4:Option Addr} {c5:Nat} {p7:Option Addr} {c8:Nat} {p10:Option Addr} {c11:Nat} {Q:Bool→Prop} (R3:RepSl eI64 I p1 c2 a0.Draws) (R6:RepSl eI64 I p4 c5 a1.A) (R9:RepSl eI64 I p7 c8 a1.B) (R12:RepSl eU64 I p10 c11 a1.On) (hd:vertex_whole a0 a1 Q) :
  PFun prog 134 [.agg #[.int .i64 a0.Kind,.int .i64 a0.N,.int .i64 a0.Source,.int .i64 a0.Length,.slice p1 a0.Draws.length c2],.agg #[.int .i64 a1.Low,.int .i64 a1.High,.slice p4 a1.A.length c5,.slice p7 a1.B.length c8,.slice p10 a1.On.length c11]] I (fun _=>o4_ Q):=by
 refine Fun.enter func134 r ntmps134 r (.c (.c .n)) fun w0 M=>?_
 refine .sr (.boxA r r r fun i=>?_)
 refine .boxA r r r fun j=>?_
 refine .ks 1 r (.nilS [3,2] r r (.sr (.fa un42 r sz3 r (o:=0) r r r (.load1 ia3 r .z r r r (.ks 2 r ?_)))))
 refine splitP hd (fun a hd=>?_) fun a hd=>?_
 · rw [a]
   refine .gyes r r r (.fa un42 r sz3 r (o:=1) r r r (.gyes r r r (.load1 ia3 r .z r r r (.gyes r r r (.fa un49 r sz3 r (o:=1) r r r (.gyes r r r (.load1 ia3 r (.s .z) r r r (.ks 3 r ?_))))))))
   refine splitP hd (fun b hd=>?_) fun b hd=>?_
   · rw [b]
     refine .gyes r r r (.fa un42 r sz30 r (o:=2) r r r (.gyes r r r (.load1 ia30 r .z r r r (.gyes r r r (.len un30 r r r r (.gyes r r r (.fa un49 r sz3 r (o:=1) r r r (.gyes r r r (.load1 ia3 r (.s .z) r r r (.ks 3 r ?_))))))))))
     refine splitP hd (fun d hd=>?_) fun d hd=>?_
     · rw [d]
       refine .gyes r r r (.fa un42 r sz30 r (o:=3) r r r (.gyes r r r (.load1 ia30 r .z r r r (.gyes r r r (.len un30 r r r r (.gyes r r r (.fa un49 r sz3 r (o:=1) r r r (.gyes r r r (.load1 ia3 r (.s .z) r r r (.ks 3 r ?_))))))))))
       refine splitP hd (fun e hd=>?_) fun e hd=>?_
       · rw [e]
         refine .gyes r r r (.fa un42 r sz40 r (o:=4) r r r (.gyes r r r (.load1 ia40 r .z r r r (.gyes r r r (.fa un49 r sz3 r (o:=1) r r r (.gyes r r r (.load1 ia3 r (.s .z) r r r ?_)))))))
         have f:=W_flags_Right (I:=I) R12 hd
         refine .gyes r r r (.callP call170 r f r r fun k g=>?_)
         obtain ⟨h,rfl,hd⟩:=g
         exact .ks 2 r (.nilS [4] r r (.drop .z (.drop .z (.ret (pret results134 (.t r .n) (.refl _) ⟨h,r,hd⟩)))))
       rw [e]
       exact .ks 7 r (.nilS [4] r r (.drop .z (.drop .z (.ret (pret results134 (.t r .n) (.refl _) ⟨false,r,hd⟩)))))
     rw [d]
     exact .ks 15 r (.nilS [4] r r (.drop .z (.drop .z (.ret (pret results134 (.t r .n) (.refl _) ⟨false,r,hd⟩)))))
   rw [b]
   exact .ks 23 r (.nilS [4] r r (.drop .z (.drop .z (.ret (pret results134 (.t r .n) (.refl _) ⟨false,r,hd⟩)))))
 rw [a]
 exact .ks 30 r (.nilS [4] r r (.drop .z (.drop .z (.ret (pret results134 (.t r .n) (.refl _) ⟨false,r,hd⟩)))))
theorem W_vertex_wrong_1_7a4 {I:IH} {o0:Plan} {a0:Edge} {b2:Nat} {p3:Option Addr} {c4:Nat} {Q:Bool→Prop} (R5:RepSl eI64 I p3 c4 o0.Draws) (hd:vertex_wrong_1_7a4 o0 a0 Q) :
  Fun prog 136 #[.agg (encEdge a0).toArray,.pointer (some ⟨b2,0,none⟩)] I [pto b2 (.cells #[.int .i64 o0.Kind,.int .i64 o0.N,.int .i64 o0.Source,.int .i64 o0.Length,.slice p3 o0.Draws.length c4] 49 (0,0))] (fun I_ v l=>∃ r,v=.bool r∧l=[pto b2 (.cells #[.int .i64 o0.Kind,.int .i64 o0.N,.int .i64 o0.Source,.int .i64 o0.Length,.slice p3 o0.Draws.length c4] 49 (0,0))]∧Q r):=by
 refine Fun.enter (vs:=[.agg (encEdge a0).toArray,.pointer (some ⟨b2,0,none⟩)]) func136 r ntmps136 r (.c (.c .n)) fun w0 M=>?_
 refine .sr (.boxA r r r fun b=>?_)
 refine .ks 1 r (.nilS [2,1] r r (.sr (.fa un27 r sz3 r (o:=0) r r r (.load1 ia3 r .z r r r (.fa un27 r sz3 r (o:=1) r r r (.load1 ia3 r .z r r r (.minI r r r r (.ks 2 r ?_))))))))
 refine splitP hd (fun a hd=>?_) fun a hd=>?_
 · rw [a]
   exact .ks 10 r (.nilS [3,1] r r (.drop .z (.ret (oret results136 (.t r .n) (.refl _) (.c .z .n) ⟨true,r,r,hd⟩))))
 rw [a]
 refine .gyes r r r (.fa un27 r sz3 r (o:=0) r r r (.gyes r r r (.load1 ia3 r .z r r r (.gyes r r r (.fa un27 r sz3 r (o:=1) r r r (.gyes r r r (.load1 ia3 r .z r r r (.gyes r r r (.maxI r r r r (.gyes r r r (.fa un49 r sz3 r (o:=1) r r r (.gyes r r r (.load1 ia3 r (.s .z) r r r (.ks 3 r (.nilS [3,1] r r (.drop .z ?_))))))))))))))))
 exact .ret (oret results136 (.t r .n) (.refl _) (.c .z .n) ⟨(decide (o0.N≤(if a0.To > a0.From then a0.To else a0.From))),r,r,hd⟩)
theorem W_slices_IndexFunc_api_Edge_api_Edge_0b4 {I:IH} {o0:Plan} {a0:List Edge} {b2:Nat} {p3:Option Addr} {c4:Nat} {p6:Option Addr} {c7:Nat} {Q:Int→Prop} (R5:RepSl eI64 I p3 c4 o0.Draws) (R8:RepSl eEdge I p6 c7 a0) (hd:slices_IndexFunc_api_Edge_api_Edge_0b4 o0 a0 Q) :
  Fun prog 206 #[.slice p6 a0.length c7,.func (.func 136) #[] #[.pointer (some ⟨b2,0,none⟩)]] I [pto b2 (.cells #[.int .i64 o0.Kind,.int .i64 o0.N,.int .i64 o0.Source,.int .i64 o0.Length,.slice p3 o0.Draws.length c4] 49 (0,0))] (fun I_ v l=>∃ r,v=.int .i64 r∧l=[pto b2 (.cells #[.int .i64 o0.Kind,.int .i64 o0.N,.int .i64 o0.Source,.int .i64 o0.Length,.slice p3 o0.Draws.length c4] 49 (0,0))]∧Q r):=by
 refine Fun.enter (vs:=[.slice p6 a0.length c7,.func (.func 136) #[] #[.pointer (some ⟨b2,0,none⟩)]]) func206 r ntmps206 r (.c (.c .n)) fun w0 M=>?_
 refine .sr (.ks 1 r (.nilS [1,0] r r (.seq (.sr (.ks 1 r (.len un22 r r r r (.ks 1 r (.nilS [8,7,1,0] r r (.block ?_)))))))))
 refine .loop hd (fun (e:Int) c w=>∃ I_,IH.le I I_∧Ok ⟨19,[],none⟩ [(0,.slice p6 a0.length c7),(1,.func (.func 136) #[] #[.pointer (some ⟨b2,0,none⟩)]),(7,.int .i64 (a0.length:Int)),(8,.int .i64 e)] c∧Sym w0 M I I_ [pto b2 (.cells #[.int .i64 o0.Kind,.int .i64 o0.N,.int .i64 o0.Source,.int .i64 o0.Length,.slice p3 o0.Draws.length c4] 49 (0,0))] w) (fun c w ho hs=>⟨I,(.refl _),ho.sub ⟨r,r,r,r,trivial⟩,hs.pick (.c .z .n)⟩) ?_
 rintro e p hd c w hst
 obtain ⟨q,a,hok,hsym⟩:=hst
 replace R5:=R5.mono a
 replace R8:=R8.mono a
 refine Cod.at hok hsym (.sr (.ks 1 r (.nilS [9,8,7,1,0] r r (.seq (.condP r hd (fun i hd=>?_) fun i hd=>?_)))))
 · refine .skipS [8,7,1,0] r r (.seq (.block (.sr (.ks 2 r (.nilS [5,8,7,1,0] r r (.sr (.ks 3 r ?_)))))))
   obtain ⟨h,s,f,hd⟩:=hd
   obtain ⟨A,o60,y,u,d,j⟩:=R8.2 _ _ f
   cases j
   refine .ixa un22 sz27 r u r h (idx_lt f h) r r (.ldW ia27 sz27 d r r r r ?_)
   have k:=W_vertex_wrong_1_7a4 (I:=q) (o0:=o0) (a0:=s) (b2:=b2) (p3:=p3) (c4:=c4) R5 hd
   refine .callS (.c call136 r r) (.c .z .n) k r r fun B x C b m=>?_
   obtain ⟨D,rfl,rfl,hd⟩:=m
   have g:=IH.le.trans a b
   replace R5:=R5.mono b
   replace R8:=R8.mono b
   replace d:=d.mono b
   refine .re (m':=[pto b2 (.cells #[.int .i64 o0.Kind,.int .i64 o0.N,.int .i64 o0.Source,.int .i64 o0.Length,.slice p3 o0.Draws.length c4] 49 (0,0))]) r (.nilS [16,5,8,7,1,0] r r (.condP r hd (fun o hd=>?_) fun o hd=>?_))
   · exact .sr (.ks 2 r (.nilS [4,1] r r (.ret (oret results206 (.t r .n) g (.c .z .n) ⟨e,r,r,hd⟩))))
   exact .skipS [8,7,1,0] r r (.region (.ks 2 r (.nil' fun c w ho hs=>⟨(w64 (e+1)),hd,x,g,ho.sub ⟨r,r,r,r,trivial⟩,hs.pick (.c .z .n)⟩)))
 exact .exitS [1] r r (.sr (.ks 1 r (.nilS [4,1] r r (.ret (oret results206 (.t r .n) a (.c .z .n) ⟨(-1),r,r,hd⟩)))))
theorem W_slices_ContainsFunc_api_Edge_api_Edge_64d {I:IH} {o0:Plan} {a0:List Edge} {b2:Nat} {p3:Option Addr} {c4:Nat} {p6:Option Addr} {c7:Nat} {Q:Bool→Prop} (R5:RepSl eI64 I p3 c4 o0.Draws) (R8:RepSl eEdge I p6 c7 a0) (hd:slices_ContainsFunc_api_Edge_api_Edge_64d o0 a0 Q) :
  Fun prog 135 #[.slice p6 a0.length c7,.func (.func 136) #[] #[.pointer (some ⟨b2,0,none⟩)]] I [pto b2 (.cells #[.int .i64 o0.Kind,.int .i64 o0.N,.int .i64 o0.Source,.int .i64 o0.Length,.slice p3 o0.Draws.length c4] 49 (0,0))] (fun I_ v l=>∃ r,v=.bool r∧l=[pto b2 (.cells #[.int .i64 o0.Kind,.int .i64 o0.N,.int .i64 o0.Source,.int .i64 o0.Length,.slice p3 o0.Draws.length c4] 49 (0,0))]∧Q r):=by
 refine Fun.enter (vs:=[.slice p6 a0.length c7,.func (.func 136) #[] #[.pointer (some ⟨b2,0,none⟩)]]) func135 r ntmps135 r (.c (.c .n)) fun w0 M=>?_
 refine .sr (.ks 1 r (.nilS [1,0] r r (.sr (.ks 2 r ?_))))
 have d:=W_slices_IndexFunc_api_Edge_api_Edge_0b4 (I:=I) (o0:=o0) (a0:=a0) (b2:=b2) (p3:=p3) (c4:=c4) R5 R8 hd
 refine .callS (.f call206 r) (.c .z .n) d r r fun g h i a b=>?_
 obtain ⟨e,rfl,rfl,hd⟩:=b
 replace R5:=R5.mono a
 replace R8:=R8.mono a
 exact .re (m':=[pto b2 (.cells #[.int .i64 o0.Kind,.int .i64 o0.N,.int .i64 o0.Source,.int .i64 o0.Length,.slice p3 o0.Draws.length c4] 49 (0,0))]) r (.ks 2 r (.nilS [4,1] r r (.ret (oret results135 (.t r .n) a (.c .z .n) ⟨(decide (0≤e)),r,r,hd⟩))))
theorem W_vertex_wrong {I:IH} {a0:Plan} {a1:List Edge} {a2:State} {p1:Option Addr} {c2:Nat} {p4:Option Addr} {c5:Nat} {p7:Option Addr} {c8:Nat} {p10:Option Addr} {c11:Nat} {p13:Option Addr} {c14:Nat} {Q:Int→Prop} (R3:RepSl eI64 I p1 c2 a0.Draws) (R6:RepSl eEdge I p4 c5 a1) (R9:RepSl eI64 I p7 c8 a2.A) (R12:RepSl eI64 I p10 c11 a2.B) (R15:RepSl eU64 I p13 c14 a2.On) (hd:vertex_wrong a0 a1 a2 Q) :
  PFun prog 69 [.agg #[.int .i64 a0.Kind,.int .i64 a0.N,.int .i64 a0.Source,.int .i64 a0.Length,.slice p1 a0.Draws.length c2],.slice p4 a1.length c5,.agg #[.int .i64 a2.Low,.int .i64 a2.High,.slice p7 a2.A.length c8,.slice p10 a2.B.length c11,.slice p13 a2.On.length c14]] I (fun _=>o0_ Q):=by
 refine Fun.enter func69 r ntmps69 r (.c (.c (.c .n))) fun w0 M=>?_
 refine .sr (.boxA r r r fun b=>?_)
 refine .boxA r r r fun p=>?_
 refine .ks 1 r (.nilS [5,3,1] r r (.seq (.sr (.loadW ia49 sz49 r (.s .z) r r r ?_))))
 have d:=W_prog_Right (I:=I) R3 hd
 refine .callP call95 r d r r fun q e=>?_
 obtain ⟨o,rfl,hd⟩:=e
 refine .ks 1 r (.nilS [7,5,3,1] r r (.sr (.ks 2 r (.nilS [11,7,5,3,1] r r (.condP r hd (fun g hd=>?_) fun g hd=>?_)))))
 · exact .sr (.ks 2 r (.nilS [6] r r (.drop .z (.drop .z (.ret (pret results69 (.t r .n) (.refl _) ⟨o,r,hd⟩))))))
 refine .skipS [5,3,1] r r (.seq (.sr (.loadW ia49 sz49 r (.s .z) r r r (.loadW ia42 sz42 r .z r r r ?_))))
 have h:=W_vertex_whole (I:=I) R3 R9 R12 R15 hd
 refine .callP call134 r h r r fun u i=>?_
 obtain ⟨v,rfl,hd⟩:=i
 refine .ks 1 r (.nilS [16,3,1] r r (.drop .z (.condP r hd (fun j hd=>?_) fun j hd=>?_)))
 · exact .sr (.ks 1 r (.nilS [6] r r (.drop .z (.ret (pret results69 (.t r .n) (.refl _) ⟨4,r,hd⟩)))))
 refine .skipS [3,1] r r (.seq (.sr (.ks 1 r (.mkFn r r r r ?_))))
 have k:=W_slices_ContainsFunc_api_Edge_api_Edge_64d (I:=I) (o0:=a0) (a0:=a1) (b2:=b) (p3:=p1) (c4:=c2) R3 R6 hd
 refine .callS (.f call135 r) (.c .z .n) k r r fun w x y a l=>?_
 obtain ⟨C,rfl,rfl,hd⟩:=l
 replace R3:=R3.mono a
 replace R6:=R6.mono a
 refine .re (m':=[pto b (.cells #[.int .i64 a0.Kind,.int .i64 a0.N,.int .i64 a0.Source,.int .i64 a0.Length,.slice p1 a0.Draws.length c2] 49 (0,0))]) r (.nilS [19] r r (.drop .z (.condP r hd (fun m hd=>?_) fun m hd=>?_)))
 · exact .sr (.ks 1 r (.nilS [6] r r (.ret (pret results69 (.t r .n) a ⟨3,r,hd⟩))))
 exact .skipS [] r r (.sr (.ks 1 r (.nilS [6] r r (.ret (pret results69 (.t r .n) a ⟨0,r,hd⟩)))))
theorem W_vertex_letters_c5d {I:IH} {a0:Plan} {a1:List Edge} {a2:State} {a3:Int} {p1:Option Addr} {c2:Nat} {p4:Option Addr} {c5:Nat} {p7:Option Addr} {c8:Nat} {p10:Option Addr} {c11:Nat} {p13:Option Addr} {c14:Nat} {Q:((List Edge)×(List (Int×Int))×Int)→Prop} (R3:RepSl eI64 I p1 c2 a0.Draws) (R6:RepSl eEdge I p4 c5 a1) (R9:RepSl eI64 I p7 c8 a2.A) (R12:RepSl eI64 I p10 c11 a2.B) (R15:RepSl eU64 I p13 c14 a2.On) (hd:vertex_letters_c5d a0 a1 a2 a3 Q) :
  Fun prog 70 #[.agg #[.int .i64 a0.Kind,.int .i64 a0.N,.int .i64 a0.Source,.int .i64 a0.Length,.slice p1 a0.Draws.length c2],.slice p4 a1.length c5,.agg #[.int .i64 a2.Low,.int .i64 a2.High,.slice p7 a2.A.length c8,.slice p10 a2.B.length c11,.slice p13 a2.On.length c14],.int .i64 a3] I [] (fun I_ v l=>∃ r b16 p17 c18 b20 b22 b23,v=.func (.func 137) #[] #[.pointer (some ⟨b16,0,none⟩),.pointer (some ⟨b20,0,none⟩),.pointer (some ⟨b23,0,none⟩)]∧RepSl eEdge I_ p17 c18 r.1∧l=[pto b16 (.cells #[.slice p17 r.1.length c18] 22 (0,0)),pto b20 (.cells #[.map (some b22)] 192 (0,0)),OwnMap (Value.int .i64) eI64 false b22 r.2.1,pto b23 (.cells #[.int .i64 r.2.2] 37 (0,0))]∧Q r):=by
 refine Fun.enter (vs:=[.agg #[.int .i64 a0.Kind,.int .i64 a0.N,.int .i64 a0.Source,.int .i64 a0.Length,.slice p1 a0.Draws.length c2],.slice p4 a1.length c5,.agg #[.int .i64 a2.Low,.int .i64 a2.High,.slice p7 a2.A.length c8,.slice p10 a2.B.length c11,.slice p13 a2.On.length c14],.int .i64 a3]) func70 r ntmps70 r (.c (.c (.c (.c .n)))) fun w0 M=>?_
 refine .sr (.boxA r r r fun b22=>?_)
 refine .box1 r r r r fun G=>?_
 refine .boxA r r r fun Y=>?_
 refine .ks 1 r (.nilS [6,5,4,3] r r (.sr (.mkMap (Value.int .i64) eI64 false r r fun H=>?_)))
 refine .alloc1 zeroValue192 r r r fun J=>?_
 refine .store1 sizeOf192 r r .z (.t .nil) r (.nilS [9,6,5,4,3] r r (.seq (.sr (.loadW ia49 sz49 r (.s (.s (.s (.s .z)))) r r r (.loadW ia42 sz42 r (.s (.s .z)) r r r (.ks 1 r ?_))))))
 have q:=W_prog_Out (I:=I) R3 R9 R12 R15 hd
 refine .call call99 r q r r fun T i a u=>?_
 obtain ⟨j,K,L,rfl,f,hd⟩:=u
 replace R3:=R3.mono a
 replace R6:=R6.mono a
 replace R9:=R9.mono a
 replace R12:=R12.mono a
 replace R15:=R15.mono a
 refine .field1 un54 r ia52 r r r r (.len un52 r r r r (.ks 1 r (.nilS [20,19,18,9,5,4,3] r r (.drop (.s (.s .z)) (.block (.loop hd (fun (s:(List (Int×Int))×Int) c w=>match s with | (e,g)=>∃ I_,IH.le i I_∧Ok ⟨35,[],none⟩ [(3,.int .i64 a3),(4,.pointer (some ⟨b22,0,none⟩)),(5,.pointer (some ⟨G,0,none⟩)),(9,.pointer (some ⟨J,0,none⟩)),(18,.slice K j.Items.length L),(19,.int .i64 (j.Items.length:Int)),(20,.int .i64 g)] c∧Sym w0 M I I_ [pto b22 (.cells #[.int .i64 a0.Kind,.int .i64 a0.N,.int .i64 a0.Source,.int .i64 a0.Length,.slice p1 a0.Draws.length c2] 49 (0,0)),pto G (.cells #[.slice p4 a1.length c5] 22 (0,0)),pto J (.cells #[.map (some H)] 192 (0,0)),OwnMap (Value.int .i64) eI64 false H e] w) (fun c w ho hs=>⟨i,(.refl _),ho.sub ⟨r,r,r,r,r,r,r,trivial⟩,hs.pick (.c (.s (.s (.s .z))) (.c (.s (.s .z)) (.c .z (.c .z .n))))⟩) ?_))))))
 rintro ⟨e,g⟩ R hd c w hst
 obtain ⟨m,b,hok,hsym⟩:=hst
 have x:=IH.le.trans a b
 replace R3:=R3.mono b
 replace R6:=R6.mono b
 replace f:=f.mono b
 refine Cod.at hok hsym (.sr (.ks 1 r (.nilS [21,20,19,18,9,5,4,3] r r (.seq (.condP r hd (fun y hd=>?_) fun y hd=>?_)))))
 · refine .skipS [20,19,18,9,5,4,3] r r (.seq (.block (.sr ?_)))
   obtain ⟨p,d,h,hd⟩:=hd
   obtain ⟨U,o171,S,O,C,D⟩:=f.2 _ _ h
   cases D
   refine .ixa un52 sz51 r O r p (idx_lt h p) r r (.ldW isAgg51 sz51 C r r r r (.allocA zv51 r r fun V=>?_))
   refine .storeA sz51 r r .z (.t (.t .nil)) r r (.nilS [11,20,19,18,9,5,4,3] r r (.region (.load1 isAgg192 r (.s (.s (.s .z))) r r r (.fa un51 r sz3 r (o:=0) r r r (.load1 ia3 r .z r r r (.fa un51 r sz2 r (o:=1) r r r (.load1 ia2 r .z r r r (.updM (k:=d.At) (El:=eI64) (ag:=false) (v:=d.Val) (keyInt un3) underlying192 (.s (.s (.s (.s .z)))) r r r ⟨[.int .i64 d.Val],r,.s⟩ (.nilS [20,19,18,9,5,4,3] r r ?_)))))))))
   exact .drop .z (.region (.ks 2 r (.nil' fun c w ho hs=>⟨((mput d.At d.Val e),w64 (g+1)),hd,m,b,ho.sub ⟨r,r,r,r,r,r,r,trivial⟩,hs.pick (.c .z (.c .z (.c .z (.c .z .n))))⟩)))
 refine .exitS [9,5,4,3] r r (.sr (.fa un49 r sz47 r (o:=0) r r r (.load1 ia47 r .z r r r (.ks 1 r ?_))))
 have E:=W_prog_Ring (I:=m) hd
 refine .callP call76 r E r r fun W F=>?_
 obtain ⟨P,rfl,hd⟩:=F
 refine .alloc1 zeroValue37 r r r fun X=>?_
 exact .store1 sizeOf37 r r .z (.t .nil) r (.nilS [12,9,5] r r (.drop (.s .z) (.sr (.mkFn r r r r (.ks 1 r (.nilS [8] r r (.ret (oret results70 (.t r .n) x (.c (.s .z) (.c (.s .z) (.c (.s .z) (.c .z .n)))) ⟨(a1,e,P),_,_,_,_,_,_,r,R6,r,hd⟩))))))))
theorem W_vertex_letters_1_4e8 {I:IH} {o0:Nat} {o1:List (List Wide)} {o2:List Edge} {o3:List (Int×Int)} {o4:Int} {Y:Nat→(List (List Wide))→Int→Wide→((Bool×Nat×(List (List Wide)))→Prop)→Prop} {b6:Nat} {p7:Option Addr} {c8:Nat} {b11:Nat} {p12:Option Addr} {c13:Nat} {b15:Nat} {b17:Nat} {b18:Nat} {lr:Nat} {Rr:Nat→HA} {Q:(Nat×(List (List Wide)))→Prop} (hY:∀ {J_:IH},I.le J_→∀ {y19:Nat} {y20:List (List Wide)} {x26:Int} {x27:Wide} {p22:Option Addr} {c23:Nat} {Qy:(Bool×Nat×(List (List Wide)))→Prop},Y y19 y20 x26 x27 Qy→RFun prog lr [.int .i64 x26,.agg (encWide x27).toArray] J_ [Rr y19,pto b6 (.cells #[.slice p22 y20.length c23] 74 (0,0)),OwnNest eWide 127 78 p22 c23 y20] (fun I_ v l=>∃ r p29 c30,v=.bool r.1∧l=[Rr r.2.1,pto b6 (.cells #[.slice p29 r.2.2.length c30] 74 (0,0)),OwnNest eWide 127 78 p29 c30 r.2.2]∧Qy r)) (R14:RepSl eEdge I p12 c13 o2) (hd:vertex_letters_1_4e8 o0 o1 o2 o3 o4 Y Q) :
  Fun prog 137 #[.func (.yield lr) #[] #[],.pointer (some ⟨b11,0,none⟩),.pointer (some ⟨b15,0,none⟩),.pointer (some ⟨b18,0,none⟩)] I [Rr o0,pto b6 (.cells #[.slice p7 o1.length c8] 74 (0,0)),OwnNest eWide 127 78 p7 c8 o1,pto b11 (.cells #[.slice p12 o2.length c13] 22 (0,0)),pto b15 (.cells #[.map (some b17)] 192 (0,0)),OwnMap (Value.int .i64) eI64 false b17 o3,pto b18 (.cells #[.int .i64 o4] 37 (0,0))] (fun I_ v l=>∃ r p20 c21,v=.tuple #[]∧l=[Rr r.1,pto b6 (.cells #[.slice p20 r.2.length c21] 74 (0,0)),OwnNest eWide 127 78 p20 c21 r.2,pto b11 (.cells #[.slice p12 o2.length c13] 22 (0,0)),pto b15 (.cells #[.map (some b17)] 192 (0,0)),OwnMap (Value.int .i64) eI64 false b17 o3,pto b18 (.cells #[.int .i64 o4] 37 (0,0))]∧Q r):=by
 refine Fun.enter (vs:=[.func (.yield lr) #[] #[],.pointer (some ⟨b11,0,none⟩),.pointer (some ⟨b15,0,none⟩),.pointer (some ⟨b18,0,none⟩)]) func137 r ntmps137 r (.c (.c (.c (.c .n)))) fun w0 M=>?_
 refine .sr (.load1 ia22 r (.s (.s (.s .z))) r r r (.len un22 r r r r (.ks 1 r (.nilS [11,10,9,3,2,1,0] r r (.block (.loop hd (fun (s:(List (List Wide))×Int×Nat) c w=>match s with | (e,i,f)=>∃ I_ j m,IH.le I I_∧Ok ⟨36,[],none⟩ [(0,.func (.yield lr) #[] #[]),(1,.pointer (some ⟨b11,0,none⟩)),(2,.pointer (some ⟨b15,0,none⟩)),(3,.pointer (some ⟨b18,0,none⟩)),(9,.slice p12 o2.length c13),(10,.int .i64 (o2.length:Int)),(11,.int .i64 i)] c∧Sym w0 M I I_ [pto b6 (.cells #[.slice j e.length m] 74 (0,0)),OwnNest eWide 127 78 j m e,pto b11 (.cells #[.slice p12 o2.length c13] 22 (0,0)),pto b15 (.cells #[.map (some b17)] 192 (0,0)),OwnMap (Value.int .i64) eI64 false b17 o3,pto b18 (.cells #[.int .i64 o4] 37 (0,0)),Rr f] w) (fun c w ho hs=>⟨I,_,_,(.refl _),ho.sub ⟨r,r,r,r,r,r,r,trivial⟩,hs.pick (.c (.s .z) (.c (.s .z) (.c (.s .z) (.c (.s .z) (.c (.s .z) (.c (.s .z) (.c .z .n)))))))⟩) ?_))))))
 rintro ⟨e,i,f⟩ T hd c w hst
 obtain ⟨p,j,m,d,hok,hsym⟩:=hst
 replace R14:=R14.mono d
 refine Cod.at hok hsym (.sr (.ks 1 r (.nilS [12,11,10,9,3,2,1,0] r r (.seq (.condP r hd (fun C hd=>?_) fun C hd=>?_)))))
 · refine .skipS [11,10,9,3,2,1,0] r r (.seq (.block (.sr ?_)))
   obtain ⟨y,h,q,hd⟩:=hd
   obtain ⟨X,o184,U,O,D,E⟩:=R14.2 _ _ q
   cases E
   refine .ixa un22 sz27 r O r y (idx_lt q y) r r (.ldW ia27 sz27 D r r r r (.allocA zv27 r r fun P=>?_))
   refine .storeA sz27 r r .z (.t (.t (.t .nil))) r r (.nilS [6,11,10,9,3,2,1,0] r r (.sr (.load1 isAgg192 r (.s (.s (.s (.s .z)))) r r r (.fa un27 r sz3 r (o:=0) r r r (.load1 ia3 r .z r r r (.lookM2 (k:=h.From) (El:=eI64) (ag:=false) (zv:=.int .i64 0) (z:=0) (keyInt un3) underlying192 zv2 ⟨[.int .i64 0],r,.s⟩ (.s (.s (.s (.s (.s .z))))) r r hd r r fun Z a0 a1 V hd F G=>?_))))))
   cases F
   cases G
   refine .ks 5 r (.nilS [8,7,6,11,10,9,3,2,1,0] r r (.seq (.dr [0,1,2,3,4,5,6,7,8,9,10,11,12] 13 (.fk 2 r ?_))))
   refine splitP hd (fun a hd=>?_) fun a hd=>?_
   · refine .g r r r (fun _=>.gyes r r a (.move r r r .mk)) (.g r r r (fun _=>.gyes r r a (.fa un27 r sz3 r (o:=1) r r r .mk)) (.g r r r (fun _=>.gyes r r a (.load1 ia3 r .z r r r .mk)) (.g r r r (fun _=>.gyes r r a (.load1 isAgg37 r (.s (.s (.s (.s (.s (.s .z)))))) r r r .mk)) (.g r r r (fun _=>.gyes r r a (.fa un27 r sz2 r (o:=2) r r r .mk)) (.g r r r (fun _=>.gyes r r a (.load1 ia2 r .z r r r .mk)) (.g r r r (fun _=>.gyes r r a (.move r r r .mk)) (.ww r fun ex=>?_)))))))
     have H:=W_ring_Mul (I:=p) hd
     refine .gyes r r a (.callP call138 r H r r fun a2 J=>?_)
     obtain ⟨R,rfl,hd⟩:=J
     refine .so 8 r r r (.cg r r r r (fun _=>.gyes r r a (.load1 ia3 r .z r r r .mk)) (.cg r r r r (fun _=>.gyes r r a (.fa un27 r sz3 r (o:=1) r r r .mk)) (.cg r r r r (fun _=>.gyes r r a (.move r r r .mk)) trivial))) (.ww r fun ex=>?_)
     have K:=hY (J_:=p) d (y19:=f) (y20:=e) (x26:=h.To) (x27:=R) (p22:=j) (c23:=m) hd
     refine .gyes r r a (.callY r r (.c (.s (.s (.s (.s (.s (.s (.s .z))))))) (.c (.s .z) (.c (.s .z) .n))) K r r fun a3 S a4 u L=>?_)
     obtain ⟨b,A,B,rfl,rfl,hd⟩:=L
     have x:=IH.le.trans d u
     replace R14:=R14.mono u
     refine .re (m':=(Rr b.2.1) :: (pto b6 (.cells #[.slice A b.2.2.length B] 74 (0,0))) :: (OwnNest eWide 127 78 A B b.2.2) :: (pto P (.cells #[.int .i64 h.From,.int .i64 h.To,.int .i64 h.W] 27 (0,0))) :: (pto b11 (.cells #[.slice p12 o2.length c13] 22 (0,0))) :: (pto b15 (.cells #[.map (some b17)] 192 (0,0))) :: (OwnMap (Value.int .i64) eI64 false b17 o3) :: (pto b18 (.cells #[.int .i64 o4] 37 (0,0))) :: ex) r (.so 8 r r r trivial (.g r r r (fun _=>.gyes r r a (.not r r r .mk)) (.g r r r (fun _=>.pickT r a r r r .mk) (.e2 13 (.nilS [34,11,10,9,3,2,1,0] r r (.drop (.s (.s (.s .z))) (.condP r hd (fun N hd=>?_) fun N hd=>?_)))))))
     · exact .ret (oret results137 .n x (.c .z (.c .z (.c .z (.c .z (.c .z (.c .z (.c .z .n))))))) ⟨(b.2.1,b.2.2),_,_,r,r,hd⟩)
     exact .skipS [11,10,9,3,2,1,0] r r (.region (.ks 2 r (.nil' fun c w ho hs=>⟨(b.2.2,w64 (i+1),b.2.1),hd,S,_,_,x,ho.sub ⟨r,r,r,r,r,r,r,trivial⟩,hs.pick (.c (.s .z) (.c (.s .z) (.c (.s .z) (.c (.s .z) (.c (.s .z) (.c (.s .z) (.c .z .n)))))))⟩)))
   refine .g r r r (fun _=>.gno r r a r r .mk) (.g r r r (fun _=>.gno r r a r r .mk) (.g r r r (fun _=>.gno r r a r r .mk) (.g r r r (fun _=>.gno r r a r r .mk) (.g r r r (fun _=>.gno r r a r r .mk) (.g r r r (fun _=>.gno r r a r r .mk) (.g r r r (fun _=>.gno r r a r r .mk) (.g r r r (fun _=>.gno r r a r r .mk) (.g r r r (fun _=>.gno r r a r r .mk) (.g r r r (fun _=>.gno r r a r r .mk) ?_)))))))))
   exact .g r r r (fun _=>.pickF r a r r r .mk) (.e2 13 (.nilS [34,11,10,9,3,2,1,0] r r (.drop .z (.condKF r r (.skipS [11,10,9,3,2,1,0] r r (.region (.ks 2 r (.nil' fun c w ho hs=>⟨(e,w64 (i+1),f),hd,p,_,_,d,ho.sub ⟨r,r,r,r,r,r,r,trivial⟩,hs.pick (.c .z (.c .z (.c .z (.c .z (.c .z (.c .z (.c .z .n)))))))⟩))))))))
 exact .exit (oretN results137 .n d (.c (.s (.s (.s (.s (.s (.s .z)))))) (.c .z (.c .z (.c .z (.c .z (.c .z (.c .z .n))))))) ⟨(f,e),_,_,r,r,hd⟩)
theorem W_vertex_Mail {I:IH} {a0:Plan} {a1:List Edge} {a2:State} {a3:Int} {p1:Option Addr} {c2:Nat} {p4:Option Addr} {c5:Nat} {p7:Option Addr} {c8:Nat} {p10:Option Addr} {c11:Nat} {p13:Option Addr} {c14:Nat} {Q:((List (List Wide))×Int)→Prop} (R3:RepSl eI64 I p1 c2 a0.Draws) (R6:RepSl eEdge I p4 c5 a1) (R9:RepSl eI64 I p7 c8 a2.A) (R12:RepSl eI64 I p10 c11 a2.B) (R15:RepSl eU64 I p13 c14 a2.On) (hd:vertex_Mail a0 a1 a2 a3 Q) :
  PFun prog 30 [.agg #[.int .i64 a0.Kind,.int .i64 a0.N,.int .i64 a0.Source,.int .i64 a0.Length,.slice p1 a0.Draws.length c2],.slice p4 a1.length c5,.agg #[.int .i64 a2.Low,.int .i64 a2.High,.slice p7 a2.A.length c8,.slice p10 a2.B.length c11,.slice p13 a2.On.length c14],.int .i64 a3] I (o26_ Q):=by
 refine Fun.enter func30 r ntmps30 r (.c (.c (.c (.c .n)))) fun w0 M=>?_
 refine .marks0 (.sr (.boxA r r r fun b1=>?_))
 refine .boxA r r r fun b2=>?_
 refine .ks 2 r (.nilS [6,4,3,1] r r (.seq (.sr (.loadW ia49 sz49 r (.s .z) r r r (.ks 1 r (.loadW ia42 sz42 r .z r r r ?_))))))
 have a4:=W_vertex_wrong (I:=I) R3 R6 R9 R12 R15 hd
 refine .callP call69 r a4 r r fun d7 a5=>?_
 obtain ⟨b3,rfl,hd⟩:=a5
 refine .ks 1 r (.nilS [10,6,4,3,1] r r (.sr (.ks 2 r (.nilS [19,10,6,4,3,1] r r (.condP r hd (fun a6 hd=>?_) fun a6 hd=>?_)))))
 · exact .sr (.ks 3 r (.nilS [9,8] r r (.drop .z (.drop .z (.ret (pretM .z results30 (.t r (.t r .n)) (.refl _) ⟨(([]:List (List Wide)),b3),_,_,r,(.nil _ _ _),hd⟩))))))
 refine .skipS [6,4,3,1] r r (.sr (.fa un49 r sz3 r (o:=1) r r r (.load1 ia3 r (.s .z) r r r ?_)))
 obtain ⟨b4,b5,hd⟩:=hd
 refine .make (El:=hdEl) (zv:=(none,0,0)) 24 un74 IN78 r r r r r r b4 b5 r r r fun F=>?_
 refine .toNest eWide 127 .z (.sub (E':=[(1,_),(3,_),(4,_),(6,_),(21,_),(22,_),(23,.slice (some ⟨F,0,none⟩) (List.replicate a0.N.toNat ([]:List Wide)).length a0.N.toNat)]) ⟨r,r,r,r,r,r,(by simp only [List.length_replicate]; rfl),trivial⟩ (.alloc1 zeroValue74 r r r fun G=>?_))
 refine .store1 sizeOf74 r r .z (.t .nil) r (.nilS [11,6,4,3,1] r r (.seq (.sr (.loadW ia49 sz49 r (.s (.s (.s .z))) r r r (.ks 1 r (.loadW ia42 sz42 r (.s (.s .z)) r r r (.ks 1 r ?_)))))))
 have a7:=W_vertex_letters_c5d (I:=I) (a0:=a0) (a1:=a1) (a2:=a2) (a3:=a3) R3 R6 R9 R12 R15 hd
 refine .callS (.f call70 r) .n a7 r r fun d8 b7 d9 d a8=>?_
 obtain ⟨a,J,K,L,O,v,P,rfl,x,rfl,hd⟩:=a8
 replace R3:=R3.mono d
 replace R6:=R6.mono d
 replace R9:=R9.mono d
 replace R12:=R12.mono d
 replace R15:=R15.mono d
 refine .re (m':=[pto J (.cells #[.slice K a.1.length L] 22 (0,0)),pto O (.cells #[.map (some v)] 192 (0,0)),OwnMap (Value.int .i64) eI64 false v a.2.1,pto P (.cells #[.int .i64 a.2.2] 37 (0,0)),pto G (.cells #[.slice (some ⟨F,0,none⟩) (List.replicate a0.N.toNat ([]:List Wide)).length a0.N.toNat] 74 (0,0)),OwnNest eWide 127 78 (some ⟨F,0,none⟩) a0.N.toNat (List.replicate a0.N.toNat ([]:List Wide)),pto b2 (.cells #[.int .i64 a2.Low,.int .i64 a2.High,.slice p7 a2.A.length c8,.slice p10 a2.B.length c11,.slice p13 a2.On.length c14] 42 (0,0)),pto b1 (.cells #[.int .i64 a0.Kind,.int .i64 a0.N,.int .i64 a0.Source,.int .i64 a0.Length,.slice p1 a0.Draws.length c2] 49 (0,0)),Marks ([])]) r (.nilS [28,11] r r (.drop (.s (.s (.s (.s (.s (.s .z)))))) (.drop (.s (.s (.s (.s (.s (.s .z)))))) (.block (.rangeF [] r call137 (.c (.s (.s (.s (.s (.s (.s .z)))))) (.c (.s (.s (.s (.s .z)))) (.c (.s (.s (.s (.s .z)))) (.c .z (.c .z (.c .z (.c .z .n))))))) fun lr D rc hrc=>?_)))))
 refine ⟨_,W_vertex_letters_1_4e8 (I:=b7) (lr:=lr) (Rr:=recA lr [] rc) (o0:=0) (o1:=(List.replicate a0.N.toNat ([]:List Wide))) (o2:=a.1) (o3:=a.2.1) (o4:=a.2.2) (b6:=G) (p7:=some ⟨F,0,none⟩) (c8:=a0.N.toNat) (b11:=J) (p12:=K) (c13:=L) (b15:=O) (b17:=v) (b18:=P) ?_ x hd,?_⟩
 · skip
   intro I hJ c0 l m e c1 y Qy  hd
   replace x:=x.mono hJ
   obtain ⟨rfl,hd⟩:=hd
   refine RFun.mk hrc r fun w0 M=>?_
   refine .sr (.ks 1 r (.nilS [12,30,11] r r (.region (.allocA zv127 r r fun c3=>?_))))
   refine .storeA sz127 r r .z (.t (.t .nil)) r r (.nil' fun c w ho hs=>beginR (E':=[(11,_),(12,_),(13,_)]) ho ⟨r,r,r,trivial⟩ hs (.s .z) (.block (.nestN (.s (.s (.s .z))) fun R=>?_)))
   refine .nestX (.s (.s (.s .z))) fun b8 k=>?_
   refine .dr [0,1,2,3,4,5,6,7,8] 9 (.g r r r (fun _=>.load1 isAgg74 r (.s (.s (.s (.s .z)))) r r r .mk) (.fk 1 r (.g r r r (fun _=>.load1 isAgg74 r (.s (.s (.s (.s .z)))) r r r .mk) (.fk 1 r ?_))))
   obtain ⟨p,q,b,hd⟩:=hd
   obtain ⟨C,a9⟩:=R (idx_ne b)
   cases a9
   obtain ⟨c4,c6,h⟩:=k.2 _ _ b
   refine .g r r r (fun _=>.ixa0 un74 sz78 r r p (idx_lt b p) r r .mk) (.g r r r (fun _=>.lo1 (j:=0) isAgg78 .z h r r r r r .mk) (.g r r r (fun _=>.loadW ia127 sz127 r (.s (.s .z)) r r r .mk) (.ww r fun ex=>?_)))
   refine .buildSlice 1 un78 sz127 zv127 r r (.c r r r .n) r r fun c7=>?_
   refine .so 6 r r r (.cg r r r r (fun _=>.lo1 (j:=0) isAgg78 (.s .z) h r r r r r .mk) (.cg r r r r (fun _=>.ixa0 un74 sz78 r r p (idx_lt b p) r r .mk) (.ck 1 r r (.cg r r r r (fun _=>.load1 isAgg74 r (.s (.s (.s (.s (.s .z))))) r r r .mk) (.ck 1 r r (.cg r r r r (fun _=>.load1 isAgg74 r (.s (.s (.s (.s (.s .z))))) r r r .mk) trivial)))))) (.ww r fun ex=>?_)
   refine .nestF (.s (.s .z)) b h ?_
   obtain ⟨V,hd⟩:=hd
   refine .append (ys:=[e]) 16 .z un78 un78 IN127 r r r r r r r r r (.box (.s (.s .z)) (.one r) r) V r r fun c9 d0=>?_
   refine .so 7 r r r (.ck 1 r r (.cg r r r r (fun _=>.load1 isAgg74 r (.s (.s (.s (.s (.s (.s .z)))))) r r r .mk) trivial)) (.e2 9 ?_)
   obtain ⟨S,d1,u,hd⟩:=hd
   obtain ⟨d2,d3,b9⟩:=k.2 _ _ u
   refine .ixa0 un74 sz78 r r S (idx_lt u S) r r (.nestSt sz78 (.s .z) r .z (.s .z) u r r r r (.sub (E':=[(11,_),(12,_),(13,_),(31,.slice (some ⟨C,0,none⟩) (l.set m.toNat (q++([e]))).length y),(32,_),(33,.slice (some ⟨C,0,none⟩) (l.set m.toNat (q++([e]))).length y),(34,_),(35,_),(36,_),(37,_),(38,_),(39,_),(40,_)]) ⟨r,r,r,(by simp only [List.length_set]; rfl),r,(by simp only [List.length_set]; rfl),r,r,r,r,r,r,r,trivial⟩ (.reat (.s (.s (.s (.s .z)))) (B:=pto G (.cells #[.slice (some ⟨C,0,none⟩) (l.set m.toNat (q++([e]))).length y] 74 (0,0))) (by simp only [List.length_set]) ?_)))
   exact .nil' fun c w ho hs=>endR 0 (.inl rfl) (.refl _) (.s (.s (.s .z))) (.c (.s (.s (.s .z))) (.c .z .n)) ⟨(true,0,(l.set m.toNat (q++([e])))),_,_,rfl,rfl,hd⟩ hs
 intro d4 d5 l' H W
 obtain ⟨E,T,U,rfl,rfl,hd⟩:=W
 have X:=IH.le.trans d H
 replace x:=x.mono H
 obtain ⟨hz,hd⟩:=hd
 refine ⟨_,_,r,fun hj=>?_,fun i hj=>absurd (hz.symm.trans hj) (by simp)⟩
 refine .re (m':=[Marks (D :: []),pto G (.cells #[.slice T E.2.length U] 74 (0,0)),OwnNest eWide 127 78 T U E.2,pto J (.cells #[.slice K a.1.length L] 22 (0,0)),pto O (.cells #[.map (some v)] 192 (0,0)),OwnMap (Value.int .i64) eI64 false v a.2.1,pto P (.cells #[.int .i64 a.2.2] 37 (0,0))]) r (.mkS [11] r r (.drop (.s (.s (.s .z))) (.drop (.s (.s (.s .z))) (.drop (.s (.s (.s .z))) (.drop (.s (.s (.s .z))) (.sr (.load1 isAgg74 r (.s .z) r r r (.ks 2 r (.nilS [9,8] r r ?_)))))))))
 refine .drop (.s .z) (.pubNest (.s .z) fun d6 Y b0=>?_)
 have Z:=IH.le.trans X Y
 exact .ret (pretM .z results30 (.t r (.t r .n)) Z ⟨(E.2,0),_,_,r,b0,hd⟩)
theorem W_vertex_summer_6fc {I:IH} {a0:Int} {Q:(Bool×Int×Wide)→Prop}  (hd:vertex_summer_6fc a0 Q) :
  Fun prog 77 #[.int .i64 a0] I [] (fun I_ v l=>∃ r b1 b2 b3,v=.tuple #[.func (.func 146) #[] #[.pointer (some ⟨b1,0,none⟩),.pointer (some ⟨b2,0,none⟩),.pointer (some ⟨b3,0,none⟩)],.func (.func 148) #[] #[.pointer (some ⟨b3,0,none⟩),.pointer (some ⟨b1,0,none⟩)]]∧l=[pto b1 (.cells #[.bool r.1] 4 (0,0)),pto b2 (.cells #[.int .i64 r.2.1] 37 (0,0)),pto b3 (.cells #[.int .i64 r.2.2.Hi,.int .u64 r.2.2.Lo] 127 (0,0))]∧Q r):=by
 refine Fun.enter (vs:=[.int .i64 a0]) func77 r ntmps77 r (.c .n) fun w0 M=>?_
 refine .sr (.box1 r r r r fun b3=>?_)
 refine .ks 2 r (.nilS [1] r r (.sr (.allocA zv127 r r fun a=>?_)))
 refine .nilS [4,1] r r (.sr (.alloc1 zeroValue4 r r r fun b=>?_))
 exact .store1 sizeOf4 r r .z (.t .nil) r (.nilS [5,4,1] r r (.sr (.mkFn r r r r (.mkFn r r r r (.ks 2 r (.nilS [3,2] r r (.ret (oret results77 (.t r (.t r .n)) (.refl _) (.c .z (.c (.s .z) (.c .z .n))) ⟨(false,a0,({ Hi:=0,Lo:=0 }:Wide)),_,_,_,r,r,hd⟩))))))))
theorem W_vertex_summer_1_b72 {I:IH} {o0:Bool} {o1:Int} {o2:Wide} {a0:Wide} {b4:Nat} {b5:Nat} {b6:Nat} {Q:(Bool×Wide)→Prop}  (hd:vertex_summer_1_b72 o0 o1 o2 a0 Q) :
  Fun prog 146 #[.agg (encWide a0).toArray,.pointer (some ⟨b4,0,none⟩),.pointer (some ⟨b5,0,none⟩),.pointer (some ⟨b6,0,none⟩)] I [pto b4 (.cells #[.bool o0] 4 (0,0)),pto b5 (.cells #[.int .i64 o1] 37 (0,0)),pto b6 (.cells #[.int .i64 o2.Hi,.int .u64 o2.Lo] 127 (0,0))] (fun I_ v l=>∃ r,v=.tuple #[]∧l=[pto b4 (.cells #[.bool r.1] 4 (0,0)),pto b5 (.cells #[.int .i64 o1] 37 (0,0)),pto b6 (.cells #[.int .i64 r.2.Hi,.int .u64 r.2.Lo] 127 (0,0))]∧Q r):=by
 refine Fun.enter (vs:=[.agg (encWide a0).toArray,.pointer (some ⟨b4,0,none⟩),.pointer (some ⟨b5,0,none⟩),.pointer (some ⟨b6,0,none⟩)]) func146 r ntmps146 r (.c (.c (.c (.c .n)))) fun w0 M=>?_
 refine .sr (.boxA r r r fun g=>?_)
 refine .nilS [4,3,2,1] r r (.seq (.sr (.load1 isAgg4 r (.s .z) r r r (.nilS [5,4,3,2,1] r r (.condP r hd (fun a hd=>?_) fun a hd=>?_)))))
 · refine .region (.load1 isAgg37 r (.s (.s .z)) r r r (.loadW ia127 sz127 r (.s (.s (.s .z))) r r r (.loadW ia127 sz127 r .z r r r ?_)))
   have b:=W_ring_Add (I:=I) hd
   refine .callP call147 r b r r fun f d=>?_
   obtain ⟨e,rfl,hd⟩:=d
   exact .storeA sz127 r r .z (.t (.t .nil)) r r (.nilS [4,3,1] r r (.region (.loadW ia127 sz127 r .z r r r (.storeA sz127 r r (.s (.s (.s .z))) (.t (.t .nil)) r r (.store1 sizeOf4 r r (.s .z) (.t .nil) r (.nil' (oretN results146 .n (.refl _) (.c (.s .z) (.c (.s .z) (.c (.s .z) .n))) ⟨(true,e),r,r,hd⟩)))))))
 exact .skipS [4,3,1] r r (.region (.loadW ia127 sz127 r .z r r r (.storeA sz127 r r (.s (.s (.s .z))) (.t (.t .nil)) r r (.store1 sizeOf4 r r (.s .z) (.t .nil) r (.nil' (oretN results146 .n (.refl _) (.c (.s .z) (.c (.s .z) (.c (.s .z) .n))) ⟨(true,a0),r,r,hd⟩))))))
theorem W_vertex_summer_2_cdb {I:IH} {o0:Wide} {o1:Bool} {b3:Nat} {b4:Nat} {Q:(Wide×Bool)→Prop}  (hd:vertex_summer_2_cdb o0 o1 Q) :
  Fun prog 148 #[.pointer (some ⟨b3,0,none⟩),.pointer (some ⟨b4,0,none⟩)] I [pto b3 (.cells #[.int .i64 o0.Hi,.int .u64 o0.Lo] 127 (0,0)),pto b4 (.cells #[.bool o1] 4 (0,0))] (fun I_ v l=>∃ r,v=.tuple #[.agg (encWide r.1).toArray,.bool r.2]∧l=[pto b3 (.cells #[.int .i64 o0.Hi,.int .u64 o0.Lo] 127 (0,0)),pto b4 (.cells #[.bool o1] 4 (0,0))]∧Q r):=by
 refine Fun.enter (vs:=[.pointer (some ⟨b3,0,none⟩),.pointer (some ⟨b4,0,none⟩)]) func148 r ntmps148 r (.c (.c .n)) fun w0 M=>?_
 refine .sr (.allocA zv127 r r fun a=>?_)
 refine .ks 1 r (.nilS [2,1,0] r r (.seq (.dr [0,1,2] 3 (.g r r r (fun _=>.loadW ia127 sz127 r (.s .z) r r r .mk) (.g r r r (fun _=>.load1 isAgg4 r (.s (.s .z)) r r r .mk) (.ww r fun ex=>?_))))))
 exact .storeA sz127 r r .z (.t (.t .nil)) r r (.sn 3 r r r (.cg r r r r (fun _=>.load1 isAgg4 r (.s (.s .z)) r r r .mk) trivial) (.e2 3 (.ks 1 r (.nilS [3,2,1,0] r r (.ret (oret results148 (.w ia127 sz127 r .z r (.t r .n)) (.refl _) (.c (.s .z) (.c (.s .z) .n)) ⟨(o0,o1),r,r,hd⟩))))))
theorem W_vertex_Hear {I:IH} {a0:Int} {a1:Int} {a2:List Wide} {p1:Option Addr} {c2:Nat} {Q:(Int×Bool×Int)→Prop} (R3:RepSl eWide I p1 c2 a2) (hd:vertex_Hear a0 a1 a2 Q) :
  PFun prog 33 [.int .i64 a0,.int .i64 a1,.slice p1 a2.length c2] I (fun _=>o27_ Q):=by
 refine Fun.enter func33 r ntmps33 r (.c (.c (.c .n))) fun w0 M=>?_
 refine .sr (.ks 3 r (.nilS [2,1,0] r r (.sr (.ks 2 r ?_))))
 have a7:=W_prog_Ring (I:=I) hd
 refine .callP call76 r a7 r r fun v10 V=>?_
 obtain ⟨r8,rfl,hd⟩:=V
 refine .ks 1 r (.nilS [9,2] r r (.seq (.sr (.ks 2 r (.nilS [22,9,2] r r (.condP r hd (fun W hd=>?_) fun W hd=>?_))))))
 · exact .sr (.ks 3 r (.nilS [8,7,6] r r (.ret (pret results33 (.t r (.t r (.t r .n))) (.refl _) ⟨(0,false,8),r,hd⟩))))
 refine .skipS [9,2] r r (.sr (.ks 1 r ?_))
 have X:=W_vertex_summer_6fc (I:=I) (a0:=r8) hd
 refine .callS (.f call77 r) .n X r r fun v31 U l32 x Y=>?_
 obtain ⟨h,b,m,d,rfl,rfl,hd⟩:=Y
 replace R3:=R3.mono x
 refine .re (m':=[pto b (.cells #[.bool h.1] 4 (0,0)),pto m (.cells #[.int .i64 h.2.1] 37 (0,0)),pto d (.cells #[.int .i64 h.2.2.Hi,.int .u64 h.2.2.Lo] 127 (0,0))]) r (.ks 5 r (.nilS [11,10,9,2] r r (.seq (.sr (.ks 1 r (.len un78 r r r r (.ks 1 r (.nilS [30,29,28,11,10,9] r r (.block ?_)))))))))
 refine .loop hd (fun (s:Bool×Int×Int×Int) c w=>match s with | (i,j,k,o)=>∃ I_,IH.le U I_∧Ok ⟨59,[],none⟩ [(9,.int .i64 r8),(10,.func (.func 146) #[] #[.pointer (some ⟨b,0,none⟩),.pointer (some ⟨m,0,none⟩),.pointer (some ⟨d,0,none⟩)]),(11,.func (.func 148) #[] #[.pointer (some ⟨d,0,none⟩),.pointer (some ⟨b,0,none⟩)]),(28,.slice p1 a2.length c2),(29,.int .i64 (a2.length:Int)),(30,.int .i64 o)] c∧Sym w0 M I I_ [pto b (.cells #[.bool i] 4 (0,0)),pto m (.cells #[.int .i64 h.2.1] 37 (0,0)),pto d (.cells #[.int .i64 j,.int .u64 k] 127 (0,0))] w) (fun c w ho hs=>⟨U,(.refl _),ho.sub ⟨r,r,r,r,r,r,trivial⟩,hs.pick (.c .z (.c .z (.c .z .n)))⟩) ?_
 rintro ⟨i,j,k,o⟩ a6 hd c w hst
 obtain ⟨y,e,hok,hsym⟩:=hst
 have q:=IH.le.trans x e
 replace R3:=R3.mono e
 refine Cod.at hok hsym (.sr (.ks 1 r (.nilS [31,30,29,28,11,10,9] r r (.seq (.condP r hd (fun C hd=>?_) fun C hd=>?_)))))
 · refine .skipS [30,29,28,11,10,9] r r (.seq (.block (.sr ?_)))
   obtain ⟨A,p,u,hd⟩:=hd
   obtain ⟨b211,o212,cs213,Z,D,E⟩:=R3.2 _ _ u
   cases E
   refine .ixa un78 sz127 r Z r A (idx_lt u A) r r (.ldW ia127 sz127 D r r r r (.allocA zv127 r r fun a3=>?_))
   refine .storeA sz127 r r .z (.t (.t .nil)) r r (.nilS [13,30,29,28,11,10,9] r r (.region (.ks 1 r (.loadW ia127 sz127 r .z r r r ?_))))
   have F:=W_vertex_summer_1_b72 (I:=y) (o0:=i) (o1:=h.2.1) (o2:=({ Hi:=j,Lo:=k }:Wide)) (a0:=p) (b4:=b) (b5:=m) (b6:=d) hd
   refine .callS (.c call146 r r) (.c (.s .z) (.c (.s .z) (.c (.s .z) .n))) F r r fun v223 a4 l224 l G=>?_
   obtain ⟨a,rfl,rfl,hd⟩:=G
   have le230:=IH.le.trans q l
   have H:=IH.le.trans e l
   replace R3:=R3.mono l
   exact .re (m':=[pto b (.cells #[.bool a.1] 4 (0,0)),pto m (.cells #[.int .i64 h.2.1] 37 (0,0)),pto d (.cells #[.int .i64 a.2.Hi,.int .u64 a.2.Lo] 127 (0,0)),pto a3 (.cells #[.int .i64 p.Hi,.int .u64 p.Lo] 127 (0,0))]) r (.nilS [30,29,28,11,10,9] r r (.drop (.s (.s (.s .z))) (.region (.ks 2 r (.nil' fun c w ho hs=>⟨(a.1,a.2.Hi,a.2.Lo,w64 (o+1)),hd,a4,H,ho.sub ⟨r,r,r,r,r,r,trivial⟩,hs.pick (.c .z (.c .z (.c .z .n)))⟩)))))
 refine .exitS [11,9] r r (.drop (.s .z) (.sr (.ks 1 r ?_)))
 have J:=W_vertex_summer_2_cdb (I:=y) (o0:=({ Hi:=j,Lo:=k }:Wide)) (o1:=i) (b3:=d) (b4:=b) hd
 refine .callS (.c call148 r r) (.c (.s .z) (.c .z .n)) J r r fun v247 B l248 v K=>?_
 obtain ⟨r249,rfl,rfl,hd⟩:=K
 have g:=IH.le.trans q v
 have le251:=IH.le.trans e v
 refine .re (m':=[pto d (.cells #[.int .i64 j,.int .u64 k] 127 (0,0)),pto b (.cells #[.bool i] 4 (0,0))]) r (.ks 3 r (.allocA zv127 r r fun b252=>?_))
 refine .storeA sz127 r r .z (.t (.t .nil)) r r (.ks 1 r (.nilS [15,14,9] r r (.drop (.s .z) (.drop (.s .z) (.seq (.sr (.ks 2 r (.nilS [44,14,9] r r (.condP r hd (fun L hd=>?_) fun L hd=>?_)))))))))
 · exact .sr (.ks 3 r (.nilS [8,7,6] r r (.drop .z (.ret (pret results33 (.t r (.t r (.t r .n))) g ⟨(0,false,0),r,hd⟩)))))
 refine .skipS [14,9] r r (.sr (.loadW ia127 sz127 r .z r r r ?_))
 have N:=W_wide_Narrow (I:=B) hd
 refine .callP call78 r N r r fun v262 O=>?_
 obtain ⟨a5,rfl,hd⟩:=O
 refine .ks 5 r (.nilS [17,16,9] r r (.drop .z (.seq (.block (.sr (.ks 3 r (.nilS [50,16,9] r r (.condP r hd (fun P hd=>?_) fun P hd=>?_))))))))
 · exact .sr (.ks 3 r (.nilS [8,7,6] r r (.ret (pret results33 (.t r (.t r (.t r .n))) g ⟨(0,false,12),r,hd⟩))))
 refine .sr (.ks 2 r ?_)
 have R:=W_ring_Zero (I:=B) hd
 refine .callP call79 r R r r fun v267 S=>?_
 obtain ⟨r265,rfl,hd⟩:=S
 refine .ks 2 r (.nilS [53,16] r r (.condP r hd (fun T hd=>?_) fun T hd=>?_))
 · exact .sr (.ks 3 r (.nilS [8,7,6] r r (.ret (pret results33 (.t r (.t r (.t r .n))) g ⟨(0,false,0),r,hd⟩))))
 exact .skipS [16] r r (.sr (.ks 4 r (.nilS [8,7,6] r r (.ret (pret results33 (.t r (.t r (.t r .n))) g ⟨(a5.1,true,0),r,hd⟩)))))
theorem W_ref21_none {I:IH} {Q:State→Prop}  (hd:ref21_none Q) :
  PFun prog 91 [] I (fun I_ v=>∃ r p1 c2 p4 c5 p7 c8,v=.agg #[.int .i64 r.Low,.int .i64 r.High,.slice p1 r.A.length c2,.slice p4 r.B.length c5,.slice p7 r.On.length c8]∧RepSl eI64 I_ p1 c2 r.A∧RepSl eI64 I_ p4 c5 r.B∧RepSl eU64 I_ p7 c8 r.On∧Q r):=by
 refine Fun.enter func91 r ntmps91 r .n fun w0 M=>?_
 refine .sr (.allocA zv42 r r fun a=>?_)
 exact .nilS [0] r r (.sr (.build zv42 un42 BI42 .n (by exact trivial) r r (.storeA sz42 r r .z (.t (.t (.t (.t (.t .nil))))) r r (.nilS [0] r r (.ret (pret results91 (.w ia42 sz42 r .z r .n) (.refl _) ⟨({ Low:=0,High:=0,A:=([]:List Int),B:=([]:List Int),On:=([]:List Int) }:State),_,_,_,_,_,_,r,(.nil _ _ _),(.nil _ _ _),(.nil _ _ _),hd⟩))))))
theorem W_ref21_Begin {I:IH} {a0:Plan} {a1:Int} {a2:Int} {p1:Option Addr} {c2:Nat} {Q:State→Prop} (R3:RepSl eI64 I p1 c2 a0.Draws) (hd:ref21_Begin a0 a1 a2 Q) :
  PFun prog 44 [.agg #[.int .i64 a0.Kind,.int .i64 a0.N,.int .i64 a0.Source,.int .i64 a0.Length,.slice p1 a0.Draws.length c2],.int .i64 a1,.int .i64 a2] I (o30_ Q):=by
 refine Fun.enter func44 r ntmps44 r (.c (.c (.c .n))) fun w0 M=>?_
 refine .sr (.boxA r r r fun p=>?_)
 refine .allocA zv42 r r fun q=>?_
 refine .nilS [6,3,2,1] r r (.seq (.sr (.loadW ia49 sz49 r (.s .z) r r r ?_)))
 have f4:=W_ref21_Right (I:=I) R3 hd
 refine .callP call71 r f4 r r fun n4 f5=>?_
 obtain ⟨n5,rfl,hd⟩:=f5
 refine .ks 2 r ?_
 refine splitP hd (fun a8 hd=>?_) fun a8 hd=>?_
 · rw [a8]
   refine .ks 14 r (.nilS [29,6,3,2,1] r r (.condKT r r (.sr ?_)))
   have e1:=W_ref21_none (I:=I) hd
   refine .call call91 r e1 r r fun k3 n6 a9 e2=>?_
   obtain ⟨h2,k4,k5,k6,k7,k8,k9,rfl,f6,f7,f8,hd⟩:=e2
   replace R3:=R3.mono a9
   exact .storeA sz42 r r .z (.t (.t (.t (.t (.t .nil))))) r r (.nilS [6] r r (.drop (.s .z) (.ret (pret results44 (.w ia42 sz42 r .z r .n) a9 ⟨h2,_,_,_,_,_,_,r,f6,f7,f8,hd⟩))))
 rw [a8]
 refine .ks 4 r ?_
 refine splitP hd (fun T hd=>?_) fun T hd=>?_
 · rw [T]
   refine .ks 10 r (.nilS [29,6,3,2,1] r r (.condKT r r (.sr ?_)))
   have e3:=W_ref21_none (I:=I) hd
   refine .call call91 r e3 r r fun l0 l1 b0 e4=>?_
   obtain ⟨f9,l2,l3,l4,l5,l6,l7,rfl,g0,g1,g2,hd⟩:=e4
   replace R3:=R3.mono b0
   exact .storeA sz42 r r .z (.t (.t (.t (.t (.t .nil))))) r r (.nilS [6] r r (.drop (.s .z) (.ret (pret results44 (.w ia42 sz42 r .z r .n) b0 ⟨f9,_,_,_,_,_,_,r,g0,g1,g2,hd⟩))))
 rw [T]
 refine .ks 5 r ?_
 refine splitP hd (fun U hd=>?_) fun U hd=>?_
 · rw [U]
   refine .ks 5 r (.nilS [29,6,3,2,1] r r (.condKT r r (.sr ?_)))
   have e5:=W_ref21_none (I:=I) hd
   refine .call call91 r e5 r r fun l8 l9 b1 e6=>?_
   obtain ⟨g3,m0,m1,m2,m3,m4,m5,rfl,g4,g5,g6,hd⟩:=e6
   replace R3:=R3.mono b1
   exact .storeA sz42 r r .z (.t (.t (.t (.t (.t .nil))))) r r (.nilS [6] r r (.drop (.s .z) (.ret (pret results44 (.w ia42 sz42 r .z r .n) b1 ⟨g3,_,_,_,_,_,_,r,g4,g5,g6,hd⟩))))
 rw [U]
 refine .ks 1 r (.gyes r r r (.fa un49 r sz3 r (o:=1) r r r (.gyes r r r (.load1 ia3 r (.s .z) r r r (.ks 2 r (.nilS [29,6,3,2,1] r r (.condP r hd (fun e7 hd=>?_) fun e7 hd=>?_)))))))
 · refine .sr ?_
   have e8:=W_ref21_none (I:=I) hd
   refine .call call91 r e8 r r fun m6 m7 b2 e9=>?_
   obtain ⟨g7,m8,m9,n0,n1,n2,n3,rfl,g8,g9,h0,hd⟩:=e9
   replace R3:=R3.mono b2
   exact .storeA sz42 r r .z (.t (.t (.t (.t (.t .nil))))) r r (.nilS [6] r r (.drop (.s .z) (.ret (pret results44 (.w ia42 sz42 r .z r .n) b2 ⟨g7,_,_,_,_,_,_,r,g8,g9,h0,hd⟩))))
 refine .skipS [6,3,2,1] r r (.sr (.ks 2 r (.build zv42 un42 BI42 (.c r r r (.t .nil) (.c r r r (.s (.t .nil)) .n)) (by exact ⟨⟨_,_,r,r,r⟩,⟨⟨_,_,r,r,r⟩,trivial⟩⟩) r r (.allocA zv42 r r fun l=>?_))))
 refine .storeA sz42 r r .z (.t (.t (.t (.t (.t .nil))))) r r (.nilS [7,6,3,2,1] r r (.sr (.ks 1 r (.nilS [8,7,6,3,2,1] r r (.seq (.sr (.ks 2 r (.nilS [9,8,7,6,3,2,1] r r (.block ?_)))))))))
 refine .own0 eI64 2 (.own0 eI64 2 (.own0 eI64 3 (.loop hd (fun (s:(List Int)×(List Int)×(List Int)×Int) c w=>match s with | (a,b,d,i)=>∃ I_ e f g h j k,IH.le I I_∧Ok ⟨100,[],none⟩ [(1,.int .i64 a1),(2,.int .i64 a2),(3,.pointer (some ⟨p,0,none⟩)),(6,.pointer (some ⟨q,0,none⟩)),(7,.pointer (some ⟨l,0,none⟩)),(8,.slice j d.length k),(9,.int .i64 i)] c∧Sym w0 M I I_ [pto p (.cells #[.int .i64 a0.Kind,.int .i64 a0.N,.int .i64 a0.Source,.int .i64 a0.Length,.slice p1 a0.Draws.length c2] 49 (0,0)),pto q (.cells #[.int .i64 0,.int .i64 0,.slice none 0 0,.slice none 0 0,.slice none 0 0] 42 (0,0)),pto l (.cells #[.int .i64 a1,.int .i64 a2,.slice e a.length f,.slice g b.length h,.slice none 0 0] 42 (0,0)),OwnSl eI64 2 e f a,OwnSl eI64 2 g h b,OwnSl eI64 3 j k d] w) (fun c w ho hs=>⟨I,_,_,_,_,_,_,(.refl _),ho.sub ⟨r,r,r,r,r,r,r,trivial⟩,hs.pick (.c (.s (.s (.s (.s (.s .z))))) (.c (.s (.s (.s (.s .z)))) (.c (.s (.s (.s .z))) (.c (.s (.s .z)) (.c (.s .z) (.c .z .n))))))⟩) ?_)))
 rintro ⟨a,b,d,i⟩ h1 hd c w hst
 obtain ⟨y,e,f,g,h,j,k,K,hok,hsym⟩:=hst
 replace R3:=R3.mono K
 refine Cod.at hok hsym (.seq (.sr (.ks 3 r (.nilS [37,9,8,7,6,3,2,1] r r (.condP r hd (fun b4 hd=>?_) fun b4 hd=>?_)))))
 · refine .skipS [9,8,7,6,3,2,1] r r (.seq (.block (.sr (.ks 1 r (.nilS [10,9,8,7,6,3,2,1] r r (.seq ?_))))))
   refine Cod.joinQ (σ:=Bool) hd (fun (C:Bool) c w=>∃ I_,IH.le y I_∧Ok ⟨100,[],none⟩ [(1,.int .i64 a1),(2,.int .i64 a2),(3,.pointer (some ⟨p,0,none⟩)),(6,.pointer (some ⟨q,0,none⟩)),(7,.pointer (some ⟨l,0,none⟩)),(8,.slice j d.length k),(9,.int .i64 i),(10,.int .i64 0),(11,.bool C)] c∧Sym w0 M I I_ [pto p (.cells #[.int .i64 a0.Kind,.int .i64 a0.N,.int .i64 a0.Source,.int .i64 a0.Length,.slice p1 a0.Draws.length c2] 49 (0,0)),pto q (.cells #[.int .i64 0,.int .i64 0,.slice none 0 0,.slice none 0 0,.slice none 0 0] 42 (0,0)),pto l (.cells #[.int .i64 a1,.int .i64 a2,.slice e a.length f,.slice g b.length h,.slice none 0 0] 42 (0,0)),OwnSl eI64 2 e f a,OwnSl eI64 2 g h b,OwnSl eI64 3 j k d] w) (fun h9 hd=>?_) ?_
   · skip
     refine .region (.fa un49 r sz47 r (o:=0) r r r (.load1 ia47 r .z r r r ?_))
     have b5:=W_ref21_from (I:=y) hd
     refine .callP call92 r b5 r r fun i0 b6=>?_
     obtain ⟨i1,rfl,hd⟩:=b6
     refine .ks 1 r ?_
     refine splitP hd (fun L hd=>?_) fun L hd=>?_
     · rw [L]
       refine .ks 1 r (.gyes r r r (.fa un49 r sz3 r (o:=2) r r r (.gyes r r r (.load1 ia3 r .z r r r (.ks 3 r ?_)))))
       refine splitP hd (fun O hd=>?_) fun O hd=>?_
       · rw [O]
         exact .ks 5 r (.nil' fun c w ho hs=>⟨true,hd,y,(.refl _),ho.sub ⟨r,r,r,r,r,r,r,r,r,trivial⟩,hs.pick (.c .z (.c .z (.c .z (.c .z (.c .z (.c .z .n))))))⟩)
       rw [O]
       exact .gyes r r r (.fa un49 r sz47 r (o:=0) r r r (.gyes r r r (.load1 ia47 r .z r r r (.ks 3 r (.nil' fun c w ho hs=>⟨(a0.Kind==3),hd,y,(.refl _),ho.sub ⟨r,r,r,r,r,r,r,r,r,trivial⟩,hs.pick (.c .z (.c .z (.c .z (.c .z (.c .z (.c .z .n))))))⟩)))))
     rw [L]
     exact .ks 6 r (.gyes r r r (.fa un49 r sz47 r (o:=0) r r r (.gyes r r r (.load1 ia47 r .z r r r (.ks 3 r (.nil' fun c w ho hs=>⟨(a0.Kind==3),hd,y,(.refl _),ho.sub ⟨r,r,r,r,r,r,r,r,r,trivial⟩,hs.pick (.c .z (.c .z (.c .z (.c .z (.c .z (.c .z .n))))))⟩))))))
   rintro C hd c w hst
   obtain ⟨D,P,hok,hsym⟩:=hst
   have b7:=IH.le.trans K P
   replace R3:=R3.mono P
   refine Cod.at hok hsym (.seq ?_)
   refine Cod.joinQ (σ:=Int) hd (fun (H:Int) c w=>∃ I_,IH.le D I_∧Ok ⟨100,[],none⟩ [(1,.int .i64 a1),(2,.int .i64 a2),(3,.pointer (some ⟨p,0,none⟩)),(6,.pointer (some ⟨q,0,none⟩)),(7,.pointer (some ⟨l,0,none⟩)),(8,.slice j d.length k),(9,.int .i64 i),(10,.int .i64 H),(11,.bool C)] c∧Sym w0 M I I_ [pto p (.cells #[.int .i64 a0.Kind,.int .i64 a0.N,.int .i64 a0.Source,.int .i64 a0.Length,.slice p1 a0.Draws.length c2] 49 (0,0)),pto q (.cells #[.int .i64 0,.int .i64 0,.slice none 0 0,.slice none 0 0,.slice none 0 0] 42 (0,0)),pto l (.cells #[.int .i64 a1,.int .i64 a2,.slice e a.length f,.slice g b.length h,.slice none 0 0] 42 (0,0)),OwnSl eI64 2 e f a,OwnSl eI64 2 g h b,OwnSl eI64 3 j k d] w) (fun i2 hd=>?_) ?_
   · skip
     refine .sr (.fa un49 r sz47 r (o:=0) r r r (.load1 ia47 r .z r r r (.nilS [55,11,10,9,8,7,6,3,2,1] r r (.block (.sr (.ks 2 r (.nilS [56,55,11,10,9,8,7,6,3,2,1] r r (.condP r hd (fun b8 hd=>?_) fun b8 hd=>?_))))))))
     · exact .region (.ks 1 r (.nil' fun c w ho hs=>⟨(-1),hd,D,(.refl _),ho.sub ⟨r,r,r,r,r,r,r,r,r,trivial⟩,hs.pick (.c .z (.c .z (.c .z (.c .z (.c .z (.c .z .n))))))⟩))
     refine .sr (.ks 2 r (.nilS [58,55,11,10,9,8,7,6,3,2,1] r r (.condP r hd (fun b9 hd=>?_) fun b9 hd=>?_)))
     · exact .region (.ks 1 r (.nil' fun c w ho hs=>⟨4611686018427387904,hd,D,(.refl _),ho.sub ⟨r,r,r,r,r,r,r,r,r,trivial⟩,hs.pick (.c .z (.c .z (.c .z (.c .z (.c .z (.c .z .n))))))⟩))
     refine .sr (.ks 2 r (.nilS [60,11,10,9,8,7,6,3,2,1] r r (.condP r hd (fun c0 hd=>?_) fun c0 hd=>?_)))
     · exact .region (.ks 2 r (.nil' fun c w ho hs=>⟨i,hd,D,(.refl _),ho.sub ⟨r,r,r,r,r,r,r,r,r,trivial⟩,hs.pick (.c .z (.c .z (.c .z (.c .z (.c .z (.c .z .n))))))⟩))
     exact .skip' fun c w ho hs=>⟨0,hd,D,(.refl _),ho.sub ⟨r,r,r,r,r,r,r,r,r,trivial⟩,hs.pick (.c .z (.c .z (.c .z (.c .z (.c .z (.c .z .n))))))⟩
   rintro H hd c w hst
   obtain ⟨E,u,hok,hsym⟩:=hst
   have a4:=IH.le.trans b7 u
   have a5:=IH.le.trans P u
   replace R3:=R3.mono u
   refine Cod.at hok hsym (.seq ?_)
   refine Cod.joinQ (σ:=Int) hd (fun (F:Int) c w=>∃ I_,IH.le E I_∧Ok ⟨100,[],none⟩ [(1,.int .i64 a1),(2,.int .i64 a2),(3,.pointer (some ⟨p,0,none⟩)),(6,.pointer (some ⟨q,0,none⟩)),(7,.pointer (some ⟨l,0,none⟩)),(8,.slice j d.length k),(9,.int .i64 i),(10,.int .i64 F),(11,.bool C)] c∧Sym w0 M I I_ [pto p (.cells #[.int .i64 a0.Kind,.int .i64 a0.N,.int .i64 a0.Source,.int .i64 a0.Length,.slice p1 a0.Draws.length c2] 49 (0,0)),pto q (.cells #[.int .i64 0,.int .i64 0,.slice none 0 0,.slice none 0 0,.slice none 0 0] 42 (0,0)),pto l (.cells #[.int .i64 a1,.int .i64 a2,.slice e a.length f,.slice g b.length h,.slice none 0 0] 42 (0,0)),OwnSl eI64 2 e f a,OwnSl eI64 2 g h b,OwnSl eI64 3 j k d] w) (fun i3 hd=>?_) ?_
   · skip
     refine .seq ?_
     refine Cod.joinQ (σ:=Bool) hd (fun (b3:Bool) c w=>∃ I_,IH.le E I_∧Ok ⟨100,[],none⟩ [(1,.int .i64 a1),(2,.int .i64 a2),(3,.pointer (some ⟨p,0,none⟩)),(6,.pointer (some ⟨q,0,none⟩)),(7,.pointer (some ⟨l,0,none⟩)),(8,.slice j d.length k),(9,.int .i64 i),(10,.int .i64 H),(11,.bool C),(71,.bool b3)] c∧Sym w0 M I I_ [pto p (.cells #[.int .i64 a0.Kind,.int .i64 a0.N,.int .i64 a0.Source,.int .i64 a0.Length,.slice p1 a0.Draws.length c2] 49 (0,0)),pto q (.cells #[.int .i64 0,.int .i64 0,.slice none 0 0,.slice none 0 0,.slice none 0 0] 42 (0,0)),pto l (.cells #[.int .i64 a1,.int .i64 a2,.slice e a.length f,.slice g b.length h,.slice none 0 0] 42 (0,0)),OwnSl eI64 2 e f a,OwnSl eI64 2 g h b,OwnSl eI64 3 j k d] w) (fun i4 hd=>?_) ?_
     · skip
       refine .region (.fa un49 r sz47 r (o:=0) r r r (.load1 ia47 r .z r r r ?_))
       have c1:=W_ref21_from (I:=E) hd
       refine .callP call92 r c1 r r fun i5 c3=>?_
       obtain ⟨i6,rfl,hd⟩:=c3
       refine .ks 1 r ?_
       refine splitP hd (fun R hd=>?_) fun R hd=>?_
       · rw [R]
         exact .ks 1 r (.gyes r r r (.fa un49 r sz3 r (o:=2) r r r (.gyes r r r (.load1 ia3 r .z r r r (.ks 2 r (.nil' fun c w ho hs=>⟨(i==a0.Source),hd,E,(.refl _),ho.sub ⟨r,r,r,r,r,r,r,r,r,r,trivial⟩,hs.pick (.c .z (.c .z (.c .z (.c .z (.c .z (.c .z .n))))))⟩))))))
       rw [R]
       exact .ks 5 r (.nil' fun c w ho hs=>⟨false,hd,E,(.refl _),ho.sub ⟨r,r,r,r,r,r,r,r,r,r,trivial⟩,hs.pick (.c .z (.c .z (.c .z (.c .z (.c .z (.c .z .n))))))⟩)
     rintro b3 hd c w hst
     obtain ⟨V,m,hok,hsym⟩:=hst
     have h3:=IH.le.trans a4 m
     have h4:=IH.le.trans a5 m
     have h5:=IH.le.trans u m
     replace R3:=R3.mono m
     refine Cod.at hok hsym (.condP r hd (fun c4 hd=>?_) fun c4 hd=>?_)
     · refine .sr (.ks 1 r (.nilS [10,11,9,8,7,6,3,2,1] r r (.sr (.fa un49 r sz47 r (o:=0) r r r (.load1 ia47 r .z r r r (.ks 1 r (.nilS [74,10,11,9,8,7,6,3,2,1] r r (.condP r hd (fun c5 hd=>?_) fun c5 hd=>?_))))))))
       · exact .region (.ks 1 r (.nil' fun c w ho hs=>⟨1,hd,V,m,ho.sub ⟨r,r,r,r,r,r,r,r,r,trivial⟩,hs.pick (.c .z (.c .z (.c .z (.c .z (.c .z (.c .z .n))))))⟩))
       exact .skip' fun c w ho hs=>⟨0,hd,V,m,ho.sub ⟨r,r,r,r,r,r,r,r,r,trivial⟩,hs.pick (.c .z (.c .z (.c .z (.c .z (.c .z (.c .z .n))))))⟩
     exact .skip' fun c w ho hs=>⟨H,hd,V,m,ho.sub ⟨r,r,r,r,r,r,r,r,r,trivial⟩,hs.pick (.c .z (.c .z (.c .z (.c .z (.c .z (.c .z .n))))))⟩
   rintro F hd c w hst
   obtain ⟨W,v,hok,hsym⟩:=hst
   have c6:=IH.le.trans a4 v
   have c7:=IH.le.trans a5 v
   have c8:=IH.le.trans u v
   replace R3:=R3.mono v
   refine Cod.at hok hsym (.seq ?_)
   refine Cod.joinQ (σ:=(List Int)) hd (fun (J:(List Int)) c w=>∃ I_ X Y,IH.le W I_∧Ok ⟨100,[],none⟩ [(1,.int .i64 a1),(2,.int .i64 a2),(3,.pointer (some ⟨p,0,none⟩)),(6,.pointer (some ⟨q,0,none⟩)),(7,.pointer (some ⟨l,0,none⟩)),(8,.slice X J.length Y),(9,.int .i64 i),(10,.int .i64 F)] c∧Sym w0 M I I_ [pto p (.cells #[.int .i64 a0.Kind,.int .i64 a0.N,.int .i64 a0.Source,.int .i64 a0.Length,.slice p1 a0.Draws.length c2] 49 (0,0)),pto q (.cells #[.int .i64 0,.int .i64 0,.slice none 0 0,.slice none 0 0,.slice none 0 0] 42 (0,0)),pto l (.cells #[.int .i64 a1,.int .i64 a2,.slice e a.length f,.slice g b.length h,.slice none 0 0] 42 (0,0)),OwnSl eI64 2 e f a,OwnSl eI64 2 g h b,OwnSl eI64 3 X Y J] w) (fun i7 hd=>?_) ?_
   · skip
     refine .sr (.ks 1 r (.nilS [75,10,9,8,7,6,3,2,1] r r (.condP r hd (fun c9 hd=>?_) fun c9 hd=>?_)))
     · refine .region (.ks 4 r (.buildSlice 1 un29 sz3 zv3 r r (.c r r r .n) r r fun i8=>?_))
       obtain ⟨d0,hd⟩:=hd
       refine .append (ys:=[w64 (i - a1)]) 8 (.s (.s (.s (.s (.s (.s .z)))))) un29 un29 IN3 r r r r r r r r r (.box .z (.one r) r) d0 r r fun i9 j0=>?_
       exact .ks 1 r (.nil' fun c w ho hs=>⟨(d++([w64 (i - a1)])),hd,W,_,_,(.refl _),ho.sub ⟨r,r,r,r,r,r,r,r,trivial⟩,hs.pick (.c (.s (.s .z)) (.c (.s (.s .z)) (.c (.s (.s .z)) (.c (.s (.s .z)) (.c (.s (.s .z)) (.c .z .n))))))⟩)
     exact .skip' fun c w ho hs=>⟨d,hd,W,_,_,(.refl _),ho.sub ⟨r,r,r,r,r,r,r,r,trivial⟩,hs.pick (.c .z (.c .z (.c .z (.c .z (.c .z (.c .z .n))))))⟩
   rintro J hd c w hst
   obtain ⟨f0,X,Y,x,hok,hsym⟩:=hst
   have d1:=IH.le.trans c6 x
   have h6:=IH.le.trans c7 x
   have h7:=IH.le.trans c8 x
   have h8:=IH.le.trans v x
   replace R3:=R3.mono x
   refine Cod.at hok hsym (.sr (.fa un42 r sz30 r (o:=2) r r r (.load1 ia30 r (.s (.s .z)) r r r (.ks 1 r (.buildSlice 1 un30 sz2 zv2 r r (.c r r r .n) r r fun j1=>?_)))))
   obtain ⟨d2,hd⟩:=hd
   refine .append (ys:=[F]) 8 (.s (.s (.s (.s .z)))) un30 un30 IN2 r r r r r r r r r (.box .z (.one r) r) d2 r r fun j2 j3=>?_
   refine .fa un42 r sz30 r (o:=2) r r r (.store1 sz30 r r (.s (.s (.s (.s .z)))) (.s (.s (.t .nil))) r (.nilS [9,8,7,6,3,2,1] r r (.drop (.s .z) (.region (.fa un42 r sz30 r (o:=3) r r r (.load1 ia30 r (.s (.s (.s .z))) r r r (.buildSlice 1 un30 sz2 zv2 r r (.c r r r .n) r r fun j4=>?_)))))))
   obtain ⟨d3,hd⟩:=hd
   refine .append (ys:=[(-1)]) 8 (.s (.s (.s (.s (.s .z))))) un30 un30 IN2 r r r r r r r r r (.box .z (.one r) r) d3 r r fun j5 j6=>?_
   exact .fa un42 r sz30 r (o:=3) r r r (.store1 sz30 r r (.s (.s (.s (.s (.s .z))))) (.s (.s (.s (.t .nil)))) r (.nilS [9,8,7,6,3,2,1] r r (.drop (.s .z) (.region (.ks 3 r (.nil' fun c w ho hs=>⟨((a++([F])),(b++([(-1)])),J,w64 (i+1)),hd,f0,_,_,_,_,_,_,d1,ho.sub ⟨r,r,r,r,r,r,r,trivial⟩,hs.pick (.c (.s (.s .z)) (.c (.s (.s .z)) (.c (.s (.s .z)) (.c (.s .z) (.c .z (.c .z .n))))))⟩))))))
 refine .exitS [8,7,6,2,1] r r (.drop .z (.sr (.ks 4 r (.pub (.s (.s (.s (.s .z)))) fun f1 d4 Z=>?_))))
 have d5:=IH.le.trans K d4
 have d6:=W_ref03_Of (I:=f1) Z hd
 refine .call call62 r d6 r r fun j7 j8 a6 d7=>?_
 obtain ⟨f2,j9,k0,rfl,G,hd⟩:=d7
 have d8:=IH.le.trans d5 a6
 replace Z:=Z.mono a6
 refine .fa un42 r sz40 r (o:=4) r r r (.store1 sz40 r r (.s .z) (.s (.s (.s (.s (.t .nil))))) r (.nilS [7,6] r r (.sr (.loadW ia42 sz42 r (.s .z) r r r (.storeA sz42 r r .z (.t (.t (.t (.t (.t .nil))))) r r (.nilS [6] r r (.drop (.s .z) (.pub (.s .z) fun k1 a7 a3=>?_))))))))
 have d9:=IH.le.trans d8 a7
 replace G:=G.mono a7
 refine .pub (.s .z) fun k2 S f3=>?_
 have e0:=IH.le.trans d9 S
 replace G:=G.mono S
 replace a3:=a3.mono S
 exact .ret (pret results44 (.w ia42 sz42 r .z r .n) e0 ⟨({ Low:=a1,High:=a2,A:=a,B:=b,On:=f2 }:State),_,_,_,_,_,_,r,a3,f3,G,hd⟩)
theorem W_ref05_SameEdges {I:IH} {a0:List Edge} {a1:List Edge} {p1:Option Addr} {c2:Nat} {p4:Option Addr} {c5:Nat} {Q:Bool→Prop} (R3:RepSl eEdge I p1 c2 a0) (R6:RepSl eEdge I p4 c5 a1) (hd:ref05_SameEdges a0 a1 Q) :
  PFun prog 28 [.slice p1 a0.length c2,.slice p4 a1.length c5] I (fun _=>o4_ Q):=by
 refine Fun.enter func28 r ntmps28 r (.c (.c .n)) fun w0 M=>?_
 refine .sr (.ks 1 r (.nilS [1,0] r r (.seq (.sr (.ks 1 r (.len un22 r r r r (.ks 1 r (.len un22 r r r r (.ks 1 r ?_)))))))))
 refine .nilS [10,1,0] r r (.condP r hd (fun p hd=>?_) fun p hd=>?_)
 · exact .sr (.ks 1 r (.nilS [4] r r (.ret (pret results28 (.t r .n) (.refl _) ⟨false,r,hd⟩))))
 refine .skipS [1,0] r r (.seq (.sr (.ks 1 r (.nilS [5,1,0] r r (.block (.loop hd (fun (b:Int) c w=>∃ I_,IH.le I I_∧Ok ⟨26,[],none⟩ [(0,.slice p1 a0.length c2),(1,.slice p4 a1.length c5),(5,.int .i64 b)] c∧Sym w0 M I I_ [] w) (fun c w ho hs=>⟨I,(.refl _),ho.sub ⟨r,r,r,trivial⟩,hs.pick .n⟩) ?_))))))
 rintro b q hd c w hst
 obtain ⟨s,a,hok,hsym⟩:=hst
 replace R3:=R3.mono a
 replace R6:=R6.mono a
 refine Cod.at hok hsym (.seq (.sr (.ks 2 r (.len un22 r r r r (.ks 1 r (.nilS [14,5,1,0] r r (.condP r hd (fun i hd=>?_) fun i hd=>?_)))))))
 · refine .skipS [5,1,0] r r (.seq (.block (.seq (.dr [0,1,2,3,4,5,6,7,8] 9 (.fk 2 r ?_)))))
   obtain ⟨f,u,d,hd⟩:=hd
   obtain ⟨B,o64,z,v,j,k⟩:=R3.2 _ _ d
   cases k
   refine .g r r r (fun _=>.ixa un22 sz27 r v r f (idx_lt d f) r r .mk) (.g r r r (fun _=>.ldW ia27 sz27 j r r r r .mk) (.fk 2 r ?_))
   obtain ⟨h,x,e,hd⟩:=hd
   obtain ⟨C,o73,A,y,l,m⟩:=R6.2 _ _ e
   cases m
   refine .g r r r (fun _=>.ixa un22 sz27 r y r h (idx_lt e h) r r .mk) (.g r r r (fun _=>.ldW ia27 sz27 l r r r r .mk) (.g r r r (fun _=>.neV r r (EQ27 u x) (EG27 _ _ _ _ _) r r r .mk) (.e2 9 (.nilS [25,5,1,0] r r (.condP r hd (fun o hd=>?_) fun o hd=>?_)))))
   · exact .sr (.ks 1 r (.nilS [4] r r (.ret (pret results28 (.t r .n) a ⟨false,r,hd⟩))))
   exact .skipS [5,1,0] r r (.region (.ks 3 r (.nil' fun c w ho hs=>⟨(w64 (b+1)),hd,s,a,ho.sub ⟨r,r,r,trivial⟩,hs.pick .n⟩)))
 exact .exitS [] r r (.sr (.ks 1 r (.nilS [4] r r (.ret (pret results28 (.t r .n) a ⟨true,r,hd⟩)))))
theorem W_ref22_Check {I:IH} {a0:Plan} {a1:Graph} {a2:Int} {p1:Option Addr} {c2:Nat} {p4:Option Addr} {c5:Nat} {Q:Int→Prop} (R3:RepSl eI64 I p1 c2 a0.Draws) (R6:RepSl eEdge I p4 c5 a1.Edges) (hd:ref22_Check a0 a1 a2 Q) :
  PFun prog 43 [.agg #[.int .i64 a0.Kind,.int .i64 a0.N,.int .i64 a0.Source,.int .i64 a0.Length,.slice p1 a0.Draws.length c2],.agg #[.int .i64 a1.N,.slice p4 a1.Edges.length c5],.int .i64 a2] I (fun _=>o0_ Q):=by
 refine Fun.enter func43 r ntmps43 r (.c (.c (.c .n))) fun w0 M=>?_
 refine .sr (.boxA r r r fun i=>?_)
 refine .boxA r r r fun j=>?_
 refine .ks 1 r (.nilS [4,3,2] r r (.seq (.sr (.loadW ia49 sz49 r (.s .z) r r r (.loadW ia24 sz24 r .z r r r ?_)))))
 have d:=W_ref21_Matrix (I:=I) R3 R6 hd
 refine .call call42 r d r r fun k l a e=>?_
 obtain ⟨h,m,o,p,q,u,v,rfl,w,x,y,hd⟩:=e
 replace R3:=R3.mono a
 replace R6:=R6.mono a
 refine .ks 3 r (.allocA zv32 r r fun A=>?_)
 refine .storeA sz32 r r .z (.t (.t (.t (.t (.t .nil))))) r r (.ks 1 r (.nilS [8,2] r r (.drop .z (.drop .z (.drop .z (.sr (.ks 2 r (.nilS [16,8,2] r r (.condP r hd (fun f hd=>?_) fun f hd=>?_)))))))))
 · exact .sr (.ks 2 r (.nilS [6] r r (.ret (pret results43 (.t r .n) a ⟨h.2,r,hd⟩))))
 refine .skipS [2] r r (.seq (.sr (.ks 3 r ?_)))
 refine splitP hd (fun b hd=>?_) fun b hd=>?_
 · rw [b]
   exact .ks 3 r (.nilS [23] r r (.condKT r r (.sr (.ks 1 r (.nilS [6] r r (.ret (pret results43 (.t r .n) a ⟨3,r,hd⟩)))))))
 rw [b]
 refine .ks 3 r (.nilS [23] r r (.condP r hd (fun g hd=>?_) fun g hd=>?_))
 · exact .sr (.ks 1 r (.nilS [6] r r (.ret (pret results43 (.t r .n) a ⟨3,r,hd⟩))))
 exact .skipS [] r r (.sr (.ks 1 r (.nilS [6] r r (.ret (pret results43 (.t r .n) a ⟨0,r,hd⟩)))))
theorem W_ref03_Has {I:IH} {a0:List Int} {a1:Int} {p1:Option Addr} {c2:Nat} {Q:Bool→Prop} (R3:RepSl eU64 I p1 c2 a0) (hd:ref03_Has a0 a1 Q) :
  PFun prog 201 [.slice p1 a0.length c2,.int .i64 a1] I (fun _=>o4_ Q):=by
 refine Fun.enter func201 r ntmps201 r (.c (.c .n)) fun w0 M=>?_
 refine .sr (.ks 1 r (.nilS [1,0] r r (.sr (.ks 3 r ?_))))
 refine splitP hd (fun a hd=>?_) fun a hd=>?_
 · rw [a]
   refine .ks 1 r (.gyes r r r (.quo r r (by decide) r r (.ks 1 r (.gyes r r r (.len un40 r r r r (.ks 3 r ?_))))))
   refine splitP hd (fun b hd=>?_) fun b hd=>?_
   · rw [b]
     refine .ks 2 r (.gyes r r r (.quo r r (by decide) r r ?_))
     obtain ⟨h,k,d,hd⟩:=hd
     obtain ⟨m,o10,l,i,e,f⟩:=R3.2 _ _ d
     cases f
     refine .gyes r r r (.ixa un40 sz125 r i r h (idx_lt d h) r r (.gyes r r r (.ld1 (j:=0) ia125 e r r r r r (.ks 1 r (.gyes r r r (.rem r r (by decide) r r (.gyes r r r (.conv un3 underlying201 r r r ?_))))))))
     obtain ⟨g,hd⟩:=hd
     exact .gyes r r r (.shr' r r g r r (.ks 4 r (.nilS [4] r r (.ret (pret results201 (.t r .n) (.refl _) ⟨((bnd .u64 (shr .u64 k (IntKind.wrap .u64 (a1.tmod 64))) 1)==1),r,hd⟩)))))
   rw [b]
   exact .ks 13 r (.nilS [4] r r (.ret (pret results201 (.t r .n) (.refl _) ⟨false,r,hd⟩)))
 rw [a]
 exact .ks 20 r (.nilS [4] r r (.ret (pret results201 (.t r .n) (.refl _) ⟨false,r,hd⟩)))
theorem W_ref03_List {I:IH} {a0:List Int} {p1:Option Addr} {c2:Nat} {Q:(List Int)→Prop} (R3:RepSl eU64 I p1 c2 a0) (hd:ref03_List a0 Q) :
  PFun prog 211 [.slice p1 a0.length c2] I (o29_ Q):=by
 refine Fun.enter func211 r ntmps211 r (.c .n) fun w0 M=>?_
 refine .sr (.ks 1 r (.nilS [0] r r (.sr (.ks 1 r (.nilS [3,0] r r (.seq (.sr (.ks 1 r (.nilS [4,3,0] r r ?_)))))))))
 refine .block (.own0 eI64 3 (.loop hd (fun (s:(List Int)×Int) c w=>match s with | (a,b)=>∃ I_ e f,IH.le I I_∧Ok ⟨20,[],none⟩ [(0,.slice p1 a0.length c2),(3,.slice e a.length f),(4,.int .i64 b)] c∧Sym w0 M I I_ [OwnSl eI64 3 e f a] w) (fun c w ho hs=>⟨I,_,_,(.refl _),ho.sub ⟨r,r,r,trivial⟩,hs.pick (.c .z .n)⟩) ?_))
 rintro ⟨a,b⟩ p hd c w hst
 obtain ⟨g,e,f,d,hok,hsym⟩:=hst
 replace R3:=R3.mono d
 refine Cod.at hok hsym (.seq (.sr (.ks 2 r (.len un40 r r r r (.ks 2 r (.nilS [9,4,3,0] r r (.condP r hd (fun h hd=>?_) fun h hd=>?_)))))))
 · refine .skipS [4,3,0] r r (.seq (.block (.sr (.ks 2 r ?_))))
   have i:=W_ref03_Has (I:=g) R3 hd
   refine .callP call201 r i r r fun u j=>?_
   obtain ⟨v,rfl,hd⟩:=j
   refine .nilS [14,4,3,0] r r (.condP r hd (fun k hd=>?_) fun k hd=>?_)
   · refine .region (.ks 2 r (.buildSlice 1 un29 sz3 zv3 r r (.c r r r .n) r r fun x=>?_))
     obtain ⟨l,hd⟩:=hd
     refine .append (ys:=[b]) 8 (.s .z) un29 un29 IN3 r r r r r r r r r (.box .z (.one r) r) l r r fun y A=>?_
     exact .ks 1 r (.nilS [3,4,0] r r (.drop (.s .z) (.region (.ks 3 r (.nil' fun c w ho hs=>⟨((a++([b])),w64 (b+1)),hd,g,_,_,d,ho.sub ⟨r,r,r,trivial⟩,hs.pick (.c .z .n)⟩)))))
   exact .skipS [4,3,0] r r (.region (.ks 3 r (.nil' fun c w ho hs=>⟨(a,w64 (b+1)),hd,g,_,_,d,ho.sub ⟨r,r,r,trivial⟩,hs.pick (.c .z .n)⟩)))
 refine .exitS [3] r r (.sr (.ks 2 r (.nilS [2] r r (.pub .z fun B m q=>?_))))
 have o:=IH.le.trans d m
 exact .ret (pret results211 (.t r .n) o ⟨a,_,_,r,q,hd⟩)
theorem W_ref03_Right {I:IH} {a0:List Int} {a1:Int} {p1:Option Addr} {c2:Nat} {Q:Bool→Prop} (R3:RepSl eU64 I p1 c2 a0) (hd:ref03_Right a0 a1 Q) :
  PFun prog 139 [.slice p1 a0.length c2,.int .i64 a1] I (fun _=>o4_ Q):=by
 refine Fun.enter func139 r ntmps139 r (.c (.c .n)) fun w0 M=>?_
 refine .sr (.ks 1 r (.nilS [1,0] r r (.seq (.sr (.ks 3 r ?_)))))
 refine splitP hd (fun a hd=>?_) fun a hd=>?_
 · rw [a]
   exact .ks 10 r (.nilS [18,1,0] r r (.condKT r r (.sr (.ks 1 r (.nilS [4] r r (.ret (pret results139 (.t r .n) (.refl _) ⟨false,r,hd⟩)))))))
 rw [a]
 refine .ks 4 r ?_
 refine splitP hd (fun b hd=>?_) fun b hd=>?_
 · rw [b]
   exact .ks 6 r (.nilS [18,1,0] r r (.condKT r r (.sr (.ks 1 r (.nilS [4] r r (.ret (pret results139 (.t r .n) (.refl _) ⟨false,r,hd⟩)))))))
 rw [b]
 refine .ks 1 r (.gyes r r r (.len un40 r r r r (.ks 1 r ?_)))
 have h:=W_ref03_words (I:=I) hd
 refine .gyes r r r (.callP call190 r h r r fun w i=>?_)
 obtain ⟨x,rfl,hd⟩:=i
 refine .ks 2 r (.nilS [18,1,0] r r (.condP r hd (fun k hd=>?_) fun k hd=>?_))
 · exact .sr (.ks 1 r (.nilS [4] r r (.ret (pret results139 (.t r .n) (.refl _) ⟨false,r,hd⟩))))
 refine .skipS [1,0] r r (.sr (.ks 1 r ?_))
 have l:=W_ref03_List (I:=I) R3 hd
 refine .call call211 r l r r fun y z d m=>?_
 obtain ⟨A,B,C,rfl,q,hd⟩:=m
 replace R3:=R3.mono d
 refine .ks 1 r (.nilS [5,1] r r (.sr (.ks 1 r (.len un29 r r r r (.ks 2 r ?_)))))
 refine splitP hd (fun e hd=>?_) fun e hd=>?_
 · rw [e]
   exact .ks 10 r (.nilS [4] r r (.ret (pret results139 (.t r .n) d ⟨true,r,hd⟩)))
 rw [e]
 refine .ks 2 r (.gyes r r r (.len un29 r r r r (.ks 1 r ?_)))
 obtain ⟨g,s,f,hd⟩:=hd
 obtain ⟨D,o43,v,u,o,p⟩:=q.2 _ _ f
 cases p
 exact .gyes r r r (.ixa un29 sz3 r u r g (idx_lt f g) r r (.gyes r r r (.ld1 (j:=0) ia3 o r r r r r (.ks 4 r (.nilS [4] r r (.ret (pret results139 (.t r .n) d ⟨(decide (s<a1)),r,hd⟩)))))))
theorem W_ref21_Sure {I:IH} {a0:Plan} {a1:State} {p1:Option Addr} {c2:Nat} {p4:Option Addr} {c5:Nat} {p7:Option Addr} {c8:Nat} {p10:Option Addr} {c11:Nat} {Q:State→Prop} (R3:RepSl eI64 I p1 c2 a0.Draws) (R6:RepSl eI64 I p4 c5 a1.A) (R9:RepSl eI64 I p7 c8 a1.B) (R12:RepSl eU64 I p10 c11 a1.On) (hd:ref21_Sure a0 a1 Q) :
  PFun prog 72 [.agg #[.int .i64 a0.Kind,.int .i64 a0.N,.int .i64 a0.Source,.int .i64 a0.Length,.slice p1 a0.Draws.length c2],.agg #[.int .i64 a1.Low,.int .i64 a1.High,.slice p4 a1.A.length c5,.slice p7 a1.B.length c8,.slice p10 a1.On.length c11]] I (o24_ Q):=by
 refine Fun.enter func72 r ntmps72 r (.c (.c .n)) fun w0 M=>?_
 refine .sr (.boxA r r r fun f6=>?_)
 refine .boxA r r r fun f7=>?_
 refine .allocA zv42 r r fun f8=>?_
 refine .nilS [4,3,2] r r (.seq (.sr (.loadW ia49 sz49 r (.s (.s .z)) r r r ?_)))
 have H:=W_ref21_Right (I:=I) R3 hd
 refine .callP call71 r H r r fun f9 J=>?_
 obtain ⟨g0,rfl,hd⟩:=J
 refine .ks 2 r ?_
 refine splitP hd (fun k hd=>?_) fun k hd=>?_
 · rw [k]
   refine .ks 51 r (.nilS [59,4,3] r r (.drop (.s (.s .z)) (.condKT r r (.sr ?_))))
   have K:=W_ref21_none (I:=I) hd
   refine .call call91 r K r r fun g1 g2 e L=>?_
   obtain ⟨b0,g3,g4,g5,g6,g7,g8,rfl,b1,b2,b3,hd⟩:=L
   replace R6:=R6.mono e
   replace R9:=R9.mono e
   replace R12:=R12.mono e
   exact .storeA sz42 r r .z (.t (.t (.t (.t (.t .nil))))) r r (.nilS [4] r r (.drop (.s .z) (.ret (pret results72 (.w ia42 sz42 r .z r .n) e ⟨b0,_,_,_,_,_,_,r,b1,b2,b3,hd⟩))))
 rw [k]
 refine .gyes r r r (.fa un42 r sz3 r (o:=0) r r r (.gyes r r r (.load1 ia3 r (.s .z) r r r (.ks 3 r ?_))))
 refine splitP hd (fun l hd=>?_) fun l hd=>?_
 · rw [l]
   refine .ks 46 r (.nilS [59,4,3] r r (.drop (.s (.s .z)) (.condKT r r (.sr ?_))))
   have O:=W_ref21_none (I:=I) hd
   refine .call call91 r O r r fun g9 h0 f P=>?_
   obtain ⟨b4,h1,h2,h3,h4,h5,h6,rfl,b5,b6,b7,hd⟩:=P
   replace R6:=R6.mono f
   replace R9:=R9.mono f
   replace R12:=R12.mono f
   exact .storeA sz42 r r .z (.t (.t (.t (.t (.t .nil))))) r r (.nilS [4] r r (.drop (.s .z) (.ret (pret results72 (.w ia42 sz42 r .z r .n) f ⟨b4,_,_,_,_,_,_,r,b5,b6,b7,hd⟩))))
 rw [l]
 refine .gyes r r r (.fa un42 r sz3 r (o:=1) r r r (.gyes r r r (.load1 ia3 r (.s .z) r r r (.gyes r r r (.fa un42 r sz3 r (o:=0) r r r (.gyes r r r (.load1 ia3 r (.s .z) r r r (.ks 3 r ?_))))))))
 refine splitP hd (fun m hd=>?_) fun m hd=>?_
 · rw [m]
   refine .ks 39 r (.nilS [59,4,3] r r (.drop (.s (.s .z)) (.condKT r r (.sr ?_))))
   have R:=W_ref21_none (I:=I) hd
   refine .call call91 r R r r fun h7 h8 g S=>?_
   obtain ⟨b8,h9,i0,i1,i2,i3,i4,rfl,b9,c0,c1,hd⟩:=S
   replace R6:=R6.mono g
   replace R9:=R9.mono g
   replace R12:=R12.mono g
   exact .storeA sz42 r r .z (.t (.t (.t (.t (.t .nil))))) r r (.nilS [4] r r (.drop (.s .z) (.ret (pret results72 (.w ia42 sz42 r .z r .n) g ⟨b8,_,_,_,_,_,_,r,b9,c0,c1,hd⟩))))
 rw [m]
 refine .gyes r r r (.fa un42 r sz3 r (o:=1) r r r (.gyes r r r (.load1 ia3 r (.s .z) r r r (.gyes r r r (.fa un49 r sz3 r (o:=1) r r r (.gyes r r r (.load1 ia3 r (.s (.s .z)) r r r (.ks 3 r ?_))))))))
 refine splitP hd (fun p hd=>?_) fun p hd=>?_
 · rw [p]
   refine .ks 32 r (.nilS [59,4,3] r r (.drop (.s (.s .z)) (.condKT r r (.sr ?_))))
   have q:=W_ref21_none (I:=I) hd
   refine .call call91 r q r r fun i5 i6 h T=>?_
   obtain ⟨c3,i7,i8,i9,c6,c7,c9,rfl,c4,U,V,hd⟩:=T
   replace R6:=R6.mono h
   replace R9:=R9.mono h
   replace R12:=R12.mono h
   exact .storeA sz42 r r .z (.t (.t (.t (.t (.t .nil))))) r r (.nilS [4] r r (.drop (.s .z) (.ret (pret results72 (.w ia42 sz42 r .z r .n) h ⟨c3,_,_,_,_,_,_,r,c4,U,V,hd⟩))))
 rw [p]
 refine .gyes r r r (.fa un42 r sz30 r (o:=2) r r r (.gyes r r r (.load1 ia30 r (.s .z) r r r (.gyes r r r (.len un30 r r r r (.gyes r r r (.fa un42 r sz3 r (o:=1) r r r (.gyes r r r (.load1 ia3 r (.s .z) r r r (.gyes r r r (.fa un42 r sz3 r (o:=0) r r r (.gyes r r r (.load1 ia3 r (.s .z) r r r (.ks 4 r ?_))))))))))))))
 refine splitP hd (fun i hd=>?_) fun i hd=>?_
 · rw [i]
   refine .ks 21 r (.nilS [59,4,3] r r (.drop (.s (.s .z)) (.condKT r r (.sr ?_))))
   have u:=W_ref21_none (I:=I) hd
   refine .call call91 r u r r fun d0 d1 a v=>?_
   obtain ⟨W,d2,d3,d4,d5,d6,d7,rfl,X,Y,Z,hd⟩:=v
   replace R6:=R6.mono a
   replace R9:=R9.mono a
   replace R12:=R12.mono a
   exact .storeA sz42 r r .z (.t (.t (.t (.t (.t .nil))))) r r (.nilS [4] r r (.drop (.s .z) (.ret (pret results72 (.w ia42 sz42 r .z r .n) a ⟨W,_,_,_,_,_,_,r,X,Y,Z,hd⟩))))
 rw [i]
 refine .gyes r r r (.fa un42 r sz30 r (o:=3) r r r (.gyes r r r (.load1 ia30 r (.s .z) r r r (.gyes r r r (.len un30 r r r r (.gyes r r r (.fa un42 r sz3 r (o:=1) r r r (.gyes r r r (.load1 ia3 r (.s .z) r r r (.gyes r r r (.fa un42 r sz3 r (o:=0) r r r (.gyes r r r (.load1 ia3 r (.s .z) r r r (.ks 4 r ?_))))))))))))))
 refine splitP hd (fun j hd=>?_) fun j hd=>?_
 · rw [j]
   refine .ks 10 r (.nilS [59,4,3] r r (.drop (.s (.s .z)) (.condKT r r (.sr ?_))))
   have x:=W_ref21_none (I:=I) hd
   refine .call call91 r x r r fun d8 d9 b y=>?_
   obtain ⟨a2,e0,e1,e2,e3,e4,e5,rfl,a3,a4,a5,hd⟩:=y
   replace R6:=R6.mono b
   replace R9:=R9.mono b
   replace R12:=R12.mono b
   exact .storeA sz42 r r .z (.t (.t (.t (.t (.t .nil))))) r r (.nilS [4] r r (.drop (.s .z) (.ret (pret results72 (.w ia42 sz42 r .z r .n) b ⟨a2,_,_,_,_,_,_,r,a3,a4,a5,hd⟩))))
 rw [j]
 refine .gyes r r r (.fa un42 r sz40 r (o:=4) r r r (.gyes r r r (.load1 ia40 r (.s .z) r r r (.gyes r r r (.fa un42 r sz3 r (o:=1) r r r (.gyes r r r (.load1 ia3 r (.s .z) r r r (.gyes r r r (.fa un42 r sz3 r (o:=0) r r r (.gyes r r r (.load1 ia3 r (.s .z) r r r (.ks 1 r ?_))))))))))))
 have C:=W_ref03_Right (I:=I) R12 hd
 refine .gyes r r r (.callP call139 r C r r fun e6 D=>?_)
 obtain ⟨e7,rfl,hd⟩:=D
 refine .ks 2 r (.nilS [59,4,3] r r (.drop (.s (.s .z)) (.condP r hd (fun E hd=>?_) fun E hd=>?_)))
 · refine .sr ?_
   have F:=W_ref21_none (I:=I) hd
   refine .call call91 r F r r fun e8 e9 d G=>?_
   obtain ⟨a6,f0,f1,f2,f3,f4,f5,rfl,a7,a8,a9,hd⟩:=G
   replace R6:=R6.mono d
   replace R9:=R9.mono d
   replace R12:=R12.mono d
   exact .storeA sz42 r r .z (.t (.t (.t (.t (.t .nil))))) r r (.nilS [4] r r (.drop (.s .z) (.ret (pret results72 (.w ia42 sz42 r .z r .n) d ⟨a6,_,_,_,_,_,_,r,a7,a8,a9,hd⟩))))
 exact .skipS [4,3] r r (.sr (.loadW ia42 sz42 r (.s .z) r r r (.storeA sz42 r r .z (.t (.t (.t (.t (.t .nil))))) r r (.nilS [4] r r (.drop (.s .z) (.ret (pret results72 (.w ia42 sz42 r .z r .n) (.refl _) ⟨a1,_,_,_,_,_,_,r,R6,R9,R12,hd⟩)))))))
theorem W_ref21_Live {I:IH} {a0:Plan} {a1:State} {a2:Int} {p1:Option Addr} {c2:Nat} {p4:Option Addr} {c5:Nat} {p7:Option Addr} {c8:Nat} {p10:Option Addr} {c11:Nat} {Q:Int→Prop} (R3:RepSl eI64 I p1 c2 a0.Draws) (R6:RepSl eI64 I p4 c5 a1.A) (R9:RepSl eI64 I p7 c8 a1.B) (R12:RepSl eU64 I p10 c11 a1.On) (hd:ref21_Live a0 a1 a2 Q) :
  PFun prog 132 [.agg #[.int .i64 a0.Kind,.int .i64 a0.N,.int .i64 a0.Source,.int .i64 a0.Length,.slice p1 a0.Draws.length c2],.agg #[.int .i64 a1.Low,.int .i64 a1.High,.slice p4 a1.A.length c5,.slice p7 a1.B.length c8,.slice p10 a1.On.length c11],.int .i64 a2] I (fun _=>o0_ Q):=by
 refine Fun.enter func132 r ntmps132 r (.c (.c (.c .n))) fun w0 M=>?_
 refine .sr (.boxA r r r fun v=>?_)
 refine .boxA r r r fun x=>?_
 refine .ks 1 r (.nilS [4,3,2] r r (.sr (.loadW ia49 sz49 r (.s .z) r r r (.loadW ia42 sz42 r .z r r r ?_))))
 have a3:=W_ref21_Sure (I:=I) R3 R6 R9 R12 hd
 refine .call call72 r a3 r r fun b7 D g a4=>?_
 obtain ⟨f,T,U,V,W,X,Y,rfl,q,y,i,hd⟩:=a4
 replace R3:=R3.mono g
 replace R6:=R6.mono g
 replace R9:=R9.mono g
 replace R12:=R12.mono g
 refine .storeA sz42 r r .z (.t (.t (.t (.t (.t .nil))))) r r (.nilS [4,3,2] r r (.seq ?_))
 refine Cod.joinQ (σ:=Unit) hd (fun (_:Unit) c w=>∃ I_,IH.le D I_∧Ok ⟨55,[],none⟩ [(3,.pointer (some ⟨v,0,none⟩)),(4,.pointer (some ⟨x,0,none⟩))] c∧Sym w0 M I I_ [pto v (.cells #[.int .i64 a0.Kind,.int .i64 a0.N,.int .i64 a0.Source,.int .i64 a0.Length,.slice p1 a0.Draws.length c2] 49 (0,0)),pto x (.cells #[.int .i64 f.Low,.int .i64 f.High,.slice T f.A.length U,.slice V f.B.length W,.slice X f.On.length Y] 42 (0,0))] w) (fun b8 hd=>?_) ?_
 · skip
   refine .sr (.fa un49 r sz47 r (o:=0) r r r (.load1 ia47 r (.s .z) r r r (.ks 2 r ?_)))
   refine splitP hd (fun u hd=>?_) fun u hd=>?_
   · rw [u]
     refine .ks 1 r (.gyes r r r (.fa un49 r sz3 r (o:=3) r r r (.gyes r r r (.load1 ia3 r (.s .z) r r r (.ks 2 r (.nilS [20,4,3] r r (.condP r hd (fun a5 hd=>?_) fun a5 hd=>?_)))))))
     · exact .sr (.ks 1 r (.nilS [6] r r (.drop .z (.drop .z (.ret (pret results132 (.t r .n) g ⟨0,r,hd⟩))))))
     exact .skip' fun c w ho hs=>⟨(),hd,D,(.refl _),ho.sub ⟨r,r,trivial⟩,hs.pick (.c (.s .z) (.c .z .n))⟩
   rw [u]
   exact .ks 5 r (.nilS [20,4,3] r r (.condKF r r (.skip' fun c w ho hs=>⟨(),hd,D,(.refl _),ho.sub ⟨r,r,trivial⟩,hs.pick (.c (.s .z) (.c .z .n))⟩)))
 rintro ⟨⟩ hd c w hst
 obtain ⟨Z,h,hok,hsym⟩:=hst
 have a6:=IH.le.trans g h
 replace R3:=R3.mono h
 replace q:=q.mono h
 replace y:=y.mono h
 replace i:=i.mono h
 refine Cod.at hok hsym (.sr (.ks 1 r (.nilS [7,4,3] r r (.seq (.sr (.ks 1 r (.nilS [8,7,4,3] r r (.block (.loop hd (fun (s:Int×Int) c w=>match s with | (b,d)=>∃ I_,IH.le Z I_∧Ok ⟨55,[],none⟩ [(3,.pointer (some ⟨v,0,none⟩)),(4,.pointer (some ⟨x,0,none⟩)),(7,.int .i64 b),(8,.int .i64 d)] c∧Sym w0 M I I_ [pto v (.cells #[.int .i64 a0.Kind,.int .i64 a0.N,.int .i64 a0.Source,.int .i64 a0.Length,.slice p1 a0.Draws.length c2] 49 (0,0)),pto x (.cells #[.int .i64 f.Low,.int .i64 f.High,.slice T f.A.length U,.slice V f.B.length W,.slice X f.On.length Y] 42 (0,0))] w) (fun c w ho hs=>⟨Z,(.refl _),ho.sub ⟨r,r,r,r,trivial⟩,hs.pick (.c .z (.c .z .n))⟩) ?_)))))))))
 rintro ⟨b,d⟩ a8 hd c w hst
 obtain ⟨e,a,hok,hsym⟩:=hst
 have F:=IH.le.trans a6 a
 have a9:=IH.le.trans h a
 replace R3:=R3.mono a
 replace q:=q.mono a
 replace y:=y.mono a
 replace i:=i.mono a
 refine Cod.at hok hsym (.seq (.sr (.ks 1 r (.fa un42 r sz3 r (o:=1) r r r (.load1 ia3 r (.s .z) r r r (.fa un42 r sz3 r (o:=0) r r r (.load1 ia3 r (.s .z) r r r (.ks 2 r (.nilS [27,8,7,4,3] r r ?_)))))))))
 refine .condP r hd (fun G hd=>?_) fun G hd=>?_
 · refine .skipS [8,7,4,3] r r (.seq (.block (.sr (.fa un49 r sz47 r (o:=0) r r r (.load1 ia47 r .z r r r (.ks 2 r ?_))))))
   refine splitP hd (fun k hd=>?_) fun k hd=>?_
   · rw [k]
     refine .gyes r r r (.fa un42 r sz30 r (o:=2) r r r (.gyes r r r (.load1 ia30 r (.s .z) r r r (.ks 1 r ?_))))
     obtain ⟨E,b1,C,hd⟩:=hd
     obtain ⟨b2,o133,b0,a7,H,J⟩:=q.2 _ _ C
     cases J
     refine .gyes r r r (.ixa un30 sz2 r a7 r E (idx_lt C E) r r (.gyes r r r (.ld1 (j:=0) ia2 H r r r r r (.ks 3 r ?_))))
     refine splitP hd (fun l hd=>?_) fun l hd=>?_
     · rw [l]
       exact .ks 10 r (.nilS [51,8,7,4,3] r r (.condKT r r (.region (.ks 3 r (.nilS [7,8,4,3] r r (.region (.ks 3 r (.nil' fun c w ho hs=>⟨(w64 (b+1),w64 (d+1)),hd,e,a,ho.sub ⟨r,r,r,r,trivial⟩,hs.pick (.c .z (.c .z .n))⟩))))))))
     rw [l]
     refine .gyes r r r (.fa un49 r sz47 r (o:=0) r r r (.gyes r r r (.load1 ia47 r .z r r r (.ks 2 r ?_))))
     refine splitP hd (fun m hd=>?_) fun m hd=>?_
     · rw [m]
       refine .gyes r r r (.fa un42 r sz40 r (o:=4) r r r (.gyes r r r (.load1 ia40 r (.s .z) r r r (.ks 1 r ?_))))
       have K:=W_ref03_Has (I:=e) i hd
       refine .gyes r r r (.callP call201 r K r r fun b3 L=>?_)
       obtain ⟨b4,rfl,hd⟩:=L
       refine .ks 2 r (.nilS [51,8,7,4,3] r r (.condP r hd (fun O hd=>?_) fun O hd=>?_))
       · exact .region (.ks 3 r (.nilS [7,8,4,3] r r (.region (.ks 3 r (.nil' fun c w ho hs=>⟨(w64 (b+1),w64 (d+1)),hd,e,a,ho.sub ⟨r,r,r,r,trivial⟩,hs.pick (.c .z (.c .z .n))⟩)))))
       exact .skipS [8,7,4,3] r r (.region (.ks 3 r (.nil' fun c w ho hs=>⟨(b,w64 (d+1)),hd,e,a,ho.sub ⟨r,r,r,r,trivial⟩,hs.pick (.c .z (.c .z .n))⟩)))
     rw [m]
     exact .ks 6 r (.nilS [51,8,7,4,3] r r (.condKF r r (.skipS [8,7,4,3] r r (.region (.ks 3 r (.nil' fun c w ho hs=>⟨(b,w64 (d+1)),hd,e,a,ho.sub ⟨r,r,r,r,trivial⟩,hs.pick (.c .z (.c .z .n))⟩))))))
   rw [k]
   refine .ks 8 r (.gyes r r r (.fa un49 r sz47 r (o:=0) r r r (.gyes r r r (.load1 ia47 r .z r r r (.ks 2 r ?_)))))
   refine splitP hd (fun p hd=>?_) fun p hd=>?_
   · rw [p]
     refine .gyes r r r (.fa un42 r sz40 r (o:=4) r r r (.gyes r r r (.load1 ia40 r (.s .z) r r r (.ks 1 r ?_))))
     have P:=W_ref03_Has (I:=e) i hd
     refine .gyes r r r (.callP call201 r P r r fun b5 R=>?_)
     obtain ⟨b6,rfl,hd⟩:=R
     refine .ks 2 r (.nilS [51,8,7,4,3] r r (.condP r hd (fun S hd=>?_) fun S hd=>?_))
     · exact .region (.ks 3 r (.nilS [7,8,4,3] r r (.region (.ks 3 r (.nil' fun c w ho hs=>⟨(w64 (b+1),w64 (d+1)),hd,e,a,ho.sub ⟨r,r,r,r,trivial⟩,hs.pick (.c .z (.c .z .n))⟩)))))
     exact .skipS [8,7,4,3] r r (.region (.ks 3 r (.nil' fun c w ho hs=>⟨(b,w64 (d+1)),hd,e,a,ho.sub ⟨r,r,r,r,trivial⟩,hs.pick (.c .z (.c .z .n))⟩)))
   rw [p]
   exact .ks 6 r (.nilS [51,8,7,4,3] r r (.condKF r r (.skipS [8,7,4,3] r r (.region (.ks 3 r (.nil' fun c w ho hs=>⟨(b,w64 (d+1)),hd,e,a,ho.sub ⟨r,r,r,r,trivial⟩,hs.pick (.c .z (.c .z .n))⟩))))))
 exact .exitS [7] r r (.drop .z (.drop .z (.sr (.ks 2 r (.nilS [6] r r (.ret (pret results132 (.t r .n) F ⟨b,r,hd⟩)))))))
theorem W_ref03_Same {I:IH} {a0:List Int} {a1:List Int} {p1:Option Addr} {c2:Nat} {p4:Option Addr} {c5:Nat} {Q:Bool→Prop} (R3:RepSl eU64 I p1 c2 a0) (R6:RepSl eU64 I p4 c5 a1) (hd:ref03_Same a0 a1 Q) :
  PFun prog 86 [.slice p1 a0.length c2,.slice p4 a1.length c5] I (fun _=>o4_ Q):=by
 refine Fun.enter func86 r ntmps86 r (.c (.c .n)) fun w0 M=>?_
 refine .sr (.ks 1 r (.nilS [1,0] r r (.seq (.sr (.ks 1 r (.len un40 r r r r (.ks 1 r (.len un40 r r r r (.ks 1 r ?_)))))))))
 refine .nilS [10,1,0] r r (.condP r hd (fun q hd=>?_) fun q hd=>?_)
 · exact .sr (.ks 1 r (.nilS [4] r r (.ret (pret results86 (.t r .n) (.refl _) ⟨false,r,hd⟩))))
 refine .skipS [1,0] r r (.seq (.sr (.ks 1 r (.nilS [5,1,0] r r (.block (.loop hd (fun (b:Int) c w=>∃ I_,IH.le I I_∧Ok ⟨26,[],none⟩ [(0,.slice p1 a0.length c2),(1,.slice p4 a1.length c5),(5,.int .i64 b)] c∧Sym w0 M I I_ [] w) (fun c w ho hs=>⟨I,(.refl _),ho.sub ⟨r,r,r,trivial⟩,hs.pick .n⟩) ?_))))))
 rintro b s hd c w hst
 obtain ⟨u,a,hok,hsym⟩:=hst
 replace R3:=R3.mono a
 replace R6:=R6.mono a
 refine Cod.at hok hsym (.seq (.sr (.ks 2 r (.len un40 r r r r (.ks 1 r (.nilS [14,5,1,0] r r (.condP r hd (fun i hd=>?_) fun i hd=>?_)))))))
 · refine .skipS [5,1,0] r r (.seq (.block (.seq (.dr [0,1,2,3,4,5,6,7,8] 9 (.fk 2 r ?_)))))
   obtain ⟨f,A,d,hd⟩:=hd
   obtain ⟨B,o64,y,v,k,l⟩:=R3.2 _ _ d
   cases l
   refine .g r r r (fun _=>.ixa un40 sz125 r v r f (idx_lt d f) r r .mk) (.g r r r (fun _=>.ld1 (j:=0) ia125 k r r r r r .mk) (.fk 2 r ?_))
   obtain ⟨h,C,e,hd⟩:=hd
   obtain ⟨D,o73,z,x,m,o⟩:=R6.2 _ _ e
   cases o
   refine .g r r r (fun _=>.ixa un40 sz125 r x r h (idx_lt e h) r r .mk) (.g r r r (fun _=>.ld1 (j:=0) ia125 m r r r r r .mk) (.fk 1 r (.e2 9 (.nilS [25,5,1,0] r r (.condP r hd (fun p hd=>?_) fun p hd=>?_)))))
   · exact .sr (.ks 1 r (.nilS [4] r r (.ret (pret results86 (.t r .n) a ⟨false,r,hd⟩))))
   exact .skipS [5,1,0] r r (.region (.ks 3 r (.nil' fun c w ho hs=>⟨(w64 (b+1)),hd,u,a,ho.sub ⟨r,r,r,trivial⟩,hs.pick .n⟩)))
 exact .exitS [] r r (.sr (.ks 1 r (.nilS [4] r r (.ret (pret results86 (.t r .n) a ⟨true,r,hd⟩)))))
theorem W_ref21_Same {I:IH} {a0:State} {a1:State} {p1:Option Addr} {c2:Nat} {p4:Option Addr} {c5:Nat} {p7:Option Addr} {c8:Nat} {p10:Option Addr} {c11:Nat} {p13:Option Addr} {c14:Nat} {p16:Option Addr} {c17:Nat} {Q:Bool→Prop} (R3:RepSl eI64 I p1 c2 a0.A) (R6:RepSl eI64 I p4 c5 a0.B) (R9:RepSl eU64 I p7 c8 a0.On) (R12:RepSl eI64 I p10 c11 a1.A) (R15:RepSl eI64 I p13 c14 a1.B) (R18:RepSl eU64 I p16 c17 a1.On) (hd:ref21_Same a0 a1 Q) :
  PFun prog 36 [.agg #[.int .i64 a0.Low,.int .i64 a0.High,.slice p1 a0.A.length c2,.slice p4 a0.B.length c5,.slice p7 a0.On.length c8],.agg #[.int .i64 a1.Low,.int .i64 a1.High,.slice p10 a1.A.length c11,.slice p13 a1.B.length c14,.slice p16 a1.On.length c17]] I (fun _=>o4_ Q):=by
 refine Fun.enter func36 r ntmps36 r (.c (.c .n)) fun w0 M=>?_
 refine .sr (.boxA r r r fun m=>?_)
 refine .boxA r r r fun p=>?_
 refine .ks 1 r (.nilS [3,2] r r (.sr (.fa un42 r sz3 r (o:=0) r r r (.load1 ia3 r (.s .z) r r r (.fa un42 r sz3 r (o:=0) r r r (.load1 ia3 r .z r r r (.ks 2 r ?_)))))))
 refine splitP hd (fun a hd=>?_) fun a hd=>?_
 · rw [a]
   refine .gyes r r r (.fa un42 r sz3 r (o:=1) r r r (.gyes r r r (.load1 ia3 r (.s .z) r r r (.gyes r r r (.fa un42 r sz3 r (o:=1) r r r (.gyes r r r (.load1 ia3 r .z r r r (.ks 3 r ?_))))))))
   refine splitP hd (fun b hd=>?_) fun b hd=>?_
   · rw [b]
     refine .gyes r r r (.fa un42 r sz30 r (o:=2) r r r (.gyes r r r (.load1 ia30 r (.s .z) r r r (.gyes r r r (.fa un42 r sz30 r (o:=2) r r r (.gyes r r r (.load1 ia30 r .z r r r ?_)))))))
     have f:=W_ref07_SameVals (I:=I) R3 R12 hd
     refine .gyes r r r (.callP call67 r f r r fun q g=>?_)
     obtain ⟨u,rfl,hd⟩:=g
     refine .ks 2 r ?_
     refine splitP hd (fun d hd=>?_) fun d hd=>?_
     · rw [d]
       refine .gyes r r r (.fa un42 r sz30 r (o:=3) r r r (.gyes r r r (.load1 ia30 r (.s .z) r r r (.gyes r r r (.fa un42 r sz30 r (o:=3) r r r (.gyes r r r (.load1 ia30 r .z r r r ?_)))))))
       have h:=W_ref07_SameVals (I:=I) R6 R15 hd
       refine .gyes r r r (.callP call67 r h r r fun v i=>?_)
       obtain ⟨w,rfl,hd⟩:=i
       refine .ks 2 r ?_
       refine splitP hd (fun e hd=>?_) fun e hd=>?_
       · rw [e]
         refine .gyes r r r (.fa un42 r sz40 r (o:=4) r r r (.gyes r r r (.load1 ia40 r (.s .z) r r r (.gyes r r r (.fa un42 r sz40 r (o:=4) r r r (.gyes r r r (.load1 ia40 r .z r r r ?_)))))))
         have j:=W_ref03_Same (I:=I) R9 R18 hd
         refine .gyes r r r (.callP call86 r j r r fun x k=>?_)
         obtain ⟨l,rfl,hd⟩:=k
         exact .ks 2 r (.nilS [4] r r (.drop .z (.drop .z (.ret (pret results36 (.t r .n) (.refl _) ⟨l,r,hd⟩)))))
       rw [e]
       exact .ks 7 r (.nilS [4] r r (.drop .z (.drop .z (.ret (pret results36 (.t r .n) (.refl _) ⟨false,r,hd⟩)))))
     rw [d]
     exact .ks 14 r (.nilS [4] r r (.drop .z (.drop .z (.ret (pret results36 (.t r .n) (.refl _) ⟨false,r,hd⟩)))))
   rw [b]
   exact .ks 21 r (.nilS [4] r r (.drop .z (.drop .z (.ret (pret results36 (.t r .n) (.refl _) ⟨false,r,hd⟩)))))
 rw [a]
 exact .ks 28 r (.nilS [4] r r (.drop .z (.drop .z (.ret (pret results36 (.t r .n) (.refl _) ⟨false,r,hd⟩)))))
theorem W_ref21_Ring {I:IH} {a0:Int} {a1:Int} {Q:Int→Prop}  (hd:ref21_Ring a0 a1 Q) :
  PFun prog 73 [.int .i64 a0,.int .i64 a1] I (fun _=>o0_ Q):=by
 refine Fun.enter func73 r ntmps73 r (.c (.c .n)) fun w0 M=>?_
 refine .sr (.ks 1 r (.nilS [1,0] r r (.sr (.ks 1 r (.nilS [5,1] r r (.block (.seq ?_)))))))
 refine Cod.joinQ (σ:=Bool) hd (fun (f:Bool) c w=>∃ I_,IH.le I I_∧Ok ⟨18,[],none⟩ [(1,.int .i64 a1),(5,.int .i64 a0),(6,.bool f)] c∧Sym w0 M I I_ [] w) (fun j hd=>?_) ?_
 · skip
   refine .sr (.ks 2 r (.nilS [6,5,1] r r (.condP r hd (fun g hd=>?_) fun g hd=>?_)))
   · exact .skip' fun c w ho hs=>⟨(a0==1),hd,I,(.refl _),ho.sub ⟨r,r,r,trivial⟩,hs.pick .n⟩
   exact .region (.ks 2 r (.nil' fun c w ho hs=>⟨(a0==3),hd,I,(.refl _),ho.sub ⟨r,r,r,trivial⟩,hs.pick .n⟩))
 rintro f hd c w hst
 obtain ⟨k,a,hok,hsym⟩:=hst
 refine Cod.at hok hsym (.condP r hd (fun h hd=>?_) fun h hd=>?_)
 · exact .sr (.ks 1 r (.nilS [4] r r (.ret (pret results73 (.t r .n) a ⟨4,r,hd⟩))))
 refine .sr (.ks 2 r (.nilS [9,5,1] r r (.condP r hd (fun i hd=>?_) fun i hd=>?_)))
 · exact .sr (.ks 1 r (.nilS [4] r r (.ret (pret results73 (.t r .n) a ⟨1,r,hd⟩))))
 refine .sr (.ks 2 r (.nilS [11,5,1] r r (.condP r hd (fun b hd=>?_) fun b hd=>?_)))
 · exact .sr (.ks 1 r (.nilS [4] r r (.ret (pret results73 (.t r .n) a ⟨5,r,hd⟩))))
 refine .sr (.ks 2 r (.nilS [13,1] r r (.condP r hd (fun d hd=>?_) fun d hd=>?_)))
 · refine .seq (.sr (.ks 1 r (.rem r r (by decide) r r (.ks 1 r (.nilS [17] r r (.condP r hd (fun e hd=>?_) fun e hd=>?_))))))
   · exact .sr (.ks 1 r (.nilS [4] r r (.ret (pret results73 (.t r .n) a ⟨2,r,hd⟩))))
   exact .skipS [] r r (.sr (.ks 1 r (.nilS [4] r r (.ret (pret results73 (.t r .n) a ⟨4,r,hd⟩)))))
 exact .sr (.ks 1 r (.nilS [4] r r (.ret (pret results73 (.t r .n) a ⟨0,r,hd⟩))))
end Go.Proofs.YtaefnmlbnkmahaaGreat
