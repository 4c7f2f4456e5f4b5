/- The walks (printed by a program of ours). -/
import Derived.Test.YtccpfgdefibdnaaGreatV2
namespace Go.Proofs.YtccpfgdefibdnaaGreat
open Go Go.Fw
set_option linter.unusedVariables false
set_option linter.unusedSimpArgs false
set_option maxRecDepth 8000
set_option maxHeartbeats 1000000
open Tryz
theorem W_ref21_from {I:IH} {a0:Int} {Q:Bool→Prop}  (hd:ref21_from a0 Q) :
  PFun prog 58 [.int .i64 a0] I (fun _=>o2_ Q):=by
 refine Fun.enter func58 r ntmps58 r (.c .n) fun w0 M=>?_
 refine .sr (.ks 1 r (.nilS [0] r r (.sr (.ks 3 r ?_))))
 refine splitP hd (fun a hd=>?_) fun a hd=>?_
 · rw [a]
   exact .ks 8 r (.nilS [2] r r (.ret (pret results58 (.t r .n) (.refl _) ⟨true,r,hd⟩)))
 rw [a]
 refine .ks 4 r ?_
 refine splitP hd (fun b hd=>?_) fun b hd=>?_
 · rw [b]
   exact .ks 4 r (.nilS [2] r r (.ret (pret results58 (.t r .n) (.refl _) ⟨true,r,hd⟩)))
 rw [b]
 exact .ks 4 r (.nilS [2] r r (.ret (pret results58 (.t r .n) (.refl _) ⟨(a0==4),r,hd⟩)))
theorem W_ref21_Right {I:IH} {a0:Plan} {p1:Option Addr} {c2:Nat} {Q:Int→Prop} (R3:RepSl eI64 I p1 c2 a0.Draws) (hd:ref21_Right a0 Q) :
  PFun prog 30 [.agg #[.int .i64 a0.Kind,.int .i64 a0.N,.int .i64 a0.Source,.int .i64 a0.Length,.slice p1 a0.Draws.length c2]] I (fun _=>o0_ Q):=by
 refine Fun.enter func30 r ntmps30 r (.c .n) fun w0 M=>?_
 refine .sr (.boxA r r r fun B=>?_)
 refine .ks 1 r (.nilS [1] r r (.seq (.sr (.fa un25 r sz22 r (o:=0) r r r (.load1 ia22 r .z r r r (.ks 2 r ?_))))))
 refine splitP hd (fun e hd=>?_) fun e hd=>?_
 · rw [e]
   exact .ks 4 r (.nilS [11,1] r r (.condKT r r (.sr (.ks 1 r (.nilS [2] r r (.drop .z (.ret (pret results30 (.t r .n) (.refl _) ⟨8,r,hd⟩))))))))
 rw [e]
 refine .gyes r r r (.fa un25 r sz22 r (o:=0) r r r (.gyes r r r (.load1 ia22 r .z r r r (.ks 2 r (.nilS [11,1] r r (.condP r hd (fun K hd=>?_) fun K hd=>?_))))))
 · exact .sr (.ks 1 r (.nilS [2] r r (.drop .z (.ret (pret results30 (.t r .n) (.refl _) ⟨8,r,hd⟩)))))
 refine .skipS [1] r r (.seq ?_)
 refine Cod.joinQ (σ:=Unit) hd (fun (_:Unit) c w=>∃ I_,IH.le I I_∧Ok ⟨77,[],none⟩ [(1,.pointer (some ⟨B,0,none⟩))] c∧Sym w0 M I I_ [pto B (.cells #[.int .i64 a0.Kind,.int .i64 a0.N,.int .i64 a0.Source,.int .i64 a0.Length,.slice p1 a0.Draws.length c2] 25 (0,0))] w) (fun a4 hd=>?_) ?_
 · skip
   refine .sr (.fa un25 r sz3 r (o:=1) r r r (.load1 ia3 r .z r r r (.ks 2 r ?_)))
   refine splitP hd (fun f hd=>?_) fun f hd=>?_
   · rw [f]
     exact .ks 36 r (.nilS [51,1] r r (.condKT r r (.sr (.ks 1 r (.nilS [2] r r (.drop .z (.ret (pret results30 (.t r .n) (.refl _) ⟨3,r,hd⟩))))))))
   rw [f]
   refine .gyes r r r (.fa un25 r sz3 r (o:=1) r r r (.gyes r r r (.load1 ia3 r .z r r r (.ks 3 r ?_))))
   refine splitP hd (fun g hd=>?_) fun g hd=>?_
   · rw [g]
     exact .ks 31 r (.nilS [51,1] r r (.condKT r r (.sr (.ks 1 r (.nilS [2] r r (.drop .z (.ret (pret results30 (.t r .n) (.refl _) ⟨3,r,hd⟩))))))))
   rw [g]
   refine .gyes r r r (.fa un25 r sz22 r (o:=0) r r r (.gyes r r r (.load1 ia22 r .z r r r ?_)))
   have L:=W_ref21_from (I:=I) hd
   refine .gyes r r r (.callP call58 r L r r fun a5 O=>?_)
   obtain ⟨a6,rfl,hd⟩:=O
   refine .ks 1 r ?_
   refine splitP hd (fun h hd=>?_) fun h hd=>?_
   · rw [h]
     refine .gyes r r r (.fa un25 r sz3 r (o:=2) r r r (.gyes r r r (.load1 ia3 r .z r r r (.ks 2 r ?_))))
     refine splitP hd (fun i hd=>?_) fun i hd=>?_
     · rw [i]
       exact .ks 23 r (.nilS [51,1] r r (.condKT r r (.sr (.ks 1 r (.nilS [2] r r (.drop .z (.ret (pret results30 (.t r .n) (.refl _) ⟨3,r,hd⟩))))))))
     rw [i]
     refine .gyes r r r (.fa un25 r sz3 r (o:=2) r r r (.gyes r r r (.load1 ia3 r .z r r r (.gyes r r r (.fa un25 r sz3 r (o:=1) r r r (.gyes r r r (.load1 ia3 r .z r r r (.ks 5 r ?_))))))))
     refine splitP hd (fun k hd=>?_) fun k hd=>?_
     · rw [k]
       exact .ks 14 r (.nilS [51,1] r r (.condKT r r (.sr (.ks 1 r (.nilS [2] r r (.drop .z (.ret (pret results30 (.t r .n) (.refl _) ⟨3,r,hd⟩))))))))
     rw [k]
     refine .gyes r r r (.fa un25 r sz22 r (o:=0) r r r (.gyes r r r (.load1 ia22 r .z r r r (.ks 2 r ?_))))
     refine splitP hd (fun l hd=>?_) fun l hd=>?_
     · rw [l]
       refine .gyes r r r (.fa un25 r sz3 r (o:=3) r r r (.gyes r r r (.load1 ia3 r .z r r r (.ks 2 r ?_))))
       refine splitP hd (fun m hd=>?_) fun m hd=>?_
       · rw [m]
         exact .ks 6 r (.nilS [51,1] r r (.condKT r r (.sr (.ks 1 r (.nilS [2] r r (.drop .z (.ret (pret results30 (.t r .n) (.refl _) ⟨3,r,hd⟩))))))))
       rw [m]
       refine .gyes r r r (.fa un25 r sz3 r (o:=3) r r r (.gyes r r r (.load1 ia3 r .z r r r (.ks 4 r (.nilS [51,1] r r (.condP r hd (fun P hd=>?_) fun P hd=>?_))))))
       · exact .sr (.ks 1 r (.nilS [2] r r (.drop .z (.ret (pret results30 (.t r .n) (.refl _) ⟨3,r,hd⟩)))))
       exact .skip' fun c w ho hs=>⟨(),hd,I,(.refl _),ho.sub ⟨r,trivial⟩,hs.pick (.c .z .n)⟩
     rw [l]
     exact .ks 10 r (.nilS [51,1] r r (.condKF r r (.skip' fun c w ho hs=>⟨(),hd,I,(.refl _),ho.sub ⟨r,trivial⟩,hs.pick (.c .z .n)⟩)))
   rw [h]
   refine .ks 13 r (.gyes r r r (.fa un25 r sz22 r (o:=0) r r r (.gyes r r r (.load1 ia22 r .z r r r (.ks 2 r ?_)))))
   refine splitP hd (fun p hd=>?_) fun p hd=>?_
   · rw [p]
     refine .gyes r r r (.fa un25 r sz3 r (o:=3) r r r (.gyes r r r (.load1 ia3 r .z r r r (.ks 2 r ?_))))
     refine splitP hd (fun q hd=>?_) fun q hd=>?_
     · rw [q]
       exact .ks 6 r (.nilS [51,1] r r (.condKT r r (.sr (.ks 1 r (.nilS [2] r r (.drop .z (.ret (pret results30 (.t r .n) (.refl _) ⟨3,r,hd⟩))))))))
     rw [q]
     refine .gyes r r r (.fa un25 r sz3 r (o:=3) r r r (.gyes r r r (.load1 ia3 r .z r r r (.ks 4 r (.nilS [51,1] r r (.condP r hd (fun R hd=>?_) fun R hd=>?_))))))
     · exact .sr (.ks 1 r (.nilS [2] r r (.drop .z (.ret (pret results30 (.t r .n) (.refl _) ⟨3,r,hd⟩)))))
     exact .skip' fun c w ho hs=>⟨(),hd,I,(.refl _),ho.sub ⟨r,trivial⟩,hs.pick (.c .z .n)⟩
   rw [p]
   exact .ks 10 r (.nilS [51,1] r r (.condKF r r (.skip' fun c w ho hs=>⟨(),hd,I,(.refl _),ho.sub ⟨r,trivial⟩,hs.pick (.c .z .n)⟩)))
 rintro ⟨⟩ hd c w hst
 obtain ⟨J,s,hok,hsym⟩:=hst
 replace R3:=R3.mono s
 refine Cod.at hok hsym (.seq (.sr (.fa un25 r sz23 r (o:=4) r r r (.load1 ia23 r .z r r r (.len un23 r r r r (.ks 1 r (.nilS [55,1] r r (.condP r hd (fun S hd=>?_) fun S hd=>?_))))))))
 · exact .sr (.ks 1 r (.nilS [2] r r (.drop .z (.ret (pret results30 (.t r .n) s ⟨5,r,hd⟩)))))
 refine .skipS [1] r r (.seq (.sr (.ks 1 r (.nilS [3,1] r r (.block (.loop hd (fun (u:Int) c w=>∃ I_,IH.le J I_∧Ok ⟨77,[],none⟩ [(1,.pointer (some ⟨B,0,none⟩)),(3,.int .i64 u)] c∧Sym w0 M I I_ [pto B (.cells #[.int .i64 a0.Kind,.int .i64 a0.N,.int .i64 a0.Source,.int .i64 a0.Length,.slice p1 a0.Draws.length c2] 25 (0,0))] w) (fun c w ho hs=>⟨J,(.refl _),ho.sub ⟨r,r,trivial⟩,hs.pick (.c .z .n)⟩) ?_))))))
 rintro u W hd c w hst
 obtain ⟨T,a,hok,hsym⟩:=hst
 have b:=IH.le.trans s a
 replace R3:=R3.mono a
 refine Cod.at hok hsym (.seq (.sr (.ks 1 r (.fa un25 r sz23 r (o:=4) r r r (.load1 ia23 r .z r r r (.len un23 r r r r (.ks 1 r (.nilS [60,3,1] r r (.condP r hd (fun C hd=>?_) fun C hd=>?_)))))))))
 · refine .skipS [3,1] r r (.seq (.block (.sr (.fa un25 r sz23 r (o:=4) r r r (.load1 ia23 r .z r r r (.ks 1 r ?_))))))
   obtain ⟨y,Z,v,hd⟩:=hd
   obtain ⟨a1,o120,X,U,D,E⟩:=R3.2 _ _ v
   cases E
   refine .ixa un23 sz2 r U r y (idx_lt v y) r r (.ld1 (j:=0) ia2 D r r r r r (.ks 2 r ?_))
   refine splitP hd (fun d hd=>?_) fun d hd=>?_
   · rw [d]
     exact .ks 7 r (.nilS [76,3,1] r r (.condKT r r (.sr (.ks 1 r (.nilS [2] r r (.drop .z (.ret (pret results30 (.t r .n) b ⟨7,r,hd⟩))))))))
   rw [d]
   refine .gyes r r r (.fa un25 r sz23 r (o:=4) r r r (.gyes r r r (.load1 ia23 r .z r r r (.ks 1 r ?_))))
   obtain ⟨A,a2,x,hd⟩:=hd
   obtain ⟨a3,o130,Y,V,F,G⟩:=R3.2 _ _ x
   cases G
   refine .gyes r r r (.ixa un23 sz2 r V r A (idx_lt x A) r r (.gyes r r r (.ld1 (j:=0) ia2 F r r r r r (.ks 2 r (.nilS [76,3,1] r r (.condP r hd (fun H hd=>?_) fun H hd=>?_))))))
   · exact .sr (.ks 1 r (.nilS [2] r r (.drop .z (.ret (pret results30 (.t r .n) b ⟨7,r,hd⟩)))))
   exact .skipS [3,1] r r (.region (.ks 3 r (.nil' fun c w ho hs=>⟨(w64 (u+1)),hd,T,a,ho.sub ⟨r,r,trivial⟩,hs.pick (.c .z .n)⟩)))
 exact .exitS [] r r (.drop .z (.sr (.ks 1 r (.nilS [2] r r (.ret (pret results30 (.t r .n) b ⟨0,r,hd⟩))))))
theorem W_ref05_Right {I:IH} {a0:Graph} {p1:Option Addr} {c2:Nat} {Q:Int→Prop} (R3:RepSl eEdge I p1 c2 a0.Edges) (hd:ref05_Right a0 Q) :
  PFun prog 31 [.agg #[.int .i64 a0.N,.slice p1 a0.Edges.length c2]] I (fun _=>o0_ Q):=by
 refine Fun.enter func31 r ntmps31 r (.c .n) fun w0 M=>?_
 refine .sr (.boxA r r r fun A=>?_)
 refine .ks 1 r (.nilS [1] r r (.seq (.sr (.fa un28 r sz3 r (o:=0) r r r (.load1 ia3 r .z r r r (.ks 1 r (.nilS [8,1] r r (.condP r hd (fun W hd=>?_) fun W hd=>?_))))))))
 · exact .sr (.ks 1 r (.nilS [2] r r (.drop .z (.ret (pret results31 (.t r .n) (.refl _) ⟨3,r,hd⟩)))))
 refine .skipS [1] r r (.seq (.sr (.fa un28 r sz3 r (o:=0) r r r (.load1 ia3 r .z r r r (.ks 2 r ?_)))))
 refine splitP hd (fun k hd=>?_) fun k hd=>?_
 · rw [k]
   exact .ks 5 r (.nilS [17,1] r r (.condKT r r (.sr (.ks 1 r (.nilS [2] r r (.drop .z (.ret (pret results31 (.t r .n) (.refl _) ⟨5,r,hd⟩))))))))
 rw [k]
 refine .gyes r r r (.fa un28 r sz26 r (o:=1) r r r (.gyes r r r (.load1 ia26 r .z r r r (.gyes r r r (.len un26 r r r r (.ks 2 r (.nilS [17,1] r r (.condP r hd (fun O hd=>?_) fun O hd=>?_))))))))
 · exact .sr (.ks 1 r (.nilS [2] r r (.drop .z (.ret (pret results31 (.t r .n) (.refl _) ⟨5,r,hd⟩)))))
 refine .skipS [1] r r (.seq (.sr (.ks 1 r (.nilS [3,1] r r (.block (.loop hd (fun (l:Int) c w=>∃ I_,IH.le I I_∧Ok ⟨75,[],none⟩ [(1,.pointer (some ⟨A,0,none⟩)),(3,.int .i64 l)] c∧Sym w0 M I I_ [pto A (.cells #[.int .i64 a0.N,.slice p1 a0.Edges.length c2] 28 (0,0))] w) (fun c w ho hs=>⟨I,(.refl _),ho.sub ⟨r,r,trivial⟩,hs.pick (.c .z .n)⟩) ?_))))))
 rintro l U hd c w hst
 obtain ⟨m,a,hok,hsym⟩:=hst
 replace R3:=R3.mono a
 refine Cod.at hok hsym (.seq (.sr (.ks 1 r (.fa un28 r sz26 r (o:=1) r r r (.load1 ia26 r .z r r r (.len un26 r r r r (.ks 1 r (.nilS [22,3,1] r r (.condP r hd (fun B hd=>?_) fun B hd=>?_)))))))))
 · refine .skipS [3,1] r r (.seq (.block (.sr (.fa un28 r sz26 r (o:=1) r r r (.load1 ia26 r .z r r r (.ks 1 r ?_))))))
   obtain ⟨v,a1,p,hd⟩:=hd
   obtain ⟨a2,o185,X,P,C,D⟩:=R3.2 _ _ p
   cases D
   refine .ixa un26 sz70 r P r v (idx_lt p v) r r (.ldW ia70 sz70 C r r r r (.allocA zv70 r r fun a3=>?_))
   refine .storeA sz70 r r .z (.t (.t (.t .nil))) r r (.nilS [4,3,1] r r (.sr (.fa un70 r sz3 r (o:=0) r r r (.load1 ia3 r .z r r r (.ks 2 r ?_)))))
   refine splitP hd (fun d hd=>?_) fun d hd=>?_
   · rw [d]
     exact .ks 18 r (.nilS [51,3,1] r r (.drop .z (.condKT r r (.sr (.ks 1 r (.nilS [2] r r (.drop .z (.ret (pret results31 (.t r .n) a ⟨3,r,hd⟩)))))))))
   rw [d]
   refine .gyes r r r (.fa un70 r sz3 r (o:=0) r r r (.gyes r r r (.load1 ia3 r .z r r r (.gyes r r r (.fa un28 r sz3 r (o:=0) r r r (.gyes r r r (.load1 ia3 r (.s .z) r r r (.ks 3 r ?_))))))))
   refine splitP hd (fun e hd=>?_) fun e hd=>?_
   · rw [e]
     exact .ks 11 r (.nilS [51,3,1] r r (.drop .z (.condKT r r (.sr (.ks 1 r (.nilS [2] r r (.drop .z (.ret (pret results31 (.t r .n) a ⟨3,r,hd⟩)))))))))
   rw [e]
   refine .gyes r r r (.fa un70 r sz3 r (o:=1) r r r (.gyes r r r (.load1 ia3 r .z r r r (.ks 3 r ?_))))
   refine splitP hd (fun f hd=>?_) fun f hd=>?_
   · rw [f]
     exact .ks 6 r (.nilS [51,3,1] r r (.drop .z (.condKT r r (.sr (.ks 1 r (.nilS [2] r r (.drop .z (.ret (pret results31 (.t r .n) a ⟨3,r,hd⟩)))))))))
   rw [f]
   refine .gyes r r r (.fa un70 r sz3 r (o:=1) r r r (.gyes r r r (.load1 ia3 r .z r r r (.gyes r r r (.fa un28 r sz3 r (o:=0) r r r (.gyes r r r (.load1 ia3 r (.s .z) r r r (.ks 2 r (.nilS [51,3,1] r r (.drop .z (.condP r hd (fun E hd=>?_) fun E hd=>?_)))))))))))
   · exact .sr (.ks 1 r (.nilS [2] r r (.drop .z (.ret (pret results31 (.t r .n) a ⟨3,r,hd⟩)))))
   exact .skipS [3,1] r r (.region (.ks 3 r (.nil' fun c w ho hs=>⟨(w64 (l+1)),hd,m,a,ho.sub ⟨r,r,trivial⟩,hs.pick (.c .z .n)⟩)))
 refine .exitS [1] r r (.seq (.sr (.ks 1 r (.nilS [5,1] r r (.block (.loop hd (fun (b:Int) c w=>∃ I_,IH.le m I_∧Ok ⟨75,[],none⟩ [(1,.pointer (some ⟨A,0,none⟩)),(5,.int .i64 b)] c∧Sym w0 M I I_ [pto A (.cells #[.int .i64 a0.N,.slice p1 a0.Edges.length c2] 28 (0,0))] w) (fun c w ho hs=>⟨m,(.refl _),ho.sub ⟨r,r,trivial⟩,hs.pick (.c .z .n)⟩) ?_))))))
 rintro b V hd c w hst
 obtain ⟨R,g,hok,hsym⟩:=hst
 have h:=IH.le.trans a g
 replace R3:=R3.mono g
 refine Cod.at hok hsym (.seq (.sr (.ks 1 r (.fa un28 r sz26 r (o:=1) r r r (.load1 ia26 r .z r r r (.len un26 r r r r (.ks 1 r (.nilS [56,5,1] r r (.condP r hd (fun F hd=>?_) fun F hd=>?_)))))))))
 · refine .skipS [5,1] r r (.seq (.block (.sr (.fa un28 r sz26 r (o:=1) r r r (.load1 ia26 r .z r r r (.ks 1 r ?_))))))
   obtain ⟨x,a4,q,hd⟩:=hd
   obtain ⟨a5,o254,Y,S,G,H⟩:=R3.2 _ _ q
   cases H
   refine .ixa un26 sz70 r S r x (idx_lt q x) r r (.fa un70 r sz2 r (o:=o254+b.toNat*3+2) r r r (.ld1 (j:=2) ia2 G r r r r r (.ks 2 r ?_)))
   refine splitP hd (fun i hd=>?_) fun i hd=>?_
   · rw [i]
     exact .ks 8 r (.nilS [74,5,1] r r (.condKT r r (.sr (.ks 1 r (.nilS [2] r r (.drop .z (.ret (pret results31 (.t r .n) h ⟨7,r,hd⟩))))))))
   rw [i]
   refine .gyes r r r (.fa un28 r sz26 r (o:=1) r r r (.gyes r r r (.load1 ia26 r .z r r r (.ks 1 r ?_))))
   obtain ⟨y,a6,u,hd⟩:=hd
   obtain ⟨a7,o264,Z,T,J,K⟩:=R3.2 _ _ u
   cases K
   refine .gyes r r r (.ixa un26 sz70 r T r y (idx_lt u y) r r (.gyes r r r (.fa un70 r sz2 r (o:=o264+b.toNat*3+2) r r r (.gyes r r r (.ld1 (j:=2) ia2 J r r r r r (.ks 2 r (.nilS [74,5,1] r r (.condP r hd (fun L hd=>?_) fun L hd=>?_))))))))
   · exact .sr (.ks 1 r (.nilS [2] r r (.drop .z (.ret (pret results31 (.t r .n) h ⟨7,r,hd⟩)))))
   exact .skipS [5,1] r r (.region (.ks 3 r (.nil' fun c w ho hs=>⟨(w64 (b+1)),hd,R,g,ho.sub ⟨r,r,trivial⟩,hs.pick (.c .z .n)⟩)))
 exact .exitS [] r r (.drop .z (.sr (.ks 1 r (.nilS [2] r r (.ret (pret results31 (.t r .n) h ⟨0,r,hd⟩))))))
theorem W_ref02_Is {I:IH} {a0:Int} {Q:Bool→Prop}  (hd:ref02_Is a0 Q) :
  PFun prog 157 [.int .i64 a0] I (fun _=>o2_ Q):=by
 refine Fun.enter func157 r ntmps157 r (.c .n) fun w0 M=>?_
 refine .sr (.ks 1 r (.nilS [0] r r (.sr (.ks 3 r ?_))))
 refine splitP hd (fun a hd=>?_) fun a hd=>?_
 · rw [a]
   exact .ks 4 r (.nilS [2] r r (.ret (pret results157 (.t r .n) (.refl _) ⟨(decide (a0≤5)),r,hd⟩)))
 rw [a]
 exact .ks 4 r (.nilS [2] r r (.ret (pret results157 (.t r .n) (.refl _) ⟨false,r,hd⟩)))
theorem W_ref05_below {I:IH} {a0:Edge} {a1:Edge} {Q:Bool→Prop}  (hd:ref05_below a0 a1 Q) :
  PFun prog 158 [.agg (encEdge a0).toArray,.agg (encEdge a1).toArray] I (fun _=>o2_ Q):=by
 refine Fun.enter func158 r ntmps158 r (.c (.c .n)) fun w0 M=>?_
 refine .sr (.boxA r r r fun d=>?_)
 refine .boxA r r r fun e=>?_
 refine .ks 1 r (.nilS [3,2] r r (.sr (.fa un70 r sz3 r (o:=0) r r r (.load1 ia3 r (.s .z) r r r (.fa un70 r sz3 r (o:=0) r r r (.load1 ia3 r .z r r r (.ks 2 r ?_)))))))
 refine splitP hd (fun b hd=>?_) fun b hd=>?_
 · rw [b]
   exact .ks 14 r (.nilS [4] r r (.drop .z (.drop .z (.ret (pret results158 (.t r .n) (.refl _) ⟨true,r,hd⟩)))))
 rw [b]
 refine .gyes r r r (.fa un70 r sz3 r (o:=0) r r r (.gyes r r r (.load1 ia3 r (.s .z) r r r (.gyes r r r (.fa un70 r sz3 r (o:=0) r r r (.gyes r r r (.load1 ia3 r .z r r r (.ks 2 r ?_))))))))
 refine splitP hd (fun a hd=>?_) fun a hd=>?_
 · rw [a]
   exact .gyes r r r (.fa un70 r sz3 r (o:=1) r r r (.gyes r r r (.load1 ia3 r (.s .z) r r r (.gyes r r r (.fa un70 r sz3 r (o:=1) r r r (.gyes r r r (.load1 ia3 r .z r r r (.ks 4 r (.nilS [4] r r (.drop .z (.drop .z (.ret (pret results158 (.t r .n) (.refl _) ⟨(decide (a0.To<a1.To)),r,hd⟩)))))))))))))
 rw [a]
 exact .ks 8 r (.nilS [4] r r (.drop .z (.drop .z (.ret (pret results158 (.t r .n) (.refl _) ⟨false,r,hd⟩)))))
theorem W_ref01_Of {I:IH} {a0:Int} {Q:Wide→Prop}  (hd:ref01_Of a0 Q) :
  PFun prog 159 [.int .i64 a0] I (fun _=>o3_ Q):=by
 refine Fun.enter func159 r ntmps159 r (.c .n) fun w0 M=>?_
 refine .sr (.allocA zv155 r r fun b=>?_)
 refine .nilS [2,0] r r (.seq (.sr (.ks 2 r (.nilS [4,2,0] r r (.condP r hd (fun a hd=>?_) fun a hd=>?_)))))
 · exact .sr (.ks 1 r (.conv un2 un96 r r r (.build zv155 un155 BI155 (.c r r r (.t .nil) (.c r r r (.s (.t .nil)) .n)) (by exact ⟨⟨_,_,r,r,r⟩,⟨⟨_,_,r,r,r⟩,trivial⟩⟩) r r (.storeA sz155 r r .z (.t (.t .nil)) r r (.nilS [2] r r (.ret (pret results159 (.w ia155 sz155 r .z r .n) (.refl _) ⟨({ Hi:=(-1),Lo:=IntKind.wrap .u64 (a0) }:Wide),r,hd⟩)))))))
 exact .skipS [2,0] r r (.sr (.ks 1 r (.conv un2 un96 r r r (.build zv155 un155 BI155 (.c r r r (.s (.t .nil)) .n) (by exact ⟨⟨_,_,r,r,r⟩,trivial⟩) r r (.storeA sz155 r r .z (.t (.t .nil)) r r (.nilS [2] r r (.ret (pret results159 (.w ia155 sz155 r .z r .n) (.refl _) ⟨({ Hi:=0,Lo:=IntKind.wrap .u64 (a0) }:Wide),r,hd⟩))))))))
theorem W_ref01_Compare {I:IH} {a0:Wide} {a1:Wide} {Q:Int→Prop}  (hd:ref01_Compare a0 a1 Q) :
  PFun prog 185 [.agg (encWide a0).toArray,.agg (encWide a1).toArray] I (fun _=>o0_ Q):=by
 refine Fun.enter func185 r ntmps185 r (.c (.c .n)) fun w0 M=>?_
 refine .sr (.boxA r r r fun g=>?_)
 refine .boxA r r r fun h=>?_
 refine .ks 1 r (.nilS [3,2] r r (.seq ?_))
 refine Cod.joinQ (σ:=Unit) hd (fun (_:Unit) c w=>∃ I_,IH.le I I_∧Ok ⟨27,[],none⟩ [(2,.pointer (some ⟨g,0,none⟩)),(3,.pointer (some ⟨h,0,none⟩))] c∧Sym w0 M I I_ [pto g (.cells #[.int .i64 a0.Hi,.int .u64 a0.Lo] 155 (0,0)),pto h (.cells #[.int .i64 a1.Hi,.int .u64 a1.Lo] 155 (0,0))] w) (fun i hd=>?_) ?_
 · skip
   refine .sr (.fa un155 r sz2 r (o:=0) r r r (.load1 ia2 r (.s .z) r r r (.fa un155 r sz2 r (o:=0) r r r (.load1 ia2 r .z r r r (.ks 2 r ?_)))))
   refine splitP hd (fun a hd=>?_) fun a hd=>?_
   · rw [a]
     exact .ks 13 r (.nilS [23,3,2] r r (.condKT r r (.sr (.ks 1 r (.nilS [4] r r (.drop .z (.drop .z (.ret (pret results185 (.t r .n) (.refl _) ⟨(-1),r,hd⟩)))))))))
   rw [a]
   refine .gyes r r r (.fa un155 r sz2 r (o:=0) r r r (.gyes r r r (.load1 ia2 r (.s .z) r r r (.gyes r r r (.fa un155 r sz2 r (o:=0) r r r (.gyes r r r (.load1 ia2 r .z r r r (.ks 2 r ?_))))))))
   refine splitP hd (fun b hd=>?_) fun b hd=>?_
   · rw [b]
     refine .gyes r r r (.fa un155 r sz96 r (o:=1) r r r (.gyes r r r (.load1 ia96 r (.s .z) r r r (.gyes r r r (.fa un155 r sz96 r (o:=1) r r r (.gyes r r r (.load1 ia96 r .z r r r (.ks 3 r (.nilS [23,3,2] r r (.condP r hd (fun e hd=>?_) fun e hd=>?_))))))))))
     · exact .sr (.ks 1 r (.nilS [4] r r (.drop .z (.drop .z (.ret (pret results185 (.t r .n) (.refl _) ⟨(-1),r,hd⟩))))))
     exact .skip' fun c w ho hs=>⟨(),hd,I,(.refl _),ho.sub ⟨r,r,trivial⟩,hs.pick (.c (.s .z) (.c .z .n))⟩
   rw [b]
   exact .ks 7 r (.nilS [23,3,2] r r (.condKF r r (.skip' fun c w ho hs=>⟨(),hd,I,(.refl _),ho.sub ⟨r,r,trivial⟩,hs.pick (.c (.s .z) (.c .z .n))⟩)))
 rintro ⟨⟩ hd c w hst
 obtain ⟨j,d,hok,hsym⟩:=hst
 refine Cod.at hok hsym (.seq (.sr (.loadW ia155 sz155 r .z r r r (.loadW ia155 sz155 r (.s .z) r r r (.eqV r r (EQ155 a0 a1) (EG155 _ _ _ _ _) r r r (.nilS [26] r r (.drop .z (.drop .z (.condP r hd (fun f hd=>?_) fun f hd=>?_)))))))))
 · exact .sr (.ks 1 r (.nilS [4] r r (.ret (pret results185 (.t r .n) d ⟨0,r,hd⟩))))
 exact .skipS [] r r (.sr (.ks 1 r (.nilS [4] r r (.ret (pret results185 (.t r .n) d ⟨1,r,hd⟩)))))
theorem W_ref02_truth {I:IH} {a0:Bool} {Q:Wide→Prop}  (hd:ref02_truth a0 Q) :
  PFun prog 186 [.bool a0] I (fun _=>o3_ Q):=by
 refine Fun.enter func186 r ntmps186 r (.c .n) fun w0 M=>?_
 refine .sr (.allocA zv155 r r fun b=>?_)
 refine .nilS [2,0] r r (.seq (.sr (.ks 1 r (.nilS [3,2] r r (.condP r hd (fun a hd=>?_) fun a hd=>?_)))))
 · exact .sr (.build zv155 un155 BI155 (.c r r r (.s (.t .nil)) .n) (by exact ⟨⟨_,_,r,r,r⟩,trivial⟩) r r (.storeA sz155 r r .z (.t (.t .nil)) r r (.nilS [2] r r (.ret (pret results186 (.w ia155 sz155 r .z r .n) (.refl _) ⟨({ Hi:=0,Lo:=1 }:Wide),r,hd⟩)))))
 exact .skipS [2] r r (.sr (.build zv155 un155 BI155 .n (by exact trivial) r r (.storeA sz155 r r .z (.t (.t .nil)) r r (.nilS [2] r r (.ret (pret results186 (.w ia155 sz155 r .z r .n) (.refl _) ⟨({ Hi:=0,Lo:=0 }:Wide),r,hd⟩))))))
theorem W_ref01_Add {I:IH} {a0:Wide} {a1:Wide} {Q:Wide→Prop}  (hd:ref01_Add a0 a1 Q) :
  PFun prog 187 [.agg (encWide a0).toArray,.agg (encWide a1).toArray] I (fun _=>o3_ Q):=by
 refine Fun.enter func187 r ntmps187 r (.c (.c .n)) fun w0 M=>?_
 refine .sr (.boxA r r r fun d=>?_)
 refine .boxA r r r fun e=>?_
 refine .allocA zv155 r r fun b=>?_
 refine .nilS [4,3,2] r r (.sr (.fa un155 r sz96 r (o:=1) r r r (.load1 ia96 r (.s (.s .z)) r r r (.fa un155 r sz96 r (o:=1) r r r (.load1 ia96 r (.s .z) r r r (.ks 2 r (.nilS [5,4,3,2] r r (.sr (.fa un155 r sz2 r (o:=0) r r r ?_)))))))))
 refine .load1 ia2 r (.s (.s .z)) r r r (.fa un155 r sz2 r (o:=0) r r r (.load1 ia2 r (.s .z) r r r (.ks 2 r (.nilS [6,5,4,2] r r (.drop (.s .z) (.seq (.sr (.ks 1 r (.fa un155 r sz96 r (o:=1) r r r ?_)))))))))
 refine .load1 ia96 r (.s .z) r r r (.ks 1 r (.nilS [20,6,5,4] r r (.drop (.s .z) (.condP r hd (fun a hd=>?_) fun a hd=>?_))))
 · exact .region (.ks 3 r (.nilS [6,5,4] r r (.sr (.ks 2 r (.build zv155 un155 BI155 (.c r r r (.t .nil) (.c r r r (.s (.t .nil)) .n)) (by exact ⟨⟨_,_,r,r,r⟩,⟨⟨_,_,r,r,r⟩,trivial⟩⟩) r r (.storeA sz155 r r .z (.t (.t .nil)) r r (.nilS [4] r r (.ret (pret results187 (.w ia155 sz155 r .z r .n) (.refl _) ⟨({ Hi:=w64 ((w64 (a0.Hi+a1.Hi))+1),Lo:=IntKind.wrap .u64 (a0.Lo+a1.Lo) }:Wide),r,hd⟩)))))))))
 exact .skipS [6,5,4] r r (.sr (.ks 2 r (.build zv155 un155 BI155 (.c r r r (.t .nil) (.c r r r (.s (.t .nil)) .n)) (by exact ⟨⟨_,_,r,r,r⟩,⟨⟨_,_,r,r,r⟩,trivial⟩⟩) r r (.storeA sz155 r r .z (.t (.t .nil)) r r (.nilS [4] r r (.ret (pret results187 (.w ia155 sz155 r .z r .n) (.refl _) ⟨({ Hi:=w64 (a0.Hi+a1.Hi),Lo:=IntKind.wrap .u64 (a0.Lo+a1.Lo) }:Wide),r,hd⟩)))))))
theorem W_ref02_Add {I:IH} {a0:Int} {a1:Wide} {a2:Wide} {Q:Wide→Prop}  (hd:ref02_Add a0 a1 a2 Q) :
  PFun prog 160 [.int .i64 a0,.agg (encWide a1).toArray,.agg (encWide a2).toArray] I (fun _=>o3_ Q):=by
 refine Fun.enter func160 r ntmps160 r (.c (.c (.c .n))) fun w0 M=>?_
 refine .sr (.boxA r r r fun A=>?_)
 refine .boxA r r r fun B=>?_
 refine .allocA zv155 r r fun e=>?_
 refine .nilS [6,5,4,0] r r (.sr (.ks 1 r (.nilS [7,6,5,4] r r (.block (.seq ?_)))))
 refine Cod.joinQ (σ:=Bool) hd (fun (f:Bool) c w=>∃ I_,IH.le I I_∧Ok ⟨35,[],none⟩ [(4,.pointer (some ⟨A,0,none⟩)),(5,.pointer (some ⟨B,0,none⟩)),(6,.pointer (some ⟨e,0,none⟩)),(7,.int .i64 a0),(9,.bool f)] c∧Sym w0 M I I_ [pto A (.cells #[.int .i64 a1.Hi,.int .u64 a1.Lo] 155 (0,0)),pto B (.cells #[.int .i64 a2.Hi,.int .u64 a2.Lo] 155 (0,0)),pto e (.cells #[.int .i64 0,.int .u64 0] 155 (0,0))] w) (fun F hd=>?_) ?_
 · skip
   refine .sr (.ks 2 r (.nilS [9,7,6,5,4] r r (.condP r hd (fun g hd=>?_) fun g hd=>?_)))
   · exact .skip' fun c w ho hs=>⟨(a0==1),hd,I,(.refl _),ho.sub ⟨r,r,r,r,r,trivial⟩,hs.pick (.c (.s (.s .z)) (.c (.s .z) (.c .z .n)))⟩
   refine .sr (.ks 2 r (.nilS [9,7,6,5,4] r r (.condP r hd (fun h hd=>?_) fun h hd=>?_)))
   · exact .skip' fun c w ho hs=>⟨(a0==3),hd,I,(.refl _),ho.sub ⟨r,r,r,r,r,trivial⟩,hs.pick (.c (.s (.s .z)) (.c (.s .z) (.c .z .n)))⟩
   exact .region (.ks 2 r (.nil' fun c w ho hs=>⟨(a0==4),hd,I,(.refl _),ho.sub ⟨r,r,r,r,r,trivial⟩,hs.pick (.c (.s (.s .z)) (.c (.s .z) (.c .z .n)))⟩))
 rintro f hd c w hst
 obtain ⟨d,a,hok,hsym⟩:=hst
 refine Cod.at hok hsym (.condP r hd (fun i hd=>?_) fun i hd=>?_)
 · refine .seq (.sr (.loadW ia155 sz155 r (.s .z) r r r (.loadW ia155 sz155 r .z r r r ?_)))
   have j:=W_ref01_Compare (I:=d) hd
   refine .callP call185 r j r r fun G k=>?_
   obtain ⟨H,rfl,hd⟩:=k
   refine .ks 1 r (.nilS [16,6,5,4] r r (.condP r hd (fun l hd=>?_) fun l hd=>?_))
   · exact .sr (.loadW ia155 sz155 r (.s .z) r r r (.storeA sz155 r r (.s (.s .z)) (.t (.t .nil)) r r (.nilS [6] r r (.drop .z (.drop .z (.ret (pret results160 (.w ia155 sz155 r .z r .n) a ⟨a2,r,hd⟩)))))))
   exact .skipS [6,4] r r (.drop (.s .z) (.sr (.loadW ia155 sz155 r .z r r r (.storeA sz155 r r (.s .z) (.t (.t .nil)) r r (.nilS [6] r r (.drop .z (.ret (pret results160 (.w ia155 sz155 r .z r .n) a ⟨a1,r,hd⟩))))))))
 refine .sr (.ks 2 r (.nilS [19,7,6,5,4] r r (.condP r hd (fun m hd=>?_) fun m hd=>?_)))
 · refine .sr (.loadW ia155 sz155 r .z r r r (.build zv155 un155 BI155 .n (by exact trivial) r r (.neV r r (EQ155 a1 ({ Hi:=0,Lo:=0 }:Wide)) (EG155 _ _ _ _ _) r r r (.ks 1 r ?_))))
   refine splitP hd (fun b hd=>?_) fun b hd=>?_
   · rw [b]
     refine .ks 4 r ?_
     have o:=W_ref02_truth (I:=d) hd
     refine .callP call186 r o r r fun J p=>?_
     obtain ⟨C,rfl,hd⟩:=p
     exact .storeA sz155 r r (.s (.s .z)) (.t (.t .nil)) r r (.nilS [6] r r (.drop .z (.drop .z (.ret (pret results160 (.w ia155 sz155 r .z r .n) a ⟨C,r,hd⟩)))))
   rw [b]
   refine .gyes r r r (.loadW ia155 sz155 r (.s .z) r r r (.gyes r r r (.build zv155 un155 BI155 .n (by exact trivial) r r (.gyes r r r (.neV r r (EQ155 a2 ({ Hi:=0,Lo:=0 }:Wide)) (EG155 _ _ _ _ _) r r r (.ks 1 r ?_))))))
   have q:=W_ref02_truth (I:=d) hd
   refine .callP call186 r q r r fun K u=>?_
   obtain ⟨D,rfl,hd⟩:=u
   exact .storeA sz155 r r (.s (.s .z)) (.t (.t .nil)) r r (.nilS [6] r r (.drop .z (.drop .z (.ret (pret results160 (.w ia155 sz155 r .z r .n) a ⟨D,r,hd⟩)))))
 refine .sr (.ks 2 r (.nilS [30,6,5,4] r r (.condP r hd (fun v hd=>?_) fun v hd=>?_)))
 · refine .sr (.loadW ia155 sz155 r .z r r r (.loadW ia155 sz155 r (.s .z) r r r ?_))
   have x:=W_ref01_Add (I:=d) hd
   refine .callP call187 r x r r fun L y=>?_
   obtain ⟨E,rfl,hd⟩:=y
   exact .storeA sz155 r r (.s (.s .z)) (.t (.t .nil)) r r (.nilS [6] r r (.drop .z (.drop .z (.ret (pret results160 (.w ia155 sz155 r .z r .n) a ⟨E,r,hd⟩)))))
 exact .sr (.build zv155 un155 BI155 .n (by exact trivial) r r (.storeA sz155 r r (.s (.s .z)) (.t (.t .nil)) r r (.nilS [6] r r (.drop .z (.drop .z (.ret (pret results160 (.w ia155 sz155 r .z r .n) a ⟨({ Hi:=0,Lo:=0 }:Wide),r,hd⟩)))))))
theorem W_ref01_Narrow {I:IH} {a0:Wide} {Q:(Int×Bool)→Prop}  (hd:ref01_Narrow a0 Q) :
  PFun prog 161 [.agg (encWide a0).toArray] I (fun _=>o4_ Q):=by
 refine Fun.enter func161 r ntmps161 r (.c .n) fun w0 M=>?_
 refine .sr (.boxA r r r fun h=>?_)
 refine .ks 2 r (.nilS [1] r r (.sr (.fa un155 r sz96 r (o:=1) r r r (.load1 ia96 r .z r r r (.conv un96 un2 r r r (.ks 1 r (.nilS [4,1] r r (.seq (.sr ?_)))))))))
 refine .fa un155 r sz2 r (o:=0) r r r (.load1 ia2 r .z r r r (.ks 2 r ?_))
 refine splitP hd (fun a hd=>?_) fun a hd=>?_
 · rw [a]
   refine .ks 4 r ?_
   refine splitP hd (fun b hd=>?_) fun b hd=>?_
   · rw [b]
     exact .ks 8 r (.nilS [23,4] r r (.drop .z (.condKT r r (.sr (.ks 3 r (.nilS [3,2] r r (.ret (pret results161 (.t r (.t r .n)) (.refl _) ⟨(w64 (a0.Lo),true),r,hd⟩))))))))
   rw [b]
   refine .gyes r r r (.fa un155 r sz2 r (o:=0) r r r (.gyes r r r (.load1 ia2 r .z r r r (.ks 2 r ?_))))
   refine splitP hd (fun d hd=>?_) fun d hd=>?_
   · rw [d]
     refine .ks 4 r (.nilS [23,4] r r (.drop .z (.condP r hd (fun g hd=>?_) fun g hd=>?_)))
     · exact .sr (.ks 3 r (.nilS [3,2] r r (.ret (pret results161 (.t r (.t r .n)) (.refl _) ⟨(w64 (a0.Lo),true),r,hd⟩))))
     exact .skipS [] r r (.sr (.ks 2 r (.nilS [3,2] r r (.ret (pret results161 (.t r (.t r .n)) (.refl _) ⟨(0,false),r,hd⟩)))))
   rw [d]
   exact .ks 4 r (.nilS [23,4] r r (.drop .z (.condKF r r (.skipS [] r r (.sr (.ks 2 r (.nilS [3,2] r r (.ret (pret results161 (.t r (.t r .n)) (.refl _) ⟨(0,false),r,hd⟩)))))))))
 rw [a]
 refine .ks 4 r (.gyes r r r (.fa un155 r sz2 r (o:=0) r r r (.gyes r r r (.load1 ia2 r .z r r r (.ks 2 r ?_)))))
 refine splitP hd (fun e hd=>?_) fun e hd=>?_
 · rw [e]
   refine .ks 4 r (.nilS [23,4] r r (.drop .z (.condP r hd (fun f hd=>?_) fun f hd=>?_)))
   · exact .sr (.ks 3 r (.nilS [3,2] r r (.ret (pret results161 (.t r (.t r .n)) (.refl _) ⟨(w64 (a0.Lo),true),r,hd⟩))))
   exact .skipS [] r r (.sr (.ks 2 r (.nilS [3,2] r r (.ret (pret results161 (.t r (.t r .n)) (.refl _) ⟨(0,false),r,hd⟩)))))
 rw [e]
 exact .ks 4 r (.nilS [23,4] r r (.drop .z (.condKF r r (.skipS [] r r (.sr (.ks 2 r (.nilS [3,2] r r (.ret (pret results161 (.t r (.t r .n)) (.refl _) ⟨(0,false),r,hd⟩)))))))))
theorem W_ref05_Combine {I:IH} {a0:Int} {a1:List Edge} {p1:Option Addr} {c2:Nat} {Q:((List Edge)×Int)→Prop} (R3:RepSl eEdge I p1 c2 a1) (hd:ref05_Combine a0 a1 Q) :
  OFun prog 111 [.int .i64 a0,.slice p1 a1.length c2] I (fun I_ v l=>∃ r p4 c5,v=.tuple #[.slice p4 r.1.length c5,.int .i64 r.2]∧l=[OwnSl eEdge 70 p4 c5 r.1]∧Q r):=by
 refine Fun.enter func111 r ntmps111 r (.c (.c .n)) fun w0 M=>?_
 refine .sr (.ks 2 r (.nilS [1,0] r r (.seq (.sr (.ks 1 r ?_)))))
 have k6:=W_ref02_Is (I:=I) hd
 refine .callP call157 r k6 r r fun q0 k7=>?_
 obtain ⟨q1,rfl,hd⟩:=k7
 refine .ks 1 r (.nilS [17,1,0] r r (.condP r hd (fun k8 hd=>?_) fun k8 hd=>?_))
 · exact .sr (.ks 2 r (.nilS [5,4] r r (.own0 eEdge 70 (.ret (oret results111 (.t r (.t r .n)) (.refl _) (.c .z .n) ⟨(([]:List Edge),8),_,_,r,r,hd⟩)))))
 refine .skipS [1,0] r r (.sr (.ks 1 r (.nilS [6,1,0] r r (.sr (.ks 1 r (.nilS [7,6,1,0] r r (.seq (.sr (.ks 1 r ?_)))))))))
 refine .nilS [8,7,6,1,0] r r (.block (.own0 eEdge 70 (.own0 eWide 155 (.loop hd (fun (s:(List Edge)×(List Wide)×Int) c w=>match s with | (m,d,h)=>∃ I_ u x i e,IH.le I I_∧Ok ⟨145,[],none⟩ [(0,.int .i64 a0),(1,.slice p1 a1.length c2),(6,.slice u m.length x),(7,.slice i d.length e),(8,.int .i64 h)] c∧Sym w0 M I I_ [OwnSl eEdge 70 u x m,OwnSl eWide 155 i e d] w) (fun c w ho hs=>⟨I,_,_,_,_,(.refl _),ho.sub ⟨r,r,r,r,r,trivial⟩,hs.pick (.c (.s .z) (.c .z .n))⟩) ?_))))
 rintro ⟨m,d,h⟩ k9 hd c w hst
 obtain ⟨H,u,x,i,e,J,hok,hsym⟩:=hst
 replace R3:=R3.mono J
 refine Cod.at hok hsym (.seq (.sr (.ks 2 r (.len un26 r r r r (.ks 1 r (.nilS [21,8,7,6,1,0] r r (.condP r hd (fun g0 hd=>?_) fun g0 hd=>?_)))))))
 · refine .skipS [8,7,6,1,0] r r (.seq (.block (.sr (.ks 1 r (.nilS [9,8,7,6,1,0] r r (.seq ?_))))))
   refine Cod.joinQ (σ:=Int) hd (fun (f:Int) c w=>∃ I_,IH.le H I_∧Ok ⟨145,[],none⟩ [(0,.int .i64 a0),(1,.slice p1 a1.length c2),(6,.slice u m.length x),(7,.slice i d.length e),(8,.int .i64 h),(9,.int .i64 f)] c∧Sym w0 M I I_ [OwnSl eEdge 70 u x m,OwnSl eWide 155 i e d] w) (fun m4 hd=>?_) ?_
   · skip
     refine .block (.loop hd (fun (K:Int) c w=>∃ I_,IH.le H I_∧Ok ⟨145,[],none⟩ [(0,.int .i64 a0),(1,.slice p1 a1.length c2),(6,.slice u m.length x),(7,.slice i d.length e),(8,.int .i64 h),(9,.int .i64 K)] c∧Sym w0 M I I_ [OwnSl eEdge 70 u x m,OwnSl eWide 155 i e d] w) (fun c w ho hs=>⟨H,(.refl _),ho.sub ⟨r,r,r,r,r,r,trivial⟩,hs.pick (.c .z (.c .z .n))⟩) ?_)
     rintro K l0 hd c w hst
     obtain ⟨T,F,hok,hsym⟩:=hst
     have l6:=IH.le.trans J F
     replace R3:=R3.mono F
     refine Cod.at hok hsym (.seq (.seq (.ownF .z fun f5=>?_)))
     refine .ownF (.s .z) fun l3=>?_
     refine .dr [0,1,2,3,4,5,6,7,8,9,10,11,12,13,14] 15 (.fk 2 r (.g r r r (fun _=>.len un26 r r r r .mk) (.fk 2 r ?_)))
     refine splitP hd (fun b hd=>?_) fun b hd=>?_
     · refine .g r r r (fun _=>.gyes r r b (.move r r r .mk)) (.g r r r (fun _=>.gyes r r b (.move r r r .mk)) ?_)
       obtain ⟨d1,m5,a2,hd⟩:=hd
       obtain ⟨m6,j1⟩:=f5 (idx_ne a2)
       cases j1
       refine .g r r r (fun _=>.gyes r r b (.ixa0 un26 sz70 r r d1 (idx_lt a2 d1) r r .mk)) (.g r r r (fun _=>.gyes r r b (.loA (j:=0) ia70 sz70 .z a2 r r (.t (.t (.t .nil))) r r r .mk)) (.g r r r (fun _=>.gyes r r b (.move r r r .mk)) (.g r r r (fun _=>.gyes r r b (.move r r r .mk)) ?_)))
       obtain ⟨d2,m7,b8,hd⟩:=hd
       obtain ⟨m8,o2887,l7,j2,g1,g2⟩:=R3.2 _ _ b8
       cases g2
       refine .g r r r (fun _=>.gyes r r b (.ixa un26 sz70 r j2 r d2 (idx_lt b8 d2) r r .mk)) (.g r r r (fun _=>.gyes r r b (.ldW ia70 sz70 g1 r r r r .mk)) (.ww r fun ex=>?_))
       have g3:=W_ref05_below (I:=T) hd
       refine .gyes r r b (.callP call158 r g3 r r fun m9 g4=>?_)
       obtain ⟨n0,rfl,hd⟩:=g4
       refine .so 2 r r r trivial (.g r r r (fun _=>.pickT r b r r r .mk) (.e2 15 (.nilS [38,9,8,7,6,1,0] r r (.condP r hd (fun g5 hd=>?_) fun g5 hd=>?_))))
       · exact .skipS [9,8,7,6,1,0] r r (.block (.region (.ks 3 r (.nil' fun c w ho hs=>⟨(w64 (K+1)),hd,T,F,ho.sub ⟨r,r,r,r,r,r,trivial⟩,hs.pick (.c .z (.c .z .n))⟩))))
       exact .exit fun c w ho hs=>⟨K,hd,T,F,ho.sub ⟨r,r,r,r,r,r,trivial⟩,hs.pick (.c .z (.c .z .n))⟩
     refine .g r r r (fun _=>.gno r r b r r .mk) (.g r r r (fun _=>.gno r r b r r .mk) (.g r r r (fun _=>.gno r r b r r .mk) (.g r r r (fun _=>.gno r r b r r .mk) (.g r r r (fun _=>.gno r r b r r .mk) (.g r r r (fun _=>.gno r r b r r .mk) (.g r r r (fun _=>.gno r r b r r .mk) (.g r r r (fun _=>.gno r r b r r .mk) (.g r r r (fun _=>.gno r r b r r .mk) (.g r r r (fun _=>.pickF r b r r r .mk) ?_)))))))))
     exact .e2 15 (.nilS [38,9,8,7,6,1,0] r r (.condKF r r (.exit fun c w ho hs=>⟨K,hd,T,F,ho.sub ⟨r,r,r,r,r,r,trivial⟩,hs.pick (.c .z (.c .z .n))⟩)))
   rintro f hd c w hst
   obtain ⟨L,a3,hok,hsym⟩:=hst
   have g6:=IH.le.trans J a3
   replace R3:=R3.mono a3
   refine Cod.at hok hsym (.sr (.ks 2 r ?_))
   obtain ⟨d3,n1,b9,hd⟩:=hd
   obtain ⟨n2,o2919,l8,j3,g7,g8⟩:=R3.2 _ _ b9
   cases g8
   refine .ixa un26 sz70 r j3 r d3 (idx_lt b9 d3) r r (.fa un70 r sz2 r (o:=o2919+h.toNat*3+2) r r r (.ld1 (j:=2) ia2 g7 r r r r r ?_))
   have g9:=W_ref01_Of (I:=L) hd
   refine .callP call159 r g9 r r fun n3 h0=>?_
   obtain ⟨y,rfl,hd⟩:=h0
   refine .allocA zv155 r r fun U=>?_
   refine .storeA sz155 r r .z (.t (.t .nil)) r r (.nilS [10,9,8,7,6,1,0] r r (.seq (.seq ?_)))
   refine Cod.joinQ (σ:=Bool) hd (fun (d4:Bool) c w=>∃ I_,IH.le L I_∧Ok ⟨145,[],none⟩ [(0,.int .i64 a0),(1,.slice p1 a1.length c2),(6,.slice u m.length x),(7,.slice i d.length e),(8,.int .i64 h),(9,.int .i64 f),(10,.pointer (some ⟨U,0,none⟩)),(62,.bool d4)] c∧Sym w0 M I I_ [OwnSl eEdge 70 u x m,OwnSl eWide 155 i e d,pto U (.cells #[.int .i64 y.Hi,.int .u64 y.Lo] 155 (0,0))] w) (fun n4 hd=>?_) ?_
   · skip
     refine .ownF (.s .z) fun f6=>?_
     refine .ownF (.s (.s .z)) fun l4=>?_
     refine .dr [0,1,2,3,4,5,6,7,8,9,10,11,12,13,14,15] 16 (.fk 2 r (.g r r r (fun _=>.len un26 r r r r .mk) (.fk 2 r ?_)))
     refine splitP hd (fun a hd=>?_) fun a hd=>?_
     · refine .g r r r (fun _=>.gyes r r a (.move r r r .mk)) (.g r r r (fun _=>.gyes r r a (.move r r r .mk)) ?_)
       obtain ⟨d5,n5,c0,hd⟩:=hd
       obtain ⟨n6,o3065,l9,j4,h1,h2⟩:=R3.2 _ _ c0
       cases h2
       refine .g r r r (fun _=>.gyes r r a (.ixa un26 sz70 r j4 r d5 (idx_lt c0 d5) r r .mk)) (.g r r r (fun _=>.gyes r r a (.ldW ia70 sz70 h1 r r r r .mk)) (.g r r r (fun _=>.gyes r r a (.move r r r .mk)) (.g r r r (fun _=>.gyes r r a (.move r r r .mk)) ?_)))
       obtain ⟨d6,n7,a4,hd⟩:=hd
       obtain ⟨n8,j5⟩:=f6 (idx_ne a4)
       cases j5
       refine .g r r r (fun _=>.gyes r r a (.ixa0 un26 sz70 r r d6 (idx_lt a4 d6) r r .mk)) (.g r r r (fun _=>.gyes r r a (.loA (j:=0) ia70 sz70 (.s .z) a4 r r (.t (.t (.t .nil))) r r r .mk)) (.ww r fun ex=>?_))
       have h3:=W_ref05_below (I:=L) hd
       refine .gyes r r a (.callP call158 r h3 r r fun n9 h4=>?_)
       obtain ⟨j6,rfl,hd⟩:=h4
       exact .so 3 r r r trivial (.g r r r (fun _=>.gyes r r a (.not r r r .mk)) (.g r r r (fun _=>.pickT r a r r r .mk) (.e2 16 (.nil' fun c w ho hs=>⟨(!j6),hd,L,(.refl _),ho.sub ⟨r,r,r,r,r,r,r,r,trivial⟩,hs.pick (.c (.s .z) (.c (.s .z) (.c .z .n)))⟩))))
     refine .g r r r (fun _=>.gno r r a r r .mk) (.g r r r (fun _=>.gno r r a r r .mk) (.g r r r (fun _=>.gno r r a r r .mk) (.g r r r (fun _=>.gno r r a r r .mk) (.g r r r (fun _=>.gno r r a r r .mk) (.g r r r (fun _=>.gno r r a r r .mk) (.g r r r (fun _=>.gno r r a r r .mk) (.g r r r (fun _=>.gno r r a r r .mk) (.g r r r (fun _=>.gno r r a r r .mk) (.g r r r (fun _=>.gno r r a r r .mk) ?_)))))))))
     exact .g r r r (fun _=>.pickF r a r r r .mk) (.e2 16 (.nil' fun c w ho hs=>⟨false,hd,L,(.refl _),ho.sub ⟨r,r,r,r,r,r,r,r,trivial⟩,hs.pick (.c (.s .z) (.c (.s .z) (.c .z .n)))⟩))
   rintro d4 hd c w hst
   obtain ⟨V,N,hok,hsym⟩:=hst
   have c1:=IH.le.trans g6 N
   have h5:=IH.le.trans a3 N
   replace R3:=R3.mono N
   refine Cod.at hok hsym (.condP r hd (fun h6 hd=>?_) fun h6 hd=>?_)
   · refine .seq (.ownF .z fun l5=>?_)
     refine .ownF (.s .z) fun f7=>?_
     refine .dr [0,1,2,3,4,5,6,7,8] 9 (.fk 5 r ?_)
     obtain ⟨d7,o0,a5,hd⟩:=hd
     obtain ⟨b2,j7⟩:=f7 (idx_ne a5)
     cases j7
     refine .g r r r (fun _=>.ixa0 un179 sz155 r r d7 (idx_lt a5 d7) r r .mk) (.g r r r (fun _=>.loA (j:=0) ia155 sz155 (.s .z) a5 r r (.t (.t .nil)) r r r .mk) (.g r r r (fun _=>.loadW ia155 sz155 r (.s (.s .z)) r r r .mk) (.ww r fun ex=>?_)))
     have h7:=W_ref02_Add (I:=V) hd
     refine .callP call160 r h7 r r fun o1 h8=>?_
     obtain ⟨O,rfl,hd⟩:=h8
     refine .so 3 r r r (.ck 2 r r trivial) (.e2 9 ?_)
     obtain ⟨d8,o2,c3,hd⟩:=hd
     exact .ixa0 un179 sz155 r r d8 (idx_lt c3 d8) r r (.stOA (j:=0) (v':=O) sz155 (.s .z) c3 r r r (.t (.t .nil)) r r (.sub (E':=[(0,_),(1,_),(6,_),(7,.slice (some ⟨b2,0,none⟩) (d.set f.toNat O).length e),(8,_),(9,_),(10,_),(62,_),(63,.slice (some ⟨b2,0,none⟩) (d.set f.toNat O).length e),(64,_),(65,_),(66,.slice (some ⟨b2,0,none⟩) (d.set f.toNat O).length e),(67,_),(68,_),(69,_),(70,_),(71,_),(72,_)]) ⟨r,r,r,(by simp only [List.length_set]; rfl),r,r,r,r,(by simp only [List.length_set]; rfl),r,r,(by simp only [List.length_set]; rfl),r,r,r,r,r,r,trivial⟩ (.nilS [8,7,6,1,0] r r (.drop (.s (.s .z)) (.exitS [8,7,6,1,0] r r (.region (.ks 3 r (.nil' fun c w ho hs=>⟨(m,(d.set f.toNat O),w64 (h+1)),hd,V,_,_,_,_,c1,ho.sub ⟨r,r,r,r,r,trivial⟩,hs.pick (.c .z (.c .z .n))⟩))))))))
   refine .skipS [10,9,8,7,6,1,0] r r (.sr (.ks 1 r (.build zv70 un70 BI70 .n (by exact trivial) r r (.buildSlice 1 un26 sz70 zv70 r r (.c r r r .n) r r fun o3=>?_))))
   obtain ⟨h9,hd⟩:=hd
   refine .append (ys:=[({ From:=0,To:=0,W:=0 }:Edge)]) 24 (.s .z) un26 un26 IN70 r r r r r r r r r (.box .z (.one r) r) h9 r r fun o4 o5=>?_
   refine .ks 1 r (.nilS [6,10,9,8,7,1,0] r r (.drop (.s .z) (.sr (.ks 1 r (.build zv155 un155 BI155 .n (by exact trivial) r r (.buildSlice 1 un179 sz155 zv155 r r (.c r r r .n) r r fun o6=>?_))))))
   obtain ⟨i0,hd⟩:=hd
   refine .append (ys:=[({ Hi:=0,Lo:=0 }:Wide)]) 16 (.s (.s .z)) un179 un179 IN155 r r r r r r r r r (.box .z (.one r) r) i0 r r fun o7 o8=>?_
   refine .ks 1 r (.nilS [7,6,10,9,8,1,0] r r (.drop (.s .z) (.seq (.sr (.ks 1 r (.len un26 r r r r (.ks 2 r (.nilS [11,7,6,10,9,8,1,0] r r (.block ?_)))))))))
   refine .loop hd (fun (s:(List Edge)×(List Wide)×Int) c w=>match s with | (p,q,k)=>∃ I_ b3 A b4 B,IH.le V I_∧Ok ⟨145,[],none⟩ [(0,.int .i64 a0),(1,.slice p1 a1.length c2),(6,.slice b3 p.length A),(7,.slice b4 q.length B),(8,.int .i64 h),(9,.int .i64 f),(10,.pointer (some ⟨U,0,none⟩)),(11,.int .i64 k)] c∧Sym w0 M I I_ [OwnSl eEdge 70 b3 A p,OwnSl eWide 155 b4 B q,pto U (.cells #[.int .i64 y.Hi,.int .u64 y.Lo] 155 (0,0))] w) (fun c w ho hs=>⟨V,_,_,_,_,(.refl _),ho.sub ⟨r,r,r,r,r,r,r,r,trivial⟩,hs.pick (.c (.s .z) (.c .z (.c .z .n)))⟩) ?_
   rintro ⟨p,q,k⟩ l1 hd c w hst
   obtain ⟨d9,b3,A,b4,B,G,hok,hsym⟩:=hst
   have i1:=IH.le.trans c1 G
   have m0:=IH.le.trans h5 G
   have m1:=IH.le.trans N G
   replace R3:=R3.mono G
   refine Cod.at hok hsym (.seq (.sr (.ks 3 r (.nilS [86,11,10,9,8,7,6,1,0] r r (.condP r hd (fun i2 hd=>?_) fun i2 hd=>?_)))))
   · refine .skipS [11,10,9,8,7,6,1,0] r r (.seq (.block (.sr (.ks 5 r ?_))))
     obtain ⟨e0,P,a6,hd⟩:=hd
     refine .ownNe .z (idx_ne a6) fun b5 j8=>?_
     cases j8
     refine .ixa0 un26 sz70 r r e0 (idx_lt a6 e0) r r (.loA (j:=0) ia70 sz70 .z a6 r r (.t (.t (.t .nil))) r r r ?_)
     obtain ⟨e1,o9,c4,hd⟩:=hd
     refine .ixa0 un26 sz70 r r e1 (idx_lt c4 e1) r r (.stOA (j:=0) (v':=P) sz70 .z c4 r r r (.t (.t (.t .nil))) r r (.sub (E':=[(0,_),(1,_),(6,.slice (some ⟨b5,0,none⟩) (p.set k.toNat P).length A),(7,_),(8,_),(9,_),(10,_),(11,_),(89,.slice (some ⟨b5,0,none⟩) (p.set k.toNat P).length A),(90,_),(91,.slice (some ⟨b5,0,none⟩) (p.set k.toNat P).length A),(92,_),(93,_),(94,_),(95,_),(96,_)]) ⟨r,r,(by simp only [List.length_set]; rfl),r,r,r,r,r,(by simp only [List.length_set]; rfl),r,(by simp only [List.length_set]; rfl),r,r,r,r,r,trivial⟩ (.nilS [11,10,9,8,7,6,1,0] r r (.region (.ks 5 r ?_)))))
     obtain ⟨e3,R,a7,hd⟩:=hd
     refine .ownNe (.s .z) (idx_ne a7) fun b6 j9=>?_
     cases j9
     refine .ixa0 un179 sz155 r r e3 (idx_lt a7 e3) r r (.loA (j:=0) ia155 sz155 (.s .z) a7 r r (.t (.t .nil)) r r r ?_)
     obtain ⟨e4,p0,c6,hd⟩:=hd
     exact .ixa0 un179 sz155 r r e4 (idx_lt c6 e4) r r (.stOA (j:=0) (v':=R) sz155 (.s .z) c6 r r r (.t (.t .nil)) r r (.sub (E':=[(0,_),(1,_),(6,_),(7,.slice (some ⟨b6,0,none⟩) (q.set k.toNat R).length B),(8,_),(9,_),(10,_),(11,_),(97,.slice (some ⟨b6,0,none⟩) (q.set k.toNat R).length B),(98,_),(99,.slice (some ⟨b6,0,none⟩) (q.set k.toNat R).length B),(100,_),(101,_),(102,_),(103,_),(104,_)]) ⟨r,r,r,(by simp only [List.length_set]; rfl),r,r,r,r,(by simp only [List.length_set]; rfl),r,(by simp only [List.length_set]; rfl),r,r,r,r,r,trivial⟩ (.nilS [11,10,9,8,7,6,1,0] r r (.region (.ks 3 r (.nil' fun c w ho hs=>⟨((p.set k.toNat P),(q.set k.toNat R),w64 (k - 1)),hd,d9,_,_,_,_,G,ho.sub ⟨r,r,r,r,r,r,r,r,trivial⟩,hs.pick (.c .z (.c .z (.c .z .n)))⟩))))))
   refine .exitS [10,9,8,7,6,1,0] r r (.seq (.ownF .z fun f8=>?_))
   refine .ownF (.s .z) fun f9=>?_
   refine .dr [0,1,2,3,4,5,6,7,8,9,10,11,12] 13 (.fk 4 r ?_)
   obtain ⟨e5,X,c7,hd⟩:=hd
   obtain ⟨p2,o3320,m2,k0,i3,i4⟩:=R3.2 _ _ c7
   cases i4
   refine .g r r r (fun _=>.ixa un26 sz70 r k0 r e5 (idx_lt c7 e5) r r .mk) (.g r r r (fun _=>.fa un70 r sz3 r (o:=o3320+h.toNat*3) r r r .mk) (.g r r r (fun _=>.ld1 (j:=0) ia3 i3 r r r r r .mk) (.fk 2 r ?_)))
   obtain ⟨e6,Y,c8,hd⟩:=hd
   obtain ⟨p3,o3329,m3,k1,i5,i6⟩:=R3.2 _ _ c8
   cases i6
   refine .g r r r (fun _=>.ixa un26 sz70 r k1 r e6 (idx_lt c8 e6) r r .mk) (.g r r r (fun _=>.fa un70 r sz3 r (o:=o3329+h.toNat*3+1) r r r .mk) (.g r r r (fun _=>.ld1 (j:=1) ia3 i5 r r r r r .mk) (.g r r r (fun _=>.build zv70 un70 BI70 (.c r r r (.t .nil) (.c r r r (.s (.t .nil)) .n)) (by exact ⟨⟨_,_,r,r,r⟩,⟨⟨_,_,r,r,r⟩,trivial⟩⟩) r r .mk) (.e2 13 ?_))))
   obtain ⟨e7,p5,a8,hd⟩:=hd
   obtain ⟨e8,k2⟩:=f8 (idx_ne a8)
   cases k2
   refine .ixa0 un26 sz70 r r e7 (idx_lt a8 e7) r r (.stOA (j:=0) (v':=({ From:=X.From,To:=Y.To,W:=0 }:Edge)) sz70 .z a8 r r r (.t (.t (.t .nil))) r r (.sub (E':=[(0,_),(1,_),(6,.slice (some ⟨e8,0,none⟩) (p.set f.toNat ({ From:=X.From,To:=Y.To,W:=0 }:Edge)).length A),(7,_),(8,_),(9,_),(10,_),(105,.slice (some ⟨e8,0,none⟩) (p.set f.toNat ({ From:=X.From,To:=Y.To,W:=0 }:Edge)).length A),(106,_),(107,_),(108,_),(109,_),(110,_),(111,_),(112,_),(113,_),(114,_),(115,_),(116,_),(117,_),(118,_)]) ⟨r,r,(by simp only [List.length_set]; rfl),r,r,r,r,(by simp only [List.length_set]; rfl),r,r,r,r,r,r,r,r,r,r,r,r,r,trivial⟩ (.nilS [10,9,8,7,6,1,0] r r (.region (.ks 2 r (.loadW ia155 sz155 r (.s (.s .z)) r r r ?_))))))
   obtain ⟨e9,p6,a9,hd⟩:=hd
   obtain ⟨f0,k3⟩:=f9 (idx_ne a9)
   cases k3
   exact .ixa0 un179 sz155 r r e9 (idx_lt a9 e9) r r (.stOA (j:=0) (v':=y) sz155 (.s .z) a9 r r r (.t (.t .nil)) r r (.sub (E':=[(0,_),(1,_),(6,_),(7,.slice (some ⟨f0,0,none⟩) (q.set f.toNat y).length B),(8,_),(9,_),(10,_),(119,.slice (some ⟨f0,0,none⟩) (q.set f.toNat y).length B),(120,_),(121,_),(122,_)]) ⟨r,r,r,(by simp only [List.length_set]; rfl),r,r,r,(by simp only [List.length_set]; rfl),r,r,r,trivial⟩ (.nilS [8,7,6,1,0] r r (.drop (.s (.s .z)) (.region (.ks 3 r (.nil' fun c w ho hs=>⟨((p.set f.toNat ({ From:=X.From,To:=Y.To,W:=0 }:Edge)),(q.set f.toNat y),w64 (h+1)),hd,d9,_,_,_,_,i1,ho.sub ⟨r,r,r,r,r,trivial⟩,hs.pick (.c .z (.c .z .n))⟩)))))))
 refine .exitS [7,6] r r (.seq (.sr (.ks 1 r (.nilS [12,7,6] r r (.block (.loop hd (fun (s:(List Edge)×Int) c w=>match s with | (D,E)=>∃ I_ b7 S,IH.le H I_∧Ok ⟨145,[],none⟩ [(6,.slice b7 D.length S),(7,.slice i d.length e),(12,.int .i64 E)] c∧Sym w0 M I I_ [OwnSl eEdge 70 b7 S D,OwnSl eWide 155 i e d] w) (fun c w ho hs=>⟨H,_,_,(.refl _),ho.sub ⟨r,r,r,trivial⟩,hs.pick (.c .z (.c .z .n))⟩) ?_))))))
 rintro ⟨D,E⟩ l2 hd c w hst
 obtain ⟨f1,b7,S,c9,hok,hsym⟩:=hst
 have d0:=IH.le.trans J c9
 refine Cod.at hok hsym (.seq (.sr (.ks 2 r (.len un26 r r r r (.ks 1 r (.nilS [126,12,7,6] r r (.condP r hd (fun i7 hd=>?_) fun i7 hd=>?_)))))))
 · refine .skipS [12,7,6] r r (.seq (.block (.sr (.ks 2 r ?_))))
   obtain ⟨f2,p7,b0,hd⟩:=hd
   refine .ownNe (.s .z) (idx_ne b0) fun p8 k4=>?_
   cases k4
   refine .ixa0 un179 sz155 r r f2 (idx_lt b0 f2) r r (.loA (j:=0) ia155 sz155 (.s .z) b0 r r (.t (.t .nil)) r r r ?_)
   have i8:=W_ref01_Narrow (I:=f1) hd
   refine .callP call161 r i8 r r fun p9 i9=>?_
   obtain ⟨Z,rfl,hd⟩:=i9
   refine .ks 5 r (.nilS [14,13,12,7,6] r r (.seq (.sr (.ks 2 r (.nilS [138,13,12,7,6] r r (.condP r hd (fun j0 hd=>?_) fun j0 hd=>?_))))))
   · exact .sr (.ks 2 r (.nilS [5,4] r r (.drop .z (.drop .z (.own0 eEdge 70 (.ret (oret results111 (.t r (.t r .n)) d0 (.c .z .n) ⟨(([]:List Edge),12),_,_,r,r,hd⟩)))))))
   refine .skipS [13,12,7,6] r r (.region (.ks 3 r ?_))
   obtain ⟨f3,C,b1,hd⟩:=hd
   refine .ownNe .z (idx_ne b1) fun f4 k5=>?_
   cases k5
   exact .ixa0 un26 sz70 r r f3 (idx_lt b1 f3) r r (.fa un70 r sz2 r (o:=E.toNat*3+2) r r r (.stO1 (j:=2) (v':=({ From:=C.From,To:=C.To,W:=Z.1 }:Edge)) sz2 .z b1 r r r (.s (.s (.t .nil))) r (.sub (E':=[(6,.slice (some ⟨f4,0,none⟩) (D.set E.toNat ({ From:=C.From,To:=C.To,W:=Z.1 }:Edge)).length S),(7,_),(12,_),(13,_),(139,.slice (some ⟨f4,0,none⟩) (D.set E.toNat ({ From:=C.From,To:=C.To,W:=Z.1 }:Edge)).length S),(140,_),(141,_),(142,_),(143,_)]) ⟨(by simp only [List.length_set]; rfl),r,r,r,(by simp only [List.length_set]; rfl),r,r,r,r,trivial⟩ (.nilS [12,7,6] r r (.region (.ks 3 r (.nil' fun c w ho hs=>⟨((D.set E.toNat ({ From:=C.From,To:=C.To,W:=Z.1 }:Edge)),w64 (E+1)),hd,f1,_,_,c9,ho.sub ⟨r,r,r,trivial⟩,hs.pick (.c .z (.c .z .n))⟩)))))))
 exact .exitS [6] r r (.drop (.s .z) (.sr (.ks 3 r (.nilS [5,4] r r (.ret (oret results111 (.t r (.t r .n)) d0 (.c .z .n) ⟨(D,0),_,_,r,r,hd⟩))))))
theorem W_ref05_Canon {I:IH} {a0:Graph} {p1:Option Addr} {c2:Nat} {Q:Graph→Prop} (R3:RepSl eEdge I p1 c2 a0.Edges) (hd:ref05_Canon a0 Q) :
  OFun prog 59 [.agg #[.int .i64 a0.N,.slice p1 a0.Edges.length c2]] I (fun _=>o11_ Q):=by
 refine Fun.enter func59 r ntmps59 r (.c .n) fun w0 M=>?_
 refine .sr (.boxA r r r fun f=>?_)
 refine .allocA zv28 r r fun g=>?_
 refine .nilS [2,1] r r (.sr (.fa un28 r sz26 r (o:=1) r r r (.load1 ia26 r (.s .z) r r r ?_)))
 have b:=W_ref05_Combine (I:=I) R3 hd
 refine .callO call111 r b r r fun h i j a d=>?_
 obtain ⟨e,k,l,rfl,rfl,hd⟩:=d
 replace R3:=R3.mono a
 refine .ks 5 r (.nilS [3,2,1] r r (.sr (.fa un28 r sz3 r (o:=0) r r r (.load1 ia3 r (.s (.s .z)) r r r (.ks 1 r (.build zv28 un28 BI28 (.c r r r (.t .nil) (.c r r r (.s (.t .nil)) .n)) (by exact ⟨⟨_,_,r,r,r⟩,⟨⟨_,_,r,r,r⟩,trivial⟩⟩) r r (.storeA sz28 r r (.s .z) (.t (.t .nil)) r r (.nilS [2] r r (.drop (.s (.s .z)) ?_)))))))))
 exact .ret (oret results59 (.w ia28 sz28 r (.s .z) r .n) a (.c .z .n) ⟨({ N:=a0.N,Edges:=e.1 }:Graph),_,_,r,r,hd⟩)
theorem W_ref05_Plain {I:IH} {a0:Graph} {p1:Option Addr} {c2:Nat} {Q:Graph→Prop} (R3:RepSl eEdge I p1 c2 a0.Edges) (hd:ref05_Plain a0 Q) :
  PFun prog 32 [.agg #[.int .i64 a0.N,.slice p1 a0.Edges.length c2]] I (o1_ Q):=by
 refine Fun.enter func32 r ntmps32 r (.c .n) fun w0 M=>?_
 refine .sr (.boxA r r r fun K=>?_)
 refine .allocA zv28 r r fun L=>?_
 refine .nilS [2,1] r r (.sr (.fa un28 r sz3 r (o:=0) r r r (.load1 ia3 r (.s .z) r r r (.build zv28 un28 BI28 (.c r r r (.t .nil) .n) (by exact ⟨⟨_,_,r,r,r⟩,trivial⟩) r r (.allocA zv28 r r fun O=>?_)))))
 refine .storeA sz28 r r .z (.t (.t .nil)) r r (.nilS [3,2,1] r r (.seq (.sr (.ks 1 r (.nilS [4,3,2,1] r r (.block (.own0 eEdge 70 (.loop hd (fun (s:(List Edge)×Int) c w=>match s with | (a,b)=>∃ I_ k l,IH.le I I_∧Ok ⟨35,[],none⟩ [(1,.pointer (some ⟨K,0,none⟩)),(2,.pointer (some ⟨L,0,none⟩)),(3,.pointer (some ⟨O,0,none⟩)),(4,.int .i64 b)] c∧Sym w0 M I I_ [pto K (.cells #[.int .i64 a0.N,.slice p1 a0.Edges.length c2] 28 (0,0)),pto L (.cells #[.int .i64 0,.slice none 0 0] 28 (0,0)),pto O (.cells #[.int .i64 a0.N,.slice k a.length l] 28 (0,0)),OwnSl eEdge 70 k l a] w) (fun c w ho hs=>⟨I,_,_,(.refl _),ho.sub ⟨r,r,r,r,trivial⟩,hs.pick (.c (.s (.s (.s .z))) (.c (.s (.s .z)) (.c (.s .z) (.c .z .n))))⟩) ?_))))))))
 rintro ⟨a,b⟩ X hd c w hst
 obtain ⟨Y,k,l,d,hok,hsym⟩:=hst
 replace R3:=R3.mono d
 refine Cod.at hok hsym (.seq (.sr (.ks 1 r (.fa un28 r sz26 r (o:=1) r r r (.load1 ia26 r .z r r r (.len un26 r r r r (.ks 1 r (.nilS [12,4,3,2,1] r r (.condP r hd (fun P hd=>?_) fun P hd=>?_)))))))))
 · refine .skipS [4,3,2,1] r r (.seq (.block (.ownF (.s (.s (.s .z))) fun Z=>?_)))
   refine .dr [0,1,2,3,4,5,6,7,8,9,10,11,12,13,14,15,16] 17 (.g r r r (fun _=>.fa un28 r sz26 r (o:=1) r r r .mk) (.g r r r (fun _=>.load1 ia26 r (.s (.s .z)) r r r .mk) (.g r r r (fun _=>.fa un28 r sz26 r (o:=1) r r r .mk) (.g r r r (fun _=>.load1 ia26 r .z r r r .mk) (.fk 1 r ?_)))))
   obtain ⟨m,p,f,hd⟩:=hd
   obtain ⟨a3,o104,a1,R,v,x⟩:=R3.2 _ _ f
   cases x
   refine .g r r r (fun _=>.ixa un26 sz70 r R r m (idx_lt f m) r r .mk) (.g r r r (fun _=>.fa un70 r sz3 r (o:=o104+b.toNat*3) r r r .mk) (.g r r r (fun _=>.ld1 (j:=0) ia3 v r r r r r .mk) (.g r r r (fun _=>.fa un28 r sz26 r (o:=1) r r r .mk) (.g r r r (fun _=>.load1 ia26 r .z r r r .mk) (.fk 1 r ?_)))))
   obtain ⟨q,u,h,hd⟩:=hd
   obtain ⟨a4,o113,a2,S,y,A⟩:=R3.2 _ _ h
   cases A
   refine .g r r r (fun _=>.ixa un26 sz70 r S r q (idx_lt h q) r r .mk) (.g r r r (fun _=>.fa un70 r sz3 r (o:=o113+b.toNat*3+1) r r r .mk) (.g r r r (fun _=>.ld1 (j:=1) ia3 y r r r r r .mk) (.g r r r (fun _=>.build zv70 un70 BI70 (.c r r r (.t .nil) (.c r r r (.s (.t .nil)) (.c r r r (.s (.s (.t .nil))) .n))) (by exact ⟨⟨_,_,r,r,r⟩,⟨⟨_,_,r,r,r⟩,⟨⟨_,_,r,r,r⟩,trivial⟩⟩⟩) r r .mk) (.ww r fun ex=>?_))))
   refine .buildSlice 1 un26 sz70 zv70 r r (.c r r r .n) r r fun a5=>?_
   refine .so 5 r r r (.cg r r r r (fun _=>.load1 ia26 r (.s (.s (.s .z))) r r r .mk) (.cg r r r r (fun _=>.fa un28 r sz26 r (o:=1) r r r .mk) trivial)) (.ww r fun ex=>?_)
   obtain ⟨B,hd⟩:=hd
   refine .append (ys:=[({ From:=p.From,To:=u.To,W:=1 }:Edge)]) 24 (.s (.s (.s (.s .z)))) un26 un26 IN70 r r r r r r r r r (.box .z (.one r) r) B r r fun a6 a7=>?_
   exact .so 5 r r r trivial (.e2 17 (.fa un28 r sz26 r (o:=1) r r r (.store1 sz26 r r (.s (.s (.s (.s .z)))) (.s (.t .nil)) r (.nilS [4,3,2,1] r r (.drop (.s .z) (.region (.ks 3 r (.nil' fun c w ho hs=>⟨((a++([({ From:=p.From,To:=u.To,W:=1 }:Edge)])),w64 (b+1)),hd,Y,_,_,d,ho.sub ⟨r,r,r,r,trivial⟩,hs.pick (.c (.s .z) (.c (.s .z) (.c (.s .z) (.c .z .n))))⟩))))))))
 refine .exitS [3,2] r r (.drop .z (.sr (.loadW ia28 sz28 r (.s .z) r r r (.pub (.s (.s .z)) fun T C e=>?_))))
 have D:=IH.le.trans d C
 have E:=W_ref05_Canon (I:=T) (a0:=({ N:=a0.N,Edges:=a }:Graph)) e hd
 refine .callO call59 r E r r fun a8 a9 b0 i F=>?_
 obtain ⟨U,b1,b2,rfl,rfl,hd⟩:=F
 have G:=IH.le.trans D i
 replace e:=e.mono i
 refine .storeA sz28 r r (.s .z) (.t (.t .nil)) r r (.nilS [2] r r (.drop (.s (.s .z)) (.pub .z fun b3 H V=>?_)))
 have J:=IH.le.trans G H
 exact .ret (pret results32 (.w ia28 sz28 r .z r .n) J ⟨U,_,_,r,V,hd⟩)
theorem W_ref05_Turn {I:IH} {a0:Graph} {p1:Option Addr} {c2:Nat} {Q:Graph→Prop} (R3:RepSl eEdge I p1 c2 a0.Edges) (hd:ref05_Turn a0 Q) :
  OFun prog 60 [.agg #[.int .i64 a0.N,.slice p1 a0.Edges.length c2]] I (fun _=>o11_ Q):=by
 refine Fun.enter func60 r ntmps60 r (.c .n) fun w0 M=>?_
 refine .sr (.boxA r r r fun B=>?_)
 refine .allocA zv28 r r fun C=>?_
 refine .nilS [2,1] r r (.sr (.fa un28 r sz3 r (o:=0) r r r (.load1 ia3 r (.s .z) r r r (.build zv28 un28 BI28 (.c r r r (.t .nil) .n) (by exact ⟨⟨_,_,r,r,r⟩,trivial⟩) r r (.allocA zv28 r r fun D=>?_)))))
 refine .storeA sz28 r r .z (.t (.t .nil)) r r (.nilS [3,2,1] r r (.seq (.sr (.ks 1 r (.nilS [4,3,2,1] r r (.block (.own0 eEdge 70 (.loop hd (fun (s:(List Edge)×Int) c w=>match s with | (d,h)=>∃ I_ i j,IH.le I I_∧Ok ⟨35,[],none⟩ [(1,.pointer (some ⟨B,0,none⟩)),(2,.pointer (some ⟨C,0,none⟩)),(3,.pointer (some ⟨D,0,none⟩)),(4,.int .i64 h)] c∧Sym w0 M I I_ [pto B (.cells #[.int .i64 a0.N,.slice p1 a0.Edges.length c2] 28 (0,0)),pto C (.cells #[.int .i64 0,.slice none 0 0] 28 (0,0)),pto D (.cells #[.int .i64 a0.N,.slice i d.length j] 28 (0,0)),OwnSl eEdge 70 i j d] w) (fun c w ho hs=>⟨I,_,_,(.refl _),ho.sub ⟨r,r,r,r,trivial⟩,hs.pick (.c (.s (.s (.s .z))) (.c (.s (.s .z)) (.c (.s .z) (.c .z .n))))⟩) ?_))))))))
 rintro ⟨d,h⟩ J hd c w hst
 obtain ⟨E,i,j,b,hok,hsym⟩:=hst
 replace R3:=R3.mono b
 refine Cod.at hok hsym (.seq (.sr (.ks 1 r (.fa un28 r sz26 r (o:=1) r r r (.load1 ia26 r .z r r r (.len un26 r r r r (.ks 1 r (.nilS [13,4,3,2,1] r r (.condP r hd (fun l hd=>?_) fun l hd=>?_)))))))))
 · refine .skipS [4,3,2,1] r r (.seq (.block (.sr (.fa un28 r sz26 r (o:=1) r r r (.load1 ia26 r .z r r r (.ks 1 r ?_))))))
   obtain ⟨k,a,f,hd⟩:=hd
   obtain ⟨L,o121,K,F,m,p⟩:=R3.2 _ _ f
   cases p
   refine .ixa un26 sz70 r F r k (idx_lt f k) r r (.ldW ia70 sz70 m r r r r (.allocA zv70 r r fun O=>?_))
   refine .storeA sz70 r r .z (.t (.t (.t .nil))) r r (.nilS [5,4,3,2,1] r r (.region (.fa un28 r sz26 r (o:=1) r r r (.load1 ia26 r (.s (.s (.s .z))) r r r (.fa un70 r sz3 r (o:=1) r r r (.load1 ia3 r .z r r r (.fa un70 r sz3 r (o:=0) r r r (.load1 ia3 r .z r r r (.fa un70 r sz2 r (o:=2) r r r ?_)))))))))
   refine .load1 ia2 r .z r r r (.build zv70 un70 BI70 (.c r r r (.t .nil) (.c r r r (.s (.t .nil)) (.c r r r (.s (.s (.t .nil))) .n))) (by exact ⟨⟨_,_,r,r,r⟩,⟨⟨_,_,r,r,r⟩,⟨⟨_,_,r,r,r⟩,trivial⟩⟩⟩) r r (.buildSlice 1 un26 sz70 zv70 r r (.c r r r .n) r r fun P=>?_))
   obtain ⟨q,hd⟩:=hd
   refine .append (ys:=[({ From:=a.To,To:=a.From,W:=a.W }:Edge)]) 24 (.s (.s (.s (.s (.s .z))))) un26 un26 IN70 r r r r r r r r r (.box .z (.one r) r) q r r fun R S=>?_
   exact .fa un28 r sz26 r (o:=1) r r r (.store1 sz26 r r (.s (.s (.s (.s (.s .z))))) (.s (.t .nil)) r (.nilS [4,3,2,1] r r (.drop (.s .z) (.drop (.s .z) (.region (.ks 3 r (.nil' fun c w ho hs=>⟨((d++([({ From:=a.To,To:=a.From,W:=a.W }:Edge)])),w64 (h+1)),hd,E,_,_,b,ho.sub ⟨r,r,r,r,trivial⟩,hs.pick (.c (.s .z) (.c (.s .z) (.c (.s .z) (.c .z .n))))⟩)))))))
 refine .exitS [3,2] r r (.drop .z (.sr (.loadW ia28 sz28 r (.s .z) r r r (.pub (.s (.s .z)) fun G u e=>?_))))
 have v:=IH.le.trans b u
 have x:=W_ref05_Canon (I:=G) (a0:=({ N:=a0.N,Edges:=d }:Graph)) e hd
 refine .callO call59 r x r r fun T U V g y=>?_
 obtain ⟨H,X,Y,rfl,rfl,hd⟩:=y
 have A:=IH.le.trans v g
 replace e:=e.mono g
 exact .storeA sz28 r r (.s .z) (.t (.t .nil)) r r (.nilS [2] r r (.drop (.s (.s .z)) (.ret (oret results60 (.w ia28 sz28 r (.s .z) r .n) A (.c .z .n) ⟨H,_,_,r,r,hd⟩))))
theorem W_ref05_Both {I:IH} {a0:Graph} {p1:Option Addr} {c2:Nat} {Q:Graph→Prop} (R3:RepSl eEdge I p1 c2 a0.Edges) (hd:ref05_Both a0 Q) :
  PFun prog 33 [.agg #[.int .i64 a0.N,.slice p1 a0.Edges.length c2]] I (o1_ Q):=by
 refine Fun.enter func33 r ntmps33 r (.c .n) fun w0 M=>?_
 refine .sr (.boxA r r r fun y=>?_)
 refine .allocA zv28 r r fun A=>?_
 refine .nilS [2,1] r r (.sr (.loadW ia28 sz28 r (.s .z) r r r ?_))
 have f:=W_ref05_Turn (I:=I) R3 hd
 refine .callO call60 r f r r fun B C D a g=>?_
 obtain ⟨e,E,F,rfl,rfl,hd⟩:=g
 replace R3:=R3.mono a
 refine .allocA zv28 r r fun G=>?_
 refine .storeA sz28 r r .z (.t (.t .nil)) r r (.nilS [3,2,1] r r (.sr (.fa un28 r sz26 r (o:=1) r r r (.load1 ia26 r .z r r r (.fa un28 r sz26 r (o:=1) r r r (.load1 ia26 r (.s (.s (.s .z))) r r r ?_))))))
 obtain ⟨h,hd⟩:=hd
 refine .append (ys:=a0.Edges) 24 (.s .z) un26 un26 IN70 r r r r r r r r r (.imm R3 r) h r r fun H J=>?_
 refine .fa un28 r sz26 r (o:=1) r r r (.store1 sz26 r r (.s .z) (.s (.t .nil)) r (.nilS [3,2] r r (.drop (.s (.s (.s .z))) (.sr (.loadW ia28 sz28 r (.s .z) r r r (.pub .z fun u i b=>?_))))))
 have j:=IH.le.trans a i
 have k:=W_ref05_Canon (I:=u) (a0:=({ N:=e.N,Edges:=(e.Edges++a0.Edges) }:Graph)) b hd
 refine .callO call59 r k r r fun K L O d l=>?_
 obtain ⟨v,P,R,rfl,rfl,hd⟩:=l
 have m:=IH.le.trans j d
 replace b:=b.mono d
 refine .storeA sz28 r r (.s (.s .z)) (.t (.t .nil)) r r (.nilS [2] r r (.drop (.s .z) (.pub .z fun S p x=>?_)))
 have q:=IH.le.trans m p
 exact .ret (pret results33 (.w ia28 sz28 r .z r .n) q ⟨v,_,_,r,x,hd⟩)
theorem W_ref05_Simple {I:IH} {a0:Graph} {p1:Option Addr} {c2:Nat} {Q:Graph→Prop} (R3:RepSl eEdge I p1 c2 a0.Edges) (hd:ref05_Simple a0 Q) :
  PFun prog 34 [.agg #[.int .i64 a0.N,.slice p1 a0.Edges.length c2]] I (o1_ Q):=by
 refine Fun.enter func34 r ntmps34 r (.c .n) fun w0 M=>?_
 refine .sr (.boxA r r r fun T=>?_)
 refine .allocA zv28 r r fun U=>?_
 refine .nilS [2,1] r r (.sr (.fa un28 r sz3 r (o:=0) r r r (.load1 ia3 r (.s .z) r r r (.build zv28 un28 BI28 (.c r r r (.t .nil) .n) (by exact ⟨⟨_,_,r,r,r⟩,trivial⟩) r r (.allocA zv28 r r fun V=>?_)))))
 refine .storeA sz28 r r .z (.t (.t .nil)) r r (.nilS [3,2,1] r r (.seq (.sr (.ks 1 r (.nilS [4,3,2,1] r r (.block (.own0 eEdge 70 (.loop hd (fun (s:(List Edge)×Int) c w=>match s with | (a,b)=>∃ I_ e f,IH.le I I_∧Ok ⟨40,[],none⟩ [(1,.pointer (some ⟨T,0,none⟩)),(2,.pointer (some ⟨U,0,none⟩)),(3,.pointer (some ⟨V,0,none⟩)),(4,.int .i64 b)] c∧Sym w0 M I I_ [pto T (.cells #[.int .i64 a0.N,.slice p1 a0.Edges.length c2] 28 (0,0)),pto U (.cells #[.int .i64 0,.slice none 0 0] 28 (0,0)),pto V (.cells #[.int .i64 a0.N,.slice e a.length f] 28 (0,0)),OwnSl eEdge 70 e f a] w) (fun c w ho hs=>⟨I,_,_,(.refl _),ho.sub ⟨r,r,r,r,trivial⟩,hs.pick (.c (.s (.s (.s .z))) (.c (.s (.s .z)) (.c (.s .z) (.c .z .n))))⟩) ?_))))))))
 rintro ⟨a,b⟩ a3 hd c w hst
 obtain ⟨p,e,f,d,hok,hsym⟩:=hst
 replace R3:=R3.mono d
 refine Cod.at hok hsym (.seq (.sr (.ks 1 r (.fa un28 r sz26 r (o:=1) r r r (.load1 ia26 r .z r r r (.len un26 r r r r (.ks 1 r (.nilS [12,4,3,2,1] r r (.condP r hd (fun y hd=>?_) fun y hd=>?_)))))))))
 · refine .skipS [4,3,2,1] r r (.seq (.block (.seq (.ownF (.s (.s (.s .z))) fun a4=>?_))))
   refine .dr [0,1,2,3,4,5,6,7,8,9,10,11,12] 13 (.g r r r (fun _=>.fa un28 r sz26 r (o:=1) r r r .mk) (.g r r r (fun _=>.load1 ia26 r .z r r r .mk) (.fk 1 r ?_)))
   obtain ⟨q,a9,i,hd⟩:=hd
   obtain ⟨b0,o181,a6,W,A,B⟩:=R3.2 _ _ i
   cases B
   refine .g r r r (fun _=>.ixa un26 sz70 r W r q (idx_lt i q) r r .mk) (.g r r r (fun _=>.fa un70 r sz3 r (o:=o181+b.toNat*3) r r r .mk) (.g r r r (fun _=>.ld1 (j:=0) ia3 A r r r r r .mk) (.g r r r (fun _=>.fa un28 r sz26 r (o:=1) r r r .mk) (.g r r r (fun _=>.load1 ia26 r .z r r r .mk) (.fk 1 r ?_)))))
   obtain ⟨u,b1,k,hd⟩:=hd
   obtain ⟨b2,o190,a7,X,C,D⟩:=R3.2 _ _ k
   cases D
   refine .g r r r (fun _=>.ixa un26 sz70 r X r u (idx_lt k u) r r .mk) (.g r r r (fun _=>.fa un70 r sz3 r (o:=o190+b.toNat*3+1) r r r .mk) (.g r r r (fun _=>.ld1 (j:=1) ia3 C r r r r r .mk) (.fk 1 r (.e2 13 (.nilS [27,4,3,2,1] r r (.condP r hd (fun E hd=>?_) fun E hd=>?_))))))
   · refine .ownF (.s (.s (.s .z))) fun a5=>?_
     refine .dr [0,1,2,3,4,5,6,7,8] 9 (.g r r r (fun _=>.fa un28 r sz26 r (o:=1) r r r .mk) (.g r r r (fun _=>.load1 ia26 r (.s (.s .z)) r r r .mk) (.g r r r (fun _=>.fa un28 r sz26 r (o:=1) r r r .mk) (.g r r r (fun _=>.load1 ia26 r .z r r r .mk) (.fk 1 r ?_)))))
     obtain ⟨v,x,l,hd⟩:=hd
     obtain ⟨b3,o201,a8,Y,F,G⟩:=R3.2 _ _ l
     cases G
     refine .g r r r (fun _=>.ixa un26 sz70 r Y r v (idx_lt l v) r r .mk) (.g r r r (fun _=>.ldW ia70 sz70 F r r r r .mk) (.ww r fun ex=>?_))
     refine .buildSlice 1 un26 sz70 zv70 r r (.c r r r .n) r r fun b4=>?_
     refine .so 5 r r r (.cg r r r r (fun _=>.load1 ia26 r (.s (.s (.s .z))) r r r .mk) (.cg r r r r (fun _=>.fa un28 r sz26 r (o:=1) r r r .mk) trivial)) (.ww r fun ex=>?_)
     obtain ⟨H,hd⟩:=hd
     refine .append (ys:=[x]) 24 (.s (.s (.s (.s .z)))) un26 un26 IN70 r r r r r r r r r (.box .z (.one r) r) H r r fun b5 b6=>?_
     exact .so 5 r r r trivial (.e2 9 (.fa un28 r sz26 r (o:=1) r r r (.store1 sz26 r r (.s (.s (.s (.s .z)))) (.s (.t .nil)) r (.nilS [4,3,2,1] r r (.drop (.s .z) (.region (.ks 3 r (.nil' fun c w ho hs=>⟨((a++([x])),w64 (b+1)),hd,p,_,_,d,ho.sub ⟨r,r,r,r,trivial⟩,hs.pick (.c (.s .z) (.c (.s .z) (.c (.s .z) (.c .z .n))))⟩))))))))
   exact .skipS [4,3,2,1] r r (.region (.ks 3 r (.nil' fun c w ho hs=>⟨(a,w64 (b+1)),hd,p,_,_,d,ho.sub ⟨r,r,r,r,trivial⟩,hs.pick (.c .z (.c .z (.c .z (.c .z .n))))⟩)))
 refine .exitS [3,2] r r (.drop .z (.sr (.loadW ia28 sz28 r (.s .z) r r r (.pub (.s (.s .z)) fun Z J h=>?_))))
 have K:=IH.le.trans d J
 have L:=W_ref05_Canon (I:=Z) (a0:=({ N:=a0.N,Edges:=a }:Graph)) h hd
 refine .callO call59 r L r r fun b7 b8 b9 m O=>?_
 obtain ⟨a1,c0,c1,rfl,rfl,hd⟩:=O
 have P:=IH.le.trans K m
 replace h:=h.mono m
 refine .storeA sz28 r r (.s .z) (.t (.t .nil)) r r (.nilS [2] r r (.drop (.s (.s .z)) (.pub .z fun c3 R a2=>?_)))
 have S:=IH.le.trans P R
 exact .ret (pret results34 (.w ia28 sz28 r .z r .n) S ⟨a1,_,_,r,a2,hd⟩)
theorem W_ref07_Empty {I:IH} {a0:Int} {a1:Int} {Q:Rows→Prop}  (hd:ref07_Empty a0 a1 Q) :
  OFun prog 112 [.int .i64 a0,.int .i64 a1] I (fun _=>o7_ Q):=by
 refine Fun.enter func112 r ntmps112 r (.c (.c .n)) fun w0 M=>?_
 refine .sr (.allocA zv53 r r fun d=>?_)
 refine .nilS [4,1,0] r r (.sr (.ks 4 r ?_))
 obtain ⟨a,b,hd⟩:=hd
 refine .make (El:=eI64) (zv:=0) 8 un51 IN3 r r r r r r a b r r r fun e=>?_
 exact .build zv53 un53 BI53 (.c r r r (.t .nil) (.c r r r (.s (.t .nil)) (.c r r r (.s (.s (.t .nil))) .n))) (by exact ⟨⟨_,_,r,r,r⟩,⟨⟨_,_,r,r,r⟩,⟨⟨_,_,r,r,r⟩,trivial⟩⟩⟩) r r (.storeA sz53 r r (.s .z) (.t (.t (.t (.t (.t .nil))))) r r (.nilS [4] r r (.own0 eI64 3 (.own0 eI64 2 (.ret (oret results112 (.w ia53 sz53 r (.s (.s (.s .z))) r .n) (.refl _) (.c (.s (.s .z)) (.c (.s .z) (.c .z .n))) ⟨({ Rows:=a0,Cols:=a1,Start:=(List.replicate (w64 (a0+1)).toNat 0),Col:=([]:List Int),Val:=([]:List Int) }:Rows),_,_,_,_,_,_,r,r,hd⟩))))))
theorem W_ref07_built {I:IH} {a0:Int} {a1:Int} {a2:List Triple} {p1:Option Addr} {c2:Nat} {Q:Rows→Prop} (R3:RepSl eTriple I p1 c2 a2) (hd:ref07_built a0 a1 a2 Q) :
  PFun prog 61 [.int .i64 a0,.int .i64 a1,.slice p1 a2.length c2] I (o8_ Q):=by
 refine Fun.enter func61 r ntmps61 r (.c (.c (.c .n))) fun w0 M=>?_
 refine .sr (.allocA zv53 r r fun S=>?_)
 refine .nilS [6,2,1,0] r r (.sr (.ks 2 r ?_))
 have c9:=W_ref07_Empty (I:=I) hd
 refine .callO call112 r c9 r r fun g0 c8 g1 Z d0=>?_
 obtain ⟨h,g2,g3,g4,g5,g6,g7,rfl,rfl,hd⟩:=d0
 replace R3:=R3.mono Z
 refine .allocA zv53 r r fun C=>?_
 refine .storeA sz53 r r .z (.t (.t (.t (.t (.t .nil))))) r r (.nilS [7,6,2,0] r r (.seq (.sr (.ks 1 r (.nilS [8,7,6,2,0] r r (.block (.loop hd (fun (s:(List Int)×(List Int)×(List Int)×Int) c w=>match s with | (v,a,b,d)=>∃ I_ D E F G H J,IH.le c8 I_∧Ok ⟨58,[],none⟩ [(0,.int .i64 a0),(2,.slice p1 a2.length c2),(6,.pointer (some ⟨S,0,none⟩)),(7,.pointer (some ⟨C,0,none⟩)),(8,.int .i64 d)] c∧Sym w0 M I I_ [pto S (.cells #[.int .i64 0,.int .i64 0,.slice none 0 0,.slice none 0 0,.slice none 0 0] 53 (0,0)),pto C (.cells #[.int .i64 h.Rows,.int .i64 h.Cols,.slice D v.length E,.slice F a.length G,.slice H b.length J] 53 (0,0)),OwnSl eI64 3 D E v,OwnSl eI64 3 F G a,OwnSl eI64 2 H J b] w) (fun c w ho hs=>⟨c8,_,_,_,_,_,_,(.refl _),ho.sub ⟨r,r,r,r,r,trivial⟩,hs.pick (.c (.s (.s (.s (.s .z)))) (.c .z (.c .z (.c .z (.c .z .n)))))⟩) ?_)))))))
 rintro ⟨v,a,b,d⟩ d6 hd c w hst
 obtain ⟨a3,D,E,F,G,H,J,i,hok,hsym⟩:=hst
 have T:=IH.le.trans Z i
 replace R3:=R3.mono i
 refine Cod.at hok hsym (.seq (.sr (.ks 2 r (.len un98 r r r r (.ks 1 r (.nilS [16,8,7,6,2,0] r r (.condP r hd (fun b1 hd=>?_) fun b1 hd=>?_)))))))
 · refine .skipS [8,7,6,2,0] r r (.seq (.block (.seq (.ownF (.s (.s .z)) fun d8=>?_))))
   refine .ownF (.s (.s (.s .z))) fun d9=>?_
   refine .ownF (.s (.s (.s (.s .z)))) fun e0=>?_
   refine .dr [0,1,2,3,4,5,6,7,8] 9 (.g r r r (fun _=>.fa un53 r sz51 r (o:=3) r r r .mk) (.g r r r (fun _=>.load1 ia51 r (.s .z) r r r .mk) (.fk 2 r ?_)))
   obtain ⟨a4,m,U,hd⟩:=hd
   obtain ⟨f0,o434,e5,d1,b2,b3⟩:=R3.2 _ _ U
   cases b3
   refine .g r r r (fun _=>.ixa un98 sizeOf100 r d1 r a4 (idx_lt U a4) r r .mk) (.g r r r (fun _=>.fa un100 r sz3 r (o:=o434+d.toNat*3+1) r r r .mk) (.g r r r (fun _=>.ld1 (j:=1) ia3 b2 r r r r r .mk) (.ww r fun ex=>?_)))
   refine .buildSlice 1 un51 sz3 zv3 r r (.c r r r .n) r r fun f1=>?_
   refine .so 6 r r r (.cg r r r r (fun _=>.load1 ia51 r (.s (.s .z)) r r r .mk) (.cg r r r r (fun _=>.fa un53 r sz51 r (o:=3) r r r .mk) trivial)) (.ww r fun ex=>?_)
   obtain ⟨b4,hd⟩:=hd
   refine .append (ys:=[m.Col]) 8 (.s (.s (.s (.s .z)))) un51 un51 IN3 r r r r r r r r r (.box .z (.one r) r) b4 r r fun K L=>?_
   refine .so 6 r r r trivial (.e2 9 (.fa un53 r sz51 r (o:=3) r r r (.store1 sz51 r r (.s (.s (.s .z))) (.s (.s (.s (.t .nil)))) r (.nilS [8,7,6,2,0] r r (.drop (.s .z) (.seq (.ownF .z fun e1=>?_)))))))
   refine .ownF (.s (.s (.s .z))) fun e3=>?_
   refine .ownF (.s (.s (.s (.s .z)))) fun e4=>?_
   refine .dr [0,1,2,3,4,5,6,7,8] 9 (.g r r r (fun _=>.fa un53 r sz23 r (o:=4) r r r .mk) (.g r r r (fun _=>.load1 ia23 r (.s (.s .z)) r r r .mk) (.fk 2 r ?_)))
   obtain ⟨a5,p,V,hd⟩:=hd
   obtain ⟨f2,o470,e6,d2,b5,b6⟩:=R3.2 _ _ V
   cases b6
   refine .g r r r (fun _=>.ixa un98 sizeOf100 r d2 r a5 (idx_lt V a5) r r .mk) (.g r r r (fun _=>.fa un100 r sz2 r (o:=o470+d.toNat*3+2) r r r .mk) (.g r r r (fun _=>.ld1 (j:=2) ia2 b5 r r r r r .mk) (.ww r fun ex=>?_)))
   refine .buildSlice 1 un23 sz2 zv2 r r (.c r r r .n) r r fun f3=>?_
   refine .so 6 r r r (.cg r r r r (fun _=>.load1 ia23 r (.s (.s (.s .z))) r r r .mk) (.cg r r r r (fun _=>.fa un53 r sz23 r (o:=4) r r r .mk) trivial)) (.ww r fun ex=>?_)
   obtain ⟨b7,hd⟩:=hd
   refine .append (ys:=[p.Val]) 8 (.s (.s (.s (.s (.s .z))))) un23 un23 IN2 r r r r r r r r r (.box .z (.one r) r) b7 r r fun N O=>?_
   refine .so 6 r r r trivial (.e2 9 (.fa un53 r sz23 r (o:=4) r r r (.store1 sz23 r r (.s (.s (.s (.s .z)))) (.s (.s (.s (.s (.t .nil))))) r (.nilS [8,7,6,2,0] r r (.drop (.s .z) (.sr (.ks 2 r ?_)))))))
   obtain ⟨a6,f4,W,hd⟩:=hd
   obtain ⟨f5,o494,e7,d3,b8,b9⟩:=R3.2 _ _ W
   cases b9
   refine .ixa un98 sizeOf100 r d3 r a6 (idx_lt W a6) r r (.fa un100 r sz3 r (o:=o494+d.toNat*3) r r r (.ld1 (j:=0) ia3 b8 r r r r r (.ks 2 r (.nilS [9,8,7,6,2,0] r r (.block (.loop hd (fun (s:(List Int)×Int) c w=>match s with | (e,f)=>∃ I_ P q,IH.le a3 I_∧Ok ⟨58,[],none⟩ [(0,.int .i64 a0),(2,.slice p1 a2.length c2),(6,.pointer (some ⟨S,0,none⟩)),(7,.pointer (some ⟨C,0,none⟩)),(8,.int .i64 d),(9,.int .i64 f)] c∧Sym w0 M I I_ [pto S (.cells #[.int .i64 0,.int .i64 0,.slice none 0 0,.slice none 0 0,.slice none 0 0] 53 (0,0)),pto C (.cells #[.int .i64 h.Rows,.int .i64 h.Cols,.slice P e.length q,.slice K (a++([m.Col])).length L,.slice N (b++([p.Val])).length O] 53 (0,0)),OwnSl eI64 3 P q e,OwnSl eI64 3 K L (a++([m.Col])),OwnSl eI64 2 N O (b++([p.Val]))] w) (fun c w ho hs=>⟨a3,_,_,(.refl _),ho.sub ⟨r,r,r,r,r,r,trivial⟩,hs.pick (.c (.s (.s .z)) (.c (.s (.s .z)) (.c (.s (.s .z)) (.c (.s .z) (.c .z .n)))))⟩) ?_))))))
   rintro ⟨e,f⟩ d7 hd c w hst
   obtain ⟨a7,P,q,k,hok,hsym⟩:=hst
   have e8:=IH.le.trans T k
   have c0:=IH.le.trans i k
   replace R3:=R3.mono k
   refine Cod.at hok hsym (.seq (.sr (.ks 3 r (.nilS [47,9,8,7,6,2,0] r r (.condP r hd (fun c1 hd=>?_) fun c1 hd=>?_)))))
   · refine .skipS [9,8,7,6,2,0] r r (.seq (.block (.region (.fa un53 r sz51 r (o:=2) r r r (.load1 ia51 r (.s .z) r r r (.ks 1 r ?_))))))
     obtain ⟨a8,x,y,hd⟩:=hd
     refine .ownNe (.s (.s .z)) (idx_ne y) fun a9 d4=>?_
     cases d4
     refine .ixa0 un51 sz3 r r a8 (idx_lt y a8) r r (.lo1 (j:=0) ia3 (.s (.s .z)) y r r r r r (.ks 1 r ?_))
     obtain ⟨b0,f6,X,hd⟩:=hd
     exact .ixa0 un51 sz3 r r b0 (idx_lt X b0) r r (.stO1 (j:=0) (v':=(w64 (x+1))) sz3 (.s (.s .z)) X r r r (.t .nil) r (.sub (E':=[(0,_),(2,_),(6,_),(7,_),(8,_),(9,_),(50,_),(51,.slice (some ⟨a9,0,none⟩) (e.set f.toNat (w64 (x+1))).length q),(52,_),(53,_),(54,_),(55,_),(56,_)]) ⟨r,r,r,r,r,r,r,(by simp only [List.length_set]; rfl),r,r,r,r,r,trivial⟩ (.reat (.s .z) (B:=pto C (.cells #[.int .i64 h.Rows,.int .i64 h.Cols,.slice (some ⟨a9,0,none⟩) (e.set f.toNat (w64 (x+1))).length q,.slice K (a++([m.Col])).length L,.slice N (b++([p.Val])).length O] 53 (0,0))) (by simp only [List.length_set]) (.nilS [9,8,7,6,2,0] r r (.region (.ks 3 r (.nil' fun c w ho hs=>⟨((e.set f.toNat (w64 (x+1))),w64 (f+1)),hd,a7,_,_,k,ho.sub ⟨r,r,r,r,r,r,trivial⟩,hs.pick (.c .z (.c .z (.c .z (.c .z (.c .z .n)))))⟩)))))))
   exact .exitS [8,7,6,2,0] r r (.region (.ks 3 r (.nil' fun c w ho hs=>⟨(e,(a++([m.Col])),(b++([p.Val])),w64 (d+1)),hd,a7,_,_,_,_,_,_,c0,ho.sub ⟨r,r,r,r,r,trivial⟩,hs.pick (.c .z (.c .z (.c .z (.c .z (.c .z .n)))))⟩)))
 refine .exitS [7,6] r r (.sr (.loadW ia53 sz53 r (.s .z) r r r (.storeA sz53 r r .z (.t (.t (.t (.t (.t .nil))))) r r (.nilS [6] r r (.drop (.s .z) (.pub (.s .z) fun f7 Y u=>?_))))))
 have c3:=IH.le.trans T Y
 have c4:=IH.le.trans i Y
 refine .pub (.s .z) fun f8 A R=>?_
 have c5:=IH.le.trans c3 A
 have c6:=IH.le.trans c4 A
 replace u:=u.mono A
 refine .pub (.s .z) fun f9 l d5=>?_
 have c7:=IH.le.trans c5 l
 have e9:=IH.le.trans c6 l
 replace u:=u.mono l
 replace R:=R.mono l
 exact .ret (pret results61 (.w ia53 sz53 r .z r .n) c7 ⟨({ Rows:=h.Rows,Cols:=h.Cols,Start:=v,Col:=a,Val:=b }:Rows),_,_,_,_,_,_,r,u,R,d5,hd⟩)
theorem W_ref07_Graph {I:IH} {a0:Graph} {p1:Option Addr} {c2:Nat} {Q:(Rows×Int)→Prop} (R3:RepSl eEdge I p1 c2 a0.Edges) (hd:ref07_Graph a0 Q) :
  PFun prog 35 [.agg #[.int .i64 a0.N,.slice p1 a0.Edges.length c2]] I (o9_ Q):=by
 refine Fun.enter func35 r ntmps35 r (.c .n) fun w0 M=>?_
 refine .sr (.boxA r r r fun P=>?_)
 refine .allocA zv53 r r fun R=>?_
 refine .ks 1 r (.nilS [2,1] r r (.seq (.sr (.loadW ia28 sz28 r (.s .z) r r r ?_))))
 have X:=W_ref05_Right (I:=I) R3 hd
 refine .callP call31 r X r r fun c7 Y=>?_
 obtain ⟨b1,rfl,hd⟩:=Y
 refine .ks 1 r (.nilS [4,2,1] r r (.sr (.ks 2 r (.nilS [11,4,2,1] r r (.condP r hd (fun Z hd=>?_) fun Z hd=>?_)))))
 · exact .sr (.build zv53 un53 BI53 .n (by exact trivial) r r (.ks 1 r (.storeA sz53 r r .z (.t (.t (.t (.t (.t .nil))))) r r (.ks 1 r (.nilS [3,2] r r (.drop (.s .z) (.ret (pret results35 (.w ia53 sz53 r .z r (.t r .n)) (.refl _) ⟨(({ Rows:=0,Cols:=0,Start:=([]:List Int),Col:=([]:List Int),Val:=([]:List Int) }:Rows),b1),_,_,_,_,_,_,r,(.nil _ _ _),(.nil _ _ _),(.nil _ _ _),hd⟩))))))))
 refine .skipS [2,1] r r (.sr (.loadW ia28 sz28 r (.s .z) r r r ?_))
 have a1:=W_ref05_Turn (I:=I) R3 hd
 refine .callO call60 r a1 r r fun c8 S c9 q a2=>?_
 obtain ⟨u,T,U,rfl,rfl,hd⟩:=a2
 replace R3:=R3.mono q
 refine .allocA zv28 r r fun V=>?_
 refine .storeA sz28 r r .z (.t (.t .nil)) r r (.nilS [5,2,1] r r (.sr (.ks 1 r (.nilS [6,5,2,1] r r (.seq (.sr (.ks 1 r (.nilS [7,6,5,2,1] r r (.block ?_)))))))))
 refine .own0 eTriple 100 (.loop hd (fun (s:(List Triple)×Int) c w=>match s with | (e,a)=>∃ I_ i k,IH.le S I_∧Ok ⟨51,[],none⟩ [(1,.pointer (some ⟨P,0,none⟩)),(2,.pointer (some ⟨R,0,none⟩)),(5,.pointer (some ⟨V,0,none⟩)),(6,.slice i e.length k),(7,.int .i64 a)] c∧Sym w0 M I I_ [pto P (.cells #[.int .i64 a0.N,.slice p1 a0.Edges.length c2] 28 (0,0)),pto R (.cells #[.int .i64 0,.int .i64 0,.slice none 0 0,.slice none 0 0,.slice none 0 0] 53 (0,0)),pto V (.cells #[.int .i64 u.N,.slice T u.Edges.length U] 28 (0,0)),OwnSl eEdge 70 T U u.Edges,OwnSl eTriple 100 i k e] w) (fun c w ho hs=>⟨S,_,_,(.refl _),ho.sub ⟨r,r,r,r,r,trivial⟩,hs.pick (.c (.s (.s (.s (.s .z)))) (.c (.s (.s (.s .z))) (.c (.s .z) (.c (.s .z) (.c .z .n)))))⟩) ?_)
 rintro ⟨e,a⟩ b0 hd c w hst
 obtain ⟨a3,i,k,b,hok,hsym⟩:=hst
 have E:=IH.le.trans q b
 replace R3:=R3.mono b
 refine Cod.at hok hsym (.seq (.sr (.ks 1 r (.fa un28 r sz26 r (o:=1) r r r (.load1 ia26 r (.s (.s .z)) r r r (.len un26 r r r r (.ks 1 r (.nilS [20,7,6,5,2,1] r r (.condP r hd (fun F hd=>?_) fun F hd=>?_)))))))))
 · refine .skipS [7,6,5,2,1] r r (.seq (.block (.ownF (.s (.s (.s .z))) fun v=>?_)))
   refine .ownF (.s (.s (.s (.s .z)))) fun b2=>?_
   refine .dr [0,1,2,3,4,5,6,7,8,9,10,11,12,13,14,15,16,17,18,19,20,21] 22 (.fk 1 r (.g r r r (fun _=>.fa un28 r sz26 r (o:=1) r r r .mk) (.g r r r (fun _=>.load1 ia26 r (.s (.s .z)) r r r .mk) (.fk 1 r ?_))))
   obtain ⟨x,y,f,hd⟩:=hd
   obtain ⟨b4,a4⟩:=v (idx_ne f)
   cases a4
   refine .g r r r (fun _=>.ixa0 un26 sz70 r r x (idx_lt f x) r r .mk) (.g r r r (fun _=>.fa un70 r sz3 r (o:=a.toNat*3) r r r .mk) (.g r r r (fun _=>.lo1 (j:=0) ia3 (.s (.s (.s .z))) f r r r r r .mk) (.g r r r (fun _=>.fa un28 r sz26 r (o:=1) r r r .mk) (.g r r r (fun _=>.load1 ia26 r (.s (.s .z)) r r r .mk) (.fk 1 r ?_)))))
   obtain ⟨A,B,m,hd⟩:=hd
   refine .g r r r (fun _=>.ixa0 un26 sz70 r r A (idx_lt m A) r r .mk) (.g r r r (fun _=>.fa un70 r sz3 r (o:=a.toNat*3+1) r r r .mk) (.g r r r (fun _=>.lo1 (j:=1) ia3 (.s (.s (.s .z))) m r r r r r .mk) (.g r r r (fun _=>.fa un28 r sz26 r (o:=1) r r r .mk) (.g r r r (fun _=>.load1 ia26 r (.s (.s .z)) r r r .mk) (.fk 1 r ?_)))))
   obtain ⟨C,D,p,hd⟩:=hd
   refine .g r r r (fun _=>.ixa0 un26 sz70 r r C (idx_lt p C) r r .mk) (.g r r r (fun _=>.fa un70 r sz2 r (o:=a.toNat*3+2) r r r .mk) (.g r r r (fun _=>.lo1 (j:=2) ia2 (.s (.s (.s .z))) p r r r r r .mk) (.g r r r (fun _=>.build zv100 un100 BI100 (.c r r r (.t .nil) (.c r r r (.s (.t .nil)) (.c r r r (.s (.s (.t .nil))) .n))) (by exact ⟨⟨_,_,r,r,r⟩,⟨⟨_,_,r,r,r⟩,⟨⟨_,_,r,r,r⟩,trivial⟩⟩⟩) r r .mk) (.ww r fun ex=>?_))))
   refine .buildSlice 1 un98 sizeOf100 zv100 r r (.c r r r .n) r r fun b5=>?_
   refine .so 6 r r r (.ck 1 r r trivial) (.ww r fun ex=>?_)
   obtain ⟨G,hd⟩:=hd
   refine .append (ys:=[({ Row:=y.From,Col:=B.To,Val:=D.W }:Triple)]) 24 (.s (.s (.s (.s (.s .z))))) un98 un98 IN100 r r r r r r r r r (.box .z (.one r) r) G r r fun b6 b7=>?_
   exact .so 6 r r r trivial (.e2 22 (.ks 1 r (.nilS [6,7,5,2,1] r r (.drop (.s .z) (.region (.ks 3 r (.nil' fun c w ho hs=>⟨((e++([({ Row:=y.From,Col:=B.To,Val:=D.W }:Triple)])),w64 (a+1)),hd,a3,_,_,b,ho.sub ⟨r,r,r,r,r,trivial⟩,hs.pick (.c (.s .z) (.c (.s .z) (.c (.s .z) (.c (.s .z) (.c .z .n)))))⟩)))))))
 refine .exitS [6,2,1] r r (.drop (.s (.s .z)) (.drop (.s (.s .z)) (.sr (.fa un28 r sz3 r (o:=0) r r r (.load1 ia3 r .z r r r (.fa un28 r sz3 r (o:=0) r r r (.load1 ia3 r .z r r r (.ks 1 r (.pub (.s (.s .z)) fun a5 h l=>?_)))))))))
 have H:=IH.le.trans E h
 have J:=IH.le.trans b h
 replace R3:=R3.mono h
 have K:=W_ref07_built (I:=a5) l hd
 refine .call call61 r K r r fun b8 b9 d L=>?_
 obtain ⟨a6,c0,c1,c3,c4,c5,c6,rfl,a7,a8,a9,hd⟩:=L
 have O:=IH.le.trans H d
 have b3:=IH.le.trans J d
 replace R3:=R3.mono d
 replace l:=l.mono d
 exact .storeA sz53 r r (.s .z) (.t (.t (.t (.t (.t .nil))))) r r (.ks 1 r (.nilS [3,2] r r (.drop .z (.ret (pret results35 (.w ia53 sz53 r .z r (.t r .n)) O ⟨(a6,0),_,_,_,_,_,_,r,a7,a8,a9,hd⟩)))))
theorem W_ref21_Matrix {I:IH} {a0:Plan} {a1:Graph} {p1:Option Addr} {c2:Nat} {p4:Option Addr} {c5:Nat} {Q:(Rows×Int)→Prop} (R3:RepSl eI64 I p1 c2 a0.Draws) (R6:RepSl eEdge I p4 c5 a1.Edges) (hd:ref21_Matrix a0 a1 Q) :
  PFun prog 18 [.agg #[.int .i64 a0.Kind,.int .i64 a0.N,.int .i64 a0.Source,.int .i64 a0.Length,.slice p1 a0.Draws.length c2],.agg #[.int .i64 a1.N,.slice p4 a1.Edges.length c5]] I (o10_ Q):=by
 refine Fun.enter func18 r ntmps18 r (.c (.c .n)) fun w0 M=>?_
 refine .sr (.boxA r r r fun i2=>?_)
 refine .boxA r r r fun i3=>?_
 refine .allocA zv53 r r fun i4=>?_
 refine .ks 1 r (.nilS [4,3,2] r r (.seq (.sr (.loadW ia25 sz25 r (.s (.s .z)) r r r ?_))))
 have a3:=W_ref21_Right (I:=I) R3 hd
 refine .callP call30 r a3 r r fun i5 a4=>?_
 obtain ⟨d3,rfl,hd⟩:=a4
 refine .ks 1 r (.nilS [6,4,3,2] r r (.sr (.ks 2 r (.nilS [11,6,4,3,2] r r (.condP r hd (fun a5 hd=>?_) fun a5 hd=>?_)))))
 · exact .sr (.build zv53 un53 BI53 .n (by exact trivial) r r (.ks 1 r (.storeA sz53 r r .z (.t (.t (.t (.t (.t .nil))))) r r (.ks 1 r (.nilS [5,4] r r (.drop (.s .z) (.drop (.s .z) (.ret (pret results18 (.w ia53 sz53 r .z r (.t r .n)) (.refl _) ⟨(({ Rows:=0,Cols:=0,Start:=([]:List Int),Col:=([]:List Int),Val:=([]:List Int) }:Rows),d3),_,_,_,_,_,_,r,(.nil _ _ _),(.nil _ _ _),(.nil _ _ _),hd⟩)))))))))
 refine .skipS [4,3,2] r r (.seq (.sr (.fa un28 r sz3 r (o:=0) r r r (.load1 ia3 r (.s .z) r r r (.fa un25 r sz3 r (o:=1) r r r (.load1 ia3 r (.s (.s .z)) r r r (.ks 1 r (.nilS [18,4,3,2] r r (.condP r hd (fun a6 hd=>?_) fun a6 hd=>?_)))))))))
 · exact .sr (.build zv53 un53 BI53 .n (by exact trivial) r r (.storeA sz53 r r .z (.t (.t (.t (.t (.t .nil))))) r r (.ks 1 r (.nilS [5,4] r r (.drop (.s .z) (.drop (.s .z) (.ret (pret results18 (.w ia53 sz53 r .z r (.t r .n)) (.refl _) ⟨(({ Rows:=0,Cols:=0,Start:=([]:List Int),Col:=([]:List Int),Val:=([]:List Int) }:Rows),4),_,_,_,_,_,_,r,(.nil _ _ _),(.nil _ _ _),(.nil _ _ _),hd⟩))))))))
 refine .skipS [4,3,2] r r (.seq (.sr (.loadW ia28 sz28 r (.s .z) r r r ?_)))
 have a7:=W_ref05_Right (I:=I) R6 hd
 refine .callP call31 r a7 r r fun i6 a8=>?_
 obtain ⟨d4,rfl,hd⟩:=a8
 refine .ks 1 r (.nilS [7,4,3,2] r r (.sr (.ks 2 r (.nilS [23,7,4,3,2] r r (.condP r hd (fun a9 hd=>?_) fun a9 hd=>?_)))))
 · exact .sr (.build zv53 un53 BI53 .n (by exact trivial) r r (.ks 1 r (.storeA sz53 r r .z (.t (.t (.t (.t (.t .nil))))) r r (.ks 1 r (.nilS [5,4] r r (.drop (.s .z) (.drop (.s .z) (.ret (pret results18 (.w ia53 sz53 r .z r (.t r .n)) (.refl _) ⟨(({ Rows:=0,Cols:=0,Start:=([]:List Int),Col:=([]:List Int),Val:=([]:List Int) }:Rows),d4),_,_,_,_,_,_,r,(.nil _ _ _),(.nil _ _ _),(.nil _ _ _),hd⟩)))))))))
 refine .skipS [4,3,2] r r (.seq (.sr (.fa un25 r sz22 r (o:=0) r r r (.load1 ia22 r (.s (.s .z)) r r r (.nilS [27,4,3] r r (.drop (.s (.s .z)) (.block (.sr (.ks 2 r ?_)))))))))
 refine .nilS [28,27,4,3] r r (.condP r hd (fun b0 hd=>?_) fun b0 hd=>?_)
 · refine .region (.loadW ia28 sz28 r (.s .z) r r r ?_)
   have b1:=W_ref05_Plain (I:=I) R6 hd
   refine .call call32 r b1 r r fun i7 d5 p b2=>?_
   obtain ⟨i8,i9,j0,rfl,q,hd⟩:=b2
   replace R6:=R6.mono p
   refine .storeA sz28 r r (.s .z) (.t (.t .nil)) r r (.nilS [4,3] r r (.sr (.loadW ia28 sz28 r (.s .z) r r r ?_)))
   have b3:=W_ref07_Graph (I:=d5) q hd
   refine .call call35 r b3 r r fun j1 j2 u b4=>?_
   obtain ⟨a2,j3,j4,j5,j6,j7,j8,rfl,d6,d7,d8,hd⟩:=b4
   have b5:=IH.le.trans p u
   replace q:=q.mono u
   exact .ks 2 r (.storeA sz53 r r .z (.t (.t (.t (.t (.t .nil))))) r r (.ks 1 r (.nilS [5,4] r r (.drop (.s .z) (.ret (pret results18 (.w ia53 sz53 r .z r (.t r .n)) b5 ⟨(a2.1,a2.2),_,_,_,_,_,_,r,d6,d7,d8,hd⟩))))))
 refine .sr (.ks 2 r (.nilS [32,27,4,3] r r (.condP r hd (fun b6 hd=>?_) fun b6 hd=>?_)))
 · refine .region (.loadW ia28 sz28 r (.s .z) r r r ?_)
   have B:=W_ref05_Both (I:=I) R6 hd
   refine .call call33 r B r r fun j9 d9 v b7=>?_
   obtain ⟨k0,e0,e1,rfl,f,hd⟩:=b7
   replace R6:=R6.mono v
   have C:=W_ref05_Plain (I:=d9) f hd
   refine .call call32 r C r r fun e2 b8 d D=>?_
   obtain ⟨e3,e4,e5,rfl,g,hd⟩:=D
   have E:=IH.le.trans v d
   replace R6:=R6.mono d
   replace f:=f.mono d
   refine .storeA sz28 r r (.s .z) (.t (.t .nil)) r r (.nilS [4,3] r r (.sr (.loadW ia28 sz28 r (.s .z) r r r ?_)))
   have F:=W_ref07_Graph (I:=b8) g hd
   refine .call call35 r F r r fun e6 e7 j G=>?_
   obtain ⟨x,e8,e9,f0,f1,f2,f3,rfl,b9,c0,c1,hd⟩:=G
   have H:=IH.le.trans E j
   replace g:=g.mono j
   exact .ks 2 r (.storeA sz53 r r .z (.t (.t (.t (.t (.t .nil))))) r r (.ks 1 r (.nilS [5,4] r r (.drop (.s .z) (.ret (pret results18 (.w ia53 sz53 r .z r (.t r .n)) H ⟨(x.1,x.2),_,_,_,_,_,_,r,b9,c0,c1,hd⟩))))))
 refine .sr (.ks 2 r (.nilS [37,4,3] r r (.condP r hd (fun J hd=>?_) fun J hd=>?_)))
 · refine .region (.loadW ia28 sz28 r (.s .z) r r r ?_)
   have K:=W_ref05_Simple (I:=I) R6 hd
   refine .call call34 r K r r fun f4 c3 k L=>?_
   obtain ⟨f5,f6,f7,rfl,b,hd⟩:=L
   replace R6:=R6.mono k
   have O:=W_ref05_Both (I:=c3) b hd
   refine .call call33 r O r r fun f8 c4 e P=>?_
   obtain ⟨f9,g0,g1,rfl,h,hd⟩:=P
   have R:=IH.le.trans k e
   replace R6:=R6.mono e
   replace b:=b.mono e
   have S:=W_ref05_Plain (I:=c4) h hd
   refine .call call32 r S r r fun g2 c6 a T=>?_
   obtain ⟨g3,g4,g5,rfl,i,hd⟩:=T
   have U:=IH.le.trans R a
   replace R6:=R6.mono a
   replace b:=b.mono a
   replace h:=h.mono a
   refine .storeA sz28 r r (.s .z) (.t (.t .nil)) r r (.nilS [4,3] r r (.sr (.loadW ia28 sz28 r (.s .z) r r r ?_)))
   have V:=W_ref07_Graph (I:=c6) i hd
   refine .call call35 r V r r fun g6 g7 l W=>?_
   obtain ⟨y,g8,g9,h0,h1,h2,h3,rfl,c7,c8,c9,hd⟩:=W
   have X:=IH.le.trans U l
   replace i:=i.mono l
   exact .ks 2 r (.storeA sz53 r r .z (.t (.t (.t (.t (.t .nil))))) r r (.ks 1 r (.nilS [5,4] r r (.drop (.s .z) (.ret (pret results18 (.w ia53 sz53 r .z r (.t r .n)) X ⟨(y.1,y.2),_,_,_,_,_,_,r,c7,c8,c9,hd⟩))))))
 refine .skipS [4,3] r r (.sr (.loadW ia28 sz28 r (.s .z) r r r ?_))
 have Y:=W_ref07_Graph (I:=I) R6 hd
 refine .call call35 r Y r r fun h4 h5 m Z=>?_
 obtain ⟨A,h6,h7,h8,h9,i0,i1,rfl,d0,d1,d2,hd⟩:=Z
 replace R6:=R6.mono m
 exact .ks 2 r (.storeA sz53 r r .z (.t (.t (.t (.t (.t .nil))))) r r (.ks 1 r (.nilS [5,4] r r (.drop (.s .z) (.ret (pret results18 (.w ia53 sz53 r .z r (.t r .n)) m ⟨(A.1,A.2),_,_,_,_,_,_,r,d0,d1,d2,hd⟩))))))
theorem W_ref22_Check {I:IH} {a0:Plan} {a1:Graph} {a2:Int} {p1:Option Addr} {c2:Nat} {p4:Option Addr} {c5:Nat} {Q:Int→Prop} (R3:RepSl eI64 I p1 c2 a0.Draws) (R6:RepSl eEdge I p4 c5 a1.Edges) (hd:ref22_Check a0 a1 a2 Q) :
  PFun prog 17 [.agg #[.int .i64 a0.Kind,.int .i64 a0.N,.int .i64 a0.Source,.int .i64 a0.Length,.slice p1 a0.Draws.length c2],.agg #[.int .i64 a1.N,.slice p4 a1.Edges.length c5],.int .i64 a2] I (fun _=>o0_ Q):=by
 refine Fun.enter func17 r ntmps17 r (.c (.c (.c .n))) fun w0 M=>?_
 refine .sr (.boxA r r r fun i=>?_)
 refine .boxA r r r fun j=>?_
 refine .ks 1 r (.nilS [4,3,2] r r (.seq (.sr (.loadW ia25 sz25 r (.s .z) r r r (.loadW ia28 sz28 r .z r r r ?_)))))
 have d:=W_ref21_Matrix (I:=I) R3 R6 hd
 refine .call call18 r d r r fun k l a e=>?_
 obtain ⟨h,m,o,p,q,u,v,rfl,w,x,y,hd⟩:=e
 replace R3:=R3.mono a
 replace R6:=R6.mono a
 refine .ks 3 r (.allocA zv53 r r fun A=>?_)
 refine .storeA sz53 r r .z (.t (.t (.t (.t (.t .nil))))) r r (.ks 1 r (.nilS [8,2] r r (.drop .z (.drop .z (.drop .z (.sr (.ks 2 r (.nilS [16,8,2] r r (.condP r hd (fun f hd=>?_) fun f hd=>?_)))))))))
 · exact .sr (.ks 2 r (.nilS [6] r r (.ret (pret results17 (.t r .n) a ⟨h.2,r,hd⟩))))
 refine .skipS [2] r r (.seq (.sr (.ks 3 r ?_)))
 refine splitP hd (fun b hd=>?_) fun b hd=>?_
 · rw [b]
   exact .ks 3 r (.nilS [23] r r (.condKT r r (.sr (.ks 1 r (.nilS [6] r r (.ret (pret results17 (.t r .n) a ⟨3,r,hd⟩)))))))
 rw [b]
 refine .ks 3 r (.nilS [23] r r (.condP r hd (fun g hd=>?_) fun g hd=>?_))
 · exact .sr (.ks 1 r (.nilS [6] r r (.ret (pret results17 (.t r .n) a ⟨3,r,hd⟩))))
 exact .skipS [] r r (.sr (.ks 1 r (.nilS [6] r r (.ret (pret results17 (.t r .n) a ⟨0,r,hd⟩)))))
theorem W_ref21_none {I:IH} {Q:State→Prop}  (hd:ref21_none Q) :
  PFun prog 87 [] I (fun I_ v=>∃ r p1 c2 p4 c5 p7 c8,v=.agg #[.int .i64 r.Low,.int .i64 r.High,.slice p1 r.A.length c2,.slice p4 r.B.length c5,.slice p7 r.On.length c8]∧RepSl eI64 I_ p1 c2 r.A∧RepSl eI64 I_ p4 c5 r.B∧RepSl eU64 I_ p7 c8 r.On∧Q r):=by
 refine Fun.enter func87 r ntmps87 r .n fun w0 M=>?_
 refine .sr (.allocA zv36 r r fun a=>?_)
 exact .nilS [0] r r (.sr (.build zv36 un36 BI36 .n (by exact trivial) r r (.storeA sz36 r r .z (.t (.t (.t (.t (.t .nil))))) r r (.nilS [0] r r (.ret (pret results87 (.w ia36 sz36 r .z r .n) (.refl _) ⟨({ Low:=0,High:=0,A:=([]:List Int),B:=([]:List Int),On:=([]:List Int) }:State),_,_,_,_,_,_,r,(.nil _ _ _),(.nil _ _ _),(.nil _ _ _),hd⟩))))))
theorem W_ref03_words {I:IH} {a0:Int} {Q:Int→Prop}  (hd:ref03_words a0 Q) :
  PFun prog 175 [.int .i64 a0] I (fun _=>o0_ Q):=by
 refine Fun.enter func175 r ntmps175 r (.c .n) fun w0 M=>?_
 refine .sr (.ks 1 r (.nilS [0] r r (.seq ?_)))
 refine Cod.joinQ (σ:=Int) hd (fun (b:Int) c w=>∃ I_,IH.le I I_∧Ok ⟨10,[],none⟩ [(0,.int .i64 b)] c∧Sym w0 M I I_ [] w) (fun f hd=>?_) ?_
 · skip
   refine .sr (.ks 2 r (.nilS [4,0] r r (.condP r hd (fun d hd=>?_) fun d hd=>?_)))
   · exact .region (.ks 1 r (.nil' fun c w ho hs=>⟨4096,hd,I,(.refl _),ho.sub ⟨r,trivial⟩,hs.pick .n⟩))
   exact .skip' fun c w ho hs=>⟨a0,hd,I,(.refl _),ho.sub ⟨r,trivial⟩,hs.pick .n⟩
 rintro b hd c w hst
 obtain ⟨g,a,hok,hsym⟩:=hst
 refine Cod.at hok hsym (.seq (.sr (.ks 2 r (.nilS [6,0] r r (.condP r hd (fun e hd=>?_) fun e hd=>?_)))))
 · exact .sr (.ks 1 r (.nilS [2] r r (.ret (pret results175 (.t r .n) a ⟨0,r,hd⟩))))
 exact .skipS [0] r r (.sr (.ks 2 r (.quo r r (by decide) r r (.ks 1 r (.nilS [2] r r (.ret (pret results175 (.t r .n) a ⟨(w64 ((w64 (b+63)).tdiv 64)),r,hd⟩)))))))
theorem W_ref03_New {I:IH} {a0:Int} {Q:(List Int)→Prop}  (hd:ref03_New a0 Q) :
  PFun prog 139 [.int .i64 a0] I (fun I_ v=>∃ r p1 c2,v=.slice p1 r.length c2∧RepSl eU64 I_ p1 c2 r∧Q r):=by
 refine Fun.enter func139 r ntmps139 r (.c .n) fun w0 M=>?_
 refine .sr (.ks 1 r (.nilS [0] r r (.sr (.ks 1 r ?_))))
 have b:=W_ref03_words (I:=I) hd
 refine .callP call175 r b r r fun k d=>?_
 obtain ⟨f,rfl,hd⟩:=d
 obtain ⟨g,h,hd⟩:=hd
 refine .make (El:=eU64) (zv:=0) 8 un34 IN96 r r r r r r g h r r r fun i=>?_
 refine .ks 1 r (.nilS [2] r r (.pub .z fun j a e=>?_))
 exact .ret (pret results139 (.t r .n) a ⟨(List.replicate f.toNat 0),_,_,r,e,hd⟩)
theorem W_ref03_set {I:IH} {a0:List Int} {a1:Int} {a2:Bool} {p1:Option Addr} {c2:Nat} {Q:(List Int)→Prop} (R3:RepSl eU64 I p1 c2 a0) (hd:ref03_set a0 a1 a2 Q) :
  PFun prog 176 [.slice p1 a0.length c2,.int .i64 a1,.bool a2] I (o12_ Q):=by
 refine Fun.enter func176 r ntmps176 r (.c (.c (.c .n))) fun w0 M=>?_
 refine .sr (.ks 1 r (.nilS [2,1,0] r r (.sr (.ks 1 r (.nilS [7,2,1,0] r r (.sr (.ks 2 r (.own0 eU64 96 ?_))))))))
 obtain ⟨s,hd⟩:=hd
 refine .append (ys:=a0) 8 .z un34 un34 IN96 r r r r r r r r r (.imm R3 r) s r r fun J a=>?_
 refine .ks 1 r (.nilS [7,2,1,0] r r (.seq (.sr (.ks 3 r ?_))))
 refine splitP hd (fun e hd=>?_) fun e hd=>?_
 · rw [e]
   refine .ks 6 r (.nilS [20,7,2,1] r r (.condKT r r (.sr (.ks 2 r (.nilS [6] r r (.pub .z fun K u C=>?_))))))
   exact .ret (pret results176 (.t r .n) u ⟨(([]:List Int)++a0),_,_,r,C,hd⟩)
 rw [e]
 refine .ks 1 r (.gyes r r r (.quo r r (by decide) r r (.ks 1 r (.gyes r r r (.len un34 r r r r (.ks 2 r (.nilS [20,7,2,1] r r (.condP r hd (fun v hd=>?_) fun v hd=>?_))))))))
 · refine .sr (.ks 2 r (.nilS [6] r r (.pub .z fun L w D=>?_)))
   exact .ret (pret results176 (.t r .n) w ⟨(([]:List Int)++a0),_,_,r,D,hd⟩)
 refine .skipS [7,2,1] r r (.sr (.ks 1 r (.rem r r (by decide) r r (.conv un3 underlying148 r r r ?_))))
 obtain ⟨x,hd⟩:=hd
 refine .shl' r r x r r (.ks 1 r (.nilS [8,7,2,1] r r (.seq (.sr (.ks 1 r (.nilS [26,8,7,1] r r (.condP r hd (fun y hd=>?_) fun y hd=>?_)))))))
 · refine .region (.ks 2 r (.quo r r (by decide) r r (.ks 2 r (.quo r r (by decide) r r ?_))))
   obtain ⟨m,b,f,hd⟩:=hd
   refine .ownNe .z (idx_ne f) fun h E=>?_
   cases E
   refine .ixa0 un34 sz96 r r m (idx_lt f m) r r (.lo1 (j:=0) ia96 .z f r r r r r (.ks 2 r ?_))
   obtain ⟨o,N,i,hd⟩:=hd
   refine .ixa0 un34 sz96 r r o (idx_lt i o) r r (.stO1 (j:=0) (v':=(bor .u64 b (shl .u64 1 (IntKind.wrap .u64 (a1.tmod 64))))) sz96 .z i r r r (.t .nil) r (.sub (E':=[(1,_),(7,.slice (some ⟨h,0,none⟩) ((([]:List Int)++a0).set ((w64 (a1.tdiv 64)).toNat) (bor .u64 b (shl .u64 1 (IntKind.wrap .u64 (a1.tmod 64))))).length a),(8,_),(26,_),(27,.slice (some ⟨h,0,none⟩) ((([]:List Int)++a0).set ((w64 (a1.tdiv 64)).toNat) (bor .u64 b (shl .u64 1 (IntKind.wrap .u64 (a1.tmod 64))))).length a),(28,_),(29,_),(30,.slice (some ⟨h,0,none⟩) ((([]:List Int)++a0).set ((w64 (a1.tdiv 64)).toNat) (bor .u64 b (shl .u64 1 (IntKind.wrap .u64 (a1.tmod 64))))).length a),(31,_),(32,_),(33,_),(34,_),(35,_),(36,_),(37,_)]) ⟨r,(by simp only [List.length_set]; rfl),r,r,(by simp only [List.length_set]; rfl),r,r,(by simp only [List.length_set]; rfl),r,r,r,r,r,r,r,trivial⟩ (.nilS [7] r r (.sr (.ks 2 r (.nilS [6] r r (.pub .z fun O A F=>?_)))))))
   exact .ret (pret results176 (.t r .n) A ⟨((([]:List Int)++a0).set ((w64 (a1.tdiv 64)).toNat) (bor .u64 b (shl .u64 1 (IntKind.wrap .u64 (a1.tmod 64))))),_,_,r,F,hd⟩)
 refine .region (.ks 2 r (.quo r r (by decide) r r (.ks 2 r (.quo r r (by decide) r r ?_))))
 obtain ⟨p,d,g,hd⟩:=hd
 refine .ownNe .z (idx_ne g) fun k G=>?_
 cases G
 refine .ixa0 un34 sz96 r r p (idx_lt g p) r r (.lo1 (j:=0) ia96 .z g r r r r r (.ks 2 r ?_))
 obtain ⟨q,P,l,hd⟩:=hd
 refine .ixa0 un34 sz96 r r q (idx_lt l q) r r (.stO1 (j:=0) (v':=(bandn .u64 d (shl .u64 1 (IntKind.wrap .u64 (a1.tmod 64))))) sz96 .z l r r r (.t .nil) r (.sub (E':=[(1,_),(7,.slice (some ⟨k,0,none⟩) ((([]:List Int)++a0).set ((w64 (a1.tdiv 64)).toNat) (bandn .u64 d (shl .u64 1 (IntKind.wrap .u64 (a1.tmod 64))))).length a),(8,_),(26,_),(38,.slice (some ⟨k,0,none⟩) ((([]:List Int)++a0).set ((w64 (a1.tdiv 64)).toNat) (bandn .u64 d (shl .u64 1 (IntKind.wrap .u64 (a1.tmod 64))))).length a),(39,_),(40,_),(41,.slice (some ⟨k,0,none⟩) ((([]:List Int)++a0).set ((w64 (a1.tdiv 64)).toNat) (bandn .u64 d (shl .u64 1 (IntKind.wrap .u64 (a1.tmod 64))))).length a),(42,_),(43,_),(44,_),(45,_),(46,_),(47,_),(48,_)]) ⟨r,(by simp only [List.length_set]; rfl),r,r,(by simp only [List.length_set]; rfl),r,r,(by simp only [List.length_set]; rfl),r,r,r,r,r,r,r,trivial⟩ (.nilS [7] r r (.sr (.ks 2 r (.nilS [6] r r (.pub .z fun R B H=>?_)))))))
 exact .ret (pret results176 (.t r .n) B ⟨((([]:List Int)++a0).set ((w64 (a1.tdiv 64)).toNat) (bandn .u64 d (shl .u64 1 (IntKind.wrap .u64 (a1.tmod 64))))),_,_,r,H,hd⟩)
theorem W_ref03_Put {I:IH} {a0:List Int} {a1:Int} {p1:Option Addr} {c2:Nat} {Q:(List Int)→Prop} (R3:RepSl eU64 I p1 c2 a0) (hd:ref03_Put a0 a1 Q) :
  PFun prog 140 [.slice p1 a0.length c2,.int .i64 a1] I (o12_ Q):=by
 refine Fun.enter func140 r ntmps140 r (.c (.c .n)) fun w0 M=>?_
 refine .sr (.ks 1 r (.nilS [1,0] r r (.sr (.ks 2 r ?_))))
 have b:=W_ref03_set (I:=I) R3 hd
 refine .call call176 r b r r fun g j a d=>?_
 obtain ⟨f,h,i,rfl,e,hd⟩:=d
 replace R3:=R3.mono a
 exact .ks 1 r (.nilS [4] r r (.ret (pret results140 (.t r .n) a ⟨f,_,_,r,e,hd⟩)))
theorem W_ref03_Of {I:IH} {a0:Int} {a1:List Int} {p1:Option Addr} {c2:Nat} {Q:(List Int)→Prop} (R3:RepSl eI64 I p1 c2 a1) (hd:ref03_Of a0 a1 Q) :
  PFun prog 88 [.int .i64 a0,.slice p1 a1.length c2] I (o12_ Q):=by
 refine Fun.enter func88 r ntmps88 r (.c (.c .n)) fun w0 M=>?_
 refine .sr (.ks 1 r (.nilS [1,0] r r (.sr (.ks 1 r ?_))))
 have S:=W_ref03_New (I:=I) hd
 refine .call call139 r S r r fun c1 R x T=>?_
 obtain ⟨c3,c4,c5,rfl,a4,hd⟩:=T
 replace R3:=R3.mono x
 refine .ks 1 r (.nilS [5,1,0] r r (.seq (.sr (.ks 1 r (.nilS [6,5,1,0] r r (.block (.loop hd (fun (s:(List Int)×Int) c w=>match s with | (b,f)=>∃ I_ l m,IH.le R I_∧RepSl eU64 I_ l m b∧Ok ⟨42,[],none⟩ [(0,.int .i64 a0),(1,.slice p1 a1.length c2),(5,.slice l b.length m),(6,.int .i64 f)] c∧Sym w0 M I I_ [] w) (fun c w ho hs=>⟨R,_,_,(.refl _),a4,ho.sub ⟨r,r,r,r,trivial⟩,hs.pick .n⟩) ?_)))))))
 rintro ⟨b,f⟩ a3 hd c w hst
 obtain ⟨g,l,m,a,d,hok,hsym⟩:=hst
 have o:=IH.le.trans x a
 replace R3:=R3.mono a
 refine Cod.at hok hsym (.seq (.sr (.ks 2 r (.len un51 r r r r (.ks 1 r (.nilS [12,6,5,1,0] r r (.condP r hd (fun C hd=>?_) fun C hd=>?_)))))))
 · refine .skipS [6,5,1,0] r r (.seq (.block (.sr (.ks 2 r ?_))))
   obtain ⟨y,b0,p,hd⟩:=hd
   obtain ⟨b1,o161,a5,U,D,E⟩:=R3.2 _ _ p
   cases E
   refine .ixa un51 sz3 r U r y (idx_lt p y) r r (.ld1 (j:=0) ia3 D r r r r r (.ks 2 r ?_))
   refine splitP hd (fun h hd=>?_) fun h hd=>?_
   · rw [h]
     refine .ks 2 r ?_
     obtain ⟨z,b2,q,hd⟩:=hd
     obtain ⟨b3,o171,a6,V,F,G⟩:=R3.2 _ _ q
     cases G
     refine .gyes r r r (.ixa un51 sz3 r V r z (idx_lt q z) r r (.gyes r r r (.ld1 (j:=0) ia3 F r r r r r (.ks 4 r ?_))))
     refine splitP hd (fun i hd=>?_) fun i hd=>?_
     · rw [i]
       refine .ks 2 r ?_
       obtain ⟨A,b4,u,hd⟩:=hd
       obtain ⟨b5,o181,a7,W,H,J⟩:=R3.2 _ _ u
       cases J
       refine .gyes r r r (.ixa un51 sz3 r W r A (idx_lt u A) r r (.gyes r r r (.ld1 (j:=0) ia3 H r r r r r (.ks 2 r (.nilS [34,6,5,1,0] r r (.condP r hd (fun K hd=>?_) fun K hd=>?_))))))
       · refine .region (.ks 3 r ?_)
         obtain ⟨B,b6,v,hd⟩:=hd
         obtain ⟨b7,o191,a8,X,k,L⟩:=R3.2 _ _ v
         cases L
         refine .ixa un51 sz3 r X r B (idx_lt v B) r r (.ld1 (j:=0) ia3 k r r r r r ?_)
         have N:=W_ref03_Put (I:=g) d hd
         refine .call call140 r N r r fun b8 Y e O=>?_
         obtain ⟨Z,b9,c0,rfl,a2,hd⟩:=O
         have a9:=IH.le.trans o e
         have P:=IH.le.trans a e
         replace R3:=R3.mono e
         replace d:=d.mono e
         replace k:=k.mono e
         exact .ks 1 r (.nilS [5,6,1,0] r r (.region (.ks 3 r (.nil' fun c w ho hs=>⟨(Z,w64 (f+1)),hd,Y,_,_,P,a2,ho.sub ⟨r,r,r,r,trivial⟩,hs.pick .n⟩))))
       exact .skipS [6,5,1,0] r r (.region (.ks 3 r (.nil' fun c w ho hs=>⟨(b,w64 (f+1)),hd,g,_,_,a,d,ho.sub ⟨r,r,r,r,trivial⟩,hs.pick .n⟩)))
     rw [i]
     exact .ks 6 r (.nilS [34,6,5,1,0] r r (.condKF r r (.skipS [6,5,1,0] r r (.region (.ks 3 r (.nil' fun c w ho hs=>⟨(b,w64 (f+1)),hd,g,_,_,a,d,ho.sub ⟨r,r,r,r,trivial⟩,hs.pick .n⟩))))))
   rw [h]
   exact .ks 14 r (.nilS [34,6,5,1,0] r r (.condKF r r (.skipS [6,5,1,0] r r (.region (.ks 3 r (.nil' fun c w ho hs=>⟨(b,w64 (f+1)),hd,g,_,_,a,d,ho.sub ⟨r,r,r,r,trivial⟩,hs.pick .n⟩))))))
 exact .exitS [5] r r (.sr (.ks 2 r (.nilS [4] r r (.ret (pret results88 (.t r .n) o ⟨b,_,_,r,d,hd⟩)))))
theorem W_ref21_Begin {I:IH} {a0:Plan} {a1:Int} {a2:Int} {p1:Option Addr} {c2:Nat} {Q:State→Prop} (R3:RepSl eI64 I p1 c2 a0.Draws) (hd:ref21_Begin a0 a1 a2 Q) :
  PFun prog 48 [.agg #[.int .i64 a0.Kind,.int .i64 a0.N,.int .i64 a0.Source,.int .i64 a0.Length,.slice p1 a0.Draws.length c2],.int .i64 a1,.int .i64 a2] I (o13_ Q):=by
 refine Fun.enter func48 r ntmps48 r (.c (.c (.c .n))) fun w0 M=>?_
 refine .sr (.boxA r r r fun p=>?_)
 refine .allocA zv36 r r fun q=>?_
 refine .nilS [6,3,2,1] r r (.seq (.sr (.loadW ia25 sz25 r (.s .z) r r r ?_)))
 have f4:=W_ref21_Right (I:=I) R3 hd
 refine .callP call30 r f4 r r fun n4 f5=>?_
 obtain ⟨n5,rfl,hd⟩:=f5
 refine .ks 2 r ?_
 refine splitP hd (fun a8 hd=>?_) fun a8 hd=>?_
 · rw [a8]
   refine .ks 14 r (.nilS [29,6,3,2,1] r r (.condKT r r (.sr ?_)))
   have e1:=W_ref21_none (I:=I) hd
   refine .call call87 r e1 r r fun k3 n6 a9 e2=>?_
   obtain ⟨h2,k4,k5,k6,k7,k8,k9,rfl,f6,f7,f8,hd⟩:=e2
   replace R3:=R3.mono a9
   exact .storeA sz36 r r .z (.t (.t (.t (.t (.t .nil))))) r r (.nilS [6] r r (.drop (.s .z) (.ret (pret results48 (.w ia36 sz36 r .z r .n) a9 ⟨h2,_,_,_,_,_,_,r,f6,f7,f8,hd⟩))))
 rw [a8]
 refine .ks 4 r ?_
 refine splitP hd (fun T hd=>?_) fun T hd=>?_
 · rw [T]
   refine .ks 10 r (.nilS [29,6,3,2,1] r r (.condKT r r (.sr ?_)))
   have e3:=W_ref21_none (I:=I) hd
   refine .call call87 r e3 r r fun l0 l1 b0 e4=>?_
   obtain ⟨f9,l2,l3,l4,l5,l6,l7,rfl,g0,g1,g2,hd⟩:=e4
   replace R3:=R3.mono b0
   exact .storeA sz36 r r .z (.t (.t (.t (.t (.t .nil))))) r r (.nilS [6] r r (.drop (.s .z) (.ret (pret results48 (.w ia36 sz36 r .z r .n) b0 ⟨f9,_,_,_,_,_,_,r,g0,g1,g2,hd⟩))))
 rw [T]
 refine .ks 5 r ?_
 refine splitP hd (fun U hd=>?_) fun U hd=>?_
 · rw [U]
   refine .ks 5 r (.nilS [29,6,3,2,1] r r (.condKT r r (.sr ?_)))
   have e5:=W_ref21_none (I:=I) hd
   refine .call call87 r e5 r r fun l8 l9 b1 e6=>?_
   obtain ⟨g3,m0,m1,m2,m3,m4,m5,rfl,g4,g5,g6,hd⟩:=e6
   replace R3:=R3.mono b1
   exact .storeA sz36 r r .z (.t (.t (.t (.t (.t .nil))))) r r (.nilS [6] r r (.drop (.s .z) (.ret (pret results48 (.w ia36 sz36 r .z r .n) b1 ⟨g3,_,_,_,_,_,_,r,g4,g5,g6,hd⟩))))
 rw [U]
 refine .ks 1 r (.gyes r r r (.fa un25 r sz3 r (o:=1) r r r (.gyes r r r (.load1 ia3 r (.s .z) r r r (.ks 2 r (.nilS [29,6,3,2,1] r r (.condP r hd (fun e7 hd=>?_) fun e7 hd=>?_)))))))
 · refine .sr ?_
   have e8:=W_ref21_none (I:=I) hd
   refine .call call87 r e8 r r fun m6 m7 b2 e9=>?_
   obtain ⟨g7,m8,m9,n0,n1,n2,n3,rfl,g8,g9,h0,hd⟩:=e9
   replace R3:=R3.mono b2
   exact .storeA sz36 r r .z (.t (.t (.t (.t (.t .nil))))) r r (.nilS [6] r r (.drop (.s .z) (.ret (pret results48 (.w ia36 sz36 r .z r .n) b2 ⟨g7,_,_,_,_,_,_,r,g8,g9,h0,hd⟩))))
 refine .skipS [6,3,2,1] r r (.sr (.ks 2 r (.build zv36 un36 BI36 (.c r r r (.t .nil) (.c r r r (.s (.t .nil)) .n)) (by exact ⟨⟨_,_,r,r,r⟩,⟨⟨_,_,r,r,r⟩,trivial⟩⟩) r r (.allocA zv36 r r fun l=>?_))))
 refine .storeA sz36 r r .z (.t (.t (.t (.t (.t .nil))))) r r (.nilS [7,6,3,2,1] r r (.sr (.ks 1 r (.nilS [8,7,6,3,2,1] r r (.seq (.sr (.ks 2 r (.nilS [9,8,7,6,3,2,1] r r (.block ?_)))))))))
 refine .own0 eI64 2 (.own0 eI64 2 (.own0 eI64 3 (.loop hd (fun (s:(List Int)×(List Int)×(List Int)×Int) c w=>match s with | (a,b,d,i)=>∃ I_ e f g h j k,IH.le I I_∧Ok ⟨100,[],none⟩ [(1,.int .i64 a1),(2,.int .i64 a2),(3,.pointer (some ⟨p,0,none⟩)),(6,.pointer (some ⟨q,0,none⟩)),(7,.pointer (some ⟨l,0,none⟩)),(8,.slice j d.length k),(9,.int .i64 i)] c∧Sym w0 M I I_ [pto p (.cells #[.int .i64 a0.Kind,.int .i64 a0.N,.int .i64 a0.Source,.int .i64 a0.Length,.slice p1 a0.Draws.length c2] 25 (0,0)),pto q (.cells #[.int .i64 0,.int .i64 0,.slice none 0 0,.slice none 0 0,.slice none 0 0] 36 (0,0)),pto l (.cells #[.int .i64 a1,.int .i64 a2,.slice e a.length f,.slice g b.length h,.slice none 0 0] 36 (0,0)),OwnSl eI64 2 e f a,OwnSl eI64 2 g h b,OwnSl eI64 3 j k d] w) (fun c w ho hs=>⟨I,_,_,_,_,_,_,(.refl _),ho.sub ⟨r,r,r,r,r,r,r,trivial⟩,hs.pick (.c (.s (.s (.s (.s (.s .z))))) (.c (.s (.s (.s (.s .z)))) (.c (.s (.s (.s .z))) (.c (.s (.s .z)) (.c (.s .z) (.c .z .n))))))⟩) ?_)))
 rintro ⟨a,b,d,i⟩ h1 hd c w hst
 obtain ⟨y,e,f,g,h,j,k,K,hok,hsym⟩:=hst
 replace R3:=R3.mono K
 refine Cod.at hok hsym (.seq (.sr (.ks 3 r (.nilS [37,9,8,7,6,3,2,1] r r (.condP r hd (fun b4 hd=>?_) fun b4 hd=>?_)))))
 · refine .skipS [9,8,7,6,3,2,1] r r (.seq (.block (.sr (.ks 1 r (.nilS [10,9,8,7,6,3,2,1] r r (.seq ?_))))))
   refine Cod.joinQ (σ:=Bool) hd (fun (C:Bool) c w=>∃ I_,IH.le y I_∧Ok ⟨100,[],none⟩ [(1,.int .i64 a1),(2,.int .i64 a2),(3,.pointer (some ⟨p,0,none⟩)),(6,.pointer (some ⟨q,0,none⟩)),(7,.pointer (some ⟨l,0,none⟩)),(8,.slice j d.length k),(9,.int .i64 i),(10,.int .i64 0),(11,.bool C)] c∧Sym w0 M I I_ [pto p (.cells #[.int .i64 a0.Kind,.int .i64 a0.N,.int .i64 a0.Source,.int .i64 a0.Length,.slice p1 a0.Draws.length c2] 25 (0,0)),pto q (.cells #[.int .i64 0,.int .i64 0,.slice none 0 0,.slice none 0 0,.slice none 0 0] 36 (0,0)),pto l (.cells #[.int .i64 a1,.int .i64 a2,.slice e a.length f,.slice g b.length h,.slice none 0 0] 36 (0,0)),OwnSl eI64 2 e f a,OwnSl eI64 2 g h b,OwnSl eI64 3 j k d] w) (fun h9 hd=>?_) ?_
   · skip
     refine .region (.fa un25 r sz22 r (o:=0) r r r (.load1 ia22 r .z r r r ?_))
     have b5:=W_ref21_from (I:=y) hd
     refine .callP call58 r b5 r r fun i0 b6=>?_
     obtain ⟨i1,rfl,hd⟩:=b6
     refine .ks 1 r ?_
     refine splitP hd (fun L hd=>?_) fun L hd=>?_
     · rw [L]
       refine .ks 1 r (.gyes r r r (.fa un25 r sz3 r (o:=2) r r r (.gyes r r r (.load1 ia3 r .z r r r (.ks 3 r ?_)))))
       refine splitP hd (fun O hd=>?_) fun O hd=>?_
       · rw [O]
         exact .ks 5 r (.nil' fun c w ho hs=>⟨true,hd,y,(.refl _),ho.sub ⟨r,r,r,r,r,r,r,r,r,trivial⟩,hs.pick (.c .z (.c .z (.c .z (.c .z (.c .z (.c .z .n))))))⟩)
       rw [O]
       exact .gyes r r r (.fa un25 r sz22 r (o:=0) r r r (.gyes r r r (.load1 ia22 r .z r r r (.ks 3 r (.nil' fun c w ho hs=>⟨(a0.Kind==3),hd,y,(.refl _),ho.sub ⟨r,r,r,r,r,r,r,r,r,trivial⟩,hs.pick (.c .z (.c .z (.c .z (.c .z (.c .z (.c .z .n))))))⟩)))))
     rw [L]
     exact .ks 6 r (.gyes r r r (.fa un25 r sz22 r (o:=0) r r r (.gyes r r r (.load1 ia22 r .z r r r (.ks 3 r (.nil' fun c w ho hs=>⟨(a0.Kind==3),hd,y,(.refl _),ho.sub ⟨r,r,r,r,r,r,r,r,r,trivial⟩,hs.pick (.c .z (.c .z (.c .z (.c .z (.c .z (.c .z .n))))))⟩))))))
   rintro C hd c w hst
   obtain ⟨D,P,hok,hsym⟩:=hst
   have b7:=IH.le.trans K P
   replace R3:=R3.mono P
   refine Cod.at hok hsym (.seq ?_)
   refine Cod.joinQ (σ:=Int) hd (fun (H:Int) c w=>∃ I_,IH.le D I_∧Ok ⟨100,[],none⟩ [(1,.int .i64 a1),(2,.int .i64 a2),(3,.pointer (some ⟨p,0,none⟩)),(6,.pointer (some ⟨q,0,none⟩)),(7,.pointer (some ⟨l,0,none⟩)),(8,.slice j d.length k),(9,.int .i64 i),(10,.int .i64 H),(11,.bool C)] c∧Sym w0 M I I_ [pto p (.cells #[.int .i64 a0.Kind,.int .i64 a0.N,.int .i64 a0.Source,.int .i64 a0.Length,.slice p1 a0.Draws.length c2] 25 (0,0)),pto q (.cells #[.int .i64 0,.int .i64 0,.slice none 0 0,.slice none 0 0,.slice none 0 0] 36 (0,0)),pto l (.cells #[.int .i64 a1,.int .i64 a2,.slice e a.length f,.slice g b.length h,.slice none 0 0] 36 (0,0)),OwnSl eI64 2 e f a,OwnSl eI64 2 g h b,OwnSl eI64 3 j k d] w) (fun i2 hd=>?_) ?_
   · skip
     refine .sr (.fa un25 r sz22 r (o:=0) r r r (.load1 ia22 r .z r r r (.nilS [55,11,10,9,8,7,6,3,2,1] r r (.block (.sr (.ks 2 r (.nilS [56,55,11,10,9,8,7,6,3,2,1] r r (.condP r hd (fun b8 hd=>?_) fun b8 hd=>?_))))))))
     · exact .region (.ks 1 r (.nil' fun c w ho hs=>⟨(-1),hd,D,(.refl _),ho.sub ⟨r,r,r,r,r,r,r,r,r,trivial⟩,hs.pick (.c .z (.c .z (.c .z (.c .z (.c .z (.c .z .n))))))⟩))
     refine .sr (.ks 2 r (.nilS [58,55,11,10,9,8,7,6,3,2,1] r r (.condP r hd (fun b9 hd=>?_) fun b9 hd=>?_)))
     · exact .region (.ks 1 r (.nil' fun c w ho hs=>⟨4611686018427387904,hd,D,(.refl _),ho.sub ⟨r,r,r,r,r,r,r,r,r,trivial⟩,hs.pick (.c .z (.c .z (.c .z (.c .z (.c .z (.c .z .n))))))⟩))
     refine .sr (.ks 2 r (.nilS [60,11,10,9,8,7,6,3,2,1] r r (.condP r hd (fun c0 hd=>?_) fun c0 hd=>?_)))
     · exact .region (.ks 2 r (.nil' fun c w ho hs=>⟨i,hd,D,(.refl _),ho.sub ⟨r,r,r,r,r,r,r,r,r,trivial⟩,hs.pick (.c .z (.c .z (.c .z (.c .z (.c .z (.c .z .n))))))⟩))
     exact .skip' fun c w ho hs=>⟨0,hd,D,(.refl _),ho.sub ⟨r,r,r,r,r,r,r,r,r,trivial⟩,hs.pick (.c .z (.c .z (.c .z (.c .z (.c .z (.c .z .n))))))⟩
   rintro H hd c w hst
   obtain ⟨E,u,hok,hsym⟩:=hst
   have a4:=IH.le.trans b7 u
   have a5:=IH.le.trans P u
   replace R3:=R3.mono u
   refine Cod.at hok hsym (.seq ?_)
   refine Cod.joinQ (σ:=Int) hd (fun (F:Int) c w=>∃ I_,IH.le E I_∧Ok ⟨100,[],none⟩ [(1,.int .i64 a1),(2,.int .i64 a2),(3,.pointer (some ⟨p,0,none⟩)),(6,.pointer (some ⟨q,0,none⟩)),(7,.pointer (some ⟨l,0,none⟩)),(8,.slice j d.length k),(9,.int .i64 i),(10,.int .i64 F),(11,.bool C)] c∧Sym w0 M I I_ [pto p (.cells #[.int .i64 a0.Kind,.int .i64 a0.N,.int .i64 a0.Source,.int .i64 a0.Length,.slice p1 a0.Draws.length c2] 25 (0,0)),pto q (.cells #[.int .i64 0,.int .i64 0,.slice none 0 0,.slice none 0 0,.slice none 0 0] 36 (0,0)),pto l (.cells #[.int .i64 a1,.int .i64 a2,.slice e a.length f,.slice g b.length h,.slice none 0 0] 36 (0,0)),OwnSl eI64 2 e f a,OwnSl eI64 2 g h b,OwnSl eI64 3 j k d] w) (fun i3 hd=>?_) ?_
   · skip
     refine .seq ?_
     refine Cod.joinQ (σ:=Bool) hd (fun (b3:Bool) c w=>∃ I_,IH.le E I_∧Ok ⟨100,[],none⟩ [(1,.int .i64 a1),(2,.int .i64 a2),(3,.pointer (some ⟨p,0,none⟩)),(6,.pointer (some ⟨q,0,none⟩)),(7,.pointer (some ⟨l,0,none⟩)),(8,.slice j d.length k),(9,.int .i64 i),(10,.int .i64 H),(11,.bool C),(71,.bool b3)] c∧Sym w0 M I I_ [pto p (.cells #[.int .i64 a0.Kind,.int .i64 a0.N,.int .i64 a0.Source,.int .i64 a0.Length,.slice p1 a0.Draws.length c2] 25 (0,0)),pto q (.cells #[.int .i64 0,.int .i64 0,.slice none 0 0,.slice none 0 0,.slice none 0 0] 36 (0,0)),pto l (.cells #[.int .i64 a1,.int .i64 a2,.slice e a.length f,.slice g b.length h,.slice none 0 0] 36 (0,0)),OwnSl eI64 2 e f a,OwnSl eI64 2 g h b,OwnSl eI64 3 j k d] w) (fun i4 hd=>?_) ?_
     · skip
       refine .region (.fa un25 r sz22 r (o:=0) r r r (.load1 ia22 r .z r r r ?_))
       have c1:=W_ref21_from (I:=E) hd
       refine .callP call58 r c1 r r fun i5 c3=>?_
       obtain ⟨i6,rfl,hd⟩:=c3
       refine .ks 1 r ?_
       refine splitP hd (fun R hd=>?_) fun R hd=>?_
       · rw [R]
         exact .ks 1 r (.gyes r r r (.fa un25 r sz3 r (o:=2) r r r (.gyes r r r (.load1 ia3 r .z r r r (.ks 2 r (.nil' fun c w ho hs=>⟨(i==a0.Source),hd,E,(.refl _),ho.sub ⟨r,r,r,r,r,r,r,r,r,r,trivial⟩,hs.pick (.c .z (.c .z (.c .z (.c .z (.c .z (.c .z .n))))))⟩))))))
       rw [R]
       exact .ks 5 r (.nil' fun c w ho hs=>⟨false,hd,E,(.refl _),ho.sub ⟨r,r,r,r,r,r,r,r,r,r,trivial⟩,hs.pick (.c .z (.c .z (.c .z (.c .z (.c .z (.c .z .n))))))⟩)
     rintro b3 hd c w hst
     obtain ⟨V,m,hok,hsym⟩:=hst
     have h3:=IH.le.trans a4 m
     have h4:=IH.le.trans a5 m
     have h5:=IH.le.trans u m
     replace R3:=R3.mono m
     refine Cod.at hok hsym (.condP r hd (fun c4 hd=>?_) fun c4 hd=>?_)
     · refine .sr (.ks 1 r (.nilS [10,11,9,8,7,6,3,2,1] r r (.sr (.fa un25 r sz22 r (o:=0) r r r (.load1 ia22 r .z r r r (.ks 1 r (.nilS [74,10,11,9,8,7,6,3,2,1] r r (.condP r hd (fun c5 hd=>?_) fun c5 hd=>?_))))))))
       · exact .region (.ks 1 r (.nil' fun c w ho hs=>⟨1,hd,V,m,ho.sub ⟨r,r,r,r,r,r,r,r,r,trivial⟩,hs.pick (.c .z (.c .z (.c .z (.c .z (.c .z (.c .z .n))))))⟩))
       exact .skip' fun c w ho hs=>⟨0,hd,V,m,ho.sub ⟨r,r,r,r,r,r,r,r,r,trivial⟩,hs.pick (.c .z (.c .z (.c .z (.c .z (.c .z (.c .z .n))))))⟩
     exact .skip' fun c w ho hs=>⟨H,hd,V,m,ho.sub ⟨r,r,r,r,r,r,r,r,r,trivial⟩,hs.pick (.c .z (.c .z (.c .z (.c .z (.c .z (.c .z .n))))))⟩
   rintro F hd c w hst
   obtain ⟨W,v,hok,hsym⟩:=hst
   have c6:=IH.le.trans a4 v
   have c7:=IH.le.trans a5 v
   have c8:=IH.le.trans u v
   replace R3:=R3.mono v
   refine Cod.at hok hsym (.seq ?_)
   refine Cod.joinQ (σ:=(List Int)) hd (fun (J:(List Int)) c w=>∃ I_ X Y,IH.le W I_∧Ok ⟨100,[],none⟩ [(1,.int .i64 a1),(2,.int .i64 a2),(3,.pointer (some ⟨p,0,none⟩)),(6,.pointer (some ⟨q,0,none⟩)),(7,.pointer (some ⟨l,0,none⟩)),(8,.slice X J.length Y),(9,.int .i64 i),(10,.int .i64 F)] c∧Sym w0 M I I_ [pto p (.cells #[.int .i64 a0.Kind,.int .i64 a0.N,.int .i64 a0.Source,.int .i64 a0.Length,.slice p1 a0.Draws.length c2] 25 (0,0)),pto q (.cells #[.int .i64 0,.int .i64 0,.slice none 0 0,.slice none 0 0,.slice none 0 0] 36 (0,0)),pto l (.cells #[.int .i64 a1,.int .i64 a2,.slice e a.length f,.slice g b.length h,.slice none 0 0] 36 (0,0)),OwnSl eI64 2 e f a,OwnSl eI64 2 g h b,OwnSl eI64 3 X Y J] w) (fun i7 hd=>?_) ?_
   · skip
     refine .sr (.ks 1 r (.nilS [75,10,9,8,7,6,3,2,1] r r (.condP r hd (fun c9 hd=>?_) fun c9 hd=>?_)))
     · refine .region (.ks 4 r (.buildSlice 1 un51 sz3 zv3 r r (.c r r r .n) r r fun i8=>?_))
       obtain ⟨d0,hd⟩:=hd
       refine .append (ys:=[w64 (i - a1)]) 8 (.s (.s (.s (.s (.s (.s .z)))))) un51 un51 IN3 r r r r r r r r r (.box .z (.one r) r) d0 r r fun i9 j0=>?_
       exact .ks 1 r (.nil' fun c w ho hs=>⟨(d++([w64 (i - a1)])),hd,W,_,_,(.refl _),ho.sub ⟨r,r,r,r,r,r,r,r,trivial⟩,hs.pick (.c (.s (.s .z)) (.c (.s (.s .z)) (.c (.s (.s .z)) (.c (.s (.s .z)) (.c (.s (.s .z)) (.c .z .n))))))⟩)
     exact .skip' fun c w ho hs=>⟨d,hd,W,_,_,(.refl _),ho.sub ⟨r,r,r,r,r,r,r,r,trivial⟩,hs.pick (.c .z (.c .z (.c .z (.c .z (.c .z (.c .z .n))))))⟩
   rintro J hd c w hst
   obtain ⟨f0,X,Y,x,hok,hsym⟩:=hst
   have d1:=IH.le.trans c6 x
   have h6:=IH.le.trans c7 x
   have h7:=IH.le.trans c8 x
   have h8:=IH.le.trans v x
   replace R3:=R3.mono x
   refine Cod.at hok hsym (.sr (.fa un36 r sz23 r (o:=2) r r r (.load1 ia23 r (.s (.s .z)) r r r (.ks 1 r (.buildSlice 1 un23 sz2 zv2 r r (.c r r r .n) r r fun j1=>?_)))))
   obtain ⟨d2,hd⟩:=hd
   refine .append (ys:=[F]) 8 (.s (.s (.s (.s .z)))) un23 un23 IN2 r r r r r r r r r (.box .z (.one r) r) d2 r r fun j2 j3=>?_
   refine .fa un36 r sz23 r (o:=2) r r r (.store1 sz23 r r (.s (.s (.s (.s .z)))) (.s (.s (.t .nil))) r (.nilS [9,8,7,6,3,2,1] r r (.drop (.s .z) (.region (.fa un36 r sz23 r (o:=3) r r r (.load1 ia23 r (.s (.s (.s .z))) r r r (.buildSlice 1 un23 sz2 zv2 r r (.c r r r .n) r r fun j4=>?_)))))))
   obtain ⟨d3,hd⟩:=hd
   refine .append (ys:=[(-1)]) 8 (.s (.s (.s (.s (.s .z))))) un23 un23 IN2 r r r r r r r r r (.box .z (.one r) r) d3 r r fun j5 j6=>?_
   exact .fa un36 r sz23 r (o:=3) r r r (.store1 sz23 r r (.s (.s (.s (.s (.s .z))))) (.s (.s (.s (.t .nil)))) r (.nilS [9,8,7,6,3,2,1] r r (.drop (.s .z) (.region (.ks 3 r (.nil' fun c w ho hs=>⟨((a++([F])),(b++([(-1)])),J,w64 (i+1)),hd,f0,_,_,_,_,_,_,d1,ho.sub ⟨r,r,r,r,r,r,r,trivial⟩,hs.pick (.c (.s (.s .z)) (.c (.s (.s .z)) (.c (.s (.s .z)) (.c (.s .z) (.c .z (.c .z .n))))))⟩))))))
 refine .exitS [8,7,6,2,1] r r (.drop .z (.sr (.ks 4 r (.pub (.s (.s (.s (.s .z)))) fun f1 d4 Z=>?_))))
 have d5:=IH.le.trans K d4
 have d6:=W_ref03_Of (I:=f1) Z hd
 refine .call call88 r d6 r r fun j7 j8 a6 d7=>?_
 obtain ⟨f2,j9,k0,rfl,G,hd⟩:=d7
 have d8:=IH.le.trans d5 a6
 replace Z:=Z.mono a6
 refine .fa un36 r sz34 r (o:=4) r r r (.store1 sz34 r r (.s .z) (.s (.s (.s (.s (.t .nil))))) r (.nilS [7,6] r r (.sr (.loadW ia36 sz36 r (.s .z) r r r (.storeA sz36 r r .z (.t (.t (.t (.t (.t .nil))))) r r (.nilS [6] r r (.drop (.s .z) (.pub (.s .z) fun k1 a7 a3=>?_))))))))
 have d9:=IH.le.trans d8 a7
 replace G:=G.mono a7
 refine .pub (.s .z) fun k2 S f3=>?_
 have e0:=IH.le.trans d9 S
 replace G:=G.mono S
 replace a3:=a3.mono S
 exact .ret (pret results48 (.w ia36 sz36 r .z r .n) e0 ⟨({ Low:=a1,High:=a2,A:=a,B:=b,On:=f2 }:State),_,_,_,_,_,_,r,a3,f3,G,hd⟩)
theorem W_ref03_Has {I:IH} {a0:List Int} {a1:Int} {p1:Option Addr} {c2:Nat} {Q:Bool→Prop} (R3:RepSl eU64 I p1 c2 a0) (hd:ref03_Has a0 a1 Q) :
  PFun prog 90 [.slice p1 a0.length c2,.int .i64 a1] I (fun _=>o2_ Q):=by
 refine Fun.enter func90 r ntmps90 r (.c (.c .n)) fun w0 M=>?_
 refine .sr (.ks 1 r (.nilS [1,0] r r (.sr (.ks 3 r ?_))))
 refine splitP hd (fun a hd=>?_) fun a hd=>?_
 · rw [a]
   refine .ks 1 r (.gyes r r r (.quo r r (by decide) r r (.ks 1 r (.gyes r r r (.len un34 r r r r (.ks 3 r ?_))))))
   refine splitP hd (fun b hd=>?_) fun b hd=>?_
   · rw [b]
     refine .ks 2 r (.gyes r r r (.quo r r (by decide) r r ?_))
     obtain ⟨h,k,d,hd⟩:=hd
     obtain ⟨m,o10,l,i,e,f⟩:=R3.2 _ _ d
     cases f
     refine .gyes r r r (.ixa un34 sz96 r i r h (idx_lt d h) r r (.gyes r r r (.ld1 (j:=0) ia96 e r r r r r (.ks 1 r (.gyes r r r (.rem r r (by decide) r r (.gyes r r r (.conv un3 underlying148 r r r ?_))))))))
     obtain ⟨g,hd⟩:=hd
     exact .gyes r r r (.shr' r r g r r (.ks 4 r (.nilS [4] r r (.ret (pret results90 (.t r .n) (.refl _) ⟨((bnd .u64 (shr .u64 k (IntKind.wrap .u64 (a1.tmod 64))) 1)==1),r,hd⟩)))))
   rw [b]
   exact .ks 13 r (.nilS [4] r r (.ret (pret results90 (.t r .n) (.refl _) ⟨false,r,hd⟩)))
 rw [a]
 exact .ks 20 r (.nilS [4] r r (.ret (pret results90 (.t r .n) (.refl _) ⟨false,r,hd⟩)))
theorem W_ref03_List {I:IH} {a0:List Int} {p1:Option Addr} {c2:Nat} {Q:(List Int)→Prop} (R3:RepSl eU64 I p1 c2 a0) (hd:ref03_List a0 Q) :
  PFun prog 177 [.slice p1 a0.length c2] I (o14_ Q):=by
 refine Fun.enter func177 r ntmps177 r (.c .n) fun w0 M=>?_
 refine .sr (.ks 1 r (.nilS [0] r r (.sr (.ks 1 r (.nilS [3,0] r r (.seq (.sr (.ks 1 r (.nilS [4,3,0] r r ?_)))))))))
 refine .block (.own0 eI64 3 (.loop hd (fun (s:(List Int)×Int) c w=>match s with | (a,b)=>∃ I_ e f,IH.le I I_∧Ok ⟨20,[],none⟩ [(0,.slice p1 a0.length c2),(3,.slice e a.length f),(4,.int .i64 b)] c∧Sym w0 M I I_ [OwnSl eI64 3 e f a] w) (fun c w ho hs=>⟨I,_,_,(.refl _),ho.sub ⟨r,r,r,trivial⟩,hs.pick (.c .z .n)⟩) ?_))
 rintro ⟨a,b⟩ p hd c w hst
 obtain ⟨g,e,f,d,hok,hsym⟩:=hst
 replace R3:=R3.mono d
 refine Cod.at hok hsym (.seq (.sr (.ks 2 r (.len un34 r r r r (.ks 2 r (.nilS [9,4,3,0] r r (.condP r hd (fun h hd=>?_) fun h hd=>?_)))))))
 · refine .skipS [4,3,0] r r (.seq (.block (.sr (.ks 2 r ?_))))
   have i:=W_ref03_Has (I:=g) R3 hd
   refine .callP call90 r i r r fun u j=>?_
   obtain ⟨v,rfl,hd⟩:=j
   refine .nilS [14,4,3,0] r r (.condP r hd (fun k hd=>?_) fun k hd=>?_)
   · refine .region (.ks 2 r (.buildSlice 1 un51 sz3 zv3 r r (.c r r r .n) r r fun x=>?_))
     obtain ⟨l,hd⟩:=hd
     refine .append (ys:=[b]) 8 (.s .z) un51 un51 IN3 r r r r r r r r r (.box .z (.one r) r) l r r fun y A=>?_
     exact .ks 1 r (.nilS [3,4,0] r r (.drop (.s .z) (.region (.ks 3 r (.nil' fun c w ho hs=>⟨((a++([b])),w64 (b+1)),hd,g,_,_,d,ho.sub ⟨r,r,r,trivial⟩,hs.pick (.c .z .n)⟩)))))
   exact .skipS [4,3,0] r r (.region (.ks 3 r (.nil' fun c w ho hs=>⟨(a,w64 (b+1)),hd,g,_,_,d,ho.sub ⟨r,r,r,trivial⟩,hs.pick (.c .z .n)⟩)))
 refine .exitS [3] r r (.sr (.ks 2 r (.nilS [2] r r (.pub .z fun B m q=>?_))))
 have o:=IH.le.trans d m
 exact .ret (pret results177 (.t r .n) o ⟨a,_,_,r,q,hd⟩)
theorem W_ref03_Right {I:IH} {a0:List Int} {a1:Int} {p1:Option Addr} {c2:Nat} {Q:Bool→Prop} (R3:RepSl eU64 I p1 c2 a0) (hd:ref03_Right a0 a1 Q) :
  PFun prog 141 [.slice p1 a0.length c2,.int .i64 a1] I (fun _=>o2_ Q):=by
 refine Fun.enter func141 r ntmps141 r (.c (.c .n)) fun w0 M=>?_
 refine .sr (.ks 1 r (.nilS [1,0] r r (.seq (.sr (.ks 3 r ?_)))))
 refine splitP hd (fun a hd=>?_) fun a hd=>?_
 · rw [a]
   exact .ks 10 r (.nilS [18,1,0] r r (.condKT r r (.sr (.ks 1 r (.nilS [4] r r (.ret (pret results141 (.t r .n) (.refl _) ⟨false,r,hd⟩)))))))
 rw [a]
 refine .ks 4 r ?_
 refine splitP hd (fun b hd=>?_) fun b hd=>?_
 · rw [b]
   exact .ks 6 r (.nilS [18,1,0] r r (.condKT r r (.sr (.ks 1 r (.nilS [4] r r (.ret (pret results141 (.t r .n) (.refl _) ⟨false,r,hd⟩)))))))
 rw [b]
 refine .ks 1 r (.gyes r r r (.len un34 r r r r (.ks 1 r ?_)))
 have h:=W_ref03_words (I:=I) hd
 refine .gyes r r r (.callP call175 r h r r fun w i=>?_)
 obtain ⟨x,rfl,hd⟩:=i
 refine .ks 2 r (.nilS [18,1,0] r r (.condP r hd (fun k hd=>?_) fun k hd=>?_))
 · exact .sr (.ks 1 r (.nilS [4] r r (.ret (pret results141 (.t r .n) (.refl _) ⟨false,r,hd⟩))))
 refine .skipS [1,0] r r (.sr (.ks 1 r ?_))
 have l:=W_ref03_List (I:=I) R3 hd
 refine .call call177 r l r r fun y z d m=>?_
 obtain ⟨A,B,C,rfl,q,hd⟩:=m
 replace R3:=R3.mono d
 refine .ks 1 r (.nilS [5,1] r r (.sr (.ks 1 r (.len un51 r r r r (.ks 2 r ?_)))))
 refine splitP hd (fun e hd=>?_) fun e hd=>?_
 · rw [e]
   exact .ks 10 r (.nilS [4] r r (.ret (pret results141 (.t r .n) d ⟨true,r,hd⟩)))
 rw [e]
 refine .ks 2 r (.gyes r r r (.len un51 r r r r (.ks 1 r ?_)))
 obtain ⟨g,s,f,hd⟩:=hd
 obtain ⟨D,o43,v,u,o,p⟩:=q.2 _ _ f
 cases p
 exact .gyes r r r (.ixa un51 sz3 r u r g (idx_lt f g) r r (.gyes r r r (.ld1 (j:=0) ia3 o r r r r r (.ks 4 r (.nilS [4] r r (.ret (pret results141 (.t r .n) d ⟨(decide (s<a1)),r,hd⟩)))))))
theorem W_ref21_Sure {I:IH} {a0:Plan} {a1:State} {p1:Option Addr} {c2:Nat} {p4:Option Addr} {c5:Nat} {p7:Option Addr} {c8:Nat} {p10:Option Addr} {c11:Nat} {Q:State→Prop} (R3:RepSl eI64 I p1 c2 a0.Draws) (R6:RepSl eI64 I p4 c5 a1.A) (R9:RepSl eI64 I p7 c8 a1.B) (R12:RepSl eU64 I p10 c11 a1.On) (hd:ref21_Sure a0 a1 Q) :
  PFun prog 89 [.agg #[.int .i64 a0.Kind,.int .i64 a0.N,.int .i64 a0.Source,.int .i64 a0.Length,.slice p1 a0.Draws.length c2],.agg #[.int .i64 a1.Low,.int .i64 a1.High,.slice p4 a1.A.length c5,.slice p7 a1.B.length c8,.slice p10 a1.On.length c11]] I (o15_ Q):=by
 refine Fun.enter func89 r ntmps89 r (.c (.c .n)) fun w0 M=>?_
 refine .sr (.boxA r r r fun f6=>?_)
 refine .boxA r r r fun f7=>?_
 refine .allocA zv36 r r fun f8=>?_
 refine .nilS [4,3,2] r r (.seq (.sr (.loadW ia25 sz25 r (.s (.s .z)) r r r ?_)))
 have H:=W_ref21_Right (I:=I) R3 hd
 refine .callP call30 r H r r fun f9 J=>?_
 obtain ⟨g0,rfl,hd⟩:=J
 refine .ks 2 r ?_
 refine splitP hd (fun k hd=>?_) fun k hd=>?_
 · rw [k]
   refine .ks 51 r (.nilS [59,4,3] r r (.drop (.s (.s .z)) (.condKT r r (.sr ?_))))
   have K:=W_ref21_none (I:=I) hd
   refine .call call87 r K r r fun g1 g2 e L=>?_
   obtain ⟨b0,g3,g4,g5,g6,g7,g8,rfl,b1,b2,b3,hd⟩:=L
   replace R6:=R6.mono e
   replace R9:=R9.mono e
   replace R12:=R12.mono e
   exact .storeA sz36 r r .z (.t (.t (.t (.t (.t .nil))))) r r (.nilS [4] r r (.drop (.s .z) (.ret (pret results89 (.w ia36 sz36 r .z r .n) e ⟨b0,_,_,_,_,_,_,r,b1,b2,b3,hd⟩))))
 rw [k]
 refine .gyes r r r (.fa un36 r sz3 r (o:=0) r r r (.gyes r r r (.load1 ia3 r (.s .z) r r r (.ks 3 r ?_))))
 refine splitP hd (fun l hd=>?_) fun l hd=>?_
 · rw [l]
   refine .ks 46 r (.nilS [59,4,3] r r (.drop (.s (.s .z)) (.condKT r r (.sr ?_))))
   have O:=W_ref21_none (I:=I) hd
   refine .call call87 r O r r fun g9 h0 f P=>?_
   obtain ⟨b4,h1,h2,h3,h4,h5,h6,rfl,b5,b6,b7,hd⟩:=P
   replace R6:=R6.mono f
   replace R9:=R9.mono f
   replace R12:=R12.mono f
   exact .storeA sz36 r r .z (.t (.t (.t (.t (.t .nil))))) r r (.nilS [4] r r (.drop (.s .z) (.ret (pret results89 (.w ia36 sz36 r .z r .n) f ⟨b4,_,_,_,_,_,_,r,b5,b6,b7,hd⟩))))
 rw [l]
 refine .gyes r r r (.fa un36 r sz3 r (o:=1) r r r (.gyes r r r (.load1 ia3 r (.s .z) r r r (.gyes r r r (.fa un36 r sz3 r (o:=0) r r r (.gyes r r r (.load1 ia3 r (.s .z) r r r (.ks 3 r ?_))))))))
 refine splitP hd (fun m hd=>?_) fun m hd=>?_
 · rw [m]
   refine .ks 39 r (.nilS [59,4,3] r r (.drop (.s (.s .z)) (.condKT r r (.sr ?_))))
   have R:=W_ref21_none (I:=I) hd
   refine .call call87 r R r r fun h7 h8 g S=>?_
   obtain ⟨b8,h9,i0,i1,i2,i3,i4,rfl,b9,c0,c1,hd⟩:=S
   replace R6:=R6.mono g
   replace R9:=R9.mono g
   replace R12:=R12.mono g
   exact .storeA sz36 r r .z (.t (.t (.t (.t (.t .nil))))) r r (.nilS [4] r r (.drop (.s .z) (.ret (pret results89 (.w ia36 sz36 r .z r .n) g ⟨b8,_,_,_,_,_,_,r,b9,c0,c1,hd⟩))))
 rw [m]
 refine .gyes r r r (.fa un36 r sz3 r (o:=1) r r r (.gyes r r r (.load1 ia3 r (.s .z) r r r (.gyes r r r (.fa un25 r sz3 r (o:=1) r r r (.gyes r r r (.load1 ia3 r (.s (.s .z)) r r r (.ks 3 r ?_))))))))
 refine splitP hd (fun p hd=>?_) fun p hd=>?_
 · rw [p]
   refine .ks 32 r (.nilS [59,4,3] r r (.drop (.s (.s .z)) (.condKT r r (.sr ?_))))
   have q:=W_ref21_none (I:=I) hd
   refine .call call87 r q r r fun i5 i6 h T=>?_
   obtain ⟨c3,i7,i8,i9,c6,c7,c9,rfl,c4,U,V,hd⟩:=T
   replace R6:=R6.mono h
   replace R9:=R9.mono h
   replace R12:=R12.mono h
   exact .storeA sz36 r r .z (.t (.t (.t (.t (.t .nil))))) r r (.nilS [4] r r (.drop (.s .z) (.ret (pret results89 (.w ia36 sz36 r .z r .n) h ⟨c3,_,_,_,_,_,_,r,c4,U,V,hd⟩))))
 rw [p]
 refine .gyes r r r (.fa un36 r sz23 r (o:=2) r r r (.gyes r r r (.load1 ia23 r (.s .z) r r r (.gyes r r r (.len un23 r r r r (.gyes r r r (.fa un36 r sz3 r (o:=1) r r r (.gyes r r r (.load1 ia3 r (.s .z) r r r (.gyes r r r (.fa un36 r sz3 r (o:=0) r r r (.gyes r r r (.load1 ia3 r (.s .z) r r r (.ks 4 r ?_))))))))))))))
 refine splitP hd (fun i hd=>?_) fun i hd=>?_
 · rw [i]
   refine .ks 21 r (.nilS [59,4,3] r r (.drop (.s (.s .z)) (.condKT r r (.sr ?_))))
   have u:=W_ref21_none (I:=I) hd
   refine .call call87 r u r r fun d0 d1 a v=>?_
   obtain ⟨W,d2,d3,d4,d5,d6,d7,rfl,X,Y,Z,hd⟩:=v
   replace R6:=R6.mono a
   replace R9:=R9.mono a
   replace R12:=R12.mono a
   exact .storeA sz36 r r .z (.t (.t (.t (.t (.t .nil))))) r r (.nilS [4] r r (.drop (.s .z) (.ret (pret results89 (.w ia36 sz36 r .z r .n) a ⟨W,_,_,_,_,_,_,r,X,Y,Z,hd⟩))))
 rw [i]
 refine .gyes r r r (.fa un36 r sz23 r (o:=3) r r r (.gyes r r r (.load1 ia23 r (.s .z) r r r (.gyes r r r (.len un23 r r r r (.gyes r r r (.fa un36 r sz3 r (o:=1) r r r (.gyes r r r (.load1 ia3 r (.s .z) r r r (.gyes r r r (.fa un36 r sz3 r (o:=0) r r r (.gyes r r r (.load1 ia3 r (.s .z) r r r (.ks 4 r ?_))))))))))))))
 refine splitP hd (fun j hd=>?_) fun j hd=>?_
 · rw [j]
   refine .ks 10 r (.nilS [59,4,3] r r (.drop (.s (.s .z)) (.condKT r r (.sr ?_))))
   have x:=W_ref21_none (I:=I) hd
   refine .call call87 r x r r fun d8 d9 b y=>?_
   obtain ⟨a2,e0,e1,e2,e3,e4,e5,rfl,a3,a4,a5,hd⟩:=y
   replace R6:=R6.mono b
   replace R9:=R9.mono b
   replace R12:=R12.mono b
   exact .storeA sz36 r r .z (.t (.t (.t (.t (.t .nil))))) r r (.nilS [4] r r (.drop (.s .z) (.ret (pret results89 (.w ia36 sz36 r .z r .n) b ⟨a2,_,_,_,_,_,_,r,a3,a4,a5,hd⟩))))
 rw [j]
 refine .gyes r r r (.fa un36 r sz34 r (o:=4) r r r (.gyes r r r (.load1 ia34 r (.s .z) r r r (.gyes r r r (.fa un36 r sz3 r (o:=1) r r r (.gyes r r r (.load1 ia3 r (.s .z) r r r (.gyes r r r (.fa un36 r sz3 r (o:=0) r r r (.gyes r r r (.load1 ia3 r (.s .z) r r r (.ks 1 r ?_))))))))))))
 have C:=W_ref03_Right (I:=I) R12 hd
 refine .gyes r r r (.callP call141 r C r r fun e6 D=>?_)
 obtain ⟨e7,rfl,hd⟩:=D
 refine .ks 2 r (.nilS [59,4,3] r r (.drop (.s (.s .z)) (.condP r hd (fun E hd=>?_) fun E hd=>?_)))
 · refine .sr ?_
   have F:=W_ref21_none (I:=I) hd
   refine .call call87 r F r r fun e8 e9 d G=>?_
   obtain ⟨a6,f0,f1,f2,f3,f4,f5,rfl,a7,a8,a9,hd⟩:=G
   replace R6:=R6.mono d
   replace R9:=R9.mono d
   replace R12:=R12.mono d
   exact .storeA sz36 r r .z (.t (.t (.t (.t (.t .nil))))) r r (.nilS [4] r r (.drop (.s .z) (.ret (pret results89 (.w ia36 sz36 r .z r .n) d ⟨a6,_,_,_,_,_,_,r,a7,a8,a9,hd⟩))))
 exact .skipS [4,3] r r (.sr (.loadW ia36 sz36 r (.s .z) r r r (.storeA sz36 r r .z (.t (.t (.t (.t (.t .nil))))) r r (.nilS [4] r r (.drop (.s .z) (.ret (pret results89 (.w ia36 sz36 r .z r .n) (.refl _) ⟨a1,_,_,_,_,_,_,r,R6,R9,R12,hd⟩)))))))
theorem W_ref21_Live {I:IH} {a0:Plan} {a1:State} {a2:Int} {p1:Option Addr} {c2:Nat} {p4:Option Addr} {c5:Nat} {p7:Option Addr} {c8:Nat} {p10:Option Addr} {c11:Nat} {Q:Int→Prop} (R3:RepSl eI64 I p1 c2 a0.Draws) (R6:RepSl eI64 I p4 c5 a1.A) (R9:RepSl eI64 I p7 c8 a1.B) (R12:RepSl eU64 I p10 c11 a1.On) (hd:ref21_Live a0 a1 a2 Q) :
  PFun prog 49 [.agg #[.int .i64 a0.Kind,.int .i64 a0.N,.int .i64 a0.Source,.int .i64 a0.Length,.slice p1 a0.Draws.length c2],.agg #[.int .i64 a1.Low,.int .i64 a1.High,.slice p4 a1.A.length c5,.slice p7 a1.B.length c8,.slice p10 a1.On.length c11],.int .i64 a2] I (fun _=>o0_ Q):=by
 refine Fun.enter func49 r ntmps49 r (.c (.c (.c .n))) fun w0 M=>?_
 refine .sr (.boxA r r r fun v=>?_)
 refine .boxA r r r fun x=>?_
 refine .ks 1 r (.nilS [4,3,2] r r (.sr (.loadW ia25 sz25 r (.s .z) r r r (.loadW ia36 sz36 r .z r r r ?_))))
 have a3:=W_ref21_Sure (I:=I) R3 R6 R9 R12 hd
 refine .call call89 r a3 r r fun b7 D g a4=>?_
 obtain ⟨f,T,U,V,W,X,Y,rfl,q,y,i,hd⟩:=a4
 replace R3:=R3.mono g
 replace R6:=R6.mono g
 replace R9:=R9.mono g
 replace R12:=R12.mono g
 refine .storeA sz36 r r .z (.t (.t (.t (.t (.t .nil))))) r r (.nilS [4,3,2] r r (.seq ?_))
 refine Cod.joinQ (σ:=Unit) hd (fun (_:Unit) c w=>∃ I_,IH.le D I_∧Ok ⟨55,[],none⟩ [(3,.pointer (some ⟨v,0,none⟩)),(4,.pointer (some ⟨x,0,none⟩))] c∧Sym w0 M I I_ [pto v (.cells #[.int .i64 a0.Kind,.int .i64 a0.N,.int .i64 a0.Source,.int .i64 a0.Length,.slice p1 a0.Draws.length c2] 25 (0,0)),pto x (.cells #[.int .i64 f.Low,.int .i64 f.High,.slice T f.A.length U,.slice V f.B.length W,.slice X f.On.length Y] 36 (0,0))] w) (fun b8 hd=>?_) ?_
 · skip
   refine .sr (.fa un25 r sz22 r (o:=0) r r r (.load1 ia22 r (.s .z) r r r (.ks 2 r ?_)))
   refine splitP hd (fun u hd=>?_) fun u hd=>?_
   · rw [u]
     refine .ks 1 r (.gyes r r r (.fa un25 r sz3 r (o:=3) r r r (.gyes r r r (.load1 ia3 r (.s .z) r r r (.ks 2 r (.nilS [20,4,3] r r (.condP r hd (fun a5 hd=>?_) fun a5 hd=>?_)))))))
     · exact .sr (.ks 1 r (.nilS [6] r r (.drop .z (.drop .z (.ret (pret results49 (.t r .n) g ⟨0,r,hd⟩))))))
     exact .skip' fun c w ho hs=>⟨(),hd,D,(.refl _),ho.sub ⟨r,r,trivial⟩,hs.pick (.c (.s .z) (.c .z .n))⟩
   rw [u]
   exact .ks 5 r (.nilS [20,4,3] r r (.condKF r r (.skip' fun c w ho hs=>⟨(),hd,D,(.refl _),ho.sub ⟨r,r,trivial⟩,hs.pick (.c (.s .z) (.c .z .n))⟩)))
 rintro ⟨⟩ hd c w hst
 obtain ⟨Z,h,hok,hsym⟩:=hst
 have a6:=IH.le.trans g h
 replace R3:=R3.mono h
 replace q:=q.mono h
 replace y:=y.mono h
 replace i:=i.mono h
 refine Cod.at hok hsym (.sr (.ks 1 r (.nilS [7,4,3] r r (.seq (.sr (.ks 1 r (.nilS [8,7,4,3] r r (.block (.loop hd (fun (s:Int×Int) c w=>match s with | (b,d)=>∃ I_,IH.le Z I_∧Ok ⟨55,[],none⟩ [(3,.pointer (some ⟨v,0,none⟩)),(4,.pointer (some ⟨x,0,none⟩)),(7,.int .i64 b),(8,.int .i64 d)] c∧Sym w0 M I I_ [pto v (.cells #[.int .i64 a0.Kind,.int .i64 a0.N,.int .i64 a0.Source,.int .i64 a0.Length,.slice p1 a0.Draws.length c2] 25 (0,0)),pto x (.cells #[.int .i64 f.Low,.int .i64 f.High,.slice T f.A.length U,.slice V f.B.length W,.slice X f.On.length Y] 36 (0,0))] w) (fun c w ho hs=>⟨Z,(.refl _),ho.sub ⟨r,r,r,r,trivial⟩,hs.pick (.c .z (.c .z .n))⟩) ?_)))))))))
 rintro ⟨b,d⟩ a8 hd c w hst
 obtain ⟨e,a,hok,hsym⟩:=hst
 have F:=IH.le.trans a6 a
 have a9:=IH.le.trans h a
 replace R3:=R3.mono a
 replace q:=q.mono a
 replace y:=y.mono a
 replace i:=i.mono a
 refine Cod.at hok hsym (.seq (.sr (.ks 1 r (.fa un36 r sz3 r (o:=1) r r r (.load1 ia3 r (.s .z) r r r (.fa un36 r sz3 r (o:=0) r r r (.load1 ia3 r (.s .z) r r r (.ks 2 r (.nilS [27,8,7,4,3] r r ?_)))))))))
 refine .condP r hd (fun G hd=>?_) fun G hd=>?_
 · refine .skipS [8,7,4,3] r r (.seq (.block (.sr (.fa un25 r sz22 r (o:=0) r r r (.load1 ia22 r .z r r r (.ks 2 r ?_))))))
   refine splitP hd (fun k hd=>?_) fun k hd=>?_
   · rw [k]
     refine .gyes r r r (.fa un36 r sz23 r (o:=2) r r r (.gyes r r r (.load1 ia23 r (.s .z) r r r (.ks 1 r ?_))))
     obtain ⟨E,b1,C,hd⟩:=hd
     obtain ⟨b2,o133,b0,a7,H,J⟩:=q.2 _ _ C
     cases J
     refine .gyes r r r (.ixa un23 sz2 r a7 r E (idx_lt C E) r r (.gyes r r r (.ld1 (j:=0) ia2 H r r r r r (.ks 3 r ?_))))
     refine splitP hd (fun l hd=>?_) fun l hd=>?_
     · rw [l]
       exact .ks 10 r (.nilS [51,8,7,4,3] r r (.condKT r r (.region (.ks 3 r (.nilS [7,8,4,3] r r (.region (.ks 3 r (.nil' fun c w ho hs=>⟨(w64 (b+1),w64 (d+1)),hd,e,a,ho.sub ⟨r,r,r,r,trivial⟩,hs.pick (.c .z (.c .z .n))⟩))))))))
     rw [l]
     refine .gyes r r r (.fa un25 r sz22 r (o:=0) r r r (.gyes r r r (.load1 ia22 r .z r r r (.ks 2 r ?_))))
     refine splitP hd (fun m hd=>?_) fun m hd=>?_
     · rw [m]
       refine .gyes r r r (.fa un36 r sz34 r (o:=4) r r r (.gyes r r r (.load1 ia34 r (.s .z) r r r (.ks 1 r ?_))))
       have K:=W_ref03_Has (I:=e) i hd
       refine .gyes r r r (.callP call90 r K r r fun b3 L=>?_)
       obtain ⟨b4,rfl,hd⟩:=L
       refine .ks 2 r (.nilS [51,8,7,4,3] r r (.condP r hd (fun O hd=>?_) fun O hd=>?_))
       · exact .region (.ks 3 r (.nilS [7,8,4,3] r r (.region (.ks 3 r (.nil' fun c w ho hs=>⟨(w64 (b+1),w64 (d+1)),hd,e,a,ho.sub ⟨r,r,r,r,trivial⟩,hs.pick (.c .z (.c .z .n))⟩)))))
       exact .skipS [8,7,4,3] r r (.region (.ks 3 r (.nil' fun c w ho hs=>⟨(b,w64 (d+1)),hd,e,a,ho.sub ⟨r,r,r,r,trivial⟩,hs.pick (.c .z (.c .z .n))⟩)))
     rw [m]
     exact .ks 6 r (.nilS [51,8,7,4,3] r r (.condKF r r (.skipS [8,7,4,3] r r (.region (.ks 3 r (.nil' fun c w ho hs=>⟨(b,w64 (d+1)),hd,e,a,ho.sub ⟨r,r,r,r,trivial⟩,hs.pick (.c .z (.c .z .n))⟩))))))
   rw [k]
   refine .ks 8 r (.gyes r r r (.fa un25 r sz22 r (o:=0) r r r (.gyes r r r (.load1 ia22 r .z r r r (.ks 2 r ?_)))))
   refine splitP hd (fun p hd=>?_) fun p hd=>?_
   · rw [p]
     refine .gyes r r r (.fa un36 r sz34 r (o:=4) r r r (.gyes r r r (.load1 ia34 r (.s .z) r r r (.ks 1 r ?_))))
     have P:=W_ref03_Has (I:=e) i hd
     refine .gyes r r r (.callP call90 r P r r fun b5 R=>?_)
     obtain ⟨b6,rfl,hd⟩:=R
     refine .ks 2 r (.nilS [51,8,7,4,3] r r (.condP r hd (fun S hd=>?_) fun S hd=>?_))
     · exact .region (.ks 3 r (.nilS [7,8,4,3] r r (.region (.ks 3 r (.nil' fun c w ho hs=>⟨(w64 (b+1),w64 (d+1)),hd,e,a,ho.sub ⟨r,r,r,r,trivial⟩,hs.pick (.c .z (.c .z .n))⟩)))))
     exact .skipS [8,7,4,3] r r (.region (.ks 3 r (.nil' fun c w ho hs=>⟨(b,w64 (d+1)),hd,e,a,ho.sub ⟨r,r,r,r,trivial⟩,hs.pick (.c .z (.c .z .n))⟩)))
   rw [p]
   exact .ks 6 r (.nilS [51,8,7,4,3] r r (.condKF r r (.skipS [8,7,4,3] r r (.region (.ks 3 r (.nil' fun c w ho hs=>⟨(b,w64 (d+1)),hd,e,a,ho.sub ⟨r,r,r,r,trivial⟩,hs.pick (.c .z (.c .z .n))⟩))))))
 exact .exitS [7] r r (.drop .z (.drop .z (.sr (.ks 2 r (.nilS [6] r r (.ret (pret results49 (.t r .n) F ⟨b,r,hd⟩)))))))
theorem W_ref03_Same {I:IH} {a0:List Int} {a1:List Int} {p1:Option Addr} {c2:Nat} {p4:Option Addr} {c5:Nat} {Q:Bool→Prop} (R3:RepSl eU64 I p1 c2 a0) (R6:RepSl eU64 I p4 c5 a1) (hd:ref03_Same a0 a1 Q) :
  PFun prog 28 [.slice p1 a0.length c2,.slice p4 a1.length c5] I (fun _=>o2_ Q):=by
 refine Fun.enter func28 r ntmps28 r (.c (.c .n)) fun w0 M=>?_
 refine .sr (.ks 1 r (.nilS [1,0] r r (.seq (.sr (.ks 1 r (.len un34 r r r r (.ks 1 r (.len un34 r r r r (.ks 1 r ?_)))))))))
 refine .nilS [10,1,0] r r (.condP r hd (fun q hd=>?_) fun q hd=>?_)
 · exact .sr (.ks 1 r (.nilS [4] r r (.ret (pret results28 (.t r .n) (.refl _) ⟨false,r,hd⟩))))
 refine .skipS [1,0] r r (.seq (.sr (.ks 1 r (.nilS [5,1,0] r r (.block (.loop hd (fun (b:Int) c w=>∃ I_,IH.le I I_∧Ok ⟨26,[],none⟩ [(0,.slice p1 a0.length c2),(1,.slice p4 a1.length c5),(5,.int .i64 b)] c∧Sym w0 M I I_ [] w) (fun c w ho hs=>⟨I,(.refl _),ho.sub ⟨r,r,r,trivial⟩,hs.pick .n⟩) ?_))))))
 rintro b s hd c w hst
 obtain ⟨u,a,hok,hsym⟩:=hst
 replace R3:=R3.mono a
 replace R6:=R6.mono a
 refine Cod.at hok hsym (.seq (.sr (.ks 2 r (.len un34 r r r r (.ks 1 r (.nilS [14,5,1,0] r r (.condP r hd (fun i hd=>?_) fun i hd=>?_)))))))
 · refine .skipS [5,1,0] r r (.seq (.block (.seq (.dr [0,1,2,3,4,5,6,7,8] 9 (.fk 2 r ?_)))))
   obtain ⟨f,A,d,hd⟩:=hd
   obtain ⟨B,o64,y,v,k,l⟩:=R3.2 _ _ d
   cases l
   refine .g r r r (fun _=>.ixa un34 sz96 r v r f (idx_lt d f) r r .mk) (.g r r r (fun _=>.ld1 (j:=0) ia96 k r r r r r .mk) (.fk 2 r ?_))
   obtain ⟨h,C,e,hd⟩:=hd
   obtain ⟨D,o73,z,x,m,o⟩:=R6.2 _ _ e
   cases o
   refine .g r r r (fun _=>.ixa un34 sz96 r x r h (idx_lt e h) r r .mk) (.g r r r (fun _=>.ld1 (j:=0) ia96 m r r r r r .mk) (.fk 1 r (.e2 9 (.nilS [25,5,1,0] r r (.condP r hd (fun p hd=>?_) fun p hd=>?_)))))
   · exact .sr (.ks 1 r (.nilS [4] r r (.ret (pret results28 (.t r .n) a ⟨false,r,hd⟩))))
   exact .skipS [5,1,0] r r (.region (.ks 3 r (.nil' fun c w ho hs=>⟨(w64 (b+1)),hd,u,a,ho.sub ⟨r,r,r,trivial⟩,hs.pick .n⟩)))
 exact .exitS [] r r (.sr (.ks 1 r (.nilS [4] r r (.ret (pret results28 (.t r .n) a ⟨true,r,hd⟩)))))
theorem W_ref21_Same {I:IH} {a0:State} {a1:State} {p1:Option Addr} {c2:Nat} {p4:Option Addr} {c5:Nat} {p7:Option Addr} {c8:Nat} {p10:Option Addr} {c11:Nat} {p13:Option Addr} {c14:Nat} {p16:Option Addr} {c17:Nat} {Q:Bool→Prop} (R3:RepSl eI64 I p1 c2 a0.A) (R6:RepSl eI64 I p4 c5 a0.B) (R9:RepSl eU64 I p7 c8 a0.On) (R12:RepSl eI64 I p10 c11 a1.A) (R15:RepSl eI64 I p13 c14 a1.B) (R18:RepSl eU64 I p16 c17 a1.On) (hd:ref21_Same a0 a1 Q) :
  PFun prog 15 [.agg #[.int .i64 a0.Low,.int .i64 a0.High,.slice p1 a0.A.length c2,.slice p4 a0.B.length c5,.slice p7 a0.On.length c8],.agg #[.int .i64 a1.Low,.int .i64 a1.High,.slice p10 a1.A.length c11,.slice p13 a1.B.length c14,.slice p16 a1.On.length c17]] I (fun _=>o2_ Q):=by
 refine Fun.enter func15 r ntmps15 r (.c (.c .n)) fun w0 M=>?_
 refine .sr (.boxA r r r fun m=>?_)
 refine .boxA r r r fun p=>?_
 refine .ks 1 r (.nilS [3,2] r r (.sr (.fa un36 r sz3 r (o:=0) r r r (.load1 ia3 r (.s .z) r r r (.fa un36 r sz3 r (o:=0) r r r (.load1 ia3 r .z r r r (.ks 2 r ?_)))))))
 refine splitP hd (fun a hd=>?_) fun a hd=>?_
 · rw [a]
   refine .gyes r r r (.fa un36 r sz3 r (o:=1) r r r (.gyes r r r (.load1 ia3 r (.s .z) r r r (.gyes r r r (.fa un36 r sz3 r (o:=1) r r r (.gyes r r r (.load1 ia3 r .z r r r (.ks 3 r ?_))))))))
   refine splitP hd (fun b hd=>?_) fun b hd=>?_
   · rw [b]
     refine .gyes r r r (.fa un36 r sz23 r (o:=2) r r r (.gyes r r r (.load1 ia23 r (.s .z) r r r (.gyes r r r (.fa un36 r sz23 r (o:=2) r r r (.gyes r r r (.load1 ia23 r .z r r r ?_)))))))
     have f:=W_ref07_SameVals (I:=I) R3 R12 hd
     refine .gyes r r r (.callP call26 r f r r fun q g=>?_)
     obtain ⟨u,rfl,hd⟩:=g
     refine .ks 2 r ?_
     refine splitP hd (fun d hd=>?_) fun d hd=>?_
     · rw [d]
       refine .gyes r r r (.fa un36 r sz23 r (o:=3) r r r (.gyes r r r (.load1 ia23 r (.s .z) r r r (.gyes r r r (.fa un36 r sz23 r (o:=3) r r r (.gyes r r r (.load1 ia23 r .z r r r ?_)))))))
       have h:=W_ref07_SameVals (I:=I) R6 R15 hd
       refine .gyes r r r (.callP call26 r h r r fun v i=>?_)
       obtain ⟨w,rfl,hd⟩:=i
       refine .ks 2 r ?_
       refine splitP hd (fun e hd=>?_) fun e hd=>?_
       · rw [e]
         refine .gyes r r r (.fa un36 r sz34 r (o:=4) r r r (.gyes r r r (.load1 ia34 r (.s .z) r r r (.gyes r r r (.fa un36 r sz34 r (o:=4) r r r (.gyes r r r (.load1 ia34 r .z r r r ?_)))))))
         have j:=W_ref03_Same (I:=I) R9 R18 hd
         refine .gyes r r r (.callP call28 r j r r fun x k=>?_)
         obtain ⟨l,rfl,hd⟩:=k
         exact .ks 2 r (.nilS [4] r r (.drop .z (.drop .z (.ret (pret results15 (.t r .n) (.refl _) ⟨l,r,hd⟩)))))
       rw [e]
       exact .ks 7 r (.nilS [4] r r (.drop .z (.drop .z (.ret (pret results15 (.t r .n) (.refl _) ⟨false,r,hd⟩)))))
     rw [d]
     exact .ks 14 r (.nilS [4] r r (.drop .z (.drop .z (.ret (pret results15 (.t r .n) (.refl _) ⟨false,r,hd⟩)))))
   rw [b]
   exact .ks 21 r (.nilS [4] r r (.drop .z (.drop .z (.ret (pret results15 (.t r .n) (.refl _) ⟨false,r,hd⟩)))))
 rw [a]
 exact .ks 28 r (.nilS [4] r r (.drop .z (.drop .z (.ret (pret results15 (.t r .n) (.refl _) ⟨false,r,hd⟩)))))
theorem W_ref07_Right {I:IH} {a0:Rows} {p1:Option Addr} {c2:Nat} {p4:Option Addr} {c5:Nat} {p7:Option Addr} {c8:Nat} {Q:Bool→Prop} (R3:RepSl eI64 I p1 c2 a0.Start) (R6:RepSl eI64 I p4 c5 a0.Col) (R9:RepSl eI64 I p7 c8 a0.Val) (hd:ref07_Right a0 Q) :
  PFun prog 142 [.agg #[.int .i64 a0.Rows,.int .i64 a0.Cols,.slice p1 a0.Start.length c2,.slice p4 a0.Col.length c5,.slice p7 a0.Val.length c8]] I (fun _=>o2_ Q):=by
 refine Fun.enter func142 r ntmps142 r (.c .n) fun w0 M=>?_
 refine .sr (.boxA r r r fun C=>?_)
 refine .ks 1 r (.nilS [1] r r (.seq (.sr (.fa un53 r sz3 r (o:=0) r r r (.load1 ia3 r .z r r r (.ks 2 r ?_))))))
 refine splitP hd (fun q hd=>?_) fun q hd=>?_
 · rw [q]
   exact .ks 38 r (.nilS [46,1] r r (.condKT r r (.sr (.ks 1 r (.nilS [2] r r (.drop .z (.ret (pret results142 (.t r .n) (.refl _) ⟨false,r,hd⟩))))))))
 rw [q]
 refine .gyes r r r (.fa un53 r sz3 r (o:=0) r r r (.gyes r r r (.load1 ia3 r .z r r r (.ks 3 r ?_))))
 refine splitP hd (fun s hd=>?_) fun s hd=>?_
 · rw [s]
   exact .ks 33 r (.nilS [46,1] r r (.condKT r r (.sr (.ks 1 r (.nilS [2] r r (.drop .z (.ret (pret results142 (.t r .n) (.refl _) ⟨false,r,hd⟩))))))))
 rw [s]
 refine .gyes r r r (.fa un53 r sz3 r (o:=1) r r r (.gyes r r r (.load1 ia3 r .z r r r (.ks 3 r ?_))))
 refine splitP hd (fun u hd=>?_) fun u hd=>?_
 · rw [u]
   exact .ks 28 r (.nilS [46,1] r r (.condKT r r (.sr (.ks 1 r (.nilS [2] r r (.drop .z (.ret (pret results142 (.t r .n) (.refl _) ⟨false,r,hd⟩))))))))
 rw [u]
 refine .gyes r r r (.fa un53 r sz3 r (o:=1) r r r (.gyes r r r (.load1 ia3 r .z r r r (.ks 3 r ?_))))
 refine splitP hd (fun v hd=>?_) fun v hd=>?_
 · rw [v]
   exact .ks 23 r (.nilS [46,1] r r (.condKT r r (.sr (.ks 1 r (.nilS [2] r r (.drop .z (.ret (pret results142 (.t r .n) (.refl _) ⟨false,r,hd⟩))))))))
 rw [v]
 refine .gyes r r r (.fa un53 r sz51 r (o:=2) r r r (.gyes r r r (.load1 ia51 r .z r r r (.gyes r r r (.len un51 r r r r (.gyes r r r (.fa un53 r sz3 r (o:=0) r r r (.gyes r r r (.load1 ia3 r .z r r r (.ks 4 r ?_))))))))))
 refine splitP hd (fun x hd=>?_) fun x hd=>?_
 · rw [x]
   exact .ks 14 r (.nilS [46,1] r r (.condKT r r (.sr (.ks 1 r (.nilS [2] r r (.drop .z (.ret (pret results142 (.t r .n) (.refl _) ⟨false,r,hd⟩))))))))
 rw [x]
 refine .gyes r r r (.fa un53 r sz51 r (o:=3) r r r (.gyes r r r (.load1 ia51 r .z r r r (.gyes r r r (.len un51 r r r r (.gyes r r r (.fa un53 r sz23 r (o:=4) r r r (.gyes r r r (.load1 ia23 r .z r r r (.gyes r r r (.len un23 r r r r (.ks 3 r ?_))))))))))))
 refine splitP hd (fun y hd=>?_) fun y hd=>?_
 · rw [y]
   exact .ks 5 r (.nilS [46,1] r r (.condKT r r (.sr (.ks 1 r (.nilS [2] r r (.drop .z (.ret (pret results142 (.t r .n) (.refl _) ⟨false,r,hd⟩))))))))
 rw [y]
 refine .gyes r r r (.fa un53 r sz51 r (o:=3) r r r (.gyes r r r (.load1 ia51 r .z r r r (.gyes r r r (.len un51 r r r r (.ks 2 r (.nilS [46,1] r r (.condP r hd (fun d7 hd=>?_) fun d7 hd=>?_))))))))
 · exact .sr (.ks 1 r (.nilS [2] r r (.drop .z (.ret (pret results142 (.t r .n) (.refl _) ⟨false,r,hd⟩)))))
 refine .skipS [1] r r (.seq (.seq (.dr [0,1,2,3,4,5,6,7,8,9,10,11,12,13,14,15,16] 17 (.g r r r (fun _=>.fa un53 r sz51 r (o:=2) r r r .mk) (.g r r r (fun _=>.load1 ia51 r .z r r r .mk) ?_)))))
 obtain ⟨d5,j3,R,hd⟩:=hd
 obtain ⟨j4,o52,h1,f6,d8,d9⟩:=R3.2 _ _ R
 cases d9
 refine .g r r r (fun _=>.ixa un51 sz3 r f6 r d5 (idx_lt R d5) r r .mk) (.g r r r (fun _=>.ld1 (j:=0) ia3 d8 r r r r r .mk) (.fk 2 r ?_))
 refine splitP hd (fun A hd=>?_) fun A hd=>?_
 · rw [A]
   exact .fk 11 r (.e2 17 (.nilS [63,1] r r (.condKT r r (.sr (.ks 1 r (.nilS [2] r r (.drop .z (.ret (pret results142 (.t r .n) (.refl _) ⟨false,r,hd⟩)))))))))
 rw [A]
 refine .g r r r (fun _=>.gyes r r r (.fa un53 r sz51 r (o:=2) r r r .mk)) (.g r r r (fun _=>.gyes r r r (.load1 ia51 r .z r r r .mk)) (.g r r r (fun _=>.gyes r r r (.fa un53 r sz3 r (o:=0) r r r .mk)) (.g r r r (fun _=>.gyes r r r (.load1 ia3 r .z r r r .mk)) ?_)))
 obtain ⟨d6,j5,S,hd⟩:=hd
 obtain ⟨j6,o62,h2,f7,e0,e1⟩:=R3.2 _ _ S
 cases e1
 refine .g r r r (fun _=>.gyes r r r (.ixa un51 sz3 r f7 r d6 (idx_lt S d6) r r .mk)) (.g r r r (fun _=>.gyes r r r (.ld1 (j:=0) ia3 e0 r r r r r .mk)) (.g r r r (fun _=>.gyes r r r (.fa un53 r sz51 r (o:=3) r r r .mk)) (.g r r r (fun _=>.gyes r r r (.load1 ia51 r .z r r r .mk)) (.g r r r (fun _=>.gyes r r r (.len un51 r r r r .mk)) (.fk 2 r (.e2 17 (.nilS [63,1] r r (.condP r hd (fun e3 hd=>?_) fun e3 hd=>?_))))))))
 · exact .sr (.ks 1 r (.nilS [2] r r (.drop .z (.ret (pret results142 (.t r .n) (.refl _) ⟨false,r,hd⟩)))))
 refine .skipS [1] r r (.seq (.sr (.ks 1 r (.nilS [3,1] r r (.block (.loop hd (fun (e:Int) c w=>∃ I_,IH.le I I_∧Ok ⟨156,[],none⟩ [(1,.pointer (some ⟨C,0,none⟩)),(3,.int .i64 e)] c∧Sym w0 M I I_ [pto C (.cells #[.int .i64 a0.Rows,.int .i64 a0.Cols,.slice p1 a0.Start.length c2,.slice p4 a0.Col.length c5,.slice p7 a0.Val.length c8] 53 (0,0))] w) (fun c w ho hs=>⟨I,(.refl _),ho.sub ⟨r,r,trivial⟩,hs.pick (.c .z .n)⟩) ?_))))))
 rintro e f4 hd c w hst
 obtain ⟨T,a,hok,hsym⟩:=hst
 replace R3:=R3.mono a
 replace R6:=R6.mono a
 replace R9:=R9.mono a
 refine Cod.at hok hsym (.seq (.sr (.ks 1 r (.fa un53 r sz3 r (o:=0) r r r (.load1 ia3 r .z r r r (.ks 1 r (.nilS [67,3,1] r r (.condP r hd (fun b0 hd=>?_) fun b0 hd=>?_))))))))
 · refine .skipS [3,1] r r (.seq (.block (.seq (.seq (.dr [0,1,2,3,4,5,6,7,8,9,10,11,12,13,14,15,16,17,18,19,20,21,22,23,24,25,26,27,28,29,30,31] 32 (.g r r r (fun _=>.fa un53 r sz51 r (o:=2) r r r .mk) (.g r r r (fun _=>.load1 ia51 r .z r r r .mk) (.fk 1 r ?_))))))))
   obtain ⟨U,h3,D,hd⟩:=hd
   obtain ⟨h4,o744,f9,e4,b1,b2⟩:=R3.2 _ _ D
   cases b2
   refine .g r r r (fun _=>.ixa un51 sz3 r e4 r U (idx_lt D U) r r .mk) (.g r r r (fun _=>.ld1 (j:=0) ia3 b1 r r r r r .mk) (.g r r r (fun _=>.fa un53 r sz51 r (o:=2) r r r .mk) (.g r r r (fun _=>.load1 ia51 r .z r r r .mk) (.fk 2 r ?_))))
   obtain ⟨V,h5,E,hd⟩:=hd
   obtain ⟨h6,o753,g0,e5,b3,b4⟩:=R3.2 _ _ E
   cases b4
   refine .g r r r (fun _=>.ixa un51 sz3 r e5 r V (idx_lt E V) r r .mk) (.g r r r (fun _=>.ld1 (j:=0) ia3 b3 r r r r r .mk) (.fk 2 r ?_))
   refine splitP hd (fun f hd=>?_) fun f hd=>?_
   · rw [f]
     exact .fk 19 r (.e2 32 (.nilS [101,3,1] r r (.condKT r r (.sr (.ks 1 r (.nilS [2] r r (.drop .z (.ret (pret results142 (.t r .n) a ⟨false,r,hd⟩)))))))))
   rw [f]
   refine .g r r r (fun _=>.gyes r r r (.fa un53 r sz51 r (o:=2) r r r .mk)) (.g r r r (fun _=>.gyes r r r (.load1 ia51 r .z r r r .mk)) (.fk 1 r ?_))
   obtain ⟨W,h7,F,hd⟩:=hd
   obtain ⟨h8,o763,g1,e6,b5,b6⟩:=R3.2 _ _ F
   cases b6
   refine .g r r r (fun _=>.gyes r r r (.ixa un51 sz3 r e6 r W (idx_lt F W) r r .mk)) (.g r r r (fun _=>.gyes r r r (.ld1 (j:=0) ia3 b5 r r r r r .mk)) (.fk 3 r ?_))
   refine splitP hd (fun h hd=>?_) fun h hd=>?_
   · rw [h]
     exact .fk 11 r (.e2 32 (.nilS [101,3,1] r r (.condKT r r (.sr (.ks 1 r (.nilS [2] r r (.drop .z (.ret (pret results142 (.t r .n) a ⟨false,r,hd⟩)))))))))
   rw [h]
   refine .g r r r (fun _=>.gyes r r r (.fa un53 r sz51 r (o:=2) r r r .mk)) (.g r r r (fun _=>.gyes r r r (.load1 ia51 r .z r r r .mk)) (.fk 2 r ?_))
   obtain ⟨X,h9,G,hd⟩:=hd
   obtain ⟨i0,o773,g2,e7,b7,b8⟩:=R3.2 _ _ G
   cases b8
   refine .g r r r (fun _=>.gyes r r r (.ixa un51 sz3 r e7 r X (idx_lt G X) r r .mk)) (.g r r r (fun _=>.gyes r r r (.ld1 (j:=0) ia3 b7 r r r r r .mk)) (.g r r r (fun _=>.gyes r r r (.fa un53 r sz51 r (o:=3) r r r .mk)) (.g r r r (fun _=>.gyes r r r (.load1 ia51 r .z r r r .mk)) (.g r r r (fun _=>.gyes r r r (.len un51 r r r r .mk)) (.fk 2 r (.e2 32 (.nilS [101,3,1] r r (.condP r hd (fun b9 hd=>?_) fun b9 hd=>?_))))))))
   · exact .sr (.ks 1 r (.nilS [2] r r (.drop .z (.ret (pret results142 (.t r .n) a ⟨false,r,hd⟩)))))
   refine .skipS [3,1] r r (.sr (.fa un53 r sz51 r (o:=2) r r r (.load1 ia51 r .z r r r (.ks 1 r ?_))))
   obtain ⟨Y,i1,H,hd⟩:=hd
   obtain ⟨i2,o792,g3,e8,c0,c1⟩:=R3.2 _ _ H
   cases c1
   refine .ixa un51 sz3 r e8 r Y (idx_lt H Y) r r (.ld1 (j:=0) ia3 c0 r r r r r (.ks 1 r (.nilS [4,3,1] r r (.block (.loop hd (fun (i:Int) c w=>∃ I_,IH.le T I_∧Ok ⟨156,[],none⟩ [(1,.pointer (some ⟨C,0,none⟩)),(3,.int .i64 e),(4,.int .i64 i)] c∧Sym w0 M I I_ [pto C (.cells #[.int .i64 a0.Rows,.int .i64 a0.Cols,.slice p1 a0.Start.length c2,.slice p4 a0.Col.length c5,.slice p7 a0.Val.length c8] 53 (0,0))] w) (fun c w ho hs=>⟨T,(.refl _),ho.sub ⟨r,r,r,trivial⟩,hs.pick (.c .z .n)⟩) ?_)))))
   rintro i f5 hd c w hst
   obtain ⟨B,b,hok,hsym⟩:=hst
   have d:=IH.le.trans a b
   replace R3:=R3.mono b
   replace R6:=R6.mono b
   replace R9:=R9.mono b
   refine Cod.at hok hsym (.seq (.sr (.ks 1 r (.fa un53 r sz51 r (o:=2) r r r (.load1 ia51 r .z r r r (.ks 2 r ?_))))))
   obtain ⟨Z,i3,J,hd⟩:=hd
   obtain ⟨i4,o957,g4,e9,c3,c4⟩:=R3.2 _ _ J
   cases c4
   refine .ixa un51 sz3 r e9 r Z (idx_lt J Z) r r (.ld1 (j:=0) ia3 c3 r r r r r (.ks 1 r (.nilS [114,4,3,1] r r (.condP r hd (fun c6 hd=>?_) fun c6 hd=>?_))))
   · refine .skipS [4,3,1] r r (.seq (.block (.seq (.dr [0,1,2,3,4,5,6,7,8,9,10,11,12,13,14,15,16,17,18,19,20,21,22,23,24,25,26,27,28,29,30,31,32,33,34,35,36,37,38] 39 (.g r r r (fun _=>.fa un53 r sz51 r (o:=3) r r r .mk) (.g r r r (fun _=>.load1 ia51 r .z r r r .mk) (.fk 1 r ?_)))))))
     obtain ⟨a1,i5,K,hd⟩:=hd
     obtain ⟨i6,o967,g5,f0,c7,c9⟩:=R6.2 _ _ K
     cases c9
     refine .g r r r (fun _=>.ixa un51 sz3 r f0 r a1 (idx_lt K a1) r r .mk) (.g r r r (fun _=>.ld1 (j:=0) ia3 c7 r r r r r .mk) (.fk 2 r ?_))
     refine splitP hd (fun k hd=>?_) fun k hd=>?_
     · rw [k]
       exact .fk 32 r (.e2 39 (.nilS [155,4,3,1] r r (.condKT r r (.sr (.ks 1 r (.nilS [2] r r (.drop .z (.ret (pret results142 (.t r .n) d ⟨false,r,hd⟩)))))))))
     rw [k]
     refine .g r r r (fun _=>.gyes r r r (.fa un53 r sz51 r (o:=3) r r r .mk)) (.g r r r (fun _=>.gyes r r r (.load1 ia51 r .z r r r .mk)) (.fk 1 r ?_))
     obtain ⟨a2,i7,L,hd⟩:=hd
     obtain ⟨i8,o977,g6,f1,d0,d1⟩:=R6.2 _ _ L
     cases d1
     refine .g r r r (fun _=>.gyes r r r (.ixa un51 sz3 r f1 r a2 (idx_lt L a2) r r .mk)) (.g r r r (fun _=>.gyes r r r (.ld1 (j:=0) ia3 d0 r r r r r .mk)) (.g r r r (fun _=>.gyes r r r (.fa un53 r sz3 r (o:=1) r r r .mk)) (.g r r r (fun _=>.gyes r r r (.load1 ia3 r .z r r r .mk)) (.fk 3 r ?_))))
     refine splitP hd (fun l hd=>?_) fun l hd=>?_
     · rw [l]
       exact .fk 22 r (.e2 39 (.nilS [155,4,3,1] r r (.condKT r r (.sr (.ks 1 r (.nilS [2] r r (.drop .z (.ret (pret results142 (.t r .n) d ⟨false,r,hd⟩)))))))))
     rw [l]
     refine .fk 1 r (.g r r r (fun _=>.gyes r r r (.fa un53 r sz51 r (o:=2) r r r .mk)) (.g r r r (fun _=>.gyes r r r (.load1 ia51 r .z r r r .mk)) (.fk 1 r ?_)))
     obtain ⟨a3,i9,N,hd⟩:=hd
     obtain ⟨j0,o987,g7,f2,d2,d3⟩:=R3.2 _ _ N
     cases d3
     refine .g r r r (fun _=>.gyes r r r (.ixa un51 sz3 r f2 r a3 (idx_lt N a3) r r .mk)) (.g r r r (fun _=>.gyes r r r (.ld1 (j:=0) ia3 d2 r r r r r .mk)) (.fk 2 r ?_))
     refine splitP hd (fun m hd=>?_) fun m hd=>?_
     · rw [m]
       refine .g r r r (fun _=>.gyes r r r (.fa un53 r sz51 r (o:=3) r r r .mk)) (.g r r r (fun _=>.gyes r r r (.load1 ia51 r .z r r r .mk)) (.fk 1 r ?_))
       obtain ⟨a4,j1,O,hd⟩:=hd
       obtain ⟨j2,o997,g8,f3,a5,a6⟩:=R6.2 _ _ O
       cases a6
       refine .g r r r (fun _=>.gyes r r r (.ixa un51 sz3 r f3 r a4 (idx_lt O a4) r r .mk)) (.g r r r (fun _=>.gyes r r r (.ld1 (j:=0) ia3 a5 r r r r r .mk)) (.g r r r (fun _=>.gyes r r r (.fa un53 r sz51 r (o:=3) r r r .mk)) (.g r r r (fun _=>.gyes r r r (.load1 ia51 r .z r r r .mk)) (.fk 2 r ?_))))
       obtain ⟨P,g9,p,hd⟩:=hd
       obtain ⟨h0,o1006,f8,d4,a7,a8⟩:=R6.2 _ _ p
       cases a8
       refine .g r r r (fun _=>.gyes r r r (.ixa un51 sz3 r d4 r P (idx_lt p P) r r .mk)) (.g r r r (fun _=>.gyes r r r (.ld1 (j:=0) ia3 a7 r r r r r .mk)) (.fk 3 r (.e2 39 (.nilS [155,4,3,1] r r (.condP r hd (fun a9 hd=>?_) fun a9 hd=>?_)))))
       · exact .sr (.ks 1 r (.nilS [2] r r (.drop .z (.ret (pret results142 (.t r .n) d ⟨false,r,hd⟩)))))
       exact .skipS [4,3,1] r r (.region (.ks 3 r (.nil' fun c w ho hs=>⟨(w64 (i+1)),hd,B,b,ho.sub ⟨r,r,r,trivial⟩,hs.pick (.c .z .n)⟩)))
     rw [m]
     exact .fk 14 r (.e2 39 (.nilS [155,4,3,1] r r (.condKF r r (.skipS [4,3,1] r r (.region (.ks 3 r (.nil' fun c w ho hs=>⟨(w64 (i+1)),hd,B,b,ho.sub ⟨r,r,r,trivial⟩,hs.pick (.c .z .n)⟩)))))))
   exact .exitS [3,1] r r (.region (.ks 3 r (.nil' fun c w ho hs=>⟨(w64 (e+1)),hd,B,d,ho.sub ⟨r,r,trivial⟩,hs.pick (.c .z .n)⟩)))
 exact .exitS [] r r (.drop .z (.sr (.ks 1 r (.nilS [2] r r (.ret (pret results142 (.t r .n) a ⟨true,r,hd⟩))))))
theorem W_ref07_Sure {I:IH} {a0:Rows} {p1:Option Addr} {c2:Nat} {p4:Option Addr} {c5:Nat} {p7:Option Addr} {c8:Nat} {Q:Rows→Prop} (R3:RepSl eI64 I p1 c2 a0.Start) (R6:RepSl eI64 I p4 c5 a0.Col) (R9:RepSl eI64 I p7 c8 a0.Val) (hd:ref07_Sure a0 Q) :
  PFun prog 91 [.agg #[.int .i64 a0.Rows,.int .i64 a0.Cols,.slice p1 a0.Start.length c2,.slice p4 a0.Col.length c5,.slice p7 a0.Val.length c8]] I (o16_ Q):=by
 refine Fun.enter func91 r ntmps91 r (.c .n) fun w0 M=>?_
 refine .sr (.boxA r r r fun v=>?_)
 refine .allocA zv53 r r fun x=>?_
 refine .nilS [2,1] r r (.seq (.sr (.loadW ia53 sz53 r (.s .z) r r r ?_)))
 have f:=W_ref07_Right (I:=I) R3 R6 R9 hd
 refine .callP call142 r f r r fun y g=>?_
 obtain ⟨A,rfl,hd⟩:=g
 refine .nilS [4,2,1] r r (.condP r hd (fun h hd=>?_) fun h hd=>?_)
 · exact .sr (.loadW ia53 sz53 r (.s .z) r r r (.storeA sz53 r r .z (.t (.t (.t (.t (.t .nil))))) r r (.nilS [2] r r (.drop (.s .z) (.ret (pret results91 (.w ia53 sz53 r .z r .n) (.refl _) ⟨a0,_,_,_,_,_,_,r,R3,R6,R9,hd⟩))))))
 refine .skipS [2] r r (.drop (.s .z) (.sr ?_))
 have i:=W_ref07_Empty (I:=I) hd
 refine .callO call112 r i r r fun B C D j k=>?_
 obtain ⟨q,E,F,G,H,J,K,rfl,rfl,hd⟩:=k
 refine .storeA sz53 r r (.s (.s (.s .z))) (.t (.t (.t (.t (.t .nil))))) r r (.nilS [2] r r (.pub .z fun L l a=>?_))
 have m:=IH.le.trans j l
 refine .pub .z fun N d e=>?_
 have o:=IH.le.trans m d
 replace a:=a.mono d
 refine .pub .z fun O b u=>?_
 have p:=IH.le.trans o b
 replace a:=a.mono b
 replace e:=e.mono b
 exact .ret (pret results91 (.w ia53 sz53 r .z r .n) p ⟨q,_,_,_,_,_,_,r,a,e,u,hd⟩)
theorem W_ref21_Asked {I:IH} {a0:Plan} {a1:State} {a2:Int} {p1:Option Addr} {c2:Nat} {p4:Option Addr} {c5:Nat} {p7:Option Addr} {c8:Nat} {p10:Option Addr} {c11:Nat} {Q:((List Int)×Bool)→Prop} (R3:RepSl eI64 I p1 c2 a0.Draws) (R6:RepSl eI64 I p4 c5 a1.A) (R9:RepSl eI64 I p7 c8 a1.B) (R12:RepSl eU64 I p10 c11 a1.On) (hd:ref21_Asked a0 a1 a2 Q) :
  PFun prog 92 [.agg #[.int .i64 a0.Kind,.int .i64 a0.N,.int .i64 a0.Source,.int .i64 a0.Length,.slice p1 a0.Draws.length c2],.agg #[.int .i64 a1.Low,.int .i64 a1.High,.slice p4 a1.A.length c5,.slice p7 a1.B.length c8,.slice p10 a1.On.length c11],.int .i64 a2] I (o17_ Q):=by
 refine Fun.enter func92 r ntmps92 r (.c (.c (.c .n))) fun w0 M=>?_
 refine .sr (.boxA r r r fun F=>?_)
 refine .boxA r r r fun G=>?_
 refine .ks 2 r (.nilS [4,3] r r (.sr (.loadW ia25 sz25 r (.s .z) r r r (.loadW ia36 sz36 r .z r r r ?_))))
 have c3:=W_ref21_Sure (I:=I) R3 R6 R9 R12 hd
 refine .call call89 r c3 r r fun g0 L k c4=>?_
 obtain ⟨h,b5,b6,b7,b8,b9,c0,rfl,f,m,p,hd⟩:=c4
 replace R3:=R3.mono k
 replace R6:=R6.mono k
 replace R9:=R9.mono k
 replace R12:=R12.mono k
 refine .storeA sz36 r r .z (.t (.t (.t (.t (.t .nil))))) r r (.nilS [4,3] r r (.seq ?_))
 refine Cod.joinQ (σ:=Unit) hd (fun (_:Unit) c w=>∃ I_,IH.le L I_∧Ok ⟨63,[],none⟩ [(3,.pointer (some ⟨F,0,none⟩)),(4,.pointer (some ⟨G,0,none⟩))] c∧Sym w0 M I I_ [pto F (.cells #[.int .i64 a0.Kind,.int .i64 a0.N,.int .i64 a0.Source,.int .i64 a0.Length,.slice p1 a0.Draws.length c2] 25 (0,0)),pto G (.cells #[.int .i64 h.Low,.int .i64 h.High,.slice b5 h.A.length b6,.slice b7 h.B.length b8,.slice b9 h.On.length c0] 36 (0,0))] w) (fun g1 hd=>?_) ?_
 · skip
   refine .sr (.fa un25 r sz22 r (o:=0) r r r (.load1 ia22 r (.s .z) r r r (.ks 2 r ?_)))
   refine splitP hd (fun y hd=>?_) fun y hd=>?_
   · rw [y]
     refine .gyes r r r (.fa un25 r sz22 r (o:=0) r r r (.gyes r r r (.load1 ia22 r (.s .z) r r r (.ks 2 r (.nilS [20,4,3] r r (.condP r hd (fun c6 hd=>?_) fun c6 hd=>?_))))))
     · exact .sr (.ks 2 r (.nilS [7,6] r r (.drop .z (.drop .z (.ret (pret results92 (.t r (.t r .n)) k ⟨(([]:List Int),true),_,_,r,(.nil _ _ _),hd⟩))))))
     exact .skip' fun c w ho hs=>⟨(),hd,L,(.refl _),ho.sub ⟨r,r,trivial⟩,hs.pick (.c (.s .z) (.c .z .n))⟩
   rw [y]
   exact .ks 4 r (.nilS [20,4,3] r r (.condKF r r (.skip' fun c w ho hs=>⟨(),hd,L,(.refl _),ho.sub ⟨r,r,trivial⟩,hs.pick (.c (.s .z) (.c .z .n))⟩)))
 rintro ⟨⟩ hd c w hst
 obtain ⟨c1,l,hok,hsym⟩:=hst
 have c7:=IH.le.trans k l
 replace R3:=R3.mono l
 replace f:=f.mono l
 replace m:=m.mono l
 replace p:=p.mono l
 refine Cod.at hok hsym (.sr (.ks 1 r (.nilS [8,4,3] r r (.seq (.sr (.ks 1 r (.nilS [9,8,4,3] r r (.block (.own0 eI64 3 ?_)))))))))
 refine .loop hd (fun (s:(List Int)×Int) c w=>match s with | (d,b)=>∃ I_ C D,IH.le c1 I_∧Ok ⟨63,[],none⟩ [(3,.pointer (some ⟨F,0,none⟩)),(4,.pointer (some ⟨G,0,none⟩)),(8,.slice C d.length D),(9,.int .i64 b)] c∧Sym w0 M I I_ [pto F (.cells #[.int .i64 a0.Kind,.int .i64 a0.N,.int .i64 a0.Source,.int .i64 a0.Length,.slice p1 a0.Draws.length c2] 25 (0,0)),pto G (.cells #[.int .i64 h.Low,.int .i64 h.High,.slice b5 h.A.length b6,.slice b7 h.B.length b8,.slice b9 h.On.length c0] 36 (0,0)),OwnSl eI64 3 C D d] w) (fun c w ho hs=>⟨c1,_,_,(.refl _),ho.sub ⟨r,r,r,r,trivial⟩,hs.pick (.c (.s .z) (.c (.s .z) (.c .z .n)))⟩) ?_
 rintro ⟨d,b⟩ d5 hd c w hst
 obtain ⟨i,C,D,a,hok,hsym⟩:=hst
 have S:=IH.le.trans c7 a
 have T:=IH.le.trans l a
 replace R3:=R3.mono a
 replace f:=f.mono a
 replace m:=m.mono a
 replace p:=p.mono a
 refine Cod.at hok hsym (.seq (.sr (.ks 1 r (.fa un36 r sz23 r (o:=2) r r r (.load1 ia23 r (.s .z) r r r (.len un23 r r r r (.ks 1 r (.nilS [25,9,8,4,3] r r (.condP r hd (fun U hd=>?_) fun U hd=>?_)))))))))
 · refine .skipS [9,8,4,3] r r (.seq (.block (.sr (.fa un25 r sz22 r (o:=0) r r r (.load1 ia22 r .z r r r (.ks 2 r ?_))))))
   refine splitP hd (fun q hd=>?_) fun q hd=>?_
   · rw [q]
     refine .gyes r r r (.fa un36 r sz23 r (o:=2) r r r (.gyes r r r (.load1 ia23 r (.s .z) r r r (.ks 1 r ?_))))
     obtain ⟨O,e1,H,hd⟩:=hd
     obtain ⟨e2,o396,d6,c9,V,W⟩:=f.2 _ _ H
     cases W
     refine .gyes r r r (.ixa un23 sz2 r c9 r O (idx_lt H O) r r (.gyes r r r (.ld1 (j:=0) ia2 V r r r r r (.ks 3 r ?_))))
     refine splitP hd (fun u hd=>?_) fun u hd=>?_
     · rw [u]
       refine .ks 12 r (.nilS [51,9,8,4,3] r r (.condKT r r (.region (.ks 2 r (.buildSlice 1 un51 sz3 zv3 r r (.c r r r .n) r r fun e3=>?_)))))
       obtain ⟨X,hd⟩:=hd
       refine .append (ys:=[b]) 8 (.s (.s (.s .z))) un51 un51 IN3 r r r r r r r r r (.box .z (.one r) r) X r r fun e4 e5=>?_
       exact .ks 1 r (.nilS [8,9,4,3] r r (.drop (.s .z) (.region (.ks 3 r (.nil' fun c w ho hs=>⟨((d++([b])),w64 (b+1)),hd,i,_,_,a,ho.sub ⟨r,r,r,r,trivial⟩,hs.pick (.c (.s .z) (.c (.s .z) (.c .z .n)))⟩)))))
     rw [u]
     refine .gyes r r r (.fa un25 r sz22 r (o:=0) r r r (.gyes r r r (.load1 ia22 r .z r r r (.ks 2 r ?_))))
     refine splitP hd (fun v hd=>?_) fun v hd=>?_
     · rw [v]
       refine .gyes r r r (.fa un36 r sz23 r (o:=2) r r r (.gyes r r r (.load1 ia23 r (.s .z) r r r (.ks 1 r ?_))))
       obtain ⟨P,e6,J,hd⟩:=hd
       obtain ⟨e7,o413,d7,d0,Y,Z⟩:=f.2 _ _ J
       cases Z
       refine .gyes r r r (.ixa un23 sz2 r d0 r P (idx_lt J P) r r (.gyes r r r (.ld1 (j:=0) ia2 Y r r r r r (.ks 3 r (.nilS [51,9,8,4,3] r r (.condP r hd (fun a3 hd=>?_) fun a3 hd=>?_))))))
       · refine .region (.ks 2 r (.buildSlice 1 un51 sz3 zv3 r r (.c r r r .n) r r fun e8=>?_))
         obtain ⟨a4,hd⟩:=hd
         refine .append (ys:=[b]) 8 (.s (.s (.s .z))) un51 un51 IN3 r r r r r r r r r (.box .z (.one r) r) a4 r r fun e9 f0=>?_
         exact .ks 1 r (.nilS [8,9,4,3] r r (.drop (.s .z) (.region (.ks 3 r (.nil' fun c w ho hs=>⟨((d++([b])),w64 (b+1)),hd,i,_,_,a,ho.sub ⟨r,r,r,r,trivial⟩,hs.pick (.c (.s .z) (.c (.s .z) (.c .z .n)))⟩)))))
       exact .skipS [9,8,4,3] r r (.region (.ks 3 r (.nil' fun c w ho hs=>⟨(d,w64 (b+1)),hd,i,_,_,a,ho.sub ⟨r,r,r,r,trivial⟩,hs.pick (.c .z (.c .z (.c .z .n)))⟩)))
     rw [v]
     exact .ks 8 r (.nilS [51,9,8,4,3] r r (.condKF r r (.skipS [9,8,4,3] r r (.region (.ks 3 r (.nil' fun c w ho hs=>⟨(d,w64 (b+1)),hd,i,_,_,a,ho.sub ⟨r,r,r,r,trivial⟩,hs.pick (.c .z (.c .z (.c .z .n)))⟩))))))
   rw [q]
   refine .ks 8 r (.gyes r r r (.fa un25 r sz22 r (o:=0) r r r (.gyes r r r (.load1 ia22 r .z r r r (.ks 2 r ?_)))))
   refine splitP hd (fun x hd=>?_) fun x hd=>?_
   · rw [x]
     refine .gyes r r r (.fa un36 r sz23 r (o:=2) r r r (.gyes r r r (.load1 ia23 r (.s .z) r r r (.ks 1 r ?_))))
     obtain ⟨R,f1,K,hd⟩:=hd
     obtain ⟨f2,o430,d8,d1,a5,a6⟩:=f.2 _ _ K
     cases a6
     refine .gyes r r r (.ixa un23 sz2 r d1 r R (idx_lt K R) r r (.gyes r r r (.ld1 (j:=0) ia2 a5 r r r r r (.ks 3 r (.nilS [51,9,8,4,3] r r (.condP r hd (fun a7 hd=>?_) fun a7 hd=>?_))))))
     · refine .region (.ks 2 r (.buildSlice 1 un51 sz3 zv3 r r (.c r r r .n) r r fun f3=>?_))
       obtain ⟨a8,hd⟩:=hd
       refine .append (ys:=[b]) 8 (.s (.s (.s .z))) un51 un51 IN3 r r r r r r r r r (.box .z (.one r) r) a8 r r fun f4 f5=>?_
       exact .ks 1 r (.nilS [8,9,4,3] r r (.drop (.s .z) (.region (.ks 3 r (.nil' fun c w ho hs=>⟨((d++([b])),w64 (b+1)),hd,i,_,_,a,ho.sub ⟨r,r,r,r,trivial⟩,hs.pick (.c (.s .z) (.c (.s .z) (.c .z .n)))⟩)))))
     exact .skipS [9,8,4,3] r r (.region (.ks 3 r (.nil' fun c w ho hs=>⟨(d,w64 (b+1)),hd,i,_,_,a,ho.sub ⟨r,r,r,r,trivial⟩,hs.pick (.c .z (.c .z (.c .z .n)))⟩)))
   rw [x]
   exact .ks 8 r (.nilS [51,9,8,4,3] r r (.condKF r r (.skipS [9,8,4,3] r r (.region (.ks 3 r (.nil' fun c w ho hs=>⟨(d,w64 (b+1)),hd,i,_,_,a,ho.sub ⟨r,r,r,r,trivial⟩,hs.pick (.c .z (.c .z (.c .z .n)))⟩))))))
 refine .exitS [8,4] r r (.drop .z (.sr (.fa un36 r sz3 r (o:=1) r r r (.load1 ia3 r .z r r r (.fa un36 r sz3 r (o:=0) r r r (.load1 ia3 r .z r r r (.ks 2 r (.pub (.s .z) fun d2 g E=>?_))))))))
 have a9:=IH.le.trans S g
 have b0:=IH.le.trans T g
 have b1:=IH.le.trans a g
 replace f:=f.mono g
 replace m:=m.mono g
 replace p:=p.mono g
 have b2:=W_ref03_Of (I:=d2) E hd
 refine .call call88 r b2 r r fun f6 f7 e b3=>?_
 obtain ⟨d3,f8,f9,rfl,d4,hd⟩:=b3
 have b4:=IH.le.trans a9 e
 have d9:=IH.le.trans b0 e
 have e0:=IH.le.trans b1 e
 replace f:=f.mono e
 replace m:=m.mono e
 replace p:=p.mono e
 replace E:=E.mono e
 exact .ks 2 r (.nilS [7,6] r r (.drop .z (.ret (pret results92 (.t r (.t r .n)) b4 ⟨(d3,false),_,_,r,d4,hd⟩))))
theorem W_ref09_Right {I:IH} {a0:Vec} {p1:Option Addr} {c2:Nat} {Q:Bool→Prop} (R3:RepSl eItem I p1 c2 a0.Items) (hd:ref09_Right a0 Q) :
  PFun prog 148 [.agg #[.int .i64 a0.N,.slice p1 a0.Items.length c2]] I (fun _=>o2_ Q):=by
 refine Fun.enter func148 r ntmps148 r (.c .n) fun w0 M=>?_
 refine .sr (.boxA r r r fun P=>?_)
 refine .ks 1 r (.nilS [1] r r (.seq (.sr (.fa un82 r sz3 r (o:=0) r r r (.load1 ia3 r .z r r r (.ks 2 r ?_))))))
 refine splitP hd (fun f hd=>?_) fun f hd=>?_
 · rw [f]
   exact .ks 4 r (.nilS [11,1] r r (.condKT r r (.sr (.ks 1 r (.nilS [2] r r (.drop .z (.ret (pret results148 (.t r .n) (.refl _) ⟨false,r,hd⟩))))))))
 rw [f]
 refine .gyes r r r (.fa un82 r sz3 r (o:=0) r r r (.gyes r r r (.load1 ia3 r .z r r r (.ks 2 r (.nilS [11,1] r r (.condP r hd (fun F hd=>?_) fun F hd=>?_))))))
 · exact .sr (.ks 1 r (.nilS [2] r r (.drop .z (.ret (pret results148 (.t r .n) (.refl _) ⟨false,r,hd⟩)))))
 refine .skipS [1] r r (.seq (.sr (.ks 1 r (.nilS [3,1] r r (.block (.loop hd (fun (b:Int) c w=>∃ I_,IH.le I I_∧Ok ⟨57,[],none⟩ [(1,.pointer (some ⟨P,0,none⟩)),(3,.int .i64 b)] c∧Sym w0 M I I_ [pto P (.cells #[.int .i64 a0.N,.slice p1 a0.Items.length c2] 82 (0,0))] w) (fun c w ho hs=>⟨I,(.refl _),ho.sub ⟨r,r,trivial⟩,hs.pick (.c .z .n)⟩) ?_))))))
 rintro b R hd c w hst
 obtain ⟨C,a,hok,hsym⟩:=hst
 replace R3:=R3.mono a
 refine Cod.at hok hsym (.seq (.sr (.ks 1 r (.fa un82 r sz80 r (o:=1) r r r (.load1 ia80 r .z r r r (.len un80 r r r r (.ks 1 r (.nilS [16,3,1] r r (.condP r hd (fun G hd=>?_) fun G hd=>?_)))))))))
 · refine .skipS [3,1] r r (.seq (.block (.seq (.dr [0,1,2,3,4,5,6,7,8,9,10,11,12,13,14,15,16,17,18,19,20,21,22,23,24,25,26,27,28,29,30,31,32,33,34,35,36,37] 38 (.g r r r (fun _=>.fa un82 r sz80 r (o:=1) r r r .mk) (.g r r r (fun _=>.load1 ia80 r .z r r r .mk) (.fk 1 r ?_)))))))
   obtain ⟨D,a2,l,hd⟩:=hd
   obtain ⟨a3,o89,W,S,H,J⟩:=R3.2 _ _ l
   cases J
   refine .g r r r (fun _=>.ixa un80 sz119 r S r D (idx_lt l D) r r .mk) (.g r r r (fun _=>.fa un119 r sz3 r (o:=o89+b.toNat*2) r r r .mk) (.g r r r (fun _=>.ld1 (j:=0) ia3 H r r r r r .mk) (.fk 2 r ?_)))
   refine splitP hd (fun h hd=>?_) fun h hd=>?_
   · rw [h]
     exact .fk 30 r (.e2 38 (.nilS [56,3,1] r r (.condKT r r (.sr (.ks 1 r (.nilS [2] r r (.drop .z (.ret (pret results148 (.t r .n) a ⟨false,r,hd⟩)))))))))
   rw [h]
   refine .g r r r (fun _=>.gyes r r r (.fa un82 r sz80 r (o:=1) r r r .mk)) (.g r r r (fun _=>.gyes r r r (.load1 ia80 r .z r r r .mk)) (.fk 1 r ?_))
   obtain ⟨E,a4,m,hd⟩:=hd
   obtain ⟨a5,o99,T,K,s,u⟩:=R3.2 _ _ m
   cases u
   refine .g r r r (fun _=>.gyes r r r (.ixa un80 sz119 r K r E (idx_lt m E) r r .mk)) (.g r r r (fun _=>.gyes r r r (.fa un119 r sz3 r (o:=o99+b.toNat*2) r r r .mk)) (.g r r r (fun _=>.gyes r r r (.ld1 (j:=0) ia3 s r r r r r .mk)) (.g r r r (fun _=>.gyes r r r (.fa un82 r sz3 r (o:=0) r r r .mk)) (.g r r r (fun _=>.gyes r r r (.load1 ia3 r .z r r r .mk)) (.fk 3 r ?_)))))
   refine splitP hd (fun d hd=>?_) fun d hd=>?_
   · rw [d]
     exact .fk 19 r (.e2 38 (.nilS [56,3,1] r r (.condKT r r (.sr (.ks 1 r (.nilS [2] r r (.drop .z (.ret (pret results148 (.t r .n) a ⟨false,r,hd⟩)))))))))
   rw [d]
   refine .fk 3 r ?_
   refine splitP hd (fun e hd=>?_) fun e hd=>?_
   · rw [e]
     refine .g r r r (fun _=>.gyes r r r (.fa un82 r sz80 r (o:=1) r r r .mk)) (.g r r r (fun _=>.gyes r r r (.load1 ia80 r .z r r r .mk)) (.fk 1 r ?_))
     obtain ⟨p,X,i,hd⟩:=hd
     obtain ⟨Y,o110,U,L,v,x⟩:=R3.2 _ _ i
     cases x
     refine .g r r r (fun _=>.gyes r r r (.ixa un80 sz119 r L r p (idx_lt i p) r r .mk)) (.g r r r (fun _=>.gyes r r r (.fa un119 r sz3 r (o:=o110+b.toNat*2) r r r .mk)) (.g r r r (fun _=>.gyes r r r (.ld1 (j:=0) ia3 v r r r r r .mk)) (.g r r r (fun _=>.gyes r r r (.fa un82 r sz80 r (o:=1) r r r .mk)) (.g r r r (fun _=>.gyes r r r (.load1 ia80 r .z r r r .mk)) (.fk 2 r ?_)))))
     obtain ⟨q,Z,k,hd⟩:=hd
     obtain ⟨a1,o119,V,O,y,A⟩:=R3.2 _ _ k
     cases A
     refine .g r r r (fun _=>.gyes r r r (.ixa un80 sz119 r O r q (idx_lt k q) r r .mk)) (.g r r r (fun _=>.gyes r r r (.fa un119 r sz3 r (o:=o119+(w64 (b - 1)).toNat*2) r r r .mk)) (.g r r r (fun _=>.gyes r r r (.ld1 (j:=0) ia3 y r r r r r .mk)) (.fk 3 r (.e2 38 (.nilS [56,3,1] r r (.condP r hd (fun B hd=>?_) fun B hd=>?_))))))
     · exact .sr (.ks 1 r (.nilS [2] r r (.drop .z (.ret (pret results148 (.t r .n) a ⟨false,r,hd⟩)))))
     exact .skipS [3,1] r r (.region (.ks 3 r (.nil' fun c w ho hs=>⟨(w64 (b+1)),hd,C,a,ho.sub ⟨r,r,trivial⟩,hs.pick (.c .z .n)⟩)))
   rw [e]
   exact .fk 16 r (.e2 38 (.nilS [56,3,1] r r (.condKF r r (.skipS [3,1] r r (.region (.ks 3 r (.nil' fun c w ho hs=>⟨(w64 (b+1)),hd,C,a,ho.sub ⟨r,r,trivial⟩,hs.pick (.c .z .n)⟩)))))))
 exact .exitS [] r r (.drop .z (.sr (.ks 1 r (.nilS [2] r r (.ret (pret results148 (.t r .n) a ⟨true,r,hd⟩))))))
theorem W_ref09_Sure {I:IH} {a0:Vec} {p1:Option Addr} {c2:Nat} {Q:Vec→Prop} (R3:RepSl eItem I p1 c2 a0.Items) (hd:ref09_Sure a0 Q) :
  PFun prog 145 [.agg #[.int .i64 a0.N,.slice p1 a0.Items.length c2]] I (o18_ Q):=by
 refine Fun.enter func145 r ntmps145 r (.c .n) fun w0 M=>?_
 refine .sr (.boxA r r r fun e=>?_)
 refine .allocA zv82 r r fun f=>?_
 refine .nilS [2,1] r r (.seq (.sr (.loadW ia82 sz82 r (.s .z) r r r ?_)))
 have a:=W_ref09_Right (I:=I) R3 hd
 refine .callP call148 r a r r fun g b=>?_
 obtain ⟨h,rfl,hd⟩:=b
 refine .nilS [4,2,1] r r (.condP r hd (fun d hd=>?_) fun d hd=>?_)
 · exact .sr (.loadW ia82 sz82 r (.s .z) r r r (.storeA sz82 r r .z (.t (.t .nil)) r r (.nilS [2] r r (.drop (.s .z) (.ret (pret results145 (.w ia82 sz82 r .z r .n) (.refl _) ⟨a0,_,_,r,R3,hd⟩))))))
 exact .skipS [2] r r (.drop (.s .z) (.sr (.build zv82 un82 BI82 .n (by exact trivial) r r (.storeA sz82 r r .z (.t (.t .nil)) r r (.nilS [2] r r (.ret (pret results145 (.w ia82 sz82 r .z r .n) (.refl _) ⟨({ N:=0,Items:=([]:List Item) }:Vec),_,_,r,(.nil _ _ _),hd⟩)))))))
theorem W_ref09_Get {I:IH} {a0:Vec} {a1:Int} {p1:Option Addr} {c2:Nat} {Q:(Int×Bool)→Prop} (R3:RepSl eItem I p1 c2 a0.Items) (hd:ref09_Get a0 a1 Q) :
  PFun prog 149 [.agg #[.int .i64 a0.N,.slice p1 a0.Items.length c2],.int .i64 a1] I (fun _=>o4_ Q):=by
 refine Fun.enter func149 r ntmps149 r (.c (.c .n)) fun w0 M=>?_
 refine .sr (.boxA r r r fun E=>?_)
 refine .ks 2 r (.nilS [2,1] r r (.sr (.loadW ia82 sz82 r .z r r r ?_)))
 have x:=W_ref09_Sure (I:=I) R3 hd
 refine .call call145 r x r r fun S u g y=>?_
 obtain ⟨v,F,G,rfl,d,hd⟩:=y
 replace R3:=R3.mono g
 refine .storeA sz82 r r .z (.t (.t .nil)) r r (.nilS [2,1] r r (.seq (.sr (.ks 1 r (.nilS [6,2,1] r r (.block (.loop hd (fun (a:Int) c w=>∃ I_,IH.le u I_∧Ok ⟨30,[],none⟩ [(1,.int .i64 a1),(2,.pointer (some ⟨E,0,none⟩)),(6,.int .i64 a)] c∧Sym w0 M I I_ [pto E (.cells #[.int .i64 v.N,.slice F v.Items.length G] 82 (0,0))] w) (fun c w ho hs=>⟨u,(.refl _),ho.sub ⟨r,r,r,trivial⟩,hs.pick (.c .z .n)⟩) ?_)))))))
 rintro a H hd c w hst
 obtain ⟨J,b,hok,hsym⟩:=hst
 have h:=IH.le.trans g b
 replace d:=d.mono b
 refine Cod.at hok hsym (.seq (.sr (.ks 1 r (.fa un82 r sz80 r (o:=1) r r r (.load1 ia80 r .z r r r (.len un80 r r r r (.ks 1 r (.nilS [13,6,2,1] r r (.condP r hd (fun A hd=>?_) fun A hd=>?_)))))))))
 · refine .skipS [6,2,1] r r (.seq (.block (.sr (.fa un82 r sz80 r (o:=1) r r r (.load1 ia80 r .z r r r (.ks 1 r ?_))))))
   obtain ⟨i,O,e,hd⟩:=hd
   obtain ⟨P,o111,K,B,l,m⟩:=d.2 _ _ e
   cases m
   refine .ixa un80 sz119 r B r i (idx_lt e i) r r (.fa un119 r sz3 r (o:=o111+a.toNat*2) r r r (.ld1 (j:=0) ia3 l r r r r r (.ks 2 r (.nilS [23,6,2,1] r r (.condP r hd (fun p hd=>?_) fun p hd=>?_)))))
   · refine .sr (.fa un82 r sz80 r (o:=1) r r r (.load1 ia80 r .z r r r (.ks 1 r ?_)))
     obtain ⟨k,C,f,hd⟩:=hd
     obtain ⟨R,o121,L,D,q,s⟩:=d.2 _ _ f
     cases s
     exact .ixa un80 sz119 r D r k (idx_lt f k) r r (.fa un119 r sz2 r (o:=o121+a.toNat*2+1) r r r (.ld1 (j:=1) ia2 q r r r r r (.ks 2 r (.nilS [5,4] r r (.drop .z (.ret (pret results149 (.t r (.t r .n)) h ⟨(C.Val,true),r,hd⟩)))))))
   exact .skipS [6,2,1] r r (.region (.ks 3 r (.nil' fun c w ho hs=>⟨(w64 (a+1)),hd,J,b,ho.sub ⟨r,r,r,trivial⟩,hs.pick (.c .z .n)⟩)))
 exact .exitS [] r r (.drop .z (.sr (.ks 2 r (.nilS [5,4] r r (.ret (pret results149 (.t r (.t r .n)) h ⟨(0,false),r,hd⟩))))))
theorem W_ref10_Right {I:IH} {a0:Dense} {p1:Option Addr} {c2:Nat} {p4:Option Addr} {c5:Nat} {Q:Bool→Prop} (R3:RepSl eU64 I p1 c2 a0.Has) (R6:RepSl eI64 I p4 c5 a0.Vals) (hd:ref10_Right a0 Q) :
  PFun prog 197 [.agg #[.int .i64 a0.N,.slice p1 a0.Has.length c2,.slice p4 a0.Vals.length c5]] I (fun _=>o2_ Q):=by
 refine Fun.enter func197 r ntmps197 r (.c .n) fun w0 M=>?_
 refine .sr (.boxA r r r fun A=>?_)
 refine .ks 1 r (.nilS [1] r r (.seq (.sr (.fa un88 r sz3 r (o:=0) r r r (.load1 ia3 r .z r r r (.ks 2 r ?_))))))
 refine splitP hd (fun b hd=>?_) fun b hd=>?_
 · rw [b]
   exact .ks 20 r (.nilS [27,1] r r (.condKT r r (.sr (.ks 1 r (.nilS [2] r r (.drop .z (.ret (pret results197 (.t r .n) (.refl _) ⟨false,r,hd⟩))))))))
 rw [b]
 refine .gyes r r r (.fa un88 r sz3 r (o:=0) r r r (.gyes r r r (.load1 ia3 r .z r r r (.ks 3 r ?_))))
 refine splitP hd (fun d hd=>?_) fun d hd=>?_
 · rw [d]
   exact .ks 15 r (.nilS [27,1] r r (.condKT r r (.sr (.ks 1 r (.nilS [2] r r (.drop .z (.ret (pret results197 (.t r .n) (.refl _) ⟨false,r,hd⟩))))))))
 rw [d]
 refine .gyes r r r (.fa un88 r sz34 r (o:=1) r r r (.gyes r r r (.load1 ia34 r .z r r r (.gyes r r r (.fa un88 r sz3 r (o:=0) r r r (.gyes r r r (.load1 ia3 r .z r r r ?_)))))))
 have l:=W_ref03_Right (I:=I) R3 hd
 refine .gyes r r r (.callP call141 r l r r fun E m=>?_)
 obtain ⟨F,rfl,hd⟩:=m
 refine .ks 3 r ?_
 refine splitP hd (fun e hd=>?_) fun e hd=>?_
 · rw [e]
   exact .ks 7 r (.nilS [27,1] r r (.condKT r r (.sr (.ks 1 r (.nilS [2] r r (.drop .z (.ret (pret results197 (.t r .n) (.refl _) ⟨false,r,hd⟩))))))))
 rw [e]
 refine .gyes r r r (.fa un88 r sz23 r (o:=2) r r r (.gyes r r r (.load1 ia23 r .z r r r (.gyes r r r (.len un23 r r r r (.gyes r r r (.fa un88 r sz3 r (o:=0) r r r (.gyes r r r (.load1 ia3 r .z r r r (.ks 2 r (.nilS [27,1] r r (.condP r hd (fun p hd=>?_) fun p hd=>?_))))))))))))
 · exact .sr (.ks 1 r (.nilS [2] r r (.drop .z (.ret (pret results197 (.t r .n) (.refl _) ⟨false,r,hd⟩)))))
 refine .skipS [1] r r (.seq (.sr (.ks 1 r (.nilS [3,1] r r (.block (.loop hd (fun (g:Int) c w=>∃ I_,IH.le I I_∧Ok ⟨47,[],none⟩ [(1,.pointer (some ⟨A,0,none⟩)),(3,.int .i64 g)] c∧Sym w0 M I I_ [pto A (.cells #[.int .i64 a0.N,.slice p1 a0.Has.length c2,.slice p4 a0.Vals.length c5] 88 (0,0))] w) (fun c w ho hs=>⟨I,(.refl _),ho.sub ⟨r,r,trivial⟩,hs.pick (.c .z .n)⟩) ?_))))))
 rintro g B hd c w hst
 obtain ⟨h,a,hok,hsym⟩:=hst
 replace R3:=R3.mono a
 replace R6:=R6.mono a
 refine Cod.at hok hsym (.seq (.sr (.ks 1 r (.fa un88 r sz3 r (o:=0) r r r (.load1 ia3 r .z r r r (.ks 1 r (.nilS [31,3,1] r r (.condP r hd (fun q hd=>?_) fun q hd=>?_))))))))
 · refine .skipS [3,1] r r (.seq (.block (.sr (.fa un88 r sz34 r (o:=1) r r r (.load1 ia34 r .z r r r (.ks 1 r ?_))))))
   have s:=W_ref03_Has (I:=h) R3 hd
   refine .callP call90 r s r r fun G u=>?_
   obtain ⟨H,rfl,hd⟩:=u
   refine .ks 2 r ?_
   refine splitP hd (fun f hd=>?_) fun f hd=>?_
   · rw [f]
     refine .gyes r r r (.fa un88 r sz23 r (o:=2) r r r (.gyes r r r (.load1 ia23 r .z r r r (.ks 1 r ?_))))
     obtain ⟨k,J,i,hd⟩:=hd
     obtain ⟨K,o79,D,C,v,x⟩:=R6.2 _ _ i
     cases x
     refine .gyes r r r (.ixa un23 sz2 r C r k (idx_lt i k) r r (.gyes r r r (.ld1 (j:=0) ia2 v r r r r r (.ks 2 r (.nilS [46,3,1] r r (.condP r hd (fun y hd=>?_) fun y hd=>?_))))))
     · exact .sr (.ks 1 r (.nilS [2] r r (.drop .z (.ret (pret results197 (.t r .n) a ⟨false,r,hd⟩)))))
     exact .skipS [3,1] r r (.region (.ks 3 r (.nil' fun c w ho hs=>⟨(w64 (g+1)),hd,h,a,ho.sub ⟨r,r,trivial⟩,hs.pick (.c .z .n)⟩)))
   rw [f]
   exact .ks 7 r (.nilS [46,3,1] r r (.condKF r r (.skipS [3,1] r r (.region (.ks 3 r (.nil' fun c w ho hs=>⟨(w64 (g+1)),hd,h,a,ho.sub ⟨r,r,trivial⟩,hs.pick (.c .z .n)⟩))))))
 exact .exitS [] r r (.drop .z (.sr (.ks 1 r (.nilS [2] r r (.ret (pret results197 (.t r .n) a ⟨true,r,hd⟩))))))
theorem W_ref10_Back {I:IH} {a0:Dense} {p1:Option Addr} {c2:Nat} {p4:Option Addr} {c5:Nat} {Q:Vec→Prop} (R3:RepSl eU64 I p1 c2 a0.Has) (R6:RepSl eI64 I p4 c5 a0.Vals) (hd:ref10_Back a0 Q) :
  PFun prog 178 [.agg #[.int .i64 a0.N,.slice p1 a0.Has.length c2,.slice p4 a0.Vals.length c5]] I (fun I_ v=>∃ r p7 c8,v=.agg #[.int .i64 r.N,.slice p7 r.Items.length c8]∧RepSl eItem I_ p7 c8 r.Items∧Q r):=by
 refine Fun.enter func178 r ntmps178 r (.c .n) fun w0 M=>?_
 refine .sr (.boxA r r r fun O=>?_)
 refine .allocA zv82 r r fun P=>?_
 refine .nilS [2,1] r r (.seq (.sr (.loadW ia88 sz88 r (.s .z) r r r ?_)))
 have T:=W_ref10_Right (I:=I) R3 R6 hd
 refine .callP call197 r T r r fun c1 U=>?_
 obtain ⟨c3,rfl,hd⟩:=U
 refine .ks 1 r (.nilS [8,2,1] r r (.condP r hd (fun V hd=>?_) fun V hd=>?_))
 · exact .sr (.build zv82 un82 BI82 .n (by exact trivial) r r (.storeA sz82 r r .z (.t (.t .nil)) r r (.nilS [2] r r (.drop (.s .z) (.ret (pret results178 (.w ia82 sz82 r .z r .n) (.refl _) ⟨({ N:=0,Items:=([]:List Item) }:Vec),_,_,r,(.nil _ _ _),hd⟩))))))
 refine .skipS [2,1] r r (.sr (.fa un88 r sz3 r (o:=0) r r r (.load1 ia3 r (.s .z) r r r (.build zv82 un82 BI82 (.c r r r (.t .nil) .n) (by exact ⟨⟨_,_,r,r,r⟩,trivial⟩) r r (.allocA zv82 r r fun R=>?_)))))
 refine .storeA sz82 r r .z (.t (.t .nil)) r r (.nilS [3,2,1] r r (.sr (.fa un88 r sz34 r (o:=1) r r r (.load1 ia34 r (.s (.s .z)) r r r ?_))))
 have W:=W_ref03_List (I:=I) R3 hd
 refine .call call177 r W r r fun c4 S d X=>?_
 obtain ⟨a5,a6,a7,rfl,i,hd⟩:=X
 replace R3:=R3.mono d
 replace R6:=R6.mono d
 refine .ks 1 r (.nilS [4,3,2,1] r r (.seq (.sr (.ks 1 r (.nilS [5,4,3,2,1] r r (.block (.own0 eItem 119 (.loop hd (fun (s:(List Item)×Int) c w=>match s with | (b,e)=>∃ I_ f h,IH.le S I_∧Ok ⟨41,[],none⟩ [(1,.pointer (some ⟨O,0,none⟩)),(2,.pointer (some ⟨P,0,none⟩)),(3,.pointer (some ⟨R,0,none⟩)),(4,.slice a6 a5.length a7),(5,.int .i64 e)] c∧Sym w0 M I I_ [pto O (.cells #[.int .i64 a0.N,.slice p1 a0.Has.length c2,.slice p4 a0.Vals.length c5] 88 (0,0)),pto P (.cells #[.int .i64 0,.slice none 0 0] 82 (0,0)),pto R (.cells #[.int .i64 a0.N,.slice f b.length h] 82 (0,0)),OwnSl eItem 119 f h b] w) (fun c w ho hs=>⟨S,_,_,(.refl _),ho.sub ⟨r,r,r,r,r,trivial⟩,hs.pick (.c (.s (.s (.s .z))) (.c (.s (.s .z)) (.c (.s .z) (.c .z .n))))⟩) ?_))))))))
 rintro ⟨b,e⟩ a4 hd c w hst
 obtain ⟨Y,f,h,a,hok,hsym⟩:=hst
 have B:=IH.le.trans d a
 replace R3:=R3.mono a
 replace R6:=R6.mono a
 replace i:=i.mono a
 refine Cod.at hok hsym (.seq (.sr (.ks 2 r (.len un51 r r r r (.ks 1 r (.nilS [19,5,4,3,2,1] r r (.condP r hd (fun C hd=>?_) fun C hd=>?_)))))))
 · refine .skipS [5,4,3,2,1] r r (.seq (.block (.ownF (.s (.s (.s .z))) fun a8=>?_)))
   refine .dr [0,1,2,3,4,5,6,7,8,9,10,11,12,13,14,15,16] 17 (.g r r r (fun _=>.fa un82 r sz80 r (o:=1) r r r .mk) (.g r r r (fun _=>.load1 ia80 r (.s (.s .z)) r r r .mk) (.fk 2 r ?_)))
   obtain ⟨q,u,k,hd⟩:=hd
   obtain ⟨b3,o156,a9,Z,D,E⟩:=i.2 _ _ k
   cases E
   refine .g r r r (fun _=>.ixa un51 sz3 r Z r q (idx_lt k q) r r .mk) (.g r r r (fun _=>.ld1 (j:=0) ia3 D r r r r r .mk) (.g r r r (fun _=>.fa un88 r sz23 r (o:=2) r r r .mk) (.g r r r (fun _=>.load1 ia23 r .z r r r .mk) (.fk 2 r ?_))))
   obtain ⟨x,b4,l,hd⟩:=hd
   obtain ⟨b5,o165,b0,a1,F,G⟩:=i.2 _ _ l
   cases G
   refine .g r r r (fun _=>.ixa un51 sz3 r a1 r x (idx_lt l x) r r .mk) (.g r r r (fun _=>.ld1 (j:=0) ia3 F r r r r r .mk) ?_)
   obtain ⟨y,A,m,hd⟩:=hd
   obtain ⟨b6,o174,b1,a2,H,J⟩:=R6.2 _ _ m
   cases J
   refine .g r r r (fun _=>.ixa un23 sz2 r a2 r y (idx_lt m y) r r .mk) (.g r r r (fun _=>.ld1 (j:=0) ia2 H r r r r r .mk) (.g r r r (fun _=>.build zv119 un119 BI119 (.c r r r (.t .nil) (.c r r r (.s (.t .nil)) .n)) (by exact ⟨⟨_,_,r,r,r⟩,⟨⟨_,_,r,r,r⟩,trivial⟩⟩) r r .mk) (.ww r fun ex=>?_)))
   refine .buildSlice 1 un80 sz119 zv119 r r (.c r r r .n) r r fun b7=>?_
   refine .so 5 r r r (.cg r r r r (fun _=>.load1 ia80 r (.s (.s (.s .z))) r r r .mk) (.cg r r r r (fun _=>.fa un82 r sz80 r (o:=1) r r r .mk) trivial)) (.ww r fun ex=>?_)
   obtain ⟨K,hd⟩:=hd
   refine .append (ys:=[({ At:=u,Val:=A }:Item)]) 16 (.s (.s (.s (.s .z)))) un80 un80 IN119 r r r r r r r r r (.box .z (.one r) r) K r r fun b8 b9=>?_
   exact .so 5 r r r trivial (.e2 17 (.fa un82 r sz80 r (o:=1) r r r (.store1 sz80 r r (.s (.s (.s (.s .z)))) (.s (.t .nil)) r (.nilS [5,4,3,2,1] r r (.drop (.s .z) (.region (.ks 3 r (.nil' fun c w ho hs=>⟨((b++([({ At:=u,Val:=A }:Item)])),w64 (e+1)),hd,Y,_,_,a,ho.sub ⟨r,r,r,r,r,trivial⟩,hs.pick (.c (.s .z) (.c (.s .z) (.c (.s .z) (.c .z .n))))⟩))))))))
 refine .exitS [3,2] r r (.drop .z (.sr (.loadW ia82 sz82 r (.s .z) r r r (.storeA sz82 r r .z (.t (.t .nil)) r r (.nilS [2] r r (.drop (.s .z) (.pub (.s .z) fun c0 p a3=>?_)))))))
 have L:=IH.le.trans B p
 have b2:=IH.le.trans a p
 exact .ret (pret results178 (.w ia82 sz82 r .z r .n) L ⟨({ N:=a0.N,Items:=b }:Vec),_,_,r,a3,hd⟩)
theorem W_ref01_Minus {I:IH} {a0:Wide} {Q:Wide→Prop}  (hd:ref01_Minus a0 Q) :
  PFun prog 210 [.agg (encWide a0).toArray] I (fun _=>o3_ Q):=by
 refine Fun.enter func210 r ntmps210 r (.c .n) fun w0 M=>?_
 refine .sr (.boxA r r r fun f=>?_)
 refine .allocA zv155 r r fun g=>?_
 refine .nilS [2,1] r r (.sr (.fa un155 r sz2 r (o:=0) r r r (.load1 ia2 r (.s .z) r r r (.invS r r r r (.fa un155 r sz96 r (o:=1) r r r (.load1 ia96 r (.s .z) r r r (.invU (M:=18446744073709551615) r (by decide) r r r (.build zv155 un155 BI155 (.c r r r (.t .nil) (.c r r r (.s (.t .nil)) .n)) (by exact ⟨⟨_,_,r,r,r⟩,⟨⟨_,_,r,r,r⟩,trivial⟩⟩) r r (.build zv155 un155 BI155 (.c r r r (.s (.t .nil)) .n) (by exact ⟨⟨_,_,r,r,r⟩,trivial⟩) r r ?_)))))))))
 have a:=W_ref01_Add (I:=I) hd
 refine .callP call187 r a r r fun e b=>?_
 obtain ⟨d,rfl,hd⟩:=b
 exact .storeA sz155 r r .z (.t (.t .nil)) r r (.nilS [2] r r (.drop (.s .z) (.ret (pret results210 (.w ia155 sz155 r .z r .n) (.refl _) ⟨d,r,hd⟩))))
theorem W_ref01_Mul {I:IH} {a0:Int} {a1:Int} {Q:Wide→Prop}  (hd:ref01_Mul a0 a1 Q) :
  PFun prog 198 [.int .i64 a0,.int .i64 a1] I (fun _=>o3_ Q):=by
 refine Fun.enter func198 r ntmps198 r (.c (.c .n)) fun w0 M=>?_
 refine .sr (.allocA zv155 r r fun o=>?_)
 refine .nilS [4,1,0] r r (.sr (.ks 1 r ?_))
 have K:=W_ref01_Of (I:=I) hd
 refine .callP call159 r K r r fun W L=>?_
 obtain ⟨F,rfl,hd⟩:=L
 refine .allocA zv155 r r fun g=>?_
 refine .storeA sz155 r r .z (.t (.t .nil)) r r (.nilS [5,4,1] r r (.sr (.ks 3 r (.nilS [6,5,4,1] r r (.sr (.ks 1 r (.conv un2 un96 r r r (.ks 1 r (.nilS [7,6,5,4] r r ?_)))))))))
 refine .seq ?_
 refine Cod.joinQ (σ:=Int) hd (fun (G:Int) c w=>∃ I_,IH.le I I_∧Ok ⟨35,[],none⟩ [(4,.pointer (some ⟨o,0,none⟩)),(5,.pointer (some ⟨g,0,none⟩)),(6,.bool (decide (a1<0))),(7,.int .u64 G)] c∧Sym w0 M I I_ [pto o (.cells #[.int .i64 0,.int .u64 0] 155 (0,0)),pto g (.cells #[.int .i64 F.Hi,.int .u64 F.Lo] 155 (0,0))] w) (fun X hd=>?_) ?_
 · skip
   refine .sr (.ks 1 r (.nilS [15,7,6,5,4] r r (.condP r hd (fun N hd=>?_) fun N hd=>?_)))
   · exact .region (.ks 1 r (.neg r r r (.ks 1 r (.nil' fun c w ho hs=>⟨(IntKind.wrap .u64 (0 - (IntKind.wrap .u64 (a1)))),hd,I,(.refl _),ho.sub ⟨r,r,r,r,trivial⟩,hs.pick (.c (.s .z) (.c .z .n))⟩))))
   exact .skip' fun c w ho hs=>⟨(IntKind.wrap .u64 (a1)),hd,I,(.refl _),ho.sub ⟨r,r,r,r,trivial⟩,hs.pick (.c (.s .z) (.c .z .n))⟩
 rintro G hd c w hst
 obtain ⟨H,O,hok,hsym⟩:=hst
 refine Cod.at hok hsym (.sr (.allocA zv155 r r fun J=>?_))
 refine .nilS [8,7,6,5,4] r r (.seq (.block (.loop hd (fun (s:Int×Int×Int×Int×Int) c w=>match s with | (i,j,b,d,e)=>∃ I_,IH.le H I_∧Ok ⟨35,[],none⟩ [(4,.pointer (some ⟨o,0,none⟩)),(5,.pointer (some ⟨g,0,none⟩)),(6,.bool (decide (a1<0))),(7,.int .u64 b),(8,.pointer (some ⟨J,0,none⟩))] c∧Sym w0 M I I_ [pto o (.cells #[.int .i64 0,.int .u64 0] 155 (0,0)),pto g (.cells #[.int .i64 i,.int .u64 j] 155 (0,0)),pto J (.cells #[.int .i64 d,.int .u64 e] 155 (0,0))] w) (fun c w ho hs=>⟨H,(.refl _),ho.sub ⟨r,r,r,r,r,trivial⟩,hs.pick (.c (.s .z) (.c (.s .z) (.c .z .n)))⟩) ?_)))
 rintro ⟨i,j,b,d,e⟩ R hd c w hst
 obtain ⟨a,f,hok,hsym⟩:=hst
 have h:=IH.le.trans O f
 refine Cod.at hok hsym (.seq (.sr (.ks 2 r (.nilS [19,8,7,6,5,4] r r (.condP r hd (fun p hd=>?_) fun p hd=>?_)))))
 · refine .skipS [8,7,6,5,4] r r (.block (.seq (.sr (.ks 1 r (.rem r r (by decide) r r (.ks 1 r (.nilS [22,8,7,6,5,4] r r (.condP r hd (fun q hd=>?_) fun q hd=>?_))))))))
   · refine .region (.loadW ia155 sz155 r (.s (.s .z)) r r r (.loadW ia155 sz155 r (.s .z) r r r ?_))
     have u:=W_ref01_Add (I:=a) hd
     refine .callP call187 r u r r fun S v=>?_
     obtain ⟨k,rfl,hd⟩:=v
     refine .storeA sz155 r r (.s (.s .z)) (.t (.t .nil)) r r (.nilS [8,7,6,5,4] r r (.sr (.loadW ia155 sz155 r (.s .z) r r r (.loadW ia155 sz155 r (.s .z) r r r ?_))))
     have x:=W_ref01_Add (I:=a) hd
     refine .callP call187 r x r r fun T y=>?_
     obtain ⟨l,rfl,hd⟩:=y
     exact .storeA sz155 r r (.s .z) (.t (.t .nil)) r r (.nilS [8,7,6,5,4] r r (.region (.ks 1 r (.quo r r (by decide) r r (.ks 1 r (.nil' fun c w ho hs=>⟨(l.Hi,l.Lo,IntKind.wrap .u64 (b.tdiv 2),k.Hi,k.Lo),hd,a,f,ho.sub ⟨r,r,r,r,r,trivial⟩,hs.pick (.c .z (.c .z (.c .z .n)))⟩))))))
   refine .skipS [8,7,6,5,4] r r (.sr (.loadW ia155 sz155 r (.s .z) r r r (.loadW ia155 sz155 r (.s .z) r r r ?_)))
   have A:=W_ref01_Add (I:=a) hd
   refine .callP call187 r A r r fun U B=>?_
   obtain ⟨m,rfl,hd⟩:=B
   exact .storeA sz155 r r (.s .z) (.t (.t .nil)) r r (.nilS [8,7,6,5,4] r r (.region (.ks 1 r (.quo r r (by decide) r r (.ks 1 r (.nil' fun c w ho hs=>⟨(m.Hi,m.Lo,IntKind.wrap .u64 (b.tdiv 2),d,e),hd,a,f,ho.sub ⟨r,r,r,r,r,trivial⟩,hs.pick (.c .z (.c .z (.c .z .n)))⟩))))))
 refine .exitS [8,6,4] r r (.drop (.s .z) (.seq (.sr (.ks 1 r (.nilS [31,8,4] r r (.condP r hd (fun C hd=>?_) fun C hd=>?_))))))
 · refine .sr (.loadW ia155 sz155 r (.s .z) r r r ?_)
   have D:=W_ref01_Minus (I:=a) hd
   refine .callP call210 r D r r fun V E=>?_
   obtain ⟨P,rfl,hd⟩:=E
   exact .storeA sz155 r r .z (.t (.t .nil)) r r (.nilS [4] r r (.drop (.s .z) (.ret (pret results198 (.w ia155 sz155 r .z r .n) h ⟨P,r,hd⟩))))
 exact .skipS [8,4] r r (.sr (.loadW ia155 sz155 r (.s .z) r r r (.storeA sz155 r r .z (.t (.t .nil)) r r (.nilS [4] r r (.drop (.s .z) (.ret (pret results198 (.w ia155 sz155 r .z r .n) h ⟨({ Hi:=d,Lo:=e }:Wide),r,hd⟩)))))))
theorem W_ref02_Mul {I:IH} {a0:Int} {a1:Int} {a2:Int} {Q:Wide→Prop}  (hd:ref02_Mul a0 a1 a2 Q) :
  PFun prog 179 [.int .i64 a0,.int .i64 a1,.int .i64 a2] I (fun _=>o3_ Q):=by
 refine Fun.enter func179 r ntmps179 r (.c (.c (.c .n))) fun w0 M=>?_
 refine .sr (.allocA zv155 r r fun b3=>?_)
 refine .nilS [6,2,1,0] r r (.seq ?_)
 refine Cod.joinQ (σ:=Bool) hd (fun (s7:Bool) c w=>∃ I_,IH.le I I_∧Ok ⟨59,[],none⟩ [(0,.int .i64 a0),(1,.int .i64 a1),(2,.int .i64 a2),(6,.pointer (some ⟨b3,0,none⟩)),(7,.bool s7)] c∧Sym w0 M I I_ [pto b3 (.cells #[.int .i64 0,.int .u64 0] 155 (0,0))] w) (fun k8 hd=>?_) ?_
 · skip
   refine .region (.ks 3 r ?_)
   refine splitP hd (fun f hd=>?_) fun f hd=>?_
   · rw [f]
     exact .ks 4 r (.nil' fun c w ho hs=>⟨true,hd,I,(.refl _),ho.sub ⟨r,r,r,r,r,trivial⟩,hs.pick (.c .z .n)⟩)
   rw [f]
   exact .ks 4 r (.nil' fun c w ho hs=>⟨(decide (4611686018427387904≤a2)),hd,I,(.refl _),ho.sub ⟨r,r,r,r,r,trivial⟩,hs.pick (.c .z .n)⟩)
 rintro s7 hd c w hst
 obtain ⟨d,b,hok,hsym⟩:=hst
 refine Cod.at hok hsym (.sr (.ks 1 r (.nilS [15,7,6,2,1] r r (.block (.sr (.ks 2 r (.nilS [17,15,7,6,2,1] r r (.condP r hd (fun h hd=>?_) fun h hd=>?_))))))))
 · refine .sr (.ks 1 r ?_)
   have i:=W_ref01_Of (I:=d) hd
   refine .callP call159 r i r r fun v29 j=>?_
   obtain ⟨r27,rfl,hd⟩:=j
   refine .ks 1 r ?_
   have k:=W_ref01_Of (I:=d) hd
   refine .callP call159 r k r r fun v33 l=>?_
   obtain ⟨r31,rfl,hd⟩:=l
   have m:=W_ref01_Add (I:=d) hd
   refine .callP call187 r m r r fun v37 o=>?_
   obtain ⟨r35,rfl,hd⟩:=o
   refine .allocA zv155 r r fun b39=>?_
   refine .storeA sz155 r r .z (.t (.t .nil)) r r (.nilS [8,7,6] r r (.seq (.seq (.dr [0,1,2,3,4,5,6] 7 (.fk 2 r ?_)))))
   refine splitP hd (fun a hd=>?_) fun a hd=>?_
   · refine .g r r r (fun _=>.gno r r a r r .mk) (.g r r r (fun _=>.gno r r a r r .mk) (.g r r r (fun _=>.gno r r a r r .mk) (.g r r r (fun _=>.gno r r a r r .mk) (.g r r r (fun _=>.pickT r a r r r .mk) (.e2 7 (.nilS [30,8,6] r r (.condKT r r (.sr ?_))))))))
     have p:=W_ref01_Of (I:=d) hd
     refine .callP call159 r p r r fun v44 q=>?_
     obtain ⟨r42,rfl,hd⟩:=q
     exact .storeA sz155 r r (.s .z) (.t (.t .nil)) r r (.nilS [6] r r (.drop .z (.ret (pret results179 (.w ia155 sz155 r .z r .n) b ⟨r42,r,hd⟩))))
   refine .g r r r (fun _=>.gyes r r a (.loadW ia155 sz155 r .z r r r .mk)) (.ww r fun ex=>?_)
   have u:=W_ref01_Of (I:=d) hd
   refine .gyes r r a (.callP call159 r u r r fun v48 v=>?_)
   obtain ⟨r46,rfl,hd⟩:=v
   refine .so 2 r r r (.cg r r r r (fun _=>.gyes r r a (.loadW ia155 sz155 r .z r r r .mk)) trivial) (.ww r fun ex=>?_)
   have x:=W_ref01_Compare (I:=d) hd
   refine .gyes r r a (.callP call185 r x r r fun v52 y=>?_)
   obtain ⟨r50,rfl,hd⟩:=y
   refine .so 2 r r r trivial (.g r r r (fun _=>.gyes r r a (.gt r r r r .mk)) (.g r r r (fun _=>.pickF r a r r r .mk) (.e2 7 (.nilS [30,8,6] r r (.condP r hd (fun A hd=>?_) fun A hd=>?_)))))
   · refine .sr ?_
     have B:=W_ref01_Of (I:=d) hd
     refine .callP call159 r B r r fun v57 C=>?_
     obtain ⟨r55,rfl,hd⟩:=C
     exact .storeA sz155 r r (.s .z) (.t (.t .nil)) r r (.nilS [6] r r (.drop .z (.ret (pret results179 (.w ia155 sz155 r .z r .n) b ⟨r55,r,hd⟩))))
   exact .skipS [8,6] r r (.sr (.loadW ia155 sz155 r .z r r r (.storeA sz155 r r (.s .z) (.t (.t .nil)) r r (.nilS [6] r r (.drop .z (.ret (pret results179 (.w ia155 sz155 r .z r .n) b ⟨r35,r,hd⟩)))))))
 refine .sr (.ks 2 r (.nilS [33,15,7,6,2,1] r r (.condP r hd (fun D hd=>?_) fun D hd=>?_)))
 · refine .seq (.sr (.ks 1 r (.nilS [35,6,1] r r (.condP r hd (fun E hd=>?_) fun E hd=>?_))))
   · refine .sr ?_
     have F:=W_ref01_Of (I:=d) hd
     refine .callP call159 r F r r fun v63 G=>?_
     obtain ⟨r61,rfl,hd⟩:=G
     exact .storeA sz155 r r .z (.t (.t .nil)) r r (.nilS [6] r r (.ret (pret results179 (.w ia155 sz155 r .z r .n) b ⟨r61,r,hd⟩)))
   refine .skipS [6,1] r r (.sr (.ks 1 r ?_))
   have H:=W_ref01_Of (I:=d) hd
   refine .callP call159 r H r r fun v67 J=>?_
   obtain ⟨r65,rfl,hd⟩:=J
   exact .storeA sz155 r r .z (.t (.t .nil)) r r (.nilS [6] r r (.ret (pret results179 (.w ia155 sz155 r .z r .n) b ⟨r65,r,hd⟩)))
 refine .sr (.ks 2 r (.nilS [39,15,7,6,2,1] r r (.condP r hd (fun K hd=>?_) fun K hd=>?_)))
 · refine .seq (.sr (.ks 1 r (.nilS [41,6,2] r r (.condP r hd (fun L hd=>?_) fun L hd=>?_))))
   · refine .sr ?_
     have N:=W_ref01_Of (I:=d) hd
     refine .callP call159 r N r r fun v73 O=>?_
     obtain ⟨r71,rfl,hd⟩:=O
     exact .storeA sz155 r r .z (.t (.t .nil)) r r (.nilS [6] r r (.ret (pret results179 (.w ia155 sz155 r .z r .n) b ⟨r71,r,hd⟩)))
   refine .skipS [6,2] r r (.sr (.ks 1 r ?_))
   have P:=W_ref01_Of (I:=d) hd
   refine .callP call159 r P r r fun v77 R=>?_
   obtain ⟨r75,rfl,hd⟩:=R
   exact .storeA sz155 r r .z (.t (.t .nil)) r r (.nilS [6] r r (.ret (pret results179 (.w ia155 sz155 r .z r .n) b ⟨r75,r,hd⟩)))
 refine .sr (.ks 2 r (.nilS [45,15,6,2,1] r r (.condP r hd (fun S hd=>?_) fun S hd=>?_)))
 · refine .sr (.ks 3 r ?_)
   refine splitP hd (fun e hd=>?_) fun e hd=>?_
   · rw [e]
     refine .ks 3 r ?_
     have T:=W_ref02_truth (I:=d) hd
     refine .callP call186 r T r r fun v83 U=>?_
     obtain ⟨r81,rfl,hd⟩:=U
     exact .storeA sz155 r r .z (.t (.t .nil)) r r (.nilS [6] r r (.ret (pret results179 (.w ia155 sz155 r .z r .n) b ⟨r81,r,hd⟩)))
   rw [e]
   refine .ks 3 r ?_
   have V:=W_ref02_truth (I:=d) hd
   refine .callP call186 r V r r fun v87 W=>?_
   obtain ⟨r85,rfl,hd⟩:=W
   exact .storeA sz155 r r .z (.t (.t .nil)) r r (.nilS [6] r r (.ret (pret results179 (.w ia155 sz155 r .z r .n) b ⟨r85,r,hd⟩)))
 refine .sr (.ks 2 r (.nilS [54,6,2,1] r r (.condP r hd (fun X hd=>?_) fun X hd=>?_)))
 · refine .sr (.ks 2 r ?_)
   have Y:=W_ref01_Mul (I:=d) hd
   refine .callP call198 r Y r r fun v92 Z=>?_
   obtain ⟨r90,rfl,hd⟩:=Z
   exact .storeA sz155 r r .z (.t (.t .nil)) r r (.nilS [6] r r (.ret (pret results179 (.w ia155 sz155 r .z r .n) b ⟨r90,r,hd⟩)))
 exact .sr (.build zv155 un155 BI155 .n (by exact trivial) r r (.storeA sz155 r r .z (.t (.t .nil)) r r (.nilS [6] r r (.ret (pret results179 (.w ia155 sz155 r .z r .n) b ⟨({ Hi:=0,Lo:=0 }:Wide),r,hd⟩)))))
theorem W_ref13_Sums {I:IH} {a0:Int} {a1:Rows} {a2:Dense} {a3:List Int} {a4:Bool} {p1:Option Addr} {c2:Nat} {p4:Option Addr} {c5:Nat} {p7:Option Addr} {c8:Nat} {p10:Option Addr} {c11:Nat} {p13:Option Addr} {c14:Nat} {p16:Option Addr} {c17:Nat} {Q:((List Sum)×Int)→Prop} (R3:RepSl eI64 I p1 c2 a1.Start) (R6:RepSl eI64 I p4 c5 a1.Col) (R9:RepSl eI64 I p7 c8 a1.Val) (R12:RepSl eU64 I p10 c11 a2.Has) (R15:RepSl eI64 I p13 c14 a2.Vals) (R18:RepSl eU64 I p16 c17 a3) (hd:ref13_Sums a0 a1 a2 a3 a4 Q) :
  PFun prog 143 [.int .i64 a0,.agg #[.int .i64 a1.Rows,.int .i64 a1.Cols,.slice p1 a1.Start.length c2,.slice p4 a1.Col.length c5,.slice p7 a1.Val.length c8],.agg #[.int .i64 a2.N,.slice p10 a2.Has.length c11,.slice p13 a2.Vals.length c14],.slice p16 a3.length c17,.bool a4] I (o19_ Q):=by
 refine Fun.enter func143 r ntmps143 r (.c (.c (.c (.c (.c .n))))) fun w0 M=>?_
 refine .sr (.boxA r r r fun O=>?_)
 refine .boxA r r r fun i3=>?_
 refine .ks 2 r (.nilS [7,6,4,3,0] r r (.sr (.loadW ia53 sz53 r (.s .z) r r r ?_)))
 have e6:=W_ref07_Sure (I:=I) R3 R6 R9 hd
 refine .call call91 r e6 r r fun i4 f7 i e7=>?_
 obtain ⟨h,d7,d8,d9,e0,e1,e3,rfl,v,y,A,hd⟩:=e7
 replace R3:=R3.mono i
 replace R6:=R6.mono i
 replace R9:=R9.mono i
 replace R12:=R12.mono i
 replace R15:=R15.mono i
 replace R18:=R18.mono i
 refine .storeA sz53 r r (.s .z) (.t (.t (.t (.t (.t .nil))))) r r (.nilS [7,6,4,3,0] r r (.sr (.loadW ia88 sz88 r .z r r r ?_)))
 have e8:=W_ref10_Back (I:=f7) R12 R15 hd
 refine .call call178 r e8 r r fun i5 Z k e9=>?_
 obtain ⟨P,e4,e5,rfl,C,hd⟩:=e9
 have L:=IH.le.trans i k
 replace R12:=R12.mono k
 replace R15:=R15.mono k
 replace R18:=R18.mono k
 replace v:=v.mono k
 replace y:=y.mono k
 replace A:=A.mono k
 refine .allocA zv82 r r fun R=>?_
 refine .storeA sz82 r r .z (.t (.t .nil)) r r (.nilS [12,6,4,3,0] r r (.drop (.s .z) (.seq (.sr (.ks 1 r ?_)))))
 have f0:=W_ref02_Is (I:=Z) hd
 refine .callP call157 r f0 r r fun i6 f1=>?_
 obtain ⟨i7,rfl,hd⟩:=f1
 refine .ks 1 r (.nilS [27,12,6,4,3,0] r r (.condP r hd (fun f2 hd=>?_) fun f2 hd=>?_))
 · exact .sr (.ks 2 r (.nilS [11,10] r r (.drop .z (.drop .z (.ret (pret results143 (.t r (.t r .n)) L ⟨(([]:List Sum),8),_,_,r,(.nil _ _ _),hd⟩))))))
 refine .skipS [12,6,4,3,0] r r (.seq (.sr (.fa un82 r sz3 r (o:=0) r r r (.load1 ia3 r .z r r r (.fa un53 r sz3 r (o:=1) r r r (.load1 ia3 r (.s .z) r r r (.ks 1 r (.nilS [32,12,6,4,3,0] r r (.condP r hd (fun f3 hd=>?_) fun f3 hd=>?_)))))))))
 · exact .sr (.ks 2 r (.nilS [11,10] r r (.drop .z (.drop .z (.ret (pret results143 (.t r (.t r .n)) L ⟨(([]:List Sum),4),_,_,r,(.nil _ _ _),hd⟩))))))
 refine .skipS [12,6,4,3,0] r r (.sr (.ks 1 r (.nilS [13,12,6,4,3,0] r r (.seq (.sr (.ks 1 r (.nilS [14,13,12,6,4,3,0] r r (.block (.own0 eSum 159 ?_)))))))))
 refine .loop hd (fun (s:(List Sum)×Int) c w=>match s with | (d,e)=>∃ I_ l m,IH.le Z I_∧Ok ⟨93,[],none⟩ [(0,.int .i64 a0),(3,.slice p16 a3.length c17),(4,.bool a4),(6,.pointer (some ⟨O,0,none⟩)),(12,.pointer (some ⟨R,0,none⟩)),(13,.slice l d.length m),(14,.int .i64 e)] c∧Sym w0 M I I_ [pto O (.cells #[.int .i64 h.Rows,.int .i64 h.Cols,.slice d7 h.Start.length d8,.slice d9 h.Col.length e0,.slice e1 h.Val.length e3] 53 (0,0)),pto R (.cells #[.int .i64 P.N,.slice e4 P.Items.length e5] 82 (0,0)),OwnSl eSum 159 l m d] w) (fun c w ho hs=>⟨Z,_,_,(.refl _),ho.sub ⟨r,r,r,r,r,r,r,trivial⟩,hs.pick (.c (.s (.s .z)) (.c (.s .z) (.c .z .n)))⟩) ?_
 rintro ⟨d,e⟩ f4 hd c w hst
 obtain ⟨x,l,m,b,hok,hsym⟩:=hst
 have D:=IH.le.trans L b
 replace R18:=R18.mono b
 replace v:=v.mono b
 replace y:=y.mono b
 replace A:=A.mono b
 replace C:=C.mono b
 refine Cod.at hok hsym (.seq (.sr (.ks 1 r (.fa un53 r sz3 r (o:=0) r r r (.load1 ia3 r .z r r r (.ks 1 r (.nilS [36,14,13,12,6,4,3,0] r r (.condP r hd (fun a5 hd=>?_) fun a5 hd=>?_))))))))
 · refine .skipS [14,13,12,6,4,3,0] r r (.seq (.block (.seq (.sr (.ks 2 r ?_)))))
   have a6:=W_ref03_Has (I:=x) R18 hd
   refine .callP call90 r a6 r r fun g4 a7=>?_
   obtain ⟨g5,rfl,hd⟩:=a7
   refine .ks 1 r (.eqB underlying4 r r r r (.nilS [43,14,13,12,6,4,3,0] r r (.condP r hd (fun a8 hd=>?_) fun a8 hd=>?_)))
   · exact .exitS [14,13,12,6,4,3,0] r r (.region (.ks 3 r (.nil' fun c w ho hs=>⟨(d,w64 (e+1)),hd,x,_,_,b,ho.sub ⟨r,r,r,r,r,r,r,trivial⟩,hs.pick (.c .z (.c .z (.c .z .n)))⟩)))
   refine .skipS [14,13,12,6,4,3,0] r r (.sr (.allocA zv155 r r fun S=>?_))
   refine .nilS [15,14,13,12,6,4,3,0] r r (.sr (.ks 1 r (.nilS [16,15,14,13,12,6,4,3,0] r r (.seq (.sr (.fa un53 r sz51 r (o:=2) r r r (.load1 ia51 r (.s .z) r r r (.ks 1 r ?_))))))))
   obtain ⟨T,g6,E,hd⟩:=hd
   obtain ⟨g7,o1630,f8,d2,a9,b0⟩:=v.2 _ _ E
   cases b0
   refine .ixa un51 sz3 r d2 r T (idx_lt E T) r r (.ld1 (j:=0) ia3 a9 r r r r r (.ks 1 r (.nilS [17,16,15,14,13,12,6,4,3,0] r r (.block (.loop hd (fun (s:Int×Int×Bool×Int) c w=>match s with | (p,q,B,u)=>∃ I_,IH.le x I_∧Ok ⟨93,[],none⟩ [(0,.int .i64 a0),(3,.slice p16 a3.length c17),(4,.bool a4),(6,.pointer (some ⟨O,0,none⟩)),(12,.pointer (some ⟨R,0,none⟩)),(13,.slice l d.length m),(14,.int .i64 e),(15,.pointer (some ⟨S,0,none⟩)),(16,.bool B),(17,.int .i64 u)] c∧Sym w0 M I I_ [pto O (.cells #[.int .i64 h.Rows,.int .i64 h.Cols,.slice d7 h.Start.length d8,.slice d9 h.Col.length e0,.slice e1 h.Val.length e3] 53 (0,0)),pto R (.cells #[.int .i64 P.N,.slice e4 P.Items.length e5] 82 (0,0)),OwnSl eSum 159 l m d,pto S (.cells #[.int .i64 p,.int .u64 q] 155 (0,0))] w) (fun c w ho hs=>⟨x,(.refl _),ho.sub ⟨r,r,r,r,r,r,r,r,r,r,trivial⟩,hs.pick (.c (.s .z) (.c (.s .z) (.c (.s .z) (.c .z .n))))⟩) ?_)))))
   rintro ⟨p,q,B,u⟩ f5 hd c w hst
   obtain ⟨f,a,hok,hsym⟩:=hst
   have f9:=IH.le.trans D a
   have F:=IH.le.trans b a
   replace R18:=R18.mono a
   replace v:=v.mono a
   replace y:=y.mono a
   replace A:=A.mono a
   replace C:=C.mono a
   refine Cod.at hok hsym (.seq (.sr (.ks 1 r (.fa un53 r sz51 r (o:=2) r r r (.load1 ia51 r .z r r r (.ks 2 r ?_))))))
   obtain ⟨U,g8,G,hd⟩:=hd
   obtain ⟨g9,o1835,g0,d3,b1,b2⟩:=v.2 _ _ G
   cases b2
   refine .ixa un51 sz3 r d3 r U (idx_lt G U) r r (.ld1 (j:=0) ia3 b1 r r r r r (.ks 1 r (.nilS [56,17,16,15,14,13,12,6,4,3,0] r r (.condP r hd (fun b3 hd=>?_) fun b3 hd=>?_))))
   · refine .skipS [17,16,15,14,13,12,6,4,3,0] r r (.seq (.block (.seq (.ownF (.s (.s .z)) fun f6=>?_))))
     refine .dr [0,1,2,3,4,5,6,7,8,9,10] 11 (.g r r r (fun _=>.loadW ia82 sz82 r (.s .z) r r r .mk) (.g r r r (fun _=>.fa un53 r sz51 r (o:=3) r r r .mk) (.g r r r (fun _=>.load1 ia51 r .z r r r .mk) (.fk 1 r ?_))))
     obtain ⟨V,h0,H,hd⟩:=hd
     obtain ⟨h1,o1860,g1,d4,b4,b5⟩:=y.2 _ _ H
     cases b5
     refine .g r r r (fun _=>.ixa un51 sz3 r d4 r V (idx_lt H V) r r .mk) (.g r r r (fun _=>.ld1 (j:=0) ia3 b4 r r r r r .mk) (.ww r fun ex=>?_))
     have b6:=W_ref09_Get (I:=f) C hd
     refine .callP call149 r b6 r r fun h2 b7=>?_
     obtain ⟨h3,rfl,hd⟩:=b7
     refine .so 4 r r r trivial (.fk 4 r (.e2 11 (.ks 1 r (.nilS [19,18,17,16,15,14,13,12,6,4,3,0] r r (.seq (.sr (.ks 2 r (.nilS [70,18,17,16,15,14,13,12,6,4,3,0] r r (.condP r hd (fun b8 hd=>?_) fun b8 hd=>?_)))))))))
     · exact .exitS [17,16,15,14,13,12,6,4,3,0] r r (.region (.ks 3 r (.nil' fun c w ho hs=>⟨(p,q,B,w64 (u+1)),hd,f,a,ho.sub ⟨r,r,r,r,r,r,r,r,r,r,trivial⟩,hs.pick (.c .z (.c .z (.c .z (.c .z .n))))⟩)))
     refine .skipS [18,17,16,15,14,13,12,6,4,3,0] r r (.sr (.ks 1 r (.fa un53 r sz23 r (o:=4) r r r (.load1 ia23 r .z r r r (.ks 1 r ?_)))))
     obtain ⟨W,h4,J,hd⟩:=hd
     obtain ⟨h5,o1890,g2,d5,b9,c0⟩:=A.2 _ _ J
     cases c0
     refine .ixa un23 sz2 r d5 r W (idx_lt J W) r r (.ld1 (j:=0) ia2 b9 r r r r r (.ks 1 r ?_))
     have c1:=W_ref02_Mul (I:=f) hd
     refine .callP call179 r c1 r r fun h6 c3=>?_
     obtain ⟨X,rfl,hd⟩:=c3
     refine .allocA zv155 r r fun h7=>?_
     refine .storeA sz155 r r .z (.t (.t .nil)) r r (.nilS [20,17,16,15,14,13,12,6,4,3,0] r r (.seq (.sr (.ks 1 r (.nilS [79,20,17,15,14,13,12,6,4,3,0] r r (.condP r hd (fun c4 hd=>?_) fun c4 hd=>?_))))))
     · refine .region (.ks 1 r (.loadW ia155 sz155 r (.s (.s (.s (.s .z)))) r r r (.loadW ia155 sz155 r .z r r r ?_)))
       have c6:=W_ref02_Add (I:=f) hd
       refine .callP call160 r c6 r r fun h8 c7=>?_
       obtain ⟨Y,rfl,hd⟩:=c7
       exact .storeA sz155 r r (.s (.s (.s (.s .z)))) (.t (.t .nil)) r r (.nilS [17,15,14,13,12,6,4,3,0] r r (.drop .z (.region (.ks 1 r (.nilS [16,17,15,14,13,12,6,4,3,0] r r (.region (.ks 3 r (.nil' fun c w ho hs=>⟨(Y.Hi,Y.Lo,true,w64 (u+1)),hd,f,a,ho.sub ⟨r,r,r,r,r,r,r,r,r,r,trivial⟩,hs.pick (.c .z (.c .z (.c .z (.c .z .n))))⟩))))))))
     refine .region (.loadW ia155 sz155 r .z r r r (.storeA sz155 r r (.s (.s (.s (.s .z)))) (.t (.t .nil)) r r (.nilS [17,15,14,13,12,6,4,3,0] r r (.drop .z (.region (.ks 1 r (.nilS [16,17,15,14,13,12,6,4,3,0] r r (.region (.ks 3 r ?_)))))))))
     exact .nil' fun c w ho hs=>⟨(X.Hi,X.Lo,true,w64 (u+1)),hd,f,a,ho.sub ⟨r,r,r,r,r,r,r,r,r,r,trivial⟩,hs.pick (.c .z (.c .z (.c .z (.c .z .n))))⟩
   refine .exitS [16,15,14,13,12,6,4,3,0] r r (.sr (.ks 1 r (.nilS [85,15,14,13,12,6,4,3,0] r r (.condP r hd (fun c9 hd=>?_) fun c9 hd=>?_))))
   · refine .region (.ks 2 r (.loadW ia155 sz155 r (.s (.s (.s .z))) r r r (.build zeroValue159 un159 BI159 (.c r r r (.t .nil) (.c r r r (.s (.t (.t .nil))) .n)) (by exact ⟨⟨_,_,r,r,r⟩,⟨⟨_,_,r,r,r⟩,trivial⟩⟩) r r (.buildSlice 1 un110 sz159 zeroValue159 r r (.c r r r .n) r r fun h9=>?_))))
     obtain ⟨d0,hd⟩:=hd
     refine .append (ys:=[({ At:=e,Val:=({ Hi:=p,Lo:=q }:Wide) }:Sum)]) 24 (.s (.s (.s .z))) un110 un110 IN159 r r r r r r r r r (.box .z (.one r) r) d0 r r fun i0 i1=>?_
     exact .ks 1 r (.nilS [13,14,12,6,4,3,0] r r (.drop (.s .z) (.drop (.s (.s (.s .z))) (.region (.ks 3 r (.nil' fun c w ho hs=>⟨((d++([({ At:=e,Val:=({ Hi:=p,Lo:=q }:Wide) }:Sum)])),w64 (e+1)),hd,f,_,_,F,ho.sub ⟨r,r,r,r,r,r,r,trivial⟩,hs.pick (.c (.s .z) (.c (.s .z) (.c .z .n)))⟩))))))
   exact .skipS [14,13,12,6,4,3,0] r r (.drop (.s (.s (.s .z))) (.region (.ks 3 r (.nil' fun c w ho hs=>⟨(d,w64 (e+1)),hd,f,_,_,F,ho.sub ⟨r,r,r,r,r,r,r,trivial⟩,hs.pick (.c .z (.c .z (.c .z .n)))⟩))))
 refine .exitS [13] r r (.drop .z (.drop .z (.sr (.ks 3 r (.nilS [11,10] r r (.pub .z fun i2 K d6=>?_))))))
 have d1:=IH.le.trans D K
 have g3:=IH.le.trans b K
 exact .ret (pret results143 (.t r (.t r .n)) d1 ⟨(d,0),_,_,r,d6,hd⟩)
theorem W_ref02_least {I:IH} {a0:Int} {Q:Bool→Prop}  (hd:ref02_least a0 Q) :
  PFun prog 199 [.int .i64 a0] I (fun _=>o2_ Q):=by
 refine Fun.enter func199 r ntmps199 r (.c .n) fun w0 M=>?_
 refine .sr (.ks 1 r (.nilS [0] r r (.sr (.ks 3 r ?_))))
 refine splitP hd (fun a hd=>?_) fun a hd=>?_
 · rw [a]
   exact .ks 8 r (.nilS [2] r r (.ret (pret results199 (.t r .n) (.refl _) ⟨true,r,hd⟩)))
 rw [a]
 refine .ks 4 r ?_
 refine splitP hd (fun b hd=>?_) fun b hd=>?_
 · rw [b]
   exact .ks 4 r (.nilS [2] r r (.ret (pret results199 (.t r .n) (.refl _) ⟨true,r,hd⟩)))
 rw [b]
 exact .ks 4 r (.nilS [2] r r (.ret (pret results199 (.t r .n) (.refl _) ⟨(a0==4),r,hd⟩)))
theorem W_ref02_Zero {I:IH} {a0:Int} {Q:Int→Prop}  (hd:ref02_Zero a0 Q) :
  PFun prog 180 [.int .i64 a0] I (fun _=>o0_ Q):=by
 refine Fun.enter func180 r ntmps180 r (.c .n) fun w0 M=>?_
 refine .sr (.ks 1 r (.nilS [0] r r (.seq (.sr (.ks 1 r ?_)))))
 have a:=W_ref02_least (I:=I) hd
 refine .callP call199 r a r r fun e b=>?_
 obtain ⟨f,rfl,hd⟩:=b
 refine .nilS [4] r r (.condP r hd (fun d hd=>?_) fun d hd=>?_)
 · exact .sr (.ks 1 r (.nilS [2] r r (.ret (pret results180 (.t r .n) (.refl _) ⟨4611686018427387904,r,hd⟩))))
 exact .skipS [] r r (.sr (.ks 1 r (.nilS [2] r r (.ret (pret results180 (.t r .n) (.refl _) ⟨0,r,hd⟩)))))
theorem W_ref13_Done {I:IH} {a0:Int} {a1:Int} {a2:List Sum} {p1:Option Addr} {c2:Nat} {Q:(Vec×Int)→Prop} (R3:RepSl eSum I p1 c2 a2) (hd:ref13_Done a0 a1 a2 Q) :
  PFun prog 144 [.int .i64 a0,.int .i64 a1,.slice p1 a2.length c2] I (o20_ Q):=by
 refine Fun.enter func144 r ntmps144 r (.c (.c (.c .n))) fun w0 M=>?_
 refine .sr (.allocA zv82 r r fun H=>?_)
 refine .ks 1 r (.nilS [6,2,1,0] r r (.seq (.sr (.ks 1 r ?_))))
 have c6:=W_ref02_Is (I:=I) hd
 refine .callP call157 r c6 r r fun g8 c7=>?_
 obtain ⟨g9,rfl,hd⟩:=c7
 refine .ks 1 r (.nilS [16,6,2,1,0] r r (.condP r hd (fun c8 hd=>?_) fun c8 hd=>?_))
 · exact .sr (.build zv82 un82 BI82 .n (by exact trivial) r r (.storeA sz82 r r .z (.t (.t .nil)) r r (.ks 1 r (.nilS [7,6] r r (.ret (pret results144 (.w ia82 sz82 r .z r (.t r .n)) (.refl _) ⟨(({ N:=0,Items:=([]:List Item) }:Vec),8),_,_,r,(.nil _ _ _),hd⟩))))))
 refine .skipS [6,2,1,0] r r (.seq (.sr (.ks 3 r ?_)))
 refine splitP hd (fun p hd=>?_) fun p hd=>?_
 · rw [p]
   exact .ks 3 r (.nilS [23,6,2,1,0] r r (.condKT r r (.sr (.build zv82 un82 BI82 .n (by exact trivial) r r (.storeA sz82 r r .z (.t (.t .nil)) r r (.ks 1 r (.nilS [7,6] r r (.ret (pret results144 (.w ia82 sz82 r .z r (.t r .n)) (.refl _) ⟨(({ N:=0,Items:=([]:List Item) }:Vec),3),_,_,r,(.nil _ _ _),hd⟩)))))))))
 rw [p]
 refine .ks 3 r (.nilS [23,6,2,1,0] r r (.condP r hd (fun c9 hd=>?_) fun c9 hd=>?_))
 · exact .sr (.build zv82 un82 BI82 .n (by exact trivial) r r (.storeA sz82 r r .z (.t (.t .nil)) r r (.ks 1 r (.nilS [7,6] r r (.ret (pret results144 (.w ia82 sz82 r .z r (.t r .n)) (.refl _) ⟨(({ N:=0,Items:=([]:List Item) }:Vec),3),_,_,r,(.nil _ _ _),hd⟩))))))
 refine .skipS [6,2,1,0] r r (.seq (.sr (.ks 1 r (.nilS [8,6,2,1,0] r r (.block (.loop hd (fun (h:Int) c w=>∃ I_,IH.le I I_∧Ok ⟨103,[],none⟩ [(0,.int .i64 a0),(1,.int .i64 a1),(2,.slice p1 a2.length c2),(6,.pointer (some ⟨H,0,none⟩)),(8,.int .i64 h)] c∧Sym w0 M I I_ [pto H (.cells #[.int .i64 0,.slice none 0 0] 82 (0,0))] w) (fun c w ho hs=>⟨I,(.refl _),ho.sub ⟨r,r,r,r,r,trivial⟩,hs.pick (.c .z .n)⟩) ?_))))))
 rintro h d7 hd c w hst
 obtain ⟨q,b,hok,hsym⟩:=hst
 replace R3:=R3.mono b
 refine Cod.at hok hsym (.seq (.sr (.ks 2 r (.len un110 r r r r (.ks 1 r (.nilS [28,8,6,2,1,0] r r (.condP r hd (fun V hd=>?_) fun V hd=>?_)))))))
 · refine .skipS [8,6,2,1,0] r r (.seq (.block (.sr (.ks 2 r ?_))))
   obtain ⟨J,f0,y,hd⟩:=hd
   obtain ⟨f1,o155,e1,d0,W,X⟩:=R3.2 _ _ y
   cases X
   refine .ixa un110 sz159 r d0 r J (idx_lt y J) r r (.fa un159 r sz3 r (o:=o155+h.toNat*3) r r r (.ld1 (j:=0) ia3 W r r r r r (.ks 2 r ?_)))
   refine splitP hd (fun k hd=>?_) fun k hd=>?_
   · rw [k]
     exact .ks 8 r (.nilS [45,8,6,2,1,0] r r (.condKT r r (.sr (.build zv82 un82 BI82 .n (by exact trivial) r r (.storeA sz82 r r .z (.t (.t .nil)) r r (.ks 1 r (.nilS [7,6] r r (.ret (pret results144 (.w ia82 sz82 r .z r (.t r .n)) b ⟨(({ N:=0,Items:=([]:List Item) }:Vec),3),_,_,r,(.nil _ _ _),hd⟩)))))))))
   rw [k]
   refine .ks 2 r ?_
   obtain ⟨K,f2,A,hd⟩:=hd
   obtain ⟨f3,o165,e3,d1,Y,Z⟩:=R3.2 _ _ A
   cases Z
   refine .gyes r r r (.ixa un110 sz159 r d1 r K (idx_lt A K) r r (.gyes r r r (.fa un159 r sz3 r (o:=o165+h.toNat*3) r r r (.gyes r r r (.ld1 (j:=0) ia3 Y r r r r r (.ks 3 r (.nilS [45,8,6,2,1,0] r r (.condP r hd (fun a3 hd=>?_) fun a3 hd=>?_))))))))
   · exact .sr (.build zv82 un82 BI82 .n (by exact trivial) r r (.storeA sz82 r r .z (.t (.t .nil)) r r (.ks 1 r (.nilS [7,6] r r (.ret (pret results144 (.w ia82 sz82 r .z r (.t r .n)) b ⟨(({ N:=0,Items:=([]:List Item) }:Vec),3),_,_,r,(.nil _ _ _),hd⟩))))))
   exact .skipS [8,6,2,1,0] r r (.region (.ks 3 r (.nil' fun c w ho hs=>⟨(w64 (h+1)),hd,q,b,ho.sub ⟨r,r,r,r,r,trivial⟩,hs.pick (.c .z .n)⟩)))
 refine .exitS [6,2,1,0] r r (.seq (.sr (.ks 1 r (.nilS [9,6,2,1,0] r r (.block (.loop hd (fun (i:Int) c w=>∃ I_,IH.le q I_∧Ok ⟨103,[],none⟩ [(0,.int .i64 a0),(1,.int .i64 a1),(2,.slice p1 a2.length c2),(6,.pointer (some ⟨H,0,none⟩)),(9,.int .i64 i)] c∧Sym w0 M I I_ [pto H (.cells #[.int .i64 0,.slice none 0 0] 82 (0,0))] w) (fun c w ho hs=>⟨q,(.refl _),ho.sub ⟨r,r,r,r,r,trivial⟩,hs.pick (.c .z .n)⟩) ?_))))))
 rintro i d8 hd c w hst
 obtain ⟨u,f,hok,hsym⟩:=hst
 have B:=IH.le.trans b f
 replace R3:=R3.mono f
 refine Cod.at hok hsym (.seq (.sr (.ks 2 r (.len un110 r r r r (.ks 1 r (.nilS [50,9,6,2,1,0] r r (.condP r hd (fun a4 hd=>?_) fun a4 hd=>?_)))))))
 · refine .skipS [9,6,2,1,0] r r (.seq (.block (.seq (.dr [0,1,2,3,4,5,6,7,8,9,10,11] 12 (.fk 2 r ?_)))))
   obtain ⟨L,f4,C,hd⟩:=hd
   obtain ⟨f5,o298,e4,d2,a5,a6⟩:=R3.2 _ _ C
   cases a6
   refine .g r r r (fun _=>.ixa un110 sz159 r d2 r L (idx_lt C L) r r .mk) (.g r r r (fun _=>.fa un159 r sz3 r (o:=o298+i.toNat*3) r r r .mk) (.g r r r (fun _=>.ld1 (j:=0) ia3 a5 r r r r r .mk) (.fk 3 r ?_)))
   obtain ⟨O,f6,D,hd⟩:=hd
   obtain ⟨f7,o307,e5,d3,a7,a8⟩:=R3.2 _ _ D
   cases a8
   refine .g r r r (fun _=>.ixa un110 sz159 r d3 r O (idx_lt D O) r r .mk) (.g r r r (fun _=>.fa un159 r sz3 r (o:=o307+(w64 (i - 1)).toNat*3) r r r .mk) (.g r r r (fun _=>.ld1 (j:=0) ia3 a7 r r r r r .mk) (.fk 1 r (.e2 12 (.nilS [64,9,6,2,1,0] r r (.condP r hd (fun a9 hd=>?_) fun a9 hd=>?_))))))
   · exact .sr (.build zv82 un82 BI82 .n (by exact trivial) r r (.storeA sz82 r r .z (.t (.t .nil)) r r (.ks 1 r (.nilS [7,6] r r (.ret (pret results144 (.w ia82 sz82 r .z r (.t r .n)) B ⟨(({ N:=0,Items:=([]:List Item) }:Vec),6),_,_,r,(.nil _ _ _),hd⟩))))))
   exact .skipS [9,6,2,1,0] r r (.region (.ks 3 r (.nil' fun c w ho hs=>⟨(w64 (i+1)),hd,u,f,ho.sub ⟨r,r,r,r,r,trivial⟩,hs.pick (.c .z .n)⟩)))
 refine .exitS [6,2,1,0] r r (.sr (.ks 1 r (.build zv82 un82 BI82 (.c r r r (.t .nil) .n) (by exact ⟨⟨_,_,r,r,r⟩,trivial⟩) r r (.allocA zv82 r r fun P=>?_))))
 refine .storeA sz82 r r .z (.t (.t .nil)) r r (.nilS [10,6,2,0] r r (.seq (.sr (.ks 1 r (.nilS [11,10,6,2,0] r r (.block (.own0 eItem 119 (.loop hd (fun (s:(List Item)×Int) c w=>match s with | (d,e)=>∃ I_ v x,IH.le u I_∧Ok ⟨103,[],none⟩ [(0,.int .i64 a0),(2,.slice p1 a2.length c2),(6,.pointer (some ⟨H,0,none⟩)),(10,.pointer (some ⟨P,0,none⟩)),(11,.int .i64 e)] c∧Sym w0 M I I_ [pto H (.cells #[.int .i64 0,.slice none 0 0] 82 (0,0)),pto P (.cells #[.int .i64 a1,.slice v d.length x] 82 (0,0)),OwnSl eItem 119 v x d] w) (fun c w ho hs=>⟨u,_,_,(.refl _),ho.sub ⟨r,r,r,r,r,trivial⟩,hs.pick (.c (.s (.s .z)) (.c (.s .z) (.c .z .n)))⟩) ?_))))))))
 rintro ⟨d,e⟩ d9 hd c w hst
 obtain ⟨l,v,x,a,hok,hsym⟩:=hst
 have E:=IH.le.trans B a
 have b0:=IH.le.trans f a
 replace R3:=R3.mono a
 refine Cod.at hok hsym (.seq (.sr (.ks 2 r (.len un110 r r r r (.ks 1 r (.nilS [71,11,10,6,2,0] r r (.condP r hd (fun b1 hd=>?_) fun b1 hd=>?_)))))))
 · refine .skipS [11,10,6,2,0] r r (.seq (.block (.sr (.ks 2 r ?_))))
   obtain ⟨R,f8,F,hd⟩:=hd
   obtain ⟨f9,o472,e6,d4,b2,b3⟩:=R3.2 _ _ F
   cases b3
   refine .ixa un110 sz159 r d4 r R (idx_lt F R) r r (.fa un159 r sz155 r (o:=o472+e.toNat*3+1) r r r (.ldA (j:=1) ia155 sz155 b2 r r (.s (.t (.t .nil))) r r r ?_))
   have b4:=W_ref01_Narrow (I:=l) hd
   refine .callP call161 r b4 r r fun g0 b5=>?_
   obtain ⟨S,rfl,hd⟩:=b5
   refine .ks 5 r (.nilS [13,12,11,10,6,2,0] r r (.seq (.sr (.ks 2 r (.nilS [84,12,11,10,6,2,0] r r (.condP r hd (fun b6 hd=>?_) fun b6 hd=>?_))))))
   · exact .sr (.build zv82 un82 BI82 .n (by exact trivial) r r (.storeA sz82 r r .z (.t (.t .nil)) r r (.ks 1 r (.nilS [7,6] r r (.drop (.s .z) (.drop (.s .z) (.ret (pret results144 (.w ia82 sz82 r .z r (.t r .n)) E ⟨(({ N:=0,Items:=([]:List Item) }:Vec),12),_,_,r,(.nil _ _ _),hd⟩))))))))
   refine .skipS [12,11,10,6,2,0] r r (.sr (.ks 2 r ?_))
   have b7:=W_ref02_Zero (I:=l) hd
   refine .callP call180 r b7 r r fun g1 b8=>?_
   obtain ⟨g2,rfl,hd⟩:=b8
   refine .ks 1 r (.nilS [89,12,11,10,6,2,0] r r (.condP r hd (fun c0 hd=>?_) fun c0 hd=>?_))
   · refine .ownF (.s (.s .z)) fun e0=>?_
     refine .dr [0,1,2,3,4,5,6,7,8,9,10] 11 (.g r r r (fun _=>.fa un82 r sz80 r (o:=1) r r r .mk) (.g r r r (fun _=>.load1 ia80 r (.s .z) r r r .mk) (.fk 2 r ?_)))
     obtain ⟨T,U,G,hd⟩:=hd
     obtain ⟨g3,o497,e7,d5,c1,c3⟩:=R3.2 _ _ G
     cases c3
     refine .g r r r (fun _=>.ixa un110 sz159 r d5 r T (idx_lt G T) r r .mk) (.g r r r (fun _=>.fa un159 r sz3 r (o:=o497+e.toNat*3) r r r .mk) (.g r r r (fun _=>.ld1 (j:=0) ia3 c1 r r r r r .mk) (.fk 1 r (.g r r r (fun _=>.build zv119 un119 BI119 (.c r r r (.t .nil) (.c r r r (.s (.t .nil)) .n)) (by exact ⟨⟨_,_,r,r,r⟩,⟨⟨_,_,r,r,r⟩,trivial⟩⟩) r r .mk) (.ww r fun ex=>?_)))))
     refine .buildSlice 1 un80 sz119 zv119 r r (.c r r r .n) r r fun g4=>?_
     refine .so 4 r r r (.cg r r r r (fun _=>.load1 ia80 r (.s (.s .z)) r r r .mk) (.cg r r r r (fun _=>.fa un82 r sz80 r (o:=1) r r r .mk) trivial)) (.ww r fun ex=>?_)
     obtain ⟨c4,hd⟩:=hd
     refine .append (ys:=[({ At:=U.At,Val:=S.1 }:Item)]) 16 (.s (.s (.s .z))) un80 un80 IN119 r r r r r r r r r (.box .z (.one r) r) c4 r r fun g5 g6=>?_
     exact .so 4 r r r trivial (.e2 11 (.fa un82 r sz80 r (o:=1) r r r (.store1 sz80 r r (.s (.s (.s .z))) (.s (.t .nil)) r (.nilS [11,10,6,2,0] r r (.drop (.s .z) (.region (.ks 3 r (.nil' fun c w ho hs=>⟨((d++([({ At:=U.At,Val:=S.1 }:Item)])),w64 (e+1)),hd,l,_,_,a,ho.sub ⟨r,r,r,r,r,trivial⟩,hs.pick (.c (.s .z) (.c (.s .z) (.c .z .n)))⟩))))))))
   exact .skipS [11,10,6,2,0] r r (.region (.ks 3 r (.nil' fun c w ho hs=>⟨(d,w64 (e+1)),hd,l,_,_,a,ho.sub ⟨r,r,r,r,r,trivial⟩,hs.pick (.c .z (.c .z (.c .z .n)))⟩)))
 refine .exitS [10,6] r r (.sr (.loadW ia82 sz82 r (.s .z) r r r (.storeA sz82 r r .z (.t (.t .nil)) r r (.ks 1 r (.nilS [7,6] r r (.drop (.s .z) (.pub (.s .z) fun g7 m d6=>?_)))))))
 have c5:=IH.le.trans E m
 have e8:=IH.le.trans b0 m
 have e9:=IH.le.trans a m
 exact .ret (pret results144 (.w ia82 sz82 r .z r (.t r .n)) c5 ⟨(({ N:=a1,Items:=d }:Vec),0),_,_,r,d6,hd⟩)
theorem W_ref13_Times {I:IH} {a0:Int} {a1:Rows} {a2:Dense} {a3:List Int} {a4:Bool} {p1:Option Addr} {c2:Nat} {p4:Option Addr} {c5:Nat} {p7:Option Addr} {c8:Nat} {p10:Option Addr} {c11:Nat} {p13:Option Addr} {c14:Nat} {p16:Option Addr} {c17:Nat} {Q:(Vec×Int)→Prop} (R3:RepSl eI64 I p1 c2 a1.Start) (R6:RepSl eI64 I p4 c5 a1.Col) (R9:RepSl eI64 I p7 c8 a1.Val) (R12:RepSl eU64 I p10 c11 a2.Has) (R15:RepSl eI64 I p13 c14 a2.Vals) (R18:RepSl eU64 I p16 c17 a3) (hd:ref13_Times a0 a1 a2 a3 a4 Q) :
  PFun prog 93 [.int .i64 a0,.agg #[.int .i64 a1.Rows,.int .i64 a1.Cols,.slice p1 a1.Start.length c2,.slice p4 a1.Col.length c5,.slice p7 a1.Val.length c8],.agg #[.int .i64 a2.N,.slice p10 a2.Has.length c11,.slice p13 a2.Vals.length c14],.slice p16 a3.length c17,.bool a4] I (o21_ Q):=by
 refine Fun.enter func93 r ntmps93 r (.c (.c (.c (.c (.c .n))))) fun w0 M=>?_
 refine .sr (.boxA r r r fun C=>?_)
 refine .boxA r r r fun D=>?_
 refine .allocA zv82 r r fun E=>?_
 refine .ks 1 r (.nilS [10,7,6,4,3,0] r r (.sr (.ks 1 r (.loadW ia53 sz53 r (.s (.s .z)) r r r (.loadW ia88 sz88 r (.s .z) r r r (.ks 2 r ?_))))))
 have j:=W_ref13_Sums (I:=I) R3 R6 R9 R12 R15 R18 hd
 refine .call call143 r j r r fun F x a k=>?_
 obtain ⟨y,G,H,rfl,e,hd⟩:=k
 replace R3:=R3.mono a
 replace R6:=R6.mono a
 replace R9:=R9.mono a
 replace R12:=R12.mono a
 replace R15:=R15.mono a
 replace R18:=R18.mono a
 refine .ks 5 r (.nilS [13,12,10,6,0] r r (.drop (.s .z) (.seq (.sr (.ks 2 r (.nilS [24,13,12,10,6,0] r r (.condP r hd (fun l hd=>?_) fun l hd=>?_)))))))
 · exact .sr (.build zv82 un82 BI82 .n (by exact trivial) r r (.ks 1 r (.storeA sz82 r r .z (.t (.t .nil)) r r (.ks 1 r (.nilS [11,10] r r (.drop (.s .z) (.ret (pret results93 (.w ia82 sz82 r .z r (.t r .n)) a ⟨(({ N:=0,Items:=([]:List Item) }:Vec),y.2),_,_,r,(.nil _ _ _),hd⟩))))))))
 refine .skipS [12,10,6,0] r r (.sr (.ks 1 r (.loadW ia53 sz53 r (.s .z) r r r ?_)))
 have m:=W_ref07_Sure (I:=x) R3 R6 R9 hd
 refine .call call91 r m r r fun J A d o=>?_
 obtain ⟨K,L,O,P,R,S,T,rfl,f,g,h,hd⟩:=o
 have p:=IH.le.trans a d
 replace R3:=R3.mono d
 replace R6:=R6.mono d
 replace R9:=R9.mono d
 replace e:=e.mono d
 refine .field1 un53 r ia3 r r r r (.ks 1 r ?_)
 have q:=W_ref13_Done (I:=A) e hd
 refine .call call144 r q r r fun U V b u=>?_
 obtain ⟨i,W,X,rfl,B,hd⟩:=u
 have v:=IH.le.trans p b
 replace R3:=R3.mono b
 replace R6:=R6.mono b
 replace R9:=R9.mono b
 replace e:=e.mono b
 replace f:=f.mono b
 replace g:=g.mono b
 replace h:=h.mono b
 exact .ks 2 r (.storeA sz82 r r .z (.t (.t .nil)) r r (.ks 1 r (.nilS [11,10] r r (.drop (.s .z) (.ret (pret results93 (.w ia82 sz82 r .z r (.t r .n)) v ⟨(i.1,i.2),_,_,r,B,hd⟩))))))
theorem W_ref21_Ring {I:IH} {a0:Int} {a1:Int} {Q:Int→Prop}  (hd:ref21_Ring a0 a1 Q) :
  PFun prog 94 [.int .i64 a0,.int .i64 a1] I (fun _=>o0_ Q):=by
 refine Fun.enter func94 r ntmps94 r (.c (.c .n)) fun w0 M=>?_
 refine .sr (.ks 1 r (.nilS [1,0] r r (.sr (.ks 1 r (.nilS [5,1] r r (.block (.seq ?_)))))))
 refine Cod.joinQ (σ:=Bool) hd (fun (f:Bool) c w=>∃ I_,IH.le I I_∧Ok ⟨18,[],none⟩ [(1,.int .i64 a1),(5,.int .i64 a0),(6,.bool f)] c∧Sym w0 M I I_ [] w) (fun j hd=>?_) ?_
 · skip
   refine .sr (.ks 2 r (.nilS [6,5,1] r r (.condP r hd (fun g hd=>?_) fun g hd=>?_)))
   · exact .skip' fun c w ho hs=>⟨(a0==1),hd,I,(.refl _),ho.sub ⟨r,r,r,trivial⟩,hs.pick .n⟩
   exact .region (.ks 2 r (.nil' fun c w ho hs=>⟨(a0==3),hd,I,(.refl _),ho.sub ⟨r,r,r,trivial⟩,hs.pick .n⟩))
 rintro f hd c w hst
 obtain ⟨k,a,hok,hsym⟩:=hst
 refine Cod.at hok hsym (.condP r hd (fun h hd=>?_) fun h hd=>?_)
 · exact .sr (.ks 1 r (.nilS [4] r r (.ret (pret results94 (.t r .n) a ⟨4,r,hd⟩))))
 refine .sr (.ks 2 r (.nilS [9,5,1] r r (.condP r hd (fun i hd=>?_) fun i hd=>?_)))
 · exact .sr (.ks 1 r (.nilS [4] r r (.ret (pret results94 (.t r .n) a ⟨1,r,hd⟩))))
 refine .sr (.ks 2 r (.nilS [11,5,1] r r (.condP r hd (fun b hd=>?_) fun b hd=>?_)))
 · exact .sr (.ks 1 r (.nilS [4] r r (.ret (pret results94 (.t r .n) a ⟨5,r,hd⟩))))
 refine .sr (.ks 2 r (.nilS [13,1] r r (.condP r hd (fun d hd=>?_) fun d hd=>?_)))
 · refine .seq (.sr (.ks 1 r (.rem r r (by decide) r r (.ks 1 r (.nilS [17] r r (.condP r hd (fun e hd=>?_) fun e hd=>?_))))))
   · exact .sr (.ks 1 r (.nilS [4] r r (.ret (pret results94 (.t r .n) a ⟨2,r,hd⟩))))
   exact .skipS [] r r (.sr (.ks 1 r (.nilS [4] r r (.ret (pret results94 (.t r .n) a ⟨4,r,hd⟩)))))
 exact .sr (.ks 1 r (.nilS [4] r r (.ret (pret results94 (.t r .n) a ⟨0,r,hd⟩))))
theorem W_ref10_New {I:IH} {a0:Int} {Q:Dense→Prop}  (hd:ref10_New a0 Q) :
  OFun prog 146 [.int .i64 a0] I (o22_ Q):=by
 refine Fun.enter func146 r ntmps146 r (.c .n) fun w0 M=>?_
 refine .sr (.allocA zv88 r r fun b9=>?_)
 refine .nilS [2,0] r r (.seq (.sr (.ks 3 r ?_)))
 refine splitP hd (fun d hd=>?_) fun d hd=>?_
 · rw [d]
   refine .ks 3 r (.nilS [8,2,0] r r (.condKT r r (.region (.ks 1 r (.nilS [0,2] r r (.seq (.dr [0,1,3,4,2,999,5] 6 (.fk 3 r ?_))))))))
   obtain ⟨q,u,hd⟩:=hd
   refine .a (fun b=>.slice (some ⟨b,0,none⟩) (List.replicate (Int.toNat 0) (0:Int)).length (Int.toNat 0)) (fun b=>OwnSl eI64 2 (some ⟨b,0,none⟩) (Int.toNat 0) (List.replicate (Int.toNat 0) (0:Int))) r r r r (fun _ L hL ex=>.make (El:=eI64) (zv:=0) 8 un23 IN2 r r r r r r q u r r r fun b=>.mk (val:=fun b=>.slice (some ⟨b,0,none⟩) (List.replicate (Int.toNat 0) (0:Int)).length (Int.toNat 0)) (atom:=fun b=>OwnSl eI64 2 (some ⟨b,0,none⟩) (Int.toNat 0) (List.replicate (Int.toNat 0) (0:Int))) hL b) (.ww r fun ex=>?_)
   have e:=W_ref03_New (I:=I) hd
   refine .call call139 r e r r fun H J f h=>?_
   obtain ⟨v,K,O,rfl,x,hd⟩:=h
   exact .so 1 r r r (.ck 2 r r trivial) (.b r fun P=>DrawD.nop (.g r r r (fun _=>.build zv88 un88 BI88 (.c r r r (.t .nil) (.c r r r (.s (.t .nil)) (.c r r r (.s (.s (.t .nil))) .n))) (by exact ⟨⟨_,_,r,r,r⟩,⟨⟨_,_,r,r,r⟩,⟨⟨_,_,r,r,r⟩,trivial⟩⟩⟩) r r .mk) (.e2 6 (.storeA sz88 r r .z (.t (.t (.t .nil))) r r (.nilS [2] r r (.ret (oret results146 (.w ia88 sz88 r .z r .n) f (.c (.s .z) .n) ⟨({ N:=0,Has:=v,Vals:=(List.replicate (Int.toNat 0) (0:Int)) }:Dense),_,_,_,_,r,x,r,hd⟩)))))))
 rw [d]
 refine .ks 3 r (.nilS [8,2,0] r r (.condP r hd (fun i hd=>?_) fun i hd=>?_))
 · refine .region (.ks 1 r (.nilS [0,2] r r (.seq (.dr [0,1,3,4,2,999,5] 6 (.fk 3 r ?_)))))
   obtain ⟨y,A,hd⟩:=hd
   refine .a (fun b=>.slice (some ⟨b,0,none⟩) (List.replicate (Int.toNat 0) (0:Int)).length (Int.toNat 0)) (fun b=>OwnSl eI64 2 (some ⟨b,0,none⟩) (Int.toNat 0) (List.replicate (Int.toNat 0) (0:Int))) r r r r (fun _ L hL ex=>.make (El:=eI64) (zv:=0) 8 un23 IN2 r r r r r r y A r r r fun b=>.mk (val:=fun b=>.slice (some ⟨b,0,none⟩) (List.replicate (Int.toNat 0) (0:Int)).length (Int.toNat 0)) (atom:=fun b=>OwnSl eI64 2 (some ⟨b,0,none⟩) (Int.toNat 0) (List.replicate (Int.toNat 0) (0:Int))) hL b) (.ww r fun ex=>?_)
   have j:=W_ref03_New (I:=I) hd
   refine .call call139 r j r r fun R S k l=>?_
   obtain ⟨B,T,U,rfl,C,hd⟩:=l
   exact .so 1 r r r (.ck 2 r r trivial) (.b r fun V=>DrawD.nop (.g r r r (fun _=>.build zv88 un88 BI88 (.c r r r (.t .nil) (.c r r r (.s (.t .nil)) (.c r r r (.s (.s (.t .nil))) .n))) (by exact ⟨⟨_,_,r,r,r⟩,⟨⟨_,_,r,r,r⟩,⟨⟨_,_,r,r,r⟩,trivial⟩⟩⟩) r r .mk) (.e2 6 (.storeA sz88 r r .z (.t (.t (.t .nil))) r r (.nilS [2] r r (.ret (oret results146 (.w ia88 sz88 r .z r .n) k (.c (.s .z) .n) ⟨({ N:=0,Has:=B,Vals:=(List.replicate (Int.toNat 0) (0:Int)) }:Dense),_,_,_,_,r,C,r,hd⟩)))))))
 refine .skipS [2,0] r r (.seq (.dr [0,1,3,4,2,999,5] 6 (.fk 3 r ?_)))
 obtain ⟨D,E,hd⟩:=hd
 refine .a (fun b=>.slice (some ⟨b,0,none⟩) (List.replicate a0.toNat (0:Int)).length a0.toNat) (fun b=>OwnSl eI64 2 (some ⟨b,0,none⟩) a0.toNat (List.replicate a0.toNat (0:Int))) r r r r (fun _ L hL ex=>.make (El:=eI64) (zv:=0) 8 un23 IN2 r r r r r r D E r r r fun b=>.mk (val:=fun b=>.slice (some ⟨b,0,none⟩) (List.replicate a0.toNat (0:Int)).length a0.toNat) (atom:=fun b=>OwnSl eI64 2 (some ⟨b,0,none⟩) a0.toNat (List.replicate a0.toNat (0:Int))) hL b) (.ww r fun ex=>?_)
 have m:=W_ref03_New (I:=I) hd
 refine .call call139 r m r r fun W X o p=>?_
 obtain ⟨F,Y,Z,rfl,G,hd⟩:=p
 exact .so 1 r r r (.ck 2 r r trivial) (.b r fun a1=>DrawD.nop (.g r r r (fun _=>.build zv88 un88 BI88 (.c r r r (.t .nil) (.c r r r (.s (.t .nil)) (.c r r r (.s (.s (.t .nil))) .n))) (by exact ⟨⟨_,_,r,r,r⟩,⟨⟨_,_,r,r,r⟩,⟨⟨_,_,r,r,r⟩,trivial⟩⟩⟩) r r .mk) (.e2 6 (.storeA sz88 r r .z (.t (.t (.t .nil))) r r (.nilS [2] r r (.ret (oret results146 (.w ia88 sz88 r .z r .n) o (.c (.s .z) .n) ⟨({ N:=a0,Has:=F,Vals:=(List.replicate a0.toNat (0:Int)) }:Dense),_,_,_,_,r,G,r,hd⟩)))))))
end Go.Proofs.YtccpfgdefibdnaaGreat
