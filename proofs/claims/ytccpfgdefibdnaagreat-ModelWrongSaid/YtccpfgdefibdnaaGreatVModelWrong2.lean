/- The walks (printed by a program of ours). -/
import Derived.Test.YtccpfgdefibdnaaGreatVModelWrong1
namespace Go.Proofs.YtccpfgdefibdnaaGreat
open Go Go.Fw
set_option linter.unusedVariables false
set_option linter.unusedSimpArgs false
set_option maxRecDepth 8000
set_option maxHeartbeats 1000000
open Tryz
theorem W_ref10_Of {I:IH} {a0:Vec} {p1:Option Addr} {c2:Nat} {Q:Dense→Prop} (R3:RepSl eItem I p1 c2 a0.Items) (hd:ref10_Of a0 Q) :
  PFun prog 95 [.agg #[.int .i64 a0.N,.slice p1 a0.Items.length c2]] I (o23_ Q):=by
 refine Fun.enter func95 r ntmps95 r (.c .n) fun w0 M=>?_
 refine .sr (.boxA r r r fun b2=>?_)
 refine .allocA zv88 r r fun b3=>?_
 refine .nilS [2,1] r r (.sr (.loadW ia82 sz82 r (.s .z) r r r ?_))
 have b8:=W_ref09_Sure (I:=I) R3 hd
 refine .call call145 r b8 r r fun f4 d3 H b9=>?_
 obtain ⟨b4,d4,d5,rfl,a,hd⟩:=b9
 replace R3:=R3.mono H
 refine .storeA sz82 r r (.s .z) (.t (.t .nil)) r r (.nilS [2,1] r r (.sr (.fa un82 r sz3 r (o:=0) r r r (.load1 ia3 r (.s .z) r r r ?_))))
 have c0:=W_ref10_New (I:=d3) hd
 refine .callO call146 r c0 r r fun f5 b5 f6 J c1=>?_
 obtain ⟨u,b6,b7,f7,f8,rfl,k,rfl,hd⟩:=c1
 have c3:=IH.le.trans H J
 replace a:=a.mono J
 refine .allocA zv88 r r fun K=>?_
 refine .storeA sz88 r r .z (.t (.t (.t .nil))) r r (.nilS [3,2,1] r r (.sr (.ks 1 r (.nilS [4,3,2,1] r r (.seq (.sr (.ks 1 r (.nilS [5,4,3,2,1] r r (.block ?_)))))))))
 refine .own0 eI64 3 (.loop hd (fun (s:(List Int)×(List Int)×Int) c w=>match s with | (b,l,f)=>∃ I_ v i x y,IH.le b5 I_∧Ok ⟨48,[],none⟩ [(1,.pointer (some ⟨b2,0,none⟩)),(2,.pointer (some ⟨b3,0,none⟩)),(3,.pointer (some ⟨K,0,none⟩)),(4,.slice x l.length y),(5,.int .i64 f)] c∧Sym w0 M I I_ [pto b2 (.cells #[.int .i64 b4.N,.slice d4 b4.Items.length d5] 82 (0,0)),pto b3 (.cells #[.int .i64 0,.slice none 0 0,.slice none 0 0] 88 (0,0)),pto K (.cells #[.int .i64 u.N,.slice b6 u.Has.length b7,.slice v b.length i] 88 (0,0)),OwnSl eI64 2 v i b,OwnSl eI64 3 x y l] w) (fun c w ho hs=>⟨b5,_,_,_,_,(.refl _),ho.sub ⟨r,r,r,r,r,trivial⟩,hs.pick (.c (.s (.s (.s (.s .z)))) (.c (.s (.s (.s .z))) (.c (.s .z) (.c (.s .z) (.c .z .n)))))⟩) ?_)
 rintro ⟨b,l,f⟩ d2 hd c w hst
 obtain ⟨c4,v,i,x,y,d,hok,hsym⟩:=hst
 have V:=IH.le.trans c3 d
 replace a:=a.mono d
 replace k:=k.mono d
 refine Cod.at hok hsym (.seq (.sr (.ks 1 r (.fa un82 r sz80 r (o:=1) r r r (.load1 ia80 r .z r r r (.len un80 r r r r (.ks 1 r (.nilS [15,5,4,3,2,1] r r (.condP r hd (fun W hd=>?_) fun W hd=>?_)))))))))
 · refine .skipS [5,4,3,2,1] r r (.seq (.block (.sr (.ks 1 r (.fa un82 r sz80 r (o:=1) r r r (.load1 ia80 r .z r r r (.ks 1 r ?_)))))))
   obtain ⟨L,O,E,hd⟩:=hd
   obtain ⟨e1,o464,d7,c5,X,Y⟩:=a.2 _ _ E
   cases Y
   refine .ixa un80 sz119 r c5 r L (idx_lt E L) r r (.fa un119 r sz3 r (o:=o464+f.toNat*2) r r r (.ld1 (j:=0) ia3 X r r r r r (.buildSlice 1 un51 sz3 zv3 r r (.c r r r .n) r r fun e3=>?_)))
   obtain ⟨Z,hd⟩:=hd
   refine .append (ys:=[O.At]) 8 (.s (.s (.s (.s (.s .z))))) un51 un51 IN3 r r r r r r r r r (.box .z (.one r) r) Z r r fun e4 e5=>?_
   refine .ks 1 r (.nilS [4,5,3,2,1] r r (.drop (.s .z) (.ownF .z fun d6=>?_)))
   refine .ownF (.s (.s (.s (.s .z)))) fun P=>?_
   refine .dr [0,1,2,3,4,5,6,7,8,9,10,11,12,13] 14 (.g r r r (fun _=>.fa un88 r sz23 r (o:=2) r r r .mk) (.g r r r (fun _=>.load1 ia23 r (.s (.s (.s .z))) r r r .mk) (.g r r r (fun _=>.fa un82 r sz80 r (o:=1) r r r .mk) (.g r r r (fun _=>.load1 ia80 r (.s .z) r r r .mk) (.fk 1 r ?_)))))
   obtain ⟨R,A,F,hd⟩:=hd
   obtain ⟨e6,o481,d8,c6,a1,a2⟩:=a.2 _ _ F
   cases a2
   refine .g r r r (fun _=>.ixa un80 sz119 r c6 r R (idx_lt F R) r r .mk) (.g r r r (fun _=>.fa un119 r sz3 r (o:=o481+f.toNat*2) r r r .mk) (.g r r r (fun _=>.ld1 (j:=0) ia3 a1 r r r r r .mk) (.g r r r (fun _=>.fa un82 r sz80 r (o:=1) r r r .mk) (.g r r r (fun _=>.load1 ia80 r (.s .z) r r r .mk) (.fk 1 r ?_)))))
   obtain ⟨S,m,G,hd⟩:=hd
   obtain ⟨e7,o490,d9,c7,a3,a4⟩:=a.2 _ _ G
   cases a4
   refine .g r r r (fun _=>.ixa un80 sz119 r c7 r S (idx_lt G S) r r .mk) (.g r r r (fun _=>.fa un119 r sz2 r (o:=o490+f.toNat*2+1) r r r .mk) (.g r r r (fun _=>.ld1 (j:=1) ia2 a3 r r r r r .mk) (.e2 14 ?_)))
   obtain ⟨T,e8,p,hd⟩:=hd
   obtain ⟨U,c8⟩:=P (idx_ne p)
   cases c8
   exact .ixa0 un23 sz2 r r T (idx_lt p T) r r (.stO1 (j:=0) (v':=m.Val) sz2 (.s (.s (.s (.s .z)))) p r r r (.t .nil) r (.sub (E':=[(1,_),(2,_),(3,_),(5,_),(4,_),(27,_),(28,.slice (some ⟨U,0,none⟩) (b.set A.At.toNat m.Val).length i),(29,_),(30,_),(31,_),(32,_),(33,_),(34,_),(35,_),(36,_),(37,_),(38,_),(39,_),(40,_),(41,_)]) ⟨r,r,r,r,r,r,(by simp only [List.length_set]; rfl),r,r,r,r,r,r,r,r,r,r,r,r,r,trivial⟩ (.reat (.s (.s (.s .z))) (B:=pto K (.cells #[.int .i64 u.N,.slice b6 u.Has.length b7,.slice (some ⟨U,0,none⟩) (b.set A.At.toNat m.Val).length i] 88 (0,0))) (by simp only [List.length_set]) (.nilS [4,5,3,2,1] r r (.region (.ks 3 r (.nil' fun c w ho hs=>⟨((b.set A.At.toNat m.Val),(l++([O.At])),w64 (f+1)),hd,c4,_,_,_,_,d,ho.sub ⟨r,r,r,r,r,trivial⟩,hs.pick (.c (.s .z) (.c (.s .z) (.c (.s .z) (.c (.s .z) (.c .z .n)))))⟩)))))))
 refine .exitS [4,3,2,1] r r (.sr (.fa un82 r sz3 r (o:=0) r r r (.load1 ia3 r .z r r r (.ks 1 r (.pub (.s (.s (.s (.s .z)))) fun c9 h C=>?_)))))
 have a5:=IH.le.trans V h
 have a6:=IH.le.trans d h
 replace a:=a.mono h
 replace k:=k.mono h
 have a7:=W_ref03_Of (I:=c9) C hd
 refine .call call88 r a7 r r fun e9 f0 e a8=>?_
 obtain ⟨d0,f1,f2,rfl,D,hd⟩:=a8
 have a9:=IH.le.trans a5 e
 have b0:=IH.le.trans a6 e
 replace a:=a.mono e
 replace k:=k.mono e
 replace C:=C.mono e
 refine .fa un88 r sz34 r (o:=1) r r r (.store1 sz34 r r (.s (.s .z)) (.s (.t .nil)) r (.nilS [3,2] r r (.drop .z (.sr (.loadW ia88 sz88 r (.s .z) r r r (.storeA sz88 r r .z (.t (.t (.t .nil))) r r (.nilS [2] r r (.drop (.s .z) (.pub (.s .z) fun f3 q d1=>?_)))))))))
 have b1:=IH.le.trans a9 q
 have e0:=IH.le.trans b0 q
 replace D:=D.mono q
 exact .ret (pret results95 (.w ia88 sz88 r .z r .n) b1 ⟨({ N:=u.N,Has:=d0,Vals:=b }:Dense),_,_,_,_,r,D,d1,hd⟩)
theorem W_ref21_Draw {I:IH} {a0:Plan} {a1:Int} {a2:Int} {p1:Option Addr} {c2:Nat} {Q:Int→Prop} (R3:RepSl eI64 I p1 c2 a0.Draws) (hd:ref21_Draw a0 a1 a2 Q) :
  PFun prog 150 [.agg #[.int .i64 a0.Kind,.int .i64 a0.N,.int .i64 a0.Source,.int .i64 a0.Length,.slice p1 a0.Draws.length c2],.int .i64 a1,.int .i64 a2] I (fun _=>o0_ Q):=by
 refine Fun.enter func150 r ntmps150 r (.c (.c (.c .n))) fun w0 M=>?_
 refine .sr (.boxA r r r fun B=>?_)
 refine .ks 1 r (.nilS [3,2,1] r r (.seq (.sr (.loadW ia25 sz25 r .z r r r ?_))))
 have i:=W_ref21_Right (I:=I) R3 hd
 refine .callP call30 r i r r fun x k=>?_
 obtain ⟨y,rfl,hd⟩:=k
 refine .ks 2 r ?_
 refine splitP hd (fun a hd=>?_) fun a hd=>?_
 · rw [a]
   exact .ks 17 r (.nilS [29,3,2,1] r r (.condKT r r (.sr (.ks 1 r (.nilS [6] r r (.drop .z (.ret (pret results150 (.t r .n) (.refl _) ⟨0,r,hd⟩))))))))
 rw [a]
 refine .ks 4 r ?_
 refine splitP hd (fun b hd=>?_) fun b hd=>?_
 · rw [b]
   exact .ks 13 r (.nilS [29,3,2,1] r r (.condKT r r (.sr (.ks 1 r (.nilS [6] r r (.drop .z (.ret (pret results150 (.t r .n) (.refl _) ⟨0,r,hd⟩))))))))
 rw [b]
 refine .ks 4 r ?_
 refine splitP hd (fun d hd=>?_) fun d hd=>?_
 · rw [d]
   exact .ks 9 r (.nilS [29,3,2,1] r r (.condKT r r (.sr (.ks 1 r (.nilS [6] r r (.drop .z (.ret (pret results150 (.t r .n) (.refl _) ⟨0,r,hd⟩))))))))
 rw [d]
 refine .ks 4 r ?_
 refine splitP hd (fun e hd=>?_) fun e hd=>?_
 · rw [e]
   exact .ks 5 r (.nilS [29,3,2,1] r r (.condKT r r (.sr (.ks 1 r (.nilS [6] r r (.drop .z (.ret (pret results150 (.t r .n) (.refl _) ⟨0,r,hd⟩))))))))
 rw [e]
 refine .ks 1 r (.gyes r r r (.fa un25 r sz3 r (o:=1) r r r (.gyes r r r (.load1 ia3 r .z r r r (.ks 2 r (.nilS [29,3,2,1] r r (.condP r hd (fun l hd=>?_) fun l hd=>?_)))))))
 · exact .sr (.ks 1 r (.nilS [6] r r (.drop .z (.ret (pret results150 (.t r .n) (.refl _) ⟨0,r,hd⟩)))))
 refine .skipS [3,2,1] r r (.sr (.ks 1 r (.nilS [7,3,2,1] r r (.seq (.sr (.fa un25 r sz23 r (o:=4) r r r (.load1 ia23 r .z r r r (.len un23 r r r r (.ks 1 r ?_)))))))))
 refine .nilS [8,7,3,2,1] r r (.sr (.ks 2 r (.nilS [34,8,7,3,2,1] r r (.condP r hd (fun m hd=>?_) fun m hd=>?_))))
 · refine .dr [0,1,2,3,4,5,6,7,8,9,10,11] 12 (.g r r r (fun _=>.fa un25 r sz23 r (o:=4) r r r .mk) (.g r r r (fun _=>.load1 ia23 r .z r r r .mk) (.fk 1 r (.g r r r (fun _=>.fa un25 r sz3 r (o:=1) r r r .mk) (.g r r r (fun _=>.load1 ia3 r .z r r r .mk) (.fk 4 r ?_))))))
   obtain ⟨p,hd⟩:=hd
   refine .g r r r (fun _=>.rem r r p r r .mk) ?_
   obtain ⟨h,u,f,hd⟩:=hd
   obtain ⟨A,o32,w,v,q,s⟩:=R3.2 _ _ f
   cases s
   exact .g r r r (fun _=>.ixa un23 sz2 r v r h (idx_lt f h) r r .mk) (.g r r r (fun _=>.ld1 (j:=0) ia2 q r r r r r .mk) (.e2 12 (.ks 1 r (.nilS [7,2] r r (.drop .z (.sr (.ks 5 r (.nilS [6] r r (.ret (pret results150 (.t r .n) (.refl _) ⟨(w64 ((w64 (u*4096))+a2)),r,hd⟩))))))))))
 exact .skipS [7,2] r r (.drop .z (.sr (.ks 5 r (.nilS [6] r r (.ret (pret results150 (.t r .n) (.refl _) ⟨(w64 ((w64 (0*4096))+a2)),r,hd⟩))))))
theorem W_ref21_draw {I:IH} {a0:Int} {Q:Int→Prop}  (hd:ref21_draw a0 Q) :
  PFun prog 151 [.int .i64 a0] I (fun _=>o0_ Q):=by
 refine Fun.enter func151 r ntmps151 r (.c .n) fun w0 M=>?_
 refine .sr (.ks 1 r (.nilS [0] r r (.seq (.sr (.ks 2 r (.nilS [4,0] r r (.condP r hd (fun a hd=>?_) fun a hd=>?_)))))))
 · exact .sr (.ks 1 r (.nilS [2] r r (.ret (pret results151 (.t r .n) (.refl _) ⟨(-1),r,hd⟩))))
 exact .skipS [0] r r (.sr (.ks 2 r (.quo r r (by decide) r r (.ks 1 r (.nilS [2] r r (.ret (pret results151 (.t r .n) (.refl _) ⟨(w64 ((w64 (a0 - 1)).tdiv 2)),r,hd⟩)))))))
theorem W_ref21_tells {I:IH} {a0:Plan} {a1:State} {a2:Int} {a3:Int} {p1:Option Addr} {c2:Nat} {p4:Option Addr} {c5:Nat} {p7:Option Addr} {c8:Nat} {p10:Option Addr} {c11:Nat} {Q:(Int×Bool)→Prop} (R3:RepSl eI64 I p1 c2 a0.Draws) (R6:RepSl eI64 I p4 c5 a1.A) (R9:RepSl eI64 I p7 c8 a1.B) (R12:RepSl eU64 I p10 c11 a1.On) (hd:ref21_tells a0 a1 a2 a3 Q) :
  PFun prog 147 [.agg #[.int .i64 a0.Kind,.int .i64 a0.N,.int .i64 a0.Source,.int .i64 a0.Length,.slice p1 a0.Draws.length c2],.agg #[.int .i64 a1.Low,.int .i64 a1.High,.slice p4 a1.A.length c5,.slice p7 a1.B.length c8,.slice p10 a1.On.length c11],.int .i64 a2,.int .i64 a3] I (fun _=>o4_ Q):=by
 refine Fun.enter func147 r ntmps147 r (.c (.c (.c (.c .n)))) fun w0 M=>?_
 refine .sr (.boxA r r r fun l=>?_)
 refine .boxA r r r fun m=>?_
 refine .ks 2 r (.nilS [5,4,3,2] r r (.sr (.fa un36 r sz34 r (o:=4) r r r (.load1 ia34 r .z r r r (.ks 1 r ?_)))))
 have v:=W_ref03_Has (I:=I) R12 hd
 refine .callP call90 r v r r fun V x=>?_
 obtain ⟨h,rfl,hd⟩:=x
 refine .ks 1 r (.nilS [10,5,4,3,2] r r (.block (.sr (.fa un25 r sz22 r (o:=0) r r r (.load1 ia22 r (.s .z) r r r (.ks 2 r (.nilS [21,10,5,4,3,2] r r (.condP r hd (fun y hd=>?_) fun y hd=>?_))))))))
 · exact .sr (.fa un36 r sz3 r (o:=0) r r r (.load1 ia3 r .z r r r (.ks 5 r (.nilS [9,8] r r (.drop .z (.drop .z (.ret (pret results147 (.t r (.t r .n)) (.refl _) ⟨(w64 (a1.Low+a3),h),r,hd⟩))))))))
 refine .seq ?_
 refine Cod.joinQ (σ:=Bool) hd (fun (p:Bool) c w=>∃ I_,IH.le I I_∧Ok ⟨58,[],none⟩ [(2,.int .i64 a2),(3,.int .i64 a3),(4,.pointer (some ⟨l,0,none⟩)),(5,.pointer (some ⟨m,0,none⟩)),(10,.bool h),(30,.bool p)] c∧Sym w0 M I I_ [pto l (.cells #[.int .i64 a0.Kind,.int .i64 a0.N,.int .i64 a0.Source,.int .i64 a0.Length,.slice p1 a0.Draws.length c2] 25 (0,0)),pto m (.cells #[.int .i64 a1.Low,.int .i64 a1.High,.slice p4 a1.A.length c5,.slice p7 a1.B.length c8,.slice p10 a1.On.length c11] 36 (0,0))] w) (fun W hd=>?_) ?_
 · skip
   refine .region (.fa un25 r sz22 r (o:=0) r r r (.load1 ia22 r (.s .z) r r r (.ks 2 r ?_)))
   refine splitP hd (fun e hd=>?_) fun e hd=>?_
   · rw [e]
     exact .ks 1 r (.gyes r r r (.rem r r (by decide) r r (.ks 3 r (.nil' fun c w ho hs=>⟨((a2.tmod 2) != 0),hd,I,(.refl _),ho.sub ⟨r,r,r,r,r,r,trivial⟩,hs.pick (.c (.s .z) (.c .z .n))⟩))))
   rw [e]
   exact .ks 5 r (.nil' fun c w ho hs=>⟨false,hd,I,(.refl _),ho.sub ⟨r,r,r,r,r,r,trivial⟩,hs.pick (.c (.s .z) (.c .z .n))⟩)
 rintro p hd c w hst
 obtain ⟨q,a,hok,hsym⟩:=hst
 replace R3:=R3.mono a
 replace R6:=R6.mono a
 replace R9:=R9.mono a
 replace R12:=R12.mono a
 refine Cod.at hok hsym (.condP r hd (fun C hd=>?_) fun C hd=>?_)
 · refine .seq (.dr [0,1,3,4,5,6,8,9,10,11,12,13,2,7,14] 15 (.g r r r (fun _=>.loadW ia25 sz25 r .z r r r .mk) (.fk 1 r (.g r r r (fun _=>.fa un36 r sz3 r (o:=0) r r r .mk) (.g r r r (fun _=>.load1 ia3 r (.s .z) r r r .mk) (.fk 2 r (.g r r r (fun _=>.fa un36 r sz23 r (o:=2) r r r .mk) (.g r r r (fun _=>.load1 ia23 r (.s .z) r r r .mk) (.fk 1 r ?_)))))))))
   obtain ⟨b,O,d,hd⟩:=hd
   obtain ⟨X,o42,T,i,f,D⟩:=R6.2 _ _ d
   cases D
   refine .g r r r (fun _=>.ixa un23 sz2 r i r b (idx_lt d b) r r .mk) (.g r r r (fun _=>.ld1 (j:=0) ia2 f r r r r r .mk) (.fk 1 r (.ww r fun ex=>?_)))
   have E:=W_ref21_draw (I:=q) hd
   refine .callP call151 r E r r fun Y F=>?_
   obtain ⟨Z,rfl,hd⟩:=F
   refine .so 2 r r r (.ck 1 r r (.cg r r r r (fun _=>.ld1 (j:=0) ia2 f r r r r r .mk) (.cg r r r r (fun _=>.ixa un23 sz2 r i r b (idx_lt d b) r r .mk) (.ck 1 r r (.cg r r r r (fun _=>.load1 ia23 r (.s .z) r r r .mk) (.cg r r r r (fun _=>.fa un36 r sz23 r (o:=2) r r r .mk) (.ck 2 r r (.cg r r r r (fun _=>.load1 ia3 r (.s .z) r r r .mk) (.cg r r r r (fun _=>.fa un36 r sz3 r (o:=0) r r r .mk) (.cg r r r r (fun _=>.loadW ia25 sz25 r .z r r r .mk) trivial)))))))))) (.ww r fun ex=>?_)
   have G:=W_ref21_Draw (I:=q) R3 hd
   refine .callP call150 r G r r fun a4 H=>?_
   obtain ⟨P,rfl,hd⟩:=H
   exact .so 2 r r r (.ck 1 r r (.cg r r r r (fun _=>.ld1 (j:=0) ia2 f r r r r r .mk) (.cg r r r r (fun _=>.ixa un23 sz2 r i r b (idx_lt d b) r r .mk) (.ck 1 r r (.cg r r r r (fun _=>.load1 ia23 r (.s .z) r r r .mk) (.cg r r r r (fun _=>.fa un36 r sz23 r (o:=2) r r r .mk) trivial)))))) (.fk 1 r (.e2 15 (.ks 1 r (.nilS [9,8] r r (.drop .z (.drop .z (.ret (pret results147 (.t r (.t r .n)) a ⟨(P,O==0),r,hd⟩))))))))
 refine .sr (.fa un25 r sz22 r (o:=0) r r r (.load1 ia22 r .z r r r (.ks 2 r (.nilS [53,10,5,3] r r (.drop .z (.condP r hd (fun J hd=>?_) fun J hd=>?_))))))
 · exact .sr (.ks 3 r (.nilS [9,8] r r (.drop .z (.ret (pret results147 (.t r (.t r .n)) a ⟨(1,h),r,hd⟩)))))
 refine .sr (.fa un36 r sz23 r (o:=2) r r r (.load1 ia23 r .z r r r (.ks 1 r ?_)))
 obtain ⟨u,R,k,hd⟩:=hd
 obtain ⟨a5,o60,U,S,K,L⟩:=R6.2 _ _ k
 cases L
 exact .ixa un23 sz2 r S r u (idx_lt k u) r r (.ld1 (j:=0) ia2 K r r r r r (.ks 3 r (.nilS [9,8] r r (.drop .z (.ret (pret results147 (.t r (.t r .n)) a ⟨(R,h),r,hd⟩))))))
theorem W_ref21_Out {I:IH} {a0:Plan} {a1:State} {a2:Int} {p1:Option Addr} {c2:Nat} {p4:Option Addr} {c5:Nat} {p7:Option Addr} {c8:Nat} {p10:Option Addr} {c11:Nat} {Q:Vec→Prop} (R3:RepSl eI64 I p1 c2 a0.Draws) (R6:RepSl eI64 I p4 c5 a1.A) (R9:RepSl eI64 I p7 c8 a1.B) (R12:RepSl eU64 I p10 c11 a1.On) (hd:ref21_Out a0 a1 a2 Q) :
  PFun prog 96 [.agg #[.int .i64 a0.Kind,.int .i64 a0.N,.int .i64 a0.Source,.int .i64 a0.Length,.slice p1 a0.Draws.length c2],.agg #[.int .i64 a1.Low,.int .i64 a1.High,.slice p4 a1.A.length c5,.slice p7 a1.B.length c8,.slice p10 a1.On.length c11],.int .i64 a2] I (o24_ Q):=by
 refine Fun.enter func96 r ntmps96 r (.c (.c (.c .n))) fun w0 M=>?_
 refine .sr (.boxA r r r fun E=>?_)
 refine .boxA r r r fun F=>?_
 refine .allocA zv82 r r fun G=>?_
 refine .nilS [6,4,3,2] r r (.sr (.loadW ia25 sz25 r (.s (.s .z)) r r r (.loadW ia36 sz36 r (.s .z) r r r ?_)))
 have K:=W_ref21_Sure (I:=I) R3 R6 R9 R12 hd
 refine .call call89 r K r r fun a6 H f L=>?_
 obtain ⟨b,R,S,T,U,V,W,rfl,k,l,m,hd⟩:=L
 replace R3:=R3.mono f
 replace R6:=R6.mono f
 replace R9:=R9.mono f
 replace R12:=R12.mono f
 refine .storeA sz36 r r (.s .z) (.t (.t (.t (.t (.t .nil))))) r r (.nilS [6,4,3,2] r r (.sr (.fa un36 r sz3 r (o:=1) r r r (.load1 ia3 r (.s .z) r r r (.fa un36 r sz3 r (o:=0) r r r (.load1 ia3 r (.s .z) r r r (.ks 1 r (.build zv82 un82 BI82 (.c r r r (.t .nil) .n) (by exact ⟨⟨_,_,r,r,r⟩,trivial⟩) r r (.allocA zv82 r r fun J=>?_)))))))))
 refine .storeA sz82 r r .z (.t (.t .nil)) r r (.nilS [7,6,4,3,2] r r (.seq (.sr (.ks 1 r (.nilS [8,7,6,4,3,2] r r (.block (.own0 eItem 119 (.loop hd (fun (s:(List Item)×Int) c w=>match s with | (d,e)=>∃ I_ g h,IH.le H I_∧Ok ⟨44,[],none⟩ [(2,.int .i64 a2),(3,.pointer (some ⟨E,0,none⟩)),(4,.pointer (some ⟨F,0,none⟩)),(6,.pointer (some ⟨G,0,none⟩)),(7,.pointer (some ⟨J,0,none⟩)),(8,.int .i64 e)] c∧Sym w0 M I I_ [pto E (.cells #[.int .i64 a0.Kind,.int .i64 a0.N,.int .i64 a0.Source,.int .i64 a0.Length,.slice p1 a0.Draws.length c2] 25 (0,0)),pto F (.cells #[.int .i64 b.Low,.int .i64 b.High,.slice R b.A.length S,.slice T b.B.length U,.slice V b.On.length W] 36 (0,0)),pto G (.cells #[.int .i64 0,.slice none 0 0] 82 (0,0)),pto J (.cells #[.int .i64 (w64 (b.High - b.Low)),.slice g d.length h] 82 (0,0)),OwnSl eItem 119 g h d] w) (fun c w ho hs=>⟨H,_,_,(.refl _),ho.sub ⟨r,r,r,r,r,r,trivial⟩,hs.pick (.c (.s (.s (.s (.s .z)))) (.c (.s (.s (.s .z))) (.c (.s (.s .z)) (.c (.s .z) (.c .z .n)))))⟩) ?_))))))))
 rintro ⟨d,e⟩ P hd c w hst
 obtain ⟨i,g,h,a,hok,hsym⟩:=hst
 have q:=IH.le.trans f a
 replace R3:=R3.mono a
 replace k:=k.mono a
 replace l:=l.mono a
 replace m:=m.mono a
 refine Cod.at hok hsym (.seq (.sr (.ks 1 r (.fa un82 r sz3 r (o:=0) r r r (.load1 ia3 r (.s (.s (.s .z))) r r r (.ks 1 r (.nilS [23,8,7,6,4,3,2] r r (.condP r hd (fun u hd=>?_) fun u hd=>?_))))))))
 · refine .skipS [8,7,6,4,3,2] r r (.seq (.block (.sr (.loadW ia25 sz25 r .z r r r (.loadW ia36 sz36 r (.s .z) r r r (.ks 2 r ?_))))))
   have v:=W_ref21_tells (I:=i) R3 k l m hd
   refine .callP call147 r v r r fun Y x=>?_
   obtain ⟨p,rfl,hd⟩:=x
   refine .ks 5 r (.nilS [10,9,8,7,6,4,3,2] r r (.sr (.ks 1 r (.nilS [34,9,8,7,6,4,3,2] r r (.condP r hd (fun y hd=>?_) fun y hd=>?_)))))
   · refine .region (.fa un82 r sz80 r (o:=1) r r r (.load1 ia80 r (.s (.s (.s .z))) r r r (.ks 2 r (.build zv119 un119 BI119 (.c r r r (.t .nil) (.c r r r (.s (.t .nil)) .n)) (by exact ⟨⟨_,_,r,r,r⟩,⟨⟨_,_,r,r,r⟩,trivial⟩⟩) r r (.buildSlice 1 un80 sz119 zv119 r r (.c r r r .n) r r fun Z=>?_)))))
     obtain ⟨C,hd⟩:=hd
     refine .append (ys:=[({ At:=e,Val:=p.1 }:Item)]) 16 (.s (.s (.s (.s (.s .z))))) un80 un80 IN119 r r r r r r r r r (.box .z (.one r) r) C r r fun a3 a4=>?_
     exact .fa un82 r sz80 r (o:=1) r r r (.store1 sz80 r r (.s (.s (.s (.s (.s .z))))) (.s (.t .nil)) r (.nilS [8,7,6,4,3,2] r r (.drop (.s .z) (.region (.ks 3 r (.nil' fun c w ho hs=>⟨((d++([({ At:=e,Val:=p.1 }:Item)])),w64 (e+1)),hd,i,_,_,a,ho.sub ⟨r,r,r,r,r,r,trivial⟩,hs.pick (.c (.s .z) (.c (.s .z) (.c (.s .z) (.c (.s .z) (.c .z .n)))))⟩))))))
   exact .skipS [8,7,6,4,3,2] r r (.region (.ks 3 r (.nil' fun c w ho hs=>⟨(d,w64 (e+1)),hd,i,_,_,a,ho.sub ⟨r,r,r,r,r,r,trivial⟩,hs.pick (.c .z (.c .z (.c .z (.c .z (.c .z .n)))))⟩)))
 refine .exitS [7,6] r r (.drop .z (.drop .z (.sr (.loadW ia82 sz82 r (.s .z) r r r (.storeA sz82 r r .z (.t (.t .nil)) r r (.nilS [6] r r (.drop (.s .z) (.pub (.s .z) fun a5 j O=>?_))))))))
 have D:=IH.le.trans q j
 have X:=IH.le.trans a j
 exact .ret (pret results96 (.w ia82 sz82 r .z r .n) D ⟨({ N:=w64 (b.High - b.Low),Items:=d }:Vec),_,_,r,O,hd⟩)
theorem W_ref21_Update {I:IH} {a0:Plan} {a1:State} {a2:Int} {a3:Vec} {p1:Option Addr} {c2:Nat} {p4:Option Addr} {c5:Nat} {p7:Option Addr} {c8:Nat} {p10:Option Addr} {c11:Nat} {p13:Option Addr} {c14:Nat} {Q:State→Prop} (R3:RepSl eI64 I p1 c2 a0.Draws) (R6:RepSl eI64 I p4 c5 a1.A) (R9:RepSl eI64 I p7 c8 a1.B) (R12:RepSl eU64 I p10 c11 a1.On) (R15:RepSl eItem I p13 c14 a3.Items) (hd:ref21_Update a0 a1 a2 a3 Q) :
  PFun prog 97 [.agg #[.int .i64 a0.Kind,.int .i64 a0.N,.int .i64 a0.Source,.int .i64 a0.Length,.slice p1 a0.Draws.length c2],.agg #[.int .i64 a1.Low,.int .i64 a1.High,.slice p4 a1.A.length c5,.slice p7 a1.B.length c8,.slice p10 a1.On.length c11],.int .i64 a2,.agg #[.int .i64 a3.N,.slice p13 a3.Items.length c14]] I (o25_ Q):=by
 refine Fun.enter func97 r ntmps97 r (.c (.c (.c (.c .n)))) fun w0 M=>?_
 refine .sr (.boxA r r r fun b4=>?_)
 refine .boxA r r r fun b5=>?_
 refine .boxA r r r fun b6=>?_
 refine .allocA zv36 r r fun b7=>?_
 refine .nilS [8,7,5,4,2] r r (.sr (.loadW ia25 sz25 r (.s (.s (.s .z))) r r r (.loadW ia36 sz36 r (.s (.s .z)) r r r ?_)))
 have m3:=W_ref21_Sure (I:=I) R3 R6 R9 R12 hd
 refine .call call89 r m3 r r fun s7 f5 J m4=>?_
 obtain ⟨b,f6,f7,f8,f9,g0,g1,rfl,K,R,S,hd⟩:=m4
 replace R3:=R3.mono J
 replace R6:=R6.mono J
 replace R9:=R9.mono J
 replace R12:=R12.mono J
 replace R15:=R15.mono J
 refine .storeA sz36 r r (.s (.s .z)) (.t (.t (.t (.t (.t .nil))))) r r (.nilS [8,7,5,4,2] r r (.sr (.fa un36 r sz3 r (o:=0) r r r (.load1 ia3 r (.s (.s .z)) r r r (.fa un36 r sz3 r (o:=1) r r r (.load1 ia3 r (.s (.s .z)) r r r (.build zv36 un36 BI36 (.c r r r (.t .nil) (.c r r r (.s (.t .nil)) .n)) (by exact ⟨⟨_,_,r,r,r⟩,⟨⟨_,_,r,r,r⟩,trivial⟩⟩) r r (.allocA zv36 r r fun D=>?_))))))))
 refine .storeA sz36 r r .z (.t (.t (.t (.t (.t .nil))))) r r (.nilS [9,8,7,5,4,2] r r (.sr (.fa un36 r sz23 r (o:=2) r r r (.load1 ia23 r .z r r r (.fa un36 r sz23 r (o:=2) r r r (.load1 ia23 r (.s (.s (.s .z))) r r r (.own0 eI64 2 ?_)))))))
 obtain ⟨m5,hd⟩:=hd
 refine .append (ys:=b.A) 8 .z un23 un23 IN2 r r r r r r r r r (.imm K r) m5 r r fun s8 s9=>?_
 refine .fa un36 r sz23 r (o:=2) r r r (.store1 sz23 r r (.s .z) (.s (.s (.t .nil))) r (.nilS [9,8,7,5,4,2] r r (.sr (.fa un36 r sz23 r (o:=3) r r r (.load1 ia23 r (.s .z) r r r (.fa un36 r sz23 r (o:=3) r r r (.load1 ia23 r (.s (.s (.s (.s .z)))) r r r (.own0 eI64 2 ?_))))))))
 obtain ⟨m6,hd⟩:=hd
 refine .append (ys:=b.B) 8 .z un23 un23 IN2 r r r r r r r r r (.imm R r) m6 r r fun t0 t1=>?_
 refine .fa un36 r sz23 r (o:=3) r r r (.store1 sz23 r r (.s (.s .z)) (.s (.s (.s (.t .nil)))) r (.nilS [9,8,7,5,4,2] r r (.sr (.fa un36 r sz34 r (o:=4) r r r (.load1 ia34 r (.s (.s .z)) r r r (.fa un36 r sz34 r (o:=4) r r r (.load1 ia34 r (.s (.s (.s (.s (.s .z))))) r r r (.own0 eU64 96 ?_))))))))
 obtain ⟨j7,hd⟩:=hd
 refine .append (ys:=b.On) 8 .z un34 un34 IN96 r r r r r r r r r (.imm S r) j7 r r fun v x=>?_
 refine .fa un36 r sz34 r (o:=4) r r r (.store1 sz34 r r (.s (.s (.s .z))) (.s (.s (.s (.s (.t .nil))))) r (.nilS [9,8,7,5,4,2] r r (.seq (.sr (.loadW ia82 sz82 r (.s (.s (.s (.s (.s .z))))) r r r ?_)))))
 have j8:=W_ref09_Right (I:=f5) R15 hd
 refine .callP call148 r j8 r r fun r9 j9=>?_
 obtain ⟨s0,rfl,hd⟩:=j9
 refine .ks 2 r ?_
 refine splitP hd (fun b8 hd=>?_) fun b8 hd=>?_
 · rw [b8]
   refine .ks 9 r (.nilS [53,9,8,7,5,4,2] r r (.condKT r r (.sr (.loadW ia36 sz36 r (.s (.s (.s .z))) r r r (.storeA sz36 r r (.s (.s (.s (.s .z)))) (.t (.t (.t (.t (.t .nil))))) r r (.nilS [8] r r (.drop (.s (.s (.s .z))) (.drop (.s (.s (.s (.s .z)))) (.drop (.s (.s (.s (.s .z)))) ?_)))))))))
   refine .drop (.s (.s (.s (.s .z)))) (.pub (.s (.s .z)) fun s1 k0 T=>?_)
   have k1:=IH.le.trans J k0
   refine .pub (.s .z) fun s2 d3 d1=>?_
   have k2:=IH.le.trans k1 d3
   replace T:=T.mono d3
   refine .pub .z fun s3 b9 m7=>?_
   have k3:=IH.le.trans k2 b9
   replace T:=T.mono b9
   replace d1:=d1.mono b9
   exact .ret (pret results97 (.w ia36 sz36 r .z r .n) k3 ⟨({ Low:=b.Low,High:=b.High,A:=(([]:List Int)++b.A),B:=(([]:List Int)++b.B),On:=(([]:List Int)++b.On) }:State),_,_,_,_,_,_,r,T,d1,m7,hd⟩)
 rw [b8]
 refine .gyes r r r (.fa un82 r sz3 r (o:=0) r r r (.gyes r r r (.load1 ia3 r (.s (.s (.s (.s (.s .z))))) r r r (.gyes r r r (.fa un36 r sz3 r (o:=1) r r r (.gyes r r r (.load1 ia3 r (.s (.s (.s (.s (.s (.s .z)))))) r r r (.gyes r r r (.fa un36 r sz3 r (o:=0) r r r (.gyes r r r (.load1 ia3 r (.s (.s (.s (.s (.s (.s .z)))))) r r r (.ks 3 r (.nilS [53,9,8,7,5,4,2] r r (.condP r hd (fun k4 hd=>?_) fun k4 hd=>?_))))))))))))))
 · refine .sr (.loadW ia36 sz36 r (.s (.s (.s .z))) r r r (.storeA sz36 r r (.s (.s (.s (.s .z)))) (.t (.t (.t (.t (.t .nil))))) r r (.nilS [8] r r (.drop (.s (.s (.s .z))) (.drop (.s (.s (.s (.s .z)))) (.drop (.s (.s (.s (.s .z)))) (.drop (.s (.s (.s (.s .z)))) (.pub (.s (.s .z)) fun s4 k5 U=>?_))))))))
   have k6:=IH.le.trans J k5
   refine .pub (.s .z) fun s5 d4 d2=>?_
   have k7:=IH.le.trans k6 d4
   replace U:=U.mono d4
   refine .pub .z fun s6 c0 m8=>?_
   have k8:=IH.le.trans k7 c0
   replace U:=U.mono c0
   replace d2:=d2.mono c0
   exact .ret (pret results97 (.w ia36 sz36 r .z r .n) k8 ⟨({ Low:=b.Low,High:=b.High,A:=(([]:List Int)++b.A),B:=(([]:List Int)++b.B),On:=(([]:List Int)++b.On) }:State),_,_,_,_,_,_,r,U,d2,m8,hd⟩)
 refine .skipS [9,8,7,5,4,2] r r (.sr (.ks 1 r (.nilS [10,9,8,7,5,4,2] r r (.seq (.sr (.ks 1 r (.nilS [11,10,9,8,7,5,4,2] r r (.block (.own0 eI64 3 ?_)))))))))
 refine .loop hd (fun (s:(List Int)×(List Int)×(List Int)×Int) c w=>match s with | (e,f,h,a)=>∃ I_ E i p l F G,IH.le f5 I_∧Ok ⟨163,[],none⟩ [(2,.int .i64 a2),(4,.pointer (some ⟨b4,0,none⟩)),(5,.pointer (some ⟨b5,0,none⟩)),(7,.pointer (some ⟨b6,0,none⟩)),(8,.pointer (some ⟨b7,0,none⟩)),(9,.pointer (some ⟨D,0,none⟩)),(10,.slice F h.length G),(11,.int .i64 a)] c∧Sym w0 M I I_ [pto b4 (.cells #[.int .i64 a0.Kind,.int .i64 a0.N,.int .i64 a0.Source,.int .i64 a0.Length,.slice p1 a0.Draws.length c2] 25 (0,0)),pto b5 (.cells #[.int .i64 b.Low,.int .i64 b.High,.slice f6 b.A.length f7,.slice f8 b.B.length f9,.slice g0 b.On.length g1] 36 (0,0)),pto b6 (.cells #[.int .i64 a3.N,.slice p13 a3.Items.length c14] 82 (0,0)),pto b7 (.cells #[.int .i64 0,.int .i64 0,.slice none 0 0,.slice none 0 0,.slice none 0 0] 36 (0,0)),pto D (.cells #[.int .i64 b.Low,.int .i64 b.High,.slice E e.length i,.slice p f.length l,.slice v (([]:List Int)++b.On).length x] 36 (0,0)),OwnSl eI64 2 E i e,OwnSl eI64 2 p l f,OwnSl eU64 96 v x (([]:List Int)++b.On),OwnSl eI64 3 F G h] w) (fun c w ho hs=>⟨f5,_,_,_,_,_,_,(.refl _),ho.sub ⟨r,r,r,r,r,r,r,r,trivial⟩,hs.pick (.c (.s (.s (.s (.s (.s (.s (.s (.s .z)))))))) (.c (.s (.s (.s (.s (.s (.s (.s .z))))))) (.c (.s (.s (.s (.s (.s (.s .z)))))) (.c (.s (.s (.s (.s (.s .z))))) (.c (.s (.s (.s (.s .z)))) (.c (.s (.s (.s .z))) (.c (.s (.s .z)) (.c (.s .z) (.c .z .n)))))))))⟩) ?_
 rintro ⟨e,f,h,a⟩ m9 hd c w hst
 obtain ⟨H,E,i,p,l,F,G,u,hok,hsym⟩:=hst
 have V:=IH.le.trans J u
 replace R3:=R3.mono u
 replace R15:=R15.mono u
 replace K:=K.mono u
 replace R:=R.mono u
 replace S:=S.mono u
 refine Cod.at hok hsym (.seq (.sr (.ks 1 r (.fa un82 r sz3 r (o:=0) r r r (.load1 ia3 r (.s (.s .z)) r r r (.ks 1 r (.nilS [58,11,10,9,8,7,5,4,2] r r (.condP r hd (fun g2 hd=>?_) fun g2 hd=>?_))))))))
 · refine .skipS [11,10,9,8,7,5,4,2] r r (.seq (.block (.sr (.loadW ia82 sz82 r (.s (.s .z)) r r r (.ks 1 r ?_)))))
   have g3:=W_ref09_Get (I:=H) R15 hd
   refine .callP call149 r g3 r r fun n6 g4=>?_
   obtain ⟨k,rfl,hd⟩:=g4
   refine .ks 5 r (.nilS [13,12,11,10,9,8,7,5,4,2] r r (.sr (.ks 1 r (.nilS [14,13,12,11,10,9,8,7,5,4,2] r r (.seq (.sr (.fa un25 r sz22 r (o:=0) r r r (.load1 ia22 r .z r r r (.nilS [68,14,13,12,11,10,9,8,7,5,4,2] r r ?_)))))))))
   refine .block (.sr (.ks 2 r (.nilS [102,68,14,13,12,11,10,9,8,7,5,4,2] r r (.condP r hd (fun g5 hd=>?_) fun g5 hd=>?_))))
   · refine .seq ?_
     refine Cod.joinQ (σ:=Bool) hd (fun (d5:Bool) c w=>∃ I_,IH.le H I_∧Ok ⟨163,[],none⟩ [(2,.int .i64 a2),(4,.pointer (some ⟨b4,0,none⟩)),(5,.pointer (some ⟨b5,0,none⟩)),(7,.pointer (some ⟨b6,0,none⟩)),(8,.pointer (some ⟨b7,0,none⟩)),(9,.pointer (some ⟨D,0,none⟩)),(10,.slice F h.length G),(11,.int .i64 a),(12,.int .i64 k.1),(14,.bool d5)] c∧Sym w0 M I I_ [pto b4 (.cells #[.int .i64 a0.Kind,.int .i64 a0.N,.int .i64 a0.Source,.int .i64 a0.Length,.slice p1 a0.Draws.length c2] 25 (0,0)),pto b5 (.cells #[.int .i64 b.Low,.int .i64 b.High,.slice f6 b.A.length f7,.slice f8 b.B.length f9,.slice g0 b.On.length g1] 36 (0,0)),pto b6 (.cells #[.int .i64 a3.N,.slice p13 a3.Items.length c14] 82 (0,0)),pto b7 (.cells #[.int .i64 0,.int .i64 0,.slice none 0 0,.slice none 0 0,.slice none 0 0] 36 (0,0)),pto D (.cells #[.int .i64 b.Low,.int .i64 b.High,.slice E e.length i,.slice p f.length l,.slice v (([]:List Int)++b.On).length x] 36 (0,0)),OwnSl eI64 2 E i e,OwnSl eI64 2 p l f,OwnSl eU64 96 v x (([]:List Int)++b.On),OwnSl eI64 3 F G h] w) (fun n7 hd=>?_) ?_
     · skip
       refine .region (.ks 2 r ?_)
       refine splitP hd (fun W hd=>?_) fun W hd=>?_
       · rw [W]
         refine .gyes r r r (.fa un36 r sz23 r (o:=2) r r r (.gyes r r r (.load1 ia23 r (.s .z) r r r (.ks 1 r ?_))))
         obtain ⟨d6,k9,c6,hd⟩:=hd
         obtain ⟨n8,o1172,n0,l0,g6,g7⟩:=K.2 _ _ c6
         cases g7
         exact .gyes r r r (.ixa un23 sz2 r l0 r d6 (idx_lt c6 d6) r r (.gyes r r r (.ld1 (j:=0) ia2 g6 r r r r r (.ks 3 r (.nil' fun c w ho hs=>⟨(k9==(-1)),hd,H,(.refl _),ho.sub ⟨r,r,r,r,r,r,r,r,r,r,trivial⟩,hs.pick (.c .z (.c .z (.c .z (.c .z (.c .z (.c .z (.c .z (.c .z (.c .z .n)))))))))⟩)))))
       rw [W]
       exact .ks 8 r (.nil' fun c w ho hs=>⟨false,hd,H,(.refl _),ho.sub ⟨r,r,r,r,r,r,r,r,r,r,trivial⟩,hs.pick (.c .z (.c .z (.c .z (.c .z (.c .z (.c .z (.c .z (.c .z (.c .z .n)))))))))⟩)
     rintro d5 hd c w hst
     obtain ⟨d7,y,hok,hsym⟩:=hst
     have n1:=IH.le.trans V y
     have c7:=IH.le.trans u y
     replace R3:=R3.mono y
     replace R15:=R15.mono y
     replace K:=K.mono y
     replace R:=R.mono y
     replace S:=S.mono y
     refine Cod.at hok hsym (.sr (.ks 1 r (.nilS [113,14,12,11,10,9,8,7,5,4,2] r r (.condP r hd (fun X hd=>?_) fun X hd=>?_))))
     · refine .sr (.fa un36 r sz23 r (o:=2) r r r (.load1 ia23 r (.s (.s (.s (.s .z)))) r r r (.ks 2 r ?_)))
       obtain ⟨d8,n9,Y,hd⟩:=hd
       refine .ownNe (.s (.s (.s (.s (.s .z))))) (idx_ne Y) fun c1 l1=>?_
       cases l1
       refine .ixa0 un23 sz2 r r d8 (idx_lt Y d8) r r (.stO1 (j:=0) (v':=a2) sz2 (.s (.s (.s (.s (.s .z))))) Y r r r (.t .nil) r (.sub (E':=[(2,_),(4,_),(5,_),(7,_),(8,_),(9,_),(10,_),(11,_),(12,_),(14,_),(113,_),(114,_),(115,.slice (some ⟨c1,0,none⟩) (e.set a.toNat a2).length i),(116,_),(117,_),(118,_)]) ⟨r,r,r,r,r,r,r,r,r,r,r,r,(by simp only [List.length_set]; rfl),r,r,r,trivial⟩ (.reat (.s (.s (.s (.s .z)))) (B:=pto D (.cells #[.int .i64 b.Low,.int .i64 b.High,.slice (some ⟨c1,0,none⟩) (e.set a.toNat a2).length i,.slice p f.length l,.slice v (([]:List Int)++b.On).length x] 36 (0,0))) (by simp only [List.length_set]) (.nilS [14,12,11,10,9,8,7,5,4,2] r r (.region (.fa un36 r sz23 r (o:=3) r r r (.load1 ia23 r (.s (.s (.s (.s .z)))) r r r (.ks 2 r ?_))))))))
       obtain ⟨d9,o0,Z,hd⟩:=hd
       refine .ownNe (.s (.s (.s (.s (.s (.s .z)))))) (idx_ne Z) fun e0 l2=>?_
       cases l2
       refine .ixa0 un23 sz2 r r d9 (idx_lt Z d9) r r (.stO1 (j:=0) (v':=k.1) sz2 (.s (.s (.s (.s (.s (.s .z)))))) Z r r r (.t .nil) r (.sub (E':=[(2,_),(4,_),(5,_),(7,_),(8,_),(9,_),(10,_),(11,_),(12,_),(14,_),(119,_),(120,.slice (some ⟨e0,0,none⟩) (f.set a.toNat k.1).length l),(121,_),(122,_),(123,_)]) ⟨r,r,r,r,r,r,r,r,r,r,r,(by simp only [List.length_set]; rfl),r,r,r,trivial⟩ (.reat (.s (.s (.s (.s .z)))) (B:=pto D (.cells #[.int .i64 b.Low,.int .i64 b.High,.slice (some ⟨c1,0,none⟩) (e.set a.toNat a2).length i,.slice (some ⟨e0,0,none⟩) (f.set a.toNat k.1).length l,.slice v (([]:List Int)++b.On).length x] 36 (0,0))) (by simp only [List.length_set]) (.nilS [14,11,10,9,8,7,5,4,2] r r (.sr (.ks 1 r (.nilS [152,11,10,9,8,7,5,4,2] r r (.condKT r X (.region ?_)))))))))
       refine .ks 2 r (.buildSlice 1 un51 sz3 zv3 r r (.c r r r .n) r r fun o1=>?_)
       obtain ⟨g8,hd⟩:=hd
       refine .append (ys:=[a]) 8 (.s (.s (.s (.s (.s (.s (.s (.s (.s .z))))))))) un51 un51 IN3 r r r r r r r r r (.box .z (.one r) r) g8 r r fun o2 o3=>?_
       exact .ks 1 r (.nilS [10,11,9,8,7,5,4,2] r r (.drop (.s .z) (.region (.ks 3 r (.nil' fun c w ho hs=>⟨((e.set a.toNat a2),(f.set a.toNat k.1),(h++([a])),w64 (a+1)),hd,d7,_,_,_,_,_,_,c7,ho.sub ⟨r,r,r,r,r,r,r,r,trivial⟩,hs.pick (.c (.s .z) (.c (.s .z) (.c (.s .z) (.c (.s .z) (.c (.s .z) (.c (.s .z) (.c (.s .z) (.c (.s .z) (.c .z .n)))))))))⟩)))))
     exact .skipS [14,11,10,9,8,7,5,4,2] r r (.sr (.ks 1 r (.nilS [152,11,10,9,8,7,5,4,2] r r (.condKF r X (.skipS [11,10,9,8,7,5,4,2] r r (.region (.ks 3 r (.nil' fun c w ho hs=>⟨(e,f,h,w64 (a+1)),hd,d7,_,_,_,_,_,_,c7,ho.sub ⟨r,r,r,r,r,r,r,r,trivial⟩,hs.pick (.c .z (.c .z (.c .z (.c .z (.c .z (.c .z (.c .z (.c .z (.c .z .n)))))))))⟩))))))))
   refine .seq ?_
   refine Cod.joinQ (σ:=Bool) hd (fun (e1:Bool) c w=>∃ I_,IH.le H I_∧Ok ⟨163,[],none⟩ [(2,.int .i64 a2),(4,.pointer (some ⟨b4,0,none⟩)),(5,.pointer (some ⟨b5,0,none⟩)),(7,.pointer (some ⟨b6,0,none⟩)),(8,.pointer (some ⟨b7,0,none⟩)),(9,.pointer (some ⟨D,0,none⟩)),(10,.slice F h.length G),(11,.int .i64 a),(12,.int .i64 k.1),(13,.bool k.2),(14,.bool false),(68,.int .i64 a0.Kind),(124,.bool e1)] c∧Sym w0 M I I_ [pto b4 (.cells #[.int .i64 a0.Kind,.int .i64 a0.N,.int .i64 a0.Source,.int .i64 a0.Length,.slice p1 a0.Draws.length c2] 25 (0,0)),pto b5 (.cells #[.int .i64 b.Low,.int .i64 b.High,.slice f6 b.A.length f7,.slice f8 b.B.length f9,.slice g0 b.On.length g1] 36 (0,0)),pto b6 (.cells #[.int .i64 a3.N,.slice p13 a3.Items.length c14] 82 (0,0)),pto b7 (.cells #[.int .i64 0,.int .i64 0,.slice none 0 0,.slice none 0 0,.slice none 0 0] 36 (0,0)),pto D (.cells #[.int .i64 b.Low,.int .i64 b.High,.slice E e.length i,.slice p f.length l,.slice v (([]:List Int)++b.On).length x] 36 (0,0)),OwnSl eI64 2 E i e,OwnSl eI64 2 p l f,OwnSl eU64 96 v x (([]:List Int)++b.On),OwnSl eI64 3 F G h] w) (fun o4 hd=>?_) ?_
   · skip
     refine .sr (.ks 2 r (.nilS [124,68,14,13,12,11,10,9,8,7,5,4,2] r r (.condP r hd (fun g9 hd=>?_) fun g9 hd=>?_)))
     · exact .skip' fun c w ho hs=>⟨(a0.Kind==2),hd,H,(.refl _),ho.sub ⟨r,r,r,r,r,r,r,r,r,r,r,r,r,trivial⟩,hs.pick (.c .z (.c .z (.c .z (.c .z (.c .z (.c .z (.c .z (.c .z (.c .z .n)))))))))⟩
     exact .region (.ks 2 r (.nil' fun c w ho hs=>⟨(a0.Kind==3),hd,H,(.refl _),ho.sub ⟨r,r,r,r,r,r,r,r,r,r,r,r,r,trivial⟩,hs.pick (.c .z (.c .z (.c .z (.c .z (.c .z (.c .z (.c .z (.c .z (.c .z .n)))))))))⟩))
   rintro e1 hd c w hst
   obtain ⟨q,C,hok,hsym⟩:=hst
   have n2:=IH.le.trans V C
   have m:=IH.le.trans u C
   replace R3:=R3.mono C
   replace R15:=R15.mono C
   replace K:=K.mono C
   replace R:=R.mono C
   replace S:=S.mono C
   refine Cod.at hok hsym (.condP r hd (fun h0 hd=>?_) fun h0 hd=>?_)
   · refine .sr (.ks 2 r ?_)
     refine splitP hd (fun a4 hd=>?_) fun a4 hd=>?_
     · rw [a4]
       refine .ks 1 r (.gyes r r r (.fa un36 r sz23 r (o:=2) r r r (.gyes r r r (.load1 ia23 r (.s .z) r r r (.ks 1 r ?_)))))
       obtain ⟨e3,o5,c9,hd⟩:=hd
       obtain ⟨o6,o1213,n3,l3,h1,h2⟩:=K.2 _ _ c9
       cases h2
       refine .gyes r r r (.ixa un23 sz2 r l3 r e3 (idx_lt c9 e3) r r (.gyes r r r (.ld1 (j:=0) ia2 h1 r r r r r (.ks 3 r (.nilS [14,12,11,10,9,8,7,5,4,2] r r (.sr (.ks 1 r (.nilS [137,14,12,11,10,9,8,7,5,4,2] r r (.condP r hd (fun a5 hd=>?_) fun a5 hd=>?_)))))))))
       · refine .region (.fa un36 r sz23 r (o:=2) r r r (.load1 ia23 r (.s (.s (.s (.s .z)))) r r r (.ks 2 r ?_)))
         obtain ⟨e4,o7,a6,hd⟩:=hd
         refine .ownNe (.s (.s (.s (.s (.s .z))))) (idx_ne a6) fun e5 l4=>?_
         cases l4
         refine .ixa0 un23 sz2 r r e4 (idx_lt a6 e4) r r (.stO1 (j:=0) (v':=k.1) sz2 (.s (.s (.s (.s (.s .z))))) a6 r r r (.t .nil) r (.sub (E':=[(2,_),(4,_),(5,_),(7,_),(8,_),(9,_),(10,_),(11,_),(12,_),(14,_),(137,_),(138,_),(139,.slice (some ⟨e5,0,none⟩) (e.set a.toNat k.1).length i),(140,_),(141,_),(142,_)]) ⟨r,r,r,r,r,r,r,r,r,r,r,r,(by simp only [List.length_set]; rfl),r,r,r,trivial⟩ (.reat (.s (.s (.s (.s .z)))) (B:=pto D (.cells #[.int .i64 b.Low,.int .i64 b.High,.slice (some ⟨e5,0,none⟩) (e.set a.toNat k.1).length i,.slice p f.length l,.slice v (([]:List Int)++b.On).length x] 36 (0,0))) (by simp only [List.length_set]) (.nilS [14,11,10,9,8,7,5,4,2] r r (.sr (.ks 1 r (.nilS [152,11,10,9,8,7,5,4,2] r r (.condKT r a5 (.region ?_)))))))))
         refine .ks 2 r (.buildSlice 1 un51 sz3 zv3 r r (.c r r r .n) r r fun o8=>?_)
         obtain ⟨h3,hd⟩:=hd
         refine .append (ys:=[a]) 8 (.s (.s (.s (.s (.s (.s (.s (.s (.s .z))))))))) un51 un51 IN3 r r r r r r r r r (.box .z (.one r) r) h3 r r fun o9 p0=>?_
         exact .ks 1 r (.nilS [10,11,9,8,7,5,4,2] r r (.drop (.s .z) (.region (.ks 3 r (.nil' fun c w ho hs=>⟨((e.set a.toNat k.1),f,(h++([a])),w64 (a+1)),hd,q,_,_,_,_,_,_,m,ho.sub ⟨r,r,r,r,r,r,r,r,trivial⟩,hs.pick (.c (.s .z) (.c (.s .z) (.c (.s .z) (.c (.s .z) (.c (.s .z) (.c (.s .z) (.c (.s .z) (.c (.s .z) (.c .z .n)))))))))⟩)))))
       exact .skipS [14,11,10,9,8,7,5,4,2] r r (.sr (.ks 1 r (.nilS [152,11,10,9,8,7,5,4,2] r r (.condKF r a5 (.skipS [11,10,9,8,7,5,4,2] r r (.region (.ks 3 r (.nil' fun c w ho hs=>⟨(e,f,h,w64 (a+1)),hd,q,_,_,_,_,_,_,m,ho.sub ⟨r,r,r,r,r,r,r,r,trivial⟩,hs.pick (.c .z (.c .z (.c .z (.c .z (.c .z (.c .z (.c .z (.c .z (.c .z .n)))))))))⟩))))))))
     rw [a4]
     refine .ks 9 r (.nilS [14,12,11,10,9,8,7,5,4,2] r r (.sr (.ks 1 r (.nilS [137,14,12,11,10,9,8,7,5,4,2] r r (.condKF r r (.skipS [14,11,10,9,8,7,5,4,2] r r (.sr (.ks 1 r (.nilS [152,11,10,9,8,7,5,4,2] r r ?_)))))))))
     exact .condKF r r (.skipS [11,10,9,8,7,5,4,2] r r (.region (.ks 3 r (.nil' fun c w ho hs=>⟨(e,f,h,w64 (a+1)),hd,q,_,_,_,_,_,_,m,ho.sub ⟨r,r,r,r,r,r,r,r,trivial⟩,hs.pick (.c .z (.c .z (.c .z (.c .z (.c .z (.c .z (.c .z (.c .z (.c .z .n)))))))))⟩))))
   refine .sr (.ks 2 r (.nilS [143,14,13,12,11,10,9,8,7,5,4,2] r r (.condP r hd (fun h4 hd=>?_) fun h4 hd=>?_)))
   · refine .sr (.fa un36 r sz23 r (o:=2) r r r (.load1 ia23 r (.s (.s (.s (.s .z)))) r r r (.ks 2 r ?_)))
     obtain ⟨e6,p2,a7,hd⟩:=hd
     refine .ownNe (.s (.s (.s (.s (.s .z))))) (idx_ne a7) fun e7 l5=>?_
     cases l5
     refine .ixa0 un23 sz2 r r e6 (idx_lt a7 e6) r r (.stO1 (j:=0) (v':=k.1) sz2 (.s (.s (.s (.s (.s .z))))) a7 r r r (.t .nil) r (.sub (E':=[(2,_),(4,_),(5,_),(7,_),(8,_),(9,_),(10,_),(11,_),(12,_),(13,_),(14,_),(143,_),(145,_),(146,.slice (some ⟨e7,0,none⟩) (e.set a.toNat k.1).length i),(147,_),(148,_),(149,_)]) ⟨r,r,r,r,r,r,r,r,r,r,r,r,r,(by simp only [List.length_set]; rfl),r,r,r,trivial⟩ (.reat (.s (.s (.s (.s .z)))) (B:=pto D (.cells #[.int .i64 b.Low,.int .i64 b.High,.slice (some ⟨e7,0,none⟩) (e.set a.toNat k.1).length i,.slice p f.length l,.slice v (([]:List Int)++b.On).length x] 36 (0,0))) (by simp only [List.length_set]) (.nilS [12,11,10,9,8,7,5,4,2] r r (.region (.ks 3 r (.nilS [14,11,10,9,8,7,5,4,2] r r (.sr (.ks 1 r ?_)))))))))
     refine .nilS [152,11,10,9,8,7,5,4,2] r r (.condP r hd (fun h5 hd=>?_) fun h5 hd=>?_)
     · refine .region (.ks 2 r (.buildSlice 1 un51 sz3 zv3 r r (.c r r r .n) r r fun p3=>?_))
       obtain ⟨h6,hd⟩:=hd
       refine .append (ys:=[a]) 8 (.s (.s (.s (.s (.s (.s (.s (.s (.s .z))))))))) un51 un51 IN3 r r r r r r r r r (.box .z (.one r) r) h6 r r fun p5 p6=>?_
       exact .ks 1 r (.nilS [10,11,9,8,7,5,4,2] r r (.drop (.s .z) (.region (.ks 3 r (.nil' fun c w ho hs=>⟨((e.set a.toNat k.1),f,(h++([a])),w64 (a+1)),hd,q,_,_,_,_,_,_,m,ho.sub ⟨r,r,r,r,r,r,r,r,trivial⟩,hs.pick (.c (.s .z) (.c (.s .z) (.c (.s .z) (.c (.s .z) (.c (.s .z) (.c (.s .z) (.c (.s .z) (.c (.s .z) (.c .z .n)))))))))⟩)))))
     exact .skipS [11,10,9,8,7,5,4,2] r r (.region (.ks 3 r (.nil' fun c w ho hs=>⟨((e.set a.toNat k.1),f,h,w64 (a+1)),hd,q,_,_,_,_,_,_,m,ho.sub ⟨r,r,r,r,r,r,r,r,trivial⟩,hs.pick (.c .z (.c .z (.c .z (.c .z (.c .z (.c .z (.c .z (.c .z (.c .z .n)))))))))⟩)))
   refine .seq (.sr (.fa un36 r sz23 r (o:=2) r r r (.load1 ia23 r (.s .z) r r r (.ks 1 r ?_))))
   obtain ⟨e8,p8,d0,hd⟩:=hd
   obtain ⟨p9,o1257,n4,l6,h7,h8⟩:=K.2 _ _ d0
   cases h8
   refine .ixa un23 sz2 r l6 r e8 (idx_lt d0 e8) r r (.ld1 (j:=0) ia2 h7 r r r r r (.ks 1 r (.nilS [74,14,13,12,11,10,9,8,7,5,4,2] r r (.condP r hd (fun h9 hd=>?_) fun h9 hd=>?_))))
   · exact .exitS [14,11,10,9,8,7,5,4,2] r r (.sr (.ks 1 r (.nilS [152,11,10,9,8,7,5,4,2] r r (.condKF r r (.skipS [11,10,9,8,7,5,4,2] r r (.region (.ks 3 r (.nil' fun c w ho hs=>⟨(e,f,h,w64 (a+1)),hd,q,_,_,_,_,_,_,m,ho.sub ⟨r,r,r,r,r,r,r,r,trivial⟩,hs.pick (.c .z (.c .z (.c .z (.c .z (.c .z (.c .z (.c .z (.c .z (.c .z .n)))))))))⟩))))))))
   refine .skipS [14,13,12,11,10,9,8,7,5,4,2] r r (.seq (.sr (.ks 1 r (.rem r r (by decide) r r (.ks 1 r (.nilS [77,14,13,12,11,10,9,8,7,5,4,2] r r (.condP r hd (fun i0 hd=>?_) fun i0 hd=>?_)))))))
   · refine .seq (.sr (.ks 1 r (.nilS [78,14,11,10,9,8,7,5,4,2] r r (.condP r hd (fun i1 hd=>?_) fun i1 hd=>?_))))
     · refine .region (.fa un36 r sz23 r (o:=2) r r r (.load1 ia23 r (.s (.s (.s (.s .z)))) r r r (.ks 1 r ?_)))
       obtain ⟨e9,q0,a8,hd⟩:=hd
       refine .ownNe (.s (.s (.s (.s (.s .z))))) (idx_ne a8) fun f0 l7=>?_
       cases l7
       refine .ixa0 un23 sz2 r r e9 (idx_lt a8 e9) r r (.stO1 (j:=0) (v':=2) sz2 (.s (.s (.s (.s (.s .z))))) a8 r r r (.t .nil) r (.sub (E':=[(2,_),(4,_),(5,_),(7,_),(8,_),(9,_),(10,_),(11,_),(14,_),(78,_),(79,_),(80,.slice (some ⟨f0,0,none⟩) (e.set a.toNat 2).length i),(81,_),(82,_)]) ⟨r,r,r,r,r,r,r,r,r,r,r,(by simp only [List.length_set]; rfl),r,r,trivial⟩ (.reat (.s (.s (.s (.s .z)))) (B:=pto D (.cells #[.int .i64 b.Low,.int .i64 b.High,.slice (some ⟨f0,0,none⟩) (e.set a.toNat 2).length i,.slice p f.length l,.slice v (([]:List Int)++b.On).length x] 36 (0,0))) (by simp only [List.length_set]) (.nilS [14,11,10,9,8,7,5,4,2] r r (.exitS [14,11,10,9,8,7,5,4,2] r r (.sr (.ks 1 r (.nilS [152,11,10,9,8,7,5,4,2] r r (.condKF r r ?_)))))))))
       exact .skipS [11,10,9,8,7,5,4,2] r r (.region (.ks 3 r (.nil' fun c w ho hs=>⟨((e.set a.toNat 2),f,h,w64 (a+1)),hd,q,_,_,_,_,_,_,m,ho.sub ⟨r,r,r,r,r,r,r,r,trivial⟩,hs.pick (.c .z (.c .z (.c .z (.c .z (.c .z (.c .z (.c .z (.c .z (.c .z .n)))))))))⟩)))
     exact .skipS [14,11,10,9,8,7,5,4,2] r r (.exitS [14,11,10,9,8,7,5,4,2] r r (.sr (.ks 1 r (.nilS [152,11,10,9,8,7,5,4,2] r r (.condKF r r (.skipS [11,10,9,8,7,5,4,2] r r (.region (.ks 3 r (.nil' fun c w ho hs=>⟨(e,f,h,w64 (a+1)),hd,q,_,_,_,_,_,_,m,ho.sub ⟨r,r,r,r,r,r,r,r,trivial⟩,hs.pick (.c .z (.c .z (.c .z (.c .z (.c .z (.c .z (.c .z (.c .z (.c .z .n)))))))))⟩)))))))))
   refine .skipS [13,12,11,10,9,8,7,5,4,2] r r (.seq (.dr [0,1,2,3,4,5,7,8,9,10,6,11,12,13] 14 (.fk 3 r ?_)))
   refine splitP hd (fun d hd=>?_) fun d hd=>?_
   · refine .g r r r (fun _=>.gno r r d r r .mk) (.g r r r (fun _=>.gno r r d r r .mk) (.g r r r (fun _=>.gno r r d r r .mk) (.g r r r (fun _=>.gno r r d r r .mk) (.g r r r (fun _=>.gno r r d r r .mk) (.g r r r (fun _=>.gno r r d r r .mk) (.g r r r (fun _=>.gno r r d r r .mk) (.g r r r (fun _=>.gno r r d r r .mk) (.g r r r (fun _=>.gno r r d r r .mk) (.g r r r (fun _=>.gno r r d r r .mk) ?_)))))))))
     refine .g r r r (fun _=>.pickT r d r r r .mk) (.e2 14 (.ks 1 r (.nilS [14,11,10,9,8,7,5,4,2] r r (.sr (.ks 1 r (.nilS [97,14,11,10,9,8,7,5,4,2] r r (.condKT r r (.region (.fa un36 r sz23 r (o:=2) r r r ?_)))))))))
     refine .load1 ia23 r (.s (.s (.s (.s .z)))) r r r (.ks 1 r ?_)
     obtain ⟨f1,q1,a9,hd⟩:=hd
     refine .ownNe (.s (.s (.s (.s (.s .z))))) (idx_ne a9) fun f2 l8=>?_
     cases l8
     refine .ixa0 un23 sz2 r r f1 (idx_lt a9 f1) r r (.stO1 (j:=0) (v':=1) sz2 (.s (.s (.s (.s (.s .z))))) a9 r r r (.t .nil) r (.sub (E':=[(2,_),(4,_),(5,_),(7,_),(8,_),(9,_),(10,_),(11,_),(14,_),(97,_),(98,_),(99,.slice (some ⟨f2,0,none⟩) (e.set a.toNat 1).length i),(100,_),(101,_)]) ⟨r,r,r,r,r,r,r,r,r,r,r,(by simp only [List.length_set]; rfl),r,r,trivial⟩ (.reat (.s (.s (.s (.s .z)))) (B:=pto D (.cells #[.int .i64 b.Low,.int .i64 b.High,.slice (some ⟨f2,0,none⟩) (e.set a.toNat 1).length i,.slice p f.length l,.slice v (([]:List Int)++b.On).length x] 36 (0,0))) (by simp only [List.length_set]) (.nilS [14,11,10,9,8,7,5,4,2] r r (.sr (.ks 1 r (.nilS [152,11,10,9,8,7,5,4,2] r r (.condKT r r (.region ?_)))))))))
     refine .ks 2 r (.buildSlice 1 un51 sz3 zv3 r r (.c r r r .n) r r fun q2=>?_)
     obtain ⟨i2,hd⟩:=hd
     refine .append (ys:=[a]) 8 (.s (.s (.s (.s (.s (.s (.s (.s (.s .z))))))))) un51 un51 IN3 r r r r r r r r r (.box .z (.one r) r) i2 r r fun q3 q4=>?_
     exact .ks 1 r (.nilS [10,11,9,8,7,5,4,2] r r (.drop (.s .z) (.region (.ks 3 r (.nil' fun c w ho hs=>⟨((e.set a.toNat 1),f,(h++([a])),w64 (a+1)),hd,q,_,_,_,_,_,_,m,ho.sub ⟨r,r,r,r,r,r,r,r,trivial⟩,hs.pick (.c (.s .z) (.c (.s .z) (.c (.s .z) (.c (.s .z) (.c (.s .z) (.c (.s .z) (.c (.s .z) (.c (.s .z) (.c .z .n)))))))))⟩)))))
   refine .g r r r (fun _=>.gyes r r d (.move r r r .mk)) (.g r r r (fun _=>.gyes r r d (.loadW ia25 sz25 r .z r r r .mk)) (.g r r r (fun _=>.gyes r r d (.move r r r .mk)) (.g r r r (fun _=>.gyes r r d (.fa un36 r sz3 r (o:=0) r r r .mk)) (.g r r r (fun _=>.gyes r r d (.load1 ia3 r (.s .z) r r r .mk)) (.g r r r (fun _=>.gyes r r d (.move r r r .mk)) (.g r r r (fun _=>.gyes r r d (.add r r r r .mk)) (.ww r fun ex=>?_)))))))
   have i3:=W_ref21_draw (I:=q) hd
   refine .gyes r r d (.callP call151 r i3 r r fun q5 i4=>?_)
   obtain ⟨q6,rfl,hd⟩:=i4
   refine .so 9 r r r (.cg r r r r (fun _=>.gyes r r d (.add r r r r .mk)) (.cg r r r r (fun _=>.gyes r r d (.move r r r .mk)) (.cg r r r r (fun _=>.gyes r r d (.load1 ia3 r (.s .z) r r r .mk)) (.cg r r r r (fun _=>.gyes r r d (.fa un36 r sz3 r (o:=0) r r r .mk)) (.cg r r r r (fun _=>.gyes r r d (.loadW ia25 sz25 r .z r r r .mk)) (.cg r r r r (fun _=>.gyes r r d (.move r r r .mk)) trivial)))))) (.ww r fun ex=>?_)
   have i5:=W_ref21_Draw (I:=q) R3 hd
   refine .gyes r r d (.callP call150 r i5 r r fun q7 i6=>?_)
   obtain ⟨q8,rfl,hd⟩:=i6
   refine .so 9 r r r (.cg r r r r (fun _=>.gyes r r d (.move r r r .mk)) trivial) (.g r r r (fun _=>.gyes r r d (.gt r r r r .mk)) (.g r r r (fun _=>.pickF r d r r r .mk) (.e2 14 (.ks 1 r (.nilS [14,11,10,9,8,7,5,4,2] r r (.sr (.ks 1 r (.nilS [97,14,11,10,9,8,7,5,4,2] r r (.condP r hd (fun b0 hd=>?_) fun b0 hd=>?_)))))))))
   · refine .region (.fa un36 r sz23 r (o:=2) r r r (.load1 ia23 r (.s (.s (.s (.s .z)))) r r r (.ks 1 r ?_)))
     obtain ⟨f3,q9,b1,hd⟩:=hd
     refine .ownNe (.s (.s (.s (.s (.s .z))))) (idx_ne b1) fun f4 l9=>?_
     cases l9
     refine .ixa0 un23 sz2 r r f3 (idx_lt b1 f3) r r (.stO1 (j:=0) (v':=1) sz2 (.s (.s (.s (.s (.s .z))))) b1 r r r (.t .nil) r (.sub (E':=[(2,_),(4,_),(5,_),(7,_),(8,_),(9,_),(10,_),(11,_),(14,_),(97,_),(98,_),(99,.slice (some ⟨f4,0,none⟩) (e.set a.toNat 1).length i),(100,_),(101,_)]) ⟨r,r,r,r,r,r,r,r,r,r,r,(by simp only [List.length_set]; rfl),r,r,trivial⟩ (.reat (.s (.s (.s (.s .z)))) (B:=pto D (.cells #[.int .i64 b.Low,.int .i64 b.High,.slice (some ⟨f4,0,none⟩) (e.set a.toNat 1).length i,.slice p f.length l,.slice v (([]:List Int)++b.On).length x] 36 (0,0))) (by simp only [List.length_set]) (.nilS [14,11,10,9,8,7,5,4,2] r r (.sr (.ks 1 r (.nilS [152,11,10,9,8,7,5,4,2] r r (.condKT r b0 (.region ?_)))))))))
     refine .ks 2 r (.buildSlice 1 un51 sz3 zv3 r r (.c r r r .n) r r fun r0=>?_)
     obtain ⟨i7,hd⟩:=hd
     refine .append (ys:=[a]) 8 (.s (.s (.s (.s (.s (.s (.s (.s (.s .z))))))))) un51 un51 IN3 r r r r r r r r r (.box .z (.one r) r) i7 r r fun r1 r2=>?_
     exact .ks 1 r (.nilS [10,11,9,8,7,5,4,2] r r (.drop (.s .z) (.region (.ks 3 r (.nil' fun c w ho hs=>⟨((e.set a.toNat 1),f,(h++([a])),w64 (a+1)),hd,q,_,_,_,_,_,_,m,ho.sub ⟨r,r,r,r,r,r,r,r,trivial⟩,hs.pick (.c (.s .z) (.c (.s .z) (.c (.s .z) (.c (.s .z) (.c (.s .z) (.c (.s .z) (.c (.s .z) (.c (.s .z) (.c .z .n)))))))))⟩)))))
   exact .skipS [14,11,10,9,8,7,5,4,2] r r (.sr (.ks 1 r (.nilS [152,11,10,9,8,7,5,4,2] r r (.condKF r b0 (.skipS [11,10,9,8,7,5,4,2] r r (.region (.ks 3 r (.nil' fun c w ho hs=>⟨(e,f,h,w64 (a+1)),hd,q,_,_,_,_,_,_,m,ho.sub ⟨r,r,r,r,r,r,r,r,trivial⟩,hs.pick (.c .z (.c .z (.c .z (.c .z (.c .z (.c .z (.c .z (.c .z (.c .z .n)))))))))⟩))))))))
 refine .exitS [10,9,8,7] r r (.drop .z (.drop .z (.sr (.fa un82 r sz3 r (o:=0) r r r (.load1 ia3 r .z r r r (.ks 1 r (.pub (.s (.s (.s (.s (.s (.s .z)))))) fun m0 b2 c3=>?_)))))))
 have i8:=IH.le.trans V b2
 have i9:=IH.le.trans u b2
 replace R15:=R15.mono b2
 have j0:=W_ref03_Of (I:=m0) c3 hd
 refine .call call88 r j0 r r fun r3 r4 L j1=>?_
 obtain ⟨m1,r5,r6,rfl,O,hd⟩:=j1
 have j2:=IH.le.trans i8 L
 have j3:=IH.le.trans i9 L
 replace R15:=R15.mono L
 replace c3:=c3.mono L
 refine .fa un36 r sz34 r (o:=4) r r r (.store1 sz34 r r (.s (.s .z)) (.s (.s (.s (.s (.t .nil))))) r (.nilS [9,8] r r (.drop .z (.drop (.s (.s (.s (.s .z)))) (.sr (.loadW ia36 sz36 r (.s .z) r r r (.storeA sz36 r r .z (.t (.t (.t (.t (.t .nil))))) r r (.nilS [8] r r (.drop (.s .z) ?_)))))))))
 refine .pub (.s .z) fun r7 b3 c4=>?_
 have j4:=IH.le.trans j2 b3
 have j5:=IH.le.trans j3 b3
 replace O:=O.mono b3
 refine .pub (.s .z) fun r8 P m2=>?_
 have j6:=IH.le.trans j4 P
 have n5:=IH.le.trans j5 P
 replace O:=O.mono P
 replace c4:=c4.mono P
 exact .ret (pret results97 (.w ia36 sz36 r .z r .n) j6 ⟨({ Low:=b.Low,High:=b.High,A:=e,B:=f,On:=m1 }:State),_,_,_,_,_,_,r,c4,m2,O,hd⟩)
theorem W_ref22_Step {I:IH} {a0:Plan} {a1:Rows} {a2:State} {a3:Int} {p1:Option Addr} {c2:Nat} {p4:Option Addr} {c5:Nat} {p7:Option Addr} {c8:Nat} {p10:Option Addr} {c11:Nat} {p13:Option Addr} {c14:Nat} {p16:Option Addr} {c17:Nat} {p19:Option Addr} {c20:Nat} {Q:(State×Int)→Prop} (R3:RepSl eI64 I p1 c2 a0.Draws) (R6:RepSl eI64 I p4 c5 a1.Start) (R9:RepSl eI64 I p7 c8 a1.Col) (R12:RepSl eI64 I p10 c11 a1.Val) (R15:RepSl eI64 I p13 c14 a2.A) (R18:RepSl eI64 I p16 c17 a2.B) (R21:RepSl eU64 I p19 c20 a2.On) (hd:ref22_Step a0 a1 a2 a3 Q) :
  PFun prog 50 [.agg #[.int .i64 a0.Kind,.int .i64 a0.N,.int .i64 a0.Source,.int .i64 a0.Length,.slice p1 a0.Draws.length c2],.agg #[.int .i64 a1.Rows,.int .i64 a1.Cols,.slice p4 a1.Start.length c5,.slice p7 a1.Col.length c8,.slice p10 a1.Val.length c11],.agg #[.int .i64 a2.Low,.int .i64 a2.High,.slice p13 a2.A.length c14,.slice p16 a2.B.length c17,.slice p19 a2.On.length c20],.int .i64 a3] I (o26_ Q):=by
 refine Fun.enter func50 r ntmps50 r (.c (.c (.c (.c .n)))) fun w0 M=>?_
 refine .sr (.boxA r r r fun h6=>?_)
 refine .boxA r r r fun h7=>?_
 refine .boxA r r r fun h8=>?_
 refine .allocA zv36 r r fun h9=>?_
 refine .ks 1 r (.nilS [8,6,5,4,3] r r (.seq (.sr (.loadW ia25 sz25 r (.s (.s (.s .z))) r r r ?_))))
 have b5:=W_ref21_Right (I:=I) R3 hd
 refine .callP call30 r b5 r r fun i0 b6=>?_
 obtain ⟨d4,rfl,hd⟩:=b6
 refine .ks 1 r (.nilS [10,8,6,5,4,3] r r (.sr (.ks 2 r (.nilS [19,10,8,6,5,4,3] r r (.condP r hd (fun b7 hd=>?_) fun b7 hd=>?_)))))
 · exact .sr (.build zv36 un36 BI36 .n (by exact trivial) r r (.ks 1 r (.storeA sz36 r r .z (.t (.t (.t (.t (.t .nil))))) r r (.ks 1 r (.nilS [9,8] r r (.drop (.s .z) (.drop (.s .z) (.drop (.s .z) (.ret (pret results50 (.w ia36 sz36 r .z r (.t r .n)) (.refl _) ⟨(({ Low:=0,High:=0,A:=([]:List Int),B:=([]:List Int),On:=([]:List Int) }:State),d4),_,_,_,_,_,_,r,(.nil _ _ _),(.nil _ _ _),(.nil _ _ _),hd⟩))))))))))
 refine .skipS [8,6,5,4,3] r r (.sr (.loadW ia53 sz53 r (.s (.s .z)) r r r ?_))
 have b8:=W_ref07_Sure (I:=I) R6 R9 R12 hd
 refine .call call91 r b8 r r fun i1 d5 j b9=>?_
 obtain ⟨i2,i3,i4,i5,i6,i7,i8,rfl,k,l,m,hd⟩:=b9
 replace R3:=R3.mono j
 replace R6:=R6.mono j
 replace R9:=R9.mono j
 replace R12:=R12.mono j
 replace R15:=R15.mono j
 replace R18:=R18.mono j
 replace R21:=R21.mono j
 refine .storeA sz53 r r (.s (.s .z)) (.t (.t (.t (.t (.t .nil))))) r r (.nilS [8,6,5,4,3] r r (.sr (.loadW ia25 sz25 r (.s (.s (.s .z))) r r r (.loadW ia36 sz36 r (.s .z) r r r ?_))))
 have O:=W_ref21_Sure (I:=d5) R3 R15 R18 R21 hd
 refine .call call89 r O r r fun d6 J h P=>?_
 obtain ⟨d7,d8,d9,e0,e1,e3,e4,rfl,c0,c1,c3,hd⟩:=P
 have p:=IH.le.trans j h
 replace R3:=R3.mono h
 replace R15:=R15.mono h
 replace R18:=R18.mono h
 replace R21:=R21.mono h
 replace k:=k.mono h
 replace l:=l.mono h
 replace m:=m.mono h
 refine .allocA zv36 r r fun e5=>?_
 refine .storeA sz36 r r .z (.t (.t (.t (.t (.t .nil))))) r r (.nilS [11,8,6,5,4,3] r r (.seq (.sr (.fa un53 r sz3 r (o:=0) r r r (.load1 ia3 r (.s (.s (.s .z))) r r r (.fa un25 r sz3 r (o:=1) r r r (.load1 ia3 r (.s (.s (.s (.s .z)))) r r r (.ks 2 r ?_))))))))
 refine splitP hd (fun x hd=>?_) fun x hd=>?_
 · rw [x]
   refine .ks 24 r (.nilS [56,8,6,5,4,3] r r (.drop .z (.condKT r r (.sr (.build zv36 un36 BI36 .n (by exact trivial) r r (.storeA sz36 r r .z (.t (.t (.t (.t (.t .nil))))) r r (.ks 1 r (.nilS [9,8] r r (.drop (.s .z) ?_)))))))))
   exact .drop (.s .z) (.drop (.s .z) (.ret (pret results50 (.w ia36 sz36 r .z r (.t r .n)) p ⟨(({ Low:=0,High:=0,A:=([]:List Int),B:=([]:List Int),On:=([]:List Int) }:State),4),_,_,_,_,_,_,r,(.nil _ _ _),(.nil _ _ _),(.nil _ _ _),hd⟩)))
 rw [x]
 refine .gyes r r r (.fa un53 r sz3 r (o:=1) r r r (.gyes r r r (.load1 ia3 r (.s (.s (.s .z))) r r r (.gyes r r r (.fa un25 r sz3 r (o:=1) r r r (.gyes r r r (.load1 ia3 r (.s (.s (.s (.s .z)))) r r r (.ks 3 r ?_))))))))
 refine splitP hd (fun y hd=>?_) fun y hd=>?_
 · rw [y]
   refine .ks 17 r (.nilS [56,8,6,5,4,3] r r (.drop .z (.condKT r r (.sr (.build zv36 un36 BI36 .n (by exact trivial) r r (.storeA sz36 r r .z (.t (.t (.t (.t (.t .nil))))) r r (.ks 1 r (.nilS [9,8] r r (.drop (.s .z) ?_)))))))))
   exact .drop (.s .z) (.drop (.s .z) (.ret (pret results50 (.w ia36 sz36 r .z r (.t r .n)) p ⟨(({ Low:=0,High:=0,A:=([]:List Int),B:=([]:List Int),On:=([]:List Int) }:State),4),_,_,_,_,_,_,r,(.nil _ _ _),(.nil _ _ _),(.nil _ _ _),hd⟩)))
 rw [y]
 refine .gyes r r r (.loadW ia36 sz36 r .z r r r (.gyes r r r (.loadW ia36 sz36 r (.s (.s .z)) r r r ?_)))
 have R:=W_ref21_Same (I:=J) c0 c1 c3 R15 R18 R21 hd
 refine .gyes r r r (.callP call15 r R r r fun e6 S=>?_)
 obtain ⟨e7,rfl,hd⟩:=S
 refine .ks 3 r ?_
 refine splitP hd (fun C hd=>?_) fun C hd=>?_
 · rw [C]
   refine .ks 11 r (.nilS [56,8,6,5,4,3] r r (.drop .z (.condKT r r (.sr (.build zv36 un36 BI36 .n (by exact trivial) r r (.storeA sz36 r r .z (.t (.t (.t (.t (.t .nil))))) r r (.ks 1 r (.nilS [9,8] r r (.drop (.s .z) ?_)))))))))
   exact .drop (.s .z) (.drop (.s .z) (.ret (pret results50 (.w ia36 sz36 r .z r (.t r .n)) p ⟨(({ Low:=0,High:=0,A:=([]:List Int),B:=([]:List Int),On:=([]:List Int) }:State),4),_,_,_,_,_,_,r,(.nil _ _ _),(.nil _ _ _),(.nil _ _ _),hd⟩)))
 rw [C]
 refine .gyes r r r (.fa un36 r sz3 r (o:=0) r r r (.gyes r r r (.load1 ia3 r (.s (.s .z)) r r r (.ks 3 r ?_))))
 refine splitP hd (fun D hd=>?_) fun D hd=>?_
 · rw [D]
   refine .ks 6 r (.nilS [56,8,6,5,4,3] r r (.drop .z (.condKT r r (.sr (.build zv36 un36 BI36 .n (by exact trivial) r r (.storeA sz36 r r .z (.t (.t (.t (.t (.t .nil))))) r r (.ks 1 r (.nilS [9,8] r r (.drop (.s .z) ?_)))))))))
   exact .drop (.s .z) (.drop (.s .z) (.ret (pret results50 (.w ia36 sz36 r .z r (.t r .n)) p ⟨(({ Low:=0,High:=0,A:=([]:List Int),B:=([]:List Int),On:=([]:List Int) }:State),4),_,_,_,_,_,_,r,(.nil _ _ _),(.nil _ _ _),(.nil _ _ _),hd⟩)))
 rw [D]
 refine .gyes r r r (.fa un36 r sz3 r (o:=1) r r r (.gyes r r r (.load1 ia3 r (.s (.s .z)) r r r (.gyes r r r (.fa un25 r sz3 r (o:=1) r r r (.gyes r r r (.load1 ia3 r (.s (.s (.s (.s .z)))) r r r (.ks 2 r (.nilS [56,8,6,5,4,3] r r (.drop .z (.condP r hd (fun T hd=>?_) fun T hd=>?_)))))))))))
 · exact .sr (.build zv36 un36 BI36 .n (by exact trivial) r r (.storeA sz36 r r .z (.t (.t (.t (.t (.t .nil))))) r r (.ks 1 r (.nilS [9,8] r r (.drop (.s .z) (.drop (.s .z) (.drop (.s .z) (.ret (pret results50 (.w ia36 sz36 r .z r (.t r .n)) p ⟨(({ Low:=0,High:=0,A:=([]:List Int),B:=([]:List Int),On:=([]:List Int) }:State),4),_,_,_,_,_,_,r,(.nil _ _ _),(.nil _ _ _),(.nil _ _ _),hd⟩)))))))))
 refine .skipS [8,6,5,4,3] r r (.sr (.loadW ia25 sz25 r (.s (.s (.s .z))) r r r (.loadW ia36 sz36 r (.s .z) r r r (.ks 1 r ?_))))
 have U:=W_ref21_Asked (I:=J) R3 R15 R18 R21 hd
 refine .call call92 r U r r fun e8 K i V=>?_
 obtain ⟨e9,f0,f1,rfl,u,hd⟩:=V
 have W:=IH.le.trans p i
 replace R3:=R3.mono i
 replace R15:=R15.mono i
 replace R18:=R18.mono i
 replace R21:=R21.mono i
 replace k:=k.mono i
 replace l:=l.mono i
 replace m:=m.mono i
 refine .ks 5 r (.nilS [13,12,8,6,5,4,3] r r (.seq (.dr [0,1,2,4,5,6,7,10,11,16,3,8,9,12,13,14,15,999,17] 18 (.g r r r (fun _=>.fa un25 r sz22 r (o:=0) r r r .mk) (.g r r r (fun _=>.load1 ia22 r (.s (.s (.s .z))) r r r .mk) (.fk 1 r (.g r r r (fun _=>.loadW ia53 sz53 r (.s (.s .z)) r r r .mk) (.g r r r (fun _=>.loadW ia25 sz25 r (.s (.s (.s .z))) r r r .mk) (.g r r r (fun _=>.loadW ia36 sz36 r (.s .z) r r r .mk) ?_)))))))))
 refine .fk 3 r (.a (fun b=>.pointer (some ⟨b,0,none⟩)) (fun b=>pto b (.cells #[.int .i64 0,.slice none 0 0] 82 (0,0))) r r r r (fun _ L hL ex=>.allocA zv82 r r fun b=>.mk (val:=fun b=>.pointer (some ⟨b,0,none⟩)) (atom:=fun b=>pto b (.cells #[.int .i64 0,.slice none 0 0] 82 (0,0))) hL b) (.ww r fun ex=>?_))
 have X:=W_ref21_Ring (I:=K) hd
 refine .callP call94 r X r r fun f2 Y=>?_
 obtain ⟨f3,rfl,hd⟩:=Y
 refine .so 4 r r r (.ck 3 r r (.cg r r r r (fun _=>.loadW ia36 sz36 r (.s .z) r r r .mk) (.cg r r r r (fun _=>.loadW ia25 sz25 r (.s (.s (.s .z))) r r r .mk) (.cg r r r r (fun _=>.loadW ia53 sz53 r (.s (.s .z)) r r r .mk) trivial)))) (.ww r fun ex=>?_)
 have Z:=W_ref21_Out (I:=K) R3 R15 R18 R21 hd
 refine .call call96 r Z r r fun f4 c4 f a4=>?_
 obtain ⟨f5,f6,f7,rfl,v,hd⟩:=a4
 have a5:=IH.le.trans W f
 replace R3:=R3.mono f
 replace R15:=R15.mono f
 replace R18:=R18.mono f
 replace R21:=R21.mono f
 replace k:=k.mono f
 replace l:=l.mono f
 replace m:=m.mono f
 replace u:=u.mono f
 refine .so 4 r r r (.ck 2 r r (.cg r r r r (fun _=>.loadW ia53 sz53 r (.s (.s .z)) r r r .mk) trivial)) (.ww r fun ex=>?_)
 have a6:=W_ref10_Of (I:=c4) v hd
 refine .call call95 r a6 r r fun f8 c6 e a7=>?_
 obtain ⟨f9,g0,g1,g2,g3,rfl,E,F,hd⟩:=a7
 have a8:=IH.le.trans a5 e
 replace R3:=R3.mono e
 replace R15:=R15.mono e
 replace R18:=R18.mono e
 replace R21:=R21.mono e
 replace k:=k.mono e
 replace l:=l.mono e
 replace m:=m.mono e
 replace u:=u.mono e
 replace v:=v.mono e
 refine .so 4 r r r (.ck 2 r r (.cg r r r r (fun _=>.loadW ia53 sz53 r (.s (.s .z)) r r r .mk) trivial)) (.ww r fun ex=>?_)
 have a9:=W_ref13_Times (I:=c6) k l m E F u hd
 refine .call call93 r a9 r r fun g4 c7 d b0=>?_
 obtain ⟨c9,g5,g6,rfl,G,hd⟩:=b0
 have H:=IH.le.trans a8 d
 replace R3:=R3.mono d
 replace R15:=R15.mono d
 replace R18:=R18.mono d
 replace R21:=R21.mono d
 replace k:=k.mono d
 replace l:=l.mono d
 replace m:=m.mono d
 replace u:=u.mono d
 replace v:=v.mono d
 replace E:=E.mono d
 replace F:=F.mono d
 refine .so 4 r r r trivial (.fk 3 r (.b r fun g7=>DrawD.nop (.ww r fun ex=>?_)))
 refine .storeA sz82 r r (.s (.s (.s (.s .z)))) (.t (.t .nil)) r r (.sn 5 r r r (.ck 1 r r trivial) (.e2 18 (.ks 1 r (.nilS [15,14,8,6,4,3] r r (.drop (.s (.s .z)) (.seq (.sr (.ks 2 r (.nilS [82,15,14,8,6,4,3] r r ?_)))))))))
 refine .condP r hd (fun b1 hd=>?_) fun b1 hd=>?_
 · exact .sr (.build zv36 un36 BI36 .n (by exact trivial) r r (.ks 1 r (.storeA sz36 r r .z (.t (.t (.t (.t (.t .nil))))) r r (.ks 1 r (.nilS [9,8] r r (.drop (.s .z) (.drop (.s .z) (.drop (.s .z) (.ret (pret results50 (.w ia36 sz36 r .z r (.t r .n)) H ⟨(({ Low:=0,High:=0,A:=([]:List Int),B:=([]:List Int),On:=([]:List Int) }:State),c9.2),_,_,_,_,_,_,r,(.nil _ _ _),(.nil _ _ _),(.nil _ _ _),hd⟩))))))))))
 refine .skipS [14,8,6,4,3] r r (.sr (.loadW ia25 sz25 r (.s (.s .z)) r r r (.loadW ia36 sz36 r (.s .z) r r r (.ks 1 r (.loadW ia82 sz82 r (.s (.s (.s .z))) r r r ?_)))))
 have b2:=W_ref21_Update (I:=c7) R3 R15 R18 R21 G hd
 refine .call call97 r b2 r r fun g8 g9 q b3=>?_
 obtain ⟨d0,h0,h1,h2,h3,h4,h5,rfl,d1,d2,d3,hd⟩:=b3
 have b4:=IH.le.trans H q
 replace R3:=R3.mono q
 replace R15:=R15.mono q
 replace R18:=R18.mono q
 replace R21:=R21.mono q
 replace G:=G.mono q
 exact .storeA sz36 r r .z (.t (.t (.t (.t (.t .nil))))) r r (.ks 1 r (.nilS [9,8] r r (.drop (.s .z) (.drop (.s .z) (.drop (.s .z) (.ret (pret results50 (.w ia36 sz36 r .z r (.t r .n)) b4 ⟨(d0,0),_,_,_,_,_,_,r,d1,d2,d3,hd⟩)))))))
theorem W_ref22_all {I:IH} {a0:Plan} {a1:Graph} {a2:Int} {p1:Option Addr} {c2:Nat} {p4:Option Addr} {c5:Nat} {Q:((List State)×Int)→Prop} (R3:RepSl eI64 I p1 c2 a0.Draws) (R6:RepSl eEdge I p4 c5 a1.Edges) (hd:ref22_all a0 a1 a2 Q) :
  PFun prog 24 [.agg #[.int .i64 a0.Kind,.int .i64 a0.N,.int .i64 a0.Source,.int .i64 a0.Length,.slice p1 a0.Draws.length c2],.agg #[.int .i64 a1.N,.slice p4 a1.Edges.length c5],.int .i64 a2] I (o27_ Q):=by
 refine Fun.enter func24 r ntmps24 r (.c (.c (.c .n))) fun w0 M=>?_
 refine .sr (.boxA r r r fun b3=>?_)
 refine .boxA r r r fun f9=>?_
 refine .ks 2 r (.nilS [4,3,2] r r (.sr (.loadW ia25 sz25 r (.s .z) r r r (.loadW ia28 sz28 r .z r r r ?_))))
 have c0:=W_ref21_Matrix (I:=I) R3 R6 hd
 refine .call call18 r c0 r r fun g0 d2 C c1=>?_
 obtain ⟨y,d3,d4,d5,d6,d7,d8,rfl,f,g,h,hd⟩:=c1
 replace R3:=R3.mono C
 replace R6:=R6.mono C
 refine .ks 3 r (.allocA zv53 r r fun b4=>?_)
 refine .storeA sz53 r r .z (.t (.t (.t (.t (.t .nil))))) r r (.ks 1 r (.nilS [8,3,2] r r (.drop (.s .z) (.sr (.loadW ia25 sz25 r (.s .z) r r r (.fa un25 r sz3 r (o:=1) r r r (.load1 ia3 r (.s .z) r r r ?_)))))))
 have c3:=W_ref21_Begin (I:=d2) R3 hd
 refine .call call48 r c3 r r fun g1 b5 i c4=>?_
 obtain ⟨d9,g2,g3,g4,g5,g6,g7,rfl,b6,b7,b8,hd⟩:=c4
 have c6:=IH.le.trans C i
 replace R3:=R3.mono i
 replace f:=f.mono i
 replace g:=g.mono i
 replace h:=h.mono i
 refine .allocA zv36 r r fun b9=>?_
 refine .storeA sz36 r r .z (.t (.t (.t (.t (.t .nil))))) r r (.nilS [10,8,3,2] r r (.sr (.loadW ia36 sz36 r .z r r r (.buildSlice 1 un42 sz36 zv36 r r (.c r r r .n) r r fun g8=>?_))))
 refine .ownB (El:=eState) (ys:=([d9]:List State)) .z (.one ⟨_,_,_,_,_,_,r,b6,b7,b8⟩) r (.ks 1 r (.nilS [11,10,8,3,2] r r (.sr (.ks 1 r (.nilS [12,11,10,8,3,2] r r (.block (.loop hd (fun (s:Int×Int×(List Int)×(List Int)×(List Int)×(List State)×Int) c w=>match s with | (m,p,j,k,l,d,D)=>∃ I_ E F G H J K L O,IH.le b5 I_∧RepSl eI64 I_ E F j∧RepSl eI64 I_ G H k∧RepSl eU64 I_ J K l∧Ok ⟨56,[],none⟩ [(2,.int .i64 a2),(3,.pointer (some ⟨b3,0,none⟩)),(8,.pointer (some ⟨b4,0,none⟩)),(10,.pointer (some ⟨b9,0,none⟩)),(11,.slice L d.length O),(12,.int .i64 D)] c∧Sym w0 M I I_ [pto b3 (.cells #[.int .i64 a0.Kind,.int .i64 a0.N,.int .i64 a0.Source,.int .i64 a0.Length,.slice p1 a0.Draws.length c2] 25 (0,0)),pto b4 (.cells #[.int .i64 y.1.Rows,.int .i64 y.1.Cols,.slice d3 y.1.Start.length d4,.slice d5 y.1.Col.length d6,.slice d7 y.1.Val.length d8] 53 (0,0)),pto b9 (.cells #[.int .i64 m,.int .i64 p,.slice E j.length F,.slice G k.length H,.slice J l.length K] 36 (0,0)),OwnSl eState 36 L O d] w) (fun c w ho hs=>⟨b5,_,_,_,_,_,_,_,_,(.refl _),b6,b7,b8,ho.sub ⟨r,r,r,r,r,r,trivial⟩,hs.pick (.c (.s (.s (.s .z))) (.c (.s (.s .z)) (.c (.s .z) (.c .z .n))))⟩) ?_)))))))
 rintro ⟨m,p,j,k,l,d,D⟩ d1 hd c w hst
 obtain ⟨U,E,F,G,H,J,K,L,O,b,q,u,v,hok,hsym⟩:=hst
 have x:=IH.le.trans c6 b
 replace R3:=R3.mono b
 replace f:=f.mono b
 replace g:=g.mono b
 replace h:=h.mono b
 refine Cod.at hok hsym (.seq (.block (.seq (.sr (.loadW ia25 sz25 r .z r r r (.loadW ia36 sz36 r (.s (.s .z)) r r r (.ks 1 r ?_)))))))
 have Y:=W_ref21_Live (I:=U) (a1:=({ Low:=m,High:=p,A:=j,B:=k,On:=l }:State)) R3 q u v hd
 refine .callP call49 r Y r r fun e3 Z=>?_
 obtain ⟨e4,rfl,hd⟩:=Z
 refine .ks 1 r (.nilS [33,12,11,10,8,3,2] r r (.condP r hd (fun a3 hd=>?_) fun a3 hd=>?_))
 · refine .sr (.ks 3 r (.nilS [7,6] r r (.drop .z (.drop .z (.drop .z (.pub .z fun e5 P c7=>?_))))))
   have a4:=IH.le.trans x P
   have e0:=IH.le.trans b P
   exact .ret (pret results24 (.t r (.t r .n)) a4 ⟨(d,1),_,_,r,c7,hd⟩)
 refine .skipS [12,11,10,8,3,2] r r (.seq (.sr (.ks 3 r (.nilS [37,12,11,10,8,3,2] r r (.condP r hd (fun a5 hd=>?_) fun a5 hd=>?_)))))
 · refine .sr (.ks 3 r (.nilS [7,6] r r (.drop .z (.drop .z (.drop .z (.pub .z fun e6 R c8=>?_))))))
   have a6:=IH.le.trans x R
   have e1:=IH.le.trans b R
   exact .ret (pret results24 (.t r (.t r .n)) a6 ⟨(d,2),_,_,r,c8,hd⟩)
 refine .skipS [12,11,10,8,3,2] r r (.sr (.loadW ia25 sz25 r .z r r r (.loadW ia53 sz53 r (.s .z) r r r (.loadW ia36 sz36 r (.s (.s .z)) r r r (.ks 2 r ?_)))))
 have a7:=W_ref22_Step (I:=U) (a2:=({ Low:=m,High:=p,A:=j,B:=k,On:=l }:State)) R3 f g h q u v hd
 refine .call call50 r a7 r r fun e7 c9 a a8=>?_
 obtain ⟨e,e8,e9,f0,f1,f2,f3,rfl,V,W,X,hd⟩:=a8
 have a9:=IH.le.trans x a
 have S:=IH.le.trans b a
 replace R3:=R3.mono a
 replace f:=f.mono a
 replace g:=g.mono a
 replace h:=h.mono a
 replace q:=q.mono a
 replace u:=u.mono a
 replace v:=v.mono a
 refine .ks 3 r (.allocA zv36 r r fun f4=>?_)
 refine .storeA sz36 r r .z (.t (.t (.t (.t (.t .nil))))) r r (.ks 1 r (.nilS [14,13,12,11,10,8,3,2] r r (.seq (.sr (.ks 2 r (.nilS [49,13,12,11,10,8,3,2] r r (.condP r hd (fun b0 hd=>?_) fun b0 hd=>?_)))))))
 · refine .sr (.ks 3 r (.nilS [7,6] r r (.drop .z (.drop .z (.drop .z (.drop .z (.pub .z fun f5 T d0=>?_)))))))
   have b1:=IH.le.trans a9 T
   have e2:=IH.le.trans S T
   exact .ret (pret results24 (.t r (.t r .n)) b1 ⟨(d,3),_,_,r,d0,hd⟩)
 refine .skipS [13,12,11,10,8,3,2] r r (.sr (.loadW ia36 sz36 r .z r r r (.storeA sz36 r r (.s (.s (.s .z))) (.t (.t (.t (.t (.t .nil))))) r r (.nilS [12,11,10,8,3,2] r r (.drop .z (.region (.ks 1 r (.loadW ia36 sz36 r (.s (.s .z)) r r r (.buildSlice 1 un42 sz36 zv36 r r (.c r r r .n) r r fun f6=>?_)))))))))
 obtain ⟨b2,hd⟩:=hd
 refine .append (ys:=[e.1]) 88 (.s (.s (.s (.s .z)))) un42 un42 IN36 r r r r r r r r r (.box .z (.one ⟨_,_,_,_,_,_,r,V,W,X⟩) r) b2 r r fun f7 f8=>?_
 exact .ks 1 r (.nilS [11,12,10,8,3,2] r r (.drop (.s .z) (.region (.ks 3 r (.nil' fun c w ho hs=>⟨(e.1.Low,e.1.High,e.1.A,e.1.B,e.1.On,(d++([e.1])),w64 (D+1)),hd,c9,_,_,_,_,_,_,_,_,S,V,W,X,ho.sub ⟨r,r,r,r,r,r,trivial⟩,hs.pick (.c (.s .z) (.c (.s .z) (.c (.s .z) (.c .z .n))))⟩)))))
theorem W_ref22_Run {I:IH} {a0:Plan} {a1:Graph} {a2:Int} {p1:Option Addr} {c2:Nat} {p4:Option Addr} {c5:Nat} {Q:(Result×Int)→Prop} (R3:RepSl eI64 I p1 c2 a0.Draws) (R6:RepSl eEdge I p4 c5 a1.Edges) (hd:ref22_Run a0 a1 a2 Q) :
  PFun prog 10 [.agg #[.int .i64 a0.Kind,.int .i64 a0.N,.int .i64 a0.Source,.int .i64 a0.Length,.slice p1 a0.Draws.length c2],.agg #[.int .i64 a1.N,.slice p4 a1.Edges.length c5],.int .i64 a2] I (o28_ Q):=by
 refine Fun.enter func10 r ntmps10 r (.c (.c (.c .n))) fun w0 M=>?_
 refine .sr (.boxA r r r fun C=>?_)
 refine .boxA r r r fun D=>?_
 refine .allocA zv38 r r fun E=>?_
 refine .ks 1 r (.nilS [6,4,3,2] r r (.seq (.sr (.loadW ia25 sz25 r (.s (.s .z)) r r r (.loadW ia28 sz28 r (.s .z) r r r (.ks 1 r ?_))))))
 have f:=W_ref22_Check (I:=I) R3 R6 hd
 refine .callP call17 r f r r fun F g=>?_
 obtain ⟨m,rfl,hd⟩:=g
 refine .ks 1 r (.nilS [8,6,4,3,2] r r (.sr (.ks 2 r (.nilS [16,8,6,4,3,2] r r (.condP r hd (fun h hd=>?_) fun h hd=>?_)))))
 · exact .sr (.build zv38 un38 BI38 .n (by exact trivial) r r (.ks 1 r (.storeA sz38 r r .z (.t (.t (.t (.t (.t (.t (.t .nil))))))) r r (.ks 1 r (.nilS [7,6] r r (.drop (.s .z) (.drop (.s .z) (.ret (pret results10 (.w isAgg38 sz38 r .z r (.t r .n)) (.refl _) ⟨(({ Status:=0,Rounds:=0,State:=({ Low:=0,High:=0,A:=([]:List Int),B:=([]:List Int),On:=([]:List Int) }:State) }:Result),m),_,_,_,_,_,_,r,(.nil _ _ _),(.nil _ _ _),(.nil _ _ _),hd⟩)))))))))
 refine .skipS [6,4,3,2] r r (.sr (.loadW ia25 sz25 r (.s (.s .z)) r r r (.loadW ia28 sz28 r (.s .z) r r r (.ks 1 r ?_))))
 have i:=W_ref22_all (I:=I) R3 R6 hd
 refine .call call24 r i r r fun G H a j=>?_
 obtain ⟨d,J,K,rfl,o,hd⟩:=j
 replace R3:=R3.mono a
 replace R6:=R6.mono a
 refine .ks 5 r (.nilS [10,9,6] r r (.drop (.s .z) (.drop (.s .z) (.sr (.ks 2 r (.len un42 r r r r (.ks 3 r (.len un42 r r r r (.ks 1 r ?_)))))))))
 obtain ⟨e,p,b,hd⟩:=hd
 obtain ⟨L,o70,y,q,k,l⟩:=o.2 _ _ b
 obtain ⟨O,P,R,S,T,U,rfl,u,v,x⟩:=l
 exact .ixa un42 sz36 r q r e (idx_lt b e) r r (.ldW ia36 sz36 k r r r r (.build zv38 un38 BI38 (.c r r r (.t .nil) (.c r r r (.s (.t .nil)) (.c r r r (.s (.s (.t (.t (.t (.t (.t .nil))))))) .n))) (by exact ⟨⟨_,_,r,r,r⟩,⟨⟨_,_,r,r,r⟩,⟨⟨_,_,r,r,r⟩,trivial⟩⟩⟩) r r (.storeA sz38 r r .z (.t (.t (.t (.t (.t (.t (.t .nil))))))) r r (.ks 1 r (.nilS [7,6] r r (.ret (pret results10 (.w isAgg38 sz38 r .z r (.t r .n)) a ⟨(({ Status:=d.2,Rounds:=w64 ((d.1.length:Int) - 1),State:=p }:Result),0),_,_,_,_,_,_,r,u,v,x,hd⟩)))))))
theorem W_ref22_Same {I:IH} {a0:Result} {a1:Result} {p1:Option Addr} {c2:Nat} {p4:Option Addr} {c5:Nat} {p7:Option Addr} {c8:Nat} {p10:Option Addr} {c11:Nat} {p13:Option Addr} {c14:Nat} {p16:Option Addr} {c17:Nat} {Q:Bool→Prop} (R3:RepSl eI64 I p1 c2 a0.State.A) (R6:RepSl eI64 I p4 c5 a0.State.B) (R9:RepSl eU64 I p7 c8 a0.State.On) (R12:RepSl eI64 I p10 c11 a1.State.A) (R15:RepSl eI64 I p13 c14 a1.State.B) (R18:RepSl eU64 I p16 c17 a1.State.On) (hd:ref22_Same a0 a1 Q) :
  PFun prog 14 [.agg #[.int .i64 a0.Status,.int .i64 a0.Rounds,.int .i64 a0.State.Low,.int .i64 a0.State.High,.slice p1 a0.State.A.length c2,.slice p4 a0.State.B.length c5,.slice p7 a0.State.On.length c8],.agg #[.int .i64 a1.Status,.int .i64 a1.Rounds,.int .i64 a1.State.Low,.int .i64 a1.State.High,.slice p10 a1.State.A.length c11,.slice p13 a1.State.B.length c14,.slice p16 a1.State.On.length c17]] I (fun _=>o2_ Q):=by
 refine Fun.enter func14 r ntmps14 r (.c (.c .n)) fun w0 M=>?_
 refine .sr (.boxA r r r fun g=>?_)
 refine .boxA r r r fun h=>?_
 refine .ks 1 r (.nilS [3,2] r r (.sr (.fa un38 r sz33 r (o:=0) r r r (.load1 isAgg33 r (.s .z) r r r (.fa un38 r sz33 r (o:=0) r r r (.load1 isAgg33 r .z r r r (.ks 2 r ?_)))))))
 refine splitP hd (fun a hd=>?_) fun a hd=>?_
 · rw [a]
   refine .gyes r r r (.fa un38 r sz3 r (o:=1) r r r (.gyes r r r (.load1 ia3 r (.s .z) r r r (.gyes r r r (.fa un38 r sz3 r (o:=1) r r r (.gyes r r r (.load1 ia3 r .z r r r (.ks 3 r ?_))))))))
   refine splitP hd (fun b hd=>?_) fun b hd=>?_
   · rw [b]
     refine .gyes r r r (.fa un38 r sz36 r (o:=2) r r r (.gyes r r r (.loadA ia36 sz36 r (.s .z) (.s (.s (.t (.t (.t (.t (.t .nil))))))) r r r (.gyes r r r (.fa un38 r sz36 r (o:=2) r r r (.gyes r r r (.loadA ia36 sz36 r .z (.s (.s (.t (.t (.t (.t (.t .nil))))))) r r r ?_)))))))
     have d:=W_ref21_Same (I:=I) R3 R6 R9 R12 R15 R18 hd
     refine .gyes r r r (.callP call15 r d r r fun i e=>?_)
     obtain ⟨f,rfl,hd⟩:=e
     exact .ks 2 r (.nilS [4] r r (.drop .z (.drop .z (.ret (pret results14 (.t r .n) (.refl _) ⟨f,r,hd⟩)))))
   rw [b]
   exact .ks 7 r (.nilS [4] r r (.drop .z (.drop .z (.ret (pret results14 (.t r .n) (.refl _) ⟨false,r,hd⟩)))))
 rw [a]
 exact .ks 14 r (.nilS [4] r r (.drop .z (.drop .z (.ret (pret results14 (.t r .n) (.refl _) ⟨false,r,hd⟩)))))
theorem W_law22_ModelWrong {I:IH} {a0:Plan} {a1:Graph} {a2:Int} {p1:Option Addr} {c2:Nat} {p4:Option Addr} {c5:Nat} {Q:Bool→Prop} (R3:RepSl eI64 I p1 c2 a0.Draws) (R6:RepSl eEdge I p4 c5 a1.Edges) (hd:law22_ModelWrong a0 a1 a2 Q) :
  PFun prog 4 [.agg #[.int .i64 a0.Kind,.int .i64 a0.N,.int .i64 a0.Source,.int .i64 a0.Length,.slice p1 a0.Draws.length c2],.agg #[.int .i64 a1.N,.slice p4 a1.Edges.length c5],.int .i64 a2] I (fun _=>o2_ Q):=by
 refine Fun.enter func4 r ntmps4 r (.c (.c (.c .n))) fun w0 M=>?_
 refine .sr (.boxA r r r fun O=>?_)
 refine .boxA r r r fun P=>?_
 refine .ks 1 r (.nilS [4,3,2] r r (.seq ?_))
 refine Cod.joinQ (σ:=Unit) hd (fun (_:Unit) c w=>∃ I_,IH.le I I_∧Ok ⟨71,[],none⟩ [(2,.int .i64 a2),(3,.pointer (some ⟨O,0,none⟩)),(4,.pointer (some ⟨P,0,none⟩))] c∧Sym w0 M I I_ [pto O (.cells #[.int .i64 a0.Kind,.int .i64 a0.N,.int .i64 a0.Source,.int .i64 a0.Length,.slice p1 a0.Draws.length c2] 25 (0,0)),pto P (.cells #[.int .i64 a1.N,.slice p4 a1.Edges.length c5] 28 (0,0))] w) (fun e0 hd=>?_) ?_
 · skip
   refine .sr (.fa un28 r sz26 r (o:=1) r r r (.load1 ia26 r .z r r r (.len un26 r r r r (.ks 2 r ?_))))
   refine splitP hd (fun j hd=>?_) fun j hd=>?_
   · rw [j]
     refine .ks 18 r (.nilS [33,4,3,2] r r (.condKT r r (.sr ?_)))
     have R:=W_law22_live (I:=I) hd
     refine .callP call13 r R r r fun e1 S=>?_
     obtain ⟨a9,rfl,hd⟩:=S
     exact .ks 1 r (.nilS [6] r r (.drop .z (.drop .z (.ret (pret results4 (.t r .n) (.refl _) ⟨a9,r,hd⟩)))))
   rw [j]
   refine .gyes r r r (.fa un25 r sz23 r (o:=4) r r r (.gyes r r r (.load1 ia23 r (.s .z) r r r (.gyes r r r (.len un23 r r r r (.ks 3 r ?_))))))
   refine splitP hd (fun k hd=>?_) fun k hd=>?_
   · rw [k]
     refine .ks 12 r (.nilS [33,4,3,2] r r (.condKT r r (.sr ?_)))
     have T:=W_law22_live (I:=I) hd
     refine .callP call13 r T r r fun e3 U=>?_
     obtain ⟨b0,rfl,hd⟩:=U
     exact .ks 1 r (.nilS [6] r r (.drop .z (.drop .z (.ret (pret results4 (.t r .n) (.refl _) ⟨b0,r,hd⟩)))))
   rw [k]
   refine .gyes r r r (.fa un25 r sz3 r (o:=1) r r r (.gyes r r r (.load1 ia3 r (.s .z) r r r (.ks 3 r ?_))))
   refine splitP hd (fun l hd=>?_) fun l hd=>?_
   · rw [l]
     refine .ks 7 r (.nilS [33,4,3,2] r r (.condKT r r (.sr ?_)))
     have V:=W_law22_live (I:=I) hd
     refine .callP call13 r V r r fun e4 W=>?_
     obtain ⟨b1,rfl,hd⟩:=W
     exact .ks 1 r (.nilS [6] r r (.drop .z (.drop .z (.ret (pret results4 (.t r .n) (.refl _) ⟨b1,r,hd⟩)))))
   rw [l]
   refine .ks 3 r ?_
   refine splitP hd (fun m hd=>?_) fun m hd=>?_
   · rw [m]
     refine .ks 4 r (.nilS [33,4,3,2] r r (.condP r hd (fun X hd=>?_) fun X hd=>?_))
     · refine .sr ?_
       have Y:=W_law22_live (I:=I) hd
       refine .callP call13 r Y r r fun e5 Z=>?_
       obtain ⟨b2,rfl,hd⟩:=Z
       exact .ks 1 r (.nilS [6] r r (.drop .z (.drop .z (.ret (pret results4 (.t r .n) (.refl _) ⟨b2,r,hd⟩)))))
     exact .skip' fun c w ho hs=>⟨(),hd,I,(.refl _),ho.sub ⟨r,r,r,trivial⟩,hs.pick (.c (.s .z) (.c .z .n))⟩
   rw [m]
   exact .ks 4 r (.nilS [33,4,3,2] r r (.condKF r r (.skip' fun c w ho hs=>⟨(),hd,I,(.refl _),ho.sub ⟨r,r,r,trivial⟩,hs.pick (.c (.s .z) (.c .z .n))⟩)))
 rintro ⟨⟩ hd c w hst
 obtain ⟨b3,p,hok,hsym⟩:=hst
 replace R3:=R3.mono p
 replace R6:=R6.mono p
 refine Cod.at hok hsym (.sr (.loadW ia25 sz25 r .z r r r (.loadW ia28 sz28 r (.s .z) r r r (.ks 1 r ?_))))
 have x:=W_model_Run (I:=b3) R3 R6 hd
 refine .call call9 r x r r fun b4 a3 h y=>?_
 obtain ⟨b5,b6,b7,b8,b9,c0,c1,rfl,q,u,v,hd⟩:=y
 have A:=IH.le.trans p h
 replace R3:=R3.mono h
 replace R6:=R6.mono h
 refine .ks 3 r (.allocA zv38 r r fun c3=>?_)
 refine .storeA sz38 r r .z (.t (.t (.t (.t (.t (.t (.t .nil))))))) r r (.ks 1 r (.nilS [8,7,4,3,2] r r (.sr (.loadW ia25 sz25 r (.s .z) r r r (.loadW ia28 sz28 r (.s (.s .z)) r r r (.ks 1 r ?_))))))
 have B:=W_ref22_Run (I:=a3) R3 R6 hd
 refine .call call10 r B r r fun c4 i e C=>?_
 obtain ⟨c6,c7,c8,c9,d0,d1,d2,rfl,a4,a5,a6,hd⟩:=C
 have f:=IH.le.trans A e
 replace R3:=R3.mono e
 replace R6:=R6.mono e
 replace q:=q.mono e
 replace u:=u.mono e
 replace v:=v.mono e
 refine .ks 3 r (.allocA zv38 r r fun d3=>?_)
 refine .storeA sz38 r r .z (.t (.t (.t (.t (.t (.t (.t .nil))))))) r r (.ks 1 r (.nilS [10,9,8,7,4,3,2] r r (.seq (.dr [0,1,2,3,4,5,6,7,8,9,10,11,12,13,14,16,17,18,15,19,20,21] 22 (.ww r fun ex=>?_)))))
 have D:=W_law22_live (I:=i) hd
 refine .callP call13 r D r r fun d4 E=>?_
 obtain ⟨d5,rfl,hd⟩:=E
 refine .so 4 r r r trivial (.fk 1 r ?_)
 refine splitP hd (fun b hd=>?_) fun b hd=>?_
 · refine .g r r r (fun _=>.gyes r r b (.move r r r .mk)) (.g r r r (fun _=>.gyes r r b (.move r r r .mk)) (.g r r r (fun _=>.gyes r r b (.eq r r r r .mk)) (.g r r r (fun _=>.pickT r b r r r .mk) (.fk 1 r ?_))))
   refine splitP hd (fun d hd=>?_) fun d hd=>?_
   · refine .g r r r (fun _=>.gyes r r d (.loadW isAgg38 sz38 r (.s .z) r r r .mk)) (.g r r r (fun _=>.gyes r r d (.loadW isAgg38 sz38 r .z r r r .mk)) (.ww r fun ex=>?_))
     have F:=W_ref22_Same (I:=i) q u v a4 a5 a6 hd
     refine .gyes r r d (.callP call14 r F r r fun d6 G=>?_)
     obtain ⟨d7,rfl,hd⟩:=G
     refine .so 4 r r r trivial (.g r r r (fun _=>.pickT r d r r r .mk) (.fk 1 r ?_))
     refine splitP hd (fun a hd=>?_) fun a hd=>?_
     · refine .g r r r (fun _=>.gyes r r a (.loadW ia25 sz25 r (.s (.s .z)) r r r .mk)) (.g r r r (fun _=>.gyes r r a (.loadW ia28 sz28 r (.s (.s (.s .z))) r r r .mk)) (.g r r r (fun _=>.gyes r r a (.move r r r .mk)) (.g r r r (fun _=>.gyes r r a (.loadW ia25 sz25 r (.s (.s .z)) r r r .mk)) (.g r r r (fun _=>.gyes r r a (.loadW ia28 sz28 r (.s (.s (.s .z))) r r r .mk)) (.g r r r (fun _=>.gyes r r a (.move r r r .mk)) (.ww r fun ex=>?_))))))
       have H:=W_model_Check (I:=i) R3 R6 hd
       refine .gyes r r a (.callP call16 r H r r fun d8 J=>?_)
       obtain ⟨a7,rfl,hd⟩:=J
       refine .so 4 r r r (.cg r r r r (fun _=>.gyes r r a (.move r r r .mk)) (.cg r r r r (fun _=>.gyes r r a (.loadW ia28 sz28 r (.s (.s (.s .z))) r r r .mk)) (.cg r r r r (fun _=>.gyes r r a (.loadW ia25 sz25 r (.s (.s .z)) r r r .mk)) trivial))) (.ww r fun ex=>?_)
       have K:=W_ref22_Check (I:=i) R3 R6 hd
       refine .gyes r r a (.callP call17 r K r r fun d9 L=>?_)
       obtain ⟨a8,rfl,hd⟩:=L
       refine .so 4 r r r trivial (.g r r r (fun _=>.gyes r r a (.eq r r r r .mk)) (.g r r r (fun _=>.pickT r a r r r .mk) (.e2 22 (.ks 1 r (.nilS [6] r r (.drop .z (.drop .z (.drop .z (.drop .z ?_)))))))))
       exact .ret (pret results4 (.t r .n) f ⟨(a7==a8),r,hd⟩)
     refine .g r r r (fun _=>.gno r r a r r .mk) (.g r r r (fun _=>.gno r r a r r .mk) (.g r r r (fun _=>.gno r r a r r .mk) (.g r r r (fun _=>.gno r r a r r .mk) (.g r r r (fun _=>.gno r r a r r .mk) (.g r r r (fun _=>.gno r r a r r .mk) (.g r r r (fun _=>.gno r r a r r .mk) (.g r r r (fun _=>.gno r r a r r .mk) (.g r r r (fun _=>.gno r r a r r .mk) (.g r r r (fun _=>.pickF r a r r r .mk) ?_)))))))))
     exact .e2 22 (.ks 1 r (.nilS [6] r r (.drop .z (.drop .z (.drop .z (.drop .z (.ret (pret results4 (.t r .n) f ⟨false,r,hd⟩))))))))
   refine .g r r r (fun _=>.gno r r d r r .mk) (.g r r r (fun _=>.gno r r d r r .mk) (.g r r r (fun _=>.gno r r d r r .mk) (.g r r r (fun _=>.pickF r d r r r .mk) (.fk 11 r (.e2 22 (.ks 1 r (.nilS [6] r r (.drop .z (.drop .z ?_)))))))))
   exact .drop .z (.drop .z (.ret (pret results4 (.t r .n) f ⟨false,r,hd⟩)))
 refine .g r r r (fun _=>.gno r r b r r .mk) (.g r r r (fun _=>.gno r r b r r .mk) (.g r r r (fun _=>.gno r r b r r .mk) (.g r r r (fun _=>.pickF r b r r r .mk) (.fk 16 r (.e2 22 (.ks 1 r (.nilS [6] r r (.drop .z (.drop .z ?_)))))))))
 exact .drop .z (.drop .z (.ret (pret results4 (.t r .n) f ⟨false,r,hd⟩)))
end Go.Proofs.YtccpfgdefibdnaaGreat
