/- The walks (printed by a program of ours). -/
import Derived.Test.YtaefnmlbnkmahaaGreatVVertexMail1
namespace Go.Proofs.YtaefnmlbnkmahaaGreat
open Go Go.Fw
set_option linter.unusedVariables false
set_option linter.unusedSimpArgs false
set_option maxRecDepth 8000
set_option maxHeartbeats 1000000
open Tryz
theorem W_ref21_Draw {I:IH} {a0:Plan} {a1:Int} {a2:Int} {p1:Option Addr} {c2:Nat} {Q:Int→Prop} (R3:RepSl eI64 I p1 c2 a0.Draws) (hd:ref21_Draw a0 a1 a2 Q) :
  PFun prog 212 [.agg #[.int .i64 a0.Kind,.int .i64 a0.N,.int .i64 a0.Source,.int .i64 a0.Length,.slice p1 a0.Draws.length c2],.int .i64 a1,.int .i64 a2] I (fun _=>o0_ Q):=by
 refine Fun.enter func212 r ntmps212 r (.c (.c (.c .n))) fun w0 M=>?_
 refine .sr (.boxA r r r fun B=>?_)
 refine .ks 1 r (.nilS [3,2,1] r r (.seq (.sr (.loadW ia49 sz49 r .z r r r ?_))))
 have i:=W_ref21_Right (I:=I) R3 hd
 refine .callP call71 r i r r fun x k=>?_
 obtain ⟨y,rfl,hd⟩:=k
 refine .ks 2 r ?_
 refine splitP hd (fun a hd=>?_) fun a hd=>?_
 · rw [a]
   exact .ks 17 r (.nilS [29,3,2,1] r r (.condKT r r (.sr (.ks 1 r (.nilS [6] r r (.drop .z (.ret (pret results212 (.t r .n) (.refl _) ⟨0,r,hd⟩))))))))
 rw [a]
 refine .ks 4 r ?_
 refine splitP hd (fun b hd=>?_) fun b hd=>?_
 · rw [b]
   exact .ks 13 r (.nilS [29,3,2,1] r r (.condKT r r (.sr (.ks 1 r (.nilS [6] r r (.drop .z (.ret (pret results212 (.t r .n) (.refl _) ⟨0,r,hd⟩))))))))
 rw [b]
 refine .ks 4 r ?_
 refine splitP hd (fun d hd=>?_) fun d hd=>?_
 · rw [d]
   exact .ks 9 r (.nilS [29,3,2,1] r r (.condKT r r (.sr (.ks 1 r (.nilS [6] r r (.drop .z (.ret (pret results212 (.t r .n) (.refl _) ⟨0,r,hd⟩))))))))
 rw [d]
 refine .ks 4 r ?_
 refine splitP hd (fun e hd=>?_) fun e hd=>?_
 · rw [e]
   exact .ks 5 r (.nilS [29,3,2,1] r r (.condKT r r (.sr (.ks 1 r (.nilS [6] r r (.drop .z (.ret (pret results212 (.t r .n) (.refl _) ⟨0,r,hd⟩))))))))
 rw [e]
 refine .ks 1 r (.gyes r r r (.fa un49 r sz3 r (o:=1) r r r (.gyes r r r (.load1 ia3 r .z r r r (.ks 2 r (.nilS [29,3,2,1] r r (.condP r hd (fun l hd=>?_) fun l hd=>?_)))))))
 · exact .sr (.ks 1 r (.nilS [6] r r (.drop .z (.ret (pret results212 (.t r .n) (.refl _) ⟨0,r,hd⟩)))))
 refine .skipS [3,2,1] r r (.sr (.ks 1 r (.nilS [7,3,2,1] r r (.seq (.sr (.fa un49 r sz30 r (o:=4) r r r (.load1 ia30 r .z r r r (.len un30 r r r r (.ks 1 r ?_)))))))))
 refine .nilS [8,7,3,2,1] r r (.sr (.ks 2 r (.nilS [34,8,7,3,2,1] r r (.condP r hd (fun m hd=>?_) fun m hd=>?_))))
 · refine .dr [0,1,2,3,4,5,6,7,8,9,10,11] 12 (.g r r r (fun _=>.fa un49 r sz30 r (o:=4) r r r .mk) (.g r r r (fun _=>.load1 ia30 r .z r r r .mk) (.fk 1 r (.g r r r (fun _=>.fa un49 r sz3 r (o:=1) r r r .mk) (.g r r r (fun _=>.load1 ia3 r .z r r r .mk) (.fk 4 r ?_))))))
   obtain ⟨p,hd⟩:=hd
   refine .g r r r (fun _=>.rem r r p r r .mk) ?_
   obtain ⟨h,u,f,hd⟩:=hd
   obtain ⟨A,o32,w,v,q,s⟩:=R3.2 _ _ f
   cases s
   exact .g r r r (fun _=>.ixa un30 sz2 r v r h (idx_lt f h) r r .mk) (.g r r r (fun _=>.ld1 (j:=0) ia2 q r r r r r .mk) (.e2 12 (.ks 1 r (.nilS [7,2] r r (.drop .z (.sr (.ks 5 r (.nilS [6] r r (.ret (pret results212 (.t r .n) (.refl _) ⟨(w64 ((w64 (u*4096))+a2)),r,hd⟩))))))))))
 exact .skipS [7,2] r r (.drop .z (.sr (.ks 5 r (.nilS [6] r r (.ret (pret results212 (.t r .n) (.refl _) ⟨(w64 ((w64 (0*4096))+a2)),r,hd⟩))))))
theorem W_ref21_draw {I:IH} {a0:Int} {Q:Int→Prop}  (hd:ref21_draw a0 Q) :
  PFun prog 213 [.int .i64 a0] I (fun _=>o0_ Q):=by
 refine Fun.enter func213 r ntmps213 r (.c .n) fun w0 M=>?_
 refine .sr (.ks 1 r (.nilS [0] r r (.seq (.sr (.ks 2 r (.nilS [4,0] r r (.condP r hd (fun a hd=>?_) fun a hd=>?_)))))))
 · exact .sr (.ks 1 r (.nilS [2] r r (.ret (pret results213 (.t r .n) (.refl _) ⟨(-1),r,hd⟩))))
 exact .skipS [0] r r (.sr (.ks 2 r (.quo r r (by decide) r r (.ks 1 r (.nilS [2] r r (.ret (pret results213 (.t r .n) (.refl _) ⟨(w64 ((w64 (a0 - 1)).tdiv 2)),r,hd⟩)))))))
theorem W_ref21_tells {I:IH} {a0:Plan} {a1:State} {a2:Int} {a3:Int} {p1:Option Addr} {c2:Nat} {p4:Option Addr} {c5:Nat} {p7:Option Addr} {c8:Nat} {p10:Option Addr} {c11:Nat} {Q:(Int×Bool)→Prop} (R3:RepSl eI64 I p1 c2 a0.Draws) (R6:RepSl eI64 I p4 c5 a1.A) (R9:RepSl eI64 I p7 c8 a1.B) (R12:RepSl eU64 I p10 c11 a1.On) (hd:ref21_tells a0 a1 a2 a3 Q) :
  PFun prog 140 [.agg #[.int .i64 a0.Kind,.int .i64 a0.N,.int .i64 a0.Source,.int .i64 a0.Length,.slice p1 a0.Draws.length c2],.agg #[.int .i64 a1.Low,.int .i64 a1.High,.slice p4 a1.A.length c5,.slice p7 a1.B.length c8,.slice p10 a1.On.length c11],.int .i64 a2,.int .i64 a3] I (fun _=>o3_ Q):=by
 refine Fun.enter func140 r ntmps140 r (.c (.c (.c (.c .n)))) fun w0 M=>?_
 refine .sr (.boxA r r r fun l=>?_)
 refine .boxA r r r fun m=>?_
 refine .ks 2 r (.nilS [5,4,3,2] r r (.sr (.fa un42 r sz40 r (o:=4) r r r (.load1 ia40 r .z r r r (.ks 1 r ?_)))))
 have v:=W_ref03_Has (I:=I) R12 hd
 refine .callP call201 r v r r fun V x=>?_
 obtain ⟨h,rfl,hd⟩:=x
 refine .ks 1 r (.nilS [10,5,4,3,2] r r (.block (.sr (.fa un49 r sz47 r (o:=0) r r r (.load1 ia47 r (.s .z) r r r (.ks 2 r (.nilS [21,10,5,4,3,2] r r (.condP r hd (fun y hd=>?_) fun y hd=>?_))))))))
 · exact .sr (.fa un42 r sz3 r (o:=0) r r r (.load1 ia3 r .z r r r (.ks 5 r (.nilS [9,8] r r (.drop .z (.drop .z (.ret (pret results140 (.t r (.t r .n)) (.refl _) ⟨(w64 (a1.Low+a3),h),r,hd⟩))))))))
 refine .seq ?_
 refine Cod.joinQ (σ:=Bool) hd (fun (p:Bool) c w=>∃ I_,IH.le I I_∧Ok ⟨58,[],none⟩ [(2,.int .i64 a2),(3,.int .i64 a3),(4,.pointer (some ⟨l,0,none⟩)),(5,.pointer (some ⟨m,0,none⟩)),(10,.bool h),(30,.bool p)] c∧Sym w0 M I I_ [pto l (.cells #[.int .i64 a0.Kind,.int .i64 a0.N,.int .i64 a0.Source,.int .i64 a0.Length,.slice p1 a0.Draws.length c2] 49 (0,0)),pto m (.cells #[.int .i64 a1.Low,.int .i64 a1.High,.slice p4 a1.A.length c5,.slice p7 a1.B.length c8,.slice p10 a1.On.length c11] 42 (0,0))] w) (fun W hd=>?_) ?_
 · skip
   refine .region (.fa un49 r sz47 r (o:=0) r r r (.load1 ia47 r (.s .z) r r r (.ks 2 r ?_)))
   refine splitP hd (fun e hd=>?_) fun e hd=>?_
   · rw [e]
     exact .ks 1 r (.gyes r r r (.rem r r (by decide) r r (.ks 3 r (.nil' fun c w ho hs=>⟨((a2.tmod 2) != 0),hd,I,(.refl _),ho.sub ⟨r,r,r,r,r,r,trivial⟩,hs.pick (.c (.s .z) (.c .z .n))⟩))))
   rw [e]
   exact .ks 5 r (.nil' fun c w ho hs=>⟨false,hd,I,(.refl _),ho.sub ⟨r,r,r,r,r,r,trivial⟩,hs.pick (.c (.s .z) (.c .z .n))⟩)
 rintro p hd c w hst
 obtain ⟨q,a,hok,hsym⟩:=hst
 replace R3:=R3.mono a
 replace R6:=R6.mono a
 replace R9:=R9.mono a
 replace R12:=R12.mono a
 refine Cod.at hok hsym (.condP r hd (fun C hd=>?_) fun C hd=>?_)
 · refine .seq (.dr [0,1,3,4,5,6,8,9,10,11,12,13,2,7,14] 15 (.g r r r (fun _=>.loadW ia49 sz49 r .z r r r .mk) (.fk 1 r (.g r r r (fun _=>.fa un42 r sz3 r (o:=0) r r r .mk) (.g r r r (fun _=>.load1 ia3 r (.s .z) r r r .mk) (.fk 2 r (.g r r r (fun _=>.fa un42 r sz30 r (o:=2) r r r .mk) (.g r r r (fun _=>.load1 ia30 r (.s .z) r r r .mk) (.fk 1 r ?_)))))))))
   obtain ⟨b,O,d,hd⟩:=hd
   obtain ⟨X,o42,T,i,f,D⟩:=R6.2 _ _ d
   cases D
   refine .g r r r (fun _=>.ixa un30 sz2 r i r b (idx_lt d b) r r .mk) (.g r r r (fun _=>.ld1 (j:=0) ia2 f r r r r r .mk) (.fk 1 r (.ww r fun ex=>?_)))
   have E:=W_ref21_draw (I:=q) hd
   refine .callP call213 r E r r fun Y F=>?_
   obtain ⟨Z,rfl,hd⟩:=F
   refine .so 2 r r r (.ck 1 r r (.cg r r r r (fun _=>.ld1 (j:=0) ia2 f r r r r r .mk) (.cg r r r r (fun _=>.ixa un30 sz2 r i r b (idx_lt d b) r r .mk) (.ck 1 r r (.cg r r r r (fun _=>.load1 ia30 r (.s .z) r r r .mk) (.cg r r r r (fun _=>.fa un42 r sz30 r (o:=2) r r r .mk) (.ck 2 r r (.cg r r r r (fun _=>.load1 ia3 r (.s .z) r r r .mk) (.cg r r r r (fun _=>.fa un42 r sz3 r (o:=0) r r r .mk) (.cg r r r r (fun _=>.loadW ia49 sz49 r .z r r r .mk) trivial)))))))))) (.ww r fun ex=>?_)
   have G:=W_ref21_Draw (I:=q) R3 hd
   refine .callP call212 r G r r fun a4 H=>?_
   obtain ⟨P,rfl,hd⟩:=H
   exact .so 2 r r r (.ck 1 r r (.cg r r r r (fun _=>.ld1 (j:=0) ia2 f r r r r r .mk) (.cg r r r r (fun _=>.ixa un30 sz2 r i r b (idx_lt d b) r r .mk) (.ck 1 r r (.cg r r r r (fun _=>.load1 ia30 r (.s .z) r r r .mk) (.cg r r r r (fun _=>.fa un42 r sz30 r (o:=2) r r r .mk) trivial)))))) (.fk 1 r (.e2 15 (.ks 1 r (.nilS [9,8] r r (.drop .z (.drop .z (.ret (pret results140 (.t r (.t r .n)) a ⟨(P,O==0),r,hd⟩))))))))
 refine .sr (.fa un49 r sz47 r (o:=0) r r r (.load1 ia47 r .z r r r (.ks 2 r (.nilS [53,10,5,3] r r (.drop .z (.condP r hd (fun J hd=>?_) fun J hd=>?_))))))
 · exact .sr (.ks 3 r (.nilS [9,8] r r (.drop .z (.ret (pret results140 (.t r (.t r .n)) a ⟨(1,h),r,hd⟩)))))
 refine .sr (.fa un42 r sz30 r (o:=2) r r r (.load1 ia30 r .z r r r (.ks 1 r ?_)))
 obtain ⟨u,R,k,hd⟩:=hd
 obtain ⟨a5,o60,U,S,K,L⟩:=R6.2 _ _ k
 cases L
 exact .ixa un30 sz2 r S r u (idx_lt k u) r r (.ld1 (j:=0) ia2 K r r r r r (.ks 3 r (.nilS [9,8] r r (.drop .z (.ret (pret results140 (.t r (.t r .n)) a ⟨(R,h),r,hd⟩))))))
theorem W_ref21_Out {I:IH} {a0:Plan} {a1:State} {a2:Int} {p1:Option Addr} {c2:Nat} {p4:Option Addr} {c5:Nat} {p7:Option Addr} {c8:Nat} {p10:Option Addr} {c11:Nat} {Q:Vec→Prop} (R3:RepSl eI64 I p1 c2 a0.Draws) (R6:RepSl eI64 I p4 c5 a1.A) (R9:RepSl eI64 I p7 c8 a1.B) (R12:RepSl eU64 I p10 c11 a1.On) (hd:ref21_Out a0 a1 a2 Q) :
  PFun prog 74 [.agg #[.int .i64 a0.Kind,.int .i64 a0.N,.int .i64 a0.Source,.int .i64 a0.Length,.slice p1 a0.Draws.length c2],.agg #[.int .i64 a1.Low,.int .i64 a1.High,.slice p4 a1.A.length c5,.slice p7 a1.B.length c8,.slice p10 a1.On.length c11],.int .i64 a2] I (o25_ Q):=by
 refine Fun.enter func74 r ntmps74 r (.c (.c (.c .n))) fun w0 M=>?_
 refine .sr (.boxA r r r fun E=>?_)
 refine .boxA r r r fun F=>?_
 refine .allocA zv54 r r fun G=>?_
 refine .nilS [6,4,3,2] r r (.sr (.loadW ia49 sz49 r (.s (.s .z)) r r r (.loadW ia42 sz42 r (.s .z) r r r ?_)))
 have K:=W_ref21_Sure (I:=I) R3 R6 R9 R12 hd
 refine .call call72 r K r r fun a6 H f L=>?_
 obtain ⟨b,R,S,T,U,V,W,rfl,k,l,m,hd⟩:=L
 replace R3:=R3.mono f
 replace R6:=R6.mono f
 replace R9:=R9.mono f
 replace R12:=R12.mono f
 refine .storeA sz42 r r (.s .z) (.t (.t (.t (.t (.t .nil))))) r r (.nilS [6,4,3,2] r r (.sr (.fa un42 r sz3 r (o:=1) r r r (.load1 ia3 r (.s .z) r r r (.fa un42 r sz3 r (o:=0) r r r (.load1 ia3 r (.s .z) r r r (.ks 1 r (.build zv54 un54 BI54 (.c r r r (.t .nil) .n) (by exact ⟨⟨_,_,r,r,r⟩,trivial⟩) r r (.allocA zv54 r r fun J=>?_)))))))))
 refine .storeA sz54 r r .z (.t (.t .nil)) r r (.nilS [7,6,4,3,2] r r (.seq (.sr (.ks 1 r (.nilS [8,7,6,4,3,2] r r (.block (.own0 eItem 51 (.loop hd (fun (s:(List Item)×Int) c w=>match s with | (d,e)=>∃ I_ g h,IH.le H I_∧Ok ⟨44,[],none⟩ [(2,.int .i64 a2),(3,.pointer (some ⟨E,0,none⟩)),(4,.pointer (some ⟨F,0,none⟩)),(6,.pointer (some ⟨G,0,none⟩)),(7,.pointer (some ⟨J,0,none⟩)),(8,.int .i64 e)] c∧Sym w0 M I I_ [pto E (.cells #[.int .i64 a0.Kind,.int .i64 a0.N,.int .i64 a0.Source,.int .i64 a0.Length,.slice p1 a0.Draws.length c2] 49 (0,0)),pto F (.cells #[.int .i64 b.Low,.int .i64 b.High,.slice R b.A.length S,.slice T b.B.length U,.slice V b.On.length W] 42 (0,0)),pto G (.cells #[.int .i64 0,.slice none 0 0] 54 (0,0)),pto J (.cells #[.int .i64 (w64 (b.High - b.Low)),.slice g d.length h] 54 (0,0)),OwnSl eItem 51 g h d] w) (fun c w ho hs=>⟨H,_,_,(.refl _),ho.sub ⟨r,r,r,r,r,r,trivial⟩,hs.pick (.c (.s (.s (.s (.s .z)))) (.c (.s (.s (.s .z))) (.c (.s (.s .z)) (.c (.s .z) (.c .z .n)))))⟩) ?_))))))))
 rintro ⟨d,e⟩ P hd c w hst
 obtain ⟨i,g,h,a,hok,hsym⟩:=hst
 have q:=IH.le.trans f a
 replace R3:=R3.mono a
 replace k:=k.mono a
 replace l:=l.mono a
 replace m:=m.mono a
 refine Cod.at hok hsym (.seq (.sr (.ks 1 r (.fa un54 r sz3 r (o:=0) r r r (.load1 ia3 r (.s (.s (.s .z))) r r r (.ks 1 r (.nilS [23,8,7,6,4,3,2] r r (.condP r hd (fun u hd=>?_) fun u hd=>?_))))))))
 · refine .skipS [8,7,6,4,3,2] r r (.seq (.block (.sr (.loadW ia49 sz49 r .z r r r (.loadW ia42 sz42 r (.s .z) r r r (.ks 2 r ?_))))))
   have v:=W_ref21_tells (I:=i) R3 k l m hd
   refine .callP call140 r v r r fun Y x=>?_
   obtain ⟨p,rfl,hd⟩:=x
   refine .ks 5 r (.nilS [10,9,8,7,6,4,3,2] r r (.sr (.ks 1 r (.nilS [34,9,8,7,6,4,3,2] r r (.condP r hd (fun y hd=>?_) fun y hd=>?_)))))
   · refine .region (.fa un54 r sz52 r (o:=1) r r r (.load1 ia52 r (.s (.s (.s .z))) r r r (.ks 2 r (.build zv51 un51 BI51 (.c r r r (.t .nil) (.c r r r (.s (.t .nil)) .n)) (by exact ⟨⟨_,_,r,r,r⟩,⟨⟨_,_,r,r,r⟩,trivial⟩⟩) r r (.buildSlice 1 un52 sz51 zv51 r r (.c r r r .n) r r fun Z=>?_)))))
     obtain ⟨C,hd⟩:=hd
     refine .append (ys:=[({ At:=e,Val:=p.1 }:Item)]) 16 (.s (.s (.s (.s (.s .z))))) un52 un52 IN51 r r r r r r r r r (.box .z (.one r) r) C r r fun a3 a4=>?_
     exact .fa un54 r sz52 r (o:=1) r r r (.store1 sz52 r r (.s (.s (.s (.s (.s .z))))) (.s (.t .nil)) r (.nilS [8,7,6,4,3,2] r r (.drop (.s .z) (.region (.ks 3 r (.nil' fun c w ho hs=>⟨((d++([({ At:=e,Val:=p.1 }:Item)])),w64 (e+1)),hd,i,_,_,a,ho.sub ⟨r,r,r,r,r,r,trivial⟩,hs.pick (.c (.s .z) (.c (.s .z) (.c (.s .z) (.c (.s .z) (.c .z .n)))))⟩))))))
   exact .skipS [8,7,6,4,3,2] r r (.region (.ks 3 r (.nil' fun c w ho hs=>⟨(d,w64 (e+1)),hd,i,_,_,a,ho.sub ⟨r,r,r,r,r,r,trivial⟩,hs.pick (.c .z (.c .z (.c .z (.c .z (.c .z .n)))))⟩)))
 refine .exitS [7,6] r r (.drop .z (.drop .z (.sr (.loadW ia54 sz54 r (.s .z) r r r (.storeA sz54 r r .z (.t (.t .nil)) r r (.nilS [6] r r (.drop (.s .z) (.pub (.s .z) fun a5 j O=>?_))))))))
 have D:=IH.le.trans q j
 have X:=IH.le.trans a j
 exact .ret (pret results74 (.w ia54 sz54 r .z r .n) D ⟨({ N:=w64 (b.High - b.Low),Items:=d }:Vec),_,_,r,O,hd⟩)
theorem W_ref07_Right {I:IH} {a0:Rows} {p1:Option Addr} {c2:Nat} {p4:Option Addr} {c5:Nat} {p7:Option Addr} {c8:Nat} {Q:Bool→Prop} (R3:RepSl eI64 I p1 c2 a0.Start) (R6:RepSl eI64 I p4 c5 a0.Col) (R9:RepSl eI64 I p7 c8 a0.Val) (hd:ref07_Right a0 Q) :
  PFun prog 243 [.agg #[.int .i64 a0.Rows,.int .i64 a0.Cols,.slice p1 a0.Start.length c2,.slice p4 a0.Col.length c5,.slice p7 a0.Val.length c8]] I (fun _=>o4_ Q):=by
 refine Fun.enter func243 r ntmps243 r (.c .n) fun w0 M=>?_
 refine .sr (.boxA r r r fun C=>?_)
 refine .ks 1 r (.nilS [1] r r (.seq (.sr (.fa un32 r sz3 r (o:=0) r r r (.load1 ia3 r .z r r r (.ks 2 r ?_))))))
 refine splitP hd (fun q hd=>?_) fun q hd=>?_
 · rw [q]
   exact .ks 38 r (.nilS [46,1] r r (.condKT r r (.sr (.ks 1 r (.nilS [2] r r (.drop .z (.ret (pret results243 (.t r .n) (.refl _) ⟨false,r,hd⟩))))))))
 rw [q]
 refine .gyes r r r (.fa un32 r sz3 r (o:=0) r r r (.gyes r r r (.load1 ia3 r .z r r r (.ks 3 r ?_))))
 refine splitP hd (fun s hd=>?_) fun s hd=>?_
 · rw [s]
   exact .ks 33 r (.nilS [46,1] r r (.condKT r r (.sr (.ks 1 r (.nilS [2] r r (.drop .z (.ret (pret results243 (.t r .n) (.refl _) ⟨false,r,hd⟩))))))))
 rw [s]
 refine .gyes r r r (.fa un32 r sz3 r (o:=1) r r r (.gyes r r r (.load1 ia3 r .z r r r (.ks 3 r ?_))))
 refine splitP hd (fun u hd=>?_) fun u hd=>?_
 · rw [u]
   exact .ks 28 r (.nilS [46,1] r r (.condKT r r (.sr (.ks 1 r (.nilS [2] r r (.drop .z (.ret (pret results243 (.t r .n) (.refl _) ⟨false,r,hd⟩))))))))
 rw [u]
 refine .gyes r r r (.fa un32 r sz3 r (o:=1) r r r (.gyes r r r (.load1 ia3 r .z r r r (.ks 3 r ?_))))
 refine splitP hd (fun v hd=>?_) fun v hd=>?_
 · rw [v]
   exact .ks 23 r (.nilS [46,1] r r (.condKT r r (.sr (.ks 1 r (.nilS [2] r r (.drop .z (.ret (pret results243 (.t r .n) (.refl _) ⟨false,r,hd⟩))))))))
 rw [v]
 refine .gyes r r r (.fa un32 r sz29 r (o:=2) r r r (.gyes r r r (.load1 ia29 r .z r r r (.gyes r r r (.len un29 r r r r (.gyes r r r (.fa un32 r sz3 r (o:=0) r r r (.gyes r r r (.load1 ia3 r .z r r r (.ks 4 r ?_))))))))))
 refine splitP hd (fun x hd=>?_) fun x hd=>?_
 · rw [x]
   exact .ks 14 r (.nilS [46,1] r r (.condKT r r (.sr (.ks 1 r (.nilS [2] r r (.drop .z (.ret (pret results243 (.t r .n) (.refl _) ⟨false,r,hd⟩))))))))
 rw [x]
 refine .gyes r r r (.fa un32 r sz29 r (o:=3) r r r (.gyes r r r (.load1 ia29 r .z r r r (.gyes r r r (.len un29 r r r r (.gyes r r r (.fa un32 r sz30 r (o:=4) r r r (.gyes r r r (.load1 ia30 r .z r r r (.gyes r r r (.len un30 r r r r (.ks 3 r ?_))))))))))))
 refine splitP hd (fun y hd=>?_) fun y hd=>?_
 · rw [y]
   exact .ks 5 r (.nilS [46,1] r r (.condKT r r (.sr (.ks 1 r (.nilS [2] r r (.drop .z (.ret (pret results243 (.t r .n) (.refl _) ⟨false,r,hd⟩))))))))
 rw [y]
 refine .gyes r r r (.fa un32 r sz29 r (o:=3) r r r (.gyes r r r (.load1 ia29 r .z r r r (.gyes r r r (.len un29 r r r r (.ks 2 r (.nilS [46,1] r r (.condP r hd (fun d7 hd=>?_) fun d7 hd=>?_))))))))
 · exact .sr (.ks 1 r (.nilS [2] r r (.drop .z (.ret (pret results243 (.t r .n) (.refl _) ⟨false,r,hd⟩)))))
 refine .skipS [1] r r (.seq (.seq (.dr [0,1,2,3,4,5,6,7,8,9,10,11,12,13,14,15,16] 17 (.g r r r (fun _=>.fa un32 r sz29 r (o:=2) r r r .mk) (.g r r r (fun _=>.load1 ia29 r .z r r r .mk) ?_)))))
 obtain ⟨d5,j3,R,hd⟩:=hd
 obtain ⟨j4,o52,h1,f6,d8,d9⟩:=R3.2 _ _ R
 cases d9
 refine .g r r r (fun _=>.ixa un29 sz3 r f6 r d5 (idx_lt R d5) r r .mk) (.g r r r (fun _=>.ld1 (j:=0) ia3 d8 r r r r r .mk) (.fk 2 r ?_))
 refine splitP hd (fun A hd=>?_) fun A hd=>?_
 · rw [A]
   exact .fk 11 r (.e2 17 (.nilS [63,1] r r (.condKT r r (.sr (.ks 1 r (.nilS [2] r r (.drop .z (.ret (pret results243 (.t r .n) (.refl _) ⟨false,r,hd⟩)))))))))
 rw [A]
 refine .g r r r (fun _=>.gyes r r r (.fa un32 r sz29 r (o:=2) r r r .mk)) (.g r r r (fun _=>.gyes r r r (.load1 ia29 r .z r r r .mk)) (.g r r r (fun _=>.gyes r r r (.fa un32 r sz3 r (o:=0) r r r .mk)) (.g r r r (fun _=>.gyes r r r (.load1 ia3 r .z r r r .mk)) ?_)))
 obtain ⟨d6,j5,S,hd⟩:=hd
 obtain ⟨j6,o62,h2,f7,e0,e1⟩:=R3.2 _ _ S
 cases e1
 refine .g r r r (fun _=>.gyes r r r (.ixa un29 sz3 r f7 r d6 (idx_lt S d6) r r .mk)) (.g r r r (fun _=>.gyes r r r (.ld1 (j:=0) ia3 e0 r r r r r .mk)) (.g r r r (fun _=>.gyes r r r (.fa un32 r sz29 r (o:=3) r r r .mk)) (.g r r r (fun _=>.gyes r r r (.load1 ia29 r .z r r r .mk)) (.g r r r (fun _=>.gyes r r r (.len un29 r r r r .mk)) (.fk 2 r (.e2 17 (.nilS [63,1] r r (.condP r hd (fun e3 hd=>?_) fun e3 hd=>?_))))))))
 · exact .sr (.ks 1 r (.nilS [2] r r (.drop .z (.ret (pret results243 (.t r .n) (.refl _) ⟨false,r,hd⟩)))))
 refine .skipS [1] r r (.seq (.sr (.ks 1 r (.nilS [3,1] r r (.block (.loop hd (fun (e:Int) c w=>∃ I_,IH.le I I_∧Ok ⟨156,[],none⟩ [(1,.pointer (some ⟨C,0,none⟩)),(3,.int .i64 e)] c∧Sym w0 M I I_ [pto C (.cells #[.int .i64 a0.Rows,.int .i64 a0.Cols,.slice p1 a0.Start.length c2,.slice p4 a0.Col.length c5,.slice p7 a0.Val.length c8] 32 (0,0))] w) (fun c w ho hs=>⟨I,(.refl _),ho.sub ⟨r,r,trivial⟩,hs.pick (.c .z .n)⟩) ?_))))))
 rintro e f4 hd c w hst
 obtain ⟨T,a,hok,hsym⟩:=hst
 replace R3:=R3.mono a
 replace R6:=R6.mono a
 replace R9:=R9.mono a
 refine Cod.at hok hsym (.seq (.sr (.ks 1 r (.fa un32 r sz3 r (o:=0) r r r (.load1 ia3 r .z r r r (.ks 1 r (.nilS [67,3,1] r r (.condP r hd (fun b0 hd=>?_) fun b0 hd=>?_))))))))
 · refine .skipS [3,1] r r (.seq (.block (.seq (.seq (.dr [0,1,2,3,4,5,6,7,8,9,10,11,12,13,14,15,16,17,18,19,20,21,22,23,24,25,26,27,28,29,30,31] 32 (.g r r r (fun _=>.fa un32 r sz29 r (o:=2) r r r .mk) (.g r r r (fun _=>.load1 ia29 r .z r r r .mk) (.fk 1 r ?_))))))))
   obtain ⟨U,h3,D,hd⟩:=hd
   obtain ⟨h4,o744,f9,e4,b1,b2⟩:=R3.2 _ _ D
   cases b2
   refine .g r r r (fun _=>.ixa un29 sz3 r e4 r U (idx_lt D U) r r .mk) (.g r r r (fun _=>.ld1 (j:=0) ia3 b1 r r r r r .mk) (.g r r r (fun _=>.fa un32 r sz29 r (o:=2) r r r .mk) (.g r r r (fun _=>.load1 ia29 r .z r r r .mk) (.fk 2 r ?_))))
   obtain ⟨V,h5,E,hd⟩:=hd
   obtain ⟨h6,o753,g0,e5,b3,b4⟩:=R3.2 _ _ E
   cases b4
   refine .g r r r (fun _=>.ixa un29 sz3 r e5 r V (idx_lt E V) r r .mk) (.g r r r (fun _=>.ld1 (j:=0) ia3 b3 r r r r r .mk) (.fk 2 r ?_))
   refine splitP hd (fun f hd=>?_) fun f hd=>?_
   · rw [f]
     exact .fk 19 r (.e2 32 (.nilS [101,3,1] r r (.condKT r r (.sr (.ks 1 r (.nilS [2] r r (.drop .z (.ret (pret results243 (.t r .n) a ⟨false,r,hd⟩)))))))))
   rw [f]
   refine .g r r r (fun _=>.gyes r r r (.fa un32 r sz29 r (o:=2) r r r .mk)) (.g r r r (fun _=>.gyes r r r (.load1 ia29 r .z r r r .mk)) (.fk 1 r ?_))
   obtain ⟨W,h7,F,hd⟩:=hd
   obtain ⟨h8,o763,g1,e6,b5,b6⟩:=R3.2 _ _ F
   cases b6
   refine .g r r r (fun _=>.gyes r r r (.ixa un29 sz3 r e6 r W (idx_lt F W) r r .mk)) (.g r r r (fun _=>.gyes r r r (.ld1 (j:=0) ia3 b5 r r r r r .mk)) (.fk 3 r ?_))
   refine splitP hd (fun h hd=>?_) fun h hd=>?_
   · rw [h]
     exact .fk 11 r (.e2 32 (.nilS [101,3,1] r r (.condKT r r (.sr (.ks 1 r (.nilS [2] r r (.drop .z (.ret (pret results243 (.t r .n) a ⟨false,r,hd⟩)))))))))
   rw [h]
   refine .g r r r (fun _=>.gyes r r r (.fa un32 r sz29 r (o:=2) r r r .mk)) (.g r r r (fun _=>.gyes r r r (.load1 ia29 r .z r r r .mk)) (.fk 2 r ?_))
   obtain ⟨X,h9,G,hd⟩:=hd
   obtain ⟨i0,o773,g2,e7,b7,b8⟩:=R3.2 _ _ G
   cases b8
   refine .g r r r (fun _=>.gyes r r r (.ixa un29 sz3 r e7 r X (idx_lt G X) r r .mk)) (.g r r r (fun _=>.gyes r r r (.ld1 (j:=0) ia3 b7 r r r r r .mk)) (.g r r r (fun _=>.gyes r r r (.fa un32 r sz29 r (o:=3) r r r .mk)) (.g r r r (fun _=>.gyes r r r (.load1 ia29 r .z r r r .mk)) (.g r r r (fun _=>.gyes r r r (.len un29 r r r r .mk)) (.fk 2 r (.e2 32 (.nilS [101,3,1] r r (.condP r hd (fun b9 hd=>?_) fun b9 hd=>?_))))))))
   · exact .sr (.ks 1 r (.nilS [2] r r (.drop .z (.ret (pret results243 (.t r .n) a ⟨false,r,hd⟩)))))
   refine .skipS [3,1] r r (.sr (.fa un32 r sz29 r (o:=2) r r r (.load1 ia29 r .z r r r (.ks 1 r ?_))))
   obtain ⟨Y,i1,H,hd⟩:=hd
   obtain ⟨i2,o792,g3,e8,c0,c1⟩:=R3.2 _ _ H
   cases c1
   refine .ixa un29 sz3 r e8 r Y (idx_lt H Y) r r (.ld1 (j:=0) ia3 c0 r r r r r (.ks 1 r (.nilS [4,3,1] r r (.block (.loop hd (fun (i:Int) c w=>∃ I_,IH.le T I_∧Ok ⟨156,[],none⟩ [(1,.pointer (some ⟨C,0,none⟩)),(3,.int .i64 e),(4,.int .i64 i)] c∧Sym w0 M I I_ [pto C (.cells #[.int .i64 a0.Rows,.int .i64 a0.Cols,.slice p1 a0.Start.length c2,.slice p4 a0.Col.length c5,.slice p7 a0.Val.length c8] 32 (0,0))] w) (fun c w ho hs=>⟨T,(.refl _),ho.sub ⟨r,r,r,trivial⟩,hs.pick (.c .z .n)⟩) ?_)))))
   rintro i f5 hd c w hst
   obtain ⟨B,b,hok,hsym⟩:=hst
   have d:=IH.le.trans a b
   replace R3:=R3.mono b
   replace R6:=R6.mono b
   replace R9:=R9.mono b
   refine Cod.at hok hsym (.seq (.sr (.ks 1 r (.fa un32 r sz29 r (o:=2) r r r (.load1 ia29 r .z r r r (.ks 2 r ?_))))))
   obtain ⟨Z,i3,J,hd⟩:=hd
   obtain ⟨i4,o957,g4,e9,c3,c4⟩:=R3.2 _ _ J
   cases c4
   refine .ixa un29 sz3 r e9 r Z (idx_lt J Z) r r (.ld1 (j:=0) ia3 c3 r r r r r (.ks 1 r (.nilS [114,4,3,1] r r (.condP r hd (fun c6 hd=>?_) fun c6 hd=>?_))))
   · refine .skipS [4,3,1] r r (.seq (.block (.seq (.dr [0,1,2,3,4,5,6,7,8,9,10,11,12,13,14,15,16,17,18,19,20,21,22,23,24,25,26,27,28,29,30,31,32,33,34,35,36,37,38] 39 (.g r r r (fun _=>.fa un32 r sz29 r (o:=3) r r r .mk) (.g r r r (fun _=>.load1 ia29 r .z r r r .mk) (.fk 1 r ?_)))))))
     obtain ⟨a1,i5,K,hd⟩:=hd
     obtain ⟨i6,o967,g5,f0,c7,c9⟩:=R6.2 _ _ K
     cases c9
     refine .g r r r (fun _=>.ixa un29 sz3 r f0 r a1 (idx_lt K a1) r r .mk) (.g r r r (fun _=>.ld1 (j:=0) ia3 c7 r r r r r .mk) (.fk 2 r ?_))
     refine splitP hd (fun k hd=>?_) fun k hd=>?_
     · rw [k]
       exact .fk 32 r (.e2 39 (.nilS [155,4,3,1] r r (.condKT r r (.sr (.ks 1 r (.nilS [2] r r (.drop .z (.ret (pret results243 (.t r .n) d ⟨false,r,hd⟩)))))))))
     rw [k]
     refine .g r r r (fun _=>.gyes r r r (.fa un32 r sz29 r (o:=3) r r r .mk)) (.g r r r (fun _=>.gyes r r r (.load1 ia29 r .z r r r .mk)) (.fk 1 r ?_))
     obtain ⟨a2,i7,L,hd⟩:=hd
     obtain ⟨i8,o977,g6,f1,d0,d1⟩:=R6.2 _ _ L
     cases d1
     refine .g r r r (fun _=>.gyes r r r (.ixa un29 sz3 r f1 r a2 (idx_lt L a2) r r .mk)) (.g r r r (fun _=>.gyes r r r (.ld1 (j:=0) ia3 d0 r r r r r .mk)) (.g r r r (fun _=>.gyes r r r (.fa un32 r sz3 r (o:=1) r r r .mk)) (.g r r r (fun _=>.gyes r r r (.load1 ia3 r .z r r r .mk)) (.fk 3 r ?_))))
     refine splitP hd (fun l hd=>?_) fun l hd=>?_
     · rw [l]
       exact .fk 22 r (.e2 39 (.nilS [155,4,3,1] r r (.condKT r r (.sr (.ks 1 r (.nilS [2] r r (.drop .z (.ret (pret results243 (.t r .n) d ⟨false,r,hd⟩)))))))))
     rw [l]
     refine .fk 1 r (.g r r r (fun _=>.gyes r r r (.fa un32 r sz29 r (o:=2) r r r .mk)) (.g r r r (fun _=>.gyes r r r (.load1 ia29 r .z r r r .mk)) (.fk 1 r ?_)))
     obtain ⟨a3,i9,N,hd⟩:=hd
     obtain ⟨j0,o987,g7,f2,d2,d3⟩:=R3.2 _ _ N
     cases d3
     refine .g r r r (fun _=>.gyes r r r (.ixa un29 sz3 r f2 r a3 (idx_lt N a3) r r .mk)) (.g r r r (fun _=>.gyes r r r (.ld1 (j:=0) ia3 d2 r r r r r .mk)) (.fk 2 r ?_))
     refine splitP hd (fun m hd=>?_) fun m hd=>?_
     · rw [m]
       refine .g r r r (fun _=>.gyes r r r (.fa un32 r sz29 r (o:=3) r r r .mk)) (.g r r r (fun _=>.gyes r r r (.load1 ia29 r .z r r r .mk)) (.fk 1 r ?_))
       obtain ⟨a4,j1,O,hd⟩:=hd
       obtain ⟨j2,o997,g8,f3,a5,a6⟩:=R6.2 _ _ O
       cases a6
       refine .g r r r (fun _=>.gyes r r r (.ixa un29 sz3 r f3 r a4 (idx_lt O a4) r r .mk)) (.g r r r (fun _=>.gyes r r r (.ld1 (j:=0) ia3 a5 r r r r r .mk)) (.g r r r (fun _=>.gyes r r r (.fa un32 r sz29 r (o:=3) r r r .mk)) (.g r r r (fun _=>.gyes r r r (.load1 ia29 r .z r r r .mk)) (.fk 2 r ?_))))
       obtain ⟨P,g9,p,hd⟩:=hd
       obtain ⟨h0,o1006,f8,d4,a7,a8⟩:=R6.2 _ _ p
       cases a8
       refine .g r r r (fun _=>.gyes r r r (.ixa un29 sz3 r d4 r P (idx_lt p P) r r .mk)) (.g r r r (fun _=>.gyes r r r (.ld1 (j:=0) ia3 a7 r r r r r .mk)) (.fk 3 r (.e2 39 (.nilS [155,4,3,1] r r (.condP r hd (fun a9 hd=>?_) fun a9 hd=>?_)))))
       · exact .sr (.ks 1 r (.nilS [2] r r (.drop .z (.ret (pret results243 (.t r .n) d ⟨false,r,hd⟩)))))
       exact .skipS [4,3,1] r r (.region (.ks 3 r (.nil' fun c w ho hs=>⟨(w64 (i+1)),hd,B,b,ho.sub ⟨r,r,r,trivial⟩,hs.pick (.c .z .n)⟩)))
     rw [m]
     exact .fk 14 r (.e2 39 (.nilS [155,4,3,1] r r (.condKF r r (.skipS [4,3,1] r r (.region (.ks 3 r (.nil' fun c w ho hs=>⟨(w64 (i+1)),hd,B,b,ho.sub ⟨r,r,r,trivial⟩,hs.pick (.c .z .n)⟩)))))))
   exact .exitS [3,1] r r (.region (.ks 3 r (.nil' fun c w ho hs=>⟨(w64 (e+1)),hd,B,d,ho.sub ⟨r,r,trivial⟩,hs.pick (.c .z .n)⟩)))
 exact .exitS [] r r (.drop .z (.sr (.ks 1 r (.nilS [2] r r (.ret (pret results243 (.t r .n) a ⟨true,r,hd⟩))))))
theorem W_ref07_Sure {I:IH} {a0:Rows} {p1:Option Addr} {c2:Nat} {p4:Option Addr} {c5:Nat} {p7:Option Addr} {c8:Nat} {Q:Rows→Prop} (R3:RepSl eI64 I p1 c2 a0.Start) (R6:RepSl eI64 I p4 c5 a0.Col) (R9:RepSl eI64 I p7 c8 a0.Val) (hd:ref07_Sure a0 Q) :
  PFun prog 202 [.agg #[.int .i64 a0.Rows,.int .i64 a0.Cols,.slice p1 a0.Start.length c2,.slice p4 a0.Col.length c5,.slice p7 a0.Val.length c8]] I (o8_ Q):=by
 refine Fun.enter func202 r ntmps202 r (.c .n) fun w0 M=>?_
 refine .sr (.boxA r r r fun v=>?_)
 refine .allocA zv32 r r fun x=>?_
 refine .nilS [2,1] r r (.seq (.sr (.loadW ia32 sz32 r (.s .z) r r r ?_)))
 have f:=W_ref07_Right (I:=I) R3 R6 R9 hd
 refine .callP call243 r f r r fun y g=>?_
 obtain ⟨A,rfl,hd⟩:=g
 refine .nilS [4,2,1] r r (.condP r hd (fun h hd=>?_) fun h hd=>?_)
 · exact .sr (.loadW ia32 sz32 r (.s .z) r r r (.storeA sz32 r r .z (.t (.t (.t (.t (.t .nil))))) r r (.nilS [2] r r (.drop (.s .z) (.ret (pret results202 (.w ia32 sz32 r .z r .n) (.refl _) ⟨a0,_,_,_,_,_,_,r,R3,R6,R9,hd⟩))))))
 refine .skipS [2] r r (.drop (.s .z) (.sr ?_))
 have i:=W_ref07_Empty (I:=I) hd
 refine .callO call101 r i r r fun B C D j k=>?_
 obtain ⟨q,E,F,G,H,J,K,rfl,rfl,hd⟩:=k
 refine .storeA sz32 r r (.s (.s (.s .z))) (.t (.t (.t (.t (.t .nil))))) r r (.nilS [2] r r (.pub .z fun L l a=>?_))
 have m:=IH.le.trans j l
 refine .pub .z fun N d e=>?_
 have o:=IH.le.trans m d
 replace a:=a.mono d
 refine .pub .z fun O b u=>?_
 have p:=IH.le.trans o b
 replace a:=a.mono b
 replace e:=e.mono b
 exact .ret (pret results202 (.w ia32 sz32 r .z r .n) p ⟨q,_,_,_,_,_,_,r,a,e,u,hd⟩)
theorem W_ref21_Asked {I:IH} {a0:Plan} {a1:State} {a2:Int} {p1:Option Addr} {c2:Nat} {p4:Option Addr} {c5:Nat} {p7:Option Addr} {c8:Nat} {p10:Option Addr} {c11:Nat} {Q:((List Int)×Bool)→Prop} (R3:RepSl eI64 I p1 c2 a0.Draws) (R6:RepSl eI64 I p4 c5 a1.A) (R9:RepSl eI64 I p7 c8 a1.B) (R12:RepSl eU64 I p10 c11 a1.On) (hd:ref21_Asked a0 a1 a2 Q) :
  PFun prog 203 [.agg #[.int .i64 a0.Kind,.int .i64 a0.N,.int .i64 a0.Source,.int .i64 a0.Length,.slice p1 a0.Draws.length c2],.agg #[.int .i64 a1.Low,.int .i64 a1.High,.slice p4 a1.A.length c5,.slice p7 a1.B.length c8,.slice p10 a1.On.length c11],.int .i64 a2] I (o28_ Q):=by
 refine Fun.enter func203 r ntmps203 r (.c (.c (.c .n))) fun w0 M=>?_
 refine .sr (.boxA r r r fun F=>?_)
 refine .boxA r r r fun G=>?_
 refine .ks 2 r (.nilS [4,3] r r (.sr (.loadW ia49 sz49 r (.s .z) r r r (.loadW ia42 sz42 r .z r r r ?_))))
 have c3:=W_ref21_Sure (I:=I) R3 R6 R9 R12 hd
 refine .call call72 r c3 r r fun g0 L k c4=>?_
 obtain ⟨h,b5,b6,b7,b8,b9,c0,rfl,f,m,p,hd⟩:=c4
 replace R3:=R3.mono k
 replace R6:=R6.mono k
 replace R9:=R9.mono k
 replace R12:=R12.mono k
 refine .storeA sz42 r r .z (.t (.t (.t (.t (.t .nil))))) r r (.nilS [4,3] r r (.seq ?_))
 refine Cod.joinQ (σ:=Unit) hd (fun (_:Unit) c w=>∃ I_,IH.le L I_∧Ok ⟨63,[],none⟩ [(3,.pointer (some ⟨F,0,none⟩)),(4,.pointer (some ⟨G,0,none⟩))] c∧Sym w0 M I I_ [pto F (.cells #[.int .i64 a0.Kind,.int .i64 a0.N,.int .i64 a0.Source,.int .i64 a0.Length,.slice p1 a0.Draws.length c2] 49 (0,0)),pto G (.cells #[.int .i64 h.Low,.int .i64 h.High,.slice b5 h.A.length b6,.slice b7 h.B.length b8,.slice b9 h.On.length c0] 42 (0,0))] w) (fun g1 hd=>?_) ?_
 · skip
   refine .sr (.fa un49 r sz47 r (o:=0) r r r (.load1 ia47 r (.s .z) r r r (.ks 2 r ?_)))
   refine splitP hd (fun y hd=>?_) fun y hd=>?_
   · rw [y]
     refine .gyes r r r (.fa un49 r sz47 r (o:=0) r r r (.gyes r r r (.load1 ia47 r (.s .z) r r r (.ks 2 r (.nilS [20,4,3] r r (.condP r hd (fun c6 hd=>?_) fun c6 hd=>?_))))))
     · exact .sr (.ks 2 r (.nilS [7,6] r r (.drop .z (.drop .z (.ret (pret results203 (.t r (.t r .n)) k ⟨(([]:List Int),true),_,_,r,(.nil _ _ _),hd⟩))))))
     exact .skip' fun c w ho hs=>⟨(),hd,L,(.refl _),ho.sub ⟨r,r,trivial⟩,hs.pick (.c (.s .z) (.c .z .n))⟩
   rw [y]
   exact .ks 4 r (.nilS [20,4,3] r r (.condKF r r (.skip' fun c w ho hs=>⟨(),hd,L,(.refl _),ho.sub ⟨r,r,trivial⟩,hs.pick (.c (.s .z) (.c .z .n))⟩)))
 rintro ⟨⟩ hd c w hst
 obtain ⟨c1,l,hok,hsym⟩:=hst
 have c7:=IH.le.trans k l
 replace R3:=R3.mono l
 replace f:=f.mono l
 replace m:=m.mono l
 replace p:=p.mono l
 refine Cod.at hok hsym (.sr (.ks 1 r (.nilS [8,4,3] r r (.seq (.sr (.ks 1 r (.nilS [9,8,4,3] r r (.block (.own0 eI64 3 ?_)))))))))
 refine .loop hd (fun (s:(List Int)×Int) c w=>match s with | (d,b)=>∃ I_ C D,IH.le c1 I_∧Ok ⟨63,[],none⟩ [(3,.pointer (some ⟨F,0,none⟩)),(4,.pointer (some ⟨G,0,none⟩)),(8,.slice C d.length D),(9,.int .i64 b)] c∧Sym w0 M I I_ [pto F (.cells #[.int .i64 a0.Kind,.int .i64 a0.N,.int .i64 a0.Source,.int .i64 a0.Length,.slice p1 a0.Draws.length c2] 49 (0,0)),pto G (.cells #[.int .i64 h.Low,.int .i64 h.High,.slice b5 h.A.length b6,.slice b7 h.B.length b8,.slice b9 h.On.length c0] 42 (0,0)),OwnSl eI64 3 C D d] w) (fun c w ho hs=>⟨c1,_,_,(.refl _),ho.sub ⟨r,r,r,r,trivial⟩,hs.pick (.c (.s .z) (.c (.s .z) (.c .z .n)))⟩) ?_
 rintro ⟨d,b⟩ d5 hd c w hst
 obtain ⟨i,C,D,a,hok,hsym⟩:=hst
 have S:=IH.le.trans c7 a
 have T:=IH.le.trans l a
 replace R3:=R3.mono a
 replace f:=f.mono a
 replace m:=m.mono a
 replace p:=p.mono a
 refine Cod.at hok hsym (.seq (.sr (.ks 1 r (.fa un42 r sz30 r (o:=2) r r r (.load1 ia30 r (.s .z) r r r (.len un30 r r r r (.ks 1 r (.nilS [25,9,8,4,3] r r (.condP r hd (fun U hd=>?_) fun U hd=>?_)))))))))
 · refine .skipS [9,8,4,3] r r (.seq (.block (.sr (.fa un49 r sz47 r (o:=0) r r r (.load1 ia47 r .z r r r (.ks 2 r ?_))))))
   refine splitP hd (fun q hd=>?_) fun q hd=>?_
   · rw [q]
     refine .gyes r r r (.fa un42 r sz30 r (o:=2) r r r (.gyes r r r (.load1 ia30 r (.s .z) r r r (.ks 1 r ?_))))
     obtain ⟨O,e1,H,hd⟩:=hd
     obtain ⟨e2,o396,d6,c9,V,W⟩:=f.2 _ _ H
     cases W
     refine .gyes r r r (.ixa un30 sz2 r c9 r O (idx_lt H O) r r (.gyes r r r (.ld1 (j:=0) ia2 V r r r r r (.ks 3 r ?_))))
     refine splitP hd (fun u hd=>?_) fun u hd=>?_
     · rw [u]
       refine .ks 12 r (.nilS [51,9,8,4,3] r r (.condKT r r (.region (.ks 2 r (.buildSlice 1 un29 sz3 zv3 r r (.c r r r .n) r r fun e3=>?_)))))
       obtain ⟨X,hd⟩:=hd
       refine .append (ys:=[b]) 8 (.s (.s (.s .z))) un29 un29 IN3 r r r r r r r r r (.box .z (.one r) r) X r r fun e4 e5=>?_
       exact .ks 1 r (.nilS [8,9,4,3] r r (.drop (.s .z) (.region (.ks 3 r (.nil' fun c w ho hs=>⟨((d++([b])),w64 (b+1)),hd,i,_,_,a,ho.sub ⟨r,r,r,r,trivial⟩,hs.pick (.c (.s .z) (.c (.s .z) (.c .z .n)))⟩)))))
     rw [u]
     refine .gyes r r r (.fa un49 r sz47 r (o:=0) r r r (.gyes r r r (.load1 ia47 r .z r r r (.ks 2 r ?_))))
     refine splitP hd (fun v hd=>?_) fun v hd=>?_
     · rw [v]
       refine .gyes r r r (.fa un42 r sz30 r (o:=2) r r r (.gyes r r r (.load1 ia30 r (.s .z) r r r (.ks 1 r ?_))))
       obtain ⟨P,e6,J,hd⟩:=hd
       obtain ⟨e7,o413,d7,d0,Y,Z⟩:=f.2 _ _ J
       cases Z
       refine .gyes r r r (.ixa un30 sz2 r d0 r P (idx_lt J P) r r (.gyes r r r (.ld1 (j:=0) ia2 Y r r r r r (.ks 3 r (.nilS [51,9,8,4,3] r r (.condP r hd (fun a3 hd=>?_) fun a3 hd=>?_))))))
       · refine .region (.ks 2 r (.buildSlice 1 un29 sz3 zv3 r r (.c r r r .n) r r fun e8=>?_))
         obtain ⟨a4,hd⟩:=hd
         refine .append (ys:=[b]) 8 (.s (.s (.s .z))) un29 un29 IN3 r r r r r r r r r (.box .z (.one r) r) a4 r r fun e9 f0=>?_
         exact .ks 1 r (.nilS [8,9,4,3] r r (.drop (.s .z) (.region (.ks 3 r (.nil' fun c w ho hs=>⟨((d++([b])),w64 (b+1)),hd,i,_,_,a,ho.sub ⟨r,r,r,r,trivial⟩,hs.pick (.c (.s .z) (.c (.s .z) (.c .z .n)))⟩)))))
       exact .skipS [9,8,4,3] r r (.region (.ks 3 r (.nil' fun c w ho hs=>⟨(d,w64 (b+1)),hd,i,_,_,a,ho.sub ⟨r,r,r,r,trivial⟩,hs.pick (.c .z (.c .z (.c .z .n)))⟩)))
     rw [v]
     exact .ks 8 r (.nilS [51,9,8,4,3] r r (.condKF r r (.skipS [9,8,4,3] r r (.region (.ks 3 r (.nil' fun c w ho hs=>⟨(d,w64 (b+1)),hd,i,_,_,a,ho.sub ⟨r,r,r,r,trivial⟩,hs.pick (.c .z (.c .z (.c .z .n)))⟩))))))
   rw [q]
   refine .ks 8 r (.gyes r r r (.fa un49 r sz47 r (o:=0) r r r (.gyes r r r (.load1 ia47 r .z r r r (.ks 2 r ?_)))))
   refine splitP hd (fun x hd=>?_) fun x hd=>?_
   · rw [x]
     refine .gyes r r r (.fa un42 r sz30 r (o:=2) r r r (.gyes r r r (.load1 ia30 r (.s .z) r r r (.ks 1 r ?_))))
     obtain ⟨R,f1,K,hd⟩:=hd
     obtain ⟨f2,o430,d8,d1,a5,a6⟩:=f.2 _ _ K
     cases a6
     refine .gyes r r r (.ixa un30 sz2 r d1 r R (idx_lt K R) r r (.gyes r r r (.ld1 (j:=0) ia2 a5 r r r r r (.ks 3 r (.nilS [51,9,8,4,3] r r (.condP r hd (fun a7 hd=>?_) fun a7 hd=>?_))))))
     · refine .region (.ks 2 r (.buildSlice 1 un29 sz3 zv3 r r (.c r r r .n) r r fun f3=>?_))
       obtain ⟨a8,hd⟩:=hd
       refine .append (ys:=[b]) 8 (.s (.s (.s .z))) un29 un29 IN3 r r r r r r r r r (.box .z (.one r) r) a8 r r fun f4 f5=>?_
       exact .ks 1 r (.nilS [8,9,4,3] r r (.drop (.s .z) (.region (.ks 3 r (.nil' fun c w ho hs=>⟨((d++([b])),w64 (b+1)),hd,i,_,_,a,ho.sub ⟨r,r,r,r,trivial⟩,hs.pick (.c (.s .z) (.c (.s .z) (.c .z .n)))⟩)))))
     exact .skipS [9,8,4,3] r r (.region (.ks 3 r (.nil' fun c w ho hs=>⟨(d,w64 (b+1)),hd,i,_,_,a,ho.sub ⟨r,r,r,r,trivial⟩,hs.pick (.c .z (.c .z (.c .z .n)))⟩)))
   rw [x]
   exact .ks 8 r (.nilS [51,9,8,4,3] r r (.condKF r r (.skipS [9,8,4,3] r r (.region (.ks 3 r (.nil' fun c w ho hs=>⟨(d,w64 (b+1)),hd,i,_,_,a,ho.sub ⟨r,r,r,r,trivial⟩,hs.pick (.c .z (.c .z (.c .z .n)))⟩))))))
 refine .exitS [8,4] r r (.drop .z (.sr (.fa un42 r sz3 r (o:=1) r r r (.load1 ia3 r .z r r r (.fa un42 r sz3 r (o:=0) r r r (.load1 ia3 r .z r r r (.ks 2 r (.pub (.s .z) fun d2 g E=>?_))))))))
 have a9:=IH.le.trans S g
 have b0:=IH.le.trans T g
 have b1:=IH.le.trans a g
 replace f:=f.mono g
 replace m:=m.mono g
 replace p:=p.mono g
 have b2:=W_ref03_Of (I:=d2) E hd
 refine .call call62 r b2 r r fun f6 f7 e b3=>?_
 obtain ⟨d3,f8,f9,rfl,d4,hd⟩:=b3
 have b4:=IH.le.trans a9 e
 have d9:=IH.le.trans b0 e
 have e0:=IH.le.trans b1 e
 replace f:=f.mono e
 replace m:=m.mono e
 replace p:=p.mono e
 replace E:=E.mono e
 exact .ks 2 r (.nilS [7,6] r r (.drop .z (.ret (pret results203 (.t r (.t r .n)) b4 ⟨(d3,false),_,_,r,d4,hd⟩))))
theorem W_ref01_Minus {I:IH} {a0:Wide} {Q:Wide→Prop}  (hd:ref01_Minus a0 Q) :
  PFun prog 214 [.agg (encWide a0).toArray] I (fun _=>o2_ Q):=by
 refine Fun.enter func214 r ntmps214 r (.c .n) fun w0 M=>?_
 refine .sr (.boxA r r r fun f=>?_)
 refine .allocA zv127 r r fun g=>?_
 refine .nilS [2,1] r r (.sr (.fa un127 r sz2 r (o:=0) r r r (.load1 ia2 r (.s .z) r r r (.invS r r r r (.fa un127 r sz125 r (o:=1) r r r (.load1 ia125 r (.s .z) r r r (.invU (M:=18446744073709551615) r (by decide) r r r (.build zv127 un127 BI127 (.c r r r (.t .nil) (.c r r r (.s (.t .nil)) .n)) (by exact ⟨⟨_,_,r,r,r⟩,⟨⟨_,_,r,r,r⟩,trivial⟩⟩) r r (.build zv127 un127 BI127 (.c r r r (.s (.t .nil)) .n) (by exact ⟨⟨_,_,r,r,r⟩,trivial⟩) r r ?_)))))))))
 have a:=W_ref01_Add (I:=I) hd
 refine .callP call141 r a r r fun e b=>?_
 obtain ⟨d,rfl,hd⟩:=b
 exact .storeA sz127 r r .z (.t (.t .nil)) r r (.nilS [2] r r (.drop (.s .z) (.ret (pret results214 (.w ia127 sz127 r .z r .n) (.refl _) ⟨d,r,hd⟩))))
theorem W_ref01_Mul {I:IH} {a0:Int} {a1:Int} {Q:Wide→Prop}  (hd:ref01_Mul a0 a1 Q) :
  PFun prog 145 [.int .i64 a0,.int .i64 a1] I (fun _=>o2_ Q):=by
 refine Fun.enter func145 r ntmps145 r (.c (.c .n)) fun w0 M=>?_
 refine .sr (.allocA zv127 r r fun o=>?_)
 refine .nilS [4,1,0] r r (.sr (.ks 1 r ?_))
 have K:=W_ref01_Of (I:=I) hd
 refine .callP call142 r K r r fun W L=>?_
 obtain ⟨F,rfl,hd⟩:=L
 refine .allocA zv127 r r fun g=>?_
 refine .storeA sz127 r r .z (.t (.t .nil)) r r (.nilS [5,4,1] r r (.sr (.ks 3 r (.nilS [6,5,4,1] r r (.sr (.ks 1 r (.conv un2 un125 r r r (.ks 1 r (.nilS [7,6,5,4] r r ?_)))))))))
 refine .seq ?_
 refine Cod.joinQ (σ:=Int) hd (fun (G:Int) c w=>∃ I_,IH.le I I_∧Ok ⟨35,[],none⟩ [(4,.pointer (some ⟨o,0,none⟩)),(5,.pointer (some ⟨g,0,none⟩)),(6,.bool (decide (a1<0))),(7,.int .u64 G)] c∧Sym w0 M I I_ [pto o (.cells #[.int .i64 0,.int .u64 0] 127 (0,0)),pto g (.cells #[.int .i64 F.Hi,.int .u64 F.Lo] 127 (0,0))] w) (fun X hd=>?_) ?_
 · skip
   refine .sr (.ks 1 r (.nilS [15,7,6,5,4] r r (.condP r hd (fun N hd=>?_) fun N hd=>?_)))
   · exact .region (.ks 1 r (.neg r r r (.ks 1 r (.nil' fun c w ho hs=>⟨(IntKind.wrap .u64 (0 - (IntKind.wrap .u64 (a1)))),hd,I,(.refl _),ho.sub ⟨r,r,r,r,trivial⟩,hs.pick (.c (.s .z) (.c .z .n))⟩))))
   exact .skip' fun c w ho hs=>⟨(IntKind.wrap .u64 (a1)),hd,I,(.refl _),ho.sub ⟨r,r,r,r,trivial⟩,hs.pick (.c (.s .z) (.c .z .n))⟩
 rintro G hd c w hst
 obtain ⟨H,O,hok,hsym⟩:=hst
 refine Cod.at hok hsym (.sr (.allocA zv127 r r fun J=>?_))
 refine .nilS [8,7,6,5,4] r r (.seq (.block (.loop hd (fun (s:Int×Int×Int×Int×Int) c w=>match s with | (i,j,b,d,e)=>∃ I_,IH.le H I_∧Ok ⟨35,[],none⟩ [(4,.pointer (some ⟨o,0,none⟩)),(5,.pointer (some ⟨g,0,none⟩)),(6,.bool (decide (a1<0))),(7,.int .u64 b),(8,.pointer (some ⟨J,0,none⟩))] c∧Sym w0 M I I_ [pto o (.cells #[.int .i64 0,.int .u64 0] 127 (0,0)),pto g (.cells #[.int .i64 i,.int .u64 j] 127 (0,0)),pto J (.cells #[.int .i64 d,.int .u64 e] 127 (0,0))] w) (fun c w ho hs=>⟨H,(.refl _),ho.sub ⟨r,r,r,r,r,trivial⟩,hs.pick (.c (.s .z) (.c (.s .z) (.c .z .n)))⟩) ?_)))
 rintro ⟨i,j,b,d,e⟩ R hd c w hst
 obtain ⟨a,f,hok,hsym⟩:=hst
 have h:=IH.le.trans O f
 refine Cod.at hok hsym (.seq (.sr (.ks 2 r (.nilS [19,8,7,6,5,4] r r (.condP r hd (fun p hd=>?_) fun p hd=>?_)))))
 · refine .skipS [8,7,6,5,4] r r (.block (.seq (.sr (.ks 1 r (.rem r r (by decide) r r (.ks 1 r (.nilS [22,8,7,6,5,4] r r (.condP r hd (fun q hd=>?_) fun q hd=>?_))))))))
   · refine .region (.loadW ia127 sz127 r (.s (.s .z)) r r r (.loadW ia127 sz127 r (.s .z) r r r ?_))
     have u:=W_ref01_Add (I:=a) hd
     refine .callP call141 r u r r fun S v=>?_
     obtain ⟨k,rfl,hd⟩:=v
     refine .storeA sz127 r r (.s (.s .z)) (.t (.t .nil)) r r (.nilS [8,7,6,5,4] r r (.sr (.loadW ia127 sz127 r (.s .z) r r r (.loadW ia127 sz127 r (.s .z) r r r ?_))))
     have x:=W_ref01_Add (I:=a) hd
     refine .callP call141 r x r r fun T y=>?_
     obtain ⟨l,rfl,hd⟩:=y
     exact .storeA sz127 r r (.s .z) (.t (.t .nil)) r r (.nilS [8,7,6,5,4] r r (.region (.ks 1 r (.quo r r (by decide) r r (.ks 1 r (.nil' fun c w ho hs=>⟨(l.Hi,l.Lo,IntKind.wrap .u64 (b.tdiv 2),k.Hi,k.Lo),hd,a,f,ho.sub ⟨r,r,r,r,r,trivial⟩,hs.pick (.c .z (.c .z (.c .z .n)))⟩))))))
   refine .skipS [8,7,6,5,4] r r (.sr (.loadW ia127 sz127 r (.s .z) r r r (.loadW ia127 sz127 r (.s .z) r r r ?_)))
   have A:=W_ref01_Add (I:=a) hd
   refine .callP call141 r A r r fun U B=>?_
   obtain ⟨m,rfl,hd⟩:=B
   exact .storeA sz127 r r (.s .z) (.t (.t .nil)) r r (.nilS [8,7,6,5,4] r r (.region (.ks 1 r (.quo r r (by decide) r r (.ks 1 r (.nil' fun c w ho hs=>⟨(m.Hi,m.Lo,IntKind.wrap .u64 (b.tdiv 2),d,e),hd,a,f,ho.sub ⟨r,r,r,r,r,trivial⟩,hs.pick (.c .z (.c .z (.c .z .n)))⟩))))))
 refine .exitS [8,6,4] r r (.drop (.s .z) (.seq (.sr (.ks 1 r (.nilS [31,8,4] r r (.condP r hd (fun C hd=>?_) fun C hd=>?_))))))
 · refine .sr (.loadW ia127 sz127 r (.s .z) r r r ?_)
   have D:=W_ref01_Minus (I:=a) hd
   refine .callP call214 r D r r fun V E=>?_
   obtain ⟨P,rfl,hd⟩:=E
   exact .storeA sz127 r r .z (.t (.t .nil)) r r (.nilS [4] r r (.drop (.s .z) (.ret (pret results145 (.w ia127 sz127 r .z r .n) h ⟨P,r,hd⟩))))
 exact .skipS [8,4] r r (.sr (.loadW ia127 sz127 r (.s .z) r r r (.storeA sz127 r r .z (.t (.t .nil)) r r (.nilS [4] r r (.drop (.s .z) (.ret (pret results145 (.w ia127 sz127 r .z r .n) h ⟨({ Hi:=d,Lo:=e }:Wide),r,hd⟩)))))))
theorem W_ref02_Mul {I:IH} {a0:Int} {a1:Int} {a2:Int} {Q:Wide→Prop}  (hd:ref02_Mul a0 a1 a2 Q) :
  PFun prog 75 [.int .i64 a0,.int .i64 a1,.int .i64 a2] I (fun _=>o2_ Q):=by
 refine Fun.enter func75 r ntmps75 r (.c (.c (.c .n))) fun w0 M=>?_
 refine .sr (.allocA zv127 r r fun b3=>?_)
 refine .nilS [6,2,1,0] r r (.seq ?_)
 refine Cod.joinQ (σ:=Bool) hd (fun (s7:Bool) c w=>∃ I_,IH.le I I_∧Ok ⟨59,[],none⟩ [(0,.int .i64 a0),(1,.int .i64 a1),(2,.int .i64 a2),(6,.pointer (some ⟨b3,0,none⟩)),(7,.bool s7)] c∧Sym w0 M I I_ [pto b3 (.cells #[.int .i64 0,.int .u64 0] 127 (0,0))] w) (fun k8 hd=>?_) ?_
 · skip
   refine .region (.ks 3 r ?_)
   refine splitP hd (fun f hd=>?_) fun f hd=>?_
   · rw [f]
     exact .ks 4 r (.nil' fun c w ho hs=>⟨true,hd,I,(.refl _),ho.sub ⟨r,r,r,r,r,trivial⟩,hs.pick (.c .z .n)⟩)
   rw [f]
   exact .ks 4 r (.nil' fun c w ho hs=>⟨(decide (4611686018427387904≤a2)),hd,I,(.refl _),ho.sub ⟨r,r,r,r,r,trivial⟩,hs.pick (.c .z .n)⟩)
 rintro s7 hd c w hst
 obtain ⟨d,b,hok,hsym⟩:=hst
 refine Cod.at hok hsym (.sr (.ks 1 r (.nilS [15,7,6,2,1] r r (.block (.sr (.ks 2 r (.nilS [17,15,7,6,2,1] r r (.condP r hd (fun h hd=>?_) fun h hd=>?_))))))))
 · refine .sr (.ks 1 r ?_)
   have i:=W_ref01_Of (I:=d) hd
   refine .callP call142 r i r r fun v29 j=>?_
   obtain ⟨r27,rfl,hd⟩:=j
   refine .ks 1 r ?_
   have k:=W_ref01_Of (I:=d) hd
   refine .callP call142 r k r r fun v33 l=>?_
   obtain ⟨r31,rfl,hd⟩:=l
   have m:=W_ref01_Add (I:=d) hd
   refine .callP call141 r m r r fun v37 o=>?_
   obtain ⟨r35,rfl,hd⟩:=o
   refine .allocA zv127 r r fun b39=>?_
   refine .storeA sz127 r r .z (.t (.t .nil)) r r (.nilS [8,7,6] r r (.seq (.seq (.dr [0,1,2,3,4,5,6] 7 (.fk 2 r ?_)))))
   refine splitP hd (fun a hd=>?_) fun a hd=>?_
   · refine .g r r r (fun _=>.gno r r a r r .mk) (.g r r r (fun _=>.gno r r a r r .mk) (.g r r r (fun _=>.gno r r a r r .mk) (.g r r r (fun _=>.gno r r a r r .mk) (.g r r r (fun _=>.pickT r a r r r .mk) (.e2 7 (.nilS [30,8,6] r r (.condKT r r (.sr ?_))))))))
     have p:=W_ref01_Of (I:=d) hd
     refine .callP call142 r p r r fun v44 q=>?_
     obtain ⟨r42,rfl,hd⟩:=q
     exact .storeA sz127 r r (.s .z) (.t (.t .nil)) r r (.nilS [6] r r (.drop .z (.ret (pret results75 (.w ia127 sz127 r .z r .n) b ⟨r42,r,hd⟩))))
   refine .g r r r (fun _=>.gyes r r a (.loadW ia127 sz127 r .z r r r .mk)) (.ww r fun ex=>?_)
   have u:=W_ref01_Of (I:=d) hd
   refine .gyes r r a (.callP call142 r u r r fun v48 v=>?_)
   obtain ⟨r46,rfl,hd⟩:=v
   refine .so 2 r r r (.cg r r r r (fun _=>.gyes r r a (.loadW ia127 sz127 r .z r r r .mk)) trivial) (.ww r fun ex=>?_)
   have x:=W_ref01_Compare (I:=d) hd
   refine .gyes r r a (.callP call143 r x r r fun v52 y=>?_)
   obtain ⟨r50,rfl,hd⟩:=y
   refine .so 2 r r r trivial (.g r r r (fun _=>.gyes r r a (.gt r r r r .mk)) (.g r r r (fun _=>.pickF r a r r r .mk) (.e2 7 (.nilS [30,8,6] r r (.condP r hd (fun A hd=>?_) fun A hd=>?_)))))
   · refine .sr ?_
     have B:=W_ref01_Of (I:=d) hd
     refine .callP call142 r B r r fun v57 C=>?_
     obtain ⟨r55,rfl,hd⟩:=C
     exact .storeA sz127 r r (.s .z) (.t (.t .nil)) r r (.nilS [6] r r (.drop .z (.ret (pret results75 (.w ia127 sz127 r .z r .n) b ⟨r55,r,hd⟩))))
   exact .skipS [8,6] r r (.sr (.loadW ia127 sz127 r .z r r r (.storeA sz127 r r (.s .z) (.t (.t .nil)) r r (.nilS [6] r r (.drop .z (.ret (pret results75 (.w ia127 sz127 r .z r .n) b ⟨r35,r,hd⟩)))))))
 refine .sr (.ks 2 r (.nilS [33,15,7,6,2,1] r r (.condP r hd (fun D hd=>?_) fun D hd=>?_)))
 · refine .seq (.sr (.ks 1 r (.nilS [35,6,1] r r (.condP r hd (fun E hd=>?_) fun E hd=>?_))))
   · refine .sr ?_
     have F:=W_ref01_Of (I:=d) hd
     refine .callP call142 r F r r fun v63 G=>?_
     obtain ⟨r61,rfl,hd⟩:=G
     exact .storeA sz127 r r .z (.t (.t .nil)) r r (.nilS [6] r r (.ret (pret results75 (.w ia127 sz127 r .z r .n) b ⟨r61,r,hd⟩)))
   refine .skipS [6,1] r r (.sr (.ks 1 r ?_))
   have H:=W_ref01_Of (I:=d) hd
   refine .callP call142 r H r r fun v67 J=>?_
   obtain ⟨r65,rfl,hd⟩:=J
   exact .storeA sz127 r r .z (.t (.t .nil)) r r (.nilS [6] r r (.ret (pret results75 (.w ia127 sz127 r .z r .n) b ⟨r65,r,hd⟩)))
 refine .sr (.ks 2 r (.nilS [39,15,7,6,2,1] r r (.condP r hd (fun K hd=>?_) fun K hd=>?_)))
 · refine .seq (.sr (.ks 1 r (.nilS [41,6,2] r r (.condP r hd (fun L hd=>?_) fun L hd=>?_))))
   · refine .sr ?_
     have N:=W_ref01_Of (I:=d) hd
     refine .callP call142 r N r r fun v73 O=>?_
     obtain ⟨r71,rfl,hd⟩:=O
     exact .storeA sz127 r r .z (.t (.t .nil)) r r (.nilS [6] r r (.ret (pret results75 (.w ia127 sz127 r .z r .n) b ⟨r71,r,hd⟩)))
   refine .skipS [6,2] r r (.sr (.ks 1 r ?_))
   have P:=W_ref01_Of (I:=d) hd
   refine .callP call142 r P r r fun v77 R=>?_
   obtain ⟨r75,rfl,hd⟩:=R
   exact .storeA sz127 r r .z (.t (.t .nil)) r r (.nilS [6] r r (.ret (pret results75 (.w ia127 sz127 r .z r .n) b ⟨r75,r,hd⟩)))
 refine .sr (.ks 2 r (.nilS [45,15,6,2,1] r r (.condP r hd (fun S hd=>?_) fun S hd=>?_)))
 · refine .sr (.ks 3 r ?_)
   refine splitP hd (fun e hd=>?_) fun e hd=>?_
   · rw [e]
     refine .ks 3 r ?_
     have T:=W_ref02_truth (I:=d) hd
     refine .callP call144 r T r r fun v83 U=>?_
     obtain ⟨r81,rfl,hd⟩:=U
     exact .storeA sz127 r r .z (.t (.t .nil)) r r (.nilS [6] r r (.ret (pret results75 (.w ia127 sz127 r .z r .n) b ⟨r81,r,hd⟩)))
   rw [e]
   refine .ks 3 r ?_
   have V:=W_ref02_truth (I:=d) hd
   refine .callP call144 r V r r fun v87 W=>?_
   obtain ⟨r85,rfl,hd⟩:=W
   exact .storeA sz127 r r .z (.t (.t .nil)) r r (.nilS [6] r r (.ret (pret results75 (.w ia127 sz127 r .z r .n) b ⟨r85,r,hd⟩)))
 refine .sr (.ks 2 r (.nilS [54,6,2,1] r r (.condP r hd (fun X hd=>?_) fun X hd=>?_)))
 · refine .sr (.ks 2 r ?_)
   have Y:=W_ref01_Mul (I:=d) hd
   refine .callP call145 r Y r r fun v92 Z=>?_
   obtain ⟨r90,rfl,hd⟩:=Z
   exact .storeA sz127 r r .z (.t (.t .nil)) r r (.nilS [6] r r (.ret (pret results75 (.w ia127 sz127 r .z r .n) b ⟨r90,r,hd⟩)))
 exact .sr (.build zv127 un127 BI127 .n (by exact trivial) r r (.storeA sz127 r r .z (.t (.t .nil)) r r (.nilS [6] r r (.ret (pret results75 (.w ia127 sz127 r .z r .n) b ⟨({ Hi:=0,Lo:=0 }:Wide),r,hd⟩)))))
theorem W_ref10_Right {I:IH} {a0:Dense} {p1:Option Addr} {c2:Nat} {p4:Option Addr} {c5:Nat} {Q:Bool→Prop} (R3:RepSl eU64 I p1 c2 a0.Has) (R6:RepSl eI64 I p4 c5 a0.Vals) (hd:ref10_Right a0 Q) :
  PFun prog 284 [.agg #[.int .i64 a0.N,.slice p1 a0.Has.length c2,.slice p4 a0.Vals.length c5]] I (fun _=>o4_ Q):=by
 refine Fun.enter func284 r ntmps284 r (.c .n) fun w0 M=>?_
 refine .sr (.boxA r r r fun A=>?_)
 refine .ks 1 r (.nilS [1] r r (.seq (.sr (.fa un58 r sz3 r (o:=0) r r r (.load1 ia3 r .z r r r (.ks 2 r ?_))))))
 refine splitP hd (fun b hd=>?_) fun b hd=>?_
 · rw [b]
   exact .ks 20 r (.nilS [27,1] r r (.condKT r r (.sr (.ks 1 r (.nilS [2] r r (.drop .z (.ret (pret results284 (.t r .n) (.refl _) ⟨false,r,hd⟩))))))))
 rw [b]
 refine .gyes r r r (.fa un58 r sz3 r (o:=0) r r r (.gyes r r r (.load1 ia3 r .z r r r (.ks 3 r ?_))))
 refine splitP hd (fun d hd=>?_) fun d hd=>?_
 · rw [d]
   exact .ks 15 r (.nilS [27,1] r r (.condKT r r (.sr (.ks 1 r (.nilS [2] r r (.drop .z (.ret (pret results284 (.t r .n) (.refl _) ⟨false,r,hd⟩))))))))
 rw [d]
 refine .gyes r r r (.fa un58 r sz40 r (o:=1) r r r (.gyes r r r (.load1 ia40 r .z r r r (.gyes r r r (.fa un58 r sz3 r (o:=0) r r r (.gyes r r r (.load1 ia3 r .z r r r ?_)))))))
 have l:=W_ref03_Right (I:=I) R3 hd
 refine .gyes r r r (.callP call139 r l r r fun E m=>?_)
 obtain ⟨F,rfl,hd⟩:=m
 refine .ks 3 r ?_
 refine splitP hd (fun e hd=>?_) fun e hd=>?_
 · rw [e]
   exact .ks 7 r (.nilS [27,1] r r (.condKT r r (.sr (.ks 1 r (.nilS [2] r r (.drop .z (.ret (pret results284 (.t r .n) (.refl _) ⟨false,r,hd⟩))))))))
 rw [e]
 refine .gyes r r r (.fa un58 r sz30 r (o:=2) r r r (.gyes r r r (.load1 ia30 r .z r r r (.gyes r r r (.len un30 r r r r (.gyes r r r (.fa un58 r sz3 r (o:=0) r r r (.gyes r r r (.load1 ia3 r .z r r r (.ks 2 r (.nilS [27,1] r r (.condP r hd (fun p hd=>?_) fun p hd=>?_))))))))))))
 · exact .sr (.ks 1 r (.nilS [2] r r (.drop .z (.ret (pret results284 (.t r .n) (.refl _) ⟨false,r,hd⟩)))))
 refine .skipS [1] r r (.seq (.sr (.ks 1 r (.nilS [3,1] r r (.block (.loop hd (fun (g:Int) c w=>∃ I_,IH.le I I_∧Ok ⟨47,[],none⟩ [(1,.pointer (some ⟨A,0,none⟩)),(3,.int .i64 g)] c∧Sym w0 M I I_ [pto A (.cells #[.int .i64 a0.N,.slice p1 a0.Has.length c2,.slice p4 a0.Vals.length c5] 58 (0,0))] w) (fun c w ho hs=>⟨I,(.refl _),ho.sub ⟨r,r,trivial⟩,hs.pick (.c .z .n)⟩) ?_))))))
 rintro g B hd c w hst
 obtain ⟨h,a,hok,hsym⟩:=hst
 replace R3:=R3.mono a
 replace R6:=R6.mono a
 refine Cod.at hok hsym (.seq (.sr (.ks 1 r (.fa un58 r sz3 r (o:=0) r r r (.load1 ia3 r .z r r r (.ks 1 r (.nilS [31,3,1] r r (.condP r hd (fun q hd=>?_) fun q hd=>?_))))))))
 · refine .skipS [3,1] r r (.seq (.block (.sr (.fa un58 r sz40 r (o:=1) r r r (.load1 ia40 r .z r r r (.ks 1 r ?_))))))
   have s:=W_ref03_Has (I:=h) R3 hd
   refine .callP call201 r s r r fun G u=>?_
   obtain ⟨H,rfl,hd⟩:=u
   refine .ks 2 r ?_
   refine splitP hd (fun f hd=>?_) fun f hd=>?_
   · rw [f]
     refine .gyes r r r (.fa un58 r sz30 r (o:=2) r r r (.gyes r r r (.load1 ia30 r .z r r r (.ks 1 r ?_))))
     obtain ⟨k,J,i,hd⟩:=hd
     obtain ⟨K,o79,D,C,v,x⟩:=R6.2 _ _ i
     cases x
     refine .gyes r r r (.ixa un30 sz2 r C r k (idx_lt i k) r r (.gyes r r r (.ld1 (j:=0) ia2 v r r r r r (.ks 2 r (.nilS [46,3,1] r r (.condP r hd (fun y hd=>?_) fun y hd=>?_))))))
     · exact .sr (.ks 1 r (.nilS [2] r r (.drop .z (.ret (pret results284 (.t r .n) a ⟨false,r,hd⟩)))))
     exact .skipS [3,1] r r (.region (.ks 3 r (.nil' fun c w ho hs=>⟨(w64 (g+1)),hd,h,a,ho.sub ⟨r,r,trivial⟩,hs.pick (.c .z .n)⟩)))
   rw [f]
   exact .ks 7 r (.nilS [46,3,1] r r (.condKF r r (.skipS [3,1] r r (.region (.ks 3 r (.nil' fun c w ho hs=>⟨(w64 (g+1)),hd,h,a,ho.sub ⟨r,r,trivial⟩,hs.pick (.c .z .n)⟩))))))
 exact .exitS [] r r (.drop .z (.sr (.ks 1 r (.nilS [2] r r (.ret (pret results284 (.t r .n) a ⟨true,r,hd⟩))))))
theorem W_ref10_Back {I:IH} {a0:Dense} {p1:Option Addr} {c2:Nat} {p4:Option Addr} {c5:Nat} {Q:Vec→Prop} (R3:RepSl eU64 I p1 c2 a0.Has) (R6:RepSl eI64 I p4 c5 a0.Vals) (hd:ref10_Back a0 Q) :
  PFun prog 261 [.agg #[.int .i64 a0.N,.slice p1 a0.Has.length c2,.slice p4 a0.Vals.length c5]] I (fun I_ v=>∃ r p7 c8,v=.agg #[.int .i64 r.N,.slice p7 r.Items.length c8]∧RepSl eItem I_ p7 c8 r.Items∧Q r):=by
 refine Fun.enter func261 r ntmps261 r (.c .n) fun w0 M=>?_
 refine .sr (.boxA r r r fun O=>?_)
 refine .allocA zv54 r r fun P=>?_
 refine .nilS [2,1] r r (.seq (.sr (.loadW ia58 sz58 r (.s .z) r r r ?_)))
 have T:=W_ref10_Right (I:=I) R3 R6 hd
 refine .callP call284 r T r r fun c1 U=>?_
 obtain ⟨c3,rfl,hd⟩:=U
 refine .ks 1 r (.nilS [8,2,1] r r (.condP r hd (fun V hd=>?_) fun V hd=>?_))
 · exact .sr (.build zv54 un54 BI54 .n (by exact trivial) r r (.storeA sz54 r r .z (.t (.t .nil)) r r (.nilS [2] r r (.drop (.s .z) (.ret (pret results261 (.w ia54 sz54 r .z r .n) (.refl _) ⟨({ N:=0,Items:=([]:List Item) }:Vec),_,_,r,(.nil _ _ _),hd⟩))))))
 refine .skipS [2,1] r r (.sr (.fa un58 r sz3 r (o:=0) r r r (.load1 ia3 r (.s .z) r r r (.build zv54 un54 BI54 (.c r r r (.t .nil) .n) (by exact ⟨⟨_,_,r,r,r⟩,trivial⟩) r r (.allocA zv54 r r fun R=>?_)))))
 refine .storeA sz54 r r .z (.t (.t .nil)) r r (.nilS [3,2,1] r r (.sr (.fa un58 r sz40 r (o:=1) r r r (.load1 ia40 r (.s (.s .z)) r r r ?_))))
 have W:=W_ref03_List (I:=I) R3 hd
 refine .call call211 r W r r fun c4 S d X=>?_
 obtain ⟨a5,a6,a7,rfl,i,hd⟩:=X
 replace R3:=R3.mono d
 replace R6:=R6.mono d
 refine .ks 1 r (.nilS [4,3,2,1] r r (.seq (.sr (.ks 1 r (.nilS [5,4,3,2,1] r r (.block (.own0 eItem 51 (.loop hd (fun (s:(List Item)×Int) c w=>match s with | (b,e)=>∃ I_ f h,IH.le S I_∧Ok ⟨41,[],none⟩ [(1,.pointer (some ⟨O,0,none⟩)),(2,.pointer (some ⟨P,0,none⟩)),(3,.pointer (some ⟨R,0,none⟩)),(4,.slice a6 a5.length a7),(5,.int .i64 e)] c∧Sym w0 M I I_ [pto O (.cells #[.int .i64 a0.N,.slice p1 a0.Has.length c2,.slice p4 a0.Vals.length c5] 58 (0,0)),pto P (.cells #[.int .i64 0,.slice none 0 0] 54 (0,0)),pto R (.cells #[.int .i64 a0.N,.slice f b.length h] 54 (0,0)),OwnSl eItem 51 f h b] w) (fun c w ho hs=>⟨S,_,_,(.refl _),ho.sub ⟨r,r,r,r,r,trivial⟩,hs.pick (.c (.s (.s (.s .z))) (.c (.s (.s .z)) (.c (.s .z) (.c .z .n))))⟩) ?_))))))))
 rintro ⟨b,e⟩ a4 hd c w hst
 obtain ⟨Y,f,h,a,hok,hsym⟩:=hst
 have B:=IH.le.trans d a
 replace R3:=R3.mono a
 replace R6:=R6.mono a
 replace i:=i.mono a
 refine Cod.at hok hsym (.seq (.sr (.ks 2 r (.len un29 r r r r (.ks 1 r (.nilS [19,5,4,3,2,1] r r (.condP r hd (fun C hd=>?_) fun C hd=>?_)))))))
 · refine .skipS [5,4,3,2,1] r r (.seq (.block (.ownF (.s (.s (.s .z))) fun a8=>?_)))
   refine .dr [0,1,2,3,4,5,6,7,8,9,10,11,12,13,14,15,16] 17 (.g r r r (fun _=>.fa un54 r sz52 r (o:=1) r r r .mk) (.g r r r (fun _=>.load1 ia52 r (.s (.s .z)) r r r .mk) (.fk 2 r ?_)))
   obtain ⟨q,u,k,hd⟩:=hd
   obtain ⟨b3,o156,a9,Z,D,E⟩:=i.2 _ _ k
   cases E
   refine .g r r r (fun _=>.ixa un29 sz3 r Z r q (idx_lt k q) r r .mk) (.g r r r (fun _=>.ld1 (j:=0) ia3 D r r r r r .mk) (.g r r r (fun _=>.fa un58 r sz30 r (o:=2) r r r .mk) (.g r r r (fun _=>.load1 ia30 r .z r r r .mk) (.fk 2 r ?_))))
   obtain ⟨x,b4,l,hd⟩:=hd
   obtain ⟨b5,o165,b0,a1,F,G⟩:=i.2 _ _ l
   cases G
   refine .g r r r (fun _=>.ixa un29 sz3 r a1 r x (idx_lt l x) r r .mk) (.g r r r (fun _=>.ld1 (j:=0) ia3 F r r r r r .mk) ?_)
   obtain ⟨y,A,m,hd⟩:=hd
   obtain ⟨b6,o174,b1,a2,H,J⟩:=R6.2 _ _ m
   cases J
   refine .g r r r (fun _=>.ixa un30 sz2 r a2 r y (idx_lt m y) r r .mk) (.g r r r (fun _=>.ld1 (j:=0) ia2 H r r r r r .mk) (.g r r r (fun _=>.build zv51 un51 BI51 (.c r r r (.t .nil) (.c r r r (.s (.t .nil)) .n)) (by exact ⟨⟨_,_,r,r,r⟩,⟨⟨_,_,r,r,r⟩,trivial⟩⟩) r r .mk) (.ww r fun ex=>?_)))
   refine .buildSlice 1 un52 sz51 zv51 r r (.c r r r .n) r r fun b7=>?_
   refine .so 5 r r r (.cg r r r r (fun _=>.load1 ia52 r (.s (.s (.s .z))) r r r .mk) (.cg r r r r (fun _=>.fa un54 r sz52 r (o:=1) r r r .mk) trivial)) (.ww r fun ex=>?_)
   obtain ⟨K,hd⟩:=hd
   refine .append (ys:=[({ At:=u,Val:=A }:Item)]) 16 (.s (.s (.s (.s .z)))) un52 un52 IN51 r r r r r r r r r (.box .z (.one r) r) K r r fun b8 b9=>?_
   exact .so 5 r r r trivial (.e2 17 (.fa un54 r sz52 r (o:=1) r r r (.store1 sz52 r r (.s (.s (.s (.s .z)))) (.s (.t .nil)) r (.nilS [5,4,3,2,1] r r (.drop (.s .z) (.region (.ks 3 r (.nil' fun c w ho hs=>⟨((b++([({ At:=u,Val:=A }:Item)])),w64 (e+1)),hd,Y,_,_,a,ho.sub ⟨r,r,r,r,r,trivial⟩,hs.pick (.c (.s .z) (.c (.s .z) (.c (.s .z) (.c .z .n))))⟩))))))))
 refine .exitS [3,2] r r (.drop .z (.sr (.loadW ia54 sz54 r (.s .z) r r r (.storeA sz54 r r .z (.t (.t .nil)) r r (.nilS [2] r r (.drop (.s .z) (.pub (.s .z) fun c0 p a3=>?_)))))))
 have L:=IH.le.trans B p
 have b2:=IH.le.trans a p
 exact .ret (pret results261 (.w ia54 sz54 r .z r .n) L ⟨({ N:=a0.N,Items:=b }:Vec),_,_,r,a3,hd⟩)
theorem W_ref13_Sums {I:IH} {a0:Int} {a1:Rows} {a2:Dense} {a3:List Int} {a4:Bool} {p1:Option Addr} {c2:Nat} {p4:Option Addr} {c5:Nat} {p7:Option Addr} {c8:Nat} {p10:Option Addr} {c11:Nat} {p13:Option Addr} {c14:Nat} {p16:Option Addr} {c17:Nat} {Q:((List Sum)×Int)→Prop} (R3:RepSl eI64 I p1 c2 a1.Start) (R6:RepSl eI64 I p4 c5 a1.Col) (R9:RepSl eI64 I p7 c8 a1.Val) (R12:RepSl eU64 I p10 c11 a2.Has) (R15:RepSl eI64 I p13 c14 a2.Vals) (R18:RepSl eU64 I p16 c17 a3) (hd:ref13_Sums a0 a1 a2 a3 a4 Q) :
  PFun prog 244 [.int .i64 a0,.agg #[.int .i64 a1.Rows,.int .i64 a1.Cols,.slice p1 a1.Start.length c2,.slice p4 a1.Col.length c5,.slice p7 a1.Val.length c8],.agg #[.int .i64 a2.N,.slice p10 a2.Has.length c11,.slice p13 a2.Vals.length c14],.slice p16 a3.length c17,.bool a4] I (o16_ Q):=by
 refine Fun.enter func244 r ntmps244 r (.c (.c (.c (.c (.c .n))))) fun w0 M=>?_
 refine .sr (.boxA r r r fun O=>?_)
 refine .boxA r r r fun i3=>?_
 refine .ks 2 r (.nilS [7,6,4,3,0] r r (.sr (.loadW ia32 sz32 r (.s .z) r r r ?_)))
 have e6:=W_ref07_Sure (I:=I) R3 R6 R9 hd
 refine .call call202 r e6 r r fun i4 f7 i e7=>?_
 obtain ⟨h,d7,d8,d9,e0,e1,e3,rfl,v,y,A,hd⟩:=e7
 replace R3:=R3.mono i
 replace R6:=R6.mono i
 replace R9:=R9.mono i
 replace R12:=R12.mono i
 replace R15:=R15.mono i
 replace R18:=R18.mono i
 refine .storeA sz32 r r (.s .z) (.t (.t (.t (.t (.t .nil))))) r r (.nilS [7,6,4,3,0] r r (.sr (.loadW ia58 sz58 r .z r r r ?_)))
 have e8:=W_ref10_Back (I:=f7) R12 R15 hd
 refine .call call261 r e8 r r fun i5 Z k e9=>?_
 obtain ⟨P,e4,e5,rfl,C,hd⟩:=e9
 have L:=IH.le.trans i k
 replace R12:=R12.mono k
 replace R15:=R15.mono k
 replace R18:=R18.mono k
 replace v:=v.mono k
 replace y:=y.mono k
 replace A:=A.mono k
 refine .allocA zv54 r r fun R=>?_
 refine .storeA sz54 r r .z (.t (.t .nil)) r r (.nilS [12,6,4,3,0] r r (.drop (.s .z) (.seq (.sr (.ks 1 r ?_)))))
 have f0:=W_ref02_Is (I:=Z) hd
 refine .callP call112 r f0 r r fun i6 f1=>?_
 obtain ⟨i7,rfl,hd⟩:=f1
 refine .ks 1 r (.nilS [27,12,6,4,3,0] r r (.condP r hd (fun f2 hd=>?_) fun f2 hd=>?_))
 · exact .sr (.ks 2 r (.nilS [11,10] r r (.drop .z (.drop .z (.ret (pret results244 (.t r (.t r .n)) L ⟨(([]:List Sum),8),_,_,r,(.nil _ _ _),hd⟩))))))
 refine .skipS [12,6,4,3,0] r r (.seq (.sr (.fa un54 r sz3 r (o:=0) r r r (.load1 ia3 r .z r r r (.fa un32 r sz3 r (o:=1) r r r (.load1 ia3 r (.s .z) r r r (.ks 1 r (.nilS [32,12,6,4,3,0] r r (.condP r hd (fun f3 hd=>?_) fun f3 hd=>?_)))))))))
 · exact .sr (.ks 2 r (.nilS [11,10] r r (.drop .z (.drop .z (.ret (pret results244 (.t r (.t r .n)) L ⟨(([]:List Sum),4),_,_,r,(.nil _ _ _),hd⟩))))))
 refine .skipS [12,6,4,3,0] r r (.sr (.ks 1 r (.nilS [13,12,6,4,3,0] r r (.seq (.sr (.ks 1 r (.nilS [14,13,12,6,4,3,0] r r (.block (.own0 eSum 183 ?_)))))))))
 refine .loop hd (fun (s:(List Sum)×Int) c w=>match s with | (d,e)=>∃ I_ l m,IH.le Z I_∧Ok ⟨93,[],none⟩ [(0,.int .i64 a0),(3,.slice p16 a3.length c17),(4,.bool a4),(6,.pointer (some ⟨O,0,none⟩)),(12,.pointer (some ⟨R,0,none⟩)),(13,.slice l d.length m),(14,.int .i64 e)] c∧Sym w0 M I I_ [pto O (.cells #[.int .i64 h.Rows,.int .i64 h.Cols,.slice d7 h.Start.length d8,.slice d9 h.Col.length e0,.slice e1 h.Val.length e3] 32 (0,0)),pto R (.cells #[.int .i64 P.N,.slice e4 P.Items.length e5] 54 (0,0)),OwnSl eSum 183 l m d] w) (fun c w ho hs=>⟨Z,_,_,(.refl _),ho.sub ⟨r,r,r,r,r,r,r,trivial⟩,hs.pick (.c (.s (.s .z)) (.c (.s .z) (.c .z .n)))⟩) ?_
 rintro ⟨d,e⟩ f4 hd c w hst
 obtain ⟨x,l,m,b,hok,hsym⟩:=hst
 have D:=IH.le.trans L b
 replace R18:=R18.mono b
 replace v:=v.mono b
 replace y:=y.mono b
 replace A:=A.mono b
 replace C:=C.mono b
 refine Cod.at hok hsym (.seq (.sr (.ks 1 r (.fa un32 r sz3 r (o:=0) r r r (.load1 ia3 r .z r r r (.ks 1 r (.nilS [36,14,13,12,6,4,3,0] r r (.condP r hd (fun a5 hd=>?_) fun a5 hd=>?_))))))))
 · refine .skipS [14,13,12,6,4,3,0] r r (.seq (.block (.seq (.sr (.ks 2 r ?_)))))
   have a6:=W_ref03_Has (I:=x) R18 hd
   refine .callP call201 r a6 r r fun g4 a7=>?_
   obtain ⟨g5,rfl,hd⟩:=a7
   refine .ks 1 r (.eqB underlying4 r r r r (.nilS [43,14,13,12,6,4,3,0] r r (.condP r hd (fun a8 hd=>?_) fun a8 hd=>?_)))
   · exact .exitS [14,13,12,6,4,3,0] r r (.region (.ks 3 r (.nil' fun c w ho hs=>⟨(d,w64 (e+1)),hd,x,_,_,b,ho.sub ⟨r,r,r,r,r,r,r,trivial⟩,hs.pick (.c .z (.c .z (.c .z .n)))⟩)))
   refine .skipS [14,13,12,6,4,3,0] r r (.sr (.allocA zv127 r r fun S=>?_))
   refine .nilS [15,14,13,12,6,4,3,0] r r (.sr (.ks 1 r (.nilS [16,15,14,13,12,6,4,3,0] r r (.seq (.sr (.fa un32 r sz29 r (o:=2) r r r (.load1 ia29 r (.s .z) r r r (.ks 1 r ?_))))))))
   obtain ⟨T,g6,E,hd⟩:=hd
   obtain ⟨g7,o1630,f8,d2,a9,b0⟩:=v.2 _ _ E
   cases b0
   refine .ixa un29 sz3 r d2 r T (idx_lt E T) r r (.ld1 (j:=0) ia3 a9 r r r r r (.ks 1 r (.nilS [17,16,15,14,13,12,6,4,3,0] r r (.block (.loop hd (fun (s:Int×Int×Bool×Int) c w=>match s with | (p,q,B,u)=>∃ I_,IH.le x I_∧Ok ⟨93,[],none⟩ [(0,.int .i64 a0),(3,.slice p16 a3.length c17),(4,.bool a4),(6,.pointer (some ⟨O,0,none⟩)),(12,.pointer (some ⟨R,0,none⟩)),(13,.slice l d.length m),(14,.int .i64 e),(15,.pointer (some ⟨S,0,none⟩)),(16,.bool B),(17,.int .i64 u)] c∧Sym w0 M I I_ [pto O (.cells #[.int .i64 h.Rows,.int .i64 h.Cols,.slice d7 h.Start.length d8,.slice d9 h.Col.length e0,.slice e1 h.Val.length e3] 32 (0,0)),pto R (.cells #[.int .i64 P.N,.slice e4 P.Items.length e5] 54 (0,0)),OwnSl eSum 183 l m d,pto S (.cells #[.int .i64 p,.int .u64 q] 127 (0,0))] w) (fun c w ho hs=>⟨x,(.refl _),ho.sub ⟨r,r,r,r,r,r,r,r,r,r,trivial⟩,hs.pick (.c (.s .z) (.c (.s .z) (.c (.s .z) (.c .z .n))))⟩) ?_)))))
   rintro ⟨p,q,B,u⟩ f5 hd c w hst
   obtain ⟨f,a,hok,hsym⟩:=hst
   have f9:=IH.le.trans D a
   have F:=IH.le.trans b a
   replace R18:=R18.mono a
   replace v:=v.mono a
   replace y:=y.mono a
   replace A:=A.mono a
   replace C:=C.mono a
   refine Cod.at hok hsym (.seq (.sr (.ks 1 r (.fa un32 r sz29 r (o:=2) r r r (.load1 ia29 r .z r r r (.ks 2 r ?_))))))
   obtain ⟨U,g8,G,hd⟩:=hd
   obtain ⟨g9,o1835,g0,d3,b1,b2⟩:=v.2 _ _ G
   cases b2
   refine .ixa un29 sz3 r d3 r U (idx_lt G U) r r (.ld1 (j:=0) ia3 b1 r r r r r (.ks 1 r (.nilS [56,17,16,15,14,13,12,6,4,3,0] r r (.condP r hd (fun b3 hd=>?_) fun b3 hd=>?_))))
   · refine .skipS [17,16,15,14,13,12,6,4,3,0] r r (.seq (.block (.seq (.ownF (.s (.s .z)) fun f6=>?_))))
     refine .dr [0,1,2,3,4,5,6,7,8,9,10] 11 (.g r r r (fun _=>.loadW ia54 sz54 r (.s .z) r r r .mk) (.g r r r (fun _=>.fa un32 r sz29 r (o:=3) r r r .mk) (.g r r r (fun _=>.load1 ia29 r .z r r r .mk) (.fk 1 r ?_))))
     obtain ⟨V,h0,H,hd⟩:=hd
     obtain ⟨h1,o1860,g1,d4,b4,b5⟩:=y.2 _ _ H
     cases b5
     refine .g r r r (fun _=>.ixa un29 sz3 r d4 r V (idx_lt H V) r r .mk) (.g r r r (fun _=>.ld1 (j:=0) ia3 b4 r r r r r .mk) (.ww r fun ex=>?_))
     have b6:=W_ref09_Get (I:=f) C hd
     refine .callP call23 r b6 r r fun h2 b7=>?_
     obtain ⟨h3,rfl,hd⟩:=b7
     refine .so 4 r r r trivial (.fk 4 r (.e2 11 (.ks 1 r (.nilS [19,18,17,16,15,14,13,12,6,4,3,0] r r (.seq (.sr (.ks 2 r (.nilS [70,18,17,16,15,14,13,12,6,4,3,0] r r (.condP r hd (fun b8 hd=>?_) fun b8 hd=>?_)))))))))
     · exact .exitS [17,16,15,14,13,12,6,4,3,0] r r (.region (.ks 3 r (.nil' fun c w ho hs=>⟨(p,q,B,w64 (u+1)),hd,f,a,ho.sub ⟨r,r,r,r,r,r,r,r,r,r,trivial⟩,hs.pick (.c .z (.c .z (.c .z (.c .z .n))))⟩)))
     refine .skipS [18,17,16,15,14,13,12,6,4,3,0] r r (.sr (.ks 1 r (.fa un32 r sz30 r (o:=4) r r r (.load1 ia30 r .z r r r (.ks 1 r ?_)))))
     obtain ⟨W,h4,J,hd⟩:=hd
     obtain ⟨h5,o1890,g2,d5,b9,c0⟩:=A.2 _ _ J
     cases c0
     refine .ixa un30 sz2 r d5 r W (idx_lt J W) r r (.ld1 (j:=0) ia2 b9 r r r r r (.ks 1 r ?_))
     have c1:=W_ref02_Mul (I:=f) hd
     refine .callP call75 r c1 r r fun h6 c3=>?_
     obtain ⟨X,rfl,hd⟩:=c3
     refine .allocA zv127 r r fun h7=>?_
     refine .storeA sz127 r r .z (.t (.t .nil)) r r (.nilS [20,17,16,15,14,13,12,6,4,3,0] r r (.seq (.sr (.ks 1 r (.nilS [79,20,17,15,14,13,12,6,4,3,0] r r (.condP r hd (fun c4 hd=>?_) fun c4 hd=>?_))))))
     · refine .region (.ks 1 r (.loadW ia127 sz127 r (.s (.s (.s (.s .z)))) r r r (.loadW ia127 sz127 r .z r r r ?_)))
       have c6:=W_ref02_Add (I:=f) hd
       refine .callP call80 r c6 r r fun h8 c7=>?_
       obtain ⟨Y,rfl,hd⟩:=c7
       exact .storeA sz127 r r (.s (.s (.s (.s .z)))) (.t (.t .nil)) r r (.nilS [17,15,14,13,12,6,4,3,0] r r (.drop .z (.region (.ks 1 r (.nilS [16,17,15,14,13,12,6,4,3,0] r r (.region (.ks 3 r (.nil' fun c w ho hs=>⟨(Y.Hi,Y.Lo,true,w64 (u+1)),hd,f,a,ho.sub ⟨r,r,r,r,r,r,r,r,r,r,trivial⟩,hs.pick (.c .z (.c .z (.c .z (.c .z .n))))⟩))))))))
     refine .region (.loadW ia127 sz127 r .z r r r (.storeA sz127 r r (.s (.s (.s (.s .z)))) (.t (.t .nil)) r r (.nilS [17,15,14,13,12,6,4,3,0] r r (.drop .z (.region (.ks 1 r (.nilS [16,17,15,14,13,12,6,4,3,0] r r (.region (.ks 3 r ?_)))))))))
     exact .nil' fun c w ho hs=>⟨(X.Hi,X.Lo,true,w64 (u+1)),hd,f,a,ho.sub ⟨r,r,r,r,r,r,r,r,r,r,trivial⟩,hs.pick (.c .z (.c .z (.c .z (.c .z .n))))⟩
   refine .exitS [16,15,14,13,12,6,4,3,0] r r (.sr (.ks 1 r (.nilS [85,15,14,13,12,6,4,3,0] r r (.condP r hd (fun c9 hd=>?_) fun c9 hd=>?_))))
   · refine .region (.ks 2 r (.loadW ia127 sz127 r (.s (.s (.s .z))) r r r (.build zeroValue183 un183 BI183 (.c r r r (.t .nil) (.c r r r (.s (.t (.t .nil))) .n)) (by exact ⟨⟨_,_,r,r,r⟩,⟨⟨_,_,r,r,r⟩,trivial⟩⟩) r r (.buildSlice 1 un114 sz183 zeroValue183 r r (.c r r r .n) r r fun h9=>?_))))
     obtain ⟨d0,hd⟩:=hd
     refine .append (ys:=[({ At:=e,Val:=({ Hi:=p,Lo:=q }:Wide) }:Sum)]) 24 (.s (.s (.s .z))) un114 un114 IN183 r r r r r r r r r (.box .z (.one r) r) d0 r r fun i0 i1=>?_
     exact .ks 1 r (.nilS [13,14,12,6,4,3,0] r r (.drop (.s .z) (.drop (.s (.s (.s .z))) (.region (.ks 3 r (.nil' fun c w ho hs=>⟨((d++([({ At:=e,Val:=({ Hi:=p,Lo:=q }:Wide) }:Sum)])),w64 (e+1)),hd,f,_,_,F,ho.sub ⟨r,r,r,r,r,r,r,trivial⟩,hs.pick (.c (.s .z) (.c (.s .z) (.c .z .n)))⟩))))))
   exact .skipS [14,13,12,6,4,3,0] r r (.drop (.s (.s (.s .z))) (.region (.ks 3 r (.nil' fun c w ho hs=>⟨(d,w64 (e+1)),hd,f,_,_,F,ho.sub ⟨r,r,r,r,r,r,r,trivial⟩,hs.pick (.c .z (.c .z (.c .z .n)))⟩))))
 refine .exitS [13] r r (.drop .z (.drop .z (.sr (.ks 3 r (.nilS [11,10] r r (.pub .z fun i2 K d6=>?_))))))
 have d1:=IH.le.trans D K
 have g3:=IH.le.trans b K
 exact .ret (pret results244 (.t r (.t r .n)) d1 ⟨(d,0),_,_,r,d6,hd⟩)
theorem W_ref02_least {I:IH} {a0:Int} {Q:Bool→Prop}  (hd:ref02_least a0 Q) :
  PFun prog 150 [.int .i64 a0] I (fun _=>o4_ Q):=by
 refine Fun.enter func150 r ntmps150 r (.c .n) fun w0 M=>?_
 refine .sr (.ks 1 r (.nilS [0] r r (.sr (.ks 3 r ?_))))
 refine splitP hd (fun a hd=>?_) fun a hd=>?_
 · rw [a]
   exact .ks 8 r (.nilS [2] r r (.ret (pret results150 (.t r .n) (.refl _) ⟨true,r,hd⟩)))
 rw [a]
 refine .ks 4 r ?_
 refine splitP hd (fun b hd=>?_) fun b hd=>?_
 · rw [b]
   exact .ks 4 r (.nilS [2] r r (.ret (pret results150 (.t r .n) (.refl _) ⟨true,r,hd⟩)))
 rw [b]
 exact .ks 4 r (.nilS [2] r r (.ret (pret results150 (.t r .n) (.refl _) ⟨(a0==4),r,hd⟩)))
theorem W_ref02_Zero {I:IH} {a0:Int} {Q:Int→Prop}  (hd:ref02_Zero a0 Q) :
  PFun prog 82 [.int .i64 a0] I (fun _=>o0_ Q):=by
 refine Fun.enter func82 r ntmps82 r (.c .n) fun w0 M=>?_
 refine .sr (.ks 1 r (.nilS [0] r r (.seq (.sr (.ks 1 r ?_)))))
 have a:=W_ref02_least (I:=I) hd
 refine .callP call150 r a r r fun e b=>?_
 obtain ⟨f,rfl,hd⟩:=b
 refine .nilS [4] r r (.condP r hd (fun d hd=>?_) fun d hd=>?_)
 · exact .sr (.ks 1 r (.nilS [2] r r (.ret (pret results82 (.t r .n) (.refl _) ⟨4611686018427387904,r,hd⟩))))
 exact .skipS [] r r (.sr (.ks 1 r (.nilS [2] r r (.ret (pret results82 (.t r .n) (.refl _) ⟨0,r,hd⟩)))))
theorem W_ref13_Done {I:IH} {a0:Int} {a1:Int} {a2:List Sum} {p1:Option Addr} {c2:Nat} {Q:(Vec×Int)→Prop} (R3:RepSl eSum I p1 c2 a2) (hd:ref13_Done a0 a1 a2 Q) :
  PFun prog 245 [.int .i64 a0,.int .i64 a1,.slice p1 a2.length c2] I (o17_ Q):=by
 refine Fun.enter func245 r ntmps245 r (.c (.c (.c .n))) fun w0 M=>?_
 refine .sr (.allocA zv54 r r fun H=>?_)
 refine .ks 1 r (.nilS [6,2,1,0] r r (.seq (.sr (.ks 1 r ?_))))
 have c6:=W_ref02_Is (I:=I) hd
 refine .callP call112 r c6 r r fun g8 c7=>?_
 obtain ⟨g9,rfl,hd⟩:=c7
 refine .ks 1 r (.nilS [16,6,2,1,0] r r (.condP r hd (fun c8 hd=>?_) fun c8 hd=>?_))
 · exact .sr (.build zv54 un54 BI54 .n (by exact trivial) r r (.storeA sz54 r r .z (.t (.t .nil)) r r (.ks 1 r (.nilS [7,6] r r (.ret (pret results245 (.w ia54 sz54 r .z r (.t r .n)) (.refl _) ⟨(({ N:=0,Items:=([]:List Item) }:Vec),8),_,_,r,(.nil _ _ _),hd⟩))))))
 refine .skipS [6,2,1,0] r r (.seq (.sr (.ks 3 r ?_)))
 refine splitP hd (fun p hd=>?_) fun p hd=>?_
 · rw [p]
   exact .ks 3 r (.nilS [23,6,2,1,0] r r (.condKT r r (.sr (.build zv54 un54 BI54 .n (by exact trivial) r r (.storeA sz54 r r .z (.t (.t .nil)) r r (.ks 1 r (.nilS [7,6] r r (.ret (pret results245 (.w ia54 sz54 r .z r (.t r .n)) (.refl _) ⟨(({ N:=0,Items:=([]:List Item) }:Vec),3),_,_,r,(.nil _ _ _),hd⟩)))))))))
 rw [p]
 refine .ks 3 r (.nilS [23,6,2,1,0] r r (.condP r hd (fun c9 hd=>?_) fun c9 hd=>?_))
 · exact .sr (.build zv54 un54 BI54 .n (by exact trivial) r r (.storeA sz54 r r .z (.t (.t .nil)) r r (.ks 1 r (.nilS [7,6] r r (.ret (pret results245 (.w ia54 sz54 r .z r (.t r .n)) (.refl _) ⟨(({ N:=0,Items:=([]:List Item) }:Vec),3),_,_,r,(.nil _ _ _),hd⟩))))))
 refine .skipS [6,2,1,0] r r (.seq (.sr (.ks 1 r (.nilS [8,6,2,1,0] r r (.block (.loop hd (fun (h:Int) c w=>∃ I_,IH.le I I_∧Ok ⟨103,[],none⟩ [(0,.int .i64 a0),(1,.int .i64 a1),(2,.slice p1 a2.length c2),(6,.pointer (some ⟨H,0,none⟩)),(8,.int .i64 h)] c∧Sym w0 M I I_ [pto H (.cells #[.int .i64 0,.slice none 0 0] 54 (0,0))] w) (fun c w ho hs=>⟨I,(.refl _),ho.sub ⟨r,r,r,r,r,trivial⟩,hs.pick (.c .z .n)⟩) ?_))))))
 rintro h d7 hd c w hst
 obtain ⟨q,b,hok,hsym⟩:=hst
 replace R3:=R3.mono b
 refine Cod.at hok hsym (.seq (.sr (.ks 2 r (.len un114 r r r r (.ks 1 r (.nilS [28,8,6,2,1,0] r r (.condP r hd (fun V hd=>?_) fun V hd=>?_)))))))
 · refine .skipS [8,6,2,1,0] r r (.seq (.block (.sr (.ks 2 r ?_))))
   obtain ⟨J,f0,y,hd⟩:=hd
   obtain ⟨f1,o155,e1,d0,W,X⟩:=R3.2 _ _ y
   cases X
   refine .ixa un114 sz183 r d0 r J (idx_lt y J) r r (.fa un183 r sz3 r (o:=o155+h.toNat*3) r r r (.ld1 (j:=0) ia3 W r r r r r (.ks 2 r ?_)))
   refine splitP hd (fun k hd=>?_) fun k hd=>?_
   · rw [k]
     exact .ks 8 r (.nilS [45,8,6,2,1,0] r r (.condKT r r (.sr (.build zv54 un54 BI54 .n (by exact trivial) r r (.storeA sz54 r r .z (.t (.t .nil)) r r (.ks 1 r (.nilS [7,6] r r (.ret (pret results245 (.w ia54 sz54 r .z r (.t r .n)) b ⟨(({ N:=0,Items:=([]:List Item) }:Vec),3),_,_,r,(.nil _ _ _),hd⟩)))))))))
   rw [k]
   refine .ks 2 r ?_
   obtain ⟨K,f2,A,hd⟩:=hd
   obtain ⟨f3,o165,e3,d1,Y,Z⟩:=R3.2 _ _ A
   cases Z
   refine .gyes r r r (.ixa un114 sz183 r d1 r K (idx_lt A K) r r (.gyes r r r (.fa un183 r sz3 r (o:=o165+h.toNat*3) r r r (.gyes r r r (.ld1 (j:=0) ia3 Y r r r r r (.ks 3 r (.nilS [45,8,6,2,1,0] r r (.condP r hd (fun a3 hd=>?_) fun a3 hd=>?_))))))))
   · exact .sr (.build zv54 un54 BI54 .n (by exact trivial) r r (.storeA sz54 r r .z (.t (.t .nil)) r r (.ks 1 r (.nilS [7,6] r r (.ret (pret results245 (.w ia54 sz54 r .z r (.t r .n)) b ⟨(({ N:=0,Items:=([]:List Item) }:Vec),3),_,_,r,(.nil _ _ _),hd⟩))))))
   exact .skipS [8,6,2,1,0] r r (.region (.ks 3 r (.nil' fun c w ho hs=>⟨(w64 (h+1)),hd,q,b,ho.sub ⟨r,r,r,r,r,trivial⟩,hs.pick (.c .z .n)⟩)))
 refine .exitS [6,2,1,0] r r (.seq (.sr (.ks 1 r (.nilS [9,6,2,1,0] r r (.block (.loop hd (fun (i:Int) c w=>∃ I_,IH.le q I_∧Ok ⟨103,[],none⟩ [(0,.int .i64 a0),(1,.int .i64 a1),(2,.slice p1 a2.length c2),(6,.pointer (some ⟨H,0,none⟩)),(9,.int .i64 i)] c∧Sym w0 M I I_ [pto H (.cells #[.int .i64 0,.slice none 0 0] 54 (0,0))] w) (fun c w ho hs=>⟨q,(.refl _),ho.sub ⟨r,r,r,r,r,trivial⟩,hs.pick (.c .z .n)⟩) ?_))))))
 rintro i d8 hd c w hst
 obtain ⟨u,f,hok,hsym⟩:=hst
 have B:=IH.le.trans b f
 replace R3:=R3.mono f
 refine Cod.at hok hsym (.seq (.sr (.ks 2 r (.len un114 r r r r (.ks 1 r (.nilS [50,9,6,2,1,0] r r (.condP r hd (fun a4 hd=>?_) fun a4 hd=>?_)))))))
 · refine .skipS [9,6,2,1,0] r r (.seq (.block (.seq (.dr [0,1,2,3,4,5,6,7,8,9,10,11] 12 (.fk 2 r ?_)))))
   obtain ⟨L,f4,C,hd⟩:=hd
   obtain ⟨f5,o298,e4,d2,a5,a6⟩:=R3.2 _ _ C
   cases a6
   refine .g r r r (fun _=>.ixa un114 sz183 r d2 r L (idx_lt C L) r r .mk) (.g r r r (fun _=>.fa un183 r sz3 r (o:=o298+i.toNat*3) r r r .mk) (.g r r r (fun _=>.ld1 (j:=0) ia3 a5 r r r r r .mk) (.fk 3 r ?_)))
   obtain ⟨O,f6,D,hd⟩:=hd
   obtain ⟨f7,o307,e5,d3,a7,a8⟩:=R3.2 _ _ D
   cases a8
   refine .g r r r (fun _=>.ixa un114 sz183 r d3 r O (idx_lt D O) r r .mk) (.g r r r (fun _=>.fa un183 r sz3 r (o:=o307+(w64 (i - 1)).toNat*3) r r r .mk) (.g r r r (fun _=>.ld1 (j:=0) ia3 a7 r r r r r .mk) (.fk 1 r (.e2 12 (.nilS [64,9,6,2,1,0] r r (.condP r hd (fun a9 hd=>?_) fun a9 hd=>?_))))))
   · exact .sr (.build zv54 un54 BI54 .n (by exact trivial) r r (.storeA sz54 r r .z (.t (.t .nil)) r r (.ks 1 r (.nilS [7,6] r r (.ret (pret results245 (.w ia54 sz54 r .z r (.t r .n)) B ⟨(({ N:=0,Items:=([]:List Item) }:Vec),6),_,_,r,(.nil _ _ _),hd⟩))))))
   exact .skipS [9,6,2,1,0] r r (.region (.ks 3 r (.nil' fun c w ho hs=>⟨(w64 (i+1)),hd,u,f,ho.sub ⟨r,r,r,r,r,trivial⟩,hs.pick (.c .z .n)⟩)))
 refine .exitS [6,2,1,0] r r (.sr (.ks 1 r (.build zv54 un54 BI54 (.c r r r (.t .nil) .n) (by exact ⟨⟨_,_,r,r,r⟩,trivial⟩) r r (.allocA zv54 r r fun P=>?_))))
 refine .storeA sz54 r r .z (.t (.t .nil)) r r (.nilS [10,6,2,0] r r (.seq (.sr (.ks 1 r (.nilS [11,10,6,2,0] r r (.block (.own0 eItem 51 (.loop hd (fun (s:(List Item)×Int) c w=>match s with | (d,e)=>∃ I_ v x,IH.le u I_∧Ok ⟨103,[],none⟩ [(0,.int .i64 a0),(2,.slice p1 a2.length c2),(6,.pointer (some ⟨H,0,none⟩)),(10,.pointer (some ⟨P,0,none⟩)),(11,.int .i64 e)] c∧Sym w0 M I I_ [pto H (.cells #[.int .i64 0,.slice none 0 0] 54 (0,0)),pto P (.cells #[.int .i64 a1,.slice v d.length x] 54 (0,0)),OwnSl eItem 51 v x d] w) (fun c w ho hs=>⟨u,_,_,(.refl _),ho.sub ⟨r,r,r,r,r,trivial⟩,hs.pick (.c (.s (.s .z)) (.c (.s .z) (.c .z .n)))⟩) ?_))))))))
 rintro ⟨d,e⟩ d9 hd c w hst
 obtain ⟨l,v,x,a,hok,hsym⟩:=hst
 have E:=IH.le.trans B a
 have b0:=IH.le.trans f a
 replace R3:=R3.mono a
 refine Cod.at hok hsym (.seq (.sr (.ks 2 r (.len un114 r r r r (.ks 1 r (.nilS [71,11,10,6,2,0] r r (.condP r hd (fun b1 hd=>?_) fun b1 hd=>?_)))))))
 · refine .skipS [11,10,6,2,0] r r (.seq (.block (.sr (.ks 2 r ?_))))
   obtain ⟨R,f8,F,hd⟩:=hd
   obtain ⟨f9,o472,e6,d4,b2,b3⟩:=R3.2 _ _ F
   cases b3
   refine .ixa un114 sz183 r d4 r R (idx_lt F R) r r (.fa un183 r sz127 r (o:=o472+e.toNat*3+1) r r r (.ldA (j:=1) ia127 sz127 b2 r r (.s (.t (.t .nil))) r r r ?_))
   have b4:=W_ref01_Narrow (I:=l) hd
   refine .callP call81 r b4 r r fun g0 b5=>?_
   obtain ⟨S,rfl,hd⟩:=b5
   refine .ks 5 r (.nilS [13,12,11,10,6,2,0] r r (.seq (.sr (.ks 2 r (.nilS [84,12,11,10,6,2,0] r r (.condP r hd (fun b6 hd=>?_) fun b6 hd=>?_))))))
   · exact .sr (.build zv54 un54 BI54 .n (by exact trivial) r r (.storeA sz54 r r .z (.t (.t .nil)) r r (.ks 1 r (.nilS [7,6] r r (.drop (.s .z) (.drop (.s .z) (.ret (pret results245 (.w ia54 sz54 r .z r (.t r .n)) E ⟨(({ N:=0,Items:=([]:List Item) }:Vec),12),_,_,r,(.nil _ _ _),hd⟩))))))))
   refine .skipS [12,11,10,6,2,0] r r (.sr (.ks 2 r ?_))
   have b7:=W_ref02_Zero (I:=l) hd
   refine .callP call82 r b7 r r fun g1 b8=>?_
   obtain ⟨g2,rfl,hd⟩:=b8
   refine .ks 1 r (.nilS [89,12,11,10,6,2,0] r r (.condP r hd (fun c0 hd=>?_) fun c0 hd=>?_))
   · refine .ownF (.s (.s .z)) fun e0=>?_
     refine .dr [0,1,2,3,4,5,6,7,8,9,10] 11 (.g r r r (fun _=>.fa un54 r sz52 r (o:=1) r r r .mk) (.g r r r (fun _=>.load1 ia52 r (.s .z) r r r .mk) (.fk 2 r ?_)))
     obtain ⟨T,U,G,hd⟩:=hd
     obtain ⟨g3,o497,e7,d5,c1,c3⟩:=R3.2 _ _ G
     cases c3
     refine .g r r r (fun _=>.ixa un114 sz183 r d5 r T (idx_lt G T) r r .mk) (.g r r r (fun _=>.fa un183 r sz3 r (o:=o497+e.toNat*3) r r r .mk) (.g r r r (fun _=>.ld1 (j:=0) ia3 c1 r r r r r .mk) (.fk 1 r (.g r r r (fun _=>.build zv51 un51 BI51 (.c r r r (.t .nil) (.c r r r (.s (.t .nil)) .n)) (by exact ⟨⟨_,_,r,r,r⟩,⟨⟨_,_,r,r,r⟩,trivial⟩⟩) r r .mk) (.ww r fun ex=>?_)))))
     refine .buildSlice 1 un52 sz51 zv51 r r (.c r r r .n) r r fun g4=>?_
     refine .so 4 r r r (.cg r r r r (fun _=>.load1 ia52 r (.s (.s .z)) r r r .mk) (.cg r r r r (fun _=>.fa un54 r sz52 r (o:=1) r r r .mk) trivial)) (.ww r fun ex=>?_)
     obtain ⟨c4,hd⟩:=hd
     refine .append (ys:=[({ At:=U.At,Val:=S.1 }:Item)]) 16 (.s (.s (.s .z))) un52 un52 IN51 r r r r r r r r r (.box .z (.one r) r) c4 r r fun g5 g6=>?_
     exact .so 4 r r r trivial (.e2 11 (.fa un54 r sz52 r (o:=1) r r r (.store1 sz52 r r (.s (.s (.s .z))) (.s (.t .nil)) r (.nilS [11,10,6,2,0] r r (.drop (.s .z) (.region (.ks 3 r (.nil' fun c w ho hs=>⟨((d++([({ At:=U.At,Val:=S.1 }:Item)])),w64 (e+1)),hd,l,_,_,a,ho.sub ⟨r,r,r,r,r,trivial⟩,hs.pick (.c (.s .z) (.c (.s .z) (.c .z .n)))⟩))))))))
   exact .skipS [11,10,6,2,0] r r (.region (.ks 3 r (.nil' fun c w ho hs=>⟨(d,w64 (e+1)),hd,l,_,_,a,ho.sub ⟨r,r,r,r,r,trivial⟩,hs.pick (.c .z (.c .z (.c .z .n)))⟩)))
 refine .exitS [10,6] r r (.sr (.loadW ia54 sz54 r (.s .z) r r r (.storeA sz54 r r .z (.t (.t .nil)) r r (.ks 1 r (.nilS [7,6] r r (.drop (.s .z) (.pub (.s .z) fun g7 m d6=>?_)))))))
 have c5:=IH.le.trans E m
 have e8:=IH.le.trans b0 m
 have e9:=IH.le.trans a m
 exact .ret (pret results245 (.w ia54 sz54 r .z r (.t r .n)) c5 ⟨(({ N:=a1,Items:=d }:Vec),0),_,_,r,d6,hd⟩)
theorem W_ref13_Times {I:IH} {a0:Int} {a1:Rows} {a2:Dense} {a3:List Int} {a4:Bool} {p1:Option Addr} {c2:Nat} {p4:Option Addr} {c5:Nat} {p7:Option Addr} {c8:Nat} {p10:Option Addr} {c11:Nat} {p13:Option Addr} {c14:Nat} {p16:Option Addr} {c17:Nat} {Q:(Vec×Int)→Prop} (R3:RepSl eI64 I p1 c2 a1.Start) (R6:RepSl eI64 I p4 c5 a1.Col) (R9:RepSl eI64 I p7 c8 a1.Val) (R12:RepSl eU64 I p10 c11 a2.Has) (R15:RepSl eI64 I p13 c14 a2.Vals) (R18:RepSl eU64 I p16 c17 a3) (hd:ref13_Times a0 a1 a2 a3 a4 Q) :
  PFun prog 204 [.int .i64 a0,.agg #[.int .i64 a1.Rows,.int .i64 a1.Cols,.slice p1 a1.Start.length c2,.slice p4 a1.Col.length c5,.slice p7 a1.Val.length c8],.agg #[.int .i64 a2.N,.slice p10 a2.Has.length c11,.slice p13 a2.Vals.length c14],.slice p16 a3.length c17,.bool a4] I (o18_ Q):=by
 refine Fun.enter func204 r ntmps204 r (.c (.c (.c (.c (.c .n))))) fun w0 M=>?_
 refine .sr (.boxA r r r fun C=>?_)
 refine .boxA r r r fun D=>?_
 refine .allocA zv54 r r fun E=>?_
 refine .ks 1 r (.nilS [10,7,6,4,3,0] r r (.sr (.ks 1 r (.loadW ia32 sz32 r (.s (.s .z)) r r r (.loadW ia58 sz58 r (.s .z) r r r (.ks 2 r ?_))))))
 have j:=W_ref13_Sums (I:=I) R3 R6 R9 R12 R15 R18 hd
 refine .call call244 r j r r fun F x a k=>?_
 obtain ⟨y,G,H,rfl,e,hd⟩:=k
 replace R3:=R3.mono a
 replace R6:=R6.mono a
 replace R9:=R9.mono a
 replace R12:=R12.mono a
 replace R15:=R15.mono a
 replace R18:=R18.mono a
 refine .ks 5 r (.nilS [13,12,10,6,0] r r (.drop (.s .z) (.seq (.sr (.ks 2 r (.nilS [24,13,12,10,6,0] r r (.condP r hd (fun l hd=>?_) fun l hd=>?_)))))))
 · exact .sr (.build zv54 un54 BI54 .n (by exact trivial) r r (.ks 1 r (.storeA sz54 r r .z (.t (.t .nil)) r r (.ks 1 r (.nilS [11,10] r r (.drop (.s .z) (.ret (pret results204 (.w ia54 sz54 r .z r (.t r .n)) a ⟨(({ N:=0,Items:=([]:List Item) }:Vec),y.2),_,_,r,(.nil _ _ _),hd⟩))))))))
 refine .skipS [12,10,6,0] r r (.sr (.ks 1 r (.loadW ia32 sz32 r (.s .z) r r r ?_)))
 have m:=W_ref07_Sure (I:=x) R3 R6 R9 hd
 refine .call call202 r m r r fun J A d o=>?_
 obtain ⟨K,L,O,P,R,S,T,rfl,f,g,h,hd⟩:=o
 have p:=IH.le.trans a d
 replace R3:=R3.mono d
 replace R6:=R6.mono d
 replace R9:=R9.mono d
 replace e:=e.mono d
 refine .field1 un32 r ia3 r r r r (.ks 1 r ?_)
 have q:=W_ref13_Done (I:=A) e hd
 refine .call call245 r q r r fun U V b u=>?_
 obtain ⟨i,W,X,rfl,B,hd⟩:=u
 have v:=IH.le.trans p b
 replace R3:=R3.mono b
 replace R6:=R6.mono b
 replace R9:=R9.mono b
 replace e:=e.mono b
 replace f:=f.mono b
 replace g:=g.mono b
 replace h:=h.mono b
 exact .ks 2 r (.storeA sz54 r r .z (.t (.t .nil)) r r (.ks 1 r (.nilS [11,10] r r (.drop (.s .z) (.ret (pret results204 (.w ia54 sz54 r .z r (.t r .n)) v ⟨(i.1,i.2),_,_,r,B,hd⟩))))))
theorem W_ref21_Update {I:IH} {a0:Plan} {a1:State} {a2:Int} {a3:Vec} {p1:Option Addr} {c2:Nat} {p4:Option Addr} {c5:Nat} {p7:Option Addr} {c8:Nat} {p10:Option Addr} {c11:Nat} {p13:Option Addr} {c14:Nat} {Q:State→Prop} (R3:RepSl eI64 I p1 c2 a0.Draws) (R6:RepSl eI64 I p4 c5 a1.A) (R9:RepSl eI64 I p7 c8 a1.B) (R12:RepSl eU64 I p10 c11 a1.On) (R15:RepSl eItem I p13 c14 a3.Items) (hd:ref21_Update a0 a1 a2 a3 Q) :
  PFun prog 205 [.agg #[.int .i64 a0.Kind,.int .i64 a0.N,.int .i64 a0.Source,.int .i64 a0.Length,.slice p1 a0.Draws.length c2],.agg #[.int .i64 a1.Low,.int .i64 a1.High,.slice p4 a1.A.length c5,.slice p7 a1.B.length c8,.slice p10 a1.On.length c11],.int .i64 a2,.agg #[.int .i64 a3.N,.slice p13 a3.Items.length c14]] I (o31_ Q):=by
 refine Fun.enter func205 r ntmps205 r (.c (.c (.c (.c .n)))) fun w0 M=>?_
 refine .sr (.boxA r r r fun b4=>?_)
 refine .boxA r r r fun b5=>?_
 refine .boxA r r r fun b6=>?_
 refine .allocA zv42 r r fun b7=>?_
 refine .nilS [8,7,5,4,2] r r (.sr (.loadW ia49 sz49 r (.s (.s (.s .z))) r r r (.loadW ia42 sz42 r (.s (.s .z)) r r r ?_)))
 have m3:=W_ref21_Sure (I:=I) R3 R6 R9 R12 hd
 refine .call call72 r m3 r r fun s7 f5 J m4=>?_
 obtain ⟨b,f6,f7,f8,f9,g0,g1,rfl,K,R,S,hd⟩:=m4
 replace R3:=R3.mono J
 replace R6:=R6.mono J
 replace R9:=R9.mono J
 replace R12:=R12.mono J
 replace R15:=R15.mono J
 refine .storeA sz42 r r (.s (.s .z)) (.t (.t (.t (.t (.t .nil))))) r r (.nilS [8,7,5,4,2] r r (.sr (.fa un42 r sz3 r (o:=0) r r r (.load1 ia3 r (.s (.s .z)) r r r (.fa un42 r sz3 r (o:=1) r r r (.load1 ia3 r (.s (.s .z)) r r r (.build zv42 un42 BI42 (.c r r r (.t .nil) (.c r r r (.s (.t .nil)) .n)) (by exact ⟨⟨_,_,r,r,r⟩,⟨⟨_,_,r,r,r⟩,trivial⟩⟩) r r (.allocA zv42 r r fun D=>?_))))))))
 refine .storeA sz42 r r .z (.t (.t (.t (.t (.t .nil))))) r r (.nilS [9,8,7,5,4,2] r r (.sr (.fa un42 r sz30 r (o:=2) r r r (.load1 ia30 r .z r r r (.fa un42 r sz30 r (o:=2) r r r (.load1 ia30 r (.s (.s (.s .z))) r r r (.own0 eI64 2 ?_)))))))
 obtain ⟨m5,hd⟩:=hd
 refine .append (ys:=b.A) 8 .z un30 un30 IN2 r r r r r r r r r (.imm K r) m5 r r fun s8 s9=>?_
 refine .fa un42 r sz30 r (o:=2) r r r (.store1 sz30 r r (.s .z) (.s (.s (.t .nil))) r (.nilS [9,8,7,5,4,2] r r (.sr (.fa un42 r sz30 r (o:=3) r r r (.load1 ia30 r (.s .z) r r r (.fa un42 r sz30 r (o:=3) r r r (.load1 ia30 r (.s (.s (.s (.s .z)))) r r r (.own0 eI64 2 ?_))))))))
 obtain ⟨m6,hd⟩:=hd
 refine .append (ys:=b.B) 8 .z un30 un30 IN2 r r r r r r r r r (.imm R r) m6 r r fun t0 t1=>?_
 refine .fa un42 r sz30 r (o:=3) r r r (.store1 sz30 r r (.s (.s .z)) (.s (.s (.s (.t .nil)))) r (.nilS [9,8,7,5,4,2] r r (.sr (.fa un42 r sz40 r (o:=4) r r r (.load1 ia40 r (.s (.s .z)) r r r (.fa un42 r sz40 r (o:=4) r r r (.load1 ia40 r (.s (.s (.s (.s (.s .z))))) r r r (.own0 eU64 125 ?_))))))))
 obtain ⟨j7,hd⟩:=hd
 refine .append (ys:=b.On) 8 .z un40 un40 IN125 r r r r r r r r r (.imm S r) j7 r r fun v x=>?_
 refine .fa un42 r sz40 r (o:=4) r r r (.store1 sz40 r r (.s (.s (.s .z))) (.s (.s (.s (.s (.t .nil))))) r (.nilS [9,8,7,5,4,2] r r (.seq (.sr (.loadW ia54 sz54 r (.s (.s (.s (.s (.s .z))))) r r r ?_)))))
 have j8:=W_ref09_Right (I:=f5) R15 hd
 refine .callP call123 r j8 r r fun r9 j9=>?_
 obtain ⟨s0,rfl,hd⟩:=j9
 refine .ks 2 r ?_
 refine splitP hd (fun b8 hd=>?_) fun b8 hd=>?_
 · rw [b8]
   refine .ks 9 r (.nilS [53,9,8,7,5,4,2] r r (.condKT r r (.sr (.loadW ia42 sz42 r (.s (.s (.s .z))) r r r (.storeA sz42 r r (.s (.s (.s (.s .z)))) (.t (.t (.t (.t (.t .nil))))) r r (.nilS [8] r r (.drop (.s (.s (.s .z))) (.drop (.s (.s (.s (.s .z)))) (.drop (.s (.s (.s (.s .z)))) ?_)))))))))
   refine .drop (.s (.s (.s (.s .z)))) (.pub (.s (.s .z)) fun s1 k0 T=>?_)
   have k1:=IH.le.trans J k0
   refine .pub (.s .z) fun s2 d3 d1=>?_
   have k2:=IH.le.trans k1 d3
   replace T:=T.mono d3
   refine .pub .z fun s3 b9 m7=>?_
   have k3:=IH.le.trans k2 b9
   replace T:=T.mono b9
   replace d1:=d1.mono b9
   exact .ret (pret results205 (.w ia42 sz42 r .z r .n) k3 ⟨({ Low:=b.Low,High:=b.High,A:=(([]:List Int)++b.A),B:=(([]:List Int)++b.B),On:=(([]:List Int)++b.On) }:State),_,_,_,_,_,_,r,T,d1,m7,hd⟩)
 rw [b8]
 refine .gyes r r r (.fa un54 r sz3 r (o:=0) r r r (.gyes r r r (.load1 ia3 r (.s (.s (.s (.s (.s .z))))) r r r (.gyes r r r (.fa un42 r sz3 r (o:=1) r r r (.gyes r r r (.load1 ia3 r (.s (.s (.s (.s (.s (.s .z)))))) r r r (.gyes r r r (.fa un42 r sz3 r (o:=0) r r r (.gyes r r r (.load1 ia3 r (.s (.s (.s (.s (.s (.s .z)))))) r r r (.ks 3 r (.nilS [53,9,8,7,5,4,2] r r (.condP r hd (fun k4 hd=>?_) fun k4 hd=>?_))))))))))))))
 · refine .sr (.loadW ia42 sz42 r (.s (.s (.s .z))) r r r (.storeA sz42 r r (.s (.s (.s (.s .z)))) (.t (.t (.t (.t (.t .nil))))) r r (.nilS [8] r r (.drop (.s (.s (.s .z))) (.drop (.s (.s (.s (.s .z)))) (.drop (.s (.s (.s (.s .z)))) (.drop (.s (.s (.s (.s .z)))) (.pub (.s (.s .z)) fun s4 k5 U=>?_))))))))
   have k6:=IH.le.trans J k5
   refine .pub (.s .z) fun s5 d4 d2=>?_
   have k7:=IH.le.trans k6 d4
   replace U:=U.mono d4
   refine .pub .z fun s6 c0 m8=>?_
   have k8:=IH.le.trans k7 c0
   replace U:=U.mono c0
   replace d2:=d2.mono c0
   exact .ret (pret results205 (.w ia42 sz42 r .z r .n) k8 ⟨({ Low:=b.Low,High:=b.High,A:=(([]:List Int)++b.A),B:=(([]:List Int)++b.B),On:=(([]:List Int)++b.On) }:State),_,_,_,_,_,_,r,U,d2,m8,hd⟩)
 refine .skipS [9,8,7,5,4,2] r r (.sr (.ks 1 r (.nilS [10,9,8,7,5,4,2] r r (.seq (.sr (.ks 1 r (.nilS [11,10,9,8,7,5,4,2] r r (.block (.own0 eI64 3 ?_)))))))))
 refine .loop hd (fun (s:(List Int)×(List Int)×(List Int)×Int) c w=>match s with | (e,f,h,a)=>∃ I_ E i p l F G,IH.le f5 I_∧Ok ⟨163,[],none⟩ [(2,.int .i64 a2),(4,.pointer (some ⟨b4,0,none⟩)),(5,.pointer (some ⟨b5,0,none⟩)),(7,.pointer (some ⟨b6,0,none⟩)),(8,.pointer (some ⟨b7,0,none⟩)),(9,.pointer (some ⟨D,0,none⟩)),(10,.slice F h.length G),(11,.int .i64 a)] c∧Sym w0 M I I_ [pto b4 (.cells #[.int .i64 a0.Kind,.int .i64 a0.N,.int .i64 a0.Source,.int .i64 a0.Length,.slice p1 a0.Draws.length c2] 49 (0,0)),pto b5 (.cells #[.int .i64 b.Low,.int .i64 b.High,.slice f6 b.A.length f7,.slice f8 b.B.length f9,.slice g0 b.On.length g1] 42 (0,0)),pto b6 (.cells #[.int .i64 a3.N,.slice p13 a3.Items.length c14] 54 (0,0)),pto b7 (.cells #[.int .i64 0,.int .i64 0,.slice none 0 0,.slice none 0 0,.slice none 0 0] 42 (0,0)),pto D (.cells #[.int .i64 b.Low,.int .i64 b.High,.slice E e.length i,.slice p f.length l,.slice v (([]:List Int)++b.On).length x] 42 (0,0)),OwnSl eI64 2 E i e,OwnSl eI64 2 p l f,OwnSl eU64 125 v x (([]:List Int)++b.On),OwnSl eI64 3 F G h] w) (fun c w ho hs=>⟨f5,_,_,_,_,_,_,(.refl _),ho.sub ⟨r,r,r,r,r,r,r,r,trivial⟩,hs.pick (.c (.s (.s (.s (.s (.s (.s (.s (.s .z)))))))) (.c (.s (.s (.s (.s (.s (.s (.s .z))))))) (.c (.s (.s (.s (.s (.s (.s .z)))))) (.c (.s (.s (.s (.s (.s .z))))) (.c (.s (.s (.s (.s .z)))) (.c (.s (.s (.s .z))) (.c (.s (.s .z)) (.c (.s .z) (.c .z .n)))))))))⟩) ?_
 rintro ⟨e,f,h,a⟩ m9 hd c w hst
 obtain ⟨H,E,i,p,l,F,G,u,hok,hsym⟩:=hst
 have V:=IH.le.trans J u
 replace R3:=R3.mono u
 replace R15:=R15.mono u
 replace K:=K.mono u
 replace R:=R.mono u
 replace S:=S.mono u
 refine Cod.at hok hsym (.seq (.sr (.ks 1 r (.fa un54 r sz3 r (o:=0) r r r (.load1 ia3 r (.s (.s .z)) r r r (.ks 1 r (.nilS [58,11,10,9,8,7,5,4,2] r r (.condP r hd (fun g2 hd=>?_) fun g2 hd=>?_))))))))
 · refine .skipS [11,10,9,8,7,5,4,2] r r (.seq (.block (.sr (.loadW ia54 sz54 r (.s (.s .z)) r r r (.ks 1 r ?_)))))
   have g3:=W_ref09_Get (I:=H) R15 hd
   refine .callP call23 r g3 r r fun n6 g4=>?_
   obtain ⟨k,rfl,hd⟩:=g4
   refine .ks 5 r (.nilS [13,12,11,10,9,8,7,5,4,2] r r (.sr (.ks 1 r (.nilS [14,13,12,11,10,9,8,7,5,4,2] r r (.seq (.sr (.fa un49 r sz47 r (o:=0) r r r (.load1 ia47 r .z r r r (.nilS [68,14,13,12,11,10,9,8,7,5,4,2] r r ?_)))))))))
   refine .block (.sr (.ks 2 r (.nilS [102,68,14,13,12,11,10,9,8,7,5,4,2] r r (.condP r hd (fun g5 hd=>?_) fun g5 hd=>?_))))
   · refine .seq ?_
     refine Cod.joinQ (σ:=Bool) hd (fun (d5:Bool) c w=>∃ I_,IH.le H I_∧Ok ⟨163,[],none⟩ [(2,.int .i64 a2),(4,.pointer (some ⟨b4,0,none⟩)),(5,.pointer (some ⟨b5,0,none⟩)),(7,.pointer (some ⟨b6,0,none⟩)),(8,.pointer (some ⟨b7,0,none⟩)),(9,.pointer (some ⟨D,0,none⟩)),(10,.slice F h.length G),(11,.int .i64 a),(12,.int .i64 k.1),(14,.bool d5)] c∧Sym w0 M I I_ [pto b4 (.cells #[.int .i64 a0.Kind,.int .i64 a0.N,.int .i64 a0.Source,.int .i64 a0.Length,.slice p1 a0.Draws.length c2] 49 (0,0)),pto b5 (.cells #[.int .i64 b.Low,.int .i64 b.High,.slice f6 b.A.length f7,.slice f8 b.B.length f9,.slice g0 b.On.length g1] 42 (0,0)),pto b6 (.cells #[.int .i64 a3.N,.slice p13 a3.Items.length c14] 54 (0,0)),pto b7 (.cells #[.int .i64 0,.int .i64 0,.slice none 0 0,.slice none 0 0,.slice none 0 0] 42 (0,0)),pto D (.cells #[.int .i64 b.Low,.int .i64 b.High,.slice E e.length i,.slice p f.length l,.slice v (([]:List Int)++b.On).length x] 42 (0,0)),OwnSl eI64 2 E i e,OwnSl eI64 2 p l f,OwnSl eU64 125 v x (([]:List Int)++b.On),OwnSl eI64 3 F G h] w) (fun n7 hd=>?_) ?_
     · skip
       refine .region (.ks 2 r ?_)
       refine splitP hd (fun W hd=>?_) fun W hd=>?_
       · rw [W]
         refine .gyes r r r (.fa un42 r sz30 r (o:=2) r r r (.gyes r r r (.load1 ia30 r (.s .z) r r r (.ks 1 r ?_))))
         obtain ⟨d6,k9,c6,hd⟩:=hd
         obtain ⟨n8,o1172,n0,l0,g6,g7⟩:=K.2 _ _ c6
         cases g7
         exact .gyes r r r (.ixa un30 sz2 r l0 r d6 (idx_lt c6 d6) r r (.gyes r r r (.ld1 (j:=0) ia2 g6 r r r r r (.ks 3 r (.nil' fun c w ho hs=>⟨(k9==(-1)),hd,H,(.refl _),ho.sub ⟨r,r,r,r,r,r,r,r,r,r,trivial⟩,hs.pick (.c .z (.c .z (.c .z (.c .z (.c .z (.c .z (.c .z (.c .z (.c .z .n)))))))))⟩)))))
       rw [W]
       exact .ks 8 r (.nil' fun c w ho hs=>⟨false,hd,H,(.refl _),ho.sub ⟨r,r,r,r,r,r,r,r,r,r,trivial⟩,hs.pick (.c .z (.c .z (.c .z (.c .z (.c .z (.c .z (.c .z (.c .z (.c .z .n)))))))))⟩)
     rintro d5 hd c w hst
     obtain ⟨d7,y,hok,hsym⟩:=hst
     have n1:=IH.le.trans V y
     have c7:=IH.le.trans u y
     replace R3:=R3.mono y
     replace R15:=R15.mono y
     replace K:=K.mono y
     replace R:=R.mono y
     replace S:=S.mono y
     refine Cod.at hok hsym (.sr (.ks 1 r (.nilS [113,14,12,11,10,9,8,7,5,4,2] r r (.condP r hd (fun X hd=>?_) fun X hd=>?_))))
     · refine .sr (.fa un42 r sz30 r (o:=2) r r r (.load1 ia30 r (.s (.s (.s (.s .z)))) r r r (.ks 2 r ?_)))
       obtain ⟨d8,n9,Y,hd⟩:=hd
       refine .ownNe (.s (.s (.s (.s (.s .z))))) (idx_ne Y) fun c1 l1=>?_
       cases l1
       refine .ixa0 un30 sz2 r r d8 (idx_lt Y d8) r r (.stO1 (j:=0) (v':=a2) sz2 (.s (.s (.s (.s (.s .z))))) Y r r r (.t .nil) r (.sub (E':=[(2,_),(4,_),(5,_),(7,_),(8,_),(9,_),(10,_),(11,_),(12,_),(14,_),(113,_),(114,_),(115,.slice (some ⟨c1,0,none⟩) (e.set a.toNat a2).length i),(116,_),(117,_),(118,_)]) ⟨r,r,r,r,r,r,r,r,r,r,r,r,(by simp only [List.length_set]; rfl),r,r,r,trivial⟩ (.reat (.s (.s (.s (.s .z)))) (B:=pto D (.cells #[.int .i64 b.Low,.int .i64 b.High,.slice (some ⟨c1,0,none⟩) (e.set a.toNat a2).length i,.slice p f.length l,.slice v (([]:List Int)++b.On).length x] 42 (0,0))) (by simp only [List.length_set]) (.nilS [14,12,11,10,9,8,7,5,4,2] r r (.region (.fa un42 r sz30 r (o:=3) r r r (.load1 ia30 r (.s (.s (.s (.s .z)))) r r r (.ks 2 r ?_))))))))
       obtain ⟨d9,o0,Z,hd⟩:=hd
       refine .ownNe (.s (.s (.s (.s (.s (.s .z)))))) (idx_ne Z) fun e0 l2=>?_
       cases l2
       refine .ixa0 un30 sz2 r r d9 (idx_lt Z d9) r r (.stO1 (j:=0) (v':=k.1) sz2 (.s (.s (.s (.s (.s (.s .z)))))) Z r r r (.t .nil) r (.sub (E':=[(2,_),(4,_),(5,_),(7,_),(8,_),(9,_),(10,_),(11,_),(12,_),(14,_),(119,_),(120,.slice (some ⟨e0,0,none⟩) (f.set a.toNat k.1).length l),(121,_),(122,_),(123,_)]) ⟨r,r,r,r,r,r,r,r,r,r,r,(by simp only [List.length_set]; rfl),r,r,r,trivial⟩ (.reat (.s (.s (.s (.s .z)))) (B:=pto D (.cells #[.int .i64 b.Low,.int .i64 b.High,.slice (some ⟨c1,0,none⟩) (e.set a.toNat a2).length i,.slice (some ⟨e0,0,none⟩) (f.set a.toNat k.1).length l,.slice v (([]:List Int)++b.On).length x] 42 (0,0))) (by simp only [List.length_set]) (.nilS [14,11,10,9,8,7,5,4,2] r r (.sr (.ks 1 r (.nilS [152,11,10,9,8,7,5,4,2] r r (.condKT r X (.region ?_)))))))))
       refine .ks 2 r (.buildSlice 1 un29 sz3 zv3 r r (.c r r r .n) r r fun o1=>?_)
       obtain ⟨g8,hd⟩:=hd
       refine .append (ys:=[a]) 8 (.s (.s (.s (.s (.s (.s (.s (.s (.s .z))))))))) un29 un29 IN3 r r r r r r r r r (.box .z (.one r) r) g8 r r fun o2 o3=>?_
       exact .ks 1 r (.nilS [10,11,9,8,7,5,4,2] r r (.drop (.s .z) (.region (.ks 3 r (.nil' fun c w ho hs=>⟨((e.set a.toNat a2),(f.set a.toNat k.1),(h++([a])),w64 (a+1)),hd,d7,_,_,_,_,_,_,c7,ho.sub ⟨r,r,r,r,r,r,r,r,trivial⟩,hs.pick (.c (.s .z) (.c (.s .z) (.c (.s .z) (.c (.s .z) (.c (.s .z) (.c (.s .z) (.c (.s .z) (.c (.s .z) (.c .z .n)))))))))⟩)))))
     exact .skipS [14,11,10,9,8,7,5,4,2] r r (.sr (.ks 1 r (.nilS [152,11,10,9,8,7,5,4,2] r r (.condKF r X (.skipS [11,10,9,8,7,5,4,2] r r (.region (.ks 3 r (.nil' fun c w ho hs=>⟨(e,f,h,w64 (a+1)),hd,d7,_,_,_,_,_,_,c7,ho.sub ⟨r,r,r,r,r,r,r,r,trivial⟩,hs.pick (.c .z (.c .z (.c .z (.c .z (.c .z (.c .z (.c .z (.c .z (.c .z .n)))))))))⟩))))))))
   refine .seq ?_
   refine Cod.joinQ (σ:=Bool) hd (fun (e1:Bool) c w=>∃ I_,IH.le H I_∧Ok ⟨163,[],none⟩ [(2,.int .i64 a2),(4,.pointer (some ⟨b4,0,none⟩)),(5,.pointer (some ⟨b5,0,none⟩)),(7,.pointer (some ⟨b6,0,none⟩)),(8,.pointer (some ⟨b7,0,none⟩)),(9,.pointer (some ⟨D,0,none⟩)),(10,.slice F h.length G),(11,.int .i64 a),(12,.int .i64 k.1),(13,.bool k.2),(14,.bool false),(68,.int .i64 a0.Kind),(124,.bool e1)] c∧Sym w0 M I I_ [pto b4 (.cells #[.int .i64 a0.Kind,.int .i64 a0.N,.int .i64 a0.Source,.int .i64 a0.Length,.slice p1 a0.Draws.length c2] 49 (0,0)),pto b5 (.cells #[.int .i64 b.Low,.int .i64 b.High,.slice f6 b.A.length f7,.slice f8 b.B.length f9,.slice g0 b.On.length g1] 42 (0,0)),pto b6 (.cells #[.int .i64 a3.N,.slice p13 a3.Items.length c14] 54 (0,0)),pto b7 (.cells #[.int .i64 0,.int .i64 0,.slice none 0 0,.slice none 0 0,.slice none 0 0] 42 (0,0)),pto D (.cells #[.int .i64 b.Low,.int .i64 b.High,.slice E e.length i,.slice p f.length l,.slice v (([]:List Int)++b.On).length x] 42 (0,0)),OwnSl eI64 2 E i e,OwnSl eI64 2 p l f,OwnSl eU64 125 v x (([]:List Int)++b.On),OwnSl eI64 3 F G h] w) (fun o4 hd=>?_) ?_
   · skip
     refine .sr (.ks 2 r (.nilS [124,68,14,13,12,11,10,9,8,7,5,4,2] r r (.condP r hd (fun g9 hd=>?_) fun g9 hd=>?_)))
     · exact .skip' fun c w ho hs=>⟨(a0.Kind==2),hd,H,(.refl _),ho.sub ⟨r,r,r,r,r,r,r,r,r,r,r,r,r,trivial⟩,hs.pick (.c .z (.c .z (.c .z (.c .z (.c .z (.c .z (.c .z (.c .z (.c .z .n)))))))))⟩
     exact .region (.ks 2 r (.nil' fun c w ho hs=>⟨(a0.Kind==3),hd,H,(.refl _),ho.sub ⟨r,r,r,r,r,r,r,r,r,r,r,r,r,trivial⟩,hs.pick (.c .z (.c .z (.c .z (.c .z (.c .z (.c .z (.c .z (.c .z (.c .z .n)))))))))⟩))
   rintro e1 hd c w hst
   obtain ⟨q,C,hok,hsym⟩:=hst
   have n2:=IH.le.trans V C
   have m:=IH.le.trans u C
   replace R3:=R3.mono C
   replace R15:=R15.mono C
   replace K:=K.mono C
   replace R:=R.mono C
   replace S:=S.mono C
   refine Cod.at hok hsym (.condP r hd (fun h0 hd=>?_) fun h0 hd=>?_)
   · refine .sr (.ks 2 r ?_)
     refine splitP hd (fun a4 hd=>?_) fun a4 hd=>?_
     · rw [a4]
       refine .ks 1 r (.gyes r r r (.fa un42 r sz30 r (o:=2) r r r (.gyes r r r (.load1 ia30 r (.s .z) r r r (.ks 1 r ?_)))))
       obtain ⟨e3,o5,c9,hd⟩:=hd
       obtain ⟨o6,o1213,n3,l3,h1,h2⟩:=K.2 _ _ c9
       cases h2
       refine .gyes r r r (.ixa un30 sz2 r l3 r e3 (idx_lt c9 e3) r r (.gyes r r r (.ld1 (j:=0) ia2 h1 r r r r r (.ks 3 r (.nilS [14,12,11,10,9,8,7,5,4,2] r r (.sr (.ks 1 r (.nilS [137,14,12,11,10,9,8,7,5,4,2] r r (.condP r hd (fun a5 hd=>?_) fun a5 hd=>?_)))))))))
       · refine .region (.fa un42 r sz30 r (o:=2) r r r (.load1 ia30 r (.s (.s (.s (.s .z)))) r r r (.ks 2 r ?_)))
         obtain ⟨e4,o7,a6,hd⟩:=hd
         refine .ownNe (.s (.s (.s (.s (.s .z))))) (idx_ne a6) fun e5 l4=>?_
         cases l4
         refine .ixa0 un30 sz2 r r e4 (idx_lt a6 e4) r r (.stO1 (j:=0) (v':=k.1) sz2 (.s (.s (.s (.s (.s .z))))) a6 r r r (.t .nil) r (.sub (E':=[(2,_),(4,_),(5,_),(7,_),(8,_),(9,_),(10,_),(11,_),(12,_),(14,_),(137,_),(138,_),(139,.slice (some ⟨e5,0,none⟩) (e.set a.toNat k.1).length i),(140,_),(141,_),(142,_)]) ⟨r,r,r,r,r,r,r,r,r,r,r,r,(by simp only [List.length_set]; rfl),r,r,r,trivial⟩ (.reat (.s (.s (.s (.s .z)))) (B:=pto D (.cells #[.int .i64 b.Low,.int .i64 b.High,.slice (some ⟨e5,0,none⟩) (e.set a.toNat k.1).length i,.slice p f.length l,.slice v (([]:List Int)++b.On).length x] 42 (0,0))) (by simp only [List.length_set]) (.nilS [14,11,10,9,8,7,5,4,2] r r (.sr (.ks 1 r (.nilS [152,11,10,9,8,7,5,4,2] r r (.condKT r a5 (.region ?_)))))))))
         refine .ks 2 r (.buildSlice 1 un29 sz3 zv3 r r (.c r r r .n) r r fun o8=>?_)
         obtain ⟨h3,hd⟩:=hd
         refine .append (ys:=[a]) 8 (.s (.s (.s (.s (.s (.s (.s (.s (.s .z))))))))) un29 un29 IN3 r r r r r r r r r (.box .z (.one r) r) h3 r r fun o9 p0=>?_
         exact .ks 1 r (.nilS [10,11,9,8,7,5,4,2] r r (.drop (.s .z) (.region (.ks 3 r (.nil' fun c w ho hs=>⟨((e.set a.toNat k.1),f,(h++([a])),w64 (a+1)),hd,q,_,_,_,_,_,_,m,ho.sub ⟨r,r,r,r,r,r,r,r,trivial⟩,hs.pick (.c (.s .z) (.c (.s .z) (.c (.s .z) (.c (.s .z) (.c (.s .z) (.c (.s .z) (.c (.s .z) (.c (.s .z) (.c .z .n)))))))))⟩)))))
       exact .skipS [14,11,10,9,8,7,5,4,2] r r (.sr (.ks 1 r (.nilS [152,11,10,9,8,7,5,4,2] r r (.condKF r a5 (.skipS [11,10,9,8,7,5,4,2] r r (.region (.ks 3 r (.nil' fun c w ho hs=>⟨(e,f,h,w64 (a+1)),hd,q,_,_,_,_,_,_,m,ho.sub ⟨r,r,r,r,r,r,r,r,trivial⟩,hs.pick (.c .z (.c .z (.c .z (.c .z (.c .z (.c .z (.c .z (.c .z (.c .z .n)))))))))⟩))))))))
     rw [a4]
     refine .ks 9 r (.nilS [14,12,11,10,9,8,7,5,4,2] r r (.sr (.ks 1 r (.nilS [137,14,12,11,10,9,8,7,5,4,2] r r (.condKF r r (.skipS [14,11,10,9,8,7,5,4,2] r r (.sr (.ks 1 r (.nilS [152,11,10,9,8,7,5,4,2] r r ?_)))))))))
     exact .condKF r r (.skipS [11,10,9,8,7,5,4,2] r r (.region (.ks 3 r (.nil' fun c w ho hs=>⟨(e,f,h,w64 (a+1)),hd,q,_,_,_,_,_,_,m,ho.sub ⟨r,r,r,r,r,r,r,r,trivial⟩,hs.pick (.c .z (.c .z (.c .z (.c .z (.c .z (.c .z (.c .z (.c .z (.c .z .n)))))))))⟩))))
   refine .sr (.ks 2 r (.nilS [143,14,13,12,11,10,9,8,7,5,4,2] r r (.condP r hd (fun h4 hd=>?_) fun h4 hd=>?_)))
   · refine .sr (.fa un42 r sz30 r (o:=2) r r r (.load1 ia30 r (.s (.s (.s (.s .z)))) r r r (.ks 2 r ?_)))
     obtain ⟨e6,p2,a7,hd⟩:=hd
     refine .ownNe (.s (.s (.s (.s (.s .z))))) (idx_ne a7) fun e7 l5=>?_
     cases l5
     refine .ixa0 un30 sz2 r r e6 (idx_lt a7 e6) r r (.stO1 (j:=0) (v':=k.1) sz2 (.s (.s (.s (.s (.s .z))))) a7 r r r (.t .nil) r (.sub (E':=[(2,_),(4,_),(5,_),(7,_),(8,_),(9,_),(10,_),(11,_),(12,_),(13,_),(14,_),(143,_),(145,_),(146,.slice (some ⟨e7,0,none⟩) (e.set a.toNat k.1).length i),(147,_),(148,_),(149,_)]) ⟨r,r,r,r,r,r,r,r,r,r,r,r,r,(by simp only [List.length_set]; rfl),r,r,r,trivial⟩ (.reat (.s (.s (.s (.s .z)))) (B:=pto D (.cells #[.int .i64 b.Low,.int .i64 b.High,.slice (some ⟨e7,0,none⟩) (e.set a.toNat k.1).length i,.slice p f.length l,.slice v (([]:List Int)++b.On).length x] 42 (0,0))) (by simp only [List.length_set]) (.nilS [12,11,10,9,8,7,5,4,2] r r (.region (.ks 3 r (.nilS [14,11,10,9,8,7,5,4,2] r r (.sr (.ks 1 r ?_)))))))))
     refine .nilS [152,11,10,9,8,7,5,4,2] r r (.condP r hd (fun h5 hd=>?_) fun h5 hd=>?_)
     · refine .region (.ks 2 r (.buildSlice 1 un29 sz3 zv3 r r (.c r r r .n) r r fun p3=>?_))
       obtain ⟨h6,hd⟩:=hd
       refine .append (ys:=[a]) 8 (.s (.s (.s (.s (.s (.s (.s (.s (.s .z))))))))) un29 un29 IN3 r r r r r r r r r (.box .z (.one r) r) h6 r r fun p5 p6=>?_
       exact .ks 1 r (.nilS [10,11,9,8,7,5,4,2] r r (.drop (.s .z) (.region (.ks 3 r (.nil' fun c w ho hs=>⟨((e.set a.toNat k.1),f,(h++([a])),w64 (a+1)),hd,q,_,_,_,_,_,_,m,ho.sub ⟨r,r,r,r,r,r,r,r,trivial⟩,hs.pick (.c (.s .z) (.c (.s .z) (.c (.s .z) (.c (.s .z) (.c (.s .z) (.c (.s .z) (.c (.s .z) (.c (.s .z) (.c .z .n)))))))))⟩)))))
     exact .skipS [11,10,9,8,7,5,4,2] r r (.region (.ks 3 r (.nil' fun c w ho hs=>⟨((e.set a.toNat k.1),f,h,w64 (a+1)),hd,q,_,_,_,_,_,_,m,ho.sub ⟨r,r,r,r,r,r,r,r,trivial⟩,hs.pick (.c .z (.c .z (.c .z (.c .z (.c .z (.c .z (.c .z (.c .z (.c .z .n)))))))))⟩)))
   refine .seq (.sr (.fa un42 r sz30 r (o:=2) r r r (.load1 ia30 r (.s .z) r r r (.ks 1 r ?_))))
   obtain ⟨e8,p8,d0,hd⟩:=hd
   obtain ⟨p9,o1257,n4,l6,h7,h8⟩:=K.2 _ _ d0
   cases h8
   refine .ixa un30 sz2 r l6 r e8 (idx_lt d0 e8) r r (.ld1 (j:=0) ia2 h7 r r r r r (.ks 1 r (.nilS [74,14,13,12,11,10,9,8,7,5,4,2] r r (.condP r hd (fun h9 hd=>?_) fun h9 hd=>?_))))
   · exact .exitS [14,11,10,9,8,7,5,4,2] r r (.sr (.ks 1 r (.nilS [152,11,10,9,8,7,5,4,2] r r (.condKF r r (.skipS [11,10,9,8,7,5,4,2] r r (.region (.ks 3 r (.nil' fun c w ho hs=>⟨(e,f,h,w64 (a+1)),hd,q,_,_,_,_,_,_,m,ho.sub ⟨r,r,r,r,r,r,r,r,trivial⟩,hs.pick (.c .z (.c .z (.c .z (.c .z (.c .z (.c .z (.c .z (.c .z (.c .z .n)))))))))⟩))))))))
   refine .skipS [14,13,12,11,10,9,8,7,5,4,2] r r (.seq (.sr (.ks 1 r (.rem r r (by decide) r r (.ks 1 r (.nilS [77,14,13,12,11,10,9,8,7,5,4,2] r r (.condP r hd (fun i0 hd=>?_) fun i0 hd=>?_)))))))
   · refine .seq (.sr (.ks 1 r (.nilS [78,14,11,10,9,8,7,5,4,2] r r (.condP r hd (fun i1 hd=>?_) fun i1 hd=>?_))))
     · refine .region (.fa un42 r sz30 r (o:=2) r r r (.load1 ia30 r (.s (.s (.s (.s .z)))) r r r (.ks 1 r ?_)))
       obtain ⟨e9,q0,a8,hd⟩:=hd
       refine .ownNe (.s (.s (.s (.s (.s .z))))) (idx_ne a8) fun f0 l7=>?_
       cases l7
       refine .ixa0 un30 sz2 r r e9 (idx_lt a8 e9) r r (.stO1 (j:=0) (v':=2) sz2 (.s (.s (.s (.s (.s .z))))) a8 r r r (.t .nil) r (.sub (E':=[(2,_),(4,_),(5,_),(7,_),(8,_),(9,_),(10,_),(11,_),(14,_),(78,_),(79,_),(80,.slice (some ⟨f0,0,none⟩) (e.set a.toNat 2).length i),(81,_),(82,_)]) ⟨r,r,r,r,r,r,r,r,r,r,r,(by simp only [List.length_set]; rfl),r,r,trivial⟩ (.reat (.s (.s (.s (.s .z)))) (B:=pto D (.cells #[.int .i64 b.Low,.int .i64 b.High,.slice (some ⟨f0,0,none⟩) (e.set a.toNat 2).length i,.slice p f.length l,.slice v (([]:List Int)++b.On).length x] 42 (0,0))) (by simp only [List.length_set]) (.nilS [14,11,10,9,8,7,5,4,2] r r (.exitS [14,11,10,9,8,7,5,4,2] r r (.sr (.ks 1 r (.nilS [152,11,10,9,8,7,5,4,2] r r (.condKF r r ?_)))))))))
       exact .skipS [11,10,9,8,7,5,4,2] r r (.region (.ks 3 r (.nil' fun c w ho hs=>⟨((e.set a.toNat 2),f,h,w64 (a+1)),hd,q,_,_,_,_,_,_,m,ho.sub ⟨r,r,r,r,r,r,r,r,trivial⟩,hs.pick (.c .z (.c .z (.c .z (.c .z (.c .z (.c .z (.c .z (.c .z (.c .z .n)))))))))⟩)))
     exact .skipS [14,11,10,9,8,7,5,4,2] r r (.exitS [14,11,10,9,8,7,5,4,2] r r (.sr (.ks 1 r (.nilS [152,11,10,9,8,7,5,4,2] r r (.condKF r r (.skipS [11,10,9,8,7,5,4,2] r r (.region (.ks 3 r (.nil' fun c w ho hs=>⟨(e,f,h,w64 (a+1)),hd,q,_,_,_,_,_,_,m,ho.sub ⟨r,r,r,r,r,r,r,r,trivial⟩,hs.pick (.c .z (.c .z (.c .z (.c .z (.c .z (.c .z (.c .z (.c .z (.c .z .n)))))))))⟩)))))))))
   refine .skipS [13,12,11,10,9,8,7,5,4,2] r r (.seq (.dr [0,1,2,3,4,5,7,8,9,10,6,11,12,13] 14 (.fk 3 r ?_)))
   refine splitP hd (fun d hd=>?_) fun d hd=>?_
   · refine .g r r r (fun _=>.gno r r d r r .mk) (.g r r r (fun _=>.gno r r d r r .mk) (.g r r r (fun _=>.gno r r d r r .mk) (.g r r r (fun _=>.gno r r d r r .mk) (.g r r r (fun _=>.gno r r d r r .mk) (.g r r r (fun _=>.gno r r d r r .mk) (.g r r r (fun _=>.gno r r d r r .mk) (.g r r r (fun _=>.gno r r d r r .mk) (.g r r r (fun _=>.gno r r d r r .mk) (.g r r r (fun _=>.gno r r d r r .mk) ?_)))))))))
     refine .g r r r (fun _=>.pickT r d r r r .mk) (.e2 14 (.ks 1 r (.nilS [14,11,10,9,8,7,5,4,2] r r (.sr (.ks 1 r (.nilS [97,14,11,10,9,8,7,5,4,2] r r (.condKT r r (.region (.fa un42 r sz30 r (o:=2) r r r ?_)))))))))
     refine .load1 ia30 r (.s (.s (.s (.s .z)))) r r r (.ks 1 r ?_)
     obtain ⟨f1,q1,a9,hd⟩:=hd
     refine .ownNe (.s (.s (.s (.s (.s .z))))) (idx_ne a9) fun f2 l8=>?_
     cases l8
     refine .ixa0 un30 sz2 r r f1 (idx_lt a9 f1) r r (.stO1 (j:=0) (v':=1) sz2 (.s (.s (.s (.s (.s .z))))) a9 r r r (.t .nil) r (.sub (E':=[(2,_),(4,_),(5,_),(7,_),(8,_),(9,_),(10,_),(11,_),(14,_),(97,_),(98,_),(99,.slice (some ⟨f2,0,none⟩) (e.set a.toNat 1).length i),(100,_),(101,_)]) ⟨r,r,r,r,r,r,r,r,r,r,r,(by simp only [List.length_set]; rfl),r,r,trivial⟩ (.reat (.s (.s (.s (.s .z)))) (B:=pto D (.cells #[.int .i64 b.Low,.int .i64 b.High,.slice (some ⟨f2,0,none⟩) (e.set a.toNat 1).length i,.slice p f.length l,.slice v (([]:List Int)++b.On).length x] 42 (0,0))) (by simp only [List.length_set]) (.nilS [14,11,10,9,8,7,5,4,2] r r (.sr (.ks 1 r (.nilS [152,11,10,9,8,7,5,4,2] r r (.condKT r r (.region ?_)))))))))
     refine .ks 2 r (.buildSlice 1 un29 sz3 zv3 r r (.c r r r .n) r r fun q2=>?_)
     obtain ⟨i2,hd⟩:=hd
     refine .append (ys:=[a]) 8 (.s (.s (.s (.s (.s (.s (.s (.s (.s .z))))))))) un29 un29 IN3 r r r r r r r r r (.box .z (.one r) r) i2 r r fun q3 q4=>?_
     exact .ks 1 r (.nilS [10,11,9,8,7,5,4,2] r r (.drop (.s .z) (.region (.ks 3 r (.nil' fun c w ho hs=>⟨((e.set a.toNat 1),f,(h++([a])),w64 (a+1)),hd,q,_,_,_,_,_,_,m,ho.sub ⟨r,r,r,r,r,r,r,r,trivial⟩,hs.pick (.c (.s .z) (.c (.s .z) (.c (.s .z) (.c (.s .z) (.c (.s .z) (.c (.s .z) (.c (.s .z) (.c (.s .z) (.c .z .n)))))))))⟩)))))
   refine .g r r r (fun _=>.gyes r r d (.move r r r .mk)) (.g r r r (fun _=>.gyes r r d (.loadW ia49 sz49 r .z r r r .mk)) (.g r r r (fun _=>.gyes r r d (.move r r r .mk)) (.g r r r (fun _=>.gyes r r d (.fa un42 r sz3 r (o:=0) r r r .mk)) (.g r r r (fun _=>.gyes r r d (.load1 ia3 r (.s .z) r r r .mk)) (.g r r r (fun _=>.gyes r r d (.move r r r .mk)) (.g r r r (fun _=>.gyes r r d (.add r r r r .mk)) (.ww r fun ex=>?_)))))))
   have i3:=W_ref21_draw (I:=q) hd
   refine .gyes r r d (.callP call213 r i3 r r fun q5 i4=>?_)
   obtain ⟨q6,rfl,hd⟩:=i4
   refine .so 9 r r r (.cg r r r r (fun _=>.gyes r r d (.add r r r r .mk)) (.cg r r r r (fun _=>.gyes r r d (.move r r r .mk)) (.cg r r r r (fun _=>.gyes r r d (.load1 ia3 r (.s .z) r r r .mk)) (.cg r r r r (fun _=>.gyes r r d (.fa un42 r sz3 r (o:=0) r r r .mk)) (.cg r r r r (fun _=>.gyes r r d (.loadW ia49 sz49 r .z r r r .mk)) (.cg r r r r (fun _=>.gyes r r d (.move r r r .mk)) trivial)))))) (.ww r fun ex=>?_)
   have i5:=W_ref21_Draw (I:=q) R3 hd
   refine .gyes r r d (.callP call212 r i5 r r fun q7 i6=>?_)
   obtain ⟨q8,rfl,hd⟩:=i6
   refine .so 9 r r r (.cg r r r r (fun _=>.gyes r r d (.move r r r .mk)) trivial) (.g r r r (fun _=>.gyes r r d (.gt r r r r .mk)) (.g r r r (fun _=>.pickF r d r r r .mk) (.e2 14 (.ks 1 r (.nilS [14,11,10,9,8,7,5,4,2] r r (.sr (.ks 1 r (.nilS [97,14,11,10,9,8,7,5,4,2] r r (.condP r hd (fun b0 hd=>?_) fun b0 hd=>?_)))))))))
   · refine .region (.fa un42 r sz30 r (o:=2) r r r (.load1 ia30 r (.s (.s (.s (.s .z)))) r r r (.ks 1 r ?_)))
     obtain ⟨f3,q9,b1,hd⟩:=hd
     refine .ownNe (.s (.s (.s (.s (.s .z))))) (idx_ne b1) fun f4 l9=>?_
     cases l9
     refine .ixa0 un30 sz2 r r f3 (idx_lt b1 f3) r r (.stO1 (j:=0) (v':=1) sz2 (.s (.s (.s (.s (.s .z))))) b1 r r r (.t .nil) r (.sub (E':=[(2,_),(4,_),(5,_),(7,_),(8,_),(9,_),(10,_),(11,_),(14,_),(97,_),(98,_),(99,.slice (some ⟨f4,0,none⟩) (e.set a.toNat 1).length i),(100,_),(101,_)]) ⟨r,r,r,r,r,r,r,r,r,r,r,(by simp only [List.length_set]; rfl),r,r,trivial⟩ (.reat (.s (.s (.s (.s .z)))) (B:=pto D (.cells #[.int .i64 b.Low,.int .i64 b.High,.slice (some ⟨f4,0,none⟩) (e.set a.toNat 1).length i,.slice p f.length l,.slice v (([]:List Int)++b.On).length x] 42 (0,0))) (by simp only [List.length_set]) (.nilS [14,11,10,9,8,7,5,4,2] r r (.sr (.ks 1 r (.nilS [152,11,10,9,8,7,5,4,2] r r (.condKT r b0 (.region ?_)))))))))
     refine .ks 2 r (.buildSlice 1 un29 sz3 zv3 r r (.c r r r .n) r r fun r0=>?_)
     obtain ⟨i7,hd⟩:=hd
     refine .append (ys:=[a]) 8 (.s (.s (.s (.s (.s (.s (.s (.s (.s .z))))))))) un29 un29 IN3 r r r r r r r r r (.box .z (.one r) r) i7 r r fun r1 r2=>?_
     exact .ks 1 r (.nilS [10,11,9,8,7,5,4,2] r r (.drop (.s .z) (.region (.ks 3 r (.nil' fun c w ho hs=>⟨((e.set a.toNat 1),f,(h++([a])),w64 (a+1)),hd,q,_,_,_,_,_,_,m,ho.sub ⟨r,r,r,r,r,r,r,r,trivial⟩,hs.pick (.c (.s .z) (.c (.s .z) (.c (.s .z) (.c (.s .z) (.c (.s .z) (.c (.s .z) (.c (.s .z) (.c (.s .z) (.c .z .n)))))))))⟩)))))
   exact .skipS [14,11,10,9,8,7,5,4,2] r r (.sr (.ks 1 r (.nilS [152,11,10,9,8,7,5,4,2] r r (.condKF r b0 (.skipS [11,10,9,8,7,5,4,2] r r (.region (.ks 3 r (.nil' fun c w ho hs=>⟨(e,f,h,w64 (a+1)),hd,q,_,_,_,_,_,_,m,ho.sub ⟨r,r,r,r,r,r,r,r,trivial⟩,hs.pick (.c .z (.c .z (.c .z (.c .z (.c .z (.c .z (.c .z (.c .z (.c .z .n)))))))))⟩))))))))
 refine .exitS [10,9,8,7] r r (.drop .z (.drop .z (.sr (.fa un54 r sz3 r (o:=0) r r r (.load1 ia3 r .z r r r (.ks 1 r (.pub (.s (.s (.s (.s (.s (.s .z)))))) fun m0 b2 c3=>?_)))))))
 have i8:=IH.le.trans V b2
 have i9:=IH.le.trans u b2
 replace R15:=R15.mono b2
 have j0:=W_ref03_Of (I:=m0) c3 hd
 refine .call call62 r j0 r r fun r3 r4 L j1=>?_
 obtain ⟨m1,r5,r6,rfl,O,hd⟩:=j1
 have j2:=IH.le.trans i8 L
 have j3:=IH.le.trans i9 L
 replace R15:=R15.mono L
 replace c3:=c3.mono L
 refine .fa un42 r sz40 r (o:=4) r r r (.store1 sz40 r r (.s (.s .z)) (.s (.s (.s (.s (.t .nil))))) r (.nilS [9,8] r r (.drop .z (.drop (.s (.s (.s (.s .z)))) (.sr (.loadW ia42 sz42 r (.s .z) r r r (.storeA sz42 r r .z (.t (.t (.t (.t (.t .nil))))) r r (.nilS [8] r r (.drop (.s .z) ?_)))))))))
 refine .pub (.s .z) fun r7 b3 c4=>?_
 have j4:=IH.le.trans j2 b3
 have j5:=IH.le.trans j3 b3
 replace O:=O.mono b3
 refine .pub (.s .z) fun r8 P m2=>?_
 have j6:=IH.le.trans j4 P
 have n5:=IH.le.trans j5 P
 replace O:=O.mono P
 replace c4:=c4.mono P
 exact .ret (pret results205 (.w ia42 sz42 r .z r .n) j6 ⟨({ Low:=b.Low,High:=b.High,A:=e,B:=f,On:=m1 }:State),_,_,_,_,_,_,r,c4,m2,O,hd⟩)
theorem W_ref22_Step {I:IH} {a0:Plan} {a1:Rows} {a2:State} {a3:Int} {p1:Option Addr} {c2:Nat} {p4:Option Addr} {c5:Nat} {p7:Option Addr} {c8:Nat} {p10:Option Addr} {c11:Nat} {p13:Option Addr} {c14:Nat} {p16:Option Addr} {c17:Nat} {p19:Option Addr} {c20:Nat} {Q:(State×Int)→Prop} (R3:RepSl eI64 I p1 c2 a0.Draws) (R6:RepSl eI64 I p4 c5 a1.Start) (R9:RepSl eI64 I p7 c8 a1.Col) (R12:RepSl eI64 I p10 c11 a1.Val) (R15:RepSl eI64 I p13 c14 a2.A) (R18:RepSl eI64 I p16 c17 a2.B) (R21:RepSl eU64 I p19 c20 a2.On) (hd:ref22_Step a0 a1 a2 a3 Q) :
  PFun prog 133 [.agg #[.int .i64 a0.Kind,.int .i64 a0.N,.int .i64 a0.Source,.int .i64 a0.Length,.slice p1 a0.Draws.length c2],.agg #[.int .i64 a1.Rows,.int .i64 a1.Cols,.slice p4 a1.Start.length c5,.slice p7 a1.Col.length c8,.slice p10 a1.Val.length c11],.agg #[.int .i64 a2.Low,.int .i64 a2.High,.slice p13 a2.A.length c14,.slice p16 a2.B.length c17,.slice p19 a2.On.length c20],.int .i64 a3] I (o32_ Q):=by
 refine Fun.enter func133 r ntmps133 r (.c (.c (.c (.c .n)))) fun w0 M=>?_
 refine .sr (.boxA r r r fun h6=>?_)
 refine .boxA r r r fun h7=>?_
 refine .boxA r r r fun h8=>?_
 refine .allocA zv42 r r fun h9=>?_
 refine .ks 1 r (.nilS [8,6,5,4,3] r r (.seq (.sr (.loadW ia49 sz49 r (.s (.s (.s .z))) r r r ?_))))
 have b5:=W_ref21_Right (I:=I) R3 hd
 refine .callP call71 r b5 r r fun i0 b6=>?_
 obtain ⟨d4,rfl,hd⟩:=b6
 refine .ks 1 r (.nilS [10,8,6,5,4,3] r r (.sr (.ks 2 r (.nilS [19,10,8,6,5,4,3] r r (.condP r hd (fun b7 hd=>?_) fun b7 hd=>?_)))))
 · exact .sr (.build zv42 un42 BI42 .n (by exact trivial) r r (.ks 1 r (.storeA sz42 r r .z (.t (.t (.t (.t (.t .nil))))) r r (.ks 1 r (.nilS [9,8] r r (.drop (.s .z) (.drop (.s .z) (.drop (.s .z) (.ret (pret results133 (.w ia42 sz42 r .z r (.t r .n)) (.refl _) ⟨(({ Low:=0,High:=0,A:=([]:List Int),B:=([]:List Int),On:=([]:List Int) }:State),d4),_,_,_,_,_,_,r,(.nil _ _ _),(.nil _ _ _),(.nil _ _ _),hd⟩))))))))))
 refine .skipS [8,6,5,4,3] r r (.sr (.loadW ia32 sz32 r (.s (.s .z)) r r r ?_))
 have b8:=W_ref07_Sure (I:=I) R6 R9 R12 hd
 refine .call call202 r b8 r r fun i1 d5 j b9=>?_
 obtain ⟨i2,i3,i4,i5,i6,i7,i8,rfl,k,l,m,hd⟩:=b9
 replace R3:=R3.mono j
 replace R6:=R6.mono j
 replace R9:=R9.mono j
 replace R12:=R12.mono j
 replace R15:=R15.mono j
 replace R18:=R18.mono j
 replace R21:=R21.mono j
 refine .storeA sz32 r r (.s (.s .z)) (.t (.t (.t (.t (.t .nil))))) r r (.nilS [8,6,5,4,3] r r (.sr (.loadW ia49 sz49 r (.s (.s (.s .z))) r r r (.loadW ia42 sz42 r (.s .z) r r r ?_))))
 have O:=W_ref21_Sure (I:=d5) R3 R15 R18 R21 hd
 refine .call call72 r O r r fun d6 J h P=>?_
 obtain ⟨d7,d8,d9,e0,e1,e3,e4,rfl,c0,c1,c3,hd⟩:=P
 have p:=IH.le.trans j h
 replace R3:=R3.mono h
 replace R15:=R15.mono h
 replace R18:=R18.mono h
 replace R21:=R21.mono h
 replace k:=k.mono h
 replace l:=l.mono h
 replace m:=m.mono h
 refine .allocA zv42 r r fun e5=>?_
 refine .storeA sz42 r r .z (.t (.t (.t (.t (.t .nil))))) r r (.nilS [11,8,6,5,4,3] r r (.seq (.sr (.fa un32 r sz3 r (o:=0) r r r (.load1 ia3 r (.s (.s (.s .z))) r r r (.fa un49 r sz3 r (o:=1) r r r (.load1 ia3 r (.s (.s (.s (.s .z)))) r r r (.ks 2 r ?_))))))))
 refine splitP hd (fun x hd=>?_) fun x hd=>?_
 · rw [x]
   refine .ks 24 r (.nilS [56,8,6,5,4,3] r r (.drop .z (.condKT r r (.sr (.build zv42 un42 BI42 .n (by exact trivial) r r (.storeA sz42 r r .z (.t (.t (.t (.t (.t .nil))))) r r (.ks 1 r (.nilS [9,8] r r (.drop (.s .z) ?_)))))))))
   exact .drop (.s .z) (.drop (.s .z) (.ret (pret results133 (.w ia42 sz42 r .z r (.t r .n)) p ⟨(({ Low:=0,High:=0,A:=([]:List Int),B:=([]:List Int),On:=([]:List Int) }:State),4),_,_,_,_,_,_,r,(.nil _ _ _),(.nil _ _ _),(.nil _ _ _),hd⟩)))
 rw [x]
 refine .gyes r r r (.fa un32 r sz3 r (o:=1) r r r (.gyes r r r (.load1 ia3 r (.s (.s (.s .z))) r r r (.gyes r r r (.fa un49 r sz3 r (o:=1) r r r (.gyes r r r (.load1 ia3 r (.s (.s (.s (.s .z)))) r r r (.ks 3 r ?_))))))))
 refine splitP hd (fun y hd=>?_) fun y hd=>?_
 · rw [y]
   refine .ks 17 r (.nilS [56,8,6,5,4,3] r r (.drop .z (.condKT r r (.sr (.build zv42 un42 BI42 .n (by exact trivial) r r (.storeA sz42 r r .z (.t (.t (.t (.t (.t .nil))))) r r (.ks 1 r (.nilS [9,8] r r (.drop (.s .z) ?_)))))))))
   exact .drop (.s .z) (.drop (.s .z) (.ret (pret results133 (.w ia42 sz42 r .z r (.t r .n)) p ⟨(({ Low:=0,High:=0,A:=([]:List Int),B:=([]:List Int),On:=([]:List Int) }:State),4),_,_,_,_,_,_,r,(.nil _ _ _),(.nil _ _ _),(.nil _ _ _),hd⟩)))
 rw [y]
 refine .gyes r r r (.loadW ia42 sz42 r .z r r r (.gyes r r r (.loadW ia42 sz42 r (.s (.s .z)) r r r ?_)))
 have R:=W_ref21_Same (I:=J) c0 c1 c3 R15 R18 R21 hd
 refine .gyes r r r (.callP call36 r R r r fun e6 S=>?_)
 obtain ⟨e7,rfl,hd⟩:=S
 refine .ks 3 r ?_
 refine splitP hd (fun C hd=>?_) fun C hd=>?_
 · rw [C]
   refine .ks 11 r (.nilS [56,8,6,5,4,3] r r (.drop .z (.condKT r r (.sr (.build zv42 un42 BI42 .n (by exact trivial) r r (.storeA sz42 r r .z (.t (.t (.t (.t (.t .nil))))) r r (.ks 1 r (.nilS [9,8] r r (.drop (.s .z) ?_)))))))))
   exact .drop (.s .z) (.drop (.s .z) (.ret (pret results133 (.w ia42 sz42 r .z r (.t r .n)) p ⟨(({ Low:=0,High:=0,A:=([]:List Int),B:=([]:List Int),On:=([]:List Int) }:State),4),_,_,_,_,_,_,r,(.nil _ _ _),(.nil _ _ _),(.nil _ _ _),hd⟩)))
 rw [C]
 refine .gyes r r r (.fa un42 r sz3 r (o:=0) r r r (.gyes r r r (.load1 ia3 r (.s (.s .z)) r r r (.ks 3 r ?_))))
 refine splitP hd (fun D hd=>?_) fun D hd=>?_
 · rw [D]
   refine .ks 6 r (.nilS [56,8,6,5,4,3] r r (.drop .z (.condKT r r (.sr (.build zv42 un42 BI42 .n (by exact trivial) r r (.storeA sz42 r r .z (.t (.t (.t (.t (.t .nil))))) r r (.ks 1 r (.nilS [9,8] r r (.drop (.s .z) ?_)))))))))
   exact .drop (.s .z) (.drop (.s .z) (.ret (pret results133 (.w ia42 sz42 r .z r (.t r .n)) p ⟨(({ Low:=0,High:=0,A:=([]:List Int),B:=([]:List Int),On:=([]:List Int) }:State),4),_,_,_,_,_,_,r,(.nil _ _ _),(.nil _ _ _),(.nil _ _ _),hd⟩)))
 rw [D]
 refine .gyes r r r (.fa un42 r sz3 r (o:=1) r r r (.gyes r r r (.load1 ia3 r (.s (.s .z)) r r r (.gyes r r r (.fa un49 r sz3 r (o:=1) r r r (.gyes r r r (.load1 ia3 r (.s (.s (.s (.s .z)))) r r r (.ks 2 r (.nilS [56,8,6,5,4,3] r r (.drop .z (.condP r hd (fun T hd=>?_) fun T hd=>?_)))))))))))
 · exact .sr (.build zv42 un42 BI42 .n (by exact trivial) r r (.storeA sz42 r r .z (.t (.t (.t (.t (.t .nil))))) r r (.ks 1 r (.nilS [9,8] r r (.drop (.s .z) (.drop (.s .z) (.drop (.s .z) (.ret (pret results133 (.w ia42 sz42 r .z r (.t r .n)) p ⟨(({ Low:=0,High:=0,A:=([]:List Int),B:=([]:List Int),On:=([]:List Int) }:State),4),_,_,_,_,_,_,r,(.nil _ _ _),(.nil _ _ _),(.nil _ _ _),hd⟩)))))))))
 refine .skipS [8,6,5,4,3] r r (.sr (.loadW ia49 sz49 r (.s (.s (.s .z))) r r r (.loadW ia42 sz42 r (.s .z) r r r (.ks 1 r ?_))))
 have U:=W_ref21_Asked (I:=J) R3 R15 R18 R21 hd
 refine .call call203 r U r r fun e8 K i V=>?_
 obtain ⟨e9,f0,f1,rfl,u,hd⟩:=V
 have W:=IH.le.trans p i
 replace R3:=R3.mono i
 replace R15:=R15.mono i
 replace R18:=R18.mono i
 replace R21:=R21.mono i
 replace k:=k.mono i
 replace l:=l.mono i
 replace m:=m.mono i
 refine .ks 5 r (.nilS [13,12,8,6,5,4,3] r r (.seq (.dr [0,1,2,4,5,6,7,10,11,16,3,8,9,12,13,14,15,999,17] 18 (.g r r r (fun _=>.fa un49 r sz47 r (o:=0) r r r .mk) (.g r r r (fun _=>.load1 ia47 r (.s (.s (.s .z))) r r r .mk) (.fk 1 r (.g r r r (fun _=>.loadW ia32 sz32 r (.s (.s .z)) r r r .mk) (.g r r r (fun _=>.loadW ia49 sz49 r (.s (.s (.s .z))) r r r .mk) (.g r r r (fun _=>.loadW ia42 sz42 r (.s .z) r r r .mk) ?_)))))))))
 refine .fk 3 r (.a (fun b=>.pointer (some ⟨b,0,none⟩)) (fun b=>pto b (.cells #[.int .i64 0,.slice none 0 0] 54 (0,0))) r r r r (fun _ L hL ex=>.allocA zv54 r r fun b=>.mk (val:=fun b=>.pointer (some ⟨b,0,none⟩)) (atom:=fun b=>pto b (.cells #[.int .i64 0,.slice none 0 0] 54 (0,0))) hL b) (.ww r fun ex=>?_))
 have X:=W_ref21_Ring (I:=K) hd
 refine .callP call73 r X r r fun f2 Y=>?_
 obtain ⟨f3,rfl,hd⟩:=Y
 refine .so 4 r r r (.ck 3 r r (.cg r r r r (fun _=>.loadW ia42 sz42 r (.s .z) r r r .mk) (.cg r r r r (fun _=>.loadW ia49 sz49 r (.s (.s (.s .z))) r r r .mk) (.cg r r r r (fun _=>.loadW ia32 sz32 r (.s (.s .z)) r r r .mk) trivial)))) (.ww r fun ex=>?_)
 have Z:=W_ref21_Out (I:=K) R3 R15 R18 R21 hd
 refine .call call74 r Z r r fun f4 c4 f a4=>?_
 obtain ⟨f5,f6,f7,rfl,v,hd⟩:=a4
 have a5:=IH.le.trans W f
 replace R3:=R3.mono f
 replace R15:=R15.mono f
 replace R18:=R18.mono f
 replace R21:=R21.mono f
 replace k:=k.mono f
 replace l:=l.mono f
 replace m:=m.mono f
 replace u:=u.mono f
 refine .so 4 r r r (.ck 2 r r (.cg r r r r (fun _=>.loadW ia32 sz32 r (.s (.s .z)) r r r .mk) trivial)) (.ww r fun ex=>?_)
 have a6:=W_ref10_Of (I:=c4) v hd
 refine .call call22 r a6 r r fun f8 c6 e a7=>?_
 obtain ⟨f9,g0,g1,g2,g3,rfl,E,F,hd⟩:=a7
 have a8:=IH.le.trans a5 e
 replace R3:=R3.mono e
 replace R15:=R15.mono e
 replace R18:=R18.mono e
 replace R21:=R21.mono e
 replace k:=k.mono e
 replace l:=l.mono e
 replace m:=m.mono e
 replace u:=u.mono e
 replace v:=v.mono e
 refine .so 4 r r r (.ck 2 r r (.cg r r r r (fun _=>.loadW ia32 sz32 r (.s (.s .z)) r r r .mk) trivial)) (.ww r fun ex=>?_)
 have a9:=W_ref13_Times (I:=c6) k l m E F u hd
 refine .call call204 r a9 r r fun g4 c7 d b0=>?_
 obtain ⟨c9,g5,g6,rfl,G,hd⟩:=b0
 have H:=IH.le.trans a8 d
 replace R3:=R3.mono d
 replace R15:=R15.mono d
 replace R18:=R18.mono d
 replace R21:=R21.mono d
 replace k:=k.mono d
 replace l:=l.mono d
 replace m:=m.mono d
 replace u:=u.mono d
 replace v:=v.mono d
 replace E:=E.mono d
 replace F:=F.mono d
 refine .so 4 r r r trivial (.fk 3 r (.b r fun g7=>DrawD.nop (.ww r fun ex=>?_)))
 refine .storeA sz54 r r (.s (.s (.s (.s .z)))) (.t (.t .nil)) r r (.sn 5 r r r (.ck 1 r r trivial) (.e2 18 (.ks 1 r (.nilS [15,14,8,6,4,3] r r (.drop (.s (.s .z)) (.seq (.sr (.ks 2 r (.nilS [82,15,14,8,6,4,3] r r ?_)))))))))
 refine .condP r hd (fun b1 hd=>?_) fun b1 hd=>?_
 · exact .sr (.build zv42 un42 BI42 .n (by exact trivial) r r (.ks 1 r (.storeA sz42 r r .z (.t (.t (.t (.t (.t .nil))))) r r (.ks 1 r (.nilS [9,8] r r (.drop (.s .z) (.drop (.s .z) (.drop (.s .z) (.ret (pret results133 (.w ia42 sz42 r .z r (.t r .n)) H ⟨(({ Low:=0,High:=0,A:=([]:List Int),B:=([]:List Int),On:=([]:List Int) }:State),c9.2),_,_,_,_,_,_,r,(.nil _ _ _),(.nil _ _ _),(.nil _ _ _),hd⟩))))))))))
 refine .skipS [14,8,6,4,3] r r (.sr (.loadW ia49 sz49 r (.s (.s .z)) r r r (.loadW ia42 sz42 r (.s .z) r r r (.ks 1 r (.loadW ia54 sz54 r (.s (.s (.s .z))) r r r ?_)))))
 have b2:=W_ref21_Update (I:=c7) R3 R15 R18 R21 G hd
 refine .call call205 r b2 r r fun g8 g9 q b3=>?_
 obtain ⟨d0,h0,h1,h2,h3,h4,h5,rfl,d1,d2,d3,hd⟩:=b3
 have b4:=IH.le.trans H q
 replace R3:=R3.mono q
 replace R15:=R15.mono q
 replace R18:=R18.mono q
 replace R21:=R21.mono q
 replace G:=G.mono q
 exact .storeA sz42 r r .z (.t (.t (.t (.t (.t .nil))))) r r (.ks 1 r (.nilS [9,8] r r (.drop (.s .z) (.drop (.s .z) (.drop (.s .z) (.ret (pret results133 (.w ia42 sz42 r .z r (.t r .n)) b4 ⟨(d0,0),_,_,_,_,_,_,r,d1,d2,d3,hd⟩)))))))
theorem W_ref22_all {I:IH} {a0:Plan} {a1:Graph} {a2:Int} {p1:Option Addr} {c2:Nat} {p4:Option Addr} {c5:Nat} {Q:((List State)×Int)→Prop} (R3:RepSl eI64 I p1 c2 a0.Draws) (R6:RepSl eEdge I p4 c5 a1.Edges) (hd:ref22_all a0 a1 a2 Q) :
  PFun prog 68 [.agg #[.int .i64 a0.Kind,.int .i64 a0.N,.int .i64 a0.Source,.int .i64 a0.Length,.slice p1 a0.Draws.length c2],.agg #[.int .i64 a1.N,.slice p4 a1.Edges.length c5],.int .i64 a2] I (o33_ Q):=by
 refine Fun.enter func68 r ntmps68 r (.c (.c (.c .n))) fun w0 M=>?_
 refine .sr (.boxA r r r fun b3=>?_)
 refine .boxA r r r fun f9=>?_
 refine .ks 2 r (.nilS [4,3,2] r r (.sr (.loadW ia49 sz49 r (.s .z) r r r (.loadW ia24 sz24 r .z r r r ?_))))
 have c0:=W_ref21_Matrix (I:=I) R3 R6 hd
 refine .call call42 r c0 r r fun g0 d2 C c1=>?_
 obtain ⟨y,d3,d4,d5,d6,d7,d8,rfl,f,g,h,hd⟩:=c1
 replace R3:=R3.mono C
 replace R6:=R6.mono C
 refine .ks 3 r (.allocA zv32 r r fun b4=>?_)
 refine .storeA sz32 r r .z (.t (.t (.t (.t (.t .nil))))) r r (.ks 1 r (.nilS [8,3,2] r r (.drop (.s .z) (.sr (.loadW ia49 sz49 r (.s .z) r r r (.fa un49 r sz3 r (o:=1) r r r (.load1 ia3 r (.s .z) r r r ?_)))))))
 have c3:=W_ref21_Begin (I:=d2) R3 hd
 refine .call call44 r c3 r r fun g1 b5 i c4=>?_
 obtain ⟨d9,g2,g3,g4,g5,g6,g7,rfl,b6,b7,b8,hd⟩:=c4
 have c6:=IH.le.trans C i
 replace R3:=R3.mono i
 replace f:=f.mono i
 replace g:=g.mono i
 replace h:=h.mono i
 refine .allocA zv42 r r fun b9=>?_
 refine .storeA sz42 r r .z (.t (.t (.t (.t (.t .nil))))) r r (.nilS [10,8,3,2] r r (.sr (.loadW ia42 sz42 r .z r r r (.buildSlice 1 un71 sz42 zv42 r r (.c r r r .n) r r fun g8=>?_))))
 refine .ownB (El:=eState) (ys:=([d9]:List State)) .z (.one ⟨_,_,_,_,_,_,r,b6,b7,b8⟩) r (.ks 1 r (.nilS [11,10,8,3,2] r r (.sr (.ks 1 r (.nilS [12,11,10,8,3,2] r r (.block (.loop hd (fun (s:Int×Int×(List Int)×(List Int)×(List Int)×(List State)×Int) c w=>match s with | (m,p,j,k,l,d,D)=>∃ I_ E F G H J K L O,IH.le b5 I_∧RepSl eI64 I_ E F j∧RepSl eI64 I_ G H k∧RepSl eU64 I_ J K l∧Ok ⟨56,[],none⟩ [(2,.int .i64 a2),(3,.pointer (some ⟨b3,0,none⟩)),(8,.pointer (some ⟨b4,0,none⟩)),(10,.pointer (some ⟨b9,0,none⟩)),(11,.slice L d.length O),(12,.int .i64 D)] c∧Sym w0 M I I_ [pto b3 (.cells #[.int .i64 a0.Kind,.int .i64 a0.N,.int .i64 a0.Source,.int .i64 a0.Length,.slice p1 a0.Draws.length c2] 49 (0,0)),pto b4 (.cells #[.int .i64 y.1.Rows,.int .i64 y.1.Cols,.slice d3 y.1.Start.length d4,.slice d5 y.1.Col.length d6,.slice d7 y.1.Val.length d8] 32 (0,0)),pto b9 (.cells #[.int .i64 m,.int .i64 p,.slice E j.length F,.slice G k.length H,.slice J l.length K] 42 (0,0)),OwnSl eState 42 L O d] w) (fun c w ho hs=>⟨b5,_,_,_,_,_,_,_,_,(.refl _),b6,b7,b8,ho.sub ⟨r,r,r,r,r,r,trivial⟩,hs.pick (.c (.s (.s (.s .z))) (.c (.s (.s .z)) (.c (.s .z) (.c .z .n))))⟩) ?_)))))))
 rintro ⟨m,p,j,k,l,d,D⟩ d1 hd c w hst
 obtain ⟨U,E,F,G,H,J,K,L,O,b,q,u,v,hok,hsym⟩:=hst
 have x:=IH.le.trans c6 b
 replace R3:=R3.mono b
 replace f:=f.mono b
 replace g:=g.mono b
 replace h:=h.mono b
 refine Cod.at hok hsym (.seq (.block (.seq (.sr (.loadW ia49 sz49 r .z r r r (.loadW ia42 sz42 r (.s (.s .z)) r r r (.ks 1 r ?_)))))))
 have Y:=W_ref21_Live (I:=U) (a1:=({ Low:=m,High:=p,A:=j,B:=k,On:=l }:State)) R3 q u v hd
 refine .callP call132 r Y r r fun e3 Z=>?_
 obtain ⟨e4,rfl,hd⟩:=Z
 refine .ks 1 r (.nilS [33,12,11,10,8,3,2] r r (.condP r hd (fun a3 hd=>?_) fun a3 hd=>?_))
 · refine .sr (.ks 3 r (.nilS [7,6] r r (.drop .z (.drop .z (.drop .z (.pub .z fun e5 P c7=>?_))))))
   have a4:=IH.le.trans x P
   have e0:=IH.le.trans b P
   exact .ret (pret results68 (.t r (.t r .n)) a4 ⟨(d,1),_,_,r,c7,hd⟩)
 refine .skipS [12,11,10,8,3,2] r r (.seq (.sr (.ks 3 r (.nilS [37,12,11,10,8,3,2] r r (.condP r hd (fun a5 hd=>?_) fun a5 hd=>?_)))))
 · refine .sr (.ks 3 r (.nilS [7,6] r r (.drop .z (.drop .z (.drop .z (.pub .z fun e6 R c8=>?_))))))
   have a6:=IH.le.trans x R
   have e1:=IH.le.trans b R
   exact .ret (pret results68 (.t r (.t r .n)) a6 ⟨(d,2),_,_,r,c8,hd⟩)
 refine .skipS [12,11,10,8,3,2] r r (.sr (.loadW ia49 sz49 r .z r r r (.loadW ia32 sz32 r (.s .z) r r r (.loadW ia42 sz42 r (.s (.s .z)) r r r (.ks 2 r ?_)))))
 have a7:=W_ref22_Step (I:=U) (a2:=({ Low:=m,High:=p,A:=j,B:=k,On:=l }:State)) R3 f g h q u v hd
 refine .call call133 r a7 r r fun e7 c9 a a8=>?_
 obtain ⟨e,e8,e9,f0,f1,f2,f3,rfl,V,W,X,hd⟩:=a8
 have a9:=IH.le.trans x a
 have S:=IH.le.trans b a
 replace R3:=R3.mono a
 replace f:=f.mono a
 replace g:=g.mono a
 replace h:=h.mono a
 replace q:=q.mono a
 replace u:=u.mono a
 replace v:=v.mono a
 refine .ks 3 r (.allocA zv42 r r fun f4=>?_)
 refine .storeA sz42 r r .z (.t (.t (.t (.t (.t .nil))))) r r (.ks 1 r (.nilS [14,13,12,11,10,8,3,2] r r (.seq (.sr (.ks 2 r (.nilS [49,13,12,11,10,8,3,2] r r (.condP r hd (fun b0 hd=>?_) fun b0 hd=>?_)))))))
 · refine .sr (.ks 3 r (.nilS [7,6] r r (.drop .z (.drop .z (.drop .z (.drop .z (.pub .z fun f5 T d0=>?_)))))))
   have b1:=IH.le.trans a9 T
   have e2:=IH.le.trans S T
   exact .ret (pret results68 (.t r (.t r .n)) b1 ⟨(d,3),_,_,r,d0,hd⟩)
 refine .skipS [13,12,11,10,8,3,2] r r (.sr (.loadW ia42 sz42 r .z r r r (.storeA sz42 r r (.s (.s (.s .z))) (.t (.t (.t (.t (.t .nil))))) r r (.nilS [12,11,10,8,3,2] r r (.drop .z (.region (.ks 1 r (.loadW ia42 sz42 r (.s (.s .z)) r r r (.buildSlice 1 un71 sz42 zv42 r r (.c r r r .n) r r fun f6=>?_)))))))))
 obtain ⟨b2,hd⟩:=hd
 refine .append (ys:=[e.1]) 88 (.s (.s (.s (.s .z)))) un71 un71 IN42 r r r r r r r r r (.box .z (.one ⟨_,_,_,_,_,_,r,V,W,X⟩) r) b2 r r fun f7 f8=>?_
 exact .ks 1 r (.nilS [11,12,10,8,3,2] r r (.drop (.s .z) (.region (.ks 3 r (.nil' fun c w ho hs=>⟨(e.1.Low,e.1.High,e.1.A,e.1.B,e.1.On,(d++([e.1])),w64 (D+1)),hd,c9,_,_,_,_,_,_,_,_,S,V,W,X,ho.sub ⟨r,r,r,r,r,r,trivial⟩,hs.pick (.c (.s .z) (.c (.s .z) (.c (.s .z) (.c .z .n))))⟩)))))
theorem W_ref22_Trace {I:IH} {a0:Plan} {a1:Graph} {a2:Int} {p1:Option Addr} {c2:Nat} {p4:Option Addr} {c5:Nat} {Q:((List State)×Int)→Prop} (R3:RepSl eI64 I p1 c2 a0.Draws) (R6:RepSl eEdge I p4 c5 a1.Edges) (hd:ref22_Trace a0 a1 a2 Q) :
  PFun prog 29 [.agg #[.int .i64 a0.Kind,.int .i64 a0.N,.int .i64 a0.Source,.int .i64 a0.Length,.slice p1 a0.Draws.length c2],.agg #[.int .i64 a1.N,.slice p4 a1.Edges.length c5],.int .i64 a2] I (o33_ Q):=by
 refine Fun.enter func29 r ntmps29 r (.c (.c (.c .n))) fun w0 M=>?_
 refine .sr (.boxA r r r fun k=>?_)
 refine .boxA r r r fun l=>?_
 refine .ks 2 r (.nilS [4,3,2] r r (.seq (.sr (.loadW ia49 sz49 r (.s .z) r r r (.loadW ia24 sz24 r .z r r r (.ks 1 r ?_))))))
 have b:=W_ref22_Check (I:=I) R3 R6 hd
 refine .callP call43 r b r r fun m d=>?_
 obtain ⟨h,rfl,hd⟩:=d
 refine .ks 1 r (.nilS [8,4,3,2] r r (.sr (.ks 2 r (.nilS [16,8,4,3,2] r r (.condP r hd (fun e hd=>?_) fun e hd=>?_)))))
 · exact .sr (.ks 3 r (.nilS [7,6] r r (.drop .z (.drop .z (.ret (pret results29 (.t r (.t r .n)) (.refl _) ⟨(([]:List State),h),_,_,r,(.nil _ _ _),hd⟩))))))
 refine .skipS [4,3,2] r r (.sr (.loadW ia49 sz49 r (.s .z) r r r (.loadW ia24 sz24 r .z r r r (.ks 1 r ?_))))
 have f:=W_ref22_all (I:=I) R3 R6 hd
 refine .call call68 r f r r fun o p a g=>?_
 obtain ⟨i,q,u,rfl,j,hd⟩:=g
 replace R3:=R3.mono a
 replace R6:=R6.mono a
 exact .ks 5 r (.nilS [9] r r (.drop .z (.drop .z (.sr (.ks 3 r (.nilS [7,6] r r (.ret (pret results29 (.t r (.t r .n)) a ⟨(i.1,0),_,_,r,j,hd⟩))))))))
theorem W_ref35_Mail {I:IH} {a0:Plan} {a1:List Edge} {a2:State} {a3:Int} {p1:Option Addr} {c2:Nat} {p4:Option Addr} {c5:Nat} {p7:Option Addr} {c8:Nat} {p10:Option Addr} {c11:Nat} {p13:Option Addr} {c14:Nat} {Q:((List (List Wide))×Int)→Prop} (R3:RepSl eI64 I p1 c2 a0.Draws) (R6:RepSl eEdge I p4 c5 a1) (R9:RepSl eI64 I p7 c8 a2.A) (R12:RepSl eI64 I p10 c11 a2.B) (R15:RepSl eU64 I p13 c14 a2.On) (hd:ref35_Mail a0 a1 a2 a3 Q) :
  PFun prog 31 [.agg #[.int .i64 a0.Kind,.int .i64 a0.N,.int .i64 a0.Source,.int .i64 a0.Length,.slice p1 a0.Draws.length c2],.slice p4 a1.length c5,.agg #[.int .i64 a2.Low,.int .i64 a2.High,.slice p7 a2.A.length c8,.slice p10 a2.B.length c11,.slice p13 a2.On.length c14],.int .i64 a3] I (o26_ Q):=by
 refine Fun.enter func31 r ntmps31 r (.c (.c (.c (.c .n)))) fun w0 M=>?_
 refine .sr (.boxA r r r fun f8=>?_)
 refine .boxA r r r fun f9=>?_
 refine .ks 2 r (.nilS [6,4,3,1] r r (.seq (.sr (.loadW ia49 sz49 r (.s .z) r r r ?_))))
 have g0:=W_ref21_Right (I:=I) R3 hd
 refine .callP call71 r g0 r r fun m9 g1=>?_
 obtain ⟨i4,rfl,hd⟩:=g1
 refine .ks 1 r (.nilS [10,6,4,3,1] r r (.sr (.ks 2 r (.nilS [21,10,6,4,3,1] r r (.condP r hd (fun g2 hd=>?_) fun g2 hd=>?_)))))
 · exact .sr (.ks 3 r (.nilS [9,8] r r (.drop .z (.drop .z (.ret (pret results31 (.t r (.t r .n)) (.refl _) ⟨(([]:List (List Wide)),i4),_,_,r,(.nil _ _ _),hd⟩))))))
 refine .skipS [6,4,3,1] r r (.seq (.seq (.dr [0,1,3,2,4,5,6,7,8,9,10,11,12,13,14,15,16,17] 18 (.g r r r (fun _=>.loadW ia49 sz49 r (.s .z) r r r .mk) (.g r r r (fun _=>.loadW ia42 sz42 r .z r r r .mk) (.g r r r (fun _=>.loadW ia42 sz42 r .z r r r .mk) (.ww r fun ex=>?_)))))))
 have g3:=W_ref21_Sure (I:=I) R3 R9 R12 R15 hd
 refine .call call72 r g3 r r fun n0 b0 d g4=>?_
 obtain ⟨n1,n2,n3,n4,n5,n6,n7,rfl,i5,i6,i7,hd⟩:=g4
 replace R3:=R3.mono d
 replace R6:=R6.mono d
 replace R9:=R9.mono d
 replace R12:=R12.mono d
 replace R15:=R15.mono d
 refine .so 2 r r r (.cg r r r r (fun _=>.loadW ia42 sz42 r .z r r r .mk) trivial) (.ww r fun ex=>?_)
 have g5:=W_ref21_Same (I:=b0) i5 i6 i7 R9 R12 R15 hd
 refine .callP call36 r g5 r r fun n8 g6=>?_
 obtain ⟨n9,rfl,hd⟩:=g6
 refine .so 2 r r r trivial (.fk 2 r ?_)
 refine splitP hd (fun T hd=>?_) fun T hd=>?_
 · rw [T]
   exact .fk 11 r (.e2 18 (.nilS [40,6,4,3,1] r r (.condKT r r (.sr (.ks 2 r (.nilS [9,8] r r (.drop .z (.drop .z (.ret (pret results31 (.t r (.t r .n)) d ⟨(([]:List (List Wide)),4),_,_,r,(.nil _ _ _),hd⟩))))))))))
 rw [T]
 refine .g r r r (fun _=>.gyes r r r (.fa un42 r sz3 r (o:=0) r r r .mk)) (.g r r r (fun _=>.gyes r r r (.load1 ia3 r .z r r r .mk)) (.fk 3 r ?_))
 refine splitP hd (fun U hd=>?_) fun U hd=>?_
 · rw [U]
   exact .fk 6 r (.e2 18 (.nilS [40,6,4,3,1] r r (.condKT r r (.sr (.ks 2 r (.nilS [9,8] r r (.drop .z (.drop .z (.ret (pret results31 (.t r (.t r .n)) d ⟨(([]:List (List Wide)),4),_,_,r,(.nil _ _ _),hd⟩))))))))))
 rw [U]
 refine .g r r r (fun _=>.gyes r r r (.fa un42 r sz3 r (o:=1) r r r .mk)) (.g r r r (fun _=>.gyes r r r (.load1 ia3 r .z r r r .mk)) (.g r r r (fun _=>.gyes r r r (.fa un49 r sz3 r (o:=1) r r r .mk)) (.g r r r (fun _=>.gyes r r r (.load1 ia3 r (.s .z) r r r .mk)) (.fk 2 r (.e2 18 (.nilS [40,6,4,3,1] r r (.condP r hd (fun g7 hd=>?_) fun g7 hd=>?_)))))))
 · exact .sr (.ks 2 r (.nilS [9,8] r r (.drop .z (.drop .z (.ret (pret results31 (.t r (.t r .n)) d ⟨(([]:List (List Wide)),4),_,_,r,(.nil _ _ _),hd⟩))))))
 refine .skipS [6,4,3,1] r r (.seq (.sr (.ks 1 r (.nilS [11,6,4,3,1] r r (.block (.loop hd (fun (m:Int) c w=>∃ I_,IH.le b0 I_∧Ok ⟨135,[],none⟩ [(1,.slice p4 a1.length c5),(3,.int .i64 a3),(4,.pointer (some ⟨f8,0,none⟩)),(6,.pointer (some ⟨f9,0,none⟩)),(11,.int .i64 m)] c∧Sym w0 M I I_ [pto f8 (.cells #[.int .i64 a0.Kind,.int .i64 a0.N,.int .i64 a0.Source,.int .i64 a0.Length,.slice p1 a0.Draws.length c2] 49 (0,0)),pto f9 (.cells #[.int .i64 a2.Low,.int .i64 a2.High,.slice p7 a2.A.length c8,.slice p10 a2.B.length c11,.slice p13 a2.On.length c14] 42 (0,0))] w) (fun c w ho hs=>⟨b0,(.refl _),ho.sub ⟨r,r,r,r,r,trivial⟩,hs.pick (.c (.s .z) (.c .z .n))⟩) ?_))))))
 rintro m i2 hd c w hst
 obtain ⟨V,b,hok,hsym⟩:=hst
 have p:=IH.le.trans d b
 replace R3:=R3.mono b
 replace R6:=R6.mono b
 replace R9:=R9.mono b
 replace R12:=R12.mono b
 replace R15:=R15.mono b
 refine Cod.at hok hsym (.seq (.sr (.ks 2 r (.len un22 r r r r (.ks 1 r (.nilS [44,11,6,4,3,1] r r (.condP r hd (fun c3 hd=>?_) fun c3 hd=>?_)))))))
 · refine .skipS [11,6,4,3,1] r r (.seq (.block (.seq (.dr [0,1,2,3,4,5,6,7,8,9,10,11,12,13,14,15,16,17,18,19,20,21,22,23,24,25,26,27,28,29,30,31,32,33] 34 (.fk 2 r ?_)))))
   obtain ⟨b1,k0,a4,hd⟩:=hd
   obtain ⟨k1,o315,j0,g8,c4,c6⟩:=R6.2 _ _ a4
   cases c6
   refine .g r r r (fun _=>.ixa un22 sz27 r g8 r b1 (idx_lt a4 b1) r r .mk) (.g r r r (fun _=>.fa un27 r sz3 r (o:=o315+m.toNat*3) r r r .mk) (.g r r r (fun _=>.ld1 (j:=0) ia3 c4 r r r r r .mk) (.fk 2 r ?_)))
   refine splitP hd (fun F hd=>?_) fun F hd=>?_
   · rw [F]
     exact .fk 27 r (.e2 34 (.nilS [80,11,6,4,3,1] r r (.condKT r r (.sr (.ks 2 r (.nilS [9,8] r r (.drop .z (.drop .z (.ret (pret results31 (.t r (.t r .n)) p ⟨(([]:List (List Wide)),3),_,_,r,(.nil _ _ _),hd⟩))))))))))
   rw [F]
   refine .fk 2 r ?_
   obtain ⟨b2,k2,a5,hd⟩:=hd
   obtain ⟨k3,o325,j1,g9,c7,c9⟩:=R6.2 _ _ a5
   cases c9
   refine .g r r r (fun _=>.gyes r r r (.ixa un22 sz27 r g9 r b2 (idx_lt a5 b2) r r .mk)) (.g r r r (fun _=>.gyes r r r (.fa un27 r sz3 r (o:=o325+m.toNat*3) r r r .mk)) (.g r r r (fun _=>.gyes r r r (.ld1 (j:=0) ia3 c7 r r r r r .mk)) (.g r r r (fun _=>.gyes r r r (.fa un49 r sz3 r (o:=1) r r r .mk)) (.g r r r (fun _=>.gyes r r r (.load1 ia3 r .z r r r .mk)) (.fk 3 r ?_)))))
   refine splitP hd (fun G hd=>?_) fun G hd=>?_
   · rw [G]
     exact .fk 17 r (.e2 34 (.nilS [80,11,6,4,3,1] r r (.condKT r r (.sr (.ks 2 r (.nilS [9,8] r r (.drop .z (.drop .z (.ret (pret results31 (.t r (.t r .n)) p ⟨(([]:List (List Wide)),3),_,_,r,(.nil _ _ _),hd⟩))))))))))
   rw [G]
   refine .fk 2 r ?_
   obtain ⟨b3,k4,a6,hd⟩:=hd
   obtain ⟨k5,o335,j2,h0,d0,d1⟩:=R6.2 _ _ a6
   cases d1
   refine .g r r r (fun _=>.gyes r r r (.ixa un22 sz27 r h0 r b3 (idx_lt a6 b3) r r .mk)) (.g r r r (fun _=>.gyes r r r (.fa un27 r sz3 r (o:=o335+m.toNat*3+1) r r r .mk)) (.g r r r (fun _=>.gyes r r r (.ld1 (j:=1) ia3 d0 r r r r r .mk)) (.fk 3 r ?_)))
   refine splitP hd (fun H hd=>?_) fun H hd=>?_
   · rw [H]
     exact .fk 9 r (.e2 34 (.nilS [80,11,6,4,3,1] r r (.condKT r r (.sr (.ks 2 r (.nilS [9,8] r r (.drop .z (.drop .z (.ret (pret results31 (.t r (.t r .n)) p ⟨(([]:List (List Wide)),3),_,_,r,(.nil _ _ _),hd⟩))))))))))
   rw [H]
   refine .fk 2 r ?_
   obtain ⟨b4,k6,a7,hd⟩:=hd
   obtain ⟨k7,o345,j3,h1,d2,d3⟩:=R6.2 _ _ a7
   cases d3
   refine .g r r r (fun _=>.gyes r r r (.ixa un22 sz27 r h1 r b4 (idx_lt a7 b4) r r .mk)) (.g r r r (fun _=>.gyes r r r (.fa un27 r sz3 r (o:=o345+m.toNat*3+1) r r r .mk)) (.g r r r (fun _=>.gyes r r r (.ld1 (j:=1) ia3 d2 r r r r r .mk)) (.g r r r (fun _=>.gyes r r r (.fa un49 r sz3 r (o:=1) r r r .mk)) (.g r r r (fun _=>.gyes r r r (.load1 ia3 r .z r r r .mk)) (.fk 2 r (.e2 34 (.nilS [80,11,6,4,3,1] r r (.condP r hd (fun d4 hd=>?_) fun d4 hd=>?_))))))))
   · exact .sr (.ks 2 r (.nilS [9,8] r r (.drop .z (.drop .z (.ret (pret results31 (.t r (.t r .n)) p ⟨(([]:List (List Wide)),3),_,_,r,(.nil _ _ _),hd⟩))))))
   exact .skipS [11,6,4,3,1] r r (.region (.ks 3 r (.nil' fun c w ho hs=>⟨(w64 (m+1)),hd,V,b,ho.sub ⟨r,r,r,r,r,trivial⟩,hs.pick (.c .z (.c .z .n))⟩)))
 refine .exitS [6,4,3,1] r r (.sr (.fa un49 r sz47 r (o:=0) r r r (.load1 ia47 r .z r r r (.ks 1 r ?_))))
 have d5:=W_ref21_Ring (I:=V) hd
 refine .callP call73 r d5 r r fun k8 d6=>?_
 obtain ⟨h2,rfl,hd⟩:=d6
 refine .ks 1 r (.nilS [12,6,4,3,1] r r (.sr (.loadW ia49 sz49 r .z r r r (.loadW ia42 sz42 r (.s .z) r r r (.ks 1 r ?_)))))
 have d7:=W_ref21_Out (I:=V) R3 R9 R12 R15 hd
 refine .call call74 r d7 r r fun k9 b5 e d8=>?_
 obtain ⟨b6,h3,h4,rfl,W,hd⟩:=d8
 have d9:=IH.le.trans p e
 have e0:=IH.le.trans b e
 replace R3:=R3.mono e
 replace R6:=R6.mono e
 replace R9:=R9.mono e
 replace R12:=R12.mono e
 replace R15:=R15.mono e
 refine .allocA zv54 r r fun b7=>?_
 refine .storeA sz54 r r .z (.t (.t .nil)) r r (.nilS [13,12,4,1] r r (.drop (.s (.s .z)) (.sr (.fa un49 r sz3 r (o:=1) r r r (.load1 ia3 r (.s .z) r r r ?_)))))
 obtain ⟨h5,h6,hd⟩:=hd
 refine .make (El:=hdEl) (zv:=(none,0,0)) 24 un74 IN78 r r r r r r h5 h6 r r r fun h7=>?_
 refine .toNest eWide 127 .z (.sub (E':=[(1,_),(4,_),(12,_),(13,_),(89,_),(90,_),(91,.slice (some ⟨h7,0,none⟩) (List.replicate a0.N.toNat ([]:List Wide)).length a0.N.toNat)]) ⟨r,r,r,r,r,r,(by simp only [List.length_replicate]; rfl),trivial⟩ (.ks 1 r (.nilS [14,13,12,1] r r (.drop (.s (.s .z)) (.seq (.sr (.ks 1 r (.nilS [15,14,13,12,1] r r (.block ?_)))))))))
 refine .loop hd (fun (s:(List (List Wide))×Int) c w=>match s with | (f,a)=>∃ I_ X v,IH.le b5 I_∧Ok ⟨135,[],none⟩ [(1,.slice p4 a1.length c5),(12,.int .i64 h2),(13,.pointer (some ⟨b7,0,none⟩)),(14,.slice X f.length v),(15,.int .i64 a)] c∧Sym w0 M I I_ [pto b7 (.cells #[.int .i64 b6.N,.slice h3 b6.Items.length h4] 54 (0,0)),OwnNest eWide 127 78 X v f] w) (fun c w ho hs=>⟨b5,_,_,(.refl _),ho.sub ⟨r,r,r,r,r,trivial⟩,hs.pick (.c (.s .z) (.c .z .n))⟩) ?_
 rintro ⟨f,a⟩ i3 hd c w hst
 obtain ⟨J,X,v,h,hok,hsym⟩:=hst
 have e1:=IH.le.trans d9 h
 have e3:=IH.le.trans e0 h
 replace R6:=R6.mono h
 replace W:=W.mono h
 refine Cod.at hok hsym (.seq (.sr (.ks 2 r (.len un22 r r r r (.ks 1 r (.nilS [95,15,14,13,12,1] r r (.condP r hd (fun e4 hd=>?_) fun e4 hd=>?_)))))))
 · refine .skipS [15,14,13,12,1] r r (.seq (.block (.seq (.dr [0,1,2,3,4,5,6,7,8,9,10] 11 (.g r r r (fun _=>.loadW ia54 sz54 r .z r r r .mk) (.fk 2 r ?_))))))
   obtain ⟨b8,l0,a8,hd⟩:=hd
   obtain ⟨l1,o608,j4,h8,e5,e6⟩:=R6.2 _ _ a8
   cases e6
   refine .g r r r (fun _=>.ixa un22 sz27 r h8 r b8 (idx_lt a8 b8) r r .mk) (.g r r r (fun _=>.fa un27 r sz3 r (o:=o608+a.toNat*3) r r r .mk) (.g r r r (fun _=>.ld1 (j:=0) ia3 e5 r r r r r .mk) (.ww r fun ex=>?_)))
   have e7:=W_ref09_Get (I:=J) W hd
   refine .callP call23 r e7 r r fun l2 e8=>?_
   obtain ⟨l3,rfl,hd⟩:=e8
   refine .so 2 r r r trivial (.fk 4 r (.e2 11 (.ks 1 r (.nilS [17,16,15,14,13,12,1] r r (.sr (.ks 1 r (.nilS [108,16,15,14,13,12,1] r r (.condP r hd (fun e9 hd=>?_) fun e9 hd=>?_))))))))
   · refine .nestN (.s .z) fun b9=>?_
     refine .nestX (.s .z) fun i8 E=>?_
     refine .dr [0,1,2,3,4,5,6,7,8,9,10,11,12,13,14,15,16,17,18,19,20,21,22,23] 24 (.fk 3 r ?_)
     obtain ⟨i,K,k,hd⟩:=hd
     obtain ⟨l4,o626,j5,L,C,f0⟩:=R6.2 _ _ k
     cases f0
     refine .g r r r (fun _=>.ixa un22 sz27 r L r i (idx_lt k i) r r .mk) (.g r r r (fun _=>.fa un27 r sz3 r (o:=o626+a.toNat*3+1) r r r .mk) (.g r r r (fun _=>.ld1 (j:=1) ia3 C r r r r r .mk) (.fk 3 r ?_)))
     obtain ⟨x,l5,q,hd⟩:=hd
     obtain ⟨l6,o635,j6,Y,O,f1⟩:=R6.2 _ _ q
     cases f1
     refine .g r r r (fun _=>.ixa un22 sz27 r Y r x (idx_lt q x) r r .mk) (.g r r r (fun _=>.fa un27 r sz3 r (o:=o635+a.toNat*3+1) r r r .mk) (.g r r r (fun _=>.ld1 (j:=1) ia3 O r r r r r .mk) ?_))
     obtain ⟨y,P,l,hd⟩:=hd
     obtain ⟨Z,h9⟩:=b9 (idx_ne l)
     cases h9
     obtain ⟨l7,l8,u⟩:=E.2 _ _ l
     refine .g r r r (fun _=>.ixa0 un74 sz78 r r y (idx_lt l y) r r .mk) (.g r r r (fun _=>.lo1 (j:=0) isAgg78 .z u r r r r r .mk) (.fk 3 r ?_))
     obtain ⟨c0,l9,a9,hd⟩:=hd
     obtain ⟨m0,o652,j7,i0,f2,f3⟩:=R6.2 _ _ a9
     cases f3
     refine .g r r r (fun _=>.ixa un22 sz27 r i0 r c0 (idx_lt a9 c0) r r .mk) (.g r r r (fun _=>.fa un27 r sz2 r (o:=o652+a.toNat*3+2) r r r .mk) (.g r r r (fun _=>.ld1 (j:=2) ia2 f2 r r r r r .mk) (.fk 1 r (.ww r fun ex=>?_))))
     have f4:=W_ref02_Mul (I:=J) hd
     refine .callP call75 r f4 r r fun m1 f5=>?_
     obtain ⟨D,rfl,hd⟩:=f5
     refine .so 3 r r r (.cg r r r r (fun _=>.lo1 (j:=0) isAgg78 .z u r r r r r .mk) (.cg r r r r (fun _=>.ixa0 un74 sz78 r r y (idx_lt l y) r r .mk) (.cg r r r r (fun _=>.ld1 (j:=1) ia3 O r r r r r .mk) (.cg r r r r (fun _=>.fa un27 r sz3 r (o:=o635+a.toNat*3+1) r r r .mk) (.cg r r r r (fun _=>.ixa un22 sz27 r Y r x (idx_lt q x) r r .mk) (.ck 3 r r (.cg r r r r (fun _=>.ld1 (j:=1) ia3 C r r r r r .mk) (.cg r r r r (fun _=>.fa un27 r sz3 r (o:=o626+a.toNat*3+1) r r r .mk) (.cg r r r r (fun _=>.ixa un22 sz27 r L r i (idx_lt k i) r r .mk) (.ck 3 r r trivial)))))))))) (.ww r fun ex=>?_)
     refine .buildSlice 1 un78 sz127 zv127 r r (.c r r r .n) r r fun m2=>?_
     refine .so 4 r r r (.cg r r r r (fun _=>.lo1 (j:=0) isAgg78 (.s .z) u r r r r r .mk) (.cg r r r r (fun _=>.ixa0 un74 sz78 r r y (idx_lt l y) r r .mk) (.cg r r r r (fun _=>.ld1 (j:=1) ia3 O r r r r r .mk) (.cg r r r r (fun _=>.fa un27 r sz3 r (o:=o635+a.toNat*3+1) r r r .mk) (.cg r r r r (fun _=>.ixa un22 sz27 r Y r x (idx_lt q x) r r .mk) (.ck 3 r r (.cg r r r r (fun _=>.ld1 (j:=1) ia3 C r r r r r .mk) (.cg r r r r (fun _=>.fa un27 r sz3 r (o:=o626+a.toNat*3+1) r r r .mk) (.cg r r r r (fun _=>.ixa un22 sz27 r L r i (idx_lt k i) r r .mk) (.ck 3 r r trivial)))))))))) (.ww r fun ex=>?_)
     refine .nestF (.s (.s .z)) l u ?_
     obtain ⟨f6,hd⟩:=hd
     refine .append (ys:=[D]) 16 .z un78 un78 IN127 r r r r r r r r r (.box (.s (.s .z)) (.one r) r) f6 r r fun m3 m4=>?_
     refine .so 5 r r r (.cg r r r r (fun _=>.ld1 (j:=1) ia3 C r r r r r .mk) (.cg r r r r (fun _=>.fa un27 r sz3 r (o:=o626+a.toNat*3+1) r r r .mk) (.cg r r r r (fun _=>.ixa un22 sz27 r L r i (idx_lt k i) r r .mk) (.ck 3 r r trivial)))) (.e2 24 ?_)
     obtain ⟨c1,m5,R,hd⟩:=hd
     obtain ⟨m6,m7,i9⟩:=E.2 _ _ R
     exact .ixa0 un74 sz78 r r c1 (idx_lt R c1) r r (.nestSt sz78 (.s .z) (by rw [Option.some.inj (q.symm.trans k)]) .z (.s .z) R r r r r (.sub (E':=[(1,_),(12,_),(13,_),(14,.slice (some ⟨Z,0,none⟩) (f.set K.To.toNat (P++([D]))).length v),(15,_),(16,_),(108,_),(109,.slice (some ⟨Z,0,none⟩) (f.set K.To.toNat (P++([D]))).length v),(110,_),(111,_),(112,_),(113,_),(114,_),(115,.slice (some ⟨Z,0,none⟩) (f.set K.To.toNat (P++([D]))).length v),(116,_),(117,_),(118,_),(119,_),(120,_),(121,_),(122,_),(123,_),(124,_),(125,_),(126,_),(127,_),(128,_),(129,_),(130,_),(131,_),(132,_),(133,_)]) ⟨r,r,r,(by simp only [List.length_set]; rfl),r,r,r,(by simp only [List.length_set]; rfl),r,r,r,r,r,(by simp only [List.length_set]; rfl),r,r,r,r,r,r,r,r,r,r,r,r,r,r,r,r,r,r,trivial⟩ (.nilS [15,14,13,12,1] r r (.drop (.s .z) (.region (.ks 3 r (.nil' fun c w ho hs=>⟨((f.set K.To.toNat (P++([D]))),w64 (a+1)),hd,J,_,_,h,ho.sub ⟨r,r,r,r,r,trivial⟩,hs.pick (.c (.s .z) (.c .z .n))⟩)))))))
   exact .skipS [15,14,13,12,1] r r (.region (.ks 3 r (.nil' fun c w ho hs=>⟨(f,w64 (a+1)),hd,J,_,_,h,ho.sub ⟨r,r,r,r,r,trivial⟩,hs.pick (.c .z (.c .z .n))⟩)))
 refine .exitS [14] r r (.drop .z (.sr (.ks 3 r (.nilS [9,8] r r (.pubNest .z fun m8 S i1=>?_)))))
 have f7:=IH.le.trans e1 S
 have j8:=IH.le.trans e3 S
 have j9:=IH.le.trans h S
 exact .ret (pret results31 (.t r (.t r .n)) f7 ⟨(f,0),_,_,r,i1,hd⟩)
theorem W_ref35_SameWide {I:IH} {a0:List Wide} {a1:List Wide} {p1:Option Addr} {c2:Nat} {p4:Option Addr} {c5:Nat} {Q:Bool→Prop} (R3:RepSl eWide I p1 c2 a0) (R6:RepSl eWide I p4 c5 a1) (hd:ref35_SameWide a0 a1 Q) :
  PFun prog 32 [.slice p1 a0.length c2,.slice p4 a1.length c5] I (fun _=>o4_ Q):=by
 refine Fun.enter func32 r ntmps32 r (.c (.c .n)) fun w0 M=>?_
 refine .sr (.ks 1 r (.nilS [1,0] r r (.seq (.sr (.ks 1 r (.len un78 r r r r (.ks 1 r (.len un78 r r r r (.ks 1 r ?_)))))))))
 refine .nilS [10,1,0] r r (.condP r hd (fun p hd=>?_) fun p hd=>?_)
 · exact .sr (.ks 1 r (.nilS [4] r r (.ret (pret results32 (.t r .n) (.refl _) ⟨false,r,hd⟩))))
 refine .skipS [1,0] r r (.seq (.sr (.ks 1 r (.nilS [5,1,0] r r (.block (.loop hd (fun (b:Int) c w=>∃ I_,IH.le I I_∧Ok ⟨26,[],none⟩ [(0,.slice p1 a0.length c2),(1,.slice p4 a1.length c5),(5,.int .i64 b)] c∧Sym w0 M I I_ [] w) (fun c w ho hs=>⟨I,(.refl _),ho.sub ⟨r,r,r,trivial⟩,hs.pick .n⟩) ?_))))))
 rintro b q hd c w hst
 obtain ⟨s,a,hok,hsym⟩:=hst
 replace R3:=R3.mono a
 replace R6:=R6.mono a
 refine Cod.at hok hsym (.seq (.sr (.ks 2 r (.len un78 r r r r (.ks 1 r (.nilS [14,5,1,0] r r (.condP r hd (fun i hd=>?_) fun i hd=>?_)))))))
 · refine .skipS [5,1,0] r r (.seq (.block (.seq (.dr [0,1,2,3,4,5,6,7,8] 9 (.fk 2 r ?_)))))
   obtain ⟨f,u,d,hd⟩:=hd
   obtain ⟨B,o64,z,v,j,k⟩:=R3.2 _ _ d
   cases k
   refine .g r r r (fun _=>.ixa un78 sz127 r v r f (idx_lt d f) r r .mk) (.g r r r (fun _=>.ldW ia127 sz127 j r r r r .mk) (.fk 2 r ?_))
   obtain ⟨h,x,e,hd⟩:=hd
   obtain ⟨C,o73,A,y,l,m⟩:=R6.2 _ _ e
   cases m
   refine .g r r r (fun _=>.ixa un78 sz127 r y r h (idx_lt e h) r r .mk) (.g r r r (fun _=>.ldW ia127 sz127 l r r r r .mk) (.g r r r (fun _=>.neV r r (EQ127 u x) (EG127 _ _ _ _ _) r r r .mk) (.e2 9 (.nilS [25,5,1,0] r r (.condP r hd (fun o hd=>?_) fun o hd=>?_)))))
   · exact .sr (.ks 1 r (.nilS [4] r r (.ret (pret results32 (.t r .n) a ⟨false,r,hd⟩))))
   exact .skipS [5,1,0] r r (.region (.ks 3 r (.nil' fun c w ho hs=>⟨(w64 (b+1)),hd,s,a,ho.sub ⟨r,r,r,trivial⟩,hs.pick .n⟩)))
 exact .exitS [] r r (.sr (.ks 1 r (.nilS [4] r r (.ret (pret results32 (.t r .n) a ⟨true,r,hd⟩)))))
theorem W_vertex_Step {I:IH} {a0:Plan} {a1:List Edge} {a2:State} {a3:Int} {p1:Option Addr} {c2:Nat} {p4:Option Addr} {c5:Nat} {p7:Option Addr} {c8:Nat} {p10:Option Addr} {c11:Nat} {p13:Option Addr} {c14:Nat} {Q:(State×Int)→Prop} (R3:RepSl eI64 I p1 c2 a0.Draws) (R6:RepSl eEdge I p4 c5 a1) (R9:RepSl eI64 I p7 c8 a2.A) (R12:RepSl eI64 I p10 c11 a2.B) (R15:RepSl eU64 I p13 c14 a2.On) (hd:vertex_Step a0 a1 a2 a3 Q) :
  PFun prog 35 [.agg #[.int .i64 a0.Kind,.int .i64 a0.N,.int .i64 a0.Source,.int .i64 a0.Length,.slice p1 a0.Draws.length c2],.slice p4 a1.length c5,.agg #[.int .i64 a2.Low,.int .i64 a2.High,.slice p7 a2.A.length c8,.slice p10 a2.B.length c11,.slice p13 a2.On.length c14],.int .i64 a3] I (fun I_ v=>∃ r p16 c17 p19 c20 p22 c23,v=.tuple #[.agg #[.int .i64 r.1.Low,.int .i64 r.1.High,.slice p16 r.1.A.length c17,.slice p19 r.1.B.length c20,.slice p22 r.1.On.length c23],.int .i64 r.2]∧RepSl eI64 I_ p16 c17 r.1.A∧RepSl eI64 I_ p19 c20 r.1.B∧RepSl eU64 I_ p22 c23 r.1.On∧Q r):=by
 refine Fun.enter func35 r ntmps35 r (.c (.c (.c (.c .n)))) fun w0 M=>?_
 refine .sr (.boxA r r r fun Y=>?_)
 refine .boxA r r r fun Z=>?_
 refine .allocA zv42 r r fun a4=>?_
 refine .ks 1 r (.nilS [8,6,4,3,1] r r (.sr (.loadW ia49 sz49 r (.s (.s .z)) r r r (.ks 1 r (.loadW ia42 sz42 r (.s .z) r r r (.ks 1 r ?_))))))
 have a8:=W_vertex_Mail (I:=I) R3 R6 R9 R12 R15 hd
 refine .call call30 r a8 r r fun f0 c3 e a9=>?_
 obtain ⟨y,c4,c6,rfl,k,hd⟩:=a9
 replace R3:=R3.mono e
 replace R6:=R6.mono e
 replace R9:=R9.mono e
 replace R12:=R12.mono e
 replace R15:=R15.mono e
 refine .ks 5 r (.nilS [11,10,8,6,4,3] r r (.seq (.sr (.ks 2 r (.nilS [29,11,10,8,6,4,3] r r (.condP r hd (fun b0 hd=>?_) fun b0 hd=>?_))))))
 · exact .sr (.build zv42 un42 BI42 .n (by exact trivial) r r (.ks 1 r (.storeA sz42 r r .z (.t (.t (.t (.t (.t .nil))))) r r (.ks 1 r (.nilS [9,8] r r (.drop (.s .z) (.drop (.s .z) (.ret (pret results35 (.w ia42 sz42 r .z r (.t r .n)) e ⟨(({ Low:=0,High:=0,A:=([]:List Int),B:=([]:List Int),On:=([]:List Int) }:State),y.2),_,_,_,_,_,_,r,(.nil _ _ _),(.nil _ _ _),(.nil _ _ _),hd⟩)))))))))
 refine .skipS [10,8,6,4,3] r r (.sr (.loadW ia49 sz49 r (.s (.s .z)) r r r (.loadW ia42 sz42 r (.s .z) r r r (.ks 1 r ?_))))
 have b1:=W_prog_Asked (I:=c3) R3 R9 R12 R15 hd
 refine .call call83 r b1 r r fun f1 a5 h b2=>?_
 obtain ⟨a6,c7,c9,rfl,C,hd⟩:=b2
 have b3:=IH.le.trans e h
 replace R3:=R3.mono h
 replace R9:=R9.mono h
 replace R12:=R12.mono h
 replace R15:=R15.mono h
 replace k:=k.mono h
 refine .ks 5 r (.nilS [13,12,10,8,6,4,3] r r (.sr (.fa un49 r sz3 r (o:=1) r r r (.load1 ia3 r (.s (.s .z)) r r r (.build zv54 un54 BI54 (.c r r r (.t .nil) .n) (by exact ⟨⟨_,_,r,r,r⟩,trivial⟩) r r (.allocA zv54 r r fun a7=>?_))))))
 refine .storeA sz54 r r .z (.t (.t .nil)) r r (.nilS [14,13,12,10,8,6,4,3] r r (.seq (.sr (.ks 1 r (.len un74 r r r r (.ks 1 r (.nilS [44,43,42,14,13,12,8,6,4,3] r r (.block (.own0 eItem 51 ?_)))))))))
 refine .loop hd (fun (s:(List Item)×Int) c w=>match s with | (f,g)=>∃ I_ l m,IH.le a5 I_∧Ok ⟨82,[],none⟩ [(3,.int .i64 a3),(4,.pointer (some ⟨Y,0,none⟩)),(6,.pointer (some ⟨Z,0,none⟩)),(8,.pointer (some ⟨a4,0,none⟩)),(12,.slice c7 a6.1.length c9),(13,.bool a6.2),(14,.pointer (some ⟨a7,0,none⟩)),(42,.slice c4 y.1.length c6),(43,.int .i64 (y.1.length:Int)),(44,.int .i64 g)] c∧Sym w0 M I I_ [pto Y (.cells #[.int .i64 a0.Kind,.int .i64 a0.N,.int .i64 a0.Source,.int .i64 a0.Length,.slice p1 a0.Draws.length c2] 49 (0,0)),pto Z (.cells #[.int .i64 a2.Low,.int .i64 a2.High,.slice p7 a2.A.length c8,.slice p10 a2.B.length c11,.slice p13 a2.On.length c14] 42 (0,0)),pto a4 (.cells #[.int .i64 0,.int .i64 0,.slice none 0 0,.slice none 0 0,.slice none 0 0] 42 (0,0)),pto a7 (.cells #[.int .i64 a0.N,.slice l f.length m] 54 (0,0)),OwnSl eItem 51 l m f] w) (fun c w ho hs=>⟨a5,_,_,(.refl _),ho.sub ⟨r,r,r,r,r,r,r,r,r,r,trivial⟩,hs.pick (.c (.s (.s (.s (.s .z)))) (.c (.s (.s (.s .z))) (.c (.s (.s .z)) (.c (.s .z) (.c .z .n)))))⟩) ?_
 rintro ⟨f,g⟩ c1 hd c w hst
 obtain ⟨i,l,m,a,hok,hsym⟩:=hst
 have u:=IH.le.trans b3 a
 replace R3:=R3.mono a
 replace R9:=R9.mono a
 replace R12:=R12.mono a
 replace R15:=R15.mono a
 replace k:=k.mono a
 replace C:=C.mono a
 refine Cod.at hok hsym (.sr (.ks 1 r (.nilS [45,44,43,42,14,13,12,8,6,4,3] r r (.seq (.condP r hd (fun E hd=>?_) fun E hd=>?_)))))
 · refine .skipS [44,43,42,14,13,12,8,6,4,3] r r (.seq (.block (.sr (.ks 1 r ?_))))
   obtain ⟨D,d2,x,hd⟩:=hd
   obtain ⟨d3,o235,d0,b4,F,G⟩:=k.2 _ _ x
   obtain ⟨d4,d5,rfl,b5⟩:=G
   refine .ixa un74 sz78 r b4 r D (idx_lt x D) r r (.ld1 (j:=0) isAgg78 F r r r r r (.ks 2 r (.nilS [16,15,44,43,42,14,13,12,8,6,4,3] r r (.seq (.sr (.ks 2 r ?_))))))
   have H:=W_flags_Has (I:=i) C hd
   refine .callP call84 r H r r fun d6 J=>?_
   obtain ⟨d7,rfl,hd⟩:=J
   refine .ks 1 r (.eqB underlying4 r r r r (.nilS [53,16,15,44,43,42,14,13,12,8,6,4,3] r r (.condP r hd (fun K hd=>?_) fun K hd=>?_)))
   · exact .exitS [44,43,42,14,13,12,8,6,4,3] r r (.region (.ks 2 r (.nil' fun c w ho hs=>⟨(f,w64 (g+1)),hd,i,_,_,a,ho.sub ⟨r,r,r,r,r,r,r,r,r,r,trivial⟩,hs.pick (.c .z (.c .z (.c .z (.c .z (.c .z .n)))))⟩)))
   refine .skipS [16,15,44,43,42,14,13,12,8,6,4,3] r r (.sr (.fa un49 r sz47 r (o:=0) r r r (.load1 ia47 r .z r r r (.ks 2 r ?_))))
   have L:=W_vertex_Hear (I:=i) b5 hd
   refine .callP call33 r L r r fun d8 O=>?_
   obtain ⟨p,rfl,hd⟩:=O
   refine .ks 7 r (.nilS [19,18,17,15,44,43,42,14,13,12,8,6,4,3] r r (.seq (.sr (.ks 2 r (.nilS [64,19,18,17,15,44,43,42,14,13,12,8,6,4,3] r r (.condP r hd (fun P hd=>?_) fun P hd=>?_))))))
   · refine .sr (.build zv42 un42 BI42 .n (by exact trivial) r r (.ks 1 r (.storeA sz42 r r (.s (.s .z)) (.t (.t (.t (.t (.t .nil))))) r r (.ks 1 r (.nilS [9,8] r r (.drop .z (.drop .z (.drop (.s .z) (.drop (.s .z) ?_)))))))))
     exact .ret (pret results35 (.w ia42 sz42 r .z r (.t r .n)) u ⟨(({ Low:=0,High:=0,A:=([]:List Int),B:=([]:List Int),On:=([]:List Int) }:State),p.2.2),_,_,_,_,_,_,r,(.nil _ _ _),(.nil _ _ _),(.nil _ _ _),hd⟩)
   refine .skipS [18,17,15,44,43,42,14,13,12,8,6,4,3] r r (.sr (.ks 1 r (.nilS [67,17,15,44,43,42,14,13,12,8,6,4,3] r r (.condP r hd (fun R hd=>?_) fun R hd=>?_))))
   · refine .region (.fa un54 r sz52 r (o:=1) r r r (.load1 ia52 r (.s (.s (.s .z))) r r r (.ks 2 r (.build zv51 un51 BI51 (.c r r r (.t .nil) (.c r r r (.s (.t .nil)) .n)) (by exact ⟨⟨_,_,r,r,r⟩,⟨⟨_,_,r,r,r⟩,trivial⟩⟩) r r (.buildSlice 1 un52 sz51 zv51 r r (.c r r r .n) r r fun d9=>?_)))))
     obtain ⟨S,hd⟩:=hd
     refine .append (ys:=[({ At:=g,Val:=p.1 }:Item)]) 16 (.s (.s (.s (.s (.s .z))))) un52 un52 IN51 r r r r r r r r r (.box .z (.one r) r) S r r fun e0 e1=>?_
     exact .fa un54 r sz52 r (o:=1) r r r (.store1 sz52 r r (.s (.s (.s (.s (.s .z))))) (.s (.t .nil)) r (.nilS [44,43,42,14,13,12,8,6,4,3] r r (.drop (.s .z) (.region (.ks 2 r (.nil' fun c w ho hs=>⟨((f++([({ At:=g,Val:=p.1 }:Item)])),w64 (g+1)),hd,i,_,_,a,ho.sub ⟨r,r,r,r,r,r,r,r,r,r,trivial⟩,hs.pick (.c (.s .z) (.c (.s .z) (.c (.s .z) (.c (.s .z) (.c .z .n)))))⟩))))))
   exact .skipS [44,43,42,14,13,12,8,6,4,3] r r (.region (.ks 2 r (.nil' fun c w ho hs=>⟨(f,w64 (g+1)),hd,i,_,_,a,ho.sub ⟨r,r,r,r,r,r,r,r,r,r,trivial⟩,hs.pick (.c .z (.c .z (.c .z (.c .z (.c .z .n)))))⟩)))
 refine .exitS [14,8,6,4,3] r r (.sr (.loadW ia49 sz49 r .z r r r (.loadW ia42 sz42 r (.s .z) r r r (.ks 1 r (.loadW ia54 sz54 r (.s (.s (.s .z))) r r r (.pub (.s (.s (.s (.s .z)))) fun b6 d q=>?_))))))
 have T:=IH.le.trans u d
 have U:=IH.le.trans a d
 replace R3:=R3.mono d
 replace R9:=R9.mono d
 replace R12:=R12.mono d
 replace R15:=R15.mono d
 have V:=W_prog_Update (I:=b6) (a3:=({ N:=a0.N,Items:=f }:Vec)) R3 R9 R12 R15 q hd
 refine .call call85 r V r r fun e2 e3 b W=>?_
 obtain ⟨b7,e4,e5,e6,e7,e8,e9,rfl,b8,b9,c0,hd⟩:=W
 have X:=IH.le.trans T b
 have d1:=IH.le.trans U b
 replace R3:=R3.mono b
 replace R9:=R9.mono b
 replace R12:=R12.mono b
 replace R15:=R15.mono b
 replace q:=q.mono b
 exact .storeA sz42 r r (.s (.s .z)) (.t (.t (.t (.t (.t .nil))))) r r (.ks 1 r (.nilS [9,8] r r (.drop .z (.drop .z (.drop (.s .z) (.ret (pret results35 (.w ia42 sz42 r .z r (.t r .n)) X ⟨(b7,0),_,_,_,_,_,_,r,b8,b9,c0,hd⟩)))))))
theorem W_vertex_letters_1_6d3 {I:IH} {o0:Nat} {o1:Int} {o2:List Edge} {o3:List (Int×Int)} {o4:Int} {Y:Nat→Int→Int→Wide→((Bool×Nat×Int)→Prop)→Prop} {b6:Nat} {b7:Nat} {p8:Option Addr} {c9:Nat} {b11:Nat} {b13:Nat} {b14:Nat} {lr:Nat} {Rr:Nat→HA} {Q:(Nat×Int)→Prop} (hY:∀ {J_:IH},I.le J_→∀ {y15:Nat} {y16:Int} {x18:Int} {x19:Wide} {Qy:(Bool×Nat×Int)→Prop},Y y15 y16 x18 x19 Qy→RFun prog lr [.int .i64 x18,.agg (encWide x19).toArray] J_ [Rr y15,pto b6 (.cells #[.int .i64 y16] 3 (0,0))] (fun I_ v l=>∃ r,v=.bool r.1∧l=[Rr r.2.1,pto b6 (.cells #[.int .i64 r.2.2] 3 (0,0))]∧Qy r)) (R10:RepSl eEdge I p8 c9 o2) (hd:vertex_letters_1_6d3 o0 o1 o2 o3 o4 Y Q) :
  Fun prog 137 #[.func (.yield lr) #[] #[],.pointer (some ⟨b7,0,none⟩),.pointer (some ⟨b11,0,none⟩),.pointer (some ⟨b14,0,none⟩)] I [Rr o0,pto b6 (.cells #[.int .i64 o1] 3 (0,0)),pto b7 (.cells #[.slice p8 o2.length c9] 22 (0,0)),pto b11 (.cells #[.map (some b13)] 192 (0,0)),OwnMap (Value.int .i64) eI64 false b13 o3,pto b14 (.cells #[.int .i64 o4] 37 (0,0))] (fun I_ v l=>∃ r,v=.tuple #[]∧l=[Rr r.1,pto b6 (.cells #[.int .i64 r.2] 3 (0,0)),pto b7 (.cells #[.slice p8 o2.length c9] 22 (0,0)),pto b11 (.cells #[.map (some b13)] 192 (0,0)),OwnMap (Value.int .i64) eI64 false b13 o3,pto b14 (.cells #[.int .i64 o4] 37 (0,0))]∧Q r):=by
 refine Fun.enter (vs:=[.func (.yield lr) #[] #[],.pointer (some ⟨b7,0,none⟩),.pointer (some ⟨b11,0,none⟩),.pointer (some ⟨b14,0,none⟩)]) func137 r ntmps137 r (.c (.c (.c (.c .n)))) fun w0 M=>?_
 refine .sr (.load1 ia22 r (.s (.s .z)) r r r (.len un22 r r r r (.ks 1 r (.nilS [11,10,9,3,2,1,0] r r (.block (.loop hd (fun (s:Int×Int×Nat) c w=>match s with | (e,i,f)=>∃ I_,IH.le I I_∧Ok ⟨36,[],none⟩ [(0,.func (.yield lr) #[] #[]),(1,.pointer (some ⟨b7,0,none⟩)),(2,.pointer (some ⟨b11,0,none⟩)),(3,.pointer (some ⟨b14,0,none⟩)),(9,.slice p8 o2.length c9),(10,.int .i64 (o2.length:Int)),(11,.int .i64 i)] c∧Sym w0 M I I_ [pto b6 (.cells #[.int .i64 e] 3 (0,0)),pto b7 (.cells #[.slice p8 o2.length c9] 22 (0,0)),pto b11 (.cells #[.map (some b13)] 192 (0,0)),OwnMap (Value.int .i64) eI64 false b13 o3,pto b14 (.cells #[.int .i64 o4] 37 (0,0)),Rr f] w) (fun c w ho hs=>⟨I,(.refl _),ho.sub ⟨r,r,r,r,r,r,r,trivial⟩,hs.pick (.c (.s .z) (.c (.s .z) (.c (.s .z) (.c (.s .z) (.c (.s .z) (.c .z .n))))))⟩) ?_))))))
 rintro ⟨e,i,f⟩ O hd c w hst
 obtain ⟨j,b,hok,hsym⟩:=hst
 replace R10:=R10.mono b
 refine Cod.at hok hsym (.sr (.ks 1 r (.nilS [12,11,10,9,3,2,1,0] r r (.seq (.condP r hd (fun x hd=>?_) fun x hd=>?_)))))
 · refine .skipS [11,10,9,3,2,1,0] r r (.seq (.block (.sr ?_)))
   obtain ⟨u,h,m,hd⟩:=hd
   obtain ⟨S,o156,P,J,y,A⟩:=R10.2 _ _ m
   cases A
   refine .ixa un22 sz27 r J r u (idx_lt m u) r r (.ldW ia27 sz27 y r r r r (.allocA zv27 r r fun K=>?_))
   refine .storeA sz27 r r .z (.t (.t (.t .nil))) r r (.nilS [6,11,10,9,3,2,1,0] r r (.sr (.load1 isAgg192 r (.s (.s (.s .z))) r r r (.fa un27 r sz3 r (o:=0) r r r (.load1 ia3 r .z r r r (.lookM2 (k:=h.From) (El:=eI64) (ag:=false) (zv:=.int .i64 0) (z:=0) (keyInt un3) underlying192 zv2 ⟨[.int .i64 0],r,.s⟩ (.s (.s (.s (.s .z)))) r r hd r r fun T U V R hd B C=>?_))))))
   cases B
   cases C
   refine .ks 5 r (.nilS [8,7,6,11,10,9,3,2,1,0] r r (.seq (.dr [0,1,2,3,4,5,6,7,8,9,10,11,12] 13 (.fk 2 r ?_))))
   refine splitP hd (fun a hd=>?_) fun a hd=>?_
   · refine .g r r r (fun _=>.gyes r r a (.move r r r .mk)) (.g r r r (fun _=>.gyes r r a (.fa un27 r sz3 r (o:=1) r r r .mk)) (.g r r r (fun _=>.gyes r r a (.load1 ia3 r .z r r r .mk)) (.g r r r (fun _=>.gyes r r a (.load1 isAgg37 r (.s (.s (.s (.s (.s .z))))) r r r .mk)) (.g r r r (fun _=>.gyes r r a (.fa un27 r sz2 r (o:=2) r r r .mk)) (.g r r r (fun _=>.gyes r r a (.load1 ia2 r .z r r r .mk)) (.g r r r (fun _=>.gyes r r a (.move r r r .mk)) (.ww r fun ex=>?_)))))))
     have D:=W_ring_Mul (I:=j) hd
     refine .gyes r r a (.callP call138 r D r r fun X E=>?_)
     obtain ⟨L,rfl,hd⟩:=E
     refine .so 7 r r r (.cg r r r r (fun _=>.gyes r r a (.load1 ia3 r .z r r r .mk)) (.cg r r r r (fun _=>.gyes r r a (.fa un27 r sz3 r (o:=1) r r r .mk)) (.cg r r r r (fun _=>.gyes r r a (.move r r r .mk)) trivial))) (.ww r fun ex=>?_)
     have F:=hY (J_:=j) b (y15:=f) (y16:=e) (x18:=h.To) (x19:=L) hd
     refine .gyes r r a (.callY r r (.c (.s (.s (.s (.s (.s (.s .z)))))) (.c (.s .z) .n)) F r r fun Z N a0 p G=>?_)
     obtain ⟨d,rfl,rfl,hd⟩:=G
     have q:=IH.le.trans b p
     replace R10:=R10.mono p
     refine .re (m':=(Rr d.2.1) :: (pto b6 (.cells #[.int .i64 d.2.2] 3 (0,0))) :: (pto K (.cells #[.int .i64 h.From,.int .i64 h.To,.int .i64 h.W] 27 (0,0))) :: (pto b7 (.cells #[.slice p8 o2.length c9] 22 (0,0))) :: (pto b11 (.cells #[.map (some b13)] 192 (0,0))) :: (OwnMap (Value.int .i64) eI64 false b13 o3) :: (pto b14 (.cells #[.int .i64 o4] 37 (0,0))) :: ex) r (.so 7 r r r trivial (.g r r r (fun _=>.gyes r r a (.not r r r .mk)) (.g r r r (fun _=>.pickT r a r r r .mk) (.e2 13 (.nilS [34,11,10,9,3,2,1,0] r r (.drop (.s (.s .z)) (.condP r hd (fun H hd=>?_) fun H hd=>?_)))))))
     · exact .ret (oret results137 .n q (.c .z (.c .z (.c .z (.c .z (.c .z (.c .z .n)))))) ⟨(d.2.1,d.2.2),r,r,hd⟩)
     exact .skipS [11,10,9,3,2,1,0] r r (.region (.ks 2 r (.nil' fun c w ho hs=>⟨(d.2.2,w64 (i+1),d.2.1),hd,N,q,ho.sub ⟨r,r,r,r,r,r,r,trivial⟩,hs.pick (.c (.s .z) (.c (.s .z) (.c (.s .z) (.c (.s .z) (.c (.s .z) (.c .z .n))))))⟩)))
   refine .g r r r (fun _=>.gno r r a r r .mk) (.g r r r (fun _=>.gno r r a r r .mk) (.g r r r (fun _=>.gno r r a r r .mk) (.g r r r (fun _=>.gno r r a r r .mk) (.g r r r (fun _=>.gno r r a r r .mk) (.g r r r (fun _=>.gno r r a r r .mk) (.g r r r (fun _=>.gno r r a r r .mk) (.g r r r (fun _=>.gno r r a r r .mk) (.g r r r (fun _=>.gno r r a r r .mk) (.g r r r (fun _=>.gno r r a r r .mk) ?_)))))))))
   exact .g r r r (fun _=>.pickF r a r r r .mk) (.e2 13 (.nilS [34,11,10,9,3,2,1,0] r r (.drop .z (.condKF r r (.skipS [11,10,9,3,2,1,0] r r (.region (.ks 2 r (.nil' fun c w ho hs=>⟨(e,w64 (i+1),f),hd,j,b,ho.sub ⟨r,r,r,r,r,r,r,trivial⟩,hs.pick (.c .z (.c .z (.c .z (.c .z (.c .z (.c .z .n))))))⟩))))))))
 exact .exit (oretN results137 .n b (.c (.s (.s (.s (.s (.s .z))))) (.c .z (.c .z (.c .z (.c .z (.c .z .n)))))) ⟨(f,e),r,r,hd⟩)
theorem W_vertex_run {I:IH} {a0:Plan} {a1:Graph} {a2:Int} {p1:Option Addr} {c2:Nat} {p4:Option Addr} {c5:Nat} {Q:(Result×Int×Int)→Prop} (R3:RepSl eI64 I p1 c2 a0.Draws) (R6:RepSl eEdge I p4 c5 a1.Edges) (hd:vertex_run a0 a1 a2 Q) :
  PFun prog 87 [.agg #[.int .i64 a0.Kind,.int .i64 a0.N,.int .i64 a0.Source,.int .i64 a0.Length,.slice p1 a0.Draws.length c2],.agg #[.int .i64 a1.N,.slice p4 a1.Edges.length c5],.int .i64 a2] I (fun I_ v=>∃ r p7 c8 p10 c11 p13 c14,v=.tuple #[.agg #[.int .i64 r.1.Status,.int .i64 r.1.Rounds,.int .i64 r.1.State.Low,.int .i64 r.1.State.High,.slice p7 r.1.State.A.length c8,.slice p10 r.1.State.B.length c11,.slice p13 r.1.State.On.length c14],.int .i64 r.2.1,.int .i64 r.2.2]∧RepSl eI64 I_ p7 c8 r.1.State.A∧RepSl eI64 I_ p10 c11 r.1.State.B∧RepSl eU64 I_ p13 c14 r.1.State.On∧Q r):=by
 refine Fun.enter func87 r ntmps87 r (.c (.c (.c .n))) fun w0 M=>?_
 refine .marks0 (.sr (.boxA r r r fun a9=>?_))
 refine .boxA r r r fun h6=>?_
 refine .allocA zv44 r r fun b0=>?_
 refine .ks 2 r (.nilS [6,4,3,2] r r (.seq (.sr (.loadW ia49 sz49 r (.s (.s .z)) r r r (.loadW ia24 sz24 r (.s .z) r r r (.ks 1 r ?_))))))
 have e6:=W_model_Check (I:=I) R3 R6 hd
 refine .callP call47 r e6 r r fun h7 e7=>?_
 obtain ⟨f9,rfl,hd⟩:=e7
 refine .ks 1 r (.nilS [9,6,4,3,2] r r (.sr (.ks 2 r (.nilS [21,9,6,4,3,2] r r (.condP r hd (fun e8 hd=>?_) fun e8 hd=>?_)))))
 · exact .sr (.build zv44 un44 BI44 .n (by exact trivial) r r (.ks 1 r (.storeA sz44 r r .z (.t (.t (.t (.t (.t (.t (.t .nil))))))) r r (.ks 2 r (.nilS [8,7,6] r r (.drop (.s .z) (.drop (.s .z) (.ret (pretM (.s .z) results87 (.w ia44 sz44 r .z r (.t r (.t r .n))) (.refl _) ⟨(({ Status:=0,Rounds:=0,State:=({ Low:=0,High:=0,A:=([]:List Int),B:=([]:List Int),On:=([]:List Int) }:State) }:Result),0,f9),_,_,_,_,_,_,r,(.nil _ _ _),(.nil _ _ _),(.nil _ _ _),hd⟩)))))))))
 refine .skipS [6,4,3,2] r r (.sr (.loadW ia49 sz49 r (.s (.s .z)) r r r (.loadW ia24 sz24 r (.s .z) r r r ?_)))
 have e9:=W_vertex_Links (I:=I) R3 R6 hd
 refine .call call25 r e9 r r fun h8 g0 W f0=>?_
 obtain ⟨b2,g1,g2,rfl,p,hd⟩:=f0
 replace R3:=R3.mono W
 replace R6:=R6.mono W
 refine .ks 5 r (.nilS [11,10,6,3,2] r r (.drop (.s .z) (.seq (.sr (.ks 2 r (.nilS [31,11,10,6,3,2] r r (.condP r hd (fun f1 hd=>?_) fun f1 hd=>?_)))))))
 · exact .sr (.build zv44 un44 BI44 .n (by exact trivial) r r (.ks 1 r (.storeA sz44 r r .z (.t (.t (.t (.t (.t (.t (.t .nil))))))) r r (.ks 2 r (.nilS [8,7,6] r r (.drop (.s .z) (.ret (pretM (.s .z) results87 (.w ia44 sz44 r .z r (.t r (.t r .n))) W ⟨(({ Status:=0,Rounds:=0,State:=({ Low:=0,High:=0,A:=([]:List Int),B:=([]:List Int),On:=([]:List Int) }:State) }:Result),0,b2.2),_,_,_,_,_,_,r,(.nil _ _ _),(.nil _ _ _),(.nil _ _ _),hd⟩))))))))
 refine .skipS [10,6,3,2] r r (.sr (.loadW ia49 sz49 r (.s .z) r r r (.fa un49 r sz3 r (o:=1) r r r (.load1 ia3 r (.s .z) r r r ?_))))
 have c6:=W_prog_Begin (I:=g0) R3 hd
 refine .call call115 r c6 r r fun h9 e5 Z f2=>?_
 obtain ⟨i0,i1,i2,i3,i4,i5,g6,rfl,g3,g4,f3,hd⟩:=f2
 have c7:=IH.le.trans W Z
 replace R3:=R3.mono Z
 replace p:=p.mono Z
 refine .build zv44 un44 BI44 (.c r r r (.s (.s (.t (.t (.t (.t (.t .nil))))))) .n) (by exact ⟨⟨_,_,r,r,r⟩,trivial⟩) r r (.allocA zv44 r r fun X=>?_)
 refine .storeA sz44 r r .z (.t (.t (.t (.t (.t (.t (.t .nil))))))) r r (.nilS [12,10,6,3,2] r r (.sr (.alloc1 zv3 r r r fun K=>?_)))
 refine .store1 sz3 r r .z (.t .nil) r (.nilS [13,12,10,6,3,2] r r (.block (.loop hd (fun (s:Int×Int×Int×(List Int)×(List Int)×(List Int)×Int) c w=>match s with | (x,q,u,k,l,m,E)=>∃ I_ ds390 L O P R S T,IH.le e5 I_∧RepSl eI64 I_ L O k∧RepSl eI64 I_ P R l∧RepSl eU64 I_ S T m∧Ok ⟨92,ds390,none⟩ [(2,.int .i64 a2),(3,.pointer (some ⟨a9,0,none⟩)),(6,.pointer (some ⟨b0,0,none⟩)),(10,.slice g1 b2.1.length g2),(12,.pointer (some ⟨X,0,none⟩)),(13,.pointer (some ⟨K,0,none⟩))] c∧Sym w0 M I I_ [pto a9 (.cells #[.int .i64 a0.Kind,.int .i64 a0.N,.int .i64 a0.Source,.int .i64 a0.Length,.slice p1 a0.Draws.length c2] 49 (0,0)),pto b0 (.cells #[.int .i64 0,.int .i64 0,.int .i64 0,.int .i64 0,.slice none 0 0,.slice none 0 0,.slice none 0 0] 44 (0,0)),pto X (.cells #[.int .i64 0,.int .i64 x,.int .i64 q,.int .i64 u,.slice L k.length O,.slice P l.length R,.slice S m.length T] 44 (0,0)),pto K (.cells #[.int .i64 E] 3 (0,0)),Marks ds390] w) (fun c w ho hs=>⟨e5,_,_,_,_,_,_,_,(.refl _),g3,g4,f3,ho.sub ⟨r,r,r,r,r,r,trivial⟩,hs.pick (.c (.s (.s (.s .z))) (.c (.s (.s .z)) (.c (.s .z) (.c .z (.c .z .n)))))⟩) ?_)))
 rintro ⟨x,q,u,k,l,m,E⟩ f8 hd c w hst
 obtain ⟨b3,ds390,L,O,P,R,S,T,J,b,d,e,hok,hsym⟩:=hst
 have Y:=IH.le.trans c7 J
 replace R3:=R3.mono J
 replace p:=p.mono J
 refine Cod.at (n:=⟨92,ds390,none⟩) hok hsym (.block (.seq (.block (.sr (.loadW ia49 sz49 r .z r r r (.fa un44 r sz42 r (o:=2) r r r (.loadA ia42 sz42 r (.s (.s .z)) (.s (.s (.t (.t (.t (.t (.t .nil))))))) r r r (.fa un44 r sz3 r (o:=1) r r r (.load1 ia3 r (.s (.s .z)) r r r ?_)))))))))
 have d0:=W_prog_Live (I:=b3) (a1:=({ Low:=q,High:=u,A:=k,B:=l,On:=m }:State)) R3 b d e hd
 refine .callP call116 r d0 r r fun g7 d1=>?_
 obtain ⟨g8,rfl,hd⟩:=d1
 refine .ks 2 r (.nilS [39,13,12,10,6,3,2] r r (.condP r hd (fun d2 hd=>?_) fun d2 hd=>?_))
 · refine .sr (.fa un44 r sz39 r (o:=0) r r r (.store1 sz39 r r (.s (.s .z)) (.t .nil) r (.nilS [13,12,6] r r (.drop .z (.seq (.dr [0,1,2] 3 (.g r r r (fun _=>.loadW ia44 sz44 r (.s .z) r r r .mk) (.g r r r (fun _=>.load1 ia3 r (.s (.s .z)) r r r .mk) (.ww r fun ex=>?_)))))))))
   exact .storeA sz44 r r .z (.t (.t (.t (.t (.t (.t (.t .nil))))))) r r (.sn 4 r r r (.cg r r r r (fun _=>.load1 ia3 r (.s (.s .z)) r r r .mk) trivial) (.e2 3 (.ks 2 r (.nilS [8,7,6] r r (.drop (.s .z) (.drop (.s .z) (.ret (pretM (.s .z) results87 (.w ia44 sz44 r .z r (.t r (.t r .n))) Y ⟨(({ Status:=1,Rounds:=x,State:=({ Low:=q,High:=u,A:=k,B:=l,On:=m }:State) }:Result),E,0),_,_,_,_,_,_,r,b,d,e,hd⟩))))))))
 refine .sr (.fa un44 r sz3 r (o:=1) r r r (.load1 ia3 r (.s (.s .z)) r r r (.ks 3 r (.nilS [50,13,12,10,6,3,2] r r (.condP r hd (fun d3 hd=>?_) fun d3 hd=>?_)))))
 · refine .sr (.fa un44 r sz39 r (o:=0) r r r (.store1 sz39 r r (.s (.s .z)) (.t .nil) r (.nilS [13,12,6] r r (.drop .z (.seq (.dr [0,1,2] 3 (.g r r r (fun _=>.loadW ia44 sz44 r (.s .z) r r r .mk) (.g r r r (fun _=>.load1 ia3 r (.s (.s .z)) r r r .mk) (.ww r fun ex=>?_)))))))))
   exact .storeA sz44 r r .z (.t (.t (.t (.t (.t (.t (.t .nil))))))) r r (.sn 4 r r r (.cg r r r r (fun _=>.load1 ia3 r (.s (.s .z)) r r r .mk) trivial) (.e2 3 (.ks 2 r (.nilS [8,7,6] r r (.drop (.s .z) (.drop (.s .z) (.ret (pretM (.s .z) results87 (.w ia44 sz44 r .z r (.t r (.t r .n))) Y ⟨(({ Status:=2,Rounds:=x,State:=({ Low:=q,High:=u,A:=k,B:=l,On:=m }:State) }:Result),E,0),_,_,_,_,_,_,r,b,d,e,hd⟩))))))))
 refine .skipS [13,12,10,6,3,2] r r (.sr (.loadW ia49 sz49 r .z r r r (.ks 1 r (.fa un44 r sz42 r (o:=2) r r r (.loadA ia42 sz42 r (.s (.s .z)) (.s (.s (.t (.t (.t (.t (.t .nil))))))) r r r (.fa un44 r sz3 r (o:=1) r r r (.load1 ia3 r (.s (.s .z)) r r r (.ks 1 r ?_))))))))
 have d4:=W_vertex_Step (I:=b3) (a2:=({ Low:=q,High:=u,A:=k,B:=l,On:=m }:State)) R3 p b d e hd
 refine .call call35 r d4 r r fun g9 f4 y d5=>?_
 obtain ⟨a,b4,b5,b8,b9,c0,c1,rfl,F,G,H,hd⟩:=d5
 have b1:=IH.le.trans Y y
 have d6:=IH.le.trans J y
 replace R3:=R3.mono y
 replace p:=p.mono y
 replace b:=b.mono y
 replace d:=d.mono y
 replace e:=e.mono y
 refine .ks 3 r (.allocA zv42 r r fun c3=>?_)
 refine .storeA sz42 r r .z (.t (.t (.t (.t (.t .nil))))) r r (.ks 1 r (.nilS [15,14,13,12,10,6,3,2] r r (.seq (.sr (.ks 2 r (.nilS [70,14,13,12,10,6,3,2] r r (.condP r hd (fun d7 hd=>?_) fun d7 hd=>?_)))))))
 · refine .sr (.fa un44 r sz39 r (o:=0) r r r (.store1 sz39 r r (.s (.s (.s .z))) (.t .nil) r (.nilS [13,12,6] r r (.drop .z (.drop .z (.seq (.dr [0,1,2] 3 (.g r r r (fun _=>.loadW ia44 sz44 r (.s .z) r r r .mk) (.g r r r (fun _=>.load1 ia3 r (.s (.s .z)) r r r .mk) ?_)))))))))
   refine .ww r fun ex=>?_
   exact .storeA sz44 r r .z (.t (.t (.t (.t (.t (.t (.t .nil))))))) r r (.sn 4 r r r (.cg r r r r (fun _=>.load1 ia3 r (.s (.s .z)) r r r .mk) trivial) (.e2 3 (.ks 2 r (.nilS [8,7,6] r r (.drop (.s .z) (.drop (.s .z) (.ret (pretM (.s .z) results87 (.w ia44 sz44 r .z r (.t r (.t r .n))) b1 ⟨(({ Status:=3,Rounds:=x,State:=({ Low:=q,High:=u,A:=k,B:=l,On:=m }:State) }:Result),E,0),_,_,_,_,_,_,r,b,d,e,hd⟩))))))))
 refine .skipS [14,13,12,10,6,3,2] r r (.seq (.sr (.loadW ia49 sz49 r (.s .z) r r r (.ks 1 r (.fa un44 r sz42 r (o:=2) r r r (.loadA ia42 sz42 r (.s (.s (.s .z))) (.s (.s (.t (.t (.t (.t (.t .nil))))))) r r r (.fa un44 r sz3 r (o:=1) r r r (.load1 ia3 r (.s (.s (.s .z))) r r r (.ks 1 r ?_)))))))))
 have d8:=W_vertex_letters_c5d (I:=f4) (a0:=a0) (a1:=b2.1) (a2:=({ Low:=q,High:=u,A:=k,B:=l,On:=m }:State)) (a3:=(w64 (x+1))) R3 p b d e hd
 refine .callS (.f call70 r) .n d8 r r fun h0 f5 h1 j d9=>?_
 obtain ⟨C,a4,a5,a6,a7,U,a8,rfl,V,rfl,hd⟩:=d9
 have e0:=IH.le.trans b1 j
 have e1:=IH.le.trans d6 j
 replace R3:=R3.mono j
 replace p:=p.mono j
 replace b:=b.mono j
 replace d:=d.mono j
 replace e:=e.mono j
 replace F:=F.mono j
 replace G:=G.mono j
 replace H:=H.mono j
 refine .re (m':=[pto a4 (.cells #[.slice a5 C.1.length a6] 22 (0,0)),pto a7 (.cells #[.map (some U)] 192 (0,0)),OwnMap (Value.int .i64) eI64 false U C.2.1,pto a8 (.cells #[.int .i64 C.2.2] 37 (0,0)),pto c3 (.cells #[.int .i64 a.1.Low,.int .i64 a.1.High,.slice b4 a.1.A.length b5,.slice b8 a.1.B.length b9,.slice c0 a.1.On.length c1] 42 (0,0)),pto a9 (.cells #[.int .i64 a0.Kind,.int .i64 a0.N,.int .i64 a0.Source,.int .i64 a0.Length,.slice p1 a0.Draws.length c2] 49 (0,0)),pto b0 (.cells #[.int .i64 0,.int .i64 0,.int .i64 0,.int .i64 0,.slice none 0 0,.slice none 0 0,.slice none 0 0] 44 (0,0)),pto X (.cells #[.int .i64 0,.int .i64 x,.int .i64 q,.int .i64 u,.slice L k.length O,.slice P l.length R,.slice S m.length T] 44 (0,0)),pto K (.cells #[.int .i64 E] 3 (0,0)),Marks ds390]) r (.nilS [81,14,13,12,10,6,3,2] r r (.block (.rangeF [] r call137 (.c (.s (.s (.s (.s (.s (.s (.s (.s (.s .z))))))))) (.c (.s (.s (.s (.s (.s (.s (.s (.s .z)))))))) (.c .z (.c .z (.c .z (.c .z .n)))))) fun lr D rc hrc=>?_)))
 refine ⟨_,W_vertex_letters_1_6d3 (I:=f5) (lr:=lr) (Rr:=recA lr [] rc) (o0:=0) (o1:=E) (o2:=C.1) (o3:=C.2.1) (o4:=C.2.2) (b6:=K) (b7:=a4) (p8:=a5) (c9:=a6) (b11:=a7) (b13:=U) (b14:=a8) ?_ V hd,?_⟩
 · skip
   intro I hJ h2 f6 h3 h4 Qy  hd
   replace R3:=R3.mono hJ
   replace p:=p.mono hJ
   replace b:=b.mono hJ
   replace d:=d.mono hJ
   replace e:=e.mono hJ
   replace F:=F.mono hJ
   replace G:=G.mono hJ
   replace H:=H.mono hJ
   replace V:=V.mono hJ
   obtain ⟨rfl,hd⟩:=hd
   refine RFun.mk hrc r fun w0 M=>?_
   refine .skip' fun c w ho hs=>beginR (E':=[(13,_)]) ho ⟨r,trivial⟩ hs .z (.block (.region (.load1 ia3 r (.s .z) r r r (.ks 1 r (.store1 sz3 r r (.s .z) (.t .nil) r ?_)))))
   exact .nil' fun c w ho hs=>endR 0 (.inl rfl) (.refl _) .z (.c .z .n) ⟨(true,0,w64 (f6+1)),rfl,rfl,hd⟩ hs
 intro h5 f7 l' h e3
 obtain ⟨c4,rfl,rfl,hd⟩:=e3
 have g5:=IH.le.trans e0 h
 have e4:=IH.le.trans e1 h
 replace R3:=R3.mono h
 replace p:=p.mono h
 replace b:=b.mono h
 replace d:=d.mono h
 replace e:=e.mono h
 replace F:=F.mono h
 replace G:=G.mono h
 replace H:=H.mono h
 replace V:=V.mono h
 obtain ⟨hz,hd⟩:=hd
 refine ⟨_,_,r,fun hj=>?_,fun i hj=>absurd (hz.symm.trans hj) (by simp)⟩
 refine .re (m':=[Marks (D :: ds390),pto K (.cells #[.int .i64 c4.2] 3 (0,0)),pto a4 (.cells #[.slice a5 C.1.length a6] 22 (0,0)),pto a7 (.cells #[.map (some U)] 192 (0,0)),OwnMap (Value.int .i64) eI64 false U C.2.1,pto a8 (.cells #[.int .i64 C.2.2] 37 (0,0)),pto c3 (.cells #[.int .i64 a.1.Low,.int .i64 a.1.High,.slice b4 a.1.A.length b5,.slice b8 a.1.B.length b9,.slice c0 a.1.On.length c1] 42 (0,0)),pto a9 (.cells #[.int .i64 a0.Kind,.int .i64 a0.N,.int .i64 a0.Source,.int .i64 a0.Length,.slice p1 a0.Draws.length c2] 49 (0,0)),pto b0 (.cells #[.int .i64 0,.int .i64 0,.int .i64 0,.int .i64 0,.slice none 0 0,.slice none 0 0,.slice none 0 0] 44 (0,0)),pto X (.cells #[.int .i64 0,.int .i64 x,.int .i64 q,.int .i64 u,.slice L k.length O,.slice P l.length R,.slice S m.length T] 44 (0,0))]) r (.mkS [14,13,12,10,6,3,2] r r (.drop (.s (.s .z)) (.drop (.s (.s .z)) (.drop (.s (.s .z)) (.drop (.s (.s .z)) (.sr (.loadW ia42 sz42 r (.s (.s .z)) r r r (.fa un44 r sz42 r (o:=2) r r r (.storeA sz42 r r (.s (.s (.s (.s (.s .z))))) (.s (.s (.t (.t (.t (.t (.t .nil))))))) r r ?_)))))))))
 exact .nilS [13,12,10,6,3,2] r r (.drop (.s (.s .z)) (.region (.fa un44 r sz3 r (o:=1) r r r (.load1 ia3 r (.s (.s (.s (.s .z)))) r r r (.ks 1 r (.fa un44 r sz3 r (o:=1) r r r (.store1 sz3 r r (.s (.s (.s (.s .z)))) (.s (.t .nil)) r (.nil' fun c w ho hs=>⟨(w64 (x+1),a.1.Low,a.1.High,a.1.A,a.1.B,a.1.On,c4.2),hd,f7,_,_,_,_,_,_,_,e4,F,G,H,ho.sub ⟨r,r,r,r,r,r,trivial⟩,hs.pick (.c (.s (.s .z)) (.c (.s (.s .z)) (.c (.s (.s .z)) (.c (.s .z) (.c .z .n)))))⟩))))))))
theorem W_vertex_Run {I:IH} {a0:Plan} {a1:Graph} {a2:Int} {p1:Option Addr} {c2:Nat} {p4:Option Addr} {c5:Nat} {Q:(Result×Int)→Prop} (R3:RepSl eI64 I p1 c2 a0.Draws) (R6:RepSl eEdge I p4 c5 a1.Edges) (hd:vertex_Run a0 a1 a2 Q) :
  PFun prog 37 [.agg #[.int .i64 a0.Kind,.int .i64 a0.N,.int .i64 a0.Source,.int .i64 a0.Length,.slice p1 a0.Draws.length c2],.agg #[.int .i64 a1.N,.slice p4 a1.Edges.length c5],.int .i64 a2] I (o34_ Q):=by
 refine Fun.enter func37 r ntmps37 r (.c (.c (.c .n))) fun w0 M=>?_
 refine .sr (.boxA r r r fun i=>?_)
 refine .boxA r r r fun j=>?_
 refine .allocA zv44 r r fun k=>?_
 refine .ks 1 r (.nilS [6,4,3,2] r r (.sr (.loadW ia49 sz49 r (.s (.s .z)) r r r (.loadW ia24 sz24 r (.s .z) r r r (.ks 1 r ?_)))))
 have d:=W_vertex_run (I:=I) R3 R6 hd
 refine .call call87 r d r r fun l m a e=>?_
 obtain ⟨b,o,p,q,u,v,x,rfl,f,g,h,hd⟩:=e
 replace R3:=R3.mono a
 replace R6:=R6.mono a
 refine .ks 4 r (.allocA zv44 r r fun y=>?_)
 refine .storeA sz44 r r .z (.t (.t (.t (.t (.t (.t (.t .nil))))))) r r (.ks 2 r (.nilS [10,8,6] r r (.drop (.s (.s .z)) (.drop (.s (.s .z)) (.sr (.loadW ia44 sz44 r .z r r r (.ks 1 r (.storeA sz44 r r (.s .z) (.t (.t (.t (.t (.t (.t (.t .nil))))))) r r (.ks 1 r ?_)))))))))
 exact .nilS [7,6] r r (.drop .z (.ret (pret results37 (.w ia44 sz44 r .z r (.t r .n)) a ⟨(b.1,b.2.2),_,_,_,_,_,_,r,f,g,h,hd⟩)))
theorem W_vertex_Letters {I:IH} {a0:Plan} {a1:Graph} {a2:Int} {p1:Option Addr} {c2:Nat} {p4:Option Addr} {c5:Nat} {Q:(Int×Int)→Prop} (R3:RepSl eI64 I p1 c2 a0.Draws) (R6:RepSl eEdge I p4 c5 a1.Edges) (hd:vertex_Letters a0 a1 a2 Q) :
  PFun prog 39 [.agg #[.int .i64 a0.Kind,.int .i64 a0.N,.int .i64 a0.Source,.int .i64 a0.Length,.slice p1 a0.Draws.length c2],.agg #[.int .i64 a1.N,.slice p4 a1.Edges.length c5],.int .i64 a2] I (fun _=>o9_ Q):=by
 refine Fun.enter func39 r ntmps39 r (.c (.c (.c .n))) fun w0 M=>?_
 refine .sr (.boxA r r r fun f=>?_)
 refine .boxA r r r fun g=>?_
 refine .ks 2 r (.nilS [4,3,2] r r (.sr (.loadW ia49 sz49 r (.s .z) r r r (.loadW ia24 sz24 r .z r r r (.ks 1 r ?_)))))
 have d:=W_vertex_run (I:=I) R3 R6 hd
 refine .call call87 r d r r fun h i a e=>?_
 obtain ⟨b,j,k,l,m,o,p,rfl,q,u,v,hd⟩:=e
 replace R3:=R3.mono a
 replace R6:=R6.mono a
 refine .ks 4 r (.allocA zv44 r r fun w=>?_)
 exact .storeA sz44 r r .z (.t (.t (.t (.t (.t (.t (.t .nil))))))) r r (.ks 2 r (.nilS [10,9] r r (.drop .z (.drop .z (.drop .z (.sr (.ks 4 r (.nilS [7,6] r r (.ret (pret results39 (.t r (.t r .n)) a ⟨(b.2.1,b.2.2),r,hd⟩))))))))))
theorem W_law35_live {I:IH} {Q:Bool→Prop}  (hd:law35_live Q) :
  PFun prog 27 [] I (fun _=>o4_ Q):=by
 refine Fun.enter func27 r ntmps27 r .n fun w0 M=>?_
 refine .sr (.ks 1 r (.nilS [] r r (.sr (.build zv27 un27 BI27 (.c r r r (.t .nil) (.c r r r (.s (.t .nil)) (.c r r r (.s (.s (.t .nil))) .n))) (by exact ⟨⟨_,_,r,r,r⟩,⟨⟨_,_,r,r,r⟩,⟨⟨_,_,r,r,r⟩,trivial⟩⟩⟩) r r (.buildSlice 1 un22 sz27 zv27 r r (.c r r r .n) r r fun b6=>?_)))))
 refine .ownB (El:=eEdge) (ys:=([({ From:=0,To:=1,W:=7 }:Edge)]:List Edge)) .z (.one r) r (.build zv24 un24 BI24 (.c r r r (.t .nil) (.c r r r (.s (.t .nil)) .n)) (by exact ⟨⟨_,_,r,r,r⟩,⟨⟨_,_,r,r,r⟩,trivial⟩⟩) r r (.allocA zv24 r r fun b9=>?_))
 refine .storeA sz24 r r .z (.t (.t .nil)) r r (.nilS [1] r r (.sr (.build zv49 un49 BI49 (.c r r r (.t .nil) (.c r r r (.s (.t .nil)) .n)) (by exact ⟨⟨_,_,r,r,r⟩,⟨⟨_,_,r,r,r⟩,trivial⟩⟩) r r (.allocA zv49 r r fun h9=>?_))))
 refine .storeA sz49 r r .z (.t (.t (.t (.t (.t .nil))))) r r (.nilS [2,1] r r (.sr (.loadW ia49 sz49 r .z r r r (.loadW ia24 sz24 r (.s .z) r r r (.pub (.s (.s .z)) fun e4 c5 e=>?_)))))
 have c6:=W_vertex_Links (I:=e4) (a0:=({ Kind:=1,N:=2,Source:=0,Length:=0,Draws:=([]:List Int) }:Plan)) (a1:=({ N:=2,Edges:=([({ From:=0,To:=1,W:=7 }:Edge)]:List Edge) }:Graph)) (.nil _ none 0) e hd
 refine .call call25 r c6 r r fun i0 e5 X c7=>?_
 obtain ⟨i1,i2,i3,rfl,d,hd⟩:=c7
 have c8:=IH.le.trans c5 X
 replace e:=e.mono X
 refine .ks 5 r (.nilS [4,3,2,1] r r (.seq (.dr [0,1,2,3,4,5,6,7,8] 9 (.g r r r (fun _=>.loadW ia49 sz49 r .z r r r .mk) (.fk 1 r (.g r r r (fun _=>.loadW ia49 sz49 r .z r r r .mk) (.ww r fun ex=>?_)))))))
 have c9:=W_ref21_Begin (I:=e5) (a0:=({ Kind:=1,N:=2,Source:=0,Length:=0,Draws:=([]:List Int) }:Plan)) (.nil _ none 0) hd
 refine .call call44 r c9 r r fun i4 e6 S d0=>?_
 obtain ⟨i5,i6,i7,i8,i9,j0,j1,rfl,Y,Z,a2,hd⟩:=d0
 have d1:=IH.le.trans c8 S
 replace e:=e.mono S
 replace d:=d.mono S
 refine .so 2 r r r (.ck 1 r r (.cg r r r r (fun _=>.loadW ia49 sz49 r .z r r r .mk) trivial)) (.ww r fun ex=>?_)
 have d2:=W_vertex_Mail (I:=e6) (a0:=({ Kind:=1,N:=2,Source:=0,Length:=0,Draws:=([]:List Int) }:Plan)) (.nil _ none 0) d Y Z a2 hd
 refine .call call30 r d2 r r fun j2 e7 i d3=>?_
 obtain ⟨j3,j4,j5,rfl,l,hd⟩:=d3
 have d4:=IH.le.trans d1 i
 replace e:=e.mono i
 replace d:=d.mono i
 replace Y:=Y.mono i
 replace Z:=Z.mono i
 replace a2:=a2.mono i
 refine .so 2 r r r trivial (.fk 4 r (.e2 9 (.ks 1 r (.nilS [6,5,4,3,2,1] r r (.sr (.loadW ia49 sz49 r .z r r r (.loadW ia24 sz24 r (.s .z) r r r ?_)))))))
 have a9:=W_vertex_Run (I:=e7) (a0:=({ Kind:=1,N:=2,Source:=0,Length:=0,Draws:=([]:List Int) }:Plan)) (a1:=({ N:=2,Edges:=([({ From:=0,To:=1,W:=7 }:Edge)]:List Edge) }:Graph)) (.nil _ none 0) e hd
 refine .call call37 r a9 r r fun f1 d5 m b0=>?_
 obtain ⟨f2,f3,f4,f5,f6,f7,f8,rfl,p,q,u,hd⟩:=b0
 have b1:=IH.le.trans d4 m
 replace e:=e.mono m
 replace d:=d.mono m
 replace l:=l.mono m
 refine .ks 3 r (.allocA zv44 r r fun f9=>?_)
 refine .storeA sz44 r r .z (.t (.t (.t (.t (.t (.t (.t .nil))))))) r r (.ks 1 r (.nilS [8,7,6,5,4,3,2,1] r r (.sr (.loadW ia49 sz49 r (.s .z) r r r (.loadW ia24 sz24 r (.s (.s .z)) r r r ?_)))))
 have b2:=W_vertex_Letters (I:=d5) (a0:=({ Kind:=1,N:=2,Source:=0,Length:=0,Draws:=([]:List Int) }:Plan)) (a1:=({ N:=2,Edges:=([({ From:=0,To:=1,W:=7 }:Edge)]:List Edge) }:Graph)) (.nil _ none 0) e hd
 refine .callP call39 r b2 r r fun g0 b3=>?_
 obtain ⟨g1,rfl,hd⟩:=b3
 refine .ks 5 r (.nilS [10,9,8,7,6,5,4,3] r r (.drop (.s .z) (.drop (.s .z) (.sr (.build zv127 un127 BI127 (.c r r r (.s (.t .nil)) .n) (by exact ⟨⟨_,_,r,r,r⟩,trivial⟩) r r (.build zv127 un127 BI127 (.c r r r (.s (.t .nil)) .n) (by exact ⟨⟨_,_,r,r,r⟩,trivial⟩) r r (.buildSlice 2 un78 sz127 zv127 r r (.c r r r (.c r r r .n)) r r fun g2=>?_)))))))
 refine .pubB (El:=eWide) (ys:=([({ Hi:=0,Lo:=5 }:Wide),({ Hi:=0,Lo:=3 }:Wide)]:List Wide)) (k:=2) .z (RepCs.cons (cs:=[.int .i64 0,.int .u64 5]) r (RepCs.cons (cs:=[.int .i64 0,.int .u64 3]) r .nil)) r fun a3 f d6=>?_
 have a:=IH.le.trans b1 f
 replace d:=d.mono f
 replace l:=l.mono f
 replace p:=p.mono f
 replace q:=q.mono f
 replace u:=u.mono f
 have b4:=W_vertex_Hear (I:=a3) d6 hd
 refine .callP call33 r b4 r r fun g3 b5=>?_
 obtain ⟨g4,rfl,hd⟩:=b5
 refine .ks 7 r (.nilS [12,11,10,9,8,7,6,5,4,3] r r (.sr ?_))
 have b7:=W_vertex_Hear (I:=a3) (.nil _ none 0) hd
 refine .callP call33 r b7 r r fun g5 b8=>?_
 obtain ⟨d7,rfl,hd⟩:=b8
 refine .ks 7 r (.nilS [16,12,11,10,9,8,7,6,5,4,3] r r (.sr (.ks 3 r ?_)))
 refine splitP hd (fun v hd=>?_) fun v hd=>?_
 · rw [v]
   refine .ks 1 r (.gyes r r r (.len un22 r r r r (.ks 3 r ?_)))
   refine splitP hd (fun w hd=>?_) fun w hd=>?_
   · rw [w]
     refine .ks 1 r ?_
     obtain ⟨a4,g6,T,hd⟩:=hd
     obtain ⟨g7,o179,e8,d8,x,c0⟩:=d.2 _ _ T
     cases c0
     refine .gyes r r r (.ixa un22 sz27 r d8 r a4 (idx_lt T a4) r r (.gyes r r r (.fa un27 r sz2 r (o:=o179+(Int.toNat 0)*3+2) r r r (.gyes r r r (.ld1 (j:=2) ia2 x r r r r r (.ks 3 r ?_))))))
     refine splitP hd (fun y hd=>?_) fun y hd=>?_
     · rw [y]
       refine .ks 4 r ?_
       refine splitP hd (fun A hd=>?_) fun A hd=>?_
       · rw [A]
         refine .ks 1 r (.gyes r r r (.len un74 r r r r (.ks 3 r ?_)))
         refine splitP hd (fun B hd=>?_) fun B hd=>?_
         · rw [B]
           refine .ks 1 r ?_
           obtain ⟨a5,g8,U,hd⟩:=hd
           obtain ⟨g9,o191,e9,d9,C,c1⟩:=l.2 _ _ U
           obtain ⟨h0,h1,rfl,a6⟩:=c1
           refine .gyes r r r (.ixa un74 sz78 r d9 r a5 (idx_lt U a5) r r (.gyes r r r (.ld1 (j:=0) isAgg78 C r r r r r (.gyes r r r (.len un78 r r r r (.ks 3 r ?_))))))
           refine splitP hd (fun D hd=>?_) fun D hd=>?_
           · rw [D]
             refine .ks 1 r ?_
             obtain ⟨a7,h2,V,hd⟩:=hd
             obtain ⟨h3,o204,f0,e0,E,c2⟩:=l.2 _ _ V
             obtain ⟨h4,h5,rfl,a8⟩:=c2
             refine .gyes r r r (.ixa un74 sz78 r e0 r a7 (idx_lt V a7) r r (.gyes r r r (.ld1 (j:=0) isAgg78 E r r r r r (.gyes r r r (.len un78 r r r r (.ks 3 r ?_))))))
             refine splitP hd (fun F hd=>?_) fun F hd=>?_
             · rw [F]
               refine .ks 4 r ?_
               refine splitP hd (fun G hd=>?_) fun G hd=>?_
               · rw [G]
                 refine .gyes r r r (.fa un44 r sz39 r (o:=0) r r r (.gyes r r r (.load1 isAgg39 r .z r r r (.ks 3 r ?_))))
                 refine splitP hd (fun H hd=>?_) fun H hd=>?_
                 · rw [H]
                   refine .gyes r r r (.fa un44 r sz3 r (o:=1) r r r (.gyes r r r (.load1 ia3 r .z r r r (.ks 3 r ?_))))
                   refine splitP hd (fun J hd=>?_) fun J hd=>?_
                   · rw [J]
                     refine .gyes r r r (.fa un44 r sz42 r (o:=2) r r r (.gyes r r r (.fa un42 r sz30 r (o:=4) r r r (.gyes r r r (.load1 ia30 r .z r r r (.gyes r r r (.buildSlice 2 un30 sz2 zv2 r r (.c r r r (.c r r r .n)) r r fun h6=>?_)))))))
                     refine .pubB (El:=eI64) (ys:=([0,1]:List Int)) (k:=2) .z (RepCs.cons (cs:=[.int .i64 0]) r (RepCs.cons (cs:=[.int .i64 1]) r .nil)) r fun e1 b e3=>?_
                     have h:=IH.le.trans a b
                     replace d:=d.mono b
                     replace l:=l.mono b
                     replace p:=p.mono b
                     replace q:=q.mono b
                     replace u:=u.mono b
                     replace x:=x.mono b
                     replace a6:=a6.mono b
                     replace C:=C.mono b
                     replace a8:=a8.mono b
                     replace E:=E.mono b
                     have c3:=W_ref07_SameVals (I:=e1) p e3 hd
                     refine .gyes r r r (.callP call67 r c3 r r fun h7 c4=>?_)
                     obtain ⟨h8,rfl,hd⟩:=c4
                     refine .ks 2 r ?_
                     refine splitP hd (fun K hd=>?_) fun K hd=>?_
                     · rw [K]
                       refine .ks 4 r ?_
                       refine splitP hd (fun L hd=>?_) fun L hd=>?_
                       · rw [L]
                         refine .ks 4 r ?_
                         refine splitP hd (fun O hd=>?_) fun O hd=>?_
                         · rw [O]
                           refine .ks 4 r ?_
                           refine splitP hd (fun P hd=>?_) fun P hd=>?_
                           · rw [P]
                             refine .ks 3 r ?_
                             refine splitP hd (fun R hd=>?_) fun R hd=>?_
                             · rw [R]
                               exact .ks 4 r (.nilS [0] r r (.drop .z (.ret (pret results27 (.t r .n) h ⟨(d7.2.2==8),r,hd⟩))))
                             rw [R]
                             exact .ks 4 r (.nilS [0] r r (.drop .z (.ret (pret results27 (.t r .n) h ⟨false,r,hd⟩))))
                           rw [P]
                           exact .ks 7 r (.nilS [0] r r (.drop .z (.ret (pret results27 (.t r .n) h ⟨false,r,hd⟩))))
                         rw [O]
                         exact .ks 11 r (.nilS [0] r r (.drop .z (.ret (pret results27 (.t r .n) h ⟨false,r,hd⟩))))
                       rw [L]
                       exact .ks 15 r (.nilS [0] r r (.drop .z (.ret (pret results27 (.t r .n) h ⟨false,r,hd⟩))))
                     rw [K]
                     exact .ks 19 r (.nilS [0] r r (.drop .z (.ret (pret results27 (.t r .n) h ⟨false,r,hd⟩))))
                   rw [J]
                   exact .ks 26 r (.nilS [0] r r (.drop .z (.ret (pret results27 (.t r .n) a ⟨false,r,hd⟩))))
                 rw [H]
                 exact .ks 31 r (.nilS [0] r r (.drop .z (.ret (pret results27 (.t r .n) a ⟨false,r,hd⟩))))
               rw [G]
               exact .ks 36 r (.nilS [0] r r (.drop .z (.ret (pret results27 (.t r .n) a ⟨false,r,hd⟩))))
             rw [F]
             exact .ks 40 r (.nilS [0] r r (.drop .z (.ret (pret results27 (.t r .n) a ⟨false,r,hd⟩))))
           rw [D]
           exact .ks 47 r (.nilS [0] r r (.drop .z (.ret (pret results27 (.t r .n) a ⟨false,r,hd⟩))))
         rw [B]
         exact .ks 54 r (.nilS [0] r r (.drop .z (.ret (pret results27 (.t r .n) a ⟨false,r,hd⟩))))
       rw [A]
       exact .ks 59 r (.nilS [0] r r (.drop .z (.ret (pret results27 (.t r .n) a ⟨false,r,hd⟩))))
     rw [y]
     exact .ks 63 r (.nilS [0] r r (.drop .z (.ret (pret results27 (.t r .n) a ⟨false,r,hd⟩))))
   rw [w]
   exact .ks 70 r (.nilS [0] r r (.drop .z (.ret (pret results27 (.t r .n) a ⟨false,r,hd⟩))))
 rw [v]
 exact .ks 75 r (.nilS [0] r r (.drop .z (.ret (pret results27 (.t r .n) a ⟨false,r,hd⟩))))
theorem W_law35_VertexMail {I:IH} {a0:Law22_Case} {a1:Int} {a2:List Edge} {p1:Option Addr} {c2:Nat} {p4:Option Addr} {c5:Nat} {p7:Option Addr} {c8:Nat} {Q:Bool→Prop} (R3:RepSl eI64 I p1 c2 a0.P.Draws) (R6:RepSl eEdge I p4 c5 a0.G.Edges) (R9:RepSl eEdge I p7 c8 a2) (hd:law35_VertexMail a0 a1 a2 Q) :
  PFun prog 4 [.agg #[.int .i64 a0.P.Kind,.int .i64 a0.P.N,.int .i64 a0.P.Source,.int .i64 a0.P.Length,.slice p1 a0.P.Draws.length c2,.int .i64 a0.G.N,.slice p4 a0.G.Edges.length c5,.int .u8 a0.Limit],.int .u8 a1,.slice p7 a2.length c8] I (fun _=>o4_ Q):=by
 refine Fun.enter func4 r ntmps4 r (.c (.c (.c .n))) fun w0 M=>?_
 refine .sr (.boxA r r r fun n9=>?_)
 refine .ks 1 r (.nilS [3,2,1] r r (.sr (.loadW isAgg64 sizeOf64 r .z r r r ?_)))
 have f5:=W_law22_Case_Make (I:=I) R3 R6 hd
 refine .call call24 r f5 r r fun o0 h9 C f6=>?_
 obtain ⟨q,i0,i1,i2,i3,rfl,a,f,hd⟩:=f6
 replace R3:=R3.mono C
 replace R6:=R6.mono C
 replace R9:=R9.mono C
 refine .ks 4 r (.allocA zv49 r r fun f2=>?_)
 refine .allocA zv24 r r fun f3=>?_
 refine .storeA sz49 r r (.s .z) (.t (.t (.t (.t (.t .nil))))) r r (.storeA sz24 r r .z (.t (.t .nil)) r r (.ks 1 r (.nilS [8,7,2,1] r r (.drop (.s (.s .z)) (.sr (.loadW ia49 sz49 r (.s .z) r r r (.loadW ia24 sz24 r .z r r r ?_)))))))
 have f7:=W_vertex_Links (I:=h9) a f hd
 refine .call call25 r f7 r r fun o1 i4 D f8=>?_
 obtain ⟨f4,i5,i6,rfl,p,hd⟩:=f8
 have f9:=IH.le.trans C D
 replace R9:=R9.mono D
 replace a:=a.mono D
 replace f:=f.mono D
 refine .ks 5 r (.nilS [11,10,8,7,2,1] r r (.sr (.loadW ia49 sz49 r (.s .z) r r r (.loadW ia24 sz24 r .z r r r ?_))))
 have g0:=W_ref35_Links (I:=i4) a f hd
 refine .call call26 r g0 r r fun o2 u v g1=>?_
 obtain ⟨o3,o4,o5,rfl,i7,hd⟩:=g1
 have g2:=IH.le.trans f9 v
 replace R9:=R9.mono v
 replace a:=a.mono v
 replace f:=f.mono v
 replace p:=p.mono v
 refine .ks 5 r (.nilS [13,12,11,10,8,7,2,1] r r (.seq (.seq ?_)))
 refine Cod.joinQ (σ:=Bool) hd (fun (a5:Bool) c w=>∃ I_,IH.le u I_∧Ok ⟨132,[],none⟩ [(1,.int .u8 a1),(2,.slice p7 a2.length c8),(7,.pointer (some ⟨f2,0,none⟩)),(8,.pointer (some ⟨f3,0,none⟩)),(10,.slice i5 f4.1.length i6),(58,.bool a5)] c∧Sym w0 M I I_ [pto f2 (.cells #[.int .i64 q.1.Kind,.int .i64 q.1.N,.int .i64 q.1.Source,.int .i64 q.1.Length,.slice i0 q.1.Draws.length i1] 49 (0,0)),pto f3 (.cells #[.int .i64 q.2.1.N,.slice i2 q.2.1.Edges.length i3] 24 (0,0))] w) (fun j4 hd=>?_) ?_
 · skip
   refine .region ?_
   have b3:=W_law35_live (I:=u) hd
   refine .callP call27 r b3 r r fun j5 b4=>?_
   obtain ⟨j6,rfl,hd⟩:=b4
   refine .ks 2 r ?_
   refine splitP hd (fun E hd=>?_) fun E hd=>?_
   · rw [E]
     exact .ks 15 r (.nil' fun c w ho hs=>⟨true,hd,u,(.refl _),ho.sub ⟨r,r,r,r,r,r,trivial⟩,hs.pick (.c (.s .z) (.c .z .n))⟩)
   rw [E]
   refine .ks 5 r ?_
   refine splitP hd (fun F hd=>?_) fun F hd=>?_
   · rw [F]
     exact .ks 10 r (.nil' fun c w ho hs=>⟨true,hd,u,(.refl _),ho.sub ⟨r,r,r,r,r,r,trivial⟩,hs.pick (.c (.s .z) (.c .z .n))⟩)
   rw [F]
   refine .ks 2 r ?_
   have b5:=W_ref05_SameEdges (I:=u) p i7 hd
   refine .gyes r r r (.callP call28 r b5 r r fun j7 b6=>?_)
   obtain ⟨j8,rfl,hd⟩:=b6
   refine .ks 3 r ?_
   refine splitP hd (fun H hd=>?_) fun H hd=>?_
   · rw [H]
     exact .ks 4 r (.nil' fun c w ho hs=>⟨true,hd,u,(.refl _),ho.sub ⟨r,r,r,r,r,r,trivial⟩,hs.pick (.c (.s .z) (.c .z .n))⟩)
   rw [H]
   exact .ks 1 r (.gyes r r r (.len un22 r r r r (.ks 2 r (.nil' fun c w ho hs=>⟨(decide (20<(a2.length:Int))),hd,u,(.refl _),ho.sub ⟨r,r,r,r,r,r,trivial⟩,hs.pick (.c (.s .z) (.c .z .n))⟩))))
 rintro a5 hd c w hst
 obtain ⟨a6,i,hok,hsym⟩:=hst
 have J:=IH.le.trans g2 i
 replace R9:=R9.mono i
 replace a:=a.mono i
 replace f:=f.mono i
 replace p:=p.mono i
 refine Cod.at hok hsym (.condP r hd (fun b7 hd=>?_) fun b7 hd=>?_)
 · refine .sr ?_
   have b8:=W_law35_live (I:=a6) hd
   refine .callP call27 r b8 r r fun j9 b9=>?_
   obtain ⟨k0,rfl,hd⟩:=b9
   refine .ks 1 r ?_
   refine splitP hd (fun K hd=>?_) fun K hd=>?_
   · rw [K]
     exact .ks 1 r (.gyes r r r (.len un22 r r r r (.ks 3 r (.nilS [6] r r (.drop .z (.drop .z (.ret (pret results4 (.t r .n) J ⟨(decide (20<(a2.length:Int))),r,hd⟩))))))))
   rw [K]
   exact .ks 5 r (.nilS [6] r r (.drop .z (.drop .z (.ret (pret results4 (.t r .n) J ⟨false,r,hd⟩)))))
 refine .skipS [10,8,7,2,1] r r (.sr (.loadW ia49 sz49 r .z r r r (.loadW ia24 sz24 r (.s .z) r r r ?_)))
 have c0:=W_ref22_Trace (I:=a6) a f hd
 refine .call call29 r c0 r r fun k1 g3 k c1=>?_
 obtain ⟨k2,k3,k4,rfl,h,hd⟩:=c1
 have c3:=IH.le.trans J k
 have c4:=IH.le.trans i k
 replace R9:=R9.mono k
 replace a:=a.mono k
 replace f:=f.mono k
 replace p:=p.mono k
 refine .ks 5 r (.nilS [14,10,7,2,1] r r (.drop (.s .z) (.sr (.ks 1 r (.conv un5 un3 r r r (.ks 1 r (.len un71 r r r r ?_)))))))
 have c6:=W_law21_Within (I:=g3) hd
 refine .callP call16 r c6 r r fun k5 c7=>?_
 obtain ⟨k6,rfl,hd⟩:=c7
 refine .ks 1 r (.nilS [16,14,10,7,2] r r (.sr (.ks 1 r (.nilS [17,16,14,10,7,2] r r (.sr (.ks 2 r (.own0 eEdge 27 ?_)))))))
 obtain ⟨c9,hd⟩:=hd
 refine .append (ys:=f4.1) 24 .z un22 un22 IN27 r r r r r r r r r (.imm p r) c9 r r fun k7 k8=>?_
 refine .ks 1 r (.nilS [17,16,14,7,2] r r (.sr (.ks 2 r ?_)))
 obtain ⟨d0,hd⟩:=hd
 refine .append (ys:=a2) 24 .z un22 un22 IN27 r r r r r r r r r (.imm R9 r) d0 r r fun k9 l0=>?_
 refine .ks 1 r (.nilS [17,16,14,7] r r (.seq (.ownF .z fun i8=>?_)))
 refine .dr [0,1,2,3,4,5,6,7,8,9,10,11,12] 13 (.g r r r (fun _=>.loadW ia49 sz49 r (.s .z) r r r .mk) (.fk 3 r ?_))
 obtain ⟨a7,l1,X,hd⟩:=hd
 obtain ⟨l2,o271,i9,g4,l,d1⟩:=h.2 _ _ X
 obtain ⟨l3,l4,l5,l6,l7,l8,rfl,x,y,A⟩:=d1
 refine .g r r r (fun _=>.ixa un71 sz42 r g4 r a7 (idx_lt X a7) r r .mk) (.g r r r (fun _=>.ldW ia42 sz42 l r r r r .mk) (.fk 2 r (.ww r fun ex=>?_)))
 refine .pub .z fun g5 e o=>?_
 have d2:=IH.le.trans c3 e
 have d3:=IH.le.trans c4 e
 replace a:=a.mono e
 replace h:=h.mono e
 replace x:=x.mono e
 replace y:=y.mono e
 replace A:=A.mono e
 replace l:=l.mono e
 have d4:=W_vertex_Mail (I:=g5) a o x y A hd
 refine .call call30 r d4 r r fun l9 g6 d d5=>?_
 obtain ⟨g7,g8,g9,rfl,B,hd⟩:=d5
 have d6:=IH.le.trans d2 d
 have d7:=IH.le.trans d3 d
 replace a:=a.mono d
 replace h:=h.mono d
 replace x:=x.mono d
 replace y:=y.mono d
 replace A:=A.mono d
 replace l:=l.mono d
 replace o:=o.mono d
 refine .so 1 r r r trivial (.fk 4 r (.e2 13 (.ks 1 r (.nilS [19,18,17,16,14,7] r r (.seq (.dr [0,1,2,3,4,5,6,7,8,9,10,11,12] 13 (.g r r r (fun _=>.loadW ia49 sz49 r .z r r r .mk) (.fk 3 r ?_))))))))
 obtain ⟨a8,m0,Y,hd⟩:=hd
 obtain ⟨m1,o336,j0,h0,L,d8⟩:=h.2 _ _ Y
 obtain ⟨m2,m3,m4,m5,m6,m7,rfl,S,T,U⟩:=d8
 refine .g r r r (fun _=>.ixa un71 sz42 r h0 r a8 (idx_lt Y a8) r r .mk) (.g r r r (fun _=>.ldW ia42 sz42 L r r r r .mk) (.fk 2 r (.ww r fun ex=>?_)))
 have d9:=W_ref35_Mail (I:=g6) a o S T U hd
 refine .call call31 r d9 r r fun m8 a9 b e0=>?_
 obtain ⟨h1,h2,h3,rfl,V,hd⟩:=e0
 have O:=IH.le.trans d6 b
 have e1:=IH.le.trans d7 b
 replace a:=a.mono b
 replace h:=h.mono b
 replace o:=o.mono b
 replace B:=B.mono b
 replace S:=S.mono b
 replace T:=T.mono b
 replace U:=U.mono b
 replace L:=L.mono b
 refine .so 1 r r r trivial (.fk 4 r (.e2 13 (.ks 1 r (.nilS [21,20,19,18] r r (.drop .z (.seq (.sr (.ks 4 r ?_))))))))
 refine splitP hd (fun R hd=>?_) fun R hd=>?_
 · rw [R]
   exact .ks 6 r (.nilS [115,20,18] r r (.condKT r r (.sr (.ks 1 r (.nilS [6] r r (.ret (pret results4 (.t r .n) O ⟨false,r,hd⟩)))))))
 rw [R]
 refine .ks 1 r (.gyes r r r (.len un74 r r r r (.ks 1 r (.gyes r r r (.len un74 r r r r (.ks 2 r (.nilS [115,20,18] r r (.condP r hd (fun e3 hd=>?_) fun e3 hd=>?_))))))))
 · exact .sr (.ks 1 r (.nilS [6] r r (.ret (pret results4 (.t r .n) O ⟨false,r,hd⟩))))
 refine .skipS [20,18] r r (.seq (.sr (.ks 1 r (.nilS [22,20,18] r r (.block (.loop hd (fun (W:Int) c w=>∃ I_,IH.le a9 I_∧Ok ⟨132,[],none⟩ [(18,.slice g8 g7.1.length g9),(20,.slice h2 h1.1.length h3),(22,.int .i64 W)] c∧Sym w0 M I I_ [] w) (fun c w ho hs=>⟨a9,(.refl _),ho.sub ⟨r,r,r,trivial⟩,hs.pick .n⟩) ?_))))))
 rintro W h8 hd c w hst
 obtain ⟨b0,m,hok,hsym⟩:=hst
 have Z:=IH.le.trans O m
 have j1:=IH.le.trans e1 m
 replace B:=B.mono m
 replace V:=V.mono m
 refine Cod.at hok hsym (.seq (.sr (.ks 2 r (.len un74 r r r r (.ks 1 r (.nilS [119,22,20,18] r r (.condP r hd (fun e4 hd=>?_) fun e4 hd=>?_)))))))
 · refine .skipS [22,20,18] r r (.seq (.block (.seq (.dr [0,1,2,3,4,5,6,7,8,9] 10 (.fk 2 r ?_)))))
   obtain ⟨b1,m9,a3,hd⟩:=hd
   obtain ⟨n0,o443,j2,h4,e5,e6⟩:=B.2 _ _ a3
   obtain ⟨n1,n2,rfl,h5⟩:=e6
   refine .g r r r (fun _=>.ixa un74 sz78 r h4 r b1 (idx_lt a3 b1) r r .mk) (.g r r r (fun _=>.ld1 (j:=0) isAgg78 e5 r r r r r .mk) (.fk 2 r ?_))
   obtain ⟨b2,n3,a4,hd⟩:=hd
   obtain ⟨n4,o455,j3,h6,e7,e8⟩:=V.2 _ _ a4
   obtain ⟨n5,n6,rfl,h7⟩:=e8
   refine .g r r r (fun _=>.ixa un74 sz78 r h6 r b2 (idx_lt a4 b2) r r .mk) (.g r r r (fun _=>.ld1 (j:=0) isAgg78 e7 r r r r r .mk) (.ww r fun ex=>?_))
   have e9:=W_ref35_SameWide (I:=b0) h5 h7 hd
   refine .callP call32 r e9 r r fun n7 f0=>?_
   obtain ⟨n8,rfl,hd⟩:=f0
   refine .so 0 r r r trivial (.fk 1 r (.e2 10 (.nilS [131,22,20,18] r r (.condP r hd (fun f1 hd=>?_) fun f1 hd=>?_))))
   · exact .sr (.ks 1 r (.nilS [6] r r (.ret (pret results4 (.t r .n) Z ⟨false,r,hd⟩))))
   exact .skipS [22,20,18] r r (.region (.ks 3 r (.nil' fun c w ho hs=>⟨(w64 (W+1)),hd,b0,m,ho.sub ⟨r,r,r,trivial⟩,hs.pick .n⟩)))
 exact .exitS [] r r (.sr (.ks 1 r (.nilS [6] r r (.ret (pret results4 (.t r .n) Z ⟨true,r,hd⟩)))))
end Go.Proofs.YtaefnmlbnkmahaaGreat
