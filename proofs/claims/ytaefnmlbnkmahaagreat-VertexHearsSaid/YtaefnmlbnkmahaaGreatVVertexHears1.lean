/- The walks (printed by a program of ours). -/
import Derived.Test.YtaefnmlbnkmahaaGreatV2
namespace Go.Proofs.YtaefnmlbnkmahaaGreat
open Go Go.Fw
set_option linter.unusedVariables false
set_option linter.unusedSimpArgs false
set_option maxRecDepth 8000
set_option maxHeartbeats 1000000
open Tryz
theorem W_ref01_Add {I:IH} {a0:Wide} {a1:Wide} {Q:Wide→Prop}  (hd:ref01_Add a0 a1 Q) :
  PFun prog 141 [.agg (encWide a0).toArray,.agg (encWide a1).toArray] I (fun _=>o2_ Q):=by
 refine Fun.enter func141 r ntmps141 r (.c (.c .n)) fun w0 M=>?_
 refine .sr (.boxA r r r fun d=>?_)
 refine .boxA r r r fun e=>?_
 refine .allocA zv127 r r fun b=>?_
 refine .nilS [4,3,2] r r (.sr (.fa un127 r sz125 r (o:=1) r r r (.load1 ia125 r (.s (.s .z)) r r r (.fa un127 r sz125 r (o:=1) r r r (.load1 ia125 r (.s .z) r r r (.ks 2 r (.nilS [5,4,3,2] r r (.sr (.fa un127 r sz2 r (o:=0) r r r ?_)))))))))
 refine .load1 ia2 r (.s (.s .z)) r r r (.fa un127 r sz2 r (o:=0) r r r (.load1 ia2 r (.s .z) r r r (.ks 2 r (.nilS [6,5,4,2] r r (.drop (.s .z) (.seq (.sr (.ks 1 r (.fa un127 r sz125 r (o:=1) r r r ?_)))))))))
 refine .load1 ia125 r (.s .z) r r r (.ks 1 r (.nilS [20,6,5,4] r r (.drop (.s .z) (.condP r hd (fun a hd=>?_) fun a hd=>?_))))
 · exact .region (.ks 3 r (.nilS [6,5,4] r r (.sr (.ks 2 r (.build zv127 un127 BI127 (.c r r r (.t .nil) (.c r r r (.s (.t .nil)) .n)) (by exact ⟨⟨_,_,r,r,r⟩,⟨⟨_,_,r,r,r⟩,trivial⟩⟩) r r (.storeA sz127 r r .z (.t (.t .nil)) r r (.nilS [4] r r (.ret (pret results141 (.w ia127 sz127 r .z r .n) (.refl _) ⟨({ Hi:=w64 ((w64 (a0.Hi+a1.Hi))+1),Lo:=IntKind.wrap .u64 (a0.Lo+a1.Lo) }:Wide),r,hd⟩)))))))))
 exact .skipS [6,5,4] r r (.sr (.ks 2 r (.build zv127 un127 BI127 (.c r r r (.t .nil) (.c r r r (.s (.t .nil)) .n)) (by exact ⟨⟨_,_,r,r,r⟩,⟨⟨_,_,r,r,r⟩,trivial⟩⟩) r r (.storeA sz127 r r .z (.t (.t .nil)) r r (.nilS [4] r r (.ret (pret results141 (.w ia127 sz127 r .z r .n) (.refl _) ⟨({ Hi:=w64 (a0.Hi+a1.Hi),Lo:=IntKind.wrap .u64 (a0.Lo+a1.Lo) }:Wide),r,hd⟩)))))))
theorem W_ref01_Compare {I:IH} {a0:Wide} {a1:Wide} {Q:Int→Prop}  (hd:ref01_Compare a0 a1 Q) :
  PFun prog 143 [.agg (encWide a0).toArray,.agg (encWide a1).toArray] I (fun _=>o0_ Q):=by
 refine Fun.enter func143 r ntmps143 r (.c (.c .n)) fun w0 M=>?_
 refine .sr (.boxA r r r fun g=>?_)
 refine .boxA r r r fun h=>?_
 refine .ks 1 r (.nilS [3,2] r r (.seq ?_))
 refine Cod.joinQ (σ:=Unit) hd (fun (_:Unit) c w=>∃ I_,IH.le I I_∧Ok ⟨27,[],none⟩ [(2,.pointer (some ⟨g,0,none⟩)),(3,.pointer (some ⟨h,0,none⟩))] c∧Sym w0 M I I_ [pto g (.cells #[.int .i64 a0.Hi,.int .u64 a0.Lo] 127 (0,0)),pto h (.cells #[.int .i64 a1.Hi,.int .u64 a1.Lo] 127 (0,0))] w) (fun i hd=>?_) ?_
 · skip
   refine .sr (.fa un127 r sz2 r (o:=0) r r r (.load1 ia2 r (.s .z) r r r (.fa un127 r sz2 r (o:=0) r r r (.load1 ia2 r .z r r r (.ks 2 r ?_)))))
   refine splitP hd (fun a hd=>?_) fun a hd=>?_
   · rw [a]
     exact .ks 13 r (.nilS [23,3,2] r r (.condKT r r (.sr (.ks 1 r (.nilS [4] r r (.drop .z (.drop .z (.ret (pret results143 (.t r .n) (.refl _) ⟨(-1),r,hd⟩)))))))))
   rw [a]
   refine .gyes r r r (.fa un127 r sz2 r (o:=0) r r r (.gyes r r r (.load1 ia2 r (.s .z) r r r (.gyes r r r (.fa un127 r sz2 r (o:=0) r r r (.gyes r r r (.load1 ia2 r .z r r r (.ks 2 r ?_))))))))
   refine splitP hd (fun b hd=>?_) fun b hd=>?_
   · rw [b]
     refine .gyes r r r (.fa un127 r sz125 r (o:=1) r r r (.gyes r r r (.load1 ia125 r (.s .z) r r r (.gyes r r r (.fa un127 r sz125 r (o:=1) r r r (.gyes r r r (.load1 ia125 r .z r r r (.ks 3 r (.nilS [23,3,2] r r (.condP r hd (fun e hd=>?_) fun e hd=>?_))))))))))
     · exact .sr (.ks 1 r (.nilS [4] r r (.drop .z (.drop .z (.ret (pret results143 (.t r .n) (.refl _) ⟨(-1),r,hd⟩))))))
     exact .skip' fun c w ho hs=>⟨(),hd,I,(.refl _),ho.sub ⟨r,r,trivial⟩,hs.pick (.c (.s .z) (.c .z .n))⟩
   rw [b]
   exact .ks 7 r (.nilS [23,3,2] r r (.condKF r r (.skip' fun c w ho hs=>⟨(),hd,I,(.refl _),ho.sub ⟨r,r,trivial⟩,hs.pick (.c (.s .z) (.c .z .n))⟩)))
 rintro ⟨⟩ hd c w hst
 obtain ⟨j,d,hok,hsym⟩:=hst
 refine Cod.at hok hsym (.seq (.sr (.loadW ia127 sz127 r .z r r r (.loadW ia127 sz127 r (.s .z) r r r (.eqV r r (EQ127 a0 a1) (EG127 _ _ _ _ _) r r r (.nilS [26] r r (.drop .z (.drop .z (.condP r hd (fun f hd=>?_) fun f hd=>?_)))))))))
 · exact .sr (.ks 1 r (.nilS [4] r r (.ret (pret results143 (.t r .n) d ⟨0,r,hd⟩))))
 exact .skipS [] r r (.sr (.ks 1 r (.nilS [4] r r (.ret (pret results143 (.t r .n) d ⟨1,r,hd⟩)))))
theorem W_ref02_truth {I:IH} {a0:Bool} {Q:Wide→Prop}  (hd:ref02_truth a0 Q) :
  PFun prog 144 [.bool a0] I (fun _=>o2_ Q):=by
 refine Fun.enter func144 r ntmps144 r (.c .n) fun w0 M=>?_
 refine .sr (.allocA zv127 r r fun b=>?_)
 refine .nilS [2,0] r r (.seq (.sr (.ks 1 r (.nilS [3,2] r r (.condP r hd (fun a hd=>?_) fun a hd=>?_)))))
 · exact .sr (.build zv127 un127 BI127 (.c r r r (.s (.t .nil)) .n) (by exact ⟨⟨_,_,r,r,r⟩,trivial⟩) r r (.storeA sz127 r r .z (.t (.t .nil)) r r (.nilS [2] r r (.ret (pret results144 (.w ia127 sz127 r .z r .n) (.refl _) ⟨({ Hi:=0,Lo:=1 }:Wide),r,hd⟩)))))
 exact .skipS [2] r r (.sr (.build zv127 un127 BI127 .n (by exact trivial) r r (.storeA sz127 r r .z (.t (.t .nil)) r r (.nilS [2] r r (.ret (pret results144 (.w ia127 sz127 r .z r .n) (.refl _) ⟨({ Hi:=0,Lo:=0 }:Wide),r,hd⟩))))))
theorem W_ref02_Add {I:IH} {a0:Int} {a1:Wide} {a2:Wide} {Q:Wide→Prop}  (hd:ref02_Add a0 a1 a2 Q) :
  PFun prog 80 [.int .i64 a0,.agg (encWide a1).toArray,.agg (encWide a2).toArray] I (fun _=>o2_ Q):=by
 refine Fun.enter func80 r ntmps80 r (.c (.c (.c .n))) fun w0 M=>?_
 refine .sr (.boxA r r r fun A=>?_)
 refine .boxA r r r fun B=>?_
 refine .allocA zv127 r r fun e=>?_
 refine .nilS [6,5,4,0] r r (.sr (.ks 1 r (.nilS [7,6,5,4] r r (.block (.seq ?_)))))
 refine Cod.joinQ (σ:=Bool) hd (fun (f:Bool) c w=>∃ I_,IH.le I I_∧Ok ⟨35,[],none⟩ [(4,.pointer (some ⟨A,0,none⟩)),(5,.pointer (some ⟨B,0,none⟩)),(6,.pointer (some ⟨e,0,none⟩)),(7,.int .i64 a0),(9,.bool f)] c∧Sym w0 M I I_ [pto A (.cells #[.int .i64 a1.Hi,.int .u64 a1.Lo] 127 (0,0)),pto B (.cells #[.int .i64 a2.Hi,.int .u64 a2.Lo] 127 (0,0)),pto e (.cells #[.int .i64 0,.int .u64 0] 127 (0,0))] w) (fun F hd=>?_) ?_
 · skip
   refine .sr (.ks 2 r (.nilS [9,7,6,5,4] r r (.condP r hd (fun g hd=>?_) fun g hd=>?_)))
   · exact .skip' fun c w ho hs=>⟨(a0==1),hd,I,(.refl _),ho.sub ⟨r,r,r,r,r,trivial⟩,hs.pick (.c (.s (.s .z)) (.c (.s .z) (.c .z .n)))⟩
   refine .sr (.ks 2 r (.nilS [9,7,6,5,4] r r (.condP r hd (fun h hd=>?_) fun h hd=>?_)))
   · exact .skip' fun c w ho hs=>⟨(a0==3),hd,I,(.refl _),ho.sub ⟨r,r,r,r,r,trivial⟩,hs.pick (.c (.s (.s .z)) (.c (.s .z) (.c .z .n)))⟩
   exact .region (.ks 2 r (.nil' fun c w ho hs=>⟨(a0==4),hd,I,(.refl _),ho.sub ⟨r,r,r,r,r,trivial⟩,hs.pick (.c (.s (.s .z)) (.c (.s .z) (.c .z .n)))⟩))
 rintro f hd c w hst
 obtain ⟨d,a,hok,hsym⟩:=hst
 refine Cod.at hok hsym (.condP r hd (fun i hd=>?_) fun i hd=>?_)
 · refine .seq (.sr (.loadW ia127 sz127 r (.s .z) r r r (.loadW ia127 sz127 r .z r r r ?_)))
   have j:=W_ref01_Compare (I:=d) hd
   refine .callP call143 r j r r fun G k=>?_
   obtain ⟨H,rfl,hd⟩:=k
   refine .ks 1 r (.nilS [16,6,5,4] r r (.condP r hd (fun l hd=>?_) fun l hd=>?_))
   · exact .sr (.loadW ia127 sz127 r (.s .z) r r r (.storeA sz127 r r (.s (.s .z)) (.t (.t .nil)) r r (.nilS [6] r r (.drop .z (.drop .z (.ret (pret results80 (.w ia127 sz127 r .z r .n) a ⟨a2,r,hd⟩)))))))
   exact .skipS [6,4] r r (.drop (.s .z) (.sr (.loadW ia127 sz127 r .z r r r (.storeA sz127 r r (.s .z) (.t (.t .nil)) r r (.nilS [6] r r (.drop .z (.ret (pret results80 (.w ia127 sz127 r .z r .n) a ⟨a1,r,hd⟩))))))))
 refine .sr (.ks 2 r (.nilS [19,7,6,5,4] r r (.condP r hd (fun m hd=>?_) fun m hd=>?_)))
 · refine .sr (.loadW ia127 sz127 r .z r r r (.build zv127 un127 BI127 .n (by exact trivial) r r (.neV r r (EQ127 a1 ({ Hi:=0,Lo:=0 }:Wide)) (EG127 _ _ _ _ _) r r r (.ks 1 r ?_))))
   refine splitP hd (fun b hd=>?_) fun b hd=>?_
   · rw [b]
     refine .ks 4 r ?_
     have o:=W_ref02_truth (I:=d) hd
     refine .callP call144 r o r r fun J p=>?_
     obtain ⟨C,rfl,hd⟩:=p
     exact .storeA sz127 r r (.s (.s .z)) (.t (.t .nil)) r r (.nilS [6] r r (.drop .z (.drop .z (.ret (pret results80 (.w ia127 sz127 r .z r .n) a ⟨C,r,hd⟩)))))
   rw [b]
   refine .gyes r r r (.loadW ia127 sz127 r (.s .z) r r r (.gyes r r r (.build zv127 un127 BI127 .n (by exact trivial) r r (.gyes r r r (.neV r r (EQ127 a2 ({ Hi:=0,Lo:=0 }:Wide)) (EG127 _ _ _ _ _) r r r (.ks 1 r ?_))))))
   have q:=W_ref02_truth (I:=d) hd
   refine .callP call144 r q r r fun K u=>?_
   obtain ⟨D,rfl,hd⟩:=u
   exact .storeA sz127 r r (.s (.s .z)) (.t (.t .nil)) r r (.nilS [6] r r (.drop .z (.drop .z (.ret (pret results80 (.w ia127 sz127 r .z r .n) a ⟨D,r,hd⟩)))))
 refine .sr (.ks 2 r (.nilS [30,6,5,4] r r (.condP r hd (fun v hd=>?_) fun v hd=>?_)))
 · refine .sr (.loadW ia127 sz127 r .z r r r (.loadW ia127 sz127 r (.s .z) r r r ?_))
   have x:=W_ref01_Add (I:=d) hd
   refine .callP call141 r x r r fun L y=>?_
   obtain ⟨E,rfl,hd⟩:=y
   exact .storeA sz127 r r (.s (.s .z)) (.t (.t .nil)) r r (.nilS [6] r r (.drop .z (.drop .z (.ret (pret results80 (.w ia127 sz127 r .z r .n) a ⟨E,r,hd⟩)))))
 exact .sr (.build zv127 un127 BI127 .n (by exact trivial) r r (.storeA sz127 r r (.s (.s .z)) (.t (.t .nil)) r r (.nilS [6] r r (.drop .z (.drop .z (.ret (pret results80 (.w ia127 sz127 r .z r .n) a ⟨({ Hi:=0,Lo:=0 }:Wide),r,hd⟩)))))))
theorem W_ref01_Narrow {I:IH} {a0:Wide} {Q:(Int×Bool)→Prop}  (hd:ref01_Narrow a0 Q) :
  PFun prog 81 [.agg (encWide a0).toArray] I (fun _=>o3_ Q):=by
 refine Fun.enter func81 r ntmps81 r (.c .n) fun w0 M=>?_
 refine .sr (.boxA r r r fun h=>?_)
 refine .ks 2 r (.nilS [1] r r (.sr (.fa un127 r sz125 r (o:=1) r r r (.load1 ia125 r .z r r r (.conv un125 un2 r r r (.ks 1 r (.nilS [4,1] r r (.seq (.sr ?_)))))))))
 refine .fa un127 r sz2 r (o:=0) r r r (.load1 ia2 r .z r r r (.ks 2 r ?_))
 refine splitP hd (fun a hd=>?_) fun a hd=>?_
 · rw [a]
   refine .ks 4 r ?_
   refine splitP hd (fun b hd=>?_) fun b hd=>?_
   · rw [b]
     exact .ks 8 r (.nilS [23,4] r r (.drop .z (.condKT r r (.sr (.ks 3 r (.nilS [3,2] r r (.ret (pret results81 (.t r (.t r .n)) (.refl _) ⟨(w64 (a0.Lo),true),r,hd⟩))))))))
   rw [b]
   refine .gyes r r r (.fa un127 r sz2 r (o:=0) r r r (.gyes r r r (.load1 ia2 r .z r r r (.ks 2 r ?_))))
   refine splitP hd (fun d hd=>?_) fun d hd=>?_
   · rw [d]
     refine .ks 4 r (.nilS [23,4] r r (.drop .z (.condP r hd (fun g hd=>?_) fun g hd=>?_)))
     · exact .sr (.ks 3 r (.nilS [3,2] r r (.ret (pret results81 (.t r (.t r .n)) (.refl _) ⟨(w64 (a0.Lo),true),r,hd⟩))))
     exact .skipS [] r r (.sr (.ks 2 r (.nilS [3,2] r r (.ret (pret results81 (.t r (.t r .n)) (.refl _) ⟨(0,false),r,hd⟩)))))
   rw [d]
   exact .ks 4 r (.nilS [23,4] r r (.drop .z (.condKF r r (.skipS [] r r (.sr (.ks 2 r (.nilS [3,2] r r (.ret (pret results81 (.t r (.t r .n)) (.refl _) ⟨(0,false),r,hd⟩)))))))))
 rw [a]
 refine .ks 4 r (.gyes r r r (.fa un127 r sz2 r (o:=0) r r r (.gyes r r r (.load1 ia2 r .z r r r (.ks 2 r ?_)))))
 refine splitP hd (fun e hd=>?_) fun e hd=>?_
 · rw [e]
   refine .ks 4 r (.nilS [23,4] r r (.drop .z (.condP r hd (fun f hd=>?_) fun f hd=>?_)))
   · exact .sr (.ks 3 r (.nilS [3,2] r r (.ret (pret results81 (.t r (.t r .n)) (.refl _) ⟨(w64 (a0.Lo),true),r,hd⟩))))
   exact .skipS [] r r (.sr (.ks 2 r (.nilS [3,2] r r (.ret (pret results81 (.t r (.t r .n)) (.refl _) ⟨(0,false),r,hd⟩)))))
 rw [e]
 exact .ks 4 r (.nilS [23,4] r r (.drop .z (.condKF r r (.skipS [] r r (.sr (.ks 2 r (.nilS [3,2] r r (.ret (pret results81 (.t r (.t r .n)) (.refl _) ⟨(0,false),r,hd⟩)))))))))
theorem W_ref03_words {I:IH} {a0:Int} {Q:Int→Prop}  (hd:ref03_words a0 Q) :
  PFun prog 190 [.int .i64 a0] I (fun _=>o0_ Q):=by
 refine Fun.enter func190 r ntmps190 r (.c .n) fun w0 M=>?_
 refine .sr (.ks 1 r (.nilS [0] r r (.seq ?_)))
 refine Cod.joinQ (σ:=Int) hd (fun (b:Int) c w=>∃ I_,IH.le I I_∧Ok ⟨10,[],none⟩ [(0,.int .i64 b)] c∧Sym w0 M I I_ [] w) (fun f hd=>?_) ?_
 · skip
   refine .sr (.ks 2 r (.nilS [4,0] r r (.condP r hd (fun d hd=>?_) fun d hd=>?_)))
   · exact .region (.ks 1 r (.nil' fun c w ho hs=>⟨4096,hd,I,(.refl _),ho.sub ⟨r,trivial⟩,hs.pick .n⟩))
   exact .skip' fun c w ho hs=>⟨a0,hd,I,(.refl _),ho.sub ⟨r,trivial⟩,hs.pick .n⟩
 rintro b hd c w hst
 obtain ⟨g,a,hok,hsym⟩:=hst
 refine Cod.at hok hsym (.seq (.sr (.ks 2 r (.nilS [6,0] r r (.condP r hd (fun e hd=>?_) fun e hd=>?_)))))
 · exact .sr (.ks 1 r (.nilS [2] r r (.ret (pret results190 (.t r .n) a ⟨0,r,hd⟩))))
 exact .skipS [0] r r (.sr (.ks 2 r (.quo r r (by decide) r r (.ks 1 r (.nilS [2] r r (.ret (pret results190 (.t r .n) a ⟨(w64 ((w64 (b+63)).tdiv 64)),r,hd⟩)))))))
theorem W_ref03_New {I:IH} {a0:Int} {Q:(List Int)→Prop}  (hd:ref03_New a0 Q) :
  PFun prog 124 [.int .i64 a0] I (fun I_ v=>∃ r p1 c2,v=.slice p1 r.length c2∧RepSl eU64 I_ p1 c2 r∧Q r):=by
 refine Fun.enter func124 r ntmps124 r (.c .n) fun w0 M=>?_
 refine .sr (.ks 1 r (.nilS [0] r r (.sr (.ks 1 r ?_))))
 have b:=W_ref03_words (I:=I) hd
 refine .callP call190 r b r r fun k d=>?_
 obtain ⟨f,rfl,hd⟩:=d
 obtain ⟨g,h,hd⟩:=hd
 refine .make (El:=eU64) (zv:=0) 8 un40 IN125 r r r r r r g h r r r fun i=>?_
 refine .ks 1 r (.nilS [2] r r (.pub .z fun j a e=>?_))
 exact .ret (pret results124 (.t r .n) a ⟨(List.replicate f.toNat 0),_,_,r,e,hd⟩)
theorem W_ref03_set {I:IH} {a0:List Int} {a1:Int} {a2:Bool} {p1:Option Addr} {c2:Nat} {Q:(List Int)→Prop} (R3:RepSl eU64 I p1 c2 a0) (hd:ref03_set a0 a1 a2 Q) :
  PFun prog 191 [.slice p1 a0.length c2,.int .i64 a1,.bool a2] I (o20_ Q):=by
 refine Fun.enter func191 r ntmps191 r (.c (.c (.c .n))) fun w0 M=>?_
 refine .sr (.ks 1 r (.nilS [2,1,0] r r (.sr (.ks 1 r (.nilS [7,2,1,0] r r (.sr (.ks 2 r (.own0 eU64 125 ?_))))))))
 obtain ⟨s,hd⟩:=hd
 refine .append (ys:=a0) 8 .z un40 un40 IN125 r r r r r r r r r (.imm R3 r) s r r fun J a=>?_
 refine .ks 1 r (.nilS [7,2,1,0] r r (.seq (.sr (.ks 3 r ?_))))
 refine splitP hd (fun e hd=>?_) fun e hd=>?_
 · rw [e]
   refine .ks 6 r (.nilS [20,7,2,1] r r (.condKT r r (.sr (.ks 2 r (.nilS [6] r r (.pub .z fun K u C=>?_))))))
   exact .ret (pret results191 (.t r .n) u ⟨(([]:List Int)++a0),_,_,r,C,hd⟩)
 rw [e]
 refine .ks 1 r (.gyes r r r (.quo r r (by decide) r r (.ks 1 r (.gyes r r r (.len un40 r r r r (.ks 2 r (.nilS [20,7,2,1] r r (.condP r hd (fun v hd=>?_) fun v hd=>?_))))))))
 · refine .sr (.ks 2 r (.nilS [6] r r (.pub .z fun L w D=>?_)))
   exact .ret (pret results191 (.t r .n) w ⟨(([]:List Int)++a0),_,_,r,D,hd⟩)
 refine .skipS [7,2,1] r r (.sr (.ks 1 r (.rem r r (by decide) r r (.conv un3 underlying201 r r r ?_))))
 obtain ⟨x,hd⟩:=hd
 refine .shl' r r x r r (.ks 1 r (.nilS [8,7,2,1] r r (.seq (.sr (.ks 1 r (.nilS [26,8,7,1] r r (.condP r hd (fun y hd=>?_) fun y hd=>?_)))))))
 · refine .region (.ks 2 r (.quo r r (by decide) r r (.ks 2 r (.quo r r (by decide) r r ?_))))
   obtain ⟨m,b,f,hd⟩:=hd
   refine .ownNe .z (idx_ne f) fun h E=>?_
   cases E
   refine .ixa0 un40 sz125 r r m (idx_lt f m) r r (.lo1 (j:=0) ia125 .z f r r r r r (.ks 2 r ?_))
   obtain ⟨o,N,i,hd⟩:=hd
   refine .ixa0 un40 sz125 r r o (idx_lt i o) r r (.stO1 (j:=0) (v':=(bor .u64 b (shl .u64 1 (IntKind.wrap .u64 (a1.tmod 64))))) sz125 .z i r r r (.t .nil) r (.sub (E':=[(1,_),(7,.slice (some ⟨h,0,none⟩) ((([]:List Int)++a0).set ((w64 (a1.tdiv 64)).toNat) (bor .u64 b (shl .u64 1 (IntKind.wrap .u64 (a1.tmod 64))))).length a),(8,_),(26,_),(27,.slice (some ⟨h,0,none⟩) ((([]:List Int)++a0).set ((w64 (a1.tdiv 64)).toNat) (bor .u64 b (shl .u64 1 (IntKind.wrap .u64 (a1.tmod 64))))).length a),(28,_),(29,_),(30,.slice (some ⟨h,0,none⟩) ((([]:List Int)++a0).set ((w64 (a1.tdiv 64)).toNat) (bor .u64 b (shl .u64 1 (IntKind.wrap .u64 (a1.tmod 64))))).length a),(31,_),(32,_),(33,_),(34,_),(35,_),(36,_),(37,_)]) ⟨r,(by simp only [List.length_set]; rfl),r,r,(by simp only [List.length_set]; rfl),r,r,(by simp only [List.length_set]; rfl),r,r,r,r,r,r,r,trivial⟩ (.nilS [7] r r (.sr (.ks 2 r (.nilS [6] r r (.pub .z fun O A F=>?_)))))))
   exact .ret (pret results191 (.t r .n) A ⟨((([]:List Int)++a0).set ((w64 (a1.tdiv 64)).toNat) (bor .u64 b (shl .u64 1 (IntKind.wrap .u64 (a1.tmod 64))))),_,_,r,F,hd⟩)
 refine .region (.ks 2 r (.quo r r (by decide) r r (.ks 2 r (.quo r r (by decide) r r ?_))))
 obtain ⟨p,d,g,hd⟩:=hd
 refine .ownNe .z (idx_ne g) fun k G=>?_
 cases G
 refine .ixa0 un40 sz125 r r p (idx_lt g p) r r (.lo1 (j:=0) ia125 .z g r r r r r (.ks 2 r ?_))
 obtain ⟨q,P,l,hd⟩:=hd
 refine .ixa0 un40 sz125 r r q (idx_lt l q) r r (.stO1 (j:=0) (v':=(bandn .u64 d (shl .u64 1 (IntKind.wrap .u64 (a1.tmod 64))))) sz125 .z l r r r (.t .nil) r (.sub (E':=[(1,_),(7,.slice (some ⟨k,0,none⟩) ((([]:List Int)++a0).set ((w64 (a1.tdiv 64)).toNat) (bandn .u64 d (shl .u64 1 (IntKind.wrap .u64 (a1.tmod 64))))).length a),(8,_),(26,_),(38,.slice (some ⟨k,0,none⟩) ((([]:List Int)++a0).set ((w64 (a1.tdiv 64)).toNat) (bandn .u64 d (shl .u64 1 (IntKind.wrap .u64 (a1.tmod 64))))).length a),(39,_),(40,_),(41,.slice (some ⟨k,0,none⟩) ((([]:List Int)++a0).set ((w64 (a1.tdiv 64)).toNat) (bandn .u64 d (shl .u64 1 (IntKind.wrap .u64 (a1.tmod 64))))).length a),(42,_),(43,_),(44,_),(45,_),(46,_),(47,_),(48,_)]) ⟨r,(by simp only [List.length_set]; rfl),r,r,(by simp only [List.length_set]; rfl),r,r,(by simp only [List.length_set]; rfl),r,r,r,r,r,r,r,trivial⟩ (.nilS [7] r r (.sr (.ks 2 r (.nilS [6] r r (.pub .z fun R B H=>?_)))))))
 exact .ret (pret results191 (.t r .n) B ⟨((([]:List Int)++a0).set ((w64 (a1.tdiv 64)).toNat) (bandn .u64 d (shl .u64 1 (IntKind.wrap .u64 (a1.tmod 64))))),_,_,r,H,hd⟩)
theorem W_ref03_Put {I:IH} {a0:List Int} {a1:Int} {p1:Option Addr} {c2:Nat} {Q:(List Int)→Prop} (R3:RepSl eU64 I p1 c2 a0) (hd:ref03_Put a0 a1 Q) :
  PFun prog 125 [.slice p1 a0.length c2,.int .i64 a1] I (o20_ Q):=by
 refine Fun.enter func125 r ntmps125 r (.c (.c .n)) fun w0 M=>?_
 refine .sr (.ks 1 r (.nilS [1,0] r r (.sr (.ks 2 r ?_))))
 have b:=W_ref03_set (I:=I) R3 hd
 refine .call call191 r b r r fun g j a d=>?_
 obtain ⟨f,h,i,rfl,e,hd⟩:=d
 replace R3:=R3.mono a
 exact .ks 1 r (.nilS [4] r r (.ret (pret results125 (.t r .n) a ⟨f,_,_,r,e,hd⟩)))
theorem W_ref03_Of {I:IH} {a0:Int} {a1:List Int} {p1:Option Addr} {c2:Nat} {Q:(List Int)→Prop} (R3:RepSl eI64 I p1 c2 a1) (hd:ref03_Of a0 a1 Q) :
  PFun prog 62 [.int .i64 a0,.slice p1 a1.length c2] I (o20_ Q):=by
 refine Fun.enter func62 r ntmps62 r (.c (.c .n)) fun w0 M=>?_
 refine .sr (.ks 1 r (.nilS [1,0] r r (.sr (.ks 1 r ?_))))
 have S:=W_ref03_New (I:=I) hd
 refine .call call124 r S r r fun c1 R x T=>?_
 obtain ⟨c3,c4,c5,rfl,a4,hd⟩:=T
 replace R3:=R3.mono x
 refine .ks 1 r (.nilS [5,1,0] r r (.seq (.sr (.ks 1 r (.nilS [6,5,1,0] r r (.block (.loop hd (fun (s:(List Int)×Int) c w=>match s with | (b,f)=>∃ I_ l m,IH.le R I_∧RepSl eU64 I_ l m b∧Ok ⟨42,[],none⟩ [(0,.int .i64 a0),(1,.slice p1 a1.length c2),(5,.slice l b.length m),(6,.int .i64 f)] c∧Sym w0 M I I_ [] w) (fun c w ho hs=>⟨R,_,_,(.refl _),a4,ho.sub ⟨r,r,r,r,trivial⟩,hs.pick .n⟩) ?_)))))))
 rintro ⟨b,f⟩ a3 hd c w hst
 obtain ⟨g,l,m,a,d,hok,hsym⟩:=hst
 have o:=IH.le.trans x a
 replace R3:=R3.mono a
 refine Cod.at hok hsym (.seq (.sr (.ks 2 r (.len un29 r r r r (.ks 1 r (.nilS [12,6,5,1,0] r r (.condP r hd (fun C hd=>?_) fun C hd=>?_)))))))
 · refine .skipS [6,5,1,0] r r (.seq (.block (.sr (.ks 2 r ?_))))
   obtain ⟨y,b0,p,hd⟩:=hd
   obtain ⟨b1,o161,a5,U,D,E⟩:=R3.2 _ _ p
   cases E
   refine .ixa un29 sz3 r U r y (idx_lt p y) r r (.ld1 (j:=0) ia3 D r r r r r (.ks 2 r ?_))
   refine splitP hd (fun h hd=>?_) fun h hd=>?_
   · rw [h]
     refine .ks 2 r ?_
     obtain ⟨z,b2,q,hd⟩:=hd
     obtain ⟨b3,o171,a6,V,F,G⟩:=R3.2 _ _ q
     cases G
     refine .gyes r r r (.ixa un29 sz3 r V r z (idx_lt q z) r r (.gyes r r r (.ld1 (j:=0) ia3 F r r r r r (.ks 4 r ?_))))
     refine splitP hd (fun i hd=>?_) fun i hd=>?_
     · rw [i]
       refine .ks 2 r ?_
       obtain ⟨A,b4,u,hd⟩:=hd
       obtain ⟨b5,o181,a7,W,H,J⟩:=R3.2 _ _ u
       cases J
       refine .gyes r r r (.ixa un29 sz3 r W r A (idx_lt u A) r r (.gyes r r r (.ld1 (j:=0) ia3 H r r r r r (.ks 2 r (.nilS [34,6,5,1,0] r r (.condP r hd (fun K hd=>?_) fun K hd=>?_))))))
       · refine .region (.ks 3 r ?_)
         obtain ⟨B,b6,v,hd⟩:=hd
         obtain ⟨b7,o191,a8,X,k,L⟩:=R3.2 _ _ v
         cases L
         refine .ixa un29 sz3 r X r B (idx_lt v B) r r (.ld1 (j:=0) ia3 k r r r r r ?_)
         have N:=W_ref03_Put (I:=g) d hd
         refine .call call125 r N r r fun b8 Y e O=>?_
         obtain ⟨Z,b9,c0,rfl,a2,hd⟩:=O
         have a9:=IH.le.trans o e
         have P:=IH.le.trans a e
         replace R3:=R3.mono e
         replace d:=d.mono e
         replace k:=k.mono e
         exact .ks 1 r (.nilS [5,6,1,0] r r (.region (.ks 3 r (.nil' fun c w ho hs=>⟨(Z,w64 (f+1)),hd,Y,_,_,P,a2,ho.sub ⟨r,r,r,r,trivial⟩,hs.pick .n⟩))))
       exact .skipS [6,5,1,0] r r (.region (.ks 3 r (.nil' fun c w ho hs=>⟨(b,w64 (f+1)),hd,g,_,_,a,d,ho.sub ⟨r,r,r,r,trivial⟩,hs.pick .n⟩)))
     rw [i]
     exact .ks 6 r (.nilS [34,6,5,1,0] r r (.condKF r r (.skipS [6,5,1,0] r r (.region (.ks 3 r (.nil' fun c w ho hs=>⟨(b,w64 (f+1)),hd,g,_,_,a,d,ho.sub ⟨r,r,r,r,trivial⟩,hs.pick .n⟩))))))
   rw [h]
   exact .ks 14 r (.nilS [34,6,5,1,0] r r (.condKF r r (.skipS [6,5,1,0] r r (.region (.ks 3 r (.nil' fun c w ho hs=>⟨(b,w64 (f+1)),hd,g,_,_,a,d,ho.sub ⟨r,r,r,r,trivial⟩,hs.pick .n⟩))))))
 exact .exitS [5] r r (.sr (.ks 2 r (.nilS [4] r r (.ret (pret results62 (.t r .n) o ⟨b,_,_,r,d,hd⟩)))))
theorem W_vertex_named {I:IH} {a0:Plan} {a1:Graph} {p1:Option Addr} {c2:Nat} {p4:Option Addr} {c5:Nat} {Q:Graph→Prop} (R3:RepSl eI64 I p1 c2 a0.Draws) (R6:RepSl eEdge I p4 c5 a1.Edges) (hd:vertex_named a0 a1 Q) :
  PFun prog 65 [.agg #[.int .i64 a0.Kind,.int .i64 a0.N,.int .i64 a0.Source,.int .i64 a0.Length,.slice p1 a0.Draws.length c2],.agg #[.int .i64 a1.N,.slice p4 a1.Edges.length c5]] I (o22_ Q):=by
 refine Fun.enter func65 r ntmps65 r (.c (.c .n)) fun w0 M=>?_
 refine .sr (.boxA r r r fun a3=>?_)
 refine .boxA r r r fun a4=>?_
 refine .allocA zv24 r r fun a5=>?_
 refine .nilS [4,3,2] r r (.seq (.sr (.fa un49 r sz47 r (o:=0) r r r (.load1 ia47 r (.s (.s .z)) r r r (.nilS [6,4,3] r r (.drop (.s (.s .z)) (.block (.seq (.block ?_)))))))))
 refine .seq (.block (.seq (.block (.seq (.seq (.sr (.ks 2 r (.nilS [7,6,4,3] r r (.condP r hd (fun l hd=>?_) fun l hd=>?_)))))))))
 · refine .exitS [4,3] r r (.region (.loadW ia24 sz24 r (.s .z) r r r ?_))
   have m:=W_edges_Simple (I:=I) R6 hd
   refine .call call127 r m r r fun a6 P a p=>?_
   obtain ⟨a7,a8,a9,rfl,b,hd⟩:=p
   replace R6:=R6.mono a
   refine .storeA sz24 r r (.s .z) (.t (.t .nil)) r r (.nilS [4,3] r r (.region (.loadW ia24 sz24 r (.s .z) r r r ?_)))
   have q:=W_edges_Both (I:=P) b hd
   refine .call call128 r q r r fun b0 R d u=>?_
   obtain ⟨b1,b2,b3,rfl,e,hd⟩:=u
   have v:=IH.le.trans a d
   replace b:=b.mono d
   refine .storeA sz24 r r (.s .z) (.t (.t .nil)) r r (.nilS [4,3] r r (.seq (.sr (.loadW ia24 sz24 r (.s .z) r r r ?_))))
   have x:=W_edges_Plain (I:=R) e hd
   refine .call call129 r x r r fun b4 b5 f y=>?_
   obtain ⟨S,b6,b7,rfl,T,hd⟩:=y
   have A:=IH.le.trans v f
   replace e:=e.mono f
   exact .storeA sz24 r r .z (.t (.t .nil)) r r (.nilS [4] r r (.drop (.s .z) (.ret (pret results65 (.w ia24 sz24 r .z r .n) A ⟨S,_,_,r,T,hd⟩))))
 refine .skipS [6,4,3] r r (.seq (.sr (.ks 2 r (.nilS [9,6,4,3] r r (.condP r hd (fun B hd=>?_) fun B hd=>?_)))))
 · refine .exitS [4,3] r r (.region (.loadW ia24 sz24 r (.s .z) r r r ?_))
   have C:=W_edges_Both (I:=I) R6 hd
   refine .call call128 r C r r fun b8 U g D=>?_
   obtain ⟨b9,c0,c1,rfl,h,hd⟩:=D
   replace R6:=R6.mono g
   refine .storeA sz24 r r (.s .z) (.t (.t .nil)) r r (.nilS [4,3] r r (.seq (.sr (.loadW ia24 sz24 r (.s .z) r r r ?_))))
   have E:=W_edges_Plain (I:=U) h hd
   refine .call call129 r E r r fun c3 c4 i F=>?_
   obtain ⟨V,c6,c7,rfl,W,hd⟩:=F
   have G:=IH.le.trans g i
   replace h:=h.mono i
   exact .storeA sz24 r r .z (.t (.t .nil)) r r (.nilS [4] r r (.drop (.s .z) (.ret (pret results65 (.w ia24 sz24 r .z r .n) G ⟨V,_,_,r,W,hd⟩))))
 refine .skipS [6,4,3] r r (.sr (.ks 2 r (.nilS [11,4,3] r r (.condP r hd (fun H hd=>?_) fun H hd=>?_))))
 · refine .exitS [4,3] r r (.seq (.sr (.loadW ia24 sz24 r (.s .z) r r r ?_)))
   have J:=W_edges_Plain (I:=I) R6 hd
   refine .call call129 r J r r fun c8 c9 j K=>?_
   obtain ⟨X,d0,d1,rfl,Y,hd⟩:=K
   replace R6:=R6.mono j
   exact .storeA sz24 r r .z (.t (.t .nil)) r r (.nilS [4] r r (.drop (.s .z) (.ret (pret results65 (.w ia24 sz24 r .z r .n) j ⟨X,_,_,r,Y,hd⟩))))
 refine .skipS [4,3] r r (.exitS [4,3] r r (.sr (.loadW ia24 sz24 r (.s .z) r r r ?_)))
 have L:=W_edges_Canon (I:=I) R6 hd
 refine .call call131 r L r r fun d2 d3 k O=>?_
 obtain ⟨Z,d4,d5,rfl,a2,hd⟩:=O
 replace R6:=R6.mono k
 exact .storeA sz24 r r .z (.t (.t .nil)) r r (.nilS [4] r r (.drop (.s .z) (.ret (pret results65 (.w ia24 sz24 r .z r .n) k ⟨Z,_,_,r,a2,hd⟩))))
theorem W_vertex_Links {I:IH} {a0:Plan} {a1:Graph} {p1:Option Addr} {c2:Nat} {p4:Option Addr} {c5:Nat} {Q:((List Edge)×Int)→Prop} (R3:RepSl eI64 I p1 c2 a0.Draws) (R6:RepSl eEdge I p4 c5 a1.Edges) (hd:vertex_Links a0 a1 Q) :
  PFun prog 25 [.agg #[.int .i64 a0.Kind,.int .i64 a0.N,.int .i64 a0.Source,.int .i64 a0.Length,.slice p1 a0.Draws.length c2],.agg #[.int .i64 a1.N,.slice p4 a1.Edges.length c5]] I (o23_ Q):=by
 refine Fun.enter func25 r ntmps25 r (.c (.c .n)) fun w0 M=>?_
 refine .sr (.boxA r r r fun o=>?_)
 refine .boxA r r r fun p=>?_
 refine .ks 2 r (.nilS [3,2] r r (.seq (.sr (.loadW ia49 sz49 r (.s .z) r r r (.loadW ia24 sz24 r .z r r r ?_)))))
 have d:=W_prog_Matrix (I:=I) R3 R6 hd
 refine .call call64 r d r r fun q j a e=>?_
 obtain ⟨k,u,v,w,x,y,A,rfl,B,C,D,hd⟩:=e
 replace R3:=R3.mono a
 replace R6:=R6.mono a
 refine .ks 3 r (.allocA zv32 r r fun E=>?_)
 refine .storeA sz32 r r .z (.t (.t (.t (.t (.t .nil))))) r r (.ks 1 r (.nilS [7,3,2] r r (.drop .z (.sr (.ks 2 r (.nilS [15,7,3,2] r r (.condP r hd (fun f hd=>?_) fun f hd=>?_)))))))
 · exact .sr (.ks 3 r (.nilS [5,4] r r (.drop .z (.drop .z (.ret (pret results25 (.t r (.t r .n)) a ⟨(([]:List Edge),k.2),_,_,r,(.nil _ _ _),hd⟩))))))
 refine .skipS [3,2] r r (.sr (.loadW ia49 sz49 r (.s .z) r r r (.loadW ia24 sz24 r .z r r r ?_)))
 have g:=W_vertex_named (I:=j) R3 R6 hd
 refine .call call65 r g r r fun F G b h=>?_
 obtain ⟨l,H,J,rfl,m,hd⟩:=h
 have i:=IH.le.trans a b
 replace R3:=R3.mono b
 replace R6:=R6.mono b
 exact .field1 un24 r ia22 r r r r (.ks 2 r (.nilS [5,4] r r (.drop .z (.drop .z (.ret (pret results25 (.t r (.t r .n)) i ⟨(l.Edges,0),_,_,r,m,hd⟩))))))
theorem W_ref21_from {I:IH} {a0:Int} {Q:Bool→Prop}  (hd:ref21_from a0 Q) :
  PFun prog 92 [.int .i64 a0] I (fun _=>o4_ Q):=by
 refine Fun.enter func92 r ntmps92 r (.c .n) fun w0 M=>?_
 refine .sr (.ks 1 r (.nilS [0] r r (.sr (.ks 3 r ?_))))
 refine splitP hd (fun a hd=>?_) fun a hd=>?_
 · rw [a]
   exact .ks 8 r (.nilS [2] r r (.ret (pret results92 (.t r .n) (.refl _) ⟨true,r,hd⟩)))
 rw [a]
 refine .ks 4 r ?_
 refine splitP hd (fun b hd=>?_) fun b hd=>?_
 · rw [b]
   exact .ks 4 r (.nilS [2] r r (.ret (pret results92 (.t r .n) (.refl _) ⟨true,r,hd⟩)))
 rw [b]
 exact .ks 4 r (.nilS [2] r r (.ret (pret results92 (.t r .n) (.refl _) ⟨(a0==4),r,hd⟩)))
theorem W_ref21_Right {I:IH} {a0:Plan} {p1:Option Addr} {c2:Nat} {Q:Int→Prop} (R3:RepSl eI64 I p1 c2 a0.Draws) (hd:ref21_Right a0 Q) :
  PFun prog 71 [.agg #[.int .i64 a0.Kind,.int .i64 a0.N,.int .i64 a0.Source,.int .i64 a0.Length,.slice p1 a0.Draws.length c2]] I (fun _=>o0_ Q):=by
 refine Fun.enter func71 r ntmps71 r (.c .n) fun w0 M=>?_
 refine .sr (.boxA r r r fun B=>?_)
 refine .ks 1 r (.nilS [1] r r (.seq (.sr (.fa un49 r sz47 r (o:=0) r r r (.load1 ia47 r .z r r r (.ks 2 r ?_))))))
 refine splitP hd (fun e hd=>?_) fun e hd=>?_
 · rw [e]
   exact .ks 4 r (.nilS [11,1] r r (.condKT r r (.sr (.ks 1 r (.nilS [2] r r (.drop .z (.ret (pret results71 (.t r .n) (.refl _) ⟨8,r,hd⟩))))))))
 rw [e]
 refine .gyes r r r (.fa un49 r sz47 r (o:=0) r r r (.gyes r r r (.load1 ia47 r .z r r r (.ks 2 r (.nilS [11,1] r r (.condP r hd (fun K hd=>?_) fun K hd=>?_))))))
 · exact .sr (.ks 1 r (.nilS [2] r r (.drop .z (.ret (pret results71 (.t r .n) (.refl _) ⟨8,r,hd⟩)))))
 refine .skipS [1] r r (.seq ?_)
 refine Cod.joinQ (σ:=Unit) hd (fun (_:Unit) c w=>∃ I_,IH.le I I_∧Ok ⟨77,[],none⟩ [(1,.pointer (some ⟨B,0,none⟩))] c∧Sym w0 M I I_ [pto B (.cells #[.int .i64 a0.Kind,.int .i64 a0.N,.int .i64 a0.Source,.int .i64 a0.Length,.slice p1 a0.Draws.length c2] 49 (0,0))] w) (fun a4 hd=>?_) ?_
 · skip
   refine .sr (.fa un49 r sz3 r (o:=1) r r r (.load1 ia3 r .z r r r (.ks 2 r ?_)))
   refine splitP hd (fun f hd=>?_) fun f hd=>?_
   · rw [f]
     exact .ks 36 r (.nilS [51,1] r r (.condKT r r (.sr (.ks 1 r (.nilS [2] r r (.drop .z (.ret (pret results71 (.t r .n) (.refl _) ⟨3,r,hd⟩))))))))
   rw [f]
   refine .gyes r r r (.fa un49 r sz3 r (o:=1) r r r (.gyes r r r (.load1 ia3 r .z r r r (.ks 3 r ?_))))
   refine splitP hd (fun g hd=>?_) fun g hd=>?_
   · rw [g]
     exact .ks 31 r (.nilS [51,1] r r (.condKT r r (.sr (.ks 1 r (.nilS [2] r r (.drop .z (.ret (pret results71 (.t r .n) (.refl _) ⟨3,r,hd⟩))))))))
   rw [g]
   refine .gyes r r r (.fa un49 r sz47 r (o:=0) r r r (.gyes r r r (.load1 ia47 r .z r r r ?_)))
   have L:=W_ref21_from (I:=I) hd
   refine .gyes r r r (.callP call92 r L r r fun a5 O=>?_)
   obtain ⟨a6,rfl,hd⟩:=O
   refine .ks 1 r ?_
   refine splitP hd (fun h hd=>?_) fun h hd=>?_
   · rw [h]
     refine .gyes r r r (.fa un49 r sz3 r (o:=2) r r r (.gyes r r r (.load1 ia3 r .z r r r (.ks 2 r ?_))))
     refine splitP hd (fun i hd=>?_) fun i hd=>?_
     · rw [i]
       exact .ks 23 r (.nilS [51,1] r r (.condKT r r (.sr (.ks 1 r (.nilS [2] r r (.drop .z (.ret (pret results71 (.t r .n) (.refl _) ⟨3,r,hd⟩))))))))
     rw [i]
     refine .gyes r r r (.fa un49 r sz3 r (o:=2) r r r (.gyes r r r (.load1 ia3 r .z r r r (.gyes r r r (.fa un49 r sz3 r (o:=1) r r r (.gyes r r r (.load1 ia3 r .z r r r (.ks 5 r ?_))))))))
     refine splitP hd (fun k hd=>?_) fun k hd=>?_
     · rw [k]
       exact .ks 14 r (.nilS [51,1] r r (.condKT r r (.sr (.ks 1 r (.nilS [2] r r (.drop .z (.ret (pret results71 (.t r .n) (.refl _) ⟨3,r,hd⟩))))))))
     rw [k]
     refine .gyes r r r (.fa un49 r sz47 r (o:=0) r r r (.gyes r r r (.load1 ia47 r .z r r r (.ks 2 r ?_))))
     refine splitP hd (fun l hd=>?_) fun l hd=>?_
     · rw [l]
       refine .gyes r r r (.fa un49 r sz3 r (o:=3) r r r (.gyes r r r (.load1 ia3 r .z r r r (.ks 2 r ?_))))
       refine splitP hd (fun m hd=>?_) fun m hd=>?_
       · rw [m]
         exact .ks 6 r (.nilS [51,1] r r (.condKT r r (.sr (.ks 1 r (.nilS [2] r r (.drop .z (.ret (pret results71 (.t r .n) (.refl _) ⟨3,r,hd⟩))))))))
       rw [m]
       refine .gyes r r r (.fa un49 r sz3 r (o:=3) r r r (.gyes r r r (.load1 ia3 r .z r r r (.ks 4 r (.nilS [51,1] r r (.condP r hd (fun P hd=>?_) fun P hd=>?_))))))
       · exact .sr (.ks 1 r (.nilS [2] r r (.drop .z (.ret (pret results71 (.t r .n) (.refl _) ⟨3,r,hd⟩)))))
       exact .skip' fun c w ho hs=>⟨(),hd,I,(.refl _),ho.sub ⟨r,trivial⟩,hs.pick (.c .z .n)⟩
     rw [l]
     exact .ks 10 r (.nilS [51,1] r r (.condKF r r (.skip' fun c w ho hs=>⟨(),hd,I,(.refl _),ho.sub ⟨r,trivial⟩,hs.pick (.c .z .n)⟩)))
   rw [h]
   refine .ks 13 r (.gyes r r r (.fa un49 r sz47 r (o:=0) r r r (.gyes r r r (.load1 ia47 r .z r r r (.ks 2 r ?_)))))
   refine splitP hd (fun p hd=>?_) fun p hd=>?_
   · rw [p]
     refine .gyes r r r (.fa un49 r sz3 r (o:=3) r r r (.gyes r r r (.load1 ia3 r .z r r r (.ks 2 r ?_))))
     refine splitP hd (fun q hd=>?_) fun q hd=>?_
     · rw [q]
       exact .ks 6 r (.nilS [51,1] r r (.condKT r r (.sr (.ks 1 r (.nilS [2] r r (.drop .z (.ret (pret results71 (.t r .n) (.refl _) ⟨3,r,hd⟩))))))))
     rw [q]
     refine .gyes r r r (.fa un49 r sz3 r (o:=3) r r r (.gyes r r r (.load1 ia3 r .z r r r (.ks 4 r (.nilS [51,1] r r (.condP r hd (fun R hd=>?_) fun R hd=>?_))))))
     · exact .sr (.ks 1 r (.nilS [2] r r (.drop .z (.ret (pret results71 (.t r .n) (.refl _) ⟨3,r,hd⟩)))))
     exact .skip' fun c w ho hs=>⟨(),hd,I,(.refl _),ho.sub ⟨r,trivial⟩,hs.pick (.c .z .n)⟩
   rw [p]
   exact .ks 10 r (.nilS [51,1] r r (.condKF r r (.skip' fun c w ho hs=>⟨(),hd,I,(.refl _),ho.sub ⟨r,trivial⟩,hs.pick (.c .z .n)⟩)))
 rintro ⟨⟩ hd c w hst
 obtain ⟨J,s,hok,hsym⟩:=hst
 replace R3:=R3.mono s
 refine Cod.at hok hsym (.seq (.sr (.fa un49 r sz30 r (o:=4) r r r (.load1 ia30 r .z r r r (.len un30 r r r r (.ks 1 r (.nilS [55,1] r r (.condP r hd (fun S hd=>?_) fun S hd=>?_))))))))
 · exact .sr (.ks 1 r (.nilS [2] r r (.drop .z (.ret (pret results71 (.t r .n) s ⟨5,r,hd⟩)))))
 refine .skipS [1] r r (.seq (.sr (.ks 1 r (.nilS [3,1] r r (.block (.loop hd (fun (u:Int) c w=>∃ I_,IH.le J I_∧Ok ⟨77,[],none⟩ [(1,.pointer (some ⟨B,0,none⟩)),(3,.int .i64 u)] c∧Sym w0 M I I_ [pto B (.cells #[.int .i64 a0.Kind,.int .i64 a0.N,.int .i64 a0.Source,.int .i64 a0.Length,.slice p1 a0.Draws.length c2] 49 (0,0))] w) (fun c w ho hs=>⟨J,(.refl _),ho.sub ⟨r,r,trivial⟩,hs.pick (.c .z .n)⟩) ?_))))))
 rintro u W hd c w hst
 obtain ⟨T,a,hok,hsym⟩:=hst
 have b:=IH.le.trans s a
 replace R3:=R3.mono a
 refine Cod.at hok hsym (.seq (.sr (.ks 1 r (.fa un49 r sz30 r (o:=4) r r r (.load1 ia30 r .z r r r (.len un30 r r r r (.ks 1 r (.nilS [60,3,1] r r (.condP r hd (fun C hd=>?_) fun C hd=>?_)))))))))
 · refine .skipS [3,1] r r (.seq (.block (.sr (.fa un49 r sz30 r (o:=4) r r r (.load1 ia30 r .z r r r (.ks 1 r ?_))))))
   obtain ⟨y,Z,v,hd⟩:=hd
   obtain ⟨a1,o120,X,U,D,E⟩:=R3.2 _ _ v
   cases E
   refine .ixa un30 sz2 r U r y (idx_lt v y) r r (.ld1 (j:=0) ia2 D r r r r r (.ks 2 r ?_))
   refine splitP hd (fun d hd=>?_) fun d hd=>?_
   · rw [d]
     exact .ks 7 r (.nilS [76,3,1] r r (.condKT r r (.sr (.ks 1 r (.nilS [2] r r (.drop .z (.ret (pret results71 (.t r .n) b ⟨7,r,hd⟩))))))))
   rw [d]
   refine .gyes r r r (.fa un49 r sz30 r (o:=4) r r r (.gyes r r r (.load1 ia30 r .z r r r (.ks 1 r ?_))))
   obtain ⟨A,a2,x,hd⟩:=hd
   obtain ⟨a3,o130,Y,V,F,G⟩:=R3.2 _ _ x
   cases G
   refine .gyes r r r (.ixa un30 sz2 r V r A (idx_lt x A) r r (.gyes r r r (.ld1 (j:=0) ia2 F r r r r r (.ks 2 r (.nilS [76,3,1] r r (.condP r hd (fun H hd=>?_) fun H hd=>?_))))))
   · exact .sr (.ks 1 r (.nilS [2] r r (.drop .z (.ret (pret results71 (.t r .n) b ⟨7,r,hd⟩)))))
   exact .skipS [3,1] r r (.region (.ks 3 r (.nil' fun c w ho hs=>⟨(w64 (u+1)),hd,T,a,ho.sub ⟨r,r,trivial⟩,hs.pick (.c .z .n)⟩)))
 exact .exitS [] r r (.drop .z (.sr (.ks 1 r (.nilS [2] r r (.ret (pret results71 (.t r .n) b ⟨0,r,hd⟩))))))
theorem W_vertex_whole {I:IH} {a0:Plan} {a1:State} {p1:Option Addr} {c2:Nat} {p4:Option Addr} {c5:Nat} {p7:Option Addr} {c8:Nat} {p10:Option Addr} {c11:Nat} {Q:Bool→Prop} (R3:RepSl eI64 I p1 c2 a0.Draws) (R6:RepSl eI64 I p4 c5 a1.A) (R9:RepSl eI64 I p7 c8 a1.B) (R12:RepSl eU64 I p10 c11 a1.On) (hd:vertex_whole a0 a1 Q) :
  PFun prog 134 [.agg #[.int .i64 a0.Kind,.int .i64 a0.N,.int .i64 a0.Source,.int .i64 a0.Length,.slice p1 a0.Draws.length c2],.agg #[.int .i64 a1.Low,.int .i64 a1.High,.slice p4 a1.A.length c5,.slice p7 a1.B.length c8,.slice p10 a1.On.length c11]] I (fun _=>o4_ Q):=by
 refine Fun.enter func134 r ntmps134 r (.c (.c .n)) fun w0 M=>?_
 refine .sr (.boxA r r r fun i=>?_)
 refine .boxA r r r fun j=>?_
 refine .ks 1 r (.nilS [3,2] r r (.sr (.fa un42 r sz3 r (o:=0) r r r (.load1 ia3 r .z r r r (.ks 2 r ?_)))))
 refine splitP hd (fun a hd=>?_) fun a hd=>?_
 · rw [a]
   refine .gyes r r r (.fa un42 r sz3 r (o:=1) r r r (.gyes r r r (.load1 ia3 r .z r r r (.gyes r r r (.fa un49 r sz3 r (o:=1) r r r (.gyes r r r (.load1 ia3 r (.s .z) r r r (.ks 3 r ?_))))))))
   refine splitP hd (fun b hd=>?_) fun b hd=>?_
   · rw [b]
     refine .gyes r r r (.fa un42 r sz30 r (o:=2) r r r (.gyes r r r (.load1 ia30 r .z r r r (.gyes r r r (.len un30 r r r r (.gyes r r r (.fa un49 r sz3 r (o:=1) r r r (.gyes r r r (.load1 ia3 r (.s .z) r r r (.ks 3 r ?_))))))))))
     refine splitP hd (fun d hd=>?_) fun d hd=>?_
     · rw [d]
       refine .gyes r r r (.fa un42 r sz30 r (o:=3) r r r (.gyes r r r (.load1 ia30 r .z r r r (.gyes r r r (.len un30 r r r r (.gyes r r r (.fa un49 r sz3 r (o:=1) r r r (.gyes r r r (.load1 ia3 r (.s .z) r r r (.ks 3 r ?_))))))))))
       refine splitP hd (fun e hd=>?_) fun e hd=>?_
       · rw [e]
         refine .gyes r r r (.fa un42 r sz40 r (o:=4) r r r (.gyes r r r (.load1 ia40 r .z r r r (.gyes r r r (.fa un49 r sz3 r (o:=1) r r r (.gyes r r r (.load1 ia3 r (.s .z) r r r ?_)))))))
         have f:=W_flags_Right (I:=I) R12 hd
         refine .gyes r r r (.callP call170 r f r r fun k g=>?_)
         obtain ⟨h,rfl,hd⟩:=g
         exact .ks 2 r (.nilS [4] r r (.drop .z (.drop .z (.ret (pret results134 (.t r .n) (.refl _) ⟨h,r,hd⟩)))))
       rw [e]
       exact .ks 7 r (.nilS [4] r r (.drop .z (.drop .z (.ret (pret results134 (.t r .n) (.refl _) ⟨false,r,hd⟩)))))
     rw [d]
     exact .ks 15 r (.nilS [4] r r (.drop .z (.drop .z (.ret (pret results134 (.t r .n) (.refl _) ⟨false,r,hd⟩)))))
   rw [b]
   exact .ks 23 r (.nilS [4] r r (.drop .z (.drop .z (.ret (pret results134 (.t r .n) (.refl _) ⟨false,r,hd⟩)))))
 rw [a]
 exact .ks 30 r (.nilS [4] r r (.drop .z (.drop .z (.ret (pret results134 (.t r .n) (.refl _) ⟨false,r,hd⟩)))))
theorem W_vertex_wrong_1_7a4 {I:IH} {o0:Plan} {a0:Edge} {b2:Nat} {p3:Option Addr} {c4:Nat} {Q:Bool→Prop} (R5:RepSl eI64 I p3 c4 o0.Draws) (hd:vertex_wrong_1_7a4 o0 a0 Q) :
  Fun prog 136 #[.agg (encEdge a0).toArray,.pointer (some ⟨b2,0,none⟩)] I [pto b2 (.cells #[.int .i64 o0.Kind,.int .i64 o0.N,.int .i64 o0.Source,.int .i64 o0.Length,.slice p3 o0.Draws.length c4] 49 (0,0))] (fun I_ v l=>∃ r,v=.bool r∧l=[pto b2 (.cells #[.int .i64 o0.Kind,.int .i64 o0.N,.int .i64 o0.Source,.int .i64 o0.Length,.slice p3 o0.Draws.length c4] 49 (0,0))]∧Q r):=by
 refine Fun.enter (vs:=[.agg (encEdge a0).toArray,.pointer (some ⟨b2,0,none⟩)]) func136 r ntmps136 r (.c (.c .n)) fun w0 M=>?_
 refine .sr (.boxA r r r fun b=>?_)
 refine .ks 1 r (.nilS [2,1] r r (.sr (.fa un27 r sz3 r (o:=0) r r r (.load1 ia3 r .z r r r (.fa un27 r sz3 r (o:=1) r r r (.load1 ia3 r .z r r r (.minI r r r r (.ks 2 r ?_))))))))
 refine splitP hd (fun a hd=>?_) fun a hd=>?_
 · rw [a]
   exact .ks 10 r (.nilS [3,1] r r (.drop .z (.ret (oret results136 (.t r .n) (.refl _) (.c .z .n) ⟨true,r,r,hd⟩))))
 rw [a]
 refine .gyes r r r (.fa un27 r sz3 r (o:=0) r r r (.gyes r r r (.load1 ia3 r .z r r r (.gyes r r r (.fa un27 r sz3 r (o:=1) r r r (.gyes r r r (.load1 ia3 r .z r r r (.gyes r r r (.maxI r r r r (.gyes r r r (.fa un49 r sz3 r (o:=1) r r r (.gyes r r r (.load1 ia3 r (.s .z) r r r (.ks 3 r (.nilS [3,1] r r (.drop .z ?_))))))))))))))))
 exact .ret (oret results136 (.t r .n) (.refl _) (.c .z .n) ⟨(decide (o0.N≤(if a0.To > a0.From then a0.To else a0.From))),r,r,hd⟩)
theorem W_slices_IndexFunc_api_Edge_api_Edge_0b4 {I:IH} {o0:Plan} {a0:List Edge} {b2:Nat} {p3:Option Addr} {c4:Nat} {p6:Option Addr} {c7:Nat} {Q:Int→Prop} (R5:RepSl eI64 I p3 c4 o0.Draws) (R8:RepSl eEdge I p6 c7 a0) (hd:slices_IndexFunc_api_Edge_api_Edge_0b4 o0 a0 Q) :
  Fun prog 206 #[.slice p6 a0.length c7,.func (.func 136) #[] #[.pointer (some ⟨b2,0,none⟩)]] I [pto b2 (.cells #[.int .i64 o0.Kind,.int .i64 o0.N,.int .i64 o0.Source,.int .i64 o0.Length,.slice p3 o0.Draws.length c4] 49 (0,0))] (fun I_ v l=>∃ r,v=.int .i64 r∧l=[pto b2 (.cells #[.int .i64 o0.Kind,.int .i64 o0.N,.int .i64 o0.Source,.int .i64 o0.Length,.slice p3 o0.Draws.length c4] 49 (0,0))]∧Q r):=by
 refine Fun.enter (vs:=[.slice p6 a0.length c7,.func (.func 136) #[] #[.pointer (some ⟨b2,0,none⟩)]]) func206 r ntmps206 r (.c (.c .n)) fun w0 M=>?_
 refine .sr (.ks 1 r (.nilS [1,0] r r (.seq (.sr (.ks 1 r (.len un22 r r r r (.ks 1 r (.nilS [8,7,1,0] r r (.block ?_)))))))))
 refine .loop hd (fun (e:Int) c w=>∃ I_,IH.le I I_∧Ok ⟨19,[],none⟩ [(0,.slice p6 a0.length c7),(1,.func (.func 136) #[] #[.pointer (some ⟨b2,0,none⟩)]),(7,.int .i64 (a0.length:Int)),(8,.int .i64 e)] c∧Sym w0 M I I_ [pto b2 (.cells #[.int .i64 o0.Kind,.int .i64 o0.N,.int .i64 o0.Source,.int .i64 o0.Length,.slice p3 o0.Draws.length c4] 49 (0,0))] w) (fun c w ho hs=>⟨I,(.refl _),ho.sub ⟨r,r,r,r,trivial⟩,hs.pick (.c .z .n)⟩) ?_
 rintro e p hd c w hst
 obtain ⟨q,a,hok,hsym⟩:=hst
 replace R5:=R5.mono a
 replace R8:=R8.mono a
 refine Cod.at hok hsym (.sr (.ks 1 r (.nilS [9,8,7,1,0] r r (.seq (.condP r hd (fun i hd=>?_) fun i hd=>?_)))))
 · refine .skipS [8,7,1,0] r r (.seq (.block (.sr (.ks 2 r (.nilS [5,8,7,1,0] r r (.sr (.ks 3 r ?_)))))))
   obtain ⟨h,s,f,hd⟩:=hd
   obtain ⟨A,o60,y,u,d,j⟩:=R8.2 _ _ f
   cases j
   refine .ixa un22 sz27 r u r h (idx_lt f h) r r (.ldW ia27 sz27 d r r r r ?_)
   have k:=W_vertex_wrong_1_7a4 (I:=q) (o0:=o0) (a0:=s) (b2:=b2) (p3:=p3) (c4:=c4) R5 hd
   refine .callS (.c call136 r r) (.c .z .n) k r r fun B x C b m=>?_
   obtain ⟨D,rfl,rfl,hd⟩:=m
   have g:=IH.le.trans a b
   replace R5:=R5.mono b
   replace R8:=R8.mono b
   replace d:=d.mono b
   refine .re (m':=[pto b2 (.cells #[.int .i64 o0.Kind,.int .i64 o0.N,.int .i64 o0.Source,.int .i64 o0.Length,.slice p3 o0.Draws.length c4] 49 (0,0))]) r (.nilS [16,5,8,7,1,0] r r (.condP r hd (fun o hd=>?_) fun o hd=>?_))
   · exact .sr (.ks 2 r (.nilS [4,1] r r (.ret (oret results206 (.t r .n) g (.c .z .n) ⟨e,r,r,hd⟩))))
   exact .skipS [8,7,1,0] r r (.region (.ks 2 r (.nil' fun c w ho hs=>⟨(w64 (e+1)),hd,x,g,ho.sub ⟨r,r,r,r,trivial⟩,hs.pick (.c .z .n)⟩)))
 exact .exitS [1] r r (.sr (.ks 1 r (.nilS [4,1] r r (.ret (oret results206 (.t r .n) a (.c .z .n) ⟨(-1),r,r,hd⟩)))))
theorem W_slices_ContainsFunc_api_Edge_api_Edge_64d {I:IH} {o0:Plan} {a0:List Edge} {b2:Nat} {p3:Option Addr} {c4:Nat} {p6:Option Addr} {c7:Nat} {Q:Bool→Prop} (R5:RepSl eI64 I p3 c4 o0.Draws) (R8:RepSl eEdge I p6 c7 a0) (hd:slices_ContainsFunc_api_Edge_api_Edge_64d o0 a0 Q) :
  Fun prog 135 #[.slice p6 a0.length c7,.func (.func 136) #[] #[.pointer (some ⟨b2,0,none⟩)]] I [pto b2 (.cells #[.int .i64 o0.Kind,.int .i64 o0.N,.int .i64 o0.Source,.int .i64 o0.Length,.slice p3 o0.Draws.length c4] 49 (0,0))] (fun I_ v l=>∃ r,v=.bool r∧l=[pto b2 (.cells #[.int .i64 o0.Kind,.int .i64 o0.N,.int .i64 o0.Source,.int .i64 o0.Length,.slice p3 o0.Draws.length c4] 49 (0,0))]∧Q r):=by
 refine Fun.enter (vs:=[.slice p6 a0.length c7,.func (.func 136) #[] #[.pointer (some ⟨b2,0,none⟩)]]) func135 r ntmps135 r (.c (.c .n)) fun w0 M=>?_
 refine .sr (.ks 1 r (.nilS [1,0] r r (.sr (.ks 2 r ?_))))
 have d:=W_slices_IndexFunc_api_Edge_api_Edge_0b4 (I:=I) (o0:=o0) (a0:=a0) (b2:=b2) (p3:=p3) (c4:=c4) R5 R8 hd
 refine .callS (.f call206 r) (.c .z .n) d r r fun g h i a b=>?_
 obtain ⟨e,rfl,rfl,hd⟩:=b
 replace R5:=R5.mono a
 replace R8:=R8.mono a
 exact .re (m':=[pto b2 (.cells #[.int .i64 o0.Kind,.int .i64 o0.N,.int .i64 o0.Source,.int .i64 o0.Length,.slice p3 o0.Draws.length c4] 49 (0,0))]) r (.ks 2 r (.nilS [4,1] r r (.ret (oret results135 (.t r .n) a (.c .z .n) ⟨(decide (0≤e)),r,r,hd⟩))))
theorem W_vertex_wrong {I:IH} {a0:Plan} {a1:List Edge} {a2:State} {p1:Option Addr} {c2:Nat} {p4:Option Addr} {c5:Nat} {p7:Option Addr} {c8:Nat} {p10:Option Addr} {c11:Nat} {p13:Option Addr} {c14:Nat} {Q:Int→Prop} (R3:RepSl eI64 I p1 c2 a0.Draws) (R6:RepSl eEdge I p4 c5 a1) (R9:RepSl eI64 I p7 c8 a2.A) (R12:RepSl eI64 I p10 c11 a2.B) (R15:RepSl eU64 I p13 c14 a2.On) (hd:vertex_wrong a0 a1 a2 Q) :
  PFun prog 69 [.agg #[.int .i64 a0.Kind,.int .i64 a0.N,.int .i64 a0.Source,.int .i64 a0.Length,.slice p1 a0.Draws.length c2],.slice p4 a1.length c5,.agg #[.int .i64 a2.Low,.int .i64 a2.High,.slice p7 a2.A.length c8,.slice p10 a2.B.length c11,.slice p13 a2.On.length c14]] I (fun _=>o0_ Q):=by
 refine Fun.enter func69 r ntmps69 r (.c (.c (.c .n))) fun w0 M=>?_
 refine .sr (.boxA r r r fun b=>?_)
 refine .boxA r r r fun p=>?_
 refine .ks 1 r (.nilS [5,3,1] r r (.seq (.sr (.loadW ia49 sz49 r (.s .z) r r r ?_))))
 have d:=W_prog_Right (I:=I) R3 hd
 refine .callP call95 r d r r fun q e=>?_
 obtain ⟨o,rfl,hd⟩:=e
 refine .ks 1 r (.nilS [7,5,3,1] r r (.sr (.ks 2 r (.nilS [11,7,5,3,1] r r (.condP r hd (fun g hd=>?_) fun g hd=>?_)))))
 · exact .sr (.ks 2 r (.nilS [6] r r (.drop .z (.drop .z (.ret (pret results69 (.t r .n) (.refl _) ⟨o,r,hd⟩))))))
 refine .skipS [5,3,1] r r (.seq (.sr (.loadW ia49 sz49 r (.s .z) r r r (.loadW ia42 sz42 r .z r r r ?_))))
 have h:=W_vertex_whole (I:=I) R3 R9 R12 R15 hd
 refine .callP call134 r h r r fun u i=>?_
 obtain ⟨v,rfl,hd⟩:=i
 refine .ks 1 r (.nilS [16,3,1] r r (.drop .z (.condP r hd (fun j hd=>?_) fun j hd=>?_)))
 · exact .sr (.ks 1 r (.nilS [6] r r (.drop .z (.ret (pret results69 (.t r .n) (.refl _) ⟨4,r,hd⟩)))))
 refine .skipS [3,1] r r (.seq (.sr (.ks 1 r (.mkFn r r r r ?_))))
 have k:=W_slices_ContainsFunc_api_Edge_api_Edge_64d (I:=I) (o0:=a0) (a0:=a1) (b2:=b) (p3:=p1) (c4:=c2) R3 R6 hd
 refine .callS (.f call135 r) (.c .z .n) k r r fun w x y a l=>?_
 obtain ⟨C,rfl,rfl,hd⟩:=l
 replace R3:=R3.mono a
 replace R6:=R6.mono a
 refine .re (m':=[pto b (.cells #[.int .i64 a0.Kind,.int .i64 a0.N,.int .i64 a0.Source,.int .i64 a0.Length,.slice p1 a0.Draws.length c2] 49 (0,0))]) r (.nilS [19] r r (.drop .z (.condP r hd (fun m hd=>?_) fun m hd=>?_)))
 · exact .sr (.ks 1 r (.nilS [6] r r (.ret (pret results69 (.t r .n) a ⟨3,r,hd⟩))))
 exact .skipS [] r r (.sr (.ks 1 r (.nilS [6] r r (.ret (pret results69 (.t r .n) a ⟨0,r,hd⟩)))))
theorem W_vertex_letters_c5d {I:IH} {a0:Plan} {a1:List Edge} {a2:State} {a3:Int} {p1:Option Addr} {c2:Nat} {p4:Option Addr} {c5:Nat} {p7:Option Addr} {c8:Nat} {p10:Option Addr} {c11:Nat} {p13:Option Addr} {c14:Nat} {Q:((List Edge)×(List (Int×Int))×Int)→Prop} (R3:RepSl eI64 I p1 c2 a0.Draws) (R6:RepSl eEdge I p4 c5 a1) (R9:RepSl eI64 I p7 c8 a2.A) (R12:RepSl eI64 I p10 c11 a2.B) (R15:RepSl eU64 I p13 c14 a2.On) (hd:vertex_letters_c5d a0 a1 a2 a3 Q) :
  Fun prog 70 #[.agg #[.int .i64 a0.Kind,.int .i64 a0.N,.int .i64 a0.Source,.int .i64 a0.Length,.slice p1 a0.Draws.length c2],.slice p4 a1.length c5,.agg #[.int .i64 a2.Low,.int .i64 a2.High,.slice p7 a2.A.length c8,.slice p10 a2.B.length c11,.slice p13 a2.On.length c14],.int .i64 a3] I [] (fun I_ v l=>∃ r b16 p17 c18 b20 b22 b23,v=.func (.func 137) #[] #[.pointer (some ⟨b16,0,none⟩),.pointer (some ⟨b20,0,none⟩),.pointer (some ⟨b23,0,none⟩)]∧RepSl eEdge I_ p17 c18 r.1∧l=[pto b16 (.cells #[.slice p17 r.1.length c18] 22 (0,0)),pto b20 (.cells #[.map (some b22)] 192 (0,0)),OwnMap (Value.int .i64) eI64 false b22 r.2.1,pto b23 (.cells #[.int .i64 r.2.2] 37 (0,0))]∧Q r):=by
 refine Fun.enter (vs:=[.agg #[.int .i64 a0.Kind,.int .i64 a0.N,.int .i64 a0.Source,.int .i64 a0.Length,.slice p1 a0.Draws.length c2],.slice p4 a1.length c5,.agg #[.int .i64 a2.Low,.int .i64 a2.High,.slice p7 a2.A.length c8,.slice p10 a2.B.length c11,.slice p13 a2.On.length c14],.int .i64 a3]) func70 r ntmps70 r (.c (.c (.c (.c .n)))) fun w0 M=>?_
 refine .sr (.boxA r r r fun b22=>?_)
 refine .box1 r r r r fun G=>?_
 refine .boxA r r r fun Y=>?_
 refine .ks 1 r (.nilS [6,5,4,3] r r (.sr (.mkMap (Value.int .i64) eI64 false r r fun H=>?_)))
 refine .alloc1 zeroValue192 r r r fun J=>?_
 refine .store1 sizeOf192 r r .z (.t .nil) r (.nilS [9,6,5,4,3] r r (.seq (.sr (.loadW ia49 sz49 r (.s (.s (.s (.s .z)))) r r r (.loadW ia42 sz42 r (.s (.s .z)) r r r (.ks 1 r ?_))))))
 have q:=W_prog_Out (I:=I) R3 R9 R12 R15 hd
 refine .call call99 r q r r fun T i a u=>?_
 obtain ⟨j,K,L,rfl,f,hd⟩:=u
 replace R3:=R3.mono a
 replace R6:=R6.mono a
 replace R9:=R9.mono a
 replace R12:=R12.mono a
 replace R15:=R15.mono a
 refine .field1 un54 r ia52 r r r r (.len un52 r r r r (.ks 1 r (.nilS [20,19,18,9,5,4,3] r r (.drop (.s (.s .z)) (.block (.loop hd (fun (s:(List (Int×Int))×Int) c w=>match s with | (e,g)=>∃ I_,IH.le i I_∧Ok ⟨35,[],none⟩ [(3,.int .i64 a3),(4,.pointer (some ⟨b22,0,none⟩)),(5,.pointer (some ⟨G,0,none⟩)),(9,.pointer (some ⟨J,0,none⟩)),(18,.slice K j.Items.length L),(19,.int .i64 (j.Items.length:Int)),(20,.int .i64 g)] c∧Sym w0 M I I_ [pto b22 (.cells #[.int .i64 a0.Kind,.int .i64 a0.N,.int .i64 a0.Source,.int .i64 a0.Length,.slice p1 a0.Draws.length c2] 49 (0,0)),pto G (.cells #[.slice p4 a1.length c5] 22 (0,0)),pto J (.cells #[.map (some H)] 192 (0,0)),OwnMap (Value.int .i64) eI64 false H e] w) (fun c w ho hs=>⟨i,(.refl _),ho.sub ⟨r,r,r,r,r,r,r,trivial⟩,hs.pick (.c (.s (.s (.s .z))) (.c (.s (.s .z)) (.c .z (.c .z .n))))⟩) ?_))))))
 rintro ⟨e,g⟩ R hd c w hst
 obtain ⟨m,b,hok,hsym⟩:=hst
 have x:=IH.le.trans a b
 replace R3:=R3.mono b
 replace R6:=R6.mono b
 replace f:=f.mono b
 refine Cod.at hok hsym (.sr (.ks 1 r (.nilS [21,20,19,18,9,5,4,3] r r (.seq (.condP r hd (fun y hd=>?_) fun y hd=>?_)))))
 · refine .skipS [20,19,18,9,5,4,3] r r (.seq (.block (.sr ?_)))
   obtain ⟨p,d,h,hd⟩:=hd
   obtain ⟨U,o171,S,O,C,D⟩:=f.2 _ _ h
   cases D
   refine .ixa un52 sz51 r O r p (idx_lt h p) r r (.ldW isAgg51 sz51 C r r r r (.allocA zv51 r r fun V=>?_))
   refine .storeA sz51 r r .z (.t (.t .nil)) r r (.nilS [11,20,19,18,9,5,4,3] r r (.region (.load1 isAgg192 r (.s (.s (.s .z))) r r r (.fa un51 r sz3 r (o:=0) r r r (.load1 ia3 r .z r r r (.fa un51 r sz2 r (o:=1) r r r (.load1 ia2 r .z r r r (.updM (k:=d.At) (El:=eI64) (ag:=false) (v:=d.Val) (keyInt un3) underlying192 (.s (.s (.s (.s .z)))) r r r ⟨[.int .i64 d.Val],r,.s⟩ (.nilS [20,19,18,9,5,4,3] r r ?_)))))))))
   exact .drop .z (.region (.ks 2 r (.nil' fun c w ho hs=>⟨((mput d.At d.Val e),w64 (g+1)),hd,m,b,ho.sub ⟨r,r,r,r,r,r,r,trivial⟩,hs.pick (.c .z (.c .z (.c .z (.c .z .n))))⟩)))
 refine .exitS [9,5,4,3] r r (.sr (.fa un49 r sz47 r (o:=0) r r r (.load1 ia47 r .z r r r (.ks 1 r ?_))))
 have E:=W_prog_Ring (I:=m) hd
 refine .callP call76 r E r r fun W F=>?_
 obtain ⟨P,rfl,hd⟩:=F
 refine .alloc1 zeroValue37 r r r fun X=>?_
 exact .store1 sizeOf37 r r .z (.t .nil) r (.nilS [12,9,5] r r (.drop (.s .z) (.sr (.mkFn r r r r (.ks 1 r (.nilS [8] r r (.ret (oret results70 (.t r .n) x (.c (.s .z) (.c (.s .z) (.c (.s .z) (.c .z .n)))) ⟨(a1,e,P),_,_,_,_,_,_,r,R6,r,hd⟩))))))))
theorem W_vertex_letters_1_4e8 {I:IH} {o0:Nat} {o1:List (List Wide)} {o2:List Edge} {o3:List (Int×Int)} {o4:Int} {Y:Nat→(List (List Wide))→Int→Wide→((Bool×Nat×(List (List Wide)))→Prop)→Prop} {b6:Nat} {p7:Option Addr} {c8:Nat} {b11:Nat} {p12:Option Addr} {c13:Nat} {b15:Nat} {b17:Nat} {b18:Nat} {lr:Nat} {Rr:Nat→HA} {Q:(Nat×(List (List Wide)))→Prop} (hY:∀ {J_:IH},I.le J_→∀ {y19:Nat} {y20:List (List Wide)} {x26:Int} {x27:Wide} {p22:Option Addr} {c23:Nat} {Qy:(Bool×Nat×(List (List Wide)))→Prop},Y y19 y20 x26 x27 Qy→RFun prog lr [.int .i64 x26,.agg (encWide x27).toArray] J_ [Rr y19,pto b6 (.cells #[.slice p22 y20.length c23] 74 (0,0)),OwnNest eWide 127 78 p22 c23 y20] (fun I_ v l=>∃ r p29 c30,v=.bool r.1∧l=[Rr r.2.1,pto b6 (.cells #[.slice p29 r.2.2.length c30] 74 (0,0)),OwnNest eWide 127 78 p29 c30 r.2.2]∧Qy r)) (R14:RepSl eEdge I p12 c13 o2) (hd:vertex_letters_1_4e8 o0 o1 o2 o3 o4 Y Q) :
  Fun prog 137 #[.func (.yield lr) #[] #[],.pointer (some ⟨b11,0,none⟩),.pointer (some ⟨b15,0,none⟩),.pointer (some ⟨b18,0,none⟩)] I [Rr o0,pto b6 (.cells #[.slice p7 o1.length c8] 74 (0,0)),OwnNest eWide 127 78 p7 c8 o1,pto b11 (.cells #[.slice p12 o2.length c13] 22 (0,0)),pto b15 (.cells #[.map (some b17)] 192 (0,0)),OwnMap (Value.int .i64) eI64 false b17 o3,pto b18 (.cells #[.int .i64 o4] 37 (0,0))] (fun I_ v l=>∃ r p20 c21,v=.tuple #[]∧l=[Rr r.1,pto b6 (.cells #[.slice p20 r.2.length c21] 74 (0,0)),OwnNest eWide 127 78 p20 c21 r.2,pto b11 (.cells #[.slice p12 o2.length c13] 22 (0,0)),pto b15 (.cells #[.map (some b17)] 192 (0,0)),OwnMap (Value.int .i64) eI64 false b17 o3,pto b18 (.cells #[.int .i64 o4] 37 (0,0))]∧Q r):=by
 refine Fun.enter (vs:=[.func (.yield lr) #[] #[],.pointer (some ⟨b11,0,none⟩),.pointer (some ⟨b15,0,none⟩),.pointer (some ⟨b18,0,none⟩)]) func137 r ntmps137 r (.c (.c (.c (.c .n)))) fun w0 M=>?_
 refine .sr (.load1 ia22 r (.s (.s (.s .z))) r r r (.len un22 r r r r (.ks 1 r (.nilS [11,10,9,3,2,1,0] r r (.block (.loop hd (fun (s:(List (List Wide))×Int×Nat) c w=>match s with | (e,i,f)=>∃ I_ j m,IH.le I I_∧Ok ⟨36,[],none⟩ [(0,.func (.yield lr) #[] #[]),(1,.pointer (some ⟨b11,0,none⟩)),(2,.pointer (some ⟨b15,0,none⟩)),(3,.pointer (some ⟨b18,0,none⟩)),(9,.slice p12 o2.length c13),(10,.int .i64 (o2.length:Int)),(11,.int .i64 i)] c∧Sym w0 M I I_ [pto b6 (.cells #[.slice j e.length m] 74 (0,0)),OwnNest eWide 127 78 j m e,pto b11 (.cells #[.slice p12 o2.length c13] 22 (0,0)),pto b15 (.cells #[.map (some b17)] 192 (0,0)),OwnMap (Value.int .i64) eI64 false b17 o3,pto b18 (.cells #[.int .i64 o4] 37 (0,0)),Rr f] w) (fun c w ho hs=>⟨I,_,_,(.refl _),ho.sub ⟨r,r,r,r,r,r,r,trivial⟩,hs.pick (.c (.s .z) (.c (.s .z) (.c (.s .z) (.c (.s .z) (.c (.s .z) (.c (.s .z) (.c .z .n)))))))⟩) ?_))))))
 rintro ⟨e,i,f⟩ T hd c w hst
 obtain ⟨p,j,m,d,hok,hsym⟩:=hst
 replace R14:=R14.mono d
 refine Cod.at hok hsym (.sr (.ks 1 r (.nilS [12,11,10,9,3,2,1,0] r r (.seq (.condP r hd (fun C hd=>?_) fun C hd=>?_)))))
 · refine .skipS [11,10,9,3,2,1,0] r r (.seq (.block (.sr ?_)))
   obtain ⟨y,h,q,hd⟩:=hd
   obtain ⟨X,o184,U,O,D,E⟩:=R14.2 _ _ q
   cases E
   refine .ixa un22 sz27 r O r y (idx_lt q y) r r (.ldW ia27 sz27 D r r r r (.allocA zv27 r r fun P=>?_))
   refine .storeA sz27 r r .z (.t (.t (.t .nil))) r r (.nilS [6,11,10,9,3,2,1,0] r r (.sr (.load1 isAgg192 r (.s (.s (.s (.s .z)))) r r r (.fa un27 r sz3 r (o:=0) r r r (.load1 ia3 r .z r r r (.lookM2 (k:=h.From) (El:=eI64) (ag:=false) (zv:=.int .i64 0) (z:=0) (keyInt un3) underlying192 zv2 ⟨[.int .i64 0],r,.s⟩ (.s (.s (.s (.s (.s .z))))) r r hd r r fun Z a0 a1 V hd F G=>?_))))))
   cases F
   cases G
   refine .ks 5 r (.nilS [8,7,6,11,10,9,3,2,1,0] r r (.seq (.dr [0,1,2,3,4,5,6,7,8,9,10,11,12] 13 (.fk 2 r ?_))))
   refine splitP hd (fun a hd=>?_) fun a hd=>?_
   · refine .g r r r (fun _=>.gyes r r a (.move r r r .mk)) (.g r r r (fun _=>.gyes r r a (.fa un27 r sz3 r (o:=1) r r r .mk)) (.g r r r (fun _=>.gyes r r a (.load1 ia3 r .z r r r .mk)) (.g r r r (fun _=>.gyes r r a (.load1 isAgg37 r (.s (.s (.s (.s (.s (.s .z)))))) r r r .mk)) (.g r r r (fun _=>.gyes r r a (.fa un27 r sz2 r (o:=2) r r r .mk)) (.g r r r (fun _=>.gyes r r a (.load1 ia2 r .z r r r .mk)) (.g r r r (fun _=>.gyes r r a (.move r r r .mk)) (.ww r fun ex=>?_)))))))
     have H:=W_ring_Mul (I:=p) hd
     refine .gyes r r a (.callP call138 r H r r fun a2 J=>?_)
     obtain ⟨R,rfl,hd⟩:=J
     refine .so 8 r r r (.cg r r r r (fun _=>.gyes r r a (.load1 ia3 r .z r r r .mk)) (.cg r r r r (fun _=>.gyes r r a (.fa un27 r sz3 r (o:=1) r r r .mk)) (.cg r r r r (fun _=>.gyes r r a (.move r r r .mk)) trivial))) (.ww r fun ex=>?_)
     have K:=hY (J_:=p) d (y19:=f) (y20:=e) (x26:=h.To) (x27:=R) (p22:=j) (c23:=m) hd
     refine .gyes r r a (.callY r r (.c (.s (.s (.s (.s (.s (.s (.s .z))))))) (.c (.s .z) (.c (.s .z) .n))) K r r fun a3 S a4 u L=>?_)
     obtain ⟨b,A,B,rfl,rfl,hd⟩:=L
     have x:=IH.le.trans d u
     replace R14:=R14.mono u
     refine .re (m':=(Rr b.2.1) :: (pto b6 (.cells #[.slice A b.2.2.length B] 74 (0,0))) :: (OwnNest eWide 127 78 A B b.2.2) :: (pto P (.cells #[.int .i64 h.From,.int .i64 h.To,.int .i64 h.W] 27 (0,0))) :: (pto b11 (.cells #[.slice p12 o2.length c13] 22 (0,0))) :: (pto b15 (.cells #[.map (some b17)] 192 (0,0))) :: (OwnMap (Value.int .i64) eI64 false b17 o3) :: (pto b18 (.cells #[.int .i64 o4] 37 (0,0))) :: ex) r (.so 8 r r r trivial (.g r r r (fun _=>.gyes r r a (.not r r r .mk)) (.g r r r (fun _=>.pickT r a r r r .mk) (.e2 13 (.nilS [34,11,10,9,3,2,1,0] r r (.drop (.s (.s (.s .z))) (.condP r hd (fun N hd=>?_) fun N hd=>?_)))))))
     · exact .ret (oret results137 .n x (.c .z (.c .z (.c .z (.c .z (.c .z (.c .z (.c .z .n))))))) ⟨(b.2.1,b.2.2),_,_,r,r,hd⟩)
     exact .skipS [11,10,9,3,2,1,0] r r (.region (.ks 2 r (.nil' fun c w ho hs=>⟨(b.2.2,w64 (i+1),b.2.1),hd,S,_,_,x,ho.sub ⟨r,r,r,r,r,r,r,trivial⟩,hs.pick (.c (.s .z) (.c (.s .z) (.c (.s .z) (.c (.s .z) (.c (.s .z) (.c (.s .z) (.c .z .n)))))))⟩)))
   refine .g r r r (fun _=>.gno r r a r r .mk) (.g r r r (fun _=>.gno r r a r r .mk) (.g r r r (fun _=>.gno r r a r r .mk) (.g r r r (fun _=>.gno r r a r r .mk) (.g r r r (fun _=>.gno r r a r r .mk) (.g r r r (fun _=>.gno r r a r r .mk) (.g r r r (fun _=>.gno r r a r r .mk) (.g r r r (fun _=>.gno r r a r r .mk) (.g r r r (fun _=>.gno r r a r r .mk) (.g r r r (fun _=>.gno r r a r r .mk) ?_)))))))))
   exact .g r r r (fun _=>.pickF r a r r r .mk) (.e2 13 (.nilS [34,11,10,9,3,2,1,0] r r (.drop .z (.condKF r r (.skipS [11,10,9,3,2,1,0] r r (.region (.ks 2 r (.nil' fun c w ho hs=>⟨(e,w64 (i+1),f),hd,p,_,_,d,ho.sub ⟨r,r,r,r,r,r,r,trivial⟩,hs.pick (.c .z (.c .z (.c .z (.c .z (.c .z (.c .z (.c .z .n)))))))⟩))))))))
 exact .exit (oretN results137 .n d (.c (.s (.s (.s (.s (.s (.s .z)))))) (.c .z (.c .z (.c .z (.c .z (.c .z (.c .z .n))))))) ⟨(f,e),_,_,r,r,hd⟩)
theorem W_vertex_Mail {I:IH} {a0:Plan} {a1:List Edge} {a2:State} {a3:Int} {p1:Option Addr} {c2:Nat} {p4:Option Addr} {c5:Nat} {p7:Option Addr} {c8:Nat} {p10:Option Addr} {c11:Nat} {p13:Option Addr} {c14:Nat} {Q:((List (List Wide))×Int)→Prop} (R3:RepSl eI64 I p1 c2 a0.Draws) (R6:RepSl eEdge I p4 c5 a1) (R9:RepSl eI64 I p7 c8 a2.A) (R12:RepSl eI64 I p10 c11 a2.B) (R15:RepSl eU64 I p13 c14 a2.On) (hd:vertex_Mail a0 a1 a2 a3 Q) :
  PFun prog 30 [.agg #[.int .i64 a0.Kind,.int .i64 a0.N,.int .i64 a0.Source,.int .i64 a0.Length,.slice p1 a0.Draws.length c2],.slice p4 a1.length c5,.agg #[.int .i64 a2.Low,.int .i64 a2.High,.slice p7 a2.A.length c8,.slice p10 a2.B.length c11,.slice p13 a2.On.length c14],.int .i64 a3] I (o26_ Q):=by
 refine Fun.enter func30 r ntmps30 r (.c (.c (.c (.c .n)))) fun w0 M=>?_
 refine .marks0 (.sr (.boxA r r r fun b1=>?_))
 refine .boxA r r r fun b2=>?_
 refine .ks 2 r (.nilS [6,4,3,1] r r (.seq (.sr (.loadW ia49 sz49 r (.s .z) r r r (.ks 1 r (.loadW ia42 sz42 r .z r r r ?_))))))
 have a4:=W_vertex_wrong (I:=I) R3 R6 R9 R12 R15 hd
 refine .callP call69 r a4 r r fun d7 a5=>?_
 obtain ⟨b3,rfl,hd⟩:=a5
 refine .ks 1 r (.nilS [10,6,4,3,1] r r (.sr (.ks 2 r (.nilS [19,10,6,4,3,1] r r (.condP r hd (fun a6 hd=>?_) fun a6 hd=>?_)))))
 · exact .sr (.ks 3 r (.nilS [9,8] r r (.drop .z (.drop .z (.ret (pretM .z results30 (.t r (.t r .n)) (.refl _) ⟨(([]:List (List Wide)),b3),_,_,r,(.nil _ _ _),hd⟩))))))
 refine .skipS [6,4,3,1] r r (.sr (.fa un49 r sz3 r (o:=1) r r r (.load1 ia3 r (.s .z) r r r ?_)))
 obtain ⟨b4,b5,hd⟩:=hd
 refine .make (El:=hdEl) (zv:=(none,0,0)) 24 un74 IN78 r r r r r r b4 b5 r r r fun F=>?_
 refine .toNest eWide 127 .z (.sub (E':=[(1,_),(3,_),(4,_),(6,_),(21,_),(22,_),(23,.slice (some ⟨F,0,none⟩) (List.replicate a0.N.toNat ([]:List Wide)).length a0.N.toNat)]) ⟨r,r,r,r,r,r,(by simp only [List.length_replicate]; rfl),trivial⟩ (.alloc1 zeroValue74 r r r fun G=>?_))
 refine .store1 sizeOf74 r r .z (.t .nil) r (.nilS [11,6,4,3,1] r r (.seq (.sr (.loadW ia49 sz49 r (.s (.s (.s .z))) r r r (.ks 1 r (.loadW ia42 sz42 r (.s (.s .z)) r r r (.ks 1 r ?_)))))))
 have a7:=W_vertex_letters_c5d (I:=I) (a0:=a0) (a1:=a1) (a2:=a2) (a3:=a3) R3 R6 R9 R12 R15 hd
 refine .callS (.f call70 r) .n a7 r r fun d8 b7 d9 d a8=>?_
 obtain ⟨a,J,K,L,O,v,P,rfl,x,rfl,hd⟩:=a8
 replace R3:=R3.mono d
 replace R6:=R6.mono d
 replace R9:=R9.mono d
 replace R12:=R12.mono d
 replace R15:=R15.mono d
 refine .re (m':=[pto J (.cells #[.slice K a.1.length L] 22 (0,0)),pto O (.cells #[.map (some v)] 192 (0,0)),OwnMap (Value.int .i64) eI64 false v a.2.1,pto P (.cells #[.int .i64 a.2.2] 37 (0,0)),pto G (.cells #[.slice (some ⟨F,0,none⟩) (List.replicate a0.N.toNat ([]:List Wide)).length a0.N.toNat] 74 (0,0)),OwnNest eWide 127 78 (some ⟨F,0,none⟩) a0.N.toNat (List.replicate a0.N.toNat ([]:List Wide)),pto b2 (.cells #[.int .i64 a2.Low,.int .i64 a2.High,.slice p7 a2.A.length c8,.slice p10 a2.B.length c11,.slice p13 a2.On.length c14] 42 (0,0)),pto b1 (.cells #[.int .i64 a0.Kind,.int .i64 a0.N,.int .i64 a0.Source,.int .i64 a0.Length,.slice p1 a0.Draws.length c2] 49 (0,0)),Marks ([])]) r (.nilS [28,11] r r (.drop (.s (.s (.s (.s (.s (.s .z)))))) (.drop (.s (.s (.s (.s (.s (.s .z)))))) (.block (.rangeF [] r call137 (.c (.s (.s (.s (.s (.s (.s .z)))))) (.c (.s (.s (.s (.s .z)))) (.c (.s (.s (.s (.s .z)))) (.c .z (.c .z (.c .z (.c .z .n))))))) fun lr D rc hrc=>?_)))))
 refine ⟨_,W_vertex_letters_1_4e8 (I:=b7) (lr:=lr) (Rr:=recA lr [] rc) (o0:=0) (o1:=(List.replicate a0.N.toNat ([]:List Wide))) (o2:=a.1) (o3:=a.2.1) (o4:=a.2.2) (b6:=G) (p7:=some ⟨F,0,none⟩) (c8:=a0.N.toNat) (b11:=J) (p12:=K) (c13:=L) (b15:=O) (b17:=v) (b18:=P) ?_ x hd,?_⟩
 · skip
   intro I hJ c0 l m e c1 y Qy  hd
   replace x:=x.mono hJ
   obtain ⟨rfl,hd⟩:=hd
   refine RFun.mk hrc r fun w0 M=>?_
   refine .sr (.ks 1 r (.nilS [12,30,11] r r (.region (.allocA zv127 r r fun c3=>?_))))
   refine .storeA sz127 r r .z (.t (.t .nil)) r r (.nil' fun c w ho hs=>beginR (E':=[(11,_),(12,_),(13,_)]) ho ⟨r,r,r,trivial⟩ hs (.s .z) (.block (.nestN (.s (.s (.s .z))) fun R=>?_)))
   refine .nestX (.s (.s (.s .z))) fun b8 k=>?_
   refine .dr [0,1,2,3,4,5,6,7,8] 9 (.g r r r (fun _=>.load1 isAgg74 r (.s (.s (.s (.s .z)))) r r r .mk) (.fk 1 r (.g r r r (fun _=>.load1 isAgg74 r (.s (.s (.s (.s .z)))) r r r .mk) (.fk 1 r ?_))))
   obtain ⟨p,q,b,hd⟩:=hd
   obtain ⟨C,a9⟩:=R (idx_ne b)
   cases a9
   obtain ⟨c4,c6,h⟩:=k.2 _ _ b
   refine .g r r r (fun _=>.ixa0 un74 sz78 r r p (idx_lt b p) r r .mk) (.g r r r (fun _=>.lo1 (j:=0) isAgg78 .z h r r r r r .mk) (.g r r r (fun _=>.loadW ia127 sz127 r (.s (.s .z)) r r r .mk) (.ww r fun ex=>?_)))
   refine .buildSlice 1 un78 sz127 zv127 r r (.c r r r .n) r r fun c7=>?_
   refine .so 6 r r r (.cg r r r r (fun _=>.lo1 (j:=0) isAgg78 (.s .z) h r r r r r .mk) (.cg r r r r (fun _=>.ixa0 un74 sz78 r r p (idx_lt b p) r r .mk) (.ck 1 r r (.cg r r r r (fun _=>.load1 isAgg74 r (.s (.s (.s (.s (.s .z))))) r r r .mk) (.ck 1 r r (.cg r r r r (fun _=>.load1 isAgg74 r (.s (.s (.s (.s (.s .z))))) r r r .mk) trivial)))))) (.ww r fun ex=>?_)
   refine .nestF (.s (.s .z)) b h ?_
   obtain ⟨V,hd⟩:=hd
   refine .append (ys:=[e]) 16 .z un78 un78 IN127 r r r r r r r r r (.box (.s (.s .z)) (.one r) r) V r r fun c9 d0=>?_
   refine .so 7 r r r (.ck 1 r r (.cg r r r r (fun _=>.load1 isAgg74 r (.s (.s (.s (.s (.s (.s .z)))))) r r r .mk) trivial)) (.e2 9 ?_)
   obtain ⟨S,d1,u,hd⟩:=hd
   obtain ⟨d2,d3,b9⟩:=k.2 _ _ u
   refine .ixa0 un74 sz78 r r S (idx_lt u S) r r (.nestSt sz78 (.s .z) r .z (.s .z) u r r r r (.sub (E':=[(11,_),(12,_),(13,_),(31,.slice (some ⟨C,0,none⟩) (l.set m.toNat (q++([e]))).length y),(32,_),(33,.slice (some ⟨C,0,none⟩) (l.set m.toNat (q++([e]))).length y),(34,_),(35,_),(36,_),(37,_),(38,_),(39,_),(40,_)]) ⟨r,r,r,(by simp only [List.length_set]; rfl),r,(by simp only [List.length_set]; rfl),r,r,r,r,r,r,r,trivial⟩ (.reat (.s (.s (.s (.s .z)))) (B:=pto G (.cells #[.slice (some ⟨C,0,none⟩) (l.set m.toNat (q++([e]))).length y] 74 (0,0))) (by simp only [List.length_set]) ?_)))
   exact .nil' fun c w ho hs=>endR 0 (.inl rfl) (.refl _) (.s (.s (.s .z))) (.c (.s (.s (.s .z))) (.c .z .n)) ⟨(true,0,(l.set m.toNat (q++([e])))),_,_,rfl,rfl,hd⟩ hs
 intro d4 d5 l' H W
 obtain ⟨E,T,U,rfl,rfl,hd⟩:=W
 have X:=IH.le.trans d H
 replace x:=x.mono H
 obtain ⟨hz,hd⟩:=hd
 refine ⟨_,_,r,fun hj=>?_,fun i hj=>absurd (hz.symm.trans hj) (by simp)⟩
 refine .re (m':=[Marks (D :: []),pto G (.cells #[.slice T E.2.length U] 74 (0,0)),OwnNest eWide 127 78 T U E.2,pto J (.cells #[.slice K a.1.length L] 22 (0,0)),pto O (.cells #[.map (some v)] 192 (0,0)),OwnMap (Value.int .i64) eI64 false v a.2.1,pto P (.cells #[.int .i64 a.2.2] 37 (0,0))]) r (.mkS [11] r r (.drop (.s (.s (.s .z))) (.drop (.s (.s (.s .z))) (.drop (.s (.s (.s .z))) (.drop (.s (.s (.s .z))) (.sr (.load1 isAgg74 r (.s .z) r r r (.ks 2 r (.nilS [9,8] r r ?_)))))))))
 refine .drop (.s .z) (.pubNest (.s .z) fun d6 Y b0=>?_)
 have Z:=IH.le.trans X Y
 exact .ret (pretM .z results30 (.t r (.t r .n)) Z ⟨(E.2,0),_,_,r,b0,hd⟩)
theorem W_vertex_summer_6fc {I:IH} {a0:Int} {Q:(Bool×Int×Wide)→Prop}  (hd:vertex_summer_6fc a0 Q) :
  Fun prog 77 #[.int .i64 a0] I [] (fun I_ v l=>∃ r b1 b2 b3,v=.tuple #[.func (.func 146) #[] #[.pointer (some ⟨b1,0,none⟩),.pointer (some ⟨b2,0,none⟩),.pointer (some ⟨b3,0,none⟩)],.func (.func 148) #[] #[.pointer (some ⟨b3,0,none⟩),.pointer (some ⟨b1,0,none⟩)]]∧l=[pto b1 (.cells #[.bool r.1] 4 (0,0)),pto b2 (.cells #[.int .i64 r.2.1] 37 (0,0)),pto b3 (.cells #[.int .i64 r.2.2.Hi,.int .u64 r.2.2.Lo] 127 (0,0))]∧Q r):=by
 refine Fun.enter (vs:=[.int .i64 a0]) func77 r ntmps77 r (.c .n) fun w0 M=>?_
 refine .sr (.box1 r r r r fun b3=>?_)
 refine .ks 2 r (.nilS [1] r r (.sr (.allocA zv127 r r fun a=>?_)))
 refine .nilS [4,1] r r (.sr (.alloc1 zeroValue4 r r r fun b=>?_))
 exact .store1 sizeOf4 r r .z (.t .nil) r (.nilS [5,4,1] r r (.sr (.mkFn r r r r (.mkFn r r r r (.ks 2 r (.nilS [3,2] r r (.ret (oret results77 (.t r (.t r .n)) (.refl _) (.c .z (.c (.s .z) (.c .z .n))) ⟨(false,a0,({ Hi:=0,Lo:=0 }:Wide)),_,_,_,r,r,hd⟩))))))))
theorem W_vertex_summer_1_b72 {I:IH} {o0:Bool} {o1:Int} {o2:Wide} {a0:Wide} {b4:Nat} {b5:Nat} {b6:Nat} {Q:(Bool×Wide)→Prop}  (hd:vertex_summer_1_b72 o0 o1 o2 a0 Q) :
  Fun prog 146 #[.agg (encWide a0).toArray,.pointer (some ⟨b4,0,none⟩),.pointer (some ⟨b5,0,none⟩),.pointer (some ⟨b6,0,none⟩)] I [pto b4 (.cells #[.bool o0] 4 (0,0)),pto b5 (.cells #[.int .i64 o1] 37 (0,0)),pto b6 (.cells #[.int .i64 o2.Hi,.int .u64 o2.Lo] 127 (0,0))] (fun I_ v l=>∃ r,v=.tuple #[]∧l=[pto b4 (.cells #[.bool r.1] 4 (0,0)),pto b5 (.cells #[.int .i64 o1] 37 (0,0)),pto b6 (.cells #[.int .i64 r.2.Hi,.int .u64 r.2.Lo] 127 (0,0))]∧Q r):=by
 refine Fun.enter (vs:=[.agg (encWide a0).toArray,.pointer (some ⟨b4,0,none⟩),.pointer (some ⟨b5,0,none⟩),.pointer (some ⟨b6,0,none⟩)]) func146 r ntmps146 r (.c (.c (.c (.c .n)))) fun w0 M=>?_
 refine .sr (.boxA r r r fun g=>?_)
 refine .nilS [4,3,2,1] r r (.seq (.sr (.load1 isAgg4 r (.s .z) r r r (.nilS [5,4,3,2,1] r r (.condP r hd (fun a hd=>?_) fun a hd=>?_)))))
 · refine .region (.load1 isAgg37 r (.s (.s .z)) r r r (.loadW ia127 sz127 r (.s (.s (.s .z))) r r r (.loadW ia127 sz127 r .z r r r ?_)))
   have b:=W_ring_Add (I:=I) hd
   refine .callP call147 r b r r fun f d=>?_
   obtain ⟨e,rfl,hd⟩:=d
   exact .storeA sz127 r r .z (.t (.t .nil)) r r (.nilS [4,3,1] r r (.region (.loadW ia127 sz127 r .z r r r (.storeA sz127 r r (.s (.s (.s .z))) (.t (.t .nil)) r r (.store1 sizeOf4 r r (.s .z) (.t .nil) r (.nil' (oretN results146 .n (.refl _) (.c (.s .z) (.c (.s .z) (.c (.s .z) .n))) ⟨(true,e),r,r,hd⟩)))))))
 exact .skipS [4,3,1] r r (.region (.loadW ia127 sz127 r .z r r r (.storeA sz127 r r (.s (.s (.s .z))) (.t (.t .nil)) r r (.store1 sizeOf4 r r (.s .z) (.t .nil) r (.nil' (oretN results146 .n (.refl _) (.c (.s .z) (.c (.s .z) (.c (.s .z) .n))) ⟨(true,a0),r,r,hd⟩))))))
theorem W_vertex_summer_2_cdb {I:IH} {o0:Wide} {o1:Bool} {b3:Nat} {b4:Nat} {Q:(Wide×Bool)→Prop}  (hd:vertex_summer_2_cdb o0 o1 Q) :
  Fun prog 148 #[.pointer (some ⟨b3,0,none⟩),.pointer (some ⟨b4,0,none⟩)] I [pto b3 (.cells #[.int .i64 o0.Hi,.int .u64 o0.Lo] 127 (0,0)),pto b4 (.cells #[.bool o1] 4 (0,0))] (fun I_ v l=>∃ r,v=.tuple #[.agg (encWide r.1).toArray,.bool r.2]∧l=[pto b3 (.cells #[.int .i64 o0.Hi,.int .u64 o0.Lo] 127 (0,0)),pto b4 (.cells #[.bool o1] 4 (0,0))]∧Q r):=by
 refine Fun.enter (vs:=[.pointer (some ⟨b3,0,none⟩),.pointer (some ⟨b4,0,none⟩)]) func148 r ntmps148 r (.c (.c .n)) fun w0 M=>?_
 refine .sr (.allocA zv127 r r fun a=>?_)
 refine .ks 1 r (.nilS [2,1,0] r r (.seq (.dr [0,1,2] 3 (.g r r r (fun _=>.loadW ia127 sz127 r (.s .z) r r r .mk) (.g r r r (fun _=>.load1 isAgg4 r (.s (.s .z)) r r r .mk) (.ww r fun ex=>?_))))))
 exact .storeA sz127 r r .z (.t (.t .nil)) r r (.sn 3 r r r (.cg r r r r (fun _=>.load1 isAgg4 r (.s (.s .z)) r r r .mk) trivial) (.e2 3 (.ks 1 r (.nilS [3,2,1,0] r r (.ret (oret results148 (.w ia127 sz127 r .z r (.t r .n)) (.refl _) (.c (.s .z) (.c (.s .z) .n)) ⟨(o0,o1),r,r,hd⟩))))))
theorem W_vertex_Hear {I:IH} {a0:Int} {a1:Int} {a2:List Wide} {p1:Option Addr} {c2:Nat} {Q:(Int×Bool×Int)→Prop} (R3:RepSl eWide I p1 c2 a2) (hd:vertex_Hear a0 a1 a2 Q) :
  PFun prog 33 [.int .i64 a0,.int .i64 a1,.slice p1 a2.length c2] I (fun _=>o27_ Q):=by
 refine Fun.enter func33 r ntmps33 r (.c (.c (.c .n))) fun w0 M=>?_
 refine .sr (.ks 3 r (.nilS [2,1,0] r r (.sr (.ks 2 r ?_))))
 have a7:=W_prog_Ring (I:=I) hd
 refine .callP call76 r a7 r r fun v10 V=>?_
 obtain ⟨r8,rfl,hd⟩:=V
 refine .ks 1 r (.nilS [9,2] r r (.seq (.sr (.ks 2 r (.nilS [22,9,2] r r (.condP r hd (fun W hd=>?_) fun W hd=>?_))))))
 · exact .sr (.ks 3 r (.nilS [8,7,6] r r (.ret (pret results33 (.t r (.t r (.t r .n))) (.refl _) ⟨(0,false,8),r,hd⟩))))
 refine .skipS [9,2] r r (.sr (.ks 1 r ?_))
 have X:=W_vertex_summer_6fc (I:=I) (a0:=r8) hd
 refine .callS (.f call77 r) .n X r r fun v31 U l32 x Y=>?_
 obtain ⟨h,b,m,d,rfl,rfl,hd⟩:=Y
 replace R3:=R3.mono x
 refine .re (m':=[pto b (.cells #[.bool h.1] 4 (0,0)),pto m (.cells #[.int .i64 h.2.1] 37 (0,0)),pto d (.cells #[.int .i64 h.2.2.Hi,.int .u64 h.2.2.Lo] 127 (0,0))]) r (.ks 5 r (.nilS [11,10,9,2] r r (.seq (.sr (.ks 1 r (.len un78 r r r r (.ks 1 r (.nilS [30,29,28,11,10,9] r r (.block ?_)))))))))
 refine .loop hd (fun (s:Bool×Int×Int×Int) c w=>match s with | (i,j,k,o)=>∃ I_,IH.le U I_∧Ok ⟨59,[],none⟩ [(9,.int .i64 r8),(10,.func (.func 146) #[] #[.pointer (some ⟨b,0,none⟩),.pointer (some ⟨m,0,none⟩),.pointer (some ⟨d,0,none⟩)]),(11,.func (.func 148) #[] #[.pointer (some ⟨d,0,none⟩),.pointer (some ⟨b,0,none⟩)]),(28,.slice p1 a2.length c2),(29,.int .i64 (a2.length:Int)),(30,.int .i64 o)] c∧Sym w0 M I I_ [pto b (.cells #[.bool i] 4 (0,0)),pto m (.cells #[.int .i64 h.2.1] 37 (0,0)),pto d (.cells #[.int .i64 j,.int .u64 k] 127 (0,0))] w) (fun c w ho hs=>⟨U,(.refl _),ho.sub ⟨r,r,r,r,r,r,trivial⟩,hs.pick (.c .z (.c .z (.c .z .n)))⟩) ?_
 rintro ⟨i,j,k,o⟩ a6 hd c w hst
 obtain ⟨y,e,hok,hsym⟩:=hst
 have q:=IH.le.trans x e
 replace R3:=R3.mono e
 refine Cod.at hok hsym (.sr (.ks 1 r (.nilS [31,30,29,28,11,10,9] r r (.seq (.condP r hd (fun C hd=>?_) fun C hd=>?_)))))
 · refine .skipS [30,29,28,11,10,9] r r (.seq (.block (.sr ?_)))
   obtain ⟨A,p,u,hd⟩:=hd
   obtain ⟨b211,o212,cs213,Z,D,E⟩:=R3.2 _ _ u
   cases E
   refine .ixa un78 sz127 r Z r A (idx_lt u A) r r (.ldW ia127 sz127 D r r r r (.allocA zv127 r r fun a3=>?_))
   refine .storeA sz127 r r .z (.t (.t .nil)) r r (.nilS [13,30,29,28,11,10,9] r r (.region (.ks 1 r (.loadW ia127 sz127 r .z r r r ?_))))
   have F:=W_vertex_summer_1_b72 (I:=y) (o0:=i) (o1:=h.2.1) (o2:=({ Hi:=j,Lo:=k }:Wide)) (a0:=p) (b4:=b) (b5:=m) (b6:=d) hd
   refine .callS (.c call146 r r) (.c (.s .z) (.c (.s .z) (.c (.s .z) .n))) F r r fun v223 a4 l224 l G=>?_
   obtain ⟨a,rfl,rfl,hd⟩:=G
   have le230:=IH.le.trans q l
   have H:=IH.le.trans e l
   replace R3:=R3.mono l
   exact .re (m':=[pto b (.cells #[.bool a.1] 4 (0,0)),pto m (.cells #[.int .i64 h.2.1] 37 (0,0)),pto d (.cells #[.int .i64 a.2.Hi,.int .u64 a.2.Lo] 127 (0,0)),pto a3 (.cells #[.int .i64 p.Hi,.int .u64 p.Lo] 127 (0,0))]) r (.nilS [30,29,28,11,10,9] r r (.drop (.s (.s (.s .z))) (.region (.ks 2 r (.nil' fun c w ho hs=>⟨(a.1,a.2.Hi,a.2.Lo,w64 (o+1)),hd,a4,H,ho.sub ⟨r,r,r,r,r,r,trivial⟩,hs.pick (.c .z (.c .z (.c .z .n)))⟩)))))
 refine .exitS [11,9] r r (.drop (.s .z) (.sr (.ks 1 r ?_)))
 have J:=W_vertex_summer_2_cdb (I:=y) (o0:=({ Hi:=j,Lo:=k }:Wide)) (o1:=i) (b3:=d) (b4:=b) hd
 refine .callS (.c call148 r r) (.c (.s .z) (.c .z .n)) J r r fun v247 B l248 v K=>?_
 obtain ⟨r249,rfl,rfl,hd⟩:=K
 have g:=IH.le.trans q v
 have le251:=IH.le.trans e v
 refine .re (m':=[pto d (.cells #[.int .i64 j,.int .u64 k] 127 (0,0)),pto b (.cells #[.bool i] 4 (0,0))]) r (.ks 3 r (.allocA zv127 r r fun b252=>?_))
 refine .storeA sz127 r r .z (.t (.t .nil)) r r (.ks 1 r (.nilS [15,14,9] r r (.drop (.s .z) (.drop (.s .z) (.seq (.sr (.ks 2 r (.nilS [44,14,9] r r (.condP r hd (fun L hd=>?_) fun L hd=>?_)))))))))
 · exact .sr (.ks 3 r (.nilS [8,7,6] r r (.drop .z (.ret (pret results33 (.t r (.t r (.t r .n))) g ⟨(0,false,0),r,hd⟩)))))
 refine .skipS [14,9] r r (.sr (.loadW ia127 sz127 r .z r r r ?_))
 have N:=W_wide_Narrow (I:=B) hd
 refine .callP call78 r N r r fun v262 O=>?_
 obtain ⟨a5,rfl,hd⟩:=O
 refine .ks 5 r (.nilS [17,16,9] r r (.drop .z (.seq (.block (.sr (.ks 3 r (.nilS [50,16,9] r r (.condP r hd (fun P hd=>?_) fun P hd=>?_))))))))
 · exact .sr (.ks 3 r (.nilS [8,7,6] r r (.ret (pret results33 (.t r (.t r (.t r .n))) g ⟨(0,false,12),r,hd⟩))))
 refine .sr (.ks 2 r ?_)
 have R:=W_ring_Zero (I:=B) hd
 refine .callP call79 r R r r fun v267 S=>?_
 obtain ⟨r265,rfl,hd⟩:=S
 refine .ks 2 r (.nilS [53,16] r r (.condP r hd (fun T hd=>?_) fun T hd=>?_))
 · exact .sr (.ks 3 r (.nilS [8,7,6] r r (.ret (pret results33 (.t r (.t r (.t r .n))) g ⟨(0,false,0),r,hd⟩))))
 exact .skipS [16] r r (.sr (.ks 4 r (.nilS [8,7,6] r r (.ret (pret results33 (.t r (.t r (.t r .n))) g ⟨(a5.1,true,0),r,hd⟩)))))
theorem W_ref21_none {I:IH} {Q:State→Prop}  (hd:ref21_none Q) :
  PFun prog 91 [] I (fun I_ v=>∃ r p1 c2 p4 c5 p7 c8,v=.agg #[.int .i64 r.Low,.int .i64 r.High,.slice p1 r.A.length c2,.slice p4 r.B.length c5,.slice p7 r.On.length c8]∧RepSl eI64 I_ p1 c2 r.A∧RepSl eI64 I_ p4 c5 r.B∧RepSl eU64 I_ p7 c8 r.On∧Q r):=by
 refine Fun.enter func91 r ntmps91 r .n fun w0 M=>?_
 refine .sr (.allocA zv42 r r fun a=>?_)
 exact .nilS [0] r r (.sr (.build zv42 un42 BI42 .n (by exact trivial) r r (.storeA sz42 r r .z (.t (.t (.t (.t (.t .nil))))) r r (.nilS [0] r r (.ret (pret results91 (.w ia42 sz42 r .z r .n) (.refl _) ⟨({ Low:=0,High:=0,A:=([]:List Int),B:=([]:List Int),On:=([]:List Int) }:State),_,_,_,_,_,_,r,(.nil _ _ _),(.nil _ _ _),(.nil _ _ _),hd⟩))))))
theorem W_ref21_Begin {I:IH} {a0:Plan} {a1:Int} {a2:Int} {p1:Option Addr} {c2:Nat} {Q:State→Prop} (R3:RepSl eI64 I p1 c2 a0.Draws) (hd:ref21_Begin a0 a1 a2 Q) :
  PFun prog 44 [.agg #[.int .i64 a0.Kind,.int .i64 a0.N,.int .i64 a0.Source,.int .i64 a0.Length,.slice p1 a0.Draws.length c2],.int .i64 a1,.int .i64 a2] I (o30_ Q):=by
 refine Fun.enter func44 r ntmps44 r (.c (.c (.c .n))) fun w0 M=>?_
 refine .sr (.boxA r r r fun p=>?_)
 refine .allocA zv42 r r fun q=>?_
 refine .nilS [6,3,2,1] r r (.seq (.sr (.loadW ia49 sz49 r (.s .z) r r r ?_)))
 have f4:=W_ref21_Right (I:=I) R3 hd
 refine .callP call71 r f4 r r fun n4 f5=>?_
 obtain ⟨n5,rfl,hd⟩:=f5
 refine .ks 2 r ?_
 refine splitP hd (fun a8 hd=>?_) fun a8 hd=>?_
 · rw [a8]
   refine .ks 14 r (.nilS [29,6,3,2,1] r r (.condKT r r (.sr ?_)))
   have e1:=W_ref21_none (I:=I) hd
   refine .call call91 r e1 r r fun k3 n6 a9 e2=>?_
   obtain ⟨h2,k4,k5,k6,k7,k8,k9,rfl,f6,f7,f8,hd⟩:=e2
   replace R3:=R3.mono a9
   exact .storeA sz42 r r .z (.t (.t (.t (.t (.t .nil))))) r r (.nilS [6] r r (.drop (.s .z) (.ret (pret results44 (.w ia42 sz42 r .z r .n) a9 ⟨h2,_,_,_,_,_,_,r,f6,f7,f8,hd⟩))))
 rw [a8]
 refine .ks 4 r ?_
 refine splitP hd (fun T hd=>?_) fun T hd=>?_
 · rw [T]
   refine .ks 10 r (.nilS [29,6,3,2,1] r r (.condKT r r (.sr ?_)))
   have e3:=W_ref21_none (I:=I) hd
   refine .call call91 r e3 r r fun l0 l1 b0 e4=>?_
   obtain ⟨f9,l2,l3,l4,l5,l6,l7,rfl,g0,g1,g2,hd⟩:=e4
   replace R3:=R3.mono b0
   exact .storeA sz42 r r .z (.t (.t (.t (.t (.t .nil))))) r r (.nilS [6] r r (.drop (.s .z) (.ret (pret results44 (.w ia42 sz42 r .z r .n) b0 ⟨f9,_,_,_,_,_,_,r,g0,g1,g2,hd⟩))))
 rw [T]
 refine .ks 5 r ?_
 refine splitP hd (fun U hd=>?_) fun U hd=>?_
 · rw [U]
   refine .ks 5 r (.nilS [29,6,3,2,1] r r (.condKT r r (.sr ?_)))
   have e5:=W_ref21_none (I:=I) hd
   refine .call call91 r e5 r r fun l8 l9 b1 e6=>?_
   obtain ⟨g3,m0,m1,m2,m3,m4,m5,rfl,g4,g5,g6,hd⟩:=e6
   replace R3:=R3.mono b1
   exact .storeA sz42 r r .z (.t (.t (.t (.t (.t .nil))))) r r (.nilS [6] r r (.drop (.s .z) (.ret (pret results44 (.w ia42 sz42 r .z r .n) b1 ⟨g3,_,_,_,_,_,_,r,g4,g5,g6,hd⟩))))
 rw [U]
 refine .ks 1 r (.gyes r r r (.fa un49 r sz3 r (o:=1) r r r (.gyes r r r (.load1 ia3 r (.s .z) r r r (.ks 2 r (.nilS [29,6,3,2,1] r r (.condP r hd (fun e7 hd=>?_) fun e7 hd=>?_)))))))
 · refine .sr ?_
   have e8:=W_ref21_none (I:=I) hd
   refine .call call91 r e8 r r fun m6 m7 b2 e9=>?_
   obtain ⟨g7,m8,m9,n0,n1,n2,n3,rfl,g8,g9,h0,hd⟩:=e9
   replace R3:=R3.mono b2
   exact .storeA sz42 r r .z (.t (.t (.t (.t (.t .nil))))) r r (.nilS [6] r r (.drop (.s .z) (.ret (pret results44 (.w ia42 sz42 r .z r .n) b2 ⟨g7,_,_,_,_,_,_,r,g8,g9,h0,hd⟩))))
 refine .skipS [6,3,2,1] r r (.sr (.ks 2 r (.build zv42 un42 BI42 (.c r r r (.t .nil) (.c r r r (.s (.t .nil)) .n)) (by exact ⟨⟨_,_,r,r,r⟩,⟨⟨_,_,r,r,r⟩,trivial⟩⟩) r r (.allocA zv42 r r fun l=>?_))))
 refine .storeA sz42 r r .z (.t (.t (.t (.t (.t .nil))))) r r (.nilS [7,6,3,2,1] r r (.sr (.ks 1 r (.nilS [8,7,6,3,2,1] r r (.seq (.sr (.ks 2 r (.nilS [9,8,7,6,3,2,1] r r (.block ?_)))))))))
 refine .own0 eI64 2 (.own0 eI64 2 (.own0 eI64 3 (.loop hd (fun (s:(List Int)×(List Int)×(List Int)×Int) c w=>match s with | (a,b,d,i)=>∃ I_ e f g h j k,IH.le I I_∧Ok ⟨100,[],none⟩ [(1,.int .i64 a1),(2,.int .i64 a2),(3,.pointer (some ⟨p,0,none⟩)),(6,.pointer (some ⟨q,0,none⟩)),(7,.pointer (some ⟨l,0,none⟩)),(8,.slice j d.length k),(9,.int .i64 i)] c∧Sym w0 M I I_ [pto p (.cells #[.int .i64 a0.Kind,.int .i64 a0.N,.int .i64 a0.Source,.int .i64 a0.Length,.slice p1 a0.Draws.length c2] 49 (0,0)),pto q (.cells #[.int .i64 0,.int .i64 0,.slice none 0 0,.slice none 0 0,.slice none 0 0] 42 (0,0)),pto l (.cells #[.int .i64 a1,.int .i64 a2,.slice e a.length f,.slice g b.length h,.slice none 0 0] 42 (0,0)),OwnSl eI64 2 e f a,OwnSl eI64 2 g h b,OwnSl eI64 3 j k d] w) (fun c w ho hs=>⟨I,_,_,_,_,_,_,(.refl _),ho.sub ⟨r,r,r,r,r,r,r,trivial⟩,hs.pick (.c (.s (.s (.s (.s (.s .z))))) (.c (.s (.s (.s (.s .z)))) (.c (.s (.s (.s .z))) (.c (.s (.s .z)) (.c (.s .z) (.c .z .n))))))⟩) ?_)))
 rintro ⟨a,b,d,i⟩ h1 hd c w hst
 obtain ⟨y,e,f,g,h,j,k,K,hok,hsym⟩:=hst
 replace R3:=R3.mono K
 refine Cod.at hok hsym (.seq (.sr (.ks 3 r (.nilS [37,9,8,7,6,3,2,1] r r (.condP r hd (fun b4 hd=>?_) fun b4 hd=>?_)))))
 · refine .skipS [9,8,7,6,3,2,1] r r (.seq (.block (.sr (.ks 1 r (.nilS [10,9,8,7,6,3,2,1] r r (.seq ?_))))))
   refine Cod.joinQ (σ:=Bool) hd (fun (C:Bool) c w=>∃ I_,IH.le y I_∧Ok ⟨100,[],none⟩ [(1,.int .i64 a1),(2,.int .i64 a2),(3,.pointer (some ⟨p,0,none⟩)),(6,.pointer (some ⟨q,0,none⟩)),(7,.pointer (some ⟨l,0,none⟩)),(8,.slice j d.length k),(9,.int .i64 i),(10,.int .i64 0),(11,.bool C)] c∧Sym w0 M I I_ [pto p (.cells #[.int .i64 a0.Kind,.int .i64 a0.N,.int .i64 a0.Source,.int .i64 a0.Length,.slice p1 a0.Draws.length c2] 49 (0,0)),pto q (.cells #[.int .i64 0,.int .i64 0,.slice none 0 0,.slice none 0 0,.slice none 0 0] 42 (0,0)),pto l (.cells #[.int .i64 a1,.int .i64 a2,.slice e a.length f,.slice g b.length h,.slice none 0 0] 42 (0,0)),OwnSl eI64 2 e f a,OwnSl eI64 2 g h b,OwnSl eI64 3 j k d] w) (fun h9 hd=>?_) ?_
   · skip
     refine .region (.fa un49 r sz47 r (o:=0) r r r (.load1 ia47 r .z r r r ?_))
     have b5:=W_ref21_from (I:=y) hd
     refine .callP call92 r b5 r r fun i0 b6=>?_
     obtain ⟨i1,rfl,hd⟩:=b6
     refine .ks 1 r ?_
     refine splitP hd (fun L hd=>?_) fun L hd=>?_
     · rw [L]
       refine .ks 1 r (.gyes r r r (.fa un49 r sz3 r (o:=2) r r r (.gyes r r r (.load1 ia3 r .z r r r (.ks 3 r ?_)))))
       refine splitP hd (fun O hd=>?_) fun O hd=>?_
       · rw [O]
         exact .ks 5 r (.nil' fun c w ho hs=>⟨true,hd,y,(.refl _),ho.sub ⟨r,r,r,r,r,r,r,r,r,trivial⟩,hs.pick (.c .z (.c .z (.c .z (.c .z (.c .z (.c .z .n))))))⟩)
       rw [O]
       exact .gyes r r r (.fa un49 r sz47 r (o:=0) r r r (.gyes r r r (.load1 ia47 r .z r r r (.ks 3 r (.nil' fun c w ho hs=>⟨(a0.Kind==3),hd,y,(.refl _),ho.sub ⟨r,r,r,r,r,r,r,r,r,trivial⟩,hs.pick (.c .z (.c .z (.c .z (.c .z (.c .z (.c .z .n))))))⟩)))))
     rw [L]
     exact .ks 6 r (.gyes r r r (.fa un49 r sz47 r (o:=0) r r r (.gyes r r r (.load1 ia47 r .z r r r (.ks 3 r (.nil' fun c w ho hs=>⟨(a0.Kind==3),hd,y,(.refl _),ho.sub ⟨r,r,r,r,r,r,r,r,r,trivial⟩,hs.pick (.c .z (.c .z (.c .z (.c .z (.c .z (.c .z .n))))))⟩))))))
   rintro C hd c w hst
   obtain ⟨D,P,hok,hsym⟩:=hst
   have b7:=IH.le.trans K P
   replace R3:=R3.mono P
   refine Cod.at hok hsym (.seq ?_)
   refine Cod.joinQ (σ:=Int) hd (fun (H:Int) c w=>∃ I_,IH.le D I_∧Ok ⟨100,[],none⟩ [(1,.int .i64 a1),(2,.int .i64 a2),(3,.pointer (some ⟨p,0,none⟩)),(6,.pointer (some ⟨q,0,none⟩)),(7,.pointer (some ⟨l,0,none⟩)),(8,.slice j d.length k),(9,.int .i64 i),(10,.int .i64 H),(11,.bool C)] c∧Sym w0 M I I_ [pto p (.cells #[.int .i64 a0.Kind,.int .i64 a0.N,.int .i64 a0.Source,.int .i64 a0.Length,.slice p1 a0.Draws.length c2] 49 (0,0)),pto q (.cells #[.int .i64 0,.int .i64 0,.slice none 0 0,.slice none 0 0,.slice none 0 0] 42 (0,0)),pto l (.cells #[.int .i64 a1,.int .i64 a2,.slice e a.length f,.slice g b.length h,.slice none 0 0] 42 (0,0)),OwnSl eI64 2 e f a,OwnSl eI64 2 g h b,OwnSl eI64 3 j k d] w) (fun i2 hd=>?_) ?_
   · skip
     refine .sr (.fa un49 r sz47 r (o:=0) r r r (.load1 ia47 r .z r r r (.nilS [55,11,10,9,8,7,6,3,2,1] r r (.block (.sr (.ks 2 r (.nilS [56,55,11,10,9,8,7,6,3,2,1] r r (.condP r hd (fun b8 hd=>?_) fun b8 hd=>?_))))))))
     · exact .region (.ks 1 r (.nil' fun c w ho hs=>⟨(-1),hd,D,(.refl _),ho.sub ⟨r,r,r,r,r,r,r,r,r,trivial⟩,hs.pick (.c .z (.c .z (.c .z (.c .z (.c .z (.c .z .n))))))⟩))
     refine .sr (.ks 2 r (.nilS [58,55,11,10,9,8,7,6,3,2,1] r r (.condP r hd (fun b9 hd=>?_) fun b9 hd=>?_)))
     · exact .region (.ks 1 r (.nil' fun c w ho hs=>⟨4611686018427387904,hd,D,(.refl _),ho.sub ⟨r,r,r,r,r,r,r,r,r,trivial⟩,hs.pick (.c .z (.c .z (.c .z (.c .z (.c .z (.c .z .n))))))⟩))
     refine .sr (.ks 2 r (.nilS [60,11,10,9,8,7,6,3,2,1] r r (.condP r hd (fun c0 hd=>?_) fun c0 hd=>?_)))
     · exact .region (.ks 2 r (.nil' fun c w ho hs=>⟨i,hd,D,(.refl _),ho.sub ⟨r,r,r,r,r,r,r,r,r,trivial⟩,hs.pick (.c .z (.c .z (.c .z (.c .z (.c .z (.c .z .n))))))⟩))
     exact .skip' fun c w ho hs=>⟨0,hd,D,(.refl _),ho.sub ⟨r,r,r,r,r,r,r,r,r,trivial⟩,hs.pick (.c .z (.c .z (.c .z (.c .z (.c .z (.c .z .n))))))⟩
   rintro H hd c w hst
   obtain ⟨E,u,hok,hsym⟩:=hst
   have a4:=IH.le.trans b7 u
   have a5:=IH.le.trans P u
   replace R3:=R3.mono u
   refine Cod.at hok hsym (.seq ?_)
   refine Cod.joinQ (σ:=Int) hd (fun (F:Int) c w=>∃ I_,IH.le E I_∧Ok ⟨100,[],none⟩ [(1,.int .i64 a1),(2,.int .i64 a2),(3,.pointer (some ⟨p,0,none⟩)),(6,.pointer (some ⟨q,0,none⟩)),(7,.pointer (some ⟨l,0,none⟩)),(8,.slice j d.length k),(9,.int .i64 i),(10,.int .i64 F),(11,.bool C)] c∧Sym w0 M I I_ [pto p (.cells #[.int .i64 a0.Kind,.int .i64 a0.N,.int .i64 a0.Source,.int .i64 a0.Length,.slice p1 a0.Draws.length c2] 49 (0,0)),pto q (.cells #[.int .i64 0,.int .i64 0,.slice none 0 0,.slice none 0 0,.slice none 0 0] 42 (0,0)),pto l (.cells #[.int .i64 a1,.int .i64 a2,.slice e a.length f,.slice g b.length h,.slice none 0 0] 42 (0,0)),OwnSl eI64 2 e f a,OwnSl eI64 2 g h b,OwnSl eI64 3 j k d] w) (fun i3 hd=>?_) ?_
   · skip
     refine .seq ?_
     refine Cod.joinQ (σ:=Bool) hd (fun (b3:Bool) c w=>∃ I_,IH.le E I_∧Ok ⟨100,[],none⟩ [(1,.int .i64 a1),(2,.int .i64 a2),(3,.pointer (some ⟨p,0,none⟩)),(6,.pointer (some ⟨q,0,none⟩)),(7,.pointer (some ⟨l,0,none⟩)),(8,.slice j d.length k),(9,.int .i64 i),(10,.int .i64 H),(11,.bool C),(71,.bool b3)] c∧Sym w0 M I I_ [pto p (.cells #[.int .i64 a0.Kind,.int .i64 a0.N,.int .i64 a0.Source,.int .i64 a0.Length,.slice p1 a0.Draws.length c2] 49 (0,0)),pto q (.cells #[.int .i64 0,.int .i64 0,.slice none 0 0,.slice none 0 0,.slice none 0 0] 42 (0,0)),pto l (.cells #[.int .i64 a1,.int .i64 a2,.slice e a.length f,.slice g b.length h,.slice none 0 0] 42 (0,0)),OwnSl eI64 2 e f a,OwnSl eI64 2 g h b,OwnSl eI64 3 j k d] w) (fun i4 hd=>?_) ?_
     · skip
       refine .region (.fa un49 r sz47 r (o:=0) r r r (.load1 ia47 r .z r r r ?_))
       have c1:=W_ref21_from (I:=E) hd
       refine .callP call92 r c1 r r fun i5 c3=>?_
       obtain ⟨i6,rfl,hd⟩:=c3
       refine .ks 1 r ?_
       refine splitP hd (fun R hd=>?_) fun R hd=>?_
       · rw [R]
         exact .ks 1 r (.gyes r r r (.fa un49 r sz3 r (o:=2) r r r (.gyes r r r (.load1 ia3 r .z r r r (.ks 2 r (.nil' fun c w ho hs=>⟨(i==a0.Source),hd,E,(.refl _),ho.sub ⟨r,r,r,r,r,r,r,r,r,r,trivial⟩,hs.pick (.c .z (.c .z (.c .z (.c .z (.c .z (.c .z .n))))))⟩))))))
       rw [R]
       exact .ks 5 r (.nil' fun c w ho hs=>⟨false,hd,E,(.refl _),ho.sub ⟨r,r,r,r,r,r,r,r,r,r,trivial⟩,hs.pick (.c .z (.c .z (.c .z (.c .z (.c .z (.c .z .n))))))⟩)
     rintro b3 hd c w hst
     obtain ⟨V,m,hok,hsym⟩:=hst
     have h3:=IH.le.trans a4 m
     have h4:=IH.le.trans a5 m
     have h5:=IH.le.trans u m
     replace R3:=R3.mono m
     refine Cod.at hok hsym (.condP r hd (fun c4 hd=>?_) fun c4 hd=>?_)
     · refine .sr (.ks 1 r (.nilS [10,11,9,8,7,6,3,2,1] r r (.sr (.fa un49 r sz47 r (o:=0) r r r (.load1 ia47 r .z r r r (.ks 1 r (.nilS [74,10,11,9,8,7,6,3,2,1] r r (.condP r hd (fun c5 hd=>?_) fun c5 hd=>?_))))))))
       · exact .region (.ks 1 r (.nil' fun c w ho hs=>⟨1,hd,V,m,ho.sub ⟨r,r,r,r,r,r,r,r,r,trivial⟩,hs.pick (.c .z (.c .z (.c .z (.c .z (.c .z (.c .z .n))))))⟩))
       exact .skip' fun c w ho hs=>⟨0,hd,V,m,ho.sub ⟨r,r,r,r,r,r,r,r,r,trivial⟩,hs.pick (.c .z (.c .z (.c .z (.c .z (.c .z (.c .z .n))))))⟩
     exact .skip' fun c w ho hs=>⟨H,hd,V,m,ho.sub ⟨r,r,r,r,r,r,r,r,r,trivial⟩,hs.pick (.c .z (.c .z (.c .z (.c .z (.c .z (.c .z .n))))))⟩
   rintro F hd c w hst
   obtain ⟨W,v,hok,hsym⟩:=hst
   have c6:=IH.le.trans a4 v
   have c7:=IH.le.trans a5 v
   have c8:=IH.le.trans u v
   replace R3:=R3.mono v
   refine Cod.at hok hsym (.seq ?_)
   refine Cod.joinQ (σ:=(List Int)) hd (fun (J:(List Int)) c w=>∃ I_ X Y,IH.le W I_∧Ok ⟨100,[],none⟩ [(1,.int .i64 a1),(2,.int .i64 a2),(3,.pointer (some ⟨p,0,none⟩)),(6,.pointer (some ⟨q,0,none⟩)),(7,.pointer (some ⟨l,0,none⟩)),(8,.slice X J.length Y),(9,.int .i64 i),(10,.int .i64 F)] c∧Sym w0 M I I_ [pto p (.cells #[.int .i64 a0.Kind,.int .i64 a0.N,.int .i64 a0.Source,.int .i64 a0.Length,.slice p1 a0.Draws.length c2] 49 (0,0)),pto q (.cells #[.int .i64 0,.int .i64 0,.slice none 0 0,.slice none 0 0,.slice none 0 0] 42 (0,0)),pto l (.cells #[.int .i64 a1,.int .i64 a2,.slice e a.length f,.slice g b.length h,.slice none 0 0] 42 (0,0)),OwnSl eI64 2 e f a,OwnSl eI64 2 g h b,OwnSl eI64 3 X Y J] w) (fun i7 hd=>?_) ?_
   · skip
     refine .sr (.ks 1 r (.nilS [75,10,9,8,7,6,3,2,1] r r (.condP r hd (fun c9 hd=>?_) fun c9 hd=>?_)))
     · refine .region (.ks 4 r (.buildSlice 1 un29 sz3 zv3 r r (.c r r r .n) r r fun i8=>?_))
       obtain ⟨d0,hd⟩:=hd
       refine .append (ys:=[w64 (i - a1)]) 8 (.s (.s (.s (.s (.s (.s .z)))))) un29 un29 IN3 r r r r r r r r r (.box .z (.one r) r) d0 r r fun i9 j0=>?_
       exact .ks 1 r (.nil' fun c w ho hs=>⟨(d++([w64 (i - a1)])),hd,W,_,_,(.refl _),ho.sub ⟨r,r,r,r,r,r,r,r,trivial⟩,hs.pick (.c (.s (.s .z)) (.c (.s (.s .z)) (.c (.s (.s .z)) (.c (.s (.s .z)) (.c (.s (.s .z)) (.c .z .n))))))⟩)
     exact .skip' fun c w ho hs=>⟨d,hd,W,_,_,(.refl _),ho.sub ⟨r,r,r,r,r,r,r,r,trivial⟩,hs.pick (.c .z (.c .z (.c .z (.c .z (.c .z (.c .z .n))))))⟩
   rintro J hd c w hst
   obtain ⟨f0,X,Y,x,hok,hsym⟩:=hst
   have d1:=IH.le.trans c6 x
   have h6:=IH.le.trans c7 x
   have h7:=IH.le.trans c8 x
   have h8:=IH.le.trans v x
   replace R3:=R3.mono x
   refine Cod.at hok hsym (.sr (.fa un42 r sz30 r (o:=2) r r r (.load1 ia30 r (.s (.s .z)) r r r (.ks 1 r (.buildSlice 1 un30 sz2 zv2 r r (.c r r r .n) r r fun j1=>?_)))))
   obtain ⟨d2,hd⟩:=hd
   refine .append (ys:=[F]) 8 (.s (.s (.s (.s .z)))) un30 un30 IN2 r r r r r r r r r (.box .z (.one r) r) d2 r r fun j2 j3=>?_
   refine .fa un42 r sz30 r (o:=2) r r r (.store1 sz30 r r (.s (.s (.s (.s .z)))) (.s (.s (.t .nil))) r (.nilS [9,8,7,6,3,2,1] r r (.drop (.s .z) (.region (.fa un42 r sz30 r (o:=3) r r r (.load1 ia30 r (.s (.s (.s .z))) r r r (.buildSlice 1 un30 sz2 zv2 r r (.c r r r .n) r r fun j4=>?_)))))))
   obtain ⟨d3,hd⟩:=hd
   refine .append (ys:=[(-1)]) 8 (.s (.s (.s (.s (.s .z))))) un30 un30 IN2 r r r r r r r r r (.box .z (.one r) r) d3 r r fun j5 j6=>?_
   exact .fa un42 r sz30 r (o:=3) r r r (.store1 sz30 r r (.s (.s (.s (.s (.s .z))))) (.s (.s (.s (.t .nil)))) r (.nilS [9,8,7,6,3,2,1] r r (.drop (.s .z) (.region (.ks 3 r (.nil' fun c w ho hs=>⟨((a++([F])),(b++([(-1)])),J,w64 (i+1)),hd,f0,_,_,_,_,_,_,d1,ho.sub ⟨r,r,r,r,r,r,r,trivial⟩,hs.pick (.c (.s (.s .z)) (.c (.s (.s .z)) (.c (.s (.s .z)) (.c (.s .z) (.c .z (.c .z .n))))))⟩))))))
 refine .exitS [8,7,6,2,1] r r (.drop .z (.sr (.ks 4 r (.pub (.s (.s (.s (.s .z)))) fun f1 d4 Z=>?_))))
 have d5:=IH.le.trans K d4
 have d6:=W_ref03_Of (I:=f1) Z hd
 refine .call call62 r d6 r r fun j7 j8 a6 d7=>?_
 obtain ⟨f2,j9,k0,rfl,G,hd⟩:=d7
 have d8:=IH.le.trans d5 a6
 replace Z:=Z.mono a6
 refine .fa un42 r sz40 r (o:=4) r r r (.store1 sz40 r r (.s .z) (.s (.s (.s (.s (.t .nil))))) r (.nilS [7,6] r r (.sr (.loadW ia42 sz42 r (.s .z) r r r (.storeA sz42 r r .z (.t (.t (.t (.t (.t .nil))))) r r (.nilS [6] r r (.drop (.s .z) (.pub (.s .z) fun k1 a7 a3=>?_))))))))
 have d9:=IH.le.trans d8 a7
 replace G:=G.mono a7
 refine .pub (.s .z) fun k2 S f3=>?_
 have e0:=IH.le.trans d9 S
 replace G:=G.mono S
 replace a3:=a3.mono S
 exact .ret (pret results44 (.w ia42 sz42 r .z r .n) e0 ⟨({ Low:=a1,High:=a2,A:=a,B:=b,On:=f2 }:State),_,_,_,_,_,_,r,a3,f3,G,hd⟩)
theorem W_ref21_Ring {I:IH} {a0:Int} {a1:Int} {Q:Int→Prop}  (hd:ref21_Ring a0 a1 Q) :
  PFun prog 73 [.int .i64 a0,.int .i64 a1] I (fun _=>o0_ Q):=by
 refine Fun.enter func73 r ntmps73 r (.c (.c .n)) fun w0 M=>?_
 refine .sr (.ks 1 r (.nilS [1,0] r r (.sr (.ks 1 r (.nilS [5,1] r r (.block (.seq ?_)))))))
 refine Cod.joinQ (σ:=Bool) hd (fun (f:Bool) c w=>∃ I_,IH.le I I_∧Ok ⟨18,[],none⟩ [(1,.int .i64 a1),(5,.int .i64 a0),(6,.bool f)] c∧Sym w0 M I I_ [] w) (fun j hd=>?_) ?_
 · skip
   refine .sr (.ks 2 r (.nilS [6,5,1] r r (.condP r hd (fun g hd=>?_) fun g hd=>?_)))
   · exact .skip' fun c w ho hs=>⟨(a0==1),hd,I,(.refl _),ho.sub ⟨r,r,r,trivial⟩,hs.pick .n⟩
   exact .region (.ks 2 r (.nil' fun c w ho hs=>⟨(a0==3),hd,I,(.refl _),ho.sub ⟨r,r,r,trivial⟩,hs.pick .n⟩))
 rintro f hd c w hst
 obtain ⟨k,a,hok,hsym⟩:=hst
 refine Cod.at hok hsym (.condP r hd (fun h hd=>?_) fun h hd=>?_)
 · exact .sr (.ks 1 r (.nilS [4] r r (.ret (pret results73 (.t r .n) a ⟨4,r,hd⟩))))
 refine .sr (.ks 2 r (.nilS [9,5,1] r r (.condP r hd (fun i hd=>?_) fun i hd=>?_)))
 · exact .sr (.ks 1 r (.nilS [4] r r (.ret (pret results73 (.t r .n) a ⟨1,r,hd⟩))))
 refine .sr (.ks 2 r (.nilS [11,5,1] r r (.condP r hd (fun b hd=>?_) fun b hd=>?_)))
 · exact .sr (.ks 1 r (.nilS [4] r r (.ret (pret results73 (.t r .n) a ⟨5,r,hd⟩))))
 refine .sr (.ks 2 r (.nilS [13,1] r r (.condP r hd (fun d hd=>?_) fun d hd=>?_)))
 · refine .seq (.sr (.ks 1 r (.rem r r (by decide) r r (.ks 1 r (.nilS [17] r r (.condP r hd (fun e hd=>?_) fun e hd=>?_))))))
   · exact .sr (.ks 1 r (.nilS [4] r r (.ret (pret results73 (.t r .n) a ⟨2,r,hd⟩))))
   exact .skipS [] r r (.sr (.ks 1 r (.nilS [4] r r (.ret (pret results73 (.t r .n) a ⟨4,r,hd⟩)))))
 exact .sr (.ks 1 r (.nilS [4] r r (.ret (pret results73 (.t r .n) a ⟨0,r,hd⟩))))
theorem W_ref02_least {I:IH} {a0:Int} {Q:Bool→Prop}  (hd:ref02_least a0 Q) :
  PFun prog 150 [.int .i64 a0] I (fun _=>o4_ Q):=by
 refine Fun.enter func150 r ntmps150 r (.c .n) fun w0 M=>?_
 refine .sr (.ks 1 r (.nilS [0] r r (.sr (.ks 3 r ?_))))
 refine splitP hd (fun a hd=>?_) fun a hd=>?_
 · rw [a]
   exact .ks 8 r (.nilS [2] r r (.ret (pret results150 (.t r .n) (.refl _) ⟨true,r,hd⟩)))
 rw [a]
 refine .ks 4 r ?_
 refine splitP hd (fun b hd=>?_) fun b hd=>?_
 · rw [b]
   exact .ks 4 r (.nilS [2] r r (.ret (pret results150 (.t r .n) (.refl _) ⟨true,r,hd⟩)))
 rw [b]
 exact .ks 4 r (.nilS [2] r r (.ret (pret results150 (.t r .n) (.refl _) ⟨(a0==4),r,hd⟩)))
theorem W_ref02_Zero {I:IH} {a0:Int} {Q:Int→Prop}  (hd:ref02_Zero a0 Q) :
  PFun prog 82 [.int .i64 a0] I (fun _=>o0_ Q):=by
 refine Fun.enter func82 r ntmps82 r (.c .n) fun w0 M=>?_
 refine .sr (.ks 1 r (.nilS [0] r r (.seq (.sr (.ks 1 r ?_)))))
 have a:=W_ref02_least (I:=I) hd
 refine .callP call150 r a r r fun e b=>?_
 obtain ⟨f,rfl,hd⟩:=b
 refine .nilS [4] r r (.condP r hd (fun d hd=>?_) fun d hd=>?_)
 · exact .sr (.ks 1 r (.nilS [2] r r (.ret (pret results82 (.t r .n) (.refl _) ⟨4611686018427387904,r,hd⟩))))
 exact .skipS [] r r (.sr (.ks 1 r (.nilS [2] r r (.ret (pret results82 (.t r .n) (.refl _) ⟨0,r,hd⟩)))))
theorem W_ref35_Hear {I:IH} {a0:Int} {a1:Int} {a2:List Wide} {p1:Option Addr} {c2:Nat} {Q:(Int×Bool×Int)→Prop} (R3:RepSl eWide I p1 c2 a2) (hd:ref35_Hear a0 a1 a2 Q) :
  PFun prog 34 [.int .i64 a0,.int .i64 a1,.slice p1 a2.length c2] I (fun _=>o27_ Q):=by
 refine Fun.enter func34 r ntmps34 r (.c (.c (.c .n))) fun w0 M=>?_
 refine .sr (.ks 3 r (.nilS [2,1,0] r r (.sr (.ks 2 r ?_))))
 have O:=W_ref21_Ring (I:=I) hd
 refine .callP call73 r O r r fun a3 E=>?_
 obtain ⟨S,rfl,hd⟩:=E
 refine .ks 1 r (.nilS [9,2] r r (.seq (.sr (.ks 2 r (.nilS [18,9,2] r r (.condP r hd (fun F hd=>?_) fun F hd=>?_))))))
 · exact .sr (.ks 3 r (.nilS [8,7,6] r r (.ret (pret results34 (.t r (.t r (.t r .n))) (.refl _) ⟨(0,false,8),r,hd⟩))))
 refine .skipS [9,2] r r (.seq (.sr (.ks 1 r (.len un78 r r r r (.ks 1 r (.nilS [21,9,2] r r (.condP r hd (fun G hd=>?_) fun G hd=>?_)))))))
 · exact .sr (.ks 3 r (.nilS [8,7,6] r r (.ret (pret results34 (.t r (.t r (.t r .n))) (.refl _) ⟨(0,false,0),r,hd⟩))))
 refine .skipS [9,2] r r (.sr (.ks 1 r ?_))
 obtain ⟨C,a4,f,hd⟩:=hd
 obtain ⟨a5,o31,T,P,H,J⟩:=R3.2 _ _ f
 cases J
 refine .ixa un78 sz127 r P r C (idx_lt f C) r r (.ldW ia127 sz127 H r r r r (.allocA zv127 r r fun D=>?_))
 refine .storeA sz127 r r .z (.t (.t .nil)) r r (.nilS [10,9,2] r r (.seq (.sr (.ks 1 r (.nilS [11,10,9,2] r r (.block (.loop hd (fun (s:Int×Int×Int) c w=>match s with | (h,i,d)=>∃ I_,IH.le I I_∧Ok ⟨50,[],none⟩ [(2,.slice p1 a2.length c2),(9,.int .i64 S),(10,.pointer (some ⟨D,0,none⟩)),(11,.int .i64 d)] c∧Sym w0 M I I_ [pto D (.cells #[.int .i64 h,.int .u64 i] 127 (0,0))] w) (fun c w ho hs=>⟨I,(.refl _),ho.sub ⟨r,r,r,r,trivial⟩,hs.pick (.c .z .n)⟩) ?_)))))))
 rintro ⟨h,i,d⟩ N hd c w hst
 obtain ⟨b,a,hok,hsym⟩:=hst
 replace R3:=R3.mono a
 refine Cod.at hok hsym (.seq (.sr (.ks 2 r (.len un78 r r r r (.ks 1 r (.nilS [28,11,10,9,2] r r (.condP r hd (fun l hd=>?_) fun l hd=>?_)))))))
 · refine .skipS [11,10,9,2] r r (.seq (.block (.dr [0,1,2,3,4,5,6] 7 (.fk 1 r (.g r r r (fun _=>.loadW ia127 sz127 r .z r r r .mk) (.fk 2 r ?_))))))
   obtain ⟨j,U,e,hd⟩:=hd
   obtain ⟨V,o149,R,K,m,o⟩:=R3.2 _ _ e
   cases o
   refine .g r r r (fun _=>.ixa un78 sz127 r K r j (idx_lt e j) r r .mk) (.g r r r (fun _=>.ldW ia127 sz127 m r r r r .mk) (.ww r fun ex=>?_))
   have p:=W_ref02_Add (I:=b) hd
   refine .callP call80 r p r r fun W q=>?_
   obtain ⟨k,rfl,hd⟩:=q
   exact .so 1 r r r trivial (.e2 7 (.storeA sz127 r r .z (.t (.t .nil)) r r (.nilS [11,10,9,2] r r (.region (.ks 3 r (.nil' fun c w ho hs=>⟨(k.Hi,k.Lo,w64 (d+1)),hd,b,a,ho.sub ⟨r,r,r,r,trivial⟩,hs.pick (.c .z .n)⟩))))))
 refine .exitS [10,9] r r (.sr (.loadW ia127 sz127 r .z r r r ?_))
 have u:=W_ref01_Narrow (I:=b) hd
 refine .callP call81 r u r r fun X v=>?_
 obtain ⟨L,rfl,hd⟩:=v
 refine .ks 5 r (.nilS [13,12,9] r r (.drop .z (.seq (.sr (.ks 2 r (.nilS [44,12,9] r r (.condP r hd (fun x hd=>?_) fun x hd=>?_)))))))
 · exact .sr (.ks 3 r (.nilS [8,7,6] r r (.ret (pret results34 (.t r (.t r (.t r .n))) a ⟨(0,false,12),r,hd⟩))))
 refine .skipS [12,9] r r (.seq (.sr (.ks 2 r ?_)))
 have y:=W_ref02_Zero (I:=b) hd
 refine .callP call82 r y r r fun Y A=>?_
 obtain ⟨Z,rfl,hd⟩:=A
 refine .ks 1 r (.nilS [48,12] r r (.condP r hd (fun B hd=>?_) fun B hd=>?_))
 · exact .sr (.ks 3 r (.nilS [8,7,6] r r (.ret (pret results34 (.t r (.t r (.t r .n))) a ⟨(0,false,0),r,hd⟩))))
 exact .skipS [12] r r (.sr (.ks 4 r (.nilS [8,7,6] r r (.ret (pret results34 (.t r (.t r (.t r .n))) a ⟨(L.1,true,0),r,hd⟩)))))
theorem W_vertex_Step {I:IH} {a0:Plan} {a1:List Edge} {a2:State} {a3:Int} {p1:Option Addr} {c2:Nat} {p4:Option Addr} {c5:Nat} {p7:Option Addr} {c8:Nat} {p10:Option Addr} {c11:Nat} {p13:Option Addr} {c14:Nat} {Q:(State×Int)→Prop} (R3:RepSl eI64 I p1 c2 a0.Draws) (R6:RepSl eEdge I p4 c5 a1) (R9:RepSl eI64 I p7 c8 a2.A) (R12:RepSl eI64 I p10 c11 a2.B) (R15:RepSl eU64 I p13 c14 a2.On) (hd:vertex_Step a0 a1 a2 a3 Q) :
  PFun prog 35 [.agg #[.int .i64 a0.Kind,.int .i64 a0.N,.int .i64 a0.Source,.int .i64 a0.Length,.slice p1 a0.Draws.length c2],.slice p4 a1.length c5,.agg #[.int .i64 a2.Low,.int .i64 a2.High,.slice p7 a2.A.length c8,.slice p10 a2.B.length c11,.slice p13 a2.On.length c14],.int .i64 a3] I (fun I_ v=>∃ r p16 c17 p19 c20 p22 c23,v=.tuple #[.agg #[.int .i64 r.1.Low,.int .i64 r.1.High,.slice p16 r.1.A.length c17,.slice p19 r.1.B.length c20,.slice p22 r.1.On.length c23],.int .i64 r.2]∧RepSl eI64 I_ p16 c17 r.1.A∧RepSl eI64 I_ p19 c20 r.1.B∧RepSl eU64 I_ p22 c23 r.1.On∧Q r):=by
 refine Fun.enter func35 r ntmps35 r (.c (.c (.c (.c .n)))) fun w0 M=>?_
 refine .sr (.boxA r r r fun Y=>?_)
 refine .boxA r r r fun Z=>?_
 refine .allocA zv42 r r fun a4=>?_
 refine .ks 1 r (.nilS [8,6,4,3,1] r r (.sr (.loadW ia49 sz49 r (.s (.s .z)) r r r (.ks 1 r (.loadW ia42 sz42 r (.s .z) r r r (.ks 1 r ?_))))))
 have a8:=W_vertex_Mail (I:=I) R3 R6 R9 R12 R15 hd
 refine .call call30 r a8 r r fun f0 c3 e a9=>?_
 obtain ⟨y,c4,c6,rfl,k,hd⟩:=a9
 replace R3:=R3.mono e
 replace R6:=R6.mono e
 replace R9:=R9.mono e
 replace R12:=R12.mono e
 replace R15:=R15.mono e
 refine .ks 5 r (.nilS [11,10,8,6,4,3] r r (.seq (.sr (.ks 2 r (.nilS [29,11,10,8,6,4,3] r r (.condP r hd (fun b0 hd=>?_) fun b0 hd=>?_))))))
 · exact .sr (.build zv42 un42 BI42 .n (by exact trivial) r r (.ks 1 r (.storeA sz42 r r .z (.t (.t (.t (.t (.t .nil))))) r r (.ks 1 r (.nilS [9,8] r r (.drop (.s .z) (.drop (.s .z) (.ret (pret results35 (.w ia42 sz42 r .z r (.t r .n)) e ⟨(({ Low:=0,High:=0,A:=([]:List Int),B:=([]:List Int),On:=([]:List Int) }:State),y.2),_,_,_,_,_,_,r,(.nil _ _ _),(.nil _ _ _),(.nil _ _ _),hd⟩)))))))))
 refine .skipS [10,8,6,4,3] r r (.sr (.loadW ia49 sz49 r (.s (.s .z)) r r r (.loadW ia42 sz42 r (.s .z) r r r (.ks 1 r ?_))))
 have b1:=W_prog_Asked (I:=c3) R3 R9 R12 R15 hd
 refine .call call83 r b1 r r fun f1 a5 h b2=>?_
 obtain ⟨a6,c7,c9,rfl,C,hd⟩:=b2
 have b3:=IH.le.trans e h
 replace R3:=R3.mono h
 replace R9:=R9.mono h
 replace R12:=R12.mono h
 replace R15:=R15.mono h
 replace k:=k.mono h
 refine .ks 5 r (.nilS [13,12,10,8,6,4,3] r r (.sr (.fa un49 r sz3 r (o:=1) r r r (.load1 ia3 r (.s (.s .z)) r r r (.build zv54 un54 BI54 (.c r r r (.t .nil) .n) (by exact ⟨⟨_,_,r,r,r⟩,trivial⟩) r r (.allocA zv54 r r fun a7=>?_))))))
 refine .storeA sz54 r r .z (.t (.t .nil)) r r (.nilS [14,13,12,10,8,6,4,3] r r (.seq (.sr (.ks 1 r (.len un74 r r r r (.ks 1 r (.nilS [44,43,42,14,13,12,8,6,4,3] r r (.block (.own0 eItem 51 ?_)))))))))
 refine .loop hd (fun (s:(List Item)×Int) c w=>match s with | (f,g)=>∃ I_ l m,IH.le a5 I_∧Ok ⟨82,[],none⟩ [(3,.int .i64 a3),(4,.pointer (some ⟨Y,0,none⟩)),(6,.pointer (some ⟨Z,0,none⟩)),(8,.pointer (some ⟨a4,0,none⟩)),(12,.slice c7 a6.1.length c9),(13,.bool a6.2),(14,.pointer (some ⟨a7,0,none⟩)),(42,.slice c4 y.1.length c6),(43,.int .i64 (y.1.length:Int)),(44,.int .i64 g)] c∧Sym w0 M I I_ [pto Y (.cells #[.int .i64 a0.Kind,.int .i64 a0.N,.int .i64 a0.Source,.int .i64 a0.Length,.slice p1 a0.Draws.length c2] 49 (0,0)),pto Z (.cells #[.int .i64 a2.Low,.int .i64 a2.High,.slice p7 a2.A.length c8,.slice p10 a2.B.length c11,.slice p13 a2.On.length c14] 42 (0,0)),pto a4 (.cells #[.int .i64 0,.int .i64 0,.slice none 0 0,.slice none 0 0,.slice none 0 0] 42 (0,0)),pto a7 (.cells #[.int .i64 a0.N,.slice l f.length m] 54 (0,0)),OwnSl eItem 51 l m f] w) (fun c w ho hs=>⟨a5,_,_,(.refl _),ho.sub ⟨r,r,r,r,r,r,r,r,r,r,trivial⟩,hs.pick (.c (.s (.s (.s (.s .z)))) (.c (.s (.s (.s .z))) (.c (.s (.s .z)) (.c (.s .z) (.c .z .n)))))⟩) ?_
 rintro ⟨f,g⟩ c1 hd c w hst
 obtain ⟨i,l,m,a,hok,hsym⟩:=hst
 have u:=IH.le.trans b3 a
 replace R3:=R3.mono a
 replace R9:=R9.mono a
 replace R12:=R12.mono a
 replace R15:=R15.mono a
 replace k:=k.mono a
 replace C:=C.mono a
 refine Cod.at hok hsym (.sr (.ks 1 r (.nilS [45,44,43,42,14,13,12,8,6,4,3] r r (.seq (.condP r hd (fun E hd=>?_) fun E hd=>?_)))))
 · refine .skipS [44,43,42,14,13,12,8,6,4,3] r r (.seq (.block (.sr (.ks 1 r ?_))))
   obtain ⟨D,d2,x,hd⟩:=hd
   obtain ⟨d3,o235,d0,b4,F,G⟩:=k.2 _ _ x
   obtain ⟨d4,d5,rfl,b5⟩:=G
   refine .ixa un74 sz78 r b4 r D (idx_lt x D) r r (.ld1 (j:=0) isAgg78 F r r r r r (.ks 2 r (.nilS [16,15,44,43,42,14,13,12,8,6,4,3] r r (.seq (.sr (.ks 2 r ?_))))))
   have H:=W_flags_Has (I:=i) C hd
   refine .callP call84 r H r r fun d6 J=>?_
   obtain ⟨d7,rfl,hd⟩:=J
   refine .ks 1 r (.eqB underlying4 r r r r (.nilS [53,16,15,44,43,42,14,13,12,8,6,4,3] r r (.condP r hd (fun K hd=>?_) fun K hd=>?_)))
   · exact .exitS [44,43,42,14,13,12,8,6,4,3] r r (.region (.ks 2 r (.nil' fun c w ho hs=>⟨(f,w64 (g+1)),hd,i,_,_,a,ho.sub ⟨r,r,r,r,r,r,r,r,r,r,trivial⟩,hs.pick (.c .z (.c .z (.c .z (.c .z (.c .z .n)))))⟩)))
   refine .skipS [16,15,44,43,42,14,13,12,8,6,4,3] r r (.sr (.fa un49 r sz47 r (o:=0) r r r (.load1 ia47 r .z r r r (.ks 2 r ?_))))
   have L:=W_vertex_Hear (I:=i) b5 hd
   refine .callP call33 r L r r fun d8 O=>?_
   obtain ⟨p,rfl,hd⟩:=O
   refine .ks 7 r (.nilS [19,18,17,15,44,43,42,14,13,12,8,6,4,3] r r (.seq (.sr (.ks 2 r (.nilS [64,19,18,17,15,44,43,42,14,13,12,8,6,4,3] r r (.condP r hd (fun P hd=>?_) fun P hd=>?_))))))
   · refine .sr (.build zv42 un42 BI42 .n (by exact trivial) r r (.ks 1 r (.storeA sz42 r r (.s (.s .z)) (.t (.t (.t (.t (.t .nil))))) r r (.ks 1 r (.nilS [9,8] r r (.drop .z (.drop .z (.drop (.s .z) (.drop (.s .z) ?_)))))))))
     exact .ret (pret results35 (.w ia42 sz42 r .z r (.t r .n)) u ⟨(({ Low:=0,High:=0,A:=([]:List Int),B:=([]:List Int),On:=([]:List Int) }:State),p.2.2),_,_,_,_,_,_,r,(.nil _ _ _),(.nil _ _ _),(.nil _ _ _),hd⟩)
   refine .skipS [18,17,15,44,43,42,14,13,12,8,6,4,3] r r (.sr (.ks 1 r (.nilS [67,17,15,44,43,42,14,13,12,8,6,4,3] r r (.condP r hd (fun R hd=>?_) fun R hd=>?_))))
   · refine .region (.fa un54 r sz52 r (o:=1) r r r (.load1 ia52 r (.s (.s (.s .z))) r r r (.ks 2 r (.build zv51 un51 BI51 (.c r r r (.t .nil) (.c r r r (.s (.t .nil)) .n)) (by exact ⟨⟨_,_,r,r,r⟩,⟨⟨_,_,r,r,r⟩,trivial⟩⟩) r r (.buildSlice 1 un52 sz51 zv51 r r (.c r r r .n) r r fun d9=>?_)))))
     obtain ⟨S,hd⟩:=hd
     refine .append (ys:=[({ At:=g,Val:=p.1 }:Item)]) 16 (.s (.s (.s (.s (.s .z))))) un52 un52 IN51 r r r r r r r r r (.box .z (.one r) r) S r r fun e0 e1=>?_
     exact .fa un54 r sz52 r (o:=1) r r r (.store1 sz52 r r (.s (.s (.s (.s (.s .z))))) (.s (.t .nil)) r (.nilS [44,43,42,14,13,12,8,6,4,3] r r (.drop (.s .z) (.region (.ks 2 r (.nil' fun c w ho hs=>⟨((f++([({ At:=g,Val:=p.1 }:Item)])),w64 (g+1)),hd,i,_,_,a,ho.sub ⟨r,r,r,r,r,r,r,r,r,r,trivial⟩,hs.pick (.c (.s .z) (.c (.s .z) (.c (.s .z) (.c (.s .z) (.c .z .n)))))⟩))))))
   exact .skipS [44,43,42,14,13,12,8,6,4,3] r r (.region (.ks 2 r (.nil' fun c w ho hs=>⟨(f,w64 (g+1)),hd,i,_,_,a,ho.sub ⟨r,r,r,r,r,r,r,r,r,r,trivial⟩,hs.pick (.c .z (.c .z (.c .z (.c .z (.c .z .n)))))⟩)))
 refine .exitS [14,8,6,4,3] r r (.sr (.loadW ia49 sz49 r .z r r r (.loadW ia42 sz42 r (.s .z) r r r (.ks 1 r (.loadW ia54 sz54 r (.s (.s (.s .z))) r r r (.pub (.s (.s (.s (.s .z)))) fun b6 d q=>?_))))))
 have T:=IH.le.trans u d
 have U:=IH.le.trans a d
 replace R3:=R3.mono d
 replace R9:=R9.mono d
 replace R12:=R12.mono d
 replace R15:=R15.mono d
 have V:=W_prog_Update (I:=b6) (a3:=({ N:=a0.N,Items:=f }:Vec)) R3 R9 R12 R15 q hd
 refine .call call85 r V r r fun e2 e3 b W=>?_
 obtain ⟨b7,e4,e5,e6,e7,e8,e9,rfl,b8,b9,c0,hd⟩:=W
 have X:=IH.le.trans T b
 have d1:=IH.le.trans U b
 replace R3:=R3.mono b
 replace R9:=R9.mono b
 replace R12:=R12.mono b
 replace R15:=R15.mono b
 replace q:=q.mono b
 exact .storeA sz42 r r (.s (.s .z)) (.t (.t (.t (.t (.t .nil))))) r r (.ks 1 r (.nilS [9,8] r r (.drop .z (.drop .z (.drop (.s .z) (.ret (pret results35 (.w ia42 sz42 r .z r (.t r .n)) X ⟨(b7,0),_,_,_,_,_,_,r,b8,b9,c0,hd⟩)))))))
theorem W_vertex_letters_1_6d3 {I:IH} {o0:Nat} {o1:Int} {o2:List Edge} {o3:List (Int×Int)} {o4:Int} {Y:Nat→Int→Int→Wide→((Bool×Nat×Int)→Prop)→Prop} {b6:Nat} {b7:Nat} {p8:Option Addr} {c9:Nat} {b11:Nat} {b13:Nat} {b14:Nat} {lr:Nat} {Rr:Nat→HA} {Q:(Nat×Int)→Prop} (hY:∀ {J_:IH},I.le J_→∀ {y15:Nat} {y16:Int} {x18:Int} {x19:Wide} {Qy:(Bool×Nat×Int)→Prop},Y y15 y16 x18 x19 Qy→RFun prog lr [.int .i64 x18,.agg (encWide x19).toArray] J_ [Rr y15,pto b6 (.cells #[.int .i64 y16] 3 (0,0))] (fun I_ v l=>∃ r,v=.bool r.1∧l=[Rr r.2.1,pto b6 (.cells #[.int .i64 r.2.2] 3 (0,0))]∧Qy r)) (R10:RepSl eEdge I p8 c9 o2) (hd:vertex_letters_1_6d3 o0 o1 o2 o3 o4 Y Q) :
  Fun prog 137 #[.func (.yield lr) #[] #[],.pointer (some ⟨b7,0,none⟩),.pointer (some ⟨b11,0,none⟩),.pointer (some ⟨b14,0,none⟩)] I [Rr o0,pto b6 (.cells #[.int .i64 o1] 3 (0,0)),pto b7 (.cells #[.slice p8 o2.length c9] 22 (0,0)),pto b11 (.cells #[.map (some b13)] 192 (0,0)),OwnMap (Value.int .i64) eI64 false b13 o3,pto b14 (.cells #[.int .i64 o4] 37 (0,0))] (fun I_ v l=>∃ r,v=.tuple #[]∧l=[Rr r.1,pto b6 (.cells #[.int .i64 r.2] 3 (0,0)),pto b7 (.cells #[.slice p8 o2.length c9] 22 (0,0)),pto b11 (.cells #[.map (some b13)] 192 (0,0)),OwnMap (Value.int .i64) eI64 false b13 o3,pto b14 (.cells #[.int .i64 o4] 37 (0,0))]∧Q r):=by
 refine Fun.enter (vs:=[.func (.yield lr) #[] #[],.pointer (some ⟨b7,0,none⟩),.pointer (some ⟨b11,0,none⟩),.pointer (some ⟨b14,0,none⟩)]) func137 r ntmps137 r (.c (.c (.c (.c .n)))) fun w0 M=>?_
 refine .sr (.load1 ia22 r (.s (.s .z)) r r r (.len un22 r r r r (.ks 1 r (.nilS [11,10,9,3,2,1,0] r r (.block (.loop hd (fun (s:Int×Int×Nat) c w=>match s with | (e,i,f)=>∃ I_,IH.le I I_∧Ok ⟨36,[],none⟩ [(0,.func (.yield lr) #[] #[]),(1,.pointer (some ⟨b7,0,none⟩)),(2,.pointer (some ⟨b11,0,none⟩)),(3,.pointer (some ⟨b14,0,none⟩)),(9,.slice p8 o2.length c9),(10,.int .i64 (o2.length:Int)),(11,.int .i64 i)] c∧Sym w0 M I I_ [pto b6 (.cells #[.int .i64 e] 3 (0,0)),pto b7 (.cells #[.slice p8 o2.length c9] 22 (0,0)),pto b11 (.cells #[.map (some b13)] 192 (0,0)),OwnMap (Value.int .i64) eI64 false b13 o3,pto b14 (.cells #[.int .i64 o4] 37 (0,0)),Rr f] w) (fun c w ho hs=>⟨I,(.refl _),ho.sub ⟨r,r,r,r,r,r,r,trivial⟩,hs.pick (.c (.s .z) (.c (.s .z) (.c (.s .z) (.c (.s .z) (.c (.s .z) (.c .z .n))))))⟩) ?_))))))
 rintro ⟨e,i,f⟩ O hd c w hst
 obtain ⟨j,b,hok,hsym⟩:=hst
 replace R10:=R10.mono b
 refine Cod.at hok hsym (.sr (.ks 1 r (.nilS [12,11,10,9,3,2,1,0] r r (.seq (.condP r hd (fun x hd=>?_) fun x hd=>?_)))))
 · refine .skipS [11,10,9,3,2,1,0] r r (.seq (.block (.sr ?_)))
   obtain ⟨u,h,m,hd⟩:=hd
   obtain ⟨S,o156,P,J,y,A⟩:=R10.2 _ _ m
   cases A
   refine .ixa un22 sz27 r J r u (idx_lt m u) r r (.ldW ia27 sz27 y r r r r (.allocA zv27 r r fun K=>?_))
   refine .storeA sz27 r r .z (.t (.t (.t .nil))) r r (.nilS [6,11,10,9,3,2,1,0] r r (.sr (.load1 isAgg192 r (.s (.s (.s .z))) r r r (.fa un27 r sz3 r (o:=0) r r r (.load1 ia3 r .z r r r (.lookM2 (k:=h.From) (El:=eI64) (ag:=false) (zv:=.int .i64 0) (z:=0) (keyInt un3) underlying192 zv2 ⟨[.int .i64 0],r,.s⟩ (.s (.s (.s (.s .z)))) r r hd r r fun T U V R hd B C=>?_))))))
   cases B
   cases C
   refine .ks 5 r (.nilS [8,7,6,11,10,9,3,2,1,0] r r (.seq (.dr [0,1,2,3,4,5,6,7,8,9,10,11,12] 13 (.fk 2 r ?_))))
   refine splitP hd (fun a hd=>?_) fun a hd=>?_
   · refine .g r r r (fun _=>.gyes r r a (.move r r r .mk)) (.g r r r (fun _=>.gyes r r a (.fa un27 r sz3 r (o:=1) r r r .mk)) (.g r r r (fun _=>.gyes r r a (.load1 ia3 r .z r r r .mk)) (.g r r r (fun _=>.gyes r r a (.load1 isAgg37 r (.s (.s (.s (.s (.s .z))))) r r r .mk)) (.g r r r (fun _=>.gyes r r a (.fa un27 r sz2 r (o:=2) r r r .mk)) (.g r r r (fun _=>.gyes r r a (.load1 ia2 r .z r r r .mk)) (.g r r r (fun _=>.gyes r r a (.move r r r .mk)) (.ww r fun ex=>?_)))))))
     have D:=W_ring_Mul (I:=j) hd
     refine .gyes r r a (.callP call138 r D r r fun X E=>?_)
     obtain ⟨L,rfl,hd⟩:=E
     refine .so 7 r r r (.cg r r r r (fun _=>.gyes r r a (.load1 ia3 r .z r r r .mk)) (.cg r r r r (fun _=>.gyes r r a (.fa un27 r sz3 r (o:=1) r r r .mk)) (.cg r r r r (fun _=>.gyes r r a (.move r r r .mk)) trivial))) (.ww r fun ex=>?_)
     have F:=hY (J_:=j) b (y15:=f) (y16:=e) (x18:=h.To) (x19:=L) hd
     refine .gyes r r a (.callY r r (.c (.s (.s (.s (.s (.s (.s .z)))))) (.c (.s .z) .n)) F r r fun Z N a0 p G=>?_)
     obtain ⟨d,rfl,rfl,hd⟩:=G
     have q:=IH.le.trans b p
     replace R10:=R10.mono p
     refine .re (m':=(Rr d.2.1) :: (pto b6 (.cells #[.int .i64 d.2.2] 3 (0,0))) :: (pto K (.cells #[.int .i64 h.From,.int .i64 h.To,.int .i64 h.W] 27 (0,0))) :: (pto b7 (.cells #[.slice p8 o2.length c9] 22 (0,0))) :: (pto b11 (.cells #[.map (some b13)] 192 (0,0))) :: (OwnMap (Value.int .i64) eI64 false b13 o3) :: (pto b14 (.cells #[.int .i64 o4] 37 (0,0))) :: ex) r (.so 7 r r r trivial (.g r r r (fun _=>.gyes r r a (.not r r r .mk)) (.g r r r (fun _=>.pickT r a r r r .mk) (.e2 13 (.nilS [34,11,10,9,3,2,1,0] r r (.drop (.s (.s .z)) (.condP r hd (fun H hd=>?_) fun H hd=>?_)))))))
     · exact .ret (oret results137 .n q (.c .z (.c .z (.c .z (.c .z (.c .z (.c .z .n)))))) ⟨(d.2.1,d.2.2),r,r,hd⟩)
     exact .skipS [11,10,9,3,2,1,0] r r (.region (.ks 2 r (.nil' fun c w ho hs=>⟨(d.2.2,w64 (i+1),d.2.1),hd,N,q,ho.sub ⟨r,r,r,r,r,r,r,trivial⟩,hs.pick (.c (.s .z) (.c (.s .z) (.c (.s .z) (.c (.s .z) (.c (.s .z) (.c .z .n))))))⟩)))
   refine .g r r r (fun _=>.gno r r a r r .mk) (.g r r r (fun _=>.gno r r a r r .mk) (.g r r r (fun _=>.gno r r a r r .mk) (.g r r r (fun _=>.gno r r a r r .mk) (.g r r r (fun _=>.gno r r a r r .mk) (.g r r r (fun _=>.gno r r a r r .mk) (.g r r r (fun _=>.gno r r a r r .mk) (.g r r r (fun _=>.gno r r a r r .mk) (.g r r r (fun _=>.gno r r a r r .mk) (.g r r r (fun _=>.gno r r a r r .mk) ?_)))))))))
   exact .g r r r (fun _=>.pickF r a r r r .mk) (.e2 13 (.nilS [34,11,10,9,3,2,1,0] r r (.drop .z (.condKF r r (.skipS [11,10,9,3,2,1,0] r r (.region (.ks 2 r (.nil' fun c w ho hs=>⟨(e,w64 (i+1),f),hd,j,b,ho.sub ⟨r,r,r,r,r,r,r,trivial⟩,hs.pick (.c .z (.c .z (.c .z (.c .z (.c .z (.c .z .n))))))⟩))))))))
 exact .exit (oretN results137 .n b (.c (.s (.s (.s (.s (.s .z))))) (.c .z (.c .z (.c .z (.c .z (.c .z .n)))))) ⟨(f,e),r,r,hd⟩)
theorem W_vertex_run {I:IH} {a0:Plan} {a1:Graph} {a2:Int} {p1:Option Addr} {c2:Nat} {p4:Option Addr} {c5:Nat} {Q:(Result×Int×Int)→Prop} (R3:RepSl eI64 I p1 c2 a0.Draws) (R6:RepSl eEdge I p4 c5 a1.Edges) (hd:vertex_run a0 a1 a2 Q) :
  PFun prog 87 [.agg #[.int .i64 a0.Kind,.int .i64 a0.N,.int .i64 a0.Source,.int .i64 a0.Length,.slice p1 a0.Draws.length c2],.agg #[.int .i64 a1.N,.slice p4 a1.Edges.length c5],.int .i64 a2] I (fun I_ v=>∃ r p7 c8 p10 c11 p13 c14,v=.tuple #[.agg #[.int .i64 r.1.Status,.int .i64 r.1.Rounds,.int .i64 r.1.State.Low,.int .i64 r.1.State.High,.slice p7 r.1.State.A.length c8,.slice p10 r.1.State.B.length c11,.slice p13 r.1.State.On.length c14],.int .i64 r.2.1,.int .i64 r.2.2]∧RepSl eI64 I_ p7 c8 r.1.State.A∧RepSl eI64 I_ p10 c11 r.1.State.B∧RepSl eU64 I_ p13 c14 r.1.State.On∧Q r):=by
 refine Fun.enter func87 r ntmps87 r (.c (.c (.c .n))) fun w0 M=>?_
 refine .marks0 (.sr (.boxA r r r fun a9=>?_))
 refine .boxA r r r fun h6=>?_
 refine .allocA zv44 r r fun b0=>?_
 refine .ks 2 r (.nilS [6,4,3,2] r r (.seq (.sr (.loadW ia49 sz49 r (.s (.s .z)) r r r (.loadW ia24 sz24 r (.s .z) r r r (.ks 1 r ?_))))))
 have e6:=W_model_Check (I:=I) R3 R6 hd
 refine .callP call47 r e6 r r fun h7 e7=>?_
 obtain ⟨f9,rfl,hd⟩:=e7
 refine .ks 1 r (.nilS [9,6,4,3,2] r r (.sr (.ks 2 r (.nilS [21,9,6,4,3,2] r r (.condP r hd (fun e8 hd=>?_) fun e8 hd=>?_)))))
 · exact .sr (.build zv44 un44 BI44 .n (by exact trivial) r r (.ks 1 r (.storeA sz44 r r .z (.t (.t (.t (.t (.t (.t (.t .nil))))))) r r (.ks 2 r (.nilS [8,7,6] r r (.drop (.s .z) (.drop (.s .z) (.ret (pretM (.s .z) results87 (.w ia44 sz44 r .z r (.t r (.t r .n))) (.refl _) ⟨(({ Status:=0,Rounds:=0,State:=({ Low:=0,High:=0,A:=([]:List Int),B:=([]:List Int),On:=([]:List Int) }:State) }:Result),0,f9),_,_,_,_,_,_,r,(.nil _ _ _),(.nil _ _ _),(.nil _ _ _),hd⟩)))))))))
 refine .skipS [6,4,3,2] r r (.sr (.loadW ia49 sz49 r (.s (.s .z)) r r r (.loadW ia24 sz24 r (.s .z) r r r ?_)))
 have e9:=W_vertex_Links (I:=I) R3 R6 hd
 refine .call call25 r e9 r r fun h8 g0 W f0=>?_
 obtain ⟨b2,g1,g2,rfl,p,hd⟩:=f0
 replace R3:=R3.mono W
 replace R6:=R6.mono W
 refine .ks 5 r (.nilS [11,10,6,3,2] r r (.drop (.s .z) (.seq (.sr (.ks 2 r (.nilS [31,11,10,6,3,2] r r (.condP r hd (fun f1 hd=>?_) fun f1 hd=>?_)))))))
 · exact .sr (.build zv44 un44 BI44 .n (by exact trivial) r r (.ks 1 r (.storeA sz44 r r .z (.t (.t (.t (.t (.t (.t (.t .nil))))))) r r (.ks 2 r (.nilS [8,7,6] r r (.drop (.s .z) (.ret (pretM (.s .z) results87 (.w ia44 sz44 r .z r (.t r (.t r .n))) W ⟨(({ Status:=0,Rounds:=0,State:=({ Low:=0,High:=0,A:=([]:List Int),B:=([]:List Int),On:=([]:List Int) }:State) }:Result),0,b2.2),_,_,_,_,_,_,r,(.nil _ _ _),(.nil _ _ _),(.nil _ _ _),hd⟩))))))))
 refine .skipS [10,6,3,2] r r (.sr (.loadW ia49 sz49 r (.s .z) r r r (.fa un49 r sz3 r (o:=1) r r r (.load1 ia3 r (.s .z) r r r ?_))))
 have c6:=W_prog_Begin (I:=g0) R3 hd
 refine .call call115 r c6 r r fun h9 e5 Z f2=>?_
 obtain ⟨i0,i1,i2,i3,i4,i5,g6,rfl,g3,g4,f3,hd⟩:=f2
 have c7:=IH.le.trans W Z
 replace R3:=R3.mono Z
 replace p:=p.mono Z
 refine .build zv44 un44 BI44 (.c r r r (.s (.s (.t (.t (.t (.t (.t .nil))))))) .n) (by exact ⟨⟨_,_,r,r,r⟩,trivial⟩) r r (.allocA zv44 r r fun X=>?_)
 refine .storeA sz44 r r .z (.t (.t (.t (.t (.t (.t (.t .nil))))))) r r (.nilS [12,10,6,3,2] r r (.sr (.alloc1 zv3 r r r fun K=>?_)))
 refine .store1 sz3 r r .z (.t .nil) r (.nilS [13,12,10,6,3,2] r r (.block (.loop hd (fun (s:Int×Int×Int×(List Int)×(List Int)×(List Int)×Int) c w=>match s with | (x,q,u,k,l,m,E)=>∃ I_ ds390 L O P R S T,IH.le e5 I_∧RepSl eI64 I_ L O k∧RepSl eI64 I_ P R l∧RepSl eU64 I_ S T m∧Ok ⟨92,ds390,none⟩ [(2,.int .i64 a2),(3,.pointer (some ⟨a9,0,none⟩)),(6,.pointer (some ⟨b0,0,none⟩)),(10,.slice g1 b2.1.length g2),(12,.pointer (some ⟨X,0,none⟩)),(13,.pointer (some ⟨K,0,none⟩))] c∧Sym w0 M I I_ [pto a9 (.cells #[.int .i64 a0.Kind,.int .i64 a0.N,.int .i64 a0.Source,.int .i64 a0.Length,.slice p1 a0.Draws.length c2] 49 (0,0)),pto b0 (.cells #[.int .i64 0,.int .i64 0,.int .i64 0,.int .i64 0,.slice none 0 0,.slice none 0 0,.slice none 0 0] 44 (0,0)),pto X (.cells #[.int .i64 0,.int .i64 x,.int .i64 q,.int .i64 u,.slice L k.length O,.slice P l.length R,.slice S m.length T] 44 (0,0)),pto K (.cells #[.int .i64 E] 3 (0,0)),Marks ds390] w) (fun c w ho hs=>⟨e5,_,_,_,_,_,_,_,(.refl _),g3,g4,f3,ho.sub ⟨r,r,r,r,r,r,trivial⟩,hs.pick (.c (.s (.s (.s .z))) (.c (.s (.s .z)) (.c (.s .z) (.c .z (.c .z .n)))))⟩) ?_)))
 rintro ⟨x,q,u,k,l,m,E⟩ f8 hd c w hst
 obtain ⟨b3,ds390,L,O,P,R,S,T,J,b,d,e,hok,hsym⟩:=hst
 have Y:=IH.le.trans c7 J
 replace R3:=R3.mono J
 replace p:=p.mono J
 refine Cod.at (n:=⟨92,ds390,none⟩) hok hsym (.block (.seq (.block (.sr (.loadW ia49 sz49 r .z r r r (.fa un44 r sz42 r (o:=2) r r r (.loadA ia42 sz42 r (.s (.s .z)) (.s (.s (.t (.t (.t (.t (.t .nil))))))) r r r (.fa un44 r sz3 r (o:=1) r r r (.load1 ia3 r (.s (.s .z)) r r r ?_)))))))))
 have d0:=W_prog_Live (I:=b3) (a1:=({ Low:=q,High:=u,A:=k,B:=l,On:=m }:State)) R3 b d e hd
 refine .callP call116 r d0 r r fun g7 d1=>?_
 obtain ⟨g8,rfl,hd⟩:=d1
 refine .ks 2 r (.nilS [39,13,12,10,6,3,2] r r (.condP r hd (fun d2 hd=>?_) fun d2 hd=>?_))
 · refine .sr (.fa un44 r sz39 r (o:=0) r r r (.store1 sz39 r r (.s (.s .z)) (.t .nil) r (.nilS [13,12,6] r r (.drop .z (.seq (.dr [0,1,2] 3 (.g r r r (fun _=>.loadW ia44 sz44 r (.s .z) r r r .mk) (.g r r r (fun _=>.load1 ia3 r (.s (.s .z)) r r r .mk) (.ww r fun ex=>?_)))))))))
   exact .storeA sz44 r r .z (.t (.t (.t (.t (.t (.t (.t .nil))))))) r r (.sn 4 r r r (.cg r r r r (fun _=>.load1 ia3 r (.s (.s .z)) r r r .mk) trivial) (.e2 3 (.ks 2 r (.nilS [8,7,6] r r (.drop (.s .z) (.drop (.s .z) (.ret (pretM (.s .z) results87 (.w ia44 sz44 r .z r (.t r (.t r .n))) Y ⟨(({ Status:=1,Rounds:=x,State:=({ Low:=q,High:=u,A:=k,B:=l,On:=m }:State) }:Result),E,0),_,_,_,_,_,_,r,b,d,e,hd⟩))))))))
 refine .sr (.fa un44 r sz3 r (o:=1) r r r (.load1 ia3 r (.s (.s .z)) r r r (.ks 3 r (.nilS [50,13,12,10,6,3,2] r r (.condP r hd (fun d3 hd=>?_) fun d3 hd=>?_)))))
 · refine .sr (.fa un44 r sz39 r (o:=0) r r r (.store1 sz39 r r (.s (.s .z)) (.t .nil) r (.nilS [13,12,6] r r (.drop .z (.seq (.dr [0,1,2] 3 (.g r r r (fun _=>.loadW ia44 sz44 r (.s .z) r r r .mk) (.g r r r (fun _=>.load1 ia3 r (.s (.s .z)) r r r .mk) (.ww r fun ex=>?_)))))))))
   exact .storeA sz44 r r .z (.t (.t (.t (.t (.t (.t (.t .nil))))))) r r (.sn 4 r r r (.cg r r r r (fun _=>.load1 ia3 r (.s (.s .z)) r r r .mk) trivial) (.e2 3 (.ks 2 r (.nilS [8,7,6] r r (.drop (.s .z) (.drop (.s .z) (.ret (pretM (.s .z) results87 (.w ia44 sz44 r .z r (.t r (.t r .n))) Y ⟨(({ Status:=2,Rounds:=x,State:=({ Low:=q,High:=u,A:=k,B:=l,On:=m }:State) }:Result),E,0),_,_,_,_,_,_,r,b,d,e,hd⟩))))))))
 refine .skipS [13,12,10,6,3,2] r r (.sr (.loadW ia49 sz49 r .z r r r (.ks 1 r (.fa un44 r sz42 r (o:=2) r r r (.loadA ia42 sz42 r (.s (.s .z)) (.s (.s (.t (.t (.t (.t (.t .nil))))))) r r r (.fa un44 r sz3 r (o:=1) r r r (.load1 ia3 r (.s (.s .z)) r r r (.ks 1 r ?_))))))))
 have d4:=W_vertex_Step (I:=b3) (a2:=({ Low:=q,High:=u,A:=k,B:=l,On:=m }:State)) R3 p b d e hd
 refine .call call35 r d4 r r fun g9 f4 y d5=>?_
 obtain ⟨a,b4,b5,b8,b9,c0,c1,rfl,F,G,H,hd⟩:=d5
 have b1:=IH.le.trans Y y
 have d6:=IH.le.trans J y
 replace R3:=R3.mono y
 replace p:=p.mono y
 replace b:=b.mono y
 replace d:=d.mono y
 replace e:=e.mono y
 refine .ks 3 r (.allocA zv42 r r fun c3=>?_)
 refine .storeA sz42 r r .z (.t (.t (.t (.t (.t .nil))))) r r (.ks 1 r (.nilS [15,14,13,12,10,6,3,2] r r (.seq (.sr (.ks 2 r (.nilS [70,14,13,12,10,6,3,2] r r (.condP r hd (fun d7 hd=>?_) fun d7 hd=>?_)))))))
 · refine .sr (.fa un44 r sz39 r (o:=0) r r r (.store1 sz39 r r (.s (.s (.s .z))) (.t .nil) r (.nilS [13,12,6] r r (.drop .z (.drop .z (.seq (.dr [0,1,2] 3 (.g r r r (fun _=>.loadW ia44 sz44 r (.s .z) r r r .mk) (.g r r r (fun _=>.load1 ia3 r (.s (.s .z)) r r r .mk) ?_)))))))))
   refine .ww r fun ex=>?_
   exact .storeA sz44 r r .z (.t (.t (.t (.t (.t (.t (.t .nil))))))) r r (.sn 4 r r r (.cg r r r r (fun _=>.load1 ia3 r (.s (.s .z)) r r r .mk) trivial) (.e2 3 (.ks 2 r (.nilS [8,7,6] r r (.drop (.s .z) (.drop (.s .z) (.ret (pretM (.s .z) results87 (.w ia44 sz44 r .z r (.t r (.t r .n))) b1 ⟨(({ Status:=3,Rounds:=x,State:=({ Low:=q,High:=u,A:=k,B:=l,On:=m }:State) }:Result),E,0),_,_,_,_,_,_,r,b,d,e,hd⟩))))))))
 refine .skipS [14,13,12,10,6,3,2] r r (.seq (.sr (.loadW ia49 sz49 r (.s .z) r r r (.ks 1 r (.fa un44 r sz42 r (o:=2) r r r (.loadA ia42 sz42 r (.s (.s (.s .z))) (.s (.s (.t (.t (.t (.t (.t .nil))))))) r r r (.fa un44 r sz3 r (o:=1) r r r (.load1 ia3 r (.s (.s (.s .z))) r r r (.ks 1 r ?_)))))))))
 have d8:=W_vertex_letters_c5d (I:=f4) (a0:=a0) (a1:=b2.1) (a2:=({ Low:=q,High:=u,A:=k,B:=l,On:=m }:State)) (a3:=(w64 (x+1))) R3 p b d e hd
 refine .callS (.f call70 r) .n d8 r r fun h0 f5 h1 j d9=>?_
 obtain ⟨C,a4,a5,a6,a7,U,a8,rfl,V,rfl,hd⟩:=d9
 have e0:=IH.le.trans b1 j
 have e1:=IH.le.trans d6 j
 replace R3:=R3.mono j
 replace p:=p.mono j
 replace b:=b.mono j
 replace d:=d.mono j
 replace e:=e.mono j
 replace F:=F.mono j
 replace G:=G.mono j
 replace H:=H.mono j
 refine .re (m':=[pto a4 (.cells #[.slice a5 C.1.length a6] 22 (0,0)),pto a7 (.cells #[.map (some U)] 192 (0,0)),OwnMap (Value.int .i64) eI64 false U C.2.1,pto a8 (.cells #[.int .i64 C.2.2] 37 (0,0)),pto c3 (.cells #[.int .i64 a.1.Low,.int .i64 a.1.High,.slice b4 a.1.A.length b5,.slice b8 a.1.B.length b9,.slice c0 a.1.On.length c1] 42 (0,0)),pto a9 (.cells #[.int .i64 a0.Kind,.int .i64 a0.N,.int .i64 a0.Source,.int .i64 a0.Length,.slice p1 a0.Draws.length c2] 49 (0,0)),pto b0 (.cells #[.int .i64 0,.int .i64 0,.int .i64 0,.int .i64 0,.slice none 0 0,.slice none 0 0,.slice none 0 0] 44 (0,0)),pto X (.cells #[.int .i64 0,.int .i64 x,.int .i64 q,.int .i64 u,.slice L k.length O,.slice P l.length R,.slice S m.length T] 44 (0,0)),pto K (.cells #[.int .i64 E] 3 (0,0)),Marks ds390]) r (.nilS [81,14,13,12,10,6,3,2] r r (.block (.rangeF [] r call137 (.c (.s (.s (.s (.s (.s (.s (.s (.s (.s .z))))))))) (.c (.s (.s (.s (.s (.s (.s (.s (.s .z)))))))) (.c .z (.c .z (.c .z (.c .z .n)))))) fun lr D rc hrc=>?_)))
 refine ⟨_,W_vertex_letters_1_6d3 (I:=f5) (lr:=lr) (Rr:=recA lr [] rc) (o0:=0) (o1:=E) (o2:=C.1) (o3:=C.2.1) (o4:=C.2.2) (b6:=K) (b7:=a4) (p8:=a5) (c9:=a6) (b11:=a7) (b13:=U) (b14:=a8) ?_ V hd,?_⟩
 · skip
   intro I hJ h2 f6 h3 h4 Qy  hd
   replace R3:=R3.mono hJ
   replace p:=p.mono hJ
   replace b:=b.mono hJ
   replace d:=d.mono hJ
   replace e:=e.mono hJ
   replace F:=F.mono hJ
   replace G:=G.mono hJ
   replace H:=H.mono hJ
   replace V:=V.mono hJ
   obtain ⟨rfl,hd⟩:=hd
   refine RFun.mk hrc r fun w0 M=>?_
   refine .skip' fun c w ho hs=>beginR (E':=[(13,_)]) ho ⟨r,trivial⟩ hs .z (.block (.region (.load1 ia3 r (.s .z) r r r (.ks 1 r (.store1 sz3 r r (.s .z) (.t .nil) r ?_)))))
   exact .nil' fun c w ho hs=>endR 0 (.inl rfl) (.refl _) .z (.c .z .n) ⟨(true,0,w64 (f6+1)),rfl,rfl,hd⟩ hs
 intro h5 f7 l' h e3
 obtain ⟨c4,rfl,rfl,hd⟩:=e3
 have g5:=IH.le.trans e0 h
 have e4:=IH.le.trans e1 h
 replace R3:=R3.mono h
 replace p:=p.mono h
 replace b:=b.mono h
 replace d:=d.mono h
 replace e:=e.mono h
 replace F:=F.mono h
 replace G:=G.mono h
 replace H:=H.mono h
 replace V:=V.mono h
 obtain ⟨hz,hd⟩:=hd
 refine ⟨_,_,r,fun hj=>?_,fun i hj=>absurd (hz.symm.trans hj) (by simp)⟩
 refine .re (m':=[Marks (D :: ds390),pto K (.cells #[.int .i64 c4.2] 3 (0,0)),pto a4 (.cells #[.slice a5 C.1.length a6] 22 (0,0)),pto a7 (.cells #[.map (some U)] 192 (0,0)),OwnMap (Value.int .i64) eI64 false U C.2.1,pto a8 (.cells #[.int .i64 C.2.2] 37 (0,0)),pto c3 (.cells #[.int .i64 a.1.Low,.int .i64 a.1.High,.slice b4 a.1.A.length b5,.slice b8 a.1.B.length b9,.slice c0 a.1.On.length c1] 42 (0,0)),pto a9 (.cells #[.int .i64 a0.Kind,.int .i64 a0.N,.int .i64 a0.Source,.int .i64 a0.Length,.slice p1 a0.Draws.length c2] 49 (0,0)),pto b0 (.cells #[.int .i64 0,.int .i64 0,.int .i64 0,.int .i64 0,.slice none 0 0,.slice none 0 0,.slice none 0 0] 44 (0,0)),pto X (.cells #[.int .i64 0,.int .i64 x,.int .i64 q,.int .i64 u,.slice L k.length O,.slice P l.length R,.slice S m.length T] 44 (0,0))]) r (.mkS [14,13,12,10,6,3,2] r r (.drop (.s (.s .z)) (.drop (.s (.s .z)) (.drop (.s (.s .z)) (.drop (.s (.s .z)) (.sr (.loadW ia42 sz42 r (.s (.s .z)) r r r (.fa un44 r sz42 r (o:=2) r r r (.storeA sz42 r r (.s (.s (.s (.s (.s .z))))) (.s (.s (.t (.t (.t (.t (.t .nil))))))) r r ?_)))))))))
 exact .nilS [13,12,10,6,3,2] r r (.drop (.s (.s .z)) (.region (.fa un44 r sz3 r (o:=1) r r r (.load1 ia3 r (.s (.s (.s (.s .z)))) r r r (.ks 1 r (.fa un44 r sz3 r (o:=1) r r r (.store1 sz3 r r (.s (.s (.s (.s .z)))) (.s (.t .nil)) r (.nil' fun c w ho hs=>⟨(w64 (x+1),a.1.Low,a.1.High,a.1.A,a.1.B,a.1.On,c4.2),hd,f7,_,_,_,_,_,_,_,e4,F,G,H,ho.sub ⟨r,r,r,r,r,r,trivial⟩,hs.pick (.c (.s (.s .z)) (.c (.s (.s .z)) (.c (.s (.s .z)) (.c (.s .z) (.c .z .n)))))⟩))))))))
theorem W_vertex_Run {I:IH} {a0:Plan} {a1:Graph} {a2:Int} {p1:Option Addr} {c2:Nat} {p4:Option Addr} {c5:Nat} {Q:(Result×Int)→Prop} (R3:RepSl eI64 I p1 c2 a0.Draws) (R6:RepSl eEdge I p4 c5 a1.Edges) (hd:vertex_Run a0 a1 a2 Q) :
  PFun prog 37 [.agg #[.int .i64 a0.Kind,.int .i64 a0.N,.int .i64 a0.Source,.int .i64 a0.Length,.slice p1 a0.Draws.length c2],.agg #[.int .i64 a1.N,.slice p4 a1.Edges.length c5],.int .i64 a2] I (o34_ Q):=by
 refine Fun.enter func37 r ntmps37 r (.c (.c (.c .n))) fun w0 M=>?_
 refine .sr (.boxA r r r fun i=>?_)
 refine .boxA r r r fun j=>?_
 refine .allocA zv44 r r fun k=>?_
 refine .ks 1 r (.nilS [6,4,3,2] r r (.sr (.loadW ia49 sz49 r (.s (.s .z)) r r r (.loadW ia24 sz24 r (.s .z) r r r (.ks 1 r ?_)))))
 have d:=W_vertex_run (I:=I) R3 R6 hd
 refine .call call87 r d r r fun l m a e=>?_
 obtain ⟨b,o,p,q,u,v,x,rfl,f,g,h,hd⟩:=e
 replace R3:=R3.mono a
 replace R6:=R6.mono a
 refine .ks 4 r (.allocA zv44 r r fun y=>?_)
 refine .storeA sz44 r r .z (.t (.t (.t (.t (.t (.t (.t .nil))))))) r r (.ks 2 r (.nilS [10,8,6] r r (.drop (.s (.s .z)) (.drop (.s (.s .z)) (.sr (.loadW ia44 sz44 r .z r r r (.ks 1 r (.storeA sz44 r r (.s .z) (.t (.t (.t (.t (.t (.t (.t .nil))))))) r r (.ks 1 r ?_)))))))))
 exact .nilS [7,6] r r (.drop .z (.ret (pret results37 (.w ia44 sz44 r .z r (.t r .n)) a ⟨(b.1,b.2.2),_,_,_,_,_,_,r,f,g,h,hd⟩)))
theorem W_vertex_Letters {I:IH} {a0:Plan} {a1:Graph} {a2:Int} {p1:Option Addr} {c2:Nat} {p4:Option Addr} {c5:Nat} {Q:(Int×Int)→Prop} (R3:RepSl eI64 I p1 c2 a0.Draws) (R6:RepSl eEdge I p4 c5 a1.Edges) (hd:vertex_Letters a0 a1 a2 Q) :
  PFun prog 39 [.agg #[.int .i64 a0.Kind,.int .i64 a0.N,.int .i64 a0.Source,.int .i64 a0.Length,.slice p1 a0.Draws.length c2],.agg #[.int .i64 a1.N,.slice p4 a1.Edges.length c5],.int .i64 a2] I (fun _=>o9_ Q):=by
 refine Fun.enter func39 r ntmps39 r (.c (.c (.c .n))) fun w0 M=>?_
 refine .sr (.boxA r r r fun f=>?_)
 refine .boxA r r r fun g=>?_
 refine .ks 2 r (.nilS [4,3,2] r r (.sr (.loadW ia49 sz49 r (.s .z) r r r (.loadW ia24 sz24 r .z r r r (.ks 1 r ?_)))))
 have d:=W_vertex_run (I:=I) R3 R6 hd
 refine .call call87 r d r r fun h i a e=>?_
 obtain ⟨b,j,k,l,m,o,p,rfl,q,u,v,hd⟩:=e
 replace R3:=R3.mono a
 replace R6:=R6.mono a
 refine .ks 4 r (.allocA zv44 r r fun w=>?_)
 exact .storeA sz44 r r .z (.t (.t (.t (.t (.t (.t (.t .nil))))))) r r (.ks 2 r (.nilS [10,9] r r (.drop .z (.drop .z (.drop .z (.sr (.ks 4 r (.nilS [7,6] r r (.ret (pret results39 (.t r (.t r .n)) a ⟨(b.2.1,b.2.2),r,hd⟩))))))))))
theorem W_law35_live {I:IH} {Q:Bool→Prop}  (hd:law35_live Q) :
  PFun prog 27 [] I (fun _=>o4_ Q):=by
 refine Fun.enter func27 r ntmps27 r .n fun w0 M=>?_
 refine .sr (.ks 1 r (.nilS [] r r (.sr (.build zv27 un27 BI27 (.c r r r (.t .nil) (.c r r r (.s (.t .nil)) (.c r r r (.s (.s (.t .nil))) .n))) (by exact ⟨⟨_,_,r,r,r⟩,⟨⟨_,_,r,r,r⟩,⟨⟨_,_,r,r,r⟩,trivial⟩⟩⟩) r r (.buildSlice 1 un22 sz27 zv27 r r (.c r r r .n) r r fun b6=>?_)))))
 refine .ownB (El:=eEdge) (ys:=([({ From:=0,To:=1,W:=7 }:Edge)]:List Edge)) .z (.one r) r (.build zv24 un24 BI24 (.c r r r (.t .nil) (.c r r r (.s (.t .nil)) .n)) (by exact ⟨⟨_,_,r,r,r⟩,⟨⟨_,_,r,r,r⟩,trivial⟩⟩) r r (.allocA zv24 r r fun b9=>?_))
 refine .storeA sz24 r r .z (.t (.t .nil)) r r (.nilS [1] r r (.sr (.build zv49 un49 BI49 (.c r r r (.t .nil) (.c r r r (.s (.t .nil)) .n)) (by exact ⟨⟨_,_,r,r,r⟩,⟨⟨_,_,r,r,r⟩,trivial⟩⟩) r r (.allocA zv49 r r fun h9=>?_))))
 refine .storeA sz49 r r .z (.t (.t (.t (.t (.t .nil))))) r r (.nilS [2,1] r r (.sr (.loadW ia49 sz49 r .z r r r (.loadW ia24 sz24 r (.s .z) r r r (.pub (.s (.s .z)) fun e4 c5 e=>?_)))))
 have c6:=W_vertex_Links (I:=e4) (a0:=({ Kind:=1,N:=2,Source:=0,Length:=0,Draws:=([]:List Int) }:Plan)) (a1:=({ N:=2,Edges:=([({ From:=0,To:=1,W:=7 }:Edge)]:List Edge) }:Graph)) (.nil _ none 0) e hd
 refine .call call25 r c6 r r fun i0 e5 X c7=>?_
 obtain ⟨i1,i2,i3,rfl,d,hd⟩:=c7
 have c8:=IH.le.trans c5 X
 replace e:=e.mono X
 refine .ks 5 r (.nilS [4,3,2,1] r r (.seq (.dr [0,1,2,3,4,5,6,7,8] 9 (.g r r r (fun _=>.loadW ia49 sz49 r .z r r r .mk) (.fk 1 r (.g r r r (fun _=>.loadW ia49 sz49 r .z r r r .mk) (.ww r fun ex=>?_)))))))
 have c9:=W_ref21_Begin (I:=e5) (a0:=({ Kind:=1,N:=2,Source:=0,Length:=0,Draws:=([]:List Int) }:Plan)) (.nil _ none 0) hd
 refine .call call44 r c9 r r fun i4 e6 S d0=>?_
 obtain ⟨i5,i6,i7,i8,i9,j0,j1,rfl,Y,Z,a2,hd⟩:=d0
 have d1:=IH.le.trans c8 S
 replace e:=e.mono S
 replace d:=d.mono S
 refine .so 2 r r r (.ck 1 r r (.cg r r r r (fun _=>.loadW ia49 sz49 r .z r r r .mk) trivial)) (.ww r fun ex=>?_)
 have d2:=W_vertex_Mail (I:=e6) (a0:=({ Kind:=1,N:=2,Source:=0,Length:=0,Draws:=([]:List Int) }:Plan)) (.nil _ none 0) d Y Z a2 hd
 refine .call call30 r d2 r r fun j2 e7 i d3=>?_
 obtain ⟨j3,j4,j5,rfl,l,hd⟩:=d3
 have d4:=IH.le.trans d1 i
 replace e:=e.mono i
 replace d:=d.mono i
 replace Y:=Y.mono i
 replace Z:=Z.mono i
 replace a2:=a2.mono i
 refine .so 2 r r r trivial (.fk 4 r (.e2 9 (.ks 1 r (.nilS [6,5,4,3,2,1] r r (.sr (.loadW ia49 sz49 r .z r r r (.loadW ia24 sz24 r (.s .z) r r r ?_)))))))
 have a9:=W_vertex_Run (I:=e7) (a0:=({ Kind:=1,N:=2,Source:=0,Length:=0,Draws:=([]:List Int) }:Plan)) (a1:=({ N:=2,Edges:=([({ From:=0,To:=1,W:=7 }:Edge)]:List Edge) }:Graph)) (.nil _ none 0) e hd
 refine .call call37 r a9 r r fun f1 d5 m b0=>?_
 obtain ⟨f2,f3,f4,f5,f6,f7,f8,rfl,p,q,u,hd⟩:=b0
 have b1:=IH.le.trans d4 m
 replace e:=e.mono m
 replace d:=d.mono m
 replace l:=l.mono m
 refine .ks 3 r (.allocA zv44 r r fun f9=>?_)
 refine .storeA sz44 r r .z (.t (.t (.t (.t (.t (.t (.t .nil))))))) r r (.ks 1 r (.nilS [8,7,6,5,4,3,2,1] r r (.sr (.loadW ia49 sz49 r (.s .z) r r r (.loadW ia24 sz24 r (.s (.s .z)) r r r ?_)))))
 have b2:=W_vertex_Letters (I:=d5) (a0:=({ Kind:=1,N:=2,Source:=0,Length:=0,Draws:=([]:List Int) }:Plan)) (a1:=({ N:=2,Edges:=([({ From:=0,To:=1,W:=7 }:Edge)]:List Edge) }:Graph)) (.nil _ none 0) e hd
 refine .callP call39 r b2 r r fun g0 b3=>?_
 obtain ⟨g1,rfl,hd⟩:=b3
 refine .ks 5 r (.nilS [10,9,8,7,6,5,4,3] r r (.drop (.s .z) (.drop (.s .z) (.sr (.build zv127 un127 BI127 (.c r r r (.s (.t .nil)) .n) (by exact ⟨⟨_,_,r,r,r⟩,trivial⟩) r r (.build zv127 un127 BI127 (.c r r r (.s (.t .nil)) .n) (by exact ⟨⟨_,_,r,r,r⟩,trivial⟩) r r (.buildSlice 2 un78 sz127 zv127 r r (.c r r r (.c r r r .n)) r r fun g2=>?_)))))))
 refine .pubB (El:=eWide) (ys:=([({ Hi:=0,Lo:=5 }:Wide),({ Hi:=0,Lo:=3 }:Wide)]:List Wide)) (k:=2) .z (RepCs.cons (cs:=[.int .i64 0,.int .u64 5]) r (RepCs.cons (cs:=[.int .i64 0,.int .u64 3]) r .nil)) r fun a3 f d6=>?_
 have a:=IH.le.trans b1 f
 replace d:=d.mono f
 replace l:=l.mono f
 replace p:=p.mono f
 replace q:=q.mono f
 replace u:=u.mono f
 have b4:=W_vertex_Hear (I:=a3) d6 hd
 refine .callP call33 r b4 r r fun g3 b5=>?_
 obtain ⟨g4,rfl,hd⟩:=b5
 refine .ks 7 r (.nilS [12,11,10,9,8,7,6,5,4,3] r r (.sr ?_))
 have b7:=W_vertex_Hear (I:=a3) (.nil _ none 0) hd
 refine .callP call33 r b7 r r fun g5 b8=>?_
 obtain ⟨d7,rfl,hd⟩:=b8
 refine .ks 7 r (.nilS [16,12,11,10,9,8,7,6,5,4,3] r r (.sr (.ks 3 r ?_)))
 refine splitP hd (fun v hd=>?_) fun v hd=>?_
 · rw [v]
   refine .ks 1 r (.gyes r r r (.len un22 r r r r (.ks 3 r ?_)))
   refine splitP hd (fun w hd=>?_) fun w hd=>?_
   · rw [w]
     refine .ks 1 r ?_
     obtain ⟨a4,g6,T,hd⟩:=hd
     obtain ⟨g7,o179,e8,d8,x,c0⟩:=d.2 _ _ T
     cases c0
     refine .gyes r r r (.ixa un22 sz27 r d8 r a4 (idx_lt T a4) r r (.gyes r r r (.fa un27 r sz2 r (o:=o179+(Int.toNat 0)*3+2) r r r (.gyes r r r (.ld1 (j:=2) ia2 x r r r r r (.ks 3 r ?_))))))
     refine splitP hd (fun y hd=>?_) fun y hd=>?_
     · rw [y]
       refine .ks 4 r ?_
       refine splitP hd (fun A hd=>?_) fun A hd=>?_
       · rw [A]
         refine .ks 1 r (.gyes r r r (.len un74 r r r r (.ks 3 r ?_)))
         refine splitP hd (fun B hd=>?_) fun B hd=>?_
         · rw [B]
           refine .ks 1 r ?_
           obtain ⟨a5,g8,U,hd⟩:=hd
           obtain ⟨g9,o191,e9,d9,C,c1⟩:=l.2 _ _ U
           obtain ⟨h0,h1,rfl,a6⟩:=c1
           refine .gyes r r r (.ixa un74 sz78 r d9 r a5 (idx_lt U a5) r r (.gyes r r r (.ld1 (j:=0) isAgg78 C r r r r r (.gyes r r r (.len un78 r r r r (.ks 3 r ?_))))))
           refine splitP hd (fun D hd=>?_) fun D hd=>?_
           · rw [D]
             refine .ks 1 r ?_
             obtain ⟨a7,h2,V,hd⟩:=hd
             obtain ⟨h3,o204,f0,e0,E,c2⟩:=l.2 _ _ V
             obtain ⟨h4,h5,rfl,a8⟩:=c2
             refine .gyes r r r (.ixa un74 sz78 r e0 r a7 (idx_lt V a7) r r (.gyes r r r (.ld1 (j:=0) isAgg78 E r r r r r (.gyes r r r (.len un78 r r r r (.ks 3 r ?_))))))
             refine splitP hd (fun F hd=>?_) fun F hd=>?_
             · rw [F]
               refine .ks 4 r ?_
               refine splitP hd (fun G hd=>?_) fun G hd=>?_
               · rw [G]
                 refine .gyes r r r (.fa un44 r sz39 r (o:=0) r r r (.gyes r r r (.load1 isAgg39 r .z r r r (.ks 3 r ?_))))
                 refine splitP hd (fun H hd=>?_) fun H hd=>?_
                 · rw [H]
                   refine .gyes r r r (.fa un44 r sz3 r (o:=1) r r r (.gyes r r r (.load1 ia3 r .z r r r (.ks 3 r ?_))))
                   refine splitP hd (fun J hd=>?_) fun J hd=>?_
                   · rw [J]
                     refine .gyes r r r (.fa un44 r sz42 r (o:=2) r r r (.gyes r r r (.fa un42 r sz30 r (o:=4) r r r (.gyes r r r (.load1 ia30 r .z r r r (.gyes r r r (.buildSlice 2 un30 sz2 zv2 r r (.c r r r (.c r r r .n)) r r fun h6=>?_)))))))
                     refine .pubB (El:=eI64) (ys:=([0,1]:List Int)) (k:=2) .z (RepCs.cons (cs:=[.int .i64 0]) r (RepCs.cons (cs:=[.int .i64 1]) r .nil)) r fun e1 b e3=>?_
                     have h:=IH.le.trans a b
                     replace d:=d.mono b
                     replace l:=l.mono b
                     replace p:=p.mono b
                     replace q:=q.mono b
                     replace u:=u.mono b
                     replace x:=x.mono b
                     replace a6:=a6.mono b
                     replace C:=C.mono b
                     replace a8:=a8.mono b
                     replace E:=E.mono b
                     have c3:=W_ref07_SameVals (I:=e1) p e3 hd
                     refine .gyes r r r (.callP call67 r c3 r r fun h7 c4=>?_)
                     obtain ⟨h8,rfl,hd⟩:=c4
                     refine .ks 2 r ?_
                     refine splitP hd (fun K hd=>?_) fun K hd=>?_
                     · rw [K]
                       refine .ks 4 r ?_
                       refine splitP hd (fun L hd=>?_) fun L hd=>?_
                       · rw [L]
                         refine .ks 4 r ?_
                         refine splitP hd (fun O hd=>?_) fun O hd=>?_
                         · rw [O]
                           refine .ks 4 r ?_
                           refine splitP hd (fun P hd=>?_) fun P hd=>?_
                           · rw [P]
                             refine .ks 3 r ?_
                             refine splitP hd (fun R hd=>?_) fun R hd=>?_
                             · rw [R]
                               exact .ks 4 r (.nilS [0] r r (.drop .z (.ret (pret results27 (.t r .n) h ⟨(d7.2.2==8),r,hd⟩))))
                             rw [R]
                             exact .ks 4 r (.nilS [0] r r (.drop .z (.ret (pret results27 (.t r .n) h ⟨false,r,hd⟩))))
                           rw [P]
                           exact .ks 7 r (.nilS [0] r r (.drop .z (.ret (pret results27 (.t r .n) h ⟨false,r,hd⟩))))
                         rw [O]
                         exact .ks 11 r (.nilS [0] r r (.drop .z (.ret (pret results27 (.t r .n) h ⟨false,r,hd⟩))))
                       rw [L]
                       exact .ks 15 r (.nilS [0] r r (.drop .z (.ret (pret results27 (.t r .n) h ⟨false,r,hd⟩))))
                     rw [K]
                     exact .ks 19 r (.nilS [0] r r (.drop .z (.ret (pret results27 (.t r .n) h ⟨false,r,hd⟩))))
                   rw [J]
                   exact .ks 26 r (.nilS [0] r r (.drop .z (.ret (pret results27 (.t r .n) a ⟨false,r,hd⟩))))
                 rw [H]
                 exact .ks 31 r (.nilS [0] r r (.drop .z (.ret (pret results27 (.t r .n) a ⟨false,r,hd⟩))))
               rw [G]
               exact .ks 36 r (.nilS [0] r r (.drop .z (.ret (pret results27 (.t r .n) a ⟨false,r,hd⟩))))
             rw [F]
             exact .ks 40 r (.nilS [0] r r (.drop .z (.ret (pret results27 (.t r .n) a ⟨false,r,hd⟩))))
           rw [D]
           exact .ks 47 r (.nilS [0] r r (.drop .z (.ret (pret results27 (.t r .n) a ⟨false,r,hd⟩))))
         rw [B]
         exact .ks 54 r (.nilS [0] r r (.drop .z (.ret (pret results27 (.t r .n) a ⟨false,r,hd⟩))))
       rw [A]
       exact .ks 59 r (.nilS [0] r r (.drop .z (.ret (pret results27 (.t r .n) a ⟨false,r,hd⟩))))
     rw [y]
     exact .ks 63 r (.nilS [0] r r (.drop .z (.ret (pret results27 (.t r .n) a ⟨false,r,hd⟩))))
   rw [w]
   exact .ks 70 r (.nilS [0] r r (.drop .z (.ret (pret results27 (.t r .n) a ⟨false,r,hd⟩))))
 rw [v]
 exact .ks 75 r (.nilS [0] r r (.drop .z (.ret (pret results27 (.t r .n) a ⟨false,r,hd⟩))))
theorem W_law35_VertexHears {I:IH} {a0:Int} {a1:Int} {a2:List Wide} {p1:Option Addr} {c2:Nat} {Q:Bool→Prop} (R3:RepSl eWide I p1 c2 a2) (hd:law35_VertexHears a0 a1 a2 Q) :
  PFun prog 5 [.int .i64 a0,.int .i64 a1,.slice p1 a2.length c2] I (fun _=>o4_ Q):=by
 refine Fun.enter func5 r ntmps5 r (.c (.c (.c .n))) fun w0 M=>?_
 refine .sr (.ks 1 r (.nilS [2,1,0] r r (.seq (.sr (.ks 1 r (.len un78 r r r r (.ks 1 r (.nilS [15,2,1,0] r r (.condP r hd (fun m hd=>?_) fun m hd=>?_)))))))))
 · refine .sr ?_
   have e:=W_law35_live (I:=I) hd
   refine .callP call27 r e r r fun s f=>?_
   obtain ⟨o,rfl,hd⟩:=f
   exact .ks 1 r (.nilS [6] r r (.ret (pret results5 (.t r .n) (.refl _) ⟨o,r,hd⟩)))
 refine .skipS [2,1,0] r r (.sr (.ks 3 r ?_))
 have g:=W_vertex_Hear (I:=I) R3 hd
 refine .callP call33 r g r r fun u h=>?_
 obtain ⟨p,rfl,hd⟩:=h
 refine .ks 7 r (.nilS [9,8,7,2,1,0] r r (.sr (.ks 3 r ?_)))
 have i:=W_ref35_Hear (I:=I) R3 hd
 refine .callP call34 r i r r fun v j=>?_
 obtain ⟨q,rfl,hd⟩:=j
 refine .ks 7 r (.nilS [12,11,10,9,8,7] r r (.sr ?_))
 have k:=W_law35_live (I:=I) hd
 refine .callP call27 r k r r fun w l=>?_
 obtain ⟨x,rfl,hd⟩:=l
 refine .ks 1 r ?_
 refine splitP hd (fun a hd=>?_) fun a hd=>?_
 · rw [a]
   refine .ks 5 r ?_
   refine splitP hd (fun b hd=>?_) fun b hd=>?_
   · rw [b]
     refine .ks 2 r (.gyes r r r (.eqB underlying4 r r r r (.ks 2 r ?_)))
     refine splitP hd (fun d hd=>?_) fun d hd=>?_
     · rw [d]
       exact .ks 5 r (.nilS [6] r r (.ret (pret results5 (.t r .n) (.refl _) ⟨(p.2.2==q.2.2),r,hd⟩)))
     rw [d]
     exact .ks 5 r (.nilS [6] r r (.ret (pret results5 (.t r .n) (.refl _) ⟨false,r,hd⟩)))
   rw [b]
   exact .ks 10 r (.nilS [6] r r (.ret (pret results5 (.t r .n) (.refl _) ⟨false,r,hd⟩)))
 rw [a]
 exact .ks 15 r (.nilS [6] r r (.ret (pret results5 (.t r .n) (.refl _) ⟨false,r,hd⟩)))
end Go.Proofs.YtaefnmlbnkmahaaGreat
