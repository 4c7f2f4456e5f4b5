/- The walks (printed by a program of ours). -/
import Derived.Test.YtbohadngdkjljaaGreatV2
namespace Go.Proofs.YtbohadngdkjljaaGreat
open Go Go.Fw
set_option linter.unusedVariables false
set_option linter.unusedSimpArgs false
set_option maxRecDepth 8000
set_option maxHeartbeats 1000000
open Tryz
variable {I:IH}
variable {b2 b3 b4 b5 b6 b7 b8 b9 c2 c3 c4 c5 c6 c7 c8 c9 lr b10 b11 b12 b13 b18 b19 b20 b21 b35 b36 b37 b38 b39 b40 b41 b42 b43 b54 b59 c10 c11 c12 c13 c14 c15 c16 c17 c18 c19 c20 c21 c22 c23 c24 c25 c26 c27 c28 c29 c30 c31 c32 c33 c34 c35 c36 c37 c38 c39 c41 c42 c43 c44 c45 c46 c47 c48 c49 c50 c51 c52 c54 c55 c57 c60 c63 c66 c69 c72 c75 c78:Nat}
variable {p1 p2 p3 p4 p5 p6 p7 p8 p9 p10 p11 p12 p13 p14 p15 p16 p17 p18 p19 p20 p21 p22 p23 p24 p25 p26 p27 p28 p29 p30 p31 p32 p33 p34 p35 p36 p37 p38 p40 p41 p42 p43 p44 p45 p46 p47 p48 p49 p50 p51 p53 p54 p56 p59 p62 p65 p68 p71 p74 p77:Option Addr}
variable {Rr:Nat→HA}
theorem fJ {a0:Int} {Q:Bool→Prop} (hd:V8 a0 Q) :
  BZ prog 102 [.int .i64 a0] I (fun _=>fM Q):=by
 refine Fun.en func102 ntmps102 r fun w0 M=>?_
 refine .sk 1 r (.nk [0] 3 r ?_)
 refine AN hd (fun a hd=>?_) fun a hd=>?_
 · rw [a]
   exact .kn 4 [2] r (.r0 results102 r ⟨(decide (a0≤5)),r,hd⟩)
 rw [a]
 exact .kn 4 [2] r (.r0 results102 r ⟨false,r,hd⟩)
theorem oL {a0 a1:AL} {Q:AL→Prop} (hd:W8 a0 a1 Q) :
  BZ prog 170 [.agg (EG a0).toArray,.agg (EG a1).toArray] I (fun _=>tR Q):=by
 refine Fun.en func170 ntmps170 r fun w0 M=>?_
 refine .sr (.bx r fun d=>?_)
 refine .bx r fun e=>?_
 refine .al DN r fun b=>?_
 refine .nk [4,3,2] 1 r (.lo DZ .p2 r (.ks 1 r (.lo DZ .p1 r (.ks 2 r (.nk [5,4,3,2] 1 r (.lo TP .p2 r (.ks 1 r (.lo TP .p1 r (.kn 2 [6,5,4,2] r ?_)))))))))
 refine .drop .p1 (.seq (.sk 2 r (.lo DZ .p1 r (.kn 1 [20,6,5,4] r (.drop .p1 (.condP r hd (fun a hd=>?_) fun a hd=>?_))))))
 · exact .region (.ks 3 r (.nk [6,5,4] 2 r (.build DN LL LJ (.c r r r (.o r) (.c r r r (.o r) .n)) (by exact ⟨⟨_,_,r,r,r⟩,⟨⟨_,_,r,r,r⟩,trivial⟩⟩) r r (.sa AO .z r (.no [4] r (.ret (BP results170 (.w BO AO r .z r .n) rf ⟨({ Hi:=AJ ((AJ (a0.Hi+a1.Hi))+1),Lo:=IntKind.wrap .u64 (a0.Lo+a1.Lo) }:AL),r,hd⟩)))))))
 exact .sn [6,5,4] r (.sk 2 r (.build DN LL LJ (.c r r r (.o r) (.c r r r (.o r) .n)) (by exact ⟨⟨_,_,r,r,r⟩,⟨⟨_,_,r,r,r⟩,trivial⟩⟩) r r (.sa AO .z r (.no [4] r (.ret (BP results170 (.w BO AO r .z r .n) rf ⟨({ Hi:=AJ (a0.Hi+a1.Hi),Lo:=IntKind.wrap .u64 (a0.Lo+a1.Lo) }:AL),r,hd⟩))))))
theorem bX {a0 a1:AL} {Q:Int→Prop} (hd:NA a0 a1 Q) :
  BZ prog 172 [.agg (EG a0).toArray,.agg (EG a1).toArray] I (fun _=>jF Q):=by
 refine Fun.en func172 ntmps172 r fun w0 M=>?_
 refine .sr (.bx r fun h=>?_)
 refine .bx r fun i=>?_
 refine .kn 1 [3,2] r (.seq (.jn hd [3,2] [1,0] r (fun j E l _=>j E l) (fun f hd=>?_) ?_))
 · skip
   refine .sk 1 r (.lo TP .p1 r (.ks 1 r (.lo TP .z r (.ks 2 r ?_))))
   refine AN hd (fun a hd=>?_) fun a hd=>?_
   · rw [a]
     exact .kn 13 [23,3,2] r (.condKT r r (.sr (.kn 1 [4] r (.drop .z (.drop .z (.r0 results172 r ⟨(-1),r,hd⟩))))))
   rw [a]
   refine .ks 1 r (.yes r (.lo TP .p1 r (.ks 1 r (.yes r (.lo TP .z r (.ks 2 r ?_))))))
   refine AN hd (fun b hd=>?_) fun b hd=>?_
   · rw [b]
     refine .ks 1 r (.yes r (.lo DZ .p1 r (.ks 1 r (.yes r (.lo DZ .z r (.kn 3 [23,3,2] r (.condP r hd (fun d hd=>?_) fun d hd=>?_)))))))
     · exact .sr (.kn 1 [4] r (.drop .z (.drop .z (.r0 results172 r ⟨(-1),r,hd⟩))))
     exact .skip' (je () hd rf [1,0] r)
   rw [b]
   exact .kn 7 [23,3,2] r (.condKF r r (.skip' (je () hd rf [1,0] r)))
 refine fun _ hd=>jq r fun g c=>?_
 refine .seq (.sr (.lw BO AO .z r (.lw BO AO .p1 r (.eqV r r (gM a0 a1) (gN _ _ _ _ _) r r r (.no [26] r (.drop .z (.drop .z (.condP r hd (fun e hd=>?_) fun e hd=>?_))))))))
 · exact .sr (.kn 1 [4] r (.r1 results172 r c ⟨0,r,hd⟩))
 exact .sn [] r (.sr (.kn 1 [4] r (.r1 results172 r c ⟨1,r,hd⟩)))
theorem X8 {a0:Bool} {Q:AL→Prop} (hd:NI a0 Q) :
  BZ prog 173 [.bool a0] I (fun _=>tR Q):=by
 refine Fun.en func173 ntmps173 r fun w0 M=>?_
 refine .sr (.al DN r fun b=>?_)
 refine .no [2,0] r (.seq (.sr (.kn 1 [3,2] r (.condP r hd (fun a hd=>?_) fun a hd=>?_))))
 · exact .sr (.build DN LL LJ (.c r r r (.o r) .n) (by exact ⟨⟨_,_,r,r,r⟩,trivial⟩) r r (.sa AO .z r (.no [2] r (.ret (BP results173 (.w BO AO r .z r .n) rf ⟨({ Hi:=0,Lo:=1 }:AL),r,hd⟩)))))
 exact .sn [2] r (.sr (.build DN LL LJ .n (by exact trivial) r r (.sa AO .z r (.no [2] r (.ret (BP results173 (.w BO AO r .z r .n) rf ⟨({ Hi:=0,Lo:=0 }:AL),r,hd⟩))))))
theorem oM {a0:Int} {a1 a2:AL} {Q:AL→Prop} (hd:W9 a0 a1 a2 Q) :
  BZ prog 107 [.int .i64 a0,.agg (EG a1).toArray,.agg (EG a2).toArray] I (fun _=>tR Q):=by
 refine Fun.en func107 ntmps107 r fun w0 M=>?_
 refine .sr (.bx r fun A=>?_)
 refine .bx r fun B=>?_
 refine .al DN r fun v=>?_
 refine .nk [6,5,4,0] 1 r (.no [7,6,5,4] r (.block (.seq (.jn hd [7,6,5,4] [2,1,0] r (fun j E l d=>j ((9,.bool d) :: E) l) (fun x hd=>?_) ?_))))
 · skip
   refine .sr (.kn 2 [9,7,6,5,4] r (.condP r hd (fun e hd=>?_) fun e hd=>?_))
   · exact .skip' (je (a0==1) hd rf [2,1,0] r)
   refine .sr (.kn 2 [9,7,6,5,4] r (.condP r hd (fun f hd=>?_) fun f hd=>?_))
   · exact .skip' (je (a0==3) hd rf [2,1,0] r)
   exact .region (.ks 2 r (.nil' (je (a0==4) hd rf [2,1,0] r)))
 refine fun d hd=>jq r fun c a=>?_
 refine .condP r hd (fun g hd=>?_) fun g hd=>?_
 · refine .seq (.sr (.lw BO AO .p1 r (.lw BO AO .z r ?_)))
   have h:=bX (I:=c) hd
   refine .cq call172 h r fun y hd=>?_
   refine .kn 1 [16,6,5,4] r (.condP r hd (fun i hd=>?_) fun i hd=>?_)
   · exact .sr (.lw BO AO .p1 r (.sa AO .p2 r (.no [6] r (.drop .z (.drop .z (.ret (BP results107 (.w BO AO r .z r .n) a ⟨a2,r,hd⟩)))))))
   exact .sn [6,4] r (.drop .p1 (.sr (.lw BO AO .z r (.sa AO .p1 r (.no [6] r (.drop .z (.ret (BP results107 (.w BO AO r .z r .n) a ⟨a1,r,hd⟩))))))))
 refine .sr (.kn 2 [19,7,6,5,4] r (.condP r hd (fun k hd=>?_) fun k hd=>?_))
 · refine .sr (.lw BO AO .z r (.build DN LL LJ .n (by exact trivial) r r (.neV r r (gM a1 ({ Hi:=0,Lo:=0 }:AL)) (gN _ _ _ _ _) r r r (.ks 1 r ?_))))
   refine AN hd (fun b hd=>?_) fun b hd=>?_
   · rw [b]
     refine .ks 4 r ?_
     have m:=X8 (I:=c) hd
     refine .cq call173 m r fun s hd=>?_
     exact .sa AO .p2 r (.no [6] r (.drop .z (.drop .z (.ret (BP results107 (.w BO AO r .z r .n) a ⟨s,r,hd⟩)))))
   rw [b]
   refine .yes r (.lw BO AO .p1 r (.yes r (.build DN LL LJ .n (by exact trivial) r r (.yes r (.neV r r (gM a2 ({ Hi:=0,Lo:=0 }:AL)) (gN _ _ _ _ _) r r r (.ks 1 r ?_))))))
   have o:=X8 (I:=c) hd
   refine .cq call173 o r fun t hd=>?_
   exact .sa AO .p2 r (.no [6] r (.drop .z (.drop .z (.ret (BP results107 (.w BO AO r .z r .n) a ⟨t,r,hd⟩)))))
 refine .sr (.kn 2 [30,6,5,4] r (.condP r hd (fun p hd=>?_) fun p hd=>?_))
 · refine .sr (.lw BO AO .z r (.lw BO AO .p1 r ?_))
   have q:=oL (I:=c) hd
   refine .cq call170 q r fun u hd=>?_
   exact .sa AO .p2 r (.no [6] r (.drop .z (.drop .z (.ret (BP results107 (.w BO AO r .z r .n) a ⟨u,r,hd⟩)))))
 exact .sr (.build DN LL LJ .n (by exact trivial) r r (.sa AO .p2 r (.no [6] r (.drop .z (.drop .z (.ret (BP results107 (.w BO AO r .z r .n) a ⟨({ Hi:=0,Lo:=0 }:AL),r,hd⟩)))))))
theorem qU {a0:Int} {Q:AL→Prop} (hd:YE a0 Q) :
  BZ prog 171 [.int .i64 a0] I (fun _=>tR Q):=by
 refine Fun.en func171 ntmps171 r fun w0 M=>?_
 refine .sr (.al DN r fun b=>?_)
 refine .no [2,0] r (.seq (.sr (.kn 2 [4,2,0] r (.condP r hd (fun a hd=>?_) fun a hd=>?_))))
 · exact .sk 1 r (.conv jG LK r r r (.build DN LL LJ (.c r r r (.o r) (.c r r r (.o r) .n)) (by exact ⟨⟨_,_,r,r,r⟩,⟨⟨_,_,r,r,r⟩,trivial⟩⟩) r r (.sa AO .z r (.no [2] r (.ret (BP results171 (.w BO AO r .z r .n) rf ⟨({ Hi:=(-1),Lo:=IntKind.wrap .u64 (a0) }:AL),r,hd⟩))))))
 exact .sn [2,0] r (.sk 1 r (.conv jG LK r r r (.build DN LL LJ (.c r r r (.o r) .n) (by exact ⟨⟨_,_,r,r,r⟩,trivial⟩) r r (.sa AO .z r (.no [2] r (.ret (BP results171 (.w BO AO r .z r .n) rf ⟨({ Hi:=0,Lo:=IntKind.wrap .u64 (a0) }:AL),r,hd⟩)))))))
theorem fK {a0:AL} {Q:(Int×Bool)→Prop} (hd:OR a0 Q) :
  BZ prog 180 [.agg (EG a0).toArray] I (fun _=>o3_ Q):=by
 refine Fun.en func180 ntmps180 r fun w0 M=>?_
 refine .sr (.bx r fun g=>?_)
 refine .ks 2 r (.nk [1] 1 r (.lo DZ .z r (.conv LK jG r r r (.kn 1 [4,1] r (.seq (.sk 1 r (.lo TP .z r (.ks 2 r ?_))))))))
 refine AN hd (fun a hd=>?_) fun a hd=>?_
 · rw [a]
   refine .ks 4 r ?_
   refine AN hd (fun b hd=>?_) fun b hd=>?_
   · rw [b]
     exact .kn 8 [23,4] r (.drop .z (.condKT r r (.sr (.kn 3 [3,2] r (.ret (BP results180 (.t r (.t r .n)) rf ⟨(AJ (a0.Lo),true),r,hd⟩))))))
   rw [b]
   refine .ks 1 r (.yes r (.lo TP .z r (.ks 2 r ?_)))
   refine AN hd (fun c hd=>?_) fun c hd=>?_
   · rw [c]
     refine .kn 4 [23,4] r (.drop .z (.condP r hd (fun f hd=>?_) fun f hd=>?_))
     · exact .sr (.kn 3 [3,2] r (.ret (BP results180 (.t r (.t r .n)) rf ⟨(AJ (a0.Lo),true),r,hd⟩)))
     exact .sn [] r (.sr (.kn 2 [3,2] r (.ret (BP results180 (.t r (.t r .n)) rf ⟨(0,false),r,hd⟩))))
   rw [c]
   exact .kn 4 [23,4] r (.drop .z (.condKF r r (.sn [] r (.sr (.kn 2 [3,2] r (.ret (BP results180 (.t r (.t r .n)) rf ⟨(0,false),r,hd⟩)))))))
 rw [a]
 refine .ks 5 r (.yes r (.lo TP .z r (.ks 2 r ?_)))
 refine AN hd (fun d hd=>?_) fun d hd=>?_
 · rw [d]
   refine .kn 4 [23,4] r (.drop .z (.condP r hd (fun e hd=>?_) fun e hd=>?_))
   · exact .sr (.kn 3 [3,2] r (.ret (BP results180 (.t r (.t r .n)) rf ⟨(AJ (a0.Lo),true),r,hd⟩)))
   exact .sn [] r (.sr (.kn 2 [3,2] r (.ret (BP results180 (.t r (.t r .n)) rf ⟨(0,false),r,hd⟩))))
 rw [d]
 exact .kn 4 [23,4] r (.drop .z (.condKF r r (.sn [] r (.sr (.kn 2 [3,2] r (.ret (BP results180 (.t r (.t r .n)) rf ⟨(0,false),r,hd⟩)))))))
theorem X9 {a0 a1:BN} {Q:Bool→Prop} (hd:NJ a0 a1 Q) :
  BZ prog 200 [.agg (cE a0).toArray,.agg (cE a1).toArray] I (fun _=>fM Q):=by
 refine Fun.en func200 ntmps200 r fun w0 M=>?_
 refine .sr (.bx r fun c=>?_)
 refine .bx r fun d=>?_
 refine .ks 1 r (.nk [3,2] 1 r (.lo BF .p1 r (.ks 1 r (.lo BF .z r (.ks 2 r ?_)))))
 refine AN hd (fun b hd=>?_) fun b hd=>?_
 · rw [b]
   exact .kn 14 [4] r (.drop .z (.drop .z (.r0 results200 r ⟨true,r,hd⟩)))
 rw [b]
 refine .ks 1 r (.yes r (.lo BF .p1 r (.ks 1 r (.yes r (.lo BF .z r (.ks 2 r ?_))))))
 refine AN hd (fun a hd=>?_) fun a hd=>?_
 · rw [a]
   exact .ks 1 r (.yes r (.lo BF .p1 r (.ks 1 r (.yes r (.lo BF .z r (.kn 4 [4] r (.drop .z (.drop .z (.r0 results200 r ⟨(decide (a0.To<a1.To)),r,hd⟩)))))))))
 rw [a]
 exact .kn 8 [4] r (.drop .z (.drop .z (.r0 results200 r ⟨false,r,hd⟩)))
theorem UL {a0:Int} {a1:List BN} {Q:((List BN)×Int)→Prop} (R3:RepSl GU I p1 c2 a1) (hd:JV a0 a1 Q) :
  lO prog 127 [.int .i64 a0,.slice p1 a1.length c2] I (fun I_ v l=>∃ r p4 c5,v=.tuple #[.slice p4 r.1.length c5,.int .i64 r.2]∧l=[OwnSl GU 49 p4 c5 r.1]∧Q r):=by
 refine Fun.en func127 ntmps127 r fun w0 M=>?_
 refine .sr (.kn 2 [1,0] r (.seq (.sk 1 r ?_)))
 have j4:=fJ (I:=I) hd
 refine .cq call102 j4 r fun p3 hd=>?_
 refine .kn 1 [17,1,0] r (.condP r hd (fun j5 hd=>?_) fun j5 hd=>?_)
 · exact .sr (.kn 2 [5,4] r (.own0 GU 49 (.ret (OA results127 (.t r (.t r .n)) rf (.o [0] r) ⟨(([]:List BN),8),_,_,r,r,hd⟩))))
 refine .sn [1,0] r (.sk 1 r (.nk [6,1,0] 1 r (.no [7,6,1,0] r (.seq (.sr (.kn 1 [8,7,6,1,0] r (.block (.own0 GU 49 (.own0 NH 157 ?_)))))))))
 refine .lx hd [1,0] [] r (fun j E l (q,s,u)=>fun c w=>∃ L N O P,j ⟨145,[],none⟩ (fun I_=>True) ((6,.slice L q.length N) :: (7,.slice O s.length P) :: (8,.int .i64 u) :: E) (OwnSl GU 49 L N q :: OwnSl NH 157 O P s :: l) c w) (fun c w ho hs=>⟨_,_,_,_,jf rf trivial [1,0] r ho hs⟩) ?_
 rintro ⟨q,s,u⟩ j6 hd c w ⟨L,N,O,P,l1,d,_,hok,hsym⟩
 have R3:=d.u1 R3
 refine Cod.at hok hsym (.seq (.sk 2 r (.ln EL r (.kn 1 [21,8,7,6,1,0] r (.condP r hd (fun e8 hd=>?_) fun e8 hd=>?_)))))
 · refine .sn [8,7,6,1,0] r (.seq (.block (.sr (.kn 1 [9,8,7,6,1,0] r (.seq (.jn hd [8,7,6,1,0] [0,0] r (fun j E l e=>j ((9,.int .i64 e) :: E) l) (fun l2 hd=>?_) ?_))))))
   · skip
     refine .block (.lp hd [8,7,6,1,0] [0,0] r (fun j E l f=>j ((9,.int .i64 f) :: E) l) (ji rf [0,0] r) ?_)
     refine fun f j7 hd=>jq r fun h6 g=>?_
     obtain ⟨k3,R3⟩:=g.u2 d R3
     refine .seq (.seq (.ownF .z fun e3=>?_))
     refine .ownF .p1 fun k0=>?_
     refine .dr [0,1,2,3,4,5,6,7,8,9,10,11,12,13,14] 15 (.fk 2 r (.h r (fun _=>.ln EL r .mk) (.fk 2 r ?_)))
     refine AN hd (fun b hd=>?_) fun b hd=>?_
     · refine .h r (fun _=>.gyes r r b (.move r r r .mk)) (.h r (fun _=>.gyes r r b (.move r r r .mk)) ?_)
       obtain ⟨b4,l3,A,hd⟩:=hd
       obtain ⟨l4,h7⟩:=e3 (EB A)
       cases h7
       refine .h r (fun _=>.gyes r r b (.ixa0 EL FX r r b4 (AH A b4) r r .mk)) (.h r (fun _=>.gyes r r b (.loA (j:=0) mI FX .z A r r (.o 3 r) r r r .mk)) (.h r (fun _=>.gyes r r b (.move r r r .mk)) (.h r (fun _=>.gyes r r b (.move r r r .mk)) ?_)))
       obtain ⟨b5,l5,Y,hd⟩:=hd
       obtain ⟨l6,o2887,k4,h8,e9,f0⟩:=R3.2 _ _ Y
       cases f0
       refine .h r (fun _=>.gyes r r b (.ixa EL FX r h8 r b5 (AH Y b5) r r .mk)) (.h r (fun _=>.gyes r r b (.ldW mI FX e9 r r r r .mk)) (.ww r fun ex=>?_))
       have f1:=X9 (I:=h6) hd
       refine .gyes r r b (.callP call200 r f1 r r fun l7 f2=>?_)
       obtain ⟨l8,rfl,hd⟩:=f2
       refine .so 2 r r r trivial (.h r (fun _=>.pickT r b r r r .mk) (.e2 15 (.no [38,9,8,7,6,1,0] r (.condP r hd (fun f3 hd=>?_) fun f3 hd=>?_))))
       · exact .sn [9,8,7,6,1,0] r (.block (.region (.ks 3 r (.nil' (je (AJ (f+1)) hd g [0,0] r)))))
       exact .exit (je f hd g [0,0] r)
     refine .h r (fun _=>.gno r r b r r .mk) (.h r (fun _=>.gno r r b r r .mk) (.h r (fun _=>.gno r r b r r .mk) (.h r (fun _=>.gno r r b r r .mk) (.h r (fun _=>.gno r r b r r .mk) (.h r (fun _=>.gno r r b r r .mk) (.h r (fun _=>.gno r r b r r .mk) (.h r (fun _=>.gno r r b r r .mk) (.h r (fun _=>.gno r r b r r .mk) (.h r (fun _=>.pickF r b r r r .mk) ?_)))))))))
     exact .e2 15 (.no [38,9,8,7,6,1,0] r (.condKF r r (.exit (je f hd g [0,0] r))))
   refine fun e hd=>jq r fun b6 Z=>?_
   obtain ⟨f4,R3⟩:=Z.u2 d R3
   refine .sk 2 r ?_
   obtain ⟨b7,l9,a2,hd⟩:=hd
   obtain ⟨m0,o2919,k5,h9,f5,f6⟩:=R3.2 _ _ a2
   cases f6
   refine .ixa EL FX r h9 r b7 (AH a2 b7) r r (.ks 1 r (.ld1 (j:=2) TP f5 r r r r r ?_))
   have f7:=qU (I:=b6) hd
   refine .cq call171 f7 r fun b8 hd=>?_
   refine .al DN r fun m1=>?_
   refine .sa AO .z r (.no [10,9,8,7,6,1,0] r (.seq (.seq (.jn hd [10,9,8,7,6,1,0] [1,1,0] r (fun j E l b9=>j ((62,.bool b9) :: E) l) (fun m2 hd=>?_) ?_))))
   · skip
     refine .ownF .p1 fun e4=>?_
     refine .ownF .p2 fun k1=>?_
     refine .dr [0,1,2,3,4,5,6,7,8,9,10,11,12,13,14,15] 16 (.fk 2 r (.h r (fun _=>.ln EL r .mk) (.fk 2 r ?_)))
     refine AN hd (fun a hd=>?_) fun a hd=>?_
     · refine .h r (fun _=>.gyes r r a (.move r r r .mk)) (.h r (fun _=>.gyes r r a (.move r r r .mk)) ?_)
       obtain ⟨c0,m3,a3,hd⟩:=hd
       obtain ⟨m4,o3065,k6,i0,f8,f9⟩:=R3.2 _ _ a3
       cases f9
       refine .h r (fun _=>.gyes r r a (.ixa EL FX r i0 r c0 (AH a3 c0) r r .mk)) (.h r (fun _=>.gyes r r a (.ldW mI FX f8 r r r r .mk)) (.h r (fun _=>.gyes r r a (.move r r r .mk)) (.h r (fun _=>.gyes r r a (.move r r r .mk)) ?_)))
       obtain ⟨c1,m5,B,hd⟩:=hd
       obtain ⟨m6,i1⟩:=e4 (EB B)
       cases i1
       refine .h r (fun _=>.gyes r r a (.ixa0 EL FX r r c1 (AH B c1) r r .mk)) (.h r (fun _=>.gyes r r a (.loA (j:=0) mI FX .p1 B r r (.o 3 r) r r r .mk)) (.ww r fun ex=>?_))
       have g0:=X9 (I:=b6) hd
       refine .gyes r r a (.callP call200 r g0 r r fun m7 g1=>?_)
       obtain ⟨i2,rfl,hd⟩:=g1
       exact .so 3 r r r trivial (.h r (fun _=>.gyes r r a (.not r r r .mk)) (.h r (fun _=>.pickT r a r r r .mk) (.e2 16 (.nil' (je (!i2) hd rf [1,1,0] r)))))
     refine .h r (fun _=>.gno r r a r r .mk) (.h r (fun _=>.gno r r a r r .mk) (.h r (fun _=>.gno r r a r r .mk) (.h r (fun _=>.gno r r a r r .mk) (.h r (fun _=>.gno r r a r r .mk) (.h r (fun _=>.gno r r a r r .mk) (.h r (fun _=>.gno r r a r r .mk) (.h r (fun _=>.gno r r a r r .mk) (.h r (fun _=>.gno r r a r r .mk) (.h r (fun _=>.gno r r a r r .mk) ?_)))))))))
     exact .h r (fun _=>.pickF r a r r r .mk) (.e2 16 (.nil' (je false hd rf [1,1,0] r)))
   refine fun b9 hd=>jq r fun i3 a4=>?_
   obtain ⟨a5,g2,R3⟩:=a4.u3 f4 Z R3
   refine .condP r hd (fun g3 hd=>?_) fun g3 hd=>?_
   · refine .seq (.ownF .z fun k2=>?_)
     refine .ownF .p1 fun e5=>?_
     refine .dr [0,1,2,3,4,5,6,7,8] 9 (.fk 5 r ?_)
     obtain ⟨c3,m8,C,hd⟩:=hd
     obtain ⟨m9,i4⟩:=e5 (EB C)
     cases i4
     refine .h r (fun _=>.ixa0 YN AO r r c3 (AH C c3) r r .mk) (.h r (fun _=>.loA (j:=0) BO AO .p1 C r r (.o 2 r) r r r .mk) (.h r (fun _=>.lw BO AO .p2 r .mk) (.ww r fun ex=>?_)))
     have g4:=oM (I:=i3) hd
     refine .cq call107 g4 r fun c4 hd=>?_
     refine .so 3 r r r (.ck 2 r r trivial) (.e2 9 ?_)
     obtain ⟨c6,n0,a6,hd⟩:=hd
     exact .ixa0 YN AO r r c6 (AH a6 c6) r r (.stOA (j:=0) (v':=c4) AO .p1 a6 r r r (.o r) r r (.rl .p1 [7,63,66] r (by simp only [List.length_set]) (.no [8,7,6,1,0] r (.drop .p2 (.en [8,7,6,1,0] r (.region (.ks 3 r (.nil' fun c w ho hs=>⟨(q,(s.set e.toNat c4),AJ (u+1)),hd,_,_,_,_,jf a5 trivial [0,0] r ho hs⟩))))))))
   refine .sn [10,9,8,7,6,1,0] r (.sk 1 r (.build YO tS tQ .n (by exact trivial) r r (.buildSlice 1 EL FX YO r r (.c r r r .n) r r fun n1=>?_)))
   obtain ⟨g5,hd⟩:=hd
   refine .append (ys:=[({ From:=0,To:=0,W:=0 }:BN)]) 24 .p1 EL EL wE r r r r r r r r r (.box .z (.one r) r) g5 r r fun n2 n3=>?_
   refine .kn 1 [6,10,9,8,7,1,0] r (.drop .p1 (.sk 1 r (.build DN LL LJ .n (by exact trivial) r r (.buildSlice 1 YN AO DN r r (.c r r r .n) r r fun n4=>?_))))
   obtain ⟨g6,hd⟩:=hd
   refine .append (ys:=[({ Hi:=0,Lo:=0 }:AL)]) 16 .p2 YN YN AcE r r r r r r r r r (.box .z (.one r) r) g6 r r fun n5 n6=>?_
   refine .kn 1 [7,6,10,9,8,1,0] r (.drop .p1 (.seq (.sk 1 r (.ln EL r (.kn 2 [11,7,6,10,9,8,1,0] r (.block (.lx hd [10,9,8,1,0] [2] r (fun j E l (i,k,m)=>fun c w=>∃ R S T U,j ⟨145,[],none⟩ (fun I_=>True) ((6,.slice R i.length S) :: (7,.slice T k.length U) :: (11,.int .i64 m) :: E) (OwnSl GU 49 R S i :: OwnSl NH 157 T U k :: l) c w) (fun c w ho hs=>⟨_,_,_,_,jf rf trivial [1,0,0] r ho hs⟩) ?_)))))))
   rintro ⟨i,k,m⟩ j8 hd c w ⟨R,S,T,U,n7,a7,_,hok,hsym⟩
   obtain ⟨g7,k7,k8,R3⟩:=a7.u4 a5 g2 a4 R3
   refine Cod.at hok hsym (.seq (.sr (.kn 3 [86,11,10,9,8,7,6,1,0] r (.condP r hd (fun g8 hd=>?_) fun g8 hd=>?_))))
   · refine .sn [11,10,9,8,7,6,1,0] r (.seq (.block (.sk 5 r ?_)))
     obtain ⟨c7,c8,D,hd⟩:=hd
     refine .ownNe .z (EB D) fun n8 i5=>?_
     cases i5
     refine .ixa0 EL FX r r c7 (AH D c7) r r (.loA (j:=0) mI FX .z D r r (.o 3 r) r r r ?_)
     obtain ⟨c9,n9,a8,hd⟩:=hd
     refine .ixa0 EL FX r r c9 (AH a8 c9) r r (.stOA (j:=0) (v':=c8) FX .z a8 r r r (.o r) r r (.rl .z [6,89,91] r (by simp only [List.length_set]) (.no [11,10,9,8,7,6,1,0] r (.region (.ks 5 r ?_)))))
     obtain ⟨d0,d1,F,hd⟩:=hd
     refine .ownNe .p1 (EB F) fun o0 i6=>?_
     cases i6
     refine .ixa0 YN AO r r d0 (AH F d0) r r (.loA (j:=0) BO AO .p1 F r r (.o 2 r) r r r ?_)
     obtain ⟨d2,o1,a9,hd⟩:=hd
     exact .ixa0 YN AO r r d2 (AH a9 d2) r r (.stOA (j:=0) (v':=d1) AO .p1 a9 r r r (.o r) r r (.rl .p1 [7,97,99] r (by simp only [List.length_set]) (.no [11,10,9,8,7,6,1,0] r (.region (.ks 3 r (.nil' fun c w ho hs=>⟨((i.set m.toNat c8),(k.set m.toNat d1),AJ (m - 1)),hd,_,_,_,_,jf a7 trivial [0,0,0] r ho hs⟩))))))
   refine .en [10,9,8,7,6,1,0] r (.seq (.ownF .z fun e6=>?_))
   refine .ownF .p1 fun e7=>?_
   refine .dr [0,1,2,3,4,5,6,7,8,9,10,11,12] 13 (.fk 4 r ?_)
   obtain ⟨d3,d4,b0,hd⟩:=hd
   obtain ⟨o2,o3320,k9,i7,g9,h0⟩:=R3.2 _ _ b0
   cases h0
   refine .h r (fun _=>.ixa EL FX r i7 r d3 (AH b0 d3) r r .mk) (.fk 1 r (.h r (fun _=>.ld1 (j:=0) BF g9 r r r r r .mk) (.fk 2 r ?_)))
   obtain ⟨d5,d6,b1,hd⟩:=hd
   obtain ⟨o3,o3329,l0,i8,h1,h2⟩:=R3.2 _ _ b1
   cases h2
   refine .h r (fun _=>.ixa EL FX r i8 r d5 (AH b1 d5) r r .mk) (.fk 1 r (.h r (fun _=>.ld1 (j:=1) BF h1 r r r r r .mk) (.h r (fun _=>.build YO tS tQ (.c r r r (.o r) (.c r r r (.o r) .n)) (by exact ⟨⟨_,_,r,r,r⟩,⟨⟨_,_,r,r,r⟩,trivial⟩⟩) r r .mk) (.e2 13 ?_))))
   obtain ⟨d7,o4,G,hd⟩:=hd
   obtain ⟨o5,i9⟩:=e6 (EB G)
   cases i9
   refine .ixa0 EL FX r r d7 (AH G d7) r r (.stOA (j:=0) (v':=({ From:=d4.From,To:=d6.To,W:=0 }:BN)) FX .z G r r r (.o r) r r (.rl .z [6,105] r (by simp only [List.length_set]) (.no [10,9,8,7,6,1,0] r (.region (.ks 2 r (.lw BO AO .p2 r ?_))))))
   obtain ⟨d8,o6,H,hd⟩:=hd
   obtain ⟨o7,j0⟩:=e7 (EB H)
   cases j0
   exact .ixa0 YN AO r r d8 (AH H d8) r r (.stOA (j:=0) (v':=b8) AO .p1 H r r r (.o r) r r (.rl .p1 [7,119] r (by simp only [List.length_set]) (.no [8,7,6,1,0] r (.drop .p2 (.region (.ks 3 r (.nil' fun c w ho hs=>⟨((i.set e.toNat ({ From:=d4.From,To:=d6.To,W:=0 }:BN)),(k.set e.toNat b8),AJ (u+1)),hd,_,_,_,_,jf g7 trivial [0,0] r ho hs⟩)))))))
 refine .en [7,6] r (.seq (.sr (.kn 1 [12,7,6] r (.block (.lx hd [7] [1] r (fun j E l (p,x)=>fun c w=>∃ V X,j ⟨145,[],none⟩ (fun I_=>True) ((6,.slice V p.length X) :: (12,.int .i64 x) :: E) (OwnSl GU 49 V X p :: l) c w) (fun c w ho hs=>⟨_,_,jf rf trivial [0,0] r ho hs⟩) ?_)))))
 rintro ⟨p,x⟩ j9 hd c w ⟨V,X,j1,b2,_,hok,hsym⟩
 have b3:=b2.u1 d
 refine Cod.at hok hsym (.seq (.sk 2 r (.ln EL r (.kn 1 [126,12,7,6] r (.condP r hd (fun h3 hd=>?_) fun h3 hd=>?_)))))
 · refine .sn [12,7,6] r (.seq (.block (.sk 2 r ?_)))
   obtain ⟨d9,o8,J,hd⟩:=hd
   refine .ownNe .p1 (EB J) fun o9 j2=>?_
   cases j2
   refine .ixa0 YN AO r r d9 (AH J d9) r r (.loA (j:=0) BO AO .p1 J r r (.o 2 r) r r r ?_)
   have h4:=fK (I:=j1) hd
   refine .cq call180 h4 r fun e0 hd=>?_
   refine .kn 5 [14,13,12,7,6] r (.seq (.sr (.kn 2 [138,13,12,7,6] r (.condP r hd (fun h5 hd=>?_) fun h5 hd=>?_))))
   · exact .sr (.kn 2 [5,4] r (.drop .z (.drop .z (.own0 GU 49 (.ret (OA results127 (.t r (.t r .n)) b3 (.o [0] r) ⟨(([]:List BN),12),_,_,r,r,hd⟩))))))
   refine .sn [13,12,7,6] r (.region (.ks 3 r ?_))
   obtain ⟨e1,y,K,hd⟩:=hd
   refine .ownNe .z (EB K) fun p0 j3=>?_
   cases j3
   exact .ixa0 EL FX r r e1 (AH K e1) r r (.ks 1 r (.stO1 (j:=2) (v':=({ From:=y.From,To:=y.To,W:=e0.1 }:BN)) yX .z K r r r (.o r) r (.rl .z [6,139] r (by simp only [List.length_set]) (.no [12,7,6] r (.region (.ks 3 r (.nil' fun c w ho hs=>⟨((p.set x.toNat ({ From:=y.From,To:=y.To,W:=e0.1 }:BN)),AJ (x+1)),hd,_,_,jf b2 trivial [0,0] r ho hs⟩)))))))
 exact .en [6] r (.drop .p1 (.sr (.kn 3 [5,4] r (.ret (OA results127 (.t r (.t r .n)) b3 (.o [0] r) ⟨(p,0),_,_,r,r,hd⟩)))))
theorem XA {a0:CA} {Q:CA→Prop} (R3:RepSl GU I p1 c2 a0.Edges) (hd:NK a0 Q) :
  lO prog 55 [.agg #[.int .i64 a0.N,.slice p1 a0.Edges.length c2]] I (fun _=>o4_ Q):=by
 refine Fun.en func55 ntmps55 r fun w0 M=>?_
 refine .sr (.bx r fun f=>?_)
 refine .al bP r fun g=>?_
 refine .nk [2,1] 1 r (.lo KO .p1 r ?_)
 have b:=UL (I:=I) R3 hd
 refine .callO call127 r b r r fun h i j a d=>?_
 obtain ⟨e,k,l,rfl,rfl,hd⟩:=d
 have R3:=a.u1 R3
 exact .ks 5 r (.nk [3,2,1] 1 r (.lo BF .p2 r (.ks 1 r (.build bP zQ zO (.c r r r (.o r) (.c r r r (.o r) .n)) (by exact ⟨⟨_,_,r,r,r⟩,⟨⟨_,_,r,r,r⟩,trivial⟩⟩) r r (.sa NP .p1 r (.no [2] r (.drop .p2 (.ret (OA results55 (.w XK NP r .p1 r .n) a (.o [0] r) ⟨({ N:=a0.N,Edges:=e.1 }:CA),_,_,r,r,hd⟩)))))))))
theorem gA {a0:CA} {Q:CA→Prop} (R3:RepSl GU I p1 c2 a0.Edges) (hd:RH a0 Q) :
  BZ prog 13 [.agg #[.int .i64 a0.N,.slice p1 a0.Edges.length c2]] I (o5_ Q):=by
 refine Fun.en func13 ntmps13 r fun w0 M=>?_
 refine .sr (.bx r fun b1=>?_)
 refine .al bP r fun b2=>?_
 refine .nk [2,1] 1 r (.lo BF .p1 r (.build bP zQ zO (.c r r r (.o r) .n) (by exact ⟨⟨_,_,r,r,r⟩,trivial⟩) r r (.al bP r fun T=>?_)))
 refine .sa NP .z r (.no [3,2,1] r (.seq (.sr (.kn 1 [4,3,2,1] r (.block (.own0 GU 49 (.lx hd [3,2,1] [3,2] r (fun j E l (a,g)=>fun c w=>∃ i k,j ⟨35,[],none⟩ (fun I_=>True) ((4,.int .i64 g) :: E) (pto T (.cells #[.int .i64 a0.N,.slice i a.length k] 24 (0,0)) :: OwnSl GU 49 i k a :: l) c w) (fun c w ho hs=>⟨_,_,jf rf trivial [1,0,1,0] r ho hs⟩) ?_)))))))
 rintro ⟨a,g⟩ U hd c w ⟨i,k,b3,b,_,hok,hsym⟩
 have R3:=b.u1 R3
 refine Cod.at hok hsym (.seq (.sk 2 r (.lo KO .p2 r (.ln EL r (.kn 1 [12,4,3,2,1] r (.condP r hd (fun K hd=>?_) fun K hd=>?_))))))
 · refine .sn [4,3,2,1] r (.seq (.block (.ownF .p1 fun V=>?_)))
   refine .dr [0,1,2,3,4,5,6,7,8,9,10,11,12,13,14,15,16] 17 (.fk 1 r (.h r (fun _=>.lo KO .z r .mk) (.fk 1 r (.h r (fun _=>.lo KO .p2 r .mk) (.fk 1 r ?_)))))
   obtain ⟨m,p,e,hd⟩:=hd
   obtain ⟨Z,o104,X,L,t,u⟩:=R3.2 _ _ e
   cases u
   refine .h r (fun _=>.ixa EL FX r L r m (AH e m) r r .mk) (.fk 1 r (.h r (fun _=>.ld1 (j:=0) BF t r r r r r .mk) (.fk 1 r (.h r (fun _=>.lo KO .p2 r .mk) (.fk 1 r ?_)))))
   obtain ⟨q,s,f,hd⟩:=hd
   obtain ⟨a1,o113,Y,O,v,x⟩:=R3.2 _ _ f
   cases x
   refine .h r (fun _=>.ixa EL FX r O r q (AH f q) r r .mk) (.fk 1 r (.h r (fun _=>.ld1 (j:=1) BF v r r r r r .mk) (.h r (fun _=>.build YO tS tQ (.c r r r (.o r) (.c r r r (.o r) (.c r r r (.o r) .n))) (by exact ⟨⟨_,_,r,r,r⟩,⟨⟨_,_,r,r,r⟩,⟨⟨_,_,r,r,r⟩,trivial⟩⟩⟩) r r .mk) (.ww r fun ex=>?_))))
   refine .buildSlice 1 EL FX YO r r (.c r r r .n) r r fun a2=>?_
   refine .so 5 r r r (.ch r (fun _=>.lo KO .p1 r .mk) (.ck 1 r r trivial)) (.ww r fun ex=>?_)
   obtain ⟨y,hd⟩:=hd
   refine .append (ys:=[({ From:=p.From,To:=s.To,W:=1 }:BN)]) 24 .p2 EL EL wE r r r r r r r r r (.box .z (.one r) r) y r r fun a3 a4=>?_
   exact .so 5 r r r trivial (.e2 17 (.ks 1 r (.s1 sizeOf22 .p2 r (.no [4,3,2,1] r (.drop .p1 (.region (.ks 3 r (.nil' fun c w ho hs=>⟨((a++([({ From:=p.From,To:=s.To,W:=1 }:BN)])),AJ (g+1)),hd,_,_,jf b trivial [1,0,0,0] r ho hs⟩))))))))
 refine .en [3,2] r (.drop .p2 (.sr (.lw XK NP .z r (.pub .p1 fun P A d=>?_))))
 have B:=A.u1 b
 have C:=XA (I:=P) (a0:=({ N:=a0.N,Edges:=a }:CA)) d hd
 refine .callO call55 r C r r fun a5 a6 a7 D F=>?_
 obtain ⟨R,a8,a9,rfl,rfl,hd⟩:=F
 obtain ⟨G,d⟩:=D.u2 B d
 refine .sa NP .p2 r (.no [2] r (.drop .p1 (.pub .z fun b0 H S=>?_)))
 have J:=H.u1 G
 exact .ret (BP results13 (.w XK NP r .z r .n) J ⟨R,_,_,r,S,hd⟩)
theorem FV {a0 a1:Int} {Q:Int→Prop} (hd:DV a0 a1 Q) :
  BZ prog 56 [.int .i64 a0,.int .i64 a1] I (fun _=>jF Q):=by
 refine Fun.en func56 ntmps56 r fun w0 M=>?_
 refine .sr (.kn 1 [1,0] r (.seq (.sk 3 r ?_)))
 refine AN hd (fun a hd=>?_) fun a hd=>?_
 · rw [a]
   exact .kn 3 [10,1,0] r (.condKT r r (.sr (.kn 1 [4] r (.r0 results56 r ⟨0,r,hd⟩))))
 rw [a]
 refine .kn 3 [10,1,0] r (.condP r hd (fun b hd=>?_) fun b hd=>?_)
 · exact .sr (.kn 1 [4] r (.r0 results56 r ⟨0,r,hd⟩))
 refine .sn [1,0] r (.sk 2 r ?_)
 obtain ⟨c,hd⟩:=hd
 exact .rem r r c r r (.kn 1 [4] r (.r0 results56 r ⟨(a0.tmod a1),r,hd⟩))
theorem gB {a0:CA} {Q:CA→Prop} (R3:RepSl GU I p1 c2 a0.Edges) (hd:RJ a0 Q) :
  BZ prog 14 [.agg #[.int .i64 a0.N,.slice p1 a0.Edges.length c2]] I (o5_ Q):=by
 refine Fun.en func14 ntmps14 r fun w0 M=>?_
 refine .sr (.bx r fun a6=>?_)
 refine .al bP r fun a7=>?_
 refine .nk [2,1] 1 r (.lo BF .p1 r ?_)
 have L:=FV (I:=I) hd
 refine .cq call56 L r fun k hd=>?_
 refine .build bP zQ zO (.c r r r (.o r) .n) (by exact ⟨⟨_,_,r,r,r⟩,trivial⟩) r r (.al bP r fun U=>?_)
 refine .sa NP .z r (.no [3,2,1] r (.seq (.sr (.kn 1 [4,3,2,1] r (.block (.own0 GU 49 (.lx hd [3,2,1] [3,2] r (fun j E l (a,f)=>fun c w=>∃ g i,j ⟨51,[],none⟩ (fun I_=>True) ((4,.int .i64 f) :: E) (pto U (.cells #[.int .i64 k,.slice g a.length i] 24 (0,0)) :: OwnSl GU 49 g i a :: l) c w) (fun c w ho hs=>⟨_,_,jf rf trivial [1,0,1,0] r ho hs⟩) ?_)))))))
 rintro ⟨a,f⟩ T hd c w ⟨g,i,p,b,_,hok,hsym⟩
 have R3:=b.u1 R3
 refine Cod.at hok hsym (.seq (.sk 2 r (.lo KO .p2 r (.ln EL r (.ks 2 r ?_)))))
 refine AN hd (fun d hd=>?_) fun d hd=>?_
 · rw [d]
   refine .ks 4 r ?_
   refine AN hd (fun e hd=>?_) fun e hd=>?_
   · rw [e]
     refine .ks 1 r (.yes r (.lo BF .z r (.kn 2 [23,4,3,2,1] r (.condP r hd (fun v hd=>?_) fun v hd=>?_))))
     · refine .sn [4,3,2,1] r (.seq (.block (.sk 1 r (.lo KO .p2 r (.ks 1 r ?_)))))
       obtain ⟨q,s,m,hd⟩:=hd
       obtain ⟨X,o155,V,O,x,y⟩:=R3.2 _ _ m
       cases y
       refine .ixa EL FX r O r q (AH m q) r r (.ldW mI FX x r r r r (.al YO r fun Y=>?_))
       refine .sa FX .z r (.no [5,4,3,2,1] r (.dr [0,1,2,3,4,5,7,8,9,10,12,13,14,6,11,15,16,17] 18 (.fk 1 r (.h r (fun _=>.lo KO .p1 r .mk) (.fk 1 r (.h r (fun _=>.lo BF .z r .mk) (.fk 1 r (.h r (fun _=>.lo BF .p1 r .mk) (.fk 1 r ?_)))))))))
       refine .h r (fun _=>.lo BF .z r .mk) (.fk 1 r (.h r (fun _=>.lo BF .p1 r .mk) (.fk 1 r (.h r (fun _=>.lo TP .z r .mk) (.fk 1 r (.ww r fun ex=>?_))))))
       have A:=FV (I:=p) hd
       refine .cq call56 A r fun t hd=>?_
       refine .so 5 r r r (.ck 1 r r (.ch r (fun _=>.lo TP .z r .mk) (.ck 1 r r (.ch r (fun _=>.lo BF .p1 r .mk) (.ck 1 r r (.ch r (fun _=>.lo BF .z r .mk) (.ck 1 r r (.ch r (fun _=>.lo KO .p1 r .mk) (.ck 1 r r trivial))))))))) (.ww r fun ex=>?_)
       have B:=FV (I:=p) hd
       refine .cq call56 B r fun u hd=>?_
       refine .so 5 r r r (.ck 1 r r (.ch r (fun _=>.lo TP .z r .mk) (.ck 1 r r (.ch r (fun _=>.lo KO .p1 r .mk) (.ck 1 r r trivial))))) (.h r (fun _=>.build YO tS tQ (.c r r r (.o r) (.c r r r (.o r) (.c r r r (.o r) .n))) (by exact ⟨⟨_,_,r,r,r⟩,⟨⟨_,_,r,r,r⟩,⟨⟨_,_,r,r,r⟩,trivial⟩⟩⟩) r r .mk) (.ww r fun ex=>?_))
       refine .buildSlice 1 EL FX YO r r (.c r r r .n) r r fun Z=>?_
       refine .so 6 r r r (.ch r (fun _=>.lo KO .p2 r .mk) (.ck 1 r r trivial)) (.ww r fun ex=>?_)
       obtain ⟨C,hd⟩:=hd
       refine .append (ys:=[({ From:=t,To:=u,W:=qX .i64 s.W 2147483647 }:BN)]) 24 .p3 EL EL wE r r r r r r r r r (.box .z (.one r) r) C r r fun a1 a2=>?_
       exact .so 6 r r r trivial (.e2 18 (.ks 1 r (.s1 sizeOf22 .p3 r (.no [4,3,2,1] r (.drop .p1 (.drop .p1 (.region (.ks 3 r (.nil' fun c w ho hs=>⟨((a++([({ From:=t,To:=u,W:=qX .i64 s.W 2147483647 }:BN)])),AJ (f+1)),hd,_,_,jf b trivial [1,0,0,0] r ho hs⟩)))))))))
     refine .en [3,2] r (.drop .p2 (.sr (.lw XK NP .z r (.sa NP .p2 r (.no [2] r (.drop .z (.pub .z fun a3 D P=>?_)))))))
     have F:=D.u1 b
     exact .ret (BP results14 (.w XK NP r .z r .n) F ⟨({ N:=k,Edges:=a }:CA),_,_,r,P,hd⟩)
   rw [e]
   refine .kn 4 [23,4,3,2,1] r (.condKF r r (.en [3,2] r (.drop .p2 (.sr (.lw XK NP .z r (.sa NP .p2 r (.no [2] r (.drop .z (.pub .z fun a4 G R=>?_)))))))))
   have H:=G.u1 b
   exact .ret (BP results14 (.w XK NP r .z r .n) H ⟨({ N:=k,Edges:=a }:CA),_,_,r,R,hd⟩)
 rw [d]
 refine .kn 8 [23,4,3,2,1] r (.condKF r r (.en [3,2] r (.drop .p2 (.sr (.lw XK NP .z r (.sa NP .p2 r (.no [2] r (.drop .z (.pub .z fun a5 J S=>?_)))))))))
 have K:=J.u1 b
 exact .ret (BP results14 (.w XK NP r .z r .n) K ⟨({ N:=k,Edges:=a }:CA),_,_,r,S,hd⟩)
theorem gD {a0:CA} {Q:Int→Prop} (R3:RepSl GU I p1 c2 a0.Edges) (hd:RK a0 Q) :
  BZ prog 57 [.agg #[.int .i64 a0.N,.slice p1 a0.Edges.length c2]] I (fun _=>jF Q):=by
 refine Fun.en func57 ntmps57 r fun w0 M=>?_
 refine .sr (.bx r fun b6=>?_)
 refine .kn 1 [1] r (.seq (.sk 1 r (.lo BF .z r (.kn 1 [8,1] r (.condP r hd (fun O hd=>?_) fun O hd=>?_)))))
 · exact .sr (.kn 1 [2] r (.drop .z (.r0 results57 r ⟨3,r,hd⟩)))
 refine .sn [1] r (.seq (.sk 1 r (.lo BF .z r (.ks 2 r ?_))))
 refine AN hd (fun g hd=>?_) fun g hd=>?_
 · rw [g]
   exact .kn 5 [17,1] r (.condKT r r (.sr (.kn 1 [2] r (.drop .z (.r0 results57 r ⟨5,r,hd⟩)))))
 rw [g]
 refine .ks 1 r (.yes r (.lo KO .z r (.yes r (.ln EL r (.kn 2 [17,1] r (.condP r hd (fun F hd=>?_) fun F hd=>?_))))))
 · exact .sr (.kn 1 [2] r (.drop .z (.r0 results57 r ⟨5,r,hd⟩)))
 refine .sn [1] r (.seq (.sr (.kn 1 [3,1] r (.block (.lp hd [1] [0] r (fun j E l h=>j ((3,.int .i64 h) :: E) l) (ji rf [0] r) ?_)))))
 refine fun h K hd=>jq r fun T a=>?_
 have R3:=a.u1 R3
 refine .seq (.sk 2 r (.lo KO .z r (.ln EL r (.kn 1 [22,3,1] r (.condP r hd (fun t hd=>?_) fun t hd=>?_)))))
 · refine .sn [3,1] r (.seq (.block (.sk 1 r (.lo KO .z r (.ks 1 r ?_)))))
   obtain ⟨p,U,k,hd⟩:=hd
   obtain ⟨V,o185,P,G,u,v⟩:=R3.2 _ _ k
   cases v
   refine .ixa EL FX r G r p (AH k p) r r (.ldW mI FX u r r r r (.al YO r fun W=>?_))
   refine .sa FX .z r (.nk [4,3,1] 1 r (.lo BF .z r (.ks 2 r ?_)))
   refine AN hd (fun b hd=>?_) fun b hd=>?_
   · rw [b]
     exact .kn 18 [51,3,1] r (.drop .z (.condKT r r (.sr (.kn 1 [2] r (.drop .z (.r1 results57 r a ⟨3,r,hd⟩))))))
   rw [b]
   refine .ks 1 r (.yes r (.lo BF .z r (.ks 1 r (.yes r (.lo BF .p1 r (.ks 3 r ?_))))))
   refine AN hd (fun c hd=>?_) fun c hd=>?_
   · rw [c]
     exact .kn 11 [51,3,1] r (.drop .z (.condKT r r (.sr (.kn 1 [2] r (.drop .z (.r1 results57 r a ⟨3,r,hd⟩))))))
   rw [c]
   refine .ks 1 r (.yes r (.lo BF .z r (.ks 3 r ?_)))
   refine AN hd (fun d hd=>?_) fun d hd=>?_
   · rw [d]
     exact .kn 6 [51,3,1] r (.drop .z (.condKT r r (.sr (.kn 1 [2] r (.drop .z (.r1 results57 r a ⟨3,r,hd⟩))))))
   rw [d]
   refine .ks 1 r (.yes r (.lo BF .z r (.ks 1 r (.yes r (.lo BF .p1 r (.kn 2 [51,3,1] r (.drop .z (.condP r hd (fun w hd=>?_) fun w hd=>?_))))))))
   · exact .sr (.kn 1 [2] r (.drop .z (.r1 results57 r a ⟨3,r,hd⟩)))
   exact .sn [3,1] r (.region (.ks 3 r (.nil' (je (AJ (h+1)) hd a [0] r))))
 refine .en [1] r (.seq (.sr (.kn 1 [5,1] r (.block (.lp hd [1] [0] r (fun j E l i=>j ((5,.int .i64 i) :: E) l) (ji rf [0] r) ?_)))))
 refine fun i L hd=>jq r fun X m=>?_
 obtain ⟨e,R3⟩:=m.u2 a R3
 refine .seq (.sk 2 r (.lo KO .z r (.ln EL r (.kn 1 [56,5,1] r (.condP r hd (fun x hd=>?_) fun x hd=>?_)))))
 · refine .sn [5,1] r (.seq (.block (.sk 1 r (.lo KO .z r (.ks 1 r ?_)))))
   obtain ⟨q,Y,n,hd⟩:=hd
   obtain ⟨Z,o254,R,H,y,A⟩:=R3.2 _ _ n
   cases A
   refine .ixa EL FX r H r q (AH n q) r r (.ks 1 r (.ld1 (j:=2) TP y r r r r r (.ks 2 r ?_)))
   refine AN hd (fun f hd=>?_) fun f hd=>?_
   · rw [f]
     exact .kn 8 [74,5,1] r (.condKT r r (.sr (.kn 1 [2] r (.drop .z (.r1 results57 r e ⟨7,r,hd⟩)))))
   rw [f]
   refine .ks 1 r (.yes r (.lo KO .z r (.ks 1 r ?_)))
   obtain ⟨s,a1,o,hd⟩:=hd
   obtain ⟨a2,o264,S,J,B,C⟩:=R3.2 _ _ o
   cases C
   refine .yes r (.ixa EL FX r J r s (AH o s) r r (.ks 1 r (.yes r (.ld1 (j:=2) TP B r r r r r (.kn 2 [74,5,1] r (.condP r hd (fun D hd=>?_) fun D hd=>?_))))))
   · exact .sr (.kn 1 [2] r (.drop .z (.r1 results57 r e ⟨7,r,hd⟩)))
   exact .sn [5,1] r (.region (.ks 3 r (.nil' (je (AJ (i+1)) hd m [0] r))))
 exact .en [] r (.drop .z (.sr (.kn 1 [2] r (.r1 results57 r e ⟨0,r,hd⟩))))
theorem lC {a0:CA} {Q:CA→Prop} (R3:RepSl GU I p1 c2 a0.Edges) (hd:TK a0 Q) :
  lO prog 58 [.agg #[.int .i64 a0.N,.slice p1 a0.Edges.length c2]] I (fun _=>o4_ Q):=by
 refine Fun.en func58 ntmps58 r fun w0 M=>?_
 refine .sr (.bx r fun Y=>?_)
 refine .al bP r fun Z=>?_
 refine .nk [2,1] 1 r (.lo BF .p1 r (.build bP zQ zO (.c r r r (.o r) .n) (by exact ⟨⟨_,_,r,r,r⟩,trivial⟩) r r (.al bP r fun G=>?_)))
 refine .sa NP .z r (.no [3,2,1] r (.seq (.sr (.kn 1 [4,3,2,1] r (.block (.own0 GU 49 (.lx hd [3,2,1] [3,2] r (fun j E l (d,g)=>fun c w=>∃ h i,j ⟨35,[],none⟩ (fun I_=>True) ((4,.int .i64 g) :: E) (pto G (.cells #[.int .i64 a0.N,.slice h d.length i] 24 (0,0)) :: OwnSl GU 49 h i d :: l) c w) (fun c w ho hs=>⟨_,_,jf rf trivial [1,0,1,0] r ho hs⟩) ?_)))))))
 rintro ⟨d,g⟩ F hd c w ⟨h,i,J,b,_,hok,hsym⟩
 have R3:=b.u1 R3
 refine Cod.at hok hsym (.seq (.sk 2 r (.lo KO .p2 r (.ln EL r (.kn 1 [13,4,3,2,1] r (.condP r hd (fun m hd=>?_) fun m hd=>?_))))))
 · refine .sn [4,3,2,1] r (.seq (.block (.sk 1 r (.lo KO .p2 r (.ks 1 r ?_)))))
   obtain ⟨k,a,f,hd⟩:=hd
   obtain ⟨K,o121,H,B,p,q⟩:=R3.2 _ _ f
   cases q
   refine .ixa EL FX r B r k (AH f k) r r (.ldW mI FX p r r r r (.al YO r fun L=>?_))
   refine .sa FX .z r (.no [5,4,3,2,1] r (.region (.ks 1 r (.lo KO .p1 r (.ks 1 r (.lo BF .z r (.ks 1 r (.lo BF .z r (.ks 1 r ?_)))))))))
   refine .lo TP .z r (.build YO tS tQ (.c r r r (.o r) (.c r r r (.o r) (.c r r r (.o r) .n))) (by exact ⟨⟨_,_,r,r,r⟩,⟨⟨_,_,r,r,r⟩,⟨⟨_,_,r,r,r⟩,trivial⟩⟩⟩) r r (.buildSlice 1 EL FX YO r r (.c r r r .n) r r fun O=>?_))
   obtain ⟨s,hd⟩:=hd
   refine .append (ys:=[({ From:=a.To,To:=a.From,W:=a.W }:BN)]) 24 .p3 EL EL wE r r r r r r r r r (.box .z (.one r) r) s r r fun P R=>?_
   exact .ks 1 r (.s1 sizeOf22 .p3 r (.no [4,3,2,1] r (.drop .p1 (.drop .p1 (.region (.ks 3 r (.nil' fun c w ho hs=>⟨((d++([({ From:=a.To,To:=a.From,W:=a.W }:BN)])),AJ (g+1)),hd,_,_,jf b trivial [1,0,0,0] r ho hs⟩)))))))
 refine .en [3,2] r (.drop .p2 (.sr (.lw XK NP .z r (.pub .p1 fun C t e=>?_))))
 have u:=t.u1 b
 have v:=XA (I:=C) (a0:=({ N:=a0.N,Edges:=d }:CA)) e hd
 refine .callO call55 r v r r fun S T U x y=>?_
 obtain ⟨D,V,X,rfl,rfl,hd⟩:=y
 obtain ⟨A,e⟩:=x.u2 u e
 exact .sa NP .p2 r (.no [2] r (.drop .p1 (.ret (OA results58 (.w XK NP r .p1 r .n) A (.o [0] r) ⟨D,_,_,r,r,hd⟩))))
theorem XB {a0 a1:Int} {Q:Rows→Prop} (hd:NL a0 a1 Q) :
  lO prog 128 [.int .i64 a0,.int .i64 a1] I (fun _=>o6_ Q):=by
 refine Fun.en func128 ntmps128 r fun w0 M=>?_
 refine .sr (.al DO r fun d=>?_)
 refine .nk [4,1,0] 4 r ?_
 obtain ⟨a,b,hd⟩:=hd
 refine .make (El:=AE) (zv:=0) 8 BW yW r r r r r r a b r r r fun e=>?_
 exact .build DO HY HX (.c r r r (.o r) (.c r r r (.o r) (.c r r r (.o r) .n))) (by exact ⟨⟨_,_,r,r,r⟩,⟨⟨_,_,r,r,r⟩,⟨⟨_,_,r,r,r⟩,trivial⟩⟩⟩) r r (.sa AU .p1 r (.no [4] r (.own0 AE 3 (.own0 AE 2 (.ret (OA results128 (.w BU AU r .p3 r .n) rf (.o [2,1,0] r) ⟨({ Rows:=a0,Cols:=a1,Start:=(List.replicate (AJ (a0+1)).toNat 0),Col:=([]:List Int),Val:=([]:List Int) }:Rows),_,_,_,_,_,_,r,r,hd⟩))))))
theorem XC {a0 a1:Int} {a2:List AC} {Q:Rows→Prop} (R3:RepSl BL I p1 c2 a2) (hd:NM a0 a1 a2 Q) :
  BZ prog 59 [.int .i64 a0,.int .i64 a1,.slice p1 a2.length c2] I (o7_ Q):=by
 refine Fun.en func59 ntmps59 r fun w0 M=>?_
 refine .sr (.al DO r fun f8=>?_)
 refine .nk [6,2,1,0] 2 r ?_
 have c4:=XB (I:=I) hd
 refine .callO call128 r c4 r r fun f9 g0 g1 P c5=>?_
 obtain ⟨e,g2,g3,g4,g5,g6,g7,rfl,rfl,hd⟩:=c5
 have R3:=P.u1 R3
 refine .al DO r fun R=>?_
 refine .sa AU .z r (.no [7,6,2,0] r (.seq (.sr (.kn 1 [8,7,6,2,0] r (.block (.lx hd [7,6,2,0] [4] r (fun j E l (i,a,b,t)=>fun c w=>∃ u v x y A C,j ⟨58,[],none⟩ (fun I_=>True) ((8,.int .i64 t) :: E) (pto R (.cells #[.int .i64 e.Rows,.int .i64 e.Cols,.slice u i.length v,.slice x a.length y,.slice A b.length C] 33 (0,0)) :: OwnSl AE 3 u v i :: OwnSl AE 3 x y a :: OwnSl AE 2 A C b :: l) c w) (fun c w ho hs=>⟨_,_,_,_,_,_,jf rf trivial [0,0,0,0,0] r ho hs⟩) ?_))))))
 rintro ⟨i,a,b,t⟩ d2 hd c w ⟨u,v,x,y,A,C,e6,k,_,hok,hsym⟩
 obtain ⟨H,R3⟩:=k.u2 P R3
 refine Cod.at hok hsym (.seq (.sk 2 r (.ln FZ r (.kn 1 [16,8,7,6,2,0] r (.condP r hd (fun a4 hd=>?_) fun a4 hd=>?_)))))
 · refine .sn [8,7,6,2,0] r (.seq (.block (.seq (.ownF .p1 fun d4=>?_))))
   refine .ownF .p2 fun d5=>?_
   refine .ownF .p3 fun d6=>?_
   refine .dr [0,1,2,3,4,5,6,7,8] 9 (.fk 1 r (.h r (fun _=>.lo EU .z r .mk) (.fk 2 r ?_)))
   obtain ⟨S,m,J,hd⟩:=hd
   obtain ⟨e7,o434,e0,c6,a5,a6⟩:=R3.2 _ _ J
   cases a6
   refine .h r (fun _=>.ixa FZ HF r c6 r S (AH J S) r r .mk) (.fk 1 r (.h r (fun _=>.ld1 (j:=1) BF a5 r r r r r .mk) (.ww r fun ex=>?_)))
   refine .buildSlice 1 BW FO oQ r r (.c r r r .n) r r fun e8=>?_
   refine .so 6 r r r (.ch r (fun _=>.lo EU .p1 r .mk) (.ck 1 r r trivial)) (.ww r fun ex=>?_)
   obtain ⟨a7,hd⟩:=hd
   refine .append (ys:=[m.Col]) 8 .p3 BW BW yW r r r r r r r r r (.box .z (.one r) r) a7 r r fun T U=>?_
   refine .so 6 r r r trivial (.e2 9 (.ks 1 r (.s1 wG .p2 r (.no [8,7,6,2,0] r (.drop .p1 (.seq (.ownF .z fun d7=>?_)))))))
   refine .ownF .p2 fun d8=>?_
   refine .ownF .p3 fun d9=>?_
   refine .dr [0,1,2,3,4,5,6,7,8] 9 (.fk 1 r (.h r (fun _=>.lo mG .p1 r .mk) (.fk 2 r ?_)))
   obtain ⟨V,p,K,hd⟩:=hd
   obtain ⟨e9,o470,e1,c7,a8,a9⟩:=R3.2 _ _ K
   cases a9
   refine .h r (fun _=>.ixa FZ HF r c7 r V (AH K V) r r .mk) (.fk 1 r (.h r (fun _=>.ld1 (j:=2) TP a8 r r r r r .mk) (.ww r fun ex=>?_)))
   refine .buildSlice 1 XJ yX zeroValue2 r r (.c r r r .n) r r fun f0=>?_
   refine .so 6 r r r (.ch r (fun _=>.lo mG .p2 r .mk) (.ck 1 r r trivial)) (.ww r fun ex=>?_)
   obtain ⟨b0,hd⟩:=hd
   refine .append (ys:=[p.Val]) 8 .p4 XJ XJ IN2 r r r r r r r r r (.box .z (.one r) r) b0 r r fun W X=>?_
   refine .so 6 r r r trivial (.e2 9 (.ks 1 r (.s1 sizeOf31 .p3 r (.no [8,7,6,2,0] r (.drop .p1 (.sk 2 r ?_))))))
   obtain ⟨Y,f1,L,hd⟩:=hd
   obtain ⟨f2,o494,e3,c8,b1,b2⟩:=R3.2 _ _ L
   cases b2
   refine .ixa FZ HF r c8 r Y (AH L Y) r r (.ks 1 r (.ld1 (j:=0) BF b1 r r r r r (.kn 2 [9,8,7,6,2,0] r (.block (.lx hd [8,7,6,2,0] [4,1,0] r (fun j E l (d,f)=>fun c w=>∃ D q,j ⟨58,[],none⟩ (fun I_=>True) ((9,.int .i64 f) :: E) (pto R (.cells #[.int .i64 e.Rows,.int .i64 e.Cols,.slice D d.length q,.slice T (a++([m.Col])).length U,.slice W (b++([p.Val])).length X] 33 (0,0)) :: OwnSl AE 3 D q d :: l) c w) (fun c w ho hs=>⟨_,_,jf rf trivial [2,2,2,1,0] r ho hs⟩) ?_)))))
   rintro ⟨d,f⟩ d3 hd c w ⟨D,q,f3,N,_,hok,hsym⟩
   obtain ⟨e4,b3,R3⟩:=N.u3 H k R3
   refine Cod.at hok hsym (.seq (.sr (.kn 3 [47,9,8,7,6,2,0] r (.condP r hd (fun b4 hd=>?_) fun b4 hd=>?_))))
   · refine .sn [9,8,7,6,2,0] r (.seq (.block (.region (.ks 1 r (.lo EU .z r (.ks 1 r ?_))))))
     obtain ⟨Z,F,s,hd⟩:=hd
     refine .ownNe .p1 (EB s) fun c9 d0=>?_
     cases d0
     refine .ixa0 BW FO r r Z (AH s Z) r r (.lo1 (j:=0) BF .p1 s r r r r r (.ks 1 r ?_))
     obtain ⟨a3,f4,O,hd⟩:=hd
     exact .ixa0 BW FO r r a3 (AH O a3) r r (.stO1 (j:=0) (v':=(AJ (F+1))) FO .p1 O r r r (.o r) r (.rl .p1 [51] r (by simp only [List.length_set]) (.reat .z (B:=pto R (.cells #[.int .i64 e.Rows,.int .i64 e.Cols,.slice (some ⟨c9,0,none⟩) (d.set f.toNat (AJ (F+1))).length q,.slice T (a++([m.Col])).length U,.slice W (b++([p.Val])).length X] 33 (0,0))) (by simp only [List.length_set]) (.no [9,8,7,6,2,0] r (.region (.ks 3 r (.nil' fun c w ho hs=>⟨((d.set f.toNat (AJ (F+1))),AJ (f+1)),hd,_,_,jf N trivial [0,0,0,0,0] r ho hs⟩)))))))
   exact .en [8,7,6,2,0] r (.region (.ks 3 r (.nil' fun c w ho hs=>⟨(d,(a++([m.Col])),(b++([p.Val])),AJ (t+1)),hd,_,_,_,_,_,_,jf b3 trivial [0,0,1,1,0] r ho hs⟩)))
 refine .en [7,6] r (.sr (.lw BU AU .z r (.sa AU .p4 r (.no [6] r (.drop .z (.pub .z fun f5 b5 g=>?_))))))
 obtain ⟨b6,b7⟩:=b5.u2 H k
 refine .pub .z fun f6 b8 G=>?_
 obtain ⟨b9,c0,g⟩:=b8.u3 b6 b7 g
 refine .pub .z fun f7 c1 d1=>?_
 obtain ⟨c3,e5,g,G⟩:=c1.u4 b9 c0 g G
 exact .ret (BP results59 (.w BU AU r .z r .n) c3 ⟨({ Rows:=e.Rows,Cols:=e.Cols,Start:=i,Col:=a,Val:=b }:Rows),_,_,_,_,_,_,r,g,G,d1,hd⟩)
theorem gE {a0:CA} {Q:(Rows×Int)→Prop} (R3:RepSl GU I p1 c2 a0.Edges) (hd:RL a0 Q) :
  BZ prog 15 [.agg #[.int .i64 a0.N,.slice p1 a0.Edges.length c2]] I (o8_ Q):=by
 refine Fun.en func15 ntmps15 r fun w0 M=>?_
 refine .sr (.bx r fun b9=>?_)
 refine .al DO r fun c0=>?_
 refine .kn 1 [2,1] r (.seq (.sr (.lw XK NP .p1 r ?_)))
 have P:=gD (I:=I) R3 hd
 refine .cq call57 P r fun a3 hd=>?_
 refine .ks 1 r (.nk [4,2,1] 2 r (.no [11,4,2,1] r (.condP r hd (fun R hd=>?_) fun R hd=>?_)))
 · exact .sr (.build DO HY HX .n (by exact trivial) r r (.ks 1 r (.sa AU .z r (.kn 1 [3,2] r (.drop .p1 (.ret (BP results15 (.w BU AU r .z r (.t r .n)) rf ⟨(({ Rows:=0,Cols:=0,Start:=([]:List Int),Col:=([]:List Int),Val:=([]:List Int) }:Rows),a3),_,_,_,_,_,_,r,(.nil _ _ _),(.nil _ _ _),(.nil _ _ _),hd⟩)))))))
 refine .sn [2,1] r (.sr (.lw XK NP .p1 r ?_))
 have S:=lC (I:=I) R3 hd
 refine .callO call58 r S r r fun c1 c3 c4 p T=>?_
 obtain ⟨c5,c6,c7,rfl,rfl,hd⟩:=T
 have R3:=p.u1 R3
 refine .al bP r fun c8=>?_
 refine .sa NP .z r (.nk [5,2,1] 1 r (.no [6,5,2,1] r (.seq (.sr (.kn 1 [7,6,5,2,1] r (.block (.own0 BL 103 (.lx hd [5,2,1] [4,3,1,1] r (fun j E l (a,e)=>fun c w=>∃ f g,j ⟨51,[],none⟩ (fun I_=>True) ((6,.slice f a.length g) :: (7,.int .i64 e) :: E) (OwnSl BL 103 f g a :: l) c w) (fun c w ho hs=>⟨_,_,jf rf trivial [0,3,2,0,0] r ho hs⟩) ?_))))))))
 rintro ⟨a,e⟩ a2 hd c w ⟨f,g,a6,b,_,hok,hsym⟩
 obtain ⟨B,R3⟩:=b.u2 p R3
 refine Cod.at hok hsym (.seq (.sk 2 r (.lo KO .p3 r (.ln EL r (.kn 1 [20,7,6,5,2,1] r (.condP r hd (fun C hd=>?_) fun C hd=>?_))))))
 · refine .sn [7,6,5,2,1] r (.seq (.block (.ownF .z fun a4=>?_)))
   refine .ownF .p4 fun q=>?_
   refine .dr [0,1,2,3,4,5,6,7,8,9,10,11,12,13,14,15,16,17,18,19,20,21] 22 (.fk 2 r (.h r (fun _=>.lo KO .p3 r .mk) (.fk 1 r ?_)))
   obtain ⟨s,u,d,hd⟩:=hd
   obtain ⟨a7,U⟩:=q (EB d)
   cases U
   refine .h r (fun _=>.ixa0 EL FX r r s (AH d s) r r .mk) (.fk 1 r (.h r (fun _=>.lo1 (j:=0) BF .p4 d r r r r r .mk) (.fk 1 r (.h r (fun _=>.lo KO .p3 r .mk) (.fk 1 r ?_)))))
   obtain ⟨v,x,k,hd⟩:=hd
   refine .h r (fun _=>.ixa0 EL FX r r v (AH k v) r r .mk) (.fk 1 r (.h r (fun _=>.lo1 (j:=1) BF .p4 k r r r r r .mk) (.fk 1 r (.h r (fun _=>.lo KO .p3 r .mk) (.fk 1 r ?_)))))
   obtain ⟨y,A,m,hd⟩:=hd
   refine .h r (fun _=>.ixa0 EL FX r r y (AH m y) r r .mk) (.fk 1 r (.h r (fun _=>.lo1 (j:=2) TP .p4 m r r r r r .mk) (.h r (fun _=>.build NR dM dK (.c r r r (.o r) (.c r r r (.o r) (.c r r r (.o r) .n))) (by exact ⟨⟨_,_,r,r,r⟩,⟨⟨_,_,r,r,r⟩,⟨⟨_,_,r,r,r⟩,trivial⟩⟩⟩) r r .mk) (.ww r fun ex=>?_))))
   refine .buildSlice 1 FZ HF NR r r (.c r r r .n) r r fun a8=>?_
   refine .so 6 r r r (.ck 1 r r trivial) (.ww r fun ex=>?_)
   obtain ⟨D,hd⟩:=hd
   refine .append (ys:=[({ Row:=u.From,Col:=x.To,Val:=A.W }:AC)]) 24 .p1 FZ FZ bA r r r r r r r r r (.box .z (.one r) r) D r r fun a9 b0=>?_
   exact .so 6 r r r trivial (.e2 22 (.kn 1 [6,7,5,2,1] r (.drop .p1 (.region (.ks 3 r (.nil' fun c w ho hs=>⟨((a++([({ Row:=u.From,Col:=x.To,Val:=A.W }:AC)])),AJ (e+1)),hd,_,_,jf b trivial [0,0,0,0,0] r ho hs⟩))))))
 refine .en [6,2,1] r (.drop .p3 (.drop .p3 (.sk 1 r (.lo BF .p1 r (.ks 1 r (.lo BF .p1 r (.ks 1 r (.pub .z fun V F i=>?_))))))))
 obtain ⟨G,H,R3⟩:=F.u3 B b R3
 have J:=XC (I:=V) i hd
 refine .call call59 r J r r fun b1 b2 K L=>?_
 obtain ⟨X,b3,b4,b5,b6,b7,b8,rfl,Y,Z,a1,hd⟩:=L
 obtain ⟨O,a5,R3,i⟩:=K.u4 G H R3 i
 exact .sa AU .p1 r (.kn 1 [3,2] r (.drop .z (.ret (BP results15 (.w BU AU r .z r (.t r .n)) O ⟨(X,0),_,_,_,_,_,_,r,Y,Z,a1,hd⟩))))
theorem qV {a0 a1 a2:Int} {a3:List AC} {Q:(Rows×Int)→Prop} (R3:RepSl BL I p1 c2 a3) (hd:YF a0 a1 a2 a3 Q) :
  BZ prog 60 [.int .i64 a0,.int .i64 a1,.int .i64 a2,.slice p1 a3.length c2] I (o8_ Q):=by
 refine Fun.en func60 ntmps60 r fun w0 M=>?_
 refine .sr (.al DO r fun l2=>?_)
 refine .kn 1 [8,3,2,1,0] r (.seq (.sk 1 r ?_))
 have e8:=fJ (I:=I) hd
 refine .cq call102 e8 r fun l3 hd=>?_
 refine .kn 1 [17,8,3,2,1,0] r (.condP r hd (fun e9 hd=>?_) fun e9 hd=>?_)
 · exact .sr (.build DO HY HX .n (by exact trivial) r r (.sa AU .z r (.kn 1 [9,8] r (.ret (BP results60 (.w BU AU r .z r (.t r .n)) rf ⟨(({ Rows:=0,Cols:=0,Start:=([]:List Int),Col:=([]:List Int),Val:=([]:List Int) }:Rows),8),_,_,_,_,_,_,r,(.nil _ _ _),(.nil _ _ _),(.nil _ _ _),hd⟩)))))
 refine .sn [8,3,2,1,0] r (.seq (.sk 3 r ?_))
 refine AN hd (fun m hd=>?_) fun m hd=>?_
 · rw [m]
   exact .kn 11 [32,8,3,2,1,0] r (.condKT r r (.sr (.build DO HY HX .n (by exact trivial) r r (.sa AU .z r (.kn 1 [9,8] r (.ret (BP results60 (.w BU AU r .z r (.t r .n)) rf ⟨(({ Rows:=0,Cols:=0,Start:=([]:List Int),Col:=([]:List Int),Val:=([]:List Int) }:Rows),3),_,_,_,_,_,_,r,(.nil _ _ _),(.nil _ _ _),(.nil _ _ _),hd⟩)))))))
 rw [m]
 refine .ks 4 r ?_
 refine AN hd (fun p hd=>?_) fun p hd=>?_
 · rw [p]
   exact .kn 7 [32,8,3,2,1,0] r (.condKT r r (.sr (.build DO HY HX .n (by exact trivial) r r (.sa AU .z r (.kn 1 [9,8] r (.ret (BP results60 (.w BU AU r .z r (.t r .n)) rf ⟨(({ Rows:=0,Cols:=0,Start:=([]:List Int),Col:=([]:List Int),Val:=([]:List Int) }:Rows),3),_,_,_,_,_,_,r,(.nil _ _ _),(.nil _ _ _),(.nil _ _ _),hd⟩)))))))
 rw [p]
 refine .ks 4 r ?_
 refine AN hd (fun q hd=>?_) fun q hd=>?_
 · rw [q]
   exact .kn 3 [32,8,3,2,1,0] r (.condKT r r (.sr (.build DO HY HX .n (by exact trivial) r r (.sa AU .z r (.kn 1 [9,8] r (.ret (BP results60 (.w BU AU r .z r (.t r .n)) rf ⟨(({ Rows:=0,Cols:=0,Start:=([]:List Int),Col:=([]:List Int),Val:=([]:List Int) }:Rows),3),_,_,_,_,_,_,r,(.nil _ _ _),(.nil _ _ _),(.nil _ _ _),hd⟩)))))))
 rw [q]
 refine .kn 3 [32,8,3,2,1,0] r (.condP r hd (fun f0 hd=>?_) fun f0 hd=>?_)
 · exact .sr (.build DO HY HX .n (by exact trivial) r r (.sa AU .z r (.kn 1 [9,8] r (.ret (BP results60 (.w BU AU r .z r (.t r .n)) rf ⟨(({ Rows:=0,Cols:=0,Start:=([]:List Int),Col:=([]:List Int),Val:=([]:List Int) }:Rows),3),_,_,_,_,_,_,r,(.nil _ _ _),(.nil _ _ _),(.nil _ _ _),hd⟩)))))
 refine .sn [8,3,2,1,0] r (.seq (.sk 1 r (.ln FZ r (.kn 1 [36,8,3,2,1,0] r (.condP r hd (fun f1 hd=>?_) fun f1 hd=>?_)))))
 · exact .sr (.build DO HY HX .n (by exact trivial) r r (.sa AU .z r (.kn 1 [9,8] r (.ret (BP results60 (.w BU AU r .z r (.t r .n)) rf ⟨(({ Rows:=0,Cols:=0,Start:=([]:List Int),Col:=([]:List Int),Val:=([]:List Int) }:Rows),5),_,_,_,_,_,_,r,(.nil _ _ _),(.nil _ _ _),(.nil _ _ _),hd⟩)))))
 refine .sn [8,3,2,1,0] r (.sr (.kn 1 [10,8,3,2,1,0] r (.seq (.sr (.kn 1 [11,10,8,3,2,1,0] r (.block (.own0 GU 49 (.lx hd [8,3,2,1,0] [1] r (fun j E l (b,s)=>fun c w=>∃ u v,j ⟨135,[],none⟩ (fun I_=>True) ((10,.slice u b.length v) :: (11,.int .i64 s) :: E) (OwnSl GU 49 u v b :: l) c w) (fun c w ho hs=>⟨_,_,jf rf trivial [0,0] r ho hs⟩) ?_))))))))
 rintro ⟨b,s⟩ g7 hd c w ⟨u,v,h9,a,_,hok,hsym⟩
 have R3:=a.u1 R3
 refine Cod.at hok hsym (.seq (.sk 2 r (.ln FZ r (.kn 1 [41,11,10,8,3,2,1,0] r (.condP r hd (fun b3 hd=>?_) fun b3 hd=>?_)))))
 · refine .sn [11,10,8,3,2,1,0] r (.seq (.block (.seq (.sk 2 r ?_))))
   obtain ⟨R,i0,D,hd⟩:=hd
   obtain ⟨i1,o711,h1,f2,b4,b5⟩:=R3.2 _ _ D
   cases b5
   refine .ixa FZ HF r f2 r R (AH D R) r r (.ks 1 r (.ld1 (j:=0) BF b4 r r r r r (.ks 2 r ?_)))
   refine AN hd (fun d hd=>?_) fun d hd=>?_
   · rw [d]
     exact .kn 25 [75,11,10,8,3,2,1,0] r (.condKT r r (.sr (.build DO HY HX .n (by exact trivial) r r (.sa AU .p1 r (.kn 1 [9,8] r (.drop .z (.ret (BP results60 (.w BU AU r .z r (.t r .n)) a ⟨(({ Rows:=0,Cols:=0,Start:=([]:List Int),Col:=([]:List Int),Val:=([]:List Int) }:Rows),3),_,_,_,_,_,_,r,(.nil _ _ _),(.nil _ _ _),(.nil _ _ _),hd⟩))))))))
   rw [d]
   refine .ks 2 r ?_
   obtain ⟨S,i2,F,hd⟩:=hd
   obtain ⟨i3,o721,h2,f3,b6,b7⟩:=R3.2 _ _ F
   cases b7
   refine .yes r (.ixa FZ HF r f3 r S (AH F S) r r (.ks 1 r (.yes r (.ld1 (j:=0) BF b6 r r r r r (.ks 4 r ?_)))))
   refine AN hd (fun e hd=>?_) fun e hd=>?_
   · rw [e]
     exact .kn 16 [75,11,10,8,3,2,1,0] r (.condKT r r (.sr (.build DO HY HX .n (by exact trivial) r r (.sa AU .p1 r (.kn 1 [9,8] r (.drop .z (.ret (BP results60 (.w BU AU r .z r (.t r .n)) a ⟨(({ Rows:=0,Cols:=0,Start:=([]:List Int),Col:=([]:List Int),Val:=([]:List Int) }:Rows),3),_,_,_,_,_,_,r,(.nil _ _ _),(.nil _ _ _),(.nil _ _ _),hd⟩))))))))
   rw [e]
   refine .ks 2 r ?_
   obtain ⟨T,i4,G,hd⟩:=hd
   obtain ⟨i5,o731,h3,f4,b8,b9⟩:=R3.2 _ _ G
   cases b9
   refine .yes r (.ixa FZ HF r f4 r T (AH G T) r r (.ks 1 r (.yes r (.ld1 (j:=1) BF b8 r r r r r (.ks 3 r ?_)))))
   refine AN hd (fun f hd=>?_) fun f hd=>?_
   · rw [f]
     exact .kn 8 [75,11,10,8,3,2,1,0] r (.condKT r r (.sr (.build DO HY HX .n (by exact trivial) r r (.sa AU .p1 r (.kn 1 [9,8] r (.drop .z (.ret (BP results60 (.w BU AU r .z r (.t r .n)) a ⟨(({ Rows:=0,Cols:=0,Start:=([]:List Int),Col:=([]:List Int),Val:=([]:List Int) }:Rows),3),_,_,_,_,_,_,r,(.nil _ _ _),(.nil _ _ _),(.nil _ _ _),hd⟩))))))))
   rw [f]
   refine .ks 2 r ?_
   obtain ⟨U,i6,H,hd⟩:=hd
   obtain ⟨i7,o741,h4,f5,c0,c1⟩:=R3.2 _ _ H
   cases c1
   refine .yes r (.ixa FZ HF r f5 r U (AH H U) r r (.ks 1 r (.yes r (.ld1 (j:=1) BF c0 r r r r r (.kn 3 [75,11,10,8,3,2,1,0] r (.condP r hd (fun c3 hd=>?_) fun c3 hd=>?_))))))
   · exact .sr (.build DO HY HX .n (by exact trivial) r r (.sa AU .p1 r (.kn 1 [9,8] r (.drop .z (.ret (BP results60 (.w BU AU r .z r (.t r .n)) a ⟨(({ Rows:=0,Cols:=0,Start:=([]:List Int),Col:=([]:List Int),Val:=([]:List Int) }:Rows),3),_,_,_,_,_,_,r,(.nil _ _ _),(.nil _ _ _),(.nil _ _ _),hd⟩))))))
   refine .sn [11,10,8,3,2,1,0] r (.ownF .z fun g9=>?_)
   refine .dr [0,1,2,3,4,5,6,7,8,9,10,11,12,13,14,15,16,17,18] 19 (.fk 3 r ?_)
   obtain ⟨V,X,J,hd⟩:=hd
   obtain ⟨i8,o752,h5,f6,c4,c5⟩:=R3.2 _ _ J
   cases c5
   refine .h r (fun _=>.ixa FZ HF r f6 r V (AH J V) r r .mk) (.fk 1 r (.h r (fun _=>.ld1 (j:=0) BF c4 r r r r r .mk) (.fk 2 r ?_)))
   obtain ⟨Y,Z,K,hd⟩:=hd
   obtain ⟨i9,o761,h6,f7,c6,c7⟩:=R3.2 _ _ K
   cases c7
   refine .h r (fun _=>.ixa FZ HF r f7 r Y (AH K Y) r r .mk) (.fk 1 r (.h r (fun _=>.ld1 (j:=1) BF c6 r r r r r .mk) (.fk 2 r ?_)))
   obtain ⟨a4,a5,L,hd⟩:=hd
   obtain ⟨j0,o770,h7,f8,c8,c9⟩:=R3.2 _ _ L
   cases c9
   refine .h r (fun _=>.ixa FZ HF r f8 r a4 (AH L a4) r r .mk) (.fk 1 r (.h r (fun _=>.ld1 (j:=2) TP c8 r r r r r .mk) (.h r (fun _=>.build YO tS tQ (.c r r r (.o r) (.c r r r (.o r) (.c r r r (.o r) .n))) (by exact ⟨⟨_,_,r,r,r⟩,⟨⟨_,_,r,r,r⟩,⟨⟨_,_,r,r,r⟩,trivial⟩⟩⟩) r r .mk) (.ww r fun ex=>?_))))
   refine .buildSlice 1 EL FX YO r r (.c r r r .n) r r fun j1=>?_
   refine .so 3 r r r (.ck 1 r r trivial) (.ww r fun ex=>?_)
   obtain ⟨d0,hd⟩:=hd
   refine .append (ys:=[({ From:=X.Row,To:=Z.Col,W:=a5.Val }:BN)]) 24 .p1 EL EL wE r r r r r r r r r (.box .z (.one r) r) d0 r r fun j2 j3=>?_
   exact .so 3 r r r trivial (.e2 19 (.kn 1 [10,11,8,3,2,1,0] r (.drop .p1 (.region (.ks 3 r (.nil' fun c w ho hs=>⟨((b++([({ From:=X.Row,To:=Z.Col,W:=a5.Val }:BN)])),AJ (s+1)),hd,_,_,jf a trivial [0,0] r ho hs⟩))))))
 refine .en [10,8,2,1,0] r (.sk 2 r (.pub .z fun f9 d1 x=>?_))
 have d2:=d1.u1 a
 have d3:=UL (I:=f9) x hd
 refine .callO call127 r d3 r r fun j4 j5 j6 d4 d5=>?_
 obtain ⟨g0,j7,j8,rfl,rfl,hd⟩:=d5
 obtain ⟨N,x⟩:=d4.u2 d2 x
 refine .kn 5 [12,10,8,2,1] r (.seq (.sr (.kn 2 [103,12,10,8,2,1] r (.condP r hd (fun d6 hd=>?_) fun d6 hd=>?_))))
 · exact .sr (.build DO HY HX .n (by exact trivial) r r (.ks 1 r (.sa AU .p1 r (.kn 1 [9,8] r (.drop .z (.ret (BP results60 (.w BU AU r .z r (.t r .n)) N ⟨(({ Rows:=0,Cols:=0,Start:=([]:List Int),Col:=([]:List Int),Val:=([]:List Int) }:Rows),g0.2),_,_,_,_,_,_,r,(.nil _ _ _),(.nil _ _ _),(.nil _ _ _),hd⟩)))))))
 refine .sn [10,8,2,1] r (.sr (.kn 1 [13,10,8,2,1] r (.seq (.sr (.kn 1 [14,13,10,8,2,1] r (.block (.own0 BL 103 (.lx hd [10,8,2,1] [2,1] r (fun j E l (g,y)=>fun c w=>∃ A B,j ⟨135,[],none⟩ (fun I_=>True) ((13,.slice A g.length B) :: (14,.int .i64 y) :: E) (OwnSl BL 103 A B g :: l) c w) (fun c w ho hs=>⟨_,_,jf rf trivial [0,1,0] r ho hs⟩) ?_))))))))
 rintro ⟨g,y⟩ g8 hd c w ⟨A,B,j9,i,_,hok,hsym⟩
 have d7:=i.u1 N
 refine Cod.at hok hsym (.seq (.sk 2 r (.ln EL r (.kn 1 [109,14,13,10,8,2,1] r (.condP r hd (fun d8 hd=>?_) fun d8 hd=>?_)))))
 · refine .sn [14,13,10,8,2,1] r (.seq (.block (.ownF .z fun h0=>?_)))
   refine .ownF .p2 fun a6=>?_
   refine .dr [0,1,2,3,4,5,6,7,8,9,10,11,12,13,14,15,16,17,18] 19 (.fk 3 r ?_)
   obtain ⟨a7,a8,k,hd⟩:=hd
   obtain ⟨k0,g1⟩:=a6 (EB k)
   cases g1
   refine .h r (fun _=>.ixa0 EL FX r r a7 (AH k a7) r r .mk) (.fk 1 r (.h r (fun _=>.lo1 (j:=0) BF .p2 k r r r r r .mk) (.fk 2 r ?_)))
   obtain ⟨a9,b0,O,hd⟩:=hd
   refine .h r (fun _=>.ixa0 EL FX r r a9 (AH O a9) r r .mk) (.fk 1 r (.h r (fun _=>.lo1 (j:=1) BF .p2 O r r r r r .mk) (.fk 2 r ?_)))
   obtain ⟨b1,b2,P,hd⟩:=hd
   refine .h r (fun _=>.ixa0 EL FX r r b1 (AH P b1) r r .mk) (.fk 1 r (.h r (fun _=>.lo1 (j:=2) TP .p2 P r r r r r .mk) (.h r (fun _=>.build NR dM dK (.c r r r (.o r) (.c r r r (.o r) (.c r r r (.o r) .n))) (by exact ⟨⟨_,_,r,r,r⟩,⟨⟨_,_,r,r,r⟩,⟨⟨_,_,r,r,r⟩,trivial⟩⟩⟩) r r .mk) (.ww r fun ex=>?_))))
   refine .buildSlice 1 FZ HF NR r r (.c r r r .n) r r fun k1=>?_
   refine .so 4 r r r (.ck 1 r r trivial) (.ww r fun ex=>?_)
   obtain ⟨d9,hd⟩:=hd
   refine .append (ys:=[({ Row:=a8.From,Col:=b0.To,Val:=b2.W }:AC)]) 24 .p1 FZ FZ bA r r r r r r r r r (.box .z (.one r) r) d9 r r fun k2 k3=>?_
   exact .so 4 r r r trivial (.e2 19 (.kn 1 [13,14,10,8,2,1] r (.drop .p1 (.region (.ks 3 r (.nil' fun c w ho hs=>⟨((g++([({ Row:=a8.From,Col:=b0.To,Val:=b2.W }:AC)])),AJ (y+1)),hd,_,_,jf i trivial [0,0,0] r ho hs⟩))))))
 refine .en [13,8,2,1] r (.drop .p2 (.sk 3 r (.pub .z fun g2 e0 C=>?_)))
 obtain ⟨e1,e3⟩:=e0.u2 d7 i
 have e4:=XC (I:=g2) C hd
 refine .call call59 r e4 r r fun k4 k5 e5 e6=>?_
 obtain ⟨g3,k6,k7,k8,k9,l0,l1,rfl,g4,g5,g6,hd⟩:=e6
 obtain ⟨e7,h8,C⟩:=e5.u3 e1 e3 C
 exact .sa AU .z r (.kn 1 [9,8] r (.ret (BP results60 (.w BU AU r .z r (.t r .n)) e7 ⟨(g3,0),_,_,_,_,_,_,r,g4,g5,g6,hd⟩)))
theorem qW {a0 a1:Int} {Q:Rows→Prop} (hd:YG a0 a1 Q) :
  BZ prog 16 [.int .i64 a0,.int .i64 a1] I (o9_ Q):=by
 refine Fun.en func16 ntmps16 r fun w0 M=>?_
 refine .sr (.al DO r fun a4=>?_)
 refine .nk [4,1,0] 1 r (.no [5,4,1,0] r (.seq (.sr (.kn 1 [6,5,4,1,0] r (.block (.own0 BL 103 (.lx hd [4,1,0] [1] r (fun j E l (e,a)=>fun c w=>∃ f g,j ⟨34,[],none⟩ (fun I_=>True) ((5,.slice f e.length g) :: (6,.int .i64 a) :: E) (OwnSl BL 103 f g e :: l) c w) (fun c w ho hs=>⟨_,_,jf rf trivial [0,0] r ho hs⟩) ?_)))))))
 rintro ⟨e,a⟩ K hd c w ⟨f,g,N,m,_,hok,hsym⟩
 refine Cod.at hok hsym (.seq (.sr (.kn 3 [12,6,5,4,1,0] r (.condP r hd (fun q hd=>?_) fun q hd=>?_))))
 · refine .sn [6,5,4,1,0] r (.seq (.block (.sr (.kn 1 [7,6,5,4,1,0] r (.block (.lx hd [6,4,1,0] [1] r (fun j E l (b,d)=>fun c w=>∃ h i,j ⟨34,[],none⟩ (fun I_=>True) ((5,.slice h b.length i) :: (7,.int .i64 d) :: E) (OwnSl BL 103 h i b :: l) c w) (fun c w ho hs=>⟨_,_,jf rf trivial [0,0] r ho hs⟩) ?_))))))
   rintro ⟨b,d⟩ L hd c w ⟨h,i,O,p,_,hok,hsym⟩
   have s:=p.u1 m
   refine Cod.at hok hsym (.seq (.sr (.kn 3 [17,7,6,5,4,1,0] r (.condP r hd (fun t hd=>?_) fun t hd=>?_))))
   · refine .sn [7,6,5,4,1,0] r (.seq (.block (.region (.ks 3 r (.build NR dM dK (.c r r r (.o r) (.c r r r (.o r) (.c r r r (.o r) .n))) (by exact ⟨⟨_,_,r,r,r⟩,⟨⟨_,_,r,r,r⟩,⟨⟨_,_,r,r,r⟩,trivial⟩⟩⟩) r r (.buildSlice 1 FZ HF NR r r (.c r r r .n) r r fun P=>?_))))))
     obtain ⟨u,hd⟩:=hd
     refine .append (ys:=[({ Row:=a,Col:=d,Val:=1 }:AC)]) 24 .p1 FZ FZ bA r r r r r r r r r (.box .z (.one r) r) u r r fun R S=>?_
     exact .kn 1 [5,7,6,4,1,0] r (.drop .p1 (.region (.ks 3 r (.nil' fun c w ho hs=>⟨((b++([({ Row:=a,Col:=d,Val:=1 }:AC)])),AJ (d+1)),hd,_,_,jf p trivial [0,0] r ho hs⟩))))
   exact .en [6,5,4,1,0] r (.region (.ks 3 r (.nil' fun c w ho hs=>⟨(b,AJ (a+1)),hd,_,_,jf s trivial [0,0] r ho hs⟩)))
 refine .en [5,4,1,0] r (.sk 3 r (.pub .z fun D v k=>?_))
 have x:=v.u1 m
 have y:=qV (I:=D) k hd
 refine .call call60 r y r r fun T U A B=>?_
 obtain ⟨F,V,W,X,Y,Z,a2,rfl,G,H,J,hd⟩:=B
 obtain ⟨C,k⟩:=A.u2 x k
 refine .ks 3 r (.al DO r fun a3=>?_)
 exact .sa AU .z r (.ks 1 r (.ns [8,4] r (.lw BU AU .z r (.sa AU .p1 r (.no [4] r (.drop .z (.ret (BP results16 (.w BU AU r .z r .n) C ⟨F.1,_,_,_,_,_,_,r,G,H,J,hd⟩))))))))
theorem W3 {a0:GI} {a1:Int} {Q:(List GH)→Prop} (R3:RepSl V7 I p1 c2 a0.L) (hd:HS a0 a1 Q) :
  BZ prog 18 [.agg #[.slice p1 a0.L.length c2,.int .u8 a0.Windows],.int .i64 a1] I (fun I_ v=>∃ r p4 c5,v=.slice p4 r.length c5∧RepSl V7 I_ p4 c5 r∧Q r):=by
 refine Fun.en func18 ntmps18 r fun w0 M=>?_
 refine .sr (.bx r fun b9=>?_)
 refine .ks 1 r (.nk [2,1] 1 r (.no [5,2,1] r (.seq (.sr (.kn 1 [6,5,2,1] r (.block (.own0 V7 47 (.lx hd [2,1] [1] r (fun j E l (a,f)=>fun c w=>∃ g h,j ⟨48,[],none⟩ (fun I_=>True) ((5,.slice g a.length h) :: (6,.int .i64 f) :: E) (OwnSl V7 47 g h a :: l) c w) (fun c w ho hs=>⟨_,_,jf rf trivial [0,0] r ho hs⟩) ?_))))))))
 rintro ⟨a,f⟩ S hd c w ⟨g,h,d,b,_,hok,hsym⟩
 have R3:=b.u1 R3
 refine Cod.at hok hsym (.seq (.sk 2 r (.lo isAgg26 .p1 r (.ln ZV r (.ks 2 r ?_)))))
 refine AN hd (fun e hd=>?_) fun e hd=>?_
 · rw [e]
   refine .kn 3 [16,6,5,2,1] r (.condP r hd (fun s hd=>?_) fun s hd=>?_)
   · refine .sn [6,5,2,1] r (.seq (.block (.sk 1 r (.lo isAgg26 .p1 r (.ks 1 r ?_)))))
     obtain ⟨k,U,i,hd⟩:=hd
     obtain ⟨V,o173,T,O,t,u⟩:=R3.2 _ _ i
     cases u
     refine .ixa ZV VE r O r k (AH i k) r r (.ldW jI VE t r r r r (.al wI r fun W=>?_))
     refine .sa VE .z r (.nk [7,6,5,2,1] 1 r (.lo isAgg45 .z r ?_))
     have x:=FV (I:=d) hd
     refine .cq call56 x r fun m hd=>?_
     refine .ks 2 r (.s1 sizeOf45 .z r (.nk [7,6,5,2,1] 1 r (.lo BF .z r (.ks 1 r ?_))))
     have y:=FV (I:=d) hd
     refine .cq call56 y r fun o hd=>?_
     refine .ks 1 r (.s1 FO .z r (.nk [7,6,5,2,1] 1 r (.lo BF .z r (.ks 1 r ?_))))
     have C:=FV (I:=d) hd
     refine .cq call56 C r fun p hd=>?_
     refine .ks 1 r (.s1 FO .z r (.nk [7,6,5,2,1] 1 r (.lo BF .z r ?_)))
     have D:=FV (I:=d) hd
     refine .cq call56 D r fun q hd=>?_
     refine .ks 1 r (.s1 FO .z r (.no [7,6,5,2,1] r (.region (.ks 1 r (.lw jI VE .z r (.buildSlice 1 ZV VE wI r r (.c r r r .n) r r fun X=>?_))))))
     obtain ⟨F,hd⟩:=hd
     refine .append (ys:=[({ Kind:=AJ (m+1),A:=o,B:=p,K:=q }:GH)]) 32 .p2 ZV ZV Ad0 r r r r r r r r r (.box .z (.one r) r) F r r fun Y Z=>?_
     exact .kn 1 [5,6,2,1] r (.drop .p1 (.drop .p1 (.region (.ks 3 r (.nil' fun c w ho hs=>⟨((a++([({ Kind:=AJ (m+1),A:=o,B:=p,K:=q }:GH)])),AJ (f+1)),hd,_,_,jf b trivial [0,0] r ho hs⟩)))))
   refine .en [5] r (.drop .p1 (.sr (.kn 2 [4] r (.pub .z fun a2 G P=>?_))))
   have H:=G.u1 b
   exact .r1 results18 r H ⟨a,_,_,r,P,hd⟩
 rw [e]
 refine .kn 3 [16,6,5,2,1] r (.condKF r r (.en [5] r (.drop .p1 (.sr (.kn 2 [4] r (.pub .z fun a3 J R=>?_))))))
 have N:=J.u1 b
 exact .r1 results18 r N ⟨a,_,_,r,R,hd⟩
theorem gF {a0:Rows} {Q:Bool→Prop} (R3:RepSl AE I p1 c2 a0.Start) (R6:RepSl AE I p4 c5 a0.Col) (R9:RepSl AE I p7 c8 a0.Val) (hd:RN a0 Q) :
  BZ prog 103 [.agg #[.int .i64 a0.Rows,.int .i64 a0.Cols,.slice p1 a0.Start.length c2,.slice p4 a0.Col.length c5,.slice p7 a0.Val.length c8]] I (fun _=>fM Q):=by
 refine Fun.en func103 ntmps103 r fun w0 M=>?_
 refine .sr (.bx r fun i9=>?_)
 refine .kn 1 [1] r (.seq (.sk 1 r (.lo BF .z r (.ks 2 r ?_))))
 refine AN hd (fun n hd=>?_) fun n hd=>?_
 · rw [n]
   exact .kn 38 [46,1] r (.condKT r r (.sr (.kn 1 [2] r (.drop .z (.r0 results103 r ⟨false,r,hd⟩)))))
 rw [n]
 refine .ks 1 r (.yes r (.lo BF .z r (.ks 3 r ?_)))
 refine AN hd (fun o hd=>?_) fun o hd=>?_
 · rw [o]
   exact .kn 33 [46,1] r (.condKT r r (.sr (.kn 1 [2] r (.drop .z (.r0 results103 r ⟨false,r,hd⟩)))))
 rw [o]
 refine .ks 1 r (.yes r (.lo BF .z r (.ks 3 r ?_)))
 refine AN hd (fun p hd=>?_) fun p hd=>?_
 · rw [p]
   exact .kn 28 [46,1] r (.condKT r r (.sr (.kn 1 [2] r (.drop .z (.r0 results103 r ⟨false,r,hd⟩)))))
 rw [p]
 refine .ks 1 r (.yes r (.lo BF .z r (.ks 3 r ?_)))
 refine AN hd (fun q hd=>?_) fun q hd=>?_
 · rw [q]
   exact .kn 23 [46,1] r (.condKT r r (.sr (.kn 1 [2] r (.drop .z (.r0 results103 r ⟨false,r,hd⟩)))))
 rw [q]
 refine .ks 1 r (.yes r (.lo EU .z r (.yes r (.ln BW r (.ks 1 r (.yes r (.lo BF .z r (.ks 4 r ?_))))))))
 refine AN hd (fun s hd=>?_) fun s hd=>?_
 · rw [s]
   exact .kn 14 [46,1] r (.condKT r r (.sr (.kn 1 [2] r (.drop .z (.r0 results103 r ⟨false,r,hd⟩)))))
 rw [s]
 refine .ks 1 r (.yes r (.lo EU .z r (.yes r (.ln BW r (.ks 1 r (.yes r (.lo mG .z r (.yes r (.ln XJ r (.ks 3 r ?_))))))))))
 refine AN hd (fun t hd=>?_) fun t hd=>?_
 · rw [t]
   exact .kn 5 [46,1] r (.condKT r r (.sr (.kn 1 [2] r (.drop .z (.r0 results103 r ⟨false,r,hd⟩)))))
 rw [t]
 refine .ks 1 r (.yes r (.lo EU .z r (.yes r (.ln BW r (.kn 2 [46,1] r (.condP r hd (fun d1 hd=>?_) fun d1 hd=>?_))))))
 · exact .sr (.kn 1 [2] r (.drop .z (.r0 results103 r ⟨false,r,hd⟩)))
 refine .sn [1] r (.seq (.seq (.dr [0,1,2,3,4,5,6,7,8,9,10,11,12,13,14,15,16] 17 (.fk 1 r (.h r (fun _=>.lo EU .z r .mk) ?_)))))
 obtain ⟨c9,j0,K,hd⟩:=hd
 obtain ⟨j1,o52,g5,f0,d2,d3⟩:=R3.2 _ _ K
 cases d3
 refine .h r (fun _=>.ixa BW FO r f0 r c9 (AH K c9) r r .mk) (.h r (fun _=>.ld1 (j:=0) BF d2 r r r r r .mk) (.fk 2 r ?_))
 refine AN hd (fun u hd=>?_) fun u hd=>?_
 · rw [u]
   exact .fk 11 r (.e2 17 (.no [63,1] r (.condKT r r (.sr (.kn 1 [2] r (.drop .z (.r0 results103 r ⟨false,r,hd⟩)))))))
 rw [u]
 refine .fk 1 r (.h r (fun _=>.yes r (.lo EU .z r .mk)) (.fk 1 r (.h r (fun _=>.yes r (.lo BF .z r .mk)) ?_)))
 obtain ⟨d0,j2,L,hd⟩:=hd
 obtain ⟨j3,o62,g6,f1,d4,d5⟩:=R3.2 _ _ L
 cases d5
 refine .h r (fun _=>.yes r (.ixa BW FO r f1 r d0 (AH L d0) r r .mk)) (.h r (fun _=>.yes r (.ld1 (j:=0) BF d4 r r r r r .mk)) (.fk 1 r (.h r (fun _=>.yes r (.lo EU .z r .mk)) (.h r (fun _=>.yes r (.ln BW r .mk)) (.fk 2 r (.e2 17 (.no [63,1] r (.condP r hd (fun d6 hd=>?_) fun d6 hd=>?_))))))))
 · exact .sr (.kn 1 [2] r (.drop .z (.r0 results103 r ⟨false,r,hd⟩)))
 refine .sn [1] r (.seq (.sr (.kn 1 [3,1] r (.block (.lp hd [1] [0] r (fun j E l v=>j ((3,.int .i64 v) :: E) l) (ji rf [0] r) ?_)))))
 refine fun v e8 hd=>jq r fun g7 a=>?_
 obtain ⟨R3,R6,R9⟩:=a.u3 R3 R6 R9
 refine .seq (.sk 2 r (.lo BF .z r (.kn 1 [67,3,1] r (.condP r hd (fun a4 hd=>?_) fun a4 hd=>?_))))
 · refine .sn [3,1] r (.seq (.block (.seq (.seq (.dr [0,1,2,3,4,5,6,7,8,9,10,11,12,13,14,15,16,17,18,19,20,21,22,23,24,25,26,27,28,29,30,31] 32 (.fk 1 r (.h r (fun _=>.lo EU .z r .mk) (.fk 1 r ?_))))))))
   obtain ⟨N,g8,w,hd⟩:=hd
   obtain ⟨g9,o744,f3,d7,a5,a6⟩:=R3.2 _ _ w
   cases a6
   refine .h r (fun _=>.ixa BW FO r d7 r N (AH w N) r r .mk) (.h r (fun _=>.ld1 (j:=0) BF a5 r r r r r .mk) (.fk 1 r (.h r (fun _=>.lo EU .z r .mk) (.fk 2 r ?_))))
   obtain ⟨O,h0,x,hd⟩:=hd
   obtain ⟨h1,o753,f4,d8,a7,a8⟩:=R3.2 _ _ x
   cases a8
   refine .h r (fun _=>.ixa BW FO r d8 r O (AH x O) r r .mk) (.h r (fun _=>.ld1 (j:=0) BF a7 r r r r r .mk) (.fk 2 r ?_))
   refine AN hd (fun c hd=>?_) fun c hd=>?_
   · rw [c]
     exact .fk 19 r (.e2 32 (.no [101,3,1] r (.condKT r r (.sr (.kn 1 [2] r (.drop .z (.r1 results103 r a ⟨false,r,hd⟩)))))))
   rw [c]
   refine .fk 1 r (.h r (fun _=>.yes r (.lo EU .z r .mk)) (.fk 1 r ?_))
   obtain ⟨P,h2,y,hd⟩:=hd
   obtain ⟨h3,o763,f5,d9,a9,b0⟩:=R3.2 _ _ y
   cases b0
   refine .h r (fun _=>.yes r (.ixa BW FO r d9 r P (AH y P) r r .mk)) (.h r (fun _=>.yes r (.ld1 (j:=0) BF a9 r r r r r .mk)) (.fk 3 r ?_))
   refine AN hd (fun d hd=>?_) fun d hd=>?_
   · rw [d]
     exact .fk 11 r (.e2 32 (.no [101,3,1] r (.condKT r r (.sr (.kn 1 [2] r (.drop .z (.r1 results103 r a ⟨false,r,hd⟩)))))))
   rw [d]
   refine .fk 1 r (.h r (fun _=>.yes r (.lo EU .z r .mk)) (.fk 2 r ?_))
   obtain ⟨R,h4,A,hd⟩:=hd
   obtain ⟨h5,o773,f6,e0,b1,b2⟩:=R3.2 _ _ A
   cases b2
   refine .h r (fun _=>.yes r (.ixa BW FO r e0 r R (AH A R) r r .mk)) (.h r (fun _=>.yes r (.ld1 (j:=0) BF b1 r r r r r .mk)) (.fk 1 r (.h r (fun _=>.yes r (.lo EU .z r .mk)) (.h r (fun _=>.yes r (.ln BW r .mk)) (.fk 2 r (.e2 32 (.no [101,3,1] r (.condP r hd (fun b3 hd=>?_) fun b3 hd=>?_))))))))
   · exact .sr (.kn 1 [2] r (.drop .z (.r1 results103 r a ⟨false,r,hd⟩)))
   refine .sn [3,1] r (.sk 1 r (.lo EU .z r (.ks 1 r ?_)))
   obtain ⟨S,h6,B,hd⟩:=hd
   obtain ⟨h7,o792,f7,e1,b4,b5⟩:=R3.2 _ _ B
   cases b5
   refine .ixa BW FO r e1 r S (AH B S) r r (.ld1 (j:=0) BF b4 r r r r r (.kn 1 [4,3,1] r (.block (.lp hd [3,1] [0] r (fun j E l e=>j ((4,.int .i64 e) :: E) l) (ji rf [0] r) ?_))))
   refine fun e e9 hd=>jq r fun h8 f=>?_
   obtain ⟨b,R3,R6,R9⟩:=f.u4 a R3 R6 R9
   refine .seq (.sk 2 r (.lo EU .z r (.ks 2 r ?_)))
   obtain ⟨T,h9,C,hd⟩:=hd
   obtain ⟨i0,o957,f8,e3,b6,b7⟩:=R3.2 _ _ C
   cases b7
   refine .ixa BW FO r e3 r T (AH C T) r r (.ld1 (j:=0) BF b6 r r r r r (.kn 1 [114,4,3,1] r (.condP r hd (fun b8 hd=>?_) fun b8 hd=>?_)))
   · refine .sn [4,3,1] r (.seq (.block (.seq (.dr [0,1,2,3,4,5,6,7,8,9,10,11,12,13,14,15,16,17,18,19,20,21,22,23,24,25,26,27,28,29,30,31,32,33,34,35,36,37,38] 39 (.fk 1 r (.h r (fun _=>.lo EU .z r .mk) (.fk 1 r ?_)))))))
     obtain ⟨U,i1,D,hd⟩:=hd
     obtain ⟨i2,o967,f9,e4,b9,c0⟩:=R6.2 _ _ D
     cases c0
     refine .h r (fun _=>.ixa BW FO r e4 r U (AH D U) r r .mk) (.h r (fun _=>.ld1 (j:=0) BF b9 r r r r r .mk) (.fk 2 r ?_))
     refine AN hd (fun g hd=>?_) fun g hd=>?_
     · rw [g]
       exact .fk 32 r (.e2 39 (.no [155,4,3,1] r (.condKT r r (.sr (.kn 1 [2] r (.drop .z (.r1 results103 r b ⟨false,r,hd⟩)))))))
     rw [g]
     refine .fk 1 r (.h r (fun _=>.yes r (.lo EU .z r .mk)) (.fk 1 r ?_))
     obtain ⟨V,i3,F,hd⟩:=hd
     obtain ⟨i4,o977,g0,e5,c1,c3⟩:=R6.2 _ _ F
     cases c3
     refine .h r (fun _=>.yes r (.ixa BW FO r e5 r V (AH F V) r r .mk)) (.h r (fun _=>.yes r (.ld1 (j:=0) BF c1 r r r r r .mk)) (.fk 1 r (.h r (fun _=>.yes r (.lo BF .z r .mk)) (.fk 3 r ?_))))
     refine AN hd (fun i hd=>?_) fun i hd=>?_
     · rw [i]
       exact .fk 22 r (.e2 39 (.no [155,4,3,1] r (.condKT r r (.sr (.kn 1 [2] r (.drop .z (.r1 results103 r b ⟨false,r,hd⟩)))))))
     rw [i]
     refine .fk 2 r (.h r (fun _=>.yes r (.lo EU .z r .mk)) (.fk 1 r ?_))
     obtain ⟨W,i5,G,hd⟩:=hd
     obtain ⟨i6,o987,g1,e6,c4,c6⟩:=R3.2 _ _ G
     cases c6
     refine .h r (fun _=>.yes r (.ixa BW FO r e6 r W (AH G W) r r .mk)) (.h r (fun _=>.yes r (.ld1 (j:=0) BF c4 r r r r r .mk)) (.fk 2 r ?_))
     refine AN hd (fun k hd=>?_) fun k hd=>?_
     · rw [k]
       refine .fk 1 r (.h r (fun _=>.yes r (.lo EU .z r .mk)) (.fk 1 r ?_))
       obtain ⟨X,i7,H,hd⟩:=hd
       obtain ⟨i8,o997,g2,e7,Y,Z⟩:=R6.2 _ _ H
       cases Z
       refine .h r (fun _=>.yes r (.ixa BW FO r e7 r X (AH H X) r r .mk)) (.h r (fun _=>.yes r (.ld1 (j:=0) BF Y r r r r r .mk)) (.fk 1 r (.h r (fun _=>.yes r (.lo EU .z r .mk)) (.fk 2 r ?_))))
       obtain ⟨J,g3,m,hd⟩:=hd
       obtain ⟨g4,o1006,f2,c7,a1,a2⟩:=R6.2 _ _ m
       cases a2
       refine .h r (fun _=>.yes r (.ixa BW FO r c7 r J (AH m J) r r .mk)) (.h r (fun _=>.yes r (.ld1 (j:=0) BF a1 r r r r r .mk)) (.fk 3 r (.e2 39 (.no [155,4,3,1] r (.condP r hd (fun a3 hd=>?_) fun a3 hd=>?_)))))
       · exact .sr (.kn 1 [2] r (.drop .z (.r1 results103 r b ⟨false,r,hd⟩)))
       exact .sn [4,3,1] r (.region (.ks 3 r (.nil' (je (AJ (e+1)) hd f [0] r))))
     rw [k]
     exact .fk 14 r (.e2 39 (.no [155,4,3,1] r (.condKF r r (.sn [4,3,1] r (.region (.ks 3 r (.nil' (je (AJ (e+1)) hd f [0] r))))))))
   exact .en [3,1] r (.region (.ks 3 r (.nil' (je (AJ (v+1)) hd b [0] r))))
 exact .en [] r (.drop .z (.sr (.kn 1 [2] r (.r1 results103 r a ⟨true,r,hd⟩))))
theorem lD {a0:Rows} {Q:Rows→Prop} (R3:RepSl AE I p1 c2 a0.Start) (R6:RepSl AE I p4 c5 a0.Col) (R9:RepSl AE I p7 c8 a0.Val) (hd:TN a0 Q) :
  BZ prog 104 [.agg #[.int .i64 a0.Rows,.int .i64 a0.Cols,.slice p1 a0.Start.length c2,.slice p4 a0.Col.length c5,.slice p7 a0.Val.length c8]] I (zP Q):=by
 refine Fun.en func104 ntmps104 r fun w0 M=>?_
 refine .sr (.bx r fun q=>?_)
 refine .al DO r fun s=>?_
 refine .no [2,1] r (.seq (.sr (.lw BU AU .p1 r ?_)))
 have c:=gF (I:=I) R3 R6 R9 hd
 refine .cq call103 c r fun t hd=>?_
 refine .no [4,2,1] r (.condP r hd (fun d hd=>?_) fun d hd=>?_)
 · exact .sr (.lw BU AU .p1 r (.sa AU .z r (.no [2] r (.drop .p1 (.ret (BP results104 (.w BU AU r .z r .n) rf ⟨a0,_,_,_,_,_,_,r,R3,R6,R9,hd⟩))))))
 refine .sn [2] r (.drop .p1 (.sr ?_))
 have e:=XB (I:=I) hd
 refine .callO call128 r e r r fun u v x f g=>?_
 obtain ⟨o,y,A,B,C,D,E,rfl,rfl,hd⟩:=g
 refine .sa AU .p3 r (.no [2] r (.pub .z fun F h a=>?_))
 have i:=h.u1 f
 refine .pub .z fun G j b=>?_
 obtain ⟨k,a⟩:=j.u2 i a
 refine .pub .z fun H l p=>?_
 obtain ⟨m,a,b⟩:=l.u3 k a b
 exact .ret (BP results104 (.w BU AU r .z r .n) m ⟨o,_,_,_,_,_,_,r,a,b,p,hd⟩)
theorem oN {a0:Rows} {a1:Int} {Q:(List CN)→Prop} (R3:RepSl AE I p1 c2 a0.Start) (R6:RepSl AE I p4 c5 a0.Col) (R9:RepSl AE I p7 c8 a0.Val) (hd:WD a0 a1 Q) :
  BZ prog 66 [.agg #[.int .i64 a0.Rows,.int .i64 a0.Cols,.slice p1 a0.Start.length c2,.slice p4 a0.Col.length c5,.slice p7 a0.Val.length c8],.int .i64 a1] I (AcK Q):=by
 refine Fun.en func66 ntmps66 r fun w0 M=>?_
 refine .sr (.bx r fun c0=>?_)
 refine .ks 1 r (.ns [2,1] r (.lw BU AU .z r ?_))
 have S:=lD (I:=I) R3 R6 R9 hd
 refine .call call104 r S r r fun c1 c3 b T=>?_
 obtain ⟨c4,c6,c7,c9,d0,d1,d2,rfl,k,s,t,hd⟩:=T
 obtain ⟨R3,R6,R9⟩:=b.u3 R3 R6 R9
 refine .sa AU .z r (.nk [2,1] 1 r (.no [5,2,1] r (.seq (.sk 3 r ?_))))
 refine AN hd (fun e hd=>?_) fun e hd=>?_
 · rw [e]
   exact .kn 5 [16,5,2,1] r (.condKT r r (.sr (.kn 2 [4] r (.drop .z (.r1 results66 r b ⟨([]:List CN),_,_,r,(.nil _ _ _),hd⟩)))))
 rw [e]
 refine .ks 2 r (.yes r (.lo BF .z r (.kn 2 [16,5,2,1] r (.condP r hd (fun U hd=>?_) fun U hd=>?_))))
 · exact .sr (.kn 2 [4] r (.drop .z (.r1 results66 r b ⟨([]:List CN),_,_,r,(.nil _ _ _),hd⟩)))
 refine .sn [5,2,1] r (.seq (.sk 1 r (.lo EU .z r (.ks 1 r ?_))))
 obtain ⟨R,d3,u,hd⟩:=hd
 obtain ⟨d4,o66,b0,a4,V,W⟩:=k.2 _ _ u
 cases W
 refine .ixa BW FO r a4 r R (AH u R) r r (.ld1 (j:=0) BF V r r r r r (.kn 1 [6,5,2,1] r (.block (.own0 MA 112 (.lx hd [2,1] [1] r (fun j E l (a,f)=>fun c w=>∃ g i,j ⟨48,[],none⟩ (fun I_=>True) ((5,.slice g a.length i) :: (6,.int .i64 f) :: E) (OwnSl MA 112 g i a :: l) c w) (fun c w ho hs=>⟨_,_,jf rf trivial [0,0] r ho hs⟩) ?_)))))
 rintro ⟨a,f⟩ a3 hd c w ⟨g,i,b1,d,_,hok,hsym⟩
 obtain ⟨C,k,s,t⟩:=d.u4 b k s t
 refine Cod.at hok hsym (.seq (.sk 2 r (.lo EU .p1 r (.ks 2 r ?_))))
 obtain ⟨v,b2,m,hd⟩:=hd
 obtain ⟨b3,o200,a6,X,D,F⟩:=k.2 _ _ m
 cases F
 refine .ixa BW FO r X r v (AH m v) r r (.ld1 (j:=0) BF D r r r r r (.kn 1 [30,6,5,2,1] r (.condP r hd (fun G hd=>?_) fun G hd=>?_)))
 · refine .sn [6,5,2,1] r (.seq (.block (.ownF .z fun a5=>?_)))
   refine .dr [0,1,2,3,4,5,6,7,8,9,10,11,12,13] 14 (.fk 2 r (.h r (fun _=>.lo EU .p1 r .mk) (.fk 1 r ?_)))
   obtain ⟨x,y,p,hd⟩:=hd
   obtain ⟨b4,o211,a7,Y,H,J⟩:=s.2 _ _ p
   cases J
   refine .h r (fun _=>.ixa BW FO r Y r x (AH p x) r r .mk) (.h r (fun _=>.ld1 (j:=0) BF H r r r r r .mk) (.fk 1 r (.h r (fun _=>.lo mG .p1 r .mk) (.fk 1 r ?_))))
   obtain ⟨A,B,q,hd⟩:=hd
   obtain ⟨b5,o220,a8,Z,K,L⟩:=t.2 _ _ q
   cases L
   refine .h r (fun _=>.ixa XJ yX r Z r A (AH q A) r r .mk) (.h r (fun _=>.ld1 (j:=0) TP K r r r r r .mk) (.h r (fun _=>.build gS underlying112 AaX (.c r r r (.o r) (.c r r r (.o r) .n)) (by exact ⟨⟨_,_,r,r,r⟩,⟨⟨_,_,r,r,r⟩,trivial⟩⟩) r r .mk) (.ww r fun ex=>?_)))
   refine .buildSlice 1 QC sizeOf112 gS r r (.c r r r .n) r r fun b6=>?_
   refine .so 3 r r r (.ck 1 r r trivial) (.ww r fun ex=>?_)
   obtain ⟨N,hd⟩:=hd
   refine .append (ys:=[({ At:=y,Val:=B }:CN)]) 16 .p1 QC QC wF r r r r r r r r r (.box .z (.one r) r) N r r fun b7 b8=>?_
   exact .so 3 r r r trivial (.e2 14 (.kn 1 [5,6,2,1] r (.drop .p1 (.region (.ks 3 r (.nil' fun c w ho hs=>⟨((a++([({ At:=y,Val:=B }:CN)])),AJ (f+1)),hd,_,_,jf d trivial [0,0] r ho hs⟩))))))
 refine .en [5] r (.drop .p1 (.sr (.kn 2 [4] r (.pub .z fun b9 O a2=>?_))))
 obtain ⟨P,a9⟩:=O.u2 C d
 exact .r1 results66 r P ⟨a,_,_,r,a2,hd⟩
theorem oO {a0:Rows} {a1 a2:Int} {Q:(Int×Bool)→Prop} (R3:RepSl AE I p1 c2 a0.Start) (R6:RepSl AE I p4 c5 a0.Col) (R9:RepSl AE I p7 c8 a0.Val) (hd:WE a0 a1 a2 Q) :
  BZ prog 20 [.agg #[.int .i64 a0.Rows,.int .i64 a0.Cols,.slice p1 a0.Start.length c2,.slice p4 a0.Col.length c5,.slice p7 a0.Val.length c8],.int .i64 a1,.int .i64 a2] I (fun _=>o3_ Q):=by
 refine Fun.en func20 ntmps20 r fun w0 M=>?_
 refine .sr (.bx r fun H=>?_)
 refine .ks 2 r (.ns [3,2,1] r (.lw BU AU .z r (.ks 1 r ?_)))
 have u:=oN (I:=I) R3 R6 R9 hd
 refine .call call66 r u r r fun J K f v=>?_
 obtain ⟨L,N,O,rfl,a,hd⟩:=v
 obtain ⟨R3,R6,R9⟩:=f.u3 R3 R6 R9
 refine .kn 1 [8,2] r (.drop .z (.seq (.sr (.kn 1 [9,8,2] r (.block (.lp hd [8,2] [] r (fun j E l g=>j ((9,.int .i64 g) :: E) l) (ji rf [] r) ?_))))))
 refine fun g A hd=>jq r fun P b=>?_
 obtain ⟨c,a⟩:=b.u2 f a
 refine .seq (.sk 2 r (.ln QC r (.kn 1 [16,9,8,2] r (.condP r hd (fun k hd=>?_) fun k hd=>?_))))
 · refine .sn [9,8,2] r (.seq (.block (.sk 2 r ?_)))
   obtain ⟨h,D,d,hd⟩:=hd
   obtain ⟨F,o117,B,w,m,o⟩:=a.2 _ _ d
   cases o
   refine .ixa QC sizeOf112 r w r h (AH d h) r r (.ks 1 r (.ld1 (j:=0) BF m r r r r r (.kn 2 [25,9,8,2] r (.condP r hd (fun p hd=>?_) fun p hd=>?_))))
   · refine .sk 2 r ?_
     obtain ⟨i,x,e,hd⟩:=hd
     obtain ⟨G,o127,C,y,q,s⟩:=a.2 _ _ e
     cases s
     exact .ixa QC sizeOf112 r y r i (AH e i) r r (.ks 1 r (.ld1 (j:=1) TP q r r r r r (.kn 2 [7,6] r (.ret (BP results20 (.t r (.t r .n)) c ⟨(x.Val,true),r,hd⟩)))))
   exact .sn [9,8,2] r (.region (.ks 3 r (.nil' (je (AJ (g+1)) hd b [] r))))
 exact .en [] r (.sr (.kn 2 [7,6] r (.ret (BP results20 (.t r (.t r .n)) c ⟨(0,false),r,hd⟩))))
theorem fL {a0:CA} {a1:Int×Int} {a2:GI} {Q:Bool→Prop} (R3:RepSl GU I p1 c2 a0.Edges) (R6:RepSl V7 I p4 c5 a2.L) (hd:TO a0 a1 a2 Q) :
  BZ prog 3 [.agg #[.int .i64 a0.N,.slice p1 a0.Edges.length c2],.agg #[.int .u8 a1.1,.int .u8 a1.2],.agg #[.slice p4 a2.L.length c5,.int .u8 a2.Windows]] I (fun _=>fM Q):=by
 refine Fun.en func3 ntmps3 r fun w0 M=>?_
 refine .sr (.bx r fun l6=>?_)
 refine .bx r fun l7=>?_
 refine .bx r fun l8=>?_
 refine .ks 1 r (.ns [5,4,3] r (.lw XK NP .p2 r ?_))
 have f3:=gB (I:=I) R3 hd
 refine .call call14 r f3 r r fun l9 h1 b3 f4=>?_
 obtain ⟨m0,m1,m2,rfl,b4,hd⟩:=f4
 obtain ⟨R3,R6⟩:=b3.u2 R3 R6
 have f5:=gA (I:=h1) b4 hd
 refine .call call13 r f5 r r fun m3 h2 f6 f7=>?_
 obtain ⟨m4,m5,m6,rfl,d,hd⟩:=f7
 obtain ⟨f8,R3,R6,b4⟩:=f6.u4 b3 R3 R6 b4
 refine .sa NP .p2 r (.ns [5,4,3] r (.lw XK NP .p2 r ?_))
 have f9:=gE (I:=h2) d hd
 refine .call call15 r f9 r r fun m7 h3 g0 g1=>?_
 obtain ⟨f2,m8,m9,n0,n1,n2,n3,rfl,q,s,t,hd⟩:=g1
 obtain ⟨g2,R6,d⟩:=g0.u3 f8 R6 d
 refine .ks 3 r (.al DO r fun n4=>?_)
 refine .sa AU .z r (.kn 1 [7,5,4,3] r (.seq (.dr [0,1,2,3,4,5,7,8,9,10,11,12,13,14,15,16,18,6,17,999] 19 (.h r (fun _=>.lw BU AU .z r .mk) (.h r (fun _=>.lw BU AU .z r .mk) (.fk 1 r (.h r (fun _=>.lo BF .p3 r .mk) (.fk 1 r (.h r (fun _=>.lo BF .p3 r .mk) ?_)))))))))
 refine .h r (fun _=>.ixArr (i:=0) zT sz5 r r (by decide) (o:=0) r r r .mk) (.h r (fun _=>.lo ia5 .p2 r .mk) (.h r (fun _=>.conv un5 ZL r r r .mk) (.h r (fun _=>.rem r r (by decide) r r .mk) (.fk 1 r (.h r (fun _=>.ixArr (i:=1) zT sz5 r r (by decide) (o:=1) r r r .mk) (.h r (fun _=>.lo ia5 .p2 r .mk) (.h r (fun _=>.conv un5 ZL r r r .mk) (.h r (fun _=>.rem r r (by decide) r r .mk) (.fk 1 r ?_)))))))))
 refine .a (fun b=>.pointer (some ⟨b,0,none⟩)) (fun b=>pto b (.cells #[.int .i64 0,.int .i64 0,.int .i64 0,.slice none 0 0,.slice none 0 0,.slice none 0 0,.int .i64 0,.int .i64 0,.slice none 0 0,.slice none 0 0,.slice none 0 0,.int .i64 0,.int .i64 0,.slice none 0 0,.slice none 0 0,.slice none 0 0,.int .i64 0,.int .i64 0,.int .i64 0] 40 (0,0))) r r r r (fun _ L hL ex=>.al AbD r fun b=>.mk (val:=fun b=>.pointer (some ⟨b,0,none⟩)) (atom:=fun b=>pto b (.cells #[.int .i64 0,.int .i64 0,.int .i64 0,.slice none 0 0,.slice none 0 0,.slice none 0 0,.int .i64 0,.int .i64 0,.slice none 0 0,.slice none 0 0,.slice none 0 0,.int .i64 0,.int .i64 0,.slice none 0 0,.slice none 0 0,.slice none 0 0,.int .i64 0,.int .i64 0,.int .i64 0] 40 (0,0))) hL b) (.ww r fun ex=>?_)
 have d4:=qW (I:=h3) hd
 refine .call call16 r d4 r r fun j3 g3 d5 d6=>?_
 obtain ⟨g4,j4,j5,j6,j7,j8,j9,rfl,w,x,y,hd⟩:=d6
 obtain ⟨d7,R6,d,q,s,t⟩:=d5.u6 g2 R6 d q s t
 refine .so 4 r r r (.ck 1 r r (.ch r (fun _=>.rem r r (by decide) r r .mk) (.ch r (fun _=>.conv un5 ZL r r r .mk) (.ch r (fun _=>.lo ia5 .p2 r .mk) (.ch r (fun _=>.ixArr (i:=1) zT sz5 r r (by decide) (o:=1) r r r .mk) (.ck 1 r r (.ch r (fun _=>.rem r r (by decide) r r .mk) (.ch r (fun _=>.conv un5 ZL r r r .mk) (.ch r (fun _=>.lo ia5 .p2 r .mk) (.ch r (fun _=>.ixArr (i:=0) zT sz5 r r (by decide) (o:=0) r r r .mk) (.ch r (fun _=>.lw BU AU .z r .mk) (.ch r (fun _=>.lw BU AU .z r .mk) trivial)))))))))))) (.h r (fun _=>.build AbD AdB AcZ (.c r r r (.o r) (.c r r r (.o r) (.c r r r (.o r) (.c r r r (.o r) (.c r r r (.o r) (.c r r r (.o r) (.c r r r (.o r) .n))))))) (by exact ⟨⟨_,_,r,r,r⟩,⟨⟨_,_,r,r,r⟩,⟨⟨_,_,r,r,r⟩,⟨⟨_,_,r,r,r⟩,⟨⟨_,_,r,r,r⟩,⟨⟨_,_,r,r,r⟩,⟨⟨_,_,r,r,r⟩,trivial⟩⟩⟩⟩⟩⟩⟩) r r .mk) (.b r fun k0=>DrawD.nop (.e2 19 (.sa jH .p4 r (.no [9,5,3] r (.drop .z (.drop .p1 (.seq (.dr [0,1,2,3,4,5,6,13,7,8,9,10,11,12,999,14,15] 16 ?_)))))))))
 refine .h r (fun _=>.lw pI jH .p2 r .mk) (.h r (fun _=>.lw isAgg28 sizeOf28 .z r .mk) (.fk 1 r (.h r (fun _=>.lo BF .p2 r .mk) (.fk 1 r (.h r (fun _=>.lo BF .p2 r .mk) (.fk 1 r (.a (fun b=>.pointer (some ⟨b,0,none⟩)) (fun b=>pto b (.cells #[.int .i64 0,.int .i64 0,.slice none 0 0,.slice none 0 0,.slice none 0 0] 33 (0,0))) r r r r (fun _ L hL ex=>.al DO r fun b=>.mk (val:=fun b=>.pointer (some ⟨b,0,none⟩)) (atom:=fun b=>pto b (.cells #[.int .i64 0,.int .i64 0,.slice none 0 0,.slice none 0 0,.slice none 0 0] 33 (0,0))) hL b) (.ww r fun ex=>?_))))))))
 have d8:=W3 (I:=g3) R6 hd
 refine .call call18 r d8 r r fun k1 g5 a6 d9=>?_
 obtain ⟨k2,k3,k4,rfl,a5,hd⟩:=d9
 obtain ⟨e0,R6,d,q,s,t⟩:=a6.u6 d7 R6 d q s t
 obtain ⟨w,x,y⟩:=a6.u3 w x y
 refine .so 3 r r r (.ch r (fun _=>.lw pI jH .p2 r .mk) trivial) (.ww r fun ex=>?_)
 have e1:=oK (I:=g5) (a0:=({ Ring:=5,A:=f2.1,B:=f2.1,Mask:=g4,R:=AJ (((AJ (a1.1)).tmod 4)+1),C:=AJ (((AJ (a1.2)).tmod 4)+1),Room:=2 }:CM)) q s t q s t w x y a5 hd
 refine .call call17 r e1 r r fun k5 g6 a7 e3=>?_
 obtain ⟨k6,k7,k8,k9,l0,l1,l2,rfl,e,f,g,hd⟩:=e3
 obtain ⟨u,R6,d,q,s,t⟩:=a7.u6 e0 R6 d q s t
 obtain ⟨w,x,y,a5⟩:=a7.u4 w x y a5
 refine .so 3 r r r trivial (.fk 4 r (.b r fun l3=>DrawD.nop (.ww r fun ex=>?_)))
 refine .sa AU .p3 r (.sn 4 r r r (.ck 2 r r trivial) (.fk 1 r (.e2 16 (.kn 1 [12,11,10,3] r (.drop .z (.drop .p1 (.seq (.sk 3 r ?_))))))))
 refine AN hd (fun H hd=>?_) fun H hd=>?_
 · rw [H]
   exact .kn 7 [68,10,3] r (.condKT r r (.sr (.kn 1 [6] r (.drop .z (.drop .z (.r1 results3 r u ⟨false,r,hd⟩))))))
 rw [H]
 refine .ks 4 r ?_
 refine AN hd (fun J hd=>?_) fun J hd=>?_
 · rw [J]
   exact .kn 3 [68,10,3] r (.condKT r r (.sr (.kn 1 [6] r (.drop .z (.drop .z (.r1 results3 r u ⟨false,r,hd⟩))))))
 rw [J]
 refine .yes r (.build wI AdC Ad1 .n (by exact trivial) r r ?_)
 have e4:=UD (I:=g6) hd
 refine .yes r (.callP call19 r e4 r r fun l4 e5=>?_)
 obtain ⟨l5,rfl,hd⟩:=e5
 refine .kn 1 [68,10,3] r (.condP r hd (fun e6 hd=>?_) fun e6 hd=>?_)
 · exact .sr (.kn 1 [6] r (.drop .z (.drop .z (.r1 results3 r u ⟨false,r,hd⟩))))
 refine .sn [10,3] r (.seq (.sr (.kn 1 [13,10,3] r (.block (.lp hd [10,3] [0,0] r (fun j E l K=>j ((13,.int .i64 K) :: E) l) (ji rf [0,0] r) ?_)))))
 refine fun K g7 hd=>jq r fun i1 P=>?_
 obtain ⟨S,d,e,f,g⟩:=P.u5 u d e f g
 refine .seq (.sk 2 r (.lo BF .z r (.kn 1 [72,13,10,3] r (.condP r hd (fun b5 hd=>?_) fun b5 hd=>?_))))
 · refine .sn [13,10,3] r (.seq (.block (.sr (.kn 1 [14,13,10,3] r (.block (.lp hd [13,10,3] [0,0] r (fun j E l O=>j ((14,.int .i64 O) :: E) l) (ji rf [0,0] r) ?_))))))
   refine fun O g8 hd=>jq r fun i2 T=>?_
   obtain ⟨b6,U,d,e,f,g⟩:=T.u6 S P d e f g
   refine .seq (.sk 2 r (.lo BF .z r (.kn 1 [78,14,13,10,3] r (.condP r hd (fun b7 hd=>?_) fun b7 hd=>?_))))
   · refine .sn [14,13,10,3] r (.seq (.block (.sr (.kn 1 [15,14,13,10,3] r (.seq (.sr (.kn 1 [16,15,14,13,10,3] r (.block (.lp hd [14,13,10,3] [0,0] r (fun j E l (a8,v)=>j ((15,.int .i64 a8) :: (16,.int .i64 v) :: E) l) (ji rf [0,0] r) ?_)))))))))
     rintro ⟨a8,v⟩ g9 hd
     refine jq r fun e7 D=>?_
     obtain ⟨V,b8,W,d,e,f⟩:=D.u6 b6 U T d e f
     have g:=D.u1 g
     refine .seq (.sk 2 r (.lo KO .z r (.ln EL r (.kn 1 [85,16,15,14,13,10,3] r (.condP r hd (fun b9 hd=>?_) fun b9 hd=>?_)))))
     · refine .sn [16,15,14,13,10,3] r (.seq (.block (.sr (.kn 1 [17,16,15,14,13,10,3] r (.block (.lp hd [16,14,13,10,3] [0,0] r (fun j E l (k,p)=>j ((15,.int .i64 k) :: (17,.int .i64 p) :: E) l) (ji rf [0,0] r) ?_))))))
       rintro ⟨k,p⟩ h0 hd
       refine jq r fun i3 m=>?_
       obtain ⟨h4,h5,h6,X,d,e⟩:=m.u6 V b8 W D d e
       obtain ⟨f,g⟩:=m.u2 f g
       refine .seq (.sk 2 r (.lo KO .z r (.ln EL r (.ks 2 r ?_))))
       refine AN hd (fun F hd=>?_) fun F hd=>?_
       · rw [F]
         refine .ks 1 r (.yes r (.lo KO .z r (.ks 1 r ?_)))
         obtain ⟨a9,i4,Y,hd⟩:=hd
         obtain ⟨i5,o9535,h7,e8,c0,c1⟩:=d.2 _ _ Y
         cases c1
         refine .yes r (.ixa EL FX r e8 r a9 (AH Y a9) r r (.ks 1 r (.yes r (.ld1 (j:=0) BF c0 r r r r r (.kn 3 [102,17,16,15,14,13,10,3] r (.condP r hd (fun c3 hd=>?_) fun c3 hd=>?_))))))
         · refine .sn [17,16,15,14,13,10,3] r (.seq (.block (.seq (.dr [0,1,2,3,4,5,6,7,8,9,10,11,12,13,14,15,16,17,18,19,20,21,22] 23 (.fk 1 r (.h r (fun _=>.lo KO .z r .mk) (.fk 1 r ?_)))))))
           obtain ⟨b0,i6,Z,hd⟩:=hd
           obtain ⟨i7,o9545,h8,e9,c4,c6⟩:=d.2 _ _ Z
           cases c6
           refine .h r (fun _=>.ixa EL FX r e9 r b0 (AH Z b0) r r .mk) (.fk 1 r (.h r (fun _=>.ld1 (j:=0) BF c4 r r r r r .mk) (.fk 1 r (.h r (fun _=>.lo KO .z r .mk) (.fk 1 r ?_)))))
           obtain ⟨b1,i8,a3,hd⟩:=hd
           obtain ⟨i9,o9554,h9,f0,c7,c8⟩:=d.2 _ _ a3
           cases c8
           refine .h r (fun _=>.ixa EL FX r f0 r b1 (AH a3 b1) r r .mk) (.fk 1 r (.h r (fun _=>.ld1 (j:=1) BF c7 r r r r r .mk) (.fk 2 r ?_)))
           refine AN hd (fun G hd=>?_) fun G hd=>?_
           · rw [G]
             refine .fk 1 r (.h r (fun _=>.yes r (.lo KO .z r .mk)) (.fk 1 r ?_))
             obtain ⟨b2,j0,a4,hd⟩:=hd
             obtain ⟨j1,o9564,i0,f1,c9,d0⟩:=d.2 _ _ a4
             cases d0
             refine .h r (fun _=>.yes r (.ixa EL FX r f1 r b2 (AH a4 b2) r r .mk)) (.fk 1 r (.h r (fun _=>.yes r (.ld1 (j:=1) BF c9 r r r r r .mk)) (.fk 3 r (.e2 23 (.no [127,17,16,15,14,13,10,3] r (.condP r hd (fun d1 hd=>?_) fun d1 hd=>?_))))))
             · exact .region (.kn 3 [15,17,16,14,13,10,3] r (.region (.ks 3 r (.nil' (je (AJ (k+1),AJ (p+1)) hd m [0,0] r)))))
             exact .sn [17,16,15,14,13,10,3] r (.region (.ks 3 r (.nil' (je (k,AJ (p+1)) hd m [0,0] r))))
           rw [G]
           exact .fk 9 r (.e2 23 (.no [127,17,16,15,14,13,10,3] r (.condKF r r (.sn [17,16,15,14,13,10,3] r (.region (.ks 3 r (.nil' (je (k,AJ (p+1)) hd m [0,0] r))))))))
         exact .en [16,15,14,13,10,3] r (.region (.ks 3 r (.nil' (je (k,AJ (v+1)) hd X [0,0] r))))
       rw [F]
       exact .kn 9 [102,17,16,15,14,13,10,3] r (.condKF r r (.en [16,15,14,13,10,3] r (.region (.ks 3 r (.nil' (je (k,AJ (v+1)) hd X [0,0] r))))))
     refine .en [15,14,13,10,3] r (.sr (.lw BU AU .p1 r (.ks 2 r ?_)))
     have d2:=oO (I:=e7) e f g hd
     refine .cq call20 d2 r fun j2 hd=>?_
     refine .ks 5 r (.nk [18,15,14,13,10,3] 3 r (.no [139,14,13,10,3] r (.condP r hd (fun d3 hd=>?_) fun d3 hd=>?_)))
     · exact .sr (.kn 1 [6] r (.drop .z (.drop .z (.r1 results3 r V ⟨false,r,hd⟩))))
     exact .sn [14,13,10,3] r (.region (.ks 3 r (.nil' (je (AJ (O+1)) hd W [0,0] r))))
   exact .en [13,10,3] r (.region (.ks 3 r (.nil' (je (AJ (K+1)) hd U [0,0] r))))
 exact .en [] r (.drop .z (.drop .z (.sr (.kn 1 [6] r (.r1 results3 r S ⟨true,r,hd⟩)))))
end Go.Proofs.YtbohadngdkjljaaGreat
