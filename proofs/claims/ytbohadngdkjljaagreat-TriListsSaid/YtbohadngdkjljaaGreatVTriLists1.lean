/- The walks (printed by a program of ours). -/
import Derived.Test.YtbohadngdkjljaaGreatV3
namespace Go.Proofs.YtbohadngdkjljaaGreat
open Go Go.Fw
set_option linter.unusedVariables false
set_option linter.unusedSimpArgs false
set_option maxRecDepth 8000
set_option maxHeartbeats 1000000
open Tryz
variable {I:IH}
variable {b2 b3 b4 b5 b6 b7 b8 b9 c2 c3 c4 c5 c6 c7 c8 c9 lr b10 b11 b12 b13 b18 b19 b20 b21 b35 b36 b37 b38 b39 b40 b41 b42 b43 b54 b59 c10 c11 c12 c13 c14 c15 c16 c17 c18 c19 c20 c21 c22 c23 c24 c25 c26 c27 c28 c29 c30 c31 c32 c33 c34 c35 c36 c37 c38 c39 c41 c42 c43 c44 c45 c46 c47 c48 c49 c50 c51 c52 c54 c55 c57 c60 c63 c66 c69 c72 c75 c78:Nat}
variable {p1 p2 p3 p4 p5 p6 p7 p8 p9 p10 p11 p12 p13 p14 p15 p16 p17 p18 p19 p20 p21 p22 p23 p24 p25 p26 p27 p28 p29 p30 p31 p32 p33 p34 p35 p36 p37 p38 p40 p41 p42 p43 p44 p45 p46 p47 p48 p49 p50 p51 p53 p54 p56 p59 p62 p65 p68 p71 p74 p77:Option Addr}
variable {Rr:Nat→HA}
theorem Aa5 {a0:Int} {Q:Bool→Prop} (hd:cT a0 Q) :
  BR prog 102 [.int .i64 a0] I (fun _=>dA Q):=by
 refine Fun.en func102 ntmps102 r fun w0 M=>?_
 refine .sk 1 r (.nk [0] 3 r ?_)
 refine AQ hd (fun a hd=>?_) fun a hd=>?_
 · rw [a]
   exact .kn 4 [2] r (.r0 results102 r ⟨(decide (a0≤5)),r,hd⟩)
 rw [a]
 exact .kn 4 [2] r (.r0 results102 r ⟨false,r,hd⟩)
theorem xP {a0 a1:AN} {Q:AN→Prop} (hd:ZF a0 a1 Q) :
  BR prog 170 [.agg (EZ a0).toArray,.agg (EZ a1).toArray] I (fun _=>o1_ Q):=by
 refine Fun.en func170 ntmps170 r fun w0 M=>?_
 refine .sr (.bx r fun d=>?_)
 refine .bx r fun e=>?_
 refine .al DK r fun b=>?_
 refine .nk [4,3,2] 1 r (.lo DZ .p2 r (.ks 1 r (.lo DZ .p1 r (.ks 2 r (.nk [5,4,3,2] 1 r (.lo UT .p2 r (.ks 1 r (.lo UT .p1 r (.kn 2 [6,5,4,2] r ?_)))))))))
 refine .drop .p1 (.seq (.sk 2 r (.lo DZ .p1 r (.kn 1 [20,6,5,4] r (.drop .p1 (.condP r hd (fun a hd=>?_) fun a hd=>?_))))))
 · exact .region (.ks 3 r (.nk [6,5,4] 2 r (.build DK OB NZ (.c r r r (.o r) (.c r r r (.o r) .n)) (by exact ⟨⟨_,_,r,r,r⟩,⟨⟨_,_,r,r,r⟩,trivial⟩⟩) r r (.sa AU .z r (.no [4] r (.ret (BS results170 (.w BP AU r .z r .n) rf ⟨({ Hi:=AJ ((AJ (a0.Hi+a1.Hi))+1),Lo:=IntKind.wrap .u64 (a0.Lo+a1.Lo) }:AN),r,hd⟩)))))))
 exact .sn [6,5,4] r (.sk 2 r (.build DK OB NZ (.c r r r (.o r) (.c r r r (.o r) .n)) (by exact ⟨⟨_,_,r,r,r⟩,⟨⟨_,_,r,r,r⟩,trivial⟩⟩) r r (.sa AU .z r (.no [4] r (.ret (BS results170 (.w BP AU r .z r .n) rf ⟨({ Hi:=AJ (a0.Hi+a1.Hi),Lo:=IntKind.wrap .u64 (a0.Lo+a1.Lo) }:AN),r,hd⟩))))))
theorem jB {a0 a1:AN} {Q:Int→Prop} (hd:PV a0 a1 Q) :
  BR prog 172 [.agg (EZ a0).toArray,.agg (EZ a1).toArray] I (fun _=>kO Q):=by
 refine Fun.en func172 ntmps172 r fun w0 M=>?_
 refine .sr (.bx r fun h=>?_)
 refine .bx r fun i=>?_
 refine .kn 1 [3,2] r (.seq (.jn hd [3,2] [1,0] r (fun j E l _=>j E l) (fun f hd=>?_) ?_))
 · skip
   refine .sk 1 r (.lo UT .p1 r (.ks 1 r (.lo UT .z r (.ks 2 r ?_))))
   refine AQ hd (fun a hd=>?_) fun a hd=>?_
   · rw [a]
     exact .kn 13 [23,3,2] r (.condKT r r (.sr (.kn 1 [4] r (.drop .z (.drop .z (.r0 results172 r ⟨(-1),r,hd⟩))))))
   rw [a]
   refine .ks 1 r (.yes r (.lo UT .p1 r (.ks 1 r (.yes r (.lo UT .z r (.ks 2 r ?_))))))
   refine AQ hd (fun b hd=>?_) fun b hd=>?_
   · rw [b]
     refine .ks 1 r (.yes r (.lo DZ .p1 r (.ks 1 r (.yes r (.lo DZ .z r (.kn 3 [23,3,2] r (.condP r hd (fun d hd=>?_) fun d hd=>?_)))))))
     · exact .sr (.kn 1 [4] r (.drop .z (.drop .z (.r0 results172 r ⟨(-1),r,hd⟩))))
     exact .skip' (je () hd rf [1,0] r)
   rw [b]
   exact .kn 7 [23,3,2] r (.condKF r r (.skip' (je () hd rf [1,0] r)))
 refine fun _ hd=>jq r fun g c=>?_
 refine .seq (.sr (.lw BP AU .z r (.lw BP AU .p1 r (.eqV r r (oQ a0 a1) (oR _ _ _ _ _) r r r (.no [26] r (.drop .z (.drop .z (.condP r hd (fun e hd=>?_) fun e hd=>?_))))))))
 · exact .sr (.kn 1 [4] r (.r1 results172 r c ⟨0,r,hd⟩))
 exact .sn [] r (.sr (.kn 1 [4] r (.r1 results172 r c ⟨1,r,hd⟩)))
theorem bC {a0:Bool} {Q:AN→Prop} (hd:QJ a0 Q) :
  BR prog 173 [.bool a0] I (fun _=>o1_ Q):=by
 refine Fun.en func173 ntmps173 r fun w0 M=>?_
 refine .sr (.al DK r fun b=>?_)
 refine .no [2,0] r (.seq (.sr (.kn 1 [3,2] r (.condP r hd (fun a hd=>?_) fun a hd=>?_))))
 · exact .sr (.build DK OB NZ (.c r r r (.o r) .n) (by exact ⟨⟨_,_,r,r,r⟩,trivial⟩) r r (.sa AU .z r (.no [2] r (.ret (BS results173 (.w BP AU r .z r .n) rf ⟨({ Hi:=0,Lo:=1 }:AN),r,hd⟩)))))
 exact .sn [2] r (.sr (.build DK OB NZ .n (by exact trivial) r r (.sa AU .z r (.no [2] r (.ret (BS results173 (.w BP AU r .z r .n) rf ⟨({ Hi:=0,Lo:=0 }:AN),r,hd⟩))))))
theorem xQ {a0:Int} {a1 a2:AN} {Q:AN→Prop} (hd:ZG a0 a1 a2 Q) :
  BR prog 107 [.int .i64 a0,.agg (EZ a1).toArray,.agg (EZ a2).toArray] I (fun _=>o1_ Q):=by
 refine Fun.en func107 ntmps107 r fun w0 M=>?_
 refine .sr (.bx r fun A=>?_)
 refine .bx r fun B=>?_
 refine .al DK r fun v=>?_
 refine .nk [6,5,4,0] 1 r (.no [7,6,5,4] r (.block (.seq (.jn hd [7,6,5,4] [2,1,0] r (fun j E l d=>j ((9,.bool d) :: E) l) (fun x hd=>?_) ?_))))
 · skip
   refine .sr (.kn 2 [9,7,6,5,4] r (.condP r hd (fun e hd=>?_) fun e hd=>?_))
   · exact .skip' (je (a0==1) hd rf [2,1,0] r)
   refine .sr (.kn 2 [9,7,6,5,4] r (.condP r hd (fun f hd=>?_) fun f hd=>?_))
   · exact .skip' (je (a0==3) hd rf [2,1,0] r)
   exact .region (.ks 2 r (.nil' (je (a0==4) hd rf [2,1,0] r)))
 refine fun d hd=>jq r fun c a=>?_
 refine .condP r hd (fun g hd=>?_) fun g hd=>?_
 · refine .seq (.sr (.lw BP AU .p1 r (.lw BP AU .z r ?_)))
   have h:=jB (I:=c) hd
   refine .cq call172 h r fun y hd=>?_
   refine .kn 1 [16,6,5,4] r (.condP r hd (fun i hd=>?_) fun i hd=>?_)
   · exact .sr (.lw BP AU .p1 r (.sa AU .p2 r (.no [6] r (.drop .z (.drop .z (.ret (BS results107 (.w BP AU r .z r .n) a ⟨a2,r,hd⟩)))))))
   exact .sn [6,4] r (.drop .p1 (.sr (.lw BP AU .z r (.sa AU .p1 r (.no [6] r (.drop .z (.ret (BS results107 (.w BP AU r .z r .n) a ⟨a1,r,hd⟩))))))))
 refine .sr (.kn 2 [19,7,6,5,4] r (.condP r hd (fun k hd=>?_) fun k hd=>?_))
 · refine .sr (.lw BP AU .z r (.build DK OB NZ .n (by exact trivial) r r (.neV r r (oQ a1 ({ Hi:=0,Lo:=0 }:AN)) (oR _ _ _ _ _) r r r (.ks 1 r ?_))))
   refine AQ hd (fun b hd=>?_) fun b hd=>?_
   · rw [b]
     refine .ks 4 r ?_
     have m:=bC (I:=c) hd
     refine .cq call173 m r fun s hd=>?_
     exact .sa AU .p2 r (.no [6] r (.drop .z (.drop .z (.ret (BS results107 (.w BP AU r .z r .n) a ⟨s,r,hd⟩)))))
   rw [b]
   refine .yes r (.lw BP AU .p1 r (.yes r (.build DK OB NZ .n (by exact trivial) r r (.yes r (.neV r r (oQ a2 ({ Hi:=0,Lo:=0 }:AN)) (oR _ _ _ _ _) r r r (.ks 1 r ?_))))))
   have o:=bC (I:=c) hd
   refine .cq call173 o r fun t hd=>?_
   exact .sa AU .p2 r (.no [6] r (.drop .z (.drop .z (.ret (BS results107 (.w BP AU r .z r .n) a ⟨t,r,hd⟩)))))
 refine .sr (.kn 2 [30,6,5,4] r (.condP r hd (fun p hd=>?_) fun p hd=>?_))
 · refine .sr (.lw BP AU .z r (.lw BP AU .p1 r ?_))
   have q:=xP (I:=c) hd
   refine .cq call170 q r fun u hd=>?_
   exact .sa AU .p2 r (.no [6] r (.drop .z (.drop .z (.ret (BS results107 (.w BP AU r .z r .n) a ⟨u,r,hd⟩)))))
 exact .sr (.build DK OB NZ .n (by exact trivial) r r (.sa AU .p2 r (.no [6] r (.drop .z (.drop .z (.ret (BS results107 (.w BP AU r .z r .n) a ⟨({ Hi:=0,Lo:=0 }:AN),r,hd⟩)))))))
theorem Aa6 {a0:Int} {Q:AN→Prop} (hd:cU a0 Q) :
  BR prog 171 [.int .i64 a0] I (fun _=>o1_ Q):=by
 refine Fun.en func171 ntmps171 r fun w0 M=>?_
 refine .sr (.al DK r fun b=>?_)
 refine .no [2,0] r (.seq (.sr (.kn 2 [4,2,0] r (.condP r hd (fun a hd=>?_) fun a hd=>?_))))
 · exact .sk 1 r (.conv qP OA r r r (.build DK OB NZ (.c r r r (.o r) (.c r r r (.o r) .n)) (by exact ⟨⟨_,_,r,r,r⟩,⟨⟨_,_,r,r,r⟩,trivial⟩⟩) r r (.sa AU .z r (.no [2] r (.ret (BS results171 (.w BP AU r .z r .n) rf ⟨({ Hi:=(-1),Lo:=IntKind.wrap .u64 (a0) }:AN),r,hd⟩))))))
 exact .sn [2,0] r (.sk 1 r (.conv qP OA r r r (.build DK OB NZ (.c r r r (.o r) .n) (by exact ⟨⟨_,_,r,r,r⟩,trivial⟩) r r (.sa AU .z r (.no [2] r (.ret (BS results171 (.w BP AU r .z r .n) rf ⟨({ Hi:=0,Lo:=IntKind.wrap .u64 (a0) }:AN),r,hd⟩)))))))
theorem nA {a0:AN} {Q:(Int×Bool)→Prop} (hd:RR a0 Q) :
  BR prog 180 [.agg (EZ a0).toArray] I (fun _=>o3_ Q):=by
 refine Fun.en func180 ntmps180 r fun w0 M=>?_
 refine .sr (.bx r fun g=>?_)
 refine .ks 2 r (.nk [1] 1 r (.lo DZ .z r (.conv OA qP r r r (.kn 1 [4,1] r (.seq (.sk 1 r (.lo UT .z r (.ks 2 r ?_))))))))
 refine AQ hd (fun a hd=>?_) fun a hd=>?_
 · rw [a]
   refine .ks 4 r ?_
   refine AQ hd (fun b hd=>?_) fun b hd=>?_
   · rw [b]
     exact .kn 8 [23,4] r (.drop .z (.condKT r r (.sr (.kn 3 [3,2] r (.ret (BS results180 (.t r (.t r .n)) rf ⟨(AJ (a0.Lo),true),r,hd⟩))))))
   rw [b]
   refine .ks 1 r (.yes r (.lo UT .z r (.ks 2 r ?_)))
   refine AQ hd (fun c hd=>?_) fun c hd=>?_
   · rw [c]
     refine .kn 4 [23,4] r (.drop .z (.condP r hd (fun f hd=>?_) fun f hd=>?_))
     · exact .sr (.kn 3 [3,2] r (.ret (BS results180 (.t r (.t r .n)) rf ⟨(AJ (a0.Lo),true),r,hd⟩)))
     exact .sn [] r (.sr (.kn 2 [3,2] r (.ret (BS results180 (.t r (.t r .n)) rf ⟨(0,false),r,hd⟩))))
   rw [c]
   exact .kn 4 [23,4] r (.drop .z (.condKF r r (.sn [] r (.sr (.kn 2 [3,2] r (.ret (BS results180 (.t r (.t r .n)) rf ⟨(0,false),r,hd⟩)))))))
 rw [a]
 refine .ks 5 r (.yes r (.lo UT .z r (.ks 2 r ?_)))
 refine AQ hd (fun d hd=>?_) fun d hd=>?_
 · rw [d]
   refine .kn 4 [23,4] r (.drop .z (.condP r hd (fun e hd=>?_) fun e hd=>?_))
   · exact .sr (.kn 3 [3,2] r (.ret (BS results180 (.t r (.t r .n)) rf ⟨(AJ (a0.Lo),true),r,hd⟩)))
   exact .sn [] r (.sr (.kn 2 [3,2] r (.ret (BS results180 (.t r (.t r .n)) rf ⟨(0,false),r,hd⟩))))
 rw [d]
 exact .kn 4 [23,4] r (.drop .z (.condKF r r (.sn [] r (.sr (.kn 2 [3,2] r (.ret (BS results180 (.t r (.t r .n)) rf ⟨(0,false),r,hd⟩)))))))
theorem bD {a0 a1:AL} {Q:Bool→Prop} (hd:QK a0 a1 Q) :
  BR prog 200 [.agg (IR a0).toArray,.agg (IR a1).toArray] I (fun _=>dA Q):=by
 refine Fun.en func200 ntmps200 r fun w0 M=>?_
 refine .sr (.bx r fun c=>?_)
 refine .bx r fun d=>?_
 refine .ks 1 r (.nk [3,2] 1 r (.lo BF .p1 r (.ks 1 r (.lo BF .z r (.ks 2 r ?_)))))
 refine AQ hd (fun b hd=>?_) fun b hd=>?_
 · rw [b]
   exact .kn 14 [4] r (.drop .z (.drop .z (.r0 results200 r ⟨true,r,hd⟩)))
 rw [b]
 refine .ks 1 r (.yes r (.lo BF .p1 r (.ks 1 r (.yes r (.lo BF .z r (.ks 2 r ?_))))))
 refine AQ hd (fun a hd=>?_) fun a hd=>?_
 · rw [a]
   exact .ks 1 r (.yes r (.lo BF .p1 r (.ks 1 r (.yes r (.lo BF .z r (.kn 4 [4] r (.drop .z (.drop .z (.r0 results200 r ⟨(decide (a0.To<a1.To)),r,hd⟩)))))))))
 rw [a]
 exact .kn 8 [4] r (.drop .z (.drop .z (.r0 results200 r ⟨false,r,hd⟩)))
theorem jC {a0:Int} {a1:List AL} {Q:((List AL)×Int)→Prop} (R3:RepSl BU I p1 c2 a1) (hd:PW a0 a1 Q) :
  nB prog 127 [.int .i64 a0,.slice p1 a1.length c2] I (fun I_ v l=>∃ r p4 c5,v=.tuple #[.slice p4 r.1.length c5,.int .i64 r.2]∧l=[OwnSl BU 49 p4 c5 r.1]∧Q r):=by
 refine Fun.en func127 ntmps127 r fun w0 M=>?_
 refine .sr (.kn 2 [1,0] r (.seq (.sk 1 r ?_)))
 have j4:=Aa5 (I:=I) hd
 refine .cq call102 j4 r fun p3 hd=>?_
 refine .kn 1 [17,1,0] r (.condP r hd (fun j5 hd=>?_) fun j5 hd=>?_)
 · exact .sr (.kn 2 [5,4] r (.own0 BU 49 (.ret (KG results127 (.t r (.t r .n)) rf (.o [0] r) ⟨(([]:List AL),8),_,_,r,r,hd⟩))))
 refine .sn [1,0] r (.sk 1 r (.nk [6,1,0] 1 r (.no [7,6,1,0] r (.seq (.sr (.kn 1 [8,7,6,1,0] r (.block (.own0 BU 49 (.own0 KJ 157 ?_)))))))))
 refine .lx hd [1,0] [] r (fun j E l (q,s,u)=>fun c w=>∃ L N O P,j ⟨145,[],none⟩ (fun I_=>True) ((6,.slice L q.length N) :: (7,.slice O s.length P) :: (8,.int .i64 u) :: E) (OwnSl BU 49 L N q :: OwnSl KJ 157 O P s :: l) c w) (fun c w ho hs=>⟨_,_,_,_,jf rf trivial [1,0] r ho hs⟩) ?_
 rintro ⟨q,s,u⟩ j6 hd c w ⟨L,N,O,P,l1,d,_,hok,hsym⟩
 have R3:=d.u1 R3
 refine Cod.at hok hsym (.seq (.sk 2 r (.ln CL r (.kn 1 [21,8,7,6,1,0] r (.condP r hd (fun e8 hd=>?_) fun e8 hd=>?_)))))
 · refine .sn [8,7,6,1,0] r (.seq (.block (.sr (.kn 1 [9,8,7,6,1,0] r (.seq (.jn hd [8,7,6,1,0] [0,0] r (fun j E l e=>j ((9,.int .i64 e) :: E) l) (fun l2 hd=>?_) ?_))))))
   · skip
     refine .block (.lp hd [8,7,6,1,0] [0,0] r (fun j E l f=>j ((9,.int .i64 f) :: E) l) (ji rf [0,0] r) ?_)
     refine fun f j7 hd=>jq r fun h6 g=>?_
     obtain ⟨k3,R3⟩:=g.u2 d R3
     refine .seq (.seq (.ownF .z fun e3=>?_))
     refine .ownF .p1 fun k0=>?_
     refine .dr [0,1,2,3,4,5,6,7,8,9,10,11,12,13,14] 15 (.fk 2 r (.h r (fun _=>.ln CL r .mk) (.fk 2 r ?_)))
     refine AQ hd (fun b hd=>?_) fun b hd=>?_
     · refine .h r (fun _=>.gyes r r b (.move r r r .mk)) (.h r (fun _=>.gyes r r b (.move r r r .mk)) ?_)
       obtain ⟨b4,l3,A,hd⟩:=hd
       obtain ⟨l4,h7⟩:=e3 (DO A)
       cases h7
       refine .h r (fun _=>.gyes r r b (.ixa0 CL CN r r b4 (AH A b4) r r .mk)) (.h r (fun _=>.gyes r r b (.loA (j:=0) MQ CN .z A r r (.o 3 r) r r r .mk)) (.h r (fun _=>.gyes r r b (.move r r r .mk)) (.h r (fun _=>.gyes r r b (.move r r r .mk)) ?_)))
       obtain ⟨b5,l5,Y,hd⟩:=hd
       obtain ⟨l6,o2887,k4,h8,e9,f0⟩:=R3.2 _ _ Y
       cases f0
       refine .h r (fun _=>.gyes r r b (.ixa CL CN r h8 r b5 (AH Y b5) r r .mk)) (.h r (fun _=>.gyes r r b (.ldW MQ CN e9 r r r r .mk)) (.ww r fun ex=>?_))
       have f1:=bD (I:=h6) hd
       refine .gyes r r b (.callP call200 r f1 r r fun l7 f2=>?_)
       obtain ⟨l8,rfl,hd⟩:=f2
       refine .so 2 r r r trivial (.h r (fun _=>.pickT r b r r r .mk) (.e2 15 (.no [38,9,8,7,6,1,0] r (.condP r hd (fun f3 hd=>?_) fun f3 hd=>?_))))
       · exact .sn [9,8,7,6,1,0] r (.block (.region (.ks 3 r (.nil' (je (AJ (f+1)) hd g [0,0] r)))))
       exact .exit (je f hd g [0,0] r)
     refine .h r (fun _=>.gno r r b r r .mk) (.h r (fun _=>.gno r r b r r .mk) (.h r (fun _=>.gno r r b r r .mk) (.h r (fun _=>.gno r r b r r .mk) (.h r (fun _=>.gno r r b r r .mk) (.h r (fun _=>.gno r r b r r .mk) (.h r (fun _=>.gno r r b r r .mk) (.h r (fun _=>.gno r r b r r .mk) (.h r (fun _=>.gno r r b r r .mk) (.h r (fun _=>.pickF r b r r r .mk) ?_)))))))))
     exact .e2 15 (.no [38,9,8,7,6,1,0] r (.condKF r r (.exit (je f hd g [0,0] r))))
   refine fun e hd=>jq r fun b6 Z=>?_
   obtain ⟨f4,R3⟩:=Z.u2 d R3
   refine .sk 2 r ?_
   obtain ⟨b7,l9,a2,hd⟩:=hd
   obtain ⟨m0,o2919,k5,h9,f5,f6⟩:=R3.2 _ _ a2
   cases f6
   refine .ixa CL CN r h9 r b7 (AH a2 b7) r r (.ks 1 r (.ld1 (j:=2) UT f5 r r r r r ?_))
   have f7:=Aa6 (I:=b6) hd
   refine .cq call171 f7 r fun b8 hd=>?_
   refine .al DK r fun m1=>?_
   refine .sa AU .z r (.no [10,9,8,7,6,1,0] r (.seq (.seq (.jn hd [10,9,8,7,6,1,0] [1,1,0] r (fun j E l b9=>j ((62,.bool b9) :: E) l) (fun m2 hd=>?_) ?_))))
   · skip
     refine .ownF .p1 fun e4=>?_
     refine .ownF .p2 fun k1=>?_
     refine .dr [0,1,2,3,4,5,6,7,8,9,10,11,12,13,14,15] 16 (.fk 2 r (.h r (fun _=>.ln CL r .mk) (.fk 2 r ?_)))
     refine AQ hd (fun a hd=>?_) fun a hd=>?_
     · refine .h r (fun _=>.gyes r r a (.move r r r .mk)) (.h r (fun _=>.gyes r r a (.move r r r .mk)) ?_)
       obtain ⟨c0,m3,a3,hd⟩:=hd
       obtain ⟨m4,o3065,k6,i0,f8,f9⟩:=R3.2 _ _ a3
       cases f9
       refine .h r (fun _=>.gyes r r a (.ixa CL CN r i0 r c0 (AH a3 c0) r r .mk)) (.h r (fun _=>.gyes r r a (.ldW MQ CN f8 r r r r .mk)) (.h r (fun _=>.gyes r r a (.move r r r .mk)) (.h r (fun _=>.gyes r r a (.move r r r .mk)) ?_)))
       obtain ⟨c1,m5,B,hd⟩:=hd
       obtain ⟨m6,i1⟩:=e4 (DO B)
       cases i1
       refine .h r (fun _=>.gyes r r a (.ixa0 CL CN r r c1 (AH B c1) r r .mk)) (.h r (fun _=>.gyes r r a (.loA (j:=0) MQ CN .p1 B r r (.o 3 r) r r r .mk)) (.ww r fun ex=>?_))
       have g0:=bD (I:=b6) hd
       refine .gyes r r a (.callP call200 r g0 r r fun m7 g1=>?_)
       obtain ⟨i2,rfl,hd⟩:=g1
       exact .so 3 r r r trivial (.h r (fun _=>.gyes r r a (.not r r r .mk)) (.h r (fun _=>.pickT r a r r r .mk) (.e2 16 (.nil' (je (!i2) hd rf [1,1,0] r)))))
     refine .h r (fun _=>.gno r r a r r .mk) (.h r (fun _=>.gno r r a r r .mk) (.h r (fun _=>.gno r r a r r .mk) (.h r (fun _=>.gno r r a r r .mk) (.h r (fun _=>.gno r r a r r .mk) (.h r (fun _=>.gno r r a r r .mk) (.h r (fun _=>.gno r r a r r .mk) (.h r (fun _=>.gno r r a r r .mk) (.h r (fun _=>.gno r r a r r .mk) (.h r (fun _=>.gno r r a r r .mk) ?_)))))))))
     exact .h r (fun _=>.pickF r a r r r .mk) (.e2 16 (.nil' (je false hd rf [1,1,0] r)))
   refine fun b9 hd=>jq r fun i3 a4=>?_
   obtain ⟨a5,g2,R3⟩:=a4.u3 f4 Z R3
   refine .condP r hd (fun g3 hd=>?_) fun g3 hd=>?_
   · refine .seq (.ownF .z fun k2=>?_)
     refine .ownF .p1 fun e5=>?_
     refine .dr [0,1,2,3,4,5,6,7,8] 9 (.fk 5 r ?_)
     obtain ⟨c3,m8,C,hd⟩:=hd
     obtain ⟨m9,i4⟩:=e5 (DO C)
     cases i4
     refine .h r (fun _=>.ixa0 dG AU r r c3 (AH C c3) r r .mk) (.h r (fun _=>.loA (j:=0) BP AU .p1 C r r (.o 2 r) r r r .mk) (.h r (fun _=>.lw BP AU .p2 r .mk) (.ww r fun ex=>?_)))
     have g4:=xQ (I:=i3) hd
     refine .cq call107 g4 r fun c4 hd=>?_
     refine .so 3 r r r (.ck 2 r r trivial) (.e2 9 ?_)
     obtain ⟨c6,n0,a6,hd⟩:=hd
     exact .ixa0 dG AU r r c6 (AH a6 c6) r r (.stOA (j:=0) (v':=c4) AU .p1 a6 r r r (.o r) r r (.rl .p1 [7,63,66] r (by simp only [List.length_set]) (.no [8,7,6,1,0] r (.drop .p2 (.en [8,7,6,1,0] r (.region (.ks 3 r (.nil' fun c w ho hs=>⟨(q,(s.set e.toNat c4),AJ (u+1)),hd,_,_,_,_,jf a5 trivial [0,0] r ho hs⟩))))))))
   refine .sn [10,9,8,7,6,1,0] r (.sk 1 r (.build KZ nJ nH .n (by exact trivial) r r (.buildSlice 1 CL CN KZ r r (.c r r r .n) r r fun n1=>?_)))
   obtain ⟨g5,hd⟩:=hd
   refine .append (ys:=[({ From:=0,To:=0,W:=0 }:AL)]) 24 .p1 CL CL kL r r r r r r r r r (.box .z (.one r) r) g5 r r fun n2 n3=>?_
   refine .kn 1 [6,10,9,8,7,1,0] r (.drop .p1 (.sk 1 r (.build DK OB NZ .n (by exact trivial) r r (.buildSlice 1 dG AU DK r r (.c r r r .n) r r fun n4=>?_))))
   obtain ⟨g6,hd⟩:=hd
   refine .append (ys:=[({ Hi:=0,Lo:=0 }:AN)]) 16 .p2 dG dG AjD r r r r r r r r r (.box .z (.one r) r) g6 r r fun n5 n6=>?_
   refine .kn 1 [7,6,10,9,8,1,0] r (.drop .p1 (.seq (.sk 1 r (.ln CL r (.kn 2 [11,7,6,10,9,8,1,0] r (.block (.lx hd [10,9,8,1,0] [2] r (fun j E l (i,k,m)=>fun c w=>∃ R S T U,j ⟨145,[],none⟩ (fun I_=>True) ((6,.slice R i.length S) :: (7,.slice T k.length U) :: (11,.int .i64 m) :: E) (OwnSl BU 49 R S i :: OwnSl KJ 157 T U k :: l) c w) (fun c w ho hs=>⟨_,_,_,_,jf rf trivial [1,0,0] r ho hs⟩) ?_)))))))
   rintro ⟨i,k,m⟩ j8 hd c w ⟨R,S,T,U,n7,a7,_,hok,hsym⟩
   obtain ⟨g7,k7,k8,R3⟩:=a7.u4 a5 g2 a4 R3
   refine Cod.at hok hsym (.seq (.sr (.kn 3 [86,11,10,9,8,7,6,1,0] r (.condP r hd (fun g8 hd=>?_) fun g8 hd=>?_))))
   · refine .sn [11,10,9,8,7,6,1,0] r (.seq (.block (.sk 5 r ?_)))
     obtain ⟨c7,c8,D,hd⟩:=hd
     refine .ownNe .z (DO D) fun n8 i5=>?_
     cases i5
     refine .ixa0 CL CN r r c7 (AH D c7) r r (.loA (j:=0) MQ CN .z D r r (.o 3 r) r r r ?_)
     obtain ⟨c9,n9,a8,hd⟩:=hd
     refine .ixa0 CL CN r r c9 (AH a8 c9) r r (.stOA (j:=0) (v':=c8) CN .z a8 r r r (.o r) r r (.rl .z [6,89,91] r (by simp only [List.length_set]) (.no [11,10,9,8,7,6,1,0] r (.region (.ks 5 r ?_)))))
     obtain ⟨d0,d1,F,hd⟩:=hd
     refine .ownNe .p1 (DO F) fun o0 i6=>?_
     cases i6
     refine .ixa0 dG AU r r d0 (AH F d0) r r (.loA (j:=0) BP AU .p1 F r r (.o 2 r) r r r ?_)
     obtain ⟨d2,o1,a9,hd⟩:=hd
     exact .ixa0 dG AU r r d2 (AH a9 d2) r r (.stOA (j:=0) (v':=d1) AU .p1 a9 r r r (.o r) r r (.rl .p1 [7,97,99] r (by simp only [List.length_set]) (.no [11,10,9,8,7,6,1,0] r (.region (.ks 3 r (.nil' fun c w ho hs=>⟨((i.set m.toNat c8),(k.set m.toNat d1),AJ (m - 1)),hd,_,_,_,_,jf a7 trivial [0,0,0] r ho hs⟩))))))
   refine .en [10,9,8,7,6,1,0] r (.seq (.ownF .z fun e6=>?_))
   refine .ownF .p1 fun e7=>?_
   refine .dr [0,1,2,3,4,5,6,7,8,9,10,11,12] 13 (.fk 4 r ?_)
   obtain ⟨d3,d4,b0,hd⟩:=hd
   obtain ⟨o2,o3320,k9,i7,g9,h0⟩:=R3.2 _ _ b0
   cases h0
   refine .h r (fun _=>.ixa CL CN r i7 r d3 (AH b0 d3) r r .mk) (.fk 1 r (.h r (fun _=>.ld1 (j:=0) BF g9 r r r r r .mk) (.fk 2 r ?_)))
   obtain ⟨d5,d6,b1,hd⟩:=hd
   obtain ⟨o3,o3329,l0,i8,h1,h2⟩:=R3.2 _ _ b1
   cases h2
   refine .h r (fun _=>.ixa CL CN r i8 r d5 (AH b1 d5) r r .mk) (.fk 1 r (.h r (fun _=>.ld1 (j:=1) BF h1 r r r r r .mk) (.h r (fun _=>.build KZ nJ nH (.c r r r (.o r) (.c r r r (.o r) .n)) (by exact ⟨⟨_,_,r,r,r⟩,⟨⟨_,_,r,r,r⟩,trivial⟩⟩) r r .mk) (.e2 13 ?_))))
   obtain ⟨d7,o4,G,hd⟩:=hd
   obtain ⟨o5,i9⟩:=e6 (DO G)
   cases i9
   refine .ixa0 CL CN r r d7 (AH G d7) r r (.stOA (j:=0) (v':=({ From:=d4.From,To:=d6.To,W:=0 }:AL)) CN .z G r r r (.o r) r r (.rl .z [6,105] r (by simp only [List.length_set]) (.no [10,9,8,7,6,1,0] r (.region (.ks 2 r (.lw BP AU .p2 r ?_))))))
   obtain ⟨d8,o6,H,hd⟩:=hd
   obtain ⟨o7,j0⟩:=e7 (DO H)
   cases j0
   exact .ixa0 dG AU r r d8 (AH H d8) r r (.stOA (j:=0) (v':=b8) AU .p1 H r r r (.o r) r r (.rl .p1 [7,119] r (by simp only [List.length_set]) (.no [8,7,6,1,0] r (.drop .p2 (.region (.ks 3 r (.nil' fun c w ho hs=>⟨((i.set e.toNat ({ From:=d4.From,To:=d6.To,W:=0 }:AL)),(k.set e.toNat b8),AJ (u+1)),hd,_,_,_,_,jf g7 trivial [0,0] r ho hs⟩)))))))
 refine .en [7,6] r (.seq (.sr (.kn 1 [12,7,6] r (.block (.lx hd [7] [1] r (fun j E l (p,x)=>fun c w=>∃ V X,j ⟨145,[],none⟩ (fun I_=>True) ((6,.slice V p.length X) :: (12,.int .i64 x) :: E) (OwnSl BU 49 V X p :: l) c w) (fun c w ho hs=>⟨_,_,jf rf trivial [0,0] r ho hs⟩) ?_)))))
 rintro ⟨p,x⟩ j9 hd c w ⟨V,X,j1,b2,_,hok,hsym⟩
 have b3:=b2.u1 d
 refine Cod.at hok hsym (.seq (.sk 2 r (.ln CL r (.kn 1 [126,12,7,6] r (.condP r hd (fun h3 hd=>?_) fun h3 hd=>?_)))))
 · refine .sn [12,7,6] r (.seq (.block (.sk 2 r ?_)))
   obtain ⟨d9,o8,J,hd⟩:=hd
   refine .ownNe .p1 (DO J) fun o9 j2=>?_
   cases j2
   refine .ixa0 dG AU r r d9 (AH J d9) r r (.loA (j:=0) BP AU .p1 J r r (.o 2 r) r r r ?_)
   have h4:=nA (I:=j1) hd
   refine .cq call180 h4 r fun e0 hd=>?_
   refine .kn 5 [14,13,12,7,6] r (.seq (.sr (.kn 2 [138,13,12,7,6] r (.condP r hd (fun h5 hd=>?_) fun h5 hd=>?_))))
   · exact .sr (.kn 2 [5,4] r (.drop .z (.drop .z (.own0 BU 49 (.ret (KG results127 (.t r (.t r .n)) b3 (.o [0] r) ⟨(([]:List AL),12),_,_,r,r,hd⟩))))))
   refine .sn [13,12,7,6] r (.region (.ks 3 r ?_))
   obtain ⟨e1,y,K,hd⟩:=hd
   refine .ownNe .z (DO K) fun p0 j3=>?_
   cases j3
   exact .ixa0 CL CN r r e1 (AH K e1) r r (.ks 1 r (.stO1 (j:=2) (v':=({ From:=y.From,To:=y.To,W:=e0.1 }:AL)) sz2 .z K r r r (.o r) r (.rl .z [6,139] r (by simp only [List.length_set]) (.no [12,7,6] r (.region (.ks 3 r (.nil' fun c w ho hs=>⟨((p.set x.toNat ({ From:=y.From,To:=y.To,W:=e0.1 }:AL)),AJ (x+1)),hd,_,_,jf b2 trivial [0,0] r ho hs⟩)))))))
 exact .en [6] r (.drop .p1 (.sr (.kn 3 [5,4] r (.ret (KG results127 (.t r (.t r .n)) b3 (.o [0] r) ⟨(p,0),_,_,r,r,hd⟩)))))
theorem QD {a0:AK} {Q:AK→Prop} (R3:RepSl BU I p1 c2 a0.Edges) (hd:KK a0 Q) :
  nB prog 55 [.agg #[.int .i64 a0.N,.slice p1 a0.Edges.length c2]] I (fun _=>o4_ Q):=by
 refine Fun.en func55 ntmps55 r fun w0 M=>?_
 refine .sr (.bx r fun f=>?_)
 refine .al MR r fun g=>?_
 refine .nk [2,1] 1 r (.lo GV .p1 r ?_)
 have b:=jC (I:=I) R3 hd
 refine .callO call127 r b r r fun h i j a d=>?_
 obtain ⟨e,k,l,rfl,rfl,hd⟩:=d
 have R3:=a.u1 R3
 exact .ks 5 r (.nk [3,2,1] 1 r (.lo BF .p2 r (.ks 1 r (.build MR fH nF (.c r r r (.o r) (.c r r r (.o r) .n)) (by exact ⟨⟨_,_,r,r,r⟩,⟨⟨_,_,r,r,r⟩,trivial⟩⟩) r r (.sa CT .p1 r (.no [2] r (.drop .p2 (.ret (KG results55 (.w EJ CT r .p1 r .n) a (.o [0] r) ⟨({ N:=a0.N,Edges:=e.1 }:AK),_,_,r,r,hd⟩)))))))))
theorem oB {a0:AK} {Q:AK→Prop} (R3:RepSl BU I p1 c2 a0.Edges) (hd:V9 a0 Q) :
  BR prog 13 [.agg #[.int .i64 a0.N,.slice p1 a0.Edges.length c2]] I (o5_ Q):=by
 refine Fun.en func13 ntmps13 r fun w0 M=>?_
 refine .sr (.bx r fun b1=>?_)
 refine .al MR r fun b2=>?_
 refine .nk [2,1] 1 r (.lo BF .p1 r (.build MR fH nF (.c r r r (.o r) .n) (by exact ⟨⟨_,_,r,r,r⟩,trivial⟩) r r (.al MR r fun T=>?_)))
 refine .sa CT .z r (.no [3,2,1] r (.seq (.sr (.kn 1 [4,3,2,1] r (.block (.own0 BU 49 (.lx hd [3,2,1] [3,2] r (fun j E l (a,g)=>fun c w=>∃ i k,j ⟨35,[],none⟩ (fun I_=>True) ((4,.int .i64 g) :: E) (pto T (.cells #[.int .i64 a0.N,.slice i a.length k] 24 (0,0)) :: OwnSl BU 49 i k a :: l) c w) (fun c w ho hs=>⟨_,_,jf rf trivial [1,0,1,0] r ho hs⟩) ?_)))))))
 rintro ⟨a,g⟩ U hd c w ⟨i,k,b3,b,_,hok,hsym⟩
 have R3:=b.u1 R3
 refine Cod.at hok hsym (.seq (.sk 2 r (.lo GV .p2 r (.ln CL r (.kn 1 [12,4,3,2,1] r (.condP r hd (fun K hd=>?_) fun K hd=>?_))))))
 · refine .sn [4,3,2,1] r (.seq (.block (.ownF .p1 fun V=>?_)))
   refine .dr [0,1,2,3,4,5,6,7,8,9,10,11,12,13,14,15,16] 17 (.fk 1 r (.h r (fun _=>.lo GV .z r .mk) (.fk 1 r (.h r (fun _=>.lo GV .p2 r .mk) (.fk 1 r ?_)))))
   obtain ⟨m,p,e,hd⟩:=hd
   obtain ⟨Z,o104,X,L,t,u⟩:=R3.2 _ _ e
   cases u
   refine .h r (fun _=>.ixa CL CN r L r m (AH e m) r r .mk) (.fk 1 r (.h r (fun _=>.ld1 (j:=0) BF t r r r r r .mk) (.fk 1 r (.h r (fun _=>.lo GV .p2 r .mk) (.fk 1 r ?_)))))
   obtain ⟨q,s,f,hd⟩:=hd
   obtain ⟨a1,o113,Y,O,v,x⟩:=R3.2 _ _ f
   cases x
   refine .h r (fun _=>.ixa CL CN r O r q (AH f q) r r .mk) (.fk 1 r (.h r (fun _=>.ld1 (j:=1) BF v r r r r r .mk) (.h r (fun _=>.build KZ nJ nH (.c r r r (.o r) (.c r r r (.o r) (.c r r r (.o r) .n))) (by exact ⟨⟨_,_,r,r,r⟩,⟨⟨_,_,r,r,r⟩,⟨⟨_,_,r,r,r⟩,trivial⟩⟩⟩) r r .mk) (.ww r fun ex=>?_))))
   refine .buildSlice 1 CL CN KZ r r (.c r r r .n) r r fun a2=>?_
   refine .so 5 r r r (.ch r (fun _=>.lo GV .p1 r .mk) (.ck 1 r r trivial)) (.ww r fun ex=>?_)
   obtain ⟨y,hd⟩:=hd
   refine .append (ys:=[({ From:=p.From,To:=s.To,W:=1 }:AL)]) 24 .p2 CL CL kL r r r r r r r r r (.box .z (.one r) r) y r r fun a3 a4=>?_
   exact .so 5 r r r trivial (.e2 17 (.ks 1 r (.s1 sizeOf22 .p2 r (.no [4,3,2,1] r (.drop .p1 (.region (.ks 3 r (.nil' fun c w ho hs=>⟨((a++([({ From:=p.From,To:=s.To,W:=1 }:AL)])),AJ (g+1)),hd,_,_,jf b trivial [1,0,0,0] r ho hs⟩))))))))
 refine .en [3,2] r (.drop .p2 (.sr (.lw EJ CT .z r (.pub .p1 fun P A d=>?_))))
 have B:=A.u1 b
 have C:=QD (I:=P) (a0:=({ N:=a0.N,Edges:=a }:AK)) d hd
 refine .callO call55 r C r r fun a5 a6 a7 D F=>?_
 obtain ⟨R,a8,a9,rfl,rfl,hd⟩:=F
 obtain ⟨G,d⟩:=D.u2 B d
 refine .sa CT .p2 r (.no [2] r (.drop .p1 (.pub .z fun b0 H S=>?_)))
 have J:=H.u1 G
 exact .ret (BS results13 (.w EJ CT r .z r .n) J ⟨R,_,_,r,S,hd⟩)
theorem QE {a0:AK} {Q:Int→Prop} (R3:RepSl BU I p1 c2 a0.Edges) (hd:KL a0 Q) :
  BR prog 57 [.agg #[.int .i64 a0.N,.slice p1 a0.Edges.length c2]] I (fun _=>kO Q):=by
 refine Fun.en func57 ntmps57 r fun w0 M=>?_
 refine .sr (.bx r fun b6=>?_)
 refine .kn 1 [1] r (.seq (.sk 1 r (.lo BF .z r (.kn 1 [8,1] r (.condP r hd (fun O hd=>?_) fun O hd=>?_)))))
 · exact .sr (.kn 1 [2] r (.drop .z (.r0 results57 r ⟨3,r,hd⟩)))
 refine .sn [1] r (.seq (.sk 1 r (.lo BF .z r (.ks 2 r ?_))))
 refine AQ hd (fun g hd=>?_) fun g hd=>?_
 · rw [g]
   exact .kn 5 [17,1] r (.condKT r r (.sr (.kn 1 [2] r (.drop .z (.r0 results57 r ⟨5,r,hd⟩)))))
 rw [g]
 refine .ks 1 r (.yes r (.lo GV .z r (.yes r (.ln CL r (.kn 2 [17,1] r (.condP r hd (fun F hd=>?_) fun F hd=>?_))))))
 · exact .sr (.kn 1 [2] r (.drop .z (.r0 results57 r ⟨5,r,hd⟩)))
 refine .sn [1] r (.seq (.sr (.kn 1 [3,1] r (.block (.lp hd [1] [0] r (fun j E l h=>j ((3,.int .i64 h) :: E) l) (ji rf [0] r) ?_)))))
 refine fun h K hd=>jq r fun T a=>?_
 have R3:=a.u1 R3
 refine .seq (.sk 2 r (.lo GV .z r (.ln CL r (.kn 1 [22,3,1] r (.condP r hd (fun t hd=>?_) fun t hd=>?_)))))
 · refine .sn [3,1] r (.seq (.block (.sk 1 r (.lo GV .z r (.ks 1 r ?_)))))
   obtain ⟨p,U,k,hd⟩:=hd
   obtain ⟨V,o185,P,G,u,v⟩:=R3.2 _ _ k
   cases v
   refine .ixa CL CN r G r p (AH k p) r r (.ldW MQ CN u r r r r (.al KZ r fun W=>?_))
   refine .sa CN .z r (.nk [4,3,1] 1 r (.lo BF .z r (.ks 2 r ?_)))
   refine AQ hd (fun b hd=>?_) fun b hd=>?_
   · rw [b]
     exact .kn 18 [51,3,1] r (.drop .z (.condKT r r (.sr (.kn 1 [2] r (.drop .z (.r1 results57 r a ⟨3,r,hd⟩))))))
   rw [b]
   refine .ks 1 r (.yes r (.lo BF .z r (.ks 1 r (.yes r (.lo BF .p1 r (.ks 3 r ?_))))))
   refine AQ hd (fun c hd=>?_) fun c hd=>?_
   · rw [c]
     exact .kn 11 [51,3,1] r (.drop .z (.condKT r r (.sr (.kn 1 [2] r (.drop .z (.r1 results57 r a ⟨3,r,hd⟩))))))
   rw [c]
   refine .ks 1 r (.yes r (.lo BF .z r (.ks 3 r ?_)))
   refine AQ hd (fun d hd=>?_) fun d hd=>?_
   · rw [d]
     exact .kn 6 [51,3,1] r (.drop .z (.condKT r r (.sr (.kn 1 [2] r (.drop .z (.r1 results57 r a ⟨3,r,hd⟩))))))
   rw [d]
   refine .ks 1 r (.yes r (.lo BF .z r (.ks 1 r (.yes r (.lo BF .p1 r (.kn 2 [51,3,1] r (.drop .z (.condP r hd (fun w hd=>?_) fun w hd=>?_))))))))
   · exact .sr (.kn 1 [2] r (.drop .z (.r1 results57 r a ⟨3,r,hd⟩)))
   exact .sn [3,1] r (.region (.ks 3 r (.nil' (je (AJ (h+1)) hd a [0] r))))
 refine .en [1] r (.seq (.sr (.kn 1 [5,1] r (.block (.lp hd [1] [0] r (fun j E l i=>j ((5,.int .i64 i) :: E) l) (ji rf [0] r) ?_)))))
 refine fun i L hd=>jq r fun X m=>?_
 obtain ⟨e,R3⟩:=m.u2 a R3
 refine .seq (.sk 2 r (.lo GV .z r (.ln CL r (.kn 1 [56,5,1] r (.condP r hd (fun x hd=>?_) fun x hd=>?_)))))
 · refine .sn [5,1] r (.seq (.block (.sk 1 r (.lo GV .z r (.ks 1 r ?_)))))
   obtain ⟨q,Y,n,hd⟩:=hd
   obtain ⟨Z,o254,R,H,y,A⟩:=R3.2 _ _ n
   cases A
   refine .ixa CL CN r H r q (AH n q) r r (.ks 1 r (.ld1 (j:=2) UT y r r r r r (.ks 2 r ?_)))
   refine AQ hd (fun f hd=>?_) fun f hd=>?_
   · rw [f]
     exact .kn 8 [74,5,1] r (.condKT r r (.sr (.kn 1 [2] r (.drop .z (.r1 results57 r e ⟨7,r,hd⟩)))))
   rw [f]
   refine .ks 1 r (.yes r (.lo GV .z r (.ks 1 r ?_)))
   obtain ⟨s,a1,o,hd⟩:=hd
   obtain ⟨a2,o264,S,J,B,C⟩:=R3.2 _ _ o
   cases C
   refine .yes r (.ixa CL CN r J r s (AH o s) r r (.ks 1 r (.yes r (.ld1 (j:=2) UT B r r r r r (.kn 2 [74,5,1] r (.condP r hd (fun D hd=>?_) fun D hd=>?_))))))
   · exact .sr (.kn 1 [2] r (.drop .z (.r1 results57 r e ⟨7,r,hd⟩)))
   exact .sn [5,1] r (.region (.ks 3 r (.nil' (je (AJ (i+1)) hd m [0] r))))
 exact .en [] r (.drop .z (.sr (.kn 1 [2] r (.r1 results57 r e ⟨0,r,hd⟩))))
theorem eX {a0:AK} {Q:AK→Prop} (R3:RepSl BU I p1 c2 a0.Edges) (hd:TF a0 Q) :
  nB prog 58 [.agg #[.int .i64 a0.N,.slice p1 a0.Edges.length c2]] I (fun _=>o4_ Q):=by
 refine Fun.en func58 ntmps58 r fun w0 M=>?_
 refine .sr (.bx r fun Y=>?_)
 refine .al MR r fun Z=>?_
 refine .nk [2,1] 1 r (.lo BF .p1 r (.build MR fH nF (.c r r r (.o r) .n) (by exact ⟨⟨_,_,r,r,r⟩,trivial⟩) r r (.al MR r fun G=>?_)))
 refine .sa CT .z r (.no [3,2,1] r (.seq (.sr (.kn 1 [4,3,2,1] r (.block (.own0 BU 49 (.lx hd [3,2,1] [3,2] r (fun j E l (d,g)=>fun c w=>∃ h i,j ⟨35,[],none⟩ (fun I_=>True) ((4,.int .i64 g) :: E) (pto G (.cells #[.int .i64 a0.N,.slice h d.length i] 24 (0,0)) :: OwnSl BU 49 h i d :: l) c w) (fun c w ho hs=>⟨_,_,jf rf trivial [1,0,1,0] r ho hs⟩) ?_)))))))
 rintro ⟨d,g⟩ F hd c w ⟨h,i,J,b,_,hok,hsym⟩
 have R3:=b.u1 R3
 refine Cod.at hok hsym (.seq (.sk 2 r (.lo GV .p2 r (.ln CL r (.kn 1 [13,4,3,2,1] r (.condP r hd (fun m hd=>?_) fun m hd=>?_))))))
 · refine .sn [4,3,2,1] r (.seq (.block (.sk 1 r (.lo GV .p2 r (.ks 1 r ?_)))))
   obtain ⟨k,a,f,hd⟩:=hd
   obtain ⟨K,o121,H,B,p,q⟩:=R3.2 _ _ f
   cases q
   refine .ixa CL CN r B r k (AH f k) r r (.ldW MQ CN p r r r r (.al KZ r fun L=>?_))
   refine .sa CN .z r (.no [5,4,3,2,1] r (.region (.ks 1 r (.lo GV .p1 r (.ks 1 r (.lo BF .z r (.ks 1 r (.lo BF .z r (.ks 1 r ?_)))))))))
   refine .lo UT .z r (.build KZ nJ nH (.c r r r (.o r) (.c r r r (.o r) (.c r r r (.o r) .n))) (by exact ⟨⟨_,_,r,r,r⟩,⟨⟨_,_,r,r,r⟩,⟨⟨_,_,r,r,r⟩,trivial⟩⟩⟩) r r (.buildSlice 1 CL CN KZ r r (.c r r r .n) r r fun O=>?_))
   obtain ⟨s,hd⟩:=hd
   refine .append (ys:=[({ From:=a.To,To:=a.From,W:=a.W }:AL)]) 24 .p3 CL CL kL r r r r r r r r r (.box .z (.one r) r) s r r fun P R=>?_
   exact .ks 1 r (.s1 sizeOf22 .p3 r (.no [4,3,2,1] r (.drop .p1 (.drop .p1 (.region (.ks 3 r (.nil' fun c w ho hs=>⟨((d++([({ From:=a.To,To:=a.From,W:=a.W }:AL)])),AJ (g+1)),hd,_,_,jf b trivial [1,0,0,0] r ho hs⟩)))))))
 refine .en [3,2] r (.drop .p2 (.sr (.lw EJ CT .z r (.pub .p1 fun C t e=>?_))))
 have u:=t.u1 b
 have v:=QD (I:=C) (a0:=({ N:=a0.N,Edges:=d }:AK)) e hd
 refine .callO call55 r v r r fun S T U x y=>?_
 obtain ⟨D,V,X,rfl,rfl,hd⟩:=y
 obtain ⟨A,e⟩:=x.u2 u e
 exact .sa CT .p2 r (.no [2] r (.drop .p1 (.ret (KG results58 (.w EJ CT r .p1 r .n) A (.o [0] r) ⟨D,_,_,r,r,hd⟩))))
theorem oC {a0 a1:Int} {Q:Rows→Prop} (hd:Y7 a0 a1 Q) :
  nB prog 128 [.int .i64 a0,.int .i64 a1] I (fun _=>o6_ Q):=by
 refine Fun.en func128 ntmps128 r fun w0 M=>?_
 refine .sr (.al FO r fun d=>?_)
 refine .nk [4,1,0] 4 r ?_
 obtain ⟨a,b,hd⟩:=hd
 refine .make (El:=AE) (zv:=0) 8 BT IN3 r r r r r r a b r r r fun e=>?_
 exact .build FO OQ OP (.c r r r (.o r) (.c r r r (.o r) (.c r r r (.o r) .n))) (by exact ⟨⟨_,_,r,r,r⟩,⟨⟨_,_,r,r,r⟩,⟨⟨_,_,r,r,r⟩,trivial⟩⟩⟩) r r (.sa BH .p1 r (.no [4] r (.own0 AE 3 (.own0 AE 2 (.ret (KG results128 (.w CF BH r .p3 r .n) rf (.o [2,1,0] r) ⟨({ Rows:=a0,Cols:=a1,Start:=(List.replicate (AJ (a0+1)).toNat 0),Col:=([]:List Int),Val:=([]:List Int) }:Rows),_,_,_,_,_,_,r,r,hd⟩))))))
theorem oD {a0 a1:Int} {a2:List AD} {Q:Rows→Prop} (R3:RepSl BV I p1 c2 a2) (hd:VA a0 a1 a2 Q) :
  BR prog 59 [.int .i64 a0,.int .i64 a1,.slice p1 a2.length c2] I (o7_ Q):=by
 refine Fun.en func59 ntmps59 r fun w0 M=>?_
 refine .sr (.al FO r fun f8=>?_)
 refine .nk [6,2,1,0] 2 r ?_
 have c4:=oC (I:=I) hd
 refine .callO call128 r c4 r r fun f9 g0 g1 P c5=>?_
 obtain ⟨e,g2,g3,g4,g5,g6,g7,rfl,rfl,hd⟩:=c5
 have R3:=P.u1 R3
 refine .al FO r fun R=>?_
 refine .sa BH .z r (.no [7,6,2,0] r (.seq (.sr (.kn 1 [8,7,6,2,0] r (.block (.lx hd [7,6,2,0] [4] r (fun j E l (i,a,b,t)=>fun c w=>∃ u v x y A C,j ⟨58,[],none⟩ (fun I_=>True) ((8,.int .i64 t) :: E) (pto R (.cells #[.int .i64 e.Rows,.int .i64 e.Cols,.slice u i.length v,.slice x a.length y,.slice A b.length C] 33 (0,0)) :: OwnSl AE 3 u v i :: OwnSl AE 3 x y a :: OwnSl AE 2 A C b :: l) c w) (fun c w ho hs=>⟨_,_,_,_,_,_,jf rf trivial [0,0,0,0,0] r ho hs⟩) ?_))))))
 rintro ⟨i,a,b,t⟩ d2 hd c w ⟨u,v,x,y,A,C,e6,k,_,hok,hsym⟩
 obtain ⟨H,R3⟩:=k.u2 P R3
 refine Cod.at hok hsym (.seq (.sk 2 r (.ln JG r (.kn 1 [16,8,7,6,2,0] r (.condP r hd (fun a4 hd=>?_) fun a4 hd=>?_)))))
 · refine .sn [8,7,6,2,0] r (.seq (.block (.seq (.ownF .p1 fun d4=>?_))))
   refine .ownF .p2 fun d5=>?_
   refine .ownF .p3 fun d6=>?_
   refine .dr [0,1,2,3,4,5,6,7,8] 9 (.fk 1 r (.h r (fun _=>.lo GS .z r .mk) (.fk 2 r ?_)))
   obtain ⟨S,m,J,hd⟩:=hd
   obtain ⟨e7,o434,e0,c6,a5,a6⟩:=R3.2 _ _ J
   cases a6
   refine .h r (fun _=>.ixa JG KD r c6 r S (AH J S) r r .mk) (.fk 1 r (.h r (fun _=>.ld1 (j:=1) BF a5 r r r r r .mk) (.ww r fun ex=>?_)))
   refine .buildSlice 1 BT EX nL r r (.c r r r .n) r r fun e8=>?_
   refine .so 6 r r r (.ch r (fun _=>.lo GS .p1 r .mk) (.ck 1 r r trivial)) (.ww r fun ex=>?_)
   obtain ⟨a7,hd⟩:=hd
   refine .append (ys:=[m.Col]) 8 .p3 BT BT IN3 r r r r r r r r r (.box .z (.one r) r) a7 r r fun T U=>?_
   refine .so 6 r r r trivial (.e2 9 (.ks 1 r (.s1 iO .p2 r (.no [8,7,6,2,0] r (.drop .p1 (.seq (.ownF .z fun d7=>?_)))))))
   refine .ownF .p2 fun d8=>?_
   refine .ownF .p3 fun d9=>?_
   refine .dr [0,1,2,3,4,5,6,7,8] 9 (.fk 1 r (.h r (fun _=>.lo qQ .p1 r .mk) (.fk 2 r ?_)))
   obtain ⟨V,p,K,hd⟩:=hd
   obtain ⟨e9,o470,e1,c7,a8,a9⟩:=R3.2 _ _ K
   cases a9
   refine .h r (fun _=>.ixa JG KD r c7 r V (AH K V) r r .mk) (.fk 1 r (.h r (fun _=>.ld1 (j:=2) UT a8 r r r r r .mk) (.ww r fun ex=>?_)))
   refine .buildSlice 1 X2 sz2 zeroValue2 r r (.c r r r .n) r r fun f0=>?_
   refine .so 6 r r r (.ch r (fun _=>.lo qQ .p2 r .mk) (.ck 1 r r trivial)) (.ww r fun ex=>?_)
   obtain ⟨b0,hd⟩:=hd
   refine .append (ys:=[p.Val]) 8 .p4 X2 X2 IN2 r r r r r r r r r (.box .z (.one r) r) b0 r r fun W X=>?_
   refine .so 6 r r r trivial (.e2 9 (.ks 1 r (.s1 sizeOf31 .p3 r (.no [8,7,6,2,0] r (.drop .p1 (.sk 2 r ?_))))))
   obtain ⟨Y,f1,L,hd⟩:=hd
   obtain ⟨f2,o494,e3,c8,b1,b2⟩:=R3.2 _ _ L
   cases b2
   refine .ixa JG KD r c8 r Y (AH L Y) r r (.ks 1 r (.ld1 (j:=0) BF b1 r r r r r (.kn 2 [9,8,7,6,2,0] r (.block (.lx hd [8,7,6,2,0] [4,1,0] r (fun j E l (d,f)=>fun c w=>∃ D q,j ⟨58,[],none⟩ (fun I_=>True) ((9,.int .i64 f) :: E) (pto R (.cells #[.int .i64 e.Rows,.int .i64 e.Cols,.slice D d.length q,.slice T (a++([m.Col])).length U,.slice W (b++([p.Val])).length X] 33 (0,0)) :: OwnSl AE 3 D q d :: l) c w) (fun c w ho hs=>⟨_,_,jf rf trivial [2,2,2,1,0] r ho hs⟩) ?_)))))
   rintro ⟨d,f⟩ d3 hd c w ⟨D,q,f3,N,_,hok,hsym⟩
   obtain ⟨e4,b3,R3⟩:=N.u3 H k R3
   refine Cod.at hok hsym (.seq (.sr (.kn 3 [47,9,8,7,6,2,0] r (.condP r hd (fun b4 hd=>?_) fun b4 hd=>?_))))
   · refine .sn [9,8,7,6,2,0] r (.seq (.block (.region (.ks 1 r (.lo GS .z r (.ks 1 r ?_))))))
     obtain ⟨Z,F,s,hd⟩:=hd
     refine .ownNe .p1 (DO s) fun c9 d0=>?_
     cases d0
     refine .ixa0 BT EX r r Z (AH s Z) r r (.lo1 (j:=0) BF .p1 s r r r r r (.ks 1 r ?_))
     obtain ⟨a3,f4,O,hd⟩:=hd
     exact .ixa0 BT EX r r a3 (AH O a3) r r (.stO1 (j:=0) (v':=(AJ (F+1))) EX .p1 O r r r (.o r) r (.rl .p1 [51] r (by simp only [List.length_set]) (.reat .z (B:=pto R (.cells #[.int .i64 e.Rows,.int .i64 e.Cols,.slice (some ⟨c9,0,none⟩) (d.set f.toNat (AJ (F+1))).length q,.slice T (a++([m.Col])).length U,.slice W (b++([p.Val])).length X] 33 (0,0))) (by simp only [List.length_set]) (.no [9,8,7,6,2,0] r (.region (.ks 3 r (.nil' fun c w ho hs=>⟨((d.set f.toNat (AJ (F+1))),AJ (f+1)),hd,_,_,jf N trivial [0,0,0,0,0] r ho hs⟩)))))))
   exact .en [8,7,6,2,0] r (.region (.ks 3 r (.nil' fun c w ho hs=>⟨(d,(a++([m.Col])),(b++([p.Val])),AJ (t+1)),hd,_,_,_,_,_,_,jf b3 trivial [0,0,1,1,0] r ho hs⟩)))
 refine .en [7,6] r (.sr (.lw CF BH .z r (.sa BH .p4 r (.no [6] r (.drop .z (.pub .z fun f5 b5 g=>?_))))))
 obtain ⟨b6,b7⟩:=b5.u2 H k
 refine .pub .z fun f6 b8 G=>?_
 obtain ⟨b9,c0,g⟩:=b8.u3 b6 b7 g
 refine .pub .z fun f7 c1 d1=>?_
 obtain ⟨c3,e5,g,G⟩:=c1.u4 b9 c0 g G
 exact .ret (BS results59 (.w CF BH r .z r .n) c3 ⟨({ Rows:=e.Rows,Cols:=e.Cols,Start:=i,Col:=a,Val:=b }:Rows),_,_,_,_,_,_,r,g,G,d1,hd⟩)
theorem oE {a0:AK} {Q:(Rows×Int)→Prop} (R3:RepSl BU I p1 c2 a0.Edges) (hd:VB a0 Q) :
  BR prog 15 [.agg #[.int .i64 a0.N,.slice p1 a0.Edges.length c2]] I (o8_ Q):=by
 refine Fun.en func15 ntmps15 r fun w0 M=>?_
 refine .sr (.bx r fun b9=>?_)
 refine .al FO r fun c0=>?_
 refine .kn 1 [2,1] r (.seq (.sr (.lw EJ CT .p1 r ?_)))
 have P:=QE (I:=I) R3 hd
 refine .cq call57 P r fun a3 hd=>?_
 refine .ks 1 r (.nk [4,2,1] 2 r (.no [11,4,2,1] r (.condP r hd (fun R hd=>?_) fun R hd=>?_)))
 · exact .sr (.build FO OQ OP .n (by exact trivial) r r (.ks 1 r (.sa BH .z r (.kn 1 [3,2] r (.drop .p1 (.ret (BS results15 (.w CF BH r .z r (.t r .n)) rf ⟨(({ Rows:=0,Cols:=0,Start:=([]:List Int),Col:=([]:List Int),Val:=([]:List Int) }:Rows),a3),_,_,_,_,_,_,r,(.nil _ _ _),(.nil _ _ _),(.nil _ _ _),hd⟩)))))))
 refine .sn [2,1] r (.sr (.lw EJ CT .p1 r ?_))
 have S:=eX (I:=I) R3 hd
 refine .callO call58 r S r r fun c1 c3 c4 p T=>?_
 obtain ⟨c5,c6,c7,rfl,rfl,hd⟩:=T
 have R3:=p.u1 R3
 refine .al MR r fun c8=>?_
 refine .sa CT .z r (.nk [5,2,1] 1 r (.no [6,5,2,1] r (.seq (.sr (.kn 1 [7,6,5,2,1] r (.block (.own0 BV 103 (.lx hd [5,2,1] [4,3,1,1] r (fun j E l (a,e)=>fun c w=>∃ f g,j ⟨51,[],none⟩ (fun I_=>True) ((6,.slice f a.length g) :: (7,.int .i64 e) :: E) (OwnSl BV 103 f g a :: l) c w) (fun c w ho hs=>⟨_,_,jf rf trivial [0,3,2,0,0] r ho hs⟩) ?_))))))))
 rintro ⟨a,e⟩ a2 hd c w ⟨f,g,a6,b,_,hok,hsym⟩
 obtain ⟨B,R3⟩:=b.u2 p R3
 refine Cod.at hok hsym (.seq (.sk 2 r (.lo GV .p3 r (.ln CL r (.kn 1 [20,7,6,5,2,1] r (.condP r hd (fun C hd=>?_) fun C hd=>?_))))))
 · refine .sn [7,6,5,2,1] r (.seq (.block (.ownF .z fun a4=>?_)))
   refine .ownF .p4 fun q=>?_
   refine .dr [0,1,2,3,4,5,6,7,8,9,10,11,12,13,14,15,16,17,18,19,20,21] 22 (.fk 2 r (.h r (fun _=>.lo GV .p3 r .mk) (.fk 1 r ?_)))
   obtain ⟨s,u,d,hd⟩:=hd
   obtain ⟨a7,U⟩:=q (DO d)
   cases U
   refine .h r (fun _=>.ixa0 CL CN r r s (AH d s) r r .mk) (.fk 1 r (.h r (fun _=>.lo1 (j:=0) BF .p4 d r r r r r .mk) (.fk 1 r (.h r (fun _=>.lo GV .p3 r .mk) (.fk 1 r ?_)))))
   obtain ⟨v,x,k,hd⟩:=hd
   refine .h r (fun _=>.ixa0 CL CN r r v (AH k v) r r .mk) (.fk 1 r (.h r (fun _=>.lo1 (j:=1) BF .p4 k r r r r r .mk) (.fk 1 r (.h r (fun _=>.lo GV .p3 r .mk) (.fk 1 r ?_)))))
   obtain ⟨y,A,m,hd⟩:=hd
   refine .h r (fun _=>.ixa0 CL CN r r y (AH m y) r r .mk) (.fk 1 r (.h r (fun _=>.lo1 (j:=2) UT .p4 m r r r r r .mk) (.h r (fun _=>.build RK oT oP (.c r r r (.o r) (.c r r r (.o r) (.c r r r (.o r) .n))) (by exact ⟨⟨_,_,r,r,r⟩,⟨⟨_,_,r,r,r⟩,⟨⟨_,_,r,r,r⟩,trivial⟩⟩⟩) r r .mk) (.ww r fun ex=>?_))))
   refine .buildSlice 1 JG KD RK r r (.c r r r .n) r r fun a8=>?_
   refine .so 6 r r r (.ck 1 r r trivial) (.ww r fun ex=>?_)
   obtain ⟨D,hd⟩:=hd
   refine .append (ys:=[({ Row:=u.From,Col:=x.To,Val:=A.W }:AD)]) 24 .p1 JG JG kM r r r r r r r r r (.box .z (.one r) r) D r r fun a9 b0=>?_
   exact .so 6 r r r trivial (.e2 22 (.kn 1 [6,7,5,2,1] r (.drop .p1 (.region (.ks 3 r (.nil' fun c w ho hs=>⟨((a++([({ Row:=u.From,Col:=x.To,Val:=A.W }:AD)])),AJ (e+1)),hd,_,_,jf b trivial [0,0,0,0,0] r ho hs⟩))))))
 refine .en [6,2,1] r (.drop .p3 (.drop .p3 (.sk 1 r (.lo BF .p1 r (.ks 1 r (.lo BF .p1 r (.ks 1 r (.pub .z fun V F i=>?_))))))))
 obtain ⟨G,H,R3⟩:=F.u3 B b R3
 have J:=oD (I:=V) i hd
 refine .call call59 r J r r fun b1 b2 K L=>?_
 obtain ⟨X,b3,b4,b5,b6,b7,b8,rfl,Y,Z,a1,hd⟩:=L
 obtain ⟨O,a5,R3,i⟩:=K.u4 G H R3 i
 exact .sa BH .p1 r (.kn 1 [3,2] r (.drop .z (.ret (BS results15 (.w CF BH r .z r (.t r .n)) O ⟨(X,0),_,_,_,_,_,_,r,Y,Z,a1,hd⟩))))
theorem gL {a0 a1:List Int} {Q:Bool→Prop} (R3:RepSl AE I p1 c2 a0) (R6:RepSl AE I p4 c5 a1) (hd:NS a0 a1 Q) :
  BR prog 98 [.slice p1 a0.length c2,.slice p4 a1.length c5] I (fun _=>dA Q):=by
 refine Fun.en func98 ntmps98 r fun w0 M=>?_
 refine .sr (.kn 1 [1,0] r (.seq (.sk 1 r (.ln X2 r (.ks 1 r (.ln X2 r (.kn 1 [10,1,0] r (.condP r hd (fun p hd=>?_) fun p hd=>?_))))))))
 · exact .sr (.kn 1 [4] r (.r0 results98 r ⟨false,r,hd⟩))
 refine .sn [1,0] r (.seq (.sr (.kn 1 [5,1,0] r (.block (.lp hd [1,0] [] r (fun j E l b=>j ((5,.int .i64 b) :: E) l) (ji rf [] r) ?_)))))
 refine fun b q hd=>jq r fun w a=>?_
 obtain ⟨R3,R6⟩:=a.u2 R3 R6
 refine .seq (.sk 2 r (.ln X2 r (.kn 1 [14,5,1,0] r (.condP r hd (fun g hd=>?_) fun g hd=>?_))))
 · refine .sn [5,1,0] r (.seq (.block (.seq (.dr [0,1,2,3,4,5,6,7,8] 9 (.fk 2 r ?_)))))
   obtain ⟨e,x,c,hd⟩:=hd
   obtain ⟨y,o64,u,s,i,k⟩:=R3.2 _ _ c
   cases k
   refine .h r (fun _=>.ixa X2 sz2 r s r e (AH c e) r r .mk) (.h r (fun _=>.ld1 (j:=0) UT i r r r r r .mk) (.fk 2 r ?_))
   obtain ⟨f,z,d,hd⟩:=hd
   obtain ⟨A,o73,v,t,m,n⟩:=R6.2 _ _ d
   cases n
   refine .h r (fun _=>.ixa X2 sz2 r t r f (AH d f) r r .mk) (.h r (fun _=>.ld1 (j:=0) UT m r r r r r .mk) (.fk 1 r (.e2 9 (.no [25,5,1,0] r (.condP r hd (fun o hd=>?_) fun o hd=>?_)))))
   · exact .sr (.kn 1 [4] r (.r1 results98 r a ⟨false,r,hd⟩))
   exact .sn [5,1,0] r (.region (.ks 3 r (.nil' (je (AJ (b+1)) hd a [] r))))
 exact .en [] r (.sr (.kn 1 [4] r (.r1 results98 r a ⟨true,r,hd⟩)))
theorem XJ {a0 a1:Rows} {Q:Bool→Prop} (R3:RepSl AE I p1 c2 a0.Start) (R6:RepSl AE I p4 c5 a0.Col) (R9:RepSl AE I p7 c8 a0.Val) (R12:RepSl AE I p10 c11 a1.Start) (R15:RepSl AE I p13 c14 a1.Col) (R18:RepSl AE I p16 c17 a1.Val) (hd:IX a0 a1 Q) :
  BR prog 32 [.agg #[.int .i64 a0.Rows,.int .i64 a0.Cols,.slice p1 a0.Start.length c2,.slice p4 a0.Col.length c5,.slice p7 a0.Val.length c8],.agg #[.int .i64 a1.Rows,.int .i64 a1.Cols,.slice p10 a1.Start.length c11,.slice p13 a1.Col.length c14,.slice p16 a1.Val.length c17]] I (fun _=>dA Q):=by
 refine Fun.en func32 ntmps32 r fun w0 M=>?_
 refine .sr (.bx r fun l=>?_)
 refine .bx r fun m=>?_
 refine .ks 1 r (.nk [3,2] 1 r (.lo BF .p1 r (.ks 1 r (.lo BF .z r (.ks 2 r ?_)))))
 refine AQ hd (fun a hd=>?_) fun a hd=>?_
 · rw [a]
   refine .ks 1 r (.yes r (.lo BF .p1 r (.ks 1 r (.yes r (.lo BF .z r (.ks 3 r ?_))))))
   refine AQ hd (fun b hd=>?_) fun b hd=>?_
   · rw [b]
     refine .ks 1 r (.yes r (.lo GS .p1 r (.ks 1 r (.yes r (.lo GS .z r ?_)))))
     have e:=LG (I:=I) R3 R12 hd
     refine .yes r (.callP call52 r e r r fun n f=>?_)
     obtain ⟨o,rfl,hd⟩:=f
     refine .ks 2 r ?_
     refine AQ hd (fun c hd=>?_) fun c hd=>?_
     · rw [c]
       refine .ks 1 r (.yes r (.lo GS .p1 r (.ks 1 r (.yes r (.lo GS .z r ?_)))))
       have g:=LG (I:=I) R6 R15 hd
       refine .yes r (.callP call52 r g r r fun p h=>?_)
       obtain ⟨q,rfl,hd⟩:=h
       refine .ks 2 r ?_
       refine AQ hd (fun d hd=>?_) fun d hd=>?_
       · rw [d]
         refine .ks 1 r (.yes r (.lo qQ .p1 r (.ks 1 r (.yes r (.lo qQ .z r ?_)))))
         have i:=gL (I:=I) R9 R18 hd
         refine .yes r (.callP call98 r i r r fun s j=>?_)
         obtain ⟨k,rfl,hd⟩:=j
         exact .kn 2 [4] r (.drop .z (.drop .z (.r0 results32 r ⟨k,r,hd⟩)))
       rw [d]
       exact .kn 7 [4] r (.drop .z (.drop .z (.r0 results32 r ⟨false,r,hd⟩)))
     rw [c]
     exact .kn 14 [4] r (.drop .z (.drop .z (.r0 results32 r ⟨false,r,hd⟩)))
   rw [b]
   exact .kn 21 [4] r (.drop .z (.drop .z (.r0 results32 r ⟨false,r,hd⟩)))
 rw [a]
 exact .kn 28 [4] r (.drop .z (.drop .z (.r0 results32 r ⟨false,r,hd⟩)))
theorem XK {a0:AK} {a1 a2:Int} {Q:Bool→Prop} (R3:RepSl BU I p1 c2 a0.Edges) (hd:PE a0 a1 a2 Q) :
  BR prog 118 [.agg #[.int .i64 a0.N,.slice p1 a0.Edges.length c2],.int .i64 a1,.int .i64 a2] I (fun _=>dA Q):=by
 refine Fun.en func118 ntmps118 r fun w0 M=>?_
 refine .sr (.bx r fun y=>?_)
 refine .kn 1 [3,2,1] r (.seq (.sr (.kn 1 [7,3,2,1] r (.block (.lp hd [3,2,1] [0] r (fun j E l b=>j ((7,.int .i64 b) :: E) l) (ji rf [0] r) ?_)))))
 refine fun b q hd=>jq r fun u a=>?_
 have R3:=a.u1 R3
 refine .seq (.sk 2 r (.lo GV .z r (.ln CL r (.kn 1 [13,7,3,2,1] r (.condP r hd (fun n hd=>?_) fun n hd=>?_)))))
 · refine .sn [7,3,2,1] r (.seq (.block (.sk 1 r (.lo GV .z r (.ks 1 r ?_)))))
   obtain ⟨m,v,h,hd⟩:=hd
   obtain ⟨w,o94,t,s,o,p⟩:=R3.2 _ _ h
   cases p
   refine .ixa CL CN r s r m (AH h m) r r (.ldW MQ CN o r r r r (.al KZ r fun x=>?_))
   refine .sa CN .z r (.nk [8,7,3,2,1] 4 r ?_)
   refine AQ hd (fun c hd=>?_) fun c hd=>?_
   · rw [c]
     refine .ks 1 r (.yes r (.lo BF .z r (.ks 3 r ?_)))
     refine AQ hd (fun d hd=>?_) fun d hd=>?_
     · rw [d]
       refine .ks 1 r (.yes r (.lo BF .z r (.ks 4 r ?_)))
       refine AQ hd (fun e hd=>?_) fun e hd=>?_
       · rw [e]
         exact .kn 12 [47,7,3,2,1] r (.drop .z (.condKT r r (.sr (.kn 1 [6] r (.drop .z (.r1 results118 r a ⟨true,r,hd⟩))))))
       rw [e]
       refine .ks 1 r (.yes r (.lo BF .z r (.ks 3 r ?_)))
       refine AQ hd (fun f hd=>?_) fun f hd=>?_
       · rw [f]
         refine .ks 1 r (.yes r (.lo BF .z r (.kn 5 [47,7,3,2,1] r (.drop .z (.condP r hd (fun i hd=>?_) fun i hd=>?_)))))
         · exact .sr (.kn 1 [6] r (.drop .z (.r1 results118 r a ⟨true,r,hd⟩)))
         exact .sn [7,3,2,1] r (.region (.ks 3 r (.nil' (je (AJ (b+1)) hd a [0] r))))
       rw [f]
       exact .kn 7 [47,7,3,2,1] r (.drop .z (.condKF r r (.sn [7,3,2,1] r (.region (.ks 3 r (.nil' (je (AJ (b+1)) hd a [0] r)))))))
     rw [d]
     refine .ks 7 r (.yes r (.lo BF .z r (.ks 3 r ?_)))
     refine AQ hd (fun g hd=>?_) fun g hd=>?_
     · rw [g]
       refine .ks 1 r (.yes r (.lo BF .z r (.kn 5 [47,7,3,2,1] r (.drop .z (.condP r hd (fun k hd=>?_) fun k hd=>?_)))))
       · exact .sr (.kn 1 [6] r (.drop .z (.r1 results118 r a ⟨true,r,hd⟩)))
       exact .sn [7,3,2,1] r (.region (.ks 3 r (.nil' (je (AJ (b+1)) hd a [0] r))))
     rw [g]
     exact .kn 7 [47,7,3,2,1] r (.drop .z (.condKF r r (.sn [7,3,2,1] r (.region (.ks 3 r (.nil' (je (AJ (b+1)) hd a [0] r)))))))
   rw [c]
   exact .kn 23 [47,7,3,2,1] r (.drop .z (.condKF r r (.sn [7,3,2,1] r (.region (.ks 3 r (.nil' (je (AJ (b+1)) hd a [0] r)))))))
 exact .en [] r (.drop .z (.sr (.kn 1 [6] r (.r1 results118 r a ⟨false,r,hd⟩))))
theorem eY {a0:AK} {Q:(List (Int×Int×Int))→Prop} (R3:RepSl BU I p1 c2 a0.Edges) (hd:MN a0 Q) :
  BR prog 47 [.agg #[.int .i64 a0.N,.slice p1 a0.Edges.length c2]] I (AjM Q):=by
 refine Fun.en func47 ntmps47 r fun w0 M=>?_
 refine .sr (.bx r fun b9=>?_)
 refine .ks 1 r (.nk [1] 1 r (.no [3,1] r (.seq (.sr (.lw EJ CT .z r ?_)))))
 have U:=QE (I:=I) R3 hd
 refine .cq call57 U r fun b2 hd=>?_
 refine .kn 1 [9,3,1] r (.condP r hd (fun V hd=>?_) fun V hd=>?_)
 · exact .sr (.kn 2 [2] r (.drop .z (.r0 results47 r ⟨([]:List (Int×Int×Int)),_,_,r,(.nil _ _ _),hd⟩)))
 refine .sn [3,1] r (.seq (.sr (.kn 1 [4,3,1] r (.block (.own0 OV 99 (.lx hd [1] [1] r (fun j E l (i,f)=>fun c w=>∃ u v,j ⟨57,[],none⟩ (fun I_=>True) ((3,.slice u i.length v) :: (4,.int .i64 f) :: E) (OwnSl OV 99 u v i :: l) c w) (fun c w ho hs=>⟨_,_,jf rf trivial [0,0] r ho hs⟩) ?_))))))
 rintro ⟨i,f⟩ X hd c w ⟨u,v,b0,k,_,hok,hsym⟩
 have R3:=k.u1 R3
 refine Cod.at hok hsym (.seq (.sk 2 r (.lo BF .p1 r (.kn 1 [14,4,3,1] r (.condP r hd (fun S hd=>?_) fun S hd=>?_)))))
 · refine .sn [4,3,1] r (.seq (.block (.sr (.kn 3 [5,4,3,1] r (.block (.lx hd [4,1] [1] r (fun j E l (m,e)=>fun c w=>∃ x y,j ⟨57,[],none⟩ (fun I_=>True) ((3,.slice x m.length y) :: (5,.int .i64 e) :: E) (OwnSl OV 99 x y m :: l) c w) (fun c w ho hs=>⟨_,_,jf rf trivial [0,0] r ho hs⟩) ?_))))))
   rintro ⟨m,e⟩ Y hd c w ⟨x,y,b1,A,_,hok,hsym⟩
   obtain ⟨B,R3⟩:=A.u2 k R3
   refine Cod.at hok hsym (.seq (.sk 2 r (.lo BF .p1 r (.kn 1 [22,5,4,3,1] r (.condP r hd (fun C hd=>?_) fun C hd=>?_)))))
   · refine .sn [5,4,3,1] r (.seq (.block (.sr (.kn 3 [6,5,4,3,1] r (.block (.lx hd [5,4,1] [1] r (fun j E l (a,b)=>fun c w=>∃ p q,j ⟨57,[],none⟩ (fun I_=>True) ((3,.slice p a.length q) :: (6,.int .i64 b) :: E) (OwnSl OV 99 p q a :: l) c w) (fun c w ho hs=>⟨_,_,jf rf trivial [0,0] r ho hs⟩) ?_))))))
     rintro ⟨a,b⟩ W hd c w ⟨p,q,s,d,_,hok,hsym⟩
     obtain ⟨Z,t,R3⟩:=d.u3 B A R3
     refine Cod.at hok hsym (.seq (.sk 2 r (.lo BF .p1 r (.ks 2 r ?_))))
     refine AQ hd (fun g hd=>?_) fun g hd=>?_
     · rw [g]
       refine .yes r (.lw EJ CT .p1 r (.ks 2 r ?_))
       have D:=XK (I:=s) R3 hd
       refine .yes r (.callP call118 r D r r fun a1 F=>?_)
       obtain ⟨a2,rfl,hd⟩:=F
       refine .kn 1 [36,6,5,4,3,1] r (.condP r hd (fun G hd=>?_) fun G hd=>?_)
       · refine .sn [6,5,4,3,1] r (.seq (.block (.sr (.lw EJ CT .p1 r (.ks 2 r ?_)))))
         have H:=XK (I:=s) R3 hd
         refine .cq call118 H r fun a3 hd=>?_
         refine .ks 1 r ?_
         refine AQ hd (fun h hd=>?_) fun h hd=>?_
         · rw [h]
           refine .yes r (.lw EJ CT .p1 r (.ks 2 r ?_))
           have J:=XK (I:=s) R3 hd
           refine .yes r (.callP call118 r J r r fun a4 K=>?_)
           obtain ⟨a5,rfl,hd⟩:=K
           refine .kn 1 [48,6,5,4,3,1] r (.condP r hd (fun L hd=>?_) fun L hd=>?_)
           · refine .region (.ks 4 r (.buildArr qR nK EX (.c r r r (.o r) (.c r r r (.o r) (.c r r r (.o r) .n))) r r (.buildSlice 1 ZY dH qR r r (.c r r r .n) r r fun a6=>?_)))
             obtain ⟨O,hd⟩:=hd
             refine .append (ys:=[(f,e,b)]) 24 .p1 ZY ZY Aj6 r r r r r r r r r (.box .z (.one r) r) O r r fun a7 a8=>?_
             exact .kn 1 [3,6,5,4,1] r (.drop .p1 (.region (.ks 3 r (.nil' fun c w ho hs=>⟨((a++([(f,e,b)])),AJ (b+1)),hd,_,_,jf d trivial [0,0] r ho hs⟩))))
           exact .sn [6,5,4,3,1] r (.region (.ks 3 r (.nil' fun c w ho hs=>⟨(a,AJ (b+1)),hd,_,_,jf d trivial [0,0] r ho hs⟩)))
         rw [h]
         exact .kn 5 [48,6,5,4,3,1] r (.condKF r r (.sn [6,5,4,3,1] r (.region (.ks 3 r (.nil' fun c w ho hs=>⟨(a,AJ (b+1)),hd,_,_,jf d trivial [0,0] r ho hs⟩)))))
       exact .en [5,4,3,1] r (.region (.ks 3 r (.nil' fun c w ho hs=>⟨(a,AJ (e+1)),hd,_,_,jf t trivial [0,0] r ho hs⟩)))
     rw [g]
     exact .kn 5 [36,6,5,4,3,1] r (.condKF r r (.en [5,4,3,1] r (.region (.ks 3 r (.nil' fun c w ho hs=>⟨(a,AJ (e+1)),hd,_,_,jf t trivial [0,0] r ho hs⟩)))))
   exact .en [4,3,1] r (.region (.ks 3 r (.nil' fun c w ho hs=>⟨(m,AJ (f+1)),hd,_,_,jf B trivial [0,0] r ho hs⟩)))
 refine .en [3] r (.drop .p1 (.sr (.kn 2 [2] r (.pub .z fun a9 P T=>?_))))
 have R:=P.u1 k
 exact .r1 results47 r R ⟨i,_,_,r,T,hd⟩
theorem oF {a0:AK} {Q:AK→Prop} (R3:RepSl BU I p1 c2 a0.Edges) (hd:VG a0 Q) :
  BR prog 123 [.agg #[.int .i64 a0.N,.slice p1 a0.Edges.length c2]] I (o5_ Q):=by
 refine Fun.en func123 ntmps123 r fun w0 M=>?_
 refine .sr (.bx r fun c1=>?_)
 refine .al MR r fun c3=>?_
 refine .nk [2,1] 1 r (.lo BF .p1 r (.build MR fH nF (.c r r r (.o r) .n) (by exact ⟨⟨_,_,r,r,r⟩,trivial⟩) r r (.al MR r fun Z=>?_)))
 refine .sa CT .z r (.no [3,2,1] r (.seq (.sr (.kn 1 [4,3,2,1] r (.block (.own0 BU 49 (.lx hd [3,2,1] [3,2] r (fun j E l (a,d)=>fun c w=>∃ e f,j ⟨40,[],none⟩ (fun I_=>True) ((4,.int .i64 d) :: E) (pto Z (.cells #[.int .i64 a0.N,.slice e a.length f] 24 (0,0)) :: OwnSl BU 49 e f a :: l) c w) (fun c w ho hs=>⟨_,_,jf rf trivial [1,0,1,0] r ho hs⟩) ?_)))))))
 rintro ⟨a,d⟩ Y hd c w ⟨e,f,a6,b,_,hok,hsym⟩
 have R3:=b.u1 R3
 refine Cod.at hok hsym (.seq (.sk 2 r (.lo GV .p2 r (.ln CL r (.kn 1 [12,4,3,2,1] r (.condP r hd (fun u hd=>?_) fun u hd=>?_))))))
 · refine .sn [4,3,2,1] r (.seq (.block (.seq (.ownF .p1 fun a1=>?_))))
   refine .dr [0,1,2,3,4,5,6,7,8,9,10,11,12] 13 (.fk 1 r (.h r (fun _=>.lo GV .p2 r .mk) (.fk 1 r ?_)))
   obtain ⟨p,a7,i,hd⟩:=hd
   obtain ⟨a8,o181,a3,S,v,x⟩:=R3.2 _ _ i
   cases x
   refine .h r (fun _=>.ixa CL CN r S r p (AH i p) r r .mk) (.fk 1 r (.h r (fun _=>.ld1 (j:=1) BF v r r r r r .mk) (.fk 1 r (.h r (fun _=>.lo GV .p2 r .mk) (.fk 1 r ?_)))))
   obtain ⟨q,a9,k,hd⟩:=hd
   obtain ⟨b0,o190,a4,T,y,A⟩:=R3.2 _ _ k
   cases A
   refine .h r (fun _=>.ixa CL CN r T r q (AH k q) r r .mk) (.fk 1 r (.h r (fun _=>.ld1 (j:=0) BF y r r r r r .mk) (.fk 1 r (.e2 13 (.no [27,4,3,2,1] r (.condP r hd (fun B hd=>?_) fun B hd=>?_))))))
   · refine .ownF .p1 fun a2=>?_
     refine .dr [0,1,2,3,4,5,6,7,8] 9 (.fk 1 r (.h r (fun _=>.lo GV .z r .mk) (.fk 1 r (.h r (fun _=>.lo GV .p2 r .mk) (.fk 1 r ?_)))))
     obtain ⟨s,t,m,hd⟩:=hd
     obtain ⟨b1,o201,a5,U,C,D⟩:=R3.2 _ _ m
     cases D
     refine .h r (fun _=>.ixa CL CN r U r s (AH m s) r r .mk) (.h r (fun _=>.ldW MQ CN C r r r r .mk) (.ww r fun ex=>?_))
     refine .buildSlice 1 CL CN KZ r r (.c r r r .n) r r fun b2=>?_
     refine .so 5 r r r (.ch r (fun _=>.lo GV .p1 r .mk) (.ck 1 r r trivial)) (.ww r fun ex=>?_)
     obtain ⟨F,hd⟩:=hd
     refine .append (ys:=[t]) 24 .p2 CL CL kL r r r r r r r r r (.box .z (.one r) r) F r r fun b3 b4=>?_
     exact .so 5 r r r trivial (.e2 9 (.ks 1 r (.s1 sizeOf22 .p2 r (.no [4,3,2,1] r (.drop .p1 (.region (.ks 3 r (.nil' fun c w ho hs=>⟨((a++([t])),AJ (d+1)),hd,_,_,jf b trivial [1,0,0,0] r ho hs⟩))))))))
   exact .sn [4,3,2,1] r (.region (.ks 3 r (.nil' fun c w ho hs=>⟨(a,AJ (d+1)),hd,_,_,jf b trivial [0,0,0,0] r ho hs⟩)))
 refine .en [3,2] r (.drop .p2 (.sr (.lw EJ CT .z r (.pub .p1 fun V G g=>?_))))
 have H:=G.u1 b
 have J:=QD (I:=V) (a0:=({ N:=a0.N,Edges:=a }:AK)) g hd
 refine .callO call55 r J r r fun b5 b6 b7 K L=>?_
 obtain ⟨W,b8,b9,rfl,rfl,hd⟩:=L
 obtain ⟨O,g⟩:=K.u2 H g
 refine .sa CT .p2 r (.no [2] r (.drop .p1 (.pub .z fun c0 P X=>?_)))
 have R:=P.u1 O
 exact .ret (BS results123 (.w EJ CT r .z r .n) R ⟨W,_,_,r,X,hd⟩)
theorem tG {a0:AK} {Q:AK→Prop} (R3:RepSl BU I p1 c2 a0.Edges) (hd:X1 a0 Q) :
  BR prog 124 [.agg #[.int .i64 a0.N,.slice p1 a0.Edges.length c2]] I (o5_ Q):=by
 refine Fun.en func124 ntmps124 r fun w0 M=>?_
 refine .sr (.bx r fun t=>?_)
 refine .al MR r fun u=>?_
 refine .ns [2,1] r (.lw EJ CT .p1 r ?_)
 have d:=eX (I:=I) R3 hd
 refine .callO call58 r d r r fun v x y a e=>?_
 obtain ⟨c,A,B,rfl,rfl,hd⟩:=e
 have R3:=a.u1 R3
 refine .al MR r fun C=>?_
 refine .sa CT .z r (.nk [3,2,1] 1 r (.lo GV .z r (.ks 1 r (.lo GV .p3 r ?_))))
 obtain ⟨f,hd⟩:=hd
 refine .append (ys:=a0.Edges) 24 .p1 CL CL kL r r r r r r r r r (.imm R3 r) f r r fun D E=>?_
 refine .ks 1 r (.s1 sizeOf22 .p1 r (.no [3,2] r (.drop .p3 (.sr (.lw EJ CT .p1 r (.pub .z fun p g b=>?_))))))
 have h:=g.u1 a
 have i:=QD (I:=p) (a0:=({ N:=c.N,Edges:=(c.Edges++a0.Edges) }:AK)) b hd
 refine .callO call55 r i r r fun F G H j k=>?_
 obtain ⟨q,J,K,rfl,rfl,hd⟩:=k
 obtain ⟨l,b⟩:=j.u2 h b
 refine .sa CT .p2 r (.no [2] r (.drop .p1 (.pub .z fun L m s=>?_)))
 have o:=m.u1 l
 exact .ret (BS results124 (.w EJ CT r .z r .n) o ⟨q,_,_,r,s,hd⟩)
theorem jD {a0:AK} {a1 a2:Int} {Q:(BI×Int)→Prop} (R3:RepSl BU I p1 c2 a0.Edges) (hd:JL a0 a1 a2 Q) :
  BR prog 49 [.agg #[.int .i64 a0.N,.slice p1 a0.Edges.length c2],.int .i64 a1,.int .i64 a2] I (AjL Q):=by
 refine Fun.en func49 ntmps49 r fun w0 M=>?_
 refine .sr (.bx r fun a6=>?_)
 refine .al XR r fun a7=>?_
 refine .kn 1 [6,3,2,1] r (.seq (.sr (.lw EJ CT .p1 r ?_)))
 have s:=QE (I:=I) R3 hd
 refine .cq call57 s r fun P hd=>?_
 refine .ks 1 r (.nk [8,6,3,2,1] 2 r (.no [14,8,6,3,2,1] r (.condP r hd (fun u hd=>?_) fun u hd=>?_)))
 · exact .sr (.build XR nI nG .n (by exact trivial) r r (.ks 1 r (.sa KH .z r (.kn 1 [7,6] r (.drop .p1 (.ret (BS results49 (.w WI KH r .z r (.t r .n)) rf ⟨(({ Ring:=0,A:=({ Rows:=0,Cols:=0,Start:=([]:List Int),Col:=([]:List Int),Val:=([]:List Int) }:Rows),B:=({ Rows:=0,Cols:=0,Start:=([]:List Int),Col:=([]:List Int),Val:=([]:List Int) }:Rows),Mask:=({ Rows:=0,Cols:=0,Start:=([]:List Int),Col:=([]:List Int),Val:=([]:List Int) }:Rows),R:=0,C:=0,Room:=0 }:BI),P),_,_,_,_,_,_,_,_,_,_,_,_,_,_,_,_,_,_,r,(.nil _ _ _),(.nil _ _ _),(.nil _ _ _),(.nil _ _ _),(.nil _ _ _),(.nil _ _ _),(.nil _ _ _),(.nil _ _ _),(.nil _ _ _),hd⟩)))))))
 refine .sn [6,3,2,1] r (.seq (.sk 3 r ?_))
 refine AQ hd (fun d hd=>?_) fun d hd=>?_
 · rw [d]
   exact .kn 11 [30,6,3,2,1] r (.condKT r r (.sr (.build XR nI nG .n (by exact trivial) r r (.sa KH .z r (.kn 1 [7,6] r (.drop .p1 (.ret (BS results49 (.w WI KH r .z r (.t r .n)) rf ⟨(({ Ring:=0,A:=({ Rows:=0,Cols:=0,Start:=([]:List Int),Col:=([]:List Int),Val:=([]:List Int) }:Rows),B:=({ Rows:=0,Cols:=0,Start:=([]:List Int),Col:=([]:List Int),Val:=([]:List Int) }:Rows),Mask:=({ Rows:=0,Cols:=0,Start:=([]:List Int),Col:=([]:List Int),Val:=([]:List Int) }:Rows),R:=0,C:=0,Room:=0 }:BI),3),_,_,_,_,_,_,_,_,_,_,_,_,_,_,_,_,_,_,r,(.nil _ _ _),(.nil _ _ _),(.nil _ _ _),(.nil _ _ _),(.nil _ _ _),(.nil _ _ _),(.nil _ _ _),(.nil _ _ _),(.nil _ _ _),hd⟩))))))))
 rw [d]
 refine .ks 4 r ?_
 refine AQ hd (fun e hd=>?_) fun e hd=>?_
 · rw [e]
   exact .kn 7 [30,6,3,2,1] r (.condKT r r (.sr (.build XR nI nG .n (by exact trivial) r r (.sa KH .z r (.kn 1 [7,6] r (.drop .p1 (.ret (BS results49 (.w WI KH r .z r (.t r .n)) rf ⟨(({ Ring:=0,A:=({ Rows:=0,Cols:=0,Start:=([]:List Int),Col:=([]:List Int),Val:=([]:List Int) }:Rows),B:=({ Rows:=0,Cols:=0,Start:=([]:List Int),Col:=([]:List Int),Val:=([]:List Int) }:Rows),Mask:=({ Rows:=0,Cols:=0,Start:=([]:List Int),Col:=([]:List Int),Val:=([]:List Int) }:Rows),R:=0,C:=0,Room:=0 }:BI),3),_,_,_,_,_,_,_,_,_,_,_,_,_,_,_,_,_,_,r,(.nil _ _ _),(.nil _ _ _),(.nil _ _ _),(.nil _ _ _),(.nil _ _ _),(.nil _ _ _),(.nil _ _ _),(.nil _ _ _),(.nil _ _ _),hd⟩))))))))
 rw [e]
 refine .ks 4 r ?_
 refine AQ hd (fun f hd=>?_) fun f hd=>?_
 · rw [f]
   exact .kn 3 [30,6,3,2,1] r (.condKT r r (.sr (.build XR nI nG .n (by exact trivial) r r (.sa KH .z r (.kn 1 [7,6] r (.drop .p1 (.ret (BS results49 (.w WI KH r .z r (.t r .n)) rf ⟨(({ Ring:=0,A:=({ Rows:=0,Cols:=0,Start:=([]:List Int),Col:=([]:List Int),Val:=([]:List Int) }:Rows),B:=({ Rows:=0,Cols:=0,Start:=([]:List Int),Col:=([]:List Int),Val:=([]:List Int) }:Rows),Mask:=({ Rows:=0,Cols:=0,Start:=([]:List Int),Col:=([]:List Int),Val:=([]:List Int) }:Rows),R:=0,C:=0,Room:=0 }:BI),3),_,_,_,_,_,_,_,_,_,_,_,_,_,_,_,_,_,_,r,(.nil _ _ _),(.nil _ _ _),(.nil _ _ _),(.nil _ _ _),(.nil _ _ _),(.nil _ _ _),(.nil _ _ _),(.nil _ _ _),(.nil _ _ _),hd⟩))))))))
 rw [f]
 refine .kn 3 [30,6,3,2,1] r (.condP r hd (fun v hd=>?_) fun v hd=>?_)
 · exact .sr (.build XR nI nG .n (by exact trivial) r r (.sa KH .z r (.kn 1 [7,6] r (.drop .p1 (.ret (BS results49 (.w WI KH r .z r (.t r .n)) rf ⟨(({ Ring:=0,A:=({ Rows:=0,Cols:=0,Start:=([]:List Int),Col:=([]:List Int),Val:=([]:List Int) }:Rows),B:=({ Rows:=0,Cols:=0,Start:=([]:List Int),Col:=([]:List Int),Val:=([]:List Int) }:Rows),Mask:=({ Rows:=0,Cols:=0,Start:=([]:List Int),Col:=([]:List Int),Val:=([]:List Int) }:Rows),R:=0,C:=0,Room:=0 }:BI),3),_,_,_,_,_,_,_,_,_,_,_,_,_,_,_,_,_,_,r,(.nil _ _ _),(.nil _ _ _),(.nil _ _ _),(.nil _ _ _),(.nil _ _ _),(.nil _ _ _),(.nil _ _ _),(.nil _ _ _),(.nil _ _ _),hd⟩))))))
 refine .sn [6,3,2,1] r (.sr (.lw EJ CT .p1 r ?_))
 have x:=tG (I:=I) R3 hd
 refine .call call124 r x r r fun a8 S j y=>?_
 obtain ⟨a9,b0,b1,rfl,a,hd⟩:=y
 have R3:=j.u1 R3
 have D:=oF (I:=S) a hd
 refine .call call123 r D r r fun b2 T E F=>?_
 obtain ⟨b3,b4,b5,rfl,b,hd⟩:=F
 obtain ⟨G,R3,a⟩:=E.u3 j R3 a
 have H:=oB (I:=T) b hd
 refine .call call13 r H r r fun b6 U J K=>?_
 obtain ⟨b7,b8,b9,rfl,k,hd⟩:=K
 obtain ⟨L,R3,a,b⟩:=J.u4 G R3 a b
 have m:=oE (I:=U) k hd
 refine .call call15 r m r r fun V c0 O p=>?_
 obtain ⟨l,W,X,Y,Z,a3,a4,rfl,g,h,i,hd⟩:=p
 obtain ⟨q,R3,a,b,k⟩:=O.u5 L R3 a b k
 refine .ks 3 r (.al FO r fun a5=>?_)
 refine .sa BH .z r (.kn 1 [9,6,2,1] r (.drop .p2 (.sr (.lw CF BH .z r (.lw CF BH .z r (.lw CF BH .z r (.ks 2 r (.build XR nI nG (.c r r r (.o r) (.c r r r (.o r) (.c r r r (.o r) (.c r r r (.o r) (.c r r r (.o r) (.c r r r (.o r) (.c r r r (.o r) .n))))))) (by exact ⟨⟨_,_,r,r,r⟩,⟨⟨_,_,r,r,r⟩,⟨⟨_,_,r,r,r⟩,⟨⟨_,_,r,r,r⟩,⟨⟨_,_,r,r,r⟩,⟨⟨_,_,r,r,r⟩,⟨⟨_,_,r,r,r⟩,trivial⟩⟩⟩⟩⟩⟩⟩) r r (.sa KH .p1 r ?_)))))))))
 exact .kn 1 [7,6] r (.drop .z (.ret (BS results49 (.w WI KH r .z r (.t r .n)) q ⟨(({ Ring:=5,A:=l.1,B:=l.1,Mask:=l.1,R:=a1,C:=a2,Room:=4 }:BI),0),_,_,_,_,_,_,_,_,_,_,_,_,_,_,_,_,_,_,r,g,h,i,g,h,i,g,h,i,hd⟩)))
theorem Aa7 {a0:AK} {Q:(List Int)→Prop} (R3:RepSl BU I p1 c2 a0.Edges) (hd:WF a0 Q) :
  BR prog 54 [.agg #[.int .i64 a0.N,.slice p1 a0.Edges.length c2]] I (AhY Q):=by
 refine Fun.en func54 ntmps54 r fun w0 M=>?_
 refine .sr (.bx r fun b9=>?_)
 refine .kn 1 [1] r (.seq (.sr (.lw EJ CT .z r ?_)))
 have Z:=QE (I:=I) R3 hd
 refine .cq call57 Z r fun d0 hd=>?_
 refine .kn 1 [9,1] r (.condP r hd (fun a1 hd=>?_) fun a1 hd=>?_)
 · exact .sr (.kn 1 [2] r (.drop .z (.r0 results54 r ⟨([]:List Int),_,_,r,(.nil _ _ _),hd⟩)))
 refine .sn [1] r (.sk 1 r (.lo BF .z r ?_))
 obtain ⟨b3,b4,hd⟩:=hd
 refine .make (El:=AE) (zv:=0) 8 BT IN3 r r r r r r b3 b4 r r r fun d1=>?_
 refine .ks 1 r (.ns [3,1] r (.lw EJ CT .p1 r ?_))
 have a2:=eY (I:=I) R3 hd
 refine .call call47 r a2 r r fun d2 d3 v a3=>?_
 obtain ⟨d4,d5,d6,rfl,f,hd⟩:=a3
 have R3:=v.u1 R3
 refine .kn 1 [4,3] r (.drop .p1 (.seq (.sr (.kn 1 [5,4,3] r (.block (.lx hd [4] [] r (fun j E l (b,a)=>fun c w=>∃ g h,j ⟨37,[],none⟩ (fun I_=>True) ((3,.slice g b.length h) :: (5,.int .i64 a) :: E) (OwnSl AE 3 g h b :: l) c w) (fun c w ho hs=>⟨_,_,jf rf trivial [0] r ho hs⟩) ?_))))))
 rintro ⟨b,a⟩ b2 hd c w ⟨g,h,c0,d,_,hok,hsym⟩
 obtain ⟨O,f⟩:=d.u2 v f
 refine Cod.at hok hsym (.seq (.sk 2 r (.ln ZY r (.kn 1 [18,5,4,3] r (.condP r hd (fun P hd=>?_) fun P hd=>?_)))))
 · refine .sn [5,4,3] r (.seq (.block (.sr (.kn 1 [6,5,4,3] r (.block (.unroll 3 (.seq (.sr (.kn 2 [22,6,5,4,3] r ?_)))))))))
   refine .condKT r (by decide) (.sn [6,5,4,3] r (.seq (.block (.region (.ks 4 r ?_)))))
   obtain ⟨x,a4,k,hd⟩:=hd
   obtain ⟨c1,o177,b5,a5,R,S⟩:=f.2 _ _ k
   cases S
   refine .ixa ZY dH r a5 r x (AH k x) r r (.ixArr (i:=0) nK EX r r (by decide) (o:=o177+a.toNat*3) r r r (.ld1 (j:=0) BF R r r r r r ?_))
   obtain ⟨y,A,e,hd⟩:=hd
   refine .ownNe .z (DO e) fun c3 a6=>?_
   cases a6
   refine .ixa0 BT EX r r y (AH e y) r r (.lo1 (j:=0) BF .z e r r r r r (.ks 1 r ?_))
   obtain ⟨B,c4,m,hd⟩:=hd
   refine .ixa0 BT EX r r B (AH m B) r r (.stO1 (j:=0) (v':=(AJ (A+1))) EX .z m r r r (.o r) r (.rl .z [3,25] r (by simp only [List.length_set]) (.no [6,5,4,3] r (.region (.ks 2 r (.sub (E':=[(3,_),(4,_),(5,_),(6,_),(23,_),(24,.int .i64 1)]) ⟨r,r,r,r,r,(by first | (rw [show AJ (0+1)=1 by decide]; rfl) | (rw [show IntKind.i64.wrap (0+1)=1 by decide]; rfl)),trivial⟩ (.ks 1 r (.nil' fun c w ho hs=>Unr.mk (Cod.at (E:=[(3,_),(4,_),(5,_),(6,_)]) (ho.sub ⟨r,r,r,r,trivial⟩) hs (.seq ?_))))))))))
   refine .sr (.kn 2 [22,6,5,4,3] r (.condKT r (by decide) (.sn [6,5,4,3] r (.seq (.block (.region (.ks 4 r ?_)))))))
   obtain ⟨C,a7,n,hd⟩:=hd
   obtain ⟨c5,o194,b6,a8,T,U⟩:=f.2 _ _ n
   cases U
   refine .ixa ZY dH r a8 r C (AH n C) r r (.ixArr (i:=1) nK EX r r (by decide) (o:=o194+a.toNat*3+1) r r r (.ld1 (j:=1) BF T r r r r r ?_))
   obtain ⟨D,F,p,hd⟩:=hd
   refine .ixa0 BT EX r r D (AH p D) r r (.lo1 (j:=0) BF .z p r r r r r (.ks 1 r ?_))
   obtain ⟨G,c6,q,hd⟩:=hd
   refine .ixa0 BT EX r r G (AH q G) r r (.stO1 (j:=0) (v':=(AJ (F+1))) EX .z q r r r (.o r) r (.rl .z [3,25] r (by simp only [List.length_set]) (.no [6,5,4,3] r (.region (.ks 2 r (.sub (E':=[(3,_),(4,_),(5,_),(6,_),(23,_),(24,.int .i64 2)]) ⟨r,r,r,r,r,(by first | (rw [show AJ (1+1)=2 by decide]; rfl) | (rw [show IntKind.i64.wrap (1+1)=2 by decide]; rfl)),trivial⟩ (.ks 1 r (.nil' fun c w ho hs=>Unr.mk (Cod.at (E:=[(3,_),(4,_),(5,_),(6,_)]) (ho.sub ⟨r,r,r,r,trivial⟩) hs (.seq ?_))))))))))
   refine .sr (.kn 2 [22,6,5,4,3] r (.condKT r (by decide) (.sn [6,5,4,3] r (.seq (.block (.region (.ks 4 r ?_)))))))
   obtain ⟨H,a9,s,hd⟩:=hd
   obtain ⟨c7,o209,b7,b0,V,W⟩:=f.2 _ _ s
   cases W
   refine .ixa ZY dH r b0 r H (AH s H) r r (.ixArr (i:=2) nK EX r r (by decide) (o:=o209+a.toNat*3+2) r r r (.ld1 (j:=2) BF V r r r r r ?_))
   obtain ⟨J,K,t,hd⟩:=hd
   refine .ixa0 BT EX r r J (AH t J) r r (.lo1 (j:=0) BF .z t r r r r r (.ks 1 r ?_))
   obtain ⟨L,c8,u,hd⟩:=hd
   refine .ixa0 BT EX r r L (AH u L) r r (.stO1 (j:=0) (v':=(AJ (K+1))) EX .z u r r r (.o r) r (.rl .z [3,25] r (by simp only [List.length_set]) (.no [6,5,4,3] r (.region (.ks 2 r (.sub (E':=[(3,_),(4,_),(5,_),(6,_),(23,_),(24,.int .i64 3)]) ⟨r,r,r,r,r,(by first | (rw [show AJ (2+1)=3 by decide]; rfl) | (rw [show IntKind.i64.wrap (2+1)=3 by decide]; rfl)),trivial⟩ (.ks 1 r (.nil' fun c w ho hs=>Unr.mk (Cod.at (E:=[(3,_),(4,_),(5,_),(6,_)]) (ho.sub ⟨r,r,r,r,trivial⟩) hs (.seq ?_))))))))))
   exact .sr (.kn 2 [22,6,5,4,3] r (.condKF r (by decide) (.en [5,4,3] r (.region (.ks 3 r (.nil' fun c w ho hs=>⟨((((b.set a4.1.toNat (AJ (A+1))).set a7.2.1.toNat (AJ (F+1))).set a9.2.2.toNat (AJ (K+1))),AJ (a+1)),hd,_,_,jf d trivial [0] r ho hs⟩))))))
 refine .en [3] r (.sr (.kn 2 [2] r (.pub .z fun c9 X b1=>?_)))
 obtain ⟨Y,b8⟩:=X.u2 O d
 exact .r1 results54 r Y ⟨b,_,_,r,b1,hd⟩
theorem gM {a0:AK} {a1 a2:Int} {Q:Bool→Prop} (R3:RepSl BU I p1 c2 a0.Edges) (hd:TV a0 a1 a2 Q) :
  BR prog 10 [.agg #[.int .i64 a0.N,.slice p1 a0.Edges.length c2],.int .i64 a1,.int .i64 a2] I (fun _=>dA Q):=by
 refine Fun.en func10 ntmps10 r fun w0 M=>?_
 refine .sr (.bx r fun b6=>?_)
 refine .kn 1 [3,2,1] r (.seq (.jn hd [3,2,1] [0] r (fun j E l _=>j E l) (fun n3 hd=>?_) ?_))
 · skip
   refine .sk 1 r (.lo GV .z r (.ln CL r (.ks 2 r ?_)))
   refine AQ hd (fun t hd=>?_) fun t hd=>?_
   · rw [t]
     refine .ks 1 r (.yes r (.lo GV .z r (.yes r (.ln CL r (.ks 3 r ?_)))))
     refine AQ hd (fun u hd=>?_) fun u hd=>?_
     · rw [u]
       refine .kn 9 [33,3,2,1] r (.condKT r r (.sr ?_))
       have d7:=SK (I:=I) hd
       refine .cq call46 d7 r fun g0 hd=>?_
       exact .kn 1 [6] r (.drop .z (.r0 results10 r ⟨g0,r,hd⟩))
     rw [u]
     refine .ks 1 r (.yes r (.lo BF .z r (.ks 2 r ?_)))
     refine AQ hd (fun v hd=>?_) fun v hd=>?_
     · rw [v]
       refine .ks 1 r (.yes r (.lo BF .z r (.kn 3 [33,3,2,1] r (.condP r hd (fun d8 hd=>?_) fun d8 hd=>?_))))
       · refine .sr ?_
         have d9:=SK (I:=I) hd
         refine .cq call46 d9 r fun g1 hd=>?_
         exact .kn 1 [6] r (.drop .z (.r0 results10 r ⟨g1,r,hd⟩))
       exact .skip' (je () hd rf [0] r)
     rw [v]
     exact .kn 5 [33,3,2,1] r (.condKF r r (.skip' (je () hd rf [0] r)))
   rw [t]
   refine .ks 7 r (.yes r (.lo BF .z r (.ks 2 r ?_)))
   refine AQ hd (fun w hd=>?_) fun w hd=>?_
   · rw [w]
     refine .ks 1 r (.yes r (.lo BF .z r (.kn 3 [33,3,2,1] r (.condP r hd (fun e0 hd=>?_) fun e0 hd=>?_))))
     · refine .sr ?_
       have e1:=SK (I:=I) hd
       refine .cq call46 e1 r fun g2 hd=>?_
       exact .kn 1 [6] r (.drop .z (.r0 results10 r ⟨g2,r,hd⟩))
     exact .skip' (je () hd rf [0] r)
   rw [w]
   exact .kn 5 [33,3,2,1] r (.condKF r r (.skip' (je () hd rf [0] r)))
 refine fun _ hd=>jq r fun g3 S=>?_
 have R3:=S.u1 R3
 refine .sr (.lw EJ CT .z r (.ks 2 r ?_))
 have V:=W2 (I:=g3) R3 hd
 refine .call call48 r V r r fun g5 e3 W X=>?_
 obtain ⟨e4,g6,g7,g8,g9,h0,h1,h2,h3,h4,h5,h6,h7,h8,h9,i0,i1,i2,i3,rfl,x,y,A,B,C,D,F,G,H,hd⟩:=X
 obtain ⟨Y,R3⟩:=W.u2 S R3
 refine .ks 3 r (.al XR r fun i4=>?_)
 refine .sa KH .z r (.ks 1 r (.ns [8,7,3,2,1] r (.lw EJ CT .p1 r (.ks 2 r ?_))))
 have Z:=jD (I:=e3) R3 hd
 refine .call call49 r Z r r fun i5 J O a3=>?_
 obtain ⟨e5,i6,i7,i8,i9,j0,j1,j2,j3,j4,j5,j6,j7,j8,j9,k0,k1,k2,k3,rfl,e6,e7,e8,e9,f0,f1,f2,f3,f4,hd⟩:=a3
 obtain ⟨a4,R3,x,y,A,B⟩:=O.u6 Y R3 x y A B
 obtain ⟨C,D,F,G,H⟩:=O.u5 C D F G H
 refine .ks 3 r (.al XR r fun k4=>?_)
 refine .sa KH .z r (.kn 1 [10,9,8,7,3,2,1] r (.seq (.jn hd [10,8,3,2,1] [2] r (fun j E l T=>j ((11,.bool T) :: E) l) (fun k5 hd=>?_) ?_)))
 · skip
   refine .region (.ks 1 r (.lo kU .p1 r (.ks 1 r (.lo kU .z r (.ks 2 r ?_)))))
   refine AQ hd (fun k hd=>?_) fun k hd=>?_
   · rw [k]
     refine .ks 1 r (.yes r (.loadA CF BH r .p1 (.o 5 r) r r r (.ks 1 r (.yes r (.loadA CF BH r .z (.o 5 r) r r r ?_)))))
     have a5:=XJ (I:=J) x y A e6 e7 e8 hd
     refine .yes r (.callP call32 r a5 r r fun k6 a6=>?_)
     obtain ⟨k7,rfl,hd⟩:=a6
     refine .ks 2 r ?_
     refine AQ hd (fun m hd=>?_) fun m hd=>?_
     · rw [m]
       refine .ks 1 r (.yes r (.loadA CF BH r .p1 (.o 5 r) r r r (.ks 1 r (.yes r (.loadA CF BH r .z (.o 5 r) r r r ?_)))))
       have a7:=XJ (I:=J) B C D e9 f0 f1 hd
       refine .yes r (.callP call32 r a7 r r fun k8 a8=>?_)
       obtain ⟨k9,rfl,hd⟩:=a8
       refine .ks 2 r ?_
       refine AQ hd (fun n hd=>?_) fun n hd=>?_
       · rw [n]
         refine .ks 1 r (.yes r (.loadA CF BH r .p1 (.o 5 r) r r r (.ks 1 r (.yes r (.loadA CF BH r .z (.o 5 r) r r r ?_)))))
         have a9:=XJ (I:=J) F G H f2 f3 f4 hd
         refine .yes r (.callP call32 r a9 r r fun l0 b0=>?_)
         obtain ⟨l1,rfl,hd⟩:=b0
         refine .ks 2 r ?_
         refine AQ hd (fun p hd=>?_) fun p hd=>?_
         · rw [p]
           refine .ks 1 r (.yes r (.lo BF .p1 r (.ks 1 r (.yes r (.lo BF .z r (.ks 3 r ?_))))))
           refine AQ hd (fun q hd=>?_) fun q hd=>?_
           · rw [q]
             refine .ks 1 r (.yes r (.lo BF .p1 r (.ks 1 r (.yes r (.lo BF .z r (.ks 3 r ?_))))))
             refine AQ hd (fun s hd=>?_) fun s hd=>?_
             · rw [s]
               exact .ks 1 r (.yes r (.lo BF .p1 r (.ks 1 r (.yes r (.lo BF .z r (.ks 3 r (.nil' (je (e4.1.Room==e5.1.Room) hd rf [2] r))))))))
             rw [s]
             exact .ks 7 r (.nil' (je false hd rf [2] r))
           rw [q]
           exact .ks 14 r (.nil' (je false hd rf [2] r))
         rw [p]
         exact .ks 21 r (.nil' (je false hd rf [2] r))
       rw [n]
       exact .ks 28 r (.nil' (je false hd rf [2] r))
     rw [m]
     exact .ks 35 r (.nil' (je false hd rf [2] r))
   rw [k]
   exact .ks 42 r (.nil' (je false hd rf [2] r))
 refine fun T hd=>jq r fun K P=>?_
 obtain ⟨f,R3⟩:=P.u2 a4 R3
 refine .sr (.lw EJ CT .z r (.ks 2 r ?_))
 have b1:=gK (I:=K) R3 hd
 refine .cq call45 b1 r fun l2 hd=>?_
 refine .kn 5 [13,11,10,8,3] r (.seq (.dr [0,1,2,3,4,5,6,7,8,9,10,11,12,13,14,15,17,16,18,19,20,21,22,24,23,25,26,27] 28 (.ww r fun ex=>?_)))
 have b2:=SK (I:=K) hd
 refine .cq call46 b2 r fun l3 hd=>?_
 refine .so 1 r r r trivial (.fk 1 r ?_)
 refine AQ hd (fun c hd=>?_) fun c hd=>?_
 · refine .h r (fun _=>.gyes r r c (.move r r r .mk)) (.h r (fun _=>.gyes r r c (.move r r r .mk)) (.h r (fun _=>.gyes r r c (.eq r r r r .mk)) (.h r (fun _=>.pickT r c r r r .mk) (.fk 1 r ?_))))
   refine AQ hd (fun g hd=>?_) fun g hd=>?_
   · refine .h r (fun _=>.gyes r r g (.move r r r .mk)) (.h r (fun _=>.pickT r g r r r .mk) (.fk 1 r ?_))
     refine AQ hd (fun d hd=>?_) fun d hd=>?_
     · refine .h r (fun _=>.gyes r r d (.move r r r .mk)) (.h r (fun _=>.gyes r r d (.move r r r .mk)) (.h r (fun _=>.gyes r r d (.eq r r r r .mk)) (.h r (fun _=>.pickT r d r r r .mk) (.fk 1 r ?_))))
       refine AQ hd (fun a hd=>?_) fun a hd=>?_
       · refine .h r (fun _=>.gyes r r a (.lw EJ CT .z r .mk)) (.h r (fun _=>.gyes r r a (.lw EJ CT .z r .mk)) (.ww r fun ex=>?_))
         have b3:=mZ (I:=K) R3 hd
         refine .gyes r r a (.call call51 r b3 r r fun l4 f5 b4 b5=>?_)
         obtain ⟨l5,l6,l7,rfl,e,hd⟩:=b5
         obtain ⟨b7,b8,R3⟩:=b4.u3 f P R3
         refine .so 1 r r r (.ch r (fun _=>.gyes r r a (.lw EJ CT .z r .mk)) trivial) (.ww r fun ex=>?_)
         have b9:=eY (I:=f5) R3 hd
         refine .gyes r r a (.call call47 r b9 r r fun l8 U c0 c1=>?_)
         obtain ⟨l9,m0,m1,rfl,i,hd⟩:=c1
         obtain ⟨R,c3,R3,e⟩:=c0.u4 b7 b8 R3 e
         refine .so 1 r r r trivial (.ww r fun ex=>?_)
         have c4:=eT (I:=U) e i hd
         refine .gyes r r a (.callP call50 r c4 r r fun m2 c5=>?_)
         obtain ⟨m3,rfl,hd⟩:=c5
         refine .so 1 r r r trivial (.h r (fun _=>.pickT r a r r r .mk) (.fk 1 r ?_))
         refine AQ hd (fun b hd=>?_) fun b hd=>?_
         · refine .h r (fun _=>.gyes r r b (.lw EJ CT .z r .mk)) (.h r (fun _=>.gyes r r b (.lw EJ CT .z r .mk)) (.ww r fun ex=>?_))
           have c6:=xO (I:=U) R3 hd
           refine .gyes r r b (.call call53 r c6 r r fun m4 f6 c7 c8=>?_)
           obtain ⟨m5,m6,m7,rfl,L,hd⟩:=c8
           obtain ⟨c9,d0,R3,e,i⟩:=c7.u5 R c3 R3 e i
           refine .so 1 r r r (.ch r (fun _=>.gyes r r b (.lw EJ CT .z r .mk)) trivial) (.ww r fun ex=>?_)
           have d1:=Aa7 (I:=f6) R3 hd
           refine .gyes r r b (.call call54 r d1 r r fun m8 f7 d2 d3=>?_)
           obtain ⟨m9,n0,n1,rfl,f8,hd⟩:=d3
           obtain ⟨d4,g4,R3,e,i,L⟩:=d2.u6 c9 d0 R3 e i L
           refine .so 1 r r r trivial (.ww r fun ex=>?_)
           have d5:=LG (I:=f7) L f8 hd
           refine .gyes r r b (.callP call52 r d5 r r fun n2 d6=>?_)
           obtain ⟨f9,rfl,hd⟩:=d6
           exact .so 1 r r r trivial (.h r (fun _=>.pickT r b r r r .mk) (.e2 28 (.kn 1 [6] r (.drop .z (.r1 results10 r d4 ⟨f9,r,hd⟩)))))
         exact .h r (fun _=>.gno r r b r r .mk) (.h r (fun _=>.gno r r b r r .mk) (.h r (fun _=>.gno r r b r r .mk) (.h r (fun _=>.gno r r b r r .mk) (.h r (fun _=>.gno r r b r r .mk) (.h r (fun _=>.pickF r b r r r .mk) (.e2 28 (.kn 1 [6] r (.drop .z (.r1 results10 r R ⟨false,r,hd⟩)))))))))
       refine .h r (fun _=>.gno r r a r r .mk) (.h r (fun _=>.gno r r a r r .mk) (.h r (fun _=>.gno r r a r r .mk) (.h r (fun _=>.gno r r a r r .mk) (.h r (fun _=>.gno r r a r r .mk) (.h r (fun _=>.pickF r a r r r .mk) (.fk 7 r (.e2 28 (.kn 1 [6] r (.drop .z ?_)))))))))
       exact .r1 results10 r f ⟨false,r,hd⟩
     exact .h r (fun _=>.gno r r d r r .mk) (.h r (fun _=>.gno r r d r r .mk) (.h r (fun _=>.gno r r d r r .mk) (.h r (fun _=>.pickF r d r r r .mk) (.fk 14 r (.e2 28 (.kn 1 [6] r (.drop .z (.r1 results10 r f ⟨false,r,hd⟩))))))))
   exact .h r (fun _=>.gno r r g r r .mk) (.h r (fun _=>.pickF r g r r r .mk) (.fk 19 r (.e2 28 (.kn 1 [6] r (.drop .z (.r1 results10 r f ⟨false,r,hd⟩))))))
 exact .h r (fun _=>.gno r r c r r .mk) (.h r (fun _=>.gno r r c r r .mk) (.h r (fun _=>.gno r r c r r .mk) (.h r (fun _=>.pickF r c r r r .mk) (.fk 22 r (.e2 28 (.kn 1 [6] r (.drop .z (.r1 results10 r f ⟨false,r,hd⟩))))))))
end Go.Proofs.YtbohadngdkjljaaGreat
