/- The walks (printed by a program of ours). -/
import Derived.Test.YtbohadngdkjljaaGreatSL
namespace Go.Proofs.YtbohadngdkjljaaGreat
open Go Go.Fw
set_option linter.unusedVariables false
set_option linter.unusedSimpArgs false
set_option maxRecDepth 8000
set_option maxHeartbeats 1000000
open Tryz
variable {I:IH}
variable {b2 b3 b4 b5 b6 b7 b8 b9 c2 c3 c4 c5 c6 c7 c8 c9 lr b10 b11 b12 b13 b18 b19 b20 b21 b35 b36 b37 b38 b39 b40 b41 b42 b43 b54 b59 c10 c11 c12 c13 c14 c15 c16 c17 c18 c19 c20 c21 c22 c23 c24 c25 c26 c27 c28 c29 c30 c31 c32 c33 c34 c35 c36 c37 c38 c39 c41 c42 c43 c44 c45 c46 c47 c48 c49 c50 c51 c52 c54 c55 c57 c60 c63 c66 c69 c72 c75 c78:Nat}
variable {p1 p2 p3 p4 p5 p6 p7 p8 p9 p10 p11 p12 p13 p14 p15 p16 p17 p18 p19 p20 p21 p22 p23 p24 p25 p26 p27 p28 p29 p30 p31 p32 p33 p34 p35 p36 p37 p38 p40 p41 p42 p43 p44 p45 p46 p47 p48 p49 p50 p51 p53 p54 p56 p59 p62 p65 p68 p71 p74 p77:Option Addr}
variable {Rr:Nat→HA}
theorem aM {a0:Int} {Q:Bool→Prop} (hd:UR a0 Q) :
  BZ prog 102 [.int .i64 a0] I (fun _=>gE Q):=by
 refine Fun.en func102 ntmps102 r fun w0 M=>?_
 refine .sk 1 r (.nk [0] 3 r ?_)
 refine AL hd (fun a hd=>?_) fun a hd=>?_
 · rw [a]
   exact .kn 4 [2] r (.r0 results102 r ⟨(decide (a0≤5)),r,hd⟩)
 rw [a]
 exact .kn 4 [2] r (.r0 results102 r ⟨false,r,hd⟩)
theorem MY {a0 a1:AN} {Q:AN→Prop} (hd:KQ a0 a1 Q) :
  BZ prog 170 [.agg (EI a0).toArray,.agg (EI a1).toArray] I (fun _=>rV Q):=by
 refine Fun.en func170 ntmps170 r fun w0 M=>?_
 refine .sr (.bx r fun d=>?_)
 refine .bx r fun e=>?_
 refine .al CR r fun b=>?_
 refine .nk [4,3,2] 1 r (.lo EB .p2 r (.ks 1 r (.lo EB .p1 r (.ks 2 r (.nk [5,4,3,2] 1 r (.lo XC .p2 r (.ks 1 r (.lo XC .p1 r (.kn 2 [6,5,4,2] r ?_)))))))))
 refine .drop .p1 (.seq (.sk 2 r (.lo EB .p1 r (.kn 1 [20,6,5,4] r (.drop .p1 (.condP r hd (fun a hd=>?_) fun a hd=>?_))))))
 · exact .region (.ks 3 r (.nk [6,5,4] 2 r (.build CR KY KX (.c r r r (.o r) (.c r r r (.o r) .n)) (by exact ⟨⟨_,_,r,r,r⟩,⟨⟨_,_,r,r,r⟩,trivial⟩⟩) r r (.sa AM .z r (.no [4] r (.ret (BO results170 (.w BG AM r .z r .n) rf ⟨({ Hi:=AJ ((AJ (a0.Hi+a1.Hi))+1),Lo:=IntKind.wrap .u64 (a0.Lo+a1.Lo) }:AN),r,hd⟩)))))))
 exact .sn [6,5,4] r (.sk 2 r (.build CR KY KX (.c r r r (.o r) (.c r r r (.o r) .n)) (by exact ⟨⟨_,_,r,r,r⟩,⟨⟨_,_,r,r,r⟩,trivial⟩⟩) r r (.sa AM .z r (.no [4] r (.ret (BO results170 (.w BG AM r .z r .n) rf ⟨({ Hi:=AJ (a0.Hi+a1.Hi),Lo:=IntKind.wrap .u64 (a0.Lo+a1.Lo) }:AN),r,hd⟩))))))
theorem WW {a0 a1:AN} {Q:Int→Prop} (hd:HL a0 a1 Q) :
  BZ prog 172 [.agg (EI a0).toArray,.agg (EI a1).toArray] I (fun _=>hZ Q):=by
 refine Fun.en func172 ntmps172 r fun w0 M=>?_
 refine .sr (.bx r fun h=>?_)
 refine .bx r fun i=>?_
 refine .kn 1 [3,2] r (.seq (.jn hd [3,2] [1,0] r (fun j E l _=>j E l) (fun f hd=>?_) ?_))
 · skip
   refine .sk 1 r (.lo XC .p1 r (.ks 1 r (.lo XC .z r (.ks 2 r ?_))))
   refine AL hd (fun a hd=>?_) fun a hd=>?_
   · rw [a]
     exact .kn 13 [23,3,2] r (.condKT r r (.sr (.kn 1 [4] r (.drop .z (.drop .z (.r0 results172 r ⟨(-1),r,hd⟩))))))
   rw [a]
   refine .ks 1 r (.yes r (.lo XC .p1 r (.ks 1 r (.yes r (.lo XC .z r (.ks 2 r ?_))))))
   refine AL hd (fun b hd=>?_) fun b hd=>?_
   · rw [b]
     refine .ks 1 r (.yes r (.lo EB .p1 r (.ks 1 r (.yes r (.lo EB .z r (.kn 3 [23,3,2] r (.condP r hd (fun d hd=>?_) fun d hd=>?_)))))))
     · exact .sr (.kn 1 [4] r (.drop .z (.drop .z (.r0 results172 r ⟨(-1),r,hd⟩))))
     exact .skip' (je () hd rf [1,0] r)
   rw [b]
   exact .kn 7 [23,3,2] r (.condKF r r (.skip' (je () hd rf [1,0] r)))
 refine fun _ hd=>jq r fun g c=>?_
 refine .seq (.sr (.lw BG AM .z r (.lw BG AM .p1 r (.eqV r r (kS a0 a1) (kT _ _ _ _ _) r r r (.no [26] r (.drop .z (.drop .z (.condP r hd (fun e hd=>?_) fun e hd=>?_))))))))
 · exact .sr (.kn 1 [4] r (.r1 results172 r c ⟨0,r,hd⟩))
 exact .sn [] r (.sr (.kn 1 [4] r (.r1 results172 r c ⟨1,r,hd⟩)))
theorem PG {a0:Bool} {Q:AN→Prop} (hd:KD a0 Q) :
  BZ prog 173 [.bool a0] I (fun _=>rV Q):=by
 refine Fun.en func173 ntmps173 r fun w0 M=>?_
 refine .sr (.al CR r fun b=>?_)
 refine .no [2,0] r (.seq (.sr (.kn 1 [3,2] r (.condP r hd (fun a hd=>?_) fun a hd=>?_))))
 · exact .sr (.build CR KY KX (.c r r r (.o r) .n) (by exact ⟨⟨_,_,r,r,r⟩,trivial⟩) r r (.sa AM .z r (.no [2] r (.ret (BO results173 (.w BG AM r .z r .n) rf ⟨({ Hi:=0,Lo:=1 }:AN),r,hd⟩)))))
 exact .sn [2] r (.sr (.build CR KY KX .n (by exact trivial) r r (.sa AM .z r (.no [2] r (.ret (BO results173 (.w BG AM r .z r .n) rf ⟨({ Hi:=0,Lo:=0 }:AN),r,hd⟩))))))
theorem fE {a0:Int} {a1 a2:AN} {Q:AN→Prop} (hd:US a0 a1 a2 Q) :
  BZ prog 107 [.int .i64 a0,.agg (EI a1).toArray,.agg (EI a2).toArray] I (fun _=>rV Q):=by
 refine Fun.en func107 ntmps107 r fun w0 M=>?_
 refine .sr (.bx r fun A=>?_)
 refine .bx r fun B=>?_
 refine .al CR r fun v=>?_
 refine .nk [6,5,4,0] 1 r (.no [7,6,5,4] r (.block (.seq (.jn hd [7,6,5,4] [2,1,0] r (fun j E l d=>j ((9,.bool d) :: E) l) (fun x hd=>?_) ?_))))
 · skip
   refine .sr (.kn 2 [9,7,6,5,4] r (.condP r hd (fun e hd=>?_) fun e hd=>?_))
   · exact .skip' (je (a0==1) hd rf [2,1,0] r)
   refine .sr (.kn 2 [9,7,6,5,4] r (.condP r hd (fun f hd=>?_) fun f hd=>?_))
   · exact .skip' (je (a0==3) hd rf [2,1,0] r)
   exact .region (.ks 2 r (.nil' (je (a0==4) hd rf [2,1,0] r)))
 refine fun d hd=>jq r fun c a=>?_
 refine .condP r hd (fun g hd=>?_) fun g hd=>?_
 · refine .seq (.sr (.lw BG AM .p1 r (.lw BG AM .z r ?_)))
   have h:=WW (I:=c) hd
   refine .cq call172 h r fun y hd=>?_
   refine .kn 1 [16,6,5,4] r (.condP r hd (fun i hd=>?_) fun i hd=>?_)
   · exact .sr (.lw BG AM .p1 r (.sa AM .p2 r (.no [6] r (.drop .z (.drop .z (.ret (BO results107 (.w BG AM r .z r .n) a ⟨a2,r,hd⟩)))))))
   exact .sn [6,4] r (.drop .p1 (.sr (.lw BG AM .z r (.sa AM .p1 r (.no [6] r (.drop .z (.ret (BO results107 (.w BG AM r .z r .n) a ⟨a1,r,hd⟩))))))))
 refine .sr (.kn 2 [19,7,6,5,4] r (.condP r hd (fun k hd=>?_) fun k hd=>?_))
 · refine .sr (.lw BG AM .z r (.build CR KY KX .n (by exact trivial) r r (.neV r r (kS a1 ({ Hi:=0,Lo:=0 }:AN)) (kT _ _ _ _ _) r r r (.ks 1 r ?_))))
   refine AL hd (fun b hd=>?_) fun b hd=>?_
   · rw [b]
     refine .ks 4 r ?_
     have m:=PG (I:=c) hd
     refine .cq call173 m r fun s hd=>?_
     exact .sa AM .p2 r (.no [6] r (.drop .z (.drop .z (.ret (BO results107 (.w BG AM r .z r .n) a ⟨s,r,hd⟩)))))
   rw [b]
   refine .yes r (.lw BG AM .p1 r (.yes r (.build CR KY KX .n (by exact trivial) r r (.yes r (.neV r r (kS a2 ({ Hi:=0,Lo:=0 }:AN)) (kT _ _ _ _ _) r r r (.ks 1 r ?_))))))
   have o:=PG (I:=c) hd
   refine .cq call173 o r fun t hd=>?_
   exact .sa AM .p2 r (.no [6] r (.drop .z (.drop .z (.ret (BO results107 (.w BG AM r .z r .n) a ⟨t,r,hd⟩)))))
 refine .sr (.kn 2 [30,6,5,4] r (.condP r hd (fun p hd=>?_) fun p hd=>?_))
 · refine .sr (.lw BG AM .z r (.lw BG AM .p1 r ?_))
   have q:=MY (I:=c) hd
   refine .cq call170 q r fun u hd=>?_
   exact .sa AM .p2 r (.no [6] r (.drop .z (.drop .z (.ret (BO results107 (.w BG AM r .z r .n) a ⟨u,r,hd⟩)))))
 exact .sr (.build CR KY KX .n (by exact trivial) r r (.sa AM .p2 r (.no [6] r (.drop .z (.drop .z (.ret (BO results107 (.w BG AM r .z r .n) a ⟨({ Hi:=0,Lo:=0 }:AN),r,hd⟩)))))))
theorem GH {a0:Int} {Q:AN→Prop} (hd:GY a0 Q) :
  BZ prog 171 [.int .i64 a0] I (fun _=>rV Q):=by
 refine Fun.en func171 ntmps171 r fun w0 M=>?_
 refine .sr (.al CR r fun b=>?_)
 refine .no [2,0] r (.seq (.sr (.kn 2 [4,2,0] r (.condP r hd (fun a hd=>?_) fun a hd=>?_))))
 · exact .sk 1 r (.conv kV MQ r r r (.build CR KY KX (.c r r r (.o r) (.c r r r (.o r) .n)) (by exact ⟨⟨_,_,r,r,r⟩,⟨⟨_,_,r,r,r⟩,trivial⟩⟩) r r (.sa AM .z r (.no [2] r (.ret (BO results171 (.w BG AM r .z r .n) rf ⟨({ Hi:=(-1),Lo:=IntKind.wrap .u64 (a0) }:AN),r,hd⟩))))))
 exact .sn [2,0] r (.sk 1 r (.conv kV MQ r r r (.build CR KY KX (.c r r r (.o r) .n) (by exact ⟨⟨_,_,r,r,r⟩,trivial⟩) r r (.sa AM .z r (.no [2] r (.ret (BO results171 (.w BG AM r .z r .n) rf ⟨({ Hi:=0,Lo:=IntKind.wrap .u64 (a0) }:AN),r,hd⟩)))))))
theorem jH {a0:AN} {Q:(Int×Bool)→Prop} (hd:QO a0 Q) :
  BZ prog 180 [.agg (EI a0).toArray] I (fun _=>o3_ Q):=by
 refine Fun.en func180 ntmps180 r fun w0 M=>?_
 refine .sr (.bx r fun g=>?_)
 refine .ks 2 r (.nk [1] 1 r (.lo EB .z r (.conv MQ kV r r r (.kn 1 [4,1] r (.seq (.sk 1 r (.lo XC .z r (.ks 2 r ?_))))))))
 refine AL hd (fun a hd=>?_) fun a hd=>?_
 · rw [a]
   refine .ks 4 r ?_
   refine AL hd (fun b hd=>?_) fun b hd=>?_
   · rw [b]
     exact .kn 8 [23,4] r (.drop .z (.condKT r r (.sr (.kn 3 [3,2] r (.ret (BO results180 (.t r (.t r .n)) rf ⟨(AJ (a0.Lo),true),r,hd⟩))))))
   rw [b]
   refine .ks 1 r (.yes r (.lo XC .z r (.ks 2 r ?_)))
   refine AL hd (fun c hd=>?_) fun c hd=>?_
   · rw [c]
     refine .kn 4 [23,4] r (.drop .z (.condP r hd (fun f hd=>?_) fun f hd=>?_))
     · exact .sr (.kn 3 [3,2] r (.ret (BO results180 (.t r (.t r .n)) rf ⟨(AJ (a0.Lo),true),r,hd⟩)))
     exact .sn [] r (.sr (.kn 2 [3,2] r (.ret (BO results180 (.t r (.t r .n)) rf ⟨(0,false),r,hd⟩))))
   rw [c]
   exact .kn 4 [23,4] r (.drop .z (.condKF r r (.sn [] r (.sr (.kn 2 [3,2] r (.ret (BO results180 (.t r (.t r .n)) rf ⟨(0,false),r,hd⟩)))))))
 rw [a]
 refine .ks 5 r (.yes r (.lo XC .z r (.ks 2 r ?_)))
 refine AL hd (fun d hd=>?_) fun d hd=>?_
 · rw [d]
   refine .kn 4 [23,4] r (.drop .z (.condP r hd (fun e hd=>?_) fun e hd=>?_))
   · exact .sr (.kn 3 [3,2] r (.ret (BO results180 (.t r (.t r .n)) rf ⟨(AJ (a0.Lo),true),r,hd⟩)))
   exact .sn [] r (.sr (.kn 2 [3,2] r (.ret (BO results180 (.t r (.t r .n)) rf ⟨(0,false),r,hd⟩))))
 rw [d]
 exact .kn 4 [23,4] r (.drop .z (.condKF r r (.sn [] r (.sr (.kn 2 [3,2] r (.ret (BO results180 (.t r (.t r .n)) rf ⟨(0,false),r,hd⟩)))))))
theorem ZM {a0 a1:DO} {Q:Bool→Prop} (hd:PP a0 a1 Q) :
  BZ prog 200 [.agg (gA a0).toArray,.agg (gA a1).toArray] I (fun _=>gE Q):=by
 refine Fun.en func200 ntmps200 r fun w0 M=>?_
 refine .sr (.bx r fun c=>?_)
 refine .bx r fun d=>?_
 refine .ks 1 r (.nk [3,2] 1 r (.lo BL .p1 r (.ks 1 r (.lo BL .z r (.ks 2 r ?_)))))
 refine AL hd (fun b hd=>?_) fun b hd=>?_
 · rw [b]
   exact .kn 14 [4] r (.drop .z (.drop .z (.r0 results200 r ⟨true,r,hd⟩)))
 rw [b]
 refine .ks 1 r (.yes r (.lo BL .p1 r (.ks 1 r (.yes r (.lo BL .z r (.ks 2 r ?_))))))
 refine AL hd (fun a hd=>?_) fun a hd=>?_
 · rw [a]
   exact .ks 1 r (.yes r (.lo BL .p1 r (.ks 1 r (.yes r (.lo BL .z r (.kn 4 [4] r (.drop .z (.drop .z (.r0 results200 r ⟨(decide (a0.To<a1.To)),r,hd⟩)))))))))
 rw [a]
 exact .kn 8 [4] r (.drop .z (.drop .z (.r0 results200 r ⟨false,r,hd⟩)))
theorem fS {a0:Int} {a1:List DO} {Q:((List DO)×Int)→Prop} (R3:RepSl WT I p1 c2 a1) (hd:PD a0 a1 Q) :
  wF prog 127 [.int .i64 a0,.slice p1 a1.length c2] I (fun I_ v l=>∃ r p4 c5,v=.tuple #[.slice p4 r.1.length c5,.int .i64 r.2]∧l=[OwnSl WT 49 p4 c5 r.1]∧Q r):=by
 refine Fun.en func127 ntmps127 r fun w0 M=>?_
 refine .sr (.kn 2 [1,0] r (.seq (.sk 1 r ?_)))
 have j4:=aM (I:=I) hd
 refine .cq call102 j4 r fun p3 hd=>?_
 refine .kn 1 [17,1,0] r (.condP r hd (fun j5 hd=>?_) fun j5 hd=>?_)
 · exact .sr (.kn 2 [5,4] r (.own0 WT 49 (.ret (RV results127 (.t r (.t r .n)) rf (.o [0] r) ⟨(([]:List DO),8),_,_,r,r,hd⟩))))
 refine .sn [1,0] r (.sk 1 r (.nk [6,1,0] 1 r (.no [7,6,1,0] r (.seq (.sr (.kn 1 [8,7,6,1,0] r (.block (.own0 WT 49 (.own0 PO 157 ?_)))))))))
 refine .lx hd [1,0] [] r (fun j E l (q,s,u)=>fun c w=>∃ L N O P,j ⟨145,[],none⟩ (fun I_=>True) ((6,.slice L q.length N) :: (7,.slice O s.length P) :: (8,.int .i64 u) :: E) (OwnSl WT 49 L N q :: OwnSl PO 157 O P s :: l) c w) (fun c w ho hs=>⟨_,_,_,_,jf rf trivial [1,0] r ho hs⟩) ?_
 rintro ⟨q,s,u⟩ j6 hd c w ⟨L,N,O,P,l1,d,_,hok,hsym⟩
 have R3:=d.u1 R3
 refine Cod.at hok hsym (.seq (.sk 2 r (.ln PS r (.kn 1 [21,8,7,6,1,0] r (.condP r hd (fun e8 hd=>?_) fun e8 hd=>?_)))))
 · refine .sn [8,7,6,1,0] r (.seq (.block (.sr (.kn 1 [9,8,7,6,1,0] r (.seq (.jn hd [8,7,6,1,0] [0,0] r (fun j E l e=>j ((9,.int .i64 e) :: E) l) (fun l2 hd=>?_) ?_))))))
   · skip
     refine .block (.lp hd [8,7,6,1,0] [0,0] r (fun j E l f=>j ((9,.int .i64 f) :: E) l) (ji rf [0,0] r) ?_)
     refine fun f j7 hd=>jq r fun h6 g=>?_
     obtain ⟨k3,R3⟩:=g.u2 d R3
     refine .seq (.seq (.ownF .z fun e3=>?_))
     refine .ownF .p1 fun k0=>?_
     refine .dr [0,1,2,3,4,5,6,7,8,9,10,11,12,13,14] 15 (.fk 2 r (.h r (fun _=>.ln PS r .mk) (.fk 2 r ?_)))
     refine AL hd (fun b hd=>?_) fun b hd=>?_
     · refine .h r (fun _=>.gyes r r b (.move r r r .mk)) (.h r (fun _=>.gyes r r b (.move r r r .mk)) ?_)
       obtain ⟨b4,l3,A,hd⟩:=hd
       obtain ⟨l4,h7⟩:=e3 (EN A)
       cases h7
       refine .h r (fun _=>.gyes r r b (.ixa0 PS SO r r b4 (AH A b4) r r .mk)) (.h r (fun _=>.gyes r r b (.loA (j:=0) zC SO .z A r r (.o 3 r) r r r .mk)) (.h r (fun _=>.gyes r r b (.move r r r .mk)) (.h r (fun _=>.gyes r r b (.move r r r .mk)) ?_)))
       obtain ⟨b5,l5,Y,hd⟩:=hd
       obtain ⟨l6,o2887,k4,h8,e9,f0⟩:=R3.2 _ _ Y
       cases f0
       refine .h r (fun _=>.gyes r r b (.ixa PS SO r h8 r b5 (AH Y b5) r r .mk)) (.h r (fun _=>.gyes r r b (.ldW zC SO e9 r r r r .mk)) (.ww r fun ex=>?_))
       have f1:=ZM (I:=h6) hd
       refine .gyes r r b (.callP call200 r f1 r r fun l7 f2=>?_)
       obtain ⟨l8,rfl,hd⟩:=f2
       refine .so 2 r r r trivial (.h r (fun _=>.pickT r b r r r .mk) (.e2 15 (.no [38,9,8,7,6,1,0] r (.condP r hd (fun f3 hd=>?_) fun f3 hd=>?_))))
       · exact .sn [9,8,7,6,1,0] r (.block (.region (.ks 3 r (.nil' (je (AJ (f+1)) hd g [0,0] r)))))
       exact .exit (je f hd g [0,0] r)
     refine .h r (fun _=>.gno r r b r r .mk) (.h r (fun _=>.gno r r b r r .mk) (.h r (fun _=>.gno r r b r r .mk) (.h r (fun _=>.gno r r b r r .mk) (.h r (fun _=>.gno r r b r r .mk) (.h r (fun _=>.gno r r b r r .mk) (.h r (fun _=>.gno r r b r r .mk) (.h r (fun _=>.gno r r b r r .mk) (.h r (fun _=>.gno r r b r r .mk) (.h r (fun _=>.pickF r b r r r .mk) ?_)))))))))
     exact .e2 15 (.no [38,9,8,7,6,1,0] r (.condKF r r (.exit (je f hd g [0,0] r))))
   refine fun e hd=>jq r fun b6 Z=>?_
   obtain ⟨f4,R3⟩:=Z.u2 d R3
   refine .sk 2 r ?_
   obtain ⟨b7,l9,a2,hd⟩:=hd
   obtain ⟨m0,o2919,k5,h9,f5,f6⟩:=R3.2 _ _ a2
   cases f6
   refine .ixa PS SO r h9 r b7 (AH a2 b7) r r (.ks 1 r (.ld1 (j:=2) XC f5 r r r r r ?_))
   have f7:=GH (I:=b6) hd
   refine .cq call171 f7 r fun b8 hd=>?_
   refine .al CR r fun m1=>?_
   refine .sa AM .z r (.no [10,9,8,7,6,1,0] r (.seq (.seq (.jn hd [10,9,8,7,6,1,0] [1,1,0] r (fun j E l b9=>j ((62,.bool b9) :: E) l) (fun m2 hd=>?_) ?_))))
   · skip
     refine .ownF .p1 fun e4=>?_
     refine .ownF .p2 fun k1=>?_
     refine .dr [0,1,2,3,4,5,6,7,8,9,10,11,12,13,14,15] 16 (.fk 2 r (.h r (fun _=>.ln PS r .mk) (.fk 2 r ?_)))
     refine AL hd (fun a hd=>?_) fun a hd=>?_
     · refine .h r (fun _=>.gyes r r a (.move r r r .mk)) (.h r (fun _=>.gyes r r a (.move r r r .mk)) ?_)
       obtain ⟨c0,m3,a3,hd⟩:=hd
       obtain ⟨m4,o3065,k6,i0,f8,f9⟩:=R3.2 _ _ a3
       cases f9
       refine .h r (fun _=>.gyes r r a (.ixa PS SO r i0 r c0 (AH a3 c0) r r .mk)) (.h r (fun _=>.gyes r r a (.ldW zC SO f8 r r r r .mk)) (.h r (fun _=>.gyes r r a (.move r r r .mk)) (.h r (fun _=>.gyes r r a (.move r r r .mk)) ?_)))
       obtain ⟨c1,m5,B,hd⟩:=hd
       obtain ⟨m6,i1⟩:=e4 (EN B)
       cases i1
       refine .h r (fun _=>.gyes r r a (.ixa0 PS SO r r c1 (AH B c1) r r .mk)) (.h r (fun _=>.gyes r r a (.loA (j:=0) zC SO .p1 B r r (.o 3 r) r r r .mk)) (.ww r fun ex=>?_))
       have g0:=ZM (I:=b6) hd
       refine .gyes r r a (.callP call200 r g0 r r fun m7 g1=>?_)
       obtain ⟨i2,rfl,hd⟩:=g1
       exact .so 3 r r r trivial (.h r (fun _=>.gyes r r a (.not r r r .mk)) (.h r (fun _=>.pickT r a r r r .mk) (.e2 16 (.nil' (je (!i2) hd rf [1,1,0] r)))))
     refine .h r (fun _=>.gno r r a r r .mk) (.h r (fun _=>.gno r r a r r .mk) (.h r (fun _=>.gno r r a r r .mk) (.h r (fun _=>.gno r r a r r .mk) (.h r (fun _=>.gno r r a r r .mk) (.h r (fun _=>.gno r r a r r .mk) (.h r (fun _=>.gno r r a r r .mk) (.h r (fun _=>.gno r r a r r .mk) (.h r (fun _=>.gno r r a r r .mk) (.h r (fun _=>.gno r r a r r .mk) ?_)))))))))
     exact .h r (fun _=>.pickF r a r r r .mk) (.e2 16 (.nil' (je false hd rf [1,1,0] r)))
   refine fun b9 hd=>jq r fun i3 a4=>?_
   obtain ⟨a5,g2,R3⟩:=a4.u3 f4 Z R3
   refine .condP r hd (fun g3 hd=>?_) fun g3 hd=>?_
   · refine .seq (.ownF .z fun k2=>?_)
     refine .ownF .p1 fun e5=>?_
     refine .dr [0,1,2,3,4,5,6,7,8] 9 (.fk 5 r ?_)
     obtain ⟨c3,m8,C,hd⟩:=hd
     obtain ⟨m9,i4⟩:=e5 (EN C)
     cases i4
     refine .h r (fun _=>.ixa0 bT AM r r c3 (AH C c3) r r .mk) (.h r (fun _=>.loA (j:=0) BG AM .p1 C r r (.o 2 r) r r r .mk) (.h r (fun _=>.lw BG AM .p2 r .mk) (.ww r fun ex=>?_)))
     have g4:=fE (I:=i3) hd
     refine .cq call107 g4 r fun c4 hd=>?_
     refine .so 3 r r r (.ck 2 r r trivial) (.e2 9 ?_)
     obtain ⟨c6,n0,a6,hd⟩:=hd
     exact .ixa0 bT AM r r c6 (AH a6 c6) r r (.stOA (j:=0) (v':=c4) AM .p1 a6 r r r (.o r) r r (.rl .p1 [7,63,66] r (by simp only [List.length_set]) (.no [8,7,6,1,0] r (.drop .p2 (.en [8,7,6,1,0] r (.region (.ks 3 r (.nil' fun c w ho hs=>⟨(q,(s.set e.toNat c4),AJ (u+1)),hd,_,_,_,_,jf a5 trivial [0,0] r ho hs⟩))))))))
   refine .sn [10,9,8,7,6,1,0] r (.sk 1 r (.build zD AdC AdA .n (by exact trivial) r r (.buildSlice 1 PS SO zD r r (.c r r r .n) r r fun n1=>?_)))
   obtain ⟨g5,hd⟩:=hd
   refine .append (ys:=[({ From:=0,To:=0,W:=0 }:DO)]) 24 .p1 PS PS Ae8 r r r r r r r r r (.box .z (.one r) r) g5 r r fun n2 n3=>?_
   refine .kn 1 [6,10,9,8,7,1,0] r (.drop .p1 (.sk 1 r (.build CR KY KX .n (by exact trivial) r r (.buildSlice 1 bT AM CR r r (.c r r r .n) r r fun n4=>?_))))
   obtain ⟨g6,hd⟩:=hd
   refine .append (ys:=[({ Hi:=0,Lo:=0 }:AN)]) 16 .p2 bT bT AeE r r r r r r r r r (.box .z (.one r) r) g6 r r fun n5 n6=>?_
   refine .kn 1 [7,6,10,9,8,1,0] r (.drop .p1 (.seq (.sk 1 r (.ln PS r (.kn 2 [11,7,6,10,9,8,1,0] r (.block (.lx hd [10,9,8,1,0] [2] r (fun j E l (i,k,m)=>fun c w=>∃ R S T U,j ⟨145,[],none⟩ (fun I_=>True) ((6,.slice R i.length S) :: (7,.slice T k.length U) :: (11,.int .i64 m) :: E) (OwnSl WT 49 R S i :: OwnSl PO 157 T U k :: l) c w) (fun c w ho hs=>⟨_,_,_,_,jf rf trivial [1,0,0] r ho hs⟩) ?_)))))))
   rintro ⟨i,k,m⟩ j8 hd c w ⟨R,S,T,U,n7,a7,_,hok,hsym⟩
   obtain ⟨g7,k7,k8,R3⟩:=a7.u4 a5 g2 a4 R3
   refine Cod.at hok hsym (.seq (.sr (.kn 3 [86,11,10,9,8,7,6,1,0] r (.condP r hd (fun g8 hd=>?_) fun g8 hd=>?_))))
   · refine .sn [11,10,9,8,7,6,1,0] r (.seq (.block (.sk 5 r ?_)))
     obtain ⟨c7,c8,D,hd⟩:=hd
     refine .ownNe .z (EN D) fun n8 i5=>?_
     cases i5
     refine .ixa0 PS SO r r c7 (AH D c7) r r (.loA (j:=0) zC SO .z D r r (.o 3 r) r r r ?_)
     obtain ⟨c9,n9,a8,hd⟩:=hd
     refine .ixa0 PS SO r r c9 (AH a8 c9) r r (.stOA (j:=0) (v':=c8) SO .z a8 r r r (.o r) r r (.rl .z [6,89,91] r (by simp only [List.length_set]) (.no [11,10,9,8,7,6,1,0] r (.region (.ks 5 r ?_)))))
     obtain ⟨d0,d1,F,hd⟩:=hd
     refine .ownNe .p1 (EN F) fun o0 i6=>?_
     cases i6
     refine .ixa0 bT AM r r d0 (AH F d0) r r (.loA (j:=0) BG AM .p1 F r r (.o 2 r) r r r ?_)
     obtain ⟨d2,o1,a9,hd⟩:=hd
     exact .ixa0 bT AM r r d2 (AH a9 d2) r r (.stOA (j:=0) (v':=d1) AM .p1 a9 r r r (.o r) r r (.rl .p1 [7,97,99] r (by simp only [List.length_set]) (.no [11,10,9,8,7,6,1,0] r (.region (.ks 3 r (.nil' fun c w ho hs=>⟨((i.set m.toNat c8),(k.set m.toNat d1),AJ (m - 1)),hd,_,_,_,_,jf a7 trivial [0,0,0] r ho hs⟩))))))
   refine .en [10,9,8,7,6,1,0] r (.seq (.ownF .z fun e6=>?_))
   refine .ownF .p1 fun e7=>?_
   refine .dr [0,1,2,3,4,5,6,7,8,9,10,11,12] 13 (.fk 4 r ?_)
   obtain ⟨d3,d4,b0,hd⟩:=hd
   obtain ⟨o2,o3320,k9,i7,g9,h0⟩:=R3.2 _ _ b0
   cases h0
   refine .h r (fun _=>.ixa PS SO r i7 r d3 (AH b0 d3) r r .mk) (.fk 1 r (.h r (fun _=>.ld1 (j:=0) BL g9 r r r r r .mk) (.fk 2 r ?_)))
   obtain ⟨d5,d6,b1,hd⟩:=hd
   obtain ⟨o3,o3329,l0,i8,h1,h2⟩:=R3.2 _ _ b1
   cases h2
   refine .h r (fun _=>.ixa PS SO r i8 r d5 (AH b1 d5) r r .mk) (.fk 1 r (.h r (fun _=>.ld1 (j:=1) BL h1 r r r r r .mk) (.h r (fun _=>.build zD AdC AdA (.c r r r (.o r) (.c r r r (.o r) .n)) (by exact ⟨⟨_,_,r,r,r⟩,⟨⟨_,_,r,r,r⟩,trivial⟩⟩) r r .mk) (.e2 13 ?_))))
   obtain ⟨d7,o4,G,hd⟩:=hd
   obtain ⟨o5,i9⟩:=e6 (EN G)
   cases i9
   refine .ixa0 PS SO r r d7 (AH G d7) r r (.stOA (j:=0) (v':=({ From:=d4.From,To:=d6.To,W:=0 }:DO)) SO .z G r r r (.o r) r r (.rl .z [6,105] r (by simp only [List.length_set]) (.no [10,9,8,7,6,1,0] r (.region (.ks 2 r (.lw BG AM .p2 r ?_))))))
   obtain ⟨d8,o6,H,hd⟩:=hd
   obtain ⟨o7,j0⟩:=e7 (EN H)
   cases j0
   exact .ixa0 bT AM r r d8 (AH H d8) r r (.stOA (j:=0) (v':=b8) AM .p1 H r r r (.o r) r r (.rl .p1 [7,119] r (by simp only [List.length_set]) (.no [8,7,6,1,0] r (.drop .p2 (.region (.ks 3 r (.nil' fun c w ho hs=>⟨((i.set e.toNat ({ From:=d4.From,To:=d6.To,W:=0 }:DO)),(k.set e.toNat b8),AJ (u+1)),hd,_,_,_,_,jf g7 trivial [0,0] r ho hs⟩)))))))
 refine .en [7,6] r (.seq (.sr (.kn 1 [12,7,6] r (.block (.lx hd [7] [1] r (fun j E l (p,x)=>fun c w=>∃ V X,j ⟨145,[],none⟩ (fun I_=>True) ((6,.slice V p.length X) :: (12,.int .i64 x) :: E) (OwnSl WT 49 V X p :: l) c w) (fun c w ho hs=>⟨_,_,jf rf trivial [0,0] r ho hs⟩) ?_)))))
 rintro ⟨p,x⟩ j9 hd c w ⟨V,X,j1,b2,_,hok,hsym⟩
 have b3:=b2.u1 d
 refine Cod.at hok hsym (.seq (.sk 2 r (.ln PS r (.kn 1 [126,12,7,6] r (.condP r hd (fun h3 hd=>?_) fun h3 hd=>?_)))))
 · refine .sn [12,7,6] r (.seq (.block (.sk 2 r ?_)))
   obtain ⟨d9,o8,J,hd⟩:=hd
   refine .ownNe .p1 (EN J) fun o9 j2=>?_
   cases j2
   refine .ixa0 bT AM r r d9 (AH J d9) r r (.loA (j:=0) BG AM .p1 J r r (.o 2 r) r r r ?_)
   have h4:=jH (I:=j1) hd
   refine .cq call180 h4 r fun e0 hd=>?_
   refine .kn 5 [14,13,12,7,6] r (.seq (.sr (.kn 2 [138,13,12,7,6] r (.condP r hd (fun h5 hd=>?_) fun h5 hd=>?_))))
   · exact .sr (.kn 2 [5,4] r (.drop .z (.drop .z (.own0 WT 49 (.ret (RV results127 (.t r (.t r .n)) b3 (.o [0] r) ⟨(([]:List DO),12),_,_,r,r,hd⟩))))))
   refine .sn [13,12,7,6] r (.region (.ks 3 r ?_))
   obtain ⟨e1,y,K,hd⟩:=hd
   refine .ownNe .z (EN K) fun p0 j3=>?_
   cases j3
   exact .ixa0 PS SO r r e1 (AH K e1) r r (.ks 1 r (.stO1 (j:=2) (v':=({ From:=y.From,To:=y.To,W:=e0.1 }:DO)) uZ .z K r r r (.o r) r (.rl .z [6,139] r (by simp only [List.length_set]) (.no [12,7,6] r (.region (.ks 3 r (.nil' fun c w ho hs=>⟨((p.set x.toNat ({ From:=y.From,To:=y.To,W:=e0.1 }:DO)),AJ (x+1)),hd,_,_,jf b2 trivial [0,0] r ho hs⟩)))))))
 exact .en [6] r (.drop .p1 (.sr (.kn 3 [5,4] r (.ret (RV results127 (.t r (.t r .n)) b3 (.o [0] r) ⟨(p,0),_,_,r,r,hd⟩)))))
theorem UF {a0 a1:Int} {Q:Rows→Prop} (hd:KE a0 a1 Q) :
  wF prog 128 [.int .i64 a0,.int .i64 a1] I (fun _=>o6_ Q):=by
 refine Fun.en func128 ntmps128 r fun w0 M=>?_
 refine .sr (.al DH r fun d=>?_)
 refine .nk [4,1,0] 4 r ?_
 obtain ⟨a,b,hd⟩:=hd
 refine .make (El:=AE) (zv:=0) 8 BX IN3 r r r r r r a b r r r fun e=>?_
 exact .build DH JK JJ (.c r r r (.o r) (.c r r r (.o r) (.c r r r (.o r) .n))) (by exact ⟨⟨_,_,r,r,r⟩,⟨⟨_,_,r,r,r⟩,⟨⟨_,_,r,r,r⟩,trivial⟩⟩⟩) r r (.sa AU .p1 r (.no [4] r (.own0 AE 3 (.own0 AE 2 (.ret (RV results128 (.w BQ AU r .p3 r .n) rf (.o [2,1,0] r) ⟨({ Rows:=a0,Cols:=a1,Start:=(List.replicate (AJ (a0+1)).toNat 0),Col:=([]:List Int),Val:=([]:List Int) }:Rows),_,_,_,_,_,_,r,r,hd⟩))))))
theorem kF {a0 a1:Int} {a2:List AC} {Q:Rows→Prop} (R3:RepSl AW I p1 c2 a2) (hd:TL a0 a1 a2 Q) :
  BZ prog 59 [.int .i64 a0,.int .i64 a1,.slice p1 a2.length c2] I (o7_ Q):=by
 refine Fun.en func59 ntmps59 r fun w0 M=>?_
 refine .sr (.al DH r fun f8=>?_)
 refine .nk [6,2,1,0] 2 r ?_
 have c4:=UF (I:=I) hd
 refine .callO call128 r c4 r r fun f9 g0 g1 P c5=>?_
 obtain ⟨e,g2,g3,g4,g5,g6,g7,rfl,rfl,hd⟩:=c5
 have R3:=P.u1 R3
 refine .al DH r fun R=>?_
 refine .sa AU .z r (.no [7,6,2,0] r (.seq (.sr (.kn 1 [8,7,6,2,0] r (.block (.lx hd [7,6,2,0] [4] r (fun j E l (i,a,b,t)=>fun c w=>∃ u v x y A C,j ⟨58,[],none⟩ (fun I_=>True) ((8,.int .i64 t) :: E) (pto R (.cells #[.int .i64 e.Rows,.int .i64 e.Cols,.slice u i.length v,.slice x a.length y,.slice A b.length C] 33 (0,0)) :: OwnSl AE 3 u v i :: OwnSl AE 3 x y a :: OwnSl AE 2 A C b :: l) c w) (fun c w ho hs=>⟨_,_,_,_,_,_,jf rf trivial [0,0,0,0,0] r ho hs⟩) ?_))))))
 rintro ⟨i,a,b,t⟩ d2 hd c w ⟨u,v,x,y,A,C,e6,k,_,hok,hsym⟩
 obtain ⟨H,R3⟩:=k.u2 P R3
 refine Cod.at hok hsym (.seq (.sk 2 r (.ln ER r (.kn 1 [16,8,7,6,2,0] r (.condP r hd (fun a4 hd=>?_) fun a4 hd=>?_)))))
 · refine .sn [8,7,6,2,0] r (.seq (.block (.seq (.ownF .p1 fun d4=>?_))))
   refine .ownF .p2 fun d5=>?_
   refine .ownF .p3 fun d6=>?_
   refine .dr [0,1,2,3,4,5,6,7,8] 9 (.fk 1 r (.h r (fun _=>.lo EL .z r .mk) (.fk 2 r ?_)))
   obtain ⟨S,m,J,hd⟩:=hd
   obtain ⟨e7,o434,e0,c6,a5,a6⟩:=R3.2 _ _ J
   cases a6
   refine .h r (fun _=>.ixa ER ES r c6 r S (AH J S) r r .mk) (.fk 1 r (.h r (fun _=>.ld1 (j:=1) BL a5 r r r r r .mk) (.ww r fun ex=>?_)))
   refine .buildSlice 1 BX FI rW r r (.c r r r .n) r r fun e8=>?_
   refine .so 6 r r r (.ch r (fun _=>.lo EL .p1 r .mk) (.ck 1 r r trivial)) (.ww r fun ex=>?_)
   obtain ⟨a7,hd⟩:=hd
   refine .append (ys:=[m.Col]) 8 .p3 BX BX IN3 r r r r r r r r r (.box .z (.one r) r) a7 r r fun T U=>?_
   refine .so 6 r r r trivial (.e2 9 (.ks 1 r (.s1 zA .p2 r (.no [8,7,6,2,0] r (.drop .p1 (.seq (.ownF .z fun d7=>?_)))))))
   refine .ownF .p2 fun d8=>?_
   refine .ownF .p3 fun d9=>?_
   refine .dr [0,1,2,3,4,5,6,7,8] 9 (.fk 1 r (.h r (fun _=>.lo fL .p1 r .mk) (.fk 2 r ?_)))
   obtain ⟨V,p,K,hd⟩:=hd
   obtain ⟨e9,o470,e1,c7,a8,a9⟩:=R3.2 _ _ K
   cases a9
   refine .h r (fun _=>.ixa ER ES r c7 r V (AH K V) r r .mk) (.fk 1 r (.h r (fun _=>.ld1 (j:=2) XC a8 r r r r r .mk) (.ww r fun ex=>?_)))
   refine .buildSlice 1 TC uZ zeroValue2 r r (.c r r r .n) r r fun f0=>?_
   refine .so 6 r r r (.ch r (fun _=>.lo fL .p2 r .mk) (.ck 1 r r trivial)) (.ww r fun ex=>?_)
   obtain ⟨b0,hd⟩:=hd
   refine .append (ys:=[p.Val]) 8 .p4 TC TC IN2 r r r r r r r r r (.box .z (.one r) r) b0 r r fun W X=>?_
   refine .so 6 r r r trivial (.e2 9 (.ks 1 r (.s1 sizeOf31 .p3 r (.no [8,7,6,2,0] r (.drop .p1 (.sk 2 r ?_))))))
   obtain ⟨Y,f1,L,hd⟩:=hd
   obtain ⟨f2,o494,e3,c8,b1,b2⟩:=R3.2 _ _ L
   cases b2
   refine .ixa ER ES r c8 r Y (AH L Y) r r (.ks 1 r (.ld1 (j:=0) BL b1 r r r r r (.kn 2 [9,8,7,6,2,0] r (.block (.lx hd [8,7,6,2,0] [4,1,0] r (fun j E l (d,f)=>fun c w=>∃ D q,j ⟨58,[],none⟩ (fun I_=>True) ((9,.int .i64 f) :: E) (pto R (.cells #[.int .i64 e.Rows,.int .i64 e.Cols,.slice D d.length q,.slice T (a++([m.Col])).length U,.slice W (b++([p.Val])).length X] 33 (0,0)) :: OwnSl AE 3 D q d :: l) c w) (fun c w ho hs=>⟨_,_,jf rf trivial [2,2,2,1,0] r ho hs⟩) ?_)))))
   rintro ⟨d,f⟩ d3 hd c w ⟨D,q,f3,N,_,hok,hsym⟩
   obtain ⟨e4,b3,R3⟩:=N.u3 H k R3
   refine Cod.at hok hsym (.seq (.sr (.kn 3 [47,9,8,7,6,2,0] r (.condP r hd (fun b4 hd=>?_) fun b4 hd=>?_))))
   · refine .sn [9,8,7,6,2,0] r (.seq (.block (.region (.ks 1 r (.lo EL .z r (.ks 1 r ?_))))))
     obtain ⟨Z,F,s,hd⟩:=hd
     refine .ownNe .p1 (EN s) fun c9 d0=>?_
     cases d0
     refine .ixa0 BX FI r r Z (AH s Z) r r (.lo1 (j:=0) BL .p1 s r r r r r (.ks 1 r ?_))
     obtain ⟨a3,f4,O,hd⟩:=hd
     exact .ixa0 BX FI r r a3 (AH O a3) r r (.stO1 (j:=0) (v':=(AJ (F+1))) FI .p1 O r r r (.o r) r (.rl .p1 [51] r (by simp only [List.length_set]) (.reat .z (B:=pto R (.cells #[.int .i64 e.Rows,.int .i64 e.Cols,.slice (some ⟨c9,0,none⟩) (d.set f.toNat (AJ (F+1))).length q,.slice T (a++([m.Col])).length U,.slice W (b++([p.Val])).length X] 33 (0,0))) (by simp only [List.length_set]) (.no [9,8,7,6,2,0] r (.region (.ks 3 r (.nil' fun c w ho hs=>⟨((d.set f.toNat (AJ (F+1))),AJ (f+1)),hd,_,_,jf N trivial [0,0,0,0,0] r ho hs⟩)))))))
   exact .en [8,7,6,2,0] r (.region (.ks 3 r (.nil' fun c w ho hs=>⟨(d,(a++([m.Col])),(b++([p.Val])),AJ (t+1)),hd,_,_,_,_,_,_,jf b3 trivial [0,0,1,1,0] r ho hs⟩)))
 refine .en [7,6] r (.sr (.lw BQ AU .z r (.sa AU .p4 r (.no [6] r (.drop .z (.pub .z fun f5 b5 g=>?_))))))
 obtain ⟨b6,b7⟩:=b5.u2 H k
 refine .pub .z fun f6 b8 G=>?_
 obtain ⟨b9,c0,g⟩:=b8.u3 b6 b7 g
 refine .pub .z fun f7 c1 d1=>?_
 obtain ⟨c3,e5,g,G⟩:=c1.u4 b9 c0 g G
 exact .ret (BO results59 (.w BQ AU r .z r .n) c3 ⟨({ Rows:=e.Rows,Cols:=e.Cols,Start:=i,Col:=a,Val:=b }:Rows),_,_,_,_,_,_,r,g,G,d1,hd⟩)
theorem aN {a0 a1 a2:Int} {a3:List AC} {Q:(Rows×Int)→Prop} (R3:RepSl AW I p1 c2 a3) (hd:UT a0 a1 a2 a3 Q) :
  BZ prog 60 [.int .i64 a0,.int .i64 a1,.int .i64 a2,.slice p1 a3.length c2] I (o8_ Q):=by
 refine Fun.en func60 ntmps60 r fun w0 M=>?_
 refine .sr (.al DH r fun l2=>?_)
 refine .kn 1 [8,3,2,1,0] r (.seq (.sk 1 r ?_))
 have e8:=aM (I:=I) hd
 refine .cq call102 e8 r fun l3 hd=>?_
 refine .kn 1 [17,8,3,2,1,0] r (.condP r hd (fun e9 hd=>?_) fun e9 hd=>?_)
 · exact .sr (.build DH JK JJ .n (by exact trivial) r r (.sa AU .z r (.kn 1 [9,8] r (.ret (BO results60 (.w BQ AU r .z r (.t r .n)) rf ⟨(({ Rows:=0,Cols:=0,Start:=([]:List Int),Col:=([]:List Int),Val:=([]:List Int) }:Rows),8),_,_,_,_,_,_,r,(.nil _ _ _),(.nil _ _ _),(.nil _ _ _),hd⟩)))))
 refine .sn [8,3,2,1,0] r (.seq (.sk 3 r ?_))
 refine AL hd (fun m hd=>?_) fun m hd=>?_
 · rw [m]
   exact .kn 11 [32,8,3,2,1,0] r (.condKT r r (.sr (.build DH JK JJ .n (by exact trivial) r r (.sa AU .z r (.kn 1 [9,8] r (.ret (BO results60 (.w BQ AU r .z r (.t r .n)) rf ⟨(({ Rows:=0,Cols:=0,Start:=([]:List Int),Col:=([]:List Int),Val:=([]:List Int) }:Rows),3),_,_,_,_,_,_,r,(.nil _ _ _),(.nil _ _ _),(.nil _ _ _),hd⟩)))))))
 rw [m]
 refine .ks 4 r ?_
 refine AL hd (fun p hd=>?_) fun p hd=>?_
 · rw [p]
   exact .kn 7 [32,8,3,2,1,0] r (.condKT r r (.sr (.build DH JK JJ .n (by exact trivial) r r (.sa AU .z r (.kn 1 [9,8] r (.ret (BO results60 (.w BQ AU r .z r (.t r .n)) rf ⟨(({ Rows:=0,Cols:=0,Start:=([]:List Int),Col:=([]:List Int),Val:=([]:List Int) }:Rows),3),_,_,_,_,_,_,r,(.nil _ _ _),(.nil _ _ _),(.nil _ _ _),hd⟩)))))))
 rw [p]
 refine .ks 4 r ?_
 refine AL hd (fun q hd=>?_) fun q hd=>?_
 · rw [q]
   exact .kn 3 [32,8,3,2,1,0] r (.condKT r r (.sr (.build DH JK JJ .n (by exact trivial) r r (.sa AU .z r (.kn 1 [9,8] r (.ret (BO results60 (.w BQ AU r .z r (.t r .n)) rf ⟨(({ Rows:=0,Cols:=0,Start:=([]:List Int),Col:=([]:List Int),Val:=([]:List Int) }:Rows),3),_,_,_,_,_,_,r,(.nil _ _ _),(.nil _ _ _),(.nil _ _ _),hd⟩)))))))
 rw [q]
 refine .kn 3 [32,8,3,2,1,0] r (.condP r hd (fun f0 hd=>?_) fun f0 hd=>?_)
 · exact .sr (.build DH JK JJ .n (by exact trivial) r r (.sa AU .z r (.kn 1 [9,8] r (.ret (BO results60 (.w BQ AU r .z r (.t r .n)) rf ⟨(({ Rows:=0,Cols:=0,Start:=([]:List Int),Col:=([]:List Int),Val:=([]:List Int) }:Rows),3),_,_,_,_,_,_,r,(.nil _ _ _),(.nil _ _ _),(.nil _ _ _),hd⟩)))))
 refine .sn [8,3,2,1,0] r (.seq (.sk 1 r (.ln ER r (.kn 1 [36,8,3,2,1,0] r (.condP r hd (fun f1 hd=>?_) fun f1 hd=>?_)))))
 · exact .sr (.build DH JK JJ .n (by exact trivial) r r (.sa AU .z r (.kn 1 [9,8] r (.ret (BO results60 (.w BQ AU r .z r (.t r .n)) rf ⟨(({ Rows:=0,Cols:=0,Start:=([]:List Int),Col:=([]:List Int),Val:=([]:List Int) }:Rows),5),_,_,_,_,_,_,r,(.nil _ _ _),(.nil _ _ _),(.nil _ _ _),hd⟩)))))
 refine .sn [8,3,2,1,0] r (.sr (.kn 1 [10,8,3,2,1,0] r (.seq (.sr (.kn 1 [11,10,8,3,2,1,0] r (.block (.own0 WT 49 (.lx hd [8,3,2,1,0] [1] r (fun j E l (b,s)=>fun c w=>∃ u v,j ⟨135,[],none⟩ (fun I_=>True) ((10,.slice u b.length v) :: (11,.int .i64 s) :: E) (OwnSl WT 49 u v b :: l) c w) (fun c w ho hs=>⟨_,_,jf rf trivial [0,0] r ho hs⟩) ?_))))))))
 rintro ⟨b,s⟩ g7 hd c w ⟨u,v,h9,a,_,hok,hsym⟩
 have R3:=a.u1 R3
 refine Cod.at hok hsym (.seq (.sk 2 r (.ln ER r (.kn 1 [41,11,10,8,3,2,1,0] r (.condP r hd (fun b3 hd=>?_) fun b3 hd=>?_)))))
 · refine .sn [11,10,8,3,2,1,0] r (.seq (.block (.seq (.sk 2 r ?_))))
   obtain ⟨R,i0,D,hd⟩:=hd
   obtain ⟨i1,o711,h1,f2,b4,b5⟩:=R3.2 _ _ D
   cases b5
   refine .ixa ER ES r f2 r R (AH D R) r r (.ks 1 r (.ld1 (j:=0) BL b4 r r r r r (.ks 2 r ?_)))
   refine AL hd (fun d hd=>?_) fun d hd=>?_
   · rw [d]
     exact .kn 25 [75,11,10,8,3,2,1,0] r (.condKT r r (.sr (.build DH JK JJ .n (by exact trivial) r r (.sa AU .p1 r (.kn 1 [9,8] r (.drop .z (.ret (BO results60 (.w BQ AU r .z r (.t r .n)) a ⟨(({ Rows:=0,Cols:=0,Start:=([]:List Int),Col:=([]:List Int),Val:=([]:List Int) }:Rows),3),_,_,_,_,_,_,r,(.nil _ _ _),(.nil _ _ _),(.nil _ _ _),hd⟩))))))))
   rw [d]
   refine .ks 2 r ?_
   obtain ⟨S,i2,F,hd⟩:=hd
   obtain ⟨i3,o721,h2,f3,b6,b7⟩:=R3.2 _ _ F
   cases b7
   refine .yes r (.ixa ER ES r f3 r S (AH F S) r r (.ks 1 r (.yes r (.ld1 (j:=0) BL b6 r r r r r (.ks 4 r ?_)))))
   refine AL hd (fun e hd=>?_) fun e hd=>?_
   · rw [e]
     exact .kn 16 [75,11,10,8,3,2,1,0] r (.condKT r r (.sr (.build DH JK JJ .n (by exact trivial) r r (.sa AU .p1 r (.kn 1 [9,8] r (.drop .z (.ret (BO results60 (.w BQ AU r .z r (.t r .n)) a ⟨(({ Rows:=0,Cols:=0,Start:=([]:List Int),Col:=([]:List Int),Val:=([]:List Int) }:Rows),3),_,_,_,_,_,_,r,(.nil _ _ _),(.nil _ _ _),(.nil _ _ _),hd⟩))))))))
   rw [e]
   refine .ks 2 r ?_
   obtain ⟨T,i4,G,hd⟩:=hd
   obtain ⟨i5,o731,h3,f4,b8,b9⟩:=R3.2 _ _ G
   cases b9
   refine .yes r (.ixa ER ES r f4 r T (AH G T) r r (.ks 1 r (.yes r (.ld1 (j:=1) BL b8 r r r r r (.ks 3 r ?_)))))
   refine AL hd (fun f hd=>?_) fun f hd=>?_
   · rw [f]
     exact .kn 8 [75,11,10,8,3,2,1,0] r (.condKT r r (.sr (.build DH JK JJ .n (by exact trivial) r r (.sa AU .p1 r (.kn 1 [9,8] r (.drop .z (.ret (BO results60 (.w BQ AU r .z r (.t r .n)) a ⟨(({ Rows:=0,Cols:=0,Start:=([]:List Int),Col:=([]:List Int),Val:=([]:List Int) }:Rows),3),_,_,_,_,_,_,r,(.nil _ _ _),(.nil _ _ _),(.nil _ _ _),hd⟩))))))))
   rw [f]
   refine .ks 2 r ?_
   obtain ⟨U,i6,H,hd⟩:=hd
   obtain ⟨i7,o741,h4,f5,c0,c1⟩:=R3.2 _ _ H
   cases c1
   refine .yes r (.ixa ER ES r f5 r U (AH H U) r r (.ks 1 r (.yes r (.ld1 (j:=1) BL c0 r r r r r (.kn 3 [75,11,10,8,3,2,1,0] r (.condP r hd (fun c3 hd=>?_) fun c3 hd=>?_))))))
   · exact .sr (.build DH JK JJ .n (by exact trivial) r r (.sa AU .p1 r (.kn 1 [9,8] r (.drop .z (.ret (BO results60 (.w BQ AU r .z r (.t r .n)) a ⟨(({ Rows:=0,Cols:=0,Start:=([]:List Int),Col:=([]:List Int),Val:=([]:List Int) }:Rows),3),_,_,_,_,_,_,r,(.nil _ _ _),(.nil _ _ _),(.nil _ _ _),hd⟩))))))
   refine .sn [11,10,8,3,2,1,0] r (.ownF .z fun g9=>?_)
   refine .dr [0,1,2,3,4,5,6,7,8,9,10,11,12,13,14,15,16,17,18] 19 (.fk 3 r ?_)
   obtain ⟨V,X,J,hd⟩:=hd
   obtain ⟨i8,o752,h5,f6,c4,c5⟩:=R3.2 _ _ J
   cases c5
   refine .h r (fun _=>.ixa ER ES r f6 r V (AH J V) r r .mk) (.fk 1 r (.h r (fun _=>.ld1 (j:=0) BL c4 r r r r r .mk) (.fk 2 r ?_)))
   obtain ⟨Y,Z,K,hd⟩:=hd
   obtain ⟨i9,o761,h6,f7,c6,c7⟩:=R3.2 _ _ K
   cases c7
   refine .h r (fun _=>.ixa ER ES r f7 r Y (AH K Y) r r .mk) (.fk 1 r (.h r (fun _=>.ld1 (j:=1) BL c6 r r r r r .mk) (.fk 2 r ?_)))
   obtain ⟨a4,a5,L,hd⟩:=hd
   obtain ⟨j0,o770,h7,f8,c8,c9⟩:=R3.2 _ _ L
   cases c9
   refine .h r (fun _=>.ixa ER ES r f8 r a4 (AH L a4) r r .mk) (.fk 1 r (.h r (fun _=>.ld1 (j:=2) XC c8 r r r r r .mk) (.h r (fun _=>.build zD AdC AdA (.c r r r (.o r) (.c r r r (.o r) (.c r r r (.o r) .n))) (by exact ⟨⟨_,_,r,r,r⟩,⟨⟨_,_,r,r,r⟩,⟨⟨_,_,r,r,r⟩,trivial⟩⟩⟩) r r .mk) (.ww r fun ex=>?_))))
   refine .buildSlice 1 PS SO zD r r (.c r r r .n) r r fun j1=>?_
   refine .so 3 r r r (.ck 1 r r trivial) (.ww r fun ex=>?_)
   obtain ⟨d0,hd⟩:=hd
   refine .append (ys:=[({ From:=X.Row,To:=Z.Col,W:=a5.Val }:DO)]) 24 .p1 PS PS Ae8 r r r r r r r r r (.box .z (.one r) r) d0 r r fun j2 j3=>?_
   exact .so 3 r r r trivial (.e2 19 (.kn 1 [10,11,8,3,2,1,0] r (.drop .p1 (.region (.ks 3 r (.nil' fun c w ho hs=>⟨((b++([({ From:=X.Row,To:=Z.Col,W:=a5.Val }:DO)])),AJ (s+1)),hd,_,_,jf a trivial [0,0] r ho hs⟩))))))
 refine .en [10,8,2,1,0] r (.sk 2 r (.pub .z fun f9 d1 x=>?_))
 have d2:=d1.u1 a
 have d3:=fS (I:=f9) x hd
 refine .callO call127 r d3 r r fun j4 j5 j6 d4 d5=>?_
 obtain ⟨g0,j7,j8,rfl,rfl,hd⟩:=d5
 obtain ⟨N,x⟩:=d4.u2 d2 x
 refine .kn 5 [12,10,8,2,1] r (.seq (.sr (.kn 2 [103,12,10,8,2,1] r (.condP r hd (fun d6 hd=>?_) fun d6 hd=>?_))))
 · exact .sr (.build DH JK JJ .n (by exact trivial) r r (.ks 1 r (.sa AU .p1 r (.kn 1 [9,8] r (.drop .z (.ret (BO results60 (.w BQ AU r .z r (.t r .n)) N ⟨(({ Rows:=0,Cols:=0,Start:=([]:List Int),Col:=([]:List Int),Val:=([]:List Int) }:Rows),g0.2),_,_,_,_,_,_,r,(.nil _ _ _),(.nil _ _ _),(.nil _ _ _),hd⟩)))))))
 refine .sn [10,8,2,1] r (.sr (.kn 1 [13,10,8,2,1] r (.seq (.sr (.kn 1 [14,13,10,8,2,1] r (.block (.own0 AW 103 (.lx hd [10,8,2,1] [2,1] r (fun j E l (g,y)=>fun c w=>∃ A B,j ⟨135,[],none⟩ (fun I_=>True) ((13,.slice A g.length B) :: (14,.int .i64 y) :: E) (OwnSl AW 103 A B g :: l) c w) (fun c w ho hs=>⟨_,_,jf rf trivial [0,1,0] r ho hs⟩) ?_))))))))
 rintro ⟨g,y⟩ g8 hd c w ⟨A,B,j9,i,_,hok,hsym⟩
 have d7:=i.u1 N
 refine Cod.at hok hsym (.seq (.sk 2 r (.ln PS r (.kn 1 [109,14,13,10,8,2,1] r (.condP r hd (fun d8 hd=>?_) fun d8 hd=>?_)))))
 · refine .sn [14,13,10,8,2,1] r (.seq (.block (.ownF .z fun h0=>?_)))
   refine .ownF .p2 fun a6=>?_
   refine .dr [0,1,2,3,4,5,6,7,8,9,10,11,12,13,14,15,16,17,18] 19 (.fk 3 r ?_)
   obtain ⟨a7,a8,k,hd⟩:=hd
   obtain ⟨k0,g1⟩:=a6 (EN k)
   cases g1
   refine .h r (fun _=>.ixa0 PS SO r r a7 (AH k a7) r r .mk) (.fk 1 r (.h r (fun _=>.lo1 (j:=0) BL .p2 k r r r r r .mk) (.fk 2 r ?_)))
   obtain ⟨a9,b0,O,hd⟩:=hd
   refine .h r (fun _=>.ixa0 PS SO r r a9 (AH O a9) r r .mk) (.fk 1 r (.h r (fun _=>.lo1 (j:=1) BL .p2 O r r r r r .mk) (.fk 2 r ?_)))
   obtain ⟨b1,b2,P,hd⟩:=hd
   refine .h r (fun _=>.ixa0 PS SO r r b1 (AH P b1) r r .mk) (.fk 1 r (.h r (fun _=>.lo1 (j:=2) XC .p2 P r r r r r .mk) (.h r (fun _=>.build LC bQ bP (.c r r r (.o r) (.c r r r (.o r) (.c r r r (.o r) .n))) (by exact ⟨⟨_,_,r,r,r⟩,⟨⟨_,_,r,r,r⟩,⟨⟨_,_,r,r,r⟩,trivial⟩⟩⟩) r r .mk) (.ww r fun ex=>?_))))
   refine .buildSlice 1 ER ES LC r r (.c r r r .n) r r fun k1=>?_
   refine .so 4 r r r (.ck 1 r r trivial) (.ww r fun ex=>?_)
   obtain ⟨d9,hd⟩:=hd
   refine .append (ys:=[({ Row:=a8.From,Col:=b0.To,Val:=b2.W }:AC)]) 24 .p1 ER ER bO r r r r r r r r r (.box .z (.one r) r) d9 r r fun k2 k3=>?_
   exact .so 4 r r r trivial (.e2 19 (.kn 1 [13,14,10,8,2,1] r (.drop .p1 (.region (.ks 3 r (.nil' fun c w ho hs=>⟨((g++([({ Row:=a8.From,Col:=b0.To,Val:=b2.W }:AC)])),AJ (y+1)),hd,_,_,jf i trivial [0,0,0] r ho hs⟩))))))
 refine .en [13,8,2,1] r (.drop .p2 (.sk 3 r (.pub .z fun g2 e0 C=>?_)))
 obtain ⟨e1,e3⟩:=e0.u2 d7 i
 have e4:=kF (I:=g2) C hd
 refine .call call59 r e4 r r fun k4 k5 e5 e6=>?_
 obtain ⟨g3,k6,k7,k8,k9,l0,l1,rfl,g4,g5,g6,hd⟩:=e6
 obtain ⟨e7,h8,C⟩:=e5.u3 e1 e3 C
 exact .sa AU .z r (.kn 1 [9,8] r (.ret (BO results60 (.w BQ AU r .z r (.t r .n)) e7 ⟨(g3,0),_,_,_,_,_,_,r,g4,g5,g6,hd⟩)))
theorem QG {a0 a1:Int} {Q:Bool→Prop} (hd:JD a0 a1 Q) :
  BZ prog 99 [.int .i64 a0,.int .i64 a1] I (fun _=>gE Q):=by
 refine Fun.en func99 ntmps99 r fun w0 M=>?_
 refine .sk 1 r (.nk [1,0] 3 r ?_)
 refine AL hd (fun a hd=>?_) fun a hd=>?_
 · rw [a]
   exact .kn 5 [4] r (.r0 results99 r ⟨(decide (a0≤a1)),r,hd⟩)
 rw [a]
 exact .kn 5 [4] r (.r0 results99 r ⟨false,r,hd⟩)
theorem RP {a0:Int} {Q:Bool→Prop} (hd:QP a0 Q) :
  BZ prog 100 [.int .i64 a0] I (fun _=>gE Q):=by
 refine Fun.en func100 ntmps100 r fun w0 M=>?_
 refine .sk 1 r (.nk [0] 3 r ?_)
 refine AL hd (fun a hd=>?_) fun a hd=>?_
 · rw [a]
   exact .kn 4 [2] r (.r0 results100 r ⟨(decide (a0<6)),r,hd⟩)
 rw [a]
 exact .kn 4 [2] r (.r0 results100 r ⟨false,r,hd⟩)
theorem HG {a0 a1:Int} {Q:Bool→Prop} (hd:GF a0 a1 Q) :
  BZ prog 167 [.int .i64 a0,.int .i64 a1] I (fun _=>gE Q):=by
 refine Fun.en func167 ntmps167 r fun w0 M=>?_
 refine .sk 1 r (.nk [1,0] 3 r ?_)
 refine AL hd (fun a hd=>?_) fun a hd=>?_
 · rw [a]
   exact .kn 5 [4] r (.r0 results167 r ⟨(decide (a0≤a1)),r,hd⟩)
 rw [a]
 exact .kn 5 [4] r (.r0 results167 r ⟨false,r,hd⟩)
theorem MA {a0:Int} {Q:Bool→Prop} (hd:HM a0 Q) :
  BZ prog 178 [.int .i64 a0] I (fun _=>gE Q):=by
 refine Fun.en func178 ntmps178 r fun w0 M=>?_
 exact .sk 1 r (.nk [0] 4 r (.no [2] r (.r0 results178 r ⟨(a0 != a0),r,hd⟩)))
theorem jI {a0 a1:Int} {Q:Bool→Prop} (hd:QQ a0 a1 Q) :
  BZ prog 223 [.int .i64 a0,.int .i64 a1] I (fun _=>gE Q):=by
 refine Fun.en func223 ntmps223 r fun w0 M=>?_
 refine .sk 1 r (.nk [1,0] 1 r ?_)
 have c:=MA (I:=I) hd
 refine .cq call178 c r fun f hd=>?_
 refine .ks 1 r ?_
 refine AL hd (fun b hd=>?_) fun b hd=>?_
 · rw [b]
   refine .ks 1 r ?_
   have d:=MA (I:=I) hd
   refine .yes r (.callP call178 r d r r fun g e=>?_)
   obtain ⟨h,rfl,hd⟩:=e
   refine .ks 3 r ?_
   refine AL hd (fun a hd=>?_) fun a hd=>?_
   · rw [a]
     exact .kn 5 [4] r (.r0 results223 r ⟨true,r,hd⟩)
   rw [a]
   exact .kn 5 [4] r (.r0 results223 r ⟨(decide (a0<a1)),r,hd⟩)
 rw [b]
 exact .kn 10 [4] r (.r0 results223 r ⟨(decide (a0<a1)),r,hd⟩)
theorem TF {a0:List Int} {Q:Bool→Prop} (R3:RepSl AE I p1 c2 a0) (hd:FJ a0 Q) :
  BZ prog 168 [.slice p1 a0.length c2] I (fun _=>gE Q):=by
 refine Fun.en func168 ntmps168 r fun w0 M=>?_
 refine .sr (.kn 1 [0] r (.seq (.sk 1 r (.ln BX r (.kn 2 [3,0] r (.block (.lp hd [0] [] r (fun j E l b=>j ((3,.int .i64 b) :: E) l) (ji rf [] r) ?_)))))))
 refine fun b q hd=>jq r fun s a=>?_
 have R3:=a.u1 R3
 refine .seq (.sr (.kn 2 [8,3,0] r (.condP r hd (fun g hd=>?_) fun g hd=>?_)))
 · refine .sn [3,0] r (.seq (.block (.seq (.dr [0,1,2,3,4,5,6,7,8,9] 10 (.fk 2 r ?_)))))
   obtain ⟨e,x,c,hd⟩:=hd
   obtain ⟨y,o67,v,t,i,k⟩:=R3.2 _ _ c
   cases k
   refine .h r (fun _=>.ixa BX FI r t r e (AH c e) r r .mk) (.h r (fun _=>.ld1 (j:=0) BL i r r r r r .mk) (.fk 3 r ?_))
   obtain ⟨f,z,d,hd⟩:=hd
   obtain ⟨A,o76,w,u,m,n⟩:=R3.2 _ _ d
   cases n
   refine .h r (fun _=>.ixa BX FI r u r f (AH d f) r r .mk) (.h r (fun _=>.ld1 (j:=0) BL m r r r r r .mk) (.ww r fun ex=>?_))
   have o:=jI (I:=s) hd
   refine .cq call223 o r fun B hd=>?_
   refine .so 0 r r r trivial (.e2 10 (.no [20,3,0] r (.condP r hd (fun p hd=>?_) fun p hd=>?_)))
   · exact .sr (.kn 1 [2] r (.r1 results168 r a ⟨false,r,hd⟩))
   exact .sn [3,0] r (.region (.ks 3 r (.nil' (je (AJ (b - 1)) hd a [] r))))
 exact .en [] r (.sr (.kn 1 [2] r (.r1 results168 r a ⟨true,r,hd⟩)))
theorem xY {a0:List Int} {a1:Int} {Q:Bool→Prop} (R3:RepSl AE I p1 c2 a0) (hd:gB a0 a1 Q) :
  BZ prog 169 [.slice p1 a0.length c2,.int .i64 a1] I (fun _=>gE Q):=by
 refine Fun.en func169 ntmps169 r fun w0 M=>?_
 refine .sr (.kn 1 [1,0] r (.seq (.sk 1 r (.ln BX r (.kn 1 [9,8,7,1,0] r (.block (.lp hd [8,7,1,0] [] r (fun j E l d=>j ((9,.int .i64 d) :: E) l) (ji rf [] r) ?_)))))))
 refine fun d t hd=>jq r fun u a=>?_
 have R3:=a.u1 R3
 refine .sr (.kn 1 [10,9,8,7,1,0] r (.seq (.condP r hd (fun n hd=>?_) fun n hd=>?_)))
 · refine .sn [9,8,7,1,0] r (.seq (.block (.sk 1 r ?_)))
   obtain ⟨k,z,f,hd⟩:=hd
   obtain ⟨A,o87,x,v,o,p⟩:=R3.2 _ _ f
   cases p
   refine .ixa BX FI r v r k (AH f k) r r (.ld1 (j:=0) BL o r r r r r (.ks 2 r (.nk [6,5,9,8,7,1,0] 3 r ?_)))
   have q:=HG (I:=u) hd
   refine .cq call167 q r fun B hd=>?_
   refine .ks 2 r ?_
   refine AL hd (fun b hd=>?_) fun b hd=>?_
   · rw [b]
     exact .kn 12 [31,9,8,7,1,0] r (.condKT r r (.sr (.kn 1 [4] r (.r1 results169 r a ⟨false,r,hd⟩))))
   rw [b]
   refine .ks 3 r ?_
   refine AL hd (fun c hd=>?_) fun c hd=>?_
   · rw [c]
     refine .ks 3 r ?_
     obtain ⟨m,C,e,hd⟩:=hd
     obtain ⟨y,o102,w,s,g,h⟩:=R3.2 _ _ e
     cases h
     refine .yes r (.ixa BX FI r s r m (AH e m) r r (.yes r (.ld1 (j:=0) BL g r r r r r (.kn 4 [31,9,8,7,1,0] r (.condP r hd (fun i hd=>?_) fun i hd=>?_)))))
     · exact .sr (.kn 1 [4] r (.r1 results169 r a ⟨false,r,hd⟩))
     exact .sn [9,8,7,1,0] r (.region (.ks 2 r (.nil' (je (AJ (d+1)) hd a [] r))))
   rw [c]
   exact .kn 9 [31,9,8,7,1,0] r (.condKF r r (.sn [9,8,7,1,0] r (.region (.ks 2 r (.nil' (je (AJ (d+1)) hd a [] r))))))
 exact .en [] r (.sr (.kn 1 [4] r (.r1 results169 r a ⟨true,r,hd⟩)))
theorem MZ {a0:Rows} {Q:Bool→Prop} (R3:RepSl AE I p1 c2 a0.Start) (R6:RepSl AE I p4 c5 a0.Col) (R9:RepSl AE I p7 c8 a0.Val) (hd:HX a0 Q) :
  BZ prog 101 [.agg #[.int .i64 a0.Rows,.int .i64 a0.Cols,.slice p1 a0.Start.length c2,.slice p4 a0.Col.length c5,.slice p7 a0.Val.length c8]] I (fun _=>gE Q):=by
 refine Fun.en func101 ntmps101 r fun w0 M=>?_
 refine .sr (.bx r fun b9=>?_)
 refine .ks 1 r (.nk [1] 1 r (.lo EL .z r (.ln BX r (.kn 1 [3,1] r (.seq (.sk 1 r (.lo BL .z r ?_)))))))
 have J:=HG (I:=I) hd
 refine .cq call167 J r fun c0 hd=>?_
 refine .ks 2 r ?_
 refine AL hd (fun c hd=>?_) fun c hd=>?_
 · rw [c]
   exact .kn 25 [37,3,1] r (.condKT r r (.sr (.kn 1 [2] r (.drop .z (.r0 results101 r ⟨false,r,hd⟩)))))
 rw [c]
 refine .ks 1 r (.yes r (.lo BL .z r ?_))
 have K:=HG (I:=I) hd
 refine .yes r (.callP call167 r K r r fun c1 N=>?_)
 obtain ⟨c3,rfl,hd⟩:=N
 refine .ks 3 r ?_
 refine AL hd (fun d hd=>?_) fun d hd=>?_
 · rw [d]
   exact .kn 19 [37,3,1] r (.condKT r r (.sr (.kn 1 [2] r (.drop .z (.r0 results101 r ⟨false,r,hd⟩)))))
 rw [d]
 refine .ks 1 r (.yes r (.lo EL .z r (.yes r (.ln BX r (.ks 1 r (.yes r (.lo BL .z r (.ks 4 r ?_))))))))
 refine AL hd (fun e hd=>?_) fun e hd=>?_
 · rw [e]
   exact .kn 10 [37,3,1] r (.condKT r r (.sr (.kn 1 [2] r (.drop .z (.r0 results101 r ⟨false,r,hd⟩)))))
 rw [e]
 refine .ks 1 r (.yes r (.lo fL .z r (.yes r (.ln TC r (.ks 4 r ?_)))))
 refine AL hd (fun f hd=>?_) fun f hd=>?_
 · rw [f]
   exact .kn 3 [37,3,1] r (.condKT r r (.sr (.kn 1 [2] r (.drop .z (.r0 results101 r ⟨false,r,hd⟩)))))
 rw [f]
 refine .kn 3 [37,3,1] r (.condP r hd (fun O hd=>?_) fun O hd=>?_)
 · exact .sr (.kn 1 [2] r (.drop .z (.r0 results101 r ⟨false,r,hd⟩)))
 refine .sn [3,1] r (.seq (.sk 1 r (.lo EL .z r ?_)))
 obtain ⟨F,c4,p,hd⟩:=hd
 obtain ⟨c6,o69,b0,a6,P,R⟩:=R3.2 _ _ p
 cases R
 refine .ixa BX FI r a6 r F (AH p F) r r (.ld1 (j:=0) BL P r r r r r (.ks 2 r ?_))
 refine AL hd (fun g hd=>?_) fun g hd=>?_
 · rw [g]
   exact .kn 15 [58,1] r (.condKT r r (.sr (.kn 1 [2] r (.drop .z (.r0 results101 r ⟨false,r,hd⟩)))))
 rw [g]
 refine .ks 1 r (.yes r (.lo EL .z r (.ks 1 r (.yes r (.lo BL .z r ?_)))))
 obtain ⟨G,c7,q,hd⟩:=hd
 obtain ⟨c9,o79,b1,a7,S,T⟩:=R3.2 _ _ q
 cases T
 refine .yes r (.ixa BX FI r a7 r G (AH q G) r r (.yes r (.ld1 (j:=0) BL S r r r r r (.ks 4 r ?_))))
 refine AL hd (fun i hd=>?_) fun i hd=>?_
 · rw [i]
   exact .kn 5 [58,1] r (.condKT r r (.sr (.kn 1 [2] r (.drop .z (.r0 results101 r ⟨false,r,hd⟩)))))
 rw [i]
 refine .ks 1 r (.yes r (.lo EL .z r ?_))
 have U:=TF (I:=I) R3 hd
 refine .yes r (.callP call168 r U r r fun d0 V=>?_)
 obtain ⟨d1,rfl,hd⟩:=V
 refine .kn 2 [58,1] r (.condP r hd (fun W hd=>?_) fun W hd=>?_)
 · exact .sr (.kn 1 [2] r (.drop .z (.r0 results101 r ⟨false,r,hd⟩)))
 refine .sn [1] r (.seq (.sk 1 r (.lo BL .z r (.kn 1 [61,60,1] r (.block (.lp hd [60,1] [0] r (fun j E l k=>j ((61,.int .i64 k) :: E) l) (ji rf [0] r) ?_))))))
 refine fun k a5 hd=>jq r fun X a=>?_
 obtain ⟨R3,R6,R9⟩:=a.u3 R3 R6 R9
 refine .sr (.kn 1 [62,61,60,1] r (.seq (.condP r hd (fun w hd=>?_) fun w hd=>?_)))
 · refine .sn [61,60,1] r (.seq (.block (.sr (.kn 2 [4,61,60,1] r (.seq (.dr [0,1,2,3,4,5,6,7,8,9,10,11,12,13,14,15,16,17] 18 (.fk 1 r (.h r (fun _=>.lo EL .z r .mk) (.fk 1 r ?_)))))))))
   refine .h r (fun _=>.lo EL .z r .mk) (.fk 1 r ?_)
   obtain ⟨s,m,n,hd⟩:=hd
   obtain ⟨b2,o173,a8,Y,x,y⟩:=R3.2 _ _ n
   cases y
   refine .h r (fun _=>.ixa BX FI r Y r s (AH n s) r r .mk) (.h r (fun _=>.ld1 (j:=0) BL x r r r r r .mk) (.fk 1 r (.h r (fun _=>.lo EL .z r .mk) (.fk 2 r ?_))))
   obtain ⟨t,b,o,hd⟩:=hd
   obtain ⟨b3,o182,a9,Z,A,B⟩:=R3.2 _ _ o
   cases B
   refine .h r (fun _=>.ixa BX FI r Z r t (AH o t) r r .mk) (.h r (fun _=>.ld1 (j:=0) BL A r r r r r .mk) ?_)
   obtain ⟨a1,b4,b5,hd⟩:=hd
   have u:Int.toNat m≤Int.toNat b:=by omega
   have v:Int.toNat b≤a0.Col.length:=by omega
   obtain ⟨b6,b7,a2,a3,a4⟩:=RepSl.sliceW R6 (Int.toNat m) (Int.toNat b) c5 u v (.inl rfl)
   refine .h r (fun _=>.sliceW (L:=Int.toNat m) (H:=Int.toNat b) (cm:=c5) BX FI r r R6.1 r r r (.inr ⟨_,_,r,a1,r⟩) (.inr ⟨_,_,r,(by omega),r⟩) (.inl r) u v r a2 a3 r r .mk) (.fk 1 r (.h r (fun _=>.lo BL .z r .mk) (.ww r fun ex=>?_)))
   have C:=xY (I:=X) a4 hd
   refine .cq call169 C r fun b8 hd=>?_
   refine .so 1 r r r trivial (.fk 1 r (.e2 18 (.no [81,61,60,1] r (.condP r hd (fun D hd=>?_) fun D hd=>?_))))
   · exact .sr (.kn 1 [2] r (.drop .z (.r1 results101 r a ⟨false,r,hd⟩)))
   exact .sn [61,60,1] r (.region (.ks 2 r (.nil' (je (AJ (k+1)) hd a [0] r))))
 exact .en [] r (.drop .z (.sr (.kn 1 [2] r (.r1 results101 r a ⟨true,r,hd⟩))))
theorem PH {a0:BD} {Q:Int→Prop} (R3:RepSl AE I p1 c2 a0.A.Start) (R6:RepSl AE I p4 c5 a0.A.Col) (R9:RepSl AE I p7 c8 a0.A.Val) (R12:RepSl AE I p10 c11 a0.B.Start) (R15:RepSl AE I p13 c14 a0.B.Col) (R18:RepSl AE I p16 c17 a0.B.Val) (R21:RepSl AE I p19 c20 a0.Mask.Start) (R24:RepSl AE I p22 c23 a0.Mask.Col) (R27:RepSl AE I p25 c26 a0.Mask.Val) (hd:GZ a0 Q) :
  BZ prog 33 [.agg #[.int .i64 a0.Ring,.int .i64 a0.A.Rows,.int .i64 a0.A.Cols,.slice p1 a0.A.Start.length c2,.slice p4 a0.A.Col.length c5,.slice p7 a0.A.Val.length c8,.int .i64 a0.B.Rows,.int .i64 a0.B.Cols,.slice p10 a0.B.Start.length c11,.slice p13 a0.B.Col.length c14,.slice p16 a0.B.Val.length c17,.int .i64 a0.Mask.Rows,.int .i64 a0.Mask.Cols,.slice p19 a0.Mask.Start.length c20,.slice p22 a0.Mask.Col.length c23,.slice p25 a0.Mask.Val.length c26,.int .i64 a0.R,.int .i64 a0.C,.int .i64 a0.Room]] I (fun _=>hZ Q):=by
 refine Fun.en func33 ntmps33 r fun w0 M=>?_
 refine .sr (.bx r fun W=>?_)
 refine .ks 1 r (.nk [1] 1 r (.no [3,1] r (.seq (.block (.sk 1 r (.lo aB .z r ?_))))))
 have v:=RP (I:=I) hd
 refine .cq call100 v r fun X hd=>?_
 refine .kn 2 [4,3,1] r (.condP r hd (fun w hd=>?_) fun w hd=>?_)
 · exact .sr (.kn 1 [2] r (.drop .z (.r0 results33 r ⟨8,r,hd⟩)))
 refine .seq (.jn hd [3,1] [0] r (fun j E l t=>j ((9,.bool t) :: E) l) (fun Y hd=>?_) ?_)
 · skip
   refine .region (.ks 1 r (.loadA BQ AU r .z (.o 5 r) r r r ?_))
   have x:=MZ (I:=I) R3 R6 R9 hd
   refine .cq call101 x r fun Z hd=>?_
   refine .ks 2 r ?_
   refine AL hd (fun c hd=>?_) fun c hd=>?_
   · rw [c]
     exact .ks 12 r (.nil' (je true hd rf [0] r))
   rw [c]
   refine .ks 1 r (.yes r (.loadA BQ AU r .z (.o 5 r) r r r ?_))
   have y:=MZ (I:=I) R12 R15 R18 hd
   refine .yes r (.callP call101 r y r r fun a1 D=>?_)
   obtain ⟨a2,rfl,hd⟩:=D
   refine .ks 3 r ?_
   refine AL hd (fun d hd=>?_) fun d hd=>?_
   · rw [d]
     exact .ks 6 r (.nil' (je true hd rf [0] r))
   rw [d]
   refine .ks 1 r (.yes r (.loadA BQ AU r .z (.o 5 r) r r r ?_))
   have F:=MZ (I:=I) R21 R24 R27 hd
   refine .yes r (.callP call101 r F r r fun a3 G=>?_)
   obtain ⟨N,rfl,hd⟩:=G
   exact .ks 3 r (.nil' (je (!N) hd rf [0] r))
 refine fun t hd=>jq r fun a4 b=>?_
 obtain ⟨R3,R6,R9,R12,R15,R18⟩:=b.u6 R3 R6 R9 R12 R15 R18
 obtain ⟨R21,R24,R27⟩:=b.u3 R21 R24 R27
 refine .condP r hd (fun H hd=>?_) fun H hd=>?_
 · exact .sr (.kn 1 [2] r (.drop .z (.r1 results33 r b ⟨7,r,hd⟩)))
 refine .seq (.jn hd [3,1] [0] r (fun j E l u=>j ((26,.bool u) :: E) l) (fun a5 hd=>?_) ?_)
 · skip
   refine .sk 2 r (.lo BL .z r (.ks 2 r (.lo BL .z r (.kn 2 [26,3,1] r (.condP r hd (fun J hd=>?_) fun J hd=>?_)))))
   · exact .skip' (je (a0.A.Cols != a0.B.Rows) hd rf [0] r)
   refine .sk 2 r (.lo BL .z r (.ks 2 r (.lo BL .z r (.kn 2 [26,3,1] r (.condP r hd (fun K hd=>?_) fun K hd=>?_)))))
   · exact .skip' (je (a0.Mask.Rows != a0.A.Rows) hd rf [0] r)
   exact .region (.ks 2 r (.lo BL .z r (.ks 2 r (.lo BL .z r (.ks 2 r (.nil' (je (a0.Mask.Cols != a0.B.Cols) hd rf [0] r)))))))
 refine fun u hd=>jq r fun g h=>?_
 obtain ⟨a,R3,R6,R9,R12,R15⟩:=h.u6 b R3 R6 R9 R12 R15
 obtain ⟨R18,R21,R24,R27⟩:=h.u4 R18 R21 R24 R27
 refine .condP r hd (fun L hd=>?_) fun L hd=>?_
 · exact .sr (.kn 1 [2] r (.drop .z (.r1 results33 r a ⟨4,r,hd⟩)))
 refine .seq (.sk 2 r (.lo BL .z r ?_))
 have i:=QG (I:=g) hd
 refine .callPc call99 r r i r r fun O k=>?_
 obtain ⟨P,rfl,hd⟩:=k
 refine .kn 2 [48,3,1] r (.condP r hd (fun e hd=>?_) fun e hd=>?_)
 · exact .sn [48] r (.drop .z (.condKT r e (.sr (.kn 1 [2] r (.r1 results33 r a ⟨3,r,hd⟩)))))
 refine .sk 2 r (.lo BL .z r ?_)
 have m:=QG (I:=g) hd
 refine .callPc call99 r r m r r fun S n=>?_
 obtain ⟨T,rfl,hd⟩:=n
 refine .kn 2 [48,3,1] r (.condP r hd (fun f hd=>?_) fun f hd=>?_)
 · exact .sn [48] r (.drop .z (.condKT r f (.sr (.kn 1 [2] r (.r1 results33 r a ⟨3,r,hd⟩)))))
 refine .region (.ks 2 r (.lo BL .z r ?_))
 have p:=QG (I:=g) hd
 refine .callPc call99 r r p r r fun U q=>?_
 obtain ⟨V,rfl,hd⟩:=q
 refine .kn 2 [48] r (.drop .z (.condP r hd (fun s hd=>?_) fun s hd=>?_))
 · exact .sr (.kn 1 [2] r (.r1 results33 r a ⟨3,r,hd⟩))
 exact .sn [] r (.sr (.kn 1 [2] r (.r1 results33 r a ⟨0,r,hd⟩)))
theorem Y4 {a0:Int} {Q:Bool→Prop} (hd:OJ a0 Q) :
  BZ prog 137 [.int .i64 a0] I (fun _=>gE Q):=by
 refine Fun.en func137 ntmps137 r fun w0 M=>?_
 refine .sk 1 r (.nk [0] 3 r ?_)
 refine AL hd (fun a hd=>?_) fun a hd=>?_
 · rw [a]
   exact .kn 4 [2] r (.r0 results137 r ⟨(decide (a0≤8)),r,hd⟩)
 rw [a]
 exact .kn 4 [2] r (.r0 results137 r ⟨false,r,hd⟩)
theorem WQ {a0 a1:Int} {Q:Bool→Prop} (hd:RY a0 a1 Q) :
  BZ prog 134 [.int .i64 a0,.int .i64 a1] I (fun _=>gE Q):=by
 refine Fun.en func134 ntmps134 r fun w0 M=>?_
 refine .sk 1 r (.nk [1,0] 3 r ?_)
 refine AL hd (fun a hd=>?_) fun a hd=>?_
 · rw [a]
   refine .ks 4 r ?_
   refine AL hd (fun b hd=>?_) fun b hd=>?_
   · rw [b]
     refine .ks 1 r ?_
     have c:=Y4 (I:=I) hd
     refine .yes r (.callP call137 r c r r fun f d=>?_)
     obtain ⟨e,rfl,hd⟩:=d
     exact .kn 2 [4] r (.r0 results134 r ⟨e,r,hd⟩)
   rw [b]
   exact .kn 4 [4] r (.r0 results134 r ⟨false,r,hd⟩)
 rw [a]
 exact .kn 8 [4] r (.r0 results134 r ⟨false,r,hd⟩)
theorem IW {a0 a1 a2:Int} {Q:Int→Prop} (hd:FV a0 a1 a2 Q) :
  BZ prog 110 [.int .i64 a0,.int .i64 a1,.int .i64 a2] I (fun _=>hZ Q):=by
 refine Fun.en func110 ntmps110 r fun w0 M=>?_
 refine .sr (.kn 1 [2,1,0] r (.seq (.sk 2 r ?_)))
 have c:=WQ (I:=I) hd
 refine .cq call134 c r fun d hd=>?_
 refine .kn 1 [10,2,1,0] r (.condP r hd (fun a hd=>?_) fun a hd=>?_)
 · exact .sr (.kn 1 [6] r (.r0 results110 r ⟨0,r,hd⟩))
 refine .sn [2,1,0] r (.sk 1 r (.maxI r r r r (.ks 1 r (.minI r r r r (.ks 3 r ?_)))))
 obtain ⟨b,hd⟩:=hd
 exact .quo r r b r r (.kn 1 [6] r (.r0 results110 r ⟨(AJ ((AJ ((if a1<(if 0 > a2 then 0 else a2) then a1 else (if 0 > a2 then 0 else a2))*a0)).tdiv a1)),r,hd⟩))
theorem lW {a0 a1 a2:Int} {Q:Int→Prop} (hd:bK a0 a1 a2 Q) :
  BZ prog 136 [.int .i64 a0,.int .i64 a1,.int .i64 a2] I (fun _=>hZ Q):=by
 refine Fun.en func136 ntmps136 r fun w0 M=>?_
 refine .sr (.kn 1 [2,1,0] r (.seq (.sk 2 r ?_)))
 have i:=WQ (I:=I) hd
 refine .cq call134 i r fun o hd=>?_
 refine .ks 2 r ?_
 refine AL hd (fun a hd=>?_) fun a hd=>?_
 · rw [a]
   exact .kn 8 [20,2,1,0] r (.condKT r r (.sr (.kn 1 [6] r (.r0 results136 r ⟨(-1),r,hd⟩))))
 rw [a]
 refine .ks 4 r ?_
 refine AL hd (fun b hd=>?_) fun b hd=>?_
 · rw [b]
   exact .kn 4 [20,2,1,0] r (.condKT r r (.sr (.kn 1 [6] r (.r0 results136 r ⟨(-1),r,hd⟩))))
 rw [b]
 refine .kn 4 [20,2,1,0] r (.condP r hd (fun e hd=>?_) fun e hd=>?_)
 · exact .sr (.kn 1 [6] r (.r0 results136 r ⟨(-1),r,hd⟩))
 refine .sn [2,1,0] r (.sk 4 r ?_)
 obtain ⟨f,hd⟩:=hd
 refine .quo r r f r r (.kn 1 [7,2,1,0] r (.seq (.block (.lp hd [2,1,0] [] r (fun j E l c=>j ((7,.int .i64 c) :: E) l) (ji rf [] r) ?_))))
 refine fun c k hd=>jq r fun m d=>?_
 refine .seq (.sk 4 r ?_)
 have g:=IW (I:=m) hd
 refine .cq call110 g r fun n hd=>?_
 refine .kn 2 [32,7,2,1,0] r (.condP r hd (fun h hd=>?_) fun h hd=>?_)
 · exact .sn [7,2,1,0] r (.block (.region (.ks 3 r (.nil' (je (AJ (c+1)) hd d [] r)))))
 exact .en [7] r (.sr (.kn 2 [6] r (.r1 results136 r d ⟨c,r,hd⟩)))
theorem fT {a0 a1 a2:Int} {Q:(Int×Int×Int)→Prop} (hd:UB a0 a1 a2 Q) :
  Fun prog 135 #[.int .i64 a0,.int .i64 a1,.int .i64 a2] I [] (fun I_ v l=>∃ r b1 b2 b3,v=.func (.func 211) #[] #[.pointer (some ⟨b1,0,none⟩),.pointer (some ⟨b2,0,none⟩),.pointer (some ⟨b3,0,none⟩)]∧l=[pto b1 (.cells #[.int .i64 r.1] 3 (0,0)),pto b2 (.cells #[.int .i64 r.2.1] 3 (0,0)),pto b3 (.cells #[.int .i64 r.2.2] 3 (0,0))]∧Q r):=by
 refine Fun.en func135 ntmps135 r fun w0 M=>?_
 refine .sr (.box1 r r r r fun b1=>?_)
 refine .box1 r r r r fun b3=>?_
 refine .box1 r r r r fun a=>?_
 exact .ks 1 r (.ns [5,4,3] r (.mkFn r r r r (.kn 1 [6] r (.q1 results135 rf [1,1,0] r ⟨(a1,a0,a2),_,_,_,r,r,hd⟩))))
theorem cQ {o0:Nat} {o1 o2 o3:Int} {o4:List AY} {o5 o6 o7 o8:Int} {Y:Nat→Int→Int→Int→(List AY)→Int→Int→((Bool×Nat×(List AY)×Int)→Prop)→Prop} {Q:(Nat×(List AY)×Int)→Prop} (hY:∀ {J_:IH},I.le J_→∀ {y22:Nat} {y23:Int} {y25:Int} {y27:Int} {y29:List AY} {y35:Int} {x37:Int} {p31:Option Addr} {c32:Nat} {Qy:(Bool×Nat×(List AY)×Int)→Prop},Y y22 y23 y25 y27 y29 y35 x37 Qy→RFun prog lr [.int .i64 x37] J_ [Rr y22,pto b10 (.cells #[.int .i64 y23] 3 (0,0)),pto b11 (.cells #[.int .i64 y25] 3 (0,0)),pto b12 (.cells #[.int .i64 y27] 3 (0,0)),pto b13 (.cells #[.slice p31 y29.length c32] 116 (0,0)),OwnSl BR 129 p31 c32 y29,pto b18 (.cells #[.int .i64 y35] 3 (0,0))] (fun I_ v l=>∃ r p39 c40,v=.bool r.1∧l=[Rr r.2.1,pto b10 (.cells #[.int .i64 y23] 3 (0,0)),pto b11 (.cells #[.int .i64 y25] 3 (0,0)),pto b12 (.cells #[.int .i64 y27] 3 (0,0)),pto b13 (.cells #[.slice p39 r.2.2.1.length c40] 116 (0,0)),OwnSl BR 129 p39 c40 r.2.2.1,pto b18 (.cells #[.int .i64 r.2.2.2] 3 (0,0))]∧Qy r)) (hd:QB o0 o1 o2 o3 o4 o5 o6 o7 o8 Y Q) :
  Fun prog 211 #[.func (.yield lr) #[] #[],.pointer (some ⟨b19,0,none⟩),.pointer (some ⟨b20,0,none⟩),.pointer (some ⟨b21,0,none⟩)] I [Rr o0,pto b10 (.cells #[.int .i64 o1] 3 (0,0)),pto b11 (.cells #[.int .i64 o2] 3 (0,0)),pto b12 (.cells #[.int .i64 o3] 3 (0,0)),pto b13 (.cells #[.slice p14 o4.length c15] 116 (0,0)),OwnSl BR 129 p14 c15 o4,pto b18 (.cells #[.int .i64 o5] 3 (0,0)),pto b19 (.cells #[.int .i64 o6] 3 (0,0)),pto b20 (.cells #[.int .i64 o7] 3 (0,0)),pto b21 (.cells #[.int .i64 o8] 3 (0,0))] (fun I_ v l=>∃ r p23 c24,v=.tuple #[]∧l=[Rr r.1,pto b10 (.cells #[.int .i64 o1] 3 (0,0)),pto b11 (.cells #[.int .i64 o2] 3 (0,0)),pto b12 (.cells #[.int .i64 o3] 3 (0,0)),pto b13 (.cells #[.slice p23 r.2.1.length c24] 116 (0,0)),OwnSl BR 129 p23 c24 r.2.1,pto b18 (.cells #[.int .i64 r.2.2] 3 (0,0)),pto b19 (.cells #[.int .i64 o6] 3 (0,0)),pto b20 (.cells #[.int .i64 o7] 3 (0,0)),pto b21 (.cells #[.int .i64 o8] 3 (0,0))]∧Q r):=by
 refine Fun.en func211 ntmps211 r fun w0 M=>?_
 refine .sr (.kn 1 [5,3,2,1,0] r (.seq (.sr (.lo BL .p7 r (.kn 1 [12,11,5,3,2,1,0] r (.block (.own0 AE 3 (.lx hd [11,3,2,1,0] [2,2,2,2,2,2,2,2,2,1] r (fun j E l (h,B)=>fun c w=>∃ C D,j ⟨56,[],none⟩ (fun I_=>True) ((5,.slice C h.length D) :: (12,.int .i64 B) :: E) (OwnSl AE 3 C D h :: l) c w) (fun c w ho hs=>⟨_,_,jf rf trivial [0,1,1,1,1,1,1,1,1,1,0] r ho hs⟩) ?_))))))))
 rintro ⟨h,B⟩ b6 hd c w ⟨C,D,b3,H,_,hok,hsym⟩
 refine Cod.at hok hsym (.sr (.kn 1 [13,12,11,5,3,2,1,0] r (.seq (.condP r hd (fun R hd=>?_) fun R hd=>?_))))
 · refine .sn [12,11,5,3,2,1,0] r (.seq (.block (.sr (.kn 2 [6,12,11,5,3,2,1,0] r (.region (.ks 1 r (.lo BL .p8 r (.lo BL .p7 r (.ks 2 r ?_)))))))))
   have S:=IW (I:=b3) hd
   refine .cq call110 S r fun K hd=>?_
   refine .buildSlice 1 BX FI rW r r (.c r r r .n) r r fun c0=>?_
   obtain ⟨U,hd⟩:=hd
   refine .append (ys:=[K]) 8 .p1 BX BX IN3 r r r r r r r r r (.box .z (.one r) r) U r r fun c1 c2=>?_
   exact .kn 1 [5,12,11,3,2,1,0] r (.drop .p1 (.region (.ks 2 r (.nil' fun c w ho hs=>⟨((h++([K])),AJ (B+1)),hd,_,_,jf H trivial [0,0,0,0,0,0,0,0,0,0,0] r ho hs⟩))))
 refine .en [5,3,2,1,0] r (.seq (.sr (.lo BL .p9 r (.kn 1 [25,24,5,3,2,1,0] r (.block (.lx hd [24,3,2,1,0] [1,1,1,1,1,1,1,1,1,1] r (fun j E l (i,F)=>fun c w=>∃ k m,j ⟨56,[],none⟩ (fun I_=>True) ((5,.slice k i.length m) :: (25,.int .i64 F) :: E) (OwnSl AE 3 k m i :: l) c w) (fun c w ho hs=>⟨_,_,jf rf trivial [0,0,0,0,0,0,0,0,0,0,0] r ho hs⟩) ?_))))))
 rintro ⟨i,F⟩ b7 hd c w ⟨k,m,L,p,_,hok,hsym⟩
 have V:=p.u1 H
 refine Cod.at hok hsym (.sr (.kn 1 [26,25,24,5,3,2,1,0] r (.seq (.condP r hd (fun W hd=>?_) fun W hd=>?_))))
 · refine .sn [25,24,5,3,2,1,0] r (.seq (.block (.sr (.kn 2 [7,25,24,5,3,2,1,0] r (.region (.ks 1 r (.lo BL .p8 r (.lo BL .p9 r (.ks 2 r ?_)))))))))
   have X:=IW (I:=L) hd
   refine .cq call110 X r fun N hd=>?_
   refine .buildSlice 1 BX FI rW r r (.c r r r .n) r r fun c3=>?_
   obtain ⟨Z,hd⟩:=hd
   refine .append (ys:=[N]) 8 .p1 BX BX IN3 r r r r r r r r r (.box .z (.one r) r) Z r r fun c4 c5=>?_
   exact .kn 1 [5,25,24,3,2,1,0] r (.drop .p1 (.region (.ks 2 r (.nil' fun c w ho hs=>⟨((i++([N])),AJ (F+1)),hd,_,_,jf p trivial [0,0,0,0,0,0,0,0,0,0,0] r ho hs⟩))))
 refine .en [5,3,2,1,0] r (.sk 1 r ?_)
 have a0:=Fun.sortI (he:=fun _=>⟨r,r⟩) AeT (I:=L) (T:=3) (a:=k) (cap:=m) hd
 refine .callS (.f call212 r) (.o [0] r) a0 r r fun c6 c7 c8 a1 a2=>?_
 obtain ⟨c9,rfl,J,rfl,hd⟩:=a2
 obtain ⟨a3,a4⟩:=a1.u2 V p
 refine .rl .z [5,37] r (by rw [J]) (.nk [5,3,2,1,0] 1 r (.nk [8,5,3,2,1,0] 1 r (.ln BX r (.kn 1 [41,40,39,8,3,2,1,0] r (.block (.lx hd [40,39,3,2,1,0] [1,1,1,4,4,4,0] r (fun j E l (b,e,O,q,g)=>fun c w=>∃ s t,j ⟨56,[],none⟩ (fun I_=>True) ((8,.int .i64 O) :: (41,.int .i64 q) :: E) (pto b13 (.cells #[.slice s b.length t] 116 (0,0)) :: OwnSl BR 129 s t b :: pto b18 (.cells #[.int .i64 e] 3 (0,0)) :: Rr g :: l) c w) (fun c w ho hs=>⟨_,_,jf rf trivial [4,4,4,7,1,1,1,1,1,1,0] r ho hs⟩) ?_))))))
 rintro ⟨b,e,O,q,g⟩ b8 hd c w ⟨s,t,b4,u,_,hok,hsym⟩
 obtain ⟨x,a5⟩:=u.u2 a3 a4
 refine Cod.at hok hsym (.sr (.kn 1 [42,41,40,39,8,3,2,1,0] r (.seq (.condP r hd (fun a6 hd=>?_) fun a6 hd=>?_))))
 · refine .sn [41,40,39,8,3,2,1,0] r (.seq (.block (.sr ?_)))
   obtain ⟨P,G,y,hd⟩:=hd
   refine .ownNe (.o 10 r) (EN y) fun d0 b5=>?_
   cases b5
   refine .ixa0 BX FI r r P (AH y P) r r (.lo1 (j:=0) BL (.o 10 r) y r r r r r (.kn 1 [10,41,40,39,8,3,2,1,0] r (.seq (.sk 4 r ?_))))
   refine AL hd (fun A hd=>?_) fun A hd=>?_
   · rw [A]
     refine .ks 2 r ?_
     have a7:=hY (J_:=b4) x (y22:=g) (y23:=o1) (y25:=o2) (y27:=o3) (y29:=b) (y35:=e) (x37:=G) (p31:=s) (c32:=t) hd
     refine .yes r (.callY r r (.o [3,3,3,3,0,0,0] r) a7 r r fun d1 d2 d3 a8 a9=>?_)
     obtain ⟨d,d4,d5,rfl,rfl,hd⟩:=a9
     obtain ⟨b0,b9,b1⟩:=a8.u3 x a5 u
     refine .rn 11 r (.kn 2 [53,10,41,40,39,3,2,1,0] r (.condP r hd (fun b2 hd=>?_) fun b2 hd=>?_))
     · exact .ret (RV results211 .n b0 (.o [0,0,0,0,0,0,0,0,0,0] r) ⟨(d.2.1,d.2.2.1,d.2.2.2),_,_,r,r,hd⟩)
     exact .sn [10,41,40,39,3,2,1,0] r (.region (.kn 2 [8,41,40,39,3,2,1,0] r (.region (.ks 2 r (.nil' fun c w ho hs=>⟨(d.2.2.1,d.2.2.2,G,AJ (q+1),d.2.1),hd,_,_,jf b1 trivial [4,4,4,0,0,0,0,0,0,0,0] r ho hs⟩)))))
   rw [A]
   exact .kn 5 [53,10,41,40,39,3,2,1,0] r (.condKF r r (.sn [10,41,40,39,3,2,1,0] r (.region (.kn 2 [8,41,40,39,3,2,1,0] r (.region (.ks 2 r (.nil' fun c w ho hs=>⟨(b,e,G,AJ (q+1),g),hd,_,_,jf u trivial [0,0,0,0,0,0,0,0,0,0,0] r ho hs⟩)))))))
 exact .exit (UO results211 .n x (.o [3,3,3,3,0,0,0,0,0,0] r) ⟨(g,b,e),_,_,r,r,hd⟩)
theorem fU {a0 a1 a2:Int} {Q:(List AY)→Prop} (hd:LH a0 a1 a2 Q) :
  BZ prog 69 [.int .i64 a0,.int .i64 a1,.int .i64 a2] I (Af7 Q):=by
 refine Fun.en func69 ntmps69 r fun w0 M=>?_
 refine .marks0 (.sr (.box1 r r r r fun b10=>?_))
 refine .box1 r r r r fun b12=>?_
 refine .box1 r r r r fun K=>?_
 refine .kn 1 [5,4,3] r (.seq (.sr (.lo BL .p2 r (.lo BL .p1 r ?_))))
 have x:=WQ (I:=I) hd
 refine .cq call134 x r fun b0 hd=>?_
 refine .ks 2 r ?_
 refine AL hd (fun a hd=>?_) fun a hd=>?_
 · rw [a]
   exact .kn 5 [19,5,4,3] r (.condKT r r (.sr (.kn 1 [6] r (.drop .z (.drop .z (.drop .z (.ret (yG .z results69 (.t r .n) rf ⟨([]:List AY),_,_,r,(.nil _ _ _),hd⟩))))))))
 rw [a]
 refine .yes r (.lo BL .p2 r (.yes r (.lo BL .z r ?_)))
 have y:=WQ (I:=I) hd
 refine .yes r (.callP call134 r y r r fun b1 A=>?_)
 obtain ⟨b2,rfl,hd⟩:=A
 refine .kn 2 [19,5,4,3] r (.condP r hd (fun B hd=>?_) fun B hd=>?_)
 · exact .sr (.kn 1 [6] r (.drop .z (.drop .z (.drop .z (.ret (yG .z results69 (.t r .n) rf ⟨([]:List AY),_,_,r,(.nil _ _ _),hd⟩))))))
 refine .sn [5,4,3] r (.sr (.alloc1 zeroValue116 r r r fun L=>?_))
 refine .ns [7,5,4,3] r (.alloc1 rW r r r fun N=>?_)
 refine .s1 FI .z r (.no [8,7,5,4,3] r (.seq (.sr (.lo BL .p4 r (.lo BL .p3 r (.lo BL .p2 r ?_))))))
 have C:=fT (I:=I) (a0:=a0) (a1:=a1) (a2:=a2) hd
 refine .callS (.f call135 r) .n C r r fun b3 O b4 E F=>?_
 obtain ⟨d,P,R,S,rfl,rfl,hd⟩:=F
 refine .rn 9 r (.no [23,8,7,5,4,3] r (.block (.own0 BR 129 (.rangeF [] r call211 (.o [9,8,7,6,5,0,3,0,0,0] r) fun lr D rc hrc=>?_))))
 refine ⟨_,cQ (I:=O) (lr:=lr) (Rr:=fJ lr [] rc) (o0:=0) (o1:=a0) (o2:=a1) (o3:=a2) (o4:=([]:List AY)) (o5:=0) (o6:=d.1) (o7:=d.2.1) (o8:=d.2.2) (b10:=b10) (b11:=b12) (b12:=K) (b13:=L) (p14:=none) (c15:=0) (b18:=N) (b19:=P) (b20:=R) (b21:=S) ?_ hd,?_⟩
 · skip
   intro I hJ T U V W G e b X Y Qy  hd
   obtain ⟨rfl,hd⟩:=hd
   refine RFun.mk hrc r fun w0 M=>?_
   refine .region (.ks 1 r (.nil' fun c w ho hs=>Ad4 (E':=[(3,_),(4,_),(5,_),(7,_),(8,_),(9,_)]) ho ⟨r,r,r,r,r,r,trivial⟩ hs .z (.block (.seq (.dr [0,1,2,3,4,5,7,8,9,6,10,11,12,13] 14 (.h r (fun _=>.lo XR .p4 r .mk) (.h r (fun _=>.lo BL .p6 r .mk) (.fk 1 r (.h r (fun _=>.lo BL .p1 r .mk) ?_)))))))))
   refine .h r (fun _=>.lo BL .p2 r .mk) (.h r (fun _=>.lo BL .p6 r .mk) (.h r (fun _=>.lo BL .p1 r .mk) (.h r (fun _=>.lo BL .p3 r .mk) (.h r (fun _=>.lo BL .p6 r .mk) (.ww r fun ex=>?_)))))
   have k:=lW (I:=I) hd
   refine .cq call136 k r fun g hd=>?_
   refine .so 7 r r r (.ch r (fun _=>.lo BL .p6 r .mk) (.ch r (fun _=>.lo BL .p3 r .mk) (.ch r (fun _=>.lo BL .p1 r .mk) (.ck 1 r r (.ch r (fun _=>.lo BL .p6 r .mk) (.ch r (fun _=>.lo XR .p4 r .mk) trivial)))))) (.ww r fun ex=>?_)
   have l:=lW (I:=I) hd
   refine .cq call136 l r fun j hd=>?_
   refine .so 7 r r r (.ck 1 r r (.ch r (fun _=>.lo BL .p6 r .mk) (.ch r (fun _=>.lo XR .p4 r .mk) trivial))) (.h r (fun _=>.build zF underlying129 AeD (.c r r r (.o r) (.c r r r (.o r) (.c r r r (.o r) (.c r r r (.o r) .n)))) (by exact ⟨⟨_,_,r,r,r⟩,⟨⟨_,_,r,r,r⟩,⟨⟨_,_,r,r,r⟩,⟨⟨_,_,r,r,r⟩,trivial⟩⟩⟩⟩) r r .mk) (.ww r fun ex=>?_))
   refine .buildSlice 1 ZG iD zF r r (.c r r r .n) r r fun Z=>?_
   refine .so 8 r r r (.ch r (fun _=>.lo XR .p5 r .mk) trivial) (.ww r fun ex=>?_)
   obtain ⟨m,hd⟩:=hd
   refine .append (ys:=[({ From:=e,To:=b,Row:=g,Col:=j }:AY)]) 32 .p6 ZG ZG AeC r r r r r r r r r (.box .z (.one r) r) m r r fun a3 a4=>?_
   refine .so 8 r r r trivial (.e2 14 (.s1 sizeOf116 .p6 r (.no [9,8] r (.drop .p1 (.region (.ks 1 r (.s1 FI .p6 r ?_)))))))
   exact .nil' fun c w ho hs=>Af3 0 (.inl rfl) rf .p1 (.o [1,1,1,1,0,0] rfl) ⟨(true,0,(G++([({ From:=e,To:=b,Row:=g,Col:=j }:AY)])),b),_,_,rfl,rfl,hd⟩ hs
 intro a5 a6 l' p q
 obtain ⟨H,a7,a8,rfl,rfl,hd⟩:=q
 have s:=p.u1 E
 obtain ⟨hz,hd⟩:=hd
 refine ⟨_,_,r,fun hj=>?_,fun i hj=>absurd (hz.symm.trans hj) (by simp)⟩
 refine .rn 10 r (.mkS [7] r r (.drop .p1 (.drop .p1 (.drop .p1 (.drop .p3 (.drop .p3 (.drop .p3 (.drop .p3 (.sr ?_)))))))))
 refine .lo XR .p1 r (.kn 1 [6] r (.drop .p1 (.pub .p1 fun a9 u J=>?_)))
 have v:=u.u1 s
 exact .ret (yG .z results69 (.t r .n) v ⟨H.2.1,_,_,r,J,hd⟩)
theorem jJ {a0 a1:Int} {Q:Int→Prop} (hd:UU a0 a1 Q) :
  BZ prog 70 [.int .i64 a0,.int .i64 a1] I (fun _=>hZ Q):=by
 refine Fun.en func70 ntmps70 r fun w0 M=>?_
 refine .sr (.kn 1 [1,0] r (.seq (.sk 1 r ?_)))
 have c:=Y4 (I:=I) hd
 refine .cq call137 c r fun f hd=>?_
 refine .ks 2 r ?_
 refine AL hd (fun a hd=>?_) fun a hd=>?_
 · rw [a]
   exact .kn 9 [17,1,0] r (.condKT r r (.sr (.kn 1 [4] r (.r0 results70 r ⟨(-1),r,hd⟩))))
 rw [a]
 refine .ks 4 r ?_
 refine AL hd (fun b hd=>?_) fun b hd=>?_
 · rw [b]
   exact .kn 5 [17,1,0] r (.condKT r r (.sr (.kn 1 [4] r (.r0 results70 r ⟨(-1),r,hd⟩))))
 rw [b]
 refine .kn 5 [17,1,0] r (.condP r hd (fun d hd=>?_) fun d hd=>?_)
 · exact .sr (.kn 1 [4] r (.r0 results70 r ⟨(-1),r,hd⟩))
 refine .sn [1,0] r (.sk 2 r ?_)
 obtain ⟨e,hd⟩:=hd
 exact .quo r r e r r (.kn 1 [4] r (.r0 results70 r ⟨(AJ (a1.tdiv a0)),r,hd⟩))
theorem uB {a0 a1:Int} {Q:Int→Prop} (hd:XM a0 a1 Q) :
  BZ prog 71 [.int .i64 a0,.int .i64 a1] I (fun _=>hZ Q):=by
 refine Fun.en func71 ntmps71 r fun w0 M=>?_
 refine .sr (.kn 1 [1,0] r (.seq (.sk 2 r ?_)))
 have a:=jJ (I:=I) hd
 refine .cq call70 a r fun d hd=>?_
 refine .kn 1 [8,1,0] r (.condP r hd (fun b hd=>?_) fun b hd=>?_)
 · exact .sr (.kn 1 [4] r (.r0 results71 r ⟨(-1),r,hd⟩))
 refine .sn [1,0] r (.sk 2 r ?_)
 obtain ⟨c,hd⟩:=hd
 exact .rem r r c r r (.kn 1 [4] r (.r0 results71 r ⟨(a1.tmod a0),r,hd⟩))
theorem cR {a0:Int} {Q:Bool→Prop} (hd:RZ a0 Q) :
  BZ prog 213 [.int .i64 a0] I (fun _=>gE Q):=by
 refine Fun.en func213 ntmps213 r fun w0 M=>?_
 refine .sk 1 r (.nk [0] 3 r ?_)
 refine AL hd (fun a hd=>?_) fun a hd=>?_
 · rw [a]
   exact .kn 4 [2] r (.r0 results213 r ⟨(decide (a0≤8)),r,hd⟩)
 rw [a]
 exact .kn 4 [2] r (.r0 results213 r ⟨false,r,hd⟩)
theorem oG {a0 a1 a2 a3:Int} {Q:Bool→Prop} (hd:VV a0 a1 a2 a3 Q) :
  BZ prog 138 [.int .i64 a0,.int .i64 a1,.int .i64 a2,.int .i64 a3] I (fun _=>gE Q):=by
 refine Fun.en func138 ntmps138 r fun w0 M=>?_
 refine .sk 1 r (.nk [3,2,1,0] 1 r ?_)
 have f:=cR (I:=I) hd
 refine .cq call213 f r fun i hd=>?_
 refine .ks 1 r ?_
 refine AL hd (fun e hd=>?_) fun e hd=>?_
 · rw [e]
   refine .ks 1 r ?_
   have g:=cR (I:=I) hd
   refine .yes r (.callP call213 r g r r fun j h=>?_)
   obtain ⟨k,rfl,hd⟩:=h
   refine .ks 2 r ?_
   refine AL hd (fun a hd=>?_) fun a hd=>?_
   · rw [a]
     refine .ks 4 r ?_
     refine AL hd (fun b hd=>?_) fun b hd=>?_
     · rw [b]
       refine .ks 5 r ?_
       refine AL hd (fun c hd=>?_) fun c hd=>?_
       · rw [c]
         refine .ks 4 r ?_
         refine AL hd (fun d hd=>?_) fun d hd=>?_
         · rw [d]
           exact .kn 5 [8] r (.r0 results138 r ⟨(decide (a3<a1)),r,hd⟩)
         rw [d]
         exact .kn 5 [8] r (.r0 results138 r ⟨false,r,hd⟩)
       rw [c]
       exact .kn 9 [8] r (.r0 results138 r ⟨false,r,hd⟩)
     rw [b]
     exact .kn 14 [8] r (.r0 results138 r ⟨false,r,hd⟩)
   rw [a]
   exact .kn 18 [8] r (.r0 results138 r ⟨false,r,hd⟩)
 rw [e]
 exact .kn 22 [8] r (.r0 results138 r ⟨false,r,hd⟩)
theorem fF {a0 a1:Int} {Q:Rows→Prop} (hd:UV a0 a1 Q) :
  wF prog 247 [.int .i64 a0,.int .i64 a1] I (fun _=>o6_ Q):=by
 refine Fun.en func247 ntmps247 r fun w0 M=>?_
 refine .sr (.al DH r fun d=>?_)
 refine .nk [4,1,0] 4 r ?_
 obtain ⟨a,b,hd⟩:=hd
 refine .make (El:=AE) (zv:=0) 8 BX IN3 r r r r r r a b r r r fun e=>?_
 exact .build DH JK JJ (.c r r r (.o r) (.c r r r (.o r) (.c r r r (.o r) .n))) (by exact ⟨⟨_,_,r,r,r⟩,⟨⟨_,_,r,r,r⟩,⟨⟨_,_,r,r,r⟩,trivial⟩⟩⟩) r r (.sa AU .p1 r (.no [4] r (.own0 AE 3 (.own0 AE 2 (.ret (RV results247 (.w BQ AU r .p3 r .n) rf (.o [2,1,0] r) ⟨({ Rows:=a0,Cols:=a1,Start:=(List.replicate (AJ (a0+1)).toNat 0),Col:=([]:List Int),Val:=([]:List Int) }:Rows),_,_,_,_,_,_,r,r,hd⟩))))))
theorem fG {a0 a1:Int} {a2:List AC} {Q:Rows→Prop} (R3:RepSl AW I p1 c2 a2) (hd:RH a0 a1 a2 Q) :
  BZ prog 194 [.int .i64 a0,.int .i64 a1,.slice p1 a2.length c2] I (o7_ Q):=by
 refine Fun.en func194 ntmps194 r fun w0 M=>?_
 refine .sr (.al DH r fun f4=>?_)
 refine .nk [6,2,1,0] 2 r ?_
 have c3:=fF (I:=I) hd
 refine .callO call247 r c3 r r fun f5 f6 f7 S c4=>?_
 obtain ⟨d,f8,f9,g0,g1,g2,g3,rfl,rfl,hd⟩:=c4
 have R3:=S.u1 R3
 refine .al DH r fun L=>?_
 refine .sa AU .z r (.no [7,6,2,0] r (.seq (.sk 1 r (.ln ER r (.kn 1 [16,15,14,7,6,0] r (.block (.lx hd [15,14,7,6,0] [4] r (fun j E l (p,a,b,C)=>fun c w=>∃ D t e f g i,j ⟨63,[],none⟩ (fun I_=>True) ((16,.int .i64 C) :: E) (pto L (.cells #[.int .i64 d.Rows,.int .i64 d.Cols,.slice D p.length t,.slice e a.length f,.slice g b.length i] 33 (0,0)) :: OwnSl AE 3 D t p :: OwnSl AE 3 e f a :: OwnSl AE 2 g i b :: l) c w) (fun c w ho hs=>⟨_,_,_,_,_,_,jf rf trivial [0,0,0,0,0] r ho hs⟩) ?_)))))))
 rintro ⟨p,a,b,C⟩ d1 hd c w ⟨D,t,e,f,g,i,d8,u,_,hok,hsym⟩
 obtain ⟨a3,R3⟩:=u.u2 S R3
 refine Cod.at hok hsym (.sr (.kn 1 [17,16,15,14,7,6,0] r (.seq (.condP r hd (fun a4 hd=>?_) fun a4 hd=>?_))))
 · refine .sn [16,15,14,7,6,0] r (.seq (.block (.sr ?_)))
   obtain ⟨T,k,N,hd⟩:=hd
   obtain ⟨d9,o448,d5,c5,a5,a6⟩:=R3.2 _ _ N
   cases a6
   refine .ixa ER ES r c5 r T (AH N T) r r (.ldW isAgg103 ES a5 r r r r (.al LC r fun e0=>?_))
   refine .sa ES .z r (.nk [9,16,15,14,7,6,0] 1 r (.lo EL .p1 r (.ks 1 r (.lo BL .z r (.ks 1 r ?_)))))
   obtain ⟨U,F,v,hd⟩:=hd
   refine .ownNe .p2 (EN v) fun c6 c7=>?_
   cases c7
   refine .ixa0 BX FI r r U (AH v U) r r (.lo1 (j:=0) BL .p2 v r r r r r (.ks 1 r ?_))
   obtain ⟨V,e1,O,hd⟩:=hd
   refine .ixa0 BX FI r r V (AH O V) r r (.stO1 (j:=0) (v':=(AJ (F+1))) FI .p2 O r r r (.o r) r (.rl .p2 [21] r (by simp only [List.length_set]) (.reat .p1 (B:=pto L (.cells #[.int .i64 d.Rows,.int .i64 d.Cols,.slice (some ⟨c6,0,none⟩) (p.set ((AJ (k.Row+1)).toNat) (AJ (F+1))).length t,.slice e a.length f,.slice g b.length i] 33 (0,0))) (by simp only [List.length_set]) (.nk [9,16,15,14,7,6,0] 1 r (.lo EL .p1 r (.ks 1 r (.lo BL .z r (.buildSlice 1 BX FI rW r r (.c r r r .n) r r fun e3=>?_))))))))
   obtain ⟨a7,hd⟩:=hd
   refine .append (ys:=[k.Col]) 8 .p4 BX BX IN3 r r r r r r r r r (.box .z (.one r) r) a7 r r fun e4 e5=>?_
   refine .ks 1 r (.s1 zA .p3 r (.no [9,16,15,14,7,6,0] r (.drop .p1 (.region (.ks 1 r (.lo fL .p2 r (.ks 1 r (.lo XC .p1 r (.buildSlice 1 TC uZ zeroValue2 r r (.c r r r .n) r r fun e6=>?_)))))))))
   obtain ⟨a8,hd⟩:=hd
   refine .append (ys:=[k.Val]) 8 .p5 TC TC IN2 r r r r r r r r r (.box .z (.one r) r) a8 r r fun e7 e8=>?_
   exact .ks 1 r (.s1 sizeOf31 .p4 r (.no [16,15,14,7,6,0] r (.drop .p1 (.drop .p2 (.region (.ks 2 r (.nil' fun c w ho hs=>⟨((p.set ((AJ (k.Row+1)).toNat) (AJ (F+1))),(a++([k.Col])),(b++([k.Val])),AJ (C+1)),hd,_,_,_,_,_,_,jf u trivial [2,2,1,0,0] r ho hs⟩)))))))
 refine .en [7,6,0] r (.seq (.sr (.kn 2 [45,44,7,6] r (.block (.lx hd [44,7,6] [4,2,2] r (fun j E l (m,q)=>fun c w=>∃ G x,j ⟨63,[],none⟩ (fun I_=>True) ((45,.int .i64 q) :: E) (pto L (.cells #[.int .i64 d.Rows,.int .i64 d.Cols,.slice G m.length x,.slice e a.length f,.slice g b.length i] 33 (0,0)) :: OwnSl AE 3 G x m :: l) c w) (fun c w ho hs=>⟨_,_,jf rf trivial [0,0,2,0,0] r ho hs⟩) ?_)))))
 rintro ⟨m,q⟩ d2 hd c w ⟨G,x,e9,y,_,hok,hsym⟩
 obtain ⟨a9,b0⟩:=y.u2 a3 u
 refine Cod.at hok hsym (.sr (.kn 1 [46,45,44,7,6] r (.seq (.condP r hd (fun b1 hd=>?_) fun b1 hd=>?_))))
 · refine .sn [45,44,7,6] r (.seq (.block (.sr (.kn 2 [10,45,44,7,6] r (.ownF .p1 fun W=>?_)))))
   refine .ownF .p3 fun d3=>?_
   refine .ownF .p4 fun d4=>?_
   refine .dr [0,1,2,3,4,5,6,7,8,9,10,11] 12 (.fk 1 r (.h r (fun _=>.lo EL .z r .mk) (.fk 2 r ?_)))
   obtain ⟨X,H,A,hd⟩:=hd
   obtain ⟨c8,c9⟩:=W (EN A)
   cases c9
   refine .h r (fun _=>.ixa0 BX FI r r X (AH A X) r r .mk) (.h r (fun _=>.lo1 (j:=0) BL .p1 A r r r r r .mk) (.fk 1 r (.h r (fun _=>.lo EL .z r .mk) (.fk 1 r ?_))))
   obtain ⟨Y,J,P,hd⟩:=hd
   refine .h r (fun _=>.ixa0 BX FI r r Y (AH P Y) r r .mk) (.h r (fun _=>.lo1 (j:=0) BL .p1 P r r r r r .mk) (.fk 1 r (.e2 12 ?_)))
   obtain ⟨Z,f0,R,hd⟩:=hd
   exact .ixa0 BX FI r r Z (AH R Z) r r (.stO1 (j:=0) (v':=(AJ (H+J))) FI .p1 R r r r (.o r) r (.rl .p1 [49,55] r (by simp only [List.length_set]) (.reat .z (B:=pto L (.cells #[.int .i64 d.Rows,.int .i64 d.Cols,.slice (some ⟨c8,0,none⟩) (m.set ((AJ (q+1)).toNat) (AJ (H+J))).length x,.slice e a.length f,.slice g b.length i] 33 (0,0))) (by simp only [List.length_set]) (.no [45,44,7,6] r (.region (.ks 2 r (.nil' fun c w ho hs=>⟨((m.set ((AJ (q+1)).toNat) (AJ (H+J))),AJ (q+1)),hd,_,_,jf y trivial [0,0,0,0,0] r ho hs⟩)))))))
 refine .en [7,6] r (.sr (.lw BQ AU .z r (.sa AU .p2 r (.no [6] r (.drop .z (.pub .z fun f1 b2 s=>?_))))))
 obtain ⟨b3,b4,b5⟩:=b2.u3 a9 b0 y
 refine .pub .p1 fun f2 b6 K=>?_
 obtain ⟨b7,b8,b9,s⟩:=b6.u4 b3 b4 b5 s
 refine .pub .p1 fun f3 c0 d0=>?_
 obtain ⟨c1,d6,d7,s,K⟩:=c0.u5 b7 b8 b9 s K
 exact .ret (BO results194 (.w BQ AU r .z r .n) c1 ⟨({ Rows:=d.Rows,Cols:=d.Cols,Start:=m,Col:=a,Val:=b }:Rows),_,_,_,_,_,_,r,s,K,d0,hd⟩)
theorem aO {a0:Rows} {Q:Rows→Prop} (R3:RepSl AE I p1 c2 a0.Start) (R6:RepSl AE I p4 c5 a0.Col) (R9:RepSl AE I p7 c8 a0.Val) (hd:UW a0 Q) :
  BZ prog 214 [.agg #[.int .i64 a0.Rows,.int .i64 a0.Cols,.slice p1 a0.Start.length c2,.slice p4 a0.Col.length c5,.slice p7 a0.Val.length c8]] I (AbN Q):=by
 refine Fun.en func214 ntmps214 r fun w0 M=>?_
 refine .sr (.bx r fun q=>?_)
 refine .al DH r fun s=>?_
 refine .no [2,1] r (.seq (.sr (.lw BQ AU .p1 r ?_)))
 have c:=MZ (I:=I) R3 R6 R9 hd
 refine .cq call101 c r fun t hd=>?_
 refine .no [4,2,1] r (.condP r hd (fun d hd=>?_) fun d hd=>?_)
 · exact .sr (.lw BQ AU .p1 r (.sa AU .z r (.no [2] r (.drop .p1 (.ret (BO results214 (.w BQ AU r .z r .n) rf ⟨a0,_,_,_,_,_,_,r,R3,R6,R9,hd⟩))))))
 refine .sn [2] r (.drop .p1 (.sr ?_))
 have e:=fF (I:=I) hd
 refine .callO call247 r e r r fun u v x f g=>?_
 obtain ⟨o,y,A,B,C,D,E,rfl,rfl,hd⟩:=g
 refine .sa AU .p3 r (.no [2] r (.pub .z fun F h a=>?_))
 have i:=h.u1 f
 refine .pub .z fun G j b=>?_
 obtain ⟨k,a⟩:=j.u2 i a
 refine .pub .z fun H l p=>?_
 obtain ⟨m,a,b⟩:=l.u3 k a b
 exact .ret (BO results214 (.w BQ AU r .z r .n) m ⟨o,_,_,_,_,_,_,r,a,b,p,hd⟩)
theorem cS {a0:Int×Int} {a1:Int} {Q:(Int×Int)→Prop} (hd:SA a0 a1 Q) :
  BZ prog 215 [.agg #[.int .i64 a0.1,.int .i64 a0.2],.int .i64 a1] I (fun _=>Af8 Q):=by
 refine Fun.en func215 ntmps215 r fun w0 M=>?_
 refine .sr (.bx r fun b=>?_)
 refine .ks 2 r (.ns [2,1] r (.ixArr (i:=0) PT FI r r (by decide) (o:=0) r r r (.lo BL .z r (.maxI r r r r (.ks 1 r (.ns [6,2,1] r (.ixArr (i:=1) PT FI r r (by decide) (o:=1) r r r (.lo BL .z r (.ks 1 r ?_)))))))))
 refine .minI r r r r (.kn 1 [7,6] r (.drop .z (.seq (.sr (.kn 3 [17,7,6] r (.condP r hd (fun a hd=>?_) fun a hd=>?_))))))
 · exact .sr (.kn 3 [5,4] r (.ret (BO results215 (.t r (.t r .n)) rf ⟨((if 0 > a0.1 then 0 else a0.1),0),r,hd⟩)))
 exact .sn [7,6] r (.sr (.kn 6 [5,4] r (.ret (BO results215 (.t r (.t r .n)) rf ⟨((if 0 > a0.1 then 0 else a0.1),AJ ((if a1<a0.2 then a1 else a0.2) - (if 0 > a0.1 then 0 else a0.1))),r,hd⟩))))
theorem jK {a0:Rows} {a1:Int} {Q:((List Int)×(List Int))→Prop} (R3:RepSl AE I p1 c2 a0.Start) (R6:RepSl AE I p4 c5 a0.Col) (R9:RepSl AE I p7 c8 a0.Val) (hd:XN a0 a1 Q) :
  BZ prog 217 [.agg #[.int .i64 a0.Rows,.int .i64 a0.Cols,.slice p1 a0.Start.length c2,.slice p4 a0.Col.length c5,.slice p7 a0.Val.length c8],.int .i64 a1] I (AeL Q):=by
 refine Fun.en func217 ntmps217 r fun w0 M=>?_
 refine .sr (.bx r fun G=>?_)
 refine .kn 2 [2,1] r (.seq (.dr [0,1,2,3,4,5,6,7,8,9,10,11] 12 (.fk 1 r (.h r (fun _=>.lo EL .z r .mk) (.fk 1 r ?_)))))
 obtain ⟨e,b,c,hd⟩:=hd
 obtain ⟨J,o42,E,s,m,o⟩:=R3.2 _ _ c
 cases o
 refine .h r (fun _=>.ixa BX FI r s r e (AH c e) r r .mk) (.h r (fun _=>.ld1 (j:=0) BL m r r r r r .mk) (.fk 1 r (.h r (fun _=>.lo EL .z r .mk) (.fk 2 r ?_))))
 obtain ⟨f,a,d,hd⟩:=hd
 obtain ⟨K,o51,F,u,p,q⟩:=R3.2 _ _ d
 cases q
 refine .h r (fun _=>.ixa BX FI r u r f (AH d f) r r .mk) (.h r (fun _=>.ld1 (j:=0) BL p r r r r r .mk) (.fk 1 r (.e2 12 (.kn 1 [7,6,2] r (.seq (.dr [0,1,2,3,4,5,6,7,8,9,10,11,12] 13 (.fk 1 r (.h r (fun _=>.lo EL .z r .mk) (.fk 3 r ?_)))))))))
 obtain ⟨v,N,O,hd⟩:=hd
 have g:Int.toNat b≤Int.toNat a:=by omega
 have i:Int.toNat a≤a0.Col.length:=by omega
 obtain ⟨P,R,w,x,y⟩:=RepSl.sliceW R6 (Int.toNat b) (Int.toNat a) (Int.toNat a) g i (.inr rfl)
 refine .h r (fun _=>.sliceW (L:=Int.toNat b) (H:=Int.toNat a) (cm:=Int.toNat a) BX FI r r R6.1 r r r (.inr ⟨_,_,r,v,r⟩) (.inr ⟨_,_,r,(by omega),r⟩) (.inr r) g i r w x r r .mk) (.fk 1 r (.h r (fun _=>.lo fL .z r .mk) (.fk 3 r ?_)))
 obtain ⟨A,S,T,hd⟩:=hd
 have k:Int.toNat b≤Int.toNat a:=by omega
 have l:Int.toNat a≤a0.Val.length:=by omega
 obtain ⟨U,V,B,C,D⟩:=RepSl.sliceW R9 (Int.toNat b) (Int.toNat a) (Int.toNat a) k l (.inr rfl)
 exact .h r (fun _=>.sliceW (L:=Int.toNat b) (H:=Int.toNat a) (cm:=Int.toNat a) TC uZ r r R9.1 r r r (.inr ⟨_,_,r,A,r⟩) (.inr ⟨_,_,r,(by omega),r⟩) (.inr r) k l r B C r r .mk) (.fk 1 r (.e2 13 (.kn 1 [5,4] r (.drop .z (.ret (BO results217 (.t r (.t r .n)) rf ⟨(((a0.Col.take a.toNat).drop b.toNat),((a0.Val.take a.toNat).drop b.toNat)),_,_,_,_,r,y,D,hd⟩))))))
theorem xZ {a0:Rows} {a1:Int} {Q:(List CF)→Prop} (R3:RepSl AE I p1 c2 a0.Start) (R6:RepSl AE I p4 c5 a0.Col) (R9:RepSl AE I p7 c8 a0.Val) (hd:gD a0 a1 Q) :
  BZ prog 216 [.agg #[.int .i64 a0.Rows,.int .i64 a0.Cols,.slice p1 a0.Start.length c2,.slice p4 a0.Col.length c5,.slice p7 a0.Val.length c8],.int .i64 a1] I (AeM Q):=by
 refine Fun.en func216 ntmps216 r fun w0 M=>?_
 refine .sr (.bx r fun b1=>?_)
 refine .ks 1 r (.ns [2,1] r (.lw BQ AU .z r ?_))
 have L:=aO (I:=I) R3 R6 R9 hd
 refine .call call214 r L r r fun b2 K d N=>?_
 obtain ⟨b3,b4,b5,b6,b7,b8,b9,rfl,k,m,p,hd⟩:=N
 obtain ⟨R3,R6,R9⟩:=d.u3 R3 R6 R9
 refine .sa AU .z r (.no [2,1] r (.seq (.sk 2 r (.lo BL .z r (.ks 1 r ?_)))))
 have O:=HG (I:=K) hd
 refine .cq call167 O r fun c0 hd=>?_
 refine .kn 1 [17,2,1] r (.condP r hd (fun P hd=>?_) fun P hd=>?_)
 · exact .sr (.kn 1 [4] r (.drop .z (.r1 results216 r d ⟨([]:List CF),_,_,r,(.nil _ _ _),hd⟩)))
 refine .sn [2,1] r (.sk 1 r (.ns [5,2,1] r (.lw BQ AU .z r (.ks 1 r ?_))))
 have R:=jK (I:=K) k m p hd
 refine .call call217 r R r r fun c1 c3 S T=>?_
 obtain ⟨c4,c6,c7,c9,d0,rfl,q,s,hd⟩:=T
 obtain ⟨U,k,m,p⟩:=S.u4 d k m p
 refine .kn 5 [7,6,5] r (.drop .z (.seq (.sk 1 r (.ln BX r (.kn 1 [26,25,24,7,5] r (.block (.own0 MJ 112 (.lx hd [25,24,7] [] r (fun j E l (a,e)=>fun c w=>∃ f g,j ⟨42,[],none⟩ (fun I_=>True) ((5,.slice f a.length g) :: (26,.int .i64 e) :: E) (OwnSl MJ 112 f g a :: l) c w) (fun c w ho hs=>⟨_,_,jf rf trivial [0] r ho hs⟩) ?_))))))))
 rintro ⟨a,e⟩ Y hd c w ⟨f,g,a4,b,_,hok,hsym⟩
 obtain ⟨y,q,s⟩:=b.u3 U q s
 refine Cod.at hok hsym (.sr (.kn 1 [27,26,25,24,7,5] r (.seq (.condP r hd (fun A hd=>?_) fun A hd=>?_))))
 · refine .sn [26,25,24,7,5] r (.seq (.block (.sk 1 r ?_)))
   obtain ⟨t,u,h,hd⟩:=hd
   obtain ⟨a5,o171,Z,V,B,C⟩:=q.2 _ _ h
   cases C
   refine .ixa BX FI r V r t (AH h t) r r (.ld1 (j:=0) BL B r r r r r (.kn 2 [9,8,26,25,24,7,5] r (.region (.ks 4 r ?_))))
   obtain ⟨v,x,i,hd⟩:=hd
   obtain ⟨a6,o180,a2,W,D,F⟩:=s.2 _ _ i
   cases F
   refine .ixa TC uZ r W r v (AH i v) r r (.ld1 (j:=0) XC D r r r r r (.build kY underlying112 AcY (.c r r r (.o r) (.c r r r (.o r) .n)) (by exact ⟨⟨_,_,r,r,r⟩,⟨⟨_,_,r,r,r⟩,trivial⟩⟩) r r (.buildSlice 1 SK sizeOf112 kY r r (.c r r r .n) r r fun a7=>?_)))
   obtain ⟨G,hd⟩:=hd
   refine .append (ys:=[({ At:=u,Val:=x }:CF)]) 16 .p1 SK SK yX r r r r r r r r r (.box .z (.one r) r) G r r fun a8 a9=>?_
   exact .kn 1 [5,26,25,24,7] r (.drop .p1 (.region (.ks 2 r (.nil' fun c w ho hs=>⟨((a++([({ At:=u,Val:=x }:CF)])),AJ (e+1)),hd,_,_,jf b trivial [0] r ho hs⟩))))
 refine .en [5] r (.sr (.kn 2 [4] r (.pub .z fun b0 H X=>?_)))
 obtain ⟨J,a3⟩:=H.u2 y b
 exact .r1 results216 r J ⟨a,_,_,r,X,hd⟩
theorem RQ {a0:Rows} {a1 a2:Int×Int} {Q:Rows→Prop} (R3:RepSl AE I p1 c2 a0.Start) (R6:RepSl AE I p4 c5 a0.Col) (R9:RepSl AE I p7 c8 a0.Val) (hd:LW a0 a1 a2 Q) :
  BZ prog 139 [.agg #[.int .i64 a0.Rows,.int .i64 a0.Cols,.slice p1 a0.Start.length c2,.slice p4 a0.Col.length c5,.slice p7 a0.Val.length c8],.agg #[.int .i64 a1.1,.int .i64 a1.2],.agg #[.int .i64 a2.1,.int .i64 a2.2]] I (AbN Q):=by
 refine Fun.en func139 ntmps139 r fun w0 M=>?_
 refine .sr (.bx r fun f0=>?_)
 refine .bx r fun f1=>?_
 refine .bx r fun f2=>?_
 refine .al DH r fun f3=>?_
 refine .ns [6,5,4,3] r (.lw BQ AU .p3 r ?_)
 have a9:=aO (I:=I) R3 R6 R9 hd
 refine .call call214 r a9 r r fun f4 a8 G b0=>?_
 obtain ⟨f5,f6,f7,f8,f9,g0,g1,rfl,a,b,d,hd⟩:=b0
 obtain ⟨R3,R6,R9⟩:=G.u3 R3 R6 R9
 refine .sa AU .p3 r (.ns [6,5,4,3] r (.lw OD IZ .p2 r (.ks 1 r (.lo BL .p3 r ?_))))
 have b1:=cS (I:=a8) hd
 refine .cq call215 b1 r fun g2 hd=>?_
 refine .kn 5 [8,7,6,5,3] r (.drop .p2 (.sr (.lw OD IZ .p1 r (.ks 1 r (.lo BL .p2 r ?_)))))
 have b2:=cS (I:=a8) hd
 refine .cq call215 b2 r fun x hd=>?_
 refine .kn 5 [10,9,8,7,6,3] r (.drop .p1 (.sr (.kn 1 [11,10,9,8,7,6,3] r (.seq (.sr (.kn 2 [32,31,11,10,9,8,7,6,3] r (.block (.own0 AW 103 (.lx hd [31,10,9,8,7,6,3] [2,1] r (fun j E l (p,f)=>fun c w=>∃ q s,j ⟨74,[],none⟩ (fun I_=>True) ((11,.slice q p.length s) :: (32,.int .i64 f) :: E) (OwnSl AW 103 q s p :: l) c w) (fun c w ho hs=>⟨_,_,jf rf trivial [0,1,0] r ho hs⟩) ?_)))))))))
 rintro ⟨p,f⟩ c0 hd c w ⟨q,s,b3,i,_,hok,hsym⟩
 obtain ⟨y,a,b,d⟩:=i.u4 G a b d
 refine Cod.at hok hsym (.sr (.kn 1 [33,32,31,11,10,9,8,7,6,3] r (.seq (.condP r hd (fun K hd=>?_) fun K hd=>?_))))
 · refine .sn [32,31,11,10,9,8,7,6,3] r (.seq (.block (.sk 2 r (.ns [12,32,31,11,10,9,8,7,6,3] r (.lw BQ AU .p1 r (.ks 3 r ?_))))))
   have L:=xZ (I:=b3) a b d hd
   refine .call call216 r L r r fun c9 d0 N O=>?_
   obtain ⟨d1,d2,d3,rfl,g,hd⟩:=O
   obtain ⟨P,R,a,b,d⟩:=N.u5 y i a b d
   refine .ln SK r (.kn 1 [41,40,39,12,32,31,11,10,9,8,7,6,3] r (.block (.lx hd [40,39,32,31,12,10,9,8,7,6,3] [1,1] r (fun j E l (e,k)=>fun c w=>∃ t u,j ⟨74,[],none⟩ (fun I_=>True) ((11,.slice t e.length u) :: (41,.int .i64 k) :: E) (OwnSl AW 103 t u e :: l) c w) (fun c w ho hs=>⟨_,_,jf rf trivial [0,0,0] r ho hs⟩) ?_)))
   rintro ⟨e,k⟩ c1 hd c w ⟨t,u,d4,A,_,hok,hsym⟩
   obtain ⟨S,B,a,b,d,g⟩:=A.u6 P R a b d g
   refine Cod.at hok hsym (.sr (.kn 1 [42,41,40,39,32,31,12,11,10,9,8,7,6,3] r (.seq (.condP r hd (fun T hd=>?_) fun T hd=>?_))))
   · refine .sn [41,40,39,32,31,12,11,10,9,8,7,6,3] r (.seq (.block (.sr ?_)))
     obtain ⟨H,h,C,hd⟩:=hd
     obtain ⟨d5,o598,c3,b4,U,V⟩:=g.2 _ _ C
     cases V
     refine .ixa SK sizeOf112 r b4 r H (AH C H) r r (.ldW isAgg112 sizeOf112 U r r r r (.al kY r fun d6=>?_))
     refine .sa sizeOf112 .z r (.no [14,41,40,39,32,31,12,11,10,9,8,7,6,3] r (.seq (.jn hd [41,40,39,32,31,14,12,11,10,9,8,7,6,3] [2,2,1,0] r (fun j E l J=>j ((56,.bool J) :: E) l) (fun d7 hd=>?_) ?_)))
     · skip
       refine .region (.ks 1 r (.lo BL .z r (.ks 3 r ?_)))
       refine AL hd (fun m hd=>?_) fun m hd=>?_
       · rw [m]
         exact .ks 1 r (.yes r (.lo BL .z r (.ks 5 r (.nil' (je (decide ((AJ (h.At - x.1))<x.2)) hd rf [2,2,1,0] r)))))
       rw [m]
       exact .ks 7 r (.nil' (je false hd rf [2,2,1,0] r))
     refine fun J hd=>jq r fun d8 D=>?_
     obtain ⟨c4,c6,F,a,b,d⟩:=D.u6 S B A a b d
     have g:=D.u1 g
     refine .condP r hd (fun W hd=>?_) fun W hd=>?_
     · refine .region (.ks 3 r (.lo BL .p3 r (.ks 3 r (.lo XC .p3 r (.build LC bQ bP (.c r r r (.o r) (.c r r r (.o r) (.c r r r (.o r) .n))) (by exact ⟨⟨_,_,r,r,r⟩,⟨⟨_,_,r,r,r⟩,⟨⟨_,_,r,r,r⟩,trivial⟩⟩⟩) r r (.buildSlice 1 ER ES LC r r (.c r r r .n) r r fun d9=>?_))))))
       obtain ⟨X,hd⟩:=hd
       refine .append (ys:=[({ Row:=f,Col:=AJ (h.At - x.1),Val:=h.Val }:AC)]) 24 .p3 ER ER bO r r r r r r r r r (.box .z (.one r) r) X r r fun e0 e1=>?_
       exact .kn 1 [11,41,40,39,32,31,12,10,9,8,7,6,3] r (.drop .p1 (.drop .p3 (.region (.ks 2 r (.nil' fun c w ho hs=>⟨((e++([({ Row:=f,Col:=AJ (h.At - x.1),Val:=h.Val }:AC)])),AJ (k+1)),hd,_,_,jf F trivial [0,0,0] r ho hs⟩)))))
     exact .sn [41,40,39,32,31,12,11,10,9,8,7,6,3] r (.drop .p3 (.region (.ks 2 r (.nil' fun c w ho hs=>⟨(e,AJ (k+1)),hd,_,_,jf F trivial [2,0,0] r ho hs⟩))))
   exact .en [32,31,11,10,9,8,7,6,3] r (.region (.ks 2 r (.nil' fun c w ho hs=>⟨(e,AJ (f+1)),hd,_,_,jf B trivial [0,0,0] r ho hs⟩)))
 refine .en [11,10,8,6] r (.drop .p1 (.sk 3 r (.pub .z fun b5 Y v=>?_)))
 obtain ⟨Z,a3⟩:=Y.u2 y i
 have a4:=fG (I:=b5) v hd
 refine .call call194 r a4 r r fun e2 e3 a5 a6=>?_
 obtain ⟨b6,e4,e5,e6,e7,e8,e9,rfl,b7,b8,b9,hd⟩:=a6
 obtain ⟨a7,c7,v⟩:=a5.u3 Z a3 v
 exact .sa AU .z r (.no [6] r (.ret (BO results139 (.w BQ AU r .z r .n) a7 ⟨b6,_,_,_,_,_,_,r,b7,b8,b9,hd⟩)))
theorem Y5 {a0 a1 a2:Int} {Q:(Int×Int)→Prop} (hd:NE a0 a1 a2 Q) :
  BZ prog 140 [.int .i64 a0,.int .i64 a1,.int .i64 a2] I (fun _=>AeN Q):=by
 refine Fun.en func140 ntmps140 r fun w0 M=>?_
 refine .sr (.al MR r fun f=>?_)
 refine .nk [6,2,1,0] 3 r ?_
 have b:=IW (I:=I) hd
 refine .cq call110 b r fun d hd=>?_
 refine .ks 4 r ?_
 have a:=IW (I:=I) hd
 refine .cq call110 a r fun e hd=>?_
 exact .buildArr MR PT FI (.c r r r (.o r) (.c r r r (.o r) .n)) r r (.sa IZ .z r (.no [6] r (.ret (BO results140 (.w OD IZ r .z r .n) rf ⟨(d,e),r,hd⟩))))
theorem rL {a0:Rows} {a1 a2 a3 a4:Int} {Q:Rows→Prop} (R3:RepSl AE I p1 c2 a0.Start) (R6:RepSl AE I p4 c5 a0.Col) (R9:RepSl AE I p7 c8 a0.Val) (hd:RJ a0 a1 a2 a3 a4 Q) :
  BZ prog 72 [.agg #[.int .i64 a0.Rows,.int .i64 a0.Cols,.slice p1 a0.Start.length c2,.slice p4 a0.Col.length c5,.slice p7 a0.Val.length c8],.int .i64 a1,.int .i64 a2,.int .i64 a3,.int .i64 a4] I (AbN Q):=by
 refine Fun.en func72 ntmps72 r fun w0 M=>?_
 refine .sr (.bx r fun a5=>?_)
 refine .al DH r fun a6=>?_
 refine .no [10,5,4,3,2,1] r (.seq (.sr (.lw BQ AU .p1 r ?_)))
 have k:=MZ (I:=I) R3 R6 R9 hd
 refine .cq call101 k r fun a7 hd=>?_
 refine .ks 2 r ?_
 refine AL hd (fun a hd=>?_) fun a hd=>?_
 · rw [a]
   refine .kn 7 [21,10,5,4,3,2,1] r (.condKT r r (.sr (.build DH JK JJ .n (by exact trivial) r r (.buildArr MR PT FI .n r r (.buildArr MR PT FI .n r r ?_)))))
   have l:=RQ (I:=I) (a0:=({ Rows:=0,Cols:=0,Start:=([]:List Int),Col:=([]:List Int),Val:=([]:List Int) }:Rows)) (.nil _ none 0) (.nil _ none 0) (.nil _ none 0) hd
   refine .call call139 r l r r fun a8 a9 c m=>?_
   obtain ⟨C,b0,b1,b2,b3,b4,b5,rfl,D,E,F,hd⟩:=m
   obtain ⟨R3,R6,R9⟩:=c.u3 R3 R6 R9
   exact .sa AU .z r (.no [10] r (.drop .p1 (.ret (BO results72 (.w BQ AU r .z r .n) c ⟨C,_,_,_,_,_,_,r,D,E,F,hd⟩))))
 rw [a]
 refine .ks 4 r ?_
 have o:=oG (I:=I) hd
 refine .yes r (.callP call138 r o r r fun b6 p=>?_)
 obtain ⟨b7,rfl,hd⟩:=p
 refine .kn 2 [21,10,5,4,3,2,1] r (.condP r hd (fun q hd=>?_) fun q hd=>?_)
 · refine .sr (.build DH JK JJ .n (by exact trivial) r r (.buildArr MR PT FI .n r r (.buildArr MR PT FI .n r r ?_)))
   have e:=RQ (I:=I) (a0:=({ Rows:=0,Cols:=0,Start:=([]:List Int),Col:=([]:List Int),Val:=([]:List Int) }:Rows)) (.nil _ none 0) (.nil _ none 0) (.nil _ none 0) hd
   refine .call call139 r e r r fun b8 b9 d s=>?_
   obtain ⟨G,H,J,K,L,N,O,rfl,t,u,v,hd⟩:=s
   obtain ⟨R3,R6,R9⟩:=d.u3 R3 R6 R9
   exact .sa AU .z r (.no [10] r (.drop .p1 (.ret (BO results72 (.w BQ AU r .z r .n) d ⟨G,_,_,_,_,_,_,r,t,u,v,hd⟩))))
 refine .sn [10,5,4,3,2,1] r (.seq (.dr [0,1,2,3,4,6,7,8,9,5,10,11] 12 (.h r (fun _=>.lw BQ AU .p1 r .mk) (.fk 1 r (.h r (fun _=>.lo BL .p1 r .mk) (.fk 3 r (.h r (fun _=>.lo BL .p1 r .mk) (.fk 2 r (.ww r fun ex=>?_)))))))))
 have f:=Y5 (I:=I) hd
 refine .cq call140 f r fun P hd=>?_
 refine .so 2 r r r (.ck 2 r r (.ch r (fun _=>.lo BL .p1 r .mk) (.ck 1 r r (.ch r (fun _=>.lw BQ AU .p1 r .mk) trivial)))) (.ww r fun ex=>?_)
 have g:=Y5 (I:=I) hd
 refine .cq call140 g r fun R hd=>?_
 refine .so 2 r r r (.ch r (fun _=>.lw BQ AU .p1 r .mk) trivial) (.ww r fun ex=>?_)
 have i:=RQ (I:=I) R3 R6 R9 hd
 refine .call call139 r i r r fun S T b j=>?_
 obtain ⟨x,U,V,W,X,Y,Z,rfl,y,A,B,hd⟩:=j
 obtain ⟨R3,R6,R9⟩:=b.u3 R3 R6 R9
 exact .so 2 r r r trivial (.e2 12 (.sa AU .z r (.no [10] r (.drop .p1 (.ret (BO results72 (.w BQ AU r .z r .n) b ⟨x,_,_,_,_,_,_,r,y,A,B,hd⟩))))))
theorem ZN {a0:Rows} {Q:(List AC)→Prop} (R3:RepSl AE I p1 c2 a0.Start) (R6:RepSl AE I p4 c5 a0.Col) (R9:RepSl AE I p7 c8 a0.Val) (hd:MK a0 Q) :
  BZ prog 143 [.agg #[.int .i64 a0.Rows,.int .i64 a0.Cols,.slice p1 a0.Start.length c2,.slice p4 a0.Col.length c5,.slice p7 a0.Val.length c8]] I (AeO Q):=by
 refine Fun.en func143 ntmps143 r fun w0 M=>?_
 refine .sr (.bx r fun c7=>?_)
 refine .ks 1 r (.ns [1] r (.lw BQ AU .z r ?_))
 have Y:=aO (I:=I) R3 R6 R9 hd
 refine .call call214 r Y r r fun c9 d0 A Z=>?_
 obtain ⟨d1,d2,d3,d4,d5,d6,d7,rfl,a,b,d,hd⟩:=Z
 obtain ⟨R3,R6,R9⟩:=A.u3 R3 R6 R9
 refine .sa AU .z r (.nk [1] 1 r (.no [3,1] r (.seq (.sk 1 r (.lo BL .z r (.kn 1 [13,12,3,1] r (.block (.own0 AW 103 (.lx hd [12,1] [1] r (fun j E l (g,e)=>fun c w=>∃ k m,j ⟨42,[],none⟩ (fun I_=>True) ((3,.slice k g.length m) :: (13,.int .i64 e) :: E) (OwnSl AW 103 k m g :: l) c w) (fun c w ho hs=>⟨_,_,jf rf trivial [0,0] r ho hs⟩) ?_)))))))))
 rintro ⟨g,e⟩ a5 hd c w ⟨k,m,a1,h,_,hok,hsym⟩
 obtain ⟨v,a,b,d⟩:=h.u4 A a b d
 refine Cod.at hok hsym (.sr (.kn 1 [14,13,12,3,1] r (.seq (.condP r hd (fun G hd=>?_) fun G hd=>?_))))
 · refine .sn [13,12,3,1] r (.seq (.block (.sk 2 r (.ns [4,13,12,3,1] r (.lw BQ AU .p1 r (.ks 1 r ?_))))))
   have H:=jK (I:=a1) a b d hd
   refine .call call217 r H r r fun b1 b2 J K=>?_
   obtain ⟨b3,b4,b5,b6,b7,rfl,p,q,hd⟩:=K
   obtain ⟨L,N,a,b,d⟩:=J.u5 v h a b d
   refine .ks 5 r (.nk [6,5,4,13,12,3,1] 1 r (.ln BX r (.kn 1 [24,23,22,6,4,13,12,3,1] r (.block (.lx hd [23,22,13,12,6,4,1] [1] r (fun j E l (f,s)=>fun c w=>∃ t u,j ⟨42,[],none⟩ (fun I_=>True) ((3,.slice t f.length u) :: (24,.int .i64 s) :: E) (OwnSl AW 103 t u f :: l) c w) (fun c w ho hs=>⟨_,_,jf rf trivial [0,0] r ho hs⟩) ?_)))))
   rintro ⟨f,s⟩ a6 hd c w ⟨t,u,b8,i,_,hok,hsym⟩
   obtain ⟨a7,O,a,b,d,p⟩:=i.u6 L N a b d p
   have q:=i.u1 q
   refine Cod.at hok hsym (.sr (.kn 1 [25,24,23,22,13,12,6,4,3,1] r (.seq (.condP r hd (fun P hd=>?_) fun P hd=>?_))))
   · refine .sn [24,23,22,13,12,6,4,3,1] r (.seq (.block (.sk 1 r ?_)))
     obtain ⟨B,C,x,hd⟩:=hd
     obtain ⟨b9,o538,a8,a2,R,S⟩:=p.2 _ _ x
     cases S
     refine .ixa BX FI r a2 r B (AH x B) r r (.ld1 (j:=0) BL R r r r r r (.kn 2 [8,7,24,23,22,13,12,6,4,3,1] r (.region (.ks 5 r ?_))))
     obtain ⟨D,F,y,hd⟩:=hd
     obtain ⟨c0,o547,a9,a3,T,U⟩:=q.2 _ _ y
     cases U
     refine .ixa TC uZ r a3 r D (AH y D) r r (.ld1 (j:=0) XC T r r r r r (.build LC bQ bP (.c r r r (.o r) (.c r r r (.o r) (.c r r r (.o r) .n))) (by exact ⟨⟨_,_,r,r,r⟩,⟨⟨_,_,r,r,r⟩,⟨⟨_,_,r,r,r⟩,trivial⟩⟩⟩) r r (.buildSlice 1 ER ES LC r r (.c r r r .n) r r fun c1=>?_)))
     obtain ⟨V,hd⟩:=hd
     refine .append (ys:=[({ Row:=e,Col:=C,Val:=F }:AC)]) 24 .p1 ER ER bO r r r r r r r r r (.box .z (.one r) r) V r r fun c3 c4=>?_
     exact .kn 1 [3,24,23,22,13,12,6,4,1] r (.drop .p1 (.region (.ks 2 r (.nil' fun c w ho hs=>⟨((f++([({ Row:=e,Col:=C,Val:=F }:AC)])),AJ (s+1)),hd,_,_,jf i trivial [0,0] r ho hs⟩))))
   exact .en [13,12,3,1] r (.region (.ks 2 r (.nil' fun c w ho hs=>⟨(f,AJ (e+1)),hd,_,_,jf O trivial [0,0] r ho hs⟩)))
 refine .en [3] r (.drop .p1 (.sr (.kn 2 [2] r (.pub .z fun c6 W a4=>?_))))
 obtain ⟨X,b0⟩:=W.u2 v h
 exact .r1 results143 r X ⟨g,_,_,r,a4,hd⟩
theorem Y6 {a0 a1 a2:Int} {Q:(Int×Int)→Prop} (hd:IK a0 a1 a2 Q) :
  BZ prog 144 [.int .i64 a0,.int .i64 a1,.int .i64 a2] I (fun _=>AeN Q):=by
 refine Fun.en func144 ntmps144 r fun w0 M=>?_
 refine .sr (.al MR r fun f=>?_)
 refine .nk [6,2,1,0] 3 r ?_
 have b:=IW (I:=I) hd
 refine .cq call110 b r fun d hd=>?_
 refine .ks 4 r ?_
 have a:=IW (I:=I) hd
 refine .cq call110 a r fun e hd=>?_
 exact .buildArr MR PT FI (.c r r r (.o r) (.c r r r (.o r) .n)) r r (.sa IZ .z r (.no [6] r (.ret (BO results144 (.w OD IZ r .z r .n) rf ⟨(d,e),r,hd⟩))))
theorem UG {a0 a1:Int} {Q:Bool→Prop} (hd:ML a0 a1 Q) :
  BZ prog 65 [.int .i64 a0,.int .i64 a1] I (fun _=>gE Q):=by
 refine Fun.en func65 ntmps65 r fun w0 M=>?_
 refine .sk 1 r (.nk [1,0] 3 r ?_)
 refine AL hd (fun a hd=>?_) fun a hd=>?_
 · rw [a]
   exact .kn 5 [4] r (.r0 results65 r ⟨(decide (a0≤a1)),r,hd⟩)
 rw [a]
 exact .kn 5 [4] r (.r0 results65 r ⟨false,r,hd⟩)
theorem cT {a0:FU} {Q:Bool→Prop} (hd:SB a0 Q) :
  BZ prog 19 [.agg (bJ a0).toArray] I (fun _=>gE Q):=by
 refine Fun.en func19 ntmps19 r fun w0 M=>?_
 refine .sr (.bx r fun o=>?_)
 refine .kn 1 [1] r (.seq (.sk 1 r (.lo BL .z r ?_)))
 have d:=UG (I:=I) hd
 refine .cq call65 d r fun j hd=>?_
 refine .ks 2 r ?_
 refine AL hd (fun a hd=>?_) fun a hd=>?_
 · rw [a]
   exact .kn 11 [18,1] r (.condKT r r (.sr (.kn 1 [2] r (.drop .z (.r0 results19 r ⟨false,r,hd⟩)))))
 rw [a]
 refine .ks 1 r (.yes r (.lo BL .z r ?_))
 have e:=UG (I:=I) hd
 refine .yes r (.callP call65 r e r r fun k f=>?_)
 obtain ⟨l,rfl,hd⟩:=f
 refine .ks 3 r ?_
 refine AL hd (fun b hd=>?_) fun b hd=>?_
 · rw [b]
   exact .kn 5 [18,1] r (.condKT r r (.sr (.kn 1 [2] r (.drop .z (.r0 results19 r ⟨false,r,hd⟩)))))
 rw [b]
 refine .ks 1 r (.yes r (.lo BL .z r ?_))
 have g:=UG (I:=I) hd
 refine .yes r (.callP call65 r g r r fun m h=>?_)
 obtain ⟨n,rfl,hd⟩:=h
 refine .kn 2 [18,1] r (.condP r hd (fun i hd=>?_) fun i hd=>?_)
 · exact .sr (.kn 1 [2] r (.drop .z (.r0 results19 r ⟨false,r,hd⟩)))
 refine .sn [1] r (.sk 1 r (.lo isAgg45 .z r (.ks 2 r ?_)))
 refine AL hd (fun c hd=>?_) fun c hd=>?_
 · rw [c]
   exact .ks 1 r (.yes r (.lo isAgg45 .z r (.kn 3 [2] r (.drop .z (.r0 results19 r ⟨(decide (a0.Kind≤5)),r,hd⟩)))))
 rw [c]
 exact .kn 5 [2] r (.drop .z (.r0 results19 r ⟨false,r,hd⟩))
theorem NQ {a0:List CF} {Q:(List CF)→Prop} (R3:RepSl MJ I p1 c2 a0) (hd:FB a0 Q) :
  BZ prog 262 [.slice p1 a0.length c2] I (fun I_ v=>∃ r p4 c5,v=.slice p4 r.length c5∧RepSl MJ I_ p4 c5 r∧Q r):=by
 refine Fun.en func262 ntmps262 r fun w0 M=>?_
 refine .sr (.kn 1 [0] r (.seq (.sk 1 r (.eqNilS SK r r r r (.no [4,0] r ?_)))))
 refine split p1.isNone (fun a=>?_) (fun a=>?_)
 · have hd:=hd.1 (RepSl.ofNone R3 a)
   exact .condKT r a (.sr (.kn 1 [2] r (.r0 results262 r ⟨([]:List CF),_,_,r,(.nil _ _ _),hd⟩)))
 have hd:=hd.2
 refine .condKF r a (.sn [0] r (.sr (.buildSlice 0 SK sizeOf112 kY r r .n r r fun h=>?_)))
 refine .ks 1 r (.ownB (El:=MJ) (ys:=([]:List CF)) .z .nil r ?_)
 obtain ⟨b,hd⟩:=hd
 refine .append (ys:=a0) 16 .z SK SK yX r r r r r r r r r (.imm R3 r) b r r fun e f=>?_
 refine .kn 1 [2] r (.pub .z fun g c d=>?_)
 exact .r1 results262 r c ⟨(([]:List CF)++a0),_,_,r,d,hd⟩
theorem OY {a0:List dC} {Q:(List dC)→Prop} (R3:RepSl dK I p1 c2 a0) (hd:FR a0 Q) :
  BZ prog 263 [.slice p1 a0.length c2] I (fun I_ v=>∃ r p4 c5,v=.slice p4 r.length c5∧RepSl dK I_ p4 c5 r∧Q r):=by
 refine Fun.en func263 ntmps263 r fun w0 M=>?_
 refine .sr (.kn 1 [0] r (.seq (.sk 1 r (.eqNilS uX r r r r (.no [4,0] r ?_)))))
 refine split p1.isNone (fun a=>?_) (fun a=>?_)
 · have hd:=hd.1 (RepSl.ofNone R3 a)
   exact .condKT r a (.sr (.kn 1 [2] r (.r0 results263 r ⟨([]:List dC),_,_,r,(.nil _ _ _),hd⟩)))
 have hd:=hd.2
 refine .condKF r a (.sn [0] r (.sr (.buildSlice 0 uX sizeOf289 zeroValue289 r r .n r r fun h=>?_)))
 refine .ks 1 r (.ownB (El:=dK) (ys:=([]:List dC)) .z .nil r ?_)
 obtain ⟨b,hd⟩:=hd
 refine .append (ys:=a0) 24 .z uX uX AeH r r r r r r r r r (.imm R3 r) b r r fun e f=>?_
 refine .kn 1 [2] r (.pub .z fun g c d=>?_)
 exact .r1 results263 r c ⟨(([]:List dC)++a0),_,_,r,d,hd⟩
theorem LF {a0:List AC} {Q:(List AC)→Prop} (R3:RepSl AW I p1 c2 a0) (hd:EE a0 Q) :
  BZ prog 264 [.slice p1 a0.length c2] I (AeP Q):=by
 refine Fun.en func264 ntmps264 r fun w0 M=>?_
 refine .sr (.kn 1 [0] r (.seq (.sk 1 r (.eqNilS ER r r r r (.no [4,0] r ?_)))))
 refine split p1.isNone (fun a=>?_) (fun a=>?_)
 · have hd:=hd.1 (RepSl.ofNone R3 a)
   exact .condKT r a (.sr (.kn 1 [2] r (.r0 results264 r ⟨([]:List AC),_,_,r,(.nil _ _ _),hd⟩)))
 have hd:=hd.2
 refine .condKF r a (.sn [0] r (.sr (.buildSlice 0 ER ES LC r r .n r r fun h=>?_)))
 refine .ks 1 r (.ownB (El:=AW) (ys:=([]:List AC)) .z .nil r ?_)
 obtain ⟨b,hd⟩:=hd
 refine .append (ys:=a0) 24 .z ER ER bO r r r r r r r r r (.imm R3 r) b r r fun e f=>?_
 refine .kn 1 [2] r (.pub .z fun g c d=>?_)
 exact .r1 results264 r c ⟨(([]:List AC)++a0),_,_,r,d,hd⟩
theorem jL {a0:BN} {Q:BN→Prop} (R3:RepSl MJ I p1 c2 a0.Vec.Items) (R6:RepSl dK I p4 c5 a0.Sums) (R9:RepSl AW I p7 c8 a0.Triples) (hd:XO a0 Q) :
  BZ prog 219 [.agg #[.int .i64 a0.Kind,.int .i64 a0.From,.int .i64 a0.To,.int .i64 a0.Seq,.int .i64 a0.Round,.int .i64 a0.Vec.N,.slice p1 a0.Vec.Items.length c2,.slice p4 a0.Sums.length c5,.slice p7 a0.Triples.length c8,.int .i64 a0.N,.bool a0.Over]] I (Af9 Q):=by
 refine Fun.en func219 ntmps219 r fun w0 M=>?_
 refine .sr (.bx r fun v=>?_)
 refine .al SP r fun x=>?_
 refine .nk [2,1] 2 r (.lo isAgg109 .p1 r ?_)
 have d:=NQ (I:=I) R3 hd
 refine .call call262 r d r r fun y o b e=>?_
 obtain ⟨p,A,B,rfl,a,hd⟩:=e
 obtain ⟨R3,R6,R9⟩:=b.u3 R3 R6 R9
 refine .ks 2 r (.s1 sizeOf109 .p1 r (.nk [2,1] 1 r (.lo isAgg194 .p1 r ?_)))
 have f:=OY (I:=o) R6 hd
 refine .call call263 r f r r fun C q g h=>?_
 obtain ⟨s,D,E,rfl,c,hd⟩:=h
 obtain ⟨i,R6,R9,a⟩:=g.u4 b R6 R9 a
 refine .ks 1 r (.s1 sizeOf194 .p1 r (.nk [2,1] 1 r (.lo isAgg54 .p1 r ?_)))
 have j:=LF (I:=q) R9 hd
 refine .call call264 r j r r fun F G k l=>?_
 obtain ⟨t,H,J,rfl,u,hd⟩:=l
 obtain ⟨m,R9,a,c⟩:=k.u4 i R9 a c
 exact .ks 1 r (.s1 sizeOf54 .p1 r (.ns [2,1] r (.lw PU FD .p1 r (.sa FD .z r (.no [2] r (.drop .p1 (.ret (BO results219 (.w PU FD r .z r .n) m ⟨({ Kind:=a0.Kind,From:=a0.From,To:=a0.To,Seq:=a0.Seq,Round:=a0.Round,Vec:=({ N:=a0.Vec.N,Items:=p }:Vec),Sums:=s,Triples:=t,N:=a0.N,Over:=a0.Over }:BN),_,_,_,_,_,_,r,a,c,u,hd⟩))))))))
theorem NA {a0:Int} {Q:AN→Prop} (hd:NF a0 Q) :
  BZ prog 183 [.int .i64 a0] I (fun _=>rV Q):=by
 refine Fun.en func183 ntmps183 r fun w0 M=>?_
 refine .sr (.al CR r fun a=>?_)
 exact .nk [2,0] 1 r (.shr' r r (by decide) r r (.ks 1 r (.conv kV MQ r r r (.build CR KY KX (.c r r r (.o r) (.c r r r (.o r) .n)) (by exact ⟨⟨_,_,r,r,r⟩,⟨⟨_,_,r,r,r⟩,trivial⟩⟩) r r (.sa AM .z r (.no [2] r (.ret (BO results183 (.w BG AM r .z r .n) rf ⟨({ Hi:=shr .i64 a0 63,Lo:=IntKind.wrap .u64 (a0) }:AN),r,hd⟩))))))))
theorem NR {a0:List Int} {Q:Int→Prop} (R3:RepSl AE I p1 c2 a0) (hd:KF a0 Q) :
  BZ prog 113 [.slice p1 a0.length c2] I (fun _=>hZ Q):=by
 refine Fun.en func113 ntmps113 r fun w0 M=>?_
 refine .sk 1 r (.nk [0] 1 r (.no [3,0] r (.seq (.sk 1 r (.ln BX r (.kn 1 [8,7,6,3] r (.block (.lp hd [7,6,3] [] r (fun j E l b=>j ((8,.int .i64 b) :: E) l) (ji rf [] r) ?_))))))))
 refine fun b i hd=>jq r fun o a=>?_
 have R3:=a.u1 R3
 refine .sr (.kn 1 [9,8,7,6,3] r (.seq (.condP r hd (fun e hd=>?_) fun e hd=>?_)))
 · refine .sn [8,7,6,3] r (.seq (.block (.sr ?_)))
   obtain ⟨d,k,c,hd⟩:=hd
   obtain ⟨p,o41,n,m,f,g⟩:=R3.2 _ _ c
   cases g
   refine .ixa BX FI r m r d (AH c d) r r (.ld1 (j:=0) BL f r r r r r (.ks 1 r (.nk [5,8,7,6,3] 3 r (.no [14,5,8,7,6,3] r (.condP r hd (fun h hd=>?_) fun h hd=>?_)))))
   · exact .sr (.kn 2 [2] r (.r1 results113 r a ⟨k,r,hd⟩))
   exact .sn [8,7,6,3] r (.region (.ks 2 r (.nil' (je (AJ (b+1)) hd a [] r))))
 exact .en [3] r (.sr (.kn 2 [2] r (.r1 results113 r a ⟨0,r,hd⟩)))
theorem TW {a0:Int} {Q:Bool→Prop} (hd:LX a0 Q) :
  BZ prog 313 [.int .i64 a0] I (fun _=>gE Q):=by
 refine Fun.en func313 ntmps313 r fun w0 M=>?_
 exact .sk 1 r (.nk [0] 4 r (.no [2] r (.r0 results313 r ⟨(a0 != a0),r,hd⟩)))
theorem Z4 {a0 a1:Int} {Q:Int→Prop} (hd:JP a0 a1 Q) :
  BZ prog 302 [.int .i64 a0,.int .i64 a1] I (fun _=>hZ Q):=by
 refine Fun.en func302 ntmps302 r fun w0 M=>?_
 refine .sk 1 r (.nk [1,0] 1 r ?_)
 have g:=TW (I:=I) hd
 refine .cq call313 g r fun i hd=>?_
 refine .ks 1 r (.nk [5,1,0] 1 r ?_)
 have a:=TW (I:=I) hd
 refine .cq call313 a r fun h hd=>?_
 refine .kn 1 [6,5,1,0] r (.seq (.sr (.kn 1 [11,6,1,0] r (.condP r hd (fun b hd=>?_) fun b hd=>?_))))
 · refine .seq (.sr (.kn 1 [12] r (.condP r hd (fun c hd=>?_) fun c hd=>?_)))
   · exact .sr (.kn 1 [4] r (.r0 results302 r ⟨0,r,hd⟩))
   exact .sn [] r (.sr (.kn 1 [4] r (.r0 results302 r ⟨(-1),r,hd⟩)))
 refine .sn [6,1,0] r (.seq (.sr (.kn 1 [13,1,0] r (.condP r hd (fun d hd=>?_) fun d hd=>?_))))
 · exact .sr (.kn 1 [4] r (.r0 results302 r ⟨1,r,hd⟩))
 refine .sn [1,0] r (.seq (.sr (.kn 3 [16,1,0] r (.condP r hd (fun e hd=>?_) fun e hd=>?_))))
 · exact .sr (.kn 1 [4] r (.r0 results302 r ⟨(-1),r,hd⟩))
 refine .sn [1,0] r (.seq (.sr (.kn 3 [19] r (.condP r hd (fun f hd=>?_) fun f hd=>?_))))
 · exact .sr (.kn 1 [4] r (.r0 results302 r ⟨1,r,hd⟩))
 exact .sn [] r (.sr (.kn 1 [4] r (.r0 results302 r ⟨0,r,hd⟩)))
theorem SU {a0:Int} {Q:Bool→Prop} (hd:KR a0 Q) :
  BZ prog 314 [.int .u64 a0] I (fun _=>gE Q):=by
 refine Fun.en func314 ntmps314 r fun w0 M=>?_
 exact .sk 1 r (.nk [0] 4 r (.no [2] r (.r0 results314 r ⟨(a0 != a0),r,hd⟩)))
theorem Y7 {a0 a1:Int} {Q:Int→Prop} (hd:IL a0 a1 Q) :
  BZ prog 303 [.int .u64 a0,.int .u64 a1] I (fun _=>hZ Q):=by
 refine Fun.en func303 ntmps303 r fun w0 M=>?_
 refine .sk 1 r (.nk [1,0] 1 r ?_)
 have g:=SU (I:=I) hd
 refine .cq call314 g r fun i hd=>?_
 refine .ks 1 r (.nk [5,1,0] 1 r ?_)
 have a:=SU (I:=I) hd
 refine .cq call314 a r fun h hd=>?_
 refine .kn 1 [6,5,1,0] r (.seq (.sr (.kn 1 [11,6,1,0] r (.condP r hd (fun b hd=>?_) fun b hd=>?_))))
 · refine .seq (.sr (.kn 1 [12] r (.condP r hd (fun c hd=>?_) fun c hd=>?_)))
   · exact .sr (.kn 1 [4] r (.r0 results303 r ⟨0,r,hd⟩))
   exact .sn [] r (.sr (.kn 1 [4] r (.r0 results303 r ⟨(-1),r,hd⟩)))
 refine .sn [6,1,0] r (.seq (.sr (.kn 1 [13,1,0] r (.condP r hd (fun d hd=>?_) fun d hd=>?_))))
 · exact .sr (.kn 1 [4] r (.r0 results303 r ⟨1,r,hd⟩))
 refine .sn [1,0] r (.seq (.sr (.kn 3 [16,1,0] r (.condP r hd (fun e hd=>?_) fun e hd=>?_))))
 · exact .sr (.kn 1 [4] r (.r0 results303 r ⟨(-1),r,hd⟩))
 refine .sn [1,0] r (.seq (.sr (.kn 3 [19] r (.condP r hd (fun f hd=>?_) fun f hd=>?_))))
 · exact .sr (.kn 1 [4] r (.r0 results303 r ⟨1,r,hd⟩))
 exact .sn [] r (.sr (.kn 1 [4] r (.r0 results303 r ⟨0,r,hd⟩)))
theorem jM {a0 a1:AN} {Q:Int→Prop} (hd:QR a0 a1 Q) :
  BZ prog 277 [.agg (EI a0).toArray,.agg (EI a1).toArray] I (fun _=>hZ Q):=by
 refine Fun.en func277 ntmps277 r fun w0 M=>?_
 refine .sr (.bx r fun o=>?_)
 refine .bx r fun p=>?_
 refine .kn 1 [3,2] r (.seq (.dr [0,1,2,3,5,6,7,8,4,9,10,11] 12 (.fk 1 r (.h r (fun _=>.lo XC .p1 r .mk) (.fk 1 r (.h r (fun _=>.lo XC .z r .mk) (.fk 1 r (.h r (fun _=>.lo EB .p1 r .mk) (.fk 1 r ?_)))))))))
 refine .h r (fun _=>.lo EB .z r .mk) (.ww r fun ex=>?_)
 have b:=Z4 (I:=I) hd
 refine .cq call302 b r fun g hd=>?_
 refine .so 2 r r r (.ch r (fun _=>.lo EB .z r .mk) (.ck 1 r r (.ch r (fun _=>.lo EB .p1 r .mk) (.ck 1 r r trivial)))) (.ww r fun ex=>?_)
 have d:=Y7 (I:=I) hd
 refine .cq call303 d r fun a hd=>?_
 refine .so 2 r r r trivial (.ww r fun ex=>?_)
 refine .buildSlice 2 BX FI rW r r (.c r r r (.c r r r .n)) r r fun m=>?_
 refine .so 3 r r r trivial (.ww r fun ex=>?_)
 refine .pubB (El:=AE) (ys:=([g,a]:List Int)) (k:=2) .z (RepCs.cons (cs:=[.int .i64 g]) r (RepCs.cons (cs:=[.int .i64 a]) r .nil)) r fun i e j=>?_
 have f:=NR (I:=i) j hd
 refine .cq call113 f r fun l hd=>?_
 exact .so 2 r r r trivial (.e2 12 (.kn 1 [4] r (.drop .z (.drop .z (.r1 results277 r e ⟨l,r,hd⟩)))))
theorem ZO {a0 a1:AN} {Q:AN→Prop} (hd:PQ a0 a1 Q) :
  BZ prog 236 [.agg (EI a0).toArray,.agg (EI a1).toArray] I (fun _=>rV Q):=by
 refine Fun.en func236 ntmps236 r fun w0 M=>?_
 refine .sr (.bx r fun e=>?_)
 refine .bx r fun f=>?_
 refine .al CR r fun c=>?_
 refine .no [4,3,2] r (.seq (.sr (.lw BG AM .p2 r (.lw BG AM .p1 r ?_))))
 have a:=jM (I:=I) hd
 refine .cq call277 a r fun d hd=>?_
 refine .kn 1 [8,4,3,2] r (.condP r hd (fun b hd=>?_) fun b hd=>?_)
 · exact .sr (.lw BG AM .p2 r (.sa AM .z r (.no [4] r (.drop .p1 (.drop .p1 (.ret (BO results236 (.w BG AM r .z r .n) rf ⟨a0,r,hd⟩)))))))
 exact .sn [4,3] r (.drop .p2 (.sr (.lw BG AM .p1 r (.sa AM .z r (.no [4] r (.drop .p1 (.ret (BO results236 (.w BG AM r .z r .n) rf ⟨a1,r,hd⟩))))))))
theorem RA {a0:Bool} {Q:AN→Prop} (hd:ME a0 Q) :
  BZ prog 237 [.bool a0] I (fun _=>rV Q):=by
 refine Fun.en func237 ntmps237 r fun w0 M=>?_
 refine .sr (.al CR r fun d=>?_)
 refine .no [2,0] r (.seq (.sr (.kn 1 [3,2] r (.condP r hd (fun a hd=>?_) fun a hd=>?_))))
 · refine .sr ?_
   have b:=NA (I:=I) hd
   refine .cq call183 b r fun c hd=>?_
   exact .sa AM .z r (.no [2] r (.ret (BO results237 (.w BG AM r .z r .n) rf ⟨c,r,hd⟩)))
 exact .sn [2] r (.sr (.build CR KY KX .n (by exact trivial) r r (.sa AM .z r (.no [2] r (.ret (BO results237 (.w BG AM r .z r .n) rf ⟨({ Hi:=0,Lo:=0 }:AN),r,hd⟩))))))
theorem cU {a0:Bool} {Q:Int→Prop} (hd:SD a0 Q) :
  BZ prog 278 [.bool a0] I (fun _=>AeQ Q):=by
 refine Fun.en func278 ntmps278 r fun w0 M=>?_
 refine .sr (.kn 1 [0] r (.seq (.sr (.kn 1 [3] r (.condP r hd (fun a hd=>?_) fun a hd=>?_)))))
 · exact .sr (.kn 1 [2] r (.r0 results278 r ⟨1,r,hd⟩))
 exact .sn [] r (.sr (.kn 1 [2] r (.r0 results278 r ⟨0,r,hd⟩)))
theorem jN {a0 a1:AN} {Q:AN→Prop} (hd:XP a0 a1 Q) :
  BZ prog 238 [.agg (EI a0).toArray,.agg (EI a1).toArray] I (fun _=>rV Q):=by
 refine Fun.en func238 ntmps238 r fun w0 M=>?_
 refine .sr (.bx r fun e=>?_)
 refine .bx r fun f=>?_
 refine .al CR r fun d=>?_
 refine .nk [4,3,2] 1 r (.lo EB .p2 r (.ks 1 r (.lo EB .p1 r (.kn 2 [5,4,3,2] r (.seq (.dr [0,1,2,3,4,5,6,7,8,9,10,14,11,12,13,15] 16 (.fk 1 r (.h r (fun _=>.lo XC .p2 r .mk) (.h r (fun _=>.conv kV MQ r r r .mk) ?_)))))))))
 refine .fk 1 r (.h r (fun _=>.lo XC .p1 r .mk) (.h r (fun _=>.conv kV MQ r r r .mk) (.fk 3 r (.h r (fun _=>.lo EB .p1 r .mk) (.fk 2 r (.ww r fun ex=>?_))))))
 have a:=cU (I:=I) hd
 refine .cq call278 a r fun b hd=>?_
 exact .so 3 r r r (.ck 2 r r (.ch r (fun _=>.conv kV MQ r r r .mk) (.ch r (fun _=>.lo XC .p1 r .mk) (.ck 1 r r (.ch r (fun _=>.conv kV MQ r r r .mk) (.ch r (fun _=>.lo XC .p2 r .mk) (.ck 1 r r trivial))))))) (.fk 1 r (.h r (fun _=>.conv MQ kV r r r .mk) (.h r (fun _=>.build CR KY KX (.c r r r (.o r) (.c r r r (.o r) .n)) (by exact ⟨⟨_,_,r,r,r⟩,⟨⟨_,_,r,r,r⟩,trivial⟩⟩) r r .mk) (.e2 16 (.sa AM .z r (.no [4] r (.drop .p1 (.drop .p1 (.ret (BO results238 (.w BG AM r .z r .n) rf ⟨({ Hi:=AJ (IntKind.wrap .u64 ((IntKind.wrap .u64 ((IntKind.wrap .u64 (a0.Hi))+(IntKind.wrap .u64 (a1.Hi))))+b)),Lo:=IntKind.wrap .u64 (a0.Lo+a1.Lo) }:AN),r,hd⟩))))))))))
theorem aP {a0:Int} {a1 a2:AN} {Q:AN→Prop} (hd:UX a0 a1 a2 Q) :
  BZ prog 184 [.int .i64 a0,.agg (EI a1).toArray,.agg (EI a2).toArray] I (fun _=>rV Q):=by
 refine Fun.en func184 ntmps184 r fun w0 M=>?_
 refine .sr (.bx r fun y=>?_)
 refine .bx r fun A=>?_
 refine .al CR r fun v=>?_
 refine .no [6,5,4,0] r (.seq (.sr (.kn 1 [7,6,5,4] r (.block (.seq (.jn hd [7,6,5,4] [2,1,0] r (fun j E l d=>j ((8,.bool d) :: E) l) (fun x hd=>?_) ?_))))))
 · skip
   refine .sr (.kn 2 [8,7,6,5,4] r (.condP r hd (fun e hd=>?_) fun e hd=>?_))
   · exact .skip' (je (a0==1) hd rf [2,1,0] r)
   refine .sr (.kn 2 [8,7,6,5,4] r (.condP r hd (fun f hd=>?_) fun f hd=>?_))
   · exact .skip' (je (a0==3) hd rf [2,1,0] r)
   exact .region (.ks 2 r (.nil' (je (a0==4) hd rf [2,1,0] r)))
 refine fun d hd=>jq r fun c a=>?_
 refine .condP r hd (fun g hd=>?_) fun g hd=>?_
 · refine .sr (.lw BG AM .z r (.lw BG AM .p1 r ?_))
   have h:=ZO (I:=c) hd
   refine .cq call236 h r fun q hd=>?_
   exact .sa AM .p2 r (.no [6] r (.drop .z (.drop .z (.ret (BO results184 (.w BG AM r .z r .n) a ⟨q,r,hd⟩)))))
 refine .sr (.kn 2 [15,7,6,5,4] r (.condP r hd (fun i hd=>?_) fun i hd=>?_))
 · refine .sr (.lw BG AM .z r (.lw BG AM .p1 r (.neV r r (kS a1 a2) (kT _ _ _ _ _) r r r (.ks 1 r ?_))))
   refine AL hd (fun b hd=>?_) fun b hd=>?_
   · rw [b]
     refine .ks 4 r ?_
     have k:=RA (I:=c) hd
     refine .cq call237 k r fun s hd=>?_
     exact .sa AM .p2 r (.no [6] r (.drop .z (.drop .z (.ret (BO results184 (.w BG AM r .z r .n) a ⟨s,r,hd⟩)))))
   rw [b]
   refine .yes r (.lw BG AM .z r (.yes r (.build CR KY KX .n (by exact trivial) r r (.yes r (.neV r r (kS a1 ({ Hi:=0,Lo:=0 }:AN)) (kT _ _ _ _ _) r r r (.ks 1 r ?_))))))
   have m:=RA (I:=c) hd
   refine .cq call237 m r fun t hd=>?_
   exact .sa AM .p2 r (.no [6] r (.drop .z (.drop .z (.ret (BO results184 (.w BG AM r .z r .n) a ⟨t,r,hd⟩)))))
 refine .sr (.kn 2 [26,6,5,4] r (.condP r hd (fun o hd=>?_) fun o hd=>?_))
 · refine .sr (.lw BG AM .z r (.lw BG AM .p1 r ?_))
   have p:=jN (I:=c) hd
   refine .cq call238 p r fun u hd=>?_
   exact .sa AM .p2 r (.no [6] r (.drop .z (.drop .z (.ret (BO results184 (.w BG AM r .z r .n) a ⟨u,r,hd⟩)))))
 exact .sn [6] r (.drop .z (.drop .z (.sr (.build CR KY KX .n (by exact trivial) r r (.sa AM .z r (.no [6] r (.ret (BO results184 (.w BG AM r .z r .n) a ⟨({ Hi:=0,Lo:=0 }:AN),r,hd⟩))))))))
theorem kG {a0:AN} {Q:(Int×Bool)→Prop} (hd:XQ a0 Q) :
  BZ prog 239 [.agg (EI a0).toArray] I (fun _=>o3_ Q):=by
 refine Fun.en func239 ntmps239 r fun w0 M=>?_
 refine .sr (.bx r fun d=>?_)
 refine .ks 2 r (.nk [1] 1 r (.lo EB .z r (.conv MQ kV r r r (.kn 1 [4,1] r (.seq (.seq (.dr [0,2,1,3] 4 (.fk 1 r (.h r (fun _=>.lw BG AM .z r .mk) ?_)))))))))
 refine .ww r fun ex=>?_
 have a:=NA (I:=I) hd
 refine .cq call183 a r fun c hd=>?_
 refine .so 1 r r r (.ch r (fun _=>.lw BG AM .z r .mk) trivial) (.h r (fun _=>.neV r r (kS c a0) (kT _ _ _ _ _) r r r .mk) (.e2 4 (.no [11,4] r (.drop .z (.condP r hd (fun b hd=>?_) fun b hd=>?_)))))
 · exact .sr (.kn 2 [3,2] r (.ret (BO results239 (.t r (.t r .n)) rf ⟨(0,false),r,hd⟩)))
 exact .sn [4] r (.sr (.kn 3 [3,2] r (.ret (BO results239 (.t r (.t r .n)) rf ⟨(AJ (a0.Lo),true),r,hd⟩))))
theorem ZP {a0:Int} {a1:AN} {Q:(Int×Bool)→Prop} (hd:MM a0 a1 Q) :
  BZ prog 185 [.int .i64 a0,.agg (EI a1).toArray] I (fun _=>o3_ Q):=by
 refine Fun.en func185 ntmps185 r fun w0 M=>?_
 refine .sr (.bx r fun c=>?_)
 refine .ks 2 r (.ns [3] r (.lw BG AM .z r ?_))
 have a:=kG (I:=I) hd
 refine .cq call239 a r fun b hd=>?_
 exact .kn 4 [5,4] r (.drop .z (.ret (BO results185 (.t r (.t r .n)) rf ⟨(b.1,b.2),r,hd⟩)))
theorem DU {a0 a1:Int} {Q:Int→Prop} (hd:DA a0 a1 Q) :
  BZ prog 114 [.int .i64 a0,.int .i64 a1] I (fun _=>hZ Q):=by
 refine Fun.en func114 ntmps114 r fun w0 M=>?_
 refine .sk 1 r (.nk [1,0] 1 r ?_)
 have g:=MA (I:=I) hd
 refine .cq call178 g r fun i hd=>?_
 refine .ks 1 r (.nk [5,1,0] 1 r ?_)
 have a:=MA (I:=I) hd
 refine .cq call178 a r fun h hd=>?_
 refine .kn 1 [6,5,1,0] r (.seq (.sr (.kn 1 [11,6,1,0] r (.condP r hd (fun b hd=>?_) fun b hd=>?_))))
 · refine .seq (.sr (.kn 1 [12] r (.condP r hd (fun c hd=>?_) fun c hd=>?_)))
   · exact .sr (.kn 1 [4] r (.r0 results114 r ⟨0,r,hd⟩))
   exact .sn [] r (.sr (.kn 1 [4] r (.r0 results114 r ⟨(-1),r,hd⟩)))
 refine .sn [6,1,0] r (.seq (.sr (.kn 1 [13,1,0] r (.condP r hd (fun d hd=>?_) fun d hd=>?_))))
 · exact .sr (.kn 1 [4] r (.r0 results114 r ⟨1,r,hd⟩))
 refine .sn [1,0] r (.seq (.sr (.kn 3 [16,1,0] r (.condP r hd (fun e hd=>?_) fun e hd=>?_))))
 · exact .sr (.kn 1 [4] r (.r0 results114 r ⟨(-1),r,hd⟩))
 refine .sn [1,0] r (.seq (.sr (.kn 3 [19] r (.condP r hd (fun f hd=>?_) fun f hd=>?_))))
 · exact .sr (.kn 1 [4] r (.r0 results114 r ⟨1,r,hd⟩))
 exact .sn [] r (.sr (.kn 1 [4] r (.r0 results114 r ⟨0,r,hd⟩)))
theorem rM {a0 a1:AC} {Q:Int→Prop} (hd:YJ a0 a1 Q) :
  BZ prog 288 [.agg (YI a0).toArray,.agg (YI a1).toArray] I (fun _=>hZ Q):=by
 refine Fun.en func288 ntmps288 r fun w0 M=>?_
 refine .sr (.bx r fun o=>?_)
 refine .bx r fun p=>?_
 refine .kn 1 [3,2] r (.seq (.dr [0,1,2,3,5,6,7,8,4,9,10,11] 12 (.fk 1 r (.h r (fun _=>.lo BL .p1 r .mk) (.fk 1 r (.h r (fun _=>.lo BL .z r .mk) (.fk 1 r (.h r (fun _=>.lo BL .p1 r .mk) (.fk 1 r ?_)))))))))
 refine .h r (fun _=>.lo BL .z r .mk) (.ww r fun ex=>?_)
 have b:=DU (I:=I) hd
 refine .cq call114 b r fun g hd=>?_
 refine .so 2 r r r (.ch r (fun _=>.lo BL .z r .mk) (.ck 1 r r (.ch r (fun _=>.lo BL .p1 r .mk) (.ck 1 r r trivial)))) (.ww r fun ex=>?_)
 have d:=DU (I:=I) hd
 refine .cq call114 d r fun a hd=>?_
 refine .so 2 r r r trivial (.ww r fun ex=>?_)
 refine .buildSlice 2 BX FI rW r r (.c r r r (.c r r r .n)) r r fun m=>?_
 refine .so 3 r r r trivial (.ww r fun ex=>?_)
 refine .pubB (El:=AE) (ys:=([g,a]:List Int)) (k:=2) .z (RepCs.cons (cs:=[.int .i64 g]) r (RepCs.cons (cs:=[.int .i64 a]) r .nil)) r fun i e j=>?_
 have f:=NR (I:=i) j hd
 refine .cq call113 f r fun l hd=>?_
 exact .so 2 r r r trivial (.e2 12 (.kn 1 [4] r (.drop .z (.drop .z (.r1 results288 r e ⟨l,r,hd⟩)))))
theorem oH {a0:Int} {a1:List AC} {Q:((List AC)×Int)→Prop} (R3:RepSl AW I p1 c2 a1) (hd:SE a0 a1 Q) :
  BZ prog 257 [.int .i64 a0,.slice p1 a1.length c2] I (fun I_ v=>∃ r p4 c5,v=.tuple #[.slice p4 r.1.length c5,.int .i64 r.2]∧RepSl AW I_ p4 c5 r.1∧Q r):=by
 refine Fun.en func257 ntmps257 r fun w0 M=>?_
 refine .sk 2 r (.ns [1,0] r (.mkMap CI PO true r r fun b9=>?_))
 refine .kn 1 [6,1,0] r (.seq (.sk 1 r (.ln ER r (.kn 1 [21,20,19,6,0] r (.block (.lp hd [20,19,6,0] [] r (fun j E l (e,g)=>j ((21,.int .i64 g) :: E) (OwnMap CI PO true b9 e :: l)) (ji rf [0] r) ?_))))))
 rintro ⟨e,g⟩ b7 hd
 refine jq r fun F d=>?_
 have R3:=d.u1 R3
 refine .sr (.kn 1 [22,21,20,19,6,0] r (.seq (.condP r hd (fun N hd=>?_) fun N hd=>?_)))
 · refine .sn [21,20,19,6,0] r (.seq (.block (.sr ?_)))
   obtain ⟨G,b,B,hd⟩:=hd
   obtain ⟨b314,o315,cs316,b2,O,P⟩:=R3.2 _ _ B
   cases P
   refine .ixa ER ES r b2 r G (AH B G) r r (.ldW isAgg103 ES O r r r r (.al LC r fun b320=>?_))
   refine .sa ES .z r (.nk [8,21,20,19,6,0] 1 r (.lo BL .z r (.ks 1 r (.lo BL .z r (.buildArr MR PT FI (.c r r r (.o r) (.c r r r (.o r) .n)) r r (.al MR r fun b324=>?_))))))
   refine .sa IZ .z r (.nk [9,8,21,20,19,6,0] 1 r (.lo XC .p1 r ?_))
   have R:=NA (I:=F) hd
   refine .cq call183 R r fun h hd=>?_
   refine .al CR r fun b336=>?_
   refine .sa AM .z r (.no [10,9,21,20,19,6,0] r (.drop .p2 (.seq (.sk 1 r (.lw OD IZ .p1 r (.lookM2 (k:=(b.Row,b.Col)) (El:=PO) (ag:=true) (zv:=.agg #[.int .i64 0,.int .u64 0]) (z:=({ Hi:=0,Lo:=0 }:AN)) ZF uY CR ⟨[.int .i64 0,.int .u64 0],r,.a⟩ .p2 r r hd r r fun v341 r338 t343 cs342 hd S U=>?_))))))
   cases S
   cases U
   refine .ks 3 r (.al CR r fun b344=>?_)
   refine .sa AM .z r (.ks 1 r (.nk [12,11,10,9,21,20,19,6,0] 1 r (.no [39,11,10,9,21,20,19,6,0] r (.condP r hd (fun V hd=>?_) fun V hd=>?_))))
   · refine .region (.ks 1 r (.lw BG AM .z r (.lw BG AM .p1 r ?_)))
     have W:=aP (I:=F) hd
     refine .cq call184 W r fun m hd=>?_
     refine .sa AM .p1 r (.no [10,9,21,20,19,6,0] r (.drop .z (.region (.ks 1 r (.lw OD IZ .p1 r (.lw BG AM .z r (.updM (k:=(b.Row,b.Col)) (El:=PO) (ag:=true) (v:=m) ZF uY .p2 r r r ⟨[.int .i64 m.Hi,.int .u64 m.Lo],r,.a⟩ (.no [21,20,19,6,0] r (.drop .z ?_)))))))))
     exact .drop .z (.region (.ks 2 r (.nil' (je ((EY (b.Row,b.Col) m e),AJ (g+1)) hd d [0] r))))
   refine .sn [10,9,21,20,19,6,0] r (.drop .z (.region (.ks 1 r (.lw OD IZ .p1 r (.lw BG AM .z r (.updM (k:=(b.Row,b.Col)) (El:=PO) (ag:=true) (v:=h) ZF uY .p2 r r r ⟨[.int .i64 h.Hi,.int .u64 h.Lo],r,.a⟩ (.no [21,20,19,6,0] r (.drop .z (.drop .z ?_)))))))))
   exact .region (.ks 2 r (.nil' (je ((EY (b.Row,b.Col) h e),AJ (g+1)) hd d [0] r)))
 refine .en [6,0] r (.sr (.kn 1 [13,6,0] r (.seq (.sk 1 r (.rangeM uY .z r r r fun b3=>?_)))))
 refine .no [49,13,0] r (.block (.own0 AW 103 (.lx hd [49,0] [] r (fun j E l (p,H)=>fun c w=>∃ q s,j ⟨75,[],none⟩ (fun I_=>True) ((13,.slice q p.length s) :: E) (OwnSl AW 103 q s p :: OwnIt CI PO true b9 b3 e H none :: l) c w) (fun c w ho hs=>⟨_,_,jf rf trivial [0,0] r ho hs⟩) ?_)))
 rintro ⟨p,H⟩ b8 hd c w ⟨q,s,K,u,_,hok,hsym⟩
 have C:=u.u1 d
 refine Cod.at hok hsym (.sr (.nextM .p1 r hd r r (fun hd X=>?_) (fun A b4 v483 cs484 hd Y Z X=>?_)))
 · skip
   refine .kn 1 [51,49,13,0] r (.seq (.condKF r r (.en [13] r (.drop .p1 (.sk 1 r ?_)))))
   have a2:=Fun.sort (hk:=fun _=>⟨r,r⟩) AeU isAgg103 ES (fun x y J Q hq=>rM (I:=J) (a0:=x) (a1:=y) (Q:=Q) hq) call288 (I:=K) (T:=103) (a:=q) (cap:=s) hd
   refine .callS (.f call287 r) (.o [0] r) a2 r r fun v489 I490 l491 a3 a4=>?_
   obtain ⟨b5,rfl,D,rfl,hd⟩:=a4
   obtain ⟨a5,a6⟩:=a3.u2 C u
   refine .rl .z [13,72] r (by rw [D]) (.nk [13] 3 r (.no [5,4] r (.pub .z fun I498 a7 b6=>?_)))
   obtain ⟨a8,le502⟩:=a7.u2 a5 a6
   exact .ret (BO results257 (.t r (.t r .n)) a8 ⟨(b5,0),_,_,r,b6,hd⟩)
 cases Y
 cases Z
 refine .kn 1 [51,49,13,0] r (.seq (.condKT r r (.sn [49,13,0] r (.block (.sr (.entryM .z r r r (.ks 2 r (.al MR r fun b507=>?_))))))))
 refine .al CR r fun b509=>?_
 refine .sa IZ .p1 r (.sa AM .z r (.nk [15,14,49,13,0] 1 r (.lw BG AM .z r ?_)))
 have a9:=ZP (I:=K) hd
 refine .cq call185 a9 r fun L hd=>?_
 refine .kn 5 [17,16,14,49,13,0] r (.drop .z (.seq (.sr (.kn 2 [62,16,14,49,13,0] r (.condP r hd (fun b0 hd=>?_) fun b0 hd=>?_)))))
 · exact .sr (.kn 2 [5,4] r (.drop .z (.drop .z (.drop .z (.ret (BO results257 (.t r (.t r .n)) C ⟨(([]:List AC),12),_,_,r,(.nil _ _ _),hd⟩))))))
 refine .sn [16,14,49,13,0] r (.region (.ks 1 r (.ixArr (i:=0) PT FI r r (by decide) (o:=0) r r r (.lo BL .z r (.ixArr (i:=1) PT FI r r (by decide) (o:=1) r r r (.lo BL .z r (.ks 1 r (.build LC bQ bP (.c r r r (.o r) (.c r r r (.o r) (.c r r r (.o r) .n))) (by exact ⟨⟨_,_,r,r,r⟩,⟨⟨_,_,r,r,r⟩,⟨⟨_,_,r,r,r⟩,trivial⟩⟩⟩) r r (.buildSlice 1 ER ES LC r r (.c r r r .n) r r fun b520=>?_)))))))))
 obtain ⟨b1,hd⟩:=hd
 refine .append (ys:=[({ Row:=A.1.1,Col:=A.1.2,Val:=L.1 }:AC)]) 24 .p3 ER ER bO r r r r r r r r r (.box .z (.one r) r) b1 r r fun p523 c524=>?_
 exact .ks 1 r (.nil' fun c w ho hs=>⟨((p++([({ Row:=A.1.1,Col:=A.1.2,Val:=L.1 }:AC)])),b4),hd,_,_,jf u trivial [0,2] r ho hs⟩)
theorem jO {o0 o1:Int} {a0:AC} {Q:Bool→Prop} (hd:VW o0 o1 a0 Q) :
  Fun prog 256 #[.agg (YI a0).toArray,.pointer (some ⟨b3,0,none⟩),.pointer (some ⟨b4,0,none⟩)] I [pto b3 (.cells #[.int .i64 o0] 3 (0,0)),pto b4 (.cells #[.int .i64 o1] 3 (0,0))] (fun I_ v l=>∃ r,v=.bool r∧l=[pto b3 (.cells #[.int .i64 o0] 3 (0,0)),pto b4 (.cells #[.int .i64 o1] 3 (0,0))]∧Q r):=by
 refine Fun.en func256 ntmps256 r fun w0 M=>?_
 refine .sr (.bx r fun g=>?_)
 refine .ks 1 r (.nk [3,2,1] 1 r (.lo BL .z r (.lo BL .p1 r (.ks 1 r ?_))))
 have b:=HG (I:=I) hd
 refine .cq call167 b r fun h hd=>?_
 refine .ks 2 r ?_
 refine AL hd (fun a hd=>?_) fun a hd=>?_
 · rw [a]
   exact .kn 8 [4,2,1] r (.drop .z (.q1 results256 rf [0,0] r ⟨true,r,r,hd⟩))
 rw [a]
 refine .ks 1 r (.yes r (.lo BL .z r (.yes r (.lo BL .p2 r (.ks 1 r ?_)))))
 have c:=HG (I:=I) hd
 refine .yes r (.callP call167 r c r r fun f d=>?_)
 obtain ⟨e,rfl,hd⟩:=d
 exact .kn 3 [4,2,1] r (.drop .z (.q1 results256 rf [0,0] r ⟨(!e),r,r,hd⟩))
theorem IB {o0 o1:Int} {a0:List AC} {Q:Int→Prop} (R7:RepSl AW I p5 c6 a0) (hd:CX o0 o1 a0 Q) :
  Fun prog 286 #[.slice p5 a0.length c6,.func (.func 256) #[] #[.pointer (some ⟨b3,0,none⟩),.pointer (some ⟨b4,0,none⟩)]] I [pto b3 (.cells #[.int .i64 o0] 3 (0,0)),pto b4 (.cells #[.int .i64 o1] 3 (0,0))] (fun I_ v l=>∃ r,v=.int .i64 r∧l=[pto b3 (.cells #[.int .i64 o0] 3 (0,0)),pto b4 (.cells #[.int .i64 o1] 3 (0,0))]∧Q r):=by
 refine Fun.en func286 ntmps286 r fun w0 M=>?_
 refine .sr (.kn 1 [1,0] r (.seq (.sk 1 r (.ln ER r (.kn 1 [8,7,1,0] r (.block (.lp hd [7,1,0] [0,0] r (fun j E l d=>j ((8,.int .i64 d) :: E) l) (ji rf [0,0] r) ?_)))))))
 refine fun d q hd=>jq r fun s a=>?_
 have R7:=a.u1 R7
 refine .sr (.kn 1 [9,8,7,1,0] r (.seq (.condP r hd (fun h hd=>?_) fun h hd=>?_)))
 · refine .sn [8,7,1,0] r (.seq (.block (.sk 2 r (.nk [5,8,7,1,0] 3 r ?_))))
   obtain ⟨g,t,e,hd⟩:=hd
   obtain ⟨x,o59,w,u,b,i⟩:=R7.2 _ _ e
   cases i
   refine .ixa ER ES r u r g (AH e g) r r (.ldW isAgg103 ES b r r r r ?_)
   have k:=jO (I:=s) (o0:=o0) (o1:=o1) (a0:=t) (b3:=b3) (b4:=b4) hd
   refine .callS (.c call256 r r) (.o [0,0] r) k r r fun y z A m n=>?_
   obtain ⟨B,rfl,rfl,hd⟩:=n
   obtain ⟨f,R7,b⟩:=m.u3 a R7 b
   refine .rn 2 r (.no [16,5,8,7,1,0] r (.condP r hd (fun p hd=>?_) fun p hd=>?_))
   · exact .sr (.kn 2 [4,1] r (.q1 results286 f [0,0] r ⟨d,r,r,hd⟩))
   exact .sn [8,7,1,0] r (.region (.ks 2 r (.nil' (je (AJ (d+1)) hd f [0,0] r))))
 exact .en [1] r (.sr (.kn 1 [4,1] r (.q1 results286 a [0,0] r ⟨(-1),r,r,hd⟩)))
theorem HH {o0 o1:Int} {a0:List AC} {Q:Bool→Prop} (R7:RepSl AW I p5 c6 a0) (hd:CQ o0 o1 a0 Q) :
  Fun prog 255 #[.slice p5 a0.length c6,.func (.func 256) #[] #[.pointer (some ⟨b3,0,none⟩),.pointer (some ⟨b4,0,none⟩)]] I [pto b3 (.cells #[.int .i64 o0] 3 (0,0)),pto b4 (.cells #[.int .i64 o1] 3 (0,0))] (fun I_ v l=>∃ r,v=.bool r∧l=[pto b3 (.cells #[.int .i64 o0] 3 (0,0)),pto b4 (.cells #[.int .i64 o1] 3 (0,0))]∧Q r):=by
 refine Fun.en func255 ntmps255 r fun w0 M=>?_
 refine .sk 1 r (.nk [1,0] 2 r ?_)
 have c:=IB (I:=I) (o0:=o0) (o1:=o1) (a0:=a0) (b3:=b3) (b4:=b4) R7 hd
 refine .callS (.f call286 r) (.o [0,0] r) c r r fun e h g a b=>?_
 obtain ⟨d,rfl,rfl,hd⟩:=b
 have R7:=a.u1 R7
 exact .rn 2 r (.kn 2 [4,1] r (.q1 results255 a [0,0] r ⟨(decide (0≤d)),r,r,hd⟩))
theorem jP {a0 a1 a2:Int} {a3:List AC} {Q:(Rows×Int)→Prop} (R3:RepSl AW I p1 c2 a3) (hd:SF a0 a1 a2 a3 Q) :
  BZ prog 208 [.int .i64 a0,.int .i64 a1,.int .i64 a2,.slice p1 a3.length c2] I (o8_ Q):=by
 refine Fun.en func208 ntmps208 r fun w0 M=>?_
 refine .sr (.box1 r r r r fun V=>?_)
 refine .box1 r r r r fun W=>?_
 refine .al DH r fun c0=>?_
 refine .kn 1 [8,6,5,3,0] r (.seq (.block (.sk 1 r ?_)))
 have H:=RP (I:=I) hd
 refine .cq call100 H r fun c1 hd=>?_
 refine .kn 2 [12,8,6,5,3,0] r (.condP r hd (fun J hd=>?_) fun J hd=>?_)
 · exact .sr (.build DH JK JJ .n (by exact trivial) r r (.sa AU .z r (.kn 1 [9,8] r (.drop .p1 (.drop .p1 (.ret (BO results208 (.w BQ AU r .z r (.t r .n)) rf ⟨(({ Rows:=0,Cols:=0,Start:=([]:List Int),Col:=([]:List Int),Val:=([]:List Int) }:Rows),8),_,_,_,_,_,_,r,(.nil _ _ _),(.nil _ _ _),(.nil _ _ _),hd⟩)))))))
 refine .seq (.jn hd [8,6,5,3,0] [2,1,0] r (fun j E l g=>j ((17,.bool g) :: E) l) (fun X hd=>?_) ?_)
 · skip
   refine .region (.lo BL .p2 r ?_)
   have h:=HG (I:=I) hd
   refine .cq call167 h r fun Y hd=>?_
   refine .ks 2 r ?_
   refine AL hd (fun b hd=>?_) fun b hd=>?_
   · rw [b]
     exact .ks 5 r (.nil' (je true hd rf [2,1,0] r))
   rw [b]
   refine .yes r (.lo BL .p1 r ?_)
   have i:=HG (I:=I) hd
   refine .yes r (.callP call167 r i r r fun Z k=>?_)
   obtain ⟨K,rfl,hd⟩:=k
   exact .ks 3 r (.nil' (je (!K) hd rf [2,1,0] r))
 refine fun g hd=>jq r fun L a=>?_
 have R3:=a.u1 R3
 refine .condP r hd (fun m hd=>?_) fun m hd=>?_
 · exact .sr (.build DH JK JJ .n (by exact trivial) r r (.sa AU .p2 r (.kn 1 [9,8] r (.drop .z (.drop .z (.ret (BO results208 (.w BQ AU r .z r (.t r .n)) a ⟨(({ Rows:=0,Cols:=0,Start:=([]:List Int),Col:=([]:List Int),Val:=([]:List Int) }:Rows),3),_,_,_,_,_,_,r,(.nil _ _ _),(.nil _ _ _),(.nil _ _ _),hd⟩)))))))
 refine .sk 1 r (.ln ER r (.kn 2 [27,8,6,5,3,0] r (.condP r hd (fun p hd=>?_) fun p hd=>?_)))
 · exact .sr (.build DH JK JJ .n (by exact trivial) r r (.sa AU .p2 r (.kn 1 [9,8] r (.drop .z (.drop .z (.ret (BO results208 (.w BQ AU r .z r (.t r .n)) a ⟨(({ Rows:=0,Cols:=0,Start:=([]:List Int),Col:=([]:List Int),Val:=([]:List Int) }:Rows),5),_,_,_,_,_,_,r,(.nil _ _ _),(.nil _ _ _),(.nil _ _ _),hd⟩)))))))
 refine .sk 1 r (.mkFn r r r r ?_)
 have q:=HH (I:=L) (o0:=a1) (o1:=a2) (a0:=a3) (b3:=V) (b4:=W) R3 hd
 refine .callS (.f call255 r) (.o [0,0] r) q r r fun a4 N a5 s u=>?_
 obtain ⟨a6,rfl,rfl,hd⟩:=u
 obtain ⟨d,R3⟩:=s.u2 a R3
 refine .rn 3 r (.kn 1 [32,8,6,5,3,0] r (.condP r hd (fun v hd=>?_) fun v hd=>?_))
 · exact .sr (.build DH JK JJ .n (by exact trivial) r r (.sa AU .p2 r (.kn 1 [9,8] r (.drop .z (.drop .z (.ret (BO results208 (.w BQ AU r .z r (.t r .n)) d ⟨(({ Rows:=0,Cols:=0,Start:=([]:List Int),Col:=([]:List Int),Val:=([]:List Int) }:Rows),3),_,_,_,_,_,_,r,(.nil _ _ _),(.nil _ _ _),(.nil _ _ _),hd⟩)))))))
 refine .sn [8,6,5,3,0] r (.sk 2 r ?_)
 have x:=oH (I:=N) R3 hd
 refine .call call257 r x r r fun a7 O y A=>?_
 obtain ⟨P,a8,a9,rfl,c,hd⟩:=A
 obtain ⟨e,R3⟩:=y.u2 d R3
 refine .kn 5 [11,10,8,6,5] r (.seq (.sr (.kn 2 [44,11,10,8,6,5] r (.condP r hd (fun B hd=>?_) fun B hd=>?_))))
 · exact .sr (.build DH JK JJ .n (by exact trivial) r r (.ks 1 r (.sa AU .p2 r (.kn 1 [9,8] r (.drop .z (.drop .z (.ret (BO results208 (.w BQ AU r .z r (.t r .n)) e ⟨(({ Rows:=0,Cols:=0,Start:=([]:List Int),Col:=([]:List Int),Val:=([]:List Int) }:Rows),P.2),_,_,_,_,_,_,r,(.nil _ _ _),(.nil _ _ _),(.nil _ _ _),hd⟩))))))))
 refine .sn [10,8,6,5] r (.sr (.lo BL .z r (.lo BL .p1 r (.ks 1 r ?_))))
 have C:=fG (I:=O) c hd
 refine .call call194 r C r r fun b0 b1 D F=>?_
 obtain ⟨R,b2,b5,b6,b7,b8,b9,rfl,S,T,U,hd⟩:=F
 obtain ⟨G,c⟩:=D.u2 e c
 exact .sa AU .p2 r (.kn 1 [9,8] r (.drop .z (.drop .z (.ret (BO results208 (.w BQ AU r .z r (.t r .n)) G ⟨(R,0),_,_,_,_,_,_,r,S,T,U,hd⟩)))))
theorem rN {a0:List Rows} {Q:(List Rows)→Prop} (R3:RepSl pI I p1 c2 a0) (hd:YK a0 Q) :
  BZ prog 265 [.slice p1 a0.length c2] I (fun I_ v=>∃ r p4 c5,v=.slice p4 r.length c5∧RepSl pI I_ p4 c5 r∧Q r):=by
 refine Fun.en func265 ntmps265 r fun w0 M=>?_
 refine .sk 1 r (.nk [0] 1 r (.no [3,0] r (.seq (.sk 1 r (.ln SM r (.kn 1 [8,7,6,3] r (.block (.own0 pI 33 (.lx hd [7,6] [] r (fun j E l (a,g)=>fun c w=>∃ h i,j ⟨25,[],none⟩ (fun I_=>True) ((3,.slice h a.length i) :: (8,.int .i64 g) :: E) (OwnSl pI 33 h i a :: l) c w) (fun c w ho hs=>⟨_,_,jf rf trivial [0] r ho hs⟩) ?_)))))))))
 rintro ⟨a,g⟩ R hd c w ⟨h,i,m,b,_,hok,hsym⟩
 have R3:=b.u1 R3
 refine Cod.at hok hsym (.sr (.kn 1 [9,8,7,6,3] r (.seq (.condP r hd (fun s hd=>?_) fun s hd=>?_))))
 · refine .sn [8,7,6,3] r (.seq (.block (.sr ?_)))
   obtain ⟨o,p,k,hd⟩:=hd
   obtain ⟨T,o209,S,K,t,u⟩:=R3.2 _ _ k
   obtain ⟨U,V,W,X,Y,Z,rfl,d,e,f⟩:=u
   refine .ixa SM AU r K r o (AH k o) r r (.ldW BQ AU t r r r r (.al DH r fun a1=>?_))
   refine .sa AU .z r (.no [5,8,7,6,3] r (.seq (.sr (.lw BQ AU .z r ?_))))
   have x:=MZ (I:=m) d e f hd
   refine .cq call101 x r fun a2 hd=>?_
   refine .kn 1 [14,5,8,7,6,3] r (.condP r hd (fun y hd=>?_) fun y hd=>?_)
   · refine .region (.lw BQ AU .z r (.buildArr MR PT FI .n r r (.buildArr MR PT FI .n r r ?_)))
     have A:=RQ (I:=m) d e f hd
     refine .call call139 r A r r fun a3 a4 B C=>?_
     obtain ⟨q,a5,a6,a7,a8,a9,b0,rfl,L,N,O,hd⟩:=C
     obtain ⟨D,R3,d,e,f⟩:=B.u5 b R3 d e f
     refine .sa AU .z r (.no [5,8,7,6,3] r (.region (.ks 1 r (.lw BQ AU .z r (.buildSlice 1 SM AU DH r r (.c r r r .n) r r fun b1=>?_)))))
     obtain ⟨F,hd⟩:=hd
     refine .append (ys:=[q]) 88 .p2 SM SM Ae7 r r r r r r r r r (.box .z (.one ⟨_,_,_,_,_,_,r,L,N,O⟩) r) F r r fun b2 b3=>?_
     exact .kn 1 [3,8,7,6] r (.drop .p1 (.drop .p1 (.region (.ks 2 r (.nil' fun c w ho hs=>⟨((a++([q])),AJ (g+1)),hd,_,_,jf D trivial [0] r ho hs⟩)))))
   refine .sn [5,8,7,6,3] r (.region (.ks 1 r (.lw BQ AU .z r (.buildSlice 1 SM AU DH r r (.c r r r .n) r r fun b4=>?_))))
   obtain ⟨G,hd⟩:=hd
   refine .append (ys:=[p]) 88 .p2 SM SM Ae7 r r r r r r r r r (.box .z (.one ⟨_,_,_,_,_,_,r,d,e,f⟩) r) G r r fun b5 b6=>?_
   exact .kn 1 [3,8,7,6] r (.drop .p1 (.drop .p1 (.region (.ks 2 r (.nil' fun c w ho hs=>⟨((a++([p])),AJ (g+1)),hd,_,_,jf b trivial [0] r ho hs⟩)))))
 refine .en [3] r (.sr (.kn 2 [2] r (.pub .z fun b7 H P=>?_)))
 have J:=H.u1 b
 exact .r1 results265 r J ⟨a,_,_,r,P,hd⟩
theorem Y8 {a0:Rows} {a1:Int} {Q:((List Int)×(List Int))→Prop} (R3:RepSl AE I p1 c2 a0.Start) (R6:RepSl AE I p4 c5 a0.Col) (R9:RepSl AE I p7 c8 a0.Val) (hd:RK a0 a1 Q) :
  BZ prog 266 [.agg #[.int .i64 a0.Rows,.int .i64 a0.Cols,.slice p1 a0.Start.length c2,.slice p4 a0.Col.length c5,.slice p7 a0.Val.length c8],.int .i64 a1] I (AeL Q):=by
 refine Fun.en func266 ntmps266 r fun w0 M=>?_
 refine .sr (.bx r fun G=>?_)
 refine .kn 2 [2,1] r (.seq (.dr [0,1,2,3,4,5,6,7,8,9,10,11] 12 (.fk 1 r (.h r (fun _=>.lo EL .z r .mk) (.fk 1 r ?_)))))
 obtain ⟨e,b,c,hd⟩:=hd
 obtain ⟨J,o42,E,s,m,o⟩:=R3.2 _ _ c
 cases o
 refine .h r (fun _=>.ixa BX FI r s r e (AH c e) r r .mk) (.h r (fun _=>.ld1 (j:=0) BL m r r r r r .mk) (.fk 1 r (.h r (fun _=>.lo EL .z r .mk) (.fk 2 r ?_))))
 obtain ⟨f,a,d,hd⟩:=hd
 obtain ⟨K,o51,F,u,p,q⟩:=R3.2 _ _ d
 cases q
 refine .h r (fun _=>.ixa BX FI r u r f (AH d f) r r .mk) (.h r (fun _=>.ld1 (j:=0) BL p r r r r r .mk) (.fk 1 r (.e2 12 (.kn 1 [7,6,2] r (.seq (.dr [0,1,2,3,4,5,6,7,8,9,10,11,12] 13 (.fk 1 r (.h r (fun _=>.lo EL .z r .mk) (.fk 3 r ?_)))))))))
 obtain ⟨v,N,O,hd⟩:=hd
 have g:Int.toNat b≤Int.toNat a:=by omega
 have i:Int.toNat a≤a0.Col.length:=by omega
 obtain ⟨P,R,w,x,y⟩:=RepSl.sliceW R6 (Int.toNat b) (Int.toNat a) (Int.toNat a) g i (.inr rfl)
 refine .h r (fun _=>.sliceW (L:=Int.toNat b) (H:=Int.toNat a) (cm:=Int.toNat a) BX FI r r R6.1 r r r (.inr ⟨_,_,r,v,r⟩) (.inr ⟨_,_,r,(by omega),r⟩) (.inr r) g i r w x r r .mk) (.fk 1 r (.h r (fun _=>.lo fL .z r .mk) (.fk 3 r ?_)))
 obtain ⟨A,S,T,hd⟩:=hd
 have k:Int.toNat b≤Int.toNat a:=by omega
 have l:Int.toNat a≤a0.Val.length:=by omega
 obtain ⟨U,V,B,C,D⟩:=RepSl.sliceW R9 (Int.toNat b) (Int.toNat a) (Int.toNat a) k l (.inr rfl)
 exact .h r (fun _=>.sliceW (L:=Int.toNat b) (H:=Int.toNat a) (cm:=Int.toNat a) TC uZ r r R9.1 r r r (.inr ⟨_,_,r,A,r⟩) (.inr ⟨_,_,r,(by omega),r⟩) (.inr r) k l r B C r r .mk) (.fk 1 r (.e2 13 (.kn 1 [5,4] r (.drop .z (.ret (BO results266 (.t r (.t r .n)) rf ⟨(((a0.Col.take a.toNat).drop b.toNat),((a0.Val.take a.toNat).drop b.toNat)),_,_,_,_,r,y,D,hd⟩))))))
theorem JG {a0:Int} {Q:(Int×Int)→Prop} (hd:HB a0 Q) :
  BZ prog 341 [.int .u64 a0] I (fun I_ v=>∃ r,v=.agg #[.int .u64 r.1,.int .u64 r.2]∧Q r):=by
 refine Fun.en func341 ntmps341 r fun w0 M=>?_
 refine .sr (.al lA r fun a=>?_)
 exact .nk [2,0] 1 r (.shl' r r (by decide) r r (.shr' r r (by decide) r r (.ks 1 r (.shr' r r (by decide) r r (.buildArr lA KZ LB (.c r r r (.o r) (.c r r r (.o r) .n)) r r (.sa sizeOf351 .z r (.no [2] r (.ret (BO results341 (.w isAgg351 sizeOf351 r .z r .n) rf ⟨(shr .u64 (shl .u64 a0 32) 32,shr .u64 a0 32),r,hd⟩)))))))))
theorem jQ {a0 a1:Int} {Q:AN→Prop} (hd:QS a0 a1 Q) :
  BZ prog 326 [.int .u64 a0,.int .u64 a1] I (fun _=>rV Q):=by
 refine Fun.en func326 ntmps326 r fun w0 M=>?_
 refine .sr (.al CR r fun A=>?_)
 refine .nk [4,1,0] 1 r ?_
 have e:=JG (I:=I) hd
 refine .cq call341 e r fun m hd=>?_
 refine .ks 1 r ?_
 have f:=JG (I:=I) hd
 refine .cq call341 f r fun p hd=>?_
 refine .al lA r fun t=>?_
 refine .al lA r fun u=>?_
 refine .sa sizeOf351 .p1 r (.sa sizeOf351 .z r (.ns [6,5,4] r (.ixArr (i:=0) KZ LB r r (by decide) (o:=0) r r r (.lo EB .p1 r (.ixArr (i:=0) KZ LB r r (by decide) (o:=0) r r r (.lo EB .z r (.kn 2 [7,6,5,4] r (.seq (.dr [0,1,2,3,4,5,10,6,7,8,9,999] 11 ?_)))))))))
 refine .h r (fun _=>.ixArr (i:=1) KZ LB r r (by decide) (o:=1) r r r .mk) (.h r (fun _=>.lo EB .p1 r .mk) (.h r (fun _=>.ixArr (i:=0) KZ LB r r (by decide) (o:=0) r r r .mk) (.h r (fun _=>.lo EB .z r .mk) (.fk 2 r (.a (fun b=>.pointer (some ⟨b,0,none⟩)) (fun b=>pto b (.cells #[.int .u64 0,.int .u64 0] 351 (0,0))) r r r r (fun _ L hL ex=>.al lA r fun b=>.mk (val:=fun b=>.pointer (some ⟨b,0,none⟩)) (atom:=fun b=>pto b (.cells #[.int .u64 0,.int .u64 0] 351 (0,0))) hL b) (.ww r fun ex=>?_))))))
 have g:=JG (I:=I) hd
 refine .cq call341 g r fun v hd=>?_
 refine .so 3 r r r (.ck 1 r r (.ch r (fun _=>.lo EB .z r .mk) (.ch r (fun _=>.ixArr (i:=0) KZ LB r r (by decide) (o:=0) r r r .mk) (.ch r (fun _=>.lo EB .p1 r .mk) (.ch r (fun _=>.ixArr (i:=1) KZ LB r r (by decide) (o:=1) r r r .mk) trivial))))) (.h r (fun _=>.index1 (i:=1) KZ LB EB r r (by decide) r r r .mk) (.fk 1 r (.ww r fun ex=>?_)))
 have j:=JG (I:=I) hd
 refine .cq call341 j r fun q hd=>?_
 refine .so 3 r r r trivial (.b r fun x=>DrawD.nop (.e2 11 (.sa sizeOf351 .p3 r (.ns [8,7,6,5,4] r (.ixArr (i:=0) KZ LB r r (by decide) (o:=0) r r r (.lo EB .p1 r (.ixArr (i:=1) KZ LB r r (by decide) (o:=1) r r r (.lo EB .z r (.ks 1 r ?_)))))))))
 refine .ixArr (i:=0) KZ LB r r (by decide) (o:=0) r r r (.lo EB .p3 r (.ks 1 r ?_))
 have k:=JG (I:=I) hd
 refine .cq call341 k r fun d hd=>?_
 refine .al lA r fun y=>?_
 refine .sa sizeOf351 .z r (.no [9,8,7,6,5,4] r (.seq (.dr [0,1,2,3,4,5,6,7,8,9,10,11,12,13,14,15,16,17,18,19] 20 (.h r (fun _=>.ixArr (i:=1) KZ LB r r (by decide) (o:=1) r r r .mk) (.h r (fun _=>.lo EB .p2 r .mk) (.h r (fun _=>.ixArr (i:=1) KZ LB r r (by decide) (o:=1) r r r .mk) (.h r (fun _=>.lo EB .p1 r .mk) (.fk 1 r (.h r (fun _=>.ixArr (i:=1) KZ LB r r (by decide) (o:=1) r r r .mk) ?_)))))))))
 refine .h r (fun _=>.lo EB .p4 r .mk) (.fk 1 r (.h r (fun _=>.ixArr (i:=1) KZ LB r r (by decide) (o:=1) r r r .mk) (.h r (fun _=>.lo EB .z r .mk) (.fk 1 r (.h r (fun _=>.conv MQ kV r r r .mk) (.h r (fun _=>.ixArr (i:=0) KZ LB r r (by decide) (o:=0) r r r .mk) (.h r (fun _=>.lo EB .z r .mk) (.h r (fun _=>.shl' r r (by decide) r r .mk) (.fk 1 r ?_)))))))))
 refine .ww r fun ex=>?_
 have l:=JG (I:=I) hd
 refine .cq call341 l r fun s hd=>?_
 refine .so 5 r r r (.ch r (fun _=>.shl' r r (by decide) r r .mk) (.ch r (fun _=>.lo EB .z r .mk) (.ch r (fun _=>.ixArr (i:=0) KZ LB r r (by decide) (o:=0) r r r .mk) (.ch r (fun _=>.conv MQ kV r r r .mk) (.ck 1 r r (.ch r (fun _=>.lo EB .z r .mk) (.ch r (fun _=>.ixArr (i:=1) KZ LB r r (by decide) (o:=1) r r r .mk) (.ck 1 r r (.ch r (fun _=>.lo EB .p4 r .mk) (.ch r (fun _=>.ixArr (i:=1) KZ LB r r (by decide) (o:=1) r r r .mk) (.ck 1 r r (.ch r (fun _=>.lo EB .p1 r .mk) (.ch r (fun _=>.ixArr (i:=1) KZ LB r r (by decide) (o:=1) r r r .mk) (.ch r (fun _=>.lo EB .p2 r .mk) (.ch r (fun _=>.ixArr (i:=1) KZ LB r r (by decide) (o:=1) r r r .mk) trivial))))))))))))))) (.h r (fun _=>.index1 (i:=0) KZ LB EB r r (by decide) r r r .mk) (.fk 1 r (.h r (fun _=>.build CR KY KX (.c r r r (.o r) (.c r r r (.o r) .n)) (by exact ⟨⟨_,_,r,r,r⟩,⟨⟨_,_,r,r,r⟩,trivial⟩⟩) r r .mk) (.e2 20 (.sa AM .p3 r (.no [4] r (.drop .z (.drop .z (.drop .z ?_)))))))))
 exact .drop .p1 (.ret (BO results326 (.w BG AM r .z r .n) rf ⟨({ Hi:=AJ (IntKind.wrap .u64 ((IntKind.wrap .u64 ((IntKind.wrap .u64 (m.2*p.2))+q.2))+d.2)),Lo:=bor .u64 (shl .u64 d.1 32) s.1 }:AN),r,hd⟩))
theorem fH {a0:Int} {Q:Int→Prop} (hd:UY a0 Q) :
  BZ prog 327 [.int .i64 a0] I (fun _=>AeQ Q):=by
 refine Fun.en func327 ntmps327 r fun w0 M=>?_
 refine .sr (.kn 1 [0] r (.seq (.sr (.kn 2 [4,0] r (.condP r hd (fun a hd=>?_) fun a hd=>?_)))))
 · exact .sk 1 r (.conv kV MQ r r r (.neg r r r (.kn 1 [2] r (.r0 results327 r ⟨(IntKind.wrap .u64 (0 - (IntKind.wrap .u64 (a0)))),r,hd⟩))))
 exact .sn [0] r (.sk 1 r (.conv kV MQ r r r (.kn 1 [2] r (.r0 results327 r ⟨(IntKind.wrap .u64 (a0)),r,hd⟩))))
theorem uC {a0 a1:AN} {Q:AN→Prop} (hd:bL a0 a1 Q) :
  BZ prog 328 [.agg (EI a0).toArray,.agg (EI a1).toArray] I (fun _=>rV Q):=by
 refine Fun.en func328 ntmps328 r fun w0 M=>?_
 refine .sr (.bx r fun e=>?_)
 refine .bx r fun f=>?_
 refine .al CR r fun d=>?_
 refine .no [4,3,2] r (.seq (.dr [0,1,2,3,4,5,6,7,8,9,10,11,15,16,17,18,19,12,13,14,20] 21 (.fk 1 r (.h r (fun _=>.lo XC .p2 r .mk) (.h r (fun _=>.conv kV MQ r r r .mk) (.fk 1 r (.h r (fun _=>.lo XC .p1 r .mk) (.h r (fun _=>.conv kV MQ r r r .mk) (.fk 2 r ?_)))))))))
 refine .h r (fun _=>.lo EB .p2 r .mk) (.fk 1 r (.h r (fun _=>.lo EB .p1 r .mk) (.fk 2 r (.h r (fun _=>.lo EB .p2 r .mk) (.fk 1 r (.h r (fun _=>.lo EB .p1 r .mk) (.fk 1 r (.ww r fun ex=>?_))))))))
 have a:=cU (I:=I) hd
 refine .cq call278 a r fun b hd=>?_
 exact .so 3 r r r (.ck 1 r r (.ch r (fun _=>.lo EB .p1 r .mk) (.ck 1 r r (.ch r (fun _=>.lo EB .p2 r .mk) (.ck 2 r r (.ch r (fun _=>.conv kV MQ r r r .mk) (.ch r (fun _=>.lo XC .p1 r .mk) (.ck 1 r r (.ch r (fun _=>.conv kV MQ r r r .mk) (.ch r (fun _=>.lo XC .p2 r .mk) (.ck 1 r r trivial))))))))))) (.fk 1 r (.h r (fun _=>.conv MQ kV r r r .mk) (.h r (fun _=>.build CR KY KX (.c r r r (.o r) (.c r r r (.o r) .n)) (by exact ⟨⟨_,_,r,r,r⟩,⟨⟨_,_,r,r,r⟩,trivial⟩⟩) r r .mk) (.e2 21 (.sa AM .z r (.no [4] r (.drop .p1 (.drop .p1 (.ret (BO results328 (.w BG AM r .z r .n) rf ⟨({ Hi:=AJ (IntKind.wrap .u64 ((IntKind.wrap .u64 ((IntKind.wrap .u64 (a0.Hi)) - (IntKind.wrap .u64 (a1.Hi)))) - b)),Lo:=IntKind.wrap .u64 (a0.Lo - a1.Lo) }:AN),r,hd⟩))))))))))
theorem uD {a0 a1:Int} {Q:AN→Prop} (hd:bM a0 a1 Q) :
  BZ prog 311 [.int .i64 a0,.int .i64 a1] I (fun _=>rV Q):=by
 refine Fun.en func311 ntmps311 r fun w0 M=>?_
 refine .sr (.al CR r fun k=>?_)
 refine .nk [4,1,0] 1 r ?_
 have a:=fH (I:=I) hd
 refine .cq call327 a r fun h hd=>?_
 refine .ks 1 r ?_
 have b:=fH (I:=I) hd
 refine .cq call327 b r fun i hd=>?_
 have c:=jQ (I:=I) hd
 refine .cq call326 c r fun f hd=>?_
 refine .al CR r fun j=>?_
 refine .sa AM .z r (.no [5,4,1,0] r (.seq (.sk 4 r (.neB underlying4 r r r r (.no [15,5,4] r (.condP r hd (fun d hd=>?_) fun d hd=>?_))))))
 · refine .sr (.build CR KY KX .n (by exact trivial) r r (.lw BG AM .z r ?_))
   have e:=uC (I:=I) hd
   refine .cq call328 e r fun g hd=>?_
   exact .sa AM .p1 r (.no [4] r (.drop .z (.ret (BO results311 (.w BG AM r .z r .n) rf ⟨g,r,hd⟩))))
 exact .sn [5,4] r (.sr (.lw BG AM .z r (.sa AM .p1 r (.no [4] r (.drop .z (.ret (BO results311 (.w BG AM r .z r .n) rf ⟨f,r,hd⟩)))))))
theorem uE {a0 a1 a2:Int} {Q:AN→Prop} (hd:bN a0 a1 a2 Q) :
  BZ prog 297 [.int .i64 a0,.int .i64 a1,.int .i64 a2] I (fun _=>rV Q):=by
 refine Fun.en func297 ntmps297 r fun w0 M=>?_
 refine .sr (.al CR r fun Z=>?_)
 refine .no [6,2,1,0] r (.seq (.sr (.kn 1 [8,6,2,1,0] r (.block (.sr (.kn 2 [9,8,6,2,1,0] r (.condP r hd (fun u hd=>?_) fun u hd=>?_)))))))
 · refine .sk 3 r ?_
   refine AL hd (fun b hd=>?_) fun b hd=>?_
   · rw [b]
     refine .ks 3 r ?_
     have v:=RA (I:=I) hd
     refine .cq call237 v r fun L hd=>?_
     exact .sa AM .z r (.no [6] r (.ret (BO results297 (.w BG AM r .z r .n) rf ⟨L,r,hd⟩)))
   rw [b]
   refine .ks 3 r ?_
   have x:=RA (I:=I) hd
   refine .cq call237 x r fun N hd=>?_
   exact .sa AM .z r (.no [6] r (.ret (BO results297 (.w BG AM r .z r .n) rf ⟨N,r,hd⟩)))
 refine .sr (.kn 2 [18,6,2,1,0] r (.condP r hd (fun y hd=>?_) fun y hd=>?_))
 · refine .sk 2 r ?_
   have A:=uD (I:=I) hd
   refine .cq call311 A r fun O hd=>?_
   exact .sa AM .z r (.no [6] r (.ret (BO results297 (.w BG AM r .z r .n) rf ⟨O,r,hd⟩)))
 refine .sn [6,2,1,0] r (.seq (.jn hd [6,2,1,0] [0] r (fun j E l _=>j E l) (fun W hd=>?_) ?_))
 · skip
   refine .sk 1 r ?_
   have B:=RP (I:=I) hd
   refine .cq call100 B r fun X hd=>?_
   refine .ks 1 r ?_
   refine AL hd (fun c hd=>?_) fun c hd=>?_
   · rw [c]
     refine .ks 2 r (.yes r (.maxI r r r r (.kn 2 [30,6,2,1,0] r (.condP r hd (fun C hd=>?_) fun C hd=>?_))))
     · refine .sr ?_
       have D:=NA (I:=I) hd
       refine .cq call183 D r fun P hd=>?_
       exact .sa AM .z r (.no [6] r (.ret (BO results297 (.w BG AM r .z r .n) rf ⟨P,r,hd⟩)))
     exact .skip' (je () hd rf [0] r)
   rw [c]
   exact .kn 5 [30,6,2,1,0] r (.condKF r r (.skip' (je () hd rf [0] r)))
 refine fun _ hd=>jq r fun p d=>?_
 refine .sr (.build CR KY KX .n (by exact trivial) r r (.al CR r fun R=>?_))
 refine .sa AM .z r (.no [7,6,2,1,0] r (.seq (.sr (.kn 1 [33,7,6,2,1] r (.block (.seq (.block (.seq (.jn hd [7,6,2] [1] r (fun j E l (q,s)=>j E (pto R (.cells #[.int .i64 q,.int .u64 s] 157 (0,0)) :: l)) (fun Y hd=>?_) ?_)))))))))
 · skip
   refine .block (.seq (.block (.seq (.seq (.sr (.kn 2 [34,33,7,6,2,1] r (.condP r hd (fun F hd=>?_) fun F hd=>?_)))))))
   · refine .en [7,6,2,1] r (.region (.ks 1 r ?_))
     have G:=NA (I:=p) hd
     refine .cq call183 G r fun t hd=>?_
     exact .sa AM .z r (.nil' (je (t.Hi,t.Lo) hd rf [0,0] r))
   refine .sn [33,7,6,2,1] r (.seq (.sr (.kn 2 [36,33,7,6,2,1] r (.condP r hd (fun H hd=>?_) fun H hd=>?_))))
   · exact .exit (je (0,0) hd rf [0,0] r)
   refine .sn [33,7,6,1] r (.sr (.kn 2 [38,7,6,1] r (.condP r hd (fun J hd=>?_) fun J hd=>?_)))
   · refine .en [6,1] r (.drop .z (.seq (.sk 1 r ?_)))
     have e:=NA (I:=p) hd
     refine .cq call183 e r fun S hd=>?_
     exact .sa AM .z r (.no [6] r (.ret (BO results297 (.w BG AM r .z r .n) d ⟨S,r,hd⟩)))
   exact .sn [7,6] r (.en [7,6] r (.sr (.lw BG AM .z r (.sa AM .p1 r (.no [6] r (.drop .z (.ret (BO results297 (.w BG AM r .z r .n) d ⟨({ Hi:=0,Lo:=0 }:AN),r,hd⟩))))))))
 rintro ⟨q,s⟩ hd
 refine jq r fun a f=>?_
 have g:=f.u1 d
 refine .seq (.seq (.dr [1,2,0,3,4,5] 6 (.h r (fun _=>.lw BG AM .z r .mk) (.fk 1 r (.ww r fun ex=>?_)))))
 have i:=NA (I:=a) hd
 refine .cq call183 i r fun T hd=>?_
 refine .so 2 r r r (.ck 1 r r (.ch r (fun _=>.lw BG AM .z r .mk) trivial)) (.ww r fun ex=>?_)
 have k:=NA (I:=a) hd
 refine .cq call183 k r fun U hd=>?_
 refine .so 2 r r r (.ch r (fun _=>.lw BG AM .z r .mk) trivial) (.ww r fun ex=>?_)
 have m:=jN (I:=a) hd
 refine .cq call238 m r fun V hd=>?_
 refine .so 2 r r r trivial (.ww r fun ex=>?_)
 have o:=ZO (I:=a) hd
 refine .cq call236 o r fun K hd=>?_
 exact .so 2 r r r trivial (.e2 6 (.sa AM .p1 r (.no [6] r (.drop .z (.ret (BO results297 (.w BG AM r .z r .n) g ⟨K,r,hd⟩))))))
theorem jR {o0:List (Int×Bool)} {a0:Int} {a1 a2:Rows} {a3:Int} {Q:(List (Int×AN))→Prop} (R5:RepSl AE I p3 c4 a1.Start) (R8:RepSl AE I p6 c7 a1.Col) (R11:RepSl AE I p9 c10 a1.Val) (R14:RepSl AE I p12 c13 a2.Start) (R17:RepSl AE I p15 c16 a2.Col) (R20:RepSl AE I p18 c19 a2.Val) (hd:QT o0 a0 a1 a2 a3 Q) :
  Fun prog 267 #[.int .i64 a0,.agg #[.int .i64 a1.Rows,.int .i64 a1.Cols,.slice p3 a1.Start.length c4,.slice p6 a1.Col.length c7,.slice p9 a1.Val.length c10],.agg #[.int .i64 a2.Rows,.int .i64 a2.Cols,.slice p12 a2.Start.length c13,.slice p15 a2.Col.length c16,.slice p18 a2.Val.length c19],.int .i64 a3,.map (some b2)] I [OwnMap (Value.int .i64) eB false b2 o0] (fun I_ v l=>∃ r b21,v=.map (some b21)∧l=[OwnMap (Value.int .i64) eB false b2 o0,OwnMap (Value.int .i64) PO true b21 r]∧Q r):=by
 refine Fun.en func267 ntmps267 r fun w0 M=>?_
 refine .sr (.bx r fun f7=>?_)
 refine .bx r fun f8=>?_
 refine .ks 1 r (.ns [7,6,4,3,0] r (.mkMap (Value.int .i64) PO true r r fun b9=>?_))
 refine .ks 1 r (.ns [11,7,6,4,3,0] r (.lw BQ AU .p2 r (.ks 1 r ?_)))
 have c0:=Y8 (I:=I) R5 R8 R11 hd
 refine .call call266 r c0 r r fun f9 g0 J c1=>?_
 obtain ⟨g1,g2,g3,g4,g5,rfl,m,n,hd⟩:=c1
 obtain ⟨R5,R8,R11,R14,R17,R20⟩:=J.u6 R5 R8 R11 R14 R17 R20
 refine .kn 5 [13,12,11,7,4,0] r (.drop .p2 (.seq (.sk 1 r (.ln BX r (.kn 1 [32,31,30,13,11,7,4,0] r (.block (.lp hd [31,30,13,11,7,4,0] [2,1] r (fun j E l (t,u)=>j ((32,.int .i64 u) :: E) (OwnMap (Value.int .i64) PO true b9 t :: l)) (ji rf [0,1,0] r) ?_)))))))
 rintro ⟨t,u⟩ c6 hd
 refine jq r fun c2 y=>?_
 obtain ⟨A,R14,R17,R20,m,n⟩:=y.u6 J R14 R17 R20 m n
 refine .sr (.kn 1 [33,32,31,30,13,11,7,4,0] r (.seq (.condP r hd (fun a8 hd=>?_) fun a8 hd=>?_)))
 · refine .sn [32,31,30,13,11,7,4,0] r (.seq (.block (.sk 1 r ?_)))
   obtain ⟨K,e8,B,hd⟩:=hd
   obtain ⟨e9,o778,d4,c3,a9,b0⟩:=m.2 _ _ B
   cases b0
   refine .ixa BX FI r c3 r K (AH B K) r r (.ld1 (j:=0) BL a9 r r r r r (.ks 2 r (.ns [15,14,32,31,30,13,11,7,4,0] r (.lw BQ AU .p2 r (.ks 1 r ?_)))))
   have b1:=Y8 (I:=c2) R14 R17 R20 hd
   refine .call call266 r b1 r r fun f0 f1 C b3=>?_
   obtain ⟨f2,f3,f4,f5,f6,rfl,w,x,hd⟩:=b3
   obtain ⟨b4,b5,R14,R17,R20,m⟩:=C.u6 A y R14 R17 R20 m
   have n:=C.u1 n
   refine .ks 5 r (.nk [17,16,14,32,31,30,13,11,7,4,0] 1 r (.ln BX r (.kn 1 [45,44,43,17,14,32,31,30,13,11,7,4,0] r (.block (.lp hd [44,43,32,31,30,17,14,13,11,7,4,0] [1,1] r (fun j E l (d,f)=>j ((45,.int .i64 f) :: E) (OwnMap (Value.int .i64) PO true b9 d :: l)) (ji rf [0,0,0] r) ?_)))))
   rintro ⟨d,f⟩ c5 hd
   refine jq r fun D c=>?_
   obtain ⟨c8,N,R14,R17,R20,m⟩:=c.u6 b4 b5 R14 R17 R20 m
   obtain ⟨n,w,x⟩:=c.u3 n w x
   refine .sr (.kn 1 [46,45,44,43,32,31,30,17,14,13,11,7,4,0] r (.seq (.condP r hd (fun O hd=>?_) fun O hd=>?_)))
   · refine .sn [45,44,43,32,31,30,17,14,13,11,7,4,0] r (.seq (.block (.sk 1 r ?_)))
     obtain ⟨F,e,o,hd⟩:=hd
     obtain ⟨d5,o1031,c9,b6,P,R⟩:=w.2 _ _ o
     cases R
     refine .ixa BX FI r b6 r F (AH o F) r r (.ld1 (j:=0) BL P r r r r r (.kn 2 [19,18,45,44,43,32,31,30,17,14,13,11,7,4,0] r (.seq (.sk 2 r (.lookM (k:=e) (El:=eB) (ag:=false) (zv:=.bool false) (z:=false) (MC ZY) underlying292 zeroValue4 ⟨[.bool false],r,.s⟩ .p1 r r hd r r fun d6 d7 d0 hd S T=>?_)))))
     cases S
     cases T
     refine .kn 1 [53,19,18,45,44,43,32,31,30,17,14,13,11,7,4,0] r (.condP r hd (fun U hd=>?_) fun U hd=>?_)
     · exact .en [45,44,43,32,31,30,17,14,13,11,7,4,0] r (.region (.ks 2 r (.nil' (je (d,AJ (f+1)) hd c [0,0,0] r))))
     refine .sn [19,18,45,44,43,32,31,30,17,14,13,11,7,4,0] r (.seq (.dr [0,1,2,3,4,5,6,7,8,10,9,999] 11 (.fk 3 r ?_)))
     obtain ⟨G,d8,p,hd⟩:=hd
     obtain ⟨d9,o1078,d1,b7,V,W⟩:=n.2 _ _ p
     cases W
     refine .h r (fun _=>.ixa TC uZ r b7 r G (AH p G) r r .mk) (.h r (fun _=>.ld1 (j:=0) XC V r r r r r .mk) (.fk 2 r ?_))
     obtain ⟨H,e0,q,hd⟩:=hd
     obtain ⟨e1,o1087,d2,b8,X,Y⟩:=x.2 _ _ q
     cases Y
     refine .h r (fun _=>.ixa TC uZ r b8 r H (AH q H) r r .mk) (.h r (fun _=>.ld1 (j:=0) XC X r r r r r .mk) (.a (fun b=>.pointer (some ⟨b,0,none⟩)) (fun b=>pto b (.cells #[.int .i64 0,.int .u64 0] 157 (0,0))) r r r r (fun _ L hL ex=>.al CR r fun b=>.mk (val:=fun b=>.pointer (some ⟨b,0,none⟩)) (atom:=fun b=>pto b (.cells #[.int .i64 0,.int .u64 0] 157 (0,0))) hL b) (.ww r fun ex=>?_)))
     have Z:=uE (I:=D) hd
     refine .cq call297 Z r fun g hd=>?_
     refine .so 3 r r r trivial (.b r fun e3=>DrawD.nop (.e2 11 (.sa AM .p3 r (.no [20,19,45,44,43,32,31,30,17,14,13,11,7,4,0] r (.seq (.sk 2 r (.lookM2 (k:=e) (El:=PO) (ag:=true) (zv:=.agg #[.int .i64 0,.int .u64 0]) (z:=({ Hi:=0,Lo:=0 }:AN)) (MC ZY) underlying293 CR ⟨[.int .i64 0,.int .u64 0],r,.a⟩ .z r r hd r r fun e4 e5 e6 d3 hd a4 a5=>?_)))))))
     cases a4
     cases a5
     refine .ks 3 r (.al CR r fun e7=>?_)
     refine .sa AM .z r (.ks 1 r (.nk [22,21,20,19,45,44,43,32,31,30,17,14,13,11,7,4,0] 1 r (.no [70,21,20,19,45,44,43,32,31,30,17,14,13,11,7,4,0] r (.condP r hd (fun a6 hd=>?_) fun a6 hd=>?_))))
     · refine .region (.ks 1 r (.lw BG AM .z r (.lw BG AM .p4 r ?_)))
       have a7:=aP (I:=D) hd
       refine .cq call184 a7 r fun i hd=>?_
       refine .sa AM .p4 r (.no [20,19,45,44,43,32,31,30,17,14,13,11,7,4,0] r (.drop .z (.region (.ks 2 r (.lw BG AM .p3 r (.updM (k:=e) (El:=PO) (ag:=true) (v:=i) (MC ZY) underlying293 .z r r r ⟨[.int .i64 i.Hi,.int .u64 i.Lo],r,.a⟩ (.no [45,44,43,32,31,30,17,14,13,11,7,4,0] r (.drop .p3 (.region ?_)))))))))
       exact .ks 2 r (.nil' (je ((EY e i d),AJ (f+1)) hd c [0,0,0] r))
     refine .sn [20,19,45,44,43,32,31,30,17,14,13,11,7,4,0] r (.drop .z (.region (.ks 2 r (.lw BG AM .p3 r (.updM (k:=e) (El:=PO) (ag:=true) (v:=g) (MC ZY) underlying293 .z r r r ⟨[.int .i64 g.Hi,.int .u64 g.Lo],r,.a⟩ (.no [45,44,43,32,31,30,17,14,13,11,7,4,0] r (.drop .p3 (.region (.ks 2 r ?_)))))))))
     exact .nil' (je ((EY e g d),AJ (f+1)) hd c [0,0,0] r)
   exact .en [32,31,30,13,11,7,4,0] r (.region (.ks 2 r (.nil' (je (d,AJ (u+1)) hd N [0,0,0] r))))
 exact .en [11,4] r (.drop .p2 (.sr (.kn 2 [10,4] r (.q1 results267 A [1,0] r ⟨t,_,r,r,hd⟩))))
theorem oI {a0:Int} {a1 a2 a3:Rows} {Q:((List AK)×Int)→Prop} (R3:RepSl AE I p1 c2 a1.Start) (R6:RepSl AE I p4 c5 a1.Col) (R9:RepSl AE I p7 c8 a1.Val) (R12:RepSl AE I p10 c11 a2.Start) (R15:RepSl AE I p13 c14 a2.Col) (R18:RepSl AE I p16 c17 a2.Val) (R21:RepSl AE I p19 c20 a3.Start) (R24:RepSl AE I p22 c23 a3.Col) (R27:RepSl AE I p25 c26 a3.Val) (hd:SG a0 a1 a2 a3 Q) :
  BZ prog 221 [.int .i64 a0,.agg #[.int .i64 a1.Rows,.int .i64 a1.Cols,.slice p1 a1.Start.length c2,.slice p4 a1.Col.length c5,.slice p7 a1.Val.length c8],.agg #[.int .i64 a2.Rows,.int .i64 a2.Cols,.slice p10 a2.Start.length c11,.slice p13 a2.Col.length c14,.slice p16 a2.Val.length c17],.agg #[.int .i64 a3.Rows,.int .i64 a3.Cols,.slice p19 a3.Start.length c20,.slice p22 a3.Col.length c23,.slice p25 a3.Val.length c26]] I (AeR Q):=by
 refine Fun.en func221 ntmps221 r fun w0 M=>?_
 refine .sr (.bx r fun m9=>?_)
 refine .bx r fun n0=>?_
 refine .bx r fun n1=>?_
 refine .ks 2 r (.ns [7,6,5,0] r (.lw BQ AU .p2 r (.lw BQ AU .p1 r (.lw BQ AU .z r (.buildSlice 3 SM AU DH r r (.c r r r (.c r r r (.c r r r .n))) r r fun n2=>?_)))))
 refine .pubB (El:=pI) (ys:=([a1,a2,a3]:List Rows)) (k:=3) .z (RepCs.cons (cs:=[.int .i64 a1.Rows,.int .i64 a1.Cols,.slice p1 a1.Start.length c2,.slice p4 a1.Col.length c5,.slice p7 a1.Val.length c8]) ⟨_,_,_,_,_,_,r,R3,R6,R9⟩ (RepCs.cons (cs:=[.int .i64 a2.Rows,.int .i64 a2.Cols,.slice p10 a2.Start.length c11,.slice p13 a2.Col.length c14,.slice p16 a2.Val.length c17]) ⟨_,_,_,_,_,_,r,R12,R15,R18⟩ (RepCs.cons (cs:=[.int .i64 a3.Rows,.int .i64 a3.Cols,.slice p19 a3.Start.length c20,.slice p22 a3.Col.length c23,.slice p25 a3.Val.length c26]) ⟨_,_,_,_,_,_,r,R21,R24,R27⟩ .nil))) r fun h2 W b5=>?_
 obtain ⟨R3,R6,R9,R12,R15,R18⟩:=W.u6 R3 R6 R9 R12 R15 R18
 obtain ⟨R21,R24,R27⟩:=W.u3 R21 R24 R27
 have g1:=rN (I:=h2) b5 hd
 refine .call call265 r g1 r r fun n3 h3 b6 g2=>?_
 obtain ⟨n4,n5,n6,rfl,b7,hd⟩:=g2
 obtain ⟨J,R3,R6,R9,R12,R15⟩:=b6.u6 W R3 R6 R9 R12 R15
 obtain ⟨R18,R21,R24,R27,b5⟩:=b6.u5 R18 R21 R24 R27 b5
 refine .kn 1 [10,7,6,5,0] r (.seq (.dr [0,1,2,3,4,5,6,7,8,9,10] 11 (.fk 1 r ?_)))
 obtain ⟨b8,g3,a5,hd⟩:=hd
 obtain ⟨j2,o133,h9,g4,d6,d7⟩:=b7.2 _ _ a5
 obtain ⟨j3,j4,j5,j6,j7,j8,rfl,b,d,e⟩:=d7
 refine .h r (fun _=>.ixa SM AU r g4 r b8 (AH a5 b8) r r .mk) (.h r (fun _=>.ldW BQ AU d6 r r r r .mk) (.fk 1 r ?_))
 obtain ⟨K,g5,L,hd⟩:=hd
 obtain ⟨j9,o151,i0,b9,a6,d8⟩:=b7.2 _ _ L
 obtain ⟨k0,k1,k2,k3,k4,k5,rfl,g,i,m⟩:=d8
 refine .h r (fun _=>.ixa SM AU r b9 r K (AH L K) r r .mk) (.h r (fun _=>.ldW BQ AU a6 r r r r .mk) (.fk 1 r ?_))
 obtain ⟨B,k6,D,hd⟩:=hd
 obtain ⟨k7,o169,i1,X,N,d9⟩:=b7.2 _ _ D
 obtain ⟨k8,k9,l0,l1,l2,l3,rfl,p,q,u⟩:=d9
 refine .h r (fun _=>.ixa SM AU r X r B (AH D B) r r .mk) (.h r (fun _=>.ldW BQ AU N r r r r .mk) (.ww r fun ex=>?_))
 refine .sa AU .p2 r (.sn 3 r r r (.ch r (fun _=>.ldW BQ AU N r r r r .mk) (.ch r (fun _=>.ixa SM AU r X r B (AH D B) r r .mk) (.ck 1 r r (.ch r (fun _=>.ldW BQ AU a6 r r r r .mk) (.ch r (fun _=>.ixa SM AU r b9 r K (AH L K) r r .mk) (.ck 1 r r trivial)))))) (.ww r fun ex=>?_))
 refine .sa AU .p1 r (.sn 3 r r r (.ch r (fun _=>.ldW BQ AU N r r r r .mk) (.ch r (fun _=>.ixa SM AU r X r B (AH D B) r r .mk) (.ck 1 r r trivial))) (.e2 11 (.sa AU .z r (.no [7,6,5,0] r (.seq (.block (.sk 1 r ?_)))))))
 have e0:=RP (I:=h3) hd
 refine .cq call100 e0 r fun l4 hd=>?_
 refine .kn 2 [37,7,6,5,0] r (.condP r hd (fun e1 hd=>?_) fun e1 hd=>?_)
 · exact .sr (.kn 2 [9,8] r (.drop .z (.drop .z (.drop .z (.ret (BO results221 (.t r (.t r .n)) J ⟨(([]:List AK),8),_,_,r,(.nil _ _ _),hd⟩))))))
 refine .seq (.sk 1 r (.lo BL .p2 r (.ks 1 r (.lo BL .p1 r (.kn 2 [41,7,6,5,0] r (.condP r hd (fun a7 hd=>?_) fun a7 hd=>?_))))))
 · exact .sn [41,7,6,5,0] r (.condKT r a7 (.sr (.kn 2 [9,8] r (.drop .z (.drop .z (.drop .z (.ret (BO results221 (.t r (.t r .n)) J ⟨(([]:List AK),4),_,_,r,(.nil _ _ _),hd⟩))))))))
 refine .sk 1 r (.lo BL .z r (.ks 1 r (.lo BL .p2 r (.kn 2 [41,7,6,5,0] r (.condP r hd (fun a8 hd=>?_) fun a8 hd=>?_)))))
 · exact .sn [41,7,6,5,0] r (.condKT r a8 (.sr (.kn 2 [9,8] r (.drop .z (.drop .z (.drop .z (.ret (BO results221 (.t r (.t r .n)) J ⟨(([]:List AK),4),_,_,r,(.nil _ _ _),hd⟩))))))))
 refine .region (.ks 1 r (.lo BL .z r (.ks 1 r (.lo BL .p1 r (.kn 2 [41,7,6,5,0] r (.condP r hd (fun e3 hd=>?_) fun e3 hd=>?_))))))
 · exact .sr (.kn 2 [9,8] r (.drop .z (.drop .z (.drop .z (.ret (BO results221 (.t r (.t r .n)) J ⟨(([]:List AK),4),_,_,r,(.nil _ _ _),hd⟩))))))
 refine .sn [7,6,5,0] r (.sr (.kn 1 [11,7,6,5,0] r (.seq (.sk 1 r (.lo BL .z r (.kn 1 [59,58,11,7,6,5,0] r (.block (.own0 CG 161 (.lx hd [58,7,6,5,0] [3,2,1] r (fun j E l (O,C)=>fun c w=>∃ Y Z,j ⟨107,[],none⟩ (fun I_=>True) ((11,.slice Y O.length Z) :: (59,.int .i64 C) :: E) (OwnSl CG 161 Y Z O :: l) c w) (fun c w ho hs=>⟨_,_,jf rf trivial [0,2,1,0] r ho hs⟩) ?_)))))))))
 rintro ⟨O,C⟩ h0 hd c w ⟨Y,Z,g6,F,_,hok,hsym⟩
 obtain ⟨a9,b,d,e,g,i⟩:=F.u6 J b d e g i
 obtain ⟨m,p,q,u⟩:=F.u4 m p q u
 refine Cod.at hok hsym (.sr (.kn 1 [60,59,58,11,7,6,5,0] r (.seq (.condP r hd (fun e4 hd=>?_) fun e4 hd=>?_))))
 · refine .sn [59,58,11,7,6,5,0] r (.seq (.block (.sk 2 r (.ns [12,59,58,11,7,6,5,0] r (.lw BQ AU .p3 r (.ks 1 r ?_))))))
   have e5:=Y8 (I:=g6) p q u hd
   refine .call call266 r e5 r r fun l5 l6 b0 e6=>?_
   obtain ⟨l7,l8,l9,m0,m1,rfl,x,m2,hd⟩:=e6
   obtain ⟨e7,e8,b,d,e,g⟩:=b0.u6 a9 F b d e g
   obtain ⟨i,m,p,q,u⟩:=b0.u5 i m p q u
   refine .ks 5 r (.ns [13,12,59,58,11,7,6,5,0] r (.mkMap (Value.int .i64) eB false r r fun c0=>?_))
   refine .kn 1 [15,13,12,59,58,11,7,6,5,0] r (.seq (.sk 1 r (.ln BX r (.kn 1 [71,70,69,15,13,12,59,58,11,7,6,5,0] r (.block (.lp hd [70,69,59,58,15,13,12,11,7,6,5,0] [2,2,2,1] r (fun j E l (P,a4)=>j ((71,.int .i64 a4) :: E) (OwnMap (Value.int .i64) eB false c0 P :: l)) (ji rf [0,1,1,1,0] r) ?_))))))
   rintro ⟨P,a4⟩ h1 hd
   refine jq r fun g7 G=>?_
   obtain ⟨e9,f0,b,d,e,g⟩:=G.u6 e7 e8 b d e g
   obtain ⟨i,m,p,q,u,x⟩:=G.u6 i m p q u x
   refine .sr (.kn 1 [72,71,70,69,59,58,15,13,12,11,7,6,5,0] r (.seq (.condP r hd (fun f1 hd=>?_) fun f1 hd=>?_)))
   · refine .sn [71,70,69,59,58,15,13,12,11,7,6,5,0] r (.seq (.block (.sr ?_)))
     obtain ⟨c1,c3,b1,hd⟩:=hd
     obtain ⟨m3,o967,i2,g8,f2,f3⟩:=x.2 _ _ b1
     cases f3
     exact .ixa BX FI r g8 r c1 (AH b1 c1) r r (.ld1 (j:=0) BL f2 r r r r r (.kn 1 [17,71,70,69,59,58,15,13,12,11,7,6,5,0] r (.region (.ks 2 r (.updM (k:=c3) (El:=eB) (ag:=false) (v:=true) (MC ZY) underlying292 .z r r r ⟨[.bool true],r,.s⟩ (.no [71,70,69,59,58,15,13,12,11,7,6,5,0] r (.region (.ks 2 r (.nil' (je ((EY c3 true P),AJ (a4+1)) hd G [0,0,0,0,0] r))))))))))
   refine .en [59,58,15,13,12,11,7,6,5,0] r (.sk 1 r (.lw BQ AU .p1 r (.lw BQ AU .p2 r (.ks 2 r ?_))))
   have f4:=jR (I:=g7) (o0:=P) (a0:=a0) (a1:=g3) (a2:=g5) (a3:=C) (b2:=c0) b d e g i m hd
   refine .callS (.f call267 r) (.o [0] r) f4 r r fun m4 m5 m6 R f5=>?_
   obtain ⟨m7,m8,rfl,rfl,hd⟩:=f5
   obtain ⟨f6,f7,f8,b,d,e⟩:=R.u6 e9 f0 G b d e
   obtain ⟨g,i,m,p,q,u⟩:=R.u6 g i m p q u
   have x:=R.u1 x
   refine .rn 6 r (.kn 1 [18,59,58,13,12,11,7,6,5,0] r (.drop .z (.sk 1 r (.ln BX r (.kn 1 [86,85,84,18,59,58,12,11,7,6,5,0] r (.block (.lx hd [85,84,59,58,18,12,7,6,5,0] [1,1,1,0] r (fun j E l (A,H)=>fun c w=>∃ S T,j ⟨107,[],none⟩ (fun I_=>True) ((11,.slice S A.length T) :: (86,.int .i64 H) :: E) (OwnSl CG 161 S T A :: l) c w) (fun c w ho hs=>⟨_,_,jf rf trivial [4,1,1,1,0] r ho hs⟩) ?_)))))))
   rintro ⟨A,H⟩ g9 hd c w ⟨S,T,i3,y,_,hok,hsym⟩
   obtain ⟨h4,c4,h5,b,d,e⟩:=y.u6 f6 f7 f8 b d e
   obtain ⟨g,i,m,p,q,u⟩:=y.u6 g i m p q u
   have x:=y.u1 x
   refine Cod.at hok hsym (.sr (.kn 1 [87,86,85,84,59,58,18,12,11,7,6,5,0] r (.seq (.condP r hd (fun c6 hd=>?_) fun c6 hd=>?_))))
   · refine .sn [86,85,84,59,58,18,12,11,7,6,5,0] r (.seq (.block (.sr ?_)))
     obtain ⟨b3,U,V,hd⟩:=hd
     obtain ⟨i4,o1123,h6,f9,c7,c9⟩:=x.2 _ _ V
     cases c9
     refine .ixa BX FI r f9 r b3 (AH V b3) r r (.ld1 (j:=0) BL c7 r r r r r (.ks 1 r (.nk [20,86,85,84,59,58,18,12,11,7,6,5,0] 2 r (.lookM2 (k:=U) (El:=PO) (ag:=true) (zv:=.agg #[.int .i64 0,.int .u64 0]) (z:=({ Hi:=0,Lo:=0 }:AN)) (MC ZY) underlying293 CR ⟨[.int .i64 0,.int .u64 0],r,.a⟩ .p4 r r hd r r fun i5 b4 i6 h7 hd d0 d1=>?_))))
     cases d0
     cases d1
     refine .ks 3 r (.al CR r fun i7=>?_)
     refine .sa AM .z r (.ks 1 r (.nk [22,21,20,86,85,84,59,58,18,12,11,7,6,5,0] 1 r (.no [96,21,20,86,85,84,59,58,18,12,11,7,6,5,0] r (.condP r hd (fun d2 hd=>?_) fun d2 hd=>?_))))
     · refine .region (.ks 3 r (.lw BG AM .z r (.build ZI underlying161 yY (.c r r r (.o r) (.c r r r (.o r) (.c r r r (.o r) .n))) (by exact ⟨⟨_,_,r,r,r⟩,⟨⟨_,_,r,r,r⟩,⟨⟨_,_,r,r,r⟩,trivial⟩⟩⟩) r r (.buildSlice 1 DS BT ZI r r (.c r r r .n) r r fun i8=>?_))))
       obtain ⟨d3,hd⟩:=hd
       refine .append (ys:=[({ Row:=C,Col:=U,Val:=b4 }:AK)]) 32 .p2 DS DS kR r r r r r r r r r (.box .z (.one r) r) d3 r r fun i9 j0=>?_
       exact .kn 1 [11,86,85,84,59,58,18,12,7,6,5,0] r (.drop .p1 (.drop .p1 (.region (.ks 2 r (.nil' fun c w ho hs=>⟨((A++([({ Row:=C,Col:=U,Val:=b4 }:AK)])),AJ (H+1)),hd,_,_,jf y trivial [0,0,0,0,0] r ho hs⟩)))))
     exact .sn [86,85,84,59,58,18,12,11,7,6,5,0] r (.drop .z (.region (.ks 2 r (.nil' fun c w ho hs=>⟨(A,AJ (H+1)),hd,_,_,jf y trivial [0,0,0,0,0] r ho hs⟩))))
   exact .en [59,58,11,7,6,5,0] r (.drop .p4 (.region (.ks 2 r (.nil' fun c w ho hs=>⟨(A,AJ (C+1)),hd,_,_,jf c4 trivial [0,0,0,0] r ho hs⟩))))
 refine .en [11] r (.drop .p1 (.drop .p1 (.drop .p1 (.sr (.kn 3 [9,8] r (.pub .z fun j1 d4 g0=>?_))))))
 obtain ⟨d5,h8⟩:=d4.u2 a9 F
 exact .ret (BO results221 (.t r (.t r .n)) d5 ⟨(O,0),_,_,r,g0,hd⟩)
theorem cV {a0 a1:AK} {Q:Int→Prop} (hd:SH a0 a1 Q) :
  BZ prog 254 [.agg (PC a0).toArray,.agg (PC a1).toArray] I (fun _=>hZ Q):=by
 refine Fun.en func254 ntmps254 r fun w0 M=>?_
 refine .sr (.bx r fun o=>?_)
 refine .bx r fun p=>?_
 refine .kn 1 [3,2] r (.seq (.dr [0,1,2,3,5,6,7,8,4,9,10,11] 12 (.fk 1 r (.h r (fun _=>.lo BL .p1 r .mk) (.fk 1 r (.h r (fun _=>.lo BL .z r .mk) (.fk 1 r (.h r (fun _=>.lo BL .p1 r .mk) (.fk 1 r ?_)))))))))
 refine .h r (fun _=>.lo BL .z r .mk) (.ww r fun ex=>?_)
 have b:=DU (I:=I) hd
 refine .cq call114 b r fun g hd=>?_
 refine .so 2 r r r (.ch r (fun _=>.lo BL .z r .mk) (.ck 1 r r (.ch r (fun _=>.lo BL .p1 r .mk) (.ck 1 r r trivial)))) (.ww r fun ex=>?_)
 have d:=DU (I:=I) hd
 refine .cq call114 d r fun a hd=>?_
 refine .so 2 r r r trivial (.ww r fun ex=>?_)
 refine .buildSlice 2 BX FI rW r r (.c r r r (.c r r r .n)) r r fun m=>?_
 refine .so 3 r r r trivial (.ww r fun ex=>?_)
 refine .pubB (El:=AE) (ys:=([g,a]:List Int)) (k:=2) .z (RepCs.cons (cs:=[.int .i64 g]) r (RepCs.cons (cs:=[.int .i64 a]) r .nil)) r fun i e j=>?_
 have f:=NR (I:=i) j hd
 refine .cq call113 f r fun l hd=>?_
 exact .so 2 r r r trivial (.e2 12 (.kn 1 [4] r (.drop .z (.drop .z (.r1 results254 r e ⟨l,r,hd⟩)))))
theorem cW {a0:List AK} {Q:Bool→Prop} (R3:RepSl CG I p1 c2 a0) (hd:KG a0 Q) :
  BZ prog 207 [.slice p1 a0.length c2] I (fun _=>gE Q):=by
 refine Fun.en func207 ntmps207 r fun w0 M=>?_
 refine .sr (.kn 1 [0] r (.seq (.sk 1 r (.ln DS r (.kn 1 [6,5,0] r (.block (.lp hd [5,0] [] r (fun j E l c=>j ((6,.int .i64 c) :: E) l) (ji rf [] r) ?_)))))))
 refine fun c t hd=>jq r fun u b=>?_
 have R3:=b.u1 R3
 refine .sr (.kn 1 [7,6,5,0] r (.seq (.condP r hd (fun i hd=>?_) fun i hd=>?_)))
 · refine .sn [6,5,0] r (.seq (.block (.sr (.kn 2 [3,6,5,0] r (.seq (.dr [0,1,2,3,4,5,6,7,8,9,10,11,12,13,14] 15 (.fk 3 r ?_)))))))
   refine AL hd (fun a hd=>?_) fun a hd=>?_
   · refine .h r (fun _=>.gyes r r a (.move r r r .mk)) (.h r (fun _=>.gyes r r a (.move r r r .mk)) (.h r (fun _=>.gyes r r a (.sub' r r r r .mk)) ?_))
     obtain ⟨f,z,d,hd⟩:=hd
     obtain ⟨A,o46,x,v,k,m⟩:=R3.2 _ _ d
     cases m
     refine .h r (fun _=>.gyes r r a (.ixa DS BT r v r f (AH d f) r r .mk)) (.h r (fun _=>.gyes r r a (.ldW HP BT k r r r r .mk)) (.h r (fun _=>.gyes r r a (.move r r r .mk)) (.h r (fun _=>.gyes r r a (.move r r r .mk)) ?_)))
     obtain ⟨g,B,e,hd⟩:=hd
     obtain ⟨C,o55,y,w,n,o⟩:=R3.2 _ _ e
     cases o
     refine .h r (fun _=>.gyes r r a (.ixa DS BT r w r g (AH e g) r r .mk)) (.h r (fun _=>.gyes r r a (.ldW HP BT n r r r r .mk)) (.ww r fun ex=>?_))
     have p:=cV (I:=u) hd
     refine .gyes r r a (.callP call254 r p r r fun D q=>?_)
     obtain ⟨F,rfl,hd⟩:=q
     refine .so 0 r r r trivial (.h r (fun _=>.gyes r r a (.ge r r r r .mk)) (.h r (fun _=>.pickT r a r r r .mk) (.e2 15 (.no [23,6,5,0] r (.condP r hd (fun s hd=>?_) fun s hd=>?_)))))
     · exact .sr (.kn 1 [2] r (.r1 results207 r b ⟨false,r,hd⟩))
     exact .sn [6,5,0] r (.region (.ks 2 r (.nil' (je (AJ (c+1)) hd b [] r))))
   refine .h r (fun _=>.gno r r a r r .mk) (.h r (fun _=>.gno r r a r r .mk) (.h r (fun _=>.gno r r a r r .mk) (.h r (fun _=>.gno r r a r r .mk) (.h r (fun _=>.gno r r a r r .mk) (.h r (fun _=>.gno r r a r r .mk) (.h r (fun _=>.gno r r a r r .mk) (.h r (fun _=>.gno r r a r r .mk) (.h r (fun _=>.gno r r a r r .mk) (.h r (fun _=>.gno r r a r r .mk) ?_)))))))))
   exact .h r (fun _=>.gno r r a r r .mk) (.h r (fun _=>.pickF r a r r r .mk) (.e2 15 (.no [23,6,5,0] r (.condKF r r (.sn [6,5,0] r (.region (.ks 2 r (.nil' (je (AJ (c+1)) hd b [] r)))))))))
 exact .en [] r (.sr (.kn 1 [2] r (.r1 results207 r b ⟨true,r,hd⟩)))
theorem NZ {a1:Int} {Q:(List AK)→Prop} (hd:FG a1 Q) :
  wF prog 299 [.slice none 0 0,.int .i64 a1] I (fun I_ v l=>∃ r p1 c2,v=.slice p1 r.length c2∧l=[OwnSl CG 161 p1 c2 r]∧Q r):=by
 refine Fun.en func299 ntmps299 r fun w0 M=>?_
 refine .sr (.kn 1 [1,0] r (.seq (.sr (.kn 2 [6,1,0] r (.condP r hd (fun a hd=>?_) fun a hd=>?_)))))
 · refine .region ?_
   exact hd.elim
 refine .sn [1,0] r (.seq (.sk 2 r (.capOf DS r r r r (.ks 1 r (.ln DS r (.ks 3 r (.nk [1,0] 2 r (.no [16,1,0] r (.condP r hd (fun b hd=>?_) fun b hd=>?_)))))))))
 · refine .region (.ks 2 r (.capOf DS r r r r (.slZ DS BT r r (Nat.le_refl _) r r r (.ks 1 r ?_))))
   obtain ⟨d,e,hd⟩:=hd
   refine .growN CG 32 DS ZY kR r r r r r r r r d e r r fun g f c=>?_
   exact .ks 1 r (.ln DS r (.slZ DS BT r r c yT r r (.ks 1 r (.nk [0] 2 r (.no [4] r (.q1 results299 rf [0] r ⟨([]:List AK),_,_,r,r,hd⟩))))))
 exact .sn [0] r (.sr (.kn 2 [4] r (.own0 CG 161 (.q1 results299 rf [0] r ⟨([]:List AK),_,_,r,r,hd⟩))))
theorem NB {a0:List (List AK)} {Q:(List AK)→Prop} (R3:RepSl (TB CG) I p1 c2 a0) (hd:DI a0 Q) :
  wF prog 270 [.slice p1 a0.length c2] I (fun I_ v l=>∃ r p4 c5,v=.slice p4 r.length c5∧l=[OwnSl CG 161 p4 c5 r]∧Q r):=by
 refine Fun.en func270 ntmps270 r fun w0 M=>?_
 refine .sk 1 r (.nk [0] 1 r (.no [3,0] r (.seq (.sk 1 r (.ln iB r (.kn 1 [11,10,9,3,0] r (.block (.lp hd [10,9,0] [] r (fun j E l (d,e)=>j ((3,.int .i64 d) :: (11,.int .i64 e) :: E) l) (ji rf [] r) ?_))))))))
 rintro ⟨d,e⟩ P hd
 refine jq r fun J b=>?_
 have R3:=b.u1 R3
 refine .sr (.kn 1 [12,11,10,9,3,0] r (.seq (.condP r hd (fun q hd=>?_) fun q hd=>?_)))
 · refine .sn [11,10,9,3,0] r (.seq (.block (.sr ?_)))
   obtain ⟨n,K,i,hd⟩:=hd
   obtain ⟨U,o182,S,L,s,t⟩:=R3.2 _ _ i
   obtain ⟨V,W,rfl,X⟩:=t
   refine .ixa iB zB r L r n (AH i n) r r (.ld1 (j:=0) isAgg76 s r r r r r (.ks 1 r (.nk [5,11,10,9,3,0] 2 r (.ln DS r (.ks 2 r (.nk [3,11,10,9,0] 2 r (.no [20,3,11,10,9,0] r (.condP r hd (fun u hd=>?_) fun u hd=>?_))))))))
   · refine .region ?_
     exact hd.elim
   exact .sn [3,11,10,9,0] r (.region (.ks 2 r (.nil' (je (AJ (d+(K.length:Int)),AJ (e+1)) hd b [] r))))
 refine .en [3,0] r (.sk 1 r ?_)
 have x:=NZ (I:=J) hd
 refine .callO call299 r x r r fun Y Z a1 y A=>?_
 obtain ⟨a2,a3,a4,rfl,rfl,hd⟩:=A
 obtain ⟨B,R3⟩:=y.u2 b R3
 refine .kn 1 [6,0] r (.seq (.sk 1 r (.ln iB r (.kn 1 [27,26,25,6] r (.block (.lx hd [26,25] [] r (fun j E l (a,f)=>fun c w=>∃ g h,j ⟨36,[],none⟩ (fun I_=>True) ((6,.slice g a.length h) :: (27,.int .i64 f) :: E) (OwnSl CG 161 g h a :: l) c w) (fun c w ho hs=>⟨_,_,jf rf trivial [0] r ho hs⟩) ?_))))))
 rintro ⟨a,f⟩ R hd c w ⟨g,h,a5,k,_,hok,hsym⟩
 obtain ⟨C,R3⟩:=k.u2 B R3
 refine Cod.at hok hsym (.sr (.kn 1 [28,27,26,25,6] r (.seq (.condP r hd (fun D hd=>?_) fun D hd=>?_))))
 · refine .sn [27,26,25,6] r (.seq (.block (.sr ?_)))
   obtain ⟨o,p,m,hd⟩:=hd
   obtain ⟨a6,o281,T,N,F,G⟩:=R3.2 _ _ m
   obtain ⟨a7,a8,rfl,O⟩:=G
   refine .ixa iB zB r N r o (AH m o) r r (.ld1 (j:=0) isAgg76 F r r r r r (.kn 1 [8,27,26,25,6] r (.region (.ks 2 r ?_))))
   obtain ⟨H,hd⟩:=hd
   refine .append (ys:=p) 32 .z DS DS kR r r r r r r r r r (.imm O r) H r r fun a9 b0=>?_
   exact .kn 1 [6,27,26,25] r (.region (.ks 2 r (.nil' fun c w ho hs=>⟨((a++p),AJ (f+1)),hd,_,_,jf k trivial [0] r ho hs⟩)))
 exact .en [6] r (.sr (.kn 2 [2] r (.q1 results270 C [0] r ⟨a,_,_,r,r,hd⟩)))
theorem aQ {a0:List AK} {Q:Bool→Prop} (R3:RepSl CG I p1 c2 a0) (hd:OL a0 Q) :
  Fun prog 269 #[.slice p1 a0.length c2] I [] (fun I_ v l=>∃ r,v=.bool r∧l=[]∧Q r):=by
 refine Fun.en func269 ntmps269 r fun w0 M=>?_
 refine .sk 1 r (.nk [0] 1 r ?_)
 have a:=cW (I:=I) R3 hd
 refine .cq call207 a r fun b hd=>?_
 exact .kn 2 [2] r (.q1 results269 rf [] r ⟨(!b),r,r,hd⟩)
theorem JL {a0:List (List AK)} {Q:Int→Prop} (R3:RepSl (TB CG) I p1 c2 a0) (hd:DJ a0 Q) :
  Fun prog 298 #[.slice p1 a0.length c2,.func (.func 269) #[] #[]] I [] (fun I_ v l=>∃ r,v=.int .i64 r∧l=[]∧Q r):=by
 refine Fun.en func298 ntmps298 r fun w0 M=>?_
 refine .sr (.kn 1 [1,0] r (.seq (.sk 1 r (.ln iB r (.kn 1 [8,7,1,0] r (.block (.lp hd [7,1,0] [] r (fun j E l d=>j ((8,.int .i64 d) :: E) l) (ji rf [] r) ?_)))))))
 refine fun d s hd=>jq r fun t a=>?_
 have R3:=a.u1 R3
 refine .sr (.kn 1 [9,8,7,1,0] r (.seq (.condP r hd (fun i hd=>?_) fun i hd=>?_)))
 · refine .sn [8,7,1,0] r (.seq (.block (.sk 2 r (.nk [5,8,7,1,0] 3 r ?_))))
   obtain ⟨h,u,e,hd⟩:=hd
   obtain ⟨y,o61,x,w,b,k⟩:=R3.2 _ _ e
   obtain ⟨z,A,rfl,f⟩:=k
   refine .ixa iB zB r w r h (AH e h) r r (.ld1 (j:=0) isAgg76 b r r r r r ?_)
   have m:=aQ (I:=t) (a0:=u) f hd
   refine .callS (.c call269 r r) .n m r r fun B C D o p=>?_
   obtain ⟨F,rfl,rfl,hd⟩:=p
   obtain ⟨g,R3,f,b⟩:=o.u4 a R3 f b
   refine .rn 0 r (.no [16,5,8,7,1,0] r (.condP r hd (fun q hd=>?_) fun q hd=>?_))
   · exact .sr (.kn 2 [4,1] r (.q1 results298 g [] r ⟨d,r,r,hd⟩))
   exact .sn [8,7,1,0] r (.region (.ks 2 r (.nil' (je (AJ (d+1)) hd g [] r))))
 exact .en [1] r (.sr (.kn 1 [4,1] r (.q1 results298 a [] r ⟨(-1),r,r,hd⟩)))
theorem ID {a0:List (List AK)} {Q:Bool→Prop} (R3:RepSl (TB CG) I p1 c2 a0) (hd:DB a0 Q) :
  Fun prog 268 #[.slice p1 a0.length c2,.func (.func 269) #[] #[]] I [] (fun I_ v l=>∃ r,v=.bool r∧l=[]∧Q r):=by
 refine Fun.en func268 ntmps268 r fun w0 M=>?_
 refine .sk 1 r (.nk [1,0] 2 r ?_)
 have b:=JL (I:=I) (a0:=a0) R3 hd
 refine .callS (.f call298 r) .n b r r fun e g h a c=>?_
 obtain ⟨d,rfl,rfl,hd⟩:=c
 have R3:=a.u1 R3
 exact .rn 0 r (.kn 2 [4,1] r (.q1 results268 a [] r ⟨(decide (0≤d)),r,r,hd⟩))
theorem KW {a0 a1:AK} {Q:Int→Prop} (hd:EP a0 a1 Q) :
  Fun prog 254 #[.agg (PC a0).toArray,.agg (PC a1).toArray] I [] (fun I_ v l=>∃ r,v=.int .i64 r∧l=[]∧Q r):=by
 refine Fun.en func254 ntmps254 r fun w0 M=>?_
 refine .sr (.bx r fun p=>?_)
 refine .bx r fun q=>?_
 refine .kn 1 [3,2] r (.seq (.dr [0,1,2,3,5,6,7,8,4,9,10,11] 12 (.fk 1 r (.h r (fun _=>.lo BL .p1 r .mk) (.fk 1 r (.h r (fun _=>.lo BL .z r .mk) (.fk 1 r (.h r (fun _=>.lo BL .p1 r .mk) (.fk 1 r ?_)))))))))
 refine .h r (fun _=>.lo BL .z r .mk) (.ww r fun ex=>?_)
 have b:=DU (I:=I) hd
 refine .cq call114 b r fun g hd=>?_
 refine .so 2 r r r (.ch r (fun _=>.lo BL .z r .mk) (.ck 1 r r (.ch r (fun _=>.lo BL .p1 r .mk) (.ck 1 r r trivial)))) (.ww r fun ex=>?_)
 have d:=DU (I:=I) hd
 refine .cq call114 d r fun a hd=>?_
 refine .so 2 r r r trivial (.ww r fun ex=>?_)
 refine .buildSlice 2 BX FI rW r r (.c r r r (.c r r r .n)) r r fun o=>?_
 refine .so 3 r r r trivial (.ww r fun ex=>?_)
 refine .pubB (El:=AE) (ys:=([g,a]:List Int)) (k:=2) .z (RepCs.cons (cs:=[.int .i64 g]) r (RepCs.cons (cs:=[.int .i64 a]) r .nil)) r fun i e j=>?_
 have f:=NR (I:=i) j hd
 refine .cq call113 f r fun m hd=>?_
 exact .so 2 r r r trivial (.e2 12 (.kn 1 [4] r (.drop .z (.drop .z (.q1 results254 e [] r ⟨m,r,r,hd⟩)))))
theorem EU {o0:List AK} {a0 a1:Int} {Q:(List AK)→Prop} (hd:CA o0 a0 a1 Q) :
  Fun prog 225 #[.slice p2 o0.length c3,.int .i64 a0,.int .i64 a1,.func (.func 254) #[] #[]] I [OwnSl CG 161 p2 c3 o0] (fun I_ v l=>∃ r,v=.tuple #[]∧r.length=o0.length∧l=[OwnSl CG 161 p2 c3 r]∧Q r):=by
 refine Fun.en func225 ntmps225 r fun w0 M=>?_
 refine .sr (.kn 3 [8,3,2,1,0] r (.block (.lx hd [3,2,1] [] r (fun j E l (d,f)=>fun c w=>j ⟨53,[],none⟩ (fun I_=>d.length=o0.length) ((0,.slice p2 d.length c3) :: (8,.int .i64 f) :: E) (OwnSl CG 161 p2 c3 d :: l) c w) (fun c w ho hs=>jf rf (by first | exact r | omega | (simp only [List.length_set] at * <;> omega)) [0] r ho hs) ?_)))
 rintro ⟨d,f⟩ W hd c w ⟨a2,i,X,hok,hsym⟩
 refine Cod.at hok hsym (.seq (.sr (.kn 3 [14,8,3,2,1,0] r (.condP r hd (fun J hd=>?_) fun J hd=>?_))))
 · refine .sn [8,3,2,1,0] r (.seq (.block (.sr (.kn 2 [9,8,3,2,1,0] r (.block (.lx hd [8,3,2,1] [] r (fun j E l (b,e)=>fun c w=>j ⟨53,[],none⟩ (fun I_=>b.length=d.length) ((0,.slice p2 b.length c3) :: (9,.int .i64 e) :: E) (OwnSl CG 161 p2 c3 b :: l) c w) (fun c w ho hs=>jf rf (by first | exact r | omega | (simp only [List.length_set] at * <;> omega)) [0] r ho hs) ?_))))))
   rintro ⟨b,e⟩ Y hd c w ⟨S,k,Z,hok,hsym⟩
   have m:=k.u1 i
   refine Cod.at hok hsym (.seq (.seq (.ownF .z fun x=>?_)))
   refine .dr [0,1,2,3,4,5,6,7,8,9,10,11,12,13,14,15,16] 17 (.fk 4 r ?_)
   refine AL hd (fun a hd=>?_) fun a hd=>?_
   · refine .h r (fun _=>.gyes r r a (.move r r r .mk)) (.h r (fun _=>.gyes r r a (.move r r r .mk)) (.h r (fun _=>.gyes r r a (.move r r r .mk)) ?_))
     obtain ⟨y,T,g,hd⟩:=hd
     obtain ⟨a3,U⟩:=x (EN g)
     cases U
     refine .h r (fun _=>.gyes r r a (.ixa0 DS BT r r y (AH g y) r r .mk)) (.h r (fun _=>.gyes r r a (.loA (j:=0) HP BT .z g r r (.o 4 r) r r r .mk)) (.h r (fun _=>.gyes r r a (.move r r r .mk)) (.h r (fun _=>.gyes r r a (.move r r r .mk)) (.h r (fun _=>.gyes r r a (.sub' r r r r .mk)) ?_))))
     obtain ⟨A,V,p,hd⟩:=hd
     refine .h r (fun _=>.gyes r r a (.ixa0 DS BT r r A (AH p A) r r .mk)) (.h r (fun _=>.gyes r r a (.loA (j:=0) HP BT .z p r r (.o 4 r) r r r .mk)) (.ww r fun ex=>?_))
     have K:=KW (I:=S) (a0:=T) (a1:=V) hd
     refine .gyes r r a (.callS (.c call254 r r) .n K r r fun a4 a5 a6 L N=>?_)
     obtain ⟨a7,rfl,rfl,hd⟩:=N
     obtain ⟨O,P⟩:=L.u2 m k
     refine .rx 1 r (.so 1 r r r trivial (.h r (fun _=>.gyes r r a (.lt r r r r .mk)) (.h r (fun _=>.pickT r a r r r .mk) (.e2 17 (.no [34,9,8,3,2,1,0] r (.condP r hd (fun R hd=>?_) fun R hd=>?_))))))
     · refine .sn [9,8,3,2,1,0] r (.seq (.block (.dr [0,1,2,3,4,5,6,7,8,9,10,11,12,13,14,15] 16 (.fk 8 r ?_))))
       obtain ⟨B,C,q,hd⟩:=hd
       refine .h r (fun _=>.ixa0 DS BT r r B (AH q B) r r .mk) (.h r (fun _=>.loA (j:=0) HP BT .z q r r (.o 4 r) r r r .mk) (.fk 2 r ?_))
       obtain ⟨D,F,s,hd⟩:=hd
       refine .h r (fun _=>.ixa0 DS BT r r D (AH s D) r r .mk) (.h r (fun _=>.loA (j:=0) HP BT .z s r r (.o 4 r) r r r .mk) ?_)
       obtain ⟨G,a8,t,hd⟩:=hd
       refine .h r (fun _=>.ixa0 DS BT r r G (AH t G) r r .mk) (.ww r fun ex=>?_)
       refine .stOA (j:=0) (v':=C) BT .z t r r r (.o r) r r (.sn 1 r r r (.ck 3 r r trivial) (.e2 16 (.rl .z [0,37,39,42,47] r (by simp only [List.length_set]) ?_)))
       obtain ⟨H,a9,u,hd⟩:=hd
       exact .ixa0 DS BT r r H (AH u H) r r (.stOA (j:=0) (v':=F) BT .z u r r r (.o r) r r (.rl .z [0,37,39,42,47] r (by simp only [List.length_set]) (.no [9,8,3,2,1,0] r (.region (.ks 3 r (.nil' fun c w ho hs=>⟨(((b.set e.toNat C).set ((AJ (e - 1)).toNat) F),AJ (e - 1)),hd,jf P (by first | exact r | omega | (simp only [List.length_set] at * <;> omega)) [0] r ho hs⟩))))))
     exact .en [8,3,2,1,0] r (.region (.ks 3 r (.nil' fun c w ho hs=>⟨(b,AJ (f+1)),hd,jf O (by first | exact r | omega | (simp only [List.length_set] at * <;> omega)) [0] r ho hs⟩)))
   refine .h r (fun _=>.gno r r a r r .mk) (.h r (fun _=>.gno r r a r r .mk) (.h r (fun _=>.gno r r a r r .mk) (.h r (fun _=>.gno r r a r r .mk) (.h r (fun _=>.gno r r a r r .mk) (.h r (fun _=>.gno r r a r r .mk) (.h r (fun _=>.gno r r a r r .mk) (.h r (fun _=>.gno r r a r r .mk) (.h r (fun _=>.gno r r a r r .mk) (.h r (fun _=>.gno r r a r r .mk) ?_)))))))))
   exact .h r (fun _=>.gno r r a r r .mk) (.h r (fun _=>.gno r r a r r .mk) (.h r (fun _=>.pickF r a r r r .mk) (.e2 17 (.no [34,9,8,3,2,1,0] r (.condKF r r (.en [8,3,2,1,0] r (.region (.ks 3 r (.nil' fun c w ho hs=>⟨(b,AJ (f+1)),hd,jf m (by first | exact r | omega | (simp only [List.length_set] at * <;> omega)) [0] r ho hs⟩)))))))))
 exact .exit (UO results225 .n i (.o [0] r) ⟨d,r,(by first | exact r | omega | (simp only [List.length_set] at * <;> omega)),r,hd⟩)
theorem DN {o0:List AK} {a0 a1 a2:Int} {Q:(List AK)→Prop} (hd:BV o0 a0 a1 a2 Q) :
  Fun prog 342 #[.slice p2 o0.length c3,.int .i64 a0,.int .i64 a1,.int .i64 a2,.func (.func 254) #[] #[]] I [OwnSl CG 161 p2 c3 o0] (fun I_ v l=>∃ r,v=.tuple #[]∧r.length=o0.length∧l=[OwnSl CG 161 p2 c3 r]∧Q r):=by
 refine Fun.en func342 ntmps342 r fun w0 M=>?_
 refine .sr (.kn 1 [10,3,2,1,0] r (.block (.lx hd [3,2,1] [] r (fun j E l (a,b)=>fun c w=>j ⟨38,[],none⟩ (fun I_=>a.length=o0.length) ((0,.slice p2 a.length c3) :: (10,.int .i64 b) :: E) (OwnSl CG 161 p2 c3 a :: l) c w) (fun c w ho hs=>jf rf (by first | exact r | omega | (simp only [List.length_set] at * <;> omega)) [0] r ho hs) ?_)))
 rintro ⟨a,b⟩ y hd c w ⟨C,e,A,hok,hsym⟩
 refine Cod.at hok hsym (.seq (.sr (.kn 3 [13,10,3,2,1,0] r (.condP r hd (fun x hd=>?_) fun x hd=>?_))))
 · refine .sn [10,3,2,1,0] r (.seq (.block (.ownF .z fun k=>?_)))
   refine .dr [0,1,2,3,4,5,6,7,8,9,10,11,12,13,14,15,16,17,18,19,20,21] 22 (.fk 12 r ?_)
   obtain ⟨m,p,d,hd⟩:=hd
   obtain ⟨D,B⟩:=k (EN d)
   cases B
   refine .h r (fun _=>.ixa0 DS BT r r m (AH d m) r r .mk) (.h r (fun _=>.loA (j:=0) HP BT .z d r r (.o 4 r) r r r .mk) (.fk 4 r ?_))
   obtain ⟨q,s,f,hd⟩:=hd
   refine .h r (fun _=>.ixa0 DS BT r r q (AH f q) r r .mk) (.h r (fun _=>.loA (j:=0) HP BT .z f r r (.o 4 r) r r r .mk) ?_)
   obtain ⟨t,F,g,hd⟩:=hd
   refine .h r (fun _=>.ixa0 DS BT r r t (AH g t) r r .mk) (.ww r fun ex=>?_)
   refine .stOA (j:=0) (v':=p) BT .z g r r r (.o r) r r (.sn 1 r r r (.ck 4 r r trivial) (.e2 22 (.rl .z [0,16,20,24,30] r (by simp only [List.length_set]) ?_)))
   obtain ⟨u,G,i,hd⟩:=hd
   exact .ixa0 DS BT r r u (AH i u) r r (.stOA (j:=0) (v':=s) BT .z i r r r (.o r) r r (.rl .z [0,16,20,24,30] r (by simp only [List.length_set]) (.no [10,3,2,1,0] r (.region (.ks 3 r (.nil' fun c w ho hs=>⟨(((a.set ((AJ (a0+b)).toNat) p).set ((AJ (a1+b)).toNat) s),AJ (b+1)),hd,jf e (by first | exact r | omega | (simp only [List.length_set] at * <;> omega)) [0] r ho hs⟩))))))
 exact .exit (UO results342 .n e (.o [0] r) ⟨a,r,(by first | exact r | omega | (simp only [List.length_set] at * <;> omega)),r,hd⟩)
theorem LP {o0:List AK} {a0 a1 a2:Int} {Q:(List AK)→Prop} (hd:DD o0 a0 a1 a2 Q) :
  Fun prog 329 #[.slice p2 o0.length c3,.int .i64 a0,.int .i64 a1,.int .i64 a2,.func (.func 254) #[] #[]] I [OwnSl CG 161 p2 c3 o0] (fun I_ v l=>∃ r,v=.tuple #[]∧r.length=o0.length∧l=[OwnSl CG 161 p2 c3 r]∧Q r):=by
 refine Fun.en func329 ntmps329 r fun w0 M=>?_
 refine .sk 4 r (.nk [10,4,3,2,0] 4 r (.no [11,10,4,2,0] r (.seq (.block (.lx hd [4,2] [] r (fun j E l (b,a,d)=>fun c w=>j ⟨58,[],none⟩ (fun I_=>b.length=o0.length) ((0,.slice p2 b.length c3) :: (10,.int .i64 a) :: (11,.int .i64 d) :: E) (OwnSl CG 161 p2 c3 b :: l) c w) (fun c w ho hs=>jf rf (by first | exact r | omega | (simp only [List.length_set] at * <;> omega)) [0] r ho hs) ?_)))))
 rintro ⟨b,a,d⟩ J hd c w ⟨h,e,K,hok,hsym⟩
 refine Cod.at hok hsym (.seq (.sr (.kn 3 [20,11,10,4,2,0] r (.condP r hd (fun q hd=>?_) fun q hd=>?_))))
 · refine .sn [11,10,4,2,0] r (.block (.sr (.kn 3 [23,11,10,4,2,0] r (.condP r hd (fun s hd=>?_) fun s hd=>?_))))
   · refine .sk 7 r ?_
     have t:=DN (I:=h) (o0:=b) (a0:=(AJ (a1 - a))) (a1:=a1) (a2:=d) (p2:=p2) (c3:=c3) hd
     refine .callS (.f call342 r) (.o [0] r) t r r fun R S T u x=>?_
     obtain ⟨L,rfl,i,rfl,hd⟩:=x
     have y:=u.u1 e
     exact .rl .z [0,24] r (by rw [i]) (.no [11,10,4,2,0] r (.region (.ks 4 r (.nil' fun c w ho hs=>⟨(L,AJ (a - d),d),hd,jf y (by first | exact r | omega | (simp only [List.length_set] at * <;> omega)) [0] r ho hs⟩))))
   refine .sk 11 r ?_
   have A:=DN (I:=h) (o0:=b) (a0:=(AJ (a1 - a))) (a1:=(AJ ((AJ (a1+d)) - a))) (a2:=a) (p2:=p2) (c3:=c3) hd
   refine .callS (.f call342 r) (.o [0] r) A r r fun U V W B C=>?_
   obtain ⟨N,rfl,k,rfl,hd⟩:=C
   have D:=B.u1 e
   exact .rl .z [0,35] r (by rw [k]) (.no [11,10,4,2,0] r (.region (.ks 4 r (.nil' fun c w ho hs=>⟨(N,a,AJ (d - a)),hd,jf D (by first | exact r | omega | (simp only [List.length_set] at * <;> omega)) [0] r ho hs⟩))))
 refine .en [10,4,2,0] r (.region (.ks 7 r ?_))
 have F:=DN (I:=h) (o0:=b) (a0:=(AJ (a1 - a))) (a1:=a1) (a2:=a) (p2:=p2) (c3:=c3) hd
 refine .callS (.f call342 r) (.o [0] r) F r r fun O X P G m=>?_
 obtain ⟨H,rfl,g,rfl,hd⟩:=m
 have p:=G.u1 e
 exact .rl .z [0,50] r (by rw [g]) (.nil' (UO results329 .n p (.o [0] r) ⟨H,r,(by first | exact r | omega | (simp only [List.length_set] at * <;> omega)),r,hd⟩))
theorem JA {rc:(List AK)→Int→Int→Int→((List AK)→Prop)→Prop} (ih:∀ {I:IH} {o0:List AK} {a0:Int} {a1:Int} {a2:Int} {p2:Option Addr} {c3:Nat} {Q:(List AK)→Prop} ,rc o0 a0 a1 a2 Q→Fun prog 312 #[.slice p2 o0.length c3,.int .i64 a0,.int .i64 a1,.int .i64 a2,.func (.func 254) #[] #[]] I [OwnSl CG 161 p2 c3 o0] (fun I_ v l=>∃ r,v=.tuple #[]∧r.length=o0.length∧l=[OwnSl CG 161 p2 c3 r]∧Q r)) {I:IH} {o0:List AK} {a0:Int} {a1:Int} {a2:Int} {p2:Option Addr} {c3:Nat} {Q:(List AK)→Prop}  (hd:BF rc o0 a0 a1 a2 Q) :
  Fun prog 312 #[.slice p2 o0.length c3,.int .i64 a0,.int .i64 a1,.int .i64 a2,.func (.func 254) #[] #[]] I [OwnSl CG 161 p2 c3 o0] (fun I_ v l=>∃ r,v=.tuple #[]∧r.length=o0.length∧l=[OwnSl CG 161 p2 c3 r]∧Q r):=by
 refine Fun.en func312 ntmps312 r fun w0 M=>?_
 refine .seq (.sr (.kn 4 [28,4,3,2,1,0] r (.condP r hd (fun f5 hd=>?_) fun f5 hd=>?_)))
 · refine .sk 2 r (.nk [10,4,3,1,0] 2 r (.no [11,10,4,1,0] r (.seq (.block (.lp hd [4,1,0] [0] r (fun j E l (k,m)=>j ((10,.int .i64 k) :: (11,.int .i64 m) :: E) l) (ji rf [0] r) ?_)))))
   rintro ⟨k,m⟩ j8 hd
   refine jq r fun i3 V=>?_
   refine .seq (.sr (.kn 3 [33,11,10,4,1,0] r (.condP r hd (fun f6 hd=>?_) fun f6 hd=>?_)))
   · refine .sn [11,10,4,1,0] r (.block (.sk 3 r (.conv ZY eV r r r (.shr' r r (by decide) r r (.conv eV ZY r r r (.kn 1 [12,11,10,4,1,0] r (.seq (.ownF .z fun b4=>?_))))))))
     refine .dr [0,1,2,3,4,5,6,7,8,9,10] 11 (.fk 3 r ?_)
     obtain ⟨b5,i4,D,hd⟩:=hd
     obtain ⟨m5,i5⟩:=b4 (EN D)
     cases i5
     refine .h r (fun _=>.ixa0 DS BT r r b5 (AH D b5) r r .mk) (.h r (fun _=>.loA (j:=0) HP BT .z D r r (.o 4 r) r r r .mk) (.fk 2 r ?_))
     obtain ⟨b6,i6,W,hd⟩:=hd
     refine .h r (fun _=>.ixa0 DS BT r r b6 (AH W b6) r r .mk) (.h r (fun _=>.loA (j:=0) HP BT .z W r r (.o 4 r) r r r .mk) (.ww r fun ex=>?_))
     have f7:=KW (I:=i3) (a0:=i4) (a1:=i6) hd
     refine .callS (.c call254 r r) .n f7 r r fun m6 m7 m8 f8 f9=>?_
     obtain ⟨m9,rfl,rfl,hd⟩:=f9
     have X:=f8.u1 V
     refine .rx 1 r (.so 1 r r r trivial (.fk 1 r (.e2 11 (.no [50,12,11,10,4,1,0] r (.condP r hd (fun g0 hd=>?_) fun g0 hd=>?_)))))
     · exact .region (.ks 3 r (.nil' (je (AJ ((AJ (shr .u64 (IntKind.wrap .u64 (AJ (k+m))) 1))+1),m) hd X [0] r)))
     exact .region (.ks 2 r (.nil' (je (k,AJ (shr .u64 (IntKind.wrap .u64 (AJ (k+m))) 1)) hd X [0] r)))
   refine .en [10,4,1,0] r (.seq (.sr (.kn 2 [13,10,4,0] r (.block (.lx hd [10,4] [] r (fun j E l (e,p)=>fun c w=>j ⟨220,[],none⟩ (fun I_=>e.length=o0.length) ((0,.slice p2 e.length c3) :: (13,.int .i64 p) :: E) (OwnSl CG 161 p2 c3 e :: l) c w) (fun c w ho hs=>jf rf (by first | exact r | omega | (simp only [List.length_set] at * <;> omega)) [0] r ho hs) ?_)))))
   rintro ⟨e,p⟩ j9 hd c w ⟨n0,Y,k0,hok,hsym⟩
   have g1:=Y.u1 V
   refine Cod.at hok hsym (.seq (.sr (.kn 4 [58,13,10,4,0] r (.condP r hd (fun g2 hd=>?_) fun g2 hd=>?_))))
   · refine .sn [13,10,4,0] r (.seq (.block (.ownF .z fun b7=>?_)))
     refine .dr [0,1,2,3,4,5,6,7,8,9,10,11,12,13,14,15] 16 (.fk 8 r ?_)
     obtain ⟨b8,b9,F,hd⟩:=hd
     obtain ⟨n1,i7⟩:=b7 (EN F)
     cases i7
     refine .h r (fun _=>.ixa0 DS BT r r b8 (AH F b8) r r .mk) (.h r (fun _=>.loA (j:=0) HP BT .z F r r (.o 4 r) r r r .mk) (.fk 2 r ?_))
     obtain ⟨c0,c1,Z,hd⟩:=hd
     refine .h r (fun _=>.ixa0 DS BT r r c0 (AH Z c0) r r .mk) (.h r (fun _=>.loA (j:=0) HP BT .z Z r r (.o 4 r) r r r .mk) ?_)
     obtain ⟨c2,n2,a3,hd⟩:=hd
     refine .h r (fun _=>.ixa0 DS BT r r c2 (AH a3 c2) r r .mk) (.ww r fun ex=>?_)
     refine .stOA (j:=0) (v':=b9) BT .z a3 r r r (.o r) r r (.sn 1 r r r (.ck 3 r r trivial) (.e2 16 (.rl .z [0,61,63,66,71] r (by simp only [List.length_set]) ?_)))
     obtain ⟨c4,n3,a4,hd⟩:=hd
     exact .ixa0 DS BT r r c4 (AH a4 c4) r r (.stOA (j:=0) (v':=c1) BT .z a4 r r r (.o r) r r (.rl .z [0,61,63,66,71] r (by simp only [List.length_set]) (.no [13,10,4,0] r (.region (.ks 3 r (.nil' fun c w ho hs=>⟨(((e.set p.toNat b9).set ((AJ (p+1)).toNat) c1),AJ (p+1)),hd,jf Y (by first | exact r | omega | (simp only [List.length_set] at * <;> omega)) [0] r ho hs⟩))))))
   exact .en [4,0] r (.ret (RV results312 .n g1 (.o [0] r) ⟨e,r,(by first | exact r | omega | (simp only [List.length_set] at * <;> omega)),r,hd⟩))
 refine .sn [4,3,2,1,0] r (.seq (.sr (.kn 4 [80,4,3,2,1,0] r (.condP r hd (fun g3 hd=>?_) fun g3 hd=>?_))))
 · refine .sk 2 r (.nk [14,4,2,0] 2 r (.no [15,14,4,2,0] r (.seq (.block (.lp hd [4,2,0] [0] r (fun j E l (q,s)=>j ((14,.int .i64 q) :: (15,.int .i64 s) :: E) l) (ji rf [0] r) ?_)))))
   rintro ⟨q,s⟩ k1 hd
   refine jq r fun i8 a5=>?_
   refine .seq (.sr (.kn 3 [85,15,14,4,2,0] r (.condP r hd (fun g4 hd=>?_) fun g4 hd=>?_)))
   · refine .sn [15,14,4,2,0] r (.block (.sk 3 r (.conv ZY eV r r r (.shr' r r (by decide) r r (.conv eV ZY r r r (.kn 1 [16,15,14,4,2,0] r (.seq (.ownF .z fun c5=>?_))))))))
     refine .dr [0,1,2,3,4,5,6,7,8,9,10,11] 12 (.fk 3 r ?_)
     obtain ⟨c6,i9,G,hd⟩:=hd
     obtain ⟨n4,j0⟩:=c5 (EN G)
     cases j0
     refine .h r (fun _=>.ixa0 DS BT r r c6 (AH G c6) r r .mk) (.h r (fun _=>.loA (j:=0) HP BT .z G r r (.o 4 r) r r r .mk) (.fk 2 r ?_))
     obtain ⟨c7,j1,a6,hd⟩:=hd
     refine .h r (fun _=>.ixa0 DS BT r r c7 (AH a6 c7) r r .mk) (.h r (fun _=>.loA (j:=0) HP BT .z a6 r r (.o 4 r) r r r .mk) (.ww r fun ex=>?_))
     have g5:=KW (I:=i8) (a0:=i9) (a1:=j1) hd
     refine .callS (.c call254 r r) .n g5 r r fun n5 n6 n7 g6 g7=>?_
     obtain ⟨n8,rfl,rfl,hd⟩:=g7
     have a7:=g6.u1 a5
     refine .rx 1 r (.so 1 r r r trivial (.fk 2 r (.e2 12 (.no [103,16,15,14,4,2,0] r (.condP r hd (fun g8 hd=>?_) fun g8 hd=>?_)))))
     · exact .region (.ks 3 r (.nil' (je (AJ ((AJ (shr .u64 (IntKind.wrap .u64 (AJ (q+s))) 1))+1),s) hd a7 [0] r)))
     exact .region (.ks 2 r (.nil' (je (q,AJ (shr .u64 (IntKind.wrap .u64 (AJ (q+s))) 1)) hd a7 [0] r)))
   refine .en [14,4,2,0] r (.seq (.sr (.kn 2 [17,14,4,0] r (.block (.lx hd [14,4] [] r (fun j E l (g,t)=>fun c w=>j ⟨220,[],none⟩ (fun I_=>g.length=o0.length) ((0,.slice p2 g.length c3) :: (17,.int .i64 t) :: E) (OwnSl CG 161 p2 c3 g :: l) c w) (fun c w ho hs=>jf rf (by first | exact r | omega | (simp only [List.length_set] at * <;> omega)) [0] r ho hs) ?_)))))
   rintro ⟨g,t⟩ k2 hd c w ⟨n9,a8,k3,hok,hsym⟩
   have g9:=a8.u1 a5
   refine Cod.at hok hsym (.seq (.sr (.kn 3 [110,17,14,4,0] r (.condP r hd (fun h0 hd=>?_) fun h0 hd=>?_))))
   · refine .sn [17,14,4,0] r (.seq (.block (.ownF .z fun c8=>?_)))
     refine .dr [0,1,2,3,4,5,6,7,8,9,10,11,12,13,14,15] 16 (.fk 8 r ?_)
     obtain ⟨c9,d0,H,hd⟩:=hd
     obtain ⟨o1,j2⟩:=c8 (EN H)
     cases j2
     refine .h r (fun _=>.ixa0 DS BT r r c9 (AH H c9) r r .mk) (.h r (fun _=>.loA (j:=0) HP BT .z H r r (.o 4 r) r r r .mk) (.fk 2 r ?_))
     obtain ⟨d1,d2,a9,hd⟩:=hd
     refine .h r (fun _=>.ixa0 DS BT r r d1 (AH a9 d1) r r .mk) (.h r (fun _=>.loA (j:=0) HP BT .z a9 r r (.o 4 r) r r r .mk) ?_)
     obtain ⟨d3,o2,b0,hd⟩:=hd
     refine .h r (fun _=>.ixa0 DS BT r r d3 (AH b0 d3) r r .mk) (.ww r fun ex=>?_)
     refine .stOA (j:=0) (v':=d0) BT .z b0 r r r (.o r) r r (.sn 1 r r r (.ck 3 r r trivial) (.e2 16 (.rl .z [0,113,115,118,123] r (by simp only [List.length_set]) ?_)))
     obtain ⟨d4,o3,b1,hd⟩:=hd
     exact .ixa0 DS BT r r d4 (AH b1 d4) r r (.stOA (j:=0) (v':=d2) BT .z b1 r r r (.o r) r r (.rl .z [0,113,115,118,123] r (by simp only [List.length_set]) (.no [17,14,4,0] r (.region (.ks 3 r (.nil' fun c w ho hs=>⟨(((g.set t.toNat d0).set ((AJ (t - 1)).toNat) d2),AJ (t - 1)),hd,jf a8 (by first | exact r | omega | (simp only [List.length_set] at * <;> omega)) [0] r ho hs⟩))))))
   exact .en [4,0] r (.ret (RV results312 .n g9 (.o [0] r) ⟨g,r,(by first | exact r | omega | (simp only [List.length_set] at * <;> omega)),r,hd⟩))
 refine .sn [4,3,2,1,0] r (.sk 3 r (.conv ZY eV r r r (.shr' r r (by decide) r r (.conv eV ZY r r r (.ks 1 r (.nk [18,4,3,2,1,0] 4 r (.nk [19,18,4,3,2,1,0] 2 r (.no [19,18,4,3,2,1,0] r (.seq ?_)))))))))
 refine .jn hd [19,18,4,3,2,1,0] [0] r (fun j E l (d5,d6)=>j ((20,.int .i64 d5) :: (21,.int .i64 d6) :: E) l) (fun o4 hd=>?_) ?_
 · skip
   refine .sr (.kn 3 [140,19,18,4,3,2,1,0] r (.condP r hd (fun h1 hd=>?_) fun h1 hd=>?_))
   · exact .sr (.kn 4 [20,19,18,4,3,2,1,0] r (.region (.ks 2 r (.nil' (je (AJ ((AJ ((AJ (shr .u64 (IntKind.wrap .u64 (AJ (a0+a2))) 1))+a1)) - a2),AJ (shr .u64 (IntKind.wrap .u64 (AJ (a0+a2))) 1)) hd rf [0] r)))))
   exact .sr (.kn 2 [20,19,18,4,3,2,1,0] r (.region (.ks 2 r (.nil' (je (a0,a1) hd rf [0] r)))))
 rintro ⟨d5,d6⟩ hd
 refine jq r fun o5 h2=>?_
 refine .sr (.kn 3 [22,21,20,19,18,4,3,2,1,0] r (.seq (.block (.lp hd [22,19,18,4,3,2,1,0] [0] r (fun j E l (b,u)=>j ((20,.int .i64 b) :: (21,.int .i64 u) :: E) l) (ji rf [0] r) ?_))))
 rintro ⟨b,u⟩ k4 hd
 refine jq r fun d7 i=>?_
 have J:=i.u1 h2
 refine .seq (.sr (.kn 3 [151,22,21,20,19,18,4,3,2,1,0] r (.condP r hd (fun h3 hd=>?_) fun h3 hd=>?_)))
 · refine .sn [22,21,20,19,18,4,3,2,1,0] r (.block (.sk 3 r (.conv ZY eV r r r (.shr' r r (by decide) r r (.conv eV ZY r r r (.kn 1 [23,22,21,20,19,18,4,3,2,1,0] r (.seq (.ownF .z fun d8=>?_))))))))
   refine .dr [0,1,2,3,4,5,6,7,8,9,10,11,12,13] 14 (.fk 5 r ?_)
   obtain ⟨d9,j3,K,hd⟩:=hd
   obtain ⟨o6,j4⟩:=d8 (EN K)
   cases j4
   refine .h r (fun _=>.ixa0 DS BT r r d9 (AH K d9) r r .mk) (.h r (fun _=>.loA (j:=0) HP BT .z K r r (.o 4 r) r r r .mk) (.fk 2 r ?_))
   obtain ⟨e0,j5,b2,hd⟩:=hd
   refine .h r (fun _=>.ixa0 DS BT r r e0 (AH b2 e0) r r .mk) (.h r (fun _=>.loA (j:=0) HP BT .z b2 r r (.o 4 r) r r r .mk) (.ww r fun ex=>?_))
   have h4:=KW (I:=d7) (a0:=j3) (a1:=j5) hd
   refine .callS (.c call254 r r) .n h4 r r fun o7 o8 o9 h5 h6=>?_
   obtain ⟨p0,rfl,rfl,hd⟩:=h6
   obtain ⟨l3,b3⟩:=h5.u2 J i
   refine .rx 1 r (.so 1 r r r trivial (.fk 2 r (.e2 14 (.no [171,23,22,21,20,19,18,4,3,2,1,0] r (.condP r hd (fun h7 hd=>?_) fun h7 hd=>?_)))))
   · exact .region (.ks 3 r (.nil' (je (AJ ((AJ (shr .u64 (IntKind.wrap .u64 (AJ (b+u))) 1))+1),u) hd b3 [0] r)))
   exact .region (.ks 2 r (.nil' (je (b,AJ (shr .u64 (IntKind.wrap .u64 (AJ (b+u))) 1)) hd b3 [0] r)))
 refine .en [20,19,18,4,3,2,1,0] r (.sr (.kn 4 [24,20,18,4,3,2,1,0] r (.seq (.jx hd [24,20,18,4,3,1] [] r (fun j E l a=>fun c w=>j ⟨220,[],none⟩ (fun I_=>a.length=o0.length) ((0,.slice p2 a.length c3) :: E) (OwnSl CG 161 p2 c3 a :: l) c w) (fun l4 hd=>?_) ?_))))
 · skip
   refine .sk 4 r ?_
   refine AL hd (fun x hd=>?_) fun x hd=>?_
   · rw [x]
     refine .kn 4 [185,24,20,18,4,3,2,1,0] r (.condP r hd (fun e1 hd=>?_) fun e1 hd=>?_)
     · refine .region (.ks 5 r ?_)
       have e3:=LP (I:=d7) (o0:=o0) (a0:=b) (a1:=a1) (a2:=(AJ ((AJ ((AJ (shr .u64 (IntKind.wrap .u64 (AJ (a0+a2))) 1))+a1)) - b))) (p2:=p2) (c3:=c3) hd
       refine .callS (.f call329 r) (.o [0] r) e3 r r fun l5 l6 l7 L e4=>?_
       obtain ⟨h8,rfl,S,rfl,hd⟩:=e4
       obtain ⟨k5,k6⟩:=L.u2 J i
       exact .rl .z [0,186] r (by rw [S]) (.nil' fun c w ho hs=>⟨h8,hd,jf L (by first | exact r | omega | (simp only [List.length_set] at * <;> omega)) [0] r ho hs⟩)
     exact .skip' fun c w ho hs=>⟨o0,hd,jf rf (by first | exact r | omega | (simp only [List.length_set] at * <;> omega)) [0] r ho hs⟩
   rw [x]
   exact .kn 4 [185,24,20,18,4,3,2,1,0] r (.condKF r r (.skip' fun c w ho hs=>⟨o0,hd,jf rf (by first | exact r | omega | (simp only [List.length_set] at * <;> omega)) [0] r ho hs⟩))
 rintro a hd c w ⟨h9,y,j6,hok,hsym⟩
 obtain ⟨N,O⟩:=y.u2 J i
 refine Cod.at hok hsym (.seq (.jx hd [24,18,4,3] [] r (fun j E l d=>fun c w=>j ⟨220,[],none⟩ (fun I_=>d.length=a.length) ((0,.slice p2 d.length c3) :: E) (OwnSl CG 161 p2 c3 d :: l) c w) (fun l8 hd=>?_) ?_))
 · skip
   refine .sk 4 r ?_
   refine AL hd (fun A hd=>?_) fun A hd=>?_
   · rw [A]
     refine .kn 4 [199,24,20,18,4,3,1,0] r (.condP r hd (fun e5 hd=>?_) fun e5 hd=>?_)
     · refine .region (.ks 5 r ?_)
       have e6:=ih (I:=h9) (o0:=a) (a0:=a0) (a1:=b) (a2:=(AJ (shr .u64 (IntKind.wrap .u64 (AJ (a0+a2))) 1))) (p2:=p2) (c3:=c3) hd
       refine .callS (.f call312 r) (.o [0] r) e6 r r fun l9 m0 m1 P e7=>?_
       obtain ⟨i0,rfl,T,rfl,hd⟩:=e7
       obtain ⟨k7,k8,k9⟩:=P.u3 N O y
       exact .rl .z [0,200] r (by rw [T]) (.nil' fun c w ho hs=>⟨i0,hd,jf P (by first | exact r | omega | (simp only [List.length_set] at * <;> omega)) [0] r ho hs⟩)
     exact .skip' fun c w ho hs=>⟨a,hd,jf rf (by first | exact r | omega | (simp only [List.length_set] at * <;> omega)) [0] r ho hs⟩
   rw [A]
   exact .kn 4 [199,24,20,18,4,3,1,0] r (.condKF r r (.skip' fun c w ho hs=>⟨a,hd,jf rf (by first | exact r | omega | (simp only [List.length_set] at * <;> omega)) [0] r ho hs⟩))
 rintro d hd c w ⟨i1,R,j7,hok,hsym⟩
 obtain ⟨B,e8,e9⟩:=R.u3 N O y
 refine Cod.at hok hsym (.sk 4 r ?_)
 refine AL hd (fun C hd=>?_) fun C hd=>?_
 · rw [C]
   refine .kn 4 [213,24,18,4,3,0] r (.condP r hd (fun f0 hd=>?_) fun f0 hd=>?_)
   · refine .region (.ks 5 r ?_)
     have f1:=ih (I:=i1) (o0:=d) (a0:=(AJ (shr .u64 (IntKind.wrap .u64 (AJ (a0+a2))) 1))) (a1:=(AJ ((AJ ((AJ (shr .u64 (IntKind.wrap .u64 (AJ (a0+a2))) 1))+a1)) - b))) (a2:=a2) (p2:=p2) (c3:=c3) hd
     refine .callS (.f call312 r) (.o [0] r) f1 r r fun m2 m3 m4 f2 f3=>?_
     obtain ⟨i2,rfl,U,rfl,hd⟩:=f3
     obtain ⟨f4,l0,l1,l2⟩:=f2.u4 B e8 e9 R
     exact .rl .z [0,214] r (by rw [U]) (.nil' (UO results312 .n f4 (.o [0] r) ⟨i2,r,(by first | exact r | omega | (simp only [List.length_set] at * <;> omega)),r,hd⟩))
   exact .skip' (UO results312 .n B (.o [0] r) ⟨d,r,(by first | exact r | omega | (simp only [List.length_set] at * <;> omega)),r,hd⟩)
 rw [C]
 exact .kn 4 [213,24,18,4,3,0] r (.condKF r r (.skip' (UO results312 .n B (.o [0] r) ⟨d,r,(by first | exact r | omega | (simp only [List.length_set] at * <;> omega)),r,hd⟩)))
theorem FN {o0:List AK} {a0 a1 a2:Int} {Q:(List AK)→Prop} (hd:CU o0 a0 a1 a2 Q) :
  Fun prog 312 #[.slice p2 o0.length c3,.int .i64 a0,.int .i64 a1,.int .i64 a2,.func (.func 254) #[] #[]] I [OwnSl CG 161 p2 c3 o0] (fun I_ v l=>∃ r,v=.tuple #[]∧r.length=o0.length∧l=[OwnSl CG 161 p2 c3 r]∧Q r):=by
 obtain ⟨k,hd⟩:=hd
 induction k generalizing I o0 a0 a1 a2 p2 c3 Q with | zero=>exact hd.elim | succ k ih=>exact JA (rc:=CN k) ih  hd
theorem LQ {o0:List AK} {a0:Int} {Q:(List AK)→Prop} (hd:EJ o0 a0 Q) :
  Fun prog 300 #[.slice p2 o0.length c3,.int .i64 a0,.func (.func 254) #[] #[]] I [OwnSl CG 161 p2 c3 o0] (fun I_ v l=>∃ r,v=.tuple #[]∧r.length=o0.length∧l=[OwnSl CG 161 p2 c3 r]∧Q r):=by
 refine Fun.en func300 ntmps300 r fun w0 M=>?_
 refine .sk 1 r (.nk [6,2,1,0] 3 r (.no [8,7,6,2,1,0] r (.seq (.block (.lx hd [6,2,1] [] r (fun j E l (h,p,m)=>fun c w=>j ⟨63,[],none⟩ (fun I_=>h.length=o0.length) ((0,.slice p2 h.length c3) :: (7,.int .i64 p) :: (8,.int .i64 m) :: E) (OwnSl CG 161 p2 c3 h :: l) c w) (fun c w ho hs=>jf rf (by first | exact r | omega | (simp only [List.length_set] at * <;> omega)) [0] r ho hs) ?_)))))
 rintro ⟨h,p,m⟩ b4 hd c w ⟨a4,q,a9,hok,hsym⟩
 refine Cod.at hok hsym (.seq (.sr (.kn 3 [13,8,7,6,2,1,0] r (.condP r hd (fun D hd=>?_) fun D hd=>?_))))
 · refine .sn [8,7,6,2,1,0] r (.block (.sk 4 r ?_))
   have F:=EU (I:=a4) (o0:=h) (a0:=p) (a1:=m) (p2:=p2) (c3:=c3) hd
   refine .callS (.f call225 r) (.o [0] r) F r r fun b9 c0 c1 G H=>?_
   obtain ⟨a5,rfl,x,rfl,hd⟩:=H
   have J:=G.u1 q
   exact .rl .z [0,14] r (by rw [x]) (.nk [8,6,2,1,0] 2 r (.no [7,8,6,2,1,0] r (.region (.ks 4 r (.nil' fun c w ho hs=>⟨(a5,m,AJ (m+20)),hd,jf J (by first | exact r | omega | (simp only [List.length_set] at * <;> omega)) [0] r ho hs⟩)))))
 refine .en [7,6,2,1,0] r (.sk 4 r ?_)
 have K:=EU (I:=a4) (o0:=h) (a0:=p) (a1:=a0) (p2:=p2) (c3:=c3) hd
 refine .callS (.f call225 r) (.o [0] r) K r r fun c2 c4 c5 L N=>?_
 obtain ⟨a6,rfl,y,rfl,hd⟩:=N
 have O:=L.u1 q
 refine .rl .z [0,23] r (by rw [y]) (.no [6,2,1,0] r (.block (.lx hd [2,1] [] r (fun j E l (d,a)=>fun c w=>j ⟨63,[],none⟩ (fun I_=>d.length=a6.length) ((0,.slice p2 d.length c3) :: (6,.int .i64 a) :: E) (OwnSl CG 161 p2 c3 d :: l) c w) (fun c w ho hs=>jf rf (by first | exact r | omega | (simp only [List.length_set] at * <;> omega)) [0] r ho hs) ?_)))
 rintro ⟨d,a⟩ b0 hd c w ⟨c6,s,b1,hok,hsym⟩
 have t:=s.u1 O
 refine Cod.at hok hsym (.seq (.sr (.kn 3 [30,6,2,1,0] r (.condP r hd (fun P hd=>?_) fun P hd=>?_))))
 · refine .sn [6,2,1,0] r (.block (.sr (.kn 4 [8,7,6,2,1,0] r (.seq (.block (.lx hd [6,2,1] [] r (fun j E l (b,e,g)=>fun c w=>j ⟨63,[],none⟩ (fun I_=>b.length=d.length) ((0,.slice p2 b.length c3) :: (7,.int .i64 e) :: (8,.int .i64 g) :: E) (OwnSl CG 161 p2 c3 b :: l) c w) (fun c w ho hs=>jf rf (by first | exact r | omega | (simp only [List.length_set] at * <;> omega)) [0] r ho hs) ?_))))))
   rintro ⟨b,e,g⟩ b2 hd c w ⟨C,i,b3,hok,hsym⟩
   obtain ⟨u,k⟩:=i.u2 t s
   refine Cod.at hok hsym (.seq (.sr (.kn 3 [35,8,7,6,2,1,0] r (.condP r hd (fun R hd=>?_) fun R hd=>?_))))
   · refine .sn [8,7,6,2,1,0] r (.block (.sk 7 r ?_))
     have S:=FN (I:=C) (o0:=b) (a0:=e) (a1:=(AJ (e+a))) (a2:=g) (p2:=p2) (c3:=c3) hd
     refine .callS (.f call312 r) (.o [0] r) S r r fun c7 c8 c9 T U=>?_
     obtain ⟨a7,rfl,A,rfl,hd⟩:=U
     obtain ⟨b5,b6,V⟩:=T.u3 u k i
     exact .rl .z [0,36] r (by rw [A]) (.nk [8,6,2,1,0] 2 r (.no [7,8,6,2,1,0] r (.region (.ks 5 r (.nil' fun c w ho hs=>⟨(a7,g,AJ (g+(AJ (2*a)))),hd,jf V (by first | exact r | omega | (simp only [List.length_set] at * <;> omega)) [0] r ho hs⟩)))))
   refine .en [7,6,2,1,0] r (.seq (.sk 4 r (.nk [9,7,6,2,1,0] 3 r (.no [54,9,7,6,2,1,0] r (.condP r hd (fun W hd=>?_) fun W hd=>?_)))))
   · refine .region (.ks 5 r ?_)
     have X:=FN (I:=C) (o0:=b) (a0:=e) (a1:=(AJ (e+a))) (a2:=a0) (p2:=p2) (c3:=c3) hd
     refine .callS (.f call312 r) (.o [0] r) X r r fun d0 d1 d2 Y Z=>?_
     obtain ⟨a8,rfl,B,rfl,hd⟩:=Z
     obtain ⟨b7,a3,b8⟩:=Y.u3 u k i
     exact .rl .z [0,55] r (by rw [B]) (.no [6,2,1,0] r (.region (.ks 3 r (.nil' fun c w ho hs=>⟨(a8,AJ (a*2)),hd,jf a3 (by first | exact r | omega | (simp only [List.length_set] at * <;> omega)) [0] r ho hs⟩))))
   exact .sn [6,2,1,0] r (.region (.ks 3 r (.nil' fun c w ho hs=>⟨(b,AJ (a*2)),hd,jf k (by first | exact r | omega | (simp only [List.length_set] at * <;> omega)) [0] r ho hs⟩)))
 exact .exit (UO results300 .n t (.o [0] r) ⟨d,r,(by first | exact r | omega | (simp only [List.length_set] at * <;> omega)),r,hd⟩)
theorem HR {o0:List AK} {Q:(List AK)→Prop} (hd:CE o0 Q) :
  Fun prog 271 #[.slice p2 o0.length c3,.func (.func 254) #[] #[]] I [OwnSl CG 161 p2 c3 o0] (fun I_ v l=>∃ r,v=.tuple #[]∧r.length=o0.length∧l=[OwnSl CG 161 p2 c3 r]∧Q r):=by
 refine Fun.en func271 ntmps271 r fun w0 M=>?_
 refine .region (.ks 2 r (.ln DS r (.ks 1 r ?_)))
 have b:=LQ (I:=I) (o0:=o0) (a0:=(o0.length:Int)) (p2:=p2) (c3:=c3) hd
 refine .callS (.f call300 r) (.o [0] r) b r r fun g h i c d=>?_
 obtain ⟨e,rfl,a,rfl,hd⟩:=d
 exact .rl .z [0,4,5] r (by rw [a]) (.nil' (UO results271 .n c (.o [0] r) ⟨e,r,(by first | exact r | omega | (simp only [List.length_set] at * <;> omega)),r,hd⟩))
theorem oJ {a0:Int} {a1:List (List AK)} {Q:((List AK)×Int)→Prop} (R3:RepSl (TB CG) I p1 c2 a1) (hd:OM a0 a1 Q) :
  BZ prog 222 [.int .i64 a0,.slice p1 a1.length c2] I (AfA Q):=by
 refine Fun.en func222 ntmps222 r fun w0 M=>?_
 refine .sr (.kn 2 [1,0] r (.seq (.sk 1 r ?_)))
 have W:=RP (I:=I) hd
 refine .cq call100 W r fun e0 hd=>?_
 refine .kn 1 [13,1,0] r (.condP r hd (fun X hd=>?_) fun X hd=>?_)
 · exact .sr (.kn 2 [5,4] r (.ret (BO results222 (.t r (.t r .n)) rf ⟨(([]:List AK),8),_,_,r,(.nil _ _ _),hd⟩)))
 refine .sn [1,0] r (.seq (.sk 1 r ?_))
 have Y:=ID (I:=I) (a0:=a1) R3 hd
 refine .callS (.f call268 r) .n Y r r fun e1 b9 e3 p Z=>?_
 obtain ⟨e4,rfl,rfl,hd⟩:=Z
 have R3:=p.u1 R3
 refine .rn 0 r (.no [15,1,0] r (.condP r hd (fun a2 hd=>?_) fun a2 hd=>?_))
 · exact .sr (.kn 2 [5,4] r (.ret (BO results222 (.t r (.t r .n)) p ⟨(([]:List AK),6),_,_,r,(.nil _ _ _),hd⟩)))
 refine .sn [1,0] r (.sk 1 r ?_)
 have a3:=NB (I:=b9) R3 hd
 refine .callO call270 r a3 r r fun e5 c0 e6 a4 a5=>?_
 obtain ⟨c1,c4,c5,rfl,rfl,hd⟩:=a5
 obtain ⟨a6,R3⟩:=a4.u2 p R3
 refine .ks 1 r (.nk [6,0] 1 r ?_)
 have a7:=HR (I:=c0) (o0:=c1) (p2:=c4) (c3:=c5) hd
 refine .callS (.f call271 r) (.o [0] r) a7 r r fun e7 e8 e9 a8 a9=>?_
 obtain ⟨f0,rfl,y,rfl,hd⟩:=a9
 have b0:=a8.u1 a6
 refine .rl .z [6,18] r (by rw [y]) (.nk [6,0] 1 r (.no [7,6,0] r (.seq (.sk 1 r (.ln DS r (.kn 1 [22,21,20,7,0] r (.block (.own0 CG 161 (.lx hd [21,20,0] [1] r (fun j E l (b,d)=>fun c w=>∃ q s,j ⟨61,[],none⟩ (fun I_=>True) ((7,.slice q b.length s) :: (22,.int .i64 d) :: E) (OwnSl CG 161 q s b :: l) c w) (fun c w ho hs=>⟨_,_,jf rf trivial [0,0] r ho hs⟩) ?_)))))))))
 rintro ⟨b,d⟩ b8 hd c w ⟨q,s,b1,e,_,hok,hsym⟩
 have u:=e.u1 b0
 refine Cod.at hok hsym (.sr (.kn 1 [23,22,21,20,7,0] r (.seq (.condP r hd (fun L hd=>?_) fun L hd=>?_))))
 · refine .sn [22,21,20,7,0] r (.seq (.block (.sr ?_)))
   obtain ⟨A,B,g,hd⟩:=hd
   refine .ownNe .p1 (EN g) fun c8 b2=>?_
   cases b2
   refine .ixa0 DS BT r r A (AH g A) r r (.loA (j:=0) HP BT .p1 g r r (.o 4 r) r r r (.al ZI r fun c9=>?_))
   refine .sa BT .z r (.no [9,22,21,20,7,0] r (.seq (.sk 1 r (.ln DS r (.kn 1 [10,9,22,21,20,7,0] r (.seq (.jn hd [22,21,20,10,9,7,0] [1,0,0] r (fun j E l C=>j ((39,.bool C) :: E) l) (fun d0 hd=>?_) ?_)))))))
   · skip
     refine .ownF .p1 fun D=>?_
     refine .dr [0,1,2,3,4,5,6,7,8,9,10,11] 12 (.fk 3 r ?_)
     refine AL hd (fun a hd=>?_) fun a hd=>?_
     · refine .h r (fun _=>.gyes r r a (.move r r r .mk)) (.h r (fun _=>.gyes r r a (.move r r r .mk)) (.h r (fun _=>.gyes r r a (.sub' r r r r .mk)) ?_))
       obtain ⟨F,d1,i,hd⟩:=hd
       obtain ⟨d2,b3⟩:=D (EN i)
       cases b3
       refine .h r (fun _=>.gyes r r a (.ixa0 DS BT r r F (AH i F) r r .mk)) (.h r (fun _=>.gyes r r a (.loA (j:=0) HP BT .p1 i r r (.o 4 r) r r r .mk)) (.h r (fun _=>.gyes r r a (.lw HP BT .z r .mk)) (.ww r fun ex=>?_)))
       have N:=cV (I:=b1) hd
       refine .gyes r r a (.callP call254 r N r r fun d3 O=>?_)
       obtain ⟨b4,rfl,hd⟩:=O
       exact .so 3 r r r trivial (.h r (fun _=>.gyes r r a (.eq r r r r .mk)) (.h r (fun _=>.pickT r a r r r .mk) (.e2 12 (.nil' (je (b4==0) hd rf [1,0,0] r)))))
     refine .h r (fun _=>.gno r r a r r .mk) (.h r (fun _=>.gno r r a r r .mk) (.h r (fun _=>.gno r r a r r .mk) (.h r (fun _=>.gno r r a r r .mk) (.h r (fun _=>.gno r r a r r .mk) (.h r (fun _=>.gno r r a r r .mk) (.h r (fun _=>.gno r r a r r .mk) (.h r (fun _=>.gno r r a r r .mk) (.h r (fun _=>.pickF r a r r r .mk) (.e2 12 ?_)))))))))
     exact .nil' (je false hd rf [1,0,0] r)
   refine fun C hd=>jq r fun b5 P=>?_
   obtain ⟨c6,v⟩:=P.u2 u e
   refine .condP r hd (fun R hd=>?_) fun R hd=>?_
   · refine .seq (.ownF .z fun G=>?_)
     refine .dr [0,1,2,3,4,5,6,7,8,9,10,11,12,13,14,15] 16 (.fk 7 r ?_)
     obtain ⟨H,d4,k,hd⟩:=hd
     obtain ⟨d5,b6⟩:=G (EN k)
     cases b6
     refine .h r (fun _=>.ixa0 DS BT r r H (AH k H) r r .mk) (.fk 1 r (.h r (fun _=>.loA (j:=2) BG AM .z k r r (.o 2 r) r r r .mk) (.fk 1 r (.h r (fun _=>.loadA BG AM r .p1 (.o 2 r) r r r .mk) (.ww r fun ex=>?_)))))
     have S:=aP (I:=b5) hd
     refine .cq call184 S r fun J hd=>?_
     refine .so 3 r r r (.ck 3 r r trivial) ?_
     obtain ⟨K,m,x,hd⟩:=hd
     refine .h r (fun _=>.ixa0 DS BT r r K (AH x K) r r .mk) (.fk 1 r (.ww r fun ex=>?_))
     exact .stOA (j:=2) (v':=({ Row:=m.Row,Col:=m.Col,Val:=J }:AK)) AM .z x r r r (.o r) r r (.sn 3 r r r trivial (.e2 16 (.rl .z [7,40,44] r (by simp only [List.length_set]) (.no [22,21,20,7,0] r (.drop .p1 (.en [22,21,20,7,0] r (.region (.ks 2 r (.nil' fun c w ho hs=>⟨((b.set ((AJ ((b.length:Int) - 1)).toNat) ({ Row:=m.Row,Col:=m.Col,Val:=J }:AK)),AJ (d+1)),hd,_,_,jf v trivial [0,0] r ho hs⟩)))))))))
   refine .sn [22,21,20,9,7,0] r (.region (.ks 1 r (.lw HP BT .p1 r (.buildSlice 1 DS BT ZI r r (.c r r r .n) r r fun d6=>?_))))
   obtain ⟨T,hd⟩:=hd
   refine .append (ys:=[B]) 32 .p1 DS DS kR r r r r r r r r r (.box .z (.one r) r) T r r fun d7 d8=>?_
   exact .kn 1 [7,22,21,20,0] r (.drop .p1 (.drop .p1 (.region (.ks 2 r (.nil' fun c w ho hs=>⟨((b++([B])),AJ (d+1)),hd,_,_,jf v trivial [0,0] r ho hs⟩)))))
 refine .en [7] r (.drop .p1 (.sr (.kn 3 [5,4] r (.pub .z fun d9 U b7=>?_))))
 obtain ⟨V,c7⟩:=U.u2 u e
 exact .ret (BO results222 (.t r (.t r .n)) V ⟨(b,0),_,_,r,b7,hd⟩)
theorem Y9 {a0:List Int} {Q:Int→Prop} (R3:RepSl AE I p1 c2 a0) (hd:IM a0 Q) :
  BZ prog 201 [.slice p1 a0.length c2] I (fun _=>hZ Q):=by
 refine Fun.en func201 ntmps201 r fun w0 M=>?_
 refine .sr (.kn 1 [0] r (.seq (.sk 1 r (.ln BX r (.kn 1 [7,0] r (.condP r hd (fun p hd=>?_) fun p hd=>?_))))))
 · refine .region ?_
   exact hd.elim
 refine .sn [0] r (.sk 1 r ?_)
 obtain ⟨f,w,c,hd⟩:=hd
 obtain ⟨x,o19,u,q,i,k⟩:=R3.2 _ _ c
 cases k
 refine .ixa BX FI r q r f (AH c f) r r (.ld1 (j:=0) BL i r r r r r (.kn 1 [3,0] r (.seq (.sr (.kn 1 [4,3,0] r (.block (.lp hd [0] [] r (fun j E l (a,d)=>j ((3,.int .i64 a) :: (4,.int .i64 d) :: E) l) (ji rf [] r) ?_)))))))
 rintro ⟨a,d⟩ s hd
 refine jq r fun y b=>?_
 have R3:=b.u1 R3
 refine .seq (.sk 2 r (.ln BX r (.kn 1 [15,4,3,0] r (.condP r hd (fun m hd=>?_) fun m hd=>?_))))
 · refine .sn [4,3,0] r (.seq (.block (.region (.ks 3 r ?_))))
   obtain ⟨g,h,e,hd⟩:=hd
   obtain ⟨z,o63,v,t,n,o⟩:=R3.2 _ _ e
   cases o
   exact .ixa BX FI r t r g (AH e g) r r (.ld1 (j:=0) BL n r r r r r (.minI r r r r (.kn 1 [3,4,0] r (.region (.ks 3 r (.nil' (je ((if h<a then h else a),AJ (d+1)) hd b [] r)))))))
 exact .en [3] r (.sr (.kn 2 [2] r (.r1 results201 r b ⟨a,r,hd⟩)))
theorem VK {a0 a1:AK} {Q:Int→Prop} (hd:GJ a0 a1 Q) :
  BZ prog 112 [.agg (PC a0).toArray,.agg (PC a1).toArray] I (fun _=>hZ Q):=by
 refine Fun.en func112 ntmps112 r fun w0 M=>?_
 refine .sr (.bx r fun o=>?_)
 refine .bx r fun p=>?_
 refine .kn 1 [3,2] r (.seq (.dr [0,1,2,3,5,6,7,8,4,9,10,11] 12 (.fk 1 r (.h r (fun _=>.lo BL .p1 r .mk) (.fk 1 r (.h r (fun _=>.lo BL .z r .mk) (.fk 1 r (.h r (fun _=>.lo BL .p1 r .mk) (.fk 1 r ?_)))))))))
 refine .h r (fun _=>.lo BL .z r .mk) (.ww r fun ex=>?_)
 have b:=DU (I:=I) hd
 refine .cq call114 b r fun g hd=>?_
 refine .so 2 r r r (.ch r (fun _=>.lo BL .z r .mk) (.ck 1 r r (.ch r (fun _=>.lo BL .p1 r .mk) (.ck 1 r r trivial)))) (.ww r fun ex=>?_)
 have d:=DU (I:=I) hd
 refine .cq call114 d r fun a hd=>?_
 refine .so 2 r r r trivial (.ww r fun ex=>?_)
 refine .buildSlice 2 BX FI rW r r (.c r r r (.c r r r .n)) r r fun m=>?_
 refine .so 3 r r r trivial (.ww r fun ex=>?_)
 refine .pubB (El:=AE) (ys:=([g,a]:List Int)) (k:=2) .z (RepCs.cons (cs:=[.int .i64 g]) r (RepCs.cons (cs:=[.int .i64 a]) r .nil)) r fun i e j=>?_
 have f:=NR (I:=i) j hd
 refine .cq call113 f r fun l hd=>?_
 exact .so 2 r r r trivial (.e2 12 (.kn 1 [4] r (.drop .z (.drop .z (.r1 results112 r e ⟨l,r,hd⟩)))))
theorem rO {a0:Int} {Q:Int→Prop} (hd:UZ a0 Q) :
  BZ prog 182 [.int .i64 a0] I (fun _=>hZ Q):=by
 refine Fun.en func182 ntmps182 r fun w0 M=>?_
 refine .sr (.kn 1 [0] r (.seq (.sr (.kn 1 [3] r (.block (.seq (.sr (.kn 2 [4,3] r (.condP r hd (fun a hd=>?_) fun a hd=>?_)))))))))
 · exact .sn [4] r (.condKT r a (.sr (.kn 1 [2] r (.r0 results182 r ⟨4611686018427387904,r,hd⟩))))
 refine .sr (.kn 2 [4,3] r (.condP r hd (fun b hd=>?_) fun b hd=>?_))
 · exact .sn [4] r (.condKT r b (.sr (.kn 1 [2] r (.r0 results182 r ⟨4611686018427387904,r,hd⟩))))
 refine .region (.kn 2 [4] r (.condP r hd (fun c hd=>?_) fun c hd=>?_))
 · exact .sr (.kn 1 [2] r (.r0 results182 r ⟨4611686018427387904,r,hd⟩))
 exact .sn [] r (.sr (.kn 1 [2] r (.r0 results182 r ⟨0,r,hd⟩)))
theorem PI {a0 a1:Int} {Q:Bool→Prop} (hd:KH a0 a1 Q) :
  BZ prog 204 [.int .i64 a0,.int .i64 a1] I (fun _=>gE Q):=by
 refine Fun.en func204 ntmps204 r fun w0 M=>?_
 refine .sk 1 r (.nk [1,0] 3 r ?_)
 refine AL hd (fun a hd=>?_) fun a hd=>?_
 · rw [a]
   exact .kn 5 [4] r (.r0 results204 r ⟨(decide (a0≤a1)),r,hd⟩)
 rw [a]
 exact .kn 5 [4] r (.r0 results204 r ⟨false,r,hd⟩)
end Go.Proofs.YtbohadngdkjljaaGreat
