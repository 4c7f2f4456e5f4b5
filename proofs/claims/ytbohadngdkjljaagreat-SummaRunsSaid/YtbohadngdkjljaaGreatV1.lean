/- The walks. -/
import Derived.Test.YtbohadngdkjljaaGreatSL
namespace Go.Proofs.YtbohadngdkjljaaGreat
open Go Go.Fw
set_option linter.unusedVariables false
set_option linter.unusedSimpArgs false
set_option maxRecDepth 8000
set_option maxHeartbeats 1000000
open Tryz
variable {I:IH}
variable {b2 b3 b4 b5 b6 b7 b8 b9 c2 c3 c4 c5 c6 c8 c9 lr b10 b11 b12 b13 b15 b18 b19 b20 b21 b22 b24 c11 c15 c17 c18 c19 c20 c22 c25 c28 c31 c34:Nat}
variable {p1 p2 p3 p4 p5 p7 p8 p10 p14 p16 p17 p18 p19 p21 p24 p27 p30 p33:Option Addr}
variable {Rr:Nat→HA}
variable {ga1 ga3 ga5 ga12 ga14 ga16:kU}
variable {gc1 gc3 gc8:xK}
variable {ge1 ge2 ge7 ge11:aTe}
variable {gf3 gf4 gf5 gf6 gf8:aTf}
variable {gh5:aTh}
variable {gi1:aTi}
variable {gj1:aTj}
variable {gl4 gl5 gl13:aTl}
variable {gm5:aTm}
theorem NR {a0:Int} {Q:Bool→Prop} (hd:MD a0 Q) :
  BH prog 102 [.int .i64 a0] I (fun _=>XX Q):=by
 refine Fun.en func102 ntmps102 r fun w0 M=>.sk 1 r (.nk 1 3 r (.spl hd [4,5] r (fun a hd=>?_) fun a hd=>?_))
 · exact .kn 4 4 r (.r0 results102 r ⟨(decide (a0≤5)),r,hd⟩)
 exact .kn 4 4 r (.r0 results102 r ⟨false,r,hd⟩)
theorem M5 {a0 a1:AL} {Q:AL→Prop} (hd:K6 a0 a1 Q) :
  BH prog 170 [.agg (E8 a0).toArray,.agg (E8 a1).toArray] I (fun _=>qH Q):=by
 refine Fun.en func170 ntmps170 r fun w0 M=>.sr (.bx r fun c=>.bx r fun d=>.al CR r fun b=>.nk 28 1 r (.lo DZ .p2 r (.ks 1 r (.lo DZ .p1 r (.ks 2 r (.nk 60 1 r (.lo U5 .p2 r (.ks 1 r (.lo U5 .p1 r (.kn 2 116 r ?_))))))))))
 refine .drop .p1 (.seq (.sk 2 r (.lo DZ .p1 r (.kn 1 1048688 r (.drop .p1 (.condP r hd (fun a hd=>?_) fun a hd=>?_))))))
 · exact .region (.ks 3 r (.nk 112 2 r (.bd CR KH KG r (.sa AG .z r (.no 16 r (.ret (B9 r (.w B7 AG r .z r .n) rf ⟨({ Hi:=A7 ((A7 (a0.Hi+a1.Hi))+1),Lo:=IntKind.wrap .u64 (a0.Lo+a1.Lo) }:AL),r,hd⟩)))))))
 exact .sn 112 r (.sk 2 r (.bd CR KH KG r (.sa AG .z r (.no 16 r (.ret (B9 r (.w B7 AG r .z r .n) rf ⟨({ Hi:=A7 (a0.Hi+a1.Hi),Lo:=IntKind.wrap .u64 (a0.Lo+a1.Lo) }:AL),r,hd⟩))))))
theorem US {a0 a1:AL} {Q:Int→Prop} (hd:GU a0 a1 Q) :
  BH prog 172 [.agg (E8 a0).toArray,.agg (E8 a1).toArray] I (fun _=>bI Q):=by
 refine Fun.en func172 ntmps172 r fun w0 M=>.sr (.bx r fun h=>.bx r fun i=>.kn 1 12 r (.seq (.jn hd [3,2] [1,0] r (fun j E l _=>j E l) (fun f hd=>?_) ?_)))
 · refine .sk 1 r (.lo U5 .p1 r (.ks 1 r (.lo U5 .z r (.ks 2 r (.spl hd [9,10] r (fun b hd=>?_) fun b hd=>?_)))))
   · exact .kn 13 8388620 r (.condKT r r (.sr (.kn 1 16 r (.drop .z (.drop .z (.r0 results172 r ⟨(-1),r,hd⟩))))))
   refine .ks 1 r (.yes r (.lo U5 .p1 r (.ks 1 r (.yes r (.lo U5 .z r (.ks 2 r (.spl hd [15,16] r (fun c hd=>?_) fun c hd=>?_)))))))
   · refine .ks 1 r (.yes r (.lo DZ .p1 r (.ks 1 r (.yes r (.lo DZ .z r (.kn 3 8388620 r (.condP r hd (fun d hd=>?_) fun d hd=>?_)))))))
     · exact .sr (.kn 1 16 r (.drop .z (.drop .z (.r0 results172 r ⟨(-1),r,hd⟩))))
     exact .skip' (je () hd rf [1,0] r)
   exact .kn 7 8388620 r (.condKF r r (.skip' (je () hd rf [1,0] r)))
 refine fun _ hd=>jq r fun g a=>.seq (.sr (.lw B7 AG .z r (.lw B7 AG .p1 r (.eqV r r (jH a0 a1) (jI _ _ _ _ _) r r r (.no 67108864 r (.drop .z (.drop .z (.condP r hd (fun e hd=>?_) fun e hd=>?_))))))))
 · exact .sr (.kn 1 16 r (.r1 results172 r a ⟨0,r,hd⟩))
 exact .sn 0 r (.sr (.kn 1 16 r (.r1 results172 r a ⟨1,r,hd⟩)))
theorem O2 {a0:Bool} {Q:AL→Prop} (hd:JL a0 Q) :
  BH prog 173 [.bool a0] I (fun _=>qH Q):=by
 refine Fun.en func173 ntmps173 r fun w0 M=>.sr (.al CR r fun b=>.no 5 r (.seq (.sr (.kn 1 12 r (.condP r hd (fun a hd=>?_) fun a hd=>?_)))))
 · exact .sr (.bd CR KH KG r (.sa AG .z r (.no 4 r (.ret (B9 r (.w B7 AG r .z r .n) rf ⟨({ Hi:=0,Lo:=1 }:AL),r,hd⟩)))))
 exact .sn 4 r (.sr (.bd CR KH KG r (.sa AG .z r (.no 4 r (.ret (B9 r (.w B7 AG r .z r .n) rf ⟨DS,r,hd⟩))))))
theorem W0 {a0:Int} {a1 a2:AL} {Q:AL→Prop} (hd:PP a0 a1 a2 Q) :
  BH prog 107 [.int .i64 a0,.agg (E8 a1).toArray,.agg (E8 a2).toArray] I (fun _=>qH Q):=by
 refine Fun.en func107 ntmps107 r fun w0 M=>.sr (.bx r fun A=>.bx r fun B=>.al CR r fun v=>.nk 113 1 r (.no 240 r (.block (.seq (.jn hd [7,6,5,4] [2,1,0] r (fun j E l c=>j ((9,.bool c) :: E) l) (fun x hd=>?_) ?_)))))
 · refine .sr (.kn 2 752 r (.condP r hd (fun d hd=>?_) fun d hd=>?_))
   · exact .skip' (je (a0==1) hd rf [2,1,0] r)
   refine .sr (.kn 2 752 r (.condP r hd (fun e hd=>?_) fun e hd=>?_))
   · exact .skip' (je (a0==3) hd rf [2,1,0] r)
   exact .region (.ks 2 r (.nil' (je (a0==4) hd rf [2,1,0] r)))
 refine fun c hd=>jq r fun b a=>.condP r hd (fun f hd=>?_) fun f hd=>?_
 · refine .seq (.sr (.lw B7 AG .p1 r (.lw B7 AG .z r ?_)))
   have g:=US (I:=b) hd
   refine .cq call172 g r fun y hd=>.kn 1 65648 r (.condP r hd (fun h hd=>?_) fun h hd=>?_)
   · exact .sr (.lw B7 AG .p1 r (.sa AG .p2 r (.no 64 r (.drop .z (.drop .z (.ret (B9 r (.w B7 AG r .z r .n) a ⟨a2,r,hd⟩)))))))
   exact .sn 80 r (.drop .p1 (.sr (.lw B7 AG .z r (.sa AG .p1 r (.no 64 r (.drop .z (.ret (B9 r (.w B7 AG r .z r .n) a ⟨a1,r,hd⟩))))))))
 refine .sr (.kn 2 524528 r (.condP r hd (fun i hd=>?_) fun i hd=>?_))
 · refine .sr (.lw B7 AG .z r (.bd CR KH KG r (.neV r r (jH a1 DS) (jI _ _ _ _ _) r r r (.ks 1 r (.spl hd [23,24] r (fun k hd=>?_) fun k hd=>?_)))))
   · refine .ks 4 r ?_
     have m:=O2 (I:=b) hd
     exact .cq call173 m r fun s hd=>.sa AG .p2 r (.no 64 r (.drop .z (.drop .z (.ret (B9 r (.w B7 AG r .z r .n) a ⟨s,r,hd⟩)))))
   refine .yes r (.lw B7 AG .p1 r (.yes r (.bd CR KH KG r (.yes r (.neV r r (jH a2 DS) (jI _ _ _ _ _) r r r (.ks 1 r ?_))))))
   have o:=O2 (I:=b) hd
   exact .cq call173 o r fun t hd=>.sa AG .p2 r (.no 64 r (.drop .z (.drop .z (.ret (B9 r (.w B7 AG r .z r .n) a ⟨t,r,hd⟩)))))
 refine .sr (.kn 2 1073741936 r (.condP r hd (fun p hd=>?_) fun p hd=>?_))
 · refine .sr (.lw B7 AG .z r (.lw B7 AG .p1 r ?_))
   have q:=M5 (I:=b) hd
   exact .cq call170 q r fun u hd=>.sa AG .p2 r (.no 64 r (.drop .z (.drop .z (.ret (B9 r (.w B7 AG r .z r .n) a ⟨u,r,hd⟩)))))
 exact .sr (.bd CR KH KG r (.sa AG .p2 r (.no 64 r (.drop .z (.drop .z (.ret (B9 r (.w B7 AG r .z r .n) a ⟨DS,r,hd⟩)))))))
theorem FX {a0:Int} {Q:AL→Prop} (hd:GC a0 Q) :
  BH prog 171 [.int .i64 a0] I (fun _=>qH Q):=by
 refine Fun.en func171 ntmps171 r fun w0 M=>.sr (.al CR r fun b=>.no 5 r (.seq (.sr (.kn 2 21 r (.condP r hd (fun a hd=>?_) fun a hd=>?_)))))
 · exact .sk 1 r (.conv jJ M4 r r r (.bd CR KH KG r (.sa AG .z r (.no 4 r (.ret (B9 r (.w B7 AG r .z r .n) rf ⟨({ Hi:=(-1),Lo:=IntKind.wrap .u64 (a0) }:AL),r,hd⟩))))))
 exact .sn 5 r (.sk 1 r (.conv jJ M4 r r r (.bd CR KH KG r (.sa AG .z r (.no 4 r (.ret (B9 r (.w B7 AG r .z r .n) rf ⟨({ Hi:=0,Lo:=IntKind.wrap .u64 (a0) }:AL),r,hd⟩)))))))
theorem W2 {a0:AL} {Q:(Int×Bool)→Prop} (hd:ME a0 Q) :
  BH prog 180 [.agg (E8 a0).toArray] I (fun _=>o3_ Q):=by
 refine Fun.en func180 ntmps180 r fun w0 M=>.sr (.bx r fun g=>.ks 2 r (.nk 2 1 r (.lo DZ .z r (.conv M4 jJ r r r (.kn 1 18 r (.seq (.sk 1 r (.lo U5 .z r (.ks 2 r (.spl hd [10,11] r (fun b hd=>?_) fun b hd=>?_))))))))))
 · refine .ks 4 r (.spl hd [13,14,15] r (fun c hd=>?_) fun c hd=>?_)
   · exact .kn 8 8388624 r (.drop .z (.condKT r r (.sr (.kn 3 12 r (.ret (B9 r (.t r (.t r .n)) rf ⟨(A7 (a0.Lo),true),r,hd⟩))))))
   refine .ks 1 r (.yes r (.lo U5 .z r (.ks 2 r (.spl hd [18,19] r (fun d hd=>?_) fun d hd=>?_))))
   · refine .kn 4 8388624 r (.drop .z (.condP r hd (fun e hd=>?_) fun e hd=>?_))
     · exact .sr (.kn 3 12 r (.ret (B9 r (.t r (.t r .n)) rf ⟨(A7 (a0.Lo),true),r,hd⟩)))
     exact .sn 0 r (.sr (.kn 2 12 r (.ret (B9 r (.t r (.t r .n)) rf ⟨(0,false),r,hd⟩))))
   exact .kn 4 8388624 r (.drop .z (.condKF r r (.sn 0 r (.sr (.kn 2 12 r (.ret (B9 r (.t r (.t r .n)) rf ⟨(0,false),r,hd⟩)))))))
 refine .ks 5 r (.yes r (.lo U5 .z r (.ks 2 r (.spl hd [18,19] r (fun f hd=>?_) fun f hd=>?_))))
 · refine .kn 4 8388624 r (.drop .z (.condP r hd (fun a hd=>?_) fun a hd=>?_))
   · exact .sr (.kn 3 12 r (.ret (B9 r (.t r (.t r .n)) rf ⟨(A7 (a0.Lo),true),r,hd⟩)))
   exact .sn 0 r (.sr (.kn 2 12 r (.ret (B9 r (.t r (.t r .n)) rf ⟨(0,false),r,hd⟩))))
 exact .kn 4 8388624 r (.drop .z (.condKF r r (.sn 0 r (.sr (.kn 2 12 r (.ret (B9 r (.t r (.t r .n)) rf ⟨(0,false),r,hd⟩)))))))
theorem Y2 {a0 a1:DW} {Q:Bool→Prop} (hd:OB a0 a1 Q) :
  BH prog 200 [.agg (kT a0).toArray,.agg (kT a1).toArray] I (fun _=>XX Q):=by
 refine Fun.en func200 ntmps200 r fun w0 M=>.sr (.bx r fun c=>.bx r fun d=>.ks 1 r (.nk 12 1 r (.lo AP .p1 r (.ks 1 r (.lo AP .z r (.ks 2 r (.spl hd [9,10] r (fun b hd=>?_) fun b hd=>?_)))))))
 · exact .kn 14 16 r (.drop .z (.drop .z (.r0 results200 r ⟨true,r,hd⟩)))
 refine .ks 1 r (.yes r (.lo AP .p1 r (.ks 1 r (.yes r (.lo AP .z r (.ks 2 r (.spl hd [15,16] r (fun a hd=>?_) fun a hd=>?_)))))))
 · exact .ks 1 r (.yes r (.lo AP .p1 r (.ks 1 r (.yes r (.lo AP .z r (.kn 4 16 r (.drop .z (.drop .z (.r0 results200 r ⟨(decide (a0.To<a1.To)),r,hd⟩)))))))))
 exact .kn 8 16 r (.drop .z (.drop .z (.r0 results200 r ⟨false,r,hd⟩)))
theorem dZ {a0:Int} {a1:List DW} {Q:((List DW)×Int)→Prop} (R3:RepSl XV I p1 c2 a1) (hd:NZ a0 a1 Q) :
  uO prog 127 [.int .i64 a0,.slice p1 a1.length c2] I (fun I_ v l=>∃ r p4 c5,v=.tuple #[.slice p4 r.1.length c5,.int .i64 r.2]∧l=[OwnSl XV 49 p4 c5 r.1]∧Q r):=by
 refine Fun.en func127 ntmps127 r fun w0 M=>?_
 refine .sr (.kn 2 3 r (.seq (.sk 1 r ?_)))
 have i9:=NR (I:=I) hd
 refine .cq call102 i9 r fun o1 hd=>?_
 refine .kn 1 131075 r (.condP r hd (fun j0 hd=>?_) fun j0 hd=>?_)
 · exact .sr (.kn 2 48 r (.own0 XV 49 (.ret (JG r (.t r (.t r .n)) rf (.o [0] r) ⟨(([]:List DW),8),_,_,r,r,hd⟩))))
 refine .sn 3 r (.sk 1 r (.nk 67 1 r (.no 195 r (.seq (.sr (.kn 1 451 r (.block (.own0 XV 49 (.own0 OA 157 ?_)))))))))
 refine .lx hd [1,0] [] r (fun j E l (q,s,u)=>fun c w=>∃ K L N O,j ⟨145,[],none⟩ (fun I_=>True) ((6,.slice K q.length L) :: (7,.slice N s.length O) :: (8,.int .i64 u) :: E) (OwnSl XV 49 K L q :: OwnSl OA 157 N O s :: l) c w) (fun c w ho hs=>⟨_,_,_,_,jf rf tv [1,0] r ho hs⟩) ?_
 rintro ⟨q,s,u⟩ j1 hd c w ⟨K,L,N,O,k1,d,_,hok,hsym⟩
 have R3:=d.u1 R3
 refine Cod.at hok hsym (.seq (.sk 2 r (.ln OO r (.kn 1 2097603 r (.condP r hd (fun d7 hd=>?_) fun d7 hd=>?_)))))
 · refine .sn 451 r (.seq (.block (.sr (.kn 1 963 r (.seq (.jn hd [8,7,6,1,0] [0,0] r (fun j E l e=>j ((9,.int .i64 e) :: E) l) (fun k2 hd=>?_) ?_))))))
   · refine .block (.lp hd [8,7,6,1,0] [0,0] r (fun j E l f=>j ((9,.int .i64 f) :: E) l) (ji rf [0,0] r) ?_)
     refine fun f j2 hd=>jq r fun g6 g=>?_
     obtain ⟨j8,R3⟩:=g.u2 d R3
     refine .seq (.seq (.ownF .z fun d2=>?_))
     refine .ownF .p1 fun j5=>?_
     refine .dr [0,1,2,3,4,5,6,7,8,9,10,11,12,13,14] 15 (.fk 2 r (.h r (fun _=>.ln OO r .mk) (.fk 2 r ?_)))
     refine FE hd (fun b hd=>?_) fun b hd=>?_
     · refine .h r (fun _=>.gyes r r b (.move r r r .mk)) (.h r (fun _=>.gyes r r b (.move r r r .mk)) ?_)
       obtain ⟨a8,k3,y,hd⟩:=hd
       obtain ⟨k4,g7⟩:=d2 (CE y)
       cases g7
       refine .h r (fun _=>.gyes r r b (.ixa0 OO QQ r r a8 (BD y a8) r r .mk)) (.h r (fun _=>.gyes r r b (.loA (j:=0) zA QQ .z y r r (.o 3 r) r r r .mk)) (.h r (fun _=>.gyes r r b (.move r r r .mk)) (.h r (fun _=>.gyes r r b (.move r r r .mk)) ?_)))
       obtain ⟨g8,k5,d8,k6,o2887,g9,d9,hd⟩:=R3.ix hd
       refine .h r (fun _=>.gyes r r b (.ixb OO QQ g9 g8 d8 r .mk)) (.h r (fun _=>.gyes r r b (.ldW zA QQ d9 r r r r .mk)) (.ww r fun ex=>?_))
       have e0:=Y2 (I:=g6) hd
       refine .gyes r r b (.callP call200 r e0 r r fun k7 e1=>?_)
       obtain ⟨k8,rfl,hd⟩:=e1
       refine .so 2 r r r tv (.h r (fun _=>.pickT r b r r r .mk) (.e2 15 (.no 274877907907 r (.condP r hd (fun e3 hd=>?_) fun e3 hd=>?_))))
       · exact .sn 963 r (.block (.region (.ks 3 r (.nil' (je (A7 (f+1)) hd g [0,0] r)))))
       exact .exit (je f hd g [0,0] r)
     refine .h r (fun _=>.gno r r b r r .mk) (.h r (fun _=>.gno r r b r r .mk) (.h r (fun _=>.gno r r b r r .mk) (.h r (fun _=>.gno r r b r r .mk) (.h r (fun _=>.gno r r b r r .mk) (.h r (fun _=>.gno r r b r r .mk) (.h r (fun _=>.gno r r b r r .mk) (.h r (fun _=>.gno r r b r r .mk) (.h r (fun _=>.gno r r b r r .mk) (.h r (fun _=>.pickF r b r r r .mk) ?_)))))))))
     exact .e2 15 (.no 274877907907 r (.condKF r r (.exit (je f hd g [0,0] r))))
   refine fun e hd=>jq r fun a9 X=>?_
   obtain ⟨e4,R3⟩:=X.u2 d R3
   refine .sk 2 r ?_
   obtain ⟨h0,k9,e5,l0,o2919,h1,e6,hd⟩:=R3.ix hd
   refine .ixb OO QQ h1 h0 e5 r (.ks 1 r (.ldb 2 U5 e6 r ?_))
   have e7:=FX (I:=a9) hd
   refine .cq call171 e7 r fun b0 hd=>?_
   refine .al CR r fun l1=>?_
   refine .sa AG .z r (.no 1987 r (.seq (.seq (.jn hd [10,9,8,7,6,1,0] [1,1,0] r (fun j E l b1=>j ((62,.bool b1) :: E) l) (fun l2 hd=>?_) ?_))))
   · refine .ownF .p1 fun d3=>?_
     refine .ownF .p2 fun j6=>?_
     refine .dr [0,1,2,3,4,5,6,7,8,9,10,11,12,13,14,15] 16 (.fk 2 r (.h r (fun _=>.ln OO r .mk) (.fk 2 r ?_)))
     refine FE hd (fun a hd=>?_) fun a hd=>?_
     · refine .h r (fun _=>.gyes r r a (.move r r r .mk)) (.h r (fun _=>.gyes r r a (.move r r r .mk)) ?_)
       obtain ⟨h2,l3,e8,l4,o3065,h3,e9,hd⟩:=R3.ix hd
       refine .h r (fun _=>.gyes r r a (.ixb OO QQ h3 h2 e8 r .mk)) (.h r (fun _=>.gyes r r a (.ldW zA QQ e9 r r r r .mk)) (.h r (fun _=>.gyes r r a (.move r r r .mk)) (.h r (fun _=>.gyes r r a (.move r r r .mk)) ?_)))
       obtain ⟨b2,l5,A,hd⟩:=hd
       obtain ⟨l6,h4⟩:=d3 (CE A)
       cases h4
       refine .h r (fun _=>.gyes r r a (.ixa0 OO QQ r r b2 (BD A b2) r r .mk)) (.h r (fun _=>.gyes r r a (.loA (j:=0) zA QQ .p1 A r r (.o 3 r) r r r .mk)) (.ww r fun ex=>?_))
       have f0:=Y2 (I:=a9) hd
       refine .gyes r r a (.callP call200 r f0 r r fun l7 f1=>?_)
       obtain ⟨h5,rfl,hd⟩:=f1
       exact .so 3 r r r tv (.h r (fun _=>.gyes r r a (.not r r r .mk)) (.h r (fun _=>.pickT r a r r r .mk) (.e2 16 (.nil' (je (!h5) hd rf [1,1,0] r)))))
     refine .h r (fun _=>.gno r r a r r .mk) (.h r (fun _=>.gno r r a r r .mk) (.h r (fun _=>.gno r r a r r .mk) (.h r (fun _=>.gno r r a r r .mk) (.h r (fun _=>.gno r r a r r .mk) (.h r (fun _=>.gno r r a r r .mk) (.h r (fun _=>.gno r r a r r .mk) (.h r (fun _=>.gno r r a r r .mk) (.h r (fun _=>.gno r r a r r .mk) (.h r (fun _=>.gno r r a r r .mk) ?_)))))))))
     exact .h r (fun _=>.pickF r a r r r .mk) (.e2 16 (.nil' (je false hd rf [1,1,0] r)))
   refine fun b1 hd=>jq r fun h6 Y=>?_
   obtain ⟨Z,f2,R3⟩:=Y.u3 e4 X R3
   refine .condP r hd (fun f3 hd=>?_) fun f3 hd=>?_
   · refine .seq (.ownF .z fun j7=>?_)
     refine .ownF .p1 fun d4=>?_
     refine .dr [0,1,2,3,4,5,6,7,8] 9 (.fk 5 r ?_)
     obtain ⟨b3,l8,B,hd⟩:=hd
     obtain ⟨l9,h7⟩:=d4 (CE B)
     cases h7
     refine .h r (fun _=>.ixa0 aG AG r r b3 (BD B b3) r r .mk) (.h r (fun _=>.loA (j:=0) B7 AG .p1 B r r (.o 2 r) r r r .mk) (.h r (fun _=>.lw B7 AG .p2 r .mk) (.ww r fun ex=>?_)))
     have f4:=W0 (I:=h6) hd
     refine .cq call107 f4 r fun b4 hd=>?_
     refine .so 3 r r r (.ck 2 r r tv) (.e2 9 ?_)
     obtain ⟨b5,m0,a2,hd⟩:=hd
     exact .ixa0 aG AG r r b5 (BD a2 b5) r r (.stOA (j:=0) (v':=b4) AG .p1 a2 r r r (.o r) r r (.rl .p1 [7,63,66] r (by simp only [List.length_set]) (.no 451 r (.drop .p2 (.en 451 r (.region (.ks 3 r (.nil' fun c w ho hs=>⟨(q,(s.set e.toNat b4),A7 (u+1)),hd,_,_,_,_,jf Z tv [0,0] r ho hs⟩))))))))
   refine .sn 1987 r (.sk 1 r (.bd zB Ad0 AcX r (.bs 1 OO QQ zB r fun m1=>?_)))
   obtain ⟨f5,hd⟩:=hd
   refine .append (ys:=[({ From:=0,To:=0,W:=0 }:DW)]) 24 .p1 OO OO AdS r r r r r r r r r (.box .z (.one r) r) f5 r r fun m2 m3=>?_
   refine .kn 1 1987 r (.drop .p1 (.sk 1 r (.bd CR KH KG r (.bs 1 aG AG CR r fun m4=>?_))))
   obtain ⟨f6,hd⟩:=hd
   refine .append (ys:=[DS]) 16 .p2 aG aG Ae1 r r r r r r r r r (.box .z (.one r) r) f6 r r fun m5 m6=>?_
   refine .kn 1 1987 r (.drop .p1 (.seq (.sk 1 r (.ln OO r (.kn 2 4035 r (.block (.lx hd [10,9,8,1,0] [2] r (fun j E l (i,k,m)=>fun c w=>∃ P R S T,j ⟨145,[],none⟩ (fun I_=>True) ((6,.slice P i.length R) :: (7,.slice S k.length T) :: (11,.int .i64 m) :: E) (OwnSl XV 49 P R i :: OwnSl OA 157 S T k :: l) c w) (fun c w ho hs=>⟨_,_,_,_,jf rf tv [1,0,0] r ho hs⟩) ?_)))))))
   rintro ⟨i,k,m⟩ j3 hd c w ⟨P,R,S,T,m7,a3,_,hok,hsym⟩
   obtain ⟨f7,j9,k0,R3⟩:=a3.u4 Z f2 Y R3
   refine Cod.at hok hsym (.seq (.sr (.kn 3 77371252455336267181199299 r (.condP r hd (fun f8 hd=>?_) fun f8 hd=>?_))))
   · refine .sn 4035 r (.seq (.block (.sk 5 r ?_)))
     obtain ⟨b6,b7,C,hd⟩:=hd
     refine .ownNe .z (CE C) fun m8 h8=>?_
     cases h8
     refine .ixa0 OO QQ r r b6 (BD C b6) r r (.loA (j:=0) zA QQ .z C r r (.o 3 r) r r r ?_)
     obtain ⟨b8,m9,a4,hd⟩:=hd
     refine .ixa0 OO QQ r r b8 (BD a4 b8) r r (.stOA (j:=0) (v':=b7) QQ .z a4 r r r (.o r) r r (.rl .z [6,89,91] r (by simp only [List.length_set]) (.no 4035 r (.region (.ks 5 r ?_)))))
     obtain ⟨b9,c0,D,hd⟩:=hd
     refine .ownNe .p1 (CE D) fun n0 h9=>?_
     cases h9
     refine .ixa0 aG AG r r b9 (BD D b9) r r (.loA (j:=0) B7 AG .p1 D r r (.o 2 r) r r r ?_)
     obtain ⟨c1,n1,a5,hd⟩:=hd
     exact .ixa0 aG AG r r c1 (BD a5 c1) r r (.stOA (j:=0) (v':=c0) AG .p1 a5 r r r (.o r) r r (.rl .p1 [7,97,99] r (by simp only [List.length_set]) (.no 4035 r (.region (.ks 3 r (.nil' fun c w ho hs=>⟨((i.set m.toNat b7),(k.set m.toNat c0),A7 (m - 1)),hd,_,_,_,_,jf a3 tv [0,0,0] r ho hs⟩))))))
   refine .en 1987 r (.seq (.ownF .z fun d5=>?_))
   refine .ownF .p1 fun d6=>?_
   refine .dr [0,1,2,3,4,5,6,7,8,9,10,11,12] 13 (.fk 4 r ?_)
   obtain ⟨i0,c3,f9,n2,o3320,i1,g0,hd⟩:=R3.ix hd
   refine .h r (fun _=>.ixb OO QQ i1 i0 f9 r .mk) (.fk 1 r (.h r (fun _=>.ldb 0 AP g0 r .mk) (.fk 2 r ?_)))
   obtain ⟨i2,c4,g1,n3,o3329,i3,g2,hd⟩:=R3.ix hd
   refine .h r (fun _=>.ixb OO QQ i3 i2 g1 r .mk) (.fk 1 r (.h r (fun _=>.ldb 1 AP g2 r .mk) (.h r (fun _=>.bd zB Ad0 AcX r .mk) (.e2 13 ?_))))
   obtain ⟨c6,n4,F,hd⟩:=hd
   obtain ⟨n5,i4⟩:=d5 (CE F)
   cases i4
   refine .ixa0 OO QQ r r c6 (BD F c6) r r (.stOA (j:=0) (v':=({ From:=c3.From,To:=c4.To,W:=0 }:DW)) QQ .z F r r r (.o r) r r (.rl .z [6,105] r (by simp only [List.length_set]) (.no 1987 r (.region (.ks 2 r (.lw B7 AG .p2 r ?_))))))
   obtain ⟨c7,n6,G,hd⟩:=hd
   obtain ⟨n7,i5⟩:=d6 (CE G)
   cases i5
   exact .ixa0 aG AG r r c7 (BD G c7) r r (.stOA (j:=0) (v':=b0) AG .p1 G r r r (.o r) r r (.rl .p1 [7,119] r (by simp only [List.length_set]) (.no 451 r (.drop .p2 (.region (.ks 3 r (.nil' fun c w ho hs=>⟨((i.set e.toNat ({ From:=c3.From,To:=c4.To,W:=0 }:DW)),(k.set e.toNat b0),A7 (u+1)),hd,_,_,_,_,jf f7 tv [0,0] r ho hs⟩)))))))
 refine .en 192 r (.seq (.sr (.kn 1 4288 r (.block (.lx hd [7] [1] r (fun j E l (p,x)=>fun c w=>∃ U V,j ⟨145,[],none⟩ (fun I_=>True) ((6,.slice U p.length V) :: (12,.int .i64 x) :: E) (OwnSl XV 49 U V p :: l) c w) (fun c w ho hs=>⟨_,_,jf rf tv [0,0] r ho hs⟩) ?_)))))
 rintro ⟨p,x⟩ j4 hd c w ⟨U,V,i6,a6,_,hok,hsym⟩
 have a7:=a6.u1 d
 refine Cod.at hok hsym (.seq (.sk 2 r (.ln OO r (.kn 1 85070591730234615865843651857942057152 r (.condP r hd (fun g3 hd=>?_) fun g3 hd=>?_)))))
 · refine .sn 4288 r (.seq (.block (.sk 2 r ?_)))
   obtain ⟨c8,n8,H,hd⟩:=hd
   refine .ownNe .p1 (CE H) fun n9 i7=>?_
   cases i7
   refine .ixa0 aG AG r r c8 (BD H c8) r r (.loA (j:=0) B7 AG .p1 H r r (.o 2 r) r r r ?_)
   have g4:=W2 (I:=i6) hd
   refine .cq call180 g4 r fun c9 hd=>?_
   refine .kn 5 28864 r (.seq (.sr (.kn 2 348449143727040986586495598010130648543424 r (.condP r hd (fun g5 hd=>?_) fun g5 hd=>?_))))
   · exact .sr (.kn 2 48 r (.drop .z (.drop .z (.own0 XV 49 (.ret (JG r (.t r (.t r .n)) a7 (.o [0] r) ⟨(([]:List DW),12),_,_,r,r,hd⟩))))))
   refine .sn 12480 r (.region (.ks 3 r ?_))
   obtain ⟨d0,d1,J,hd⟩:=hd
   refine .ownNe .z (CE J) fun o0 i8=>?_
   cases i8
   exact .ixa0 OO QQ r r d0 (BD J d0) r r (.ks 1 r (.stO1 (j:=2) (v':=({ d1 with W:=c9.1 }:DW)) qI .z J r r r (.o r) r (.rl .z [6,139] r (by simp only [List.length_set]) (.no 4288 r (.region (.ks 3 r (.nil' fun c w ho hs=>⟨((p.set x.toNat ({ d1 with W:=c9.1 }:DW)),A7 (x+1)),hd,_,_,jf a6 tv [0,0] r ho hs⟩)))))))
 exact .en 64 r (.drop .p1 (.sr (.kn 3 48 r (.ret (JG r (.t r (.t r .n)) a7 (.o [0] r) ⟨(p,0),_,_,r,r,hd⟩)))))
theorem ES {a0 a1:Int} {Q:Rows→Prop} (hd:DB a0 a1 Q) :
  uO prog 128 [.int .i64 a0,.int .i64 a1] I (fun _=>o6_ Q):=by
 refine Fun.en func128 ntmps128 r fun w0 M=>.sr (.al CF r fun c=>.nk 19 4 r ?_)
 obtain ⟨a,b,hd⟩:=hd
 exact .make (El:=BQ) (zv:=0) 8 BP IN3 r r r r r r a b r r r fun d=>.bd CF FJ FI r (.sa AE .p1 r (.no 16 r (.own0 BQ 3 (.own0 BQ 2 (.ret (JG r (.w B6 AE r .p3 r .n) rf (.o [2,1,0] r) ⟨({ Rows:=a0,Cols:=a1,Start:=(List.replicate (A7 (a0+1)).toNat 0),Col:=([]:List Int),Val:=([]:List Int) }:Rows),_,_,_,_,_,_,r,r,hd⟩))))))
theorem O3 {a0 a1:Int} {a2:List A1} {Q:Rows→Prop} (R3:RepSl B5 I p1 c2 a2) (hd:HR a0 a1 a2 Q) :
  BH prog 59 [.int .i64 a0,.int .i64 a1,.slice p1 a2.length c2] I (o7_ Q):=by
 refine Fun.en func59 ntmps59 r fun w0 M=>?_
 refine .sr (.al CF r fun b8=>?_)
 refine .nk 71 2 r ?_
 have b7:=ES (I:=I) hd
 refine .callO call128 r b7 r r fun f3 f4 f5 L b9=>?_
 obtain ⟨e,f6,f7,f8,f9,g0,g1,rfl,rfl,hd⟩:=b9
 have R3:=L.u1 R3
 refine .al CF r fun N=>?_
 refine .sa AE .z r (.no 197 r (.seq (.sr (.kn 1 453 r (.block (.lx hd [7,6,2,0] [4] r (fun j E l (i,a,b,t)=>fun c w=>∃ u v x y A C,j ⟨58,[],none⟩ (fun I_=>True) ((8,.int .i64 t) :: E) (pto N (.cells #[.int .i64 e.Rows,.int .i64 e.Cols,.slice u i.length v,.slice x a.length y,.slice A b.length C] 33 (0,0)) :: OwnSl BQ 3 u v i :: OwnSl BQ 3 x y a :: OwnSl BQ 2 A C b :: l) c w) (fun c w ho hs=>⟨_,_,_,_,_,_,jf rf tv [0,0,0,0,0] r ho hs⟩) ?_))))))
 rintro ⟨i,a,b,t⟩ d0 hd c w ⟨u,v,x,y,A,C,e0,k,_,hok,hsym⟩
 obtain ⟨H,R3⟩:=k.u2 L R3
 refine Cod.at hok hsym (.seq (.sk 2 r (.ln D5 r (.kn 1 65989 r (.condP r hd (fun V hd=>?_) fun V hd=>?_)))))
 · refine .sn 453 r (.seq (.block (.seq (.ownF .p1 fun d2=>?_))))
   refine .ownF .p2 fun d3=>?_
   refine .ownF .p3 fun d4=>?_
   refine .dr [0,1,2,3,4,5,6,7,8] 9 (.fk 1 r (.hl DY 0 r (.fk 2 r ?_)))
   obtain ⟨c0,m,W,e1,o427,c1,X,hd⟩:=R3.ix hd
   refine .h r (fun _=>.ixb D5 D8 c1 c0 W r .mk) (.fk 1 r (.h r (fun _=>.ldb 1 AP X r .mk) (.ww r fun ex=>?_)))
   refine .bs 1 BP DN qJ r fun e3=>?_
   refine .so 6 r r r (.ch r (fun _=>.lo DY .p1 r .mk) (.ck 1 r r tv)) (.ww r fun ex=>?_)
   obtain ⟨Y,hd⟩:=hd
   refine .append (ys:=[m.Col]) 8 .p3 BP BP IN3 r r r r r r r r r (.box .z (.one r) r) Y r r fun O P=>?_
   refine .so 6 r r r tv (.e2 9 (.ks 1 r (.s1 yZ .p2 r (.no 453 r (.drop .p1 (.seq (.ownF .z fun d5=>?_)))))))
   refine .ownF .p2 fun d6=>?_
   refine .ownF .p3 fun d7=>?_
   refine .dr [0,1,2,3,4,5,6,7,8] 9 (.fk 1 r (.hl aI 1 r (.fk 2 r ?_)))
   obtain ⟨c3,p,Z,e4,o463,c4,a3,hd⟩:=R3.ix hd
   refine .h r (fun _=>.ixb D5 D8 c4 c3 Z r .mk) (.fk 1 r (.h r (fun _=>.ldb 2 U5 a3 r .mk) (.ww r fun ex=>?_)))
   refine .bs 1 NQ qI zeroValue2 r fun e5=>?_
   refine .so 6 r r r (.ch r (fun _=>.lo aI .p2 r .mk) (.ck 1 r r tv)) (.ww r fun ex=>?_)
   obtain ⟨a4,hd⟩:=hd
   refine .append (ys:=[p.Val]) 8 .p4 NQ NQ IN2 r r r r r r r r r (.box .z (.one r) r) a4 r r fun R S=>?_
   refine .so 6 r r r tv (.e2 9 (.ks 1 r (.s1 sizeOf31 .p3 r (.no 453 r (.drop .p1 (.sk 2 r ?_))))))
   obtain ⟨c5,e6,a5,e7,o487,c6,a6,hd⟩:=R3.ix hd
   refine .ixb D5 D8 c6 c5 a5 r (.ks 1 r (.ldb 0 AP a6 r (.kn 2 965 r (.block (.lx hd [8,7,6,2,0] [4,1,0] r (fun j E l (d,f)=>fun c w=>∃ D q,j ⟨58,[],none⟩ (fun I_=>True) ((9,.int .i64 f) :: E) (pto N (.cells #[.int .i64 e.Rows,.int .i64 e.Cols,.slice D d.length q,.slice O (a++([m.Col])).length P,.slice R (b++([p.Val])).length S] 33 (0,0)) :: OwnSl BQ 3 D q d :: l) c w) (fun c w ho hs=>⟨_,_,jf rf tv [2,2,2,1,0] r ho hs⟩) ?_)))))
   rintro ⟨d,f⟩ d1 hd c w ⟨D,q,e8,J,_,hok,hsym⟩
   obtain ⟨d8,a7,R3⟩:=J.u3 H k R3
   refine Cod.at hok hsym (.seq (.sr (.kn 3 140737488356293 r (.condP r hd (fun a8 hd=>?_) fun a8 hd=>?_))))
   · refine .sn 965 r (.seq (.block (.region (.ks 1 r (.lo DY .z r (.ks 1 r ?_))))))
     obtain ⟨T,F,s,hd⟩:=hd
     refine .ownNe .p1 (CE s) fun c7 c8=>?_
     cases c8
     refine .ixa0 BP DN r r T (BD s T) r r (.lo1 (j:=0) AP .p1 s r r r r r (.ks 1 r ?_))
     obtain ⟨U,e9,K,hd⟩:=hd
     exact .ixa0 BP DN r r U (BD K U) r r (.stO1 (j:=0) (v':=(A7 (F+1))) DN .p1 K r r r (.o r) r (.rl .p1 [51] r (by simp only [List.length_set]) (.reat .z (B:=pto N (.cells #[.int .i64 e.Rows,.int .i64 e.Cols,.slice (some ⟨c7,0,none⟩) (d.set f.toNat (A7 (F+1))).length q,.slice O (a++([m.Col])).length P,.slice R (b++([p.Val])).length S] 33 (0,0))) (by simp only [List.length_set]) (.no 965 r (.region (.ks 3 r (.nil' fun c w ho hs=>⟨((d.set f.toNat (A7 (F+1))),A7 (f+1)),hd,_,_,jf J tv [0,0,0,0,0] r ho hs⟩)))))))
   exact .en 453 r (.region (.ks 3 r (.nil' fun c w ho hs=>⟨(d,(a++([m.Col])),(b++([p.Val])),A7 (t+1)),hd,_,_,_,_,_,_,jf a7 tv [0,0,1,1,0] r ho hs⟩)))
 refine .en 192 r (.sr (.lw B6 AE .z r (.sa AE .p4 r (.no 64 r (.drop .z (.pub .z fun f0 a9 g=>?_))))))
 obtain ⟨b0,b1⟩:=a9.u2 H k
 refine .pub .z fun f1 b2 G=>?_
 obtain ⟨b3,b4,g⟩:=b2.u3 b0 b1 g
 refine .pub .z fun f2 b5 c9=>?_
 obtain ⟨b6,d9,g,G⟩:=b5.u4 b3 b4 g G
 exact .ret (B9 r (.w B6 AE r .z r .n) b6 ⟨({ e with Start:=i,Col:=a,Val:=b }:Rows),((_,_),(_,_),(_,_)),r,⟨g,G,c9⟩,hd⟩)
theorem NS {a0 a1 a2:Int} {a3:List A1} {Q:(Rows×Int)→Prop} (R3:RepSl B5 I p1 c2 a3) (hd:HB a0 a1 a2 a3 Q) :
  BH prog 60 [.int .i64 a0,.int .i64 a1,.int .i64 a2,.slice p1 a3.length c2] I (o8_ Q):=by
 refine Fun.en func60 ntmps60 r fun w0 M=>?_
 refine .sr (.al CF r fun b8=>?_)
 refine .kn 1 271 r (.seq (.sk 1 r ?_))
 have d1:=NR (I:=I) hd
 refine .cq call102 d1 r fun j1 hd=>?_
 refine .kn 1 131343 r (.condP r hd (fun d2 hd=>?_) fun d2 hd=>?_)
 · exact .sr (.bd CF FJ FI r (.sa AE .z r (.kn 1 768 r (.ret (B9 r (.w B6 AE r .z r (.t r .n)) rf ⟨(B1,8),((_,_),(_,_),(_,_)),r,⟨(.nil _ _ _),(.nil _ _ _),(.nil _ _ _)⟩,hd⟩)))))
 refine .sn 271 r (.seq (.sk 3 r (.spl hd [20,21] r (fun d3 hd=>?_) fun d3 hd=>?_)))
 · exact .kn 11 4294967567 r (.condKT r r (.sr (.bd CF FJ FI r (.sa AE .z r (.kn 1 768 r (.ret (B9 r (.w B6 AE r .z r (.t r .n)) rf ⟨(B1,3),((_,_),(_,_),(_,_)),r,⟨(.nil _ _ _),(.nil _ _ _),(.nil _ _ _)⟩,hd⟩)))))))
 refine .ks 4 r (.spl hd [23,24,25] r (fun d4 hd=>?_) fun d4 hd=>?_)
 · exact .kn 7 4294967567 r (.condKT r r (.sr (.bd CF FJ FI r (.sa AE .z r (.kn 1 768 r (.ret (B9 r (.w B6 AE r .z r (.t r .n)) rf ⟨(B1,3),((_,_),(_,_),(_,_)),r,⟨(.nil _ _ _),(.nil _ _ _),(.nil _ _ _)⟩,hd⟩)))))))
 refine .ks 4 r (.spl hd [27,28,29] r (fun d5 hd=>?_) fun d5 hd=>?_)
 · exact .kn 3 4294967567 r (.condKT r r (.sr (.bd CF FJ FI r (.sa AE .z r (.kn 1 768 r (.ret (B9 r (.w B6 AE r .z r (.t r .n)) rf ⟨(B1,3),((_,_),(_,_),(_,_)),r,⟨(.nil _ _ _),(.nil _ _ _),(.nil _ _ _)⟩,hd⟩)))))))
 refine .kn 3 4294967567 r (.condP r hd (fun d6 hd=>?_) fun d6 hd=>?_)
 · exact .sr (.bd CF FJ FI r (.sa AE .z r (.kn 1 768 r (.ret (B9 r (.w B6 AE r .z r (.t r .n)) rf ⟨(B1,3),((_,_),(_,_),(_,_)),r,⟨(.nil _ _ _),(.nil _ _ _),(.nil _ _ _)⟩,hd⟩)))))
 refine .sn 271 r (.seq (.sk 1 r (.ln D5 r (.kn 1 68719477007 r (.condP r hd (fun d7 hd=>?_) fun d7 hd=>?_)))))
 · exact .sr (.bd CF FJ FI r (.sa AE .z r (.kn 1 768 r (.ret (B9 r (.w B6 AE r .z r (.t r .n)) rf ⟨(B1,5),((_,_),(_,_),(_,_)),r,⟨(.nil _ _ _),(.nil _ _ _),(.nil _ _ _)⟩,hd⟩)))))
 refine .sn 271 r (.sr (.kn 1 1295 r (.seq (.sr (.kn 1 3343 r (.block (.own0 XV 49 (.lx hd [8,3,2,1,0] [1] r (fun j E l (b,g)=>fun c w=>∃ i k,j ⟨135,[],none⟩ (fun I_=>True) ((10,.slice i b.length k) :: (11,.int .i64 g) :: E) (OwnSl XV 49 i k b :: l) c w) (fun c w ho hs=>⟨_,_,jf rf tv [0,0] r ho hs⟩) ?_))))))))
 rintro ⟨b,g⟩ f7 hd c w ⟨i,k,g2,a,_,hok,hsym⟩
 have R3:=a.u1 R3
 refine Cod.at hok hsym (.seq (.sk 2 r (.ln D5 r (.kn 1 2199023258895 r (.condP r hd (fun L hd=>?_) fun L hd=>?_)))))
 · refine .sn 3343 r (.seq (.block (.seq (.sk 2 r ?_))))
   obtain ⟨d8,g3,N,g4,o704,d9,O,hd⟩:=R3.ix hd
   refine .ixb D5 D8 d9 d8 N r (.ks 1 r (.ldb 0 AP O r (.ks 2 r (.spl hd [49,50] r (fun P hd=>?_) fun P hd=>?_))))
   · exact .kn 25 37778931862957161712911 r (.condKT r r (.sr (.bd CF FJ FI r (.sa AE .p1 r (.kn 1 768 r (.drop .z (.ret (B9 r (.w B6 AE r .z r (.t r .n)) a ⟨(B1,3),((_,_),(_,_),(_,_)),r,⟨(.nil _ _ _),(.nil _ _ _),(.nil _ _ _)⟩,hd⟩))))))))
   refine .ks 2 r ?_
   obtain ⟨e0,g5,R,g6,o714,e1,S,hd⟩:=R3.ix hd
   refine .yes r (.ixb D5 D8 e1 e0 R r (.ks 1 r (.yes r (.ldb 0 AP S r (.ks 4 r (.spl hd [57,58,59] r (fun T hd=>?_) fun T hd=>?_))))))
   · exact .kn 16 37778931862957161712911 r (.condKT r r (.sr (.bd CF FJ FI r (.sa AE .p1 r (.kn 1 768 r (.drop .z (.ret (B9 r (.w B6 AE r .z r (.t r .n)) a ⟨(B1,3),((_,_),(_,_),(_,_)),r,⟨(.nil _ _ _),(.nil _ _ _),(.nil _ _ _)⟩,hd⟩))))))))
   refine .ks 2 r ?_
   obtain ⟨e3,g7,U,g8,o724,e4,V,hd⟩:=R3.ix hd
   refine .yes r (.ixb D5 D8 e4 e3 U r (.ks 1 r (.yes r (.ldb 1 AP V r (.ks 3 r (.spl hd [65,66,67] r (fun X hd=>?_) fun X hd=>?_))))))
   · exact .kn 8 37778931862957161712911 r (.condKT r r (.sr (.bd CF FJ FI r (.sa AE .p1 r (.kn 1 768 r (.drop .z (.ret (B9 r (.w B6 AE r .z r (.t r .n)) a ⟨(B1,3),((_,_),(_,_),(_,_)),r,⟨(.nil _ _ _),(.nil _ _ _),(.nil _ _ _)⟩,hd⟩))))))))
   refine .ks 2 r ?_
   obtain ⟨e5,g9,Y,h0,o734,e6,Z,hd⟩:=R3.ix hd
   refine .yes r (.ixb D5 D8 e6 e5 Y r (.ks 1 r (.yes r (.ldb 1 AP Z r (.kn 3 37778931862957161712911 r (.condP r hd (fun a4 hd=>?_) fun a4 hd=>?_))))))
   · exact .sr (.bd CF FJ FI r (.sa AE .p1 r (.kn 1 768 r (.drop .z (.ret (B9 r (.w B6 AE r .z r (.t r .n)) a ⟨(B1,3),((_,_),(_,_),(_,_)),r,⟨(.nil _ _ _),(.nil _ _ _),(.nil _ _ _)⟩,hd⟩))))))
   refine .sn 3343 r (.ownF .z fun f9=>?_)
   refine .dr [0,1,2,3,4,5,6,7,8,9,10,11,12,13,14,15,16,17,18] 19 (.fk 3 r ?_)
   obtain ⟨e7,y,a5,h1,o745,e8,a6,hd⟩:=R3.ix hd
   refine .h r (fun _=>.ixb D5 D8 e8 e7 a5 r .mk) (.fk 1 r (.h r (fun _=>.ldb 0 AP a6 r .mk) (.fk 2 r ?_)))
   obtain ⟨e9,A,a7,h2,o754,f0,a8,hd⟩:=R3.ix hd
   refine .h r (fun _=>.ixb D5 D8 f0 e9 a7 r .mk) (.fk 1 r (.h r (fun _=>.ldb 1 AP a8 r .mk) (.fk 2 r ?_)))
   obtain ⟨f1,B,a9,h3,o763,f2,b0,hd⟩:=R3.ix hd
   refine .h r (fun _=>.ixb D5 D8 f2 f1 a9 r .mk) (.fk 1 r (.h r (fun _=>.ldb 2 U5 b0 r .mk) (.h r (fun _=>.bd zB Ad0 AcX r .mk) (.ww r fun ex=>?_))))
   refine .bs 1 OO QQ zB r fun h4=>?_
   refine .so 3 r r r (.ck 1 r r tv) (.ww r fun ex=>?_)
   obtain ⟨b1,hd⟩:=hd
   refine .append (ys:=[({ From:=y.Row,To:=A.Col,W:=B.Val }:DW)]) 24 .p1 OO OO AdS r r r r r r r r r (.box .z (.one r) r) b1 r r fun h5 h6=>?_
   exact .so 3 r r r tv (.e2 19 (.kn 1 3343 r (.drop .p1 (.region (.ks 3 r (.nil' fun c w ho hs=>⟨((b++([({ From:=y.Row,To:=A.Col,W:=B.Val }:DW)])),A7 (g+1)),hd,_,_,jf a tv [0,0] r ho hs⟩))))))
 refine .en 1287 r (.sk 2 r (.pub .z fun h7 b2 m=>?_))
 have b3:=b2.u1 a
 have b4:=dZ m hd
 refine .callO call127 r b4 r r fun h8 h9 i0 b5 b6=>?_
 obtain ⟨f3,i1,i2,rfl,rfl,hd⟩:=b6
 obtain ⟨u,m⟩:=b5.u2 b3 m
 refine .kn 5 5382 r (.seq (.sr (.kn 2 10141204801825835211973625648390 r (.condP r hd (fun b7 hd=>?_) fun b7 hd=>?_))))
 · exact .sr (.bd CF FJ FI r (.ks 1 r (.sa AE .p1 r (.kn 1 768 r (.drop .z (.ret (B9 r (.w B6 AE r .z r (.t r .n)) u ⟨(B1,f3.2),((_,_),(_,_),(_,_)),r,⟨(.nil _ _ _),(.nil _ _ _),(.nil _ _ _)⟩,hd⟩)))))))
 refine .sn 1286 r (.sr (.kn 1 9478 r (.seq (.sr (.kn 1 25862 r (.block (.own0 B5 103 (.lx hd [10,8,2,1] [2,1] r (fun j E l (d,o)=>fun c w=>∃ p q,j ⟨135,[],none⟩ (fun I_=>True) ((13,.slice p d.length q) :: (14,.int .i64 o) :: E) (OwnSl B5 103 p q d :: l) c w) (fun c w ho hs=>⟨_,_,jf rf tv [0,1,0] r ho hs⟩) ?_))))))))
 rintro ⟨d,o⟩ f8 hd c w ⟨p,q,i3,e,_,hok,hsym⟩
 have b9:=e.u1 u
 refine Cod.at hok hsym (.seq (.sk 2 r (.ln OO r (.kn 1 649037107316853453566312041178374 r (.condP r hd (fun c0 hd=>?_) fun c0 hd=>?_)))))
 · refine .sn 25862 r (.seq (.block (.ownF .z fun g0=>?_)))
   refine .ownF .p2 fun C=>?_
   refine .dr [0,1,2,3,4,5,6,7,8,9,10,11,12,13,14,15,16,17,18] 19 (.fk 3 r ?_)
   obtain ⟨D,F,f,hd⟩:=hd
   obtain ⟨i4,f4⟩:=C (CE f)
   cases f4
   refine .h r (fun _=>.ixa0 OO QQ r r D (BD f D) r r .mk) (.fk 1 r (.h r (fun _=>.lo1 (j:=0) AP .p2 f r r r r r .mk) (.fk 2 r ?_)))
   obtain ⟨G,H,v,hd⟩:=hd
   refine .h r (fun _=>.ixa0 OO QQ r r G (BD v G) r r .mk) (.fk 1 r (.h r (fun _=>.lo1 (j:=1) AP .p2 v r r r r r .mk) (.fk 2 r ?_)))
   obtain ⟨J,K,x,hd⟩:=hd
   refine .h r (fun _=>.ixa0 OO QQ r r J (BD x J) r r .mk) (.fk 1 r (.h r (fun _=>.lo1 (j:=2) U5 .p2 x r r r r r .mk) (.h r (fun _=>.bd HT VU VR r .mk) (.ww r fun ex=>?_))))
   refine .bs 1 D5 D8 HT r fun i5=>?_
   refine .so 4 r r r (.ck 1 r r tv) (.ww r fun ex=>?_)
   obtain ⟨c1,hd⟩:=hd
   refine .append (ys:=[({ Row:=F.From,Col:=H.To,Val:=K.W }:A1)]) 24 .p1 D5 D5 UQ r r r r r r r r r (.box .z (.one r) r) c1 r r fun i6 i7=>?_
   exact .so 4 r r r tv (.e2 19 (.kn 1 25862 r (.drop .p1 (.region (.ks 3 r (.nil' fun c w ho hs=>⟨((d++([({ Row:=F.From,Col:=H.To,Val:=K.W }:A1)])),A7 (o+1)),hd,_,_,jf e tv [0,0,0] r ho hs⟩))))))
 refine .en 8454 r (.drop .p2 (.sk 3 r (.pub .z fun i8 c3 s=>?_)))
 obtain ⟨c4,c5⟩:=c3.u2 b9 e
 have c6:=O3 s hd
 refine .call call59 r c6 r r fun i9 j0 c7 c8=>?_
 obtain ⟨f5,c9,rfl,f6,hd⟩:=c8
 obtain ⟨d0,g1,s⟩:=c7.u3 c4 c5 s
 exact .sa AE .z r (.kn 1 768 r (.ret (B9 r (.w B6 AE r .z r (.t r .n)) d0 ⟨(f5,0),c9,r,f6,hd⟩)))
theorem P1 {a0 a1:Int} {Q:Bool→Prop} (hd:FR a0 a1 Q) :
  BH prog 99 [.int .i64 a0,.int .i64 a1] I (fun _=>XX Q):=by
 refine Fun.en func99 ntmps99 r fun w0 M=>.sk 1 r (.nk 3 3 r (.spl hd [6,7] r (fun a hd=>?_) fun a hd=>?_))
 · exact .kn 5 16 r (.r0 results99 r ⟨(decide (a0≤a1)),r,hd⟩)
 exact .kn 5 16 r (.r0 results99 r ⟨false,r,hd⟩)
theorem PZ {a0:Int} {Q:Bool→Prop} (hd:PA a0 Q) :
  BH prog 100 [.int .i64 a0] I (fun _=>XX Q):=by
 refine Fun.en func100 ntmps100 r fun w0 M=>.sk 1 r (.nk 1 3 r (.spl hd [4,5] r (fun a hd=>?_) fun a hd=>?_))
 · exact .kn 4 4 r (.r0 results100 r ⟨(decide (a0<6)),r,hd⟩)
 exact .kn 4 4 r (.r0 results100 r ⟨false,r,hd⟩)
theorem GP {a0 a1:Int} {Q:Bool→Prop} (hd:FW a0 a1 Q) :
  BH prog 167 [.int .i64 a0,.int .i64 a1] I (fun _=>XX Q):=by
 refine Fun.en func167 ntmps167 r fun w0 M=>.sk 1 r (.nk 3 3 r (.spl hd [6,7] r (fun a hd=>?_) fun a hd=>?_))
 · exact .kn 5 16 r (.r0 results167 r ⟨(decide (a0≤a1)),r,hd⟩)
 exact .kn 5 16 r (.r0 results167 r ⟨false,r,hd⟩)
theorem LK {a0:Int} {Q:Bool→Prop} (hd:GV a0 Q) :
  BH prog 178 [.int .i64 a0] I (fun _=>XX Q):=by
 exact Fun.en func178 ntmps178 r fun w0 M=>.sk 1 r (.nk 1 4 r (.no 4 r (.r0 results178 r ⟨(a0 != a0),r,hd⟩)))
theorem gM {a0 a1:Int} {Q:Bool→Prop} (hd:PB a0 a1 Q) :
  BH prog 223 [.int .i64 a0,.int .i64 a1] I (fun _=>XX Q):=by
 refine Fun.en func223 ntmps223 r fun w0 M=>?_
 refine .sk 1 r (.nk 3 1 r ?_)
 have b:=LK (I:=I) hd
 refine .cq call178 b r fun f hd=>?_
 refine .ks 1 r (.spl hd [6,7] r (fun c hd=>?_) fun c hd=>?_)
 · refine .ks 1 r ?_
   have d:=LK (I:=I) hd
   refine .yes r (.callP call178 r d r r fun g e=>?_)
   obtain ⟨h,rfl,hd⟩:=e
   refine .ks 3 r (.spl hd [10,11,12] r (fun a hd=>?_) fun a hd=>?_)
   · exact .kn 5 16 r (.r0 results223 r ⟨true,r,hd⟩)
   exact .kn 5 16 r (.r0 results223 r ⟨(decide (a0<a1)),r,hd⟩)
 exact .kn 10 16 r (.r0 results223 r ⟨(decide (a0<a1)),r,hd⟩)
theorem RM {a0:List Int} {Q:Bool→Prop} (R3:RepSl BQ I p1 c2 a0) (hd:F2 a0 Q) :
  BH prog 168 [.slice p1 a0.length c2] I (fun _=>XX Q):=by
 refine Fun.en func168 ntmps168 r fun w0 M=>.sr (.kn 1 1 r (.seq (.sk 1 r (.ln BP r (.kn 2 9 r (.block (.lp hd [0] [] r (fun j E l b=>j ((3,.int .i64 b) :: E) l) (ji rf [] r) ?_)))))))
 refine fun b m hd=>jq r fun n a=>?_
 have R3:=a.u1 R3
 refine .seq (.sr (.kn 2 265 r (.condP r hd (fun c hd=>?_) fun c hd=>?_)))
 · refine .sn 9 r (.seq (.block (.seq (.dr [0,1,2,3,4,5,6,7,8,9] 10 (.fk 2 r ?_)))))
   obtain ⟨o,t,d,u,o67,p,e,hd⟩:=R3.ix hd
   refine .h r (fun _=>.ixb BP DN p o d r .mk) (.h r (fun _=>.ldb 0 AP e r .mk) (.fk 3 r ?_))
   obtain ⟨q,v,f,w,o76,s,g,hd⟩:=R3.ix hd
   refine .h r (fun _=>.ixb BP DN s q f r .mk) (.h r (fun _=>.ldb 0 AP g r .mk) (.ww r fun ex=>?_))
   have i:=gM (I:=n) hd
   refine .cq call223 i r fun x hd=>.so 0 r r r tv (.e2 10 (.no 1048585 r (.condP r hd (fun k hd=>?_) fun k hd=>?_)))
   · exact .sr (.kn 1 4 r (.r1 results168 r a ⟨false,r,hd⟩))
   exact .sn 9 r (.region (.ks 3 r (.nil' (je (A7 (b - 1)) hd a [] r))))
 exact .en 0 r (.sr (.kn 1 4 r (.r1 results168 r a ⟨true,r,hd⟩)))
theorem wI {a0:List Int} {a1:Int} {Q:Bool→Prop} (R3:RepSl BQ I p1 c2 a0) (hd:eK a0 a1 Q) :
  BH prog 169 [.slice p1 a0.length c2,.int .i64 a1] I (fun _=>XX Q):=by
 refine Fun.en func169 ntmps169 r fun w0 M=>.sr (.kn 1 3 r (.seq (.sk 1 r (.ln BP r (.kn 1 899 r (.block (.lp hd [8,7,1,0] [] r (fun j E l b=>j ((9,.int .i64 b) :: E) l) (ji rf [] r) ?_)))))))
 refine fun b o hd=>jq r fun p a=>?_
 have R3:=a.u1 R3
 refine .sr (.kn 1 1923 r (.seq (.condP r hd (fun f hd=>?_) fun f hd=>?_)))
 · refine .sn 899 r (.seq (.block (.sk 1 r ?_)))
   obtain ⟨q,v,g,w,o87,s,h,hd⟩:=R3.ix hd
   refine .ixb BP DN s q g r (.ldb 0 AP h r (.ks 2 r (.nk 995 3 r ?_)))
   have i:=GP (I:=p) hd
   refine .cq call167 i r fun x hd=>.ks 2 r (.spl hd [18,19] r (fun k hd=>?_) fun k hd=>?_)
   · exact .kn 12 2147484547 r (.condKT r r (.sr (.kn 1 16 r (.r1 results169 r a ⟨false,r,hd⟩))))
   refine .ks 3 r (.spl hd [21,22] r (fun m hd=>?_) fun m hd=>?_)
   · refine .ks 3 r ?_
     obtain ⟨t,y,c,u,o102,n,d,hd⟩:=R3.ix hd
     refine .yes r (.ixb BP DN n t c r (.yes r (.ldb 0 AP d r (.kn 4 2147484547 r (.condP r hd (fun e hd=>?_) fun e hd=>?_)))))
     · exact .sr (.kn 1 16 r (.r1 results169 r a ⟨false,r,hd⟩))
     exact .sn 899 r (.region (.ks 2 r (.nil' (je (A7 (b+1)) hd a [] r))))
   exact .kn 9 2147484547 r (.condKF r r (.sn 899 r (.region (.ks 2 r (.nil' (je (A7 (b+1)) hd a [] r))))))
 exact .en 0 r (.sr (.kn 1 16 r (.r1 results169 r a ⟨true,r,hd⟩)))
theorem M6 {a0:Rows} {Q:Bool→Prop} (R2:NX I ga1 a0) (hd:HC a0 Q) :
  BH prog 101 [.agg (F8 a0 ga1)] I (fun _=>XX Q):=by
 refine Fun.en func101 ntmps101 r fun w0 M=>?_
 refine .sr (.bx r fun b5=>?_)
 refine .ks 1 r (.nk 2 1 r (.lo DY .z r (.ln BP r (.kn 1 10 r (.seq (.sk 1 r (.lo AP .z r ?_)))))))
 have q:=GP (I:=I) hd
 refine .cq call167 q r fun b1 hd=>?_
 refine .ks 2 r (.spl hd [11,12] r (fun s hd=>?_) fun s hd=>?_)
 · exact .kn 25 137438953482 r (.condKT r r (.sr (.kn 1 4 r (.drop .z (.r0 results101 r ⟨false,r,hd⟩)))))
 refine .ks 1 r (.yes r (.lo AP .z r ?_))
 have t:=GP (I:=I) hd
 refine .yes r (.callP call167 r t r r fun b2 u=>?_)
 obtain ⟨b3,rfl,hd⟩:=u
 refine .ks 3 r (.spl hd [16,17,18] r (fun v hd=>?_) fun v hd=>?_)
 · exact .kn 19 137438953482 r (.condKT r r (.sr (.kn 1 4 r (.drop .z (.r0 results101 r ⟨false,r,hd⟩)))))
 refine .ks 1 r (.yes r (.lo DY .z r (.yes r (.ln BP r (.ks 1 r (.yes r (.lo AP .z r (.ks 4 r (.spl hd [25,26,27] r (fun w hd=>?_) fun w hd=>?_)))))))))
 · exact .kn 10 137438953482 r (.condKT r r (.sr (.kn 1 4 r (.drop .z (.r0 results101 r ⟨false,r,hd⟩)))))
 refine .ks 1 r (.yes r (.lo aI .z r (.yes r (.ln NQ r (.ks 4 r (.spl hd [32,33,34] r (fun x hd=>?_) fun x hd=>?_))))))
 · exact .kn 3 137438953482 r (.condKT r r (.sr (.kn 1 4 r (.drop .z (.r0 results101 r ⟨false,r,hd⟩)))))
 refine .kn 3 137438953482 r (.condP r hd (fun y hd=>?_) fun y hd=>?_)
 · exact .sr (.kn 1 4 r (.drop .z (.r0 results101 r ⟨false,r,hd⟩)))
 refine .sn 10 r (.seq (.sk 1 r (.lo DY .z r ?_)))
 obtain ⟨Y,b4,A,b6,o62,Z,B,hd⟩:=R2.1.ix hd
 refine .ixb BP DN Z Y A r (.ldb 0 AP B r (.ks 2 r (.spl hd [42,43] r (fun C hd=>?_) fun C hd=>?_)))
 · exact .kn 15 288230376151711746 r (.condKT r r (.sr (.kn 1 4 r (.drop .z (.r0 results101 r ⟨false,r,hd⟩)))))
 refine .ks 1 r (.yes r (.lo DY .z r (.ks 1 r (.yes r (.lo AP .z r ?_)))))
 obtain ⟨a1,b7,D,b8,o72,a2,F,hd⟩:=R2.1.ix hd
 refine .yes r (.ixb BP DN a2 a1 D r (.yes r (.ldb 0 AP F r (.ks 4 r (.spl hd [51,52,53] r (fun G hd=>?_) fun G hd=>?_)))))
 · exact .kn 5 288230376151711746 r (.condKT r r (.sr (.kn 1 4 r (.drop .z (.r0 results101 r ⟨false,r,hd⟩)))))
 refine .ks 1 r (.yes r (.lo DY .z r ?_))
 have J:=RM R2.1 hd
 refine .yes r (.callP call168 r J r r fun b9 K=>?_)
 obtain ⟨c0,rfl,hd⟩:=K
 refine .kn 2 288230376151711746 r (.condP r hd (fun N hd=>?_) fun N hd=>?_)
 · exact .sr (.kn 1 4 r (.drop .z (.r0 results101 r ⟨false,r,hd⟩)))
 refine .sn 2 r (.seq (.sk 1 r (.lo AP .z r (.kn 1 3458764513820540930 r (.block (.lp hd [60,1] [0] r (fun j E l c=>j ((61,.int .i64 c) :: E) l) (ji rf [0] r) ?_))))))
 refine fun c X hd=>jq r fun a3 a=>?_
 have R2:=a.u1 R2
 refine .sr (.kn 1 8070450532247928834 r (.seq (.condP r hd (fun g hd=>?_) fun g hd=>?_)))
 · refine .sn 3458764513820540930 r (.seq (.block (.sr (.kn 2 3458764513820540946 r (.seq (.dr [0,1,2,3,4,5,6,7,8,9,10,11,12,13,14,15,16,17] 18 (.fk 1 r (.hl DY 0 r (.fk 1 r ?_)))))))))
   refine .hl DY 0 r (.fk 1 r ?_)
   obtain ⟨O,d,i,a4,o166,P,k,hd⟩:=R2.1.ix hd
   refine .h r (fun _=>.ixb BP DN P O i r .mk) (.h r (fun _=>.ldb 0 AP k r .mk) (.fk 1 r (.hl DY 0 r (.fk 2 r ?_))))
   obtain ⟨R,b,m,a5,o175,S,n,hd⟩:=R2.1.ix hd
   refine .h r (fun _=>.ixb BP DN S R m r .mk) (.h r (fun _=>.ldb 0 AP n r .mk) ?_)
   obtain ⟨T,a6,a7,hd⟩:=hd
   have e:Int.toNat d≤Int.toNat b:=by omega
   have f:Int.toNat b≤a0.Col.length:=by omega
   obtain ⟨a8,a9,U,V,W⟩:=RepSl.sliceW R2.2.1 (Int.toNat d) (Int.toNat b) ga1.2.1.2 e f (.inl rfl)
   refine .h r (fun _=>.sliceW (L:=Int.toNat d) (H:=Int.toNat b) (cm:=ga1.2.1.2) BP DN r r R2.2.1.1 r r r (.inr ⟨_,_,r,T,r⟩) (.inr ⟨_,_,r,(by omega),r⟩) (.inl r) e f r U V r r .mk) (.fk 1 r (.hl AP 0 r (.ww r fun ex=>?_)))
   have o:=wI W hd
   refine .cq call169 o r fun b0 hd=>?_
   refine .so 1 r r r tv (.fk 1 r (.e2 18 (.no 2417855097993772169953282 r (.condP r hd (fun p hd=>?_) fun p hd=>?_))))
   · exact .sr (.kn 1 4 r (.drop .z (.r1 results101 r a ⟨false,r,hd⟩)))
   exact .sn 3458764513820540930 r (.region (.ks 2 r (.nil' (je (A7 (c+1)) hd a [0] r))))
 exact .en 0 r (.drop .z (.sr (.kn 1 4 r (.r1 results101 r a ⟨true,r,hd⟩))))
theorem O4 {a0:BF} {Q:Int→Prop} (R2:nE I gc1 a0) (hd:EV a0 Q) :
  BH prog 33 [.agg (JU a0 gc1)] I (fun _=>bI Q):=by
 refine Fun.en func33 ntmps33 r fun w0 M=>?_
 refine .sr (.bx r fun b5=>?_)
 refine .ks 1 r (.nk 2 1 r (.no 10 r (.seq (.block (.sk 1 r (.lo RL .z r ?_))))))
 have h:=PZ (I:=I) hd
 refine .cq call100 h r fun N hd=>?_
 refine .kn 2 26 r (.condP r hd (fun i hd=>?_) fun i hd=>?_)
 · exact .sr (.kn 1 4 r (.drop .z (.r0 results33 r ⟨8,r,hd⟩)))
 refine .seq (.jn hd [3,1] [0] r (fun j E l f=>j ((9,.bool f) :: E) l) (fun O hd=>?_) ?_)
 · refine .region (.ks 1 r (.loadA B6 AE r .z (.o 5 r) r r r ?_))
   have k:=M6 R2.1 hd
   refine .cq call101 k r fun P hd=>?_
   refine .ks 2 r (.spl hd [13,14] r (fun m hd=>?_) fun m hd=>?_)
   · exact .ks 12 r (.nil' (je true hd rf [0] r))
   refine .ks 1 r (.yes r (.loadA B6 AE r .z (.o 5 r) r r r ?_))
   have n:=M6 R2.2.1 hd
   refine .yes r (.callP call101 r n r r fun R p=>?_)
   obtain ⟨S,rfl,hd⟩:=p
   refine .ks 3 r (.spl hd [18,19,20] r (fun q hd=>?_) fun q hd=>?_)
   · exact .ks 6 r (.nil' (je true hd rf [0] r))
   refine .ks 1 r (.yes r (.loadA B6 AE r .z (.o 5 r) r r r ?_))
   have s:=M6 R2.2.2 hd
   refine .yes r (.callP call101 r s r r fun T t=>?_)
   obtain ⟨L,rfl,hd⟩:=t
   exact .ks 3 r (.nil' (je (!L) hd rf [0] r))
 refine fun f hd=>jq r fun U b=>?_
 have R2:=b.u1 R2
 refine .condP r hd (fun u hd=>?_) fun u hd=>?_
 · exact .sr (.kn 1 4 r (.drop .z (.r1 results33 r b ⟨7,r,hd⟩)))
 refine .seq (.jn hd [3,1] [0] r (fun j E l g=>j ((26,.bool g) :: E) l) (fun V hd=>?_) ?_)
 · refine .sk 2 r (.lo AP .z r (.ks 2 r (.lo AP .z r (.kn 2 67108874 r (.condP r hd (fun v hd=>?_) fun v hd=>?_)))))
   · exact .skip' (je (a0.A.Cols != a0.B.Rows) hd rf [0] r)
   refine .sk 2 r (.lo AP .z r (.ks 2 r (.lo AP .z r (.kn 2 67108874 r (.condP r hd (fun w hd=>?_) fun w hd=>?_)))))
   · exact .skip' (je (a0.Mask.Rows != a0.A.Rows) hd rf [0] r)
   exact .region (.ks 2 r (.lo AP .z r (.ks 2 r (.lo AP .z r (.ks 2 r (.nil' (je (a0.Mask.Cols != a0.B.Cols) hd rf [0] r)))))))
 refine fun g hd=>jq r fun c x=>?_
 obtain ⟨a,R2⟩:=x.u2 b R2
 refine .condP r hd (fun y hd=>?_) fun y hd=>?_
 · exact .sr (.kn 1 4 r (.drop .z (.r1 results33 r a ⟨4,r,hd⟩)))
 refine .seq (.sk 2 r (.lo AP .z r ?_))
 have C:=P1 (I:=c) hd
 refine .callPc call99 r r C r r fun W D=>?_
 obtain ⟨X,rfl,hd⟩:=D
 refine .kn 2 281474976710666 r (.condP r hd (fun d hd=>?_) fun d hd=>?_)
 · exact .sn 281474976710656 r (.drop .z (.condKT r d (.sr (.kn 1 4 r (.r1 results33 r a ⟨3,r,hd⟩)))))
 refine .sk 2 r (.lo AP .z r ?_)
 have F:=P1 (I:=c) hd
 refine .callPc call99 r r F r r fun Y G=>?_
 obtain ⟨Z,rfl,hd⟩:=G
 refine .kn 2 281474976710666 r (.condP r hd (fun e hd=>?_) fun e hd=>?_)
 · exact .sn 281474976710656 r (.drop .z (.condKT r e (.sr (.kn 1 4 r (.r1 results33 r a ⟨3,r,hd⟩)))))
 refine .region (.ks 2 r (.lo AP .z r ?_))
 have H:=P1 (I:=c) hd
 refine .callPc call99 r r H r r fun a1 J=>?_
 obtain ⟨a2,rfl,hd⟩:=J
 refine .kn 2 281474976710656 r (.drop .z (.condP r hd (fun K hd=>?_) fun K hd=>?_))
 · exact .sr (.kn 1 4 r (.r1 results33 r a ⟨3,r,hd⟩))
 exact .sn 0 r (.sr (.kn 1 4 r (.r1 results33 r a ⟨0,r,hd⟩)))
theorem W3 {a0:Int} {Q:Bool→Prop} (hd:NE a0 Q) :
  BH prog 137 [.int .i64 a0] I (fun _=>XX Q):=by
 refine Fun.en func137 ntmps137 r fun w0 M=>.sk 1 r (.nk 1 3 r (.spl hd [4,5] r (fun a hd=>?_) fun a hd=>?_))
 · exact .kn 4 4 r (.r0 results137 r ⟨(decide (a0≤8)),r,hd⟩)
 exact .kn 4 4 r (.r0 results137 r ⟨false,r,hd⟩)
theorem UD {a0 a1:Int} {Q:Bool→Prop} (hd:Q7 a0 a1 Q) :
  BH prog 134 [.int .i64 a0,.int .i64 a1] I (fun _=>XX Q):=by
 refine Fun.en func134 ntmps134 r fun w0 M=>?_
 refine .sk 1 r (.nk 3 3 r (.spl hd [6,7] r (fun a hd=>?_) fun a hd=>?_))
 · refine .ks 4 r (.spl hd [9,10,11] r (fun b hd=>?_) fun b hd=>?_)
   · refine .ks 1 r ?_
     have c:=W3 (I:=I) hd
     refine .yes r (.callP call137 r c r r fun f d=>?_)
     obtain ⟨e,rfl,hd⟩:=d
     exact .kn 2 16 r (.r0 results134 r ⟨e,r,hd⟩)
   exact .kn 4 16 r (.r0 results134 r ⟨false,r,hd⟩)
 exact .kn 8 16 r (.r0 results134 r ⟨false,r,hd⟩)
theorem IE {a0 a1 a2:Int} {Q:Int→Prop} (hd:FK a0 a1 a2 Q) :
  BH prog 110 [.int .i64 a0,.int .i64 a1,.int .i64 a2] I (fun _=>bI Q):=by
 refine Fun.en func110 ntmps110 r fun w0 M=>.sr (.kn 1 7 r (.seq (.sk 2 r ?_)))
 have c:=UD (I:=I) hd
 refine .cq call134 c r fun d hd=>.kn 1 1031 r (.condP r hd (fun a hd=>?_) fun a hd=>?_)
 · exact .sr (.kn 1 64 r (.r0 results110 r ⟨0,r,hd⟩))
 refine .sn 7 r (.sk 1 r (.maxI r r r r (.ks 1 r (.minI r r r r (.ks 3 r ?_)))))
 obtain ⟨b,hd⟩:=hd
 exact .quo r r b r r (.kn 1 64 r (.r0 results110 r ⟨(A7 ((A7 ((if a1<(if 0 > a2 then 0 else a2) then a1 else (if 0 > a2 then 0 else a2))*a0)).tdiv a1)),r,hd⟩))
theorem kK {a0 a1 a2:Int} {Q:Int→Prop} (hd:ZI a0 a1 a2 Q) :
  BH prog 136 [.int .i64 a0,.int .i64 a1,.int .i64 a2] I (fun _=>bI Q):=by
 refine Fun.en func136 ntmps136 r fun w0 M=>.sr (.kn 1 7 r (.seq (.sk 2 r ?_)))
 have i:=UD (I:=I) hd
 refine .cq call134 i r fun o hd=>.ks 2 r (.spl hd [11,12] r (fun c hd=>?_) fun c hd=>?_)
 · exact .kn 8 1048583 r (.condKT r r (.sr (.kn 1 64 r (.r0 results136 r ⟨(-1),r,hd⟩))))
 refine .ks 4 r (.spl hd [14,15,16] r (fun d hd=>?_) fun d hd=>?_)
 · exact .kn 4 1048583 r (.condKT r r (.sr (.kn 1 64 r (.r0 results136 r ⟨(-1),r,hd⟩))))
 refine .kn 4 1048583 r (.condP r hd (fun e hd=>?_) fun e hd=>?_)
 · exact .sr (.kn 1 64 r (.r0 results136 r ⟨(-1),r,hd⟩))
 refine .sn 7 r (.sk 4 r ?_)
 obtain ⟨f,hd⟩:=hd
 refine .quo r r f r r (.kn 1 135 r (.seq (.block (.lp hd [2,1,0] [] r (fun j E l a=>j ((7,.int .i64 a) :: E) l) (ji rf [] r) ?_))))
 refine fun a k hd=>jq r fun m b=>.seq (.sk 4 r ?_)
 have g:=IE (I:=m) hd
 refine .cq call110 g r fun n hd=>.kn 2 4294967431 r (.condP r hd (fun h hd=>?_) fun h hd=>?_)
 · exact .sn 135 r (.block (.region (.ks 3 r (.nil' (je (A7 (a+1)) hd b [] r)))))
 exact .en 128 r (.sr (.kn 2 64 r (.r1 results136 r b ⟨a,r,hd⟩)))
theorem eC {a0 a1 a2:Int} {Q:(Int×Int×Int)→Prop} (hd:SA a0 a1 a2 Q) :
  Fun prog 135 #[.int .i64 a0,.int .i64 a1,.int .i64 a2] I [] (fun I_ v l=>∃ r b1 b2 b3,v=.func (.func 211) #[] #[.pointer (some ⟨b1,0,none⟩),.pointer (some ⟨b2,0,none⟩),.pointer (some ⟨b3,0,none⟩)]∧l=[pto b1 (.cells #[.int .i64 r.1] 3 (0,0)),pto b2 (.cells #[.int .i64 r.2.1] 3 (0,0)),pto b3 (.cells #[.int .i64 r.2.2] 3 (0,0))]∧Q r):=by
 exact Fun.en func135 ntmps135 r fun w0 M=>.sr (.box1 r r r r fun b1=>.box1 r r r r fun b3=>.box1 r r r r fun a=>.ks 1 r (.ns 56 r (.mkFn r r r r (.kn 1 64 r (.q1 results135 rf [1,1,0] r ⟨(a1,a0,a2),_,_,_,r,r,hd⟩)))))
theorem aV {o0:Nat} {o1 o2 o3:Int} {o4:List AV} {o5 o6 o7 o8:Int} {Y:Nat→Int→Int→Int→(List AV)→Int→Int→((Bool×Nat×(List AV)×Int)→Prop)→Prop} {Q:(Nat×(List AV)×Int)→Prop} (hY:∀ {J_:IH},I.le J_→∀ {y22:Nat} {y23:Int} {y25:Int} {y27:Int} {y29:List AV} {y35:Int} {x37:Int} {p31:Option Addr} {c32:Nat} {Qy:(Bool×Nat×(List AV)×Int)→Prop},Y y22 y23 y25 y27 y29 y35 x37 Qy→RFun prog lr [.int .i64 x37] J_ [Rr y22,pto b10 (.cells #[.int .i64 y23] 3 (0,0)),pto b11 (.cells #[.int .i64 y25] 3 (0,0)),pto b12 (.cells #[.int .i64 y27] 3 (0,0)),pto b13 (.cells #[.slice p31 y29.length c32] 116 (0,0)),OwnSl H9 129 p31 c32 y29,pto b18 (.cells #[.int .i64 y35] 3 (0,0))] (fun I_ v l=>∃ r p39 c40,v=.bool r.1∧l=[Rr r.2.1,pto b10 (.cells #[.int .i64 y23] 3 (0,0)),pto b11 (.cells #[.int .i64 y25] 3 (0,0)),pto b12 (.cells #[.int .i64 y27] 3 (0,0)),pto b13 (.cells #[.slice p39 r.2.2.1.length c40] 116 (0,0)),OwnSl H9 129 p39 c40 r.2.2.1,pto b18 (.cells #[.int .i64 r.2.2.2] 3 (0,0))]∧Qy r)) (hd:OW o0 o1 o2 o3 o4 o5 o6 o7 o8 Y Q) :
  Fun prog 211 #[.func (.yield lr) #[] #[],.pointer (some ⟨b19,0,none⟩),.pointer (some ⟨b20,0,none⟩),.pointer (some ⟨b21,0,none⟩)] I [Rr o0,pto b10 (.cells #[.int .i64 o1] 3 (0,0)),pto b11 (.cells #[.int .i64 o2] 3 (0,0)),pto b12 (.cells #[.int .i64 o3] 3 (0,0)),pto b13 (.cells #[.slice p14 o4.length c15] 116 (0,0)),OwnSl H9 129 p14 c15 o4,pto b18 (.cells #[.int .i64 o5] 3 (0,0)),pto b19 (.cells #[.int .i64 o6] 3 (0,0)),pto b20 (.cells #[.int .i64 o7] 3 (0,0)),pto b21 (.cells #[.int .i64 o8] 3 (0,0))] (fun I_ v l=>∃ r p23 c24,v=.tuple #[]∧l=[Rr r.1,pto b10 (.cells #[.int .i64 o1] 3 (0,0)),pto b11 (.cells #[.int .i64 o2] 3 (0,0)),pto b12 (.cells #[.int .i64 o3] 3 (0,0)),pto b13 (.cells #[.slice p23 r.2.1.length c24] 116 (0,0)),OwnSl H9 129 p23 c24 r.2.1,pto b18 (.cells #[.int .i64 r.2.2] 3 (0,0)),pto b19 (.cells #[.int .i64 o6] 3 (0,0)),pto b20 (.cells #[.int .i64 o7] 3 (0,0)),pto b21 (.cells #[.int .i64 o8] 3 (0,0))]∧Q r):=by
 refine Fun.en func211 ntmps211 r fun w0 M=>?_
 refine .sr (.kn 1 47 r (.seq (.sr (.lo AP .p7 r (.kn 1 6191 r (.block (.own0 BQ 3 (.lx hd [11,3,2,1,0] [2,2,2,2,2,2,2,2,2,1] r (fun j E l (h,A)=>fun c w=>∃ B C,j ⟨56,[],none⟩ (fun I_=>True) ((5,.slice B h.length C) :: (12,.int .i64 A) :: E) (OwnSl BQ 3 B C h :: l) c w) (fun c w ho hs=>⟨_,_,jf rf tv [0,1,1,1,1,1,1,1,1,1,0] r ho hs⟩) ?_))))))))
 rintro ⟨h,A⟩ b6 hd c w ⟨B,C,b3,G,_,hok,hsym⟩
 refine Cod.at hok hsym (.sr (.kn 1 14383 r (.seq (.condP r hd (fun P hd=>?_) fun P hd=>?_))))
 · refine .sn 6191 r (.seq (.block (.sr (.kn 2 6255 r (.region (.ks 1 r (.lo AP .p8 r (.lo AP .p7 r (.ks 2 r ?_)))))))))
   have R:=IE (I:=b3) hd
   refine .cq call110 R r fun J hd=>?_
   refine .bs 1 BP DN qJ r fun c0=>?_
   obtain ⟨S,hd⟩:=hd
   refine .append (ys:=[J]) 8 .p1 BP BP IN3 r r r r r r r r r (.box .z (.one r) r) S r r fun c1 c2=>?_
   exact .kn 1 6191 r (.drop .p1 (.region (.ks 2 r (.nil' fun c w ho hs=>⟨((h++([J])),A7 (A+1)),hd,_,_,jf G tv [0,0,0,0,0,0,0,0,0,0,0] r ho hs⟩))))
 refine .en 47 r (.seq (.sr (.lo AP .p9 r (.kn 1 50331695 r (.block (.lx hd [24,3,2,1,0] [1,1,1,1,1,1,1,1,1,1] r (fun j E l (i,D)=>fun c w=>∃ k m,j ⟨56,[],none⟩ (fun I_=>True) ((5,.slice k i.length m) :: (25,.int .i64 D) :: E) (OwnSl BQ 3 k m i :: l) c w) (fun c w ho hs=>⟨_,_,jf rf tv [0,0,0,0,0,0,0,0,0,0,0] r ho hs⟩) ?_))))))
 rintro ⟨i,D⟩ b7 hd c w ⟨k,m,K,p,_,hok,hsym⟩
 have U:=p.u1 G
 refine Cod.at hok hsym (.sr (.kn 1 117440559 r (.seq (.condP r hd (fun V hd=>?_) fun V hd=>?_))))
 · refine .sn 50331695 r (.seq (.block (.sr (.kn 2 50331823 r (.region (.ks 1 r (.lo AP .p8 r (.lo AP .p9 r (.ks 2 r ?_)))))))))
   have W:=IE (I:=K) hd
   refine .cq call110 W r fun L hd=>?_
   refine .bs 1 BP DN qJ r fun c3=>?_
   obtain ⟨X,hd⟩:=hd
   refine .append (ys:=[L]) 8 .p1 BP BP IN3 r r r r r r r r r (.box .z (.one r) r) X r r fun c4 c5=>?_
   exact .kn 1 50331695 r (.drop .p1 (.region (.ks 2 r (.nil' fun c w ho hs=>⟨((i++([L])),A7 (D+1)),hd,_,_,jf p tv [0,0,0,0,0,0,0,0,0,0,0] r ho hs⟩))))
 refine .en 47 r (.sk 1 r ?_)
 have Z:=Fun.sortI (he:=fun _=>⟨r,r⟩) AeJ (I:=K) (T:=3) (a:=k) (cap:=m) hd
 refine .callS (.f call212 r) (.o [0] r) Z r r fun c6 c7 c8 a0 a1=>?_
 obtain ⟨c9,rfl,H,rfl,hd⟩:=a1
 obtain ⟨a2,a3⟩:=a0.u2 U p
 refine .rl .z [5,37] r (by rw [H]) (.nk 47 1 r (.nk 303 1 r (.ln BP r (.kn 1 3848290697487 r (.block (.lx hd [40,39,3,2,1,0] [1,1,1,4,4,4,0] r (fun j E l (b,e,N,q,g)=>fun c w=>∃ s t,j ⟨56,[],none⟩ (fun I_=>True) ((8,.int .i64 N) :: (41,.int .i64 q) :: E) (pto b13 (.cells #[.slice s b.length t] 116 (0,0)) :: OwnSl H9 129 s t b :: pto b18 (.cells #[.int .i64 e] 3 (0,0)) :: Rr g :: l) c w) (fun c w ho hs=>⟨_,_,jf rf tv [4,4,4,7,1,1,1,1,1,1,0] r ho hs⟩) ?_))))))
 rintro ⟨b,e,N,q,g⟩ b8 hd c w ⟨s,t,b4,u,_,hok,hsym⟩
 obtain ⟨x,a4⟩:=u.u2 a2 a3
 refine Cod.at hok hsym (.sr (.kn 1 8246337208591 r (.seq (.condP r hd (fun a5 hd=>?_) fun a5 hd=>?_))))
 · refine .sn 3848290697487 r (.seq (.block (.sr ?_)))
   obtain ⟨O,F,y,hd⟩:=hd
   refine .ownNe (.o 10 r) (CE y) fun d0 b5=>?_
   cases b5
   refine .ixa0 BP DN r r O (BD y O) r r (.lo1 (j:=0) AP (.o 10 r) y r r r r r (.kn 1 3848290698511 r (.seq (.sk 4 r (.spl hd [47,48] r (fun a6 hd=>?_) fun a6 hd=>?_)))))
   · refine .ks 2 r ?_
     have a7:=hY (J_:=b4) x (y22:=g) (y23:=o1) (y25:=o2) (y27:=o3) (y29:=b) (y35:=e) (x37:=F) (p31:=s) (c32:=t) hd
     refine .yes r (.callY r r (.o [3,3,3,3,0,0,0] r) a7 r r fun d1 d2 d3 a8 a9=>?_)
     obtain ⟨d,d4,d5,rfl,rfl,hd⟩:=a9
     obtain ⟨b0,b9,b1⟩:=a8.u3 x a4 u
     refine .rn 11 r (.kn 2 9011047545439247 r (.condP r hd (fun b2 hd=>?_) fun b2 hd=>?_))
     · exact .ret (JG r .n b0 (.o [0,0,0,0,0,0,0,0,0,0] r) ⟨(d.2.1,d.2.2.1,d.2.2.2),_,_,r,r,hd⟩)
     exact .sn 3848290698255 r (.region (.kn 2 3848290697487 r (.region (.ks 2 r (.nil' fun c w ho hs=>⟨(d.2.2.1,d.2.2.2,F,A7 (q+1),d.2.1),hd,_,_,jf b1 tv [4,4,4,0,0,0,0,0,0,0,0] r ho hs⟩)))))
   exact .kn 5 9011047545439247 r (.condKF r r (.sn 3848290698255 r (.region (.kn 2 3848290697487 r (.region (.ks 2 r (.nil' fun c w ho hs=>⟨(b,e,F,A7 (q+1),g),hd,_,_,jf u tv [0,0,0,0,0,0,0,0,0,0,0] r ho hs⟩)))))))
 exact .exit (Q5 r .n x (.o [3,3,3,3,0,0,0,0,0,0] r) ⟨(g,b,e),_,_,r,r,hd⟩)
theorem eD {a0 a1 a2:Int} {Q:(List AV)→Prop} (hd:KR a0 a1 a2 Q) :
  BH prog 69 [.int .i64 a0,.int .i64 a1,.int .i64 a2] I (Ae5 Q):=by
 refine Fun.en func69 ntmps69 r fun w0 M=>?_
 refine .marks0 (.sr (.box1 r r r r fun b10=>?_))
 refine .box1 r r r r fun b12=>?_
 refine .box1 r r r r fun K=>?_
 refine .kn 1 56 r (.seq (.sr (.lo AP .p2 r (.lo AP .p1 r ?_))))
 have v:=UD (I:=I) hd
 refine .cq call134 v r fun b0 hd=>?_
 refine .ks 2 r (.spl hd [13,14] r (fun x hd=>?_) fun x hd=>?_)
 · exact .kn 5 524344 r (.condKT r r (.sr (.kn 1 64 r (.drop .z (.drop .z (.drop .z (.ret (wV .z results69 (.t r .n) rf ⟨([]:List AV),_,_,r,(.nil _ _ _),hd⟩))))))))
 refine .yes r (.lo AP .p2 r (.yes r (.lo AP .z r ?_)))
 have y:=UD (I:=I) hd
 refine .yes r (.callP call134 r y r r fun b1 A=>?_)
 obtain ⟨b2,rfl,hd⟩:=A
 refine .kn 2 524344 r (.condP r hd (fun B hd=>?_) fun B hd=>?_)
 · exact .sr (.kn 1 64 r (.drop .z (.drop .z (.drop .z (.ret (wV .z results69 (.t r .n) rf ⟨([]:List AV),_,_,r,(.nil _ _ _),hd⟩))))))
 refine .sn 56 r (.sr (.alloc1 zeroValue116 r r r fun L=>?_))
 refine .ns 184 r (.alloc1 qJ r r r fun N=>?_)
 refine .s1 DN .z r (.no 440 r (.seq (.sr (.lo AP .p4 r (.lo AP .p3 r (.lo AP .p2 r ?_))))))
 have C:=eC (I:=I)  hd
 refine .callS (.f call135 r) .n C r r fun b3 O b4 E F=>?_
 obtain ⟨b,P,R,S,rfl,rfl,hd⟩:=F
 refine .rn 9 r (.no 8389048 r (.block (.own0 H9 129 (.rangeF [] r call211 (.o [9,8,7,6,5,0,3,0,0,0] r) fun lr D rc hrc=>?_))))
 refine ⟨_,aV (I:=O) (lr:=lr) (Rr:=dS lr [] rc) (o0:=0) (o1:=a0) (o2:=a1) (o3:=a2) (o4:=([]:List AV)) (o5:=0) (o6:=b.1) (o7:=b.2.1) (o8:=b.2.2) (b10:=b10) (b11:=b12) (b12:=K) (b13:=L) (p14:=none) (c15:=0) (b18:=N) (b19:=P) (b20:=R) (b21:=S) ?_ hd,?_⟩
 · intro I hJ T U V W G d a X Y Qy  hd
   obtain ⟨rfl,hd⟩:=hd
   refine RFun.mk hrc r fun w0 M=>?_
   refine .region (.ks 1 r (.nil' fun c w ho hs=>AcI (E':=[(3,_),(4,_),(5,_),(7,_),(8,_),(9,_)]) ho ⟨r,r,r,r,r,r,tv⟩ hs .z (.block (.seq (.dr [0,1,2,3,4,5,7,8,9,6,10,11,12,13] 14 (.hl KZ 4 r (.hl AP 6 r (.fk 1 r (.hl AP 1 r ?_)))))))))
   refine .hl AP 2 r (.hl AP 6 r (.hl AP 1 r (.hl AP 3 r (.hl AP 6 r (.ww r fun ex=>?_)))))
   have j:=kK (I:=I) hd
   refine .cq call136 j r fun e hd=>?_
   refine .so 7 r r r (.ch r (fun _=>.lo AP .p6 r .mk) (.ch r (fun _=>.lo AP .p3 r .mk) (.ch r (fun _=>.lo AP .p1 r .mk) (.ck 1 r r (.ch r (fun _=>.lo AP .p6 r .mk) (.ch r (fun _=>.lo KZ .p4 r .mk) tv)))))) (.ww r fun ex=>?_)
   have k:=kK (I:=I) hd
   refine .cq call136 k r fun g hd=>?_
   refine .so 7 r r r (.ck 1 r r (.ch r (fun _=>.lo AP .p6 r .mk) (.ch r (fun _=>.lo KZ .p4 r .mk) tv))) (.h r (fun _=>.bd jR underlying129 AcA r .mk) (.ww r fun ex=>?_))
   refine .bs 1 HJ P5 jR r fun Z=>?_
   refine .so 8 r r r (.ch r (fun _=>.lo KZ .p5 r .mk) tv) (.ww r fun ex=>?_)
   obtain ⟨l,hd⟩:=hd
   refine .append (ys:=[({ From:=d,To:=a,Row:=e,Col:=g }:AV)]) 32 .p6 HJ HJ Ac9 r r r r r r r r r (.box .z (.one r) r) l r r fun a3 a4=>?_
   refine .so 8 r r r tv (.e2 14 (.s1 sizeOf116 .p6 r (.no 768 r (.drop .p1 (.region (.ks 1 r (.s1 DN .p6 r ?_)))))))
   exact .nil' fun c w ho hs=>AeL 0 (.inl rfl) rf .p1 (.o [1,1,1,1,0,0] rfl) ⟨(true,0,(G++([({ From:=d,To:=a,Row:=e,Col:=g }:AV)])),a),_,_,rfl,rfl,hd⟩ hs
 intro a5 a6 l' m p
 obtain ⟨H,a7,a8,rfl,rfl,hd⟩:=p
 have q:=m.u1 E
 obtain ⟨hz,hd⟩:=hd
 refine ⟨_,_,r,fun hj=>?_,fun i hj=>absurd (hz.symm.trans hj) (by simp)⟩
 refine .rn 10 r (.mkS 128 r r (.drop .p1 (.drop .p1 (.drop .p1 (.drop .p3 (.drop .p3 (.drop .p3 (.drop .p3 (.sr ?_)))))))))
 refine .lo KZ .p1 r (.kn 1 64 r (.drop .p1 (.pub .p1 fun a9 s J=>?_)))
 have u:=s.u1 q
 exact .ret (wV .z results69 (.t r .n) u ⟨H.2.1,_,_,r,J,hd⟩)
theorem gN {a0 a1:Int} {Q:Int→Prop} (hd:SU a0 a1 Q) :
  BH prog 70 [.int .i64 a0,.int .i64 a1] I (fun _=>bI Q):=by
 refine Fun.en func70 ntmps70 r fun w0 M=>.sr (.kn 1 3 r (.seq (.sk 1 r ?_)))
 have a:=W3 (I:=I) hd
 refine .cq call137 a r fun f hd=>.ks 2 r (.spl hd [7,8] r (fun b hd=>?_) fun b hd=>?_)
 · exact .kn 9 131075 r (.condKT r r (.sr (.kn 1 16 r (.r0 results70 r ⟨(-1),r,hd⟩))))
 refine .ks 4 r (.spl hd [10,11,12] r (fun c hd=>?_) fun c hd=>?_)
 · exact .kn 5 131075 r (.condKT r r (.sr (.kn 1 16 r (.r0 results70 r ⟨(-1),r,hd⟩))))
 refine .kn 5 131075 r (.condP r hd (fun d hd=>?_) fun d hd=>?_)
 · exact .sr (.kn 1 16 r (.r0 results70 r ⟨(-1),r,hd⟩))
 refine .sn 3 r (.sk 2 r ?_)
 obtain ⟨e,hd⟩:=hd
 exact .quo r r e r r (.kn 1 16 r (.r0 results70 r ⟨(A7 (a1.tdiv a0)),r,hd⟩))
theorem sG {a0 a1:Int} {Q:Int→Prop} (hd:V7 a0 a1 Q) :
  BH prog 71 [.int .i64 a0,.int .i64 a1] I (fun _=>bI Q):=by
 refine Fun.en func71 ntmps71 r fun w0 M=>.sr (.kn 1 3 r (.seq (.sk 2 r ?_)))
 have a:=gN (I:=I) hd
 refine .cq call70 a r fun d hd=>.kn 1 259 r (.condP r hd (fun b hd=>?_) fun b hd=>?_)
 · exact .sr (.kn 1 16 r (.r0 results71 r ⟨(-1),r,hd⟩))
 refine .sn 3 r (.sk 2 r ?_)
 obtain ⟨c,hd⟩:=hd
 exact .rem r r c r r (.kn 1 16 r (.r0 results71 r ⟨(a1.tmod a0),r,hd⟩))
theorem aW {a0:Int} {Q:Bool→Prop} (hd:Q8 a0 Q) :
  BH prog 213 [.int .i64 a0] I (fun _=>XX Q):=by
 refine Fun.en func213 ntmps213 r fun w0 M=>.sk 1 r (.nk 1 3 r (.spl hd [4,5] r (fun a hd=>?_) fun a hd=>?_))
 · exact .kn 4 4 r (.r0 results213 r ⟨(decide (a0≤8)),r,hd⟩)
 exact .kn 4 4 r (.r0 results213 r ⟨false,r,hd⟩)
theorem mS {a0 a1 a2 a3:Int} {Q:Bool→Prop} (hd:TL a0 a1 a2 a3 Q) :
  BH prog 138 [.int .i64 a0,.int .i64 a1,.int .i64 a2,.int .i64 a3] I (fun _=>XX Q):=by
 refine Fun.en func138 ntmps138 r fun w0 M=>?_
 refine .sk 1 r (.nk 15 1 r ?_)
 have e:=aW (I:=I) hd
 refine .cq call213 e r fun i hd=>?_
 refine .ks 1 r (.spl hd [10,11] r (fun f hd=>?_) fun f hd=>?_)
 · refine .ks 1 r ?_
   have g:=aW (I:=I) hd
   refine .yes r (.callP call213 r g r r fun j h=>?_)
   obtain ⟨k,rfl,hd⟩:=h
   refine .ks 2 r (.spl hd [13,14,15] r (fun a hd=>?_) fun a hd=>?_)
   · refine .ks 4 r (.spl hd [17,18,19] r (fun b hd=>?_) fun b hd=>?_)
     · refine .ks 5 r (.spl hd [22,23,24] r (fun c hd=>?_) fun c hd=>?_)
       · refine .ks 4 r (.spl hd [26,27,28] r (fun d hd=>?_) fun d hd=>?_)
         · exact .kn 5 256 r (.r0 results138 r ⟨(decide (a3<a1)),r,hd⟩)
         exact .kn 5 256 r (.r0 results138 r ⟨false,r,hd⟩)
       exact .kn 9 256 r (.r0 results138 r ⟨false,r,hd⟩)
     exact .kn 14 256 r (.r0 results138 r ⟨false,r,hd⟩)
   exact .kn 18 256 r (.r0 results138 r ⟨false,r,hd⟩)
 exact .kn 22 256 r (.r0 results138 r ⟨false,r,hd⟩)
theorem dM {a0 a1:Int} {Q:Rows→Prop} (hd:SV a0 a1 Q) :
  uO prog 247 [.int .i64 a0,.int .i64 a1] I (fun _=>o6_ Q):=by
 refine Fun.en func247 ntmps247 r fun w0 M=>.sr (.al CF r fun c=>.nk 19 4 r ?_)
 obtain ⟨a,b,hd⟩:=hd
 exact .make (El:=BQ) (zv:=0) 8 BP IN3 r r r r r r a b r r r fun d=>.bd CF FJ FI r (.sa AE .p1 r (.no 16 r (.own0 BQ 3 (.own0 BQ 2 (.ret (JG r (.w B6 AE r .p3 r .n) rf (.o [2,1,0] r) ⟨({ Rows:=a0,Cols:=a1,Start:=(List.replicate (A7 (a0+1)).toNat 0),Col:=([]:List Int),Val:=([]:List Int) }:Rows),_,_,_,_,_,_,r,r,hd⟩))))))
theorem dN {a0 a1:Int} {a2:List A1} {Q:Rows→Prop} (R3:RepSl B5 I p1 c2 a2) (hd:PQ a0 a1 a2 Q) :
  BH prog 194 [.int .i64 a0,.int .i64 a1,.slice p1 a2.length c2] I (o7_ Q):=by
 refine Fun.en func194 ntmps194 r fun w0 M=>?_
 refine .sr (.al CF r fun b8=>?_)
 refine .nk 71 2 r ?_
 have c1:=dM (I:=I) hd
 refine .callO call247 r c1 r r fun f3 f4 f5 R c3=>?_
 obtain ⟨d,f6,f7,f8,f9,g0,g1,rfl,rfl,hd⟩:=c3
 have R3:=R.u1 R3
 refine .al CF r fun L=>?_
 refine .sa AE .z r (.no 197 r (.seq (.sk 1 r (.ln D5 r (.kn 1 114881 r (.block (.lx hd [15,14,7,6,0] [4] r (fun j E l (p,a,b,C)=>fun c w=>∃ D t e f g i,j ⟨63,[],none⟩ (fun I_=>True) ((16,.int .i64 C) :: E) (pto L (.cells #[.int .i64 d.Rows,.int .i64 d.Cols,.slice D p.length t,.slice e a.length f,.slice g b.length i] 33 (0,0)) :: OwnSl BQ 3 D t p :: OwnSl BQ 3 e f a :: OwnSl BQ 2 g i b :: l) c w) (fun c w ho hs=>⟨_,_,_,_,_,_,jf rf tv [0,0,0,0,0] r ho hs⟩) ?_)))))))
 rintro ⟨p,a,b,C⟩ d1 hd c w ⟨D,t,e,f,g,i,d7,u,_,hok,hsym⟩
 obtain ⟨Y,R3⟩:=u.u2 R R3
 refine Cod.at hok hsym (.sr (.kn 1 245953 r (.seq (.condP r hd (fun Z hd=>?_) fun Z hd=>?_))))
 · refine .sn 114881 r (.seq (.block (.sr ?_)))
   obtain ⟨c4,k,a3,d8,o441,c5,a4,hd⟩:=R3.ix hd
   refine .ixb D5 D8 c5 c4 a3 r (.ldW isAgg103 D8 a4 r r r r (.al HT r fun d9=>?_))
   refine .sa D8 .z r (.nk 115393 1 r (.lo DY .p1 r (.ks 1 r (.lo AP .z r (.ks 1 r ?_)))))
   obtain ⟨S,F,v,hd⟩:=hd
   refine .ownNe .p2 (CE v) fun c6 c7=>?_
   cases c7
   refine .ixa0 BP DN r r S (BD v S) r r (.lo1 (j:=0) AP .p2 v r r r r r (.ks 1 r ?_))
   obtain ⟨T,e0,N,hd⟩:=hd
   refine .ixa0 BP DN r r T (BD N T) r r (.stO1 (j:=0) (v':=(A7 (F+1))) DN .p2 N r r r (.o r) r (.rl .p2 [21] r (by simp only [List.length_set]) (.reat .p1 (B:=pto L (.cells #[.int .i64 d.Rows,.int .i64 d.Cols,.slice (some ⟨c6,0,none⟩) (p.set ((A7 (k.Row+1)).toNat) (A7 (F+1))).length t,.slice e a.length f,.slice g b.length i] 33 (0,0))) (by simp only [List.length_set]) (.nk 115393 1 r (.lo DY .p1 r (.ks 1 r (.lo AP .z r (.bs 1 BP DN qJ r fun e1=>?_))))))))
   obtain ⟨a5,hd⟩:=hd
   refine .append (ys:=[k.Col]) 8 .p4 BP BP IN3 r r r r r r r r r (.box .z (.one r) r) a5 r r fun e3 e4=>?_
   refine .ks 1 r (.s1 yZ .p3 r (.no 115393 r (.drop .p1 (.region (.ks 1 r (.lo aI .p2 r (.ks 1 r (.lo U5 .p1 r (.bs 1 NQ qI zeroValue2 r fun e5=>?_)))))))))
   obtain ⟨a6,hd⟩:=hd
   refine .append (ys:=[k.Val]) 8 .p5 NQ NQ IN2 r r r r r r r r r (.box .z (.one r) r) a6 r r fun e6 e7=>?_
   exact .ks 1 r (.s1 sizeOf31 .p4 r (.no 114881 r (.drop .p1 (.drop .p2 (.region (.ks 2 r (.nil' fun c w ho hs=>⟨((p.set ((A7 (k.Row+1)).toNat) (A7 (F+1))),(a++([k.Col])),(b++([k.Val])),A7 (C+1)),hd,_,_,_,_,_,_,jf u tv [2,2,1,0,0] r ho hs⟩)))))))
 refine .en 193 r (.seq (.sr (.kn 2 52776558133440 r (.block (.lx hd [44,7,6] [4,2,2] r (fun j E l (m,q)=>fun c w=>∃ G x,j ⟨63,[],none⟩ (fun I_=>True) ((45,.int .i64 q) :: E) (pto L (.cells #[.int .i64 d.Rows,.int .i64 d.Cols,.slice G m.length x,.slice e a.length f,.slice g b.length i] 33 (0,0)) :: OwnSl BQ 3 G x m :: l) c w) (fun c w ho hs=>⟨_,_,jf rf tv [0,0,2,0,0] r ho hs⟩) ?_)))))
 rintro ⟨m,q⟩ d2 hd c w ⟨G,x,e8,y,_,hok,hsym⟩
 obtain ⟨a7,a8⟩:=y.u2 Y u
 refine Cod.at hok hsym (.sr (.kn 1 123145302311104 r (.seq (.condP r hd (fun a9 hd=>?_) fun a9 hd=>?_))))
 · refine .sn 52776558133440 r (.seq (.block (.sr (.kn 2 52776558134464 r (.ownF .p1 fun U=>?_)))))
   refine .ownF .p3 fun d3=>?_
   refine .ownF .p4 fun d4=>?_
   refine .dr [0,1,2,3,4,5,6,7,8,9,10,11] 12 (.fk 1 r (.hl DY 0 r (.fk 2 r ?_)))
   obtain ⟨V,H,A,hd⟩:=hd
   obtain ⟨c8,c9⟩:=U (CE A)
   cases c9
   refine .h r (fun _=>.ixa0 BP DN r r V (BD A V) r r .mk) (.h r (fun _=>.lo1 (j:=0) AP .p1 A r r r r r .mk) (.fk 1 r (.hl DY 0 r (.fk 1 r ?_))))
   obtain ⟨W,J,O,hd⟩:=hd
   refine .h r (fun _=>.ixa0 BP DN r r W (BD O W) r r .mk) (.h r (fun _=>.lo1 (j:=0) AP .p1 O r r r r r .mk) (.fk 1 r (.e2 12 ?_)))
   obtain ⟨X,e9,P,hd⟩:=hd
   exact .ixa0 BP DN r r X (BD P X) r r (.stO1 (j:=0) (v':=(A7 (H+J))) DN .p1 P r r r (.o r) r (.rl .p1 [49,55] r (by simp only [List.length_set]) (.reat .z (B:=pto L (.cells #[.int .i64 d.Rows,.int .i64 d.Cols,.slice (some ⟨c8,0,none⟩) (m.set ((A7 (q+1)).toNat) (A7 (H+J))).length x,.slice e a.length f,.slice g b.length i] 33 (0,0))) (by simp only [List.length_set]) (.no 52776558133440 r (.region (.ks 2 r (.nil' fun c w ho hs=>⟨((m.set ((A7 (q+1)).toNat) (A7 (H+J))),A7 (q+1)),hd,_,_,jf y tv [0,0,0,0,0] r ho hs⟩)))))))
 refine .en 192 r (.sr (.lw B6 AE .z r (.sa AE .p2 r (.no 64 r (.drop .z (.pub .z fun f0 b0 s=>?_))))))
 obtain ⟨b1,b2,b3⟩:=b0.u3 a7 a8 y
 refine .pub .p1 fun f1 b4 K=>?_
 obtain ⟨b5,b6,b7,s⟩:=b4.u4 b1 b2 b3 s
 refine .pub .p1 fun f2 b9 d0=>?_
 obtain ⟨c0,d5,d6,s,K⟩:=b9.u5 b5 b6 b7 s K
 exact .ret (B9 r (.w B6 AE r .z r .n) c0 ⟨({ d with Start:=m,Col:=a,Val:=b }:Rows),((_,_),(_,_),(_,_)),r,⟨s,K,d0⟩,hd⟩)
theorem YT {a0:Rows} {Q:Rows→Prop} (R2:NX I ga1 a0) (hd:SW a0 Q) :
  BH prog 214 [.agg (F8 a0 ga1)] I (rP Q):=by
 refine Fun.en func214 ntmps214 r fun w0 M=>?_
 refine .sr (.bx r fun H=>?_)
 refine .al CF r fun q=>?_
 refine .no 6 r (.seq (.sr (.lw B6 AE .p1 r ?_)))
 have c:=M6 R2 hd
 refine .cq call101 c r fun s hd=>?_
 refine .no 22 r (.condP r hd (fun d hd=>?_) fun d hd=>?_)
 · exact .sr (.lw B6 AE .p1 r (.sa AE .z r (.no 4 r (.drop .p1 (.ret (B9 r (.w B6 AE r .z r .n) rf ⟨a0,ga1,r,R2,hd⟩))))))
 refine .sn 4 r (.drop .p1 (.sr ?_))
 have e:=dM (I:=I) hd
 refine .callO call247 r e r r fun t u v f g=>?_
 obtain ⟨o,x,y,A,B,C,D,rfl,rfl,hd⟩:=g
 refine .sa AE .p3 r (.no 4 r (.pub .z fun E h a=>?_))
 have i:=h.u1 f
 refine .pub .z fun F j b=>?_
 obtain ⟨k,a⟩:=j.u2 i a
 refine .pub .z fun G l p=>?_
 obtain ⟨m,a,b⟩:=l.u3 k a b
 exact .ret (B9 r (.w B6 AE r .z r .n) m ⟨o,((_,_),(_,_),(_,_)),r,⟨a,b,p⟩,hd⟩)
theorem aX {a0:Int×Int} {a1:Int} {Q:(Int×Int)→Prop} (hd:Q9 a0 a1 Q) :
  BH prog 215 [.agg #[.int .i64 a0.1,.int .i64 a0.2],.int .i64 a1] I (fun _=>AeR Q):=by
 refine Fun.en func215 ntmps215 r fun w0 M=>.sr (.bx r fun b=>.ks 2 r (.ns 6 r (.ixArr (i:=0) HK DN r r (by decide) (o:=0) r r r (.lo AP .z r (.maxI r r r r (.ks 1 r (.ns 70 r (.ixArr (i:=1) HK DN r r (by decide) (o:=1) r r r (.lo AP .z r (.ks 1 r ?_))))))))))
 refine .minI r r r r (.kn 1 192 r (.drop .z (.seq (.sr (.kn 3 131264 r (.condP r hd (fun a hd=>?_) fun a hd=>?_))))))
 · exact .sr (.kn 3 48 r (.ret (B9 r (.t r (.t r .n)) rf ⟨((if 0 > a0.1 then 0 else a0.1),0),r,hd⟩)))
 exact .sn 192 r (.sr (.kn 6 48 r (.ret (B9 r (.t r (.t r .n)) rf ⟨((if 0 > a0.1 then 0 else a0.1),A7 ((if a1<a0.2 then a1 else a0.2) - (if 0 > a0.1 then 0 else a0.1))),r,hd⟩))))
theorem gO {a0:Rows} {a1:Int} {Q:((List Int)×(List Int))→Prop} (R2:NX I ga1 a0) (hd:V8 a0 a1 Q) :
  BH prog 217 [.agg (F8 a0 ga1),.int .i64 a1] I (Ae6 Q):=by
 refine Fun.en func217 ntmps217 r fun w0 M=>.sr (.bx r fun B=>.kn 2 6 r (.seq (.dr [0,1,2,3,4,5,6,7,8,9,10,11] 12 (.fk 1 r (.hl DY 0 r (.fk 1 r ?_))))))
 obtain ⟨l,b,g,C,o35,m,i,hd⟩:=R2.1.ix hd
 refine .h r (fun _=>.ixb BP DN m l g r .mk) (.h r (fun _=>.ldb 0 AP i r .mk) (.fk 1 r (.hl DY 0 r (.fk 2 r ?_))))
 obtain ⟨o,a,j,D,o44,p,k,hd⟩:=R2.1.ix hd
 refine .h r (fun _=>.ixb BP DN p o j r .mk) (.h r (fun _=>.ldb 0 AP k r .mk) (.fk 1 r (.e2 12 (.kn 1 196 r (.seq (.dr [0,1,2,3,4,5,6,7,8,9,10,11,12] 13 (.fk 1 r (.hl DY 0 r (.fk 3 r ?_)))))))))
 obtain ⟨q,E,F,hd⟩:=hd
 have c:Int.toNat b≤Int.toNat a:=by omega
 have d:Int.toNat a≤a0.Col.length:=by omega
 obtain ⟨G,J,s,u,v⟩:=RepSl.sliceW R2.2.1 (Int.toNat b) (Int.toNat a) (Int.toNat a) c d (.inr rfl)
 refine .h r (fun _=>.sliceW (L:=Int.toNat b) (H:=Int.toNat a) (cm:=Int.toNat a) BP DN r r R2.2.1.1 r r r (.inr ⟨_,_,r,q,r⟩) (.inr ⟨_,_,r,(by omega),r⟩) (.inr r) c d r s u r r .mk) (.fk 1 r (.hl aI 0 r (.fk 3 r ?_)))
 obtain ⟨w,K,N,hd⟩:=hd
 have e:Int.toNat b≤Int.toNat a:=by omega
 have f:Int.toNat a≤a0.Val.length:=by omega
 obtain ⟨O,P,x,y,A⟩:=RepSl.sliceW R2.2.2 (Int.toNat b) (Int.toNat a) (Int.toNat a) e f (.inr rfl)
 exact .h r (fun _=>.sliceW (L:=Int.toNat b) (H:=Int.toNat a) (cm:=Int.toNat a) NQ qI r r R2.2.2.1 r r r (.inr ⟨_,_,r,w,r⟩) (.inr ⟨_,_,r,(by omega),r⟩) (.inr r) e f r x y r r .mk) (.fk 1 r (.e2 13 (.kn 1 48 r (.drop .z (.ret (B9 r (.t r (.t r .n)) rf ⟨(((a0.Col.take a.toNat).drop b.toNat),((a0.Val.take a.toNat).drop b.toNat)),_,_,_,_,r,v,A,hd⟩))))))
theorem wJ {a0:Rows} {a1:Int} {Q:(List CO)→Prop} (R2:NX I ga1 a0) (hd:eL a0 a1 Q) :
  BH prog 216 [.agg (F8 a0 ga1),.int .i64 a1] I (Ae7 Q):=by
 refine Fun.en func216 ntmps216 r fun w0 M=>?_
 refine .sr (.bx r fun b8=>?_)
 refine .ks 1 r (.ns 6 r (.lw B6 AE .z r ?_))
 have A:=YT R2 hd
 refine .call call214 r A r r fun a4 S d B=>?_
 obtain ⟨a5,U,rfl,h,hd⟩:=B
 have R2:=d.u1 R2
 refine .sa AE .z r (.no 6 r (.seq (.sk 2 r (.lo AP .z r (.ks 1 r ?_)))))
 have C:=GP (I:=S) hd
 refine .cq call167 C r fun a6 hd=>?_
 refine .kn 1 131078 r (.condP r hd (fun D hd=>?_) fun D hd=>?_)
 · exact .sr (.kn 1 16 r (.drop .z (.r1 results216 r d ⟨([]:List CO),_,_,r,(.nil _ _ _),hd⟩)))
 refine .sn 6 r (.sk 1 r (.ns 38 r (.lw B6 AE .z r (.ks 1 r ?_))))
 have F:=gO h hd
 refine .call call217 r F r r fun a7 a8 G H=>?_
 obtain ⟨a9,b0,b1,b2,b3,rfl,i,k,hd⟩:=H
 obtain ⟨J,h⟩:=G.u2 d h
 refine .kn 5 224 r (.drop .z (.seq (.sk 1 r (.ln BP r (.kn 1 117440672 r (.block (.own0 UL 112 (.lx hd [25,24,7] [] r (fun j E l (a,e)=>fun c w=>∃ f g,j ⟨42,[],none⟩ (fun I_=>True) ((5,.slice f a.length g) :: (26,.int .i64 e) :: E) (OwnSl UL 112 f g a :: l) c w) (fun c w ho hs=>⟨_,_,jf rf tv [0] r ho hs⟩) ?_))))))))
 rintro ⟨a,e⟩ R hd c w ⟨f,g,V,b,_,hok,hsym⟩
 obtain ⟨o,i,k⟩:=b.u3 J i k
 refine Cod.at hok hsym (.sr (.kn 1 251658400 r (.seq (.condP r hd (fun p hd=>?_) fun p hd=>?_))))
 · refine .sn 117440672 r (.seq (.block (.sk 1 r ?_)))
   obtain ⟨K,m,q,W,o150,L,s,hd⟩:=i.ix hd
   refine .ixb BP DN L K q r (.ldb 0 AP s r (.kn 2 117441440 r (.region (.ks 4 r ?_))))
   obtain ⟨N,n,t,X,o159,O,u,hd⟩:=k.ix hd
   refine .ixb NQ qI O N t r (.ldb 0 U5 u r (.bd jQ underlying112 Ac8 r (.bs 1 OP sizeOf112 jQ r fun Y=>?_)))
   obtain ⟨v,hd⟩:=hd
   refine .append (ys:=[({ At:=m,Val:=n }:CO)]) 16 .p1 OP OP tX r r r r r r r r r (.box .z (.one r) r) v r r fun Z a2=>?_
   exact .kn 1 117440672 r (.drop .p1 (.region (.ks 2 r (.nil' fun c w ho hs=>⟨((a++([({ At:=m,Val:=n }:CO)])),A7 (e+1)),hd,_,_,jf b tv [0] r ho hs⟩))))
 refine .en 32 r (.sr (.kn 2 16 r (.pub .z fun a3 x P=>?_)))
 obtain ⟨y,T⟩:=x.u2 o b
 exact .r1 results216 r y ⟨a,_,_,r,P,hd⟩
theorem Q2 {a0:Rows} {a1 a2:Int×Int} {Q:Rows→Prop} (R2:NX I ga1 a0) (hd:LC a0 a1 a2 Q) :
  BH prog 139 [.agg (F8 a0 ga1),.agg #[.int .i64 a1.1,.int .i64 a1.2],.agg #[.int .i64 a2.1,.int .i64 a2.2]] I (rP Q):=by
 refine Fun.en func139 ntmps139 r fun w0 M=>?_
 refine .sr (.bx r fun d6=>?_)
 refine .bx r fun d7=>?_
 refine .bx r fun d8=>?_
 refine .al CF r fun d9=>?_
 refine .ns 120 r (.lw B6 AE .p3 r ?_)
 have a5:=YT R2 hd
 refine .call call214 r a5 r r fun e0 a4 y a6=>?_
 obtain ⟨e1,b8,rfl,a,hd⟩:=a6
 have R2:=y.u1 R2
 refine .sa AE .p3 r (.ns 120 r (.lw MU H1 .p2 r (.ks 1 r (.lo AP .p3 r ?_))))
 have a7:=aX (I:=a4) hd
 refine .cq call215 a7 r fun e2 hd=>?_
 refine .kn 5 488 r (.drop .p2 (.sr (.lw MU H1 .p1 r (.ks 1 r (.lo AP .p2 r ?_)))))
 have a8:=aX (I:=a4) hd
 refine .cq call215 a8 r fun s hd=>?_
 refine .kn 5 1992 r (.drop .p1 (.sr (.kn 1 4040 r (.seq (.sr (.kn 2 6442454984 r (.block (.own0 B5 103 (.lx hd [31,10,9,8,7,6,3] [2,1] r (fun j E l (i,d)=>fun c w=>∃ k m,j ⟨74,[],none⟩ (fun I_=>True) ((11,.slice k i.length m) :: (32,.int .i64 d) :: E) (OwnSl B5 103 k m i :: l) c w) (fun c w ho hs=>⟨_,_,jf rf tv [0,1,0] r ho hs⟩) ?_)))))))))
 rintro ⟨i,d⟩ b3 hd c w ⟨k,m,b9,g,_,hok,hsym⟩
 obtain ⟨t,a⟩:=g.u2 y a
 refine Cod.at hok hsym (.sr (.kn 1 15032389576 r (.seq (.condP r hd (fun B hd=>?_) fun B hd=>?_))))
 · refine .sn 6442454984 r (.seq (.block (.sk 2 r (.ns 6442459080 r (.lw B6 AE .p1 r (.ks 3 r ?_))))))
   have C:=wJ a hd
   refine .call call216 r C r r fun c0 c1 D F=>?_
   obtain ⟨c2,c3,c4,rfl,e,hd⟩:=F
   obtain ⟨G,H,a⟩:=D.u3 t g a
   refine .ln OP r (.kn 1 3854733156296 r (.block (.lx hd [40,39,32,31,12,10,9,8,7,6,3] [1,1] r (fun j E l (b,h)=>fun c w=>∃ o p,j ⟨74,[],none⟩ (fun I_=>True) ((11,.slice o b.length p) :: (41,.int .i64 h) :: E) (OwnSl B5 103 o p b :: l) c w) (fun c w ho hs=>⟨_,_,jf rf tv [0,0,0] r ho hs⟩) ?_)))
   rintro ⟨b,h⟩ b4 hd c w ⟨o,p,c5,u,_,hok,hsym⟩
   obtain ⟨J,v,a,e⟩:=u.u4 G H a e
   refine Cod.at hok hsym (.sr (.kn 1 8252779667400 r (.seq (.condP r hd (fun K hd=>?_) fun K hd=>?_))))
   · refine .sn 3854733156296 r (.seq (.block (.sr ?_)))
     obtain ⟨a9,f,L,c6,o570,b0,N,hd⟩:=e.ix hd
     refine .ixb OP sizeOf112 b0 a9 L r (.ldW isAgg112 sizeOf112 N r r r r (.al jQ r fun c7=>?_))
     refine .sa sizeOf112 .z r (.no 3854733172680 r (.seq (.jn hd [41,40,39,32,31,14,12,11,10,9,8,7,6,3] [2,2,1,0] r (fun j E l A=>j ((56,.bool A) :: E) l) (fun c8 hd=>?_) ?_)))
     · refine .region (.ks 1 r (.lo AP .z r (.ks 3 r (.spl hd [48,49] r (fun O hd=>?_) fun O hd=>?_))))
       · exact .ks 1 r (.yes r (.lo AP .z r (.ks 5 r (.nil' (je (decide ((A7 (f.At - s.1))<s.2)) hd rf [2,2,1,0] r)))))
       exact .ks 7 r (.nil' (je false hd rf [2,2,1,0] r))
     refine fun A hd=>jq r fun c9 P=>?_
     obtain ⟨b5,b6,x,a,e⟩:=P.u5 J v u a e
     refine .condP r hd (fun R hd=>?_) fun R hd=>?_
     · refine .region (.ks 3 r (.lo AP .p3 r (.ks 3 r (.lo U5 .p3 r (.bd HT VU VR r (.bs 1 D5 D8 HT r fun d0=>?_))))))
       obtain ⟨S,hd⟩:=hd
       refine .append (ys:=[({ Row:=d,Col:=A7 (f.At - s.1),Val:=f.Val }:A1)]) 24 .p3 D5 D5 UQ r r r r r r r r r (.box .z (.one r) r) S r r fun d1 d2=>?_
       exact .kn 1 3854733156296 r (.drop .p1 (.drop .p3 (.region (.ks 2 r (.nil' fun c w ho hs=>⟨((b++([({ Row:=d,Col:=A7 (f.At - s.1),Val:=f.Val }:A1)])),A7 (h+1)),hd,_,_,jf x tv [0,0,0] r ho hs⟩)))))
     exact .sn 3854733156296 r (.drop .p3 (.region (.ks 2 r (.nil' fun c w ho hs=>⟨(b,A7 (h+1)),hd,_,_,jf x tv [2,0,0] r ho hs⟩))))
   exact .en 6442454984 r (.region (.ks 2 r (.nil' fun c w ho hs=>⟨(b,A7 (d+1)),hd,_,_,jf v tv [0,0,0] r ho hs⟩)))
 refine .en 3392 r (.drop .p1 (.sk 3 r (.pub .z fun d3 T q=>?_)))
 obtain ⟨U,V⟩:=T.u2 t g
 have W:=dN q hd
 refine .call call194 r W r r fun d4 d5 X Y=>?_
 obtain ⟨b1,Z,rfl,b2,hd⟩:=Y
 obtain ⟨a3,b7,q⟩:=X.u3 U V q
 exact .sa AE .z r (.no 64 r (.ret (B9 r (.w B6 AE r .z r .n) a3 ⟨b1,Z,r,b2,hd⟩)))
theorem W4 {a0 a1 a2:Int} {Q:(Int×Int)→Prop} (hd:MF a0 a1 a2 Q) :
  BH prog 140 [.int .i64 a0,.int .i64 a1,.int .i64 a2] I (fun _=>AcY Q):=by
 refine Fun.en func140 ntmps140 r fun w0 M=>.sr (.al H3 r fun e=>.nk 71 3 r ?_)
 have b:=IE (I:=I) hd
 refine .cq call110 b r fun c hd=>.ks 4 r ?_
 have a:=IE (I:=I) hd
 exact .cq call110 a r fun d hd=>.ba H3 HK DN r (.sa H1 .z r (.no 64 r (.ret (B9 r (.w MU H1 r .z r .n) rf ⟨(c,d),r,hd⟩))))
theorem pT {a0:Rows} {a1 a2 a3 a4:Int} {Q:Rows→Prop} (R2:NX I ga1 a0) (hd:PR a0 a1 a2 a3 a4 Q) :
  BH prog 72 [.agg (F8 a0 ga1),.int .i64 a1,.int .i64 a2,.int .i64 a3,.int .i64 a4] I (rP Q):=by
 refine Fun.en func72 ntmps72 r fun w0 M=>?_
 refine .sr (.bx r fun T=>?_)
 refine .al CF r fun E=>?_
 refine .no 1086 r (.seq (.sr (.lw B6 AE .p1 r ?_)))
 have d:=M6 R2 hd
 refine .cq call101 d r fun F hd=>?_
 refine .ks 2 r (.spl hd [13,14] r (fun e hd=>?_) fun e hd=>?_)
 · refine .kn 7 2098238 r (.condKT r r (.sr (.bd CF FJ FI r (.ba H3 HK DN r (.ba H3 HK DN r ?_)))))
   have f:=Q2 (I:=I) (ga1:=((_,_),(_,_),(_,_))) (a0:=B1) ⟨(.nil _ none 0),(.nil _ none 0),(.nil _ none 0)⟩ hd
   refine .call call139 r f r r fun G H a g=>?_
   obtain ⟨x,i,rfl,y,hd⟩:=g
   have R2:=a.u1 R2
   exact .sa AE .z r (.no 1024 r (.drop .p1 (.ret (B9 r (.w B6 AE r .z r .n) a ⟨x,i,r,y,hd⟩))))
 refine .ks 4 r ?_
 have j:=mS (I:=I) hd
 refine .yes r (.callP call138 r j r r fun J k=>?_)
 obtain ⟨K,rfl,hd⟩:=k
 refine .kn 2 2098238 r (.condP r hd (fun l hd=>?_) fun l hd=>?_)
 · refine .sr (.bd CF FJ FI r (.ba H3 HK DN r (.ba H3 HK DN r ?_)))
   have m:=Q2 (I:=I) (ga1:=((_,_),(_,_),(_,_))) (a0:=B1) ⟨(.nil _ none 0),(.nil _ none 0),(.nil _ none 0)⟩ hd
   refine .call call139 r m r r fun L N b o=>?_
   obtain ⟨A,p,rfl,B,hd⟩:=o
   have R2:=b.u1 R2
   exact .sa AE .z r (.no 1024 r (.drop .p1 (.ret (B9 r (.w B6 AE r .z r .n) b ⟨A,p,r,B,hd⟩))))
 refine .sn 1086 r (.seq (.dr [0,1,2,3,4,6,7,8,9,5,10,11] 12 (.h r (fun _=>.lw B6 AE .p1 r .mk) (.fk 1 r (.hl AP 1 r (.fk 3 r (.hl AP 1 r (.fk 2 r (.ww r fun ex=>?_)))))))))
 have q:=W4 (I:=I) hd
 refine .cq call140 q r fun O hd=>?_
 refine .so 2 r r r (.ck 2 r r (.ch r (fun _=>.lo AP .p1 r .mk) (.ck 1 r r (.ch r (fun _=>.lw B6 AE .p1 r .mk) tv)))) (.ww r fun ex=>?_)
 have s:=W4 (I:=I) hd
 refine .cq call140 s r fun P hd=>?_
 refine .so 2 r r r (.ch r (fun _=>.lw B6 AE .p1 r .mk) tv) (.ww r fun ex=>?_)
 have t:=Q2 R2 hd
 refine .call call139 r t r r fun R S c u=>?_
 obtain ⟨C,v,rfl,D,hd⟩:=u
 have R2:=c.u1 R2
 exact .so 2 r r r tv (.e2 12 (.sa AE .z r (.no 1024 r (.drop .p1 (.ret (B9 r (.w B6 AE r .z r .n) c ⟨C,v,r,D,hd⟩))))))
theorem Y3 {a0:Rows} {Q:(List A1)→Prop} (R2:NX I ga1 a0) (hd:LW a0 Q) :
  BH prog 143 [.agg (F8 a0 ga1)] I (Ae8 Q):=by
 refine Fun.en func143 ntmps143 r fun w0 M=>?_
 refine .sr (.bx r fun b8=>?_)
 refine .ks 1 r (.ns 2 r (.lw B6 AE .z r ?_))
 have P:=YT R2 hd
 refine .call call214 r P r r fun b9 c0 s R=>?_
 obtain ⟨c1,a2,rfl,a,hd⟩:=R
 have R2:=s.u1 R2
 refine .sa AE .z r (.nk 2 1 r (.no 10 r (.seq (.sk 1 r (.lo AP .z r (.kn 1 12298 r (.block (.own0 B5 103 (.lx hd [12,1] [1] r (fun j E l (e,b)=>fun c w=>∃ g h,j ⟨42,[],none⟩ (fun I_=>True) ((3,.slice g e.length h) :: (13,.int .i64 b) :: E) (OwnSl B5 103 g h e :: l) c w) (fun c w ho hs=>⟨_,_,jf rf tv [0,0] r ho hs⟩) ?_)))))))))
 rintro ⟨e,b⟩ X hd c w ⟨g,h,a3,f,_,hok,hsym⟩
 obtain ⟨p,a⟩:=f.u2 s a
 refine Cod.at hok hsym (.sr (.kn 1 28682 r (.seq (.condP r hd (fun v hd=>?_) fun v hd=>?_))))
 · refine .sn 12298 r (.seq (.block (.sk 2 r (.ns 12314 r (.lw B6 AE .p1 r (.ks 1 r ?_))))))
   have x:=gO a hd
   refine .call call217 r x r r fun a4 a5 y A=>?_
   obtain ⟨a6,a7,a8,a9,b0,rfl,i,k,hd⟩:=A
   obtain ⟨B,C,a⟩:=y.u3 p f a
   refine .ks 5 r (.nk 12410 1 r (.ln BP r (.kn 1 29372506 r (.block (.lx hd [23,22,13,12,6,4,1] [1] r (fun j E l (d,m)=>fun c w=>∃ n o,j ⟨42,[],none⟩ (fun I_=>True) ((3,.slice n d.length o) :: (24,.int .i64 m) :: E) (OwnSl B5 103 n o d :: l) c w) (fun c w ho hs=>⟨_,_,jf rf tv [0,0] r ho hs⟩) ?_)))))
   rintro ⟨d,m⟩ Y hd c w ⟨n,o,b1,q,_,hok,hsym⟩
   obtain ⟨Z,D,a,i,k⟩:=q.u5 B C a i k
   refine Cod.at hok hsym (.sr (.kn 1 62926938 r (.seq (.condP r hd (fun F hd=>?_) fun F hd=>?_))))
   · refine .sn 29372506 r (.seq (.block (.sk 1 r ?_)))
     obtain ⟨S,t,G,b2,o517,T,H,hd⟩:=i.ix hd
     refine .ixb BP DN T S G r (.ldb 0 AP H r (.kn 2 29372890 r (.region (.ks 5 r ?_))))
     obtain ⟨U,u,J,b3,o526,V,K,hd⟩:=k.ix hd
     refine .ixb NQ qI V U J r (.ldb 0 U5 K r (.bd HT VU VR r (.bs 1 D5 D8 HT r fun b4=>?_)))
     obtain ⟨L,hd⟩:=hd
     refine .append (ys:=[({ Row:=b,Col:=t,Val:=u }:A1)]) 24 .p1 D5 D5 UQ r r r r r r r r r (.box .z (.one r) r) L r r fun b5 b6=>?_
     exact .kn 1 29372506 r (.drop .p1 (.region (.ks 2 r (.nil' fun c w ho hs=>⟨((d++([({ Row:=b,Col:=t,Val:=u }:A1)])),A7 (m+1)),hd,_,_,jf q tv [0,0] r ho hs⟩))))
   exact .en 12298 r (.region (.ks 2 r (.nil' fun c w ho hs=>⟨(d,A7 (b+1)),hd,_,_,jf D tv [0,0] r ho hs⟩)))
 refine .en 8 r (.drop .p1 (.sr (.kn 2 4 r (.pub .z fun b7 N W=>?_))))
 obtain ⟨O,a1⟩:=N.u2 p f
 exact .r1 results143 r O ⟨e,_,_,r,W,hd⟩
theorem W5 {a0 a1 a2:Int} {Q:(Int×Int)→Prop} (hd:HX a0 a1 a2 Q) :
  BH prog 144 [.int .i64 a0,.int .i64 a1,.int .i64 a2] I (fun _=>AcY Q):=by
 refine Fun.en func144 ntmps144 r fun w0 M=>.sr (.al H3 r fun e=>.nk 71 3 r ?_)
 have b:=IE (I:=I) hd
 refine .cq call110 b r fun c hd=>.ks 4 r ?_
 have a:=IE (I:=I) hd
 exact .cq call110 a r fun d hd=>.ba H3 HK DN r (.sa H1 .z r (.no 64 r (.ret (B9 r (.w MU H1 r .z r .n) rf ⟨(c,d),r,hd⟩))))
theorem SH {a0 a1:Int} {Q:Bool→Prop} (hd:LX a0 a1 Q) :
  BH prog 65 [.int .i64 a0,.int .i64 a1] I (fun _=>XX Q):=by
 refine Fun.en func65 ntmps65 r fun w0 M=>.sk 1 r (.nk 3 3 r (.spl hd [6,7] r (fun a hd=>?_) fun a hd=>?_))
 · exact .kn 5 16 r (.r0 results65 r ⟨(decide (a0≤a1)),r,hd⟩)
 exact .kn 5 16 r (.r0 results65 r ⟨false,r,hd⟩)
theorem aY {a0:EI} {Q:Bool→Prop} (hd:QA a0 Q) :
  BH prog 19 [.agg (TK a0).toArray] I (fun _=>XX Q):=by
 refine Fun.en func19 ntmps19 r fun w0 M=>?_
 refine .sr (.bx r fun o=>?_)
 refine .kn 1 2 r (.seq (.sk 1 r (.lo AP .z r ?_)))
 have a:=SH (I:=I) hd
 refine .cq call65 a r fun j hd=>?_
 refine .ks 2 r (.spl hd [6,7] r (fun b hd=>?_) fun b hd=>?_)
 · exact .kn 11 262146 r (.condKT r r (.sr (.kn 1 4 r (.drop .z (.r0 results19 r ⟨false,r,hd⟩)))))
 refine .ks 1 r (.yes r (.lo AP .z r ?_))
 have c:=SH (I:=I) hd
 refine .yes r (.callP call65 r c r r fun k d=>?_)
 obtain ⟨l,rfl,hd⟩:=d
 refine .ks 3 r (.spl hd [11,12,13] r (fun e hd=>?_) fun e hd=>?_)
 · exact .kn 5 262146 r (.condKT r r (.sr (.kn 1 4 r (.drop .z (.r0 results19 r ⟨false,r,hd⟩)))))
 refine .ks 1 r (.yes r (.lo AP .z r ?_))
 have f:=SH (I:=I) hd
 refine .yes r (.callP call65 r f r r fun m g=>?_)
 obtain ⟨n,rfl,hd⟩:=g
 refine .kn 2 262146 r (.condP r hd (fun h hd=>?_) fun h hd=>?_)
 · exact .sr (.kn 1 4 r (.drop .z (.r0 results19 r ⟨false,r,hd⟩)))
 refine .sn 2 r (.sk 1 r (.lo isAgg45 .z r (.ks 2 r (.spl hd [21,22] r (fun i hd=>?_) fun i hd=>?_))))
 · exact .ks 1 r (.yes r (.lo isAgg45 .z r (.kn 3 4 r (.drop .z (.r0 results19 r ⟨(decide (a0.Kind≤5)),r,hd⟩)))))
 exact .kn 5 4 r (.drop .z (.r0 results19 r ⟨false,r,hd⟩))
theorem MY {a0:List CO} {Q:(List CO)→Prop} (R3:RepSl UL I p1 c2 a0) (hd:EM a0 Q) :
  BH prog 262 [.slice p1 a0.length c2] I (fun I_ v=>∃ r p4 c5,v=.slice p4 r.length c5∧RepSl UL I_ p4 c5 r∧Q r):=by
 refine Fun.en func262 ntmps262 r fun w0 M=>.sr (.kn 1 1 r (.seq (.sk 1 r (.eqNilS OP r r r r (.no 17 r ?_)))))
 refine split p1.isNone (fun a=>?_) (fun a=>?_)
 · have hd:=hd.1 (RepSl.ofNone R3 a)
   exact .condKT r a (.sr (.kn 1 4 r (.r0 results262 r ⟨([]:List CO),_,_,r,(.nil _ _ _),hd⟩)))
 have hd:=hd.2
 refine .condKF r a (.sn 1 r (.sr (.bs 0 OP sizeOf112 jQ r fun h=>.ks 1 r (.ownB (El:=UL) (ys:=([]:List CO)) .z .nil r ?_))))
 obtain ⟨b,hd⟩:=hd
 exact .append (ys:=a0) 16 .z OP OP tX r r r r r r r r r (.imm R3 r) b r r fun e f=>.kn 1 4 r (.pub .z fun g c d=>.r1 results262 r c ⟨(([]:List CO)++a0),_,_,r,d,hd⟩)
theorem NT {a0:List P9} {Q:(List P9)→Prop} (R3:RepSl xL I p1 c2 a0) (hd:FF a0 Q) :
  BH prog 263 [.slice p1 a0.length c2] I (fun I_ v=>∃ r p4 c5,v=.slice p4 r.length c5∧RepSl xL I_ p4 c5 r∧Q r):=by
 refine Fun.en func263 ntmps263 r fun w0 M=>.sr (.kn 1 1 r (.seq (.sk 1 r (.eqNilS jN r r r r (.no 17 r ?_)))))
 refine split p1.isNone (fun a=>?_) (fun a=>?_)
 · have hd:=hd.1 (RepSl.ofNone R3 a)
   exact .condKT r a (.sr (.kn 1 4 r (.r0 results263 r ⟨([]:List P9),_,_,r,(.nil _ _ _),hd⟩)))
 have hd:=hd.2
 refine .condKF r a (.sn 1 r (.sr (.bs 0 jN sizeOf289 zeroValue289 r fun h=>.ks 1 r (.ownB (El:=xL) (ys:=([]:List P9)) .z .nil r ?_))))
 obtain ⟨b,hd⟩:=hd
 exact .append (ys:=a0) 24 .z jN jN AcB r r r r r r r r r (.imm R3 r) b r r fun e f=>.kn 1 4 r (.pub .z fun g c d=>.r1 results263 r c ⟨(([]:List P9)++a0),_,_,r,d,hd⟩)
theorem KN {a0:List A1} {Q:(List A1)→Prop} (R3:RepSl B5 I p1 c2 a0) (hd:E0 a0 Q) :
  BH prog 264 [.slice p1 a0.length c2] I (Ae9 Q):=by
 refine Fun.en func264 ntmps264 r fun w0 M=>.sr (.kn 1 1 r (.seq (.sk 1 r (.eqNilS D5 r r r r (.no 17 r ?_)))))
 refine split p1.isNone (fun a=>?_) (fun a=>?_)
 · have hd:=hd.1 (RepSl.ofNone R3 a)
   exact .condKT r a (.sr (.kn 1 4 r (.r0 results264 r ⟨([]:List A1),_,_,r,(.nil _ _ _),hd⟩)))
 have hd:=hd.2
 refine .condKF r a (.sn 1 r (.sr (.bs 0 D5 D8 HT r fun h=>.ks 1 r (.ownB (El:=B5) (ys:=([]:List A1)) .z .nil r ?_))))
 obtain ⟨b,hd⟩:=hd
 exact .append (ys:=a0) 24 .z D5 D5 UQ r r r r r r r r r (.imm R3 r) b r r fun e f=>.kn 1 4 r (.pub .z fun g c d=>.r1 results264 r c ⟨(([]:List A1)++a0),_,_,r,d,hd⟩)
theorem gP {a0:AM} {Q:AM→Prop} (R2:gZ I ge1 a0) (hd:V9 a0 Q) :
  BH prog 219 [.agg (JV a0 ge1)] I (AeA Q):=by
 refine Fun.en func219 ntmps219 r fun w0 M=>?_
 refine .sr (.bx r fun J=>?_)
 refine .al F0 r fun t=>?_
 refine .nk 6 2 r (.lo isAgg109 .p1 r ?_)
 have d:=MY R2.1 hd
 refine .call call262 r d r r fun u v b e=>?_
 obtain ⟨o,x,y,rfl,a,hd⟩:=e
 have R2:=b.u1 R2
 refine .ks 2 r (.s1 sizeOf109 .p1 r (.nk 6 1 r (.lo isAgg194 .p1 r ?_)))
 have f:=NT R2.2.1 hd
 refine .call call263 r f r r fun A B g h=>?_
 obtain ⟨p,C,D,rfl,c,hd⟩:=h
 obtain ⟨i,R2,a⟩:=g.u3 b R2 a
 refine .ks 1 r (.s1 sizeOf194 .p1 r (.nk 6 1 r (.lo isAgg54 .p1 r ?_)))
 have j:=KN R2.2.2 hd
 refine .call call264 r j r r fun E F k l=>?_
 obtain ⟨q,G,H,rfl,s,hd⟩:=l
 obtain ⟨m,R2,a,c⟩:=k.u4 i R2 a c
 exact .ks 1 r (.s1 sizeOf54 .p1 r (.ns 6 r (.lw FL BR .p1 r (.sa BR .z r (.no 4 r (.drop .p1 (.ret (B9 r (.w FL BR r .z r .n) m ⟨({ a0 with Vec:=({ N:=a0.Vec.N,Items:=o }:Vec),Sums:=p,Triples:=q }:AM),((_,_),(_,_),(_,_)),r,⟨a,c,s⟩,hd⟩))))))))
theorem M7 {a0:Int} {Q:AL→Prop} (hd:MG a0 Q) :
  BH prog 183 [.int .i64 a0] I (fun _=>qH Q):=by
 exact Fun.en func183 ntmps183 r fun w0 M=>.sr (.al CR r fun a=>.nk 5 1 r (.shr' r r (by decide) r r (.ks 1 r (.conv jJ M4 r r r (.bd CR KH KG r (.sa AG .z r (.no 4 r (.ret (B9 r (.w B7 AG r .z r .n) rf ⟨({ Hi:=shr .i64 a0 63,Lo:=IntKind.wrap .u64 (a0) }:AL),r,hd⟩)))))))))
theorem MZ {a0:List Int} {Q:Int→Prop} (R3:RepSl BQ I p1 c2 a0) (hd:JM a0 Q) :
  BH prog 113 [.slice p1 a0.length c2] I (fun _=>bI Q):=by
 refine Fun.en func113 ntmps113 r fun w0 M=>.sk 1 r (.nk 1 1 r (.no 9 r (.seq (.sk 1 r (.ln BP r (.kn 1 456 r (.block (.lp hd [7,6,3] [] r (fun j E l b=>j ((8,.int .i64 b) :: E) l) (ji rf [] r) ?_))))))))
 refine fun b g hd=>jq r fun m a=>?_
 have R3:=a.u1 R3
 refine .sr (.kn 1 968 r (.seq (.condP r hd (fun c hd=>?_) fun c hd=>?_)))
 · refine .sn 456 r (.seq (.block (.sr ?_)))
   obtain ⟨h,i,d,n,o41,k,e,hd⟩:=R3.ix hd
   refine .ixb BP DN k h d r (.ldb 0 AP e r (.ks 1 r (.nk 488 3 r (.no 16872 r (.condP r hd (fun f hd=>?_) fun f hd=>?_)))))
   · exact .sr (.kn 2 4 r (.r1 results113 r a ⟨i,r,hd⟩))
   exact .sn 456 r (.region (.ks 2 r (.nil' (je (A7 (b+1)) hd a [] r))))
 exact .en 8 r (.sr (.kn 2 4 r (.r1 results113 r a ⟨0,r,hd⟩)))
theorem S6 {a0:Int} {Q:Bool→Prop} (hd:LD a0 Q) :
  BH prog 313 [.int .i64 a0] I (fun _=>XX Q):=by
 exact Fun.en func313 ntmps313 r fun w0 M=>.sk 1 r (.nk 1 4 r (.no 4 r (.r0 results313 r ⟨(a0 != a0),r,hd⟩)))
theorem XG {a0 a1:Int} {Q:Int→Prop} (hd:IZ a0 a1 Q) :
  BH prog 302 [.int .i64 a0,.int .i64 a1] I (fun _=>bI Q):=by
 refine Fun.en func302 ntmps302 r fun w0 M=>.sk 1 r (.nk 3 1 r ?_)
 have g:=S6 (I:=I) hd
 refine .cq call313 g r fun i hd=>.ks 1 r (.nk 35 1 r ?_)
 have a:=S6 (I:=I) hd
 refine .cq call313 a r fun h hd=>.kn 1 99 r (.seq (.sr (.kn 1 2115 r (.condP r hd (fun b hd=>?_) fun b hd=>?_))))
 · refine .seq (.sr (.kn 1 4096 r (.condP r hd (fun c hd=>?_) fun c hd=>?_)))
   · exact .sr (.kn 1 16 r (.r0 results302 r ⟨0,r,hd⟩))
   exact .sn 0 r (.sr (.kn 1 16 r (.r0 results302 r ⟨(-1),r,hd⟩)))
 refine .sn 67 r (.seq (.sr (.kn 1 8195 r (.condP r hd (fun d hd=>?_) fun d hd=>?_))))
 · exact .sr (.kn 1 16 r (.r0 results302 r ⟨1,r,hd⟩))
 refine .sn 3 r (.seq (.sr (.kn 3 65539 r (.condP r hd (fun e hd=>?_) fun e hd=>?_))))
 · exact .sr (.kn 1 16 r (.r0 results302 r ⟨(-1),r,hd⟩))
 refine .sn 3 r (.seq (.sr (.kn 3 524288 r (.condP r hd (fun f hd=>?_) fun f hd=>?_))))
 · exact .sr (.kn 1 16 r (.r0 results302 r ⟨1,r,hd⟩))
 exact .sn 0 r (.sr (.kn 1 16 r (.r0 results302 r ⟨0,r,hd⟩)))
theorem QX {a0:Int} {Q:Bool→Prop} (hd:K7 a0 Q) :
  BH prog 314 [.int .u64 a0] I (fun _=>XX Q):=by
 exact Fun.en func314 ntmps314 r fun w0 M=>.sk 1 r (.nk 1 4 r (.no 4 r (.r0 results314 r ⟨(a0 != a0),r,hd⟩)))
theorem W6 {a0 a1:Int} {Q:Int→Prop} (hd:HY a0 a1 Q) :
  BH prog 303 [.int .u64 a0,.int .u64 a1] I (fun _=>bI Q):=by
 refine Fun.en func303 ntmps303 r fun w0 M=>.sk 1 r (.nk 3 1 r ?_)
 have g:=QX (I:=I) hd
 refine .cq call314 g r fun i hd=>.ks 1 r (.nk 35 1 r ?_)
 have a:=QX (I:=I) hd
 refine .cq call314 a r fun h hd=>.kn 1 99 r (.seq (.sr (.kn 1 2115 r (.condP r hd (fun b hd=>?_) fun b hd=>?_))))
 · refine .seq (.sr (.kn 1 4096 r (.condP r hd (fun c hd=>?_) fun c hd=>?_)))
   · exact .sr (.kn 1 16 r (.r0 results303 r ⟨0,r,hd⟩))
   exact .sn 0 r (.sr (.kn 1 16 r (.r0 results303 r ⟨(-1),r,hd⟩)))
 refine .sn 67 r (.seq (.sr (.kn 1 8195 r (.condP r hd (fun d hd=>?_) fun d hd=>?_))))
 · exact .sr (.kn 1 16 r (.r0 results303 r ⟨1,r,hd⟩))
 refine .sn 3 r (.seq (.sr (.kn 3 65539 r (.condP r hd (fun e hd=>?_) fun e hd=>?_))))
 · exact .sr (.kn 1 16 r (.r0 results303 r ⟨(-1),r,hd⟩))
 refine .sn 3 r (.seq (.sr (.kn 3 524288 r (.condP r hd (fun f hd=>?_) fun f hd=>?_))))
 · exact .sr (.kn 1 16 r (.r0 results303 r ⟨1,r,hd⟩))
 exact .sn 0 r (.sr (.kn 1 16 r (.r0 results303 r ⟨0,r,hd⟩)))
theorem gQ {a0 a1:AL} {Q:Int→Prop} (hd:PC a0 a1 Q) :
  BH prog 277 [.agg (E8 a0).toArray,.agg (E8 a1).toArray] I (fun _=>bI Q):=by
 refine Fun.en func277 ntmps277 r fun w0 M=>.sr (.bx r fun l=>.bx r fun m=>.kn 1 12 r (.seq (.dr [0,1,2,3,5,6,7,8,4,9,10,11] 12 (.fk 1 r (.hl U5 1 r (.fk 1 r (.hl U5 0 r (.fk 1 r (.hl DZ 1 r (.fk 1 r (.hl DZ 0 r (.ww r fun ex=>?_))))))))))))
 have b:=XG (I:=I) hd
 refine .cq call302 b r fun f hd=>.so 2 r r r (.ch r (fun _=>.lo DZ .z r .mk) (.ck 1 r r (.ch r (fun _=>.lo DZ .p1 r .mk) (.ck 1 r r tv)))) (.ww r fun ex=>?_)
 have c:=W6 (I:=I) hd
 refine .cq call303 c r fun a hd=>.so 2 r r r tv (.ww r fun ex=>.bs 2 BP DN qJ r fun i=>.so 3 r r r tv (.ww r fun ex=>.pubB (El:=BQ) (ys:=([f,a]:List Int)) (k:=2) .z (RepCs.cons (cs:=[.int .i64 f]) r (RepCs.cons (cs:=[.int .i64 a]) r .nil)) r fun j d g=>?_))
 have e:=MZ g hd
 exact .cq call113 e r fun h hd=>.so 2 r r r tv (.e2 12 (.kn 1 16 r (.drop .z (.drop .z (.r1 results277 r d ⟨h,r,hd⟩)))))
theorem Y4 {a0 a1:AL} {Q:AL→Prop} (hd:OC a0 a1 Q) :
  BH prog 236 [.agg (E8 a0).toArray,.agg (E8 a1).toArray] I (fun _=>qH Q):=by
 refine Fun.en func236 ntmps236 r fun w0 M=>.sr (.bx r fun e=>.bx r fun f=>.al CR r fun c=>.no 28 r (.seq (.sr (.lw B7 AG .p2 r (.lw B7 AG .p1 r ?_)))))
 have a:=gQ (I:=I) hd
 refine .cq call277 a r fun d hd=>.kn 1 284 r (.condP r hd (fun b hd=>?_) fun b hd=>?_)
 · exact .sr (.lw B7 AG .p2 r (.sa AG .z r (.no 16 r (.drop .p1 (.drop .p1 (.ret (B9 r (.w B7 AG r .z r .n) rf ⟨a0,r,hd⟩)))))))
 exact .sn 24 r (.drop .p2 (.sr (.lw B7 AG .p1 r (.sa AG .z r (.no 16 r (.drop .p1 (.ret (B9 r (.w B7 AG r .z r .n) rf ⟨a1,r,hd⟩))))))))
theorem PK {a0:Bool} {Q:AL→Prop} (hd:LQ a0 Q) :
  BH prog 237 [.bool a0] I (fun _=>qH Q):=by
 refine Fun.en func237 ntmps237 r fun w0 M=>.sr (.al CR r fun d=>.no 5 r (.seq (.sr (.kn 1 12 r (.condP r hd (fun a hd=>?_) fun a hd=>?_)))))
 · refine .sr ?_
   have b:=M7 (I:=I) hd
   exact .cq call183 b r fun c hd=>.sa AG .z r (.no 4 r (.ret (B9 r (.w B7 AG r .z r .n) rf ⟨c,r,hd⟩)))
 exact .sn 4 r (.sr (.bd CR KH KG r (.sa AG .z r (.no 4 r (.ret (B9 r (.w B7 AG r .z r .n) rf ⟨DS,r,hd⟩))))))
theorem aZ {a0:Bool} {Q:Int→Prop} (hd:QB a0 Q) :
  BH prog 278 [.bool a0] I (fun _=>AeB Q):=by
 refine Fun.en func278 ntmps278 r fun w0 M=>.sr (.kn 1 1 r (.seq (.sr (.kn 1 8 r (.condP r hd (fun a hd=>?_) fun a hd=>?_)))))
 · exact .sr (.kn 1 4 r (.r0 results278 r ⟨1,r,hd⟩))
 exact .sn 0 r (.sr (.kn 1 4 r (.r0 results278 r ⟨0,r,hd⟩)))
theorem gR {a0 a1:AL} {Q:AL→Prop} (hd:VA a0 a1 Q) :
  BH prog 238 [.agg (E8 a0).toArray,.agg (E8 a1).toArray] I (fun _=>qH Q):=by
 refine Fun.en func238 ntmps238 r fun w0 M=>.sr (.bx r fun d=>.bx r fun e=>.al CR r fun c=>.nk 28 1 r (.lo DZ .p2 r (.ks 1 r (.lo DZ .p1 r (.kn 2 60 r (.seq (.dr [0,1,2,3,4,5,6,7,8,9,10,14,11,12,13,15] 16 (.fk 1 r (.hl U5 2 r (.h r (fun _=>.conv jJ M4 r r r .mk) ?_))))))))))
 refine .fk 1 r (.hl U5 1 r (.h r (fun _=>.conv jJ M4 r r r .mk) (.fk 3 r (.hl DZ 1 r (.fk 2 r (.ww r fun ex=>?_))))))
 have a:=aZ (I:=I) hd
 refine .cq call278 a r fun b hd=>?_
 exact .so 3 r r r (.ck 2 r r (.ch r (fun _=>.conv jJ M4 r r r .mk) (.ch r (fun _=>.lo U5 .p1 r .mk) (.ck 1 r r (.ch r (fun _=>.conv jJ M4 r r r .mk) (.ch r (fun _=>.lo U5 .p2 r .mk) (.ck 1 r r tv))))))) (.fk 1 r (.h r (fun _=>.conv M4 jJ r r r .mk) (.h r (fun _=>.bd CR KH KG r .mk) (.e2 16 (.sa AG .z r (.no 16 r (.drop .p1 (.drop .p1 (.ret (B9 r (.w B7 AG r .z r .n) rf ⟨({ Hi:=A7 (IntKind.wrap .u64 ((IntKind.wrap .u64 ((IntKind.wrap .u64 (a0.Hi))+(IntKind.wrap .u64 (a1.Hi))))+b)),Lo:=IntKind.wrap .u64 (a0.Lo+a1.Lo) }:AL),r,hd⟩))))))))))
theorem YU {a0:Int} {a1 a2:AL} {Q:AL→Prop} (hd:SX a0 a1 a2 Q) :
  BH prog 184 [.int .i64 a0,.agg (E8 a1).toArray,.agg (E8 a2).toArray] I (fun _=>qH Q):=by
 refine Fun.en func184 ntmps184 r fun w0 M=>.sr (.bx r fun y=>.bx r fun A=>.al CR r fun v=>.no 113 r (.seq (.sr (.kn 1 240 r (.block (.seq (.jn hd [7,6,5,4] [2,1,0] r (fun j E l c=>j ((8,.bool c) :: E) l) (fun x hd=>?_) ?_)))))))
 · refine .sr (.kn 2 496 r (.condP r hd (fun d hd=>?_) fun d hd=>?_))
   · exact .skip' (je (a0==1) hd rf [2,1,0] r)
   refine .sr (.kn 2 496 r (.condP r hd (fun e hd=>?_) fun e hd=>?_))
   · exact .skip' (je (a0==3) hd rf [2,1,0] r)
   exact .region (.ks 2 r (.nil' (je (a0==4) hd rf [2,1,0] r)))
 refine fun c hd=>jq r fun b a=>.condP r hd (fun f hd=>?_) fun f hd=>?_
 · refine .sr (.lw B7 AG .z r (.lw B7 AG .p1 r ?_))
   have g:=Y4 (I:=b) hd
   exact .cq call236 g r fun q hd=>.sa AG .p2 r (.no 64 r (.drop .z (.drop .z (.ret (B9 r (.w B7 AG r .z r .n) a ⟨q,r,hd⟩)))))
 refine .sr (.kn 2 33008 r (.condP r hd (fun h hd=>?_) fun h hd=>?_))
 · refine .sr (.lw B7 AG .z r (.lw B7 AG .p1 r (.neV r r (jH a1 a2) (jI _ _ _ _ _) r r r (.ks 1 r (.spl hd [19,20] r (fun i hd=>?_) fun i hd=>?_)))))
   · refine .ks 4 r ?_
     have k:=PK (I:=b) hd
     exact .cq call237 k r fun s hd=>.sa AG .p2 r (.no 64 r (.drop .z (.drop .z (.ret (B9 r (.w B7 AG r .z r .n) a ⟨s,r,hd⟩)))))
   refine .yes r (.lw B7 AG .z r (.yes r (.bd CR KH KG r (.yes r (.neV r r (jH a1 DS) (jI _ _ _ _ _) r r r (.ks 1 r ?_))))))
   have m:=PK (I:=b) hd
   exact .cq call237 m r fun t hd=>.sa AG .p2 r (.no 64 r (.drop .z (.drop .z (.ret (B9 r (.w B7 AG r .z r .n) a ⟨t,r,hd⟩)))))
 refine .sr (.kn 2 67108976 r (.condP r hd (fun o hd=>?_) fun o hd=>?_))
 · refine .sr (.lw B7 AG .z r (.lw B7 AG .p1 r ?_))
   have p:=gR (I:=b) hd
   exact .cq call238 p r fun u hd=>.sa AG .p2 r (.no 64 r (.drop .z (.drop .z (.ret (B9 r (.w B7 AG r .z r .n) a ⟨u,r,hd⟩)))))
 exact .sn 64 r (.drop .z (.drop .z (.sr (.bd CR KH KG r (.sa AG .z r (.no 64 r (.ret (B9 r (.w B7 AG r .z r .n) a ⟨DS,r,hd⟩))))))))
theorem iJ {a0:AL} {Q:(Int×Bool)→Prop} (hd:VB a0 Q) :
  BH prog 239 [.agg (E8 a0).toArray] I (fun _=>o3_ Q):=by
 refine Fun.en func239 ntmps239 r fun w0 M=>.sr (.bx r fun d=>.ks 2 r (.nk 2 1 r (.lo DZ .z r (.conv M4 jJ r r r (.kn 1 18 r (.seq (.seq (.dr [0,2,1,3] 4 (.fk 1 r (.h r (fun _=>.lw B7 AG .z r .mk) (.ww r fun ex=>?_)))))))))))
 have a:=M7 (I:=I) hd
 refine .cq call183 a r fun c hd=>.so 1 r r r (.ch r (fun _=>.lw B7 AG .z r .mk) tv) (.h r (fun _=>.neV r r (jH c a0) (jI _ _ _ _ _) r r r .mk) (.e2 4 (.no 2064 r (.drop .z (.condP r hd (fun b hd=>?_) fun b hd=>?_)))))
 · exact .sr (.kn 2 12 r (.ret (B9 r (.t r (.t r .n)) rf ⟨(0,false),r,hd⟩)))
 exact .sn 16 r (.sr (.kn 3 12 r (.ret (B9 r (.t r (.t r .n)) rf ⟨(A7 (a0.Lo),true),r,hd⟩))))
theorem Y5 {a0:Int} {a1:AL} {Q:(Int×Bool)→Prop} (hd:LY a0 a1 Q) :
  BH prog 185 [.int .i64 a0,.agg (E8 a1).toArray] I (fun _=>o3_ Q):=by
 refine Fun.en func185 ntmps185 r fun w0 M=>.sr (.bx r fun c=>.ks 2 r (.ns 8 r (.lw B7 AG .z r ?_)))
 have a:=iJ (I:=I) hd
 exact .cq call239 a r fun b hd=>.kn 4 48 r (.drop .z (.ret (B9 r (.t r (.t r .n)) rf ⟨(b.1,b.2),r,hd⟩)))
theorem DQ {a0 a1:Int} {Q:Int→Prop} (hd:CY a0 a1 Q) :
  BH prog 114 [.int .i64 a0,.int .i64 a1] I (fun _=>bI Q):=by
 refine Fun.en func114 ntmps114 r fun w0 M=>.sk 1 r (.nk 3 1 r ?_)
 have g:=LK (I:=I) hd
 refine .cq call178 g r fun i hd=>.ks 1 r (.nk 35 1 r ?_)
 have a:=LK (I:=I) hd
 refine .cq call178 a r fun h hd=>.kn 1 99 r (.seq (.sr (.kn 1 2115 r (.condP r hd (fun b hd=>?_) fun b hd=>?_))))
 · refine .seq (.sr (.kn 1 4096 r (.condP r hd (fun c hd=>?_) fun c hd=>?_)))
   · exact .sr (.kn 1 16 r (.r0 results114 r ⟨0,r,hd⟩))
   exact .sn 0 r (.sr (.kn 1 16 r (.r0 results114 r ⟨(-1),r,hd⟩)))
 refine .sn 67 r (.seq (.sr (.kn 1 8195 r (.condP r hd (fun d hd=>?_) fun d hd=>?_))))
 · exact .sr (.kn 1 16 r (.r0 results114 r ⟨1,r,hd⟩))
 refine .sn 3 r (.seq (.sr (.kn 3 65539 r (.condP r hd (fun e hd=>?_) fun e hd=>?_))))
 · exact .sr (.kn 1 16 r (.r0 results114 r ⟨(-1),r,hd⟩))
 refine .sn 3 r (.seq (.sr (.kn 3 524288 r (.condP r hd (fun f hd=>?_) fun f hd=>?_))))
 · exact .sr (.kn 1 16 r (.r0 results114 r ⟨1,r,hd⟩))
 exact .sn 0 r (.sr (.kn 1 16 r (.r0 results114 r ⟨0,r,hd⟩)))
theorem pU {a0 a1:A1} {Q:Int→Prop} (hd:WS a0 a1 Q) :
  BH prog 288 [.agg (WR a0).toArray,.agg (WR a1).toArray] I (fun _=>bI Q):=by
 refine Fun.en func288 ntmps288 r fun w0 M=>.sr (.bx r fun l=>.bx r fun m=>.kn 1 12 r (.seq (.dr [0,1,2,3,5,6,7,8,4,9,10,11] 12 (.fk 1 r (.hl AP 1 r (.fk 1 r (.hl AP 0 r (.fk 1 r (.hl AP 1 r (.fk 1 r (.hl AP 0 r (.ww r fun ex=>?_))))))))))))
 have b:=DQ (I:=I) hd
 refine .cq call114 b r fun f hd=>.so 2 r r r (.ch r (fun _=>.lo AP .z r .mk) (.ck 1 r r (.ch r (fun _=>.lo AP .p1 r .mk) (.ck 1 r r tv)))) (.ww r fun ex=>?_)
 have c:=DQ (I:=I) hd
 refine .cq call114 c r fun a hd=>.so 2 r r r tv (.ww r fun ex=>.bs 2 BP DN qJ r fun i=>.so 3 r r r tv (.ww r fun ex=>.pubB (El:=BQ) (ys:=([f,a]:List Int)) (k:=2) .z (RepCs.cons (cs:=[.int .i64 f]) r (RepCs.cons (cs:=[.int .i64 a]) r .nil)) r fun j d g=>?_))
 have e:=MZ g hd
 exact .cq call113 e r fun h hd=>.so 2 r r r tv (.e2 12 (.kn 1 16 r (.drop .z (.drop .z (.r1 results288 r d ⟨h,r,hd⟩)))))
theorem mT {a0:Int} {a1:List A1} {Q:((List A1)×Int)→Prop} (R3:RepSl B5 I p1 c2 a1) (hd:QC a0 a1 Q) :
  BH prog 257 [.int .i64 a0,.slice p1 a1.length c2] I (fun I_ v=>∃ r p4 c5,v=.tuple #[.slice p4 r.1.length c5,.int .i64 r.2]∧RepSl B5 I_ p4 c5 r.1∧Q r):=by
 refine Fun.en func257 ntmps257 r fun w0 M=>?_
 refine .sk 2 r (.ns 3 r (.mkMap CL OA true r r fun b9=>?_))
 refine .kn 1 67 r (.seq (.sk 1 r (.ln D5 r (.kn 1 3670081 r (.block (.lp hd [20,19,6,0] [] r (fun j E l (e,g)=>j ((21,.int .i64 g) :: E) (OwnMap CL OA true b9 e :: l)) (ji rf [0] r) ?_))))))
 rintro ⟨e,g⟩ b6 hd
 refine jq r fun D d=>?_
 have R3:=d.u1 R3
 refine .sr (.kn 1 7864385 r (.seq (.condP r hd (fun K hd=>?_) fun K hd=>?_)))
 · refine .sn 3670081 r (.seq (.block (.sr ?_)))
   obtain ⟨b0,b,L,b314,o315,b1,N,hd⟩:=R3.ix hd
   refine .ixb D5 D8 b1 b0 L r (.ldW isAgg103 D8 N r r r r (.al HT r fun b320=>?_))
   refine .sa D8 .z r (.nk 3670337 1 r (.lo AP .z r (.ks 1 r (.lo AP .z r (.ba H3 HK DN r (.al H3 r fun b324=>?_))))))
   refine .sa H1 .z r (.nk 3670849 1 r (.lo U5 .p1 r ?_))
   have O:=M7 (I:=D) hd
   refine .cq call183 O r fun h hd=>?_
   refine .al CR r fun b336=>?_
   refine .sa AG .z r (.no 3671617 r (.drop .p2 (.seq (.sk 1 r (.lw MU H1 .p1 r (.lookM2 (k:=(b.Row,b.Col)) (El:=OA) (ag:=true) (zv:=.agg #[.int .i64 0,.int .u64 0]) (z:=DS) dF uA CR ⟨[.int .i64 0,.int .u64 0],r,.a⟩ .p2 r r hd r r fun v341 r338 t343 cs342 hd P R=>?_))))))
   cases P
   cases R
   refine .ks 3 r (.al CR r fun b344=>?_)
   refine .sa AG .z r (.ks 1 r (.nk 3677761 1 r (.no 549759487553 r (.condP r hd (fun S hd=>?_) fun S hd=>?_))))
   · refine .region (.ks 1 r (.lw B7 AG .z r (.lw B7 AG .p1 r ?_)))
     have U:=YU (I:=D) hd
     refine .cq call184 U r fun m hd=>?_
     refine .sa AG .p1 r (.no 3671617 r (.drop .z (.region (.ks 1 r (.lw MU H1 .p1 r (.lw B7 AG .z r (.updM (k:=(b.Row,b.Col)) (El:=OA) (ag:=true) (v:=m) dF uA .p2 r r r ⟨[.int .i64 m.Hi,.int .u64 m.Lo],r,.a⟩ (.no 3670081 r (.drop .z ?_)))))))))
     exact .drop .z (.region (.ks 2 r (.nil' (je ((FC (b.Row,b.Col) m e),A7 (g+1)) hd d [0] r))))
   refine .sn 3671617 r (.drop .z (.region (.ks 1 r (.lw MU H1 .p1 r (.lw B7 AG .z r (.updM (k:=(b.Row,b.Col)) (El:=OA) (ag:=true) (v:=h) dF uA .p2 r r r ⟨[.int .i64 h.Hi,.int .u64 h.Lo],r,.a⟩ (.no 3670081 r (.drop .z (.drop .z ?_)))))))))
   exact .region (.ks 2 r (.nil' (je ((FC (b.Row,b.Col) h e),A7 (g+1)) hd d [0] r)))
 refine .en 65 r (.sr (.kn 1 8257 r (.seq (.sk 1 r (.rangeM uA .z r r r fun b2=>?_)))))
 refine .no 562949953429505 r (.block (.own0 B5 103 (.lx hd [49,0] [] r (fun j E l (p,F)=>fun c w=>∃ q s,j ⟨75,[],none⟩ (fun I_=>True) ((13,.slice q p.length s) :: E) (OwnSl B5 103 q s p :: OwnIt CL OA true b9 b2 e F none :: l) c w) (fun c w ho hs=>⟨_,_,jf rf tv [0,0] r ho hs⟩) ?_)))
 rintro ⟨p,F⟩ b7 hd c w ⟨q,s,G,u,_,hok,hsym⟩
 have B:=u.u1 d
 refine Cod.at hok hsym (.sr (.nextM .p1 r hd r r (fun hd V=>?_) (fun A b3 v483 cs484 hd W X V=>?_)))
 · refine .kn 1 2814749767114753 r (.seq (.condKF r r (.en 8192 r (.drop .p1 (.sk 1 r ?_)))))
   have Y:=Fun.sort (hk:=fun _=>⟨r,r⟩) AeK isAgg103 D8 (fun x y J Q hq=>pU (I:=J) (a0:=x) (a1:=y) (Q:=Q) hq) call288 (I:=G) (T:=103) (a:=q) (cap:=s) hd
   refine .callS (.f call287 r) (.o [0] r) Y r r fun v489 I490 l491 Z a2=>?_
   obtain ⟨b4,rfl,C,rfl,hd⟩:=a2
   obtain ⟨a3,a4⟩:=Z.u2 B u
   refine .rl .z [13,72] r (by rw [C]) (.nk 8192 3 r (.no 48 r (.pub .z fun I498 a5 b5=>?_)))
   obtain ⟨a6,le502⟩:=a5.u2 a3 a4
   exact .ret (B9 r (.t r (.t r .n)) a6 ⟨(b4,0),_,_,r,b5,hd⟩)
 cases W
 cases X
 refine .kn 1 2814749767114753 r (.seq (.condKT r r (.sn 562949953429505 r (.block (.sr (.entryM .z r r r (.ks 2 r (.al H3 r fun b507=>?_))))))))
 refine .al CR r fun b509=>?_
 refine .sa H1 .p1 r (.sa AG .z r (.nk 562949953478657 1 r (.lw B7 AG .z r ?_)))
 have a7:=Y5 (I:=G) hd
 refine .cq call185 a7 r fun H hd=>?_
 refine .kn 5 562949953642497 r (.drop .z (.seq (.sr (.kn 2 4612248968380899329 r (.condP r hd (fun a8 hd=>?_) fun a8 hd=>?_)))))
 · exact .sr (.kn 2 48 r (.drop .z (.drop .z (.drop .z (.ret (B9 r (.t r (.t r .n)) B ⟨(([]:List A1),12),_,_,r,(.nil _ _ _),hd⟩))))))
 refine .sn 562949953511425 r (.region (.ks 1 r (.ixArr (i:=0) HK DN r r (by decide) (o:=0) r r r (.lo AP .z r (.ixArr (i:=1) HK DN r r (by decide) (o:=1) r r r (.lo AP .z r (.ks 1 r (.bd HT VU VR r (.bs 1 D5 D8 HT r fun b520=>?_)))))))))
 obtain ⟨a9,hd⟩:=hd
 refine .append (ys:=[({ Row:=A.1.1,Col:=A.1.2,Val:=H.1 }:A1)]) 24 .p3 D5 D5 UQ r r r r r r r r r (.box .z (.one r) r) a9 r r fun p523 c524=>?_
 exact .ks 1 r (.nil' fun c w ho hs=>⟨((p++([({ Row:=A.1.1,Col:=A.1.2,Val:=H.1 }:A1)])),b3),hd,_,_,jf u tv [0,2] r ho hs⟩)
theorem gS {o0 o1:Int} {a0:A1} {Q:Bool→Prop} (hd:TM o0 o1 a0 Q) :
  Fun prog 256 #[.agg (WR a0).toArray,.pointer (some ⟨b3,0,none⟩),.pointer (some ⟨b4,0,none⟩)] I [pto b3 (.cells #[.int .i64 o0] 3 (0,0)),pto b4 (.cells #[.int .i64 o1] 3 (0,0))] (fun I_ v l=>∃ r,v=.bool r∧l=[pto b3 (.cells #[.int .i64 o0] 3 (0,0)),pto b4 (.cells #[.int .i64 o1] 3 (0,0))]∧Q r):=by
 refine Fun.en func256 ntmps256 r fun w0 M=>?_
 refine .sr (.bx r fun g=>?_)
 refine .ks 1 r (.nk 14 1 r (.lo AP .z r (.lo AP .p1 r (.ks 1 r ?_))))
 have a:=GP (I:=I) hd
 refine .cq call167 a r fun h hd=>?_
 refine .ks 2 r (.spl hd [10,11] r (fun b hd=>?_) fun b hd=>?_)
 · exact .kn 8 22 r (.drop .z (.q1 results256 rf [0,0] r ⟨true,r,r,hd⟩))
 refine .ks 1 r (.yes r (.lo AP .z r (.yes r (.lo AP .p2 r (.ks 1 r ?_)))))
 have c:=GP (I:=I) hd
 refine .yes r (.callP call167 r c r r fun f d=>?_)
 obtain ⟨e,rfl,hd⟩:=d
 exact .kn 3 22 r (.drop .z (.q1 results256 rf [0,0] r ⟨(!e),r,r,hd⟩))
theorem HL {o0 o1:Int} {a0:List A1} {Q:Int→Prop} (R7:RepSl B5 I p5 c6 a0) (hd:CU o0 o1 a0 Q) :
  Fun prog 286 #[.slice p5 a0.length c6,.func (.func 256) #[] #[.pointer (some ⟨b3,0,none⟩),.pointer (some ⟨b4,0,none⟩)]] I [pto b3 (.cells #[.int .i64 o0] 3 (0,0)),pto b4 (.cells #[.int .i64 o1] 3 (0,0))] (fun I_ v l=>∃ r,v=.int .i64 r∧l=[pto b3 (.cells #[.int .i64 o0] 3 (0,0)),pto b4 (.cells #[.int .i64 o1] 3 (0,0))]∧Q r):=by
 refine Fun.en func286 ntmps286 r fun w0 M=>?_
 refine .sr (.kn 1 3 r (.seq (.sk 1 r (.ln D5 r (.kn 1 387 r (.block (.lp hd [7,1,0] [0,0] r (fun j E l d=>j ((8,.int .i64 d) :: E) l) (ji rf [0,0] r) ?_)))))))
 refine fun d n hd=>jq r fun p a=>?_
 have R7:=a.u1 R7
 refine .sr (.kn 1 899 r (.seq (.condP r hd (fun f hd=>?_) fun f hd=>?_)))
 · refine .sn 387 r (.seq (.block (.sk 2 r (.nk 419 3 r ?_))))
   obtain ⟨q,t,g,u,o59,s,b,hd⟩:=R7.ix hd
   refine .ixb D5 D8 s q g r (.ldW isAgg103 D8 b r r r r ?_)
   have h:=gS (I:=p) (b3:=b3) (b4:=b4) hd
   refine .callS (.c call256 r r) (.o [0,0] r) h r r fun w x y i k=>?_
   obtain ⟨z,rfl,rfl,hd⟩:=k
   obtain ⟨e,R7,b⟩:=i.u3 a R7 b
   refine .rn 2 r (.no 65955 r (.condP r hd (fun m hd=>?_) fun m hd=>?_))
   · exact .sr (.kn 2 18 r (.q1 results286 e [0,0] r ⟨d,r,r,hd⟩))
   exact .sn 387 r (.region (.ks 2 r (.nil' (je (A7 (d+1)) hd e [0,0] r))))
 exact .en 2 r (.sr (.kn 1 18 r (.q1 results286 a [0,0] r ⟨(-1),r,r,hd⟩)))
theorem GQ {o0 o1:Int} {a0:List A1} {Q:Bool→Prop} (R7:RepSl B5 I p5 c6 a0) (hd:CQ o0 o1 a0 Q) :
  Fun prog 255 #[.slice p5 a0.length c6,.func (.func 256) #[] #[.pointer (some ⟨b3,0,none⟩),.pointer (some ⟨b4,0,none⟩)]] I [pto b3 (.cells #[.int .i64 o0] 3 (0,0)),pto b4 (.cells #[.int .i64 o1] 3 (0,0))] (fun I_ v l=>∃ r,v=.bool r∧l=[pto b3 (.cells #[.int .i64 o0] 3 (0,0)),pto b4 (.cells #[.int .i64 o1] 3 (0,0))]∧Q r):=by
 refine Fun.en func255 ntmps255 r fun w0 M=>?_
 refine .sk 1 r (.nk 3 2 r ?_)
 have c:=HL  (b3:=b3) (b4:=b4) R7 hd
 refine .callS (.f call286 r) (.o [0,0] r) c r r fun e h g a b=>?_
 obtain ⟨d,rfl,rfl,hd⟩:=b
 have R7:=a.u1 R7
 exact .rn 2 r (.kn 2 18 r (.q1 results255 a [0,0] r ⟨(decide (0≤d)),r,r,hd⟩))
theorem gT {a0 a1 a2:Int} {a3:List A1} {Q:(Rows×Int)→Prop} (R3:RepSl B5 I p1 c2 a3) (hd:QD a0 a1 a2 a3 Q) :
  BH prog 208 [.int .i64 a0,.int .i64 a1,.int .i64 a2,.slice p1 a3.length c2] I (o8_ Q):=by
 refine Fun.en func208 ntmps208 r fun w0 M=>?_
 refine .sr (.box1 r r r r fun R=>?_)
 refine .box1 r r r r fun S=>?_
 refine .al CF r fun a9=>?_
 refine .kn 1 361 r (.seq (.block (.sk 1 r ?_)))
 have H:=PZ (I:=I) hd
 refine .cq call100 H r fun b0 hd=>?_
 refine .kn 2 4457 r (.condP r hd (fun J hd=>?_) fun J hd=>?_)
 · exact .sr (.bd CF FJ FI r (.sa AE .z r (.kn 1 768 r (.drop .p1 (.drop .p1 (.ret (B9 r (.w B6 AE r .z r (.t r .n)) rf ⟨(B1,8),((_,_),(_,_),(_,_)),r,⟨(.nil _ _ _),(.nil _ _ _),(.nil _ _ _)⟩,hd⟩)))))))
 refine .seq (.jn hd [8,6,5,3,0] [2,1,0] r (fun j E l G=>j ((17,.bool G) :: E) l) (fun b1 hd=>?_) ?_)
 · refine .region (.lo AP .p2 r ?_)
   have K:=GP (I:=I) hd
   refine .cq call167 K r fun b2 hd=>?_
   refine .ks 2 r (.spl hd [20,21] r (fun e hd=>?_) fun e hd=>?_)
   · exact .ks 5 r (.nil' (je true hd rf [2,1,0] r))
   refine .yes r (.lo AP .p1 r ?_)
   have g:=GP (I:=I) hd
   refine .yes r (.callP call167 r g r r fun T h=>?_)
   obtain ⟨L,rfl,hd⟩:=h
   exact .ks 3 r (.nil' (je (!L) hd rf [2,1,0] r))
 refine fun G hd=>jq r fun U a=>?_
 have R3:=a.u1 R3
 refine .condP r hd (fun i hd=>?_) fun i hd=>?_
 · exact .sr (.bd CF FJ FI r (.sa AE .p2 r (.kn 1 768 r (.drop .z (.drop .z (.ret (B9 r (.w B6 AE r .z r (.t r .n)) a ⟨(B1,3),((_,_),(_,_),(_,_)),r,⟨(.nil _ _ _),(.nil _ _ _),(.nil _ _ _)⟩,hd⟩)))))))
 refine .sk 1 r (.ln D5 r (.kn 2 134218089 r (.condP r hd (fun k hd=>?_) fun k hd=>?_)))
 · exact .sr (.bd CF FJ FI r (.sa AE .p2 r (.kn 1 768 r (.drop .z (.drop .z (.ret (B9 r (.w B6 AE r .z r (.t r .n)) a ⟨(B1,5),((_,_),(_,_),(_,_)),r,⟨(.nil _ _ _),(.nil _ _ _),(.nil _ _ _)⟩,hd⟩)))))))
 refine .sk 1 r (.mkFn r r r r ?_)
 have m:=GQ  (b3:=R) (b4:=S) R3 hd
 refine .callS (.f call255 r) (.o [0,0] r) m r r fun V W X p q=>?_
 obtain ⟨Y,rfl,rfl,hd⟩:=q
 obtain ⟨c,R3⟩:=p.u2 a R3
 refine .rn 3 r (.kn 1 4294967657 r (.condP r hd (fun s hd=>?_) fun s hd=>?_))
 · exact .sr (.bd CF FJ FI r (.sa AE .p2 r (.kn 1 768 r (.drop .z (.drop .z (.ret (B9 r (.w B6 AE r .z r (.t r .n)) c ⟨(B1,3),((_,_),(_,_),(_,_)),r,⟨(.nil _ _ _),(.nil _ _ _),(.nil _ _ _)⟩,hd⟩)))))))
 refine .sn 361 r (.sk 2 r ?_)
 have u:=mT R3 hd
 refine .call call257 r u r r fun Z a4 v x=>?_
 obtain ⟨N,a5,a6,rfl,b,hd⟩:=x
 obtain ⟨d,R3⟩:=v.u2 c R3
 refine .kn 5 3424 r (.seq (.sr (.kn 2 17592186047840 r (.condP r hd (fun y hd=>?_) fun y hd=>?_))))
 · exact .sr (.bd CF FJ FI r (.ks 1 r (.sa AE .p2 r (.kn 1 768 r (.drop .z (.drop .z (.ret (B9 r (.w B6 AE r .z r (.t r .n)) d ⟨(B1,N.2),((_,_),(_,_),(_,_)),r,⟨(.nil _ _ _),(.nil _ _ _),(.nil _ _ _)⟩,hd⟩))))))))
 refine .sn 1376 r (.sr (.lo AP .z r (.lo AP .p1 r (.ks 1 r ?_))))
 have A:=dN b hd
 refine .call call194 r A r r fun a7 a8 B C=>?_
 obtain ⟨O,D,rfl,P,hd⟩:=C
 obtain ⟨F,b⟩:=B.u2 d b
 exact .sa AE .p2 r (.kn 1 768 r (.drop .z (.drop .z (.ret (B9 r (.w B6 AE r .z r (.t r .n)) F ⟨(O,0),D,r,P,hd⟩)))))
theorem pV {a0:List Rows} {Q:(List Rows)→Prop} (R3:RepSl nU I p1 c2 a0) (hd:WT a0 Q) :
  BH prog 265 [.slice p1 a0.length c2] I (fun I_ v=>∃ r p4 c5,v=.slice p4 r.length c5∧RepSl nU I_ p4 c5 r∧Q r):=by
 refine Fun.en func265 ntmps265 r fun w0 M=>?_
 refine .sk 1 r (.nk 1 1 r (.no 9 r (.seq (.sk 1 r (.ln QP r (.kn 1 456 r (.block (.own0 nU 33 (.lx hd [7,6] [] r (fun j E l (a,e)=>fun c w=>∃ f g,j ⟨25,[],none⟩ (fun I_=>True) ((3,.slice f a.length g) :: (8,.int .i64 e) :: E) (OwnSl nU 33 f g a :: l) c w) (fun c w ho hs=>⟨_,_,jf rf tv [0] r ho hs⟩) ?_)))))))))
 rintro ⟨a,e⟩ K hd c w ⟨f,g,N,b,_,hok,hsym⟩
 have R3:=b.u1 R3
 refine Cod.at hok hsym (.sr (.kn 1 968 r (.seq (.condP r hd (fun m hd=>?_) fun m hd=>?_))))
 · refine .sn 456 r (.seq (.block (.sr ?_)))
   obtain ⟨F,i,h,hd⟩:=hd
   obtain ⟨O,o160,L,G,n,o,rfl,d⟩:=R3.2 _ _ h
   refine .ixb QP AE G F h r (.ldW B6 AE n r r r r (.al CF r fun P=>?_))
   refine .sa AE .z r (.no 488 r (.seq (.sr (.lw B6 AE .z r ?_))))
   have p:=M6 d hd
   refine .cq call101 p r fun R hd=>?_
   refine .kn 1 16872 r (.condP r hd (fun q hd=>?_) fun q hd=>?_)
   · refine .region (.lw B6 AE .z r (.ba H3 HK DN r (.ba H3 HK DN r ?_)))
     have s:=Q2 d hd
     refine .call call139 r s r r fun S T t u=>?_
     obtain ⟨k,x,rfl,H,hd⟩:=u
     obtain ⟨y,R3,d⟩:=t.u3 b R3 d
     refine .sa AE .z r (.no 488 r (.region (.ks 1 r (.lw B6 AE .z r (.bs 1 QP AE CF r fun U=>?_)))))
     obtain ⟨A,hd⟩:=hd
     refine .append (ys:=[k]) 88 .p2 QP QP AdR r r r r r r r r r (.box .z (.one ⟨x,r,H⟩) r) A r r fun V W=>?_
     exact .kn 1 456 r (.drop .p1 (.drop .p1 (.region (.ks 2 r (.nil' fun c w ho hs=>⟨((a++([k])),A7 (e+1)),hd,_,_,jf y tv [0] r ho hs⟩)))))
   refine .sn 488 r (.region (.ks 1 r (.lw B6 AE .z r (.bs 1 QP AE CF r fun X=>?_))))
   obtain ⟨B,hd⟩:=hd
   refine .append (ys:=[i]) 88 .p2 QP QP AdR r r r r r r r r r (.box .z (.one ⟨o,r,d⟩) r) B r r fun Y Z=>?_
   exact .kn 1 456 r (.drop .p1 (.drop .p1 (.region (.ks 2 r (.nil' fun c w ho hs=>⟨((a++([i])),A7 (e+1)),hd,_,_,jf b tv [0] r ho hs⟩)))))
 refine .en 8 r (.sr (.kn 2 4 r (.pub .z fun a1 C J=>?_)))
 have D:=C.u1 b
 exact .r1 results265 r D ⟨a,_,_,r,J,hd⟩
theorem W7 {a0:Rows} {a1:Int} {Q:((List Int)×(List Int))→Prop} (R2:NX I ga1 a0) (hd:PS a0 a1 Q) :
  BH prog 266 [.agg (F8 a0 ga1),.int .i64 a1] I (Ae6 Q):=by
 refine Fun.en func266 ntmps266 r fun w0 M=>.sr (.bx r fun B=>.kn 2 6 r (.seq (.dr [0,1,2,3,4,5,6,7,8,9,10,11] 12 (.fk 1 r (.hl DY 0 r (.fk 1 r ?_))))))
 obtain ⟨l,b,g,C,o35,m,i,hd⟩:=R2.1.ix hd
 refine .h r (fun _=>.ixb BP DN m l g r .mk) (.h r (fun _=>.ldb 0 AP i r .mk) (.fk 1 r (.hl DY 0 r (.fk 2 r ?_))))
 obtain ⟨o,a,j,D,o44,p,k,hd⟩:=R2.1.ix hd
 refine .h r (fun _=>.ixb BP DN p o j r .mk) (.h r (fun _=>.ldb 0 AP k r .mk) (.fk 1 r (.e2 12 (.kn 1 196 r (.seq (.dr [0,1,2,3,4,5,6,7,8,9,10,11,12] 13 (.fk 1 r (.hl DY 0 r (.fk 3 r ?_)))))))))
 obtain ⟨q,E,F,hd⟩:=hd
 have c:Int.toNat b≤Int.toNat a:=by omega
 have d:Int.toNat a≤a0.Col.length:=by omega
 obtain ⟨G,J,s,u,v⟩:=RepSl.sliceW R2.2.1 (Int.toNat b) (Int.toNat a) (Int.toNat a) c d (.inr rfl)
 refine .h r (fun _=>.sliceW (L:=Int.toNat b) (H:=Int.toNat a) (cm:=Int.toNat a) BP DN r r R2.2.1.1 r r r (.inr ⟨_,_,r,q,r⟩) (.inr ⟨_,_,r,(by omega),r⟩) (.inr r) c d r s u r r .mk) (.fk 1 r (.hl aI 0 r (.fk 3 r ?_)))
 obtain ⟨w,K,N,hd⟩:=hd
 have e:Int.toNat b≤Int.toNat a:=by omega
 have f:Int.toNat a≤a0.Val.length:=by omega
 obtain ⟨O,P,x,y,A⟩:=RepSl.sliceW R2.2.2 (Int.toNat b) (Int.toNat a) (Int.toNat a) e f (.inr rfl)
 exact .h r (fun _=>.sliceW (L:=Int.toNat b) (H:=Int.toNat a) (cm:=Int.toNat a) NQ qI r r R2.2.2.1 r r r (.inr ⟨_,_,r,w,r⟩) (.inr ⟨_,_,r,(by omega),r⟩) (.inr r) e f r x y r r .mk) (.fk 1 r (.e2 13 (.kn 1 48 r (.drop .z (.ret (B9 r (.t r (.t r .n)) rf ⟨(((a0.Col.take a.toNat).drop b.toNat),((a0.Val.take a.toNat).drop b.toNat)),_,_,_,_,r,v,A,hd⟩))))))
theorem IQ {a0:Int} {Q:(Int×Int)→Prop} (hd:GD a0 Q) :
  BH prog 341 [.int .u64 a0] I (fun I_ v=>∃ r,v=.agg #[.int .u64 r.1,.int .u64 r.2]∧Q r):=by
 exact Fun.en func341 ntmps341 r fun w0 M=>.sr (.al jT r fun a=>.nk 5 1 r (.shl' r r (by decide) r r (.shr' r r (by decide) r r (.ks 1 r (.shr' r r (by decide) r r (.ba jT KI KJ r (.sa sizeOf351 .z r (.no 4 r (.ret (B9 r (.w isAgg351 sizeOf351 r .z r .n) rf ⟨(shr .u64 (shl .u64 a0 32) 32,shr .u64 a0 32),r,hd⟩))))))))))
theorem gU {a0 a1:Int} {Q:AL→Prop} (hd:PD a0 a1 Q) :
  BH prog 326 [.int .u64 a0,.int .u64 a1] I (fun _=>qH Q):=by
 refine Fun.en func326 ntmps326 r fun w0 M=>.sr (.al CR r fun y=>.nk 19 1 r ?_)
 have d:=IQ (I:=I) hd
 refine .cq call341 d r fun l hd=>.ks 1 r ?_
 have e:=IQ (I:=I) hd
 refine .cq call341 e r fun m hd=>.al jT r fun s=>.al jT r fun t=>.sa sizeOf351 .p1 r (.sa sizeOf351 .z r (.ns 112 r (.ixArr (i:=0) KI KJ r r (by decide) (o:=0) r r r (.lo DZ .p1 r (.ixArr (i:=0) KI KJ r r (by decide) (o:=0) r r r (.lo DZ .z r (.kn 2 240 r (.seq (.dr [0,1,2,3,4,5,10,6,7,8,9,999] 11 ?_)))))))))
 refine .h r (fun _=>.ixArr (i:=1) KI KJ r r (by decide) (o:=1) r r r .mk) (.hl DZ 1 r (.h r (fun _=>.ixArr (i:=0) KI KJ r r (by decide) (o:=0) r r r .mk) (.hl DZ 0 r (.fk 2 r (.a (fun b=>.pointer (some ⟨b,0,none⟩)) (fun b=>pto b (.cells #[.int .u64 0,.int .u64 0] 351 (0,0))) r r r r (fun _ L hL ex=>.al jT r fun b=>.mk (val:=fun b=>.pointer (some ⟨b,0,none⟩)) (atom:=fun b=>pto b (.cells #[.int .u64 0,.int .u64 0] 351 (0,0))) hL b) (.ww r fun ex=>?_))))))
 have f:=IQ (I:=I) hd
 refine .cq call341 f r fun u hd=>.so 3 r r r (.ck 1 r r (.ch r (fun _=>.lo DZ .z r .mk) (.ch r (fun _=>.ixArr (i:=0) KI KJ r r (by decide) (o:=0) r r r .mk) (.ch r (fun _=>.lo DZ .p1 r .mk) (.ch r (fun _=>.ixArr (i:=1) KI KJ r r (by decide) (o:=1) r r r .mk) tv))))) (.h r (fun _=>.index1 (i:=1) KI KJ DZ r r (by decide) r r r .mk) (.fk 1 r (.ww r fun ex=>?_)))
 have g:=IQ (I:=I) hd
 refine .cq call341 g r fun p hd=>.so 3 r r r tv (.b r fun v=>DrawD.nop (.e2 11 (.sa sizeOf351 .p3 r (.ns 496 r (.ixArr (i:=0) KI KJ r r (by decide) (o:=0) r r r (.lo DZ .p1 r (.ixArr (i:=1) KI KJ r r (by decide) (o:=1) r r r (.lo DZ .z r (.ks 1 r (.ixArr (i:=0) KI KJ r r (by decide) (o:=0) r r r (.lo DZ .p3 r (.ks 1 r ?_))))))))))))
 have j:=IQ (I:=I) hd
 refine .cq call341 j r fun c hd=>.al jT r fun x=>.sa sizeOf351 .z r (.no 1008 r (.seq (.dr [0,1,2,3,4,5,6,7,8,9,10,11,12,13,14,15,16,17,18,19] 20 (.h r (fun _=>.ixArr (i:=1) KI KJ r r (by decide) (o:=1) r r r .mk) (.hl DZ 2 r (.h r (fun _=>.ixArr (i:=1) KI KJ r r (by decide) (o:=1) r r r .mk) (.hl DZ 1 r (.fk 1 r (.h r (fun _=>.ixArr (i:=1) KI KJ r r (by decide) (o:=1) r r r .mk) ?_)))))))))
 refine .hl DZ 4 r (.fk 1 r (.h r (fun _=>.ixArr (i:=1) KI KJ r r (by decide) (o:=1) r r r .mk) (.hl DZ 0 r (.fk 1 r (.h r (fun _=>.conv M4 jJ r r r .mk) (.h r (fun _=>.ixArr (i:=0) KI KJ r r (by decide) (o:=0) r r r .mk) (.hl DZ 0 r (.h r (fun _=>.shl' r r (by decide) r r .mk) (.fk 1 r (.ww r fun ex=>?_))))))))))
 have k:=IQ (I:=I) hd
 refine .cq call341 k r fun q hd=>?_
 refine .so 5 r r r (.ch r (fun _=>.shl' r r (by decide) r r .mk) (.ch r (fun _=>.lo DZ .z r .mk) (.ch r (fun _=>.ixArr (i:=0) KI KJ r r (by decide) (o:=0) r r r .mk) (.ch r (fun _=>.conv M4 jJ r r r .mk) (.ck 1 r r (.ch r (fun _=>.lo DZ .z r .mk) (.ch r (fun _=>.ixArr (i:=1) KI KJ r r (by decide) (o:=1) r r r .mk) (.ck 1 r r (.ch r (fun _=>.lo DZ .p4 r .mk) (.ch r (fun _=>.ixArr (i:=1) KI KJ r r (by decide) (o:=1) r r r .mk) (.ck 1 r r (.ch r (fun _=>.lo DZ .p1 r .mk) (.ch r (fun _=>.ixArr (i:=1) KI KJ r r (by decide) (o:=1) r r r .mk) (.ch r (fun _=>.lo DZ .p2 r .mk) (.ch r (fun _=>.ixArr (i:=1) KI KJ r r (by decide) (o:=1) r r r .mk) tv))))))))))))))) (.h r (fun _=>.index1 (i:=0) KI KJ DZ r r (by decide) r r r .mk) (.fk 1 r (.h r (fun _=>.bd CR KH KG r .mk) (.e2 20 (.sa AG .p3 r (.no 16 r (.drop .z (.drop .z (.drop .z ?_)))))))))
 exact .drop .p1 (.ret (B9 r (.w B7 AG r .z r .n) rf ⟨({ Hi:=A7 (IntKind.wrap .u64 ((IntKind.wrap .u64 ((IntKind.wrap .u64 (l.2*m.2))+p.2))+c.2)),Lo:=bor .u64 (shl .u64 c.1 32) q.1 }:AL),r,hd⟩))
theorem dO {a0:Int} {Q:Int→Prop} (hd:SY a0 Q) :
  BH prog 327 [.int .i64 a0] I (fun _=>AeB Q):=by
 refine Fun.en func327 ntmps327 r fun w0 M=>.sr (.kn 1 1 r (.seq (.sr (.kn 2 17 r (.condP r hd (fun a hd=>?_) fun a hd=>?_)))))
 · exact .sk 1 r (.conv jJ M4 r r r (.neg r r r (.kn 1 4 r (.r0 results327 r ⟨(IntKind.wrap .u64 (0 - (IntKind.wrap .u64 (a0)))),r,hd⟩))))
 exact .sn 1 r (.sk 1 r (.conv jJ M4 r r r (.kn 1 4 r (.r0 results327 r ⟨(IntKind.wrap .u64 (a0)),r,hd⟩))))
theorem sH {a0 a1:AL} {Q:AL→Prop} (hd:ZJ a0 a1 Q) :
  BH prog 328 [.agg (E8 a0).toArray,.agg (E8 a1).toArray] I (fun _=>qH Q):=by
 refine Fun.en func328 ntmps328 r fun w0 M=>.sr (.bx r fun d=>.bx r fun e=>.al CR r fun c=>?_)
 refine .no 28 r (.seq (.dr [0,1,2,3,4,5,6,7,8,9,10,11,15,16,17,18,19,12,13,14,20] 21 (.fk 1 r (.hl U5 2 r (.h r (fun _=>.conv jJ M4 r r r .mk) (.fk 1 r (.hl U5 1 r (.h r (fun _=>.conv jJ M4 r r r .mk) (.fk 2 r ?_)))))))))
 refine .hl DZ 2 r (.fk 1 r (.hl DZ 1 r (.fk 2 r (.hl DZ 2 r (.fk 1 r (.hl DZ 1 r (.fk 1 r (.ww r fun ex=>?_))))))))
 have a:=aZ (I:=I) hd
 refine .cq call278 a r fun b hd=>?_
 exact .so 3 r r r (.ck 1 r r (.ch r (fun _=>.lo DZ .p1 r .mk) (.ck 1 r r (.ch r (fun _=>.lo DZ .p2 r .mk) (.ck 2 r r (.ch r (fun _=>.conv jJ M4 r r r .mk) (.ch r (fun _=>.lo U5 .p1 r .mk) (.ck 1 r r (.ch r (fun _=>.conv jJ M4 r r r .mk) (.ch r (fun _=>.lo U5 .p2 r .mk) (.ck 1 r r tv))))))))))) (.fk 1 r (.h r (fun _=>.conv M4 jJ r r r .mk) (.h r (fun _=>.bd CR KH KG r .mk) (.e2 21 (.sa AG .z r (.no 16 r (.drop .p1 (.drop .p1 (.ret (B9 r (.w B7 AG r .z r .n) rf ⟨({ Hi:=A7 (IntKind.wrap .u64 ((IntKind.wrap .u64 ((IntKind.wrap .u64 (a0.Hi)) - (IntKind.wrap .u64 (a1.Hi)))) - b)),Lo:=IntKind.wrap .u64 (a0.Lo - a1.Lo) }:AL),r,hd⟩))))))))))
theorem sI {a0 a1:Int} {Q:AL→Prop} (hd:ZK a0 a1 Q) :
  BH prog 311 [.int .i64 a0,.int .i64 a1] I (fun _=>qH Q):=by
 refine Fun.en func311 ntmps311 r fun w0 M=>.sr (.al CR r fun k=>.nk 19 1 r ?_)
 have a:=dO (I:=I) hd
 refine .cq call327 a r fun h hd=>.ks 1 r ?_
 have b:=dO (I:=I) hd
 refine .cq call327 b r fun i hd=>?_
 have c:=gU (I:=I) hd
 refine .cq call326 c r fun f hd=>.al CR r fun j=>.sa AG .z r (.no 51 r (.seq (.sk 4 r (.neB underlying4 r r r r (.no 32816 r (.condP r hd (fun d hd=>?_) fun d hd=>?_))))))
 · refine .sr (.bd CR KH KG r (.lw B7 AG .z r ?_))
   have e:=sH (I:=I) hd
   exact .cq call328 e r fun g hd=>.sa AG .p1 r (.no 16 r (.drop .z (.ret (B9 r (.w B7 AG r .z r .n) rf ⟨g,r,hd⟩))))
 exact .sn 48 r (.sr (.lw B7 AG .z r (.sa AG .p1 r (.no 16 r (.drop .z (.ret (B9 r (.w B7 AG r .z r .n) rf ⟨f,r,hd⟩)))))))
theorem sJ {a0 a1 a2:Int} {Q:AL→Prop} (hd:ZL a0 a1 a2 Q) :
  BH prog 297 [.int .i64 a0,.int .i64 a1,.int .i64 a2] I (fun _=>qH Q):=by
 refine Fun.en func297 ntmps297 r fun w0 M=>.sr (.al CR r fun Z=>.no 71 r (.seq (.sr (.kn 1 327 r (.block (.sr (.kn 2 839 r (.condP r hd (fun s hd=>?_) fun s hd=>?_))))))))
 · refine .sk 3 r (.spl hd [12,13] r (fun t hd=>?_) fun t hd=>?_)
   · refine .ks 3 r ?_
     have u:=PK (I:=I) hd
     exact .cq call237 u r fun L hd=>.sa AG .z r (.no 64 r (.ret (B9 r (.w B7 AG r .z r .n) rf ⟨L,r,hd⟩)))
   refine .ks 3 r ?_
   have v:=PK (I:=I) hd
   exact .cq call237 v r fun N hd=>.sa AG .z r (.no 64 r (.ret (B9 r (.w B7 AG r .z r .n) rf ⟨N,r,hd⟩)))
 refine .sr (.kn 2 262215 r (.condP r hd (fun x hd=>?_) fun x hd=>?_))
 · refine .sk 2 r ?_
   have y:=sI (I:=I) hd
   exact .cq call311 y r fun O hd=>.sa AG .z r (.no 64 r (.ret (B9 r (.w B7 AG r .z r .n) rf ⟨O,r,hd⟩)))
 refine .sn 71 r (.seq (.jn hd [6,2,1,0] [0] r (fun j E l _=>j E l) (fun W hd=>?_) ?_))
 · refine .sk 1 r ?_
   have A:=PZ (I:=I) hd
   refine .cq call100 A r fun X hd=>.ks 1 r (.spl hd [24,25] r (fun B hd=>?_) fun B hd=>?_)
   · refine .ks 2 r (.yes r (.maxI r r r r (.kn 2 1073741895 r (.condP r hd (fun C hd=>?_) fun C hd=>?_))))
     · refine .sr ?_
       have D:=M7 (I:=I) hd
       exact .cq call183 D r fun P hd=>.sa AG .z r (.no 64 r (.ret (B9 r (.w B7 AG r .z r .n) rf ⟨P,r,hd⟩)))
     exact .skip' (je () hd rf [0] r)
   exact .kn 5 1073741895 r (.condKF r r (.skip' (je () hd rf [0] r)))
 refine fun _ hd=>jq r fun m b=>.sr (.bd CR KH KG r (.al CR r fun R=>.sa AG .z r (.no 199 r (.seq (.sr (.kn 1 8589934790 r (.block (.seq (.block (.seq (.jn hd [7,6,2] [1] r (fun j E l (o,p)=>j E (pto R (.cells #[.int .i64 o,.int .u64 p] 157 (0,0)) :: l)) (fun Y hd=>?_) ?_)))))))))))
 · refine .block (.seq (.block (.seq (.seq (.sr (.kn 2 25769803974 r (.condP r hd (fun F hd=>?_) fun F hd=>?_)))))))
   · refine .en 198 r (.region (.ks 1 r ?_))
     have G:=M7 (I:=m) hd
     exact .cq call183 G r fun q hd=>.sa AG .z r (.nil' (je (q.Hi,q.Lo) hd rf [0,0] r))
   refine .sn 8589934790 r (.seq (.sr (.kn 2 77309411526 r (.condP r hd (fun H hd=>?_) fun H hd=>?_))))
   · exact .exit (je (0,0) hd rf [0,0] r)
   refine .sn 8589934786 r (.sr (.kn 2 274877907138 r (.condP r hd (fun J hd=>?_) fun J hd=>?_)))
   · refine .en 66 r (.drop .z (.seq (.sk 1 r ?_)))
     have c:=M7 (I:=m) hd
     exact .cq call183 c r fun S hd=>.sa AG .z r (.no 64 r (.ret (B9 r (.w B7 AG r .z r .n) b ⟨S,r,hd⟩)))
   exact .sn 192 r (.en 192 r (.sr (.lw B7 AG .z r (.sa AG .p1 r (.no 64 r (.drop .z (.ret (B9 r (.w B7 AG r .z r .n) b ⟨DS,r,hd⟩))))))))
 rintro ⟨o,p⟩ hd
 refine jq r fun a d=>?_
 have e:=d.u1 b
 refine .seq (.seq (.dr [1,2,0,3,4,5] 6 (.h r (fun _=>.lw B7 AG .z r .mk) (.fk 1 r (.ww r fun ex=>?_)))))
 have f:=M7 (I:=a) hd
 refine .cq call183 f r fun T hd=>.so 2 r r r (.ck 1 r r (.ch r (fun _=>.lw B7 AG .z r .mk) tv)) (.ww r fun ex=>?_)
 have g:=M7 (I:=a) hd
 refine .cq call183 g r fun U hd=>.so 2 r r r (.ch r (fun _=>.lw B7 AG .z r .mk) tv) (.ww r fun ex=>?_)
 have i:=gR (I:=a) hd
 refine .cq call238 i r fun V hd=>.so 2 r r r tv (.ww r fun ex=>?_)
 have k:=Y4 (I:=a) hd
 exact .cq call236 k r fun K hd=>.so 2 r r r tv (.e2 6 (.sa AG .p1 r (.no 64 r (.drop .z (.ret (B9 r (.w B7 AG r .z r .n) e ⟨K,r,hd⟩))))))
theorem gV {o0:List (Int×Bool)} {a0:Int} {a1 a2:Rows} {a3:Int} {Q:(List (Int×AL))→Prop} (R4:NX I ga3 a1) (R6:NX I ga5 a2) (hd:PE o0 a0 a1 a2 a3 Q) :
  Fun prog 267 #[.int .i64 a0,.agg (F8 a1 ga3),.agg (F8 a2 ga5),.int .i64 a3,.map (some b2)] I [OwnMap (Value.int .i64) eB false b2 o0] (fun I_ v l=>∃ r b7,v=.map (some b7)∧l=[OwnMap (Value.int .i64) eB false b2 o0,OwnMap (Value.int .i64) OA true b7 r]∧Q r):=by
 refine Fun.en func267 ntmps267 r fun w0 M=>?_
 refine .sr (.bx r fun e8=>?_)
 refine .bx r fun e9=>?_
 refine .ks 1 r (.ns 217 r (.mkMap (Value.int .i64) OA true r r fun b4=>?_))
 refine .ks 1 r (.ns 2265 r (.lw B6 AE .p2 r (.ks 1 r ?_)))
 have b5:=W7 R4 hd
 refine .call call266 r b5 r r fun f0 f1 x b6=>?_
 obtain ⟨f2,f3,f4,f5,f6,rfl,i,m,hd⟩:=b6
 obtain ⟨R4,R6⟩:=x.u2 R4 R6
 refine .kn 5 14481 r (.drop .p2 (.seq (.sk 1 r (.ln BP r (.kn 1 7516203153 r (.block (.lp hd [31,30,13,11,7,4,0] [2,1] r (fun j E l (o,p)=>j ((32,.int .i64 p) :: E) (OwnMap (Value.int .i64) OA true b4 o :: l)) (ji rf [0,1,0] r) ?_)))))))
 rintro ⟨o,p⟩ c0 hd
 refine jq r fun d7 u=>?_
 obtain ⟨w,R6,i,m⟩:=u.u4 x R6 i m
 refine .sr (.kn 1 16106137745 r (.seq (.condP r hd (fun V hd=>?_) fun V hd=>?_)))
 · refine .sn 7516203153 r (.seq (.block (.sk 1 r ?_)))
   obtain ⟨b8,d8,W,d9,o764,b9,X,hd⟩:=i.ix hd
   refine .ixb BP DN b9 b8 W r (.ldb 0 AP X r (.ks 2 r (.ns 7516252305 r (.lw B6 AE .p2 r (.ks 1 r ?_)))))
   have Y:=W7 R6 hd
   refine .call call266 r Y r r fun e0 e1 Z a4=>?_
   obtain ⟨e3,e4,e5,e6,e7,rfl,q,t,hd⟩:=a4
   obtain ⟨a5,a6,R6,i,m⟩:=Z.u5 w u R6 i m
   refine .ks 5 r (.nk 7516416145 1 r (.ln BP r (.kn 1 61580167506065 r (.block (.lp hd [44,43,32,31,30,17,14,13,11,7,4,0] [1,1] r (fun j E l (e,n)=>j ((45,.int .i64 n) :: E) (OwnMap (Value.int .i64) OA true b4 e :: l)) (ji rf [0,0,0] r) ?_)))))
   rintro ⟨e,n⟩ c1 hd
   refine jq r fun y d=>?_
   obtain ⟨c2,A,R6,i,m,q⟩:=d.u6 a5 a6 R6 i m q
   have t:=d.u1 t
   refine .sr (.kn 1 131948911683729 r (.seq (.condP r hd (fun B hd=>?_) fun B hd=>?_)))
   · refine .sn 61580167506065 r (.seq (.block (.sk 1 r ?_)))
     obtain ⟨a7,c,C,c5,o1017,a8,D,hd⟩:=q.ix hd
     refine .ixb BP DN a8 a7 C r (.ldb 0 AP D r (.kn 2 61580168292497 r (.seq (.sk 2 r (.lookM (k:=c) (El:=eB) (ag:=false) (zv:=.bool false) (z:=false) (LN XC) underlying292 zeroValue4 ⟨[.bool false],r,.s⟩ .p1 r r hd r r fun c6 c7 c3 hd F G=>?_)))))
     cases F
     cases G
     refine .kn 1 9068779423033489 r (.condP r hd (fun H hd=>?_) fun H hd=>?_)
     · exact .en 61580167506065 r (.region (.ks 2 r (.nil' (je (e,A7 (n+1)) hd d [0,0,0] r))))
     refine .sn 61580168292497 r (.seq (.dr [0,1,2,3,4,5,6,7,8,10,9,999] 11 (.fk 3 r ?_)))
     obtain ⟨a9,c8,J,c9,o1064,b0,K,hd⟩:=m.ix hd
     refine .h r (fun _=>.ixb NQ qI b0 a9 J r .mk) (.h r (fun _=>.ldb 0 U5 K r .mk) (.fk 2 r ?_))
     obtain ⟨b1,d0,N,d1,o1073,b3,O,hd⟩:=t.ix hd
     refine .h r (fun _=>.ixb NQ qI b3 b1 N r .mk) (.h r (fun _=>.ldb 0 U5 O r .mk) (.a (fun b=>.pointer (some ⟨b,0,none⟩)) (fun b=>pto b (.cells #[.int .i64 0,.int .u64 0] 157 (0,0))) r r r r (fun _ L hL ex=>.al CR r fun b=>.mk (val:=fun b=>.pointer (some ⟨b,0,none⟩)) (atom:=fun b=>pto b (.cells #[.int .i64 0,.int .u64 0] 157 (0,0))) hL b) (.ww r fun ex=>?_)))
     have P:=sJ (I:=y) hd
     refine .cq call297 P r fun f hd=>?_
     refine .so 3 r r r tv (.b r fun d2=>DrawD.nop ?_)
     refine .e2 11 (.sa AG .p3 r (.no 61580169078929 r (.seq (.sk 2 r (.lookM2 (k:=c) (El:=OA) (ag:=true) (zv:=.agg #[.int .i64 0,.int .u64 0]) (z:=DS) (LN XC) underlying293 CR ⟨[.int .i64 0,.int .u64 0],r,.a⟩ .z r r hd r r fun d3 d4 d5 c4 hd R S=>?_)))))
     cases R
     cases S
     refine .ks 3 r (.al CR r fun d6=>?_)
     refine .sa AG .z r (.ks 1 r (.nk 61580175370385 1 r (.no 1180591682297582479505 r (.condP r hd (fun T hd=>?_) fun T hd=>?_))))
     · refine .region (.ks 1 r (.lw B7 AG .z r (.lw B7 AG .p4 r ?_)))
       have U:=YU (I:=y) hd
       refine .cq call184 U r fun g hd=>?_
       refine .sa AG .p4 r (.no 61580169078929 r (.drop .z (.region (.ks 2 r (.lw B7 AG .p3 r (.updM (k:=c) (El:=OA) (ag:=true) (v:=g) (LN XC) underlying293 .z r r r ⟨[.int .i64 g.Hi,.int .u64 g.Lo],r,.a⟩ (.no 61580167506065 r (.drop .p3 (.region ?_)))))))))
       exact .ks 2 r (.nil' (je ((FC c g e),A7 (n+1)) hd d [0,0,0] r))
     refine .sn 61580169078929 r (.drop .z (.region (.ks 2 r (.lw B7 AG .p3 r (.updM (k:=c) (El:=OA) (ag:=true) (v:=f) (LN XC) underlying293 .z r r r ⟨[.int .i64 f.Hi,.int .u64 f.Lo],r,.a⟩ (.no 61580167506065 r (.drop .p3 (.region (.ks 2 r ?_)))))))))
     exact .nil' (je ((FC c f e),A7 (n+1)) hd d [0,0,0] r)
   exact .en 7516203153 r (.region (.ks 2 r (.nil' (je (e,A7 (p+1)) hd A [0,0,0] r))))
 exact .en 2064 r (.drop .p2 (.sr (.kn 2 1040 r (.q1 results267 w [1,0] r ⟨o,_,r,r,hd⟩))))
theorem mU {a0:Int} {a1 a2 a3:Rows} {Q:((List AB)×Int)→Prop} (R2:NX I ga1 a1) (R4:NX I ga3 a2) (R6:NX I ga5 a3) (hd:QE a0 a1 a2 a3 Q) :
  BH prog 221 [.int .i64 a0,.agg (F8 a1 ga1),.agg (F8 a2 ga3),.agg (F8 a3 ga5)] I (AeC Q):=by
 refine Fun.en func221 ntmps221 r fun w0 M=>?_
 refine .sr (.bx r fun j4=>?_)
 refine .bx r fun j5=>?_
 refine .bx r fun j6=>?_
 refine .ks 2 r (.ns 225 r (.lw B6 AE .p2 r (.lw B6 AE .p1 r (.lw B6 AE .z r (.bs 3 QP AE CF r fun j7=>?_)))))
 refine .pubB (El:=nU) (ys:=([a1,a2,a3]:List Rows)) (k:=3) .z (RepCs.cons (cs:=[.int .i64 a1.Rows,.int .i64 a1.Cols,.slice ga1.1.1 a1.Start.length ga1.1.2,.slice ga1.2.1.1 a1.Col.length ga1.2.1.2,.slice ga1.2.2.1 a1.Val.length ga1.2.2.2]) ⟨ga1,r,R2⟩ (RepCs.cons (cs:=[.int .i64 a2.Rows,.int .i64 a2.Cols,.slice ga3.1.1 a2.Start.length ga3.1.2,.slice ga3.2.1.1 a2.Col.length ga3.2.1.2,.slice ga3.2.2.1 a2.Val.length ga3.2.2.2]) ⟨ga3,r,R4⟩ (RepCs.cons (cs:=[.int .i64 a3.Rows,.int .i64 a3.Cols,.slice ga5.1.1 a3.Start.length ga5.1.2,.slice ga5.2.1.1 a3.Col.length ga5.2.1.2,.slice ga5.2.2.1 a3.Val.length ga5.2.2.2]) ⟨ga5,r,R6⟩ .nil))) r fun j8 X Y=>?_
 obtain ⟨R2,R4,R6⟩:=X.u3 R2 R4 R6
 have e3:=pV Y hd
 refine .call call265 r e3 r r fun j9 f2 e4 e5=>?_
 obtain ⟨k0,k1,k2,rfl,Z,hd⟩:=e5
 obtain ⟨u,R2,R4,R6,Y⟩:=e4.u5 X R2 R4 R6 Y
 refine .kn 1 1249 r (.seq (.dr [0,1,2,3,4,5,6,7,8,9,10] 11 (.fk 1 r ?_)))
 obtain ⟨f3,k3,a4,hd⟩:=hd
 obtain ⟨k4,o91,h2,f4,e6,h3,rfl,e⟩:=Z.2 _ _ a4
 refine .h r (fun _=>.ixb QP AE f4 f3 a4 r .mk) (.h r (fun _=>.ldW B6 AE e6 r r r r .mk) (.fk 1 r ?_))
 obtain ⟨e1,k5,y,hd⟩:=hd
 obtain ⟨h4,o102,f9,a5,R,g0,rfl,b⟩:=Z.2 _ _ y
 refine .h r (fun _=>.ixb QP AE a5 e1 y r .mk) (.h r (fun _=>.ldW B6 AE R r r r r .mk) (.fk 1 r ?_))
 obtain ⟨J,h5,p,hd⟩:=hd
 obtain ⟨h6,o113,g1,K,A,g2,rfl,d⟩:=Z.2 _ _ p
 refine .h r (fun _=>.ixb QP AE K J p r .mk) (.h r (fun _=>.ldW B6 AE A r r r r .mk) (.ww r fun ex=>?_))
 refine .sa AE .p2 r (.sn 3 r r r (.ch r (fun _=>.ldW B6 AE A r r r r .mk) (.ch r (fun _=>.ixb QP AE K J p r .mk) (.ck 1 r r (.ch r (fun _=>.ldW B6 AE R r r r r .mk) (.ch r (fun _=>.ixb QP AE a5 e1 y r .mk) (.ck 1 r r tv)))))) (.ww r fun ex=>?_))
 refine .sa AE .p1 r (.sn 3 r r r (.ch r (fun _=>.ldW B6 AE A r r r r .mk) (.ch r (fun _=>.ixb QP AE K J p r .mk) (.ck 1 r r tv))) (.e2 11 (.sa AE .z r (.no 225 r (.seq (.block (.sk 1 r ?_)))))))
 have b9:=PZ (I:=f2) hd
 refine .cq call100 b9 r fun h7 hd=>?_
 refine .kn 2 137438953697 r (.condP r hd (fun c0 hd=>?_) fun c0 hd=>?_)
 · exact .sr (.kn 2 768 r (.drop .z (.drop .z (.drop .z (.ret (B9 r (.t r (.t r .n)) u ⟨(([]:List AB),8),_,_,r,(.nil _ _ _),hd⟩))))))
 refine .seq (.sk 1 r (.lo AP .p2 r (.ks 1 r (.lo AP .p1 r (.kn 2 2199023255777 r (.condP r hd (fun S hd=>?_) fun S hd=>?_))))))
 · exact .sn 2199023255777 r (.condKT r S (.sr (.kn 2 768 r (.drop .z (.drop .z (.drop .z (.ret (B9 r (.t r (.t r .n)) u ⟨(([]:List AB),4),_,_,r,(.nil _ _ _),hd⟩))))))))
 refine .sk 1 r (.lo AP .z r (.ks 1 r (.lo AP .p2 r (.kn 2 2199023255777 r (.condP r hd (fun T hd=>?_) fun T hd=>?_)))))
 · exact .sn 2199023255777 r (.condKT r T (.sr (.kn 2 768 r (.drop .z (.drop .z (.drop .z (.ret (B9 r (.t r (.t r .n)) u ⟨(([]:List AB),4),_,_,r,(.nil _ _ _),hd⟩))))))))
 refine .region (.ks 1 r (.lo AP .z r (.ks 1 r (.lo AP .p1 r (.kn 2 2199023255777 r (.condP r hd (fun c1 hd=>?_) fun c1 hd=>?_))))))
 · exact .sr (.kn 2 768 r (.drop .z (.drop .z (.drop .z (.ret (B9 r (.t r (.t r .n)) u ⟨(([]:List AB),4),_,_,r,(.nil _ _ _),hd⟩))))))
 refine .sn 225 r (.sr (.kn 1 2273 r (.seq (.sk 1 r (.lo AP .z r (.kn 1 864691128455137505 r (.block (.own0 BL 161 (.lx hd [58,7,6,5,0] [3,2,1] r (fun j E l (B,x)=>fun c w=>∃ L N,j ⟨107,[],none⟩ (fun I_=>True) ((11,.slice L B.length N) :: (59,.int .i64 x) :: E) (OwnSl BL 161 L N B :: l) c w) (fun c w ho hs=>⟨_,_,jf rf tv [0,2,1,0] r ho hs⟩) ?_)))))))))
 rintro ⟨B,x⟩ f0 hd c w ⟨L,N,h8,C,_,hok,hsym⟩
 obtain ⟨U,e,b,d⟩:=C.u4 u e b d
 refine Cod.at hok hsym (.sr (.kn 1 2017612633061984481 r (.seq (.condP r hd (fun c2 hd=>?_) fun c2 hd=>?_))))
 · refine .sn 864691128455137505 r (.seq (.block (.sk 2 r (.ns 864691128455141601 r (.lw B6 AE .p3 r (.ks 1 r ?_))))))
   have c3:=W7 d hd
   refine .call call266 r c3 r r fun h9 i0 c4 c5=>?_
   obtain ⟨i1,i2,i3,i4,i5,rfl,g,i6,hd⟩:=c5
   obtain ⟨c6,c7,e,b,d⟩:=c4.u5 U C e b d
   refine .ks 5 r (.ns 864691128455149793 r (.mkMap (Value.int .i64) eB false r r fun a6=>?_))
   refine .kn 1 864691128455182561 r (.seq (.sk 1 r (.ln BP r (.kn 1 4132935363639394744545 r (.block (.lp hd [70,69,59,58,15,13,12,11,7,6,5,0] [2,2,2,1] r (fun j E l (O,P)=>j ((71,.int .i64 P) :: E) (OwnMap (Value.int .i64) eB false a6 O :: l)) (ji rf [0,1,1,1,0] r) ?_))))))
   rintro ⟨O,P⟩ f1 hd
   refine jq r fun i7 D=>?_
   obtain ⟨c8,c9,e,b,d,g⟩:=D.u6 c6 c7 e b d g
   refine .sr (.kn 1 8855301846509039958241 r (.seq (.condP r hd (fun d0 hd=>?_) fun d0 hd=>?_)))
   · refine .sn 4132935363639394744545 r (.seq (.block (.sr ?_)))
     obtain ⟨e7,a7,d1,i8,o904,e8,d2,hd⟩:=g.ix hd
     exact .ixb BP DN e8 e7 d1 r (.ldb 0 AP d2 r (.kn 1 4132935363639394875617 r (.region (.ks 2 r (.updM (k:=a7) (El:=eB) (ag:=false) (v:=true) (LN XC) underlying292 .z r r r ⟨[.bool true],r,.s⟩ (.no 4132935363639394744545 r (.region (.ks 2 r (.nil' (je ((FC a7 true O),A7 (P+1)) hd D [0,0,0,0,0] r))))))))))
   refine .en 864691128455182561 r (.sk 1 r (.lw B6 AE .p1 r (.lw B6 AE .p2 r (.ks 2 r ?_))))
   have d3:=gV  (b2:=a6) e b hd
   refine .callS (.f call267 r) (.o [0] r) d3 r r fun i9 j0 j1 V d4=>?_
   obtain ⟨j2,j3,rfl,rfl,hd⟩:=d4
   obtain ⟨d5,d6,d7,e,b,d⟩:=V.u6 c8 c9 D e b d
   have g:=V.u1 g
   refine .rn 6 r (.kn 1 864691128455411937 r (.drop .z (.sk 1 r (.ln BP r (.kn 1 135399692661529596022495457 r (.block (.lx hd [85,84,59,58,18,12,7,6,5,0] [1,1,1,0] r (fun j E l (i,q)=>fun c w=>∃ F G,j ⟨107,[],none⟩ (fun I_=>True) ((11,.slice F i.length G) :: (86,.int .i64 q) :: E) (OwnSl BL 161 F G i :: l) c w) (fun c w ho hs=>⟨_,_,jf rf tv [4,1,1,1,0] r ho hs⟩) ?_)))))))
   rintro ⟨i,q⟩ e9 hd c w ⟨F,G,g3,m,_,hok,hsym⟩
   obtain ⟨f5,a8,f6,e,b,d⟩:=m.u6 d5 d6 d7 e b d
   have g:=m.u1 g
   refine Cod.at hok hsym (.sr (.kn 1 290142197572202130384885985 r (.seq (.condP r hd (fun a9 hd=>?_) fun a9 hd=>?_))))
   · refine .sn 135399692661529596022495457 r (.seq (.block (.sr ?_)))
     obtain ⟨d8,H,b0,g4,o1060,d9,b1,hd⟩:=g.ix hd
     refine .ixb BP DN d9 d8 b0 r (.ldb 0 AP b1 r (.ks 1 r (.nk 135399692661529596023544033 2 r (.lookM2 (k:=H) (El:=OA) (ag:=true) (zv:=.agg #[.int .i64 0,.int .u64 0]) (z:=DS) (LN XC) underlying293 CR ⟨[.int .i64 0,.int .u64 0],r,.a⟩ .p4 r r hd r r fun g5 W g6 f7 hd b3 b4=>?_))))
     cases b3
     cases b4
     refine .ks 3 r (.al CR r fun g7=>?_)
     refine .sa AG .z r (.ks 1 r (.nk 135399692661529596029835489 1 r (.no 79363562206925867189569591521 r (.condP r hd (fun b5 hd=>?_) fun b5 hd=>?_))))
     · refine .region (.ks 3 r (.lw B7 AG .z r (.bd QR underlying161 tY r (.bs 1 CH BA QR r fun g8=>?_))))
       obtain ⟨b6,hd⟩:=hd
       refine .append (ys:=[({ Row:=x,Col:=H,Val:=W }:AB)]) 32 .p2 CH CH dD r r r r r r r r r (.box .z (.one r) r) b6 r r fun g9 h0=>?_
       exact .kn 1 135399692661529596022495457 r (.drop .p1 (.drop .p1 (.region (.ks 2 r (.nil' fun c w ho hs=>⟨((i++([({ Row:=x,Col:=H,Val:=W }:AB)])),A7 (q+1)),hd,_,_,jf m tv [0,0,0,0,0] r ho hs⟩)))))
     exact .sn 135399692661529596022495457 r (.drop .z (.region (.ks 2 r (.nil' fun c w ho hs=>⟨(i,A7 (q+1)),hd,_,_,jf m tv [0,0,0,0,0] r ho hs⟩))))
   exact .en 864691128455137505 r (.drop .p4 (.region (.ks 2 r (.nil' fun c w ho hs=>⟨(i,A7 (x+1)),hd,_,_,jf a8 tv [0,0,0,0] r ho hs⟩))))
 refine .en 2048 r (.drop .p1 (.drop .p1 (.drop .p1 (.sr (.kn 3 768 r (.pub .z fun h1 b7 e0=>?_))))))
 obtain ⟨b8,f8⟩:=b7.u2 U C
 exact .ret (B9 r (.t r (.t r .n)) b8 ⟨(B,0),_,_,r,e0,hd⟩)
theorem bA {a0 a1:AB} {Q:Int→Prop} (hd:QF a0 a1 Q) :
  BH prog 254 [.agg (NY a0).toArray,.agg (NY a1).toArray] I (fun _=>bI Q):=by
 refine Fun.en func254 ntmps254 r fun w0 M=>.sr (.bx r fun l=>.bx r fun m=>.kn 1 12 r (.seq (.dr [0,1,2,3,5,6,7,8,4,9,10,11] 12 (.fk 1 r (.hl AP 1 r (.fk 1 r (.hl AP 0 r (.fk 1 r (.hl AP 1 r (.fk 1 r (.hl AP 0 r (.ww r fun ex=>?_))))))))))))
 have b:=DQ (I:=I) hd
 refine .cq call114 b r fun f hd=>.so 2 r r r (.ch r (fun _=>.lo AP .z r .mk) (.ck 1 r r (.ch r (fun _=>.lo AP .p1 r .mk) (.ck 1 r r tv)))) (.ww r fun ex=>?_)
 have c:=DQ (I:=I) hd
 refine .cq call114 c r fun a hd=>.so 2 r r r tv (.ww r fun ex=>.bs 2 BP DN qJ r fun i=>.so 3 r r r tv (.ww r fun ex=>.pubB (El:=BQ) (ys:=([f,a]:List Int)) (k:=2) .z (RepCs.cons (cs:=[.int .i64 f]) r (RepCs.cons (cs:=[.int .i64 a]) r .nil)) r fun j d g=>?_))
 have e:=MZ g hd
 exact .cq call113 e r fun h hd=>.so 2 r r r tv (.e2 12 (.kn 1 16 r (.drop .z (.drop .z (.r1 results254 r d ⟨h,r,hd⟩)))))
theorem bB {a0:List AB} {Q:Bool→Prop} (R3:RepSl BL I p1 c2 a0) (hd:JO a0 Q) :
  BH prog 207 [.slice p1 a0.length c2] I (fun _=>XX Q):=by
 refine Fun.en func207 ntmps207 r fun w0 M=>?_
 refine .sr (.kn 1 1 r (.seq (.sk 1 r (.ln CH r (.kn 1 97 r (.block (.lp hd [5,0] [] r (fun j E l c=>j ((6,.int .i64 c) :: E) l) (ji rf [] r) ?_)))))))
 refine fun c o hd=>jq r fun p b=>?_
 have R3:=b.u1 R3
 refine .sr (.kn 1 225 r (.seq (.condP r hd (fun d hd=>?_) fun d hd=>?_)))
 · refine .sn 97 r (.seq (.block (.sr (.kn 2 105 r (.seq (.dr [0,1,2,3,4,5,6,7,8,9,10,11,12,13,14] 15 (.fk 3 r ?_)))))))
   refine FE hd (fun a hd=>?_) fun a hd=>?_
   · refine .h r (fun _=>.gyes r r a (.move r r r .mk)) (.h r (fun _=>.gyes r r a (.move r r r .mk)) (.h r (fun _=>.gyes r r a (.sub' r r r r .mk)) ?_))
     obtain ⟨q,v,e,w,o46,s,f,hd⟩:=R3.ix hd
     refine .h r (fun _=>.gyes r r a (.ixb CH BA s q e r .mk)) (.h r (fun _=>.gyes r r a (.ldW EK BA f r r r r .mk)) (.h r (fun _=>.gyes r r a (.move r r r .mk)) (.h r (fun _=>.gyes r r a (.move r r r .mk)) ?_)))
     obtain ⟨t,x,g,y,o55,u,i,hd⟩:=R3.ix hd
     refine .h r (fun _=>.gyes r r a (.ixb CH BA u t g r .mk)) (.h r (fun _=>.gyes r r a (.ldW EK BA i r r r r .mk)) (.ww r fun ex=>?_))
     have k:=bA (I:=p) hd
     refine .gyes r r a (.callP call254 r k r r fun z m=>?_)
     obtain ⟨A,rfl,hd⟩:=m
     refine .so 0 r r r tv (.h r (fun _=>.gyes r r a (.ge r r r r .mk)) (.h r (fun _=>.pickT r a r r r .mk) (.e2 15 (.no 8388705 r (.condP r hd (fun n hd=>?_) fun n hd=>?_)))))
     · exact .sr (.kn 1 4 r (.r1 results207 r b ⟨false,r,hd⟩))
     exact .sn 97 r (.region (.ks 2 r (.nil' (je (A7 (c+1)) hd b [] r))))
   refine .h r (fun _=>.gno r r a r r .mk) (.h r (fun _=>.gno r r a r r .mk) (.h r (fun _=>.gno r r a r r .mk) (.h r (fun _=>.gno r r a r r .mk) (.h r (fun _=>.gno r r a r r .mk) (.h r (fun _=>.gno r r a r r .mk) (.h r (fun _=>.gno r r a r r .mk) (.h r (fun _=>.gno r r a r r .mk) (.h r (fun _=>.gno r r a r r .mk) (.h r (fun _=>.gno r r a r r .mk) ?_)))))))))
   exact .h r (fun _=>.gno r r a r r .mk) (.h r (fun _=>.pickF r a r r r .mk) (.e2 15 (.no 8388705 r (.condKF r r (.sn 97 r (.region (.ks 2 r (.nil' (je (A7 (c+1)) hd b [] r)))))))))
 exact .en 0 r (.sr (.kn 1 4 r (.r1 results207 r b ⟨true,r,hd⟩)))
theorem N8 {a1:Int} {Q:(List AB)→Prop} (hd:EW a1 Q) :
  uO prog 299 [.slice none 0 0,.int .i64 a1] I (fun I_ v l=>∃ r p1 c2,v=.slice p1 r.length c2∧l=[OwnSl BL 161 p1 c2 r]∧Q r):=by
 refine Fun.en func299 ntmps299 r fun w0 M=>.sr (.kn 1 3 r (.seq (.sr (.kn 2 67 r (.condP r hd (fun a hd=>?_) fun a hd=>?_)))))
 · refine .region ?_
   exact hd.elim
 refine .sn 3 r (.seq (.sk 2 r (.capOf CH r r r r (.ks 1 r (.ln CH r (.ks 3 r (.nk 3 2 r (.no 65539 r (.condP r hd (fun b hd=>?_) fun b hd=>?_)))))))))
 · refine .region (.ks 2 r (.capOf CH r r r r (.slZ CH BA r r (Nat.le_refl _) r r r (.ks 1 r ?_))))
   obtain ⟨d,e,hd⟩:=hd
   exact .growN BL 32 CH XC dD r r r r r r r r d e r r fun g f c=>.ks 1 r (.ln CH r (.slZ CH BA r r c xI r r (.ks 1 r (.nk 1 2 r (.no 16 r (.q1 results299 rf [0] r ⟨([]:List AB),_,_,r,r,hd⟩))))))
 exact .sn 1 r (.sr (.kn 2 16 r (.own0 BL 161 (.q1 results299 rf [0] r ⟨([]:List AB),_,_,r,r,hd⟩))))
theorem MB {a0:List (List AB)} {Q:(List AB)→Prop} (R3:RepSl (JI BL) I p1 c2 a0) (hd:D9 a0 Q) :
  uO prog 270 [.slice p1 a0.length c2] I (fun I_ v l=>∃ r p4 c5,v=.slice p4 r.length c5∧l=[OwnSl BL 161 p4 c5 r]∧Q r):=by
 refine Fun.en func270 ntmps270 r fun w0 M=>?_
 refine .sk 1 r (.nk 1 1 r (.no 9 r (.seq (.sk 1 r (.ln P4 r (.kn 1 3593 r (.block (.lp hd [10,9,0] [] r (fun j E l (d,e)=>j ((3,.int .i64 d) :: (11,.int .i64 e) :: E) l) (ji rf [] r) ?_))))))))
 rintro ⟨d,e⟩ N hd
 refine jq r fun D b=>?_
 have R3:=b.u1 R3
 refine .sr (.kn 1 7689 r (.seq (.condP r hd (fun o hd=>?_) fun o hd=>?_)))
 · refine .sn 3593 r (.seq (.block (.sr ?_)))
   obtain ⟨F,G,i,hd⟩:=hd
   obtain ⟨S,o182,P,H,p,T,U,rfl,V⟩:=R3.2 _ _ i
   refine .ixb P4 fV H F i r (.ldb 0 isAgg76 p r (.ks 1 r (.nk 3625 2 r (.ln CH r (.ks 2 r (.nk 3593 2 r (.no 1052169 r (.condP r hd (fun q hd=>?_) fun q hd=>?_))))))))
   · refine .region ?_
     exact hd.elim
   exact .sn 3593 r (.region (.ks 2 r (.nil' (je (A7 (d+(G.length:Int)),A7 (e+1)) hd b [] r))))
 refine .en 9 r (.sk 1 r ?_)
 have s:=N8 (I:=D) hd
 refine .callO call299 r s r r fun W X Y t u=>?_
 obtain ⟨Z,a1,a2,rfl,rfl,hd⟩:=u
 obtain ⟨x,R3⟩:=t.u2 b R3
 refine .kn 1 65 r (.seq (.sk 1 r (.ln P4 r (.kn 1 234881088 r (.block (.lx hd [26,25] [] r (fun j E l (a,f)=>fun c w=>∃ g h,j ⟨36,[],none⟩ (fun I_=>True) ((6,.slice g a.length h) :: (27,.int .i64 f) :: E) (OwnSl BL 161 g h a :: l) c w) (fun c w ho hs=>⟨_,_,jf rf tv [0] r ho hs⟩) ?_))))))
 rintro ⟨a,f⟩ O hd c w ⟨g,h,a3,k,_,hok,hsym⟩
 obtain ⟨y,R3⟩:=k.u2 x R3
 refine Cod.at hok hsym (.sr (.kn 1 503316544 r (.seq (.condP r hd (fun A hd=>?_) fun A hd=>?_))))
 · refine .sn 234881088 r (.seq (.block (.sr ?_)))
   obtain ⟨J,n,m,hd⟩:=hd
   obtain ⟨a4,o281,R,K,B,a5,a6,rfl,L⟩:=R3.2 _ _ m
   refine .ixb P4 fV K J m r (.ldb 0 isAgg76 B r (.kn 1 234881344 r (.region (.ks 2 r ?_))))
   obtain ⟨C,hd⟩:=hd
   refine .append (ys:=n) 32 .z CH CH dD r r r r r r r r r (.imm L r) C r r fun a7 a8=>?_
   exact .kn 1 234881088 r (.region (.ks 2 r (.nil' fun c w ho hs=>⟨((a++n),A7 (f+1)),hd,_,_,jf k tv [0] r ho hs⟩)))
 exact .en 64 r (.sr (.kn 2 4 r (.q1 results270 y [0] r ⟨a,_,_,r,r,hd⟩)))
theorem YV {a0:List AB} {Q:Bool→Prop} (R3:RepSl BL I p1 c2 a0) (hd:NF a0 Q) :
  Fun prog 269 #[.slice p1 a0.length c2] I [] (fun I_ v l=>∃ r,v=.bool r∧l=[]∧Q r):=by
 refine Fun.en func269 ntmps269 r fun w0 M=>.sk 1 r (.nk 1 1 r ?_)
 have a:=bB R3 hd
 exact .cq call207 a r fun b hd=>.kn 2 4 r (.q1 results269 rf [] r ⟨(!b),r,r,hd⟩)
theorem IW {a0:List (List AB)} {Q:Int→Prop} (R3:RepSl (JI BL) I p1 c2 a0) (hd:DC a0 Q) :
  Fun prog 298 #[.slice p1 a0.length c2,.func (.func 269) #[] #[]] I [] (fun I_ v l=>∃ r,v=.int .i64 r∧l=[]∧Q r):=by
 refine Fun.en func298 ntmps298 r fun w0 M=>?_
 refine .sr (.kn 1 3 r (.seq (.sk 1 r (.ln P4 r (.kn 1 387 r (.block (.lp hd [7,1,0] [] r (fun j E l d=>j ((8,.int .i64 d) :: E) l) (ji rf [] r) ?_)))))))
 refine fun d p hd=>jq r fun u a=>?_
 have R3:=a.u1 R3
 refine .sr (.kn 1 899 r (.seq (.condP r hd (fun h hd=>?_) fun h hd=>?_)))
 · refine .sn 387 r (.seq (.block (.sk 2 r (.nk 419 3 r ?_))))
   obtain ⟨q,w,e,hd⟩:=hd
   obtain ⟨x,o61,t,s,b,y,z,rfl,f⟩:=R3.2 _ _ e
   refine .ixb P4 fV s q e r (.ldb 0 isAgg76 b r ?_)
   have i:=YV   f hd
   refine .callS (.c call269 r r) .n i r r fun A B C k m=>?_
   obtain ⟨D,rfl,rfl,hd⟩:=m
   obtain ⟨g,R3,f,b⟩:=k.u4 a R3 f b
   refine .rn 0 r (.no 65955 r (.condP r hd (fun o hd=>?_) fun o hd=>?_))
   · exact .sr (.kn 2 18 r (.q1 results298 g [] r ⟨d,r,r,hd⟩))
   exact .sn 387 r (.region (.ks 2 r (.nil' (je (A7 (d+1)) hd g [] r))))
 exact .en 2 r (.sr (.kn 1 18 r (.q1 results298 a [] r ⟨(-1),r,r,hd⟩)))
theorem HO {a0:List (List AB)} {Q:Bool→Prop} (R3:RepSl (JI BL) I p1 c2 a0) (hd:CZ a0 Q) :
  Fun prog 268 #[.slice p1 a0.length c2,.func (.func 269) #[] #[]] I [] (fun I_ v l=>∃ r,v=.bool r∧l=[]∧Q r):=by
 refine Fun.en func268 ntmps268 r fun w0 M=>?_
 refine .sk 1 r (.nk 3 2 r ?_)
 have b:=IW   R3 hd
 refine .callS (.f call298 r) .n b r r fun e g h a c=>?_
 obtain ⟨d,rfl,rfl,hd⟩:=c
 have R3:=a.u1 R3
 exact .rn 0 r (.kn 2 18 r (.q1 results268 a [] r ⟨(decide (0≤d)),r,r,hd⟩))
theorem KE {a0 a1:AB} {Q:Int→Prop} (hd:EC a0 a1 Q) :
  Fun prog 254 #[.agg (NY a0).toArray,.agg (NY a1).toArray] I [] (fun I_ v l=>∃ r,v=.int .i64 r∧l=[]∧Q r):=by
 refine Fun.en func254 ntmps254 r fun w0 M=>.sr (.bx r fun m=>.bx r fun n=>.kn 1 12 r (.seq (.dr [0,1,2,3,5,6,7,8,4,9,10,11] 12 (.fk 1 r (.hl AP 1 r (.fk 1 r (.hl AP 0 r (.fk 1 r (.hl AP 1 r (.fk 1 r (.hl AP 0 r (.ww r fun ex=>?_))))))))))))
 have b:=DQ (I:=I) hd
 refine .cq call114 b r fun f hd=>.so 2 r r r (.ch r (fun _=>.lo AP .z r .mk) (.ck 1 r r (.ch r (fun _=>.lo AP .p1 r .mk) (.ck 1 r r tv)))) (.ww r fun ex=>?_)
 have c:=DQ (I:=I) hd
 refine .cq call114 c r fun a hd=>.so 2 r r r tv (.ww r fun ex=>.bs 2 BP DN qJ r fun i=>.so 3 r r r tv (.ww r fun ex=>.pubB (El:=BQ) (ys:=([f,a]:List Int)) (k:=2) .z (RepCs.cons (cs:=[.int .i64 f]) r (RepCs.cons (cs:=[.int .i64 a]) r .nil)) r fun j d g=>?_))
 have e:=MZ g hd
 exact .cq call113 e r fun h hd=>.so 2 r r r tv (.e2 12 (.kn 1 16 r (.drop .z (.drop .z (.q1 results254 d [] r ⟨h,r,r,hd⟩)))))
theorem EF {o0:List AB} {a0 a1:Int} {Q:(List AB)→Prop} (hd:BT o0 a0 a1 Q) :
  Fun prog 225 #[.slice p2 o0.length c3,.int .i64 a0,.int .i64 a1,.func (.func 254) #[] #[]] I [OwnSl BL 161 p2 c3 o0] (fun I_ v l=>∃ r,v=.tuple #[]∧r.length=o0.length∧l=[OwnSl BL 161 p2 c3 r]∧Q r):=by
 refine Fun.en func225 ntmps225 r fun w0 M=>?_
 refine .sr (.kn 3 271 r (.block (.lx hd [3,2,1] [] r (fun j E l (d,f)=>fun c w=>j ⟨53,[],none⟩ (fun I_=>d.length=o0.length) ((0,.slice p2 d.length c3) :: (8,.int .i64 f) :: E) (OwnSl BL 161 p2 c3 d :: l) c w) (fun c w ho hs=>jf rf (by first | exact r | omega | (simp only [List.length_set] at * <;> omega)) [0] r ho hs) ?_)))
 rintro ⟨d,f⟩ U hd c w ⟨Y,i,V,hok,hsym⟩
 refine Cod.at hok hsym (.seq (.sr (.kn 3 16655 r (.condP r hd (fun J hd=>?_) fun J hd=>?_))))
 · refine .sn 271 r (.seq (.block (.sr (.kn 2 783 r (.block (.lx hd [8,3,2,1] [] r (fun j E l (b,e)=>fun c w=>j ⟨53,[],none⟩ (fun I_=>b.length=d.length) ((0,.slice p2 b.length c3) :: (9,.int .i64 e) :: E) (OwnSl BL 161 p2 c3 b :: l) c w) (fun c w ho hs=>jf rf (by first | exact r | omega | (simp only [List.length_set] at * <;> omega)) [0] r ho hs) ?_))))))
   rintro ⟨b,e⟩ W hd c w ⟨S,k,X,hok,hsym⟩
   have m:=k.u1 i
   refine Cod.at hok hsym (.seq (.seq (.ownF .z fun x=>?_)))
   refine .dr [0,1,2,3,4,5,6,7,8,9,10,11,12,13,14,15,16] 17 (.fk 4 r ?_)
   refine FE hd (fun a hd=>?_) fun a hd=>?_
   · refine .h r (fun _=>.gyes r r a (.move r r r .mk)) (.h r (fun _=>.gyes r r a (.move r r r .mk)) (.h r (fun _=>.gyes r r a (.move r r r .mk)) ?_))
     obtain ⟨y,Z,g,hd⟩:=hd
     obtain ⟨a2,T⟩:=x (CE g)
     cases T
     refine .h r (fun _=>.gyes r r a (.ixa0 CH BA r r y (BD g y) r r .mk)) (.h r (fun _=>.gyes r r a (.loA (j:=0) EK BA .z g r r (.o 4 r) r r r .mk)) (.h r (fun _=>.gyes r r a (.move r r r .mk)) (.h r (fun _=>.gyes r r a (.move r r r .mk)) (.h r (fun _=>.gyes r r a (.sub' r r r r .mk)) ?_))))
     obtain ⟨A,a3,p,hd⟩:=hd
     refine .h r (fun _=>.gyes r r a (.ixa0 CH BA r r A (BD p A) r r .mk)) (.h r (fun _=>.gyes r r a (.loA (j:=0) EK BA .z p r r (.o 4 r) r r r .mk)) (.ww r fun ex=>?_))
     have K:=KE (I:=S)  hd
     refine .gyes r r a (.callS (.c call254 r r) .n K r r fun a4 a5 a6 L N=>?_)
     obtain ⟨a7,rfl,rfl,hd⟩:=N
     obtain ⟨O,P⟩:=L.u2 m k
     refine .rx 1 r (.so 1 r r r tv (.h r (fun _=>.gyes r r a (.lt r r r r .mk)) (.h r (fun _=>.pickT r a r r r .mk) (.e2 17 (.no 17179869967 r (.condP r hd (fun R hd=>?_) fun R hd=>?_))))))
     · refine .sn 783 r (.seq (.block (.dr [0,1,2,3,4,5,6,7,8,9,10,11,12,13,14,15] 16 (.fk 8 r ?_))))
       obtain ⟨B,C,q,hd⟩:=hd
       refine .h r (fun _=>.ixa0 CH BA r r B (BD q B) r r .mk) (.h r (fun _=>.loA (j:=0) EK BA .z q r r (.o 4 r) r r r .mk) (.fk 2 r ?_))
       obtain ⟨D,F,s,hd⟩:=hd
       refine .h r (fun _=>.ixa0 CH BA r r D (BD s D) r r .mk) (.h r (fun _=>.loA (j:=0) EK BA .z s r r (.o 4 r) r r r .mk) ?_)
       obtain ⟨G,a8,t,hd⟩:=hd
       refine .h r (fun _=>.ixa0 CH BA r r G (BD t G) r r .mk) (.ww r fun ex=>?_)
       refine .stOA (j:=0) (v':=C) BA .z t r r r (.o r) r r (.sn 1 r r r (.ck 3 r r tv) (.e2 16 (.rl .z [0,37,39,42,47] r (by simp only [List.length_set]) ?_)))
       obtain ⟨H,a9,u,hd⟩:=hd
       exact .ixa0 CH BA r r H (BD u H) r r (.stOA (j:=0) (v':=F) BA .z u r r r (.o r) r r (.rl .z [0,37,39,42,47] r (by simp only [List.length_set]) (.no 783 r (.region (.ks 3 r (.nil' fun c w ho hs=>⟨(((b.set e.toNat C).set ((A7 (e - 1)).toNat) F),A7 (e - 1)),hd,jf P (by first | exact r | omega | (simp only [List.length_set] at * <;> omega)) [0] r ho hs⟩))))))
     exact .en 271 r (.region (.ks 3 r (.nil' fun c w ho hs=>⟨(b,A7 (f+1)),hd,jf O (by first | exact r | omega | (simp only [List.length_set] at * <;> omega)) [0] r ho hs⟩)))
   refine .h r (fun _=>.gno r r a r r .mk) (.h r (fun _=>.gno r r a r r .mk) (.h r (fun _=>.gno r r a r r .mk) (.h r (fun _=>.gno r r a r r .mk) (.h r (fun _=>.gno r r a r r .mk) (.h r (fun _=>.gno r r a r r .mk) (.h r (fun _=>.gno r r a r r .mk) (.h r (fun _=>.gno r r a r r .mk) (.h r (fun _=>.gno r r a r r .mk) (.h r (fun _=>.gno r r a r r .mk) ?_)))))))))
   exact .h r (fun _=>.gno r r a r r .mk) (.h r (fun _=>.gno r r a r r .mk) (.h r (fun _=>.pickF r a r r r .mk) (.e2 17 (.no 17179869967 r (.condKF r r (.en 271 r (.region (.ks 3 r (.nil' fun c w ho hs=>⟨(b,A7 (f+1)),hd,jf m (by first | exact r | omega | (simp only [List.length_set] at * <;> omega)) [0] r ho hs⟩)))))))))
 exact .exit (Q5 r .n i (.o [0] r) ⟨d,r,(by first | exact r | omega | (simp only [List.length_set] at * <;> omega)),r,hd⟩)
theorem DG {o0:List AB} {a0 a1 a2:Int} {Q:(List AB)→Prop} (hd:BS o0 a0 a1 a2 Q) :
  Fun prog 342 #[.slice p2 o0.length c3,.int .i64 a0,.int .i64 a1,.int .i64 a2,.func (.func 254) #[] #[]] I [OwnSl BL 161 p2 c3 o0] (fun I_ v l=>∃ r,v=.tuple #[]∧r.length=o0.length∧l=[OwnSl BL 161 p2 c3 r]∧Q r):=by
 refine Fun.en func342 ntmps342 r fun w0 M=>.sr (.kn 1 1039 r (.block (.lx hd [3,2,1] [] r (fun j E l (a,b)=>fun c w=>j ⟨38,[],none⟩ (fun I_=>a.length=o0.length) ((0,.slice p2 a.length c3) :: (10,.int .i64 b) :: E) (OwnSl BL 161 p2 c3 a :: l) c w) (fun c w ho hs=>jf rf (by first | exact r | omega | (simp only [List.length_set] at * <;> omega)) [0] r ho hs) ?_)))
 rintro ⟨a,b⟩ y hd c w ⟨C,e,A,hok,hsym⟩
 refine Cod.at hok hsym (.seq (.sr (.kn 3 9231 r (.condP r hd (fun x hd=>?_) fun x hd=>?_))))
 · refine .sn 1039 r (.seq (.block (.ownF .z fun k=>.dr [0,1,2,3,4,5,6,7,8,9,10,11,12,13,14,15,16,17,18,19,20,21] 22 (.fk 12 r ?_))))
   obtain ⟨m,p,d,hd⟩:=hd
   obtain ⟨D,B⟩:=k (CE d)
   cases B
   refine .h r (fun _=>.ixa0 CH BA r r m (BD d m) r r .mk) (.h r (fun _=>.loA (j:=0) EK BA .z d r r (.o 4 r) r r r .mk) (.fk 4 r ?_))
   obtain ⟨q,s,f,hd⟩:=hd
   refine .h r (fun _=>.ixa0 CH BA r r q (BD f q) r r .mk) (.h r (fun _=>.loA (j:=0) EK BA .z f r r (.o 4 r) r r r .mk) ?_)
   obtain ⟨t,F,g,hd⟩:=hd
   refine .h r (fun _=>.ixa0 CH BA r r t (BD g t) r r .mk) (.ww r fun ex=>.stOA (j:=0) (v':=p) BA .z g r r r (.o r) r r (.sn 1 r r r (.ck 4 r r tv) (.e2 22 (.rl .z [0,16,20,24,30] r (by simp only [List.length_set]) ?_))))
   obtain ⟨u,G,i,hd⟩:=hd
   exact .ixa0 CH BA r r u (BD i u) r r (.stOA (j:=0) (v':=s) BA .z i r r r (.o r) r r (.rl .z [0,16,20,24,30] r (by simp only [List.length_set]) (.no 1039 r (.region (.ks 3 r (.nil' fun c w ho hs=>⟨(((a.set ((A7 (a0+b)).toNat) p).set ((A7 (a1+b)).toNat) s),A7 (b+1)),hd,jf e (by first | exact r | omega | (simp only [List.length_set] at * <;> omega)) [0] r ho hs⟩))))))
 exact .exit (Q5 r .n e (.o [0] r) ⟨a,r,(by first | exact r | omega | (simp only [List.length_set] at * <;> omega)),r,hd⟩)
theorem L0 {o0:List AB} {a0 a1 a2:Int} {Q:(List AB)→Prop} (hd:D1 o0 a0 a1 a2 Q) :
  Fun prog 329 #[.slice p2 o0.length c3,.int .i64 a0,.int .i64 a1,.int .i64 a2,.func (.func 254) #[] #[]] I [OwnSl BL 161 p2 c3 o0] (fun I_ v l=>∃ r,v=.tuple #[]∧r.length=o0.length∧l=[OwnSl BL 161 p2 c3 r]∧Q r):=by
 refine Fun.en func329 ntmps329 r fun w0 M=>?_
 refine .sk 4 r (.nk 1053 4 r (.no 3093 r (.seq (.block (.lx hd [4,2] [] r (fun j E l (e,a,b)=>fun c w=>j ⟨58,[],none⟩ (fun I_=>e.length=o0.length) ((0,.slice p2 e.length c3) :: (10,.int .i64 a) :: (11,.int .i64 b) :: E) (OwnSl BL 161 p2 c3 e :: l) c w) (fun c w ho hs=>jf rf (by first | exact r | omega | (simp only [List.length_set] at * <;> omega)) [0] r ho hs) ?_)))))
 rintro ⟨e,a,b⟩ J hd c w ⟨h,d,K,hok,hsym⟩
 refine Cod.at hok hsym (.seq (.sr (.kn 3 1051669 r (.condP r hd (fun q hd=>?_) fun q hd=>?_))))
 · refine .sn 3093 r (.block (.sr (.kn 3 8391701 r (.condP r hd (fun s hd=>?_) fun s hd=>?_))))
   · refine .sk 7 r ?_
     have t:=DG (I:=h) (p2:=p2) (c3:=c3) hd
     refine .callS (.f call342 r) (.o [0] r) t r r fun R S T u x=>?_
     obtain ⟨L,rfl,i,rfl,hd⟩:=x
     have y:=u.u1 d
     exact .rl .z [0,24] r (by rw [i]) (.no 3093 r (.region (.ks 4 r (.nil' fun c w ho hs=>⟨(L,A7 (a - b),b),hd,jf y (by first | exact r | omega | (simp only [List.length_set] at * <;> omega)) [0] r ho hs⟩))))
   refine .sk 11 r ?_
   have A:=DG (I:=h) (p2:=p2) (c3:=c3) hd
   refine .callS (.f call342 r) (.o [0] r) A r r fun U V W B C=>?_
   obtain ⟨N,rfl,k,rfl,hd⟩:=C
   have D:=B.u1 d
   exact .rl .z [0,35] r (by rw [k]) (.no 3093 r (.region (.ks 4 r (.nil' fun c w ho hs=>⟨(N,a,A7 (b - a)),hd,jf D (by first | exact r | omega | (simp only [List.length_set] at * <;> omega)) [0] r ho hs⟩))))
 refine .en 1045 r (.region (.ks 7 r ?_))
 have F:=DG (I:=h) (p2:=p2) (c3:=c3) hd
 refine .callS (.f call342 r) (.o [0] r) F r r fun O X P G m=>?_
 obtain ⟨H,rfl,g,rfl,hd⟩:=m
 have p:=G.u1 d
 exact .rl .z [0,50] r (by rw [g]) (.nil' (Q5 r .n p (.o [0] r) ⟨H,r,(by first | exact r | omega | (simp only [List.length_set] at * <;> omega)),r,hd⟩))
theorem IJ {rc:(List AB)→Int→Int→Int→((List AB)→Prop)→Prop} (ih:∀ {I:IH} {o0:List AB} {a0:Int} {a1:Int} {a2:Int} {p2:Option Addr} {c3:Nat} {Q:(List AB)→Prop} ,rc o0 a0 a1 a2 Q→Fun prog 312 #[.slice p2 o0.length c3,.int .i64 a0,.int .i64 a1,.int .i64 a2,.func (.func 254) #[] #[]] I [OwnSl BL 161 p2 c3 o0] (fun I_ v l=>∃ r,v=.tuple #[]∧r.length=o0.length∧l=[OwnSl BL 161 p2 c3 r]∧Q r)) {I:IH} {o0:List AB} {a0:Int} {a1:Int} {a2:Int} {p2:Option Addr} {c3:Nat} {Q:(List AB)→Prop}  (hd:B8 rc o0 a0 a1 a2 Q) :
  Fun prog 312 #[.slice p2 o0.length c3,.int .i64 a0,.int .i64 a1,.int .i64 a2,.func (.func 254) #[] #[]] I [OwnSl BL 161 p2 c3 o0] (fun I_ v l=>∃ r,v=.tuple #[]∧r.length=o0.length∧l=[OwnSl BL 161 p2 c3 r]∧Q r):=by
 refine Fun.en func312 ntmps312 r fun w0 M=>?_
 refine .seq (.sr (.kn 4 268435487 r (.condP r hd (fun f5 hd=>?_) fun f5 hd=>?_)))
 · refine .sk 2 r (.nk 1051 2 r (.no 3091 r (.seq (.block (.lp hd [4,1,0] [0] r (fun j E l (k,m)=>j ((10,.int .i64 k) :: (11,.int .i64 m) :: E) l) (ji rf [0] r) ?_)))))
   rintro ⟨k,m⟩ j2 hd
   refine jq r fun i3 S=>?_
   refine .seq (.sr (.kn 3 8589937683 r (.condP r hd (fun f6 hd=>?_) fun f6 hd=>?_)))
   · refine .sn 3091 r (.block (.sk 3 r (.conv XC dG r r r (.shr' r r (by decide) r r (.conv dG XC r r r (.kn 1 7187 r (.seq (.ownF .z fun b1=>?_))))))))
     refine .dr [0,1,2,3,4,5,6,7,8,9,10] 11 (.fk 3 r ?_)
     obtain ⟨b2,l9,A,hd⟩:=hd
     obtain ⟨m0,i4⟩:=b1 (CE A)
     cases i4
     refine .h r (fun _=>.ixa0 CH BA r r b2 (BD A b2) r r .mk) (.h r (fun _=>.loA (j:=0) EK BA .z A r r (.o 4 r) r r r .mk) (.fk 2 r ?_))
     obtain ⟨b3,m1,T,hd⟩:=hd
     refine .h r (fun _=>.ixa0 CH BA r r b3 (BD T b3) r r .mk) (.h r (fun _=>.loA (j:=0) EK BA .z T r r (.o 4 r) r r r .mk) (.ww r fun ex=>?_))
     have f7:=KE (I:=i3)  hd
     refine .callS (.c call254 r r) .n f7 r r fun m2 m3 m4 f8 f9=>?_
     obtain ⟨m5,rfl,rfl,hd⟩:=f9
     have U:=f8.u1 S
     refine .rx 1 r (.so 1 r r r tv (.fk 1 r (.e2 11 (.no 1125899906849811 r (.condP r hd (fun g0 hd=>?_) fun g0 hd=>?_)))))
     · exact .region (.ks 3 r (.nil' (je (A7 ((A7 (shr .u64 (IntKind.wrap .u64 (A7 (k+m))) 1))+1),m) hd U [0] r)))
     exact .region (.ks 2 r (.nil' (je (k,A7 (shr .u64 (IntKind.wrap .u64 (A7 (k+m))) 1)) hd U [0] r)))
   refine .en 1043 r (.seq (.sr (.kn 2 9233 r (.block (.lx hd [10,4] [] r (fun j E l (e,p)=>fun c w=>j ⟨220,[],none⟩ (fun I_=>e.length=o0.length) ((0,.slice p2 e.length c3) :: (13,.int .i64 p) :: E) (OwnSl BL 161 p2 c3 e :: l) c w) (fun c w ho hs=>jf rf (by first | exact r | omega | (simp only [List.length_set] at * <;> omega)) [0] r ho hs) ?_)))))
   rintro ⟨e,p⟩ j3 hd c w ⟨m6,V,j4,hok,hsym⟩
   have g1:=V.u1 S
   refine Cod.at hok hsym (.seq (.sr (.kn 4 288230376151720977 r (.condP r hd (fun g2 hd=>?_) fun g2 hd=>?_))))
   · refine .sn 9233 r (.seq (.block (.ownF .z fun b4=>?_)))
     refine .dr [0,1,2,3,4,5,6,7,8,9,10,11,12,13,14,15] 16 (.fk 8 r ?_)
     obtain ⟨b5,b6,B,hd⟩:=hd
     obtain ⟨m7,i5⟩:=b4 (CE B)
     cases i5
     refine .h r (fun _=>.ixa0 CH BA r r b5 (BD B b5) r r .mk) (.h r (fun _=>.loA (j:=0) EK BA .z B r r (.o 4 r) r r r .mk) (.fk 2 r ?_))
     obtain ⟨b7,b8,W,hd⟩:=hd
     refine .h r (fun _=>.ixa0 CH BA r r b7 (BD W b7) r r .mk) (.h r (fun _=>.loA (j:=0) EK BA .z W r r (.o 4 r) r r r .mk) ?_)
     obtain ⟨b9,m8,X,hd⟩:=hd
     refine .h r (fun _=>.ixa0 CH BA r r b9 (BD X b9) r r .mk) (.ww r fun ex=>?_)
     refine .stOA (j:=0) (v':=b6) BA .z X r r r (.o r) r r (.sn 1 r r r (.ck 3 r r tv) (.e2 16 (.rl .z [0,61,63,66,71] r (by simp only [List.length_set]) ?_)))
     obtain ⟨c0,m9,Y,hd⟩:=hd
     exact .ixa0 CH BA r r c0 (BD Y c0) r r (.stOA (j:=0) (v':=b8) BA .z Y r r r (.o r) r r (.rl .z [0,61,63,66,71] r (by simp only [List.length_set]) (.no 9233 r (.region (.ks 3 r (.nil' fun c w ho hs=>⟨(((e.set p.toNat b6).set ((A7 (p+1)).toNat) b8),A7 (p+1)),hd,jf V (by first | exact r | omega | (simp only [List.length_set] at * <;> omega)) [0] r ho hs⟩))))))
   exact .en 17 r (.ret (JG r .n g1 (.o [0] r) ⟨e,r,(by first | exact r | omega | (simp only [List.length_set] at * <;> omega)),r,hd⟩))
 refine .sn 31 r (.seq (.sr (.kn 4 1208925819614629174706207 r (.condP r hd (fun g3 hd=>?_) fun g3 hd=>?_))))
 · refine .sk 2 r (.nk 16405 2 r (.no 49173 r (.seq (.block (.lp hd [4,2,0] [0] r (fun j E l (q,s)=>j ((14,.int .i64 q) :: (15,.int .i64 s) :: E) l) (ji rf [0] r) ?_)))))
   rintro ⟨q,s⟩ j5 hd
   refine jq r fun i6 Z=>?_
   refine .seq (.sr (.kn 3 38685626227668133590646805 r (.condP r hd (fun g4 hd=>?_) fun g4 hd=>?_)))
   · refine .sn 49173 r (.block (.sk 3 r (.conv XC dG r r r (.shr' r r (by decide) r r (.conv dG XC r r r (.kn 1 114709 r (.seq (.ownF .z fun c1=>?_))))))))
     refine .dr [0,1,2,3,4,5,6,7,8,9,10,11] 12 (.fk 3 r ?_)
     obtain ⟨c2,n0,C,hd⟩:=hd
     obtain ⟨n1,i7⟩:=c1 (CE C)
     cases i7
     refine .h r (fun _=>.ixa0 CH BA r r c2 (BD C c2) r r .mk) (.h r (fun _=>.loA (j:=0) EK BA .z C r r (.o 4 r) r r r .mk) (.fk 2 r ?_))
     obtain ⟨c4,n2,a3,hd⟩:=hd
     refine .h r (fun _=>.ixa0 CH BA r r c4 (BD a3 c4) r r .mk) (.h r (fun _=>.loA (j:=0) EK BA .z a3 r r (.o 4 r) r r r .mk) (.ww r fun ex=>?_))
     have g5:=KE (I:=i6)  hd
     refine .callS (.c call254 r r) .n g5 r r fun n3 n4 n5 g6 g7=>?_
     obtain ⟨n6,rfl,rfl,hd⟩:=g7
     have a4:=g6.u1 Z
     refine .rx 1 r (.so 1 r r r tv (.fk 2 r (.e2 12 (.no 10141204801825835211973625757717 r (.condP r hd (fun g8 hd=>?_) fun g8 hd=>?_)))))
     · exact .region (.ks 3 r (.nil' (je (A7 ((A7 (shr .u64 (IntKind.wrap .u64 (A7 (q+s))) 1))+1),s) hd a4 [0] r)))
     exact .region (.ks 2 r (.nil' (je (q,A7 (shr .u64 (IntKind.wrap .u64 (A7 (q+s))) 1)) hd a4 [0] r)))
   refine .en 16405 r (.seq (.sr (.kn 2 147473 r (.block (.lx hd [14,4] [] r (fun j E l (g,t)=>fun c w=>j ⟨220,[],none⟩ (fun I_=>g.length=o0.length) ((0,.slice p2 g.length c3) :: (17,.int .i64 t) :: E) (OwnSl BL 161 p2 c3 g :: l) c w) (fun c w ho hs=>jf rf (by first | exact r | omega | (simp only [List.length_set] at * <;> omega)) [0] r ho hs) ?_)))))
   rintro ⟨g,t⟩ j6 hd c w ⟨n7,a5,j7,hok,hsym⟩
   have g9:=a5.u1 Z
   refine Cod.at hok hsym (.seq (.sr (.kn 3 1298074214633706907132624082452497 r (.condP r hd (fun h0 hd=>?_) fun h0 hd=>?_))))
   · refine .sn 147473 r (.seq (.block (.ownF .z fun c5=>?_)))
     refine .dr [0,1,2,3,4,5,6,7,8,9,10,11,12,13,14,15] 16 (.fk 8 r ?_)
     obtain ⟨c6,c7,D,hd⟩:=hd
     obtain ⟨n8,i8⟩:=c5 (CE D)
     cases i8
     refine .h r (fun _=>.ixa0 CH BA r r c6 (BD D c6) r r .mk) (.h r (fun _=>.loA (j:=0) EK BA .z D r r (.o 4 r) r r r .mk) (.fk 2 r ?_))
     obtain ⟨c8,c9,a6,hd⟩:=hd
     refine .h r (fun _=>.ixa0 CH BA r r c8 (BD a6 c8) r r .mk) (.h r (fun _=>.loA (j:=0) EK BA .z a6 r r (.o 4 r) r r r .mk) ?_)
     obtain ⟨d0,n9,a7,hd⟩:=hd
     refine .h r (fun _=>.ixa0 CH BA r r d0 (BD a7 d0) r r .mk) (.ww r fun ex=>?_)
     refine .stOA (j:=0) (v':=c7) BA .z a7 r r r (.o r) r r (.sn 1 r r r (.ck 3 r r tv) (.e2 16 (.rl .z [0,113,115,118,123] r (by simp only [List.length_set]) ?_)))
     obtain ⟨d1,o1,a8,hd⟩:=hd
     exact .ixa0 CH BA r r d1 (BD a8 d1) r r (.stOA (j:=0) (v':=c9) BA .z a8 r r r (.o r) r r (.rl .z [0,113,115,118,123] r (by simp only [List.length_set]) (.no 147473 r (.region (.ks 3 r (.nil' fun c w ho hs=>⟨(((g.set t.toNat c7).set ((A7 (t - 1)).toNat) c9),A7 (t - 1)),hd,jf a5 (by first | exact r | omega | (simp only [List.length_set] at * <;> omega)) [0] r ho hs⟩))))))
   exact .en 17 r (.ret (JG r .n g9 (.o [0] r) ⟨g,r,(by first | exact r | omega | (simp only [List.length_set] at * <;> omega)),r,hd⟩))
 refine .sn 31 r (.sk 3 r (.conv XC dG r r r (.shr' r r (by decide) r r (.conv dG XC r r r (.ks 1 r (.nk 262175 4 r (.nk 786463 2 r (.no 786463 r (.seq ?_)))))))))
 refine .jn hd [19,18,4,3,2,1,0] [0] r (fun j E l (d2,d3)=>j ((20,.int .i64 d2) :: (21,.int .i64 d3) :: E) l) (fun o2 hd=>?_) ?_
 · refine .sr (.kn 3 1393796574908163946345982392040522594910239 r (.condP r hd (fun h1 hd=>?_) fun h1 hd=>?_))
   · exact .sr (.kn 4 1835039 r (.region (.ks 2 r (.nil' (je (A7 ((A7 ((A7 (shr .u64 (IntKind.wrap .u64 (A7 (a0+a2))) 1))+a1)) - a2),A7 (shr .u64 (IntKind.wrap .u64 (A7 (a0+a2))) 1)) hd rf [0] r)))))
   exact .sr (.kn 2 1835039 r (.region (.ks 2 r (.nil' (je (a0,a1) hd rf [0] r)))))
 rintro ⟨d2,d3⟩ hd
 refine jq r fun o3 h2=>?_
 refine .sr (.kn 3 8126495 r (.seq (.block (.lp hd [22,19,18,4,3,2,1,0] [0] r (fun j E l (d,u)=>j ((20,.int .i64 d) :: (21,.int .i64 u) :: E) l) (ji rf [0] r) ?_))))
 rintro ⟨d,u⟩ j8 hd
 refine jq r fun d4 i=>?_
 have F:=i.u1 h2
 refine .seq (.sr (.kn 3 2854495385411919762116571938898990272773619743 r (.condP r hd (fun h3 hd=>?_) fun h3 hd=>?_)))
 · refine .sn 8126495 r (.block (.sk 3 r (.conv XC dG r r r (.shr' r r (by decide) r r (.conv dG XC r r r (.kn 1 16515103 r (.seq (.ownF .z fun d5=>?_))))))))
   refine .dr [0,1,2,3,4,5,6,7,8,9,10,11,12,13] 14 (.fk 5 r ?_)
   obtain ⟨d6,o4,G,hd⟩:=hd
   obtain ⟨o5,i9⟩:=d5 (CE G)
   cases i9
   refine .h r (fun _=>.ixa0 CH BA r r d6 (BD G d6) r r .mk) (.h r (fun _=>.loA (j:=0) EK BA .z G r r (.o 4 r) r r r .mk) (.fk 2 r ?_))
   obtain ⟨d7,o6,a9,hd⟩:=hd
   refine .h r (fun _=>.ixa0 CH BA r r d7 (BD a9 d7) r r .mk) (.h r (fun _=>.loA (j:=0) EK BA .z a9 r r (.o 4 r) r r r .mk) (.ww r fun ex=>?_))
   have h4:=KE (I:=d4)  hd
   refine .callS (.c call254 r r) .n h4 r r fun o7 o8 o9 h5 h6=>?_
   obtain ⟨p0,rfl,rfl,hd⟩:=h6
   obtain ⟨k7,b0⟩:=h5.u2 F i
   refine .rx 1 r (.so 1 r r r tv (.fk 2 r (.e2 14 (.no 2993155353253689176481146537402947624255349864529951 r (.condP r hd (fun h7 hd=>?_) fun h7 hd=>?_)))))
   · exact .region (.ks 3 r (.nil' (je (A7 ((A7 (shr .u64 (IntKind.wrap .u64 (A7 (d+u))) 1))+1),u) hd b0 [0] r)))
   exact .region (.ks 2 r (.nil' (je (d,A7 (shr .u64 (IntKind.wrap .u64 (A7 (d+u))) 1)) hd b0 [0] r)))
 refine .en 1835039 r (.sr (.kn 4 18087967 r (.seq (.jx hd [24,20,18,4,3,1] [] r (fun j E l a=>fun c w=>j ⟨220,[],none⟩ (fun I_=>a.length=o0.length) ((0,.slice p2 a.length c3) :: E) (OwnSl BL 161 p2 c3 a :: l) c w) (fun k8 hd=>?_) ?_))))
 · refine .sk 4 r (.spl hd [180,181] r (fun d8 hd=>?_) fun d8 hd=>?_)
   · refine .kn 4 49039857307708443467467104868809893875799651909893357599 r (.condP r hd (fun d9 hd=>?_) fun d9 hd=>?_)
     · refine .region (.ks 5 r ?_)
       have e0:=L0 (I:=d4) (p2:=p2) (c3:=c3) hd
       refine .callS (.f call329 r) (.o [0] r) e0 r r fun k9 l0 l1 H e1=>?_
       obtain ⟨h8,rfl,O,rfl,hd⟩:=e1
       obtain ⟨j9,k0⟩:=H.u2 F i
       exact .rl .z [0,186] r (by rw [O]) (.nil' fun c w ho hs=>⟨h8,hd,jf H (by first | exact r | omega | (simp only [List.length_set] at * <;> omega)) [0] r ho hs⟩)
     exact .skip' fun c w ho hs=>⟨o0,hd,jf rf (by first | exact r | omega | (simp only [List.length_set] at * <;> omega)) [0] r ho hs⟩
   exact .kn 4 49039857307708443467467104868809893875799651909893357599 r (.condKF r r (.skip' fun c w ho hs=>⟨o0,hd,jf rf (by first | exact r | omega | (simp only [List.length_set] at * <;> omega)) [0] r ho hs⟩))
 rintro a hd c w ⟨h9,x,j0,hok,hsym⟩
 obtain ⟨J,K⟩:=x.u2 F i
 refine Cod.at hok hsym (.seq (.jx hd [24,18,4,3] [] r (fun j E l b=>fun c w=>j ⟨220,[],none⟩ (fun I_=>b.length=a.length) ((0,.slice p2 b.length c3) :: E) (OwnSl BL 161 p2 c3 b :: l) c w) (fun l2 hd=>?_) ?_))
 · refine .sk 4 r (.spl hd [194,195] r (fun e3 hd=>?_) fun e3 hd=>?_)
   · refine .kn 4 803469022129495137770981046170581301261101496891396435738651 r (.condP r hd (fun e4 hd=>?_) fun e4 hd=>?_)
     · refine .region (.ks 5 r ?_)
       have e5:=ih (I:=h9) (o0:=a) (a0:=a0) (a1:=d) (a2:=(A7 (shr .u64 (IntKind.wrap .u64 (A7 (a0+a2))) 1))) (p2:=p2) (c3:=c3) hd
       refine .callS (.f call312 r) (.o [0] r) e5 r r fun l3 l4 l5 L e6=>?_
       obtain ⟨i0,rfl,P,rfl,hd⟩:=e6
       obtain ⟨k1,k2,k3⟩:=L.u3 J K x
       exact .rl .z [0,200] r (by rw [P]) (.nil' fun c w ho hs=>⟨i0,hd,jf L (by first | exact r | omega | (simp only [List.length_set] at * <;> omega)) [0] r ho hs⟩)
     exact .skip' fun c w ho hs=>⟨a,hd,jf rf (by first | exact r | omega | (simp only [List.length_set] at * <;> omega)) [0] r ho hs⟩
   exact .kn 4 803469022129495137770981046170581301261101496891396435738651 r (.condKF r r (.skip' fun c w ho hs=>⟨a,hd,jf rf (by first | exact r | omega | (simp only [List.length_set] at * <;> omega)) [0] r ho hs⟩))
 rintro b hd c w ⟨i1,N,j1,hok,hsym⟩
 obtain ⟨y,e7,e8⟩:=N.u3 J K x
 refine Cod.at hok hsym (.sk 4 r (.spl hd [208,209] r (fun e9 hd=>?_) fun e9 hd=>?_))
 · refine .kn 4 13164036458569648337239753460458804039861886925068638906805911577 r (.condP r hd (fun f0 hd=>?_) fun f0 hd=>?_)
   · refine .region (.ks 5 r ?_)
     have f1:=ih (I:=i1) (o0:=b) (a0:=(A7 (shr .u64 (IntKind.wrap .u64 (A7 (a0+a2))) 1))) (a1:=(A7 ((A7 ((A7 (shr .u64 (IntKind.wrap .u64 (A7 (a0+a2))) 1))+a1)) - d))) (a2:=a2) (p2:=p2) (c3:=c3) hd
     refine .callS (.f call312 r) (.o [0] r) f1 r r fun l6 l7 l8 f2 f3=>?_
     obtain ⟨i2,rfl,R,rfl,hd⟩:=f3
     obtain ⟨f4,k4,k5,k6⟩:=f2.u4 y e7 e8 N
     exact .rl .z [0,214] r (by rw [R]) (.nil' (Q5 r .n f4 (.o [0] r) ⟨i2,r,(by first | exact r | omega | (simp only [List.length_set] at * <;> omega)),r,hd⟩))
   exact .skip' (Q5 r .n y (.o [0] r) ⟨b,r,(by first | exact r | omega | (simp only [List.length_set] at * <;> omega)),r,hd⟩)
 exact .kn 4 13164036458569648337239753460458804039861886925068638906805911577 r (.condKF r r (.skip' (Q5 r .n y (.o [0] r) ⟨b,r,(by first | exact r | omega | (simp only [List.length_set] at * <;> omega)),r,hd⟩)))
theorem FA {o0:List AB} {a0 a1 a2:Int} {Q:(List AB)→Prop} (hd:CT o0 a0 a1 a2 Q) :
  Fun prog 312 #[.slice p2 o0.length c3,.int .i64 a0,.int .i64 a1,.int .i64 a2,.func (.func 254) #[] #[]] I [OwnSl BL 161 p2 c3 o0] (fun I_ v l=>∃ r,v=.tuple #[]∧r.length=o0.length∧l=[OwnSl BL 161 p2 c3 r]∧Q r):=by
 obtain ⟨k,hd⟩:=hd
 induction k generalizing I o0 a0 a1 a2 p2 c3 Q with | zero=>exact hd.elim | succ k ih=>exact IJ (rc:=CM k) ih  hd
theorem L1 {o0:List AB} {a0:Int} {Q:(List AB)→Prop} (hd:E9 o0 a0 Q) :
  Fun prog 300 #[.slice p2 o0.length c3,.int .i64 a0,.func (.func 254) #[] #[]] I [OwnSl BL 161 p2 c3 o0] (fun I_ v l=>∃ r,v=.tuple #[]∧r.length=o0.length∧l=[OwnSl BL 161 p2 c3 r]∧Q r):=by
 refine Fun.en func300 ntmps300 r fun w0 M=>?_
 refine .sk 1 r (.nk 71 3 r (.no 455 r (.seq (.block (.lx hd [6,2,1] [] r (fun j E l (i,a1,k)=>fun c w=>j ⟨63,[],none⟩ (fun I_=>i.length=o0.length) ((0,.slice p2 i.length c3) :: (7,.int .i64 a1) :: (8,.int .i64 k) :: E) (OwnSl BL 161 p2 c3 i :: l) c w) (fun c w ho hs=>jf rf (by first | exact r | omega | (simp only [List.length_set] at * <;> omega)) [0] r ho hs) ?_)))))
 rintro ⟨i,a1,k⟩ b2 hd c w ⟨a2,m,a7,hok,hsym⟩
 refine Cod.at hok hsym (.seq (.sr (.kn 3 8647 r (.condP r hd (fun C hd=>?_) fun C hd=>?_))))
 · refine .sn 455 r (.block (.sk 4 r ?_))
   have D:=EF (I:=a2) (p2:=p2) (c3:=c3) hd
   refine .callS (.f call225 r) (.o [0] r) D r r fun b7 b8 b9 F G=>?_
   obtain ⟨a3,rfl,t,rfl,hd⟩:=G
   have H:=F.u1 m
   exact .rl .z [0,14] r (by rw [t]) (.nk 327 2 r (.no 455 r (.region (.ks 4 r (.nil' fun c w ho hs=>⟨(a3,k,A7 (k+20)),hd,jf H (by first | exact r | omega | (simp only [List.length_set] at * <;> omega)) [0] r ho hs⟩)))))
 refine .en 199 r (.sk 4 r ?_)
 have J:=EF (I:=a2) (p2:=p2) (c3:=c3) hd
 refine .callS (.f call225 r) (.o [0] r) J r r fun c0 c1 c2 K L=>?_
 obtain ⟨a4,rfl,u,rfl,hd⟩:=L
 have N:=K.u1 m
 refine .rl .z [0,23] r (by rw [u]) (.no 71 r (.block (.lx hd [2,1] [] r (fun j E l (a,b)=>fun c w=>j ⟨63,[],none⟩ (fun I_=>a.length=a4.length) ((0,.slice p2 a.length c3) :: (6,.int .i64 b) :: E) (OwnSl BL 161 p2 c3 a :: l) c w) (fun c w ho hs=>jf rf (by first | exact r | omega | (simp only [List.length_set] at * <;> omega)) [0] r ho hs) ?_)))
 rintro ⟨a,b⟩ a8 hd c w ⟨c4,p,a9,hok,hsym⟩
 have q:=p.u1 N
 refine Cod.at hok hsym (.seq (.sr (.kn 3 1073741895 r (.condP r hd (fun O hd=>?_) fun O hd=>?_))))
 · refine .sn 71 r (.block (.sr (.kn 4 455 r (.seq (.block (.lx hd [6,2,1] [] r (fun j E l (d,A,e)=>fun c w=>j ⟨63,[],none⟩ (fun I_=>d.length=a.length) ((0,.slice p2 d.length c3) :: (7,.int .i64 A) :: (8,.int .i64 e) :: E) (OwnSl BL 161 p2 c3 d :: l) c w) (fun c w ho hs=>jf rf (by first | exact r | omega | (simp only [List.length_set] at * <;> omega)) [0] r ho hs) ?_))))))
   rintro ⟨d,A,e⟩ b0 hd c w ⟨B,g,b1,hok,hsym⟩
   obtain ⟨s,h⟩:=g.u2 q p
   refine Cod.at hok hsym (.seq (.sr (.kn 3 34359738823 r (.condP r hd (fun P hd=>?_) fun P hd=>?_))))
   · refine .sn 455 r (.block (.sk 7 r ?_))
     have R:=FA (I:=B) (p2:=p2) (c3:=c3) hd
     refine .callS (.f call312 r) (.o [0] r) R r r fun c5 c6 c7 S T=>?_
     obtain ⟨a5,rfl,x,rfl,hd⟩:=T
     obtain ⟨b3,b4,U⟩:=S.u3 s h g
     exact .rl .z [0,36] r (by rw [x]) (.nk 327 2 r (.no 455 r (.region (.ks 5 r (.nil' fun c w ho hs=>⟨(a5,e,A7 (e+(A7 (2*b)))),hd,jf U (by first | exact r | omega | (simp only [List.length_set] at * <;> omega)) [0] r ho hs⟩)))))
   refine .en 199 r (.seq (.sk 4 r (.nk 711 3 r (.no 18014398509482695 r (.condP r hd (fun V hd=>?_) fun V hd=>?_)))))
   · refine .region (.ks 5 r ?_)
     have W:=FA (I:=B) (p2:=p2) (c3:=c3) hd
     refine .callS (.f call312 r) (.o [0] r) W r r fun c8 c9 d0 X Y=>?_
     obtain ⟨a6,rfl,y,rfl,hd⟩:=Y
     obtain ⟨b5,Z,b6⟩:=X.u3 s h g
     exact .rl .z [0,55] r (by rw [y]) (.no 71 r (.region (.ks 3 r (.nil' fun c w ho hs=>⟨(a6,A7 (b*2)),hd,jf Z (by first | exact r | omega | (simp only [List.length_set] at * <;> omega)) [0] r ho hs⟩))))
   exact .sn 71 r (.region (.ks 3 r (.nil' fun c w ho hs=>⟨(d,A7 (b*2)),hd,jf h (by first | exact r | omega | (simp only [List.length_set] at * <;> omega)) [0] r ho hs⟩)))
 exact .exit (Q5 r .n q (.o [0] r) ⟨a,r,(by first | exact r | omega | (simp only [List.length_set] at * <;> omega)),r,hd⟩)
theorem H4 {o0:List AB} {Q:(List AB)→Prop} (hd:C0 o0 Q) :
  Fun prog 271 #[.slice p2 o0.length c3,.func (.func 254) #[] #[]] I [OwnSl BL 161 p2 c3 o0] (fun I_ v l=>∃ r,v=.tuple #[]∧r.length=o0.length∧l=[OwnSl BL 161 p2 c3 r]∧Q r):=by
 refine Fun.en func271 ntmps271 r fun w0 M=>?_
 refine .region (.ks 2 r (.ln CH r (.ks 1 r ?_)))
 have b:=L1 (I:=I) (p2:=p2) (c3:=c3) hd
 refine .callS (.f call300 r) (.o [0] r) b r r fun g h i c d=>?_
 obtain ⟨e,rfl,a,rfl,hd⟩:=d
 exact .rl .z [0,4,5] r (by rw [a]) (.nil' (Q5 r .n c (.o [0] r) ⟨e,r,(by first | exact r | omega | (simp only [List.length_set] at * <;> omega)),r,hd⟩))
theorem mV {a0:Int} {a1:List (List AB)} {Q:((List AB)×Int)→Prop} (R3:RepSl (JI BL) I p1 c2 a1) (hd:NG a0 a1 Q) :
  BH prog 222 [.int .i64 a0,.slice p1 a1.length c2] I (AeD Q):=by
 refine Fun.en func222 ntmps222 r fun w0 M=>?_
 refine .sr (.kn 2 3 r (.seq (.sk 1 r ?_)))
 have W:=PZ (I:=I) hd
 refine .cq call100 W r fun d8 hd=>?_
 refine .kn 1 8195 r (.condP r hd (fun X hd=>?_) fun X hd=>?_)
 · exact .sr (.kn 2 48 r (.ret (B9 r (.t r (.t r .n)) rf ⟨(([]:List AB),8),_,_,r,(.nil _ _ _),hd⟩)))
 refine .sn 3 r (.seq (.sk 1 r ?_))
 have Y:=HO   R3 hd
 refine .callS (.f call268 r) .n Y r r fun d9 e0 e1 m Z=>?_
 obtain ⟨e3,rfl,rfl,hd⟩:=Z
 have R3:=m.u1 R3
 refine .rn 0 r (.no 32771 r (.condP r hd (fun a2 hd=>?_) fun a2 hd=>?_))
 · exact .sr (.kn 2 48 r (.ret (B9 r (.t r (.t r .n)) m ⟨(([]:List AB),6),_,_,r,(.nil _ _ _),hd⟩)))
 refine .sn 3 r (.sk 1 r ?_)
 have a3:=MB R3 hd
 refine .callO call270 r a3 r r fun e4 b9 e5 a4 a5=>?_
 obtain ⟨e6,c0,c1,rfl,rfl,hd⟩:=a5
 obtain ⟨a6,R3⟩:=a4.u2 m R3
 refine .ks 1 r (.nk 65 1 r ?_)
 have a7:=H4 (I:=b9) (p2:=c0) (c3:=c1) hd
 refine .callS (.f call271 r) (.o [0] r) a7 r r fun e7 e8 e9 a8 a9=>?_
 obtain ⟨f0,rfl,x,rfl,hd⟩:=a9
 have b0:=a8.u1 a6
 refine .rl .z [6,18] r (by rw [x]) (.nk 65 1 r (.no 193 r (.seq (.sk 1 r (.ln CH r (.kn 1 7340161 r (.block (.own0 BL 161 (.lx hd [21,20,0] [1] r (fun j E l (b,d)=>fun c w=>∃ p q,j ⟨61,[],none⟩ (fun I_=>True) ((7,.slice p b.length q) :: (22,.int .i64 d) :: E) (OwnSl BL 161 p q b :: l) c w) (fun c w ho hs=>⟨_,_,jf rf tv [0,0] r ho hs⟩) ?_)))))))))
 rintro ⟨b,d⟩ b8 hd c w ⟨p,q,b1,e,_,hok,hsym⟩
 have s:=e.u1 b0
 refine Cod.at hok hsym (.sr (.kn 1 15728769 r (.seq (.condP r hd (fun L hd=>?_) fun L hd=>?_))))
 · refine .sn 7340161 r (.seq (.block (.sr ?_)))
   obtain ⟨y,A,g,hd⟩:=hd
   refine .ownNe .p1 (CE g) fun c6 b2=>?_
   cases b2
   refine .ixa0 CH BA r r y (BD g y) r r (.loA (j:=0) EK BA .p1 g r r (.o 4 r) r r r (.al QR r fun c7=>?_))
   refine .sa BA .z r (.no 7340673 r (.seq (.sk 1 r (.ln CH r (.kn 1 7341697 r (.seq (.jn hd [22,21,20,10,9,7,0] [1,0,0] r (fun j E l B=>j ((39,.bool B) :: E) l) (fun c8 hd=>?_) ?_)))))))
   · refine .ownF .p1 fun C=>?_
     refine .dr [0,1,2,3,4,5,6,7,8,9,10,11] 12 (.fk 3 r ?_)
     refine FE hd (fun a hd=>?_) fun a hd=>?_
     · refine .h r (fun _=>.gyes r r a (.move r r r .mk)) (.h r (fun _=>.gyes r r a (.move r r r .mk)) (.h r (fun _=>.gyes r r a (.sub' r r r r .mk)) ?_))
       obtain ⟨D,c9,i,hd⟩:=hd
       obtain ⟨d0,b3⟩:=C (CE i)
       cases b3
       refine .h r (fun _=>.gyes r r a (.ixa0 CH BA r r D (BD i D) r r .mk)) (.h r (fun _=>.gyes r r a (.loA (j:=0) EK BA .p1 i r r (.o 4 r) r r r .mk)) (.h r (fun _=>.gyes r r a (.lw EK BA .z r .mk)) (.ww r fun ex=>?_)))
       have N:=bA (I:=b1) hd
       refine .gyes r r a (.callP call254 r N r r fun d1 O=>?_)
       obtain ⟨b4,rfl,hd⟩:=O
       exact .so 3 r r r tv (.h r (fun _=>.gyes r r a (.eq r r r r .mk)) (.h r (fun _=>.pickT r a r r r .mk) (.e2 12 (.nil' (je (b4==0) hd rf [1,0,0] r)))))
     refine .h r (fun _=>.gno r r a r r .mk) (.h r (fun _=>.gno r r a r r .mk) (.h r (fun _=>.gno r r a r r .mk) (.h r (fun _=>.gno r r a r r .mk) (.h r (fun _=>.gno r r a r r .mk) (.h r (fun _=>.gno r r a r r .mk) (.h r (fun _=>.gno r r a r r .mk) (.h r (fun _=>.gno r r a r r .mk) (.h r (fun _=>.pickF r a r r r .mk) (.e2 12 ?_)))))))))
     exact .nil' (je false hd rf [1,0,0] r)
   refine fun B hd=>jq r fun b5 P=>?_
   obtain ⟨c4,u⟩:=P.u2 s e
   refine .condP r hd (fun R hd=>?_) fun R hd=>?_
   · refine .seq (.ownF .z fun F=>?_)
     refine .dr [0,1,2,3,4,5,6,7,8,9,10,11,12,13,14,15] 16 (.fk 7 r ?_)
     obtain ⟨G,d2,k,hd⟩:=hd
     obtain ⟨d3,b6⟩:=F (CE k)
     cases b6
     refine .h r (fun _=>.ixa0 CH BA r r G (BD k G) r r .mk) (.fk 1 r (.h r (fun _=>.loA (j:=2) B7 AG .z k r r (.o 2 r) r r r .mk) (.fk 1 r (.h r (fun _=>.loadA B7 AG r .p1 (.o 2 r) r r r .mk) (.ww r fun ex=>?_)))))
     have S:=YU (I:=b5) hd
     refine .cq call184 S r fun H hd=>?_
     refine .so 3 r r r (.ck 3 r r tv) ?_
     obtain ⟨J,K,v,hd⟩:=hd
     refine .h r (fun _=>.ixa0 CH BA r r J (BD v J) r r .mk) (.fk 1 r (.ww r fun ex=>?_))
     exact .stOA (j:=2) (v':=({ K with Val:=H }:AB)) AG .z v r r r (.o r) r r (.sn 3 r r r tv (.e2 16 (.rl .z [7,40,44] r (by simp only [List.length_set]) (.no 7340161 r (.drop .p1 (.en 7340161 r (.region (.ks 2 r (.nil' fun c w ho hs=>⟨((b.set ((A7 ((b.length:Int) - 1)).toNat) ({ K with Val:=H }:AB)),A7 (d+1)),hd,_,_,jf u tv [0,0] r ho hs⟩)))))))))
   refine .sn 7340673 r (.region (.ks 1 r (.lw EK BA .p1 r (.bs 1 CH BA QR r fun d4=>?_))))
   obtain ⟨T,hd⟩:=hd
   refine .append (ys:=[A]) 32 .p1 CH CH dD r r r r r r r r r (.box .z (.one r) r) T r r fun d5 d6=>?_
   exact .kn 1 7340161 r (.drop .p1 (.drop .p1 (.region (.ks 2 r (.nil' fun c w ho hs=>⟨((b++([A])),A7 (d+1)),hd,_,_,jf u tv [0,0] r ho hs⟩)))))
 refine .en 128 r (.drop .p1 (.sr (.kn 3 48 r (.pub .z fun d7 U b7=>?_))))
 obtain ⟨V,c5⟩:=U.u2 s e
 exact .ret (B9 r (.t r (.t r .n)) V ⟨(b,0),_,_,r,b7,hd⟩)
theorem W8 {a0:List Int} {Q:Int→Prop} (R3:RepSl BQ I p1 c2 a0) (hd:HZ a0 Q) :
  BH prog 201 [.slice p1 a0.length c2] I (fun _=>bI Q):=by
 refine Fun.en func201 ntmps201 r fun w0 M=>.sr (.kn 1 1 r (.seq (.sk 1 r (.ln BP r (.kn 1 129 r (.condP r hd (fun k hd=>?_) fun k hd=>?_))))))
 · refine .region ?_
   exact hd.elim
 refine .sn 1 r (.sk 1 r ?_)
 obtain ⟨m,s,e,t,o19,n,f,hd⟩:=R3.ix hd
 refine .ixb BP DN n m e r (.ldb 0 AP f r (.kn 1 9 r (.seq (.sr (.kn 1 25 r (.block (.lp hd [0] [] r (fun j E l (a,c)=>j ((3,.int .i64 a) :: (4,.int .i64 c) :: E) l) (ji rf [] r) ?_)))))))
 rintro ⟨a,c⟩ o hd
 refine jq r fun u b=>?_
 have R3:=b.u1 R3
 refine .seq (.sk 2 r (.ln BP r (.kn 1 32793 r (.condP r hd (fun g hd=>?_) fun g hd=>?_))))
 · refine .sn 25 r (.seq (.block (.region (.ks 3 r ?_))))
   obtain ⟨p,d,h,v,o63,q,i,hd⟩:=R3.ix hd
   exact .ixb BP DN q p h r (.ldb 0 AP i r (.minI r r r r (.kn 1 25 r (.region (.ks 3 r (.nil' (je ((if d<a then d else a),A7 (c+1)) hd b [] r)))))))
 exact .en 8 r (.sr (.kn 2 4 r (.r1 results201 r b ⟨a,r,hd⟩)))
theorem TD {a0 a1:AB} {Q:Int→Prop} (hd:FY a0 a1 Q) :
  BH prog 112 [.agg (NY a0).toArray,.agg (NY a1).toArray] I (fun _=>bI Q):=by
 refine Fun.en func112 ntmps112 r fun w0 M=>.sr (.bx r fun l=>.bx r fun m=>.kn 1 12 r (.seq (.dr [0,1,2,3,5,6,7,8,4,9,10,11] 12 (.fk 1 r (.hl AP 1 r (.fk 1 r (.hl AP 0 r (.fk 1 r (.hl AP 1 r (.fk 1 r (.hl AP 0 r (.ww r fun ex=>?_))))))))))))
 have b:=DQ (I:=I) hd
 refine .cq call114 b r fun f hd=>.so 2 r r r (.ch r (fun _=>.lo AP .z r .mk) (.ck 1 r r (.ch r (fun _=>.lo AP .p1 r .mk) (.ck 1 r r tv)))) (.ww r fun ex=>?_)
 have c:=DQ (I:=I) hd
 refine .cq call114 c r fun a hd=>.so 2 r r r tv (.ww r fun ex=>.bs 2 BP DN qJ r fun i=>.so 3 r r r tv (.ww r fun ex=>.pubB (El:=BQ) (ys:=([f,a]:List Int)) (k:=2) .z (RepCs.cons (cs:=[.int .i64 f]) r (RepCs.cons (cs:=[.int .i64 a]) r .nil)) r fun j d g=>?_))
 have e:=MZ g hd
 exact .cq call113 e r fun h hd=>.so 2 r r r tv (.e2 12 (.kn 1 16 r (.drop .z (.drop .z (.r1 results112 r d ⟨h,r,hd⟩)))))
theorem pW {a0:Int} {Q:Int→Prop} (hd:SZ a0 Q) :
  BH prog 182 [.int .i64 a0] I (fun _=>bI Q):=by
 refine Fun.en func182 ntmps182 r fun w0 M=>.sr (.kn 1 1 r (.seq (.sr (.kn 1 8 r (.block (.seq (.sr (.kn 2 24 r (.condP r hd (fun a hd=>?_) fun a hd=>?_)))))))))
 · exact .sn 16 r (.condKT r a (.sr (.kn 1 4 r (.r0 results182 r ⟨4611686018427387904,r,hd⟩))))
 refine .sr (.kn 2 24 r (.condP r hd (fun b hd=>?_) fun b hd=>?_))
 · exact .sn 16 r (.condKT r b (.sr (.kn 1 4 r (.r0 results182 r ⟨4611686018427387904,r,hd⟩))))
 refine .region (.kn 2 16 r (.condP r hd (fun c hd=>?_) fun c hd=>?_))
 · exact .sr (.kn 1 4 r (.r0 results182 r ⟨4611686018427387904,r,hd⟩))
 exact .sn 0 r (.sr (.kn 1 4 r (.r0 results182 r ⟨0,r,hd⟩)))
theorem O5 {a0 a1:Int} {Q:Bool→Prop} (hd:JP a0 a1 Q) :
  BH prog 204 [.int .i64 a0,.int .i64 a1] I (fun _=>XX Q):=by
 refine Fun.en func204 ntmps204 r fun w0 M=>.sk 1 r (.nk 3 3 r (.spl hd [6,7] r (fun a hd=>?_) fun a hd=>?_))
 · exact .kn 5 16 r (.r0 results204 r ⟨(decide (a0≤a1)),r,hd⟩)
 exact .kn 5 16 r (.r0 results204 r ⟨false,r,hd⟩)
theorem bC {o0 o1:Int} {a0:AB} {Q:Bool→Prop} (hd:OX o0 o1 a0 Q) :
  Fun prog 206 #[.agg (NY a0).toArray,.pointer (some ⟨b3,0,none⟩),.pointer (some ⟨b4,0,none⟩)] I [pto b3 (.cells #[.int .i64 o0] 3 (0,0)),pto b4 (.cells #[.int .i64 o1] 3 (0,0))] (fun I_ v l=>∃ r,v=.bool r∧l=[pto b3 (.cells #[.int .i64 o0] 3 (0,0)),pto b4 (.cells #[.int .i64 o1] 3 (0,0))]∧Q r):=by
 refine Fun.en func206 ntmps206 r fun w0 M=>?_
 refine .sr (.bx r fun g=>?_)
 refine .ks 1 r (.nk 14 1 r (.lo AP .z r (.lo AP .p1 r (.ks 1 r ?_))))
 have a:=O5 (I:=I) hd
 refine .cq call204 a r fun h hd=>?_
 refine .ks 2 r (.spl hd [10,11] r (fun b hd=>?_) fun b hd=>?_)
 · exact .kn 8 22 r (.drop .z (.q1 results206 rf [0,0] r ⟨true,r,r,hd⟩))
 refine .ks 1 r (.yes r (.lo AP .z r (.yes r (.lo AP .p2 r (.ks 1 r ?_)))))
 have c:=O5 (I:=I) hd
 refine .yes r (.callP call204 r c r r fun f d=>?_)
 obtain ⟨e,rfl,hd⟩:=d
 exact .kn 3 22 r (.drop .z (.q1 results206 rf [0,0] r ⟨(!e),r,r,hd⟩))
theorem IX {o0 o1:Int} {a0:List AB} {Q:Int→Prop} (R7:RepSl BL I p5 c6 a0) (hd:DD o0 o1 a0 Q) :
  Fun prog 253 #[.slice p5 a0.length c6,.func (.func 206) #[] #[.pointer (some ⟨b3,0,none⟩),.pointer (some ⟨b4,0,none⟩)]] I [pto b3 (.cells #[.int .i64 o0] 3 (0,0)),pto b4 (.cells #[.int .i64 o1] 3 (0,0))] (fun I_ v l=>∃ r,v=.int .i64 r∧l=[pto b3 (.cells #[.int .i64 o0] 3 (0,0)),pto b4 (.cells #[.int .i64 o1] 3 (0,0))]∧Q r):=by
 refine Fun.en func253 ntmps253 r fun w0 M=>?_
 refine .sr (.kn 1 3 r (.seq (.sk 1 r (.ln CH r (.kn 1 387 r (.block (.lp hd [7,1,0] [0,0] r (fun j E l d=>j ((8,.int .i64 d) :: E) l) (ji rf [0,0] r) ?_)))))))
 refine fun d n hd=>jq r fun p a=>?_
 have R7:=a.u1 R7
 refine .sr (.kn 1 899 r (.seq (.condP r hd (fun f hd=>?_) fun f hd=>?_)))
 · refine .sn 387 r (.seq (.block (.sk 2 r (.nk 419 3 r ?_))))
   obtain ⟨q,t,g,u,o59,s,b,hd⟩:=R7.ix hd
   refine .ixb CH BA s q g r (.ldW EK BA b r r r r ?_)
   have h:=bC (I:=p) (b3:=b3) (b4:=b4) hd
   refine .callS (.c call206 r r) (.o [0,0] r) h r r fun w x y i k=>?_
   obtain ⟨z,rfl,rfl,hd⟩:=k
   obtain ⟨e,R7,b⟩:=i.u3 a R7 b
   refine .rn 2 r (.no 65955 r (.condP r hd (fun m hd=>?_) fun m hd=>?_))
   · exact .sr (.kn 2 18 r (.q1 results253 e [0,0] r ⟨d,r,r,hd⟩))
   exact .sn 387 r (.region (.ks 2 r (.nil' (je (A7 (d+1)) hd e [0,0] r))))
 exact .en 2 r (.sr (.kn 1 18 r (.q1 results253 a [0,0] r ⟨(-1),r,r,hd⟩)))
theorem HP {o0 o1:Int} {a0:List AB} {Q:Bool→Prop} (R7:RepSl BL I p5 c6 a0) (hd:D0 o0 o1 a0 Q) :
  Fun prog 205 #[.slice p5 a0.length c6,.func (.func 206) #[] #[.pointer (some ⟨b3,0,none⟩),.pointer (some ⟨b4,0,none⟩)]] I [pto b3 (.cells #[.int .i64 o0] 3 (0,0)),pto b4 (.cells #[.int .i64 o1] 3 (0,0))] (fun I_ v l=>∃ r,v=.bool r∧l=[pto b3 (.cells #[.int .i64 o0] 3 (0,0)),pto b4 (.cells #[.int .i64 o1] 3 (0,0))]∧Q r):=by
 refine Fun.en func205 ntmps205 r fun w0 M=>?_
 refine .sk 1 r (.nk 3 2 r ?_)
 have c:=IX  (b3:=b3) (b4:=b4) R7 hd
 refine .callS (.f call253 r) (.o [0,0] r) c r r fun e h g a b=>?_
 obtain ⟨d,rfl,rfl,hd⟩:=b
 have R7:=a.u1 R7
 exact .rn 2 r (.kn 2 18 r (.q1 results205 a [0,0] r ⟨(decide (0≤d)),r,r,hd⟩))
theorem pX {a0 a1 a2:Int} {a3:List AB} {Q:(Rows×Int)→Prop} (R3:RepSl BL I p1 c2 a3) (hd:WU a0 a1 a2 a3 Q) :
  BH prog 131 [.int .i64 a0,.int .i64 a1,.int .i64 a2,.slice p1 a3.length c2] I (o8_ Q):=by
 refine Fun.en func131 ntmps131 r fun w0 M=>?_
 refine .sr (.box1 r r r r fun b7=>?_)
 refine .box1 r r r r fun b8=>?_
 refine .al CF r fun d9=>?_
 refine .kn 1 361 r (.seq (.block (.sk 1 r ?_)))
 have a8:=PZ (I:=I) hd
 refine .cq call100 a8 r fun e0 hd=>?_
 refine .kn 2 33129 r (.condP r hd (fun a9 hd=>?_) fun a9 hd=>?_)
 · exact .sr (.bd CF FJ FI r (.sa AE .z r (.kn 1 768 r (.drop .p1 (.drop .p1 (.ret (B9 r (.w B6 AE r .z r (.t r .n)) rf ⟨(B1,8),((_,_),(_,_),(_,_)),r,⟨(.nil _ _ _),(.nil _ _ _),(.nil _ _ _)⟩,hd⟩)))))))
 refine .seq (.jn hd [8,6,5,3,0] [2,1,0] r (fun j E l p=>j ((20,.bool p) :: E) l) (fun c0 hd=>?_) ?_)
 · refine .region (.lo AP .p2 r ?_)
   have x:=O5 (I:=I) hd
   refine .cq call204 x r fun c1 hd=>?_
   refine .ks 2 r (.spl hd [23,24] r (fun y hd=>?_) fun y hd=>?_)
   · exact .ks 5 r (.nil' (je true hd rf [2,1,0] r))
   refine .yes r (.lo AP .p1 r ?_)
   have A:=O5 (I:=I) hd
   refine .yes r (.callP call204 r A r r fun c3 B=>?_)
   obtain ⟨b0,rfl,hd⟩:=B
   exact .ks 3 r (.nil' (je (!b0) hd rf [2,1,0] r))
 refine fun p hd=>jq r fun c4 e=>?_
 have R3:=e.u1 R3
 refine .condP r hd (fun C hd=>?_) fun C hd=>?_
 · exact .sr (.bd CF FJ FI r (.sa AE .p2 r (.kn 1 768 r (.drop .z (.drop .z (.ret (B9 r (.w B6 AE r .z r (.t r .n)) e ⟨(B1,3),((_,_),(_,_),(_,_)),r,⟨(.nil _ _ _),(.nil _ _ _),(.nil _ _ _)⟩,hd⟩)))))))
 refine .sk 1 r (.mkFn r r r r ?_)
 have D:=HP  (b3:=b7) (b4:=b8) R3 hd
 refine .callS (.f call205 r) (.o [0,0] r) D r r fun c5 c6 c7 F G=>?_
 obtain ⟨c8,rfl,rfl,hd⟩:=G
 obtain ⟨a,R3⟩:=F.u2 e R3
 refine .rn 3 r (.kn 1 1073742185 r (.condP r hd (fun H hd=>?_) fun H hd=>?_))
 · exact .sr (.bd CF FJ FI r (.sa AE .p2 r (.kn 1 768 r (.drop .z (.drop .z (.ret (B9 r (.w B6 AE r .z r (.t r .n)) a ⟨(B1,3),((_,_),(_,_),(_,_)),r,⟨(.nil _ _ _),(.nil _ _ _),(.nil _ _ _)⟩,hd⟩)))))))
 refine .sk 1 r ?_
 have J:=bB R3 hd
 refine .cq call207 J r fun c9 hd=>?_
 refine .kn 2 34359738729 r (.condP r hd (fun K hd=>?_) fun K hd=>?_)
 · exact .sr (.bd CF FJ FI r (.sa AE .p2 r (.kn 1 768 r (.drop .z (.drop .z (.ret (B9 r (.w B6 AE r .z r (.t r .n)) a ⟨(B1,6),((_,_),(_,_),(_,_)),r,⟨(.nil _ _ _),(.nil _ _ _),(.nil _ _ _)⟩,hd⟩)))))))
 refine .sk 1 r (.ln CH r (.kn 2 1099511628137 r (.condP r hd (fun L hd=>?_) fun L hd=>?_)))
 · exact .sr (.bd CF FJ FI r (.sa AE .p2 r (.kn 1 768 r (.drop .z (.drop .z (.ret (B9 r (.w B6 AE r .z r (.t r .n)) a ⟨(B1,5),((_,_),(_,_),(_,_)),r,⟨(.nil _ _ _),(.nil _ _ _),(.nil _ _ _)⟩,hd⟩)))))))
 refine .sn 361 r (.sr (.kn 1 1385 r (.seq (.sk 1 r (.ln CH r (.kn 1 246290604623201 r (.block (.own0 B5 103 (.lx hd [46,45,8,6,5,0] [1,1,1] r (fun j E l (d,g)=>fun c w=>∃ h i,j ⟨82,[],none⟩ (fun I_=>True) ((10,.slice h d.length i) :: (47,.int .i64 g) :: E) (OwnSl B5 103 h i d :: l) c w) (fun c w ho hs=>⟨_,_,jf rf tv [0,0,0,0] r ho hs⟩) ?_)))))))))
 rintro ⟨d,g⟩ b6 hd c w ⟨h,i,q,b,_,hok,hsym⟩
 obtain ⟨m,R3⟩:=b.u2 a R3
 refine Cod.at hok hsym (.sr (.kn 1 527765581333857 r (.seq (.condP r hd (fun N hd=>?_) fun N hd=>?_))))
 · refine .sn 246290604623201 r (.seq (.block (.sr ?_)))
   obtain ⟨b1,s,O,d0,o468,b2,P,hd⟩:=R3.ix hd
   refine .ixb CH BA b2 b1 O r (.ldW EK BA P r r r r (.al QR r fun d1=>?_))
   refine .sa BA .z r (.nk 246290604627297 2 r (.loadA B7 AG r .z (.o 2 r) r r r ?_))
   have R:=Y5 (I:=q) hd
   refine .cq call185 R r fun u hd=>?_
   refine .kn 5 246290604651873 r (.seq (.sr (.kn 2 576707042908058977 r (.condP r hd (fun S hd=>?_) fun S hd=>?_))))
   · exact .sr (.bd CF FJ FI r (.sa AE .p4 r (.kn 1 768 r (.drop .z (.drop .z (.drop .z (.drop .z (.ret (B9 r (.w B6 AE r .z r (.t r .n)) m ⟨(B1,12),((_,_),(_,_),(_,_)),r,⟨(.nil _ _ _),(.nil _ _ _),(.nil _ _ _)⟩,hd⟩)))))))))
   refine .sn 246290604635489 r (.sk 2 r ?_)
   have T:=pW (I:=q) hd
   refine .cq call182 T r fun d2 hd=>?_
   refine .kn 1 18446990364314187105 r (.condP r hd (fun U hd=>?_) fun U hd=>?_)
   · refine .region (.ks 2 r (.lo AP .z r (.ks 1 r (.lo AP .z r (.ks 1 r (.bd HT VU VR r (.bs 1 D5 D8 HT r fun d3=>?_)))))))
     obtain ⟨V,hd⟩:=hd
     refine .append (ys:=[({ s with Val:=u.1 }:A1)]) 24 .p2 D5 D5 UQ r r r r r r r r r (.box .z (.one r) r) V r r fun d4 d5=>?_
     exact .kn 1 246290604623201 r (.drop .p1 (.drop .p1 (.region (.ks 2 r (.nil' fun c w ho hs=>⟨((d++([({ s with Val:=u.1 }:A1)])),A7 (g+1)),hd,_,_,jf b tv [0,0,0,0] r ho hs⟩)))))
   exact .sn 246290604623201 r (.drop .z (.region (.ks 2 r (.nil' fun c w ho hs=>⟨(d,A7 (g+1)),hd,_,_,jf b tv [0,0,0,0] r ho hs⟩))))
 refine .en 1377 r (.sk 1 r (.lo AP .p1 r (.lo AP .p2 r (.ks 1 r (.pub .z fun d6 W k=>?_)))))
 obtain ⟨X,Y⟩:=W.u2 m b
 have Z:=gT k hd
 refine .call call208 r Z r r fun d7 d8 a4 a5=>?_
 obtain ⟨v,a6,rfl,b5,hd⟩:=a5
 obtain ⟨a7,b9,k⟩:=a4.u3 X Y k
 exact .ks 2 r (.sa AE .p2 r (.kn 1 768 r (.drop .z (.drop .z (.ret (B9 r (.w B6 AE r .z r (.t r .n)) a7 ⟨(v.1,v.2),a6,r,b5,hd⟩))))))
theorem L3 {a0:Rows} {Q:Bool→Prop} (R2:NX I ga1 a0) (hd:FS a0 Q) :
  BH prog 103 [.agg (F8 a0 ga1)] I (fun _=>XX Q):=by
 refine Fun.en func103 ntmps103 r fun w0 M=>.sr (.bx r fun b5=>.kn 1 2 r (.seq (.sk 1 r (.lo AP .z r (.ks 2 r (.spl hd [7,8] r (fun V hd=>?_) fun V hd=>?_))))))
 · exact .kn 38 70368744177666 r (.condKT r r (.sr (.kn 1 4 r (.drop .z (.r0 results103 r ⟨false,r,hd⟩)))))
 refine .ks 1 r (.yes r (.lo AP .z r (.ks 3 r (.spl hd [11,12,13] r (fun W hd=>?_) fun W hd=>?_))))
 · exact .kn 33 70368744177666 r (.condKT r r (.sr (.kn 1 4 r (.drop .z (.r0 results103 r ⟨false,r,hd⟩)))))
 refine .ks 1 r (.yes r (.lo AP .z r (.ks 3 r (.spl hd [16,17,18] r (fun X hd=>?_) fun X hd=>?_))))
 · exact .kn 28 70368744177666 r (.condKT r r (.sr (.kn 1 4 r (.drop .z (.r0 results103 r ⟨false,r,hd⟩)))))
 refine .ks 1 r (.yes r (.lo AP .z r (.ks 3 r (.spl hd [21,22,23] r (fun Y hd=>?_) fun Y hd=>?_))))
 · exact .kn 23 70368744177666 r (.condKT r r (.sr (.kn 1 4 r (.drop .z (.r0 results103 r ⟨false,r,hd⟩)))))
 refine .ks 1 r (.yes r (.lo DY .z r (.yes r (.ln BP r (.ks 1 r (.yes r (.lo AP .z r (.ks 4 r (.spl hd [30,31,32] r (fun Z hd=>?_) fun Z hd=>?_)))))))))
 · exact .kn 14 70368744177666 r (.condKT r r (.sr (.kn 1 4 r (.drop .z (.r0 results103 r ⟨false,r,hd⟩)))))
 refine .ks 1 r (.yes r (.lo DY .z r (.yes r (.ln BP r (.ks 1 r (.yes r (.lo aI .z r (.yes r (.ln NQ r (.ks 3 r (.spl hd [39,40,41] r (fun a1 hd=>?_) fun a1 hd=>?_)))))))))))
 · exact .kn 5 70368744177666 r (.condKT r r (.sr (.kn 1 4 r (.drop .z (.r0 results103 r ⟨false,r,hd⟩)))))
 refine .ks 1 r (.yes r (.lo DY .z r (.yes r (.ln BP r (.kn 2 70368744177666 r (.condP r hd (fun a2 hd=>?_) fun a2 hd=>?_))))))
 · exact .sr (.kn 1 4 r (.drop .z (.r0 results103 r ⟨false,r,hd⟩)))
 refine .sn 2 r (.seq (.seq (.dr [0,1,2,3,4,5,6,7,8,9,10,11,12,13,14,15,16] 17 (.fk 1 r (.hl DY 0 r ?_)))))
 obtain ⟨d2,g1,a3,g2,o45,d3,a4,hd⟩:=R2.1.ix hd
 refine .h r (fun _=>.ixb BP DN d3 d2 a3 r .mk) (.h r (fun _=>.ldb 0 AP a4 r .mk) (.fk 2 r ?_))
 refine FE hd (fun m hd=>?_) fun m hd=>?_
 · rw [m]
   exact .fk 11 r (.e2 17 (.no 9223372036854775810 r (.condKT r r (.sr (.kn 1 4 r (.drop .z (.r0 results103 r ⟨false,r,hd⟩)))))))
 rw [m]
 refine .fk 1 r (.h r (fun _=>.yes r (.lo DY .z r .mk)) (.fk 1 r (.h r (fun _=>.yes r (.lo AP .z r .mk)) ?_)))
 obtain ⟨d4,g3,a5,g4,o55,d5,a6,hd⟩:=R2.1.ix hd
 refine .h r (fun _=>.yes r (.ixb BP DN d5 d4 a5 r .mk)) (.h r (fun _=>.yes r (.ldb 0 AP a6 r .mk)) (.fk 1 r (.h r (fun _=>.yes r (.lo DY .z r .mk)) (.h r (fun _=>.yes r (.ln BP r .mk)) (.fk 2 r (.e2 17 (.no 9223372036854775810 r (.condP r hd (fun a7 hd=>?_) fun a7 hd=>?_))))))))
 · exact .sr (.kn 1 4 r (.drop .z (.r0 results103 r ⟨false,r,hd⟩)))
 refine .sn 2 r (.seq (.sr (.kn 1 10 r (.block (.lp hd [1] [0] r (fun j E l n=>j ((3,.int .i64 n) :: E) l) (ji rf [0] r) ?_)))))
 refine fun n d0 hd=>jq r fun d6 a=>?_
 have R2:=a.u1 R2
 refine .seq (.sk 2 r (.lo AP .z r (.kn 1 147573952589676412938 r (.condP r hd (fun q hd=>?_) fun q hd=>?_))))
 · refine .sn 10 r (.seq (.block (.seq (.seq (.dr [0,1,2,3,4,5,6,7,8,9,10,11,12,13,14,15,16,17,18,19,20,21,22,23,24,25,26,27,28,29,30,31] 32 (.fk 1 r (.hl DY 0 r (.fk 1 r ?_))))))))
   obtain ⟨a8,d7,s,d8,o737,a9,t,hd⟩:=R2.1.ix hd
   refine .h r (fun _=>.ixb BP DN a9 a8 s r .mk) (.h r (fun _=>.ldb 0 AP t r .mk) (.fk 1 r (.hl DY 0 r (.fk 2 r ?_))))
   obtain ⟨b0,d9,u,e0,o746,b1,v,hd⟩:=R2.1.ix hd
   refine .h r (fun _=>.ixb BP DN b1 b0 u r .mk) (.h r (fun _=>.ldb 0 AP v r .mk) (.fk 2 r ?_))
   refine FE hd (fun c hd=>?_) fun c hd=>?_
   · rw [c]
     exact .fk 19 r (.e2 32 (.no 2535301200456458802993406410762 r (.condKT r r (.sr (.kn 1 4 r (.drop .z (.r1 results103 r a ⟨false,r,hd⟩)))))))
   rw [c]
   refine .fk 1 r (.h r (fun _=>.yes r (.lo DY .z r .mk)) (.fk 1 r ?_))
   obtain ⟨b2,e1,w,e3,o756,b3,x,hd⟩:=R2.1.ix hd
   refine .h r (fun _=>.yes r (.ixb BP DN b3 b2 w r .mk)) (.h r (fun _=>.yes r (.ldb 0 AP x r .mk)) (.fk 3 r ?_))
   refine FE hd (fun d hd=>?_) fun d hd=>?_
   · rw [d]
     exact .fk 11 r (.e2 32 (.no 2535301200456458802993406410762 r (.condKT r r (.sr (.kn 1 4 r (.drop .z (.r1 results103 r a ⟨false,r,hd⟩)))))))
   rw [d]
   refine .fk 1 r (.h r (fun _=>.yes r (.lo DY .z r .mk)) (.fk 2 r ?_))
   obtain ⟨b4,e4,y,e5,o766,b6,A,hd⟩:=R2.1.ix hd
   refine .h r (fun _=>.yes r (.ixb BP DN b6 b4 y r .mk)) (.h r (fun _=>.yes r (.ldb 0 AP A r .mk)) (.fk 1 r (.h r (fun _=>.yes r (.lo DY .z r .mk)) (.h r (fun _=>.yes r (.ln BP r .mk)) (.fk 2 r (.e2 32 (.no 2535301200456458802993406410762 r (.condP r hd (fun B hd=>?_) fun B hd=>?_))))))))
   · exact .sr (.kn 1 4 r (.drop .z (.r1 results103 r a ⟨false,r,hd⟩)))
   refine .sn 10 r (.sk 1 r (.lo DY .z r (.ks 1 r ?_)))
   obtain ⟨b7,e6,C,e7,o785,b8,D,hd⟩:=R2.1.ix hd
   refine .ixb BP DN b8 b7 C r (.ldb 0 AP D r (.kn 1 26 r (.block (.lp hd [3,1] [0] r (fun j E l e=>j ((4,.int .i64 e) :: E) l) (ji rf [0] r) ?_))))
   refine fun e d1 hd=>jq r fun e8 f=>?_
   obtain ⟨b,R2⟩:=f.u2 a R2
   refine .seq (.sk 2 r (.lo DY .z r (.ks 2 r ?_)))
   obtain ⟨b9,e9,F,f0,o950,c0,G,hd⟩:=R2.1.ix hd
   refine .ixb BP DN c0 b9 F r (.ldb 0 AP G r (.kn 1 20769187434139310514121985316880410 r (.condP r hd (fun H hd=>?_) fun H hd=>?_)))
   · refine .sn 26 r (.seq (.block (.seq (.dr [0,1,2,3,4,5,6,7,8,9,10,11,12,13,14,15,16,17,18,19,20,21,22,23,24,25,26,27,28,29,30,31,32,33,34,35,36,37,38] 39 (.fk 1 r (.hl DY 0 r (.fk 1 r ?_)))))))
     obtain ⟨c1,f1,J,f2,o960,c2,K,hd⟩:=R2.2.1.ix hd
     refine .h r (fun _=>.ixb BP DN c2 c1 J r .mk) (.h r (fun _=>.ldb 0 AP K r .mk) (.fk 2 r ?_))
     refine FE hd (fun g hd=>?_) fun g hd=>?_
     · rw [g]
       exact .fk 32 r (.e2 39 (.no 45671926166590716193865151022383844364247891994 r (.condKT r r (.sr (.kn 1 4 r (.drop .z (.r1 results103 r b ⟨false,r,hd⟩)))))))
     rw [g]
     refine .fk 1 r (.h r (fun _=>.yes r (.lo DY .z r .mk)) (.fk 1 r ?_))
     obtain ⟨c3,f3,L,f4,o970,c4,N,hd⟩:=R2.2.1.ix hd
     refine .h r (fun _=>.yes r (.ixb BP DN c4 c3 L r .mk)) (.h r (fun _=>.yes r (.ldb 0 AP N r .mk)) (.fk 1 r (.h r (fun _=>.yes r (.lo AP .z r .mk)) (.fk 3 r ?_))))
     refine FE hd (fun i hd=>?_) fun i hd=>?_
     · rw [i]
       exact .fk 22 r (.e2 39 (.no 45671926166590716193865151022383844364247891994 r (.condKT r r (.sr (.kn 1 4 r (.drop .z (.r1 results103 r b ⟨false,r,hd⟩)))))))
     rw [i]
     refine .fk 2 r (.h r (fun _=>.yes r (.lo DY .z r .mk)) (.fk 1 r ?_))
     obtain ⟨c5,f5,O,f6,o980,c6,P,hd⟩:=R2.1.ix hd
     refine .h r (fun _=>.yes r (.ixb BP DN c6 c5 O r .mk)) (.h r (fun _=>.yes r (.ldb 0 AP P r .mk)) (.fk 2 r ?_))
     refine FE hd (fun k hd=>?_) fun k hd=>?_
     · rw [k]
       refine .fk 1 r (.h r (fun _=>.yes r (.lo DY .z r .mk)) (.fk 1 r ?_))
       obtain ⟨c7,f7,R,f8,o990,c8,S,hd⟩:=R2.2.1.ix hd
       refine .h r (fun _=>.yes r (.ixb BP DN c8 c7 R r .mk)) (.h r (fun _=>.yes r (.ldb 0 AP S r .mk)) (.fk 1 r (.h r (fun _=>.yes r (.lo DY .z r .mk)) (.fk 2 r ?_))))
       obtain ⟨c9,f9,T,g0,o999,U,o,hd⟩:=R2.2.1.ix hd
       refine .h r (fun _=>.yes r (.ixb BP DN U c9 T r .mk)) (.h r (fun _=>.yes r (.ldb 0 AP o r .mk)) (.fk 3 r (.e2 39 (.no 45671926166590716193865151022383844364247891994 r (.condP r hd (fun p hd=>?_) fun p hd=>?_)))))
       · exact .sr (.kn 1 4 r (.drop .z (.r1 results103 r b ⟨false,r,hd⟩)))
       exact .sn 26 r (.region (.ks 3 r (.nil' (je (A7 (e+1)) hd f [0] r))))
     rw [k]
     exact .fk 14 r (.e2 39 (.no 45671926166590716193865151022383844364247891994 r (.condKF r r (.sn 26 r (.region (.ks 3 r (.nil' (je (A7 (e+1)) hd f [0] r))))))))
   exact .en 10 r (.region (.ks 3 r (.nil' (je (A7 (n+1)) hd b [0] r))))
 exact .en 0 r (.drop .z (.sr (.kn 1 4 r (.r1 results103 r a ⟨true,r,hd⟩))))
theorem KF {a0:Rows} {Q:Rows→Prop} (R2:NX I ga1 a0) (hd:I4 a0 Q) :
  BH prog 104 [.agg (F8 a0 ga1)] I (rP Q):=by
 refine Fun.en func104 ntmps104 r fun w0 M=>?_
 refine .sr (.bx r fun H=>?_)
 refine .al CF r fun q=>?_
 refine .no 6 r (.seq (.sr (.lw B6 AE .p1 r ?_)))
 have c:=L3 R2 hd
 refine .cq call103 c r fun s hd=>?_
 refine .no 22 r (.condP r hd (fun d hd=>?_) fun d hd=>?_)
 · exact .sr (.lw B6 AE .p1 r (.sa AE .z r (.no 4 r (.drop .p1 (.ret (B9 r (.w B6 AE r .z r .n) rf ⟨a0,ga1,r,R2,hd⟩))))))
 refine .sn 4 r (.drop .p1 (.sr ?_))
 have e:=ES (I:=I) hd
 refine .callO call128 r e r r fun t u v f g=>?_
 obtain ⟨o,x,y,A,B,C,D,rfl,rfl,hd⟩:=g
 refine .sa AE .p3 r (.no 4 r (.pub .z fun E h a=>?_))
 have i:=h.u1 f
 refine .pub .z fun F j b=>?_
 obtain ⟨k,a⟩:=j.u2 i a
 refine .pub .z fun G l p=>?_
 obtain ⟨m,a,b⟩:=l.u3 k a b
 exact .ret (B9 r (.w B6 AE r .z r .n) m ⟨o,((_,_),(_,_),(_,_)),r,⟨a,b,p⟩,hd⟩)
theorem pY {a0:Rows} {a1:Int} {Q:(List CO)→Prop} (R2:NX I ga1 a0) (hd:WV a0 a1 Q) :
  BH prog 66 [.agg (F8 a0 ga1),.int .i64 a1] I (Ae7 Q):=by
 refine Fun.en func66 ntmps66 r fun w0 M=>?_
 refine .sr (.bx r fun b8=>?_)
 refine .ks 1 r (.ns 6 r (.lw B6 AE .z r ?_))
 have B:=KF R2 hd
 refine .call call104 r B r r fun a9 b0 d C=>?_
 obtain ⟨b1,X,rfl,b,hd⟩:=C
 have R2:=d.u1 R2
 refine .sa AE .z r (.nk 6 1 r (.no 38 r (.seq (.sk 3 r (.spl hd [10,11] r (fun D hd=>?_) fun D hd=>?_)))))
 · exact .kn 5 65574 r (.condKT r r (.sr (.kn 2 16 r (.drop .z (.r1 results66 r d ⟨([]:List CO),_,_,r,(.nil _ _ _),hd⟩)))))
 refine .ks 2 r (.yes r (.lo AP .z r (.kn 2 65574 r (.condP r hd (fun F hd=>?_) fun F hd=>?_))))
 · exact .sr (.kn 2 16 r (.drop .z (.r1 results66 r d ⟨([]:List CO),_,_,r,(.nil _ _ _),hd⟩)))
 refine .sn 38 r (.seq (.sk 1 r (.lo DY .z r (.ks 1 r ?_))))
 obtain ⟨T,b2,G,b3,o45,U,H,hd⟩:=b.1.ix hd
 refine .ixb BP DN U T G r (.ldb 0 AP H r (.kn 1 102 r (.block (.own0 UL 112 (.lx hd [2,1] [1] r (fun j E l (a,f)=>fun c w=>∃ g i,j ⟨48,[],none⟩ (fun I_=>True) ((5,.slice g a.length i) :: (6,.int .i64 f) :: E) (OwnSl UL 112 g i a :: l) c w) (fun c w ho hs=>⟨_,_,jf rf tv [0,0] r ho hs⟩) ?_)))))
 rintro ⟨a,f⟩ S hd c w ⟨g,i,Y,e,_,hok,hsym⟩
 obtain ⟨n,b⟩:=e.u2 d b
 refine Cod.at hok hsym (.seq (.sk 2 r (.lo DY .p1 r (.ks 2 r ?_))))
 obtain ⟨J,Z,o,a2,o179,K,p,hd⟩:=b.1.ix hd
 refine .ixb BP DN K J o r (.ldb 0 AP p r (.kn 1 1073741926 r (.condP r hd (fun q hd=>?_) fun q hd=>?_)))
 · refine .sn 102 r (.seq (.block (.ownF .z fun V=>?_)))
   refine .dr [0,1,2,3,4,5,6,7,8,9,10,11,12,13] 14 (.fk 2 r (.hl DY 1 r (.fk 1 r ?_)))
   obtain ⟨L,k,s,a3,o190,N,t,hd⟩:=b.2.1.ix hd
   refine .h r (fun _=>.ixb BP DN N L s r .mk) (.h r (fun _=>.ldb 0 AP t r .mk) (.fk 1 r (.hl aI 1 r (.fk 1 r ?_))))
   obtain ⟨O,m,u,a4,o199,P,v,hd⟩:=b.2.2.ix hd
   refine .h r (fun _=>.ixb NQ qI P O u r .mk) (.h r (fun _=>.ldb 0 U5 v r .mk) (.h r (fun _=>.bd jQ underlying112 Ac8 r .mk) (.ww r fun ex=>?_)))
   refine .bs 1 OP sizeOf112 jQ r fun a5=>?_
   refine .so 3 r r r (.ck 1 r r tv) (.ww r fun ex=>?_)
   obtain ⟨x,hd⟩:=hd
   refine .append (ys:=[({ At:=k,Val:=m }:CO)]) 16 .p1 OP OP tX r r r r r r r r r (.box .z (.one r) r) x r r fun a6 a7=>?_
   exact .so 3 r r r tv (.e2 14 (.kn 1 102 r (.drop .p1 (.region (.ks 3 r (.nil' fun c w ho hs=>⟨((a++([({ At:=k,Val:=m }:CO)])),A7 (f+1)),hd,_,_,jf e tv [0,0] r ho hs⟩))))))
 refine .en 32 r (.drop .p1 (.sr (.kn 2 16 r (.pub .z fun a8 y R=>?_))))
 obtain ⟨A,W⟩:=y.u2 n e
 exact .r1 results66 r A ⟨a,_,_,r,R,hd⟩
theorem dP {a0:Rows} {a1 a2:Int} {Q:(Int×Bool)→Prop} (R2:NX I ga1 a0) (hd:T1 a0 a1 a2 Q) :
  BH prog 20 [.agg (F8 a0 ga1),.int .i64 a1,.int .i64 a2] I (fun _=>o3_ Q):=by
 refine Fun.en func20 ntmps20 r fun w0 M=>?_
 refine .sr (.bx r fun K=>?_)
 refine .ks 2 r (.ns 14 r (.lw B6 AE .z r (.ks 1 r ?_)))
 have m:=pY R2 hd
 refine .call call66 r m r r fun C D b o=>?_
 obtain ⟨F,G,H,rfl,a,hd⟩:=o
 have R2:=b.u1 R2
 refine .kn 1 260 r (.drop .z (.seq (.sr (.kn 1 772 r (.block (.lp hd [8,2] [] r (fun j E l c=>j ((9,.int .i64 c) :: E) l) (ji rf [] r) ?_))))))
 refine fun c x hd=>jq r fun J d=>?_
 obtain ⟨e,a⟩:=d.u2 b a
 refine .seq (.sk 2 r (.ln OP r (.kn 1 66308 r (.condP r hd (fun p hd=>?_) fun p hd=>?_))))
 · refine .sn 772 r (.seq (.block (.sk 2 r ?_)))
   obtain ⟨q,y,f,A,o110,s,g,hd⟩:=a.ix hd
   refine .ixb OP sizeOf112 s q f r (.ks 1 r (.ldb 0 AP g r (.kn 2 33555204 r (.condP r hd (fun h hd=>?_) fun h hd=>?_))))
   · refine .sk 2 r ?_
     obtain ⟨u,v,i,B,o120,w,k,hd⟩:=a.ix hd
     exact .ixb OP sizeOf112 w u i r (.ks 1 r (.ldb 1 U5 k r (.kn 2 192 r (.ret (B9 r (.t r (.t r .n)) e ⟨(v.Val,true),r,hd⟩)))))
   exact .sn 772 r (.region (.ks 3 r (.nil' (je (A7 (c+1)) hd d [] r))))
 exact .en 0 r (.sr (.kn 2 192 r (.ret (B9 r (.t r (.t r .n)) e ⟨(0,false),r,hd⟩))))
theorem SI {a0:BF} {Q:Int→Prop} (R2:nE I gc1 a0) (hd:GG a0 Q) :
  BH prog 35 [.agg (JU a0 gc1)] I (fun _=>bI Q):=by
 refine Fun.en func35 ntmps35 r fun w0 M=>.sr (.bx r fun d=>.kn 1 2 r (.seq (.sr (.lw LS IU .z r ?_))))
 have a:=O4 R2 hd
 refine .cq call33 a r fun c hd=>.kn 1 66 r (.condP r hd (fun b hd=>?_) fun b hd=>?_)
 · exact .sr (.kn 1 4 r (.drop .z (.r0 results35 r ⟨0,r,hd⟩)))
 exact .sn 2 r (.sk 1 r (.lo AP .z r (.ks 1 r (.lo AP .z r (.kn 2 8 r (.drop .z (.sr (.kn 5 4 r (.r0 results35 r ⟨(A7 ((A7 ((A7 (a0.R+a0.C))*(A7 (a0.R+a0.C))))+2)),r,hd⟩)))))))))
end Go.Proofs.YtbohadngdkjljaaGreat
