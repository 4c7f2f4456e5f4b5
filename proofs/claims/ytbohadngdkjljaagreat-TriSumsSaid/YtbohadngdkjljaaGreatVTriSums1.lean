/- The walks (printed by a program of ours). -/
import Derived.Test.YtbohadngdkjljaaGreatV3
namespace Go.Proofs.YtbohadngdkjljaaGreat
open Go Go.Fw
set_option linter.unusedVariables false
set_option linter.unusedSimpArgs false
set_option maxRecDepth 8000
set_option maxHeartbeats 1000000
open Tryz
variable {I:IH}
variable {b2 b3 b4 b5 b6 b7 b8 b9 c2 c3 c4 c5 c6 c7 c8 c9 lr b10 b11 b12 b13 b18 b19 b20 b21 b35 b36 b37 b38 b39 b40 b41 b42 b43 b54 b59 c10 c11 c12 c13 c14 c15 c16 c17 c18 c19 c20 c21 c22 c23 c24 c25 c26 c27 c28 c29 c30 c31 c32 c33 c34 c35 c36 c37 c38 c39 c41 c42 c43 c44 c45 c46 c47 c48 c49 c50 c51 c52 c54 c55 c57 c60 c63 c66 c69 c72 c75 c78:Nat}
variable {p1 p2 p3 p4 p5 p6 p7 p8 p9 p10 p11 p12 p13 p14 p15 p16 p17 p18 p19 p20 p21 p22 p23 p24 p25 p26 p27 p28 p29 p30 p31 p32 p33 p34 p35 p36 p37 p38 p40 p41 p42 p43 p44 p45 p46 p47 p48 p49 p50 p51 p53 p54 p56 p59 p62 p65 p68 p71 p74 p77:Option Addr}
variable {Rr:Nat→HA}
theorem NT {a0 a1:Int} {Q:Int→Prop} (hd:IL a0 a1 Q) :
  BW prog 56 [.int .i64 a0,.int .i64 a1] I (fun _=>kV Q):=by
 refine Fun.en func56 ntmps56 r fun w0 M=>?_
 refine .sr (.kn 1 [1,0] r (.seq (.sk 3 r ?_)))
 refine AU hd (fun a hd=>?_) fun a hd=>?_
 · rw [a]
   exact .kn 3 [10,1,0] r (.condKT r r (.sr (.kn 1 [4] r (.r0 results56 r ⟨0,r,hd⟩))))
 rw [a]
 refine .kn 3 [10,1,0] r (.condP r hd (fun b hd=>?_) fun b hd=>?_)
 · exact .sr (.kn 1 [4] r (.r0 results56 r ⟨0,r,hd⟩))
 refine .sn [1,0] r (.sk 2 r ?_)
 obtain ⟨c,hd⟩:=hd
 exact .rem r r c r r (.kn 1 [4] r (.r0 results56 r ⟨(a0.tmod a1),r,hd⟩))
theorem lP {a0:AL} {Q:AL→Prop} (R3:RepSl CB I p1 c2 a0.Edges) (hd:UD a0 Q) :
  BW prog 14 [.agg #[.int .i64 a0.N,.slice p1 a0.Edges.length c2]] I (o5_ Q):=by
 refine Fun.en func14 ntmps14 r fun w0 M=>?_
 refine .sr (.bx r fun a6=>?_)
 refine .al QX r fun a7=>?_
 refine .nk [2,1] 1 r (.lo BH .p1 r ?_)
 have L:=NT (I:=I) hd
 refine .cq call56 L r fun k hd=>?_
 refine .build QX iN rF (.c r r r (.o r) .n) (by exact ⟨⟨_,_,r,r,r⟩,trivial⟩) r r (.al QX r fun U=>?_)
 refine .sa DU .z r (.no [3,2,1] r (.seq (.sr (.kn 1 [4,3,2,1] r (.block (.own0 CB 49 (.lx hd [3,2,1] [3,2] r (fun j E l (a,f)=>fun c w=>∃ g i,j ⟨51,[],none⟩ (fun I_=>True) ((4,.int .i64 f) :: E) (pto U (.cells #[.int .i64 k,.slice g a.length i] 24 (0,0)) :: OwnSl CB 49 g i a :: l) c w) (fun c w ho hs=>⟨_,_,jf rf trivial [1,0,1,0] r ho hs⟩) ?_)))))))
 rintro ⟨a,f⟩ T hd c w ⟨g,i,p,b,_,hok,hsym⟩
 have R3:=b.u1 R3
 refine Cod.at hok hsym (.seq (.sk 2 r (.lo VO .p2 r (.ln GM r (.ks 2 r ?_)))))
 refine AU hd (fun d hd=>?_) fun d hd=>?_
 · rw [d]
   refine .ks 4 r ?_
   refine AU hd (fun e hd=>?_) fun e hd=>?_
   · rw [e]
     refine .ks 1 r (.yes r (.lo BH .z r (.kn 2 [23,4,3,2,1] r (.condP r hd (fun v hd=>?_) fun v hd=>?_))))
     · refine .sn [4,3,2,1] r (.seq (.block (.sk 1 r (.lo VO .p2 r (.ks 1 r ?_)))))
       obtain ⟨q,s,m,hd⟩:=hd
       obtain ⟨X,o155,V,O,x,y⟩:=R3.2 _ _ m
       cases y
       refine .ixa GM FB r O r q (AJ m q) r r (.ldW SU FB x r r r r (.al PQ r fun Y=>?_))
       refine .sa FB .z r (.no [5,4,3,2,1] r (.dr [0,1,2,3,4,5,7,8,9,10,12,13,14,6,11,15,16,17] 18 (.fk 1 r (.h r (fun _=>.lo VO .p1 r .mk) (.fk 1 r (.h r (fun _=>.lo BH .z r .mk) (.fk 1 r (.h r (fun _=>.lo BH .p1 r .mk) (.fk 1 r ?_)))))))))
       refine .h r (fun _=>.lo BH .z r .mk) (.fk 1 r (.h r (fun _=>.lo BH .p1 r .mk) (.fk 1 r (.h r (fun _=>.lo ZS .z r .mk) (.fk 1 r (.ww r fun ex=>?_))))))
       have A:=NT (I:=p) hd
       refine .cq call56 A r fun t hd=>?_
       refine .so 5 r r r (.ck 1 r r (.ch r (fun _=>.lo ZS .z r .mk) (.ck 1 r r (.ch r (fun _=>.lo BH .p1 r .mk) (.ck 1 r r (.ch r (fun _=>.lo BH .z r .mk) (.ck 1 r r (.ch r (fun _=>.lo VO .p1 r .mk) (.ck 1 r r trivial))))))))) (.ww r fun ex=>?_)
       have B:=NT (I:=p) hd
       refine .cq call56 B r fun u hd=>?_
       refine .so 5 r r r (.ck 1 r r (.ch r (fun _=>.lo ZS .z r .mk) (.ck 1 r r (.ch r (fun _=>.lo VO .p1 r .mk) (.ck 1 r r trivial))))) (.h r (fun _=>.build PQ vP vO (.c r r r (.o r) (.c r r r (.o r) (.c r r r (.o r) .n))) (by exact ⟨⟨_,_,r,r,r⟩,⟨⟨_,_,r,r,r⟩,⟨⟨_,_,r,r,r⟩,trivial⟩⟩⟩) r r .mk) (.ww r fun ex=>?_))
       refine .buildSlice 1 GM FB PQ r r (.c r r r .n) r r fun Z=>?_
       refine .so 6 r r r (.ch r (fun _=>.lo VO .p2 r .mk) (.ck 1 r r trivial)) (.ww r fun ex=>?_)
       obtain ⟨C,hd⟩:=hd
       refine .append (ys:=[({ From:=t,To:=u,W:=fU .i64 s.W 2147483647 }:AM)]) 24 .p3 GM GM vN r r r r r r r r r (.box .z (.one r) r) C r r fun a1 a2=>?_
       exact .so 6 r r r trivial (.e2 18 (.ks 1 r (.s1 sizeOf22 .p3 r (.no [4,3,2,1] r (.drop .p1 (.drop .p1 (.region (.ks 3 r (.nil' fun c w ho hs=>⟨((a++([({ From:=t,To:=u,W:=fU .i64 s.W 2147483647 }:AM)])),AH (f+1)),hd,_,_,jf b trivial [1,0,0,0] r ho hs⟩)))))))))
     refine .en [3,2] r (.drop .p2 (.sr (.lw GB DU .z r (.sa DU .p2 r (.no [2] r (.drop .z (.pub .z fun a3 D P=>?_)))))))
     have F:=D.u1 b
     exact .ret (BZ results14 (.w GB DU r .z r .n) F ⟨({ N:=k,Edges:=a }:AL),_,_,r,P,hd⟩)
   rw [e]
   refine .kn 4 [23,4,3,2,1] r (.condKF r r (.en [3,2] r (.drop .p2 (.sr (.lw GB DU .z r (.sa DU .p2 r (.no [2] r (.drop .z (.pub .z fun a4 G R=>?_)))))))))
   have H:=G.u1 b
   exact .ret (BZ results14 (.w GB DU r .z r .n) H ⟨({ N:=k,Edges:=a }:AL),_,_,r,R,hd⟩)
 rw [d]
 refine .kn 8 [23,4,3,2,1] r (.condKF r r (.en [3,2] r (.drop .p2 (.sr (.lw GB DU .z r (.sa DU .p2 r (.no [2] r (.drop .z (.pub .z fun a5 J S=>?_)))))))))
 have K:=J.u1 b
 exact .ret (BZ results14 (.w GB DU r .z r .n) K ⟨({ N:=k,Edges:=a }:AL),_,_,r,S,hd⟩)
theorem dF {a0:KB} {Q:(AL×Int×Int×Int)→Prop} (R3:RepSl CB I p1 c2 a0.G.Edges) (hd:LR a0 Q) :
  BW prog 44 [.agg #[.int .i64 a0.G.N,.slice p1 a0.G.Edges.length c2,.int .i64 a0.V,.int .u8 a0.R,.int .u8 a0.C]] I (fun I_ v=>∃ r p4 c5,v=.tuple #[.agg #[.int .i64 r.1.N,.slice p4 r.1.Edges.length c5],.int .i64 r.2.1,.int .i64 r.2.2.1,.int .i64 r.2.2.2]∧RepSl CB I_ p4 c5 r.1.Edges∧Q r):=by
 refine Fun.en func44 ntmps44 r fun w0 M=>?_
 refine .sr (.bx r fun D=>?_)
 refine .al QX r fun F=>?_
 refine .ks 3 r (.nk [2,1] 1 r (.loadA GB DU r .p1 (.o 2 r) r r r ?_))
 have i:=lP (I:=I) R3 hd
 refine .call call14 r i r r fun H J b k=>?_
 obtain ⟨g,K,L,rfl,u,hd⟩:=k
 have R3:=b.u1 R3
 refine .al QX r fun x=>?_
 refine .sa DU .z r (.no [6,2,1] r (.seq (.jx hd [6,2,1] [2,1] r (fun j E l (d,a)=>fun c w=>∃ e f,j ⟨30,[],none⟩ (fun I_=>RepSl CB I_ e f a) E (pto x (.cells #[.int .i64 d,.slice e a.length f] 24 (0,0)) :: l) c w) (fun O hd=>?_) ?_)))
 · skip
   refine .sk 1 r (.lo BH .z r (.kn 1 [12,6,2,1] r (.condP r hd (fun m hd=>?_) fun m hd=>?_)))
   · exact .region (.build QX iN rF (.c r r r (.o r) .n) (by exact ⟨⟨_,_,r,r,r⟩,trivial⟩) r r (.sa DU .z r (.nil' fun c w ho hs=>⟨(1,([]:List AM)),hd,_,_,jf rf (.nil _ _ _) [0,1,0] r ho hs⟩)))
   exact .skip' fun c w ho hs=>⟨(g.N,g.Edges),hd,_,_,jf rf u [0,1,0] r ho hs⟩
 rintro ⟨d,a⟩ hd c w ⟨e,f,y,p,A,hok,hsym⟩
 obtain ⟨q,R3⟩:=p.u2 b R3
 refine Cod.at hok hsym (.seq (.dr [0,1,2,3,4,6,7,8,9,10,11,12,13,14,15,5,16,17,18] 19 (.h r (fun _=>.lw GB DU .z r .mk) (.fk 1 r (.h r (fun _=>.lo BH .p1 r .mk) (.fk 1 r (.h r (fun _=>.lo BH .z r .mk) (.fk 1 r (.h r (fun _=>.lo ia5 .p1 r .mk) ?_)))))))))
 refine .h r (fun _=>.conv un5 Z8 r r r .mk) (.h r (fun _=>.rem r r (by decide) r r .mk) (.fk 2 r (.h r (fun _=>.lo ia5 .p1 r .mk) (.h r (fun _=>.conv un5 Z8 r r r .mk) (.h r (fun _=>.rem r r (by decide) r r .mk) (.fk 1 r (.ww r fun ex=>?_)))))))
 have s:=NT (I:=y) hd
 refine .cq call56 s r fun B hd=>?_
 refine .so 3 r r r (.ck 1 r r (.ch r (fun _=>.rem r r (by decide) r r .mk) (.ch r (fun _=>.conv un5 Z8 r r r .mk) (.ch r (fun _=>.lo ia5 .p1 r .mk) (.ck 2 r r (.ch r (fun _=>.rem r r (by decide) r r .mk) (.ch r (fun _=>.conv un5 Z8 r r r .mk) (.ch r (fun _=>.lo ia5 .p1 r .mk) (.ck 1 r r (.ch r (fun _=>.lw GB DU .z r .mk) trivial)))))))))) (.ww r fun ex=>?_)
 exact .sa DU .p2 r (.sn 3 r r r (.ck 1 r r (.ch r (fun _=>.rem r r (by decide) r r .mk) (.ch r (fun _=>.conv un5 Z8 r r r .mk) (.ch r (fun _=>.lo ia5 .p1 r .mk) (.ck 2 r r (.ch r (fun _=>.rem r r (by decide) r r .mk) (.ch r (fun _=>.conv un5 Z8 r r r .mk) (.ch r (fun _=>.lo ia5 .p1 r .mk) (.ck 1 r r trivial))))))))) (.fk 2 r (.e2 19 (.kn 1 [5,4,3,2] r (.drop .z (.drop .z (.ret (BZ results44 (.w GB DU r .z r (.t r (.t r (.t r .n)))) q ⟨(({ N:=d,Edges:=a }:AL),B,AH (((AH (a0.R)).tmod 4)+1),AH (((AH (a0.C)).tmod 4)+1)),_,_,r,A,hd⟩))))))))
theorem gI {a0:KB} {Q:Bool→Prop} (R3:RepSl CB I p1 c2 a0.G.Edges) (hd:UW a0 Q) :
  BW prog 11 [.agg #[.int .i64 a0.G.N,.slice p1 a0.G.Edges.length c2,.int .i64 a0.V,.int .u8 a0.R,.int .u8 a0.C]] I (fun _=>gR Q):=by
 refine Fun.en func11 ntmps11 r fun w0 M=>?_
 refine .sr (.bx r fun b6=>?_)
 refine .ks 1 r (.ns [1] r (.lw isAgg85 sizeOf85 .z r ?_))
 have g0:=dF (I:=I) R3 hd
 refine .call call44 r g0 r r fun n6 i3 Y g1=>?_
 obtain ⟨n7,n8,n9,rfl,e,hd⟩:=g1
 have R3:=Y.u1 R3
 refine .ks 5 r (.al QX r fun o0=>?_)
 refine .sa DU .z r (.kn 3 [3] r (.drop .p1 (.sr (.lw GB DU .z r ?_))))
 have g2:=kU (I:=i3) e hd
 refine .call call51 r g2 r r fun o1 o2 g3 g4=>?_
 obtain ⟨i4,o3,o4,rfl,b,hd⟩:=g4
 obtain ⟨g5,e⟩:=g3.u2 Y e
 refine .kn 1 [7,3] r (.seq (.sr (.kn 1 [8,7,3] r (.block (.lp hd [7,3] [0] r (fun j E l a=>j ((8,.int .i64 a) :: E) l) (ji rf [0] r) ?_)))))
 refine fun a i2 hd=>jq r fun g6 c=>?_
 obtain ⟨d,e,b⟩:=c.u3 g5 e b
 refine .seq (.sk 2 r (.ln QB r (.kn 1 [24,8,7,3] r (.condP r hd (fun b9 hd=>?_) fun b9 hd=>?_))))
 · refine .sn [8,7,3] r (.seq (.block (.seq (.seq (.dr [0,1,2,3,4,5,6,7,8,9,10,11,12,13,14,15,16,17,18,19,20,21,22,23] 24 (.fk 2 r ?_))))))
   obtain ⟨Z,k3,A,hd⟩:=hd
   obtain ⟨k4,o792,i7,g7,c0,c1⟩:=b.2 _ _ A
   cases c1
   refine .h r (fun _=>.ixa QB QW r g7 r Z (AJ A Z) r r .mk) (.h r (fun _=>.ixArr (i:=0) VM EO r r (by decide) (o:=o792+a.toNat*3) r r r .mk) (.h r (fun _=>.ld1 (j:=0) BH c0 r r r r r .mk) (.fk 2 r ?_)))
   obtain ⟨a1,k5,B,hd⟩:=hd
   obtain ⟨k6,o801,i8,g8,c3,c4⟩:=b.2 _ _ B
   cases c4
   refine .h r (fun _=>.ixa QB QW r g8 r a1 (AJ B a1) r r .mk) (.h r (fun _=>.ixArr (i:=1) VM EO r r (by decide) (o:=o801+a.toNat*3+1) r r r .mk) (.h r (fun _=>.ld1 (j:=1) BH c3 r r r r r .mk) (.fk 2 r ?_)))
   refine AU hd (fun n hd=>?_) fun n hd=>?_
   · rw [n]
     exact .fk 12 r (.e2 24 (.no [50,8,7,3] r (.condKT r r (.sr (.kn 1 [2] r (.drop .z (.r1 results11 r d ⟨false,r,hd⟩)))))))
   rw [n]
   refine .fk 2 r ?_
   obtain ⟨a2,k7,D,hd⟩:=hd
   obtain ⟨k8,o811,i9,g9,c5,c6⟩:=b.2 _ _ D
   cases c6
   refine .h r (fun _=>.yes r (.ixa QB QW r g9 r a2 (AJ D a2) r r .mk)) (.h r (fun _=>.yes r (.ixArr (i:=1) VM EO r r (by decide) (o:=o811+a.toNat*3+1) r r r .mk)) (.h r (fun _=>.yes r (.ld1 (j:=1) BH c5 r r r r r .mk)) (.fk 2 r ?_)))
   obtain ⟨a3,k9,F,hd⟩:=hd
   obtain ⟨l0,o820,j0,h0,c7,c8⟩:=b.2 _ _ F
   cases c8
   refine .h r (fun _=>.yes r (.ixa QB QW r h0 r a3 (AJ F a3) r r .mk)) (.h r (fun _=>.yes r (.ixArr (i:=2) VM EO r r (by decide) (o:=o820+a.toNat*3+2) r r r .mk)) (.h r (fun _=>.yes r (.ld1 (j:=2) BH c7 r r r r r .mk)) (.fk 2 r (.e2 24 (.no [50,8,7,3] r (.condP r hd (fun c9 hd=>?_) fun c9 hd=>?_))))))
   · exact .sr (.kn 1 [2] r (.drop .z (.r1 results11 r d ⟨false,r,hd⟩)))
   refine .sn [8,7,3] r (.seq (.dr [0,1,2,3,4,5,6,7,8,9,10,11,12,13,14,15,16,17,18,19,20,21,22,23,24,25,26,27,28,29,30,31,32,33,34,35,36,37,38,39,40,41,42,43,44,45,46,47,48,49,50,51,52,53,54,55,56,57,58,59,60,61,62,63,64,65,66,67,68,69,70,71] 72 (.fk 3 r ?_)))
   refine AU hd (fun p hd=>?_) fun p hd=>?_
   · rw [p]
     refine .fk 2 r ?_
     obtain ⟨a4,l1,H,hd⟩:=hd
     obtain ⟨l2,o831,j1,h1,d0,d1⟩:=b.2 _ _ H
     cases d1
     refine .h r (fun _=>.yes r (.ixa QB QW r h1 r a4 (AJ H a4) r r .mk)) (.h r (fun _=>.yes r (.ixArr (i:=0) VM EO r r (by decide) (o:=o831+a.toNat*3) r r r .mk)) (.h r (fun _=>.yes r (.ld1 (j:=0) BH d0 r r r r r .mk)) (.fk 3 r ?_)))
     obtain ⟨a5,l3,J,hd⟩:=hd
     obtain ⟨l4,o840,j2,h2,d2,d3⟩:=b.2 _ _ J
     cases d3
     refine .h r (fun _=>.yes r (.ixa QB QW r h2 r a5 (AJ J a5) r r .mk)) (.h r (fun _=>.yes r (.ixArr (i:=0) VM EO r r (by decide) (o:=o840+(AH (a - 1)).toNat*3) r r r .mk)) (.h r (fun _=>.yes r (.ld1 (j:=0) BH d2 r r r r r .mk)) (.fk 2 r ?_)))
     refine AU hd (fun q hd=>?_) fun q hd=>?_
     · rw [q]
       exact .fk 56 r (.e2 72 (.no [122,8,7,3] r (.condKT r r (.sr (.kn 1 [2] r (.drop .z (.r1 results11 r d ⟨false,r,hd⟩)))))))
     rw [q]
     refine .fk 2 r ?_
     obtain ⟨a6,l5,K,hd⟩:=hd
     obtain ⟨l6,o850,j3,h3,d4,d5⟩:=b.2 _ _ K
     cases d5
     refine .h r (fun _=>.yes r (.ixa QB QW r h3 r a6 (AJ K a6) r r .mk)) (.h r (fun _=>.yes r (.ixArr (i:=0) VM EO r r (by decide) (o:=o850+a.toNat*3) r r r .mk)) (.h r (fun _=>.yes r (.ld1 (j:=0) BH d4 r r r r r .mk)) (.fk 3 r ?_)))
     obtain ⟨a7,l7,L,hd⟩:=hd
     obtain ⟨l8,o859,j4,h4,d6,d7⟩:=b.2 _ _ L
     cases d7
     refine .h r (fun _=>.yes r (.ixa QB QW r h4 r a7 (AJ L a7) r r .mk)) (.h r (fun _=>.yes r (.ixArr (i:=0) VM EO r r (by decide) (o:=o859+(AH (a - 1)).toNat*3) r r r .mk)) (.h r (fun _=>.yes r (.ld1 (j:=0) BH d6 r r r r r .mk)) (.fk 2 r ?_)))
     refine AU hd (fun s hd=>?_) fun s hd=>?_
     · rw [s]
       refine .fk 2 r ?_
       obtain ⟨a8,l9,O,hd⟩:=hd
       obtain ⟨m0,o869,j5,h5,d8,d9⟩:=b.2 _ _ O
       cases d9
       refine .h r (fun _=>.yes r (.ixa QB QW r h5 r a8 (AJ O a8) r r .mk)) (.h r (fun _=>.yes r (.ixArr (i:=1) VM EO r r (by decide) (o:=o869+a.toNat*3+1) r r r .mk)) (.h r (fun _=>.yes r (.ld1 (j:=1) BH d8 r r r r r .mk)) (.fk 3 r ?_)))
       obtain ⟨a9,m1,P,hd⟩:=hd
       obtain ⟨m2,o878,j6,h6,e0,e1⟩:=b.2 _ _ P
       cases e1
       refine .h r (fun _=>.yes r (.ixa QB QW r h6 r a9 (AJ P a9) r r .mk)) (.h r (fun _=>.yes r (.ixArr (i:=1) VM EO r r (by decide) (o:=o878+(AH (a - 1)).toNat*3+1) r r r .mk)) (.h r (fun _=>.yes r (.ld1 (j:=1) BH e0 r r r r r .mk)) (.fk 2 r ?_)))
       refine AU hd (fun t hd=>?_) fun t hd=>?_
       · rw [t]
         exact .fk 30 r (.e2 72 (.no [122,8,7,3] r (.condKT r r (.sr (.kn 1 [2] r (.drop .z (.r1 results11 r d ⟨false,r,hd⟩)))))))
       rw [t]
       refine .fk 2 r ?_
       obtain ⟨b0,m3,S,hd⟩:=hd
       obtain ⟨m4,o888,j7,h7,e3,e4⟩:=b.2 _ _ S
       cases e4
       refine .h r (fun _=>.yes r (.ixa QB QW r h7 r b0 (AJ S b0) r r .mk)) (.h r (fun _=>.yes r (.ixArr (i:=1) VM EO r r (by decide) (o:=o888+a.toNat*3+1) r r r .mk)) (.h r (fun _=>.yes r (.ld1 (j:=1) BH e3 r r r r r .mk)) (.fk 3 r ?_)))
       obtain ⟨b1,m5,T,hd⟩:=hd
       obtain ⟨m6,o897,j8,h8,e5,e6⟩:=b.2 _ _ T
       cases e6
       refine .h r (fun _=>.yes r (.ixa QB QW r h8 r b1 (AJ T b1) r r .mk)) (.h r (fun _=>.yes r (.ixArr (i:=1) VM EO r r (by decide) (o:=o897+(AH (a - 1)).toNat*3+1) r r r .mk)) (.h r (fun _=>.yes r (.ld1 (j:=1) BH e5 r r r r r .mk)) (.fk 2 r ?_)))
       refine AU hd (fun u hd=>?_) fun u hd=>?_
       · rw [u]
         refine .fk 2 r ?_
         obtain ⟨b2,m7,U,hd⟩:=hd
         obtain ⟨m8,o907,j9,h9,e7,e8⟩:=b.2 _ _ U
         cases e8
         refine .h r (fun _=>.yes r (.ixa QB QW r h9 r b2 (AJ U b2) r r .mk)) (.h r (fun _=>.yes r (.ixArr (i:=2) VM EO r r (by decide) (o:=o907+a.toNat*3+2) r r r .mk)) (.h r (fun _=>.yes r (.ld1 (j:=2) BH e7 r r r r r .mk)) (.fk 3 r ?_)))
         obtain ⟨b3,m9,W,hd⟩:=hd
         obtain ⟨n0,o916,k0,i0,e9,f0⟩:=b.2 _ _ W
         cases f0
         refine .h r (fun _=>.yes r (.ixa QB QW r i0 r b3 (AJ W b3) r r .mk)) (.h r (fun _=>.yes r (.ixArr (i:=2) VM EO r r (by decide) (o:=o916+(AH (a - 1)).toNat*3+2) r r r .mk)) (.h r (fun _=>.yes r (.ld1 (j:=2) BH e9 r r r r r .mk)) (.fk 6 r (.e2 72 (.no [122,8,7,3] r (.condP r hd (fun f1 hd=>?_) fun f1 hd=>?_))))))
         · exact .sr (.kn 1 [2] r (.drop .z (.r1 results11 r d ⟨false,r,hd⟩)))
         exact .sn [8,7,3] r (.region (.ks 3 r (.nil' (je (AH (a+1)) hd c [0] r))))
       rw [u]
       exact .fk 17 r (.e2 72 (.no [122,8,7,3] r (.condKF r r (.sn [8,7,3] r (.region (.ks 3 r (.nil' (je (AH (a+1)) hd c [0] r))))))))
     rw [s]
     exact .fk 43 r (.e2 72 (.no [122,8,7,3] r (.condKF r r (.sn [8,7,3] r (.region (.ks 3 r (.nil' (je (AH (a+1)) hd c [0] r))))))))
   rw [p]
   exact .fk 69 r (.e2 72 (.no [122,8,7,3] r (.condKF r r (.sn [8,7,3] r (.region (.ks 3 r (.nil' (je (AH (a+1)) hd c [0] r))))))))
 refine .en [7,3] r (.sk 1 r (.ns [9,7,3] r (.lw GB DU .z r ?_)))
 have f2:=uP (I:=g6) e hd
 refine .call call53 r f2 r r fun n1 n2 f3 f4=>?_
 obtain ⟨n3,n4,n5,rfl,y,hd⟩:=f4
 obtain ⟨f5,f6,e,b⟩:=f3.u4 d c e b
 refine .kn 1 [10,9,7,3] r (.seq (.sr (.kn 1 [11,10,9,7,3] r (.block (.lp hd [10,7,3] [0] r (fun j E l (f,v)=>j ((9,.int .i64 f) :: (11,.int .i64 v) :: E) l) (ji rf [0] r) ?_)))))
 rintro ⟨f,v⟩ i1 hd
 refine jq r fun f7 w=>?_
 obtain ⟨g,i5,e,b,y⟩:=w.u5 f5 f6 e b y
 refine .seq (.sk 2 r (.ln BS r (.kn 1 [128,11,10,9,7,3] r (.condP r hd (fun b4 hd=>?_) fun b4 hd=>?_))))
 · refine .sn [11,10,9,7,3] r (.seq (.block (.region (.ks 3 r ?_))))
   obtain ⟨X,f8,x,hd⟩:=hd
   obtain ⟨k1,o1033,i6,f9,b5,b7⟩:=y.2 _ _ x
   cases b7
   exact .ixa BS EO r f9 r X (AJ x X) r r (.ld1 (j:=0) BH b5 r r r r r (.kn 2 [9,11,10,7,3] r (.region (.ks 3 r (.nil' (je (AH (f+f8),AH (v+1)) hd w [0] r))))))
 refine .en [10,9,7,3] r (.sr ?_)
 have b8:=qE (I:=f7) hd
 refine .cq call46 b8 r fun k2 hd=>?_
 refine .ks 1 r ?_
 refine AU hd (fun k hd=>?_) fun k hd=>?_
 · rw [k]
   refine .ks 1 r (.yes r (.ln BS r (.ks 1 r (.yes r (.lo BH .z r (.ks 3 r ?_))))))
   refine AU hd (fun m hd=>?_) fun m hd=>?_
   · rw [m]
     exact .ks 2 r (.yes r (.ln QB r (.kn 4 [2] r (.drop .z (.r1 results11 r g ⟨(f==(AH (3*(i4.length:Int)))),r,hd⟩)))))
   rw [m]
   exact .kn 7 [2] r (.drop .z (.r1 results11 r g ⟨false,r,hd⟩))
 rw [k]
 exact .kn 14 [2] r (.drop .z (.r1 results11 r g ⟨false,r,hd⟩))
end Go.Proofs.YtbohadngdkjljaaGreat
