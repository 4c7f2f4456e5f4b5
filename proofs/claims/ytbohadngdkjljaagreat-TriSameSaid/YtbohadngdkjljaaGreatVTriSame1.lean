/- The walks (printed by a program of ours). -/
import Derived.Test.YtbohadngdkjljaaGreatV3
namespace Go.Proofs.YtbohadngdkjljaaGreat
open Go Go.Fw
set_option linter.unusedVariables false
set_option linter.unusedSimpArgs false
set_option maxRecDepth 8000
set_option maxHeartbeats 1000000
open Tryz
variable {I:IH}
variable {b2 b3 b4 b5 b6 b7 b8 b9 c2 c3 c4 c5 c6 c7 c8 c9 lr b10 b11 b12 b13 b18 b19 b20 b21 b35 b36 b37 b38 b39 b40 b41 b42 b43 b54 b59 c10 c11 c12 c13 c14 c15 c16 c17 c18 c19 c20 c21 c22 c23 c24 c25 c26 c27 c28 c29 c30 c31 c32 c33 c34 c35 c36 c37 c38 c39 c41 c42 c43 c44 c45 c46 c47 c48 c49 c50 c51 c52 c54 c55 c57 c60 c63 c66 c69 c72 c75 c78:Nat}
variable {p1 p2 p3 p4 p5 p6 p7 p8 p9 p10 p11 p12 p13 p14 p15 p16 p17 p18 p19 p20 p21 p22 p23 p24 p25 p26 p27 p28 p29 p30 p31 p32 p33 p34 p35 p36 p37 p38 p40 p41 p42 p43 p44 p45 p46 p47 p48 p49 p50 p51 p53 p54 p56 p59 p62 p65 p68 p71 p74 p77:Option Addr}
variable {Rr:Nat→HA}
theorem NU {a0 a1:Int} {Q:Int→Prop} (hd:IL a0 a1 Q) :
  BW prog 56 [.int .i64 a0,.int .i64 a1] I (fun _=>kS Q):=by
 refine Fun.en func56 ntmps56 r fun w0 M=>?_
 refine .sr (.kn 1 [1,0] r (.seq (.sk 3 r ?_)))
 refine AV hd (fun a hd=>?_) fun a hd=>?_
 · rw [a]
   exact .kn 3 [10,1,0] r (.condKT r r (.sr (.kn 1 [4] r (.r0 results56 r ⟨0,r,hd⟩))))
 rw [a]
 refine .kn 3 [10,1,0] r (.condP r hd (fun b hd=>?_) fun b hd=>?_)
 · exact .sr (.kn 1 [4] r (.r0 results56 r ⟨0,r,hd⟩))
 refine .sn [1,0] r (.sk 2 r ?_)
 obtain ⟨c,hd⟩:=hd
 exact .rem r r c r r (.kn 1 [4] r (.r0 results56 r ⟨(a0.tmod a1),r,hd⟩))
theorem lN {a0:AM} {Q:AM→Prop} (R3:RepSl BZ I p1 c2 a0.Edges) (hd:UD a0 Q) :
  BW prog 14 [.agg #[.int .i64 a0.N,.slice p1 a0.Edges.length c2]] I (o5_ Q):=by
 refine Fun.en func14 ntmps14 r fun w0 M=>?_
 refine .sr (.bx r fun a6=>?_)
 refine .al PR r fun a7=>?_
 refine .nk [2,1] 1 r (.lo BH .p1 r ?_)
 have L:=NU (I:=I) hd
 refine .cq call56 L r fun k hd=>?_
 refine .build PR fV oA (.c r r r (.o r) .n) (by exact ⟨⟨_,_,r,r,r⟩,trivial⟩) r r (.al PR r fun U=>?_)
 refine .sa DR .z r (.no [3,2,1] r (.seq (.sr (.kn 1 [4,3,2,1] r (.block (.own0 BZ 49 (.lx hd [3,2,1] [3,2] r (fun j E l (a,f)=>fun c w=>∃ g i,j ⟨51,[],none⟩ (fun I_=>True) ((4,.int .i64 f) :: E) (pto U (.cells #[.int .i64 k,.slice g a.length i] 24 (0,0)) :: OwnSl BZ 49 g i a :: l) c w) (fun c w ho hs=>⟨_,_,jf rf trivial [1,0,1,0] r ho hs⟩) ?_)))))))
 rintro ⟨a,f⟩ T hd c w ⟨g,i,p,b,_,hok,hsym⟩
 have R3:=b.u1 R3
 refine Cod.at hok hsym (.seq (.sk 2 r (.lo SW .p2 r (.ln FL r (.ks 2 r ?_)))))
 refine AV hd (fun d hd=>?_) fun d hd=>?_
 · rw [d]
   refine .ks 4 r ?_
   refine AV hd (fun e hd=>?_) fun e hd=>?_
   · rw [e]
     refine .ks 1 r (.yes r (.lo BH .z r (.kn 2 [23,4,3,2,1] r (.condP r hd (fun v hd=>?_) fun v hd=>?_))))
     · refine .sn [4,3,2,1] r (.seq (.block (.sk 1 r (.lo SW .p2 r (.ks 1 r ?_)))))
       obtain ⟨q,s,m,hd⟩:=hd
       obtain ⟨X,o155,V,O,x,y⟩:=R3.2 _ _ m
       cases y
       refine .ixa FL EO r O r q (AK m q) r r (.ldW QC EO x r r r r (.al MA r fun Y=>?_))
       refine .sa EO .z r (.no [5,4,3,2,1] r (.dr [0,1,2,3,4,5,7,8,9,10,12,13,14,6,11,15,16,17] 18 (.fk 1 r (.h r (fun _=>.lo SW .p1 r .mk) (.fk 1 r (.h r (fun _=>.lo BH .z r .mk) (.fk 1 r (.h r (fun _=>.lo BH .p1 r .mk) (.fk 1 r ?_)))))))))
       refine .h r (fun _=>.lo BH .z r .mk) (.fk 1 r (.h r (fun _=>.lo BH .p1 r .mk) (.fk 1 r (.h r (fun _=>.lo ZT .z r .mk) (.fk 1 r (.ww r fun ex=>?_))))))
       have A:=NU (I:=p) hd
       refine .cq call56 A r fun t hd=>?_
       refine .so 5 r r r (.ck 1 r r (.ch r (fun _=>.lo ZT .z r .mk) (.ck 1 r r (.ch r (fun _=>.lo BH .p1 r .mk) (.ck 1 r r (.ch r (fun _=>.lo BH .z r .mk) (.ck 1 r r (.ch r (fun _=>.lo SW .p1 r .mk) (.ck 1 r r trivial))))))))) (.ww r fun ex=>?_)
       have B:=NU (I:=p) hd
       refine .cq call56 B r fun u hd=>?_
       refine .so 5 r r r (.ck 1 r r (.ch r (fun _=>.lo ZT .z r .mk) (.ck 1 r r (.ch r (fun _=>.lo SW .p1 r .mk) (.ck 1 r r trivial))))) (.h r (fun _=>.build MA oC oB (.c r r r (.o r) (.c r r r (.o r) (.c r r r (.o r) .n))) (by exact ⟨⟨_,_,r,r,r⟩,⟨⟨_,_,r,r,r⟩,⟨⟨_,_,r,r,r⟩,trivial⟩⟩⟩) r r .mk) (.ww r fun ex=>?_))
       refine .buildSlice 1 FL EO MA r r (.c r r r .n) r r fun Z=>?_
       refine .so 6 r r r (.ch r (fun _=>.lo SW .p2 r .mk) (.ck 1 r r trivial)) (.ww r fun ex=>?_)
       obtain ⟨C,hd⟩:=hd
       refine .append (ys:=[({ From:=t,To:=u,W:=Z2 .i64 s.W 2147483647 }:AL)]) 24 .p3 FL FL rE r r r r r r r r r (.box .z (.one r) r) C r r fun a1 a2=>?_
       exact .so 6 r r r trivial (.e2 18 (.ks 1 r (.s1 sizeOf22 .p3 r (.no [4,3,2,1] r (.drop .p1 (.drop .p1 (.region (.ks 3 r (.nil' fun c w ho hs=>⟨((a++([({ From:=t,To:=u,W:=Z2 .i64 s.W 2147483647 }:AL)])),AH (f+1)),hd,_,_,jf b trivial [1,0,0,0] r ho hs⟩)))))))))
     refine .en [3,2] r (.drop .p2 (.sr (.lw FQ DR .z r (.sa DR .p2 r (.no [2] r (.drop .z (.pub .z fun a3 D P=>?_)))))))
     have F:=D.u1 b
     exact .ret (CA results14 (.w FQ DR r .z r .n) F ⟨({ N:=k,Edges:=a }:AM),_,_,r,P,hd⟩)
   rw [e]
   refine .kn 4 [23,4,3,2,1] r (.condKF r r (.en [3,2] r (.drop .p2 (.sr (.lw FQ DR .z r (.sa DR .p2 r (.no [2] r (.drop .z (.pub .z fun a4 G R=>?_)))))))))
   have H:=G.u1 b
   exact .ret (CA results14 (.w FQ DR r .z r .n) H ⟨({ N:=k,Edges:=a }:AM),_,_,r,R,hd⟩)
 rw [d]
 refine .kn 8 [23,4,3,2,1] r (.condKF r r (.en [3,2] r (.drop .p2 (.sr (.lw FQ DR .z r (.sa DR .p2 r (.no [2] r (.drop .z (.pub .z fun a5 J S=>?_)))))))))
 have K:=J.u1 b
 exact .ret (CA results14 (.w FQ DR r .z r .n) K ⟨({ N:=k,Edges:=a }:AM),_,_,r,S,hd⟩)
theorem dI {a0:KB} {Q:(AM×Int×Int×Int)→Prop} (R3:RepSl BZ I p1 c2 a0.G.Edges) (hd:LR a0 Q) :
  BW prog 44 [.agg #[.int .i64 a0.G.N,.slice p1 a0.G.Edges.length c2,.int .i64 a0.V,.int .u8 a0.R,.int .u8 a0.C]] I (fun I_ v=>∃ r p4 c5,v=.tuple #[.agg #[.int .i64 r.1.N,.slice p4 r.1.Edges.length c5],.int .i64 r.2.1,.int .i64 r.2.2.1,.int .i64 r.2.2.2]∧RepSl BZ I_ p4 c5 r.1.Edges∧Q r):=by
 refine Fun.en func44 ntmps44 r fun w0 M=>?_
 refine .sr (.bx r fun D=>?_)
 refine .al PR r fun F=>?_
 refine .ks 3 r (.nk [2,1] 1 r (.loadA FQ DR r .p1 (.o 2 r) r r r ?_))
 have i:=lN (I:=I) R3 hd
 refine .call call14 r i r r fun H J b k=>?_
 obtain ⟨g,K,L,rfl,u,hd⟩:=k
 have R3:=b.u1 R3
 refine .al PR r fun x=>?_
 refine .sa DR .z r (.no [6,2,1] r (.seq (.jx hd [6,2,1] [2,1] r (fun j E l (d,a)=>fun c w=>∃ e f,j ⟨30,[],none⟩ (fun I_=>RepSl BZ I_ e f a) E (pto x (.cells #[.int .i64 d,.slice e a.length f] 24 (0,0)) :: l) c w) (fun O hd=>?_) ?_)))
 · skip
   refine .sk 1 r (.lo BH .z r (.kn 1 [12,6,2,1] r (.condP r hd (fun m hd=>?_) fun m hd=>?_)))
   · exact .region (.build PR fV oA (.c r r r (.o r) .n) (by exact ⟨⟨_,_,r,r,r⟩,trivial⟩) r r (.sa DR .z r (.nil' fun c w ho hs=>⟨(1,([]:List AL)),hd,_,_,jf rf (.nil _ _ _) [0,1,0] r ho hs⟩)))
   exact .skip' fun c w ho hs=>⟨(g.N,g.Edges),hd,_,_,jf rf u [0,1,0] r ho hs⟩
 rintro ⟨d,a⟩ hd c w ⟨e,f,y,p,A,hok,hsym⟩
 obtain ⟨q,R3⟩:=p.u2 b R3
 refine Cod.at hok hsym (.seq (.dr [0,1,2,3,4,6,7,8,9,10,11,12,13,14,15,5,16,17,18] 19 (.h r (fun _=>.lw FQ DR .z r .mk) (.fk 1 r (.h r (fun _=>.lo BH .p1 r .mk) (.fk 1 r (.h r (fun _=>.lo BH .z r .mk) (.fk 1 r (.h r (fun _=>.lo ia5 .p1 r .mk) ?_)))))))))
 refine .h r (fun _=>.conv un5 Z8 r r r .mk) (.h r (fun _=>.rem r r (by decide) r r .mk) (.fk 2 r (.h r (fun _=>.lo ia5 .p1 r .mk) (.h r (fun _=>.conv un5 Z8 r r r .mk) (.h r (fun _=>.rem r r (by decide) r r .mk) (.fk 1 r (.ww r fun ex=>?_)))))))
 have s:=NU (I:=y) hd
 refine .cq call56 s r fun B hd=>?_
 refine .so 3 r r r (.ck 1 r r (.ch r (fun _=>.rem r r (by decide) r r .mk) (.ch r (fun _=>.conv un5 Z8 r r r .mk) (.ch r (fun _=>.lo ia5 .p1 r .mk) (.ck 2 r r (.ch r (fun _=>.rem r r (by decide) r r .mk) (.ch r (fun _=>.conv un5 Z8 r r r .mk) (.ch r (fun _=>.lo ia5 .p1 r .mk) (.ck 1 r r (.ch r (fun _=>.lw FQ DR .z r .mk) trivial)))))))))) (.ww r fun ex=>?_)
 exact .sa DR .p2 r (.sn 3 r r r (.ck 1 r r (.ch r (fun _=>.rem r r (by decide) r r .mk) (.ch r (fun _=>.conv un5 Z8 r r r .mk) (.ch r (fun _=>.lo ia5 .p1 r .mk) (.ck 2 r r (.ch r (fun _=>.rem r r (by decide) r r .mk) (.ch r (fun _=>.conv un5 Z8 r r r .mk) (.ch r (fun _=>.lo ia5 .p1 r .mk) (.ck 1 r r trivial))))))))) (.fk 2 r (.e2 19 (.kn 1 [5,4,3,2] r (.drop .z (.drop .z (.ret (CA results44 (.w FQ DR r .z r (.t r (.t r (.t r .n)))) q ⟨(({ N:=d,Edges:=a }:AM),B,AH (((AH (a0.R)).tmod 4)+1),AH (((AH (a0.C)).tmod 4)+1)),_,_,r,A,hd⟩))))))))
theorem gJ {a0:KB} {a1:Int} {Q:Bool→Prop} (R3:RepSl BZ I p1 c2 a0.G.Edges) (hd:UX a0 a1 Q) :
  BW prog 12 [.agg #[.int .i64 a0.G.N,.slice p1 a0.G.Edges.length c2,.int .i64 a0.V,.int .u8 a0.R,.int .u8 a0.C],.int .i64 a1] I (fun _=>gS Q):=by
 refine Fun.en func12 ntmps12 r fun w0 M=>?_
 refine .sr (.bx r fun b6=>?_)
 refine .ks 1 r (.ns [2,1] r (.lw isAgg85 sizeOf85 .z r ?_))
 have b2:=dI (I:=I) R3 hd
 refine .call call44 r b2 r r fun e5 e6 B b3=>?_
 obtain ⟨v,e7,e8,rfl,i,hd⟩:=b3
 have R3:=B.u1 R3
 refine .ks 5 r (.al PR r fun e9=>?_)
 refine .sa DR .z r (.kn 3 [8,7,6,5,1] r (.drop .p1 (.sk 1 r (.lo BH .z r (.ks 2 r (.build MA oC oB (.c r r r (.o r) (.c r r r (.o r) (.c r r r (.o r) .n))) (by exact ⟨⟨_,_,r,r,r⟩,⟨⟨_,_,r,r,r⟩,⟨⟨_,_,r,r,r⟩,trivial⟩⟩⟩) r r (.buildSlice 1 FL EO MA r r (.c r r r .n) r r fun f0=>?_)))))))
 refine .ownB (El:=BZ) (ys:=([({ From:=v.2.1,To:=v.2.1,W:=1 }:AL)]:List AL)) .z (.one r) r (.build PR fV oA (.c r r r (.o r) (.c r r r (.o r) .n)) (by exact ⟨⟨_,_,r,r,r⟩,⟨⟨_,_,r,r,r⟩,trivial⟩⟩) r r (.al PR r fun c1=>?_))
 refine .sa DR .z r (.no [9,8,7,5,1] r (.seq (.sr (.kn 1 [10,9,8,7,5,1] r (.block (.lx hd [9,8,7,5,1] [2] r (fun j E l (k,x)=>fun c w=>∃ q s,j ⟨90,[],none⟩ (fun I_=>True) ((10,.int .i64 x) :: E) (pto c1 (.cells #[.int .i64 v.1.N,.slice q k.length s] 24 (0,0)) :: OwnSl BZ 49 q s k :: l) c w) (fun c w ho hs=>⟨_,_,jf rf trivial [0,0,0] r ho hs⟩) ?_))))))
 rintro ⟨k,x⟩ c0 hd c w ⟨q,s,t,u,_,hok,hsym⟩
 obtain ⟨m,i⟩:=u.u2 B i
 refine Cod.at hok hsym (.seq (.sk 2 r (.lo SW .p2 r (.ln FL r (.kn 1 [34,10,9,8,7,5,1] r (.condP r hd (fun F hd=>?_) fun F hd=>?_))))))
 · refine .sn [10,9,8,7,5,1] r (.seq (.block (.sk 1 r (.lo SW .p2 r (.ks 1 r ?_)))))
   obtain ⟨D,d,A,hd⟩:=hd
   obtain ⟨c5,o257,c3,b4,H,K⟩:=i.2 _ _ A
   cases K
   refine .ixa FL EO r b4 r D (AK A D) r r (.ldW QC EO H r r r r (.al MA r fun c6=>?_))
   refine .sa EO .z r (.no [11,10,9,8,7,5,1] r (.region (.ks 1 r (.lo SW .p1 r (.ks 1 r (.lo BH .z r (.ks 1 r (.lo BH .z r (.ks 2 r ?_)))))))))
   refine .build MA oC oB (.c r r r (.o r) (.c r r r (.o r) (.c r r r (.o r) .n))) (by exact ⟨⟨_,_,r,r,r⟩,⟨⟨_,_,r,r,r⟩,⟨⟨_,_,r,r,r⟩,trivial⟩⟩⟩) r r (.lw QC EO .z r (.buildSlice 2 FL EO MA r r (.c r r r (.c r r r .n)) r r fun c7=>?_))
   obtain ⟨L,hd⟩:=hd
   refine .append (ys:=[({ From:=d.To,To:=d.From,W:=Z2 .i64 a1 2147483647 }:AL),d]) 24 .p3 FL FL rE r r r r r r r r r (.box .z (RepCs.cons (cs:=[.int .i64 d.To,.int .i64 d.From,.int .i64 (Z2 .i64 a1 2147483647)]) r (RepCs.cons (cs:=[.int .i64 d.From,.int .i64 d.To,.int .i64 d.W]) r .nil)) r) L r r fun c8 c9=>?_
   exact .ks 1 r (.s1 sizeOf22 .p3 r (.no [10,9,8,7,5,1] r (.drop .p1 (.drop .p1 (.region (.ks 3 r (.nil' fun c w ho hs=>⟨((k++([({ From:=d.To,To:=d.From,W:=Z2 .i64 a1 2147483647 }:AL),d])),AH (x+1)),hd,_,_,jf u trivial [1,0,0] r ho hs⟩)))))))
 refine .en [9,8,7,5] r (.sr (.lw FQ DR .p2 r (.ks 2 r ?_)))
 have O:=YQ (I:=t) i hd
 refine .cq call45 O r fun d0 hd=>?_
 refine .ks 5 r (.ns [13,12,9,8,7,5] r (.lw FQ DR .z r (.ks 2 r ?_)))
 have P:=fun (J:IH) (hJ:IH.le t J) (hL:QS J [OwnSl BZ 49 q s k])=>YQ (I:=J) (a0:=({ N:=v.1.N,Edges:=k }:AM)) (zK hL.1) hd
 refine .callB (.f call45 r) (.o [1] r) P r r fun d1 _ S=>?_
 obtain ⟨d2,rfl,hd⟩:=S
 refine .kn 5 [15,14,13,12,9,5] r (.seq (.dr [0,1,2,3,4,5,6,7,8,9,10,11,12,13,14,15,17,16,18,19,20] 21 (.ww r fun ex=>?_)))
 have T:=qD (I:=t) hd
 refine .cq call46 T r fun d3 hd=>?_
 refine .so 3 r r r trivial (.fk 1 r ?_)
 refine AV hd (fun e hd=>?_) fun e hd=>?_
 · refine .h r (fun _=>.gyes r r e (.move r r r .mk)) (.h r (fun _=>.gyes r r e (.eq r r r r .mk)) (.h r (fun _=>.pickT r e r r r .mk) (.fk 1 r ?_)))
   refine AV hd (fun g hd=>?_) fun g hd=>?_
   · refine .h r (fun _=>.gyes r r g (.move r r r .mk)) (.h r (fun _=>.gyes r r g (.eq r r r r .mk)) (.h r (fun _=>.pickT r g r r r .mk) (.fk 1 r ?_)))
     refine AV hd (fun b hd=>?_) fun b hd=>?_
     · refine .h r (fun _=>.gyes r r b (.move r r r .mk)) (.h r (fun _=>.gyes r r b (.move r r r .mk)) (.h r (fun _=>.gyes r r b (.eq r r r r .mk)) (.h r (fun _=>.pickT r b r r r .mk) (.fk 1 r ?_))))
       refine AV hd (fun a hd=>?_) fun a hd=>?_
       · refine .h r (fun _=>.gyes r r a (.lw FQ DR .p2 r .mk)) (.h r (fun _=>.gyes r r a (.lw FQ DR .z r .mk)) (.ww r fun ex=>?_))
         have U:=aN (I:=t) i hd
         refine .gyes r r a (.call call51 r U r r fun d4 d5 X Y=>?_)
         obtain ⟨d6,d7,d8,rfl,p,hd⟩:=Y
         obtain ⟨Z,a2,i⟩:=X.u3 m u i
         refine .so 3 r r r (.ch r (fun _=>.gyes r r a (.lw FQ DR .z r .mk)) trivial) (.ww r fun ex=>?_)
         refine .pub .p1 fun b5 a3 y=>?_
         obtain ⟨a4,a5,i,p⟩:=a3.u4 Z a2 i p
         have a6:=aN (I:=b5) (a0:=({ N:=v.1.N,Edges:=k }:AM)) y hd
         refine .gyes r r a (.call call51 r a6 r r fun d9 b7 a7 a8=>?_)
         obtain ⟨e0,e1,e3,rfl,b8,hd⟩:=a8
         obtain ⟨a9,c4,i,p,y⟩:=a7.u5 a4 a5 i p y
         refine .so 2 r r r trivial (.ww r fun ex=>?_)
         have b0:=dE (I:=b7) p b8 hd
         refine .gyes r r a (.callP call50 r b0 r r fun e4 b1=>?_)
         obtain ⟨b9,rfl,hd⟩:=b1
         exact .so 2 r r r trivial (.h r (fun _=>.pickT r a r r r .mk) (.e2 21 (.kn 1 [4] r (.drop .z (.drop .z (.r1 results12 r a9 ⟨b9,r,hd⟩))))))
       refine .h r (fun _=>.gno r r a r r .mk) (.h r (fun _=>.gno r r a r r .mk) (.h r (fun _=>.gno r r a r r .mk) (.h r (fun _=>.gno r r a r r .mk) (.h r (fun _=>.gno r r a r r .mk) (.h r (fun _=>.pickF r a r r r .mk) (.e2 21 (.kn 1 [4] r (.drop .z (.drop .z ?_)))))))))
       exact .drop .z (.r1 results12 r m ⟨false,r,hd⟩)
     refine .h r (fun _=>.gno r r b r r .mk) (.h r (fun _=>.gno r r b r r .mk) (.h r (fun _=>.gno r r b r r .mk) (.h r (fun _=>.pickF r b r r r .mk) (.fk 7 r (.e2 21 (.kn 1 [4] r (.drop .z (.drop .z (.drop .z ?_)))))))))
     exact .r1 results12 r m ⟨false,r,hd⟩
   exact .h r (fun _=>.gno r r g r r .mk) (.h r (fun _=>.gno r r g r r .mk) (.h r (fun _=>.pickF r g r r r .mk) (.fk 12 r (.e2 21 (.kn 1 [4] r (.drop .z (.drop .z (.drop .z (.r1 results12 r m ⟨false,r,hd⟩)))))))))
 exact .h r (fun _=>.gno r r e r r .mk) (.h r (fun _=>.gno r r e r r .mk) (.h r (fun _=>.pickF r e r r r .mk) (.fk 16 r (.e2 21 (.kn 1 [4] r (.drop .z (.drop .z (.drop .z (.r1 results12 r m ⟨false,r,hd⟩)))))))))
end Go.Proofs.YtbohadngdkjljaaGreat
