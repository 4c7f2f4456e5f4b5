/- The walks (printed by a program of ours). -/
import Derived.Test.YtbohadngdkjljaaGreatV3
namespace Go.Proofs.YtbohadngdkjljaaGreat
open Go Go.Fw
set_option linter.unusedVariables false
set_option linter.unusedSimpArgs false
set_option maxRecDepth 8000
set_option maxHeartbeats 1000000
open Tryz
variable {I:IH}
variable {b2 b3 b4 b5 b6 b7 b8 b9 c2 c3 c4 c5 c6 c7 c8 c9 lr b10 b11 b12 b13 b18 b19 b20 b21 b35 b36 b37 b38 b39 b40 b41 b42 b43 b54 b59 c10 c11 c12 c13 c14 c15 c16 c17 c18 c19 c20 c21 c22 c23 c24 c25 c26 c27 c28 c29 c30 c31 c32 c33 c34 c35 c36 c37 c38 c39 c41 c42 c43 c44 c45 c46 c47 c48 c49 c50 c51 c52 c54 c55 c57 c60 c63 c66 c69 c72 c75 c78:Nat}
variable {p1 p2 p3 p4 p5 p6 p7 p8 p9 p10 p11 p12 p13 p14 p15 p16 p17 p18 p19 p20 p21 p22 p23 p24 p25 p26 p27 p28 p29 p30 p31 p32 p33 p34 p35 p36 p37 p38 p40 p41 p42 p43 p44 p45 p46 p47 p48 p49 p50 p51 p53 p54 p56 p59 p62 p65 p68 p71 p74 p77:Option Addr}
variable {Rr:Nat→HA}
theorem NU {a0 a1:Int} {Q:Int→Prop} (hd:IM a0 a1 Q) :
  BT prog 56 [.int .i64 a0,.int .i64 a1] I (fun _=>iT Q):=by
 refine Fun.en func56 ntmps56 r fun w0 M=>?_
 refine .sr (.kn 1 [1,0] r (.seq (.sk 3 r ?_)))
 refine AR hd (fun a hd=>?_) fun a hd=>?_
 · rw [a]
   exact .kn 3 [10,1,0] r (.condKT r r (.sr (.kn 1 [4] r (.r0 results56 r ⟨0,r,hd⟩))))
 rw [a]
 refine .kn 3 [10,1,0] r (.condP r hd (fun b hd=>?_) fun b hd=>?_)
 · exact .sr (.kn 1 [4] r (.r0 results56 r ⟨0,r,hd⟩))
 refine .sn [1,0] r (.sk 2 r ?_)
 obtain ⟨c,hd⟩:=hd
 exact .rem r r c r r (.kn 1 [4] r (.r0 results56 r ⟨(a0.tmod a1),r,hd⟩))
theorem lT {a0:AL} {Q:AL→Prop} (R3:RepSl BZ I p1 c2 a0.Edges) (hd:UD a0 Q) :
  BT prog 14 [.agg #[.int .i64 a0.N,.slice p1 a0.Edges.length c2]] I (o5_ Q):=by
 refine Fun.en func14 ntmps14 r fun w0 M=>?_
 refine .sr (.bx r fun a6=>?_)
 refine .al QZ r fun a7=>?_
 refine .nk [2,1] 1 r (.lo BG .p1 r ?_)
 have L:=NU (I:=I) hd
 refine .cq call56 L r fun k hd=>?_
 refine .build QZ iU rK (.c r r r (.o r) .n) (by exact ⟨⟨_,_,r,r,r⟩,trivial⟩) r r (.al QZ r fun U=>?_)
 refine .sa DT .z r (.no [3,2,1] r (.seq (.sr (.kn 1 [4,3,2,1] r (.block (.own0 BZ 49 (.lx hd [3,2,1] [3,2] r (fun j E l (a,f)=>fun c w=>∃ g i,j ⟨51,[],none⟩ (fun I_=>True) ((4,.int .i64 f) :: E) (pto U (.cells #[.int .i64 k,.slice g a.length i] 24 (0,0)) :: OwnSl BZ 49 g i a :: l) c w) (fun c w ho hs=>⟨_,_,jf rf trivial [1,0,1,0] r ho hs⟩) ?_)))))))
 rintro ⟨a,f⟩ T hd c w ⟨g,i,p,b,_,hok,hsym⟩
 have R3:=b.u1 R3
 refine Cod.at hok hsym (.seq (.sk 2 r (.lo NV .p2 r (.ln FB r (.ks 2 r ?_)))))
 refine AR hd (fun d hd=>?_) fun d hd=>?_
 · rw [d]
   refine .ks 4 r ?_
   refine AR hd (fun e hd=>?_) fun e hd=>?_
   · rw [e]
     refine .ks 1 r (.yes r (.lo BG .z r (.kn 2 [23,4,3,2,1] r (.condP r hd (fun v hd=>?_) fun v hd=>?_))))
     · refine .sn [4,3,2,1] r (.seq (.block (.sk 1 r (.lo NV .p2 r (.ks 1 r ?_)))))
       obtain ⟨q,s,m,hd⟩:=hd
       obtain ⟨X,o155,V,O,x,y⟩:=R3.2 _ _ m
       cases y
       refine .ixa FB EI r O r q (AJ m q) r r (.ldW QE EI x r r r r (.al NW r fun Y=>?_))
       refine .sa EI .z r (.no [5,4,3,2,1] r (.dr [0,1,2,3,4,5,7,8,9,10,12,13,14,6,11,15,16,17] 18 (.fk 1 r (.h r (fun _=>.lo NV .p1 r .mk) (.fk 1 r (.h r (fun _=>.lo BG .z r .mk) (.fk 1 r (.h r (fun _=>.lo BG .p1 r .mk) (.fk 1 r ?_)))))))))
       refine .h r (fun _=>.lo BG .z r .mk) (.fk 1 r (.h r (fun _=>.lo BG .p1 r .mk) (.fk 1 r (.h r (fun _=>.lo YS .z r .mk) (.fk 1 r (.ww r fun ex=>?_))))))
       have A:=NU (I:=p) hd
       refine .cq call56 A r fun t hd=>?_
       refine .so 5 r r r (.ck 1 r r (.ch r (fun _=>.lo YS .z r .mk) (.ck 1 r r (.ch r (fun _=>.lo BG .p1 r .mk) (.ck 1 r r (.ch r (fun _=>.lo BG .z r .mk) (.ck 1 r r (.ch r (fun _=>.lo NV .p1 r .mk) (.ck 1 r r trivial))))))))) (.ww r fun ex=>?_)
       have B:=NU (I:=p) hd
       refine .cq call56 B r fun u hd=>?_
       refine .so 5 r r r (.ck 1 r r (.ch r (fun _=>.lo YS .z r .mk) (.ck 1 r r (.ch r (fun _=>.lo NV .p1 r .mk) (.ck 1 r r trivial))))) (.h r (fun _=>.build NW vR vQ (.c r r r (.o r) (.c r r r (.o r) (.c r r r (.o r) .n))) (by exact ⟨⟨_,_,r,r,r⟩,⟨⟨_,_,r,r,r⟩,⟨⟨_,_,r,r,r⟩,trivial⟩⟩⟩) r r .mk) (.ww r fun ex=>?_))
       refine .buildSlice 1 FB EI NW r r (.c r r r .n) r r fun Z=>?_
       refine .so 6 r r r (.ch r (fun _=>.lo NV .p2 r .mk) (.ck 1 r r trivial)) (.ww r fun ex=>?_)
       obtain ⟨C,hd⟩:=hd
       refine .append (ys:=[({ From:=t,To:=u,W:=fY .i64 s.W 2147483647 }:AM)]) 24 .p3 FB FB vP r r r r r r r r r (.box .z (.one r) r) C r r fun a1 a2=>?_
       exact .so 6 r r r trivial (.e2 18 (.ks 1 r (.s1 sizeOf22 .p3 r (.no [4,3,2,1] r (.drop .p1 (.drop .p1 (.region (.ks 3 r (.nil' fun c w ho hs=>⟨((a++([({ From:=t,To:=u,W:=fY .i64 s.W 2147483647 }:AM)])),AH (f+1)),hd,_,_,jf b trivial [1,0,0,0] r ho hs⟩)))))))))
     refine .en [3,2] r (.drop .p2 (.sr (.lw FN DT .z r (.sa DT .p2 r (.no [2] r (.drop .z (.pub .z fun a3 D P=>?_)))))))
     have F:=D.u1 b
     exact .ret (CA results14 (.w FN DT r .z r .n) F ⟨({ N:=k,Edges:=a }:AL),_,_,r,P,hd⟩)
   rw [e]
   refine .kn 4 [23,4,3,2,1] r (.condKF r r (.en [3,2] r (.drop .p2 (.sr (.lw FN DT .z r (.sa DT .p2 r (.no [2] r (.drop .z (.pub .z fun a4 G R=>?_)))))))))
   have H:=G.u1 b
   exact .ret (CA results14 (.w FN DT r .z r .n) H ⟨({ N:=k,Edges:=a }:AL),_,_,r,R,hd⟩)
 rw [d]
 refine .kn 8 [23,4,3,2,1] r (.condKF r r (.en [3,2] r (.drop .p2 (.sr (.lw FN DT .z r (.sa DT .p2 r (.no [2] r (.drop .z (.pub .z fun a5 J S=>?_)))))))))
 have K:=J.u1 b
 exact .ret (CA results14 (.w FN DT r .z r .n) K ⟨({ N:=k,Edges:=a }:AL),_,_,r,S,hd⟩)
theorem lU {a0:AL} {Q:Int→Prop} (R3:RepSl BZ I p1 c2 a0.Edges) (hd:UE a0 Q) :
  BT prog 57 [.agg #[.int .i64 a0.N,.slice p1 a0.Edges.length c2]] I (fun _=>iT Q):=by
 refine Fun.en func57 ntmps57 r fun w0 M=>?_
 refine .sr (.bx r fun b6=>?_)
 refine .kn 1 [1] r (.seq (.sk 1 r (.lo BG .z r (.kn 1 [8,1] r (.condP r hd (fun O hd=>?_) fun O hd=>?_)))))
 · exact .sr (.kn 1 [2] r (.drop .z (.r0 results57 r ⟨3,r,hd⟩)))
 refine .sn [1] r (.seq (.sk 1 r (.lo BG .z r (.ks 2 r ?_))))
 refine AR hd (fun g hd=>?_) fun g hd=>?_
 · rw [g]
   exact .kn 5 [17,1] r (.condKT r r (.sr (.kn 1 [2] r (.drop .z (.r0 results57 r ⟨5,r,hd⟩)))))
 rw [g]
 refine .ks 1 r (.yes r (.lo NV .z r (.yes r (.ln FB r (.kn 2 [17,1] r (.condP r hd (fun F hd=>?_) fun F hd=>?_))))))
 · exact .sr (.kn 1 [2] r (.drop .z (.r0 results57 r ⟨5,r,hd⟩)))
 refine .sn [1] r (.seq (.sr (.kn 1 [3,1] r (.block (.lp hd [1] [0] r (fun j E l h=>j ((3,.int .i64 h) :: E) l) (ji rf [0] r) ?_)))))
 refine fun h K hd=>jq r fun T a=>?_
 have R3:=a.u1 R3
 refine .seq (.sk 2 r (.lo NV .z r (.ln FB r (.kn 1 [22,3,1] r (.condP r hd (fun t hd=>?_) fun t hd=>?_)))))
 · refine .sn [3,1] r (.seq (.block (.sk 1 r (.lo NV .z r (.ks 1 r ?_)))))
   obtain ⟨p,U,k,hd⟩:=hd
   obtain ⟨V,o185,P,G,u,v⟩:=R3.2 _ _ k
   cases v
   refine .ixa FB EI r G r p (AJ k p) r r (.ldW QE EI u r r r r (.al NW r fun W=>?_))
   refine .sa EI .z r (.nk [4,3,1] 1 r (.lo BG .z r (.ks 2 r ?_)))
   refine AR hd (fun b hd=>?_) fun b hd=>?_
   · rw [b]
     exact .kn 18 [51,3,1] r (.drop .z (.condKT r r (.sr (.kn 1 [2] r (.drop .z (.r1 results57 r a ⟨3,r,hd⟩))))))
   rw [b]
   refine .ks 1 r (.yes r (.lo BG .z r (.ks 1 r (.yes r (.lo BG .p1 r (.ks 3 r ?_))))))
   refine AR hd (fun c hd=>?_) fun c hd=>?_
   · rw [c]
     exact .kn 11 [51,3,1] r (.drop .z (.condKT r r (.sr (.kn 1 [2] r (.drop .z (.r1 results57 r a ⟨3,r,hd⟩))))))
   rw [c]
   refine .ks 1 r (.yes r (.lo BG .z r (.ks 3 r ?_)))
   refine AR hd (fun d hd=>?_) fun d hd=>?_
   · rw [d]
     exact .kn 6 [51,3,1] r (.drop .z (.condKT r r (.sr (.kn 1 [2] r (.drop .z (.r1 results57 r a ⟨3,r,hd⟩))))))
   rw [d]
   refine .ks 1 r (.yes r (.lo BG .z r (.ks 1 r (.yes r (.lo BG .p1 r (.kn 2 [51,3,1] r (.drop .z (.condP r hd (fun w hd=>?_) fun w hd=>?_))))))))
   · exact .sr (.kn 1 [2] r (.drop .z (.r1 results57 r a ⟨3,r,hd⟩)))
   exact .sn [3,1] r (.region (.ks 3 r (.nil' (je (AH (h+1)) hd a [0] r))))
 refine .en [1] r (.seq (.sr (.kn 1 [5,1] r (.block (.lp hd [1] [0] r (fun j E l i=>j ((5,.int .i64 i) :: E) l) (ji rf [0] r) ?_)))))
 refine fun i L hd=>jq r fun X m=>?_
 obtain ⟨e,R3⟩:=m.u2 a R3
 refine .seq (.sk 2 r (.lo NV .z r (.ln FB r (.kn 1 [56,5,1] r (.condP r hd (fun x hd=>?_) fun x hd=>?_)))))
 · refine .sn [5,1] r (.seq (.block (.sk 1 r (.lo NV .z r (.ks 1 r ?_)))))
   obtain ⟨q,Y,n,hd⟩:=hd
   obtain ⟨Z,o254,R,H,y,A⟩:=R3.2 _ _ n
   cases A
   refine .ixa FB EI r H r q (AJ n q) r r (.ks 1 r (.ld1 (j:=2) YS y r r r r r (.ks 2 r ?_)))
   refine AR hd (fun f hd=>?_) fun f hd=>?_
   · rw [f]
     exact .kn 8 [74,5,1] r (.condKT r r (.sr (.kn 1 [2] r (.drop .z (.r1 results57 r e ⟨7,r,hd⟩)))))
   rw [f]
   refine .ks 1 r (.yes r (.lo NV .z r (.ks 1 r ?_)))
   obtain ⟨s,a1,o,hd⟩:=hd
   obtain ⟨a2,o264,S,J,B,C⟩:=R3.2 _ _ o
   cases C
   refine .yes r (.ixa FB EI r J r s (AJ o s) r r (.ks 1 r (.yes r (.ld1 (j:=2) YS B r r r r r (.kn 2 [74,5,1] r (.condP r hd (fun D hd=>?_) fun D hd=>?_))))))
   · exact .sr (.kn 1 [2] r (.drop .z (.r1 results57 r e ⟨7,r,hd⟩)))
   exact .sn [5,1] r (.region (.ks 3 r (.nil' (je (AH (i+1)) hd m [0] r))))
 exact .en [] r (.drop .z (.sr (.kn 1 [2] r (.r1 results57 r e ⟨0,r,hd⟩))))
theorem dI {a0:KB} {Q:(AL×Int×Int×Int)→Prop} (R3:RepSl BZ I p1 c2 a0.G.Edges) (hd:LS a0 Q) :
  BT prog 44 [.agg #[.int .i64 a0.G.N,.slice p1 a0.G.Edges.length c2,.int .i64 a0.V,.int .u8 a0.R,.int .u8 a0.C]] I (fun I_ v=>∃ r p4 c5,v=.tuple #[.agg #[.int .i64 r.1.N,.slice p4 r.1.Edges.length c5],.int .i64 r.2.1,.int .i64 r.2.2.1,.int .i64 r.2.2.2]∧RepSl BZ I_ p4 c5 r.1.Edges∧Q r):=by
 refine Fun.en func44 ntmps44 r fun w0 M=>?_
 refine .sr (.bx r fun D=>?_)
 refine .al QZ r fun F=>?_
 refine .ks 3 r (.nk [2,1] 1 r (.loadA FN DT r .p1 (.o 2 r) r r r ?_))
 have i:=lT (I:=I) R3 hd
 refine .call call14 r i r r fun H J b k=>?_
 obtain ⟨g,K,L,rfl,u,hd⟩:=k
 have R3:=b.u1 R3
 refine .al QZ r fun x=>?_
 refine .sa DT .z r (.no [6,2,1] r (.seq (.jx hd [6,2,1] [2,1] r (fun j E l (d,a)=>fun c w=>∃ e f,j ⟨30,[],none⟩ (fun I_=>RepSl BZ I_ e f a) E (pto x (.cells #[.int .i64 d,.slice e a.length f] 24 (0,0)) :: l) c w) (fun O hd=>?_) ?_)))
 · skip
   refine .sk 1 r (.lo BG .z r (.kn 1 [12,6,2,1] r (.condP r hd (fun m hd=>?_) fun m hd=>?_)))
   · exact .region (.build QZ iU rK (.c r r r (.o r) .n) (by exact ⟨⟨_,_,r,r,r⟩,trivial⟩) r r (.sa DT .z r (.nil' fun c w ho hs=>⟨(1,([]:List AM)),hd,_,_,jf rf (.nil _ _ _) [0,1,0] r ho hs⟩)))
   exact .skip' fun c w ho hs=>⟨(g.N,g.Edges),hd,_,_,jf rf u [0,1,0] r ho hs⟩
 rintro ⟨d,a⟩ hd c w ⟨e,f,y,p,A,hok,hsym⟩
 obtain ⟨q,R3⟩:=p.u2 b R3
 refine Cod.at hok hsym (.seq (.dr [0,1,2,3,4,6,7,8,9,10,11,12,13,14,15,5,16,17,18] 19 (.h r (fun _=>.lw FN DT .z r .mk) (.fk 1 r (.h r (fun _=>.lo BG .p1 r .mk) (.fk 1 r (.h r (fun _=>.lo BG .z r .mk) (.fk 1 r (.h r (fun _=>.lo ia5 .p1 r .mk) ?_)))))))))
 refine .h r (fun _=>.conv un5 Z9 r r r .mk) (.h r (fun _=>.rem r r (by decide) r r .mk) (.fk 2 r (.h r (fun _=>.lo ia5 .p1 r .mk) (.h r (fun _=>.conv un5 Z9 r r r .mk) (.h r (fun _=>.rem r r (by decide) r r .mk) (.fk 1 r (.ww r fun ex=>?_)))))))
 have s:=NU (I:=y) hd
 refine .cq call56 s r fun B hd=>?_
 refine .so 3 r r r (.ck 1 r r (.ch r (fun _=>.rem r r (by decide) r r .mk) (.ch r (fun _=>.conv un5 Z9 r r r .mk) (.ch r (fun _=>.lo ia5 .p1 r .mk) (.ck 2 r r (.ch r (fun _=>.rem r r (by decide) r r .mk) (.ch r (fun _=>.conv un5 Z9 r r r .mk) (.ch r (fun _=>.lo ia5 .p1 r .mk) (.ck 1 r r (.ch r (fun _=>.lw FN DT .z r .mk) trivial)))))))))) (.ww r fun ex=>?_)
 exact .sa DT .p2 r (.sn 3 r r r (.ck 1 r r (.ch r (fun _=>.rem r r (by decide) r r .mk) (.ch r (fun _=>.conv un5 Z9 r r r .mk) (.ch r (fun _=>.lo ia5 .p1 r .mk) (.ck 2 r r (.ch r (fun _=>.rem r r (by decide) r r .mk) (.ch r (fun _=>.conv un5 Z9 r r r .mk) (.ch r (fun _=>.lo ia5 .p1 r .mk) (.ck 1 r r trivial))))))))) (.fk 2 r (.e2 19 (.kn 1 [5,4,3,2] r (.drop .z (.drop .z (.ret (CA results44 (.w FN DT r .z r (.t r (.t r (.t r .n)))) q ⟨(({ N:=d,Edges:=a }:AL),B,AH (((AH (a0.R)).tmod 4)+1),AH (((AH (a0.C)).tmod 4)+1)),_,_,r,A,hd⟩))))))))
theorem WT {a0:AL} {a1 a2:Int} {Q:Bool→Prop} (R3:RepSl BZ I p1 c2 a0.Edges) (hd:OM a0 a1 a2 Q) :
  BT prog 118 [.agg #[.int .i64 a0.N,.slice p1 a0.Edges.length c2],.int .i64 a1,.int .i64 a2] I (fun _=>gA Q):=by
 refine Fun.en func118 ntmps118 r fun w0 M=>?_
 refine .sr (.bx r fun y=>?_)
 refine .kn 1 [3,2,1] r (.seq (.sr (.kn 1 [7,3,2,1] r (.block (.lp hd [3,2,1] [0] r (fun j E l b=>j ((7,.int .i64 b) :: E) l) (ji rf [0] r) ?_)))))
 refine fun b q hd=>jq r fun u a=>?_
 have R3:=a.u1 R3
 refine .seq (.sk 2 r (.lo NV .z r (.ln FB r (.kn 1 [13,7,3,2,1] r (.condP r hd (fun n hd=>?_) fun n hd=>?_)))))
 · refine .sn [7,3,2,1] r (.seq (.block (.sk 1 r (.lo NV .z r (.ks 1 r ?_)))))
   obtain ⟨m,v,h,hd⟩:=hd
   obtain ⟨w,o94,t,s,o,p⟩:=R3.2 _ _ h
   cases p
   refine .ixa FB EI r s r m (AJ h m) r r (.ldW QE EI o r r r r (.al NW r fun x=>?_))
   refine .sa EI .z r (.nk [8,7,3,2,1] 4 r ?_)
   refine AR hd (fun c hd=>?_) fun c hd=>?_
   · rw [c]
     refine .ks 1 r (.yes r (.lo BG .z r (.ks 3 r ?_)))
     refine AR hd (fun d hd=>?_) fun d hd=>?_
     · rw [d]
       refine .ks 1 r (.yes r (.lo BG .z r (.ks 4 r ?_)))
       refine AR hd (fun e hd=>?_) fun e hd=>?_
       · rw [e]
         exact .kn 12 [47,7,3,2,1] r (.drop .z (.condKT r r (.sr (.kn 1 [6] r (.drop .z (.r1 results118 r a ⟨true,r,hd⟩))))))
       rw [e]
       refine .ks 1 r (.yes r (.lo BG .z r (.ks 3 r ?_)))
       refine AR hd (fun f hd=>?_) fun f hd=>?_
       · rw [f]
         refine .ks 1 r (.yes r (.lo BG .z r (.kn 5 [47,7,3,2,1] r (.drop .z (.condP r hd (fun i hd=>?_) fun i hd=>?_)))))
         · exact .sr (.kn 1 [6] r (.drop .z (.r1 results118 r a ⟨true,r,hd⟩)))
         exact .sn [7,3,2,1] r (.region (.ks 3 r (.nil' (je (AH (b+1)) hd a [0] r))))
       rw [f]
       exact .kn 7 [47,7,3,2,1] r (.drop .z (.condKF r r (.sn [7,3,2,1] r (.region (.ks 3 r (.nil' (je (AH (b+1)) hd a [0] r)))))))
     rw [d]
     refine .ks 7 r (.yes r (.lo BG .z r (.ks 3 r ?_)))
     refine AR hd (fun g hd=>?_) fun g hd=>?_
     · rw [g]
       refine .ks 1 r (.yes r (.lo BG .z r (.kn 5 [47,7,3,2,1] r (.drop .z (.condP r hd (fun k hd=>?_) fun k hd=>?_)))))
       · exact .sr (.kn 1 [6] r (.drop .z (.r1 results118 r a ⟨true,r,hd⟩)))
       exact .sn [7,3,2,1] r (.region (.ks 3 r (.nil' (je (AH (b+1)) hd a [0] r))))
     rw [g]
     exact .kn 7 [47,7,3,2,1] r (.drop .z (.condKF r r (.sn [7,3,2,1] r (.region (.ks 3 r (.nil' (je (AH (b+1)) hd a [0] r)))))))
   rw [c]
   exact .kn 23 [47,7,3,2,1] r (.drop .z (.condKF r r (.sn [7,3,2,1] r (.region (.ks 3 r (.nil' (je (AH (b+1)) hd a [0] r)))))))
 exact .en [] r (.drop .z (.sr (.kn 1 [6] r (.r1 results118 r a ⟨false,r,hd⟩))))
theorem qJ {a0:AL} {Q:(List (Int×Int×Int))→Prop} (R3:RepSl BZ I p1 c2 a0.Edges) (hd:W7 a0 Q) :
  BT prog 47 [.agg #[.int .i64 a0.N,.slice p1 a0.Edges.length c2]] I (AhY Q):=by
 refine Fun.en func47 ntmps47 r fun w0 M=>?_
 refine .sr (.bx r fun b9=>?_)
 refine .ks 1 r (.nk [1] 1 r (.no [3,1] r (.seq (.sr (.lw FN DT .z r ?_)))))
 have U:=lU (I:=I) R3 hd
 refine .cq call57 U r fun b2 hd=>?_
 refine .kn 1 [9,3,1] r (.condP r hd (fun V hd=>?_) fun V hd=>?_)
 · exact .sr (.kn 2 [2] r (.drop .z (.r0 results47 r ⟨([]:List (Int×Int×Int)),_,_,r,(.nil _ _ _),hd⟩)))
 refine .sn [3,1] r (.seq (.sr (.kn 1 [4,3,1] r (.block (.own0 OB 99 (.lx hd [1] [1] r (fun j E l (i,f)=>fun c w=>∃ u v,j ⟨57,[],none⟩ (fun I_=>True) ((3,.slice u i.length v) :: (4,.int .i64 f) :: E) (OwnSl OB 99 u v i :: l) c w) (fun c w ho hs=>⟨_,_,jf rf trivial [0,0] r ho hs⟩) ?_))))))
 rintro ⟨i,f⟩ X hd c w ⟨u,v,b0,k,_,hok,hsym⟩
 have R3:=k.u1 R3
 refine Cod.at hok hsym (.seq (.sk 2 r (.lo BG .p1 r (.kn 1 [14,4,3,1] r (.condP r hd (fun S hd=>?_) fun S hd=>?_)))))
 · refine .sn [4,3,1] r (.seq (.block (.sr (.kn 3 [5,4,3,1] r (.block (.lx hd [4,1] [1] r (fun j E l (m,e)=>fun c w=>∃ x y,j ⟨57,[],none⟩ (fun I_=>True) ((3,.slice x m.length y) :: (5,.int .i64 e) :: E) (OwnSl OB 99 x y m :: l) c w) (fun c w ho hs=>⟨_,_,jf rf trivial [0,0] r ho hs⟩) ?_))))))
   rintro ⟨m,e⟩ Y hd c w ⟨x,y,b1,A,_,hok,hsym⟩
   obtain ⟨B,R3⟩:=A.u2 k R3
   refine Cod.at hok hsym (.seq (.sk 2 r (.lo BG .p1 r (.kn 1 [22,5,4,3,1] r (.condP r hd (fun C hd=>?_) fun C hd=>?_)))))
   · refine .sn [5,4,3,1] r (.seq (.block (.sr (.kn 3 [6,5,4,3,1] r (.block (.lx hd [5,4,1] [1] r (fun j E l (a,b)=>fun c w=>∃ p q,j ⟨57,[],none⟩ (fun I_=>True) ((3,.slice p a.length q) :: (6,.int .i64 b) :: E) (OwnSl OB 99 p q a :: l) c w) (fun c w ho hs=>⟨_,_,jf rf trivial [0,0] r ho hs⟩) ?_))))))
     rintro ⟨a,b⟩ W hd c w ⟨p,q,s,d,_,hok,hsym⟩
     obtain ⟨Z,t,R3⟩:=d.u3 B A R3
     refine Cod.at hok hsym (.seq (.sk 2 r (.lo BG .p1 r (.ks 2 r ?_))))
     refine AR hd (fun g hd=>?_) fun g hd=>?_
     · rw [g]
       refine .yes r (.lw FN DT .p1 r (.ks 2 r ?_))
       have D:=WT (I:=s) R3 hd
       refine .yes r (.callP call118 r D r r fun a1 F=>?_)
       obtain ⟨a2,rfl,hd⟩:=F
       refine .kn 1 [36,6,5,4,3,1] r (.condP r hd (fun G hd=>?_) fun G hd=>?_)
       · refine .sn [6,5,4,3,1] r (.seq (.block (.sr (.lw FN DT .p1 r (.ks 2 r ?_)))))
         have H:=WT (I:=s) R3 hd
         refine .cq call118 H r fun a3 hd=>?_
         refine .ks 1 r ?_
         refine AR hd (fun h hd=>?_) fun h hd=>?_
         · rw [h]
           refine .yes r (.lw FN DT .p1 r (.ks 2 r ?_))
           have J:=WT (I:=s) R3 hd
           refine .yes r (.callP call118 r J r r fun a4 K=>?_)
           obtain ⟨a5,rfl,hd⟩:=K
           refine .kn 1 [48,6,5,4,3,1] r (.condP r hd (fun L hd=>?_) fun L hd=>?_)
           · refine .region (.ks 4 r (.buildArr oJ vS FD (.c r r r (.o r) (.c r r r (.o r) (.c r r r (.o r) .n))) r r (.buildSlice 1 dT jB oJ r r (.c r r r .n) r r fun a6=>?_)))
             obtain ⟨O,hd⟩:=hd
             refine .append (ys:=[(f,e,b)]) 24 .p1 dT dT AhK r r r r r r r r r (.box .z (.one r) r) O r r fun a7 a8=>?_
             exact .kn 1 [3,6,5,4,1] r (.drop .p1 (.region (.ks 3 r (.nil' fun c w ho hs=>⟨((a++([(f,e,b)])),AH (b+1)),hd,_,_,jf d trivial [0,0] r ho hs⟩))))
           exact .sn [6,5,4,3,1] r (.region (.ks 3 r (.nil' fun c w ho hs=>⟨(a,AH (b+1)),hd,_,_,jf d trivial [0,0] r ho hs⟩)))
         rw [h]
         exact .kn 5 [48,6,5,4,3,1] r (.condKF r r (.sn [6,5,4,3,1] r (.region (.ks 3 r (.nil' fun c w ho hs=>⟨(a,AH (b+1)),hd,_,_,jf d trivial [0,0] r ho hs⟩)))))
       exact .en [5,4,3,1] r (.region (.ks 3 r (.nil' fun c w ho hs=>⟨(a,AH (e+1)),hd,_,_,jf t trivial [0,0] r ho hs⟩)))
     rw [g]
     exact .kn 5 [36,6,5,4,3,1] r (.condKF r r (.en [5,4,3,1] r (.region (.ks 3 r (.nil' fun c w ho hs=>⟨(a,AH (e+1)),hd,_,_,jf t trivial [0,0] r ho hs⟩)))))
   exact .en [4,3,1] r (.region (.ks 3 r (.nil' fun c w ho hs=>⟨(m,AH (f+1)),hd,_,_,jf B trivial [0,0] r ho hs⟩)))
 refine .en [3] r (.drop .p1 (.sr (.kn 2 [2] r (.pub .z fun a9 P T=>?_))))
 have R:=P.u1 k
 exact .r1 results47 r R ⟨i,_,_,r,T,hd⟩
theorem gM {a0:KB} {Q:Bool→Prop} (R3:RepSl BZ I p1 c2 a0.G.Edges) (hd:UX a0 Q) :
  BT prog 9 [.agg #[.int .i64 a0.G.N,.slice p1 a0.G.Edges.length c2,.int .i64 a0.V,.int .u8 a0.R,.int .u8 a0.C]] I (fun _=>gA Q):=by
 refine Fun.en func9 ntmps9 r fun w0 M=>?_
 refine .sr (.bx r fun D=>?_)
 refine .ks 1 r (.ns [1] r (.lw isAgg85 sizeOf85 .z r ?_))
 have f:=dI (I:=I) R3 hd
 refine .call call44 r f r r fun p e a g=>?_
 obtain ⟨q,s,t,rfl,d,hd⟩:=g
 have R3:=a.u1 R3
 refine .ks 5 r (.al QZ r fun u=>?_)
 refine .sa DT .z r (.kn 3 [6,5,3] r (.drop .p1 (.sr (.lw FN DT .z r (.ks 2 r ?_)))))
 have h:=eX (I:=e) d hd
 refine .cq call45 h r fun n hd=>?_
 refine .ks 5 r (.ns [8,7,3] r ?_)
 have i:=qI (I:=e) hd
 refine .cq call46 i r fun v hd=>?_
 refine .ks 1 r ?_
 refine AR hd (fun b hd=>?_) fun b hd=>?_
 · rw [b]
   refine .ks 4 r ?_
   refine AR hd (fun c hd=>?_) fun c hd=>?_
   · rw [c]
     refine .ks 1 r (.yes r (.lw FN DT .z r ?_))
     have j:=qJ (I:=e) d hd
     refine .yes r (.call call47 r j r r fun w x k l=>?_)
     obtain ⟨o,y,A,rfl,B,hd⟩:=l
     obtain ⟨m,d⟩:=k.u2 a d
     exact .yes r (.ln dT r (.kn 3 [2] r (.drop .z (.r1 results9 r m ⟨(n.1==(o.length:Int)),r,hd⟩))))
   rw [c]
   exact .kn 7 [2] r (.drop .z (.r1 results9 r a ⟨false,r,hd⟩))
 rw [b]
 exact .kn 11 [2] r (.drop .z (.r1 results9 r a ⟨false,r,hd⟩))
end Go.Proofs.YtbohadngdkjljaaGreat
