/- The walks. -/
import Derived.Test.YtbohadngdkjljaaGreatV1
namespace Go.Proofs.YtbohadngdkjljaaGreat
open Go Go.Fw
set_option linter.unusedVariables false
set_option linter.unusedSimpArgs false
set_option maxRecDepth 8000
set_option maxHeartbeats 1000000
open Tryz
variable {I:IH}
variable {b2 b3 b4 b5 b6 b7 b8 b9 c2 c3 c4 c5 c6 c8 c9 lr b10 b11 b12 b13 b15 b18 b19 b20 b21 b22 b24 c11 c15 c17 c18 c19 c20 c22 c25 c28 c31 c34:Nat}
variable {p1 p2 p3 p4 p5 p7 p8 p10 p14 p16 p17 p18 p19 p21 p24 p27 p30 p33:Option Addr}
variable {Rr:Nat→HA}
variable {ga1 ga3 ga5 ga12 ga14 ga16:kU}
variable {gc1 gc3 gc8:xK}
variable {ge1 ge2 ge7 ge11:aTe}
variable {gf3 gf4 gf5 gf6 gf8:aTf}
variable {gh5:aTh}
variable {gi1:aTi}
variable {gj1:aTj}
variable {gl4 gl5 gl13:aTl}
variable {gm5:aTm}
theorem mW {a0 a1:Int} {Q:Rows→Prop} (hd:TR a0 a1 Q) :
  BH prog 95 [.int .i64 a0,.int .i64 a1] I (o9_ Q):=by
 refine Fun.en func95 ntmps95 r fun w0 M=>?_
 refine .sr (.al CF r fun U=>?_)
 refine .nk 19 1 r (.no 51 r (.seq (.sr (.kn 1 115 r (.block (.own0 B5 103 (.lx hd [4,1,0] [1] r (fun j E l (e,a)=>fun c w=>∃ f g,j ⟨34,[],none⟩ (fun I_=>True) ((5,.slice f e.length g) :: (6,.int .i64 a) :: E) (OwnSl B5 103 f g e :: l) c w) (fun c w ho hs=>⟨_,_,jf rf tv [0,0] r ho hs⟩) ?_)))))))
 rintro ⟨e,a⟩ G hd c w ⟨f,g,J,m,_,hok,hsym⟩
 refine Cod.at hok hsym (.seq (.sr (.kn 3 4211 r (.condP r hd (fun p hd=>?_) fun p hd=>?_))))
 · refine .sn 115 r (.seq (.block (.sr (.kn 1 243 r (.block (.lx hd [6,4,1,0] [1] r (fun j E l (b,d)=>fun c w=>∃ h i,j ⟨34,[],none⟩ (fun I_=>True) ((5,.slice h b.length i) :: (7,.int .i64 d) :: E) (OwnSl B5 103 h i b :: l) c w) (fun c w ho hs=>⟨_,_,jf rf tv [0,0] r ho hs⟩) ?_))))))
   rintro ⟨b,d⟩ H hd c w ⟨h,i,K,o,_,hok,hsym⟩
   have q:=o.u1 m
   refine Cod.at hok hsym (.seq (.sr (.kn 3 131315 r (.condP r hd (fun s hd=>?_) fun s hd=>?_))))
   · refine .sn 243 r (.seq (.block (.region (.ks 3 r (.bd HT VU VR r (.bs 1 D5 D8 HT r fun L=>?_))))))
     obtain ⟨t,hd⟩:=hd
     refine .append (ys:=[({ Row:=a,Col:=d,Val:=1 }:A1)]) 24 .p1 D5 D5 UQ r r r r r r r r r (.box .z (.one r) r) t r r fun N O=>?_
     exact .kn 1 243 r (.drop .p1 (.region (.ks 3 r (.nil' fun c w ho hs=>⟨((b++([({ Row:=a,Col:=d,Val:=1 }:A1)])),A7 (d+1)),hd,_,_,jf o tv [0,0] r ho hs⟩))))
   exact .en 115 r (.region (.ks 3 r (.nil' fun c w ho hs=>⟨(b,A7 (a+1)),hd,_,_,jf q tv [0,0] r ho hs⟩)))
 refine .en 51 r (.sk 3 r (.pub .z fun P u k=>?_))
 have v:=u.u1 m
 have x:=NS k hd
 refine .call call60 r x r r fun R S y A=>?_
 obtain ⟨D,B,rfl,F,hd⟩:=A
 obtain ⟨C,k⟩:=y.u2 v k
 refine .ks 3 r (.al CF r fun T=>?_)
 exact .sa AE .z r (.ks 1 r (.ns 272 r (.lw B6 AE .z r (.sa AE .p1 r (.no 16 r (.drop .z (.ret (B9 r (.w B6 AE r .z r .n) C ⟨D.1,B,r,F,hd⟩))))))))
theorem bD {a0 a1 a2:Int} {Q:Int→Prop} (hd:IA a0 a1 a2 Q) :
  BH prog 142 [.int .i64 a0,.int .i64 a1,.int .i64 a2] I (fun _=>bI Q):=by
 refine Fun.en func142 ntmps142 r fun w0 M=>.sr (.kn 1 7 r (.seq (.sk 1 r ?_)))
 have a:=W3 (I:=I) hd
 refine .cq call137 a r fun g hd=>.ks 2 r (.spl hd [9,10] r (fun b hd=>?_) fun b hd=>?_)
 · exact .kn 16 67108871 r (.condKT r r (.sr (.kn 1 64 r (.r0 results142 r ⟨(-1),r,hd⟩))))
 refine .ks 4 r (.spl hd [12,13,14] r (fun c hd=>?_) fun c hd=>?_)
 · exact .kn 12 67108871 r (.condKT r r (.sr (.kn 1 64 r (.r0 results142 r ⟨(-1),r,hd⟩))))
 refine .ks 4 r (.spl hd [16,17,18] r (fun d hd=>?_) fun d hd=>?_)
 · exact .kn 8 67108871 r (.condKT r r (.sr (.kn 1 64 r (.r0 results142 r ⟨(-1),r,hd⟩))))
 refine .ks 4 r (.spl hd [20,21,22] r (fun e hd=>?_) fun e hd=>?_)
 · exact .kn 4 67108871 r (.condKT r r (.sr (.kn 1 64 r (.r0 results142 r ⟨(-1),r,hd⟩))))
 refine .kn 4 67108871 r (.condP r hd (fun f hd=>?_) fun f hd=>?_)
 · exact .sr (.kn 1 64 r (.r0 results142 r ⟨(-1),r,hd⟩))
 exact .sn 7 r (.sr (.kn 6 64 r (.r0 results142 r ⟨(A7 ((A7 (a1*a0))+a2)),r,hd⟩)))
theorem K1 {o1:BF} {o2:Int} {o3:A2} {o4:AF} {a0 a1 a2:Int} {a3:List A1} {Q:AF→Prop} (R9:nE I gc8 o1) (R13:NX I ga12 o4.mask) (R26:RepSl B5 I p24 c25 a3) (hd:CC o1 o2 o3 o4 a0 a1 a2 a3 Q) :
  Fun prog 141 #[.int .i64 a0,.int .i64 a1,.int .i64 a2,.slice p24 a3.length c25,.pointer (some ⟨b6,0,none⟩),.pointer (some ⟨b7,0,none⟩),.pointer (some ⟨b10,0,none⟩)] I [pto b6 (.cells #[.pointer (some ⟨b11,0,none⟩)] 122 (0,0)),pto b7 (.cells (JU o1 gc8) 40 (0,0)),pto b10 (.cells #[.int .i64 o2] 3 (0,0)),AW A5 o3,pto b11 (.cells (IC o4 ga12 p14 c15 b22 p17 c18) 127 (0,0)),OwnSl BI 196 p14 c15 o4.out,OwnMap EU (JI B5) false b22 o4.parts,OwnSl BL 161 p17 c18 o4.has] (fun I_ v l=>∃ r ga28 p30 c31 p33 c34,v=.tuple #[]∧NX I_ ga28 r.mask∧l=[pto b6 (.cells #[.pointer (some ⟨b11,0,none⟩)] 122 (0,0)),pto b7 (.cells (JU o1 gc8) 40 (0,0)),pto b10 (.cells #[.int .i64 o2] 3 (0,0)),AW A5 o3,pto b11 (.cells (IC r ga28 p30 c31 b22 p33 c34) 127 (0,0)),OwnSl BI 196 p30 c31 r.out,OwnMap EU (JI B5) false b22 r.parts,OwnSl BL 161 p33 c34 r.has]∧Q r):=by
 refine Fun.en func141 ntmps141 r fun w0 M=>.dr [0,1,2,3,4,5,6,7,8,9,10,11,12,13,14,15,17,18,19,20,22,23,16,21,24,25,26,27,28,29] 30 (.hl K0 0 r (.hl K0 0 r (.fk 2 r (.hl EJ 4 r (.fk 2 r (.hl AP 1 r (.hl K0 0 r (.fk 2 r (.hl AP 4 r ?_)))))))))
 refine .hl K0 0 r (.fk 2 r (.hl AP 4 r (.fk 1 r (.hl AP 1 r (.fk 2 r (.hl AP 2 r (.fk 1 r (.ww r fun ex=>?_))))))))
 have c:=bD (I:=I) hd
 refine .cq call142 c r fun a hd=>?_
 refine .so 8 r r r (.ck 1 r r (.ch r (fun _=>.lo AP .p2 r .mk) (.ck 2 r r (.ch r (fun _=>.lo AP .p1 r .mk) (.ck 2 r r (.ch r (fun _=>.lo EJ .p4 r .mk) (.ck 2 r r (.ch r (fun _=>.lo K0 .z r .mk) (.ch r (fun _=>.lo K0 .z r .mk) tv))))))))) (.ww r fun ex=>?_)
 have d:=bD (I:=I) hd
 refine .cq call142 d r fun b hd=>.so 8 r r r (.ck 1 r r (.ch r (fun _=>.lo AP .p2 r .mk) (.ck 1 r r (.ch r (fun _=>.lo EJ .p4 r .mk) (.ck 2 r r (.ch r (fun _=>.lo K0 .z r .mk) (.ch r (fun _=>.lo K0 .z r .mk) tv))))))) (.h r (fun _=>.bd F0 VV VS r .mk) (.ww r fun ex=>?_))
 refine .bs 1 DO BR F0 r fun f=>.so 9 r r r (.ch r (fun _=>.lo EJ .p5 r .mk) (.ck 2 r r (.ch r (fun _=>.lo K0 .p1 r .mk) (.ch r (fun _=>.lo K0 .p1 r .mk) tv)))) (.ww r fun ex=>?_)
 obtain ⟨e,hd⟩:=hd
 exact .append (ys:=[({ Kind:=a0,From:=a,To:=b,Seq:=0,Round:=o2,Vec:=G0,Sums:=([]:List P9),Triples:=a3,N:=0,Over:=false }:AM)]) 136 .p6 DO DO dE r r r r r r r r r (.box .z (.one ⟨((_,_),(_,_),(_,_)),r,⟨(.nil _ _ _),(.nil _ _ _),R26⟩⟩) r) e r r fun g i=>.so 9 r r r (.ch r (fun _=>.lo K0 .p2 r .mk) tv) (.fk 2 r (.ww r fun ex=>.s1 aH .p6 r (.sn 9 r r r tv (.e2 30 (.nil' (Q5 r .n rf (.o [2,2,2,2,2,0,1,1] r) ⟨({ o4 with out:=(o4.out++([({ Kind:=a0,From:=a,To:=b,Seq:=0,Round:=o2,Vec:=G0,Sums:=([]:List P9),Triples:=a3,N:=0,Over:=false }:AM)])) }:AF),ga12,_,_,_,_,r,R13,r,hd⟩))))))
theorem SJ {o0:A3} {o1:AF} {o2:A2} {a0:Int} {a1:AV} {Q:AF→Prop} (R6:lTh I gh5 o0) (R15:NX I ga14 o1.mask) (hd:FO o0 o1 o2 a0 a1 Q) :
  Fun prog 73 #[.pointer (some ⟨b4,0,none⟩),.pointer (some ⟨b13,0,none⟩),.int .i64 a0,.agg (fC a1).toArray] I [pto b4 (.cells (RZ o0 gh5 p7 c8 b12) 121 (0,0)),OwnSl D6 122 p7 c8 o0.workers,OwnMap CL D6 false b12 o0.boxes,pto b13 (.cells (IC o1 ga14 p16 c17 b24 p19 c20) 127 (0,0)),OwnSl BI 196 p16 c17 o1.out,OwnMap EU (JI B5) false b24 o1.parts,OwnSl BL 161 p19 c20 o1.has,AW A5 o2] (fun I_ v l=>∃ r ga27 p29 c30 p32 c33,v=.tuple #[]∧NX I_ ga27 r.mask∧l=[pto b4 (.cells (RZ o0 gh5 p7 c8 b12) 121 (0,0)),OwnSl D6 122 p7 c8 o0.workers,OwnMap CL D6 false b12 o0.boxes,pto b13 (.cells (IC r ga27 p29 c30 b24 p32 c33) 127 (0,0)),OwnSl BI 196 p29 c30 r.out,OwnMap EU (JI B5) false b24 r.parts,OwnSl BL 161 p32 c33 r.has,AW A5 o2]∧Q r):=by
 refine Fun.en func73 ntmps73 r fun w0 M=>?_
 refine .sr (.box1 r r r r fun i6=>?_)
 refine .box1 r r r r fun i7=>?_
 refine .bx r fun n3=>?_
 refine .nk 225 3 r (.loadA LS IU r .p3 (.o 19 r) r r r (.al mA r fun i8=>?_))
 refine .sa IU .z r (.nk 480 1 r (.lo AP .p1 r (.ks 1 r (.lo AP .p1 r (.ba H3 HK DN r (.al H3 r fun n4=>?_))))))
 refine .sa H1 .z r (.ns 992 r (.mkFn r r r r (.kn 1 1952 r (.seq (.jx hd [10,9,8,7,5] [4,2,1,0,0,0,0,0,4] r (fun j E l (b8,b9,c0,c1,m,p,q,s,c2,c3,t)=>fun c w=>∃ c4 c5 c6 c7 c9 d0 d1 d2 d3 d4,j ⟨97,[],none⟩ (fun I_=>RepSl BQ I_ c4 c5 m∧RepSl BQ I_ c6 c7 p∧RepSl BQ I_ c9 d0 q) E (pto b13 (.cells #[.int .i64 b8,.int .i64 b9,.int .i64 c0,.int .i64 c1,.slice c4 m.length c5,.slice c6 p.length c7,.slice c9 q.length d0,.slice d1 s.length d2,.map (some b24),.int .i64 c3,.slice d3 t.length d4] 127 (0,0)) :: OwnSl BI 196 d1 d2 s :: OwnMap EU (JI B5) false b24 c2 :: OwnSl BL 161 d3 d4 t :: l) c w) (fun k4 hd=>?_) ?_)))))
 · refine .seq (.dr [0,1,2,3,4,5,6] 7 (.fk 1 r (.hl AP 2 r (.hl K0 4 r (.fk 2 r (.hl AP 8 r (.fk 1 r (.e2 7 (.no 2147485600 r ?_)))))))))
   refine .condP r hd (fun g1 hd=>?_) fun g1 hd=>?_
   · refine .seq (.dr [0,1,2,3,4,5,6,7,8,9,10,12,11,13,14] 15 (.fk 1 r (.h r (fun _=>.loadA B6 AE r .p1 (.o 5 r) r r r .mk) (.fk 2 r (.hl AP 1 r (.fk 1 r (.hl AP 1 r (.hl K0 4 r (.fk 2 r ?_)))))))))
     refine .hl AP 8 r (.h r (fun _=>.lw MU H1 .z r .mk) (.ww r fun ex=>?_))
     have g2:=W5 (I:=I) hd
     refine .cq call144 g2 r fun k5 hd=>?_
     refine .so 13 r r r (.ch r (fun _=>.lw MU H1 .z r .mk) (.ch r (fun _=>.loadA B6 AE r .p1 (.o 5 r) r r r .mk) (.ck 1 r r tv))) (.ww r fun ex=>?_)
     have g3:=Q2 R6.1.1 hd
     refine .call call139 r g3 r r fun k6 k7 f3 g4=>?_
     obtain ⟨k8,j5,rfl,d5,hd⟩:=g4
     obtain ⟨R6,R15⟩:=f3.u2 R6 R15
     refine .so 13 r r r tv (.ww r fun ex=>?_)
     have g5:=Y3 d5 hd
     refine .call call143 r g5 r r fun k9 l0 g6 g7=>?_
     obtain ⟨l1,l2,l3,rfl,g,hd⟩:=g7
     obtain ⟨g8,R6,R15,d5⟩:=g6.u4 f3 R6 R15 d5
     refine .so 13 r r r tv (.e2 15 (.ks 1 r (.nk 4000 1 r (.lo AP .p1 r (.kn 1 844424930135968 r (.block (.lx hd [48,11,10,9,8,7,5] [4,2,1,0,0,0,0,0,4] r (fun j E l (d6,d7,d8,d9,u,x,y,A,e0,e1,B,e3)=>fun c w=>∃ C D F G H J K L N O,j ⟨97,[],none⟩ (fun I_=>RepSl BQ I_ C D u∧RepSl BQ I_ F G x∧RepSl BQ I_ H J y) ((49,.int .i64 e3) :: E) (pto b13 (.cells #[.int .i64 d6,.int .i64 d7,.int .i64 d8,.int .i64 d9,.slice C u.length D,.slice F x.length G,.slice H y.length J,.slice K A.length L,.map (some b24),.int .i64 e1,.slice N B.length O] 127 (0,0)) :: OwnSl BI 196 K L A :: OwnMap EU (JI B5) false b24 e0 :: OwnSl BL 161 N O B :: l) c w) (fun c w ho hs=>⟨_,_,_,_,_,_,_,_,_,_,jf rf ⟨R15.1,R15.2.1,R15.2.2⟩ [8,8,8,8,4,2,1,0,0,0,0,0,0] r ho hs⟩) ?_)))))))
     rintro ⟨d6,d7,d8,d9,u,x,y,A,e0,e1,B,e3⟩ j2 hd c w ⟨C,D,F,G,H,J,K,L,N,O,i9,f4,⟨P,R,S⟩,hok,hsym⟩
     obtain ⟨f5,R6,g⟩:=f4.u3 g8 R6 g
     refine Cod.at hok hsym (.sr (.kn 1 1970324836978592 r (.seq (.condP r hd (fun g9 hd=>?_) fun g9 hd=>?_))))
     · refine .sn 844424930135968 r (.seq (.block (.sr (.kn 2 844424930140064 r (.region (.ks 1 r (.lo K0 .p4 r (.ks 2 r (.lo AP .z r ?_)))))))))
       refine .ks 2 r ?_
       have h0:=K1 (I:=i9) (b6:=i6) (b7:=i8) (gc8:=gh5.1) (b10:=i7) (b11:=b13) (ga12:=((C,D),(F,G),(H,J))) (p14:=K) (c15:=L) (b22:=b24) (p17:=N) (c18:=O) R6.1 ⟨P,R,S⟩ g hd
       refine .callS (.c call141 r r) (.o [4,5,6,9,0,0,0,0] r) h0 r r fun l4 l5 l6 f6 h1=>?_
       obtain ⟨a,j6,l7,l8,l9,m0,rfl,e4,rfl,hd⟩:=h1
       obtain ⟨j7,h2,R6,g,P,R⟩:=f6.u6 f5 f4 R6 g P R
       have S:=f6.u1 S
       exact .rn 13 r (.no 844424930135968 r (.region (.ks 2 r (.nil' fun c w ho hs=>⟨(a.i,a.j,a.mask.Rows,a.mask.Cols,a.mask.Start,a.mask.Col,a.mask.Val,a.out,a.parts,a.at_,a.has,A7 (e3+1)),hd,_,_,_,_,_,_,_,_,_,_,jf h2 ⟨e4.1,e4.2.1,e4.2.2⟩ [4,4,4,4,0,3,0,2,0,1,1,1,0] r ho hs⟩))))
     exact .exit fun c w ho hs=>⟨(d6,d7,d8,d9,u,x,y,A,e0,e1,B),hd,_,_,_,_,_,_,_,_,_,_,jf f5 ⟨P,R,S⟩ [0,0,0,0,0,0,0,0,0,0,0,0,0] r ho hs⟩
   exact .skip' fun c w ho hs=>⟨(o1.i,o1.j,o1.mask.Rows,o1.mask.Cols,o1.mask.Start,o1.mask.Col,o1.mask.Val,o1.out,o1.parts,o1.at_,o1.has),hd,_,_,_,_,_,_,_,_,_,_,jf rf ⟨R15.1,R15.2.1,R15.2.2⟩ [8,8,8,8,4,2,1,0,0,0,0,0,0] r ho hs⟩
 rintro ⟨b8,b9,c0,c1,m,p,q,s,c2,c3,t⟩ hd c w ⟨c4,c5,c6,c7,c9,d0,d1,d2,d3,d4,j0,T,⟨d,e,f⟩,hok,hsym⟩
 have R6:=T.u1 R6
 refine Cod.at hok hsym (.seq (.dr [0,1,2,3,4,5,6] 7 (.fk 1 r (.hl AP 5 r (.hl K0 4 r (.fk 2 r (.hl AP 0 r (.fk 1 r (.e2 7 ?_)))))))))
 refine .no 147573952589676414752 r (.drop .p5 (.condP r hd (fun h3 hd=>?_) fun h3 hd=>?_))
 · refine .seq (.dr [0,1,2,3,4,5,6,7,8,9,10,11,12,13,14] 15 (.fk 1 r (.h r (fun _=>.loadA B6 AE r .p5 (.o 5 r) r r r .mk) (.h r (fun _=>.lw MU H1 .p6 r .mk) (.fk 2 r (.hl AP 5 r (.fk 1 r (.hl AP 5 r (.hl K0 4 r ?_)))))))))
   refine .fk 2 r (.hl AP 0 r (.ww r fun ex=>?_))
   have h4:=W5 (I:=j0) hd
   refine .cq call144 h4 r fun m1 hd=>?_
   refine .so 12 r r r (.ch r (fun _=>.lw MU H1 .p6 r .mk) (.ch r (fun _=>.loadA B6 AE r .p5 (.o 5 r) r r r .mk) (.ck 1 r r tv))) (.ww r fun ex=>?_)
   have h5:=Q2 R6.1.2.1 hd
   refine .call call139 r h5 r r fun m2 m3 h6 h7=>?_
   obtain ⟨m4,j8,rfl,e5,hd⟩:=h7
   obtain ⟨h8,R6,d,e,f⟩:=h6.u5 T R6 d e f
   refine .so 12 r r r tv (.ww r fun ex=>?_)
   have h9:=Y3 e5 hd
   refine .call call143 r h9 r r fun m5 m6 i0 i1=>?_
   obtain ⟨m7,m8,m9,rfl,k,hd⟩:=i1
   obtain ⟨i2,R6,d,e,f,e5⟩:=i0.u6 h8 R6 d e f e5
   refine .so 12 r r r tv (.e2 15 (.kn 1 9504 r (.drop .p6 (.sk 1 r (.lo AP .p5 r (.kn 1 58028439341502200385905696 r (.block (.lx hd [84,13,10,5] [4,4,4,4,4,4,4] r (fun j E l (e6,e7,e8,e9,U,V,W,X,f0,f1,Y,f2)=>fun c w=>∃ Z a2 a3 a4 a5 a6 a7 a8 a9 b0,j ⟨97,[],none⟩ (fun I_=>RepSl BQ I_ Z a2 U∧RepSl BQ I_ a3 a4 V∧RepSl BQ I_ a5 a6 W) ((85,.int .i64 f2) :: E) (pto b13 (.cells #[.int .i64 e6,.int .i64 e7,.int .i64 e8,.int .i64 e9,.slice Z U.length a2,.slice a3 V.length a4,.slice a5 W.length a6,.slice a7 X.length a8,.map (some b24),.int .i64 f1,.slice a9 Y.length b0] 127 (0,0)) :: OwnSl BI 196 a7 a8 X :: OwnMap EU (JI B5) false b24 f0 :: OwnSl BL 161 a9 b0 Y :: l) c w) (fun c w ho hs=>⟨_,_,_,_,_,_,_,_,_,_,jf rf ⟨d,e,f⟩ [0,0,0,0,0,0,0,0,0,0,0] r ho hs⟩) ?_))))))))
   rintro ⟨e6,e7,e8,e9,U,V,W,X,f0,f1,Y,f2⟩ j3 hd c w ⟨Z,a2,a3,a4,a5,a6,a7,a8,a9,b0,j1,f7,⟨b1,b2,b3⟩,hok,hsym⟩
   obtain ⟨f8,R6,k⟩:=f7.u3 i2 R6 k
   refine Cod.at hok hsym (.sr (.kn 1 135399691796838467567100960 r (.seq (.condP r hd (fun i3 hd=>?_) fun i3 hd=>?_))))
   · refine .sn 58028439341502200385905696 r (.seq (.block (.sr (.kn 2 58028439341502200385922080 r (.region (.ks 2 r (.lo K0 .p4 r (.ks 2 r (.lo AP .z r ?_)))))))))
     refine .ks 1 r ?_
     have i4:=K1 (I:=j1) (b6:=i6) (b7:=i8) (gc8:=gh5.1) (b10:=i7) (b11:=b13) (ga12:=((Z,a2),(a3,a4),(a5,a6))) (p14:=a7) (c15:=a8) (b22:=b24) (p17:=a9) (c18:=b0) R6.1 ⟨b1,b2,b3⟩ k hd
     refine .callS (.c call141 r r) (.o [4,4,4,7,0,0,0,0] r) i4 r r fun n0 n1 n2 f9 i5=>?_
     obtain ⟨b,j9,k0,k1,k2,k3,rfl,b5,rfl,hd⟩:=i5
     obtain ⟨j4,g0,R6,k,b1,b2⟩:=f9.u6 f8 f7 R6 k b1 b2
     have b3:=f9.u1 b3
     exact .rn 11 r (.no 58028439341502200385905696 r (.region (.ks 2 r (.nil' fun c w ho hs=>⟨(b.i,b.j,b.mask.Rows,b.mask.Cols,b.mask.Start,b.mask.Col,b.mask.Val,b.out,b.parts,b.at_,b.has,A7 (f2+1)),hd,_,_,_,_,_,_,_,_,_,_,jf g0 ⟨b5.1,b5.2.1,b5.2.2⟩ [4,4,4,4,0,0,0,1,1,1,0] r ho hs⟩))))
   exact .exit (Q5 r .n f8 (.o [7,7,7,0,0,0,0,3] r) ⟨({ i:=e6,j:=e7,mask:=({ Rows:=e8,Cols:=e9,Start:=U,Col:=V,Val:=W }:Rows),out:=X,parts:=f0,at_:=f1,has:=Y }:AF),((_,_),(_,_),(_,_)),_,_,_,_,r,⟨b1,b2,b3⟩,r,hd⟩)
 exact .skip' (Q5 r .n T (.o [8,8,8,0,0,0,0,4] r) ⟨({ i:=b8,j:=b9,mask:=({ Rows:=c0,Cols:=c1,Start:=m,Col:=p,Val:=q }:Rows),out:=s,parts:=c2,at_:=c3,has:=t }:AF),((_,_),(_,_),(_,_)),_,_,_,_,r,⟨d,e,f⟩,r,hd⟩)
theorem P2 {o0:A2} {o1:A8} {a0:BF} {Q0:(Int×A2)→Prop} {Q1:(Int×A2×A3)→Prop} (R4:nE I gc3 a0) (hd:EP o0 o1 a0 Q0 Q1) :
  Fun prog 22 #[.agg (JU a0 gc3)] I [AW A5 o0,AW AY o1] (fun I_ v l=>(∃ r,v=.tuple #[.pointer none,.int .i64 r.1]∧l=[AW A5 r.2,AW AY o1]∧Q0 r)∨(∃ r b5 gf6 b9,v=.tuple #[.pointer (some ⟨b5,0,none⟩),.int .i64 r.1]∧UZ I_ gf6 r.2.2∧l=[AW A5 r.2.1,AW AY o1,pto b5 (.cells (AK r.2.2 gf6 b9) 121 (0,0)),OwnMap CL D6 false b9 r.2.2.boxes]∧Q1 r)):=by
 refine Fun.en func22 ntmps22 r fun w0 M=>?_
 refine .sr (.bx r fun b7=>?_)
 refine .kn 2 2 r (.seq (.sr (.lw LS IU .z r ?_)))
 have f8:=O4 R4 hd
 refine .cq call33 f8 r fun g4 hd=>?_
 refine .ks 1 r (.nk 18 2 r (.no 32786 r (.condP r hd (fun f9 hd=>?_) fun f9 hd=>?_)))
 · exact .sr (.kn 3 12 r (.drop .z (.ret (JG r (.t r (.t r .n)) rf (.o [0,0] r) (.inl ⟨(g4,o0),r,r,hd⟩)))))
 refine .sn 2 r (.seq (.dr [0,1,2,3,4,5,6,7,9,8,999,10,11] 12 (.h r (fun _=>.lw LS IU .z r .mk) (.fk 2 r (.hl AP 0 r (.fk 1 r (.hl AP 0 r (.fk 1 r (.hl AP 0 r ?_)))))))))
 refine .a (fun b=>.map (some b)) (fun b=>OwnMap CL D6 false b ([]:List ((Int×Int)×(Option Nat)))) r r r r (fun _ L hL ex=>.mkMap CL D6 false r r fun b=>.mk (val:=fun b=>.map (some b)) (atom:=fun b=>OwnMap CL D6 false b ([]:List ((Int×Int)×(Option Nat)))) hL b) (.ww r fun ex=>?_)
 have g0:=eD (I:=I) hd
 refine .call call69 r g0 r r fun j3 j4 c3 g1=>?_
 obtain ⟨f5,c4,c5,rfl,e,hd⟩:=g1
 have R4:=c3.u1 R4
 refine .so 3 r r r (.ch r (fun _=>.lw LS IU .z r .mk) tv) (.b r fun f6=>DrawD.nop ?_)
 refine .h r (fun _=>.bd zeroValue121 underlying121 AdU r .mk) (.ww r fun ex=>?_)
 refine .bx r fun f7=>?_
 refine .so 5 r r r tv (.e2 12 (.kn 1 34 r (.seq (.sk 1 r (.lo AP .p1 r (.ks 1 r (.lo AP .p1 r (.kn 2 25769803810 r (.block ?_)))))))))
 refine .own0 D6 122 (.lx hd [33,5,1] [2,4,3] r (fun j E l (s,a7,W)=>fun c w=>∃ u x,j ⟨87,[],none⟩ (fun I_=>True) ((34,.int .i64 a7) :: E) (pto f7 (.cells #[.int .i64 a0.Ring,.int .i64 a0.A.Rows,.int .i64 a0.A.Cols,.slice gc3.1.1.1 a0.A.Start.length gc3.1.1.2,.slice gc3.1.2.1.1 a0.A.Col.length gc3.1.2.1.2,.slice gc3.1.2.2.1 a0.A.Val.length gc3.1.2.2.2,.int .i64 a0.B.Rows,.int .i64 a0.B.Cols,.slice gc3.2.1.1.1 a0.B.Start.length gc3.2.1.1.2,.slice gc3.2.1.2.1.1 a0.B.Col.length gc3.2.1.2.1.2,.slice gc3.2.1.2.2.1 a0.B.Val.length gc3.2.1.2.2.2,.int .i64 a0.Mask.Rows,.int .i64 a0.Mask.Cols,.slice gc3.2.2.1.1 a0.Mask.Start.length gc3.2.2.1.2,.slice gc3.2.2.2.1.1 a0.Mask.Col.length gc3.2.2.2.1.2,.slice gc3.2.2.2.2.1 a0.Mask.Val.length gc3.2.2.2.2.2,.int .i64 a0.R,.int .i64 a0.C,.int .i64 a0.Room,.slice c4 f5.length c5,.slice u s.length x,.map (some f6)] 121 (0,0)) :: OwnSl D6 122 u x s :: AW A5 W :: l) c w) (fun c w ho hs=>⟨_,_,jf rf tv [1,0,1,0,1,0] r ho hs⟩) ?_)
 rintro ⟨s,a7,W⟩ g2 hd c w ⟨u,x,c2,a5,_,hok,hsym⟩
 obtain ⟨b2,R4,e⟩:=a5.u3 c3 R4 e
 refine Cod.at hok hsym (.sr (.kn 1 60129542178 r (.seq (.condP r hd (fun c6 hd=>?_) fun c6 hd=>?_))))
 · refine .sn 25769803810 r (.seq (.block (.sr (.kn 2 25769803874 r (.seq (.dr [0,1,2,4,5,6,3,7,8] 9 (.fk 1 r (.hl AP 3 r (.fk 2 r ?_)))))))))
   refine .hl AP 3 r (.fk 1 r (.ww r fun ex=>?_))
   have c7:=gN (I:=c2) hd
   refine .cq call70 c7 r fun h2 hd=>?_
   refine .so 6 r r r (.ck 1 r r (.ch r (fun _=>.lo AP .p3 r .mk) (.ck 1 r r tv))) (.ww r fun ex=>?_)
   have c9:=sG (I:=c2) hd
   refine .cq call71 c9 r fun h3 hd=>?_
   refine .so 6 r r r tv (.fk 1 r (.e2 9 (.ks 1 r (.nk 25769804194 3 r (.loadA B6 AE r .p3 (.o 5 r) r r r (.ks 1 r (.lo AP .p3 r (.ks 1 r (.lo AP .p3 r ?_)))))))))
   refine .ks 2 r ?_
   have d0:=pT R4.2.2 hd
   refine .call call72 r d0 r r fun h4 h5 d1 d2=>?_
   obtain ⟨h6,g5,rfl,a8,hd⟩:=d2
   obtain ⟨d3,d4,R4,e⟩:=d1.u4 b2 a5 R4 e
   refine .mkMap EU (JI B5) false r r fun X=>?_
   refine .bd zeroValue127 underlying127 AdW r (.bx r fun q=>?_)
   refine .kn 1 25769804322 r (.seq (.sk 3 r (.lo KZ .p2 r (.ln HJ r (.kn 1 32281802154761519650 r (.block (.own0 BI 196 (.own0 BL 161 (.lx hd [63,62,34,33,9,5,1] [7,4,4,5,4,4] r (fun j E l (Y,Z,a1,a2,y,D,F,G,a3,a4,H,a9)=>fun c w=>∃ J K N O P Q S T U V,j ⟨87,[],none⟩ (fun I_=>RepSl BQ I_ J K y∧RepSl BQ I_ N O D∧RepSl BQ I_ P Q F) ((64,.int .i64 a9) :: E) (pto q (.cells #[.int .i64 Y,.int .i64 Z,.int .i64 a1,.int .i64 a2,.slice J y.length K,.slice N D.length O,.slice P F.length Q,.slice S G.length T,.map (some X),.int .i64 a4,.slice U H.length V] 127 (0,0)) :: OwnSl BI 196 S T G :: OwnMap EU (JI B5) false X a3 :: OwnSl BL 161 U V H :: l) c w) (fun c w ho hs=>⟨_,_,_,_,_,_,_,_,_,_,jf rf ⟨a8.1,a8.2.1,a8.2.2⟩ [2,1,1,0,3,0,0,1,0,0] r ho hs⟩) ?_)))))))))
   rintro ⟨Y,Z,a1,a2,y,D,F,G,a3,a4,H,a9⟩ g3 hd c w ⟨J,K,N,O,P,Q,S,T,U,V,f0,a6,⟨g,k,m⟩,hok,hsym⟩
   obtain ⟨b3,b6,R4,e⟩:=a6.u4 d3 d4 R4 e
   refine Cod.at hok hsym (.sr (.kn 1 69175290302180622882 r (.seq (.condP r hd (fun d5 hd=>?_) fun d5 hd=>?_))))
   · refine .sn 32281802154761519650 r (.seq (.block (.sk 1 r ?_)))
     obtain ⟨f1,h7,d6,h8,o1615,f2,d7,hd⟩:=e.ix hd
     refine .ixb HJ P5 f2 f1 d6 r (.ldW isAgg129 P5 d7 r r r r (.al jR r fun h9=>?_))
     refine .ks 1 r (.sa P5 .z r (.no 32281802154761522722 r (.region (.ks 3 r (.lw isAgg129 P5 .z r ?_)))))
     have d8:=SJ (I:=f0) (b4:=f7) (gh5:=(gc3,(c4,c5))) (p7:=u) (c8:=x) (b12:=f6) (b13:=q) (ga14:=((J,K),(N,O),(P,Q))) (p16:=S) (c17:=T) (b24:=X) (p19:=U) (c20:=V) ⟨R4,e⟩ ⟨g,k,m⟩ hd
     refine .callS (.f call73 r) (.o [6,6,6,1,1,1,1,2] r) d8 r r fun i0 i1 i2 b8 d9=>?_
     obtain ⟨d,g6,i3,i4,i5,i6,rfl,b0,rfl,hd⟩:=d9
     obtain ⟨g7,g8,e0,R4,e,g⟩:=b8.u6 b3 b6 a6 R4 e g
     obtain ⟨k,m⟩:=b8.u2 k m
     exact .rn 11 r (.no 32281802154761519650 r (.drop .p8 (.region (.ks 2 r (.nil' fun c w ho hs=>⟨(d.i,d.j,d.mask.Rows,d.mask.Cols,d.mask.Start,d.mask.Col,d.mask.Val,d.out,d.parts,d.at_,d.has,A7 (a9+1)),hd,_,_,_,_,_,_,_,_,_,_,jf e0 ⟨b0.1,b0.2.1,b0.2.2⟩ [3,3,3,3,4,0,0,0,0,0] r ho hs⟩)))))
   refine .en 25769804322 r (.region (.ks 4 r (.lo isAgg119 .p5 r (.ks 1 r (.bs 1 QO sizeOf122 zeroValue122 r fun i7=>?_)))))
   refine .pub .p2 fun i8 c0 b1=>?_
   obtain ⟨e1,e3,e4,R4,e,g⟩:=c0.u6 b3 b6 a6 R4 e g
   obtain ⟨k,m⟩:=c0.u2 k m
   refine .pub .p3 fun i9 c1 f3=>?_
   obtain ⟨g9,e5,h0,R4,e,g⟩:=c1.u6 e1 e3 e4 R4 e g
   obtain ⟨k,m,b1⟩:=c1.u3 k m b1
   refine .bankP (B:=A5) ((((J,K),(N,O),(P,Q)),(S,T),(U,V)),X) ({ i:=Y,j:=Z,mask:=({ Rows:=a1,Cols:=a2,Start:=y,Col:=D,Val:=F }:Rows),out:=G,parts:=a3,at_:=a4,has:=H }:AF) ⟨⟨g,k,m⟩,b1,f3⟩ (.o [1,1,5] r) fun e6=>?_
   have hd:=hd q e6
   obtain ⟨e7,hd⟩:=hd
   refine .append (ys:=[(some q)]) 8 .p4 QO QO AdV r r r r r r r r r (.box .p1 (.one r) r) e7 r r fun j0 j1=>?_
   exact .ks 2 r (.s1 sizeOf119 .p4 r (.no 25769803810 r (.drop .p2 (.region (.ks 2 r (.nil' fun c w ho hs=>⟨((s++([(some q)])),A7 (a7+1),((q,({ i:=Y,j:=Z,mask:=({ Rows:=a1,Cols:=a2,Start:=y,Col:=D,Val:=F }:Rows),out:=G,parts:=a3,at_:=a4,has:=H }:AF)) :: W)),hd,_,_,jf e5 tv [3,0,0,0,0,0] r ho hs⟩))))))
 refine .en 32 r (.drop .p3 (.sr (.kn 3 12 r (.pub .p1 fun j2 e8 f4=>?_))))
 obtain ⟨e9,h1,R4,e⟩:=e8.u4 b2 a5 R4 e
 exact .ret (JG r (.t r (.t r .n)) e9 (.o [1,2,0,0] r) (.inr ⟨(0,W,({ p:=a0,stages:=f5,workers:=s,boxes:=([]:List ((Int×Int)×(Option Nat))) }:A3)),_,(gc3,(c4,c5),(u,x)),_,r,⟨R4,e,f4⟩,r,hd⟩))
theorem bE {a0:EI} {Q:Bool→Prop} (hd:OY a0 Q) :
  Fun prog 62 #[.agg (TK a0).toArray] I [] (fun I_ v l=>∃ r,v=.bool r∧l=[]∧Q r):=by
 refine Fun.en func62 ntmps62 r fun w0 M=>.sr (.bx r fun c=>.ks 1 r (.ns 2 r (.lw fW T6 .z r ?_)))
 have a:=aY (I:=I) hd
 exact .cq call19 a r fun b hd=>.kn 2 4 r (.drop .z (.q1 results62 rf [] r ⟨(!b),r,r,hd⟩))
theorem IY {a0:List EI} {Q:Int→Prop} (R3:RepSl UM I p1 c2 a0) (hd:DE a0 Q) :
  Fun prog 129 #[.slice p1 a0.length c2,.func (.func 62) #[] #[]] I [] (fun I_ v l=>∃ r,v=.int .i64 r∧l=[]∧Q r):=by
 refine Fun.en func129 ntmps129 r fun w0 M=>?_
 refine .sr (.kn 1 3 r (.seq (.sk 1 r (.ln VT r (.kn 1 387 r (.block (.lp hd [7,1,0] [] r (fun j E l d=>j ((8,.int .i64 d) :: E) l) (ji rf [] r) ?_)))))))
 refine fun d o hd=>jq r fun p a=>?_
 have R3:=a.u1 R3
 refine .sr (.kn 1 899 r (.seq (.condP r hd (fun f hd=>?_) fun f hd=>?_)))
 · refine .sn 387 r (.seq (.block (.sk 2 r (.nk 419 3 r ?_))))
   obtain ⟨q,t,g,u,o55,s,b,hd⟩:=R3.ix hd
   refine .ixb VT T6 s q g r (.ldW fW T6 b r r r r ?_)
   have h:=bE (I:=p)  hd
   refine .callS (.c call62 r r) .n h r r fun w x y i k=>?_
   obtain ⟨z,rfl,rfl,hd⟩:=k
   obtain ⟨e,R3,b⟩:=i.u3 a R3 b
   refine .rn 0 r (.no 65955 r (.condP r hd (fun m hd=>?_) fun m hd=>?_))
   · exact .sr (.kn 2 18 r (.q1 results129 e [] r ⟨d,r,r,hd⟩))
   exact .sn 387 r (.region (.ks 2 r (.nil' (je (A7 (d+1)) hd e [] r))))
 exact .en 2 r (.sr (.kn 1 18 r (.q1 results129 a [] r ⟨(-1),r,r,hd⟩)))
theorem HQ {a0:List EI} {Q:Bool→Prop} (R3:RepSl UM I p1 c2 a0) (hd:CG a0 Q) :
  Fun prog 61 #[.slice p1 a0.length c2,.func (.func 62) #[] #[]] I [] (fun I_ v l=>∃ r,v=.bool r∧l=[]∧Q r):=by
 refine Fun.en func61 ntmps61 r fun w0 M=>?_
 refine .sk 1 r (.nk 3 2 r ?_)
 have b:=IY   R3 hd
 refine .callS (.f call129 r) .n b r r fun e g h a c=>?_
 obtain ⟨d,rfl,rfl,hd⟩:=c
 have R3:=a.u1 R3
 exact .rn 0 r (.kn 2 18 r (.q1 results61 a [] r ⟨(decide (0≤d)),r,r,hd⟩))
theorem FB {o0:A3} {o1:A2} {a0:Int} {Q:Bool→Prop} (R5:UZ I gf4 o0) (hd:D3 o0 o1 a0 Q) :
  Fun prog 96 #[.pointer (some ⟨b3,0,none⟩),.int .i64 a0] I [pto b3 (.cells (AK o0 gf4 b7) 121 (0,0)),OwnMap CL D6 false b7 o0.boxes,AW A5 o1] (fun I_ v l=>∃ r,v=.bool r∧l=[pto b3 (.cells (AK o0 gf4 b7) 121 (0,0)),OwnMap CL D6 false b7 o0.boxes,AW A5 o1]∧Q r):=by
 refine Fun.en func96 ntmps96 r fun w0 M=>.sk 1 r (.nk 3 1 r (.neNilP pB r r r r (.ks 5 r (.spl hd [9,10,11] r (fun a hd=>?_) fun a hd=>?_))))
 · exact .ks 4 r (.yes r (.lo isAgg119 .z r (.yes r (.ln QO r (.kn 3 17 r (.q1 results96 rf [0,0,0] r ⟨(decide (a0<(o0.workers.length:Int))),r,r,hd⟩))))))
 exact .kn 9 17 r (.q1 results96 rf [0,0,0] r ⟨false,r,r,hd⟩)
theorem L4 {o0:A3} {o1:A2} {a0:Int} {Q:Int→Prop} (R5:UZ I gf4 o0) (hd:ED o0 o1 a0 Q) :
  Fun prog 29 #[.pointer (some ⟨b3,0,none⟩),.int .i64 a0] I [pto b3 (.cells (AK o0 gf4 b7) 121 (0,0)),OwnMap CL D6 false b7 o0.boxes,AW A5 o1] (fun I_ v l=>∃ r,v=.int .i64 r∧l=[pto b3 (.cells (AK o0 gf4 b7) 121 (0,0)),OwnMap CL D6 false b7 o0.boxes,AW A5 o1]∧Q r):=by
 refine Fun.en func29 ntmps29 r fun w0 M=>?_
 refine .sr (.kn 1 3 r (.seq (.sk 2 r ?_)))
 have d:=FB  (b3:=b3) (b7:=b7) R5 hd
 refine .callS (.f call96 r) (.o [0,0,0] r) d r r fun t u w a e=>?_
 obtain ⟨x,rfl,rfl,hd⟩:=e
 have R5:=a.u1 R5
 refine .rn 3 r (.kn 1 259 r (.condP r hd (fun g hd=>?_) fun g hd=>?_))
 · exact .sr (.kn 1 17 r (.q1 results29 a [0,0,0] r ⟨0,r,r,hd⟩))
 refine .sn 3 r (.sk 3 r (.lo isAgg119 .z r (.ks 1 r ?_)))
 obtain ⟨m,y,h,A,o28,n,i,hd⟩:=R5.2.2.ix hd
 refine .ixb QO sizeOf122 n m h r (.ldb 0 K0 i r ?_)
 obtain ⟨p,c,j,b,hd⟩:=hd
 refine .bankO .p2 b fun ⟨k,q⟩ s=>?_
 exact .rn 5 r (.sub (E':=[(0,_),(1,_),(9,_),(10,_),(11,_),(12,_),(13,_),(14,_),(15,.pointer (some ⟨p,0,none⟩))]) ⟨r,r,r,r,r,r,r,r,(by rw [j]; rfl),tv⟩ (.ks 2 r (.lo EJ .z r (.ln DO r (.ks 1 r (.bankB (B:=A5) (k,q) c s b (.o [0,0,0] r) (.no 17 r (.q1 results29 a [1,1,0] r ⟨(c.out.length:Int),r,r,hd⟩))))))))
theorem gW {a0:Int} {Q0:Int→Prop} {Q1:(Int×AZ)→Prop} (hd:PG a0 Q0 Q1) :
  Fun prog 155 #[.int .i64 a0] I [] (fun I_ v l=>(∃ r,v=.tuple #[.pointer none,.int .i64 r]∧l=[]∧Q0 r)∨(∃ r b1 p2 c3 b7 b9,v=.tuple #[.pointer (some ⟨b1,0,none⟩),.int .i64 r.1]∧l=[pto b1 (.cells (BW r.2 p2 c3 b7 b9) 213 (0,0)),OwnSl BQ 3 p2 c3 r.2.row,OwnMap (Value.int .i64) BI true b7 r.2.by_,OwnMap (Value.int .i64) BQ false b9 r.2.often]∧Q1 r)):=by
 refine Fun.en func155 ntmps155 r fun w0 M=>.sr (.kn 2 1 r (.seq (.sk 3 r (.spl hd [5,6] r (fun a hd=>?_) fun a hd=>?_))))
 · exact .kn 3 513 r (.condKT r r (.sr (.kn 2 12 r (.ret (JG r (.t r (.t r .n)) rf .n (.inl ⟨3,r,r,hd⟩))))))
 refine .kn 3 513 r (.condP r hd (fun b hd=>?_) fun b hd=>?_)
 · exact .sr (.kn 2 12 r (.ret (JG r (.t r (.t r .n)) rf .n (.inl ⟨3,r,r,hd⟩))))
 exact .sn 1 r (.sk 1 r (.mkMap (Value.int .i64) BI true r r fun c=>.mkMap (Value.int .i64) BQ false r r fun d=>.bd zeroValue213 underlying213 Ae3 r (.bx r fun b7=>.kn 2 12 r (.own0 BQ 3 (.ret (JG r (.t r (.t r .n)) rf (.o [1,0,1,0] r) (.inr ⟨(0,({ room:=a0,row:=([]:List Int),by_:=([]:List (Int×AM)),often:=([]:List (Int×Int)),sent:=0,taken:=0 }:AZ)),_,_,_,_,_,r,r,hd⟩)))))))
theorem E6 {o0:A3} {o1:A2} {o2:A8} {a0 a1:Int} {Q0:(A3×A8)→Prop} {Q1:((Option Nat)×A3×A8)→Prop} (R6:UZ I gf5 o0) (hd:BZ o0 o1 o2 a0 a1 Q0 Q1) :
  Fun prog 85 #[.pointer (some ⟨b4,0,none⟩),.int .i64 a0,.int .i64 a1] I [pto b4 (.cells (AK o0 gf5 b8) 121 (0,0)),OwnMap CL D6 false b8 o0.boxes,AW A5 o1,AW AY o2] (fun I_ v l=>(∃ r gf10,v=.pointer none∧UZ I_ gf10 r.1∧l=[pto b4 (.cells (AK r.1 gf10 b8) 121 (0,0)),OwnMap CL D6 false b8 r.1.boxes,AW A5 o1,AW AY r.2]∧Q0 r)∨(∃ r gf10,v=.pointer (eJ r.1)∧UZ I_ gf10 r.2.1∧l=[pto b4 (.cells (AK r.2.1 gf10 b8) 121 (0,0)),OwnMap CL D6 false b8 r.2.1.boxes,AW A5 o1,AW AY r.2.2]∧Q1 r)):=by
 refine Fun.en func85 ntmps85 r fun w0 M=>?_
 refine .sr (.kn 1 7 r (.seq (.sk 2 r ?_)))
 have g:=FB  (b3:=b4) (b7:=b8) R6 hd
 refine .callS (.f call96 r) (.o [0,0,0] r) g r r fun U V W c i=>?_
 obtain ⟨X,rfl,rfl,hd⟩:=i
 have R6:=c.u1 R6
 refine .rn 4 r (.ks 2 r (.spl hd [11,12] r (fun j hd=>?_) fun j hd=>?_))
 · exact .kn 5 131079 r (.condKT r r (.sr (.kn 1 65 r (.q1 results85 c [0,0,0,0] r (.inl ⟨(o0,o2),gf5,r,R6,r,hd⟩)))))
 refine .ks 2 r ?_
 have m:=FB  (b3:=b4) (b7:=b8) R6 hd
 refine .yes r (.callS (.f call96 r) (.o [0,0,0] r) m r r fun Y J Z p q=>?_)
 obtain ⟨a2,rfl,rfl,hd⟩:=q
 obtain ⟨d,R6⟩:=p.u2 c R6
 refine .rn 4 r (.kn 2 131079 r (.condP r hd (fun t hd=>?_) fun t hd=>?_))
 · exact .sr (.kn 1 65 r (.q1 results85 d [0,0,0,0] r (.inl ⟨(o0,o2),gf5,r,R6,r,hd⟩)))
 refine .sn 7 r (.sk 2 r (.ba H3 HK DN r (.al H3 r fun a3=>?_)))
 refine .sa H1 .z r (.no 129 r (.seq (.seq (.dr [0,1,2,3,4,5,6] 7 (.fk 3 r (.hl isAgg118 1 r (.h r (fun _=>.lw MU H1 .z r .mk) (.ww r fun ex=>?_))))))))
 refine .lookM (k:=(a0,a1)) (El:=D6) (ag:=false) (zv:=.pointer none) (z:=none) dF jK zeroValue146 ⟨[.pointer none],r,.s⟩ .p2 r r hd r r fun a4 a5 R hd u w=>?_
 cases u
 cases w
 refine .so 5 r r r tv (.h r (fun _=>.eqNilH aF r r r r .mk) (.e2 7 (.no 134217857 r (.condP r hd (fun x hd=>?_) fun x hd=>?_))))
 · refine .dr [0,1,2,3,4,5,6,7,8,9,10,11,12,13,14] 15 (.fk 3 r (.hl isAgg118 1 r (.h r (fun _=>.lw MU H1 .z r .mk) (.fk 4 r (.hl AP 1 r (.ww r fun ex=>?_))))))
   have y:=gW (I:=J)  hd
   refine .callS (.f call155 r) .n y r r fun a6 a7 a8 A a=>?_
   rcases a with a | a
   · obtain ⟨a9,rfl,rfl,hd⟩:=a; exact hd.elim
   obtain ⟨e,b,K,L,N,O,rfl,rfl,hd⟩:=a
   obtain ⟨C,R6⟩:=A.u2 d R6
   refine .rx 9 r (.so 9 r r r (.ch r (fun _=>.lw MU H1 .p4 r .mk) (.ch r (fun _=>.lo isAgg118 .p5 r .mk) (.ck 3 r r tv))) (.fk 3 r (.ww r fun ex=>?_)))
   refine .bankP (B:=AY) (K,L,N,O) e.2 tv (.o [0,0,0,0,4] r) fun D=>?_
   have hd:=hd b D
   refine .updM (k:=(a0,a1)) (El:=D6) (ag:=false) (v:=(some b)) dF jK .p3 r r r ⟨[.pointer (some ⟨b,0,none⟩)],r,.s⟩ (.sn 5 r r r (.ck 1 r r tv) (.e2 15 (.no 129 r (.seq (.dr [0,1,2,3,4,5] 6 (.fk 3 r (.hl isAgg118 2 r (.h r (fun _=>.lw MU H1 .p1 r .mk) (.ww r fun ex=>?_)))))))))
   refine .lookM (k:=(a0,a1)) (El:=D6) (ag:=false) (zv:=.pointer none) (z:=none) dF jK zeroValue146 ⟨[.pointer none],r,.s⟩ .p3 r r hd r r fun b0 P S hd E F=>?_
   cases E
   cases F
   exact .so 5 r r r tv (.e2 6 (.kn 1 65 r (.drop .p1 (.q1 results85 C [1,1,1,0] r (.inr ⟨(P,({ o0 with boxes:=(FC (a0,a1) (some b) o0.boxes) }:A3),((b,e.2) :: o2)),gf5,r,R6,r,hd⟩)))))
 refine .sn 129 r (.seq (.dr [0,1,2,3,4,5] 6 (.fk 3 r (.hl isAgg118 1 r (.h r (fun _=>.lw MU H1 .z r .mk) (.ww r fun ex=>?_))))))
 refine .lookM (k:=(a0,a1)) (El:=D6) (ag:=false) (zv:=.pointer none) (z:=none) dF jK zeroValue146 ⟨[.pointer none],r,.s⟩ .p2 r r hd r r fun b1 Q T hd G H=>?_
 cases G
 cases H
 exact .so 5 r r r tv (.e2 6 (.kn 1 65 r (.drop .z (.q1 results85 d [0,0,0,0] r (.inr ⟨(Q,o0,o2),gf5,r,R6,r,hd⟩)))))
theorem P6 {o0:AZ} {Q:Bool→Prop} (hd:GL o0 Q) :
  Fun prog 157 #[.pointer (some ⟨b2,0,none⟩)] I [pto b2 (.cells (BW o0 p3 c4 b8 b10) 213 (0,0)),OwnSl BQ 3 p3 c4 o0.row,OwnMap (Value.int .i64) BI true b8 o0.by_,OwnMap (Value.int .i64) BQ false b10 o0.often] (fun I_ v l=>∃ r,v=.bool r∧l=[pto b2 (.cells (BW o0 p3 c4 b8 b10) 213 (0,0)),OwnSl BQ 3 p3 c4 o0.row,OwnMap (Value.int .i64) BI true b8 o0.by_,OwnMap (Value.int .i64) BQ false b10 o0.often]∧Q r):=by
 exact Fun.en func157 ntmps157 r fun w0 M=>.sr (.kn 1 1 r (.seq (.dr [0,1,2,3,4,5,6,7,8,9] 10 (.fk 3 r (.hl DY 0 r (.h r (fun _=>.ln BP r .mk) (.fk 3 r (.hl AP 0 r (.fk 1 r (.e2 10 (.kn 1 5 r (.q1 results157 rf [0,0,0,0] r ⟨(decide (o0.room≤(o0.row.length:Int))),r,r,hd⟩))))))))))))
theorem QY {o0:AZ} {a0:Int} {Q:AZ→Prop} (hd:HF o0 a0 Q) :
  Fun prog 158 #[.pointer (some ⟨b2,0,none⟩),.int .i64 a0] I [pto b2 (.cells (BW o0 p3 c4 b8 b10) 213 (0,0)),OwnSl BQ 3 p3 c4 o0.row,OwnMap (Value.int .i64) BI true b8 o0.by_,OwnMap (Value.int .i64) BQ false b10 o0.often] (fun I_ v l=>∃ r p12 c13,v=.tuple #[]∧l=[pto b2 (.cells (BW r p12 c13 b8 b10) 213 (0,0)),OwnSl BQ 3 p12 c13 r.row,OwnMap (Value.int .i64) BI true b8 r.by_,OwnMap (Value.int .i64) BQ false b10 r.often]∧Q r):=by
 refine Fun.en func158 ntmps158 r fun w0 M=>.sk 4 r (.lo DY .z r (.ks 1 r (.bs 1 BP DN qJ r fun f=>?_)))
 obtain ⟨b,hd⟩:=hd
 refine .append (ys:=[a0]) 8 .p2 BP BP IN3 r r r r r r r r r (.box .z (.one r) r) b r r fun g h=>.ks 2 r (.s1 yZ .p2 r (.no 3 r (.drop .p1 (.region (.ks 3 r (.lo isAgg211 .p1 r (.ks 1 r (.lookM (k:=a0) (El:=BQ) (ag:=false) (zv:=.int .i64 0) (z:=0) (LN XC) jP qJ ⟨[.int .i64 0],r,.s⟩ .p3 r r hd r r fun i a e hd c d=>?_))))))))
 cases c
 cases d
 exact .ks 1 r (.updM (k:=a0) (El:=BQ) (ag:=false) (v:=(A7 (a+1))) (LN XC) jP .p3 r r r ⟨[.int .i64 (A7 (a+1))],r,.s⟩ (.nil' (Q5 r .n rf (.o [1,0,0,0] r) ⟨({ o0 with row:=(o0.row++([a0])),often:=(FC a0 (A7 (a+1)) o0.often) }:AZ),_,_,r,r,hd⟩)))
theorem XH {o0:AZ} {a0:AM} {Q:(Int×AZ)→Prop} (R12:gZ I ge11 a0) (hd:J0 o0 a0 Q) :
  Fun prog 152 #[.pointer (some ⟨b2,0,none⟩),.agg (JV a0 ge11)] I [pto b2 (.cells (BW o0 p3 c4 b8 b10) 213 (0,0)),OwnSl BQ 3 p3 c4 o0.row,OwnMap (Value.int .i64) BI true b8 o0.by_,OwnMap (Value.int .i64) BQ false b10 o0.often] (fun I_ v l=>∃ r p14 c15,v=.int .i64 r.1∧l=[pto b2 (.cells (BW r.2 p14 c15 b8 b10) 213 (0,0)),OwnSl BQ 3 p14 c15 r.2.row,OwnMap (Value.int .i64) BI true b8 r.2.by_,OwnMap (Value.int .i64) BQ false b10 r.2.often]∧Q r):=by
 refine Fun.en func152 ntmps152 r fun w0 M=>?_
 refine .sr (.bx r fun A=>?_)
 refine .kn 1 9 r (.seq (.block (.sk 1 r (.eqNilP aF r r r r (.kn 1 41 r (.condKF r r (.sk 1 r ?_)))))))
 have i:=P6 (I:=I) (b2:=b2) (p3:=p3) (c4:=c4) (b8:=b8) (b10:=b10) hd
 refine .callS (.f call157 r) (.o [1,1,1,1] r) i r r fun B C D d j=>?_
 obtain ⟨E,rfl,rfl,hd⟩:=j
 have R12:=d.u1 R12
 refine .rn 5 r (.kn 1 265 r (.condP r hd (fun m hd=>?_) fun m hd=>?_))
 · exact .sr (.kn 1 17 r (.drop .p4 (.q1 results152 d [0,0,0,0] r ⟨(9,o0),_,_,r,r,hd⟩)))
 refine .sn 9 r (.sr (.lw FL BR .p4 r ?_))
 have n:=gP R12 hd
 refine .call call219 r n r r fun F y p q=>?_
 obtain ⟨b,c,rfl,e,hd⟩:=q
 obtain ⟨s,R12⟩:=p.u2 d R12
 refine .sa BR .p4 r (.nk 9 3 r (.lo AP .z r (.ks 1 r (.s1 DN .p4 r (.no 9 r (.seq (.dr [0,1,2,3,4,5,6] 7 (.fk 3 r (.hl isAgg210 0 r ?_)))))))))
 refine .fk 1 r (.hl AP 4 r (.h r (fun _=>.lw FL BR .p4 r .mk) (.e2 7 (.updM (k:=o0.sent) (El:=BI) (ag:=true) (v:=({ b with Seq:=o0.sent }:AM)) (LN XC) underlying210 .p2 r r r ⟨[.int .i64 b.Kind,.int .i64 b.From,.int .i64 b.To,.int .i64 o0.sent,.int .i64 b.Round,.int .i64 b.Vec.N,.slice c.1.1 b.Vec.Items.length c.1.2,.slice c.2.1.1 b.Sums.length c.2.1.2,.slice c.2.2.1 b.Triples.length c.2.2.2,.int .i64 b.N,.bool b.Over],⟨c,r,e⟩,.a⟩ (.nk 9 2 r (.lo AP .p4 r ?_))))))
 have t:=QY (I:=y) (b2:=b2) (p3:=p3) (c4:=c4) (b8:=b8) (b10:=b10) hd
 refine .callS (.f call158 r) (.o [0,0,0,0] r) t r r fun G H J u w=>?_
 obtain ⟨g,K,L,rfl,rfl,hd⟩:=w
 obtain ⟨x,e⟩:=u.u2 s e
 exact .rn 5 r (.no 1 r (.drop .p4 (.sk 3 r (.lo AP .z r (.ks 3 r (.s1 DN .z r (.nk 1 1 r (.no 17 r (.q1 results152 x [0,0,0,0] r ⟨(0,({ g with sent:=A7 (g.sent+1) }:AZ)),_,_,r,r,hd⟩)))))))))
theorem XI {a0:AM} {Q:Int→Prop} (R2:gZ I ge1 a0) (hd:RW a0 Q) :
  Fun prog 152 #[.pointer none,.agg (JV a0 ge1)] I [] (fun I_ v l=>∃ r,v=.int .i64 r∧l=[]∧Q r):=by
 exact Fun.en func152 ntmps152 r fun w0 M=>.sr (.bx r fun a=>.kn 1 9 r (.seq (.block (.sk 1 r (.eqNilP aF r r r r (.kn 1 41 r (.condKT r r (.sr (.kn 1 16 r (.drop .z (.q1 results152 rf [] r ⟨10,r,r,hd⟩)))))))))))
theorem YW {o0:A8} {a0:Option Nat} {a1:AM} {Q:(Int×A8)→Prop} (R3:gZ I ge2 a1) (hd:NI o0 a0 a1 Q) :
  Fun prog 152 #[.pointer (eJ a0),.agg (JV a1 ge2)] I [AW AY o0] (fun I_ v l=>∃ r,v=.int .i64 r.1∧l=[AW AY r.2]∧Q r):=by
 rcases a0 with _ | b
 · have hd:=hd.1 r
   refine (Fun.frame (r:=[AW AY o0]) (XI R3 hd)).conseq fun I_ v l hle h=>?_
   obtain ⟨d,rfl,rr,rfl,rfl,hq⟩:=h
   exact ⟨(rr,o0),r,r,hq⟩
 obtain ⟨x,hx,hd⟩:=hd.2 b rfl
 refine Fun.bank hx (fun aa _=>XH (b2:=b) (p3:=aa.1) (c4:=aa.2.1) (b8:=aa.2.2.1) (b10:=aa.2.2.2) R3 hd) ?_
 rintro aa I_ v l hle ⟨rr,a,c,rfl,rfl,hq⟩
 exact ⟨(a,c,aa.2.2.1,aa.2.2.2),rr.2,[],r,tv,(rr.1,(b,rr.2) :: BO b o0),r,r,hq⟩
theorem L5 {o0:A3} {o1:A2} {o2:A8} {a0:Int} {Q:(Bool×A3×A2×A8)→Prop} (R6:UZ I gf5 o0) (hd:CW o0 o1 o2 a0 Q) :
  Fun prog 83 #[.pointer (some ⟨b4,0,none⟩),.int .i64 a0] I [pto b4 (.cells (AK o0 gf5 b8) 121 (0,0)),OwnMap CL D6 false b8 o0.boxes,AW A5 o1,AW AY o2] (fun I_ v l=>∃ r gf10,v=.bool r.1∧UZ I_ gf10 r.2.1∧l=[pto b4 (.cells (AK r.2.1 gf10 b8) 121 (0,0)),OwnMap CL D6 false b8 r.2.1.boxes,AW A5 r.2.2.1,AW AY r.2.2.2]∧Q r):=by
 refine Fun.en func83 ntmps83 r fun w0 M=>?_
 refine .sr (.kn 1 3 r (.seq (.sk 2 r ?_)))
 have V:=L4  (b3:=b4) (b7:=b8) R6 hd
 refine .callS (.f call29 r) (.o [0,0,0] r) V r r fun d8 d9 e0 p W=>?_
 obtain ⟨e1,rfl,rfl,hd⟩:=W
 have R6:=p.u1 R6
 refine .rn 4 r (.kn 1 515 r (.condP r hd (fun X hd=>?_) fun X hd=>?_))
 · exact .sr (.kn 1 17 r (.q1 results83 p [0,0,0,0] r ⟨(false,o0,o1,o2),gf5,r,R6,r,hd⟩))
 refine .sn 3 r (.sk 3 r (.lo isAgg119 .z r (.ks 1 r ?_)))
 obtain ⟨b2,e3,Y,e4,o38,b5,Z,hd⟩:=R6.2.2.ix hd
 refine .ixb QO sizeOf122 b5 b2 Y r (.ldb 0 K0 Z r (.kn 1 35 r (.seq (.seq ?_))))
 obtain ⟨q,a1,J,s,hd⟩:=hd
 refine .bankO .p2 s fun ⟨K,a2⟩ c=>?_
 refine .rn 6 r (.sub (E':=[(0,_),(1,_),(5,.pointer (some ⟨q,0,none⟩))]) ⟨r,r,(by rw [J]; rfl),tv⟩ (.dr [0,1,2,3,4,5,6,7,8,10,11,12,13,14,15,9,16,17] 18 (.fk 5 r (.hl EJ 0 r ?_))))
 obtain ⟨a3,c3,t,hd⟩:=hd
 obtain ⟨c4,o120,b6,a4,d,b9,rfl,j⟩:=c.2.1.2 _ _ t
 refine .h r (fun _=>.ixb DO BR a4 a3 t r .mk) (.fk 1 r (.h r (fun _=>.ldb 2 AP d r .mk) (.fk 3 r (.hl EJ 0 r ?_))))
 obtain ⟨A,c5,k,hd⟩:=hd
 obtain ⟨c6,o131,c0,C,b,c1,rfl,i⟩:=c.2.1.2 _ _ k
 refine .h r (fun _=>.ixb DO BR C A k r .mk) (.h r (fun _=>.ldW FL BR b r r r r .mk) (.ww r fun ex=>?_))
 have N:=E6  (b4:=b4) (b8:=b8) R6 hd
 refine .callS (.f call85 r) (.o [3,3,2,2] r) N r r fun c7 c8 c9 u e=>?_
 rcases e with e | e
 · obtain ⟨d0,c2,rfl,d1,rfl,hd⟩:=e; exact hd.elim
 obtain ⟨D,w,rfl,m,rfl,hd⟩:=e
 obtain ⟨O,R6,c,j,d,i⟩:=u.u6 p R6 c j d i
 have b:=u.u1 b
 refine .rx 6 r (.so 6 r r r (.ch r (fun _=>.ldW FL BR b r r r r .mk) (.ch r (fun _=>.ixb DO BR C A k r .mk) (.ch r (fun _=>.lo EJ .p4 r .mk) (.ck 3 r r tv)))) (.ww r fun ex=>?_))
 have P:=YW   i hd
 refine .callS (.f call152 r) (.o [3] r) P r r fun d2 d3 d4 x R=>?_
 obtain ⟨E,rfl,rfl,hd⟩:=R
 obtain ⟨y,c,j,d,i,b⟩:=x.u6 O c j d i b
 have m:=x.u1 m
 refine .rx 6 r (.so 6 r r r tv (.fk 1 r (.e2 18 (.bankB (B:=A5) (K,a2) a1 c s (.o [4,4,3] r) (.no 17179869217 r (.condP r hd (fun S hd=>?_) fun S hd=>?_))))))
 · exact .sr (.kn 1 17 r (.q1 results83 y [2,2,0,0] r ⟨(false,D.2.1,o1,E.2),w,r,m,r,hd⟩))
 refine .sn 33 r (.sk 2 r ?_)
 obtain ⟨d5,a,T,U,hd⟩:=hd
 obtain rfl:=Option.some.inj T
 refine .bankO .z U fun ⟨g,a5⟩ n=>?_
 refine .rn 6 r (.ks 2 r (.lo EJ .z r ?_))
 obtain ⟨a6,d6,d7,hd⟩:=hd
 have F:Int.toNat 1≤Int.toNat (a.out.length:Int):=by omega
 have G:Int.toNat (a.out.length:Int)≤a.out.length:=by omega
 obtain ⟨a7,a8,a9,b0,b1⟩:=RepSl.sliceW n.2.1 (Int.toNat 1) (Int.toNat (a.out.length:Int)) g.2.1.2 F G (.inl rfl)
 exact .sliceW (L:=Int.toNat 1) (H:=Int.toNat (a.out.length:Int)) (cm:=g.2.1.2) DO BR r r n.2.1.1 r r r (.inr ⟨_,_,r,a6,r⟩) (.inl ⟨r,r,r⟩) (.inl r) F G r a9 b0 r r (.ks 2 r (.s1 aH .z r (.bankC (B:=A5) ((g.1,(a7,a8),g.2.2),a5) ({ a with out:=((a.out.take (a.out.length:Int).toNat).drop (Int.toNat 1)) }:AF) ⟨n.1,b1,n.2.2⟩ (.o [0,0,0] r) (.nk 1 1 r (.no 17 r (.q1 results83 y [2,2,0,0] r ⟨(true,D.2.1,((q,({ a with out:=((a.out.take (a.out.length:Int).toNat).drop (Int.toNat 1)) }:AF)) :: (BO q o1)),E.2),w,r,m,r,hd⟩))))))
theorem N0 {a0:Int} {Q:Int→Prop} (hd:FG a0 Q) :
  Fun prog 156 #[.pointer none,.int .i64 a0] I [] (fun I_ v l=>∃ r,v=.int .i64 r∧l=[]∧Q r):=by
 exact Fun.en func156 ntmps156 r fun w0 M=>.sr (.kn 1 3 r (.seq (.block (.sk 1 r (.eqNilP aF r r r r (.kn 1 35 r (.condKT r r (.sr (.kn 1 16 r (.q1 results156 rf [] r ⟨10,r,r,hd⟩))))))))))
theorem P7 {a0:Int} {Q:(AM×Bool×Int)→Prop} (hd:J6 a0 Q) :
  Fun prog 153 #[.pointer none,.int .i64 a0] I [] (fun I_ v l=>∃ r ge1,v=.tuple #[.agg (JV r.1 ge1),.bool r.2.1,.int .i64 r.2.2]∧gZ I_ ge1 r.1∧l=[]∧Q r):=by
 refine Fun.en func153 ntmps153 r fun w0 M=>?_
 refine .sr (.al F0 r fun j=>?_)
 refine .kn 2 19 r (.seq (.sk 2 r ?_))
 have b:=N0 (I:=I)  hd
 refine .callS (.f call156 r) .n b r r fun g h i c d=>?_
 obtain ⟨e,rfl,rfl,hd⟩:=d
 refine .rn 1 r (.kn 1 147 r (.seq (.dr [0,1,2,3,4,5,6,7,8,9,10,11,12,13,14,15] 16 (.fk 3 r ?_))))
 refine FE hd (fun a hd=>?_) fun a hd=>?_
 · rw [a]
   exact .fk 13 r (.e2 16 (.no 134217875 r (.condKT r r (.sr (.bd F0 VV VS r (.ks 1 r (.sa BR .z r (.kn 2 112 r (.ret (JG r (.w FL BR r .z r (.t r (.t r .n))) c .n ⟨(({ Kind:=0,From:=0,To:=0,Seq:=0,Round:=0,Vec:=G0,Sums:=([]:List P9),Triples:=([]:List A1),N:=0,Over:=false }:AM),false,e),((_,_),(_,_),(_,_)),r,⟨(.nil _ none 0),(.nil _ none 0),(.nil _ none 0)⟩,r,hd⟩))))))))))
 rw [a]
 refine .fk 1 r ?_
 exact hd.elim
theorem N1 {o0:AZ} {a0:Int} {Q:Int→Prop} (hd:G7 o0 a0 Q) :
  Fun prog 156 #[.pointer (some ⟨b2,0,none⟩),.int .i64 a0] I [pto b2 (.cells (BW o0 p3 c4 b8 b10) 213 (0,0)),OwnSl BQ 3 p3 c4 o0.row,OwnMap (Value.int .i64) BI true b8 o0.by_,OwnMap (Value.int .i64) BQ false b10 o0.often] (fun I_ v l=>∃ r,v=.int .i64 r∧l=[pto b2 (.cells (BW o0 p3 c4 b8 b10) 213 (0,0)),OwnSl BQ 3 p3 c4 o0.row,OwnMap (Value.int .i64) BI true b8 o0.by_,OwnMap (Value.int .i64) BQ false b10 o0.often]∧Q r):=by
 refine Fun.en func156 ntmps156 r fun w0 M=>.sr (.kn 1 3 r (.seq (.block (.sk 1 r (.eqNilP aF r r r r (.kn 1 35 r (.condKF r r (.sk 3 r (.spl hd [10,11] r (fun a hd=>?_) fun a hd=>?_)))))))))
 · exact .kn 9 257 r (.condKT r r (.sr (.kn 1 17 r (.q1 results156 rf [0,0,0,0] r ⟨3,r,r,hd⟩))))
 refine .ks 4 r (.yes r (.lo DY .z r (.yes r (.ln BP r (.kn 3 257 r (.condP r hd (fun b hd=>?_) fun b hd=>?_))))))
 · exact .sr (.kn 1 17 r (.q1 results156 rf [0,0,0,0] r ⟨3,r,r,hd⟩))
 exact .sn 1 r (.sr (.kn 1 17 r (.q1 results156 rf [0,0,0,0] r ⟨0,r,r,hd⟩)))
theorem JE {o0:List Int} {a0 a1:Int} {Q:(List Int)→Prop} (hd:DK o0 a0 a1 Q) :
  Fun prog 159 #[.slice p2 o0.length c3,.int .i64 a0,.int .i64 a1] I [OwnSl BQ 3 p2 c3 o0] (fun I_ v l=>∃ r,v=.slice p2 r.length c3∧l=[OwnSl BQ 3 p2 c3 r]∧Q r):=by
 refine Fun.en func159 ntmps159 r fun w0 M=>.ownCap .z fun a=>.sk 1 r (.nk 7 4 r (.ln BP r ?_))
 obtain ⟨i,c,j,hd⟩:=hd
 refine .sliceOm BP DN r r r r i c (by omega) (by omega) r r fun k=>.no 7 r (.seq (.sr (.kn 3 65543 r (.condP r hd (fun b hd=>?_) fun b hd=>?_))))
 · exact .sr (.kn 2 65 r (.q1 results159 rf [0] r ⟨o0,r,r,hd⟩))
 refine .sn 7 r (.sk 1 r (.ln BP r (.kn 1 135 r (.seq (.dr [0,1,2,3,4,5,6] 7 (.fk 2 r ?_))))))
 obtain ⟨m,n,o,hd⟩:=hd
 refine .h r (fun _=>.sliceO (L:=0) (H:=a0.toNat) BP DN r r .z r r (.inl ⟨r,r⟩) (.inr ⟨_,_,r,(by omega),r⟩) (by omega) (by omega) r r .mk) (.fk 2 r ?_)
 obtain ⟨d,p,q,hd⟩:=hd
 refine .h r (fun _=>.sliceO (L:=a1.toNat) (H:=o0.length) BP DN r r .z r r (.inr ⟨_,_,r,d,r⟩) (.inl ⟨r,r⟩) (by omega) (by omega) r r .mk) (.ww r fun ex=>?_)
 have e:a0.toNat≤a1.toNat:=by omega
 have f:a1.toNat≤o0.length:=by omega
 refine .appendDel (L:=a0.toNat) (H:=a1.toNat) 8 .z BP IN3 r r r r r r r (uP _ _ _) (Nat.sub_zero _) (Nat.sub_zero _) r e f r r (.so 1 r r r tv (.e2 7 (.ks 1 r (.nk 129 2 r (.ln BP r (.ks 1 r ?_))))))
 have g:(o0.take a0.toNat++o0.drop a1.toNat).length≤(o0.length:Int).toNat:=by simp only [List.length_append,List.length_take,List.length_drop]; omega
 exact .sliceTail (L:=(o0.take a0.toNat++o0.drop a1.toNat).length) (N:=(o0.length:Int).toNat) BP DN r r r (by omega) r (by omega) r g (by omega) r r (.clearTail .z BP IN3 r r r r r r r a (.nk 1 2 r (.no 65 r (.q1 results159 rf [0] r ⟨(o0.take a0.toNat++o0.drop a1.toNat),r,r,hd⟩))))
theorem YX {o0:AZ} {a0:Int} {Q:(AM×AZ)→Prop} (hd:K9 o0 a0 Q) :
  Fun prog 220 #[.pointer (some ⟨b2,0,none⟩),.int .i64 a0] I [pto b2 (.cells (BW o0 p3 c4 b8 b10) 213 (0,0)),OwnSl BQ 3 p3 c4 o0.row,OwnMap (Value.int .i64) BI true b8 o0.by_,OwnMap (Value.int .i64) BQ false b10 o0.often] (fun I_ v l=>∃ r ge20 p12 c13,v=.agg (JV r.1 ge20)∧gZ I_ ge20 r.1∧l=[pto b2 (.cells (BW r.2 p12 c13 b8 b10) 213 (0,0)),OwnSl BQ 3 p12 c13 r.2.row,OwnMap (Value.int .i64) BI true b8 r.2.by_,OwnMap (Value.int .i64) BQ false b10 r.2.often]∧Q r):=by
 refine Fun.en func220 ntmps220 r fun w0 M=>?_
 refine .sr (.al F0 r fun K=>?_)
 refine .nk 19 3 r (.lo DY .p1 r (.ks 1 r ?_))
 obtain ⟨i,b,c,hd⟩:=hd
 refine .ownNe .p2 (CE c) fun E F=>?_
 cases F
 refine .ixa0 BP DN r r i (BD c i) r r (.lo1 (j:=0) AP .p2 c r r r r r (.ks 1 r (.nk 51 3 r (.lo isAgg210 .p1 r (.ks 1 r (.lookM (k:=b) (El:=BI) (ag:=true) (zv:=.agg #[.int .i64 0,.int .i64 0,.int .i64 0,.int .i64 0,.int .i64 0,.int .i64 0,.slice none 0 0,.slice none 0 0,.slice none 0 0,.int .i64 0,.bool false]) (z:=({ Kind:=0,From:=0,To:=0,Seq:=0,Round:=0,Vec:=G0,Sums:=([]:List P9),Triples:=([]:List A1),N:=0,Over:=false }:AM)) (LN XC) underlying210 F0 ⟨[.int .i64 0,.int .i64 0,.int .i64 0,.int .i64 0,.int .i64 0,.int .i64 0,.slice none 0 0,.slice none 0 0,.slice none 0 0,.int .i64 0,.bool false],⟨((_,_),(_,_),(_,_)),r,⟨(.nil _ _ _),(.nil _ _ _),(.nil _ _ _)⟩⟩,.a⟩ .p3 r r hd r r fun L m G hd q t=>?_))))))
 obtain ⟨h,rfl,e⟩:=q
 cases t
 refine .al F0 r fun O=>?_
 refine .sa BR .z r (.nk 115 4 r (.lo DY .p2 r (.ks 3 r ?_)))
 have u:=JE (I:=I) (p2:=some ⟨E,0,none⟩) (c3:=c4) hd
 refine .callS (.f call159 r) (.o [3] r) u r r fun P R S d x=>?_
 obtain ⟨p,rfl,rfl,hd⟩:=x
 have e:=d.u1 e
 refine .rn 6 r (.ks 2 r (.s1 yZ .p3 r (.no 113 r (.seq (.sk 3 r (.lo isAgg211 .p3 r (.ks 1 r (.lookM (k:=b) (El:=BQ) (ag:=false) (zv:=.int .i64 0) (z:=0) (LN XC) jP qJ ⟨[.int .i64 0],r,.s⟩ .p5 r r hd r r fun T g H hd y A=>?_))))))))
 cases y
 cases A
 refine .ks 1 r (.updM (k:=b) (El:=BQ) (ag:=false) (v:=(A7 (g - 1))) (LN XC) jP .p5 r r r ⟨[.int .i64 (A7 (g - 1))],r,.s⟩ (.nk 113 3 r (.lo isAgg211 .p3 r (.ks 1 r (.lookM (k:=b) (El:=BQ) (ag:=false) (zv:=.int .i64 0) (z:=0) (LN XC) jP qJ ⟨[.int .i64 0],r,.s⟩ .p5 r r hd r r fun U V J hd B C=>?_)))))
 cases B
 cases C
 refine .kn 1 17592186044529 r (.condP r hd (fun D hd=>?_) fun D hd=>?_)
 · refine .sk 3 r (.lo isAgg211 .p3 r (.ks 1 r (.delM (k:=b) (LN XC) jP r .p5 r r (.no 113 r (.region (.ks 3 r (.lo isAgg210 .p3 r (.ks 1 r (.delM (k:=b) (LN XC) underlying210 r .p4 r r ?_)))))))))
   exact .ns 81 r (.lw FL BR .p1 r (.sa BR .p2 r (.no 17 r (.drop .p1 (.ret (JG r (.w FL BR r .p1 r .n) d (.o [2,0,1,1] r) ⟨(m,({ o0 with row:=p,by_:=(BO b o0.by_),often:=(BO b (FC b (A7 (g - 1)) o0.often)) }:AZ)),h,_,_,r,e,r,hd⟩))))))
 exact .sn 81 r (.sr (.lw FL BR .p1 r (.sa BR .p2 r (.no 17 r (.drop .p1 (.ret (JG r (.w FL BR r .p1 r .n) d (.o [2,0,1,1] r) ⟨(m,({ o0 with row:=p,often:=(FC b (A7 (g - 1)) o0.often) }:AZ)),h,_,_,r,e,r,hd⟩)))))))
theorem XJ {o0:AZ} {a0:Int} {Q:(AM×Bool×Int×AZ)→Prop} (hd:J7 o0 a0 Q) :
  Fun prog 153 #[.pointer (some ⟨b2,0,none⟩),.int .i64 a0] I [pto b2 (.cells (BW o0 p3 c4 b8 b10) 213 (0,0)),OwnSl BQ 3 p3 c4 o0.row,OwnMap (Value.int .i64) BI true b8 o0.by_,OwnMap (Value.int .i64) BQ false b10 o0.often] (fun I_ v l=>∃ r ge20 p12 c13,v=.tuple #[.agg (JV r.1 ge20),.bool r.2.1,.int .i64 r.2.2.1]∧gZ I_ ge20 r.1∧l=[pto b2 (.cells (BW r.2.2.2 p12 c13 b8 b10) 213 (0,0)),OwnSl BQ 3 p12 c13 r.2.2.2.row,OwnMap (Value.int .i64) BI true b8 r.2.2.2.by_,OwnMap (Value.int .i64) BQ false b10 r.2.2.2.often]∧Q r):=by
 refine Fun.en func153 ntmps153 r fun w0 M=>?_
 refine .sr (.al F0 r fun T=>?_)
 refine .kn 2 19 r (.seq (.sk 2 r ?_))
 have A:=N1 (I:=I) (b2:=b2) (p3:=p3) (c4:=c4) (b8:=b8) (b10:=b10) hd
 refine .callS (.f call156 r) (.o [1,1,1,1] r) A r r fun U J V b B=>?_
 obtain ⟨x,rfl,rfl,hd⟩:=B
 refine .rn 5 r (.kn 1 147 r (.seq (.ownF .p1 fun i=>?_)))
 refine .dr [0,1,2,3,4,5,6,7,8,9,10,11,12,13,14,15] 16 (.fk 3 r ?_)
 refine FE hd (fun c hd=>?_) fun c hd=>?_
 · rw [c]
   exact .fk 13 r (.e2 16 (.no 134217875 r (.condKT r r (.sr (.bd F0 VV VS r (.ks 1 r (.sa BR .p4 r (.kn 2 113 r (.ret (JG r (.w FL BR r .p4 r (.t r (.t r .n))) b (.o [0,0,0,0] r) ⟨(({ Kind:=0,From:=0,To:=0,Seq:=0,Round:=0,Vec:=G0,Sums:=([]:List P9),Triples:=([]:List A1),N:=0,Over:=false }:AM),false,x,o0),((_,_),(_,_),(_,_)),_,_,r,⟨(.nil _ none 0),(.nil _ none 0),(.nil _ none 0)⟩,r,hd⟩))))))))))
 rw [c]
 refine .fk 3 r (.h r (fun _=>.yes r (.lo DY .z r .mk)) (.fk 1 r ?_))
 obtain ⟨y,W,d,hd⟩:=hd
 obtain ⟨K,L⟩:=i (CE d)
 cases L
 refine .h r (fun _=>.yes r (.ixa0 BP DN r r y (BD d y) r r .mk)) (.h r (fun _=>.yes r (.lo1 (j:=0) AP .p1 d r r r r r .mk)) (.fk 3 r (.h r (fun _=>.yes r (.lo AP .z r .mk)) (.fk 2 r (.e2 16 (.no 134217875 r (.condP r hd (fun C hd=>?_) fun C hd=>?_)))))))
 · exact .sr (.bd F0 VV VS r (.ks 1 r (.sa BR .p4 r (.kn 2 113 r (.ret (JG r (.w FL BR r .p4 r (.t r (.t r .n))) b (.o [0,0,0,0] r) ⟨(({ Kind:=0,From:=0,To:=0,Seq:=0,Round:=0,Vec:=G0,Sums:=([]:List P9),Triples:=([]:List A1),N:=0,Over:=false }:AM),false,x,o0),((_,_),(_,_),(_,_)),_,_,r,⟨(.nil _ none 0),(.nil _ none 0),(.nil _ none 0)⟩,r,hd⟩))))))
 refine .sn 19 r (.sk 2 r ?_)
 have D:=YX (I:=J) (b2:=b2) (p3:=some ⟨K,0,none⟩) (c4:=c4) (b8:=b8) (b10:=b10) hd
 refine .callS (.f call220 r) (.o [0,0,0,0] r) D r r fun X Y Z E F=>?_
 obtain ⟨a,O,a1,a2,rfl,g,rfl,hd⟩:=F
 have e:=E.u1 b
 refine .rn 5 r (.al F0 r fun P=>?_)
 refine .sa BR .z r (.no 273 r (.seq (.seq (.dr [0,1,2,3,4,5,6] 7 (.fk 1 r (.hl AP 0 r (.fk 3 r (.hl AP 1 r (.fk 1 r ?_)))))))))
 refine .e2 7 (.no 549755814161 r (.condP r hd (fun k hd=>?_) fun k hd=>?_))
 · exact .sr (.bd F0 VV VS r (.sa BR .p5 r (.kn 2 113 r (.drop .z (.ret (JG r (.w FL BR r .p4 r (.t r (.t r .n))) e (.o [0,0,0,0] r) ⟨(({ Kind:=0,From:=0,To:=0,Seq:=0,Round:=0,Vec:=G0,Sums:=([]:List P9),Triples:=([]:List A1),N:=0,Over:=false }:AM),false,0,a.2),((_,_),(_,_),(_,_)),_,_,r,⟨(.nil _ none 0),(.nil _ none 0),(.nil _ none 0)⟩,r,hd⟩))))))
 refine .sn 273 r (.sk 3 r (.lo AP .p1 r (.ks 3 r (.s1 DN .p1 r (.ns 273 r (.lw FL BR .z r ?_))))))
 have m:=gP g hd
 refine .call call219 r m r r fun R S p q=>?_
 obtain ⟨G,s,rfl,H,hd⟩:=q
 obtain ⟨u,g⟩:=p.u2 e g
 exact .sa BR .p5 r (.kn 2 113 r (.drop .z (.ret (JG r (.w FL BR r .p4 r (.t r (.t r .n))) u (.o [0,0,0,0] r) ⟨(G,true,0,({ room:=a.2.room,row:=a.2.row,by_:=a.2.by_,often:=a.2.often,sent:=a.2.sent,taken:=A7 (a.2.taken+1) }:AZ)),s,_,_,r,H,r,hd⟩))))
theorem YY {o0:A8} {a0:Option Nat} {a1:Int} {Q:(AM×Bool×Int×A8)→Prop} (hd:NJ o0 a0 a1 Q) :
  Fun prog 153 #[.pointer (eJ a0),.int .i64 a1] I [AW AY o0] (fun I_ v l=>∃ r ge2,v=.tuple #[.agg (JV r.1 ge2),.bool r.2.1,.int .i64 r.2.2.1]∧gZ I_ ge2 r.1∧l=[AW AY r.2.2.2]∧Q r):=by
 rcases a0 with _ | b
 · have hd:=hd.1 r
   refine (Fun.frame (r:=[AW AY o0]) (P7  hd)).conseq fun I_ v l hle h=>?_
   obtain ⟨e,rfl,rr,ge2,rfl,a,rfl,hq⟩:=h
   exact ⟨(rr.1,rr.2.1,rr.2.2,o0),ge2,r,a,r,hq⟩
 obtain ⟨x,hx,hd⟩:=hd.2 b rfl
 refine Fun.bank hx (fun aa _=>XJ (b2:=b) (p3:=aa.1) (c4:=aa.2.1) (b8:=aa.2.2.1) (b10:=aa.2.2.2)  hd) ?_
 rintro aa I_ v l hle ⟨rr,ge2,c,d,rfl,a,rfl,hq⟩
 exact ⟨(c,d,aa.2.2.1,aa.2.2.2),rr.2.2.2,[],r,tv,(rr.1,rr.2.1,rr.2.2.1,(b,rr.2.2.2) :: BO b o0),ge2,r,a,r,hq⟩
theorem PL {o0:A3} {o1:A2} {a0:Option Nat} {Q:(Bool×A2)→Prop} (R5:UZ I gf4 o0) (hd:DL o0 o1 a0 Q) :
  Fun prog 154 #[.pointer (some ⟨b3,0,none⟩),.pointer (eJ a0)] I [pto b3 (.cells (AK o0 gf4 b7) 121 (0,0)),OwnMap CL D6 false b7 o0.boxes,AW A5 o1] (fun I_ v l=>∃ r,v=.bool r.1∧l=[pto b3 (.cells (AK o0 gf4 b7) 121 (0,0)),OwnMap CL D6 false b7 o0.boxes,AW A5 r.2]∧Q r):=by
 refine Fun.en func154 ntmps154 r fun w0 M=>?_
 refine .sr (.kn 1 3 r (.seq (.seq ?_)))
 obtain ⟨d,h7,d9,H,hd⟩:=hd
 refine .bankO .p2 H fun ⟨e0,h8⟩ h9=>?_
 refine .rn 5 r (.sub (E':=[(0,_),(1,.pointer (some ⟨d,0,none⟩))]) ⟨r,(by rw [d9]; rfl),tv⟩ (.dr [0,1,2,3,4,5,6,7,8,9] 10 (.fk 3 r (.hl AP 0 r (.fk 3 r (.hl KZ 3 r (.h r (fun _=>.ln HJ r .mk) (.fk 1 r (.e2 10 ?_)))))))))
 refine .bankB (B:=A5) (e0,h8) h7 h9 H (.o [0,0,0] r) (.no 134217731 r (.condP r hd (fun e1 hd=>?_) fun e1 hd=>?_))
 · exact .sr (.kn 1 17 r (.q1 results154 rf [1,1,0] r ⟨(false,o1),r,r,hd⟩))
 refine .sn 3 r (.seq ?_)
 obtain ⟨m1,e,e3,J,hd⟩:=hd
 obtain rfl:=Option.some.inj e3
 refine .bankO .z J fun ⟨e4,i0⟩ i1=>?_
 refine .rn 5 r (.dr [0,1,2,3,4,5,6,7,8,9,10,11,999,12] 13 (.fk 3 r (.hl AP 0 r (.h r (fun _=>.bd dH jO jG r .mk) (.fk 3 r (.hl AP 0 r (.h r (fun _=>.bd dH jO jG r .mk) (.a (fun b=>.pointer (some ⟨b,0,none⟩)) (fun b=>pto b (.cells #[.int .i64 0,.int .i64 0] 206 (0,0))) r r r r (fun _ L hL ex=>.al dH r fun b=>.mk (val:=fun b=>.pointer (some ⟨b,0,none⟩)) (atom:=fun b=>pto b (.cells #[.int .i64 0,.int .i64 0] 206 (0,0))) hL b) (.ww r fun ex=>?_)))))))))
 refine .al dH r fun m2=>?_
 refine .so 6 r r r (.ch r (fun _=>.bd dH jO jG r .mk) (.ch r (fun _=>.lo AP .p1 r .mk) (.ck 3 r r (.ch r (fun _=>.bd dH jO jG r .mk) (.ch r (fun _=>.lo AP .p1 r .mk) (.ck 3 r r tv)))))) (.b r fun m3=>DrawD.nop ?_)
 refine .ww r fun ex=>?_
 refine .sa sizeOf206 .p6 r (.sn 7 r r r (.ch r (fun _=>.bd dH jO jG r .mk) (.ch r (fun _=>.lo AP .p1 r .mk) (.ck 3 r r tv))) (.e2 13 (.sa sizeOf206 .z r (.bankB (B:=A5) (e4,i0) e i1 J (.o [1,1,1] r) (.no 99 r (.seq ?_))))))
 obtain ⟨m4,i2,e5,K,hd⟩:=hd
 obtain rfl:=Option.some.inj e5
 refine .bankO .z K fun ⟨e6,i3⟩ i4=>?_
 refine .rn 7 r (.dr [0,1,2,3,4,5,6,7,8,9] 10 (.fk 3 r (.hl isAgg124 0 r (.h r (fun _=>.lw isAgg206 sizeOf206 .p6 r .mk) (.ww r fun ex=>?_)))))
 refine .lookM2 (k:=({ kind:=6,stage:=e.at_ }:BE)) (El:=(JI B5)) (ag:=false) (zv:=.slice none 0 0) (z:=([]:List A1)) pA underlying124 zeroValue54 ⟨[.slice none 0 0],⟨_,_,r,.nil _ _ _⟩,.s⟩ .p1 r r hd r r fun m5 m6 m7 i8 hd e7 e8=>?_
 obtain ⟨m8,m9,rfl,N⟩:=e7
 cases e8
 refine .so 7 r r r tv (.fk 4 r (.e2 10 (.ks 1 r (.bankB (B:=A5) (e6,i3) i2 i4 K (.o [0,0,0] r) (.no 483 r (.seq ?_))))))
 obtain ⟨i9,e9,R,A,hd⟩:=hd
 obtain rfl:=Option.some.inj R
 refine .bankO .z A fun ⟨S,f0⟩ f1=>?_
 refine .rn 7 r (.dr [0,1,2,3,4,5,6,7,8,9] 10 (.fk 3 r (.hl isAgg124 0 r (.h r (fun _=>.lw isAgg206 sizeOf206 .p3 r .mk) (.ww r fun ex=>?_)))))
 refine .lookM2 (k:=({ kind:=7,stage:=e.at_ }:BE)) (El:=(JI B5)) (ag:=false) (zv:=.slice none 0 0) (z:=([]:List A1)) pA underlying124 zeroValue54 ⟨[.slice none 0 0],⟨_,_,r,.nil _ _ _⟩,.s⟩ .p1 r r hd r r fun j0 j1 j2 i5 hd T U=>?_
 obtain ⟨j3,j4,rfl,g⟩:=T
 cases U
 refine .so 7 r r r tv (.fk 4 r (.e2 10 (.ks 1 r (.bankB (B:=A5) (S,f0) e9 f1 A (.o [0,0,0] r) (.no 2019 r (.seq (.sk 3 r (.spl hd [57,58] r (fun V hd=>?_) fun V hd=>?_))))))))
 · exact .kn 3 2305843009213694691 r (.condKT r r (.sr (.kn 1 17 r (.drop .p1 (.drop .p3 (.q1 results154 rf [1,1,0] r ⟨(false,o1),r,r,hd⟩))))))
 refine .kn 3 2305843009213694691 r (.condP r hd (fun W hd=>?_) fun W hd=>?_)
 · exact .sr (.kn 1 17 r (.drop .p1 (.drop .p3 (.q1 results154 rf [1,1,0] r ⟨(false,o1),r,r,hd⟩))))
 refine .sn 739 r (.seq ?_)
 obtain ⟨j5,f2,X,C,hd⟩:=hd
 obtain rfl:=Option.some.inj X
 refine .bankO .z C fun ⟨Y,f3⟩ f4=>?_
 refine .rn 7 r (.dr [0,1,2,3,4,5,6,7,8,9,10,11,12,13,14,15,16,17,18,19,20,21,22] 23 (.fk 3 r (.hl KZ 4 r (.fk 3 r (.hl AP 0 r ?_)))))
 obtain ⟨f5,j6,Z,j7,o170,f6,a1,hd⟩:=R5.2.1.ix hd
 refine .h r (fun _=>.ixb HJ P5 f6 f5 Z r .mk) (.fk 1 r (.h r (fun _=>.ldb 1 AP a1 r .mk) (.fk 3 r (.hl KZ 4 r (.fk 3 r (.hl AP 0 r ?_))))))
 obtain ⟨f7,j8,a2,j9,o179,f8,a3,hd⟩:=R5.2.1.ix hd
 refine .h r (fun _=>.ixb HJ P5 f8 f7 a2 r .mk) (.fk 1 r (.h r (fun _=>.ldb 0 AP a3 r .mk) (.fk 1 r (.e2 23 (.ks 1 r (.bankB (B:=A5) (Y,f3) f2 f4 C (.o [0,0,0] r) (.no 2787 r (.seq ?_))))))))
 obtain ⟨k0,f9,a4,D,hd⟩:=hd
 obtain rfl:=Option.some.inj a4
 refine .bankO .z D fun ⟨a5,g0⟩ u=>?_
 refine .rn 7 r (.dr [0,1,2,3,4,5,6,7,8,9,10,11,16,12,13,14,15,999,17] 18 (.fk 4 r (.hl RL 4 r (.fk 4 r (.hl AP 0 r (.fk 2 r (.a (fun b=>.pointer (some ⟨b,0,none⟩)) (fun b=>pto b (.cells #[.int .i64 0,.int .i64 0,.slice none 0 0,.slice none 0 0,.slice none 0 0] 33 (0,0))) r r r r (fun _ L hL ex=>.al CF r fun b=>.mk (val:=fun b=>.pointer (some ⟨b,0,none⟩)) (atom:=fun b=>pto b (.cells #[.int .i64 0,.int .i64 0,.slice none 0 0,.slice none 0 0,.slice none 0 0] 33 (0,0))) hL b) (.ww r fun ex=>?_))))))))
 have a6:=gT N hd
 refine .call call208 r a6 r r fun k1 k2 E a7=>?_
 obtain ⟨k3,i6,rfl,i,hd⟩:=a7
 obtain ⟨R5,N,g,u⟩:=E.u4 R5 N g u
 refine .so 7 r r r tv (.fk 3 r (.b r fun k4=>DrawD.nop ?_))
 refine .ww r fun ex=>?_
 refine .sa AE .p7 r (.sn 8 r r r (.ck 1 r r tv) (.e2 18 (.ks 1 r (.bankB (B:=A5) (a5,g0) f9 u D (.o [0,0,0] r) (.no 6755 r (.seq ?_))))))
 obtain ⟨k5,g1,a8,F,hd⟩:=hd
 obtain rfl:=Option.some.inj a8
 refine .bankO .z F fun ⟨a9,g2⟩ w=>?_
 refine .rn 8 r (.dr [0,1,2,3,4,5,6,7,8,9,10,11,16,12,13,14,15,999,17] 18 (.fk 4 r (.hl RL 4 r (.fk 5 r (.hl AP 0 r (.fk 1 r (.a (fun b=>.pointer (some ⟨b,0,none⟩)) (fun b=>pto b (.cells #[.int .i64 0,.int .i64 0,.slice none 0 0,.slice none 0 0,.slice none 0 0] 33 (0,0))) r r r r (fun _ L hL ex=>.al CF r fun b=>.mk (val:=fun b=>.pointer (some ⟨b,0,none⟩)) (atom:=fun b=>pto b (.cells #[.int .i64 0,.int .i64 0,.slice none 0 0,.slice none 0 0,.slice none 0 0] 33 (0,0))) hL b) (.ww r fun ex=>?_))))))))
 have b0:=gT g hd
 refine .call call208 r b0 r r fun k6 k7 b1 b2=>?_
 obtain ⟨k8,i7,rfl,x,hd⟩:=b2
 obtain ⟨b4,R5,g,i,w⟩:=b1.u5 E R5 g i w
 refine .so 8 r r r tv (.fk 3 r (.b r fun k9=>DrawD.nop ?_))
 refine .ww r fun ex=>?_
 refine .sa AE .p8 r (.sn 9 r r r (.ck 1 r r tv) (.e2 18 (.ks 1 r (.bankB (B:=A5) (a9,g2) g1 w F (.o [0,0,0] r) (.no 20579 r (.seq ?_))))))
 obtain ⟨l0,g3,b5,G,hd⟩:=hd
 obtain rfl:=Option.some.inj b5
 refine .bankO .z G fun ⟨b6,g4⟩ m=>?_
 refine .rn 9 r (.dr [0,1,2,3,4,5,6,7,8,9,10,11,12,13,14,15] 16 (.fk 4 r (.hl RL 4 r (.h r (fun _=>.lw B6 AE .p7 r .mk) (.h r (fun _=>.lw B6 AE .p8 r .mk) (.fk 3 r (.h r (fun _=>.loadA B6 AE r .z (.o 5 r) r r r .mk) (.ww r fun ex=>?_))))))))
 have b8:=mU i x m.1 hd
 refine .call call221 r b8 r r fun l1 l2 b9 c0=>?_
 obtain ⟨O,g5,g6,rfl,j,hd⟩:=c0
 obtain ⟨c1,R5,i,x,m⟩:=b9.u5 b4 R5 i x m
 refine .so 9 r r r tv (.fk 4 r (.e2 16 (.ks 1 r (.bankB (B:=A5) (b6,g4) g3 m G (.o [0,0,0] r) (.no 65635 r (.drop .p5 (.drop .p5 (.seq ?_))))))))
 obtain ⟨l3,n,c2,c3,hd⟩:=hd
 obtain rfl:=Option.some.inj c2
 refine .bankO .z c3 fun ⟨f,g7⟩ c=>?_
 refine .rn 7 r (.dr [0,1,2,3,4,5,6,7,8,9,10,11,12,13,14,15,16,17,18] 19 (.fk 5 r (.hl RL 4 r (.fk 3 r (.hl isAgg76 0 r (.fk 1 r (.ww r fun ex=>?_)))))))
 refine .bs 2 P4 fV zeroValue76 r fun l4=>?_
 refine .so 8 r r r (.ch r (fun _=>.lo RL .p5 r .mk) (.ck 5 r r tv)) (.ww r fun ex=>?_)
 refine .pubB (El:=(JI BL)) (ys:=([n.has,O.1]:List (List AB))) (k:=2) .z (RepCs.cons (cs:=[.slice f.2.2.1 n.has.length f.2.2.2]) ⟨_,_,r,c.2.2⟩ (RepCs.cons (cs:=[.slice g5 O.1.length g6]) ⟨_,_,r,j⟩ .nil)) r fun l5 c4 y=>?_
 obtain ⟨c5,R5,j,c⟩:=c4.u4 c1 R5 j c
 have c6:=mV y hd
 refine .call call222 r c6 r r fun l6 l7 c7 c8=>?_
 obtain ⟨P,g8,g9,rfl,h0,hd⟩:=c8
 obtain ⟨c9,R5,j,c,y⟩:=c7.u5 c5 R5 j c y
 refine .so 7 r r r (.ck 1 r r tv) (.fk 5 r (.ww r fun ex=>?_))
 refine .s1 fV .z r (.sn 7 r r r (.ck 1 r r tv) (.e2 19 (.bankC (B:=A5) ((f.1,f.2.1,(g8,g9)),g7) ({ n with has:=P.1 }:AF) ⟨c.1,c.2.1,h0⟩ (.o [0,0,0] r) (.no 99 r (.seq ?_)))))
 obtain ⟨l8,p,d0,d1,hd⟩:=hd
 obtain rfl:=Option.some.inj d0
 refine .bankO .z d1 fun ⟨d2,h1⟩ h2=>?_
 refine .rn 7 r (.dr [0,1,2,3,4,5] 6 (.fk 3 r (.hl isAgg124 0 r (.h r (fun _=>.lw isAgg206 sizeOf206 .p6 r .mk) (.ww r fun ex=>?_)))))
 refine .delM (k:=({ kind:=6,stage:=e.at_ }:BE)) pA underlying124 r .p1 r r (.sn 7 r r r tv (.e2 6 (.bankC (B:=A5) (d2,h1) ({ p with parts:=(BO ({ kind:=6,stage:=e.at_ }:BE) p.parts) }:AF) h2 (.o [0,0,0] r) (.no 67 r (.drop .p4 (.seq ?_))))))
 obtain ⟨l9,q,d3,d4,hd⟩:=hd
 obtain rfl:=Option.some.inj d3
 refine .bankO .z d4 fun ⟨d5,h3⟩ h4=>?_
 refine .rn 6 r (.dr [0,1,2,3,4,5] 6 (.fk 3 r (.hl isAgg124 0 r (.h r (fun _=>.lw isAgg206 sizeOf206 .p3 r .mk) (.ww r fun ex=>?_)))))
 refine .delM (k:=({ kind:=7,stage:=e.at_ }:BE)) pA underlying124 r .p1 r r (.sn 6 r r r tv (.e2 6 (.bankC (B:=A5) (d5,h3) ({ q with parts:=(BO ({ kind:=7,stage:=e.at_ }:BE) q.parts) }:AF) h4 (.o [0,0,0] r) (.no 3 r (.drop .p1 (.sk 1 r ?_))))))
 obtain ⟨m0,t,d6,d7,hd⟩:=hd
 obtain rfl:=Option.some.inj d6
 refine .bankO .z d7 fun ⟨d8,h5⟩ h6=>?_
 exact .rn 5 r (.ks 2 r (.lo AP .z r (.ks 3 r (.s1 DN .z r (.bankC (B:=A5) (d8,h5) ({ t with at_:=A7 (t.at_+1) }:AF) h6 (.o [0,0,0] r) (.nk 1 1 r (.no 17 r (.q1 results154 c9 [1,1,0] r ⟨(true,((d,({ t with at_:=A7 (t.at_+1) }:AF)) :: (BO d ((d,({ q with parts:=(BO ({ kind:=7,stage:=e.at_ }:BE) q.parts) }:AF)) :: (BO d ((d,({ p with parts:=(BO ({ kind:=6,stage:=e.at_ }:BE) p.parts) }:AF)) :: (BO d ((d,({ n with has:=P.1 }:AF)) :: (BO d o1))))))))),r,r,hd⟩))))))))
theorem L6 {o0:A3} {o1:A2} {o2:A8} {a0 a1 a2:Int} {Q:(Bool×A3×A2×A8)→Prop} (R6:UZ I gf5 o0) (hd:CX o0 o1 o2 a0 a1 a2 Q) :
  Fun prog 84 #[.pointer (some ⟨b4,0,none⟩),.int .i64 a0,.int .i64 a1,.int .i64 a2] I [pto b4 (.cells (AK o0 gf5 b8) 121 (0,0)),OwnMap CL D6 false b8 o0.boxes,AW A5 o1,AW AY o2] (fun I_ v l=>∃ r gf10,v=.bool r.1∧UZ I_ gf10 r.2.1∧l=[pto b4 (.cells (AK r.2.1 gf10 b8) 121 (0,0)),OwnMap CL D6 false b8 r.2.1.boxes,AW A5 r.2.2.1,AW AY r.2.2.2]∧Q r):=by
 refine Fun.en func84 ntmps84 r fun w0 M=>?_
 refine .sk 1 r (.nk 15 3 r ?_)
 have A:=E6  (b4:=b4) (b8:=b8) R6 hd
 refine .callS (.f call85 r) (.o [0,0,0,0] r) A r r fun b5 q b6 d c=>?_
 rcases c with c | c
 · obtain ⟨t,C,rfl,e,rfl,hd⟩:=c
   have R6:=d.u1 R6
   refine .rn 4 r (.ks 1 r ?_)
   have D:=P7 (I:=q)  hd
   refine .callS (.f call153 r) .n D r r fun b9 c0 c1 F G=>?_
   obtain ⟨c2,b2,rfl,c3,rfl,hd⟩:=G
   obtain ⟨H,e⟩:=F.u2 d e
   refine .rn 4 r (.ks 4 r (.al F0 r fun c4=>?_))
   refine .sa BR .z r (.kn 2 1541 r (.seq (.sr (.kn 2 16777733 r (.condP r hd (fun J hd=>?_) fun J hd=>?_)))))
   · exact .sr (.kn 1 257 r (.drop .z (.q1 results84 H [0,0,0,0] r ⟨(false,t.1,o1,t.2),C,r,e,r,hd⟩)))
   exact hd.elim
 obtain ⟨u,g,rfl,a,rfl,hd⟩:=c
 have R6:=d.u1 R6
 refine .rn 4 r (.ks 1 r ?_)
 have K:=YY (I:=q)  hd
 refine .callS (.f call153 r) (.o [3] r) K r r fun c5 c6 c7 L N=>?_
 obtain ⟨b,i,rfl,a5,rfl,hd⟩:=N
 obtain ⟨m,a⟩:=L.u2 d a
 refine .rn 4 r (.ks 4 r (.al F0 r fun c8=>?_))
 refine .sa BR .z r (.kn 2 1541 r (.seq (.sr (.kn 2 16777733 r (.condP r hd (fun O hd=>?_) fun O hd=>?_)))))
 · exact .sr (.kn 1 257 r (.drop .z (.q1 results84 m [1,1,1,0] r ⟨(false,u.2.1,o1,b.2.2.2),g,r,a,r,hd⟩)))
 refine .sn 517 r (.sk 3 r (.lo isAgg119 .p2 r (.ks 1 r ?_)))
 obtain ⟨a6,c9,P,d0,o167,a7,R,hd⟩:=a.2.2.ix hd
 refine .ixb QO sizeOf122 a7 a6 P r (.ldb 0 K0 R r (.kn 1 4609 r (.seq ?_)))
 obtain ⟨a8,w,S,T,hd⟩:=hd
 refine .bankO .p4 T fun ⟨U,a9⟩ b0=>?_
 refine .rn 7 r (.sub (E':=[(0,_),(9,_),(12,.pointer (some ⟨a8,0,none⟩))]) ⟨r,r,(by rw [S]; rfl),tv⟩ (.dr [0,1,2,3,4,5,6,7,8,9,10] 11 (.fk 3 r (.hl isAgg124 0 r (.fk 1 r (.hl isAgg191 3 r (.fk 1 r (.hl AP 3 r (.h r (fun _=>.bd dH jO jG r .mk) ?_)))))))))
 refine .fk 1 r (.hl isAgg54 3 r (.e2 11 (.updM (k:=({ kind:=b.1.Kind,stage:=b.1.Round }:BE)) (El:=(JI B5)) (ag:=false) (v:=b.1.Triples) pA underlying124 .p1 r r r ⟨[.slice i.2.2.1 b.1.Triples.length i.2.2.2],⟨_,_,r,a5.2.2⟩,.s⟩ (.bankC (B:=A5) (U,a9) ({ w with parts:=(FC ({ kind:=b.1.Kind,stage:=b.1.Round }:BE) b.1.Triples w.parts) }:AF) b0 (.o [0,0,0] r) (.no 4097 r (.drop .p1 (.seq (.block (.lp hd [12,0] [2,2,1] r (fun j E l x=>j E (AW A5 x :: l)) (ji rf [0,1,1,0] r) ?_)))))))))
 refine fun x b1 hd=>jq r fun d1 p=>?_
 obtain ⟨V,a⟩:=p.u2 m a
 refine .seq (.sk 2 r ?_)
 have W:=PL  (b3:=b4) (b7:=b8) a hd
 refine .callS (.f call154 r) (.o [1,1,0] r) W r r fun d2 d3 d4 X Y=>?_
 obtain ⟨y,rfl,rfl,hd⟩:=Y
 obtain ⟨Z,a3,a⟩:=X.u3 V p a
 refine .rn 4 r (.no 35184372092929 r (.condP r hd (fun a4 hd=>?_) fun a4 hd=>?_))
 · exact .sn 4097 r (.block (.skip' (je y.2 hd a3 [2,0,0,0] r)))
 exact .en 1 r (.sr (.kn 1 257 r (.q1 results84 Z [0,0,0,0] r ⟨(true,u.2.1,y.2,b.2.2.2),g,r,a,r,hd⟩)))
theorem XK (hd:RX ) :
  Fun prog 157 #[.pointer none] I [] (fun _ _ _=>False):=by
 refine Fun.en func157 ntmps157 r fun w0 M=>.sr (.kn 1 1 r (.seq (.dr [0,1,2,3,4,5,6,7,8,9] 10 (.fk 1 r ?_))))
 exact hd.elim
theorem ND {a0:Int} {Q:Int→Prop} (hd:H6 a0 Q) :
  Fun prog 86 #[.pointer none,.int .i64 a0] I [] (fun I_ v l=>∃ r,v=.int .i64 r∧l=[]∧Q r):=by
 refine Fun.en func86 ntmps86 r fun w0 M=>?_
 refine .sr (.kn 1 3 r (.seq (.sk 2 r ?_)))
 have g:=N0 (I:=I)  hd
 refine .callS (.f call156 r) .n g r r fun k h m a b=>?_
 obtain ⟨i,rfl,rfl,hd⟩:=b
 refine .rn 0 r (.ks 1 r (.nk 35 2 r (.no 1059 r (.condP r hd (fun c hd=>?_) fun c hd=>?_))))
 · exact .sr (.kn 2 16 r (.q1 results86 a [] r ⟨i,r,r,hd⟩))
 refine .sn 3 r (.seq (.sk 1 r ?_))
 have d:=XK (I:=h)  hd
 refine .callS (.f call157 r) .n d r r fun o p q j e=>?_
 exact e.elim
theorem UU {o0:AZ} {a0:Int} {Q:(Int×AZ)→Prop} (hd:H7 o0 a0 Q) :
  Fun prog 86 #[.pointer (some ⟨b2,0,none⟩),.int .i64 a0] I [pto b2 (.cells (BW o0 p3 c4 b8 b10) 213 (0,0)),OwnSl BQ 3 p3 c4 o0.row,OwnMap (Value.int .i64) BI true b8 o0.by_,OwnMap (Value.int .i64) BQ false b10 o0.often] (fun I_ v l=>∃ r p12 c13,v=.int .i64 r.1∧l=[pto b2 (.cells (BW r.2 p12 c13 b8 b10) 213 (0,0)),OwnSl BQ 3 p12 c13 r.2.row,OwnMap (Value.int .i64) BI true b8 r.2.by_,OwnMap (Value.int .i64) BQ false b10 r.2.often]∧Q r):=by
 refine Fun.en func86 ntmps86 r fun w0 M=>?_
 refine .sr (.kn 1 3 r (.seq (.sk 2 r ?_)))
 have e:=N1 (I:=I) (b2:=b2) (p3:=p3) (c4:=c4) (b8:=b8) (b10:=b10) hd
 refine .callS (.f call156 r) (.o [0,0,0,0] r) e r r fun C u D b g=>?_
 obtain ⟨w,rfl,rfl,hd⟩:=g
 refine .rn 4 r (.ks 1 r (.nk 35 2 r (.no 1059 r (.condP r hd (fun h hd=>?_) fun h hd=>?_))))
 · exact .sr (.kn 2 17 r (.q1 results86 b [0,0,0,0] r ⟨(w,o0),_,_,r,r,hd⟩))
 refine .sn 3 r (.seq (.sk 1 r ?_))
 have i:=P6 (I:=u) (b2:=b2) (p3:=p3) (c4:=c4) (b8:=b8) (b10:=b10) hd
 refine .callS (.f call157 r) (.o [0,0,0,0] r) i r r fun E x F k m=>?_
 obtain ⟨G,rfl,rfl,hd⟩:=m
 have c:=k.u1 b
 refine .rn 4 r (.no 8195 r (.condP r hd (fun n hd=>?_) fun n hd=>?_))
 · exact .sr (.kn 1 17 r (.q1 results86 c [0,0,0,0] r ⟨(9,o0),_,_,r,r,hd⟩))
 refine .sn 3 r (.sk 4 r (.lo DY .z r (.ks 1 r ?_)))
 obtain ⟨d,H,a,hd⟩:=hd
 refine .ownNe .p1 (CE a) fun y A=>?_
 cases A
 refine .ixa0 BP DN r r d (BD a d) r r (.lo1 (j:=0) AP .p1 a r r r r r ?_)
 have p:=QY (I:=x) (b2:=b2) (p3:=some ⟨y,0,none⟩) (c4:=c4) (b8:=b8) (b10:=b10) hd
 refine .callS (.f call158 r) (.o [0,0,0,0] r) p r r fun J K L q s=>?_
 obtain ⟨B,N,O,rfl,rfl,hd⟩:=s
 have t:=q.u1 c
 exact .rn 4 r (.nk 1 1 r (.no 17 r (.q1 results86 t [0,0,0,0] r ⟨(0,B),_,_,r,r,hd⟩)))
theorem W9 {o0:A8} {a0:Option Nat} {a1:Int} {Q:(Int×A8)→Prop} (hd:LR o0 a0 a1 Q) :
  Fun prog 86 #[.pointer (eJ a0),.int .i64 a1] I [AW AY o0] (fun I_ v l=>∃ r,v=.int .i64 r.1∧l=[AW AY r.2]∧Q r):=by
 rcases a0 with _ | b
 · have hd:=hd.1 r
   refine (Fun.frame (r:=[AW AY o0]) (ND  hd)).conseq fun I_ v l hle h=>?_
   obtain ⟨d,rfl,rr,rfl,rfl,hq⟩:=h
   exact ⟨(rr,o0),r,r,hq⟩
 obtain ⟨x,hx,hd⟩:=hd.2 b rfl
 refine Fun.bank hx (fun aa _=>UU (b2:=b) (p3:=aa.1) (c4:=aa.2.1) (b8:=aa.2.2.1) (b10:=aa.2.2.2)  hd) ?_
 rintro aa I_ v l hle ⟨rr,a,c,rfl,rfl,hq⟩
 exact ⟨(a,c,aa.2.2.1,aa.2.2.2),rr.2,[],r,tv,(rr.1,(b,rr.2) :: BO b o0),r,r,hq⟩
theorem P8 {a0:Int} {Q:Int→Prop} (hd:J8 a0 Q) :
  Fun prog 87 #[.pointer none,.int .i64 a0] I [] (fun I_ v l=>∃ r,v=.int .i64 r∧l=[]∧Q r):=by
 refine Fun.en func87 ntmps87 r fun w0 M=>?_
 refine .sr (.kn 1 3 r (.seq (.sk 2 r ?_)))
 have d:=N0 (I:=I)  hd
 refine .callS (.f call156 r) .n d r r fun g h i a b=>?_
 obtain ⟨e,rfl,rfl,hd⟩:=b
 refine .rn 0 r (.ks 1 r (.nk 35 2 r (.no 2083 r (.condP r hd (fun c hd=>?_) fun c hd=>?_))))
 · exact .sr (.kn 2 16 r (.q1 results87 a [] r ⟨e,r,r,hd⟩))
 refine .sn 3 r (.sk 1 r ?_)
 exact hd.elim
theorem XL {o0:AZ} {a0:Int} {Q:(Int×AZ)→Prop} (hd:J9 o0 a0 Q) :
  Fun prog 87 #[.pointer (some ⟨b2,0,none⟩),.int .i64 a0] I [pto b2 (.cells (BW o0 p3 c4 b8 b10) 213 (0,0)),OwnSl BQ 3 p3 c4 o0.row,OwnMap (Value.int .i64) BI true b8 o0.by_,OwnMap (Value.int .i64) BQ false b10 o0.often] (fun I_ v l=>∃ r p12 c13,v=.int .i64 r.1∧l=[pto b2 (.cells (BW r.2 p12 c13 b8 b10) 213 (0,0)),OwnSl BQ 3 p12 c13 r.2.row,OwnMap (Value.int .i64) BI true b8 r.2.by_,OwnMap (Value.int .i64) BQ false b10 r.2.often]∧Q r):=by
 refine Fun.en func87 ntmps87 r fun w0 M=>?_
 refine .sr (.kn 1 3 r (.seq (.sk 2 r ?_)))
 have e:=N1 (I:=I) (b2:=b2) (p3:=p3) (c4:=c4) (b8:=b8) (b10:=b10) hd
 refine .callS (.f call156 r) (.o [0,0,0,0] r) e r r fun x q y b g=>?_
 obtain ⟨s,rfl,rfl,hd⟩:=g
 refine .rn 4 r (.ks 1 r (.nk 35 2 r (.no 2083 r (.condP r hd (fun h hd=>?_) fun h hd=>?_))))
 · exact .sr (.kn 2 17 r (.q1 results87 b [0,0,0,0] r ⟨(s,o0),_,_,r,r,hd⟩))
 refine .sn 3 r (.sk 3 r (.lo DY .z r (.ks 1 r ?_)))
 obtain ⟨c,d,a,hd⟩:=hd
 refine .ownNe .p1 (CE a) fun t u=>?_
 cases u
 refine .ixa0 BP DN r r c (BD a c) r r (.lo1 (j:=0) AP .p1 a r r r r r (.ks 1 r (.nk 67 4 r (.lo DY .z r (.ks 3 r ?_)))))
 have i:=JE (I:=q) (p2:=some ⟨t,0,none⟩) (c3:=c4) hd
 refine .callS (.f call159 r) (.o [1] r) i r r fun A B C k m=>?_
 obtain ⟨w,rfl,rfl,hd⟩:=m
 have n:=k.u1 b
 refine .rn 4 r (.ks 1 r (.bs 1 BP DN qJ r fun D=>?_))
 obtain ⟨p,hd⟩:=hd
 refine .append (ys:=[d]) 8 .p1 BP BP IN3 r r r r r r r r r (.box .z (.one r) r) p r r fun E F=>?_
 exact .ks 2 r (.s1 yZ .p2 r (.no 1 r (.drop .p1 (.sr (.kn 1 17 r (.q1 results87 n [1,0,0,0] r ⟨(0,({ o0 with row:=(w++([d])) }:AZ)),_,_,r,r,hd⟩))))))
theorem YZ {o0:A8} {a0:Option Nat} {a1:Int} {Q:(Int×A8)→Prop} (hd:NK o0 a0 a1 Q) :
  Fun prog 87 #[.pointer (eJ a0),.int .i64 a1] I [AW AY o0] (fun I_ v l=>∃ r,v=.int .i64 r.1∧l=[AW AY r.2]∧Q r):=by
 rcases a0 with _ | b
 · have hd:=hd.1 r
   refine (Fun.frame (r:=[AW AY o0]) (P8  hd)).conseq fun I_ v l hle h=>?_
   obtain ⟨d,rfl,rr,rfl,rfl,hq⟩:=h
   exact ⟨(rr,o0),r,r,hq⟩
 obtain ⟨x,hx,hd⟩:=hd.2 b rfl
 refine Fun.bank hx (fun aa _=>XL (b2:=b) (p3:=aa.1) (c4:=aa.2.1) (b8:=aa.2.2.1) (b10:=aa.2.2.2)  hd) ?_
 rintro aa I_ v l hle ⟨rr,a,c,rfl,rfl,hq⟩
 exact ⟨(a,c,aa.2.2.1,aa.2.2.2),rr.2,[],r,tv,(rr.1,(b,rr.2) :: BO b o0),r,r,hq⟩
theorem QZ {o0:AZ} {Q:Int→Prop} (hd:HG o0 Q) :
  Fun prog 97 #[.pointer (some ⟨b2,0,none⟩)] I [pto b2 (.cells (BW o0 p3 c4 b8 b10) 213 (0,0)),OwnSl BQ 3 p3 c4 o0.row,OwnMap (Value.int .i64) BI true b8 o0.by_,OwnMap (Value.int .i64) BQ false b10 o0.often] (fun I_ v l=>∃ r,v=.int .i64 r∧l=[pto b2 (.cells (BW o0 p3 c4 b8 b10) 213 (0,0)),OwnSl BQ 3 p3 c4 o0.row,OwnMap (Value.int .i64) BI true b8 o0.by_,OwnMap (Value.int .i64) BQ false b10 o0.often]∧Q r):=by
 exact Fun.en func97 ntmps97 r fun w0 M=>.sr (.kn 1 1 r (.seq (.sk 1 r (.eqNilP aF r r r r (.no 17 r (.condKF r r (.sn 1 r (.sk 3 r (.lo DY .z r (.ln BP r (.kn 1 5 r (.q1 results97 rf [0,0,0,0] r ⟨(o0.row.length:Int),r,r,hd⟩))))))))))))
theorem LU {Q:Int→Prop} (hd:KA Q) :
  Fun prog 97 #[.pointer none] I [] (fun I_ v l=>∃ r,v=.int .i64 r∧l=[]∧Q r):=by
 exact Fun.en func97 ntmps97 r fun w0 M=>.sr (.kn 1 1 r (.seq (.sk 1 r (.eqNilP aF r r r r (.no 17 r (.condKT r r (.sr (.kn 1 4 r (.q1 results97 rf [] r ⟨0,r,r,hd⟩)))))))))
theorem N2 {o0:A8} {a0:Option Nat} {Q:Int→Prop} (hd:EH o0 a0 Q) :
  Fun prog 97 #[.pointer (eJ a0)] I [AW AY o0] (fun I_ v l=>∃ r,v=.int .i64 r∧l=[AW AY o0]∧Q r):=by
 rcases a0 with _ | b
 · have hd:=hd.1 r
   refine (Fun.frame (r:=[AW AY o0]) (LU  hd)).conseq fun I_ v l hle h=>?_
   obtain ⟨a,rfl,rr,rfl,rfl,hq⟩:=h
   exact ⟨rr,r,r,hq⟩
 obtain ⟨x,hx,hd⟩:=hd.2 b rfl
 refine Fun.bankR hx (fun aa _=>QZ (b2:=b) (p3:=aa.1) (c4:=aa.2.1) (b8:=aa.2.2.1) (b10:=aa.2.2.2)  hd) ?_
 rintro aa I_ v l hle hf ⟨rr,rfl,rfl,hq⟩
 exact ⟨(aa.1,aa.2.1,aa.2.2.1,aa.2.2.2),[],r,tv,rr,r,r,hq⟩
theorem TE {o0 a0:Int} {Q:Bool→Prop} (hd:IR o0 a0 Q) :
  Fun prog 203 #[.int .i64 a0,.pointer (some ⟨b2,0,none⟩)] I [pto b2 (.cells #[.int .i64 o0] 3 (0,0))] (fun I_ v l=>∃ r,v=.bool r∧l=[pto b2 (.cells #[.int .i64 o0] 3 (0,0))]∧Q r):=by
 exact Fun.en func203 ntmps203 r fun w0 M=>.sk 1 r (.nk 3 1 r (.lo AP .z r (.kn 2 10 r (.q1 results203 rf [0] r ⟨(a0==o0),r,r,hd⟩))))
theorem NU {o0:List Int} {o1:Int} {Q:Int→Prop} (hd:DX o0 o1 Q) :
  Fun prog 202 #[.slice p3 o0.length c4,.func (.func 203) #[] #[.pointer (some ⟨b5,0,none⟩)]] I [OwnSl BQ 3 p3 c4 o0,pto b5 (.cells #[.int .i64 o1] 3 (0,0))] (fun I_ v l=>∃ r,v=.int .i64 r∧l=[OwnSl BQ 3 p3 c4 o0,pto b5 (.cells #[.int .i64 o1] 3 (0,0))]∧Q r):=by
 refine Fun.en func202 ntmps202 r fun w0 M=>?_
 refine .sr (.kn 1 3 r (.seq (.sk 1 r (.ln BP r (.kn 1 387 r (.block (.lp hd [7,1,0] [0,0] r (fun j E l b=>j ((8,.int .i64 b) :: E) l) (ji rf [0,0] r) ?_)))))))
 refine fun b n hd=>jq r fun p d=>?_
 refine .sr (.kn 1 899 r (.seq (.condP r hd (fun g hd=>?_) fun g hd=>?_)))
 · refine .sn 387 r (.seq (.block (.sk 2 r (.nk 419 3 r ?_))))
   obtain ⟨f,s,a,hd⟩:=hd
   refine .ownNe .z (CE a) fun t q=>?_
   cases q
   refine .ixa0 BP DN r r f (BD a f) r r (.lo1 (j:=0) AP .z a r r r r r ?_)
   have h:=TE (I:=p) (b2:=b5) hd
   refine .callS (.c call203 r r) (.o [1] r) h r r fun u w x i k=>?_
   obtain ⟨y,rfl,rfl,hd⟩:=k
   have e:=i.u1 d
   refine .rn 2 r (.no 65955 r (.condP r hd (fun m hd=>?_) fun m hd=>?_))
   · exact .sr (.kn 2 19 r (.q1 results202 e [1,0] r ⟨b,r,r,hd⟩))
   exact .sn 387 r (.region (.ks 2 r (.nil' (je (A7 (b+1)) hd e [1,0] r))))
 exact .en 3 r (.sr (.kn 1 19 r (.q1 results202 d [0,0] r ⟨(-1),r,r,hd⟩)))
theorem UV {o0:AZ} {Q:Int→Prop} (hd:H8 o0 Q) :
  Fun prog 130 #[.pointer (some ⟨b2,0,none⟩)] I [pto b2 (.cells (BW o0 p3 c4 b8 b10) 213 (0,0)),OwnSl BQ 3 p3 c4 o0.row,OwnMap (Value.int .i64) BI true b8 o0.by_,OwnMap (Value.int .i64) BQ false b10 o0.often] (fun I_ v l=>∃ r,v=.int .i64 r∧l=[pto b2 (.cells (BW o0 p3 c4 b8 b10) 213 (0,0)),OwnSl BQ 3 p3 c4 o0.row,OwnMap (Value.int .i64) BI true b8 o0.by_,OwnMap (Value.int .i64) BQ false b10 o0.often]∧Q r):=by
 refine Fun.en func130 ntmps130 r fun w0 M=>?_
 refine .sr (.kn 1 1 r (.seq (.sk 1 r ?_)))
 have c:=QZ (I:=I) (b2:=b2) (p3:=p3) (c4:=c4) (b8:=b8) (b10:=b10) hd
 refine .callS (.f call97 r) (.o [0,0,0,0] r) c r r fun q b s a d=>?_
 obtain ⟨t,rfl,rfl,hd⟩:=d
 refine .rn 4 r (.kn 1 65 r (.condP r hd (fun e hd=>?_) fun e hd=>?_))
 · exact .sr (.kn 1 5 r (.q1 results130 a [0,0,0,0] r ⟨(-1),r,r,hd⟩))
 refine .sn 1 r (.sk 3 r (.lo DY .z r ?_))
 have g:=fun (J:IH) (hJ:IH.le b J) (hL:ZA J [OwnSl BQ 3 p3 c4 o0.row])=>W8 (I:=J) (AdH hL.1) hd
 refine .callB (.f call201 r) (.o [1] r) g r r fun u _ h=>?_
 obtain ⟨w,rfl,hd⟩:=h
 refine .alloc1 qJ r r r fun n=>?_
 refine .s1 DN .z r (.nk 9 3 r (.lo DY .p1 r (.mkFn r r r r ?_)))
 have i:=NU (I:=b) (p3:=p3) (c4:=c4) (b5:=n) hd
 refine .callS (.f call202 r) (.o [2,0] r) i r r fun x y A j k=>?_
 obtain ⟨p,rfl,rfl,hd⟩:=k
 have m:=j.u1 a
 exact .rn 5 r (.kn 1 5 r (.drop .p1 (.q1 results130 m [1,0,0,0] r ⟨p,r,r,hd⟩)))
theorem UW {Q:Int→Prop} (hd:P3 Q) :
  Fun prog 130 #[.pointer none] I [] (fun I_ v l=>∃ r,v=.int .i64 r∧l=[]∧Q r):=by
 refine Fun.en func130 ntmps130 r fun w0 M=>?_
 refine .sr (.kn 1 1 r (.seq (.sk 1 r ?_)))
 have d:=LU (I:=I)  hd
 refine .callS (.f call97 r) .n d r r fun e g h a b=>?_
 obtain ⟨i,rfl,rfl,hd⟩:=b
 refine .rn 0 r (.kn 1 65 r (.condP r hd (fun c hd=>?_) fun c hd=>?_))
 · exact .sr (.kn 1 4 r (.q1 results130 a [] r ⟨(-1),r,r,hd⟩))
 refine .sn 1 r (.sk 1 r ?_)
 exact hd.elim
theorem WA {o0:A8} {a0:Option Nat} {Q:Int→Prop} (hd:IB o0 a0 Q) :
  Fun prog 130 #[.pointer (eJ a0)] I [AW AY o0] (fun I_ v l=>∃ r,v=.int .i64 r∧l=[AW AY o0]∧Q r):=by
 rcases a0 with _ | b
 · have hd:=hd.1 r
   refine (Fun.frame (r:=[AW AY o0]) (UW  hd)).conseq fun I_ v l hle h=>?_
   obtain ⟨a,rfl,rr,rfl,rfl,hq⟩:=h
   exact ⟨rr,r,r,hq⟩
 obtain ⟨x,hx,hd⟩:=hd.2 b rfl
 refine Fun.bankR hx (fun aa _=>UV (b2:=b) (p3:=aa.1) (c4:=aa.2.1) (b8:=aa.2.2.1) (b10:=aa.2.2.2)  hd) ?_
 rintro aa I_ v l hle hf ⟨rr,rfl,rfl,hq⟩
 exact ⟨(aa.1,aa.2.1,aa.2.2.1,aa.2.2.2),[],r,tv,rr,r,r,hq⟩
theorem K2 {o0:A3} {o1:A2} {o2:A8} {Q:(Bool×A3×A2×A8)→Prop} (R6:UZ I gf5 o0) (hd:DV o0 o1 o2 Q) :
  Fun prog 63 #[.pointer (some ⟨b4,0,none⟩)] I [pto b4 (.cells (AK o0 gf5 b8) 121 (0,0)),OwnMap CL D6 false b8 o0.boxes,AW A5 o1,AW AY o2] (fun I_ v l=>∃ r gf10,v=.bool r.1∧UZ I_ gf10 r.2.1∧l=[pto b4 (.cells (AK r.2.1 gf10 b8) 121 (0,0)),OwnMap CL D6 false b8 r.2.1.boxes,AW A5 r.2.2.1,AW AY r.2.2.2]∧Q r):=by
 refine Fun.en func63 ntmps63 r fun w0 M=>?_
 refine .sk 1 r (.nk 1 1 r (.no 9 r (.seq (.sk 3 r (.lo isAgg119 .z r (.ln QO r (.kn 1 24585 r (.block (.lx hd [13,0] [] r (fun j E l (p,y,q,T,U)=>fun c w=>∃ g,j ⟨66,[],none⟩ (fun I_=>UZ I_ g p) ((3,.bool y) :: (14,.int .i64 q) :: E) (pto b4 (.cells (AK p g b8) 121 (0,0)) :: OwnMap CL D6 false b8 p.boxes :: AW A5 T :: AW AY U :: l) c w) (fun c w ho hs=>⟨gf5,jf rf R6 [0,0,0,0] r ho hs⟩) ?_)))))))))
 rintro ⟨p,y,q,T,U⟩ d6 hd c w ⟨g,e2,H,t,hok,hsym⟩
 refine Cod.at hok hsym (.sr (.kn 1 57353 r (.seq (.condP r hd (fun X hd=>?_) fun X hd=>?_))))
 · refine .sn 24585 r (.seq (.block (.sr (.kn 2 24601 r (.region (.ks 2 r ?_))))))
   have Y:=L5  (b4:=b4) (b8:=b8) t hd
   refine .callS (.f call83 r) (.o [0,0,0,0] r) Y r r fun e3 e4 e5 Z a0=>?_
   obtain ⟨d,J,rfl,V,rfl,hd⟩:=a0
   obtain ⟨K,t⟩:=Z.u2 H t
   refine .rn 4 r (.ks 1 r (.spl hd [19,20] r (fun a1 hd=>?_) fun a1 hd=>?_))
   · exact .kn 3 24585 r (.region (.ks 2 r (.nil' fun c w ho hs=>⟨(d.2.1,true,A7 (q+1),d.2.2.1,d.2.2.2),hd,J,jf K V [0,0,0,0] r ho hs⟩)))
   exact .kn 3 24585 r (.region (.ks 2 r (.nil' fun c w ho hs=>⟨(d.2.1,y,A7 (q+1),d.2.2.1,d.2.2.2),hd,J,jf K V [0,0,0,0] r ho hs⟩)))
 refine .en 9 r (.seq (.sk 3 r (.lo isAgg119 .z r (.ln QO r (.kn 1 805306377 r (.block (.lx hd [28,0] [] r (fun j E l (i,A,u,B,C)=>fun c w=>∃ b,j ⟨66,[],none⟩ (fun I_=>UZ I_ b i) ((3,.bool A) :: (29,.int .i64 u) :: E) (pto b4 (.cells (AK i b b8) 121 (0,0)) :: OwnMap CL D6 false b8 i.boxes :: AW A5 B :: AW AY C :: l) c w) (fun c w ho hs=>⟨g,jf rf t [0,0,0,0] r ho hs⟩) ?_)))))))
 rintro ⟨i,A,u,B,C⟩ d7 hd c w ⟨b,e6,L,W,hok,hsym⟩
 have N:=L.u1 H
 refine Cod.at hok hsym (.sr (.kn 1 1879048201 r (.seq (.condP r hd (fun a2 hd=>?_) fun a2 hd=>?_))))
 · refine .sn 805306377 r (.seq (.block (.sk 2 r (.nk 805306409 3 r (.lo isAgg119 .z r (.ln QO r (.kn 1 206963736617 r (.block (.lx hd [36,29,28,5,0] [] r (fun j E l (m,D,n,F,G)=>fun c w=>∃ h,j ⟨66,[],none⟩ (fun I_=>UZ I_ h m) ((3,.bool D) :: (37,.int .i64 n) :: E) (pto b4 (.cells (AK m h b8) 121 (0,0)) :: OwnMap CL D6 false b8 m.boxes :: AW A5 F :: AW AY G :: l) c w) (fun c w ho hs=>⟨b,jf rf W [0,0,0,0] r ho hs⟩) ?_)))))))))
   rintro ⟨m,D,n,F,G⟩ d8 hd c w ⟨h,d1,O,a,hok,hsym⟩
   obtain ⟨a3,P⟩:=O.u2 N L
   refine Cod.at hok hsym (.sr (.kn 1 481841643561 r (.seq (.condP r hd (fun a4 hd=>?_) fun a4 hd=>?_))))
   · refine .sn 206963736617 r (.seq (.block (.sk 2 r (.nk 206963736681 3 r (.lo isAgg118 .z r (.ks 2 r (.ba H3 HK DN r (.lookM (k:=(u,n)) (El:=D6) (ag:=false) (zv:=.pointer none) (z:=none) dF jK zeroValue146 ⟨[.pointer none],r,.s⟩ .p1 r r hd r r fun e7 e8 d9 hd a5 a6=>?_))))))))
     cases a5
     cases a6
     refine .ks 1 r (.nk 206963736809 1 r ?_)
     have a7:=N2 (I:=d1)  hd
     refine .callS (.f call97 r) (.o [3] r) a7 r r fun e9 d2 f0 a8 a9=>?_
     obtain ⟨d3,rfl,rfl,hd⟩:=a9
     obtain ⟨b0,b1,b2,a⟩:=a8.u4 a3 P O a
     refine .rn 4 r (.ks 1 r (.nk 206963737065 4 r ?_))
     have b3:=WA (I:=d2)  hd
     refine .callS (.f call130 r) (.o [0] r) b3 r r fun f1 f2 f3 b5 b6=>?_
     obtain ⟨f4,rfl,rfl,hd⟩:=b6
     obtain ⟨b7,b9,c0,a⟩:=b5.u4 b0 b1 b2 a
     refine .rn 4 r ?_
     have c1:=L6  (b4:=b4) (b8:=b8) a hd
     refine .callS (.f call84 r) (.o [1,1,1,0] r) c1 r r fun f5 d4 f6 c2 c3=>?_
     obtain ⟨e,R,rfl,x,rfl,hd⟩:=c3
     obtain ⟨c4,c5,S,a⟩:=c2.u4 b7 b9 c0 a
     refine .rn 4 r (.no 206963737001 r (.region (.ks 2 r (.spl hd [3,56,57] r (fun c6 hd=>?_) fun c6 hd=>?_))))
     · exact .kn 6 206963736617 r (.region (.ks 2 r (.nil' fun c w ho hs=>⟨(e.2.1,true,A7 (n+1),e.2.2.1,e.2.2.2),hd,R,jf S x [0,0,0,0] r ho hs⟩)))
     refine .ks 1 r ?_
     have c7:=N2 (I:=d4)  hd
     refine .yes r (.callS (.f call97 r) (.o [3] r) c7 r r fun f7 f8 f9 c8 c9=>?_)
     obtain ⟨d5,rfl,rfl,hd⟩:=c9
     obtain ⟨e0,e1,d0,x⟩:=c8.u4 c4 c5 S x
     exact .rn 4 r (.kn 4 206963736617 r (.region (.ks 2 r (.nil' fun c w ho hs=>⟨(e.2.1,decide (d5<d3),A7 (n+1),e.2.2.1,e.2.2.2),hd,R,jf d0 x [1,1,1,0] r ho hs⟩))))
   exact .en 805306377 r (.region (.ks 2 r (.nil' fun c w ho hs=>⟨(m,D,A7 (u+1),F,G),hd,h,jf P a [0,0,0,0] r ho hs⟩)))
 exact .en 9 r (.sr (.kn 2 5 r (.q1 results63 N [0,0,0,0] r ⟨(A,i,B,C),b,r,W,r,hd⟩)))
theorem N3 {o0:A3} {o1:A2} {o2:A8} {a0:EI} {Q:(Bool×A3×A2×A8)→Prop} (R6:UZ I gf5 o0) (hd:EY o0 o1 o2 a0 Q) :
  Fun prog 25 #[.pointer (some ⟨b4,0,none⟩),.agg (TK a0).toArray] I [pto b4 (.cells (AK o0 gf5 b8) 121 (0,0)),OwnMap CL D6 false b8 o0.boxes,AW A5 o1,AW AY o2] (fun I_ v l=>∃ r gf10,v=.bool r.1∧UZ I_ gf10 r.2.1∧l=[pto b4 (.cells (AK r.2.1 gf10 b8) 121 (0,0)),OwnMap CL D6 false b8 r.2.1.boxes,AW A5 r.2.2.1,AW AY r.2.2.2]∧Q r):=by
 refine Fun.en func25 ntmps25 r fun w0 M=>?_
 refine .sr (.bx r fun d7=>?_)
 refine .kn 1 9 r (.seq (.sk 1 r (.eqNilP pB r r r r (.ks 1 r (.yes r (.lw fW T6 .z r ?_))))))
 have R:=aY (I:=I) hd
 refine .yes r (.callP call19 r R r r fun d8 S=>?_)
 obtain ⟨d9,rfl,hd⟩:=S
 refine .kn 2 2057 r (.condP r hd (fun T hd=>?_) fun T hd=>?_)
 · exact .sr (.kn 1 17 r (.drop .z (.q1 results25 rf [0,0,0,0] r ⟨(false,o0,o1,o2),gf5,r,R6,r,hd⟩)))
 refine .sn 9 r (.seq (.sk 1 r (.lo isAgg45 .z r (.no 8201 r (.block (.sr (.kn 2 24585 r (.condP r hd (fun U hd=>?_) fun U hd=>?_))))))))
 · refine .sk 2 r (.lo AP .z r ?_)
   have V:=L5  (b4:=b4) (b8:=b8) R6 hd
   refine .callS (.f call83 r) (.o [1,1,1,1] r) V r r fun e0 e1 e3 m W=>?_
   obtain ⟨i,X,rfl,c2,rfl,hd⟩:=W
   have R6:=m.u1 R6
   exact .rn 5 r (.kn 1 17 r (.drop .p4 (.q1 results25 m [0,0,0,0] r ⟨(i.1,i.2.1,i.2.2.1,i.2.2.2),X,r,c2,r,hd⟩)))
 refine .sr (.kn 2 1056777 r (.condP r hd (fun Y hd=>?_) fun Y hd=>?_))
 · refine .sk 2 r (.lo AP .z r (.ks 1 r (.lo AP .z r (.ks 1 r (.lo AP .z r ?_)))))
   have Z:=L6  (b4:=b4) (b8:=b8) R6 hd
   refine .callS (.f call84 r) (.o [1,1,1,1] r) Z r r fun e4 e5 e6 p a1=>?_
   obtain ⟨j,a2,rfl,c3,rfl,hd⟩:=a1
   have R6:=p.u1 R6
   exact .rn 5 r (.kn 1 17 r (.drop .p4 (.q1 results25 p [0,0,0,0] r ⟨(j.1,j.2.1,j.2.2.1,j.2.2.2),a2,r,c3,r,hd⟩)))
 refine .sr (.kn 2 1073750025 r (.condP r hd (fun a3 hd=>?_) fun a3 hd=>?_))
 · refine .seq (.dr [0,1,2,3,4,6,7,5,8,9] 10 (.fk 2 r (.hl AP 0 r (.fk 1 r (.hl AP 0 r (.fk 1 r (.hl AP 0 r (.ww r fun ex=>?_))))))))
   have a4:=E6  (b4:=b4) (b8:=b8) R6 hd
   refine .callS (.f call85 r) (.o [1,1,1,1] r) a4 r r fun e7 L e8 c a=>?_
   rcases a with a | a
   · obtain ⟨N,a5,rfl,q,rfl,hd⟩:=a
     have R6:=c.u1 R6
     refine .rx 5 r (.so 5 r r r (.ch r (fun _=>.lo AP .p4 r .mk) (.ck 1 r r tv)) (.ww r fun ex=>?_))
     have a6:=ND (I:=L)  hd
     refine .callS (.f call86 r) .n a6 r r fun e9 f0 f1 a7 a8=>?_
     obtain ⟨c4,rfl,rfl,hd⟩:=a8
     obtain ⟨a9,q⟩:=a7.u2 c q
     exact .rx 5 r (.so 5 r r r tv (.fk 1 r (.e2 10 (.kn 1 17 r (.drop .p4 (.q1 results25 a9 [0,0,0,0] r ⟨(c4==0,N.1,o1,N.2),a5,r,q,r,hd⟩))))))
   obtain ⟨c5,b0,rfl,s,rfl,hd⟩:=a
   have R6:=c.u1 R6
   refine .rx 5 r (.so 5 r r r (.ch r (fun _=>.lo AP .p4 r .mk) (.ck 1 r r tv)) (.ww r fun ex=>?_))
   have b1:=W9 (I:=L)  hd
   refine .callS (.f call86 r) (.o [3] r) b1 r r fun f2 f3 f4 b2 b3=>?_
   obtain ⟨O,rfl,rfl,hd⟩:=b3
   obtain ⟨b5,s⟩:=b2.u2 c s
   exact .rx 5 r (.so 5 r r r tv (.fk 1 r (.e2 10 (.kn 1 17 r (.drop .p4 (.q1 results25 b5 [1,1,1,0] r ⟨(O.1==0,c5.2.1,o1,O.2),b0,r,s,r,hd⟩))))))
 refine .sr (.kn 2 4398046511113 r (.condP r hd (fun b6 hd=>?_) fun b6 hd=>?_))
 · refine .seq (.dr [0,1,2,3,4,6,7,5,8,9] 10 (.fk 2 r (.hl AP 0 r (.fk 1 r (.hl AP 0 r (.fk 1 r (.hl AP 0 r (.ww r fun ex=>?_))))))))
   have b7:=E6  (b4:=b4) (b8:=b8) R6 hd
   refine .callS (.f call85 r) (.o [1,1,1,1] r) b7 r r fun c6 P c7 d b=>?_
   rcases b with b | b
   · obtain ⟨t,w,rfl,g,rfl,hd⟩:=b
     have R6:=d.u1 R6
     refine .rx 5 r (.so 5 r r r (.ch r (fun _=>.lo AP .p4 r .mk) (.ck 1 r r tv)) (.ww r fun ex=>?_))
     have x:=P8 (I:=P)  hd
     refine .callS (.f call87 r) .n x r r fun c8 c9 d0 y A=>?_
     obtain ⟨b9,rfl,rfl,hd⟩:=A
     obtain ⟨B,g⟩:=y.u2 d g
     exact .rx 5 r (.so 5 r r r tv (.fk 1 r (.e2 10 (.kn 1 17 r (.drop .p4 (.q1 results25 B [0,0,0,0] r ⟨(b9==0,t.1,o1,t.2),w,r,g,r,hd⟩))))))
   obtain ⟨c0,C,rfl,h,rfl,hd⟩:=b
   have R6:=d.u1 R6
   refine .rx 5 r (.so 5 r r r (.ch r (fun _=>.lo AP .p4 r .mk) (.ck 1 r r tv)) (.ww r fun ex=>?_))
   have D:=YZ (I:=P)  hd
   refine .callS (.f call87 r) (.o [3] r) D r r fun d1 d2 d3 E F=>?_
   obtain ⟨u,rfl,rfl,hd⟩:=F
   obtain ⟨G,h⟩:=E.u2 d h
   exact .rx 5 r (.so 5 r r r tv (.fk 1 r (.e2 10 (.kn 1 17 r (.drop .p4 (.q1 results25 G [1,1,1,0] r ⟨(u.1==0,c0.2.1,o1,u.2),C,r,h,r,hd⟩))))))
 refine .sn 1 r (.drop .z (.sk 1 r ?_))
 have H:=K2  (b4:=b4) (b8:=b8) R6 hd
 refine .callS (.f call63 r) (.o [0,0,0,0] r) H r r fun d4 d5 d6 k J=>?_
 obtain ⟨e,K,rfl,c1,rfl,hd⟩:=J
 have R6:=k.u1 R6
 exact .rn 4 r (.kn 1 17 r (.q1 results25 k [0,0,0,0] r ⟨(e.1,e.2.1,e.2.2.1,e.2.2.2),K,r,c1,r,hd⟩))
theorem PM {o1:A2} {o2:A3} {a0:Option Nat} {Q:Bool→Prop} (R7:UZ I gf6 o2) (hd:G2 o1 o2 a0 Q) :
  Fun prog 109 #[.pointer (eJ a0),.pointer (some ⟨b4,0,none⟩)] I [pto b4 (.cells #[.pointer (some ⟨b5,0,none⟩)] 60 (0,0)),AW A5 o1,pto b5 (.cells (AK o2 gf6 b9) 121 (0,0)),OwnMap CL D6 false b9 o2.boxes] (fun I_ v l=>∃ r,v=.bool r∧l=[pto b4 (.cells #[.pointer (some ⟨b5,0,none⟩)] 60 (0,0)),AW A5 o1,pto b5 (.cells (AK o2 gf6 b9) 121 (0,0)),OwnMap CL D6 false b9 o2.boxes]∧Q r):=by
 refine Fun.en func109 ntmps109 r fun w0 M=>.sr (.kn 1 3 r (.seq ?_))
 obtain ⟨e,b,c,a,hd⟩:=hd
 refine .bankO .p1 a fun ⟨d,f⟩ g=>.rn 6 r (.sub (E':=[(0,.pointer (some ⟨e,0,none⟩)),(1,_)]) ⟨(by rw [c]; rfl),r,tv⟩ (.dr [0,1,2,3,4,5,6,7,8,9] 10 (.fk 3 r (.hl AP 0 r (.hl isAgg60 3 r (.fk 2 r (.hl KZ 4 r (.h r (fun _=>.ln HJ r .mk) (.fk 1 r ?_)))))))))
 exact .e2 10 (.ks 1 r (.bankB (B:=A5) (d,f) b g a (.o [0,0,0] r) (.no 10 r (.q1 results109 rf [1,0,0,0] r ⟨(decide (b.at_<(o2.stages.length:Int))),r,r,hd⟩))))
theorem G5 {o1:A2} {o2:A3} {a0:List (Option Nat)} {Q:Int→Prop} (R7:UZ I gf6 o2) (R12:RepSl D6 I p10 c11 a0) (hd:CP o1 o2 a0 Q) :
  Fun prog 175 #[.slice p10 a0.length c11,.func (.func 109) #[] #[.pointer (some ⟨b4,0,none⟩)]] I [pto b4 (.cells #[.pointer (some ⟨b5,0,none⟩)] 60 (0,0)),AW A5 o1,pto b5 (.cells (AK o2 gf6 b9) 121 (0,0)),OwnMap CL D6 false b9 o2.boxes] (fun I_ v l=>∃ r,v=.int .i64 r∧l=[pto b4 (.cells #[.pointer (some ⟨b5,0,none⟩)] 60 (0,0)),AW A5 o1,pto b5 (.cells (AK o2 gf6 b9) 121 (0,0)),OwnMap CL D6 false b9 o2.boxes]∧Q r):=by
 refine Fun.en func175 ntmps175 r fun w0 M=>?_
 refine .sr (.kn 1 3 r (.seq (.sk 1 r (.ln QO r (.kn 1 387 r (.block (.lp hd [7,1,0] [0,1,1,0] r (fun j E l d=>j ((8,.int .i64 d) :: E) l) (ji rf [0,1,1,0] r) ?_)))))))
 refine fun d n hd=>jq r fun s a=>?_
 obtain ⟨R7,R12⟩:=a.u2 R7 R12
 refine .sr (.kn 1 899 r (.seq (.condP r hd (fun f hd=>?_) fun f hd=>?_)))
 · refine .sn 387 r (.seq (.block (.sk 2 r (.nk 419 3 r ?_))))
   obtain ⟨p,t,g,u,o64,q,b,hd⟩:=R12.ix hd
   refine .ixb QO sizeOf122 q p g r (.ldb 0 K0 b r ?_)
   have h:=PM  (b4:=b4) (b5:=b5) (b9:=b9) R7 hd
   refine .callS (.c call109 r r) (.o [0,2,0,0] r) h r r fun w x y i k=>?_
   obtain ⟨z,rfl,rfl,hd⟩:=k
   obtain ⟨e,R7,R12,b⟩:=i.u4 a R7 R12 b
   refine .rn 4 r (.no 65955 r (.condP r hd (fun m hd=>?_) fun m hd=>?_))
   · exact .sr (.kn 2 18 r (.q1 results175 e [0,0,0,0] r ⟨d,r,r,hd⟩))
   exact .sn 387 r (.region (.ks 2 r (.nil' (je (A7 (d+1)) hd e [0,1,1,0] r))))
 exact .en 2 r (.sr (.kn 1 18 r (.q1 results175 a [0,2,0,0] r ⟨(-1),r,r,hd⟩)))
theorem FV {o1:A2} {o2:A3} {a0:List (Option Nat)} {Q:Bool→Prop} (R7:UZ I gf6 o2) (R12:RepSl D6 I p10 c11 a0) (hd:CK o1 o2 a0 Q) :
  Fun prog 108 #[.slice p10 a0.length c11,.func (.func 109) #[] #[.pointer (some ⟨b4,0,none⟩)]] I [pto b4 (.cells #[.pointer (some ⟨b5,0,none⟩)] 60 (0,0)),AW A5 o1,pto b5 (.cells (AK o2 gf6 b9) 121 (0,0)),OwnMap CL D6 false b9 o2.boxes] (fun I_ v l=>∃ r,v=.bool r∧l=[pto b4 (.cells #[.pointer (some ⟨b5,0,none⟩)] 60 (0,0)),AW A5 o1,pto b5 (.cells (AK o2 gf6 b9) 121 (0,0)),OwnMap CL D6 false b9 o2.boxes]∧Q r):=by
 refine Fun.en func108 ntmps108 r fun w0 M=>?_
 refine .sk 1 r (.nk 3 2 r ?_)
 have b:=G5  (b4:=b4) (b5:=b5) (b9:=b9) R7 R12 hd
 refine .callS (.f call175 r) (.o [0,0,0,0] r) b r r fun e g h a c=>?_
 obtain ⟨d,rfl,rfl,hd⟩:=c
 obtain ⟨R7,R12⟩:=a.u2 R7 R12
 exact .rn 4 r (.kn 2 18 r (.q1 results108 a [0,0,0,0] r ⟨(decide (0≤d)),r,r,hd⟩))
theorem G6 {o0:A3} {o1:A2} {Q:Bool→Prop} (R5:UZ I gf4 o0) (hd:CI o0 o1 Q) :
  Fun prog 38 #[.pointer (some ⟨b3,0,none⟩)] I [pto b3 (.cells (AK o0 gf4 b7) 121 (0,0)),OwnMap CL D6 false b7 o0.boxes,AW A5 o1] (fun I_ v l=>∃ r,v=.bool r∧l=[pto b3 (.cells (AK o0 gf4 b7) 121 (0,0)),OwnMap CL D6 false b7 o0.boxes,AW A5 o1]∧Q r):=by
 refine Fun.en func38 ntmps38 r fun w0 M=>?_
 refine .sr (.box1 r r r r fun d=>?_)
 refine .kn 1 3 r (.seq (.sr (.lo isAgg60 .z r (.eqNilP pB r r r r (.no 19 r (.condKF r r (.sn 3 r (.sr (.lo isAgg60 .z r ?_)))))))))
 refine .ks 2 r (.lo isAgg119 .p1 r (.mkFn r r r r ?_))
 have b:=FV  (b4:=d) (b5:=b3) (b9:=b7) R5 R5.2.2 hd
 refine .callS (.f call108 r) (.o [0,2,0,0] r) b r r fun g h i a c=>?_
 obtain ⟨e,rfl,rfl,hd⟩:=c
 have R5:=a.u1 R5
 exact .rn 4 r (.kn 2 5 r (.drop .z (.q1 results38 a [1,1,0] r ⟨(!e),r,r,hd⟩)))
theorem RN {o0:A3} {o1:A2} {Q:(List AB)→Prop} (R5:UZ I gf4 o0) (hd:E4 o0 o1 Q) :
  Fun prog 40 #[.pointer (some ⟨b3,0,none⟩)] I [pto b3 (.cells (AK o0 gf4 b7) 121 (0,0)),OwnMap CL D6 false b7 o0.boxes,AW A5 o1] (fun I_ v l=>∃ r p8 c9,v=.slice p8 r.length c9∧RepSl BL I_ p8 c9 r∧l=[pto b3 (.cells (AK o0 gf4 b7) 121 (0,0)),OwnMap CL D6 false b7 o0.boxes,AW A5 o1]∧Q r):=by
 refine Fun.en func40 ntmps40 r fun w0 M=>?_
 refine .sr (.kn 1 1 r (.seq (.sk 1 r (.eqNilP pB r r r r (.no 2049 r (.condKF r r (.sn 1 r (.sr (.kn 1 9 r ?_)))))))))
 refine .seq (.sk 3 r (.lo isAgg119 .z r (.ln QO r (.kn 1 229385 r (.block (.own0 BL 161 (.lx hd [16,15,0] [1,1,1] r (fun j E l (k,m)=>fun c w=>∃ e g,j ⟨81,[],none⟩ (fun I_=>True) ((3,.slice e k.length g) :: (17,.int .i64 m) :: E) (OwnSl BL 161 e g k :: l) c w) (fun c w ho hs=>⟨_,_,jf rf tv [0,0,0,0] r ho hs⟩) ?_)))))))
 rintro ⟨k,m⟩ c1 hd c w ⟨e,g,n,h,_,hok,hsym⟩
 have R5:=h.u1 R5
 refine Cod.at hok hsym (.sr (.kn 1 491529 r (.seq (.condP r hd (fun G hd=>?_) fun G hd=>?_))))
 · refine .sn 229385 r (.seq (.block (.sr ?_)))
   obtain ⟨a7,c3,H,c4,o419,a8,K,hd⟩:=R5.2.2.ix hd
   refine .ixb QO sizeOf122 a8 a7 H r (.ldb 0 K0 K r (.kn 1 229417 r (.seq ?_)))
   obtain ⟨a9,b0,L,t,hd⟩:=hd
   refine .bankO .p3 t fun ⟨N,b1⟩ b2=>?_
   refine .rn 6 r (.sub (E':=[(0,_),(3,_),(15,_),(16,_),(17,_),(5,.pointer (some ⟨a9,0,none⟩))]) ⟨r,r,r,r,r,(by rw [L]; rfl),tv⟩ (.dr [0,1,2,3,4,5,6,7,8,9,10,11,12,13,14,16,17,18,19,20,21,22,23,24,25,26,27,28,29,30,15,31,32] 33 (.fk 5 r (.hl AP 4 r (.fk 4 r (.hl AP 4 r (.fk 3 r (.hl AP 0 r (.fk 5 r ?_)))))))))
   refine .hl AP 4 r (.fk 4 r (.hl AP 4 r (.fk 3 r (.hl AP 0 r (.ww r fun ex=>?_)))))
   have O:=IE (I:=n) hd
   refine .cq call110 O r fun D hd=>?_
   refine .so 6 r r r (.ch r (fun _=>.lo AP .z r .mk) (.ck 3 r r (.ch r (fun _=>.lo AP .p4 r .mk) (.ck 4 r r (.ch r (fun _=>.lo AP .p4 r .mk) (.ck 5 r r tv)))))) (.ww r fun ex=>?_)
   have P:=IE (I:=n) hd
   refine .cq call110 P r fun F hd=>?_
   refine .so 6 r r r tv (.fk 1 r (.e2 33 (.ks 1 r (.bankB (B:=A5) (N,b1) b0 b2 t (.o [0,0,0] r) (.nk 229609 1 r ?_)))))
   obtain ⟨c5,b4,R,u,hd⟩:=hd
   obtain rfl:=Option.some.inj R
   refine .bankO .z u fun ⟨S,b5⟩ i=>?_
   refine .rn 6 r (.ks 2 r (.lo isAgg76 .z r (.ln CH r (.ks 1 r (.bankB (B:=A5) (S,b5) b4 i u (.o [0,0,0] r) (.no 504403158265725129 r (.block (.lx hd [57,56,17,16,15,7,6,0] [2,2,0] r (fun j E l (d,p)=>fun c w=>∃ q s,j ⟨81,[],none⟩ (fun I_=>True) ((3,.slice q d.length s) :: (58,.int .i64 p) :: E) (OwnSl BL 161 q s d :: l) c w) (fun c w ho hs=>⟨_,_,jf rf tv [1,1,1,0] r ho hs⟩) ?_))))))))
   rintro ⟨d,p⟩ c2 hd c w ⟨q,s,c6,A,_,hok,hsym⟩
   obtain ⟨U,R5,i⟩:=A.u3 h R5 i
   refine Cod.at hok hsym (.sr (.kn 1 1080863910569148617 r (.seq (.condP r hd (fun V hd=>?_) fun V hd=>?_))))
   · refine .sn 504403158265725129 r (.seq (.block (.sr ?_)))
     obtain ⟨b6,b,W,c7,o577,b8,X,hd⟩:=i.2.2.ix hd
     refine .ixb CH BA b8 b6 W r (.ldW EK BA X r r r r (.al QR r fun c8=>?_))
     refine .sa BA .z r (.no 504403158265725641 r (.region (.ks 2 r (.lo AP .z r (.ks 3 r (.lo AP .z r (.ks 3 r (.loadA B7 AG r .z (.o 2 r) r r r (.bd QR underlying161 tY r ?_)))))))))
     refine .bs 1 CH BA QR r fun d0=>?_
     obtain ⟨Y,hd⟩:=hd
     refine .append (ys:=[({ Row:=A7 (b.Row+D),Col:=A7 (b.Col+F),Val:=b.Val }:AB)]) 32 .p2 CH CH dD r r r r r r r r r (.box .z (.one r) r) Y r r fun d1 d2=>?_
     exact .kn 1 504403158265725129 r (.drop .p1 (.drop .p1 (.region (.ks 2 r (.nil' fun c w ho hs=>⟨((d++([({ Row:=A7 (b.Row+D),Col:=A7 (b.Col+F),Val:=b.Val }:AB)])),A7 (p+1)),hd,_,_,jf A tv [0,0,0,0] r ho hs⟩)))))
   exact .en 229385 r (.region (.ks 2 r (.nil' fun c w ho hs=>⟨(d,A7 (m+1)),hd,_,_,jf U tv [0,0,0,0] r ho hs⟩)))
 refine .en 9 r (.sk 1 r ?_)
 have Z:=Fun.sort (hk:=fun _=>⟨r,r⟩) AeI EK BA (fun x y J Q hq=>TD (I:=J) (a0:=x) (a1:=y) (Q:=Q) hq) call112 (I:=n) (T:=161) (a:=e) (cap:=g) hd
 refine .callS (.f call111 r) (.o [0] r) Z r r fun d3 d4 d5 a2 a3=>?_
 obtain ⟨b9,rfl,C,rfl,hd⟩:=a3
 obtain ⟨a4,R5⟩:=a2.u2 h R5
 refine .rl .z [3,78] r (by rw [C]) (.nk 9 2 r (.no 5 r (.pub .z fun d6 a5 c0=>?_)))
 obtain ⟨a6,R5⟩:=a5.u2 a4 R5
 exact .q1 results40 a6 [0,0,0] r ⟨b9,_,_,r,c0,r,hd⟩
theorem R1 {o0:A3} {o1:A2} {Q:(Rows×Int)→Prop} (R5:UZ I gf4 o0) (hd:CD o0 o1 Q) :
  Fun prog 64 #[.pointer (some ⟨b3,0,none⟩)] I [pto b3 (.cells (AK o0 gf4 b7) 121 (0,0)),OwnMap CL D6 false b7 o0.boxes,AW A5 o1] (fun I_ v l=>∃ r ga8,v=.tuple #[.agg (F8 r.1 ga8),.int .i64 r.2]∧NX I_ ga8 r.1∧l=[pto b3 (.cells (AK o0 gf4 b7) 121 (0,0)),OwnMap CL D6 false b7 o0.boxes,AW A5 o1]∧Q r):=by
 refine Fun.en func64 ntmps64 r fun w0 M=>?_
 refine .sr (.al CF r fun p=>?_)
 refine .kn 1 5 r (.seq (.sk 1 r (.eqNilP pB r r r r (.no 37 r (.condKF r r (.sn 5 r (.seq (.dr [0,1,2,3,4,5,6,7,8,9,10,11,12,13,14,15,16,17,18,19,20,21] 22 (.fk 4 r ?_)))))))))
 refine .hl RL 1 r (.fk 5 r (.hl AP 1 r (.fk 5 r (.hl AP 1 r (.fk 1 r (.ww r fun ex=>?_))))))
 have d:=RN  (b3:=b3) (b7:=b7) R5 hd
 refine .callS (.f call40 r) (.o [1,1,1] r) d r r fun q s u a e=>?_
 obtain ⟨x,y,A,rfl,b,rfl,hd⟩:=e
 have R5:=a.u1 R5
 refine .rx 4 r (.so 4 r r r (.ch r (fun _=>.lo AP .z r .mk) (.ck 5 r r (.ch r (fun _=>.lo AP .z r .mk) (.ck 5 r r (.ch r (fun _=>.lo RL .z r .mk) (.ck 4 r r tv)))))) (.ww r fun ex=>?_))
 have g:=pX b hd
 refine .call call131 r g r r fun B C h i=>?_
 obtain ⟨c,j,rfl,m,hd⟩:=i
 obtain ⟨k,R5,b⟩:=h.u3 a R5 b
 exact .so 4 r r r tv (.fk 2 r (.e2 22 (.sa AE .p3 r (.kn 1 13 r (.ret (JG r (.w B6 AE r .p3 r (.t r .n)) k (.o [0,0,0] r) ⟨(c.1,c.2),j,r,m,r,hd⟩))))))
theorem WB {a0:BF} {a1:List EI} {a2:Int} {Q:(Rows×Bool×Int)→Prop} (R2:nE I gc1 a0) (R5:RepSl UM I p3 c4 a1) (hd:G8 a0 a1 a2 Q) :
  BH prog 17 [.agg (JU a0 gc1),.slice p3 a1.length c4,.int .i64 a2] I (AeE Q):=by
 refine Fun.en func17 ntmps17 r fun w0 M=>?_
 refine .bank0 A5 (.bank0 AY (.sr (.bx r fun j2=>?_)))
 refine .al CF r fun j3=>?_
 refine .ks 2 r (.ns 78 r (.lw LS IU .p1 r ?_))
 have e4:=P2   R2 hd
 refine .callS (.f call22 r) (.o [3,2] r) e4 r r fun j4 j5 j6 e s=>?_
 rcases s with s | s
 · obtain ⟨f7,rfl,rfl,hd⟩:=s
   obtain ⟨R2,R5⟩:=e.u2 R2 R5
   refine .rn 4 r (.kn 5 1606 r (.drop .p3 (.seq (.sr (.kn 2 2098758 r (.condP r hd (fun e5 hd=>?_) fun e5 hd=>?_))))))
   · exact .sr (.bd CF FJ FI r (.ks 1 r (.sa AE .p2 r (.kn 2 448 r (.ret (B9 r (.w B6 AE r .p2 r (.t r (.t r .n))) e ⟨(B1,false,f7.1),((_,_),(_,_),(_,_)),r,⟨(.nil _ _ _),(.nil _ _ _),(.nil _ _ _)⟩,hd⟩))))))
   exact hd.elim
 obtain ⟨f8,k,e6,a,rfl,O,rfl,hd⟩:=s
 obtain ⟨R2,R5⟩:=e.u2 R2 R5
 refine .rn 6 r (.kn 5 1606 r (.drop .p5 (.seq (.sr (.kn 2 2098758 r (.condP r hd (fun e7 hd=>?_) fun e7 hd=>?_))))))
 · exact .sr (.bd CF FJ FI r (.ks 1 r (.sa AE .p4 r (.kn 2 448 r (.drop .p2 (.drop .p2 (.ret (B9 r (.w B6 AE r .p2 r (.t r (.t r .n))) e ⟨(B1,false,f8.1),((_,_),(_,_),(_,_)),r,⟨(.nil _ _ _),(.nil _ _ _),(.nil _ _ _)⟩,hd⟩))))))))
 refine .sn 582 r (.seq (.block (.sk 1 r (.ln VT r (.kn 2 16777798 r (.condP r hd (fun e8 hd=>?_) fun e8 hd=>?_))))))
 · exact .sr (.bd CF FJ FI r (.sa AE .p4 r (.kn 2 448 r (.drop .p2 (.drop .p2 (.ret (B9 r (.w B6 AE r .p2 r (.t r (.t r .n))) e ⟨(B1,false,5),((_,_),(_,_),(_,_)),r,⟨(.nil _ _ _),(.nil _ _ _),(.nil _ _ _)⟩,hd⟩)))))))
 refine .sk 1 r ?_
 have e9:=HQ   R5 hd
 refine .callS (.f call61 r) .n e9 r r fun g4 g5 g6 V W=>?_
 obtain ⟨g7,rfl,rfl,hd⟩:=W
 obtain ⟨m,R5,O⟩:=V.u3 e R5 O
 refine .rn 5 r (.kn 1 536871494 r (.condP r hd (fun X hd=>?_) fun X hd=>?_))
 · exact .sr (.bd CF FJ FI r (.sa AE .p4 r (.kn 2 448 r (.drop .p2 (.drop .p2 (.ret (B9 r (.w B6 AE r .p2 r (.t r (.t r .n))) m ⟨(B1,false,8),((_,_),(_,_),(_,_)),r,⟨(.nil _ _ _),(.nil _ _ _),(.nil _ _ _)⟩,hd⟩)))))))
 refine .sk 3 r (.spl hd [35,36] r (fun Y hd=>?_) fun Y hd=>?_)
 · exact .kn 4 8589935174 r (.condKT r r (.sr (.bd CF FJ FI r (.sa AE .p4 r (.kn 2 448 r (.drop .p2 (.drop .p2 (.ret (B9 r (.w B6 AE r .p2 r (.t r (.t r .n))) m ⟨(B1,false,3),((_,_),(_,_),(_,_)),r,⟨(.nil _ _ _),(.nil _ _ _),(.nil _ _ _)⟩,hd⟩)))))))))
 refine .kn 4 8589935174 r (.condP r hd (fun Z hd=>?_) fun Z hd=>?_)
 · exact .sr (.bd CF FJ FI r (.sa AE .p4 r (.kn 2 448 r (.drop .p2 (.drop .p2 (.ret (B9 r (.w B6 AE r .p2 r (.t r (.t r .n))) m ⟨(B1,false,3),((_,_),(_,_),(_,_)),r,⟨(.nil _ _ _),(.nil _ _ _),(.nil _ _ _)⟩,hd⟩)))))))
 refine .sn 582 r (.seq (.sk 1 r (.ln VT r (.kn 1 15393162789444 r (.block (.lx hd [42,41,9,6,2] [4] r (fun j E l (u,F,P,R)=>fun c w=>∃ p,j ⟨72,[],none⟩ (fun I_=>UZ I_ p u) ((43,.int .i64 F) :: E) (pto k (.cells (AK u p a) 121 (0,0)) :: OwnMap CL D6 false a u.boxes :: AW A5 P :: AW AY R :: l) c w) (fun c w ho hs=>⟨e6,jf rf O [2,2,0,0,0] r ho hs⟩) ?_))))))
 rintro ⟨u,F,P,R⟩ f5 hd c w ⟨p,g8,q,v,hok,hsym⟩
 obtain ⟨x,R5⟩:=q.u2 m R5
 refine Cod.at hok hsym (.sr (.kn 1 32985348833860 r (.seq (.condP r hd (fun a3 hd=>?_) fun a3 hd=>?_))))
 · refine .sn 15393162789444 r (.seq (.block (.sr ?_)))
   obtain ⟨f0,g9,a4,h0,o318,f1,a5,hd⟩:=R5.ix hd
   refine .ixb VT T6 f1 f0 a4 r (.ldW fW T6 a5 r r r r (.al Ab9 r fun h1=>?_))
   refine .sa T6 .z r (.no 15393162793540 r (.region (.ks 1 r (.lw fW T6 .z r ?_))))
   have a6:=N3  (b4:=k) (b8:=a) v hd
   refine .callS (.f call25 r) (.o [1,1,1,1] r) a6 r r fun h2 h3 h4 a7 a8=>?_
   obtain ⟨G,a9,rfl,f2,rfl,hd⟩:=a8
   obtain ⟨f9,b0,R5,v⟩:=a7.u4 x q R5 v
   exact .rn 6 r (.no 15393162789444 r (.drop .p4 (.region (.ks 2 r (.nil' fun c w ho hs=>⟨(G.2.1,A7 (F+1),G.2.2.1,G.2.2.2),hd,a9,jf b0 f2 [0,0,0,0,0] r ho hs⟩)))))
 refine .en 580 r (.seq (.jx hd [9,6] [4] r (fun j E l (y,S,T)=>fun c w=>∃ A,j ⟨72,[],none⟩ (fun I_=>UZ I_ A y) E (pto k (.cells (AK y A a) 121 (0,0)) :: OwnMap CL D6 false a y.boxes :: AW A5 S :: AW AY T :: l) c w) (fun h5 hd=>?_) ?_))
 · refine .sr (.kn 1 8772 r (.block (.lx hd [9,6,2] [4] r (fun j E l (g,H,B,C)=>fun c w=>∃ d,j ⟨72,[],none⟩ (fun I_=>UZ I_ d g) ((13,.int .i64 H) :: E) (pto k (.cells (AK g d a) 121 (0,0)) :: OwnMap CL D6 false a g.boxes :: AW A5 B :: AW AY C :: l) c w) (fun c w ho hs=>⟨p,jf rf v [0,0,0,0,0] r ho hs⟩) ?_)))
   rintro ⟨g,H,B,C⟩ f6 hd c w ⟨d,h6,D,b,hok,hsym⟩
   obtain ⟨b1,b2⟩:=D.u2 x q
   refine Cod.at hok hsym (.seq (.sk 4 r (.spl hd [53,54] r (fun b5 hd=>?_) fun b5 hd=>?_)))
   · refine .ks 1 r ?_
     have b6:=G6  (b3:=k) (b7:=a) b hd
     refine .yes r (.callS (.f call38 r) (.o [0,0,0] r) b6 r r fun h7 h8 h9 b9 c0=>?_)
     obtain ⟨i0,rfl,rfl,hd⟩:=c0
     obtain ⟨c1,c2,L,b⟩:=b9.u4 b1 b2 D b
     refine .rn 5 r (.kn 2 288230376151720516 r (.condP r hd (fun c3 hd=>?_) fun c3 hd=>?_))
     · refine .sn 8772 r (.seq (.block (.region (.ks 1 r ?_))))
       have c5:=K2  (b4:=k) (b8:=a) b hd
       refine .callS (.f call63 r) (.o [0,0,0,0] r) c5 r r fun i1 i2 i3 c6 c7=>?_
       obtain ⟨J,c8,rfl,f3,rfl,hd⟩:=c7
       obtain ⟨g0,g1,c9,b⟩:=c6.u4 c1 c2 L b
       exact .rn 5 r (.no 8772 r (.region (.ks 3 r (.nil' fun c w ho hs=>⟨(J.2.1,A7 (H+1),J.2.2.1,J.2.2.2),hd,c8,jf c9 f3 [0,0,0,0,0] r ho hs⟩))))
     exact .exit fun c w ho hs=>⟨(g,B,C),hd,d,jf L b [0,0,0,0,0] r ho hs⟩
   exact .kn 4 288230376151720516 r (.condKF r r (.exit fun c w ho hs=>⟨(g,B,C),hd,d,jf D b [0,0,0,0,0] r ho hs⟩))
 rintro ⟨y,S,T⟩ hd c w ⟨A,i4,N,i,hok,hsym⟩
 obtain ⟨d0,d1⟩:=N.u2 x q
 refine Cod.at hok hsym (.sk 1 r ?_)
 have d2:=R1  (b3:=k) (b7:=a) i hd
 refine .callS (.f call64 r) (.o [0,0,0] r) d2 r r fun i5 i6 i7 d3 d4=>?_
 obtain ⟨U,d5,rfl,K,rfl,hd⟩:=d4
 obtain ⟨d6,d7,d8,i⟩:=d3.u4 d0 d1 N i
 refine .rn 5 r (.ks 3 r (.al CF r fun i8=>?_))
 refine .sa AE .z r (.kn 1 17984 r (.seq (.dr [0,1,3,2,4,5] 6 (.h r (fun _=>.lw B6 AE .z r .mk) (.fk 2 r (.ww r fun ex=>?_))))))
 have d9:=G6  (b3:=k) (b7:=a) i hd
 refine .callS (.f call38 r) (.o [1,1,1] r) d9 r r fun i9 j0 j1 e0 e1=>?_
 obtain ⟨f4,rfl,rfl,hd⟩:=e1
 obtain ⟨e3,g2,g3,i,K⟩:=e0.u5 d6 d7 d8 i K
 refine .rx 6 r (.so 6 r r r (.ck 1 r r (.ch r (fun _=>.lw B6 AE .p3 r .mk) tv)) (.ww r fun ex=>?_))
 exact .sa AE .p5 r (.sn 6 r r r (.ck 1 r r tv) (.fk 1 r (.e2 6 (.kn 1 448 r (.drop .z (.drop .z (.drop .p1 (.ret (B9 r (.w B6 AE r .p2 r (.t r (.t r .n))) e3 ⟨(U.1,f4,U.2),d5,r,K,hd⟩)))))))))
theorem TF {o0:A3} {o1:A2} {o2:A8} {a0 a1:Int} {Q:(Int×A3×A8)→Prop} (R6:UZ I gf5 o0) (hd:FZ o0 o1 o2 a0 a1 Q) :
  Fun prog 30 #[.pointer (some ⟨b4,0,none⟩),.int .i64 a0,.int .i64 a1] I [pto b4 (.cells (AK o0 gf5 b8) 121 (0,0)),OwnMap CL D6 false b8 o0.boxes,AW A5 o1,AW AY o2] (fun I_ v l=>∃ r gf10,v=.int .i64 r.1∧UZ I_ gf10 r.2.1∧l=[pto b4 (.cells (AK r.2.1 gf10 b8) 121 (0,0)),OwnMap CL D6 false b8 r.2.1.boxes,AW A5 o1,AW AY r.2.2]∧Q r):=by
 refine Fun.en func30 ntmps30 r fun w0 M=>?_
 refine .sk 1 r (.nk 7 3 r ?_)
 have x:=E6  (b4:=b4) (b8:=b8) R6 hd
 refine .callS (.f call85 r) (.o [0,0,0,0] r) x r r fun A e B b a=>?_
 rcases a with a | a
 · obtain ⟨g,i,rfl,c,rfl,hd⟩:=a
   have R6:=b.u1 R6
   refine .rn 4 r ?_
   have j:=LU (I:=e)  hd
   refine .callS (.f call97 r) .n j r r fun C D E k m=>?_
   obtain ⟨y,rfl,rfl,hd⟩:=m
   obtain ⟨p,c⟩:=k.u2 b c
   exact .rn 4 r (.kn 1 65 r (.q1 results30 p [0,0,0,0] r ⟨(y,g.1,g.2),i,r,c,r,hd⟩))
 obtain ⟨h,q,rfl,d,rfl,hd⟩:=a
 have R6:=b.u1 R6
 refine .rn 4 r ?_
 have s:=N2 (I:=e)  hd
 refine .callS (.f call97 r) (.o [3] r) s r r fun F G H t u=>?_
 obtain ⟨z,rfl,rfl,hd⟩:=u
 obtain ⟨w,d⟩:=t.u2 b d
 exact .rn 4 r (.kn 1 65 r (.q1 results30 w [1,1,1,0] r ⟨(z,h.2.1,h.2.2),q,r,d,r,hd⟩))
theorem RA {o0:A2} {Q:(Rows×Int)→Prop} (hd:GX o0 Q) :
  Fun prog 64 #[.pointer none] I [AW A5 o0] (fun I_ v l=>∃ r ga2,v=.tuple #[.agg (F8 r.1 ga2),.int .i64 r.2]∧NX I_ ga2 r.1∧l=[AW A5 o0]∧Q r):=by
 refine Fun.en func64 ntmps64 r fun w0 M=>.sr (.al CF r fun a=>.kn 1 5 r (.seq (.sk 1 r (.eqNilP pB r r r r (.no 37 r (.condKT r r (.sr (.bd CF FJ FI r (.sa AE .z r (.kn 1 12 r ?_))))))))))
 exact .ret (JG r (.w B6 AE r .z r (.t r .n)) rf (.o [1] r) ⟨(B1,10),((_,_),(_,_),(_,_)),r,⟨(.nil _ none 0),(.nil _ none 0),(.nil _ none 0)⟩,r,hd⟩)
theorem RC {o0:A3} {Q:Int→Prop} (R4:UZ I gf3 o0) (hd:GY o0 Q) :
  Fun prog 42 #[.pointer (some ⟨b2,0,none⟩)] I [pto b2 (.cells (AK o0 gf3 b6) 121 (0,0)),OwnMap CL D6 false b6 o0.boxes] (fun I_ v l=>∃ r,v=.int .i64 r∧l=[pto b2 (.cells (AK o0 gf3 b6) 121 (0,0)),OwnMap CL D6 false b6 o0.boxes]∧Q r):=by
 exact Fun.en func42 ntmps42 r fun w0 M=>.sr (.kn 1 1 r (.seq (.sk 1 r (.eqNilP pB r r r r (.no 17 r (.condKF r r (.sn 1 r (.sk 3 r (.lo KZ .z r (.ln HJ r (.kn 1 5 r (.q1 results42 rf [0,0] r ⟨(o0.stages.length:Int),r,r,hd⟩))))))))))))
theorem XM {o0:AZ} {Q:Int→Prop} (hd:JA o0 Q) :
  Fun prog 116 #[.pointer (some ⟨b2,0,none⟩)] I [pto b2 (.cells (BW o0 p3 c4 b8 b10) 213 (0,0)),OwnSl BQ 3 p3 c4 o0.row,OwnMap (Value.int .i64) BI true b8 o0.by_,OwnMap (Value.int .i64) BQ false b10 o0.often] (fun I_ v l=>∃ r,v=.int .i64 r∧l=[pto b2 (.cells (BW o0 p3 c4 b8 b10) 213 (0,0)),OwnSl BQ 3 p3 c4 o0.row,OwnMap (Value.int .i64) BI true b8 o0.by_,OwnMap (Value.int .i64) BQ false b10 o0.often]∧Q r):=by
 exact Fun.en func116 ntmps116 r fun w0 M=>.sr (.kn 1 1 r (.seq (.sk 1 r (.eqNilP aF r r r r (.no 17 r (.condKF r r (.sn 1 r (.sk 3 r (.lo AP .z r (.kn 1 5 r (.q1 results116 rf [0,0,0,0] r ⟨o0.sent,r,r,hd⟩)))))))))))
theorem XN {Q:Int→Prop} (hd:RY Q) :
  Fun prog 116 #[.pointer none] I [] (fun I_ v l=>∃ r,v=.int .i64 r∧l=[]∧Q r):=by
 exact Fun.en func116 ntmps116 r fun w0 M=>.sr (.kn 1 1 r (.seq (.sk 1 r (.eqNilP aF r r r r (.no 17 r (.condKT r r (.sr (.kn 1 4 r (.q1 results116 rf [] r ⟨0,r,r,hd⟩)))))))))
theorem Z0 {o0:A8} {a0:Option Nat} {Q:Int→Prop} (hd:NL o0 a0 Q) :
  Fun prog 116 #[.pointer (eJ a0)] I [AW AY o0] (fun I_ v l=>∃ r,v=.int .i64 r∧l=[AW AY o0]∧Q r):=by
 rcases a0 with _ | b
 · have hd:=hd.1 r
   refine (Fun.frame (r:=[AW AY o0]) (XN  hd)).conseq fun I_ v l hle h=>?_
   obtain ⟨a,rfl,rr,rfl,rfl,hq⟩:=h
   exact ⟨rr,r,r,hq⟩
 obtain ⟨x,hx,hd⟩:=hd.2 b rfl
 refine Fun.bankR hx (fun aa _=>XM (b2:=b) (p3:=aa.1) (c4:=aa.2.1) (b8:=aa.2.2.1) (b10:=aa.2.2.2)  hd) ?_
 rintro aa I_ v l hle hf ⟨rr,rfl,rfl,hq⟩
 exact ⟨(aa.1,aa.2.1,aa.2.2.1,aa.2.2.2),[],r,tv,rr,r,r,hq⟩
theorem SK {o0:A3} {o1:A8} {Q:Int→Prop} (R5:UZ I gf4 o0) (hd:FP o0 o1 Q) :
  Fun prog 43 #[.pointer (some ⟨b3,0,none⟩)] I [pto b3 (.cells (AK o0 gf4 b7) 121 (0,0)),OwnMap CL D6 false b7 o0.boxes,AW AY o1] (fun I_ v l=>∃ r,v=.int .i64 r∧l=[pto b3 (.cells (AK o0 gf4 b7) 121 (0,0)),OwnMap CL D6 false b7 o0.boxes,AW AY o1]∧Q r):=by
 refine Fun.en func43 ntmps43 r fun w0 M=>?_
 refine .sk 1 r (.nk 1 1 r (.no 9 r (.seq (.sk 1 r (.neNilP pB r r r r (.no 137 r (.condKT r r (.sk 3 r (.lo isAgg118 .z r ?_)))))))))
 refine .rangeM jK .p1 r r r fun t=>?_
 refine .no 4105 r (.block (.lp hd [12,0] [1,1] r (fun j E l (g,b)=>j ((3,.int .i64 b) :: E) (OwnIt CL D6 false b7 t o0.boxes g none :: l)) (ji rf [0,0,0] r) ?_))
 rintro ⟨g,b⟩ p hd
 refine jq r fun q a=>?_
 have R5:=a.u1 R5
 refine .sr (.nextM .z r hd r r (fun hd h=>?_) (fun y s A u hd i k h=>?_))
 · exact .kn 1 20489 r (.seq (.condKF r r (.en 9 r (.sr (.kn 2 5 r (.itEnd .z (.q1 results43 a [1,0,0] r ⟨b,r,r,hd⟩)))))))
 cases i
 cases k
 refine .kn 1 20489 r (.seq (.condKT r r (.sn 4105 r (.block (.sr (.entryM .z r r r (.kn 2 4137 r (.region (.ks 2 r ?_)))))))))
 have m:=Z0 (I:=q)  hd
 refine .callS (.f call116 r) (.o [2] r) m r r fun w B x c d=>?_
 obtain ⟨n,rfl,rfl,hd⟩:=d
 obtain ⟨e,R5⟩:=c.u2 a R5
 exact .rn 3 r (.ks 2 r (.nil' (je (s,A7 (b+n)) hd e [1,1,0] r)))
theorem RO {o0:A3} {o1:A2} {a0:Int} {Q:Int→Prop} (R5:UZ I gf4 o0) (hd:F7 o0 o1 a0 Q) :
  Fun prog 28 #[.pointer (some ⟨b3,0,none⟩),.int .i64 a0] I [pto b3 (.cells (AK o0 gf4 b7) 121 (0,0)),OwnMap CL D6 false b7 o0.boxes,AW A5 o1] (fun I_ v l=>∃ r,v=.int .i64 r∧l=[pto b3 (.cells (AK o0 gf4 b7) 121 (0,0)),OwnMap CL D6 false b7 o0.boxes,AW A5 o1]∧Q r):=by
 refine Fun.en func28 ntmps28 r fun w0 M=>?_
 refine .sr (.kn 1 3 r (.seq (.sk 2 r ?_)))
 have d:=FB  (b3:=b3) (b7:=b7) R5 hd
 refine .callS (.f call96 r) (.o [0,0,0] r) d r r fun t u w a e=>?_
 obtain ⟨x,rfl,rfl,hd⟩:=e
 have R5:=a.u1 R5
 refine .rn 3 r (.kn 1 259 r (.condP r hd (fun g hd=>?_) fun g hd=>?_))
 · exact .sr (.kn 1 17 r (.q1 results28 a [0,0,0] r ⟨0,r,r,hd⟩))
 refine .sn 3 r (.sk 3 r (.lo isAgg119 .z r (.ks 1 r ?_)))
 obtain ⟨m,y,h,A,o28,n,i,hd⟩:=R5.2.2.ix hd
 refine .ixb QO sizeOf122 n m h r (.ldb 0 K0 i r ?_)
 obtain ⟨p,c,j,b,hd⟩:=hd
 refine .bankO .p2 b fun ⟨k,q⟩ s=>?_
 exact .rn 5 r (.sub (E':=[(0,_),(1,_),(9,_),(10,_),(11,_),(12,_),(13,_),(14,_),(15,.pointer (some ⟨p,0,none⟩))]) ⟨r,r,r,r,r,r,r,r,(by rw [j]; rfl),tv⟩ (.ks 2 r (.lo AP .z r (.ks 1 r (.bankB (B:=A5) (k,q) c s b (.o [0,0,0] r) (.no 17 r (.q1 results28 a [1,1,0] r ⟨c.at_,r,r,hd⟩)))))))
theorem mX {Q:Bool→Prop} (hd:TS Q) :
  BH prog 27 [] I (fun _=>XX Q):=by
 refine Fun.en func27 ntmps27 r fun w0 M=>?_
 refine .bank0 A5 (.bank0 AY (.sk 1 r (.ns 0 r (.bd HT VU VR r (.bd HT VU VR r (.bs 2 D5 D8 HT r fun m0=>?_))))))
 refine .pubB (El:=B5) (ys:=([({ Row:=0,Col:=1,Val:=3 }:A1),({ Row:=1,Col:=0,Val:=5 }:A1)]:List A1)) (k:=2) .z (RepCs.cons (cs:=[.int .i64 0,.int .i64 1,.int .i64 3]) r (RepCs.cons (cs:=[.int .i64 1,.int .i64 0,.int .i64 5]) r .nil)) r fun m1 e8 D=>?_
 have e9:=NS D hd
 refine .call call60 r e9 r r fun m2 g6 f0 f1=>?_
 obtain ⟨l,i,rfl,c,hd⟩:=f1
 obtain ⟨f2,D⟩:=f0.u2 e8 D
 refine .ks 3 r (.al CF r fun m3=>?_)
 refine .sa AE .z r (.kn 1 2 r (.seq (.dr [0,1,4,2,3,999] 5 (.h r (fun _=>.lw B6 AE .z r .mk) (.h r (fun _=>.lw B6 AE .z r .mk) (.a (fun b=>.pointer (some ⟨b,0,none⟩)) (fun b=>pto b (.cells #[.int .i64 0,.int .i64 0,.int .i64 0,.slice none 0 0,.slice none 0 0,.slice none 0 0,.int .i64 0,.int .i64 0,.slice none 0 0,.slice none 0 0,.slice none 0 0,.int .i64 0,.int .i64 0,.slice none 0 0,.slice none 0 0,.slice none 0 0,.int .i64 0,.int .i64 0,.int .i64 0] 40 (0,0))) r r r r (fun _ L hL ex=>.al mA r fun b=>.mk (val:=fun b=>.pointer (some ⟨b,0,none⟩)) (atom:=fun b=>pto b (.cells #[.int .i64 0,.int .i64 0,.int .i64 0,.slice none 0 0,.slice none 0 0,.slice none 0 0,.int .i64 0,.int .i64 0,.slice none 0 0,.slice none 0 0,.slice none 0 0,.int .i64 0,.int .i64 0,.slice none 0 0,.slice none 0 0,.slice none 0 0,.int .i64 0,.int .i64 0,.int .i64 0] 40 (0,0))) hL b) (.ww r fun ex=>?_)))))))
 have f3:=mW (I:=g6) hd
 refine .call call95 r f3 r r fun m4 g7 f4 f5=>?_
 obtain ⟨u,n,rfl,e,hd⟩:=f5
 obtain ⟨f6,c⟩:=f4.u2 f2 c
 refine .so 3 r r r (.ch r (fun _=>.lw B6 AE .z r .mk) (.ch r (fun _=>.lw B6 AE .z r .mk) tv)) (.h r (fun _=>.bd mA AcZ AcW r .mk) (.b r fun m5=>DrawD.nop ?_))
 refine .e2 5 (.sa IU .p3 r (.no 8 r (.drop .z (.sr (.lw LS IU .p2 r ?_)))))
 have f7:=P2 (I:=g7) (gc3:=(i,i,n)) ⟨c,c,e⟩ hd
 refine .callS (.f call22 r) (.o [1,0] r) f7 r r fun m6 m7 m8 f8 p=>?_
 rcases p with p | p
 · obtain ⟨m9,rfl,rfl,hd⟩:=p; exact hd.elim
 obtain ⟨n0,q,h3,s,rfl,E,rfl,hd⟩:=p
 obtain ⟨f9,c,e⟩:=f8.u3 f6 c e
 refine .rn 5 r (.ks 5 r (.nk 56 1 r (.bd Ab9 underlying47 AeP r ?_)))
 have G:=N3  (b4:=q) (b8:=s) E hd
 refine .callS (.f call25 r) (.o [2,2,0,0] r) G r r fun h4 h5 h6 H J=>?_
 obtain ⟨h7,g8,rfl,t,rfl,hd⟩:=J
 obtain ⟨K,c,e,E⟩:=H.u4 f9 c e E
 refine .rn 5 r (.ks 1 r (.nk 120 1 r ?_))
 have O:=TF  (b4:=q) (b8:=s) t hd
 refine .callS (.f call30 r) (.o [0,0,0,0] r) O r r fun h8 F h9 P S=>?_
 obtain ⟨i0,g9,rfl,d,rfl,hd⟩:=S
 obtain ⟨T,c,e,t⟩:=P.u4 K c e t
 refine .rn 5 r (.kn 1 248 r (.seq (.dr [0,1,8,2,3,4,5,6,7,999,9,10] 11 (.h r (fun _=>.lw LS IU .p4 r .mk) (.h r (fun _=>.lw LS IU .p4 r .mk) (.a (fun b=>.pointer (some ⟨b,0,none⟩)) (fun b=>pto b (.cells #[.int .i64 0,.int .i64 0,.slice none 0 0,.slice none 0 0,.slice none 0 0] 33 (0,0))) r r r r (fun _ L hL ex=>.al CF r fun b=>.mk (val:=fun b=>.pointer (some ⟨b,0,none⟩)) (atom:=fun b=>pto b (.cells #[.int .i64 0,.int .i64 0,.slice none 0 0,.slice none 0 0,.slice none 0 0] 33 (0,0))) hL b) (.ww r fun ex=>?_)))))))
 have U:=SI (I:=F) (gc1:=(i,i,n)) (a0:=({ Ring:=5,A:=l.1,B:=l.1,Mask:=u,R:=2,C:=1,Room:=1 }:BF)) ⟨c,c,e⟩ hd
 refine .cq call35 U r fun i1 hd=>?_
 refine .so 5 r r r (.ch r (fun _=>.lw LS IU .p4 r .mk) tv) (.ww r fun ex=>?_)
 have V:=WB (I:=F) (gc1:=(i,i,n)) (a0:=({ Ring:=5,A:=l.1,B:=l.1,Mask:=u,R:=2,C:=1,Room:=1 }:BF)) ⟨c,c,e⟩ (.nil _ none 0) hd
 refine .call call17 r V r r fun i2 g0 W X=>?_
 obtain ⟨i3,h0,rfl,g1,hd⟩:=X
 obtain ⟨Y,c,e,d⟩:=W.u4 T c e d
 refine .so 5 r r r tv (.fk 4 r (.b r fun i4=>DrawD.nop ?_))
 refine .ww r fun ex=>?_
 refine .sa AE .p5 r (.sn 6 r r r (.ck 2 r r tv) (.fk 1 r (.e2 11 (.ks 1 r (.ns 2040 r (.lw B6 AE .p5 r ?_))))))
 have Z:=dP g1 hd
 refine .cq call20 Z r fun i5 hd=>?_
 refine .kn 5 7928 r (.drop .p5 (.sr (.bd mA AcZ AcW r ?_)))
 have a1:=P2 (I:=g0) (gc3:=(((_,_),(_,_),(_,_)),((_,_),(_,_),(_,_)),((_,_),(_,_),(_,_)))) ⟨⟨(.nil _ none 0),(.nil _ none 0),(.nil _ none 0)⟩,⟨(.nil _ none 0),(.nil _ none 0),(.nil _ none 0)⟩,⟨(.nil _ none 0),(.nil _ none 0),(.nil _ none 0)⟩⟩ hd
 refine .callS (.f call22 r) (.o [2,2] r) a1 r r fun i6 g2 i7 a2 j=>?_
 rcases j with j | j
 · obtain ⟨i8,rfl,rfl,hd⟩:=j
   obtain ⟨a3,c,e,d⟩:=a2.u4 Y c e d
   refine .rn 5 r (.ks 5 r (.nk 24312 1 r (.nk 57080 1 r ?_)))
   have a4:=RA (I:=g2)  hd
   refine .callS (.f call64 r) (.o [0] r) a4 r r fun i9 j0 j1 a5 a6=>?_
   obtain ⟨j2,h1,rfl,j3,rfl,hd⟩:=a6
   obtain ⟨m,c,e,d⟩:=a5.u4 a3 c e d
   refine .rn 5 r (.ks 3 r (.al CF r fun j4=>?_))
   refine .sa AE .z r (.kn 1 155384 r (.drop .z (.sk 3 r (.spl hd [63,64] r (fun a7 hd=>?_) fun a7 hd=>?_))))
   · refine .ks 3 r (.spl hd [6,65,66,67] r (fun a8 hd=>?_) fun a8 hd=>?_)
     · refine .ks 4 r (.spl hd [69,70,71] r (fun a9 hd=>?_) fun a9 hd=>?_)
       · refine .ks 1 r ?_
         have b0:=RC  (b2:=q) (b6:=s) d hd
         refine .yes r (.callS (.f call42 r) (.o [2,2] r) b0 r r fun j5 j6 j7 b1 b5=>?_)
         obtain ⟨j8,rfl,rfl,hd⟩:=b5
         obtain ⟨v,c,e,d⟩:=b1.u4 m c e d
         refine .rn 5 r (.ks 3 r (.spl hd [74,75,76] r (fun b9 hd=>?_) fun b9 hd=>?_))
         · refine .ks 1 r ?_
           have c0:=SK  (b3:=q) (b7:=s) d hd
           refine .yes r (.callS (.f call43 r) (.o [0,0,1] r) c0 r r fun j9 k0 k1 c1 c2=>?_)
           obtain ⟨k2,rfl,rfl,hd⟩:=c2
           obtain ⟨w,c,e,d⟩:=c1.u4 v c e d
           refine .rn 5 r (.ks 3 r (.spl hd [79,80,81] r (fun c3 hd=>?_) fun c3 hd=>?_))
           · refine .ks 1 r ?_
             have c4:=G6  (b3:=q) (b7:=s) d hd
             refine .yes r (.callS (.f call38 r) (.o [0,0,1] r) c4 r r fun k3 g3 k4 c5 c6=>?_)
             obtain ⟨k5,rfl,rfl,hd⟩:=c6
             obtain ⟨g,c,e,d⟩:=c5.u4 w c e d
             refine .rn 5 r (.ks 3 r (.spl hd [84,85,86] r (fun c7 hd=>?_) fun c7 hd=>?_))
             · refine .ks 4 r (.spl hd [88,89,90] r (fun c8 hd=>?_) fun c8 hd=>?_)
               · refine .ks 3 r (.spl hd [9,91,92,93] r (fun c9 hd=>?_) fun c9 hd=>?_)
                 · refine .ks 4 r (.spl hd [95,96,97] r (fun d0 hd=>?_) fun d0 hd=>?_)
                   · refine .ks 3 r (.spl hd [12,98,99,100] r (fun d1 hd=>?_) fun d1 hd=>?_)
                     · refine .ks 4 r (.spl hd [102,103,104] r (fun d2 hd=>?_) fun d2 hd=>?_)
                       · refine .ks 4 r (.spl hd [106,107,108] r (fun d3 hd=>?_) fun d3 hd=>?_)
                         · refine .yes r (.lw LS IU .p4 r ?_)
                           have d4:=SI (I:=g3) (gc1:=(i,i,n)) (a0:=({ Ring:=5,A:=l.1,B:=l.1,Mask:=u,R:=2,C:=1,Room:=1 }:BF)) ⟨c,c,e⟩ hd
                           refine .yes r (.callP call35 r d4 r r fun k6 d5=>?_)
                           obtain ⟨k7,rfl,hd⟩:=d5
                           refine .ks 3 r (.spl hd [111,112,113] r (fun d6 hd=>?_) fun d6 hd=>?_)
                           · refine .ks 1 r ?_
                             have d7:=L4  (b3:=q) (b7:=s) d hd
                             refine .yes r (.callS (.f call29 r) (.o [0,0,0] r) d7 r r fun k8 k9 l0 d8 d9=>?_)
                             obtain ⟨l1,rfl,rfl,hd⟩:=d9
                             obtain ⟨x,c,e,d⟩:=d8.u4 g c e d
                             refine .rn 5 r (.ks 3 r (.spl hd [116,117,118] r (fun e0 hd=>?_) fun e0 hd=>?_))
                             · refine .ks 1 r ?_
                               have e1:=RO  (b3:=q) (b7:=s) d hd
                               refine .yes r (.callS (.f call28 r) (.o [0,0,0] r) e1 r r fun l2 g4 l3 e3 e4=>?_)
                               obtain ⟨l4,rfl,rfl,hd⟩:=e4
                               obtain ⟨y,c,e,d⟩:=e3.u4 x c e d
                               refine .rn 5 r (.ks 3 r (.spl hd [121,122,123] r (fun e5 hd=>?_) fun e5 hd=>?_))
                               · refine .yes r (.lw LS IU .p4 r ?_)
                                 have e6:=O4 (I:=g4) (gc1:=(i,i,n)) (a0:=({ Ring:=5,A:=l.1,B:=l.1,Mask:=u,R:=2,C:=1,Room:=1 }:BF)) ⟨c,c,e⟩ hd
                                 refine .yes r (.callP call33 r e6 r r fun l5 e7=>?_)
                                 obtain ⟨g5,rfl,hd⟩:=e7
                                 exact .kn 3 1 r (.drop .z (.drop .z (.drop .p2 (.r1 results27 r y ⟨(g5==0),r,hd⟩))))
                               exact .kn 5 1 r (.drop .z (.drop .z (.drop .p2 (.r1 results27 r y ⟨false,r,hd⟩))))
                             exact .kn 10 1 r (.drop .z (.drop .z (.drop .p2 (.r1 results27 r x ⟨false,r,hd⟩))))
                           exact .kn 15 1 r (.drop .z (.drop .z (.drop .p2 (.r1 results27 r g ⟨false,r,hd⟩))))
                         exact .kn 20 1 r (.drop .z (.drop .z (.drop .p2 (.r1 results27 r g ⟨false,r,hd⟩))))
                       exact .kn 24 1 r (.drop .z (.drop .z (.drop .p2 (.r1 results27 r g ⟨false,r,hd⟩))))
                     exact .kn 28 1 r (.drop .z (.drop .z (.drop .p2 (.r1 results27 r g ⟨false,r,hd⟩))))
                   exact .kn 31 1 r (.drop .z (.drop .z (.drop .p2 (.r1 results27 r g ⟨false,r,hd⟩))))
                 exact .kn 35 1 r (.drop .z (.drop .z (.drop .p2 (.r1 results27 r g ⟨false,r,hd⟩))))
               exact .kn 38 1 r (.drop .z (.drop .z (.drop .p2 (.r1 results27 r g ⟨false,r,hd⟩))))
             exact .kn 42 1 r (.drop .z (.drop .z (.drop .p2 (.r1 results27 r g ⟨false,r,hd⟩))))
           exact .kn 47 1 r (.drop .z (.drop .z (.drop .p2 (.r1 results27 r w ⟨false,r,hd⟩))))
         exact .kn 52 1 r (.drop .z (.drop .z (.drop .p2 (.r1 results27 r v ⟨false,r,hd⟩))))
       exact .kn 57 1 r (.drop .p2 (.drop .p2 (.drop .p2 (.r1 results27 r m ⟨false,r,hd⟩))))
     exact .kn 61 1 r (.drop .p2 (.drop .p2 (.drop .p2 (.r1 results27 r m ⟨false,r,hd⟩))))
   exact .kn 64 1 r (.drop .p2 (.drop .p2 (.drop .p2 (.r1 results27 r m ⟨false,r,hd⟩))))
 obtain ⟨l6,l7,h2,l8,rfl,l9,rfl,hd⟩:=j; exact hd.elim
end Go.Proofs.YtbohadngdkjljaaGreat
