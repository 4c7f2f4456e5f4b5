/- The walks. -/
import Derived.Test.YtbohadngdkjljaaGreatV2
namespace Go.Proofs.YtbohadngdkjljaaGreat
open Go Go.Fw
set_option linter.unusedVariables false
set_option linter.unusedSimpArgs false
set_option maxRecDepth 8000
set_option maxHeartbeats 1000000
open Tryz
variable {I:IH}
variable {b2 b3 b4 b5 b6 b7 b8 b9 c2 c3 c4 c5 c6 c8 c9 lr b10 b11 b12 b13 b15 b18 b19 b20 b21 b22 b24 c11 c15 c17 c18 c19 c20 c22 c25 c28 c31 c34:Nat}
variable {p1 p2 p3 p4 p5 p7 p8 p10 p14 p16 p17 p18 p19 p21 p24 p27 p30 p33:Option Addr}
variable {Rr:Nat→HA}
variable {ga1 ga3 ga5 ga12 ga14 ga16:kU}
variable {gc1 gc3 gc8:xK}
variable {ge1 ge2 ge7 ge11:aTe}
variable {gf3 gf4 gf5 gf6 gf8:aTf}
variable {gh5:aTh}
variable {gi1:aTi}
variable {gj1:aTj}
variable {gl4 gl5 gl13:aTl}
variable {gm5:aTm}
theorem N4 {a0 a1:Int} {Q:Int→Prop} (hd:HW a0 a1 Q) :
  BH prog 56 [.int .i64 a0,.int .i64 a1] I (fun _=>bI Q):=by
 refine Fun.en func56 ntmps56 r fun w0 M=>.sr (.kn 1 3 r (.seq (.sk 3 r (.spl hd [6,7] r (fun a hd=>?_) fun a hd=>?_))))
 · exact .kn 3 1027 r (.condKT r r (.sr (.kn 1 16 r (.r0 results56 r ⟨0,r,hd⟩))))
 refine .kn 3 1027 r (.condP r hd (fun b hd=>?_) fun b hd=>?_)
 · exact .sr (.kn 1 16 r (.r0 results56 r ⟨0,r,hd⟩))
 refine .sn 3 r (.sk 2 r ?_)
 obtain ⟨c,hd⟩:=hd
 exact .rem r r c r r (.kn 1 16 r (.r0 results56 r ⟨(a0.tmod a1),r,hd⟩))
theorem WC {a0:GB} {a1:Int} {Q:(List EI)→Prop} (R3:RepSl UM I p1 c2 a0.L) (hd:I3 a0 a1 Q) :
  BH prog 18 [.agg #[.slice p1 a0.L.length c2,.int .u8 a0.Windows],.int .i64 a1] I (fun I_ v=>∃ r p4 c5,v=.slice p4 r.length c5∧RepSl UM I_ p4 c5 r∧Q r):=by
 refine Fun.en func18 ntmps18 r fun w0 M=>.sr (.bx r fun Z=>.ks 1 r (.nk 6 1 r (.no 38 r (.seq (.sr (.kn 1 102 r (.block (.own0 UM 47 (.lx hd [2,1] [1] r (fun j E l (a,e)=>fun c w=>∃ f g,j ⟨48,[],none⟩ (fun I_=>True) ((5,.slice f a.length g) :: (6,.int .i64 e) :: E) (OwnSl UM 47 f g a :: l) c w) (fun c w ho hs=>⟨_,_,jf rf tv [0,0] r ho hs⟩) ?_)))))))))
 rintro ⟨a,e⟩ P hd c w ⟨f,g,d,b,_,hok,hsym⟩
 have R3:=b.u1 R3
 refine Cod.at hok hsym (.seq (.sk 2 r (.lo isAgg26 .p1 r (.ln VT r (.ks 2 r (.spl hd [12,13] r (fun n hd=>?_) fun n hd=>?_))))))
 · refine .kn 3 65638 r (.condP r hd (fun o hd=>?_) fun o hd=>?_)
   · refine .sn 102 r (.seq (.block (.sk 1 r (.lo isAgg26 .p1 r (.ks 1 r ?_)))))
     obtain ⟨H,R,p,S,o173,J,q,hd⟩:=R3.ix hd
     refine .ixb VT T6 J H p r (.ldW fW T6 q r r r r (.al Ab9 r fun T=>.sa T6 .z r (.nk 230 1 r (.lo isAgg45 .z r ?_))))
     have s:=N4 (I:=d) hd
     refine .cq call56 s r fun h hd=>.ks 2 r (.s1 sizeOf45 .z r (.nk 230 1 r (.lo AP .z r (.ks 1 r ?_))))
     have t:=N4 (I:=d) hd
     refine .cq call56 t r fun i hd=>.ks 1 r (.s1 DN .z r (.nk 230 1 r (.lo AP .z r (.ks 1 r ?_))))
     have u:=N4 (I:=d) hd
     refine .cq call56 u r fun k hd=>.ks 1 r (.s1 DN .z r (.nk 230 1 r (.lo AP .z r ?_)))
     have x:=N4 (I:=d) hd
     refine .cq call56 x r fun m hd=>.ks 1 r (.s1 DN .z r (.no 230 r (.region (.ks 1 r (.lw fW T6 .z r (.bs 1 VT T6 Ab9 r fun U=>?_))))))
     obtain ⟨y,hd⟩:=hd
     exact .append (ys:=[({ Kind:=A7 (h+1),A:=i,B:=k,K:=m }:EI)]) 32 .p2 VT VT AeO r r r r r r r r r (.box .z (.one r) r) y r r fun V W=>.kn 1 102 r (.drop .p1 (.drop .p1 (.region (.ks 3 r (.nil' fun c w ho hs=>⟨((a++([({ Kind:=A7 (h+1),A:=i,B:=k,K:=m }:EI)])),A7 (e+1)),hd,_,_,jf b tv [0,0] r ho hs⟩)))))
   refine .en 32 r (.drop .p1 (.sr (.kn 2 16 r (.pub .z fun X C N=>?_))))
   have D:=C.u1 b
   exact .r1 results18 r D ⟨a,_,_,r,N,hd⟩
 refine .kn 3 65638 r (.condKF r r (.en 32 r (.drop .p1 (.sr (.kn 2 16 r (.pub .z fun Y F O=>?_))))))
 have G:=F.u1 b
 exact .r1 results18 r G ⟨a,_,_,r,O,hd⟩
theorem SM {a0:Int} {Q:Int→Prop} (hd:LZ a0 Q) :
  BH prog 132 [.int .u8 a0] I (fun I_ v=>∃ r,v=.int .u8 r∧Q r):=by
 exact Fun.en func132 ntmps132 r fun w0 M=>.sk 1 r (.nk 1 1 r (.rem r r (by decide) r r (.kn 1 4 r (.r0 results132 r ⟨(a0.tmod 14),r,hd⟩))))
theorem Y6 {a0:Int} {Q:Int→Prop} (hd:OD a0 Q) :
  BH prog 68 [.int .i64 a0] I (fun _=>bI Q):=by
 refine Fun.en func68 ntmps68 r fun w0 M=>.sr (.kn 1 1 r (.seq (.sk 3 r (.spl hd [4,5] r (fun a hd=>?_) fun a hd=>?_))))
 · exact .kn 3 257 r (.condKT r r (.sr (.kn 1 4 r (.r0 results68 r ⟨1,r,hd⟩))))
 refine .kn 3 257 r (.condP r hd (fun b hd=>?_) fun b hd=>?_)
 · exact .sr (.kn 1 4 r (.r0 results68 r ⟨1,r,hd⟩))
 exact .sn 1 r (.sr (.kn 2 4 r (.r0 results68 r ⟨a0,r,hd⟩)))
theorem bF {a0:Int} {Q:Int→Prop} (hd:QG a0 Q) :
  BH prog 258 [.int .u8 a0] I (fun _=>bI Q):=by
 exact Fun.en func258 ntmps258 r fun w0 M=>.sk 1 r (.nk 1 1 r (.conv un5 XC r r r (.rem r r (by decide) r r (.kn 1 4 r (.r0 results258 r ⟨((A7 (a0)).tmod 40),r,hd⟩)))))
theorem pZ {a0:List A1} {Q:(List A1)→Prop} (R3:RepSl B5 I p1 c2 a0) (hd:WW a0 Q) :
  BH prog 259 [.slice p1 a0.length c2] I (Ae9 Q):=by
 refine Fun.en func259 ntmps259 r fun w0 M=>.sr (.kn 1 1 r (.seq (.sk 1 r (.ln D5 r (.kn 1 33 r (.condP r hd (fun c hd=>?_) fun c hd=>?_))))))
 · refine .region (.ks 1 r ?_)
   obtain ⟨j,k,g,hd⟩:=hd
   have a:Int.toNat 0≤Int.toNat 60:=by omega
   have b:Int.toNat 60≤a0.length:=by omega
   obtain ⟨h,i,d,e,f⟩:=RepSl.sliceW R3 (Int.toNat 0) (Int.toNat 60) c2 a b (.inl rfl)
   exact .sliceW (L:=Int.toNat 0) (H:=Int.toNat 60) (cm:=c2) D5 D8 r r R3.1 r r r (.inl ⟨r,r⟩) (.inr ⟨_,_,r,(by omega),r⟩) (.inl r) a b r d e r r (.ks 1 r (.nk 1 2 r (.no 4 r (.r0 results259 r ⟨((a0.take (Int.toNat 60)).drop (Int.toNat 0)),_,_,r,f,hd⟩))))
 exact .sn 1 r (.sr (.kn 2 4 r (.r0 results259 r ⟨a0,_,_,r,R3,hd⟩)))
theorem mY {a0:Int×Int} {a1:List A1} {Q:Rows→Prop} (R3:RepSl B5 I p1 c2 a1) (hd:TN a0 a1 Q) :
  BH prog 209 [.agg #[.int .u8 a0.1,.int .u8 a0.2],.slice p1 a1.length c2] I (o7_ Q):=by
 refine Fun.en func209 ntmps209 r fun w0 M=>?_
 refine .sr (.bx r fun e7=>?_)
 refine .al CF r fun e8=>?_
 refine .no 22 r (.seq (.dr [0,1,3,4,2,5,6] 7 (.h r (fun _=>.ixArr (i:=0) vK wN r r (by decide) (o:=0) r r r .mk) (.hl pC 1 r (.h r (fun _=>.ixArr (i:=1) vK wN r r (by decide) (o:=1) r r r .mk) (.hl pC 1 r (.ww r fun ex=>?_)))))))
 have b2:=bF (I:=I) hd
 refine .cq call258 b2 r fun b0 hd=>?_
 refine .so 2 r r r (.ch r (fun _=>.lo pC .p1 r .mk) (.ch r (fun _=>.ixArr (i:=1) vK wN r r (by decide) (o:=1) r r r .mk) tv)) (.ww r fun ex=>?_)
 have b3:=bF (I:=I) hd
 refine .cq call258 b3 r fun b1 hd=>?_
 refine .so 2 r r r tv (.fk 1 r (.e2 7 (.kn 1 114 r (.drop .p1 (.sk 1 r (.nk 242 1 r ?_))))))
 have b4:=pZ R3 hd
 refine .call call259 r b4 r r fun e9 f0 t b5=>?_
 obtain ⟨f1,f2,f3,rfl,u,hd⟩:=b5
 have R3:=t.u1 R3
 refine .kn 1 242 r (.seq (.sr (.kn 1 498 r (.block (.own0 B5 103 (.lx hd [6,5,4,1] [1] r (fun j E l (b,d)=>fun c w=>∃ g k,j ⟨73,[],none⟩ (fun I_=>True) ((7,.slice g b.length k) :: (8,.int .i64 d) :: E) (OwnSl B5 103 g k b :: l) c w) (fun c w ho hs=>⟨_,_,jf rf tv [0,0] r ho hs⟩) ?_))))))
 rintro ⟨b,d⟩ c3 hd c w ⟨g,k,c5,a,_,hok,hsym⟩
 obtain ⟨v,u⟩:=a.u2 t u
 refine Cod.at hok hsym (.seq (.sk 2 r (.ln D5 r (.kn 1 8389106 r (.condP r hd (fun x hd=>?_) fun x hd=>?_)))))
 · refine .sn 498 r (.seq (.block (.sk 2 r ?_)))
   obtain ⟨b6,e,y,c6,o324,b7,A,hd⟩:=u.ix hd
   refine .ixb D5 D8 b7 b6 y r (.ldW isAgg103 D8 A r r r r (.al HT r fun c7=>?_))
   refine .sa D8 .z r (.no 1010 r (.seq (.sk 1 r (.lo AP .z r (.ks 2 r (.spl hd [32,33] r (fun B hd=>?_) fun B hd=>?_))))))
   · exact .kn 12 35184372089842 r (.condKT r r (.en 498 r (.drop .z (.region (.ks 3 r (.nil' fun c w ho hs=>⟨(b,A7 (d+1)),hd,_,_,jf a tv [0,0] r ho hs⟩))))))
   refine .ks 1 r (.yes r (.lo AP .z r (.ks 3 r (.spl hd [36,37,38] r (fun C hd=>?_) fun C hd=>?_))))
   · exact .kn 7 35184372089842 r (.condKT r r (.en 498 r (.drop .z (.region (.ks 3 r (.nil' fun c w ho hs=>⟨(b,A7 (d+1)),hd,_,_,jf a tv [0,0] r ho hs⟩))))))
   refine .ks 4 r (.spl hd [40,41,42] r (fun D hd=>?_) fun D hd=>?_)
   · exact .kn 3 35184372089842 r (.condKT r r (.en 498 r (.drop .z (.region (.ks 3 r (.nil' fun c w ho hs=>⟨(b,A7 (d+1)),hd,_,_,jf a tv [0,0] r ho hs⟩))))))
   refine .kn 3 35184372089842 r (.condP r hd (fun F hd=>?_) fun F hd=>?_)
   · exact .en 498 r (.drop .z (.region (.ks 3 r (.nil' fun c w ho hs=>⟨(b,A7 (d+1)),hd,_,_,jf a tv [0,0] r ho hs⟩))))
   refine .sn 1010 r (.sk 1 r (.lo AP .z r (.ks 1 r ?_)))
   obtain ⟨G,hd⟩:=hd
   refine .rem r r G r r (.ks 1 r (.s1 DN .z r (.nk 1010 1 r (.lo AP .z r (.ks 1 r ?_)))))
   obtain ⟨H,hd⟩:=hd
   refine .rem r r H r r (.ks 1 r (.s1 DN .z r (.no 1010 r (.region (.ks 1 r (.lw isAgg103 D8 .z r (.bs 1 D5 D8 HT r fun c8=>?_)))))))
   obtain ⟨J,hd⟩:=hd
   refine .append (ys:=[({ Row:=e.Row.tmod b0,Col:=e.Col.tmod b1,Val:=e.Val }:A1)]) 24 .p2 D5 D5 UQ r r r r r r r r r (.box .z (.one r) r) J r r fun c9 d0=>?_
   exact .kn 1 498 r (.drop .p1 (.drop .p1 (.region (.ks 3 r (.nil' fun c w ho hs=>⟨((b++([({ Row:=e.Row.tmod b0,Col:=e.Col.tmod b1,Val:=e.Val }:A1)])),A7 (d+1)),hd,_,_,jf a tv [0,0] r ho hs⟩)))))
 refine .en 240 r (.sk 3 r (.pub .z fun d1 K m=>?_))
 obtain ⟨L,N⟩:=K.u2 v a
 have O:=NS m hd
 refine .call call60 r O r r fun d2 b8 P R=>?_
 obtain ⟨b9,S,rfl,p,hd⟩:=R
 obtain ⟨s,T,m⟩:=P.u3 L N m
 refine .ks 3 r (.al CF r fun d3=>?_)
 refine .sa AE .z r (.kn 1 3184 r (.seq (.sr (.kn 2 295147905179352826992 r (.condP r hd (fun U hd=>?_) fun U hd=>?_)))))
 · refine .sk 2 r ?_
   have V:=ES (I:=b8) hd
   refine .callO call128 r V r r fun d4 d5 d6 W X=>?_
   obtain ⟨c0,d7,d8,d9,e0,e1,e3,rfl,rfl,hd⟩:=X
   obtain ⟨Y,Z,p⟩:=W.u3 s T p
   refine .sa AE .p4 r (.no 16 r (.drop .p3 (.pub .z fun e4 a2 f=>?_)))
   obtain ⟨a3,a4⟩:=a2.u2 Y Z
   refine .pub .z fun e5 a5 q=>?_
   obtain ⟨a6,a7,f⟩:=a5.u3 a3 a4 f
   refine .pub .z fun e6 a8 c1=>?_
   obtain ⟨a9,c4,f,q⟩:=a8.u4 a6 a7 f q
   exact .ret (B9 r (.w B6 AE r .z r .n) a9 ⟨c0,((_,_),(_,_),(_,_)),r,⟨f,q,c1⟩,hd⟩)
 exact .sn 1040 r (.sr (.lw B6 AE .z r (.sa AE .p1 r (.no 16 r (.drop .z (.ret (B9 r (.w B6 AE r .z r .n) s ⟨b9.1,S,r,p,hd⟩)))))))
theorem iK {a0 a1:Int} {Q:Int→Prop} (hd:RS a0 a1 Q) :
  BH prog 260 [.int .i64 a0,.int .i64 a1] I (fun _=>bI Q):=by
 refine Fun.en func260 ntmps260 r fun w0 M=>.sk 1 r (.nk 3 1 r (.no 34 r (.block (.sr (.kn 2 4130 r (.condP r hd (fun a hd=>?_) fun a hd=>?_))))))
 · exact .sr (.kn 2 16 r (.r0 results260 r ⟨a1,r,hd⟩))
 refine .sr (.kn 2 32770 r (.condP r hd (fun b hd=>?_) fun b hd=>?_))
 · exact .sr (.kn 3 16 r (.r0 results260 r ⟨(nC .i64 a1 1),r,hd⟩))
 refine .sr (.kn 3 2 r (.seq (.sk 1 r (.rem r r (by decide) r r (.kn 1 1026 r (.condP r hd (fun c hd=>?_) fun c hd=>?_))))))
 · exact .sr (.kn 1 16 r (.r0 results260 r ⟨4611686018427387904,r,hd⟩))
 exact .sn 2 r (.sr (.kn 2 16 r (.r0 results260 r ⟨(nC .i64 a1 4611686018427387903),r,hd⟩)))
theorem gX {a0 a1:Int} {Q:Int→Prop} (hd:PF a0 a1 Q) :
  BH prog 210 [.int .i64 a0,.int .i64 a1] I (fun _=>bI Q):=by
 refine Fun.en func210 ntmps210 r fun w0 M=>.sr (.kn 1 3 r (.seq (.sr (.kn 2 67 r (.condP r hd (fun a hd=>?_) fun a hd=>?_)))))
 · exact .sk 1 r (.rem r r (by decide) r r (.kn 1 16 r (.r0 results210 r ⟨(a1.tmod 2147483648),r,hd⟩)))
 refine .sn 3 r (.sk 2 r ?_)
 have b:=iK (I:=I) hd
 exact .cq call260 b r fun c hd=>.kn 1 16 r (.r0 results210 r ⟨c,r,hd⟩)
theorem KO {a0:EL} {Q:Rows→Prop} (R2:lTi I gi1 a0) (hd:F3 a0 Q) :
  BH prog 133 [.agg (nX a0 gi1)] I (rP Q):=by
 refine Fun.en func133 ntmps133 r fun w0 M=>?_
 refine .sr (.bx r fun Y=>?_)
 refine .al CF r fun U=>?_
 refine .nk 6 1 r (.loadA isAgg25 sizeOf25 r .p1 (.o 2 r) r r r (.ks 1 r (.lo isAgg54 .p1 r ?_)))
 have y:=mY R2.1 hd
 refine .call call209 r y r r fun V J h A=>?_
 obtain ⟨K,i,rfl,a,hd⟩:=A
 have R2:=h.u1 R2
 refine .al CF r fun W=>?_
 refine .sa AE .z r (.nk 14 1 r (.lo RL .p2 r ?_))
 have B:=Y6 (I:=J) hd
 refine .cq call68 B r fun X hd=>?_
 refine .kn 1 28 r (.drop .p2 (.sr (.kn 1 60 r (.seq (.sr (.kn 1 124 r (.block (.own0 BQ 2 (.lx hd [4,3,2] [2,1] r (fun j E l (b,g)=>fun c w=>∃ d e,j ⟨35,[],none⟩ (fun I_=>True) ((5,.slice d b.length e) :: (6,.int .i64 g) :: E) (OwnSl BQ 2 d e b :: l) c w) (fun c w ho hs=>⟨_,_,jf rf tv [0,1,0] r ho hs⟩) ?_)))))))))
 rintro ⟨b,g⟩ H hd c w ⟨d,e,C,f,_,hok,hsym⟩
 obtain ⟨m,a⟩:=f.u2 h a
 refine Cod.at hok hsym (.seq (.sk 2 r (.lo aI .p2 r (.ln NQ r (.kn 1 524412 r (.condP r hd (fun p hd=>?_) fun p hd=>?_))))))
 · refine .sn 124 r (.seq (.block (.region (.ks 3 r (.lo aI .p2 r (.ks 1 r ?_))))))
   obtain ⟨D,N,q,O,o117,F,s,hd⟩:=a.2.2.ix hd
   refine .ixb NQ qI F D q r (.ldb 0 U5 s r ?_)
   have t:=gX (I:=C) hd
   refine .cq call210 t r fun k hd=>?_
   refine .bs 1 NQ qI zeroValue2 r fun P=>?_
   obtain ⟨u,hd⟩:=hd
   refine .append (ys:=[k]) 8 .p1 NQ NQ IN2 r r r r r r r r r (.box .z (.one r) r) u r r fun R S=>?_
   exact .kn 1 124 r (.drop .p1 (.region (.ks 3 r (.nil' fun c w ho hs=>⟨((b++([k])),A7 (g+1)),hd,_,_,jf f tv [0,0,0] r ho hs⟩))))
 refine .en 44 r (.sk 2 r (.s1 sizeOf31 .p2 r (.ns 12 r (.lw B6 AE .p2 r (.sa AE .p1 r (.no 4 r (.drop .p2 (.pub .z fun T v G=>?_))))))))
 obtain ⟨x,L,a⟩:=v.u3 m f a
 exact .ret (B9 r (.w B6 AE r .z r .n) x ⟨({ K with Val:=b }:Rows),(i.1,i.2.1,(d,e)),r,⟨a.1,a.2.1,G⟩,hd⟩)
theorem Z1 {a0:GS} {Q:(Rows×Rows×Rows)→Prop} (R2:lTj I gj1 a0) (hd:K8 a0 Q) :
  BH prog 67 [.agg (nY a0 gj1)] I (fun I_ v=>∃ r gk3,v=.agg #[.int .i64 r.1.Rows,.int .i64 r.1.Cols,.slice gk3.1.1.1 r.1.Start.length gk3.1.1.2,.slice gk3.1.2.1.1 r.1.Col.length gk3.1.2.1.2,.slice gk3.1.2.2.1 r.1.Val.length gk3.1.2.2.2,.int .i64 r.2.1.Rows,.int .i64 r.2.1.Cols,.slice gk3.2.1.1.1 r.2.1.Start.length gk3.2.1.1.2,.slice gk3.2.1.2.1.1 r.2.1.Col.length gk3.2.1.2.1.2,.slice gk3.2.1.2.2.1 r.2.1.Val.length gk3.2.1.2.2.2,.int .i64 r.2.2.Rows,.int .i64 r.2.2.Cols,.slice gk3.2.2.1.1 r.2.2.Start.length gk3.2.2.1.2,.slice gk3.2.2.2.1.1 r.2.2.Col.length gk3.2.2.2.1.2,.slice gk3.2.2.2.2.1 r.2.2.Val.length gk3.2.2.2.2.2]∧lTk I_ gk3 r∧Q r):=by
 refine Fun.en func67 ntmps67 r fun w0 M=>?_
 refine .sr (.bx r fun b9=>?_)
 refine .al zeroValue113 r fun R=>?_
 refine .no 6 r (.seq (.dr [0,1,2,4,5,6,8,9,10,3,7,11,12,13] 14 (.fk 1 r (.h r (fun _=>.ixArr (i:=0) vL wN r r (by decide) (o:=1) r r r .mk) (.hl pC 1 r (.fk 1 r (.h r (fun _=>.ixArr (i:=1) vL wN r r (by decide) (o:=2) r r r .mk) (.hl pC 1 r (.fk 1 r ?_)))))))))
 refine .h r (fun _=>.ixArr (i:=2) vL wN r r (by decide) (o:=3) r r r .mk) (.hl pC 1 r (.ww r fun ex=>?_))
 have g:=SM (I:=I) hd
 refine .cq call132 g r fun d hd=>?_
 refine .so 2 r r r (.ch r (fun _=>.lo pC .p1 r .mk) (.ch r (fun _=>.ixArr (i:=2) vL wN r r (by decide) (o:=3) r r r .mk) (.ck 1 r r (.ch r (fun _=>.lo pC .p1 r .mk) (.ch r (fun _=>.ixArr (i:=1) vL wN r r (by decide) (o:=2) r r r .mk) (.ck 1 r r tv)))))) (.ww r fun ex=>?_)
 have j:=SM (I:=I) hd
 refine .cq call132 j r fun e hd=>?_
 refine .so 2 r r r (.ch r (fun _=>.lo pC .p1 r .mk) (.ch r (fun _=>.ixArr (i:=2) vL wN r r (by decide) (o:=3) r r r .mk) (.ck 1 r r tv))) (.ww r fun ex=>?_)
 have k:=SM (I:=I) hd
 refine .cq call132 k r fun f hd=>?_
 refine .so 2 r r r tv (.fk 2 r (.e2 14 (.ks 1 r (.nk 62 1 r (.lo RL .p1 r (.ks 2 r (.ba zeroValue25 vK wN r (.ks 1 r (.lo isAgg54 .p1 r ?_)))))))))
 refine .bd jS underlying183 yY r (.al jS r fun S=>?_)
 refine .sa sizeOf183 .z r (.nk 126 1 r (.lo RL .p2 r (.ks 2 r (.ba zeroValue25 vK wN r (.ks 1 r (.lo isAgg54 .p2 r (.bd jS underlying183 yY r (.al jS r fun T=>?_))))))))
 refine .sa sizeOf183 .z r (.nk 238 1 r (.lo RL .p3 r (.ks 2 r (.ba zeroValue25 vK wN r (.ks 1 r (.lo isAgg54 .p3 r (.bd jS underlying183 yY r (.al jS r fun U=>?_))))))))
 refine .sa sizeOf183 .z r (.no 452 r (.drop .p4 (.seq (.dr [0,2,4,1,3,5,6] 7 (.h r (fun _=>.lw isAgg183 sizeOf183 .p2 r .mk) (.h r (fun _=>.lw isAgg183 sizeOf183 .p1 r .mk) (.h r (fun _=>.lw isAgg183 sizeOf183 .z r .mk) (.ww r fun ex=>?_))))))))
 have l:=KO (I:=I) (gi1:=(gj1.1,(none,0),(none,0),(none,0))) (a0:=({ Ring:=a0.Ring,Size:=(d,e),L:=a0.A,X:=([]:List CO),Y:=([]:List CO),F:=([]:List Int),Others:=false }:EL)) ⟨R2.1,(.nil _ none 0),(.nil _ none 0),(.nil _ none 0)⟩ hd
 refine .call call133 r l r r fun V H b m=>?_
 obtain ⟨J,p,rfl,a,hd⟩:=m
 have R2:=b.u1 R2
 refine .so 4 r r r (.ch r (fun _=>.lw isAgg183 sizeOf183 .z r .mk) (.ch r (fun _=>.lw isAgg183 sizeOf183 .p1 r .mk) tv)) (.ww r fun ex=>?_)
 have q:=KO (I:=H) (gi1:=(gj1.2.1,(none,0),(none,0),(none,0))) (a0:=({ Ring:=a0.Ring,Size:=(e,f),L:=a0.B,X:=([]:List CO),Y:=([]:List CO),F:=([]:List Int),Others:=false }:EL)) ⟨R2.2.1,(.nil _ none 0),(.nil _ none 0),(.nil _ none 0)⟩ hd
 refine .call call133 r q r r fun W K s t=>?_
 obtain ⟨N,u,rfl,c,hd⟩:=t
 obtain ⟨x,R2,a⟩:=s.u3 b R2 a
 refine .so 4 r r r (.ch r (fun _=>.lw isAgg183 sizeOf183 .z r .mk) tv) (.ww r fun ex=>?_)
 have y:=KO (I:=K) (gi1:=(gj1.2.2,(none,0),(none,0),(none,0))) (a0:=({ Ring:=a0.Ring,Size:=(d,f),L:=a0.M,X:=([]:List CO),Y:=([]:List CO),F:=([]:List Int),Others:=false }:EL)) ⟨R2.2.2,(.nil _ none 0),(.nil _ none 0),(.nil _ none 0)⟩ hd
 refine .call call133 r y r r fun Z a1 C D=>?_
 obtain ⟨O,E,rfl,P,hd⟩:=D
 obtain ⟨G,R2,a,c⟩:=C.u4 x R2 a c
 exact .so 4 r r r tv (.h r (fun _=>.ba zeroValue113 fU AE r .mk) (.e2 7 (.sa sizeOf113 .p3 r (.no 4 r (.drop .z (.drop .z (.drop .z (.ret (B9 r (.w isAgg113 sizeOf113 r .z r .n) G ⟨(J,N,O),(p,u,E),r,⟨a,c,P⟩,hd⟩)))))))))
theorem bG {a0:HV} {Q:BF→Prop} (R2:lTj I gj1 a0.T) (hd:LF a0 Q) :
  BH prog 21 [.agg (cX a0 gj1)] I (fun I_ v=>∃ r gc3,v=.agg (JU r gc3)∧nE I_ gc3 r∧Q r):=by
 refine Fun.en func21 ntmps21 r fun w0 M=>?_
 refine .sr (.bx r fun q=>?_)
 refine .al mA r fun l=>?_
 refine .nk 6 1 r (.loadA isAgg56 sizeOf56 r .p1 (.o 7 r) r r r ?_)
 have c:=Z1 R2 hd
 refine .call call67 r c r r fun m g a d=>?_
 obtain ⟨b,e,rfl,j,hd⟩:=d
 have R2:=a.u1 R2
 refine .al zeroValue113 r fun p=>?_
 refine .sa sizeOf113 .z r (.no 14 r (.seq (.dr [0,1,2,4,5,6,7,8,9,10,11,12,13,14,15,16,17,18,19,20,21,22,23,24,3,25] 26 (.fk 2 r (.hl RL 2 r (.h r (fun _=>.ixArr (i:=0) fU AE r r (by decide) (o:=0) r r r .mk) (.h r (fun _=>.loadA B6 AE r .z (.o 5 r) r r r .mk) (.h r (fun _=>.ixArr (i:=1) fU AE r r (by decide) (o:=5) r r r .mk) (.h r (fun _=>.loadA B6 AE r .z (.o 5 r) r r r .mk) ?_)))))))))
 refine .h r (fun _=>.ixArr (i:=2) fU AE r r (by decide) (o:=10) r r r .mk) (.h r (fun _=>.loadA B6 AE r .z (.o 5 r) r r r .mk) (.fk 1 r (.hl pC 2 r (.h r (fun _=>.conv un5 XC r r r .mk) (.h r (fun _=>.rem r r (by decide) r r .mk) (.fk 2 r (.hl pC 2 r (.h r (fun _=>.conv un5 XC r r r .mk) (.h r (fun _=>.rem r r (by decide) r r .mk) ?_)))))))))
 refine .fk 2 r (.hl pC 2 r (.h r (fun _=>.conv un5 XC r r r .mk) (.h r (fun _=>.rem r r (by decide) r r .mk) (.fk 1 r (.ww r fun ex=>?_)))))
 have f:=Y6 (I:=g) hd
 refine .cq call68 f r fun k hd=>?_
 exact .so 3 r r r (.ck 1 r r (.ch r (fun _=>.rem r r (by decide) r r .mk) (.ch r (fun _=>.conv un5 XC r r r .mk) (.ch r (fun _=>.lo pC .p2 r .mk) (.ck 2 r r (.ch r (fun _=>.rem r r (by decide) r r .mk) (.ch r (fun _=>.conv un5 XC r r r .mk) (.ch r (fun _=>.lo pC .p2 r .mk) (.ck 2 r r (.ch r (fun _=>.rem r r (by decide) r r .mk) (.ch r (fun _=>.conv un5 XC r r r .mk) (.ch r (fun _=>.lo pC .p2 r .mk) (.ck 1 r r (.ch r (fun _=>.loadA B6 AE r .z (.o 5 r) r r r .mk) (.ch r (fun _=>.ixArr (i:=2) fU AE r r (by decide) (o:=10) r r r .mk) (.ch r (fun _=>.loadA B6 AE r .z (.o 5 r) r r r .mk) (.ch r (fun _=>.ixArr (i:=1) fU AE r r (by decide) (o:=5) r r r .mk) (.ch r (fun _=>.loadA B6 AE r .z (.o 5 r) r r r .mk) (.ch r (fun _=>.ixArr (i:=0) fU AE r r (by decide) (o:=0) r r r .mk) tv))))))))))))))))))) (.h r (fun _=>.bd mA AcZ AcW r .mk) (.e2 26 (.sa IU .p1 r (.no 4 r (.drop .z (.drop .p1 (.ret (B9 r (.w LS IU r .z r .n) a ⟨({ Ring:=k,A:=b.1,B:=b.2.1,Mask:=b.2.2,R:=A7 (((A7 (a0.R)).tmod 4)+1),C:=A7 (((A7 (a0.C)).tmod 4)+1),Room:=A7 (((A7 (a0.Room)).tmod 4)+1) }:BF),e,r,j,hd⟩))))))))
theorem O6 {a0:BF} {Q:Int→Prop} (R2:nE I gc1 a0) (hd:GF a0 Q) :
  BH prog 34 [.agg (JU a0 gc1)] I (fun _=>bI Q):=by
 refine Fun.en func34 ntmps34 r fun w0 M=>?_
 refine .sr (.bx r fun C=>?_)
 refine .kn 1 2 r (.seq (.sk 1 r (.lo RL .z r ?_)))
 have a:=NR (I:=I) hd
 refine .cq call102 a r fun v hd=>?_
 refine .kn 1 66 r (.condP r hd (fun b hd=>?_) fun b hd=>?_)
 · exact .sr (.kn 1 4 r (.drop .z (.r0 results34 r ⟨8,r,hd⟩)))
 refine .sn 2 r (.seq (.sk 1 r (.loadA B6 AE r .z (.o 5 r) r r r ?_)))
 have c:=L3 R2.1 hd
 refine .cq call103 c r fun w hd=>?_
 refine .ks 2 r (.spl hd [10,11] r (fun d hd=>?_) fun d hd=>?_)
 · exact .kn 11 4194306 r (.condKT r r (.sr (.kn 1 4 r (.drop .z (.r0 results34 r ⟨7,r,hd⟩)))))
 refine .ks 1 r (.yes r (.loadA B6 AE r .z (.o 5 r) r r r ?_))
 have e:=L3 R2.2.1 hd
 refine .yes r (.callP call103 r e r r fun x f=>?_)
 obtain ⟨y,rfl,hd⟩:=f
 refine .ks 3 r (.spl hd [15,16,17] r (fun g hd=>?_) fun g hd=>?_)
 · exact .kn 5 4194306 r (.condKT r r (.sr (.kn 1 4 r (.drop .z (.r0 results34 r ⟨7,r,hd⟩)))))
 refine .ks 1 r (.yes r (.loadA B6 AE r .z (.o 5 r) r r r ?_))
 have h:=L3 R2.2.2 hd
 refine .yes r (.callP call103 r h r r fun A i=>?_)
 obtain ⟨B,rfl,hd⟩:=i
 refine .kn 2 4194306 r (.condP r hd (fun j hd=>?_) fun j hd=>?_)
 · exact .sr (.kn 1 4 r (.drop .z (.r0 results34 r ⟨7,r,hd⟩)))
 refine .sn 2 r (.seq (.sk 2 r (.lo AP .z r (.ks 2 r (.lo AP .z r (.ks 2 r (.spl hd [29,30] r (fun k hd=>?_) fun k hd=>?_)))))))
 · exact .kn 17 140737488355330 r (.condKT r r (.sr (.kn 1 4 r (.drop .z (.r0 results34 r ⟨4,r,hd⟩)))))
 refine .ks 2 r (.yes r (.lo AP .z r (.ks 2 r (.yes r (.lo AP .z r (.ks 3 r (.spl hd [37,38,39] r (fun l hd=>?_) fun l hd=>?_)))))))
 · exact .kn 8 140737488355330 r (.condKT r r (.sr (.kn 1 4 r (.drop .z (.r0 results34 r ⟨4,r,hd⟩)))))
 refine .ks 2 r (.yes r (.lo AP .z r (.ks 2 r (.yes r (.lo AP .z r (.kn 2 140737488355330 r (.condP r hd (fun m hd=>?_) fun m hd=>?_)))))))
 · exact .sr (.kn 1 4 r (.drop .z (.r0 results34 r ⟨4,r,hd⟩)))
 refine .sn 2 r (.seq (.sk 1 r (.lo AP .z r (.ks 2 r (.spl hd [50,51] r (fun n hd=>?_) fun n hd=>?_)))))
 · exact .kn 24 37778931862957161709568 r (.drop .z (.condKT r r (.sr (.kn 1 4 r (.r0 results34 r ⟨3,r,hd⟩)))))
 refine .ks 1 r (.yes r (.lo AP .z r (.ks 3 r (.spl hd [54,55,56] r (fun p hd=>?_) fun p hd=>?_))))
 · exact .kn 19 37778931862957161709568 r (.drop .z (.condKT r r (.sr (.kn 1 4 r (.r0 results34 r ⟨3,r,hd⟩)))))
 refine .ks 1 r (.yes r (.lo AP .z r (.ks 3 r (.spl hd [59,60,61] r (fun q hd=>?_) fun q hd=>?_))))
 · exact .kn 14 37778931862957161709568 r (.drop .z (.condKT r r (.sr (.kn 1 4 r (.r0 results34 r ⟨3,r,hd⟩)))))
 refine .ks 1 r (.yes r (.lo AP .z r (.ks 3 r (.spl hd [64,65,66] r (fun s hd=>?_) fun s hd=>?_))))
 · exact .kn 9 37778931862957161709568 r (.drop .z (.condKT r r (.sr (.kn 1 4 r (.r0 results34 r ⟨3,r,hd⟩)))))
 refine .ks 1 r (.yes r (.lo AP .z r (.ks 3 r (.spl hd [69,70,71] r (fun t hd=>?_) fun t hd=>?_))))
 · exact .kn 4 37778931862957161709568 r (.drop .z (.condKT r r (.sr (.kn 1 4 r (.r0 results34 r ⟨3,r,hd⟩)))))
 refine .ks 1 r (.yes r (.lo AP .z r (.kn 2 37778931862957161709568 r (.drop .z (.condP r hd (fun u hd=>?_) fun u hd=>?_)))))
 · exact .sr (.kn 1 4 r (.r0 results34 r ⟨3,r,hd⟩))
 exact .sn 0 r (.sr (.kn 1 4 r (.r0 results34 r ⟨0,r,hd⟩)))
theorem S7 {a0 a1:Int} {Q:Bool→Prop} (hd:NH a0 a1 Q) :
  BH prog 145 [.int .i64 a0,.int .i64 a1] I (fun _=>XX Q):=by
 refine Fun.en func145 ntmps145 r fun w0 M=>.sk 1 r (.nk 3 3 r (.spl hd [6,7] r (fun a hd=>?_) fun a hd=>?_))
 · refine .ks 4 r (.spl hd [9,10,11] r (fun b hd=>?_) fun b hd=>?_)
   · refine .ks 4 r (.spl hd [13,14,15] r (fun c hd=>?_) fun c hd=>?_)
     · exact .kn 4 16 r (.r0 results145 r ⟨(decide (a1≤8)),r,hd⟩)
     exact .kn 4 16 r (.r0 results145 r ⟨false,r,hd⟩)
   exact .kn 8 16 r (.r0 results145 r ⟨false,r,hd⟩)
 exact .kn 12 16 r (.r0 results145 r ⟨false,r,hd⟩)
theorem FT {a0 a1 a2:Int} {Q:Int→Prop} (hd:EN a0 a1 a2 Q) :
  BH prog 148 [.int .i64 a0,.int .i64 a1,.int .i64 a2] I (fun _=>bI Q):=by
 refine Fun.en func148 ntmps148 r fun w0 M=>.sr (.kn 1 7 r (.seq (.sk 2 r ?_)))
 have e:=S7 (I:=I) hd
 refine .cq call145 e r fun f hd=>.ks 2 r (.spl hd [10,11] r (fun a hd=>?_) fun a hd=>?_)
 · exact .kn 3 16391 r (.condKT r r (.sr (.kn 1 64 r (.r0 results148 r ⟨0,r,hd⟩))))
 refine .kn 3 16391 r (.condP r hd (fun b hd=>?_) fun b hd=>?_)
 · exact .sr (.kn 1 64 r (.r0 results148 r ⟨0,r,hd⟩))
 refine .sn 7 r (.seq (.sr (.kn 3 131079 r (.condP r hd (fun c hd=>?_) fun c hd=>?_))))
 · exact .sr (.kn 2 64 r (.r0 results148 r ⟨a0,r,hd⟩))
 refine .sn 7 r (.sk 4 r ?_)
 obtain ⟨d,hd⟩:=hd
 exact .quo r r d r r (.kn 1 64 r (.r0 results148 r ⟨(A7 ((A7 (a2*a0)).tdiv a1)),r,hd⟩))
theorem gY {a0 a1 a2:Int} {Q:Int→Prop} (hd:VC a0 a1 a2 Q) :
  BH prog 146 [.int .i64 a0,.int .i64 a1,.int .i64 a2] I (fun _=>bI Q):=by
 refine Fun.en func146 ntmps146 r fun w0 M=>?_
 refine .sr (.kn 1 7 r (.seq (.sk 2 r ?_)))
 have m:=S7 (I:=I) hd
 refine .cq call145 m r fun s hd=>?_
 refine .kn 1 2055 r (.condP r hd (fun d hd=>?_) fun d hd=>?_)
 · exact .sr (.kn 1 64 r (.r0 results146 r ⟨(-1),r,hd⟩))
 refine .sn 7 r (.seq (.sr (.kn 1 135 r (.block (.lp hd [2,1,0] [] r (fun j E l b=>j ((7,.int .i64 b) :: E) l) (ji rf [] r) ?_)))))
 refine fun b n hd=>jq r fun c a=>?_
 refine .seq (.sr (.kn 3 16519 r (.condP r hd (fun e hd=>?_) fun e hd=>?_)))
 · refine .sn 135 r (.seq (.block (.sk 4 r ?_)))
   have f:=FT (I:=c) hd
   refine .cq call148 f r fun o hd=>?_
   refine .ks 2 r (.spl hd [22,23] r (fun g hd=>?_) fun g hd=>?_)
   · refine .ks 5 r ?_
     have h:=FT (I:=c) hd
     refine .yes r (.callP call148 r h r r fun p i=>?_)
     obtain ⟨q,rfl,hd⟩:=i
     refine .kn 2 2147483783 r (.condP r hd (fun k hd=>?_) fun k hd=>?_)
     · exact .sr (.kn 2 64 r (.r1 results146 r a ⟨b,r,hd⟩))
     exact .sn 135 r (.region (.ks 3 r (.nil' (je (A7 (b+1)) hd a [] r))))
   exact .kn 8 2147483783 r (.condKF r r (.sn 135 r (.region (.ks 3 r (.nil' (je (A7 (b+1)) hd a [] r))))))
 exact .en 0 r (.sr (.kn 1 64 r (.r1 results146 r a ⟨(-1),r,hd⟩)))
theorem cP {a0 a1 a2:Int} {Q:(List AV)→Prop} (hd:JQ a0 a1 a2 Q) :
  BH prog 74 [.int .i64 a0,.int .i64 a1,.int .i64 a2] I (Ae5 Q):=by
 refine Fun.en func74 ntmps74 r fun w0 M=>?_
 refine .sk 1 r (.nk 7 1 r (.no 135 r (.seq (.sk 2 r ?_))))
 have K:=S7 (I:=I) hd
 refine .cq call145 K r fun a8 hd=>?_
 refine .ks 2 r (.spl hd [15,16] r (fun L hd=>?_) fun L hd=>?_)
 · exact .kn 5 2097287 r (.condKT r r (.sr (.kn 2 64 r (.r0 results74 r ⟨([]:List AV),_,_,r,(.nil _ _ _),hd⟩))))
 refine .ks 2 r ?_
 have N:=S7 (I:=I) hd
 refine .yes r (.callP call145 r N r r fun a9 O=>?_)
 obtain ⟨b0,rfl,hd⟩:=O
 refine .kn 2 2097287 r (.condP r hd (fun P hd=>?_) fun P hd=>?_)
 · exact .sr (.kn 2 64 r (.r0 results74 r ⟨([]:List AV),_,_,r,(.nil _ _ _),hd⟩))
 refine .sn 135 r (.seq (.sr (.kn 1 391 r (.block (.own0 H9 129 (.lx hd [2,1,0] [] r (fun j E l (b,a)=>fun c w=>∃ f g,j ⟨77,[],none⟩ (fun I_=>True) ((7,.slice f b.length g) :: (8,.int .i64 a) :: E) (OwnSl H9 129 f g b :: l) c w) (fun c w ho hs=>⟨_,_,jf rf tv [0] r ho hs⟩) ?_))))))
 rintro ⟨b,a⟩ V hd c w ⟨f,g,n,i,_,hok,hsym⟩
 refine Cod.at hok hsym (.seq (.sr (.kn 3 33554823 r (.condP r hd (fun x hd=>?_) fun x hd=>?_))))
 · refine .sn 391 r (.seq (.block (.sk 3 r ?_)))
   have y:=gY (I:=n) hd
   refine .cq call146 y r fun p hd=>?_
   refine .ks 3 r ?_
   have A:=gY (I:=n) hd
   refine .cq call146 A r fun h hd=>?_
   refine .ks 2 r (.nk 1927 1 r (.ln HJ r (.kn 1 3975 r (.seq (.jn hd [11,10,9,8,7,2,1,0] [0] r (fun j E l q=>j ((59,.bool q) :: E) l) (fun W hd=>?_) ?_)))))
   · refine .region (.ks 3 r (.spl hd [39,40] r (fun B hd=>?_) fun B hd=>?_))
     · refine .ks 3 r ?_
       obtain ⟨s,X,d,hd⟩:=hd
       refine .ownNe .z (CE d) fun Y R=>?_
       cases R
       refine .yes r (.ixa0 HJ P5 r r s (BD d s) r r (.ks 1 r (.yes r (.lo1 (j:=2) AP .z d r r r r r (.ks 4 r (.spl hd [48,49,50] r (fun C hd=>?_) fun C hd=>?_))))))
       · refine .ks 3 r ?_
         obtain ⟨t,S,k,hd⟩:=hd
         exact .yes r (.ixa0 HJ P5 r r t (BD k t) r r (.ks 1 r (.yes r (.lo1 (j:=3) AP .z k r r r r r (.ks 3 r (.nil' (je (S.Col==h) hd rf [0] r)))))))
       exact .ks 9 r (.nil' (je false hd rf [0] r))
     exact .ks 19 r (.nil' (je false hd rf [0] r))
   refine fun q hd=>jq r fun Z D=>?_
   have m:=D.u1 i
   refine .condP r hd (fun F hd=>?_) fun F hd=>?_
   · refine .region (.ks 5 r ?_)
     obtain ⟨u,v,e,hd⟩:=hd
     refine .ownNe .z (CE e) fun a3 T=>?_
     cases T
     exact .ixa0 HJ P5 r r u (BD e u) r r (.ks 1 r (.stO1 (j:=1) (v':=({ v with To:=A7 (a+1) }:AV)) DN .z e r r r (.o r) r (.rl .z [7,60] r (by simp only [List.length_set]) (.no 391 r (.region (.ks 3 r (.nil' fun c w ho hs=>⟨((b.set ((A7 ((b.length:Int) - 1)).toNat) ({ v with To:=A7 (a+1) }:AV)),A7 (a+1)),hd,_,_,jf m tv [0] r ho hs⟩)))))))
   refine .region (.ks 6 r (.bd jR underlying129 AcA r (.bs 1 HJ P5 jR r fun a4=>?_)))
   obtain ⟨G,hd⟩:=hd
   refine .append (ys:=[({ From:=a,To:=A7 (a+1),Row:=p,Col:=h }:AV)]) 32 .p1 HJ HJ Ac9 r r r r r r r r r (.box .z (.one r) r) G r r fun a5 a6=>?_
   exact .kn 1 391 r (.drop .p1 (.region (.ks 3 r (.nil' fun c w ho hs=>⟨((b++([({ From:=a,To:=A7 (a+1),Row:=p,Col:=h }:AV)])),A7 (a+1)),hd,_,_,jf m tv [0] r ho hs⟩))))
 refine .en 128 r (.sr (.kn 2 64 r (.pub .z fun a7 H U=>?_)))
 have J:=H.u1 i
 exact .r1 results74 r J ⟨b,_,_,r,U,hd⟩
theorem iL {a0 a1:Int} {Q:Bool→Prop} (hd:RT a0 a1 Q) :
  BH prog 147 [.int .i64 a0,.int .i64 a1] I (fun _=>XX Q):=by
 refine Fun.en func147 ntmps147 r fun w0 M=>.sk 1 r (.nk 3 3 r (.spl hd [6,7] r (fun a hd=>?_) fun a hd=>?_))
 · refine .ks 4 r (.spl hd [9,10,11] r (fun b hd=>?_) fun b hd=>?_)
   · refine .ks 4 r (.spl hd [13,14,15] r (fun c hd=>?_) fun c hd=>?_)
     · exact .kn 4 16 r (.r0 results147 r ⟨(decide (a1≤8)),r,hd⟩)
     exact .kn 4 16 r (.r0 results147 r ⟨false,r,hd⟩)
   exact .kn 8 16 r (.r0 results147 r ⟨false,r,hd⟩)
 exact .kn 12 16 r (.r0 results147 r ⟨false,r,hd⟩)
theorem LL {a0:Rows} {Q:(List A1)→Prop} (R2:NX I ga1 a0) (hd:GW a0 Q) :
  BH prog 105 [.agg (F8 a0 ga1)] I (Ae8 Q):=by
 refine Fun.en func105 ntmps105 r fun w0 M=>?_
 refine .sr (.bx r fun b8=>?_)
 refine .ks 1 r (.ns 2 r (.lw B6 AE .z r ?_))
 have N:=KF R2 hd
 refine .call call104 r N r r fun b9 c0 q O=>?_
 obtain ⟨c1,a5,rfl,a,hd⟩:=O
 have R2:=q.u1 R2
 refine .sa AE .z r (.nk 2 1 r (.no 10 r (.seq (.sr (.kn 1 26 r (.block (.own0 B5 103 (.lx hd [1] [1] r (fun j E l (e,b)=>fun c w=>∃ g i,j ⟨45,[],none⟩ (fun I_=>True) ((3,.slice g e.length i) :: (4,.int .i64 b) :: E) (OwnSl B5 103 g i e :: l) c w) (fun c w ho hs=>⟨_,_,jf rf tv [0,0] r ho hs⟩) ?_))))))))
 rintro ⟨e,b⟩ Z hd c w ⟨g,i,a6,f,_,hok,hsym⟩
 obtain ⟨o,a⟩:=f.u2 q a
 refine Cod.at hok hsym (.seq (.sk 2 r (.lo AP .p1 r (.kn 1 2074 r (.condP r hd (fun u hd=>?_) fun u hd=>?_)))))
 · refine .sn 26 r (.seq (.block (.sk 1 r (.lo DY .p1 r (.ks 1 r ?_)))))
   obtain ⟨P,a7,v,a8,o427,R,x,hd⟩:=a.1.ix hd
   refine .ixb BP DN R P v r (.ldb 0 AP x r (.kn 1 58 r (.block (.lx hd [4,1] [1] r (fun j E l (d,k)=>fun c w=>∃ m n,j ⟨45,[],none⟩ (fun I_=>True) ((3,.slice m d.length n) :: (5,.int .i64 k) :: E) (OwnSl B5 103 m n d :: l) c w) (fun c w ho hs=>⟨_,_,jf rf tv [0,0] r ho hs⟩) ?_))))
   rintro ⟨d,k⟩ a1 hd c w ⟨m,n,a9,p,_,hok,hsym⟩
   obtain ⟨a3,y,a⟩:=p.u3 o f a
   refine Cod.at hok hsym (.seq (.sk 2 r (.lo DY .p1 r (.ks 2 r ?_))))
   obtain ⟨S,b0,A,b1,o561,T,B,hd⟩:=a.1.ix hd
   refine .ixb BP DN T S A r (.ldb 0 AP B r (.kn 1 67108922 r (.condP r hd (fun C hd=>?_) fun C hd=>?_)))
   · refine .sn 58 r (.seq (.block (.ownF .z fun a2=>?_)))
     refine .dr [0,1,2,3,4,5,6,7,8,9,10,11,12,13,14] 15 (.fk 3 r (.hl DY 1 r (.fk 1 r ?_)))
     obtain ⟨U,s,D,b2,o572,V,F,hd⟩:=a.2.1.ix hd
     refine .h r (fun _=>.ixb BP DN V U D r .mk) (.h r (fun _=>.ldb 0 AP F r .mk) (.fk 1 r (.hl aI 1 r (.fk 1 r ?_))))
     obtain ⟨W,t,G,b3,o581,X,H,hd⟩:=a.2.2.ix hd
     refine .h r (fun _=>.ixb NQ qI X W G r .mk) (.h r (fun _=>.ldb 0 U5 H r .mk) (.h r (fun _=>.bd HT VU VR r .mk) (.ww r fun ex=>?_)))
     refine .bs 1 D5 D8 HT r fun b4=>?_
     refine .so 3 r r r (.ck 1 r r tv) (.ww r fun ex=>?_)
     obtain ⟨J,hd⟩:=hd
     refine .append (ys:=[({ Row:=b,Col:=s,Val:=t }:A1)]) 24 .p1 D5 D5 UQ r r r r r r r r r (.box .z (.one r) r) J r r fun b5 b6=>?_
     exact .so 3 r r r tv (.e2 15 (.kn 1 58 r (.drop .p1 (.region (.ks 3 r (.nil' fun c w ho hs=>⟨((d++([({ Row:=b,Col:=s,Val:=t }:A1)])),A7 (k+1)),hd,_,_,jf p tv [0,0] r ho hs⟩))))))
   exact .en 26 r (.region (.ks 3 r (.nil' fun c w ho hs=>⟨(d,A7 (b+1)),hd,_,_,jf y tv [0,0] r ho hs⟩)))
 refine .en 8 r (.drop .p1 (.sr (.kn 2 4 r (.pub .z fun b7 K Y=>?_))))
 obtain ⟨L,a4⟩:=K.u2 o f
 exact .r1 results105 r L ⟨e,_,_,r,Y,hd⟩
theorem WD {a0:Rows} {a1 a2:Int×Int} {Q:Rows→Prop} (R2:NX I ga1 a0) (hd:M0 a0 a1 a2 Q) :
  BH prog 149 [.agg (F8 a0 ga1),.agg #[.int .i64 a1.1,.int .i64 a1.2],.agg #[.int .i64 a2.1,.int .i64 a2.2]] I (rP Q):=by
 refine Fun.en func149 ntmps149 r fun w0 M=>?_
 refine .sr (.bx r fun k3=>?_)
 refine .bx r fun k4=>?_
 refine .bx r fun k5=>?_
 refine .al CF r fun k6=>?_
 refine .ns 120 r (.lw B6 AE .p3 r ?_)
 have f5:=KF R2 hd
 refine .call call104 r f5 r r fun k7 k8 G f6=>?_
 obtain ⟨k,j8,rfl,H,hd⟩:=f6
 have R2:=G.u1 R2
 refine .sa AE .p3 r (.no 120 r (.seq (.dr [0,1,2,3,4,5,6] 7 (.h r (fun _=>.ixArr (i:=0) HK DN r r (by decide) (o:=0) r r r .mk) (.hl AP 2 r (.h r (fun _=>.maxI r r r r .mk) (.h r (fun _=>.ixArr (i:=0) HK DN r r (by decide) (o:=0) r r r .mk) (.hl AP 1 r (.h r (fun _=>.maxI r r r r .mk) ?_)))))))))
 refine .fk 1 r (.e2 7 (.kn 1 504 r (.seq (.dr [0,1,2,3,4,5,6,7,8,9,10] 11 (.h r (fun _=>.ixArr (i:=1) HK DN r r (by decide) (o:=1) r r r .mk) (.hl AP 2 r (.fk 1 r (.hl AP 3 r (.h r (fun _=>.minI r r r r .mk) ?_)))))))))
 refine .h r (fun _=>.ixArr (i:=1) HK DN r r (by decide) (o:=1) r r r .mk) (.hl AP 1 r (.fk 1 r (.hl AP 3 r (.h r (fun _=>.minI r r r r .mk) (.fk 1 r (.e2 11 (.kn 1 1992 r (.drop .p1 (.drop .p1 ?_)))))))))
 refine .sr (.lw B6 AE .p1 r ?_)
 have f7:=LL H hd
 refine .call call105 r f7 r r fun k9 l0 f8 f9=>?_
 obtain ⟨l1,l2,l3,rfl,a,hd⟩:=f9
 obtain ⟨g0,H⟩:=f8.u2 G H
 refine .kn 1 4032 r (.drop .p1 (.sr (.kn 1 8128 r (.seq (.sr (.kn 1 16320 r (.block (.own0 B5 103 (.lx hd [11,10,9,8,7,6] [1] r (fun j E l (d,m)=>fun c w=>∃ u v,j ⟨121,[],none⟩ (fun I_=>True) ((12,.slice u d.length v) :: (13,.int .i64 m) :: E) (OwnSl B5 103 u v d :: l) c w) (fun c w ho hs=>⟨_,_,jf rf tv [0,0] r ho hs⟩) ?_)))))))))
 rintro ⟨d,m⟩ g4 hd c w ⟨u,v,j9,p,_,hok,hsym⟩
 obtain ⟨x,a⟩:=p.u2 g0 a
 refine Cod.at hok hsym (.seq (.sk 2 r (.ln D5 r (.kn 1 549755830208 r (.condP r hd (fun d2 hd=>?_) fun d2 hd=>?_)))))
 · refine .sn 16320 r (.seq (.block (.seq (.jn hd [13,12,11,10,9,8,7,6] [1,0] r (fun j E l J=>j ((75,.bool J) :: E) l) (fun k0 hd=>?_) ?_))))
   · refine .region (.ks 2 r ?_)
     obtain ⟨g1,k1,d3,k2,o993,g2,d4,hd⟩:=a.ix hd
     refine .ixb D5 D8 g2 g1 d3 r (.ks 1 r (.ldb 0 AP d4 r (.ks 3 r (.spl hd [48,49] r (fun d5 hd=>?_) fun d5 hd=>?_))))
     · refine .ks 2 r ?_
       obtain ⟨g3,h6,K,h7,o1003,d6,L,hd⟩:=a.ix hd
       refine .yes r (.ixb D5 D8 d6 g3 K r (.ks 1 r (.yes r (.ldb 0 AP L r (.ks 4 r (.spl hd [56,57,58] r (fun N hd=>?_) fun N hd=>?_))))))
       · refine .ks 2 r ?_
         obtain ⟨d7,h8,O,h9,o1013,d8,P,hd⟩:=a.ix hd
         refine .yes r (.ixb D5 D8 d8 d7 O r (.ks 1 r (.yes r (.ldb 1 AP P r (.ks 4 r (.spl hd [65,66,67] r (fun R hd=>?_) fun R hd=>?_))))))
         · refine .ks 2 r ?_
           obtain ⟨d9,e0,S,i0,o1023,e1,T,hd⟩:=a.ix hd
           exact .yes r (.ixb D5 D8 e1 d9 S r (.ks 1 r (.yes r (.ldb 1 AP T r (.ks 3 r (.nil' (je (decide (e0.Col<(if k.Cols<a2.2 then k.Cols else a2.2))) hd rf [1,0] r)))))))
         exact .ks 8 r (.nil' (je false hd rf [1,0] r))
       exact .ks 17 r (.nil' (je false hd rf [1,0] r))
     exact .ks 26 r (.nil' (je false hd rf [1,0] r))
   refine fun J hd=>jq r fun i1 U=>?_
   obtain ⟨g6,s,a⟩:=U.u3 x p a
   refine .condP r hd (fun V hd=>?_) fun V hd=>?_
   · refine .ownF .p1 fun g5=>?_
     refine .dr [0,1,2,3,4,5,6,7,8,9,10,11,12,13,14,15,16,17,18,19,20,21,22] 23 (.fk 3 r ?_)
     obtain ⟨e3,y,W,i2,o1038,e4,X,hd⟩:=a.ix hd
     refine .h r (fun _=>.ixb D5 D8 e4 e3 W r .mk) (.fk 1 r (.h r (fun _=>.ldb 0 AP X r .mk) (.fk 4 r ?_)))
     obtain ⟨e5,A,Y,i3,o1047,e6,Z,hd⟩:=a.ix hd
     refine .h r (fun _=>.ixb D5 D8 e6 e5 Y r .mk) (.fk 1 r (.h r (fun _=>.ldb 1 AP Z r .mk) (.fk 4 r ?_)))
     obtain ⟨e7,B,a3,i4,o1056,e8,a4,hd⟩:=a.ix hd
     refine .h r (fun _=>.ixb D5 D8 e8 e7 a3 r .mk) (.fk 1 r (.h r (fun _=>.ldb 2 U5 a4 r .mk) (.h r (fun _=>.bd HT VU VR r .mk) (.ww r fun ex=>?_))))
     refine .bs 1 D5 D8 HT r fun i5=>?_
     refine .so 3 r r r (.ck 1 r r tv) (.ww r fun ex=>?_)
     obtain ⟨a5,hd⟩:=hd
     refine .append (ys:=[({ Row:=A7 (y.Row - (if 0 > a1.1 then 0 else a1.1)),Col:=A7 (A.Col - (if 0 > a2.1 then 0 else a2.1)),Val:=B.Val }:A1)]) 24 .p2 D5 D5 UQ r r r r r r r r r (.box .z (.one r) r) a5 r r fun i6 i7=>?_
     exact .so 3 r r r tv (.e2 23 (.kn 1 16320 r (.drop .p1 (.region (.ks 3 r (.nil' fun c w ho hs=>⟨((d++([({ Row:=A7 (y.Row - (if 0 > a1.1 then 0 else a1.1)),Col:=A7 (A.Col - (if 0 > a2.1 then 0 else a2.1)),Val:=B.Val }:A1)])),A7 (m+1)),hd,_,_,jf s tv [0,0] r ho hs⟩))))))
   exact .sn 16320 r (.region (.ks 3 r (.nil' fun c w ho hs=>⟨(d,A7 (m+1)),hd,_,_,jf s tv [1,0] r ho hs⟩)))
 refine .en 6080 r (.sr (.kn 2 55232 r (.seq (.jn hd [15,12,10,8,6] [1,0] r (fun j E l C=>j ((14,.int .i64 C) :: E) l) (fun i8 hd=>?_) ?_))))
 · refine .sr (.kn 3 2535301200456458802993406465984 r (.condP r hd (fun a6 hd=>?_) fun a6 hd=>?_))
   · exact .region (.ks 4 r (.nil' (je (A7 ((if k.Rows<a1.2 then k.Rows else a1.2) - (if 0 > a1.1 then 0 else a1.1))) hd rf [1,0] r)))
   exact .skip' (je 0 hd rf [1,0] r)
 refine fun C hd=>jq r fun i9 t=>?_
 obtain ⟨a7,a8⟩:=t.u2 x p
 refine .seq (.jn hd [14,12,6] [0,0] r (fun j E l D=>j ((15,.int .i64 D) :: E) l) (fun j0 hd=>?_) ?_)
 · refine .sr (.kn 3 162259276829213363391578010342720 r (.condP r hd (fun a9 hd=>?_) fun a9 hd=>?_))
   · exact .region (.ks 4 r (.nil' (je (A7 ((if k.Cols<a2.2 then k.Cols else a2.2) - (if 0 > a2.1 then 0 else a2.1))) hd rf [0,0] r)))
   exact .skip' (je 0 hd rf [0,0] r)
 refine fun D hd=>jq r fun F b=>?_
 obtain ⟨e,f,g⟩:=b.u3 a7 a8 t
 refine .seq (.sk 3 r (.spl hd [112,113] r (fun b0 hd=>?_) fun b0 hd=>?_))
 · refine .kn 3 83076749736557242056487941267574848 r (.condKT r r (.region (.kn 1 53312 r (.drop .p1 (.sk 3 r ?_)))))
   have b1:=O3 (I:=F) (.nil _ none 0) hd
   refine .call call59 r b1 r r fun j1 j2 b2 b3=>?_
   obtain ⟨e9,b4,rfl,f0,hd⟩:=b3
   obtain ⟨b5,g7,g8,g9⟩:=b2.u4 e f g b
   exact .sa AE .z r (.no 64 r (.ret (B9 r (.w B6 AE r .z r .n) b5 ⟨e9,b4,r,f0,hd⟩)))
 refine .kn 3 83076749736557242056487941267574848 r (.condP r hd (fun b6 hd=>?_) fun b6 hd=>?_)
 · refine .region (.kn 1 53312 r (.drop .p1 (.sk 3 r ?_)))
   have b7:=O3 (I:=F) (.nil _ none 0) hd
   refine .call call59 r b7 r r fun j3 j4 b8 b9=>?_
   obtain ⟨f1,c0,rfl,f2,hd⟩:=b9
   obtain ⟨c1,h0,h1,h2⟩:=b8.u4 e f g b
   exact .sa AE .z r (.no 64 r (.ret (B9 r (.w B6 AE r .z r .n) c1 ⟨f1,c0,r,f2,hd⟩)))
 refine .sn 53312 r (.sk 3 r (.pub .p1 fun j5 c2 q=>?_))
 obtain ⟨c3,c4,c5,c6⟩:=c2.u4 e f g b
 have c7:=O3 q hd
 refine .call call59 r c7 r r fun j6 j7 c8 c9=>?_
 obtain ⟨f3,d0,rfl,f4,hd⟩:=c9
 obtain ⟨d1,h3,h4,h5,q⟩:=c8.u5 c3 c4 c5 c6 q
 exact .sa AE .z r (.no 64 r (.ret (B9 r (.w B6 AE r .z r .n) d1 ⟨f3,d0,r,f4,hd⟩)))
theorem qA {a0:Rows} {a1 a2 a3 a4:Int} {Q:Rows→Prop} (R2:NX I ga1 a0) (hd:PT a0 a1 a2 a3 a4 Q) :
  BH prog 75 [.agg (F8 a0 ga1),.int .i64 a1,.int .i64 a2,.int .i64 a3,.int .i64 a4] I (rP Q):=by
 refine Fun.en func75 ntmps75 r fun w0 M=>?_
 refine .sr (.bx r fun b9=>?_)
 refine .al CF r fun o6=>?_
 refine .no 1086 r (.seq (.sr (.lw B6 AE .p1 r ?_)))
 have A:=L3 R2 hd
 refine .cq call103 A r fun g3 hd=>?_
 refine .ks 2 r (.spl hd [15,16] r (fun B hd=>?_) fun B hd=>?_)
 · refine .kn 23 549755814974 r (.condKT r r (.sr ?_))
   have C:=ES (I:=I) hd
   refine .callO call128 r C r r fun g4 g5 g6 q D=>?_
   obtain ⟨e9,g7,g8,g9,h0,h1,h2,rfl,rfl,hd⟩:=D
   have R2:=q.u1 R2
   refine .sa AE .p3 r (.no 1024 r (.drop .p4 (.pub .z fun h3 E c=>?_)))
   have F:=E.u1 q
   refine .pub .z fun h4 G j=>?_
   obtain ⟨H,c⟩:=G.u2 F c
   refine .pub .z fun h5 J f0=>?_
   obtain ⟨K,c,j⟩:=J.u3 H c j
   exact .ret (B9 r (.w B6 AE r .z r .n) K ⟨e9,((_,_),(_,_),(_,_)),r,⟨c,j,f0⟩,hd⟩)
 refine .ks 2 r ?_
 have N:=iL (I:=I) hd
 refine .yes r (.callP call147 r N r r fun h6 O=>?_)
 obtain ⟨h7,rfl,hd⟩:=O
 refine .ks 3 r (.spl hd [20,21,22] r (fun P hd=>?_) fun P hd=>?_)
 · refine .kn 17 549755814974 r (.condKT r r (.sr ?_))
   have R:=ES (I:=I) hd
   refine .callO call128 r R r r fun h8 h9 i0 s S=>?_
   obtain ⟨f1,i1,i2,i3,i4,i5,i6,rfl,rfl,hd⟩:=S
   have R2:=s.u1 R2
   refine .sa AE .p3 r (.no 1024 r (.drop .p4 (.pub .z fun i7 T d=>?_)))
   have U:=T.u1 s
   refine .pub .z fun i8 V k=>?_
   obtain ⟨W,d⟩:=V.u2 U d
   refine .pub .z fun i9 X f2=>?_
   obtain ⟨Y,d,k⟩:=X.u3 W d k
   exact .ret (B9 r (.w B6 AE r .z r .n) Y ⟨f1,((_,_),(_,_),(_,_)),r,⟨d,k,f2⟩,hd⟩)
 refine .ks 4 r (.spl hd [24,25,26] r (fun Z hd=>?_) fun Z hd=>?_)
 · refine .kn 13 549755814974 r (.condKT r r (.sr ?_))
   have a5:=ES (I:=I) hd
   refine .callO call128 r a5 r r fun j0 j1 j2 t a6=>?_
   obtain ⟨f3,j3,j4,j5,j6,j7,j8,rfl,rfl,hd⟩:=a6
   have R2:=t.u1 R2
   refine .sa AE .p3 r (.no 1024 r (.drop .p4 (.pub .z fun j9 a7 e=>?_)))
   have a8:=a7.u1 t
   refine .pub .z fun k0 a9 l=>?_
   obtain ⟨b0,e⟩:=a9.u2 a8 e
   refine .pub .z fun k1 b1 f4=>?_
   obtain ⟨b2,e,l⟩:=b1.u3 b0 e l
   exact .ret (B9 r (.w B6 AE r .z r .n) b2 ⟨f3,((_,_),(_,_),(_,_)),r,⟨e,l,f4⟩,hd⟩)
 refine .ks 5 r (.spl hd [29,30,31] r (fun b3 hd=>?_) fun b3 hd=>?_)
 · refine .kn 8 549755814974 r (.condKT r r (.sr ?_))
   have b4:=ES (I:=I) hd
   refine .callO call128 r b4 r r fun k2 k3 k4 u b5=>?_
   obtain ⟨f5,k5,k6,k7,k8,k9,l0,rfl,rfl,hd⟩:=b5
   have R2:=u.u1 R2
   refine .sa AE .p3 r (.no 1024 r (.drop .p4 (.pub .z fun l1 b6 f=>?_)))
   have b7:=b6.u1 u
   refine .pub .z fun l2 b8 m=>?_
   obtain ⟨c0,f⟩:=b8.u2 b7 f
   refine .pub .z fun l3 c1 f6=>?_
   obtain ⟨c2,f,m⟩:=c1.u3 c0 f m
   exact .ret (B9 r (.w B6 AE r .z r .n) c2 ⟨f5,((_,_),(_,_),(_,_)),r,⟨f,m,f6⟩,hd⟩)
 refine .ks 4 r (.spl hd [33,34,35] r (fun c3 hd=>?_) fun c3 hd=>?_)
 · refine .kn 4 549755814974 r (.condKT r r (.sr ?_))
   have c4:=ES (I:=I) hd
   refine .callO call128 r c4 r r fun l4 l5 l6 v c5=>?_
   obtain ⟨f7,l7,l8,l9,m0,m1,m2,rfl,rfl,hd⟩:=c5
   have R2:=v.u1 R2
   refine .sa AE .p3 r (.no 1024 r (.drop .p4 (.pub .z fun m3 c6 g=>?_)))
   have c7:=c6.u1 v
   refine .pub .z fun m4 c8 o=>?_
   obtain ⟨c9,g⟩:=c8.u2 c7 g
   refine .pub .z fun m5 d0 f8=>?_
   obtain ⟨d1,g,o⟩:=d0.u3 c9 g o
   exact .ret (B9 r (.w B6 AE r .z r .n) d1 ⟨f7,((_,_),(_,_),(_,_)),r,⟨g,o,f8⟩,hd⟩)
 refine .kn 4 549755814974 r (.condP r hd (fun d2 hd=>?_) fun d2 hd=>?_)
 · refine .sr ?_
   have d3:=ES (I:=I) hd
   refine .callO call128 r d3 r r fun m6 m7 m8 x d4=>?_
   obtain ⟨f9,m9,n0,n1,n2,n3,n4,rfl,rfl,hd⟩:=d4
   have R2:=x.u1 R2
   refine .sa AE .p3 r (.no 1024 r (.drop .p4 (.pub .z fun n5 d5 i=>?_)))
   have d6:=d5.u1 x
   refine .pub .z fun n6 d7 p=>?_
   obtain ⟨d8,i⟩:=d7.u2 d6 i
   refine .pub .z fun n7 d9 g0=>?_
   obtain ⟨e0,i,p⟩:=d9.u3 d8 i p
   exact .ret (B9 r (.w B6 AE r .z r .n) e0 ⟨f9,((_,_),(_,_),(_,_)),r,⟨i,p,g0⟩,hd⟩)
 refine .sn 1086 r (.seq (.dr [0,1,2,3,5,6,7,8,9,12,4,10,11,999] 13 (.fk 1 r (.hl AP 1 r (.fk 3 r (.hl AP 1 r (.fk 3 r (.a (fun b=>.pointer (some ⟨b,0,none⟩)) (fun b=>pto b (.cells #[.int .i64 0,.int .i64 0] 169 (0,0))) r r r r (fun _ L hL ex=>.al H3 r fun b=>.mk (val:=fun b=>.pointer (some ⟨b,0,none⟩)) (atom:=fun b=>pto b (.cells #[.int .i64 0,.int .i64 0] 169 (0,0))) hL b) (.ww r fun ex=>?_)))))))))
 have e1:=FT (I:=I) hd
 refine .cq call148 e1 r fun n8 hd=>?_
 refine .so 2 r r r (.ck 3 r r (.ch r (fun _=>.lo AP .p1 r .mk) (.ck 1 r r tv))) (.ww r fun ex=>?_)
 have e3:=FT (I:=I) hd
 refine .cq call148 e3 r fun n9 hd=>?_
 refine .so 2 r r r tv (.h r (fun _=>.ba H3 HK DN r .mk) (.b r fun o0=>DrawD.nop ?_))
 refine .e2 13 (.sa H1 .p2 r (.no 3124 r (.seq (.dr [0,1,2,3,5,6,7,8,9,12,4,10,11,999] 13 (.fk 1 r (.hl AP 1 r (.fk 3 r (.hl AP 1 r (.fk 3 r ?_)))))))))
 refine .a (fun b=>.pointer (some ⟨b,0,none⟩)) (fun b=>pto b (.cells #[.int .i64 0,.int .i64 0] 169 (0,0))) r r r r (fun _ L hL ex=>.al H3 r fun b=>.mk (val:=fun b=>.pointer (some ⟨b,0,none⟩)) (atom:=fun b=>pto b (.cells #[.int .i64 0,.int .i64 0] 169 (0,0))) hL b) (.ww r fun ex=>?_)
 have e4:=FT (I:=I) hd
 refine .cq call148 e4 r fun o1 hd=>?_
 refine .so 3 r r r (.ck 3 r r (.ch r (fun _=>.lo AP .p1 r .mk) (.ck 1 r r tv))) (.ww r fun ex=>?_)
 have e5:=FT (I:=I) hd
 refine .cq call148 e5 r fun o2 hd=>?_
 refine .so 3 r r r tv (.h r (fun _=>.ba H3 HK DN r .mk) (.b r fun o3=>DrawD.nop ?_))
 refine .e2 13 (.sa H1 .p3 r (.ns 7200 r (.lw B6 AE .p1 r (.lw MU H1 .p2 r (.lw MU H1 .p3 r ?_)))))
 have e6:=WD R2 hd
 refine .call call149 r e6 r r fun o4 o5 y e7=>?_
 obtain ⟨g1,e8,rfl,g2,hd⟩:=e7
 have R2:=y.u1 R2
 exact .sa AE .z r (.no 1024 r (.drop .p1 (.drop .p1 (.drop .p1 (.ret (B9 r (.w B6 AE r .z r .n) y ⟨g1,e8,r,g2,hd⟩))))))
theorem WE {a0 a1 a2:Int} {Q:(Int×Int)→Prop} (hd:I5 a0 a1 a2 Q) :
  BH prog 150 [.int .i64 a0,.int .i64 a1,.int .i64 a2] I (fun _=>AcY Q):=by
 refine Fun.en func150 ntmps150 r fun w0 M=>.sr (.al H3 r fun e=>.nk 71 3 r ?_)
 have b:=FT (I:=I) hd
 refine .cq call148 b r fun c hd=>.ks 4 r ?_
 have a:=FT (I:=I) hd
 exact .cq call148 a r fun d hd=>.ba H3 HK DN r (.sa H1 .z r (.no 64 r (.ret (B9 r (.w MU H1 r .z r .n) rf ⟨(c,d),r,hd⟩))))
theorem TG {a0 a1:List Int} {Q:Bool→Prop} (R3:RepSl BQ I p1 c2 a0) (R6:RepSl BQ I p4 c5 a1) (hd:JR a0 a1 Q) :
  BH prog 52 [.slice p1 a0.length c2,.slice p4 a1.length c5] I (fun _=>XX Q):=by
 refine Fun.en func52 ntmps52 r fun w0 M=>.sr (.kn 1 3 r (.seq (.sk 1 r (.ln BP r (.ks 1 r (.ln BP r (.kn 1 1027 r (.condP r hd (fun k hd=>?_) fun k hd=>?_))))))))
 · exact .sr (.kn 1 16 r (.r0 results52 r ⟨false,r,hd⟩))
 refine .sn 3 r (.seq (.sr (.kn 1 35 r (.block (.lp hd [1,0] [] r (fun j E l b=>j ((5,.int .i64 b) :: E) l) (ji rf [] r) ?_)))))
 refine fun b m hd=>jq r fun s a=>?_
 obtain ⟨R3,R6⟩:=a.u2 R3 R6
 refine .seq (.sk 2 r (.ln BP r (.kn 1 16419 r (.condP r hd (fun c hd=>?_) fun c hd=>?_))))
 · refine .sn 35 r (.seq (.block (.seq (.dr [0,1,2,3,4,5,6,7,8] 9 (.fk 2 r ?_)))))
   obtain ⟨n,t,d,u,o64,o,e,hd⟩:=R3.ix hd
   refine .h r (fun _=>.ixb BP DN o n d r .mk) (.h r (fun _=>.ldb 0 AP e r .mk) (.fk 2 r ?_))
   obtain ⟨p,v,f,w,o73,q,g,hd⟩:=R6.ix hd
   refine .h r (fun _=>.ixb BP DN q p f r .mk) (.h r (fun _=>.ldb 0 AP g r .mk) (.fk 1 r (.e2 9 (.no 33554467 r (.condP r hd (fun i hd=>?_) fun i hd=>?_)))))
   · exact .sr (.kn 1 16 r (.r1 results52 r a ⟨false,r,hd⟩))
   exact .sn 35 r (.region (.ks 3 r (.nil' (je (A7 (b+1)) hd a [] r))))
 exact .en 0 r (.sr (.kn 1 16 r (.r1 results52 r a ⟨true,r,hd⟩)))
theorem cQ {a0 a1:List Int} {Q:Bool→Prop} (R3:RepSl BQ I p1 c2 a0) (R6:RepSl BQ I p4 c5 a1) (hd:MH a0 a1 Q) :
  BH prog 98 [.slice p1 a0.length c2,.slice p4 a1.length c5] I (fun _=>XX Q):=by
 refine Fun.en func98 ntmps98 r fun w0 M=>.sr (.kn 1 3 r (.seq (.sk 1 r (.ln NQ r (.ks 1 r (.ln NQ r (.kn 1 1027 r (.condP r hd (fun k hd=>?_) fun k hd=>?_))))))))
 · exact .sr (.kn 1 16 r (.r0 results98 r ⟨false,r,hd⟩))
 refine .sn 3 r (.seq (.sr (.kn 1 35 r (.block (.lp hd [1,0] [] r (fun j E l b=>j ((5,.int .i64 b) :: E) l) (ji rf [] r) ?_)))))
 refine fun b m hd=>jq r fun s a=>?_
 obtain ⟨R3,R6⟩:=a.u2 R3 R6
 refine .seq (.sk 2 r (.ln NQ r (.kn 1 16419 r (.condP r hd (fun c hd=>?_) fun c hd=>?_))))
 · refine .sn 35 r (.seq (.block (.seq (.dr [0,1,2,3,4,5,6,7,8] 9 (.fk 2 r ?_)))))
   obtain ⟨n,t,d,u,o64,o,e,hd⟩:=R3.ix hd
   refine .h r (fun _=>.ixb NQ qI o n d r .mk) (.h r (fun _=>.ldb 0 U5 e r .mk) (.fk 2 r ?_))
   obtain ⟨p,v,f,w,o73,q,g,hd⟩:=R6.ix hd
   refine .h r (fun _=>.ixb NQ qI q p f r .mk) (.h r (fun _=>.ldb 0 U5 g r .mk) (.fk 1 r (.e2 9 (.no 33554467 r (.condP r hd (fun i hd=>?_) fun i hd=>?_)))))
   · exact .sr (.kn 1 16 r (.r1 results98 r a ⟨false,r,hd⟩))
   exact .sn 35 r (.region (.ks 3 r (.nil' (je (A7 (b+1)) hd a [] r))))
 exact .en 0 r (.sr (.kn 1 16 r (.r1 results98 r a ⟨true,r,hd⟩)))
theorem mZ {a0 a1:Rows} {Q:Bool→Prop} (R2:NX I ga1 a0) (R4:NX I ga3 a1) (hd:TO a0 a1 Q) :
  BH prog 32 [.agg (F8 a0 ga1),.agg (F8 a1 ga3)] I (fun _=>XX Q):=by
 refine Fun.en func32 ntmps32 r fun w0 M=>?_
 refine .sr (.bx r fun s=>?_)
 refine .bx r fun l=>?_
 refine .ks 1 r (.nk 12 1 r (.lo AP .p1 r (.ks 1 r (.lo AP .z r (.ks 2 r (.spl hd [9,10] r (fun a hd=>?_) fun a hd=>?_))))))
 · refine .ks 1 r (.yes r (.lo AP .p1 r (.ks 1 r (.yes r (.lo AP .z r (.ks 3 r (.spl hd [15,16,17] r (fun b hd=>?_) fun b hd=>?_)))))))
   · refine .ks 1 r (.yes r (.lo DY .p1 r (.ks 1 r (.yes r (.lo DY .z r ?_)))))
     have c:=TG R2.1 R4.1 hd
     refine .yes r (.callP call52 r c r r fun m d=>?_)
     obtain ⟨n,rfl,hd⟩:=d
     refine .ks 2 r (.spl hd [22,23,24] r (fun e hd=>?_) fun e hd=>?_)
     · refine .ks 1 r (.yes r (.lo DY .p1 r (.ks 1 r (.yes r (.lo DY .z r ?_)))))
       have f:=TG R2.2.1 R4.2.1 hd
       refine .yes r (.callP call52 r f r r fun o g=>?_)
       obtain ⟨p,rfl,hd⟩:=g
       refine .ks 2 r (.spl hd [29,30,31] r (fun h hd=>?_) fun h hd=>?_)
       · refine .ks 1 r (.yes r (.lo aI .p1 r (.ks 1 r (.yes r (.lo aI .z r ?_)))))
         have i:=cQ R2.2.2 R4.2.2 hd
         refine .yes r (.callP call98 r i r r fun q j=>?_)
         obtain ⟨k,rfl,hd⟩:=j
         exact .kn 2 16 r (.drop .z (.drop .z (.r0 results32 r ⟨k,r,hd⟩)))
       exact .kn 7 16 r (.drop .z (.drop .z (.r0 results32 r ⟨false,r,hd⟩)))
     exact .kn 14 16 r (.drop .z (.drop .z (.r0 results32 r ⟨false,r,hd⟩)))
   exact .kn 21 16 r (.drop .z (.drop .z (.r0 results32 r ⟨false,r,hd⟩)))
 exact .kn 28 16 r (.drop .z (.drop .z (.r0 results32 r ⟨false,r,hd⟩)))
theorem SN {a0 a1:AB} {Q:Bool→Prop} (hd:JS a0 a1 Q) :
  BH prog 218 [.agg (NY a0).toArray,.agg (NY a1).toArray] I (fun _=>XX Q):=by
 refine Fun.en func218 ntmps218 r fun w0 M=>.sr (.bx r fun c=>.bx r fun d=>.ks 1 r (.nk 12 1 r (.lo AP .p1 r (.ks 1 r (.lo AP .z r (.ks 2 r (.spl hd [9,10] r (fun b hd=>?_) fun b hd=>?_)))))))
 · exact .kn 14 16 r (.drop .z (.drop .z (.r0 results218 r ⟨true,r,hd⟩)))
 refine .ks 1 r (.yes r (.lo AP .p1 r (.ks 1 r (.yes r (.lo AP .z r (.ks 2 r (.spl hd [15,16] r (fun a hd=>?_) fun a hd=>?_)))))))
 · exact .ks 1 r (.yes r (.lo AP .p1 r (.ks 1 r (.yes r (.lo AP .z r (.kn 4 16 r (.drop .z (.drop .z (.r0 results218 r ⟨(decide (a0.Col<a1.Col)),r,hd⟩)))))))))
 exact .kn 8 16 r (.drop .z (.drop .z (.r0 results218 r ⟨false,r,hd⟩)))
theorem Y7 {a0:List AB} {Q:Bool→Prop} (R3:RepSl BL I p1 c2 a0) (hd:JT a0 Q) :
  BH prog 179 [.slice p1 a0.length c2] I (fun _=>XX Q):=by
 refine Fun.en func179 ntmps179 r fun w0 M=>.sr (.kn 1 1 r (.seq (.sr (.kn 1 9 r (.block (.lp hd [0] [] r (fun j E l b=>j ((3,.int .i64 b) :: E) l) (ji rf [] r) ?_))))))
 refine fun b m hd=>jq r fun n a=>?_
 have R3:=a.u1 R3
 refine .seq (.sk 2 r (.ln CH r (.kn 1 137 r (.condP r hd (fun c hd=>?_) fun c hd=>?_))))
 · refine .sn 9 r (.seq (.block (.seq (.dr [0,1,2,3,4,5,6,7,8,9,10] 11 (.fk 3 r ?_)))))
   obtain ⟨o,t,d,u,o67,p,e,hd⟩:=R3.ix hd
   refine .h r (fun _=>.ixb CH BA p o d r .mk) (.h r (fun _=>.ldW EK BA e r r r r .mk) (.fk 2 r ?_))
   obtain ⟨q,v,f,w,o76,s,g,hd⟩:=R3.ix hd
   refine .h r (fun _=>.ixb CH BA s q f r .mk) (.h r (fun _=>.ldW EK BA g r r r r .mk) (.ww r fun ex=>?_))
   have i:=SN (I:=n) hd
   refine .cq call218 i r fun x hd=>.so 0 r r r tv (.fk 1 r (.e2 11 (.no 1048585 r (.condP r hd (fun k hd=>?_) fun k hd=>?_))))
   · exact .sr (.kn 1 4 r (.r1 results179 r a ⟨false,r,hd⟩))
   exact .sn 9 r (.region (.ks 3 r (.nil' (je (A7 (b+1)) hd a [] r))))
 exact .en 0 r (.sr (.kn 1 4 r (.r1 results179 r a ⟨true,r,hd⟩)))
theorem Y8 {a0:Int} {a1:List (List AB)} {Q:((List AB)×Int)→Prop} (R3:RepSl (JI BL) I p1 c2 a1) (hd:HS a0 a1 Q) :
  BH prog 151 [.int .i64 a0,.slice p1 a1.length c2] I (AeD Q):=by
 refine Fun.en func151 ntmps151 r fun w0 M=>?_
 refine .sr (.kn 2 3 r (.seq (.sk 1 r ?_)))
 have g4:=NR (I:=I) hd
 refine .cq call102 g4 r fun m4 hd=>?_
 refine .kn 1 32771 r (.condP r hd (fun g5 hd=>?_) fun g5 hd=>?_)
 · exact .sr (.kn 2 48 r (.ret (B9 r (.t r (.t r .n)) rf ⟨(([]:List AB),8),_,_,r,(.nil _ _ _),hd⟩)))
 refine .sn 3 r (.seq (.sr (.kn 1 67 r (.block (.lp hd [1,0] [] r (fun j E l Y=>j ((6,.int .i64 Y) :: E) l) (ji rf [] r) ?_)))))
 refine fun Y h3 hd=>jq r fun l8 i=>?_
 have R3:=i.u1 R3
 refine .seq (.sk 2 r (.ln P4 r (.kn 1 524355 r (.condP r hd (fun e3 hd=>?_) fun e3 hd=>?_))))
 · refine .sn 67 r (.seq (.block (.sk 2 r ?_)))
   obtain ⟨g6,l9,Z,hd⟩:=hd
   obtain ⟨m0,o132,i4,g7,e4,m1,m2,rfl,g8⟩:=R3.2 _ _ Z
   refine .ixb P4 fV g7 g6 Z r (.ldb 0 isAgg76 e4 r ?_)
   have e5:=Y7 g8 hd
   refine .cq call179 e5 r fun m3 hd=>?_
   refine .kn 1 134217795 r (.condP r hd (fun e6 hd=>?_) fun e6 hd=>?_)
   · exact .sr (.kn 2 48 r (.ret (B9 r (.t r (.t r .n)) i ⟨(([]:List AB),6),_,_,r,(.nil _ _ _),hd⟩)))
   exact .sn 67 r (.region (.ks 3 r (.nil' (je (A7 (Y+1)) hd i [] r))))
 refine .en 3 r (.sr (.kn 1 131 r (.seq (.sr (.kn 1 387 r (.block (.own0 BL 161 (.lx hd [1,0] [] r (fun j E l (k,D)=>fun c w=>∃ F G,j ⟨115,[],none⟩ (fun I_=>True) ((7,.slice F k.length G) :: (8,.int .i64 D) :: E) (OwnSl BL 161 F G k :: l) c w) (fun c w ho hs=>⟨_,_,jf rf tv [0] r ho hs⟩) ?_))))))))
 rintro ⟨k,D⟩ g9 hd c w ⟨F,G,i5,s,_,hok,hsym⟩
 obtain ⟨N,R3⟩:=s.u2 i R3
 refine Cod.at hok hsym (.seq (.sk 2 r (.ln P4 r (.kn 1 2147484035 r (.condP r hd (fun b7 hd=>?_) fun b7 hd=>?_)))))
 · refine .sn 387 r (.seq (.block (.sr (.kn 1 899 r (.block (.lx hd [8,1,0] [] r (fun j E l (d,m)=>fun c w=>∃ H J,j ⟨115,[],none⟩ (fun I_=>True) ((7,.slice H d.length J) :: (9,.int .i64 m) :: E) (OwnSl BL 161 H J d :: l) c w) (fun c w ho hs=>⟨_,_,jf rf tv [0] r ho hs⟩) ?_))))))
   rintro ⟨d,m⟩ h0 hd c w ⟨H,J,i6,u,_,hok,hsym⟩
   obtain ⟨O,v,R3⟩:=u.u3 N s R3
   refine Cod.at hok hsym (.seq (.sk 3 r ?_))
   obtain ⟨e7,i7,P,hd⟩:=hd
   obtain ⟨i8,o3165,h4,e8,b8,i9,j0,rfl,j1⟩:=R3.2 _ _ P
   refine .ixb P4 fV e8 e7 P r (.ldb 0 isAgg76 b8 r (.ln CH r (.kn 1 1099511628675 r (.condP r hd (fun b9 hd=>?_) fun b9 hd=>?_))))
   · refine .sn 899 r (.seq (.block (.sk 2 r ?_)))
     obtain ⟨e9,j2,R,hd⟩:=hd
     obtain ⟨j3,o3201,h5,f0,c0,j4,j5,rfl,f1⟩:=R3.2 _ _ R
     refine .ixb P4 fV f0 e9 R r (.ldb 0 isAgg76 c0 r (.ks 1 r ?_))
     obtain ⟨f2,a2,c1,j6,o3213,f3,c3,hd⟩:=f1.ix hd
     refine .ixb CH BA f3 f2 c1 r (.ldW EK BA c3 r r r r (.al QR r fun j7=>?_))
     refine .sa BA .z r (.nk 1923 1 r (.no 3971 r (.seq (.jn hd [10,9,8,7,1,0] [1,0] r (fun j E l p=>j ((11,.int .i64 p) :: E) l) (fun j8 hd=>?_) ?_))))
     · refine .block (.lp hd [10,9,8,7,1,0] [1,0] r (fun j E l e=>j ((11,.int .i64 e) :: E) l) (ji rf [1,0] r) ?_)
       refine fun e h1 hd=>jq r fun f4 f=>?_
       obtain ⟨h6,h7,h8,R3⟩:=f.u4 O v u R3
       refine .seq (.seq (.ownF .z fun b4=>?_))
       refine .dr [0,1,2,3,4,5,6,7,8,9,10,11] 12 (.fk 2 r (.h r (fun _=>.ln CH r .mk) (.fk 2 r ?_)))
       refine FE hd (fun b hd=>?_) fun b hd=>?_
       · refine .h r (fun _=>.gyes r r b (.move r r r .mk)) (.h r (fun _=>.gyes r r b (.move r r r .mk)) ?_)
         obtain ⟨a3,j9,x,hd⟩:=hd
         obtain ⟨k0,f5⟩:=b4 (CE x)
         cases f5
         refine .h r (fun _=>.gyes r r b (.ixa0 CH BA r r a3 (BD x a3) r r .mk)) (.h r (fun _=>.gyes r r b (.loA (j:=0) EK BA .z x r r (.o 4 r) r r r .mk)) (.h r (fun _=>.gyes r r b (.lw EK BA .p1 r .mk)) (.ww r fun ex=>?_)))
         have c4:=SN (I:=f4) hd
         refine .gyes r r b (.callP call218 r c4 r r fun k1 c5=>?_)
         obtain ⟨k2,rfl,hd⟩:=c5
         refine .so 2 r r r tv (.h r (fun _=>.pickT r b r r r .mk) (.e2 12 (.no 2305843009213697923 r (.condP r hd (fun c6 hd=>?_) fun c6 hd=>?_))))
         · exact .sn 3971 r (.block (.region (.ks 3 r (.nil' (je (A7 (e+1)) hd f [0,0] r)))))
         exact .exit (je e hd f [0,0] r)
       refine .h r (fun _=>.gno r r b r r .mk) (.h r (fun _=>.gno r r b r r .mk) (.h r (fun _=>.gno r r b r r .mk) (.h r (fun _=>.gno r r b r r .mk) (.h r (fun _=>.gno r r b r r .mk) (.h r (fun _=>.gno r r b r r .mk) (.h r (fun _=>.pickF r b r r r .mk) (.e2 12 (.no 2305843009213697923 r (.condKF r r ?_)))))))))
       exact .exit (je e hd f [0,0] r)
     refine fun p hd=>jq r fun f6 S=>?_
     obtain ⟨c7,c8,c9,R3⟩:=S.u4 O v u R3
     refine .seq (.seq (.jn hd [11,10,9,8,7,1,0] [0,0] r (fun j E l a4=>j ((76,.bool a4) :: E) l) (fun k3 hd=>?_) ?_))
     · refine .ownF .z fun b5=>?_
       refine .dr [0,1,2,3,4,5,6,7,8,9,10,11,12] 13 (.fk 2 r (.h r (fun _=>.ln CH r .mk) (.fk 2 r ?_)))
       refine FE hd (fun a hd=>?_) fun a hd=>?_
       · refine .h r (fun _=>.gyes r r a (.lw EK BA .p1 r .mk)) (.h r (fun _=>.gyes r r a (.move r r r .mk)) (.h r (fun _=>.gyes r r a (.move r r r .mk)) ?_))
         obtain ⟨a5,k4,y,hd⟩:=hd
         obtain ⟨k5,f7⟩:=b5 (CE y)
         cases f7
         refine .h r (fun _=>.gyes r r a (.ixa0 CH BA r r a5 (BD y a5) r r .mk)) (.h r (fun _=>.gyes r r a (.loA (j:=0) EK BA .z y r r (.o 4 r) r r r .mk)) (.ww r fun ex=>?_))
         have d0:=SN (I:=f6) hd
         refine .gyes r r a (.callP call218 r d0 r r fun k6 d1=>?_)
         obtain ⟨f8,rfl,hd⟩:=d1
         exact .so 2 r r r tv (.h r (fun _=>.gyes r r a (.not r r r .mk)) (.h r (fun _=>.pickT r a r r r .mk) (.e2 13 (.nil' (je (!f8) hd rf [0,0] r)))))
       exact .h r (fun _=>.gno r r a r r .mk) (.h r (fun _=>.gno r r a r r .mk) (.h r (fun _=>.gno r r a r r .mk) (.h r (fun _=>.gno r r a r r .mk) (.h r (fun _=>.gno r r a r r .mk) (.h r (fun _=>.gno r r a r r .mk) (.h r (fun _=>.gno r r a r r .mk) (.h r (fun _=>.pickF r a r r r .mk) (.e2 13 (.nil' (je false hd rf [0,0] r))))))))))
     refine fun a4 hd=>jq r fun f9 T=>?_
     obtain ⟨d2,d3,U,d4,R3⟩:=T.u5 c7 c8 c9 S R3
     refine .condP r hd (fun d5 hd=>?_) fun d5 hd=>?_
     · refine .seq (.ownF .z fun b6=>?_)
       refine .dr [0,1,2,3,4,5,6,7,8,9,10,11,12,13] 14 (.fk 5 r ?_)
       obtain ⟨a6,k7,A,hd⟩:=hd
       obtain ⟨k8,g0⟩:=b6 (CE A)
       cases g0
       refine .h r (fun _=>.ixa0 CH BA r r a6 (BD A a6) r r .mk) (.fk 1 r (.h r (fun _=>.loA (j:=2) B7 AG .z A r r (.o 2 r) r r r .mk) (.fk 1 r (.h r (fun _=>.loadA B7 AG r .p1 (.o 2 r) r r r .mk) (.ww r fun ex=>?_)))))
       have d6:=W0 (I:=f9) hd
       refine .cq call107 d6 r fun a7 hd=>?_
       refine .so 2 r r r (.ck 2 r r tv) ?_
       obtain ⟨a8,a9,V,hd⟩:=hd
       refine .h r (fun _=>.ixa0 CH BA r r a8 (BD V a8) r r .mk) (.fk 1 r (.ww r fun ex=>?_))
       exact .stOA (j:=2) (v':=({ a9 with Val:=a7 }:AB)) AG .z V r r r (.o r) r r (.sn 2 r r r tv (.e2 14 (.rl .z [7,77,80] r (by simp only [List.length_set]) (.no 899 r (.drop .p1 (.en 899 r (.region (.ks 3 r (.nil' fun c w ho hs=>⟨((d.set p.toNat ({ a9 with Val:=a7 }:AB)),A7 (m+1)),hd,_,_,jf U tv [0] r ho hs⟩)))))))))
     refine .sn 3971 r (.sk 1 r (.bd QR underlying161 tY r (.bs 1 CH BA QR r fun k9=>?_)))
     obtain ⟨d7,hd⟩:=hd
     refine .append (ys:=[({ Row:=0,Col:=0,Val:=DS }:AB)]) 32 .p1 CH CH dD r r r r r r r r r (.box .z (.one r) r) d7 r r fun l0 l1=>?_
     refine .kn 1 3971 r (.drop .p1 (.seq (.sk 1 r (.ln CH r (.kn 2 8067 r (.block (.lx hd [11,10,9,8,1,0] [1] r (fun j E l (g,q)=>fun c w=>∃ K L,j ⟨115,[],none⟩ (fun I_=>True) ((7,.slice K g.length L) :: (12,.int .i64 q) :: E) (OwnSl BL 161 K L g :: l) c w) (fun c w ho hs=>⟨_,_,jf rf tv [0,0] r ho hs⟩) ?_)))))))
     rintro ⟨g,q⟩ h2 hd c w ⟨K,L,l2,W,_,hok,hsym⟩
     obtain ⟨h9,i0,d8,i1,i2,R3⟩:=W.u6 d2 d3 U d4 T R3
     refine Cod.at hok hsym (.seq (.sr (.kn 3 633825300114114700748351610755 r (.condP r hd (fun d9 hd=>?_) fun d9 hd=>?_))))
     · refine .sn 8067 r (.seq (.block (.region (.ks 5 r ?_))))
       obtain ⟨b0,b1,B,hd⟩:=hd
       refine .ownNe .z (CE B) fun l3 g1=>?_
       cases g1
       refine .ixa0 CH BA r r b0 (BD B b0) r r (.loA (j:=0) EK BA .z B r r (.o 4 r) r r r ?_)
       obtain ⟨b2,l4,X,hd⟩:=hd
       exact .ixa0 CH BA r r b2 (BD X b2) r r (.stOA (j:=0) (v':=b1) BA .z X r r r (.o r) r r (.rl .z [7,102,104] r (by simp only [List.length_set]) (.no 8067 r (.region (.ks 3 r (.nil' fun c w ho hs=>⟨((g.set q.toNat b1),A7 (q - 1)),hd,_,_,jf W tv [0,0] r ho hs⟩))))))
     refine .en 3971 r (.region (.ks 2 r (.lw EK BA .p1 r ?_)))
     obtain ⟨b3,l5,C,hd⟩:=hd
     refine .ownNe .z (CE C) fun l6 g2=>?_
     cases g2
     exact .ixa0 CH BA r r b3 (BD C b3) r r (.stOA (j:=0) (v':=a2) BA .z C r r r (.o r) r r (.rl .z [7,110] r (by simp only [List.length_set]) (.no 899 r (.drop .p1 (.region (.ks 3 r (.nil' fun c w ho hs=>⟨((g.set p.toNat a2),A7 (m+1)),hd,_,_,jf d8 tv [0] r ho hs⟩)))))))
   exact .en 387 r (.region (.ks 3 r (.nil' fun c w ho hs=>⟨(d,A7 (D+1)),hd,_,_,jf v tv [0] r ho hs⟩)))
 refine .en 128 r (.sr (.kn 3 48 r (.pub .z fun l7 e0 g3=>?_)))
 obtain ⟨e1,i3⟩:=e0.u2 N s
 exact .ret (B9 r (.t r (.t r .n)) e1 ⟨(k,0),_,_,r,g3,hd⟩)
theorem iM {a0:Int} {Q:Bool→Prop} (hd:VD a0 Q) :
  BH prog 235 [.int .i64 a0] I (fun _=>XX Q):=by
 refine Fun.en func235 ntmps235 r fun w0 M=>.sk 1 r (.nk 1 3 r (.spl hd [4,5] r (fun a hd=>?_) fun a hd=>?_))
 · exact .kn 8 4 r (.r0 results235 r ⟨true,r,hd⟩)
 refine .ks 4 r (.spl hd [7,8,9] r (fun b hd=>?_) fun b hd=>?_)
 · exact .kn 4 4 r (.r0 results235 r ⟨true,r,hd⟩)
 exact .kn 4 4 r (.r0 results235 r ⟨(a0==4),r,hd⟩)
theorem nA {a0:Int} {Q:Int→Prop} (hd:TP a0 Q) :
  BH prog 181 [.int .i64 a0] I (fun _=>bI Q):=by
 refine Fun.en func181 ntmps181 r fun w0 M=>.sr (.kn 1 1 r (.seq (.sk 1 r ?_)))
 have a:=iM (I:=I) hd
 refine .cq call235 a r fun c hd=>.no 16 r (.condP r hd (fun b hd=>?_) fun b hd=>?_)
 · exact .sr (.kn 1 4 r (.r0 results181 r ⟨4611686018427387904,r,hd⟩))
 exact .sn 0 r (.sr (.kn 1 4 r (.r0 results181 r ⟨0,r,hd⟩)))
theorem nB {a0 a1 a2:Int} {a3:List AB} {Q:(Rows×Int)→Prop} (R3:RepSl BL I p1 c2 a3) (hd:TQ a0 a1 a2 a3 Q) :
  BH prog 115 [.int .i64 a0,.int .i64 a1,.int .i64 a2,.slice p1 a3.length c2] I (o8_ Q):=by
 refine Fun.en func115 ntmps115 r fun w0 M=>?_
 refine .sr (.al CF r fun b8=>?_)
 refine .kn 1 271 r (.seq (.sk 1 r ?_))
 have b6:=NR (I:=I) hd
 refine .cq call102 b6 r fun g5 hd=>?_
 refine .kn 1 131343 r (.condP r hd (fun b7 hd=>?_) fun b7 hd=>?_)
 · exact .sr (.bd CF FJ FI r (.sa AE .z r (.kn 1 768 r (.ret (B9 r (.w B6 AE r .z r (.t r .n)) rf ⟨(B1,8),((_,_),(_,_),(_,_)),r,⟨(.nil _ _ _),(.nil _ _ _),(.nil _ _ _)⟩,hd⟩)))))
 refine .sn 271 r (.seq (.sk 3 r (.spl hd [20,21] r (fun b9 hd=>?_) fun b9 hd=>?_)))
 · exact .kn 11 4294967567 r (.condKT r r (.sr (.bd CF FJ FI r (.sa AE .z r (.kn 1 768 r (.ret (B9 r (.w B6 AE r .z r (.t r .n)) rf ⟨(B1,3),((_,_),(_,_),(_,_)),r,⟨(.nil _ _ _),(.nil _ _ _),(.nil _ _ _)⟩,hd⟩)))))))
 refine .ks 4 r (.spl hd [23,24,25] r (fun c0 hd=>?_) fun c0 hd=>?_)
 · exact .kn 7 4294967567 r (.condKT r r (.sr (.bd CF FJ FI r (.sa AE .z r (.kn 1 768 r (.ret (B9 r (.w B6 AE r .z r (.t r .n)) rf ⟨(B1,3),((_,_),(_,_),(_,_)),r,⟨(.nil _ _ _),(.nil _ _ _),(.nil _ _ _)⟩,hd⟩)))))))
 refine .ks 4 r (.spl hd [27,28,29] r (fun c1 hd=>?_) fun c1 hd=>?_)
 · exact .kn 3 4294967567 r (.condKT r r (.sr (.bd CF FJ FI r (.sa AE .z r (.kn 1 768 r (.ret (B9 r (.w B6 AE r .z r (.t r .n)) rf ⟨(B1,3),((_,_),(_,_),(_,_)),r,⟨(.nil _ _ _),(.nil _ _ _),(.nil _ _ _)⟩,hd⟩)))))))
 refine .kn 3 4294967567 r (.condP r hd (fun c3 hd=>?_) fun c3 hd=>?_)
 · exact .sr (.bd CF FJ FI r (.sa AE .z r (.kn 1 768 r (.ret (B9 r (.w B6 AE r .z r (.t r .n)) rf ⟨(B1,3),((_,_),(_,_),(_,_)),r,⟨(.nil _ _ _),(.nil _ _ _),(.nil _ _ _)⟩,hd⟩)))))
 refine .sn 271 r (.seq (.sr (.kn 1 1295 r (.block (.lp hd [8,3,2,1,0] [0] r (fun j E l f=>j ((10,.int .i64 f) :: E) l) (ji rf [0] r) ?_)))))
 refine fun f d9 hd=>jq r fun e4 a=>?_
 have R3:=a.u1 R3
 refine .seq (.sk 2 r (.ln CH r (.kn 1 137438954767 r (.condP r hd (fun x hd=>?_) fun x hd=>?_))))
 · refine .sn 1295 r (.seq (.block (.sk 2 r ?_)))
   obtain ⟨c4,e5,y,e6,o258,c5,A,hd⟩:=R3.ix hd
   refine .ixb CH BA c5 c4 y r (.ks 1 r (.ldb 0 AP A r (.ks 2 r (.spl hd [45,46] r (fun B hd=>?_) fun B hd=>?_))))
   · exact .kn 25 2361183241434822608143 r (.condKT r r (.sr (.bd CF FJ FI r (.sa AE .z r (.kn 1 768 r (.ret (B9 r (.w B6 AE r .z r (.t r .n)) a ⟨(B1,3),((_,_),(_,_),(_,_)),r,⟨(.nil _ _ _),(.nil _ _ _),(.nil _ _ _)⟩,hd⟩)))))))
   refine .ks 2 r ?_
   obtain ⟨c6,e7,C,e8,o268,c7,D,hd⟩:=R3.ix hd
   refine .yes r (.ixb CH BA c7 c6 C r (.ks 1 r (.yes r (.ldb 0 AP D r (.ks 4 r (.spl hd [53,54,55] r (fun F hd=>?_) fun F hd=>?_))))))
   · exact .kn 16 2361183241434822608143 r (.condKT r r (.sr (.bd CF FJ FI r (.sa AE .z r (.kn 1 768 r (.ret (B9 r (.w B6 AE r .z r (.t r .n)) a ⟨(B1,3),((_,_),(_,_),(_,_)),r,⟨(.nil _ _ _),(.nil _ _ _),(.nil _ _ _)⟩,hd⟩)))))))
   refine .ks 2 r ?_
   obtain ⟨c8,e9,G,f0,o278,c9,H,hd⟩:=R3.ix hd
   refine .yes r (.ixb CH BA c9 c8 G r (.ks 1 r (.yes r (.ldb 1 AP H r (.ks 3 r (.spl hd [61,62,63] r (fun J hd=>?_) fun J hd=>?_))))))
   · exact .kn 8 2361183241434822608143 r (.condKT r r (.sr (.bd CF FJ FI r (.sa AE .z r (.kn 1 768 r (.ret (B9 r (.w B6 AE r .z r (.t r .n)) a ⟨(B1,3),((_,_),(_,_),(_,_)),r,⟨(.nil _ _ _),(.nil _ _ _),(.nil _ _ _)⟩,hd⟩)))))))
   refine .ks 2 r ?_
   obtain ⟨d0,f1,K,f2,o288,d1,L,hd⟩:=R3.ix hd
   refine .yes r (.ixb CH BA d1 d0 K r (.ks 1 r (.yes r (.ldb 1 AP L r (.kn 3 2361183241434822608143 r (.condP r hd (fun N hd=>?_) fun N hd=>?_))))))
   · exact .sr (.bd CF FJ FI r (.sa AE .z r (.kn 1 768 r (.ret (B9 r (.w B6 AE r .z r (.t r .n)) a ⟨(B1,3),((_,_),(_,_),(_,_)),r,⟨(.nil _ _ _),(.nil _ _ _),(.nil _ _ _)⟩,hd⟩)))))
   exact .sn 1295 r (.region (.ks 3 r (.nil' (je (A7 (f+1)) hd a [0] r))))
 refine .en 271 r (.seq (.sk 1 r ?_))
 have O:=Y7 R3 hd
 refine .cq call179 O r fun f3 hd=>?_
 refine .kn 1 37778931862957161709839 r (.condP r hd (fun P hd=>?_) fun P hd=>?_)
 · exact .sr (.bd CF FJ FI r (.sa AE .z r (.kn 1 768 r (.ret (B9 r (.w B6 AE r .z r (.t r .n)) a ⟨(B1,6),((_,_),(_,_),(_,_)),r,⟨(.nil _ _ _),(.nil _ _ _),(.nil _ _ _)⟩,hd⟩)))))
 refine .sn 271 r (.seq (.sk 1 r (.ln CH r (.kn 1 604462909807314587353359 r (.condP r hd (fun R hd=>?_) fun R hd=>?_)))))
 · exact .sr (.bd CF FJ FI r (.sa AE .z r (.kn 1 768 r (.ret (B9 r (.w B6 AE r .z r (.t r .n)) a ⟨(B1,5),((_,_),(_,_),(_,_)),r,⟨(.nil _ _ _),(.nil _ _ _),(.nil _ _ _)⟩,hd⟩)))))
 refine .sn 271 r (.sr (.kn 1 2319 r (.seq (.sr (.kn 1 6415 r (.block (.own0 B5 103 (.lx hd [8,3,2,1,0] [1] r (fun j E l (d,e)=>fun c w=>∃ g i,j ⟨125,[],none⟩ (fun I_=>True) ((11,.slice g d.length i) :: (12,.int .i64 e) :: E) (OwnSl B5 103 g i d :: l) c w) (fun c w ho hs=>⟨_,_,jf rf tv [0,0] r ho hs⟩) ?_))))))))
 rintro ⟨d,e⟩ e0 hd c w ⟨g,i,p,b,_,hok,hsym⟩
 obtain ⟨m,R3⟩:=b.u2 a R3
 refine Cod.at hok hsym (.seq (.sk 2 r (.ln CH r (.kn 1 19342813113834066795305231 r (.condP r hd (fun S hd=>?_) fun S hd=>?_)))))
 · refine .sn 6415 r (.seq (.block (.sk 2 r ?_)))
   obtain ⟨d2,f4,T,f5,o695,d3,U,hd⟩:=R3.ix hd
   refine .ixb CH BA d3 d2 T r (.ks 1 r (.ldA (j:=2) B7 AG U r r (.o 2 r) r r r ?_))
   have V:=W2 (I:=p) hd
   refine .cq call180 V r fun q hd=>?_
   refine .kn 5 30991 r (.seq (.sr (.kn 2 158456325028528675187087915279 r (.condP r hd (fun W hd=>?_) fun W hd=>?_))))
   · exact .sr (.bd CF FJ FI r (.sa AE .p1 r (.kn 1 768 r (.drop .z (.ret (B9 r (.w B6 AE r .z r (.t r .n)) m ⟨(B1,12),((_,_),(_,_),(_,_)),r,⟨(.nil _ _ _),(.nil _ _ _),(.nil _ _ _)⟩,hd⟩))))))
   refine .sn 14607 r (.sk 2 r ?_)
   have X:=nA (I:=p) hd
   refine .cq call181 X r fun f6 hd=>?_
   refine .kn 1 5070602400912917605986812836111 r (.condP r hd (fun Y hd=>?_) fun Y hd=>?_)
   · refine .ownF .z fun e1=>?_
     refine .dr [0,1,2,3,4,5,6,7,8,9,10,11,12,13,14] 15 (.fk 3 r ?_)
     obtain ⟨d4,s,Z,f7,o720,d5,a4,hd⟩:=R3.ix hd
     refine .h r (fun _=>.ixb CH BA d5 d4 Z r .mk) (.fk 1 r (.h r (fun _=>.ldb 0 AP a4 r .mk) (.fk 2 r ?_)))
     obtain ⟨d6,u,a5,f8,o729,d7,a6,hd⟩:=R3.ix hd
     refine .h r (fun _=>.ixb CH BA d7 d6 a5 r .mk) (.fk 1 r (.h r (fun _=>.ldb 1 AP a6 r .mk) (.fk 1 r (.h r (fun _=>.bd HT VU VR r .mk) (.ww r fun ex=>?_)))))
     refine .bs 1 D5 D8 HT r fun f9=>?_
     refine .so 3 r r r (.ck 1 r r tv) (.ww r fun ex=>?_)
     obtain ⟨a7,hd⟩:=hd
     refine .append (ys:=[({ Row:=s.Row,Col:=u.Col,Val:=q.1 }:A1)]) 24 .p1 D5 D5 UQ r r r r r r r r r (.box .z (.one r) r) a7 r r fun g0 g1=>?_
     exact .so 3 r r r tv (.e2 15 (.kn 1 6415 r (.drop .p1 (.region (.ks 3 r (.nil' fun c w ho hs=>⟨((d++([({ Row:=s.Row,Col:=u.Col,Val:=q.1 }:A1)])),A7 (e+1)),hd,_,_,jf b tv [0,0] r ho hs⟩))))))
   exact .sn 6415 r (.region (.ks 3 r (.nil' fun c w ho hs=>⟨(d,A7 (e+1)),hd,_,_,jf b tv [0,0] r ho hs⟩)))
 refine .en 2311 r (.sk 4 r (.pub .z fun g2 a8 k=>?_))
 obtain ⟨a9,b0⟩:=a8.u2 m b
 have b1:=NS k hd
 refine .call call60 r b1 r r fun g3 g4 b2 b3=>?_
 obtain ⟨v,b4,rfl,d8,hd⟩:=b3
 obtain ⟨b5,e3,k⟩:=b2.u3 a9 b0 k
 exact .ks 2 r (.sa AE .z r (.kn 1 768 r (.ret (B9 r (.w B6 AE r .z r (.t r .n)) b5 ⟨(v.1,v.2),b4,r,d8,hd⟩))))
theorem Y9 {a0:EI} {Q:Bool→Prop} (hd:OE a0 Q) :
  BH prog 88 [.agg (TK a0).toArray] I (fun _=>XX Q):=by
 refine Fun.en func88 ntmps88 r fun w0 M=>.sr (.bx r fun h=>.ks 1 r (.nk 2 1 r (.lo isAgg45 .z r (.ks 2 r (.spl hd [5,6] r (fun c hd=>?_) fun c hd=>?_)))))
 · refine .ks 1 r (.yes r (.lo isAgg45 .z r (.ks 3 r (.spl hd [9,10,11] r (fun d hd=>?_) fun d hd=>?_))))
   · refine .ks 1 r (.yes r (.lo AP .z r (.ks 3 r (.spl hd [14,15,16] r (fun e hd=>?_) fun e hd=>?_))))
     · refine .ks 1 r (.yes r (.lo AP .z r (.ks 3 r (.spl hd [19,20,21] r (fun f hd=>?_) fun f hd=>?_))))
       · refine .ks 1 r (.yes r (.lo AP .z r (.ks 3 r (.spl hd [24,25,26] r (fun g hd=>?_) fun g hd=>?_))))
         · refine .ks 1 r (.yes r (.lo AP .z r (.ks 3 r (.spl hd [29,30,31] r (fun a hd=>?_) fun a hd=>?_))))
           · refine .ks 1 r (.yes r (.lo AP .z r (.ks 3 r (.spl hd [34,35,36] r (fun b hd=>?_) fun b hd=>?_))))
             · exact .ks 1 r (.yes r (.lo AP .z r (.kn 3 4 r (.drop .z (.r0 results88 r ⟨(decide (a0.K<64)),r,hd⟩)))))
             exact .kn 5 4 r (.drop .z (.r0 results88 r ⟨false,r,hd⟩))
           exact .kn 10 4 r (.drop .z (.r0 results88 r ⟨false,r,hd⟩))
         exact .kn 15 4 r (.drop .z (.r0 results88 r ⟨false,r,hd⟩))
       exact .kn 20 4 r (.drop .z (.r0 results88 r ⟨false,r,hd⟩))
     exact .kn 25 4 r (.drop .z (.r0 results88 r ⟨false,r,hd⟩))
   exact .kn 30 4 r (.drop .z (.r0 results88 r ⟨false,r,hd⟩))
 exact .kn 35 4 r (.drop .z (.r0 results88 r ⟨false,r,hd⟩))
theorem dQ {a0:AM} {Q:AM→Prop} (R2:gZ I ge1 a0) (hd:T2 a0 Q) :
  BH prog 164 [.agg (JV a0 ge1)] I (AeA Q):=by
 refine Fun.en func164 ntmps164 r fun w0 M=>.sr (.bx r fun y=>.al F0 r fun l=>.nk 6 1 r (.nk 14 1 r (.nk 30 1 r (.nk 62 3 r (.lo isAgg109 .p1 r (.own0 UL 112 ?_))))))
 obtain ⟨c,hd⟩:=hd
 refine .append (ys:=a0.Vec.Items) 16 .z OP OP tX r r r r r r r r r (.imm R2.1 r) c r r fun m o=>.ks 1 r (.nk 62 2 r (.lo isAgg194 .p2 r (.own0 xL 289 ?_)))
 obtain ⟨d,hd⟩:=hd
 refine .append (ys:=a0.Sums) 24 .z jN jN AcB r r r r r r r r r (.imm R2.2.1 r) d r r fun p q=>.ks 1 r (.nk 62 2 r (.lo isAgg54 .p3 r (.own0 B5 103 ?_)))
 obtain ⟨e,hd⟩:=hd
 refine .append (ys:=a0.Triples) 24 .z D5 D5 UQ r r r r r r r r r (.imm R2.2.2 r) e r r fun s t=>.ks 1 r (.nk 62 3 r (.s1 sizeOf109 .p4 r (.nk 54 2 r (.s1 sizeOf194 .p4 r (.nk 38 2 r (.s1 sizeOf54 .p4 r (.ns 6 r (.lw FL BR .p4 r (.sa BR .p3 r (.no 4 r (.drop .p4 (.pub .p2 fun u f a=>.pub .p1 fun v g b=>?_))))))))))))
 obtain ⟨h,a⟩:=g.u2 f a
 refine .pub .z fun x i k=>?_
 obtain ⟨j,a,b⟩:=i.u3 h a b
 exact .ret (B9 r (.w FL BR r .z r .n) j ⟨({ a0 with Vec:=({ N:=a0.Vec.N,Items:=(([]:List CO)++a0.Vec.Items) }:Vec),Sums:=(([]:List P9)++a0.Sums),Triples:=(([]:List A1)++a0.Triples) }:AM),((_,_),(_,_),(_,_)),r,⟨a,b,k⟩,hd⟩)
theorem iN {a0:AL} {Q:AL→Prop} (hd:RU a0 Q) :
  BH prog 224 [.agg (E8 a0).toArray] I (fun _=>qH Q):=by
 refine Fun.en func224 ntmps224 r fun w0 M=>.sr (.bx r fun c=>.al CR r fun d=>.nk 6 1 r (.lo U5 .p1 r (.invS r r r r (.ks 1 r (.lo DZ .p1 r (.invU (M:=18446744073709551615) r (by decide) r r r (.bd CR KH KG r (.bd CR KH KG r ?_))))))))
 have a:=M5 (I:=I) hd
 exact .cq call170 a r fun b hd=>.sa AG .z r (.no 4 r (.drop .p1 (.ret (B9 r (.w B7 AG r .z r .n) rf ⟨b,r,hd⟩))))
theorem qB {a0 a1:Int} {Q:AL→Prop} (hd:WX a0 a1 Q) :
  BH prog 174 [.int .i64 a0,.int .i64 a1] I (fun _=>qH Q):=by
 refine Fun.en func174 ntmps174 r fun w0 M=>.sr (.al CR r fun L=>.nk 19 1 r ?_)
 have y:=FX (I:=I) hd
 refine .cq call171 y r fun H hd=>.al CR r fun F=>.sa AG .z r (.nk 50 3 r (.nk 114 1 r (.conv jJ M4 r r r (.kn 1 240 r (.seq (.jn hd [6,5,4] [1,0] r (fun j E l x=>j ((7,.int .u64 x) :: E) l) (fun J hd=>?_) ?_))))))
 · refine .sr (.kn 1 33008 r (.condP r hd (fun A hd=>?_) fun A hd=>?_))
   · exact .region (.ks 1 r (.neg r r r (.ks 1 r (.nil' (je (IntKind.wrap .u64 (0 - (IntKind.wrap .u64 (a1)))) hd rf [1,0] r)))))
   exact .skip' (je (IntKind.wrap .u64 (a1)) hd rf [1,0] r)
 refine fun x hd=>jq r fun K B=>.sr (.al CR r fun G=>.no 496 r (.seq (.block (.lp hd [8,6,5,4] [1] r (fun j E l (g,h,a,b,c)=>j ((7,.int .u64 a) :: E) (pto F (.cells #[.int .i64 g,.int .u64 h] 157 (0,0)) :: pto G (.cells #[.int .i64 b,.int .u64 c] 157 (0,0)) :: l)) (ji rf [2,0,0] r) ?_))))
 rintro ⟨g,h,a,b,c⟩ D hd
 refine jq r fun d e=>?_
 have f:=e.u1 B
 refine .seq (.sr (.kn 2 524784 r (.condP r hd (fun o hd=>?_) fun o hd=>?_)))
 · refine .sn 496 r (.block (.seq (.sk 1 r (.rem r r (by decide) r r (.kn 1 4194800 r (.condP r hd (fun p hd=>?_) fun p hd=>?_))))))
   · refine .region (.lw B7 AG .p1 r (.lw B7 AG .z r ?_))
     have q:=M5 (I:=d) hd
     refine .cq call170 q r fun i hd=>.sa AG .p1 r (.ns 496 r (.lw B7 AG .z r (.lw B7 AG .z r ?_)))
     have s:=M5 (I:=d) hd
     exact .cq call170 s r fun k hd=>.sa AG .z r (.no 496 r (.region (.ks 1 r (.quo r r (by decide) r r (.ks 1 r (.nil' (je (k.Hi,k.Lo,IntKind.wrap .u64 (a.tdiv 2),i.Hi,i.Lo) hd e [0,0,0] r)))))))
   refine .sn 496 r (.sr (.lw B7 AG .z r (.lw B7 AG .z r ?_)))
   have t:=M5 (I:=d) hd
   exact .cq call170 t r fun m hd=>.sa AG .z r (.no 496 r (.region (.ks 1 r (.quo r r (by decide) r r (.ks 1 r (.nil' (je (m.Hi,m.Lo,IntKind.wrap .u64 (a.tdiv 2),b,c) hd e [0,0,0] r)))))))
 refine .en 336 r (.drop .z (.seq (.sr (.kn 1 2147483920 r (.condP r hd (fun u hd=>?_) fun u hd=>?_)))))
 · refine .sr (.lw B7 AG .z r ?_)
   have v:=iN (I:=d) hd
   exact .cq call224 v r fun C hd=>.sa AG .p1 r (.no 16 r (.drop .z (.ret (B9 r (.w B7 AG r .z r .n) f ⟨C,r,hd⟩))))
 exact .sn 272 r (.sr (.lw B7 AG .z r (.sa AG .p1 r (.no 16 r (.drop .z (.ret (B9 r (.w B7 AG r .z r .n) f ⟨({ Hi:=b,Lo:=c }:AL),r,hd⟩)))))))
theorem qC {a0 a1 a2:Int} {Q:AL→Prop} (hd:WY a0 a1 a2 Q) :
  BH prog 106 [.int .i64 a0,.int .i64 a1,.int .i64 a2] I (fun _=>qH Q):=by
 refine Fun.en func106 ntmps106 r fun w0 M=>?_
 refine .sr (.al CR r fun b3=>?_)
 refine .no 71 r (.seq (.jn hd [6,2,1,0] [0] r (fun j E l L=>j ((7,.bool L) :: E) l) (fun k8 hd=>?_) ?_))
 · refine .region (.ks 3 r (.spl hd [10,11] r (fun N hd=>?_) fun N hd=>?_))
   · exact .ks 4 r (.nil' (je true hd rf [0] r))
   exact .ks 4 r (.nil' (je (decide (4611686018427387904≤a2)) hd rf [0] r))
 refine fun L hd=>jq r fun c b=>?_
 refine .sr (.kn 1 32966 r (.block (.sr (.kn 2 164038 r (.condP r hd (fun d hd=>?_) fun d hd=>?_)))))
 · refine .sk 1 r ?_
   have e:=FX (I:=c) hd
   refine .cq call171 e r fun Z hd=>?_
   refine .ks 1 r ?_
   have f:=FX (I:=c) hd
   refine .cq call171 f r fun a3 hd=>?_
   have g:=M5 (I:=c) hd
   refine .cq call170 g r fun O hd=>?_
   refine .al CR r fun a4=>?_
   refine .sa AG .z r (.no 448 r (.seq (.seq (.dr [0,1,2,3,4,5,6] 7 (.fk 2 r ?_)))))
   refine FE hd (fun a hd=>?_) fun a hd=>?_
   · refine .h r (fun _=>.gno r r a r r .mk) (.h r (fun _=>.gno r r a r r .mk) (.h r (fun _=>.gno r r a r r .mk) (.h r (fun _=>.gno r r a r r .mk) (.h r (fun _=>.pickT r a r r r .mk) (.e2 7 (.no 1073742144 r (.condKT r r (.sr ?_))))))))
     have i:=FX (I:=c) hd
     refine .cq call171 i r fun P hd=>?_
     exact .sa AG .p1 r (.no 64 r (.drop .z (.ret (B9 r (.w B7 AG r .z r .n) b ⟨P,r,hd⟩))))
   refine .h r (fun _=>.gyes r r a (.lw B7 AG .z r .mk)) (.ww r fun ex=>?_)
   have k:=FX (I:=c) hd
   refine .gyes r r a (.callP call171 r k r r fun a5 m=>?_)
   obtain ⟨a6,rfl,hd⟩:=m
   refine .so 2 r r r (.ch r (fun _=>.gyes r r a (.lw B7 AG .z r .mk)) tv) (.ww r fun ex=>?_)
   have o:=US (I:=c) hd
   refine .gyes r r a (.callP call172 r o r r fun a7 p=>?_)
   obtain ⟨a8,rfl,hd⟩:=p
   refine .so 2 r r r tv (.h r (fun _=>.gyes r r a (.gt r r r r .mk)) (.h r (fun _=>.pickF r a r r r .mk) (.e2 7 (.no 1073742144 r (.condP r hd (fun q hd=>?_) fun q hd=>?_)))))
   · refine .sr ?_
     have s:=FX (I:=c) hd
     refine .cq call171 s r fun R hd=>?_
     exact .sa AG .p1 r (.no 64 r (.drop .z (.ret (B9 r (.w B7 AG r .z r .n) b ⟨R,r,hd⟩))))
   exact .sn 320 r (.sr (.lw B7 AG .z r (.sa AG .p1 r (.no 64 r (.drop .z (.ret (B9 r (.w B7 AG r .z r .n) b ⟨O,r,hd⟩)))))))
 refine .sr (.kn 2 8589967558 r (.condP r hd (fun t hd=>?_) fun t hd=>?_))
 · refine .seq (.sr (.kn 1 34359738434 r (.condP r hd (fun u hd=>?_) fun u hd=>?_)))
   · refine .sr ?_
     have v:=FX (I:=c) hd
     refine .cq call171 v r fun S hd=>?_
     exact .sa AG .z r (.no 64 r (.ret (B9 r (.w B7 AG r .z r .n) b ⟨S,r,hd⟩)))
   refine .sn 66 r (.sk 1 r ?_)
   have x:=FX (I:=c) hd
   refine .cq call171 x r fun T hd=>?_
   exact .sa AG .z r (.no 64 r (.ret (B9 r (.w B7 AG r .z r .n) b ⟨T,r,hd⟩)))
 refine .sr (.kn 2 549755846854 r (.condP r hd (fun y hd=>?_) fun y hd=>?_))
 · refine .seq (.sr (.kn 1 2199023255620 r (.condP r hd (fun A hd=>?_) fun A hd=>?_)))
   · refine .sr ?_
     have B:=FX (I:=c) hd
     refine .cq call171 B r fun U hd=>?_
     exact .sa AG .z r (.no 64 r (.ret (B9 r (.w B7 AG r .z r .n) b ⟨U,r,hd⟩)))
   refine .sn 68 r (.sk 1 r ?_)
   have C:=FX (I:=c) hd
   refine .cq call171 C r fun V hd=>?_
   exact .sa AG .z r (.no 64 r (.ret (B9 r (.w B7 AG r .z r .n) b ⟨V,r,hd⟩)))
 refine .sr (.kn 2 35184372121670 r (.condP r hd (fun D hd=>?_) fun D hd=>?_))
 · refine .sk 3 r (.spl hd [48,49] r (fun F hd=>?_) fun F hd=>?_)
   · refine .ks 3 r ?_
     have G:=O2 (I:=c) hd
     refine .cq call173 G r fun W hd=>?_
     exact .sa AG .z r (.no 64 r (.ret (B9 r (.w B7 AG r .z r .n) b ⟨W,r,hd⟩)))
   refine .ks 3 r ?_
   have H:=O2 (I:=c) hd
   refine .cq call173 H r fun X hd=>?_
   exact .sa AG .z r (.no 64 r (.ret (B9 r (.w B7 AG r .z r .n) b ⟨X,r,hd⟩)))
 refine .sr (.kn 2 18014398509482054 r (.condP r hd (fun J hd=>?_) fun J hd=>?_))
 · refine .sk 2 r ?_
   have K:=qB (I:=c) hd
   refine .cq call174 K r fun Y hd=>?_
   exact .sa AG .z r (.no 64 r (.ret (B9 r (.w B7 AG r .z r .n) b ⟨Y,r,hd⟩)))
 exact .sr (.bd CR KH KG r (.sa AG .z r (.no 64 r (.ret (B9 r (.w B7 AG r .z r .n) b ⟨DS,r,hd⟩)))))
theorem iO {a0:Int} {a1 a2 a3:Rows} {Q:((List AB)×Int)→Prop} (R2:NX I ga1 a1) (R4:NX I ga3 a2) (R6:NX I ga5 a3) (hd:OG a0 a1 a2 a3 Q) :
  BH prog 37 [.int .i64 a0,.agg (F8 a1 ga1),.agg (F8 a2 ga3),.agg (F8 a3 ga5)] I (AeC Q):=by
 refine Fun.en func37 ntmps37 r fun w0 M=>?_
 refine .sr (.bx r fun j6=>?_)
 refine .bx r fun j7=>?_
 refine .bx r fun j8=>?_
 refine .kn 2 225 r (.seq (.dr [0,2,4,1,3,5,6,7] 8 (.h r (fun _=>.lw B6 AE .p2 r .mk) (.h r (fun _=>.lw B6 AE .p1 r .mk) (.h r (fun _=>.lw B6 AE .z r .mk) (.ww r fun ex=>?_))))))
 have e1:=KF R2 hd
 refine .call call104 r e1 r r fun j9 k0 F e3=>?_
 obtain ⟨k1,i8,rfl,a,hd⟩:=e3
 obtain ⟨R2,R4,R6⟩:=F.u3 R2 R4 R6
 refine .so 3 r r r (.ch r (fun _=>.lw B6 AE .z r .mk) (.ch r (fun _=>.lw B6 AE .p1 r .mk) tv)) (.ww r fun ex=>?_)
 have e4:=KF R4 hd
 refine .call call104 r e4 r r fun k2 k3 e5 e6=>?_
 obtain ⟨k4,i9,rfl,e,hd⟩:=e6
 obtain ⟨e7,R2,R4,R6,a⟩:=e5.u5 F R2 R4 R6 a
 refine .so 3 r r r (.ch r (fun _=>.lw B6 AE .z r .mk) tv) (.ww r fun ex=>?_)
 have e8:=KF R6 hd
 refine .call call104 r e8 r r fun k5 g2 e9 f0=>?_
 obtain ⟨k6,j0,rfl,G,hd⟩:=f0
 obtain ⟨o,R2,R4,R6,a,e⟩:=e9.u6 e7 R2 R4 R6 a e
 refine .so 3 r r r tv (.ww r fun ex=>?_)
 refine .sa AE .p2 r (.sn 3 r r r tv (.ww r fun ex=>?_))
 refine .sa AE .p1 r (.sn 3 r r r tv (.e2 8 (.sa AE .z r (.no 225 r (.seq (.sk 1 r ?_))))))
 have f1:=NR (I:=g2) hd
 refine .cq call102 f1 r fun k7 hd=>?_
 refine .kn 1 134217953 r (.condP r hd (fun f2 hd=>?_) fun f2 hd=>?_)
 · exact .sr (.kn 2 768 r (.drop .z (.drop .z (.drop .z (.ret (B9 r (.t r (.t r .n)) o ⟨(([]:List AB),8),_,_,r,(.nil _ _ _),hd⟩))))))
 refine .sn 225 r (.seq (.sk 1 r (.lo AP .p2 r (.ks 1 r (.lo AP .p1 r (.ks 2 r (.spl hd [32,33] r (fun f3 hd=>?_) fun f3 hd=>?_)))))))
 · exact .kn 13 70368744177889 r (.condKT r r (.sr (.kn 2 768 r (.drop .z (.drop .z (.drop .z (.ret (B9 r (.t r (.t r .n)) o ⟨(([]:List AB),4),_,_,r,(.nil _ _ _),hd⟩))))))))
 refine .ks 1 r (.yes r (.lo AP .z r (.ks 1 r (.yes r (.lo AP .p2 r (.ks 3 r (.spl hd [38,39,40] r (fun f4 hd=>?_) fun f4 hd=>?_)))))))
 · exact .kn 6 70368744177889 r (.condKT r r (.sr (.kn 2 768 r (.drop .z (.drop .z (.drop .z (.ret (B9 r (.t r (.t r .n)) o ⟨(([]:List AB),4),_,_,r,(.nil _ _ _),hd⟩))))))))
 refine .ks 1 r (.yes r (.lo AP .z r (.ks 1 r (.yes r (.lo AP .p1 r (.kn 2 70368744177889 r (.condP r hd (fun f5 hd=>?_) fun f5 hd=>?_)))))))
 · exact .sr (.kn 2 768 r (.drop .z (.drop .z (.drop .z (.ret (B9 r (.t r (.t r .n)) o ⟨(([]:List AB),4),_,_,r,(.nil _ _ _),hd⟩))))))
 refine .sn 225 r (.sk 1 r (.ns 1249 r (.lw B6 AE .z r ?_)))
 have b7:=LL G hd
 refine .call call105 r b7 r r fun j1 j2 b8 b9=>?_
 obtain ⟨j3,j4,j5,rfl,b,hd⟩:=b9
 obtain ⟨c0,a,e,G⟩:=b8.u4 o a e G
 refine .kn 1 3169 r (.drop .z (.seq (.sr (.kn 1 7265 r (.block (.own0 BL 161 (.lx hd [11,6,5,0] [2,1] r (fun j E l (d,m)=>fun c w=>∃ q s,j ⟨126,[],none⟩ (fun I_=>True) ((10,.slice q d.length s) :: (12,.int .i64 m) :: E) (OwnSl BL 161 q s d :: l) c w) (fun c w ho hs=>⟨_,_,jf rf tv [0,1,0] r ho hs⟩) ?_)))))))
 rintro ⟨d,m⟩ f6 hd c w ⟨q,s,g5,p,_,hok,hsym⟩
 obtain ⟨v,a,e,b⟩:=p.u4 c0 a e b
 refine Cod.at hok hsym (.seq (.sk 2 r (.ln D5 r (.kn 1 4503599627377761 r (.condP r hd (fun H hd=>?_) fun H hd=>?_)))))
 · refine .sn 7265 r (.seq (.block (.sr (.al CR r fun c1=>?_))))
   refine .nk 15457 1 r (.no 31841 r (.seq (.seq (.ownF .p1 fun f8=>?_))))
   refine .dr [0,1,2,3,4,5,6,7,8] 9 (.fk 1 r (.hl DY 2 r (.fk 2 r ?_)))
   obtain ⟨c2,g6,J,g7,o2320,c3,K,hd⟩:=b.ix hd
   refine .h r (fun _=>.ixb D5 D8 c3 c2 J r .mk) (.fk 1 r (.h r (fun _=>.ldb 0 AP K r .mk) ?_))
   obtain ⟨c4,g8,L,g9,o2329,c5,N,hd⟩:=a.1.ix hd
   refine .h r (fun _=>.ixb BP DN c5 c4 L r .mk) (.h r (fun _=>.ldb 0 AP N r .mk) (.e2 9 (.kn 1 64609 r (.block (.lp hd [13,12,11,10,6,5,0] [2,2,1] r (fun j E l (f,g,u,i)=>j ((14,.bool u) :: (15,.int .i64 i) :: E) (pto c1 (.cells #[.int .i64 f,.int .u64 g] 157 (0,0)) :: l)) (ji rf [0,1,1,0] r) ?_)))))
   rintro ⟨f,g,u,i⟩ f7 hd
   refine jq r fun y k=>?_
   obtain ⟨g3,x,a,e,b⟩:=k.u5 v p a e b
   refine .seq (.seq (.ownF .p3 fun f9=>?_))
   refine .dr [0,1,2,3,4,5,6,7,8,9,10,11] 12 (.fk 2 r (.hl DY 1 r (.fk 2 r ?_)))
   obtain ⟨c6,h0,O,h1,o2621,c7,P,hd⟩:=b.ix hd
   refine .h r (fun _=>.ixb D5 D8 c7 c6 O r .mk) (.fk 1 r (.h r (fun _=>.ldb 0 AP P r .mk) (.fk 1 r ?_)))
   obtain ⟨c8,h2,R,h3,o2630,c9,S,hd⟩:=a.1.ix hd
   refine .h r (fun _=>.ixb BP DN c9 c8 R r .mk) (.h r (fun _=>.ldb 0 AP S r .mk) (.fk 1 r (.e2 12 (.no 37778931862957161774177 r (.condP r hd (fun T hd=>?_) fun T hd=>?_)))))
   · refine .sn 64609 r (.seq (.block (.seq (.ownF .p3 fun g0=>?_))))
     refine .dr [0,1,2,3,4,5,6,7,8,9,10,11,12,13,14,15] 16 (.h r (fun _=>.lw B6 AE .p2 r .mk) (.fk 1 r (.hl DY 1 r (.fk 1 r ?_))))
     obtain ⟨d0,h4,U,h5,o2664,d1,V,hd⟩:=a.2.1.ix hd
     refine .h r (fun _=>.ixb BP DN d1 d0 U r .mk) (.h r (fun _=>.ldb 0 AP V r .mk) (.fk 2 r ?_))
     obtain ⟨d2,h6,W,h7,o2673,d3,X,hd⟩:=b.ix hd
     refine .h r (fun _=>.ixb D5 D8 d3 d2 W r .mk) (.fk 1 r (.h r (fun _=>.ldb 1 AP X r .mk) (.ww r fun ex=>?_)))
     have Y:=dP e hd
     refine .cq call20 Y r fun h8 hd=>?_
     refine .so 4 r r r tv (.fk 4 r (.e2 16 (.kn 1 261217 r (.seq (.sr (.kn 2 19807040628566084398386117729 r (.condP r hd (fun Z hd=>?_) fun Z hd=>?_)))))))
     · exact .en 64609 r (.region (.ks 3 r (.nil' (je (f,g,u,A7 (i+1)) hd k [0,0,0,0] r))))
     refine .sn 130145 r (.sk 2 r (.lo aI .p1 r (.ks 1 r ?_)))
     obtain ⟨d4,h9,a4,i0,o2703,d5,a5,hd⟩:=a.2.2.ix hd
     refine .ixb NQ qI d5 d4 a4 r (.ldb 0 U5 a5 r (.ks 1 r ?_))
     have a6:=qC (I:=y) hd
     refine .cq call106 a6 r fun A hd=>?_
     refine .al CR r fun i1=>?_
     refine .sa AG .z r (.no 326753 r (.seq (.sr (.kn 1 10141204801825835211973625953377 r (.condP r hd (fun a7 hd=>?_) fun a7 hd=>?_)))))
     · refine .region (.ks 1 r (.lw B7 AG .p1 r (.lw B7 AG .z r ?_)))
       have a8:=W0 (I:=y) hd
       refine .cq call107 a8 r fun B hd=>?_
       exact .sa AG .p1 r (.no 48225 r (.drop .z (.region (.kn 1 64609 r (.region (.ks 3 r (.nil' (je (B.Hi,B.Lo,true,A7 (i+1)) hd k [0,0,0,0] r))))))))
     exact .region (.lw B7 AG .z r (.sa AG .p1 r (.no 48225 r (.drop .z (.region (.kn 1 64609 r (.region (.ks 3 r (.nil' (je (A.Hi,A.Lo,true,A7 (i+1)) hd k [0,0,0,0] r))))))))))
   refine .en 31841 r (.sr (.kn 1 649037107316853453566312041167969 r (.condP r hd (fun a9 hd=>?_) fun a9 hd=>?_)))
   · refine .ownF .p3 fun g1=>?_
     refine .dr [0,1,2,3,4,5,6,7,8,9,10,11,12,13,14] 15 (.fk 3 r ?_)
     obtain ⟨d6,C,b0,i2,o2725,d7,b1,hd⟩:=b.ix hd
     refine .h r (fun _=>.ixb D5 D8 d7 d6 b0 r .mk) (.fk 1 r (.h r (fun _=>.ldb 0 AP b1 r .mk) (.fk 2 r ?_)))
     obtain ⟨d8,D,b2,i3,o2734,d9,b3,hd⟩:=b.ix hd
     refine .h r (fun _=>.ixb D5 D8 d9 d8 b2 r .mk) (.fk 1 r (.h r (fun _=>.ldb 1 AP b3 r .mk) (.h r (fun _=>.lw B7 AG .z r .mk) (.h r (fun _=>.bd QR underlying161 tY r .mk) (.ww r fun ex=>?_)))))
     refine .bs 1 CH BA QR r fun i4=>?_
     refine .so 5 r r r (.ck 1 r r tv) (.ww r fun ex=>?_)
     obtain ⟨b4,hd⟩:=hd
     refine .append (ys:=[({ Row:=C.Row,Col:=D.Col,Val:=({ Hi:=f,Lo:=g }:AL) }:AB)]) 32 .p4 CH CH dD r r r r r r r r r (.box .z (.one r) r) b4 r r fun i5 i6=>?_
     exact .so 5 r r r tv (.e2 15 (.kn 1 7265 r (.drop .p1 (.drop .p1 (.region (.ks 3 r (.nil' fun c w ho hs=>⟨((d++([({ Row:=C.Row,Col:=D.Col,Val:=({ Hi:=f,Lo:=g }:AL) }:AB)])),A7 (m+1)),hd,_,_,jf x tv [0,0,0] r ho hs⟩)))))))
   exact .sn 7265 r (.drop .z (.region (.ks 3 r (.nil' fun c w ho hs=>⟨(d,A7 (m+1)),hd,_,_,jf x tv [2,0,0] r ho hs⟩))))
 refine .en 1024 r (.drop .p1 (.drop .p1 (.sr (.kn 3 768 r (.pub .z fun i7 b5 e0=>?_)))))
 obtain ⟨b6,g4⟩:=b5.u2 v p
 exact .ret (B9 r (.t r (.t r .n)) b6 ⟨(d,0),_,_,r,e0,hd⟩)
theorem SO {o0:AR} {o1:AO} {o2:A4} {Q:AO→Prop} (R6:lTm I gm5 o0) (R17:NX I ga16 o1.Mask) (hd:FN o0 o1 o2 Q) :
  Fun prog 76 #[.pointer (some ⟨b4,0,none⟩),.pointer (some ⟨b15,0,none⟩)] I [pto b4 (.cells (OL o0 gm5 p7 c8 p10 c11) 134 (0,0)),OwnSl D6 135 p7 c8 o0.W,OwnSl D6 141 p10 c11 o0.B,pto b15 (.cells (IG o1 ga16 p18 c19 p21 c22 p24 c25 p27 c28 p30 c31 p33 c34) 139 (0,0)),OwnSl BI 196 p18 c19 o1.Out,OwnSl eB 4 p21 c22 o1.Lefts,OwnSl eB 4 p24 c25 o1.Rights,OwnSl (JI B5) 54 p27 c28 o1.L,OwnSl (JI B5) 54 p30 c31 o1.R,OwnSl BL 161 p33 c34 o1.Has,AW A6 o2] (fun I_ v l=>∃ r ga43 p45 c46 p48 c49 p51 c52 p54 c55 p57 c58 p60 c61,v=.tuple #[]∧NX I_ ga43 r.Mask∧l=[pto b4 (.cells (OL o0 gm5 p7 c8 p10 c11) 134 (0,0)),OwnSl D6 135 p7 c8 o0.W,OwnSl D6 141 p10 c11 o0.B,pto b15 (.cells (IG r ga43 p45 c46 p48 c49 p51 c52 p54 c55 p57 c58 p60 c61) 139 (0,0)),OwnSl BI 196 p45 c46 r.Out,OwnSl eB 4 p48 c49 r.Lefts,OwnSl eB 4 p51 c52 r.Rights,OwnSl (JI B5) 54 p54 c55 r.L,OwnSl (JI B5) 54 p57 c58 r.R,OwnSl BL 161 p60 c61 r.Has,AW A6 o2]∧Q r):=by
 refine Fun.en func76 ntmps76 r fun w0 M=>?_
 refine .sk 3 r (.loadA LS IU r .z (.o 19 r) r r r (.al mA r fun h0=>?_))
 refine .sa IU .z r (.no 19 r (.seq (.dr [0,1,2,3,4,5,6,7,8,9,10,11] 12 (.fk 3 r (.hl AP 4 r (.fk 1 r (.hl AP 0 r (.fk 4 r (.hl AP 4 r ?_)))))))))
 refine .fk 1 r (.e2 12 (.ks 1 r (.nk 51 1 r (.no 115 r (.block (.lx hd [5,4,1,0] [1,1,1,3,3,3,3,3,0,2] r (fun j E l (k,a)=>fun c w=>∃ S T,j ⟨152,[],none⟩ (fun I_=>True) ((6,.int .i64 a) :: E) (pto b15 (.cells #[.int .i64 o1.I,.int .i64 o1.J,.int .i64 o1.Mask.Rows,.int .i64 o1.Mask.Cols,.slice ga16.1.1 o1.Mask.Start.length ga16.1.2,.slice ga16.2.1.1 o1.Mask.Col.length ga16.2.1.2,.slice ga16.2.2.1 o1.Mask.Val.length ga16.2.2.2,.slice S k.length T,.slice p21 o1.Lefts.length c22,.slice p24 o1.Rights.length c25,.slice p27 o1.L.length c28,.slice p30 o1.R.length c31,.int .i64 o1.At,.slice p33 o1.Has.length c34] 139 (0,0)) :: OwnSl BI 196 S T k :: l) c w) (fun c w ho hs=>⟨_,_,jf rf tv [4,4,1,1,1,1,1,1,1,1,0,0] r ho hs⟩) ?_))))))
 rintro ⟨k,a⟩ d6 hd c w ⟨S,T,d1,g,_,hok,hsym⟩
 obtain ⟨R6,R17⟩:=g.u2 R6 R17
 refine Cod.at hok hsym (.seq (.sk 4 r (.lo KZ .p2 r (.ln HJ r (.kn 1 17179869299 r (.condP r hd (fun c6 hd=>?_) fun c6 hd=>?_))))))
 · refine .sn 115 r (.seq (.block (.sk 3 r (.lo KZ .p2 r (.ks 1 r ?_)))))
   obtain ⟨d2,g7,c7,g8,o928,d3,c9,hd⟩:=R6.2.ix hd
   refine .ixb HJ P5 d3 d2 c7 r (.ldW isAgg129 P5 c9 r r r r (.al jR r fun g9=>?_))
   refine .sa P5 .z r (.no 243 r (.seq (.jx hd [7,6,5,4,1,0] [3,3,3,3,3,3,3,3,3,0,2] r (fun j E l i=>fun c w=>∃ m p,j ⟨152,[],none⟩ (fun I_=>True) E (pto b15 (.cells #[.int .i64 o1.I,.int .i64 o1.J,.int .i64 o1.Mask.Rows,.int .i64 o1.Mask.Cols,.slice ga16.1.1 o1.Mask.Start.length ga16.1.2,.slice ga16.2.1.1 o1.Mask.Col.length ga16.2.1.2,.slice ga16.2.2.1 o1.Mask.Val.length ga16.2.2.2,.slice m i.length p,.slice p21 o1.Lefts.length c22,.slice p24 o1.Rights.length c25,.slice p27 o1.L.length c28,.slice p30 o1.R.length c31,.int .i64 o1.At,.slice p33 o1.Has.length c34] 139 (0,0)) :: OwnSl BI 196 m p i :: l) c w) (fun e1 hd=>?_) ?_)))
   · refine .seq (.dr [0,1,2,3,4,5,6] 7 (.fk 1 r (.hl AP 0 r (.fk 3 r (.hl AP 1 r (.fk 1 r (.e2 7 (.no 1125899906842867 r (.condP r hd (fun X hd=>?_) fun X hd=>?_)))))))))
     · refine .seq (.dr [0,1,2,3,4,5,6,7,8,9,10,12,13,14,15,16,11,17,18] 19 (.fk 1 r (.h r (fun _=>.loadA B6 AE r (.o 11 r) (.o 5 r) r r r .mk) (.fk 2 r (.hl AP 11 r (.fk 1 r (.hl AP 11 r (.fk 3 r (.hl AP 1 r ?_)))))))))
       refine .fk 1 r (.hl AP 0 r (.fk 1 r (.hl AP 0 r (.h r (fun _=>.ba H3 HK DN r .mk) (.ww r fun ex=>?_)))))
       have Y:=WE (I:=d1) hd
       refine .cq call150 Y r fun e3 hd=>?_
       refine .so 13 r r r (.ch r (fun _=>.ba H3 HK DN r .mk) (.ch r (fun _=>.lo AP .z r .mk) (.ck 1 r r (.ch r (fun _=>.lo AP .z r .mk) (.ck 1 r r (.ch r (fun _=>.loadA B6 AE r (.o 11 r) (.o 5 r) r r r .mk) (.ck 1 r r tv))))))) (.ww r fun ex=>?_)
       have Z:=WD R6.1.1 hd
       refine .call call149 r Z r r fun e4 e5 F a0=>?_
       obtain ⟨e6,d7,rfl,q,hd⟩:=a0
       obtain ⟨a1,R6,R17⟩:=F.u3 g R6 R17
       refine .so 13 r r r tv (.ww r fun ex=>?_)
       have a2:=LL q hd
       refine .call call105 r a2 r r fun e7 e8 a3 a4=>?_
       obtain ⟨U,e9,f0,rfl,s,hd⟩:=a4
       obtain ⟨a5,a6,R6,R17,q⟩:=a3.u5 a1 F R6 R17 q
       refine .so 13 r r r tv (.e2 19 (.ks 1 r (.nk 499 1 r (.no 1011 r (.block (.lx hd [8,7,6,5,4,1,0] [3,3,3,3,3,3,3,3,3,0,2] r (fun j E l (b,d)=>fun c w=>∃ t u,j ⟨152,[],none⟩ (fun I_=>True) ((9,.int .i64 d) :: E) (pto b15 (.cells #[.int .i64 o1.I,.int .i64 o1.J,.int .i64 o1.Mask.Rows,.int .i64 o1.Mask.Cols,.slice ga16.1.1 o1.Mask.Start.length ga16.1.2,.slice ga16.2.1.1 o1.Mask.Col.length ga16.2.1.2,.slice ga16.2.2.1 o1.Mask.Val.length ga16.2.2.2,.slice t b.length u,.slice p21 o1.Lefts.length c22,.slice p24 o1.Rights.length c25,.slice p27 o1.L.length c28,.slice p30 o1.R.length c31,.int .i64 o1.At,.slice p33 o1.Has.length c34] 139 (0,0)) :: OwnSl BI 196 t u b :: l) c w) (fun c w ho hs=>⟨_,_,jf rf tv [1,1,1,1,1,1,1,1,1,1,1,0,0] r ho hs⟩) ?_))))))
       rintro ⟨b,d⟩ d4 hd c w ⟨t,u,f1,G,_,hok,hsym⟩
       obtain ⟨d8,a7,R6,R17,s⟩:=G.u5 a5 a6 R6 R17 s
       refine Cod.at hok hsym (.seq (.sk 2 r (.lo AP (.o 10 r) r (.kn 1 9444732965739290428403 r (.condP r hd (fun a8 hd=>?_) fun a8 hd=>?_)))))
       · refine .sn 1011 r (.seq (.block (.dr [0,1,2,3,4,5,6,7,8,9,10,11,12,13,14,15,16,17,18,19,20,21,22] 23 (.fk 4 r (.hl EJ 0 r (.fk 4 r (.hl AP 0 r (.fk 1 r (.hl AP 10 r ?_)))))))))
         refine .fk 5 r (.h r (fun _=>.bd F0 VV VS r .mk) (.ww r fun ex=>?_))
         refine .bs 1 DO BR F0 r fun f2=>?_
         refine .so 14 r r r (.ch r (fun _=>.lo EJ .p1 r .mk) (.ck 4 r r tv)) (.ww r fun ex=>?_)
         obtain ⟨a9,hd⟩:=hd
         refine .append (ys:=[({ Kind:=6,From:=A7 ((A7 (o1.I*o0.P.C))+o1.J),To:=A7 ((A7 (o1.I*o0.P.C))+d),Seq:=0,Round:=a,Vec:=G0,Sums:=([]:List P9),Triples:=U,N:=0,Over:=false }:AM)]) 136 .p2 DO DO dE r r r r r r r r r (.box .z (.one ⟨((_,_),(_,_),(_,_)),r,⟨(.nil _ _ _),(.nil _ _ _),s⟩⟩) r) a9 r r fun f3 f4=>?_
         refine .so 14 r r r (.ck 1 r r tv) (.fk 2 r (.ww r fun ex=>?_))
         exact .s1 aH .p2 r (.sn 14 r r r tv (.e2 23 (.no 1011 r (.drop .p1 (.region (.ks 3 r (.nil' fun c w ho hs=>⟨((b++([({ Kind:=6,From:=A7 ((A7 (o1.I*o0.P.C))+o1.J),To:=A7 ((A7 (o1.I*o0.P.C))+d),Seq:=0,Round:=a,Vec:=G0,Sums:=([]:List P9),Triples:=U,N:=0,Over:=false }:AM)])),A7 (d+1)),hd,_,_,jf G tv [1,0,0,0,0,0,0,0,0,0,0,0,0] r ho hs⟩)))))))
       exact .exit fun c w ho hs=>⟨b,hd,_,_,jf a7 tv [0,0,0,0,0,0,0,0,0,0,0,0,0] r ho hs⟩
     exact .skip' fun c w ho hs=>⟨k,hd,_,_,jf rf tv [1,1,1,1,1,1,1,1,1,1,1,0,0] r ho hs⟩
   rintro i hd c w ⟨m,p,d0,H,_,hok,hsym⟩
   obtain ⟨K,R6,R17⟩:=H.u3 g R6 R17
   refine Cod.at hok hsym (.seq (.dr [0,1,2,3,4,5,6] 7 (.fk 1 r (.hl AP 11 r (.fk 3 r (.hl AP 0 r (.fk 1 r (.e2 7 (.no 20282409603651670423947251286259 r ?_)))))))))
   refine .condP r hd (fun b0 hd=>?_) fun b0 hd=>?_
   · refine .seq (.dr [0,1,2,3,4,5,6,7,8,9,10,11,12,13,14,15,16,17,18] 19 (.fk 1 r (.h r (fun _=>.loadA B6 AE r (.o 10 r) (.o 5 r) r r r .mk) (.fk 1 r (.hl AP 11 r (.fk 1 r (.hl AP 11 r (.h r (fun _=>.ba H3 HK DN r .mk) (.fk 2 r ?_)))))))))
     refine .hl AP 10 r (.fk 1 r (.hl AP 10 r (.fk 3 r (.hl AP 0 r (.ww r fun ex=>?_)))))
     have b1:=WE (I:=d0) hd
     refine .cq call150 b1 r fun f5 hd=>?_
     refine .so 13 r r r (.ch r (fun _=>.ba H3 HK DN r .mk) (.ch r (fun _=>.lo AP (.o 11 r) r .mk) (.ck 1 r r (.ch r (fun _=>.lo AP (.o 11 r) r .mk) (.ck 1 r r (.ch r (fun _=>.loadA B6 AE r (.o 10 r) (.o 5 r) r r r .mk) (.ck 1 r r tv))))))) (.ww r fun ex=>?_)
     have b2:=WD R6.1.2.1 hd
     refine .call call149 r b2 r r fun f6 f7 b3 b5=>?_
     obtain ⟨f8,d9,rfl,x,hd⟩:=b5
     obtain ⟨b6,b7,R6,R17⟩:=b3.u4 K H R6 R17
     refine .so 13 r r r tv (.ww r fun ex=>?_)
     have b8:=LL x hd
     refine .call call105 r b8 r r fun f9 g0 b9 c0=>?_
     obtain ⟨V,g1,g2,rfl,y,hd⟩:=c0
     obtain ⟨c1,c2,R6,R17,x⟩:=b9.u5 b6 b7 R6 R17 x
     refine .so 13 r r r tv (.e2 19 (.kn 1 1139 r (.drop (.o 11 r) (.sr (.kn 1 3187 r (.block (.lx hd [10,6,5,4,1,0] [2,2,2,2,2,2,2,2,2,2] r (fun j E l (e,f)=>fun c w=>∃ A D,j ⟨152,[],none⟩ (fun I_=>True) ((11,.int .i64 f) :: E) (pto b15 (.cells #[.int .i64 o1.I,.int .i64 o1.J,.int .i64 o1.Mask.Rows,.int .i64 o1.Mask.Cols,.slice ga16.1.1 o1.Mask.Start.length ga16.1.2,.slice ga16.2.1.1 o1.Mask.Col.length ga16.2.1.2,.slice ga16.2.2.1 o1.Mask.Val.length ga16.2.2.2,.slice A e.length D,.slice p21 o1.Lefts.length c22,.slice p24 o1.Rights.length c25,.slice p27 o1.L.length c28,.slice p30 o1.R.length c31,.int .i64 o1.At,.slice p33 o1.Has.length c34] 139 (0,0)) :: OwnSl BI 196 A D e :: l) c w) (fun c w ho hs=>⟨_,_,jf rf tv [0,0,0,0,0,0,0,0,0,0,0,0] r ho hs⟩) ?_)))))))
     rintro ⟨e,f⟩ d5 hd c w ⟨A,D,g3,O,_,hok,hsym⟩
     obtain ⟨c3,e0,R6,R17,y⟩:=O.u5 c1 c2 R6 R17 y
     refine Cod.at hok hsym (.seq (.sk 2 r (.lo AP (.o 10 r) r (.kn 1 170141183460469231731687303715884108915 r (.condP r hd (fun c4 hd=>?_) fun c4 hd=>?_)))))
     · refine .sn 3187 r (.seq (.block (.dr [0,1,2,3,4,5,6,7,8,9,10,11,12,13,14,15,16,17,18,19,20,21,22] 23 (.fk 4 r (.hl EJ 0 r (.fk 3 r (.hl AP 10 r (.fk 4 r (.hl AP 0 r ?_)))))))))
       refine .fk 3 r (.h r (fun _=>.bd F0 VV VS r .mk) (.ww r fun ex=>?_))
       refine .bs 1 DO BR F0 r fun g4=>?_
       refine .so 13 r r r (.ch r (fun _=>.lo EJ .p1 r .mk) (.ck 4 r r tv)) (.ww r fun ex=>?_)
       obtain ⟨c5,hd⟩:=hd
       refine .append (ys:=[({ Kind:=7,From:=A7 ((A7 (o1.I*o0.P.C))+o1.J),To:=A7 ((A7 (f*o0.P.C))+o1.J),Seq:=0,Round:=a,Vec:=G0,Sums:=([]:List P9),Triples:=V,N:=0,Over:=false }:AM)]) 136 .p2 DO DO dE r r r r r r r r r (.box .z (.one ⟨((_,_),(_,_),(_,_)),r,⟨(.nil _ _ _),(.nil _ _ _),y⟩⟩) r) c5 r r fun g5 g6=>?_
       refine .so 13 r r r (.ck 1 r r tv) (.fk 2 r (.ww r fun ex=>?_))
       exact .s1 aH .p2 r (.sn 13 r r r tv (.e2 23 (.no 3187 r (.drop .p1 (.region (.ks 3 r (.nil' fun c w ho hs=>⟨((e++([({ Kind:=7,From:=A7 ((A7 (o1.I*o0.P.C))+o1.J),To:=A7 ((A7 (f*o0.P.C))+o1.J),Seq:=0,Round:=a,Vec:=G0,Sums:=([]:List P9),Triples:=V,N:=0,Over:=false }:AM)])),A7 (f+1)),hd,_,_,jf O tv [1,0,0,0,0,0,0,0,0,0,0,0] r ho hs⟩)))))))
     exact .en 115 r (.region (.ks 3 r (.nil' fun c w ho hs=>⟨(e,A7 (a+1)),hd,_,_,jf c3 tv [0,0,0,0,0,0,0,0,0,0,0,0] r ho hs⟩)))
   exact .sn 115 r (.drop (.o 11 r) (.region (.ks 3 r (.nil' fun c w ho hs=>⟨(i,A7 (a+1)),hd,_,_,jf K tv [0,0,0,0,0,0,0,0,0,0,0,0] r ho hs⟩))))
 exact .exit (Q5 r .n g (.o [2,2,2,0,0,0,0,0,0,0,1] r) ⟨({ o1 with Out:=k }:AO),ga16,_,_,_,_,_,_,_,_,_,_,_,_,r,R17,r,hd⟩)
theorem eG {a0:Int} {Q0:Int→Prop} {Q1:(Int×B4)→Prop} (hd:SB a0 Q0 Q1) :
  Fun prog 77 #[.int .i64 a0] I [] (fun I_ v l=>(∃ r,v=.tuple #[.pointer none,.int .i64 r]∧l=[]∧Q0 r)∨(∃ r b1 p2 c3,v=.tuple #[.pointer (some ⟨b1,0,none⟩),.int .i64 r.1]∧l=[pto b1 (.cells (CN r.2 p2 c3) 199 (0,0)),OwnSl BI 196 p2 c3 r.2.L]∧Q1 r)):=by
 refine Fun.en func77 ntmps77 r fun w0 M=>.sr (.kn 2 1 r (.seq (.sk 3 r (.spl hd [5,6] r (fun a hd=>?_) fun a hd=>?_))))
 · exact .kn 3 513 r (.condKT r r (.sr (.kn 2 12 r (.ret (JG r (.t r (.t r .n)) rf .n (.inl ⟨3,r,r,hd⟩))))))
 refine .kn 3 513 r (.condP r hd (fun b hd=>?_) fun b hd=>?_)
 · exact .sr (.kn 2 12 r (.ret (JG r (.t r (.t r .n)) rf .n (.inl ⟨3,r,r,hd⟩))))
 exact .sn 1 r (.sk 1 r (.bd zeroValue199 underlying199 Ae2 r (.bx r fun c=>.kn 2 12 r (.own0 BI 196 (.ret (JG r (.t r (.t r .n)) rf (.o [1,0] r) (.inr ⟨(0,({ Many:=a0,Out:=0,In:=0,L:=([]:List AM) }:B4)),_,_,_,r,r,hd⟩)))))))
theorem eH {o0:A4} {o1:A9} {a0:BF} {Q0:(Int×A4×A9)→Prop} {Q1:(Int×A4×A9×AR)→Prop} (R4:nE I gc3 a0) (hd:O0 o0 o1 a0 Q0 Q1) :
  Fun prog 23 #[.agg (JU a0 gc3)] I [AW A6 o0,AW AX o1] (fun I_ v l=>(∃ r,v=.tuple #[.pointer none,.int .i64 r.1]∧l=[AW A6 r.2.1,AW AX r.2.2]∧Q0 r)∨(∃ r b5 gl6,v=.tuple #[.pointer (some ⟨b5,0,none⟩),.int .i64 r.1]∧sV I_ gl6 r.2.2.2∧l=[AW A6 r.2.1,AW AX r.2.2.1,pto b5 (.cells (BM r.2.2.2 gl6) 134 (0,0))]∧Q1 r)):=by
 refine Fun.en func23 ntmps23 r fun w0 M=>?_
 refine .sr (.bx r fun b7=>?_)
 refine .kn 2 2 r (.seq (.sr (.lw LS IU .z r ?_)))
 have i3:=O6 R4 hd
 refine .cq call34 i3 r fun j0 hd=>?_
 refine .ks 1 r (.nk 18 2 r (.no 32786 r (.condP r hd (fun i4 hd=>?_) fun i4 hd=>?_)))
 · exact .sr (.kn 3 12 r (.drop .z (.ret (JG r (.t r (.t r .n)) rf (.o [0,0] r) (.inl ⟨(j0,o0,o1),r,r,hd⟩)))))
 refine .sn 2 r (.seq (.dr [0,1,2,3,4,5,6,7,8,9,10] 11 (.h r (fun _=>.lw LS IU .z r .mk) (.fk 2 r (.hl AP 0 r (.fk 1 r (.hl AP 0 r (.fk 1 r (.hl AP 0 r ?_)))))))))
 refine .ww r fun ex=>?_
 have i5:=cP (I:=I) hd
 refine .call call74 r i5 r r fun l8 l9 b1 i6=>?_
 obtain ⟨x,Z,a1,rfl,a,hd⟩:=i6
 have R4:=b1.u1 R4
 refine .so 3 r r r (.ch r (fun _=>.lw LS IU .z r .mk) tv) (.h r (fun _=>.bd zeroValue134 AeF AdX r .mk) (.ww r fun ex=>?_))
 refine .bx r fun a8=>?_
 refine .so 4 r r r tv (.e2 11 (.kn 1 34 r (.seq (.sr (.kn 1 98 r (.block (.own0 D6 135 (.own0 D6 141 (.lx hd [5,1] [3,4] r (fun j E l (d,e,O,Q)=>fun c w=>∃ g i k m,j ⟨134,[],none⟩ (fun I_=>True) ((6,.int .i64 O) :: E) (pto a8 (.cells #[.int .i64 a0.Ring,.int .i64 a0.A.Rows,.int .i64 a0.A.Cols,.slice gc3.1.1.1 a0.A.Start.length gc3.1.1.2,.slice gc3.1.2.1.1 a0.A.Col.length gc3.1.2.1.2,.slice gc3.1.2.2.1 a0.A.Val.length gc3.1.2.2.2,.int .i64 a0.B.Rows,.int .i64 a0.B.Cols,.slice gc3.2.1.1.1 a0.B.Start.length gc3.2.1.1.2,.slice gc3.2.1.2.1.1 a0.B.Col.length gc3.2.1.2.1.2,.slice gc3.2.1.2.2.1 a0.B.Val.length gc3.2.1.2.2.2,.int .i64 a0.Mask.Rows,.int .i64 a0.Mask.Cols,.slice gc3.2.2.1.1 a0.Mask.Start.length gc3.2.2.1.2,.slice gc3.2.2.2.1.1 a0.Mask.Col.length gc3.2.2.2.1.2,.slice gc3.2.2.2.2.1 a0.Mask.Val.length gc3.2.2.2.2.2,.int .i64 a0.R,.int .i64 a0.C,.int .i64 a0.Room,.slice Z x.length a1,.slice g d.length i,.slice k e.length m] 134 (0,0)) :: OwnSl D6 135 g i d :: OwnSl D6 141 k m e :: AW A6 Q :: l) c w) (fun c w ho hs=>⟨_,_,_,_,jf rf tv [2,1,0,1,0,0] r ho hs⟩) ?_)))))))))
 rintro ⟨d,e,O,Q⟩ i7 hd c w ⟨g,i,k,m,j7,L,_,hok,hsym⟩
 obtain ⟨a2,R4,a⟩:=L.u3 b1 R4 a
 refine Cod.at hok hsym (.seq (.sk 2 r (.lo AP .p4 r (.kn 1 2147483746 r (.condP r hd (fun b2 hd=>?_) fun b2 hd=>?_)))))
 · refine .sn 98 r (.seq (.block (.sr (.kn 1 226 r (.block (.lx hd [6,5,1] [4,2,3] r (fun j E l (p,T,y)=>fun c w=>∃ D F,j ⟨134,[],none⟩ (fun I_=>True) ((7,.int .i64 T) :: E) (pto a8 (.cells #[.int .i64 a0.Ring,.int .i64 a0.A.Rows,.int .i64 a0.A.Cols,.slice gc3.1.1.1 a0.A.Start.length gc3.1.1.2,.slice gc3.1.2.1.1 a0.A.Col.length gc3.1.2.1.2,.slice gc3.1.2.2.1 a0.A.Val.length gc3.1.2.2.2,.int .i64 a0.B.Rows,.int .i64 a0.B.Cols,.slice gc3.2.1.1.1 a0.B.Start.length gc3.2.1.1.2,.slice gc3.2.1.2.1.1 a0.B.Col.length gc3.2.1.2.1.2,.slice gc3.2.1.2.2.1 a0.B.Val.length gc3.2.1.2.2.2,.int .i64 a0.Mask.Rows,.int .i64 a0.Mask.Cols,.slice gc3.2.2.1.1 a0.Mask.Start.length gc3.2.2.1.2,.slice gc3.2.2.2.1.1 a0.Mask.Col.length gc3.2.2.2.1.2,.slice gc3.2.2.2.2.1 a0.Mask.Val.length gc3.2.2.2.2.2,.int .i64 a0.R,.int .i64 a0.C,.int .i64 a0.Room,.slice Z x.length a1,.slice D p.length F,.slice k e.length m] 134 (0,0)) :: OwnSl D6 135 D F p :: AW A6 y :: l) c w) (fun c w ho hs=>⟨_,_,jf rf tv [0,0,1,1,0,0] r ho hs⟩) ?_))))))
   rintro ⟨p,T,y⟩ i8 hd c w ⟨D,F,j8,a3,_,hok,hsym⟩
   obtain ⟨b3,a4,R4,a⟩:=a3.u4 a2 L R4 a
   refine Cod.at hok hsym (.seq (.sk 2 r (.lo AP .p3 r (.kn 1 137438953698 r (.condP r hd (fun b6 hd=>?_) fun b6 hd=>?_)))))
   · refine .sn 226 r (.seq (.block (.sk 3 r (.loadA B6 AE r .p3 (.o 5 r) r r r (.ks 1 r (.lo AP .p3 r (.ks 1 r (.lo AP .p3 r (.ks 2 r ?_)))))))))
     have b8:=qA R4.2.2 hd
     refine .call call75 r b8 r r fun j9 f3 b9 c0=>?_
     obtain ⟨k0,c1,rfl,U,hd⟩:=c0
     obtain ⟨c2,c3,c4,R4,a⟩:=b9.u5 b3 a4 a3 R4 a
     refine .bd zeroValue139 underlying139 AdZ r (.bx r fun q=>?_)
     refine .ks 1 r (.nk 482 4 r (.lo KZ .p1 r (.ln HJ r ?_)))
     obtain ⟨f4,f5,hd⟩:=hd
     refine .make (El:=eB) (zv:=false) 1 jL IN4 r r r r r r f4 f5 r r r fun f6=>?_
     refine .ks 2 r (.s1 sizeOf136 .p1 r (.nk 482 4 r (.lo KZ .p2 r (.ln HJ r ?_))))
     obtain ⟨f7,f8,hd⟩:=hd
     refine .make (El:=eB) (zv:=false) 1 jL IN4 r r r r r r f7 f8 r r r fun f9=>?_
     refine .ks 2 r (.s1 sizeOf136 .p2 r (.nk 482 4 r (.lo KZ .p3 r (.ln HJ r ?_))))
     obtain ⟨g0,g1,hd⟩:=hd
     refine .make (El:=(JI B5)) (zv:=([]:List A1)) 24 jM AdT r r r ⟨_,_,r,.nil _ _ _⟩ r r g0 g1 r r r fun g2=>?_
     refine .ks 2 r (.s1 sizeOf137 .p3 r (.nk 482 4 r (.lo KZ .p4 r (.ln HJ r ?_))))
     obtain ⟨g3,g4,hd⟩:=hd
     refine .make (El:=(JI B5)) (zv:=([]:List A1)) 24 jM AdT r r r ⟨_,_,r,.nil _ _ _⟩ r r g3 g4 r r r fun g5=>?_
     refine .ks 2 r (.s1 sizeOf137 .p4 r (.nk 482 2 r (.own0 BI 196 (.own0 BL 161 ?_))))
     have c5:=SO (I:=f3) (b4:=a8) (gm5:=(gc3,(Z,a1))) (p7:=D) (c8:=F) (p10:=k) (c11:=m) (b15:=q) (ga16:=c1) (p18:=none) (c19:=0) (p21:=some ⟨f6,0,none⟩) (c22:=(x.length:Int).toNat) (p24:=some ⟨f9,0,none⟩) (c25:=(x.length:Int).toNat) (p27:=some ⟨g2,0,none⟩) (c28:=(x.length:Int).toNat) (p30:=some ⟨g5,0,none⟩) (c31:=(x.length:Int).toNat) (p33:=none) (c34:=0) ⟨R4,a⟩ U hd
     refine .callS (.f call76 r) (.o [7,7,9,6,1,4,3,2,1,0,0] r) c5 r r fun k1 k2 k3 c6 c7=>?_
     obtain ⟨a9,c9,g6,g7,g8,g9,h0,h1,h2,h3,h4,h5,h6,h7,rfl,s,rfl,hd⟩:=c7
     obtain ⟨d0,d1,d2,R4,a,U⟩:=c6.u6 c2 c3 c4 R4 a U
     refine .rn 13 r (.no 482 r (.region (.ks 4 r (.lo OQ .z r (.ks 1 r (.bs 1 MT sizeOf135 zeroValue135 r fun k4=>?_))))))
     refine .pub .p5 fun k5 d3 V=>?_
     obtain ⟨d4,d5,d6,R4,a,s⟩:=d3.u6 d0 d1 d2 R4 a s
     refine .pub .p9 fun k6 a5 h8=>?_
     obtain ⟨j1,j2,d7,R4,a,s⟩:=a5.u6 d4 d5 d6 R4 a s
     have V:=a5.u1 V
     refine .bankP (B:=A6) ((c9,(g6,g7),(h6,h7)),g8,g9,h0,h1,h2,h3,h4,h5) a9 ⟨s,V,h8⟩ (.o [4,4,4,4,4,4] r) fun d8=>?_
     have hd:=hd q d8
     obtain ⟨d9,hd⟩:=hd
     refine .append (ys:=[(some q)]) 8 .p3 MT MT AdY r r r r r r r r r (.box .p1 (.one r) r) d9 r r fun k7 k8=>?_
     exact .ks 2 r (.s1 sizeOf131 .p3 r (.no 226 r (.drop .p2 (.region (.ks 3 r (.nil' fun c w ho hs=>⟨((p++([(some q)])),A7 (T+1),((q,a9) :: y)),hd,_,_,jf d7 tv [2,0,0,1,0,0] r ho hs⟩))))))
   exact .en 98 r (.region (.ks 3 r (.nil' fun c w ho hs=>⟨(p,e,A7 (O+1),y),hd,_,_,_,_,jf a4 tv [0,0,2,0,0,0] r ho hs⟩)))
 refine .en 34 r (.seq (.sr (.kn 1 546 r (.block (.lx hd [5,1] [4,1,2] r (fun j E l (u,X,G)=>fun c w=>∃ H J,j ⟨134,[],none⟩ (fun I_=>True) ((9,.int .i64 X) :: E) (pto a8 (.cells #[.int .i64 a0.Ring,.int .i64 a0.A.Rows,.int .i64 a0.A.Cols,.slice gc3.1.1.1 a0.A.Start.length gc3.1.1.2,.slice gc3.1.2.1.1 a0.A.Col.length gc3.1.2.1.2,.slice gc3.1.2.2.1 a0.A.Val.length gc3.1.2.2.2,.int .i64 a0.B.Rows,.int .i64 a0.B.Cols,.slice gc3.2.1.1.1 a0.B.Start.length gc3.2.1.1.2,.slice gc3.2.1.2.1.1 a0.B.Col.length gc3.2.1.2.1.2,.slice gc3.2.1.2.2.1 a0.B.Val.length gc3.2.1.2.2.2,.int .i64 a0.Mask.Rows,.int .i64 a0.Mask.Cols,.slice gc3.2.2.1.1 a0.Mask.Start.length gc3.2.2.1.2,.slice gc3.2.2.2.1.1 a0.Mask.Col.length gc3.2.2.2.1.2,.slice gc3.2.2.2.2.1 a0.Mask.Val.length gc3.2.2.2.2.2,.int .i64 a0.R,.int .i64 a0.C,.int .i64 a0.Room,.slice Z x.length a1,.slice g d.length i,.slice H u.length J] 134 (0,0)) :: OwnSl D6 141 H J u :: AW AX G :: l) c w) (fun c w ho hs=>⟨_,_,jf rf tv [0,1,3,2,0,0] r ho hs⟩) ?_)))))
 rintro ⟨u,X,G⟩ i9 hd c w ⟨H,J,h9,N,_,hok,hsym⟩
 obtain ⟨a6,a7,R4,a⟩:=N.u4 a2 L R4 a
 refine Cod.at hok hsym (.seq (.seq (.dr [0,1,2,3,4,5,6,7,8,9,10,11,12] 13 (.fk 4 r (.hl OQ 0 r (.h r (fun _=>.ln MT r .mk) (.fk 3 r (.hl OQ 0 r (.h r (fun _=>.ln MT r .mk) ?_)))))))))
 refine .fk 2 r (.e2 13 (.no 20769187434139310514121985316880930 r (.condP r hd (fun e0 hd=>?_) fun e0 hd=>?_)))
 · refine .sn 546 r (.seq (.block (.sk 1 r (.lo AP .p3 r ?_))))
   have e1:=eG (I:=h9)  hd
   refine .callS (.f call77 r) .n e1 r r fun k9 l0 l1 e3 b=>?_
   rcases b with b | b
   · obtain ⟨l2,rfl,rfl,hd⟩:=b; exact hd.elim
   obtain ⟨b0,K,i0,i1,rfl,rfl,hd⟩:=b
   obtain ⟨j3,j4,e4,R4,a⟩:=e3.u5 a6 a7 N R4 a
   refine .rn 8 r (.kn 5 1570 r (.region (.ks 4 r (.lo isAgg132 .p2 r (.ks 1 r (.bs 1 tZ sizeOf141 zeroValue141 r fun l3=>?_))))))
   refine .bankP (B:=AX) (i0,i1) b0.2 tv (.o [1,1,3] r) fun e5=>?_
   have hd:=hd K e5
   obtain ⟨e6,hd⟩:=hd
   refine .append (ys:=[(some K)]) 8 .p3 tZ tZ Ae0 r r r r r r r r r (.box .p1 (.one r) r) e6 r r fun l4 l5=>?_
   exact .ks 2 r (.s1 sizeOf132 .p3 r (.no 546 r (.drop .p2 (.region (.ks 3 r (.nil' fun c w ho hs=>⟨((u++([(some K)])),A7 (X+1),((K,b0.2) :: G)),hd,_,_,jf e4 tv [2,0,0,0,0,0] r ho hs⟩))))))
 refine .en 32 r (.drop .p3 (.sr (.kn 3 12 r (.pub .p1 fun l6 e7 Y=>?_))))
 obtain ⟨e8,e9,f0,R4,a⟩:=e7.u5 a6 a7 N R4 a
 refine .pub .p2 fun l7 f1 i2=>?_
 obtain ⟨f2,j5,j6,R4,a,Y⟩:=f1.u6 e8 e9 f0 R4 a Y
 exact .ret (JG r (.t r (.t r .n)) f2 (.o [2,1,0] r) (.inr ⟨(0,Q,G,({ P:=a0,S:=x,W:=d,B:=u }:AR)),_,(gc3,(Z,a1),(g,i),(H,J)),r,⟨R4,a,i2,Y⟩,r,hd⟩))
theorem UE {o0:A4} {o1:A9} {a0:EI} {Q:Bool→Prop} (hd:OH o0 o1 a0 Q) :
  Fun prog 26 #[.pointer none,.agg (TK a0).toArray] I [AW A6 o0,AW AX o1] (fun I_ v l=>∃ r,v=.bool r∧l=[AW A6 o0,AW AX o1]∧Q r):=by
 exact Fun.en func26 ntmps26 r fun w0 M=>.sr (.bx r fun a=>.kn 1 9 r (.seq (.sk 1 r (.eqNilP lZ r r r r (.kn 5 2057 r (.condKT r r (.sr (.kn 1 16 r (.drop .z (.q1 results26 rf [0,0] r ⟨false,r,r,hd⟩))))))))))
theorem KK {o0:A4} {Q:Bool→Prop} (hd:HD o0 Q) :
  Fun prog 80 #[.pointer none] I [AW A6 o0] (fun I_ v l=>∃ r,v=.bool r∧l=[AW A6 o0]∧Q r):=by
 exact Fun.en func80 ntmps80 r fun w0 M=>.sr (.kn 1 1 r (.seq (.sk 1 r (.eqNilP lZ r r r r (.no 33 r (.condKT r r (.sr (.kn 1 4 r (.q1 results80 rf [0] r ⟨false,r,r,hd⟩)))))))))
theorem RE {o0:A4} {o1:A9} (hd:KS o0 o1) :
  Fun prog 94 #[.pointer none] I [AW A6 o0,AW AX o1] (fun _ _ _=>False):=by
 refine Fun.en func94 ntmps94 r fun w0 M=>.sk 1 r (.nk 1 1 r (.no 9 r (.seq (.sr (.kn 1 25 r (.block (.lp hd [4,3,0] [0,0] r (fun j E l _=>j E l) (ji rf [0,0] r) ?_)))))))
 refine fun _ a hd=>jq r fun c b=>.seq (.sk 2 r ?_)
 exact hd.elim
theorem RF {o0:A4} {Q:(Rows×Int)→Prop} (hd:KT o0 Q) :
  Fun prog 79 #[.pointer none] I [AW A6 o0] (fun I_ v l=>∃ r ga2,v=.tuple #[.agg (F8 r.1 ga2),.int .i64 r.2]∧NX I_ ga2 r.1∧l=[AW A6 o0]∧Q r):=by
 refine Fun.en func79 ntmps79 r fun w0 M=>.sr (.al CF r fun a=>.kn 1 5 r (.seq (.sk 1 r (.eqNilP lZ r r r r (.no 37 r (.condKT r r (.sr (.bd CF FJ FI r (.sa AE .z r (.kn 1 12 r ?_))))))))))
 exact .ret (JG r (.w B6 AE r .z r (.t r .n)) rf (.o [1] r) ⟨(B1,10),((_,_),(_,_),(_,_)),r,⟨(.nil _ none 0),(.nil _ none 0),(.nil _ none 0)⟩,r,hd⟩)
theorem E7 {o0:AR} {o1:A4} {o2:A9} {a0 a1:Int} {Q0:Unit→Prop} {Q1:(Option Nat)→Prop} (R6:sV I gl5 o0) (hd:BX o0 o1 o2 a0 a1 Q0 Q1) :
  Fun prog 91 #[.pointer (some ⟨b4,0,none⟩),.int .i64 a0,.int .i64 a1] I [pto b4 (.cells (BM o0 gl5) 134 (0,0)),AW A6 o1,AW AX o2] (fun I_ v l=>(∃ r,v=.pointer none∧l=[pto b4 (.cells (BM o0 gl5) 134 (0,0)),AW A6 o1,AW AX o2]∧Q0 r)∨(∃ r,v=.pointer (eJ r)∧l=[pto b4 (.cells (BM o0 gl5) 134 (0,0)),AW A6 o1,AW AX o2]∧Q1 r)):=by
 refine Fun.en func91 ntmps91 r fun w0 M=>.sr (.kn 1 7 r (.seq (.sk 1 r (.eqNilP lZ r r r r (.ks 5 r (.spl hd [11,12,13] r (fun a hd=>?_) fun a hd=>?_))))))
 · exact .kn 21 17179869191 r (.condKT r r (.sr (.kn 1 65 r (.q1 results91 rf [0,0,0] r (.inl ⟨(),r,r,hd⟩)))))
 refine .ks 4 r (.yes r (.lo OQ .z r (.yes r (.ln MT r (.ks 3 r (.spl hd [20,21,22] r (fun b hd=>?_) fun b hd=>?_))))))
 · exact .kn 12 17179869191 r (.condKT r r (.sr (.kn 1 65 r (.q1 results91 rf [0,0,0] r (.inl ⟨(),r,r,hd⟩)))))
 refine .ks 4 r (.spl hd [24,25,26] r (fun c hd=>?_) fun c hd=>?_)
 · exact .kn 8 17179869191 r (.condKT r r (.sr (.kn 1 65 r (.q1 results91 rf [0,0,0] r (.inl ⟨(),r,r,hd⟩)))))
 refine .ks 4 r (.yes r (.lo OQ .z r (.yes r (.ln MT r (.kn 2 17179869191 r (.condP r hd (fun d hd=>?_) fun d hd=>?_))))))
 · exact .sr (.kn 1 65 r (.q1 results91 rf [0,0,0] r (.inl ⟨(),r,r,hd⟩)))
 refine .sn 7 r (.seq (.dr [0,1,2,3,4,5,6,7,8,9,10,11,12,13,14] 15 (.fk 3 r (.hl isAgg132 0 r (.fk 4 r (.hl OQ 0 r (.h r (fun _=>.ln MT r .mk) (.fk 3 r ?_))))))))
 obtain ⟨g,i,e,k,o19,j,f,hd⟩:=R6.2.2.2.ix hd
 exact .h r (fun _=>.ixb tZ sizeOf141 j g e r .mk) (.h r (fun _=>.ldb 0 isAgg141 f r .mk) (.e2 15 (.kn 1 65 r (.q1 results91 rf [0,0,0] r (.inr ⟨i,r,r,hd⟩)))))
theorem WF {o0:B4} {a0:AM} {Q:(Int×B4)→Prop} (R8:gZ I ge7 a0) (hd:I6 o0 a0 Q) :
  Fun prog 160 #[.pointer (some ⟨b2,0,none⟩),.agg (JV a0 ge7)] I [pto b2 (.cells (CN o0 p3 c4) 199 (0,0)),OwnSl BI 196 p3 c4 o0.L] (fun I_ v l=>∃ r p10 c11,v=.int .i64 r.1∧l=[pto b2 (.cells (CN r.2 p10 c11) 199 (0,0)),OwnSl BI 196 p10 c11 r.2.L]∧Q r):=by
 refine Fun.en func160 ntmps160 r fun w0 M=>?_
 refine .sr (.bx r fun j=>?_)
 refine .kn 1 9 r (.seq (.sk 1 r (.eqNilP XY r r r r (.no 73 r (.condKF r r (.sn 9 r (.seq (.seq (.dr [0,1,2,3,4,5,6,7,8,9] 10 ?_)))))))))
 refine .fk 3 r (.hl EJ 1 r (.h r (fun _=>.ln DO r .mk) (.fk 3 r (.hl AP 1 r (.fk 1 r (.e2 10 (.no 65545 r (.condP r hd (fun c hd=>?_) fun c hd=>?_))))))))
 · exact .sr (.kn 1 17 r (.drop .z (.q1 results160 rf [0,0] r ⟨(9,o0),_,_,r,r,hd⟩)))
 refine .sn 9 r (.sr (.lw FL BR .z r ?_))
 have d:=dQ R8 hd
 refine .call call164 r d r r fun k m a e=>?_
 obtain ⟨b,f,rfl,i,hd⟩:=e
 have R8:=a.u1 R8
 refine .sa BR .z r (.nk 9 3 r (.lo AP .p1 r (.ks 1 r (.s1 DN .z r (.nk 9 3 r (.lo AP .p1 r (.ks 3 r (.s1 DN .p1 r (.no 9 r ?_)))))))))
 refine .seq (.dr [0,1,2,3,4,5,6,7,8,9,10] 11 (.fk 4 r (.hl EJ 1 r (.h r (fun _=>.lw FL BR .z r .mk) (.ww r fun ex=>?_)))))
 refine .bs 1 DO BR F0 r fun n=>?_
 refine .so 4 r r r (.ch r (fun _=>.lo EJ .p2 r .mk) (.ck 4 r r tv)) (.ww r fun ex=>?_)
 obtain ⟨g,hd⟩:=hd
 refine .append (ys:=[({ b with Seq:=o0.Out }:AM)]) 136 .p3 DO DO dE r r r r r r r r r (.box .z (.one ⟨f,r,i⟩) r) g r r fun o p=>?_
 refine .so 4 r r r (.ck 1 r r tv) (.fk 2 r (.ww r fun ex=>?_))
 exact .s1 aH .p3 r (.sn 4 r r r tv (.e2 11 (.no 1 r (.drop .p1 (.drop .p1 (.sr (.kn 1 17 r (.q1 results160 a [1,0] r ⟨(0,({ o0 with Out:=A7 (o0.Out+1),L:=(o0.L++([({ b with Seq:=o0.Out }:AM)])) }:B4)),_,_,r,r,hd⟩))))))))
theorem WG {a0:AM} {Q:Int→Prop} (R2:gZ I ge1 a0) (hd:QH a0 Q) :
  Fun prog 160 #[.pointer none,.agg (JV a0 ge1)] I [] (fun I_ v l=>∃ r,v=.int .i64 r∧l=[]∧Q r):=by
 exact Fun.en func160 ntmps160 r fun w0 M=>.sr (.bx r fun a=>.kn 1 9 r (.seq (.sk 1 r (.eqNilP XY r r r r (.no 73 r (.condKT r r (.sr (.kn 1 16 r (.drop .z (.q1 results160 rf [] r ⟨10,r,r,hd⟩))))))))))
theorem XO {o0:A9} {a0:Option Nat} {a1:AM} {Q:(Int×A9)→Prop} (R3:gZ I ge2 a1) (hd:MI o0 a0 a1 Q) :
  Fun prog 160 #[.pointer (eJ a0),.agg (JV a1 ge2)] I [AW AX o0] (fun I_ v l=>∃ r,v=.int .i64 r.1∧l=[AW AX r.2]∧Q r):=by
 rcases a0 with _ | b
 · have hd:=hd.1 r
   refine (Fun.frame (r:=[AW AX o0]) (WG R3 hd)).conseq fun I_ v l hle h=>?_
   obtain ⟨d,rfl,rr,rfl,rfl,hq⟩:=h
   exact ⟨(rr,o0),r,r,hq⟩
 obtain ⟨x,hx,hd⟩:=hd.2 b rfl
 refine Fun.bank hx (fun aa _=>WF (b2:=b) (p3:=aa.1) (c4:=aa.2) R3 hd) ?_
 rintro aa I_ v l hle ⟨rr,a,c,rfl,rfl,hq⟩
 exact ⟨(a,c),rr.2,[],r,tv,(rr.1,(b,rr.2) :: BO b o0),r,r,hq⟩
theorem L7 {o0:AR} {o1:A4} {o2:A9} {a0:Int} {Q:(Bool×A4×A9)→Prop} (R6:sV I gl5 o0) (hd:DI o0 o1 o2 a0 Q) :
  Fun prog 89 #[.pointer (some ⟨b4,0,none⟩),.int .i64 a0] I [pto b4 (.cells (BM o0 gl5) 134 (0,0)),AW A6 o1,AW AX o2] (fun I_ v l=>∃ r,v=.bool r.1∧l=[pto b4 (.cells (BM o0 gl5) 134 (0,0)),AW A6 r.2.1,AW AX r.2.2]∧Q r):=by
 refine Fun.en func89 ntmps89 r fun w0 M=>?_
 refine .sr (.kn 1 3 r (.seq (.sk 3 r (.spl hd [7,8] r (fun R hd=>?_) fun R hd=>?_))))
 · exact .kn 22 1073741827 r (.condKT r r (.sr (.kn 1 17 r (.q1 results89 rf [0,0,0] r ⟨(false,o1,o2),r,r,hd⟩))))
 refine .ks 4 r (.yes r (.lo OQ .z r (.yes r (.ln MT r (.ks 3 r (.spl hd [15,16,17] r (fun S hd=>?_) fun S hd=>?_))))))
 · exact .kn 13 1073741827 r (.condKT r r (.sr (.kn 1 17 r (.q1 results89 rf [0,0,0] r ⟨(false,o1,o2),r,r,hd⟩))))
 refine .ks 3 r (.yes r (.lo OQ .z r (.ks 1 r ?_)))
 obtain ⟨c7,g6,T,g7,o48,c8,U,hd⟩:=R6.2.2.1.ix hd
 refine .yes r (.ixb MT sizeOf135 c8 c7 T r (.yes r (.ldb 0 isAgg135 U r ?_)))
 obtain ⟨c9,d0,V,w,hd⟩:=hd
 refine .bankO .p1 w fun ⟨W,d1,d2,d3,d4,d5,d6,d7,d8⟩ d9=>?_
 refine .rn 8 r (.sub (E':=[(0,_),(1,_),(6,_),(7,_),(8,_),(9,_),(10,_),(11,_),(12,_),(13,_),(14,_),(15,_),(16,_),(17,_),(18,_),(19,_),(20,_),(21,_),(22,_),(23,_),(24,.pointer (some ⟨c9,0,none⟩))]) ⟨r,r,r,r,r,r,r,r,r,r,r,r,r,r,r,r,r,r,r,r,(by rw [V]; rfl),tv⟩ (.ks 2 r (.yes r (.lo EJ .z r (.yes r (.ln DO r (.ks 2 r (.bankB (B:=A6) (W,d1,d2,d3,d4,d5,d6,d7,d8) d0 d9 w (.o [0,0,0,0,0,0] r) (.no 1073741827 r (.condP r hd (fun X hd=>?_) fun X hd=>?_))))))))))
 · exact .sr (.kn 1 17 r (.q1 results89 rf [1,0,0] r ⟨(false,o1,o2),r,r,hd⟩))
 refine .sn 3 r (.sk 3 r (.lo OQ .p1 r (.ks 1 r ?_)))
 obtain ⟨e0,g8,Y,g9,o90,e1,Z,hd⟩:=R6.2.2.1.ix hd
 refine .ixb MT sizeOf135 e1 e0 Y r (.ldb 0 isAgg135 Z r (.kn 1 35 r (.seq (.seq ?_))))
 obtain ⟨n,a1,E,p,hd⟩:=hd
 refine .bankO .z p fun ⟨F,a2,a3,a4,a5,a6,a7,a8,a9⟩ c=>?_
 refine .rn 8 r (.sub (E':=[(0,_),(1,_),(5,.pointer (some ⟨n,0,none⟩))]) ⟨r,r,(by rw [E]; rfl),tv⟩ (.ownF .p1 fun e3=>?_))
 refine .ownF .p2 fun e4=>?_
 refine .ownF .p3 fun e5=>?_
 refine .ownF .p4 fun e6=>?_
 refine .dr [0,1,2,3,4,5,6,7,8,10,11,12,13,14,15,9,16,17] 18 (.fk 5 r (.hl EJ 0 r ?_))
 obtain ⟨b0,f1,q,hd⟩:=hd
 obtain ⟨f2,o193,e7,b1,d,e8,rfl,j⟩:=c.2.1.2 _ _ q
 refine .h r (fun _=>.ixb DO BR b1 b0 q r .mk) (.fk 1 r (.h r (fun _=>.ldb 2 AP d r .mk) (.fk 3 r (.hl EJ 0 r ?_))))
 obtain ⟨x,f3,k,hd⟩:=hd
 obtain ⟨f4,o204,e9,y,b,f0,rfl,i⟩:=c.2.1.2 _ _ k
 refine .h r (fun _=>.ixb DO BR y x k r .mk) (.h r (fun _=>.ldW FL BR b r r r r .mk) (.ww r fun ex=>?_))
 have G:=E7  (b4:=b4) R6 hd
 refine .callS (.f call91 r) (.o [6,5,5] r) G r r fun f5 f6 f7 s e=>?_
 rcases e with e | e
 · obtain ⟨f8,rfl,rfl,hd⟩:=e; exact hd.elim
 obtain ⟨f9,rfl,rfl,hd⟩:=e
 obtain ⟨R6,c,j,d,i,b⟩:=s.u6 R6 c j d i b
 refine .rx 8 r (.so 8 r r r (.ch r (fun _=>.ldW FL BR b r r r r .mk) (.ch r (fun _=>.ixb DO BR y x k r .mk) (.ch r (fun _=>.lo EJ .p3 r .mk) (.ck 3 r r tv)))) (.ww r fun ex=>?_))
 have J:=XO   i hd
 refine .callS (.f call160 r) (.o [2] r) J r r fun g0 g1 g2 t K=>?_
 obtain ⟨A,rfl,rfl,hd⟩:=K
 obtain ⟨u,R6,c,j,d,i⟩:=t.u6 s R6 c j d i
 have b:=t.u1 b
 refine .rx 8 r (.so 8 r r r tv (.fk 1 r (.e2 18 (.bankB (B:=A6) (F,a2,a3,a4,a5,a6,a7,a8,a9) a1 c p (.o [3,3,3,3,3,2] r) (.no 36028797018964001 r (.condP r hd (fun N hd=>?_) fun N hd=>?_))))))
 · exact .sr (.kn 1 17 r (.q1 results89 u [2,0,0] r ⟨(false,o1,A.2),r,r,hd⟩))
 refine .sn 33 r (.sk 2 r ?_)
 obtain ⟨g3,a,O,P,hd⟩:=hd
 obtain rfl:=Option.some.inj O
 refine .bankO .z P fun ⟨g,b2,b3,b5,b6,b7,b8,b9,c0⟩ m=>?_
 refine .rn 8 r (.ks 2 r (.lo EJ .z r ?_))
 obtain ⟨c1,g4,g5,hd⟩:=hd
 have C:Int.toNat 1≤Int.toNat (a.Out.length:Int):=by omega
 have D:Int.toNat (a.Out.length:Int)≤a.Out.length:=by omega
 obtain ⟨c2,c3,c4,c5,c6⟩:=RepSl.sliceW m.2.1 (Int.toNat 1) (Int.toNat (a.Out.length:Int)) g.2.1.2 C D (.inl rfl)
 exact .sliceW (L:=Int.toNat 1) (H:=Int.toNat (a.Out.length:Int)) (cm:=g.2.1.2) DO BR r r m.2.1.1 r r r (.inr ⟨_,_,r,c1,r⟩) (.inl ⟨r,r,r⟩) (.inl r) C D r c4 c5 r r (.ks 2 r (.s1 aH .z r (.bankC (B:=A6) ((g.1,(c2,c3),g.2.2),b2,b3,b5,b6,b7,b8,b9,c0) ({ a with Out:=((a.Out.take (a.Out.length:Int).toNat).drop (Int.toNat 1)) }:AO) ⟨m.1,c6,m.2.2⟩ (.o [0,0,0,0,0,0] r) (.nk 1 1 r (.no 17 r (.q1 results89 u [2,0,0] r ⟨(true,((n,({ a with Out:=((a.Out.take (a.Out.length:Int).toNat).drop (Int.toNat 1)) }:AO)) :: (BO n o1)),A.2),r,r,hd⟩))))))
theorem KP {o0:B4} {a0:Int} {Q:Int→Prop} (hd:F4 o0 a0 Q) :
  Fun prog 163 #[.pointer (some ⟨b2,0,none⟩),.int .i64 a0] I [pto b2 (.cells (CN o0 p3 c4) 199 (0,0)),OwnSl BI 196 p3 c4 o0.L] (fun I_ v l=>∃ r,v=.int .i64 r∧l=[pto b2 (.cells (CN o0 p3 c4) 199 (0,0)),OwnSl BI 196 p3 c4 o0.L]∧Q r):=by
 refine Fun.en func163 ntmps163 r fun w0 M=>.sr (.kn 1 3 r (.seq (.sk 1 r (.eqNilP XY r r r r (.no 67 r (.condKF r r (.sn 3 r (.seq (.sk 3 r (.spl hd [8,9] r (fun a hd=>?_) fun a hd=>?_))))))))))
 · exact .kn 8 131073 r (.condKT r r (.sr (.kn 1 17 r (.q1 results163 rf [0,0] r ⟨3,r,r,hd⟩))))
 refine .ks 4 r (.yes r (.lo EJ .z r (.yes r (.ln DO r (.kn 2 131073 r (.condP r hd (fun b hd=>?_) fun b hd=>?_))))))
 · exact .sr (.kn 1 17 r (.q1 results163 rf [0,0] r ⟨3,r,r,hd⟩))
 exact .sn 1 r (.sr (.kn 1 17 r (.q1 results163 rf [0,0] r ⟨0,r,r,hd⟩)))
theorem N5 {o0:B4} {a0:Int} {Q:(AM×B4)→Prop} (hd:EX o0 a0 Q) :
  Fun prog 165 #[.pointer (some ⟨b2,0,none⟩),.int .i64 a0] I [pto b2 (.cells (CN o0 p3 c4) 199 (0,0)),OwnSl BI 196 p3 c4 o0.L] (fun I_ v l=>∃ r ge12 p8 c9,v=.agg (JV r.1 ge12)∧gZ I_ ge12 r.1∧l=[pto b2 (.cells (CN r.2 p8 c9) 199 (0,0)),OwnSl BI 196 p8 c9 r.2.L]∧Q r):=by
 refine Fun.en func165 ntmps165 r fun w0 M=>?_
 refine .sr (.al F0 r fun Z=>?_)
 refine .nk 19 3 r (.lo EJ .p1 r (.ks 1 r ?_))
 obtain ⟨e,q,a,hd⟩:=hd
 refine .ownNe .p2 (CE a) fun E s=>?_
 cases s
 refine .ixa0 DO BR r r e (BD a e) r r (.loEW FL BR .p2 a r r r r r fun D j=>?_)
 obtain ⟨k,rfl,c⟩:=j
 refine .al F0 r fun F=>?_
 refine .sa BR .z r (.nk 51 1 r (.nk 115 4 r (.lo EJ .p2 r (.ks 1 r (.pub .p3 fun G d b=>?_)))))
 have c:=d.u1 c
 obtain ⟨J,K,N,hd⟩:=hd
 have f:Int.toNat 0≤Int.toNat a0:=by omega
 have g:Int.toNat a0≤o0.L.length:=by omega
 obtain ⟨O,P,t,u,x⟩:=RepSl.sliceW b (Int.toNat 0) (Int.toNat a0) c4 f g (.inl rfl)
 refine .sliceW (L:=Int.toNat 0) (H:=Int.toNat a0) (cm:=c4) DO BR r r b.1 r r r (.inl ⟨r,r⟩) (.inr ⟨_,_,r,(by omega),r⟩) (.inl r) f g r t u r r (.own0 BI 196 ?_)
 obtain ⟨m,hd⟩:=hd
 refine .append (ys:=((o0.L.take a0.toNat).drop (Int.toNat 0))) 136 .z DO DO dE r r r r r r r r r (.imm x r) m r r fun R S=>?_
 refine .ks 1 r (.nk 115 4 r (.lo EJ .p3 r (.ks 2 r ?_)))
 obtain ⟨y,T,U,hd⟩:=hd
 have h:Int.toNat (A7 (a0+1))≤Int.toNat (o0.L.length:Int):=by omega
 have i:Int.toNat (o0.L.length:Int)≤o0.L.length:=by omega
 obtain ⟨V,W,A,B,C⟩:=RepSl.sliceW b (Int.toNat (A7 (a0+1))) (Int.toNat (o0.L.length:Int)) c4 h i (.inl rfl)
 refine .sliceW (L:=Int.toNat (A7 (a0+1))) (H:=Int.toNat (o0.L.length:Int)) (cm:=c4) DO BR r r b.1 r r r (.inr ⟨_,_,r,y,r⟩) (.inl ⟨r,r,r⟩) (.inl r) h i r A B r r ?_
 obtain ⟨p,hd⟩:=hd
 refine .append (ys:=((o0.L.take (o0.L.length:Int).toNat).drop (A7 (a0+1)).toNat)) 136 .z DO DO dE r r r r r r r r r (.imm C r) p r r fun X Y=>?_
 exact .ks 1 r (.nk 113 4 r (.s1 aH .p3 r (.ns 49 r (.lw FL BR .p1 r (.sa BR .p2 r (.no 17 r (.drop .p1 (.ret (JG r (.w FL BR r .p1 r .n) d (.o [2,0] r) ⟨(q,({ o0 with L:=((([]:List AM)++((o0.L.take a0.toNat).drop (Int.toNat 0)))++((o0.L.take (o0.L.length:Int).toNat).drop (A7 (a0+1)).toNat)) }:B4)),k,_,_,r,c,r,hd⟩)))))))))
theorem WH {o0:B4} {a0:Int} {Q:(AM×Bool×Int×B4)→Prop} (hd:I7 o0 a0 Q) :
  Fun prog 161 #[.pointer (some ⟨b2,0,none⟩),.int .i64 a0] I [pto b2 (.cells (CN o0 p3 c4) 199 (0,0)),OwnSl BI 196 p3 c4 o0.L] (fun I_ v l=>∃ r ge12 p8 c9,v=.tuple #[.agg (JV r.1 ge12),.bool r.2.1,.int .i64 r.2.2.1]∧gZ I_ ge12 r.1∧l=[pto b2 (.cells (CN r.2.2.2 p8 c9) 199 (0,0)),OwnSl BI 196 p8 c9 r.2.2.2.L]∧Q r):=by
 refine Fun.en func161 ntmps161 r fun w0 M=>?_
 refine .sr (.al F0 r fun V=>?_)
 refine .kn 2 19 r (.seq (.sk 2 r ?_))
 have i:=KP (I:=I) (b2:=b2) (p3:=p3) (c4:=c4) hd
 refine .callS (.f call163 r) (.o [1,1] r) i r r fun G A H b k=>?_
 obtain ⟨B,rfl,rfl,hd⟩:=k
 refine .rn 3 r (.ks 1 r (.nk 147 2 r (.no 8339 r (.condP r hd (fun m hd=>?_) fun m hd=>?_))))
 · exact .sr (.bd F0 VV VS r (.ks 1 r (.sa BR .p2 r (.kn 2 113 r (.ret (JG r (.w FL BR r .p2 r (.t r (.t r .n))) b (.o [0,0] r) ⟨(({ Kind:=0,From:=0,To:=0,Seq:=0,Round:=0,Vec:=G0,Sums:=([]:List P9),Triples:=([]:List A1),N:=0,Over:=false }:AM),false,B,o0),((_,_),(_,_),(_,_)),_,_,r,⟨(.nil _ none 0),(.nil _ none 0),(.nil _ none 0)⟩,r,hd⟩))))))
 refine .sn 19 r (.seq (.seq (.ownF .p1 fun e=>?_)))
 refine .dr [0,1,2,3,4,5,6,7,8,9,10,11,12] 13 (.fk 3 r (.hl EJ 0 r (.fk 1 r ?_)))
 obtain ⟨g,J,c,hd⟩:=hd
 obtain ⟨C,D⟩:=e (CE c)
 cases D
 refine .h rfl (fun _=>.ixa0 DO BR rfl rfl g (BD c g) rfl rfl .mk) (.fk 1 rfl (.h rfl (fun _=>.loEs (j:=3) AP .p1 c rfl rfl (fun cs h=>by obtain ⟨F,rfl,K⟩:=h; rfl) rfl rfl .mk) (.fk 3 rfl (.h rfl (fun _=>.lo AP .z rfl .mk) (.fk 1 rfl (.e2 13 (.no 268435475 rfl (.condP rfl hd (fun p hd=>?_) fun p hd=>?_))))))))
 · exact .sr (.bd F0 VV VS r (.sa BR .p2 r (.kn 2 113 r (.ret (JG r (.w FL BR r .p2 r (.t r (.t r .n))) b (.o [0,0] r) ⟨(({ Kind:=0,From:=0,To:=0,Seq:=0,Round:=0,Vec:=G0,Sums:=([]:List P9),Triples:=([]:List A1),N:=0,Over:=false }:AM),false,0,o0),((_,_),(_,_),(_,_)),_,_,r,⟨(.nil _ none 0),(.nil _ none 0),(.nil _ none 0)⟩,r,hd⟩)))))
 refine .sn 19 r (.sk 2 r ?_)
 have q:=N5 (I:=A) (b2:=b2) (p3:=some ⟨C,0,none⟩) (c4:=c4) hd
 refine .callS (.f call165 r) (.o [0,0] r) q r r fun O P R s u=>?_
 obtain ⟨a,x,S,T,rfl,E,rfl,hd⟩:=u
 have d:=s.u1 b
 refine .rn 3 r (.al F0 r fun U=>?_)
 refine .sa BR .z r (.no 273 r (.seq (.seq (.dr [0,1,2,3,4,5,6] 7 (.fk 1 r (.hl AP 0 r (.fk 3 r (.hl AP 1 r (.fk 1 r ?_)))))))))
 refine .e2 7 (.no 549755814161 r (.condP r hd (fun y hd=>?_) fun y hd=>?_))
 · exact .sr (.bd F0 VV VS r (.sa BR .p3 r (.kn 2 113 r (.drop .z (.ret (JG r (.w FL BR r .p2 r (.t r (.t r .n))) d (.o [0,0] r) ⟨(({ Kind:=0,From:=0,To:=0,Seq:=0,Round:=0,Vec:=G0,Sums:=([]:List P9),Triples:=([]:List A1),N:=0,Over:=false }:AM),false,0,a.2),((_,_),(_,_),(_,_)),_,_,r,⟨(.nil _ none 0),(.nil _ none 0),(.nil _ none 0)⟩,r,hd⟩))))))
 refine .sn 273 r (.sk 3 r (.lo AP .p1 r (.ks 3 r (.s1 DN .p1 r (.ns 273 r (.lw FL BR .z r (.sa BR .p3 r (.kn 2 113 r (.drop .z ?_)))))))))
 exact .ret (JG r (.w FL BR r .p2 r (.t r (.t r .n))) d (.o [0,0] r) ⟨(a.1,true,0,({ Many:=a.2.Many,Out:=a.2.Out,In:=A7 (a.2.In+1),L:=a.2.L }:B4)),x,_,_,r,E,r,hd⟩)
theorem KQ {a0:Int} {Q:Int→Prop} (hd:F5 a0 Q) :
  Fun prog 163 #[.pointer none,.int .i64 a0] I [] (fun I_ v l=>∃ r,v=.int .i64 r∧l=[]∧Q r):=by
 exact Fun.en func163 ntmps163 r fun w0 M=>.sr (.kn 1 3 r (.seq (.sk 1 r (.eqNilP XY r r r r (.no 67 r (.condKT r r (.sr (.kn 1 16 r (.q1 results163 rf [] r ⟨10,r,r,hd⟩)))))))))
theorem WI {a0:Int} {Q:(AM×Bool×Int)→Prop} (hd:QI a0 Q) :
  Fun prog 161 #[.pointer none,.int .i64 a0] I [] (fun I_ v l=>∃ r ge1,v=.tuple #[.agg (JV r.1 ge1),.bool r.2.1,.int .i64 r.2.2]∧gZ I_ ge1 r.1∧l=[]∧Q r):=by
 refine Fun.en func161 ntmps161 r fun w0 M=>?_
 refine .sr (.al F0 r fun j=>?_)
 refine .kn 2 19 r (.seq (.sk 2 r ?_))
 have a:=KQ (I:=I)  hd
 refine .callS (.f call163 r) .n a r r fun g h i b c=>?_
 obtain ⟨e,rfl,rfl,hd⟩:=c
 refine .rn 1 r (.ks 1 r (.nk 147 2 r (.no 8339 r (.condP r hd (fun d hd=>?_) fun d hd=>?_))))
 · exact .sr (.bd F0 VV VS r (.ks 1 r (.sa BR .z r (.kn 2 112 r (.ret (JG r (.w FL BR r .z r (.t r (.t r .n))) b .n ⟨(({ Kind:=0,From:=0,To:=0,Seq:=0,Round:=0,Vec:=G0,Sums:=([]:List P9),Triples:=([]:List A1),N:=0,Over:=false }:AM),false,e),((_,_),(_,_),(_,_)),r,⟨(.nil _ none 0),(.nil _ none 0),(.nil _ none 0)⟩,r,hd⟩))))))
 refine .sn 19 r (.seq (.seq (.dr [0,1,2,3,4,5,6,7,8,9,10,11,12] 13 (.fk 1 r ?_))))
 exact hd.elim
theorem XP {o0:A9} {a0:Option Nat} {a1:Int} {Q:(AM×Bool×Int×A9)→Prop} (hd:MJ o0 a0 a1 Q) :
  Fun prog 161 #[.pointer (eJ a0),.int .i64 a1] I [AW AX o0] (fun I_ v l=>∃ r ge2,v=.tuple #[.agg (JV r.1 ge2),.bool r.2.1,.int .i64 r.2.2.1]∧gZ I_ ge2 r.1∧l=[AW AX r.2.2.2]∧Q r):=by
 rcases a0 with _ | b
 · have hd:=hd.1 r
   refine (Fun.frame (r:=[AW AX o0]) (WI  hd)).conseq fun I_ v l hle h=>?_
   obtain ⟨e,rfl,rr,ge2,rfl,a,rfl,hq⟩:=h
   exact ⟨(rr.1,rr.2.1,rr.2.2,o0),ge2,r,a,r,hq⟩
 obtain ⟨x,hx,hd⟩:=hd.2 b rfl
 refine Fun.bank hx (fun aa _=>WH (b2:=b) (p3:=aa.1) (c4:=aa.2)  hd) ?_
 rintro aa I_ v l hle ⟨rr,ge2,c,d,rfl,a,rfl,hq⟩
 exact ⟨(c,d),rr.2.2.2,[],r,tv,(rr.1,rr.2.1,rr.2.2.1,(b,rr.2.2.2) :: BO b o0),ge2,r,a,r,hq⟩
theorem RG {o0:AR} {o1:A4} {a0:Option Nat} {Q:A4→Prop} (R5:sV I gl4 o0) (hd:DT o0 o1 a0 Q) :
  Fun prog 162 #[.pointer (some ⟨b3,0,none⟩),.pointer (eJ a0)] I [pto b3 (.cells (BM o0 gl4) 134 (0,0)),AW A6 o1] (fun I_ v l=>∃ r,v=.tuple #[]∧l=[pto b3 (.cells (BM o0 gl4) 134 (0,0)),AW A6 r]∧Q r):=by
 refine Fun.en func162 ntmps162 r fun w0 M=>?_
 refine .seq ?_
 obtain ⟨t,j5,c9,N,hd⟩:=hd
 refine .bankO .p1 N fun ⟨d0,j6,j7,j8,j9,k0,k1,k2,k3⟩ k4=>?_
 refine .rn 7 r (.sub (E':=[(0,_),(1,.pointer (some ⟨t,0,none⟩))]) ⟨r,(by rw [c9]; rfl),tv⟩ (.ownF .p1 fun l7=>?_))
 refine .ownF .p2 fun l8=>?_
 refine .ownF .p3 fun l9=>?_
 refine .ownF .p4 fun m0=>?_
 refine .dr [0,1,2,3,4,5,6,7,8,9,10,11,12,13,14,15,16,17,18,19,20,21,22] 23 (.fk 3 r (.hl KZ 6 r (.fk 3 r (.hl AP 0 r ?_))))
 obtain ⟨k5,q3,d1,q4,o82,k6,d2,hd⟩:=R5.2.1.ix hd
 refine .h r (fun _=>.ixb HJ P5 k6 k5 d1 r .mk) (.fk 1 r (.h r (fun _=>.ldb 1 AP d2 r .mk) (.fk 3 r (.hl KZ 6 r (.fk 3 r (.hl AP 0 r ?_))))))
 obtain ⟨k7,q5,d3,q6,o91,k8,d4,hd⟩:=R5.2.1.ix hd
 refine .h r (fun _=>.ixb HJ P5 k8 k7 d3 r .mk) (.fk 1 r (.h r (fun _=>.ldb 0 AP d4 r .mk) (.fk 1 r (.e2 23 (.ks 1 r (.bankB (B:=A6) (d0,j6,j7,j8,j9,k0,k1,k2,k3) j5 k4 N (.o [0,0,0,0,0,0] r) (.no 19 r (.seq ?_))))))))
 obtain ⟨m7,d5,Z,E,hd⟩:=hd
 obtain rfl:=Option.some.inj Z
 refine .bankO .z E fun ⟨a1,d6,d7,d8,d9,m8,e0,e1,e3⟩ u=>?_
 refine .rn 7 r (.ownF .p3 fun O=>?_)
 refine .openS .p3 fun k9 c=>?_
 refine .ownF .p2 fun l0=>?_
 refine .ownF .p3 fun l1=>?_
 refine .ownF .p4 fun l2=>?_
 refine .dr [0,1,2,3,4,5,6,7,8,9,10,11,12,13,14,15,16,17,18,19,20,25,21,22,23,24,999,26] 27 (.fk 4 r (.hl RL 6 r (.fk 4 r (.hl AP 1 r (.fk 4 r (.hl isAgg137 1 r (.fk 3 r (.hl AP 1 r ?_))))))))
 obtain ⟨P,m9,i,hd⟩:=hd
 obtain ⟨e4,e5⟩:=O (CE i)
 cases e5
 obtain ⟨m1,m2,R,n0,n1,rfl,w⟩:=c.get i
 refine .h r (fun _=>.ixa0 jM sizeOf54 r r P (BD i P) r r .mk) (.h r (fun _=>.lo1 (j:=0) isAgg54 .z R r r r r r .mk) (.a (fun b=>.pointer (some ⟨b,0,none⟩)) (fun b=>pto b (.cells #[.int .i64 0,.int .i64 0,.slice none 0 0,.slice none 0 0,.slice none 0 0] 33 (0,0))) r r r r (fun _ L hL ex=>.al CF r fun b=>.mk (val:=fun b=>.pointer (some ⟨b,0,none⟩)) (atom:=fun b=>pto b (.cells #[.int .i64 0,.int .i64 0,.slice none 0 0,.slice none 0 0,.slice none 0 0] 33 (0,0))) hL b) (.ww r fun ex=>?_)))
 have a2:=NS w hd
 refine .call call60 r a2 r r fun n2 n3 F a3=>?_
 obtain ⟨n4,m3,rfl,f,hd⟩:=a3
 obtain ⟨R5,u,c,w⟩:=F.u4 R5 u c w
 refine .so 7 r r r tv (.fk 3 r (.b r fun n5=>DrawD.nop ?_))
 refine .ww r fun ex=>?_
 refine .sa AE .p7 r (.sn 8 r r r (.ck 1 r r tv) (.e2 27 (.closeS .z c (.ks 1 r (.bankB (B:=A6) (a1,d6,d7,d8,d9,some ⟨e4,0,none⟩,e0,e1,e3) d5 u E (.o [1,1,1,0,0,0] r) (.no 51 r (.seq ?_)))))))
 obtain ⟨n6,e6,a4,G,hd⟩:=hd
 obtain rfl:=Option.some.inj a4
 refine .bankO .z G fun ⟨a5,e7,e8,e9,f0,f1,f2,n7,f3⟩ x=>?_
 refine .rn 8 r (.ownF .p4 fun S=>?_)
 refine .openS .p4 fun l3 d=>?_
 refine .ownF .p2 fun l4=>?_
 refine .ownF .p3 fun l5=>?_
 refine .ownF .p4 fun l6=>?_
 refine .dr [0,1,2,3,4,5,6,7,8,9,10,11,12,13,14,15,16,17,18,19,20,25,21,22,23,24,999,26] 27 (.fk 4 r (.hl RL 6 r (.fk 5 r (.hl AP 1 r (.fk 3 r (.hl isAgg137 1 r (.fk 3 r (.hl AP 1 r ?_))))))))
 obtain ⟨T,n8,m,hd⟩:=hd
 obtain ⟨f4,f5⟩:=S (CE m)
 cases f5
 obtain ⟨m4,m5,U,n9,o2,rfl,y⟩:=d.get m
 refine .h r (fun _=>.ixa0 jM sizeOf54 r r T (BD m T) r r .mk) (.h r (fun _=>.lo1 (j:=0) isAgg54 .z U r r r r r .mk) (.a (fun b=>.pointer (some ⟨b,0,none⟩)) (fun b=>pto b (.cells #[.int .i64 0,.int .i64 0,.slice none 0 0,.slice none 0 0,.slice none 0 0] 33 (0,0))) r r r r (fun _ L hL ex=>.al CF r fun b=>.mk (val:=fun b=>.pointer (some ⟨b,0,none⟩)) (atom:=fun b=>pto b (.cells #[.int .i64 0,.int .i64 0,.slice none 0 0,.slice none 0 0,.slice none 0 0] 33 (0,0))) hL b) (.ww r fun ex=>?_)))
 have a6:=NS y hd
 refine .call call60 r a6 r r fun o3 o4 a7 a8=>?_
 obtain ⟨o5,m6,rfl,A,hd⟩:=a8
 obtain ⟨a9,R5,f,x,d,y⟩:=a7.u6 F R5 f x d y
 refine .so 8 r r r tv (.fk 3 r (.b r fun o6=>DrawD.nop ?_))
 refine .ww r fun ex=>?_
 refine .sa AE .p8 r (.sn 9 r r r (.ck 1 r r tv) (.e2 27 (.closeS .z d (.ks 1 r (.bankB (B:=A6) (a5,e7,e8,e9,f0,f1,f2,some ⟨f4,0,none⟩,f3) e6 x G (.o [1,1,1,1,0,0] r) (.no 163 r (.seq ?_)))))))
 obtain ⟨o7,f6,b0,H,hd⟩:=hd
 obtain rfl:=Option.some.inj b0
 refine .bankO .z H fun ⟨b1,f7,f8,f9,g0,g1,g2,g3,g4⟩ p=>?_
 refine .rn 9 r (.dr [0,1,2,3,4,5,6,7,8,9,10,11,12,13,14,15] 16 (.fk 4 r (.hl RL 6 r (.h r (fun _=>.lw B6 AE .p7 r .mk) (.h r (fun _=>.lw B6 AE .p8 r .mk) (.fk 3 r (.h r (fun _=>.loadA B6 AE r .z (.o 5 r) r r r .mk) (.ww r fun ex=>?_))))))))
 have b2:=iO f A p.1 hd
 refine .call call37 r b2 r r fun o8 o9 b4 b5=>?_
 obtain ⟨V,g5,g6,rfl,g,hd⟩:=b5
 obtain ⟨b6,R5,f,A,p⟩:=b4.u5 a9 R5 f A p
 refine .so 9 r r r tv (.fk 4 r (.e2 16 (.ks 1 r (.bankB (B:=A6) (b1,f7,f8,f9,g0,g1,g2,g3,g4) f6 p H (.o [0,0,0,0,0,0] r) (.no 515 r (.drop .p2 (.drop .p2 (.seq ?_))))))))
 obtain ⟨p0,C,b7,J,hd⟩:=hd
 obtain rfl:=Option.some.inj b7
 refine .bankO .z J fun ⟨q,g7,g8,g9,h0,h1,h2,h3,h4⟩ e=>?_
 refine .rn 7 r (.dr [0,1,2,3,4,5,6,7,8,9,10,11,12,13,14,15] 16 (.fk 4 r (.hl RL 6 r (.fk 3 r (.hl isAgg76 0 r (.fk 1 r (.ww r fun ex=>?_)))))))
 refine .bs 2 P4 fV zeroValue76 r fun p5=>?_
 refine .so 8 r r r (.ch r (fun _=>.lo RL .p7 r .mk) (.ck 4 r r tv)) (.ww r fun ex=>?_)
 refine .pubB (El:=(JI BL)) (ys:=([C.Has,V.1]:List (List AB))) (k:=2) .z (RepCs.cons (cs:=[.slice q.2.2.1 C.Has.length q.2.2.2]) ⟨_,_,r,e.2.2⟩ (RepCs.cons (cs:=[.slice g5 V.1.length g6]) ⟨_,_,r,g⟩ .nil)) r fun p6 b8 D=>?_
 obtain ⟨b9,R5,g,e⟩:=b8.u4 b6 R5 g e
 have c0:=Y8 D hd
 refine .call call151 r c0 r r fun p9 q0 c1 c2=>?_
 obtain ⟨W,h5,h6,rfl,h7,hd⟩:=c2
 obtain ⟨c3,R5,g,e,D⟩:=c1.u5 b9 R5 g e D
 refine .so 7 r r r tv (.fk 4 r (.e2 16 (.ks 1 r (.bankB (B:=A6) (q,g7,g8,g9,h0,h1,h2,h3,h4) C e J (.o [0,0,0,0,0,0] r) (.nk 2050 2 r ?_)))))
 obtain ⟨q1,X,c4,c5,hd⟩:=hd
 obtain rfl:=Option.some.inj c4
 refine .bankO .z c5 fun ⟨K,h8,h9,i0,i1,i2,i3,i4,i5⟩ Y=>?_
 refine .rn 7 r (.ks 2 r (.s1 fV .z r (.bankC (B:=A6) ((K.1,K.2.1,(h5,h6)),h8,h9,i0,i1,i2,i3,i4,i5) ({ X with Has:=W.1 }:AO) ⟨Y.1,Y.2.1,h7⟩ (.o [0,0,0,0,0,0] r) (.no 2 r (.region (.ks 1 r ?_))))))
 obtain ⟨q2,s,c6,c7,hd⟩:=hd
 obtain rfl:=Option.some.inj c6
 refine .bankO .z c7 fun ⟨c8,i6,i7,i8,i9,j0,j1,j2,j3⟩ j4=>?_
 exact .rn 7 r (.ks 2 r (.lo AP .z r (.ks 3 r (.s1 DN .z r (.bankC (B:=A6) (c8,i6,i7,i8,i9,j0,j1,j2,j3) ({ s with At:=A7 (s.At+1) }:AO) j4 (.o [0,0,0,0,0,0] r) (.nil' (Q5 r .n c3 (.o [1,0] r) ⟨((t,({ s with At:=A7 (s.At+1) }:AO)) :: (BO t ((t,({ X with Has:=W.1 }:AO)) :: (BO t o1)))),r,r,hd⟩)))))))
theorem L8 {o0:AR} {o1:A4} {o2:A9} {a0 a1 a2:Int} {Q:(Bool×A4×A9)→Prop} (R6:sV I gl5 o0) (hd:CV o0 o1 o2 a0 a1 a2 Q) :
  Fun prog 90 #[.pointer (some ⟨b4,0,none⟩),.int .i64 a0,.int .i64 a1,.int .i64 a2] I [pto b4 (.cells (BM o0 gl5) 134 (0,0)),AW A6 o1,AW AX o2] (fun I_ v l=>∃ r,v=.bool r.1∧l=[pto b4 (.cells (BM o0 gl5) 134 (0,0)),AW A6 r.2.1,AW AX r.2.2]∧Q r):=by
 refine Fun.en func90 ntmps90 r fun w0 M=>?_
 refine .sk 1 r (.nk 15 3 r ?_)
 have h8:=E7  (b4:=b4) R6 hd
 refine .callS (.f call91 r) (.o [0,0,0] r) h8 r r fun n7 k0 n8 u w=>?_
 rcases w with w | w
 · obtain ⟨n9,rfl,rfl,hd⟩:=w
   have R6:=u.u1 R6
   exact .rn 3 r (.kn 1 525 r (.seq (.sk 1 r (.eqNilP XY r r r r (.no 524813 r (.condKT r r (.sr (.kn 1 257 r (.q1 results90 u [0,0,0] r ⟨(false,o1,o2),r,r,hd⟩)))))))))
 obtain ⟨o3,rfl,rfl,hd⟩:=w
 have R6:=u.u1 R6
 refine .rn 3 r (.kn 1 525 r (.seq (.sk 1 r (.eqNilH XY r r r r (.no 524813 r (.condP r hd (fun h9 hd=>?_) fun h9 hd=>?_))))))
 · exact .sr (.kn 1 257 r (.q1 results90 u [0,0,0] r ⟨(false,o1,o2),r,r,hd⟩))
 refine .sn 525 r (.sk 2 r ?_)
 have i0:=XP (I:=k0)  hd
 refine .callS (.f call161 r) (.o [2] r) i0 r r fun o4 o5 o6 i1 i2=>?_
 obtain ⟨a,n,rfl,h7,rfl,hd⟩:=i2
 obtain ⟨a8,R6⟩:=i1.u2 u R6
 refine .rn 3 r (.ks 4 r (.al F0 r fun o7=>?_))
 refine .sa BR .z r (.kn 2 3077 r (.seq (.sr (.kn 2 268436485 r (.condP r hd (fun i3 hd=>?_) fun i3 hd=>?_)))))
 · exact .sr (.kn 1 257 r (.drop .z (.q1 results90 a8 [1,1,0] r ⟨(false,o1,a.2.2.2),r,r,hd⟩)))
 refine .sn 1029 r (.sk 3 r (.lo OQ .p2 r (.ks 1 r ?_)))
 obtain ⟨k1,o8,i4,o9,o74,k2,i5,hd⟩:=R6.2.2.1.ix hd
 refine .ixb MT sizeOf135 k2 k1 i4 r (.ldb 0 isAgg135 i5 r (.kn 1 9217 r (.seq (.jn hd [0] [2,1] r (fun j E l (a9,b0)=>j ((13,.pointer (eJ a9)) :: E) (AW A6 b0 :: l)) (fun l3 hd=>?_) ?_))))
 · refine .sk 1 r (.lo isAgg191 .z r (.kn 1 274877916161 r (.condP r hd (fun g0 hd=>?_) fun g0 hd=>?_)))
   · refine .seq ?_
     obtain ⟨p,b,g1,g2,hd⟩:=hd
     refine .bankO .p3 g2 fun ⟨g,l4,b1,b2,b5,b6,b7,b8,b9⟩ i6=>?_
     refine .rn 9 r (.sub (E':=[(0,_),(10,_),(13,.pointer (some ⟨p,0,none⟩)),(38,_)]) ⟨r,r,(by rw [g1]; rfl),r,tv⟩ (.dr [0,1,2,3,4,5] 6 (.fk 3 r (.hl isAgg136 0 r (.fk 1 r (.hl AP 6 r (.e2 6 ?_)))))))
     obtain ⟨c0,l5,D,hd⟩:=hd
     refine .ownNe .p1 (CE D) fun c1 i7=>?_
     cases i7
     refine .ixa0 jL sizeOf4 r r c0 (BD D c0) r r (.stO1 (j:=0) (v':=true) sizeOf4 .p1 D r r r (.o r) r (.rl .p1 [42] r (by simp only [List.length_set]) (.reat .z (B:=pto p (.cells #[.int .i64 b.I,.int .i64 b.J,.int .i64 b.Mask.Rows,.int .i64 b.Mask.Cols,.slice g.1.1.1 b.Mask.Start.length g.1.1.2,.slice g.1.2.1.1 b.Mask.Col.length g.1.2.1.2,.slice g.1.2.2.1 b.Mask.Val.length g.1.2.2.2,.slice g.2.1.1 b.Out.length g.2.1.2,.slice (some ⟨c1,0,none⟩) (b.Lefts.set a.1.Round.toNat true).length b1,.slice b2 b.Rights.length b5,.slice b6 b.L.length b7,.slice b8 b.R.length b9,.int .i64 b.At,.slice g.2.2.1 b.Has.length g.2.2.2] 139 (0,0))) (by simp only [List.length_set,A6]) (.bankC (B:=A6) (g,some ⟨c1,0,none⟩,b1,b2,b5,b6,b7,b8,b9) ({ b with Lefts:=(b.Lefts.set a.1.Round.toNat true) }:AO) i6 (.o [0,0,0,0,0,0] r) (.no 9217 r ?_)))))
     obtain ⟨l6,c,g3,g4,hd⟩:=hd
     obtain rfl:=Option.some.inj g3
     refine .bankO .z g4 fun ⟨i,c2,c3,c4,c5,l7,c6,c7,c8⟩ i8=>?_
     refine .rn 9 r (.dr [0,1,2,3,4,5,6,7] 8 (.fk 3 r (.hl isAgg137 0 r (.fk 1 r (.hl AP 6 r (.fk 1 r (.hl isAgg54 6 r (.e2 8 ?_))))))))
     obtain ⟨c9,l8,F,hd⟩:=hd
     refine .ownNe .p3 (CE F) fun d0 i9=>?_
     cases i9
     refine .ixa0 jM sizeOf54 r r c9 (BD F c9) r r (.openS .p3 fun k3 A=>?_)
     obtain ⟨k7,k8,d1,l9,m0,rfl,m1⟩:=A.get F
     have a6:=A.set (x:=a.1.Triples) a.1.Round.toNat (cs:=[.slice n.2.2.1 a.1.Triples.length n.2.2.2]) ⟨_,_,r,h7.2.2⟩ ⟨r,r⟩
     exact .stO1 (j:=0) (v':=⟨[.slice n.2.2.1 a.1.Triples.length n.2.2.2],r,r⟩) sizeOf54 .z d1 r r r (.o r) r (.closeS .z a6 (.rl .z [49] r (by simp only [List.length_set]) (.reat .p1 (B:=pto p (.cells #[.int .i64 c.I,.int .i64 c.J,.int .i64 c.Mask.Rows,.int .i64 c.Mask.Cols,.slice i.1.1.1 c.Mask.Start.length i.1.1.2,.slice i.1.2.1.1 c.Mask.Col.length i.1.2.1.2,.slice i.1.2.2.1 c.Mask.Val.length i.1.2.2.2,.slice i.2.1.1 c.Out.length i.2.1.2,.slice c2 c.Lefts.length c3,.slice c4 c.Rights.length c5,.slice (some ⟨d0,0,none⟩) (c.L.set a.1.Round.toNat a.1.Triples).length c6,.slice c7 c.R.length c8,.int .i64 c.At,.slice i.2.2.1 c.Has.length i.2.2.2] 139 (0,0))) (by simp only [List.length_set,A6]) (.bankC (B:=A6) (i,c2,c3,c4,c5,some ⟨d0,0,none⟩,c6,c7,c8) ({ c with L:=(c.L.set a.1.Round.toNat a.1.Triples) }:AO) i8 (.o [1,1,1,0,0,0] r) (.nil' (je ((some p),((p,({ c with L:=(c.L.set a.1.Round.toNat a.1.Triples) }:AO)) :: (BO p ((p,({ b with Lefts:=(b.Lefts.set a.1.Round.toNat true) }:AO)) :: (BO p o1))))) hd rf [0,2,1] r))))))
   refine .seq ?_
   obtain ⟨q,d,g5,g6,hd⟩:=hd
   refine .bankO .p3 g6 fun ⟨k,d2,d3,m2,d4,d5,d6,d7,d8⟩ j0=>?_
   refine .rn 9 r (.sub (E':=[(0,_),(10,_),(13,.pointer (some ⟨q,0,none⟩)),(38,_)]) ⟨r,r,(by rw [g5]; rfl),r,tv⟩ (.dr [0,1,2,3,4,5] 6 (.fk 3 r (.hl isAgg136 0 r (.fk 1 r (.hl AP 6 r (.e2 6 ?_)))))))
   obtain ⟨d9,m3,G,hd⟩:=hd
   refine .ownNe .p2 (CE G) fun e0 j1=>?_
   cases j1
   refine .ixa0 jL sizeOf4 r r d9 (BD G d9) r r (.stO1 (j:=0) (v':=true) sizeOf4 .p2 G r r r (.o r) r (.rl .p2 [58] r (by simp only [List.length_set]) (.reat .z (B:=pto q (.cells #[.int .i64 d.I,.int .i64 d.J,.int .i64 d.Mask.Rows,.int .i64 d.Mask.Cols,.slice k.1.1.1 d.Mask.Start.length k.1.1.2,.slice k.1.2.1.1 d.Mask.Col.length k.1.2.1.2,.slice k.1.2.2.1 d.Mask.Val.length k.1.2.2.2,.slice k.2.1.1 d.Out.length k.2.1.2,.slice d2 d.Lefts.length d3,.slice (some ⟨e0,0,none⟩) (d.Rights.set a.1.Round.toNat true).length d4,.slice d5 d.L.length d6,.slice d7 d.R.length d8,.int .i64 d.At,.slice k.2.2.1 d.Has.length k.2.2.2] 139 (0,0))) (by simp only [List.length_set,A6]) (.bankC (B:=A6) (k,d2,d3,some ⟨e0,0,none⟩,d4,d5,d6,d7,d8) ({ d with Rights:=(d.Rights.set a.1.Round.toNat true) }:AO) j0 (.o [0,0,0,0,0,0] r) (.no 9217 r ?_)))))
   obtain ⟨m4,e,g7,g8,hd⟩:=hd
   obtain rfl:=Option.some.inj g7
   refine .bankO .z g8 fun ⟨m,e1,e3,e4,e5,e6,e7,m5,e8⟩ j2=>?_
   refine .rn 9 r (.dr [0,1,2,3,4,5,6,7] 8 (.fk 3 r (.hl isAgg137 0 r (.fk 1 r (.hl AP 6 r (.fk 1 r (.hl isAgg54 6 r (.e2 8 ?_))))))))
   obtain ⟨e9,m6,H,hd⟩:=hd
   refine .ownNe .p4 (CE H) fun f0 j3=>?_
   cases j3
   refine .ixa0 jM sizeOf54 r r e9 (BD H e9) r r (.openS .p4 fun k4 C=>?_)
   obtain ⟨k9,l0,f1,m7,m8,rfl,m9⟩:=C.get H
   have a7:=C.set (x:=a.1.Triples) a.1.Round.toNat (cs:=[.slice n.2.2.1 a.1.Triples.length n.2.2.2]) ⟨_,_,r,h7.2.2⟩ ⟨r,r⟩
   exact .stO1 (j:=0) (v':=⟨[.slice n.2.2.1 a.1.Triples.length n.2.2.2],r,r⟩) sizeOf54 .z f1 r r r (.o r) r (.closeS .z a7 (.rl .z [65] r (by simp only [List.length_set]) (.reat .p1 (B:=pto q (.cells #[.int .i64 e.I,.int .i64 e.J,.int .i64 e.Mask.Rows,.int .i64 e.Mask.Cols,.slice m.1.1.1 e.Mask.Start.length m.1.1.2,.slice m.1.2.1.1 e.Mask.Col.length m.1.2.1.2,.slice m.1.2.2.1 e.Mask.Val.length m.1.2.2.2,.slice m.2.1.1 e.Out.length m.2.1.2,.slice e1 e.Lefts.length e3,.slice e4 e.Rights.length e5,.slice e6 e.L.length e7,.slice (some ⟨f0,0,none⟩) (e.R.set a.1.Round.toNat a.1.Triples).length e8,.int .i64 e.At,.slice m.2.2.1 e.Has.length m.2.2.2] 139 (0,0))) (by simp only [List.length_set,A6]) (.bankC (B:=A6) (m,e1,e3,e4,e5,e6,e7,some ⟨f0,0,none⟩,e8) ({ e with R:=(e.R.set a.1.Round.toNat a.1.Triples) }:AO) j2 (.o [1,1,1,1,0,0] r) (.nil' (je ((some q),((q,({ e with R:=(e.R.set a.1.Round.toNat a.1.Triples) }:AO)) :: (BO q ((q,({ d with Rights:=(d.Rights.set a.1.Round.toNat true) }:AO)) :: (BO q o1))))) hd rf [0,2,1] r))))))
 rintro ⟨a9,b0⟩ hd
 refine jq r fun n0 a4=>?_
 obtain ⟨g9,R6⟩:=a4.u2 a8 R6
 refine .seq (.block (.lp hd [0] [1,1] r (fun j E l (f2,y)=>j ((13,.pointer (eJ f2)) :: E) (AW A6 y :: l)) (ji rf [0,0,0] r) ?_))
 rintro ⟨f2,y⟩ j9 hd
 refine jq r fun n1 a5=>?_
 obtain ⟨s,h0,R6⟩:=a5.u3 g9 a4 R6
 refine .seq (.seq ?_)
 obtain ⟨f3,T,h1,t,hd⟩:=hd
 refine .bankO .z t fun ⟨K,j4,U,f4,V,W,X,Y,Z⟩ a3=>?_
 refine .rn 8 r (.sub (E':=[(0,_),(13,.pointer (some ⟨f3,0,none⟩))]) ⟨r,(by rw [h1]; rfl),tv⟩ (.ownF .p1 fun f5=>?_))
 refine .ownF .p2 fun f6=>?_
 refine .ownF .p3 fun k5=>?_
 refine .ownF .p4 fun k6=>?_
 refine .dr [0,1,2,3,4,5,6,7,8,9,10,11,12,13,14,15,16,17,18,19,20,21,22,23,24,25,26,27,28,29,30,31,32,33] 34 (.fk 3 r (.hl AP 0 r (.fk 3 r (.hl KZ 6 r (.h r (fun _=>.ln HJ r .mk) (.fk 2 r ?_))))))
 refine FE hd (fun N hd=>?_) fun N hd=>?_
 · rw [N]
   refine .fk 3 r (.h r (fun _=>.yes r (.lo isAgg136 .z r .mk)) (.fk 3 r (.h r (fun _=>.yes r (.lo AP .z r .mk)) ?_)))
   obtain ⟨f7,n2,O,hd⟩:=hd
   obtain ⟨f8,j5⟩:=f5 (CE O)
   cases j5
   refine .h r (fun _=>.yes r (.ixa0 jL sizeOf4 r r f7 (BD O f7) r r .mk)) (.h r (fun _=>.yes r (.lo1 (j:=0) isAgg4 .p1 O r r r r r .mk)) (.fk 2 r ?_))
   refine FE hd (fun P hd=>?_) fun P hd=>?_
   · rw [P]
     refine .fk 3 r (.h r (fun _=>.yes r (.lo isAgg136 .z r .mk)) (.fk 3 r (.h r (fun _=>.yes r (.lo AP .z r .mk)) ?_)))
     obtain ⟨f9,n3,S,hd⟩:=hd
     obtain ⟨j6,j7⟩:=f6 (CE S)
     cases j7
     refine .h r (fun _=>.yes r (.ixa0 jL sizeOf4 r r f9 (BD S f9) r r .mk)) (.h r (fun _=>.yes r (.lo1 (j:=0) isAgg4 .p2 S r r r r r .mk)) (.fk 1 r (.e2 34 (.bankB (B:=A6) (K,some ⟨f8,0,none⟩,U,some ⟨j6,0,none⟩,V,W,X,Y,Z) T a3 t (.o [0,0,0,0,0,0] r) (.no 20282409603651670423947251294209 r (.condP r hd (fun h2 hd=>?_) fun h2 hd=>?_))))))
     · refine .sn 8193 r (.block (.region (.ks 2 r ?_)))
       have h3:=RG  (b3:=b4) R6 hd
       refine .callS (.f call162 r) (.o [1,0] r) h3 r r fun n4 n5 n6 h4 h5=>?_
       obtain ⟨j8,rfl,rfl,hd⟩:=h5
       obtain ⟨l1,l2,h6,R6⟩:=h4.u4 s h0 a5 R6
       exact .rn 3 r (.nil' (je ((some f3),j8) hd h6 [1,0,0] r))
     exact .en 1 r (.sr (.kn 1 257 r (.q1 results90 s [1,0,0] r ⟨(true,y,a.2.2.2),r,r,hd⟩)))
   rw [P]
   exact .fk 11 r (.e2 34 (.bankB (B:=A6) (K,some ⟨f8,0,none⟩,U,f4,V,W,X,Y,Z) T a3 t (.o [0,0,0,0,0,0] r) (.no 20282409603651670423947251294209 r (.condKF r r (.en 1 r (.sr (.kn 1 257 r (.q1 results90 s [1,0,0] r ⟨(true,y,a.2.2.2),r,r,hd⟩))))))))
 rw [N]
 exact .fk 23 r (.e2 34 (.bankB (B:=A6) (K,j4,U,f4,V,W,X,Y,Z) T a3 t (.o [0,0,0,0,0,0] r) (.no 20282409603651670423947251294209 r (.condKF r r (.en 1 r (.sr (.kn 1 257 r (.q1 results90 s [1,0,0] r ⟨(true,y,a.2.2.2),r,r,hd⟩))))))))
theorem N6 {a0:Int} {Q:Int→Prop} (hd:GH a0 Q) :
  Fun prog 92 #[.pointer none,.int .i64 a0] I [] (fun I_ v l=>∃ r,v=.int .i64 r∧l=[]∧Q r):=by
 refine Fun.en func92 ntmps92 r fun w0 M=>?_
 refine .sr (.kn 1 3 r (.seq (.sk 2 r ?_)))
 have d:=KQ (I:=I)  hd
 refine .callS (.f call163 r) .n d r r fun g h i a b=>?_
 obtain ⟨e,rfl,rfl,hd⟩:=b
 refine .rn 0 r (.ks 1 r (.nk 35 2 r (.no 1059 r (.condP r hd (fun c hd=>?_) fun c hd=>?_))))
 · exact .sr (.kn 2 16 r (.q1 results92 a [] r ⟨e,r,r,hd⟩))
 refine .sn 3 r (.seq (.seq (.dr [0,1,2,3,4,5,6,7,8,9] 10 (.fk 1 r ?_))))
 exact hd.elim
theorem UF {o0:B4} {a0:Int} {Q:(Int×B4)→Prop} (hd:GI o0 a0 Q) :
  Fun prog 92 #[.pointer (some ⟨b2,0,none⟩),.int .i64 a0] I [pto b2 (.cells (CN o0 p3 c4) 199 (0,0)),OwnSl BI 196 p3 c4 o0.L] (fun I_ v l=>∃ r p8 c9,v=.int .i64 r.1∧l=[pto b2 (.cells (CN r.2 p8 c9) 199 (0,0)),OwnSl BI 196 p8 c9 r.2.L]∧Q r):=by
 refine Fun.en func92 ntmps92 r fun w0 M=>?_
 refine .sr (.kn 1 3 r (.seq (.sk 2 r ?_)))
 have m:=KP (I:=I) (b2:=b2) (p3:=p3) (c4:=c4) hd
 refine .callS (.f call163 r) (.o [0,0] r) m r r fun H J K b n=>?_
 obtain ⟨A,rfl,rfl,hd⟩:=n
 refine .rn 2 r (.ks 1 r (.nk 35 2 r (.no 1059 r (.condP r hd (fun p hd=>?_) fun p hd=>?_))))
 · exact .sr (.kn 2 17 r (.q1 results92 b [0,0] r ⟨(A,o0),_,_,r,r,hd⟩))
 refine .sn 3 r (.seq (.seq (.dr [0,1,2,3,4,5,6,7,8,9] 10 (.fk 3 r (.hl EJ 0 r (.h r (fun _=>.ln DO r .mk) (.fk 3 r (.hl AP 0 r (.fk 1 r ?_)))))))))
 refine .e2 10 (.no 2097155 r (.condP r hd (fun q hd=>?_) fun q hd=>?_))
 · exact .sr (.kn 1 17 r (.q1 results92 b [0,0] r ⟨(9,o0),_,_,r,r,hd⟩))
 refine .sn 3 r (.seq (.ownF .p1 fun e=>?_))
 refine .openS .p1 fun D a=>?_
 refine .dr [0,1,2,3,4,5,6,7,8,9,10,11,12,13,14,15,16,17] 18 (.fk 4 r (.hl EJ 1 r (.fk 3 r (.hl EJ 1 r (.fk 1 r ?_)))))
 obtain ⟨i,N,c,hd⟩:=hd
 obtain ⟨O,B⟩:=e (CE c)
 cases B
 obtain ⟨E,F,g,G,rfl,d⟩:=a.get c
 refine .h r (fun _=>.ixa0 DO BR r r i (BD c i) r r .mk) (.h r (fun _=>.loA (j:=0) FL BR .z g r r (.o 11 r) r r r .mk) (.ww r fun ex=>?_))
 have s:=dQ d hd
 refine .call call164 r s r r fun P R t u=>?_
 obtain ⟨k,w,rfl,C,hd⟩:=u
 obtain ⟨x,a,d⟩:=t.u3 b a d
 refine .so 2 r r r (.ch r (fun _=>.lo EJ .p1 r .mk) (.ck 4 r r tv)) (.ww r fun ex=>?_)
 refine .bs 1 DO BR F0 r fun S=>?_
 refine .so 3 r r r (.ch r (fun _=>.lo EJ .p2 r .mk) (.ck 4 r r tv)) (.ww r fun ex=>?_)
 refine .closeS .p1 a ?_
 obtain ⟨y,hd⟩:=hd
 refine .append (ys:=[k]) 136 .z DO DO dE r r r r r r r r r (.box .p1 (.one ⟨w,r,C⟩) r) y r r fun T U=>?_
 refine .so 3 r r r (.ck 1 r r tv) (.fk 2 r (.ww r fun ex=>?_))
 exact .s1 aH .p2 r (.sn 3 r r r tv (.e2 18 (.no 1 r (.drop .p1 (.sr (.kn 1 17 r (.q1 results92 x [1,0] r ⟨(0,({ o0 with L:=(o0.L++([k])) }:B4)),_,_,r,r,hd⟩)))))))
theorem UX {o0:A9} {a0:Option Nat} {a1:Int} {Q:(Int×A9)→Prop} (hd:KM o0 a0 a1 Q) :
  Fun prog 92 #[.pointer (eJ a0),.int .i64 a1] I [AW AX o0] (fun I_ v l=>∃ r,v=.int .i64 r.1∧l=[AW AX r.2]∧Q r):=by
 rcases a0 with _ | b
 · have hd:=hd.1 r
   refine (Fun.frame (r:=[AW AX o0]) (N6  hd)).conseq fun I_ v l hle h=>?_
   obtain ⟨d,rfl,rr,rfl,rfl,hq⟩:=h
   exact ⟨(rr,o0),r,r,hq⟩
 obtain ⟨x,hx,hd⟩:=hd.2 b rfl
 refine Fun.bank hx (fun aa _=>UF (b2:=b) (p3:=aa.1) (c4:=aa.2)  hd) ?_
 rintro aa I_ v l hle ⟨rr,a,c,rfl,rfl,hq⟩
 exact ⟨(a,c),rr.2,[],r,tv,(rr.1,(b,rr.2) :: BO b o0),r,r,hq⟩
theorem UG {a0:Int} (hd:OI a0) :
  Fun prog 165 #[.pointer none,.int .i64 a0] I [] (fun _ _ _=>False):=by
 refine Fun.en func165 ntmps165 r fun w0 M=>.sr (.al F0 r fun a=>.nk 19 1 r ?_)
 exact hd.elim
theorem OU {a0:Int} {Q:Int→Prop} (hd:I8 a0 Q) :
  Fun prog 93 #[.pointer none,.int .i64 a0] I [] (fun I_ v l=>∃ r,v=.int .i64 r∧l=[]∧Q r):=by
 refine Fun.en func93 ntmps93 r fun w0 M=>?_
 refine .sr (.kn 1 3 r (.seq (.sk 2 r ?_)))
 have g:=KQ (I:=I)  hd
 refine .callS (.f call163 r) .n g r r fun k h m a b=>?_
 obtain ⟨i,rfl,rfl,hd⟩:=b
 refine .rn 0 r (.ks 1 r (.nk 35 2 r (.no 2083 r (.condP r hd (fun c hd=>?_) fun c hd=>?_))))
 · exact .sr (.kn 2 16 r (.q1 results93 a [] r ⟨i,r,r,hd⟩))
 refine .sn 3 r (.sk 2 r ?_)
 have d:=UG (I:=h)  hd
 refine .callS (.f call165 r) .n d r r fun o p q j e=>?_
 exact e.elim
theorem WJ {o0:B4} {a0:Int} {Q:(Int×B4)→Prop} (hd:I9 o0 a0 Q) :
  Fun prog 93 #[.pointer (some ⟨b2,0,none⟩),.int .i64 a0] I [pto b2 (.cells (CN o0 p3 c4) 199 (0,0)),OwnSl BI 196 p3 c4 o0.L] (fun I_ v l=>∃ r p8 c9,v=.int .i64 r.1∧l=[pto b2 (.cells (CN r.2 p8 c9) 199 (0,0)),OwnSl BI 196 p8 c9 r.2.L]∧Q r):=by
 refine Fun.en func93 ntmps93 r fun w0 M=>?_
 refine .sr (.kn 1 3 r (.seq (.sk 2 r ?_)))
 have c:=KP (I:=I) (b2:=b2) (p3:=p3) (c4:=c4) hd
 refine .callS (.f call163 r) (.o [0,0] r) c r r fun t p u b d=>?_
 obtain ⟨q,rfl,rfl,hd⟩:=d
 refine .rn 2 r (.ks 1 r (.nk 35 2 r (.no 2083 r (.condP r hd (fun e hd=>?_) fun e hd=>?_))))
 · exact .sr (.kn 2 17 r (.q1 results93 b [0,0] r ⟨(q,o0),_,_,r,r,hd⟩))
 refine .sn 3 r (.sk 2 r ?_)
 have g:=N5 (I:=p) (b2:=b2) (p3:=p3) (c4:=c4) hd
 refine .callS (.f call165 r) (.o [0,0] r) g r r fun w x y i j=>?_
 obtain ⟨a,k,A,B,rfl,s,rfl,hd⟩:=j
 have m:=i.u1 b
 refine .rn 2 r (.al F0 r fun C=>?_)
 refine .sa BR .z r (.no 65 r (.seq (.dr [0,1,2,3,4,5,6,7,8,9,10] 11 (.fk 4 r (.hl EJ 1 r (.h r (fun _=>.lw FL BR .z r .mk) (.ww r fun ex=>?_)))))))
 refine .bs 1 DO BR F0 r fun D=>?_
 refine .so 4 r r r (.ch r (fun _=>.lo EJ .p2 r .mk) (.ck 4 r r tv)) (.ww r fun ex=>?_)
 obtain ⟨n,hd⟩:=hd
 refine .append (ys:=[a.1]) 136 .p3 DO DO dE r r r r r r r r r (.box .z (.one ⟨k,r,s⟩) r) n r r fun E F=>?_
 refine .so 4 r r r (.ck 1 r r tv) (.fk 2 r (.ww r fun ex=>?_))
 exact .s1 aH .p3 r (.sn 4 r r r tv (.e2 11 (.no 1 r (.drop .p1 (.drop .p1 (.sr (.kn 1 17 r (.q1 results93 m [1,0] r ⟨(0,({ Many:=a.2.Many,Out:=a.2.Out,In:=a.2.In,L:=(a.2.L++([a.1])) }:B4)),_,_,r,r,hd⟩))))))))
theorem XQ {o0:A9} {a0:Option Nat} {a1:Int} {Q:(Int×A9)→Prop} (hd:MK o0 a0 a1 Q) :
  Fun prog 93 #[.pointer (eJ a0),.int .i64 a1] I [AW AX o0] (fun I_ v l=>∃ r,v=.int .i64 r.1∧l=[AW AX r.2]∧Q r):=by
 rcases a0 with _ | b
 · have hd:=hd.1 r
   refine (Fun.frame (r:=[AW AX o0]) (OU  hd)).conseq fun I_ v l hle h=>?_
   obtain ⟨d,rfl,rr,rfl,rfl,hq⟩:=h
   exact ⟨(rr,o0),r,r,hq⟩
 obtain ⟨x,hx,hd⟩:=hd.2 b rfl
 refine Fun.bank hx (fun aa _=>WJ (b2:=b) (p3:=aa.1) (c4:=aa.2)  hd) ?_
 rintro aa I_ v l hle ⟨rr,a,c,rfl,rfl,hq⟩
 exact ⟨(a,c),rr.2,[],r,tv,(rr.1,(b,rr.2) :: BO b o0),r,r,hq⟩
theorem XR {o0:B4} {Q:Int→Prop} (hd:ML o0 Q) :
  Fun prog 78 #[.pointer (some ⟨b2,0,none⟩)] I [pto b2 (.cells (CN o0 p3 c4) 199 (0,0)),OwnSl BI 196 p3 c4 o0.L] (fun I_ v l=>∃ r,v=.int .i64 r∧l=[pto b2 (.cells (CN o0 p3 c4) 199 (0,0)),OwnSl BI 196 p3 c4 o0.L]∧Q r):=by
 exact Fun.en func78 ntmps78 r fun w0 M=>.sr (.kn 1 1 r (.seq (.sk 1 r (.eqNilP XY r r r r (.no 17 r (.condKF r r (.sn 1 r (.sk 3 r (.lo EJ .z r (.ln DO r (.kn 1 5 r (.q1 results78 rf [0,0] r ⟨(o0.L.length:Int),r,r,hd⟩))))))))))))
theorem XS {Q:Int→Prop} (hd:RV Q) :
  Fun prog 78 #[.pointer none] I [] (fun I_ v l=>∃ r,v=.int .i64 r∧l=[]∧Q r):=by
 exact Fun.en func78 ntmps78 r fun w0 M=>.sr (.kn 1 1 r (.seq (.sk 1 r (.eqNilP XY r r r r (.no 17 r (.condKT r r (.sr (.kn 1 4 r (.q1 results78 rf [] r ⟨0,r,r,hd⟩)))))))))
theorem RH {o0:A9} {a0:Option Nat} {Q:Int→Prop} (hd:HE o0 a0 Q) :
  Fun prog 78 #[.pointer (eJ a0)] I [AW AX o0] (fun I_ v l=>∃ r,v=.int .i64 r∧l=[AW AX o0]∧Q r):=by
 rcases a0 with _ | b
 · have hd:=hd.1 r
   refine (Fun.frame (r:=[AW AX o0]) (XS  hd)).conseq fun I_ v l hle h=>?_
   obtain ⟨a,rfl,rr,rfl,rfl,hq⟩:=h
   exact ⟨rr,r,r,hq⟩
 obtain ⟨x,hx,hd⟩:=hd.2 b rfl
 refine Fun.bankR hx (fun aa _=>XR (b2:=b) (p3:=aa.1) (c4:=aa.2)  hd) ?_
 rintro aa I_ v l hle hf ⟨rr,rfl,rfl,hq⟩
 exact ⟨(aa.1,aa.2),[],r,tv,rr,r,r,hq⟩
theorem UH {o0:B4} {Q:Int→Prop} (hd:GJ o0 Q) :
  Fun prog 166 #[.pointer (some ⟨b2,0,none⟩)] I [pto b2 (.cells (CN o0 p3 c4) 199 (0,0)),OwnSl BI 196 p3 c4 o0.L] (fun I_ v l=>∃ r,v=.int .i64 r∧l=[pto b2 (.cells (CN o0 p3 c4) 199 (0,0)),OwnSl BI 196 p3 c4 o0.L]∧Q r):=by
 refine Fun.en func166 ntmps166 r fun w0 M=>.sk 1 r (.nk 1 1 r (.no 9 r (.seq (.sr (.kn 1 25 r (.block (.lp hd [0] [0,0] r (fun j E l (e,a)=>j ((3,.int .i64 e) :: (4,.int .i64 a) :: E) l) (ji rf [0,0] r) ?_)))))))
 rintro ⟨e,a⟩ o hd
 refine jq r fun t b=>.seq (.sk 1 r (.neNilP XY r r r r (.ks 5 r (.yes r (.lo EJ .z r (.yes r (.ln DO r (.kn 2 32793 r (.condP r hd (fun m hd=>?_) fun m hd=>?_)))))))))
 · refine .sn 25 r (.seq (.block (.seq (.ownF .p1 fun g=>.dr [0,1,2,3,4,5,6,7,8,9,10,11,12,13,14,15,16,17,18,19,20] 21 (.fk 3 r ?_)))))
   refine FE hd (fun c hd=>?_) fun c hd=>?_
   · rw [c]
     exact .fk 18 r (.e2 21 (.no 274877906969 r (.condKT r r (.region (.kn 2 25 r (.region (.ks 3 r (.nil' (je (a,A7 (a+1)) hd b [0,0] r)))))))))
   rw [c]
   refine .fk 3 r (.h r (fun _=>.yes r (.lo EJ .z r .mk)) (.fk 1 r ?_))
   obtain ⟨i,u,d,hd⟩:=hd
   obtain ⟨w,p⟩:=g (CE d)
   cases p
   refine .h rfl (fun _=>.yes rfl (.ixa0 DO BR rfl rfl i (BD d i) rfl rfl .mk)) (.fk 1 rfl (.h rfl (fun _=>.yes rfl (.loEs (j:=3) AP .p1 d rfl rfl (fun cs h=>by obtain ⟨q,rfl,x⟩:=h; rfl) rfl rfl .mk)) (.fk 3 rfl (.h rfl (fun _=>.yes rfl (.lo EJ .z rfl .mk)) (.fk 1 rfl ?_)))))
   obtain ⟨k,y,f,hd⟩:=hd
   refine .h rfl (fun _=>.yes rfl (.ixa0 DO BR rfl rfl k (BD f k) rfl rfl .mk)) (.fk 1 rfl (.h rfl (fun _=>.yes rfl (.loEs (j:=3) AP .p1 f rfl rfl (fun cs h=>by obtain ⟨s,rfl,A⟩:=h; rfl) rfl rfl .mk)) (.fk 2 rfl (.e2 21 (.no 274877906969 rfl (.condP rfl hd (fun n hd=>?_) fun n hd=>?_))))))
   · exact .region (.kn 2 25 r (.region (.ks 3 r (.nil' (je (a,A7 (a+1)) hd b [0,0] r)))))
   exact .sn 25 r (.region (.ks 3 r (.nil' (je (e,A7 (a+1)) hd b [0,0] r))))
 exact .en 9 r (.sr (.kn 2 5 r (.q1 results166 b [0,0] r ⟨e,r,r,hd⟩)))
theorem UI {Q:Int→Prop} (hd:OJ Q) :
  Fun prog 166 #[.pointer none] I [] (fun I_ v l=>∃ r,v=.int .i64 r∧l=[]∧Q r):=by
 refine Fun.en func166 ntmps166 r fun w0 M=>.sk 1 r (.nk 1 1 r (.no 9 r (.seq (.sr (.kn 1 25 r (.block (.lp hd [4,3,0] [] r (fun j E l _=>j E l) (ji rf [] r) ?_)))))))
 exact fun _ b hd=>jq r fun c a=>.seq (.sk 1 r (.neNilP XY r r r r (.kn 9 32793 r (.condKF r r (.en 8 r (.sr (.kn 2 4 r (.q1 results166 a [] r ⟨(-1),r,r,hd⟩))))))))
theorem UY {o0:A9} {a0:Option Nat} {Q:Int→Prop} (hd:H5 o0 a0 Q) :
  Fun prog 166 #[.pointer (eJ a0)] I [AW AX o0] (fun I_ v l=>∃ r,v=.int .i64 r∧l=[AW AX o0]∧Q r):=by
 rcases a0 with _ | b
 · have hd:=hd.1 r
   refine (Fun.frame (r:=[AW AX o0]) (UI  hd)).conseq fun I_ v l hle h=>?_
   obtain ⟨a,rfl,rr,rfl,rfl,hq⟩:=h
   exact ⟨rr,r,r,hq⟩
 obtain ⟨x,hx,hd⟩:=hd.2 b rfl
 refine Fun.bankR hx (fun aa _=>UH (b2:=b) (p3:=aa.1) (c4:=aa.2)  hd) ?_
 rintro aa I_ v l hle hf ⟨rr,rfl,rfl,hq⟩
 exact ⟨(aa.1,aa.2),[],r,tv,rr,r,r,hq⟩
theorem K3 {o0:AR} {o1:A4} {o2:A9} {Q:(Bool×A4×A9)→Prop} (R6:sV I gl5 o0) (hd:DU o0 o1 o2 Q) :
  Fun prog 94 #[.pointer (some ⟨b4,0,none⟩)] I [pto b4 (.cells (BM o0 gl5) 134 (0,0)),AW A6 o1,AW AX o2] (fun I_ v l=>∃ r,v=.bool r.1∧l=[pto b4 (.cells (BM o0 gl5) 134 (0,0)),AW A6 r.2.1,AW AX r.2.2]∧Q r):=by
 refine Fun.en func94 ntmps94 r fun w0 M=>?_
 refine .sk 1 r (.nk 1 1 r (.no 9 r (.seq (.sr (.kn 1 25 r (.block (.lp hd [0] [0] r (fun j E l (z,b,A,B)=>j ((3,.bool z) :: (4,.int .i64 b) :: E) (AW A6 A :: AW AX B :: l)) (ji rf [1,1,0] r) ?_)))))))
 rintro ⟨z,b,A,B⟩ c1 hd
 refine jq r fun c6 c=>?_
 have R6:=c.u1 R6
 refine .seq (.sk 4 r (.lo OQ .p2 r (.ln MT r (.kn 1 32793 r (.condP r hd (fun C hd=>?_) fun C hd=>?_)))))
 · refine .sn 25 r (.seq (.block (.sk 2 r ?_)))
   have D:=L7  (b4:=b4) R6 hd
   refine .callS (.f call89 r) (.o [2,0,0] r) D r r fun c7 c8 c9 F G=>?_
   obtain ⟨d,rfl,rfl,hd⟩:=G
   obtain ⟨s,R6⟩:=F.u2 c R6
   refine .rn 3 r (.no 1048601 r (.condP r hd (fun H hd=>?_) fun H hd=>?_))
   · exact .region (.kn 1 25 r (.region (.ks 3 r (.nil' (je (true,A7 (b+1),d.2.1,d.2.2) hd s [1,1,0] r)))))
   exact .sn 25 r (.region (.ks 3 r (.nil' (je (z,A7 (b+1),d.2.1,d.2.2) hd s [1,1,0] r))))
 refine .en 9 r (.seq (.sr (.kn 1 41 r (.block (.lp hd [0] [2] r (fun j E l (h,i,k,m)=>j ((3,.bool h) :: (5,.int .i64 i) :: E) (AW A6 k :: AW AX m :: l)) (ji rf [0,0,0] r) ?_)))))
 rintro ⟨h,i,k,m⟩ c2 hd
 refine jq r fun d0 t=>?_
 obtain ⟨u,R6⟩:=t.u2 c R6
 refine .seq (.sk 4 r (.lo OQ .p2 r (.ln MT r (.kn 1 134217769 r (.condP r hd (fun J hd=>?_) fun J hd=>?_)))))
 · refine .sn 41 r (.seq (.block (.sr (.kn 1 105 r (.block (.lp hd [5,0] [2] r (fun j E l (n,e,p,q)=>j ((3,.bool n) :: (6,.int .i64 e) :: E) (AW A6 p :: AW AX q :: l)) (ji rf [0,0,0] r) ?_))))))
   rintro ⟨n,e,p,q⟩ c3 hd
   refine jq r fun d1 w=>?_
   obtain ⟨K,x,R6⟩:=w.u3 u t R6
   refine .seq (.sk 4 r (.lo OQ .p2 r (.ln MT r (.kn 1 68719476841 r (.condP r hd (fun L hd=>?_) fun L hd=>?_)))))
   · refine .sn 105 r (.seq (.block (.sk 3 r ?_)))
     have N:=E7  (b4:=b4) R6 hd
     refine .callS (.f call91 r) (.o [2,0,0] r) N r r fun d2 b6 d3 O a=>?_
     rcases a with a | a
     · obtain ⟨d4,rfl,rfl,hd⟩:=a; exact hd.elim
     obtain ⟨d5,rfl,rfl,hd⟩:=a
     obtain ⟨P,R,S,R6⟩:=O.u4 K x w R6
     refine .rn 3 r (.ks 1 r (.nk 233 1 r ?_))
     have T:=RH (I:=b6)  hd
     refine .callS (.f call78 r) (.o [2] r) T r r fun d6 b7 d7 U V=>?_
     obtain ⟨b8,rfl,rfl,hd⟩:=V
     obtain ⟨W,X,Y,R6⟩:=U.u4 P R S R6
     refine .rn 3 r (.ks 1 r (.nk 489 4 r ?_))
     have Z:=UY (I:=b7)  hd
     refine .callS (.f call166 r) (.o [0] r) Z r r fun d8 d9 e0 a0 a1=>?_
     obtain ⟨e1,rfl,rfl,hd⟩:=a1
     obtain ⟨a2,a3,a4,R6⟩:=a0.u4 W X Y R6
     refine .rn 3 r ?_
     have a5:=L8  (b4:=b4) R6 hd
     refine .callS (.f call90 r) (.o [1,1,0] r) a5 r r fun e2 b9 e3 a6 a7=>?_
     obtain ⟨g,rfl,rfl,hd⟩:=a7
     obtain ⟨a8,a9,y,R6⟩:=a6.u4 a2 a3 a4 R6
     refine .rn 3 r (.no 489 r (.region (.ks 2 r (.spl hd [3,51,52] r (fun b0 hd=>?_) fun b0 hd=>?_))))
     · exact .kn 6 105 r (.region (.ks 3 r (.nil' (je (true,A7 (e+1),g.2.1,g.2.2) hd y [1,1,0] r))))
     refine .ks 1 r ?_
     have b1:=RH (I:=b9)  hd
     refine .yes r (.callS (.f call78 r) (.o [2] r) b1 r r fun e4 e5 e6 b2 b3=>?_)
     obtain ⟨c0,rfl,rfl,hd⟩:=b3
     obtain ⟨c4,c5,b5,R6⟩:=b2.u4 a8 a9 y R6
     exact .rn 3 r (.kn 4 105 r (.region (.ks 3 r (.nil' (je (decide (c0<b8),A7 (e+1),g.2.1,g.2.2) hd b5 [2,0,0] r)))))
   exact .en 41 r (.region (.ks 3 r (.nil' (je (n,A7 (i+1),p,q) hd x [0,0,0] r))))
 exact .en 9 r (.sr (.kn 2 5 r (.q1 results94 u [2,0,0] r ⟨(h,k,m),r,r,hd⟩)))
theorem UJ {o0:AR} {o1:A4} {o2:A9} {a0:EI} {Q:(Bool×A4×A9)→Prop} (R6:sV I gl5 o0) (hd:GK o0 o1 o2 a0 Q) :
  Fun prog 26 #[.pointer (some ⟨b4,0,none⟩),.agg (TK a0).toArray] I [pto b4 (.cells (BM o0 gl5) 134 (0,0)),AW A6 o1,AW AX o2] (fun I_ v l=>∃ r,v=.bool r.1∧l=[pto b4 (.cells (BM o0 gl5) 134 (0,0)),AW A6 r.2.1,AW AX r.2.2]∧Q r):=by
 refine Fun.en func26 ntmps26 r fun w0 M=>?_
 refine .sr (.bx r fun b9=>?_)
 refine .kn 1 9 r (.seq (.sk 1 r (.eqNilP lZ r r r r (.ks 1 r (.yes r (.lw fW T6 .z r ?_))))))
 have t:=Y9 (I:=I) hd
 refine .yes r (.callP call88 r t r r fun a6 u=>?_)
 obtain ⟨a7,rfl,hd⟩:=u
 refine .kn 2 2057 r (.condP r hd (fun w hd=>?_) fun w hd=>?_)
 · exact .sr (.kn 1 17 r (.drop .z (.q1 results26 rf [0,0,0] r ⟨(false,o1,o2),r,r,hd⟩)))
 refine .sn 9 r (.sk 1 r (.lo isAgg45 .z r (.no 8201 r (.block (.sr (.kn 2 73737 r (.condP r hd (fun x hd=>?_) fun x hd=>?_)))))))
 · refine .sk 2 r (.lo AP .z r ?_)
   have y:=L7  (b4:=b4) R6 hd
   refine .callS (.f call89 r) (.o [1,1,1] r) y r r fun a8 a9 b0 e A=>?_
   obtain ⟨g,rfl,rfl,hd⟩:=A
   have R6:=e.u1 R6
   exact .rn 4 r (.kn 1 17 r (.drop .p3 (.q1 results26 e [0,0,0] r ⟨(g.1,g.2.1,g.2.2),r,r,hd⟩)))
 refine .sr (.kn 2 4202505 r (.condP r hd (fun B hd=>?_) fun B hd=>?_))
 · refine .sk 2 r (.lo AP .z r (.ks 1 r (.lo AP .z r (.ks 1 r (.lo AP .z r ?_)))))
   have C:=L8  (b4:=b4) R6 hd
   refine .callS (.f call90 r) (.o [1,1,1] r) C r r fun b1 b2 b3 h D=>?_
   obtain ⟨i,rfl,rfl,hd⟩:=D
   have R6:=h.u1 R6
   exact .rn 4 r (.kn 1 17 r (.drop .p3 (.q1 results26 h [0,0,0] r ⟨(i.1,i.2.1,i.2.2),r,r,hd⟩)))
 refine .sr (.kn 2 4294975497 r (.condP r hd (fun E hd=>?_) fun E hd=>?_))
 · refine .seq (.dr [0,1,2,3,4,6,7,5,8,9] 10 (.fk 2 r (.hl AP 0 r (.fk 1 r (.hl AP 0 r (.fk 1 r (.hl AP 0 r (.ww r fun ex=>?_))))))))
   have F:=E7  (b4:=b4) R6 hd
   refine .callS (.f call91 r) (.o [1,1,1] r) F r r fun b5 m b6 c a=>?_
   rcases a with a | a
   · obtain ⟨b7,rfl,rfl,hd⟩:=a
     have R6:=c.u1 R6
     refine .rx 4 r (.so 4 r r r (.ch r (fun _=>.lo AP .p3 r .mk) (.ck 1 r r tv)) (.ww r fun ex=>?_))
     have G:=N6 (I:=m)  hd
     refine .callS (.f call92 r) .n G r r fun b8 c0 c1 H J=>?_
     obtain ⟨a4,rfl,rfl,hd⟩:=J
     obtain ⟨K,R6⟩:=H.u2 c R6
     exact .rx 4 r (.so 4 r r r tv (.fk 1 r (.e2 10 (.kn 1 17 r (.drop .p3 (.q1 results26 K [0,0,0] r ⟨(a4==0,o1,o2),r,r,hd⟩))))))
   obtain ⟨c2,rfl,rfl,hd⟩:=a
   have R6:=c.u1 R6
   refine .rx 4 r (.so 4 r r r (.ch r (fun _=>.lo AP .p3 r .mk) (.ck 1 r r tv)) (.ww r fun ex=>?_))
   have L:=UX (I:=m)  hd
   refine .callS (.f call92 r) (.o [2] r) L r r fun c3 c4 c5 N O=>?_
   obtain ⟨p,rfl,rfl,hd⟩:=O
   obtain ⟨P,R6⟩:=N.u2 c R6
   exact .rx 4 r (.so 4 r r r tv (.fk 1 r (.e2 10 (.kn 1 17 r (.drop .p3 (.q1 results26 P [1,1,0] r ⟨(p.1==0,o1,p.2),r,r,hd⟩))))))
 refine .sr (.kn 2 17592186044425 r (.condP r hd (fun R hd=>?_) fun R hd=>?_))
 · refine .seq (.dr [0,1,2,3,4,6,7,5,8,9] 10 (.fk 2 r (.hl AP 0 r (.fk 1 r (.hl AP 0 r (.fk 1 r (.hl AP 0 r (.ww r fun ex=>?_))))))))
   have S:=E7  (b4:=b4) R6 hd
   refine .callS (.f call91 r) (.o [1,1,1] r) S r r fun c6 q c7 d b=>?_
   rcases b with b | b
   · obtain ⟨c8,rfl,rfl,hd⟩:=b
     have R6:=d.u1 R6
     refine .rx 4 r (.so 4 r r r (.ch r (fun _=>.lo AP .p3 r .mk) (.ck 1 r r tv)) (.ww r fun ex=>?_))
     have T:=OU (I:=q)  hd
     refine .callS (.f call93 r) .n T r r fun c9 d0 d1 U V=>?_
     obtain ⟨a5,rfl,rfl,hd⟩:=V
     obtain ⟨W,R6⟩:=U.u2 d R6
     exact .rx 4 r (.so 4 r r r tv (.fk 1 r (.e2 10 (.kn 1 17 r (.drop .p3 (.q1 results26 W [0,0,0] r ⟨(a5==0,o1,o2),r,r,hd⟩))))))
   obtain ⟨d2,rfl,rfl,hd⟩:=b
   have R6:=d.u1 R6
   refine .rx 4 r (.so 4 r r r (.ch r (fun _=>.lo AP .p3 r .mk) (.ck 1 r r tv)) (.ww r fun ex=>?_))
   have X:=XQ (I:=q)  hd
   refine .callS (.f call93 r) (.o [2] r) X r r fun d3 d4 d5 Y Z=>?_
   obtain ⟨s,rfl,rfl,hd⟩:=Z
   obtain ⟨a1,R6⟩:=Y.u2 d R6
   exact .rx 4 r (.so 4 r r r tv (.fk 1 r (.e2 10 (.kn 1 17 r (.drop .p3 (.q1 results26 a1 [1,1,0] r ⟨(s.1==0,o1,s.2),r,r,hd⟩))))))
 refine .sk 1 r ?_
 have a2:=K3  (b4:=b4) R6 hd
 refine .callS (.f call94 r) (.o [1,1,1] r) a2 r r fun d6 d7 d8 j a3=>?_
 obtain ⟨k,rfl,rfl,hd⟩:=a3
 have R6:=j.u1 R6
 exact .rn 4 r (.kn 1 17 r (.drop .p3 (.q1 results26 j [0,0,0] r ⟨(k.1,k.2.1,k.2.2),r,r,hd⟩)))
theorem KL {o0:AR} {o1:A4} {Q:Bool→Prop} (R5:sV I gl4 o0) (hd:CS o0 o1 Q) :
  Fun prog 80 #[.pointer (some ⟨b3,0,none⟩)] I [pto b3 (.cells (BM o0 gl4) 134 (0,0)),AW A6 o1] (fun I_ v l=>∃ r,v=.bool r∧l=[pto b3 (.cells (BM o0 gl4) 134 (0,0)),AW A6 o1]∧Q r):=by
 refine Fun.en func80 ntmps80 r fun w0 M=>.sr (.kn 1 1 r (.seq (.sk 1 r (.eqNilP lZ r r r r (.no 33 r (.condKF r r (.sn 1 r (.seq (.sr (.kn 1 9 r (.block (.lp hd [0] [0,0] r (fun j E l b=>j ((3,.int .i64 b) :: E) l) (ji rf [0,0] r) ?_))))))))))))
 refine fun b x hd=>jq r fun N a=>?_
 have R5:=a.u1 R5
 refine .seq (.sk 4 r (.lo OQ .z r (.ln MT r (.kn 1 4105 r (.condP r hd (fun i hd=>?_) fun i hd=>?_)))))
 · refine .sn 9 r (.seq (.block (.seq ?_)))
   obtain ⟨y,O,c,P,A,rfl,d,hd⟩:=hd
   refine .bankO .p1 d fun ⟨k,C,m,n,p,q,s,t,u⟩ D=>.rn 7 r (.ownF .p1 fun F=>.ownF .p2 fun G=>.ownF .p3 fun H=>.ownF .p4 fun J=>.dr [0,1,2,3,4,5,6,7,8,9,10,11,12,13,14,15] 16 (.fk 3 r (.hl OQ 6 r (.fk 1 r ?_))))
   obtain ⟨L,o121,K,w,e,f⟩:=R5.2.2.1.2 _ _ c
   cases f
   refine .h r (fun _=>.ixb MT sizeOf135 w y c r .mk) (.h r (fun _=>.ldb 0 isAgg135 e r .mk) (.fk 2 r (.hl AP 0 r (.fk 3 r (.hl KZ 6 r (.h r (fun _=>.ln HJ r .mk) (.fk 1 r (.e2 16 (.bankB (B:=A6) (k,C,m,n,p,q,s,t,u) A D d (.o [0,0,0,0,0,0] r) (.no 1073741833 r (.condP r hd (fun g hd=>?_) fun g hd=>?_)))))))))))
   · exact .sr (.kn 1 5 r (.q1 results80 a [1,0] r ⟨false,r,r,hd⟩))
   exact .sn 9 r (.region (.ks 3 r (.nil' (je (A7 (b+1)) hd a [1,0] r))))
 exact .en 1 r (.sr (.kn 1 5 r (.q1 results80 a [0,0] r ⟨true,r,r,hd⟩)))
theorem RP {o0:AR} {o1:A4} {Q:(List AB)→Prop} (R5:sV I gl4 o0) (hd:F6 o0 o1 Q) :
  Fun prog 82 #[.pointer (some ⟨b3,0,none⟩)] I [pto b3 (.cells (BM o0 gl4) 134 (0,0)),AW A6 o1] (fun I_ v l=>∃ r p6 c7,v=.slice p6 r.length c7∧RepSl BL I_ p6 c7 r∧l=[pto b3 (.cells (BM o0 gl4) 134 (0,0)),AW A6 o1]∧Q r):=by
 refine Fun.en func82 ntmps82 r fun w0 M=>?_
 refine .sk 1 r (.nk 1 1 r (.no 9 r (.seq (.sr (.kn 1 25 r (.block (.own0 (JI BL) 76 (.lx hd [0] [1,1] r (fun j E l (d,g)=>fun c w=>∃ h i,j ⟨108,[],none⟩ (fun I_=>True) ((3,.slice h d.length i) :: (4,.int .i64 g) :: E) (OwnSl (JI BL) 76 h i d :: l) c w) (fun c w ho hs=>⟨_,_,jf rf tv [0,0,0] r ho hs⟩) ?_))))))))
 rintro ⟨d,g⟩ f9 hd c w ⟨h,i,g2,e,_,hok,hsym⟩
 have R5:=e.u1 R5
 refine Cod.at hok hsym (.seq (.sk 1 r (.neNilP lZ r r r r (.ks 5 r (.yes r (.lo OQ .p1 r (.yes r (.ln MT r (.kn 2 2097177 r (.condP r hd (fun H hd=>?_) fun H hd=>?_))))))))))
 · refine .sn 25 r (.seq (.block (.sk 3 r (.lo OQ .p1 r (.ks 1 r ?_)))))
   obtain ⟨b0,g3,J,g4,o3413,b1,K,hd⟩:=R5.2.2.1.ix hd
   refine .ixb MT sizeOf135 b1 b0 J r (.ldb 0 isAgg135 K r (.ks 1 r (.nk 57 1 r (.no 121 r (.seq (.sr (.kn 1 249 r (.block (.own0 BL 161 ?_)))))))))
   refine .lx hd [4,3,0] [2,1,1] r (fun j E l (A,a,k)=>fun c w=>∃ m n,j ⟨108,[],none⟩ (fun I_=>True) ((5,.pointer (eJ A)) :: (6,.slice m a.length n) :: (7,.int .i64 k) :: E) (OwnSl BL 161 m n a :: l) c w) (fun c w ho hs=>⟨_,_,jf rf tv [0,1,0,0] r ho hs⟩) ?_
   rintro ⟨A,a,k⟩ g0 hd c w ⟨m,n,C,f,_,hok,hsym⟩
   obtain ⟨L,R5⟩:=f.u2 e R5
   refine Cod.at hok hsym (.seq (.sk 2 r ?_))
   obtain ⟨p,b2,s,t,hd⟩:=hd
   refine .bankO .p3 t fun ⟨N,b4,b5,b6,b7,b8,b9,c0,c1⟩ c2=>?_
   refine .rn 9 r (.sub (E':=[(0,_),(3,_),(4,_),(5,.pointer (some ⟨p,0,none⟩)),(6,_),(7,_),(31,_),(32,.pointer (some ⟨p,0,none⟩))]) ⟨r,r,r,(by rw [s]; rfl),r,r,r,(by rw [s]; rfl),tv⟩ (.ks 2 r (.lo isAgg76 .z r (.ln CH r (.ks 1 r (.bankB (B:=A6) (N,b4,b5,b6,b7,b8,b9,c0,c1) b2 c2 t (.o [0,0,0,0,0,0] r) (.no 137438953721 r (.condP r hd (fun O hd=>?_) fun O hd=>?_))))))))
   · refine .sn 249 r (.seq (.block (.sk 1 r ?_)))
     obtain ⟨g5,c3,P,u,hd⟩:=hd
     obtain rfl:=Option.some.inj P
     refine .bankO .z u fun ⟨R,c4,c5,c6,c8,c9,d0,d1,d2⟩ D=>?_
     refine .rn 9 r (.ks 2 r (.lo isAgg76 .z r (.ks 1 r ?_)))
     obtain ⟨d3,b,S,g6,o3963,d4,T,hd⟩:=D.2.2.ix hd
     refine .ixb CH BA d4 d3 S r (.ldW EK BA T r r r r (.al QR r fun g7=>?_))
     refine .sa BA .z r (.bankB (B:=A6) (R,c4,c5,c6,c8,c9,d0,d1,d2) c3 D u (.o [1,1,1,1,1,1] r) (.no 505 r (.seq ?_)))
     obtain ⟨g8,d5,U,x,hd⟩:=hd
     obtain rfl:=Option.some.inj U
     refine .bankO .z x fun ⟨V,d6,d7,d8,d9,e0,e1,e3,e4⟩ e5=>?_
     refine .rn 10 r (.dr [0,1,2,3,4,5,6,7,8,9,10,11,12,13,14,15,16,17,18] 19 (.fk 1 r (.hl AP 6 r (.fk 5 r (.hl AP 8 r (.fk 4 r (.hl AP 8 r (.fk 3 r (.hl AP 0 r ?_)))))))))
     refine .ww r fun ex=>?_
     have W:=FT (I:=C) hd
     refine .cq call148 W r fun F hd=>?_
     refine .so 10 r r r (.ch r (fun _=>.lo AP .p6 r .mk) (.ck 1 r r tv)) (.fk 1 r (.e2 19 (.ks 1 r (.s1 DN .p6 r (.bankB (B:=A6) (V,d6,d7,d8,d9,e0,e1,e3,e4) d5 e5 x (.o [0,0,0,0,0,0] r) (.no 505 r (.seq ?_)))))))
     obtain ⟨g9,e6,X,y,hd⟩:=hd
     obtain rfl:=Option.some.inj X
     refine .bankO .z y fun ⟨Y,e7,e8,e9,f0,f1,f2,f3,f4⟩ f5=>?_
     refine .rn 10 r (.dr [0,1,2,3,4,5,6,7,8,9,10,11,12,13,14,15,16,17,18] 19 (.fk 1 r (.hl AP 6 r (.fk 5 r (.hl AP 8 r (.fk 4 r (.hl AP 8 r (.fk 3 r (.hl AP 0 r ?_)))))))))
     refine .ww r fun ex=>?_
     have Z:=FT (I:=C) hd
     refine .cq call148 Z r fun G hd=>?_
     refine .so 10 r r r (.ch r (fun _=>.lo AP .p6 r .mk) (.ck 1 r r tv)) (.fk 1 r (.e2 19 (.ks 1 r (.s1 DN .p6 r (.bankB (B:=A6) (Y,e7,e8,e9,f0,f1,f2,f3,f4) e6 f5 y (.o [0,0,0,0,0,0] r) (.no 505 r (.region (.ks 1 r (.lw EK BA .p1 r ?_)))))))))
     refine .bs 1 CH BA QR r fun h0=>?_
     obtain ⟨a0,hd⟩:=hd
     refine .append (ys:=[({ Row:=A7 (b.Row+F),Col:=A7 (b.Col+G),Val:=b.Val }:AB)]) 32 .p3 CH CH dD r r r r r r r r r (.box .z (.one r) r) a0 r r fun h1 h2=>?_
     exact .kn 1 249 r (.drop .p1 (.drop .p2 (.region (.ks 3 r (.nil' fun c w ho hs=>⟨((some p),(a++([({ Row:=A7 (b.Row+F),Col:=A7 (b.Col+G),Val:=b.Val }:AB)])),A7 (k+1)),hd,_,_,jf f tv [0,1,1,0] r ho hs⟩)))))
   refine .en 89 r (.region (.ks 2 r (.bs 1 P4 fV zeroValue76 r fun h3=>?_)))
   refine .pub .p2 fun h4 a1 f6=>?_
   obtain ⟨a2,g1,R5⟩:=a1.u3 L f R5
   obtain ⟨a3,hd⟩:=hd
   refine .append (ys:=[a]) 24 .p3 P4 P4 AeQ r r r r r r r r r (.box .z (.one ⟨_,_,r,f6⟩) r) a3 r r fun h5 h6=>?_
   exact .kn 1 25 r (.drop .p1 (.region (.ks 3 r (.nil' fun c w ho hs=>⟨((d++([a])),A7 (g+1)),hd,_,_,jf a2 tv [0,1,0] r ho hs⟩))))
 refine .en 9 r (.seq (.sk 1 r (.eqNilP lZ r r r r (.no 79228162514264337593543950345 r (.condKF r r (.sn 9 r (.sk 4 r (.lo RL .p1 r (.ks 1 r ?_)))))))))
 refine .pub .z fun h7 a4 q=>?_
 obtain ⟨a5,R5⟩:=a4.u2 e R5
 have a6:=Y8 q hd
 refine .call call151 r a6 r r fun h8 h9 a7 a8=>?_
 obtain ⟨f7,i0,i1,rfl,f8,hd⟩:=a8
 obtain ⟨a9,R5,q⟩:=a7.u3 a5 R5 q
 exact .ks 5 r (.nk 513 2 r (.no 5 r (.q1 results82 a9 [0,0] r ⟨f7.1,_,_,r,f8,r,hd⟩)))
theorem RJ {o0:AR} {o1:A4} {Q:(Rows×Int)→Prop} (R5:sV I gl4 o0) (hd:D2 o0 o1 Q) :
  Fun prog 79 #[.pointer (some ⟨b3,0,none⟩)] I [pto b3 (.cells (BM o0 gl4) 134 (0,0)),AW A6 o1] (fun I_ v l=>∃ r ga6,v=.tuple #[.agg (F8 r.1 ga6),.int .i64 r.2]∧NX I_ ga6 r.1∧l=[pto b3 (.cells (BM o0 gl4) 134 (0,0)),AW A6 o1]∧Q r):=by
 refine Fun.en func79 ntmps79 r fun w0 M=>?_
 refine .sr (.al CF r fun C=>?_)
 refine .kn 1 5 r (.seq (.sk 1 r (.eqNilP lZ r r r r (.no 37 r (.condKF r r (.sn 5 r (.seq (.dr [0,1,2,3,4,5,6,7,8,9,10,11,12,13,14,15,16,17,18,19,20,21] 22 (.fk 4 r ?_)))))))))
 refine .hl RL 1 r (.fk 5 r (.hl AP 1 r (.fk 5 r (.hl AP 1 r (.fk 1 r (.ww r fun ex=>?_))))))
 have d:=RP  (b3:=b3) R5 hd
 refine .callS (.f call82 r) (.o [1,1] r) d r r fun p q s a e=>?_
 obtain ⟨u,x,y,rfl,b,rfl,hd⟩:=e
 have R5:=a.u1 R5
 refine .rx 3 r (.so 3 r r r (.ch r (fun _=>.lo AP .z r .mk) (.ck 5 r r (.ch r (fun _=>.lo AP .z r .mk) (.ck 5 r r (.ch r (fun _=>.lo RL .z r .mk) (.ck 4 r r tv)))))) (.ww r fun ex=>?_))
 have g:=nB b hd
 refine .call call115 r g r r fun A B h i=>?_
 obtain ⟨c,j,rfl,m,hd⟩:=i
 obtain ⟨k,R5,b⟩:=h.u3 a R5 b
 exact .so 3 r r r tv (.fk 2 r (.e2 22 (.sa AE .p2 r (.kn 1 13 r (.ret (JG r (.w B6 AE r .p2 r (.t r .n)) k (.o [0,0] r) ⟨(c.1,c.2),j,r,m,r,hd⟩))))))
theorem dR {a0:BF} {a1:List EI} {a2:Int} {Q:(Rows×Bool×Int)→Prop} (R2:nE I gc1 a0) (R5:RepSl UM I p3 c4 a1) (hd:IK a0 a1 a2 Q) :
  BH prog 31 [.agg (JU a0 gc1),.slice p3 a1.length c4,.int .i64 a2] I (AeE Q):=by
 refine Fun.en func31 ntmps31 r fun w0 M=>.bank0 A6 (.bank0 AX (.sr (.bx r fun q1=>.al CF r fun q2=>.kn 2 78 r (.seq (.sr (.lw LS IU .p1 r ?_))))))
 have h2:=O6 R2 hd
 refine .cq call34 h2 r fun j4 hd=>.ks 1 r (.nk 590 2 r (.no 1049166 r (.condP r hd (fun h3 hd=>?_) fun h3 hd=>?_)))
 · exact .sr (.bd CF FJ FI r (.ks 1 r (.sa AE .z r (.kn 2 448 r (.drop .p1 (.ret (B9 r (.w B6 AE r .z r (.t r (.t r .n))) rf ⟨(B1,false,j4),((_,_),(_,_),(_,_)),r,⟨(.nil _ _ _),(.nil _ _ _),(.nil _ _ _)⟩,hd⟩)))))))
 refine .sn 78 r (.seq (.sk 1 r (.ln VT r (.kn 1 33554510 r (.condP r hd (fun h4 hd=>?_) fun h4 hd=>?_)))))
 · exact .sr (.bd CF FJ FI r (.sa AE .z r (.kn 2 448 r (.drop .p1 (.ret (B9 r (.w B6 AE r .z r (.t r (.t r .n))) rf ⟨(B1,false,5),((_,_),(_,_),(_,_)),r,⟨(.nil _ _ _),(.nil _ _ _),(.nil _ _ _)⟩,hd⟩))))))
 refine .sn 78 r (.seq (.sr (.kn 1 1102 r (.block (.lp hd [6,3,2,1] [1,0,0,0] r (fun j E l x=>j ((10,.int .i64 x) :: E) l) (ji rf [1,0,0,0] r) ?_)))))
 refine fun x i9 hd=>jq r fun h5 b=>?_
 obtain ⟨R2,R5⟩:=b.u2 R2 R5
 refine .seq (.sk 2 r (.ln VT r (.kn 1 1073742926 r (.condP r hd (fun U hd=>?_) fun U hd=>?_))))
 · refine .sn 1102 r (.seq (.block (.sk 2 r ?_)))
   obtain ⟨h6,k7,V,k8,o138,h7,W,hd⟩:=R5.ix hd
   refine .ixb VT T6 h7 h6 V r (.ldW fW T6 W r r r r ?_)
   have X:=Y9 (I:=h5) hd
   refine .cq call88 X r fun k9 hd=>.kn 1 274877908046 r (.condP r hd (fun Y hd=>?_) fun Y hd=>?_)
   · exact .sr (.bd CF FJ FI r (.sa AE .p1 r (.kn 2 448 r (.drop .z (.ret (B9 r (.w B6 AE r .z r (.t r (.t r .n))) b ⟨(B1,false,8),((_,_),(_,_),(_,_)),r,⟨(.nil _ _ _),(.nil _ _ _),(.nil _ _ _)⟩,hd⟩))))))
   exact .sn 1102 r (.region (.ks 3 r (.nil' (je (A7 (x+1)) hd b [0,0,0,0] r))))
 refine .en 78 r (.seq (.sk 3 r (.spl hd [41,42] r (fun Z hd=>?_) fun Z hd=>?_)))
 · exact .kn 3 35184372088910 r (.condKT r r (.sr (.bd CF FJ FI r (.sa AE .p1 r (.kn 2 448 r (.drop .z (.ret (B9 r (.w B6 AE r .z r (.t r (.t r .n))) b ⟨(B1,false,3),((_,_),(_,_),(_,_)),r,⟨(.nil _ _ _),(.nil _ _ _),(.nil _ _ _)⟩,hd⟩))))))))
 refine .kn 3 35184372088910 r (.condP r hd (fun a3 hd=>?_) fun a3 hd=>?_)
 · exact .sr (.bd CF FJ FI r (.sa AE .p1 r (.kn 2 448 r (.drop .z (.ret (B9 r (.w B6 AE r .z r (.t r (.t r .n))) b ⟨(B1,false,3),((_,_),(_,_),(_,_)),r,⟨(.nil _ _ _),(.nil _ _ _),(.nil _ _ _)⟩,hd⟩))))))
 refine .sn 78 r (.sr (.lw LS IU .z r ?_))
 have a4:=eH   R2 hd
 refine .callS (.f call23 r) (.o [3,2] r) a4 r r fun l0 l1 l2 F c=>?_
 rcases c with c | c
 · obtain ⟨l3,rfl,rfl,hd⟩:=c
   obtain ⟨a5,R2,R5⟩:=F.u3 b R2 R5
   refine .rn 4 r (.kn 5 2118 r (.drop .p2 (.seq (.sr (.kn 1 10310 r (.block (.lp hd [11,6,2,1] [2,0,0] r (fun j E l y=>j ((13,.int .i64 y) :: E) l) (ji rf [2,0,0] r) ?_)))))))
   refine fun y j0 hd=>jq r fun h8 d=>?_
   obtain ⟨i,R5⟩:=d.u2 a5 R5
   refine .seq (.sk 2 r (.ln VT r (.kn 1 36028797018974278 r (.condP r hd (fun a6 hd=>?_) fun a6 hd=>?_))))
   · refine .sn 10310 r (.seq (.block (.region (.ks 3 r ?_))))
     obtain ⟨h9,l4,a7,l5,o323,i0,k,hd⟩:=R5.ix hd
     refine .ixb VT T6 i0 h9 a7 r (.ldW fW T6 k r r r r ?_)
     have a8:=UE (I:=h8)  hd
     refine .callS (.f call26 r) (.o [1,1] r) a8 r r fun l6 l7 l8 a9 b0=>?_
     obtain ⟨l9,rfl,rfl,hd⟩:=b0
     obtain ⟨j5,b1,R5,k⟩:=a9.u4 i d R5 k
     exact .rn 3 r (.no 10310 r (.region (.ks 3 r (.nil' (je (A7 (y+1)) hd b1 [2,0,0] r)))))
   refine .en 2116 r (.seq (.jn hd [11,6] [0,0,0] r (fun j E l _=>j E l) (fun m0 hd=>?_) ?_))
   · refine .sr (.kn 1 18500 r (.block (.lp hd [14,11,6,2] [0,0,0] r (fun j E l _=>j E l) (ji rf [0,0,0] r) ?_)))
     refine fun _ j1 hd=>jq r fun i1 m=>?_
     obtain ⟨b2,b5⟩:=m.u2 i d
     refine .seq (.sk 4 r (.spl hd [66,67] r (fun b6 hd=>?_) fun b6 hd=>?_))
     · refine .ks 1 r ?_
       have b7:=KK (I:=i1)  hd
       refine .yes r (.callS (.f call80 r) (.o [1] r) b7 r r fun m1 i2 m2 b8 b9=>?_)
       obtain ⟨m3,rfl,rfl,hd⟩:=b9
       obtain ⟨j6,j7,c0⟩:=b8.u3 b2 b5 m
       refine .rn 3 r (.kn 2 2361183241434822625348 r (.condP r hd (fun c1 hd=>?_) fun c1 hd=>?_))
       · refine .sn 18500 r (.seq (.block (.region (.ks 1 r ?_))))
         have c2:=RE (I:=i2)  hd
         refine .callS (.f call94 r) (.o [0,1] r) c2 r r fun m4 m5 m6 j8 c3=>?_
         exact c3.elim
       exact .exit (je () hd c0 [1,0,0] r)
     exact .kn 4 2361183241434822625348 r (.condKF r r (.exit (je () hd m [0,0,0] r)))
   refine fun _ hd=>jq r fun i3 G=>?_
   obtain ⟨c5,c6⟩:=G.u2 i d
   refine .sk 1 r ?_
   have c7:=RF (I:=i3)  hd
   refine .callS (.f call79 r) (.o [1] r) c7 r r fun m7 i4 m8 c8 c9=>?_
   obtain ⟨K,d0,rfl,A,rfl,hd⟩:=c9
   obtain ⟨d1,d2,d3⟩:=c8.u3 c5 c6 G
   refine .rn 3 r (.ks 3 r (.al CF r fun m9=>.sa AE .z r (.kn 1 100416 r (.seq (.dr [0,1,3,2,4,5] 6 (.h r (fun _=>.lw B6 AE .z r .mk) (.fk 2 r (.ww r fun ex=>?_))))))))
   have d4:=KK (I:=i4)  hd
   refine .callS (.f call80 r) (.o [1] r) d4 r r fun n0 n1 n2 d5 d6=>?_
   obtain ⟨i5,rfl,rfl,hd⟩:=d6
   obtain ⟨d7,j9,k0,A⟩:=d5.u4 d1 d2 d3 A
   refine .rx 4 r (.so 4 r r r (.ck 1 r r (.ch r (fun _=>.lw B6 AE .p1 r .mk) tv)) (.ww r fun ex=>?_))
   exact .sa AE .p2 r (.sn 4 r r r (.ck 1 r r tv) (.fk 1 r (.e2 6 (.kn 1 448 r (.drop .p1 (.ret (B9 r (.w B6 AE r .p1 r (.t r (.t r .n))) d7 ⟨(K.1,i5,K.2),d0,r,A,hd⟩)))))))
 obtain ⟨n3,g,k1,rfl,a,rfl,hd⟩:=c
 obtain ⟨d8,R2,R5⟩:=F.u3 b R2 R5
 refine .rn 5 r (.kn 5 2118 r (.drop .p3 (.seq (.sr (.kn 1 10310 r (.block (.lp hd [11,6,2,1] [3,2] r (fun j E l (B,L,N)=>j ((13,.int .i64 B) :: E) (AW A6 L :: AW AX N :: l)) (ji rf [0,0,1,0] r) ?_)))))))
 rintro ⟨B,L,N⟩ j2 hd
 refine jq r fun n4 e=>?_
 obtain ⟨p,R5,a⟩:=e.u3 d8 R5 a
 refine .seq (.sk 2 r (.ln VT r (.kn 1 36028797018974278 r (.condP r hd (fun d9 hd=>?_) fun d9 hd=>?_))))
 · refine .sn 10310 r (.seq (.block (.region (.ks 3 r ?_))))
   obtain ⟨i6,n5,e0,n6,o631,i7,q,hd⟩:=R5.ix hd
   refine .ixb VT T6 i7 i6 e0 r (.ldW fW T6 q r r r r ?_)
   have e1:=UJ  (b4:=g) a hd
   refine .callS (.f call26 r) (.o [3,0,0] r) e1 r r fun n7 n8 n9 e3 e4=>?_
   obtain ⟨O,rfl,rfl,hd⟩:=e4
   obtain ⟨k2,e5,R5,a,q⟩:=e3.u5 p e R5 a q
   exact .rn 4 r (.no 10310 r (.region (.ks 3 r (.nil' (je (A7 (B+1),O.2.1,O.2.2) hd e5 [1,1,1,0] r)))))
 refine .en 2116 r (.seq (.jn hd [11,6] [2,2] r (fun j E l (P,R)=>j E (AW A6 P :: AW AX R :: l)) (fun o0 hd=>?_) ?_))
 · refine .sr (.kn 1 18500 r (.block (.lp hd [11,6,2] [2,2] r (fun j E l (C,s,u)=>j ((14,.int .i64 C) :: E) (AW A6 s :: AW AX u :: l)) (ji rf [0,0,0,0] r) ?_)))
   rintro ⟨C,s,u⟩ j3 hd
   refine jq r fun o1 v=>?_
   obtain ⟨e6,e7,a⟩:=v.u3 p e a
   refine .seq (.sk 4 r (.spl hd [66,67] r (fun e8 hd=>?_) fun e8 hd=>?_))
   · refine .ks 1 r ?_
     have e9:=KL  (b3:=g) a hd
     refine .yes r (.callS (.f call80 r) (.o [3,0] r) e9 r r fun o2 o3 o4 f0 f1=>?_)
     obtain ⟨o5,rfl,rfl,hd⟩:=f1
     obtain ⟨f2,f3,H,a⟩:=f0.u4 e6 e7 v a
     refine .rn 4 r (.kn 2 2361183241434822625348 r (.condP r hd (fun f4 hd=>?_) fun f4 hd=>?_))
     · refine .sn 18500 r (.seq (.block (.region (.ks 1 r ?_))))
       have f5:=K3  (b4:=g) a hd
       refine .callS (.f call94 r) (.o [0,0,0] r) f5 r r fun o6 o7 o8 f6 f7=>?_
       obtain ⟨S,rfl,rfl,hd⟩:=f7
       obtain ⟨k3,k4,f8,a⟩:=f6.u4 f2 f3 H a
       exact .rn 4 r (.no 18500 r (.region (.ks 3 r (.nil' (je (A7 (C+1),S.2.1,S.2.2) hd f8 [1,1,1,0] r)))))
     exact .exit (je (s,u) hd H [1,1,1,0] r)
   exact .kn 4 2361183241434822625348 r (.condKF r r (.exit (je (s,u) hd v [0,0,0,0] r)))
 rintro ⟨P,R⟩ hd
 refine jq r fun o9 J=>?_
 obtain ⟨f9,g0,a⟩:=J.u3 p e a
 refine .sk 1 r ?_
 have g1:=RJ  (b3:=g) a hd
 refine .callS (.f call79 r) (.o [3,0] r) g1 r r fun p0 p5 p6 g2 g3=>?_
 obtain ⟨T,g4,rfl,D,rfl,hd⟩:=g3
 obtain ⟨g5,g6,g7,a⟩:=g2.u4 f9 g0 J a
 refine .rn 4 r (.ks 3 r (.al CF r fun p7=>.sa AE .z r (.kn 1 100416 r (.seq (.dr [0,1,3,2,4,5] 6 (.h r (fun _=>.lw B6 AE .z r .mk) (.fk 2 r (.ww r fun ex=>?_))))))))
 have g8:=KL  (b3:=g) a hd
 refine .callS (.f call80 r) (.o [1,1] r) g8 r r fun p8 p9 q0 g9 h0=>?_
 obtain ⟨i8,rfl,rfl,hd⟩:=h0
 obtain ⟨h1,k5,k6,a,D⟩:=g9.u5 g5 g6 g7 a D
 refine .rx 5 r (.so 5 r r r (.ck 1 r r (.ch r (fun _=>.lw B6 AE .p2 r .mk) tv)) (.ww r fun ex=>?_))
 exact .sa AE .p4 r (.sn 5 r r r (.ck 1 r r tv) (.fk 1 r (.e2 6 (.kn 1 448 r (.drop .z (.drop .p1 (.ret (B9 r (.w B6 AE r .p2 r (.t r (.t r .n))) h1 ⟨(T.1,i8,T.2),g4,r,D,hd⟩))))))))
theorem iP {a0:BF} {Q:Int→Prop} (R2:nE I gc1 a0) (hd:VE a0 Q) :
  BH prog 36 [.agg (JU a0 gc1)] I (fun _=>bI Q):=by
 refine Fun.en func36 ntmps36 r fun w0 M=>.sr (.bx r fun d=>.kn 1 2 r (.seq (.sr (.lw LS IU .z r ?_))))
 have a:=O6 R2 hd
 refine .cq call34 a r fun c hd=>.kn 1 34 r (.condP r hd (fun b hd=>?_) fun b hd=>?_)
 · exact .sr (.kn 1 4 r (.drop .z (.r0 results36 r ⟨0,r,hd⟩)))
 exact .sn 2 r (.sk 1 r (.lo AP .z r (.ks 1 r (.lo AP .z r (.ks 2 r (.lo AP .z r (.ks 1 r (.lo AP .z r (.kn 4 4 r (.drop .z (.r0 results36 r ⟨(A7 ((A7 ((A7 (a0.R+a0.C))*(A7 (a0.R+a0.C))))+2)),r,hd⟩)))))))))))
theorem bH {a0:HV} {a1:GB} {a2:Int×Int×Int×Int} {Q:Bool→Prop} (R2:lTj I gj1 a0.T) (R5:RepSl UM I p3 c4 a1.L) (hd:OZ a0 a1 a2 Q) :
  BH prog 5 [.agg (cX a0 gj1),.agg #[.slice p3 a1.L.length c4,.int .u8 a1.Windows],.agg #[.int .i64 a2.1,.int .i64 a2.2.1,.int .i64 a2.2.2.1,.int .i64 a2.2.2.2]] I (fun _=>XX Q):=by
 refine Fun.en func5 ntmps5 r fun w0 M=>.sr (.bx r fun f3=>.bx r fun f4=>.bx r fun f5=>.ks 1 r (.ns 56 r (.lw isAgg58 sizeOf58 .p2 r ?_)))
 have b1:=bG R2 hd
 refine .call call21 r b1 r r fun f6 f7 w b2=>?_
 obtain ⟨a,b,rfl,e,hd⟩:=b2
 obtain ⟨R2,R5⟩:=w.u2 R2 R5
 refine .al mA r fun f8=>.sa IU .z r (.no 176 r (.drop .p3 (.sr (.lw isAgg28 sizeOf28 .p2 r (.ks 1 r (.lo AP .z r (.ks 1 r (.lo AP .z r (.ks 1 r ?_)))))))))
 have b3:=WC R5 hd
 refine .call call18 r b3 r r fun f9 g0 b4 b5=>?_
 obtain ⟨g1,g2,g3,rfl,t,hd⟩:=b5
 obtain ⟨b6,R5,e⟩:=b4.u3 w R5 e
 refine .ks 1 r (.ns 432 r (.lw LS IU .z r (.ks 2 r (.lo pC .p2 r (.conv un5 XC r r r ?_)))))
 have b7:=WB e t hd
 refine .call call17 r b7 r r fun g4 g5 b8 b9=>?_
 obtain ⟨g6,d1,rfl,q,hd⟩:=b9
 obtain ⟨c0,R5,e,t⟩:=b8.u4 b6 R5 e t
 refine .ks 4 r (.al CF r fun g7=>.sa AE .z r (.ks 2 r (.ns 4016 r (.lw LS IU .p1 r (.ks 2 r (.lo pC .p3 r (.conv un5 XC r r r ?_)))))))
 have x:=dR e t hd
 refine .call call31 r x r r fun d2 g8 y D=>?_
 obtain ⟨g9,c7,rfl,p,hd⟩:=D
 obtain ⟨F,R5,e,t,q⟩:=y.u5 c0 R5 e t q
 refine .ks 4 r (.al CF r fun d3=>.sa AE .z r (.kn 2 32416 r (.drop .p4 (.sr (.lw LS IU .p2 r (.al mA r fun c1=>?_))))))
 refine .sa IU .z r (.no 65056 r (.drop .p3 (.sr (.ixArr (i:=0) vN DN r r (by decide) (o:=0) r r r (.lo AP .p3 r (.ks 1 r (.s1 DN .z r (.ns 65056 r (.ixArr (i:=1) vN DN r r (by decide) (o:=1) r r r ?_)))))))))
 refine .lo AP .p3 r (.ks 1 r (.s1 DN .z r (.ns 65056 r (.ixArr (i:=2) vN DN r r (by decide) (o:=2) r r r (.lo AP .p3 r (.ks 1 r (.s1 DN .z r (.no 65056 r (.seq (.jn hd [15,14,13,12,11,10,9,5] [3,2,1] r (fun j E l n=>j E (pto c1 (.cells #[.int .i64 a.Ring,.int .i64 a.A.Rows,.int .i64 n,.slice b.1.1.1 a.A.Start.length b.1.1.2,.slice b.1.2.1.1 a.A.Col.length b.1.2.1.2,.slice b.1.2.2.1 a.A.Val.length b.1.2.2.2,.int .i64 a.B.Rows,.int .i64 a.B.Cols,.slice b.2.1.1.1 a.B.Start.length b.2.1.1.2,.slice b.2.1.2.1.1 a.B.Col.length b.2.1.2.1.2,.slice b.2.1.2.2.1 a.B.Val.length b.2.1.2.2.2,.int .i64 a.Mask.Rows,.int .i64 a.Mask.Cols,.slice b.2.2.1.1 a.Mask.Start.length b.2.2.1.2,.slice b.2.2.2.1.1 a.Mask.Col.length b.2.2.2.1.2,.slice b.2.2.2.2.1 a.Mask.Val.length b.2.2.2.2.2,.int .i64 a2.1,.int .i64 a2.2.1,.int .i64 a2.2.2.1] 40 (0,0)) :: l)) (fun d4 hd=>?_) ?_))))))))))
 · refine .sr (.ixArr (i:=3) vN DN r r (by decide) (o:=3) r r r (.lo AP .p3 r (.rem r r (by decide) r r (.kn 1 18446744073709616672 r (.condP r hd (fun G hd=>?_) fun G hd=>?_)))))
   · exact .region (.ks 2 r (.lo AP .z r (.ks 3 r (.s1 DN .z r (.nil' (je (A7 (a.A.Cols+1)) hd rf [0,2,1,0] r))))))
   exact .skip' (je a.A.Cols hd rf [0,2,1,0] r)
 refine fun n hd=>jq r fun c2 v=>?_
 obtain ⟨H,e,q,p⟩:=v.u4 F e q p
 refine .sr (.lw LS IU .z r (.ixArr (i:=3) vN DN r r (by decide) (o:=3) r r r (.lo AP .p1 r ?_)))
 have J:=WB (I:=c2) (a0:=({ a with A:=({ Rows:=a.A.Rows,Cols:=n,Start:=a.A.Start,Col:=a.A.Col,Val:=a.A.Val }:Rows),R:=a2.1,C:=a2.2.1,Room:=a2.2.2.1 }:BF)) e (.nil _ none 0) hd
 refine .call call17 r J r r fun d5 c3 K O=>?_
 obtain ⟨c5,c8,rfl,d6,hd⟩:=O
 obtain ⟨P,S,e,q,p⟩:=K.u5 H v e q p
 refine .ks 4 r (.al CF r fun d7=>.sa AE .z r (.kn 2 327200 r (.drop .z (.sr (.lw LS IU .z r (.ixArr (i:=3) vN DN r r (by decide) (o:=3) r r r (.lo AP .p1 r ?_)))))))
 have U:=dR (I:=c3) (a0:=({ a with A:=({ Rows:=a.A.Rows,Cols:=n,Start:=a.A.Start,Col:=a.A.Col,Val:=a.A.Val }:Rows),R:=a2.1,C:=a2.2.1,Room:=a2.2.2.1 }:BF)) e (.nil _ none 0) hd
 refine .call call31 r U r r fun d8 s V W=>?_
 obtain ⟨c6,c9,rfl,d9,hd⟩:=W
 obtain ⟨m,d0,e,q,p⟩:=V.u5 P S e q p
 refine .ks 4 r (.al CF r fun e0=>.sa AE .z r (.kn 2 2424320 r (.drop .z (.drop .p1 (.seq (.dr [0,1,2,3,4,5,6,7,8,9,10,11,12,13,14,15,16,17,19,18,20,21,22,23,24,26,25,27,28,29,30,31,32,33,34] 35 (.ww r fun ex=>?_)))))))
 have X:=mX (I:=s) hd
 refine .cq call27 X r fun e1 hd=>.so 3 r r r tv (.fk 1 r ?_)
 refine FE hd (fun f hd=>?_) fun f hd=>?_
 · refine .h r (fun _=>.gyes r r f (.lw B6 AE .p1 r .mk)) (.h r (fun _=>.gyes r r f (.lw B6 AE .p2 r .mk)) (.ww r fun ex=>?_))
   have Y:=mZ q p hd
   refine .gyes r r f (.callP call32 r Y r r fun e3 Z=>?_)
   obtain ⟨e4,rfl,hd⟩:=Z
   refine .so 3 r r r tv (.h r (fun _=>.pickT r f r r r .mk) (.fk 1 r ?_))
   refine FE hd (fun g hd=>?_) fun g hd=>?_
   · refine .h r (fun _=>.gyes r r g (.move r r r .mk)) (.h r (fun _=>.gyes r r g (.move r r r .mk)) (.h r (fun _=>.gyes r r g (.eqB underlying4 r r r r .mk)) (.h r (fun _=>.pickT r g r r r .mk) (.fk 1 r ?_))))
     refine FE hd (fun k hd=>?_) fun k hd=>?_
     · refine .h r (fun _=>.gyes r r k (.move r r r .mk)) (.h r (fun _=>.gyes r r k (.move r r r .mk)) (.h r (fun _=>.gyes r r k (.eq r r r r .mk)) (.h r (fun _=>.pickT r k r r r .mk) (.fk 1 r ?_))))
       refine FE hd (fun c hd=>?_) fun c hd=>?_
       · refine .h r (fun _=>.gyes r r c (.lw LS IU .z r .mk)) (.h r (fun _=>.gyes r r c (.lw LS IU .z r .mk)) (.ww r fun ex=>?_))
         have a3:=O4 (I:=s) (a0:=({ a with A:=({ Rows:=a.A.Rows,Cols:=n,Start:=a.A.Start,Col:=a.A.Col,Val:=a.A.Val }:Rows),R:=a2.1,C:=a2.2.1,Room:=a2.2.2.1 }:BF)) e hd
         refine .gyes r r c (.callP call33 r a3 r r fun e5 a4=>?_)
         obtain ⟨e6,rfl,hd⟩:=a4
         refine .so 3 r r r (.ch r (fun _=>.gyes r r c (.lw LS IU .z r .mk)) tv) (.ww r fun ex=>?_)
         have a5:=O6 (I:=s) (a0:=({ a with A:=({ Rows:=a.A.Rows,Cols:=n,Start:=a.A.Start,Col:=a.A.Col,Val:=a.A.Val }:Rows),R:=a2.1,C:=a2.2.1,Room:=a2.2.2.1 }:BF)) e hd
         refine .gyes r r c (.callP call34 r a5 r r fun e7 a6=>?_)
         obtain ⟨e8,rfl,hd⟩:=a6
         refine .so 3 r r r tv (.h r (fun _=>.gyes r r c (.eq r r r r .mk)) (.h r (fun _=>.pickT r c r r r .mk) (.fk 1 r ?_)))
         refine FE hd (fun d hd=>?_) fun d hd=>?_
         · refine .h r (fun _=>.gyes r r d (.lw LS IU .z r .mk)) (.h r (fun _=>.gyes r r d (.lw LS IU .z r .mk)) (.ww r fun ex=>?_))
           have a7:=SI (I:=s) (a0:=({ a with A:=({ Rows:=a.A.Rows,Cols:=n,Start:=a.A.Start,Col:=a.A.Col,Val:=a.A.Val }:Rows),R:=a2.1,C:=a2.2.1,Room:=a2.2.2.1 }:BF)) e hd
           refine .gyes r r d (.callP call35 r a7 r r fun e9 a8=>?_)
           obtain ⟨f0,rfl,hd⟩:=a8
           refine .so 3 r r r (.ch r (fun _=>.gyes r r d (.lw LS IU .z r .mk)) tv) (.ww r fun ex=>?_)
           have a9:=iP (I:=s) (a0:=({ a with A:=({ Rows:=a.A.Rows,Cols:=n,Start:=a.A.Start,Col:=a.A.Col,Val:=a.A.Val }:Rows),R:=a2.1,C:=a2.2.1,Room:=a2.2.2.1 }:BF)) e hd
           refine .gyes r r d (.callP call36 r a9 r r fun f1 b0=>?_)
           obtain ⟨f2,rfl,hd⟩:=b0
           refine .so 3 r r r tv (.h r (fun _=>.gyes r r d (.eq r r r r .mk)) (.h r (fun _=>.pickT r d r r r .mk) (.fk 1 r ?_)))
           refine FE hd (fun u hd=>?_) fun u hd=>?_
           · rw [u]
             exact .fk 4 r (.e2 35 (.kn 1 64 r (.drop .z (.drop .z (.drop .z (.r1 results5 r m ⟨(c5.2.2==c6.2.2),r,hd⟩))))))
           rw [u]
           exact .fk 4 r (.e2 35 (.kn 1 64 r (.drop .z (.drop .z (.drop .z (.r1 results5 r m ⟨false,r,hd⟩))))))
         refine .h r (fun _=>.gno r r d r r .mk) (.h r (fun _=>.gno r r d r r .mk) (.h r (fun _=>.gno r r d r r .mk) (.h r (fun _=>.gno r r d r r .mk) (.h r (fun _=>.gno r r d r r .mk) (.h r (fun _=>.pickF r d r r r .mk) (.fk 5 r (.e2 35 (.kn 1 64 r (.drop .z ?_)))))))))
         exact .drop .z (.drop .z (.r1 results5 r m ⟨false,r,hd⟩))
       refine .h r (fun _=>.gno r r c r r .mk) (.h r (fun _=>.gno r r c r r .mk) (.h r (fun _=>.gno r r c r r .mk) (.h r (fun _=>.gno r r c r r .mk) (.h r (fun _=>.gno r r c r r .mk) (.h r (fun _=>.pickF r c r r r .mk) (.fk 12 r (.e2 35 (.kn 1 64 r (.drop .z ?_)))))))))
       exact .drop .z (.drop .z (.r1 results5 r m ⟨false,r,hd⟩))
     exact .h r (fun _=>.gno r r k r r .mk) (.h r (fun _=>.gno r r k r r .mk) (.h r (fun _=>.gno r r k r r .mk) (.h r (fun _=>.pickF r k r r r .mk) (.fk 19 r (.e2 35 (.kn 1 64 r (.drop .z (.drop .z (.drop .z (.r1 results5 r m ⟨false,r,hd⟩))))))))))
   exact .h r (fun _=>.gno r r g r r .mk) (.h r (fun _=>.gno r r g r r .mk) (.h r (fun _=>.gno r r g r r .mk) (.h r (fun _=>.pickF r g r r r .mk) (.fk 24 r (.e2 35 (.kn 1 64 r (.drop .z (.drop .z (.drop .z (.r1 results5 r m ⟨false,r,hd⟩))))))))))
 exact .h r (fun _=>.gno r r f r r .mk) (.h r (fun _=>.gno r r f r r .mk) (.h r (fun _=>.gno r r f r r .mk) (.h r (fun _=>.pickF r f r r r .mk) (.fk 29 r (.e2 35 (.kn 1 64 r (.drop .z (.drop .z (.drop .z (.r1 results5 r m ⟨false,r,hd⟩))))))))))
end Go.Proofs.YtbohadngdkjljaaGreat
