/- The walks (printed by a program of ours). -/
import Derived.Test.YtbohadngdkjljaaGreatV3
namespace Go.Proofs.YtbohadngdkjljaaGreat
open Go Go.Fw
set_option linter.unusedVariables false
set_option linter.unusedSimpArgs false
set_option maxRecDepth 8000
set_option maxHeartbeats 1000000
open Tryz
variable {I:IH}
variable {b2 b3 b4 b5 b6 b7 b8 b9 c2 c3 c4 c5 c6 c7 c8 c9 lr b10 b11 b12 b13 b18 b19 b20 b21 b35 b36 b37 b38 b39 b40 b41 b42 b43 b54 b59 c10 c11 c12 c13 c14 c15 c16 c17 c18 c19 c20 c21 c22 c23 c24 c25 c26 c27 c28 c29 c30 c31 c32 c33 c34 c35 c36 c37 c38 c39 c41 c42 c43 c44 c45 c46 c47 c48 c49 c50 c51 c52 c54 c55 c57 c60 c63 c66 c69 c72 c75 c78:Nat}
variable {p1 p2 p3 p4 p5 p6 p7 p8 p9 p10 p11 p12 p13 p14 p15 p16 p17 p18 p19 p20 p21 p22 p23 p24 p25 p26 p27 p28 p29 p30 p31 p32 p33 p34 p35 p36 p37 p38 p40 p41 p42 p43 p44 p45 p46 p47 p48 p49 p50 p51 p53 p54 p56 p59 p62 p65 p68 p71 p74 p77:Option Addr}
variable {Rr:Nat→HA}
theorem NX {a0 a1:Int} {Q:Int→Prop} (hd:IJ a0 a1 Q) :
  BZ prog 56 [.int .i64 a0,.int .i64 a1] I (fun _=>hZ Q):=by
 refine Fun.en func56 ntmps56 r fun w0 M=>?_
 refine .sr (.kn 1 [1,0] r (.seq (.sk 3 r ?_)))
 refine AL hd (fun a hd=>?_) fun a hd=>?_
 · rw [a]
   exact .kn 3 [10,1,0] r (.condKT r r (.sr (.kn 1 [4] r (.r0 results56 r ⟨0,r,hd⟩))))
 rw [a]
 refine .kn 3 [10,1,0] r (.condP r hd (fun b hd=>?_) fun b hd=>?_)
 · exact .sr (.kn 1 [4] r (.r0 results56 r ⟨0,r,hd⟩))
 refine .sn [1,0] r (.sk 2 r ?_)
 obtain ⟨c,hd⟩:=hd
 exact .rem r r c r r (.kn 1 [4] r (.r0 results56 r ⟨(a0.tmod a1),r,hd⟩))
theorem YD {a0:GX} {a1:Int} {Q:(List FU)→Prop} (R3:RepSl XL I p1 c2 a0.L) (hd:IP a0 a1 Q) :
  BZ prog 18 [.agg #[.slice p1 a0.L.length c2,.int .u8 a0.Windows],.int .i64 a1] I (fun I_ v=>∃ r p4 c5,v=.slice p4 r.length c5∧RepSl XL I_ p4 c5 r∧Q r):=by
 refine Fun.en func18 ntmps18 r fun w0 M=>?_
 refine .sr (.bx r fun b9=>?_)
 refine .ks 1 r (.nk [2,1] 1 r (.no [5,2,1] r (.seq (.sr (.kn 1 [6,5,2,1] r (.block (.own0 XL 47 (.lx hd [2,1] [1] r (fun j E l (a,f)=>fun c w=>∃ g h,j ⟨48,[],none⟩ (fun I_=>True) ((5,.slice g a.length h) :: (6,.int .i64 f) :: E) (OwnSl XL 47 g h a :: l) c w) (fun c w ho hs=>⟨_,_,jf rf trivial [0,0] r ho hs⟩) ?_))))))))
 rintro ⟨a,f⟩ S hd c w ⟨g,h,d,b,_,hok,hsym⟩
 have R3:=b.u1 R3
 refine Cod.at hok hsym (.seq (.sk 2 r (.lo isAgg26 .p1 r (.ln ZZ r (.ks 2 r ?_)))))
 refine AL hd (fun e hd=>?_) fun e hd=>?_
 · rw [e]
   refine .kn 3 [16,6,5,2,1] r (.condP r hd (fun s hd=>?_) fun s hd=>?_)
   · refine .sn [6,5,2,1] r (.seq (.block (.sk 1 r (.lo isAgg26 .p1 r (.ks 1 r ?_)))))
     obtain ⟨k,U,i,hd⟩:=hd
     obtain ⟨V,o173,T,O,t,u⟩:=R3.2 _ _ i
     cases u
     refine .ixa ZZ WA r O r k (AH i k) r r (.ldW jW WA t r r r r (.al sS r fun W=>?_))
     refine .sa WA .z r (.nk [7,6,5,2,1] 1 r (.lo isAgg45 .z r ?_))
     have x:=NX (I:=d) hd
     refine .cq call56 x r fun m hd=>?_
     refine .ks 2 r (.s1 sizeOf45 .z r (.nk [7,6,5,2,1] 1 r (.lo BL .z r (.ks 1 r ?_))))
     have y:=NX (I:=d) hd
     refine .cq call56 y r fun o hd=>?_
     refine .ks 1 r (.s1 FI .z r (.nk [7,6,5,2,1] 1 r (.lo BL .z r (.ks 1 r ?_))))
     have C:=NX (I:=d) hd
     refine .cq call56 C r fun p hd=>?_
     refine .ks 1 r (.s1 FI .z r (.nk [7,6,5,2,1] 1 r (.lo BL .z r ?_)))
     have D:=NX (I:=d) hd
     refine .cq call56 D r fun q hd=>?_
     refine .ks 1 r (.s1 FI .z r (.no [7,6,5,2,1] r (.region (.ks 1 r (.lw jW WA .z r (.buildSlice 1 ZZ WA sS r r (.c r r r .n) r r fun X=>?_))))))
     obtain ⟨F,hd⟩:=hd
     refine .append (ys:=[({ Kind:=AJ (m+1),A:=o,B:=p,K:=q }:FU)]) 32 .p2 ZZ ZZ Af5 r r r r r r r r r (.box .z (.one r) r) F r r fun Y Z=>?_
     exact .kn 1 [5,6,2,1] r (.drop .p1 (.drop .p1 (.region (.ks 3 r (.nil' fun c w ho hs=>⟨((a++([({ Kind:=AJ (m+1),A:=o,B:=p,K:=q }:FU)])),AJ (f+1)),hd,_,_,jf b trivial [0,0] r ho hs⟩)))))
   refine .en [5] r (.drop .p1 (.sr (.kn 2 [4] r (.pub .z fun a2 G P=>?_))))
   have H:=G.u1 b
   exact .r1 results18 r H ⟨a,_,_,r,P,hd⟩
 rw [e]
 refine .kn 3 [16,6,5,2,1] r (.condKF r r (.en [5] r (.drop .p1 (.sr (.kn 2 [4] r (.pub .z fun a3 J R=>?_))))))
 have N:=J.u1 b
 exact .r1 results18 r N ⟨a,_,_,r,R,hd⟩
theorem UL {a0:Int} {Q:Int→Prop} (hd:MN a0 Q) :
  BZ prog 132 [.int .u8 a0] I (fun I_ v=>∃ r,v=.int .u8 r∧Q r):=by
 refine Fun.en func132 ntmps132 r fun w0 M=>?_
 exact .sk 1 r (.nk [0] 1 r (.rem r r (by decide) r r (.kn 1 [2] r (.r0 results132 r ⟨(a0.tmod 14),r,hd⟩))))
theorem ZQ {a0:Int} {Q:Int→Prop} (hd:PR a0 Q) :
  BZ prog 68 [.int .i64 a0] I (fun _=>hZ Q):=by
 refine Fun.en func68 ntmps68 r fun w0 M=>?_
 refine .sr (.kn 1 [0] r (.seq (.sk 3 r ?_)))
 refine AL hd (fun a hd=>?_) fun a hd=>?_
 · rw [a]
   exact .kn 3 [8,0] r (.condKT r r (.sr (.kn 1 [2] r (.r0 results68 r ⟨1,r,hd⟩))))
 rw [a]
 refine .kn 3 [8,0] r (.condP r hd (fun b hd=>?_) fun b hd=>?_)
 · exact .sr (.kn 1 [2] r (.r0 results68 r ⟨1,r,hd⟩))
 exact .sn [0] r (.sr (.kn 2 [2] r (.r0 results68 r ⟨a0,r,hd⟩)))
theorem dA {a0:Int} {Q:Int→Prop} (hd:SI a0 Q) :
  BZ prog 258 [.int .u8 a0] I (fun _=>hZ Q):=by
 refine Fun.en func258 ntmps258 r fun w0 M=>?_
 exact .sk 1 r (.nk [0] 1 r (.conv un5 ZY r r r (.rem r r (by decide) r r (.kn 1 [2] r (.r0 results258 r ⟨((AJ (a0)).tmod 40),r,hd⟩)))))
theorem rR {a0:List AC} {Q:(List AC)→Prop} (R3:RepSl AW I p1 c2 a0) (hd:YN a0 Q) :
  BZ prog 259 [.slice p1 a0.length c2] I (AeP Q):=by
 refine Fun.en func259 ntmps259 r fun w0 M=>?_
 refine .sr (.kn 1 [0] r (.seq (.sk 1 r (.ln ER r (.kn 1 [5,0] r (.condP r hd (fun c hd=>?_) fun c hd=>?_))))))
 · refine .region (.ks 1 r ?_)
   obtain ⟨j,k,g,hd⟩:=hd
   have a:Int.toNat 0≤Int.toNat 60:=by omega
   have b:Int.toNat 60≤a0.length:=by omega
   obtain ⟨h,i,d,e,f⟩:=RepSl.sliceW R3 (Int.toNat 0) (Int.toNat 60) c2 a b (.inl rfl)
   exact .sliceW (L:=Int.toNat 0) (H:=Int.toNat 60) (cm:=c2) ER ES r r R3.1 r r r (.inl ⟨r,r⟩) (.inr ⟨_,_,r,(by omega),r⟩) (.inl r) a b r d e r r (.ks 1 r (.nk [0] 2 r (.no [2] r (.r0 results259 r ⟨((a0.take (Int.toNat 60)).drop (Int.toNat 0)),_,_,r,f,hd⟩))))
 exact .sn [0] r (.sr (.kn 2 [2] r (.r0 results259 r ⟨a0,_,_,r,R3,hd⟩)))
theorem oM {a0:Int×Int} {a1:List AC} {Q:Rows→Prop} (R3:RepSl AW I p1 c2 a1) (hd:VX a0 a1 Q) :
  BZ prog 209 [.agg #[.int .u8 a0.1,.int .u8 a0.2],.slice p1 a1.length c2] I (o7_ Q):=by
 refine Fun.en func209 ntmps209 r fun w0 M=>?_
 refine .sr (.bx r fun f6=>?_)
 refine .al DH r fun f7=>?_
 refine .no [4,2,1] r (.seq (.dr [0,1,3,4,2,5,6] 7 (.h r (fun _=>.ixArr (i:=0) wP yB r r (by decide) (o:=0) r r r .mk) (.h r (fun _=>.lo sR .p1 r .mk) (.h r (fun _=>.ixArr (i:=1) wP yB r r (by decide) (o:=1) r r r .mk) (.h r (fun _=>.lo sR .p1 r .mk) (.ww r fun ex=>?_)))))))
 have b5:=dA (I:=I) hd
 refine .cq call258 b5 r fun b3 hd=>?_
 refine .so 2 r r r (.ch r (fun _=>.lo sR .p1 r .mk) (.ch r (fun _=>.ixArr (i:=1) wP yB r r (by decide) (o:=1) r r r .mk) trivial)) (.ww r fun ex=>?_)
 have b6:=dA (I:=I) hd
 refine .cq call258 b6 r fun b4 hd=>?_
 refine .so 2 r r r trivial (.fk 1 r (.e2 7 (.kn 1 [6,5,4,1] r (.drop .p1 (.sk 1 r (.nk [7,6,5,4,1] 1 r ?_))))))
 have b7:=rR (I:=I) R3 hd
 refine .call call259 r b7 r r fun f8 f9 B b8=>?_
 obtain ⟨g0,g1,g2,rfl,C,hd⟩:=b8
 have R3:=B.u1 R3
 refine .kn 1 [1,7,6,5,4] r (.seq (.sr (.kn 1 [8,1,7,6,5,4] r (.block (.own0 AW 103 (.lx hd [6,5,4,1] [1] r (fun j E l (b,d)=>fun c w=>∃ p q,j ⟨73,[],none⟩ (fun I_=>True) ((7,.slice p b.length q) :: (8,.int .i64 d) :: E) (OwnSl AW 103 p q b :: l) c w) (fun c w ho hs=>⟨_,_,jf rf trivial [0,0] r ho hs⟩) ?_))))))
 rintro ⟨b,d⟩ c6 hd c w ⟨p,q,c9,a,_,hok,hsym⟩
 obtain ⟨F,C⟩:=a.u2 B C
 refine Cod.at hok hsym (.seq (.sk 2 r (.ln ER r (.kn 1 [23,8,7,6,5,4,1] r (.condP r hd (fun G hd=>?_) fun G hd=>?_)))))
 · refine .sn [8,7,6,5,4,1] r (.seq (.block (.sk 2 r ?_)))
   obtain ⟨D,e,y,hd⟩:=hd
   obtain ⟨d0,o331,c7,b9,H,J⟩:=C.2 _ _ y
   cases J
   refine .ixa ER ES r b9 r D (AH y D) r r (.ldW isAgg103 ES H r r r r (.al LC r fun d1=>?_))
   refine .sa ES .z r (.no [9,8,7,6,5,4,1] r (.seq (.sk 1 r (.lo BL .z r (.ks 2 r ?_)))))
   refine AL hd (fun g hd=>?_) fun g hd=>?_
   · rw [g]
     exact .kn 12 [45,9,8,7,6,5,4,1] r (.condKT r r (.en [8,7,6,5,4,1] r (.drop .z (.region (.ks 3 r (.nil' fun c w ho hs=>⟨(b,AJ (d+1)),hd,_,_,jf a trivial [0,0] r ho hs⟩))))))
   rw [g]
   refine .ks 1 r (.yes r (.lo BL .z r (.ks 3 r ?_)))
   refine AL hd (fun k hd=>?_) fun k hd=>?_
   · rw [k]
     exact .kn 7 [45,9,8,7,6,5,4,1] r (.condKT r r (.en [8,7,6,5,4,1] r (.drop .z (.region (.ks 3 r (.nil' fun c w ho hs=>⟨(b,AJ (d+1)),hd,_,_,jf a trivial [0,0] r ho hs⟩))))))
   rw [k]
   refine .ks 4 r ?_
   refine AL hd (fun m hd=>?_) fun m hd=>?_
   · rw [m]
     exact .kn 3 [45,9,8,7,6,5,4,1] r (.condKT r r (.en [8,7,6,5,4,1] r (.drop .z (.region (.ks 3 r (.nil' fun c w ho hs=>⟨(b,AJ (d+1)),hd,_,_,jf a trivial [0,0] r ho hs⟩))))))
   rw [m]
   refine .kn 3 [45,9,8,7,6,5,4,1] r (.condP r hd (fun K hd=>?_) fun K hd=>?_)
   · exact .en [8,7,6,5,4,1] r (.drop .z (.region (.ks 3 r (.nil' fun c w ho hs=>⟨(b,AJ (d+1)),hd,_,_,jf a trivial [0,0] r ho hs⟩))))
   refine .sn [9,8,7,6,5,4,1] r (.sk 1 r (.lo BL .z r (.ks 1 r ?_)))
   obtain ⟨L,hd⟩:=hd
   refine .rem r r L r r (.ks 1 r (.s1 FI .z r (.nk [9,8,7,6,5,4,1] 1 r (.lo BL .z r (.ks 1 r ?_)))))
   obtain ⟨N,hd⟩:=hd
   refine .rem r r N r r (.ks 1 r (.s1 FI .z r (.no [9,8,7,6,5,4,1] r (.region (.ks 1 r (.lw isAgg103 ES .z r (.buildSlice 1 ER ES LC r r (.c r r r .n) r r fun d2=>?_)))))))
   obtain ⟨O,hd⟩:=hd
   refine .append (ys:=[({ Row:=e.Row.tmod b3,Col:=e.Col.tmod b4,Val:=e.Val }:AC)]) 24 .p2 ER ER bO r r r r r r r r r (.box .z (.one r) r) O r r fun d3 d4=>?_
   exact .kn 1 [7,8,6,5,4,1] r (.drop .p1 (.drop .p1 (.region (.ks 3 r (.nil' fun c w ho hs=>⟨((b++([({ Row:=e.Row.tmod b3,Col:=e.Col.tmod b4,Val:=e.Val }:AC)])),AJ (d+1)),hd,_,_,jf a trivial [0,0] r ho hs⟩)))))
 refine .en [7,6,5,4] r (.sk 3 r (.pub .z fun c0 P s=>?_))
 obtain ⟨R,S⟩:=P.u2 F a
 have T:=aN (I:=c0) s hd
 refine .call call60 r T r r fun d5 c1 U V=>?_
 obtain ⟨c3,d6,d7,d8,d9,e0,e1,rfl,t,u,v,hd⟩:=V
 obtain ⟨A,W,s⟩:=U.u3 R S s
 refine .ks 3 r (.al DH r fun e3=>?_)
 refine .sa AU .z r (.kn 1 [11,10,6,5,4] r (.seq (.sr (.kn 2 [68,10,6,5,4] r (.condP r hd (fun X hd=>?_) fun X hd=>?_)))))
 · refine .sk 2 r ?_
   have Y:=UF (I:=c1) hd
   refine .callO call128 r Y r r fun e4 e5 e6 Z a2=>?_
   obtain ⟨c4,e7,e8,e9,f0,f1,f2,rfl,rfl,hd⟩:=a2
   obtain ⟨a3,a4,t,u,v⟩:=Z.u5 A W t u v
   refine .sa AU .p4 r (.no [4] r (.drop .p3 (.pub .z fun f3 a5 f=>?_)))
   obtain ⟨a6,a7⟩:=a5.u2 a3 a4
   refine .pub .z fun f4 a8 x=>?_
   obtain ⟨a9,b0,f⟩:=a8.u3 a6 a7 f
   refine .pub .z fun f5 b1 c5=>?_
   obtain ⟨b2,c8,f,x⟩:=b1.u4 a9 b0 f x
   exact .ret (BO results209 (.w BQ AU r .z r .n) b2 ⟨c4,_,_,_,_,_,_,r,f,x,c5,hd⟩)
 exact .sn [10,4] r (.sr (.lw BQ AU .z r (.sa AU .p1 r (.no [4] r (.drop .z (.ret (BO results209 (.w BQ AU r .z r .n) A ⟨c3.1,_,_,_,_,_,_,r,t,u,v,hd⟩)))))))
theorem kI {a0 a1:Int} {Q:Int→Prop} (hd:TN a0 a1 Q) :
  BZ prog 260 [.int .i64 a0,.int .i64 a1] I (fun _=>hZ Q):=by
 refine Fun.en func260 ntmps260 r fun w0 M=>?_
 refine .sk 1 r (.nk [1,0] 1 r (.no [5,1] r (.block (.sr (.kn 2 [12,5,1] r (.condP r hd (fun a hd=>?_) fun a hd=>?_))))))
 · exact .sr (.kn 2 [4] r (.r0 results260 r ⟨a1,r,hd⟩))
 refine .sr (.kn 2 [15,1] r (.condP r hd (fun b hd=>?_) fun b hd=>?_))
 · exact .sr (.kn 3 [4] r (.r0 results260 r ⟨(oP .i64 a1 1),r,hd⟩))
 refine .sr (.kn 3 [1] r (.seq (.sk 1 r (.rem r r (by decide) r r (.kn 1 [10,1] r (.condP r hd (fun c hd=>?_) fun c hd=>?_))))))
 · exact .sr (.kn 1 [4] r (.r0 results260 r ⟨4611686018427387904,r,hd⟩))
 exact .sn [1] r (.sr (.kn 2 [4] r (.r0 results260 r ⟨(oP .i64 a1 4611686018427387903),r,hd⟩)))
theorem jT {a0 a1:Int} {Q:Int→Prop} (hd:QU a0 a1 Q) :
  BZ prog 210 [.int .i64 a0,.int .i64 a1] I (fun _=>hZ Q):=by
 refine Fun.en func210 ntmps210 r fun w0 M=>?_
 refine .sr (.kn 1 [1,0] r (.seq (.sr (.kn 2 [6,1,0] r (.condP r hd (fun a hd=>?_) fun a hd=>?_)))))
 · exact .sk 1 r (.rem r r (by decide) r r (.kn 1 [4] r (.r0 results210 r ⟨(a1.tmod 2147483648),r,hd⟩)))
 refine .sn [1,0] r (.sk 2 r ?_)
 have b:=kI (I:=I) hd
 refine .cq call260 b r fun c hd=>?_
 exact .kn 1 [4] r (.r0 results210 r ⟨c,r,hd⟩)
theorem LG {a0:II} {Q:Rows→Prop} (R3:RepSl AW I p1 c2 a0.L) (R6:RepSl MJ I p4 c5 a0.X) (R9:RepSl MJ I p7 c8 a0.Y) (R12:RepSl Af4 I p10 c11 a0.F) (hd:FK a0 Q) :
  BZ prog 133 [.agg #[.int .i64 a0.Ring,.int .u8 a0.Size.1,.int .u8 a0.Size.2,.slice p1 a0.L.length c2,.slice p4 a0.X.length c5,.slice p7 a0.Y.length c8,.slice p10 a0.F.length c11,.bool a0.Others]] I (fun I_ v=>∃ r p13 c14 p16 c17 p19 c20,v=.agg #[.int .i64 r.Rows,.int .i64 r.Cols,.slice p13 r.Start.length c14,.slice p16 r.Col.length c17,.slice p19 r.Val.length c20]∧RepSl AE I_ p13 c14 r.Start∧RepSl AE I_ p16 c17 r.Col∧RepSl AE I_ p19 c20 r.Val∧Q r):=by
 refine Fun.en func133 ntmps133 r fun w0 M=>?_
 refine .sr (.bx r fun a3=>?_)
 refine .al DH r fun a4=>?_
 refine .nk [2,1] 1 r (.loadA isAgg25 sizeOf25 r .p1 (.o 2 r) r r r (.ks 1 r (.lo isAgg54 .p1 r ?_)))
 have G:=oM (I:=I) R3 hd
 refine .call call209 r G r r fun a5 R m H=>?_
 obtain ⟨i,a6,a7,a8,a9,b0,b1,rfl,d,e,p,hd⟩:=H
 obtain ⟨R3,R6,R9,R12⟩:=m.u4 R3 R6 R9 R12
 refine .al DH r fun b2=>?_
 refine .sa AU .z r (.nk [3,2,1] 1 r (.lo aB .p2 r ?_))
 have J:=ZQ (I:=R) hd
 refine .cq call68 J r fun b3 hd=>?_
 refine .kn 1 [4,3,2] r (.drop .p2 (.sr (.kn 1 [5,4,3,2] r (.seq (.sr (.kn 1 [6,5,4,3,2] r (.block (.own0 AE 2 (.lx hd [4,3,2] [2,1] r (fun j E l (a,f)=>fun c w=>∃ g h,j ⟨35,[],none⟩ (fun I_=>True) ((5,.slice g a.length h) :: (6,.int .i64 f) :: E) (OwnSl AE 2 g h a :: l) c w) (fun c w ho hs=>⟨_,_,jf rf trivial [0,1,0] r ho hs⟩) ?_)))))))))
 rintro ⟨a,f⟩ P hd c w ⟨g,h,K,b,_,hok,hsym⟩
 obtain ⟨t,d,e,p⟩:=b.u4 m d e p
 refine Cod.at hok hsym (.seq (.sk 2 r (.lo fL .p2 r (.ln TC r (.kn 1 [19,6,5,4,3,2] r (.condP r hd (fun u hd=>?_) fun u hd=>?_))))))
 · refine .sn [6,5,4,3,2] r (.seq (.block (.region (.ks 3 r (.lo fL .p2 r (.ks 1 r ?_))))))
   obtain ⟨q,U,k,hd⟩:=hd
   obtain ⟨V,o148,S,N,x,y⟩:=p.2 _ _ k
   cases y
   refine .ixa TC uZ r N r q (AH k q) r r (.ld1 (j:=0) XC x r r r r r ?_)
   have A:=jT (I:=K) hd
   refine .cq call210 A r fun s hd=>?_
   refine .buildSlice 1 TC uZ zeroValue2 r r (.c r r r .n) r r fun W=>?_
   obtain ⟨B,hd⟩:=hd
   refine .append (ys:=[s]) 8 .p1 TC TC IN2 r r r r r r r r r (.box .z (.one r) r) B r r fun Z a1=>?_
   exact .kn 1 [5,6,4,3,2] r (.drop .p1 (.region (.ks 3 r (.nil' fun c w ho hs=>⟨((a++([s])),AJ (f+1)),hd,_,_,jf b trivial [0,0,0] r ho hs⟩))))
 refine .en [5,3,2] r (.sk 2 r (.s1 sizeOf31 .p2 r (.ns [3,2] r (.lw BQ AU .p2 r (.sa AU .p1 r (.no [2] r (.drop .p2 (.pub .z fun a2 C O=>?_))))))))
 obtain ⟨D,T,d,e⟩:=C.u4 t b d e
 exact .ret (BO results133 (.w BQ AU r .z r .n) D ⟨({ Rows:=i.Rows,Cols:=i.Cols,Start:=i.Start,Col:=i.Col,Val:=a }:Rows),_,_,_,_,_,_,r,d,e,O,hd⟩)
theorem aW {a0:OI} {Q:(Rows×Rows×Rows)→Prop} (R3:RepSl AW I p1 c2 a0.A) (R6:RepSl AW I p4 c5 a0.B) (R9:RepSl AW I p7 c8 a0.M) (hd:KS a0 Q) :
  BZ prog 67 [.agg #[.int .i64 a0.Ring,.int .u8 a0.Size.1,.int .u8 a0.Size.2.1,.int .u8 a0.Size.2.2,.slice p1 a0.A.length c2,.slice p4 a0.B.length c5,.slice p7 a0.M.length c8]] I (fun I_ v=>∃ r p10 c11 p13 c14 p16 c17 p19 c20 p22 c23 p25 c26 p28 c29 p31 c32 p34 c35,v=.agg #[.int .i64 r.1.Rows,.int .i64 r.1.Cols,.slice p10 r.1.Start.length c11,.slice p13 r.1.Col.length c14,.slice p16 r.1.Val.length c17,.int .i64 r.2.1.Rows,.int .i64 r.2.1.Cols,.slice p19 r.2.1.Start.length c20,.slice p22 r.2.1.Col.length c23,.slice p25 r.2.1.Val.length c26,.int .i64 r.2.2.Rows,.int .i64 r.2.2.Cols,.slice p28 r.2.2.Start.length c29,.slice p31 r.2.2.Col.length c32,.slice p34 r.2.2.Val.length c35]∧RepSl AE I_ p10 c11 r.1.Start∧RepSl AE I_ p13 c14 r.1.Col∧RepSl AE I_ p16 c17 r.1.Val∧RepSl AE I_ p19 c20 r.2.1.Start∧RepSl AE I_ p22 c23 r.2.1.Col∧RepSl AE I_ p25 c26 r.2.1.Val∧RepSl AE I_ p28 c29 r.2.2.Start∧RepSl AE I_ p31 c32 r.2.2.Col∧RepSl AE I_ p34 c35 r.2.2.Val∧Q r):=by
 refine Fun.en func67 ntmps67 r fun w0 M=>?_
 refine .sr (.bx r fun b2=>?_)
 refine .al zeroValue113 r fun b3=>?_
 refine .no [2,1] r (.seq (.dr [0,1,2,4,5,6,8,9,10,3,7,11,12,13] 14 (.fk 1 r (.h r (fun _=>.ixArr (i:=0) wQ yB r r (by decide) (o:=1) r r r .mk) (.h r (fun _=>.lo sR .p1 r .mk) (.fk 1 r (.h r (fun _=>.ixArr (i:=1) wQ yB r r (by decide) (o:=2) r r r .mk) (.h r (fun _=>.lo sR .p1 r .mk) (.fk 1 r ?_)))))))))
 refine .h r (fun _=>.ixArr (i:=2) wQ yB r r (by decide) (o:=3) r r r .mk) (.h r (fun _=>.lo sR .p1 r .mk) (.ww r fun ex=>?_))
 have C:=UL (I:=I) hd
 refine .cq call132 C r fun u hd=>?_
 refine .so 2 r r r (.ch r (fun _=>.lo sR .p1 r .mk) (.ch r (fun _=>.ixArr (i:=2) wQ yB r r (by decide) (o:=3) r r r .mk) (.ck 1 r r (.ch r (fun _=>.lo sR .p1 r .mk) (.ch r (fun _=>.ixArr (i:=1) wQ yB r r (by decide) (o:=2) r r r .mk) (.ck 1 r r trivial)))))) (.ww r fun ex=>?_)
 have D:=UL (I:=I) hd
 refine .cq call132 D r fun x hd=>?_
 refine .so 2 r r r (.ch r (fun _=>.lo sR .p1 r .mk) (.ch r (fun _=>.ixArr (i:=2) wQ yB r r (by decide) (o:=3) r r r .mk) (.ck 1 r r trivial))) (.ww r fun ex=>?_)
 have E:=UL (I:=I) hd
 refine .cq call132 E r fun y hd=>?_
 refine .so 2 r r r trivial (.fk 2 r (.e2 14 (.ks 1 r (.nk [5,4,3,2,1] 1 r (.lo aB .p1 r (.ks 2 r (.buildArr zeroValue25 wP yB (.c r r r (.o r) (.c r r r (.o r) .n)) r r (.ks 1 r (.lo isAgg54 .p1 r ?_)))))))))
 refine .build kZ underlying183 yZ (.c r r r (.o r) (.c r r r (.o r) (.c r r r (.o r) .n))) (by exact ⟨⟨_,_,r,r,r⟩,⟨⟨_,_,r,r,r⟩,⟨⟨_,_,r,r,r⟩,trivial⟩⟩⟩) r r (.al kZ r fun b4=>?_)
 refine .sa sizeOf183 .z r (.nk [6,5,4,3,2,1] 1 r (.lo aB .p2 r (.ks 2 r (.buildArr zeroValue25 wP yB (.c r r r (.o r) (.c r r r (.o r) .n)) r r (.ks 1 r (.lo isAgg54 .p2 r (.build kZ underlying183 yZ (.c r r r (.o r) (.c r r r (.o r) (.c r r r (.o r) .n))) (by exact ⟨⟨_,_,r,r,r⟩,⟨⟨_,_,r,r,r⟩,⟨⟨_,_,r,r,r⟩,trivial⟩⟩⟩) r r (.al kZ r fun b5=>?_))))))))
 refine .sa sizeOf183 .z r (.nk [7,6,5,3,2,1] 1 r (.lo aB .p3 r (.ks 2 r (.buildArr zeroValue25 wP yB (.c r r r (.o r) (.c r r r (.o r) .n)) r r (.ks 1 r (.lo isAgg54 .p3 r (.build kZ underlying183 yZ (.c r r r (.o r) (.c r r r (.o r) (.c r r r (.o r) .n))) (by exact ⟨⟨_,_,r,r,r⟩,⟨⟨_,_,r,r,r⟩,⟨⟨_,_,r,r,r⟩,trivial⟩⟩⟩) r r (.al kZ r fun b6=>?_))))))))
 refine .sa sizeOf183 .z r (.no [8,7,6,2] r (.drop .p4 (.seq (.dr [0,2,4,1,3,5,6] 7 (.h r (fun _=>.lw isAgg183 sizeOf183 .p2 r .mk) (.h r (fun _=>.lw isAgg183 sizeOf183 .p1 r .mk) (.h r (fun _=>.lw isAgg183 sizeOf183 .z r .mk) (.ww r fun ex=>?_))))))))
 have G:=LG (I:=I) (a0:=({ Ring:=a0.Ring,Size:=(u,x),L:=a0.A,X:=([]:List CF),Y:=([]:List CF),F:=([]:List Int),Others:=false }:II)) R3 (.nil _ none 0) (.nil _ none 0) (.nil _ none 0) hd
 refine .call call133 r G r r fun b7 R k H=>?_
 obtain ⟨S,b8,b9,c0,c1,c3,c4,rfl,a,b,d,hd⟩:=H
 obtain ⟨R3,R6,R9⟩:=k.u3 R3 R6 R9
 refine .so 4 r r r (.ch r (fun _=>.lw isAgg183 sizeOf183 .z r .mk) (.ch r (fun _=>.lw isAgg183 sizeOf183 .p1 r .mk) trivial)) (.ww r fun ex=>?_)
 have m:=LG (I:=R) (a0:=({ Ring:=a0.Ring,Size:=(x,y),L:=a0.B,X:=([]:List CF),Y:=([]:List CF),F:=([]:List Int),Others:=false }:II)) R6 (.nil _ none 0) (.nil _ none 0) (.nil _ none 0) hd
 refine .call call133 r m r r fun c6 T l J=>?_
 obtain ⟨U,V,W,Z,a1,a2,a3,rfl,e,f,g,hd⟩:=J
 obtain ⟨p,R3,R6,R9,a,b⟩:=l.u6 k R3 R6 R9 a b
 have d:=l.u1 d
 refine .so 4 r r r (.ch r (fun _=>.lw isAgg183 sizeOf183 .z r .mk) trivial) (.ww r fun ex=>?_)
 have q:=LG (I:=T) (a0:=({ Ring:=a0.Ring,Size:=(u,y),L:=a0.M,X:=([]:List CF),Y:=([]:List CF),F:=([]:List Int),Others:=false }:II)) R9 (.nil _ none 0) (.nil _ none 0) (.nil _ none 0) hd
 refine .call call133 r q r r fun a4 a5 j s=>?_
 obtain ⟨K,a6,a7,a8,a9,b0,b1,rfl,N,O,P,hd⟩:=s
 obtain ⟨t,R3,R6,R9,a,b⟩:=j.u6 p R3 R6 R9 a b
 obtain ⟨d,e,f,g⟩:=j.u4 d e f g
 exact .so 4 r r r trivial (.h r (fun _=>.buildArr zeroValue113 iA AU (.c r r r (.o r) (.c r r r (.o r) (.c r r r (.o r) .n))) r r .mk) (.e2 7 (.sa sizeOf113 .p3 r (.no [2] r (.drop .z (.drop .z (.drop .z (.ret (BO results67 (.w isAgg113 sizeOf113 r .z r .n) t ⟨(S,U,K),_,_,_,_,_,_,_,_,_,_,_,_,_,_,_,_,_,_,r,a,b,d,e,f,g,N,O,P,hd⟩)))))))))
theorem dB {a0:KC} {Q:BD→Prop} (R3:RepSl AW I p1 c2 a0.T.A) (R6:RepSl AW I p4 c5 a0.T.B) (R9:RepSl AW I p7 c8 a0.T.M) (hd:LY a0 Q) :
  BZ prog 21 [.agg #[.int .i64 a0.T.Ring,.int .u8 a0.T.Size.1,.int .u8 a0.T.Size.2.1,.int .u8 a0.T.Size.2.2,.slice p1 a0.T.A.length c2,.slice p4 a0.T.B.length c5,.slice p7 a0.T.M.length c8,.int .u8 a0.R,.int .u8 a0.C,.int .u8 a0.Room]] I (fun I_ v=>∃ r p10 c11 p13 c14 p16 c17 p19 c20 p22 c23 p25 c26 p28 c29 p31 c32 p34 c35,v=.agg #[.int .i64 r.Ring,.int .i64 r.A.Rows,.int .i64 r.A.Cols,.slice p10 r.A.Start.length c11,.slice p13 r.A.Col.length c14,.slice p16 r.A.Val.length c17,.int .i64 r.B.Rows,.int .i64 r.B.Cols,.slice p19 r.B.Start.length c20,.slice p22 r.B.Col.length c23,.slice p25 r.B.Val.length c26,.int .i64 r.Mask.Rows,.int .i64 r.Mask.Cols,.slice p28 r.Mask.Start.length c29,.slice p31 r.Mask.Col.length c32,.slice p34 r.Mask.Val.length c35,.int .i64 r.R,.int .i64 r.C,.int .i64 r.Room]∧RepSl AE I_ p10 c11 r.A.Start∧RepSl AE I_ p13 c14 r.A.Col∧RepSl AE I_ p16 c17 r.A.Val∧RepSl AE I_ p19 c20 r.B.Start∧RepSl AE I_ p22 c23 r.B.Col∧RepSl AE I_ p25 c26 r.B.Val∧RepSl AE I_ p28 c29 r.Mask.Start∧RepSl AE I_ p31 c32 r.Mask.Col∧RepSl AE I_ p34 c35 r.Mask.Val∧Q r):=by
 refine Fun.en func21 ntmps21 r fun w0 M=>?_
 refine .sr (.bx r fun O=>?_)
 refine .al pO r fun P=>?_
 refine .nk [2,1] 1 r (.loadA isAgg56 sizeOf56 r .p1 (.o 7 r) r r r ?_)
 have d:=aW (I:=I) R3 R6 R9 hd
 refine .call call67 r d r r fun S q a f=>?_
 obtain ⟨b,U,V,W,X,Y,Z,a1,a2,a3,y,D,E,F,G,H,J,K,L,rfl,s,t,u,x,g,j,k,l,m,hd⟩:=f
 obtain ⟨R3,R6,R9⟩:=a.u3 R3 R6 R9
 refine .al zeroValue113 r fun N=>?_
 refine .sa sizeOf113 .z r (.no [3,2,1] r (.seq (.dr [0,1,2,4,5,6,7,8,9,10,11,12,13,14,15,16,17,18,19,20,21,22,23,24,3,25] 26 (.fk 2 r (.h r (fun _=>.lo aB .p2 r .mk) (.h r (fun _=>.ixArr (i:=0) iA AU r r (by decide) (o:=0) r r r .mk) (.h r (fun _=>.loadA BQ AU r .z (.o 5 r) r r r .mk) (.h r (fun _=>.ixArr (i:=1) iA AU r r (by decide) (o:=5) r r r .mk) (.h r (fun _=>.loadA BQ AU r .z (.o 5 r) r r r .mk) ?_)))))))))
 refine .h r (fun _=>.ixArr (i:=2) iA AU r r (by decide) (o:=10) r r r .mk) (.h r (fun _=>.loadA BQ AU r .z (.o 5 r) r r r .mk) (.fk 1 r (.h r (fun _=>.lo sR .p2 r .mk) (.h r (fun _=>.conv un5 ZY r r r .mk) (.h r (fun _=>.rem r r (by decide) r r .mk) (.fk 2 r (.h r (fun _=>.lo sR .p2 r .mk) (.h r (fun _=>.conv un5 ZY r r r .mk) (.h r (fun _=>.rem r r (by decide) r r .mk) ?_)))))))))
 refine .fk 2 r (.h r (fun _=>.lo sR .p2 r .mk) (.h r (fun _=>.conv un5 ZY r r r .mk) (.h r (fun _=>.rem r r (by decide) r r .mk) (.fk 1 r (.ww r fun ex=>?_)))))
 have e:=ZQ (I:=q) hd
 refine .cq call68 e r fun p hd=>?_
 exact .so 3 r r r (.ck 1 r r (.ch r (fun _=>.rem r r (by decide) r r .mk) (.ch r (fun _=>.conv un5 ZY r r r .mk) (.ch r (fun _=>.lo sR .p2 r .mk) (.ck 2 r r (.ch r (fun _=>.rem r r (by decide) r r .mk) (.ch r (fun _=>.conv un5 ZY r r r .mk) (.ch r (fun _=>.lo sR .p2 r .mk) (.ck 2 r r (.ch r (fun _=>.rem r r (by decide) r r .mk) (.ch r (fun _=>.conv un5 ZY r r r .mk) (.ch r (fun _=>.lo sR .p2 r .mk) (.ck 1 r r (.ch r (fun _=>.loadA BQ AU r .z (.o 5 r) r r r .mk) (.ch r (fun _=>.ixArr (i:=2) iA AU r r (by decide) (o:=10) r r r .mk) (.ch r (fun _=>.loadA BQ AU r .z (.o 5 r) r r r .mk) (.ch r (fun _=>.ixArr (i:=1) iA AU r r (by decide) (o:=5) r r r .mk) (.ch r (fun _=>.loadA BQ AU r .z (.o 5 r) r r r .mk) (.ch r (fun _=>.ixArr (i:=0) iA AU r r (by decide) (o:=0) r r r .mk) trivial))))))))))))))))))) (.h r (fun _=>.build pO AbO AbM (.c r r r (.o r) (.c r r r (.o r) (.c r r r (.o r) (.c r r r (.o r) (.c r r r (.o r) (.c r r r (.o r) (.c r r r (.o r) .n))))))) (by exact ⟨⟨_,_,r,r,r⟩,⟨⟨_,_,r,r,r⟩,⟨⟨_,_,r,r,r⟩,⟨⟨_,_,r,r,r⟩,⟨⟨_,_,r,r,r⟩,⟨⟨_,_,r,r,r⟩,⟨⟨_,_,r,r,r⟩,trivial⟩⟩⟩⟩⟩⟩⟩) r r .mk) (.e2 26 (.sa SN .p1 r (.no [2] r (.drop .z (.drop .p1 (.ret (BO results21 (.w WB SN r .z r .n) a ⟨({ Ring:=p,A:=b.1,B:=b.2.1,Mask:=b.2.2,R:=AJ (((AJ (a0.R)).tmod 4)+1),C:=AJ (((AJ (a0.C)).tmod 4)+1),Room:=AJ (((AJ (a0.Room)).tmod 4)+1) }:BD),_,_,_,_,_,_,_,_,_,_,_,_,_,_,_,_,_,_,r,s,t,u,x,g,j,k,l,m,hd⟩))))))))
theorem fV {a0:Rows} {Q:(List AC)→Prop} (R3:RepSl AE I p1 c2 a0.Start) (R6:RepSl AE I p4 c5 a0.Col) (R9:RepSl AE I p7 c8 a0.Val) (hd:PE a0 Q) :
  BZ prog 105 [.agg #[.int .i64 a0.Rows,.int .i64 a0.Cols,.slice p1 a0.Start.length c2,.slice p4 a0.Col.length c5,.slice p7 a0.Val.length c8]] I (AeO Q):=by
 refine Fun.en func105 ntmps105 r fun w0 M=>?_
 refine .sr (.bx r fun d2=>?_)
 refine .ks 1 r (.ns [1] r (.lw BQ AU .z r ?_))
 have a1:=NS (I:=I) R3 R6 R9 hd
 refine .call call104 r a1 r r fun d3 d4 B a2=>?_
 obtain ⟨d5,d6,d7,d8,d9,e0,e1,rfl,d,g,i,hd⟩:=a2
 obtain ⟨R3,R6,R9⟩:=B.u3 R3 R6 R9
 refine .sa AU .z r (.nk [1] 1 r (.no [3,1] r (.seq (.sr (.kn 1 [4,3,1] r (.block (.own0 AW 103 (.lx hd [1] [1] r (fun j E l (e,a)=>fun c w=>∃ k m,j ⟨45,[],none⟩ (fun I_=>True) ((3,.slice k e.length m) :: (4,.int .i64 a) :: E) (OwnSl AW 103 k m e :: l) c w) (fun c w ho hs=>⟨_,_,jf rf trivial [0,0] r ho hs⟩) ?_))))))))
 rintro ⟨e,a⟩ a8 hd c w ⟨k,m,b7,f,_,hok,hsym⟩
 obtain ⟨t,d,g,i⟩:=f.u4 B d g i
 refine Cod.at hok hsym (.seq (.sk 2 r (.lo BL .p1 r (.kn 1 [11,4,3,1] r (.condP r hd (fun K hd=>?_) fun K hd=>?_)))))
 · refine .sn [4,3,1] r (.seq (.block (.sk 1 r (.lo EL .p1 r (.ks 1 r ?_)))))
   obtain ⟨C,b8,u,hd⟩:=hd
   obtain ⟨b9,o448,b1,a3,L,N⟩:=d.2 _ _ u
   cases N
   refine .ixa BX FI r a3 r C (AH u C) r r (.ld1 (j:=0) BL L r r r r r (.kn 1 [5,4,3,1] r (.block (.lx hd [4,1] [1] r (fun j E l (b,p)=>fun c w=>∃ q s,j ⟨45,[],none⟩ (fun I_=>True) ((3,.slice q b.length s) :: (5,.int .i64 p) :: E) (OwnSl AW 103 q s b :: l) c w) (fun c w ho hs=>⟨_,_,jf rf trivial [0,0] r ho hs⟩) ?_))))
   rintro ⟨b,p⟩ a9 hd c w ⟨q,s,c0,v,_,hok,hsym⟩
   obtain ⟨b2,O,d,g,i⟩:=v.u5 t f d g i
   refine Cod.at hok hsym (.seq (.sk 2 r (.lo EL .p1 r (.ks 2 r ?_))))
   obtain ⟨D,c1,x,hd⟩:=hd
   obtain ⟨c3,o582,b3,a4,P,R⟩:=d.2 _ _ x
   cases R
   refine .ixa BX FI r a4 r D (AH x D) r r (.ld1 (j:=0) BL P r r r r r (.kn 1 [26,5,4,3,1] r (.condP r hd (fun S hd=>?_) fun S hd=>?_)))
   · refine .sn [5,4,3,1] r (.seq (.block (.ownF .z fun b0=>?_)))
     refine .dr [0,1,2,3,4,5,6,7,8,9,10,11,12,13,14] 15 (.fk 3 r (.h r (fun _=>.lo EL .p1 r .mk) (.fk 1 r ?_)))
     obtain ⟨F,G,y,hd⟩:=hd
     obtain ⟨c4,o593,b4,a5,T,U⟩:=g.2 _ _ y
     cases U
     refine .h r (fun _=>.ixa BX FI r a5 r F (AH y F) r r .mk) (.h r (fun _=>.ld1 (j:=0) BL T r r r r r .mk) (.fk 1 r (.h r (fun _=>.lo fL .p1 r .mk) (.fk 1 r ?_))))
     obtain ⟨H,J,A,hd⟩:=hd
     obtain ⟨c6,o602,b5,a6,V,W⟩:=i.2 _ _ A
     cases W
     refine .h r (fun _=>.ixa TC uZ r a6 r H (AH A H) r r .mk) (.h r (fun _=>.ld1 (j:=0) XC V r r r r r .mk) (.h r (fun _=>.build LC bQ bP (.c r r r (.o r) (.c r r r (.o r) (.c r r r (.o r) .n))) (by exact ⟨⟨_,_,r,r,r⟩,⟨⟨_,_,r,r,r⟩,⟨⟨_,_,r,r,r⟩,trivial⟩⟩⟩) r r .mk) (.ww r fun ex=>?_)))
     refine .buildSlice 1 ER ES LC r r (.c r r r .n) r r fun c7=>?_
     refine .so 3 r r r (.ck 1 r r trivial) (.ww r fun ex=>?_)
     obtain ⟨X,hd⟩:=hd
     refine .append (ys:=[({ Row:=a,Col:=G,Val:=J }:AC)]) 24 .p1 ER ER bO r r r r r r r r r (.box .z (.one r) r) X r r fun c9 d0=>?_
     exact .so 3 r r r trivial (.e2 15 (.kn 1 [3,5,4,1] r (.drop .p1 (.region (.ks 3 r (.nil' fun c w ho hs=>⟨((b++([({ Row:=a,Col:=G,Val:=J }:AC)])),AJ (p+1)),hd,_,_,jf v trivial [0,0] r ho hs⟩))))))
   exact .en [4,3,1] r (.region (.ks 3 r (.nil' fun c w ho hs=>⟨(b,AJ (a+1)),hd,_,_,jf O trivial [0,0] r ho hs⟩)))
 refine .en [3] r (.drop .p1 (.sr (.kn 2 [2] r (.pub .z fun d1 Y a7=>?_))))
 obtain ⟨Z,b6⟩:=Y.u2 t f
 exact .r1 results105 r Z ⟨e,_,_,r,a7,hd⟩
theorem TX {a0 a1:List AK} {Q:Bool→Prop} (R3:RepSl CG I p1 c2 a0) (R6:RepSl CG I p4 c5 a1) (hd:IY a0 a1 Q) :
  BZ prog 39 [.slice p1 a0.length c2,.slice p4 a1.length c5] I (fun _=>gE Q):=by
 refine Fun.en func39 ntmps39 r fun w0 M=>?_
 refine .sr (.kn 1 [1,0] r (.seq (.sk 1 r (.ln DS r (.ks 1 r (.ln DS r (.kn 1 [10,1,0] r (.condP r hd (fun p hd=>?_) fun p hd=>?_))))))))
 · exact .sr (.kn 1 [4] r (.r0 results39 r ⟨false,r,hd⟩))
 refine .sn [1,0] r (.seq (.sr (.kn 1 [5,1,0] r (.block (.lp hd [1,0] [] r (fun j E l b=>j ((5,.int .i64 b) :: E) l) (ji rf [] r) ?_)))))
 refine fun b q hd=>jq r fun y a=>?_
 obtain ⟨R3,R6⟩:=a.u2 R3 R6
 refine .seq (.sk 2 r (.ln DS r (.kn 1 [14,5,1,0] r (.condP r hd (fun g hd=>?_) fun g hd=>?_))))
 · refine .sn [5,1,0] r (.seq (.block (.seq (.dr [0,1,2,3,4,5,6,7,8] 9 (.fk 2 r ?_)))))
   obtain ⟨e,s,c,hd⟩:=hd
   obtain ⟨z,o64,w,t,i,k⟩:=R3.2 _ _ c
   cases k
   refine .h r (fun _=>.ixa DS BT r t r e (AH c e) r r .mk) (.h r (fun _=>.ldW HP BT i r r r r .mk) (.fk 2 r ?_))
   obtain ⟨f,u,d,hd⟩:=hd
   obtain ⟨A,o73,x,v,m,n⟩:=R6.2 _ _ d
   cases n
   refine .h r (fun _=>.ixa DS BT r v r f (AH d f) r r .mk) (.h r (fun _=>.ldW HP BT m r r r r .mk) (.h r (fun _=>.neV r r (AeI s u) (AeJ _ _ _ _ _) r r r .mk) (.e2 9 (.no [25,5,1,0] r (.condP r hd (fun o hd=>?_) fun o hd=>?_)))))
   · exact .sr (.kn 1 [4] r (.r1 results39 r a ⟨false,r,hd⟩))
   exact .sn [5,1,0] r (.region (.ks 3 r (.nil' (je (AJ (b+1)) hd a [] r))))
 exact .en [] r (.sr (.kn 1 [4] r (.r1 results39 r a ⟨true,r,hd⟩)))
theorem kJ {a0:AN} {Q:AN→Prop} (hd:TO a0 Q) :
  BZ prog 224 [.agg (EI a0).toArray] I (fun _=>rV Q):=by
 refine Fun.en func224 ntmps224 r fun w0 M=>?_
 refine .sr (.bx r fun d=>?_)
 refine .al CR r fun e=>?_
 refine .nk [2,1] 1 r (.lo XC .p1 r (.invS r r r r (.ks 1 r (.lo EB .p1 r (.invU (M:=18446744073709551615) r (by decide) r r r (.build CR KY KX (.c r r r (.o r) (.c r r r (.o r) .n)) (by exact ⟨⟨_,_,r,r,r⟩,⟨⟨_,_,r,r,r⟩,trivial⟩⟩) r r (.build CR KY KX (.c r r r (.o r) .n) (by exact ⟨⟨_,_,r,r,r⟩,trivial⟩) r r ?_)))))))
 have a:=MY (I:=I) hd
 refine .cq call170 a r fun b hd=>?_
 exact .sa AM .z r (.no [2] r (.drop .p1 (.ret (BO results224 (.w BG AM r .z r .n) rf ⟨b,r,hd⟩))))
theorem rS {a0 a1:Int} {Q:AN→Prop} (hd:YO a0 a1 Q) :
  BZ prog 174 [.int .i64 a0,.int .i64 a1] I (fun _=>rV Q):=by
 refine Fun.en func174 ntmps174 r fun w0 M=>?_
 refine .sr (.al CR r fun L=>?_)
 refine .nk [4,1,0] 1 r ?_
 have y:=GH (I:=I) hd
 refine .cq call171 y r fun H hd=>?_
 refine .al CR r fun F=>?_
 refine .sa AM .z r (.nk [5,4,1] 3 r (.nk [6,5,4,1] 1 r (.conv kV MQ r r r (.kn 1 [7,6,5,4] r (.seq (.jn hd [6,5,4] [1,0] r (fun j E l x=>j ((7,.int .u64 x) :: E) l) (fun J hd=>?_) ?_))))))
 · skip
   refine .sr (.kn 1 [15,7,6,5,4] r (.condP r hd (fun A hd=>?_) fun A hd=>?_))
   · exact .region (.ks 1 r (.neg r r r (.ks 1 r (.nil' (je (IntKind.wrap .u64 (0 - (IntKind.wrap .u64 (a1)))) hd rf [1,0] r)))))
   exact .skip' (je (IntKind.wrap .u64 (a1)) hd rf [1,0] r)
 refine fun x hd=>jq r fun K B=>?_
 refine .sr (.al CR r fun G=>?_)
 refine .no [8,7,6,5,4] r (.seq (.block (.lp hd [8,6,5,4] [1] r (fun j E l (g,h,a,b,c)=>j ((7,.int .u64 a) :: E) (pto F (.cells #[.int .i64 g,.int .u64 h] 157 (0,0)) :: pto G (.cells #[.int .i64 b,.int .u64 c] 157 (0,0)) :: l)) (ji rf [2,0,0] r) ?_)))
 rintro ⟨g,h,a,b,c⟩ D hd
 refine jq r fun d e=>?_
 have f:=e.u1 B
 refine .seq (.sr (.kn 2 [19,8,7,6,5,4] r (.condP r hd (fun o hd=>?_) fun o hd=>?_)))
 · refine .sn [8,7,6,5,4] r (.block (.seq (.sk 1 r (.rem r r (by decide) r r (.kn 1 [22,8,7,6,5,4] r (.condP r hd (fun p hd=>?_) fun p hd=>?_))))))
   · refine .region (.lw BG AM .p1 r (.lw BG AM .z r ?_))
     have q:=MY (I:=d) hd
     refine .cq call170 q r fun i hd=>?_
     refine .sa AM .p1 r (.ns [8,7,6,5,4] r (.lw BG AM .z r (.lw BG AM .z r ?_)))
     have s:=MY (I:=d) hd
     refine .cq call170 s r fun k hd=>?_
     exact .sa AM .z r (.no [8,7,6,5,4] r (.region (.ks 1 r (.quo r r (by decide) r r (.ks 1 r (.nil' (je (k.Hi,k.Lo,IntKind.wrap .u64 (a.tdiv 2),i.Hi,i.Lo) hd e [0,0,0] r)))))))
   refine .sn [8,7,6,5,4] r (.sr (.lw BG AM .z r (.lw BG AM .z r ?_)))
   have t:=MY (I:=d) hd
   refine .cq call170 t r fun m hd=>?_
   exact .sa AM .z r (.no [8,7,6,5,4] r (.region (.ks 1 r (.quo r r (by decide) r r (.ks 1 r (.nil' (je (m.Hi,m.Lo,IntKind.wrap .u64 (a.tdiv 2),b,c) hd e [0,0,0] r)))))))
 refine .en [8,6,4] r (.drop .z (.seq (.sr (.kn 1 [31,8,4] r (.condP r hd (fun u hd=>?_) fun u hd=>?_)))))
 · refine .sr (.lw BG AM .z r ?_)
   have v:=kJ (I:=d) hd
   refine .cq call224 v r fun C hd=>?_
   exact .sa AM .p1 r (.no [4] r (.drop .z (.ret (BO results174 (.w BG AM r .z r .n) f ⟨C,r,hd⟩))))
 exact .sn [8,4] r (.sr (.lw BG AM .z r (.sa AM .p1 r (.no [4] r (.drop .z (.ret (BO results174 (.w BG AM r .z r .n) f ⟨({ Hi:=b,Lo:=c }:AN),r,hd⟩)))))))
theorem rT {a0 a1 a2:Int} {Q:AN→Prop} (hd:YP a0 a1 a2 Q) :
  BZ prog 106 [.int .i64 a0,.int .i64 a1,.int .i64 a2] I (fun _=>rV Q):=by
 refine Fun.en func106 ntmps106 r fun w0 M=>?_
 refine .sr (.al CR r fun b3=>?_)
 refine .no [6,2,1,0] r (.seq (.jn hd [6,2,1,0] [0] r (fun j E l N=>j ((7,.bool N) :: E) l) (fun k8 hd=>?_) ?_))
 · skip
   refine .region (.ks 3 r ?_)
   refine AL hd (fun e hd=>?_) fun e hd=>?_
   · rw [e]
     exact .ks 4 r (.nil' (je true hd rf [0] r))
   rw [e]
   exact .ks 4 r (.nil' (je (decide (4611686018427387904≤a2)) hd rf [0] r))
 refine fun N hd=>jq r fun c b=>?_
 refine .sr (.kn 1 [15,7,6,2,1] r (.block (.sr (.kn 2 [17,15,7,6,2,1] r (.condP r hd (fun f hd=>?_) fun f hd=>?_)))))
 · refine .sk 1 r ?_
   have g:=GH (I:=c) hd
   refine .cq call171 g r fun Z hd=>?_
   refine .ks 1 r ?_
   have i:=GH (I:=c) hd
   refine .cq call171 i r fun a3 hd=>?_
   have k:=MY (I:=c) hd
   refine .cq call170 k r fun O hd=>?_
   refine .al CR r fun a4=>?_
   refine .sa AM .z r (.no [8,7,6] r (.seq (.seq (.dr [0,1,2,3,4,5,6] 7 (.fk 2 r ?_)))))
   refine AL hd (fun a hd=>?_) fun a hd=>?_
   · refine .h r (fun _=>.gno r r a r r .mk) (.h r (fun _=>.gno r r a r r .mk) (.h r (fun _=>.gno r r a r r .mk) (.h r (fun _=>.gno r r a r r .mk) (.h r (fun _=>.pickT r a r r r .mk) (.e2 7 (.no [30,8,6] r (.condKT r r (.sr ?_))))))))
     have m:=GH (I:=c) hd
     refine .cq call171 m r fun P hd=>?_
     exact .sa AM .p1 r (.no [6] r (.drop .z (.ret (BO results106 (.w BG AM r .z r .n) b ⟨P,r,hd⟩))))
   refine .h r (fun _=>.gyes r r a (.lw BG AM .z r .mk)) (.ww r fun ex=>?_)
   have o:=GH (I:=c) hd
   refine .gyes r r a (.callP call171 r o r r fun a5 p=>?_)
   obtain ⟨a6,rfl,hd⟩:=p
   refine .so 2 r r r (.ch r (fun _=>.gyes r r a (.lw BG AM .z r .mk)) trivial) (.ww r fun ex=>?_)
   have q:=WW (I:=c) hd
   refine .gyes r r a (.callP call172 r q r r fun a7 s=>?_)
   obtain ⟨a8,rfl,hd⟩:=s
   refine .so 2 r r r trivial (.h r (fun _=>.gyes r r a (.gt r r r r .mk)) (.h r (fun _=>.pickF r a r r r .mk) (.e2 7 (.no [30,8,6] r (.condP r hd (fun t hd=>?_) fun t hd=>?_)))))
   · refine .sr ?_
     have u:=GH (I:=c) hd
     refine .cq call171 u r fun R hd=>?_
     exact .sa AM .p1 r (.no [6] r (.drop .z (.ret (BO results106 (.w BG AM r .z r .n) b ⟨R,r,hd⟩))))
   exact .sn [8,6] r (.sr (.lw BG AM .z r (.sa AM .p1 r (.no [6] r (.drop .z (.ret (BO results106 (.w BG AM r .z r .n) b ⟨O,r,hd⟩)))))))
 refine .sr (.kn 2 [33,15,7,6,2,1] r (.condP r hd (fun v hd=>?_) fun v hd=>?_))
 · refine .seq (.sr (.kn 1 [35,6,1] r (.condP r hd (fun x hd=>?_) fun x hd=>?_)))
   · refine .sr ?_
     have y:=GH (I:=c) hd
     refine .cq call171 y r fun S hd=>?_
     exact .sa AM .z r (.no [6] r (.ret (BO results106 (.w BG AM r .z r .n) b ⟨S,r,hd⟩)))
   refine .sn [6,1] r (.sk 1 r ?_)
   have A:=GH (I:=c) hd
   refine .cq call171 A r fun T hd=>?_
   exact .sa AM .z r (.no [6] r (.ret (BO results106 (.w BG AM r .z r .n) b ⟨T,r,hd⟩)))
 refine .sr (.kn 2 [39,15,7,6,2,1] r (.condP r hd (fun B hd=>?_) fun B hd=>?_))
 · refine .seq (.sr (.kn 1 [41,6,2] r (.condP r hd (fun C hd=>?_) fun C hd=>?_)))
   · refine .sr ?_
     have D:=GH (I:=c) hd
     refine .cq call171 D r fun U hd=>?_
     exact .sa AM .z r (.no [6] r (.ret (BO results106 (.w BG AM r .z r .n) b ⟨U,r,hd⟩)))
   refine .sn [6,2] r (.sk 1 r ?_)
   have F:=GH (I:=c) hd
   refine .cq call171 F r fun V hd=>?_
   exact .sa AM .z r (.no [6] r (.ret (BO results106 (.w BG AM r .z r .n) b ⟨V,r,hd⟩)))
 refine .sr (.kn 2 [45,15,6,2,1] r (.condP r hd (fun G hd=>?_) fun G hd=>?_))
 · refine .sk 3 r ?_
   refine AL hd (fun d hd=>?_) fun d hd=>?_
   · rw [d]
     refine .ks 3 r ?_
     have H:=PG (I:=c) hd
     refine .cq call173 H r fun W hd=>?_
     exact .sa AM .z r (.no [6] r (.ret (BO results106 (.w BG AM r .z r .n) b ⟨W,r,hd⟩)))
   rw [d]
   refine .ks 3 r ?_
   have J:=PG (I:=c) hd
   refine .cq call173 J r fun X hd=>?_
   exact .sa AM .z r (.no [6] r (.ret (BO results106 (.w BG AM r .z r .n) b ⟨X,r,hd⟩)))
 refine .sr (.kn 2 [54,6,2,1] r (.condP r hd (fun K hd=>?_) fun K hd=>?_))
 · refine .sk 2 r ?_
   have L:=rS (I:=c) hd
   refine .cq call174 L r fun Y hd=>?_
   exact .sa AM .z r (.no [6] r (.ret (BO results106 (.w BG AM r .z r .n) b ⟨Y,r,hd⟩)))
 exact .sr (.build CR KY KX .n (by exact trivial) r r (.sa AM .z r (.no [6] r (.ret (BO results106 (.w BG AM r .z r .n) b ⟨({ Hi:=0,Lo:=0 }:AN),r,hd⟩)))))
theorem ZR {a0:Int} {a1 a2 a3:Rows} {Q:((List AK)×Int)→Prop} (R3:RepSl AE I p1 c2 a1.Start) (R6:RepSl AE I p4 c5 a1.Col) (R9:RepSl AE I p7 c8 a1.Val) (R12:RepSl AE I p10 c11 a2.Start) (R15:RepSl AE I p13 c14 a2.Col) (R18:RepSl AE I p16 c17 a2.Val) (R21:RepSl AE I p19 c20 a3.Start) (R24:RepSl AE I p22 c23 a3.Col) (R27:RepSl AE I p25 c26 a3.Val) (hd:MO a0 a1 a2 a3 Q) :
  BZ prog 37 [.int .i64 a0,.agg #[.int .i64 a1.Rows,.int .i64 a1.Cols,.slice p1 a1.Start.length c2,.slice p4 a1.Col.length c5,.slice p7 a1.Val.length c8],.agg #[.int .i64 a2.Rows,.int .i64 a2.Cols,.slice p10 a2.Start.length c11,.slice p13 a2.Col.length c14,.slice p16 a2.Val.length c17],.agg #[.int .i64 a3.Rows,.int .i64 a3.Cols,.slice p19 a3.Start.length c20,.slice p22 a3.Col.length c23,.slice p25 a3.Val.length c26]] I (AeR Q):=by
 refine Fun.en func37 ntmps37 r fun w0 M=>?_
 refine .sr (.bx r fun o5=>?_)
 refine .bx r fun o6=>?_
 refine .bx r fun o7=>?_
 refine .kn 2 [7,6,5,0] r (.seq (.dr [0,2,4,1,3,5,6,7] 8 (.h r (fun _=>.lw BQ AU .p2 r .mk) (.h r (fun _=>.lw BQ AU .p1 r .mk) (.h r (fun _=>.lw BQ AU .z r .mk) (.ww r fun ex=>?_))))))
 have f2:=NS (I:=I) R3 R6 R9 hd
 refine .call call104 r f2 r r fun o8 i3 W h5=>?_
 obtain ⟨o9,p0,l8,l9,m0,m1,m2,rfl,a,b,d,hd⟩:=h5
 obtain ⟨R3,R6,R9,R12,R15,R18⟩:=W.u6 R3 R6 R9 R12 R15 R18
 obtain ⟨R21,R24,R27⟩:=W.u3 R21 R24 R27
 refine .so 3 r r r (.ch r (fun _=>.lw BQ AU .z r .mk) (.ch r (fun _=>.lw BQ AU .p1 r .mk) trivial)) (.ww r fun ex=>?_)
 have f3:=NS (I:=i3) R12 R15 R18 hd
 refine .call call104 r f3 r r fun m3 h6 y f4=>?_
 obtain ⟨m4,m5,m6,m7,m8,m9,n0,rfl,e,f,g,hd⟩:=f4
 obtain ⟨f5,R3,R6,R9,R12,R15⟩:=y.u6 W R3 R6 R9 R12 R15
 obtain ⟨R18,R21,R24,R27,a,b⟩:=y.u6 R18 R21 R24 R27 a b
 have d:=y.u1 d
 refine .so 3 r r r (.ch r (fun _=>.lw BQ AU .z r .mk) trivial) (.ww r fun ex=>?_)
 have f6:=NS (I:=h6) R21 R24 R27 hd
 refine .call call104 r f6 r r fun n1 b8 A f7=>?_
 obtain ⟨n2,n3,n4,n5,n6,n7,n8,rfl,X,Y,Z,hd⟩:=f7
 obtain ⟨p,R3,R6,R9,R12,R15⟩:=A.u6 f5 R3 R6 R9 R12 R15
 obtain ⟨R18,R21,R24,R27,a,b⟩:=A.u6 R18 R21 R24 R27 a b
 obtain ⟨d,e,f,g⟩:=A.u4 d e f g
 refine .so 3 r r r trivial (.ww r fun ex=>?_)
 refine .sa AU .p2 r (.sn 3 r r r trivial (.ww r fun ex=>?_))
 refine .sa AU .p1 r (.sn 3 r r r trivial (.e2 8 (.sa AU .z r (.no [7,6,5,0] r (.seq (.sk 1 r ?_))))))
 have f8:=aM (I:=b8) hd
 refine .cq call102 f8 r fun n9 hd=>?_
 refine .kn 1 [27,7,6,5,0] r (.condP r hd (fun f9 hd=>?_) fun f9 hd=>?_)
 · exact .sr (.kn 2 [9,8] r (.drop .z (.drop .z (.drop .z (.ret (BO results37 (.t r (.t r .n)) p ⟨(([]:List AK),8),_,_,r,(.nil _ _ _),hd⟩))))))
 refine .sn [7,6,5,0] r (.seq (.sk 1 r (.lo BL .p2 r (.ks 1 r (.lo BL .p1 r (.ks 2 r ?_))))))
 refine AL hd (fun B hd=>?_) fun B hd=>?_
 · rw [B]
   exact .kn 13 [46,7,6,5,0] r (.condKT r r (.sr (.kn 2 [9,8] r (.drop .z (.drop .z (.drop .z (.ret (BO results37 (.t r (.t r .n)) p ⟨(([]:List AK),4),_,_,r,(.nil _ _ _),hd⟩))))))))
 rw [B]
 refine .ks 1 r (.yes r (.lo BL .z r (.ks 1 r (.yes r (.lo BL .p2 r (.ks 3 r ?_))))))
 refine AL hd (fun C hd=>?_) fun C hd=>?_
 · rw [C]
   exact .kn 6 [46,7,6,5,0] r (.condKT r r (.sr (.kn 2 [9,8] r (.drop .z (.drop .z (.drop .z (.ret (BO results37 (.t r (.t r .n)) p ⟨(([]:List AK),4),_,_,r,(.nil _ _ _),hd⟩))))))))
 rw [C]
 refine .ks 1 r (.yes r (.lo BL .z r (.ks 1 r (.yes r (.lo BL .p1 r (.kn 2 [46,7,6,5,0] r (.condP r hd (fun g0 hd=>?_) fun g0 hd=>?_)))))))
 · exact .sr (.kn 2 [9,8] r (.drop .z (.drop .z (.drop .z (.ret (BO results37 (.t r (.t r .n)) p ⟨(([]:List AK),4),_,_,r,(.nil _ _ _),hd⟩))))))
 refine .sn [7,6,5,0] r (.sk 1 r (.ns [10,7,6,5,0] r (.lw BQ AU .z r ?_)))
 have g1:=fV (I:=b8) X Y Z hd
 refine .call call105 r g1 r r fun o0 o1 a4 g2=>?_
 obtain ⟨o2,o3,o4,rfl,i,hd⟩:=g2
 obtain ⟨g3,a,b,d,e,f⟩:=a4.u6 p a b d e f
 obtain ⟨g,X,Y,Z⟩:=a4.u4 g X Y Z
 refine .kn 1 [11,10,6,5,0] r (.drop .z (.seq (.sr (.kn 1 [12,11,10,6,5,0] r (.block (.own0 CG 161 (.lx hd [11,6,5,0] [2,1] r (fun j E l (m,x)=>fun c w=>∃ D F,j ⟨126,[],none⟩ (fun I_=>True) ((10,.slice D m.length F) :: (12,.int .i64 x) :: E) (OwnSl CG 161 D F m :: l) c w) (fun c w ho hs=>⟨_,_,jf rf trivial [0,1,0] r ho hs⟩) ?_)))))))
 rintro ⟨m,x⟩ h7 hd c w ⟨D,F,j5,q,_,hok,hsym⟩
 obtain ⟨J,a,b,d,e,f⟩:=q.u6 g3 a b d e f
 obtain ⟨g,i⟩:=q.u2 g i
 refine Cod.at hok hsym (.seq (.sk 2 r (.ln ER r (.kn 1 [52,12,11,10,6,5,0] r (.condP r hd (fun b9 hd=>?_) fun b9 hd=>?_)))))
 · refine .sn [12,11,10,6,5,0] r (.seq (.block (.sr (.al CR r fun g4=>?_))))
   refine .nk [13,12,11,10,6,5,0] 1 r (.no [14,13,12,11,10,6,5,0] r (.seq (.seq (.ownF .p1 fun h9=>?_))))
   refine .dr [0,1,2,3,4,5,6,7,8] 9 (.fk 1 r (.h r (fun _=>.lo EL .p2 r .mk) (.fk 2 r ?_)))
   obtain ⟨a5,j6,K,hd⟩:=hd
   obtain ⟨j7,o2383,i4,g5,c0,c1⟩:=i.2 _ _ K
   cases c1
   refine .h r (fun _=>.ixa ER ES r g5 r a5 (AH K a5) r r .mk) (.fk 1 r (.h r (fun _=>.ld1 (j:=0) BL c0 r r r r r .mk) ?_))
   obtain ⟨a6,j8,L,hd⟩:=hd
   obtain ⟨j9,o2392,i5,g6,c3,c4⟩:=a.2 _ _ L
   cases c4
   refine .h r (fun _=>.ixa BX FI r g6 r a6 (AH L a6) r r .mk) (.h r (fun _=>.ld1 (j:=0) BL c3 r r r r r .mk) (.e2 9 (.kn 1 [15,14,13,12,11,10,6,5,0] r (.block (.lp hd [13,12,11,10,6,5,0] [2,2,1] r (fun j E l (s,u,G,v)=>j ((14,.bool G) :: (15,.int .i64 v) :: E) (pto g4 (.cells #[.int .i64 s,.int .u64 u] 157 (0,0)) :: l)) (ji rf [0,1,1,0] r) ?_)))))
   rintro ⟨s,u,G,v⟩ h8 hd
   refine jq r fun H k=>?_
   obtain ⟨i6,N,a,b,d,e⟩:=k.u6 J q a b d e
   obtain ⟨f,g,i⟩:=k.u3 f g i
   refine .seq (.seq (.ownF .p3 fun i0=>?_))
   refine .dr [0,1,2,3,4,5,6,7,8,9,10,11] 12 (.fk 2 r (.h r (fun _=>.lo EL .p1 r .mk) (.fk 2 r ?_)))
   obtain ⟨a7,k0,O,hd⟩:=hd
   obtain ⟨k1,o2684,i7,g7,c6,c7⟩:=i.2 _ _ O
   cases c7
   refine .h r (fun _=>.ixa ER ES r g7 r a7 (AH O a7) r r .mk) (.fk 1 r (.h r (fun _=>.ld1 (j:=0) BL c6 r r r r r .mk) (.fk 1 r ?_)))
   obtain ⟨a8,k2,P,hd⟩:=hd
   obtain ⟨k3,o2693,i8,g8,c9,d0⟩:=a.2 _ _ P
   cases d0
   refine .h r (fun _=>.ixa BX FI r g8 r a8 (AH P a8) r r .mk) (.h r (fun _=>.ld1 (j:=0) BL c9 r r r r r .mk) (.fk 1 r (.e2 12 (.no [75,15,14,13,12,11,10,6,5,0] r (.condP r hd (fun d1 hd=>?_) fun d1 hd=>?_)))))
   · refine .sn [15,14,13,12,11,10,6,5,0] r (.seq (.block (.seq (.ownF .p3 fun i1=>?_))))
     refine .dr [0,1,2,3,4,5,6,7,8,9,10,11,12,13,14,15] 16 (.h r (fun _=>.lw BQ AU .p2 r .mk) (.fk 1 r (.h r (fun _=>.lo EL .p1 r .mk) (.fk 1 r ?_))))
     obtain ⟨a9,k4,R,hd⟩:=hd
     obtain ⟨k5,o2727,i9,g9,d2,d3⟩:=b.2 _ _ R
     cases d3
     refine .h r (fun _=>.ixa BX FI r g9 r a9 (AH R a9) r r .mk) (.h r (fun _=>.ld1 (j:=0) BL d2 r r r r r .mk) (.fk 2 r ?_))
     obtain ⟨b0,k6,S,hd⟩:=hd
     obtain ⟨k7,o2736,j0,h0,d4,d5⟩:=i.2 _ _ S
     cases d5
     refine .h r (fun _=>.ixa ER ES r h0 r b0 (AH S b0) r r .mk) (.fk 1 r (.h r (fun _=>.ld1 (j:=1) BL d4 r r r r r .mk) (.ww r fun ex=>?_)))
     have d6:=YA (I:=H) e f g hd
     refine .cq call20 d6 r fun k8 hd=>?_
     refine .so 4 r r r trivial (.fk 4 r (.e2 16 (.kn 1 [17,16,15,14,13,12,11,10,6,5,0] r (.seq (.sr (.kn 2 [94,16,15,14,13,12,11,10,6,5,0] r (.condP r hd (fun d7 hd=>?_) fun d7 hd=>?_)))))))
     · exact .en [15,14,13,12,11,10,6,5,0] r (.region (.ks 3 r (.nil' (je (s,u,G,AJ (v+1)) hd k [0,0,0,0] r))))
     refine .sn [16,15,14,13,12,11,10,6,5,0] r (.sk 2 r (.lo fL .p1 r (.ks 1 r ?_)))
     obtain ⟨b1,k9,T,hd⟩:=hd
     obtain ⟨l0,o2766,j1,h1,d8,d9⟩:=d.2 _ _ T
     cases d9
     refine .ixa TC uZ r h1 r b1 (AH T b1) r r (.ld1 (j:=0) XC d8 r r r r r (.ks 1 r ?_))
     have e0:=rT (I:=H) hd
     refine .cq call106 e0 r fun b2 hd=>?_
     refine .al CR r fun l1=>?_
     refine .sa AM .z r (.no [18,15,14,13,12,11,10,6,5,0] r (.seq (.sr (.kn 1 [103,18,15,13,12,11,10,6,5,0] r (.condP r hd (fun e1 hd=>?_) fun e1 hd=>?_)))))
     · refine .region (.ks 1 r (.lw BG AM .p1 r (.lw BG AM .z r ?_)))
       have e3:=fE (I:=H) hd
       refine .cq call107 e3 r fun b3 hd=>?_
       exact .sa AM .p1 r (.no [15,13,12,11,10,6,5,0] r (.drop .z (.region (.kn 1 [14,15,13,12,11,10,6,5,0] r (.region (.ks 3 r (.nil' (je (b3.Hi,b3.Lo,true,AJ (v+1)) hd k [0,0,0,0] r))))))))
     exact .region (.lw BG AM .z r (.sa AM .p1 r (.no [15,13,12,11,10,6,5,0] r (.drop .z (.region (.kn 1 [14,15,13,12,11,10,6,5,0] r (.region (.ks 3 r (.nil' (je (b2.Hi,b2.Lo,true,AJ (v+1)) hd k [0,0,0,0] r))))))))))
   refine .en [14,13,12,11,10,6,5,0] r (.sr (.kn 1 [109,13,12,11,10,6,5,0] r (.condP r hd (fun e4 hd=>?_) fun e4 hd=>?_)))
   · refine .ownF .p3 fun i2=>?_
     refine .dr [0,1,2,3,4,5,6,7,8,9,10,11,12,13,14] 15 (.fk 3 r ?_)
     obtain ⟨b4,b5,U,hd⟩:=hd
     obtain ⟨l2,o2788,j2,h2,e5,e6⟩:=i.2 _ _ U
     cases e6
     refine .h r (fun _=>.ixa ER ES r h2 r b4 (AH U b4) r r .mk) (.fk 1 r (.h r (fun _=>.ld1 (j:=0) BL e5 r r r r r .mk) (.fk 2 r ?_)))
     obtain ⟨b6,b7,V,hd⟩:=hd
     obtain ⟨l3,o2797,j3,h3,e7,e8⟩:=i.2 _ _ V
     cases e8
     refine .h r (fun _=>.ixa ER ES r h3 r b6 (AH V b6) r r .mk) (.fk 1 r (.h r (fun _=>.ld1 (j:=1) BL e7 r r r r r .mk) (.h r (fun _=>.lw BG AM .z r .mk) (.h r (fun _=>.build ZI underlying161 yY (.c r r r (.o r) (.c r r r (.o r) (.c r r r (.o r) .n))) (by exact ⟨⟨_,_,r,r,r⟩,⟨⟨_,_,r,r,r⟩,⟨⟨_,_,r,r,r⟩,trivial⟩⟩⟩) r r .mk) (.ww r fun ex=>?_)))))
     refine .buildSlice 1 DS BT ZI r r (.c r r r .n) r r fun l4=>?_
     refine .so 5 r r r (.ck 1 r r trivial) (.ww r fun ex=>?_)
     obtain ⟨e9,hd⟩:=hd
     refine .append (ys:=[({ Row:=b5.Row,Col:=b7.Col,Val:=({ Hi:=s,Lo:=u }:AN) }:AK)]) 32 .p4 DS DS kR r r r r r r r r r (.box .z (.one r) r) e9 r r fun l5 l6=>?_
     exact .so 5 r r r trivial (.e2 15 (.kn 1 [10,12,11,6,5,0] r (.drop .p1 (.drop .p1 (.region (.ks 3 r (.nil' fun c w ho hs=>⟨((m++([({ Row:=b5.Row,Col:=b7.Col,Val:=({ Hi:=s,Lo:=u }:AN) }:AK)])),AJ (x+1)),hd,_,_,jf N trivial [0,0,0] r ho hs⟩)))))))
   exact .sn [12,11,10,6,5,0] r (.drop .z (.region (.ks 3 r (.nil' fun c w ho hs=>⟨(m,AJ (x+1)),hd,_,_,jf N trivial [2,0,0] r ho hs⟩))))
 refine .en [10] r (.drop .p1 (.drop .p1 (.sr (.kn 3 [9,8] r (.pub .z fun l7 f0 h4=>?_)))))
 obtain ⟨f1,j4⟩:=f0.u2 J q
 exact .ret (BO results37 (.t r (.t r .n)) f1 ⟨(m,0),_,_,r,h4,hd⟩)
theorem eJ {a0:KC} {a1:GX} {Q:Bool→Prop} (R3:RepSl AW I p1 c2 a0.T.A) (R6:RepSl AW I p4 c5 a0.T.B) (R9:RepSl AW I p7 c8 a0.T.M) (R12:RepSl XL I p10 c11 a1.L) (hd:SJ a0 a1 Q) :
  BZ prog 6 [.agg #[.int .i64 a0.T.Ring,.int .u8 a0.T.Size.1,.int .u8 a0.T.Size.2.1,.int .u8 a0.T.Size.2.2,.slice p1 a0.T.A.length c2,.slice p4 a0.T.B.length c5,.slice p7 a0.T.M.length c8,.int .u8 a0.R,.int .u8 a0.C,.int .u8 a0.Room],.agg #[.slice p10 a1.L.length c11,.int .u8 a1.Windows]] I (fun _=>gE Q):=by
 refine Fun.en func6 ntmps6 r fun w0 M=>?_
 refine .bank0 AG (.bank0 AP (.sr (.bx r fun Q7=>?_)))
 refine .bx r fun Q8=>?_
 refine .ks 1 r (.ns [3,2] r (.lw isAgg58 sizeOf58 .p1 r ?_))
 have G5:=dB (I:=I) R3 R6 R9 hd
 refine .call call21 r G5 r r fun Q9 H0 x0 G6=>?_
 obtain ⟨H1,R0,R1,R2,R4,R5,R7,R8,S0,S1,S2,S3,S4,S5,S6,S7,S8,S9,T0,rfl,y,D,F,G,H,J,O,P,S,hd⟩:=G6
 obtain ⟨R3,R6,R9,R12⟩:=x0.u4 R3 R6 R9 R12
 refine .al pO r fun T1=>?_
 refine .sa SN .z r (.no [5,3] r (.drop .p2 (.sr (.lw WB SN .z r ?_))))
 have E1:=JB (I:=H0) (o0:=([]:List (Nat×AA))) (o1:=([]:List (Nat×AF))) (a0:=H1) y D F G H J O P S hd
 refine .callS (.f call22 r) (.o [3,2] r) E1 r r fun M6 A8 M7 g2 a9=>?_
 rcases a9 with a9 | a9
 · obtain ⟨M8,rfl,rfl,hd⟩:=a9
   obtain ⟨E2,R12,y,D,F,G⟩:=g2.u6 x0 R12 y D F G
   obtain ⟨H,J,O,P,S⟩:=g2.u5 H J O P S
   refine .rn 4 r (.ks 5 r (.nk [7,6,5,3] 1 r (.lo aB .p2 r (.ks 1 r (.loadA BQ AU r .p2 (.o 5 r) r r r (.ks 1 r (.loadA BQ AU r .p2 (.o 5 r) r r r (.ks 1 r (.loadA BQ AU r .p2 (.o 5 r) r r r ?_)))))))))
   have E3:=ZR (I:=A8) y D F G H J O P S hd
   refine .call call37 r E3 r r fun M9 N0 x1 E4=>?_
   obtain ⟨N1,N2,N3,rfl,N4,hd⟩:=E4
   obtain ⟨E5,R12,y,D,F,G⟩:=x1.u6 E2 R12 y D F G
   obtain ⟨H,J,O,P,S⟩:=x1.u5 H J O P S
   refine .kn 5 [9,8,7,6,5,3] r (.seq (.sk 1 r (.eqNilP aA r r r r (.kn 8 [41,8,6,5,3] r (.condKT r r (.sr (.kn 1 [4] r (.drop .p2 (.drop .p2 ?_)))))))))
   exact .r1 results6 r E5 ⟨false,r,hd⟩
 obtain ⟨N5,U,N6,N7,N8,N9,O0,O1,O2,O3,O4,O5,O6,O7,O8,O9,P0,P1,P2,P3,P4,P5,P6,P7,e,rfl,r8,r9,s0,s1,s2,s3,s4,s5,s6,s7,s8,rfl,hd⟩:=a9
 obtain ⟨E6,R12,y,D,F,G⟩:=g2.u6 x0 R12 y D F G
 obtain ⟨H,J,O,P,S⟩:=g2.u5 H J O P S
 refine .rn 6 r (.ks 5 r (.nk [7,6,5,3] 1 r (.lo aB .p4 r (.ks 1 r (.loadA BQ AU r .p4 (.o 5 r) r r r (.ks 1 r (.loadA BQ AU r .p4 (.o 5 r) r r r (.ks 1 r (.loadA BQ AU r .p4 (.o 5 r) r r r ?_)))))))))
 have E7:=ZR (I:=A8) y D F G H J O P S hd
 refine .call call37 r E7 r r fun P8 G7 g3 E8=>?_
 obtain ⟨P9,Q0,Q1,rfl,d,hd⟩:=E8
 obtain ⟨u2,R12,y,D,F,G⟩:=g3.u6 E6 R12 y D F G
 obtain ⟨H,J,O,P,S,r8⟩:=g3.u6 H J O P S r8
 obtain ⟨r9,s0,s1,s2,s3,s4⟩:=g3.u6 r9 s0 s1 s2 s3 s4
 obtain ⟨s5,s6,s7,s8⟩:=g3.u4 s5 s6 s7 s8
 refine .kn 5 [9,8,7,6,5,3] r (.seq (.sk 1 r (.eqNilP aA r r r r (.ks 5 r ?_))))
 refine AL hd (fun u7 hd=>?_) fun u7 hd=>?_
 · rw [u7]
   exact .kn 3 [41,8,6,5,3] r (.condKT r r (.sr (.kn 1 [4] r (.drop .p2 (.drop .p2 (.drop .p2 (.drop .p2 (.r1 results6 r u2 ⟨false,r,hd⟩))))))))
 rw [u7]
 refine .kn 3 [41,8,6,5,3] r (.condP r hd (fun E9 hd=>?_) fun E9 hd=>?_)
 · exact .sr (.kn 1 [4] r (.drop .p2 (.drop .p2 (.drop .p2 (.drop .p2 (.r1 results6 r u2 ⟨false,r,hd⟩))))))
 refine .sn [8,6,5,3] r (.sr (.lw isAgg28 sizeOf28 .p5 r (.ks 1 r (.lo BL .p4 r (.ks 1 r (.lo BL .p4 r (.ks 1 r ?_)))))))
 have F0:=YD (I:=G7) R12 hd
 refine .call call18 r F0 r r fun Q2 Q3 g4 F1=>?_
 obtain ⟨Q4,Q5,Q6,rfl,V,hd⟩:=F1
 obtain ⟨F2,R12,y,D,F,G⟩:=g4.u6 u2 R12 y D F G
 obtain ⟨H,J,O,P,S,r8⟩:=g4.u6 H J O P S r8
 obtain ⟨r9,s0,s1,s2,s3,s4⟩:=g4.u6 r9 s0 s1 s2 s3 s4
 obtain ⟨s5,s6,s7,s8,d⟩:=g4.u5 s5 s6 s7 s8 d
 refine .kn 1 [10,8,6] r (.drop .p4 (.drop .p4 (.seq (.sr (.kn 1 [11,10,8,6] r (.block (.lx hd [10,8,6] [] r (fun j E l (u9,v0,v1,g5,g6,g7,v2,v3,g8,g9,h0,v4,v5,h1,h2,h3,v6,v7,v8,h4,h5,v9,h6,w1,w2)=>fun c w=>∃ h7 h8 h9 i0 i1 i2 i3 i4 i5 i6 i7 i8 i9 j0 j1 j2 j3 j4 j5 j6 j7 j8,j ⟨90,[],none⟩ (fun I_=>RepSl AE I_ h7 h8 g5∧RepSl AE I_ h9 i0 g6∧RepSl AE I_ i1 i2 g7∧RepSl AE I_ i3 i4 g8∧RepSl AE I_ i5 i6 g9∧RepSl AE I_ i7 i8 h0∧RepSl AE I_ i9 j0 h1∧RepSl AE I_ j1 j2 h2∧RepSl AE I_ j3 j4 h3∧RepSl BR I_ j5 j6 h4∧RepSl CD I_ j7 j8 h5) ((11,.int .i64 h6) :: E) (pto U (.cells #[.int .i64 u9,.int .i64 v0,.int .i64 v1,.slice h7 g5.length h8,.slice h9 g6.length i0,.slice i1 g7.length i2,.int .i64 v2,.int .i64 v3,.slice i3 g8.length i4,.slice i5 g9.length i6,.slice i7 h0.length i8,.int .i64 v4,.int .i64 v5,.slice i9 h1.length j0,.slice j1 h2.length j2,.slice j3 h3.length j4,.int .i64 v6,.int .i64 v7,.int .i64 v8,.slice j5 h4.length j6,.slice j7 h5.length j8,.map (some e)] 121 (0,0)) :: OwnMap CI CD false e v9 :: BA AG w1 :: BA AP w2 :: l) c w) (fun c w ho hs=>⟨_,_,_,_,_,_,_,_,_,_,_,_,_,_,_,_,_,_,_,_,_,_,jf rf ⟨r8,r9,s0,s1,s2,s3,s4,s5,s6,s7,s8⟩ [2,2,0,0] r ho hs⟩) ?_)))))))
 rintro ⟨u9,v0,v1,g5,g6,g7,v2,v3,g8,g9,h0,v4,v5,h1,h2,h3,v6,v7,v8,h4,h5,v9,h6,w1,w2⟩ G8 hd c w ⟨h7,h8,h9,i0,i1,i2,i3,i4,i5,i6,i7,i8,i9,j0,j1,j2,j3,j4,j5,j6,j7,j8,F3,b0,⟨j9,k0,k1,k2,k3,k4,k5,k6,k7,k8,k9⟩,hok,hsym⟩
 obtain ⟨s9,d,V⟩:=b0.u3 F2 d V
 refine Cod.at hok hsym (.seq (.sk 2 r (.ln ZZ r (.kn 1 [52,11,10,8,6] r (.condP r hd (fun A9 hd=>?_) fun A9 hd=>?_)))))
 · refine .sn [11,10,8,6] r (.seq (.block (.sk 3 r ?_)))
   obtain ⟨x2,F4,w4,hd⟩:=hd
   obtain ⟨H7,o1554,H2,F5,t0,B0⟩:=V.2 _ _ w4
   cases B0
   refine .ixa ZZ WA r F5 r x2 (AH w4 x2) r r (.ldW jW WA t0 r r r r ?_)
   have B1:=GB (I:=F3) (o0:=({ p:=({ Ring:=u9,A:=({ Rows:=v0,Cols:=v1,Start:=g5,Col:=g6,Val:=g7 }:Rows),B:=({ Rows:=v2,Cols:=v3,Start:=g8,Col:=g9,Val:=h0 }:Rows),Mask:=({ Rows:=v4,Cols:=v5,Start:=h1,Col:=h2,Val:=h3 }:Rows),R:=v6,C:=v7,Room:=v8 }:BD),stages:=h4,workers:=h5,boxes:=v9 }:AB)) (o1:=w1) (o2:=w2) (a0:=F4) (b4:=U) (p5:=h7) (c6:=h8) (p8:=h9) (c9:=i0) (p11:=i1) (c12:=i2) (p14:=i3) (c15:=i4) (p17:=i5) (c18:=i6) (p20:=i7) (c21:=i8) (p23:=i9) (c24:=j0) (p26:=j1) (c27:=j2) (p29:=j3) (c30:=j4) (p32:=j5) (c33:=j6) (p35:=j7) (c36:=j8) (b39:=e) j9 k0 k1 k2 k3 k4 k5 k6 k7 k8 k9 hd
   refine .callS (.f call25 r) (.o [0,0,0,0] r) B1 r r fun H8 F6 H9 t1 B2=>?_
   obtain ⟨a,x3,x4,x5,x6,x7,x8,x9,y0,y1,y2,y3,y4,y5,y6,y7,y8,y9,z0,z1,z2,z3,z4,rfl,g,h,i,k,m,q,s,t,u,v,x,rfl,hd⟩:=B2
   obtain ⟨B3,B4,d,V,j9,k0⟩:=t1.u6 s9 b0 d V j9 k0
   obtain ⟨k1,k2,k3,k4,k5,k6⟩:=t1.u6 k1 k2 k3 k4 k5 k6
   obtain ⟨k7,k8,k9,t0⟩:=t1.u4 k7 k8 k9 t0
   refine .rn 4 r (.nk [11,10,8,6] 1 r ?_)
   have B5:=DT (I:=F6) (o0:=a.2.1) (o1:=a.2.2.1) (b3:=U) (p4:=x3) (c5:=x4) (p7:=x5) (c8:=x6) (p10:=x7) (c11:=x8) (p13:=x9) (c14:=y0) (p16:=y1) (c17:=y2) (p19:=y3) (c20:=y4) (p22:=y5) (c23:=y6) (p25:=y7) (c26:=y8) (p28:=y9) (c29:=z0) (p31:=z1) (c32:=z2) (p34:=z3) (c35:=z4) (b38:=e) g h i k m q s t u v x hd
   refine .callS (.f call38 r) (.o [0,0,0] r) B5 r r fun I0 F7 I1 t2 B6=>?_
   obtain ⟨I2,rfl,rfl,hd⟩:=B6
   obtain ⟨B7,w5,d,V,g,h⟩:=t2.u6 B3 B4 d V g h
   obtain ⟨i,k,m,q,s,t⟩:=t2.u6 i k m q s t
   obtain ⟨u,v,x⟩:=t2.u3 u v x
   refine .rn 4 r (.ks 1 r ?_)
   refine AL hd (fun t3 hd=>?_) fun t3 hd=>?_
   · rw [t3]
     refine .ks 1 r ?_
     have B8:=GR (I:=F7) (o0:=a.2.1) (o1:=a.2.2.1) (b3:=U) (p4:=x3) (c5:=x4) (p7:=x5) (c8:=x6) (p10:=x7) (c11:=x8) (p13:=x9) (c14:=y0) (p16:=y1) (c17:=y2) (p19:=y3) (c20:=y4) (p22:=y5) (c23:=y6) (p25:=y7) (c26:=y8) (p28:=y9) (c29:=z0) (p31:=z1) (c32:=z2) (p34:=z3) (c35:=z4) (b38:=e) g h i k m q s t u v x hd
     refine .yes r (.callS (.f call40 r) (.o [0,0,0] r) B8 r r fun I3 F8 I4 t4 B9=>?_)
     obtain ⟨I5,I6,I7,rfl,F9,rfl,hd⟩:=B9
     obtain ⟨C0,C1,d,V,g,h⟩:=t4.u6 B7 w5 d V g h
     obtain ⟨i,k,m,q,s,t⟩:=t4.u6 i k m q s t
     obtain ⟨u,v,x⟩:=t4.u3 u v x
     refine .rn 4 r (.ks 1 r ?_)
     have C2:=TX (I:=F8) F9 d hd
     refine .yes r (.callP call39 r C2 r r fun I8 C3=>?_)
     obtain ⟨I9,rfl,hd⟩:=C3
     refine .kn 2 [69,11,10,8,6] r (.condP r hd (fun C4 hd=>?_) fun C4 hd=>?_)
     · exact .sr (.kn 1 [4] r (.drop .z (.drop .z (.r1 results6 r C0 ⟨false,r,hd⟩))))
     exact .sn [11,10,8,6] r (.region (.ks 3 r (.nil' fun c w ho hs=>⟨(a.2.1.p.Ring,a.2.1.p.A.Rows,a.2.1.p.A.Cols,a.2.1.p.A.Start,a.2.1.p.A.Col,a.2.1.p.A.Val,a.2.1.p.B.Rows,a.2.1.p.B.Cols,a.2.1.p.B.Start,a.2.1.p.B.Col,a.2.1.p.B.Val,a.2.1.p.Mask.Rows,a.2.1.p.Mask.Cols,a.2.1.p.Mask.Start,a.2.1.p.Mask.Col,a.2.1.p.Mask.Val,a.2.1.p.R,a.2.1.p.C,a.2.1.p.Room,a.2.1.stages,a.2.1.workers,a.2.1.boxes,AJ (h6+1),a.2.2.1,a.2.2.2),hd,_,_,_,_,_,_,_,_,_,_,_,_,_,_,_,_,_,_,_,_,_,_,jf C1 ⟨g,h,i,k,m,q,s,t,u,v,x⟩ [0,0,0,0] r ho hs⟩)))
   rw [t3]
   exact .kn 6 [69,11,10,8,6] r (.condKF r r (.sn [11,10,8,6] r (.region (.ks 3 r (.nil' fun c w ho hs=>⟨(a.2.1.p.Ring,a.2.1.p.A.Rows,a.2.1.p.A.Cols,a.2.1.p.A.Start,a.2.1.p.A.Col,a.2.1.p.A.Val,a.2.1.p.B.Rows,a.2.1.p.B.Cols,a.2.1.p.B.Start,a.2.1.p.B.Col,a.2.1.p.B.Val,a.2.1.p.Mask.Rows,a.2.1.p.Mask.Cols,a.2.1.p.Mask.Start,a.2.1.p.Mask.Col,a.2.1.p.Mask.Val,a.2.1.p.R,a.2.1.p.C,a.2.1.p.Room,a.2.1.stages,a.2.1.workers,a.2.1.boxes,AJ (h6+1),a.2.2.1,a.2.2.2),hd,_,_,_,_,_,_,_,_,_,_,_,_,_,_,_,_,_,_,_,_,_,_,jf w5 ⟨g,h,i,k,m,q,s,t,u,v,x⟩ [0,0,0,0] r ho hs⟩)))))
 refine .en [8,6] r (.seq (.jx hd [8,6] [] r (fun j E l (l0,l1,l2,b1,b2,b5,l3,l4,b6,b7,b8,l5,l6,b9,c0,c1,l7,l8,l9,c3,c4,m0,m1,z5)=>fun c w=>∃ c7 d0 d1 d2 d3 d4 d5 d6 d7 d8 d9 e0 e1 e2 e3 e4 e5 e6 e7 e8 e9 f0,j ⟨90,[],none⟩ (fun I_=>RepSl AE I_ c7 d0 b1∧RepSl AE I_ d1 d2 b2∧RepSl AE I_ d3 d4 b5∧RepSl AE I_ d5 d6 b6∧RepSl AE I_ d7 d8 b7∧RepSl AE I_ d9 e0 b8∧RepSl AE I_ e1 e2 b9∧RepSl AE I_ e3 e4 c0∧RepSl AE I_ e5 e6 c1∧RepSl BR I_ e7 e8 c3∧RepSl CD I_ e9 f0 c4) E (pto U (.cells #[.int .i64 l0,.int .i64 l1,.int .i64 l2,.slice c7 b1.length d0,.slice d1 b2.length d2,.slice d3 b5.length d4,.int .i64 l3,.int .i64 l4,.slice d5 b6.length d6,.slice d7 b7.length d8,.slice d9 b8.length e0,.int .i64 l5,.int .i64 l6,.slice e1 b9.length e2,.slice e3 c0.length e4,.slice e5 c1.length e6,.int .i64 l7,.int .i64 l8,.int .i64 l9,.slice e7 c3.length e8,.slice e9 c4.length f0,.map (some e)] 121 (0,0)) :: OwnMap CI CD false e m0 :: BA AG m1 :: BA AP z5 :: l) c w) (fun J0 hd=>?_) ?_))
 · skip
   refine .sr (.kn 1 [12,8,6] r (.block (.lx hd [8,6] [] r (fun j E l (m2,m3,m4,f1,f2,f3,m5,m6,f4,f5,f6,m7,m8,f7,f8,f9,m9,n0,n1,g0,g1,n2,w3,n3,n4)=>fun c w=>∃ n5 n6 n7 n8 n9 o3 o4 o5 o6 o7 o8 o9 p0 p3 p6 p9 q0 q1 q2 q3 q4 q5,j ⟨90,[],none⟩ (fun I_=>RepSl AE I_ n5 n6 f1∧RepSl AE I_ n7 n8 f2∧RepSl AE I_ n9 o3 f3∧RepSl AE I_ o4 o5 f4∧RepSl AE I_ o6 o7 f5∧RepSl AE I_ o8 o9 f6∧RepSl AE I_ p0 p3 f7∧RepSl AE I_ p6 p9 f8∧RepSl AE I_ q0 q1 f9∧RepSl BR I_ q2 q3 g0∧RepSl CD I_ q4 q5 g1) ((12,.int .i64 w3) :: E) (pto U (.cells #[.int .i64 m2,.int .i64 m3,.int .i64 m4,.slice n5 f1.length n6,.slice n7 f2.length n8,.slice n9 f3.length o3,.int .i64 m5,.int .i64 m6,.slice o4 f4.length o5,.slice o6 f5.length o7,.slice o8 f6.length o9,.int .i64 m7,.int .i64 m8,.slice p0 f7.length p3,.slice p6 f8.length p9,.slice q0 f9.length q1,.int .i64 m9,.int .i64 n0,.int .i64 n1,.slice q2 g0.length q3,.slice q4 g1.length q5,.map (some e)] 121 (0,0)) :: OwnMap CI CD false e n2 :: BA AG n3 :: BA AP n4 :: l) c w) (fun c w ho hs=>⟨_,_,_,_,_,_,_,_,_,_,_,_,_,_,_,_,_,_,_,_,_,_,jf rf ⟨j9,k0,k1,k2,k3,k4,k5,k6,k7,k8,k9⟩ [0,0,0,0] r ho hs⟩) ?_)))
   rintro ⟨m2,m3,m4,f1,f2,f3,m5,m6,f4,f5,f6,m7,m8,f7,f8,f9,m9,n0,n1,g0,g1,n2,w3,n3,n4⟩ G9 hd c w ⟨n5,n6,n7,n8,n9,o3,o4,o5,o6,o7,o8,o9,p0,p3,p6,p9,q0,q1,q2,q3,q4,q5,G0,t5,⟨q6,q7,q8,q9,r0,r2,r3,r4,r5,r6,r7⟩,hok,hsym⟩
   obtain ⟨C5,C6,d⟩:=t5.u3 s9 b0 d
   refine Cod.at hok hsym (.seq (.sk 3 r ?_))
   refine AL hd (fun t6 hd=>?_) fun t6 hd=>?_
   · rw [t6]
     refine .ks 1 r (.yes r (.build sS AdB Ad9 (.c r r r (.o r) .n) (by exact ⟨⟨_,_,r,r,r⟩,trivial⟩) r r ?_))
     have C7:=GB (I:=G0) (o0:=({ p:=({ Ring:=m2,A:=({ Rows:=m3,Cols:=m4,Start:=f1,Col:=f2,Val:=f3 }:Rows),B:=({ Rows:=m5,Cols:=m6,Start:=f4,Col:=f5,Val:=f6 }:Rows),Mask:=({ Rows:=m7,Cols:=m8,Start:=f7,Col:=f8,Val:=f9 }:Rows),R:=m9,C:=n0,Room:=n1 }:BD),stages:=g0,workers:=g1,boxes:=n2 }:AB)) (o1:=n3) (o2:=n4) (a0:=({ Kind:=5,A:=0,B:=0,K:=0 }:FU)) (b4:=U) (p5:=n5) (c6:=n6) (p8:=n7) (c9:=n8) (p11:=n9) (c12:=o3) (p14:=o4) (c15:=o5) (p17:=o6) (c18:=o7) (p20:=o8) (c21:=o9) (p23:=p0) (c24:=p3) (p26:=p6) (c27:=p9) (p29:=q0) (c30:=q1) (p32:=q2) (c33:=q3) (p35:=q4) (c36:=q5) (b39:=e) q6 q7 q8 q9 r0 r2 r3 r4 r5 r6 r7 hd
     refine .yes r (.callS (.f call25 r) (.o [0,0,0,0] r) C7 r r fun J1 J2 J3 t7 C8=>?_)
     obtain ⟨b,J4,J5,J6,J7,J8,J9,K0,K1,K2,K3,K4,K5,K6,K7,K8,K9,L0,L1,L2,L3,L4,L5,rfl,z6,z7,z8,z9,A0,A1,A2,A3,A4,A5,A6,rfl,hd⟩:=C8
     obtain ⟨H3,H4,w6,d,q6,q7⟩:=t7.u6 C5 C6 t5 d q6 q7
     obtain ⟨q8,q9,r0,r2,r3,r4⟩:=t7.u6 q8 q9 r0 r2 r3 r4
     obtain ⟨r5,r6,r7⟩:=t7.u3 r5 r6 r7
     refine .rn 4 r (.kn 1 [76,12,8,6] r (.condP r hd (fun C9 hd=>?_) fun C9 hd=>?_))
     · exact .sn [12,8,6] r (.seq (.block (.sn [12,8,6] r (.region (.ks 3 r (.nil' fun c w ho hs=>⟨(b.2.1.p.Ring,b.2.1.p.A.Rows,b.2.1.p.A.Cols,b.2.1.p.A.Start,b.2.1.p.A.Col,b.2.1.p.A.Val,b.2.1.p.B.Rows,b.2.1.p.B.Cols,b.2.1.p.B.Start,b.2.1.p.B.Col,b.2.1.p.B.Val,b.2.1.p.Mask.Rows,b.2.1.p.Mask.Cols,b.2.1.p.Mask.Start,b.2.1.p.Mask.Col,b.2.1.p.Mask.Val,b.2.1.p.R,b.2.1.p.C,b.2.1.p.Room,b.2.1.stages,b.2.1.workers,b.2.1.boxes,AJ (w3+1),b.2.2.1,b.2.2.2),hd,_,_,_,_,_,_,_,_,_,_,_,_,_,_,_,_,_,_,_,_,_,_,jf w6 ⟨z6,z7,z8,z9,A0,A1,A2,A3,A4,A5,A6⟩ [0,0,0,0] r ho hs⟩))))))
     exact .exit fun c w ho hs=>⟨(b.2.1.p.Ring,b.2.1.p.A.Rows,b.2.1.p.A.Cols,b.2.1.p.A.Start,b.2.1.p.A.Col,b.2.1.p.A.Val,b.2.1.p.B.Rows,b.2.1.p.B.Cols,b.2.1.p.B.Start,b.2.1.p.B.Col,b.2.1.p.B.Val,b.2.1.p.Mask.Rows,b.2.1.p.Mask.Cols,b.2.1.p.Mask.Start,b.2.1.p.Mask.Col,b.2.1.p.Mask.Val,b.2.1.p.R,b.2.1.p.C,b.2.1.p.Room,b.2.1.stages,b.2.1.workers,b.2.1.boxes,b.2.2.1,b.2.2.2),hd,_,_,_,_,_,_,_,_,_,_,_,_,_,_,_,_,_,_,_,_,_,_,jf w6 ⟨z6,z7,z8,z9,A0,A1,A2,A3,A4,A5,A6⟩ [0,0,0,0] r ho hs⟩
   rw [t6]
   exact .kn 4 [76,12,8,6] r (.condKF r r (.exit fun c w ho hs=>⟨(m2,m3,m4,f1,f2,f3,m5,m6,f4,f5,f6,m7,m8,f7,f8,f9,m9,n0,n1,g0,g1,n2,n3,n4),hd,_,_,_,_,_,_,_,_,_,_,_,_,_,_,_,_,_,_,_,_,_,_,jf t5 ⟨q6,q7,q8,q9,r0,r2,r3,r4,r5,r6,r7⟩ [0,0,0,0] r ho hs⟩))
 rintro ⟨l0,l1,l2,b1,b2,b5,l3,l4,b6,b7,b8,l5,l6,b9,c0,c1,l7,l8,l9,c3,c4,m0,m1,z5⟩ hd c w ⟨c7,d0,d1,d2,d3,d4,d5,d6,d7,d8,d9,e0,e1,e2,e3,e4,e5,e6,e7,e8,e9,f0,A7,w7,⟨W,X,Y,Z,a2,a3,a4,a5,a6,a7,a8⟩,hok,hsym⟩
 obtain ⟨w8,D0,d⟩:=w7.u3 s9 b0 d
 refine Cod.at hok hsym (.sr ?_)
 have D1:=oL (I:=A7) hd
 refine .cq call27 D1 r fun L6 hd=>?_
 refine .ks 1 r ?_
 refine AL hd (fun t8 hd=>?_) fun t8 hd=>?_
 · rw [t8]
   refine .ks 1 r ?_
   have D2:=DT (I:=A7) (o0:=({ p:=({ Ring:=l0,A:=({ Rows:=l1,Cols:=l2,Start:=b1,Col:=b2,Val:=b5 }:Rows),B:=({ Rows:=l3,Cols:=l4,Start:=b6,Col:=b7,Val:=b8 }:Rows),Mask:=({ Rows:=l5,Cols:=l6,Start:=b9,Col:=c0,Val:=c1 }:Rows),R:=l7,C:=l8,Room:=l9 }:BD),stages:=c3,workers:=c4,boxes:=m0 }:AB)) (o1:=m1) (b3:=U) (p4:=c7) (c5:=d0) (p7:=d1) (c8:=d2) (p10:=d3) (c11:=d4) (p13:=d5) (c14:=d6) (p16:=d7) (c17:=d8) (p19:=d9) (c20:=e0) (p22:=e1) (c23:=e2) (p25:=e3) (c26:=e4) (p28:=e5) (c29:=e6) (p31:=e7) (c32:=e8) (p34:=e9) (c35:=f0) (b38:=e) W X Y Z a2 a3 a4 a5 a6 a7 a8 hd
   refine .yes r (.callS (.f call38 r) (.o [0,0,0] r) D2 r r fun L7 G1 L8 t9 D3=>?_)
   obtain ⟨L9,rfl,rfl,hd⟩:=D3
   obtain ⟨w9,D4,D5,d,W,X⟩:=t9.u6 w8 D0 w7 d W X
   obtain ⟨Y,Z,a2,a3,a4,a5⟩:=t9.u6 Y Z a2 a3 a4 a5
   obtain ⟨a6,a7,a8⟩:=t9.u3 a6 a7 a8
   refine .rn 4 r (.ks 2 r ?_)
   refine AL hd (fun u0 hd=>?_) fun u0 hd=>?_
   · rw [u0]
     refine .ks 1 r ?_
     have D6:=GR (I:=G1) (o0:=({ p:=({ Ring:=l0,A:=({ Rows:=l1,Cols:=l2,Start:=b1,Col:=b2,Val:=b5 }:Rows),B:=({ Rows:=l3,Cols:=l4,Start:=b6,Col:=b7,Val:=b8 }:Rows),Mask:=({ Rows:=l5,Cols:=l6,Start:=b9,Col:=c0,Val:=c1 }:Rows),R:=l7,C:=l8,Room:=l9 }:BD),stages:=c3,workers:=c4,boxes:=m0 }:AB)) (o1:=m1) (b3:=U) (p4:=c7) (c5:=d0) (p7:=d1) (c8:=d2) (p10:=d3) (c11:=d4) (p13:=d5) (c14:=d6) (p16:=d7) (c17:=d8) (p19:=d9) (c20:=e0) (p22:=e1) (c23:=e2) (p25:=e3) (c26:=e4) (p28:=e5) (c29:=e6) (p31:=e7) (c32:=e8) (p34:=e9) (c35:=f0) (b38:=e) W X Y Z a2 a3 a4 a5 a6 a7 a8 hd
     refine .yes r (.callS (.f call40 r) (.o [0,0,0] r) D6 r r fun M0 G2 M1 u1 D7=>?_)
     obtain ⟨M2,M3,M4,rfl,G3,rfl,hd⟩:=D7
     obtain ⟨D8,H5,H6,d,W,X⟩:=u1.u6 w9 D4 D5 d W X
     obtain ⟨Y,Z,a2,a3,a4,a5⟩:=u1.u6 Y Z a2 a3 a4 a5
     obtain ⟨a6,a7,a8⟩:=u1.u3 a6 a7 a8
     refine .rn 4 r (.ks 1 r ?_)
     have D9:=TX (I:=G2) G3 d hd
     refine .yes r (.callP call39 r D9 r r fun M5 E0=>?_)
     obtain ⟨G4,rfl,hd⟩:=E0
     exact .kn 2 [4] r (.drop .z (.drop .z (.r1 results6 r D8 ⟨G4,r,hd⟩)))
   rw [u0]
   exact .kn 6 [4] r (.drop .z (.drop .z (.r1 results6 r w9 ⟨false,r,hd⟩)))
 rw [t8]
 exact .kn 10 [4] r (.drop .z (.drop .z (.r1 results6 r w8 ⟨false,r,hd⟩)))
end Go.Proofs.YtbohadngdkjljaaGreat
