/- The walks (printed by a program of ours). -/
import Derived.Test.YtbohadngdkjljaaGreatV3
namespace Go.Proofs.YtbohadngdkjljaaGreat
open Go Go.Fw
set_option linter.unusedVariables false
set_option linter.unusedSimpArgs false
set_option maxRecDepth 8000
set_option maxHeartbeats 1000000
open Tryz
variable {I:IH}
variable {b2 b3 b4 b5 b6 b7 b8 b9 c2 c3 c4 c5 c6 c7 c8 c9 lr b10 b11 b12 b13 b18 b19 b20 b21 b35 b36 b37 b38 b39 b40 b41 b42 b43 b54 b59 c10 c11 c12 c13 c14 c15 c16 c17 c18 c19 c20 c21 c22 c23 c24 c25 c26 c27 c28 c29 c30 c31 c32 c33 c34 c35 c36 c37 c38 c39 c41 c42 c43 c44 c45 c46 c47 c48 c49 c50 c51 c52 c54 c55 c57 c60 c63 c66 c69 c72 c75 c78:Nat}
variable {p1 p2 p3 p4 p5 p6 p7 p8 p9 p10 p11 p12 p13 p14 p15 p16 p17 p18 p19 p20 p21 p22 p23 p24 p25 p26 p27 p28 p29 p30 p31 p32 p33 p34 p35 p36 p37 p38 p40 p41 p42 p43 p44 p45 p46 p47 p48 p49 p50 p51 p53 p54 p56 p59 p62 p65 p68 p71 p74 p77:Option Addr}
variable {Rr:Nat→HA}
theorem NE {a0 a1:Int} {Q:Int→Prop} (hd:IA a0 a1 Q) :
  BZ prog 56 [.int .i64 a0,.int .i64 a1] I (fun _=>fV Q):=by
 refine Fun.en func56 ntmps56 r fun w0 M=>?_
 refine .sr (.kn 1 [1,0] r (.seq (.sk 3 r ?_)))
 refine AL hd (fun a hd=>?_) fun a hd=>?_
 · rw [a]
   exact .kn 3 [10,1,0] r (.condKT r r (.sr (.kn 1 [4] r (.r0 results56 r ⟨0,r,hd⟩))))
 rw [a]
 refine .kn 3 [10,1,0] r (.condP r hd (fun b hd=>?_) fun b hd=>?_)
 · exact .sr (.kn 1 [4] r (.r0 results56 r ⟨0,r,hd⟩))
 refine .sn [1,0] r (.sk 2 r ?_)
 obtain ⟨c,hd⟩:=hd
 exact .rem r r c r r (.kn 1 [4] r (.r0 results56 r ⟨(a0.tmod a1),r,hd⟩))
theorem XL {a0:GQ} {a1:Int} {Q:(List FY)→Prop} (R3:RepSl WJ I p1 c2 a0.L) (hd:IE a0 a1 Q) :
  BZ prog 18 [.agg #[.slice p1 a0.L.length c2,.int .u8 a0.Windows],.int .i64 a1] I (fun I_ v=>∃ r p4 c5,v=.slice p4 r.length c5∧RepSl WJ I_ p4 c5 r∧Q r):=by
 refine Fun.en func18 ntmps18 r fun w0 M=>?_
 refine .sr (.bx r fun b9=>?_)
 refine .ks 1 r (.nk [2,1] 1 r (.no [5,2,1] r (.seq (.sr (.kn 1 [6,5,2,1] r (.block (.own0 WJ 47 (.lx hd [2,1] [1] r (fun j E l (a,f)=>fun c w=>∃ g h,j ⟨48,[],none⟩ (fun I_=>True) ((5,.slice g a.length h) :: (6,.int .i64 f) :: E) (OwnSl WJ 47 g h a :: l) c w) (fun c w ho hs=>⟨_,_,jf rf trivial [0,0] r ho hs⟩) ?_))))))))
 rintro ⟨a,f⟩ S hd c w ⟨g,h,d,b,_,hok,hsym⟩
 have R3:=b.u1 R3
 refine Cod.at hok hsym (.seq (.sk 2 r (.lo isAgg26 .p1 r (.ln WQ r (.ks 2 r ?_)))))
 refine AL hd (fun e hd=>?_) fun e hd=>?_
 · rw [e]
   refine .kn 3 [16,6,5,2,1] r (.condP r hd (fun s hd=>?_) fun s hd=>?_)
   · refine .sn [6,5,2,1] r (.seq (.block (.sk 1 r (.lo isAgg26 .p1 r (.ks 1 r ?_)))))
     obtain ⟨k,U,i,hd⟩:=hd
     obtain ⟨V,o173,T,O,t,u⟩:=R3.2 _ _ i
     cases u
     refine .ixa WQ TC r O r k (AH i k) r r (.ldW iS TC t r r r r (.al vG r fun W=>?_))
     refine .sa TC .z r (.nk [7,6,5,2,1] 1 r (.lo isAgg45 .z r ?_))
     have x:=NE (I:=d) hd
     refine .cq call56 x r fun m hd=>?_
     refine .ks 2 r (.s1 sizeOf45 .z r (.nk [7,6,5,2,1] 1 r (.lo BJ .z r (.ks 1 r ?_))))
     have y:=NE (I:=d) hd
     refine .cq call56 y r fun o hd=>?_
     refine .ks 1 r (.s1 FQ .z r (.nk [7,6,5,2,1] 1 r (.lo BJ .z r (.ks 1 r ?_))))
     have C:=NE (I:=d) hd
     refine .cq call56 C r fun p hd=>?_
     refine .ks 1 r (.s1 FQ .z r (.nk [7,6,5,2,1] 1 r (.lo BJ .z r ?_)))
     have D:=NE (I:=d) hd
     refine .cq call56 D r fun q hd=>?_
     refine .ks 1 r (.s1 FQ .z r (.no [7,6,5,2,1] r (.region (.ks 1 r (.lw iS TC .z r (.buildSlice 1 WQ TC vG r r (.c r r r .n) r r fun X=>?_))))))
     obtain ⟨F,hd⟩:=hd
     refine .append (ys:=[({ Kind:=AJ (m+1),A:=o,B:=p,K:=q }:FY)]) 32 .p2 WQ WQ Ae3 r r r r r r r r r (.box .z (.one r) r) F r r fun Y Z=>?_
     exact .kn 1 [5,6,2,1] r (.drop .p1 (.drop .p1 (.region (.ks 3 r (.nil' fun c w ho hs=>⟨((a++([({ Kind:=AJ (m+1),A:=o,B:=p,K:=q }:FY)])),AJ (f+1)),hd,_,_,jf b trivial [0,0] r ho hs⟩)))))
   refine .en [5] r (.drop .p1 (.sr (.kn 2 [4] r (.pub .z fun a2 G P=>?_))))
   have H:=G.u1 b
   exact .r1 results18 r H ⟨a,_,_,r,P,hd⟩
 rw [e]
 refine .kn 3 [16,6,5,2,1] r (.condKF r r (.en [5] r (.drop .p1 (.sr (.kn 2 [4] r (.pub .z fun a3 J R=>?_))))))
 have N:=J.u1 b
 exact .r1 results18 r N ⟨a,_,_,r,R,hd⟩
theorem TN {a0:Int} {Q:Int→Prop} (hd:LX a0 Q) :
  BZ prog 132 [.int .u8 a0] I (fun I_ v=>∃ r,v=.int .u8 r∧Q r):=by
 refine Fun.en func132 ntmps132 r fun w0 M=>?_
 exact .sk 1 r (.nk [0] 1 r (.rem r r (by decide) r r (.kn 1 [2] r (.r0 results132 r ⟨(a0.tmod 14),r,hd⟩))))
theorem YY {a0:Int} {Q:Int→Prop} (hd:OY a0 Q) :
  BZ prog 68 [.int .i64 a0] I (fun _=>fV Q):=by
 refine Fun.en func68 ntmps68 r fun w0 M=>?_
 refine .sr (.kn 1 [0] r (.seq (.sk 3 r ?_)))
 refine AL hd (fun a hd=>?_) fun a hd=>?_
 · rw [a]
   exact .kn 3 [8,0] r (.condKT r r (.sr (.kn 1 [2] r (.r0 results68 r ⟨1,r,hd⟩))))
 rw [a]
 refine .kn 3 [8,0] r (.condP r hd (fun b hd=>?_) fun b hd=>?_)
 · exact .sr (.kn 1 [2] r (.r0 results68 r ⟨1,r,hd⟩))
 exact .sn [0] r (.sr (.kn 2 [2] r (.r0 results68 r ⟨a0,r,hd⟩)))
theorem bO {a0:Int} {Q:Int→Prop} (hd:RM a0 Q) :
  BZ prog 258 [.int .u8 a0] I (fun _=>fV Q):=by
 refine Fun.en func258 ntmps258 r fun w0 M=>?_
 exact .sk 1 r (.nk [0] 1 r (.conv un5 Z5 r r r (.rem r r (by decide) r r (.kn 1 [2] r (.r0 results258 r ⟨((AJ (a0)).tmod 40),r,hd⟩)))))
theorem qL {a0:List AC} {Q:(List AC)→Prop} (R3:RepSl AX I p1 c2 a0) (hd:XX a0 Q) :
  BZ prog 259 [.slice p1 a0.length c2] I (AdO Q):=by
 refine Fun.en func259 ntmps259 r fun w0 M=>?_
 refine .sr (.kn 1 [0] r (.seq (.sk 1 r (.ln FS r (.kn 1 [5,0] r (.condP r hd (fun c hd=>?_) fun c hd=>?_))))))
 · refine .region (.ks 1 r ?_)
   obtain ⟨j,k,g,hd⟩:=hd
   have a:Int.toNat 0≤Int.toNat 60:=by omega
   have b:Int.toNat 60≤a0.length:=by omega
   obtain ⟨h,i,d,e,f⟩:=RepSl.sliceW R3 (Int.toNat 0) (Int.toNat 60) c2 a b (.inl rfl)
   exact .sliceW (L:=Int.toNat 0) (H:=Int.toNat 60) (cm:=c2) FS FT r r R3.1 r r r (.inl ⟨r,r⟩) (.inr ⟨_,_,r,(by omega),r⟩) (.inl r) a b r d e r r (.ks 1 r (.nk [0] 2 r (.no [2] r (.r0 results259 r ⟨((a0.take (Int.toNat 60)).drop (Int.toNat 0)),_,_,r,f,hd⟩))))
 exact .sn [0] r (.sr (.kn 2 [2] r (.r0 results259 r ⟨a0,_,_,r,R3,hd⟩)))
theorem nF {a0:Int×Int} {a1:List AC} {Q:Rows→Prop} (R3:RepSl AX I p1 c2 a1) (hd:UX a0 a1 Q) :
  BZ prog 209 [.agg #[.int .u8 a0.1,.int .u8 a0.2],.slice p1 a1.length c2] I (o7_ Q):=by
 refine Fun.en func209 ntmps209 r fun w0 M=>?_
 refine .sr (.bx r fun f6=>?_)
 refine .al DF r fun f7=>?_
 refine .no [4,2,1] r (.seq (.dr [0,1,3,4,2,5,6] 7 (.h r (fun _=>.ixArr (i:=0) vD wU r r (by decide) (o:=0) r r r .mk) (.h r (fun _=>.lo rE .p1 r .mk) (.h r (fun _=>.ixArr (i:=1) vD wU r r (by decide) (o:=1) r r r .mk) (.h r (fun _=>.lo rE .p1 r .mk) (.ww r fun ex=>?_)))))))
 have b5:=bO (I:=I) hd
 refine .cq call258 b5 r fun b3 hd=>?_
 refine .so 2 r r r (.ch r (fun _=>.lo rE .p1 r .mk) (.ch r (fun _=>.ixArr (i:=1) vD wU r r (by decide) (o:=1) r r r .mk) trivial)) (.ww r fun ex=>?_)
 have b6:=bO (I:=I) hd
 refine .cq call258 b6 r fun b4 hd=>?_
 refine .so 2 r r r trivial (.fk 1 r (.e2 7 (.kn 1 [6,5,4,1] r (.drop .p1 (.sk 1 r (.nk [7,6,5,4,1] 1 r ?_))))))
 have b7:=qL (I:=I) R3 hd
 refine .call call259 r b7 r r fun f8 f9 B b8=>?_
 obtain ⟨g0,g1,g2,rfl,C,hd⟩:=b8
 have R3:=B.u1 R3
 refine .kn 1 [1,7,6,5,4] r (.seq (.sr (.kn 1 [8,1,7,6,5,4] r (.block (.own0 AX 103 (.lx hd [6,5,4,1] [1] r (fun j E l (b,d)=>fun c w=>∃ p q,j ⟨73,[],none⟩ (fun I_=>True) ((7,.slice p b.length q) :: (8,.int .i64 d) :: E) (OwnSl AX 103 p q b :: l) c w) (fun c w ho hs=>⟨_,_,jf rf trivial [0,0] r ho hs⟩) ?_))))))
 rintro ⟨b,d⟩ c6 hd c w ⟨p,q,c9,a,_,hok,hsym⟩
 obtain ⟨F,C⟩:=a.u2 B C
 refine Cod.at hok hsym (.seq (.sk 2 r (.ln FS r (.kn 1 [23,8,7,6,5,4,1] r (.condP r hd (fun G hd=>?_) fun G hd=>?_)))))
 · refine .sn [8,7,6,5,4,1] r (.seq (.block (.sk 2 r ?_)))
   obtain ⟨D,e,y,hd⟩:=hd
   obtain ⟨d0,o331,c7,b9,H,J⟩:=C.2 _ _ y
   cases J
   refine .ixa FS FT r b9 r D (AH y D) r r (.ldW isAgg103 FT H r r r r (.al LZ r fun d1=>?_))
   refine .sa FT .z r (.no [9,8,7,6,5,4,1] r (.seq (.sk 1 r (.lo BJ .z r (.ks 2 r ?_)))))
   refine AL hd (fun g hd=>?_) fun g hd=>?_
   · rw [g]
     exact .kn 12 [45,9,8,7,6,5,4,1] r (.condKT r r (.en [8,7,6,5,4,1] r (.drop .z (.region (.ks 3 r (.nil' fun c w ho hs=>⟨(b,AJ (d+1)),hd,_,_,jf a trivial [0,0] r ho hs⟩))))))
   rw [g]
   refine .ks 1 r (.yes r (.lo BJ .z r (.ks 3 r ?_)))
   refine AL hd (fun k hd=>?_) fun k hd=>?_
   · rw [k]
     exact .kn 7 [45,9,8,7,6,5,4,1] r (.condKT r r (.en [8,7,6,5,4,1] r (.drop .z (.region (.ks 3 r (.nil' fun c w ho hs=>⟨(b,AJ (d+1)),hd,_,_,jf a trivial [0,0] r ho hs⟩))))))
   rw [k]
   refine .ks 4 r ?_
   refine AL hd (fun m hd=>?_) fun m hd=>?_
   · rw [m]
     exact .kn 3 [45,9,8,7,6,5,4,1] r (.condKT r r (.en [8,7,6,5,4,1] r (.drop .z (.region (.ks 3 r (.nil' fun c w ho hs=>⟨(b,AJ (d+1)),hd,_,_,jf a trivial [0,0] r ho hs⟩))))))
   rw [m]
   refine .kn 3 [45,9,8,7,6,5,4,1] r (.condP r hd (fun K hd=>?_) fun K hd=>?_)
   · exact .en [8,7,6,5,4,1] r (.drop .z (.region (.ks 3 r (.nil' fun c w ho hs=>⟨(b,AJ (d+1)),hd,_,_,jf a trivial [0,0] r ho hs⟩))))
   refine .sn [9,8,7,6,5,4,1] r (.sk 1 r (.lo BJ .z r (.ks 1 r ?_)))
   obtain ⟨L,hd⟩:=hd
   refine .rem r r L r r (.ks 1 r (.s1 FQ .z r (.nk [9,8,7,6,5,4,1] 1 r (.lo BJ .z r (.ks 1 r ?_)))))
   obtain ⟨N,hd⟩:=hd
   refine .rem r r N r r (.ks 1 r (.s1 FQ .z r (.no [9,8,7,6,5,4,1] r (.region (.ks 1 r (.lw isAgg103 FT .z r (.buildSlice 1 FS FT LZ r r (.c r r r .n) r r fun d2=>?_)))))))
   obtain ⟨O,hd⟩:=hd
   refine .append (ys:=[({ Row:=e.Row.tmod b3,Col:=e.Col.tmod b4,Val:=e.Val }:AC)]) 24 .p2 FS FS dE r r r r r r r r r (.box .z (.one r) r) O r r fun d3 d4=>?_
   exact .kn 1 [7,8,6,5,4,1] r (.drop .p1 (.drop .p1 (.region (.ks 3 r (.nil' fun c w ho hs=>⟨((b++([({ Row:=e.Row.tmod b3,Col:=e.Col.tmod b4,Val:=e.Val }:AC)])),AJ (d+1)),hd,_,_,jf a trivial [0,0] r ho hs⟩)))))
 refine .en [7,6,5,4] r (.sk 3 r (.pub .z fun c0 P s=>?_))
 obtain ⟨R,S⟩:=P.u2 F a
 have T:=ZF (I:=c0) s hd
 refine .call call60 r T r r fun d5 c1 U V=>?_
 obtain ⟨c3,d6,d7,d8,d9,e0,e1,rfl,t,u,v,hd⟩:=V
 obtain ⟨A,W,s⟩:=U.u3 R S s
 refine .ks 3 r (.al DF r fun e3=>?_)
 refine .sa AR .z r (.kn 1 [11,10,6,5,4] r (.seq (.sr (.kn 2 [68,10,6,5,4] r (.condP r hd (fun X hd=>?_) fun X hd=>?_)))))
 · refine .sk 2 r ?_
   have Y:=TI (I:=c1) hd
   refine .callO call128 r Y r r fun e4 e5 e6 Z a2=>?_
   obtain ⟨c4,e7,e8,e9,f0,f1,f2,rfl,rfl,hd⟩:=a2
   obtain ⟨a3,a4,t,u,v⟩:=Z.u5 A W t u v
   refine .sa AR .p4 r (.no [4] r (.drop .p3 (.pub .z fun f3 a5 f=>?_)))
   obtain ⟨a6,a7⟩:=a5.u2 a3 a4
   refine .pub .z fun f4 a8 x=>?_
   obtain ⟨a9,b0,f⟩:=a8.u3 a6 a7 f
   refine .pub .z fun f5 b1 c5=>?_
   obtain ⟨b2,c8,f,x⟩:=b1.u4 a9 b0 f x
   exact .ret (BS results209 (.w BR AR r .z r .n) b2 ⟨c4,_,_,_,_,_,_,r,f,x,c5,hd⟩)
 exact .sn [10,4] r (.sr (.lw BR AR .z r (.sa AR .p1 r (.no [4] r (.drop .z (.ret (BS results209 (.w BR AR r .z r .n) A ⟨c3.1,_,_,_,_,_,_,r,t,u,v,hd⟩)))))))
theorem jE {a0 a1:Int} {Q:Int→Prop} (hd:SQ a0 a1 Q) :
  BZ prog 260 [.int .i64 a0,.int .i64 a1] I (fun _=>fV Q):=by
 refine Fun.en func260 ntmps260 r fun w0 M=>?_
 refine .sk 1 r (.nk [1,0] 1 r (.no [5,1] r (.block (.sr (.kn 2 [12,5,1] r (.condP r hd (fun a hd=>?_) fun a hd=>?_))))))
 · exact .sr (.kn 2 [4] r (.r0 results260 r ⟨a1,r,hd⟩))
 refine .sr (.kn 2 [15,1] r (.condP r hd (fun b hd=>?_) fun b hd=>?_))
 · exact .sr (.kn 3 [4] r (.r0 results260 r ⟨(nI .i64 a1 1),r,hd⟩))
 refine .sr (.kn 3 [1] r (.seq (.sk 1 r (.rem r r (by decide) r r (.kn 1 [10,1] r (.condP r hd (fun c hd=>?_) fun c hd=>?_))))))
 · exact .sr (.kn 1 [4] r (.r0 results260 r ⟨4611686018427387904,r,hd⟩))
 exact .sn [1] r (.sr (.kn 2 [4] r (.r0 results260 r ⟨(nI .i64 a1 4611686018427387903),r,hd⟩)))
theorem iO {a0 a1:Int} {Q:Int→Prop} (hd:QB a0 a1 Q) :
  BZ prog 210 [.int .i64 a0,.int .i64 a1] I (fun _=>fV Q):=by
 refine Fun.en func210 ntmps210 r fun w0 M=>?_
 refine .sr (.kn 1 [1,0] r (.seq (.sr (.kn 2 [6,1,0] r (.condP r hd (fun a hd=>?_) fun a hd=>?_)))))
 · exact .sk 1 r (.rem r r (by decide) r r (.kn 1 [4] r (.r0 results210 r ⟨(a1.tmod 2147483648),r,hd⟩)))
 refine .sn [1,0] r (.sk 2 r ?_)
 have b:=jE (I:=I) hd
 refine .cq call260 b r fun c hd=>?_
 exact .kn 1 [4] r (.r0 results210 r ⟨c,r,hd⟩)
theorem KO {a0:HZ} {Q:Rows→Prop} (R3:RepSl AX I p1 c2 a0.L) (R6:RepSl LS I p4 c5 a0.X) (R9:RepSl LS I p7 c8 a0.Y) (R12:RepSl Ae2 I p10 c11 a0.F) (hd:FH a0 Q) :
  BZ prog 133 [.agg #[.int .i64 a0.Ring,.int .u8 a0.Size.1,.int .u8 a0.Size.2,.slice p1 a0.L.length c2,.slice p4 a0.X.length c5,.slice p7 a0.Y.length c8,.slice p10 a0.F.length c11,.bool a0.Others]] I (fun I_ v=>∃ r p13 c14 p16 c17 p19 c20,v=.agg #[.int .i64 r.Rows,.int .i64 r.Cols,.slice p13 r.Start.length c14,.slice p16 r.Col.length c17,.slice p19 r.Val.length c20]∧RepSl AE I_ p13 c14 r.Start∧RepSl AE I_ p16 c17 r.Col∧RepSl AE I_ p19 c20 r.Val∧Q r):=by
 refine Fun.en func133 ntmps133 r fun w0 M=>?_
 refine .sr (.bx r fun a3=>?_)
 refine .al DF r fun a4=>?_
 refine .nk [2,1] 1 r (.loadA isAgg25 sizeOf25 r .p1 (.o 2 r) r r r (.ks 1 r (.lo isAgg54 .p1 r ?_)))
 have G:=nF (I:=I) R3 hd
 refine .call call209 r G r r fun a5 R m H=>?_
 obtain ⟨i,a6,a7,a8,a9,b0,b1,rfl,d,e,p,hd⟩:=H
 obtain ⟨R3,R6,R9,R12⟩:=m.u4 R3 R6 R9 R12
 refine .al DF r fun b2=>?_
 refine .sa AR .z r (.nk [3,2,1] 1 r (.lo bY .p2 r ?_))
 have J:=YY (I:=R) hd
 refine .cq call68 J r fun b3 hd=>?_
 refine .kn 1 [4,3,2] r (.drop .p2 (.sr (.kn 1 [5,4,3,2] r (.seq (.sr (.kn 1 [6,5,4,3,2] r (.block (.own0 AE 2 (.lx hd [4,3,2] [2,1] r (fun j E l (a,f)=>fun c w=>∃ g h,j ⟨35,[],none⟩ (fun I_=>True) ((5,.slice g a.length h) :: (6,.int .i64 f) :: E) (OwnSl AE 2 g h a :: l) c w) (fun c w ho hs=>⟨_,_,jf rf trivial [0,1,0] r ho hs⟩) ?_)))))))))
 rintro ⟨a,f⟩ P hd c w ⟨g,h,K,b,_,hok,hsym⟩
 obtain ⟨t,d,e,p⟩:=b.u4 m d e p
 refine Cod.at hok hsym (.seq (.sk 2 r (.lo iR .p2 r (.ln UA r (.kn 1 [19,6,5,4,3,2] r (.condP r hd (fun u hd=>?_) fun u hd=>?_))))))
 · refine .sn [6,5,4,3,2] r (.seq (.block (.region (.ks 3 r (.lo iR .p2 r (.ks 1 r ?_))))))
   obtain ⟨q,U,k,hd⟩:=hd
   obtain ⟨V,o148,S,N,x,y⟩:=p.2 _ _ k
   cases y
   refine .ixa UA wT r N r q (AH k q) r r (.ld1 (j:=0) Y6 x r r r r r ?_)
   have A:=iO (I:=K) hd
   refine .cq call210 A r fun s hd=>?_
   refine .buildSlice 1 UA wT zeroValue2 r r (.c r r r .n) r r fun W=>?_
   obtain ⟨B,hd⟩:=hd
   refine .append (ys:=[s]) 8 .p1 UA UA IN2 r r r r r r r r r (.box .z (.one r) r) B r r fun Z a1=>?_
   exact .kn 1 [5,6,4,3,2] r (.drop .p1 (.region (.ks 3 r (.nil' fun c w ho hs=>⟨((a++([s])),AJ (f+1)),hd,_,_,jf b trivial [0,0,0] r ho hs⟩))))
 refine .en [5,3,2] r (.sk 2 r (.s1 sizeOf31 .p2 r (.ns [3,2] r (.lw BR AR .p2 r (.sa AR .p1 r (.no [2] r (.drop .p2 (.pub .z fun a2 C O=>?_))))))))
 obtain ⟨D,T,d,e⟩:=C.u4 t b d e
 exact .ret (BS results133 (.w BR AR r .z r .n) D ⟨({ Rows:=i.Rows,Cols:=i.Cols,Start:=i.Start,Col:=i.Col,Val:=a }:Rows),_,_,_,_,_,_,r,d,e,O,hd⟩)
theorem ZO {a0:NP} {Q:(Rows×Rows×Rows)→Prop} (R3:RepSl AX I p1 c2 a0.A) (R6:RepSl AX I p4 c5 a0.B) (R9:RepSl AX I p7 c8 a0.M) (hd:KF a0 Q) :
  BZ prog 67 [.agg #[.int .i64 a0.Ring,.int .u8 a0.Size.1,.int .u8 a0.Size.2.1,.int .u8 a0.Size.2.2,.slice p1 a0.A.length c2,.slice p4 a0.B.length c5,.slice p7 a0.M.length c8]] I (fun I_ v=>∃ r p10 c11 p13 c14 p16 c17 p19 c20 p22 c23 p25 c26 p28 c29 p31 c32 p34 c35,v=.agg #[.int .i64 r.1.Rows,.int .i64 r.1.Cols,.slice p10 r.1.Start.length c11,.slice p13 r.1.Col.length c14,.slice p16 r.1.Val.length c17,.int .i64 r.2.1.Rows,.int .i64 r.2.1.Cols,.slice p19 r.2.1.Start.length c20,.slice p22 r.2.1.Col.length c23,.slice p25 r.2.1.Val.length c26,.int .i64 r.2.2.Rows,.int .i64 r.2.2.Cols,.slice p28 r.2.2.Start.length c29,.slice p31 r.2.2.Col.length c32,.slice p34 r.2.2.Val.length c35]∧RepSl AE I_ p10 c11 r.1.Start∧RepSl AE I_ p13 c14 r.1.Col∧RepSl AE I_ p16 c17 r.1.Val∧RepSl AE I_ p19 c20 r.2.1.Start∧RepSl AE I_ p22 c23 r.2.1.Col∧RepSl AE I_ p25 c26 r.2.1.Val∧RepSl AE I_ p28 c29 r.2.2.Start∧RepSl AE I_ p31 c32 r.2.2.Col∧RepSl AE I_ p34 c35 r.2.2.Val∧Q r):=by
 refine Fun.en func67 ntmps67 r fun w0 M=>?_
 refine .sr (.bx r fun b2=>?_)
 refine .al zeroValue113 r fun b3=>?_
 refine .no [2,1] r (.seq (.dr [0,1,2,4,5,6,8,9,10,3,7,11,12,13] 14 (.fk 1 r (.h r (fun _=>.ixArr (i:=0) vF wU r r (by decide) (o:=1) r r r .mk) (.h r (fun _=>.lo rE .p1 r .mk) (.fk 1 r (.h r (fun _=>.ixArr (i:=1) vF wU r r (by decide) (o:=2) r r r .mk) (.h r (fun _=>.lo rE .p1 r .mk) (.fk 1 r ?_)))))))))
 refine .h r (fun _=>.ixArr (i:=2) vF wU r r (by decide) (o:=3) r r r .mk) (.h r (fun _=>.lo rE .p1 r .mk) (.ww r fun ex=>?_))
 have C:=TN (I:=I) hd
 refine .cq call132 C r fun u hd=>?_
 refine .so 2 r r r (.ch r (fun _=>.lo rE .p1 r .mk) (.ch r (fun _=>.ixArr (i:=2) vF wU r r (by decide) (o:=3) r r r .mk) (.ck 1 r r (.ch r (fun _=>.lo rE .p1 r .mk) (.ch r (fun _=>.ixArr (i:=1) vF wU r r (by decide) (o:=2) r r r .mk) (.ck 1 r r trivial)))))) (.ww r fun ex=>?_)
 have D:=TN (I:=I) hd
 refine .cq call132 D r fun x hd=>?_
 refine .so 2 r r r (.ch r (fun _=>.lo rE .p1 r .mk) (.ch r (fun _=>.ixArr (i:=2) vF wU r r (by decide) (o:=3) r r r .mk) (.ck 1 r r trivial))) (.ww r fun ex=>?_)
 have E:=TN (I:=I) hd
 refine .cq call132 E r fun y hd=>?_
 refine .so 2 r r r trivial (.fk 2 r (.e2 14 (.ks 1 r (.nk [5,4,3,2,1] 1 r (.lo bY .p1 r (.ks 2 r (.buildArr zeroValue25 vD wU (.c r r r (.o r) (.c r r r (.o r) .n)) r r (.ks 1 r (.lo isAgg54 .p1 r ?_)))))))))
 refine .build jS underlying183 xR (.c r r r (.o r) (.c r r r (.o r) (.c r r r (.o r) .n))) (by exact ⟨⟨_,_,r,r,r⟩,⟨⟨_,_,r,r,r⟩,⟨⟨_,_,r,r,r⟩,trivial⟩⟩⟩) r r (.al jS r fun b4=>?_)
 refine .sa sizeOf183 .z r (.nk [6,5,4,3,2,1] 1 r (.lo bY .p2 r (.ks 2 r (.buildArr zeroValue25 vD wU (.c r r r (.o r) (.c r r r (.o r) .n)) r r (.ks 1 r (.lo isAgg54 .p2 r (.build jS underlying183 xR (.c r r r (.o r) (.c r r r (.o r) (.c r r r (.o r) .n))) (by exact ⟨⟨_,_,r,r,r⟩,⟨⟨_,_,r,r,r⟩,⟨⟨_,_,r,r,r⟩,trivial⟩⟩⟩) r r (.al jS r fun b5=>?_))))))))
 refine .sa sizeOf183 .z r (.nk [7,6,5,3,2,1] 1 r (.lo bY .p3 r (.ks 2 r (.buildArr zeroValue25 vD wU (.c r r r (.o r) (.c r r r (.o r) .n)) r r (.ks 1 r (.lo isAgg54 .p3 r (.build jS underlying183 xR (.c r r r (.o r) (.c r r r (.o r) (.c r r r (.o r) .n))) (by exact ⟨⟨_,_,r,r,r⟩,⟨⟨_,_,r,r,r⟩,⟨⟨_,_,r,r,r⟩,trivial⟩⟩⟩) r r (.al jS r fun b6=>?_))))))))
 refine .sa sizeOf183 .z r (.no [8,7,6,2] r (.drop .p4 (.seq (.dr [0,2,4,1,3,5,6] 7 (.h r (fun _=>.lw isAgg183 sizeOf183 .p2 r .mk) (.h r (fun _=>.lw isAgg183 sizeOf183 .p1 r .mk) (.h r (fun _=>.lw isAgg183 sizeOf183 .z r .mk) (.ww r fun ex=>?_))))))))
 have G:=KO (I:=I) (a0:=({ Ring:=a0.Ring,Size:=(u,x),L:=a0.A,X:=([]:List CE),Y:=([]:List CE),F:=([]:List Int),Others:=false }:HZ)) R3 (.nil _ none 0) (.nil _ none 0) (.nil _ none 0) hd
 refine .call call133 r G r r fun b7 R k H=>?_
 obtain ⟨S,b8,b9,c0,c1,c3,c4,rfl,a,b,d,hd⟩:=H
 obtain ⟨R3,R6,R9⟩:=k.u3 R3 R6 R9
 refine .so 4 r r r (.ch r (fun _=>.lw isAgg183 sizeOf183 .z r .mk) (.ch r (fun _=>.lw isAgg183 sizeOf183 .p1 r .mk) trivial)) (.ww r fun ex=>?_)
 have m:=KO (I:=R) (a0:=({ Ring:=a0.Ring,Size:=(x,y),L:=a0.B,X:=([]:List CE),Y:=([]:List CE),F:=([]:List Int),Others:=false }:HZ)) R6 (.nil _ none 0) (.nil _ none 0) (.nil _ none 0) hd
 refine .call call133 r m r r fun c6 T l J=>?_
 obtain ⟨U,V,W,Z,a1,a2,a3,rfl,e,f,g,hd⟩:=J
 obtain ⟨p,R3,R6,R9,a,b⟩:=l.u6 k R3 R6 R9 a b
 have d:=l.u1 d
 refine .so 4 r r r (.ch r (fun _=>.lw isAgg183 sizeOf183 .z r .mk) trivial) (.ww r fun ex=>?_)
 have q:=KO (I:=T) (a0:=({ Ring:=a0.Ring,Size:=(u,y),L:=a0.M,X:=([]:List CE),Y:=([]:List CE),F:=([]:List Int),Others:=false }:HZ)) R9 (.nil _ none 0) (.nil _ none 0) (.nil _ none 0) hd
 refine .call call133 r q r r fun a4 a5 j s=>?_
 obtain ⟨K,a6,a7,a8,a9,b0,b1,rfl,N,O,P,hd⟩:=s
 obtain ⟨t,R3,R6,R9,a,b⟩:=j.u6 p R3 R6 R9 a b
 obtain ⟨d,e,f,g⟩:=j.u4 d e f g
 exact .so 4 r r r trivial (.h r (fun _=>.buildArr zeroValue113 fW AR (.c r r r (.o r) (.c r r r (.o r) (.c r r r (.o r) .n))) r r .mk) (.e2 7 (.sa sizeOf113 .p3 r (.no [2] r (.drop .z (.drop .z (.drop .z (.ret (BS results67 (.w isAgg113 sizeOf113 r .z r .n) t ⟨(S,U,K),_,_,_,_,_,_,_,_,_,_,_,_,_,_,_,_,_,_,r,a,b,d,e,f,g,N,O,P,hd⟩)))))))))
theorem bP {a0:JT} {Q:BB→Prop} (R3:RepSl AX I p1 c2 a0.T.A) (R6:RepSl AX I p4 c5 a0.T.B) (R9:RepSl AX I p7 c8 a0.T.M) (hd:LF a0 Q) :
  BZ prog 21 [.agg #[.int .i64 a0.T.Ring,.int .u8 a0.T.Size.1,.int .u8 a0.T.Size.2.1,.int .u8 a0.T.Size.2.2,.slice p1 a0.T.A.length c2,.slice p4 a0.T.B.length c5,.slice p7 a0.T.M.length c8,.int .u8 a0.R,.int .u8 a0.C,.int .u8 a0.Room]] I (fun I_ v=>∃ r p10 c11 p13 c14 p16 c17 p19 c20 p22 c23 p25 c26 p28 c29 p31 c32 p34 c35,v=.agg #[.int .i64 r.Ring,.int .i64 r.A.Rows,.int .i64 r.A.Cols,.slice p10 r.A.Start.length c11,.slice p13 r.A.Col.length c14,.slice p16 r.A.Val.length c17,.int .i64 r.B.Rows,.int .i64 r.B.Cols,.slice p19 r.B.Start.length c20,.slice p22 r.B.Col.length c23,.slice p25 r.B.Val.length c26,.int .i64 r.Mask.Rows,.int .i64 r.Mask.Cols,.slice p28 r.Mask.Start.length c29,.slice p31 r.Mask.Col.length c32,.slice p34 r.Mask.Val.length c35,.int .i64 r.R,.int .i64 r.C,.int .i64 r.Room]∧RepSl AE I_ p10 c11 r.A.Start∧RepSl AE I_ p13 c14 r.A.Col∧RepSl AE I_ p16 c17 r.A.Val∧RepSl AE I_ p19 c20 r.B.Start∧RepSl AE I_ p22 c23 r.B.Col∧RepSl AE I_ p25 c26 r.B.Val∧RepSl AE I_ p28 c29 r.Mask.Start∧RepSl AE I_ p31 c32 r.Mask.Col∧RepSl AE I_ p34 c35 r.Mask.Val∧Q r):=by
 refine Fun.en func21 ntmps21 r fun w0 M=>?_
 refine .sr (.bx r fun O=>?_)
 refine .al oI r fun P=>?_
 refine .nk [2,1] 1 r (.loadA isAgg56 sizeOf56 r .p1 (.o 7 r) r r r ?_)
 have d:=ZO (I:=I) R3 R6 R9 hd
 refine .call call67 r d r r fun S q a f=>?_
 obtain ⟨b,U,V,W,X,Y,Z,a1,a2,a3,y,D,E,F,G,H,J,K,L,rfl,s,t,u,x,g,j,k,l,m,hd⟩:=f
 obtain ⟨R3,R6,R9⟩:=a.u3 R3 R6 R9
 refine .al zeroValue113 r fun N=>?_
 refine .sa sizeOf113 .z r (.no [3,2,1] r (.seq (.dr [0,1,2,4,5,6,7,8,9,10,11,12,13,14,15,16,17,18,19,20,21,22,23,24,3,25] 26 (.fk 2 r (.h r (fun _=>.lo bY .p2 r .mk) (.h r (fun _=>.ixArr (i:=0) fW AR r r (by decide) (o:=0) r r r .mk) (.h r (fun _=>.loadA BR AR r .z (.o 5 r) r r r .mk) (.h r (fun _=>.ixArr (i:=1) fW AR r r (by decide) (o:=5) r r r .mk) (.h r (fun _=>.loadA BR AR r .z (.o 5 r) r r r .mk) ?_)))))))))
 refine .h r (fun _=>.ixArr (i:=2) fW AR r r (by decide) (o:=10) r r r .mk) (.h r (fun _=>.loadA BR AR r .z (.o 5 r) r r r .mk) (.fk 1 r (.h r (fun _=>.lo rE .p2 r .mk) (.h r (fun _=>.conv un5 Z5 r r r .mk) (.h r (fun _=>.rem r r (by decide) r r .mk) (.fk 2 r (.h r (fun _=>.lo rE .p2 r .mk) (.h r (fun _=>.conv un5 Z5 r r r .mk) (.h r (fun _=>.rem r r (by decide) r r .mk) ?_)))))))))
 refine .fk 2 r (.h r (fun _=>.lo rE .p2 r .mk) (.h r (fun _=>.conv un5 Z5 r r r .mk) (.h r (fun _=>.rem r r (by decide) r r .mk) (.fk 1 r (.ww r fun ex=>?_)))))
 have e:=YY (I:=q) hd
 refine .cq call68 e r fun p hd=>?_
 exact .so 3 r r r (.ck 1 r r (.ch r (fun _=>.rem r r (by decide) r r .mk) (.ch r (fun _=>.conv un5 Z5 r r r .mk) (.ch r (fun _=>.lo rE .p2 r .mk) (.ck 2 r r (.ch r (fun _=>.rem r r (by decide) r r .mk) (.ch r (fun _=>.conv un5 Z5 r r r .mk) (.ch r (fun _=>.lo rE .p2 r .mk) (.ck 2 r r (.ch r (fun _=>.rem r r (by decide) r r .mk) (.ch r (fun _=>.conv un5 Z5 r r r .mk) (.ch r (fun _=>.lo rE .p2 r .mk) (.ck 1 r r (.ch r (fun _=>.loadA BR AR r .z (.o 5 r) r r r .mk) (.ch r (fun _=>.ixArr (i:=2) fW AR r r (by decide) (o:=10) r r r .mk) (.ch r (fun _=>.loadA BR AR r .z (.o 5 r) r r r .mk) (.ch r (fun _=>.ixArr (i:=1) fW AR r r (by decide) (o:=5) r r r .mk) (.ch r (fun _=>.loadA BR AR r .z (.o 5 r) r r r .mk) (.ch r (fun _=>.ixArr (i:=0) fW AR r r (by decide) (o:=0) r r r .mk) trivial))))))))))))))))))) (.h r (fun _=>.build oI vE AaO (.c r r r (.o r) (.c r r r (.o r) (.c r r r (.o r) (.c r r r (.o r) (.c r r r (.o r) (.c r r r (.o r) (.c r r r (.o r) .n))))))) (by exact ⟨⟨_,_,r,r,r⟩,⟨⟨_,_,r,r,r⟩,⟨⟨_,_,r,r,r⟩,⟨⟨_,_,r,r,r⟩,⟨⟨_,_,r,r,r⟩,⟨⟨_,_,r,r,r⟩,⟨⟨_,_,r,r,r⟩,trivial⟩⟩⟩⟩⟩⟩⟩) r r .mk) (.e2 26 (.sa RP .p1 r (.no [2] r (.drop .z (.drop .p1 (.ret (BS results21 (.w VA RP r .z r .n) a ⟨({ Ring:=p,A:=b.1,B:=b.2.1,Mask:=b.2.2,R:=AJ (((AJ (a0.R)).tmod 4)+1),C:=AJ (((AJ (a0.C)).tmod 4)+1),Room:=AJ (((AJ (a0.Room)).tmod 4)+1) }:BB),_,_,_,_,_,_,_,_,_,_,_,_,_,_,_,_,_,_,r,s,t,u,x,g,j,k,l,m,hd⟩))))))))
theorem YH {a0:JT} {a1:GQ} {Q:Bool→Prop} (R3:RepSl AX I p1 c2 a0.T.A) (R6:RepSl AX I p4 c5 a0.T.B) (R9:RepSl AX I p7 c8 a0.T.M) (R12:RepSl WJ I p10 c11 a1.L) (hd:MN a0 a1 Q) :
  BZ prog 8 [.agg #[.int .i64 a0.T.Ring,.int .u8 a0.T.Size.1,.int .u8 a0.T.Size.2.1,.int .u8 a0.T.Size.2.2,.slice p1 a0.T.A.length c2,.slice p4 a0.T.B.length c5,.slice p7 a0.T.M.length c8,.int .u8 a0.R,.int .u8 a0.C,.int .u8 a0.Room],.agg #[.slice p10 a1.L.length c11,.int .u8 a1.Windows]] I (fun _=>fU Q):=by
 refine Fun.en func8 ntmps8 r fun w0 M=>?_
 refine .bank0 AG (.bank0 AN (.sr (.bx r fun O7=>?_)))
 refine .bx r fun O8=>?_
 refine .ks 1 r (.ns [3,2] r (.lw isAgg58 sizeOf58 .p1 r ?_))
 have F6:=bP (I:=I) R3 R6 R9 hd
 refine .call call21 r F6 r r fun O9 G1 r3 F7=>?_
 obtain ⟨G2,P0,P1,P2,P3,P4,P5,P6,P7,P8,P9,Q0,Q1,Q2,Q3,Q4,Q5,Q6,Q7,rfl,g,i,k,m,n,q,s,t,u,hd⟩:=F7
 obtain ⟨R3,R6,R9,R12⟩:=r3.u4 R3 R6 R9 R12
 refine .al oI r fun Q8=>?_
 refine .sa RP .z r (.no [5,3] r (.drop .p2 (.sr (.lw VA RP .z r ?_))))
 have A4:=IP (I:=G1) (o0:=([]:List (Nat×AA))) (o1:=([]:List (Nat×AF))) (a0:=G2) g i k m n q s t u hd
 refine .callS (.f call22 r) (.o [3,2] r) A4 r r fun L6 F8 L7 h8 h0=>?_
 rcases h0 with h0 | h0
 · obtain ⟨L8,rfl,rfl,hd⟩:=h0
   obtain ⟨A5,R12,g,i,k,m⟩:=h8.u6 r3 R12 g i k m
   obtain ⟨n,q,s,t,u⟩:=h8.u5 n q s t u
   refine .rn 4 r (.kn 5 [7,6,5,3] r (.seq (.sk 1 r (.eqNilP Z6 r r r r (.kn 4 [25,6,5,3] r (.condKT r r (.sr (.kn 1 [4] r (.drop .p2 ?_)))))))))
   exact .drop .p2 (.r1 results8 r A5 ⟨false,r,hd⟩)
 obtain ⟨L9,a9,M0,M1,M2,M3,M4,M5,M6,M7,M8,M9,N0,N1,N2,N3,N4,N5,N6,N7,N8,N9,O0,O1,U,rfl,r4,r5,r6,r7,r8,r9,s0,s1,s2,s3,s4,rfl,hd⟩:=h0
 obtain ⟨s5,R12,g,i,k,m⟩:=h8.u6 r3 R12 g i k m
 obtain ⟨n,q,s,t,u⟩:=h8.u5 n q s t u
 refine .rn 6 r (.kn 5 [7,6,5,3] r (.seq (.sk 1 r (.eqNilP Z6 r r r r (.kn 4 [25,6,5,3] r (.condP r hd (fun A6 hd=>?_) fun A6 hd=>?_))))))
 · exact .sr (.kn 1 [4] r (.drop .p2 (.drop .p2 (.drop .p2 (.drop .p2 (.r1 results8 r s5 ⟨false,r,hd⟩))))))
 refine .sn [6,5,3] r (.sk 1 r (.lo BJ .p4 r (.ks 1 r (.lo BJ .p4 r (.ks 2 r (.ns [8,6,5,3] r (.lw isAgg28 sizeOf28 .p5 r (.ks 1 r ?_))))))))
 have A7:=XL (I:=F8) R12 hd
 refine .call call18 r A7 r r fun O2 O3 h9 A8=>?_
 obtain ⟨O4,O5,O6,rfl,e,hd⟩:=A8
 obtain ⟨A9,R12,g,i,k,m⟩:=h9.u6 s5 R12 g i k m
 obtain ⟨n,q,s,t,u,r4⟩:=h9.u6 n q s t u r4
 obtain ⟨r5,r6,r7,r8,r9,s0⟩:=h9.u6 r5 r6 r7 r8 r9 s0
 obtain ⟨s1,s2,s3,s4⟩:=h9.u4 s1 s2 s3 s4
 refine .kn 1 [9,8,6,5] r (.drop .p5 (.seq (.sr (.kn 1 [10,9,8,6,5] r (.block (.lx hd [9,8,6,5] [4] r (fun j E l (l6,l7,l8,i0,i1,i2,l9,m0,i3,i4,i5,m1,m2,i6,i7,i8,m3,m4,m5,i9,j0,m6,j1,m7,m8)=>fun c w=>∃ j2 j3 j4 j5 j6 j7 j8 j9 k0 k1 k2 k3 k4 k5 k6 k7 k8 k9 l0 l1 l2 l3,j ⟨99,[],none⟩ (fun I_=>RepSl AE I_ j2 j3 i0∧RepSl AE I_ j4 j5 i1∧RepSl AE I_ j6 j7 i2∧RepSl AE I_ j8 j9 i3∧RepSl AE I_ k0 k1 i4∧RepSl AE I_ k2 k3 i5∧RepSl AE I_ k4 k5 i6∧RepSl AE I_ k6 k7 i7∧RepSl AE I_ k8 k9 i8∧RepSl BO I_ l0 l1 i9∧RepSl CD I_ l2 l3 j0) ((10,.int .i64 j1) :: E) (pto a9 (.cells #[.int .i64 l6,.int .i64 l7,.int .i64 l8,.slice j2 i0.length j3,.slice j4 i1.length j5,.slice j6 i2.length j7,.int .i64 l9,.int .i64 m0,.slice j8 i3.length j9,.slice k0 i4.length k1,.slice k2 i5.length k3,.int .i64 m1,.int .i64 m2,.slice k4 i6.length k5,.slice k6 i7.length k7,.slice k8 i8.length k9,.int .i64 m3,.int .i64 m4,.int .i64 m5,.slice l0 i9.length l1,.slice l2 j0.length l3,.map (some U)] 121 (0,0)) :: OwnMap CG CD false U m6 :: BA AG m7 :: BA AN m8 :: l) c w) (fun c w ho hs=>⟨_,_,_,_,_,_,_,_,_,_,_,_,_,_,_,_,_,_,_,_,_,_,jf rf ⟨r4,r5,r6,r7,r8,r9,s0,s1,s2,s3,s4⟩ [2,2,0,0,0] r ho hs⟩) ?_))))))
 rintro ⟨l6,l7,l8,i0,i1,i2,l9,m0,i3,i4,i5,m1,m2,i6,i7,i8,m3,m4,m5,i9,j0,m6,j1,m7,m8⟩ F9 hd c w ⟨j2,j3,j4,j5,j6,j7,j8,j9,k0,k1,k2,k3,k4,k5,k6,k7,k8,k9,l0,l1,l2,l3,s6,l4,⟨m9,n0,n1,n2,n3,n4,n5,n6,n7,n8,n9⟩,hok,hsym⟩
 obtain ⟨q4,g,i,k,m,n⟩:=l4.u6 A9 g i k m n
 obtain ⟨q,s,t,u,e⟩:=l4.u5 q s t u e
 refine Cod.at hok hsym (.seq (.sk 2 r (.ln WQ r (.kn 1 [37,10,9,8,6,5] r (.condP r hd (fun w1 hd=>?_) fun w1 hd=>?_)))))
 · refine .sn [10,9,8,6,5] r (.seq (.block (.sk 3 r ?_)))
   obtain ⟨s7,B0,q5,hd⟩:=hd
   obtain ⟨G8,o3675,G3,B1,l5,w2⟩:=e.2 _ _ q5
   cases w2
   refine .ixa WQ TC r B1 r s7 (AH q5 s7) r r (.ldW iS TC l5 r r r r ?_)
   have w3:=IK (I:=s6) (o0:=({ p:=({ Ring:=l6,A:=({ Rows:=l7,Cols:=l8,Start:=i0,Col:=i1,Val:=i2 }:Rows),B:=({ Rows:=l9,Cols:=m0,Start:=i3,Col:=i4,Val:=i5 }:Rows),Mask:=({ Rows:=m1,Cols:=m2,Start:=i6,Col:=i7,Val:=i8 }:Rows),R:=m3,C:=m4,Room:=m5 }:BB),stages:=i9,workers:=j0,boxes:=m6 }:AB)) (o1:=m7) (o2:=m8) (a0:=B0) (b4:=a9) (p5:=j2) (c6:=j3) (p8:=j4) (c9:=j5) (p11:=j6) (c12:=j7) (p14:=j8) (c15:=j9) (p17:=k0) (c18:=k1) (p20:=k2) (c21:=k3) (p23:=k4) (c24:=k5) (p26:=k6) (c27:=k7) (p29:=k8) (c30:=k9) (p32:=l0) (c33:=l1) (p35:=l2) (c36:=l3) (b39:=U) m9 n0 n1 n2 n3 n4 n5 n6 n7 n8 n9 hd
   refine .callS (.f call25 r) (.o [0,0,0,0] r) w3 r r fun G9 H0 H1 h1 w4=>?_
   obtain ⟨h2,H2,H3,H4,H5,H6,H7,H8,H9,I0,I1,I2,I3,I4,I5,I6,I7,I8,I9,J0,J1,J2,J3,rfl,B2,B3,B4,B5,B6,B7,B8,B9,C0,C1,C2,rfl,hd⟩:=w4
   obtain ⟨w5,w6,g,i,k,m⟩:=h1.u6 q4 l4 g i k m
   obtain ⟨n,q,s,t,u,e⟩:=h1.u6 n q s t u e
   obtain ⟨m9,n0,n1,n2,n3,n4⟩:=h1.u6 m9 n0 n1 n2 n3 n4
   obtain ⟨n5,n6,n7,n8,n9,l5⟩:=h1.u6 n5 n6 n7 n8 n9 l5
   refine .rn 5 r (.nk [10,9,8,6,5] 1 r (.no [11,10,9,8,6,5] r (.seq (.sr (.kn 1 [12,11,10,9,8,6,5] r (.block (.lx hd [10,9,8,6,5] [4,2] r (fun j E l (b0,b1,b5,W,X,Y,b6,b7,Z,a2,a3,b8,b9,a4,a5,a6,c0,c1,c3,a7,a8,d0,o3,d1,h3)=>fun c w=>∃ d2 d3 d4 d5 d6 d7 d8 d9 e0 e1 e3 e4 e5 e6 e7 e8 e9 f0 f1 f2 f3 f4,j ⟨99,[],none⟩ (fun I_=>RepSl AE I_ d2 d3 W∧RepSl AE I_ d4 d5 X∧RepSl AE I_ d6 d7 Y∧RepSl AE I_ d8 d9 Z∧RepSl AE I_ e0 e1 a2∧RepSl AE I_ e3 e4 a3∧RepSl AE I_ e5 e6 a4∧RepSl AE I_ e7 e8 a5∧RepSl AE I_ e9 f0 a6∧RepSl BO I_ f1 f2 a7∧RepSl CD I_ f3 f4 a8) ((11,.int .i64 o3) :: (12,.int .i64 d1) :: E) (pto a9 (.cells #[.int .i64 b0,.int .i64 b1,.int .i64 b5,.slice d2 W.length d3,.slice d4 X.length d5,.slice d6 Y.length d7,.int .i64 b6,.int .i64 b7,.slice d8 Z.length d9,.slice e0 a2.length e1,.slice e3 a3.length e4,.int .i64 b8,.int .i64 b9,.slice e5 a4.length e6,.slice e7 a5.length e8,.slice e9 a6.length f0,.int .i64 c0,.int .i64 c1,.int .i64 c3,.slice f1 a7.length f2,.slice f3 a8.length f4,.map (some U)] 121 (0,0)) :: OwnMap CG CD false U d0 :: BA AN h3 :: l) c w) (fun c w ho hs=>⟨_,_,_,_,_,_,_,_,_,_,_,_,_,_,_,_,_,_,_,_,_,_,jf rf ⟨B2,B3,B4,B5,B6,B7,B8,B9,C0,C1,C2⟩ [0,0,1,1,0] r ho hs⟩) ?_)))))))
   rintro ⟨b0,b1,b5,W,X,Y,b6,b7,Z,a2,a3,b8,b9,a4,a5,a6,c0,c1,c3,a7,a8,d0,o3,d1,h3⟩ G0 hd c w ⟨d2,d3,d4,d5,d6,d7,d8,d9,e0,e1,e3,e4,e5,e6,e7,e8,e9,f0,f1,f2,f3,f4,s8,h4,⟨v,x,y,D,F,G,H,J,K,O,P⟩,hok,hsym⟩
   obtain ⟨q6,q7,g,i,k,m⟩:=h4.u6 w5 w6 g i k m
   obtain ⟨n,q,s,t,u,e⟩:=h4.u6 n q s t u e
   refine Cod.at hok hsym (.seq (.sr (.kn 3 [48,12,11,10,9,8,6,5] r (.condP r hd (fun w7 hd=>?_) fun w7 hd=>?_))))
   · refine .sn [12,11,10,9,8,6,5] r (.seq (.block (.sk 3 r ?_)))
     have w8:=HF (I:=s8) (o0:=({ p:=({ Ring:=b0,A:=({ Rows:=b1,Cols:=b5,Start:=W,Col:=X,Val:=Y }:Rows),B:=({ Rows:=b6,Cols:=b7,Start:=Z,Col:=a2,Val:=a3 }:Rows),Mask:=({ Rows:=b8,Cols:=b9,Start:=a4,Col:=a5,Val:=a6 }:Rows),R:=c0,C:=c1,Room:=c3 }:BB),stages:=a7,workers:=a8,boxes:=d0 }:AB)) (o1:=h2.2.2.1) (a0:=d1) (b3:=a9) (p4:=d2) (c5:=d3) (p7:=d4) (c8:=d5) (p10:=d6) (c11:=d7) (p13:=d8) (c14:=d9) (p16:=e0) (c17:=e1) (p19:=e3) (c20:=e4) (p22:=e5) (c23:=e6) (p25:=e7) (c26:=e8) (p28:=e9) (c29:=f0) (p31:=f1) (c32:=f2) (p34:=f3) (c35:=f4) (b38:=U) v x y D F G H J K O P hd
     refine .callS (.f call29 r) (.o [0,0,2] r) w8 r r fun J4 C3 J5 h5 w9=>?_
     obtain ⟨C4,rfl,rfl,hd⟩:=w9
     obtain ⟨x0,x1,x2,g,i,k⟩:=h5.u6 q6 q7 h4 g i k
     obtain ⟨m,n,q,s,t,u⟩:=h5.u6 m n q s t u
     obtain ⟨e,v,x,y,D,F⟩:=h5.u6 e v x y D F
     obtain ⟨G,H,J,K,O,P⟩:=h5.u6 G H J K O P
     refine .rn 5 r (.kn 2 [11,12,10,9,8,6,5] r (.seq (.dr [0,1,2,3,4,5,6,8,9,7,10,11,12,13,14,15,16,17,18,20,21,19,22,23,24,25,26,28,27,29,30,31] 32 (.fk 3 r ?_))))
     obtain ⟨s9,C5,q8,hd⟩:=hd
     obtain ⟨J6,o5015,G4,C6,S,x3⟩:=e.2 _ _ q8
     cases x3
     refine .h r (fun _=>.ixa WQ TC r C6 r s9 (AH q8 s9) r r .mk) (.fk 1 r (.h r (fun _=>.ld1 (j:=1) BJ S r r r r r .mk) (.fk 2 r (.h r (fun _=>.lo BJ .p4 r .mk) (.ww r fun ex=>?_)))))
     have x4:=HR (I:=C3) (o0:=({ p:=({ Ring:=b0,A:=({ Rows:=b1,Cols:=b5,Start:=W,Col:=X,Val:=Y }:Rows),B:=({ Rows:=b6,Cols:=b7,Start:=Z,Col:=a2,Val:=a3 }:Rows),Mask:=({ Rows:=b8,Cols:=b9,Start:=a4,Col:=a5,Val:=a6 }:Rows),R:=c0,C:=c1,Room:=c3 }:BB),stages:=a7,workers:=a8,boxes:=d0 }:AB)) (o1:=h2.2.2.1) (o2:=h3) (a0:=C5.A) (a1:=d1) (b4:=a9) (p5:=d2) (c6:=d3) (p8:=d4) (c9:=d5) (p11:=d6) (c12:=d7) (p14:=d8) (c15:=d9) (p17:=e0) (c18:=e1) (p20:=e3) (c21:=e4) (p23:=e5) (c24:=e6) (p26:=e7) (c27:=e8) (p29:=e9) (c30:=f0) (p32:=f1) (c33:=f2) (p35:=f3) (c36:=f4) (b39:=U) v x y D F G H J K O P hd
     refine .callS (.f call30 r) (.o [0,0,0,0] r) x4 r r fun J7 C7 J8 g6 x5=>?_
     obtain ⟨t0,C8,C9,D0,D1,D2,D3,D4,D5,D6,D7,D8,D9,E0,E1,E2,E3,E4,E5,E6,E7,E8,E9,rfl,o4,o5,o6,o7,o8,o9,p0,q0,q1,q2,q3,rfl,hd⟩:=x5
     obtain ⟨q9,x6,x7,g,i,k⟩:=g6.u6 x0 x1 x2 g i k
     obtain ⟨m,n,q,s,t,u⟩:=g6.u6 m n q s t u
     obtain ⟨e,v,x,y,D,F⟩:=g6.u6 e v x y D F
     obtain ⟨G,H,J,K,O,P⟩:=g6.u6 G H J K O P
     have S:=g6.u1 S
     refine .rx 5 r (.so 5 r r r (.ch r (fun _=>.lo BJ .p4 r .mk) (.ck 1 r r trivial)) (.fk 2 r ?_))
     refine AL hd (fun a hd=>?_) fun a hd=>?_
     · refine .h r (fun _=>.gno r r a r r .mk) (.h r (fun _=>.gno r r a r r .mk) (.h r (fun _=>.gno r r a r r .mk) (.h r (fun _=>.gno r r a r r .mk) (.h r (fun _=>.gno r r a r r .mk) (.h r (fun _=>.gno r r a r r .mk) (.h r (fun _=>.gno r r a r r .mk) (.h r (fun _=>.gno r r a r r .mk) (.h r (fun _=>.gno r r a r r .mk) (.h r (fun _=>.gno r r a r r .mk) ?_)))))))))
       refine .h r (fun _=>.gno r r a r r .mk) (.h r (fun _=>.pickT r a r r r .mk) (.fk 8 r (.e2 32 (.no [87,11,12,10,9,8,6,5] r (.condKT r r (.sr (.kn 1 [4] r (.drop .z (.drop .z ?_)))))))))
       exact .drop .p2 (.r1 results8 r q9 ⟨false,r,hd⟩)
     refine .h r (fun _=>.gyes r r a (.move r r r .mk)) (.h r (fun _=>.gyes r r a (.move r r r .mk)) (.h r (fun _=>.gyes r r a (.move r r r .mk)) (.h r (fun _=>.gyes r r a (.move r r r .mk)) ?_)))
     obtain ⟨t1,F0,r0,hd⟩:=hd
     obtain ⟨J9,o5073,G5,F1,V,x8⟩:=e.2 _ _ r0
     cases x8
     refine .h r (fun _=>.gyes r r a (.ixa WQ TC r F1 r t1 (AH r0 t1) r r .mk)) (.h r (fun _=>.gyes r r a (.fa AcC r FQ r (o:=o5073+j1.toNat*4+2) r r r .mk)) (.h r (fun _=>.gyes r r a (.ld1 (j:=2) BJ V r r r r r .mk)) (.h r (fun _=>.gyes r r a (.fo vE 18 r FQ .mk)) (.h r (fun _=>.gyes r r a (.lo BJ .p4 r .mk)) (.ww r fun ex=>?_)))))
     have x9:=HR (I:=C7) (o0:=t0.2.1) (o1:=h2.2.2.1) (o2:=t0.2.2) (a0:=d1) (a1:=F0.B) (b4:=a9) (p5:=C8) (c6:=C9) (p8:=D0) (c9:=D1) (p11:=D2) (c12:=D3) (p14:=D4) (c15:=D5) (p17:=D6) (c18:=D7) (p20:=D8) (c21:=D9) (p23:=E0) (c24:=E1) (p26:=E2) (c27:=E3) (p29:=E4) (c30:=E5) (p32:=E6) (c33:=E7) (p35:=E8) (c36:=E9) (b39:=U) o4 o5 o6 o7 o8 o9 p0 q0 q1 q2 q3 hd
     refine .gyes r r a (.callS (.f call30 r) (.o [0,0,0,0] r) x9 r r fun K0 F2 K1 g7 y0=>?_)
     obtain ⟨b,t2,t3,t4,t5,t6,t7,t8,t9,u0,u3,u7,u9,v0,v1,v2,v3,v4,v5,v6,v7,v8,v9,rfl,f5,f6,f7,f8,f9,g0,g1,g2,g3,g4,g5,rfl,hd⟩:=y0
     obtain ⟨r2,y1,y2,g,i,k⟩:=g7.u6 q9 x6 x7 g i k
     obtain ⟨m,n,q,s,t,u⟩:=g7.u6 m n q s t u
     obtain ⟨e,S,o4,o5,o6,o7⟩:=g7.u6 e S o4 o5 o6 o7
     obtain ⟨o8,o9,p0,q0,q1,q2⟩:=g7.u6 o8 o9 p0 q0 q1 q2
     obtain ⟨q3,V⟩:=g7.u2 q3 V
     refine .rx 5 r (.so 5 r r r (.ch r (fun _=>.gyes r r a (.lo BJ .p4 r .mk)) (.ch r (fun _=>.gyes r r a (.fo vE 18 r FQ .mk)) trivial)) (.h r (fun _=>.gyes r r a (.gt r r r r .mk)) (.h r (fun _=>.pickF r a r r r .mk) (.fk 1 r ?_))))
     refine AL hd (fun d hd=>?_) fun d hd=>?_
     · refine .h r (fun _=>.gno r r d r r .mk) (.h r (fun _=>.gno r r d r r .mk) (.h r (fun _=>.gno r r d r r .mk) (.h r (fun _=>.gno r r d r r .mk) (.h r (fun _=>.gno r r d r r .mk) (.h r (fun _=>.gno r r d r r .mk) (.h r (fun _=>.pickT r d r r r .mk) (.e2 32 (.no [87,11,12,10,9,8,6,5] r (.condKT r r ?_)))))))))
       exact .sr (.kn 1 [4] r (.drop .z (.drop .z (.drop .p2 (.r1 results8 r r2 ⟨false,r,hd⟩)))))
     refine .h r (fun _=>.gyes r r d (.move r r r .mk)) (.h r (fun _=>.gyes r r d (.move r r r .mk)) (.h r (fun _=>.gyes r r d (.move r r r .mk)) (.ww r fun ex=>?_)))
     have y3:=KM (I:=F2) (o0:=b.2.1) (o1:=h2.2.2.1) (a0:=d1) (b3:=a9) (p4:=t2) (c5:=t3) (p7:=t4) (c8:=t5) (p10:=t6) (c11:=t7) (p13:=t8) (c14:=t9) (p16:=u0) (c17:=u3) (p19:=u7) (c20:=u9) (p22:=v0) (c23:=v1) (p25:=v2) (c26:=v3) (p28:=v4) (c29:=v5) (p31:=v6) (c32:=v7) (p34:=v8) (c35:=v9) (b38:=U) f5 f6 f7 f8 f9 g0 g1 g2 g3 g4 g5 hd
     refine .gyes r r d (.callS (.f call28 r) (.o [0,0,0] r) y3 r r fun K2 F3 K3 g8 y4=>?_)
     obtain ⟨K4,rfl,rfl,hd⟩:=y4
     obtain ⟨y5,y6,y7,g,i,k⟩:=g8.u6 r2 y1 y2 g i k
     obtain ⟨m,n,q,s,t,u⟩:=g8.u6 m n q s t u
     obtain ⟨e,S,V,f5,f6,f7⟩:=g8.u6 e S V f5 f6 f7
     obtain ⟨f8,f9,g0,g1,g2,g3⟩:=g8.u6 f8 f9 g0 g1 g2 g3
     obtain ⟨g4,g5⟩:=g8.u2 g4 g5
     refine .rx 5 r (.so 5 r r r (.ch r (fun _=>.gyes r r d (.move r r r .mk)) trivial) (.ww r fun ex=>?_))
     have y8:=GD (I:=F3) (o0:=b.2.1) (b2:=a9) (p3:=t2) (c4:=t3) (p6:=t4) (c7:=t5) (p9:=t6) (c10:=t7) (p12:=t8) (c13:=t9) (p15:=u0) (c16:=u3) (p18:=u7) (c19:=u9) (p21:=v0) (c22:=v1) (p24:=v2) (c25:=v3) (p27:=v4) (c28:=v5) (p30:=v6) (c31:=v7) (p33:=v8) (c34:=v9) (b37:=U) f5 f6 f7 f8 f9 g0 g1 g2 g3 g4 g5 hd
     refine .gyes r r d (.callS (.f call42 r) (.o [0,0] r) y8 r r fun K5 K6 K7 g9 y9=>?_)
     obtain ⟨K8,rfl,rfl,hd⟩:=y9
     obtain ⟨z0,G6,z1,g,i,k⟩:=g9.u6 y5 y6 y7 g i k
     obtain ⟨m,n,q,s,t,u⟩:=g9.u6 m n q s t u
     obtain ⟨e,S,V,f5,f6,f7⟩:=g9.u6 e S V f5 f6 f7
     obtain ⟨f8,f9,g0,g1,g2,g3⟩:=g9.u6 f8 f9 g0 g1 g2 g3
     obtain ⟨g4,g5⟩:=g9.u2 g4 g5
     refine .rx 5 r (.so 5 r r r trivial (.h r (fun _=>.gyes r r d (.gt r r r r .mk)) (.h r (fun _=>.pickF r d r r r .mk) (.e2 32 (.no [87,11,12,10,9,8,6,5] r (.condP r hd (fun z2 hd=>?_) fun z2 hd=>?_))))))
     · exact .sr (.kn 1 [4] r (.drop .z (.drop .z (.drop .p2 (.r1 results8 r z0 ⟨false,r,hd⟩)))))
     exact .sn [11,12,10,9,8,6,5] r (.region (.ks 3 r (.nil' fun c w ho hs=>⟨(b.2.1.p.Ring,b.2.1.p.A.Rows,b.2.1.p.A.Cols,b.2.1.p.A.Start,b.2.1.p.A.Col,b.2.1.p.A.Val,b.2.1.p.B.Rows,b.2.1.p.B.Cols,b.2.1.p.B.Start,b.2.1.p.B.Col,b.2.1.p.B.Val,b.2.1.p.Mask.Rows,b.2.1.p.Mask.Cols,b.2.1.p.Mask.Start,b.2.1.p.Mask.Col,b.2.1.p.Mask.Val,b.2.1.p.R,b.2.1.p.C,b.2.1.p.Room,b.2.1.stages,b.2.1.workers,b.2.1.boxes,AJ (o3+C4),AJ (d1+1),b.2.2),hd,_,_,_,_,_,_,_,_,_,_,_,_,_,_,_,_,_,_,_,_,_,_,jf z1 ⟨f5,f6,f7,f8,f9,g0,g1,g2,g3,g4,g5⟩ [0,0,1,1,0] r ho hs⟩)))
   refine .en [11,10,9,8,6,5] r (.sk 1 r ?_)
   have z3:=KZ (I:=s8) (o0:=({ p:=({ Ring:=b0,A:=({ Rows:=b1,Cols:=b5,Start:=W,Col:=X,Val:=Y }:Rows),B:=({ Rows:=b6,Cols:=b7,Start:=Z,Col:=a2,Val:=a3 }:Rows),Mask:=({ Rows:=b8,Cols:=b9,Start:=a4,Col:=a5,Val:=a6 }:Rows),R:=c0,C:=c1,Room:=c3 }:BB),stages:=a7,workers:=a8,boxes:=d0 }:AB)) (o1:=h3) (b3:=a9) (p4:=d2) (c5:=d3) (p7:=d4) (c8:=d5) (p10:=d6) (c11:=d7) (p13:=d8) (c14:=d9) (p16:=e0) (c17:=e1) (p19:=e3) (c20:=e4) (p22:=e5) (c23:=e6) (p25:=e7) (c26:=e8) (p28:=e9) (c29:=f0) (p31:=f1) (c32:=f2) (p34:=f3) (c35:=f4) (b38:=U) v x y D F G H J K O P hd
   refine .callS (.f call43 r) (.o [0,0,0] r) z3 r r fun K9 F4 L0 h6 z4=>?_
   obtain ⟨L1,rfl,rfl,hd⟩:=z4
   obtain ⟨z5,z6,z7,g,i,k⟩:=h6.u6 q6 q7 h4 g i k
   obtain ⟨m,n,q,s,t,u⟩:=h6.u6 m n q s t u
   obtain ⟨e,v,x,y,D,F⟩:=h6.u6 e v x y D F
   obtain ⟨G,H,J,K,O,P⟩:=h6.u6 G H J K O P
   refine .rn 5 r (.ks 5 r ?_)
   have z8:=GD (I:=F4) (o0:=({ p:=({ Ring:=b0,A:=({ Rows:=b1,Cols:=b5,Start:=W,Col:=X,Val:=Y }:Rows),B:=({ Rows:=b6,Cols:=b7,Start:=Z,Col:=a2,Val:=a3 }:Rows),Mask:=({ Rows:=b8,Cols:=b9,Start:=a4,Col:=a5,Val:=a6 }:Rows),R:=c0,C:=c1,Room:=c3 }:BB),stages:=a7,workers:=a8,boxes:=d0 }:AB)) (b2:=a9) (p3:=d2) (c4:=d3) (p6:=d4) (c7:=d5) (p9:=d6) (c10:=d7) (p12:=d8) (c13:=d9) (p15:=e0) (c16:=e1) (p18:=e3) (c19:=e4) (p21:=e5) (c22:=e6) (p24:=e7) (c25:=e8) (p27:=e9) (c28:=f0) (p30:=f1) (c31:=f2) (p33:=f3) (c34:=f4) (b37:=U) v x y D F G H J K O P hd
   refine .callS (.f call42 r) (.o [0,0] r) z8 r r fun L2 L3 L4 h7 z9=>?_
   obtain ⟨L5,rfl,rfl,hd⟩:=z9
   obtain ⟨A0,A1,G7,g,i,k⟩:=h7.u6 z5 z6 z7 g i k
   obtain ⟨m,n,q,s,t,u⟩:=h7.u6 m n q s t u
   obtain ⟨e,v,x,y,D,F⟩:=h7.u6 e v x y D F
   obtain ⟨G,H,J,K,O,P⟩:=h7.u6 G H J K O P
   refine .rn 5 r (.kn 2 [97,10,9,8,6,5] r (.condP r hd (fun A2 hd=>?_) fun A2 hd=>?_))
   · exact .sr (.kn 1 [4] r (.drop .z (.drop .z (.drop .p1 (.r1 results8 r A0 ⟨false,r,hd⟩)))))
   exact .sn [10,9,8,6,5] r (.region (.ks 3 r (.nil' fun c w ho hs=>⟨(b0,b1,b5,W,X,Y,b6,b7,Z,a2,a3,b8,b9,a4,a5,a6,c0,c1,c3,a7,a8,d0,AJ (j1+1),h2.2.2.1,h3),hd,_,_,_,_,_,_,_,_,_,_,_,_,_,_,_,_,_,_,_,_,_,_,jf A1 ⟨v,x,y,D,F,G,H,J,K,O,P⟩ [0,0,2,0,0] r ho hs⟩)))
 refine .en [] r (.drop .z (.drop .z (.drop .p2 (.sr ?_))))
 have A3:=nE (I:=s6) hd
 refine .cq call27 A3 r fun F5 hd=>?_
 exact .kn 1 [4] r (.r1 results8 r q4 ⟨F5,r,hd⟩)
end Go.Proofs.YtbohadngdkjljaaGreat
