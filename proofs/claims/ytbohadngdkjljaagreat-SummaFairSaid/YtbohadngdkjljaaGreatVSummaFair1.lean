/- The walks (printed by a program of ours). -/
import Derived.Test.YtbohadngdkjljaaGreatV3
namespace Go.Proofs.YtbohadngdkjljaaGreat
open Go Go.Fw
set_option linter.unusedVariables false
set_option linter.unusedSimpArgs false
set_option maxRecDepth 8000
set_option maxHeartbeats 1000000
open Tryz
variable {I:IH}
variable {b2 b3 b4 b5 b6 b7 b8 b9 c2 c3 c4 c5 c6 c7 c8 c9 lr b10 b11 b12 b13 b18 b19 b20 b21 b35 b36 b37 b38 b39 b40 b41 b42 b43 b54 b59 c10 c11 c12 c13 c14 c15 c16 c17 c18 c19 c20 c21 c22 c23 c24 c25 c26 c27 c28 c29 c30 c31 c32 c33 c34 c35 c36 c37 c38 c39 c41 c42 c43 c44 c45 c46 c47 c48 c49 c50 c51 c52 c54 c55 c57 c60 c63 c66 c69 c72 c75 c78:Nat}
variable {p1 p2 p3 p4 p5 p6 p7 p8 p9 p10 p11 p12 p13 p14 p15 p16 p17 p18 p19 p20 p21 p22 p23 p24 p25 p26 p27 p28 p29 p30 p31 p32 p33 p34 p35 p36 p37 p38 p40 p41 p42 p43 p44 p45 p46 p47 p48 p49 p50 p51 p53 p54 p56 p59 p62 p65 p68 p71 p74 p77:Option Addr}
variable {Rr:Nat→HA}
theorem UL {a0:Int} {Q:Int→Prop} (hd:ML a0 Q) :
  BV prog 132 [.int .u8 a0] I (fun I_ v=>∃ r,v=.int .u8 r∧Q r):=by
 refine Fun.en func132 ntmps132 r fun w0 M=>?_
 exact .sk 1 r (.nk [0] 1 r (.rem r r (by decide) r r (.kn 1 [2] r (.r0 results132 r ⟨(a0.tmod 14),r,hd⟩))))
theorem ZS {a0:Int} {Q:Int→Prop} (hd:PO a0 Q) :
  BV prog 68 [.int .i64 a0] I (fun _=>gZ Q):=by
 refine Fun.en func68 ntmps68 r fun w0 M=>?_
 refine .sr (.kn 1 [0] r (.seq (.sk 3 r ?_)))
 refine AL hd (fun a hd=>?_) fun a hd=>?_
 · rw [a]
   exact .kn 3 [8,0] r (.condKT r r (.sr (.kn 1 [2] r (.r0 results68 r ⟨1,r,hd⟩))))
 rw [a]
 refine .kn 3 [8,0] r (.condP r hd (fun b hd=>?_) fun b hd=>?_)
 · exact .sr (.kn 1 [2] r (.r0 results68 r ⟨1,r,hd⟩))
 exact .sn [0] r (.sr (.kn 2 [2] r (.r0 results68 r ⟨a0,r,hd⟩)))
theorem cY {a0:Int} {Q:Int→Prop} (hd:SG a0 Q) :
  BV prog 258 [.int .u8 a0] I (fun _=>gZ Q):=by
 refine Fun.en func258 ntmps258 r fun w0 M=>?_
 exact .sk 1 r (.nk [0] 1 r (.conv un5 YX r r r (.rem r r (by decide) r r (.kn 1 [2] r (.r0 results258 r ⟨((AJ (a0)).tmod 40),r,hd⟩)))))
theorem rW {a0:List AC} {Q:(List AC)→Prop} (R3:RepSl AW I p1 c2 a0) (hd:YK a0 Q) :
  BV prog 259 [.slice p1 a0.length c2] I (AeI Q):=by
 refine Fun.en func259 ntmps259 r fun w0 M=>?_
 refine .sr (.kn 1 [0] r (.seq (.sk 1 r (.ln EE r (.kn 1 [5,0] r (.condP r hd (fun c hd=>?_) fun c hd=>?_))))))
 · refine .region (.ks 1 r ?_)
   obtain ⟨j,k,g,hd⟩:=hd
   have a:Int.toNat 0≤Int.toNat 60:=by omega
   have b:Int.toNat 60≤a0.length:=by omega
   obtain ⟨h,i,d,e,f⟩:=RepSl.sliceW R3 (Int.toNat 0) (Int.toNat 60) c2 a b (.inl rfl)
   exact .sliceW (L:=Int.toNat 0) (H:=Int.toNat 60) (cm:=c2) EE EJ r r R3.1 r r r (.inl ⟨r,r⟩) (.inr ⟨_,_,r,(by omega),r⟩) (.inl r) a b r d e r r (.ks 1 r (.nk [0] 2 r (.no [2] r (.r0 results259 r ⟨((a0.take (Int.toNat 60)).drop (Int.toNat 0)),_,_,r,f,hd⟩))))
 exact .sn [0] r (.sr (.kn 2 [2] r (.r0 results259 r ⟨a0,_,_,r,R3,hd⟩)))
theorem oP {a0:Int×Int} {a1:List AC} {Q:Rows→Prop} (R3:RepSl AW I p1 c2 a1) (hd:VT a0 a1 Q) :
  BV prog 209 [.agg #[.int .u8 a0.1,.int .u8 a0.2],.slice p1 a1.length c2] I (o7_ Q):=by
 refine Fun.en func209 ntmps209 r fun w0 M=>?_
 refine .sr (.bx r fun f6=>?_)
 refine .al CK r fun f7=>?_
 refine .no [4,2,1] r (.seq (.dr [0,1,3,4,2,5,6] 7 (.h r (fun _=>.ixArr (i:=0) wQ xZ r r (by decide) (o:=0) r r r .mk) (.h r (fun _=>.lo sZ .p1 r .mk) (.h r (fun _=>.ixArr (i:=1) wQ xZ r r (by decide) (o:=1) r r r .mk) (.h r (fun _=>.lo sZ .p1 r .mk) (.ww r fun ex=>?_)))))))
 have b5:=cY (I:=I) hd
 refine .cq call258 b5 r fun b3 hd=>?_
 refine .so 2 r r r (.ch r (fun _=>.lo sZ .p1 r .mk) (.ch r (fun _=>.ixArr (i:=1) wQ xZ r r (by decide) (o:=1) r r r .mk) trivial)) (.ww r fun ex=>?_)
 have b6:=cY (I:=I) hd
 refine .cq call258 b6 r fun b4 hd=>?_
 refine .so 2 r r r trivial (.fk 1 r (.e2 7 (.kn 1 [6,5,4,1] r (.drop .p1 (.sk 1 r (.nk [7,6,5,4,1] 1 r ?_))))))
 have b7:=rW (I:=I) R3 hd
 refine .call call259 r b7 r r fun f8 f9 B b8=>?_
 obtain ⟨g0,g1,g2,rfl,C,hd⟩:=b8
 have R3:=B.u1 R3
 refine .kn 1 [1,7,6,5,4] r (.seq (.sr (.kn 1 [8,1,7,6,5,4] r (.block (.own0 AW 103 (.lx hd [6,5,4,1] [1] r (fun j E l (b,d)=>fun c w=>∃ p q,j ⟨73,[],none⟩ (fun I_=>True) ((7,.slice p b.length q) :: (8,.int .i64 d) :: E) (OwnSl AW 103 p q b :: l) c w) (fun c w ho hs=>⟨_,_,jf rf trivial [0,0] r ho hs⟩) ?_))))))
 rintro ⟨b,d⟩ c6 hd c w ⟨p,q,c9,a,_,hok,hsym⟩
 obtain ⟨F,C⟩:=a.u2 B C
 refine Cod.at hok hsym (.seq (.sk 2 r (.ln EE r (.kn 1 [23,8,7,6,5,4,1] r (.condP r hd (fun G hd=>?_) fun G hd=>?_)))))
 · refine .sn [8,7,6,5,4,1] r (.seq (.block (.sk 2 r ?_)))
   obtain ⟨D,e,y,hd⟩:=hd
   obtain ⟨d0,o331,c7,b9,H,J⟩:=C.2 _ _ y
   cases J
   refine .ixa EE EJ r b9 r D (AH y D) r r (.ldW isAgg103 EJ H r r r r (.al JP r fun d1=>?_))
   refine .sa EJ .z r (.no [9,8,7,6,5,4,1] r (.seq (.sk 1 r (.lo BI .z r (.ks 2 r ?_)))))
   refine AL hd (fun g hd=>?_) fun g hd=>?_
   · rw [g]
     exact .kn 12 [45,9,8,7,6,5,4,1] r (.condKT r r (.en [8,7,6,5,4,1] r (.drop .z (.region (.ks 3 r (.nil' fun c w ho hs=>⟨(b,AJ (d+1)),hd,_,_,jf a trivial [0,0] r ho hs⟩))))))
   rw [g]
   refine .ks 1 r (.yes r (.lo BI .z r (.ks 3 r ?_)))
   refine AL hd (fun k hd=>?_) fun k hd=>?_
   · rw [k]
     exact .kn 7 [45,9,8,7,6,5,4,1] r (.condKT r r (.en [8,7,6,5,4,1] r (.drop .z (.region (.ks 3 r (.nil' fun c w ho hs=>⟨(b,AJ (d+1)),hd,_,_,jf a trivial [0,0] r ho hs⟩))))))
   rw [k]
   refine .ks 4 r ?_
   refine AL hd (fun m hd=>?_) fun m hd=>?_
   · rw [m]
     exact .kn 3 [45,9,8,7,6,5,4,1] r (.condKT r r (.en [8,7,6,5,4,1] r (.drop .z (.region (.ks 3 r (.nil' fun c w ho hs=>⟨(b,AJ (d+1)),hd,_,_,jf a trivial [0,0] r ho hs⟩))))))
   rw [m]
   refine .kn 3 [45,9,8,7,6,5,4,1] r (.condP r hd (fun K hd=>?_) fun K hd=>?_)
   · exact .en [8,7,6,5,4,1] r (.drop .z (.region (.ks 3 r (.nil' fun c w ho hs=>⟨(b,AJ (d+1)),hd,_,_,jf a trivial [0,0] r ho hs⟩))))
   refine .sn [9,8,7,6,5,4,1] r (.sk 1 r (.lo BI .z r (.ks 1 r ?_)))
   obtain ⟨L,hd⟩:=hd
   refine .rem r r L r r (.ks 1 r (.s1 FG .z r (.nk [9,8,7,6,5,4,1] 1 r (.lo BI .z r (.ks 1 r ?_)))))
   obtain ⟨N,hd⟩:=hd
   refine .rem r r N r r (.ks 1 r (.s1 FG .z r (.no [9,8,7,6,5,4,1] r (.region (.ks 1 r (.lw isAgg103 EJ .z r (.buildSlice 1 EE EJ JP r r (.c r r r .n) r r fun d2=>?_)))))))
   obtain ⟨O,hd⟩:=hd
   refine .append (ys:=[({ Row:=e.Row.tmod b3,Col:=e.Col.tmod b4,Val:=e.Val }:AC)]) 24 .p2 EE EE ZF r r r r r r r r r (.box .z (.one r) r) O r r fun d3 d4=>?_
   exact .kn 1 [7,8,6,5,4,1] r (.drop .p1 (.drop .p1 (.region (.ks 3 r (.nil' fun c w ho hs=>⟨((b++([({ Row:=e.Row.tmod b3,Col:=e.Col.tmod b4,Val:=e.Val }:AC)])),AJ (d+1)),hd,_,_,jf a trivial [0,0] r ho hs⟩)))))
 refine .en [7,6,5,4] r (.sk 3 r (.pub .z fun c0 P s=>?_))
 obtain ⟨R,S⟩:=P.u2 F a
 have T:=WL (I:=c0) s hd
 refine .call call60 r T r r fun d5 c1 U V=>?_
 obtain ⟨c3,d6,d7,d8,d9,e0,e1,rfl,t,u,v,hd⟩:=V
 obtain ⟨A,W,s⟩:=U.u3 R S s
 refine .ks 3 r (.al CK r fun e3=>?_)
 refine .sa AO .z r (.kn 1 [11,10,6,5,4] r (.seq (.sr (.kn 2 [68,10,6,5,4] r (.condP r hd (fun X hd=>?_) fun X hd=>?_)))))
 · refine .sk 2 r ?_
   have Y:=UF (I:=c1) hd
   refine .callO call128 r Y r r fun e4 e5 e6 Z a2=>?_
   obtain ⟨c4,e7,e8,e9,f0,f1,f2,rfl,rfl,hd⟩:=a2
   obtain ⟨a3,a4,t,u,v⟩:=Z.u5 A W t u v
   refine .sa AO .p4 r (.no [4] r (.drop .p3 (.pub .z fun f3 a5 f=>?_)))
   obtain ⟨a6,a7⟩:=a5.u2 a3 a4
   refine .pub .z fun f4 a8 x=>?_
   obtain ⟨a9,b0,f⟩:=a8.u3 a6 a7 f
   refine .pub .z fun f5 b1 c5=>?_
   obtain ⟨b2,c8,f,x⟩:=b1.u4 a9 b0 f x
   exact .ret (BO results209 (.w BM AO r .z r .n) b2 ⟨c4,_,_,_,_,_,_,r,f,x,c5,hd⟩)
 exact .sn [10,4] r (.sr (.lw BM AO .z r (.sa AO .p1 r (.no [4] r (.drop .z (.ret (BO results209 (.w BM AO r .z r .n) A ⟨c3.1,_,_,_,_,_,_,r,t,u,v,hd⟩)))))))
theorem kE {a0 a1:Int} {Q:Int→Prop} (hd:TK a0 a1 Q) :
  BV prog 260 [.int .i64 a0,.int .i64 a1] I (fun _=>gZ Q):=by
 refine Fun.en func260 ntmps260 r fun w0 M=>?_
 refine .sk 1 r (.nk [1,0] 1 r (.no [5,1] r (.block (.sr (.kn 2 [12,5,1] r (.condP r hd (fun a hd=>?_) fun a hd=>?_))))))
 · exact .sr (.kn 2 [4] r (.r0 results260 r ⟨a1,r,hd⟩))
 refine .sr (.kn 2 [15,1] r (.condP r hd (fun b hd=>?_) fun b hd=>?_))
 · exact .sr (.kn 3 [4] r (.r0 results260 r ⟨(oU .i64 a1 1),r,hd⟩))
 refine .sr (.kn 3 [1] r (.seq (.sk 1 r (.rem r r (by decide) r r (.kn 1 [10,1] r (.condP r hd (fun c hd=>?_) fun c hd=>?_))))))
 · exact .sr (.kn 1 [4] r (.r0 results260 r ⟨4611686018427387904,r,hd⟩))
 exact .sn [1] r (.sr (.kn 2 [4] r (.r0 results260 r ⟨(oU .i64 a1 4611686018427387903),r,hd⟩)))
theorem jQ {a0 a1:Int} {Q:Int→Prop} (hd:QQ a0 a1 Q) :
  BV prog 210 [.int .i64 a0,.int .i64 a1] I (fun _=>gZ Q):=by
 refine Fun.en func210 ntmps210 r fun w0 M=>?_
 refine .sr (.kn 1 [1,0] r (.seq (.sr (.kn 2 [6,1,0] r (.condP r hd (fun a hd=>?_) fun a hd=>?_)))))
 · exact .sk 1 r (.rem r r (by decide) r r (.kn 1 [4] r (.r0 results210 r ⟨(a1.tmod 2147483648),r,hd⟩)))
 refine .sn [1,0] r (.sk 2 r ?_)
 have b:=kE (I:=I) hd
 refine .cq call260 b r fun c hd=>?_
 exact .kn 1 [4] r (.r0 results210 r ⟨c,r,hd⟩)
theorem LB {a0:IE} {Q:Rows→Prop} (R3:RepSl AW I p1 c2 a0.L) (R6:RepSl MH I p4 c5 a0.X) (R9:RepSl MH I p7 c8 a0.Y) (R12:RepSl AeY I p10 c11 a0.F) (hd:FJ a0 Q) :
  BV prog 133 [.agg #[.int .i64 a0.Ring,.int .u8 a0.Size.1,.int .u8 a0.Size.2,.slice p1 a0.L.length c2,.slice p4 a0.X.length c5,.slice p7 a0.Y.length c8,.slice p10 a0.F.length c11,.bool a0.Others]] I (fun I_ v=>∃ r p13 c14 p16 c17 p19 c20,v=.agg #[.int .i64 r.Rows,.int .i64 r.Cols,.slice p13 r.Start.length c14,.slice p16 r.Col.length c17,.slice p19 r.Val.length c20]∧RepSl AE I_ p13 c14 r.Start∧RepSl AE I_ p16 c17 r.Col∧RepSl AE I_ p19 c20 r.Val∧Q r):=by
 refine Fun.en func133 ntmps133 r fun w0 M=>?_
 refine .sr (.bx r fun a3=>?_)
 refine .al CK r fun a4=>?_
 refine .nk [2,1] 1 r (.loadA isAgg25 sizeOf25 r .p1 (.o 2 r) r r r (.ks 1 r (.lo isAgg54 .p1 r ?_)))
 have G:=oP (I:=I) R3 hd
 refine .call call209 r G r r fun a5 R m H=>?_
 obtain ⟨i,a6,a7,a8,a9,b0,b1,rfl,d,e,p,hd⟩:=H
 obtain ⟨R3,R6,R9,R12⟩:=m.u4 R3 R6 R9 R12
 refine .al CK r fun b2=>?_
 refine .sa AO .z r (.nk [3,2,1] 1 r (.lo bP .p2 r ?_))
 have J:=ZS (I:=R) hd
 refine .cq call68 J r fun b3 hd=>?_
 refine .kn 1 [4,3,2] r (.drop .p2 (.sr (.kn 1 [5,4,3,2] r (.seq (.sr (.kn 1 [6,5,4,3,2] r (.block (.own0 AE 2 (.lx hd [4,3,2] [2,1] r (fun j E l (a,f)=>fun c w=>∃ g h,j ⟨35,[],none⟩ (fun I_=>True) ((5,.slice g a.length h) :: (6,.int .i64 f) :: E) (OwnSl AE 2 g h a :: l) c w) (fun c w ho hs=>⟨_,_,jf rf trivial [0,1,0] r ho hs⟩) ?_)))))))))
 rintro ⟨a,f⟩ P hd c w ⟨g,h,K,b,_,hok,hsym⟩
 obtain ⟨t,d,e,p⟩:=b.u4 m d e p
 refine Cod.at hok hsym (.seq (.sk 2 r (.lo bO .p2 r (.ln OR r (.kn 1 [19,6,5,4,3,2] r (.condP r hd (fun u hd=>?_) fun u hd=>?_))))))
 · refine .sn [6,5,4,3,2] r (.seq (.block (.region (.ks 3 r (.lo bO .p2 r (.ks 1 r ?_))))))
   obtain ⟨q,U,k,hd⟩:=hd
   obtain ⟨V,o148,S,N,x,y⟩:=p.2 _ _ k
   cases y
   refine .ixa OR sF r N r q (AH k q) r r (.ld1 (j:=0) WO x r r r r r ?_)
   have A:=jQ (I:=K) hd
   refine .cq call210 A r fun s hd=>?_
   refine .buildSlice 1 OR sF zeroValue2 r r (.c r r r .n) r r fun W=>?_
   obtain ⟨B,hd⟩:=hd
   refine .append (ys:=[s]) 8 .p1 OR OR IN2 r r r r r r r r r (.box .z (.one r) r) B r r fun Z a1=>?_
   exact .kn 1 [5,6,4,3,2] r (.drop .p1 (.region (.ks 3 r (.nil' fun c w ho hs=>⟨((a++([s])),AJ (f+1)),hd,_,_,jf b trivial [0,0,0] r ho hs⟩))))
 refine .en [5,3,2] r (.sk 2 r (.s1 sizeOf31 .p2 r (.ns [3,2] r (.lw BM AO .p2 r (.sa AO .p1 r (.no [2] r (.drop .p2 (.pub .z fun a2 C O=>?_))))))))
 obtain ⟨D,T,d,e⟩:=C.u4 t b d e
 exact .ret (BO results133 (.w BM AO r .z r .n) D ⟨({ Rows:=i.Rows,Cols:=i.Cols,Start:=i.Start,Col:=i.Col,Val:=a }:Rows),_,_,_,_,_,_,r,d,e,O,hd⟩)
theorem aR {a0:OI} {Q:(Rows×Rows×Rows)→Prop} (R3:RepSl AW I p1 c2 a0.A) (R6:RepSl AW I p4 c5 a0.B) (R9:RepSl AW I p7 c8 a0.M) (hd:KP a0 Q) :
  BV prog 67 [.agg #[.int .i64 a0.Ring,.int .u8 a0.Size.1,.int .u8 a0.Size.2.1,.int .u8 a0.Size.2.2,.slice p1 a0.A.length c2,.slice p4 a0.B.length c5,.slice p7 a0.M.length c8]] I (fun I_ v=>∃ r p10 c11 p13 c14 p16 c17 p19 c20 p22 c23 p25 c26 p28 c29 p31 c32 p34 c35,v=.agg #[.int .i64 r.1.Rows,.int .i64 r.1.Cols,.slice p10 r.1.Start.length c11,.slice p13 r.1.Col.length c14,.slice p16 r.1.Val.length c17,.int .i64 r.2.1.Rows,.int .i64 r.2.1.Cols,.slice p19 r.2.1.Start.length c20,.slice p22 r.2.1.Col.length c23,.slice p25 r.2.1.Val.length c26,.int .i64 r.2.2.Rows,.int .i64 r.2.2.Cols,.slice p28 r.2.2.Start.length c29,.slice p31 r.2.2.Col.length c32,.slice p34 r.2.2.Val.length c35]∧RepSl AE I_ p10 c11 r.1.Start∧RepSl AE I_ p13 c14 r.1.Col∧RepSl AE I_ p16 c17 r.1.Val∧RepSl AE I_ p19 c20 r.2.1.Start∧RepSl AE I_ p22 c23 r.2.1.Col∧RepSl AE I_ p25 c26 r.2.1.Val∧RepSl AE I_ p28 c29 r.2.2.Start∧RepSl AE I_ p31 c32 r.2.2.Col∧RepSl AE I_ p34 c35 r.2.2.Val∧Q r):=by
 refine Fun.en func67 ntmps67 r fun w0 M=>?_
 refine .sr (.bx r fun b2=>?_)
 refine .al zeroValue113 r fun b3=>?_
 refine .no [2,1] r (.seq (.dr [0,1,2,4,5,6,8,9,10,3,7,11,12,13] 14 (.fk 1 r (.h r (fun _=>.ixArr (i:=0) wR xZ r r (by decide) (o:=1) r r r .mk) (.h r (fun _=>.lo sZ .p1 r .mk) (.fk 1 r (.h r (fun _=>.ixArr (i:=1) wR xZ r r (by decide) (o:=2) r r r .mk) (.h r (fun _=>.lo sZ .p1 r .mk) (.fk 1 r ?_)))))))))
 refine .h r (fun _=>.ixArr (i:=2) wR xZ r r (by decide) (o:=3) r r r .mk) (.h r (fun _=>.lo sZ .p1 r .mk) (.ww r fun ex=>?_))
 have C:=UL (I:=I) hd
 refine .cq call132 C r fun u hd=>?_
 refine .so 2 r r r (.ch r (fun _=>.lo sZ .p1 r .mk) (.ch r (fun _=>.ixArr (i:=2) wR xZ r r (by decide) (o:=3) r r r .mk) (.ck 1 r r (.ch r (fun _=>.lo sZ .p1 r .mk) (.ch r (fun _=>.ixArr (i:=1) wR xZ r r (by decide) (o:=2) r r r .mk) (.ck 1 r r trivial)))))) (.ww r fun ex=>?_)
 have D:=UL (I:=I) hd
 refine .cq call132 D r fun x hd=>?_
 refine .so 2 r r r (.ch r (fun _=>.lo sZ .p1 r .mk) (.ch r (fun _=>.ixArr (i:=2) wR xZ r r (by decide) (o:=3) r r r .mk) (.ck 1 r r trivial))) (.ww r fun ex=>?_)
 have E:=UL (I:=I) hd
 refine .cq call132 E r fun y hd=>?_
 refine .so 2 r r r trivial (.fk 2 r (.e2 14 (.ks 1 r (.nk [5,4,3,2,1] 1 r (.lo bP .p1 r (.ks 2 r (.buildArr zeroValue25 wQ xZ (.c r r r (.o r) (.c r r r (.o r) .n)) r r (.ks 1 r (.lo isAgg54 .p1 r ?_)))))))))
 refine .build lA underlying183 yZ (.c r r r (.o r) (.c r r r (.o r) (.c r r r (.o r) .n))) (by exact ⟨⟨_,_,r,r,r⟩,⟨⟨_,_,r,r,r⟩,⟨⟨_,_,r,r,r⟩,trivial⟩⟩⟩) r r (.al lA r fun b4=>?_)
 refine .sa sizeOf183 .z r (.nk [6,5,4,3,2,1] 1 r (.lo bP .p2 r (.ks 2 r (.buildArr zeroValue25 wQ xZ (.c r r r (.o r) (.c r r r (.o r) .n)) r r (.ks 1 r (.lo isAgg54 .p2 r (.build lA underlying183 yZ (.c r r r (.o r) (.c r r r (.o r) (.c r r r (.o r) .n))) (by exact ⟨⟨_,_,r,r,r⟩,⟨⟨_,_,r,r,r⟩,⟨⟨_,_,r,r,r⟩,trivial⟩⟩⟩) r r (.al lA r fun b5=>?_))))))))
 refine .sa sizeOf183 .z r (.nk [7,6,5,3,2,1] 1 r (.lo bP .p3 r (.ks 2 r (.buildArr zeroValue25 wQ xZ (.c r r r (.o r) (.c r r r (.o r) .n)) r r (.ks 1 r (.lo isAgg54 .p3 r (.build lA underlying183 yZ (.c r r r (.o r) (.c r r r (.o r) (.c r r r (.o r) .n))) (by exact ⟨⟨_,_,r,r,r⟩,⟨⟨_,_,r,r,r⟩,⟨⟨_,_,r,r,r⟩,trivial⟩⟩⟩) r r (.al lA r fun b6=>?_))))))))
 refine .sa sizeOf183 .z r (.no [8,7,6,2] r (.drop .p4 (.seq (.dr [0,2,4,1,3,5,6] 7 (.h r (fun _=>.lw isAgg183 sizeOf183 .p2 r .mk) (.h r (fun _=>.lw isAgg183 sizeOf183 .p1 r .mk) (.h r (fun _=>.lw isAgg183 sizeOf183 .z r .mk) (.ww r fun ex=>?_))))))))
 have G:=LB (I:=I) (a0:=({ Ring:=a0.Ring,Size:=(u,x),L:=a0.A,X:=([]:List CE),Y:=([]:List CE),F:=([]:List Int),Others:=false }:IE)) R3 (.nil _ none 0) (.nil _ none 0) (.nil _ none 0) hd
 refine .call call133 r G r r fun b7 R k H=>?_
 obtain ⟨S,b8,b9,c0,c1,c3,c4,rfl,a,b,d,hd⟩:=H
 obtain ⟨R3,R6,R9⟩:=k.u3 R3 R6 R9
 refine .so 4 r r r (.ch r (fun _=>.lw isAgg183 sizeOf183 .z r .mk) (.ch r (fun _=>.lw isAgg183 sizeOf183 .p1 r .mk) trivial)) (.ww r fun ex=>?_)
 have m:=LB (I:=R) (a0:=({ Ring:=a0.Ring,Size:=(x,y),L:=a0.B,X:=([]:List CE),Y:=([]:List CE),F:=([]:List Int),Others:=false }:IE)) R6 (.nil _ none 0) (.nil _ none 0) (.nil _ none 0) hd
 refine .call call133 r m r r fun c6 T l J=>?_
 obtain ⟨U,V,W,Z,a1,a2,a3,rfl,e,f,g,hd⟩:=J
 obtain ⟨p,R3,R6,R9,a,b⟩:=l.u6 k R3 R6 R9 a b
 have d:=l.u1 d
 refine .so 4 r r r (.ch r (fun _=>.lw isAgg183 sizeOf183 .z r .mk) trivial) (.ww r fun ex=>?_)
 have q:=LB (I:=T) (a0:=({ Ring:=a0.Ring,Size:=(u,y),L:=a0.M,X:=([]:List CE),Y:=([]:List CE),F:=([]:List Int),Others:=false }:IE)) R9 (.nil _ none 0) (.nil _ none 0) (.nil _ none 0) hd
 refine .call call133 r q r r fun a4 a5 j s=>?_
 obtain ⟨K,a6,a7,a8,a9,b0,b1,rfl,N,O,P,hd⟩:=s
 obtain ⟨t,R3,R6,R9,a,b⟩:=j.u6 p R3 R6 R9 a b
 obtain ⟨d,e,f,g⟩:=j.u4 d e f g
 exact .so 4 r r r trivial (.h r (fun _=>.buildArr zeroValue113 hG AO (.c r r r (.o r) (.c r r r (.o r) (.c r r r (.o r) .n))) r r .mk) (.e2 7 (.sa sizeOf113 .p3 r (.no [2] r (.drop .z (.drop .z (.drop .z (.ret (BO results67 (.w isAgg113 sizeOf113 r .z r .n) t ⟨(S,U,K),_,_,_,_,_,_,_,_,_,_,_,_,_,_,_,_,_,_,r,a,b,d,e,f,g,N,O,P,hd⟩)))))))))
theorem cZ {a0:JX} {Q:BL→Prop} (R3:RepSl AW I p1 c2 a0.T.A) (R6:RepSl AW I p4 c5 a0.T.B) (R9:RepSl AW I p7 c8 a0.T.M) (hd:LU a0 Q) :
  BV prog 21 [.agg #[.int .i64 a0.T.Ring,.int .u8 a0.T.Size.1,.int .u8 a0.T.Size.2.1,.int .u8 a0.T.Size.2.2,.slice p1 a0.T.A.length c2,.slice p4 a0.T.B.length c5,.slice p7 a0.T.M.length c8,.int .u8 a0.R,.int .u8 a0.C,.int .u8 a0.Room]] I (fun I_ v=>∃ r p10 c11 p13 c14 p16 c17 p19 c20 p22 c23 p25 c26 p28 c29 p31 c32 p34 c35,v=.agg #[.int .i64 r.Ring,.int .i64 r.A.Rows,.int .i64 r.A.Cols,.slice p10 r.A.Start.length c11,.slice p13 r.A.Col.length c14,.slice p16 r.A.Val.length c17,.int .i64 r.B.Rows,.int .i64 r.B.Cols,.slice p19 r.B.Start.length c20,.slice p22 r.B.Col.length c23,.slice p25 r.B.Val.length c26,.int .i64 r.Mask.Rows,.int .i64 r.Mask.Cols,.slice p28 r.Mask.Start.length c29,.slice p31 r.Mask.Col.length c32,.slice p34 r.Mask.Val.length c35,.int .i64 r.R,.int .i64 r.C,.int .i64 r.Room]∧RepSl AE I_ p10 c11 r.A.Start∧RepSl AE I_ p13 c14 r.A.Col∧RepSl AE I_ p16 c17 r.A.Val∧RepSl AE I_ p19 c20 r.B.Start∧RepSl AE I_ p22 c23 r.B.Col∧RepSl AE I_ p25 c26 r.B.Val∧RepSl AE I_ p28 c29 r.Mask.Start∧RepSl AE I_ p31 c32 r.Mask.Col∧RepSl AE I_ p34 c35 r.Mask.Val∧Q r):=by
 refine Fun.en func21 ntmps21 r fun w0 M=>?_
 refine .sr (.bx r fun O=>?_)
 refine .al mR r fun P=>?_
 refine .nk [2,1] 1 r (.loadA isAgg56 sizeOf56 r .p1 (.o 7 r) r r r ?_)
 have d:=aR (I:=I) R3 R6 R9 hd
 refine .call call67 r d r r fun S q a f=>?_
 obtain ⟨b,U,V,W,X,Y,Z,a1,a2,a3,y,D,E,F,G,H,J,K,L,rfl,s,t,u,x,g,j,k,l,m,hd⟩:=f
 obtain ⟨R3,R6,R9⟩:=a.u3 R3 R6 R9
 refine .al zeroValue113 r fun N=>?_
 refine .sa sizeOf113 .z r (.no [3,2,1] r (.seq (.dr [0,1,2,4,5,6,7,8,9,10,11,12,13,14,15,16,17,18,19,20,21,22,23,24,3,25] 26 (.fk 2 r (.h r (fun _=>.lo bP .p2 r .mk) (.h r (fun _=>.ixArr (i:=0) hG AO r r (by decide) (o:=0) r r r .mk) (.h r (fun _=>.loadA BM AO r .z (.o 5 r) r r r .mk) (.h r (fun _=>.ixArr (i:=1) hG AO r r (by decide) (o:=5) r r r .mk) (.h r (fun _=>.loadA BM AO r .z (.o 5 r) r r r .mk) ?_)))))))))
 refine .h r (fun _=>.ixArr (i:=2) hG AO r r (by decide) (o:=10) r r r .mk) (.h r (fun _=>.loadA BM AO r .z (.o 5 r) r r r .mk) (.fk 1 r (.h r (fun _=>.lo sZ .p2 r .mk) (.h r (fun _=>.conv un5 YX r r r .mk) (.h r (fun _=>.rem r r (by decide) r r .mk) (.fk 2 r (.h r (fun _=>.lo sZ .p2 r .mk) (.h r (fun _=>.conv un5 YX r r r .mk) (.h r (fun _=>.rem r r (by decide) r r .mk) ?_)))))))))
 refine .fk 2 r (.h r (fun _=>.lo sZ .p2 r .mk) (.h r (fun _=>.conv un5 YX r r r .mk) (.h r (fun _=>.rem r r (by decide) r r .mk) (.fk 1 r (.ww r fun ex=>?_)))))
 have e:=ZS (I:=q) hd
 refine .cq call68 e r fun p hd=>?_
 exact .so 3 r r r (.ck 1 r r (.ch r (fun _=>.rem r r (by decide) r r .mk) (.ch r (fun _=>.conv un5 YX r r r .mk) (.ch r (fun _=>.lo sZ .p2 r .mk) (.ck 2 r r (.ch r (fun _=>.rem r r (by decide) r r .mk) (.ch r (fun _=>.conv un5 YX r r r .mk) (.ch r (fun _=>.lo sZ .p2 r .mk) (.ck 2 r r (.ch r (fun _=>.rem r r (by decide) r r .mk) (.ch r (fun _=>.conv un5 YX r r r .mk) (.ch r (fun _=>.lo sZ .p2 r .mk) (.ck 1 r r (.ch r (fun _=>.loadA BM AO r .z (.o 5 r) r r r .mk) (.ch r (fun _=>.ixArr (i:=2) hG AO r r (by decide) (o:=10) r r r .mk) (.ch r (fun _=>.loadA BM AO r .z (.o 5 r) r r r .mk) (.ch r (fun _=>.ixArr (i:=1) hG AO r r (by decide) (o:=5) r r r .mk) (.ch r (fun _=>.loadA BM AO r .z (.o 5 r) r r r .mk) (.ch r (fun _=>.ixArr (i:=0) hG AO r r (by decide) (o:=0) r r r .mk) trivial))))))))))))))))))) (.h r (fun _=>.build mR AbJ AbH (.c r r r (.o r) (.c r r r (.o r) (.c r r r (.o r) (.c r r r (.o r) (.c r r r (.o r) (.c r r r (.o r) (.c r r r (.o r) .n))))))) (by exact ⟨⟨_,_,r,r,r⟩,⟨⟨_,_,r,r,r⟩,⟨⟨_,_,r,r,r⟩,⟨⟨_,_,r,r,r⟩,⟨⟨_,_,r,r,r⟩,⟨⟨_,_,r,r,r⟩,⟨⟨_,_,r,r,r⟩,trivial⟩⟩⟩⟩⟩⟩⟩) r r .mk) (.e2 26 (.sa MZ .p1 r (.no [2] r (.drop .z (.drop .p1 (.ret (BO results21 (.w QB MZ r .z r .n) a ⟨({ Ring:=p,A:=b.1,B:=b.2.1,Mask:=b.2.2,R:=AJ (((AJ (a0.R)).tmod 4)+1),C:=AJ (((AJ (a0.C)).tmod 4)+1),Room:=AJ (((AJ (a0.Room)).tmod 4)+1) }:BL),_,_,_,_,_,_,_,_,_,_,_,_,_,_,_,_,_,_,r,s,t,u,x,g,j,k,l,m,hd⟩))))))))
theorem fU {a0:Rows} {Q:(List AC)→Prop} (R3:RepSl AE I p1 c2 a0.Start) (R6:RepSl AE I p4 c5 a0.Col) (R9:RepSl AE I p7 c8 a0.Val) (hd:PD a0 Q) :
  BV prog 105 [.agg #[.int .i64 a0.Rows,.int .i64 a0.Cols,.slice p1 a0.Start.length c2,.slice p4 a0.Col.length c5,.slice p7 a0.Val.length c8]] I (AeH Q):=by
 refine Fun.en func105 ntmps105 r fun w0 M=>?_
 refine .sr (.bx r fun d2=>?_)
 refine .ks 1 r (.ns [1] r (.lw BM AO .z r ?_))
 have a1:=IP (I:=I) R3 R6 R9 hd
 refine .call call104 r a1 r r fun d3 d4 B a2=>?_
 obtain ⟨d5,d6,d7,d8,d9,e0,e1,rfl,d,g,i,hd⟩:=a2
 obtain ⟨R3,R6,R9⟩:=B.u3 R3 R6 R9
 refine .sa AO .z r (.nk [1] 1 r (.no [3,1] r (.seq (.sr (.kn 1 [4,3,1] r (.block (.own0 AW 103 (.lx hd [1] [1] r (fun j E l (e,a)=>fun c w=>∃ k m,j ⟨45,[],none⟩ (fun I_=>True) ((3,.slice k e.length m) :: (4,.int .i64 a) :: E) (OwnSl AW 103 k m e :: l) c w) (fun c w ho hs=>⟨_,_,jf rf trivial [0,0] r ho hs⟩) ?_))))))))
 rintro ⟨e,a⟩ a8 hd c w ⟨k,m,b7,f,_,hok,hsym⟩
 obtain ⟨t,d,g,i⟩:=f.u4 B d g i
 refine Cod.at hok hsym (.seq (.sk 2 r (.lo BI .p1 r (.kn 1 [11,4,3,1] r (.condP r hd (fun K hd=>?_) fun K hd=>?_)))))
 · refine .sn [4,3,1] r (.seq (.block (.sk 1 r (.lo DX .p1 r (.ks 1 r ?_)))))
   obtain ⟨C,b8,u,hd⟩:=hd
   obtain ⟨b9,o448,b1,a3,L,N⟩:=d.2 _ _ u
   cases N
   refine .ixa BW FG r a3 r C (AH u C) r r (.ld1 (j:=0) BI L r r r r r (.kn 1 [5,4,3,1] r (.block (.lx hd [4,1] [1] r (fun j E l (b,p)=>fun c w=>∃ q s,j ⟨45,[],none⟩ (fun I_=>True) ((3,.slice q b.length s) :: (5,.int .i64 p) :: E) (OwnSl AW 103 q s b :: l) c w) (fun c w ho hs=>⟨_,_,jf rf trivial [0,0] r ho hs⟩) ?_))))
   rintro ⟨b,p⟩ a9 hd c w ⟨q,s,c0,v,_,hok,hsym⟩
   obtain ⟨b2,O,d,g,i⟩:=v.u5 t f d g i
   refine Cod.at hok hsym (.seq (.sk 2 r (.lo DX .p1 r (.ks 2 r ?_))))
   obtain ⟨D,c1,x,hd⟩:=hd
   obtain ⟨c3,o582,b3,a4,P,R⟩:=d.2 _ _ x
   cases R
   refine .ixa BW FG r a4 r D (AH x D) r r (.ld1 (j:=0) BI P r r r r r (.kn 1 [26,5,4,3,1] r (.condP r hd (fun S hd=>?_) fun S hd=>?_)))
   · refine .sn [5,4,3,1] r (.seq (.block (.ownF .z fun b0=>?_)))
     refine .dr [0,1,2,3,4,5,6,7,8,9,10,11,12,13,14] 15 (.fk 3 r (.h r (fun _=>.lo DX .p1 r .mk) (.fk 1 r ?_)))
     obtain ⟨F,G,y,hd⟩:=hd
     obtain ⟨c4,o593,b4,a5,T,U⟩:=g.2 _ _ y
     cases U
     refine .h r (fun _=>.ixa BW FG r a5 r F (AH y F) r r .mk) (.h r (fun _=>.ld1 (j:=0) BI T r r r r r .mk) (.fk 1 r (.h r (fun _=>.lo bO .p1 r .mk) (.fk 1 r ?_))))
     obtain ⟨H,J,A,hd⟩:=hd
     obtain ⟨c6,o602,b5,a6,V,W⟩:=i.2 _ _ A
     cases W
     refine .h r (fun _=>.ixa OR sF r a6 r H (AH A H) r r .mk) (.h r (fun _=>.ld1 (j:=0) WO V r r r r r .mk) (.h r (fun _=>.build JP ZI ZG (.c r r r (.o r) (.c r r r (.o r) (.c r r r (.o r) .n))) (by exact ⟨⟨_,_,r,r,r⟩,⟨⟨_,_,r,r,r⟩,⟨⟨_,_,r,r,r⟩,trivial⟩⟩⟩) r r .mk) (.ww r fun ex=>?_)))
     refine .buildSlice 1 EE EJ JP r r (.c r r r .n) r r fun c7=>?_
     refine .so 3 r r r (.ck 1 r r trivial) (.ww r fun ex=>?_)
     obtain ⟨X,hd⟩:=hd
     refine .append (ys:=[({ Row:=a,Col:=G,Val:=J }:AC)]) 24 .p1 EE EE ZF r r r r r r r r r (.box .z (.one r) r) X r r fun c9 d0=>?_
     exact .so 3 r r r trivial (.e2 15 (.kn 1 [3,5,4,1] r (.drop .p1 (.region (.ks 3 r (.nil' fun c w ho hs=>⟨((b++([({ Row:=a,Col:=G,Val:=J }:AC)])),AJ (p+1)),hd,_,_,jf v trivial [0,0] r ho hs⟩))))))
   exact .en [4,3,1] r (.region (.ks 3 r (.nil' fun c w ho hs=>⟨(b,AJ (a+1)),hd,_,_,jf O trivial [0,0] r ho hs⟩)))
 refine .en [3] r (.drop .p1 (.sr (.kn 2 [2] r (.pub .z fun d1 Y a7=>?_))))
 obtain ⟨Z,b6⟩:=Y.u2 t f
 exact .r1 results105 r Z ⟨e,_,_,r,a7,hd⟩
theorem VL {a0 a1:List Int} {Q:Bool→Prop} (R3:RepSl AE I p1 c2 a0) (R6:RepSl AE I p4 c5 a1) (hd:KD a0 a1 Q) :
  BV prog 52 [.slice p1 a0.length c2,.slice p4 a1.length c5] I (fun _=>bK Q):=by
 refine Fun.en func52 ntmps52 r fun w0 M=>?_
 refine .sr (.kn 1 [1,0] r (.seq (.sk 1 r (.ln BW r (.ks 1 r (.ln BW r (.kn 1 [10,1,0] r (.condP r hd (fun p hd=>?_) fun p hd=>?_))))))))
 · exact .sr (.kn 1 [4] r (.r0 results52 r ⟨false,r,hd⟩))
 refine .sn [1,0] r (.seq (.sr (.kn 1 [5,1,0] r (.block (.lp hd [1,0] [] r (fun j E l b=>j ((5,.int .i64 b) :: E) l) (ji rf [] r) ?_)))))
 refine fun b q hd=>jq r fun w a=>?_
 obtain ⟨R3,R6⟩:=a.u2 R3 R6
 refine .seq (.sk 2 r (.ln BW r (.kn 1 [14,5,1,0] r (.condP r hd (fun g hd=>?_) fun g hd=>?_))))
 · refine .sn [5,1,0] r (.seq (.block (.seq (.dr [0,1,2,3,4,5,6,7,8] 9 (.fk 2 r ?_)))))
   obtain ⟨e,x,c,hd⟩:=hd
   obtain ⟨y,o64,u,s,i,k⟩:=R3.2 _ _ c
   cases k
   refine .h r (fun _=>.ixa BW FG r s r e (AH c e) r r .mk) (.h r (fun _=>.ld1 (j:=0) BI i r r r r r .mk) (.fk 2 r ?_))
   obtain ⟨f,z,d,hd⟩:=hd
   obtain ⟨A,o73,v,t,m,n⟩:=R6.2 _ _ d
   cases n
   refine .h r (fun _=>.ixa BW FG r t r f (AH d f) r r .mk) (.h r (fun _=>.ld1 (j:=0) BI m r r r r r .mk) (.fk 1 r (.e2 9 (.no [25,5,1,0] r (.condP r hd (fun o hd=>?_) fun o hd=>?_)))))
   · exact .sr (.kn 1 [4] r (.r1 results52 r a ⟨false,r,hd⟩))
   exact .sn [5,1,0] r (.region (.ks 3 r (.nil' (je (AJ (b+1)) hd a [] r))))
 exact .en [] r (.sr (.kn 1 [4] r (.r1 results52 r a ⟨true,r,hd⟩)))
theorem eK {a0 a1:List Int} {Q:Bool→Prop} (R3:RepSl AE I p1 c2 a0) (R6:RepSl AE I p4 c5 a1) (hd:NH a0 a1 Q) :
  BV prog 98 [.slice p1 a0.length c2,.slice p4 a1.length c5] I (fun _=>bK Q):=by
 refine Fun.en func98 ntmps98 r fun w0 M=>?_
 refine .sr (.kn 1 [1,0] r (.seq (.sk 1 r (.ln OR r (.ks 1 r (.ln OR r (.kn 1 [10,1,0] r (.condP r hd (fun p hd=>?_) fun p hd=>?_))))))))
 · exact .sr (.kn 1 [4] r (.r0 results98 r ⟨false,r,hd⟩))
 refine .sn [1,0] r (.seq (.sr (.kn 1 [5,1,0] r (.block (.lp hd [1,0] [] r (fun j E l b=>j ((5,.int .i64 b) :: E) l) (ji rf [] r) ?_)))))
 refine fun b q hd=>jq r fun w a=>?_
 obtain ⟨R3,R6⟩:=a.u2 R3 R6
 refine .seq (.sk 2 r (.ln OR r (.kn 1 [14,5,1,0] r (.condP r hd (fun g hd=>?_) fun g hd=>?_))))
 · refine .sn [5,1,0] r (.seq (.block (.seq (.dr [0,1,2,3,4,5,6,7,8] 9 (.fk 2 r ?_)))))
   obtain ⟨e,x,c,hd⟩:=hd
   obtain ⟨y,o64,u,s,i,k⟩:=R3.2 _ _ c
   cases k
   refine .h r (fun _=>.ixa OR sF r s r e (AH c e) r r .mk) (.h r (fun _=>.ld1 (j:=0) WO i r r r r r .mk) (.fk 2 r ?_))
   obtain ⟨f,z,d,hd⟩:=hd
   obtain ⟨A,o73,v,t,m,n⟩:=R6.2 _ _ d
   cases n
   refine .h r (fun _=>.ixa OR sF r t r f (AH d f) r r .mk) (.h r (fun _=>.ld1 (j:=0) WO m r r r r r .mk) (.fk 1 r (.e2 9 (.no [25,5,1,0] r (.condP r hd (fun o hd=>?_) fun o hd=>?_)))))
   · exact .sr (.kn 1 [4] r (.r1 results98 r a ⟨false,r,hd⟩))
   exact .sn [5,1,0] r (.region (.ks 3 r (.nil' (je (AJ (b+1)) hd a [] r))))
 exact .en [] r (.sr (.kn 1 [4] r (.r1 results98 r a ⟨true,r,hd⟩)))
theorem dA {a0 a1:Rows} {Q:Bool→Prop} (R3:RepSl AE I p1 c2 a0.Start) (R6:RepSl AE I p4 c5 a0.Col) (R9:RepSl AE I p7 c8 a0.Val) (R12:RepSl AE I p10 c11 a1.Start) (R15:RepSl AE I p13 c14 a1.Col) (R18:RepSl AE I p16 c17 a1.Val) (hd:SH a0 a1 Q) :
  BV prog 32 [.agg #[.int .i64 a0.Rows,.int .i64 a0.Cols,.slice p1 a0.Start.length c2,.slice p4 a0.Col.length c5,.slice p7 a0.Val.length c8],.agg #[.int .i64 a1.Rows,.int .i64 a1.Cols,.slice p10 a1.Start.length c11,.slice p13 a1.Col.length c14,.slice p16 a1.Val.length c17]] I (fun _=>bK Q):=by
 refine Fun.en func32 ntmps32 r fun w0 M=>?_
 refine .sr (.bx r fun l=>?_)
 refine .bx r fun m=>?_
 refine .ks 1 r (.nk [3,2] 1 r (.lo BI .p1 r (.ks 1 r (.lo BI .z r (.ks 2 r ?_)))))
 refine AL hd (fun a hd=>?_) fun a hd=>?_
 · rw [a]
   refine .ks 1 r (.yes r (.lo BI .p1 r (.ks 1 r (.yes r (.lo BI .z r (.ks 3 r ?_))))))
   refine AL hd (fun b hd=>?_) fun b hd=>?_
   · rw [b]
     refine .ks 1 r (.yes r (.lo DX .p1 r (.ks 1 r (.yes r (.lo DX .z r ?_)))))
     have e:=VL (I:=I) R3 R12 hd
     refine .yes r (.callP call52 r e r r fun n f=>?_)
     obtain ⟨o,rfl,hd⟩:=f
     refine .ks 2 r ?_
     refine AL hd (fun c hd=>?_) fun c hd=>?_
     · rw [c]
       refine .ks 1 r (.yes r (.lo DX .p1 r (.ks 1 r (.yes r (.lo DX .z r ?_)))))
       have g:=VL (I:=I) R6 R15 hd
       refine .yes r (.callP call52 r g r r fun p h=>?_)
       obtain ⟨q,rfl,hd⟩:=h
       refine .ks 2 r ?_
       refine AL hd (fun d hd=>?_) fun d hd=>?_
       · rw [d]
         refine .ks 1 r (.yes r (.lo bO .p1 r (.ks 1 r (.yes r (.lo bO .z r ?_)))))
         have i:=eK (I:=I) R9 R18 hd
         refine .yes r (.callP call98 r i r r fun s j=>?_)
         obtain ⟨k,rfl,hd⟩:=j
         exact .kn 2 [4] r (.drop .z (.drop .z (.r0 results32 r ⟨k,r,hd⟩)))
       rw [d]
       exact .kn 7 [4] r (.drop .z (.drop .z (.r0 results32 r ⟨false,r,hd⟩)))
     rw [c]
     exact .kn 14 [4] r (.drop .z (.drop .z (.r0 results32 r ⟨false,r,hd⟩)))
   rw [b]
   exact .kn 21 [4] r (.drop .z (.drop .z (.r0 results32 r ⟨false,r,hd⟩)))
 rw [a]
 exact .kn 28 [4] r (.drop .z (.drop .z (.r0 results32 r ⟨false,r,hd⟩)))
theorem kF {a0 a1:AK} {Q:Bool→Prop} (hd:XN a0 a1 Q) :
  BV prog 218 [.agg (PB a0).toArray,.agg (PB a1).toArray] I (fun _=>bK Q):=by
 refine Fun.en func218 ntmps218 r fun w0 M=>?_
 refine .sr (.bx r fun c=>?_)
 refine .bx r fun d=>?_
 refine .ks 1 r (.nk [3,2] 1 r (.lo BI .p1 r (.ks 1 r (.lo BI .z r (.ks 2 r ?_)))))
 refine AL hd (fun b hd=>?_) fun b hd=>?_
 · rw [b]
   exact .kn 14 [4] r (.drop .z (.drop .z (.r0 results218 r ⟨true,r,hd⟩)))
 rw [b]
 refine .ks 1 r (.yes r (.lo BI .p1 r (.ks 1 r (.yes r (.lo BI .z r (.ks 2 r ?_))))))
 refine AL hd (fun a hd=>?_) fun a hd=>?_
 · rw [a]
   exact .ks 1 r (.yes r (.lo BI .p1 r (.ks 1 r (.yes r (.lo BI .z r (.kn 4 [4] r (.drop .z (.drop .z (.r0 results218 r ⟨(decide (a0.Col<a1.Col)),r,hd⟩)))))))))
 rw [a]
 exact .kn 8 [4] r (.drop .z (.drop .z (.r0 results218 r ⟨false,r,hd⟩)))
theorem kG {a0:List AK} {Q:Bool→Prop} (R3:RepSl CD I p1 c2 a0) (hd:TL a0 Q) :
  BV prog 179 [.slice p1 a0.length c2] I (fun _=>bK Q):=by
 refine Fun.en func179 ntmps179 r fun w0 M=>?_
 refine .sr (.kn 1 [0] r (.seq (.sr (.kn 1 [3,0] r (.block (.lp hd [0] [] r (fun j E l b=>j ((3,.int .i64 b) :: E) l) (ji rf [] r) ?_))))))
 refine fun b q hd=>jq r fun s a=>?_
 have R3:=a.u1 R3
 refine .seq (.sk 2 r (.ln DD r (.kn 1 [7,3,0] r (.condP r hd (fun g hd=>?_) fun g hd=>?_))))
 · refine .sn [3,0] r (.seq (.block (.seq (.dr [0,1,2,3,4,5,6,7,8,9,10] 11 (.fk 3 r ?_)))))
   obtain ⟨e,x,c,hd⟩:=hd
   obtain ⟨y,o67,v,t,i,k⟩:=R3.2 _ _ c
   cases k
   refine .h r (fun _=>.ixa DD BS r t r e (AH c e) r r .mk) (.h r (fun _=>.ldW HN BS i r r r r .mk) (.fk 2 r ?_))
   obtain ⟨f,z,d,hd⟩:=hd
   obtain ⟨A,o76,w,u,m,n⟩:=R3.2 _ _ d
   cases n
   refine .h r (fun _=>.ixa DD BS r u r f (AH d f) r r .mk) (.h r (fun _=>.ldW HN BS m r r r r .mk) (.ww r fun ex=>?_))
   have o:=kF (I:=s) hd
   refine .cq call218 o r fun B hd=>?_
   refine .so 0 r r r trivial (.fk 1 r (.e2 11 (.no [20,3,0] r (.condP r hd (fun p hd=>?_) fun p hd=>?_))))
   · exact .sr (.kn 1 [2] r (.r1 results179 r a ⟨false,r,hd⟩))
   exact .sn [3,0] r (.region (.ks 3 r (.nil' (je (AJ (b+1)) hd a [] r))))
 exact .en [] r (.sr (.kn 1 [2] r (.r1 results179 r a ⟨true,r,hd⟩)))
theorem kH {a0:Int} {Q:Bool→Prop} (hd:XO a0 Q) :
  BV prog 235 [.int .i64 a0] I (fun _=>bK Q):=by
 refine Fun.en func235 ntmps235 r fun w0 M=>?_
 refine .sk 1 r (.nk [0] 3 r ?_)
 refine AL hd (fun a hd=>?_) fun a hd=>?_
 · rw [a]
   exact .kn 8 [2] r (.r0 results235 r ⟨true,r,hd⟩)
 rw [a]
 refine .ks 4 r ?_
 refine AL hd (fun b hd=>?_) fun b hd=>?_
 · rw [b]
   exact .kn 4 [2] r (.r0 results235 r ⟨true,r,hd⟩)
 rw [b]
 exact .kn 4 [2] r (.r0 results235 r ⟨(a0==4),r,hd⟩)
theorem oQ {a0:Int} {Q:Int→Prop} (hd:VU a0 Q) :
  BV prog 181 [.int .i64 a0] I (fun _=>gZ Q):=by
 refine Fun.en func181 ntmps181 r fun w0 M=>?_
 refine .sr (.kn 1 [0] r (.seq (.sk 1 r ?_)))
 have a:=kH (I:=I) hd
 refine .cq call235 a r fun c hd=>?_
 refine .no [4] r (.condP r hd (fun b hd=>?_) fun b hd=>?_)
 · exact .sr (.kn 1 [2] r (.r0 results181 r ⟨4611686018427387904,r,hd⟩))
 exact .sn [] r (.sr (.kn 1 [2] r (.r0 results181 r ⟨0,r,hd⟩)))
theorem oR {a0 a1 a2:Int} {a3:List AK} {Q:(Rows×Int)→Prop} (R3:RepSl CD I p1 c2 a3) (hd:VV a0 a1 a2 a3 Q) :
  BV prog 115 [.int .i64 a0,.int .i64 a1,.int .i64 a2,.slice p1 a3.length c2] I (o8_ Q):=by
 refine Fun.en func115 ntmps115 r fun w0 M=>?_
 refine .sr (.al CK r fun i5=>?_)
 refine .kn 1 [8,3,2,1,0] r (.seq (.sk 1 r ?_))
 have d3:=WK (I:=I) hd
 refine .cq call102 d3 r fun i6 hd=>?_
 refine .kn 1 [17,8,3,2,1,0] r (.condP r hd (fun d4 hd=>?_) fun d4 hd=>?_)
 · exact .sr (.build CK FF FT .n (by exact trivial) r r (.sa AO .z r (.kn 1 [9,8] r (.ret (BO results115 (.w BM AO r .z r (.t r .n)) rf ⟨(({ Rows:=0,Cols:=0,Start:=([]:List Int),Col:=([]:List Int),Val:=([]:List Int) }:Rows),8),_,_,_,_,_,_,r,(.nil _ _ _),(.nil _ _ _),(.nil _ _ _),hd⟩)))))
 refine .sn [8,3,2,1,0] r (.seq (.sk 3 r ?_))
 refine AL hd (fun k hd=>?_) fun k hd=>?_
 · rw [k]
   exact .kn 11 [32,8,3,2,1,0] r (.condKT r r (.sr (.build CK FF FT .n (by exact trivial) r r (.sa AO .z r (.kn 1 [9,8] r (.ret (BO results115 (.w BM AO r .z r (.t r .n)) rf ⟨(({ Rows:=0,Cols:=0,Start:=([]:List Int),Col:=([]:List Int),Val:=([]:List Int) }:Rows),3),_,_,_,_,_,_,r,(.nil _ _ _),(.nil _ _ _),(.nil _ _ _),hd⟩)))))))
 rw [k]
 refine .ks 4 r ?_
 refine AL hd (fun m hd=>?_) fun m hd=>?_
 · rw [m]
   exact .kn 7 [32,8,3,2,1,0] r (.condKT r r (.sr (.build CK FF FT .n (by exact trivial) r r (.sa AO .z r (.kn 1 [9,8] r (.ret (BO results115 (.w BM AO r .z r (.t r .n)) rf ⟨(({ Rows:=0,Cols:=0,Start:=([]:List Int),Col:=([]:List Int),Val:=([]:List Int) }:Rows),3),_,_,_,_,_,_,r,(.nil _ _ _),(.nil _ _ _),(.nil _ _ _),hd⟩)))))))
 rw [m]
 refine .ks 4 r ?_
 refine AL hd (fun p hd=>?_) fun p hd=>?_
 · rw [p]
   exact .kn 3 [32,8,3,2,1,0] r (.condKT r r (.sr (.build CK FF FT .n (by exact trivial) r r (.sa AO .z r (.kn 1 [9,8] r (.ret (BO results115 (.w BM AO r .z r (.t r .n)) rf ⟨(({ Rows:=0,Cols:=0,Start:=([]:List Int),Col:=([]:List Int),Val:=([]:List Int) }:Rows),3),_,_,_,_,_,_,r,(.nil _ _ _),(.nil _ _ _),(.nil _ _ _),hd⟩)))))))
 rw [p]
 refine .kn 3 [32,8,3,2,1,0] r (.condP r hd (fun d5 hd=>?_) fun d5 hd=>?_)
 · exact .sr (.build CK FF FT .n (by exact trivial) r r (.sa AO .z r (.kn 1 [9,8] r (.ret (BO results115 (.w BM AO r .z r (.t r .n)) rf ⟨(({ Rows:=0,Cols:=0,Start:=([]:List Int),Col:=([]:List Int),Val:=([]:List Int) }:Rows),3),_,_,_,_,_,_,r,(.nil _ _ _),(.nil _ _ _),(.nil _ _ _),hd⟩)))))
 refine .sn [8,3,2,1,0] r (.seq (.sr (.kn 1 [10,8,3,2,1,0] r (.block (.lp hd [8,3,2,1,0] [0] r (fun j E l q=>j ((10,.int .i64 q) :: E) l) (ji rf [0] r) ?_)))))
 refine fun q e9 hd=>jq r fun d6 a=>?_
 have R3:=a.u1 R3
 refine .seq (.sk 2 r (.ln DD r (.kn 1 [37,10,8,3,2,1,0] r (.condP r hd (fun W hd=>?_) fun W hd=>?_))))
 · refine .sn [10,8,3,2,1,0] r (.seq (.block (.sk 2 r ?_)))
   obtain ⟨H,g0,x,hd⟩:=hd
   obtain ⟨g1,o265,f2,d7,X,Y⟩:=R3.2 _ _ x
   cases Y
   refine .ixa DD BS r d7 r H (AH x H) r r (.ks 1 r (.ld1 (j:=0) BI X r r r r r (.ks 2 r ?_)))
   refine AL hd (fun e hd=>?_) fun e hd=>?_
   · rw [e]
     exact .kn 25 [71,10,8,3,2,1,0] r (.condKT r r (.sr (.build CK FF FT .n (by exact trivial) r r (.sa AO .z r (.kn 1 [9,8] r (.ret (BO results115 (.w BM AO r .z r (.t r .n)) a ⟨(({ Rows:=0,Cols:=0,Start:=([]:List Int),Col:=([]:List Int),Val:=([]:List Int) }:Rows),3),_,_,_,_,_,_,r,(.nil _ _ _),(.nil _ _ _),(.nil _ _ _),hd⟩)))))))
   rw [e]
   refine .ks 2 r ?_
   obtain ⟨J,g2,y,hd⟩:=hd
   obtain ⟨g3,o275,f3,d8,Z,a4⟩:=R3.2 _ _ y
   cases a4
   refine .yes r (.ixa DD BS r d8 r J (AH y J) r r (.ks 1 r (.yes r (.ld1 (j:=0) BI Z r r r r r (.ks 4 r ?_)))))
   refine AL hd (fun f hd=>?_) fun f hd=>?_
   · rw [f]
     exact .kn 16 [71,10,8,3,2,1,0] r (.condKT r r (.sr (.build CK FF FT .n (by exact trivial) r r (.sa AO .z r (.kn 1 [9,8] r (.ret (BO results115 (.w BM AO r .z r (.t r .n)) a ⟨(({ Rows:=0,Cols:=0,Start:=([]:List Int),Col:=([]:List Int),Val:=([]:List Int) }:Rows),3),_,_,_,_,_,_,r,(.nil _ _ _),(.nil _ _ _),(.nil _ _ _),hd⟩)))))))
   rw [f]
   refine .ks 2 r ?_
   obtain ⟨K,g4,A,hd⟩:=hd
   obtain ⟨g5,o285,f4,d9,a5,a6⟩:=R3.2 _ _ A
   cases a6
   refine .yes r (.ixa DD BS r d9 r K (AH A K) r r (.ks 1 r (.yes r (.ld1 (j:=1) BI a5 r r r r r (.ks 3 r ?_)))))
   refine AL hd (fun g hd=>?_) fun g hd=>?_
   · rw [g]
     exact .kn 8 [71,10,8,3,2,1,0] r (.condKT r r (.sr (.build CK FF FT .n (by exact trivial) r r (.sa AO .z r (.kn 1 [9,8] r (.ret (BO results115 (.w BM AO r .z r (.t r .n)) a ⟨(({ Rows:=0,Cols:=0,Start:=([]:List Int),Col:=([]:List Int),Val:=([]:List Int) }:Rows),3),_,_,_,_,_,_,r,(.nil _ _ _),(.nil _ _ _),(.nil _ _ _),hd⟩)))))))
   rw [g]
   refine .ks 2 r ?_
   obtain ⟨L,g6,B,hd⟩:=hd
   obtain ⟨g7,o295,f5,e0,a7,a8⟩:=R3.2 _ _ B
   cases a8
   refine .yes r (.ixa DD BS r e0 r L (AH B L) r r (.ks 1 r (.yes r (.ld1 (j:=1) BI a7 r r r r r (.kn 3 [71,10,8,3,2,1,0] r (.condP r hd (fun a9 hd=>?_) fun a9 hd=>?_))))))
   · exact .sr (.build CK FF FT .n (by exact trivial) r r (.sa AO .z r (.kn 1 [9,8] r (.ret (BO results115 (.w BM AO r .z r (.t r .n)) a ⟨(({ Rows:=0,Cols:=0,Start:=([]:List Int),Col:=([]:List Int),Val:=([]:List Int) }:Rows),3),_,_,_,_,_,_,r,(.nil _ _ _),(.nil _ _ _),(.nil _ _ _),hd⟩)))))
   exact .sn [10,8,3,2,1,0] r (.region (.ks 3 r (.nil' (je (AJ (q+1)) hd a [0] r))))
 refine .en [8,3,2,1,0] r (.seq (.sk 1 r ?_))
 have b0:=kG (I:=d6) R3 hd
 refine .cq call179 b0 r fun g8 hd=>?_
 refine .kn 1 [75,8,3,2,1,0] r (.condP r hd (fun b1 hd=>?_) fun b1 hd=>?_)
 · exact .sr (.build CK FF FT .n (by exact trivial) r r (.sa AO .z r (.kn 1 [9,8] r (.ret (BO results115 (.w BM AO r .z r (.t r .n)) a ⟨(({ Rows:=0,Cols:=0,Start:=([]:List Int),Col:=([]:List Int),Val:=([]:List Int) }:Rows),6),_,_,_,_,_,_,r,(.nil _ _ _),(.nil _ _ _),(.nil _ _ _),hd⟩)))))
 refine .sn [8,3,2,1,0] r (.seq (.sk 1 r (.ln DD r (.kn 1 [79,8,3,2,1,0] r (.condP r hd (fun b2 hd=>?_) fun b2 hd=>?_)))))
 · exact .sr (.build CK FF FT .n (by exact trivial) r r (.sa AO .z r (.kn 1 [9,8] r (.ret (BO results115 (.w BM AO r .z r (.t r .n)) a ⟨(({ Rows:=0,Cols:=0,Start:=([]:List Int),Col:=([]:List Int),Val:=([]:List Int) }:Rows),5),_,_,_,_,_,_,r,(.nil _ _ _),(.nil _ _ _),(.nil _ _ _),hd⟩)))))
 refine .sn [8,3,2,1,0] r (.sr (.kn 1 [11,8,3,2,1,0] r (.seq (.sr (.kn 1 [12,11,8,3,2,1,0] r (.block (.own0 AW 103 (.lx hd [8,3,2,1,0] [1] r (fun j E l (d,i)=>fun c w=>∃ s u,j ⟨125,[],none⟩ (fun I_=>True) ((11,.slice s d.length u) :: (12,.int .i64 i) :: E) (OwnSl AW 103 s u d :: l) c w) (fun c w ho hs=>⟨_,_,jf rf trivial [0,0] r ho hs⟩) ?_))))))))
 rintro ⟨d,i⟩ f0 hd c w ⟨s,u,N,b,_,hok,hsym⟩
 obtain ⟨C,R3⟩:=b.u2 a R3
 refine Cod.at hok hsym (.seq (.sk 2 r (.ln DD r (.kn 1 [84,12,11,8,3,2,1,0] r (.condP r hd (fun b3 hd=>?_) fun b3 hd=>?_)))))
 · refine .sn [12,11,8,3,2,1,0] r (.seq (.block (.sk 2 r ?_)))
   obtain ⟨O,g9,D,hd⟩:=hd
   obtain ⟨h0,o702,f6,e1,b4,b5⟩:=R3.2 _ _ D
   cases b5
   refine .ixa DD BS r e1 r O (AH D O) r r (.ks 1 r (.ldA (j:=2) BG AM b4 r r (.o 2 r) r r r ?_))
   have b6:=Y0 (I:=N) hd
   refine .cq call180 b6 r fun P hd=>?_
   refine .kn 5 [14,13,12,11,8,3,2,1,0] r (.seq (.sr (.kn 2 [97,13,12,11,8,3,2,1,0] r (.condP r hd (fun b7 hd=>?_) fun b7 hd=>?_))))
   · exact .sr (.build CK FF FT .n (by exact trivial) r r (.sa AO .p1 r (.kn 1 [9,8] r (.drop .z (.ret (BO results115 (.w BM AO r .z r (.t r .n)) C ⟨(({ Rows:=0,Cols:=0,Start:=([]:List Int),Col:=([]:List Int),Val:=([]:List Int) }:Rows),12),_,_,_,_,_,_,r,(.nil _ _ _),(.nil _ _ _),(.nil _ _ _),hd⟩))))))
   refine .sn [13,12,11,8,3,2,1,0] r (.sk 2 r ?_)
   have b8:=oQ (I:=N) hd
   refine .cq call181 b8 r fun h1 hd=>?_
   refine .kn 1 [102,13,12,11,8,3,2,1,0] r (.condP r hd (fun b9 hd=>?_) fun b9 hd=>?_)
   · refine .ownF .z fun f1=>?_
     refine .dr [0,1,2,3,4,5,6,7,8,9,10,11,12,13,14] 15 (.fk 3 r ?_)
     obtain ⟨R,S,F,hd⟩:=hd
     obtain ⟨h2,o727,f7,e3,c0,c1⟩:=R3.2 _ _ F
     cases c1
     refine .h r (fun _=>.ixa DD BS r e3 r R (AH F R) r r .mk) (.fk 1 r (.h r (fun _=>.ld1 (j:=0) BI c0 r r r r r .mk) (.fk 2 r ?_)))
     obtain ⟨T,U,G,hd⟩:=hd
     obtain ⟨h3,o736,f8,e4,c3,c4⟩:=R3.2 _ _ G
     cases c4
     refine .h r (fun _=>.ixa DD BS r e4 r T (AH G T) r r .mk) (.fk 1 r (.h r (fun _=>.ld1 (j:=1) BI c3 r r r r r .mk) (.fk 1 r (.h r (fun _=>.build JP ZI ZG (.c r r r (.o r) (.c r r r (.o r) (.c r r r (.o r) .n))) (by exact ⟨⟨_,_,r,r,r⟩,⟨⟨_,_,r,r,r⟩,⟨⟨_,_,r,r,r⟩,trivial⟩⟩⟩) r r .mk) (.ww r fun ex=>?_)))))
     refine .buildSlice 1 EE EJ JP r r (.c r r r .n) r r fun h4=>?_
     refine .so 3 r r r (.ck 1 r r trivial) (.ww r fun ex=>?_)
     obtain ⟨c5,hd⟩:=hd
     refine .append (ys:=[({ Row:=S.Row,Col:=U.Col,Val:=P.1 }:AC)]) 24 .p1 EE EE ZF r r r r r r r r r (.box .z (.one r) r) c5 r r fun h5 h6=>?_
     exact .so 3 r r r trivial (.e2 15 (.kn 1 [11,12,8,3,2,1,0] r (.drop .p1 (.region (.ks 3 r (.nil' fun c w ho hs=>⟨((d++([({ Row:=S.Row,Col:=U.Col,Val:=P.1 }:AC)])),AJ (i+1)),hd,_,_,jf b trivial [0,0] r ho hs⟩))))))
   exact .sn [12,11,8,3,2,1,0] r (.region (.ks 3 r (.nil' fun c w ho hs=>⟨(d,AJ (i+1)),hd,_,_,jf b trivial [0,0] r ho hs⟩)))
 refine .en [11,8,2,1,0] r (.sk 4 r (.pub .z fun e5 c6 v=>?_))
 obtain ⟨c7,c8⟩:=c6.u2 C b
 have c9:=WL (I:=e5) v hd
 refine .call call60 r c9 r r fun h7 h8 d0 d1=>?_
 obtain ⟨V,h9,i0,i1,i2,i3,i4,rfl,e6,e7,e8,hd⟩:=d1
 obtain ⟨d2,f9,v⟩:=d0.u3 c7 c8 v
 exact .ks 2 r (.sa AO .z r (.kn 1 [9,8] r (.ret (BO results115 (.w BM AO r .z r (.t r .n)) d2 ⟨(V.1,V.2),_,_,_,_,_,_,r,e6,e7,e8,hd⟩))))
theorem kI {a0:AN} {Q:AN→Prop} (hd:TM a0 Q) :
  BV prog 224 [.agg (EH a0).toArray] I (fun _=>sE Q):=by
 refine Fun.en func224 ntmps224 r fun w0 M=>?_
 refine .sr (.bx r fun d=>?_)
 refine .al CP r fun e=>?_
 refine .nk [2,1] 1 r (.lo WO .p1 r (.invS r r r r (.ks 1 r (.lo DY .p1 r (.invU (M:=18446744073709551615) r (by decide) r r r (.build CP KV KU (.c r r r (.o r) (.c r r r (.o r) .n)) (by exact ⟨⟨_,_,r,r,r⟩,⟨⟨_,_,r,r,r⟩,trivial⟩⟩) r r (.build CP KV KU (.c r r r (.o r) .n) (by exact ⟨⟨_,_,r,r,r⟩,trivial⟩) r r ?_)))))))
 have a:=MV (I:=I) hd
 refine .cq call170 a r fun b hd=>?_
 exact .sa AM .z r (.no [2] r (.drop .p1 (.ret (BO results224 (.w BG AM r .z r .n) rf ⟨b,r,hd⟩))))
theorem rX {a0 a1:Int} {Q:AN→Prop} (hd:YL a0 a1 Q) :
  BV prog 174 [.int .i64 a0,.int .i64 a1] I (fun _=>sE Q):=by
 refine Fun.en func174 ntmps174 r fun w0 M=>?_
 refine .sr (.al CP r fun L=>?_)
 refine .nk [4,1,0] 1 r ?_
 have y:=GG (I:=I) hd
 refine .cq call171 y r fun H hd=>?_
 refine .al CP r fun F=>?_
 refine .sa AM .z r (.nk [5,4,1] 3 r (.nk [6,5,4,1] 1 r (.conv kW MN r r r (.kn 1 [7,6,5,4] r (.seq (.jn hd [6,5,4] [1,0] r (fun j E l x=>j ((7,.int .u64 x) :: E) l) (fun J hd=>?_) ?_))))))
 · skip
   refine .sr (.kn 1 [15,7,6,5,4] r (.condP r hd (fun A hd=>?_) fun A hd=>?_))
   · exact .region (.ks 1 r (.neg r r r (.ks 1 r (.nil' (je (IntKind.wrap .u64 (0 - (IntKind.wrap .u64 (a1)))) hd rf [1,0] r)))))
   exact .skip' (je (IntKind.wrap .u64 (a1)) hd rf [1,0] r)
 refine fun x hd=>jq r fun K B=>?_
 refine .sr (.al CP r fun G=>?_)
 refine .no [8,7,6,5,4] r (.seq (.block (.lp hd [8,6,5,4] [1] r (fun j E l (g,h,a,b,c)=>j ((7,.int .u64 a) :: E) (pto F (.cells #[.int .i64 g,.int .u64 h] 157 (0,0)) :: pto G (.cells #[.int .i64 b,.int .u64 c] 157 (0,0)) :: l)) (ji rf [2,0,0] r) ?_)))
 rintro ⟨g,h,a,b,c⟩ D hd
 refine jq r fun d e=>?_
 have f:=e.u1 B
 refine .seq (.sr (.kn 2 [19,8,7,6,5,4] r (.condP r hd (fun o hd=>?_) fun o hd=>?_)))
 · refine .sn [8,7,6,5,4] r (.block (.seq (.sk 1 r (.rem r r (by decide) r r (.kn 1 [22,8,7,6,5,4] r (.condP r hd (fun p hd=>?_) fun p hd=>?_))))))
   · refine .region (.lw BG AM .p1 r (.lw BG AM .z r ?_))
     have q:=MV (I:=d) hd
     refine .cq call170 q r fun i hd=>?_
     refine .sa AM .p1 r (.ns [8,7,6,5,4] r (.lw BG AM .z r (.lw BG AM .z r ?_)))
     have s:=MV (I:=d) hd
     refine .cq call170 s r fun k hd=>?_
     exact .sa AM .z r (.no [8,7,6,5,4] r (.region (.ks 1 r (.quo r r (by decide) r r (.ks 1 r (.nil' (je (k.Hi,k.Lo,IntKind.wrap .u64 (a.tdiv 2),i.Hi,i.Lo) hd e [0,0,0] r)))))))
   refine .sn [8,7,6,5,4] r (.sr (.lw BG AM .z r (.lw BG AM .z r ?_)))
   have t:=MV (I:=d) hd
   refine .cq call170 t r fun m hd=>?_
   exact .sa AM .z r (.no [8,7,6,5,4] r (.region (.ks 1 r (.quo r r (by decide) r r (.ks 1 r (.nil' (je (m.Hi,m.Lo,IntKind.wrap .u64 (a.tdiv 2),b,c) hd e [0,0,0] r)))))))
 refine .en [8,6,4] r (.drop .z (.seq (.sr (.kn 1 [31,8,4] r (.condP r hd (fun u hd=>?_) fun u hd=>?_)))))
 · refine .sr (.lw BG AM .z r ?_)
   have v:=kI (I:=d) hd
   refine .cq call224 v r fun C hd=>?_
   exact .sa AM .p1 r (.no [4] r (.drop .z (.ret (BO results174 (.w BG AM r .z r .n) f ⟨C,r,hd⟩))))
 exact .sn [8,4] r (.sr (.lw BG AM .z r (.sa AM .p1 r (.no [4] r (.drop .z (.ret (BO results174 (.w BG AM r .z r .n) f ⟨({ Hi:=b,Lo:=c }:AN),r,hd⟩)))))))
theorem rY {a0 a1 a2:Int} {Q:AN→Prop} (hd:YM a0 a1 a2 Q) :
  BV prog 106 [.int .i64 a0,.int .i64 a1,.int .i64 a2] I (fun _=>sE Q):=by
 refine Fun.en func106 ntmps106 r fun w0 M=>?_
 refine .sr (.al CP r fun b3=>?_)
 refine .no [6,2,1,0] r (.seq (.jn hd [6,2,1,0] [0] r (fun j E l N=>j ((7,.bool N) :: E) l) (fun k8 hd=>?_) ?_))
 · skip
   refine .region (.ks 3 r ?_)
   refine AL hd (fun e hd=>?_) fun e hd=>?_
   · rw [e]
     exact .ks 4 r (.nil' (je true hd rf [0] r))
   rw [e]
   exact .ks 4 r (.nil' (je (decide (4611686018427387904≤a2)) hd rf [0] r))
 refine fun N hd=>jq r fun c b=>?_
 refine .sr (.kn 1 [15,7,6,2,1] r (.block (.sr (.kn 2 [17,15,7,6,2,1] r (.condP r hd (fun f hd=>?_) fun f hd=>?_)))))
 · refine .sk 1 r ?_
   have g:=GG (I:=c) hd
   refine .cq call171 g r fun Z hd=>?_
   refine .ks 1 r ?_
   have i:=GG (I:=c) hd
   refine .cq call171 i r fun a3 hd=>?_
   have k:=MV (I:=c) hd
   refine .cq call170 k r fun O hd=>?_
   refine .al CP r fun a4=>?_
   refine .sa AM .z r (.no [8,7,6] r (.seq (.seq (.dr [0,1,2,3,4,5,6] 7 (.fk 2 r ?_)))))
   refine AL hd (fun a hd=>?_) fun a hd=>?_
   · refine .h r (fun _=>.gno r r a r r .mk) (.h r (fun _=>.gno r r a r r .mk) (.h r (fun _=>.gno r r a r r .mk) (.h r (fun _=>.gno r r a r r .mk) (.h r (fun _=>.pickT r a r r r .mk) (.e2 7 (.no [30,8,6] r (.condKT r r (.sr ?_))))))))
     have m:=GG (I:=c) hd
     refine .cq call171 m r fun P hd=>?_
     exact .sa AM .p1 r (.no [6] r (.drop .z (.ret (BO results106 (.w BG AM r .z r .n) b ⟨P,r,hd⟩))))
   refine .h r (fun _=>.gyes r r a (.lw BG AM .z r .mk)) (.ww r fun ex=>?_)
   have o:=GG (I:=c) hd
   refine .gyes r r a (.callP call171 r o r r fun a5 p=>?_)
   obtain ⟨a6,rfl,hd⟩:=p
   refine .so 2 r r r (.ch r (fun _=>.gyes r r a (.lw BG AM .z r .mk)) trivial) (.ww r fun ex=>?_)
   have q:=WS (I:=c) hd
   refine .gyes r r a (.callP call172 r q r r fun a7 s=>?_)
   obtain ⟨a8,rfl,hd⟩:=s
   refine .so 2 r r r trivial (.h r (fun _=>.gyes r r a (.gt r r r r .mk)) (.h r (fun _=>.pickF r a r r r .mk) (.e2 7 (.no [30,8,6] r (.condP r hd (fun t hd=>?_) fun t hd=>?_)))))
   · refine .sr ?_
     have u:=GG (I:=c) hd
     refine .cq call171 u r fun R hd=>?_
     exact .sa AM .p1 r (.no [6] r (.drop .z (.ret (BO results106 (.w BG AM r .z r .n) b ⟨R,r,hd⟩))))
   exact .sn [8,6] r (.sr (.lw BG AM .z r (.sa AM .p1 r (.no [6] r (.drop .z (.ret (BO results106 (.w BG AM r .z r .n) b ⟨O,r,hd⟩)))))))
 refine .sr (.kn 2 [33,15,7,6,2,1] r (.condP r hd (fun v hd=>?_) fun v hd=>?_))
 · refine .seq (.sr (.kn 1 [35,6,1] r (.condP r hd (fun x hd=>?_) fun x hd=>?_)))
   · refine .sr ?_
     have y:=GG (I:=c) hd
     refine .cq call171 y r fun S hd=>?_
     exact .sa AM .z r (.no [6] r (.ret (BO results106 (.w BG AM r .z r .n) b ⟨S,r,hd⟩)))
   refine .sn [6,1] r (.sk 1 r ?_)
   have A:=GG (I:=c) hd
   refine .cq call171 A r fun T hd=>?_
   exact .sa AM .z r (.no [6] r (.ret (BO results106 (.w BG AM r .z r .n) b ⟨T,r,hd⟩)))
 refine .sr (.kn 2 [39,15,7,6,2,1] r (.condP r hd (fun B hd=>?_) fun B hd=>?_))
 · refine .seq (.sr (.kn 1 [41,6,2] r (.condP r hd (fun C hd=>?_) fun C hd=>?_)))
   · refine .sr ?_
     have D:=GG (I:=c) hd
     refine .cq call171 D r fun U hd=>?_
     exact .sa AM .z r (.no [6] r (.ret (BO results106 (.w BG AM r .z r .n) b ⟨U,r,hd⟩)))
   refine .sn [6,2] r (.sk 1 r ?_)
   have F:=GG (I:=c) hd
   refine .cq call171 F r fun V hd=>?_
   exact .sa AM .z r (.no [6] r (.ret (BO results106 (.w BG AM r .z r .n) b ⟨V,r,hd⟩)))
 refine .sr (.kn 2 [45,15,6,2,1] r (.condP r hd (fun G hd=>?_) fun G hd=>?_))
 · refine .sk 3 r ?_
   refine AL hd (fun d hd=>?_) fun d hd=>?_
   · rw [d]
     refine .ks 3 r ?_
     have H:=PG (I:=c) hd
     refine .cq call173 H r fun W hd=>?_
     exact .sa AM .z r (.no [6] r (.ret (BO results106 (.w BG AM r .z r .n) b ⟨W,r,hd⟩)))
   rw [d]
   refine .ks 3 r ?_
   have J:=PG (I:=c) hd
   refine .cq call173 J r fun X hd=>?_
   exact .sa AM .z r (.no [6] r (.ret (BO results106 (.w BG AM r .z r .n) b ⟨X,r,hd⟩)))
 refine .sr (.kn 2 [54,6,2,1] r (.condP r hd (fun K hd=>?_) fun K hd=>?_))
 · refine .sk 2 r ?_
   have L:=rX (I:=c) hd
   refine .cq call174 L r fun Y hd=>?_
   exact .sa AM .z r (.no [6] r (.ret (BO results106 (.w BG AM r .z r .n) b ⟨Y,r,hd⟩)))
 exact .sr (.build CP KV KU .n (by exact trivial) r r (.sa AM .z r (.no [6] r (.ret (BO results106 (.w BG AM r .z r .n) b ⟨({ Hi:=0,Lo:=0 }:AN),r,hd⟩)))))
theorem kJ {a0:Int} {a1 a2 a3:Rows} {Q:((List AK)×Int)→Prop} (R3:RepSl AE I p1 c2 a1.Start) (R6:RepSl AE I p4 c5 a1.Col) (R9:RepSl AE I p7 c8 a1.Val) (R12:RepSl AE I p10 c11 a2.Start) (R15:RepSl AE I p13 c14 a2.Col) (R18:RepSl AE I p16 c17 a2.Val) (R21:RepSl AE I p19 c20 a3.Start) (R24:RepSl AE I p22 c23 a3.Col) (R27:RepSl AE I p25 c26 a3.Val) (hd:TN a0 a1 a2 a3 Q) :
  BV prog 37 [.int .i64 a0,.agg #[.int .i64 a1.Rows,.int .i64 a1.Cols,.slice p1 a1.Start.length c2,.slice p4 a1.Col.length c5,.slice p7 a1.Val.length c8],.agg #[.int .i64 a2.Rows,.int .i64 a2.Cols,.slice p10 a2.Start.length c11,.slice p13 a2.Col.length c14,.slice p16 a2.Val.length c17],.agg #[.int .i64 a3.Rows,.int .i64 a3.Cols,.slice p19 a3.Start.length c20,.slice p22 a3.Col.length c23,.slice p25 a3.Val.length c26]] I (AeK Q):=by
 refine Fun.en func37 ntmps37 r fun w0 M=>?_
 refine .sr (.bx r fun o5=>?_)
 refine .bx r fun o6=>?_
 refine .bx r fun o7=>?_
 refine .kn 2 [7,6,5,0] r (.seq (.dr [0,2,4,1,3,5,6,7] 8 (.h r (fun _=>.lw BM AO .p2 r .mk) (.h r (fun _=>.lw BM AO .p1 r .mk) (.h r (fun _=>.lw BM AO .z r .mk) (.ww r fun ex=>?_))))))
 have f2:=IP (I:=I) R3 R6 R9 hd
 refine .call call104 r f2 r r fun o8 i3 W h5=>?_
 obtain ⟨o9,p0,l8,l9,m0,m1,m2,rfl,a,b,d,hd⟩:=h5
 obtain ⟨R3,R6,R9,R12,R15,R18⟩:=W.u6 R3 R6 R9 R12 R15 R18
 obtain ⟨R21,R24,R27⟩:=W.u3 R21 R24 R27
 refine .so 3 r r r (.ch r (fun _=>.lw BM AO .z r .mk) (.ch r (fun _=>.lw BM AO .p1 r .mk) trivial)) (.ww r fun ex=>?_)
 have f3:=IP (I:=i3) R12 R15 R18 hd
 refine .call call104 r f3 r r fun m3 h6 y f4=>?_
 obtain ⟨m4,m5,m6,m7,m8,m9,n0,rfl,e,f,g,hd⟩:=f4
 obtain ⟨f5,R3,R6,R9,R12,R15⟩:=y.u6 W R3 R6 R9 R12 R15
 obtain ⟨R18,R21,R24,R27,a,b⟩:=y.u6 R18 R21 R24 R27 a b
 have d:=y.u1 d
 refine .so 3 r r r (.ch r (fun _=>.lw BM AO .z r .mk) trivial) (.ww r fun ex=>?_)
 have f6:=IP (I:=h6) R21 R24 R27 hd
 refine .call call104 r f6 r r fun n1 b8 A f7=>?_
 obtain ⟨n2,n3,n4,n5,n6,n7,n8,rfl,X,Y,Z,hd⟩:=f7
 obtain ⟨p,R3,R6,R9,R12,R15⟩:=A.u6 f5 R3 R6 R9 R12 R15
 obtain ⟨R18,R21,R24,R27,a,b⟩:=A.u6 R18 R21 R24 R27 a b
 obtain ⟨d,e,f,g⟩:=A.u4 d e f g
 refine .so 3 r r r trivial (.ww r fun ex=>?_)
 refine .sa AO .p2 r (.sn 3 r r r trivial (.ww r fun ex=>?_))
 refine .sa AO .p1 r (.sn 3 r r r trivial (.e2 8 (.sa AO .z r (.no [7,6,5,0] r (.seq (.sk 1 r ?_))))))
 have f8:=WK (I:=b8) hd
 refine .cq call102 f8 r fun n9 hd=>?_
 refine .kn 1 [27,7,6,5,0] r (.condP r hd (fun f9 hd=>?_) fun f9 hd=>?_)
 · exact .sr (.kn 2 [9,8] r (.drop .z (.drop .z (.drop .z (.ret (BO results37 (.t r (.t r .n)) p ⟨(([]:List AK),8),_,_,r,(.nil _ _ _),hd⟩))))))
 refine .sn [7,6,5,0] r (.seq (.sk 1 r (.lo BI .p2 r (.ks 1 r (.lo BI .p1 r (.ks 2 r ?_))))))
 refine AL hd (fun B hd=>?_) fun B hd=>?_
 · rw [B]
   exact .kn 13 [46,7,6,5,0] r (.condKT r r (.sr (.kn 2 [9,8] r (.drop .z (.drop .z (.drop .z (.ret (BO results37 (.t r (.t r .n)) p ⟨(([]:List AK),4),_,_,r,(.nil _ _ _),hd⟩))))))))
 rw [B]
 refine .ks 1 r (.yes r (.lo BI .z r (.ks 1 r (.yes r (.lo BI .p2 r (.ks 3 r ?_))))))
 refine AL hd (fun C hd=>?_) fun C hd=>?_
 · rw [C]
   exact .kn 6 [46,7,6,5,0] r (.condKT r r (.sr (.kn 2 [9,8] r (.drop .z (.drop .z (.drop .z (.ret (BO results37 (.t r (.t r .n)) p ⟨(([]:List AK),4),_,_,r,(.nil _ _ _),hd⟩))))))))
 rw [C]
 refine .ks 1 r (.yes r (.lo BI .z r (.ks 1 r (.yes r (.lo BI .p1 r (.kn 2 [46,7,6,5,0] r (.condP r hd (fun g0 hd=>?_) fun g0 hd=>?_)))))))
 · exact .sr (.kn 2 [9,8] r (.drop .z (.drop .z (.drop .z (.ret (BO results37 (.t r (.t r .n)) p ⟨(([]:List AK),4),_,_,r,(.nil _ _ _),hd⟩))))))
 refine .sn [7,6,5,0] r (.sk 1 r (.ns [10,7,6,5,0] r (.lw BM AO .z r ?_)))
 have g1:=fU (I:=b8) X Y Z hd
 refine .call call105 r g1 r r fun o0 o1 a4 g2=>?_
 obtain ⟨o2,o3,o4,rfl,i,hd⟩:=g2
 obtain ⟨g3,a,b,d,e,f⟩:=a4.u6 p a b d e f
 obtain ⟨g,X,Y,Z⟩:=a4.u4 g X Y Z
 refine .kn 1 [11,10,6,5,0] r (.drop .z (.seq (.sr (.kn 1 [12,11,10,6,5,0] r (.block (.own0 CD 161 (.lx hd [11,6,5,0] [2,1] r (fun j E l (m,x)=>fun c w=>∃ D F,j ⟨126,[],none⟩ (fun I_=>True) ((10,.slice D m.length F) :: (12,.int .i64 x) :: E) (OwnSl CD 161 D F m :: l) c w) (fun c w ho hs=>⟨_,_,jf rf trivial [0,1,0] r ho hs⟩) ?_)))))))
 rintro ⟨m,x⟩ h7 hd c w ⟨D,F,j5,q,_,hok,hsym⟩
 obtain ⟨J,a,b,d,e,f⟩:=q.u6 g3 a b d e f
 obtain ⟨g,i⟩:=q.u2 g i
 refine Cod.at hok hsym (.seq (.sk 2 r (.ln EE r (.kn 1 [52,12,11,10,6,5,0] r (.condP r hd (fun b9 hd=>?_) fun b9 hd=>?_)))))
 · refine .sn [12,11,10,6,5,0] r (.seq (.block (.sr (.al CP r fun g4=>?_))))
   refine .nk [13,12,11,10,6,5,0] 1 r (.no [14,13,12,11,10,6,5,0] r (.seq (.seq (.ownF .p1 fun h9=>?_))))
   refine .dr [0,1,2,3,4,5,6,7,8] 9 (.fk 1 r (.h r (fun _=>.lo DX .p2 r .mk) (.fk 2 r ?_)))
   obtain ⟨a5,j6,K,hd⟩:=hd
   obtain ⟨j7,o2383,i4,g5,c0,c1⟩:=i.2 _ _ K
   cases c1
   refine .h r (fun _=>.ixa EE EJ r g5 r a5 (AH K a5) r r .mk) (.fk 1 r (.h r (fun _=>.ld1 (j:=0) BI c0 r r r r r .mk) ?_))
   obtain ⟨a6,j8,L,hd⟩:=hd
   obtain ⟨j9,o2392,i5,g6,c3,c4⟩:=a.2 _ _ L
   cases c4
   refine .h r (fun _=>.ixa BW FG r g6 r a6 (AH L a6) r r .mk) (.h r (fun _=>.ld1 (j:=0) BI c3 r r r r r .mk) (.e2 9 (.kn 1 [15,14,13,12,11,10,6,5,0] r (.block (.lp hd [13,12,11,10,6,5,0] [2,2,1] r (fun j E l (s,u,G,v)=>j ((14,.bool G) :: (15,.int .i64 v) :: E) (pto g4 (.cells #[.int .i64 s,.int .u64 u] 157 (0,0)) :: l)) (ji rf [0,1,1,0] r) ?_)))))
   rintro ⟨s,u,G,v⟩ h8 hd
   refine jq r fun H k=>?_
   obtain ⟨i6,N,a,b,d,e⟩:=k.u6 J q a b d e
   obtain ⟨f,g,i⟩:=k.u3 f g i
   refine .seq (.seq (.ownF .p3 fun i0=>?_))
   refine .dr [0,1,2,3,4,5,6,7,8,9,10,11] 12 (.fk 2 r (.h r (fun _=>.lo DX .p1 r .mk) (.fk 2 r ?_)))
   obtain ⟨a7,k0,O,hd⟩:=hd
   obtain ⟨k1,o2684,i7,g7,c6,c7⟩:=i.2 _ _ O
   cases c7
   refine .h r (fun _=>.ixa EE EJ r g7 r a7 (AH O a7) r r .mk) (.fk 1 r (.h r (fun _=>.ld1 (j:=0) BI c6 r r r r r .mk) (.fk 1 r ?_)))
   obtain ⟨a8,k2,P,hd⟩:=hd
   obtain ⟨k3,o2693,i8,g8,c9,d0⟩:=a.2 _ _ P
   cases d0
   refine .h r (fun _=>.ixa BW FG r g8 r a8 (AH P a8) r r .mk) (.h r (fun _=>.ld1 (j:=0) BI c9 r r r r r .mk) (.fk 1 r (.e2 12 (.no [75,15,14,13,12,11,10,6,5,0] r (.condP r hd (fun d1 hd=>?_) fun d1 hd=>?_)))))
   · refine .sn [15,14,13,12,11,10,6,5,0] r (.seq (.block (.seq (.ownF .p3 fun i1=>?_))))
     refine .dr [0,1,2,3,4,5,6,7,8,9,10,11,12,13,14,15] 16 (.h r (fun _=>.lw BM AO .p2 r .mk) (.fk 1 r (.h r (fun _=>.lo DX .p1 r .mk) (.fk 1 r ?_))))
     obtain ⟨a9,k4,R,hd⟩:=hd
     obtain ⟨k5,o2727,i9,g9,d2,d3⟩:=b.2 _ _ R
     cases d3
     refine .h r (fun _=>.ixa BW FG r g9 r a9 (AH R a9) r r .mk) (.h r (fun _=>.ld1 (j:=0) BI d2 r r r r r .mk) (.fk 2 r ?_))
     obtain ⟨b0,k6,S,hd⟩:=hd
     obtain ⟨k7,o2736,j0,h0,d4,d5⟩:=i.2 _ _ S
     cases d5
     refine .h r (fun _=>.ixa EE EJ r h0 r b0 (AH S b0) r r .mk) (.fk 1 r (.h r (fun _=>.ld1 (j:=1) BI d4 r r r r r .mk) (.ww r fun ex=>?_)))
     have d6:=Y7 (I:=H) e f g hd
     refine .cq call20 d6 r fun k8 hd=>?_
     refine .so 4 r r r trivial (.fk 4 r (.e2 16 (.kn 1 [17,16,15,14,13,12,11,10,6,5,0] r (.seq (.sr (.kn 2 [94,16,15,14,13,12,11,10,6,5,0] r (.condP r hd (fun d7 hd=>?_) fun d7 hd=>?_)))))))
     · exact .en [15,14,13,12,11,10,6,5,0] r (.region (.ks 3 r (.nil' (je (s,u,G,AJ (v+1)) hd k [0,0,0,0] r))))
     refine .sn [16,15,14,13,12,11,10,6,5,0] r (.sk 2 r (.lo bO .p1 r (.ks 1 r ?_)))
     obtain ⟨b1,k9,T,hd⟩:=hd
     obtain ⟨l0,o2766,j1,h1,d8,d9⟩:=d.2 _ _ T
     cases d9
     refine .ixa OR sF r h1 r b1 (AH T b1) r r (.ld1 (j:=0) WO d8 r r r r r (.ks 1 r ?_))
     have e0:=rY (I:=H) hd
     refine .cq call106 e0 r fun b2 hd=>?_
     refine .al CP r fun l1=>?_
     refine .sa AM .z r (.no [18,15,14,13,12,11,10,6,5,0] r (.seq (.sr (.kn 1 [103,18,15,13,12,11,10,6,5,0] r (.condP r hd (fun e1 hd=>?_) fun e1 hd=>?_)))))
     · refine .region (.ks 1 r (.lw BG AM .p1 r (.lw BG AM .z r ?_)))
       have e3:=fF (I:=H) hd
       refine .cq call107 e3 r fun b3 hd=>?_
       exact .sa AM .p1 r (.no [15,13,12,11,10,6,5,0] r (.drop .z (.region (.kn 1 [14,15,13,12,11,10,6,5,0] r (.region (.ks 3 r (.nil' (je (b3.Hi,b3.Lo,true,AJ (v+1)) hd k [0,0,0,0] r))))))))
     exact .region (.lw BG AM .z r (.sa AM .p1 r (.no [15,13,12,11,10,6,5,0] r (.drop .z (.region (.kn 1 [14,15,13,12,11,10,6,5,0] r (.region (.ks 3 r (.nil' (je (b2.Hi,b2.Lo,true,AJ (v+1)) hd k [0,0,0,0] r))))))))))
   refine .en [14,13,12,11,10,6,5,0] r (.sr (.kn 1 [109,13,12,11,10,6,5,0] r (.condP r hd (fun e4 hd=>?_) fun e4 hd=>?_)))
   · refine .ownF .p3 fun i2=>?_
     refine .dr [0,1,2,3,4,5,6,7,8,9,10,11,12,13,14] 15 (.fk 3 r ?_)
     obtain ⟨b4,b5,U,hd⟩:=hd
     obtain ⟨l2,o2788,j2,h2,e5,e6⟩:=i.2 _ _ U
     cases e6
     refine .h r (fun _=>.ixa EE EJ r h2 r b4 (AH U b4) r r .mk) (.fk 1 r (.h r (fun _=>.ld1 (j:=0) BI e5 r r r r r .mk) (.fk 2 r ?_)))
     obtain ⟨b6,b7,V,hd⟩:=hd
     obtain ⟨l3,o2797,j3,h3,e7,e8⟩:=i.2 _ _ V
     cases e8
     refine .h r (fun _=>.ixa EE EJ r h3 r b6 (AH V b6) r r .mk) (.fk 1 r (.h r (fun _=>.ld1 (j:=1) BI e7 r r r r r .mk) (.h r (fun _=>.lw BG AM .z r .mk) (.h r (fun _=>.build ZL underlying161 yY (.c r r r (.o r) (.c r r r (.o r) (.c r r r (.o r) .n))) (by exact ⟨⟨_,_,r,r,r⟩,⟨⟨_,_,r,r,r⟩,⟨⟨_,_,r,r,r⟩,trivial⟩⟩⟩) r r .mk) (.ww r fun ex=>?_)))))
     refine .buildSlice 1 DD BS ZL r r (.c r r r .n) r r fun l4=>?_
     refine .so 5 r r r (.ck 1 r r trivial) (.ww r fun ex=>?_)
     obtain ⟨e9,hd⟩:=hd
     refine .append (ys:=[({ Row:=b5.Row,Col:=b7.Col,Val:=({ Hi:=s,Lo:=u }:AN) }:AK)]) 32 .p4 DD DD kS r r r r r r r r r (.box .z (.one r) r) e9 r r fun l5 l6=>?_
     exact .so 5 r r r trivial (.e2 15 (.kn 1 [10,12,11,6,5,0] r (.drop .p1 (.drop .p1 (.region (.ks 3 r (.nil' fun c w ho hs=>⟨((m++([({ Row:=b5.Row,Col:=b7.Col,Val:=({ Hi:=s,Lo:=u }:AN) }:AK)])),AJ (x+1)),hd,_,_,jf N trivial [0,0,0] r ho hs⟩)))))))
   exact .sn [12,11,10,6,5,0] r (.drop .z (.region (.ks 3 r (.nil' fun c w ho hs=>⟨(m,AJ (x+1)),hd,_,_,jf N trivial [2,0,0] r ho hs⟩))))
 refine .en [10] r (.drop .p1 (.drop .p1 (.sr (.kn 3 [9,8] r (.pub .z fun l7 f0 h4=>?_)))))
 obtain ⟨f1,j4⟩:=f0.u2 J q
 exact .ret (BO results37 (.t r (.t r .n)) f1 ⟨(m,0),_,_,r,h4,hd⟩)
theorem kK {a0:Int} {a1 a2 a3:Rows} {Q:(Rows×Int)→Prop} (R3:RepSl AE I p1 c2 a1.Start) (R6:RepSl AE I p4 c5 a1.Col) (R9:RepSl AE I p7 c8 a1.Val) (R12:RepSl AE I p10 c11 a2.Start) (R15:RepSl AE I p13 c14 a2.Col) (R18:RepSl AE I p16 c17 a2.Val) (R21:RepSl AE I p19 c20 a3.Start) (R24:RepSl AE I p22 c23 a3.Col) (R27:RepSl AE I p25 c26 a3.Val) (hd:PP a0 a1 a2 a3 Q) :
  BV prog 41 [.int .i64 a0,.agg #[.int .i64 a1.Rows,.int .i64 a1.Cols,.slice p1 a1.Start.length c2,.slice p4 a1.Col.length c5,.slice p7 a1.Val.length c8],.agg #[.int .i64 a2.Rows,.int .i64 a2.Cols,.slice p10 a2.Start.length c11,.slice p13 a2.Col.length c14,.slice p16 a2.Val.length c17],.agg #[.int .i64 a3.Rows,.int .i64 a3.Cols,.slice p19 a3.Start.length c20,.slice p22 a3.Col.length c23,.slice p25 a3.Val.length c26]] I (fun I_ v=>∃ r p28 c29 p31 c32 p34 c35,v=.tuple #[.agg #[.int .i64 r.1.Rows,.int .i64 r.1.Cols,.slice p28 r.1.Start.length c29,.slice p31 r.1.Col.length c32,.slice p34 r.1.Val.length c35],.int .i64 r.2]∧RepSl AE I_ p28 c29 r.1.Start∧RepSl AE I_ p31 c32 r.1.Col∧RepSl AE I_ p34 c35 r.1.Val∧Q r):=by
 refine Fun.en func41 ntmps41 r fun w0 M=>?_
 refine .sr (.bx r fun a5=>?_)
 refine .bx r fun a6=>?_
 refine .bx r fun a7=>?_
 refine .al CK r fun a8=>?_
 refine .ks 1 r (.nk [8,7,6,5,0] 1 r (.lw BM AO .p3 r (.lw BM AO .p2 r (.lw BM AO .p1 r ?_))))
 have x:=kJ (I:=I) R3 R6 R9 R12 R15 R18 R21 R24 R27 hd
 refine .call call37 r x r r fun a9 J b y=>?_
 obtain ⟨K,b0,b1,rfl,a,hd⟩:=y
 obtain ⟨R3,R6,R9,R12,R15,R18⟩:=b.u6 R3 R6 R9 R12 R15 R18
 obtain ⟨R21,R24,R27⟩:=b.u3 R21 R24 R27
 refine .kn 5 [11,10,8,6,5,0] r (.drop .p1 (.seq (.sr (.kn 2 [21,11,10,8,6,5,0] r (.condP r hd (fun A hd=>?_) fun A hd=>?_)))))
 · exact .sr (.build CK FF FT .n (by exact trivial) r r (.ks 1 r (.sa AO .z r (.kn 1 [9,8] r (.drop .p1 (.drop .p1 (.ret (BO results41 (.w BM AO r .z r (.t r .n)) b ⟨(({ Rows:=0,Cols:=0,Start:=([]:List Int),Col:=([]:List Int),Val:=([]:List Int) }:Rows),K.2),_,_,_,_,_,_,r,(.nil _ _ _),(.nil _ _ _),(.nil _ _ _),hd⟩))))))))
 refine .sn [10,8,6,5,0] r (.seq (.dr [0,1,4,7,2,3,5,6,8,9,10] 11 (.fk 1 r (.h r (fun _=>.lw BM AO .p2 r .mk) (.h r (fun _=>.lw BM AO .p1 r .mk) (.fk 1 r (.ww r fun ex=>?_)))))))
 have B:=IP (I:=J) R3 R6 R9 hd
 refine .call call104 r B r r fun b2 L g C=>?_
 obtain ⟨b3,b4,b5,b6,b7,b8,b9,rfl,d,e,f,hd⟩:=C
 obtain ⟨D,R3,R6,R9,R12,R15⟩:=g.u6 b R3 R6 R9 R12 R15
 obtain ⟨R18,a⟩:=g.u2 R18 a
 refine .so 3 r r r (.ck 1 r r (.ch r (fun _=>.lw BM AO .p1 r .mk) (.ck 1 r r trivial))) (.h r (fun _=>.field1 FF r BI r r r r .mk) (.ww r fun ex=>?_))
 have o:=IP (I:=L) R12 R15 R18 hd
 refine .call call104 r o r r fun c0 N i E=>?_
 obtain ⟨c1,c3,c4,O,P,R,S,rfl,j,k,l,hd⟩:=E
 obtain ⟨p,R3,R6,R9,R12,R15⟩:=i.u6 D R3 R6 R9 R12 R15
 obtain ⟨R18,a,d,e,f⟩:=i.u5 R18 a d e f
 refine .so 3 r r r (.ch r (fun _=>.field1 FF r BI r r r r .mk) (.ck 2 r r trivial)) (.h r (fun _=>.field1 FF r BI r r r r .mk) (.ww r fun ex=>?_))
 have q:=oR (I:=N) a hd
 refine .call call115 r q r r fun T U c s=>?_
 obtain ⟨m,V,W,X,Y,Z,a4,rfl,F,G,H,hd⟩:=s
 obtain ⟨u,R3,R6,R9,R12,R15⟩:=c.u6 p R3 R6 R9 R12 R15
 obtain ⟨R18,a,d,e,f,j⟩:=c.u6 R18 a d e f j
 obtain ⟨k,l⟩:=c.u2 k l
 exact .so 3 r r r trivial (.fk 2 r (.e2 11 (.sa AO .z r (.kn 1 [9,8] r (.drop .p1 (.drop .p1 (.ret (BO results41 (.w BM AO r .z r (.t r .n)) u ⟨(m.1,m.2),_,_,_,_,_,_,r,F,G,H,hd⟩))))))))
theorem dB {a0:JX} {a1 a2:Int} {Q:Bool→Prop} (R3:RepSl AW I p1 c2 a0.T.A) (R6:RepSl AW I p4 c5 a0.T.B) (R9:RepSl AW I p7 c8 a0.T.M) (hd:QA a0 a1 a2 Q) :
  BV prog 7 [.agg #[.int .i64 a0.T.Ring,.int .u8 a0.T.Size.1,.int .u8 a0.T.Size.2.1,.int .u8 a0.T.Size.2.2,.slice p1 a0.T.A.length c2,.slice p4 a0.T.B.length c5,.slice p7 a0.T.M.length c8,.int .u8 a0.R,.int .u8 a0.C,.int .u8 a0.Room],.int .u8 a1,.int .u8 a2] I (fun _=>bK Q):=by
 refine Fun.en func7 ntmps7 r fun w0 M=>?_
 refine .sr (.bx r fun f6=>?_)
 refine .ks 1 r (.ns [3,2,1] r (.lw isAgg58 sizeOf58 .z r ?_))
 have b2:=cZ (I:=I) R3 R6 R9 hd
 refine .call call21 r b2 r r fun f7 b1 O b3=>?_
 obtain ⟨n,f8,f9,g0,g1,g2,g3,g4,g5,g6,g7,g8,g9,h0,h1,h2,h3,h4,h5,rfl,d,e,f,g,i,j,k,l,m,hd⟩:=b3
 obtain ⟨R3,R6,R9⟩:=O.u3 R3 R6 R9
 refine .al mR r fun h6=>?_
 refine .sa MZ .z r (.no [7,2,1] r (.drop .p1 (.sr (.lw QB MZ .z r (.al mR r fun h7=>?_)))))
 refine .sa MZ .z r (.nk [8,7,2,1] 1 r (.conv un5 YX r r r (.rem r r (by decide) r r (.ks 2 r (.s1 FG .z r (.nk [8,7,2] 1 r (.conv un5 YX r r r (.rem r r (by decide) r r (.ks 2 r ?_)))))))))
 refine .s1 FG .z r (.no [8,7] r (.seq (.dr [0,1,8,2,3,4,5,6,7,999,9,10] 11 (.h r (fun _=>.lw QB MZ .p1 r .mk) (.h r (fun _=>.lw QB MZ .p1 r .mk) (.a (fun b=>.pointer (some ⟨b,0,none⟩)) (fun b=>pto b (.cells #[.int .i64 0,.int .i64 0,.slice none 0 0,.slice none 0 0,.slice none 0 0] 33 (0,0))) r r r r (fun _ L hL ex=>.al CK r fun b=>.mk (val:=fun b=>.pointer (some ⟨b,0,none⟩)) (atom:=fun b=>pto b (.cells #[.int .i64 0,.int .i64 0,.slice none 0 0,.slice none 0 0,.slice none 0 0] 33 (0,0))) hL b) (.ww r fun ex=>?_)))))))
 have S:=JA (I:=b1) d e f g i j k l m hd
 refine .cq call35 S r fun b9 hd=>?_
 refine .so 2 r r r (.ch r (fun _=>.lw QB MZ .p1 r .mk) trivial) (.ww r fun ex=>?_)
 have U:=TX (I:=b1) d e f g i j k l m (.nil _ none 0) hd
 refine .call call17 r U r r fun c0 P K V=>?_
 obtain ⟨c1,c3,c4,c6,c7,c9,d0,rfl,p,q,s,hd⟩:=V
 obtain ⟨W,d,e,f,g,i⟩:=K.u6 O d e f g i
 obtain ⟨j,k,l,m⟩:=K.u4 j k l m
 refine .so 2 r r r trivial (.fk 4 r (.b r fun d1=>DrawD.nop (.ww r fun ex=>?_)))
 refine .sa AO .p2 r (.sn 3 r r r (.ck 2 r r trivial) (.fk 1 r (.e2 11 (.kn 1 [11,10,9,8,7] r (.seq (.dr [0,1,8,2,3,4,5,6,7,999,9,10] 11 (.h r (fun _=>.lw QB MZ .z r .mk) (.h r (fun _=>.lw QB MZ .z r .mk) (.a (fun b=>.pointer (some ⟨b,0,none⟩)) (fun b=>pto b (.cells #[.int .i64 0,.int .i64 0,.slice none 0 0,.slice none 0 0,.slice none 0 0] 33 (0,0))) r r r r (fun _ L hL ex=>.al CK r fun b=>.mk (val:=fun b=>.pointer (some ⟨b,0,none⟩)) (atom:=fun b=>pto b (.cells #[.int .i64 0,.int .i64 0,.slice none 0 0,.slice none 0 0,.slice none 0 0] 33 (0,0))) hL b) ?_)))))))))
 refine .ww r fun ex=>?_
 have X:=JA (I:=P) (a0:=({ Ring:=n.Ring,A:=n.A,B:=n.B,Mask:=n.Mask,R:=AJ (((AJ (a1)).tmod 4)+1),C:=AJ (((AJ (a2)).tmod 4)+1),Room:=n.Room }:BL)) d e f g i j k l m hd
 refine .cq call35 X r fun d2 hd=>?_
 refine .so 3 r r r (.ch r (fun _=>.lw QB MZ .z r .mk) trivial) (.ww r fun ex=>?_)
 have Y:=TX (I:=P) (a0:=({ Ring:=n.Ring,A:=n.A,B:=n.B,Mask:=n.Mask,R:=AJ (((AJ (a1)).tmod 4)+1),C:=AJ (((AJ (a2)).tmod 4)+1),Room:=n.Room }:BL)) d e f g i j k l m (.nil _ none 0) hd
 refine .call call17 r Y r r fun d3 b4 t Z=>?_
 obtain ⟨d4,d5,d6,d7,d8,d9,e0,rfl,F,G,H,hd⟩:=Z
 obtain ⟨a3,d,e,f,g,i⟩:=t.u6 W d e f g i
 obtain ⟨j,k,l,m,p,q⟩:=t.u6 j k l m p q
 have s:=t.u1 s
 refine .so 3 r r r trivial (.fk 4 r (.b r fun e1=>DrawD.nop (.ww r fun ex=>?_)))
 refine .sa AO .p3 r (.sn 4 r r r (.ck 2 r r trivial) (.fk 1 r (.e2 11 (.kn 1 [14,13,12,11,10,9,7] r (.drop .z (.sk 1 r (.lo bP .z r (.ks 1 r (.loadA BM AO r .z (.o 5 r) r r r ?_)))))))))
 refine .ks 1 r (.loadA BM AO r .z (.o 5 r) r r r (.ks 1 r (.loadA BM AO r .z (.o 5 r) r r r ?_)))
 have a4:=kK (I:=b4) d e f g i j k l m hd
 refine .call call41 r a4 r r fun e3 J u a5=>?_
 obtain ⟨e4,e5,e6,e7,e8,e9,f0,rfl,b5,b6,b7,hd⟩:=a5
 obtain ⟨c,d,e,f,g,i⟩:=u.u6 a3 d e f g i
 obtain ⟨j,k,l,m,p,q⟩:=u.u6 j k l m p q
 obtain ⟨s,F,G,H⟩:=u.u4 s F G H
 refine .ks 3 r (.al CK r fun f1=>?_)
 refine .sa AO .z r (.kn 1 [16,15,14,13,12,11,10,9] r (.drop .p1 (.sr ?_)))
 have a6:=oO (I:=J) hd
 refine .cq call27 a6 r fun f2 hd=>?_
 refine .ks 1 r ?_
 refine AL hd (fun v hd=>?_) fun v hd=>?_
 · rw [v]
   refine .ks 3 r ?_
   refine AL hd (fun w hd=>?_) fun w hd=>?_
   · rw [w]
     refine .ks 3 r ?_
     refine AL hd (fun x hd=>?_) fun x hd=>?_
     · rw [x]
       refine .ks 5 r ?_
       refine AL hd (fun y hd=>?_) fun y hd=>?_
       · rw [y]
         refine .ks 5 r ?_
         refine AL hd (fun D hd=>?_) fun D hd=>?_
         · rw [D]
           refine .yes r (.lw BM AO .p1 r (.yes r (.lw BM AO .p2 r ?_)))
           have a7:=dA (I:=J) p q s F G H hd
           refine .yes r (.callP call32 r a7 r r fun f3 a8=>?_)
           obtain ⟨f4,rfl,hd⟩:=a8
           refine .ks 2 r ?_
           refine AL hd (fun E hd=>?_) fun E hd=>?_
           · rw [E]
             refine .yes r (.lw BM AO .p1 r (.yes r (.lw BM AO .z r ?_)))
             have a9:=dA (I:=J) p q s b5 b6 b7 hd
             refine .yes r (.callP call32 r a9 r r fun f5 b0=>?_)
             obtain ⟨b8,rfl,hd⟩:=b0
             exact .kn 2 [6] r (.drop .z (.drop .z (.drop .z (.r1 results7 r c ⟨b8,r,hd⟩))))
           rw [E]
           exact .kn 5 [6] r (.drop .z (.drop .z (.drop .z (.r1 results7 r c ⟨false,r,hd⟩))))
         rw [D]
         exact .kn 10 [6] r (.drop .z (.drop .z (.drop .z (.r1 results7 r c ⟨false,r,hd⟩))))
       rw [y]
       exact .kn 15 [6] r (.drop .z (.drop .z (.drop .z (.r1 results7 r c ⟨false,r,hd⟩))))
     rw [x]
     exact .kn 20 [6] r (.drop .z (.drop .z (.drop .z (.r1 results7 r c ⟨false,r,hd⟩))))
   rw [w]
   exact .kn 23 [6] r (.drop .z (.drop .z (.drop .z (.r1 results7 r c ⟨false,r,hd⟩))))
 rw [v]
 exact .kn 26 [6] r (.drop .z (.drop .z (.drop .z (.r1 results7 r c ⟨false,r,hd⟩))))
end Go.Proofs.YtbohadngdkjljaaGreat
