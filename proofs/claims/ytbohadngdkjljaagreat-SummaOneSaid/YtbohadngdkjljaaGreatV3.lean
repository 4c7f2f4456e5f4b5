/- The walks (printed by a program of ours). -/
import Derived.Test.YtbohadngdkjljaaGreatV2
namespace Go.Proofs.YtbohadngdkjljaaGreat
open Go Go.Fw
set_option linter.unusedVariables false
set_option linter.unusedSimpArgs false
set_option maxRecDepth 8000
set_option maxHeartbeats 1000000
open Tryz
variable {I:IH}
variable {b2 b3 b4 b5 b6 b7 b8 b9 c2 c3 c4 c5 c6 c7 c8 c9 lr b10 b11 b12 b13 b18 b19 b20 b21 b35 b36 b37 b38 b39 b40 b41 b42 b43 b54 b59 c10 c11 c12 c13 c14 c15 c16 c17 c18 c19 c20 c21 c22 c23 c24 c25 c26 c27 c28 c29 c30 c31 c32 c33 c34 c35 c36 c37 c38 c39 c41 c42 c43 c44 c45 c46 c47 c48 c49 c50 c51 c52 c54 c55 c57 c60 c63 c66 c69 c72 c75 c78:Nat}
variable {p1 p2 p3 p4 p5 p6 p7 p8 p9 p10 p11 p12 p13 p14 p15 p16 p17 p18 p19 p20 p21 p22 p23 p24 p25 p26 p27 p28 p29 p30 p31 p32 p33 p34 p35 p36 p37 p38 p40 p41 p42 p43 p44 p45 p46 p47 p48 p49 p50 p51 p53 p54 p56 p59 p62 p65 p68 p71 p74 p77:Option Addr}
variable {Rr:Nat→HA}
theorem fI {a0:BD} {a1:List FU} {a2:Int} {Q:(Rows×Bool×Int)→Prop} (R3:RepSl AE I p1 c2 a0.A.Start) (R6:RepSl AE I p4 c5 a0.A.Col) (R9:RepSl AE I p7 c8 a0.A.Val) (R12:RepSl AE I p10 c11 a0.B.Start) (R15:RepSl AE I p13 c14 a0.B.Col) (R18:RepSl AE I p16 c17 a0.B.Val) (R21:RepSl AE I p19 c20 a0.Mask.Start) (R24:RepSl AE I p22 c23 a0.Mask.Col) (R27:RepSl AE I p25 c26 a0.Mask.Val) (R30:RepSl XL I p28 c29 a1) (hd:OQ a0 a1 a2 Q) :
  BZ prog 17 [.agg #[.int .i64 a0.Ring,.int .i64 a0.A.Rows,.int .i64 a0.A.Cols,.slice p1 a0.A.Start.length c2,.slice p4 a0.A.Col.length c5,.slice p7 a0.A.Val.length c8,.int .i64 a0.B.Rows,.int .i64 a0.B.Cols,.slice p10 a0.B.Start.length c11,.slice p13 a0.B.Col.length c14,.slice p16 a0.B.Val.length c17,.int .i64 a0.Mask.Rows,.int .i64 a0.Mask.Cols,.slice p19 a0.Mask.Start.length c20,.slice p22 a0.Mask.Col.length c23,.slice p25 a0.Mask.Val.length c26,.int .i64 a0.R,.int .i64 a0.C,.int .i64 a0.Room],.slice p28 a1.length c29,.int .i64 a2] I (AfB Q):=by
 refine Fun.en func17 ntmps17 r fun w0 M=>?_
 refine .bank0 AG (.bank0 AP (.sr (.bx r fun V4=>?_)))
 refine .al DH r fun V5=>?_
 refine .ks 2 r (.ns [6,3,2,1] r (.lw WB SN .p1 r ?_))
 have y8:=JB (I:=I) (o0:=([]:List (Nat×AA))) (o1:=([]:List (Nat×AF))) (a0:=a0) R3 R6 R9 R12 R15 R18 R21 R24 R27 hd
 refine .callS (.f call22 r) (.o [3,2] r) y8 r r fun P4 v8 P5 d c4=>?_
 rcases c4 with c4 | c4
 · obtain ⟨i7,rfl,rfl,hd⟩:=c4
   obtain ⟨R3,R6,R9,R12,R15,R18⟩:=d.u6 R3 R6 R9 R12 R15 R18
   obtain ⟨R21,R24,R27,R30⟩:=d.u4 R21 R24 R27 R30
   refine .rn 4 r (.kn 5 [10,9,6,2,1] r (.drop .p3 (.seq (.sr (.kn 2 [21,10,9,6,2,1] r (.condP r hd (fun y9 hd=>?_) fun y9 hd=>?_))))))
   · exact .sr (.build DH JK JJ .n (by exact trivial) r r (.ks 1 r (.sa AU .p2 r (.kn 2 [8,7,6] r (.ret (BO results17 (.w BQ AU r .p2 r (.t r (.t r .n))) d ⟨(({ Rows:=0,Cols:=0,Start:=([]:List Int),Col:=([]:List Int),Val:=([]:List Int) }:Rows),false,i7.1),_,_,_,_,_,_,r,(.nil _ _ _),(.nil _ _ _),(.nil _ _ _),hd⟩))))))
   refine .sn [9,6,2,1] r (.seq (.block (.sk 1 r (.ln ZZ r (.kn 2 [24,9,6,2,1] r (.condP r hd (fun z0 hd=>?_) fun z0 hd=>?_))))))
   · exact .sr (.build DH JK JJ .n (by exact trivial) r r (.sa AU .p2 r (.kn 2 [8,7,6] r (.ret (BO results17 (.w BQ AU r .p2 r (.t r (.t r .n))) d ⟨(({ Rows:=0,Cols:=0,Start:=([]:List Int),Col:=([]:List Int),Val:=([]:List Int) }:Rows),false,5),_,_,_,_,_,_,r,(.nil _ _ _),(.nil _ _ _),(.nil _ _ _),hd⟩)))))
   refine .sk 1 r ?_
   have z1:=EK (I:=v8) (a0:=a1) R30 hd
   refine .callS (.f call61 r) .n z1 r r fun P6 P7 P8 z2 z3=>?_
   obtain ⟨P9,rfl,rfl,hd⟩:=z3
   obtain ⟨i8,R30⟩:=z2.u2 d R30
   refine .rn 3 r (.kn 1 [29,9,6,2,1] r (.condP r hd (fun z4 hd=>?_) fun z4 hd=>?_))
   · exact .sr (.build DH JK JJ .n (by exact trivial) r r (.sa AU .p2 r (.kn 2 [8,7,6] r (.ret (BO results17 (.w BQ AU r .p2 r (.t r (.t r .n))) i8 ⟨(({ Rows:=0,Cols:=0,Start:=([]:List Int),Col:=([]:List Int),Val:=([]:List Int) }:Rows),false,8),_,_,_,_,_,_,r,(.nil _ _ _),(.nil _ _ _),(.nil _ _ _),hd⟩)))))
   refine .sk 3 r ?_
   refine AL hd (fun q5 hd=>?_) fun q5 hd=>?_
   · rw [q5]
     exact .kn 4 [33,9,6,2,1] r (.condKT r r (.sr (.build DH JK JJ .n (by exact trivial) r r (.sa AU .p2 r (.kn 2 [8,7,6] r (.ret (BO results17 (.w BQ AU r .p2 r (.t r (.t r .n))) i8 ⟨(({ Rows:=0,Cols:=0,Start:=([]:List Int),Col:=([]:List Int),Val:=([]:List Int) }:Rows),false,3),_,_,_,_,_,_,r,(.nil _ _ _),(.nil _ _ _),(.nil _ _ _),hd⟩)))))))
   rw [q5]
   refine .kn 4 [33,9,6,2,1] r (.condP r hd (fun z5 hd=>?_) fun z5 hd=>?_)
   · exact .sr (.build DH JK JJ .n (by exact trivial) r r (.sa AU .p2 r (.kn 2 [8,7,6] r (.ret (BO results17 (.w BQ AU r .p2 r (.t r (.t r .n))) i8 ⟨(({ Rows:=0,Cols:=0,Start:=([]:List Int),Col:=([]:List Int),Val:=([]:List Int) }:Rows),false,3),_,_,_,_,_,_,r,(.nil _ _ _),(.nil _ _ _),(.nil _ _ _),hd⟩)))))
   refine .sn [9,6,2,1] r (.seq (.sk 1 r (.ln ZZ r (.kn 1 [43,42,41,9,6,2] r (.block (.lp hd [42,41,9,6,2] [2,0,0] r (fun j E l t2=>j ((43,.int .i64 t2) :: E) l) (ji rf [2,0,0] r) ?_))))))
   refine fun t2 H1 hd=>jq r fun G0 i9=>?_
   obtain ⟨q6,R30⟩:=i9.u2 i8 R30
   refine .sr (.kn 1 [44,43,42,41,9,6,2] r (.seq (.condP r hd (fun z6 hd=>?_) fun z6 hd=>?_)))
   · refine .sn [43,42,41,9,6,2] r (.seq (.block (.sr ?_)))
     obtain ⟨v9,G1,v3,hd⟩:=hd
     obtain ⟨Q0,o361,H9,G2,z7,z8⟩:=R30.2 _ _ v3
     cases z8
     refine .ixa ZZ WA r G2 r v9 (AH v3 v9) r r (.ldW jW WA z7 r r r r (.al sS r fun Q1=>?_))
     refine .sa WA .z r (.no [12,43,42,41,9,6,2] r (.region (.ks 1 r (.lw jW WA .z r ?_))))
     have z9:=NT (I:=G0) (o0:=i7.2) (o1:=([]:List (Nat×AF))) (a0:=G1) hd
     refine .callS (.f call25 r) (.o [2,2] r) z9 r r fun Q2 Q3 Q4 A0 A1=>?_
     obtain ⟨Q5,rfl,rfl,hd⟩:=A1
     obtain ⟨I0,A2,R30⟩:=A0.u3 q6 i9 R30
     exact .rn 4 r (.no [43,42,41,9,6,2] r (.drop .p2 (.region (.ks 2 r (.nil' (je (AJ (t2+1)) hd A2 [2,0,0] r))))))
   refine .en [9,6,2] r (.seq (.jn hd [9,6] [0,0,0] r (fun j E l _=>j E l) (fun Q6 hd=>?_) ?_))
   · skip
     refine .sr (.kn 1 [13,9,6,2] r (.block (.lp hd [13,9,6,2] [0,0,0] r (fun j E l _=>j E l) (ji rf [0,0,0] r) ?_)))
     refine fun _ H2 hd=>jq r fun G3 q7=>?_
     obtain ⟨A3,A4⟩:=q7.u2 q6 i9
     refine .seq (.sk 4 r ?_)
     refine AL hd (fun q8 hd=>?_) fun q8 hd=>?_
     · rw [q8]
       refine .ks 1 r ?_
       have A5:=GP (I:=G3) (o0:=i7.2) hd
       refine .yes r (.callS (.f call38 r) (.o [1] r) A5 r r fun Q7 G4 Q8 A6 A7=>?_)
       obtain ⟨Q9,rfl,rfl,hd⟩:=A7
       obtain ⟨I1,I2,A8⟩:=A6.u3 A3 A4 q7
       refine .rn 3 r (.kn 2 [58,13,9,6,2] r (.condP r hd (fun A9 hd=>?_) fun A9 hd=>?_))
       · refine .sn [13,9,6,2] r (.seq (.block (.region (.ks 1 r ?_))))
         have B0:=SV (I:=G4) (o0:=i7.2) (o1:=([]:List (Nat×AF))) hd
         refine .callS (.f call63 r) (.o [0,1] r) B0 r r fun R0 R1 R2 I3 B1=>?_
         exact B1.elim
       exact .exit (je () hd A8 [1,0,0] r)
     rw [q8]
     exact .kn 4 [58,13,9,6,2] r (.condKF r r (.exit (je () hd q7 [0,0,0] r)))
   refine fun _ hd=>jq r fun G5 v4=>?_
   obtain ⟨B2,B3⟩:=v4.u2 q6 i9
   refine .sk 1 r ?_
   have B4:=GI (I:=G5) (o0:=i7.2) hd
   refine .callS (.f call64 r) (.o [1] r) B4 r r fun R4 G6 R5 B5 B6=>?_
   obtain ⟨w1,R7,R8,S0,S1,S2,S3,rfl,t3,t4,t5,rfl,hd⟩:=B6
   obtain ⟨B7,B8,B9⟩:=B5.u3 B2 B3 v4
   refine .rn 3 r (.ks 3 r (.al DH r fun S4=>?_))
   refine .sa AU .z r (.kn 1 [10,14,9,6] r (.seq (.dr [0,1,3,2,4,5] 6 (.h r (fun _=>.lw BQ AU .z r .mk) (.fk 2 r (.ww r fun ex=>?_))))))
   have C0:=GP (I:=G6) (o0:=i7.2) hd
   refine .callS (.f call38 r) (.o [1] r) C0 r r fun S5 S6 S7 C1 C2=>?_
   obtain ⟨G7,rfl,rfl,hd⟩:=C2
   obtain ⟨C3,I4,I5,t3,t4,t5⟩:=C1.u6 B7 B8 B9 t3 t4 t5
   refine .rx 4 r (.so 4 r r r (.ck 1 r r (.ch r (fun _=>.lw BQ AU .p1 r .mk) trivial)) (.ww r fun ex=>?_))
   exact .sa AU .p2 r (.sn 4 r r r (.ck 1 r r trivial) (.fk 1 r (.e2 6 (.kn 1 [8,7,6] r (.drop .p1 (.ret (BO results17 (.w BQ AU r .p1 r (.t r (.t r .n))) C3 ⟨(w1.1,G7,w1.2),_,_,_,_,_,_,r,t3,t4,t5,hd⟩)))))))
 obtain ⟨G8,U,S8,S9,T0,T1,T2,T3,T4,T5,T6,T7,T8,T9,U0,U1,U2,U3,U4,U5,U6,U7,U8,U9,e,rfl,t6,t7,t8,t9,u0,u7,u8,u9,v0,v1,v2,rfl,hd⟩:=c4
 obtain ⟨R3,R6,R9,R12,R15,R18⟩:=d.u6 R3 R6 R9 R12 R15 R18
 obtain ⟨R21,R24,R27,R30⟩:=d.u4 R21 R24 R27 R30
 refine .rn 6 r (.kn 5 [10,9,6,2,1] r (.drop .p5 (.seq (.sr (.kn 2 [21,10,9,6,2,1] r (.condP r hd (fun C4 hd=>?_) fun C4 hd=>?_))))))
 · exact .sr (.build DH JK JJ .n (by exact trivial) r r (.ks 1 r (.sa AU .p4 r (.kn 2 [8,7,6] r (.drop .p2 (.drop .p2 (.ret (BO results17 (.w BQ AU r .p2 r (.t r (.t r .n))) d ⟨(({ Rows:=0,Cols:=0,Start:=([]:List Int),Col:=([]:List Int),Val:=([]:List Int) }:Rows),false,G8.1),_,_,_,_,_,_,r,(.nil _ _ _),(.nil _ _ _),(.nil _ _ _),hd⟩))))))))
 refine .sn [9,6,2,1] r (.seq (.block (.sk 1 r (.ln ZZ r (.kn 2 [24,9,6,2,1] r (.condP r hd (fun C5 hd=>?_) fun C5 hd=>?_))))))
 · exact .sr (.build DH JK JJ .n (by exact trivial) r r (.sa AU .p4 r (.kn 2 [8,7,6] r (.drop .p2 (.drop .p2 (.ret (BO results17 (.w BQ AU r .p2 r (.t r (.t r .n))) d ⟨(({ Rows:=0,Cols:=0,Start:=([]:List Int),Col:=([]:List Int),Val:=([]:List Int) }:Rows),false,5),_,_,_,_,_,_,r,(.nil _ _ _),(.nil _ _ _),(.nil _ _ _),hd⟩)))))))
 refine .sk 1 r ?_
 have C6:=EK (I:=v8) (a0:=a1) R30 hd
 refine .callS (.f call61 r) .n C6 r r fun V0 V1 V2 q9 C7=>?_
 obtain ⟨V3,rfl,rfl,hd⟩:=C7
 obtain ⟨j0,R30,t6,t7,t8,t9⟩:=q9.u6 d R30 t6 t7 t8 t9
 obtain ⟨u0,u7,u8,u9,v0,v1⟩:=q9.u6 u0 u7 u8 u9 v0 v1
 have v2:=q9.u1 v2
 refine .rn 5 r (.kn 1 [29,9,6,2,1] r (.condP r hd (fun C8 hd=>?_) fun C8 hd=>?_))
 · exact .sr (.build DH JK JJ .n (by exact trivial) r r (.sa AU .p4 r (.kn 2 [8,7,6] r (.drop .p2 (.drop .p2 (.ret (BO results17 (.w BQ AU r .p2 r (.t r (.t r .n))) j0 ⟨(({ Rows:=0,Cols:=0,Start:=([]:List Int),Col:=([]:List Int),Val:=([]:List Int) }:Rows),false,8),_,_,_,_,_,_,r,(.nil _ _ _),(.nil _ _ _),(.nil _ _ _),hd⟩)))))))
 refine .sk 3 r ?_
 refine AL hd (fun r0 hd=>?_) fun r0 hd=>?_
 · rw [r0]
   exact .kn 4 [33,9,6,2,1] r (.condKT r r (.sr (.build DH JK JJ .n (by exact trivial) r r (.sa AU .p4 r (.kn 2 [8,7,6] r (.drop .p2 (.drop .p2 (.ret (BO results17 (.w BQ AU r .p2 r (.t r (.t r .n))) j0 ⟨(({ Rows:=0,Cols:=0,Start:=([]:List Int),Col:=([]:List Int),Val:=([]:List Int) }:Rows),false,3),_,_,_,_,_,_,r,(.nil _ _ _),(.nil _ _ _),(.nil _ _ _),hd⟩)))))))))
 rw [r0]
 refine .kn 4 [33,9,6,2,1] r (.condP r hd (fun C9 hd=>?_) fun C9 hd=>?_)
 · exact .sr (.build DH JK JJ .n (by exact trivial) r r (.sa AU .p4 r (.kn 2 [8,7,6] r (.drop .p2 (.drop .p2 (.ret (BO results17 (.w BQ AU r .p2 r (.t r (.t r .n))) j0 ⟨(({ Rows:=0,Cols:=0,Start:=([]:List Int),Col:=([]:List Int),Val:=([]:List Int) }:Rows),false,3),_,_,_,_,_,_,r,(.nil _ _ _),(.nil _ _ _),(.nil _ _ _),hd⟩)))))))
 refine .sn [9,6,2,1] r (.seq (.sk 1 r (.ln ZZ r (.kn 1 [43,42,41,9,6,2] r (.block (.lx hd [42,41,9,6,2] [4] r (fun j E l (r1,r2,r3,j1,j2,j3,r4,r5,j4,j5,j6,r6,r7,j7,j8,j9,r8,r9,s0,k0,k1,s1,s2,s3,s4)=>fun c w=>∃ k2 k3 k4 k5 k6 k7 k8 k9 l0 l1 l2 l3 l4 l5 l6 l7 l8 l9 m0 m1 m2 m3,j ⟨72,[],none⟩ (fun I_=>RepSl AE I_ k2 k3 j1∧RepSl AE I_ k4 k5 j2∧RepSl AE I_ k6 k7 j3∧RepSl AE I_ k8 k9 j4∧RepSl AE I_ l0 l1 j5∧RepSl AE I_ l2 l3 j6∧RepSl AE I_ l4 l5 j7∧RepSl AE I_ l6 l7 j8∧RepSl AE I_ l8 l9 j9∧RepSl BR I_ m0 m1 k0∧RepSl CD I_ m2 m3 k1) ((43,.int .i64 s2) :: E) (pto U (.cells #[.int .i64 r1,.int .i64 r2,.int .i64 r3,.slice k2 j1.length k3,.slice k4 j2.length k5,.slice k6 j3.length k7,.int .i64 r4,.int .i64 r5,.slice k8 j4.length k9,.slice l0 j5.length l1,.slice l2 j6.length l3,.int .i64 r6,.int .i64 r7,.slice l4 j7.length l5,.slice l6 j8.length l7,.slice l8 j9.length l9,.int .i64 r8,.int .i64 r9,.int .i64 s0,.slice m0 k0.length m1,.slice m2 k1.length m3,.map (some e)] 121 (0,0)) :: OwnMap CI CD false e s1 :: BA AG s3 :: BA AP s4 :: l) c w) (fun c w ho hs=>⟨_,_,_,_,_,_,_,_,_,_,_,_,_,_,_,_,_,_,_,_,_,_,jf rf ⟨t6,t7,t8,t9,u0,u7,u8,u9,v0,v1,v2⟩ [2,2,0,0,0] r ho hs⟩) ?_))))))
 rintro ⟨r1,r2,r3,j1,j2,j3,r4,r5,j4,j5,j6,r6,r7,j7,j8,j9,r8,r9,s0,k0,k1,s1,s2,s3,s4⟩ G9 hd c w ⟨k2,k3,k4,k5,k6,k7,k8,k9,l0,l1,l2,l3,l4,l5,l6,l7,l8,l9,m0,m1,m2,m3,D0,c7,⟨m4,m5,m6,m7,m8,m9,n0,n1,n2,n3,n4⟩,hok,hsym⟩
 obtain ⟨p0,R30⟩:=c7.u2 j0 R30
 refine Cod.at hok hsym (.sr (.kn 1 [44,43,42,41,9,6,2] r (.seq (.condP r hd (fun w2 hd=>?_) fun w2 hd=>?_))))
 · refine .sn [43,42,41,9,6,2] r (.seq (.block (.sr ?_)))
   obtain ⟨v5,D1,s9,hd⟩:=hd
   obtain ⟨I6,o1354,H3,D2,w3,w4⟩:=R30.2 _ _ s9
   cases w4
   refine .ixa ZZ WA r D2 r v5 (AH s9 v5) r r (.ldW jW WA w3 r r r r (.al sS r fun I7=>?_))
   refine .sa WA .z r (.no [12,43,42,41,9,6,2] r (.region (.ks 1 r (.lw jW WA .z r ?_))))
   have w5:=GB (I:=D0) (o0:=({ p:=({ Ring:=r1,A:=({ Rows:=r2,Cols:=r3,Start:=j1,Col:=j2,Val:=j3 }:Rows),B:=({ Rows:=r4,Cols:=r5,Start:=j4,Col:=j5,Val:=j6 }:Rows),Mask:=({ Rows:=r6,Cols:=r7,Start:=j7,Col:=j8,Val:=j9 }:Rows),R:=r8,C:=r9,Room:=s0 }:BD),stages:=k0,workers:=k1,boxes:=s1 }:AB)) (o1:=s3) (o2:=s4) (a0:=D1) (b4:=U) (p5:=k2) (c6:=k3) (p8:=k4) (c9:=k5) (p11:=k6) (c12:=k7) (p14:=k8) (c15:=k9) (p17:=l0) (c18:=l1) (p20:=l2) (c21:=l3) (p23:=l4) (c24:=l5) (p26:=l6) (c27:=l7) (p29:=l8) (c30:=l9) (p32:=m0) (c33:=m1) (p35:=m2) (c36:=m3) (b39:=e) m4 m5 m6 m7 m8 m9 n0 n1 n2 n3 n4 hd
   refine .callS (.f call25 r) (.o [1,1,1,1] r) w5 r r fun I8 I9 J0 p6 w6=>?_
   obtain ⟨a,J1,J2,J3,J4,J5,J6,J7,J8,J9,K0,K1,K2,K3,K4,K5,K6,K7,K8,K9,L0,L1,L2,rfl,D3,D4,D5,D6,D7,D8,D9,E0,E1,E2,E3,rfl,hd⟩:=w6
   obtain ⟨H4,w7,R30,m4,m5,m6⟩:=p6.u6 p0 c7 R30 m4 m5 m6
   obtain ⟨m7,m8,m9,n0,n1,n2⟩:=p6.u6 m7 m8 m9 n0 n1 n2
   obtain ⟨n3,n4⟩:=p6.u2 n3 n4
   exact .rn 6 r (.no [43,42,41,9,6,2] r (.drop .p4 (.region (.ks 2 r (.nil' fun c w ho hs=>⟨(a.2.1.p.Ring,a.2.1.p.A.Rows,a.2.1.p.A.Cols,a.2.1.p.A.Start,a.2.1.p.A.Col,a.2.1.p.A.Val,a.2.1.p.B.Rows,a.2.1.p.B.Cols,a.2.1.p.B.Start,a.2.1.p.B.Col,a.2.1.p.B.Val,a.2.1.p.Mask.Rows,a.2.1.p.Mask.Cols,a.2.1.p.Mask.Start,a.2.1.p.Mask.Col,a.2.1.p.Mask.Val,a.2.1.p.R,a.2.1.p.C,a.2.1.p.Room,a.2.1.stages,a.2.1.workers,a.2.1.boxes,AJ (s2+1),a.2.2.1,a.2.2.2),hd,_,_,_,_,_,_,_,_,_,_,_,_,_,_,_,_,_,_,_,_,_,_,jf w7 ⟨D3,D4,D5,D6,D7,D8,D9,E0,E1,E2,E3⟩ [0,0,0,0,0] r ho hs⟩)))))
 refine .en [9,6,2] r (.seq (.jx hd [9,6] [4] r (fun j E l (n5,n6,n7,d0,d1,d2,n8,n9,d3,d4,d5,o3,o4,d6,d7,d8,o5,o6,o7,d9,e0,o8,o9,v6)=>fun c w=>∃ e1 e3 e4 e5 e6 e7 e8 e9 f0 f1 f2 f3 f4 f5 f6 f7 f8 f9 g0 g1 g2 g3,j ⟨72,[],none⟩ (fun I_=>RepSl AE I_ e1 e3 d0∧RepSl AE I_ e4 e5 d1∧RepSl AE I_ e6 e7 d2∧RepSl AE I_ e8 e9 d3∧RepSl AE I_ f0 f1 d4∧RepSl AE I_ f2 f3 d5∧RepSl AE I_ f4 f5 d6∧RepSl AE I_ f6 f7 d7∧RepSl AE I_ f8 f9 d8∧RepSl BR I_ g0 g1 d9∧RepSl CD I_ g2 g3 e0) E (pto U (.cells #[.int .i64 n5,.int .i64 n6,.int .i64 n7,.slice e1 d0.length e3,.slice e4 d1.length e5,.slice e6 d2.length e7,.int .i64 n8,.int .i64 n9,.slice e8 d3.length e9,.slice f0 d4.length f1,.slice f2 d5.length f3,.int .i64 o3,.int .i64 o4,.slice f4 d6.length f5,.slice f6 d7.length f7,.slice f8 d8.length f9,.int .i64 o5,.int .i64 o6,.int .i64 o7,.slice g0 d9.length g1,.slice g2 e0.length g3,.map (some e)] 121 (0,0)) :: OwnMap CI CD false e o8 :: BA AG o9 :: BA AP v6 :: l) c w) (fun L3 hd=>?_) ?_))
 · skip
   refine .sr (.kn 1 [13,9,6,2] r (.block (.lx hd [9,6,2] [4] r (fun j E l (V,W,X,F,G,H,Y,Z,J,K,L,a3,a4,N,O,P,a5,a6,a7,S,T,a8,s5,a9,g4)=>fun c w=>∃ g5 g6 g7 g8 g9 h0 h1 h2 h3 h4 h5 h6 h7 h8 h9 i0 i1 i2 i3 i4 i5 i6,j ⟨72,[],none⟩ (fun I_=>RepSl AE I_ g5 g6 F∧RepSl AE I_ g7 g8 G∧RepSl AE I_ g9 h0 H∧RepSl AE I_ h1 h2 J∧RepSl AE I_ h3 h4 K∧RepSl AE I_ h5 h6 L∧RepSl AE I_ h7 h8 N∧RepSl AE I_ h9 i0 O∧RepSl AE I_ i1 i2 P∧RepSl BR I_ i3 i4 S∧RepSl CD I_ i5 i6 T) ((13,.int .i64 s5) :: E) (pto U (.cells #[.int .i64 V,.int .i64 W,.int .i64 X,.slice g5 F.length g6,.slice g7 G.length g8,.slice g9 H.length h0,.int .i64 Y,.int .i64 Z,.slice h1 J.length h2,.slice h3 K.length h4,.slice h5 L.length h6,.int .i64 a3,.int .i64 a4,.slice h7 N.length h8,.slice h9 O.length i0,.slice i1 P.length i2,.int .i64 a5,.int .i64 a6,.int .i64 a7,.slice i3 S.length i4,.slice i5 T.length i6,.map (some e)] 121 (0,0)) :: OwnMap CI CD false e a8 :: BA AG a9 :: BA AP g4 :: l) c w) (fun c w ho hs=>⟨_,_,_,_,_,_,_,_,_,_,_,_,_,_,_,_,_,_,_,_,_,_,jf rf ⟨m4,m5,m6,m7,m8,m9,n0,n1,n2,n3,n4⟩ [0,0,0,0,0] r ho hs⟩) ?_)))
   rintro ⟨V,W,X,F,G,H,Y,Z,J,K,L,a3,a4,N,O,P,a5,a6,a7,S,T,a8,s5,a9,g4⟩ H0 hd c w ⟨g5,g6,g7,g8,g9,h0,h1,h2,h3,h4,h5,h6,h7,h8,h9,i0,i1,i2,i3,i4,i5,i6,E4,p9,⟨g,i,k,m,q,s,u,v,x,y,D⟩,hok,hsym⟩
   obtain ⟨w8,w9⟩:=p9.u2 p0 c7
   refine Cod.at hok hsym (.seq (.sk 4 r ?_))
   refine AL hd (fun q0 hd=>?_) fun q0 hd=>?_
   · rw [q0]
     refine .ks 1 r ?_
     have x0:=DT (I:=E4) (o0:=({ p:=({ Ring:=V,A:=({ Rows:=W,Cols:=X,Start:=F,Col:=G,Val:=H }:Rows),B:=({ Rows:=Y,Cols:=Z,Start:=J,Col:=K,Val:=L }:Rows),Mask:=({ Rows:=a3,Cols:=a4,Start:=N,Col:=O,Val:=P }:Rows),R:=a5,C:=a6,Room:=a7 }:BD),stages:=S,workers:=T,boxes:=a8 }:AB)) (o1:=a9) (b3:=U) (p4:=g5) (c5:=g6) (p7:=g7) (c8:=g8) (p10:=g9) (c11:=h0) (p13:=h1) (c14:=h2) (p16:=h3) (c17:=h4) (p19:=h5) (c20:=h6) (p22:=h7) (c23:=h8) (p25:=h9) (c26:=i0) (p28:=i1) (c29:=i2) (p31:=i3) (c32:=i4) (p34:=i5) (c35:=i6) (b38:=e) g i k m q s u v x y D hd
     refine .yes r (.callS (.f call38 r) (.o [0,0,0] r) x0 r r fun L4 E5 L5 q1 x1=>?_)
     obtain ⟨L6,rfl,rfl,hd⟩:=x1
     obtain ⟨x2,x3,t0,g,i,k⟩:=q1.u6 w8 w9 p9 g i k
     obtain ⟨m,q,s,u,v,x⟩:=q1.u6 m q s u v x
     obtain ⟨y,D⟩:=q1.u2 y D
     refine .rn 5 r (.kn 2 [58,13,9,6,2] r (.condP r hd (fun x4 hd=>?_) fun x4 hd=>?_))
     · refine .sn [13,9,6,2] r (.seq (.block (.region (.ks 1 r ?_))))
       have x5:=KO (I:=E5) (o0:=({ p:=({ Ring:=V,A:=({ Rows:=W,Cols:=X,Start:=F,Col:=G,Val:=H }:Rows),B:=({ Rows:=Y,Cols:=Z,Start:=J,Col:=K,Val:=L }:Rows),Mask:=({ Rows:=a3,Cols:=a4,Start:=N,Col:=O,Val:=P }:Rows),R:=a5,C:=a6,Room:=a7 }:BD),stages:=S,workers:=T,boxes:=a8 }:AB)) (o1:=a9) (o2:=g4) (b4:=U) (p5:=g5) (c6:=g6) (p8:=g7) (c9:=g8) (p11:=g9) (c12:=h0) (p14:=h1) (c15:=h2) (p17:=h3) (c18:=h4) (p20:=h5) (c21:=h6) (p23:=h7) (c24:=h8) (p26:=h9) (c27:=i0) (p29:=i1) (c30:=i2) (p32:=i3) (c33:=i4) (p35:=i5) (c36:=i6) (b39:=e) g i k m q s u v x y D hd
       refine .callS (.f call63 r) (.o [0,0,0,0] r) x5 r r fun L7 L8 L9 q2 x6=>?_
       obtain ⟨b,M0,M1,M2,M3,M4,M5,M6,M7,M8,M9,N0,N1,N2,N3,N4,N5,N6,N7,N8,N9,O0,O1,rfl,E6,E7,E8,E9,F0,F1,F2,F3,F4,F5,F6,rfl,hd⟩:=x6
       obtain ⟨H5,H6,x7,g,i,k⟩:=q2.u6 x2 x3 t0 g i k
       obtain ⟨m,q,s,u,v,x⟩:=q2.u6 m q s u v x
       obtain ⟨y,D⟩:=q2.u2 y D
       exact .rn 5 r (.no [13,9,6,2] r (.region (.ks 3 r (.nil' fun c w ho hs=>⟨(b.2.1.p.Ring,b.2.1.p.A.Rows,b.2.1.p.A.Cols,b.2.1.p.A.Start,b.2.1.p.A.Col,b.2.1.p.A.Val,b.2.1.p.B.Rows,b.2.1.p.B.Cols,b.2.1.p.B.Start,b.2.1.p.B.Col,b.2.1.p.B.Val,b.2.1.p.Mask.Rows,b.2.1.p.Mask.Cols,b.2.1.p.Mask.Start,b.2.1.p.Mask.Col,b.2.1.p.Mask.Val,b.2.1.p.R,b.2.1.p.C,b.2.1.p.Room,b.2.1.stages,b.2.1.workers,b.2.1.boxes,AJ (s5+1),b.2.2.1,b.2.2.2),hd,_,_,_,_,_,_,_,_,_,_,_,_,_,_,_,_,_,_,_,_,_,_,jf x7 ⟨E6,E7,E8,E9,F0,F1,F2,F3,F4,F5,F6⟩ [0,0,0,0,0] r ho hs⟩))))
     exact .exit fun c w ho hs=>⟨(V,W,X,F,G,H,Y,Z,J,K,L,a3,a4,N,O,P,a5,a6,a7,S,T,a8,a9,g4),hd,_,_,_,_,_,_,_,_,_,_,_,_,_,_,_,_,_,_,_,_,_,_,jf t0 ⟨g,i,k,m,q,s,u,v,x,y,D⟩ [0,0,0,0,0] r ho hs⟩
   rw [q0]
   exact .kn 4 [58,13,9,6,2] r (.condKF r r (.exit fun c w ho hs=>⟨(V,W,X,F,G,H,Y,Z,J,K,L,a3,a4,N,O,P,a5,a6,a7,S,T,a8,a9,g4),hd,_,_,_,_,_,_,_,_,_,_,_,_,_,_,_,_,_,_,_,_,_,_,jf p9 ⟨g,i,k,m,q,s,u,v,x,y,D⟩ [0,0,0,0,0] r ho hs⟩))
 rintro ⟨n5,n6,n7,d0,d1,d2,n8,n9,d3,d4,d5,o3,o4,d6,d7,d8,o5,o6,o7,d9,e0,o8,o9,v6⟩ hd c w ⟨e1,e3,e4,e5,e6,e7,e8,e9,f0,f1,f2,f3,f4,f5,f6,f7,f8,f9,g0,g1,g2,g3,F7,t1,⟨b0,b1,b2,b5,b6,b7,b8,b9,c0,c1,c3⟩,hok,hsym⟩
 obtain ⟨x8,x9⟩:=t1.u2 p0 c7
 refine Cod.at hok hsym (.sk 1 r ?_)
 have y0:=SY (I:=F7) (o0:=({ p:=({ Ring:=n5,A:=({ Rows:=n6,Cols:=n7,Start:=d0,Col:=d1,Val:=d2 }:Rows),B:=({ Rows:=n8,Cols:=n9,Start:=d3,Col:=d4,Val:=d5 }:Rows),Mask:=({ Rows:=o3,Cols:=o4,Start:=d6,Col:=d7,Val:=d8 }:Rows),R:=o5,C:=o6,Room:=o7 }:BD),stages:=d9,workers:=e0,boxes:=o8 }:AB)) (o1:=o9) (b3:=U) (p4:=e1) (c5:=e3) (p7:=e4) (c8:=e5) (p10:=e6) (c11:=e7) (p13:=e8) (c14:=e9) (p16:=f0) (c17:=f1) (p19:=f2) (c20:=f3) (p22:=f4) (c23:=f5) (p25:=f6) (c26:=f7) (p28:=f8) (c29:=f9) (p31:=g0) (c32:=g1) (p34:=g2) (c35:=g3) (b38:=e) b0 b1 b2 b5 b6 b7 b8 b9 c0 c1 c3 hd
 refine .callS (.f call64 r) (.o [0,0,0] r) y0 r r fun O2 F8 O3 q3 y1=>?_
 obtain ⟨v7,O4,O5,O6,O7,O8,O9,rfl,s6,s7,s8,rfl,hd⟩:=y1
 obtain ⟨y2,y3,y4,b0,b1,b2⟩:=q3.u6 x8 x9 t1 b0 b1 b2
 obtain ⟨b5,b6,b7,b8,b9,c0⟩:=q3.u6 b5 b6 b7 b8 b9 c0
 obtain ⟨c1,c3⟩:=q3.u2 c1 c3
 refine .rn 5 r (.ks 3 r (.al DH r fun P0=>?_))
 refine .sa AU .z r (.kn 1 [10,14,9,6] r (.seq (.dr [0,1,3,2,4,5] 6 (.h r (fun _=>.lw BQ AU .z r .mk) (.fk 2 r (.ww r fun ex=>?_))))))
 have y5:=DT (I:=F8) (o0:=({ p:=({ Ring:=n5,A:=({ Rows:=n6,Cols:=n7,Start:=d0,Col:=d1,Val:=d2 }:Rows),B:=({ Rows:=n8,Cols:=n9,Start:=d3,Col:=d4,Val:=d5 }:Rows),Mask:=({ Rows:=o3,Cols:=o4,Start:=d6,Col:=d7,Val:=d8 }:Rows),R:=o5,C:=o6,Room:=o7 }:BD),stages:=d9,workers:=e0,boxes:=o8 }:AB)) (o1:=o9) (b3:=U) (p4:=e1) (c5:=e3) (p7:=e4) (c8:=e5) (p10:=e6) (c11:=e7) (p13:=e8) (c14:=e9) (p16:=f0) (c17:=f1) (p19:=f2) (c20:=f3) (p22:=f4) (c23:=f5) (p25:=f6) (c26:=f7) (p28:=f8) (c29:=f9) (p31:=g0) (c32:=g1) (p34:=g2) (c35:=g3) (b38:=e) b0 b1 b2 b5 b6 b7 b8 b9 c0 c1 c3 hd
 refine .callS (.f call38 r) (.o [1,1,1] r) y5 r r fun P1 P2 P3 q4 y6=>?_
 obtain ⟨F9,rfl,rfl,hd⟩:=y6
 obtain ⟨y7,H7,H8,b0,b1,b2⟩:=q4.u6 y2 y3 y4 b0 b1 b2
 obtain ⟨b5,b6,b7,b8,b9,c0⟩:=q4.u6 b5 b6 b7 b8 b9 c0
 obtain ⟨c1,c3,s6,s7,s8⟩:=q4.u5 c1 c3 s6 s7 s8
 refine .rx 6 r (.so 6 r r r (.ck 1 r r (.ch r (fun _=>.lw BQ AU .p3 r .mk) trivial)) (.ww r fun ex=>?_))
 exact .sa AU .p5 r (.sn 6 r r r (.ck 1 r r trivial) (.fk 1 r (.e2 6 (.kn 1 [8,7,6] r (.drop .z (.drop .z (.drop .p1 (.ret (BO results17 (.w BQ AU r .p2 r (.t r (.t r .n))) y7 ⟨(v7.1,F9,v7.2),_,_,_,_,_,_,r,s6,s7,s8,hd⟩)))))))))
theorem FP {o0:List (Nat×AA)} {a0:Int} {Q:Bool→Prop} (hd:EZ o0 a0 Q) :
  Fun prog 96 #[.pointer none,.int .i64 a0] I [BA AG o0] (fun I_ v l=>∃ r,v=.bool r∧l=[BA AG o0]∧Q r):=by
 refine Fun.en func96 ntmps96 r fun w0 M=>?_
 exact .sk 1 r (.nk [1,0] 1 r (.neNilP aA r r r r (.kn 14 [4] r (.q1 results96 rf [0] r ⟨false,r,r,hd⟩))))
theorem VM {o0:List (Nat×AA)} {o1:List (Nat×AF)} {a0 a1:Int} {Q:Unit→Prop} (hd:OB o0 o1 a0 a1 Q) :
  Fun prog 85 #[.pointer none,.int .i64 a0,.int .i64 a1] I [BA AG o0,BA AP o1] (fun I_ v l=>∃ r,v=.pointer none∧l=[BA AG o0,BA AP o1]∧Q r):=by
 refine Fun.en func85 ntmps85 r fun w0 M=>?_
 refine .sr (.kn 1 [2,1,0] r (.seq (.sk 2 r ?_)))
 have d:=FP (I:=I) (o0:=o0) (a0:=a0) hd
 refine .callS (.f call96 r) (.o [0] r) d r r fun p m q b e=>?_
 obtain ⟨s,rfl,rfl,hd⟩:=e
 refine .rn 2 r (.ks 2 r ?_)
 refine AL hd (fun a hd=>?_) fun a hd=>?_
 · rw [a]
   exact .kn 5 [17,2,1,0] r (.condKT r r (.sr (.kn 1 [6] r (.q1 results85 b [0,0] r ⟨(),r,r,hd⟩))))
 rw [a]
 refine .ks 2 r ?_
 have g:=FP (I:=m) (o0:=o0) (a0:=a1) hd
 refine .yes r (.callS (.f call96 r) (.o [0] r) g r r fun t u w h i=>?_)
 obtain ⟨x,rfl,rfl,hd⟩:=i
 have j:=h.u1 b
 refine .rn 2 r (.kn 2 [17,2,1,0] r (.condP r hd (fun k hd=>?_) fun k hd=>?_))
 · exact .sr (.kn 1 [6] r (.q1 results85 j [0,0] r ⟨(),r,r,hd⟩))
 refine .sn [2,1,0] r (.sk 2 r (.buildArr MR PT FI (.c r r r (.o r) (.c r r r (.o r) .n)) r r (.al MR r fun y=>?_)))
 refine .sa IZ .z r (.no [7,0] r (.seq (.seq (.dr [0,1,2,3,4,5,6] 7 (.fk 1 r ?_)))))
 exact hd.elim
theorem VO {o0:List (Nat×AA)} {o1:List (Nat×AF)} {a0 a1:Int} {Q:Int→Prop} (hd:OC o0 o1 a0 a1 Q) :
  Fun prog 30 #[.pointer none,.int .i64 a0,.int .i64 a1] I [BA AG o0,BA AP o1] (fun I_ v l=>∃ r,v=.int .i64 r∧l=[BA AG o0,BA AP o1]∧Q r):=by
 refine Fun.en func30 ntmps30 r fun w0 M=>?_
 refine .sk 1 r (.nk [2,1,0] 3 r ?_)
 have e:=VM (I:=I) (o0:=o0) (o1:=o1) (a0:=a0) (a1:=a1) hd
 refine .callS (.f call85 r) (.o [0,0] r) e r r fun q j s g h=>?_
 obtain ⟨t,rfl,rfl,hd⟩:=h
 refine .rn 2 r ?_
 have a:=IX (I:=j)  hd
 refine .callS (.f call97 r) .n a r r fun k m p b c=>?_
 obtain ⟨i,rfl,rfl,hd⟩:=c
 have d:=b.u1 g
 exact .rn 2 r (.kn 1 [6] r (.q1 results30 d [0,0] r ⟨i,r,r,hd⟩))
theorem SZ {Q:Int→Prop} (hd:LJ Q) :
  Fun prog 42 #[.pointer none] I [] (fun I_ v l=>∃ r,v=.int .i64 r∧l=[]∧Q r):=by
 refine Fun.en func42 ntmps42 r fun w0 M=>?_
 exact .sr (.kn 1 [0] r (.seq (.sk 1 r (.eqNilP aA r r r r (.no [4,0] r (.condKT r r (.sr (.kn 1 [2] r (.q1 results42 rf [] r ⟨0,r,r,hd⟩)))))))))
theorem UI {o0:List (Nat×AF)} {Q:Int→Prop} (hd:NH o0 Q) :
  Fun prog 43 #[.pointer none] I [BA AP o0] (fun I_ v l=>∃ r,v=.int .i64 r∧l=[BA AP o0]∧Q r):=by
 refine Fun.en func43 ntmps43 r fun w0 M=>?_
 refine .sk 1 r (.nk [0] 1 r (.no [3,0] r (.seq (.sk 1 r (.neNilP aA r r r r (.no [7,3,0] r (.condKF r r (.sn [3] r (.sr ?_)))))))))
 exact .kn 2 [2] r (.q1 results43 rf [0] r ⟨0,r,r,hd⟩)
theorem UJ {o0:List (Nat×AA)} {a0:Int} {Q:Int→Prop} (hd:NI o0 a0 Q) :
  Fun prog 29 #[.pointer none,.int .i64 a0] I [BA AG o0] (fun I_ v l=>∃ r,v=.int .i64 r∧l=[BA AG o0]∧Q r):=by
 refine Fun.en func29 ntmps29 r fun w0 M=>?_
 refine .sr (.kn 1 [1,0] r (.seq (.sk 2 r ?_)))
 have a:=FP (I:=I) (o0:=o0) (a0:=a0) hd
 refine .callS (.f call96 r) (.o [0] r) a r r fun e g h b c=>?_
 obtain ⟨i,rfl,rfl,hd⟩:=c
 refine .rn 1 r (.kn 1 [8,1,0] r (.condP r hd (fun d hd=>?_) fun d hd=>?_))
 · exact .sr (.kn 1 [4] r (.q1 results29 b [0] r ⟨0,r,r,hd⟩))
 refine .sn [1,0] r (.sk 1 r ?_)
 exact hd.elim
theorem TG {o0:List (Nat×AA)} {a0:Int} {Q:Int→Prop} (hd:MP o0 a0 Q) :
  Fun prog 28 #[.pointer none,.int .i64 a0] I [BA AG o0] (fun I_ v l=>∃ r,v=.int .i64 r∧l=[BA AG o0]∧Q r):=by
 refine Fun.en func28 ntmps28 r fun w0 M=>?_
 refine .sr (.kn 1 [1,0] r (.seq (.sk 2 r ?_)))
 have a:=FP (I:=I) (o0:=o0) (a0:=a0) hd
 refine .callS (.f call96 r) (.o [0] r) a r r fun e g h b c=>?_
 obtain ⟨i,rfl,rfl,hd⟩:=c
 refine .rn 1 r (.kn 1 [8,1,0] r (.condP r hd (fun d hd=>?_) fun d hd=>?_))
 · exact .sr (.kn 1 [4] r (.q1 results28 b [0] r ⟨0,r,r,hd⟩))
 refine .sn [1,0] r (.sk 1 r ?_)
 exact hd.elim
theorem VP {o0:AB} {o1:List (Nat×AA)} {o2:List (Nat×AF)} {a0 a1:Int} {Q:(Int×AB×(List (Nat×AF)))→Prop} (R7:RepSl AE I p5 c6 o0.p.A.Start) (R10:RepSl AE I p8 c9 o0.p.A.Col) (R13:RepSl AE I p11 c12 o0.p.A.Val) (R16:RepSl AE I p14 c15 o0.p.B.Start) (R19:RepSl AE I p17 c18 o0.p.B.Col) (R22:RepSl AE I p20 c21 o0.p.B.Val) (R25:RepSl AE I p23 c24 o0.p.Mask.Start) (R28:RepSl AE I p26 c27 o0.p.Mask.Col) (R31:RepSl AE I p29 c30 o0.p.Mask.Val) (R34:RepSl BR I p32 c33 o0.stages) (R37:RepSl CD I p35 c36 o0.workers) (hd:GK o0 o1 o2 a0 a1 Q) :
  Fun prog 30 #[.pointer (some ⟨b4,0,none⟩),.int .i64 a0,.int .i64 a1] I [pto b4 (.cells (AQ o0 p5 c6 p8 c9 p11 c12 p14 c15 p17 c18 p20 c21 p23 c24 p26 c27 p29 c30 p32 c33 p35 c36 b39) 121 (0,0)),OwnMap CI CD false b39 o0.boxes,BA AG o1,BA AP o2] (fun I_ v l=>∃ r p41 c42 p44 c45 p47 c48 p50 c51 p53 c54 p56 c57 p59 c60 p62 c63 p65 c66 p68 c69 p71 c72,v=.int .i64 r.1∧RepSl AE I_ p41 c42 r.2.1.p.A.Start∧RepSl AE I_ p44 c45 r.2.1.p.A.Col∧RepSl AE I_ p47 c48 r.2.1.p.A.Val∧RepSl AE I_ p50 c51 r.2.1.p.B.Start∧RepSl AE I_ p53 c54 r.2.1.p.B.Col∧RepSl AE I_ p56 c57 r.2.1.p.B.Val∧RepSl AE I_ p59 c60 r.2.1.p.Mask.Start∧RepSl AE I_ p62 c63 r.2.1.p.Mask.Col∧RepSl AE I_ p65 c66 r.2.1.p.Mask.Val∧RepSl BR I_ p68 c69 r.2.1.stages∧RepSl CD I_ p71 c72 r.2.1.workers∧l=[pto b4 (.cells (AQ r.2.1 p41 c42 p44 c45 p47 c48 p50 c51 p53 c54 p56 c57 p59 c60 p62 c63 p65 c66 p68 c69 p71 c72 b39) 121 (0,0)),OwnMap CI CD false b39 r.2.1.boxes,BA AG o1,BA AP r.2.2]∧Q r):=by
 refine Fun.en func30 ntmps30 r fun w0 M=>?_
 refine .sk 1 r (.nk [2,1,0] 3 r ?_)
 have V:=EH (I:=I) (o0:=o0) (o1:=o1) (o2:=o2) (a0:=a0) (a1:=a1) (b4:=b4) (p5:=p5) (c6:=c6) (p8:=p8) (c9:=c9) (p11:=p11) (c12:=c12) (p14:=p14) (c15:=c15) (p17:=p17) (c18:=c18) (p20:=p20) (c21:=c21) (p23:=p23) (c24:=c24) (p26:=p26) (c27:=c27) (p29:=p29) (c30:=c30) (p32:=p32) (c33:=c33) (p35:=p35) (c36:=c36) (b39:=b39) R7 R10 R13 R16 R19 R22 R25 R28 R31 R34 R37 hd
 refine .callS (.f call85 r) (.o [0,0,0,0] r) V r r fun c1 T c2 a b=>?_
 rcases b with b | b
 · obtain ⟨U,c3,c4,c5,c7,c8,d0,d1,d2,d3,d4,d5,d6,d7,d8,d9,e0,e1,e2,e3,e4,e5,e6,rfl,s,t,u,w,x,y,z,C,D,E,F,rfl,hd⟩:=b
   obtain ⟨R7,R10,R13,R16,R19,R22⟩:=a.u6 R7 R10 R13 R16 R19 R22
   obtain ⟨R25,R28,R31,R34,R37⟩:=a.u5 R25 R28 R31 R34 R37
   refine .rn 4 r ?_
   have L:=IX (I:=T)  hd
   refine .callS (.f call97 r) .n L r r fun Y Z a2 k N=>?_
   obtain ⟨W,rfl,rfl,hd⟩:=N
   obtain ⟨O,s,t,u,w,x⟩:=k.u6 a s t u w x
   obtain ⟨y,z,C,D,E,F⟩:=k.u6 y z C D E F
   exact .rn 4 r (.kn 1 [6,0] r (.q1 results30 O [0,0,0,0] r ⟨(W,U.1,U.2),_,_,_,_,_,_,_,_,_,_,_,_,_,_,_,_,_,_,_,_,_,_,r,s,t,u,w,x,y,z,C,D,E,F,r,hd⟩))
 obtain ⟨m,e7,e8,e9,f0,f1,f2,f3,f4,a3,a4,a5,a6,a7,a8,a9,b0,b1,b2,b3,b5,b6,b7,rfl,G,H,J,K,c,d,e,g,h,i,j,rfl,hd⟩:=b
 obtain ⟨R7,R10,R13,R16,R19,R22⟩:=a.u6 R7 R10 R13 R16 R19 R22
 obtain ⟨R25,R28,R31,R34,R37⟩:=a.u5 R25 R28 R31 R34 R37
 refine .rn 4 r ?_
 have P:=NW (I:=T) (o0:=m.2.2) (a0:=m.1) hd
 refine .callS (.f call97 r) (.o [3] r) P r r fun b8 b9 c0 q R=>?_
 obtain ⟨X,rfl,rfl,hd⟩:=R
 obtain ⟨S,G,H,J,K,c⟩:=q.u6 a G H J K c
 obtain ⟨d,e,g,h,i,j⟩:=q.u6 d e g h i j
 exact .rn 4 r (.kn 1 [6,0] r (.q1 results30 S [1,1,1,0] r ⟨(X,m.2.1,m.2.2),_,_,_,_,_,_,_,_,_,_,_,_,_,_,_,_,_,_,_,_,_,_,r,G,H,J,K,c,d,e,g,h,i,j,r,hd⟩))
theorem TA {o0:AB} {Q:Int→Prop} (R5:RepSl AE I p3 c4 o0.p.A.Start) (R8:RepSl AE I p6 c7 o0.p.A.Col) (R11:RepSl AE I p9 c10 o0.p.A.Val) (R14:RepSl AE I p12 c13 o0.p.B.Start) (R17:RepSl AE I p15 c16 o0.p.B.Col) (R20:RepSl AE I p18 c19 o0.p.B.Val) (R23:RepSl AE I p21 c22 o0.p.Mask.Start) (R26:RepSl AE I p24 c25 o0.p.Mask.Col) (R29:RepSl AE I p27 c28 o0.p.Mask.Val) (R32:RepSl BR I p30 c31 o0.stages) (R35:RepSl CD I p33 c34 o0.workers) (hd:HN o0 Q) :
  Fun prog 42 #[.pointer (some ⟨b2,0,none⟩)] I [pto b2 (.cells (AQ o0 p3 c4 p6 c7 p9 c10 p12 c13 p15 c16 p18 c19 p21 c22 p24 c25 p27 c28 p30 c31 p33 c34 b37) 121 (0,0)),OwnMap CI CD false b37 o0.boxes] (fun I_ v l=>∃ r,v=.int .i64 r∧l=[pto b2 (.cells (AQ o0 p3 c4 p6 c7 p9 c10 p12 c13 p15 c16 p18 c19 p21 c22 p24 c25 p27 c28 p30 c31 p33 c34 b37) 121 (0,0)),OwnMap CI CD false b37 o0.boxes]∧Q r):=by
 refine Fun.en func42 ntmps42 r fun w0 M=>?_
 refine .sr (.kn 1 [0] r (.seq (.sk 1 r (.eqNilP aA r r r r (.no [4,0] r (.condKF r r (.sn [0] r (.sk 3 r (.lo XR .z r ?_)))))))))
 exact .ln ZG r (.kn 1 [2,0] r (.q1 results42 rf [0,0] r ⟨(o0.stages.length:Int),r,r,hd⟩))
theorem Z9 {o0:AF} {Q:Int→Prop} (hd:JV o0 Q) :
  Fun prog 116 #[.pointer (some ⟨b2,0,none⟩)] I [pto b2 (.cells #[.int .i64 o0.room,.slice p3 o0.row.length c4,.map (some b8),.map (some b10),.int .i64 o0.sent,.int .i64 o0.taken] 213 (0,0)),OwnSl AE 3 p3 c4 o0.row,OwnMap (Value.int .i64) DF true b8 o0.by_,OwnMap (Value.int .i64) AE false b10 o0.often] (fun I_ v l=>∃ r,v=.int .i64 r∧l=[pto b2 (.cells #[.int .i64 o0.room,.slice p3 o0.row.length c4,.map (some b8),.map (some b10),.int .i64 o0.sent,.int .i64 o0.taken] 213 (0,0)),OwnSl AE 3 p3 c4 o0.row,OwnMap (Value.int .i64) DF true b8 o0.by_,OwnMap (Value.int .i64) AE false b10 o0.often]∧Q r):=by
 refine Fun.en func116 ntmps116 r fun w0 M=>?_
 refine .sr (.kn 1 [0] r (.seq (.sk 1 r (.eqNilP bS r r r r (.no [4,0] r (.condKF r r (.sn [0] r (.sk 3 r (.lo BL .z r ?_)))))))))
 exact .kn 1 [2,0] r (.q1 results116 rf [0,0,0,0] r ⟨o0.sent,r,r,hd⟩)
theorem ZA {Q:Int→Prop} (hd:TQ Q) :
  Fun prog 116 #[.pointer none] I [] (fun I_ v l=>∃ r,v=.int .i64 r∧l=[]∧Q r):=by
 refine Fun.en func116 ntmps116 r fun w0 M=>?_
 exact .sr (.kn 1 [0] r (.seq (.sk 1 r (.eqNilP bS r r r r (.no [4,0] r (.condKT r r (.sr (.kn 1 [2] r (.q1 results116 rf [] r ⟨0,r,r,hd⟩)))))))))
theorem aV {o0:List (Nat×AF)} {a0:Option Nat} {Q:Int→Prop} (hd:OR o0 a0 Q) :
  Fun prog 116 #[.pointer (uU a0)] I [BA AP o0] (fun I_ v l=>∃ r,v=.int .i64 r∧l=[BA AP o0]∧Q r):=by
 rcases a0 with _ | b
 · have hd:=hd.1 r
   refine (Fun.frame (r:=[BA AP o0]) (ZA  hd)).conseq fun I_ v l hle h=>?_
   obtain ⟨a,rfl,rr,rfl,rfl,hq⟩:=h
   exact ⟨rr,r,r,hq⟩
 obtain ⟨x,hx,hd⟩:=hd.2 b rfl
 refine Fun.bankR hx (fun aa _=>Z9 (b2:=b) (p3:=aa.1) (c4:=aa.2.1) (b8:=aa.2.2.1) (b10:=aa.2.2.2)  hd) ?_
 rintro aa I_ v l hle hf ⟨rr,rfl,rfl,hq⟩
 exact ⟨(aa.1,aa.2.1,aa.2.2.1,aa.2.2.2),[],r,trivial,rr,r,r,hq⟩
theorem UK {o0:AB} {o1:List (Nat×AF)} {Q:Int→Prop} (R6:RepSl AE I p4 c5 o0.p.A.Start) (R9:RepSl AE I p7 c8 o0.p.A.Col) (R12:RepSl AE I p10 c11 o0.p.A.Val) (R15:RepSl AE I p13 c14 o0.p.B.Start) (R18:RepSl AE I p16 c17 o0.p.B.Col) (R21:RepSl AE I p19 c20 o0.p.B.Val) (R24:RepSl AE I p22 c23 o0.p.Mask.Start) (R27:RepSl AE I p25 c26 o0.p.Mask.Col) (R30:RepSl AE I p28 c29 o0.p.Mask.Val) (R33:RepSl BR I p31 c32 o0.stages) (R36:RepSl CD I p34 c35 o0.workers) (hd:FZ o0 o1 Q) :
  Fun prog 43 #[.pointer (some ⟨b3,0,none⟩)] I [pto b3 (.cells (AQ o0 p4 c5 p7 c8 p10 c11 p13 c14 p16 c17 p19 c20 p22 c23 p25 c26 p28 c29 p31 c32 p34 c35 b38) 121 (0,0)),OwnMap CI CD false b38 o0.boxes,BA AP o1] (fun I_ v l=>∃ r,v=.int .i64 r∧l=[pto b3 (.cells (AQ o0 p4 c5 p7 c8 p10 c11 p13 c14 p16 c17 p19 c20 p22 c23 p25 c26 p28 c29 p31 c32 p34 c35 b38) 121 (0,0)),OwnMap CI CD false b38 o0.boxes,BA AP o1]∧Q r):=by
 refine Fun.en func43 ntmps43 r fun w0 M=>?_
 refine .sk 1 r (.nk [0] 1 r (.no [3,0] r (.seq (.sk 1 r (.neNilP aA r r r r (.no [7,3,0] r (.condKT r r (.sk 3 r (.lo isAgg118 .z r ?_)))))))))
 refine .rangeM eU .p1 r r r fun w=>?_
 refine .no [12,3,0] r (.block (.lp hd [12,0] [1,1] r (fun j E l (d,b)=>j ((3,.int .i64 b) :: E) (OwnIt CI CD false b38 w o0.boxes d none :: l)) (ji rf [0,0,0] r) ?_))
 rintro ⟨d,b⟩ u hd
 refine jq r fun n a=>?_
 obtain ⟨R6,R9,R12,R15,R18,R21⟩:=a.u6 R6 R9 R12 R15 R18 R21
 obtain ⟨R24,R27,R30,R33,R36⟩:=a.u5 R24 R27 R30 R33 R36
 refine .sr (.nextM .z r hd r r (fun hd e=>?_) (fun q s y x hd g h e=>?_))
 · skip
   exact .kn 1 [14,12,3,0] r (.seq (.condKF r r (.en [3,0] r (.sr (.kn 2 [2,0] r (.itEnd .z (.q1 results43 a [1,0,0] r ⟨b,r,r,hd⟩)))))))
 cases g
 cases h
 refine .kn 1 [14,12,3,0] r (.seq (.condKT r r (.sn [12,3,0] r (.block (.sr (.entryM .z r r r (.kn 2 [5,12,3,0] r (.region (.ks 2 r ?_)))))))))
 have i:=aV (I:=n) (o0:=o1) (a0:=q.2) hd
 refine .callS (.f call116 r) (.o [2] r) i r r fun C D F c k=>?_
 obtain ⟨t,rfl,rfl,hd⟩:=k
 obtain ⟨m,R6,R9,R12,R15,R18⟩:=c.u6 a R6 R9 R12 R15 R18
 obtain ⟨R21,R24,R27,R30,R33,R36⟩:=c.u6 R21 R24 R27 R30 R33 R36
 exact .rn 3 r (.ks 2 r (.nil' (je (s,AJ (b+t)) hd m [1,1,0] r)))
theorem TH {o0:AB} {o1:List (Nat×AA)} {a0:Int} {Q:Int→Prop} (R6:RepSl AE I p4 c5 o0.p.A.Start) (R9:RepSl AE I p7 c8 o0.p.A.Col) (R12:RepSl AE I p10 c11 o0.p.A.Val) (R15:RepSl AE I p13 c14 o0.p.B.Start) (R18:RepSl AE I p16 c17 o0.p.B.Col) (R21:RepSl AE I p19 c20 o0.p.B.Val) (R24:RepSl AE I p22 c23 o0.p.Mask.Start) (R27:RepSl AE I p25 c26 o0.p.Mask.Col) (R30:RepSl AE I p28 c29 o0.p.Mask.Val) (R33:RepSl BR I p31 c32 o0.stages) (R36:RepSl CD I p34 c35 o0.workers) (hd:FM o0 o1 a0 Q) :
  Fun prog 28 #[.pointer (some ⟨b3,0,none⟩),.int .i64 a0] I [pto b3 (.cells (AQ o0 p4 c5 p7 c8 p10 c11 p13 c14 p16 c17 p19 c20 p22 c23 p25 c26 p28 c29 p31 c32 p34 c35 b38) 121 (0,0)),OwnMap CI CD false b38 o0.boxes,BA AG o1] (fun I_ v l=>∃ r,v=.int .i64 r∧l=[pto b3 (.cells (AQ o0 p4 c5 p7 c8 p10 c11 p13 c14 p16 c17 p19 c20 p22 c23 p25 c26 p28 c29 p31 c32 p34 c35 b38) 121 (0,0)),OwnMap CI CD false b38 o0.boxes,BA AG o1]∧Q r):=by
 refine Fun.en func28 ntmps28 r fun w0 M=>?_
 refine .sr (.kn 1 [1,0] r (.seq (.sk 2 r ?_)))
 have g:=FO (I:=I) (o0:=o0) (o1:=o1) (a0:=a0) (b3:=b3) (p4:=p4) (c5:=c5) (p7:=p7) (c8:=c8) (p10:=p10) (c11:=c11) (p13:=p13) (c14:=c14) (p16:=p16) (c17:=c17) (p19:=p19) (c20:=c20) (p22:=p22) (c23:=c23) (p25:=p25) (c26:=c26) (p28:=p28) (c29:=c29) (p31:=p31) (c32:=c32) (p34:=p34) (c35:=c35) (b38:=b38) R6 R9 R12 R15 R18 R21 R24 R27 R30 R33 R36 hd
 refine .callS (.f call96 r) (.o [0,0,0] r) g r r fun R S T a h=>?_
 obtain ⟨U,rfl,rfl,hd⟩:=h
 obtain ⟨R6,R9,R12,R15,R18,R21⟩:=a.u6 R6 R9 R12 R15 R18 R21
 obtain ⟨R24,R27,R30,R33,R36⟩:=a.u5 R24 R27 R30 R33 R36
 refine .rn 3 r (.kn 1 [8,1,0] r (.condP r hd (fun i hd=>?_) fun i hd=>?_))
 · exact .sr (.kn 1 [4,0] r (.q1 results28 a [0,0,0] r ⟨0,r,r,hd⟩))
 refine .sn [1,0] r (.sk 3 r (.lo isAgg119 .z r (.ks 1 r ?_)))
 obtain ⟨d,V,b,hd⟩:=hd
 obtain ⟨W,o59,P,q,k,m⟩:=R36.2 _ _ b
 cases m
 refine .ixa QI sizeOf122 r q r d (AH b d) r r (.ld1 (j:=0) JW k r r r r r ?_)
 obtain ⟨s,e,n,c,hd⟩:=hd
 refine .bankO .p2 c fun ⟨t,u,w,x,y,C,D,E,F,G,H⟩ ⟨J,K,L,N,O⟩=>?_
 exact .rn 5 r (.sub (E':=[(0,_),(1,_),(9,_),(10,_),(11,_),(12,_),(13,_),(14,_),(15,.pointer (some ⟨s,0,none⟩))]) ⟨r,r,r,r,r,r,r,r,(by rw [n]; rfl),trivial⟩ (.ks 2 r (.lo BL .z r (.ks 1 r (.bankB (B:=AG) (t,u,w,x,y,C,D,E,F,G,H) e ⟨J,K,L,N,O⟩ c (.o [0,0,0] r) (.no [4,0] r (.q1 results28 a [1,1,0] r ⟨e.at_,r,r,hd⟩)))))))
theorem oL {Q:Bool→Prop} (hd:VZ Q) :
  BZ prog 27 [] I (fun _=>gE Q):=by
 refine Fun.en func27 ntmps27 r fun w0 M=>?_
 refine .bank0 AG (.bank0 AP (.sk 1 r (.ns [] r (.build LC bQ bP (.c r r r (.o r) (.c r r r (.o r) (.c r r r (.o r) .n))) (by exact ⟨⟨_,_,r,r,r⟩,⟨⟨_,_,r,r,r⟩,⟨⟨_,_,r,r,r⟩,trivial⟩⟩⟩) r r (.build LC bQ bP (.c r r r (.o r) (.c r r r (.o r) (.c r r r (.o r) .n))) (by exact ⟨⟨_,_,r,r,r⟩,⟨⟨_,_,r,r,r⟩,⟨⟨_,_,r,r,r⟩,trivial⟩⟩⟩) r r (.buildSlice 2 ER ES LC r r (.c r r r (.c r r r .n)) r r fun W3=>?_))))))
 refine .pubB (El:=AW) (ys:=([({ Row:=0,Col:=1,Val:=3 }:AC),({ Row:=1,Col:=0,Val:=5 }:AC)]:List AC)) (k:=2) .z (RepCs.cons (cs:=[.int .i64 0,.int .i64 1,.int .i64 3]) r (RepCs.cons (cs:=[.int .i64 1,.int .i64 0,.int .i64 5]) r .nil)) r fun E0 x1 m4=>?_
 have x2:=aN (I:=E0) m4 hd
 refine .call call60 r x2 r r fun W4 E1 x3 x4=>?_
 obtain ⟨J,W5,W6,W7,W8,W9,X0,rfl,d,e,g,hd⟩:=x4
 obtain ⟨x5,m4⟩:=x3.u2 x1 m4
 refine .ks 3 r (.al DH r fun X1=>?_)
 refine .sa AU .z r (.kn 1 [1] r (.seq (.dr [0,1,4,2,3,999] 5 (.h r (fun _=>.lw BQ AU .z r .mk) (.h r (fun _=>.lw BQ AU .z r .mk) (.a (fun b=>.pointer (some ⟨b,0,none⟩)) (fun b=>pto b (.cells #[.int .i64 0,.int .i64 0,.int .i64 0,.slice none 0 0,.slice none 0 0,.slice none 0 0,.int .i64 0,.int .i64 0,.slice none 0 0,.slice none 0 0,.slice none 0 0,.int .i64 0,.int .i64 0,.slice none 0 0,.slice none 0 0,.slice none 0 0,.int .i64 0,.int .i64 0,.int .i64 0] 40 (0,0))) r r r r (fun _ L hL ex=>.al pO r fun b=>.mk (val:=fun b=>.pointer (some ⟨b,0,none⟩)) (atom:=fun b=>pto b (.cells #[.int .i64 0,.int .i64 0,.int .i64 0,.slice none 0 0,.slice none 0 0,.slice none 0 0,.int .i64 0,.int .i64 0,.slice none 0 0,.slice none 0 0,.slice none 0 0,.int .i64 0,.int .i64 0,.slice none 0 0,.slice none 0 0,.slice none 0 0,.int .i64 0,.int .i64 0,.int .i64 0] 40 (0,0))) hL b) (.ww r fun ex=>?_)))))))
 have x6:=oK (I:=E1) hd
 refine .call call95 r x6 r r fun X2 E2 x7 x8=>?_
 obtain ⟨W,X3,X4,X5,X6,X7,X8,rfl,i,m,p,hd⟩:=x8
 obtain ⟨m5,d,e,g⟩:=x7.u4 x5 d e g
 refine .so 3 r r r (.ch r (fun _=>.lw BQ AU .z r .mk) (.ch r (fun _=>.lw BQ AU .z r .mk) trivial)) (.h r (fun _=>.build pO AbO AbM (.c r r r (.o r) (.c r r r (.o r) (.c r r r (.o r) (.c r r r (.o r) (.c r r r (.o r) (.c r r r (.o r) (.c r r r (.o r) .n))))))) (by exact ⟨⟨_,_,r,r,r⟩,⟨⟨_,_,r,r,r⟩,⟨⟨_,_,r,r,r⟩,⟨⟨_,_,r,r,r⟩,⟨⟨_,_,r,r,r⟩,⟨⟨_,_,r,r,r⟩,⟨⟨_,_,r,r,r⟩,trivial⟩⟩⟩⟩⟩⟩⟩) r r .mk) (.b r fun X9=>DrawD.nop (.e2 5 (.sa SN .p3 r (.no [3] r (.drop .z (.sr (.lw WB SN .p2 r ?_))))))))
 have r0:=JB (I:=E2) (o0:=([]:List (Nat×AA))) (o1:=([]:List (Nat×AF))) (a0:=({ Ring:=5,A:=J.1,B:=J.1,Mask:=W,R:=2,C:=1,Room:=1 }:BD)) d e g d e g i m p hd
 refine .callS (.f call22 r) (.o [1,0] r) r0 r r fun I0 m6 I1 b0 X=>?_
 rcases X with X | X
 · obtain ⟨i7,rfl,rfl,hd⟩:=X
   obtain ⟨r2,d,e,g,i,m⟩:=b0.u6 m5 d e g i m
   have p:=b0.u1 p
   refine .rn 3 r (.ks 5 r (.nk [5,4,3] 1 r (.build sS AdB Ad9 (.c r r r (.o r) .n) (by exact ⟨⟨_,_,r,r,r⟩,trivial⟩) r r ?_)))
   have r3:=NT (I:=m6) (o0:=i7.2) (o1:=([]:List (Nat×AF))) (a0:=({ Kind:=1,A:=0,B:=0,K:=0 }:FU)) hd
   refine .callS (.f call25 r) (.o [0,0] r) r3 r r fun I2 x9 I3 l0 r4=>?_
   obtain ⟨I4,rfl,rfl,hd⟩:=r4
   obtain ⟨r5,d,e,g,i,m⟩:=l0.u6 r2 d e g i m
   have p:=l0.u1 p
   refine .rn 3 r (.ks 1 r (.nk [6,5,4,3] 1 r ?_))
   have r6:=VO (I:=x9) (o0:=i7.2) (o1:=([]:List (Nat×AF))) (a0:=0) (a1:=0) hd
   refine .callS (.f call30 r) (.o [0,0] r) r6 r r fun I5 m7 I6 l1 r7=>?_
   obtain ⟨I7,rfl,rfl,hd⟩:=r7
   obtain ⟨r8,d,e,g,i,m⟩:=l1.u6 r5 d e g i m
   have p:=l1.u1 p
   refine .rn 3 r (.kn 1 [7,6,5,4,3] r (.seq (.dr [0,1,8,2,3,4,5,6,7,999,9,10] 11 (.h r (fun _=>.lw WB SN .p2 r .mk) (.h r (fun _=>.lw WB SN .p2 r .mk) (.a (fun b=>.pointer (some ⟨b,0,none⟩)) (fun b=>pto b (.cells #[.int .i64 0,.int .i64 0,.slice none 0 0,.slice none 0 0,.slice none 0 0] 33 (0,0))) r r r r (fun _ L hL ex=>.al DH r fun b=>.mk (val:=fun b=>.pointer (some ⟨b,0,none⟩)) (atom:=fun b=>pto b (.cells #[.int .i64 0,.int .i64 0,.slice none 0 0,.slice none 0 0,.slice none 0 0] 33 (0,0))) hL b) (.ww r fun ex=>?_)))))))
   have r9:=PJ (I:=m7) (a0:=({ Ring:=5,A:=J.1,B:=J.1,Mask:=W,R:=2,C:=1,Room:=1 }:BD)) d e g d e g i m p hd
   refine .cq call35 r9 r fun I8 hd=>?_
   refine .so 3 r r r (.ch r (fun _=>.lw WB SN .p2 r .mk) trivial) (.ww r fun ex=>?_)
   have s0:=fI (I:=m7) (a0:=({ Ring:=5,A:=J.1,B:=J.1,Mask:=W,R:=2,C:=1,Room:=1 }:BD)) d e g d e g i m p (.nil _ none 0) hd
   refine .call call17 r s0 r r fun I9 m8 l2 s1=>?_
   obtain ⟨J0,J1,J2,J3,J4,J5,J6,rfl,y0,y1,y2,hd⟩:=s1
   obtain ⟨g1,d,e,g,i,m⟩:=l2.u6 r8 d e g i m
   have p:=l2.u1 p
   refine .so 3 r r r trivial (.fk 4 r (.b r fun J7=>DrawD.nop (.ww r fun ex=>?_)))
   refine .sa AU .p3 r (.sn 4 r r r (.ck 2 r r trivial) (.fk 1 r (.e2 11 (.ks 1 r (.ns [10,9,8,7,6,5,4,3] r (.lw BQ AU .p3 r ?_))))))
   have s2:=YA (I:=m8) y0 y1 y2 hd
   refine .cq call20 s2 r fun J8 hd=>?_
   refine .kn 5 [12,11,10,9,7,6,5,4,3] r (.drop .p3 (.seq (.jn hd [12,11,10,9,7,6,5,4,3] [2,1] r (fun j E l (m9,a8)=>j ((14,.int .i64 m9) :: E) (BA AG a8 :: l)) (fun J9 hd=>?_) ?_)))
   · skip
     refine .region (.build pO AbO AbM .n (by exact trivial) r r ?_)
     have s3:=JB (I:=m8) (o0:=i7.2) (o1:=([]:List (Nat×AF))) (a0:=({ Ring:=0,A:=({ Rows:=0,Cols:=0,Start:=([]:List Int),Col:=([]:List Int),Val:=([]:List Int) }:Rows),B:=({ Rows:=0,Cols:=0,Start:=([]:List Int),Col:=([]:List Int),Val:=([]:List Int) }:Rows),Mask:=({ Rows:=0,Cols:=0,Start:=([]:List Int),Col:=([]:List Int),Val:=([]:List Int) }:Rows),R:=0,C:=0,Room:=0 }:BD)) (.nil _ none 0) (.nil _ none 0) (.nil _ none 0) (.nil _ none 0) (.nil _ none 0) (.nil _ none 0) (.nil _ none 0) (.nil _ none 0) (.nil _ none 0) hd
     refine .callS (.f call22 r) (.o [0,0] r) s3 r r fun K0 K1 K2 S Y=>?_
     rcases Y with Y | Y
     · obtain ⟨n0,rfl,rfl,hd⟩:=Y
       obtain ⟨E4,d,e,g,i,m⟩:=S.u6 g1 d e g i m
       have p:=S.u1 p
       exact .rn 3 r (.ks 5 r (.nil' (je (n0.1,n0.2) hd S [0,1,0] r)))
     obtain ⟨n1,K3,K4,K5,K6,K7,K8,K9,L0,L1,L2,L3,L4,L5,L6,L7,L8,L9,M0,M1,M2,M3,M4,M5,M6,rfl,M7,M8,M9,N0,N1,N2,N3,N4,N5,N6,N7,rfl,hd⟩:=Y
     obtain ⟨E5,d,e,g,i,m⟩:=S.u6 g1 d e g i m
     have p:=S.u1 p
     exact .rn 5 r (.ks 5 r (.nil' (je (n1.1,n1.2.1) hd S [0,3,0] r)))
   rintro ⟨m9,a8⟩ hd
   refine jq r fun y3 g2=>?_
   obtain ⟨s4,d,e,g,i,m⟩:=g2.u6 g1 d e g i m
   have p:=g2.u1 p
   refine .sk 1 r (.nk [15,14,12,11,10,9,7,6,5,4,3] 1 r ?_)
   have s5:=GI (I:=y3) (o0:=a8) hd
   refine .callS (.f call64 r) (.o [0] r) s5 r r fun N8 y4 N9 l3 s6=>?_
   obtain ⟨O0,O1,O2,O3,O4,O5,O6,rfl,O7,O8,O9,rfl,hd⟩:=s6
   obtain ⟨b1,s7,d,e,g,i⟩:=l3.u6 s4 g2 d e g i
   obtain ⟨m,p⟩:=l3.u2 m p
   refine .rn 3 r (.ks 3 r (.al DH r fun P0=>?_))
   refine .sa AU .z r (.kn 1 [17,14,12,11,10,9,7,6,5,4,3] r (.drop .z (.sk 3 r ?_)))
   refine AL hd (fun g3 hd=>?_) fun g3 hd=>?_
   · rw [g3]
     refine .ks 3 r ?_
     refine AL hd (fun g4 hd=>?_) fun g4 hd=>?_
     · rw [g4]
       refine .ks 4 r ?_
       refine AL hd (fun g5 hd=>?_) fun g5 hd=>?_
       · rw [g5]
         refine .ks 1 r ?_
         have s8:=SZ (I:=y4)  hd
         refine .yes r (.callS (.f call42 r) .n s8 r r fun P1 y5 P2 l4 s9=>?_)
         obtain ⟨P3,rfl,rfl,hd⟩:=s9
         obtain ⟨l5,t0,d,e,g,i⟩:=l4.u6 b1 s7 d e g i
         obtain ⟨m,p⟩:=l4.u2 m p
         refine .rn 3 r (.ks 3 r ?_)
         refine AL hd (fun g6 hd=>?_) fun g6 hd=>?_
         · rw [g6]
           refine .ks 1 r ?_
           have t1:=UI (I:=y5) (o0:=([]:List (Nat×AF))) hd
           refine .yes r (.callS (.f call43 r) (.o [2] r) t1 r r fun P4 y6 P5 l6 t2=>?_)
           obtain ⟨P6,rfl,rfl,hd⟩:=t2
           obtain ⟨l7,t3,d,e,g,i⟩:=l6.u6 l5 t0 d e g i
           obtain ⟨m,p⟩:=l6.u2 m p
           refine .rn 3 r (.ks 3 r ?_)
           refine AL hd (fun g7 hd=>?_) fun g7 hd=>?_
           · rw [g7]
             refine .ks 1 r ?_
             have t4:=GP (I:=y6) (o0:=a8) hd
             refine .yes r (.callS (.f call38 r) (.o [1] r) t4 r r fun P7 n2 P8 l8 t5=>?_)
             obtain ⟨P9,rfl,rfl,hd⟩:=t5
             obtain ⟨O,t6,d,e,g,i⟩:=l8.u6 l7 t3 d e g i
             obtain ⟨m,p⟩:=l8.u2 m p
             refine .rn 3 r (.ks 3 r ?_)
             refine AL hd (fun g8 hd=>?_) fun g8 hd=>?_
             · rw [g8]
               refine .ks 4 r ?_
               refine AL hd (fun g9 hd=>?_) fun g9 hd=>?_
               · rw [g9]
                 refine .ks 3 r ?_
                 refine AL hd (fun h0 hd=>?_) fun h0 hd=>?_
                 · rw [h0]
                   refine .ks 4 r ?_
                   refine AL hd (fun h1 hd=>?_) fun h1 hd=>?_
                   · rw [h1]
                     refine .ks 3 r ?_
                     refine AL hd (fun h2 hd=>?_) fun h2 hd=>?_
                     · rw [h2]
                       refine .ks 4 r ?_
                       refine AL hd (fun h3 hd=>?_) fun h3 hd=>?_
                       · rw [h3]
                         refine .ks 4 r ?_
                         refine AL hd (fun h4 hd=>?_) fun h4 hd=>?_
                         · rw [h4]
                           refine .yes r (.lw WB SN .p2 r ?_)
                           have t7:=PJ (I:=n2) (a0:=({ Ring:=5,A:=J.1,B:=J.1,Mask:=W,R:=2,C:=1,Room:=1 }:BD)) d e g d e g i m p hd
                           refine .yes r (.callP call35 r t7 r r fun Q0 t8=>?_)
                           obtain ⟨Q1,rfl,hd⟩:=t8
                           refine .ks 3 r ?_
                           refine AL hd (fun h5 hd=>?_) fun h5 hd=>?_
                           · rw [h5]
                             refine .ks 1 r ?_
                             have t9:=UJ (I:=n2) (o0:=a8) (a0:=0) hd
                             refine .yes r (.callS (.f call29 r) (.o [0] r) t9 r r fun Q2 y7 Q3 l9 u0=>?_)
                             obtain ⟨Q4,rfl,rfl,hd⟩:=u0
                             obtain ⟨m0,u3,d,e,g,i⟩:=l9.u6 O t6 d e g i
                             obtain ⟨m,p⟩:=l9.u2 m p
                             refine .rn 3 r (.ks 3 r ?_)
                             refine AL hd (fun h6 hd=>?_) fun h6 hd=>?_
                             · rw [h6]
                               refine .ks 1 r ?_
                               have u5:=TG (I:=y7) (o0:=a8) (a0:=0) hd
                               refine .yes r (.callS (.f call28 r) (.o [0] r) u5 r r fun Q5 y8 Q6 m1 u7=>?_)
                               obtain ⟨Q7,rfl,rfl,hd⟩:=u7
                               obtain ⟨m2,E6,d,e,g,i⟩:=m1.u6 m0 u3 d e g i
                               obtain ⟨m,p⟩:=m1.u2 m p
                               refine .rn 3 r (.ks 3 r ?_)
                               refine AL hd (fun h7 hd=>?_) fun h7 hd=>?_
                               · rw [h7]
                                 refine .yes r (.lw WB SN .p2 r ?_)
                                 have u8:=PH (I:=y8) (a0:=({ Ring:=5,A:=J.1,B:=J.1,Mask:=W,R:=2,C:=1,Room:=1 }:BD)) d e g d e g i m p hd
                                 refine .yes r (.callP call33 r u8 r r fun Q8 u9=>?_)
                                 obtain ⟨y9,rfl,hd⟩:=u9
                                 exact .kn 3 [0] r (.drop .p2 (.r1 results27 r m2 ⟨(y9==0),r,hd⟩))
                               rw [h7]
                               exact .kn 5 [0] r (.drop .p2 (.r1 results27 r m2 ⟨false,r,hd⟩))
                             rw [h6]
                             exact .kn 10 [0] r (.drop .p2 (.r1 results27 r m0 ⟨false,r,hd⟩))
                           rw [h5]
                           exact .kn 15 [0] r (.drop .p2 (.r1 results27 r O ⟨false,r,hd⟩))
                         rw [h4]
                         exact .kn 20 [0] r (.drop .p2 (.r1 results27 r O ⟨false,r,hd⟩))
                       rw [h3]
                       exact .kn 24 [0] r (.drop .p2 (.r1 results27 r O ⟨false,r,hd⟩))
                     rw [h2]
                     exact .kn 28 [0] r (.drop .p2 (.r1 results27 r O ⟨false,r,hd⟩))
                   rw [h1]
                   exact .kn 31 [0] r (.drop .p2 (.r1 results27 r O ⟨false,r,hd⟩))
                 rw [h0]
                 exact .kn 35 [0] r (.drop .p2 (.r1 results27 r O ⟨false,r,hd⟩))
               rw [g9]
               exact .kn 38 [0] r (.drop .p2 (.r1 results27 r O ⟨false,r,hd⟩))
             rw [g8]
             exact .kn 42 [0] r (.drop .p2 (.r1 results27 r O ⟨false,r,hd⟩))
           rw [g7]
           exact .kn 47 [0] r (.drop .p2 (.r1 results27 r l7 ⟨false,r,hd⟩))
         rw [g6]
         exact .kn 52 [0] r (.drop .p1 (.r1 results27 r l5 ⟨false,r,hd⟩))
       rw [g5]
       exact .kn 57 [0] r (.drop .p1 (.r1 results27 r b1 ⟨false,r,hd⟩))
     rw [g4]
     exact .kn 61 [0] r (.drop .p1 (.r1 results27 r b1 ⟨false,r,hd⟩))
   rw [g3]
   exact .kn 64 [0] r (.drop .p1 (.r1 results27 r b1 ⟨false,r,hd⟩))
 obtain ⟨n3,T,z0,z1,z2,z3,z4,z5,z6,z7,z8,z9,A0,A1,A2,A3,A4,A5,A6,A7,A8,A9,B0,B1,U,rfl,i8,i9,j0,j1,j2,j3,j4,j5,j6,j7,j8,rfl,hd⟩:=X
 obtain ⟨v0,d,e,g,i,m⟩:=b0.u6 m5 d e g i m
 have p:=b0.u1 p
 refine .rn 5 r (.ks 5 r (.nk [5,4,3] 1 r (.build sS AdB Ad9 (.c r r r (.o r) .n) (by exact ⟨⟨_,_,r,r,r⟩,trivial⟩) r r ?_)))
 have v1:=GB (I:=m6) (o0:=n3.2.2) (o1:=n3.2.1) (o2:=([]:List (Nat×AF))) (a0:=({ Kind:=1,A:=0,B:=0,K:=0 }:FU)) (b4:=T) (p5:=z0) (c6:=z1) (p8:=z2) (c9:=z3) (p11:=z4) (c12:=z5) (p14:=z6) (c15:=z7) (p17:=z8) (c18:=z9) (p20:=A0) (c21:=A1) (p23:=A2) (c24:=A3) (p26:=A4) (c27:=A5) (p29:=A6) (c30:=A7) (p32:=A8) (c33:=A9) (p35:=B0) (c36:=B1) (b39:=U) i8 i9 j0 j1 j2 j3 j4 j5 j6 j7 j8 hd
 refine .callS (.f call25 r) (.o [2,2,0,0] r) v1 r r fun Q9 B2 R0 h8 v2=>?_
 obtain ⟨h9,B3,B4,B5,B6,B7,B8,B9,C0,C1,C2,C3,C4,C5,C6,C7,C8,C9,D0,D1,D2,D3,D4,rfl,j9,k0,k1,k2,k3,k4,k5,k6,k7,k8,k9,rfl,hd⟩:=v2
 obtain ⟨v3,d,e,g,i,m⟩:=h8.u6 v0 d e g i m
 obtain ⟨p,i8,i9,j0,j1,j2⟩:=h8.u6 p i8 i9 j0 j1 j2
 obtain ⟨j3,j4,j5,j6,j7,j8⟩:=h8.u6 j3 j4 j5 j6 j7 j8
 refine .rn 5 r (.ks 1 r (.nk [6,5,4,3] 1 r ?_))
 have v4:=VP (I:=B2) (o0:=h9.2.1) (o1:=h9.2.2.1) (o2:=h9.2.2.2) (a0:=0) (a1:=0) (b4:=T) (p5:=B3) (c6:=B4) (p8:=B5) (c9:=B6) (p11:=B7) (c12:=B8) (p14:=B9) (c15:=C0) (p17:=C1) (c18:=C2) (p20:=C3) (c21:=C4) (p23:=C5) (c24:=C6) (p26:=C7) (c27:=C8) (p29:=C9) (c30:=D0) (p32:=D1) (c33:=D2) (p35:=D3) (c36:=D4) (b39:=U) j9 k0 k1 k2 k3 k4 k5 k6 k7 k8 k9 hd
 refine .callS (.f call30 r) (.o [0,0,0,0] r) v4 r r fun R1 n4 R2 i0 v5=>?_
 obtain ⟨V,b7,b8,b9,c0,c1,c2,c3,d0,d1,d2,d3,d4,d5,d6,d7,d8,d9,e0,e1,e3,e4,e5,rfl,q,s,t,u,v,w,x,y,D,F,G,rfl,hd⟩:=v5
 obtain ⟨v6,d,e,g,i,m⟩:=i0.u6 v3 d e g i m
 obtain ⟨p,j9,k0,k1,k2,k3⟩:=i0.u6 p j9 k0 k1 k2 k3
 obtain ⟨k4,k5,k6,k7,k8,k9⟩:=i0.u6 k4 k5 k6 k7 k8 k9
 refine .rn 5 r (.kn 1 [7,6,5,4,3] r (.seq (.dr [0,1,8,2,3,4,5,6,7,999,9,10] 11 (.h r (fun _=>.lw WB SN .p4 r .mk) (.h r (fun _=>.lw WB SN .p4 r .mk) (.a (fun b=>.pointer (some ⟨b,0,none⟩)) (fun b=>pto b (.cells #[.int .i64 0,.int .i64 0,.slice none 0 0,.slice none 0 0,.slice none 0 0] 33 (0,0))) r r r r (fun _ L hL ex=>.al DH r fun b=>.mk (val:=fun b=>.pointer (some ⟨b,0,none⟩)) (atom:=fun b=>pto b (.cells #[.int .i64 0,.int .i64 0,.slice none 0 0,.slice none 0 0,.slice none 0 0] 33 (0,0))) hL b) (.ww r fun ex=>?_)))))))
 have v7:=PJ (I:=n4) (a0:=({ Ring:=5,A:=J.1,B:=J.1,Mask:=W,R:=2,C:=1,Room:=1 }:BD)) d e g d e g i m p hd
 refine .cq call35 v7 r fun R3 hd=>?_
 refine .so 5 r r r (.ch r (fun _=>.lw WB SN .p4 r .mk) trivial) (.ww r fun ex=>?_)
 have v8:=fI (I:=n4) (a0:=({ Ring:=5,A:=J.1,B:=J.1,Mask:=W,R:=2,C:=1,Room:=1 }:BD)) d e g d e g i m p (.nil _ none 0) hd
 refine .call call17 r v8 r r fun R4 n5 i1 v9=>?_
 obtain ⟨R5,R6,R7,R8,R9,S0,S1,rfl,D5,D6,D7,hd⟩:=v9
 obtain ⟨i2,d,e,g,i,m⟩:=i1.u6 v6 d e g i m
 obtain ⟨p,q,s,t,u,v⟩:=i1.u6 p q s t u v
 obtain ⟨w,x,y,D,F,G⟩:=i1.u6 w x y D F G
 refine .so 5 r r r trivial (.fk 4 r (.b r fun S2=>DrawD.nop (.ww r fun ex=>?_)))
 refine .sa AU .p5 r (.sn 6 r r r (.ck 2 r r trivial) (.fk 1 r (.e2 11 (.ks 1 r (.ns [10,9,8,7,6,5,4,3] r (.lw BQ AU .p5 r ?_))))))
 have w1:=YA (I:=n5) D5 D6 D7 hd
 refine .cq call20 w1 r fun S3 hd=>?_
 refine .kn 5 [12,11,10,9,7,6,5,4,3] r (.drop .p5 (.seq (.jn hd [12,11,10,9,7,6,5,4,3] [4,0,0,1] r (fun j E l (n6,a9)=>j ((14,.int .i64 n6) :: E) (BA AG a9 :: l)) (fun S4 hd=>?_) ?_)))
 · skip
   refine .region (.build pO AbO AbM .n (by exact trivial) r r ?_)
   have w2:=JB (I:=n5) (o0:=h9.2.2.1) (o1:=V.2.2) (a0:=({ Ring:=0,A:=({ Rows:=0,Cols:=0,Start:=([]:List Int),Col:=([]:List Int),Val:=([]:List Int) }:Rows),B:=({ Rows:=0,Cols:=0,Start:=([]:List Int),Col:=([]:List Int),Val:=([]:List Int) }:Rows),Mask:=({ Rows:=0,Cols:=0,Start:=([]:List Int),Col:=([]:List Int),Val:=([]:List Int) }:Rows),R:=0,C:=0,Room:=0 }:BD)) (.nil _ none 0) (.nil _ none 0) (.nil _ none 0) (.nil _ none 0) (.nil _ none 0) (.nil _ none 0) (.nil _ none 0) (.nil _ none 0) (.nil _ none 0) hd
   refine .callS (.f call22 r) (.o [2,2] r) w2 r r fun S5 S6 S7 P Z=>?_
   rcases Z with Z | Z
   · obtain ⟨n7,rfl,rfl,hd⟩:=Z
     obtain ⟨E7,d,e,g,i,m⟩:=P.u6 i2 d e g i m
     obtain ⟨p,q,s,t,u,v⟩:=P.u6 p q s t u v
     obtain ⟨w,x,y,D,F,G⟩:=P.u6 w x y D F G
     exact .rn 5 r (.ks 5 r (.nil' (je (n7.1,n7.2) hd P [0,3,1,1,0] r)))
   obtain ⟨n8,S8,S9,T0,T1,T2,T3,T4,T5,T6,T7,T8,T9,U0,U1,U2,U3,U4,U5,U6,U7,U8,U9,V0,V1,rfl,V2,V3,V4,V5,V6,V7,V8,V9,W0,W1,W2,rfl,hd⟩:=Z
   obtain ⟨E8,d,e,g,i,m⟩:=P.u6 i2 d e g i m
   obtain ⟨p,q,s,t,u,v⟩:=P.u6 p q s t u v
   obtain ⟨w,x,y,D,F,G⟩:=P.u6 w x y D F G
   exact .rn 7 r (.ks 5 r (.nil' (je (n8.1,n8.2.1) hd P [0,5,3,3,0] r)))
 rintro ⟨n6,a9⟩ hd
 refine jq r fun D8 b5=>?_
 obtain ⟨w3,d,e,g,i,m⟩:=b5.u6 i2 d e g i m
 obtain ⟨p,q,s,t,u,v⟩:=b5.u6 p q s t u v
 obtain ⟨w,x,y,D,F,G⟩:=b5.u6 w x y D F G
 refine .sk 1 r (.nk [15,14,12,11,10,9,7,6,5,4,3] 1 r ?_)
 have w4:=GI (I:=D8) (o0:=a9) hd
 refine .callS (.f call64 r) (.o [0] r) w4 r r fun E9 D9 F0 b6 w5=>?_
 obtain ⟨F1,F2,F3,F4,F5,F6,F7,rfl,F8,F9,G0,rfl,hd⟩:=w5
 obtain ⟨a2,n9,d,e,g,i⟩:=b6.u6 w3 b5 d e g i
 obtain ⟨m,p,q,s,t,u⟩:=b6.u6 m p q s t u
 obtain ⟨v,w,x,y,D,F⟩:=b6.u6 v w x y D F
 have G:=b6.u1 G
 refine .rn 5 r (.ks 3 r (.al DH r fun G1=>?_))
 refine .sa AU .z r (.kn 1 [17,14,12,11,10,9,7,6,5,4,3] r (.drop .z (.sk 3 r ?_)))
 refine AL hd (fun e6 hd=>?_) fun e6 hd=>?_
 · rw [e6]
   refine .ks 3 r ?_
   refine AL hd (fun e7 hd=>?_) fun e7 hd=>?_
   · rw [e7]
     refine .ks 4 r ?_
     refine AL hd (fun e8 hd=>?_) fun e8 hd=>?_
     · rw [e8]
       refine .ks 1 r ?_
       have o3:=TA (I:=D9) (o0:=V.2.1) (b2:=T) (p3:=b7) (c4:=b8) (p6:=b9) (c7:=c0) (p9:=c1) (c10:=c2) (p12:=c3) (c13:=d0) (p15:=d1) (c16:=d2) (p18:=d3) (c19:=d4) (p21:=d5) (c22:=d6) (p24:=d7) (c25:=d8) (p27:=d9) (c28:=e0) (p30:=e1) (c31:=e3) (p33:=e4) (c34:=e5) (b37:=U) q s t u v w x y D F G hd
       refine .yes r (.callS (.f call42 r) (.o [2,2] r) o3 r r fun G2 w6 G3 a3 o4=>?_)
       obtain ⟨G4,rfl,rfl,hd⟩:=o4
       obtain ⟨i3,o5,d,e,g,i⟩:=a3.u6 a2 n9 d e g i
       obtain ⟨m,p,q,s,t,u⟩:=a3.u6 m p q s t u
       obtain ⟨v,w,x,y,D,F⟩:=a3.u6 v w x y D F
       have G:=a3.u1 G
       refine .rn 5 r (.ks 3 r ?_)
       refine AL hd (fun e9 hd=>?_) fun e9 hd=>?_
       · rw [e9]
         refine .ks 1 r ?_
         have o6:=UK (I:=w6) (o0:=V.2.1) (o1:=V.2.2) (b3:=T) (p4:=b7) (c5:=b8) (p7:=b9) (c8:=c0) (p10:=c1) (c11:=c2) (p13:=c3) (c14:=d0) (p16:=d1) (c17:=d2) (p19:=d3) (c20:=d4) (p22:=d5) (c23:=d6) (p25:=d7) (c26:=d8) (p28:=d9) (c29:=e0) (p31:=e1) (c32:=e3) (p34:=e4) (c35:=e5) (b38:=U) q s t u v w x y D F G hd
         refine .yes r (.callS (.f call43 r) (.o [0,0,2] r) o6 r r fun G5 w7 G6 a4 o7=>?_)
         obtain ⟨G7,rfl,rfl,hd⟩:=o7
         obtain ⟨i4,o8,d,e,g,i⟩:=a4.u6 i3 o5 d e g i
         obtain ⟨m,p,q,s,t,u⟩:=a4.u6 m p q s t u
         obtain ⟨v,w,x,y,D,F⟩:=a4.u6 v w x y D F
         have G:=a4.u1 G
         refine .rn 5 r (.ks 3 r ?_)
         refine AL hd (fun f0 hd=>?_) fun f0 hd=>?_
         · rw [f0]
           refine .ks 1 r ?_
           have o9:=DT (I:=w7) (o0:=V.2.1) (o1:=a9) (b3:=T) (p4:=b7) (c5:=b8) (p7:=b9) (c8:=c0) (p10:=c1) (c11:=c2) (p13:=c3) (c14:=d0) (p16:=d1) (c17:=d2) (p19:=d3) (c20:=d4) (p22:=d5) (c23:=d6) (p25:=d7) (c26:=d8) (p28:=d9) (c29:=e0) (p31:=e1) (c32:=e3) (p34:=e4) (c35:=e5) (b38:=U) q s t u v w x y D F G hd
           refine .yes r (.callS (.f call38 r) (.o [0,0,1] r) o9 r r fun G8 m3 G9 a5 p0=>?_)
           obtain ⟨H0,rfl,rfl,hd⟩:=p0
           obtain ⟨H,q0,d,e,g,i⟩:=a5.u6 i4 o8 d e g i
           obtain ⟨m,p,q,s,t,u⟩:=a5.u6 m p q s t u
           obtain ⟨v,w,x,y,D,F⟩:=a5.u6 v w x y D F
           have G:=a5.u1 G
           refine .rn 5 r (.ks 3 r ?_)
           refine AL hd (fun f1 hd=>?_) fun f1 hd=>?_
           · rw [f1]
             refine .ks 4 r ?_
             refine AL hd (fun f2 hd=>?_) fun f2 hd=>?_
             · rw [f2]
               refine .ks 3 r ?_
               refine AL hd (fun f3 hd=>?_) fun f3 hd=>?_
               · rw [f3]
                 refine .ks 4 r ?_
                 refine AL hd (fun f4 hd=>?_) fun f4 hd=>?_
                 · rw [f4]
                   refine .ks 3 r ?_
                   refine AL hd (fun f5 hd=>?_) fun f5 hd=>?_
                   · rw [f5]
                     refine .ks 4 r ?_
                     refine AL hd (fun f6 hd=>?_) fun f6 hd=>?_
                     · rw [f6]
                       refine .ks 4 r ?_
                       refine AL hd (fun f7 hd=>?_) fun f7 hd=>?_
                       · rw [f7]
                         refine .yes r (.lw WB SN .p4 r ?_)
                         have q1:=PJ (I:=m3) (a0:=({ Ring:=5,A:=J.1,B:=J.1,Mask:=W,R:=2,C:=1,Room:=1 }:BD)) d e g d e g i m p hd
                         refine .yes r (.callP call35 r q1 r r fun H1 q2=>?_)
                         obtain ⟨H2,rfl,hd⟩:=q2
                         refine .ks 3 r ?_
                         refine AL hd (fun f8 hd=>?_) fun f8 hd=>?_
                         · rw [f8]
                           refine .ks 1 r ?_
                           have q3:=LR (I:=m3) (o0:=V.2.1) (o1:=a9) (a0:=0) (b3:=T) (p4:=b7) (c5:=b8) (p7:=b9) (c8:=c0) (p10:=c1) (c11:=c2) (p13:=c3) (c14:=d0) (p16:=d1) (c17:=d2) (p19:=d3) (c20:=d4) (p22:=d5) (c23:=d6) (p25:=d7) (c26:=d8) (p28:=d9) (c29:=e0) (p31:=e1) (c32:=e3) (p34:=e4) (c35:=e5) (b38:=U) q s t u v w x y D F G hd
                           refine .yes r (.callS (.f call29 r) (.o [0,0,0] r) q3 r r fun H3 w8 H4 a6 q4=>?_)
                           obtain ⟨H5,rfl,rfl,hd⟩:=q4
                           obtain ⟨i5,q5,d,e,g,i⟩:=a6.u6 H q0 d e g i
                           obtain ⟨m,p,q,s,t,u⟩:=a6.u6 m p q s t u
                           obtain ⟨v,w,x,y,D,F⟩:=a6.u6 v w x y D F
                           have G:=a6.u1 G
                           refine .rn 5 r (.ks 3 r ?_)
                           refine AL hd (fun f9 hd=>?_) fun f9 hd=>?_
                           · rw [f9]
                             refine .ks 1 r ?_
                             have q6:=TH (I:=w8) (o0:=V.2.1) (o1:=a9) (a0:=0) (b3:=T) (p4:=b7) (c5:=b8) (p7:=b9) (c8:=c0) (p10:=c1) (c11:=c2) (p13:=c3) (c14:=d0) (p16:=d1) (c17:=d2) (p19:=d3) (c20:=d4) (p22:=d5) (c23:=d6) (p25:=d7) (c26:=d8) (p28:=d9) (c29:=e0) (p31:=e1) (c32:=e3) (p34:=e4) (c35:=e5) (b38:=U) q s t u v w x y D F G hd
                             refine .yes r (.callS (.f call28 r) (.o [0,0,0] r) q6 r r fun H6 w9 H7 a7 q7=>?_)
                             obtain ⟨H8,rfl,rfl,hd⟩:=q7
                             obtain ⟨i6,E3,d,e,g,i⟩:=a7.u6 i5 q5 d e g i
                             obtain ⟨m,p,q,s,t,u⟩:=a7.u6 m p q s t u
                             obtain ⟨v,w,x,y,D,F⟩:=a7.u6 v w x y D F
                             have G:=a7.u1 G
                             refine .rn 5 r (.ks 3 r ?_)
                             refine AL hd (fun g0 hd=>?_) fun g0 hd=>?_
                             · rw [g0]
                               refine .yes r (.lw WB SN .p4 r ?_)
                               have q8:=PH (I:=w9) (a0:=({ Ring:=5,A:=J.1,B:=J.1,Mask:=W,R:=2,C:=1,Room:=1 }:BD)) d e g d e g i m p hd
                               refine .yes r (.callP call33 r q8 r r fun H9 q9=>?_)
                               obtain ⟨x0,rfl,hd⟩:=q9
                               exact .kn 3 [0] r (.drop .z (.drop .z (.drop .p2 (.r1 results27 r i6 ⟨(x0==0),r,hd⟩))))
                             rw [g0]
                             exact .kn 5 [0] r (.drop .z (.drop .z (.drop .p2 (.r1 results27 r i6 ⟨false,r,hd⟩))))
                           rw [f9]
                           exact .kn 10 [0] r (.drop .z (.drop .z (.drop .p2 (.r1 results27 r i5 ⟨false,r,hd⟩))))
                         rw [f8]
                         exact .kn 15 [0] r (.drop .z (.drop .z (.drop .p2 (.r1 results27 r H ⟨false,r,hd⟩))))
                       rw [f7]
                       exact .kn 20 [0] r (.drop .z (.drop .z (.drop .p2 (.r1 results27 r H ⟨false,r,hd⟩))))
                     rw [f6]
                     exact .kn 24 [0] r (.drop .z (.drop .z (.drop .p2 (.r1 results27 r H ⟨false,r,hd⟩))))
                   rw [f5]
                   exact .kn 28 [0] r (.drop .z (.drop .z (.drop .p2 (.r1 results27 r H ⟨false,r,hd⟩))))
                 rw [f4]
                 exact .kn 31 [0] r (.drop .z (.drop .z (.drop .p2 (.r1 results27 r H ⟨false,r,hd⟩))))
               rw [f3]
               exact .kn 35 [0] r (.drop .z (.drop .z (.drop .p2 (.r1 results27 r H ⟨false,r,hd⟩))))
             rw [f2]
             exact .kn 38 [0] r (.drop .z (.drop .z (.drop .p2 (.r1 results27 r H ⟨false,r,hd⟩))))
           rw [f1]
           exact .kn 42 [0] r (.drop .z (.drop .z (.drop .p2 (.r1 results27 r H ⟨false,r,hd⟩))))
         rw [f0]
         exact .kn 47 [0] r (.drop .z (.drop .z (.drop .p2 (.r1 results27 r i4 ⟨false,r,hd⟩))))
       rw [e9]
       exact .kn 52 [0] r (.drop .z (.drop .z (.drop .p1 (.r1 results27 r i3 ⟨false,r,hd⟩))))
     rw [e8]
     exact .kn 57 [0] r (.drop .p1 (.drop .p1 (.drop .p1 (.r1 results27 r a2 ⟨false,r,hd⟩))))
   rw [e7]
   exact .kn 61 [0] r (.drop .p1 (.drop .p1 (.drop .p1 (.r1 results27 r a2 ⟨false,r,hd⟩))))
 rw [e6]
 exact .kn 64 [0] r (.drop .p1 (.drop .p1 (.drop .p1 (.r1 results27 r a2 ⟨false,r,hd⟩))))
end Go.Proofs.YtbohadngdkjljaaGreat
