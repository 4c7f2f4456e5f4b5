/- The walks (printed by a program of ours). -/
import Derived.Test.YtbohadngdkjljaaGreatV2
namespace Go.Proofs.YtbohadngdkjljaaGreat
open Go Go.Fw
set_option linter.unusedVariables false
set_option linter.unusedSimpArgs false
set_option maxRecDepth 8000
set_option maxHeartbeats 1000000
open Tryz
variable {I:IH}
variable {b2 b3 b4 b5 b6 b7 b8 b9 c2 c3 c4 c5 c6 c7 c8 c9 lr b10 b11 b12 b13 b18 b19 b20 b21 b35 b36 b37 b38 b39 b40 b41 b42 b43 b54 b59 c10 c11 c12 c13 c14 c15 c16 c17 c18 c19 c20 c21 c22 c23 c24 c25 c26 c27 c28 c29 c30 c31 c32 c33 c34 c35 c36 c37 c38 c39 c41 c42 c43 c44 c45 c46 c47 c48 c49 c50 c51 c52 c54 c55 c57 c60 c63 c66 c69 c72 c75 c78:Nat}
variable {p1 p2 p3 p4 p5 p6 p7 p8 p9 p10 p11 p12 p13 p14 p15 p16 p17 p18 p19 p20 p21 p22 p23 p24 p25 p26 p27 p28 p29 p30 p31 p32 p33 p34 p35 p36 p37 p38 p40 p41 p42 p43 p44 p45 p46 p47 p48 p49 p50 p51 p53 p54 p56 p59 p62 p65 p68 p71 p74 p77:Option Addr}
variable {Rr:Nat→HA}
theorem UR {o0:AC} {o1:List (Nat×AA)} {Q:(Rows×Int)→Prop} (R6:RepSl AE I p4 c5 o0.p.A.Start) (R9:RepSl AE I p7 c8 o0.p.A.Col) (R12:RepSl AE I p10 c11 o0.p.A.Val) (R15:RepSl AE I p13 c14 o0.p.B.Start) (R18:RepSl AE I p16 c17 o0.p.B.Col) (R21:RepSl AE I p19 c20 o0.p.B.Val) (R24:RepSl AE I p22 c23 o0.p.Mask.Start) (R27:RepSl AE I p25 c26 o0.p.Mask.Col) (R30:RepSl AE I p28 c29 o0.p.Mask.Val) (R33:RepSl CB I p31 c32 o0.stages) (R36:RepSl CV I p34 c35 o0.workers) (hd:EH o0 o1 Q) :
  Fun prog 64 #[.pointer (some ⟨b3,0,none⟩)] I [pto b3 (.cells (AZ o0 p4 c5 p7 c8 p10 c11 p13 c14 p16 c17 p19 c20 p22 c23 p25 c26 p28 c29 p31 c32 p34 c35 b38) 121 (0,0)),OwnMap CU CV false b38 o0.boxes,BQ AG o1] (fun I_ v l=>∃ r p39 c40 p42 c43 p45 c46,v=.tuple #[.agg #[.int .i64 r.1.Rows,.int .i64 r.1.Cols,.slice p39 r.1.Start.length c40,.slice p42 r.1.Col.length c43,.slice p45 r.1.Val.length c46],.int .i64 r.2]∧RepSl AE I_ p39 c40 r.1.Start∧RepSl AE I_ p42 c43 r.1.Col∧RepSl AE I_ p45 c46 r.1.Val∧l=[pto b3 (.cells (AZ o0 p4 c5 p7 c8 p10 c11 p13 c14 p16 c17 p19 c20 p22 c23 p25 c26 p28 c29 p31 c32 p34 c35 b38) 121 (0,0)),OwnMap CU CV false b38 o0.boxes,BQ AG o1]∧Q r):=by
 refine Fun.en func64 ntmps64 r fun w0 M=>?_
 refine .sr (.al FO r fun x=>?_)
 refine .kn 1 [2,0] r (.seq (.sk 1 r (.eqNilP uI r r r r (.no [5,2,0] r (.condKF r r (.sn [2,0] r (.seq (.dr [0,1,2,3,4,5,6,7,8,9,10,11,12,13,14,15,16,17,18,19,20,21] 22 (.fk 4 r ?_)))))))))
 refine .h r (fun _=>.lo kU .p1 r .mk) (.fk 5 r (.h r (fun _=>.lo BF .p1 r .mk) (.fk 5 r (.h r (fun _=>.lo BF .p1 r .mk) (.fk 1 r (.ww r fun ex=>?_))))))
 have e:=UX (I:=I) (o0:=o0) (o1:=o1) (b3:=b3) (p4:=p4) (c5:=c5) (p7:=p7) (c8:=c8) (p10:=p10) (c11:=c11) (p13:=p13) (c14:=c14) (p16:=p16) (c17:=c17) (p19:=p19) (c20:=c20) (p22:=p22) (c23:=c23) (p25:=p25) (c26:=c26) (p28:=p28) (c29:=c29) (p31:=p31) (c32:=c32) (p34:=p34) (c35:=c35) (b38:=b38) R6 R9 R12 R15 R18 R21 R24 R27 R30 R33 R36 hd
 refine .callS (.f call40 r) (.o [1,1,1] r) e r r fun y m C a g=>?_
 obtain ⟨D,E,F,rfl,c,rfl,hd⟩:=g
 obtain ⟨R6,R9,R12,R15,R18,R21⟩:=a.u6 R6 R9 R12 R15 R18 R21
 obtain ⟨R24,R27,R30,R33,R36⟩:=a.u5 R24 R27 R30 R33 R36
 refine .rx 4 r (.so 4 r r r (.ch r (fun _=>.lo BF .z r .mk) (.ck 5 r r (.ch r (fun _=>.lo BF .z r .mk) (.ck 5 r r (.ch r (fun _=>.lo kU .z r .mk) (.ck 4 r r trivial)))))) (.ww r fun ex=>?_))
 have i:=xK (I:=m) c hd
 refine .call call131 r i r r fun G H b j=>?_
 obtain ⟨d,J,K,L,N,O,P,rfl,q,s,u,hd⟩:=j
 obtain ⟨k,R6,R9,R12,R15,R18⟩:=b.u6 a R6 R9 R12 R15 R18
 obtain ⟨R21,R24,R27,R30,R33,R36⟩:=b.u6 R21 R24 R27 R30 R33 R36
 have c:=b.u1 c
 exact .so 4 r r r trivial (.fk 2 r (.e2 22 (.sa BH .p3 r (.kn 1 [3,2,0] r (.ret (KG results64 (.w CF BH r .p3 r (.t r .n)) k (.o [0,0,0] r) ⟨(d.1,d.2),_,_,_,_,_,_,r,q,s,u,r,hd⟩))))))
theorem xN {a0:BI} {a1:List NP} {a2:Int} {Q:(Rows×Bool×Int)→Prop} (R3:RepSl AE I p1 c2 a0.A.Start) (R6:RepSl AE I p4 c5 a0.A.Col) (R9:RepSl AE I p7 c8 a0.A.Val) (R12:RepSl AE I p10 c11 a0.B.Start) (R15:RepSl AE I p13 c14 a0.B.Col) (R18:RepSl AE I p16 c17 a0.B.Val) (R21:RepSl AE I p19 c20 a0.Mask.Start) (R24:RepSl AE I p22 c23 a0.Mask.Col) (R27:RepSl AE I p25 c26 a0.Mask.Val) (R30:RepSl AdL I p28 c29 a1) (hd:SR a0 a1 a2 Q) :
  BR prog 17 [.agg #[.int .i64 a0.Ring,.int .i64 a0.A.Rows,.int .i64 a0.A.Cols,.slice p1 a0.A.Start.length c2,.slice p4 a0.A.Col.length c5,.slice p7 a0.A.Val.length c8,.int .i64 a0.B.Rows,.int .i64 a0.B.Cols,.slice p10 a0.B.Start.length c11,.slice p13 a0.B.Col.length c14,.slice p16 a0.B.Val.length c17,.int .i64 a0.Mask.Rows,.int .i64 a0.Mask.Cols,.slice p19 a0.Mask.Start.length c20,.slice p22 a0.Mask.Col.length c23,.slice p25 a0.Mask.Val.length c26,.int .i64 a0.R,.int .i64 a0.C,.int .i64 a0.Room],.slice p28 a1.length c29,.int .i64 a2] I (AkC Q):=by
 refine Fun.en func17 ntmps17 r fun w0 M=>?_
 refine .bank0 AG (.bank0 BD (.sr (.bx r fun V4=>?_)))
 refine .al FO r fun V5=>?_
 refine .ks 2 r (.ns [6,3,2,1] r (.lw WI KH .p1 r ?_))
 have y8:=iY (I:=I) (o0:=([]:List (Nat×AA))) (o1:=([]:List (Nat×AF))) (a0:=a0) R3 R6 R9 R12 R15 R18 R21 R24 R27 hd
 refine .callS (.f call22 r) (.o [3,2] r) y8 r r fun P4 v8 P5 d c4=>?_
 rcases c4 with c4 | c4
 · obtain ⟨i7,rfl,rfl,hd⟩:=c4
   obtain ⟨R3,R6,R9,R12,R15,R18⟩:=d.u6 R3 R6 R9 R12 R15 R18
   obtain ⟨R21,R24,R27,R30⟩:=d.u4 R21 R24 R27 R30
   refine .rn 4 r (.kn 5 [10,9,6,2,1] r (.drop .p3 (.seq (.sr (.kn 2 [21,10,9,6,2,1] r (.condP r hd (fun y9 hd=>?_) fun y9 hd=>?_))))))
   · exact .sr (.build FO OQ OP .n (by exact trivial) r r (.ks 1 r (.sa BH .p2 r (.kn 2 [8,7,6] r (.ret (BS results17 (.w CF BH r .p2 r (.t r (.t r .n))) d ⟨(({ Rows:=0,Cols:=0,Start:=([]:List Int),Col:=([]:List Int),Val:=([]:List Int) }:Rows),false,i7.1),_,_,_,_,_,_,r,(.nil _ _ _),(.nil _ _ _),(.nil _ _ _),hd⟩))))))
   refine .sn [9,6,2,1] r (.seq (.block (.sk 1 r (.ln uH r (.kn 2 [24,9,6,2,1] r (.condP r hd (fun z0 hd=>?_) fun z0 hd=>?_))))))
   · exact .sr (.build FO OQ OP .n (by exact trivial) r r (.sa BH .p2 r (.kn 2 [8,7,6] r (.ret (BS results17 (.w CF BH r .p2 r (.t r (.t r .n))) d ⟨(({ Rows:=0,Cols:=0,Start:=([]:List Int),Col:=([]:List Int),Val:=([]:List Int) }:Rows),false,5),_,_,_,_,_,_,r,(.nil _ _ _),(.nil _ _ _),(.nil _ _ _),hd⟩)))))
   refine .sk 1 r ?_
   have z1:=EV (I:=v8) (a0:=a1) R30 hd
   refine .callS (.f call61 r) .n z1 r r fun P6 P7 P8 z2 z3=>?_
   obtain ⟨P9,rfl,rfl,hd⟩:=z3
   obtain ⟨i8,R30⟩:=z2.u2 d R30
   refine .rn 3 r (.kn 1 [29,9,6,2,1] r (.condP r hd (fun z4 hd=>?_) fun z4 hd=>?_))
   · exact .sr (.build FO OQ OP .n (by exact trivial) r r (.sa BH .p2 r (.kn 2 [8,7,6] r (.ret (BS results17 (.w CF BH r .p2 r (.t r (.t r .n))) i8 ⟨(({ Rows:=0,Cols:=0,Start:=([]:List Int),Col:=([]:List Int),Val:=([]:List Int) }:Rows),false,8),_,_,_,_,_,_,r,(.nil _ _ _),(.nil _ _ _),(.nil _ _ _),hd⟩)))))
   refine .sk 3 r ?_
   refine AQ hd (fun q5 hd=>?_) fun q5 hd=>?_
   · rw [q5]
     exact .kn 4 [33,9,6,2,1] r (.condKT r r (.sr (.build FO OQ OP .n (by exact trivial) r r (.sa BH .p2 r (.kn 2 [8,7,6] r (.ret (BS results17 (.w CF BH r .p2 r (.t r (.t r .n))) i8 ⟨(({ Rows:=0,Cols:=0,Start:=([]:List Int),Col:=([]:List Int),Val:=([]:List Int) }:Rows),false,3),_,_,_,_,_,_,r,(.nil _ _ _),(.nil _ _ _),(.nil _ _ _),hd⟩)))))))
   rw [q5]
   refine .kn 4 [33,9,6,2,1] r (.condP r hd (fun z5 hd=>?_) fun z5 hd=>?_)
   · exact .sr (.build FO OQ OP .n (by exact trivial) r r (.sa BH .p2 r (.kn 2 [8,7,6] r (.ret (BS results17 (.w CF BH r .p2 r (.t r (.t r .n))) i8 ⟨(({ Rows:=0,Cols:=0,Start:=([]:List Int),Col:=([]:List Int),Val:=([]:List Int) }:Rows),false,3),_,_,_,_,_,_,r,(.nil _ _ _),(.nil _ _ _),(.nil _ _ _),hd⟩)))))
   refine .sn [9,6,2,1] r (.seq (.sk 1 r (.ln uH r (.kn 1 [43,42,41,9,6,2] r (.block (.lp hd [42,41,9,6,2] [2,0,0] r (fun j E l t2=>j ((43,.int .i64 t2) :: E) l) (ji rf [2,0,0] r) ?_))))))
   refine fun t2 H1 hd=>jq r fun G0 i9=>?_
   obtain ⟨q6,R30⟩:=i9.u2 i8 R30
   refine .sr (.kn 1 [44,43,42,41,9,6,2] r (.seq (.condP r hd (fun z6 hd=>?_) fun z6 hd=>?_)))
   · refine .sn [43,42,41,9,6,2] r (.seq (.block (.sr ?_)))
     obtain ⟨v9,G1,v3,hd⟩:=hd
     obtain ⟨Q0,o361,H9,G2,z7,z8⟩:=R30.2 _ _ v3
     cases z8
     refine .ixa uH iP r G2 r v9 (AH v3 v9) r r (.ldW yJ iP z7 r r r r (.al AjN r fun Q1=>?_))
     refine .sa iP .z r (.no [12,43,42,41,9,6,2] r (.region (.ks 1 r (.lw yJ iP .z r ?_))))
     have z9:=XH (I:=G0) (o0:=i7.2) (o1:=([]:List (Nat×AF))) (a0:=G1) hd
     refine .callS (.f call25 r) (.o [2,2] r) z9 r r fun Q2 Q3 Q4 A0 A1=>?_
     obtain ⟨Q5,rfl,rfl,hd⟩:=A1
     obtain ⟨I0,A2,R30⟩:=A0.u3 q6 i9 R30
     exact .rn 4 r (.no [43,42,41,9,6,2] r (.drop .p2 (.region (.ks 2 r (.nil' (je (AJ (t2+1)) hd A2 [2,0,0] r))))))
   refine .en [9,6,2] r (.seq (.jn hd [9,6] [0,0,0] r (fun j E l _=>j E l) (fun Q6 hd=>?_) ?_))
   · skip
     refine .sr (.kn 1 [13,9,6,2] r (.block (.lp hd [13,9,6,2] [0,0,0] r (fun j E l _=>j E l) (ji rf [0,0,0] r) ?_)))
     refine fun _ H2 hd=>jq r fun G3 q7=>?_
     obtain ⟨A3,A4⟩:=q7.u2 q6 i9
     refine .seq (.sk 4 r ?_)
     refine AQ hd (fun q8 hd=>?_) fun q8 hd=>?_
     · rw [q8]
       refine .ks 1 r ?_
       have A5:=LK (I:=G3) (o0:=i7.2) hd
       refine .yes r (.callS (.f call38 r) (.o [1] r) A5 r r fun Q7 G4 Q8 A6 A7=>?_)
       obtain ⟨Q9,rfl,rfl,hd⟩:=A7
       obtain ⟨I1,I2,A8⟩:=A6.u3 A3 A4 q7
       refine .rn 3 r (.kn 2 [58,13,9,6,2] r (.condP r hd (fun A9 hd=>?_) fun A9 hd=>?_))
       · refine .sn [13,9,6,2] r (.seq (.block (.region (.ks 1 r ?_))))
         have B0:=UM (I:=G4) (o0:=i7.2) (o1:=([]:List (Nat×AF))) hd
         refine .callS (.f call63 r) (.o [0,1] r) B0 r r fun R0 R1 R2 I3 B1=>?_
         exact B1.elim
       exact .exit (je () hd A8 [1,0,0] r)
     rw [q8]
     exact .kn 4 [58,13,9,6,2] r (.condKF r r (.exit (je () hd q7 [0,0,0] r)))
   refine fun _ hd=>jq r fun G5 v4=>?_
   obtain ⟨B2,B3⟩:=v4.u2 q6 i9
   refine .sk 1 r ?_
   have B4:=UN (I:=G5) (o0:=i7.2) hd
   refine .callS (.f call64 r) (.o [1] r) B4 r r fun R4 G6 R5 B5 B6=>?_
   obtain ⟨w1,R7,R8,S0,S1,S2,S3,rfl,t3,t4,t5,rfl,hd⟩:=B6
   obtain ⟨B7,B8,B9⟩:=B5.u3 B2 B3 v4
   refine .rn 3 r (.ks 3 r (.al FO r fun S4=>?_))
   refine .sa BH .z r (.kn 1 [10,14,9,6] r (.seq (.dr [0,1,3,2,4,5] 6 (.h r (fun _=>.lw CF BH .z r .mk) (.fk 2 r (.ww r fun ex=>?_))))))
   have C0:=LK (I:=G6) (o0:=i7.2) hd
   refine .callS (.f call38 r) (.o [1] r) C0 r r fun S5 S6 S7 C1 C2=>?_
   obtain ⟨G7,rfl,rfl,hd⟩:=C2
   obtain ⟨C3,I4,I5,t3,t4,t5⟩:=C1.u6 B7 B8 B9 t3 t4 t5
   refine .rx 4 r (.so 4 r r r (.ck 1 r r (.ch r (fun _=>.lw CF BH .p1 r .mk) trivial)) (.ww r fun ex=>?_))
   exact .sa BH .p2 r (.sn 4 r r r (.ck 1 r r trivial) (.fk 1 r (.e2 6 (.kn 1 [8,7,6] r (.drop .p1 (.ret (BS results17 (.w CF BH r .p1 r (.t r (.t r .n))) C3 ⟨(w1.1,G7,w1.2),_,_,_,_,_,_,r,t3,t4,t5,hd⟩)))))))
 obtain ⟨G8,U,S8,S9,T0,T1,T2,T3,T4,T5,T6,T7,T8,T9,U0,U1,U2,U3,U4,U5,U6,U7,U8,U9,e,rfl,t6,t7,t8,t9,u0,u7,u8,u9,v0,v1,v2,rfl,hd⟩:=c4
 obtain ⟨R3,R6,R9,R12,R15,R18⟩:=d.u6 R3 R6 R9 R12 R15 R18
 obtain ⟨R21,R24,R27,R30⟩:=d.u4 R21 R24 R27 R30
 refine .rn 6 r (.kn 5 [10,9,6,2,1] r (.drop .p5 (.seq (.sr (.kn 2 [21,10,9,6,2,1] r (.condP r hd (fun C4 hd=>?_) fun C4 hd=>?_))))))
 · exact .sr (.build FO OQ OP .n (by exact trivial) r r (.ks 1 r (.sa BH .p4 r (.kn 2 [8,7,6] r (.drop .p2 (.drop .p2 (.ret (BS results17 (.w CF BH r .p2 r (.t r (.t r .n))) d ⟨(({ Rows:=0,Cols:=0,Start:=([]:List Int),Col:=([]:List Int),Val:=([]:List Int) }:Rows),false,G8.1),_,_,_,_,_,_,r,(.nil _ _ _),(.nil _ _ _),(.nil _ _ _),hd⟩))))))))
 refine .sn [9,6,2,1] r (.seq (.block (.sk 1 r (.ln uH r (.kn 2 [24,9,6,2,1] r (.condP r hd (fun C5 hd=>?_) fun C5 hd=>?_))))))
 · exact .sr (.build FO OQ OP .n (by exact trivial) r r (.sa BH .p4 r (.kn 2 [8,7,6] r (.drop .p2 (.drop .p2 (.ret (BS results17 (.w CF BH r .p2 r (.t r (.t r .n))) d ⟨(({ Rows:=0,Cols:=0,Start:=([]:List Int),Col:=([]:List Int),Val:=([]:List Int) }:Rows),false,5),_,_,_,_,_,_,r,(.nil _ _ _),(.nil _ _ _),(.nil _ _ _),hd⟩)))))))
 refine .sk 1 r ?_
 have C6:=EV (I:=v8) (a0:=a1) R30 hd
 refine .callS (.f call61 r) .n C6 r r fun V0 V1 V2 q9 C7=>?_
 obtain ⟨V3,rfl,rfl,hd⟩:=C7
 obtain ⟨j0,R30,t6,t7,t8,t9⟩:=q9.u6 d R30 t6 t7 t8 t9
 obtain ⟨u0,u7,u8,u9,v0,v1⟩:=q9.u6 u0 u7 u8 u9 v0 v1
 have v2:=q9.u1 v2
 refine .rn 5 r (.kn 1 [29,9,6,2,1] r (.condP r hd (fun C8 hd=>?_) fun C8 hd=>?_))
 · exact .sr (.build FO OQ OP .n (by exact trivial) r r (.sa BH .p4 r (.kn 2 [8,7,6] r (.drop .p2 (.drop .p2 (.ret (BS results17 (.w CF BH r .p2 r (.t r (.t r .n))) j0 ⟨(({ Rows:=0,Cols:=0,Start:=([]:List Int),Col:=([]:List Int),Val:=([]:List Int) }:Rows),false,8),_,_,_,_,_,_,r,(.nil _ _ _),(.nil _ _ _),(.nil _ _ _),hd⟩)))))))
 refine .sk 3 r ?_
 refine AQ hd (fun r0 hd=>?_) fun r0 hd=>?_
 · rw [r0]
   exact .kn 4 [33,9,6,2,1] r (.condKT r r (.sr (.build FO OQ OP .n (by exact trivial) r r (.sa BH .p4 r (.kn 2 [8,7,6] r (.drop .p2 (.drop .p2 (.ret (BS results17 (.w CF BH r .p2 r (.t r (.t r .n))) j0 ⟨(({ Rows:=0,Cols:=0,Start:=([]:List Int),Col:=([]:List Int),Val:=([]:List Int) }:Rows),false,3),_,_,_,_,_,_,r,(.nil _ _ _),(.nil _ _ _),(.nil _ _ _),hd⟩)))))))))
 rw [r0]
 refine .kn 4 [33,9,6,2,1] r (.condP r hd (fun C9 hd=>?_) fun C9 hd=>?_)
 · exact .sr (.build FO OQ OP .n (by exact trivial) r r (.sa BH .p4 r (.kn 2 [8,7,6] r (.drop .p2 (.drop .p2 (.ret (BS results17 (.w CF BH r .p2 r (.t r (.t r .n))) j0 ⟨(({ Rows:=0,Cols:=0,Start:=([]:List Int),Col:=([]:List Int),Val:=([]:List Int) }:Rows),false,3),_,_,_,_,_,_,r,(.nil _ _ _),(.nil _ _ _),(.nil _ _ _),hd⟩)))))))
 refine .sn [9,6,2,1] r (.seq (.sk 1 r (.ln uH r (.kn 1 [43,42,41,9,6,2] r (.block (.lx hd [42,41,9,6,2] [4] r (fun j E l (r1,r2,r3,j1,j2,j3,r4,r5,j4,j5,j6,r6,r7,j7,j8,j9,r8,r9,s0,k0,k1,s1,s2,s3,s4)=>fun c w=>∃ k2 k3 k4 k5 k6 k7 k8 k9 l0 l1 l2 l3 l4 l5 l6 l7 l8 l9 m0 m1 m2 m3,j ⟨72,[],none⟩ (fun I_=>RepSl AE I_ k2 k3 j1∧RepSl AE I_ k4 k5 j2∧RepSl AE I_ k6 k7 j3∧RepSl AE I_ k8 k9 j4∧RepSl AE I_ l0 l1 j5∧RepSl AE I_ l2 l3 j6∧RepSl AE I_ l4 l5 j7∧RepSl AE I_ l6 l7 j8∧RepSl AE I_ l8 l9 j9∧RepSl CB I_ m0 m1 k0∧RepSl CV I_ m2 m3 k1) ((43,.int .i64 s2) :: E) (pto U (.cells #[.int .i64 r1,.int .i64 r2,.int .i64 r3,.slice k2 j1.length k3,.slice k4 j2.length k5,.slice k6 j3.length k7,.int .i64 r4,.int .i64 r5,.slice k8 j4.length k9,.slice l0 j5.length l1,.slice l2 j6.length l3,.int .i64 r6,.int .i64 r7,.slice l4 j7.length l5,.slice l6 j8.length l7,.slice l8 j9.length l9,.int .i64 r8,.int .i64 r9,.int .i64 s0,.slice m0 k0.length m1,.slice m2 k1.length m3,.map (some e)] 121 (0,0)) :: OwnMap CU CV false e s1 :: BQ AG s3 :: BQ BD s4 :: l) c w) (fun c w ho hs=>⟨_,_,_,_,_,_,_,_,_,_,_,_,_,_,_,_,_,_,_,_,_,_,jf rf ⟨t6,t7,t8,t9,u0,u7,u8,u9,v0,v1,v2⟩ [2,2,0,0,0] r ho hs⟩) ?_))))))
 rintro ⟨r1,r2,r3,j1,j2,j3,r4,r5,j4,j5,j6,r6,r7,j7,j8,j9,r8,r9,s0,k0,k1,s1,s2,s3,s4⟩ G9 hd c w ⟨k2,k3,k4,k5,k6,k7,k8,k9,l0,l1,l2,l3,l4,l5,l6,l7,l8,l9,m0,m1,m2,m3,D0,c7,⟨m4,m5,m6,m7,m8,m9,n0,n1,n2,n3,n4⟩,hok,hsym⟩
 obtain ⟨p0,R30⟩:=c7.u2 j0 R30
 refine Cod.at hok hsym (.sr (.kn 1 [44,43,42,41,9,6,2] r (.seq (.condP r hd (fun w2 hd=>?_) fun w2 hd=>?_))))
 · refine .sn [43,42,41,9,6,2] r (.seq (.block (.sr ?_)))
   obtain ⟨v5,D1,s9,hd⟩:=hd
   obtain ⟨I6,o1354,H3,D2,w3,w4⟩:=R30.2 _ _ s9
   cases w4
   refine .ixa uH iP r D2 r v5 (AH s9 v5) r r (.ldW yJ iP w3 r r r r (.al AjN r fun I7=>?_))
   refine .sa iP .z r (.no [12,43,42,41,9,6,2] r (.region (.ks 1 r (.lw yJ iP .z r ?_))))
   have w5:=XI (I:=D0) (o0:=({ p:=({ Ring:=r1,A:=({ Rows:=r2,Cols:=r3,Start:=j1,Col:=j2,Val:=j3 }:Rows),B:=({ Rows:=r4,Cols:=r5,Start:=j4,Col:=j5,Val:=j6 }:Rows),Mask:=({ Rows:=r6,Cols:=r7,Start:=j7,Col:=j8,Val:=j9 }:Rows),R:=r8,C:=r9,Room:=s0 }:BI),stages:=k0,workers:=k1,boxes:=s1 }:AC)) (o1:=s3) (o2:=s4) (a0:=D1) (b4:=U) (p5:=k2) (c6:=k3) (p8:=k4) (c9:=k5) (p11:=k6) (c12:=k7) (p14:=k8) (c15:=k9) (p17:=l0) (c18:=l1) (p20:=l2) (c21:=l3) (p23:=l4) (c24:=l5) (p26:=l6) (c27:=l7) (p29:=l8) (c30:=l9) (p32:=m0) (c33:=m1) (p35:=m2) (c36:=m3) (b39:=e) m4 m5 m6 m7 m8 m9 n0 n1 n2 n3 n4 hd
   refine .callS (.f call25 r) (.o [1,1,1,1] r) w5 r r fun I8 I9 J0 p6 w6=>?_
   obtain ⟨a,J1,J2,J3,J4,J5,J6,J7,J8,J9,K0,K1,K2,K3,K4,K5,K6,K7,K8,K9,L0,L1,L2,rfl,D3,D4,D5,D6,D7,D8,D9,E0,E1,E2,E3,rfl,hd⟩:=w6
   obtain ⟨H4,w7,R30,m4,m5,m6⟩:=p6.u6 p0 c7 R30 m4 m5 m6
   obtain ⟨m7,m8,m9,n0,n1,n2⟩:=p6.u6 m7 m8 m9 n0 n1 n2
   obtain ⟨n3,n4⟩:=p6.u2 n3 n4
   exact .rn 6 r (.no [43,42,41,9,6,2] r (.drop .p4 (.region (.ks 2 r (.nil' fun c w ho hs=>⟨(a.2.1.p.Ring,a.2.1.p.A.Rows,a.2.1.p.A.Cols,a.2.1.p.A.Start,a.2.1.p.A.Col,a.2.1.p.A.Val,a.2.1.p.B.Rows,a.2.1.p.B.Cols,a.2.1.p.B.Start,a.2.1.p.B.Col,a.2.1.p.B.Val,a.2.1.p.Mask.Rows,a.2.1.p.Mask.Cols,a.2.1.p.Mask.Start,a.2.1.p.Mask.Col,a.2.1.p.Mask.Val,a.2.1.p.R,a.2.1.p.C,a.2.1.p.Room,a.2.1.stages,a.2.1.workers,a.2.1.boxes,AJ (s2+1),a.2.2.1,a.2.2.2),hd,_,_,_,_,_,_,_,_,_,_,_,_,_,_,_,_,_,_,_,_,_,_,jf w7 ⟨D3,D4,D5,D6,D7,D8,D9,E0,E1,E2,E3⟩ [0,0,0,0,0] r ho hs⟩)))))
 refine .en [9,6,2] r (.seq (.jx hd [9,6] [4] r (fun j E l (n5,n6,n7,d0,d1,d2,n8,n9,d3,d4,d5,o3,o4,d6,d7,d8,o5,o6,o7,d9,e0,o8,o9,v6)=>fun c w=>∃ e1 e3 e4 e5 e6 e7 e8 e9 f0 f1 f2 f3 f4 f5 f6 f7 f8 f9 g0 g1 g2 g3,j ⟨72,[],none⟩ (fun I_=>RepSl AE I_ e1 e3 d0∧RepSl AE I_ e4 e5 d1∧RepSl AE I_ e6 e7 d2∧RepSl AE I_ e8 e9 d3∧RepSl AE I_ f0 f1 d4∧RepSl AE I_ f2 f3 d5∧RepSl AE I_ f4 f5 d6∧RepSl AE I_ f6 f7 d7∧RepSl AE I_ f8 f9 d8∧RepSl CB I_ g0 g1 d9∧RepSl CV I_ g2 g3 e0) E (pto U (.cells #[.int .i64 n5,.int .i64 n6,.int .i64 n7,.slice e1 d0.length e3,.slice e4 d1.length e5,.slice e6 d2.length e7,.int .i64 n8,.int .i64 n9,.slice e8 d3.length e9,.slice f0 d4.length f1,.slice f2 d5.length f3,.int .i64 o3,.int .i64 o4,.slice f4 d6.length f5,.slice f6 d7.length f7,.slice f8 d8.length f9,.int .i64 o5,.int .i64 o6,.int .i64 o7,.slice g0 d9.length g1,.slice g2 e0.length g3,.map (some e)] 121 (0,0)) :: OwnMap CU CV false e o8 :: BQ AG o9 :: BQ BD v6 :: l) c w) (fun L3 hd=>?_) ?_))
 · skip
   refine .sr (.kn 1 [13,9,6,2] r (.block (.lx hd [9,6,2] [4] r (fun j E l (V,W,X,F,G,H,Y,Z,J,K,L,a3,a4,N,O,P,a5,a6,a7,S,T,a8,s5,a9,g4)=>fun c w=>∃ g5 g6 g7 g8 g9 h0 h1 h2 h3 h4 h5 h6 h7 h8 h9 i0 i1 i2 i3 i4 i5 i6,j ⟨72,[],none⟩ (fun I_=>RepSl AE I_ g5 g6 F∧RepSl AE I_ g7 g8 G∧RepSl AE I_ g9 h0 H∧RepSl AE I_ h1 h2 J∧RepSl AE I_ h3 h4 K∧RepSl AE I_ h5 h6 L∧RepSl AE I_ h7 h8 N∧RepSl AE I_ h9 i0 O∧RepSl AE I_ i1 i2 P∧RepSl CB I_ i3 i4 S∧RepSl CV I_ i5 i6 T) ((13,.int .i64 s5) :: E) (pto U (.cells #[.int .i64 V,.int .i64 W,.int .i64 X,.slice g5 F.length g6,.slice g7 G.length g8,.slice g9 H.length h0,.int .i64 Y,.int .i64 Z,.slice h1 J.length h2,.slice h3 K.length h4,.slice h5 L.length h6,.int .i64 a3,.int .i64 a4,.slice h7 N.length h8,.slice h9 O.length i0,.slice i1 P.length i2,.int .i64 a5,.int .i64 a6,.int .i64 a7,.slice i3 S.length i4,.slice i5 T.length i6,.map (some e)] 121 (0,0)) :: OwnMap CU CV false e a8 :: BQ AG a9 :: BQ BD g4 :: l) c w) (fun c w ho hs=>⟨_,_,_,_,_,_,_,_,_,_,_,_,_,_,_,_,_,_,_,_,_,_,jf rf ⟨m4,m5,m6,m7,m8,m9,n0,n1,n2,n3,n4⟩ [0,0,0,0,0] r ho hs⟩) ?_)))
   rintro ⟨V,W,X,F,G,H,Y,Z,J,K,L,a3,a4,N,O,P,a5,a6,a7,S,T,a8,s5,a9,g4⟩ H0 hd c w ⟨g5,g6,g7,g8,g9,h0,h1,h2,h3,h4,h5,h6,h7,h8,h9,i0,i1,i2,i3,i4,i5,i6,E4,p9,⟨g,i,k,m,q,s,u,v,x,y,D⟩,hok,hsym⟩
   obtain ⟨w8,w9⟩:=p9.u2 p0 c7
   refine Cod.at hok hsym (.seq (.sk 4 r ?_))
   refine AQ hd (fun q0 hd=>?_) fun q0 hd=>?_
   · rw [q0]
     refine .ks 1 r ?_
     have x0:=LL (I:=E4) (o0:=({ p:=({ Ring:=V,A:=({ Rows:=W,Cols:=X,Start:=F,Col:=G,Val:=H }:Rows),B:=({ Rows:=Y,Cols:=Z,Start:=J,Col:=K,Val:=L }:Rows),Mask:=({ Rows:=a3,Cols:=a4,Start:=N,Col:=O,Val:=P }:Rows),R:=a5,C:=a6,Room:=a7 }:BI),stages:=S,workers:=T,boxes:=a8 }:AC)) (o1:=a9) (b3:=U) (p4:=g5) (c5:=g6) (p7:=g7) (c8:=g8) (p10:=g9) (c11:=h0) (p13:=h1) (c14:=h2) (p16:=h3) (c17:=h4) (p19:=h5) (c20:=h6) (p22:=h7) (c23:=h8) (p25:=h9) (c26:=i0) (p28:=i1) (c29:=i2) (p31:=i3) (c32:=i4) (p34:=i5) (c35:=i6) (b38:=e) g i k m q s u v x y D hd
     refine .yes r (.callS (.f call38 r) (.o [0,0,0] r) x0 r r fun L4 E5 L5 q1 x1=>?_)
     obtain ⟨L6,rfl,rfl,hd⟩:=x1
     obtain ⟨x2,x3,t0,g,i,k⟩:=q1.u6 w8 w9 p9 g i k
     obtain ⟨m,q,s,u,v,x⟩:=q1.u6 m q s u v x
     obtain ⟨y,D⟩:=q1.u2 y D
     refine .rn 5 r (.kn 2 [58,13,9,6,2] r (.condP r hd (fun x4 hd=>?_) fun x4 hd=>?_))
     · refine .sn [13,9,6,2] r (.seq (.block (.region (.ks 1 r ?_))))
       have x5:=KS (I:=E5) (o0:=({ p:=({ Ring:=V,A:=({ Rows:=W,Cols:=X,Start:=F,Col:=G,Val:=H }:Rows),B:=({ Rows:=Y,Cols:=Z,Start:=J,Col:=K,Val:=L }:Rows),Mask:=({ Rows:=a3,Cols:=a4,Start:=N,Col:=O,Val:=P }:Rows),R:=a5,C:=a6,Room:=a7 }:BI),stages:=S,workers:=T,boxes:=a8 }:AC)) (o1:=a9) (o2:=g4) (b4:=U) (p5:=g5) (c6:=g6) (p8:=g7) (c9:=g8) (p11:=g9) (c12:=h0) (p14:=h1) (c15:=h2) (p17:=h3) (c18:=h4) (p20:=h5) (c21:=h6) (p23:=h7) (c24:=h8) (p26:=h9) (c27:=i0) (p29:=i1) (c30:=i2) (p32:=i3) (c33:=i4) (p35:=i5) (c36:=i6) (b39:=e) g i k m q s u v x y D hd
       refine .callS (.f call63 r) (.o [0,0,0,0] r) x5 r r fun L7 L8 L9 q2 x6=>?_
       obtain ⟨b,M0,M1,M2,M3,M4,M5,M6,M7,M8,M9,N0,N1,N2,N3,N4,N5,N6,N7,N8,N9,O0,O1,rfl,E6,E7,E8,E9,F0,F1,F2,F3,F4,F5,F6,rfl,hd⟩:=x6
       obtain ⟨H5,H6,x7,g,i,k⟩:=q2.u6 x2 x3 t0 g i k
       obtain ⟨m,q,s,u,v,x⟩:=q2.u6 m q s u v x
       obtain ⟨y,D⟩:=q2.u2 y D
       exact .rn 5 r (.no [13,9,6,2] r (.region (.ks 3 r (.nil' fun c w ho hs=>⟨(b.2.1.p.Ring,b.2.1.p.A.Rows,b.2.1.p.A.Cols,b.2.1.p.A.Start,b.2.1.p.A.Col,b.2.1.p.A.Val,b.2.1.p.B.Rows,b.2.1.p.B.Cols,b.2.1.p.B.Start,b.2.1.p.B.Col,b.2.1.p.B.Val,b.2.1.p.Mask.Rows,b.2.1.p.Mask.Cols,b.2.1.p.Mask.Start,b.2.1.p.Mask.Col,b.2.1.p.Mask.Val,b.2.1.p.R,b.2.1.p.C,b.2.1.p.Room,b.2.1.stages,b.2.1.workers,b.2.1.boxes,AJ (s5+1),b.2.2.1,b.2.2.2),hd,_,_,_,_,_,_,_,_,_,_,_,_,_,_,_,_,_,_,_,_,_,_,jf x7 ⟨E6,E7,E8,E9,F0,F1,F2,F3,F4,F5,F6⟩ [0,0,0,0,0] r ho hs⟩))))
     exact .exit fun c w ho hs=>⟨(V,W,X,F,G,H,Y,Z,J,K,L,a3,a4,N,O,P,a5,a6,a7,S,T,a8,a9,g4),hd,_,_,_,_,_,_,_,_,_,_,_,_,_,_,_,_,_,_,_,_,_,_,jf t0 ⟨g,i,k,m,q,s,u,v,x,y,D⟩ [0,0,0,0,0] r ho hs⟩
   rw [q0]
   exact .kn 4 [58,13,9,6,2] r (.condKF r r (.exit fun c w ho hs=>⟨(V,W,X,F,G,H,Y,Z,J,K,L,a3,a4,N,O,P,a5,a6,a7,S,T,a8,a9,g4),hd,_,_,_,_,_,_,_,_,_,_,_,_,_,_,_,_,_,_,_,_,_,_,jf p9 ⟨g,i,k,m,q,s,u,v,x,y,D⟩ [0,0,0,0,0] r ho hs⟩))
 rintro ⟨n5,n6,n7,d0,d1,d2,n8,n9,d3,d4,d5,o3,o4,d6,d7,d8,o5,o6,o7,d9,e0,o8,o9,v6⟩ hd c w ⟨e1,e3,e4,e5,e6,e7,e8,e9,f0,f1,f2,f3,f4,f5,f6,f7,f8,f9,g0,g1,g2,g3,F7,t1,⟨b0,b1,b2,b5,b6,b7,b8,b9,c0,c1,c3⟩,hok,hsym⟩
 obtain ⟨x8,x9⟩:=t1.u2 p0 c7
 refine Cod.at hok hsym (.sk 1 r ?_)
 have y0:=UR (I:=F7) (o0:=({ p:=({ Ring:=n5,A:=({ Rows:=n6,Cols:=n7,Start:=d0,Col:=d1,Val:=d2 }:Rows),B:=({ Rows:=n8,Cols:=n9,Start:=d3,Col:=d4,Val:=d5 }:Rows),Mask:=({ Rows:=o3,Cols:=o4,Start:=d6,Col:=d7,Val:=d8 }:Rows),R:=o5,C:=o6,Room:=o7 }:BI),stages:=d9,workers:=e0,boxes:=o8 }:AC)) (o1:=o9) (b3:=U) (p4:=e1) (c5:=e3) (p7:=e4) (c8:=e5) (p10:=e6) (c11:=e7) (p13:=e8) (c14:=e9) (p16:=f0) (c17:=f1) (p19:=f2) (c20:=f3) (p22:=f4) (c23:=f5) (p25:=f6) (c26:=f7) (p28:=f8) (c29:=f9) (p31:=g0) (c32:=g1) (p34:=g2) (c35:=g3) (b38:=e) b0 b1 b2 b5 b6 b7 b8 b9 c0 c1 c3 hd
 refine .callS (.f call64 r) (.o [0,0,0] r) y0 r r fun O2 F8 O3 q3 y1=>?_
 obtain ⟨v7,O4,O5,O6,O7,O8,O9,rfl,s6,s7,s8,rfl,hd⟩:=y1
 obtain ⟨y2,y3,y4,b0,b1,b2⟩:=q3.u6 x8 x9 t1 b0 b1 b2
 obtain ⟨b5,b6,b7,b8,b9,c0⟩:=q3.u6 b5 b6 b7 b8 b9 c0
 obtain ⟨c1,c3⟩:=q3.u2 c1 c3
 refine .rn 5 r (.ks 3 r (.al FO r fun P0=>?_))
 refine .sa BH .z r (.kn 1 [10,14,9,6] r (.seq (.dr [0,1,3,2,4,5] 6 (.h r (fun _=>.lw CF BH .z r .mk) (.fk 2 r (.ww r fun ex=>?_))))))
 have y5:=LL (I:=F8) (o0:=({ p:=({ Ring:=n5,A:=({ Rows:=n6,Cols:=n7,Start:=d0,Col:=d1,Val:=d2 }:Rows),B:=({ Rows:=n8,Cols:=n9,Start:=d3,Col:=d4,Val:=d5 }:Rows),Mask:=({ Rows:=o3,Cols:=o4,Start:=d6,Col:=d7,Val:=d8 }:Rows),R:=o5,C:=o6,Room:=o7 }:BI),stages:=d9,workers:=e0,boxes:=o8 }:AC)) (o1:=o9) (b3:=U) (p4:=e1) (c5:=e3) (p7:=e4) (c8:=e5) (p10:=e6) (c11:=e7) (p13:=e8) (c14:=e9) (p16:=f0) (c17:=f1) (p19:=f2) (c20:=f3) (p22:=f4) (c23:=f5) (p25:=f6) (c26:=f7) (p28:=f8) (c29:=f9) (p31:=g0) (c32:=g1) (p34:=g2) (c35:=g3) (b38:=e) b0 b1 b2 b5 b6 b7 b8 b9 c0 c1 c3 hd
 refine .callS (.f call38 r) (.o [1,1,1] r) y5 r r fun P1 P2 P3 q4 y6=>?_
 obtain ⟨F9,rfl,rfl,hd⟩:=y6
 obtain ⟨y7,H7,H8,b0,b1,b2⟩:=q4.u6 y2 y3 y4 b0 b1 b2
 obtain ⟨b5,b6,b7,b8,b9,c0⟩:=q4.u6 b5 b6 b7 b8 b9 c0
 obtain ⟨c1,c3,s6,s7,s8⟩:=q4.u5 c1 c3 s6 s7 s8
 refine .rx 6 r (.so 6 r r r (.ck 1 r r (.ch r (fun _=>.lw CF BH .p3 r .mk) trivial)) (.ww r fun ex=>?_))
 exact .sa BH .p5 r (.sn 6 r r r (.ck 1 r r trivial) (.fk 1 r (.e2 6 (.kn 1 [8,7,6] r (.drop .z (.drop .z (.drop .p1 (.ret (BS results17 (.w CF BH r .p2 r (.t r (.t r .n))) y7 ⟨(v7.1,F9,v7.2),_,_,_,_,_,_,r,s6,s7,s8,hd⟩)))))))))
theorem gK {a0:AK} {a1 a2:Int} {Q:(Int×Int)→Prop} (R3:RepSl BU I p1 c2 a0.Edges) (hd:RY a0 a1 a2 Q) :
  BR prog 45 [.agg #[.int .i64 a0.N,.slice p1 a0.Edges.length c2],.int .i64 a1,.int .i64 a2] I (fun _=>AhW Q):=by
 refine Fun.en func45 ntmps45 r fun w0 M=>?_
 refine .sr (.bx r fun b6=>?_)
 refine .ks 2 r (.ns [3,2,1] r (.lw EJ CT .z r (.ks 2 r ?_)))
 have A:=W2 (I:=I) R3 hd
 refine .call call48 r A r r fun X y c B=>?_
 obtain ⟨J,Y,Z,a3,a4,a5,a6,a7,a8,a9,b0,b1,b2,b3,b4,b5,b7,b8,b9,rfl,d,e,f,g,i,j,k,l,m,hd⟩:=B
 have R3:=c.u1 R3
 refine .ks 3 r (.al XR r fun c0=>?_)
 refine .sa KH .z r (.kn 1 [9,8] r (.drop .p1 (.seq (.sr (.kn 2 [20,9,8] r (.condP r hd (fun C hd=>?_) fun C hd=>?_))))))
 · exact .sr (.kn 3 [7,6] r (.drop .z (.ret (BS results45 (.t r (.t r .n)) c ⟨(0,J.2),r,hd⟩))))
 refine .sn [8] r (.seq (.dr [0,1,8,2,3,4,5,6,7,999,9,10] 11 (.h r (fun _=>.lw WI KH .z r .mk) (.h r (fun _=>.lw WI KH .z r .mk) (.a (fun b=>.pointer (some ⟨b,0,none⟩)) (fun b=>pto b (.cells #[.int .i64 0,.int .i64 0,.slice none 0 0,.slice none 0 0,.slice none 0 0] 33 (0,0))) r r r r (fun _ L hL ex=>.al FO r fun b=>.mk (val:=fun b=>.pointer (some ⟨b,0,none⟩)) (atom:=fun b=>pto b (.cells #[.int .i64 0,.int .i64 0,.slice none 0 0,.slice none 0 0,.slice none 0 0] 33 (0,0))) hL b) (.ww r fun ex=>?_))))))
 have s:=nW (I:=y) d e f g i j k l m hd
 refine .cq call35 s r fun K hd=>?_
 refine .so 1 r r r (.ch r (fun _=>.lw WI KH .z r .mk) trivial) (.ww r fun ex=>?_)
 have u:=xN (I:=y) d e f g i j k l m (.nil _ none 0) hd
 refine .call call17 r u r r fun O D o v=>?_
 obtain ⟨E,P,R,S,T,U,V,rfl,F,G,H,hd⟩:=v
 obtain ⟨p,d,e,f,g,i⟩:=o.u6 c d e f g i
 obtain ⟨j,k,l,m⟩:=o.u4 j k l m
 refine .so 1 r r r trivial (.fk 4 r (.b r fun W=>DrawD.nop (.ww r fun ex=>?_)))
 refine .sa BH .p1 r (.sn 2 r r r (.ck 2 r r trivial) (.fk 1 r (.e2 11 (.kn 1 [9,10] r (.drop .z (.seq (.sr (.kn 2 [31,9,10] r (.condP r hd (fun w hd=>?_) fun w hd=>?_)))))))))
 · exact .sr (.kn 3 [7,6] r (.drop .z (.ret (BS results45 (.t r (.t r .n)) p ⟨(0,E.2.2),r,hd⟩))))
 refine .sn [10] r (.sr (.lw CF BH .z r ?_))
 have x:=tF (I:=D) F G H hd
 refine .cq call117 x r fun q hd=>?_
 exact .kn 4 [7,6] r (.drop .z (.ret (BS results45 (.t r (.t r .n)) p ⟨(q.1,q.2),r,hd⟩)))
theorem iZ {o0:Nat} {o1:List (Int×Int×Int)} {o2:AK} {Y:Nat→(List (Int×Int×Int))→(Int×Int×Int)→((Bool×Nat×(List (Int×Int×Int)))→Prop)→Prop} {Q:(Nat×(List (Int×Int×Int)))→Prop} (hY:∀ {J_:IH},I.le J_→∀ {y13:Nat} {y14:List (Int×Int×Int)} {x20:Int×Int×Int} {p16:Option Addr} {c17:Nat} {Qy:(Bool×Nat×(List (Int×Int×Int)))→Prop},Y y13 y14 x20 Qy→RFun prog lr [.agg #[.int .i64 x20.1,.int .i64 x20.2.1,.int .i64 x20.2.2]] J_ [Rr y13,pto b4 (.cells #[.slice p16 y14.length c17] 90 (0,0)),OwnSl OV 99 p16 c17 y14] (fun I_ v l=>∃ r p22 c23,v=.bool r.1∧l=[Rr r.2.1,pto b4 (.cells #[.slice p22 r.2.2.length c23] 90 (0,0)),OwnSl OV 99 p22 c23 r.2.2]∧Qy r)) (R12:RepSl BU I p10 c11 o2.Edges) (hd:aQ o0 o1 o2 Y Q) :
  Fun prog 196 #[.func (.yield lr) #[] #[],.pointer (some ⟨b9,0,none⟩)] I [Rr o0,pto b4 (.cells #[.slice p5 o1.length c6] 90 (0,0)),OwnSl OV 99 p5 c6 o1,pto b9 (.cells #[.int .i64 o2.N,.slice p10 o2.Edges.length c11] 24 (0,0))] (fun I_ v l=>∃ r p14 c15,v=.tuple #[]∧l=[Rr r.1,pto b4 (.cells #[.slice p14 r.2.length c15] 90 (0,0)),OwnSl OV 99 p14 c15 r.2,pto b9 (.cells #[.int .i64 o2.N,.slice p10 o2.Edges.length c11] 24 (0,0))]∧Q r):=by
 refine Fun.en func196 ntmps196 r fun w0 M=>?_
 refine .seq (.sr (.lw EJ CT .p3 r ?_))
 have e9:=MD (I:=I) R12 hd
 refine .cq call119 e9 r fun j1 hd=>?_
 refine .kn 1 [12,1,0] r (.condP r hd (fun f0 hd=>?_) fun f0 hd=>?_)
 · exact .ret (KG results196 .n rf (.o [0,0,0,0] r) ⟨(o0,o1),_,_,r,r,hd⟩)
 refine .sn [1,0] r (.sr (.lw EJ CT .p3 r ?_))
 have f1:=qE (I:=I) R12 hd
 refine .call call197 r f1 r r fun j2 j3 a3 f2=>?_
 obtain ⟨j4,j5,j6,rfl,d,hd⟩:=f2
 have R12:=a3.u1 R12
 refine .ks 1 r (.nk [3,1,0] 1 r (.ln dF r (.kn 1 [17,16,15,3,1,0] r (.block (.lx hd [16,15,3,1,0] [3] r (fun j E l (i,k,x)=>fun c w=>∃ y z,j ⟨51,[],none⟩ (fun I_=>True) ((17,.int .i64 k) :: E) (pto b4 (.cells #[.slice y i.length z] 90 (0,0)) :: OwnSl OV 99 y z i :: Rr x :: l) c w) (fun c w ho hs=>⟨_,_,jf rf trivial [1,1,0,0] r ho hs⟩) ?_)))))
 rintro ⟨i,k,x⟩ f3 hd c w ⟨y,z,d9,H,_,hok,hsym⟩
 obtain ⟨J,R12,d⟩:=H.u3 a3 R12 d
 refine Cod.at hok hsym (.sr (.kn 1 [18,17,16,15,3,1,0] r (.seq (.condP r hd (fun a4 hd=>?_) fun a4 hd=>?_))))
 · refine .sn [17,16,15,3,1,0] r (.seq (.block (.sk 1 r ?_)))
   obtain ⟨Z,g2,K,hd⟩:=hd
   obtain ⟨g3,o1689,f6,e0,a5,a6⟩:=d.2 _ _ K
   obtain ⟨g4,g5,rfl,a⟩:=a6
   refine .ixa dF sizeOf181 r e0 r Z (AH K Z) r r (.ld1 (j:=0) isAgg181 a5 r r r r r (.ks 2 r (.nk [5,4,17,16,15,3,1,0] 1 r ?_)))
   have a7:=SI (I:=d9) a hd
   refine .call call198 r a7 r r fun g6 g7 a8 a9=>?_
   obtain ⟨g8,g9,h0,rfl,b,hd⟩:=a9
   obtain ⟨b0,b1,R12,d,a⟩:=a8.u5 J H R12 d a
   refine .ln BT r (.kn 1 [25,24,23,5,4,17,16,15,3,1,0] r (.block (.lx hd [24,23,17,16,15,5,4,3,1,0] [3] r (fun j E l (m,A,B)=>fun c w=>∃ C D,j ⟨51,[],none⟩ (fun I_=>True) ((25,.int .i64 A) :: E) (pto b4 (.cells #[.slice C m.length D] 90 (0,0)) :: OwnSl OV 99 C D m :: Rr B :: l) c w) (fun c w ho hs=>⟨_,_,jf rf trivial [0,0,0,0] r ho hs⟩) ?_)))
   rintro ⟨m,A,B⟩ f4 hd c w ⟨C,D,e1,L,_,hok,hsym⟩
   obtain ⟨b2,O,R12,d,a,b⟩:=L.u6 b0 b1 R12 d a b
   refine Cod.at hok hsym (.sr (.kn 1 [26,25,24,23,17,16,15,5,4,3,1,0] r (.seq (.condP r hd (fun b3 hd=>?_) fun b3 hd=>?_))))
   · refine .sn [25,24,23,17,16,15,5,4,3,1,0] r (.seq (.block (.sr ?_)))
     obtain ⟨a0,e2,P,hd⟩:=hd
     obtain ⟨h1,o2243,f7,e3,b5,b6⟩:=b.2 _ _ P
     cases b6
     refine .ixa BT EX r e3 r a0 (AH P a0) r r (.ld1 (j:=0) BF b5 r r r r r (.ks 1 r (.nk [7,25,24,23,17,16,15,5,4,3,1,0] 3 r ?_)))
     obtain ⟨a1,h2,R,hd⟩:=hd
     obtain ⟨h3,o2290,f8,e4,e,b7⟩:=d.2 _ _ R
     obtain ⟨h4,h5,rfl,f⟩:=b7
     refine .ixa dF sizeOf181 r e4 r a1 (AH R a1) r r (.ld1 (j:=0) isAgg181 e r r r r r ?_)
     have b8:=eV (I:=e1) a f hd
     refine .call call199 r b8 r r fun h6 e5 S c0=>?_
     obtain ⟨h7,h8,h9,rfl,F,hd⟩:=c0
     obtain ⟨c1,c2,c3,R12,d,a⟩:=S.u6 b2 O L R12 d a
     obtain ⟨b,f,e⟩:=S.u3 b f e
     have c4:=SI (I:=e5) F hd
     refine .call call198 r c4 r r fun i0 i1 T c5=>?_
     obtain ⟨i2,i3,i4,rfl,g,hd⟩:=c5
     obtain ⟨c7,c8,c9,R12,d,a⟩:=T.u6 c1 c2 c3 R12 d a
     obtain ⟨b,f,e,F⟩:=T.u4 b f e F
     refine .ln BT r (.kn 1 [37,36,35,7,25,24,23,17,16,15,5,4,3,1,0] r (.block (.lx hd [36,35,25,24,23,17,16,15,7,5,4,3,1,0] [3] r (fun j E l (h,G,p)=>fun c w=>∃ q s,j ⟨51,[],none⟩ (fun I_=>True) ((37,.int .i64 G) :: E) (pto b4 (.cells #[.slice q h.length s] 90 (0,0)) :: OwnSl OV 99 q s h :: Rr p :: l) c w) (fun c w ho hs=>⟨_,_,jf rf trivial [0,0,0,0] r ho hs⟩) ?_)))
     rintro ⟨h,G,p⟩ f5 hd c w ⟨q,s,e6,u,_,hok,hsym⟩
     obtain ⟨U,d0,V,R12,d,a⟩:=u.u6 c7 c8 c9 R12 d a
     obtain ⟨b,g⟩:=u.u2 b g
     refine Cod.at hok hsym (.sr (.kn 1 [38,37,36,35,25,24,23,17,16,15,7,5,4,3,1,0] r (.seq (.condP r hd (fun d1 hd=>?_) fun d1 hd=>?_))))
     · refine .sn [37,36,35,25,24,23,17,16,15,7,5,4,3,1,0] r (.seq (.block (.sr ?_)))
       obtain ⟨a2,e7,W,hd⟩:=hd
       obtain ⟨i5,o2445,f9,e8,d2,d3⟩:=g.2 _ _ W
       cases d3
       refine .ixa BT EX r e8 r a2 (AH W a2) r r (.ld1 (j:=0) BF d2 r r r r r (.ks 1 r (.nk [9,37,36,35,25,24,23,17,16,15,7,5,4,3,1,0] 4 r (.buildArr qR nK EX (.c r r r (.o r) (.c r r r (.o r) (.c r r r (.o r) .n))) r r ?_))))
       have d4:=hY (J_:=e6) U (y13:=p) (y14:=h) (x20:=(k,e2,e7)) (p16:=q) (c17:=s) hd
       refine .callY r r (.o [2,0,0] r) d4 r r fun i6 i7 i8 X d5=>?_
       obtain ⟨t,i9,j0,rfl,rfl,hd⟩:=d5
       obtain ⟨d6,g0,g1,d7,R12,d⟩:=X.u6 U d0 V u R12 d
       obtain ⟨a,b,g⟩:=X.u3 a b g
       refine .rn 4 r (.kn 1 [47,37,36,35,25,24,23,17,16,15,7,5,4,3,1,0] r (.condP r hd (fun d8 hd=>?_) fun d8 hd=>?_))
       · exact .ret (KG results196 .n d6 (.o [0,0,0,0] r) ⟨(t.2.1,t.2.2),_,_,r,r,hd⟩)
       exact .sn [37,36,35,25,24,23,17,16,15,7,5,4,3,1,0] r (.region (.ks 2 r (.nil' fun c w ho hs=>⟨(t.2.2,AJ (G+1),t.2.1),hd,_,_,jf d7 trivial [1,1,0,0] r ho hs⟩)))
     exact .en [25,24,23,17,16,15,5,4,3,1,0] r (.region (.ks 2 r (.nil' fun c w ho hs=>⟨(h,AJ (A+1),p),hd,_,_,jf V trivial [0,0,0,0] r ho hs⟩)))
   exact .en [17,16,15,3,1,0] r (.region (.ks 2 r (.nil' fun c w ho hs=>⟨(m,AJ (k+1),B),hd,_,_,jf O trivial [0,0,0,0] r ho hs⟩)))
 exact .exit (RF results196 .n J (.o [2,0,0,0] r) ⟨(x,i),_,_,r,r,hd⟩)
theorem MW {o0:AK} {Q:(List (Int×Int×Int))→Prop} (R5:RepSl BU I p3 c4 o0.Edges) (hd:HJ o0 Q) :
  Fun prog 195 #[.slice none 0 0,.func (.func 196) #[] #[.pointer (some ⟨b2,0,none⟩)]] I [pto b2 (.cells #[.int .i64 o0.N,.slice p3 o0.Edges.length c4] 24 (0,0))] (fun I_ v l=>∃ r p6 c7,v=.slice p6 r.length c7∧RepSl OV I_ p6 c7 r∧l=[pto b2 (.cells #[.int .i64 o0.N,.slice p3 o0.Edges.length c4] 24 (0,0))]∧Q r):=by
 refine Fun.en func195 ntmps195 r fun w0 M=>?_
 refine .marks0 (.sr (.box1 r r r r fun m=>?_))
 refine .kn 1 [2,1] r (.seq (.sr (.kn 1 [6,2,1] r (.block (.own0 OV 99 (.rangeF [] r call196 (.o [2,1,0,0] r) fun lr D rc hrc=>?_))))))
 refine ⟨_,iZ (I:=I) (lr:=lr) (Rr:=bI lr [] rc) (o0:=0) (o1:=([]:List (Int×Int×Int))) (o2:=o0) (b4:=m) (p5:=none) (c6:=0) (b9:=b2) (p10:=p3) (c11:=c4) ?_ R5 hd,?_⟩
 · skip
   intro I hJ p h b q s Qy  hd
   replace R5:=R5.mono hJ
   obtain ⟨rfl,hd⟩:=hd
   refine RFun.mk hrc r fun w0 M=>?_
   refine .region (.al qR r fun u=>?_)
   refine .sa dH .z r (.nil' fun c w ho hs=>qK (E':=[(2,_),(5,_)]) ho ⟨r,r,trivial⟩ hs .p1 (.block (.region (.lo isAgg90 .p2 r (.lw isAgg99 dH .z r (.buildSlice 1 ZY dH qR r r (.c r r r .n) r r fun x=>?_))))))
   obtain ⟨d,hd⟩:=hd
   refine .append (ys:=[b]) 24 .p4 ZY ZY Aj6 r r r r r r r r r (.box .z (.one r) r) d r r fun y A=>?_
   refine .s1 sizeOf90 .p4 r ?_
   exact .nil' fun c w ho hs=>AfP 0 (.inl rfl) rf .p3 (.o [3,0] rfl) ⟨(true,0,(h++([b]))),_,_,rfl,rfl,hd⟩ hs
 intro B C l' a e
 obtain ⟨j,E,F,rfl,rfl,hd⟩:=e
 have R5:=a.u1 R5
 obtain ⟨hz,hd⟩:=hd
 refine ⟨_,_,r,fun hj=>?_,fun i hj=>absurd (hz.symm.trans hj) (by simp)⟩
 refine .rn 4 r (.mkS [2,1] r r (.sr (.lo isAgg90 .p1 r (.kn 1 [4,1] r (.drop .p1 (.pub .p1 fun G f k=>?_))))))
 obtain ⟨g,R5⟩:=f.u2 a R5
 exact .ret (AhB .z results195 (.t r .n) g (.o [0] r) ⟨j.2,_,_,r,k,r,hd⟩)
theorem US {o0:AK} {Q:(List (Int×Int×Int))→Prop} (R5:RepSl BU I p3 c4 o0.Edges) (hd:LV o0 Q) :
  Fun prog 125 #[.func (.func 196) #[] #[.pointer (some ⟨b2,0,none⟩)]] I [pto b2 (.cells #[.int .i64 o0.N,.slice p3 o0.Edges.length c4] 24 (0,0))] (fun I_ v l=>∃ r p6 c7,v=.slice p6 r.length c7∧RepSl OV I_ p6 c7 r∧l=[pto b2 (.cells #[.int .i64 o0.N,.slice p3 o0.Edges.length c4] 24 (0,0))]∧Q r):=by
 refine Fun.en func125 ntmps125 r fun w0 M=>?_
 refine .sk 1 r (.nk [0] 1 r ?_)
 have b:=MW (I:=I) (o0:=o0) (b2:=b2) (p3:=p3) (c4:=c4) R5 hd
 refine .callS (.f call195 r) (.o [0] r) b r r fun g k h a c=>?_
 obtain ⟨d,i,j,rfl,e,rfl,hd⟩:=c
 have R5:=a.u1 R5
 exact .rn 1 r (.kn 1 [2,0] r (.q1 results125 a [0] r ⟨d,_,_,r,e,r,hd⟩))
theorem mZ {a0:AK} {Q:(List (Int×Int×Int))→Prop} (R3:RepSl BU I p1 c2 a0.Edges) (hd:WG a0 Q) :
  BR prog 51 [.agg #[.int .i64 a0.N,.slice p1 a0.Edges.length c2]] I (AjM Q):=by
 refine Fun.en func51 ntmps51 r fun w0 M=>?_
 refine .sr (.bx r fun B=>?_)
 refine .ks 1 r (.ns [1] r (.lw EJ CT .z r ?_))
 have i:=bB (I:=I) (a0:=a0) R3 hd
 refine .callS (.f call126 r) .n i r r fun t j u a c=>?_
 obtain ⟨k,l,m,p,rfl,b,rfl,hd⟩:=c
 have R3:=a.u1 R3
 refine .rn 2 r ?_
 have d:=US (I:=j) (o0:=k) (b2:=l) (p3:=m) (c4:=p) b hd
 refine .callS (.f call125 r) (.o [0] r) d r r fun v w x e g=>?_
 obtain ⟨q,y,A,rfl,s,rfl,hd⟩:=g
 obtain ⟨h,R3,b⟩:=e.u3 a R3 b
 exact .rn 2 r (.kn 1 [2] r (.drop .z (.drop .z (.r1 results51 r h ⟨q,_,_,r,s,hd⟩))))
theorem jA {o0:Nat} {o1:List Int} {o2:AK} {Y:Nat→(List Int)→(Int×Int×Int)→((Bool×Nat×(List Int))→Prop)→Prop} {Q:(Nat×(List Int))→Prop} (hY:∀ {J_:IH},I.le J_→∀ {y13:Nat} {y14:List Int} {x20:Int×Int×Int} {p16:Option Addr} {c17:Nat} {Qy:(Bool×Nat×(List Int))→Prop},Y y13 y14 x20 Qy→RFun prog lr [.agg #[.int .i64 x20.1,.int .i64 x20.2.1,.int .i64 x20.2.2]] J_ [Rr y13,pto b4 (.cells #[.slice p16 y14.length c17] 30 (0,0)),OwnSl AE 3 p16 c17 y14] (fun I_ v l=>∃ r p22 c23,v=.bool r.1∧l=[Rr r.2.1,pto b4 (.cells #[.slice p22 r.2.2.length c23] 30 (0,0)),OwnSl AE 3 p22 c23 r.2.2]∧Qy r)) (R12:RepSl BU I p10 c11 o2.Edges) (hd:aR o0 o1 o2 Y Q) :
  Fun prog 196 #[.func (.yield lr) #[] #[],.pointer (some ⟨b9,0,none⟩)] I [Rr o0,pto b4 (.cells #[.slice p5 o1.length c6] 30 (0,0)),OwnSl AE 3 p5 c6 o1,pto b9 (.cells #[.int .i64 o2.N,.slice p10 o2.Edges.length c11] 24 (0,0))] (fun I_ v l=>∃ r p14 c15,v=.tuple #[]∧l=[Rr r.1,pto b4 (.cells #[.slice p14 r.2.length c15] 30 (0,0)),OwnSl AE 3 p14 c15 r.2,pto b9 (.cells #[.int .i64 o2.N,.slice p10 o2.Edges.length c11] 24 (0,0))]∧Q r):=by
 refine Fun.en func196 ntmps196 r fun w0 M=>?_
 refine .seq (.sr (.lw EJ CT .p3 r ?_))
 have e9:=MD (I:=I) R12 hd
 refine .cq call119 e9 r fun j1 hd=>?_
 refine .kn 1 [12,1,0] r (.condP r hd (fun f0 hd=>?_) fun f0 hd=>?_)
 · exact .ret (KG results196 .n rf (.o [0,0,0,0] r) ⟨(o0,o1),_,_,r,r,hd⟩)
 refine .sn [1,0] r (.sr (.lw EJ CT .p3 r ?_))
 have f1:=qE (I:=I) R12 hd
 refine .call call197 r f1 r r fun j2 j3 a3 f2=>?_
 obtain ⟨j4,j5,j6,rfl,d,hd⟩:=f2
 have R12:=a3.u1 R12
 refine .ks 1 r (.nk [3,1,0] 1 r (.ln dF r (.kn 1 [17,16,15,3,1,0] r (.block (.lx hd [16,15,3,1,0] [3] r (fun j E l (i,k,x)=>fun c w=>∃ y z,j ⟨51,[],none⟩ (fun I_=>True) ((17,.int .i64 k) :: E) (pto b4 (.cells #[.slice y i.length z] 30 (0,0)) :: OwnSl AE 3 y z i :: Rr x :: l) c w) (fun c w ho hs=>⟨_,_,jf rf trivial [1,1,0,0] r ho hs⟩) ?_)))))
 rintro ⟨i,k,x⟩ f3 hd c w ⟨y,z,d9,H,_,hok,hsym⟩
 obtain ⟨J,R12,d⟩:=H.u3 a3 R12 d
 refine Cod.at hok hsym (.sr (.kn 1 [18,17,16,15,3,1,0] r (.seq (.condP r hd (fun a4 hd=>?_) fun a4 hd=>?_))))
 · refine .sn [17,16,15,3,1,0] r (.seq (.block (.sk 1 r ?_)))
   obtain ⟨Z,g2,K,hd⟩:=hd
   obtain ⟨g3,o1689,f6,e0,a5,a6⟩:=d.2 _ _ K
   obtain ⟨g4,g5,rfl,a⟩:=a6
   refine .ixa dF sizeOf181 r e0 r Z (AH K Z) r r (.ld1 (j:=0) isAgg181 a5 r r r r r (.ks 2 r (.nk [5,4,17,16,15,3,1,0] 1 r ?_)))
   have a7:=SI (I:=d9) a hd
   refine .call call198 r a7 r r fun g6 g7 a8 a9=>?_
   obtain ⟨g8,g9,h0,rfl,b,hd⟩:=a9
   obtain ⟨b0,b1,R12,d,a⟩:=a8.u5 J H R12 d a
   refine .ln BT r (.kn 1 [25,24,23,5,4,17,16,15,3,1,0] r (.block (.lx hd [24,23,17,16,15,5,4,3,1,0] [3] r (fun j E l (m,A,B)=>fun c w=>∃ C D,j ⟨51,[],none⟩ (fun I_=>True) ((25,.int .i64 A) :: E) (pto b4 (.cells #[.slice C m.length D] 30 (0,0)) :: OwnSl AE 3 C D m :: Rr B :: l) c w) (fun c w ho hs=>⟨_,_,jf rf trivial [0,0,0,0] r ho hs⟩) ?_)))
   rintro ⟨m,A,B⟩ f4 hd c w ⟨C,D,e1,L,_,hok,hsym⟩
   obtain ⟨b2,O,R12,d,a,b⟩:=L.u6 b0 b1 R12 d a b
   refine Cod.at hok hsym (.sr (.kn 1 [26,25,24,23,17,16,15,5,4,3,1,0] r (.seq (.condP r hd (fun b3 hd=>?_) fun b3 hd=>?_))))
   · refine .sn [25,24,23,17,16,15,5,4,3,1,0] r (.seq (.block (.sr ?_)))
     obtain ⟨a0,e2,P,hd⟩:=hd
     obtain ⟨h1,o2243,f7,e3,b5,b6⟩:=b.2 _ _ P
     cases b6
     refine .ixa BT EX r e3 r a0 (AH P a0) r r (.ld1 (j:=0) BF b5 r r r r r (.ks 1 r (.nk [7,25,24,23,17,16,15,5,4,3,1,0] 3 r ?_)))
     obtain ⟨a1,h2,R,hd⟩:=hd
     obtain ⟨h3,o2290,f8,e4,e,b7⟩:=d.2 _ _ R
     obtain ⟨h4,h5,rfl,f⟩:=b7
     refine .ixa dF sizeOf181 r e4 r a1 (AH R a1) r r (.ld1 (j:=0) isAgg181 e r r r r r ?_)
     have b8:=eV (I:=e1) a f hd
     refine .call call199 r b8 r r fun h6 e5 S c0=>?_
     obtain ⟨h7,h8,h9,rfl,F,hd⟩:=c0
     obtain ⟨c1,c2,c3,R12,d,a⟩:=S.u6 b2 O L R12 d a
     obtain ⟨b,f,e⟩:=S.u3 b f e
     have c4:=SI (I:=e5) F hd
     refine .call call198 r c4 r r fun i0 i1 T c5=>?_
     obtain ⟨i2,i3,i4,rfl,g,hd⟩:=c5
     obtain ⟨c7,c8,c9,R12,d,a⟩:=T.u6 c1 c2 c3 R12 d a
     obtain ⟨b,f,e,F⟩:=T.u4 b f e F
     refine .ln BT r (.kn 1 [37,36,35,7,25,24,23,17,16,15,5,4,3,1,0] r (.block (.lx hd [36,35,25,24,23,17,16,15,7,5,4,3,1,0] [3] r (fun j E l (h,G,p)=>fun c w=>∃ q s,j ⟨51,[],none⟩ (fun I_=>True) ((37,.int .i64 G) :: E) (pto b4 (.cells #[.slice q h.length s] 30 (0,0)) :: OwnSl AE 3 q s h :: Rr p :: l) c w) (fun c w ho hs=>⟨_,_,jf rf trivial [0,0,0,0] r ho hs⟩) ?_)))
     rintro ⟨h,G,p⟩ f5 hd c w ⟨q,s,e6,u,_,hok,hsym⟩
     obtain ⟨U,d0,V,R12,d,a⟩:=u.u6 c7 c8 c9 R12 d a
     obtain ⟨b,g⟩:=u.u2 b g
     refine Cod.at hok hsym (.sr (.kn 1 [38,37,36,35,25,24,23,17,16,15,7,5,4,3,1,0] r (.seq (.condP r hd (fun d1 hd=>?_) fun d1 hd=>?_))))
     · refine .sn [37,36,35,25,24,23,17,16,15,7,5,4,3,1,0] r (.seq (.block (.sr ?_)))
       obtain ⟨a2,e7,W,hd⟩:=hd
       obtain ⟨i5,o2445,f9,e8,d2,d3⟩:=g.2 _ _ W
       cases d3
       refine .ixa BT EX r e8 r a2 (AH W a2) r r (.ld1 (j:=0) BF d2 r r r r r (.ks 1 r (.nk [9,37,36,35,25,24,23,17,16,15,7,5,4,3,1,0] 4 r (.buildArr qR nK EX (.c r r r (.o r) (.c r r r (.o r) (.c r r r (.o r) .n))) r r ?_))))
       have d4:=hY (J_:=e6) U (y13:=p) (y14:=h) (x20:=(k,e2,e7)) (p16:=q) (c17:=s) hd
       refine .callY r r (.o [2,0,0] r) d4 r r fun i6 i7 i8 X d5=>?_
       obtain ⟨t,i9,j0,rfl,rfl,hd⟩:=d5
       obtain ⟨d6,g0,g1,d7,R12,d⟩:=X.u6 U d0 V u R12 d
       obtain ⟨a,b,g⟩:=X.u3 a b g
       refine .rn 4 r (.kn 1 [47,37,36,35,25,24,23,17,16,15,7,5,4,3,1,0] r (.condP r hd (fun d8 hd=>?_) fun d8 hd=>?_))
       · exact .ret (KG results196 .n d6 (.o [0,0,0,0] r) ⟨(t.2.1,t.2.2),_,_,r,r,hd⟩)
       exact .sn [37,36,35,25,24,23,17,16,15,7,5,4,3,1,0] r (.region (.ks 2 r (.nil' fun c w ho hs=>⟨(t.2.2,AJ (G+1),t.2.1),hd,_,_,jf d7 trivial [1,1,0,0] r ho hs⟩)))
     exact .en [25,24,23,17,16,15,5,4,3,1,0] r (.region (.ks 2 r (.nil' fun c w ho hs=>⟨(h,AJ (A+1),p),hd,_,_,jf V trivial [0,0,0,0] r ho hs⟩)))
   exact .en [17,16,15,3,1,0] r (.region (.ks 2 r (.nil' fun c w ho hs=>⟨(m,AJ (k+1),B),hd,_,_,jf O trivial [0,0,0,0] r ho hs⟩)))
 exact .exit (RF results196 .n J (.o [2,0,0,0] r) ⟨(x,i),_,_,r,r,hd⟩)
theorem xO {a0:AK} {Q:(List Int)→Prop} (R3:RepSl BU I p1 c2 a0.Edges) (hd:YE a0 Q) :
  BR prog 53 [.agg #[.int .i64 a0.N,.slice p1 a0.Edges.length c2]] I (AhY Q):=by
 refine Fun.en func53 ntmps53 r fun w0 M=>?_
 refine .marks0 (.sr (.bx r fun b9=>?_))
 refine .kn 1 [1] r (.seq (.sr (.lw EJ CT .z r ?_)))
 have S:=MD (I:=I) R3 hd
 refine .cq call119 S r fun c1 hd=>?_
 refine .kn 1 [9,1] r (.condP r hd (fun T hd=>?_) fun T hd=>?_)
 · exact .sr (.kn 1 [2] r (.drop .z (.ret (tR .z results53 (.t r .n) rf ⟨([]:List Int),_,_,r,(.nil _ _ _),hd⟩))))
 refine .sn [1] r (.sk 1 r (.lo BF .z r ?_))
 obtain ⟨Z,a1,hd⟩:=hd
 refine .make (El:=AE) (zv:=0) 8 BT IN3 r r r r r r Z a1 r r r fun a2=>?_
 refine .alloc1 zeroValue30 r r r fun p=>?_
 refine .s1 iO .z r (.no [3,1] r (.seq (.sr (.lw EJ CT .p2 r ?_))))
 have U:=bB (I:=I) (a0:=a0) R3 hd
 refine .callS (.f call126 r) .n U r r fun c3 a3 c4 y V=>?_
 obtain ⟨a4,a5,a6,a7,rfl,h,rfl,hd⟩:=V
 have R3:=y.u1 R3
 refine .rn 5 r (.no [14,3] r (.drop .p3 (.block (.rangeF [] r call196 (.o [3,1,1,0] r) fun lr D rc hrc=>?_))))
 refine ⟨_,jA (I:=a3) (lr:=lr) (Rr:=bI lr [] rc) (o0:=0) (o1:=(List.replicate a0.N.toNat 0)) (o2:=a4) (b4:=p) (p5:=some ⟨a2,0,none⟩) (c6:=a0.N.toNat) (b9:=a5) (p10:=a6) (c11:=a7) ?_ h hd,?_⟩
 · skip
   intro I hJ a8 d a a9 k Qy  hd
   replace h:=h.mono hJ
   obtain ⟨rfl,hd⟩:=hd
   refine RFun.mk hrc r fun w0 M=>?_
   refine .region (.al qR r fun b0=>?_)
   refine .sa dH .z r (.nil' fun c w ho hs=>qK (E':=[(3,_),(4,_)]) ho ⟨r,r,trivial⟩ hs .p1 (.block (.sr (.lw isAgg99 dH .z r (.kn 1 [17,16,3] r (.drop .z (.block (.unroll 3 (.sr ?_)))))))))
   refine .kn 1 [18,17,16,3] r (.seq (.condKT r (by decide) (.sn [17,16,3] r (.seq (.block (.sr (.index1 (i:=0) nK EX BF r r (by decide) r r r (.kn 1 [6,17,16,3] r (.region ?_)))))))))
   refine .lo GS .p1 r (.ks 1 r ?_)
   obtain ⟨A,b,e,hd⟩:=hd
   refine .ownNe .p2 (DO e) fun l W=>?_
   cases W
   refine .ixa0 BT EX r r A (AH e A) r r (.lo1 (j:=0) BF .p2 e r r r r r (.ks 1 r ?_))
   obtain ⟨C,b1,q,hd⟩:=hd
   refine .ixa0 BT EX r r C (AH q C) r r (.stO1 (j:=0) (v':=(AJ (b+1))) EX .p2 q r r r (.o r) r (.rl .p2 [20] r (by simp only [List.length_set]) (.reat .p1 (B:=pto p (.cells #[.slice (some ⟨l,0,none⟩) (d.set a.1.toNat (AJ (b+1))).length k] 30 (0,0))) (by simp only [List.length_set]) (.no [17,16,3] r (.region (.ks 1 r (.sub (E':=[(3,_),(16,_),(17,_),(26,.int .i64 1)]) ⟨r,r,r,(by first | (rw [show AJ (0+1)=1 by decide]; rfl) | (rw [show IntKind.i64.wrap (0+1)=1 by decide]; rfl)),trivial⟩ (.ks 1 r (.nil' fun c w ho hs=>Unr.mk (Cod.at (E:=[(3,_),(16,_),(17,_)]) (ho.sub ⟨r,r,r,trivial⟩) hs ?_))))))))))
   refine .sr (.kn 1 [18,17,16,3] r (.seq (.condKT r (by decide) (.sn [17,16,3] r (.seq (.block (.sr (.index1 (i:=1) nK EX BF r r (by decide) r r r (.kn 1 [6,17,16,3] r ?_)))))))))
   refine .region (.lo GS .p1 r (.ks 1 r ?_))
   obtain ⟨F,g,s,hd⟩:=hd
   refine .ixa0 BT EX r r F (AH s F) r r (.lo1 (j:=0) BF .p2 s r r r r r (.ks 1 r ?_))
   obtain ⟨G,b2,u,hd⟩:=hd
   refine .ixa0 BT EX r r G (AH u G) r r (.stO1 (j:=0) (v':=(AJ (g+1))) EX .p2 u r r r (.o r) r (.rl .p2 [20] r (by simp only [List.length_set]) (.reat .p1 (B:=pto p (.cells #[.slice (some ⟨l,0,none⟩) ((d.set a.1.toNat (AJ (b+1))).set a.2.1.toNat (AJ (g+1))).length k] 30 (0,0))) (by simp only [List.length_set]) (.no [17,16,3] r (.region (.ks 1 r (.sub (E':=[(3,_),(16,_),(17,_),(26,.int .i64 2)]) ⟨r,r,r,(by first | (rw [show AJ (1+1)=2 by decide]; rfl) | (rw [show IntKind.i64.wrap (1+1)=2 by decide]; rfl)),trivial⟩ (.ks 1 r (.nil' fun c w ho hs=>Unr.mk (Cod.at (E:=[(3,_),(16,_),(17,_)]) (ho.sub ⟨r,r,r,trivial⟩) hs ?_))))))))))
   refine .sr (.kn 1 [18,17,16,3] r (.seq (.condKT r (by decide) (.sn [17,16,3] r (.seq (.block (.sr (.index1 (i:=2) nK EX BF r r (by decide) r r r (.kn 1 [6,17,16,3] r ?_)))))))))
   refine .region (.lo GS .p1 r (.ks 1 r ?_))
   obtain ⟨H,m,v,hd⟩:=hd
   refine .ixa0 BT EX r r H (AH v H) r r (.lo1 (j:=0) BF .p2 v r r r r r (.ks 1 r ?_))
   obtain ⟨J,b3,x,hd⟩:=hd
   refine .ixa0 BT EX r r J (AH x J) r r (.stO1 (j:=0) (v':=(AJ (m+1))) EX .p2 x r r r (.o r) r (.rl .p2 [20] r (by simp only [List.length_set]) (.reat .p1 (B:=pto p (.cells #[.slice (some ⟨l,0,none⟩) (((d.set a.1.toNat (AJ (b+1))).set a.2.1.toNat (AJ (g+1))).set a.2.2.toNat (AJ (m+1))).length k] 30 (0,0))) (by simp only [List.length_set]) (.no [17,16,3] r (.region (.ks 1 r (.sub (E':=[(3,_),(16,_),(17,_),(26,.int .i64 3)]) ⟨r,r,r,(by first | (rw [show AJ (2+1)=3 by decide]; rfl) | (rw [show IntKind.i64.wrap (2+1)=3 by decide]; rfl)),trivial⟩ (.ks 1 r (.nil' fun c w ho hs=>Unr.mk (Cod.at (E:=[(3,_),(16,_),(17,_)]) (ho.sub ⟨r,r,r,trivial⟩) hs ?_))))))))))
   refine .sr (.kn 1 [18,17,16,3] r (.seq (.condKF r (by decide) ?_)))
   exact .exit fun c w ho hs=>AfP 0 (.inl rfl) rf .z (.o [0,0] rfl) ⟨(true,0,(((d.set a.1.toNat (AJ (b+1))).set a.2.1.toNat (AJ (g+1))).set a.2.2.toNat (AJ (m+1)))),_,_,rfl,rfl,hd⟩ hs
 intro b5 b6 l' K L
 obtain ⟨X,b7,b8,rfl,rfl,hd⟩:=L
 obtain ⟨O,h⟩:=K.u2 y h
 obtain ⟨hz,hd⟩:=hd
 refine ⟨_,_,r,fun hj=>?_,fun i hj=>absurd (hz.symm.trans hj) (by simp)⟩
 refine .rn 4 r (.mkS [3] r r (.drop .p3 (.sr (.lo GS .p1 r (.kn 1 [2] r (.drop .p1 (.pub .p1 fun c0 P Y=>?_)))))))
 have R:=P.u1 O
 exact .ret (tR .z results53 (.t r .n) R ⟨X.2,_,_,r,Y,hd⟩)
theorem SK {Q:Bool→Prop} (hd:MP Q) :
  BR prog 46 [] I (fun _=>dA Q):=by
 refine Fun.en func46 ntmps46 r fun w0 M=>?_
 refine .sk 1 r (.ns [] r (.build KZ nJ nH (.c r r r (.o r) (.c r r r (.o r) (.c r r r (.o r) .n))) (by exact ⟨⟨_,_,r,r,r⟩,⟨⟨_,_,r,r,r⟩,⟨⟨_,_,r,r,r⟩,trivial⟩⟩⟩) r r (.build KZ nJ nH (.c r r r (.o r) (.c r r r (.o r) (.c r r r (.o r) .n))) (by exact ⟨⟨_,_,r,r,r⟩,⟨⟨_,_,r,r,r⟩,⟨⟨_,_,r,r,r⟩,trivial⟩⟩⟩) r r (.build KZ nJ nH (.c r r r (.o r) (.c r r r (.o r) (.c r r r (.o r) .n))) (by exact ⟨⟨_,_,r,r,r⟩,⟨⟨_,_,r,r,r⟩,⟨⟨_,_,r,r,r⟩,trivial⟩⟩⟩) r r (.build KZ nJ nH (.c r r r (.o r) (.c r r r (.o r) (.c r r r (.o r) .n))) (by exact ⟨⟨_,_,r,r,r⟩,⟨⟨_,_,r,r,r⟩,⟨⟨_,_,r,r,r⟩,trivial⟩⟩⟩) r r (.buildSlice 4 CL CN KZ r r (.c r r r (.c r r r (.c r r r (.c r r r .n)))) r r fun b6=>?_))))))
 refine .ownB (El:=BU) (ys:=([({ From:=0,To:=1,W:=9 }:AL),({ From:=2,To:=1,W:=0 }:AL),({ From:=0,To:=2,W:=1 }:AL),({ From:=3,To:=3,W:=1 }:AL)]:List AL)) .z (RepCs.cons (cs:=[.int .i64 0,.int .i64 1,.int .i64 9]) r (RepCs.cons (cs:=[.int .i64 2,.int .i64 1,.int .i64 0]) r (RepCs.cons (cs:=[.int .i64 0,.int .i64 2,.int .i64 1]) r (RepCs.cons (cs:=[.int .i64 3,.int .i64 3,.int .i64 1]) r .nil)))) r (.build MR fH nF (.c r r r (.o r) (.c r r r (.o r) .n)) (by exact ⟨⟨_,_,r,r,r⟩,⟨⟨_,_,r,r,r⟩,trivial⟩⟩) r r (.al MR r fun b9=>?_))
 refine .sa CT .z r (.ns [1] r (.lw EJ CT .z r ?_))
 have a1:=fun (J:IH) (hJ:IH.le I J) (hL:V7 J [OwnSl BU 49 (some ⟨b6,0,none⟩) 4 ([({ From:=0,To:=1,W:=9 }:AL),({ From:=2,To:=1,W:=0 }:AL),({ From:=0,To:=2,W:=1 }:AL),({ From:=3,To:=3,W:=1 }:AL)]:List AL)])=>gK (I:=J) (a0:=({ N:=4,Edges:=([({ From:=0,To:=1,W:=9 }:AL),({ From:=2,To:=1,W:=0 }:AL),({ From:=0,To:=2,W:=1 }:AL),({ From:=3,To:=3,W:=1 }:AL)]:List AL) }:AK)) (Ad7 hL.1) hd
 refine .callB (.f call45 r) (.o [1] r) a1 r r fun v17 _ a2=>?_
 obtain ⟨r15,rfl,hd⟩:=a2
 refine .ks 5 r (.ns [3,2,1] r (.lw EJ CT .z r ?_))
 have a3:=fun (J:IH) (hJ:IH.le I J) (hL:V7 J [OwnSl BU 49 (some ⟨b6,0,none⟩) 4 ([({ From:=0,To:=1,W:=9 }:AL),({ From:=2,To:=1,W:=0 }:AL),({ From:=0,To:=2,W:=1 }:AL),({ From:=3,To:=3,W:=1 }:AL)]:List AL)])=>gK (I:=J) (a0:=({ N:=4,Edges:=([({ From:=0,To:=1,W:=9 }:AL),({ From:=2,To:=1,W:=0 }:AL),({ From:=0,To:=2,W:=1 }:AL),({ From:=3,To:=3,W:=1 }:AL)]:List AL) }:AK)) (Ad7 hL.1) hd
 refine .callB (.f call45 r) (.o [1] r) a3 r r fun v25 _ a4=>?_
 obtain ⟨r23,rfl,hd⟩:=a4
 refine .ks 5 r (.ns [5,3,2,1] r (.lw EJ CT .z r (.pub .p1 fun I67 a5 a=>?_)))
 have K:=W2 (I:=I67) (a0:=({ N:=4,Edges:=([({ From:=0,To:=1,W:=9 }:AL),({ From:=2,To:=1,W:=0 }:AL),({ From:=0,To:=2,W:=1 }:AL),({ From:=3,To:=3,W:=1 }:AL)]:List AL) }:AK)) a hd
 refine .call call48 r K r r fun v74 I71 a6 a7=>?_
 obtain ⟨r70,p76,c77,p79,c80,p82,c83,p85,c86,p88,c89,p91,c92,p94,c95,p97,c98,p100,c101,rfl,g,h,i,j,l,m,p,q,d,hd⟩:=a7
 obtain ⟨b,a⟩:=a6.u2 a5 a
 refine .ks 3 r (.al XR r fun b105=>?_)
 refine .sa KH .z r (.ks 1 r (.nk [7,6,5,3,2,1] 3 r ?_))
 refine AQ hd (fun t hd=>?_) fun t hd=>?_
 · rw [t]
   refine .ks 4 r ?_
   refine AQ hd (fun u hd=>?_) fun u hd=>?_
   · rw [u]
     refine .ks 4 r ?_
     refine AQ hd (fun v hd=>?_) fun v hd=>?_
     · rw [v]
       refine .ks 4 r ?_
       refine AQ hd (fun w hd=>?_) fun w hd=>?_
       · rw [w]
         refine .ks 2 r (.yes r (.lo qQ .z r (.yes r (.ln X2 r (.ks 3 r ?_)))))
         refine AQ hd (fun x hd=>?_) fun x hd=>?_
         · rw [x]
           refine .ks 1 r (.yes r (.lo kU .z r (.ks 3 r ?_)))
           refine AQ hd (fun y hd=>?_) fun y hd=>?_
           · rw [y]
             refine .yes r (.lw EJ CT .p1 r ?_)
             have L:=mZ (I:=I71) (a0:=({ N:=4,Edges:=([({ From:=0,To:=1,W:=9 }:AL),({ From:=2,To:=1,W:=0 }:AL),({ From:=0,To:=2,W:=1 }:AL),({ From:=3,To:=3,W:=1 }:AL)]:List AL) }:AK)) a hd
             refine .yes r (.call call51 r L r r fun v117 I114 E O=>?_)
             obtain ⟨r113,p119,c120,rfl,e,hd⟩:=O
             obtain ⟨P,a,g,h,i,j⟩:=E.u6 b a g h i j
             obtain ⟨l,m,p,q,d⟩:=E.u5 l m p q d
             refine .yes r (.buildArr qR nK EX (.c r r r (.o r) (.c r r r (.o r) (.c r r r (.o r) .n))) r r (.yes r (.buildSlice 1 ZY dH qR r r (.c r r r .n) r r fun b124=>?_)))
             refine .pubB (El:=OV) (ys:=([(0,1,2)]:List (Int×Int×Int))) (k:=1) .z (.one r) r fun H F s=>?_
             obtain ⟨G,a,g,h,i,j⟩:=F.u6 P a g h i j
             obtain ⟨l,m,p,q,d,e⟩:=F.u6 l m p q d e
             have R:=eT (I:=H) e s hd
             refine .yes r (.callP call50 r R r r fun v132 S=>?_)
             obtain ⟨r130,rfl,hd⟩:=S
             refine .ks 2 r ?_
             refine AQ hd (fun A hd=>?_) fun A hd=>?_
             · rw [A]
               refine .yes r (.lw EJ CT .p1 r ?_)
               have T:=xO (I:=H) (a0:=({ N:=4,Edges:=([({ From:=0,To:=1,W:=9 }:AL),({ From:=2,To:=1,W:=0 }:AL),({ From:=0,To:=2,W:=1 }:AL),({ From:=3,To:=3,W:=1 }:AL)]:List AL) }:AK)) a hd
               refine .yes r (.call call53 r T r r fun v139 I136 B U=>?_)
               obtain ⟨r135,p141,c142,rfl,D,hd⟩:=U
               obtain ⟨V,a,g,h,i,j⟩:=B.u6 G a g h i j
               obtain ⟨l,m,p,q,d,e⟩:=B.u6 l m p q d e
               have s:=B.u1 s
               refine .yes r (.buildSlice 4 BT EX nL r r (.c r r r (.c r r r (.c r r r (.c r r r .n)))) r r fun b146=>?_)
               refine .pubB (El:=AE) (ys:=([1,1,1,0]:List Int)) (k:=4) .z (RepCs.cons (cs:=[.int .i64 1]) r (RepCs.cons (cs:=[.int .i64 1]) r (RepCs.cons (cs:=[.int .i64 1]) r (RepCs.cons (cs:=[.int .i64 0]) r .nil)))) r fun a8 C a9=>?_
               obtain ⟨X,a,g,h,i,j⟩:=C.u6 V a g h i j
               obtain ⟨l,m,p,q,d,e⟩:=C.u6 l m p q d e
               obtain ⟨s,D⟩:=C.u2 s D
               have Y:=LG (I:=a8) D a9 hd
               refine .yes r (.callP call52 r Y r r fun v154 Z=>?_)
               obtain ⟨b0,rfl,hd⟩:=Z
               exact .kn 2 [0] r (.drop .z (.drop .z (.r1 results46 r X ⟨b0,r,hd⟩)))
             rw [A]
             exact .kn 6 [0] r (.drop .z (.drop .z (.r1 results46 r G ⟨false,r,hd⟩)))
           rw [y]
           exact .kn 13 [0] r (.drop .z (.drop .z (.r1 results46 r b ⟨false,r,hd⟩)))
         rw [x]
         exact .kn 18 [0] r (.drop .z (.drop .z (.r1 results46 r b ⟨false,r,hd⟩)))
       rw [w]
       exact .kn 25 [0] r (.drop .z (.drop .z (.r1 results46 r b ⟨false,r,hd⟩)))
     rw [v]
     exact .kn 29 [0] r (.drop .z (.drop .z (.r1 results46 r b ⟨false,r,hd⟩)))
   rw [u]
   exact .kn 33 [0] r (.drop .z (.drop .z (.r1 results46 r b ⟨false,r,hd⟩)))
 rw [t]
 exact .kn 37 [0] r (.drop .z (.drop .z (.r1 results46 r b ⟨false,r,hd⟩)))
end Go.Proofs.YtbohadngdkjljaaGreat
