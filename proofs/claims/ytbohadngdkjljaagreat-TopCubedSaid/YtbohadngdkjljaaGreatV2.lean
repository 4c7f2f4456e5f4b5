/- The walks (printed by a program of ours). -/
import Derived.Test.YtbohadngdkjljaaGreatV1
namespace Go.Proofs.YtbohadngdkjljaaGreat
open Go Go.Fw
set_option linter.unusedVariables false
set_option linter.unusedSimpArgs false
set_option maxRecDepth 8000
set_option maxHeartbeats 1000000
open Tryz
variable {I:IH}
variable {b2 b3 b4 b5 b6 b7 b8 b9 c2 c3 c4 c5 c6 c7 c8 c9 lr b10 b11 b12 b13 b18 b19 b20 b21 b35 b36 b37 b38 b39 b40 b41 b42 b43 b54 b59 c10 c11 c12 c13 c14 c15 c16 c17 c18 c19 c20 c21 c22 c23 c24 c25 c26 c27 c28 c29 c30 c31 c32 c33 c34 c35 c36 c37 c38 c39 c41 c42 c43 c44 c45 c46 c47 c48 c49 c50 c51 c52 c54 c55 c57 c60 c63 c66 c69 c72 c75 c78:Nat}
variable {p1 p2 p3 p4 p5 p6 p7 p8 p9 p10 p11 p12 p13 p14 p15 p16 p17 p18 p19 p20 p21 p22 p23 p24 p25 p26 p27 p28 p29 p30 p31 p32 p33 p34 p35 p36 p37 p38 p40 p41 p42 p43 p44 p45 p46 p47 p48 p49 p50 p51 p53 p54 p56 p59 p62 p65 p68 p71 p74 p77:Option Addr}
variable {Rr:Nat→HA}
theorem ZJ {a0:GH} {Q:Bool→Prop} (hd:OD a0 Q) :
  Fun prog 62 #[.agg (YD a0).toArray] I [] (fun I_ v l=>∃ r,v=.bool r∧l=[]∧Q r):=by
 refine Fun.en func62 ntmps62 r fun w0 M=>?_
 refine .sr (.bx r fun c=>?_)
 refine .ks 1 r (.ns [1] r (.lw jI VE .z r ?_))
 have a:=UD (I:=I) hd
 refine .cq call19 a r fun b hd=>?_
 exact .kn 2 [2] r (.drop .z (.q1 results62 rf [] r ⟨(!b),r,r,hd⟩))
theorem IJ {a0:List GH} {Q:Int→Prop} (R3:RepSl V7 I p1 c2 a0) (hd:DJ a0 Q) :
  Fun prog 129 #[.slice p1 a0.length c2,.func (.func 62) #[] #[]] I [] (fun I_ v l=>∃ r,v=.int .i64 r∧l=[]∧Q r):=by
 refine Fun.en func129 ntmps129 r fun w0 M=>?_
 refine .sr (.kn 1 [1,0] r (.seq (.sk 1 r (.ln ZV r (.kn 1 [8,7,1,0] r (.block (.lp hd [7,1,0] [] r (fun j E l d=>j ((8,.int .i64 d) :: E) l) (ji rf [] r) ?_)))))))
 refine fun d q hd=>jq r fun s a=>?_
 have R3:=a.u1 R3
 refine .sr (.kn 1 [9,8,7,1,0] r (.seq (.condP r hd (fun h hd=>?_) fun h hd=>?_)))
 · refine .sn [8,7,1,0] r (.seq (.block (.sk 2 r (.nk [5,8,7,1,0] 3 r ?_))))
   obtain ⟨g,t,e,hd⟩:=hd
   obtain ⟨x,o55,w,u,b,i⟩:=R3.2 _ _ e
   cases i
   refine .ixa ZV VE r u r g (AH e g) r r (.ldW jI VE b r r r r ?_)
   have k:=ZJ (I:=s) (a0:=t) hd
   refine .callS (.c call62 r r) .n k r r fun y z A m o=>?_
   obtain ⟨B,rfl,rfl,hd⟩:=o
   obtain ⟨f,R3,b⟩:=m.u3 a R3 b
   refine .rn 0 r (.no [16,5,8,7,1,0] r (.condP r hd (fun p hd=>?_) fun p hd=>?_))
   · exact .sr (.kn 2 [4,1] r (.q1 results129 f [] r ⟨d,r,r,hd⟩))
   exact .sn [8,7,1,0] r (.region (.ks 2 r (.nil' (je (AJ (d+1)) hd f [] r))))
 exact .en [1] r (.sr (.kn 1 [4,1] r (.q1 results129 a [] r ⟨(-1),r,r,hd⟩)))
theorem ED {a0:List GH} {Q:Bool→Prop} (R3:RepSl V7 I p1 c2 a0) (hd:BR a0 Q) :
  Fun prog 61 #[.slice p1 a0.length c2,.func (.func 62) #[] #[]] I [] (fun I_ v l=>∃ r,v=.bool r∧l=[]∧Q r):=by
 refine Fun.en func61 ntmps61 r fun w0 M=>?_
 refine .sk 1 r (.nk [1,0] 2 r ?_)
 have b:=IJ (I:=I) (a0:=a0) R3 hd
 refine .callS (.f call129 r) .n b r r fun e g h a c=>?_
 obtain ⟨d,rfl,rfl,hd⟩:=c
 have R3:=a.u1 R3
 exact .rn 0 r (.kn 2 [4,1] r (.q1 results61 a [] r ⟨(decide (0≤d)),r,r,hd⟩))
theorem UE {o0:List (Nat×AA)} {o1:List (Nat×AF)} {a0:GH} {Q:Bool→Prop} (hd:NO o0 o1 a0 Q) :
  Fun prog 25 #[.pointer none,.agg (YD a0).toArray] I [BH AG o0,BH AY o1] (fun I_ v l=>∃ r,v=.bool r∧l=[BH AG o0,BH AY o1]∧Q r):=by
 refine Fun.en func25 ntmps25 r fun w0 M=>?_
 refine .sr (.bx r fun a=>?_)
 exact .kn 1 [3,0] r (.seq (.sk 1 r (.eqNilP mE r r r r (.kn 5 [11,3,0] r (.condKT r r (.sr (.kn 1 [4] r (.drop .z (.q1 results25 rf [0,0] r ⟨false,r,r,hd⟩)))))))))
theorem JR {o0:List (Nat×AA)} {Q:Bool→Prop} (hd:HC o0 Q) :
  Fun prog 38 #[.pointer none] I [BH AG o0] (fun I_ v l=>∃ r,v=.bool r∧l=[BH AG o0]∧Q r):=by
 refine Fun.en func38 ntmps38 r fun w0 M=>?_
 refine .sr (.box1 r r r r fun a=>?_)
 refine .kn 1 [1] r (.seq (.sr (.lo isAgg60 .z r (.eqNilP mE r r r r (.no [4,1] r (.condKT r r (.sr (.kn 1 [2] r (.drop .z ?_)))))))))
 exact .q1 results38 rf [0] r ⟨false,r,r,hd⟩
theorem QQ {o0:List (Nat×AA)} {o1:List (Nat×AF)} (hd:JX o0 o1) :
  Fun prog 63 #[.pointer none] I [BH AG o0,BH AY o1] (fun _ _ _=>False):=by
 refine Fun.en func63 ntmps63 r fun w0 M=>?_
 refine .sk 1 r (.nk [0] 1 r (.no [3,0] r (.seq (.sk 1 r ?_))))
 exact hd.elim
theorem QR {o0:List (Nat×AA)} {Q:(Rows×Int)→Prop} (hd:JY o0 Q) :
  Fun prog 64 #[.pointer none] I [BH AG o0] (fun I_ v l=>∃ r p2 c3 p5 c6 p8 c9,v=.tuple #[.agg #[.int .i64 r.1.Rows,.int .i64 r.1.Cols,.slice p2 r.1.Start.length c3,.slice p5 r.1.Col.length c6,.slice p8 r.1.Val.length c9],.int .i64 r.2]∧RepSl AE I_ p2 c3 r.1.Start∧RepSl AE I_ p5 c6 r.1.Col∧RepSl AE I_ p8 c9 r.1.Val∧l=[BH AG o0]∧Q r):=by
 refine Fun.en func64 ntmps64 r fun w0 M=>?_
 refine .sr (.al DO r fun a=>?_)
 refine .kn 1 [2,0] r (.seq (.sk 1 r (.eqNilP mE r r r r (.no [5,2,0] r (.condKT r r (.sr (.build DO HY HX .n (by exact trivial) r r (.sa AU .z r (.kn 1 [3,2] r ?_)))))))))
 exact .ret (OA results64 (.w BU AU r .z r (.t r .n)) rf (.o [1] r) ⟨(({ Rows:=0,Cols:=0,Start:=([]:List Int),Col:=([]:List Int),Val:=([]:List Int) }:Rows),10),_,_,_,_,_,_,r,(.nil _ none 0),(.nil _ none 0),(.nil _ none 0),r,hd⟩)
theorem HI {o0:AD} {o1:List (Nat×AA)} {a0:Int} {Q:Bool→Prop} (R6:RepSl AE I p4 c5 o0.p.A.Start) (R9:RepSl AE I p7 c8 o0.p.A.Col) (R12:RepSl AE I p10 c11 o0.p.A.Val) (R15:RepSl AE I p13 c14 o0.p.B.Start) (R18:RepSl AE I p16 c17 o0.p.B.Col) (R21:RepSl AE I p19 c20 o0.p.B.Val) (R24:RepSl AE I p22 c23 o0.p.Mask.Start) (R27:RepSl AE I p25 c26 o0.p.Mask.Col) (R30:RepSl AE I p28 c29 o0.p.Mask.Val) (R33:RepSl BV I p31 c32 o0.stages) (R36:RepSl CO I p34 c35 o0.workers) (hd:DQ o0 o1 a0 Q) :
  Fun prog 96 #[.pointer (some ⟨b3,0,none⟩),.int .i64 a0] I [pto b3 (.cells (AQ o0 p4 c5 p7 c8 p10 c11 p13 c14 p16 c17 p19 c20 p22 c23 p25 c26 p28 c29 p31 c32 p34 c35 b38) 121 (0,0)),OwnMap CX CO false b38 o0.boxes,BH AG o1] (fun I_ v l=>∃ r,v=.bool r∧l=[pto b3 (.cells (AQ o0 p4 c5 p7 c8 p10 c11 p13 c14 p16 c17 p19 c20 p22 c23 p25 c26 p28 c29 p31 c32 p34 c35 b38) 121 (0,0)),OwnMap CX CO false b38 o0.boxes,BH AG o1]∧Q r):=by
 refine Fun.en func96 ntmps96 r fun w0 M=>?_
 refine .sk 1 r (.nk [1,0] 1 r (.neNilP mE r r r r (.ks 5 r ?_)))
 refine AN hd (fun a hd=>?_) fun a hd=>?_
 · rw [a]
   exact .ks 4 r (.yes r (.lo isAgg119 .z r (.yes r (.ln QD r (.kn 3 [4,0] r (.q1 results96 rf [0,0,0] r ⟨(decide (a0<(o0.workers.length:Int))),r,r,hd⟩))))))
 rw [a]
 exact .kn 9 [4,0] r (.q1 results96 rf [0,0,0] r ⟨false,r,r,hd⟩)
theorem SJ {o0:AD} {o1:List (Nat×AA)} {a0:Int} {Q:Int→Prop} (R6:RepSl AE I p4 c5 o0.p.A.Start) (R9:RepSl AE I p7 c8 o0.p.A.Col) (R12:RepSl AE I p10 c11 o0.p.A.Val) (R15:RepSl AE I p13 c14 o0.p.B.Start) (R18:RepSl AE I p16 c17 o0.p.B.Col) (R21:RepSl AE I p19 c20 o0.p.B.Val) (R24:RepSl AE I p22 c23 o0.p.Mask.Start) (R27:RepSl AE I p25 c26 o0.p.Mask.Col) (R30:RepSl AE I p28 c29 o0.p.Mask.Val) (R33:RepSl BV I p31 c32 o0.stages) (R36:RepSl CO I p34 c35 o0.workers) (hd:FL o0 o1 a0 Q) :
  Fun prog 29 #[.pointer (some ⟨b3,0,none⟩),.int .i64 a0] I [pto b3 (.cells (AQ o0 p4 c5 p7 c8 p10 c11 p13 c14 p16 c17 p19 c20 p22 c23 p25 c26 p28 c29 p31 c32 p34 c35 b38) 121 (0,0)),OwnMap CX CO false b38 o0.boxes,BH AG o1] (fun I_ v l=>∃ r,v=.int .i64 r∧l=[pto b3 (.cells (AQ o0 p4 c5 p7 c8 p10 c11 p13 c14 p16 c17 p19 c20 p22 c23 p25 c26 p28 c29 p31 c32 p34 c35 b38) 121 (0,0)),OwnMap CX CO false b38 o0.boxes,BH AG o1]∧Q r):=by
 refine Fun.en func29 ntmps29 r fun w0 M=>?_
 refine .sr (.kn 1 [1,0] r (.seq (.sk 2 r ?_)))
 have g:=HI (I:=I) (o0:=o0) (o1:=o1) (a0:=a0) (b3:=b3) (p4:=p4) (c5:=c5) (p7:=p7) (c8:=c8) (p10:=p10) (c11:=c11) (p13:=p13) (c14:=c14) (p16:=p16) (c17:=c17) (p19:=p19) (c20:=c20) (p22:=p22) (c23:=c23) (p25:=p25) (c26:=c26) (p28:=p28) (c29:=c29) (p31:=p31) (c32:=c32) (p34:=p34) (c35:=c35) (b38:=b38) R6 R9 R12 R15 R18 R21 R24 R27 R30 R33 R36 hd
 refine .callS (.f call96 r) (.o [0,0,0] r) g r r fun R S T a h=>?_
 obtain ⟨U,rfl,rfl,hd⟩:=h
 obtain ⟨R6,R9,R12,R15,R18,R21⟩:=a.u6 R6 R9 R12 R15 R18 R21
 obtain ⟨R24,R27,R30,R33,R36⟩:=a.u5 R24 R27 R30 R33 R36
 refine .rn 3 r (.kn 1 [8,1,0] r (.condP r hd (fun i hd=>?_) fun i hd=>?_))
 · exact .sr (.kn 1 [4,0] r (.q1 results29 a [0,0,0] r ⟨0,r,r,hd⟩))
 refine .sn [1,0] r (.sk 3 r (.lo isAgg119 .z r (.ks 1 r ?_)))
 obtain ⟨d,V,b,hd⟩:=hd
 obtain ⟨W,o59,P,q,k,m⟩:=R36.2 _ _ b
 cases m
 refine .ixa QD sizeOf122 r q r d (AH b d) r r (.ld1 (j:=0) JC k r r r r r ?_)
 obtain ⟨s,e,n,c,hd⟩:=hd
 refine .bankO .p2 c fun ⟨t,u,w,x,y,C,D,E,F,G,H⟩ ⟨J,K,L,N,O⟩=>?_
 exact .rn 5 r (.sub (E':=[(0,_),(1,_),(9,_),(10,_),(11,_),(12,_),(13,_),(14,_),(15,.pointer (some ⟨s,0,none⟩))]) ⟨r,r,r,r,r,r,r,r,(by rw [n]; rfl),trivial⟩ (.ks 2 r (.lo X0 .z r (.ln YM r (.ks 1 r (.bankB (B:=AG) (t,u,w,x,y,C,D,E,F,G,H) e ⟨J,K,L,N,O⟩ c (.o [0,0,0] r) (.no [4,0] r (.q1 results29 a [1,1,0] r ⟨(e.out.length:Int),r,r,hd⟩))))))))
theorem fI {a0:Int} {Q0:Int→Prop} {Q1:(Int×AF)→Prop} (hd:OX a0 Q0 Q1) :
  Fun prog 155 #[.int .i64 a0] I [] (fun I_ v l=>(∃ r,v=.tuple #[.pointer none,.int .i64 r]∧l=[]∧Q0 r)∨(∃ r b1 p2 c3 b7 b9,v=.tuple #[.pointer (some ⟨b1,0,none⟩),.int .i64 r.1]∧l=[pto b1 (.cells #[.int .i64 r.2.room,.slice p2 r.2.row.length c3,.map (some b7),.map (some b9),.int .i64 r.2.sent,.int .i64 r.2.taken] 213 (0,0)),OwnSl AE 3 p2 c3 r.2.row,OwnMap (Value.int .i64) DG true b7 r.2.by_,OwnMap (Value.int .i64) AE false b9 r.2.often]∧Q1 r)):=by
 refine Fun.en func155 ntmps155 r fun w0 M=>?_
 refine .sr (.kn 2 [0] r (.seq (.sk 3 r ?_)))
 refine AN hd (fun a hd=>?_) fun a hd=>?_
 · rw [a]
   exact .kn 3 [9,0] r (.condKT r r (.sr (.kn 2 [3,2] r (.ret (OA results155 (.t r (.t r .n)) rf .n (.inl ⟨3,r,r,hd⟩))))))
 rw [a]
 refine .kn 3 [9,0] r (.condP r hd (fun b hd=>?_) fun b hd=>?_)
 · exact .sr (.kn 2 [3,2] r (.ret (OA results155 (.t r (.t r .n)) rf .n (.inl ⟨3,r,r,hd⟩))))
 refine .sn [0] r (.sk 1 r (.mkMap (Value.int .i64) DG true r r fun d=>?_))
 refine .mkMap (Value.int .i64) AE false r r fun e=>?_
 refine .build zeroValue213 underlying213 AcG (.c r r r (.o r) (.c r r r (.o r) (.c r r r (.o r) .n))) (by exact ⟨⟨_,_,r,r,r⟩,⟨⟨_,_,r,r,r⟩,⟨⟨_,_,r,r,r⟩,trivial⟩⟩⟩) r r (.bx r fun b7=>?_)
 exact .kn 2 [3,2] r (.own0 AE 3 (.ret (OA results155 (.t r (.t r .n)) rf (.o [1,0,1,0] r) (.inr ⟨(0,({ room:=a0,row:=([]:List Int),by_:=([]:List (Int×BI)),often:=([]:List (Int×Int)),sent:=0,taken:=0 }:AF)),_,_,_,_,_,r,r,hd⟩))))
theorem FC {o0:AD} {o1:List (Nat×AA)} {o2:List (Nat×AF)} {a0 a1:Int} {Q0:(AD×(List (Nat×AF)))→Prop} {Q1:((Option Nat)×AD×(List (Nat×AF)))→Prop} (R7:RepSl AE I p5 c6 o0.p.A.Start) (R10:RepSl AE I p8 c9 o0.p.A.Col) (R13:RepSl AE I p11 c12 o0.p.A.Val) (R16:RepSl AE I p14 c15 o0.p.B.Start) (R19:RepSl AE I p17 c18 o0.p.B.Col) (R22:RepSl AE I p20 c21 o0.p.B.Val) (R25:RepSl AE I p23 c24 o0.p.Mask.Start) (R28:RepSl AE I p26 c27 o0.p.Mask.Col) (R31:RepSl AE I p29 c30 o0.p.Mask.Val) (R34:RepSl BV I p32 c33 o0.stages) (R37:RepSl CO I p35 c36 o0.workers) (hd:CG o0 o1 o2 a0 a1 Q0 Q1) :
  Fun prog 85 #[.pointer (some ⟨b4,0,none⟩),.int .i64 a0,.int .i64 a1] I [pto b4 (.cells (AQ o0 p5 c6 p8 c9 p11 c12 p14 c15 p17 c18 p20 c21 p23 c24 p26 c27 p29 c30 p32 c33 p35 c36 b39) 121 (0,0)),OwnMap CX CO false b39 o0.boxes,BH AG o1,BH AY o2] (fun I_ v l=>(∃ r p41 c42 p44 c45 p47 c48 p50 c51 p53 c54 p56 c57 p59 c60 p62 c63 p65 c66 p68 c69 p71 c72,v=.pointer none∧RepSl AE I_ p41 c42 r.1.p.A.Start∧RepSl AE I_ p44 c45 r.1.p.A.Col∧RepSl AE I_ p47 c48 r.1.p.A.Val∧RepSl AE I_ p50 c51 r.1.p.B.Start∧RepSl AE I_ p53 c54 r.1.p.B.Col∧RepSl AE I_ p56 c57 r.1.p.B.Val∧RepSl AE I_ p59 c60 r.1.p.Mask.Start∧RepSl AE I_ p62 c63 r.1.p.Mask.Col∧RepSl AE I_ p65 c66 r.1.p.Mask.Val∧RepSl BV I_ p68 c69 r.1.stages∧RepSl CO I_ p71 c72 r.1.workers∧l=[pto b4 (.cells (AQ r.1 p41 c42 p44 c45 p47 c48 p50 c51 p53 c54 p56 c57 p59 c60 p62 c63 p65 c66 p68 c69 p71 c72 b39) 121 (0,0)),OwnMap CX CO false b39 r.1.boxes,BH AG o1,BH AY r.2]∧Q0 r)∨(∃ r p41 c42 p44 c45 p47 c48 p50 c51 p53 c54 p56 c57 p59 c60 p62 c63 p65 c66 p68 c69 p71 c72,v=.pointer (tL r.1)∧RepSl AE I_ p41 c42 r.2.1.p.A.Start∧RepSl AE I_ p44 c45 r.2.1.p.A.Col∧RepSl AE I_ p47 c48 r.2.1.p.A.Val∧RepSl AE I_ p50 c51 r.2.1.p.B.Start∧RepSl AE I_ p53 c54 r.2.1.p.B.Col∧RepSl AE I_ p56 c57 r.2.1.p.B.Val∧RepSl AE I_ p59 c60 r.2.1.p.Mask.Start∧RepSl AE I_ p62 c63 r.2.1.p.Mask.Col∧RepSl AE I_ p65 c66 r.2.1.p.Mask.Val∧RepSl BV I_ p68 c69 r.2.1.stages∧RepSl CO I_ p71 c72 r.2.1.workers∧l=[pto b4 (.cells (AQ r.2.1 p41 c42 p44 c45 p47 c48 p50 c51 p53 c54 p56 c57 p59 c60 p62 c63 p65 c66 p68 c69 p71 c72 b39) 121 (0,0)),OwnMap CX CO false b39 r.2.1.boxes,BH AG o1,BH AY r.2.2]∧Q1 r)):=by
 refine Fun.en func85 ntmps85 r fun w0 M=>?_
 refine .sr (.kn 1 [2,1,0] r (.seq (.sk 2 r ?_)))
 have F:=HI (I:=I) (o0:=o0) (o1:=o1) (a0:=a0) (b3:=b4) (p4:=p5) (c5:=c6) (p7:=p8) (c8:=c9) (p10:=p11) (c11:=c12) (p13:=p14) (c14:=c15) (p16:=p17) (c17:=c18) (p19:=p20) (c20:=c21) (p22:=p23) (c23:=c24) (p25:=p26) (c26:=c27) (p28:=p29) (c29:=c30) (p31:=p32) (c32:=c33) (p34:=p35) (c35:=c36) (b38:=b39) R7 R10 R13 R16 R19 R22 R25 R28 R31 R34 R37 hd
 refine .callS (.f call96 r) (.o [0,0,0] r) F r r fun a8 X a9 d G=>?_
 obtain ⟨b0,rfl,rfl,hd⟩:=G
 obtain ⟨R7,R10,R13,R16,R19,R22⟩:=d.u6 R7 R10 R13 R16 R19 R22
 obtain ⟨R25,R28,R31,R34,R37⟩:=d.u5 R25 R28 R31 R34 R37
 refine .rn 4 r (.ks 2 r ?_)
 refine AN hd (fun i hd=>?_) fun i hd=>?_
 · rw [i]
   exact .kn 5 [17,2,1,0] r (.condKT r r (.sr (.kn 1 [6,0] r (.q1 results85 d [0,0,0,0] r (.inl ⟨(o0,o2),_,_,_,_,_,_,_,_,_,_,_,_,_,_,_,_,_,_,_,_,_,_,r,R7,R10,R13,R16,R19,R22,R25,R28,R31,R34,R37,r,hd⟩)))))
 rw [i]
 refine .ks 2 r ?_
 have H:=HI (I:=X) (o0:=o0) (o1:=o1) (a0:=a1) (b3:=b4) (p4:=p5) (c5:=c6) (p7:=p8) (c8:=c9) (p10:=p11) (c11:=c12) (p13:=p14) (c14:=c15) (p16:=p17) (c17:=c18) (p19:=p20) (c20:=c21) (p22:=p23) (c23:=c24) (p25:=p26) (c26:=c27) (p28:=p29) (c29:=c30) (p31:=p32) (c32:=c33) (p34:=p35) (c35:=c36) (b38:=b39) R7 R10 R13 R16 R19 R22 R25 R28 R31 R34 R37 hd
 refine .yes r (.callS (.f call96 r) (.o [0,0,0] r) H r r fun b1 Y b2 j J=>?_)
 obtain ⟨b5,rfl,rfl,hd⟩:=J
 obtain ⟨e,R7,R10,R13,R16,R19⟩:=j.u6 d R7 R10 R13 R16 R19
 obtain ⟨R22,R25,R28,R31,R34,R37⟩:=j.u6 R22 R25 R28 R31 R34 R37
 refine .rn 4 r (.kn 2 [17,2,1,0] r (.condP r hd (fun K hd=>?_) fun K hd=>?_))
 · exact .sr (.kn 1 [6,0] r (.q1 results85 e [0,0,0,0] r (.inl ⟨(o0,o2),_,_,_,_,_,_,_,_,_,_,_,_,_,_,_,_,_,_,_,_,_,_,r,R7,R10,R13,R16,R19,R22,R25,R28,R31,R34,R37,r,hd⟩)))
 refine .sn [2,1,0] r (.sk 2 r (.buildArr MC OL FO (.c r r r (.o r) (.c r r r (.o r) .n)) r r (.al MC r fun b6=>?_)))
 refine .sa IU .z r (.no [7,0] r (.seq (.seq (.dr [0,1,2,3,4,5,6] 7 (.fk 3 r (.h r (fun _=>.lo isAgg118 .p1 r .mk) (.h r (fun _=>.lw MB IU .z r .mk) (.ww r fun ex=>?_))))))))
 refine .lookM (k:=(a0,a1)) (El:=CO) (ag:=false) (zv:=.pointer none) (z:=none) WY dN zeroValue146 ⟨[.pointer none],r,.s⟩ .p2 r r hd r r fun b7 b8 a4 hd L N=>?_
 cases L
 cases N
 refine .so 5 r r r trivial (.h r (fun _=>.eqNilH dO r r r r .mk) (.e2 7 (.no [27,7,0] r (.condP r hd (fun O hd=>?_) fun O hd=>?_))))
 · refine .dr [0,1,2,3,4,5,6,7,8,9,10,11,12,13,14] 15 (.fk 3 r (.h r (fun _=>.lo isAgg118 .p1 r .mk) (.h r (fun _=>.lw MB IU .z r .mk) (.fk 4 r (.h r (fun _=>.lo BF .p1 r .mk) (.ww r fun ex=>?_))))))
   have P:=fI (I:=Y) (a0:=o0.p.Room) hd
   refine .callS (.f call155 r) .n P r r fun b9 c0 c1 g a=>?_
   rcases a with a | a
   · obtain ⟨c2,rfl,rfl,hd⟩:=a
     obtain ⟨m,R7,R10,R13,R16,R19⟩:=g.u6 e R7 R10 R13 R16 R19
     obtain ⟨R22,R25,R28,R31,R34,R37⟩:=g.u6 R22 R25 R28 R31 R34 R37
     refine .rx 5 r (.so 5 r r r (.ch r (fun _=>.lw MB IU .z r .mk) (.ch r (fun _=>.lo isAgg118 .p1 r .mk) (.ck 3 r r trivial))) (.fk 3 r (.ww r fun ex=>?_)))
     refine .updM (k:=(a0,a1)) (El:=CO) (ag:=false) (v:=none) WY dN .p2 r r r ⟨[.pointer none],r,.s⟩ (.sn 5 r r r (.ck 1 r r trivial) (.e2 15 (.no [7,0] r (.seq (.dr [0,1,2,3,4,5] 6 (.fk 3 r (.h r (fun _=>.lo isAgg118 .p1 r .mk) (.h r (fun _=>.lw MB IU .z r .mk) (.ww r fun ex=>?_)))))))))
     refine .lookM (k:=(a0,a1)) (El:=CO) (ag:=false) (zv:=.pointer none) (z:=none) WY dN zeroValue146 ⟨[.pointer none],r,.s⟩ .p2 r r hd r r fun a5 Q Z hd q t=>?_
     cases q
     cases t
     exact .so 5 r r r trivial (.e2 6 (.kn 1 [6,0] r (.drop .z (.q1 results85 m [0,0,0,0] r (.inr ⟨(Q,({ p:=o0.p,stages:=o0.stages,workers:=o0.workers,boxes:=(EN (a0,a1) none o0.boxes) }:AD),o2),_,_,_,_,_,_,_,_,_,_,_,_,_,_,_,_,_,_,_,_,_,_,r,R7,R10,R13,R16,R19,R22,R25,R28,R31,R34,R37,r,hd⟩)))))
   obtain ⟨E,b,R,S,T,U,rfl,rfl,hd⟩:=a
   obtain ⟨u,R7,R10,R13,R16,R19⟩:=g.u6 e R7 R10 R13 R16 R19
   obtain ⟨R22,R25,R28,R31,R34,R37⟩:=g.u6 R22 R25 R28 R31 R34 R37
   refine .rx 9 r (.so 9 r r r (.ch r (fun _=>.lw MB IU .p4 r .mk) (.ch r (fun _=>.lo isAgg118 .p5 r .mk) (.ck 3 r r trivial))) (.fk 3 r (.ww r fun ex=>?_)))
   refine .bankP (B:=AY) (R,S,T,U) E.2 trivial (.o [0,0,0,0,4] r) fun w=>?_
   have hd:=hd b w
   refine .updM (k:=(a0,a1)) (El:=CO) (ag:=false) (v:=(some b)) WY dN .p3 r r r ⟨[.pointer (some ⟨b,0,none⟩)],r,.s⟩ (.sn 5 r r r (.ck 1 r r trivial) (.e2 15 (.no [7,0] r (.seq (.dr [0,1,2,3,4,5] 6 (.fk 3 r (.h r (fun _=>.lo isAgg118 .p2 r .mk) (.h r (fun _=>.lw MB IU .p1 r .mk) (.ww r fun ex=>?_)))))))))
   refine .lookM (k:=(a0,a1)) (El:=CO) (ag:=false) (zv:=.pointer none) (z:=none) WY dN zeroValue146 ⟨[.pointer none],r,.s⟩ .p3 r r hd r r fun a6 V a2 hd x y=>?_
   cases x
   cases y
   exact .so 5 r r r trivial (.e2 6 (.kn 1 [6,0] r (.drop .p1 (.q1 results85 u [1,1,1,0] r (.inr ⟨(V,({ p:=o0.p,stages:=o0.stages,workers:=o0.workers,boxes:=(EN (a0,a1) (some b) o0.boxes) }:AD),((b,E.2) :: o2)),_,_,_,_,_,_,_,_,_,_,_,_,_,_,_,_,_,_,_,_,_,_,r,R7,R10,R13,R16,R19,R22,R25,R28,R31,R34,R37,r,hd⟩)))))
 refine .sn [7,0] r (.seq (.dr [0,1,2,3,4,5] 6 (.fk 3 r (.h r (fun _=>.lo isAgg118 .p1 r .mk) (.h r (fun _=>.lw MB IU .z r .mk) (.ww r fun ex=>?_))))))
 refine .lookM (k:=(a0,a1)) (El:=CO) (ag:=false) (zv:=.pointer none) (z:=none) WY dN zeroValue146 ⟨[.pointer none],r,.s⟩ .p2 r r hd r r fun a7 W a3 hd C D=>?_
 cases C
 cases D
 exact .so 5 r r r trivial (.e2 6 (.kn 1 [6,0] r (.drop .z (.q1 results85 e [0,0,0,0] r (.inr ⟨(W,o0,o2),_,_,_,_,_,_,_,_,_,_,_,_,_,_,_,_,_,_,_,_,_,_,r,R7,R10,R13,R16,R19,R22,R25,R28,R31,R34,R37,r,hd⟩)))))
theorem ON {a0:BI} {Q:Int→Prop} (R3:RepSl MA I p1 c2 a0.Vec.Items) (R6:RepSl ZU I p4 c5 a0.Sums) (R9:RepSl BL I p7 c8 a0.Triples) (hd:LI a0 Q) :
  Fun prog 152 #[.pointer none,.agg #[.int .i64 a0.Kind,.int .i64 a0.From,.int .i64 a0.To,.int .i64 a0.Seq,.int .i64 a0.Round,.int .i64 a0.Vec.N,.slice p1 a0.Vec.Items.length c2,.slice p4 a0.Sums.length c5,.slice p7 a0.Triples.length c8,.int .i64 a0.N,.bool a0.Over]] I [] (fun I_ v l=>∃ r,v=.int .i64 r∧l=[]∧Q r):=by
 refine Fun.en func152 ntmps152 r fun w0 M=>?_
 refine .sr (.bx r fun a=>?_)
 refine .kn 1 [3,0] r (.seq (.block (.sk 1 r (.eqNilP dO r r r r (.kn 1 [5,3,0] r (.condKT r r (.sr (.kn 1 [4] r (.drop .z ?_)))))))))
 exact .q1 results152 rf [] r ⟨10,r,r,hd⟩
theorem OO {o0:AF} {Q:Bool→Prop} (hd:GK o0 Q) :
  Fun prog 157 #[.pointer (some ⟨b2,0,none⟩)] I [pto b2 (.cells #[.int .i64 o0.room,.slice p3 o0.row.length c4,.map (some b8),.map (some b10),.int .i64 o0.sent,.int .i64 o0.taken] 213 (0,0)),OwnSl AE 3 p3 c4 o0.row,OwnMap (Value.int .i64) DG true b8 o0.by_,OwnMap (Value.int .i64) AE false b10 o0.often] (fun I_ v l=>∃ r,v=.bool r∧l=[pto b2 (.cells #[.int .i64 o0.room,.slice p3 o0.row.length c4,.map (some b8),.map (some b10),.int .i64 o0.sent,.int .i64 o0.taken] 213 (0,0)),OwnSl AE 3 p3 c4 o0.row,OwnMap (Value.int .i64) DG true b8 o0.by_,OwnMap (Value.int .i64) AE false b10 o0.often]∧Q r):=by
 refine Fun.en func157 ntmps157 r fun w0 M=>?_
 refine .sr (.kn 1 [0] r (.seq (.dr [0,1,2,3,4,5,6,7,8,9] 10 (.fk 3 r (.h r (fun _=>.lo EU .z r .mk) (.h r (fun _=>.ln BW r .mk) (.fk 3 r (.h r (fun _=>.lo BF .z r .mk) (.fk 1 r ?_)))))))))
 exact .e2 10 (.kn 1 [2,0] r (.q1 results157 rf [0,0,0,0] r ⟨(decide (o0.room≤(o0.row.length:Int))),r,r,hd⟩))
theorem QS {o0:AF} {a0:Int} {Q:AF→Prop} (hd:HD o0 a0 Q) :
  Fun prog 158 #[.pointer (some ⟨b2,0,none⟩),.int .i64 a0] I [pto b2 (.cells #[.int .i64 o0.room,.slice p3 o0.row.length c4,.map (some b8),.map (some b10),.int .i64 o0.sent,.int .i64 o0.taken] 213 (0,0)),OwnSl AE 3 p3 c4 o0.row,OwnMap (Value.int .i64) DG true b8 o0.by_,OwnMap (Value.int .i64) AE false b10 o0.often] (fun I_ v l=>∃ r p12 c13,v=.tuple #[]∧l=[pto b2 (.cells #[.int .i64 r.room,.slice p12 r.row.length c13,.map (some b8),.map (some b10),.int .i64 r.sent,.int .i64 r.taken] 213 (0,0)),OwnSl AE 3 p12 c13 r.row,OwnMap (Value.int .i64) DG true b8 r.by_,OwnMap (Value.int .i64) AE false b10 r.often]∧Q r):=by
 refine Fun.en func158 ntmps158 r fun w0 M=>?_
 refine .sk 4 r (.lo EU .z r (.ks 1 r (.buildSlice 1 BW FO oQ r r (.c r r r .n) r r fun g=>?_)))
 obtain ⟨b,hd⟩:=hd
 refine .append (ys:=[a0]) 8 .p2 BW BW yW r r r r r r r r r (.box .z (.one r) r) b r r fun h i=>?_
 refine .ks 2 r (.s1 wG .p2 r (.no [1,0] r (.drop .p1 (.region (.ks 3 r (.lo isAgg211 .p1 r (.ks 1 r (.lookM (k:=a0) (El:=AE) (ag:=false) (zv:=.int .i64 0) (z:=0) (KK ZL) gR oQ ⟨[.int .i64 0],r,.s⟩ .p3 r r hd r r fun j a f hd d e=>?_))))))))
 cases d
 cases e
 exact .ks 1 r (.updM (k:=a0) (El:=AE) (ag:=false) (v:=(AJ (a+1))) (KK ZL) gR .p3 r r r ⟨[.int .i64 (AJ (a+1))],r,.s⟩ (.nil' (SM results158 .n rf (.o [1,0,0,0] r) ⟨({ room:=o0.room,row:=(o0.row++([a0])),by_:=o0.by_,often:=(EN a0 (AJ (a+1)) o0.often),sent:=o0.sent,taken:=o0.taken }:AF),_,_,r,r,hd⟩)))
theorem WQ {o0:AF} {a0:BI} {Q:(Int×AF)→Prop} (R13:RepSl MA I p11 c12 a0.Vec.Items) (R16:RepSl ZU I p14 c15 a0.Sums) (R19:RepSl BL I p17 c18 a0.Triples) (hd:IL o0 a0 Q) :
  Fun prog 152 #[.pointer (some ⟨b2,0,none⟩),.agg #[.int .i64 a0.Kind,.int .i64 a0.From,.int .i64 a0.To,.int .i64 a0.Seq,.int .i64 a0.Round,.int .i64 a0.Vec.N,.slice p11 a0.Vec.Items.length c12,.slice p14 a0.Sums.length c15,.slice p17 a0.Triples.length c18,.int .i64 a0.N,.bool a0.Over]] I [pto b2 (.cells #[.int .i64 o0.room,.slice p3 o0.row.length c4,.map (some b8),.map (some b10),.int .i64 o0.sent,.int .i64 o0.taken] 213 (0,0)),OwnSl AE 3 p3 c4 o0.row,OwnMap (Value.int .i64) DG true b8 o0.by_,OwnMap (Value.int .i64) AE false b10 o0.often] (fun I_ v l=>∃ r p21 c22,v=.int .i64 r.1∧l=[pto b2 (.cells #[.int .i64 r.2.room,.slice p21 r.2.row.length c22,.map (some b8),.map (some b10),.int .i64 r.2.sent,.int .i64 r.2.taken] 213 (0,0)),OwnSl AE 3 p21 c22 r.2.row,OwnMap (Value.int .i64) DG true b8 r.2.by_,OwnMap (Value.int .i64) AE false b10 r.2.often]∧Q r):=by
 refine Fun.en func152 ntmps152 r fun w0 M=>?_
 refine .sr (.bx r fun L=>?_)
 refine .kn 1 [3,0] r (.seq (.block (.sk 1 r (.eqNilP dO r r r r (.kn 1 [5,3,0] r (.condKF r r (.sk 1 r ?_)))))))
 have m:=OO (I:=I) (o0:=o0) (b2:=b2) (p3:=p3) (c4:=c4) (b8:=b8) (b10:=b10) hd
 refine .callS (.f call157 r) (.o [1,1,1,1] r) m r r fun O A P d n=>?_
 obtain ⟨R,rfl,rfl,hd⟩:=n
 obtain ⟨R13,R16,R19⟩:=d.u3 R13 R16 R19
 refine .rn 5 r (.kn 1 [8,3,0] r (.condP r hd (fun p hd=>?_) fun p hd=>?_))
 · exact .sr (.kn 1 [4,0] r (.drop .p4 (.q1 results152 d [0,0,0,0] r ⟨(9,o0),_,_,r,r,hd⟩)))
 refine .sn [3,0] r (.sr (.lw NQ ET .p4 r ?_))
 have q:=fB (I:=A) R13 R16 R19 hd
 refine .call call219 r q r r fun S B s t=>?_
 obtain ⟨b,C,D,E,F,G,H,rfl,e,g,i,hd⟩:=t
 obtain ⟨u,R13,R16,R19⟩:=s.u4 d R13 R16 R19
 refine .sa ET .p4 r (.nk [3,0] 3 r (.lo BF .z r (.ks 1 r (.s1 FO .p4 r (.no [3,0] r (.seq (.dr [0,1,2,3,4,5,6] 7 (.fk 3 r (.h r (fun _=>.lo isAgg210 .z r .mk) ?_)))))))))
 refine .fk 1 r (.h r (fun _=>.lo BF .p4 r .mk) (.h r (fun _=>.lw NQ ET .p4 r .mk) (.e2 7 (.updM (k:=o0.sent) (El:=DG) (ag:=true) (v:=({ Kind:=b.Kind,From:=b.From,To:=b.To,Seq:=o0.sent,Round:=b.Round,Vec:=b.Vec,Sums:=b.Sums,Triples:=b.Triples,N:=b.N,Over:=b.Over }:BI)) (KK ZL) underlying210 .p2 r r r ⟨[.int .i64 b.Kind,.int .i64 b.From,.int .i64 b.To,.int .i64 o0.sent,.int .i64 b.Round,.int .i64 b.Vec.N,.slice C b.Vec.Items.length D,.slice E b.Sums.length F,.slice G b.Triples.length H,.int .i64 b.N,.bool b.Over],⟨_,_,_,_,_,_,r,e,g,i⟩,.a⟩ (.nk [3,0] 2 r (.lo BF .p4 r ?_))))))
 have w:=QS (I:=B) (o0:=({ room:=o0.room,row:=o0.row,by_:=(EN o0.sent ({ Kind:=b.Kind,From:=b.From,To:=b.To,Seq:=o0.sent,Round:=b.Round,Vec:=b.Vec,Sums:=b.Sums,Triples:=b.Triples,N:=b.N,Over:=b.Over }:BI) o0.by_),often:=o0.often,sent:=o0.sent,taken:=o0.taken }:AF)) (a0:=o0.sent) (b2:=b2) (p3:=p3) (c4:=c4) (b8:=b8) (b10:=b10) hd
 refine .callS (.f call158 r) (.o [0,0,0,0] r) w r r fun T U V x y=>?_
 obtain ⟨c,J,K,rfl,rfl,hd⟩:=y
 obtain ⟨j,e,g,i⟩:=x.u4 u e g i
 exact .rn 5 r (.no [0] r (.drop .p4 (.sk 3 r (.lo BF .z r (.ks 3 r (.s1 FO .z r (.nk [0] 1 r (.no [4,0] r (.q1 results152 j [0,0,0,0] r ⟨(0,({ room:=c.room,row:=c.row,by_:=c.by_,often:=c.often,sent:=AJ (c.sent+1),taken:=c.taken }:AF)),_,_,r,r,hd⟩)))))))))
theorem XX {o0:List (Nat×AF)} {a0:Option Nat} {a1:BI} {Q:(Int×(List (Nat×AF)))→Prop} (R4:RepSl MA I p2 c3 a1.Vec.Items) (R7:RepSl ZU I p5 c6 a1.Sums) (R10:RepSl BL I p8 c9 a1.Triples) (hd:MJ o0 a0 a1 Q) :
  Fun prog 152 #[.pointer (tL a0),.agg #[.int .i64 a1.Kind,.int .i64 a1.From,.int .i64 a1.To,.int .i64 a1.Seq,.int .i64 a1.Round,.int .i64 a1.Vec.N,.slice p2 a1.Vec.Items.length c3,.slice p5 a1.Sums.length c6,.slice p8 a1.Triples.length c9,.int .i64 a1.N,.bool a1.Over]] I [BH AY o0] (fun I_ v l=>∃ r,v=.int .i64 r.1∧l=[BH AY r.2]∧Q r):=by
 rcases a0 with _ | b
 · have hd:=hd.1 r
   refine (Fun.frame (r:=[BH AY o0]) (ON R4 R7 R10 hd)).conseq fun I_ v l hle h=>?_
   obtain ⟨d,rfl,rr,rfl,rfl,hq⟩:=h
   exact ⟨(rr,o0),r,r,hq⟩
 obtain ⟨x,hx,hd⟩:=hd.2 b rfl
 refine Fun.bank hx (fun aa _=>WQ (b2:=b) (p3:=aa.1) (c4:=aa.2.1) (b8:=aa.2.2.1) (b10:=aa.2.2.2) R4 R7 R10 hd) ?_
 rintro aa I_ v l hle ⟨rr,a,c,rfl,rfl,hq⟩
 exact ⟨(a,c,aa.2.2.1,aa.2.2.2),rr.2,[],r,trivial,(rr.1,(b,rr.2) :: CF b o0),r,r,hq⟩
theorem KD {o0:AD} {o1:List (Nat×AA)} {o2:List (Nat×AF)} {a0:Int} {Q:(Bool×AD×(List (Nat×AA))×(List (Nat×AF)))→Prop} (R7:RepSl AE I p5 c6 o0.p.A.Start) (R10:RepSl AE I p8 c9 o0.p.A.Col) (R13:RepSl AE I p11 c12 o0.p.A.Val) (R16:RepSl AE I p14 c15 o0.p.B.Start) (R19:RepSl AE I p17 c18 o0.p.B.Col) (R22:RepSl AE I p20 c21 o0.p.B.Val) (R25:RepSl AE I p23 c24 o0.p.Mask.Start) (R28:RepSl AE I p26 c27 o0.p.Mask.Col) (R31:RepSl AE I p29 c30 o0.p.Mask.Val) (R34:RepSl BV I p32 c33 o0.stages) (R37:RepSl CO I p35 c36 o0.workers) (hd:CV o0 o1 o2 a0 Q) :
  Fun prog 83 #[.pointer (some ⟨b4,0,none⟩),.int .i64 a0] I [pto b4 (.cells (AQ o0 p5 c6 p8 c9 p11 c12 p14 c15 p17 c18 p20 c21 p23 c24 p26 c27 p29 c30 p32 c33 p35 c36 b39) 121 (0,0)),OwnMap CX CO false b39 o0.boxes,BH AG o1,BH AY o2] (fun I_ v l=>∃ r p41 c42 p44 c45 p47 c48 p50 c51 p53 c54 p56 c57 p59 c60 p62 c63 p65 c66 p68 c69 p71 c72,v=.bool r.1∧RepSl AE I_ p41 c42 r.2.1.p.A.Start∧RepSl AE I_ p44 c45 r.2.1.p.A.Col∧RepSl AE I_ p47 c48 r.2.1.p.A.Val∧RepSl AE I_ p50 c51 r.2.1.p.B.Start∧RepSl AE I_ p53 c54 r.2.1.p.B.Col∧RepSl AE I_ p56 c57 r.2.1.p.B.Val∧RepSl AE I_ p59 c60 r.2.1.p.Mask.Start∧RepSl AE I_ p62 c63 r.2.1.p.Mask.Col∧RepSl AE I_ p65 c66 r.2.1.p.Mask.Val∧RepSl BV I_ p68 c69 r.2.1.stages∧RepSl CO I_ p71 c72 r.2.1.workers∧l=[pto b4 (.cells (AQ r.2.1 p41 c42 p44 c45 p47 c48 p50 c51 p53 c54 p56 c57 p59 c60 p62 c63 p65 c66 p68 c69 p71 c72 b39) 121 (0,0)),OwnMap CX CO false b39 r.2.1.boxes,BH AG r.2.2.1,BH AY r.2.2.2]∧Q r):=by
 refine Fun.en func83 ntmps83 r fun w0 M=>?_
 refine .sr (.kn 1 [1,0] r (.seq (.sk 2 r ?_)))
 have l8:=SJ (I:=I) (o0:=o0) (o1:=o1) (a0:=a0) (b3:=b4) (p4:=p5) (c5:=c6) (p7:=p8) (c8:=c9) (p10:=p11) (c11:=c12) (p13:=p14) (c14:=c15) (p16:=p17) (c17:=c18) (p19:=p20) (c20:=c21) (p22:=p23) (c23:=c24) (p25:=p26) (c26:=c27) (p28:=p29) (c29:=c30) (p31:=p32) (c32:=c33) (p34:=p35) (c35:=c36) (b38:=b39) R7 R10 R13 R16 R19 R22 R25 R28 R31 R34 R37 hd
 refine .callS (.f call29 r) (.o [0,0,0] r) l8 r r fun y8 q5 y9 P l9=>?_
 obtain ⟨z0,rfl,rfl,hd⟩:=l9
 obtain ⟨R7,R10,R13,R16,R19,R22⟩:=P.u6 R7 R10 R13 R16 R19 R22
 obtain ⟨R25,R28,R31,R34,R37⟩:=P.u5 R25 R28 R31 R34 R37
 refine .rn 4 r (.kn 1 [9,1,0] r (.condP r hd (fun m0 hd=>?_) fun m0 hd=>?_))
 · exact .sr (.kn 1 [4,0] r (.q1 results83 P [0,0,0,0] r ⟨(false,o0,o1,o2),_,_,_,_,_,_,_,_,_,_,_,_,_,_,_,_,_,_,_,_,_,_,r,R7,R10,R13,R16,R19,R22,R25,R28,R31,R34,R37,r,hd⟩))
 refine .sn [1,0] r (.sk 3 r (.lo isAgg119 .z r (.ks 1 r ?_)))
 obtain ⟨l7,z1,h6,hd⟩:=hd
 obtain ⟨z2,o69,q9,q6,m1,m2⟩:=R37.2 _ _ h6
 cases m2
 refine .ixa QD sizeOf122 r q6 r l7 (AH h6 l7) r r (.ld1 (j:=0) JC m1 r r r r r (.kn 1 [5,1,0] r (.seq (.jx hd [0] [2] r (fun j E l (d9,e0,e1,V,W,X,e3,e4,Y,Z,a2,e5,e6,a3,a4,a5,e7,e8,e9,a6,a7,f0,h7,f1)=>fun c w=>∃ f2 f3 f4 f5 f6 f7 f8 f9 g0 g1 g2 g3 g4 g5 g6 g7 g8 g9 h0 h1 h2 h3,j ⟨43,[],none⟩ (fun I_=>RepSl AE I_ f2 f3 V∧RepSl AE I_ f4 f5 W∧RepSl AE I_ f6 f7 X∧RepSl AE I_ f8 f9 Y∧RepSl AE I_ g0 g1 Z∧RepSl AE I_ g2 g3 a2∧RepSl AE I_ g4 g5 a3∧RepSl AE I_ g6 g7 a4∧RepSl AE I_ g8 g9 a5∧RepSl BV I_ h0 h1 a6∧RepSl CO I_ h2 h3 a7) ((5,.pointer (tL h7)) :: E) (pto b4 (.cells #[.int .i64 d9,.int .i64 e0,.int .i64 e1,.slice f2 V.length f3,.slice f4 W.length f5,.slice f6 X.length f7,.int .i64 e3,.int .i64 e4,.slice f8 Y.length f9,.slice g0 Z.length g1,.slice g2 a2.length g3,.int .i64 e5,.int .i64 e6,.slice g4 a3.length g5,.slice g6 a4.length g7,.slice g8 a5.length g9,.int .i64 e7,.int .i64 e8,.int .i64 e9,.slice h0 a6.length h1,.slice h2 a7.length h3,.map (some b39)] 121 (0,0)) :: OwnMap CX CO false b39 f0 :: BH AY f1 :: l) c w) (fun r0 hd=>?_) ?_))))
 · skip
   refine .seq ?_
   obtain ⟨a8,h8,j8,a9,hd⟩:=hd
   refine .bankO .p2 a9 fun ⟨h9,i0,i1,i2,i3,i4,i5,i6,i7,i8,i9⟩ ⟨q,s,t,k,u⟩=>?_
   refine .rn 6 r (.sub (E':=[(0,_),(1,_),(5,.pointer (some ⟨a8,0,none⟩))]) ⟨r,r,(by rw [j8]; rfl),trivial⟩ (.dr [0,1,2,3,4,5,6,7,8,10,11,12,13,14,15,9,16,17] 18 (.fk 5 r (.h r (fun _=>.lo X0 .z r .mk) ?_))))
   obtain ⟨j0,m3,h5,hd⟩:=hd
   obtain ⟨r1,o484,q7,m4,m,j9⟩:=k.2 _ _ h5
   obtain ⟨r2,r3,r4,r5,r6,r7,rfl,F,G,J⟩:=j9
   refine .h r (fun _=>.ixa YM ET r m4 r j0 (AH h5 j0) r r .mk) (.fk 1 r (.h r (fun _=>.ld1 (j:=2) BF m r r r r r .mk) (.fk 3 r (.h r (fun _=>.lo X0 .z r .mk) ?_))))
   obtain ⟨S,j1,T,hd⟩:=hd
   obtain ⟨r8,o502,q8,h4,g,k0⟩:=k.2 _ _ T
   obtain ⟨r9,s0,s2,s3,s4,s5,rfl,x,y,D⟩:=k0
   refine .h r (fun _=>.ixa YM ET r h4 r S (AH T S) r r .mk) (.h r (fun _=>.ldW NQ ET g r r r r .mk) (.ww r fun ex=>?_))
   have k1:=FC (I:=q5) (o0:=o0) (o1:=(CF a8 o1)) (o2:=o2) (a0:=a0) (a1:=m3.To) (b4:=b4) (p5:=p5) (c6:=c6) (p8:=p8) (c9:=c9) (p11:=p11) (c12:=c12) (p14:=p14) (c15:=c15) (p17:=p17) (c18:=c18) (p20:=p20) (c21:=c21) (p23:=p23) (c24:=c24) (p26:=p26) (c27:=c27) (p29:=p29) (c30:=c30) (p32:=p32) (c33:=c33) (p35:=p35) (c36:=c36) (b39:=b39) R7 R10 R13 R16 R19 R22 R25 R28 R31 R34 R37 hd
   refine .callS (.f call85 r) (.o [3,3,2,2] r) k1 r r fun s6 j2 s7 e K=>?_
   rcases K with K | K
   · obtain ⟨a,s8,s9,t0,t1,t2,t3,t4,t5,t6,t7,t8,t9,u0,u3,u4,u7,u8,u9,v0,v1,v2,v3,rfl,b0,b1,b2,b5,b6,b7,b8,b9,c0,c1,c2,rfl,hd⟩:=K
     obtain ⟨k2,R7,R10,R13,R16,R19⟩:=e.u6 P R7 R10 R13 R16 R19
     obtain ⟨R22,R25,R28,R31,R34,R37⟩:=e.u6 R22 R25 R28 R31 R34 R37
     obtain ⟨q,s,t,k,u,F⟩:=e.u6 q s t k u F
     obtain ⟨G,J,m,x,y,D⟩:=e.u6 G J m x y D
     have g:=e.u1 g
     refine .rx 6 r (.so 6 r r r (.ch r (fun _=>.ldW NQ ET g r r r r .mk) (.ch r (fun _=>.ixa YM ET r h4 r S (AH T S) r r .mk) (.ch r (fun _=>.lo X0 .p4 r .mk) (.ck 3 r r trivial)))) (.ww r fun ex=>?_))
     have k3:=ON (I:=j2) (a0:=j1) x y D hd
     refine .callS (.f call152 r) .n k3 r r fun v4 v5 v6 N k4=>?_
     obtain ⟨v7,rfl,rfl,hd⟩:=k4
     obtain ⟨k5,k6,q,s,t,k⟩:=N.u6 k2 e q s t k
     obtain ⟨u,F,G,J,m,x⟩:=N.u6 u F G J m x
     obtain ⟨y,D,g,b0,b1,b2⟩:=N.u6 y D g b0 b1 b2
     obtain ⟨b5,b6,b7,b8,b9,c0⟩:=N.u6 b5 b6 b7 b8 b9 c0
     obtain ⟨c1,c2⟩:=N.u2 c1 c2
     refine .rx 6 r (.so 6 r r r trivial (.fk 1 r (.e2 18 (.bankB (B:=AG) (h9,i0,i1,i2,i3,i4,i5,i6,i7,i8,i9) h8 ⟨q,s,t,k,u⟩ a9 (.o [4,4,2] r) (.no [34,5,0] r (.condP r hd (fun k7 hd=>?_) fun k7 hd=>?_))))))
     · exact .sr (.kn 1 [4,0] r (.q1 results83 k5 [1,1,0,0] r ⟨(false,a.1,o1,a.2),_,_,_,_,_,_,_,_,_,_,_,_,_,_,_,_,_,_,_,_,_,_,r,b0,b1,b2,b5,b6,b7,b8,b9,c0,c1,c2,r,hd⟩))
     exact .skip' fun c w ho hs=>⟨(a.1.p.Ring,a.1.p.A.Rows,a.1.p.A.Cols,a.1.p.A.Start,a.1.p.A.Col,a.1.p.A.Val,a.1.p.B.Rows,a.1.p.B.Cols,a.1.p.B.Start,a.1.p.B.Col,a.1.p.B.Val,a.1.p.Mask.Rows,a.1.p.Mask.Cols,a.1.p.Mask.Start,a.1.p.Mask.Col,a.1.p.Mask.Val,a.1.p.R,a.1.p.C,a.1.p.Room,a.1.stages,a.1.workers,a.1.boxes,(some a8),a.2),hd,_,_,_,_,_,_,_,_,_,_,_,_,_,_,_,_,_,_,_,_,_,_,jf k6 ⟨b0,b1,b2,b5,b6,b7,b8,b9,c0,c1,c2⟩ [1,1,1,0] r ho hs⟩
   obtain ⟨b,v8,v9,w1,w2,w3,w4,w5,w6,w7,w8,w9,x0,x1,x2,x3,x4,x5,x6,x7,x8,x9,y0,rfl,c3,c4,c7,d0,d1,d2,d3,d4,d5,d6,d7,rfl,hd⟩:=K
   obtain ⟨k8,R7,R10,R13,R16,R19⟩:=e.u6 P R7 R10 R13 R16 R19
   obtain ⟨R22,R25,R28,R31,R34,R37⟩:=e.u6 R22 R25 R28 R31 R34 R37
   obtain ⟨q,s,t,k,u,F⟩:=e.u6 q s t k u F
   obtain ⟨G,J,m,x,y,D⟩:=e.u6 G J m x y D
   have g:=e.u1 g
   refine .rx 6 r (.so 6 r r r (.ch r (fun _=>.ldW NQ ET g r r r r .mk) (.ch r (fun _=>.ixa YM ET r h4 r S (AH T S) r r .mk) (.ch r (fun _=>.lo X0 .p4 r .mk) (.ck 3 r r trivial)))) (.ww r fun ex=>?_))
   have k9:=XX (I:=j2) (o0:=b.2.2) (a0:=b.1) (a1:=j1) x y D hd
   refine .callS (.f call152 r) (.o [3] r) k9 r r fun y1 y2 y3 O l0=>?_
   obtain ⟨j3,rfl,rfl,hd⟩:=l0
   obtain ⟨l1,l2,q,s,t,k⟩:=O.u6 k8 e q s t k
   obtain ⟨u,F,G,J,m,x⟩:=O.u6 u F G J m x
   obtain ⟨y,D,g,c3,c4,c7⟩:=O.u6 y D g c3 c4 c7
   obtain ⟨d0,d1,d2,d3,d4,d5⟩:=O.u6 d0 d1 d2 d3 d4 d5
   obtain ⟨d6,d7⟩:=O.u2 d6 d7
   refine .rx 6 r (.so 6 r r r trivial (.fk 1 r (.e2 18 (.bankB (B:=AG) (h9,i0,i1,i2,i3,i4,i5,i6,i7,i8,i9) h8 ⟨q,s,t,k,u⟩ a9 (.o [4,4,3] r) (.no [34,5,0] r (.condP r hd (fun l3 hd=>?_) fun l3 hd=>?_))))))
   · exact .sr (.kn 1 [4,0] r (.q1 results83 l1 [2,2,0,0] r ⟨(false,b.2.1,o1,j3.2),_,_,_,_,_,_,_,_,_,_,_,_,_,_,_,_,_,_,_,_,_,_,r,c3,c4,c7,d0,d1,d2,d3,d4,d5,d6,d7,r,hd⟩))
   exact .skip' fun c w ho hs=>⟨(b.2.1.p.Ring,b.2.1.p.A.Rows,b.2.1.p.A.Cols,b.2.1.p.A.Start,b.2.1.p.A.Col,b.2.1.p.A.Val,b.2.1.p.B.Rows,b.2.1.p.B.Cols,b.2.1.p.B.Start,b.2.1.p.B.Col,b.2.1.p.B.Val,b.2.1.p.Mask.Rows,b.2.1.p.Mask.Cols,b.2.1.p.Mask.Start,b.2.1.p.Mask.Col,b.2.1.p.Mask.Val,b.2.1.p.R,b.2.1.p.C,b.2.1.p.Room,b.2.1.stages,b.2.1.workers,b.2.1.boxes,(some a8),j3.2),hd,_,_,_,_,_,_,_,_,_,_,_,_,_,_,_,_,_,_,_,_,_,_,jf l2 ⟨c3,c4,c7,d0,d1,d2,d3,d4,d5,d6,d7⟩ [2,2,1,0] r ho hs⟩
 rintro ⟨d9,e0,e1,V,W,X,e3,e4,Y,Z,a2,e5,e6,a3,a4,a5,e7,e8,e9,a6,a7,f0,h7,f1⟩ hd c w ⟨f2,f3,f4,f5,f6,f7,f8,f9,g0,g1,g2,g3,g4,g5,g6,g7,g8,g9,h0,h1,h2,h3,y4,l4,⟨m5,m6,m7,m8,m9,n0,n1,n2,n3,n4,n5⟩,hok,hsym⟩
 have l5:=l4.u1 P
 refine Cod.at hok hsym (.sk 2 r ?_)
 obtain ⟨U,d,d8,l6,hd⟩:=hd
 refine .bankO .p3 l6 fun ⟨n6,n7,n8,n9,o3,o4,y5,j4,o5,o6,o7⟩ ⟨o8,o9,p0,j5,p1⟩=>?_
 refine .rn 6 r (.sub (E':=[(0,_),(5,.pointer (some ⟨U,0,none⟩)),(35,.pointer (some ⟨U,0,none⟩)),(36,.pointer (some ⟨U,0,none⟩))]) ⟨r,(by rw [d8]; rfl),(by rw [d8]; rfl),(by rw [d8]; rfl),trivial⟩ (.ks 2 r (.lo X0 .z r ?_)))
 obtain ⟨p6,y6,y7,hd⟩:=hd
 have j6:Int.toNat 1≤Int.toNat (d.out.length:Int):=by omega
 have j7:Int.toNat (d.out.length:Int)≤d.out.length:=by omega
 obtain ⟨p9,q0,q2,q3,q4⟩:=RepSl.sliceW j5 (Int.toNat 1) (Int.toNat (d.out.length:Int)) j4 j6 j7 (.inl rfl)
 exact .sliceW (L:=Int.toNat 1) (H:=Int.toNat (d.out.length:Int)) (cm:=j4) YM ET r r j5.1 r r r (.inr ⟨_,_,r,p6,r⟩) (.inl ⟨r,r,r⟩) (.inl r) j6 j7 r q2 q3 r r (.ks 2 r (.s1 AaZ .z r (.bankC (B:=AG) (n6,n7,n8,n9,o3,o4,p9,q0,o5,o6,o7) ({ i:=d.i,j:=d.j,mask:=d.mask,out:=((d.out.take (d.out.length:Int).toNat).drop (Int.toNat 1)),parts:=d.parts,at_:=d.at_,has:=d.has }:AA) ⟨o8,o9,p0,q4,p1⟩ (.o [0,0,0] r) (.nk [0] 1 r (.no [4,0] r (.q1 results83 l5 [1,1,0,0] r ⟨(true,({ p:=({ Ring:=d9,A:=({ Rows:=e0,Cols:=e1,Start:=V,Col:=W,Val:=X }:Rows),B:=({ Rows:=e3,Cols:=e4,Start:=Y,Col:=Z,Val:=a2 }:Rows),Mask:=({ Rows:=e5,Cols:=e6,Start:=a3,Col:=a4,Val:=a5 }:Rows),R:=e7,C:=e8,Room:=e9 }:CM),stages:=a6,workers:=a7,boxes:=f0 }:AD),((U,({ i:=d.i,j:=d.j,mask:=d.mask,out:=((d.out.take (d.out.length:Int).toNat).drop (Int.toNat 1)),parts:=d.parts,at_:=d.at_,has:=d.has }:AA)) :: (CF U o1)),f1),_,_,_,_,_,_,_,_,_,_,_,_,_,_,_,_,_,_,_,_,_,_,r,m5,m6,m7,m8,m9,n0,n1,n2,n3,n4,n5,r,hd⟩))))))
theorem LV {a0:Int} {Q:Int→Prop} (hd:FF a0 Q) :
  Fun prog 156 #[.pointer none,.int .i64 a0] I [] (fun I_ v l=>∃ r,v=.int .i64 r∧l=[]∧Q r):=by
 refine Fun.en func156 ntmps156 r fun w0 M=>?_
 refine .sr (.kn 1 [1,0] r (.seq (.block (.sk 1 r (.eqNilP dO r r r r (.kn 1 [5,1,0] r (.condKT r r (.sr (.kn 1 [4] r ?_)))))))))
 exact .q1 results156 rf [] r ⟨10,r,r,hd⟩
theorem OP {a0:Int} {Q:(BI×Bool×Int)→Prop} (hd:IM a0 Q) :
  Fun prog 153 #[.pointer none,.int .i64 a0] I [] (fun I_ v l=>∃ r p1 c2 p4 c5 p7 c8,v=.tuple #[.agg #[.int .i64 r.1.Kind,.int .i64 r.1.From,.int .i64 r.1.To,.int .i64 r.1.Seq,.int .i64 r.1.Round,.int .i64 r.1.Vec.N,.slice p1 r.1.Vec.Items.length c2,.slice p4 r.1.Sums.length c5,.slice p7 r.1.Triples.length c8,.int .i64 r.1.N,.bool r.1.Over],.bool r.2.1,.int .i64 r.2.2]∧RepSl MA I_ p1 c2 r.1.Vec.Items∧RepSl ZU I_ p4 c5 r.1.Sums∧RepSl BL I_ p7 c8 r.1.Triples∧l=[]∧Q r):=by
 refine Fun.en func153 ntmps153 r fun w0 M=>?_
 refine .sr (.al QF r fun j=>?_)
 refine .kn 2 [4,1,0] r (.seq (.sk 2 r ?_))
 have b:=LV (I:=I) (a0:=a0) hd
 refine .callS (.f call156 r) .n b r r fun g h i c d=>?_
 obtain ⟨e,rfl,rfl,hd⟩:=d
 refine .rn 1 r (.kn 1 [7,4,1,0] r (.seq (.dr [0,1,2,3,4,5,6,7,8,9,10,11,12,13,14,15] 16 (.fk 3 r ?_))))
 refine AN hd (fun a hd=>?_) fun a hd=>?_
 · rw [a]
   exact .fk 13 r (.e2 16 (.no [27,7,4,1,0] r (.condKT r r (.sr (.build QF mF mD .n (by exact trivial) r r (.ks 1 r (.sa ET .z r (.kn 2 [6,5,4] r (.ret (OA results153 (.w NQ ET r .z r (.t r (.t r .n))) c .n ⟨(({ Kind:=0,From:=0,To:=0,Seq:=0,Round:=0,Vec:=({ N:=0,Items:=([]:List CN) }:Vec),Sums:=([]:List ZK),Triples:=([]:List AC),N:=0,Over:=false }:BI),false,e),_,_,_,_,_,_,r,(.nil _ none 0),(.nil _ none 0),(.nil _ none 0),r,hd⟩))))))))))
 rw [a]
 refine .fk 1 r ?_
 exact hd.elim
theorem LW {o0:AF} {a0:Int} {Q:Int→Prop} (hd:GB o0 a0 Q) :
  Fun prog 156 #[.pointer (some ⟨b2,0,none⟩),.int .i64 a0] I [pto b2 (.cells #[.int .i64 o0.room,.slice p3 o0.row.length c4,.map (some b8),.map (some b10),.int .i64 o0.sent,.int .i64 o0.taken] 213 (0,0)),OwnSl AE 3 p3 c4 o0.row,OwnMap (Value.int .i64) DG true b8 o0.by_,OwnMap (Value.int .i64) AE false b10 o0.often] (fun I_ v l=>∃ r,v=.int .i64 r∧l=[pto b2 (.cells #[.int .i64 o0.room,.slice p3 o0.row.length c4,.map (some b8),.map (some b10),.int .i64 o0.sent,.int .i64 o0.taken] 213 (0,0)),OwnSl AE 3 p3 c4 o0.row,OwnMap (Value.int .i64) DG true b8 o0.by_,OwnMap (Value.int .i64) AE false b10 o0.often]∧Q r):=by
 refine Fun.en func156 ntmps156 r fun w0 M=>?_
 refine .sr (.kn 1 [1,0] r (.seq (.block (.sk 1 r (.eqNilP dO r r r r (.kn 1 [5,1,0] r (.condKF r r (.sk 3 r ?_))))))))
 refine AN hd (fun a hd=>?_) fun a hd=>?_
 · rw [a]
   exact .kn 9 [8,0] r (.condKT r r (.sr (.kn 1 [4,0] r (.q1 results156 rf [0,0,0,0] r ⟨3,r,r,hd⟩))))
 rw [a]
 refine .ks 4 r (.yes r (.lo EU .z r (.yes r (.ln BW r (.kn 3 [8,0] r (.condP r hd (fun b hd=>?_) fun b hd=>?_))))))
 · exact .sr (.kn 1 [4,0] r (.q1 results156 rf [0,0,0,0] r ⟨3,r,r,hd⟩))
 exact .sn [0] r (.sr (.kn 1 [4,0] r (.q1 results156 rf [0,0,0,0] r ⟨0,r,r,hd⟩)))
theorem IV {o0:List Int} {a0 a1:Int} {Q:(List Int)→Prop} (hd:DM o0 a0 a1 Q) :
  Fun prog 159 #[.slice p2 o0.length c3,.int .i64 a0,.int .i64 a1] I [OwnSl AE 3 p2 c3 o0] (fun I_ v l=>∃ r,v=.slice p2 r.length c3∧l=[OwnSl AE 3 p2 c3 r]∧Q r):=by
 refine Fun.en func159 ntmps159 r fun w0 M=>?_
 refine .ownCap .z fun a=>?_
 refine .sk 1 r (.nk [2,1,0] 4 r (.ln BW r ?_))
 obtain ⟨i,c,j,hd⟩:=hd
 refine .sliceOm BW FO r r r r i c (by omega) (by omega) r r fun k=>?_
 refine .no [2,1,0] r (.seq (.sr (.kn 3 [16,2,1,0] r (.condP r hd (fun b hd=>?_) fun b hd=>?_))))
 · exact .sr (.kn 2 [6,0] r (.q1 results159 rf [0] r ⟨o0,r,r,hd⟩))
 refine .sn [2,1,0] r (.sk 1 r (.ln BW r (.kn 1 [7,2,1,0] r (.seq (.dr [0,1,2,3,4,5,6] 7 (.fk 2 r ?_))))))
 obtain ⟨m,n,o,hd⟩:=hd
 refine .h r (fun _=>.sliceO (L:=0) (H:=a0.toNat) BW FO r r .z r r (.inl ⟨r,r⟩) (.inr ⟨_,_,r,(by omega),r⟩) (by omega) (by omega) r r .mk) (.fk 2 r ?_)
 obtain ⟨d,p,q,hd⟩:=hd
 refine .h r (fun _=>.sliceO (L:=a1.toNat) (H:=o0.length) BW FO r r .z r r (.inr ⟨_,_,r,d,r⟩) (.inl ⟨r,r⟩) (by omega) (by omega) r r .mk) (.ww r fun ex=>?_)
 have e:a0.toNat≤a1.toNat:=by omega
 have f:a1.toNat≤o0.length:=by omega
 refine .appendDel (L:=a0.toNat) (H:=a1.toNat) 8 .z BW yW r r r r r r r (tH _ _ _) (Nat.sub_zero _) (Nat.sub_zero _) r e f r r (.so 1 r r r trivial (.e2 7 (.ks 1 r (.nk [0,7] 2 r (.ln BW r (.ks 1 r ?_))))))
 have g:(o0.take a0.toNat++o0.drop a1.toNat).length≤(o0.length:Int).toNat:=by simp only [List.length_append,List.length_take,List.length_drop]; omega
 exact .sliceTail (L:=(o0.take a0.toNat++o0.drop a1.toNat).length) (N:=(o0.length:Int).toNat) BW FO r r r (by omega) r (by omega) r g (by omega) r r (.clearTail .z BW yW r r r r r r r a (.nk [0] 2 r (.no [6,0] r (.q1 results159 rf [0] r ⟨(o0.take a0.toNat++o0.drop a1.toNat),r,r,hd⟩))))
theorem XY {o0:AF} {a0:Int} {Q:(BI×AF)→Prop} (hd:JK o0 a0 Q) :
  Fun prog 220 #[.pointer (some ⟨b2,0,none⟩),.int .i64 a0] I [pto b2 (.cells #[.int .i64 o0.room,.slice p3 o0.row.length c4,.map (some b8),.map (some b10),.int .i64 o0.sent,.int .i64 o0.taken] 213 (0,0)),OwnSl AE 3 p3 c4 o0.row,OwnMap (Value.int .i64) DG true b8 o0.by_,OwnMap (Value.int .i64) AE false b10 o0.often] (fun I_ v l=>∃ r p20 c21 p23 c24 p26 c27 p12 c13,v=.agg #[.int .i64 r.1.Kind,.int .i64 r.1.From,.int .i64 r.1.To,.int .i64 r.1.Seq,.int .i64 r.1.Round,.int .i64 r.1.Vec.N,.slice p20 r.1.Vec.Items.length c21,.slice p23 r.1.Sums.length c24,.slice p26 r.1.Triples.length c27,.int .i64 r.1.N,.bool r.1.Over]∧RepSl MA I_ p20 c21 r.1.Vec.Items∧RepSl ZU I_ p23 c24 r.1.Sums∧RepSl BL I_ p26 c27 r.1.Triples∧l=[pto b2 (.cells #[.int .i64 r.2.room,.slice p12 r.2.row.length c13,.map (some b8),.map (some b10),.int .i64 r.2.sent,.int .i64 r.2.taken] 213 (0,0)),OwnSl AE 3 p12 c13 r.2.row,OwnMap (Value.int .i64) DG true b8 r.2.by_,OwnMap (Value.int .i64) AE false b10 r.2.often]∧Q r):=by
 refine Fun.en func220 ntmps220 r fun w0 M=>?_
 refine .sr (.al QF r fun O=>?_)
 refine .nk [4,1,0] 3 r (.lo EU .p1 r (.ks 1 r ?_))
 obtain ⟨p,b,c,hd⟩:=hd
 refine .ownNe .p2 (EB c) fun F G=>?_
 cases G
 refine .ixa0 BW FO r r p (AH c p) r r (.lo1 (j:=0) BF .p2 c r r r r r (.ks 1 r (.nk [5,4,1,0] 3 r (.lo isAgg210 .p1 r (.ks 1 r (.lookM (k:=b) (El:=DG) (ag:=true) (zv:=.agg #[.int .i64 0,.int .i64 0,.int .i64 0,.int .i64 0,.int .i64 0,.int .i64 0,.slice none 0 0,.slice none 0 0,.slice none 0 0,.int .i64 0,.bool false]) (z:=({ Kind:=0,From:=0,To:=0,Seq:=0,Round:=0,Vec:=({ N:=0,Items:=([]:List CN) }:Vec),Sums:=([]:List ZK),Triples:=([]:List AC),N:=0,Over:=false }:BI)) (KK ZL) underlying210 QF ⟨[.int .i64 0,.int .i64 0,.int .i64 0,.int .i64 0,.int .i64 0,.int .i64 0,.slice none 0 0,.slice none 0 0,.slice none 0 0,.int .i64 0,.bool false],⟨_,_,_,_,_,_,r,.nil _ _ _,.nil _ _ _,.nil _ _ _⟩,.a⟩ .p3 r r hd r r fun P q J hd u x=>?_))))))
 obtain ⟨R,S,T,U,V,W,rfl,e,g,h⟩:=u
 cases x
 refine .al QF r fun X=>?_
 refine .sa ET .z r (.nk [6,5,4,1,0] 4 r (.lo EU .p2 r (.ks 3 r ?_)))
 have y:=IV (I:=I) (o0:=o0.row) (a0:=a0) (a1:=(AJ (a0+1))) (p2:=some ⟨F,0,none⟩) (c3:=c4) hd
 refine .callS (.f call159 r) (.o [3] r) y r r fun Y Z a2 d A=>?_
 obtain ⟨t,rfl,rfl,hd⟩:=A
 obtain ⟨e,g,h⟩:=d.u3 e g h
 refine .rn 6 r (.ks 2 r (.s1 wG .p3 r (.no [6,5,4,0] r (.seq (.sk 3 r (.lo isAgg211 .p3 r (.ks 1 r (.lookM (k:=b) (El:=AE) (ag:=false) (zv:=.int .i64 0) (z:=0) (KK ZL) gR oQ ⟨[.int .i64 0],r,.s⟩ .p5 r r hd r r fun a3 i K hd B C=>?_))))))))
 cases B
 cases C
 refine .ks 1 r (.updM (k:=b) (El:=AE) (ag:=false) (v:=(AJ (i - 1))) (KK ZL) gR .p5 r r r ⟨[.int .i64 (AJ (i - 1))],r,.s⟩ (.nk [6,5,4,0] 3 r (.lo isAgg211 .p3 r (.ks 1 r (.lookM (k:=b) (El:=AE) (ag:=false) (zv:=.int .i64 0) (z:=0) (KK ZL) gR oQ ⟨[.int .i64 0],r,.s⟩ .p5 r r hd r r fun L a4 H hd D E=>?_)))))
 cases D
 cases E
 refine .kn 1 [44,6,5,4,0] r (.condP r hd (fun m hd=>?_) fun m hd=>?_)
 · refine .sk 3 r (.lo isAgg211 .p3 r (.ks 1 r (.delM (k:=b) (KK ZL) gR r .p5 r r (.no [6,5,4,0] r (.region (.ks 3 r (.lo isAgg210 .p3 r (.ks 1 r (.delM (k:=b) (KK ZL) underlying210 r .p4 r r ?_)))))))))
   exact .ns [6,4,0] r (.lw NQ ET .p1 r (.sa ET .p2 r (.no [4,0] r (.drop .p1 (.ret (OA results220 (.w NQ ET r .p1 r .n) d (.o [2,0,1,1] r) ⟨(q,({ room:=o0.room,row:=t,by_:=(CF b o0.by_),often:=(CF b (EN b (AJ (i - 1)) o0.often)),sent:=o0.sent,taken:=o0.taken }:AF)),_,_,_,_,_,_,_,_,r,e,g,h,r,hd⟩))))))
 exact .sn [6,4,0] r (.sr (.lw NQ ET .p1 r (.sa ET .p2 r (.no [4,0] r (.drop .p1 (.ret (OA results220 (.w NQ ET r .p1 r .n) d (.o [2,0,1,1] r) ⟨(q,({ room:=o0.room,row:=t,by_:=o0.by_,often:=(EN b (AJ (i - 1)) o0.often),sent:=o0.sent,taken:=o0.taken }:AF)),_,_,_,_,_,_,_,_,r,e,g,h,r,hd⟩)))))))
theorem WR {o0:AF} {a0:Int} {Q:(BI×Bool×Int×AF)→Prop} (hd:IP o0 a0 Q) :
  Fun prog 153 #[.pointer (some ⟨b2,0,none⟩),.int .i64 a0] I [pto b2 (.cells #[.int .i64 o0.room,.slice p3 o0.row.length c4,.map (some b8),.map (some b10),.int .i64 o0.sent,.int .i64 o0.taken] 213 (0,0)),OwnSl AE 3 p3 c4 o0.row,OwnMap (Value.int .i64) DG true b8 o0.by_,OwnMap (Value.int .i64) AE false b10 o0.often] (fun I_ v l=>∃ r p20 c21 p23 c24 p26 c27 p12 c13,v=.tuple #[.agg #[.int .i64 r.1.Kind,.int .i64 r.1.From,.int .i64 r.1.To,.int .i64 r.1.Seq,.int .i64 r.1.Round,.int .i64 r.1.Vec.N,.slice p20 r.1.Vec.Items.length c21,.slice p23 r.1.Sums.length c24,.slice p26 r.1.Triples.length c27,.int .i64 r.1.N,.bool r.1.Over],.bool r.2.1,.int .i64 r.2.2.1]∧RepSl MA I_ p20 c21 r.1.Vec.Items∧RepSl ZU I_ p23 c24 r.1.Sums∧RepSl BL I_ p26 c27 r.1.Triples∧l=[pto b2 (.cells #[.int .i64 r.2.2.2.room,.slice p12 r.2.2.2.row.length c13,.map (some b8),.map (some b10),.int .i64 r.2.2.2.sent,.int .i64 r.2.2.2.taken] 213 (0,0)),OwnSl AE 3 p12 c13 r.2.2.2.row,OwnMap (Value.int .i64) DG true b8 r.2.2.2.by_,OwnMap (Value.int .i64) AE false b10 r.2.2.2.often]∧Q r):=by
 refine Fun.en func153 ntmps153 r fun w0 M=>?_
 refine .sr (.al QF r fun a7=>?_)
 refine .kn 2 [4,1,0] r (.seq (.sk 2 r ?_))
 have B:=LW (I:=I) (o0:=o0) (a0:=a0) (b2:=b2) (p3:=p3) (c4:=c4) (b8:=b8) (b10:=b10) hd
 refine .callS (.f call156 r) (.o [1,1,1,1] r) B r r fun a8 O a9 b C=>?_
 obtain ⟨y,rfl,rfl,hd⟩:=C
 refine .rn 5 r (.kn 1 [7,4,1,0] r (.seq (.ownF .p1 fun m=>?_)))
 refine .dr [0,1,2,3,4,5,6,7,8,9,10,11,12,13,14,15] 16 (.fk 3 r ?_)
 refine AN hd (fun c hd=>?_) fun c hd=>?_
 · rw [c]
   exact .fk 13 r (.e2 16 (.no [27,7,4,1,0] r (.condKT r r (.sr (.build QF mF mD .n (by exact trivial) r r (.ks 1 r (.sa ET .p4 r (.kn 2 [6,5,4,0] r (.ret (OA results153 (.w NQ ET r .p4 r (.t r (.t r .n))) b (.o [0,0,0,0] r) ⟨(({ Kind:=0,From:=0,To:=0,Seq:=0,Round:=0,Vec:=({ N:=0,Items:=([]:List CN) }:Vec),Sums:=([]:List ZK),Triples:=([]:List AC),N:=0,Over:=false }:BI),false,y,o0),_,_,_,_,_,_,_,_,r,(.nil _ none 0),(.nil _ none 0),(.nil _ none 0),r,hd⟩))))))))))
 rw [c]
 refine .fk 3 r (.h r (fun _=>.yes r (.lo EU .z r .mk)) (.fk 1 r ?_))
 obtain ⟨A,b0,d,hd⟩:=hd
 obtain ⟨P,R⟩:=m (EB d)
 cases R
 refine .h r (fun _=>.yes r (.ixa0 BW FO r r A (AH d A) r r .mk)) (.h r (fun _=>.yes r (.lo1 (j:=0) BF .p1 d r r r r r .mk)) (.fk 3 r (.h r (fun _=>.yes r (.lo BF .z r .mk)) (.fk 2 r (.e2 16 (.no [27,7,4,1,0] r (.condP r hd (fun D hd=>?_) fun D hd=>?_)))))))
 · exact .sr (.build QF mF mD .n (by exact trivial) r r (.ks 1 r (.sa ET .p4 r (.kn 2 [6,5,4,0] r (.ret (OA results153 (.w NQ ET r .p4 r (.t r (.t r .n))) b (.o [0,0,0,0] r) ⟨(({ Kind:=0,From:=0,To:=0,Seq:=0,Round:=0,Vec:=({ N:=0,Items:=([]:List CN) }:Vec),Sums:=([]:List ZK),Triples:=([]:List AC),N:=0,Over:=false }:BI),false,y,o0),_,_,_,_,_,_,_,_,r,(.nil _ none 0),(.nil _ none 0),(.nil _ none 0),r,hd⟩))))))
 refine .sn [4,1,0] r (.sk 2 r ?_)
 have E:=XY (I:=O) (o0:=o0) (a0:=a0) (b2:=b2) (p3:=some ⟨P,0,none⟩) (c4:=c4) (b8:=b8) (b10:=b10) hd
 refine .callS (.f call220 r) (.o [0,0,0,0] r) E r r fun b1 S b3 F G=>?_
 obtain ⟨a,b4,b5,b6,b7,T,U,V,W,rfl,k,e,g,rfl,hd⟩:=G
 have i:=F.u1 b
 refine .rn 5 r (.al QF r fun X=>?_)
 refine .sa ET .z r (.no [8,4,0] r (.seq (.seq (.dr [0,1,2,3,4,5,6] 7 (.fk 1 r (.h r (fun _=>.lo BF .z r .mk) (.fk 3 r (.h r (fun _=>.lo BF .p1 r .mk) (.fk 1 r ?_)))))))))
 refine .e2 7 (.no [39,8,4,0] r (.condP r hd (fun p hd=>?_) fun p hd=>?_))
 · exact .sr (.build QF mF mD .n (by exact trivial) r r (.sa ET .p5 r (.kn 2 [6,5,4,0] r (.drop .z (.ret (OA results153 (.w NQ ET r .p4 r (.t r (.t r .n))) i (.o [0,0,0,0] r) ⟨(({ Kind:=0,From:=0,To:=0,Seq:=0,Round:=0,Vec:=({ N:=0,Items:=([]:List CN) }:Vec),Sums:=([]:List ZK),Triples:=([]:List AC),N:=0,Over:=false }:BI),false,0,a.2),_,_,_,_,_,_,_,_,r,(.nil _ none 0),(.nil _ none 0),(.nil _ none 0),r,hd⟩))))))
 refine .sn [8,4,0] r (.sk 3 r (.lo BF .p1 r (.ks 3 r (.s1 FO .p1 r (.ns [8,4,0] r (.lw NQ ET .z r ?_))))))
 have q:=fB (I:=S) k e g hd
 refine .call call219 r q r r fun Y Z s u=>?_
 obtain ⟨H,a1,a2,a3,a4,a5,a6,rfl,J,K,L,hd⟩:=u
 obtain ⟨x,k,e,g⟩:=s.u4 i k e g
 exact .sa ET .p5 r (.kn 2 [6,5,4,0] r (.drop .z (.ret (OA results153 (.w NQ ET r .p4 r (.t r (.t r .n))) x (.o [0,0,0,0] r) ⟨(H,true,0,({ room:=a.2.room,row:=a.2.row,by_:=a.2.by_,often:=a.2.often,sent:=a.2.sent,taken:=AJ (a.2.taken+1) }:AF)),_,_,_,_,_,_,_,_,r,J,K,L,r,hd⟩))))
theorem XZ {o0:List (Nat×AF)} {a0:Option Nat} {a1:Int} {Q:(BI×Bool×Int×(List (Nat×AF)))→Prop} (hd:MK o0 a0 a1 Q) :
  Fun prog 153 #[.pointer (tL a0),.int .i64 a1] I [BH AY o0] (fun I_ v l=>∃ r p2 c3 p5 c6 p8 c9,v=.tuple #[.agg #[.int .i64 r.1.Kind,.int .i64 r.1.From,.int .i64 r.1.To,.int .i64 r.1.Seq,.int .i64 r.1.Round,.int .i64 r.1.Vec.N,.slice p2 r.1.Vec.Items.length c3,.slice p5 r.1.Sums.length c6,.slice p8 r.1.Triples.length c9,.int .i64 r.1.N,.bool r.1.Over],.bool r.2.1,.int .i64 r.2.2.1]∧RepSl MA I_ p2 c3 r.1.Vec.Items∧RepSl ZU I_ p5 c6 r.1.Sums∧RepSl BL I_ p8 c9 r.1.Triples∧l=[BH AY r.2.2.2]∧Q r):=by
 rcases a0 with _ | b
 · have hd:=hd.1 r
   refine (Fun.frame (r:=[BH AY o0]) (OP  hd)).conseq fun I_ v l hle h=>?_
   obtain ⟨g,rfl,rr,p2,c3,p5,c6,p8,c9,rfl,c,d,a,rfl,hq⟩:=h
   exact ⟨(rr.1,rr.2.1,rr.2.2,o0),p2,c3,p5,c6,p8,c9,r,c,d,a,r,hq⟩
 obtain ⟨x,hx,hd⟩:=hd.2 b rfl
 refine Fun.bank hx (fun aa _=>WR (b2:=b) (p3:=aa.1) (c4:=aa.2.1) (b8:=aa.2.2.1) (b10:=aa.2.2.2)  hd) ?_
 rintro aa I_ v l hle ⟨rr,p2,c3,p5,c6,p8,c9,e,f,rfl,c,d,a,rfl,hq⟩
 exact ⟨(e,f,aa.2.2.1,aa.2.2.2),rr.2.2.2,[],r,trivial,(rr.1,rr.2.1,rr.2.2.1,(b,rr.2.2.2) :: CF b o0),p2,c3,p5,c6,p8,c9,r,c,d,a,r,hq⟩
theorem IW {o0:AD} {o1:List (Nat×AA)} {a0:Option Nat} {Q:(Bool×(List (Nat×AA)))→Prop} (R6:RepSl AE I p4 c5 o0.p.A.Start) (R9:RepSl AE I p7 c8 o0.p.A.Col) (R12:RepSl AE I p10 c11 o0.p.A.Val) (R15:RepSl AE I p13 c14 o0.p.B.Start) (R18:RepSl AE I p16 c17 o0.p.B.Col) (R21:RepSl AE I p19 c20 o0.p.B.Val) (R24:RepSl AE I p22 c23 o0.p.Mask.Start) (R27:RepSl AE I p25 c26 o0.p.Mask.Col) (R30:RepSl AE I p28 c29 o0.p.Mask.Val) (R33:RepSl BV I p31 c32 o0.stages) (R36:RepSl CO I p34 c35 o0.workers) (hd:CT o0 o1 a0 Q) :
  Fun prog 154 #[.pointer (some ⟨b3,0,none⟩),.pointer (tL a0)] I [pto b3 (.cells (AQ o0 p4 c5 p7 c8 p10 c11 p13 c14 p16 c17 p19 c20 p22 c23 p25 c26 p28 c29 p31 c32 p34 c35 b38) 121 (0,0)),OwnMap CX CO false b38 o0.boxes,BH AG o1] (fun I_ v l=>∃ r,v=.bool r.1∧l=[pto b3 (.cells (AQ o0 p4 c5 p7 c8 p10 c11 p13 c14 p16 c17 p19 c20 p22 c23 p25 c26 p28 c29 p31 c32 p34 c35 b38) 121 (0,0)),OwnMap CX CO false b38 o0.boxes,BH AG r.2]∧Q r):=by
 refine Fun.en func154 ntmps154 r fun w0 M=>?_
 refine .sr (.kn 1 [1,0] r (.seq (.seq ?_)))
 obtain ⟨q,z7,g6,c2,hd⟩:=hd
 refine .bankO .p2 c2 fun ⟨z8,z9,A0,A1,A2,A3,A4,A5,A6,A7,A8⟩ ⟨A9,B0,B1,B2,B3⟩=>?_
 refine .rn 5 r (.sub (E':=[(0,_),(1,.pointer (some ⟨q,0,none⟩))]) ⟨r,(by rw [g6]; rfl),trivial⟩ (.dr [0,1,2,3,4,5,6,7,8,9] 10 (.fk 3 r (.h r (fun _=>.lo BF .z r .mk) (.fk 3 r (.h r (fun _=>.lo WZ .p3 r .mk) (.h r (fun _=>.ln YL r .mk) (.fk 1 r (.e2 10 ?_)))))))))
 refine .bankB (B:=AG) (z8,z9,A0,A1,A2,A3,A4,A5,A6,A7,A8) z7 ⟨A9,B0,B1,B2,B3⟩ c2 (.o [0,0,0] r) (.no [27,1,0] r (.condP r hd (fun g7 hd=>?_) fun g7 hd=>?_))
 · exact .sr (.kn 1 [4,0] r (.q1 results154 rf [1,1,0] r ⟨(false,o1),r,r,hd⟩))
 refine .sn [1,0] r (.seq ?_)
 obtain ⟨B8,m,c9,b2,hd⟩:=hd
 obtain rfl:=Option.some.inj c9
 refine .bankO .z b2 fun ⟨g8,g9,h0,h1,h2,h3,h4,h5,h6,h7,h8⟩ ⟨h9,i0,i1,i2,i3⟩=>?_
 refine .rn 5 r (.dr [0,1,2,3,4,5,6,7,8,9,10,11,999,12] 13 (.fk 3 r (.h r (fun _=>.lo BF .z r .mk) (.h r (fun _=>.build YP dQ dL (.c r r r (.o r) (.c r r r (.o r) .n)) (by exact ⟨⟨_,_,r,r,r⟩,⟨⟨_,_,r,r,r⟩,trivial⟩⟩) r r .mk) (.fk 3 r (.h r (fun _=>.lo BF .z r .mk) (.h r (fun _=>.build YP dQ dL (.c r r r (.o r) (.c r r r (.o r) .n)) (by exact ⟨⟨_,_,r,r,r⟩,⟨⟨_,_,r,r,r⟩,trivial⟩⟩) r r .mk) (.a (fun b=>.pointer (some ⟨b,0,none⟩)) (fun b=>pto b (.cells #[.int .i64 0,.int .i64 0] 206 (0,0))) r r r r (fun _ L hL ex=>.al YP r fun b=>.mk (val:=fun b=>.pointer (some ⟨b,0,none⟩)) (atom:=fun b=>pto b (.cells #[.int .i64 0,.int .i64 0] 206 (0,0))) hL b) (.ww r fun ex=>?_)))))))))
 refine .al YP r fun B9=>?_
 refine .so 6 r r r (.ch r (fun _=>.build YP dQ dL (.c r r r (.o r) (.c r r r (.o r) .n)) (by exact ⟨⟨_,_,r,r,r⟩,⟨⟨_,_,r,r,r⟩,trivial⟩⟩) r r .mk) (.ch r (fun _=>.lo BF .p1 r .mk) (.ck 3 r r (.ch r (fun _=>.build YP dQ dL (.c r r r (.o r) (.c r r r (.o r) .n)) (by exact ⟨⟨_,_,r,r,r⟩,⟨⟨_,_,r,r,r⟩,trivial⟩⟩) r r .mk) (.ch r (fun _=>.lo BF .p1 r .mk) (.ck 3 r r trivial)))))) (.b r fun C0=>DrawD.nop (.ww r fun ex=>?_))
 refine .sa sizeOf206 .p6 r (.sn 7 r r r (.ch r (fun _=>.build YP dQ dL (.c r r r (.o r) (.c r r r (.o r) .n)) (by exact ⟨⟨_,_,r,r,r⟩,⟨⟨_,_,r,r,r⟩,trivial⟩⟩) r r .mk) (.ch r (fun _=>.lo BF .p1 r .mk) (.ck 3 r r trivial))) (.e2 13 (.sa sizeOf206 .z r (.bankB (B:=AG) (g8,g9,h0,h1,h2,h3,h4,h5,h6,h7,h8) m ⟨h9,i0,i1,i2,i3⟩ b2 (.o [1,1,1] r) (.no [5,6,1,0] r (.seq ?_))))))
 obtain ⟨C1,i4,d0,b4,hd⟩:=hd
 obtain rfl:=Option.some.inj d0
 refine .bankO .z b4 fun ⟨i5,i6,i7,i8,i9,j0,j1,j2,j3,j4,j5⟩ ⟨j6,j7,j8,j9,k0⟩=>?_
 refine .rn 7 r (.dr [0,1,2,3,4,5,6,7,8,9] 10 (.fk 3 r (.h r (fun _=>.lo isAgg124 .z r .mk) (.h r (fun _=>.lw isAgg206 sizeOf206 .p6 r .mk) (.ww r fun ex=>?_)))))
 refine .lookM2 (k:=({ kind:=6,stage:=m.at_ }:AX)) (El:=(QW BL)) (ag:=false) (zv:=.slice none 0 0) (z:=([]:List AC)) gP gQ zeroValue54 ⟨[.slice none 0 0],⟨_,_,r,.nil _ _ _⟩,.s⟩ .p1 r r hd r r fun C2 C3 C4 B4 hd d1 d2=>?_
 obtain ⟨C5,C6,rfl,U⟩:=d1
 cases d2
 refine .so 7 r r r trivial (.fk 4 r (.e2 10 (.ks 1 r (.bankB (B:=AG) (i5,i6,i7,i8,i9,j0,j1,j2,j3,j4,j5) i4 ⟨j6,j7,j8,j9,k0⟩ b4 (.o [0,0,0] r) (.no [8,7,5,6,1,0] r (.seq ?_))))))
 obtain ⟨C7,k1,d3,b5,hd⟩:=hd
 obtain rfl:=Option.some.inj d3
 refine .bankO .z b5 fun ⟨k2,k3,k4,k5,k6,k7,k8,k9,l0,l1,l2⟩ ⟨l3,l4,l5,l6,l7⟩=>?_
 refine .rn 7 r (.dr [0,1,2,3,4,5,6,7,8,9] 10 (.fk 3 r (.h r (fun _=>.lo isAgg124 .z r .mk) (.h r (fun _=>.lw isAgg206 sizeOf206 .p3 r .mk) (.ww r fun ex=>?_)))))
 refine .lookM2 (k:=({ kind:=7,stage:=m.at_ }:AX)) (El:=(QW BL)) (ag:=false) (zv:=.slice none 0 0) (z:=([]:List AC)) gP gQ zeroValue54 ⟨[.slice none 0 0],⟨_,_,r,.nil _ _ _⟩,.s⟩ .p1 r r hd r r fun C8 C9 D0 B5 hd d4 d5=>?_
 obtain ⟨D1,D2,rfl,y⟩:=d4
 cases d5
 refine .so 7 r r r trivial (.fk 4 r (.e2 10 (.ks 1 r (.bankB (B:=AG) (k2,k3,k4,k5,k6,k7,k8,k9,l0,l1,l2) k1 ⟨l3,l4,l5,l6,l7⟩ b5 (.o [0,0,0] r) (.no [10,9,8,7,5,6,1,0] r (.seq (.sk 3 r ?_)))))))
 refine AN hd (fun O hd=>?_) fun O hd=>?_
 · rw [O]
   exact .kn 3 [61,9,7,5,6,1,0] r (.condKT r r (.sr (.kn 1 [4,0] r (.drop .p1 (.drop .p3 (.q1 results154 rf [1,1,0] r ⟨(false,o1),r,r,hd⟩))))))
 rw [O]
 refine .kn 3 [61,9,7,5,6,1,0] r (.condP r hd (fun d6 hd=>?_) fun d6 hd=>?_)
 · exact .sr (.kn 1 [4,0] r (.drop .p1 (.drop .p3 (.q1 results154 rf [1,1,0] r ⟨(false,o1),r,r,hd⟩))))
 refine .sn [9,7,5,6,1,0] r (.seq ?_)
 obtain ⟨D3,l8,d7,b6,hd⟩:=hd
 obtain rfl:=Option.some.inj d7
 refine .bankO .z b6 fun ⟨l9,m0,m1,m2,m3,m4,m5,m6,m7,m8,m9⟩ ⟨n0,n1,n2,n3,n4⟩=>?_
 refine .rn 7 r (.dr [0,1,2,3,4,5,6,7,8,9,10,11,12,13,14,15,16,17,18,19,20,21,22] 23 (.fk 3 r (.h r (fun _=>.lo WZ .p4 r .mk) (.fk 3 r (.h r (fun _=>.lo BF .z r .mk) ?_)))))
 obtain ⟨c3,D4,b7,hd⟩:=hd
 obtain ⟨D5,o331,B6,n5,d8,d9⟩:=R33.2 _ _ b7
 cases d9
 refine .h r (fun _=>.ixa YL dR r n5 r c3 (AH b7 c3) r r .mk) (.fk 1 r (.h r (fun _=>.ld1 (j:=1) BF d8 r r r r r .mk) (.fk 3 r (.h r (fun _=>.lo WZ .p4 r .mk) (.fk 3 r (.h r (fun _=>.lo BF .z r .mk) ?_))))))
 obtain ⟨c4,D6,b8,hd⟩:=hd
 obtain ⟨D7,o340,B7,n6,e0,e1⟩:=R33.2 _ _ b8
 cases e1
 refine .h r (fun _=>.ixa YL dR r n6 r c4 (AH b8 c4) r r .mk) (.fk 1 r (.h r (fun _=>.ld1 (j:=0) BF e0 r r r r r .mk) (.fk 1 r (.e2 23 (.ks 1 r (.bankB (B:=AG) (l9,m0,m1,m2,m3,m4,m5,m6,m7,m8,m9) l8 ⟨n0,n1,n2,n3,n4⟩ b6 (.o [0,0,0] r) (.no [11,9,7,5,6,1,0] r (.seq ?_))))))))
 obtain ⟨D8,n7,e3,b9,hd⟩:=hd
 obtain rfl:=Option.some.inj e3
 refine .bankO .z b9 fun ⟨n8,n9,o2,o3,o4,o5,o6,o7,o8,o9,p0⟩ ⟨V,W,X,Y,Z⟩=>?_
 refine .rn 7 r (.dr [0,1,2,3,4,5,6,7,8,9,10,11,16,12,13,14,15,999,17] 18 (.fk 4 r (.h r (fun _=>.lo mH .p4 r .mk) (.fk 4 r (.h r (fun _=>.lo BF .z r .mk) (.fk 2 r (.a (fun b=>.pointer (some ⟨b,0,none⟩)) (fun b=>pto b (.cells #[.int .i64 0,.int .i64 0,.slice none 0 0,.slice none 0 0,.slice none 0 0] 33 (0,0))) r r r r (fun _ L hL ex=>.al DO r fun b=>.mk (val:=fun b=>.pointer (some ⟨b,0,none⟩)) (atom:=fun b=>pto b (.cells #[.int .i64 0,.int .i64 0,.slice none 0 0,.slice none 0 0,.slice none 0 0] 33 (0,0))) hL b) (.ww r fun ex=>?_))))))))
 have e4:=fF (I:=I) U hd
 refine .call call208 r e4 r r fun D9 p9 t e5=>?_
 obtain ⟨E0,E1,E2,E3,E4,E5,E6,rfl,C,D,E,hd⟩:=e5
 obtain ⟨R6,R9,R12,R15,R18,R21⟩:=t.u6 R6 R9 R12 R15 R18 R21
 obtain ⟨R24,R27,R30,R33,R36,U⟩:=t.u6 R24 R27 R30 R33 R36 U
 obtain ⟨y,V,W,X,Y,Z⟩:=t.u6 y V W X Y Z
 refine .so 7 r r r trivial (.fk 3 r (.b r fun E7=>DrawD.nop (.ww r fun ex=>?_)))
 refine .sa AU .p7 r (.sn 8 r r r (.ck 1 r r trivial) (.e2 18 (.ks 1 r (.bankB (B:=AG) (n8,n9,o2,o3,o4,o5,o6,o7,o8,o9,p0) n7 ⟨V,W,X,Y,Z⟩ b9 (.o [0,0,0] r) (.no [12,11,9,5,6,1,0] r (.seq ?_))))))
 obtain ⟨E8,q0,e6,c0,hd⟩:=hd
 obtain rfl:=Option.some.inj e6
 refine .bankO .z c0 fun ⟨q2,q3,q4,q5,q6,q7,q8,q9,r0,r1,r2⟩ ⟨a1,a2,a3,a4,a5⟩=>?_
 refine .rn 8 r (.dr [0,1,2,3,4,5,6,7,8,9,10,11,16,12,13,14,15,999,17] 18 (.fk 4 r (.h r (fun _=>.lo mH .p4 r .mk) (.fk 5 r (.h r (fun _=>.lo BF .z r .mk) (.fk 1 r (.a (fun b=>.pointer (some ⟨b,0,none⟩)) (fun b=>pto b (.cells #[.int .i64 0,.int .i64 0,.slice none 0 0,.slice none 0 0,.slice none 0 0] 33 (0,0))) r r r r (fun _ L hL ex=>.al DO r fun b=>.mk (val:=fun b=>.pointer (some ⟨b,0,none⟩)) (atom:=fun b=>pto b (.cells #[.int .i64 0,.int .i64 0,.slice none 0 0,.slice none 0 0,.slice none 0 0] 33 (0,0))) hL b) (.ww r fun ex=>?_))))))))
 have e7:=fF (I:=p9) y hd
 refine .call call208 r e7 r r fun E9 r3 u e8=>?_
 obtain ⟨F0,F1,F2,F3,F4,F5,F6,rfl,a6,a7,a8,hd⟩:=e8
 obtain ⟨e9,R6,R9,R12,R15,R18⟩:=u.u6 t R6 R9 R12 R15 R18
 obtain ⟨R21,R24,R27,R30,R33,R36⟩:=u.u6 R21 R24 R27 R30 R33 R36
 obtain ⟨y,C,D,E,a1,a2⟩:=u.u6 y C D E a1 a2
 obtain ⟨a3,a4,a5⟩:=u.u3 a3 a4 a5
 refine .so 8 r r r trivial (.fk 3 r (.b r fun F7=>DrawD.nop (.ww r fun ex=>?_)))
 refine .sa AU .p8 r (.sn 9 r r r (.ck 1 r r trivial) (.e2 18 (.ks 1 r (.bankB (B:=AG) (q2,q3,q4,q5,q6,q7,q8,q9,r0,r1,r2) q0 ⟨a1,a2,a3,a4,a5⟩ c0 (.o [0,0,0] r) (.no [14,12,5,6,1,0] r (.seq ?_))))))
 obtain ⟨F8,r4,f0,c1,hd⟩:=hd
 obtain rfl:=Option.some.inj f0
 refine .bankO .z c1 fun ⟨r5,r6,r7,r8,r9,s0,s2,s3,s4,s5,s6⟩ ⟨P,R,S,a9,b0⟩=>?_
 refine .rn 9 r (.dr [0,1,2,3,4,5,6,7,8,9,10,11,12,13,14,15] 16 (.fk 4 r (.h r (fun _=>.lo mH .p4 r .mk) (.h r (fun _=>.lw BU AU .p7 r .mk) (.h r (fun _=>.lw BU AU .p8 r .mk) (.fk 3 r (.h r (fun _=>.loadA BU AU r .z (.o 5 r) r r r .mk) (.ww r fun ex=>?_))))))))
 have f1:=lA (I:=r3) C D E a6 a7 a8 P R S hd
 refine .call call221 r f1 r r fun F9 G0 w f2=>?_
 obtain ⟨c6,s7,s8,rfl,F,hd⟩:=f2
 obtain ⟨f3,R6,R9,R12,R15,R18⟩:=w.u6 e9 R6 R9 R12 R15 R18
 obtain ⟨R21,R24,R27,R30,R33,R36⟩:=w.u6 R21 R24 R27 R30 R33 R36
 obtain ⟨C,D,E,a6,a7,a8⟩:=w.u6 C D E a6 a7 a8
 obtain ⟨P,R,S,a9,b0⟩:=w.u5 P R S a9 b0
 refine .so 9 r r r trivial (.fk 4 r (.e2 16 (.ks 1 r (.bankB (B:=AG) (r5,r6,r7,r8,r9,s0,s2,s3,s4,s5,s6) r4 ⟨P,R,S,a9,b0⟩ c1 (.o [0,0,0] r) (.no [16,5,6,1,0] r (.drop .p5 (.drop .p5 (.seq ?_))))))))
 obtain ⟨G1,d,f4,f5,hd⟩:=hd
 obtain rfl:=Option.some.inj f4
 refine .bankO .z f5 fun ⟨s9,t0,t1,t2,t3,t4,t5,t6,t7,t8,t9⟩ ⟨G,H,J,K,N⟩=>?_
 refine .rn 7 r (.dr [0,1,2,3,4,5,6,7,8,9,10,11,12,13,14,15,16,17,18] 19 (.fk 5 r (.h r (fun _=>.lo mH .p4 r .mk) (.fk 3 r (.h r (fun _=>.lo isAgg76 .z r .mk) (.fk 1 r (.ww r fun ex=>?_)))))))
 refine .buildSlice 2 dP wH zeroValue76 r r (.c r r r (.c r r r .n)) r r fun G2=>?_
 refine .so 8 r r r (.ch r (fun _=>.lo mH .p5 r .mk) (.ck 5 r r trivial)) (.ww r fun ex=>?_)
 refine .pubB (El:=(QW CE)) (ys:=([d.has,c6.1]:List (List AK))) (k:=2) .z (RepCs.cons (cs:=[.slice t8 d.has.length t9]) ⟨_,_,r,N⟩ (RepCs.cons (cs:=[.slice s7 c6.1.length s8]) ⟨_,_,r,F⟩ .nil)) r fun u0 T b1=>?_
 obtain ⟨f6,R6,R9,R12,R15,R18⟩:=T.u6 f3 R6 R9 R12 R15 R18
 obtain ⟨R21,R24,R27,R30,R33,R36⟩:=T.u6 R21 R24 R27 R30 R33 R36
 obtain ⟨F,G,H,J,K,N⟩:=T.u6 F G H J K N
 have f7:=lB (I:=u0) b1 hd
 refine .call call222 r f7 r r fun G3 G4 x f8=>?_
 obtain ⟨c7,u2,u4,rfl,u7,hd⟩:=f8
 obtain ⟨f9,R6,R9,R12,R15,R18⟩:=x.u6 f6 R6 R9 R12 R15 R18
 obtain ⟨R21,R24,R27,R30,R33,R36⟩:=x.u6 R21 R24 R27 R30 R33 R36
 obtain ⟨F,G,H,J,K,N⟩:=x.u6 F G H J K N
 have b1:=x.u1 b1
 refine .so 7 r r r (.ck 1 r r trivial) (.fk 5 r (.ww r fun ex=>?_))
 refine .s1 wH .z r (.sn 7 r r r (.ck 1 r r trivial) (.e2 19 (.bankC (B:=AG) (s9,t0,t1,t2,t3,t4,t5,t6,t7,u2,u4) ({ i:=d.i,j:=d.j,mask:=d.mask,out:=d.out,parts:=d.parts,at_:=d.at_,has:=c7.1 }:AA) ⟨G,H,J,K,u7⟩ (.o [0,0,0] r) (.no [5,6,1,0] r (.seq ?_)))))
 obtain ⟨G5,e,g0,g1,hd⟩:=hd
 obtain rfl:=Option.some.inj g0
 refine .bankO .z g1 fun ⟨u8,u9,v0,v1,v2,v3,v4,v5,v6,v7,v8⟩ ⟨v9,w1,w2,w3,w4⟩=>?_
 refine .rn 7 r (.dr [0,1,2,3,4,5] 6 (.fk 3 r (.h r (fun _=>.lo isAgg124 .z r .mk) (.h r (fun _=>.lw isAgg206 sizeOf206 .p6 r .mk) (.ww r fun ex=>?_)))))
 refine .delM (k:=({ kind:=6,stage:=m.at_ }:AX)) gP gQ r .p1 r r (.sn 7 r r r trivial (.e2 6 (.bankC (B:=AG) (u8,u9,v0,v1,v2,v3,v4,v5,v6,v7,v8) ({ i:=e.i,j:=e.j,mask:=e.mask,out:=e.out,parts:=(CF ({ kind:=6,stage:=m.at_ }:AX) e.parts),at_:=e.at_,has:=e.has }:AA) ⟨v9,w1,w2,w3,w4⟩ (.o [0,0,0] r) (.no [6,1,0] r (.drop .p4 (.seq ?_))))))
 obtain ⟨G6,f,g2,g3,hd⟩:=hd
 obtain rfl:=Option.some.inj g2
 refine .bankO .z g3 fun ⟨w5,w6,w7,w8,w9,x0,x1,x2,x3,x4,x5⟩ ⟨x6,x7,x8,x9,y0⟩=>?_
 refine .rn 6 r (.dr [0,1,2,3,4,5] 6 (.fk 3 r (.h r (fun _=>.lo isAgg124 .z r .mk) (.h r (fun _=>.lw isAgg206 sizeOf206 .p3 r .mk) (.ww r fun ex=>?_)))))
 refine .delM (k:=({ kind:=7,stage:=m.at_ }:AX)) gP gQ r .p1 r r (.sn 6 r r r trivial (.e2 6 (.bankC (B:=AG) (w5,w6,w7,w8,w9,x0,x1,x2,x3,x4,x5) ({ i:=f.i,j:=f.j,mask:=f.mask,out:=f.out,parts:=(CF ({ kind:=7,stage:=m.at_ }:AX) f.parts),at_:=f.at_,has:=f.has }:AA) ⟨x6,x7,x8,x9,y0⟩ (.o [0,0,0] r) (.no [1,0] r (.drop .p1 (.sk 1 r ?_))))))
 obtain ⟨G7,g,g4,g5,hd⟩:=hd
 obtain rfl:=Option.some.inj g4
 refine .bankO .z g5 fun ⟨y1,y2,y3,y4,y5,y6,y7,y8,y9,z0,z1⟩ ⟨z2,z3,z4,z5,z6⟩=>?_
 exact .rn 5 r (.ks 2 r (.lo BF .z r (.ks 3 r (.s1 FO .z r (.bankC (B:=AG) (y1,y2,y3,y4,y5,y6,y7,y8,y9,z0,z1) ({ i:=g.i,j:=g.j,mask:=g.mask,out:=g.out,parts:=g.parts,at_:=AJ (g.at_+1),has:=g.has }:AA) ⟨z2,z3,z4,z5,z6⟩ (.o [0,0,0] r) (.nk [0] 1 r (.no [4,0] r (.q1 results154 f9 [1,1,0] r ⟨(true,((q,({ i:=g.i,j:=g.j,mask:=g.mask,out:=g.out,parts:=g.parts,at_:=AJ (g.at_+1),has:=g.has }:AA)) :: (CF q ((q,({ i:=f.i,j:=f.j,mask:=f.mask,out:=f.out,parts:=(CF ({ kind:=7,stage:=m.at_ }:AX) f.parts),at_:=f.at_,has:=f.has }:AA)) :: (CF q ((q,({ i:=e.i,j:=e.j,mask:=e.mask,out:=e.out,parts:=(CF ({ kind:=6,stage:=m.at_ }:AX) e.parts),at_:=e.at_,has:=e.has }:AA)) :: (CF q ((q,({ i:=d.i,j:=d.j,mask:=d.mask,out:=d.out,parts:=d.parts,at_:=d.at_,has:=c7.1 }:AA)) :: (CF q o1))))))))),r,r,hd⟩))))))))
theorem KE {o0:AD} {o1:List (Nat×AA)} {o2:List (Nat×AF)} {a0 a1 a2:Int} {Q:(Bool×AD×(List (Nat×AA))×(List (Nat×AF)))→Prop} (R7:RepSl AE I p5 c6 o0.p.A.Start) (R10:RepSl AE I p8 c9 o0.p.A.Col) (R13:RepSl AE I p11 c12 o0.p.A.Val) (R16:RepSl AE I p14 c15 o0.p.B.Start) (R19:RepSl AE I p17 c18 o0.p.B.Col) (R22:RepSl AE I p20 c21 o0.p.B.Val) (R25:RepSl AE I p23 c24 o0.p.Mask.Start) (R28:RepSl AE I p26 c27 o0.p.Mask.Col) (R31:RepSl AE I p29 c30 o0.p.Mask.Val) (R34:RepSl BV I p32 c33 o0.stages) (R37:RepSl CO I p35 c36 o0.workers) (hd:CW o0 o1 o2 a0 a1 a2 Q) :
  Fun prog 84 #[.pointer (some ⟨b4,0,none⟩),.int .i64 a0,.int .i64 a1,.int .i64 a2] I [pto b4 (.cells (AQ o0 p5 c6 p8 c9 p11 c12 p14 c15 p17 c18 p20 c21 p23 c24 p26 c27 p29 c30 p32 c33 p35 c36 b39) 121 (0,0)),OwnMap CX CO false b39 o0.boxes,BH AG o1,BH AY o2] (fun I_ v l=>∃ r p41 c42 p44 c45 p47 c48 p50 c51 p53 c54 p56 c57 p59 c60 p62 c63 p65 c66 p68 c69 p71 c72,v=.bool r.1∧RepSl AE I_ p41 c42 r.2.1.p.A.Start∧RepSl AE I_ p44 c45 r.2.1.p.A.Col∧RepSl AE I_ p47 c48 r.2.1.p.A.Val∧RepSl AE I_ p50 c51 r.2.1.p.B.Start∧RepSl AE I_ p53 c54 r.2.1.p.B.Col∧RepSl AE I_ p56 c57 r.2.1.p.B.Val∧RepSl AE I_ p59 c60 r.2.1.p.Mask.Start∧RepSl AE I_ p62 c63 r.2.1.p.Mask.Col∧RepSl AE I_ p65 c66 r.2.1.p.Mask.Val∧RepSl BV I_ p68 c69 r.2.1.stages∧RepSl CO I_ p71 c72 r.2.1.workers∧l=[pto b4 (.cells (AQ r.2.1 p41 c42 p44 c45 p47 c48 p50 c51 p53 c54 p56 c57 p59 c60 p62 c63 p65 c66 p68 c69 p71 c72 b39) 121 (0,0)),OwnMap CX CO false b39 r.2.1.boxes,BH AG r.2.2.1,BH AY r.2.2.2]∧Q r):=by
 refine Fun.en func84 ntmps84 r fun w0 M=>?_
 refine .sk 1 r (.nk [3,2,1,0] 3 r ?_)
 have c2:=FC (I:=I) (o0:=o0) (o1:=o1) (o2:=o2) (a0:=a0) (a1:=a1) (b4:=b4) (p5:=p5) (c6:=c6) (p8:=p8) (c9:=c9) (p11:=p11) (c12:=c12) (p14:=p14) (c15:=c15) (p17:=p17) (c18:=c18) (p20:=p20) (c21:=c21) (p23:=p23) (c24:=c24) (p26:=p26) (c27:=c27) (p29:=p29) (c30:=c30) (p32:=p32) (c33:=c33) (p35:=p35) (c36:=c36) (b39:=b39) R7 R10 R13 R16 R19 R22 R25 R28 R31 R34 R37 hd
 refine .callS (.f call85 r) (.o [0,0,0,0] r) c2 r r fun o7 b5 o8 R V=>?_
 rcases V with V | V
 · obtain ⟨W,f4,f5,f6,f7,f8,f9,g0,g1,g2,g3,g4,g5,g6,g7,g8,g9,h0,h1,h2,h3,h4,h5,rfl,d,e,g,m,q,t,u,w,x,y,a,rfl,hd⟩:=V
   obtain ⟨R7,R10,R13,R16,R19,R22⟩:=R.u6 R7 R10 R13 R16 R19 R22
   obtain ⟨R25,R28,R31,R34,R37⟩:=R.u5 R25 R28 R31 R34 R37
   refine .rn 4 r (.ks 1 r ?_)
   have c3:=OP (I:=b5) (a0:=a2) hd
   refine .callS (.f call153 r) .n c3 r r fun o9 p0 p6 a7 c4=>?_
   obtain ⟨S,p9,q0,q2,q3,h6,h7,rfl,q4,q5,h8,rfl,hd⟩:=c4
   obtain ⟨a8,d,e,g,m,q⟩:=a7.u6 R d e g m q
   obtain ⟨t,u,w,x,y,a⟩:=a7.u6 t u w x y a
   refine .rn 4 r (.ks 4 r (.al QF r fun q6=>?_))
   refine .sa ET .z r (.kn 2 [10,9,2,0] r (.seq (.sr (.kn 2 [24,9,2,0] r (.condP r hd (fun c7 hd=>?_) fun c7 hd=>?_)))))
   · exact .sr (.kn 1 [8,0] r (.drop .z (.q1 results84 a8 [0,0,0,0] r ⟨(false,W.1,o1,W.2),_,_,_,_,_,_,_,_,_,_,_,_,_,_,_,_,_,_,_,_,_,_,r,d,e,g,m,q,t,u,w,x,y,a,r,hd⟩)))
   refine .sn [9,2,0] r (.sk 3 r (.lo isAgg119 .p1 r (.ks 1 r ?_)))
   obtain ⟨b6,q7,a9,hd⟩:=hd
   obtain ⟨q8,o404,o5,h9,d0,d1⟩:=a.2 _ _ a9
   cases d1
   refine .ixa QD sizeOf122 r h9 r b6 (AH a9 b6) r r (.ld1 (j:=0) JC d0 r r r r r (.kn 1 [12,9,0] r (.seq ?_)))
   obtain ⟨b7,T,d2,d3,hd⟩:=hd
   refine .bankO .p3 d3 fun ⟨i0,i1,i2,i3,i4,i5,i6,i7,i8,i9,j0⟩ ⟨j1,j2,j3,j4,j5⟩=>?_
   refine .rn 7 r (.sub (E':=[(0,_),(9,_),(12,.pointer (some ⟨b7,0,none⟩))]) ⟨r,r,(by rw [d2]; rfl),trivial⟩ (.dr [0,1,2,3,4,5,6,7,8,9,10] 11 (.fk 3 r (.h r (fun _=>.lo isAgg124 .z r .mk) (.fk 1 r (.h r (fun _=>.lo isAgg191 .p3 r .mk) (.fk 1 r (.h r (fun _=>.lo BF .p3 r .mk) (.h r (fun _=>.build YP dQ dL (.c r r r (.o r) (.c r r r (.o r) .n)) (by exact ⟨⟨_,_,r,r,r⟩,⟨⟨_,_,r,r,r⟩,trivial⟩⟩) r r .mk) ?_)))))))))
   refine .fk 1 r (.h r (fun _=>.lo isAgg54 .p3 r .mk) (.e2 11 (.updM (k:=({ kind:=S.1.Kind,stage:=S.1.Round }:AX)) (El:=(QW BL)) (ag:=false) (v:=S.1.Triples) gP gQ .p1 r r r ⟨[.slice h6 S.1.Triples.length h7],⟨_,_,r,h8⟩,.s⟩ (.bankC (B:=AG) (i0,i1,i2,i3,i4,i5,i6,i7,i8,i9,j0) ({ i:=T.i,j:=T.j,mask:=T.mask,out:=T.out,parts:=(EN ({ kind:=S.1.Kind,stage:=S.1.Round }:AX) S.1.Triples T.parts),at_:=T.at_,has:=T.has }:AA) ⟨j1,j2,j3,j4,j5⟩ (.o [0,0,0] r) (.no [12,0] r (.drop .p1 (.seq (.block (.lp hd [12,0] [1,1,1] r (fun j E l a5=>j E (BH AG a5 :: l)) (ji rf [0,0,0,0] r) ?_)))))))))
   refine fun a5 o3 hd=>jq r fun j6 Y=>?_
   obtain ⟨d4,d,e,g,m,q⟩:=Y.u6 a8 d e g m q
   obtain ⟨t,u,w,x,y,a⟩:=Y.u6 t u w x y a
   refine .seq (.sk 2 r ?_)
   have d5:=IW (I:=j6) (o0:=W.1) (o1:=a5) (a0:=(some b7)) (b3:=b4) (p4:=f4) (c5:=f5) (p7:=f6) (c8:=f7) (p10:=f8) (c11:=f9) (p13:=g0) (c14:=g1) (p16:=g2) (c17:=g3) (p19:=g4) (c20:=g5) (p22:=g6) (c23:=g7) (p25:=g8) (c26:=g9) (p28:=h0) (c29:=h1) (p31:=h2) (c32:=h3) (p34:=h4) (c35:=h5) (b38:=b39) d e g m q t u w x y a hd
   refine .callS (.f call154 r) (.o [1,1,0] r) d5 r r fun q9 r0 r1 Z d6=>?_
   obtain ⟨b8,rfl,rfl,hd⟩:=d6
   obtain ⟨d7,d8,d,e,g,m⟩:=Z.u6 d4 Y d e g m
   obtain ⟨q,t,u,w,x,y⟩:=Z.u6 q t u w x y
   have a:=Z.u1 a
   refine .rn 4 r (.no [45,12,0] r (.condP r hd (fun d9 hd=>?_) fun d9 hd=>?_))
   · exact .sn [12,0] r (.block (.skip' (je b8.2 hd d8 [2,0,0,0] r)))
   exact .en [0] r (.sr (.kn 1 [8,0] r (.q1 results84 d7 [0,0,0,0] r ⟨(true,W.1,b8.2,W.2),_,_,_,_,_,_,_,_,_,_,_,_,_,_,_,_,_,_,_,_,_,_,r,d,e,g,m,q,t,u,w,x,y,a,r,hd⟩)))
 obtain ⟨X,j7,j8,j9,k0,k1,k2,k3,k4,k5,k6,k7,k8,k9,l0,l1,l2,l3,l4,l5,l6,l7,l8,rfl,C,D,F,G,H,J,K,L,N,O,b,rfl,hd⟩:=V
 obtain ⟨R7,R10,R13,R16,R19,R22⟩:=R.u6 R7 R10 R13 R16 R19 R22
 obtain ⟨R25,R28,R31,R34,R37⟩:=R.u5 R25 R28 R31 R34 R37
 refine .rn 4 r (.ks 1 r ?_)
 have e0:=XZ (I:=b5) (o0:=X.2.2) (a0:=X.1) (a1:=a2) hd
 refine .callS (.f call153 r) (.o [3] r) e0 r r fun r2 r3 r4 b0 e1=>?_
 obtain ⟨P,r5,r6,r7,r8,l9,m0,rfl,r9,s0,m1,rfl,hd⟩:=e1
 obtain ⟨b1,C,D,F,G,H⟩:=b0.u6 R C D F G H
 obtain ⟨J,K,L,N,O,b⟩:=b0.u6 J K L N O b
 refine .rn 4 r (.ks 4 r (.al QF r fun s1=>?_))
 refine .sa ET .z r (.kn 2 [10,9,2,0] r (.seq (.sr (.kn 2 [24,9,2,0] r (.condP r hd (fun e3 hd=>?_) fun e3 hd=>?_)))))
 · exact .sr (.kn 1 [8,0] r (.drop .z (.q1 results84 b1 [1,1,1,0] r ⟨(false,X.2.1,o1,P.2.2.2),_,_,_,_,_,_,_,_,_,_,_,_,_,_,_,_,_,_,_,_,_,_,r,C,D,F,G,H,J,K,L,N,O,b,r,hd⟩)))
 refine .sn [9,2,0] r (.sk 3 r (.lo isAgg119 .p2 r (.ks 1 r ?_)))
 obtain ⟨b9,s2,b2,hd⟩:=hd
 obtain ⟨s3,o527,o6,m2,e4,e5⟩:=b.2 _ _ b2
 cases e5
 refine .ixa QD sizeOf122 r m2 r b9 (AH b2 b9) r r (.ld1 (j:=0) JC e4 r r r r r (.kn 1 [12,9,0] r (.seq ?_)))
 obtain ⟨c0,U,e6,e7,hd⟩:=hd
 refine .bankO .p4 e7 fun ⟨m3,m4,m5,m6,m7,m8,m9,n0,n1,n2,n3⟩ ⟨n4,n5,n6,n7,n8⟩=>?_
 refine .rn 7 r (.sub (E':=[(0,_),(9,_),(12,.pointer (some ⟨c0,0,none⟩))]) ⟨r,r,(by rw [e6]; rfl),trivial⟩ (.dr [0,1,2,3,4,5,6,7,8,9,10] 11 (.fk 3 r (.h r (fun _=>.lo isAgg124 .z r .mk) (.fk 1 r (.h r (fun _=>.lo isAgg191 .p3 r .mk) (.fk 1 r (.h r (fun _=>.lo BF .p3 r .mk) (.h r (fun _=>.build YP dQ dL (.c r r r (.o r) (.c r r r (.o r) .n)) (by exact ⟨⟨_,_,r,r,r⟩,⟨⟨_,_,r,r,r⟩,trivial⟩⟩) r r .mk) ?_)))))))))
 refine .fk 1 r (.h r (fun _=>.lo isAgg54 .p3 r .mk) (.e2 11 (.updM (k:=({ kind:=P.1.Kind,stage:=P.1.Round }:AX)) (El:=(QW BL)) (ag:=false) (v:=P.1.Triples) gP gQ .p1 r r r ⟨[.slice l9 P.1.Triples.length m0],⟨_,_,r,m1⟩,.s⟩ (.bankC (B:=AG) (m3,m4,m5,m6,m7,m8,m9,n0,n1,n2,n3) ({ i:=U.i,j:=U.j,mask:=U.mask,out:=U.out,parts:=(EN ({ kind:=P.1.Kind,stage:=P.1.Round }:AX) P.1.Triples U.parts),at_:=U.at_,has:=U.has }:AA) ⟨n4,n5,n6,n7,n8⟩ (.o [0,0,0] r) (.no [12,0] r (.drop .p1 (.seq (.block (.lp hd [12,0] [2,2,1] r (fun j E l a6=>j E (BH AG a6 :: l)) (ji rf [0,1,1,0] r) ?_)))))))))
 refine fun a6 o4 hd=>jq r fun n9 a3=>?_
 obtain ⟨e8,C,D,F,G,H⟩:=a3.u6 b1 C D F G H
 obtain ⟨J,K,L,N,O,b⟩:=a3.u6 J K L N O b
 refine .seq (.sk 2 r ?_)
 have e9:=IW (I:=n9) (o0:=X.2.1) (o1:=a6) (a0:=(some c0)) (b3:=b4) (p4:=j7) (c5:=j8) (p7:=j9) (c8:=k0) (p10:=k1) (c11:=k2) (p13:=k3) (c14:=k4) (p16:=k5) (c17:=k6) (p19:=k7) (c20:=k8) (p22:=k9) (c23:=l0) (p25:=l1) (c26:=l2) (p28:=l3) (c29:=l4) (p31:=l5) (c32:=l6) (p34:=l7) (c35:=l8) (b38:=b39) C D F G H J K L N O b hd
 refine .callS (.f call154 r) (.o [1,1,0] r) e9 r r fun s4 s5 s6 a4 f0=>?_
 obtain ⟨c1,rfl,rfl,hd⟩:=f0
 obtain ⟨f1,f2,C,D,F,G⟩:=a4.u6 e8 a3 C D F G
 obtain ⟨H,J,K,L,N,O⟩:=a4.u6 H J K L N O
 have b:=a4.u1 b
 refine .rn 4 r (.no [45,12,0] r (.condP r hd (fun f3 hd=>?_) fun f3 hd=>?_))
 · exact .sn [12,0] r (.block (.skip' (je c1.2 hd f2 [2,0,0,0] r)))
 exact .en [0] r (.sr (.kn 1 [8,0] r (.q1 results84 f1 [0,0,0,0] r ⟨(true,X.2.1,c1.2,P.2.2.2),_,_,_,_,_,_,_,_,_,_,_,_,_,_,_,_,_,_,_,_,_,_,r,C,D,F,G,H,J,K,L,N,O,b,r,hd⟩)))
theorem WS (hd:RO ) :
  Fun prog 157 #[.pointer none] I [] (fun _ _ _=>False):=by
 refine Fun.en func157 ntmps157 r fun w0 M=>?_
 refine .sr (.kn 1 [0] r (.seq (.dr [0,1,2,3,4,5,6,7,8,9] 10 (.fk 1 r ?_))))
 exact hd.elim
theorem ME {a0:Int} {Q:Int→Prop} (hd:GW a0 Q) :
  Fun prog 86 #[.pointer none,.int .i64 a0] I [] (fun I_ v l=>∃ r,v=.int .i64 r∧l=[]∧Q r):=by
 refine Fun.en func86 ntmps86 r fun w0 M=>?_
 refine .sr (.kn 1 [1,0] r (.seq (.sk 2 r ?_)))
 have g:=LV (I:=I) (a0:=a0) hd
 refine .callS (.f call156 r) .n g r r fun k h m a b=>?_
 obtain ⟨i,rfl,rfl,hd⟩:=b
 refine .rn 0 r (.ks 1 r (.nk [5,1,0] 2 r (.no [10,5,1,0] r (.condP r hd (fun c hd=>?_) fun c hd=>?_))))
 · exact .sr (.kn 2 [4] r (.q1 results86 a [] r ⟨i,r,r,hd⟩))
 refine .sn [1,0] r (.seq (.sk 1 r ?_))
 have d:=WS (I:=h)  hd
 refine .callS (.f call157 r) .n d r r fun o p q j e=>?_
 exact e.elim
theorem UP {o0:AF} {a0:Int} {Q:(Int×AF)→Prop} (hd:GX o0 a0 Q) :
  Fun prog 86 #[.pointer (some ⟨b2,0,none⟩),.int .i64 a0] I [pto b2 (.cells #[.int .i64 o0.room,.slice p3 o0.row.length c4,.map (some b8),.map (some b10),.int .i64 o0.sent,.int .i64 o0.taken] 213 (0,0)),OwnSl AE 3 p3 c4 o0.row,OwnMap (Value.int .i64) DG true b8 o0.by_,OwnMap (Value.int .i64) AE false b10 o0.often] (fun I_ v l=>∃ r p12 c13,v=.int .i64 r.1∧l=[pto b2 (.cells #[.int .i64 r.2.room,.slice p12 r.2.row.length c13,.map (some b8),.map (some b10),.int .i64 r.2.sent,.int .i64 r.2.taken] 213 (0,0)),OwnSl AE 3 p12 c13 r.2.row,OwnMap (Value.int .i64) DG true b8 r.2.by_,OwnMap (Value.int .i64) AE false b10 r.2.often]∧Q r):=by
 refine Fun.en func86 ntmps86 r fun w0 M=>?_
 refine .sr (.kn 1 [1,0] r (.seq (.sk 2 r ?_)))
 have e:=LW (I:=I) (o0:=o0) (a0:=a0) (b2:=b2) (p3:=p3) (c4:=c4) (b8:=b8) (b10:=b10) hd
 refine .callS (.f call156 r) (.o [0,0,0,0] r) e r r fun D u E b g=>?_
 obtain ⟨w,rfl,rfl,hd⟩:=g
 refine .rn 4 r (.ks 1 r (.nk [5,1,0] 2 r (.no [10,5,1,0] r (.condP r hd (fun h hd=>?_) fun h hd=>?_))))
 · exact .sr (.kn 2 [4,0] r (.q1 results86 b [0,0,0,0] r ⟨(w,o0),_,_,r,r,hd⟩))
 refine .sn [1,0] r (.seq (.sk 1 r ?_))
 have i:=OO (I:=u) (o0:=o0) (b2:=b2) (p3:=p3) (c4:=c4) (b8:=b8) (b10:=b10) hd
 refine .callS (.f call157 r) (.o [0,0,0,0] r) i r r fun F x G k m=>?_
 obtain ⟨H,rfl,rfl,hd⟩:=m
 have c:=k.u1 b
 refine .rn 4 r (.no [13,1,0] r (.condP r hd (fun n hd=>?_) fun n hd=>?_))
 · exact .sr (.kn 1 [4,0] r (.q1 results86 c [0,0,0,0] r ⟨(9,o0),_,_,r,r,hd⟩))
 refine .sn [1,0] r (.sk 4 r (.lo EU .z r (.ks 1 r ?_)))
 obtain ⟨d,y,a,hd⟩:=hd
 refine .ownNe .p1 (EB a) fun A B=>?_
 cases B
 refine .ixa0 BW FO r r d (AH a d) r r (.lo1 (j:=0) BF .p1 a r r r r r ?_)
 have p:=QS (I:=x) (o0:=o0) (a0:=y) (b2:=b2) (p3:=some ⟨A,0,none⟩) (c4:=c4) (b8:=b8) (b10:=b10) hd
 refine .callS (.f call158 r) (.o [0,0,0,0] r) p r r fun J K L q s=>?_
 obtain ⟨C,N,O,rfl,rfl,hd⟩:=s
 have t:=q.u1 c
 exact .rn 4 r (.nk [0] 1 r (.no [4,0] r (.q1 results86 t [0,0,0,0] r ⟨(0,C),_,_,r,r,hd⟩)))
theorem W0 {o0:List (Nat×AF)} {a0:Option Nat} {a1:Int} {Q:(Int×(List (Nat×AF)))→Prop} (hd:KN o0 a0 a1 Q) :
  Fun prog 86 #[.pointer (tL a0),.int .i64 a1] I [BH AY o0] (fun I_ v l=>∃ r,v=.int .i64 r.1∧l=[BH AY r.2]∧Q r):=by
 rcases a0 with _ | b
 · have hd:=hd.1 r
   refine (Fun.frame (r:=[BH AY o0]) (ME  hd)).conseq fun I_ v l hle h=>?_
   obtain ⟨d,rfl,rr,rfl,rfl,hq⟩:=h
   exact ⟨(rr,o0),r,r,hq⟩
 obtain ⟨x,hx,hd⟩:=hd.2 b rfl
 refine Fun.bank hx (fun aa _=>UP (b2:=b) (p3:=aa.1) (c4:=aa.2.1) (b8:=aa.2.2.1) (b10:=aa.2.2.2)  hd) ?_
 rintro aa I_ v l hle ⟨rr,a,c,rfl,rfl,hq⟩
 exact ⟨(a,c,aa.2.2.1,aa.2.2.2),rr.2,[],r,trivial,(rr.1,(b,rr.2) :: CF b o0),r,r,hq⟩
theorem OQ {a0:Int} {Q:Int→Prop} (hd:IQ a0 Q) :
  Fun prog 87 #[.pointer none,.int .i64 a0] I [] (fun I_ v l=>∃ r,v=.int .i64 r∧l=[]∧Q r):=by
 refine Fun.en func87 ntmps87 r fun w0 M=>?_
 refine .sr (.kn 1 [1,0] r (.seq (.sk 2 r ?_)))
 have d:=LV (I:=I) (a0:=a0) hd
 refine .callS (.f call156 r) .n d r r fun g h i a b=>?_
 obtain ⟨e,rfl,rfl,hd⟩:=b
 refine .rn 0 r (.ks 1 r (.nk [5,1,0] 2 r (.no [11,5,1,0] r (.condP r hd (fun c hd=>?_) fun c hd=>?_))))
 · exact .sr (.kn 2 [4] r (.q1 results87 a [] r ⟨e,r,r,hd⟩))
 refine .sn [1,0] r (.sk 1 r ?_)
 exact hd.elim
theorem WT {o0:AF} {a0:Int} {Q:(Int×AF)→Prop} (hd:IR o0 a0 Q) :
  Fun prog 87 #[.pointer (some ⟨b2,0,none⟩),.int .i64 a0] I [pto b2 (.cells #[.int .i64 o0.room,.slice p3 o0.row.length c4,.map (some b8),.map (some b10),.int .i64 o0.sent,.int .i64 o0.taken] 213 (0,0)),OwnSl AE 3 p3 c4 o0.row,OwnMap (Value.int .i64) DG true b8 o0.by_,OwnMap (Value.int .i64) AE false b10 o0.often] (fun I_ v l=>∃ r p12 c13,v=.int .i64 r.1∧l=[pto b2 (.cells #[.int .i64 r.2.room,.slice p12 r.2.row.length c13,.map (some b8),.map (some b10),.int .i64 r.2.sent,.int .i64 r.2.taken] 213 (0,0)),OwnSl AE 3 p12 c13 r.2.row,OwnMap (Value.int .i64) DG true b8 r.2.by_,OwnMap (Value.int .i64) AE false b10 r.2.often]∧Q r):=by
 refine Fun.en func87 ntmps87 r fun w0 M=>?_
 refine .sr (.kn 1 [1,0] r (.seq (.sk 2 r ?_)))
 have g:=LW (I:=I) (o0:=o0) (a0:=a0) (b2:=b2) (p3:=p3) (c4:=c4) (b8:=b8) (b10:=b10) hd
 refine .callS (.f call156 r) (.o [0,0,0,0] r) g r r fun A t B b h=>?_
 obtain ⟨u,rfl,rfl,hd⟩:=h
 refine .rn 4 r (.ks 1 r (.nk [5,1,0] 2 r (.no [11,5,1,0] r (.condP r hd (fun i hd=>?_) fun i hd=>?_))))
 · exact .sr (.kn 2 [4,0] r (.q1 results87 b [0,0,0,0] r ⟨(u,o0),_,_,r,r,hd⟩))
 refine .sn [1,0] r (.sk 3 r (.lo EU .z r (.ks 1 r ?_)))
 obtain ⟨d,e,a,hd⟩:=hd
 refine .ownNe .p1 (EB a) fun w x=>?_
 cases x
 refine .ixa0 BW FO r r d (AH a d) r r (.lo1 (j:=0) BF .p1 a r r r r r (.ks 1 r (.nk [6,1,0] 4 r (.lo EU .z r (.ks 3 r ?_)))))
 have k:=IV (I:=t) (o0:=o0.row) (a0:=a0) (a1:=(AJ (a0+1))) (p2:=some ⟨w,0,none⟩) (c3:=c4) hd
 refine .callS (.f call159 r) (.o [1] r) k r r fun C D E m p=>?_
 obtain ⟨y,rfl,rfl,hd⟩:=p
 have q:=m.u1 b
 refine .rn 4 r (.ks 1 r (.buildSlice 1 BW FO oQ r r (.c r r r .n) r r fun F=>?_))
 obtain ⟨s,hd⟩:=hd
 refine .append (ys:=[e]) 8 .p1 BW BW yW r r r r r r r r r (.box .z (.one r) r) s r r fun G H=>?_
 exact .ks 2 r (.s1 wG .p2 r (.no [0] r (.drop .p1 (.sr (.kn 1 [4,0] r (.q1 results87 q [1,0,0,0] r ⟨(0,({ room:=o0.room,row:=(y++([e])),by_:=o0.by_,often:=o0.often,sent:=o0.sent,taken:=o0.taken }:AF)),_,_,r,r,hd⟩))))))
theorem Y0 {o0:List (Nat×AF)} {a0:Option Nat} {a1:Int} {Q:(Int×(List (Nat×AF)))→Prop} (hd:ML o0 a0 a1 Q) :
  Fun prog 87 #[.pointer (tL a0),.int .i64 a1] I [BH AY o0] (fun I_ v l=>∃ r,v=.int .i64 r.1∧l=[BH AY r.2]∧Q r):=by
 rcases a0 with _ | b
 · have hd:=hd.1 r
   refine (Fun.frame (r:=[BH AY o0]) (OQ  hd)).conseq fun I_ v l hle h=>?_
   obtain ⟨d,rfl,rr,rfl,rfl,hq⟩:=h
   exact ⟨(rr,o0),r,r,hq⟩
 obtain ⟨x,hx,hd⟩:=hd.2 b rfl
 refine Fun.bank hx (fun aa _=>WT (b2:=b) (p3:=aa.1) (c4:=aa.2.1) (b8:=aa.2.2.1) (b10:=aa.2.2.2)  hd) ?_
 rintro aa I_ v l hle ⟨rr,a,c,rfl,rfl,hq⟩
 exact ⟨(a,c,aa.2.2.1,aa.2.2.2),rr.2,[],r,trivial,(rr.1,(b,rr.2) :: CF b o0),r,r,hq⟩
theorem QT {o0:AF} {Q:Int→Prop} (hd:HE o0 Q) :
  Fun prog 97 #[.pointer (some ⟨b2,0,none⟩)] I [pto b2 (.cells #[.int .i64 o0.room,.slice p3 o0.row.length c4,.map (some b8),.map (some b10),.int .i64 o0.sent,.int .i64 o0.taken] 213 (0,0)),OwnSl AE 3 p3 c4 o0.row,OwnMap (Value.int .i64) DG true b8 o0.by_,OwnMap (Value.int .i64) AE false b10 o0.often] (fun I_ v l=>∃ r,v=.int .i64 r∧l=[pto b2 (.cells #[.int .i64 o0.room,.slice p3 o0.row.length c4,.map (some b8),.map (some b10),.int .i64 o0.sent,.int .i64 o0.taken] 213 (0,0)),OwnSl AE 3 p3 c4 o0.row,OwnMap (Value.int .i64) DG true b8 o0.by_,OwnMap (Value.int .i64) AE false b10 o0.often]∧Q r):=by
 refine Fun.en func97 ntmps97 r fun w0 M=>?_
 refine .sr (.kn 1 [0] r (.seq (.sk 1 r (.eqNilP dO r r r r (.no [4,0] r (.condKF r r (.sn [0] r (.sk 3 r (.lo EU .z r ?_)))))))))
 exact .ln BW r (.kn 1 [2,0] r (.q1 results97 rf [0,0,0,0] r ⟨(o0.row.length:Int),r,r,hd⟩))
theorem QU {Q:Int→Prop} (hd:MM Q) :
  Fun prog 97 #[.pointer none] I [] (fun I_ v l=>∃ r,v=.int .i64 r∧l=[]∧Q r):=by
 refine Fun.en func97 ntmps97 r fun w0 M=>?_
 exact .sr (.kn 1 [0] r (.seq (.sk 1 r (.eqNilP dO r r r r (.no [4,0] r (.condKT r r (.sr (.kn 1 [2] r (.q1 results97 rf [] r ⟨0,r,r,hd⟩)))))))))
theorem RW {o0:List (Nat×AF)} {a0:Option Nat} {Q:Int→Prop} (hd:GC o0 a0 Q) :
  Fun prog 97 #[.pointer (tL a0)] I [BH AY o0] (fun I_ v l=>∃ r,v=.int .i64 r∧l=[BH AY o0]∧Q r):=by
 rcases a0 with _ | b
 · have hd:=hd.1 r
   refine (Fun.frame (r:=[BH AY o0]) (QU  hd)).conseq fun I_ v l hle h=>?_
   obtain ⟨a,rfl,rr,rfl,rfl,hq⟩:=h
   exact ⟨rr,r,r,hq⟩
 obtain ⟨x,hx,hd⟩:=hd.2 b rfl
 refine Fun.bankR hx (fun aa _=>QT (b2:=b) (p3:=aa.1) (c4:=aa.2.1) (b8:=aa.2.2.1) (b10:=aa.2.2.2)  hd) ?_
 rintro aa I_ v l hle hf ⟨rr,rfl,rfl,hq⟩
 exact ⟨(aa.1,aa.2.1,aa.2.2.1,aa.2.2.2),[],r,trivial,rr,r,r,hq⟩
theorem TE {o0 a0:Int} {Q:Bool→Prop} (hd:IF o0 a0 Q) :
  Fun prog 203 #[.int .i64 a0,.pointer (some ⟨b2,0,none⟩)] I [pto b2 (.cells #[.int .i64 o0] 3 (0,0))] (fun I_ v l=>∃ r,v=.bool r∧l=[pto b2 (.cells #[.int .i64 o0] 3 (0,0))]∧Q r):=by
 refine Fun.en func203 ntmps203 r fun w0 M=>?_
 exact .sk 1 r (.nk [1,0] 1 r (.lo BF .z r (.kn 2 [3,1] r (.q1 results203 rf [0] r ⟨(a0==o0),r,r,hd⟩))))
theorem MV {o0:List Int} {o1:Int} {Q:Int→Prop} (hd:DW o0 o1 Q) :
  Fun prog 202 #[.slice p3 o0.length c4,.func (.func 203) #[] #[.pointer (some ⟨b5,0,none⟩)]] I [OwnSl AE 3 p3 c4 o0,pto b5 (.cells #[.int .i64 o1] 3 (0,0))] (fun I_ v l=>∃ r,v=.int .i64 r∧l=[OwnSl AE 3 p3 c4 o0,pto b5 (.cells #[.int .i64 o1] 3 (0,0))]∧Q r):=by
 refine Fun.en func202 ntmps202 r fun w0 M=>?_
 refine .sr (.kn 1 [1,0] r (.seq (.sk 1 r (.ln BW r (.kn 1 [8,7,1,0] r (.block (.lp hd [7,1,0] [0,0] r (fun j E l b=>j ((8,.int .i64 b) :: E) l) (ji rf [0,0] r) ?_)))))))
 refine fun b n hd=>jq r fun p d=>?_
 refine .sr (.kn 1 [9,8,7,1,0] r (.seq (.condP r hd (fun g hd=>?_) fun g hd=>?_)))
 · refine .sn [8,7,1,0] r (.seq (.block (.sk 2 r (.nk [5,8,7,1,0] 3 r ?_))))
   obtain ⟨f,q,a,hd⟩:=hd
   refine .ownNe .z (EB a) fun t s=>?_
   cases s
   refine .ixa0 BW FO r r f (AH a f) r r (.lo1 (j:=0) BF .z a r r r r r ?_)
   have h:=TE (I:=p) (o0:=o1) (a0:=q) (b2:=b5) hd
   refine .callS (.c call203 r r) (.o [1] r) h r r fun u w x i k=>?_
   obtain ⟨y,rfl,rfl,hd⟩:=k
   have e:=i.u1 d
   refine .rn 2 r (.no [16,5,8,7,1,0] r (.condP r hd (fun m hd=>?_) fun m hd=>?_))
   · exact .sr (.kn 2 [4,1,0] r (.q1 results202 e [1,0] r ⟨b,r,r,hd⟩))
   exact .sn [8,7,1,0] r (.region (.ks 2 r (.nil' (je (AJ (b+1)) hd e [1,0] r))))
 exact .en [1,0] r (.sr (.kn 1 [4,1,0] r (.q1 results202 d [0,0] r ⟨(-1),r,r,hd⟩)))
theorem UQ {o0:AF} {Q:Int→Prop} (hd:GY o0 Q) :
  Fun prog 130 #[.pointer (some ⟨b2,0,none⟩)] I [pto b2 (.cells #[.int .i64 o0.room,.slice p3 o0.row.length c4,.map (some b8),.map (some b10),.int .i64 o0.sent,.int .i64 o0.taken] 213 (0,0)),OwnSl AE 3 p3 c4 o0.row,OwnMap (Value.int .i64) DG true b8 o0.by_,OwnMap (Value.int .i64) AE false b10 o0.often] (fun I_ v l=>∃ r,v=.int .i64 r∧l=[pto b2 (.cells #[.int .i64 o0.room,.slice p3 o0.row.length c4,.map (some b8),.map (some b10),.int .i64 o0.sent,.int .i64 o0.taken] 213 (0,0)),OwnSl AE 3 p3 c4 o0.row,OwnMap (Value.int .i64) DG true b8 o0.by_,OwnMap (Value.int .i64) AE false b10 o0.often]∧Q r):=by
 refine Fun.en func130 ntmps130 r fun w0 M=>?_
 refine .sr (.kn 1 [0] r (.seq (.sk 1 r ?_)))
 have c:=QT (I:=I) (o0:=o0) (b2:=b2) (p3:=p3) (c4:=c4) (b8:=b8) (b10:=b10) hd
 refine .callS (.f call97 r) (.o [0,0,0,0] r) c r r fun s b t a d=>?_
 obtain ⟨u,rfl,rfl,hd⟩:=d
 refine .rn 4 r (.kn 1 [6,0] r (.condP r hd (fun e hd=>?_) fun e hd=>?_))
 · exact .sr (.kn 1 [2,0] r (.q1 results130 a [0,0,0,0] r ⟨(-1),r,r,hd⟩))
 refine .sn [0] r (.sk 3 r (.lo EU .z r ?_))
 have g:=fun (J:IH) (hJ:IH.le b J) (hL:Y7 J [OwnSl AE 3 p3 c4 o0.row])=>VZ (I:=J) (Ac3 hL.1) hd
 refine .callB (.f call201 r) (.o [1] r) g r r fun w _ h=>?_
 obtain ⟨n,rfl,hd⟩:=h
 refine .alloc1 oQ r r r fun p=>?_
 refine .s1 FO .z r (.nk [3,0] 3 r (.lo EU .p1 r (.mkFn r r r r ?_)))
 have i:=MV (I:=b) (o0:=o0.row) (o1:=n) (p3:=p3) (c4:=c4) (b5:=p) hd
 refine .callS (.f call202 r) (.o [2,0] r) i r r fun x y A j k=>?_
 obtain ⟨q,rfl,rfl,hd⟩:=k
 have m:=j.u1 a
 exact .rn 5 r (.kn 1 [2,0] r (.drop .p1 (.q1 results130 m [1,0,0,0] r ⟨q,r,r,hd⟩)))
theorem UR {Q:Int→Prop} (hd:OJ Q) :
  Fun prog 130 #[.pointer none] I [] (fun I_ v l=>∃ r,v=.int .i64 r∧l=[]∧Q r):=by
 refine Fun.en func130 ntmps130 r fun w0 M=>?_
 refine .sr (.kn 1 [0] r (.seq (.sk 1 r ?_)))
 have d:=QU (I:=I)  hd
 refine .callS (.f call97 r) .n d r r fun e g h a b=>?_
 obtain ⟨i,rfl,rfl,hd⟩:=b
 refine .rn 0 r (.kn 1 [6,0] r (.condP r hd (fun c hd=>?_) fun c hd=>?_))
 · exact .sr (.kn 1 [2] r (.q1 results130 a [] r ⟨(-1),r,r,hd⟩))
 refine .sn [0] r (.sk 1 r ?_)
 exact hd.elim
theorem W2 {o0:List (Nat×AF)} {a0:Option Nat} {Q:Int→Prop} (hd:HU o0 a0 Q) :
  Fun prog 130 #[.pointer (tL a0)] I [BH AY o0] (fun I_ v l=>∃ r,v=.int .i64 r∧l=[BH AY o0]∧Q r):=by
 rcases a0 with _ | b
 · have hd:=hd.1 r
   refine (Fun.frame (r:=[BH AY o0]) (UR  hd)).conseq fun I_ v l hle h=>?_
   obtain ⟨a,rfl,rr,rfl,rfl,hq⟩:=h
   exact ⟨rr,r,r,hq⟩
 obtain ⟨x,hx,hd⟩:=hd.2 b rfl
 refine Fun.bankR hx (fun aa _=>UQ (b2:=b) (p3:=aa.1) (c4:=aa.2.1) (b8:=aa.2.2.1) (b10:=aa.2.2.2)  hd) ?_
 rintro aa I_ v l hle hf ⟨rr,rfl,rfl,hq⟩
 exact ⟨(aa.1,aa.2.1,aa.2.2.1,aa.2.2.2),[],r,trivial,rr,r,r,hq⟩
theorem JH {o0:AD} {o1:List (Nat×AA)} {o2:List (Nat×AF)} {Q:(Bool×AD×(List (Nat×AA))×(List (Nat×AF)))→Prop} (R7:RepSl AE I p5 c6 o0.p.A.Start) (R10:RepSl AE I p8 c9 o0.p.A.Col) (R13:RepSl AE I p11 c12 o0.p.A.Val) (R16:RepSl AE I p14 c15 o0.p.B.Start) (R19:RepSl AE I p17 c18 o0.p.B.Col) (R22:RepSl AE I p20 c21 o0.p.B.Val) (R25:RepSl AE I p23 c24 o0.p.Mask.Start) (R28:RepSl AE I p26 c27 o0.p.Mask.Col) (R31:RepSl AE I p29 c30 o0.p.Mask.Val) (R34:RepSl BV I p32 c33 o0.stages) (R37:RepSl CO I p35 c36 o0.workers) (hd:DT o0 o1 o2 Q) :
  Fun prog 63 #[.pointer (some ⟨b4,0,none⟩)] I [pto b4 (.cells (AQ o0 p5 c6 p8 c9 p11 c12 p14 c15 p17 c18 p20 c21 p23 c24 p26 c27 p29 c30 p32 c33 p35 c36 b39) 121 (0,0)),OwnMap CX CO false b39 o0.boxes,BH AG o1,BH AY o2] (fun I_ v l=>∃ r p41 c42 p44 c45 p47 c48 p50 c51 p53 c54 p56 c57 p59 c60 p62 c63 p65 c66 p68 c69 p71 c72,v=.bool r.1∧RepSl AE I_ p41 c42 r.2.1.p.A.Start∧RepSl AE I_ p44 c45 r.2.1.p.A.Col∧RepSl AE I_ p47 c48 r.2.1.p.A.Val∧RepSl AE I_ p50 c51 r.2.1.p.B.Start∧RepSl AE I_ p53 c54 r.2.1.p.B.Col∧RepSl AE I_ p56 c57 r.2.1.p.B.Val∧RepSl AE I_ p59 c60 r.2.1.p.Mask.Start∧RepSl AE I_ p62 c63 r.2.1.p.Mask.Col∧RepSl AE I_ p65 c66 r.2.1.p.Mask.Val∧RepSl BV I_ p68 c69 r.2.1.stages∧RepSl CO I_ p71 c72 r.2.1.workers∧l=[pto b4 (.cells (AQ r.2.1 p41 c42 p44 c45 p47 c48 p50 c51 p53 c54 p56 c57 p59 c60 p62 c63 p65 c66 p68 c69 p71 c72 b39) 121 (0,0)),OwnMap CX CO false b39 r.2.1.boxes,BH AG r.2.2.1,BH AY r.2.2.2]∧Q r):=by
 refine Fun.en func63 ntmps63 r fun w0 M=>?_
 refine .sk 1 r (.nk [0] 1 r (.no [3,0] r (.seq (.sk 3 r (.lo isAgg119 .z r (.ln QD r (.kn 1 [14,13,3,0] r (.block (.lx hd [13,0] [] r (fun j E l (p7,p9,q0,g4,g5,g6,q2,q3,g7,g8,g9,q4,q5,h0,h1,h2,q6,q7,q8,h3,h4,q9,r0,f8,r1,r2)=>fun c w=>∃ h5 h6 h7 h8 h9 i0 i1 i2 i3 i4 i5 i6 i7 i8 i9 j0 j1 j2 j3 j4 j5 j6,j ⟨66,[],none⟩ (fun I_=>RepSl AE I_ h5 h6 g4∧RepSl AE I_ h7 h8 g5∧RepSl AE I_ h9 i0 g6∧RepSl AE I_ i1 i2 g7∧RepSl AE I_ i3 i4 g8∧RepSl AE I_ i5 i6 g9∧RepSl AE I_ i7 i8 h0∧RepSl AE I_ i9 j0 h1∧RepSl AE I_ j1 j2 h2∧RepSl BV I_ j3 j4 h3∧RepSl CO I_ j5 j6 h4) ((3,.bool r0) :: (14,.int .i64 f8) :: E) (pto b4 (.cells #[.int .i64 p7,.int .i64 p9,.int .i64 q0,.slice h5 g4.length h6,.slice h7 g5.length h8,.slice h9 g6.length i0,.int .i64 q2,.int .i64 q3,.slice i1 g7.length i2,.slice i3 g8.length i4,.slice i5 g9.length i6,.int .i64 q4,.int .i64 q5,.slice i7 h0.length i8,.slice i9 h1.length j0,.slice j1 h2.length j2,.int .i64 q6,.int .i64 q7,.int .i64 q8,.slice j3 h3.length j4,.slice j5 h4.length j6,.map (some b39)] 121 (0,0)) :: OwnMap CX CO false b39 q9 :: BH AG r1 :: BH AY r2 :: l) c w) (fun c w ho hs=>⟨_,_,_,_,_,_,_,_,_,_,_,_,_,_,_,_,_,_,_,_,_,_,jf rf ⟨R7,R10,R13,R16,R19,R22,R25,R28,R31,R34,R37⟩ [0,0,0,0] r ho hs⟩) ?_)))))))))
 rintro ⟨p7,p9,q0,g4,g5,g6,q2,q3,g7,g8,g9,q4,q5,h0,h1,h2,q6,q7,q8,h3,h4,q9,r0,f8,r1,r2⟩ x7 hd c w ⟨h5,h6,h7,h8,h9,i0,i1,i2,i3,i4,i5,i6,i7,i8,i9,j0,j1,j2,j3,j4,j5,j6,x4,r3,⟨j7,j8,j9,k0,k1,k2,k3,k4,k5,k6,k7⟩,hok,hsym⟩
 refine Cod.at hok hsym (.sr (.kn 1 [15,14,13,3,0] r (.seq (.condP r hd (fun w4 hd=>?_) fun w4 hd=>?_))))
 · refine .sn [14,13,3,0] r (.seq (.block (.sr (.kn 2 [4,14,13,3,0] r (.region (.ks 2 r ?_))))))
   have w5:=KD (I:=x4) (o0:=({ p:=({ Ring:=p7,A:=({ Rows:=p9,Cols:=q0,Start:=g4,Col:=g5,Val:=g6 }:Rows),B:=({ Rows:=q2,Cols:=q3,Start:=g7,Col:=g8,Val:=g9 }:Rows),Mask:=({ Rows:=q4,Cols:=q5,Start:=h0,Col:=h1,Val:=h2 }:Rows),R:=q6,C:=q7,Room:=q8 }:CM),stages:=h3,workers:=h4,boxes:=q9 }:AD)) (o1:=r1) (o2:=r2) (a0:=f8) (b4:=b4) (p5:=h5) (c6:=h6) (p8:=h7) (c9:=h8) (p11:=h9) (c12:=i0) (p14:=i1) (c15:=i2) (p17:=i3) (c18:=i4) (p20:=i5) (c21:=i6) (p23:=i7) (c24:=i8) (p26:=i9) (c27:=j0) (p29:=j1) (c30:=j2) (p32:=j3) (c33:=j4) (p35:=j5) (c36:=j6) (b39:=b39) j7 j8 j9 k0 k1 k2 k3 k4 k5 k6 k7 hd
   refine .callS (.f call83 r) (.o [0,0,0,0] r) w5 r r fun B4 B5 B6 r4 w6=>?_
   obtain ⟨b,B7,B8,B9,C0,C1,C2,C3,C4,C5,C6,C7,C8,C9,D0,D1,D2,D3,D4,D5,D6,D7,D8,rfl,s7,s8,s9,t0,t1,t2,t3,t4,t5,t6,t7,rfl,hd⟩:=w6
   obtain ⟨r5,j7,j8,j9,k0,k1⟩:=r4.u6 r3 j7 j8 j9 k0 k1
   obtain ⟨k2,k3,k4,k5,k6,k7⟩:=r4.u6 k2 k3 k4 k5 k6 k7
   refine .rn 4 r (.ks 1 r ?_)
   refine AN hd (fun k8 hd=>?_) fun k8 hd=>?_
   · rw [k8]
     exact .kn 3 [3,14,13,0] r (.region (.ks 2 r (.nil' fun c w ho hs=>⟨(b.2.1.p.Ring,b.2.1.p.A.Rows,b.2.1.p.A.Cols,b.2.1.p.A.Start,b.2.1.p.A.Col,b.2.1.p.A.Val,b.2.1.p.B.Rows,b.2.1.p.B.Cols,b.2.1.p.B.Start,b.2.1.p.B.Col,b.2.1.p.B.Val,b.2.1.p.Mask.Rows,b.2.1.p.Mask.Cols,b.2.1.p.Mask.Start,b.2.1.p.Mask.Col,b.2.1.p.Mask.Val,b.2.1.p.R,b.2.1.p.C,b.2.1.p.Room,b.2.1.stages,b.2.1.workers,b.2.1.boxes,true,AJ (f8+1),b.2.2.1,b.2.2.2),hd,_,_,_,_,_,_,_,_,_,_,_,_,_,_,_,_,_,_,_,_,_,_,jf r5 ⟨s7,s8,s9,t0,t1,t2,t3,t4,t5,t6,t7⟩ [0,0,0,0] r ho hs⟩)))
   rw [k8]
   exact .kn 3 [3,14,13,0] r (.region (.ks 2 r (.nil' fun c w ho hs=>⟨(b.2.1.p.Ring,b.2.1.p.A.Rows,b.2.1.p.A.Cols,b.2.1.p.A.Start,b.2.1.p.A.Col,b.2.1.p.A.Val,b.2.1.p.B.Rows,b.2.1.p.B.Cols,b.2.1.p.B.Start,b.2.1.p.B.Col,b.2.1.p.B.Val,b.2.1.p.Mask.Rows,b.2.1.p.Mask.Cols,b.2.1.p.Mask.Start,b.2.1.p.Mask.Col,b.2.1.p.Mask.Val,b.2.1.p.R,b.2.1.p.C,b.2.1.p.Room,b.2.1.stages,b.2.1.workers,b.2.1.boxes,r0,AJ (f8+1),b.2.2.1,b.2.2.2),hd,_,_,_,_,_,_,_,_,_,_,_,_,_,_,_,_,_,_,_,_,_,_,jf r5 ⟨s7,s8,s9,t0,t1,t2,t3,t4,t5,t6,t7⟩ [0,0,0,0] r ho hs⟩)))
 refine .en [3,0] r (.seq (.sk 3 r (.lo isAgg119 .z r (.ln QD r (.kn 1 [29,28,3,0] r (.block (.lx hd [28,0] [] r (fun j E l (k9,l0,l1,W,X,Y,l2,l3,Z,a3,a4,l4,l5,a5,a6,a7,l6,l7,l8,a8,a9,l9,m0,G,m1,m2)=>fun c w=>∃ m3 m4 m5 m6 m7 m8 m9 n0 n1 n2 n3 n4 n5 n6 n7 n8 n9 o3 o4 o5 o6 o7,j ⟨66,[],none⟩ (fun I_=>RepSl AE I_ m3 m4 W∧RepSl AE I_ m5 m6 X∧RepSl AE I_ m7 m8 Y∧RepSl AE I_ m9 n0 Z∧RepSl AE I_ n1 n2 a3∧RepSl AE I_ n3 n4 a4∧RepSl AE I_ n5 n6 a5∧RepSl AE I_ n7 n8 a6∧RepSl AE I_ n9 o3 a7∧RepSl BV I_ o4 o5 a8∧RepSl CO I_ o6 o7 a9) ((3,.bool m0) :: (29,.int .i64 G) :: E) (pto b4 (.cells #[.int .i64 k9,.int .i64 l0,.int .i64 l1,.slice m3 W.length m4,.slice m5 X.length m6,.slice m7 Y.length m8,.int .i64 l2,.int .i64 l3,.slice m9 Z.length n0,.slice n1 a3.length n2,.slice n3 a4.length n4,.int .i64 l4,.int .i64 l5,.slice n5 a5.length n6,.slice n7 a6.length n8,.slice n9 a7.length o3,.int .i64 l6,.int .i64 l7,.int .i64 l8,.slice o4 a8.length o5,.slice o6 a9.length o7,.map (some b39)] 121 (0,0)) :: OwnMap CX CO false b39 l9 :: BH AG m1 :: BH AY m2 :: l) c w) (fun c w ho hs=>⟨_,_,_,_,_,_,_,_,_,_,_,_,_,_,_,_,_,_,_,_,_,_,jf rf ⟨j7,j8,j9,k0,k1,k2,k3,k4,k5,k6,k7⟩ [0,0,0,0] r ho hs⟩) ?_)))))))
 rintro ⟨k9,l0,l1,W,X,Y,l2,l3,Z,a3,a4,l4,l5,a5,a6,a7,l6,l7,l8,a8,a9,l9,m0,G,m1,m2⟩ x5 hd c w ⟨m3,m4,m5,m6,m7,m8,m9,n0,n1,n2,n3,n4,n5,n6,n7,n8,n9,o3,o4,o5,o6,o7,y1,p0,⟨r6,r7,r8,r9,s0,s1,s2,s3,s4,s5,s6⟩,hok,hsym⟩
 have p2:=p0.u1 r3
 refine Cod.at hok hsym (.sr (.kn 1 [30,29,28,3,0] r (.seq (.condP r hd (fun t8 hd=>?_) fun t8 hd=>?_))))
 · refine .sn [29,28,3,0] r (.seq (.block (.sk 2 r (.nk [5,29,28,3,0] 3 r (.lo isAgg119 .z r (.ln QD r (.kn 1 [37,36,5,29,28,3,0] r (.block (.lx hd [36,29,28,5,0] [] r (fun j E l (b0,b1,b2,H,J,K,b3,b5,L,N,O,b6,b7,P,S,T,b8,b9,c0,U,V,c1,o8,D,c2,F)=>fun c w=>∃ c3 c4 c5 c7 c8 d0 d1 d2 d3 d4 d5 d6 d7 d8 d9 e0 e1 e2 e3 e4 e5 e6,j ⟨66,[],none⟩ (fun I_=>RepSl AE I_ c3 c4 H∧RepSl AE I_ c5 c7 J∧RepSl AE I_ c8 d0 K∧RepSl AE I_ d1 d2 L∧RepSl AE I_ d3 d4 N∧RepSl AE I_ d5 d6 O∧RepSl AE I_ d7 d8 P∧RepSl AE I_ d9 e0 S∧RepSl AE I_ e1 e2 T∧RepSl BV I_ e3 e4 U∧RepSl CO I_ e5 e6 V) ((3,.bool o8) :: (37,.int .i64 D) :: E) (pto b4 (.cells #[.int .i64 b0,.int .i64 b1,.int .i64 b2,.slice c3 H.length c4,.slice c5 J.length c7,.slice c8 K.length d0,.int .i64 b3,.int .i64 b5,.slice d1 L.length d2,.slice d3 N.length d4,.slice d5 O.length d6,.int .i64 b6,.int .i64 b7,.slice d7 P.length d8,.slice d9 S.length e0,.slice e1 T.length e2,.int .i64 b8,.int .i64 b9,.int .i64 c0,.slice e3 U.length e4,.slice e5 V.length e6,.map (some b39)] 121 (0,0)) :: OwnMap CX CO false b39 c1 :: BH AG c2 :: BH AY F :: l) c w) (fun c w ho hs=>⟨_,_,_,_,_,_,_,_,_,_,_,_,_,_,_,_,_,_,_,_,_,_,jf rf ⟨r6,r7,r8,r9,s0,s1,s2,s3,s4,s5,s6⟩ [0,0,0,0] r ho hs⟩) ?_)))))))))
   rintro ⟨b0,b1,b2,H,J,K,b3,b5,L,N,O,b6,b7,P,S,T,b8,b9,c0,U,V,c1,o8,D,c2,F⟩ x6 hd c w ⟨c3,c4,c5,c7,c8,d0,d1,d2,d3,d4,d5,d6,d7,d8,d9,e0,e1,e2,e3,e4,e5,e6,w7,p3,⟨d,e,g,h,i,m,q,t,u,x,y⟩,hok,hsym⟩
   obtain ⟨t9,p4⟩:=p3.u2 p2 p0
   refine Cod.at hok hsym (.sr (.kn 1 [38,37,36,29,28,5,3,0] r (.seq (.condP r hd (fun u0 hd=>?_) fun u0 hd=>?_))))
   · refine .sn [37,36,29,28,5,3,0] r (.seq (.block (.sk 2 r (.nk [6,37,36,29,28,5,3,0] 3 r (.lo isAgg118 .z r (.ks 2 r (.buildArr MC OL FO (.c r r r (.o r) (.c r r r (.o r) .n)) r r (.lookM (k:=(G,D)) (El:=CO) (ag:=false) (zv:=.pointer none) (z:=none) WY dN zeroValue146 ⟨[.pointer none],r,.s⟩ .p1 r r hd r r fun y2 o9 x8 hd u3 u4=>?_))))))))
     cases u3
     cases u4
     refine .ks 1 r (.nk [7,6,37,36,29,28,5,3,0] 1 r ?_)
     have u5:=RW (I:=w7) (o0:=F) (a0:=o9) hd
     refine .callS (.f call97 r) (.o [3] r) u5 r r fun y3 w8 y4 f9 u7=>?_
     obtain ⟨w9,rfl,rfl,hd⟩:=u7
     obtain ⟨u8,u9,v0,d,e,g⟩:=f9.u6 t9 p4 p3 d e g
     obtain ⟨h,i,m,q,t,u⟩:=f9.u6 h i m q t u
     obtain ⟨x,y⟩:=f9.u2 x y
     refine .rn 4 r (.ks 1 r (.nk [8,7,6,37,36,29,28,5,3,0] 4 r ?_))
     have v1:=W2 (I:=w8) (o0:=F) (a0:=o9) hd
     refine .callS (.f call130 r) (.o [0] r) v1 r r fun y5 x0 y6 g0 v2=>?_
     obtain ⟨x1,rfl,rfl,hd⟩:=v2
     obtain ⟨v3,v4,v5,d,e,g⟩:=g0.u6 u8 u9 v0 d e g
     obtain ⟨h,i,m,q,t,u⟩:=g0.u6 h i m q t u
     obtain ⟨x,y⟩:=g0.u2 x y
     refine .rn 4 r ?_
     have v6:=KE (I:=x0) (o0:=({ p:=({ Ring:=b0,A:=({ Rows:=b1,Cols:=b2,Start:=H,Col:=J,Val:=K }:Rows),B:=({ Rows:=b3,Cols:=b5,Start:=L,Col:=N,Val:=O }:Rows),Mask:=({ Rows:=b6,Cols:=b7,Start:=P,Col:=S,Val:=T }:Rows),R:=b8,C:=b9,Room:=c0 }:CM),stages:=U,workers:=V,boxes:=c1 }:AD)) (o1:=c2) (o2:=F) (a0:=G) (a1:=D) (a2:=x1) (b4:=b4) (p5:=c3) (c6:=c4) (p8:=c5) (c9:=c7) (p11:=c8) (c12:=d0) (p14:=d1) (c15:=d2) (p17:=d3) (c18:=d4) (p20:=d5) (c21:=d6) (p23:=d7) (c24:=d8) (p26:=d9) (c27:=e0) (p29:=e1) (c30:=e2) (p32:=e3) (c33:=e4) (p35:=e5) (c36:=e6) (b39:=b39) d e g h i m q t u x y hd
     refine .callS (.f call84 r) (.o [1,1,1,0] r) v6 r r fun y7 x2 y8 g1 v7=>?_
     obtain ⟨a,y9,z0,z1,z2,z3,z4,z5,z6,z7,z8,z9,A0,A1,A2,A3,A4,A5,A6,A7,A8,A9,B0,rfl,e7,e8,e9,f0,f1,f2,f3,f4,f5,f6,f7,rfl,hd⟩:=v7
     obtain ⟨v8,v9,p6,d,e,g⟩:=g1.u6 v3 v4 v5 d e g
     obtain ⟨h,i,m,q,t,u⟩:=g1.u6 h i m q t u
     obtain ⟨x,y⟩:=g1.u2 x y
     refine .rn 4 r (.no [8,7,37,36,29,28,5,3,0] r (.region (.ks 2 r ?_)))
     refine AN hd (fun g2 hd=>?_) fun g2 hd=>?_
     · rw [g2]
       exact .kn 6 [3,37,36,29,28,5,0] r (.region (.ks 2 r (.nil' fun c w ho hs=>⟨(a.2.1.p.Ring,a.2.1.p.A.Rows,a.2.1.p.A.Cols,a.2.1.p.A.Start,a.2.1.p.A.Col,a.2.1.p.A.Val,a.2.1.p.B.Rows,a.2.1.p.B.Cols,a.2.1.p.B.Start,a.2.1.p.B.Col,a.2.1.p.B.Val,a.2.1.p.Mask.Rows,a.2.1.p.Mask.Cols,a.2.1.p.Mask.Start,a.2.1.p.Mask.Col,a.2.1.p.Mask.Val,a.2.1.p.R,a.2.1.p.C,a.2.1.p.Room,a.2.1.stages,a.2.1.workers,a.2.1.boxes,true,AJ (D+1),a.2.2.1,a.2.2.2),hd,_,_,_,_,_,_,_,_,_,_,_,_,_,_,_,_,_,_,_,_,_,_,jf p6 ⟨e7,e8,e9,f0,f1,f2,f3,f4,f5,f6,f7⟩ [0,0,0,0] r ho hs⟩)))
     rw [g2]
     refine .ks 1 r ?_
     have w1:=RW (I:=x2) (o0:=a.2.2.2) (a0:=o9) hd
     refine .yes r (.callS (.f call97 r) (.o [3] r) w1 r r fun B1 B2 B3 g3 w2=>?_)
     obtain ⟨x3,rfl,rfl,hd⟩:=w2
     obtain ⟨x9,y0,w3,e7,e8,e9⟩:=g3.u6 v8 v9 p6 e7 e8 e9
     obtain ⟨f0,f1,f2,f3,f4,f5⟩:=g3.u6 f0 f1 f2 f3 f4 f5
     obtain ⟨f6,f7⟩:=g3.u2 f6 f7
     exact .rn 4 r (.kn 4 [3,37,36,29,28,5,0] r (.region (.ks 2 r (.nil' fun c w ho hs=>⟨(a.2.1.p.Ring,a.2.1.p.A.Rows,a.2.1.p.A.Cols,a.2.1.p.A.Start,a.2.1.p.A.Col,a.2.1.p.A.Val,a.2.1.p.B.Rows,a.2.1.p.B.Cols,a.2.1.p.B.Start,a.2.1.p.B.Col,a.2.1.p.B.Val,a.2.1.p.Mask.Rows,a.2.1.p.Mask.Cols,a.2.1.p.Mask.Start,a.2.1.p.Mask.Col,a.2.1.p.Mask.Val,a.2.1.p.R,a.2.1.p.C,a.2.1.p.Room,a.2.1.stages,a.2.1.workers,a.2.1.boxes,decide (x3<w9),AJ (D+1),a.2.2.1,a.2.2.2),hd,_,_,_,_,_,_,_,_,_,_,_,_,_,_,_,_,_,_,_,_,_,_,jf w3 ⟨e7,e8,e9,f0,f1,f2,f3,f4,f5,f6,f7⟩ [1,1,1,0] r ho hs⟩))))
   exact .en [29,28,3,0] r (.region (.ks 2 r (.nil' fun c w ho hs=>⟨(b0,b1,b2,H,J,K,b3,b5,L,N,O,b6,b7,P,S,T,b8,b9,c0,U,V,c1,o8,AJ (G+1),c2,F),hd,_,_,_,_,_,_,_,_,_,_,_,_,_,_,_,_,_,_,_,_,_,_,jf p4 ⟨d,e,g,h,i,m,q,t,u,x,y⟩ [0,0,0,0] r ho hs⟩)))
 exact .en [3,0] r (.sr (.kn 2 [2,0] r (.q1 results63 p2 [0,0,0,0] r ⟨(m0,({ p:=({ Ring:=k9,A:=({ Rows:=l0,Cols:=l1,Start:=W,Col:=X,Val:=Y }:Rows),B:=({ Rows:=l2,Cols:=l3,Start:=Z,Col:=a3,Val:=a4 }:Rows),Mask:=({ Rows:=l4,Cols:=l5,Start:=a5,Col:=a6,Val:=a7 }:Rows),R:=l6,C:=l7,Room:=l8 }:CM),stages:=a8,workers:=a9,boxes:=l9 }:AD),m1,m2),_,_,_,_,_,_,_,_,_,_,_,_,_,_,_,_,_,_,_,_,_,_,r,r6,r7,r8,r9,s0,s1,s2,s3,s4,s5,s6,r,hd⟩)))
theorem UF {o0:AD} {o1:List (Nat×AA)} {o2:List (Nat×AF)} {a0:GH} {Q:(Bool×AD×(List (Nat×AA))×(List (Nat×AF)))→Prop} (R7:RepSl AE I p5 c6 o0.p.A.Start) (R10:RepSl AE I p8 c9 o0.p.A.Col) (R13:RepSl AE I p11 c12 o0.p.A.Val) (R16:RepSl AE I p14 c15 o0.p.B.Start) (R19:RepSl AE I p17 c18 o0.p.B.Col) (R22:RepSl AE I p20 c21 o0.p.B.Val) (R25:RepSl AE I p23 c24 o0.p.Mask.Start) (R28:RepSl AE I p26 c27 o0.p.Mask.Col) (R31:RepSl AE I p29 c30 o0.p.Mask.Val) (R34:RepSl BV I p32 c33 o0.stages) (R37:RepSl CO I p35 c36 o0.workers) (hd:GL o0 o1 o2 a0 Q) :
  Fun prog 25 #[.pointer (some ⟨b4,0,none⟩),.agg (YD a0).toArray] I [pto b4 (.cells (AQ o0 p5 c6 p8 c9 p11 c12 p14 c15 p17 c18 p20 c21 p23 c24 p26 c27 p29 c30 p32 c33 p35 c36 b39) 121 (0,0)),OwnMap CX CO false b39 o0.boxes,BH AG o1,BH AY o2] (fun I_ v l=>∃ r p41 c42 p44 c45 p47 c48 p50 c51 p53 c54 p56 c57 p59 c60 p62 c63 p65 c66 p68 c69 p71 c72,v=.bool r.1∧RepSl AE I_ p41 c42 r.2.1.p.A.Start∧RepSl AE I_ p44 c45 r.2.1.p.A.Col∧RepSl AE I_ p47 c48 r.2.1.p.A.Val∧RepSl AE I_ p50 c51 r.2.1.p.B.Start∧RepSl AE I_ p53 c54 r.2.1.p.B.Col∧RepSl AE I_ p56 c57 r.2.1.p.B.Val∧RepSl AE I_ p59 c60 r.2.1.p.Mask.Start∧RepSl AE I_ p62 c63 r.2.1.p.Mask.Col∧RepSl AE I_ p65 c66 r.2.1.p.Mask.Val∧RepSl BV I_ p68 c69 r.2.1.stages∧RepSl CO I_ p71 c72 r.2.1.workers∧l=[pto b4 (.cells (AQ r.2.1 p41 c42 p44 c45 p47 c48 p50 c51 p53 c54 p56 c57 p59 c60 p62 c63 p65 c66 p68 c69 p71 c72 b39) 121 (0,0)),OwnMap CX CO false b39 r.2.1.boxes,BH AG r.2.2.1,BH AY r.2.2.2]∧Q r):=by
 refine Fun.en func25 ntmps25 r fun w0 M=>?_
 refine .sr (.bx r fun A2=>?_)
 refine .kn 1 [3,0] r (.seq (.sk 1 r (.eqNilP mE r r r r (.ks 1 r (.yes r (.lw jI VE .z r ?_))))))
 have f7:=UD (I:=I) hd
 refine .yes r (.callP call19 r f7 r r fun A3 f8=>?_)
 obtain ⟨A4,rfl,hd⟩:=f8
 refine .kn 2 [11,3,0] r (.condP r hd (fun f9 hd=>?_) fun f9 hd=>?_)
 · exact .sr (.kn 1 [4,0] r (.drop .z (.q1 results25 rf [0,0,0,0] r ⟨(false,o0,o1,o2),_,_,_,_,_,_,_,_,_,_,_,_,_,_,_,_,_,_,_,_,_,_,r,R7,R10,R13,R16,R19,R22,R25,R28,R31,R34,R37,r,hd⟩)))
 refine .sn [3,0] r (.seq (.sk 1 r (.lo isAgg45 .z r (.no [13,3,0] r (.block (.sr (.kn 2 [14,13,3,0] r (.condP r hd (fun g0 hd=>?_) fun g0 hd=>?_))))))))
 · refine .sk 2 r (.lo BF .z r ?_)
   have g1:=KD (I:=I) (o0:=o0) (o1:=o1) (o2:=o2) (a0:=a0.A) (b4:=b4) (p5:=p5) (c6:=c6) (p8:=p8) (c9:=c9) (p11:=p11) (c12:=c12) (p14:=p14) (c15:=c15) (p17:=p17) (c18:=c18) (p20:=p20) (c21:=c21) (p23:=p23) (c24:=c24) (p26:=p26) (c27:=c27) (p29:=p29) (c30:=c30) (p32:=p32) (c33:=c33) (p35:=p35) (c36:=c36) (b39:=b39) R7 R10 R13 R16 R19 R22 R25 R28 R31 R34 R37 hd
   refine .callS (.f call83 r) (.o [1,1,1,1] r) g1 r r fun A5 A6 A7 k g2=>?_
   obtain ⟨c2,A8,A9,B0,B1,B2,B3,B4,B5,B6,B7,B8,B9,C0,C1,C2,C3,C4,C5,C6,C7,C8,C9,rfl,i7,i8,i9,j0,j1,j2,j3,j4,j5,j6,j7,rfl,hd⟩:=g2
   obtain ⟨R7,R10,R13,R16,R19,R22⟩:=k.u6 R7 R10 R13 R16 R19 R22
   obtain ⟨R25,R28,R31,R34,R37⟩:=k.u5 R25 R28 R31 R34 R37
   exact .rn 5 r (.kn 1 [4,0] r (.drop .p4 (.q1 results25 k [0,0,0,0] r ⟨(c2.1,c2.2.1,c2.2.2.1,c2.2.2.2),_,_,_,_,_,_,_,_,_,_,_,_,_,_,_,_,_,_,_,_,_,_,r,i7,i8,i9,j0,j1,j2,j3,j4,j5,j6,j7,r,hd⟩)))
 refine .sr (.kn 2 [20,13,3,0] r (.condP r hd (fun d5 hd=>?_) fun d5 hd=>?_))
 · refine .sk 2 r (.lo BF .z r (.ks 1 r (.lo BF .z r (.ks 1 r (.lo BF .z r ?_)))))
   have d6:=KE (I:=I) (o0:=o0) (o1:=o1) (o2:=o2) (a0:=a0.A) (a1:=a0.B) (a2:=a0.K) (b4:=b4) (p5:=p5) (c6:=c6) (p8:=p8) (c9:=c9) (p11:=p11) (c12:=c12) (p14:=p14) (c15:=c15) (p17:=p17) (c18:=c18) (p20:=p20) (c21:=c21) (p23:=p23) (c24:=c24) (p26:=p26) (c27:=c27) (p29:=p29) (c30:=c30) (p32:=p32) (c33:=c33) (p35:=p35) (c36:=c36) (b39:=b39) R7 R10 R13 R16 R19 R22 R25 R28 R31 R34 R37 hd
   refine .callS (.f call84 r) (.o [1,1,1,1] r) d6 r r fun j8 j9 k0 e d7=>?_
   obtain ⟨g,k1,k2,k3,k4,k5,k6,k7,k8,k9,l0,l1,l2,l3,l4,l5,l6,l7,l8,l9,m0,m1,m2,rfl,g3,g4,g5,g6,g7,g8,g9,h0,h1,h2,h3,rfl,hd⟩:=d7
   obtain ⟨R7,R10,R13,R16,R19,R22⟩:=e.u6 R7 R10 R13 R16 R19 R22
   obtain ⟨R25,R28,R31,R34,R37⟩:=e.u5 R25 R28 R31 R34 R37
   exact .rn 5 r (.kn 1 [4,0] r (.drop .p4 (.q1 results25 e [0,0,0,0] r ⟨(g.1,g.2.1,g.2.2.1,g.2.2.2),_,_,_,_,_,_,_,_,_,_,_,_,_,_,_,_,_,_,_,_,_,_,r,g3,g4,g5,g6,g7,g8,g9,h0,h1,h2,h3,r,hd⟩)))
 refine .sr (.kn 2 [30,13,3,0] r (.condP r hd (fun d8 hd=>?_) fun d8 hd=>?_))
 · refine .seq (.dr [0,1,2,3,4,6,7,5,8,9] 10 (.fk 2 r (.h r (fun _=>.lo BF .z r .mk) (.fk 1 r (.h r (fun _=>.lo BF .z r .mk) (.fk 1 r (.h r (fun _=>.lo BF .z r .mk) (.ww r fun ex=>?_))))))))
   have d9:=FC (I:=I) (o0:=o0) (o1:=o1) (o2:=o2) (a0:=a0.A) (a1:=a0.B) (b4:=b4) (p5:=p5) (c6:=c6) (p8:=p8) (c9:=c9) (p11:=p11) (c12:=c12) (p14:=p14) (c15:=c15) (p17:=p17) (c18:=c18) (p20:=p20) (c21:=c21) (p23:=p23) (c24:=c24) (p26:=p26) (c27:=c27) (p29:=p29) (c30:=c30) (p32:=p32) (c33:=c33) (p35:=p35) (c36:=c36) (b39:=b39) R7 R10 R13 R16 R19 R22 R25 R28 R31 R34 R37 hd
   refine .callS (.f call85 r) (.o [1,1,1,1] r) d9 r r fun m3 c8 m4 a c=>?_
   rcases c with c | c
   · obtain ⟨d0,m5,m6,m7,m8,m9,n0,n1,n2,n3,n4,n5,n6,n7,n8,n9,o3,o4,o5,o6,o7,o8,o9,rfl,m,q,s,t,u,w,x,y,C,D,E,rfl,hd⟩:=c
     obtain ⟨R7,R10,R13,R16,R19,R22⟩:=a.u6 R7 R10 R13 R16 R19 R22
     obtain ⟨R25,R28,R31,R34,R37⟩:=a.u5 R25 R28 R31 R34 R37
     refine .rx 5 r (.so 5 r r r (.ch r (fun _=>.lo BF .p4 r .mk) (.ck 1 r r trivial)) (.ww r fun ex=>?_))
     have e0:=ME (I:=c8) (a0:=a0.K) hd
     refine .callS (.f call86 r) .n e0 r r fun p0 p1 p2 c3 e1=>?_
     obtain ⟨h4,rfl,rfl,hd⟩:=e1
     obtain ⟨e3,m,q,s,t,u⟩:=c3.u6 a m q s t u
     obtain ⟨w,x,y,C,D,E⟩:=c3.u6 w x y C D E
     exact .rx 5 r (.so 5 r r r trivial (.fk 1 r (.e2 10 (.kn 1 [4,0] r (.drop .p4 (.q1 results25 e3 [0,0,0,0] r ⟨(h4==0,d0.1,o1,d0.2),_,_,_,_,_,_,_,_,_,_,_,_,_,_,_,_,_,_,_,_,_,_,r,m,q,s,t,u,w,x,y,C,D,E,r,hd⟩))))))
   obtain ⟨F,p3,p6,p7,p9,q0,q2,q3,q4,q5,q6,q7,q8,q9,r0,r1,r2,r3,r4,r5,r6,r7,r8,rfl,G,H,J,L,N,O,P,R,S,T,U,rfl,hd⟩:=c
   obtain ⟨R7,R10,R13,R16,R19,R22⟩:=a.u6 R7 R10 R13 R16 R19 R22
   obtain ⟨R25,R28,R31,R34,R37⟩:=a.u5 R25 R28 R31 R34 R37
   refine .rx 5 r (.so 5 r r r (.ch r (fun _=>.lo BF .p4 r .mk) (.ck 1 r r trivial)) (.ww r fun ex=>?_))
   have e4:=W0 (I:=c8) (o0:=F.2.2) (a0:=F.1) (a1:=a0.K) hd
   refine .callS (.f call86 r) (.o [3] r) e4 r r fun r9 s0 s1 c4 e5=>?_
   obtain ⟨d1,rfl,rfl,hd⟩:=e5
   obtain ⟨e6,G,H,J,L,N⟩:=c4.u6 a G H J L N
   obtain ⟨O,P,R,S,T,U⟩:=c4.u6 O P R S T U
   exact .rx 5 r (.so 5 r r r trivial (.fk 1 r (.e2 10 (.kn 1 [4,0] r (.drop .p4 (.q1 results25 e6 [1,1,1,0] r ⟨(d1.1==0,F.2.1,o1,d1.2),_,_,_,_,_,_,_,_,_,_,_,_,_,_,_,_,_,_,_,_,_,_,r,G,H,J,L,N,O,P,R,S,T,U,r,hd⟩))))))
 refine .sr (.kn 2 [42,3,0] r (.condP r hd (fun e7 hd=>?_) fun e7 hd=>?_))
 · refine .seq (.dr [0,1,2,3,4,6,7,5,8,9] 10 (.fk 2 r (.h r (fun _=>.lo BF .z r .mk) (.fk 1 r (.h r (fun _=>.lo BF .z r .mk) (.fk 1 r (.h r (fun _=>.lo BF .z r .mk) (.ww r fun ex=>?_))))))))
   have e8:=FC (I:=I) (o0:=o0) (o1:=o1) (o2:=o2) (a0:=a0.A) (a1:=a0.B) (b4:=b4) (p5:=p5) (c6:=c6) (p8:=p8) (c9:=c9) (p11:=p11) (c12:=c12) (p14:=p14) (c15:=c15) (p17:=p17) (c18:=c18) (p20:=p20) (c21:=c21) (p23:=p23) (c24:=c24) (p26:=p26) (c27:=c27) (p29:=p29) (c30:=c30) (p32:=p32) (c33:=c33) (p35:=p35) (c36:=c36) (b39:=b39) R7 R10 R13 R16 R19 R22 R25 R28 R31 R34 R37 hd
   refine .callS (.f call85 r) (.o [1,1,1,1] r) e8 r r fun s2 d2 s3 b d=>?_
   rcases d with d | d
   · obtain ⟨d3,s4,s5,s6,s7,s8,s9,t0,t1,t2,t3,t4,t5,t6,t7,t8,t9,u0,u1,u2,u3,u4,u7,rfl,V,W,X,Y,Z,a3,a4,a5,a6,a7,a8,rfl,hd⟩:=d
     obtain ⟨R7,R10,R13,R16,R19,R22⟩:=b.u6 R7 R10 R13 R16 R19 R22
     obtain ⟨R25,R28,R31,R34,R37⟩:=b.u5 R25 R28 R31 R34 R37
     refine .rx 5 r (.so 5 r r r (.ch r (fun _=>.lo BF .p4 r .mk) (.ck 1 r r trivial)) (.ww r fun ex=>?_))
     have e9:=OQ (I:=d2) (a0:=a0.K) hd
     refine .callS (.f call87 r) .n e9 r r fun u8 u9 v0 c5 f0=>?_
     obtain ⟨h5,rfl,rfl,hd⟩:=f0
     obtain ⟨f1,V,W,X,Y,Z⟩:=c5.u6 b V W X Y Z
     obtain ⟨a3,a4,a5,a6,a7,a8⟩:=c5.u6 a3 a4 a5 a6 a7 a8
     exact .rx 5 r (.so 5 r r r trivial (.fk 1 r (.e2 10 (.kn 1 [4,0] r (.drop .p4 (.q1 results25 f1 [0,0,0,0] r ⟨(h5==0,d3.1,o1,d3.2),_,_,_,_,_,_,_,_,_,_,_,_,_,_,_,_,_,_,_,_,_,_,r,V,W,X,Y,Z,a3,a4,a5,a6,a7,a8,r,hd⟩))))))
   obtain ⟨a9,v1,v2,v3,v4,v5,v6,v7,v8,v9,w1,w2,w3,w4,w5,w6,w7,w8,w9,x0,x1,x2,x3,rfl,b0,b1,b2,b3,b5,b6,b7,b8,b9,c0,c1,rfl,hd⟩:=d
   obtain ⟨R7,R10,R13,R16,R19,R22⟩:=b.u6 R7 R10 R13 R16 R19 R22
   obtain ⟨R25,R28,R31,R34,R37⟩:=b.u5 R25 R28 R31 R34 R37
   refine .rx 5 r (.so 5 r r r (.ch r (fun _=>.lo BF .p4 r .mk) (.ck 1 r r trivial)) (.ww r fun ex=>?_))
   have f2:=Y0 (I:=d2) (o0:=a9.2.2) (a0:=a9.1) (a1:=a0.K) hd
   refine .callS (.f call87 r) (.o [3] r) f2 r r fun x4 x5 x6 c7 f3=>?_
   obtain ⟨d4,rfl,rfl,hd⟩:=f3
   obtain ⟨f4,b0,b1,b2,b3,b5⟩:=c7.u6 b b0 b1 b2 b3 b5
   obtain ⟨b6,b7,b8,b9,c0,c1⟩:=c7.u6 b6 b7 b8 b9 c0 c1
   exact .rx 5 r (.so 5 r r r trivial (.fk 1 r (.e2 10 (.kn 1 [4,0] r (.drop .p4 (.q1 results25 f4 [1,1,1,0] r ⟨(d4.1==0,a9.2.1,o1,d4.2),_,_,_,_,_,_,_,_,_,_,_,_,_,_,_,_,_,_,_,_,_,_,r,b0,b1,b2,b3,b5,b6,b7,b8,b9,c0,c1,r,hd⟩))))))
 refine .sn [0] r (.drop .z (.sk 1 r ?_))
 have f5:=JH (I:=I) (o0:=o0) (o1:=o1) (o2:=o2) (b4:=b4) (p5:=p5) (c6:=c6) (p8:=p8) (c9:=c9) (p11:=p11) (c12:=c12) (p14:=p14) (c15:=c15) (p17:=p17) (c18:=c18) (p20:=p20) (c21:=c21) (p23:=p23) (c24:=c24) (p26:=p26) (c27:=c27) (p29:=p29) (c30:=c30) (p32:=p32) (c33:=c33) (p35:=p35) (c36:=c36) (b39:=b39) R7 R10 R13 R16 R19 R22 R25 R28 R31 R34 R37 hd
 refine .callS (.f call63 r) (.o [0,0,0,0] r) f5 r r fun x7 x8 x9 i f6=>?_
 obtain ⟨j,y0,y1,y2,y3,y4,y5,y6,y7,y8,y9,z0,z1,z2,z3,z4,z5,z6,z7,z8,z9,A0,A1,rfl,h6,h7,h8,h9,i0,i1,i2,i3,i4,i5,i6,rfl,hd⟩:=f6
 obtain ⟨R7,R10,R13,R16,R19,R22⟩:=i.u6 R7 R10 R13 R16 R19 R22
 obtain ⟨R25,R28,R31,R34,R37⟩:=i.u5 R25 R28 R31 R34 R37
 exact .rn 4 r (.kn 1 [4,0] r (.q1 results25 i [0,0,0,0] r ⟨(j.1,j.2.1,j.2.2.1,j.2.2.2),_,_,_,_,_,_,_,_,_,_,_,_,_,_,_,_,_,_,_,_,_,_,r,h6,h7,h8,h9,i0,i1,i2,i3,i4,i5,i6,r,hd⟩))
theorem PD {o1:List (Nat×AA)} {o2:AD} {a0:Option Nat} {Q:Bool→Prop} (R8:RepSl AE I p6 c7 o2.p.A.Start) (R11:RepSl AE I p9 c10 o2.p.A.Col) (R14:RepSl AE I p12 c13 o2.p.A.Val) (R17:RepSl AE I p15 c16 o2.p.B.Start) (R20:RepSl AE I p18 c19 o2.p.B.Col) (R23:RepSl AE I p21 c22 o2.p.B.Val) (R26:RepSl AE I p24 c25 o2.p.Mask.Start) (R29:RepSl AE I p27 c28 o2.p.Mask.Col) (R32:RepSl AE I p30 c31 o2.p.Mask.Val) (R35:RepSl BV I p33 c34 o2.stages) (R38:RepSl CO I p36 c37 o2.workers) (hd:FY o1 o2 a0 Q) :
  Fun prog 109 #[.pointer (tL a0),.pointer (some ⟨b4,0,none⟩)] I [pto b4 (.cells #[.pointer (some ⟨b5,0,none⟩)] 60 (0,0)),BH AG o1,pto b5 (.cells (AQ o2 p6 c7 p9 c10 p12 c13 p15 c16 p18 c19 p21 c22 p24 c25 p27 c28 p30 c31 p33 c34 p36 c37 b40) 121 (0,0)),OwnMap CX CO false b40 o2.boxes] (fun I_ v l=>∃ r,v=.bool r∧l=[pto b4 (.cells #[.pointer (some ⟨b5,0,none⟩)] 60 (0,0)),BH AG o1,pto b5 (.cells (AQ o2 p6 c7 p9 c10 p12 c13 p15 c16 p18 c19 p21 c22 p24 c25 p27 c28 p30 c31 p33 c34 p36 c37 b40) 121 (0,0)),OwnMap CX CO false b40 o2.boxes]∧Q r):=by
 refine Fun.en func109 ntmps109 r fun w0 M=>?_
 refine .sr (.kn 1 [1,0] r (.seq ?_))
 obtain ⟨d,b,c,a,hd⟩:=hd
 refine .bankO .p1 a fun ⟨e,f,g,i,j,k,m,n,q,s,t⟩ ⟨u,w,x,y,C⟩=>?_
 refine .rn 6 r (.sub (E':=[(0,.pointer (some ⟨d,0,none⟩)),(1,_)]) ⟨(by rw [c]; rfl),r,trivial⟩ (.dr [0,1,2,3,4,5,6,7,8,9] 10 (.fk 3 r (.h r (fun _=>.lo BF .z r .mk) (.h r (fun _=>.lo isAgg60 .p3 r .mk) (.fk 2 r (.h r (fun _=>.lo WZ .p4 r .mk) (.h r (fun _=>.ln YL r .mk) (.fk 1 r ?_)))))))))
 exact .e2 10 (.ks 1 r (.bankB (B:=AG) (e,f,g,i,j,k,m,n,q,s,t) b ⟨u,w,x,y,C⟩ a (.o [0,0,0] r) (.no [3,1] r (.q1 results109 rf [1,0,0,0] r ⟨(decide (b.at_<(o2.stages.length:Int))),r,r,hd⟩))))
theorem GA {o1:List (Nat×AA)} {o2:AD} {a0:List (Option Nat)} {Q:Int→Prop} (R8:RepSl AE I p6 c7 o2.p.A.Start) (R11:RepSl AE I p9 c10 o2.p.A.Col) (R14:RepSl AE I p12 c13 o2.p.A.Val) (R17:RepSl AE I p15 c16 o2.p.B.Start) (R20:RepSl AE I p18 c19 o2.p.B.Col) (R23:RepSl AE I p21 c22 o2.p.B.Val) (R26:RepSl AE I p24 c25 o2.p.Mask.Start) (R29:RepSl AE I p27 c28 o2.p.Mask.Col) (R32:RepSl AE I p30 c31 o2.p.Mask.Val) (R35:RepSl BV I p33 c34 o2.stages) (R38:RepSl CO I p36 c37 o2.workers) (R43:RepSl CO I p41 c42 a0) (hd:CK o1 o2 a0 Q) :
  Fun prog 175 #[.slice p41 a0.length c42,.func (.func 109) #[] #[.pointer (some ⟨b4,0,none⟩)]] I [pto b4 (.cells #[.pointer (some ⟨b5,0,none⟩)] 60 (0,0)),BH AG o1,pto b5 (.cells (AQ o2 p6 c7 p9 c10 p12 c13 p15 c16 p18 c19 p21 c22 p24 c25 p27 c28 p30 c31 p33 c34 p36 c37 b40) 121 (0,0)),OwnMap CX CO false b40 o2.boxes] (fun I_ v l=>∃ r,v=.int .i64 r∧l=[pto b4 (.cells #[.pointer (some ⟨b5,0,none⟩)] 60 (0,0)),BH AG o1,pto b5 (.cells (AQ o2 p6 c7 p9 c10 p12 c13 p15 c16 p18 c19 p21 c22 p24 c25 p27 c28 p30 c31 p33 c34 p36 c37 b40) 121 (0,0)),OwnMap CX CO false b40 o2.boxes]∧Q r):=by
 refine Fun.en func175 ntmps175 r fun w0 M=>?_
 refine .sr (.kn 1 [1,0] r (.seq (.sk 1 r (.ln QD r (.kn 1 [8,7,1,0] r (.block (.lp hd [7,1,0] [0,1,1,0] r (fun j E l e=>j ((8,.int .i64 e) :: E) l) (ji rf [0,1,1,0] r) ?_)))))))
 refine fun e s hd=>jq r fun t a=>?_
 obtain ⟨R8,R11,R14,R17,R20,R23⟩:=a.u6 R8 R11 R14 R17 R20 R23
 obtain ⟨R26,R29,R32,R35,R38,R43⟩:=a.u6 R26 R29 R32 R35 R38 R43
 refine .sr (.kn 1 [9,8,7,1,0] r (.seq (.condP r hd (fun n hd=>?_) fun n hd=>?_)))
 · refine .sn [8,7,1,0] r (.seq (.block (.sk 2 r (.nk [5,8,7,1,0] 3 r ?_))))
   obtain ⟨m,u,g,hd⟩:=hd
   obtain ⟨F,o95,x,w,d,q⟩:=R43.2 _ _ g
   cases q
   refine .ixa QD sizeOf122 r w r m (AH g m) r r (.ld1 (j:=0) JC d r r r r r ?_)
   have h:=PD (I:=t) (o1:=o1) (o2:=o2) (a0:=u) (b4:=b4) (b5:=b5) (p6:=p6) (c7:=c7) (p9:=p9) (c10:=c10) (p12:=p12) (c13:=c13) (p15:=p15) (c16:=c16) (p18:=p18) (c19:=c19) (p21:=p21) (c22:=c22) (p24:=p24) (c25:=c25) (p27:=p27) (c28:=c28) (p30:=p30) (c31:=c31) (p33:=p33) (c34:=c34) (p36:=p36) (c37:=c37) (b40:=b40) R8 R11 R14 R17 R20 R23 R26 R29 R32 R35 R38 hd
   refine .callS (.c call109 r r) (.o [0,2,0,0] r) h r r fun y z C b i=>?_
   obtain ⟨D,rfl,rfl,hd⟩:=i
   obtain ⟨f,R8,R11,R14,R17,R20⟩:=b.u6 a R8 R11 R14 R17 R20
   obtain ⟨R23,R26,R29,R32,R35,R38⟩:=b.u6 R23 R26 R29 R32 R35 R38
   obtain ⟨R43,d⟩:=b.u2 R43 d
   refine .rn 4 r (.no [16,5,8,7,1,0] r (.condP r hd (fun k hd=>?_) fun k hd=>?_))
   · exact .sr (.kn 2 [4,1] r (.q1 results175 f [0,0,0,0] r ⟨e,r,r,hd⟩))
   exact .sn [8,7,1,0] r (.region (.ks 2 r (.nil' (je (AJ (e+1)) hd f [0,1,1,0] r))))
 exact .en [1] r (.sr (.kn 1 [4,1] r (.q1 results175 a [0,2,0,0] r ⟨(-1),r,r,hd⟩)))
theorem FQ {o1:List (Nat×AA)} {o2:AD} {a0:List (Option Nat)} {Q:Bool→Prop} (R8:RepSl AE I p6 c7 o2.p.A.Start) (R11:RepSl AE I p9 c10 o2.p.A.Col) (R14:RepSl AE I p12 c13 o2.p.A.Val) (R17:RepSl AE I p15 c16 o2.p.B.Start) (R20:RepSl AE I p18 c19 o2.p.B.Col) (R23:RepSl AE I p21 c22 o2.p.B.Val) (R26:RepSl AE I p24 c25 o2.p.Mask.Start) (R29:RepSl AE I p27 c28 o2.p.Mask.Col) (R32:RepSl AE I p30 c31 o2.p.Mask.Val) (R35:RepSl BV I p33 c34 o2.stages) (R38:RepSl CO I p36 c37 o2.workers) (R43:RepSl CO I p41 c42 a0) (hd:CH o1 o2 a0 Q) :
  Fun prog 108 #[.slice p41 a0.length c42,.func (.func 109) #[] #[.pointer (some ⟨b4,0,none⟩)]] I [pto b4 (.cells #[.pointer (some ⟨b5,0,none⟩)] 60 (0,0)),BH AG o1,pto b5 (.cells (AQ o2 p6 c7 p9 c10 p12 c13 p15 c16 p18 c19 p21 c22 p24 c25 p27 c28 p30 c31 p33 c34 p36 c37 b40) 121 (0,0)),OwnMap CX CO false b40 o2.boxes] (fun I_ v l=>∃ r,v=.bool r∧l=[pto b4 (.cells #[.pointer (some ⟨b5,0,none⟩)] 60 (0,0)),BH AG o1,pto b5 (.cells (AQ o2 p6 c7 p9 c10 p12 c13 p15 c16 p18 c19 p21 c22 p24 c25 p27 c28 p30 c31 p33 c34 p36 c37 b40) 121 (0,0)),OwnMap CX CO false b40 o2.boxes]∧Q r):=by
 refine Fun.en func108 ntmps108 r fun w0 M=>?_
 refine .sk 1 r (.nk [1,0] 2 r ?_)
 have b:=GA (I:=I) (o1:=o1) (o2:=o2) (a0:=a0) (b4:=b4) (b5:=b5) (p6:=p6) (c7:=c7) (p9:=p9) (c10:=c10) (p12:=p12) (c13:=c13) (p15:=p15) (c16:=c16) (p18:=p18) (c19:=c19) (p21:=p21) (c22:=c22) (p24:=p24) (c25:=c25) (p27:=p27) (c28:=c28) (p30:=p30) (c31:=c31) (p33:=p33) (c34:=c34) (p36:=p36) (c37:=c37) (b40:=b40) R8 R11 R14 R17 R20 R23 R26 R29 R32 R35 R38 R43 hd
 refine .callS (.f call175 r) (.o [0,0,0,0] r) b r r fun e g h a c=>?_
 obtain ⟨d,rfl,rfl,hd⟩:=c
 obtain ⟨R8,R11,R14,R17,R20,R23⟩:=a.u6 R8 R11 R14 R17 R20 R23
 obtain ⟨R26,R29,R32,R35,R38,R43⟩:=a.u6 R26 R29 R32 R35 R38 R43
 exact .rn 4 r (.kn 2 [4,1] r (.q1 results108 a [0,0,0,0] r ⟨(decide (0≤d)),r,r,hd⟩))
theorem JS {o0:AD} {o1:List (Nat×AA)} {Q:Bool→Prop} (R6:RepSl AE I p4 c5 o0.p.A.Start) (R9:RepSl AE I p7 c8 o0.p.A.Col) (R12:RepSl AE I p10 c11 o0.p.A.Val) (R15:RepSl AE I p13 c14 o0.p.B.Start) (R18:RepSl AE I p16 c17 o0.p.B.Col) (R21:RepSl AE I p19 c20 o0.p.B.Val) (R24:RepSl AE I p22 c23 o0.p.Mask.Start) (R27:RepSl AE I p25 c26 o0.p.Mask.Col) (R30:RepSl AE I p28 c29 o0.p.Mask.Val) (R33:RepSl BV I p31 c32 o0.stages) (R36:RepSl CO I p34 c35 o0.workers) (hd:DD o0 o1 Q) :
  Fun prog 38 #[.pointer (some ⟨b3,0,none⟩)] I [pto b3 (.cells (AQ o0 p4 c5 p7 c8 p10 c11 p13 c14 p16 c17 p19 c20 p22 c23 p25 c26 p28 c29 p31 c32 p34 c35 b38) 121 (0,0)),OwnMap CX CO false b38 o0.boxes,BH AG o1] (fun I_ v l=>∃ r,v=.bool r∧l=[pto b3 (.cells (AQ o0 p4 c5 p7 c8 p10 c11 p13 c14 p16 c17 p19 c20 p22 c23 p25 c26 p28 c29 p31 c32 p34 c35 b38) 121 (0,0)),OwnMap CX CO false b38 o0.boxes,BH AG o1]∧Q r):=by
 refine Fun.en func38 ntmps38 r fun w0 M=>?_
 refine .sr (.box1 r r r r fun d=>?_)
 refine .kn 1 [1,0] r (.seq (.sr (.lo isAgg60 .z r (.eqNilP mE r r r r (.no [4,1,0] r (.condKF r r (.sn [1,0] r (.sr (.lo isAgg60 .z r ?_)))))))))
 refine .ks 2 r (.lo isAgg119 .p1 r (.mkFn r r r r ?_))
 have b:=FQ (I:=I) (o1:=o1) (o2:=o0) (a0:=o0.workers) (b4:=d) (b5:=b3) (p6:=p4) (c7:=c5) (p9:=p7) (c10:=c8) (p12:=p10) (c13:=c11) (p15:=p13) (c16:=c14) (p18:=p16) (c19:=c17) (p21:=p19) (c22:=c20) (p24:=p22) (c25:=c23) (p27:=p25) (c28:=c26) (p30:=p28) (c31:=c29) (p33:=p31) (c34:=c32) (p36:=p34) (c37:=c35) (b40:=b38) R6 R9 R12 R15 R18 R21 R24 R27 R30 R33 R36 R36 hd
 refine .callS (.f call108 r) (.o [0,2,0,0] r) b r r fun g h i a c=>?_
 obtain ⟨e,rfl,rfl,hd⟩:=c
 obtain ⟨R6,R9,R12,R15,R18,R21⟩:=a.u6 R6 R9 R12 R15 R18 R21
 obtain ⟨R24,R27,R30,R33,R36⟩:=a.u5 R24 R27 R30 R33 R36
 exact .rn 4 r (.kn 2 [2,0] r (.drop .z (.q1 results38 a [1,1,0] r ⟨(!e),r,r,hd⟩)))
theorem RA {o0:AD} {o1:List (Nat×AA)} {Q:(List AK)→Prop} (R6:RepSl AE I p4 c5 o0.p.A.Start) (R9:RepSl AE I p7 c8 o0.p.A.Col) (R12:RepSl AE I p10 c11 o0.p.A.Val) (R15:RepSl AE I p13 c14 o0.p.B.Start) (R18:RepSl AE I p16 c17 o0.p.B.Col) (R21:RepSl AE I p19 c20 o0.p.B.Val) (R24:RepSl AE I p22 c23 o0.p.Mask.Start) (R27:RepSl AE I p25 c26 o0.p.Mask.Col) (R30:RepSl AE I p28 c29 o0.p.Mask.Val) (R33:RepSl BV I p31 c32 o0.stages) (R36:RepSl CO I p34 c35 o0.workers) (hd:DY o0 o1 Q) :
  Fun prog 40 #[.pointer (some ⟨b3,0,none⟩)] I [pto b3 (.cells (AQ o0 p4 c5 p7 c8 p10 c11 p13 c14 p16 c17 p19 c20 p22 c23 p25 c26 p28 c29 p31 c32 p34 c35 b38) 121 (0,0)),OwnMap CX CO false b38 o0.boxes,BH AG o1] (fun I_ v l=>∃ r p39 c40,v=.slice p39 r.length c40∧RepSl CE I_ p39 c40 r∧l=[pto b3 (.cells (AQ o0 p4 c5 p7 c8 p10 c11 p13 c14 p16 c17 p19 c20 p22 c23 p25 c26 p28 c29 p31 c32 p34 c35 b38) 121 (0,0)),OwnMap CX CO false b38 o0.boxes,BH AG o1]∧Q r):=by
 refine Fun.en func40 ntmps40 r fun w0 M=>?_
 refine .sr (.kn 1 [0] r (.seq (.sk 1 r (.eqNilP mE r r r r (.no [11,0] r (.condKF r r (.sn [0] r (.sr (.kn 1 [3,0] r ?_)))))))))
 refine .seq (.sk 3 r (.lo isAgg119 .z r (.ln QD r (.kn 1 [17,16,15,3,0] r (.block (.own0 CE 161 (.lx hd [16,15,0] [1,1,1] r (fun j E l (q,s)=>fun c w=>∃ i k,j ⟨81,[],none⟩ (fun I_=>True) ((3,.slice i q.length k) :: (17,.int .i64 s) :: E) (OwnSl CE 161 i k q :: l) c w) (fun c w ho hs=>⟨_,_,jf rf trivial [0,0,0,0] r ho hs⟩) ?_)))))))
 rintro ⟨q,s⟩ f5 hd c w ⟨i,k,t,d,_,hok,hsym⟩
 obtain ⟨R6,R9,R12,R15,R18,R21⟩:=d.u6 R6 R9 R12 R15 R18 R21
 obtain ⟨R24,R27,R30,R33,R36⟩:=d.u5 R24 R27 R30 R33 R36
 refine Cod.at hok hsym (.sr (.kn 1 [18,17,16,15,3,0] r (.seq (.condP r hd (fun V hd=>?_) fun V hd=>?_))))
 · refine .sn [17,16,15,3,0] r (.seq (.block (.sr ?_)))
   obtain ⟨P,f9,F,hd⟩:=hd
   obtain ⟨g0,o554,f7,b4,W,X⟩:=R36.2 _ _ F
   cases X
   refine .ixa QD sizeOf122 r b4 r P (AH F P) r r (.ld1 (j:=0) JC W r r r r r (.kn 1 [5,17,16,15,3,0] r (.seq ?_)))
   obtain ⟨b5,b6,Y,G,hd⟩:=hd
   refine .bankO .p3 G fun ⟨b7,b8,b9,c0,c1,c2,c3,c4,c6,c7,c9⟩ ⟨d0,d1,d2,d3,d4⟩=>?_
   refine .rn 6 r (.sub (E':=[(0,_),(3,_),(15,_),(16,_),(17,_),(5,.pointer (some ⟨b5,0,none⟩))]) ⟨r,r,r,r,r,(by rw [Y]; rfl),trivial⟩ (.dr [0,1,2,3,4,5,6,7,8,9,10,11,12,13,14,16,17,18,19,20,21,22,23,24,25,26,27,28,29,30,15,31,32] 33 (.fk 5 r (.h r (fun _=>.lo BF .p4 r .mk) (.fk 4 r (.h r (fun _=>.lo BF .p4 r .mk) (.fk 3 r (.h r (fun _=>.lo BF .z r .mk) (.fk 5 r ?_)))))))))
   refine .h r (fun _=>.lo BF .p4 r .mk) (.fk 4 r (.h r (fun _=>.lo BF .p4 r .mk) (.fk 3 r (.h r (fun _=>.lo BF .z r .mk) (.ww r fun ex=>?_)))))
   have Z:=HV (I:=t) hd
   refine .cq call110 Z r fun R hd=>?_
   refine .so 6 r r r (.ch r (fun _=>.lo BF .z r .mk) (.ck 3 r r (.ch r (fun _=>.lo BF .p4 r .mk) (.ck 4 r r (.ch r (fun _=>.lo BF .p4 r .mk) (.ck 5 r r trivial)))))) (.ww r fun ex=>?_)
   have a2:=HV (I:=t) hd
   refine .cq call110 a2 r fun S hd=>?_
   refine .so 6 r r r trivial (.fk 1 r (.e2 33 (.ks 1 r (.bankB (B:=AG) (b7,b8,b9,c0,c1,c2,c3,c4,c6,c7,c9) b6 ⟨d0,d1,d2,d3,d4⟩ G (.o [0,0,0] r) (.nk [7,6,5,17,16,15,3,0] 1 r ?_)))))
   obtain ⟨g1,d5,a3,H,hd⟩:=hd
   obtain rfl:=Option.some.inj a3
   refine .bankO .z H fun ⟨d6,d7,d8,d9,e0,e1,e3,e4,e5,e6,e7⟩ ⟨e8,e9,f0,f1,m⟩=>?_
   refine .rn 6 r (.ks 2 r (.lo isAgg76 .z r (.ln EE r (.ks 1 r (.bankB (B:=AG) (d6,d7,d8,d9,e0,e1,e3,e4,e5,e6,e7) d5 ⟨e8,e9,f0,f1,m⟩ H (.o [0,0,0] r) (.no [58,57,56,7,6,17,16,15,3,0] r (.block (.lx hd [57,56,17,16,15,7,6,0] [2,2,0] r (fun j E l (g,u)=>fun c w=>∃ C D,j ⟨81,[],none⟩ (fun I_=>True) ((3,.slice C g.length D) :: (58,.int .i64 u) :: E) (OwnSl CE 161 C D g :: l) c w) (fun c w ho hs=>⟨_,_,jf rf trivial [1,1,1,0] r ho hs⟩) ?_))))))))
   rintro ⟨g,u⟩ f6 hd c w ⟨C,D,g2,e,_,hok,hsym⟩
   obtain ⟨a4,R6,R9,R12,R15,R18⟩:=e.u6 d R6 R9 R12 R15 R18
   obtain ⟨R21,R24,R27,R30,R33,R36⟩:=e.u6 R21 R24 R27 R30 R33 R36
   have m:=e.u1 m
   refine Cod.at hok hsym (.sr (.kn 1 [59,58,57,56,17,16,15,7,6,3,0] r (.seq (.condP r hd (fun a5 hd=>?_) fun a5 hd=>?_))))
   · refine .sn [58,57,56,17,16,15,7,6,3,0] r (.seq (.block (.sr ?_)))
     obtain ⟨U,b,K,hd⟩:=hd
     obtain ⟨g3,o764,f8,f2,a6,a7⟩:=m.2 _ _ K
     cases a7
     refine .ixa EE BT r f2 r U (AH K U) r r (.ldW HL BT a6 r r r r (.al bC r fun g4=>?_))
     refine .sa BT .z r (.no [9,58,57,56,17,16,15,7,6,3,0] r (.region (.ks 2 r (.lo BF .z r (.ks 3 r (.lo BF .z r (.ks 3 r (.loadA BO AO r .z (.o 2 r) r r r (.build bC underlying161 AaY (.c r r r (.o r) (.c r r r (.o r) (.c r r r (.o r) .n))) (by exact ⟨⟨_,_,r,r,r⟩,⟨⟨_,_,r,r,r⟩,⟨⟨_,_,r,r,r⟩,trivial⟩⟩⟩) r r ?_)))))))))
     refine .buildSlice 1 EE BT bC r r (.c r r r .n) r r fun g5=>?_
     obtain ⟨a8,hd⟩:=hd
     refine .append (ys:=[({ Row:=AJ (b.Row+R),Col:=AJ (b.Col+S),Val:=b.Val }:AK)]) 32 .p2 EE EE mC r r r r r r r r r (.box .z (.one r) r) a8 r r fun g6 g7=>?_
     exact .kn 1 [3,58,57,56,17,16,15,7,6,0] r (.drop .p1 (.drop .p1 (.region (.ks 2 r (.nil' fun c w ho hs=>⟨((g++([({ Row:=AJ (b.Row+R),Col:=AJ (b.Col+S),Val:=b.Val }:AK)])),AJ (u+1)),hd,_,_,jf e trivial [0,0,0,0] r ho hs⟩)))))
   exact .en [17,16,15,3,0] r (.region (.ks 2 r (.nil' fun c w ho hs=>⟨(g,AJ (s+1)),hd,_,_,jf a4 trivial [0,0,0,0] r ho hs⟩)))
 refine .en [3,0] r (.sk 1 r ?_)
 have a9:=Fun.sort (hk:=fun _=>⟨r,r⟩) AcN HL BT (fun x y J Q hq=>TD (I:=J) (a0:=x) (a1:=y) (Q:=Q) hq) call112 (I:=t) (T:=161) (a:=i) (cap:=k) hd
 refine .callS (.f call111 r) (.o [0] r) a9 r r fun g8 g9 h0 L b0=>?_
 obtain ⟨f3,rfl,O,rfl,hd⟩:=b0
 obtain ⟨b1,R6,R9,R12,R15,R18⟩:=L.u6 d R6 R9 R12 R15 R18
 obtain ⟨R21,R24,R27,R30,R33,R36⟩:=L.u6 R21 R24 R27 R30 R33 R36
 refine .rl .z [3,78] r (by rw [O]) (.nk [3,0] 2 r (.no [2,0] r (.pub .z fun h1 N f4=>?_)))
 obtain ⟨b2,R6,R9,R12,R15,R18⟩:=N.u6 b1 R6 R9 R12 R15 R18
 obtain ⟨R21,R24,R27,R30,R33,R36⟩:=N.u6 R21 R24 R27 R30 R33 R36
 exact .q1 results40 b2 [0,0,0] r ⟨f3,_,_,r,f4,r,hd⟩
theorem QV {o0:AD} {o1:List (Nat×AA)} {Q:(Rows×Int)→Prop} (R6:RepSl AE I p4 c5 o0.p.A.Start) (R9:RepSl AE I p7 c8 o0.p.A.Col) (R12:RepSl AE I p10 c11 o0.p.A.Val) (R15:RepSl AE I p13 c14 o0.p.B.Start) (R18:RepSl AE I p16 c17 o0.p.B.Col) (R21:RepSl AE I p19 c20 o0.p.B.Val) (R24:RepSl AE I p22 c23 o0.p.Mask.Start) (R27:RepSl AE I p25 c26 o0.p.Mask.Col) (R30:RepSl AE I p28 c29 o0.p.Mask.Val) (R33:RepSl BV I p31 c32 o0.stages) (R36:RepSl CO I p34 c35 o0.workers) (hd:DU o0 o1 Q) :
  Fun prog 64 #[.pointer (some ⟨b3,0,none⟩)] I [pto b3 (.cells (AQ o0 p4 c5 p7 c8 p10 c11 p13 c14 p16 c17 p19 c20 p22 c23 p25 c26 p28 c29 p31 c32 p34 c35 b38) 121 (0,0)),OwnMap CX CO false b38 o0.boxes,BH AG o1] (fun I_ v l=>∃ r p39 c40 p42 c43 p45 c46,v=.tuple #[.agg #[.int .i64 r.1.Rows,.int .i64 r.1.Cols,.slice p39 r.1.Start.length c40,.slice p42 r.1.Col.length c43,.slice p45 r.1.Val.length c46],.int .i64 r.2]∧RepSl AE I_ p39 c40 r.1.Start∧RepSl AE I_ p42 c43 r.1.Col∧RepSl AE I_ p45 c46 r.1.Val∧l=[pto b3 (.cells (AQ o0 p4 c5 p7 c8 p10 c11 p13 c14 p16 c17 p19 c20 p22 c23 p25 c26 p28 c29 p31 c32 p34 c35 b38) 121 (0,0)),OwnMap CX CO false b38 o0.boxes,BH AG o1]∧Q r):=by
 refine Fun.en func64 ntmps64 r fun w0 M=>?_
 refine .sr (.al DO r fun x=>?_)
 refine .kn 1 [2,0] r (.seq (.sk 1 r (.eqNilP mE r r r r (.no [5,2,0] r (.condKF r r (.sn [2,0] r (.seq (.dr [0,1,2,3,4,5,6,7,8,9,10,11,12,13,14,15,16,17,18,19,20,21] 22 (.fk 4 r ?_)))))))))
 refine .h r (fun _=>.lo mH .p1 r .mk) (.fk 5 r (.h r (fun _=>.lo BF .p1 r .mk) (.fk 5 r (.h r (fun _=>.lo BF .p1 r .mk) (.fk 1 r (.ww r fun ex=>?_))))))
 have e:=RA (I:=I) (o0:=o0) (o1:=o1) (b3:=b3) (p4:=p4) (c5:=c5) (p7:=p7) (c8:=c8) (p10:=p10) (c11:=c11) (p13:=p13) (c14:=c14) (p16:=p16) (c17:=c17) (p19:=p19) (c20:=c20) (p22:=p22) (c23:=c23) (p25:=p25) (c26:=c26) (p28:=p28) (c29:=c29) (p31:=p31) (c32:=c32) (p34:=p34) (c35:=c35) (b38:=b38) R6 R9 R12 R15 R18 R21 R24 R27 R30 R33 R36 hd
 refine .callS (.f call40 r) (.o [1,1,1] r) e r r fun y m C a g=>?_
 obtain ⟨D,E,F,rfl,c,rfl,hd⟩:=g
 obtain ⟨R6,R9,R12,R15,R18,R21⟩:=a.u6 R6 R9 R12 R15 R18 R21
 obtain ⟨R24,R27,R30,R33,R36⟩:=a.u5 R24 R27 R30 R33 R36
 refine .rx 4 r (.so 4 r r r (.ch r (fun _=>.lo BF .z r .mk) (.ck 5 r r (.ch r (fun _=>.lo BF .z r .mk) (.ck 5 r r (.ch r (fun _=>.lo mH .z r .mk) (.ck 4 r r trivial)))))) (.ww r fun ex=>?_))
 have i:=oJ (I:=m) c hd
 refine .call call131 r i r r fun G H b j=>?_
 obtain ⟨d,J,K,L,N,O,P,rfl,q,s,u,hd⟩:=j
 obtain ⟨k,R6,R9,R12,R15,R18⟩:=b.u6 a R6 R9 R12 R15 R18
 obtain ⟨R21,R24,R27,R30,R33,R36⟩:=b.u6 R21 R24 R27 R30 R33 R36
 have c:=b.u1 c
 exact .so 4 r r r trivial (.fk 2 r (.e2 22 (.sa AU .p3 r (.kn 1 [3,2,0] r (.ret (OA results64 (.w BU AU r .p3 r (.t r .n)) k (.o [0,0,0] r) ⟨(d.1,d.2),_,_,_,_,_,_,r,q,s,u,r,hd⟩))))))
theorem oK {a0:CM} {a1:List GH} {a2:Int} {Q:(Rows×Bool×Int)→Prop} (R3:RepSl AE I p1 c2 a0.A.Start) (R6:RepSl AE I p4 c5 a0.A.Col) (R9:RepSl AE I p7 c8 a0.A.Val) (R12:RepSl AE I p10 c11 a0.B.Start) (R15:RepSl AE I p13 c14 a0.B.Col) (R18:RepSl AE I p16 c17 a0.B.Val) (R21:RepSl AE I p19 c20 a0.Mask.Start) (R24:RepSl AE I p22 c23 a0.Mask.Col) (R27:RepSl AE I p25 c26 a0.Mask.Val) (R30:RepSl V7 I p28 c29 a1) (hd:SV a0 a1 a2 Q) :
  BZ prog 17 [.agg #[.int .i64 a0.Ring,.int .i64 a0.A.Rows,.int .i64 a0.A.Cols,.slice p1 a0.A.Start.length c2,.slice p4 a0.A.Col.length c5,.slice p7 a0.A.Val.length c8,.int .i64 a0.B.Rows,.int .i64 a0.B.Cols,.slice p10 a0.B.Start.length c11,.slice p13 a0.B.Col.length c14,.slice p16 a0.B.Val.length c17,.int .i64 a0.Mask.Rows,.int .i64 a0.Mask.Cols,.slice p19 a0.Mask.Start.length c20,.slice p22 a0.Mask.Col.length c23,.slice p25 a0.Mask.Val.length c26,.int .i64 a0.R,.int .i64 a0.C,.int .i64 a0.Room],.slice p28 a1.length c29,.int .i64 a2] I (AdA Q):=by
 refine Fun.en func17 ntmps17 r fun w0 M=>?_
 refine .bank0 AG (.bank0 AY (.sr (.bx r fun V5=>?_)))
 refine .al DO r fun V6=>?_
 refine .ks 2 r (.ns [6,3,2,1] r (.lw pI jH .p1 r ?_))
 have y9:=bW (I:=I) (o0:=([]:List (Nat×AA))) (o1:=([]:List (Nat×AF))) (a0:=a0) R3 R6 R9 R12 R15 R18 R21 R24 R27 hd
 refine .callS (.f call22 r) (.o [3,2] r) y9 r r fun P5 v9 P6 d c7=>?_
 rcases c7 with c7 | c7
 · obtain ⟨i8,rfl,rfl,hd⟩:=c7
   obtain ⟨R3,R6,R9,R12,R15,R18⟩:=d.u6 R3 R6 R9 R12 R15 R18
   obtain ⟨R21,R24,R27,R30⟩:=d.u4 R21 R24 R27 R30
   refine .rn 4 r (.kn 5 [10,9,6,2,1] r (.drop .p3 (.seq (.sr (.kn 2 [21,10,9,6,2,1] r (.condP r hd (fun z0 hd=>?_) fun z0 hd=>?_))))))
   · exact .sr (.build DO HY HX .n (by exact trivial) r r (.ks 1 r (.sa AU .p2 r (.kn 2 [8,7,6] r (.ret (BP results17 (.w BU AU r .p2 r (.t r (.t r .n))) d ⟨(({ Rows:=0,Cols:=0,Start:=([]:List Int),Col:=([]:List Int),Val:=([]:List Int) }:Rows),false,i8.1),_,_,_,_,_,_,r,(.nil _ _ _),(.nil _ _ _),(.nil _ _ _),hd⟩))))))
   refine .sn [9,6,2,1] r (.seq (.block (.sk 1 r (.ln ZV r (.kn 2 [24,9,6,2,1] r (.condP r hd (fun z1 hd=>?_) fun z1 hd=>?_))))))
   · exact .sr (.build DO HY HX .n (by exact trivial) r r (.sa AU .p2 r (.kn 2 [8,7,6] r (.ret (BP results17 (.w BU AU r .p2 r (.t r (.t r .n))) d ⟨(({ Rows:=0,Cols:=0,Start:=([]:List Int),Col:=([]:List Int),Val:=([]:List Int) }:Rows),false,5),_,_,_,_,_,_,r,(.nil _ _ _),(.nil _ _ _),(.nil _ _ _),hd⟩)))))
   refine .sk 1 r ?_
   have z2:=ED (I:=v9) (a0:=a1) R30 hd
   refine .callS (.f call61 r) .n z2 r r fun P7 P8 P9 z3 z4=>?_
   obtain ⟨Q0,rfl,rfl,hd⟩:=z4
   obtain ⟨i9,R30⟩:=z3.u2 d R30
   refine .rn 3 r (.kn 1 [29,9,6,2,1] r (.condP r hd (fun z5 hd=>?_) fun z5 hd=>?_))
   · exact .sr (.build DO HY HX .n (by exact trivial) r r (.sa AU .p2 r (.kn 2 [8,7,6] r (.ret (BP results17 (.w BU AU r .p2 r (.t r (.t r .n))) i9 ⟨(({ Rows:=0,Cols:=0,Start:=([]:List Int),Col:=([]:List Int),Val:=([]:List Int) }:Rows),false,8),_,_,_,_,_,_,r,(.nil _ _ _),(.nil _ _ _),(.nil _ _ _),hd⟩)))))
   refine .sk 3 r ?_
   refine AN hd (fun q6 hd=>?_) fun q6 hd=>?_
   · rw [q6]
     exact .kn 4 [33,9,6,2,1] r (.condKT r r (.sr (.build DO HY HX .n (by exact trivial) r r (.sa AU .p2 r (.kn 2 [8,7,6] r (.ret (BP results17 (.w BU AU r .p2 r (.t r (.t r .n))) i9 ⟨(({ Rows:=0,Cols:=0,Start:=([]:List Int),Col:=([]:List Int),Val:=([]:List Int) }:Rows),false,3),_,_,_,_,_,_,r,(.nil _ _ _),(.nil _ _ _),(.nil _ _ _),hd⟩)))))))
   rw [q6]
   refine .kn 4 [33,9,6,2,1] r (.condP r hd (fun z6 hd=>?_) fun z6 hd=>?_)
   · exact .sr (.build DO HY HX .n (by exact trivial) r r (.sa AU .p2 r (.kn 2 [8,7,6] r (.ret (BP results17 (.w BU AU r .p2 r (.t r (.t r .n))) i9 ⟨(({ Rows:=0,Cols:=0,Start:=([]:List Int),Col:=([]:List Int),Val:=([]:List Int) }:Rows),false,3),_,_,_,_,_,_,r,(.nil _ _ _),(.nil _ _ _),(.nil _ _ _),hd⟩)))))
   refine .sn [9,6,2,1] r (.seq (.sk 1 r (.ln ZV r (.kn 1 [43,42,41,9,6,2] r (.block (.lp hd [42,41,9,6,2] [2,0,0] r (fun j E l t3=>j ((43,.int .i64 t3) :: E) l) (ji rf [2,0,0] r) ?_))))))
   refine fun t3 H2 hd=>jq r fun G1 j0=>?_
   obtain ⟨q7,R30⟩:=j0.u2 i9 R30
   refine .sr (.kn 1 [44,43,42,41,9,6,2] r (.seq (.condP r hd (fun z7 hd=>?_) fun z7 hd=>?_)))
   · refine .sn [43,42,41,9,6,2] r (.seq (.block (.sr ?_)))
     obtain ⟨w1,G2,v4,hd⟩:=hd
     obtain ⟨Q1,o361,I0,G3,z8,z9⟩:=R30.2 _ _ v4
     cases z9
     refine .ixa ZV VE r G3 r w1 (AH v4 w1) r r (.ldW jI VE z8 r r r r (.al wI r fun Q2=>?_))
     refine .sa VE .z r (.no [12,43,42,41,9,6,2] r (.region (.ks 1 r (.lw jI VE .z r ?_))))
     have A0:=UE (I:=G1) (o0:=i8.2) (o1:=([]:List (Nat×AF))) (a0:=G2) hd
     refine .callS (.f call25 r) (.o [2,2] r) A0 r r fun Q3 Q4 Q5 A1 A2=>?_
     obtain ⟨Q6,rfl,rfl,hd⟩:=A2
     obtain ⟨I1,A3,R30⟩:=A1.u3 q7 j0 R30
     exact .rn 4 r (.no [43,42,41,9,6,2] r (.drop .p2 (.region (.ks 2 r (.nil' (je (AJ (t3+1)) hd A3 [2,0,0] r))))))
   refine .en [9,6,2] r (.seq (.jn hd [9,6] [0,0,0] r (fun j E l _=>j E l) (fun Q7 hd=>?_) ?_))
   · skip
     refine .sr (.kn 1 [13,9,6,2] r (.block (.lp hd [13,9,6,2] [0,0,0] r (fun j E l _=>j E l) (ji rf [0,0,0] r) ?_)))
     refine fun _ H3 hd=>jq r fun G4 q8=>?_
     obtain ⟨A4,A5⟩:=q8.u2 q7 j0
     refine .seq (.sk 4 r ?_)
     refine AN hd (fun q9 hd=>?_) fun q9 hd=>?_
     · rw [q9]
       refine .ks 1 r ?_
       have A6:=JR (I:=G4) (o0:=i8.2) hd
       refine .yes r (.callS (.f call38 r) (.o [1] r) A6 r r fun Q8 G5 Q9 A7 A8=>?_)
       obtain ⟨R0,rfl,rfl,hd⟩:=A8
       obtain ⟨I2,I3,A9⟩:=A7.u3 A4 A5 q8
       refine .rn 3 r (.kn 2 [58,13,9,6,2] r (.condP r hd (fun B0 hd=>?_) fun B0 hd=>?_))
       · refine .sn [13,9,6,2] r (.seq (.block (.region (.ks 1 r ?_))))
         have B1:=QQ (I:=G5) (o0:=i8.2) (o1:=([]:List (Nat×AF))) hd
         refine .callS (.f call63 r) (.o [0,1] r) B1 r r fun R1 R2 R4 I4 B2=>?_
         exact B2.elim
       exact .exit (je () hd A9 [1,0,0] r)
     rw [q9]
     exact .kn 4 [58,13,9,6,2] r (.condKF r r (.exit (je () hd q8 [0,0,0] r)))
   refine fun _ hd=>jq r fun G6 v5=>?_
   obtain ⟨B3,B4⟩:=v5.u2 q7 j0
   refine .sk 1 r ?_
   have B5:=QR (I:=G6) (o0:=i8.2) hd
   refine .callS (.f call64 r) (.o [1] r) B5 r r fun R5 G7 R7 B6 B7=>?_
   obtain ⟨w2,R8,S0,S1,S2,S3,S4,rfl,t4,t5,t6,rfl,hd⟩:=B7
   obtain ⟨B8,B9,C0⟩:=B6.u3 B3 B4 v5
   refine .rn 3 r (.ks 3 r (.al DO r fun S5=>?_))
   refine .sa AU .z r (.kn 1 [10,14,9,6] r (.seq (.dr [0,1,3,2,4,5] 6 (.h r (fun _=>.lw BU AU .z r .mk) (.fk 2 r (.ww r fun ex=>?_))))))
   have C1:=JR (I:=G7) (o0:=i8.2) hd
   refine .callS (.f call38 r) (.o [1] r) C1 r r fun S6 S7 S8 C2 C3=>?_
   obtain ⟨G8,rfl,rfl,hd⟩:=C3
   obtain ⟨C4,I5,I6,t4,t5,t6⟩:=C2.u6 B8 B9 C0 t4 t5 t6
   refine .rx 4 r (.so 4 r r r (.ck 1 r r (.ch r (fun _=>.lw BU AU .p1 r .mk) trivial)) (.ww r fun ex=>?_))
   exact .sa AU .p2 r (.sn 4 r r r (.ck 1 r r trivial) (.fk 1 r (.e2 6 (.kn 1 [8,7,6] r (.drop .p1 (.ret (BP results17 (.w BU AU r .p1 r (.t r (.t r .n))) C4 ⟨(w2.1,G8,w2.2),_,_,_,_,_,_,r,t4,t5,t6,hd⟩)))))))
 obtain ⟨G9,V,S9,T0,T1,T2,T3,T4,T5,T6,T7,T8,T9,U0,U1,U2,U3,U4,U5,U6,U7,U8,U9,V0,e,rfl,t7,t8,t9,u0,u7,u8,u9,v0,v1,v2,v3,rfl,hd⟩:=c7
 obtain ⟨R3,R6,R9,R12,R15,R18⟩:=d.u6 R3 R6 R9 R12 R15 R18
 obtain ⟨R21,R24,R27,R30⟩:=d.u4 R21 R24 R27 R30
 refine .rn 6 r (.kn 5 [10,9,6,2,1] r (.drop .p5 (.seq (.sr (.kn 2 [21,10,9,6,2,1] r (.condP r hd (fun C5 hd=>?_) fun C5 hd=>?_))))))
 · exact .sr (.build DO HY HX .n (by exact trivial) r r (.ks 1 r (.sa AU .p4 r (.kn 2 [8,7,6] r (.drop .p2 (.drop .p2 (.ret (BP results17 (.w BU AU r .p2 r (.t r (.t r .n))) d ⟨(({ Rows:=0,Cols:=0,Start:=([]:List Int),Col:=([]:List Int),Val:=([]:List Int) }:Rows),false,G9.1),_,_,_,_,_,_,r,(.nil _ _ _),(.nil _ _ _),(.nil _ _ _),hd⟩))))))))
 refine .sn [9,6,2,1] r (.seq (.block (.sk 1 r (.ln ZV r (.kn 2 [24,9,6,2,1] r (.condP r hd (fun C6 hd=>?_) fun C6 hd=>?_))))))
 · exact .sr (.build DO HY HX .n (by exact trivial) r r (.sa AU .p4 r (.kn 2 [8,7,6] r (.drop .p2 (.drop .p2 (.ret (BP results17 (.w BU AU r .p2 r (.t r (.t r .n))) d ⟨(({ Rows:=0,Cols:=0,Start:=([]:List Int),Col:=([]:List Int),Val:=([]:List Int) }:Rows),false,5),_,_,_,_,_,_,r,(.nil _ _ _),(.nil _ _ _),(.nil _ _ _),hd⟩)))))))
 refine .sk 1 r ?_
 have C7:=ED (I:=v9) (a0:=a1) R30 hd
 refine .callS (.f call61 r) .n C7 r r fun V1 V2 V3 r0 C8=>?_
 obtain ⟨V4,rfl,rfl,hd⟩:=C8
 obtain ⟨j1,R30,t7,t8,t9,u0⟩:=r0.u6 d R30 t7 t8 t9 u0
 obtain ⟨u7,u8,u9,v0,v1,v2⟩:=r0.u6 u7 u8 u9 v0 v1 v2
 have v3:=r0.u1 v3
 refine .rn 5 r (.kn 1 [29,9,6,2,1] r (.condP r hd (fun C9 hd=>?_) fun C9 hd=>?_))
 · exact .sr (.build DO HY HX .n (by exact trivial) r r (.sa AU .p4 r (.kn 2 [8,7,6] r (.drop .p2 (.drop .p2 (.ret (BP results17 (.w BU AU r .p2 r (.t r (.t r .n))) j1 ⟨(({ Rows:=0,Cols:=0,Start:=([]:List Int),Col:=([]:List Int),Val:=([]:List Int) }:Rows),false,8),_,_,_,_,_,_,r,(.nil _ _ _),(.nil _ _ _),(.nil _ _ _),hd⟩)))))))
 refine .sk 3 r ?_
 refine AN hd (fun r1 hd=>?_) fun r1 hd=>?_
 · rw [r1]
   exact .kn 4 [33,9,6,2,1] r (.condKT r r (.sr (.build DO HY HX .n (by exact trivial) r r (.sa AU .p4 r (.kn 2 [8,7,6] r (.drop .p2 (.drop .p2 (.ret (BP results17 (.w BU AU r .p2 r (.t r (.t r .n))) j1 ⟨(({ Rows:=0,Cols:=0,Start:=([]:List Int),Col:=([]:List Int),Val:=([]:List Int) }:Rows),false,3),_,_,_,_,_,_,r,(.nil _ _ _),(.nil _ _ _),(.nil _ _ _),hd⟩)))))))))
 rw [r1]
 refine .kn 4 [33,9,6,2,1] r (.condP r hd (fun D0 hd=>?_) fun D0 hd=>?_)
 · exact .sr (.build DO HY HX .n (by exact trivial) r r (.sa AU .p4 r (.kn 2 [8,7,6] r (.drop .p2 (.drop .p2 (.ret (BP results17 (.w BU AU r .p2 r (.t r (.t r .n))) j1 ⟨(({ Rows:=0,Cols:=0,Start:=([]:List Int),Col:=([]:List Int),Val:=([]:List Int) }:Rows),false,3),_,_,_,_,_,_,r,(.nil _ _ _),(.nil _ _ _),(.nil _ _ _),hd⟩)))))))
 refine .sn [9,6,2,1] r (.seq (.sk 1 r (.ln ZV r (.kn 1 [43,42,41,9,6,2] r (.block (.lx hd [42,41,9,6,2] [4] r (fun j E l (r2,r3,r4,j2,j3,j4,r5,r6,j5,j6,j7,r7,r8,j8,j9,k0,r9,s0,s1,k1,k2,s2,s3,s4,s5)=>fun c w=>∃ k3 k4 k5 k6 k7 k8 k9 l0 l1 l2 l3 l4 l5 l6 l7 l8 l9 m0 m1 m2 m3 m4,j ⟨72,[],none⟩ (fun I_=>RepSl AE I_ k3 k4 j2∧RepSl AE I_ k5 k6 j3∧RepSl AE I_ k7 k8 j4∧RepSl AE I_ k9 l0 j5∧RepSl AE I_ l1 l2 j6∧RepSl AE I_ l3 l4 j7∧RepSl AE I_ l5 l6 j8∧RepSl AE I_ l7 l8 j9∧RepSl AE I_ l9 m0 k0∧RepSl BV I_ m1 m2 k1∧RepSl CO I_ m3 m4 k2) ((43,.int .i64 s3) :: E) (pto V (.cells #[.int .i64 r2,.int .i64 r3,.int .i64 r4,.slice k3 j2.length k4,.slice k5 j3.length k6,.slice k7 j4.length k8,.int .i64 r5,.int .i64 r6,.slice k9 j5.length l0,.slice l1 j6.length l2,.slice l3 j7.length l4,.int .i64 r7,.int .i64 r8,.slice l5 j8.length l6,.slice l7 j9.length l8,.slice l9 k0.length m0,.int .i64 r9,.int .i64 s0,.int .i64 s1,.slice m1 k1.length m2,.slice m3 k2.length m4,.map (some e)] 121 (0,0)) :: OwnMap CX CO false e s2 :: BH AG s4 :: BH AY s5 :: l) c w) (fun c w ho hs=>⟨_,_,_,_,_,_,_,_,_,_,_,_,_,_,_,_,_,_,_,_,_,_,jf rf ⟨t7,t8,t9,u0,u7,u8,u9,v0,v1,v2,v3⟩ [2,2,0,0,0] r ho hs⟩) ?_))))))
 rintro ⟨r2,r3,r4,j2,j3,j4,r5,r6,j5,j6,j7,r7,r8,j8,j9,k0,r9,s0,s1,k1,k2,s2,s3,s4,s5⟩ H0 hd c w ⟨k3,k4,k5,k6,k7,k8,k9,l0,l1,l2,l3,l4,l5,l6,l7,l8,l9,m0,m1,m2,m3,m4,D1,d0,⟨m5,m6,m7,m8,m9,n0,n1,n2,n3,n4,n5⟩,hok,hsym⟩
 obtain ⟨p6,R30⟩:=d0.u2 j1 R30
 refine Cod.at hok hsym (.sr (.kn 1 [44,43,42,41,9,6,2] r (.seq (.condP r hd (fun w3 hd=>?_) fun w3 hd=>?_))))
 · refine .sn [43,42,41,9,6,2] r (.seq (.block (.sr ?_)))
   obtain ⟨v6,D2,t0,hd⟩:=hd
   obtain ⟨I7,o1354,H4,D3,w4,w5⟩:=R30.2 _ _ t0
   cases w5
   refine .ixa ZV VE r D3 r v6 (AH t0 v6) r r (.ldW jI VE w4 r r r r (.al wI r fun I8=>?_))
   refine .sa VE .z r (.no [12,43,42,41,9,6,2] r (.region (.ks 1 r (.lw jI VE .z r ?_))))
   have w6:=UF (I:=D1) (o0:=({ p:=({ Ring:=r2,A:=({ Rows:=r3,Cols:=r4,Start:=j2,Col:=j3,Val:=j4 }:Rows),B:=({ Rows:=r5,Cols:=r6,Start:=j5,Col:=j6,Val:=j7 }:Rows),Mask:=({ Rows:=r7,Cols:=r8,Start:=j8,Col:=j9,Val:=k0 }:Rows),R:=r9,C:=s0,Room:=s1 }:CM),stages:=k1,workers:=k2,boxes:=s2 }:AD)) (o1:=s4) (o2:=s5) (a0:=D2) (b4:=V) (p5:=k3) (c6:=k4) (p8:=k5) (c9:=k6) (p11:=k7) (c12:=k8) (p14:=k9) (c15:=l0) (p17:=l1) (c18:=l2) (p20:=l3) (c21:=l4) (p23:=l5) (c24:=l6) (p26:=l7) (c27:=l8) (p29:=l9) (c30:=m0) (p32:=m1) (c33:=m2) (p35:=m3) (c36:=m4) (b39:=e) m5 m6 m7 m8 m9 n0 n1 n2 n3 n4 n5 hd
   refine .callS (.f call25 r) (.o [1,1,1,1] r) w6 r r fun I9 J0 J1 p9 w7=>?_
   obtain ⟨a,J2,J3,J4,J5,J6,J7,J8,J9,K0,K1,K2,K3,K4,K5,K6,K7,K8,K9,L0,L1,L2,L3,rfl,D4,D5,D6,D7,D8,D9,E0,E1,E2,E3,E4,rfl,hd⟩:=w7
   obtain ⟨H5,w8,R30,m5,m6,m7⟩:=p9.u6 p6 d0 R30 m5 m6 m7
   obtain ⟨m8,m9,n0,n1,n2,n3⟩:=p9.u6 m8 m9 n0 n1 n2 n3
   obtain ⟨n4,n5⟩:=p9.u2 n4 n5
   exact .rn 6 r (.no [43,42,41,9,6,2] r (.drop .p4 (.region (.ks 2 r (.nil' fun c w ho hs=>⟨(a.2.1.p.Ring,a.2.1.p.A.Rows,a.2.1.p.A.Cols,a.2.1.p.A.Start,a.2.1.p.A.Col,a.2.1.p.A.Val,a.2.1.p.B.Rows,a.2.1.p.B.Cols,a.2.1.p.B.Start,a.2.1.p.B.Col,a.2.1.p.B.Val,a.2.1.p.Mask.Rows,a.2.1.p.Mask.Cols,a.2.1.p.Mask.Start,a.2.1.p.Mask.Col,a.2.1.p.Mask.Val,a.2.1.p.R,a.2.1.p.C,a.2.1.p.Room,a.2.1.stages,a.2.1.workers,a.2.1.boxes,AJ (s3+1),a.2.2.1,a.2.2.2),hd,_,_,_,_,_,_,_,_,_,_,_,_,_,_,_,_,_,_,_,_,_,_,jf w8 ⟨D4,D5,D6,D7,D8,D9,E0,E1,E2,E3,E4⟩ [0,0,0,0,0] r ho hs⟩)))))
 refine .en [9,6,2] r (.seq (.jx hd [9,6] [4] r (fun j E l (n6,n7,n8,d1,d2,d3,n9,o3,d4,d5,d6,o4,o5,d7,d8,d9,o6,o7,o8,e0,e1,o9,p0,v7)=>fun c w=>∃ e3 e4 e5 e6 e7 e8 e9 f0 f1 f2 f3 f4 f5 f6 f7 f8 f9 g0 g1 g2 g3 g4,j ⟨72,[],none⟩ (fun I_=>RepSl AE I_ e3 e4 d1∧RepSl AE I_ e5 e6 d2∧RepSl AE I_ e7 e8 d3∧RepSl AE I_ e9 f0 d4∧RepSl AE I_ f1 f2 d5∧RepSl AE I_ f3 f4 d6∧RepSl AE I_ f5 f6 d7∧RepSl AE I_ f7 f8 d8∧RepSl AE I_ f9 g0 d9∧RepSl BV I_ g1 g2 e0∧RepSl CO I_ g3 g4 e1) E (pto V (.cells #[.int .i64 n6,.int .i64 n7,.int .i64 n8,.slice e3 d1.length e4,.slice e5 d2.length e6,.slice e7 d3.length e8,.int .i64 n9,.int .i64 o3,.slice e9 d4.length f0,.slice f1 d5.length f2,.slice f3 d6.length f4,.int .i64 o4,.int .i64 o5,.slice f5 d7.length f6,.slice f7 d8.length f8,.slice f9 d9.length g0,.int .i64 o6,.int .i64 o7,.int .i64 o8,.slice g1 e0.length g2,.slice g3 e1.length g4,.map (some e)] 121 (0,0)) :: OwnMap CX CO false e o9 :: BH AG p0 :: BH AY v7 :: l) c w) (fun L4 hd=>?_) ?_))
 · skip
   refine .sr (.kn 1 [13,9,6,2] r (.block (.lx hd [9,6,2] [4] r (fun j E l (W,X,Y,F,G,H,Z,a3,J,K,L,a4,a5,O,P,S,a6,a7,a8,T,U,a9,s6,b0,g5)=>fun c w=>∃ g6 g7 g8 g9 h0 h1 h2 h3 h4 h5 h6 h7 h8 h9 i0 i1 i2 i3 i4 i5 i6 i7,j ⟨72,[],none⟩ (fun I_=>RepSl AE I_ g6 g7 F∧RepSl AE I_ g8 g9 G∧RepSl AE I_ h0 h1 H∧RepSl AE I_ h2 h3 J∧RepSl AE I_ h4 h5 K∧RepSl AE I_ h6 h7 L∧RepSl AE I_ h8 h9 O∧RepSl AE I_ i0 i1 P∧RepSl AE I_ i2 i3 S∧RepSl BV I_ i4 i5 T∧RepSl CO I_ i6 i7 U) ((13,.int .i64 s6) :: E) (pto V (.cells #[.int .i64 W,.int .i64 X,.int .i64 Y,.slice g6 F.length g7,.slice g8 G.length g9,.slice h0 H.length h1,.int .i64 Z,.int .i64 a3,.slice h2 J.length h3,.slice h4 K.length h5,.slice h6 L.length h7,.int .i64 a4,.int .i64 a5,.slice h8 O.length h9,.slice i0 P.length i1,.slice i2 S.length i3,.int .i64 a6,.int .i64 a7,.int .i64 a8,.slice i4 T.length i5,.slice i6 U.length i7,.map (some e)] 121 (0,0)) :: OwnMap CX CO false e a9 :: BH AG b0 :: BH AY g5 :: l) c w) (fun c w ho hs=>⟨_,_,_,_,_,_,_,_,_,_,_,_,_,_,_,_,_,_,_,_,_,_,jf rf ⟨m5,m6,m7,m8,m9,n0,n1,n2,n3,n4,n5⟩ [0,0,0,0,0] r ho hs⟩) ?_)))
   rintro ⟨W,X,Y,F,G,H,Z,a3,J,K,L,a4,a5,O,P,S,a6,a7,a8,T,U,a9,s6,b0,g5⟩ H1 hd c w ⟨g6,g7,g8,g9,h0,h1,h2,h3,h4,h5,h6,h7,h8,h9,i0,i1,i2,i3,i4,i5,i6,i7,E5,q0,⟨g,i,k,m,q,s,u,v,x,y,D⟩,hok,hsym⟩
   obtain ⟨w9,x0⟩:=q0.u2 p6 d0
   refine Cod.at hok hsym (.seq (.sk 4 r ?_))
   refine AN hd (fun q1 hd=>?_) fun q1 hd=>?_
   · rw [q1]
     refine .ks 1 r ?_
     have x1:=JS (I:=E5) (o0:=({ p:=({ Ring:=W,A:=({ Rows:=X,Cols:=Y,Start:=F,Col:=G,Val:=H }:Rows),B:=({ Rows:=Z,Cols:=a3,Start:=J,Col:=K,Val:=L }:Rows),Mask:=({ Rows:=a4,Cols:=a5,Start:=O,Col:=P,Val:=S }:Rows),R:=a6,C:=a7,Room:=a8 }:CM),stages:=T,workers:=U,boxes:=a9 }:AD)) (o1:=b0) (b3:=V) (p4:=g6) (c5:=g7) (p7:=g8) (c8:=g9) (p10:=h0) (c11:=h1) (p13:=h2) (c14:=h3) (p16:=h4) (c17:=h5) (p19:=h6) (c20:=h7) (p22:=h8) (c23:=h9) (p25:=i0) (c26:=i1) (p28:=i2) (c29:=i3) (p31:=i4) (c32:=i5) (p34:=i6) (c35:=i7) (b38:=e) g i k m q s u v x y D hd
     refine .yes r (.callS (.f call38 r) (.o [0,0,0] r) x1 r r fun L5 E6 L6 q2 x2=>?_)
     obtain ⟨L7,rfl,rfl,hd⟩:=x2
     obtain ⟨x3,x4,t1,g,i,k⟩:=q2.u6 w9 x0 q0 g i k
     obtain ⟨m,q,s,u,v,x⟩:=q2.u6 m q s u v x
     obtain ⟨y,D⟩:=q2.u2 y D
     refine .rn 5 r (.kn 2 [58,13,9,6,2] r (.condP r hd (fun x5 hd=>?_) fun x5 hd=>?_))
     · refine .sn [13,9,6,2] r (.seq (.block (.region (.ks 1 r ?_))))
       have x6:=JH (I:=E6) (o0:=({ p:=({ Ring:=W,A:=({ Rows:=X,Cols:=Y,Start:=F,Col:=G,Val:=H }:Rows),B:=({ Rows:=Z,Cols:=a3,Start:=J,Col:=K,Val:=L }:Rows),Mask:=({ Rows:=a4,Cols:=a5,Start:=O,Col:=P,Val:=S }:Rows),R:=a6,C:=a7,Room:=a8 }:CM),stages:=T,workers:=U,boxes:=a9 }:AD)) (o1:=b0) (o2:=g5) (b4:=V) (p5:=g6) (c6:=g7) (p8:=g8) (c9:=g9) (p11:=h0) (c12:=h1) (p14:=h2) (c15:=h3) (p17:=h4) (c18:=h5) (p20:=h6) (c21:=h7) (p23:=h8) (c24:=h9) (p26:=i0) (c27:=i1) (p29:=i2) (c30:=i3) (p32:=i4) (c33:=i5) (p35:=i6) (c36:=i7) (b39:=e) g i k m q s u v x y D hd
       refine .callS (.f call63 r) (.o [0,0,0,0] r) x6 r r fun L8 L9 M0 q3 x7=>?_
       obtain ⟨b,M1,M2,M3,M4,M5,M6,M7,M8,M9,N0,N1,N2,N3,N4,N5,N6,N7,N8,N9,O0,O1,O2,rfl,E7,E8,E9,F0,F1,F2,F3,F4,F5,F6,F7,rfl,hd⟩:=x7
       obtain ⟨H6,H7,x8,g,i,k⟩:=q3.u6 x3 x4 t1 g i k
       obtain ⟨m,q,s,u,v,x⟩:=q3.u6 m q s u v x
       obtain ⟨y,D⟩:=q3.u2 y D
       exact .rn 5 r (.no [13,9,6,2] r (.region (.ks 3 r (.nil' fun c w ho hs=>⟨(b.2.1.p.Ring,b.2.1.p.A.Rows,b.2.1.p.A.Cols,b.2.1.p.A.Start,b.2.1.p.A.Col,b.2.1.p.A.Val,b.2.1.p.B.Rows,b.2.1.p.B.Cols,b.2.1.p.B.Start,b.2.1.p.B.Col,b.2.1.p.B.Val,b.2.1.p.Mask.Rows,b.2.1.p.Mask.Cols,b.2.1.p.Mask.Start,b.2.1.p.Mask.Col,b.2.1.p.Mask.Val,b.2.1.p.R,b.2.1.p.C,b.2.1.p.Room,b.2.1.stages,b.2.1.workers,b.2.1.boxes,AJ (s6+1),b.2.2.1,b.2.2.2),hd,_,_,_,_,_,_,_,_,_,_,_,_,_,_,_,_,_,_,_,_,_,_,jf x8 ⟨E7,E8,E9,F0,F1,F2,F3,F4,F5,F6,F7⟩ [0,0,0,0,0] r ho hs⟩))))
     exact .exit fun c w ho hs=>⟨(W,X,Y,F,G,H,Z,a3,J,K,L,a4,a5,O,P,S,a6,a7,a8,T,U,a9,b0,g5),hd,_,_,_,_,_,_,_,_,_,_,_,_,_,_,_,_,_,_,_,_,_,_,jf t1 ⟨g,i,k,m,q,s,u,v,x,y,D⟩ [0,0,0,0,0] r ho hs⟩
   rw [q1]
   exact .kn 4 [58,13,9,6,2] r (.condKF r r (.exit fun c w ho hs=>⟨(W,X,Y,F,G,H,Z,a3,J,K,L,a4,a5,O,P,S,a6,a7,a8,T,U,a9,b0,g5),hd,_,_,_,_,_,_,_,_,_,_,_,_,_,_,_,_,_,_,_,_,_,_,jf q0 ⟨g,i,k,m,q,s,u,v,x,y,D⟩ [0,0,0,0,0] r ho hs⟩))
 rintro ⟨n6,n7,n8,d1,d2,d3,n9,o3,d4,d5,d6,o4,o5,d7,d8,d9,o6,o7,o8,e0,e1,o9,p0,v7⟩ hd c w ⟨e3,e4,e5,e6,e7,e8,e9,f0,f1,f2,f3,f4,f5,f6,f7,f8,f9,g0,g1,g2,g3,g4,F8,t2,⟨b1,b2,b5,b6,b7,b8,b9,c0,c1,c3,c4⟩,hok,hsym⟩
 obtain ⟨x9,y0⟩:=t2.u2 p6 d0
 refine Cod.at hok hsym (.sk 1 r ?_)
 have y1:=QV (I:=F8) (o0:=({ p:=({ Ring:=n6,A:=({ Rows:=n7,Cols:=n8,Start:=d1,Col:=d2,Val:=d3 }:Rows),B:=({ Rows:=n9,Cols:=o3,Start:=d4,Col:=d5,Val:=d6 }:Rows),Mask:=({ Rows:=o4,Cols:=o5,Start:=d7,Col:=d8,Val:=d9 }:Rows),R:=o6,C:=o7,Room:=o8 }:CM),stages:=e0,workers:=e1,boxes:=o9 }:AD)) (o1:=p0) (b3:=V) (p4:=e3) (c5:=e4) (p7:=e5) (c8:=e6) (p10:=e7) (c11:=e8) (p13:=e9) (c14:=f0) (p16:=f1) (c17:=f2) (p19:=f3) (c20:=f4) (p22:=f5) (c23:=f6) (p25:=f7) (c26:=f8) (p28:=f9) (c29:=g0) (p31:=g1) (c32:=g2) (p34:=g3) (c35:=g4) (b38:=e) b1 b2 b5 b6 b7 b8 b9 c0 c1 c3 c4 hd
 refine .callS (.f call64 r) (.o [0,0,0] r) y1 r r fun O3 F9 O4 q4 y2=>?_
 obtain ⟨v8,O5,O6,O7,O8,O9,P0,rfl,s7,s8,s9,rfl,hd⟩:=y2
 obtain ⟨y3,y4,y5,b1,b2,b5⟩:=q4.u6 x9 y0 t2 b1 b2 b5
 obtain ⟨b6,b7,b8,b9,c0,c1⟩:=q4.u6 b6 b7 b8 b9 c0 c1
 obtain ⟨c3,c4⟩:=q4.u2 c3 c4
 refine .rn 5 r (.ks 3 r (.al DO r fun P1=>?_))
 refine .sa AU .z r (.kn 1 [10,14,9,6] r (.seq (.dr [0,1,3,2,4,5] 6 (.h r (fun _=>.lw BU AU .z r .mk) (.fk 2 r (.ww r fun ex=>?_))))))
 have y6:=JS (I:=F9) (o0:=({ p:=({ Ring:=n6,A:=({ Rows:=n7,Cols:=n8,Start:=d1,Col:=d2,Val:=d3 }:Rows),B:=({ Rows:=n9,Cols:=o3,Start:=d4,Col:=d5,Val:=d6 }:Rows),Mask:=({ Rows:=o4,Cols:=o5,Start:=d7,Col:=d8,Val:=d9 }:Rows),R:=o6,C:=o7,Room:=o8 }:CM),stages:=e0,workers:=e1,boxes:=o9 }:AD)) (o1:=p0) (b3:=V) (p4:=e3) (c5:=e4) (p7:=e5) (c8:=e6) (p10:=e7) (c11:=e8) (p13:=e9) (c14:=f0) (p16:=f1) (c17:=f2) (p19:=f3) (c20:=f4) (p22:=f5) (c23:=f6) (p25:=f7) (c26:=f8) (p28:=f9) (c29:=g0) (p31:=g1) (c32:=g2) (p34:=g3) (c35:=g4) (b38:=e) b1 b2 b5 b6 b7 b8 b9 c0 c1 c3 c4 hd
 refine .callS (.f call38 r) (.o [1,1,1] r) y6 r r fun P2 P3 P4 q5 y7=>?_
 obtain ⟨G0,rfl,rfl,hd⟩:=y7
 obtain ⟨y8,H8,H9,b1,b2,b5⟩:=q5.u6 y3 y4 y5 b1 b2 b5
 obtain ⟨b6,b7,b8,b9,c0,c1⟩:=q5.u6 b6 b7 b8 b9 c0 c1
 obtain ⟨c3,c4,s7,s8,s9⟩:=q5.u5 c3 c4 s7 s8 s9
 refine .rx 6 r (.so 6 r r r (.ck 1 r r (.ch r (fun _=>.lw BU AU .p3 r .mk) trivial)) (.ww r fun ex=>?_))
 exact .sa AU .p5 r (.sn 6 r r r (.ck 1 r r trivial) (.fk 1 r (.e2 6 (.kn 1 [8,7,6] r (.drop .z (.drop .z (.drop .p1 (.ret (BP results17 (.w BU AU r .p2 r (.t r (.t r .n))) y8 ⟨(v8.1,G0,v8.2),_,_,_,_,_,_,r,s7,s8,s9,hd⟩)))))))))
end Go.Proofs.YtbohadngdkjljaaGreat
