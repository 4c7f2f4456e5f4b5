/- The walks (printed by a program of ours). -/
import Derived.Test.YtbohadngdkjljaaGreatSL
namespace Go.Proofs.YtbohadngdkjljaaGreat
open Go Go.Fw
set_option linter.unusedVariables false
set_option linter.unusedSimpArgs false
set_option maxRecDepth 8000
set_option maxHeartbeats 1000000
open Tryz
variable {I:IH}
variable {b2 b3 b4 b5 b6 b7 b8 b9 c2 c3 c4 c5 c6 c7 c8 c9 lr b10 b11 b12 b13 b18 b19 b20 b21 b35 b36 b37 b38 b39 b40 b41 b42 b43 b54 b59 c10 c11 c12 c13 c14 c15 c16 c17 c18 c19 c20 c21 c22 c23 c24 c25 c26 c27 c28 c29 c30 c31 c32 c33 c34 c35 c36 c37 c38 c39 c41 c42 c43 c44 c45 c46 c47 c48 c49 c50 c51 c52 c54 c55 c57 c60 c63 c66 c69 c72 c75 c78:Nat}
variable {p1 p2 p3 p4 p5 p6 p7 p8 p9 p10 p11 p12 p13 p14 p15 p16 p17 p18 p19 p20 p21 p22 p23 p24 p25 p26 p27 p28 p29 p30 p31 p32 p33 p34 p35 p36 p37 p38 p40 p41 p42 p43 p44 p45 p46 p47 p48 p49 p50 p51 p53 p54 p56 p59 p62 p65 p68 p71 p74 p77:Option Addr}
variable {Rr:Nat→HA}
theorem RE {a0 a1:Int} {Q:Bool→Prop} (hd:JK a0 a1 Q) :
  BR prog 99 [.int .i64 a0,.int .i64 a1] I (fun _=>dA Q):=by
 refine Fun.en func99 ntmps99 r fun w0 M=>?_
 refine .sk 1 r (.nk [1,0] 3 r ?_)
 refine AQ hd (fun a hd=>?_) fun a hd=>?_
 · rw [a]
   exact .kn 5 [4] r (.r0 results99 r ⟨(decide (a0≤a1)),r,hd⟩)
 rw [a]
 exact .kn 5 [4] r (.r0 results99 r ⟨false,r,hd⟩)
theorem ND {a0:Int} {Q:Bool→Prop} (hd:NQ a0 Q) :
  BR prog 100 [.int .i64 a0] I (fun _=>dA Q):=by
 refine Fun.en func100 ntmps100 r fun w0 M=>?_
 refine .sk 1 r (.nk [0] 3 r ?_)
 refine AQ hd (fun a hd=>?_) fun a hd=>?_
 · rw [a]
   exact .kn 4 [2] r (.r0 results100 r ⟨(decide (a0<6)),r,hd⟩)
 rw [a]
 exact .kn 4 [2] r (.r0 results100 r ⟨false,r,hd⟩)
theorem HL {a0 a1:Int} {Q:Bool→Prop} (hd:GM a0 a1 Q) :
  BR prog 167 [.int .i64 a0,.int .i64 a1] I (fun _=>dA Q):=by
 refine Fun.en func167 ntmps167 r fun w0 M=>?_
 refine .sk 1 r (.nk [1,0] 3 r ?_)
 refine AQ hd (fun a hd=>?_) fun a hd=>?_
 · rw [a]
   exact .kn 5 [4] r (.r0 results167 r ⟨(decide (a0≤a1)),r,hd⟩)
 rw [a]
 exact .kn 5 [4] r (.r0 results167 r ⟨false,r,hd⟩)
theorem MJ {a0:Int} {Q:Bool→Prop} (hd:HN a0 Q) :
  BR prog 178 [.int .i64 a0] I (fun _=>dA Q):=by
 refine Fun.en func178 ntmps178 r fun w0 M=>?_
 exact .sk 1 r (.nk [0] 4 r (.no [2] r (.r0 results178 r ⟨(a0 != a0),r,hd⟩)))
theorem mL {a0 a1:Int} {Q:Bool→Prop} (hd:RS a0 a1 Q) :
  BR prog 223 [.int .i64 a0,.int .i64 a1] I (fun _=>dA Q):=by
 refine Fun.en func223 ntmps223 r fun w0 M=>?_
 refine .sk 1 r (.nk [1,0] 1 r ?_)
 have c:=MJ (I:=I) hd
 refine .cq call178 c r fun f hd=>?_
 refine .ks 1 r ?_
 refine AQ hd (fun b hd=>?_) fun b hd=>?_
 · rw [b]
   refine .ks 1 r ?_
   have d:=MJ (I:=I) hd
   refine .yes r (.callP call178 r d r r fun g e=>?_)
   obtain ⟨h,rfl,hd⟩:=e
   refine .ks 3 r ?_
   refine AQ hd (fun a hd=>?_) fun a hd=>?_
   · rw [a]
     exact .kn 5 [4] r (.r0 results223 r ⟨true,r,hd⟩)
   rw [a]
   exact .kn 5 [4] r (.r0 results223 r ⟨(decide (a0<a1)),r,hd⟩)
 rw [b]
 exact .kn 10 [4] r (.r0 results223 r ⟨(decide (a0<a1)),r,hd⟩)
theorem UW {a0:List Int} {Q:Bool→Prop} (R3:RepSl AE I p1 c2 a0) (hd:FU a0 Q) :
  BR prog 168 [.slice p1 a0.length c2] I (fun _=>dA Q):=by
 refine Fun.en func168 ntmps168 r fun w0 M=>?_
 refine .sr (.kn 1 [0] r (.seq (.sk 1 r (.ln BT r (.kn 2 [3,0] r (.block (.lp hd [0] [] r (fun j E l b=>j ((3,.int .i64 b) :: E) l) (ji rf [] r) ?_)))))))
 refine fun b q hd=>jq r fun s a=>?_
 have R3:=a.u1 R3
 refine .seq (.sr (.kn 2 [8,3,0] r (.condP r hd (fun g hd=>?_) fun g hd=>?_)))
 · refine .sn [3,0] r (.seq (.block (.seq (.dr [0,1,2,3,4,5,6,7,8,9] 10 (.fk 2 r ?_)))))
   obtain ⟨e,x,c,hd⟩:=hd
   obtain ⟨y,o67,v,t,i,k⟩:=R3.2 _ _ c
   cases k
   refine .h r (fun _=>.ixa BT EX r t r e (AH c e) r r .mk) (.h r (fun _=>.ld1 (j:=0) BF i r r r r r .mk) (.fk 3 r ?_))
   obtain ⟨f,z,d,hd⟩:=hd
   obtain ⟨A,o76,w,u,m,n⟩:=R3.2 _ _ d
   cases n
   refine .h r (fun _=>.ixa BT EX r u r f (AH d f) r r .mk) (.h r (fun _=>.ld1 (j:=0) BF m r r r r r .mk) (.ww r fun ex=>?_))
   have o:=mL (I:=s) hd
   refine .cq call223 o r fun B hd=>?_
   refine .so 0 r r r trivial (.e2 10 (.no [20,3,0] r (.condP r hd (fun p hd=>?_) fun p hd=>?_)))
   · exact .sr (.kn 1 [2] r (.r1 results168 r a ⟨false,r,hd⟩))
   exact .sn [3,0] r (.region (.ks 3 r (.nil' (je (AJ (b - 1)) hd a [] r))))
 exact .en [] r (.sr (.kn 1 [2] r (.r1 results168 r a ⟨true,r,hd⟩)))
theorem AcY {a0:List Int} {a1:Int} {Q:Bool→Prop} (R3:RepSl AE I p1 c2 a0) (hd:jJ a0 a1 Q) :
  BR prog 169 [.slice p1 a0.length c2,.int .i64 a1] I (fun _=>dA Q):=by
 refine Fun.en func169 ntmps169 r fun w0 M=>?_
 refine .sr (.kn 1 [1,0] r (.seq (.sk 1 r (.ln BT r (.kn 1 [9,8,7,1,0] r (.block (.lp hd [8,7,1,0] [] r (fun j E l d=>j ((9,.int .i64 d) :: E) l) (ji rf [] r) ?_)))))))
 refine fun d t hd=>jq r fun u a=>?_
 have R3:=a.u1 R3
 refine .sr (.kn 1 [10,9,8,7,1,0] r (.seq (.condP r hd (fun n hd=>?_) fun n hd=>?_)))
 · refine .sn [9,8,7,1,0] r (.seq (.block (.sk 1 r ?_)))
   obtain ⟨k,z,f,hd⟩:=hd
   obtain ⟨A,o87,x,v,o,p⟩:=R3.2 _ _ f
   cases p
   refine .ixa BT EX r v r k (AH f k) r r (.ld1 (j:=0) BF o r r r r r (.ks 2 r (.nk [6,5,9,8,7,1,0] 3 r ?_)))
   have q:=HL (I:=u) hd
   refine .cq call167 q r fun B hd=>?_
   refine .ks 2 r ?_
   refine AQ hd (fun b hd=>?_) fun b hd=>?_
   · rw [b]
     exact .kn 12 [31,9,8,7,1,0] r (.condKT r r (.sr (.kn 1 [4] r (.r1 results169 r a ⟨false,r,hd⟩))))
   rw [b]
   refine .ks 3 r ?_
   refine AQ hd (fun c hd=>?_) fun c hd=>?_
   · rw [c]
     refine .ks 3 r ?_
     obtain ⟨m,C,e,hd⟩:=hd
     obtain ⟨y,o102,w,s,g,h⟩:=R3.2 _ _ e
     cases h
     refine .yes r (.ixa BT EX r s r m (AH e m) r r (.yes r (.ld1 (j:=0) BF g r r r r r (.kn 4 [31,9,8,7,1,0] r (.condP r hd (fun i hd=>?_) fun i hd=>?_)))))
     · exact .sr (.kn 1 [4] r (.r1 results169 r a ⟨false,r,hd⟩))
     exact .sn [9,8,7,1,0] r (.region (.ks 2 r (.nil' (je (AJ (d+1)) hd a [] r))))
   rw [c]
   exact .kn 9 [31,9,8,7,1,0] r (.condKF r r (.sn [9,8,7,1,0] r (.region (.ks 2 r (.nil' (je (AJ (d+1)) hd a [] r))))))
 exact .en [] r (.sr (.kn 1 [4] r (.r1 results169 r a ⟨true,r,hd⟩)))
theorem NE {a0:Rows} {Q:Bool→Prop} (R3:RepSl AE I p1 c2 a0.Start) (R6:RepSl AE I p4 c5 a0.Col) (R9:RepSl AE I p7 c8 a0.Val) (hd:HV a0 Q) :
  BR prog 101 [.agg #[.int .i64 a0.Rows,.int .i64 a0.Cols,.slice p1 a0.Start.length c2,.slice p4 a0.Col.length c5,.slice p7 a0.Val.length c8]] I (fun _=>dA Q):=by
 refine Fun.en func101 ntmps101 r fun w0 M=>?_
 refine .sr (.bx r fun b9=>?_)
 refine .ks 1 r (.nk [1] 1 r (.lo GS .z r (.ln BT r (.kn 1 [3,1] r (.seq (.sk 1 r (.lo BF .z r ?_)))))))
 have J:=HL (I:=I) hd
 refine .cq call167 J r fun c0 hd=>?_
 refine .ks 2 r ?_
 refine AQ hd (fun c hd=>?_) fun c hd=>?_
 · rw [c]
   exact .kn 25 [37,3,1] r (.condKT r r (.sr (.kn 1 [2] r (.drop .z (.r0 results101 r ⟨false,r,hd⟩)))))
 rw [c]
 refine .ks 1 r (.yes r (.lo BF .z r ?_))
 have K:=HL (I:=I) hd
 refine .yes r (.callP call167 r K r r fun c1 N=>?_)
 obtain ⟨c3,rfl,hd⟩:=N
 refine .ks 3 r ?_
 refine AQ hd (fun d hd=>?_) fun d hd=>?_
 · rw [d]
   exact .kn 19 [37,3,1] r (.condKT r r (.sr (.kn 1 [2] r (.drop .z (.r0 results101 r ⟨false,r,hd⟩)))))
 rw [d]
 refine .ks 1 r (.yes r (.lo GS .z r (.yes r (.ln BT r (.ks 1 r (.yes r (.lo BF .z r (.ks 4 r ?_))))))))
 refine AQ hd (fun e hd=>?_) fun e hd=>?_
 · rw [e]
   exact .kn 10 [37,3,1] r (.condKT r r (.sr (.kn 1 [2] r (.drop .z (.r0 results101 r ⟨false,r,hd⟩)))))
 rw [e]
 refine .ks 1 r (.yes r (.lo qQ .z r (.yes r (.ln X2 r (.ks 4 r ?_)))))
 refine AQ hd (fun f hd=>?_) fun f hd=>?_
 · rw [f]
   exact .kn 3 [37,3,1] r (.condKT r r (.sr (.kn 1 [2] r (.drop .z (.r0 results101 r ⟨false,r,hd⟩)))))
 rw [f]
 refine .kn 3 [37,3,1] r (.condP r hd (fun O hd=>?_) fun O hd=>?_)
 · exact .sr (.kn 1 [2] r (.drop .z (.r0 results101 r ⟨false,r,hd⟩)))
 refine .sn [3,1] r (.seq (.sk 1 r (.lo GS .z r ?_)))
 obtain ⟨F,c4,p,hd⟩:=hd
 obtain ⟨c6,o69,b0,a6,P,R⟩:=R3.2 _ _ p
 cases R
 refine .ixa BT EX r a6 r F (AH p F) r r (.ld1 (j:=0) BF P r r r r r (.ks 2 r ?_))
 refine AQ hd (fun g hd=>?_) fun g hd=>?_
 · rw [g]
   exact .kn 15 [58,1] r (.condKT r r (.sr (.kn 1 [2] r (.drop .z (.r0 results101 r ⟨false,r,hd⟩)))))
 rw [g]
 refine .ks 1 r (.yes r (.lo GS .z r (.ks 1 r (.yes r (.lo BF .z r ?_)))))
 obtain ⟨G,c7,q,hd⟩:=hd
 obtain ⟨c9,o79,b1,a7,S,T⟩:=R3.2 _ _ q
 cases T
 refine .yes r (.ixa BT EX r a7 r G (AH q G) r r (.yes r (.ld1 (j:=0) BF S r r r r r (.ks 4 r ?_))))
 refine AQ hd (fun i hd=>?_) fun i hd=>?_
 · rw [i]
   exact .kn 5 [58,1] r (.condKT r r (.sr (.kn 1 [2] r (.drop .z (.r0 results101 r ⟨false,r,hd⟩)))))
 rw [i]
 refine .ks 1 r (.yes r (.lo GS .z r ?_))
 have U:=UW (I:=I) R3 hd
 refine .yes r (.callP call168 r U r r fun d0 V=>?_)
 obtain ⟨d1,rfl,hd⟩:=V
 refine .kn 2 [58,1] r (.condP r hd (fun W hd=>?_) fun W hd=>?_)
 · exact .sr (.kn 1 [2] r (.drop .z (.r0 results101 r ⟨false,r,hd⟩)))
 refine .sn [1] r (.seq (.sk 1 r (.lo BF .z r (.kn 1 [61,60,1] r (.block (.lp hd [60,1] [0] r (fun j E l k=>j ((61,.int .i64 k) :: E) l) (ji rf [0] r) ?_))))))
 refine fun k a5 hd=>jq r fun X a=>?_
 obtain ⟨R3,R6,R9⟩:=a.u3 R3 R6 R9
 refine .sr (.kn 1 [62,61,60,1] r (.seq (.condP r hd (fun w hd=>?_) fun w hd=>?_)))
 · refine .sn [61,60,1] r (.seq (.block (.sr (.kn 2 [4,61,60,1] r (.seq (.dr [0,1,2,3,4,5,6,7,8,9,10,11,12,13,14,15,16,17] 18 (.fk 1 r (.h r (fun _=>.lo GS .z r .mk) (.fk 1 r ?_)))))))))
   refine .h r (fun _=>.lo GS .z r .mk) (.fk 1 r ?_)
   obtain ⟨s,m,n,hd⟩:=hd
   obtain ⟨b2,o173,a8,Y,x,y⟩:=R3.2 _ _ n
   cases y
   refine .h r (fun _=>.ixa BT EX r Y r s (AH n s) r r .mk) (.h r (fun _=>.ld1 (j:=0) BF x r r r r r .mk) (.fk 1 r (.h r (fun _=>.lo GS .z r .mk) (.fk 2 r ?_))))
   obtain ⟨t,b,o,hd⟩:=hd
   obtain ⟨b3,o182,a9,Z,A,B⟩:=R3.2 _ _ o
   cases B
   refine .h r (fun _=>.ixa BT EX r Z r t (AH o t) r r .mk) (.h r (fun _=>.ld1 (j:=0) BF A r r r r r .mk) ?_)
   obtain ⟨a1,b4,b5,hd⟩:=hd
   have u:Int.toNat m≤Int.toNat b:=by omega
   have v:Int.toNat b≤a0.Col.length:=by omega
   obtain ⟨b6,b7,a2,a3,a4⟩:=RepSl.sliceW R6 (Int.toNat m) (Int.toNat b) c5 u v (.inl rfl)
   refine .h r (fun _=>.sliceW (L:=Int.toNat m) (H:=Int.toNat b) (cm:=c5) BT EX r r R6.1 r r r (.inr ⟨_,_,r,a1,r⟩) (.inr ⟨_,_,r,(by omega),r⟩) (.inl r) u v r a2 a3 r r .mk) (.fk 1 r (.h r (fun _=>.lo BF .z r .mk) (.ww r fun ex=>?_)))
   have C:=AcY (I:=X) a4 hd
   refine .cq call169 C r fun b8 hd=>?_
   refine .so 1 r r r trivial (.fk 1 r (.e2 18 (.no [81,61,60,1] r (.condP r hd (fun D hd=>?_) fun D hd=>?_))))
   · exact .sr (.kn 1 [2] r (.drop .z (.r1 results101 r a ⟨false,r,hd⟩)))
   exact .sn [61,60,1] r (.region (.ks 2 r (.nil' (je (AJ (k+1)) hd a [0] r))))
 exact .en [] r (.drop .z (.sr (.kn 1 [2] r (.r1 results101 r a ⟨true,r,hd⟩))))
theorem aZ {a0:BI} {Q:Int→Prop} (R3:RepSl AE I p1 c2 a0.A.Start) (R6:RepSl AE I p4 c5 a0.A.Col) (R9:RepSl AE I p7 c8 a0.A.Val) (R12:RepSl AE I p10 c11 a0.B.Start) (R15:RepSl AE I p13 c14 a0.B.Col) (R18:RepSl AE I p16 c17 a0.B.Val) (R21:RepSl AE I p19 c20 a0.Mask.Start) (R24:RepSl AE I p22 c23 a0.Mask.Col) (R27:RepSl AE I p25 c26 a0.Mask.Val) (hd:QL a0 Q) :
  BR prog 33 [.agg #[.int .i64 a0.Ring,.int .i64 a0.A.Rows,.int .i64 a0.A.Cols,.slice p1 a0.A.Start.length c2,.slice p4 a0.A.Col.length c5,.slice p7 a0.A.Val.length c8,.int .i64 a0.B.Rows,.int .i64 a0.B.Cols,.slice p10 a0.B.Start.length c11,.slice p13 a0.B.Col.length c14,.slice p16 a0.B.Val.length c17,.int .i64 a0.Mask.Rows,.int .i64 a0.Mask.Cols,.slice p19 a0.Mask.Start.length c20,.slice p22 a0.Mask.Col.length c23,.slice p25 a0.Mask.Val.length c26,.int .i64 a0.R,.int .i64 a0.C,.int .i64 a0.Room]] I (fun _=>kO Q):=by
 refine Fun.en func33 ntmps33 r fun w0 M=>?_
 refine .sr (.bx r fun W=>?_)
 refine .ks 1 r (.nk [1] 1 r (.no [3,1] r (.seq (.block (.sk 1 r (.lo kU .z r ?_))))))
 have v:=ND (I:=I) hd
 refine .cq call100 v r fun X hd=>?_
 refine .kn 2 [4,3,1] r (.condP r hd (fun w hd=>?_) fun w hd=>?_)
 · exact .sr (.kn 1 [2] r (.drop .z (.r0 results33 r ⟨8,r,hd⟩)))
 refine .seq (.jn hd [3,1] [0] r (fun j E l t=>j ((9,.bool t) :: E) l) (fun Y hd=>?_) ?_)
 · skip
   refine .region (.ks 1 r (.loadA CF BH r .z (.o 5 r) r r r ?_))
   have x:=NE (I:=I) R3 R6 R9 hd
   refine .cq call101 x r fun Z hd=>?_
   refine .ks 2 r ?_
   refine AQ hd (fun c hd=>?_) fun c hd=>?_
   · rw [c]
     exact .ks 12 r (.nil' (je true hd rf [0] r))
   rw [c]
   refine .ks 1 r (.yes r (.loadA CF BH r .z (.o 5 r) r r r ?_))
   have y:=NE (I:=I) R12 R15 R18 hd
   refine .yes r (.callP call101 r y r r fun a1 D=>?_)
   obtain ⟨a2,rfl,hd⟩:=D
   refine .ks 3 r ?_
   refine AQ hd (fun d hd=>?_) fun d hd=>?_
   · rw [d]
     exact .ks 6 r (.nil' (je true hd rf [0] r))
   rw [d]
   refine .ks 1 r (.yes r (.loadA CF BH r .z (.o 5 r) r r r ?_))
   have F:=NE (I:=I) R21 R24 R27 hd
   refine .yes r (.callP call101 r F r r fun a3 G=>?_)
   obtain ⟨N,rfl,hd⟩:=G
   exact .ks 3 r (.nil' (je (!N) hd rf [0] r))
 refine fun t hd=>jq r fun a4 b=>?_
 obtain ⟨R3,R6,R9,R12,R15,R18⟩:=b.u6 R3 R6 R9 R12 R15 R18
 obtain ⟨R21,R24,R27⟩:=b.u3 R21 R24 R27
 refine .condP r hd (fun H hd=>?_) fun H hd=>?_
 · exact .sr (.kn 1 [2] r (.drop .z (.r1 results33 r b ⟨7,r,hd⟩)))
 refine .seq (.jn hd [3,1] [0] r (fun j E l u=>j ((26,.bool u) :: E) l) (fun a5 hd=>?_) ?_)
 · skip
   refine .sk 2 r (.lo BF .z r (.ks 2 r (.lo BF .z r (.kn 2 [26,3,1] r (.condP r hd (fun J hd=>?_) fun J hd=>?_)))))
   · exact .skip' (je (a0.A.Cols != a0.B.Rows) hd rf [0] r)
   refine .sk 2 r (.lo BF .z r (.ks 2 r (.lo BF .z r (.kn 2 [26,3,1] r (.condP r hd (fun K hd=>?_) fun K hd=>?_)))))
   · exact .skip' (je (a0.Mask.Rows != a0.A.Rows) hd rf [0] r)
   exact .region (.ks 2 r (.lo BF .z r (.ks 2 r (.lo BF .z r (.ks 2 r (.nil' (je (a0.Mask.Cols != a0.B.Cols) hd rf [0] r)))))))
 refine fun u hd=>jq r fun g h=>?_
 obtain ⟨a,R3,R6,R9,R12,R15⟩:=h.u6 b R3 R6 R9 R12 R15
 obtain ⟨R18,R21,R24,R27⟩:=h.u4 R18 R21 R24 R27
 refine .condP r hd (fun L hd=>?_) fun L hd=>?_
 · exact .sr (.kn 1 [2] r (.drop .z (.r1 results33 r a ⟨4,r,hd⟩)))
 refine .seq (.sk 2 r (.lo BF .z r ?_))
 have i:=RE (I:=g) hd
 refine .callPc call99 r r i r r fun O k=>?_
 obtain ⟨P,rfl,hd⟩:=k
 refine .kn 2 [48,3,1] r (.condP r hd (fun e hd=>?_) fun e hd=>?_)
 · exact .sn [48] r (.drop .z (.condKT r e (.sr (.kn 1 [2] r (.r1 results33 r a ⟨3,r,hd⟩)))))
 refine .sk 2 r (.lo BF .z r ?_)
 have m:=RE (I:=g) hd
 refine .callPc call99 r r m r r fun S n=>?_
 obtain ⟨T,rfl,hd⟩:=n
 refine .kn 2 [48,3,1] r (.condP r hd (fun f hd=>?_) fun f hd=>?_)
 · exact .sn [48] r (.drop .z (.condKT r f (.sr (.kn 1 [2] r (.r1 results33 r a ⟨3,r,hd⟩)))))
 refine .region (.ks 2 r (.lo BF .z r ?_))
 have p:=RE (I:=g) hd
 refine .callPc call99 r r p r r fun U q=>?_
 obtain ⟨V,rfl,hd⟩:=q
 refine .kn 2 [48] r (.drop .z (.condP r hd (fun s hd=>?_) fun s hd=>?_))
 · exact .sr (.kn 1 [2] r (.r1 results33 r a ⟨3,r,hd⟩))
 exact .sn [] r (.sr (.kn 1 [2] r (.r1 results33 r a ⟨0,r,hd⟩)))
theorem YW {a0:Int} {Q:Bool→Prop} (hd:OZ a0 Q) :
  BR prog 137 [.int .i64 a0] I (fun _=>dA Q):=by
 refine Fun.en func137 ntmps137 r fun w0 M=>?_
 refine .sk 1 r (.nk [0] 3 r ?_)
 refine AQ hd (fun a hd=>?_) fun a hd=>?_
 · rw [a]
   exact .kn 4 [2] r (.r0 results137 r ⟨(decide (a0≤8)),r,hd⟩)
 rw [a]
 exact .kn 4 [2] r (.r0 results137 r ⟨false,r,hd⟩)
theorem XG {a0 a1:Int} {Q:Bool→Prop} (hd:TG a0 a1 Q) :
  BR prog 134 [.int .i64 a0,.int .i64 a1] I (fun _=>dA Q):=by
 refine Fun.en func134 ntmps134 r fun w0 M=>?_
 refine .sk 1 r (.nk [1,0] 3 r ?_)
 refine AQ hd (fun a hd=>?_) fun a hd=>?_
 · rw [a]
   refine .ks 4 r ?_
   refine AQ hd (fun b hd=>?_) fun b hd=>?_
   · rw [b]
     refine .ks 1 r ?_
     have c:=YW (I:=I) hd
     refine .yes r (.callP call137 r c r r fun f d=>?_)
     obtain ⟨e,rfl,hd⟩:=d
     exact .kn 2 [4] r (.r0 results134 r ⟨e,r,hd⟩)
   rw [b]
   exact .kn 4 [4] r (.r0 results134 r ⟨false,r,hd⟩)
 rw [a]
 exact .kn 8 [4] r (.r0 results134 r ⟨false,r,hd⟩)
theorem JD {a0 a1 a2:Int} {Q:Int→Prop} (hd:GC a0 a1 a2 Q) :
  BR prog 110 [.int .i64 a0,.int .i64 a1,.int .i64 a2] I (fun _=>kO Q):=by
 refine Fun.en func110 ntmps110 r fun w0 M=>?_
 refine .sr (.kn 1 [2,1,0] r (.seq (.sk 2 r ?_)))
 have c:=XG (I:=I) hd
 refine .cq call134 c r fun d hd=>?_
 refine .kn 1 [10,2,1,0] r (.condP r hd (fun a hd=>?_) fun a hd=>?_)
 · exact .sr (.kn 1 [6] r (.r0 results110 r ⟨0,r,hd⟩))
 refine .sn [2,1,0] r (.sk 1 r (.maxI r r r r (.ks 1 r (.minI r r r r (.ks 3 r ?_)))))
 obtain ⟨b,hd⟩:=hd
 exact .quo r r b r r (.kn 1 [6] r (.r0 results110 r ⟨(AJ ((AJ ((if a1<(if 0 > a2 then 0 else a2) then a1 else (if 0 > a2 then 0 else a2))*a0)).tdiv a1)),r,hd⟩))
theorem qD {a0 a1 a2:Int} {Q:Int→Prop} (hd:cV a0 a1 a2 Q) :
  BR prog 136 [.int .i64 a0,.int .i64 a1,.int .i64 a2] I (fun _=>kO Q):=by
 refine Fun.en func136 ntmps136 r fun w0 M=>?_
 refine .sr (.kn 1 [2,1,0] r (.seq (.sk 2 r ?_)))
 have i:=XG (I:=I) hd
 refine .cq call134 i r fun o hd=>?_
 refine .ks 2 r ?_
 refine AQ hd (fun a hd=>?_) fun a hd=>?_
 · rw [a]
   exact .kn 8 [20,2,1,0] r (.condKT r r (.sr (.kn 1 [6] r (.r0 results136 r ⟨(-1),r,hd⟩))))
 rw [a]
 refine .ks 4 r ?_
 refine AQ hd (fun b hd=>?_) fun b hd=>?_
 · rw [b]
   exact .kn 4 [20,2,1,0] r (.condKT r r (.sr (.kn 1 [6] r (.r0 results136 r ⟨(-1),r,hd⟩))))
 rw [b]
 refine .kn 4 [20,2,1,0] r (.condP r hd (fun e hd=>?_) fun e hd=>?_)
 · exact .sr (.kn 1 [6] r (.r0 results136 r ⟨(-1),r,hd⟩))
 refine .sn [2,1,0] r (.sk 4 r ?_)
 obtain ⟨f,hd⟩:=hd
 refine .quo r r f r r (.kn 1 [7,2,1,0] r (.seq (.block (.lp hd [2,1,0] [] r (fun j E l c=>j ((7,.int .i64 c) :: E) l) (ji rf [] r) ?_))))
 refine fun c k hd=>jq r fun m d=>?_
 refine .seq (.sk 4 r ?_)
 have g:=JD (I:=m) hd
 refine .cq call110 g r fun n hd=>?_
 refine .kn 2 [32,7,2,1,0] r (.condP r hd (fun h hd=>?_) fun h hd=>?_)
 · exact .sn [7,2,1,0] r (.block (.region (.ks 3 r (.nil' (je (AJ (c+1)) hd d [] r)))))
 exact .en [7] r (.sr (.kn 2 [6] r (.r1 results136 r d ⟨c,r,hd⟩)))
theorem iV {a0 a1 a2:Int} {Q:(Int×Int×Int)→Prop} (hd:VW a0 a1 a2 Q) :
  Fun prog 135 #[.int .i64 a0,.int .i64 a1,.int .i64 a2] I [] (fun I_ v l=>∃ r b1 b2 b3,v=.func (.func 211) #[] #[.pointer (some ⟨b1,0,none⟩),.pointer (some ⟨b2,0,none⟩),.pointer (some ⟨b3,0,none⟩)]∧l=[pto b1 (.cells #[.int .i64 r.1] 3 (0,0)),pto b2 (.cells #[.int .i64 r.2.1] 3 (0,0)),pto b3 (.cells #[.int .i64 r.2.2] 3 (0,0))]∧Q r):=by
 refine Fun.en func135 ntmps135 r fun w0 M=>?_
 refine .sr (.box1 r r r r fun b1=>?_)
 refine .box1 r r r r fun b3=>?_
 refine .box1 r r r r fun a=>?_
 exact .ks 1 r (.ns [5,4,3] r (.mkFn r r r r (.kn 1 [6] r (.q1 results135 rf [1,1,0] r ⟨(a1,a0,a2),_,_,_,r,r,hd⟩))))
theorem eJ {o0:Nat} {o1 o2 o3:Int} {o4:List BJ} {o5 o6 o7 o8:Int} {Y:Nat→Int→Int→Int→(List BJ)→Int→Int→((Bool×Nat×(List BJ)×Int)→Prop)→Prop} {Q:(Nat×(List BJ)×Int)→Prop} (hY:∀ {J_:IH},I.le J_→∀ {y22:Nat} {y23:Int} {y25:Int} {y27:Int} {y29:List BJ} {y35:Int} {x37:Int} {p31:Option Addr} {c32:Nat} {Qy:(Bool×Nat×(List BJ)×Int)→Prop},Y y22 y23 y25 y27 y29 y35 x37 Qy→RFun prog lr [.int .i64 x37] J_ [Rr y22,pto b10 (.cells #[.int .i64 y23] 3 (0,0)),pto b11 (.cells #[.int .i64 y25] 3 (0,0)),pto b12 (.cells #[.int .i64 y27] 3 (0,0)),pto b13 (.cells #[.slice p31 y29.length c32] 116 (0,0)),OwnSl CB 129 p31 c32 y29,pto b18 (.cells #[.int .i64 y35] 3 (0,0))] (fun I_ v l=>∃ r p39 c40,v=.bool r.1∧l=[Rr r.2.1,pto b10 (.cells #[.int .i64 y23] 3 (0,0)),pto b11 (.cells #[.int .i64 y25] 3 (0,0)),pto b12 (.cells #[.int .i64 y27] 3 (0,0)),pto b13 (.cells #[.slice p39 r.2.2.1.length c40] 116 (0,0)),OwnSl CB 129 p39 c40 r.2.2.1,pto b18 (.cells #[.int .i64 r.2.2.2] 3 (0,0))]∧Qy r)) (hd:QX o0 o1 o2 o3 o4 o5 o6 o7 o8 Y Q) :
  Fun prog 211 #[.func (.yield lr) #[] #[],.pointer (some ⟨b19,0,none⟩),.pointer (some ⟨b20,0,none⟩),.pointer (some ⟨b21,0,none⟩)] I [Rr o0,pto b10 (.cells #[.int .i64 o1] 3 (0,0)),pto b11 (.cells #[.int .i64 o2] 3 (0,0)),pto b12 (.cells #[.int .i64 o3] 3 (0,0)),pto b13 (.cells #[.slice p14 o4.length c15] 116 (0,0)),OwnSl CB 129 p14 c15 o4,pto b18 (.cells #[.int .i64 o5] 3 (0,0)),pto b19 (.cells #[.int .i64 o6] 3 (0,0)),pto b20 (.cells #[.int .i64 o7] 3 (0,0)),pto b21 (.cells #[.int .i64 o8] 3 (0,0))] (fun I_ v l=>∃ r p23 c24,v=.tuple #[]∧l=[Rr r.1,pto b10 (.cells #[.int .i64 o1] 3 (0,0)),pto b11 (.cells #[.int .i64 o2] 3 (0,0)),pto b12 (.cells #[.int .i64 o3] 3 (0,0)),pto b13 (.cells #[.slice p23 r.2.1.length c24] 116 (0,0)),OwnSl CB 129 p23 c24 r.2.1,pto b18 (.cells #[.int .i64 r.2.2] 3 (0,0)),pto b19 (.cells #[.int .i64 o6] 3 (0,0)),pto b20 (.cells #[.int .i64 o7] 3 (0,0)),pto b21 (.cells #[.int .i64 o8] 3 (0,0))]∧Q r):=by
 refine Fun.en func211 ntmps211 r fun w0 M=>?_
 refine .sr (.kn 1 [5,3,2,1,0] r (.seq (.sr (.lo BF .p7 r (.kn 1 [12,11,5,3,2,1,0] r (.block (.own0 AE 3 (.lx hd [11,3,2,1,0] [2,2,2,2,2,2,2,2,2,1] r (fun j E l (h,B)=>fun c w=>∃ C D,j ⟨56,[],none⟩ (fun I_=>True) ((5,.slice C h.length D) :: (12,.int .i64 B) :: E) (OwnSl AE 3 C D h :: l) c w) (fun c w ho hs=>⟨_,_,jf rf trivial [0,1,1,1,1,1,1,1,1,1,0] r ho hs⟩) ?_))))))))
 rintro ⟨h,B⟩ b6 hd c w ⟨C,D,b3,H,_,hok,hsym⟩
 refine Cod.at hok hsym (.sr (.kn 1 [13,12,11,5,3,2,1,0] r (.seq (.condP r hd (fun R hd=>?_) fun R hd=>?_))))
 · refine .sn [12,11,5,3,2,1,0] r (.seq (.block (.sr (.kn 2 [6,12,11,5,3,2,1,0] r (.region (.ks 1 r (.lo BF .p8 r (.lo BF .p7 r (.ks 2 r ?_)))))))))
   have S:=JD (I:=b3) hd
   refine .cq call110 S r fun K hd=>?_
   refine .buildSlice 1 BT EX nL r r (.c r r r .n) r r fun c0=>?_
   obtain ⟨U,hd⟩:=hd
   refine .append (ys:=[K]) 8 .p1 BT BT IN3 r r r r r r r r r (.box .z (.one r) r) U r r fun c1 c2=>?_
   exact .kn 1 [5,12,11,3,2,1,0] r (.drop .p1 (.region (.ks 2 r (.nil' fun c w ho hs=>⟨((h++([K])),AJ (B+1)),hd,_,_,jf H trivial [0,0,0,0,0,0,0,0,0,0,0] r ho hs⟩))))
 refine .en [5,3,2,1,0] r (.seq (.sr (.lo BF .p9 r (.kn 1 [25,24,5,3,2,1,0] r (.block (.lx hd [24,3,2,1,0] [1,1,1,1,1,1,1,1,1,1] r (fun j E l (i,F)=>fun c w=>∃ k m,j ⟨56,[],none⟩ (fun I_=>True) ((5,.slice k i.length m) :: (25,.int .i64 F) :: E) (OwnSl AE 3 k m i :: l) c w) (fun c w ho hs=>⟨_,_,jf rf trivial [0,0,0,0,0,0,0,0,0,0,0] r ho hs⟩) ?_))))))
 rintro ⟨i,F⟩ b7 hd c w ⟨k,m,L,p,_,hok,hsym⟩
 have V:=p.u1 H
 refine Cod.at hok hsym (.sr (.kn 1 [26,25,24,5,3,2,1,0] r (.seq (.condP r hd (fun W hd=>?_) fun W hd=>?_))))
 · refine .sn [25,24,5,3,2,1,0] r (.seq (.block (.sr (.kn 2 [7,25,24,5,3,2,1,0] r (.region (.ks 1 r (.lo BF .p8 r (.lo BF .p9 r (.ks 2 r ?_)))))))))
   have X:=JD (I:=L) hd
   refine .cq call110 X r fun N hd=>?_
   refine .buildSlice 1 BT EX nL r r (.c r r r .n) r r fun c3=>?_
   obtain ⟨Z,hd⟩:=hd
   refine .append (ys:=[N]) 8 .p1 BT BT IN3 r r r r r r r r r (.box .z (.one r) r) Z r r fun c4 c5=>?_
   exact .kn 1 [5,25,24,3,2,1,0] r (.drop .p1 (.region (.ks 2 r (.nil' fun c w ho hs=>⟨((i++([N])),AJ (F+1)),hd,_,_,jf p trivial [0,0,0,0,0,0,0,0,0,0,0] r ho hs⟩))))
 refine .en [5,3,2,1,0] r (.sk 1 r ?_)
 have a0:=Fun.sortI (he:=fun _=>⟨r,r⟩) AjP (I:=L) (T:=3) (a:=k) (cap:=m) hd
 refine .callS (.f call212 r) (.o [0] r) a0 r r fun c6 c7 c8 a1 a2=>?_
 obtain ⟨c9,rfl,J,rfl,hd⟩:=a2
 obtain ⟨a3,a4⟩:=a1.u2 V p
 refine .rl .z [5,37] r (by rw [J]) (.nk [5,3,2,1,0] 1 r (.nk [8,5,3,2,1,0] 1 r (.ln BT r (.kn 1 [41,40,39,8,3,2,1,0] r (.block (.lx hd [40,39,3,2,1,0] [1,1,1,4,4,4,0] r (fun j E l (b,e,O,q,g)=>fun c w=>∃ s t,j ⟨56,[],none⟩ (fun I_=>True) ((8,.int .i64 O) :: (41,.int .i64 q) :: E) (pto b13 (.cells #[.slice s b.length t] 116 (0,0)) :: OwnSl CB 129 s t b :: pto b18 (.cells #[.int .i64 e] 3 (0,0)) :: Rr g :: l) c w) (fun c w ho hs=>⟨_,_,jf rf trivial [4,4,4,7,1,1,1,1,1,1,0] r ho hs⟩) ?_))))))
 rintro ⟨b,e,O,q,g⟩ b8 hd c w ⟨s,t,b4,u,_,hok,hsym⟩
 obtain ⟨x,a5⟩:=u.u2 a3 a4
 refine Cod.at hok hsym (.sr (.kn 1 [42,41,40,39,8,3,2,1,0] r (.seq (.condP r hd (fun a6 hd=>?_) fun a6 hd=>?_))))
 · refine .sn [41,40,39,8,3,2,1,0] r (.seq (.block (.sr ?_)))
   obtain ⟨P,G,y,hd⟩:=hd
   refine .ownNe (.o 10 r) (DO y) fun d0 b5=>?_
   cases b5
   refine .ixa0 BT EX r r P (AH y P) r r (.lo1 (j:=0) BF (.o 10 r) y r r r r r (.kn 1 [10,41,40,39,8,3,2,1,0] r (.seq (.sk 4 r ?_))))
   refine AQ hd (fun A hd=>?_) fun A hd=>?_
   · rw [A]
     refine .ks 2 r ?_
     have a7:=hY (J_:=b4) x (y22:=g) (y23:=o1) (y25:=o2) (y27:=o3) (y29:=b) (y35:=e) (x37:=G) (p31:=s) (c32:=t) hd
     refine .yes r (.callY r r (.o [3,3,3,3,0,0,0] r) a7 r r fun d1 d2 d3 a8 a9=>?_)
     obtain ⟨d,d4,d5,rfl,rfl,hd⟩:=a9
     obtain ⟨b0,b9,b1⟩:=a8.u3 x a5 u
     refine .rn 11 r (.kn 2 [53,10,41,40,39,3,2,1,0] r (.condP r hd (fun b2 hd=>?_) fun b2 hd=>?_))
     · exact .ret (KG results211 .n b0 (.o [0,0,0,0,0,0,0,0,0,0] r) ⟨(d.2.1,d.2.2.1,d.2.2.2),_,_,r,r,hd⟩)
     exact .sn [10,41,40,39,3,2,1,0] r (.region (.kn 2 [8,41,40,39,3,2,1,0] r (.region (.ks 2 r (.nil' fun c w ho hs=>⟨(d.2.2.1,d.2.2.2,G,AJ (q+1),d.2.1),hd,_,_,jf b1 trivial [4,4,4,0,0,0,0,0,0,0,0] r ho hs⟩)))))
   rw [A]
   exact .kn 5 [53,10,41,40,39,3,2,1,0] r (.condKF r r (.sn [10,41,40,39,3,2,1,0] r (.region (.kn 2 [8,41,40,39,3,2,1,0] r (.region (.ks 2 r (.nil' fun c w ho hs=>⟨(b,e,G,AJ (q+1),g),hd,_,_,jf u trivial [0,0,0,0,0,0,0,0,0,0,0] r ho hs⟩)))))))
 exact .exit (RF results211 .n x (.o [3,3,3,3,0,0,0,0,0,0] r) ⟨(g,b,e),_,_,r,r,hd⟩)
theorem iW {a0 a1 a2:Int} {Q:(List BJ)→Prop} (hd:LR a0 a1 a2 Q) :
  BR prog 69 [.int .i64 a0,.int .i64 a1,.int .i64 a2] I (Ak5 Q):=by
 refine Fun.en func69 ntmps69 r fun w0 M=>?_
 refine .marks0 (.sr (.box1 r r r r fun b10=>?_))
 refine .box1 r r r r fun b12=>?_
 refine .box1 r r r r fun K=>?_
 refine .kn 1 [5,4,3] r (.seq (.sr (.lo BF .p2 r (.lo BF .p1 r ?_))))
 have x:=XG (I:=I) hd
 refine .cq call134 x r fun b0 hd=>?_
 refine .ks 2 r ?_
 refine AQ hd (fun a hd=>?_) fun a hd=>?_
 · rw [a]
   exact .kn 5 [19,5,4,3] r (.condKT r r (.sr (.kn 1 [6] r (.drop .z (.drop .z (.drop .z (.ret (tR .z results69 (.t r .n) rf ⟨([]:List BJ),_,_,r,(.nil _ _ _),hd⟩))))))))
 rw [a]
 refine .yes r (.lo BF .p2 r (.yes r (.lo BF .z r ?_)))
 have y:=XG (I:=I) hd
 refine .yes r (.callP call134 r y r r fun b1 A=>?_)
 obtain ⟨b2,rfl,hd⟩:=A
 refine .kn 2 [19,5,4,3] r (.condP r hd (fun B hd=>?_) fun B hd=>?_)
 · exact .sr (.kn 1 [6] r (.drop .z (.drop .z (.drop .z (.ret (tR .z results69 (.t r .n) rf ⟨([]:List BJ),_,_,r,(.nil _ _ _),hd⟩))))))
 refine .sn [5,4,3] r (.sr (.alloc1 zeroValue116 r r r fun L=>?_))
 refine .ns [7,5,4,3] r (.alloc1 nL r r r fun N=>?_)
 refine .s1 EX .z r (.no [8,7,5,4,3] r (.seq (.sr (.lo BF .p4 r (.lo BF .p3 r (.lo BF .p2 r ?_))))))
 have C:=iV (I:=I) (a0:=a0) (a1:=a1) (a2:=a2) hd
 refine .callS (.f call135 r) .n C r r fun b3 O b4 E F=>?_
 obtain ⟨d,P,R,S,rfl,rfl,hd⟩:=F
 refine .rn 9 r (.no [23,8,7,5,4,3] r (.block (.own0 CB 129 (.rangeF [] r call211 (.o [9,8,7,6,5,0,3,0,0,0] r) fun lr D rc hrc=>?_))))
 refine ⟨_,eJ (I:=O) (lr:=lr) (Rr:=bI lr [] rc) (o0:=0) (o1:=a0) (o2:=a1) (o3:=a2) (o4:=([]:List BJ)) (o5:=0) (o6:=d.1) (o7:=d.2.1) (o8:=d.2.2) (b10:=b10) (b11:=b12) (b12:=K) (b13:=L) (p14:=none) (c15:=0) (b18:=N) (b19:=P) (b20:=R) (b21:=S) ?_ hd,?_⟩
 · skip
   intro I hJ T U V W G e b X Y Qy  hd
   obtain ⟨rfl,hd⟩:=hd
   refine RFun.mk hrc r fun w0 M=>?_
   refine .region (.ks 1 r (.nil' fun c w ho hs=>qK (E':=[(3,_),(4,_),(5,_),(7,_),(8,_),(9,_)]) ho ⟨r,r,r,r,r,r,trivial⟩ hs .z (.block (.seq (.dr [0,1,2,3,4,5,7,8,9,6,10,11,12,13] 14 (.h r (fun _=>.lo aS .p4 r .mk) (.h r (fun _=>.lo BF .p6 r .mk) (.fk 1 r (.h r (fun _=>.lo BF .p1 r .mk) ?_)))))))))
   refine .h r (fun _=>.lo BF .p2 r .mk) (.h r (fun _=>.lo BF .p6 r .mk) (.h r (fun _=>.lo BF .p1 r .mk) (.h r (fun _=>.lo BF .p3 r .mk) (.h r (fun _=>.lo BF .p6 r .mk) (.ww r fun ex=>?_)))))
   have k:=qD (I:=I) hd
   refine .cq call136 k r fun g hd=>?_
   refine .so 7 r r r (.ch r (fun _=>.lo BF .p6 r .mk) (.ch r (fun _=>.lo BF .p3 r .mk) (.ch r (fun _=>.lo BF .p1 r .mk) (.ck 1 r r (.ch r (fun _=>.lo BF .p6 r .mk) (.ch r (fun _=>.lo aS .p4 r .mk) trivial)))))) (.ww r fun ex=>?_)
   have l:=qD (I:=I) hd
   refine .cq call136 l r fun j hd=>?_
   refine .so 7 r r r (.ck 1 r r (.ch r (fun _=>.lo BF .p6 r .mk) (.ch r (fun _=>.lo aS .p4 r .mk) trivial))) (.h r (fun _=>.build AdN underlying129 AjC (.c r r r (.o r) (.c r r r (.o r) (.c r r r (.o r) (.c r r r (.o r) .n)))) (by exact ⟨⟨_,_,r,r,r⟩,⟨⟨_,_,r,r,r⟩,⟨⟨_,_,r,r,r⟩,⟨⟨_,_,r,r,r⟩,trivial⟩⟩⟩⟩) r r .mk) (.ww r fun ex=>?_))
   refine .buildSlice 1 dC kT AdN r r (.c r r r .n) r r fun Z=>?_
   refine .so 8 r r r (.ch r (fun _=>.lo aS .p5 r .mk) trivial) (.ww r fun ex=>?_)
   obtain ⟨m,hd⟩:=hd
   refine .append (ys:=[({ From:=e,To:=b,Row:=g,Col:=j }:BJ)]) 32 .p6 dC dC AjB r r r r r r r r r (.box .z (.one r) r) m r r fun a3 a4=>?_
   refine .so 8 r r r trivial (.e2 14 (.s1 sizeOf116 .p6 r (.no [9,8] r (.drop .p1 (.region (.ks 1 r (.s1 EX .p6 r ?_)))))))
   exact .nil' fun c w ho hs=>AfP 0 (.inl rfl) rf .p1 (.o [1,1,1,1,0,0] rfl) ⟨(true,0,(G++([({ From:=e,To:=b,Row:=g,Col:=j }:BJ)])),b),_,_,rfl,rfl,hd⟩ hs
 intro a5 a6 l' p q
 obtain ⟨H,a7,a8,rfl,rfl,hd⟩:=q
 have s:=p.u1 E
 obtain ⟨hz,hd⟩:=hd
 refine ⟨_,_,r,fun hj=>?_,fun i hj=>absurd (hz.symm.trans hj) (by simp)⟩
 refine .rn 10 r (.mkS [7] r r (.drop .p1 (.drop .p1 (.drop .p1 (.drop .p3 (.drop .p3 (.drop .p3 (.drop .p3 (.sr ?_)))))))))
 refine .lo aS .p1 r (.kn 1 [6] r (.drop .p1 (.pub .p1 fun a9 u J=>?_)))
 have v:=u.u1 s
 exact .ret (tR .z results69 (.t r .n) v ⟨H.2.1,_,_,r,J,hd⟩)
theorem mM {a0 a1:Int} {Q:Int→Prop} (hd:WA a0 a1 Q) :
  BR prog 70 [.int .i64 a0,.int .i64 a1] I (fun _=>kO Q):=by
 refine Fun.en func70 ntmps70 r fun w0 M=>?_
 refine .sr (.kn 1 [1,0] r (.seq (.sk 1 r ?_)))
 have c:=YW (I:=I) hd
 refine .cq call137 c r fun f hd=>?_
 refine .ks 2 r ?_
 refine AQ hd (fun a hd=>?_) fun a hd=>?_
 · rw [a]
   exact .kn 9 [17,1,0] r (.condKT r r (.sr (.kn 1 [4] r (.r0 results70 r ⟨(-1),r,hd⟩))))
 rw [a]
 refine .ks 4 r ?_
 refine AQ hd (fun b hd=>?_) fun b hd=>?_
 · rw [b]
   exact .kn 5 [17,1,0] r (.condKT r r (.sr (.kn 1 [4] r (.r0 results70 r ⟨(-1),r,hd⟩))))
 rw [b]
 refine .kn 5 [17,1,0] r (.condP r hd (fun d hd=>?_) fun d hd=>?_)
 · exact .sr (.kn 1 [4] r (.r0 results70 r ⟨(-1),r,hd⟩))
 refine .sn [1,0] r (.sk 2 r ?_)
 obtain ⟨e,hd⟩:=hd
 exact .quo r r e r r (.kn 1 [4] r (.r0 results70 r ⟨(AJ (a1.tdiv a0)),r,hd⟩))
theorem Aa0 {a0 a1:Int} {Q:Int→Prop} (hd:Y8 a0 a1 Q) :
  BR prog 71 [.int .i64 a0,.int .i64 a1] I (fun _=>kO Q):=by
 refine Fun.en func71 ntmps71 r fun w0 M=>?_
 refine .sr (.kn 1 [1,0] r (.seq (.sk 2 r ?_)))
 have a:=mM (I:=I) hd
 refine .cq call70 a r fun d hd=>?_
 refine .kn 1 [8,1,0] r (.condP r hd (fun b hd=>?_) fun b hd=>?_)
 · exact .sr (.kn 1 [4] r (.r0 results71 r ⟨(-1),r,hd⟩))
 refine .sn [1,0] r (.sk 2 r ?_)
 obtain ⟨c,hd⟩:=hd
 exact .rem r r c r r (.kn 1 [4] r (.r0 results71 r ⟨(a1.tmod a0),r,hd⟩))
theorem eK {a0:Int} {Q:Bool→Prop} (hd:TH a0 Q) :
  BR prog 213 [.int .i64 a0] I (fun _=>dA Q):=by
 refine Fun.en func213 ntmps213 r fun w0 M=>?_
 refine .sk 1 r (.nk [0] 3 r ?_)
 refine AQ hd (fun a hd=>?_) fun a hd=>?_
 · rw [a]
   exact .kn 4 [2] r (.r0 results213 r ⟨(decide (a0≤8)),r,hd⟩)
 rw [a]
 exact .kn 4 [2] r (.r0 results213 r ⟨false,r,hd⟩)
theorem sX {a0 a1 a2 a3:Int} {Q:Bool→Prop} (hd:WY a0 a1 a2 a3 Q) :
  BR prog 138 [.int .i64 a0,.int .i64 a1,.int .i64 a2,.int .i64 a3] I (fun _=>dA Q):=by
 refine Fun.en func138 ntmps138 r fun w0 M=>?_
 refine .sk 1 r (.nk [3,2,1,0] 1 r ?_)
 have f:=eK (I:=I) hd
 refine .cq call213 f r fun i hd=>?_
 refine .ks 1 r ?_
 refine AQ hd (fun e hd=>?_) fun e hd=>?_
 · rw [e]
   refine .ks 1 r ?_
   have g:=eK (I:=I) hd
   refine .yes r (.callP call213 r g r r fun j h=>?_)
   obtain ⟨k,rfl,hd⟩:=h
   refine .ks 2 r ?_
   refine AQ hd (fun a hd=>?_) fun a hd=>?_
   · rw [a]
     refine .ks 4 r ?_
     refine AQ hd (fun b hd=>?_) fun b hd=>?_
     · rw [b]
       refine .ks 5 r ?_
       refine AQ hd (fun c hd=>?_) fun c hd=>?_
       · rw [c]
         refine .ks 4 r ?_
         refine AQ hd (fun d hd=>?_) fun d hd=>?_
         · rw [d]
           exact .kn 5 [8] r (.r0 results138 r ⟨(decide (a3<a1)),r,hd⟩)
         rw [d]
         exact .kn 5 [8] r (.r0 results138 r ⟨false,r,hd⟩)
       rw [c]
       exact .kn 9 [8] r (.r0 results138 r ⟨false,r,hd⟩)
     rw [b]
     exact .kn 14 [8] r (.r0 results138 r ⟨false,r,hd⟩)
   rw [a]
   exact .kn 18 [8] r (.r0 results138 r ⟨false,r,hd⟩)
 rw [e]
 exact .kn 22 [8] r (.r0 results138 r ⟨false,r,hd⟩)
theorem iJ {a0 a1:Int} {Q:Rows→Prop} (hd:WB a0 a1 Q) :
  nB prog 247 [.int .i64 a0,.int .i64 a1] I (fun _=>o6_ Q):=by
 refine Fun.en func247 ntmps247 r fun w0 M=>?_
 refine .sr (.al FO r fun d=>?_)
 refine .nk [4,1,0] 4 r ?_
 obtain ⟨a,b,hd⟩:=hd
 refine .make (El:=AE) (zv:=0) 8 BT IN3 r r r r r r a b r r r fun e=>?_
 exact .build FO OQ OP (.c r r r (.o r) (.c r r r (.o r) (.c r r r (.o r) .n))) (by exact ⟨⟨_,_,r,r,r⟩,⟨⟨_,_,r,r,r⟩,⟨⟨_,_,r,r,r⟩,trivial⟩⟩⟩) r r (.sa BH .p1 r (.no [4] r (.own0 AE 3 (.own0 AE 2 (.ret (KG results247 (.w CF BH r .p3 r .n) rf (.o [2,1,0] r) ⟨({ Rows:=a0,Cols:=a1,Start:=(List.replicate (AJ (a0+1)).toNat 0),Col:=([]:List Int),Val:=([]:List Int) }:Rows),_,_,_,_,_,_,r,r,hd⟩))))))
theorem YX {a0 a1:Int} {a2:List AD} {Q:Rows→Prop} (R3:RepSl BV I p1 c2 a2) (hd:PA a0 a1 a2 Q) :
  BR prog 194 [.int .i64 a0,.int .i64 a1,.slice p1 a2.length c2] I (o7_ Q):=by
 refine Fun.en func194 ntmps194 r fun w0 M=>?_
 refine .sr (.al FO r fun f4=>?_)
 refine .nk [6,2,1,0] 2 r ?_
 have c3:=iJ (I:=I) hd
 refine .callO call247 r c3 r r fun f5 f6 f7 S c4=>?_
 obtain ⟨d,f8,f9,g0,g1,g2,g3,rfl,rfl,hd⟩:=c4
 have R3:=S.u1 R3
 refine .al FO r fun L=>?_
 refine .sa BH .z r (.no [7,6,2,0] r (.seq (.sk 1 r (.ln JG r (.kn 1 [16,15,14,7,6,0] r (.block (.lx hd [15,14,7,6,0] [4] r (fun j E l (p,a,b,C)=>fun c w=>∃ D t e f g i,j ⟨63,[],none⟩ (fun I_=>True) ((16,.int .i64 C) :: E) (pto L (.cells #[.int .i64 d.Rows,.int .i64 d.Cols,.slice D p.length t,.slice e a.length f,.slice g b.length i] 33 (0,0)) :: OwnSl AE 3 D t p :: OwnSl AE 3 e f a :: OwnSl AE 2 g i b :: l) c w) (fun c w ho hs=>⟨_,_,_,_,_,_,jf rf trivial [0,0,0,0,0] r ho hs⟩) ?_)))))))
 rintro ⟨p,a,b,C⟩ d1 hd c w ⟨D,t,e,f,g,i,d8,u,_,hok,hsym⟩
 obtain ⟨a3,R3⟩:=u.u2 S R3
 refine Cod.at hok hsym (.sr (.kn 1 [17,16,15,14,7,6,0] r (.seq (.condP r hd (fun a4 hd=>?_) fun a4 hd=>?_))))
 · refine .sn [16,15,14,7,6,0] r (.seq (.block (.sr ?_)))
   obtain ⟨T,k,N,hd⟩:=hd
   obtain ⟨d9,o448,d5,c5,a5,a6⟩:=R3.2 _ _ N
   cases a6
   refine .ixa JG KD r c5 r T (AH N T) r r (.ldW isAgg103 KD a5 r r r r (.al RK r fun e0=>?_))
   refine .sa KD .z r (.nk [9,16,15,14,7,6,0] 1 r (.lo GS .p1 r (.ks 1 r (.lo BF .z r (.ks 1 r ?_)))))
   obtain ⟨U,F,v,hd⟩:=hd
   refine .ownNe .p2 (DO v) fun c6 c7=>?_
   cases c7
   refine .ixa0 BT EX r r U (AH v U) r r (.lo1 (j:=0) BF .p2 v r r r r r (.ks 1 r ?_))
   obtain ⟨V,e1,O,hd⟩:=hd
   refine .ixa0 BT EX r r V (AH O V) r r (.stO1 (j:=0) (v':=(AJ (F+1))) EX .p2 O r r r (.o r) r (.rl .p2 [21] r (by simp only [List.length_set]) (.reat .p1 (B:=pto L (.cells #[.int .i64 d.Rows,.int .i64 d.Cols,.slice (some ⟨c6,0,none⟩) (p.set ((AJ (k.Row+1)).toNat) (AJ (F+1))).length t,.slice e a.length f,.slice g b.length i] 33 (0,0))) (by simp only [List.length_set]) (.nk [9,16,15,14,7,6,0] 1 r (.lo GS .p1 r (.ks 1 r (.lo BF .z r (.buildSlice 1 BT EX nL r r (.c r r r .n) r r fun e3=>?_))))))))
   obtain ⟨a7,hd⟩:=hd
   refine .append (ys:=[k.Col]) 8 .p4 BT BT IN3 r r r r r r r r r (.box .z (.one r) r) a7 r r fun e4 e5=>?_
   refine .ks 1 r (.s1 iO .p3 r (.no [9,16,15,14,7,6,0] r (.drop .p1 (.region (.ks 1 r (.lo qQ .p2 r (.ks 1 r (.lo UT .p1 r (.buildSlice 1 X2 sz2 zeroValue2 r r (.c r r r .n) r r fun e6=>?_)))))))))
   obtain ⟨a8,hd⟩:=hd
   refine .append (ys:=[k.Val]) 8 .p5 X2 X2 IN2 r r r r r r r r r (.box .z (.one r) r) a8 r r fun e7 e8=>?_
   exact .ks 1 r (.s1 sizeOf31 .p4 r (.no [16,15,14,7,6,0] r (.drop .p1 (.drop .p2 (.region (.ks 2 r (.nil' fun c w ho hs=>⟨((p.set ((AJ (k.Row+1)).toNat) (AJ (F+1))),(a++([k.Col])),(b++([k.Val])),AJ (C+1)),hd,_,_,_,_,_,_,jf u trivial [2,2,1,0,0] r ho hs⟩)))))))
 refine .en [7,6,0] r (.seq (.sr (.kn 2 [45,44,7,6] r (.block (.lx hd [44,7,6] [4,2,2] r (fun j E l (m,q)=>fun c w=>∃ G x,j ⟨63,[],none⟩ (fun I_=>True) ((45,.int .i64 q) :: E) (pto L (.cells #[.int .i64 d.Rows,.int .i64 d.Cols,.slice G m.length x,.slice e a.length f,.slice g b.length i] 33 (0,0)) :: OwnSl AE 3 G x m :: l) c w) (fun c w ho hs=>⟨_,_,jf rf trivial [0,0,2,0,0] r ho hs⟩) ?_)))))
 rintro ⟨m,q⟩ d2 hd c w ⟨G,x,e9,y,_,hok,hsym⟩
 obtain ⟨a9,b0⟩:=y.u2 a3 u
 refine Cod.at hok hsym (.sr (.kn 1 [46,45,44,7,6] r (.seq (.condP r hd (fun b1 hd=>?_) fun b1 hd=>?_))))
 · refine .sn [45,44,7,6] r (.seq (.block (.sr (.kn 2 [10,45,44,7,6] r (.ownF .p1 fun W=>?_)))))
   refine .ownF .p3 fun d3=>?_
   refine .ownF .p4 fun d4=>?_
   refine .dr [0,1,2,3,4,5,6,7,8,9,10,11] 12 (.fk 1 r (.h r (fun _=>.lo GS .z r .mk) (.fk 2 r ?_)))
   obtain ⟨X,H,A,hd⟩:=hd
   obtain ⟨c8,c9⟩:=W (DO A)
   cases c9
   refine .h r (fun _=>.ixa0 BT EX r r X (AH A X) r r .mk) (.h r (fun _=>.lo1 (j:=0) BF .p1 A r r r r r .mk) (.fk 1 r (.h r (fun _=>.lo GS .z r .mk) (.fk 1 r ?_))))
   obtain ⟨Y,J,P,hd⟩:=hd
   refine .h r (fun _=>.ixa0 BT EX r r Y (AH P Y) r r .mk) (.h r (fun _=>.lo1 (j:=0) BF .p1 P r r r r r .mk) (.fk 1 r (.e2 12 ?_)))
   obtain ⟨Z,f0,R,hd⟩:=hd
   exact .ixa0 BT EX r r Z (AH R Z) r r (.stO1 (j:=0) (v':=(AJ (H+J))) EX .p1 R r r r (.o r) r (.rl .p1 [49,55] r (by simp only [List.length_set]) (.reat .z (B:=pto L (.cells #[.int .i64 d.Rows,.int .i64 d.Cols,.slice (some ⟨c8,0,none⟩) (m.set ((AJ (q+1)).toNat) (AJ (H+J))).length x,.slice e a.length f,.slice g b.length i] 33 (0,0))) (by simp only [List.length_set]) (.no [45,44,7,6] r (.region (.ks 2 r (.nil' fun c w ho hs=>⟨((m.set ((AJ (q+1)).toNat) (AJ (H+J))),AJ (q+1)),hd,_,_,jf y trivial [0,0,0,0,0] r ho hs⟩)))))))
 refine .en [7,6] r (.sr (.lw CF BH .z r (.sa BH .p2 r (.no [6] r (.drop .z (.pub .z fun f1 b2 s=>?_))))))
 obtain ⟨b3,b4,b5⟩:=b2.u3 a9 b0 y
 refine .pub .p1 fun f2 b6 K=>?_
 obtain ⟨b7,b8,b9,s⟩:=b6.u4 b3 b4 b5 s
 refine .pub .p1 fun f3 c0 d0=>?_
 obtain ⟨c1,d6,d7,s,K⟩:=c0.u5 b7 b8 b9 s K
 exact .ret (BS results194 (.w CF BH r .z r .n) c1 ⟨({ Rows:=d.Rows,Cols:=d.Cols,Start:=m,Col:=a,Val:=b }:Rows),_,_,_,_,_,_,r,s,K,d0,hd⟩)
theorem bT {a0:Rows} {Q:Rows→Prop} (R3:RepSl AE I p1 c2 a0.Start) (R6:RepSl AE I p4 c5 a0.Col) (R9:RepSl AE I p7 c8 a0.Val) (hd:WC a0 Q) :
  BR prog 214 [.agg #[.int .i64 a0.Rows,.int .i64 a0.Cols,.slice p1 a0.Start.length c2,.slice p4 a0.Col.length c5,.slice p7 a0.Val.length c8]] I (AhV Q):=by
 refine Fun.en func214 ntmps214 r fun w0 M=>?_
 refine .sr (.bx r fun q=>?_)
 refine .al FO r fun s=>?_
 refine .no [2,1] r (.seq (.sr (.lw CF BH .p1 r ?_)))
 have c:=NE (I:=I) R3 R6 R9 hd
 refine .cq call101 c r fun t hd=>?_
 refine .no [4,2,1] r (.condP r hd (fun d hd=>?_) fun d hd=>?_)
 · exact .sr (.lw CF BH .p1 r (.sa BH .z r (.no [2] r (.drop .p1 (.ret (BS results214 (.w CF BH r .z r .n) rf ⟨a0,_,_,_,_,_,_,r,R3,R6,R9,hd⟩))))))
 refine .sn [2] r (.drop .p1 (.sr ?_))
 have e:=iJ (I:=I) hd
 refine .callO call247 r e r r fun u v x f g=>?_
 obtain ⟨o,y,A,B,C,D,E,rfl,rfl,hd⟩:=g
 refine .sa BH .p3 r (.no [2] r (.pub .z fun F h a=>?_))
 have i:=h.u1 f
 refine .pub .z fun G j b=>?_
 obtain ⟨k,a⟩:=j.u2 i a
 refine .pub .z fun H l p=>?_
 obtain ⟨m,a,b⟩:=l.u3 k a b
 exact .ret (BS results214 (.w CF BH r .z r .n) m ⟨o,_,_,_,_,_,_,r,a,b,p,hd⟩)
theorem eL {a0:Int×Int} {a1:Int} {Q:(Int×Int)→Prop} (hd:TI a0 a1 Q) :
  BR prog 215 [.agg #[.int .i64 a0.1,.int .i64 a0.2],.int .i64 a1] I (fun _=>AhW Q):=by
 refine Fun.en func215 ntmps215 r fun w0 M=>?_
 refine .sr (.bx r fun b=>?_)
 refine .ks 2 r (.ns [2,1] r (.ixArr (i:=0) OC EX r r (by decide) (o:=0) r r r (.lo BF .z r (.maxI r r r r (.ks 1 r (.ns [6,2,1] r (.ixArr (i:=1) OC EX r r (by decide) (o:=1) r r r (.lo BF .z r (.ks 1 r ?_)))))))))
 refine .minI r r r r (.kn 1 [7,6] r (.drop .z (.seq (.sr (.kn 3 [17,7,6] r (.condP r hd (fun a hd=>?_) fun a hd=>?_))))))
 · exact .sr (.kn 3 [5,4] r (.ret (BS results215 (.t r (.t r .n)) rf ⟨((if 0 > a0.1 then 0 else a0.1),0),r,hd⟩)))
 exact .sn [7,6] r (.sr (.kn 6 [5,4] r (.ret (BS results215 (.t r (.t r .n)) rf ⟨((if 0 > a0.1 then 0 else a0.1),AJ ((if a1<a0.2 then a1 else a0.2) - (if 0 > a0.1 then 0 else a0.1))),r,hd⟩))))
theorem mO {a0:Rows} {a1:Int} {Q:((List Int)×(List Int))→Prop} (R3:RepSl AE I p1 c2 a0.Start) (R6:RepSl AE I p4 c5 a0.Col) (R9:RepSl AE I p7 c8 a0.Val) (hd:Y9 a0 a1 Q) :
  BR prog 217 [.agg #[.int .i64 a0.Rows,.int .i64 a0.Cols,.slice p1 a0.Start.length c2,.slice p4 a0.Col.length c5,.slice p7 a0.Val.length c8],.int .i64 a1] I (AjJ Q):=by
 refine Fun.en func217 ntmps217 r fun w0 M=>?_
 refine .sr (.bx r fun G=>?_)
 refine .kn 2 [2,1] r (.seq (.dr [0,1,2,3,4,5,6,7,8,9,10,11] 12 (.fk 1 r (.h r (fun _=>.lo GS .z r .mk) (.fk 1 r ?_)))))
 obtain ⟨e,b,c,hd⟩:=hd
 obtain ⟨J,o42,E,s,m,o⟩:=R3.2 _ _ c
 cases o
 refine .h r (fun _=>.ixa BT EX r s r e (AH c e) r r .mk) (.h r (fun _=>.ld1 (j:=0) BF m r r r r r .mk) (.fk 1 r (.h r (fun _=>.lo GS .z r .mk) (.fk 2 r ?_))))
 obtain ⟨f,a,d,hd⟩:=hd
 obtain ⟨K,o51,F,u,p,q⟩:=R3.2 _ _ d
 cases q
 refine .h r (fun _=>.ixa BT EX r u r f (AH d f) r r .mk) (.h r (fun _=>.ld1 (j:=0) BF p r r r r r .mk) (.fk 1 r (.e2 12 (.kn 1 [7,6,2] r (.seq (.dr [0,1,2,3,4,5,6,7,8,9,10,11,12] 13 (.fk 1 r (.h r (fun _=>.lo GS .z r .mk) (.fk 3 r ?_)))))))))
 obtain ⟨v,N,O,hd⟩:=hd
 have g:Int.toNat b≤Int.toNat a:=by omega
 have i:Int.toNat a≤a0.Col.length:=by omega
 obtain ⟨P,R,w,x,y⟩:=RepSl.sliceW R6 (Int.toNat b) (Int.toNat a) (Int.toNat a) g i (.inr rfl)
 refine .h r (fun _=>.sliceW (L:=Int.toNat b) (H:=Int.toNat a) (cm:=Int.toNat a) BT EX r r R6.1 r r r (.inr ⟨_,_,r,v,r⟩) (.inr ⟨_,_,r,(by omega),r⟩) (.inr r) g i r w x r r .mk) (.fk 1 r (.h r (fun _=>.lo qQ .z r .mk) (.fk 3 r ?_)))
 obtain ⟨A,S,T,hd⟩:=hd
 have k:Int.toNat b≤Int.toNat a:=by omega
 have l:Int.toNat a≤a0.Val.length:=by omega
 obtain ⟨U,V,B,C,D⟩:=RepSl.sliceW R9 (Int.toNat b) (Int.toNat a) (Int.toNat a) k l (.inr rfl)
 exact .h r (fun _=>.sliceW (L:=Int.toNat b) (H:=Int.toNat a) (cm:=Int.toNat a) X2 sz2 r r R9.1 r r r (.inr ⟨_,_,r,A,r⟩) (.inr ⟨_,_,r,(by omega),r⟩) (.inr r) k l r B C r r .mk) (.fk 1 r (.e2 13 (.kn 1 [5,4] r (.drop .z (.ret (BS results217 (.t r (.t r .n)) rf ⟨(((a0.Col.take a.toNat).drop b.toNat),((a0.Val.take a.toNat).drop b.toNat)),_,_,_,_,r,y,D,hd⟩))))))
theorem AcZ {a0:Rows} {a1:Int} {Q:(List EC)→Prop} (R3:RepSl AE I p1 c2 a0.Start) (R6:RepSl AE I p4 c5 a0.Col) (R9:RepSl AE I p7 c8 a0.Val) (hd:jK a0 a1 Q) :
  BR prog 216 [.agg #[.int .i64 a0.Rows,.int .i64 a0.Cols,.slice p1 a0.Start.length c2,.slice p4 a0.Col.length c5,.slice p7 a0.Val.length c8],.int .i64 a1] I (Ak6 Q):=by
 refine Fun.en func216 ntmps216 r fun w0 M=>?_
 refine .sr (.bx r fun b1=>?_)
 refine .ks 1 r (.ns [2,1] r (.lw CF BH .z r ?_))
 have L:=bT (I:=I) R3 R6 R9 hd
 refine .call call214 r L r r fun b2 K d N=>?_
 obtain ⟨b3,b4,b5,b6,b7,b8,b9,rfl,k,m,p,hd⟩:=N
 obtain ⟨R3,R6,R9⟩:=d.u3 R3 R6 R9
 refine .sa BH .z r (.no [2,1] r (.seq (.sk 2 r (.lo BF .z r (.ks 1 r ?_)))))
 have O:=HL (I:=K) hd
 refine .cq call167 O r fun c0 hd=>?_
 refine .kn 1 [17,2,1] r (.condP r hd (fun P hd=>?_) fun P hd=>?_)
 · exact .sr (.kn 1 [4] r (.drop .z (.r1 results216 r d ⟨([]:List EC),_,_,r,(.nil _ _ _),hd⟩)))
 refine .sn [2,1] r (.sk 1 r (.ns [5,2,1] r (.lw CF BH .z r (.ks 1 r ?_))))
 have R:=mO (I:=K) k m p hd
 refine .call call217 r R r r fun c1 c3 S T=>?_
 obtain ⟨c4,c6,c7,c9,d0,rfl,q,s,hd⟩:=T
 obtain ⟨U,k,m,p⟩:=S.u4 d k m p
 refine .kn 5 [7,6,5] r (.drop .z (.seq (.sk 1 r (.ln BT r (.kn 1 [26,25,24,7,5] r (.block (.own0 RG 112 (.lx hd [25,24,7] [] r (fun j E l (a,e)=>fun c w=>∃ f g,j ⟨42,[],none⟩ (fun I_=>True) ((5,.slice f a.length g) :: (26,.int .i64 e) :: E) (OwnSl RG 112 f g a :: l) c w) (fun c w ho hs=>⟨_,_,jf rf trivial [0] r ho hs⟩) ?_))))))))
 rintro ⟨a,e⟩ Y hd c w ⟨f,g,a4,b,_,hok,hsym⟩
 obtain ⟨y,q,s⟩:=b.u3 U q s
 refine Cod.at hok hsym (.sr (.kn 1 [27,26,25,24,7,5] r (.seq (.condP r hd (fun A hd=>?_) fun A hd=>?_))))
 · refine .sn [26,25,24,7,5] r (.seq (.block (.sk 1 r ?_)))
   obtain ⟨t,u,h,hd⟩:=hd
   obtain ⟨a5,o171,Z,V,B,C⟩:=q.2 _ _ h
   cases C
   refine .ixa BT EX r V r t (AH h t) r r (.ld1 (j:=0) BF B r r r r r (.kn 2 [9,8,26,25,24,7,5] r (.region (.ks 4 r ?_))))
   obtain ⟨v,x,i,hd⟩:=hd
   obtain ⟨a6,o180,a2,W,D,F⟩:=s.2 _ _ i
   cases F
   refine .ixa X2 sz2 r W r v (AH i v) r r (.ld1 (j:=0) UT D r r r r r (.build AaO underlying112 Aj7 (.c r r r (.o r) (.c r r r (.o r) .n)) (by exact ⟨⟨_,_,r,r,r⟩,⟨⟨_,_,r,r,r⟩,trivial⟩⟩) r r (.buildSlice 1 dB sizeOf112 AaO r r (.c r r r .n) r r fun a7=>?_)))
   obtain ⟨G,hd⟩:=hd
   refine .append (ys:=[({ At:=u,Val:=x }:EC)]) 16 .p1 dB dB AhD r r r r r r r r r (.box .z (.one r) r) G r r fun a8 a9=>?_
   exact .kn 1 [5,26,25,24,7] r (.drop .p1 (.region (.ks 2 r (.nil' fun c w ho hs=>⟨((a++([({ At:=u,Val:=x }:EC)])),AJ (e+1)),hd,_,_,jf b trivial [0] r ho hs⟩))))
 refine .en [5] r (.sr (.kn 2 [4] r (.pub .z fun b0 H X=>?_)))
 obtain ⟨J,a3⟩:=H.u2 y b
 exact .r1 results216 r J ⟨a,_,_,r,X,hd⟩
theorem SY {a0:Rows} {a1 a2:Int×Int} {Q:Rows→Prop} (R3:RepSl AE I p1 c2 a0.Start) (R6:RepSl AE I p4 c5 a0.Col) (R9:RepSl AE I p7 c8 a0.Val) (hd:MH a0 a1 a2 Q) :
  BR prog 139 [.agg #[.int .i64 a0.Rows,.int .i64 a0.Cols,.slice p1 a0.Start.length c2,.slice p4 a0.Col.length c5,.slice p7 a0.Val.length c8],.agg #[.int .i64 a1.1,.int .i64 a1.2],.agg #[.int .i64 a2.1,.int .i64 a2.2]] I (AhV Q):=by
 refine Fun.en func139 ntmps139 r fun w0 M=>?_
 refine .sr (.bx r fun f0=>?_)
 refine .bx r fun f1=>?_
 refine .bx r fun f2=>?_
 refine .al FO r fun f3=>?_
 refine .ns [6,5,4,3] r (.lw CF BH .p3 r ?_)
 have a9:=bT (I:=I) R3 R6 R9 hd
 refine .call call214 r a9 r r fun f4 a8 G b0=>?_
 obtain ⟨f5,f6,f7,f8,f9,g0,g1,rfl,a,b,d,hd⟩:=b0
 obtain ⟨R3,R6,R9⟩:=G.u3 R3 R6 R9
 refine .sa BH .p3 r (.ns [6,5,4,3] r (.lw LW HK .p2 r (.ks 1 r (.lo BF .p3 r ?_))))
 have b1:=eL (I:=a8) hd
 refine .cq call215 b1 r fun g2 hd=>?_
 refine .kn 5 [8,7,6,5,3] r (.drop .p2 (.sr (.lw LW HK .p1 r (.ks 1 r (.lo BF .p2 r ?_)))))
 have b2:=eL (I:=a8) hd
 refine .cq call215 b2 r fun x hd=>?_
 refine .kn 5 [10,9,8,7,6,3] r (.drop .p1 (.sr (.kn 1 [11,10,9,8,7,6,3] r (.seq (.sr (.kn 2 [32,31,11,10,9,8,7,6,3] r (.block (.own0 BV 103 (.lx hd [31,10,9,8,7,6,3] [2,1] r (fun j E l (p,f)=>fun c w=>∃ q s,j ⟨74,[],none⟩ (fun I_=>True) ((11,.slice q p.length s) :: (32,.int .i64 f) :: E) (OwnSl BV 103 q s p :: l) c w) (fun c w ho hs=>⟨_,_,jf rf trivial [0,1,0] r ho hs⟩) ?_)))))))))
 rintro ⟨p,f⟩ c0 hd c w ⟨q,s,b3,i,_,hok,hsym⟩
 obtain ⟨y,a,b,d⟩:=i.u4 G a b d
 refine Cod.at hok hsym (.sr (.kn 1 [33,32,31,11,10,9,8,7,6,3] r (.seq (.condP r hd (fun K hd=>?_) fun K hd=>?_))))
 · refine .sn [32,31,11,10,9,8,7,6,3] r (.seq (.block (.sk 2 r (.ns [12,32,31,11,10,9,8,7,6,3] r (.lw CF BH .p1 r (.ks 3 r ?_))))))
   have L:=AcZ (I:=b3) a b d hd
   refine .call call216 r L r r fun c9 d0 N O=>?_
   obtain ⟨d1,d2,d3,rfl,g,hd⟩:=O
   obtain ⟨P,R,a,b,d⟩:=N.u5 y i a b d
   refine .ln dB r (.kn 1 [41,40,39,12,32,31,11,10,9,8,7,6,3] r (.block (.lx hd [40,39,32,31,12,10,9,8,7,6,3] [1,1] r (fun j E l (e,k)=>fun c w=>∃ t u,j ⟨74,[],none⟩ (fun I_=>True) ((11,.slice t e.length u) :: (41,.int .i64 k) :: E) (OwnSl BV 103 t u e :: l) c w) (fun c w ho hs=>⟨_,_,jf rf trivial [0,0,0] r ho hs⟩) ?_)))
   rintro ⟨e,k⟩ c1 hd c w ⟨t,u,d4,A,_,hok,hsym⟩
   obtain ⟨S,B,a,b,d,g⟩:=A.u6 P R a b d g
   refine Cod.at hok hsym (.sr (.kn 1 [42,41,40,39,32,31,12,11,10,9,8,7,6,3] r (.seq (.condP r hd (fun T hd=>?_) fun T hd=>?_))))
   · refine .sn [41,40,39,32,31,12,11,10,9,8,7,6,3] r (.seq (.block (.sr ?_)))
     obtain ⟨H,h,C,hd⟩:=hd
     obtain ⟨d5,o598,c3,b4,U,V⟩:=g.2 _ _ C
     cases V
     refine .ixa dB sizeOf112 r b4 r H (AH C H) r r (.ldW isAgg112 sizeOf112 U r r r r (.al AaO r fun d6=>?_))
     refine .sa sizeOf112 .z r (.no [14,41,40,39,32,31,12,11,10,9,8,7,6,3] r (.seq (.jn hd [41,40,39,32,31,14,12,11,10,9,8,7,6,3] [2,2,1,0] r (fun j E l J=>j ((56,.bool J) :: E) l) (fun d7 hd=>?_) ?_)))
     · skip
       refine .region (.ks 1 r (.lo BF .z r (.ks 3 r ?_)))
       refine AQ hd (fun m hd=>?_) fun m hd=>?_
       · rw [m]
         exact .ks 1 r (.yes r (.lo BF .z r (.ks 5 r (.nil' (je (decide ((AJ (h.At - x.1))<x.2)) hd rf [2,2,1,0] r)))))
       rw [m]
       exact .ks 7 r (.nil' (je false hd rf [2,2,1,0] r))
     refine fun J hd=>jq r fun d8 D=>?_
     obtain ⟨c4,c6,F,a,b,d⟩:=D.u6 S B A a b d
     have g:=D.u1 g
     refine .condP r hd (fun W hd=>?_) fun W hd=>?_
     · refine .region (.ks 3 r (.lo BF .p3 r (.ks 3 r (.lo UT .p3 r (.build RK oT oP (.c r r r (.o r) (.c r r r (.o r) (.c r r r (.o r) .n))) (by exact ⟨⟨_,_,r,r,r⟩,⟨⟨_,_,r,r,r⟩,⟨⟨_,_,r,r,r⟩,trivial⟩⟩⟩) r r (.buildSlice 1 JG KD RK r r (.c r r r .n) r r fun d9=>?_))))))
       obtain ⟨X,hd⟩:=hd
       refine .append (ys:=[({ Row:=f,Col:=AJ (h.At - x.1),Val:=h.Val }:AD)]) 24 .p3 JG JG kM r r r r r r r r r (.box .z (.one r) r) X r r fun e0 e1=>?_
       exact .kn 1 [11,41,40,39,32,31,12,10,9,8,7,6,3] r (.drop .p1 (.drop .p3 (.region (.ks 2 r (.nil' fun c w ho hs=>⟨((e++([({ Row:=f,Col:=AJ (h.At - x.1),Val:=h.Val }:AD)])),AJ (k+1)),hd,_,_,jf F trivial [0,0,0] r ho hs⟩)))))
     exact .sn [41,40,39,32,31,12,11,10,9,8,7,6,3] r (.drop .p3 (.region (.ks 2 r (.nil' fun c w ho hs=>⟨(e,AJ (k+1)),hd,_,_,jf F trivial [2,0,0] r ho hs⟩))))
   exact .en [32,31,11,10,9,8,7,6,3] r (.region (.ks 2 r (.nil' fun c w ho hs=>⟨(e,AJ (f+1)),hd,_,_,jf B trivial [0,0,0] r ho hs⟩)))
 refine .en [11,10,8,6] r (.drop .p1 (.sk 3 r (.pub .z fun b5 Y v=>?_)))
 obtain ⟨Z,a3⟩:=Y.u2 y i
 have a4:=YX (I:=b5) v hd
 refine .call call194 r a4 r r fun e2 e3 a5 a6=>?_
 obtain ⟨b6,e4,e5,e6,e7,e8,e9,rfl,b7,b8,b9,hd⟩:=a6
 obtain ⟨a7,c7,v⟩:=a5.u3 Z a3 v
 exact .sa BH .z r (.no [6] r (.ret (BS results139 (.w CF BH r .z r .n) a7 ⟨b6,_,_,_,_,_,_,r,b7,b8,b9,hd⟩)))
theorem YY {a0 a1 a2:Int} {Q:(Int×Int)→Prop} (hd:NR a0 a1 a2 Q) :
  BR prog 140 [.int .i64 a0,.int .i64 a1,.int .i64 a2] I (fun _=>AjK Q):=by
 refine Fun.en func140 ntmps140 r fun w0 M=>?_
 refine .sr (.al LX r fun f=>?_)
 refine .nk [6,2,1,0] 3 r ?_
 have b:=JD (I:=I) hd
 refine .cq call110 b r fun d hd=>?_
 refine .ks 4 r ?_
 have a:=JD (I:=I) hd
 refine .cq call110 a r fun e hd=>?_
 exact .buildArr LX OC EX (.c r r r (.o r) (.c r r r (.o r) .n)) r r (.sa HK .z r (.no [6] r (.ret (BS results140 (.w LW HK r .z r .n) rf ⟨(d,e),r,hd⟩))))
theorem xH {a0:Rows} {a1 a2 a3 a4:Int} {Q:Rows→Prop} (R3:RepSl AE I p1 c2 a0.Start) (R6:RepSl AE I p4 c5 a0.Col) (R9:RepSl AE I p7 c8 a0.Val) (hd:SN a0 a1 a2 a3 a4 Q) :
  BR prog 72 [.agg #[.int .i64 a0.Rows,.int .i64 a0.Cols,.slice p1 a0.Start.length c2,.slice p4 a0.Col.length c5,.slice p7 a0.Val.length c8],.int .i64 a1,.int .i64 a2,.int .i64 a3,.int .i64 a4] I (AhV Q):=by
 refine Fun.en func72 ntmps72 r fun w0 M=>?_
 refine .sr (.bx r fun a5=>?_)
 refine .al FO r fun a6=>?_
 refine .no [10,5,4,3,2,1] r (.seq (.sr (.lw CF BH .p1 r ?_)))
 have k:=NE (I:=I) R3 R6 R9 hd
 refine .cq call101 k r fun a7 hd=>?_
 refine .ks 2 r ?_
 refine AQ hd (fun a hd=>?_) fun a hd=>?_
 · rw [a]
   refine .kn 7 [21,10,5,4,3,2,1] r (.condKT r r (.sr (.build FO OQ OP .n (by exact trivial) r r (.buildArr LX OC EX .n r r (.buildArr LX OC EX .n r r ?_)))))
   have l:=SY (I:=I) (a0:=({ Rows:=0,Cols:=0,Start:=([]:List Int),Col:=([]:List Int),Val:=([]:List Int) }:Rows)) (.nil _ none 0) (.nil _ none 0) (.nil _ none 0) hd
   refine .call call139 r l r r fun a8 a9 c m=>?_
   obtain ⟨C,b0,b1,b2,b3,b4,b5,rfl,D,E,F,hd⟩:=m
   obtain ⟨R3,R6,R9⟩:=c.u3 R3 R6 R9
   exact .sa BH .z r (.no [10] r (.drop .p1 (.ret (BS results72 (.w CF BH r .z r .n) c ⟨C,_,_,_,_,_,_,r,D,E,F,hd⟩))))
 rw [a]
 refine .ks 4 r ?_
 have o:=sX (I:=I) hd
 refine .yes r (.callP call138 r o r r fun b6 p=>?_)
 obtain ⟨b7,rfl,hd⟩:=p
 refine .kn 2 [21,10,5,4,3,2,1] r (.condP r hd (fun q hd=>?_) fun q hd=>?_)
 · refine .sr (.build FO OQ OP .n (by exact trivial) r r (.buildArr LX OC EX .n r r (.buildArr LX OC EX .n r r ?_)))
   have e:=SY (I:=I) (a0:=({ Rows:=0,Cols:=0,Start:=([]:List Int),Col:=([]:List Int),Val:=([]:List Int) }:Rows)) (.nil _ none 0) (.nil _ none 0) (.nil _ none 0) hd
   refine .call call139 r e r r fun b8 b9 d s=>?_
   obtain ⟨G,H,J,K,L,N,O,rfl,t,u,v,hd⟩:=s
   obtain ⟨R3,R6,R9⟩:=d.u3 R3 R6 R9
   exact .sa BH .z r (.no [10] r (.drop .p1 (.ret (BS results72 (.w CF BH r .z r .n) d ⟨G,_,_,_,_,_,_,r,t,u,v,hd⟩))))
 refine .sn [10,5,4,3,2,1] r (.seq (.dr [0,1,2,3,4,6,7,8,9,5,10,11] 12 (.h r (fun _=>.lw CF BH .p1 r .mk) (.fk 1 r (.h r (fun _=>.lo BF .p1 r .mk) (.fk 3 r (.h r (fun _=>.lo BF .p1 r .mk) (.fk 2 r (.ww r fun ex=>?_)))))))))
 have f:=YY (I:=I) hd
 refine .cq call140 f r fun P hd=>?_
 refine .so 2 r r r (.ck 2 r r (.ch r (fun _=>.lo BF .p1 r .mk) (.ck 1 r r (.ch r (fun _=>.lw CF BH .p1 r .mk) trivial)))) (.ww r fun ex=>?_)
 have g:=YY (I:=I) hd
 refine .cq call140 g r fun R hd=>?_
 refine .so 2 r r r (.ch r (fun _=>.lw CF BH .p1 r .mk) trivial) (.ww r fun ex=>?_)
 have i:=SY (I:=I) R3 R6 R9 hd
 refine .call call139 r i r r fun S T b j=>?_
 obtain ⟨x,U,V,W,X,Y,Z,rfl,y,A,B,hd⟩:=j
 obtain ⟨R3,R6,R9⟩:=b.u3 R3 R6 R9
 exact .so 2 r r r trivial (.e2 12 (.sa BH .z r (.no [10] r (.drop .p1 (.ret (BS results72 (.w CF BH r .z r .n) b ⟨x,_,_,_,_,_,_,r,y,A,B,hd⟩))))))
theorem VZ {a0:Rows} {Q:(List AD)→Prop} (R3:RepSl AE I p1 c2 a0.Start) (R6:RepSl AE I p4 c5 a0.Col) (R9:RepSl AE I p7 c8 a0.Val) (hd:KM a0 Q) :
  BR prog 143 [.agg #[.int .i64 a0.Rows,.int .i64 a0.Cols,.slice p1 a0.Start.length c2,.slice p4 a0.Col.length c5,.slice p7 a0.Val.length c8]] I (Ak7 Q):=by
 refine Fun.en func143 ntmps143 r fun w0 M=>?_
 refine .sr (.bx r fun c7=>?_)
 refine .ks 1 r (.ns [1] r (.lw CF BH .z r ?_))
 have Y:=bT (I:=I) R3 R6 R9 hd
 refine .call call214 r Y r r fun c9 d0 A Z=>?_
 obtain ⟨d1,d2,d3,d4,d5,d6,d7,rfl,a,b,d,hd⟩:=Z
 obtain ⟨R3,R6,R9⟩:=A.u3 R3 R6 R9
 refine .sa BH .z r (.nk [1] 1 r (.no [3,1] r (.seq (.sk 1 r (.lo BF .z r (.kn 1 [13,12,3,1] r (.block (.own0 BV 103 (.lx hd [12,1] [1] r (fun j E l (g,e)=>fun c w=>∃ k m,j ⟨42,[],none⟩ (fun I_=>True) ((3,.slice k g.length m) :: (13,.int .i64 e) :: E) (OwnSl BV 103 k m g :: l) c w) (fun c w ho hs=>⟨_,_,jf rf trivial [0,0] r ho hs⟩) ?_)))))))))
 rintro ⟨g,e⟩ a5 hd c w ⟨k,m,a1,h,_,hok,hsym⟩
 obtain ⟨v,a,b,d⟩:=h.u4 A a b d
 refine Cod.at hok hsym (.sr (.kn 1 [14,13,12,3,1] r (.seq (.condP r hd (fun G hd=>?_) fun G hd=>?_))))
 · refine .sn [13,12,3,1] r (.seq (.block (.sk 2 r (.ns [4,13,12,3,1] r (.lw CF BH .p1 r (.ks 1 r ?_))))))
   have H:=mO (I:=a1) a b d hd
   refine .call call217 r H r r fun b1 b2 J K=>?_
   obtain ⟨b3,b4,b5,b6,b7,rfl,p,q,hd⟩:=K
   obtain ⟨L,N,a,b,d⟩:=J.u5 v h a b d
   refine .ks 5 r (.nk [6,5,4,13,12,3,1] 1 r (.ln BT r (.kn 1 [24,23,22,6,4,13,12,3,1] r (.block (.lx hd [23,22,13,12,6,4,1] [1] r (fun j E l (f,s)=>fun c w=>∃ t u,j ⟨42,[],none⟩ (fun I_=>True) ((3,.slice t f.length u) :: (24,.int .i64 s) :: E) (OwnSl BV 103 t u f :: l) c w) (fun c w ho hs=>⟨_,_,jf rf trivial [0,0] r ho hs⟩) ?_)))))
   rintro ⟨f,s⟩ a6 hd c w ⟨t,u,b8,i,_,hok,hsym⟩
   obtain ⟨a7,O,a,b,d,p⟩:=i.u6 L N a b d p
   have q:=i.u1 q
   refine Cod.at hok hsym (.sr (.kn 1 [25,24,23,22,13,12,6,4,3,1] r (.seq (.condP r hd (fun P hd=>?_) fun P hd=>?_))))
   · refine .sn [24,23,22,13,12,6,4,3,1] r (.seq (.block (.sk 1 r ?_)))
     obtain ⟨B,C,x,hd⟩:=hd
     obtain ⟨b9,o538,a8,a2,R,S⟩:=p.2 _ _ x
     cases S
     refine .ixa BT EX r a2 r B (AH x B) r r (.ld1 (j:=0) BF R r r r r r (.kn 2 [8,7,24,23,22,13,12,6,4,3,1] r (.region (.ks 5 r ?_))))
     obtain ⟨D,F,y,hd⟩:=hd
     obtain ⟨c0,o547,a9,a3,T,U⟩:=q.2 _ _ y
     cases U
     refine .ixa X2 sz2 r a3 r D (AH y D) r r (.ld1 (j:=0) UT T r r r r r (.build RK oT oP (.c r r r (.o r) (.c r r r (.o r) (.c r r r (.o r) .n))) (by exact ⟨⟨_,_,r,r,r⟩,⟨⟨_,_,r,r,r⟩,⟨⟨_,_,r,r,r⟩,trivial⟩⟩⟩) r r (.buildSlice 1 JG KD RK r r (.c r r r .n) r r fun c1=>?_)))
     obtain ⟨V,hd⟩:=hd
     refine .append (ys:=[({ Row:=e,Col:=C,Val:=F }:AD)]) 24 .p1 JG JG kM r r r r r r r r r (.box .z (.one r) r) V r r fun c3 c4=>?_
     exact .kn 1 [3,24,23,22,13,12,6,4,1] r (.drop .p1 (.region (.ks 2 r (.nil' fun c w ho hs=>⟨((f++([({ Row:=e,Col:=C,Val:=F }:AD)])),AJ (s+1)),hd,_,_,jf i trivial [0,0] r ho hs⟩))))
   exact .en [13,12,3,1] r (.region (.ks 2 r (.nil' fun c w ho hs=>⟨(f,AJ (e+1)),hd,_,_,jf O trivial [0,0] r ho hs⟩)))
 refine .en [3] r (.drop .p1 (.sr (.kn 2 [2] r (.pub .z fun c6 W a4=>?_))))
 obtain ⟨X,b0⟩:=W.u2 v h
 exact .r1 results143 r X ⟨g,_,_,r,a4,hd⟩
theorem YZ {a0 a1 a2:Int} {Q:(Int×Int)→Prop} (hd:IU a0 a1 a2 Q) :
  BR prog 144 [.int .i64 a0,.int .i64 a1,.int .i64 a2] I (fun _=>AjK Q):=by
 refine Fun.en func144 ntmps144 r fun w0 M=>?_
 refine .sr (.al LX r fun f=>?_)
 refine .nk [6,2,1,0] 3 r ?_
 have b:=JD (I:=I) hd
 refine .cq call110 b r fun d hd=>?_
 refine .ks 4 r ?_
 have a:=JD (I:=I) hd
 refine .cq call110 a r fun e hd=>?_
 exact .buildArr LX OC EX (.c r r r (.o r) (.c r r r (.o r) .n)) r r (.sa HK .z r (.no [6] r (.ret (BS results144 (.w LW HK r .z r .n) rf ⟨(d,e),r,hd⟩))))
theorem W0 {a0 a1:Int} {Q:Bool→Prop} (hd:NA a0 a1 Q) :
  BR prog 65 [.int .i64 a0,.int .i64 a1] I (fun _=>dA Q):=by
 refine Fun.en func65 ntmps65 r fun w0 M=>?_
 refine .sk 1 r (.nk [1,0] 3 r ?_)
 refine AQ hd (fun a hd=>?_) fun a hd=>?_
 · rw [a]
   exact .kn 5 [4] r (.r0 results65 r ⟨(decide (a0≤a1)),r,hd⟩)
 rw [a]
 exact .kn 5 [4] r (.r0 results65 r ⟨false,r,hd⟩)
theorem eN {a0:NP} {Q:Bool→Prop} (hd:TJ a0 Q) :
  BR prog 19 [.agg (cS a0).toArray] I (fun _=>dA Q):=by
 refine Fun.en func19 ntmps19 r fun w0 M=>?_
 refine .sr (.bx r fun o=>?_)
 refine .kn 1 [1] r (.seq (.sk 1 r (.lo BF .z r ?_)))
 have d:=W0 (I:=I) hd
 refine .cq call65 d r fun j hd=>?_
 refine .ks 2 r ?_
 refine AQ hd (fun a hd=>?_) fun a hd=>?_
 · rw [a]
   exact .kn 11 [18,1] r (.condKT r r (.sr (.kn 1 [2] r (.drop .z (.r0 results19 r ⟨false,r,hd⟩)))))
 rw [a]
 refine .ks 1 r (.yes r (.lo BF .z r ?_))
 have e:=W0 (I:=I) hd
 refine .yes r (.callP call65 r e r r fun k f=>?_)
 obtain ⟨l,rfl,hd⟩:=f
 refine .ks 3 r ?_
 refine AQ hd (fun b hd=>?_) fun b hd=>?_
 · rw [b]
   exact .kn 5 [18,1] r (.condKT r r (.sr (.kn 1 [2] r (.drop .z (.r0 results19 r ⟨false,r,hd⟩)))))
 rw [b]
 refine .ks 1 r (.yes r (.lo BF .z r ?_))
 have g:=W0 (I:=I) hd
 refine .yes r (.callP call65 r g r r fun m h=>?_)
 obtain ⟨n,rfl,hd⟩:=h
 refine .kn 2 [18,1] r (.condP r hd (fun i hd=>?_) fun i hd=>?_)
 · exact .sr (.kn 1 [2] r (.drop .z (.r0 results19 r ⟨false,r,hd⟩)))
 refine .sn [1] r (.sk 1 r (.lo isAgg45 .z r (.ks 2 r ?_)))
 refine AQ hd (fun c hd=>?_) fun c hd=>?_
 · rw [c]
   exact .ks 1 r (.yes r (.lo isAgg45 .z r (.kn 3 [2] r (.drop .z (.r0 results19 r ⟨(decide (a0.Kind≤5)),r,hd⟩)))))
 rw [c]
 exact .kn 5 [2] r (.drop .z (.r0 results19 r ⟨false,r,hd⟩))
theorem OM {a0:List EC} {Q:(List EC)→Prop} (R3:RepSl RG I p1 c2 a0) (hd:FK a0 Q) :
  BR prog 262 [.slice p1 a0.length c2] I (fun I_ v=>∃ r p4 c5,v=.slice p4 r.length c5∧RepSl RG I_ p4 c5 r∧Q r):=by
 refine Fun.en func262 ntmps262 r fun w0 M=>?_
 refine .sr (.kn 1 [0] r (.seq (.sk 1 r (.eqNilS dB r r r r (.no [4,0] r ?_)))))
 refine split p1.isNone (fun a=>?_) (fun a=>?_)
 · have hd:=hd.1 (RepSl.ofNone R3 a)
   exact .condKT r a (.sr (.kn 1 [2] r (.r0 results262 r ⟨([]:List EC),_,_,r,(.nil _ _ _),hd⟩)))
 have hd:=hd.2
 refine .condKF r a (.sn [0] r (.sr (.buildSlice 0 dB sizeOf112 AaO r r .n r r fun h=>?_)))
 refine .ks 1 r (.ownB (El:=RG) (ys:=([]:List EC)) .z .nil r ?_)
 obtain ⟨b,hd⟩:=hd
 refine .append (ys:=a0) 16 .z dB dB AhD r r r r r r r r r (.imm R3 r) b r r fun e f=>?_
 refine .kn 1 [2] r (.pub .z fun g c d=>?_)
 exact .r1 results262 r c ⟨(([]:List EC)++a0),_,_,r,d,hd⟩
theorem PQ {a0:List eZ} {Q:(List eZ)→Prop} (R3:RepSl fG I p1 c2 a0) (hd:FY a0 Q) :
  BR prog 263 [.slice p1 a0.length c2] I (fun I_ v=>∃ r p4 c5,v=.slice p4 r.length c5∧RepSl fG I_ p4 c5 r∧Q r):=by
 refine Fun.en func263 ntmps263 r fun w0 M=>?_
 refine .sr (.kn 1 [0] r (.seq (.sk 1 r (.eqNilS AaN r r r r (.no [4,0] r ?_)))))
 refine split p1.isNone (fun a=>?_) (fun a=>?_)
 · have hd:=hd.1 (RepSl.ofNone R3 a)
   exact .condKT r a (.sr (.kn 1 [2] r (.r0 results263 r ⟨([]:List eZ),_,_,r,(.nil _ _ _),hd⟩)))
 have hd:=hd.2
 refine .condKF r a (.sn [0] r (.sr (.buildSlice 0 AaN sizeOf289 zeroValue289 r r .n r r fun h=>?_)))
 refine .ks 1 r (.ownB (El:=fG) (ys:=([]:List eZ)) .z .nil r ?_)
 obtain ⟨b,hd⟩:=hd
 refine .append (ys:=a0) 24 .z AaN AaN AjH r r r r r r r r r (.imm R3 r) b r r fun e f=>?_
 refine .kn 1 [2] r (.pub .z fun g c d=>?_)
 exact .r1 results263 r c ⟨(([]:List eZ)++a0),_,_,r,d,hd⟩
theorem LQ {a0:List AD} {Q:(List AD)→Prop} (R3:RepSl BV I p1 c2 a0) (hd:EL a0 Q) :
  BR prog 264 [.slice p1 a0.length c2] I (Ak8 Q):=by
 refine Fun.en func264 ntmps264 r fun w0 M=>?_
 refine .sr (.kn 1 [0] r (.seq (.sk 1 r (.eqNilS JG r r r r (.no [4,0] r ?_)))))
 refine split p1.isNone (fun a=>?_) (fun a=>?_)
 · have hd:=hd.1 (RepSl.ofNone R3 a)
   exact .condKT r a (.sr (.kn 1 [2] r (.r0 results264 r ⟨([]:List AD),_,_,r,(.nil _ _ _),hd⟩)))
 have hd:=hd.2
 refine .condKF r a (.sn [0] r (.sr (.buildSlice 0 JG KD RK r r .n r r fun h=>?_)))
 refine .ks 1 r (.ownB (El:=BV) (ys:=([]:List AD)) .z .nil r ?_)
 obtain ⟨b,hd⟩:=hd
 refine .append (ys:=a0) 24 .z JG JG kM r r r r r r r r r (.imm R3 r) b r r fun e f=>?_
 refine .kn 1 [2] r (.pub .z fun g c d=>?_)
 exact .r1 results264 r c ⟨(([]:List AD)++a0),_,_,r,d,hd⟩
theorem mP {a0:BL} {Q:BL→Prop} (R3:RepSl RG I p1 c2 a0.Vec.Items) (R6:RepSl fG I p4 c5 a0.Sums) (R9:RepSl BV I p7 c8 a0.Triples) (hd:YA a0 Q) :
  BR prog 219 [.agg #[.int .i64 a0.Kind,.int .i64 a0.From,.int .i64 a0.To,.int .i64 a0.Seq,.int .i64 a0.Round,.int .i64 a0.Vec.N,.slice p1 a0.Vec.Items.length c2,.slice p4 a0.Sums.length c5,.slice p7 a0.Triples.length c8,.int .i64 a0.N,.bool a0.Over]] I (Ak9 Q):=by
 refine Fun.en func219 ntmps219 r fun w0 M=>?_
 refine .sr (.bx r fun v=>?_)
 refine .al TY r fun x=>?_
 refine .nk [2,1] 2 r (.lo isAgg109 .p1 r ?_)
 have d:=OM (I:=I) R3 hd
 refine .call call262 r d r r fun y o b e=>?_
 obtain ⟨p,A,B,rfl,a,hd⟩:=e
 obtain ⟨R3,R6,R9⟩:=b.u3 R3 R6 R9
 refine .ks 2 r (.s1 sizeOf109 .p1 r (.nk [2,1] 1 r (.lo isAgg194 .p1 r ?_)))
 have f:=PQ (I:=o) R6 hd
 refine .call call263 r f r r fun C q g h=>?_
 obtain ⟨s,D,E,rfl,c,hd⟩:=h
 obtain ⟨i,R6,R9,a⟩:=g.u4 b R6 R9 a
 refine .ks 1 r (.s1 sizeOf194 .p1 r (.nk [2,1] 1 r (.lo isAgg54 .p1 r ?_)))
 have j:=LQ (I:=q) R9 hd
 refine .call call264 r j r r fun F G k l=>?_
 obtain ⟨t,H,J,rfl,u,hd⟩:=l
 obtain ⟨m,R9,a,c⟩:=k.u4 i R9 a c
 exact .ks 1 r (.s1 sizeOf54 .p1 r (.ns [2,1] r (.lw QQ FN .p1 r (.sa FN .z r (.no [2] r (.drop .p1 (.ret (BS results219 (.w QQ FN r .z r .n) m ⟨({ Kind:=a0.Kind,From:=a0.From,To:=a0.To,Seq:=a0.Seq,Round:=a0.Round,Vec:=({ N:=a0.Vec.N,Items:=p }:Vec),Sums:=s,Triples:=t,N:=a0.N,Over:=a0.Over }:BL),_,_,_,_,_,_,r,a,c,u,hd⟩))))))))
theorem IB {a0:Int} {Q:AN→Prop} (hd:JW a0 Q) :
  BR prog 183 [.int .i64 a0] I (fun _=>o1_ Q):=by
 refine Fun.en func183 ntmps183 r fun w0 M=>?_
 refine .sr (.al DK r fun a=>?_)
 exact .nk [2,0] 1 r (.shr' r r (by decide) r r (.ks 1 r (.conv qP OA r r r (.build DK OB NZ (.c r r r (.o r) (.c r r r (.o r) .n)) (by exact ⟨⟨_,_,r,r,r⟩,⟨⟨_,_,r,r,r⟩,trivial⟩⟩) r r (.sa AU .z r (.no [2] r (.ret (BS results183 (.w BP AU r .z r .n) rf ⟨({ Hi:=shr .i64 a0 63,Lo:=IntKind.wrap .u64 (a0) }:AN),r,hd⟩))))))))
theorem JE {a0:List Int} {Q:Int→Prop} (R3:RepSl AE I p1 c2 a0) (hd:HO a0 Q) :
  BR prog 113 [.slice p1 a0.length c2] I (fun _=>kO Q):=by
 refine Fun.en func113 ntmps113 r fun w0 M=>?_
 refine .sk 1 r (.nk [0] 1 r (.no [3,0] r (.seq (.sk 1 r (.ln BT r (.kn 1 [8,7,6,3] r (.block (.lp hd [7,6,3] [] r (fun j E l b=>j ((8,.int .i64 b) :: E) l) (ji rf [] r) ?_))))))))
 refine fun b i hd=>jq r fun o a=>?_
 have R3:=a.u1 R3
 refine .sr (.kn 1 [9,8,7,6,3] r (.seq (.condP r hd (fun e hd=>?_) fun e hd=>?_)))
 · refine .sn [8,7,6,3] r (.seq (.block (.sr ?_)))
   obtain ⟨d,k,c,hd⟩:=hd
   obtain ⟨p,o41,n,m,f,g⟩:=R3.2 _ _ c
   cases g
   refine .ixa BT EX r m r d (AH c d) r r (.ld1 (j:=0) BF f r r r r r (.ks 1 r (.nk [5,8,7,6,3] 3 r (.no [14,5,8,7,6,3] r (.condP r hd (fun h hd=>?_) fun h hd=>?_)))))
   · exact .sr (.kn 2 [2] r (.r1 results113 r a ⟨k,r,hd⟩))
   exact .sn [8,7,6,3] r (.region (.ks 2 r (.nil' (je (AJ (b+1)) hd a [] r))))
 exact .en [3] r (.sr (.kn 2 [2] r (.r1 results113 r a ⟨0,r,hd⟩)))
theorem VS {a0:Int} {Q:Bool→Prop} (hd:MI a0 Q) :
  BR prog 313 [.int .i64 a0] I (fun _=>dA Q):=by
 refine Fun.en func313 ntmps313 r fun w0 M=>?_
 exact .sk 1 r (.nk [0] 4 r (.no [2] r (.r0 results313 r ⟨(a0 != a0),r,hd⟩)))
theorem RL {a0 a1:Int} {Q:Int→Prop} (hd:HD a0 a1 Q) :
  BR prog 302 [.int .i64 a0,.int .i64 a1] I (fun _=>kO Q):=by
 refine Fun.en func302 ntmps302 r fun w0 M=>?_
 refine .sk 1 r (.nk [1,0] 1 r ?_)
 have g:=VS (I:=I) hd
 refine .cq call313 g r fun i hd=>?_
 refine .ks 1 r (.nk [5,1,0] 1 r ?_)
 have a:=VS (I:=I) hd
 refine .cq call313 a r fun h hd=>?_
 refine .kn 1 [6,5,1,0] r (.seq (.sr (.kn 1 [11,6,1,0] r (.condP r hd (fun b hd=>?_) fun b hd=>?_))))
 · refine .seq (.sr (.kn 1 [12] r (.condP r hd (fun c hd=>?_) fun c hd=>?_)))
   · exact .sr (.kn 1 [4] r (.r0 results302 r ⟨0,r,hd⟩))
   exact .sn [] r (.sr (.kn 1 [4] r (.r0 results302 r ⟨(-1),r,hd⟩)))
 refine .sn [6,1,0] r (.seq (.sr (.kn 1 [13,1,0] r (.condP r hd (fun d hd=>?_) fun d hd=>?_))))
 · exact .sr (.kn 1 [4] r (.r0 results302 r ⟨1,r,hd⟩))
 refine .sn [1,0] r (.seq (.sr (.kn 3 [16,1,0] r (.condP r hd (fun e hd=>?_) fun e hd=>?_))))
 · exact .sr (.kn 1 [4] r (.r0 results302 r ⟨(-1),r,hd⟩))
 refine .sn [1,0] r (.seq (.sr (.kn 3 [19] r (.condP r hd (fun f hd=>?_) fun f hd=>?_))))
 · exact .sr (.kn 1 [4] r (.r0 results302 r ⟨1,r,hd⟩))
 exact .sn [] r (.sr (.kn 1 [4] r (.r0 results302 r ⟨0,r,hd⟩)))
theorem UJ {a0:Int} {Q:Bool→Prop} (hd:KV a0 Q) :
  BR prog 314 [.int .u64 a0] I (fun _=>dA Q):=by
 refine Fun.en func314 ntmps314 r fun w0 M=>?_
 exact .sk 1 r (.nk [0] 4 r (.no [2] r (.r0 results314 r ⟨(a0 != a0),r,hd⟩)))
theorem Z0 {a0 a1:Int} {Q:Int→Prop} (hd:IV a0 a1 Q) :
  BR prog 303 [.int .u64 a0,.int .u64 a1] I (fun _=>kO Q):=by
 refine Fun.en func303 ntmps303 r fun w0 M=>?_
 refine .sk 1 r (.nk [1,0] 1 r ?_)
 have g:=UJ (I:=I) hd
 refine .cq call314 g r fun i hd=>?_
 refine .ks 1 r (.nk [5,1,0] 1 r ?_)
 have a:=UJ (I:=I) hd
 refine .cq call314 a r fun h hd=>?_
 refine .kn 1 [6,5,1,0] r (.seq (.sr (.kn 1 [11,6,1,0] r (.condP r hd (fun b hd=>?_) fun b hd=>?_))))
 · refine .seq (.sr (.kn 1 [12] r (.condP r hd (fun c hd=>?_) fun c hd=>?_)))
   · exact .sr (.kn 1 [4] r (.r0 results303 r ⟨0,r,hd⟩))
   exact .sn [] r (.sr (.kn 1 [4] r (.r0 results303 r ⟨(-1),r,hd⟩)))
 refine .sn [6,1,0] r (.seq (.sr (.kn 1 [13,1,0] r (.condP r hd (fun d hd=>?_) fun d hd=>?_))))
 · exact .sr (.kn 1 [4] r (.r0 results303 r ⟨1,r,hd⟩))
 refine .sn [1,0] r (.seq (.sr (.kn 3 [16,1,0] r (.condP r hd (fun e hd=>?_) fun e hd=>?_))))
 · exact .sr (.kn 1 [4] r (.r0 results303 r ⟨(-1),r,hd⟩))
 refine .sn [1,0] r (.seq (.sr (.kn 3 [19] r (.condP r hd (fun f hd=>?_) fun f hd=>?_))))
 · exact .sr (.kn 1 [4] r (.r0 results303 r ⟨1,r,hd⟩))
 exact .sn [] r (.sr (.kn 1 [4] r (.r0 results303 r ⟨0,r,hd⟩)))
theorem mQ {a0 a1:AN} {Q:Int→Prop} (hd:RT a0 a1 Q) :
  BR prog 277 [.agg (EZ a0).toArray,.agg (EZ a1).toArray] I (fun _=>kO Q):=by
 refine Fun.en func277 ntmps277 r fun w0 M=>?_
 refine .sr (.bx r fun o=>?_)
 refine .bx r fun p=>?_
 refine .kn 1 [3,2] r (.seq (.dr [0,1,2,3,5,6,7,8,4,9,10,11] 12 (.fk 1 r (.h r (fun _=>.lo UT .p1 r .mk) (.fk 1 r (.h r (fun _=>.lo UT .z r .mk) (.fk 1 r (.h r (fun _=>.lo DZ .p1 r .mk) (.fk 1 r ?_)))))))))
 refine .h r (fun _=>.lo DZ .z r .mk) (.ww r fun ex=>?_)
 have b:=RL (I:=I) hd
 refine .cq call302 b r fun g hd=>?_
 refine .so 2 r r r (.ch r (fun _=>.lo DZ .z r .mk) (.ck 1 r r (.ch r (fun _=>.lo DZ .p1 r .mk) (.ck 1 r r trivial)))) (.ww r fun ex=>?_)
 have d:=Z0 (I:=I) hd
 refine .cq call303 d r fun a hd=>?_
 refine .so 2 r r r trivial (.ww r fun ex=>?_)
 refine .buildSlice 2 BT EX nL r r (.c r r r (.c r r r .n)) r r fun m=>?_
 refine .so 3 r r r trivial (.ww r fun ex=>?_)
 refine .pubB (El:=AE) (ys:=([g,a]:List Int)) (k:=2) .z (RepCs.cons (cs:=[.int .i64 g]) r (RepCs.cons (cs:=[.int .i64 a]) r .nil)) r fun i e j=>?_
 have f:=JE (I:=i) j hd
 refine .cq call113 f r fun l hd=>?_
 exact .so 2 r r r trivial (.e2 12 (.kn 1 [4] r (.drop .z (.drop .z (.r1 results277 r e ⟨l,r,hd⟩)))))
theorem bA {a0 a1:AN} {Q:AN→Prop} (hd:QM a0 a1 Q) :
  BR prog 236 [.agg (EZ a0).toArray,.agg (EZ a1).toArray] I (fun _=>o1_ Q):=by
 refine Fun.en func236 ntmps236 r fun w0 M=>?_
 refine .sr (.bx r fun e=>?_)
 refine .bx r fun f=>?_
 refine .al DK r fun c=>?_
 refine .no [4,3,2] r (.seq (.sr (.lw BP AU .p2 r (.lw BP AU .p1 r ?_))))
 have a:=mQ (I:=I) hd
 refine .cq call277 a r fun d hd=>?_
 refine .kn 1 [8,4,3,2] r (.condP r hd (fun b hd=>?_) fun b hd=>?_)
 · exact .sr (.lw BP AU .p2 r (.sa AU .z r (.no [4] r (.drop .p1 (.drop .p1 (.ret (BS results236 (.w BP AU r .z r .n) rf ⟨a0,r,hd⟩)))))))
 exact .sn [4,3] r (.drop .p2 (.sr (.lw BP AU .p1 r (.sa AU .z r (.no [4] r (.drop .p1 (.ret (BS results236 (.w BP AU r .z r .n) rf ⟨a1,r,hd⟩))))))))
theorem SH {a0:Bool} {Q:AN→Prop} (hd:MM a0 Q) :
  BR prog 237 [.bool a0] I (fun _=>o1_ Q):=by
 refine Fun.en func237 ntmps237 r fun w0 M=>?_
 refine .sr (.al DK r fun d=>?_)
 refine .no [2,0] r (.seq (.sr (.kn 1 [3,2] r (.condP r hd (fun a hd=>?_) fun a hd=>?_))))
 · refine .sr ?_
   have b:=IB (I:=I) hd
   refine .cq call183 b r fun c hd=>?_
   exact .sa AU .z r (.no [2] r (.ret (BS results237 (.w BP AU r .z r .n) rf ⟨c,r,hd⟩)))
 exact .sn [2] r (.sr (.build DK OB NZ .n (by exact trivial) r r (.sa AU .z r (.no [2] r (.ret (BS results237 (.w BP AU r .z r .n) rf ⟨({ Hi:=0,Lo:=0 }:AN),r,hd⟩))))))
theorem eO {a0:Bool} {Q:Int→Prop} (hd:TK a0 Q) :
  BR prog 278 [.bool a0] I (fun _=>AhX Q):=by
 refine Fun.en func278 ntmps278 r fun w0 M=>?_
 refine .sr (.kn 1 [0] r (.seq (.sr (.kn 1 [3] r (.condP r hd (fun a hd=>?_) fun a hd=>?_)))))
 · exact .sr (.kn 1 [2] r (.r0 results278 r ⟨1,r,hd⟩))
 exact .sn [] r (.sr (.kn 1 [2] r (.r0 results278 r ⟨0,r,hd⟩)))
theorem mR {a0 a1:AN} {Q:AN→Prop} (hd:YB a0 a1 Q) :
  BR prog 238 [.agg (EZ a0).toArray,.agg (EZ a1).toArray] I (fun _=>o1_ Q):=by
 refine Fun.en func238 ntmps238 r fun w0 M=>?_
 refine .sr (.bx r fun e=>?_)
 refine .bx r fun f=>?_
 refine .al DK r fun d=>?_
 refine .nk [4,3,2] 1 r (.lo DZ .p2 r (.ks 1 r (.lo DZ .p1 r (.kn 2 [5,4,3,2] r (.seq (.dr [0,1,2,3,4,5,6,7,8,9,10,14,11,12,13,15] 16 (.fk 1 r (.h r (fun _=>.lo UT .p2 r .mk) (.h r (fun _=>.conv qP OA r r r .mk) ?_)))))))))
 refine .fk 1 r (.h r (fun _=>.lo UT .p1 r .mk) (.h r (fun _=>.conv qP OA r r r .mk) (.fk 3 r (.h r (fun _=>.lo DZ .p1 r .mk) (.fk 2 r (.ww r fun ex=>?_))))))
 have a:=eO (I:=I) hd
 refine .cq call278 a r fun b hd=>?_
 exact .so 3 r r r (.ck 2 r r (.ch r (fun _=>.conv qP OA r r r .mk) (.ch r (fun _=>.lo UT .p1 r .mk) (.ck 1 r r (.ch r (fun _=>.conv qP OA r r r .mk) (.ch r (fun _=>.lo UT .p2 r .mk) (.ck 1 r r trivial))))))) (.fk 1 r (.h r (fun _=>.conv OA qP r r r .mk) (.h r (fun _=>.build DK OB NZ (.c r r r (.o r) (.c r r r (.o r) .n)) (by exact ⟨⟨_,_,r,r,r⟩,⟨⟨_,_,r,r,r⟩,trivial⟩⟩) r r .mk) (.e2 16 (.sa AU .z r (.no [4] r (.drop .p1 (.drop .p1 (.ret (BS results238 (.w BP AU r .z r .n) rf ⟨({ Hi:=AJ (IntKind.wrap .u64 ((IntKind.wrap .u64 ((IntKind.wrap .u64 (a0.Hi))+(IntKind.wrap .u64 (a1.Hi))))+b)),Lo:=IntKind.wrap .u64 (a0.Lo+a1.Lo) }:AN),r,hd⟩))))))))))
theorem UK {a0:Int} {a1 a2:AN} {Q:AN→Prop} (hd:QN a0 a1 a2 Q) :
  BR prog 184 [.int .i64 a0,.agg (EZ a1).toArray,.agg (EZ a2).toArray] I (fun _=>o1_ Q):=by
 refine Fun.en func184 ntmps184 r fun w0 M=>?_
 refine .sr (.bx r fun y=>?_)
 refine .bx r fun A=>?_
 refine .al DK r fun v=>?_
 refine .no [6,5,4,0] r (.seq (.sr (.kn 1 [7,6,5,4] r (.block (.seq (.jn hd [7,6,5,4] [2,1,0] r (fun j E l d=>j ((8,.bool d) :: E) l) (fun x hd=>?_) ?_))))))
 · skip
   refine .sr (.kn 2 [8,7,6,5,4] r (.condP r hd (fun e hd=>?_) fun e hd=>?_))
   · exact .skip' (je (a0==1) hd rf [2,1,0] r)
   refine .sr (.kn 2 [8,7,6,5,4] r (.condP r hd (fun f hd=>?_) fun f hd=>?_))
   · exact .skip' (je (a0==3) hd rf [2,1,0] r)
   exact .region (.ks 2 r (.nil' (je (a0==4) hd rf [2,1,0] r)))
 refine fun d hd=>jq r fun c a=>?_
 refine .condP r hd (fun g hd=>?_) fun g hd=>?_
 · refine .sr (.lw BP AU .z r (.lw BP AU .p1 r ?_))
   have h:=bA (I:=c) hd
   refine .cq call236 h r fun q hd=>?_
   exact .sa AU .p2 r (.no [6] r (.drop .z (.drop .z (.ret (BS results184 (.w BP AU r .z r .n) a ⟨q,r,hd⟩)))))
 refine .sr (.kn 2 [15,7,6,5,4] r (.condP r hd (fun i hd=>?_) fun i hd=>?_))
 · refine .sr (.lw BP AU .z r (.lw BP AU .p1 r (.neV r r (oQ a1 a2) (oR _ _ _ _ _) r r r (.ks 1 r ?_))))
   refine AQ hd (fun b hd=>?_) fun b hd=>?_
   · rw [b]
     refine .ks 4 r ?_
     have k:=SH (I:=c) hd
     refine .cq call237 k r fun s hd=>?_
     exact .sa AU .p2 r (.no [6] r (.drop .z (.drop .z (.ret (BS results184 (.w BP AU r .z r .n) a ⟨s,r,hd⟩)))))
   rw [b]
   refine .yes r (.lw BP AU .z r (.yes r (.build DK OB NZ .n (by exact trivial) r r (.yes r (.neV r r (oQ a1 ({ Hi:=0,Lo:=0 }:AN)) (oR _ _ _ _ _) r r r (.ks 1 r ?_))))))
   have m:=SH (I:=c) hd
   refine .cq call237 m r fun t hd=>?_
   exact .sa AU .p2 r (.no [6] r (.drop .z (.drop .z (.ret (BS results184 (.w BP AU r .z r .n) a ⟨t,r,hd⟩)))))
 refine .sr (.kn 2 [26,6,5,4] r (.condP r hd (fun o hd=>?_) fun o hd=>?_))
 · refine .sr (.lw BP AU .z r (.lw BP AU .p1 r ?_))
   have p:=mR (I:=c) hd
   refine .cq call238 p r fun u hd=>?_
   exact .sa AU .p2 r (.no [6] r (.drop .z (.drop .z (.ret (BS results184 (.w BP AU r .z r .n) a ⟨u,r,hd⟩)))))
 exact .sn [6] r (.drop .z (.drop .z (.sr (.build DK OB NZ .n (by exact trivial) r r (.sa AU .z r (.no [6] r (.ret (BS results184 (.w BP AU r .z r .n) a ⟨({ Hi:=0,Lo:=0 }:AN),r,hd⟩))))))))
theorem nV {a0:AN} {Q:(Int×Bool)→Prop} (hd:YC a0 Q) :
  BR prog 239 [.agg (EZ a0).toArray] I (fun _=>o3_ Q):=by
 refine Fun.en func239 ntmps239 r fun w0 M=>?_
 refine .sr (.bx r fun d=>?_)
 refine .ks 2 r (.nk [1] 1 r (.lo DZ .z r (.conv OA qP r r r (.kn 1 [4,1] r (.seq (.seq (.dr [0,2,1,3] 4 (.fk 1 r (.h r (fun _=>.lw BP AU .z r .mk) ?_)))))))))
 refine .ww r fun ex=>?_
 have a:=IB (I:=I) hd
 refine .cq call183 a r fun c hd=>?_
 refine .so 1 r r r (.ch r (fun _=>.lw BP AU .z r .mk) trivial) (.h r (fun _=>.neV r r (oQ c a0) (oR _ _ _ _ _) r r r .mk) (.e2 4 (.no [11,4] r (.drop .z (.condP r hd (fun b hd=>?_) fun b hd=>?_)))))
 · exact .sr (.kn 2 [3,2] r (.ret (BS results239 (.t r (.t r .n)) rf ⟨(0,false),r,hd⟩)))
 exact .sn [4] r (.sr (.kn 3 [3,2] r (.ret (BS results239 (.t r (.t r .n)) rf ⟨(AJ (a0.Lo),true),r,hd⟩))))
theorem QA {a0:Int} {a1:AN} {Q:(Int×Bool)→Prop} (hd:IJ a0 a1 Q) :
  BR prog 185 [.int .i64 a0,.agg (EZ a1).toArray] I (fun _=>o3_ Q):=by
 refine Fun.en func185 ntmps185 r fun w0 M=>?_
 refine .sr (.bx r fun c=>?_)
 refine .ks 2 r (.ns [3] r (.lw BP AU .z r ?_))
 have a:=nV (I:=I) hd
 refine .cq call239 a r fun b hd=>?_
 exact .kn 4 [5,4] r (.drop .z (.ret (BS results185 (.t r (.t r .n)) rf ⟨(b.1,b.2),r,hd⟩)))
theorem CX {a0 a1:Int} {Q:Int→Prop} (hd:CO a0 a1 Q) :
  BR prog 114 [.int .i64 a0,.int .i64 a1] I (fun _=>kO Q):=by
 refine Fun.en func114 ntmps114 r fun w0 M=>?_
 refine .sk 1 r (.nk [1,0] 1 r ?_)
 have g:=MJ (I:=I) hd
 refine .cq call178 g r fun i hd=>?_
 refine .ks 1 r (.nk [5,1,0] 1 r ?_)
 have a:=MJ (I:=I) hd
 refine .cq call178 a r fun h hd=>?_
 refine .kn 1 [6,5,1,0] r (.seq (.sr (.kn 1 [11,6,1,0] r (.condP r hd (fun b hd=>?_) fun b hd=>?_))))
 · refine .seq (.sr (.kn 1 [12] r (.condP r hd (fun c hd=>?_) fun c hd=>?_)))
   · exact .sr (.kn 1 [4] r (.r0 results114 r ⟨0,r,hd⟩))
   exact .sn [] r (.sr (.kn 1 [4] r (.r0 results114 r ⟨(-1),r,hd⟩)))
 refine .sn [6,1,0] r (.seq (.sr (.kn 1 [13,1,0] r (.condP r hd (fun d hd=>?_) fun d hd=>?_))))
 · exact .sr (.kn 1 [4] r (.r0 results114 r ⟨1,r,hd⟩))
 refine .sn [1,0] r (.seq (.sr (.kn 3 [16,1,0] r (.condP r hd (fun e hd=>?_) fun e hd=>?_))))
 · exact .sr (.kn 1 [4] r (.r0 results114 r ⟨(-1),r,hd⟩))
 refine .sn [1,0] r (.seq (.sr (.kn 3 [19] r (.condP r hd (fun f hd=>?_) fun f hd=>?_))))
 · exact .sr (.kn 1 [4] r (.r0 results114 r ⟨1,r,hd⟩))
 exact .sn [] r (.sr (.kn 1 [4] r (.r0 results114 r ⟨0,r,hd⟩)))
theorem xI {a0 a1:AD} {Q:Int→Prop} (hd:ZH a0 a1 Q) :
  BR prog 288 [.agg (ZE a0).toArray,.agg (ZE a1).toArray] I (fun _=>kO Q):=by
 refine Fun.en func288 ntmps288 r fun w0 M=>?_
 refine .sr (.bx r fun o=>?_)
 refine .bx r fun p=>?_
 refine .kn 1 [3,2] r (.seq (.dr [0,1,2,3,5,6,7,8,4,9,10,11] 12 (.fk 1 r (.h r (fun _=>.lo BF .p1 r .mk) (.fk 1 r (.h r (fun _=>.lo BF .z r .mk) (.fk 1 r (.h r (fun _=>.lo BF .p1 r .mk) (.fk 1 r ?_)))))))))
 refine .h r (fun _=>.lo BF .z r .mk) (.ww r fun ex=>?_)
 have b:=CX (I:=I) hd
 refine .cq call114 b r fun g hd=>?_
 refine .so 2 r r r (.ch r (fun _=>.lo BF .z r .mk) (.ck 1 r r (.ch r (fun _=>.lo BF .p1 r .mk) (.ck 1 r r trivial)))) (.ww r fun ex=>?_)
 have d:=CX (I:=I) hd
 refine .cq call114 d r fun a hd=>?_
 refine .so 2 r r r trivial (.ww r fun ex=>?_)
 refine .buildSlice 2 BT EX nL r r (.c r r r (.c r r r .n)) r r fun m=>?_
 refine .so 3 r r r trivial (.ww r fun ex=>?_)
 refine .pubB (El:=AE) (ys:=([g,a]:List Int)) (k:=2) .z (RepCs.cons (cs:=[.int .i64 g]) r (RepCs.cons (cs:=[.int .i64 a]) r .nil)) r fun i e j=>?_
 have f:=JE (I:=i) j hd
 refine .cq call113 f r fun l hd=>?_
 exact .so 2 r r r trivial (.e2 12 (.kn 1 [4] r (.drop .z (.drop .z (.r1 results288 r e ⟨l,r,hd⟩)))))
theorem sY {a0:Int} {a1:List AD} {Q:((List AD)×Int)→Prop} (R3:RepSl BV I p1 c2 a1) (hd:TL a0 a1 Q) :
  BR prog 257 [.int .i64 a0,.slice p1 a1.length c2] I (fun I_ v=>∃ r p4 c5,v=.tuple #[.slice p4 r.1.length c5,.int .i64 r.2]∧RepSl BV I_ p4 c5 r.1∧Q r):=by
 refine Fun.en func257 ntmps257 r fun w0 M=>?_
 refine .sk 2 r (.ns [1,0] r (.mkMap CU KJ true r r fun b9=>?_))
 refine .kn 1 [6,1,0] r (.seq (.sk 1 r (.ln JG r (.kn 1 [21,20,19,6,0] r (.block (.lp hd [20,19,6,0] [] r (fun j E l (e,g)=>j ((21,.int .i64 g) :: E) (OwnMap CU KJ true b9 e :: l)) (ji rf [0] r) ?_))))))
 rintro ⟨e,g⟩ b7 hd
 refine jq r fun F d=>?_
 have R3:=d.u1 R3
 refine .sr (.kn 1 [22,21,20,19,6,0] r (.seq (.condP r hd (fun N hd=>?_) fun N hd=>?_)))
 · refine .sn [21,20,19,6,0] r (.seq (.block (.sr ?_)))
   obtain ⟨G,b,B,hd⟩:=hd
   obtain ⟨b314,o315,cs316,b2,O,P⟩:=R3.2 _ _ B
   cases P
   refine .ixa JG KD r b2 r G (AH B G) r r (.ldW isAgg103 KD O r r r r (.al RK r fun b320=>?_))
   refine .sa KD .z r (.nk [8,21,20,19,6,0] 1 r (.lo BF .z r (.ks 1 r (.lo BF .z r (.buildArr LX OC EX (.c r r r (.o r) (.c r r r (.o r) .n)) r r (.al LX r fun b324=>?_))))))
   refine .sa HK .z r (.nk [9,8,21,20,19,6,0] 1 r (.lo UT .p1 r ?_))
   have R:=IB (I:=F) hd
   refine .cq call183 R r fun h hd=>?_
   refine .al DK r fun b336=>?_
   refine .sa AU .z r (.no [10,9,21,20,19,6,0] r (.drop .p2 (.seq (.sk 1 r (.lw LW HK .p1 r (.lookM2 (k:=(b.Row,b.Col)) (El:=KJ) (ag:=true) (zv:=.agg #[.int .i64 0,.int .u64 0]) (z:=({ Hi:=0,Lo:=0 }:AN)) WH gY DK ⟨[.int .i64 0,.int .u64 0],r,.a⟩ .p2 r r hd r r fun v341 r338 t343 cs342 hd S U=>?_))))))
   cases S
   cases U
   refine .ks 3 r (.al DK r fun b344=>?_)
   refine .sa AU .z r (.ks 1 r (.nk [12,11,10,9,21,20,19,6,0] 1 r (.no [39,11,10,9,21,20,19,6,0] r (.condP r hd (fun V hd=>?_) fun V hd=>?_))))
   · refine .region (.ks 1 r (.lw BP AU .z r (.lw BP AU .p1 r ?_)))
     have W:=UK (I:=F) hd
     refine .cq call184 W r fun m hd=>?_
     refine .sa AU .p1 r (.no [10,9,21,20,19,6,0] r (.drop .z (.region (.ks 1 r (.lw LW HK .p1 r (.lw BP AU .z r (.updM (k:=(b.Row,b.Col)) (El:=KJ) (ag:=true) (v:=m) WH gY .p2 r r r ⟨[.int .i64 m.Hi,.int .u64 m.Lo],r,.a⟩ (.no [21,20,19,6,0] r (.drop .z ?_)))))))))
     exact .drop .z (.region (.ks 2 r (.nil' (je ((EO (b.Row,b.Col) m e),AJ (g+1)) hd d [0] r))))
   refine .sn [10,9,21,20,19,6,0] r (.drop .z (.region (.ks 1 r (.lw LW HK .p1 r (.lw BP AU .z r (.updM (k:=(b.Row,b.Col)) (El:=KJ) (ag:=true) (v:=h) WH gY .p2 r r r ⟨[.int .i64 h.Hi,.int .u64 h.Lo],r,.a⟩ (.no [21,20,19,6,0] r (.drop .z (.drop .z ?_)))))))))
   exact .region (.ks 2 r (.nil' (je ((EO (b.Row,b.Col) h e),AJ (g+1)) hd d [0] r)))
 refine .en [6,0] r (.sr (.kn 1 [13,6,0] r (.seq (.sk 1 r (.rangeM gY .z r r r fun b3=>?_)))))
 refine .no [49,13,0] r (.block (.own0 BV 103 (.lx hd [49,0] [] r (fun j E l (p,H)=>fun c w=>∃ q s,j ⟨75,[],none⟩ (fun I_=>True) ((13,.slice q p.length s) :: E) (OwnSl BV 103 q s p :: OwnIt CU KJ true b9 b3 e H none :: l) c w) (fun c w ho hs=>⟨_,_,jf rf trivial [0,0] r ho hs⟩) ?_)))
 rintro ⟨p,H⟩ b8 hd c w ⟨q,s,K,u,_,hok,hsym⟩
 have C:=u.u1 d
 refine Cod.at hok hsym (.sr (.nextM .p1 r hd r r (fun hd X=>?_) (fun A b4 v483 cs484 hd Y Z X=>?_)))
 · skip
   refine .kn 1 [51,49,13,0] r (.seq (.condKF r r (.en [13] r (.drop .p1 (.sk 1 r ?_)))))
   have a2:=Fun.sort (hk:=fun _=>⟨r,r⟩) AjQ isAgg103 KD (fun x y J Q hq=>xI (I:=J) (a0:=x) (a1:=y) (Q:=Q) hq) call288 (I:=K) (T:=103) (a:=q) (cap:=s) hd
   refine .callS (.f call287 r) (.o [0] r) a2 r r fun v489 I490 l491 a3 a4=>?_
   obtain ⟨b5,rfl,D,rfl,hd⟩:=a4
   obtain ⟨a5,a6⟩:=a3.u2 C u
   refine .rl .z [13,72] r (by rw [D]) (.nk [13] 3 r (.no [5,4] r (.pub .z fun I498 a7 b6=>?_)))
   obtain ⟨a8,le502⟩:=a7.u2 a5 a6
   exact .ret (BS results257 (.t r (.t r .n)) a8 ⟨(b5,0),_,_,r,b6,hd⟩)
 cases Y
 cases Z
 refine .kn 1 [51,49,13,0] r (.seq (.condKT r r (.sn [49,13,0] r (.block (.sr (.entryM .z r r r (.ks 2 r (.al LX r fun b507=>?_))))))))
 refine .al DK r fun b509=>?_
 refine .sa HK .p1 r (.sa AU .z r (.nk [15,14,49,13,0] 1 r (.lw BP AU .z r ?_)))
 have a9:=QA (I:=K) hd
 refine .cq call185 a9 r fun L hd=>?_
 refine .kn 5 [17,16,14,49,13,0] r (.drop .z (.seq (.sr (.kn 2 [62,16,14,49,13,0] r (.condP r hd (fun b0 hd=>?_) fun b0 hd=>?_)))))
 · exact .sr (.kn 2 [5,4] r (.drop .z (.drop .z (.drop .z (.ret (BS results257 (.t r (.t r .n)) C ⟨(([]:List AD),12),_,_,r,(.nil _ _ _),hd⟩))))))
 refine .sn [16,14,49,13,0] r (.region (.ks 1 r (.ixArr (i:=0) OC EX r r (by decide) (o:=0) r r r (.lo BF .z r (.ixArr (i:=1) OC EX r r (by decide) (o:=1) r r r (.lo BF .z r (.ks 1 r (.build RK oT oP (.c r r r (.o r) (.c r r r (.o r) (.c r r r (.o r) .n))) (by exact ⟨⟨_,_,r,r,r⟩,⟨⟨_,_,r,r,r⟩,⟨⟨_,_,r,r,r⟩,trivial⟩⟩⟩) r r (.buildSlice 1 JG KD RK r r (.c r r r .n) r r fun b520=>?_)))))))))
 obtain ⟨b1,hd⟩:=hd
 refine .append (ys:=[({ Row:=A.1.1,Col:=A.1.2,Val:=L.1 }:AD)]) 24 .p3 JG JG kM r r r r r r r r r (.box .z (.one r) r) b1 r r fun p523 c524=>?_
 exact .ks 1 r (.nil' fun c w ho hs=>⟨((p++([({ Row:=A.1.1,Col:=A.1.2,Val:=L.1 }:AD)])),b4),hd,_,_,jf u trivial [0,2] r ho hs⟩)
theorem mS {o0 o1:Int} {a0:AD} {Q:Bool→Prop} (hd:WZ o0 o1 a0 Q) :
  Fun prog 256 #[.agg (ZE a0).toArray,.pointer (some ⟨b3,0,none⟩),.pointer (some ⟨b4,0,none⟩)] I [pto b3 (.cells #[.int .i64 o0] 3 (0,0)),pto b4 (.cells #[.int .i64 o1] 3 (0,0))] (fun I_ v l=>∃ r,v=.bool r∧l=[pto b3 (.cells #[.int .i64 o0] 3 (0,0)),pto b4 (.cells #[.int .i64 o1] 3 (0,0))]∧Q r):=by
 refine Fun.en func256 ntmps256 r fun w0 M=>?_
 refine .sr (.bx r fun g=>?_)
 refine .ks 1 r (.nk [3,2,1] 1 r (.lo BF .z r (.lo BF .p1 r (.ks 1 r ?_))))
 have b:=HL (I:=I) hd
 refine .cq call167 b r fun h hd=>?_
 refine .ks 2 r ?_
 refine AQ hd (fun a hd=>?_) fun a hd=>?_
 · rw [a]
   exact .kn 8 [4,2,1] r (.drop .z (.q1 results256 rf [0,0] r ⟨true,r,r,hd⟩))
 rw [a]
 refine .ks 1 r (.yes r (.lo BF .z r (.yes r (.lo BF .p2 r (.ks 1 r ?_)))))
 have c:=HL (I:=I) hd
 refine .yes r (.callP call167 r c r r fun f d=>?_)
 obtain ⟨e,rfl,hd⟩:=d
 exact .kn 3 [4,2,1] r (.drop .z (.q1 results256 rf [0,0] r ⟨(!e),r,r,hd⟩))
theorem IC {o0 o1:Int} {a0:List AD} {Q:Int→Prop} (R7:RepSl BV I p5 c6 a0) (hd:DD o0 o1 a0 Q) :
  Fun prog 286 #[.slice p5 a0.length c6,.func (.func 256) #[] #[.pointer (some ⟨b3,0,none⟩),.pointer (some ⟨b4,0,none⟩)]] I [pto b3 (.cells #[.int .i64 o0] 3 (0,0)),pto b4 (.cells #[.int .i64 o1] 3 (0,0))] (fun I_ v l=>∃ r,v=.int .i64 r∧l=[pto b3 (.cells #[.int .i64 o0] 3 (0,0)),pto b4 (.cells #[.int .i64 o1] 3 (0,0))]∧Q r):=by
 refine Fun.en func286 ntmps286 r fun w0 M=>?_
 refine .sr (.kn 1 [1,0] r (.seq (.sk 1 r (.ln JG r (.kn 1 [8,7,1,0] r (.block (.lp hd [7,1,0] [0,0] r (fun j E l d=>j ((8,.int .i64 d) :: E) l) (ji rf [0,0] r) ?_)))))))
 refine fun d q hd=>jq r fun s a=>?_
 have R7:=a.u1 R7
 refine .sr (.kn 1 [9,8,7,1,0] r (.seq (.condP r hd (fun h hd=>?_) fun h hd=>?_)))
 · refine .sn [8,7,1,0] r (.seq (.block (.sk 2 r (.nk [5,8,7,1,0] 3 r ?_))))
   obtain ⟨g,t,e,hd⟩:=hd
   obtain ⟨x,o59,w,u,b,i⟩:=R7.2 _ _ e
   cases i
   refine .ixa JG KD r u r g (AH e g) r r (.ldW isAgg103 KD b r r r r ?_)
   have k:=mS (I:=s) (o0:=o0) (o1:=o1) (a0:=t) (b3:=b3) (b4:=b4) hd
   refine .callS (.c call256 r r) (.o [0,0] r) k r r fun y z A m n=>?_
   obtain ⟨B,rfl,rfl,hd⟩:=n
   obtain ⟨f,R7,b⟩:=m.u3 a R7 b
   refine .rn 2 r (.no [16,5,8,7,1,0] r (.condP r hd (fun p hd=>?_) fun p hd=>?_))
   · exact .sr (.kn 2 [4,1] r (.q1 results286 f [0,0] r ⟨d,r,r,hd⟩))
   exact .sn [8,7,1,0] r (.region (.ks 2 r (.nil' (je (AJ (d+1)) hd f [0,0] r))))
 exact .en [1] r (.sr (.kn 1 [4,1] r (.q1 results286 a [0,0] r ⟨(-1),r,r,hd⟩)))
theorem HM {o0 o1:Int} {a0:List AD} {Q:Bool→Prop} (R7:RepSl BV I p5 c6 a0) (hd:CS o0 o1 a0 Q) :
  Fun prog 255 #[.slice p5 a0.length c6,.func (.func 256) #[] #[.pointer (some ⟨b3,0,none⟩),.pointer (some ⟨b4,0,none⟩)]] I [pto b3 (.cells #[.int .i64 o0] 3 (0,0)),pto b4 (.cells #[.int .i64 o1] 3 (0,0))] (fun I_ v l=>∃ r,v=.bool r∧l=[pto b3 (.cells #[.int .i64 o0] 3 (0,0)),pto b4 (.cells #[.int .i64 o1] 3 (0,0))]∧Q r):=by
 refine Fun.en func255 ntmps255 r fun w0 M=>?_
 refine .sk 1 r (.nk [1,0] 2 r ?_)
 have c:=IC (I:=I) (o0:=o0) (o1:=o1) (a0:=a0) (b3:=b3) (b4:=b4) R7 hd
 refine .callS (.f call286 r) (.o [0,0] r) c r r fun e h g a b=>?_
 obtain ⟨d,rfl,rfl,hd⟩:=b
 have R7:=a.u1 R7
 exact .rn 2 r (.kn 2 [4,1] r (.q1 results255 a [0,0] r ⟨(decide (0≤d)),r,r,hd⟩))
theorem mT {a0 a1 a2:Int} {a3:List AD} {Q:(Rows×Int)→Prop} (R3:RepSl BV I p1 c2 a3) (hd:TM a0 a1 a2 a3 Q) :
  BR prog 208 [.int .i64 a0,.int .i64 a1,.int .i64 a2,.slice p1 a3.length c2] I (o8_ Q):=by
 refine Fun.en func208 ntmps208 r fun w0 M=>?_
 refine .sr (.box1 r r r r fun V=>?_)
 refine .box1 r r r r fun W=>?_
 refine .al FO r fun c0=>?_
 refine .kn 1 [8,6,5,3,0] r (.seq (.block (.sk 1 r ?_)))
 have H:=ND (I:=I) hd
 refine .cq call100 H r fun c1 hd=>?_
 refine .kn 2 [12,8,6,5,3,0] r (.condP r hd (fun J hd=>?_) fun J hd=>?_)
 · exact .sr (.build FO OQ OP .n (by exact trivial) r r (.sa BH .z r (.kn 1 [9,8] r (.drop .p1 (.drop .p1 (.ret (BS results208 (.w CF BH r .z r (.t r .n)) rf ⟨(({ Rows:=0,Cols:=0,Start:=([]:List Int),Col:=([]:List Int),Val:=([]:List Int) }:Rows),8),_,_,_,_,_,_,r,(.nil _ _ _),(.nil _ _ _),(.nil _ _ _),hd⟩)))))))
 refine .seq (.jn hd [8,6,5,3,0] [2,1,0] r (fun j E l g=>j ((17,.bool g) :: E) l) (fun X hd=>?_) ?_)
 · skip
   refine .region (.lo BF .p2 r ?_)
   have h:=HL (I:=I) hd
   refine .cq call167 h r fun Y hd=>?_
   refine .ks 2 r ?_
   refine AQ hd (fun b hd=>?_) fun b hd=>?_
   · rw [b]
     exact .ks 5 r (.nil' (je true hd rf [2,1,0] r))
   rw [b]
   refine .yes r (.lo BF .p1 r ?_)
   have i:=HL (I:=I) hd
   refine .yes r (.callP call167 r i r r fun Z k=>?_)
   obtain ⟨K,rfl,hd⟩:=k
   exact .ks 3 r (.nil' (je (!K) hd rf [2,1,0] r))
 refine fun g hd=>jq r fun L a=>?_
 have R3:=a.u1 R3
 refine .condP r hd (fun m hd=>?_) fun m hd=>?_
 · exact .sr (.build FO OQ OP .n (by exact trivial) r r (.sa BH .p2 r (.kn 1 [9,8] r (.drop .z (.drop .z (.ret (BS results208 (.w CF BH r .z r (.t r .n)) a ⟨(({ Rows:=0,Cols:=0,Start:=([]:List Int),Col:=([]:List Int),Val:=([]:List Int) }:Rows),3),_,_,_,_,_,_,r,(.nil _ _ _),(.nil _ _ _),(.nil _ _ _),hd⟩)))))))
 refine .sk 1 r (.ln JG r (.kn 2 [27,8,6,5,3,0] r (.condP r hd (fun p hd=>?_) fun p hd=>?_)))
 · exact .sr (.build FO OQ OP .n (by exact trivial) r r (.sa BH .p2 r (.kn 1 [9,8] r (.drop .z (.drop .z (.ret (BS results208 (.w CF BH r .z r (.t r .n)) a ⟨(({ Rows:=0,Cols:=0,Start:=([]:List Int),Col:=([]:List Int),Val:=([]:List Int) }:Rows),5),_,_,_,_,_,_,r,(.nil _ _ _),(.nil _ _ _),(.nil _ _ _),hd⟩)))))))
 refine .sk 1 r (.mkFn r r r r ?_)
 have q:=HM (I:=L) (o0:=a1) (o1:=a2) (a0:=a3) (b3:=V) (b4:=W) R3 hd
 refine .callS (.f call255 r) (.o [0,0] r) q r r fun a4 N a5 s u=>?_
 obtain ⟨a6,rfl,rfl,hd⟩:=u
 obtain ⟨d,R3⟩:=s.u2 a R3
 refine .rn 3 r (.kn 1 [32,8,6,5,3,0] r (.condP r hd (fun v hd=>?_) fun v hd=>?_))
 · exact .sr (.build FO OQ OP .n (by exact trivial) r r (.sa BH .p2 r (.kn 1 [9,8] r (.drop .z (.drop .z (.ret (BS results208 (.w CF BH r .z r (.t r .n)) d ⟨(({ Rows:=0,Cols:=0,Start:=([]:List Int),Col:=([]:List Int),Val:=([]:List Int) }:Rows),3),_,_,_,_,_,_,r,(.nil _ _ _),(.nil _ _ _),(.nil _ _ _),hd⟩)))))))
 refine .sn [8,6,5,3,0] r (.sk 2 r ?_)
 have x:=sY (I:=N) R3 hd
 refine .call call257 r x r r fun a7 O y A=>?_
 obtain ⟨P,a8,a9,rfl,c,hd⟩:=A
 obtain ⟨e,R3⟩:=y.u2 d R3
 refine .kn 5 [11,10,8,6,5] r (.seq (.sr (.kn 2 [44,11,10,8,6,5] r (.condP r hd (fun B hd=>?_) fun B hd=>?_))))
 · exact .sr (.build FO OQ OP .n (by exact trivial) r r (.ks 1 r (.sa BH .p2 r (.kn 1 [9,8] r (.drop .z (.drop .z (.ret (BS results208 (.w CF BH r .z r (.t r .n)) e ⟨(({ Rows:=0,Cols:=0,Start:=([]:List Int),Col:=([]:List Int),Val:=([]:List Int) }:Rows),P.2),_,_,_,_,_,_,r,(.nil _ _ _),(.nil _ _ _),(.nil _ _ _),hd⟩))))))))
 refine .sn [10,8,6,5] r (.sr (.lo BF .z r (.lo BF .p1 r (.ks 1 r ?_))))
 have C:=YX (I:=O) c hd
 refine .call call194 r C r r fun b0 b1 D F=>?_
 obtain ⟨R,b2,b5,b6,b7,b8,b9,rfl,S,T,U,hd⟩:=F
 obtain ⟨G,c⟩:=D.u2 e c
 exact .sa BH .p2 r (.kn 1 [9,8] r (.drop .z (.drop .z (.ret (BS results208 (.w CF BH r .z r (.t r .n)) G ⟨(R,0),_,_,_,_,_,_,r,S,T,U,hd⟩)))))
theorem xJ {a0:List Rows} {Q:(List Rows)→Prop} (R3:RepSl uD I p1 c2 a0) (hd:ZI a0 Q) :
  BR prog 265 [.slice p1 a0.length c2] I (fun I_ v=>∃ r p4 c5,v=.slice p4 r.length c5∧RepSl uD I_ p4 c5 r∧Q r):=by
 refine Fun.en func265 ntmps265 r fun w0 M=>?_
 refine .sk 1 r (.nk [0] 1 r (.no [3,0] r (.seq (.sk 1 r (.ln TX r (.kn 1 [8,7,6,3] r (.block (.own0 uD 33 (.lx hd [7,6] [] r (fun j E l (a,g)=>fun c w=>∃ h i,j ⟨25,[],none⟩ (fun I_=>True) ((3,.slice h a.length i) :: (8,.int .i64 g) :: E) (OwnSl uD 33 h i a :: l) c w) (fun c w ho hs=>⟨_,_,jf rf trivial [0] r ho hs⟩) ?_)))))))))
 rintro ⟨a,g⟩ R hd c w ⟨h,i,m,b,_,hok,hsym⟩
 have R3:=b.u1 R3
 refine Cod.at hok hsym (.sr (.kn 1 [9,8,7,6,3] r (.seq (.condP r hd (fun s hd=>?_) fun s hd=>?_))))
 · refine .sn [8,7,6,3] r (.seq (.block (.sr ?_)))
   obtain ⟨o,p,k,hd⟩:=hd
   obtain ⟨T,o209,S,K,t,u⟩:=R3.2 _ _ k
   obtain ⟨U,V,W,X,Y,Z,rfl,d,e,f⟩:=u
   refine .ixa TX BH r K r o (AH k o) r r (.ldW CF BH t r r r r (.al FO r fun a1=>?_))
   refine .sa BH .z r (.no [5,8,7,6,3] r (.seq (.sr (.lw CF BH .z r ?_))))
   have x:=NE (I:=m) d e f hd
   refine .cq call101 x r fun a2 hd=>?_
   refine .kn 1 [14,5,8,7,6,3] r (.condP r hd (fun y hd=>?_) fun y hd=>?_)
   · refine .region (.lw CF BH .z r (.buildArr LX OC EX .n r r (.buildArr LX OC EX .n r r ?_)))
     have A:=SY (I:=m) d e f hd
     refine .call call139 r A r r fun a3 a4 B C=>?_
     obtain ⟨q,a5,a6,a7,a8,a9,b0,rfl,L,N,O,hd⟩:=C
     obtain ⟨D,R3,d,e,f⟩:=B.u5 b R3 d e f
     refine .sa BH .z r (.no [5,8,7,6,3] r (.region (.ks 1 r (.lw CF BH .z r (.buildSlice 1 TX BH FO r r (.c r r r .n) r r fun b1=>?_)))))
     obtain ⟨F,hd⟩:=hd
     refine .append (ys:=[q]) 88 .p2 TX TX Aj5 r r r r r r r r r (.box .z (.one ⟨_,_,_,_,_,_,r,L,N,O⟩) r) F r r fun b2 b3=>?_
     exact .kn 1 [3,8,7,6] r (.drop .p1 (.drop .p1 (.region (.ks 2 r (.nil' fun c w ho hs=>⟨((a++([q])),AJ (g+1)),hd,_,_,jf D trivial [0] r ho hs⟩)))))
   refine .sn [5,8,7,6,3] r (.region (.ks 1 r (.lw CF BH .z r (.buildSlice 1 TX BH FO r r (.c r r r .n) r r fun b4=>?_))))
   obtain ⟨G,hd⟩:=hd
   refine .append (ys:=[p]) 88 .p2 TX TX Aj5 r r r r r r r r r (.box .z (.one ⟨_,_,_,_,_,_,r,d,e,f⟩) r) G r r fun b5 b6=>?_
   exact .kn 1 [3,8,7,6] r (.drop .p1 (.drop .p1 (.region (.ks 2 r (.nil' fun c w ho hs=>⟨((a++([p])),AJ (g+1)),hd,_,_,jf b trivial [0] r ho hs⟩)))))
 refine .en [3] r (.sr (.kn 2 [2] r (.pub .z fun b7 H P=>?_)))
 have J:=H.u1 b
 exact .r1 results265 r J ⟨a,_,_,r,P,hd⟩
theorem Z1 {a0:Rows} {a1:Int} {Q:((List Int)×(List Int))→Prop} (R3:RepSl AE I p1 c2 a0.Start) (R6:RepSl AE I p4 c5 a0.Col) (R9:RepSl AE I p7 c8 a0.Val) (hd:SO a0 a1 Q) :
  BR prog 266 [.agg #[.int .i64 a0.Rows,.int .i64 a0.Cols,.slice p1 a0.Start.length c2,.slice p4 a0.Col.length c5,.slice p7 a0.Val.length c8],.int .i64 a1] I (AjJ Q):=by
 refine Fun.en func266 ntmps266 r fun w0 M=>?_
 refine .sr (.bx r fun G=>?_)
 refine .kn 2 [2,1] r (.seq (.dr [0,1,2,3,4,5,6,7,8,9,10,11] 12 (.fk 1 r (.h r (fun _=>.lo GS .z r .mk) (.fk 1 r ?_)))))
 obtain ⟨e,b,c,hd⟩:=hd
 obtain ⟨J,o42,E,s,m,o⟩:=R3.2 _ _ c
 cases o
 refine .h r (fun _=>.ixa BT EX r s r e (AH c e) r r .mk) (.h r (fun _=>.ld1 (j:=0) BF m r r r r r .mk) (.fk 1 r (.h r (fun _=>.lo GS .z r .mk) (.fk 2 r ?_))))
 obtain ⟨f,a,d,hd⟩:=hd
 obtain ⟨K,o51,F,u,p,q⟩:=R3.2 _ _ d
 cases q
 refine .h r (fun _=>.ixa BT EX r u r f (AH d f) r r .mk) (.h r (fun _=>.ld1 (j:=0) BF p r r r r r .mk) (.fk 1 r (.e2 12 (.kn 1 [7,6,2] r (.seq (.dr [0,1,2,3,4,5,6,7,8,9,10,11,12] 13 (.fk 1 r (.h r (fun _=>.lo GS .z r .mk) (.fk 3 r ?_)))))))))
 obtain ⟨v,N,O,hd⟩:=hd
 have g:Int.toNat b≤Int.toNat a:=by omega
 have i:Int.toNat a≤a0.Col.length:=by omega
 obtain ⟨P,R,w,x,y⟩:=RepSl.sliceW R6 (Int.toNat b) (Int.toNat a) (Int.toNat a) g i (.inr rfl)
 refine .h r (fun _=>.sliceW (L:=Int.toNat b) (H:=Int.toNat a) (cm:=Int.toNat a) BT EX r r R6.1 r r r (.inr ⟨_,_,r,v,r⟩) (.inr ⟨_,_,r,(by omega),r⟩) (.inr r) g i r w x r r .mk) (.fk 1 r (.h r (fun _=>.lo qQ .z r .mk) (.fk 3 r ?_)))
 obtain ⟨A,S,T,hd⟩:=hd
 have k:Int.toNat b≤Int.toNat a:=by omega
 have l:Int.toNat a≤a0.Val.length:=by omega
 obtain ⟨U,V,B,C,D⟩:=RepSl.sliceW R9 (Int.toNat b) (Int.toNat a) (Int.toNat a) k l (.inr rfl)
 exact .h r (fun _=>.sliceW (L:=Int.toNat b) (H:=Int.toNat a) (cm:=Int.toNat a) X2 sz2 r r R9.1 r r r (.inr ⟨_,_,r,A,r⟩) (.inr ⟨_,_,r,(by omega),r⟩) (.inr r) k l r B C r r .mk) (.fk 1 r (.e2 13 (.kn 1 [5,4] r (.drop .z (.ret (BS results266 (.t r (.t r .n)) rf ⟨(((a0.Col.take a.toNat).drop b.toNat),((a0.Val.take a.toNat).drop b.toNat)),_,_,_,_,r,y,D,hd⟩))))))
theorem JP {a0:Int} {Q:(Int×Int)→Prop} (hd:HE a0 Q) :
  BR prog 341 [.int .u64 a0] I (fun I_ v=>∃ r,v=.agg #[.int .u64 r.1,.int .u64 r.2]∧Q r):=by
 refine Fun.en func341 ntmps341 r fun w0 M=>?_
 refine .sr (.al oX r fun a=>?_)
 exact .nk [2,0] 1 r (.shl' r r (by decide) r r (.shr' r r (by decide) r r (.ks 1 r (.shr' r r (by decide) r r (.buildArr oX LH GD (.c r r r (.o r) (.c r r r (.o r) .n)) r r (.sa sizeOf351 .z r (.no [2] r (.ret (BS results341 (.w isAgg351 sizeOf351 r .z r .n) rf ⟨(shr .u64 (shl .u64 a0 32) 32,shr .u64 a0 32),r,hd⟩)))))))))
theorem mU {a0 a1:Int} {Q:AN→Prop} (hd:RU a0 a1 Q) :
  BR prog 326 [.int .u64 a0,.int .u64 a1] I (fun _=>o1_ Q):=by
 refine Fun.en func326 ntmps326 r fun w0 M=>?_
 refine .sr (.al DK r fun A=>?_)
 refine .nk [4,1,0] 1 r ?_
 have e:=JP (I:=I) hd
 refine .cq call341 e r fun m hd=>?_
 refine .ks 1 r ?_
 have f:=JP (I:=I) hd
 refine .cq call341 f r fun p hd=>?_
 refine .al oX r fun t=>?_
 refine .al oX r fun u=>?_
 refine .sa sizeOf351 .p1 r (.sa sizeOf351 .z r (.ns [6,5,4] r (.ixArr (i:=0) LH GD r r (by decide) (o:=0) r r r (.lo DZ .p1 r (.ixArr (i:=0) LH GD r r (by decide) (o:=0) r r r (.lo DZ .z r (.kn 2 [7,6,5,4] r (.seq (.dr [0,1,2,3,4,5,10,6,7,8,9,999] 11 ?_)))))))))
 refine .h r (fun _=>.ixArr (i:=1) LH GD r r (by decide) (o:=1) r r r .mk) (.h r (fun _=>.lo DZ .p1 r .mk) (.h r (fun _=>.ixArr (i:=0) LH GD r r (by decide) (o:=0) r r r .mk) (.h r (fun _=>.lo DZ .z r .mk) (.fk 2 r (.a (fun b=>.pointer (some ⟨b,0,none⟩)) (fun b=>pto b (.cells #[.int .u64 0,.int .u64 0] 351 (0,0))) r r r r (fun _ L hL ex=>.al oX r fun b=>.mk (val:=fun b=>.pointer (some ⟨b,0,none⟩)) (atom:=fun b=>pto b (.cells #[.int .u64 0,.int .u64 0] 351 (0,0))) hL b) (.ww r fun ex=>?_))))))
 have g:=JP (I:=I) hd
 refine .cq call341 g r fun v hd=>?_
 refine .so 3 r r r (.ck 1 r r (.ch r (fun _=>.lo DZ .z r .mk) (.ch r (fun _=>.ixArr (i:=0) LH GD r r (by decide) (o:=0) r r r .mk) (.ch r (fun _=>.lo DZ .p1 r .mk) (.ch r (fun _=>.ixArr (i:=1) LH GD r r (by decide) (o:=1) r r r .mk) trivial))))) (.h r (fun _=>.index1 (i:=1) LH GD DZ r r (by decide) r r r .mk) (.fk 1 r (.ww r fun ex=>?_)))
 have j:=JP (I:=I) hd
 refine .cq call341 j r fun q hd=>?_
 refine .so 3 r r r trivial (.b r fun x=>DrawD.nop (.e2 11 (.sa sizeOf351 .p3 r (.ns [8,7,6,5,4] r (.ixArr (i:=0) LH GD r r (by decide) (o:=0) r r r (.lo DZ .p1 r (.ixArr (i:=1) LH GD r r (by decide) (o:=1) r r r (.lo DZ .z r (.ks 1 r ?_)))))))))
 refine .ixArr (i:=0) LH GD r r (by decide) (o:=0) r r r (.lo DZ .p3 r (.ks 1 r ?_))
 have k:=JP (I:=I) hd
 refine .cq call341 k r fun d hd=>?_
 refine .al oX r fun y=>?_
 refine .sa sizeOf351 .z r (.no [9,8,7,6,5,4] r (.seq (.dr [0,1,2,3,4,5,6,7,8,9,10,11,12,13,14,15,16,17,18,19] 20 (.h r (fun _=>.ixArr (i:=1) LH GD r r (by decide) (o:=1) r r r .mk) (.h r (fun _=>.lo DZ .p2 r .mk) (.h r (fun _=>.ixArr (i:=1) LH GD r r (by decide) (o:=1) r r r .mk) (.h r (fun _=>.lo DZ .p1 r .mk) (.fk 1 r (.h r (fun _=>.ixArr (i:=1) LH GD r r (by decide) (o:=1) r r r .mk) ?_)))))))))
 refine .h r (fun _=>.lo DZ .p4 r .mk) (.fk 1 r (.h r (fun _=>.ixArr (i:=1) LH GD r r (by decide) (o:=1) r r r .mk) (.h r (fun _=>.lo DZ .z r .mk) (.fk 1 r (.h r (fun _=>.conv OA qP r r r .mk) (.h r (fun _=>.ixArr (i:=0) LH GD r r (by decide) (o:=0) r r r .mk) (.h r (fun _=>.lo DZ .z r .mk) (.h r (fun _=>.shl' r r (by decide) r r .mk) (.fk 1 r ?_)))))))))
 refine .ww r fun ex=>?_
 have l:=JP (I:=I) hd
 refine .cq call341 l r fun s hd=>?_
 refine .so 5 r r r (.ch r (fun _=>.shl' r r (by decide) r r .mk) (.ch r (fun _=>.lo DZ .z r .mk) (.ch r (fun _=>.ixArr (i:=0) LH GD r r (by decide) (o:=0) r r r .mk) (.ch r (fun _=>.conv OA qP r r r .mk) (.ck 1 r r (.ch r (fun _=>.lo DZ .z r .mk) (.ch r (fun _=>.ixArr (i:=1) LH GD r r (by decide) (o:=1) r r r .mk) (.ck 1 r r (.ch r (fun _=>.lo DZ .p4 r .mk) (.ch r (fun _=>.ixArr (i:=1) LH GD r r (by decide) (o:=1) r r r .mk) (.ck 1 r r (.ch r (fun _=>.lo DZ .p1 r .mk) (.ch r (fun _=>.ixArr (i:=1) LH GD r r (by decide) (o:=1) r r r .mk) (.ch r (fun _=>.lo DZ .p2 r .mk) (.ch r (fun _=>.ixArr (i:=1) LH GD r r (by decide) (o:=1) r r r .mk) trivial))))))))))))))) (.h r (fun _=>.index1 (i:=0) LH GD DZ r r (by decide) r r r .mk) (.fk 1 r (.h r (fun _=>.build DK OB NZ (.c r r r (.o r) (.c r r r (.o r) .n)) (by exact ⟨⟨_,_,r,r,r⟩,⟨⟨_,_,r,r,r⟩,trivial⟩⟩) r r .mk) (.e2 20 (.sa AU .p3 r (.no [4] r (.drop .z (.drop .z (.drop .z ?_)))))))))
 exact .drop .p1 (.ret (BS results326 (.w BP AU r .z r .n) rf ⟨({ Hi:=AJ (IntKind.wrap .u64 ((IntKind.wrap .u64 ((IntKind.wrap .u64 (m.2*p.2))+q.2))+d.2)),Lo:=bor .u64 (shl .u64 d.1 32) s.1 }:AN),r,hd⟩))
theorem iK {a0:Int} {Q:Int→Prop} (hd:WD a0 Q) :
  BR prog 327 [.int .i64 a0] I (fun _=>AhX Q):=by
 refine Fun.en func327 ntmps327 r fun w0 M=>?_
 refine .sr (.kn 1 [0] r (.seq (.sr (.kn 2 [4,0] r (.condP r hd (fun a hd=>?_) fun a hd=>?_)))))
 · exact .sk 1 r (.conv qP OA r r r (.neg r r r (.kn 1 [2] r (.r0 results327 r ⟨(IntKind.wrap .u64 (0 - (IntKind.wrap .u64 (a0)))),r,hd⟩))))
 exact .sn [0] r (.sk 1 r (.conv qP OA r r r (.kn 1 [2] r (.r0 results327 r ⟨(IntKind.wrap .u64 (a0)),r,hd⟩))))
theorem Aa1 {a0 a1:AN} {Q:AN→Prop} (hd:cW a0 a1 Q) :
  BR prog 328 [.agg (EZ a0).toArray,.agg (EZ a1).toArray] I (fun _=>o1_ Q):=by
 refine Fun.en func328 ntmps328 r fun w0 M=>?_
 refine .sr (.bx r fun e=>?_)
 refine .bx r fun f=>?_
 refine .al DK r fun d=>?_
 refine .no [4,3,2] r (.seq (.dr [0,1,2,3,4,5,6,7,8,9,10,11,15,16,17,18,19,12,13,14,20] 21 (.fk 1 r (.h r (fun _=>.lo UT .p2 r .mk) (.h r (fun _=>.conv qP OA r r r .mk) (.fk 1 r (.h r (fun _=>.lo UT .p1 r .mk) (.h r (fun _=>.conv qP OA r r r .mk) (.fk 2 r ?_)))))))))
 refine .h r (fun _=>.lo DZ .p2 r .mk) (.fk 1 r (.h r (fun _=>.lo DZ .p1 r .mk) (.fk 2 r (.h r (fun _=>.lo DZ .p2 r .mk) (.fk 1 r (.h r (fun _=>.lo DZ .p1 r .mk) (.fk 1 r (.ww r fun ex=>?_))))))))
 have a:=eO (I:=I) hd
 refine .cq call278 a r fun b hd=>?_
 exact .so 3 r r r (.ck 1 r r (.ch r (fun _=>.lo DZ .p1 r .mk) (.ck 1 r r (.ch r (fun _=>.lo DZ .p2 r .mk) (.ck 2 r r (.ch r (fun _=>.conv qP OA r r r .mk) (.ch r (fun _=>.lo UT .p1 r .mk) (.ck 1 r r (.ch r (fun _=>.conv qP OA r r r .mk) (.ch r (fun _=>.lo UT .p2 r .mk) (.ck 1 r r trivial))))))))))) (.fk 1 r (.h r (fun _=>.conv OA qP r r r .mk) (.h r (fun _=>.build DK OB NZ (.c r r r (.o r) (.c r r r (.o r) .n)) (by exact ⟨⟨_,_,r,r,r⟩,⟨⟨_,_,r,r,r⟩,trivial⟩⟩) r r .mk) (.e2 21 (.sa AU .z r (.no [4] r (.drop .p1 (.drop .p1 (.ret (BS results328 (.w BP AU r .z r .n) rf ⟨({ Hi:=AJ (IntKind.wrap .u64 ((IntKind.wrap .u64 ((IntKind.wrap .u64 (a0.Hi)) - (IntKind.wrap .u64 (a1.Hi)))) - b)),Lo:=IntKind.wrap .u64 (a0.Lo - a1.Lo) }:AN),r,hd⟩))))))))))
theorem Aa2 {a0 a1:Int} {Q:AN→Prop} (hd:cX a0 a1 Q) :
  BR prog 311 [.int .i64 a0,.int .i64 a1] I (fun _=>o1_ Q):=by
 refine Fun.en func311 ntmps311 r fun w0 M=>?_
 refine .sr (.al DK r fun k=>?_)
 refine .nk [4,1,0] 1 r ?_
 have a:=iK (I:=I) hd
 refine .cq call327 a r fun h hd=>?_
 refine .ks 1 r ?_
 have b:=iK (I:=I) hd
 refine .cq call327 b r fun i hd=>?_
 have c:=mU (I:=I) hd
 refine .cq call326 c r fun f hd=>?_
 refine .al DK r fun j=>?_
 refine .sa AU .z r (.no [5,4,1,0] r (.seq (.sk 4 r (.neB underlying4 r r r r (.no [15,5,4] r (.condP r hd (fun d hd=>?_) fun d hd=>?_))))))
 · refine .sr (.build DK OB NZ .n (by exact trivial) r r (.lw BP AU .z r ?_))
   have e:=Aa1 (I:=I) hd
   refine .cq call328 e r fun g hd=>?_
   exact .sa AU .p1 r (.no [4] r (.drop .z (.ret (BS results311 (.w BP AU r .z r .n) rf ⟨g,r,hd⟩))))
 exact .sn [5,4] r (.sr (.lw BP AU .z r (.sa AU .p1 r (.no [4] r (.drop .z (.ret (BS results311 (.w BP AU r .z r .n) rf ⟨f,r,hd⟩)))))))
theorem Aa3 {a0 a1 a2:Int} {Q:AN→Prop} (hd:cY a0 a1 a2 Q) :
  BR prog 297 [.int .i64 a0,.int .i64 a1,.int .i64 a2] I (fun _=>o1_ Q):=by
 refine Fun.en func297 ntmps297 r fun w0 M=>?_
 refine .sr (.al DK r fun Z=>?_)
 refine .no [6,2,1,0] r (.seq (.sr (.kn 1 [8,6,2,1,0] r (.block (.sr (.kn 2 [9,8,6,2,1,0] r (.condP r hd (fun u hd=>?_) fun u hd=>?_)))))))
 · refine .sk 3 r ?_
   refine AQ hd (fun b hd=>?_) fun b hd=>?_
   · rw [b]
     refine .ks 3 r ?_
     have v:=SH (I:=I) hd
     refine .cq call237 v r fun L hd=>?_
     exact .sa AU .z r (.no [6] r (.ret (BS results297 (.w BP AU r .z r .n) rf ⟨L,r,hd⟩)))
   rw [b]
   refine .ks 3 r ?_
   have x:=SH (I:=I) hd
   refine .cq call237 x r fun N hd=>?_
   exact .sa AU .z r (.no [6] r (.ret (BS results297 (.w BP AU r .z r .n) rf ⟨N,r,hd⟩)))
 refine .sr (.kn 2 [18,6,2,1,0] r (.condP r hd (fun y hd=>?_) fun y hd=>?_))
 · refine .sk 2 r ?_
   have A:=Aa2 (I:=I) hd
   refine .cq call311 A r fun O hd=>?_
   exact .sa AU .z r (.no [6] r (.ret (BS results297 (.w BP AU r .z r .n) rf ⟨O,r,hd⟩)))
 refine .sn [6,2,1,0] r (.seq (.jn hd [6,2,1,0] [0] r (fun j E l _=>j E l) (fun W hd=>?_) ?_))
 · skip
   refine .sk 1 r ?_
   have B:=ND (I:=I) hd
   refine .cq call100 B r fun X hd=>?_
   refine .ks 1 r ?_
   refine AQ hd (fun c hd=>?_) fun c hd=>?_
   · rw [c]
     refine .ks 2 r (.yes r (.maxI r r r r (.kn 2 [30,6,2,1,0] r (.condP r hd (fun C hd=>?_) fun C hd=>?_))))
     · refine .sr ?_
       have D:=IB (I:=I) hd
       refine .cq call183 D r fun P hd=>?_
       exact .sa AU .z r (.no [6] r (.ret (BS results297 (.w BP AU r .z r .n) rf ⟨P,r,hd⟩)))
     exact .skip' (je () hd rf [0] r)
   rw [c]
   exact .kn 5 [30,6,2,1,0] r (.condKF r r (.skip' (je () hd rf [0] r)))
 refine fun _ hd=>jq r fun p d=>?_
 refine .sr (.build DK OB NZ .n (by exact trivial) r r (.al DK r fun R=>?_))
 refine .sa AU .z r (.no [7,6,2,1,0] r (.seq (.sr (.kn 1 [33,7,6,2,1] r (.block (.seq (.block (.seq (.jn hd [7,6,2] [1] r (fun j E l (q,s)=>j E (pto R (.cells #[.int .i64 q,.int .u64 s] 157 (0,0)) :: l)) (fun Y hd=>?_) ?_)))))))))
 · skip
   refine .block (.seq (.block (.seq (.seq (.sr (.kn 2 [34,33,7,6,2,1] r (.condP r hd (fun F hd=>?_) fun F hd=>?_)))))))
   · refine .en [7,6,2,1] r (.region (.ks 1 r ?_))
     have G:=IB (I:=p) hd
     refine .cq call183 G r fun t hd=>?_
     exact .sa AU .z r (.nil' (je (t.Hi,t.Lo) hd rf [0,0] r))
   refine .sn [33,7,6,2,1] r (.seq (.sr (.kn 2 [36,33,7,6,2,1] r (.condP r hd (fun H hd=>?_) fun H hd=>?_))))
   · exact .exit (je (0,0) hd rf [0,0] r)
   refine .sn [33,7,6,1] r (.sr (.kn 2 [38,7,6,1] r (.condP r hd (fun J hd=>?_) fun J hd=>?_)))
   · refine .en [6,1] r (.drop .z (.seq (.sk 1 r ?_)))
     have e:=IB (I:=p) hd
     refine .cq call183 e r fun S hd=>?_
     exact .sa AU .z r (.no [6] r (.ret (BS results297 (.w BP AU r .z r .n) d ⟨S,r,hd⟩)))
   exact .sn [7,6] r (.en [7,6] r (.sr (.lw BP AU .z r (.sa AU .p1 r (.no [6] r (.drop .z (.ret (BS results297 (.w BP AU r .z r .n) d ⟨({ Hi:=0,Lo:=0 }:AN),r,hd⟩))))))))
 rintro ⟨q,s⟩ hd
 refine jq r fun a f=>?_
 have g:=f.u1 d
 refine .seq (.seq (.dr [1,2,0,3,4,5] 6 (.h r (fun _=>.lw BP AU .z r .mk) (.fk 1 r (.ww r fun ex=>?_)))))
 have i:=IB (I:=a) hd
 refine .cq call183 i r fun T hd=>?_
 refine .so 2 r r r (.ck 1 r r (.ch r (fun _=>.lw BP AU .z r .mk) trivial)) (.ww r fun ex=>?_)
 have k:=IB (I:=a) hd
 refine .cq call183 k r fun U hd=>?_
 refine .so 2 r r r (.ch r (fun _=>.lw BP AU .z r .mk) trivial) (.ww r fun ex=>?_)
 have m:=mR (I:=a) hd
 refine .cq call238 m r fun V hd=>?_
 refine .so 2 r r r trivial (.ww r fun ex=>?_)
 have o:=bA (I:=a) hd
 refine .cq call236 o r fun K hd=>?_
 exact .so 2 r r r trivial (.e2 6 (.sa AU .p1 r (.no [6] r (.drop .z (.ret (BS results297 (.w BP AU r .z r .n) g ⟨K,r,hd⟩))))))
theorem mV {o0:List (Int×Bool)} {a0:Int} {a1 a2:Rows} {a3:Int} {Q:(List (Int×AN))→Prop} (R5:RepSl AE I p3 c4 a1.Start) (R8:RepSl AE I p6 c7 a1.Col) (R11:RepSl AE I p9 c10 a1.Val) (R14:RepSl AE I p12 c13 a2.Start) (R17:RepSl AE I p15 c16 a2.Col) (R20:RepSl AE I p18 c19 a2.Val) (hd:RV o0 a0 a1 a2 a3 Q) :
  Fun prog 267 #[.int .i64 a0,.agg #[.int .i64 a1.Rows,.int .i64 a1.Cols,.slice p3 a1.Start.length c4,.slice p6 a1.Col.length c7,.slice p9 a1.Val.length c10],.agg #[.int .i64 a2.Rows,.int .i64 a2.Cols,.slice p12 a2.Start.length c13,.slice p15 a2.Col.length c16,.slice p18 a2.Val.length c19],.int .i64 a3,.map (some b2)] I [OwnMap (Value.int .i64) eB false b2 o0] (fun I_ v l=>∃ r b21,v=.map (some b21)∧l=[OwnMap (Value.int .i64) eB false b2 o0,OwnMap (Value.int .i64) KJ true b21 r]∧Q r):=by
 refine Fun.en func267 ntmps267 r fun w0 M=>?_
 refine .sr (.bx r fun f7=>?_)
 refine .bx r fun f8=>?_
 refine .ks 1 r (.ns [7,6,4,3,0] r (.mkMap (Value.int .i64) KJ true r r fun b9=>?_))
 refine .ks 1 r (.ns [11,7,6,4,3,0] r (.lw CF BH .p2 r (.ks 1 r ?_)))
 have c0:=Z1 (I:=I) R5 R8 R11 hd
 refine .call call266 r c0 r r fun f9 g0 J c1=>?_
 obtain ⟨g1,g2,g3,g4,g5,rfl,m,n,hd⟩:=c1
 obtain ⟨R5,R8,R11,R14,R17,R20⟩:=J.u6 R5 R8 R11 R14 R17 R20
 refine .kn 5 [13,12,11,7,4,0] r (.drop .p2 (.seq (.sk 1 r (.ln BT r (.kn 1 [32,31,30,13,11,7,4,0] r (.block (.lp hd [31,30,13,11,7,4,0] [2,1] r (fun j E l (t,u)=>j ((32,.int .i64 u) :: E) (OwnMap (Value.int .i64) KJ true b9 t :: l)) (ji rf [0,1,0] r) ?_)))))))
 rintro ⟨t,u⟩ c6 hd
 refine jq r fun c2 y=>?_
 obtain ⟨A,R14,R17,R20,m,n⟩:=y.u6 J R14 R17 R20 m n
 refine .sr (.kn 1 [33,32,31,30,13,11,7,4,0] r (.seq (.condP r hd (fun a8 hd=>?_) fun a8 hd=>?_)))
 · refine .sn [32,31,30,13,11,7,4,0] r (.seq (.block (.sk 1 r ?_)))
   obtain ⟨K,e8,B,hd⟩:=hd
   obtain ⟨e9,o778,d4,c3,a9,b0⟩:=m.2 _ _ B
   cases b0
   refine .ixa BT EX r c3 r K (AH B K) r r (.ld1 (j:=0) BF a9 r r r r r (.ks 2 r (.ns [15,14,32,31,30,13,11,7,4,0] r (.lw CF BH .p2 r (.ks 1 r ?_)))))
   have b1:=Z1 (I:=c2) R14 R17 R20 hd
   refine .call call266 r b1 r r fun f0 f1 C b3=>?_
   obtain ⟨f2,f3,f4,f5,f6,rfl,w,x,hd⟩:=b3
   obtain ⟨b4,b5,R14,R17,R20,m⟩:=C.u6 A y R14 R17 R20 m
   have n:=C.u1 n
   refine .ks 5 r (.nk [17,16,14,32,31,30,13,11,7,4,0] 1 r (.ln BT r (.kn 1 [45,44,43,17,14,32,31,30,13,11,7,4,0] r (.block (.lp hd [44,43,32,31,30,17,14,13,11,7,4,0] [1,1] r (fun j E l (d,f)=>j ((45,.int .i64 f) :: E) (OwnMap (Value.int .i64) KJ true b9 d :: l)) (ji rf [0,0,0] r) ?_)))))
   rintro ⟨d,f⟩ c5 hd
   refine jq r fun D c=>?_
   obtain ⟨c8,N,R14,R17,R20,m⟩:=c.u6 b4 b5 R14 R17 R20 m
   obtain ⟨n,w,x⟩:=c.u3 n w x
   refine .sr (.kn 1 [46,45,44,43,32,31,30,17,14,13,11,7,4,0] r (.seq (.condP r hd (fun O hd=>?_) fun O hd=>?_)))
   · refine .sn [45,44,43,32,31,30,17,14,13,11,7,4,0] r (.seq (.block (.sk 1 r ?_)))
     obtain ⟨F,e,o,hd⟩:=hd
     obtain ⟨d5,o1031,c9,b6,P,R⟩:=w.2 _ _ o
     cases R
     refine .ixa BT EX r b6 r F (AH o F) r r (.ld1 (j:=0) BF P r r r r r (.kn 2 [19,18,45,44,43,32,31,30,17,14,13,11,7,4,0] r (.seq (.sk 2 r (.lookM (k:=e) (El:=eB) (ag:=false) (zv:=.bool false) (z:=false) (MK gX) underlying292 zeroValue4 ⟨[.bool false],r,.s⟩ .p1 r r hd r r fun d6 d7 d0 hd S T=>?_)))))
     cases S
     cases T
     refine .kn 1 [53,19,18,45,44,43,32,31,30,17,14,13,11,7,4,0] r (.condP r hd (fun U hd=>?_) fun U hd=>?_)
     · exact .en [45,44,43,32,31,30,17,14,13,11,7,4,0] r (.region (.ks 2 r (.nil' (je (d,AJ (f+1)) hd c [0,0,0] r))))
     refine .sn [19,18,45,44,43,32,31,30,17,14,13,11,7,4,0] r (.seq (.dr [0,1,2,3,4,5,6,7,8,10,9,999] 11 (.fk 3 r ?_)))
     obtain ⟨G,d8,p,hd⟩:=hd
     obtain ⟨d9,o1078,d1,b7,V,W⟩:=n.2 _ _ p
     cases W
     refine .h r (fun _=>.ixa X2 sz2 r b7 r G (AH p G) r r .mk) (.h r (fun _=>.ld1 (j:=0) UT V r r r r r .mk) (.fk 2 r ?_))
     obtain ⟨H,e0,q,hd⟩:=hd
     obtain ⟨e1,o1087,d2,b8,X,Y⟩:=x.2 _ _ q
     cases Y
     refine .h r (fun _=>.ixa X2 sz2 r b8 r H (AH q H) r r .mk) (.h r (fun _=>.ld1 (j:=0) UT X r r r r r .mk) (.a (fun b=>.pointer (some ⟨b,0,none⟩)) (fun b=>pto b (.cells #[.int .i64 0,.int .u64 0] 157 (0,0))) r r r r (fun _ L hL ex=>.al DK r fun b=>.mk (val:=fun b=>.pointer (some ⟨b,0,none⟩)) (atom:=fun b=>pto b (.cells #[.int .i64 0,.int .u64 0] 157 (0,0))) hL b) (.ww r fun ex=>?_)))
     have Z:=Aa3 (I:=D) hd
     refine .cq call297 Z r fun g hd=>?_
     refine .so 3 r r r trivial (.b r fun e3=>DrawD.nop (.e2 11 (.sa AU .p3 r (.no [20,19,45,44,43,32,31,30,17,14,13,11,7,4,0] r (.seq (.sk 2 r (.lookM2 (k:=e) (El:=KJ) (ag:=true) (zv:=.agg #[.int .i64 0,.int .u64 0]) (z:=({ Hi:=0,Lo:=0 }:AN)) (MK gX) underlying293 DK ⟨[.int .i64 0,.int .u64 0],r,.a⟩ .z r r hd r r fun e4 e5 e6 d3 hd a4 a5=>?_)))))))
     cases a4
     cases a5
     refine .ks 3 r (.al DK r fun e7=>?_)
     refine .sa AU .z r (.ks 1 r (.nk [22,21,20,19,45,44,43,32,31,30,17,14,13,11,7,4,0] 1 r (.no [70,21,20,19,45,44,43,32,31,30,17,14,13,11,7,4,0] r (.condP r hd (fun a6 hd=>?_) fun a6 hd=>?_))))
     · refine .region (.ks 1 r (.lw BP AU .z r (.lw BP AU .p4 r ?_)))
       have a7:=UK (I:=D) hd
       refine .cq call184 a7 r fun i hd=>?_
       refine .sa AU .p4 r (.no [20,19,45,44,43,32,31,30,17,14,13,11,7,4,0] r (.drop .z (.region (.ks 2 r (.lw BP AU .p3 r (.updM (k:=e) (El:=KJ) (ag:=true) (v:=i) (MK gX) underlying293 .z r r r ⟨[.int .i64 i.Hi,.int .u64 i.Lo],r,.a⟩ (.no [45,44,43,32,31,30,17,14,13,11,7,4,0] r (.drop .p3 (.region ?_)))))))))
       exact .ks 2 r (.nil' (je ((EO e i d),AJ (f+1)) hd c [0,0,0] r))
     refine .sn [20,19,45,44,43,32,31,30,17,14,13,11,7,4,0] r (.drop .z (.region (.ks 2 r (.lw BP AU .p3 r (.updM (k:=e) (El:=KJ) (ag:=true) (v:=g) (MK gX) underlying293 .z r r r ⟨[.int .i64 g.Hi,.int .u64 g.Lo],r,.a⟩ (.no [45,44,43,32,31,30,17,14,13,11,7,4,0] r (.drop .p3 (.region (.ks 2 r ?_)))))))))
     exact .nil' (je ((EO e g d),AJ (f+1)) hd c [0,0,0] r)
   exact .en [32,31,30,13,11,7,4,0] r (.region (.ks 2 r (.nil' (je (d,AJ (u+1)) hd N [0,0,0] r))))
 exact .en [11,4] r (.drop .p2 (.sr (.kn 2 [10,4] r (.q1 results267 A [1,0] r ⟨t,_,r,r,hd⟩))))
theorem sZ {a0:Int} {a1 a2 a3:Rows} {Q:((List AM)×Int)→Prop} (R3:RepSl AE I p1 c2 a1.Start) (R6:RepSl AE I p4 c5 a1.Col) (R9:RepSl AE I p7 c8 a1.Val) (R12:RepSl AE I p10 c11 a2.Start) (R15:RepSl AE I p13 c14 a2.Col) (R18:RepSl AE I p16 c17 a2.Val) (R21:RepSl AE I p19 c20 a3.Start) (R24:RepSl AE I p22 c23 a3.Col) (R27:RepSl AE I p25 c26 a3.Val) (hd:TN a0 a1 a2 a3 Q) :
  BR prog 221 [.int .i64 a0,.agg #[.int .i64 a1.Rows,.int .i64 a1.Cols,.slice p1 a1.Start.length c2,.slice p4 a1.Col.length c5,.slice p7 a1.Val.length c8],.agg #[.int .i64 a2.Rows,.int .i64 a2.Cols,.slice p10 a2.Start.length c11,.slice p13 a2.Col.length c14,.slice p16 a2.Val.length c17],.agg #[.int .i64 a3.Rows,.int .i64 a3.Cols,.slice p19 a3.Start.length c20,.slice p22 a3.Col.length c23,.slice p25 a3.Val.length c26]] I (AkA Q):=by
 refine Fun.en func221 ntmps221 r fun w0 M=>?_
 refine .sr (.bx r fun m9=>?_)
 refine .bx r fun n0=>?_
 refine .bx r fun n1=>?_
 refine .ks 2 r (.ns [7,6,5,0] r (.lw CF BH .p2 r (.lw CF BH .p1 r (.lw CF BH .z r (.buildSlice 3 TX BH FO r r (.c r r r (.c r r r (.c r r r .n))) r r fun n2=>?_)))))
 refine .pubB (El:=uD) (ys:=([a1,a2,a3]:List Rows)) (k:=3) .z (RepCs.cons (cs:=[.int .i64 a1.Rows,.int .i64 a1.Cols,.slice p1 a1.Start.length c2,.slice p4 a1.Col.length c5,.slice p7 a1.Val.length c8]) ⟨_,_,_,_,_,_,r,R3,R6,R9⟩ (RepCs.cons (cs:=[.int .i64 a2.Rows,.int .i64 a2.Cols,.slice p10 a2.Start.length c11,.slice p13 a2.Col.length c14,.slice p16 a2.Val.length c17]) ⟨_,_,_,_,_,_,r,R12,R15,R18⟩ (RepCs.cons (cs:=[.int .i64 a3.Rows,.int .i64 a3.Cols,.slice p19 a3.Start.length c20,.slice p22 a3.Col.length c23,.slice p25 a3.Val.length c26]) ⟨_,_,_,_,_,_,r,R21,R24,R27⟩ .nil))) r fun h2 W b5=>?_
 obtain ⟨R3,R6,R9,R12,R15,R18⟩:=W.u6 R3 R6 R9 R12 R15 R18
 obtain ⟨R21,R24,R27⟩:=W.u3 R21 R24 R27
 have g1:=xJ (I:=h2) b5 hd
 refine .call call265 r g1 r r fun n3 h3 b6 g2=>?_
 obtain ⟨n4,n5,n6,rfl,b7,hd⟩:=g2
 obtain ⟨J,R3,R6,R9,R12,R15⟩:=b6.u6 W R3 R6 R9 R12 R15
 obtain ⟨R18,R21,R24,R27,b5⟩:=b6.u5 R18 R21 R24 R27 b5
 refine .kn 1 [10,7,6,5,0] r (.seq (.dr [0,1,2,3,4,5,6,7,8,9,10] 11 (.fk 1 r ?_)))
 obtain ⟨b8,g3,a5,hd⟩:=hd
 obtain ⟨j2,o133,h9,g4,d6,d7⟩:=b7.2 _ _ a5
 obtain ⟨j3,j4,j5,j6,j7,j8,rfl,b,d,e⟩:=d7
 refine .h r (fun _=>.ixa TX BH r g4 r b8 (AH a5 b8) r r .mk) (.h r (fun _=>.ldW CF BH d6 r r r r .mk) (.fk 1 r ?_))
 obtain ⟨K,g5,L,hd⟩:=hd
 obtain ⟨j9,o151,i0,b9,a6,d8⟩:=b7.2 _ _ L
 obtain ⟨k0,k1,k2,k3,k4,k5,rfl,g,i,m⟩:=d8
 refine .h r (fun _=>.ixa TX BH r b9 r K (AH L K) r r .mk) (.h r (fun _=>.ldW CF BH a6 r r r r .mk) (.fk 1 r ?_))
 obtain ⟨B,k6,D,hd⟩:=hd
 obtain ⟨k7,o169,i1,X,N,d9⟩:=b7.2 _ _ D
 obtain ⟨k8,k9,l0,l1,l2,l3,rfl,p,q,u⟩:=d9
 refine .h r (fun _=>.ixa TX BH r X r B (AH D B) r r .mk) (.h r (fun _=>.ldW CF BH N r r r r .mk) (.ww r fun ex=>?_))
 refine .sa BH .p2 r (.sn 3 r r r (.ch r (fun _=>.ldW CF BH N r r r r .mk) (.ch r (fun _=>.ixa TX BH r X r B (AH D B) r r .mk) (.ck 1 r r (.ch r (fun _=>.ldW CF BH a6 r r r r .mk) (.ch r (fun _=>.ixa TX BH r b9 r K (AH L K) r r .mk) (.ck 1 r r trivial)))))) (.ww r fun ex=>?_))
 refine .sa BH .p1 r (.sn 3 r r r (.ch r (fun _=>.ldW CF BH N r r r r .mk) (.ch r (fun _=>.ixa TX BH r X r B (AH D B) r r .mk) (.ck 1 r r trivial))) (.e2 11 (.sa BH .z r (.no [7,6,5,0] r (.seq (.block (.sk 1 r ?_)))))))
 have e0:=ND (I:=h3) hd
 refine .cq call100 e0 r fun l4 hd=>?_
 refine .kn 2 [37,7,6,5,0] r (.condP r hd (fun e1 hd=>?_) fun e1 hd=>?_)
 · exact .sr (.kn 2 [9,8] r (.drop .z (.drop .z (.drop .z (.ret (BS results221 (.t r (.t r .n)) J ⟨(([]:List AM),8),_,_,r,(.nil _ _ _),hd⟩))))))
 refine .seq (.sk 1 r (.lo BF .p2 r (.ks 1 r (.lo BF .p1 r (.kn 2 [41,7,6,5,0] r (.condP r hd (fun a7 hd=>?_) fun a7 hd=>?_))))))
 · exact .sn [41,7,6,5,0] r (.condKT r a7 (.sr (.kn 2 [9,8] r (.drop .z (.drop .z (.drop .z (.ret (BS results221 (.t r (.t r .n)) J ⟨(([]:List AM),4),_,_,r,(.nil _ _ _),hd⟩))))))))
 refine .sk 1 r (.lo BF .z r (.ks 1 r (.lo BF .p2 r (.kn 2 [41,7,6,5,0] r (.condP r hd (fun a8 hd=>?_) fun a8 hd=>?_)))))
 · exact .sn [41,7,6,5,0] r (.condKT r a8 (.sr (.kn 2 [9,8] r (.drop .z (.drop .z (.drop .z (.ret (BS results221 (.t r (.t r .n)) J ⟨(([]:List AM),4),_,_,r,(.nil _ _ _),hd⟩))))))))
 refine .region (.ks 1 r (.lo BF .z r (.ks 1 r (.lo BF .p1 r (.kn 2 [41,7,6,5,0] r (.condP r hd (fun e3 hd=>?_) fun e3 hd=>?_))))))
 · exact .sr (.kn 2 [9,8] r (.drop .z (.drop .z (.drop .z (.ret (BS results221 (.t r (.t r .n)) J ⟨(([]:List AM),4),_,_,r,(.nil _ _ _),hd⟩))))))
 refine .sn [7,6,5,0] r (.sr (.kn 1 [11,7,6,5,0] r (.seq (.sk 1 r (.lo BF .z r (.kn 1 [59,58,11,7,6,5,0] r (.block (.own0 CI 161 (.lx hd [58,7,6,5,0] [3,2,1] r (fun j E l (O,C)=>fun c w=>∃ Y Z,j ⟨107,[],none⟩ (fun I_=>True) ((11,.slice Y O.length Z) :: (59,.int .i64 C) :: E) (OwnSl CI 161 Y Z O :: l) c w) (fun c w ho hs=>⟨_,_,jf rf trivial [0,2,1,0] r ho hs⟩) ?_)))))))))
 rintro ⟨O,C⟩ h0 hd c w ⟨Y,Z,g6,F,_,hok,hsym⟩
 obtain ⟨a9,b,d,e,g,i⟩:=F.u6 J b d e g i
 obtain ⟨m,p,q,u⟩:=F.u4 m p q u
 refine Cod.at hok hsym (.sr (.kn 1 [60,59,58,11,7,6,5,0] r (.seq (.condP r hd (fun e4 hd=>?_) fun e4 hd=>?_))))
 · refine .sn [59,58,11,7,6,5,0] r (.seq (.block (.sk 2 r (.ns [12,59,58,11,7,6,5,0] r (.lw CF BH .p3 r (.ks 1 r ?_))))))
   have e5:=Z1 (I:=g6) p q u hd
   refine .call call266 r e5 r r fun l5 l6 b0 e6=>?_
   obtain ⟨l7,l8,l9,m0,m1,rfl,x,m2,hd⟩:=e6
   obtain ⟨e7,e8,b,d,e,g⟩:=b0.u6 a9 F b d e g
   obtain ⟨i,m,p,q,u⟩:=b0.u5 i m p q u
   refine .ks 5 r (.ns [13,12,59,58,11,7,6,5,0] r (.mkMap (Value.int .i64) eB false r r fun c0=>?_))
   refine .kn 1 [15,13,12,59,58,11,7,6,5,0] r (.seq (.sk 1 r (.ln BT r (.kn 1 [71,70,69,15,13,12,59,58,11,7,6,5,0] r (.block (.lp hd [70,69,59,58,15,13,12,11,7,6,5,0] [2,2,2,1] r (fun j E l (P,a4)=>j ((71,.int .i64 a4) :: E) (OwnMap (Value.int .i64) eB false c0 P :: l)) (ji rf [0,1,1,1,0] r) ?_))))))
   rintro ⟨P,a4⟩ h1 hd
   refine jq r fun g7 G=>?_
   obtain ⟨e9,f0,b,d,e,g⟩:=G.u6 e7 e8 b d e g
   obtain ⟨i,m,p,q,u,x⟩:=G.u6 i m p q u x
   refine .sr (.kn 1 [72,71,70,69,59,58,15,13,12,11,7,6,5,0] r (.seq (.condP r hd (fun f1 hd=>?_) fun f1 hd=>?_)))
   · refine .sn [71,70,69,59,58,15,13,12,11,7,6,5,0] r (.seq (.block (.sr ?_)))
     obtain ⟨c1,c3,b1,hd⟩:=hd
     obtain ⟨m3,o967,i2,g8,f2,f3⟩:=x.2 _ _ b1
     cases f3
     exact .ixa BT EX r g8 r c1 (AH b1 c1) r r (.ld1 (j:=0) BF f2 r r r r r (.kn 1 [17,71,70,69,59,58,15,13,12,11,7,6,5,0] r (.region (.ks 2 r (.updM (k:=c3) (El:=eB) (ag:=false) (v:=true) (MK gX) underlying292 .z r r r ⟨[.bool true],r,.s⟩ (.no [71,70,69,59,58,15,13,12,11,7,6,5,0] r (.region (.ks 2 r (.nil' (je ((EO c3 true P),AJ (a4+1)) hd G [0,0,0,0,0] r))))))))))
   refine .en [59,58,15,13,12,11,7,6,5,0] r (.sk 1 r (.lw CF BH .p1 r (.lw CF BH .p2 r (.ks 2 r ?_))))
   have f4:=mV (I:=g7) (o0:=P) (a0:=a0) (a1:=g3) (a2:=g5) (a3:=C) (b2:=c0) b d e g i m hd
   refine .callS (.f call267 r) (.o [0] r) f4 r r fun m4 m5 m6 R f5=>?_
   obtain ⟨m7,m8,rfl,rfl,hd⟩:=f5
   obtain ⟨f6,f7,f8,b,d,e⟩:=R.u6 e9 f0 G b d e
   obtain ⟨g,i,m,p,q,u⟩:=R.u6 g i m p q u
   have x:=R.u1 x
   refine .rn 6 r (.kn 1 [18,59,58,13,12,11,7,6,5,0] r (.drop .z (.sk 1 r (.ln BT r (.kn 1 [86,85,84,18,59,58,12,11,7,6,5,0] r (.block (.lx hd [85,84,59,58,18,12,7,6,5,0] [1,1,1,0] r (fun j E l (A,H)=>fun c w=>∃ S T,j ⟨107,[],none⟩ (fun I_=>True) ((11,.slice S A.length T) :: (86,.int .i64 H) :: E) (OwnSl CI 161 S T A :: l) c w) (fun c w ho hs=>⟨_,_,jf rf trivial [4,1,1,1,0] r ho hs⟩) ?_)))))))
   rintro ⟨A,H⟩ g9 hd c w ⟨S,T,i3,y,_,hok,hsym⟩
   obtain ⟨h4,c4,h5,b,d,e⟩:=y.u6 f6 f7 f8 b d e
   obtain ⟨g,i,m,p,q,u⟩:=y.u6 g i m p q u
   have x:=y.u1 x
   refine Cod.at hok hsym (.sr (.kn 1 [87,86,85,84,59,58,18,12,11,7,6,5,0] r (.seq (.condP r hd (fun c6 hd=>?_) fun c6 hd=>?_))))
   · refine .sn [86,85,84,59,58,18,12,11,7,6,5,0] r (.seq (.block (.sr ?_)))
     obtain ⟨b3,U,V,hd⟩:=hd
     obtain ⟨i4,o1123,h6,f9,c7,c9⟩:=x.2 _ _ V
     cases c9
     refine .ixa BT EX r f9 r b3 (AH V b3) r r (.ld1 (j:=0) BF c7 r r r r r (.ks 1 r (.nk [20,86,85,84,59,58,18,12,11,7,6,5,0] 2 r (.lookM2 (k:=U) (El:=KJ) (ag:=true) (zv:=.agg #[.int .i64 0,.int .u64 0]) (z:=({ Hi:=0,Lo:=0 }:AN)) (MK gX) underlying293 DK ⟨[.int .i64 0,.int .u64 0],r,.a⟩ .p4 r r hd r r fun i5 b4 i6 h7 hd d0 d1=>?_))))
     cases d0
     cases d1
     refine .ks 3 r (.al DK r fun i7=>?_)
     refine .sa AU .z r (.ks 1 r (.nk [22,21,20,86,85,84,59,58,18,12,11,7,6,5,0] 1 r (.no [96,21,20,86,85,84,59,58,18,12,11,7,6,5,0] r (.condP r hd (fun d2 hd=>?_) fun d2 hd=>?_))))
     · refine .region (.ks 3 r (.lw BP AU .z r (.build gZ underlying161 AhF (.c r r r (.o r) (.c r r r (.o r) (.c r r r (.o r) .n))) (by exact ⟨⟨_,_,r,r,r⟩,⟨⟨_,_,r,r,r⟩,⟨⟨_,_,r,r,r⟩,trivial⟩⟩⟩) r r (.buildSlice 1 EW CA gZ r r (.c r r r .n) r r fun i8=>?_))))
       obtain ⟨d3,hd⟩:=hd
       refine .append (ys:=[({ Row:=C,Col:=U,Val:=b4 }:AM)]) 32 .p2 EW EW uF r r r r r r r r r (.box .z (.one r) r) d3 r r fun i9 j0=>?_
       exact .kn 1 [11,86,85,84,59,58,18,12,7,6,5,0] r (.drop .p1 (.drop .p1 (.region (.ks 2 r (.nil' fun c w ho hs=>⟨((A++([({ Row:=C,Col:=U,Val:=b4 }:AM)])),AJ (H+1)),hd,_,_,jf y trivial [0,0,0,0,0] r ho hs⟩)))))
     exact .sn [86,85,84,59,58,18,12,11,7,6,5,0] r (.drop .z (.region (.ks 2 r (.nil' fun c w ho hs=>⟨(A,AJ (H+1)),hd,_,_,jf y trivial [0,0,0,0,0] r ho hs⟩))))
   exact .en [59,58,11,7,6,5,0] r (.drop .p4 (.region (.ks 2 r (.nil' fun c w ho hs=>⟨(A,AJ (C+1)),hd,_,_,jf c4 trivial [0,0,0,0] r ho hs⟩))))
 refine .en [11] r (.drop .p1 (.drop .p1 (.drop .p1 (.sr (.kn 3 [9,8] r (.pub .z fun j1 d4 g0=>?_))))))
 obtain ⟨d5,h8⟩:=d4.u2 a9 F
 exact .ret (BS results221 (.t r (.t r .n)) d5 ⟨(O,0),_,_,r,g0,hd⟩)
theorem eP {a0 a1:AM} {Q:Int→Prop} (hd:TO a0 a1 Q) :
  BR prog 254 [.agg (V8 a0).toArray,.agg (V8 a1).toArray] I (fun _=>kO Q):=by
 refine Fun.en func254 ntmps254 r fun w0 M=>?_
 refine .sr (.bx r fun o=>?_)
 refine .bx r fun p=>?_
 refine .kn 1 [3,2] r (.seq (.dr [0,1,2,3,5,6,7,8,4,9,10,11] 12 (.fk 1 r (.h r (fun _=>.lo BF .p1 r .mk) (.fk 1 r (.h r (fun _=>.lo BF .z r .mk) (.fk 1 r (.h r (fun _=>.lo BF .p1 r .mk) (.fk 1 r ?_)))))))))
 refine .h r (fun _=>.lo BF .z r .mk) (.ww r fun ex=>?_)
 have b:=CX (I:=I) hd
 refine .cq call114 b r fun g hd=>?_
 refine .so 2 r r r (.ch r (fun _=>.lo BF .z r .mk) (.ck 1 r r (.ch r (fun _=>.lo BF .p1 r .mk) (.ck 1 r r trivial)))) (.ww r fun ex=>?_)
 have d:=CX (I:=I) hd
 refine .cq call114 d r fun a hd=>?_
 refine .so 2 r r r trivial (.ww r fun ex=>?_)
 refine .buildSlice 2 BT EX nL r r (.c r r r (.c r r r .n)) r r fun m=>?_
 refine .so 3 r r r trivial (.ww r fun ex=>?_)
 refine .pubB (El:=AE) (ys:=([g,a]:List Int)) (k:=2) .z (RepCs.cons (cs:=[.int .i64 g]) r (RepCs.cons (cs:=[.int .i64 a]) r .nil)) r fun i e j=>?_
 have f:=JE (I:=i) j hd
 refine .cq call113 f r fun l hd=>?_
 exact .so 2 r r r trivial (.e2 12 (.kn 1 [4] r (.drop .z (.drop .z (.r1 results254 r e ⟨l,r,hd⟩)))))
theorem eQ {a0:List AM} {Q:Bool→Prop} (R3:RepSl CI I p1 c2 a0) (hd:KN a0 Q) :
  BR prog 207 [.slice p1 a0.length c2] I (fun _=>dA Q):=by
 refine Fun.en func207 ntmps207 r fun w0 M=>?_
 refine .sr (.kn 1 [0] r (.seq (.sk 1 r (.ln EW r (.kn 1 [6,5,0] r (.block (.lp hd [5,0] [] r (fun j E l c=>j ((6,.int .i64 c) :: E) l) (ji rf [] r) ?_)))))))
 refine fun c t hd=>jq r fun u b=>?_
 have R3:=b.u1 R3
 refine .sr (.kn 1 [7,6,5,0] r (.seq (.condP r hd (fun i hd=>?_) fun i hd=>?_)))
 · refine .sn [6,5,0] r (.seq (.block (.sr (.kn 2 [3,6,5,0] r (.seq (.dr [0,1,2,3,4,5,6,7,8,9,10,11,12,13,14] 15 (.fk 3 r ?_)))))))
   refine AQ hd (fun a hd=>?_) fun a hd=>?_
   · refine .h r (fun _=>.gyes r r a (.move r r r .mk)) (.h r (fun _=>.gyes r r a (.move r r r .mk)) (.h r (fun _=>.gyes r r a (.sub' r r r r .mk)) ?_))
     obtain ⟨f,z,d,hd⟩:=hd
     obtain ⟨A,o46,x,v,k,m⟩:=R3.2 _ _ d
     cases m
     refine .h r (fun _=>.gyes r r a (.ixa EW CA r v r f (AH d f) r r .mk)) (.h r (fun _=>.gyes r r a (.ldW IL CA k r r r r .mk)) (.h r (fun _=>.gyes r r a (.move r r r .mk)) (.h r (fun _=>.gyes r r a (.move r r r .mk)) ?_)))
     obtain ⟨g,B,e,hd⟩:=hd
     obtain ⟨C,o55,y,w,n,o⟩:=R3.2 _ _ e
     cases o
     refine .h r (fun _=>.gyes r r a (.ixa EW CA r w r g (AH e g) r r .mk)) (.h r (fun _=>.gyes r r a (.ldW IL CA n r r r r .mk)) (.ww r fun ex=>?_))
     have p:=eP (I:=u) hd
     refine .gyes r r a (.callP call254 r p r r fun D q=>?_)
     obtain ⟨F,rfl,hd⟩:=q
     refine .so 0 r r r trivial (.h r (fun _=>.gyes r r a (.ge r r r r .mk)) (.h r (fun _=>.pickT r a r r r .mk) (.e2 15 (.no [23,6,5,0] r (.condP r hd (fun s hd=>?_) fun s hd=>?_)))))
     · exact .sr (.kn 1 [2] r (.r1 results207 r b ⟨false,r,hd⟩))
     exact .sn [6,5,0] r (.region (.ks 2 r (.nil' (je (AJ (c+1)) hd b [] r))))
   refine .h r (fun _=>.gno r r a r r .mk) (.h r (fun _=>.gno r r a r r .mk) (.h r (fun _=>.gno r r a r r .mk) (.h r (fun _=>.gno r r a r r .mk) (.h r (fun _=>.gno r r a r r .mk) (.h r (fun _=>.gno r r a r r .mk) (.h r (fun _=>.gno r r a r r .mk) (.h r (fun _=>.gno r r a r r .mk) (.h r (fun _=>.gno r r a r r .mk) (.h r (fun _=>.gno r r a r r .mk) ?_)))))))))
   exact .h r (fun _=>.gno r r a r r .mk) (.h r (fun _=>.pickF r a r r r .mk) (.e2 15 (.no [23,6,5,0] r (.condKF r r (.sn [6,5,0] r (.region (.ks 2 r (.nil' (je (AJ (c+1)) hd b [] r)))))))))
 exact .en [] r (.sr (.kn 1 [2] r (.r1 results207 r b ⟨true,r,hd⟩)))
theorem OS {a1:Int} {Q:(List AM)→Prop} (hd:FQ a1 Q) :
  nB prog 299 [.slice none 0 0,.int .i64 a1] I (fun I_ v l=>∃ r p1 c2,v=.slice p1 r.length c2∧l=[OwnSl CI 161 p1 c2 r]∧Q r):=by
 refine Fun.en func299 ntmps299 r fun w0 M=>?_
 refine .sr (.kn 1 [1,0] r (.seq (.sr (.kn 2 [6,1,0] r (.condP r hd (fun a hd=>?_) fun a hd=>?_)))))
 · refine .region ?_
   exact hd.elim
 refine .sn [1,0] r (.seq (.sk 2 r (.capOf EW r r r r (.ks 1 r (.ln EW r (.ks 3 r (.nk [1,0] 2 r (.no [16,1,0] r (.condP r hd (fun b hd=>?_) fun b hd=>?_)))))))))
 · refine .region (.ks 2 r (.capOf EW r r r r (.slZ EW CA r r (Nat.le_refl _) r r r (.ks 1 r ?_))))
   obtain ⟨d,e,hd⟩:=hd
   refine .growN CI 32 EW gX uF r r r r r r r r d e r r fun g f c=>?_
   exact .ks 1 r (.ln EW r (.slZ EW CA r r c tW r r (.ks 1 r (.nk [0] 2 r (.no [4] r (.q1 results299 rf [0] r ⟨([]:List AM),_,_,r,r,hd⟩))))))
 exact .sn [0] r (.sr (.kn 2 [4] r (.own0 CI 161 (.q1 results299 rf [0] r ⟨([]:List AM),_,_,r,r,hd⟩))))
theorem NI {a0:List (List AM)} {Q:(List AM)→Prop} (R3:RepSl (NN CI) I p1 c2 a0) (hd:DM a0 Q) :
  nB prog 270 [.slice p1 a0.length c2] I (fun I_ v l=>∃ r p4 c5,v=.slice p4 r.length c5∧l=[OwnSl CI 161 p4 c5 r]∧Q r):=by
 refine Fun.en func270 ntmps270 r fun w0 M=>?_
 refine .sk 1 r (.nk [0] 1 r (.no [3,0] r (.seq (.sk 1 r (.ln kR r (.kn 1 [11,10,9,3,0] r (.block (.lp hd [10,9,0] [] r (fun j E l (d,e)=>j ((3,.int .i64 d) :: (11,.int .i64 e) :: E) l) (ji rf [] r) ?_))))))))
 rintro ⟨d,e⟩ P hd
 refine jq r fun J b=>?_
 have R3:=b.u1 R3
 refine .sr (.kn 1 [12,11,10,9,3,0] r (.seq (.condP r hd (fun q hd=>?_) fun q hd=>?_)))
 · refine .sn [11,10,9,3,0] r (.seq (.block (.sr ?_)))
   obtain ⟨n,K,i,hd⟩:=hd
   obtain ⟨U,o182,S,L,s,t⟩:=R3.2 _ _ i
   obtain ⟨V,W,rfl,X⟩:=t
   refine .ixa kR AdM r L r n (AH i n) r r (.ld1 (j:=0) isAgg76 s r r r r r (.ks 1 r (.nk [5,11,10,9,3,0] 2 r (.ln EW r (.ks 2 r (.nk [3,11,10,9,0] 2 r (.no [20,3,11,10,9,0] r (.condP r hd (fun u hd=>?_) fun u hd=>?_))))))))
   · refine .region ?_
     exact hd.elim
   exact .sn [3,11,10,9,0] r (.region (.ks 2 r (.nil' (je (AJ (d+(K.length:Int)),AJ (e+1)) hd b [] r))))
 refine .en [3,0] r (.sk 1 r ?_)
 have x:=OS (I:=J) hd
 refine .callO call299 r x r r fun Y Z a1 y A=>?_
 obtain ⟨a2,a3,a4,rfl,rfl,hd⟩:=A
 obtain ⟨B,R3⟩:=y.u2 b R3
 refine .kn 1 [6,0] r (.seq (.sk 1 r (.ln kR r (.kn 1 [27,26,25,6] r (.block (.lx hd [26,25] [] r (fun j E l (a,f)=>fun c w=>∃ g h,j ⟨36,[],none⟩ (fun I_=>True) ((6,.slice g a.length h) :: (27,.int .i64 f) :: E) (OwnSl CI 161 g h a :: l) c w) (fun c w ho hs=>⟨_,_,jf rf trivial [0] r ho hs⟩) ?_))))))
 rintro ⟨a,f⟩ R hd c w ⟨g,h,a5,k,_,hok,hsym⟩
 obtain ⟨C,R3⟩:=k.u2 B R3
 refine Cod.at hok hsym (.sr (.kn 1 [28,27,26,25,6] r (.seq (.condP r hd (fun D hd=>?_) fun D hd=>?_))))
 · refine .sn [27,26,25,6] r (.seq (.block (.sr ?_)))
   obtain ⟨o,p,m,hd⟩:=hd
   obtain ⟨a6,o281,T,N,F,G⟩:=R3.2 _ _ m
   obtain ⟨a7,a8,rfl,O⟩:=G
   refine .ixa kR AdM r N r o (AH m o) r r (.ld1 (j:=0) isAgg76 F r r r r r (.kn 1 [8,27,26,25,6] r (.region (.ks 2 r ?_))))
   obtain ⟨H,hd⟩:=hd
   refine .append (ys:=p) 32 .z EW EW uF r r r r r r r r r (.imm O r) H r r fun a9 b0=>?_
   exact .kn 1 [6,27,26,25] r (.region (.ks 2 r (.nil' fun c w ho hs=>⟨((a++p),AJ (f+1)),hd,_,_,jf k trivial [0] r ho hs⟩)))
 exact .en [6] r (.sr (.kn 2 [2] r (.q1 results270 C [0] r ⟨a,_,_,r,r,hd⟩)))
theorem bU {a0:List AM} {Q:Bool→Prop} (R3:RepSl CI I p1 c2 a0) (hd:PB a0 Q) :
  Fun prog 269 #[.slice p1 a0.length c2] I [] (fun I_ v l=>∃ r,v=.bool r∧l=[]∧Q r):=by
 refine Fun.en func269 ntmps269 r fun w0 M=>?_
 refine .sk 1 r (.nk [0] 1 r ?_)
 have a:=eQ (I:=I) R3 hd
 refine .cq call207 a r fun b hd=>?_
 exact .kn 2 [2] r (.q1 results269 rf [] r ⟨(!b),r,r,hd⟩)
theorem JR {a0:List (List AM)} {Q:Int→Prop} (R3:RepSl (NN CI) I p1 c2 a0) (hd:DR a0 Q) :
  Fun prog 298 #[.slice p1 a0.length c2,.func (.func 269) #[] #[]] I [] (fun I_ v l=>∃ r,v=.int .i64 r∧l=[]∧Q r):=by
 refine Fun.en func298 ntmps298 r fun w0 M=>?_
 refine .sr (.kn 1 [1,0] r (.seq (.sk 1 r (.ln kR r (.kn 1 [8,7,1,0] r (.block (.lp hd [7,1,0] [] r (fun j E l d=>j ((8,.int .i64 d) :: E) l) (ji rf [] r) ?_)))))))
 refine fun d s hd=>jq r fun t a=>?_
 have R3:=a.u1 R3
 refine .sr (.kn 1 [9,8,7,1,0] r (.seq (.condP r hd (fun i hd=>?_) fun i hd=>?_)))
 · refine .sn [8,7,1,0] r (.seq (.block (.sk 2 r (.nk [5,8,7,1,0] 3 r ?_))))
   obtain ⟨h,u,e,hd⟩:=hd
   obtain ⟨y,o61,x,w,b,k⟩:=R3.2 _ _ e
   obtain ⟨z,A,rfl,f⟩:=k
   refine .ixa kR AdM r w r h (AH e h) r r (.ld1 (j:=0) isAgg76 b r r r r r ?_)
   have m:=bU (I:=t) (a0:=u) f hd
   refine .callS (.c call269 r r) .n m r r fun B C D o p=>?_
   obtain ⟨F,rfl,rfl,hd⟩:=p
   obtain ⟨g,R3,f,b⟩:=o.u4 a R3 f b
   refine .rn 0 r (.no [16,5,8,7,1,0] r (.condP r hd (fun q hd=>?_) fun q hd=>?_))
   · exact .sr (.kn 2 [4,1] r (.q1 results298 g [] r ⟨d,r,r,hd⟩))
   exact .sn [8,7,1,0] r (.region (.ks 2 r (.nil' (je (AJ (d+1)) hd g [] r))))
 exact .en [1] r (.sr (.kn 1 [4,1] r (.q1 results298 a [] r ⟨(-1),r,r,hd⟩)))
theorem IE {a0:List (List AM)} {Q:Bool→Prop} (R3:RepSl (NN CI) I p1 c2 a0) (hd:DG a0 Q) :
  Fun prog 268 #[.slice p1 a0.length c2,.func (.func 269) #[] #[]] I [] (fun I_ v l=>∃ r,v=.bool r∧l=[]∧Q r):=by
 refine Fun.en func268 ntmps268 r fun w0 M=>?_
 refine .sk 1 r (.nk [1,0] 2 r ?_)
 have b:=JR (I:=I) (a0:=a0) R3 hd
 refine .callS (.f call298 r) .n b r r fun e g h a c=>?_
 obtain ⟨d,rfl,rfl,hd⟩:=c
 have R3:=a.u1 R3
 exact .rn 0 r (.kn 2 [4,1] r (.q1 results268 a [] r ⟨(decide (0≤d)),r,r,hd⟩))
theorem LF {a0 a1:AM} {Q:Int→Prop} (hd:FA a0 a1 Q) :
  Fun prog 254 #[.agg (V8 a0).toArray,.agg (V8 a1).toArray] I [] (fun I_ v l=>∃ r,v=.int .i64 r∧l=[]∧Q r):=by
 refine Fun.en func254 ntmps254 r fun w0 M=>?_
 refine .sr (.bx r fun p=>?_)
 refine .bx r fun q=>?_
 refine .kn 1 [3,2] r (.seq (.dr [0,1,2,3,5,6,7,8,4,9,10,11] 12 (.fk 1 r (.h r (fun _=>.lo BF .p1 r .mk) (.fk 1 r (.h r (fun _=>.lo BF .z r .mk) (.fk 1 r (.h r (fun _=>.lo BF .p1 r .mk) (.fk 1 r ?_)))))))))
 refine .h r (fun _=>.lo BF .z r .mk) (.ww r fun ex=>?_)
 have b:=CX (I:=I) hd
 refine .cq call114 b r fun g hd=>?_
 refine .so 2 r r r (.ch r (fun _=>.lo BF .z r .mk) (.ck 1 r r (.ch r (fun _=>.lo BF .p1 r .mk) (.ck 1 r r trivial)))) (.ww r fun ex=>?_)
 have d:=CX (I:=I) hd
 refine .cq call114 d r fun a hd=>?_
 refine .so 2 r r r trivial (.ww r fun ex=>?_)
 refine .buildSlice 2 BT EX nL r r (.c r r r (.c r r r .n)) r r fun o=>?_
 refine .so 3 r r r trivial (.ww r fun ex=>?_)
 refine .pubB (El:=AE) (ys:=([g,a]:List Int)) (k:=2) .z (RepCs.cons (cs:=[.int .i64 g]) r (RepCs.cons (cs:=[.int .i64 a]) r .nil)) r fun i e j=>?_
 have f:=JE (I:=i) j hd
 refine .cq call113 f r fun m hd=>?_
 exact .so 2 r r r trivial (.e2 12 (.kn 1 [4] r (.drop .z (.drop .z (.q1 results254 e [] r ⟨m,r,r,hd⟩)))))
theorem FD {o0:List AM} {a0 a1:Int} {Q:(List AM)→Prop} (hd:BZ o0 a0 a1 Q) :
  Fun prog 225 #[.slice p2 o0.length c3,.int .i64 a0,.int .i64 a1,.func (.func 254) #[] #[]] I [OwnSl CI 161 p2 c3 o0] (fun I_ v l=>∃ r,v=.tuple #[]∧r.length=o0.length∧l=[OwnSl CI 161 p2 c3 r]∧Q r):=by
 refine Fun.en func225 ntmps225 r fun w0 M=>?_
 refine .sr (.kn 3 [8,3,2,1,0] r (.block (.lx hd [3,2,1] [] r (fun j E l (d,f)=>fun c w=>j ⟨53,[],none⟩ (fun I_=>d.length=o0.length) ((0,.slice p2 d.length c3) :: (8,.int .i64 f) :: E) (OwnSl CI 161 p2 c3 d :: l) c w) (fun c w ho hs=>jf rf (by first | exact r | omega | (simp only [List.length_set] at * <;> omega)) [0] r ho hs) ?_)))
 rintro ⟨d,f⟩ W hd c w ⟨a2,i,X,hok,hsym⟩
 refine Cod.at hok hsym (.seq (.sr (.kn 3 [14,8,3,2,1,0] r (.condP r hd (fun J hd=>?_) fun J hd=>?_))))
 · refine .sn [8,3,2,1,0] r (.seq (.block (.sr (.kn 2 [9,8,3,2,1,0] r (.block (.lx hd [8,3,2,1] [] r (fun j E l (b,e)=>fun c w=>j ⟨53,[],none⟩ (fun I_=>b.length=d.length) ((0,.slice p2 b.length c3) :: (9,.int .i64 e) :: E) (OwnSl CI 161 p2 c3 b :: l) c w) (fun c w ho hs=>jf rf (by first | exact r | omega | (simp only [List.length_set] at * <;> omega)) [0] r ho hs) ?_))))))
   rintro ⟨b,e⟩ Y hd c w ⟨S,k,Z,hok,hsym⟩
   have m:=k.u1 i
   refine Cod.at hok hsym (.seq (.seq (.ownF .z fun x=>?_)))
   refine .dr [0,1,2,3,4,5,6,7,8,9,10,11,12,13,14,15,16] 17 (.fk 4 r ?_)
   refine AQ hd (fun a hd=>?_) fun a hd=>?_
   · refine .h r (fun _=>.gyes r r a (.move r r r .mk)) (.h r (fun _=>.gyes r r a (.move r r r .mk)) (.h r (fun _=>.gyes r r a (.move r r r .mk)) ?_))
     obtain ⟨y,T,g,hd⟩:=hd
     obtain ⟨a3,U⟩:=x (DO g)
     cases U
     refine .h r (fun _=>.gyes r r a (.ixa0 EW CA r r y (AH g y) r r .mk)) (.h r (fun _=>.gyes r r a (.loA (j:=0) IL CA .z g r r (.o 4 r) r r r .mk)) (.h r (fun _=>.gyes r r a (.move r r r .mk)) (.h r (fun _=>.gyes r r a (.move r r r .mk)) (.h r (fun _=>.gyes r r a (.sub' r r r r .mk)) ?_))))
     obtain ⟨A,V,p,hd⟩:=hd
     refine .h r (fun _=>.gyes r r a (.ixa0 EW CA r r A (AH p A) r r .mk)) (.h r (fun _=>.gyes r r a (.loA (j:=0) IL CA .z p r r (.o 4 r) r r r .mk)) (.ww r fun ex=>?_))
     have K:=LF (I:=S) (a0:=T) (a1:=V) hd
     refine .gyes r r a (.callS (.c call254 r r) .n K r r fun a4 a5 a6 L N=>?_)
     obtain ⟨a7,rfl,rfl,hd⟩:=N
     obtain ⟨O,P⟩:=L.u2 m k
     refine .rx 1 r (.so 1 r r r trivial (.h r (fun _=>.gyes r r a (.lt r r r r .mk)) (.h r (fun _=>.pickT r a r r r .mk) (.e2 17 (.no [34,9,8,3,2,1,0] r (.condP r hd (fun R hd=>?_) fun R hd=>?_))))))
     · refine .sn [9,8,3,2,1,0] r (.seq (.block (.dr [0,1,2,3,4,5,6,7,8,9,10,11,12,13,14,15] 16 (.fk 8 r ?_))))
       obtain ⟨B,C,q,hd⟩:=hd
       refine .h r (fun _=>.ixa0 EW CA r r B (AH q B) r r .mk) (.h r (fun _=>.loA (j:=0) IL CA .z q r r (.o 4 r) r r r .mk) (.fk 2 r ?_))
       obtain ⟨D,F,s,hd⟩:=hd
       refine .h r (fun _=>.ixa0 EW CA r r D (AH s D) r r .mk) (.h r (fun _=>.loA (j:=0) IL CA .z s r r (.o 4 r) r r r .mk) ?_)
       obtain ⟨G,a8,t,hd⟩:=hd
       refine .h r (fun _=>.ixa0 EW CA r r G (AH t G) r r .mk) (.ww r fun ex=>?_)
       refine .stOA (j:=0) (v':=C) CA .z t r r r (.o r) r r (.sn 1 r r r (.ck 3 r r trivial) (.e2 16 (.rl .z [0,37,39,42,47] r (by simp only [List.length_set]) ?_)))
       obtain ⟨H,a9,u,hd⟩:=hd
       exact .ixa0 EW CA r r H (AH u H) r r (.stOA (j:=0) (v':=F) CA .z u r r r (.o r) r r (.rl .z [0,37,39,42,47] r (by simp only [List.length_set]) (.no [9,8,3,2,1,0] r (.region (.ks 3 r (.nil' fun c w ho hs=>⟨(((b.set e.toNat C).set ((AJ (e - 1)).toNat) F),AJ (e - 1)),hd,jf P (by first | exact r | omega | (simp only [List.length_set] at * <;> omega)) [0] r ho hs⟩))))))
     exact .en [8,3,2,1,0] r (.region (.ks 3 r (.nil' fun c w ho hs=>⟨(b,AJ (f+1)),hd,jf O (by first | exact r | omega | (simp only [List.length_set] at * <;> omega)) [0] r ho hs⟩)))
   refine .h r (fun _=>.gno r r a r r .mk) (.h r (fun _=>.gno r r a r r .mk) (.h r (fun _=>.gno r r a r r .mk) (.h r (fun _=>.gno r r a r r .mk) (.h r (fun _=>.gno r r a r r .mk) (.h r (fun _=>.gno r r a r r .mk) (.h r (fun _=>.gno r r a r r .mk) (.h r (fun _=>.gno r r a r r .mk) (.h r (fun _=>.gno r r a r r .mk) (.h r (fun _=>.gno r r a r r .mk) ?_)))))))))
   exact .h r (fun _=>.gno r r a r r .mk) (.h r (fun _=>.gno r r a r r .mk) (.h r (fun _=>.pickF r a r r r .mk) (.e2 17 (.no [34,9,8,3,2,1,0] r (.condKF r r (.en [8,3,2,1,0] r (.region (.ks 3 r (.nil' fun c w ho hs=>⟨(b,AJ (f+1)),hd,jf m (by first | exact r | omega | (simp only [List.length_set] at * <;> omega)) [0] r ho hs⟩)))))))))
 exact .exit (RF results225 .n i (.o [0] r) ⟨d,r,(by first | exact r | omega | (simp only [List.length_set] at * <;> omega)),r,hd⟩)
theorem DX {o0:List AM} {a0 a1 a2:Int} {Q:(List AM)→Prop} (hd:BW o0 a0 a1 a2 Q) :
  Fun prog 342 #[.slice p2 o0.length c3,.int .i64 a0,.int .i64 a1,.int .i64 a2,.func (.func 254) #[] #[]] I [OwnSl CI 161 p2 c3 o0] (fun I_ v l=>∃ r,v=.tuple #[]∧r.length=o0.length∧l=[OwnSl CI 161 p2 c3 r]∧Q r):=by
 refine Fun.en func342 ntmps342 r fun w0 M=>?_
 refine .sr (.kn 1 [10,3,2,1,0] r (.block (.lx hd [3,2,1] [] r (fun j E l (a,b)=>fun c w=>j ⟨38,[],none⟩ (fun I_=>a.length=o0.length) ((0,.slice p2 a.length c3) :: (10,.int .i64 b) :: E) (OwnSl CI 161 p2 c3 a :: l) c w) (fun c w ho hs=>jf rf (by first | exact r | omega | (simp only [List.length_set] at * <;> omega)) [0] r ho hs) ?_)))
 rintro ⟨a,b⟩ y hd c w ⟨C,e,A,hok,hsym⟩
 refine Cod.at hok hsym (.seq (.sr (.kn 3 [13,10,3,2,1,0] r (.condP r hd (fun x hd=>?_) fun x hd=>?_))))
 · refine .sn [10,3,2,1,0] r (.seq (.block (.ownF .z fun k=>?_)))
   refine .dr [0,1,2,3,4,5,6,7,8,9,10,11,12,13,14,15,16,17,18,19,20,21] 22 (.fk 12 r ?_)
   obtain ⟨m,p,d,hd⟩:=hd
   obtain ⟨D,B⟩:=k (DO d)
   cases B
   refine .h r (fun _=>.ixa0 EW CA r r m (AH d m) r r .mk) (.h r (fun _=>.loA (j:=0) IL CA .z d r r (.o 4 r) r r r .mk) (.fk 4 r ?_))
   obtain ⟨q,s,f,hd⟩:=hd
   refine .h r (fun _=>.ixa0 EW CA r r q (AH f q) r r .mk) (.h r (fun _=>.loA (j:=0) IL CA .z f r r (.o 4 r) r r r .mk) ?_)
   obtain ⟨t,F,g,hd⟩:=hd
   refine .h r (fun _=>.ixa0 EW CA r r t (AH g t) r r .mk) (.ww r fun ex=>?_)
   refine .stOA (j:=0) (v':=p) CA .z g r r r (.o r) r r (.sn 1 r r r (.ck 4 r r trivial) (.e2 22 (.rl .z [0,16,20,24,30] r (by simp only [List.length_set]) ?_)))
   obtain ⟨u,G,i,hd⟩:=hd
   exact .ixa0 EW CA r r u (AH i u) r r (.stOA (j:=0) (v':=s) CA .z i r r r (.o r) r r (.rl .z [0,16,20,24,30] r (by simp only [List.length_set]) (.no [10,3,2,1,0] r (.region (.ks 3 r (.nil' fun c w ho hs=>⟨(((a.set ((AJ (a0+b)).toNat) p).set ((AJ (a1+b)).toNat) s),AJ (b+1)),hd,jf e (by first | exact r | omega | (simp only [List.length_set] at * <;> omega)) [0] r ho hs⟩))))))
 exact .exit (RF results342 .n e (.o [0] r) ⟨a,r,(by first | exact r | omega | (simp only [List.length_set] at * <;> omega)),r,hd⟩)
theorem MB {o0:List AM} {a0 a1 a2:Int} {Q:(List AM)→Prop} (hd:DJ o0 a0 a1 a2 Q) :
  Fun prog 329 #[.slice p2 o0.length c3,.int .i64 a0,.int .i64 a1,.int .i64 a2,.func (.func 254) #[] #[]] I [OwnSl CI 161 p2 c3 o0] (fun I_ v l=>∃ r,v=.tuple #[]∧r.length=o0.length∧l=[OwnSl CI 161 p2 c3 r]∧Q r):=by
 refine Fun.en func329 ntmps329 r fun w0 M=>?_
 refine .sk 4 r (.nk [10,4,3,2,0] 4 r (.no [11,10,4,2,0] r (.seq (.block (.lx hd [4,2] [] r (fun j E l (b,a,d)=>fun c w=>j ⟨58,[],none⟩ (fun I_=>b.length=o0.length) ((0,.slice p2 b.length c3) :: (10,.int .i64 a) :: (11,.int .i64 d) :: E) (OwnSl CI 161 p2 c3 b :: l) c w) (fun c w ho hs=>jf rf (by first | exact r | omega | (simp only [List.length_set] at * <;> omega)) [0] r ho hs) ?_)))))
 rintro ⟨b,a,d⟩ J hd c w ⟨h,e,K,hok,hsym⟩
 refine Cod.at hok hsym (.seq (.sr (.kn 3 [20,11,10,4,2,0] r (.condP r hd (fun q hd=>?_) fun q hd=>?_))))
 · refine .sn [11,10,4,2,0] r (.block (.sr (.kn 3 [23,11,10,4,2,0] r (.condP r hd (fun s hd=>?_) fun s hd=>?_))))
   · refine .sk 7 r ?_
     have t:=DX (I:=h) (o0:=b) (a0:=(AJ (a1 - a))) (a1:=a1) (a2:=d) (p2:=p2) (c3:=c3) hd
     refine .callS (.f call342 r) (.o [0] r) t r r fun R S T u x=>?_
     obtain ⟨L,rfl,i,rfl,hd⟩:=x
     have y:=u.u1 e
     exact .rl .z [0,24] r (by rw [i]) (.no [11,10,4,2,0] r (.region (.ks 4 r (.nil' fun c w ho hs=>⟨(L,AJ (a - d),d),hd,jf y (by first | exact r | omega | (simp only [List.length_set] at * <;> omega)) [0] r ho hs⟩))))
   refine .sk 11 r ?_
   have A:=DX (I:=h) (o0:=b) (a0:=(AJ (a1 - a))) (a1:=(AJ ((AJ (a1+d)) - a))) (a2:=a) (p2:=p2) (c3:=c3) hd
   refine .callS (.f call342 r) (.o [0] r) A r r fun U V W B C=>?_
   obtain ⟨N,rfl,k,rfl,hd⟩:=C
   have D:=B.u1 e
   exact .rl .z [0,35] r (by rw [k]) (.no [11,10,4,2,0] r (.region (.ks 4 r (.nil' fun c w ho hs=>⟨(N,a,AJ (d - a)),hd,jf D (by first | exact r | omega | (simp only [List.length_set] at * <;> omega)) [0] r ho hs⟩))))
 refine .en [10,4,2,0] r (.region (.ks 7 r ?_))
 have F:=DX (I:=h) (o0:=b) (a0:=(AJ (a1 - a))) (a1:=a1) (a2:=a) (p2:=p2) (c3:=c3) hd
 refine .callS (.f call342 r) (.o [0] r) F r r fun O X P G m=>?_
 obtain ⟨H,rfl,g,rfl,hd⟩:=m
 have p:=G.u1 e
 exact .rl .z [0,50] r (by rw [g]) (.nil' (RF results329 .n p (.o [0] r) ⟨H,r,(by first | exact r | omega | (simp only [List.length_set] at * <;> omega)),r,hd⟩))
theorem JI {rc:(List AM)→Int→Int→Int→((List AM)→Prop)→Prop} (ih:∀ {I:IH} {o0:List AM} {a0:Int} {a1:Int} {a2:Int} {p2:Option Addr} {c3:Nat} {Q:(List AM)→Prop} ,rc o0 a0 a1 a2 Q→Fun prog 312 #[.slice p2 o0.length c3,.int .i64 a0,.int .i64 a1,.int .i64 a2,.func (.func 254) #[] #[]] I [OwnSl CI 161 p2 c3 o0] (fun I_ v l=>∃ r,v=.tuple #[]∧r.length=o0.length∧l=[OwnSl CI 161 p2 c3 r]∧Q r)) {I:IH} {o0:List AM} {a0:Int} {a1:Int} {a2:Int} {p2:Option Addr} {c3:Nat} {Q:(List AM)→Prop}  (hd:BG rc o0 a0 a1 a2 Q) :
  Fun prog 312 #[.slice p2 o0.length c3,.int .i64 a0,.int .i64 a1,.int .i64 a2,.func (.func 254) #[] #[]] I [OwnSl CI 161 p2 c3 o0] (fun I_ v l=>∃ r,v=.tuple #[]∧r.length=o0.length∧l=[OwnSl CI 161 p2 c3 r]∧Q r):=by
 refine Fun.en func312 ntmps312 r fun w0 M=>?_
 refine .seq (.sr (.kn 4 [28,4,3,2,1,0] r (.condP r hd (fun f5 hd=>?_) fun f5 hd=>?_)))
 · refine .sk 2 r (.nk [10,4,3,1,0] 2 r (.no [11,10,4,1,0] r (.seq (.block (.lp hd [4,1,0] [0] r (fun j E l (k,m)=>j ((10,.int .i64 k) :: (11,.int .i64 m) :: E) l) (ji rf [0] r) ?_)))))
   rintro ⟨k,m⟩ j8 hd
   refine jq r fun i3 V=>?_
   refine .seq (.sr (.kn 3 [33,11,10,4,1,0] r (.condP r hd (fun f6 hd=>?_) fun f6 hd=>?_)))
   · refine .sn [11,10,4,1,0] r (.block (.sk 3 r (.conv gX dE r r r (.shr' r r (by decide) r r (.conv dE gX r r r (.kn 1 [12,11,10,4,1,0] r (.seq (.ownF .z fun b4=>?_))))))))
     refine .dr [0,1,2,3,4,5,6,7,8,9,10] 11 (.fk 3 r ?_)
     obtain ⟨b5,i4,D,hd⟩:=hd
     obtain ⟨m5,i5⟩:=b4 (DO D)
     cases i5
     refine .h r (fun _=>.ixa0 EW CA r r b5 (AH D b5) r r .mk) (.h r (fun _=>.loA (j:=0) IL CA .z D r r (.o 4 r) r r r .mk) (.fk 2 r ?_))
     obtain ⟨b6,i6,W,hd⟩:=hd
     refine .h r (fun _=>.ixa0 EW CA r r b6 (AH W b6) r r .mk) (.h r (fun _=>.loA (j:=0) IL CA .z W r r (.o 4 r) r r r .mk) (.ww r fun ex=>?_))
     have f7:=LF (I:=i3) (a0:=i4) (a1:=i6) hd
     refine .callS (.c call254 r r) .n f7 r r fun m6 m7 m8 f8 f9=>?_
     obtain ⟨m9,rfl,rfl,hd⟩:=f9
     have X:=f8.u1 V
     refine .rx 1 r (.so 1 r r r trivial (.fk 1 r (.e2 11 (.no [50,12,11,10,4,1,0] r (.condP r hd (fun g0 hd=>?_) fun g0 hd=>?_)))))
     · exact .region (.ks 3 r (.nil' (je (AJ ((AJ (shr .u64 (IntKind.wrap .u64 (AJ (k+m))) 1))+1),m) hd X [0] r)))
     exact .region (.ks 2 r (.nil' (je (k,AJ (shr .u64 (IntKind.wrap .u64 (AJ (k+m))) 1)) hd X [0] r)))
   refine .en [10,4,1,0] r (.seq (.sr (.kn 2 [13,10,4,0] r (.block (.lx hd [10,4] [] r (fun j E l (e,p)=>fun c w=>j ⟨220,[],none⟩ (fun I_=>e.length=o0.length) ((0,.slice p2 e.length c3) :: (13,.int .i64 p) :: E) (OwnSl CI 161 p2 c3 e :: l) c w) (fun c w ho hs=>jf rf (by first | exact r | omega | (simp only [List.length_set] at * <;> omega)) [0] r ho hs) ?_)))))
   rintro ⟨e,p⟩ j9 hd c w ⟨n0,Y,k0,hok,hsym⟩
   have g1:=Y.u1 V
   refine Cod.at hok hsym (.seq (.sr (.kn 4 [58,13,10,4,0] r (.condP r hd (fun g2 hd=>?_) fun g2 hd=>?_))))
   · refine .sn [13,10,4,0] r (.seq (.block (.ownF .z fun b7=>?_)))
     refine .dr [0,1,2,3,4,5,6,7,8,9,10,11,12,13,14,15] 16 (.fk 8 r ?_)
     obtain ⟨b8,b9,F,hd⟩:=hd
     obtain ⟨n1,i7⟩:=b7 (DO F)
     cases i7
     refine .h r (fun _=>.ixa0 EW CA r r b8 (AH F b8) r r .mk) (.h r (fun _=>.loA (j:=0) IL CA .z F r r (.o 4 r) r r r .mk) (.fk 2 r ?_))
     obtain ⟨c0,c1,Z,hd⟩:=hd
     refine .h r (fun _=>.ixa0 EW CA r r c0 (AH Z c0) r r .mk) (.h r (fun _=>.loA (j:=0) IL CA .z Z r r (.o 4 r) r r r .mk) ?_)
     obtain ⟨c2,n2,a3,hd⟩:=hd
     refine .h r (fun _=>.ixa0 EW CA r r c2 (AH a3 c2) r r .mk) (.ww r fun ex=>?_)
     refine .stOA (j:=0) (v':=b9) CA .z a3 r r r (.o r) r r (.sn 1 r r r (.ck 3 r r trivial) (.e2 16 (.rl .z [0,61,63,66,71] r (by simp only [List.length_set]) ?_)))
     obtain ⟨c4,n3,a4,hd⟩:=hd
     exact .ixa0 EW CA r r c4 (AH a4 c4) r r (.stOA (j:=0) (v':=c1) CA .z a4 r r r (.o r) r r (.rl .z [0,61,63,66,71] r (by simp only [List.length_set]) (.no [13,10,4,0] r (.region (.ks 3 r (.nil' fun c w ho hs=>⟨(((e.set p.toNat b9).set ((AJ (p+1)).toNat) c1),AJ (p+1)),hd,jf Y (by first | exact r | omega | (simp only [List.length_set] at * <;> omega)) [0] r ho hs⟩))))))
   exact .en [4,0] r (.ret (KG results312 .n g1 (.o [0] r) ⟨e,r,(by first | exact r | omega | (simp only [List.length_set] at * <;> omega)),r,hd⟩))
 refine .sn [4,3,2,1,0] r (.seq (.sr (.kn 4 [80,4,3,2,1,0] r (.condP r hd (fun g3 hd=>?_) fun g3 hd=>?_))))
 · refine .sk 2 r (.nk [14,4,2,0] 2 r (.no [15,14,4,2,0] r (.seq (.block (.lp hd [4,2,0] [0] r (fun j E l (q,s)=>j ((14,.int .i64 q) :: (15,.int .i64 s) :: E) l) (ji rf [0] r) ?_)))))
   rintro ⟨q,s⟩ k1 hd
   refine jq r fun i8 a5=>?_
   refine .seq (.sr (.kn 3 [85,15,14,4,2,0] r (.condP r hd (fun g4 hd=>?_) fun g4 hd=>?_)))
   · refine .sn [15,14,4,2,0] r (.block (.sk 3 r (.conv gX dE r r r (.shr' r r (by decide) r r (.conv dE gX r r r (.kn 1 [16,15,14,4,2,0] r (.seq (.ownF .z fun c5=>?_))))))))
     refine .dr [0,1,2,3,4,5,6,7,8,9,10,11] 12 (.fk 3 r ?_)
     obtain ⟨c6,i9,G,hd⟩:=hd
     obtain ⟨n4,j0⟩:=c5 (DO G)
     cases j0
     refine .h r (fun _=>.ixa0 EW CA r r c6 (AH G c6) r r .mk) (.h r (fun _=>.loA (j:=0) IL CA .z G r r (.o 4 r) r r r .mk) (.fk 2 r ?_))
     obtain ⟨c7,j1,a6,hd⟩:=hd
     refine .h r (fun _=>.ixa0 EW CA r r c7 (AH a6 c7) r r .mk) (.h r (fun _=>.loA (j:=0) IL CA .z a6 r r (.o 4 r) r r r .mk) (.ww r fun ex=>?_))
     have g5:=LF (I:=i8) (a0:=i9) (a1:=j1) hd
     refine .callS (.c call254 r r) .n g5 r r fun n5 n6 n7 g6 g7=>?_
     obtain ⟨n8,rfl,rfl,hd⟩:=g7
     have a7:=g6.u1 a5
     refine .rx 1 r (.so 1 r r r trivial (.fk 2 r (.e2 12 (.no [103,16,15,14,4,2,0] r (.condP r hd (fun g8 hd=>?_) fun g8 hd=>?_)))))
     · exact .region (.ks 3 r (.nil' (je (AJ ((AJ (shr .u64 (IntKind.wrap .u64 (AJ (q+s))) 1))+1),s) hd a7 [0] r)))
     exact .region (.ks 2 r (.nil' (je (q,AJ (shr .u64 (IntKind.wrap .u64 (AJ (q+s))) 1)) hd a7 [0] r)))
   refine .en [14,4,2,0] r (.seq (.sr (.kn 2 [17,14,4,0] r (.block (.lx hd [14,4] [] r (fun j E l (g,t)=>fun c w=>j ⟨220,[],none⟩ (fun I_=>g.length=o0.length) ((0,.slice p2 g.length c3) :: (17,.int .i64 t) :: E) (OwnSl CI 161 p2 c3 g :: l) c w) (fun c w ho hs=>jf rf (by first | exact r | omega | (simp only [List.length_set] at * <;> omega)) [0] r ho hs) ?_)))))
   rintro ⟨g,t⟩ k2 hd c w ⟨n9,a8,k3,hok,hsym⟩
   have g9:=a8.u1 a5
   refine Cod.at hok hsym (.seq (.sr (.kn 3 [110,17,14,4,0] r (.condP r hd (fun h0 hd=>?_) fun h0 hd=>?_))))
   · refine .sn [17,14,4,0] r (.seq (.block (.ownF .z fun c8=>?_)))
     refine .dr [0,1,2,3,4,5,6,7,8,9,10,11,12,13,14,15] 16 (.fk 8 r ?_)
     obtain ⟨c9,d0,H,hd⟩:=hd
     obtain ⟨o1,j2⟩:=c8 (DO H)
     cases j2
     refine .h r (fun _=>.ixa0 EW CA r r c9 (AH H c9) r r .mk) (.h r (fun _=>.loA (j:=0) IL CA .z H r r (.o 4 r) r r r .mk) (.fk 2 r ?_))
     obtain ⟨d1,d2,a9,hd⟩:=hd
     refine .h r (fun _=>.ixa0 EW CA r r d1 (AH a9 d1) r r .mk) (.h r (fun _=>.loA (j:=0) IL CA .z a9 r r (.o 4 r) r r r .mk) ?_)
     obtain ⟨d3,o2,b0,hd⟩:=hd
     refine .h r (fun _=>.ixa0 EW CA r r d3 (AH b0 d3) r r .mk) (.ww r fun ex=>?_)
     refine .stOA (j:=0) (v':=d0) CA .z b0 r r r (.o r) r r (.sn 1 r r r (.ck 3 r r trivial) (.e2 16 (.rl .z [0,113,115,118,123] r (by simp only [List.length_set]) ?_)))
     obtain ⟨d4,o3,b1,hd⟩:=hd
     exact .ixa0 EW CA r r d4 (AH b1 d4) r r (.stOA (j:=0) (v':=d2) CA .z b1 r r r (.o r) r r (.rl .z [0,113,115,118,123] r (by simp only [List.length_set]) (.no [17,14,4,0] r (.region (.ks 3 r (.nil' fun c w ho hs=>⟨(((g.set t.toNat d0).set ((AJ (t - 1)).toNat) d2),AJ (t - 1)),hd,jf a8 (by first | exact r | omega | (simp only [List.length_set] at * <;> omega)) [0] r ho hs⟩))))))
   exact .en [4,0] r (.ret (KG results312 .n g9 (.o [0] r) ⟨g,r,(by first | exact r | omega | (simp only [List.length_set] at * <;> omega)),r,hd⟩))
 refine .sn [4,3,2,1,0] r (.sk 3 r (.conv gX dE r r r (.shr' r r (by decide) r r (.conv dE gX r r r (.ks 1 r (.nk [18,4,3,2,1,0] 4 r (.nk [19,18,4,3,2,1,0] 2 r (.no [19,18,4,3,2,1,0] r (.seq ?_)))))))))
 refine .jn hd [19,18,4,3,2,1,0] [0] r (fun j E l (d5,d6)=>j ((20,.int .i64 d5) :: (21,.int .i64 d6) :: E) l) (fun o4 hd=>?_) ?_
 · skip
   refine .sr (.kn 3 [140,19,18,4,3,2,1,0] r (.condP r hd (fun h1 hd=>?_) fun h1 hd=>?_))
   · exact .sr (.kn 4 [20,19,18,4,3,2,1,0] r (.region (.ks 2 r (.nil' (je (AJ ((AJ ((AJ (shr .u64 (IntKind.wrap .u64 (AJ (a0+a2))) 1))+a1)) - a2),AJ (shr .u64 (IntKind.wrap .u64 (AJ (a0+a2))) 1)) hd rf [0] r)))))
   exact .sr (.kn 2 [20,19,18,4,3,2,1,0] r (.region (.ks 2 r (.nil' (je (a0,a1) hd rf [0] r)))))
 rintro ⟨d5,d6⟩ hd
 refine jq r fun o5 h2=>?_
 refine .sr (.kn 3 [22,21,20,19,18,4,3,2,1,0] r (.seq (.block (.lp hd [22,19,18,4,3,2,1,0] [0] r (fun j E l (b,u)=>j ((20,.int .i64 b) :: (21,.int .i64 u) :: E) l) (ji rf [0] r) ?_))))
 rintro ⟨b,u⟩ k4 hd
 refine jq r fun d7 i=>?_
 have J:=i.u1 h2
 refine .seq (.sr (.kn 3 [151,22,21,20,19,18,4,3,2,1,0] r (.condP r hd (fun h3 hd=>?_) fun h3 hd=>?_)))
 · refine .sn [22,21,20,19,18,4,3,2,1,0] r (.block (.sk 3 r (.conv gX dE r r r (.shr' r r (by decide) r r (.conv dE gX r r r (.kn 1 [23,22,21,20,19,18,4,3,2,1,0] r (.seq (.ownF .z fun d8=>?_))))))))
   refine .dr [0,1,2,3,4,5,6,7,8,9,10,11,12,13] 14 (.fk 5 r ?_)
   obtain ⟨d9,j3,K,hd⟩:=hd
   obtain ⟨o6,j4⟩:=d8 (DO K)
   cases j4
   refine .h r (fun _=>.ixa0 EW CA r r d9 (AH K d9) r r .mk) (.h r (fun _=>.loA (j:=0) IL CA .z K r r (.o 4 r) r r r .mk) (.fk 2 r ?_))
   obtain ⟨e0,j5,b2,hd⟩:=hd
   refine .h r (fun _=>.ixa0 EW CA r r e0 (AH b2 e0) r r .mk) (.h r (fun _=>.loA (j:=0) IL CA .z b2 r r (.o 4 r) r r r .mk) (.ww r fun ex=>?_))
   have h4:=LF (I:=d7) (a0:=j3) (a1:=j5) hd
   refine .callS (.c call254 r r) .n h4 r r fun o7 o8 o9 h5 h6=>?_
   obtain ⟨p0,rfl,rfl,hd⟩:=h6
   obtain ⟨l3,b3⟩:=h5.u2 J i
   refine .rx 1 r (.so 1 r r r trivial (.fk 2 r (.e2 14 (.no [171,23,22,21,20,19,18,4,3,2,1,0] r (.condP r hd (fun h7 hd=>?_) fun h7 hd=>?_)))))
   · exact .region (.ks 3 r (.nil' (je (AJ ((AJ (shr .u64 (IntKind.wrap .u64 (AJ (b+u))) 1))+1),u) hd b3 [0] r)))
   exact .region (.ks 2 r (.nil' (je (b,AJ (shr .u64 (IntKind.wrap .u64 (AJ (b+u))) 1)) hd b3 [0] r)))
 refine .en [20,19,18,4,3,2,1,0] r (.sr (.kn 4 [24,20,18,4,3,2,1,0] r (.seq (.jx hd [24,20,18,4,3,1] [] r (fun j E l a=>fun c w=>j ⟨220,[],none⟩ (fun I_=>a.length=o0.length) ((0,.slice p2 a.length c3) :: E) (OwnSl CI 161 p2 c3 a :: l) c w) (fun l4 hd=>?_) ?_))))
 · skip
   refine .sk 4 r ?_
   refine AQ hd (fun x hd=>?_) fun x hd=>?_
   · rw [x]
     refine .kn 4 [185,24,20,18,4,3,2,1,0] r (.condP r hd (fun e1 hd=>?_) fun e1 hd=>?_)
     · refine .region (.ks 5 r ?_)
       have e3:=MB (I:=d7) (o0:=o0) (a0:=b) (a1:=a1) (a2:=(AJ ((AJ ((AJ (shr .u64 (IntKind.wrap .u64 (AJ (a0+a2))) 1))+a1)) - b))) (p2:=p2) (c3:=c3) hd
       refine .callS (.f call329 r) (.o [0] r) e3 r r fun l5 l6 l7 L e4=>?_
       obtain ⟨h8,rfl,S,rfl,hd⟩:=e4
       obtain ⟨k5,k6⟩:=L.u2 J i
       exact .rl .z [0,186] r (by rw [S]) (.nil' fun c w ho hs=>⟨h8,hd,jf L (by first | exact r | omega | (simp only [List.length_set] at * <;> omega)) [0] r ho hs⟩)
     exact .skip' fun c w ho hs=>⟨o0,hd,jf rf (by first | exact r | omega | (simp only [List.length_set] at * <;> omega)) [0] r ho hs⟩
   rw [x]
   exact .kn 4 [185,24,20,18,4,3,2,1,0] r (.condKF r r (.skip' fun c w ho hs=>⟨o0,hd,jf rf (by first | exact r | omega | (simp only [List.length_set] at * <;> omega)) [0] r ho hs⟩))
 rintro a hd c w ⟨h9,y,j6,hok,hsym⟩
 obtain ⟨N,O⟩:=y.u2 J i
 refine Cod.at hok hsym (.seq (.jx hd [24,18,4,3] [] r (fun j E l d=>fun c w=>j ⟨220,[],none⟩ (fun I_=>d.length=a.length) ((0,.slice p2 d.length c3) :: E) (OwnSl CI 161 p2 c3 d :: l) c w) (fun l8 hd=>?_) ?_))
 · skip
   refine .sk 4 r ?_
   refine AQ hd (fun A hd=>?_) fun A hd=>?_
   · rw [A]
     refine .kn 4 [199,24,20,18,4,3,1,0] r (.condP r hd (fun e5 hd=>?_) fun e5 hd=>?_)
     · refine .region (.ks 5 r ?_)
       have e6:=ih (I:=h9) (o0:=a) (a0:=a0) (a1:=b) (a2:=(AJ (shr .u64 (IntKind.wrap .u64 (AJ (a0+a2))) 1))) (p2:=p2) (c3:=c3) hd
       refine .callS (.f call312 r) (.o [0] r) e6 r r fun l9 m0 m1 P e7=>?_
       obtain ⟨i0,rfl,T,rfl,hd⟩:=e7
       obtain ⟨k7,k8,k9⟩:=P.u3 N O y
       exact .rl .z [0,200] r (by rw [T]) (.nil' fun c w ho hs=>⟨i0,hd,jf P (by first | exact r | omega | (simp only [List.length_set] at * <;> omega)) [0] r ho hs⟩)
     exact .skip' fun c w ho hs=>⟨a,hd,jf rf (by first | exact r | omega | (simp only [List.length_set] at * <;> omega)) [0] r ho hs⟩
   rw [A]
   exact .kn 4 [199,24,20,18,4,3,1,0] r (.condKF r r (.skip' fun c w ho hs=>⟨a,hd,jf rf (by first | exact r | omega | (simp only [List.length_set] at * <;> omega)) [0] r ho hs⟩))
 rintro d hd c w ⟨i1,R,j7,hok,hsym⟩
 obtain ⟨B,e8,e9⟩:=R.u3 N O y
 refine Cod.at hok hsym (.sk 4 r ?_)
 refine AQ hd (fun C hd=>?_) fun C hd=>?_
 · rw [C]
   refine .kn 4 [213,24,18,4,3,0] r (.condP r hd (fun f0 hd=>?_) fun f0 hd=>?_)
   · refine .region (.ks 5 r ?_)
     have f1:=ih (I:=i1) (o0:=d) (a0:=(AJ (shr .u64 (IntKind.wrap .u64 (AJ (a0+a2))) 1))) (a1:=(AJ ((AJ ((AJ (shr .u64 (IntKind.wrap .u64 (AJ (a0+a2))) 1))+a1)) - b))) (a2:=a2) (p2:=p2) (c3:=c3) hd
     refine .callS (.f call312 r) (.o [0] r) f1 r r fun m2 m3 m4 f2 f3=>?_
     obtain ⟨i2,rfl,U,rfl,hd⟩:=f3
     obtain ⟨f4,l0,l1,l2⟩:=f2.u4 B e8 e9 R
     exact .rl .z [0,214] r (by rw [U]) (.nil' (RF results312 .n f4 (.o [0] r) ⟨i2,r,(by first | exact r | omega | (simp only [List.length_set] at * <;> omega)),r,hd⟩))
   exact .skip' (RF results312 .n B (.o [0] r) ⟨d,r,(by first | exact r | omega | (simp only [List.length_set] at * <;> omega)),r,hd⟩)
 rw [C]
 exact .kn 4 [213,24,18,4,3,0] r (.condKF r r (.skip' (RF results312 .n B (.o [0] r) ⟨d,r,(by first | exact r | omega | (simp only [List.length_set] at * <;> omega)),r,hd⟩)))
theorem FV {o0:List AM} {a0 a1 a2:Int} {Q:(List AM)→Prop} (hd:CW o0 a0 a1 a2 Q) :
  Fun prog 312 #[.slice p2 o0.length c3,.int .i64 a0,.int .i64 a1,.int .i64 a2,.func (.func 254) #[] #[]] I [OwnSl CI 161 p2 c3 o0] (fun I_ v l=>∃ r,v=.tuple #[]∧r.length=o0.length∧l=[OwnSl CI 161 p2 c3 r]∧Q r):=by
 obtain ⟨k,hd⟩:=hd
 induction k generalizing I o0 a0 a1 a2 p2 c3 Q with | zero=>exact hd.elim | succ k ih=>exact JI (rc:=CQ k) ih  hd
theorem MC {o0:List AM} {a0:Int} {Q:(List AM)→Prop} (hd:ET o0 a0 Q) :
  Fun prog 300 #[.slice p2 o0.length c3,.int .i64 a0,.func (.func 254) #[] #[]] I [OwnSl CI 161 p2 c3 o0] (fun I_ v l=>∃ r,v=.tuple #[]∧r.length=o0.length∧l=[OwnSl CI 161 p2 c3 r]∧Q r):=by
 refine Fun.en func300 ntmps300 r fun w0 M=>?_
 refine .sk 1 r (.nk [6,2,1,0] 3 r (.no [8,7,6,2,1,0] r (.seq (.block (.lx hd [6,2,1] [] r (fun j E l (h,p,m)=>fun c w=>j ⟨63,[],none⟩ (fun I_=>h.length=o0.length) ((0,.slice p2 h.length c3) :: (7,.int .i64 p) :: (8,.int .i64 m) :: E) (OwnSl CI 161 p2 c3 h :: l) c w) (fun c w ho hs=>jf rf (by first | exact r | omega | (simp only [List.length_set] at * <;> omega)) [0] r ho hs) ?_)))))
 rintro ⟨h,p,m⟩ b4 hd c w ⟨a4,q,a9,hok,hsym⟩
 refine Cod.at hok hsym (.seq (.sr (.kn 3 [13,8,7,6,2,1,0] r (.condP r hd (fun D hd=>?_) fun D hd=>?_))))
 · refine .sn [8,7,6,2,1,0] r (.block (.sk 4 r ?_))
   have F:=FD (I:=a4) (o0:=h) (a0:=p) (a1:=m) (p2:=p2) (c3:=c3) hd
   refine .callS (.f call225 r) (.o [0] r) F r r fun b9 c0 c1 G H=>?_
   obtain ⟨a5,rfl,x,rfl,hd⟩:=H
   have J:=G.u1 q
   exact .rl .z [0,14] r (by rw [x]) (.nk [8,6,2,1,0] 2 r (.no [7,8,6,2,1,0] r (.region (.ks 4 r (.nil' fun c w ho hs=>⟨(a5,m,AJ (m+20)),hd,jf J (by first | exact r | omega | (simp only [List.length_set] at * <;> omega)) [0] r ho hs⟩)))))
 refine .en [7,6,2,1,0] r (.sk 4 r ?_)
 have K:=FD (I:=a4) (o0:=h) (a0:=p) (a1:=a0) (p2:=p2) (c3:=c3) hd
 refine .callS (.f call225 r) (.o [0] r) K r r fun c2 c4 c5 L N=>?_
 obtain ⟨a6,rfl,y,rfl,hd⟩:=N
 have O:=L.u1 q
 refine .rl .z [0,23] r (by rw [y]) (.no [6,2,1,0] r (.block (.lx hd [2,1] [] r (fun j E l (d,a)=>fun c w=>j ⟨63,[],none⟩ (fun I_=>d.length=a6.length) ((0,.slice p2 d.length c3) :: (6,.int .i64 a) :: E) (OwnSl CI 161 p2 c3 d :: l) c w) (fun c w ho hs=>jf rf (by first | exact r | omega | (simp only [List.length_set] at * <;> omega)) [0] r ho hs) ?_)))
 rintro ⟨d,a⟩ b0 hd c w ⟨c6,s,b1,hok,hsym⟩
 have t:=s.u1 O
 refine Cod.at hok hsym (.seq (.sr (.kn 3 [30,6,2,1,0] r (.condP r hd (fun P hd=>?_) fun P hd=>?_))))
 · refine .sn [6,2,1,0] r (.block (.sr (.kn 4 [8,7,6,2,1,0] r (.seq (.block (.lx hd [6,2,1] [] r (fun j E l (b,e,g)=>fun c w=>j ⟨63,[],none⟩ (fun I_=>b.length=d.length) ((0,.slice p2 b.length c3) :: (7,.int .i64 e) :: (8,.int .i64 g) :: E) (OwnSl CI 161 p2 c3 b :: l) c w) (fun c w ho hs=>jf rf (by first | exact r | omega | (simp only [List.length_set] at * <;> omega)) [0] r ho hs) ?_))))))
   rintro ⟨b,e,g⟩ b2 hd c w ⟨C,i,b3,hok,hsym⟩
   obtain ⟨u,k⟩:=i.u2 t s
   refine Cod.at hok hsym (.seq (.sr (.kn 3 [35,8,7,6,2,1,0] r (.condP r hd (fun R hd=>?_) fun R hd=>?_))))
   · refine .sn [8,7,6,2,1,0] r (.block (.sk 7 r ?_))
     have S:=FV (I:=C) (o0:=b) (a0:=e) (a1:=(AJ (e+a))) (a2:=g) (p2:=p2) (c3:=c3) hd
     refine .callS (.f call312 r) (.o [0] r) S r r fun c7 c8 c9 T U=>?_
     obtain ⟨a7,rfl,A,rfl,hd⟩:=U
     obtain ⟨b5,b6,V⟩:=T.u3 u k i
     exact .rl .z [0,36] r (by rw [A]) (.nk [8,6,2,1,0] 2 r (.no [7,8,6,2,1,0] r (.region (.ks 5 r (.nil' fun c w ho hs=>⟨(a7,g,AJ (g+(AJ (2*a)))),hd,jf V (by first | exact r | omega | (simp only [List.length_set] at * <;> omega)) [0] r ho hs⟩)))))
   refine .en [7,6,2,1,0] r (.seq (.sk 4 r (.nk [9,7,6,2,1,0] 3 r (.no [54,9,7,6,2,1,0] r (.condP r hd (fun W hd=>?_) fun W hd=>?_)))))
   · refine .region (.ks 5 r ?_)
     have X:=FV (I:=C) (o0:=b) (a0:=e) (a1:=(AJ (e+a))) (a2:=a0) (p2:=p2) (c3:=c3) hd
     refine .callS (.f call312 r) (.o [0] r) X r r fun d0 d1 d2 Y Z=>?_
     obtain ⟨a8,rfl,B,rfl,hd⟩:=Z
     obtain ⟨b7,a3,b8⟩:=Y.u3 u k i
     exact .rl .z [0,55] r (by rw [B]) (.no [6,2,1,0] r (.region (.ks 3 r (.nil' fun c w ho hs=>⟨(a8,AJ (a*2)),hd,jf a3 (by first | exact r | omega | (simp only [List.length_set] at * <;> omega)) [0] r ho hs⟩))))
   exact .sn [6,2,1,0] r (.region (.ks 3 r (.nil' fun c w ho hs=>⟨(b,AJ (a*2)),hd,jf k (by first | exact r | omega | (simp only [List.length_set] at * <;> omega)) [0] r ho hs⟩)))
 exact .exit (RF results300 .n t (.o [0] r) ⟨d,r,(by first | exact r | omega | (simp only [List.length_set] at * <;> omega)),r,hd⟩)
theorem HQ {o0:List AM} {Q:(List AM)→Prop} (hd:CD o0 Q) :
  Fun prog 271 #[.slice p2 o0.length c3,.func (.func 254) #[] #[]] I [OwnSl CI 161 p2 c3 o0] (fun I_ v l=>∃ r,v=.tuple #[]∧r.length=o0.length∧l=[OwnSl CI 161 p2 c3 r]∧Q r):=by
 refine Fun.en func271 ntmps271 r fun w0 M=>?_
 refine .region (.ks 2 r (.ln EW r (.ks 1 r ?_)))
 have b:=MC (I:=I) (o0:=o0) (a0:=(o0.length:Int)) (p2:=p2) (c3:=c3) hd
 refine .callS (.f call300 r) (.o [0] r) b r r fun g h i c d=>?_
 obtain ⟨e,rfl,a,rfl,hd⟩:=d
 exact .rl .z [0,4,5] r (by rw [a]) (.nil' (RF results271 .n c (.o [0] r) ⟨e,r,(by first | exact r | omega | (simp only [List.length_set] at * <;> omega)),r,hd⟩))
theorem tA {a0:Int} {a1:List (List AM)} {Q:((List AM)×Int)→Prop} (R3:RepSl (NN CI) I p1 c2 a1) (hd:PC a0 a1 Q) :
  BR prog 222 [.int .i64 a0,.slice p1 a1.length c2] I (AkB Q):=by
 refine Fun.en func222 ntmps222 r fun w0 M=>?_
 refine .sr (.kn 2 [1,0] r (.seq (.sk 1 r ?_)))
 have W:=ND (I:=I) hd
 refine .cq call100 W r fun e0 hd=>?_
 refine .kn 1 [13,1,0] r (.condP r hd (fun X hd=>?_) fun X hd=>?_)
 · exact .sr (.kn 2 [5,4] r (.ret (BS results222 (.t r (.t r .n)) rf ⟨(([]:List AM),8),_,_,r,(.nil _ _ _),hd⟩)))
 refine .sn [1,0] r (.seq (.sk 1 r ?_))
 have Y:=IE (I:=I) (a0:=a1) R3 hd
 refine .callS (.f call268 r) .n Y r r fun e1 b9 e3 p Z=>?_
 obtain ⟨e4,rfl,rfl,hd⟩:=Z
 have R3:=p.u1 R3
 refine .rn 0 r (.no [15,1,0] r (.condP r hd (fun a2 hd=>?_) fun a2 hd=>?_))
 · exact .sr (.kn 2 [5,4] r (.ret (BS results222 (.t r (.t r .n)) p ⟨(([]:List AM),6),_,_,r,(.nil _ _ _),hd⟩)))
 refine .sn [1,0] r (.sk 1 r ?_)
 have a3:=NI (I:=b9) R3 hd
 refine .callO call270 r a3 r r fun e5 c0 e6 a4 a5=>?_
 obtain ⟨c1,c4,c5,rfl,rfl,hd⟩:=a5
 obtain ⟨a6,R3⟩:=a4.u2 p R3
 refine .ks 1 r (.nk [6,0] 1 r ?_)
 have a7:=HQ (I:=c0) (o0:=c1) (p2:=c4) (c3:=c5) hd
 refine .callS (.f call271 r) (.o [0] r) a7 r r fun e7 e8 e9 a8 a9=>?_
 obtain ⟨f0,rfl,y,rfl,hd⟩:=a9
 have b0:=a8.u1 a6
 refine .rl .z [6,18] r (by rw [y]) (.nk [6,0] 1 r (.no [7,6,0] r (.seq (.sk 1 r (.ln EW r (.kn 1 [22,21,20,7,0] r (.block (.own0 CI 161 (.lx hd [21,20,0] [1] r (fun j E l (b,d)=>fun c w=>∃ q s,j ⟨61,[],none⟩ (fun I_=>True) ((7,.slice q b.length s) :: (22,.int .i64 d) :: E) (OwnSl CI 161 q s b :: l) c w) (fun c w ho hs=>⟨_,_,jf rf trivial [0,0] r ho hs⟩) ?_)))))))))
 rintro ⟨b,d⟩ b8 hd c w ⟨q,s,b1,e,_,hok,hsym⟩
 have u:=e.u1 b0
 refine Cod.at hok hsym (.sr (.kn 1 [23,22,21,20,7,0] r (.seq (.condP r hd (fun L hd=>?_) fun L hd=>?_))))
 · refine .sn [22,21,20,7,0] r (.seq (.block (.sr ?_)))
   obtain ⟨A,B,g,hd⟩:=hd
   refine .ownNe .p1 (DO g) fun c8 b2=>?_
   cases b2
   refine .ixa0 EW CA r r A (AH g A) r r (.loA (j:=0) IL CA .p1 g r r (.o 4 r) r r r (.al gZ r fun c9=>?_))
   refine .sa CA .z r (.no [9,22,21,20,7,0] r (.seq (.sk 1 r (.ln EW r (.kn 1 [10,9,22,21,20,7,0] r (.seq (.jn hd [22,21,20,10,9,7,0] [1,0,0] r (fun j E l C=>j ((39,.bool C) :: E) l) (fun d0 hd=>?_) ?_)))))))
   · skip
     refine .ownF .p1 fun D=>?_
     refine .dr [0,1,2,3,4,5,6,7,8,9,10,11] 12 (.fk 3 r ?_)
     refine AQ hd (fun a hd=>?_) fun a hd=>?_
     · refine .h r (fun _=>.gyes r r a (.move r r r .mk)) (.h r (fun _=>.gyes r r a (.move r r r .mk)) (.h r (fun _=>.gyes r r a (.sub' r r r r .mk)) ?_))
       obtain ⟨F,d1,i,hd⟩:=hd
       obtain ⟨d2,b3⟩:=D (DO i)
       cases b3
       refine .h r (fun _=>.gyes r r a (.ixa0 EW CA r r F (AH i F) r r .mk)) (.h r (fun _=>.gyes r r a (.loA (j:=0) IL CA .p1 i r r (.o 4 r) r r r .mk)) (.h r (fun _=>.gyes r r a (.lw IL CA .z r .mk)) (.ww r fun ex=>?_)))
       have N:=eP (I:=b1) hd
       refine .gyes r r a (.callP call254 r N r r fun d3 O=>?_)
       obtain ⟨b4,rfl,hd⟩:=O
       exact .so 3 r r r trivial (.h r (fun _=>.gyes r r a (.eq r r r r .mk)) (.h r (fun _=>.pickT r a r r r .mk) (.e2 12 (.nil' (je (b4==0) hd rf [1,0,0] r)))))
     refine .h r (fun _=>.gno r r a r r .mk) (.h r (fun _=>.gno r r a r r .mk) (.h r (fun _=>.gno r r a r r .mk) (.h r (fun _=>.gno r r a r r .mk) (.h r (fun _=>.gno r r a r r .mk) (.h r (fun _=>.gno r r a r r .mk) (.h r (fun _=>.gno r r a r r .mk) (.h r (fun _=>.gno r r a r r .mk) (.h r (fun _=>.pickF r a r r r .mk) (.e2 12 ?_)))))))))
     exact .nil' (je false hd rf [1,0,0] r)
   refine fun C hd=>jq r fun b5 P=>?_
   obtain ⟨c6,v⟩:=P.u2 u e
   refine .condP r hd (fun R hd=>?_) fun R hd=>?_
   · refine .seq (.ownF .z fun G=>?_)
     refine .dr [0,1,2,3,4,5,6,7,8,9,10,11,12,13,14,15] 16 (.fk 7 r ?_)
     obtain ⟨H,d4,k,hd⟩:=hd
     obtain ⟨d5,b6⟩:=G (DO k)
     cases b6
     refine .h r (fun _=>.ixa0 EW CA r r H (AH k H) r r .mk) (.fk 1 r (.h r (fun _=>.loA (j:=2) BP AU .z k r r (.o 2 r) r r r .mk) (.fk 1 r (.h r (fun _=>.loadA BP AU r .p1 (.o 2 r) r r r .mk) (.ww r fun ex=>?_)))))
     have S:=UK (I:=b5) hd
     refine .cq call184 S r fun J hd=>?_
     refine .so 3 r r r (.ck 3 r r trivial) ?_
     obtain ⟨K,m,x,hd⟩:=hd
     refine .h r (fun _=>.ixa0 EW CA r r K (AH x K) r r .mk) (.fk 1 r (.ww r fun ex=>?_))
     exact .stOA (j:=2) (v':=({ Row:=m.Row,Col:=m.Col,Val:=J }:AM)) AU .z x r r r (.o r) r r (.sn 3 r r r trivial (.e2 16 (.rl .z [7,40,44] r (by simp only [List.length_set]) (.no [22,21,20,7,0] r (.drop .p1 (.en [22,21,20,7,0] r (.region (.ks 2 r (.nil' fun c w ho hs=>⟨((b.set ((AJ ((b.length:Int) - 1)).toNat) ({ Row:=m.Row,Col:=m.Col,Val:=J }:AM)),AJ (d+1)),hd,_,_,jf v trivial [0,0] r ho hs⟩)))))))))
   refine .sn [22,21,20,9,7,0] r (.region (.ks 1 r (.lw IL CA .p1 r (.buildSlice 1 EW CA gZ r r (.c r r r .n) r r fun d6=>?_))))
   obtain ⟨T,hd⟩:=hd
   refine .append (ys:=[B]) 32 .p1 EW EW uF r r r r r r r r r (.box .z (.one r) r) T r r fun d7 d8=>?_
   exact .kn 1 [7,22,21,20,0] r (.drop .p1 (.drop .p1 (.region (.ks 2 r (.nil' fun c w ho hs=>⟨((b++([B])),AJ (d+1)),hd,_,_,jf v trivial [0,0] r ho hs⟩)))))
 refine .en [7] r (.drop .p1 (.sr (.kn 3 [5,4] r (.pub .z fun d9 U b7=>?_))))
 obtain ⟨V,c7⟩:=U.u2 u e
 exact .ret (BS results222 (.t r (.t r .n)) V ⟨(b,0),_,_,r,b7,hd⟩)
theorem Z2 {a0:List Int} {Q:Int→Prop} (R3:RepSl AE I p1 c2 a0) (hd:IW a0 Q) :
  BR prog 201 [.slice p1 a0.length c2] I (fun _=>kO Q):=by
 refine Fun.en func201 ntmps201 r fun w0 M=>?_
 refine .sr (.kn 1 [0] r (.seq (.sk 1 r (.ln BT r (.kn 1 [7,0] r (.condP r hd (fun p hd=>?_) fun p hd=>?_))))))
 · refine .region ?_
   exact hd.elim
 refine .sn [0] r (.sk 1 r ?_)
 obtain ⟨f,w,c,hd⟩:=hd
 obtain ⟨x,o19,u,q,i,k⟩:=R3.2 _ _ c
 cases k
 refine .ixa BT EX r q r f (AH c f) r r (.ld1 (j:=0) BF i r r r r r (.kn 1 [3,0] r (.seq (.sr (.kn 1 [4,3,0] r (.block (.lp hd [0] [] r (fun j E l (a,d)=>j ((3,.int .i64 a) :: (4,.int .i64 d) :: E) l) (ji rf [] r) ?_)))))))
 rintro ⟨a,d⟩ s hd
 refine jq r fun y b=>?_
 have R3:=b.u1 R3
 refine .seq (.sk 2 r (.ln BT r (.kn 1 [15,4,3,0] r (.condP r hd (fun m hd=>?_) fun m hd=>?_))))
 · refine .sn [4,3,0] r (.seq (.block (.region (.ks 3 r ?_))))
   obtain ⟨g,h,e,hd⟩:=hd
   obtain ⟨z,o63,v,t,n,o⟩:=R3.2 _ _ e
   cases o
   exact .ixa BT EX r t r g (AH e g) r r (.ld1 (j:=0) BF n r r r r r (.minI r r r r (.kn 1 [3,4,0] r (.region (.ks 3 r (.nil' (je ((if h<a then h else a),AJ (d+1)) hd b [] r)))))))
 exact .en [3] r (.sr (.kn 2 [2] r (.r1 results201 r b ⟨a,r,hd⟩)))
theorem WT {a0 a1:AM} {Q:Int→Prop} (hd:GR a0 a1 Q) :
  BR prog 112 [.agg (V8 a0).toArray,.agg (V8 a1).toArray] I (fun _=>kO Q):=by
 refine Fun.en func112 ntmps112 r fun w0 M=>?_
 refine .sr (.bx r fun o=>?_)
 refine .bx r fun p=>?_
 refine .kn 1 [3,2] r (.seq (.dr [0,1,2,3,5,6,7,8,4,9,10,11] 12 (.fk 1 r (.h r (fun _=>.lo BF .p1 r .mk) (.fk 1 r (.h r (fun _=>.lo BF .z r .mk) (.fk 1 r (.h r (fun _=>.lo BF .p1 r .mk) (.fk 1 r ?_)))))))))
 refine .h r (fun _=>.lo BF .z r .mk) (.ww r fun ex=>?_)
 have b:=CX (I:=I) hd
 refine .cq call114 b r fun g hd=>?_
 refine .so 2 r r r (.ch r (fun _=>.lo BF .z r .mk) (.ck 1 r r (.ch r (fun _=>.lo BF .p1 r .mk) (.ck 1 r r trivial)))) (.ww r fun ex=>?_)
 have d:=CX (I:=I) hd
 refine .cq call114 d r fun a hd=>?_
 refine .so 2 r r r trivial (.ww r fun ex=>?_)
 refine .buildSlice 2 BT EX nL r r (.c r r r (.c r r r .n)) r r fun m=>?_
 refine .so 3 r r r trivial (.ww r fun ex=>?_)
 refine .pubB (El:=AE) (ys:=([g,a]:List Int)) (k:=2) .z (RepCs.cons (cs:=[.int .i64 g]) r (RepCs.cons (cs:=[.int .i64 a]) r .nil)) r fun i e j=>?_
 have f:=JE (I:=i) j hd
 refine .cq call113 f r fun l hd=>?_
 exact .so 2 r r r trivial (.e2 12 (.kn 1 [4] r (.drop .z (.drop .z (.r1 results112 r e ⟨l,r,hd⟩)))))
theorem iL {a0:Int} {Q:Int→Prop} (hd:SP a0 Q) :
  BR prog 182 [.int .i64 a0] I (fun _=>kO Q):=by
 refine Fun.en func182 ntmps182 r fun w0 M=>?_
 refine .sr (.kn 1 [0] r (.seq (.sr (.kn 1 [3] r (.block (.seq (.sr (.kn 2 [4,3] r (.condP r hd (fun a hd=>?_) fun a hd=>?_)))))))))
 · exact .sn [4] r (.condKT r a (.sr (.kn 1 [2] r (.r0 results182 r ⟨4611686018427387904,r,hd⟩))))
 refine .sr (.kn 2 [4,3] r (.condP r hd (fun b hd=>?_) fun b hd=>?_))
 · exact .sn [4] r (.condKT r b (.sr (.kn 1 [2] r (.r0 results182 r ⟨4611686018427387904,r,hd⟩))))
 refine .region (.kn 2 [4] r (.condP r hd (fun c hd=>?_) fun c hd=>?_))
 · exact .sr (.kn 1 [2] r (.r0 results182 r ⟨4611686018427387904,r,hd⟩))
 exact .sn [] r (.sr (.kn 1 [2] r (.r0 results182 r ⟨0,r,hd⟩)))
theorem QB {a0 a1:Int} {Q:Bool→Prop} (hd:KO a0 a1 Q) :
  BR prog 204 [.int .i64 a0,.int .i64 a1] I (fun _=>dA Q):=by
 refine Fun.en func204 ntmps204 r fun w0 M=>?_
 refine .sk 1 r (.nk [1,0] 3 r ?_)
 refine AQ hd (fun a hd=>?_) fun a hd=>?_
 · rw [a]
   exact .kn 5 [4] r (.r0 results204 r ⟨(decide (a0≤a1)),r,hd⟩)
 rw [a]
 exact .kn 5 [4] r (.r0 results204 r ⟨false,r,hd⟩)
theorem eR {o0 o1:Int} {a0:AM} {Q:Bool→Prop} (hd:QY o0 o1 a0 Q) :
  Fun prog 206 #[.agg (V8 a0).toArray,.pointer (some ⟨b3,0,none⟩),.pointer (some ⟨b4,0,none⟩)] I [pto b3 (.cells #[.int .i64 o0] 3 (0,0)),pto b4 (.cells #[.int .i64 o1] 3 (0,0))] (fun I_ v l=>∃ r,v=.bool r∧l=[pto b3 (.cells #[.int .i64 o0] 3 (0,0)),pto b4 (.cells #[.int .i64 o1] 3 (0,0))]∧Q r):=by
 refine Fun.en func206 ntmps206 r fun w0 M=>?_
 refine .sr (.bx r fun g=>?_)
 refine .ks 1 r (.nk [3,2,1] 1 r (.lo BF .z r (.lo BF .p1 r (.ks 1 r ?_))))
 have b:=QB (I:=I) hd
 refine .cq call204 b r fun h hd=>?_
 refine .ks 2 r ?_
 refine AQ hd (fun a hd=>?_) fun a hd=>?_
 · rw [a]
   exact .kn 8 [4,2,1] r (.drop .z (.q1 results206 rf [0,0] r ⟨true,r,r,hd⟩))
 rw [a]
 refine .ks 1 r (.yes r (.lo BF .z r (.yes r (.lo BF .p2 r (.ks 1 r ?_)))))
 have c:=QB (I:=I) hd
 refine .yes r (.callP call204 r c r r fun f d=>?_)
 obtain ⟨e,rfl,hd⟩:=d
 exact .kn 3 [4,2,1] r (.drop .z (.q1 results206 rf [0,0] r ⟨(!e),r,r,hd⟩))
theorem JS {o0 o1:Int} {a0:List AM} {Q:Int→Prop} (R7:RepSl CI I p5 c6 a0) (hd:DS o0 o1 a0 Q) :
  Fun prog 253 #[.slice p5 a0.length c6,.func (.func 206) #[] #[.pointer (some ⟨b3,0,none⟩),.pointer (some ⟨b4,0,none⟩)]] I [pto b3 (.cells #[.int .i64 o0] 3 (0,0)),pto b4 (.cells #[.int .i64 o1] 3 (0,0))] (fun I_ v l=>∃ r,v=.int .i64 r∧l=[pto b3 (.cells #[.int .i64 o0] 3 (0,0)),pto b4 (.cells #[.int .i64 o1] 3 (0,0))]∧Q r):=by
 refine Fun.en func253 ntmps253 r fun w0 M=>?_
 refine .sr (.kn 1 [1,0] r (.seq (.sk 1 r (.ln EW r (.kn 1 [8,7,1,0] r (.block (.lp hd [7,1,0] [0,0] r (fun j E l d=>j ((8,.int .i64 d) :: E) l) (ji rf [0,0] r) ?_)))))))
 refine fun d q hd=>jq r fun s a=>?_
 have R7:=a.u1 R7
 refine .sr (.kn 1 [9,8,7,1,0] r (.seq (.condP r hd (fun h hd=>?_) fun h hd=>?_)))
 · refine .sn [8,7,1,0] r (.seq (.block (.sk 2 r (.nk [5,8,7,1,0] 3 r ?_))))
   obtain ⟨g,t,e,hd⟩:=hd
   obtain ⟨x,o59,w,u,b,i⟩:=R7.2 _ _ e
   cases i
   refine .ixa EW CA r u r g (AH e g) r r (.ldW IL CA b r r r r ?_)
   have k:=eR (I:=s) (o0:=o0) (o1:=o1) (a0:=t) (b3:=b3) (b4:=b4) hd
   refine .callS (.c call206 r r) (.o [0,0] r) k r r fun y z A m n=>?_
   obtain ⟨B,rfl,rfl,hd⟩:=n
   obtain ⟨f,R7,b⟩:=m.u3 a R7 b
   refine .rn 2 r (.no [16,5,8,7,1,0] r (.condP r hd (fun p hd=>?_) fun p hd=>?_))
   · exact .sr (.kn 2 [4,1] r (.q1 results253 f [0,0] r ⟨d,r,r,hd⟩))
   exact .sn [8,7,1,0] r (.region (.ks 2 r (.nil' (je (AJ (d+1)) hd f [0,0] r))))
 exact .en [1] r (.sr (.kn 1 [4,1] r (.q1 results253 a [0,0] r ⟨(-1),r,r,hd⟩)))
theorem IF {o0 o1:Int} {a0:List AM} {Q:Bool→Prop} (R7:RepSl CI I p5 c6 a0) (hd:DH o0 o1 a0 Q) :
  Fun prog 205 #[.slice p5 a0.length c6,.func (.func 206) #[] #[.pointer (some ⟨b3,0,none⟩),.pointer (some ⟨b4,0,none⟩)]] I [pto b3 (.cells #[.int .i64 o0] 3 (0,0)),pto b4 (.cells #[.int .i64 o1] 3 (0,0))] (fun I_ v l=>∃ r,v=.bool r∧l=[pto b3 (.cells #[.int .i64 o0] 3 (0,0)),pto b4 (.cells #[.int .i64 o1] 3 (0,0))]∧Q r):=by
 refine Fun.en func205 ntmps205 r fun w0 M=>?_
 refine .sk 1 r (.nk [1,0] 2 r ?_)
 have c:=JS (I:=I) (o0:=o0) (o1:=o1) (a0:=a0) (b3:=b3) (b4:=b4) R7 hd
 refine .callS (.f call253 r) (.o [0,0] r) c r r fun e h g a b=>?_
 obtain ⟨d,rfl,rfl,hd⟩:=b
 have R7:=a.u1 R7
 exact .rn 2 r (.kn 2 [4,1] r (.q1 results205 a [0,0] r ⟨(decide (0≤d)),r,r,hd⟩))
theorem xK {a0 a1 a2:Int} {a3:List AM} {Q:(Rows×Int)→Prop} (R3:RepSl CI I p1 c2 a3) (hd:ZJ a0 a1 a2 a3 Q) :
  BR prog 131 [.int .i64 a0,.int .i64 a1,.int .i64 a2,.slice p1 a3.length c2] I (o8_ Q):=by
 refine Fun.en func131 ntmps131 r fun w0 M=>?_
 refine .sr (.box1 r r r r fun c3=>?_)
 refine .box1 r r r r fun c4=>?_
 refine .al FO r fun e8=>?_
 refine .kn 1 [8,6,5,3,0] r (.seq (.block (.sk 1 r ?_)))
 have b0:=ND (I:=I) hd
 refine .cq call100 b0 r fun e9 hd=>?_
 refine .kn 2 [15,8,6,5,3,0] r (.condP r hd (fun B hd=>?_) fun B hd=>?_)
 · exact .sr (.build FO OQ OP .n (by exact trivial) r r (.sa BH .z r (.kn 1 [9,8] r (.drop .p1 (.drop .p1 (.ret (BS results131 (.w CF BH r .z r (.t r .n)) rf ⟨(({ Rows:=0,Cols:=0,Start:=([]:List Int),Col:=([]:List Int),Val:=([]:List Int) }:Rows),8),_,_,_,_,_,_,r,(.nil _ _ _),(.nil _ _ _),(.nil _ _ _),hd⟩)))))))
 refine .seq (.jn hd [8,6,5,3,0] [2,1,0] r (fun j E l u=>j ((20,.bool u) :: E) l) (fun c7 hd=>?_) ?_)
 · skip
   refine .region (.lo BF .p2 r ?_)
   have C:=QB (I:=I) hd
   refine .cq call204 C r fun c8 hd=>?_
   refine .ks 2 r ?_
   refine AQ hd (fun e hd=>?_) fun e hd=>?_
   · rw [e]
     exact .ks 5 r (.nil' (je true hd rf [2,1,0] r))
   rw [e]
   refine .yes r (.lo BF .p1 r ?_)
   have D:=QB (I:=I) hd
   refine .yes r (.callP call204 r D r r fun c9 F=>?_)
   obtain ⟨b1,rfl,hd⟩:=F
   exact .ks 3 r (.nil' (je (!b1) hd rf [2,1,0] r))
 refine fun u hd=>jq r fun b2 g=>?_
 have R3:=g.u1 R3
 refine .condP r hd (fun G hd=>?_) fun G hd=>?_
 · exact .sr (.build FO OQ OP .n (by exact trivial) r r (.sa BH .p2 r (.kn 1 [9,8] r (.drop .z (.drop .z (.ret (BS results131 (.w CF BH r .z r (.t r .n)) g ⟨(({ Rows:=0,Cols:=0,Start:=([]:List Int),Col:=([]:List Int),Val:=([]:List Int) }:Rows),3),_,_,_,_,_,_,r,(.nil _ _ _),(.nil _ _ _),(.nil _ _ _),hd⟩)))))))
 refine .sk 1 r (.mkFn r r r r ?_)
 have H:=IF (I:=b2) (o0:=a1) (o1:=a2) (a0:=a3) (b3:=c3) (b4:=c4) R3 hd
 refine .callS (.f call205 r) (.o [0,0] r) H r r fun d0 b5 d1 J K=>?_
 obtain ⟨d2,rfl,rfl,hd⟩:=K
 obtain ⟨a,R3⟩:=J.u2 g R3
 refine .rn 3 r (.kn 1 [30,8,6,5,3,0] r (.condP r hd (fun L hd=>?_) fun L hd=>?_))
 · exact .sr (.build FO OQ OP .n (by exact trivial) r r (.sa BH .p2 r (.kn 1 [9,8] r (.drop .z (.drop .z (.ret (BS results131 (.w CF BH r .z r (.t r .n)) a ⟨(({ Rows:=0,Cols:=0,Start:=([]:List Int),Col:=([]:List Int),Val:=([]:List Int) }:Rows),3),_,_,_,_,_,_,r,(.nil _ _ _),(.nil _ _ _),(.nil _ _ _),hd⟩)))))))
 refine .sk 1 r ?_
 have N:=eQ (I:=b5) R3 hd
 refine .cq call207 N r fun d3 hd=>?_
 refine .kn 2 [35,8,6,5,3,0] r (.condP r hd (fun O hd=>?_) fun O hd=>?_)
 · exact .sr (.build FO OQ OP .n (by exact trivial) r r (.sa BH .p2 r (.kn 1 [9,8] r (.drop .z (.drop .z (.ret (BS results131 (.w CF BH r .z r (.t r .n)) a ⟨(({ Rows:=0,Cols:=0,Start:=([]:List Int),Col:=([]:List Int),Val:=([]:List Int) }:Rows),6),_,_,_,_,_,_,r,(.nil _ _ _),(.nil _ _ _),(.nil _ _ _),hd⟩)))))))
 refine .sk 1 r (.ln EW r (.kn 2 [40,8,6,5,3,0] r (.condP r hd (fun P hd=>?_) fun P hd=>?_)))
 · exact .sr (.build FO OQ OP .n (by exact trivial) r r (.sa BH .p2 r (.kn 1 [9,8] r (.drop .z (.drop .z (.ret (BS results131 (.w CF BH r .z r (.t r .n)) a ⟨(({ Rows:=0,Cols:=0,Start:=([]:List Int),Col:=([]:List Int),Val:=([]:List Int) }:Rows),5),_,_,_,_,_,_,r,(.nil _ _ _),(.nil _ _ _),(.nil _ _ _),hd⟩)))))))
 refine .sn [8,6,5,3,0] r (.sr (.kn 1 [10,8,6,5,3,0] r (.seq (.sk 1 r (.ln EW r (.kn 1 [47,46,45,10,8,6,5,0] r (.block (.own0 BV 103 (.lx hd [46,45,8,6,5,0] [1,1,1] r (fun j E l (d,h)=>fun c w=>∃ k m,j ⟨82,[],none⟩ (fun I_=>True) ((10,.slice k d.length m) :: (47,.int .i64 h) :: E) (OwnSl BV 103 k m d :: l) c w) (fun c w ho hs=>⟨_,_,jf rf trivial [0,0,0,0] r ho hs⟩) ?_)))))))))
 rintro ⟨d,h⟩ c1 hd c w ⟨k,m,v,b,_,hok,hsym⟩
 obtain ⟨q,R3⟩:=b.u2 a R3
 refine Cod.at hok hsym (.sr (.kn 1 [48,47,46,45,10,8,6,5,0] r (.seq (.condP r hd (fun R hd=>?_) fun R hd=>?_))))
 · refine .sn [47,46,45,10,8,6,5,0] r (.seq (.block (.sr ?_)))
   obtain ⟨x,i,s,hd⟩:=hd
   obtain ⟨d4,o475,c5,b6,S,T⟩:=R3.2 _ _ s
   cases T
   refine .ixa EW CA r b6 r x (AH s x) r r (.ldW IL CA S r r r r (.al gZ r fun d5=>?_))
   refine .sa CA .z r (.nk [12,47,46,45,10,8,6,5,0] 2 r (.loadA BP AU r .z (.o 2 r) r r r ?_))
   have U:=QA (I:=v) hd
   refine .cq call185 U r fun y hd=>?_
   refine .kn 5 [14,13,12,47,46,45,10,8,6,5,0] r (.seq (.sr (.kn 2 [59,13,12,47,46,45,10,8,6,5,0] r (.condP r hd (fun V hd=>?_) fun V hd=>?_))))
   · exact .sr (.build FO OQ OP .n (by exact trivial) r r (.sa BH .p4 r (.kn 1 [9,8] r (.drop .z (.drop .z (.drop .z (.drop .z (.ret (BS results131 (.w CF BH r .z r (.t r .n)) q ⟨(({ Rows:=0,Cols:=0,Start:=([]:List Int),Col:=([]:List Int),Val:=([]:List Int) }:Rows),12),_,_,_,_,_,_,r,(.nil _ _ _),(.nil _ _ _),(.nil _ _ _),hd⟩)))))))))
   refine .sn [13,12,47,46,45,10,8,6,5,0] r (.sk 2 r ?_)
   have W:=iL (I:=v) hd
   refine .cq call182 W r fun d6 hd=>?_
   refine .kn 1 [64,13,12,47,46,45,10,8,6,5,0] r (.condP r hd (fun X hd=>?_) fun X hd=>?_)
   · refine .region (.ks 2 r (.lo BF .z r (.ks 1 r (.lo BF .z r (.ks 1 r (.build RK oT oP (.c r r r (.o r) (.c r r r (.o r) (.c r r r (.o r) .n))) (by exact ⟨⟨_,_,r,r,r⟩,⟨⟨_,_,r,r,r⟩,⟨⟨_,_,r,r,r⟩,trivial⟩⟩⟩) r r (.buildSlice 1 JG KD RK r r (.c r r r .n) r r fun d7=>?_)))))))
     obtain ⟨Y,hd⟩:=hd
     refine .append (ys:=[({ Row:=i.Row,Col:=i.Col,Val:=y.1 }:AD)]) 24 .p2 JG JG kM r r r r r r r r r (.box .z (.one r) r) Y r r fun d8 d9=>?_
     exact .kn 1 [10,47,46,45,8,6,5,0] r (.drop .p1 (.drop .p1 (.region (.ks 2 r (.nil' fun c w ho hs=>⟨((d++([({ Row:=i.Row,Col:=i.Col,Val:=y.1 }:AD)])),AJ (h+1)),hd,_,_,jf b trivial [0,0,0,0] r ho hs⟩)))))
   exact .sn [47,46,45,10,8,6,5,0] r (.drop .z (.region (.ks 2 r (.nil' fun c w ho hs=>⟨(d,AJ (h+1)),hd,_,_,jf b trivial [0,0,0,0] r ho hs⟩))))
 refine .en [10,8,6,5,0] r (.sk 1 r (.lo BF .p1 r (.lo BF .p2 r (.ks 1 r (.pub .z fun b7 Z p=>?_)))))
 obtain ⟨a4,a5⟩:=Z.u2 q b
 have a6:=mT (I:=b7) p hd
 refine .call call208 r a6 r r fun e0 e1 a7 a8=>?_
 obtain ⟨A,e2,e3,e4,e5,e6,e7,rfl,b8,b9,c0,hd⟩:=a8
 obtain ⟨a9,c6,p⟩:=a7.u3 a4 a5 p
 exact .ks 2 r (.sa BH .p2 r (.kn 1 [9,8] r (.drop .z (.drop .z (.ret (BS results131 (.w CF BH r .z r (.t r .n)) a9 ⟨(A.1,A.2),_,_,_,_,_,_,r,b8,b9,c0,hd⟩))))))
theorem LG {a0 a1:List Int} {Q:Bool→Prop} (R3:RepSl AE I p1 c2 a0) (R6:RepSl AE I p4 c5 a1) (hd:FB a0 a1 Q) :
  BR prog 52 [.slice p1 a0.length c2,.slice p4 a1.length c5] I (fun _=>dA Q):=by
 refine Fun.en func52 ntmps52 r fun w0 M=>?_
 refine .sr (.kn 1 [1,0] r (.seq (.sk 1 r (.ln BT r (.ks 1 r (.ln BT r (.kn 1 [10,1,0] r (.condP r hd (fun p hd=>?_) fun p hd=>?_))))))))
 · exact .sr (.kn 1 [4] r (.r0 results52 r ⟨false,r,hd⟩))
 refine .sn [1,0] r (.seq (.sr (.kn 1 [5,1,0] r (.block (.lp hd [1,0] [] r (fun j E l b=>j ((5,.int .i64 b) :: E) l) (ji rf [] r) ?_)))))
 refine fun b q hd=>jq r fun w a=>?_
 obtain ⟨R3,R6⟩:=a.u2 R3 R6
 refine .seq (.sk 2 r (.ln BT r (.kn 1 [14,5,1,0] r (.condP r hd (fun g hd=>?_) fun g hd=>?_))))
 · refine .sn [5,1,0] r (.seq (.block (.seq (.dr [0,1,2,3,4,5,6,7,8] 9 (.fk 2 r ?_)))))
   obtain ⟨e,x,c,hd⟩:=hd
   obtain ⟨y,o64,u,s,i,k⟩:=R3.2 _ _ c
   cases k
   refine .h r (fun _=>.ixa BT EX r s r e (AH c e) r r .mk) (.h r (fun _=>.ld1 (j:=0) BF i r r r r r .mk) (.fk 2 r ?_))
   obtain ⟨f,z,d,hd⟩:=hd
   obtain ⟨A,o73,v,t,m,n⟩:=R6.2 _ _ d
   cases n
   refine .h r (fun _=>.ixa BT EX r t r f (AH d f) r r .mk) (.h r (fun _=>.ld1 (j:=0) BF m r r r r r .mk) (.fk 1 r (.e2 9 (.no [25,5,1,0] r (.condP r hd (fun o hd=>?_) fun o hd=>?_)))))
   · exact .sr (.kn 1 [4] r (.r1 results52 r a ⟨false,r,hd⟩))
   exact .sn [5,1,0] r (.region (.ks 3 r (.nil' (je (AJ (b+1)) hd a [] r))))
 exact .en [] r (.sr (.kn 1 [4] r (.r1 results52 r a ⟨true,r,hd⟩)))
theorem nW {a0:BI} {Q:Int→Prop} (R3:RepSl AE I p1 c2 a0.A.Start) (R6:RepSl AE I p4 c5 a0.A.Col) (R9:RepSl AE I p7 c8 a0.A.Val) (R12:RepSl AE I p10 c11 a0.B.Start) (R15:RepSl AE I p13 c14 a0.B.Col) (R18:RepSl AE I p16 c17 a0.B.Val) (R21:RepSl AE I p19 c20 a0.Mask.Start) (R24:RepSl AE I p22 c23 a0.Mask.Col) (R27:RepSl AE I p25 c26 a0.Mask.Val) (hd:QO a0 Q) :
  BR prog 35 [.agg #[.int .i64 a0.Ring,.int .i64 a0.A.Rows,.int .i64 a0.A.Cols,.slice p1 a0.A.Start.length c2,.slice p4 a0.A.Col.length c5,.slice p7 a0.A.Val.length c8,.int .i64 a0.B.Rows,.int .i64 a0.B.Cols,.slice p10 a0.B.Start.length c11,.slice p13 a0.B.Col.length c14,.slice p16 a0.B.Val.length c17,.int .i64 a0.Mask.Rows,.int .i64 a0.Mask.Cols,.slice p19 a0.Mask.Start.length c20,.slice p22 a0.Mask.Col.length c23,.slice p25 a0.Mask.Val.length c26,.int .i64 a0.R,.int .i64 a0.C,.int .i64 a0.Room]] I (fun _=>kO Q):=by
 refine Fun.en func35 ntmps35 r fun w0 M=>?_
 refine .sr (.bx r fun c=>?_)
 refine .kn 1 [1] r (.seq (.sr (.lw WI KH .z r ?_)))
 have a:=aZ (I:=I) R3 R6 R9 R12 R15 R18 R21 R24 R27 hd
 refine .cq call33 a r fun d hd=>?_
 refine .kn 1 [6,1] r (.condP r hd (fun b hd=>?_) fun b hd=>?_)
 · exact .sr (.kn 1 [2] r (.drop .z (.r0 results35 r ⟨0,r,hd⟩)))
 exact .sn [1] r (.sk 1 r (.lo BF .z r (.ks 1 r (.lo BF .z r (.kn 2 [3] r (.drop .z (.sr (.kn 5 [2] r (.r0 results35 r ⟨(AJ ((AJ ((AJ (a0.R+a0.C))*(AJ (a0.R+a0.C))))+2)),r,hd⟩)))))))))
theorem RM {o0:AK} {a0:Int} {Q:Bool→Prop} (R5:RepSl BU I p3 c4 o0.Edges) (hd:JX o0 a0 Q) :
  Fun prog 186 #[.int .i64 a0,.pointer (some ⟨b2,0,none⟩)] I [pto b2 (.cells #[.int .i64 o0.N,.slice p3 o0.Edges.length c4] 24 (0,0))] (fun I_ v l=>∃ r,v=.bool r∧l=[pto b2 (.cells #[.int .i64 o0.N,.slice p3 o0.Edges.length c4] 24 (0,0))]∧Q r):=by
 refine Fun.en func186 ntmps186 r fun w0 M=>?_
 refine .sk 1 r (.nk [1,0] 3 r ?_)
 refine AQ hd (fun a hd=>?_) fun a hd=>?_
 · rw [a]
   exact .kn 6 [3,1] r (.q1 results186 rf [0] r ⟨true,r,r,hd⟩)
 rw [a]
 exact .ks 2 r (.yes r (.lo BF .z r (.kn 3 [3,1] r (.q1 results186 rf [0] r ⟨(decide (o0.N≤a0)),r,r,hd⟩))))
theorem aF {o1:AK} {a0:AL} {Q:Bool→Prop} (R7:RepSl BU I p5 c6 o1.Edges) (hd:NT o1 a0 Q) :
  Fun prog 188 #[.agg (IR a0).toArray,.pointer (some ⟨b3,0,none⟩)] I [pto b3 (.cells #[.func (.func 186) #[] #[.pointer (some ⟨b4,0,none⟩)]] 144 (0,0)),pto b4 (.cells #[.int .i64 o1.N,.slice p5 o1.Edges.length c6] 24 (0,0))] (fun I_ v l=>∃ r,v=.bool r∧l=[pto b3 (.cells #[.func (.func 186) #[] #[.pointer (some ⟨b4,0,none⟩)]] 144 (0,0)),pto b4 (.cells #[.int .i64 o1.N,.slice p5 o1.Edges.length c6] 24 (0,0))]∧Q r):=by
 refine Fun.en func188 ntmps188 r fun w0 M=>?_
 refine .sr (.bx r fun m=>?_)
 refine .ks 1 r (.ns [2,1] r (.lo isAgg144 .p1 r (.ks 1 r (.lo BF .z r ?_))))
 have d:=RM (I:=I) (o0:=o1) (a0:=a0.From) (b2:=b4) (p3:=p5) (c4:=c6) R7 hd
 refine .callS (.c call186 r r) (.o [2] r) d r r fun n j p a e=>?_
 obtain ⟨q,rfl,rfl,hd⟩:=e
 have R7:=a.u1 R7
 refine .rn 3 r (.ks 1 r ?_)
 refine AQ hd (fun b hd=>?_) fun b hd=>?_
 · rw [b]
   exact .kn 6 [3,1] r (.drop .p1 (.q1 results188 a [1,0] r ⟨true,r,r,hd⟩))
 rw [b]
 refine .yes r (.lo isAgg144 .p2 r (.ks 1 r (.yes r (.lo BF .p1 r ?_))))
 have f:=RM (I:=j) (o0:=o1) (a0:=a0.To) (b2:=b4) (p3:=p5) (c4:=c6) R7 hd
 refine .yes r (.callS (.c call186 r r) (.o [0] r) f r r fun s t u g h=>?_)
 obtain ⟨k,rfl,rfl,hd⟩:=h
 obtain ⟨i,R7⟩:=g.u2 a R7
 exact .rn 3 r (.kn 2 [3,1] r (.drop .p1 (.q1 results188 i [1,0] r ⟨k,r,r,hd⟩)))
theorem JT {o1:AK} {a0:List AL} {Q:Int→Prop} (R7:RepSl BU I p5 c6 o1.Edges) (R10:RepSl BU I p8 c9 a0) (hd:DT o1 a0 Q) :
  Fun prog 240 #[.slice p8 a0.length c9,.func (.func 188) #[] #[.pointer (some ⟨b3,0,none⟩)]] I [pto b3 (.cells #[.func (.func 186) #[] #[.pointer (some ⟨b4,0,none⟩)]] 144 (0,0)),pto b4 (.cells #[.int .i64 o1.N,.slice p5 o1.Edges.length c6] 24 (0,0))] (fun I_ v l=>∃ r,v=.int .i64 r∧l=[pto b3 (.cells #[.func (.func 186) #[] #[.pointer (some ⟨b4,0,none⟩)]] 144 (0,0)),pto b4 (.cells #[.int .i64 o1.N,.slice p5 o1.Edges.length c6] 24 (0,0))]∧Q r):=by
 refine Fun.en func240 ntmps240 r fun w0 M=>?_
 refine .sr (.kn 1 [1,0] r (.seq (.sk 1 r (.ln CL r (.kn 1 [8,7,1,0] r (.block (.lp hd [7,1,0] [0,0] r (fun j E l d=>j ((8,.int .i64 d) :: E) l) (ji rf [0,0] r) ?_)))))))
 refine fun d q hd=>jq r fun s a=>?_
 obtain ⟨R7,R10⟩:=a.u2 R7 R10
 refine .sr (.kn 1 [9,8,7,1,0] r (.seq (.condP r hd (fun h hd=>?_) fun h hd=>?_)))
 · refine .sn [8,7,1,0] r (.seq (.block (.sk 2 r (.nk [5,8,7,1,0] 3 r ?_))))
   obtain ⟨g,t,e,hd⟩:=hd
   obtain ⟨x,o62,w,u,b,i⟩:=R10.2 _ _ e
   cases i
   refine .ixa CL CN r u r g (AH e g) r r (.ldW MQ CN b r r r r ?_)
   have k:=aF (I:=s) (o1:=o1) (a0:=t) (b3:=b3) (b4:=b4) (p5:=p5) (c6:=c6) R7 hd
   refine .callS (.c call188 r r) (.o [0,0] r) k r r fun y z A m n=>?_
   obtain ⟨B,rfl,rfl,hd⟩:=n
   obtain ⟨f,R7,R10,b⟩:=m.u4 a R7 R10 b
   refine .rn 2 r (.no [16,5,8,7,1,0] r (.condP r hd (fun p hd=>?_) fun p hd=>?_))
   · exact .sr (.kn 2 [4,1] r (.q1 results240 f [0,0] r ⟨d,r,r,hd⟩))
   exact .sn [8,7,1,0] r (.region (.ks 2 r (.nil' (je (AJ (d+1)) hd f [0,0] r))))
 exact .en [1] r (.sr (.kn 1 [4,1] r (.q1 results240 a [0,0] r ⟨(-1),r,r,hd⟩)))
theorem IG {o1:AK} {a0:List AL} {Q:Bool→Prop} (R7:RepSl BU I p5 c6 o1.Edges) (R10:RepSl BU I p8 c9 a0) (hd:DI o1 a0 Q) :
  Fun prog 187 #[.slice p8 a0.length c9,.func (.func 188) #[] #[.pointer (some ⟨b3,0,none⟩)]] I [pto b3 (.cells #[.func (.func 186) #[] #[.pointer (some ⟨b4,0,none⟩)]] 144 (0,0)),pto b4 (.cells #[.int .i64 o1.N,.slice p5 o1.Edges.length c6] 24 (0,0))] (fun I_ v l=>∃ r,v=.bool r∧l=[pto b3 (.cells #[.func (.func 186) #[] #[.pointer (some ⟨b4,0,none⟩)]] 144 (0,0)),pto b4 (.cells #[.int .i64 o1.N,.slice p5 o1.Edges.length c6] 24 (0,0))]∧Q r):=by
 refine Fun.en func187 ntmps187 r fun w0 M=>?_
 refine .sk 1 r (.nk [1,0] 2 r ?_)
 have b:=JT (I:=I) (o1:=o1) (a0:=a0) (b3:=b3) (b4:=b4) (p5:=p5) (c6:=c6) R7 R10 hd
 refine .callS (.f call240 r) (.o [0,0] r) b r r fun e g h a c=>?_
 obtain ⟨d,rfl,rfl,hd⟩:=c
 obtain ⟨R7,R10⟩:=a.u2 R7 R10
 exact .rn 2 r (.kn 2 [4,1] r (.q1 results187 a [0,0] r ⟨(decide (0≤d)),r,r,hd⟩))
theorem aG {a0:AL} {Q:Bool→Prop} (hd:NU a0 Q) :
  Fun prog 189 #[.agg (IR a0).toArray] I [] (fun I_ v l=>∃ r,v=.bool r∧l=[]∧Q r):=by
 refine Fun.en func189 ntmps189 r fun w0 M=>?_
 refine .sr (.bx r fun b=>?_)
 refine .ks 1 r (.nk [1] 1 r (.lo UT .z r (.ks 2 r ?_)))
 refine AQ hd (fun a hd=>?_) fun a hd=>?_
 · rw [a]
   exact .kn 5 [2] r (.drop .z (.q1 results189 rf [] r ⟨true,r,r,hd⟩))
 rw [a]
 exact .ks 1 r (.yes r (.lo UT .z r (.kn 3 [2] r (.drop .z (.q1 results189 rf [] r ⟨(decide (2147483647<a0.W)),r,r,hd⟩)))))
theorem JU {a0:List AL} {Q:Int→Prop} (R3:RepSl BU I p1 c2 a0) (hd:DU a0 Q) :
  Fun prog 240 #[.slice p1 a0.length c2,.func (.func 189) #[] #[]] I [] (fun I_ v l=>∃ r,v=.int .i64 r∧l=[]∧Q r):=by
 refine Fun.en func240 ntmps240 r fun w0 M=>?_
 refine .sr (.kn 1 [1,0] r (.seq (.sk 1 r (.ln CL r (.kn 1 [8,7,1,0] r (.block (.lp hd [7,1,0] [] r (fun j E l d=>j ((8,.int .i64 d) :: E) l) (ji rf [] r) ?_)))))))
 refine fun d q hd=>jq r fun s a=>?_
 have R3:=a.u1 R3
 refine .sr (.kn 1 [9,8,7,1,0] r (.seq (.condP r hd (fun h hd=>?_) fun h hd=>?_)))
 · refine .sn [8,7,1,0] r (.seq (.block (.sk 2 r (.nk [5,8,7,1,0] 3 r ?_))))
   obtain ⟨g,t,e,hd⟩:=hd
   obtain ⟨x,o55,w,u,b,i⟩:=R3.2 _ _ e
   cases i
   refine .ixa CL CN r u r g (AH e g) r r (.ldW MQ CN b r r r r ?_)
   have k:=aG (I:=s) (a0:=t) hd
   refine .callS (.c call189 r r) .n k r r fun y z A m o=>?_
   obtain ⟨B,rfl,rfl,hd⟩:=o
   obtain ⟨f,R3,b⟩:=m.u3 a R3 b
   refine .rn 0 r (.no [16,5,8,7,1,0] r (.condP r hd (fun p hd=>?_) fun p hd=>?_))
   · exact .sr (.kn 2 [4,1] r (.q1 results240 f [] r ⟨d,r,r,hd⟩))
   exact .sn [8,7,1,0] r (.region (.ks 2 r (.nil' (je (AJ (d+1)) hd f [] r))))
 exact .en [1] r (.sr (.kn 1 [4,1] r (.q1 results240 a [] r ⟨(-1),r,r,hd⟩)))
theorem II {a0:List AL} {Q:Bool→Prop} (R3:RepSl BU I p1 c2 a0) (hd:CH a0 Q) :
  Fun prog 187 #[.slice p1 a0.length c2,.func (.func 189) #[] #[]] I [] (fun I_ v l=>∃ r,v=.bool r∧l=[]∧Q r):=by
 refine Fun.en func187 ntmps187 r fun w0 M=>?_
 refine .sk 1 r (.nk [1,0] 2 r ?_)
 have b:=JU (I:=I) (a0:=a0) R3 hd
 refine .callS (.f call240 r) .n b r r fun e g h a c=>?_
 obtain ⟨d,rfl,rfl,hd⟩:=c
 have R3:=a.u1 R3
 exact .rn 0 r (.kn 2 [4,1] r (.q1 results187 a [] r ⟨(decide (0≤d)),r,r,hd⟩))
theorem MD {a0:AK} {Q:Int→Prop} (R3:RepSl BU I p1 c2 a0.Edges) (hd:HF a0 Q) :
  BR prog 119 [.agg #[.int .i64 a0.N,.slice p1 a0.Edges.length c2]] I (fun _=>kO Q):=by
 refine Fun.en func119 ntmps119 r fun w0 M=>?_
 refine .sr (.bx r fun y=>?_)
 refine .ks 1 r (.ns [1] r (.mkFn r r r r (.alloc1 zeroValue144 r r r fun v=>?_)))
 refine .s1 sizeOf144 .z r (.no [3,1] r (.seq (.block (.sk 1 r (.lo BF .p1 r (.kn 2 [5,3,1] r (.condP r hd (fun e hd=>?_) fun e hd=>?_)))))))
 · exact .sr (.kn 1 [2] r (.drop .z (.drop .z (.r0 results119 r ⟨3,r,hd⟩))))
 refine .seq (.jn hd [3,1] [1,0] r (fun j E l d=>j ((9,.bool d) :: E) l) (fun A hd=>?_) ?_)
 · skip
   refine .sk 1 r (.lo BF .p1 r (.kn 2 [9,3,1] r (.condP r hd (fun g hd=>?_) fun g hd=>?_)))
   · exact .skip' (je (decide (4096<a0.N)) hd rf [1,0] r)
   exact .region (.ks 1 r (.lo GV .p1 r (.ln CL r (.ks 2 r (.nil' (je (decide (65536<(a0.Edges.length:Int))) hd rf [1,0] r))))))
 refine fun d hd=>jq r fun w a=>?_
 have R3:=a.u1 R3
 refine .condP r hd (fun h hd=>?_) fun h hd=>?_
 · exact .sr (.kn 1 [2] r (.drop .z (.drop .z (.r1 results119 r a ⟨5,r,hd⟩))))
 refine .sk 1 r (.lo GV .z r (.mkFn r r r r ?_))
 have i:=IG (I:=w) (o1:=a0) (a0:=a0.Edges) (b3:=v) (b4:=y) (p5:=p1) (c6:=c2) R3 R3 hd
 refine .callS (.f call187 r) (.o [1,0] r) i r r fun B x C k m=>?_
 obtain ⟨D,rfl,rfl,hd⟩:=m
 obtain ⟨b,R3⟩:=k.u2 a R3
 refine .rn 2 r (.kn 1 [17,1] r (.drop .z (.condP r hd (fun p hd=>?_) fun p hd=>?_)))
 · exact .sr (.kn 1 [2] r (.drop .z (.r1 results119 r b ⟨3,r,hd⟩)))
 refine .sk 1 r (.lo GV .z r ?_)
 have q:=II (I:=x) (a0:=a0.Edges) R3 hd
 refine .callS (.f call187 r) .n q r r fun F G H s t=>?_
 obtain ⟨J,rfl,rfl,hd⟩:=t
 obtain ⟨c,R3⟩:=s.u2 b R3
 refine .rn 1 r (.kn 1 [22] r (.drop .z (.condP r hd (fun u hd=>?_) fun u hd=>?_)))
 · exact .sr (.kn 1 [2] r (.r1 results119 r c ⟨7,r,hd⟩))
 exact .sn [] r (.sr (.kn 1 [2] r (.r1 results119 r c ⟨0,r,hd⟩)))
theorem mW {a0:Int} {Q:Bool→Prop} (hd:YD a0 Q) :
  BR prog 120 [.int .i64 a0] I (fun _=>dA Q):=by
 refine Fun.en func120 ntmps120 r fun w0 M=>?_
 refine .sk 1 r (.nk [0] 3 r ?_)
 refine AQ hd (fun a hd=>?_) fun a hd=>?_
 · rw [a]
   exact .kn 4 [2] r (.r0 results120 r ⟨(decide (a0≤8)),r,hd⟩)
 rw [a]
 exact .kn 4 [2] r (.r0 results120 r ⟨false,r,hd⟩)
theorem tD {a0 a1:AL} {Q:Int→Prop} (hd:bK a0 a1 Q) :
  BR prog 316 [.agg (IR a0).toArray,.agg (IR a1).toArray] I (fun _=>kO Q):=by
 refine Fun.en func316 ntmps316 r fun w0 M=>?_
 refine .sr (.bx r fun o=>?_)
 refine .bx r fun p=>?_
 refine .kn 1 [3,2] r (.seq (.dr [0,1,2,3,5,6,7,8,4,9,10,11] 12 (.fk 1 r (.h r (fun _=>.lo BF .p1 r .mk) (.fk 1 r (.h r (fun _=>.lo BF .z r .mk) (.fk 1 r (.h r (fun _=>.lo BF .p1 r .mk) (.fk 1 r ?_)))))))))
 refine .h r (fun _=>.lo BF .z r .mk) (.ww r fun ex=>?_)
 have b:=CX (I:=I) hd
 refine .cq call114 b r fun g hd=>?_
 refine .so 2 r r r (.ch r (fun _=>.lo BF .z r .mk) (.ck 1 r r (.ch r (fun _=>.lo BF .p1 r .mk) (.ck 1 r r trivial)))) (.ww r fun ex=>?_)
 have d:=CX (I:=I) hd
 refine .cq call114 d r fun a hd=>?_
 refine .so 2 r r r trivial (.ww r fun ex=>?_)
 refine .buildSlice 2 BT EX nL r r (.c r r r (.c r r r .n)) r r fun m=>?_
 refine .so 3 r r r trivial (.ww r fun ex=>?_)
 refine .pubB (El:=AE) (ys:=([g,a]:List Int)) (k:=2) .z (RepCs.cons (cs:=[.int .i64 g]) r (RepCs.cons (cs:=[.int .i64 a]) r .nil)) r fun i e j=>?_
 have f:=JE (I:=i) j hd
 refine .cq call113 f r fun l hd=>?_
 exact .so 2 r r r trivial (.e2 12 (.kn 1 [4] r (.drop .z (.drop .z (.r1 results316 r e ⟨l,r,hd⟩)))))
theorem nX {a0 a1:AL} {Q:Int→Prop} (hd:VC a0 a1 Q) :
  BR prog 305 [.agg (IR a0).toArray,.agg (IR a1).toArray] I (fun _=>kO Q):=by
 refine Fun.en func305 ntmps305 r fun w0 M=>?_
 refine .sr (.bx r fun o=>?_)
 refine .bx r fun p=>?_
 refine .kn 1 [3,2] r (.seq (.dr [0,1,3,4,5,6,2,7,8,9] 10 (.h r (fun _=>.lw MQ CN .p1 r .mk) (.h r (fun _=>.lw MQ CN .z r .mk) (.fk 1 r (.h r (fun _=>.lo UT .p1 r .mk) (.fk 1 r (.h r (fun _=>.lo UT .z r .mk) (.ww r fun ex=>?_)))))))))
 have b:=tD (I:=I) hd
 refine .cq call316 b r fun g hd=>?_
 refine .so 2 r r r (.ch r (fun _=>.lo UT .z r .mk) (.ck 1 r r (.ch r (fun _=>.lo UT .p1 r .mk) (.ck 1 r r trivial)))) (.ww r fun ex=>?_)
 have d:=RL (I:=I) hd
 refine .cq call302 d r fun a hd=>?_
 refine .so 2 r r r trivial (.ww r fun ex=>?_)
 refine .buildSlice 2 BT EX nL r r (.c r r r (.c r r r .n)) r r fun m=>?_
 refine .so 3 r r r trivial (.ww r fun ex=>?_)
 refine .pubB (El:=AE) (ys:=([g,a]:List Int)) (k:=2) .z (RepCs.cons (cs:=[.int .i64 g]) r (RepCs.cons (cs:=[.int .i64 a]) r .nil)) r fun i e j=>?_
 have f:=JE (I:=i) j hd
 refine .cq call113 f r fun l hd=>?_
 exact .so 2 r r r trivial (.e2 10 (.kn 1 [4] r (.drop .z (.drop .z (.r1 results305 r e ⟨l,r,hd⟩)))))
theorem iX {a0:Int} {a1:List AL} {Q:((List AL)×Int)→Prop} (R3:RepSl BU I p1 c2 a1) (hd:PX a0 a1 Q) :
  BR prog 279 [.int .i64 a0,.slice p1 a1.length c2] I (fun I_ v=>∃ r p4 c5,v=.tuple #[.slice p4 r.1.length c5,.int .i64 r.2]∧RepSl BU I_ p4 c5 r.1∧Q r):=by
 refine Fun.en func279 ntmps279 r fun w0 M=>?_
 refine .sr (.kn 2 [1,0] r (.seq (.sk 1 r ?_)))
 have b4:=ND (I:=I) hd
 refine .cq call100 b4 r fun e7 hd=>?_
 refine .kn 1 [20,1,0] r (.condP r hd (fun b5 hd=>?_) fun b5 hd=>?_)
 · exact .sr (.kn 2 [5,4] r (.ret (BS results279 (.t r (.t r .n)) rf ⟨(([]:List AL),8),_,_,r,(.nil _ _ _),hd⟩)))
 refine .sn [1,0] r (.sr (.mkMap CU KJ true r r fun b3=>?_))
 refine .kn 1 [6,1,0] r (.seq (.sk 1 r (.ln CL r (.kn 1 [24,23,22,6,0] r (.block (.lp hd [23,22,6,0] [] r (fun j E l (e,g)=>j ((24,.int .i64 g) :: E) (OwnMap CU KJ true b3 e :: l)) (ji rf [0] r) ?_))))))
 rintro ⟨e,g⟩ c1 hd
 refine jq r fun F d=>?_
 have R3:=d.u1 R3
 refine .sr (.kn 1 [25,24,23,22,6,0] r (.seq (.condP r hd (fun N hd=>?_) fun N hd=>?_)))
 · refine .sn [24,23,22,6,0] r (.seq (.block (.sr ?_)))
   obtain ⟨G,b,B,hd⟩:=hd
   obtain ⟨c9,o325,c4,b6,O,P⟩:=R3.2 _ _ B
   cases P
   refine .ixa CL CN r b6 r G (AH B G) r r (.ldW MQ CN O r r r r (.al KZ r fun d0=>?_))
   refine .sa CN .z r (.nk [8,24,23,22,6,0] 1 r (.lo BF .z r (.ks 1 r (.lo BF .z r (.buildArr LX OC EX (.c r r r (.o r) (.c r r r (.o r) .n)) r r (.al LX r fun d1=>?_))))))
   refine .sa HK .z r (.nk [9,8,24,23,22,6,0] 1 r (.lo UT .p1 r ?_))
   have R:=IB (I:=F) hd
   refine .cq call183 R r fun h hd=>?_
   refine .al DK r fun d2=>?_
   refine .sa AU .z r (.no [10,9,24,23,22,6,0] r (.drop .p2 (.seq (.sk 1 r (.lw LW HK .p1 r (.lookM2 (k:=(b.From,b.To)) (El:=KJ) (ag:=true) (zv:=.agg #[.int .i64 0,.int .u64 0]) (z:=({ Hi:=0,Lo:=0 }:AN)) WH gY DK ⟨[.int .i64 0,.int .u64 0],r,.a⟩ .p2 r r hd r r fun d3 d4 d5 c6 hd S U=>?_))))))
   cases S
   cases U
   refine .ks 3 r (.al DK r fun d6=>?_)
   refine .sa AU .z r (.ks 1 r (.nk [12,11,10,9,24,23,22,6,0] 1 r (.no [42,11,10,9,24,23,22,6,0] r (.condP r hd (fun V hd=>?_) fun V hd=>?_))))
   · refine .region (.ks 1 r (.lw BP AU .z r (.lw BP AU .p1 r ?_)))
     have X:=UK (I:=F) hd
     refine .cq call184 X r fun m hd=>?_
     refine .sa AU .p1 r (.no [10,9,24,23,22,6,0] r (.drop .z (.region (.ks 1 r (.lw LW HK .p1 r (.lw BP AU .z r (.updM (k:=(b.From,b.To)) (El:=KJ) (ag:=true) (v:=m) WH gY .p2 r r r ⟨[.int .i64 m.Hi,.int .u64 m.Lo],r,.a⟩ (.no [24,23,22,6,0] r (.drop .z ?_)))))))))
     exact .drop .z (.region (.ks 2 r (.nil' (je ((EO (b.From,b.To) m e),AJ (g+1)) hd d [0] r))))
   refine .sn [10,9,24,23,22,6,0] r (.drop .z (.region (.ks 1 r (.lw LW HK .p1 r (.lw BP AU .z r (.updM (k:=(b.From,b.To)) (El:=KJ) (ag:=true) (v:=h) WH gY .p2 r r r ⟨[.int .i64 h.Hi,.int .u64 h.Lo],r,.a⟩ (.no [24,23,22,6,0] r (.drop .z (.drop .z ?_)))))))))
   exact .region (.ks 2 r (.nil' (je ((EO (b.From,b.To) h e),AJ (g+1)) hd d [0] r)))
 refine .en [6,0] r (.sr (.kn 1 [13,6,0] r (.seq (.sk 1 r (.rangeM gY .z r r r fun b7=>?_)))))
 refine .no [52,13,0] r (.block (.own0 BU 49 (.lx hd [52,0] [] r (fun j E l (p,H)=>fun c w=>∃ q s,j ⟨78,[],none⟩ (fun I_=>True) ((13,.slice q p.length s) :: E) (OwnSl BU 49 q s p :: OwnIt CU KJ true b3 b7 e H none :: l) c w) (fun c w ho hs=>⟨_,_,jf rf trivial [0,0] r ho hs⟩) ?_)))
 rintro ⟨p,H⟩ c3 hd c w ⟨q,s,K,u,_,hok,hsym⟩
 have C:=u.u1 d
 refine Cod.at hok hsym (.sr (.nextM .p1 r hd r r (fun hd Y=>?_) (fun A b8 d7 c7 hd Z a2 Y=>?_)))
 · skip
   refine .kn 1 [54,52,13,0] r (.seq (.condKF r r (.en [13] r (.drop .p1 (.sk 1 r ?_)))))
   have a3:=Fun.sort (hk:=fun _=>⟨r,r⟩) AjR MQ CN (fun x y J Q hq=>nX (I:=J) (a0:=x) (a1:=y) (Q:=Q) hq) call305 (I:=K) (T:=49) (a:=q) (cap:=s) hd
   refine .callS (.f call304 r) (.o [0] r) a3 r r fun d8 d9 e0 a4 a5=>?_
   obtain ⟨b9,rfl,D,rfl,hd⟩:=a5
   obtain ⟨a6,a7⟩:=a4.u2 C u
   refine .rl .z [13,75] r (by rw [D]) (.nk [13] 3 r (.no [5,4] r (.pub .z fun e1 a8 c0=>?_)))
   obtain ⟨a9,c8⟩:=a8.u2 a6 a7
   exact .ret (BS results279 (.t r (.t r .n)) a9 ⟨(b9,0),_,_,r,c0,hd⟩)
 cases Z
 cases a2
 refine .kn 1 [54,52,13,0] r (.seq (.condKT r r (.sn [52,13,0] r (.block (.sr (.entryM .z r r r (.ks 2 r (.al LX r fun e2=>?_))))))))
 refine .al DK r fun e3=>?_
 refine .sa HK .p1 r (.sa AU .z r (.nk [15,14,52,13,0] 1 r (.lw BP AU .z r ?_)))
 have b0:=QA (I:=K) hd
 refine .cq call185 b0 r fun L hd=>?_
 refine .kn 5 [17,16,14,52,13,0] r (.drop .z (.seq (.sr (.kn 2 [65,16,14,52,13,0] r (.condP r hd (fun b1 hd=>?_) fun b1 hd=>?_)))))
 · exact .sr (.kn 2 [5,4] r (.drop .z (.drop .z (.drop .z (.ret (BS results279 (.t r (.t r .n)) C ⟨(([]:List AL),12),_,_,r,(.nil _ _ _),hd⟩))))))
 refine .sn [16,14,52,13,0] r (.region (.ks 1 r (.ixArr (i:=0) OC EX r r (by decide) (o:=0) r r r (.lo BF .z r (.ixArr (i:=1) OC EX r r (by decide) (o:=1) r r r (.lo BF .z r (.ks 1 r (.build KZ nJ nH (.c r r r (.o r) (.c r r r (.o r) (.c r r r (.o r) .n))) (by exact ⟨⟨_,_,r,r,r⟩,⟨⟨_,_,r,r,r⟩,⟨⟨_,_,r,r,r⟩,trivial⟩⟩⟩) r r (.buildSlice 1 CL CN KZ r r (.c r r r .n) r r fun e4=>?_)))))))))
 obtain ⟨b2,hd⟩:=hd
 refine .append (ys:=[({ From:=A.1.1,To:=A.1.2,W:=L.1 }:AL)]) 24 .p3 CL CL kL r r r r r r r r r (.box .z (.one r) r) b2 r r fun e5 e6=>?_
 exact .ks 1 r (.nil' fun c w ho hs=>⟨((p++([({ From:=A.1.1,To:=A.1.2,W:=L.1 }:AL)])),b8),hd,_,_,jf u trivial [0,2] r ho hs⟩)
theorem QC {a0:AK} {Q:AK→Prop} (R3:RepSl BU I p1 c2 a0.Edges) (hd:IK a0 Q) :
  BR prog 244 [.agg #[.int .i64 a0.N,.slice p1 a0.Edges.length c2]] I (o5_ Q):=by
 refine Fun.en func244 ntmps244 r fun w0 M=>?_
 refine .sr (.bx r fun g=>?_)
 refine .al MR r fun h=>?_
 refine .nk [2,1] 1 r (.lo GV .p1 r ?_)
 have b:=iX (I:=I) R3 hd
 refine .call call279 r b r r fun i j a d=>?_
 obtain ⟨e,k,l,rfl,f,hd⟩:=d
 have R3:=a.u1 R3
 exact .ks 5 r (.nk [3,2,1] 1 r (.lo BF .p1 r (.ks 1 r (.build MR fH nF (.c r r r (.o r) (.c r r r (.o r) .n)) (by exact ⟨⟨_,_,r,r,r⟩,⟨⟨_,_,r,r,r⟩,trivial⟩⟩) r r (.sa CT .z r (.no [2] r (.drop .p1 (.ret (BS results244 (.w EJ CT r .z r .n) a ⟨({ N:=a0.N,Edges:=e.1 }:AK),_,_,r,f,hd⟩)))))))))
theorem aH {a0:AL} {Q:(AL×Bool)→Prop} (hd:NV a0 Q) :
  Fun prog 242 #[.agg (IR a0).toArray] I [] (fun I_ v l=>∃ r,v=.tuple #[.agg (IR r.1).toArray,.bool r.2]∧l=[]∧Q r):=by
 refine Fun.en func242 ntmps242 r fun w0 M=>?_
 refine .sr (.bx r fun a=>?_)
 refine .al KZ r fun b=>?_
 exact .ks 1 r (.nk [2,1] 1 r (.s1 sz2 .p1 r (.ns [2,1] r (.lw MQ CN .p1 r (.sa CN .z r (.kn 1 [3,2] r (.drop .p1 (.ret (KG results242 (.w MQ CN r .z r (.t r .n)) rf .n ⟨(({ From:=a0.From,To:=a0.To,W:=1 }:AL),true),r,r,hd⟩)))))))))
theorem gF {a0:AK} {Q:AK→Prop} (R3:RepSl BU I p1 c2 a0.Edges) (hd:TP a0 Q) :
  Fun prog 241 #[.agg #[.int .i64 a0.N,.slice p1 a0.Edges.length c2],.func (.func 242) #[] #[]] I [] (fun I_ v l=>∃ r p4 c5,v=.agg #[.int .i64 r.N,.slice p4 r.Edges.length c5]∧RepSl BU I_ p4 c5 r.Edges∧l=[]∧Q r):=by
 refine Fun.en func241 ntmps241 r fun w0 M=>?_
 refine .sr (.bx r fun b8=>?_)
 refine .al MR r fun a8=>?_
 refine .nk [4,2,1] 1 r (.no [5,4,2,1] r (.seq (.sk 1 r (.lo GV .p1 r (.ln CL r (.kn 1 [13,12,11,5,4,2,1] r (.block (.own0 BU 49 (.lx hd [12,11,4,2,1] [2,1] r (fun j E l (a,b)=>fun c w=>∃ e f,j ⟨34,[],none⟩ (fun I_=>True) ((5,.slice e a.length f) :: (13,.int .i64 b) :: E) (OwnSl BU 49 e f a :: l) c w) (fun c w ho hs=>⟨_,_,jf rf trivial [0,1,0] r ho hs⟩) ?_)))))))))
 rintro ⟨a,b⟩ S hd c w ⟨e,f,J,d,_,hok,hsym⟩
 have R3:=d.u1 R3
 refine Cod.at hok hsym (.sr (.kn 1 [14,13,12,11,5,4,2,1] r (.seq (.condP r hd (fun p hd=>?_) fun p hd=>?_))))
 · refine .sn [13,12,11,5,4,2,1] r (.seq (.block (.sr ?_)))
   obtain ⟨k,K,h,hd⟩:=hd
   obtain ⟨U,o134,T,L,q,s⟩:=R3.2 _ _ h
   cases s
   refine .ixa CL CN r L r k (AH h k) r r (.ldW MQ CN q r r r r (.al KZ r fun V=>?_))
   refine .sa CN .z r (.nk [7,13,12,11,5,4,2,1] 1 r (.lw MQ CN .z r ?_))
   have t:=aH (I:=J) (a0:=K) hd
   refine .callS (.c call242 r r) .n t r r fun W X Y u x=>?_
   obtain ⟨m,rfl,rfl,hd⟩:=x
   obtain ⟨i,R3⟩:=u.u2 d R3
   refine .rn 4 r (.ks 3 r (.al KZ r fun Z=>?_))
   refine .sa CN .z r (.kn 1 [9,8,13,12,11,5,4,2,1] r (.drop .p1 (.sr (.kn 1 [23,8,13,12,11,5,4,2,1] r (.condP r hd (fun y hd=>?_) fun y hd=>?_)))))
   · refine .region (.ks 1 r (.lw MQ CN .z r (.buildSlice 1 CL CN KZ r r (.c r r r .n) r r fun a1=>?_)))
     obtain ⟨A,hd⟩:=hd
     refine .append (ys:=[m.1]) 24 .p2 CL CL kL r r r r r r r r r (.box .z (.one r) r) A r r fun a2 a3=>?_
     exact .kn 1 [5,13,12,11,4,2,1] r (.drop .p1 (.drop .p1 (.region (.ks 2 r (.nil' fun c w ho hs=>⟨((a++([m.1])),AJ (b+1)),hd,_,_,jf i trivial [0,0,0] r ho hs⟩)))))
   exact .sn [13,12,11,5,4,2,1] r (.drop .z (.region (.ks 2 r (.nil' fun c w ho hs=>⟨(a,AJ (b+1)),hd,_,_,jf i trivial [0,0,0] r ho hs⟩))))
 refine .en [5,4,2,1] r (.sk 1 r (.lo BF .p1 r (.ks 1 r (.build MR fH nF (.c r r r (.o r) (.c r r r (.o r) .n)) (by exact ⟨⟨_,_,r,r,r⟩,⟨⟨_,_,r,r,r⟩,trivial⟩⟩) r r (.pub .z fun O B g=>?_)))))
 obtain ⟨C,R3⟩:=B.u2 d R3
 have D:=QC (I:=O) (a0:=({ N:=a0.N,Edges:=a }:AK)) g hd
 refine .call call244 r D r r fun a4 a5 F G=>?_
 obtain ⟨P,a6,a7,rfl,R,hd⟩:=G
 obtain ⟨H,R3,g⟩:=F.u3 C R3 g
 exact .sa CT .p1 r (.no [4,1] r (.drop .z (.ret (KG results241 (.w EJ CT r .z r .n) H .n ⟨P,_,_,r,R,r,hd⟩))))
theorem nY {a0:AK} {Q:AK→Prop} (R3:RepSl BU I p1 c2 a0.Edges) (hd:VD a0 Q) :
  BR prog 190 [.agg #[.int .i64 a0.N,.slice p1 a0.Edges.length c2]] I (o5_ Q):=by
 refine Fun.en func190 ntmps190 r fun w0 M=>?_
 refine .sr (.bx r fun l=>?_)
 refine .al MR r fun m=>?_
 refine .ns [2,1] r (.lw EJ CT .p1 r ?_)
 have b:=gF (I:=I) (a0:=a0) R3 hd
 refine .callS (.f call241 r) .n b r r fun g h i a c=>?_
 obtain ⟨d,j,k,rfl,e,rfl,hd⟩:=c
 have R3:=a.u1 R3
 exact .rn 2 r (.sa CT .z r (.no [2] r (.drop .p1 (.ret (BS results190 (.w EJ CT r .z r .n) a ⟨d,_,_,r,e,hd⟩)))))
theorem aI {a0:AL} {Q:(AL×Bool)→Prop} (hd:NW a0 Q) :
  Fun prog 243 #[.agg (IR a0).toArray] I [] (fun I_ v l=>∃ r,v=.tuple #[.agg (IR r.1).toArray,.bool r.2]∧l=[]∧Q r):=by
 refine Fun.en func243 ntmps243 r fun w0 M=>?_
 refine .sr (.bx r fun a=>?_)
 refine .al KZ r fun b=>?_
 refine .kn 1 [2,1] r (.seq (.dr [0,1,2,3,4,5,6] 7 (.h r (fun _=>.lw MQ CN .p1 r .mk) (.fk 1 r (.h r (fun _=>.lo BF .p1 r .mk) (.fk 1 r (.h r (fun _=>.lo BF .p1 r .mk) (.fk 1 r (.ww r fun ex=>?_)))))))))
 exact .sa CN .z r (.sn 2 r r r (.ck 1 r r (.ch r (fun _=>.lo BF .p1 r .mk) (.ck 1 r r (.ch r (fun _=>.lo BF .p1 r .mk) (.ck 1 r r trivial))))) (.e2 7 (.kn 1 [3,2] r (.drop .p1 (.ret (KG results243 (.w MQ CN r .z r (.t r .n)) rf .n ⟨(a0,decide (a0.To<a0.From)),r,r,hd⟩))))))
theorem gG {a0:AK} {Q:AK→Prop} (R3:RepSl BU I p1 c2 a0.Edges) (hd:TQ a0 Q) :
  Fun prog 241 #[.agg #[.int .i64 a0.N,.slice p1 a0.Edges.length c2],.func (.func 243) #[] #[]] I [] (fun I_ v l=>∃ r p4 c5,v=.agg #[.int .i64 r.N,.slice p4 r.Edges.length c5]∧RepSl BU I_ p4 c5 r.Edges∧l=[]∧Q r):=by
 refine Fun.en func241 ntmps241 r fun w0 M=>?_
 refine .sr (.bx r fun b8=>?_)
 refine .al MR r fun a8=>?_
 refine .nk [4,2,1] 1 r (.no [5,4,2,1] r (.seq (.sk 1 r (.lo GV .p1 r (.ln CL r (.kn 1 [13,12,11,5,4,2,1] r (.block (.own0 BU 49 (.lx hd [12,11,4,2,1] [2,1] r (fun j E l (a,b)=>fun c w=>∃ e f,j ⟨34,[],none⟩ (fun I_=>True) ((5,.slice e a.length f) :: (13,.int .i64 b) :: E) (OwnSl BU 49 e f a :: l) c w) (fun c w ho hs=>⟨_,_,jf rf trivial [0,1,0] r ho hs⟩) ?_)))))))))
 rintro ⟨a,b⟩ S hd c w ⟨e,f,J,d,_,hok,hsym⟩
 have R3:=d.u1 R3
 refine Cod.at hok hsym (.sr (.kn 1 [14,13,12,11,5,4,2,1] r (.seq (.condP r hd (fun p hd=>?_) fun p hd=>?_))))
 · refine .sn [13,12,11,5,4,2,1] r (.seq (.block (.sr ?_)))
   obtain ⟨k,K,h,hd⟩:=hd
   obtain ⟨U,o134,T,L,q,s⟩:=R3.2 _ _ h
   cases s
   refine .ixa CL CN r L r k (AH h k) r r (.ldW MQ CN q r r r r (.al KZ r fun V=>?_))
   refine .sa CN .z r (.nk [7,13,12,11,5,4,2,1] 1 r (.lw MQ CN .z r ?_))
   have t:=aI (I:=J) (a0:=K) hd
   refine .callS (.c call243 r r) .n t r r fun W X Y u x=>?_
   obtain ⟨m,rfl,rfl,hd⟩:=x
   obtain ⟨i,R3⟩:=u.u2 d R3
   refine .rn 4 r (.ks 3 r (.al KZ r fun Z=>?_))
   refine .sa CN .z r (.kn 1 [9,8,13,12,11,5,4,2,1] r (.drop .p1 (.sr (.kn 1 [23,8,13,12,11,5,4,2,1] r (.condP r hd (fun y hd=>?_) fun y hd=>?_)))))
   · refine .region (.ks 1 r (.lw MQ CN .z r (.buildSlice 1 CL CN KZ r r (.c r r r .n) r r fun a1=>?_)))
     obtain ⟨A,hd⟩:=hd
     refine .append (ys:=[m.1]) 24 .p2 CL CL kL r r r r r r r r r (.box .z (.one r) r) A r r fun a2 a3=>?_
     exact .kn 1 [5,13,12,11,4,2,1] r (.drop .p1 (.drop .p1 (.region (.ks 2 r (.nil' fun c w ho hs=>⟨((a++([m.1])),AJ (b+1)),hd,_,_,jf i trivial [0,0,0] r ho hs⟩)))))
   exact .sn [13,12,11,5,4,2,1] r (.drop .z (.region (.ks 2 r (.nil' fun c w ho hs=>⟨(a,AJ (b+1)),hd,_,_,jf i trivial [0,0,0] r ho hs⟩))))
 refine .en [5,4,2,1] r (.sk 1 r (.lo BF .p1 r (.ks 1 r (.build MR fH nF (.c r r r (.o r) (.c r r r (.o r) .n)) (by exact ⟨⟨_,_,r,r,r⟩,⟨⟨_,_,r,r,r⟩,trivial⟩⟩) r r (.pub .z fun O B g=>?_)))))
 obtain ⟨C,R3⟩:=B.u2 d R3
 have D:=QC (I:=O) (a0:=({ N:=a0.N,Edges:=a }:AK)) g hd
 refine .call call244 r D r r fun a4 a5 F G=>?_
 obtain ⟨P,a6,a7,rfl,R,hd⟩:=G
 obtain ⟨H,R3,g⟩:=F.u3 C R3 g
 exact .sa CT .p1 r (.no [4,1] r (.drop .z (.ret (KG results241 (.w EJ CT r .z r .n) H .n ⟨P,_,_,r,R,r,hd⟩))))
theorem nZ {a0:AK} {Q:AK→Prop} (R3:RepSl BU I p1 c2 a0.Edges) (hd:VE a0 Q) :
  BR prog 191 [.agg #[.int .i64 a0.N,.slice p1 a0.Edges.length c2]] I (o5_ Q):=by
 refine Fun.en func191 ntmps191 r fun w0 M=>?_
 refine .sr (.bx r fun l=>?_)
 refine .al MR r fun m=>?_
 refine .ns [2,1] r (.lw EJ CT .p1 r ?_)
 have b:=gG (I:=I) (a0:=a0) R3 hd
 refine .callS (.f call241 r) .n b r r fun g h i a c=>?_
 obtain ⟨d,j,k,rfl,e,rfl,hd⟩:=c
 have R3:=a.u1 R3
 exact .rn 2 r (.sa CT .z r (.no [2] r (.drop .p1 (.ret (BS results191 (.w EJ CT r .z r .n) a ⟨d,_,_,r,e,hd⟩)))))
end Go.Proofs.YtbohadngdkjljaaGreat
