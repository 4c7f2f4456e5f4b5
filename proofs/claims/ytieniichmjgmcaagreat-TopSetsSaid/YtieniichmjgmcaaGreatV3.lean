import Derived.Test.YtieniichmjgmcaaGreatV2
set_option linter.unusedVariables false
set_option linter.unusedSimpArgs false
set_option maxRecDepth 8000
set_option maxHeartbeats 1000000
namespace Go.Proofs.YtieniichmjgmcaaGreat
open Go Go.Fw
open Tryz
variable {I:IH}
variable {b2 b3 b4 b5 b6 b7 b8 b9 c2 c3 c4 c5 c6 c7 c8 c9 lr b10 b11 b13 b16 b18 b21 b22 b26 c10 c11 c12 c18 c20 c24:Nat}
variable {p1 p2 p3 p4 p5 p6 p7 p8 p9 p10 p11 p17 p19 p23:Option Addr}
variable {Rr:Nat→HA}
variable {ga1 ga3:aTa}
variable {gb1 gb11:aTb}
variable {gd1 gd4 gd11:aTd}
variable {gg1 gg4 gg8 gg14 gg17:aTg}
variable {gh1 gh2 gh11 gh19:aTh}
variable {gi1 gi3 gi10 gi14:aTi}
variable {gj1:aTj}
variable {gk1:aTk}
variable {gn3:aTn}
variable {gq3 gq4 gq5:aTq}
theorem H3 {o0 a0 a1 Q} (J:WE I gn3 o0) (d:DB o0 a0 a1 Q) :
  Fun prog 145 #[vp b2,vi a0,.bool a1] I (UT o0 b2 gn3 p5 c6 b13 p8 c9 b16 b18) (λU v l=>∃ r O a2 W a3 Z,v=.tuple #[]∧WE U O r∧l=(UT r b2 O a2 W b13 a3 Z b16 b18)∧Q r):=by
 refine Fun.ee func145 ntmps145 r (.M 2 r (.bd KJ ZR mE r (.al KJ r λ_=>.R CV .z r (.L 71 r (.B (.F (.D 2 2115 r (.A r d (λc d=>?_) λc d=>?_))))))))
 . refine .dr AoJ 10 (.K 3 r (.h r (.AA QB QA r .p1 (.o 5 r) r r r .mk) (.K 3 r (.h r (.AA JP DJ r .p1 (.o 5 r) r r r .mk) (.K 1 r (.Y r (.v call191 (AgG J.1 J.2.2.2.2.2 d:) r λ_ d=>?_)))))));refine .q 7 r tv (.e2 10 (.G 1 r (.s1 XP .z r (.V 65 3 r (.s1 sizeOf4 .p1 r (.L 65 r (.C (.G 1 r (.S GF CV .z r ?_)))))))));refine .cS (.f call192 r) (.o nl6 r) r (DD (I:=I) (o0:=({ o0 with waits:=true }:A1)) (gh19:=((_,_),(_,_),(_,_))) (b2:=b2) (gn3:=gn3) (p5:=p5) (c6:=c6) (b13:=b13) (p8:=p8) (c9:=c9) (b16:=b16) (b18:=b18) J ⟨(.nil _ none 0),(.nil _ none 0),(.nil _ none 0)⟩ d:) λ_ _ _ a g=>?_;obtain⟨p,i,_,_,_,_,rfl,q,rfl,d⟩:=g;have J:=a.u1 J;exact .rn 7 r (.H (JR r .n a (.o UH r) ⟨p,i,_,_,_,_,r,q,r,d⟩))
 refine .P 65 r (.M 3 r (.s1 sizeOf4 .p1 r (.L 65 r (.C (.G 1 r (.S GF CV .z r ?_))))));refine .cS (.f call192 r) (.o nl6 r) r (DD (I:=I) (o0:=({ o0 with waits:=true }:A1)) (gh19:=((_,_),(_,_),(_,_))) (b2:=b2) (gn3:=gn3) (p5:=p5) (c6:=c6) (b13:=b13) (p8:=p8) (c9:=c9) (b16:=b16) (b18:=b18) J ⟨(.nil _ none 0),(.nil _ none 0),(.nil _ none 0)⟩ d:) λ_ _ _ b k=>?_;obtain⟨s,m,_,_,_,_,rfl,t,rfl,d⟩:=k;have J:=b.u1 J;exact .rn 7 r (.H (JR r .n b (.o UH r) ⟨s,m,_,_,_,_,r,t,r,d⟩))
theorem qB {a0 a1 a2 Q0 Q1 Q2} (U:lTa I ga1 a0) (J:O7 a0 a1 a2 Q0 Q1 Q2) :
  Fun prog 109 #[.agg (YO a0 ga1),vi a1,vi a2] I [] (λW v l=>(∃ r,v=.tuple #[.pointer none,vi r]∧l=[]∧Q0 r)∨(∃ r b3 e5 p6 c7 f6 p9 c10 f7 f8,v=.tuple #[vp b3,vi r.1]∧WE W e5 r.2∧l=(UT r.2 b3 e5 p6 c7 f6 p9 c10 f7 f8)∧Q1 r)∨(∃ r b3 e6 p6 c7 a9 p9 c10 e7 c0 p15 c16 e8 d9 e9 e1 f0 e3 f1 e4 b0 b1,v=.tuple #[vp b3,vi r.1]∧lTo W e6 r.2∧l=[pc b3 (KZ r.2 e6 p6 c7 a9 p9 c10 e7 c0 p15 c16 e8 d9 e9 e1 f0 e3 f1 e4 b0 b1) 196,OwnSl G5 238 p6 c7 r.2.out,OwnMap vi fA true a9 r.2.shares,OwnSl B0 2 p9 c10 r.2.has.A,OwnSl B0 2 e7 c0 r.2.has.B,OwnSl EH 85 p15 c16 r.2.has.On,OwnSl B0 2 e8 d9 r.2.aside.A,OwnSl B0 2 e9 e1 r.2.aside.B,OwnSl EH 85 f0 e3 r.2.aside.On,OwnSl ET 314 f1 e4 r.2.sums,OwnMap vi eB false b0 r.2.came,OwnMap vi G5 true b1 r.2.votes]∧Q2 r)):=by
 refine Fun.ee func109 ntmps109 r (.F (.bx r λ_=>.D 2 14 r (.B (.F (.S bX WK .z r (.v call50 (OW U J:) r λd7 J=>.G 1 r (.V 270 2 r (.L 65806 r (.A r J (λH J=>?_) λH J=>?_)))))))))
 . exact .F (.D 3 192 r (.drop .z (.J (DZ r (.t r (.t r .n)) rf .n (.inl ⟨d7,r,r,J⟩)))))
 refine .P 14 r (.B (.M 3 r (.T J [19,20] r (λQ J=>?_) λQ J=>?_)))
 . exact J.elim
 refine .G 2 r (.O r (.I AM .z r (.G 3 r (.T J [24,25,26] r (λb4 J=>?_) λb4 J=>?_))))
 . exact J.elim
 refine .G 4 r (.T J [28,29,30] r (λb6 J=>?_) λb6 J=>?_)
 . exact J.elim
 refine .G 2 r (.O r (.I AM .z r (.D 2 34359738382 r (.A r J (λb7 J=>?_) λb7 J=>?_))))
 . exact J.elim
 refine .P 14 r (.M 1 r (.AA QB QA r .z (.o 5 r) r r r (.G 1 r (.AA GA DC r .z (.o 2 r) r r r ?_))));refine .ca call122 r (gJ U.1 U.2.1 J:) λ_ _ s b9=>?_;obtain⟨_,_,rfl,e,J⟩:=b9;have U:=s.u1 U;refine .G 3 r (.al ON r λ_=>.R BL .z r (.D 1 526 r (.B (.dr AyW 17 (.K 2 r (.h r (.bd qW gD uY r .mk) (.K 1 r (.h r (.AA QB QA r .p1 (.o 5 r) r r r .mk) (.K 1 r (.X AM 1 r ?_))))))))));refine .K 1 r (.X AM 1 r (.h r (.bd qW gD uY r .mk) (.K 1 r (.X AM 1 r (.K 1 r (.X isAgg57 1 r (.Y r ?_)))))));refine .ca call140 r (M2 U.2.2 J:) λ_ _ c1 c2=>?_;obtain⟨Z,a4,a5,rfl,b,J⟩:=c2;have⟨c3,U,e⟩:=c1.u3 s U e;refine .q 2 r (.W r (.I AM .p1 r .mk) (.j 1 r r (.W r (.bd qW gD uY r .mk) (.W r (.I AM .p1 r .mk) (.j 1 r r (.W r (.I AM .p1 r .mk) (.j 1 r r (.W r (.AA QB QA r .p1 (.o 5 r) r r r .mk) (.j 1 r r (.W r (.bd qW gD uY r .mk) (.j 2 r r tv))))))))))) (.h r (.bd zeroValue196 AaB Ay1 r .mk) (.Y r ?_));refine .bx r λd8=>?_;refine .q 3 r tv (.e2 17 (.G 1 r (.V 2574 3 r (.I FX .p2 r ?_))));refine .ca call38 r (BX U.1 J:) λ_ _ c5 c8=>?_;obtain⟨a6,a7,a8,rfl,c,J⟩:=c8;have⟨d0,U,e,b⟩:=c5.u4 c3 U e b;refine .G 3 r (.s1 sizeOf27 .z r (.V 2574 1 r (.S CW BL .p1 r (.G 1 r (.I AM .p2 r (.G 1 r (.I AM .p2 r (.G 2 r ?_))))))));refine .ca call141 r (AgE e J:) λ_ _ E F=>?_;obtain⟨u,k,rfl,a,J⟩:=F;have⟨G,U,e,b,c⟩:=E.u5 d0 U e b c;refine .G 2 r (.R BL .z r (.L 2062 r (.drop .p1 (.M 4 r (.AA CW BL r .z (.o 5 r) r r r ?_)))));refine .ca call142 r (AoM a J:) λ_ w f2 K=>?_;obtain⟨x,m,rfl,d,J⟩:=K;have⟨p,U,b,c,a⟩:=f2.u5 G U b c a;refine .G 2 r (.R EG .z r (.V 2062 3 r (.mkMap vi fA true r r λd1=>.mkMap vi eB false r r λd2=>.mkMap vi G5 true r r λd3=>.G 2 r (.s1 sizeOf191 .p3 r (.G 2 r (.s1 sizeOf193 .p3 r (.G 2 r (.s1 sizeOf194 .p3 r (.L 2062 r (.B (.F (.D 2 2535301200456458802993406412810 r ?_))))))))))));refine .A r J (λL J=>?_) λL J=>?_
 . refine .M 2 r (.I AM .p4 r (.D 1 6154 r (.B (.dr [0,1,2,3,4,5,6,8,9,10,11,12,7,13,14,15,16,17] 18 (.K 2 r (.h r (.AA QB QA r .p4 (.o 5 r) r r r .mk) (.K 2 r (.X AM 4 r (.K 3 r (.X AM 4 r (.K 2 r (.Y r (.v call144 (HW (I:=w) J:) r λ_ J=>?_)))))))))))));refine .q 5 r (.j 2 r r (.W r (.I AM .p4 r .mk) (.j 2 r r (.W r (.AA QB QA r .p4 (.o 5 r) r r r .mk) (.j 2 r r tv))))) (.Y r (.v call144 (HW (I:=w) J:) r λ_ J=>?_));refine .q 5 r (.W r (.AA QB QA r .p4 (.o 5 r) r r r .mk) (.j 2 r r tv)) (.Y r ?_);refine .ca call143 r (AdM U.1 J:) λ_ d4 S T=>?_;obtain⟨y,q,rfl,g,J⟩:=T;have⟨f3,U,b,c,a,d⟩:=S.u6 p U b c a d;refine .q 5 r (.j 1 r r tv) (.K 2 r (.Y r (.R DJ .p3 r (.P 5 r r r tv (.e2 18 (.L 2048 r (.drop .p4 (.M 4 r (.AA JP DJ r .p3 (.o 5 r) r r r (.G 2 r (.R DJ .p3 r (.L 2048 r ?_))))))))))));refine .C (.G 1 r (.own0 G5 238 (.own0 ET 314 (.qIn .p1 ?_))));refine .cS (.f call145 r) (.o [5,1,3,0,1,0] r) r (H3 (I:=d4) (o0:=({ place:=({ i:=a1,j:=a2 }:BB),plan:=({ Kind:=a0.Plan.Kind,N:=a0.Plan.N,Source:=a0.Plan.Source,Length:=a0.Plan.Length,Draws:=a6 }:Plan),grid:=({ i:=a0.R,j:=a0.C }:BB),limit:=a0.Limit,choices:=Z,rows:=u,cols:=x,out:=([]:List AO),share:=1,shares:=([]:List (Int×Vec)),spread:=1,round:=0,status:=0,has:=y,aside:=y,waits:=false,begun:=false,sums:=([]:List BM),came:=([]:List (Int×Bool)),vote:=0,votes:=([]:List (Int×AO)),closed:=false }:A1)) (b2:=d8) (gn3:=((a7,a8),(a4,a5),k,m,q,q)) (p5:=none) (c6:=0) (b13:=d1) (p8:=none) (c9:=0) (b16:=d2) (b18:=d3) ⟨c,b,a,d,g,g⟩ J:) λ_ _ _ f4 X=>?_;obtain⟨d5,Y,_,_,_,_,rfl,d6,rfl,J⟩:=X;have⟨f5,b,c,a,d,g⟩:=f4.u6 f3 b c a d g;exact .rn 6 r (.V 2048 3 r (.L 192 r (.J (DZ r (.t r (.t r .n)) f5 (.o UH r) (.inr (.inl ⟨(0,d5),_,Y,_,_,_,_,_,_,_,r,d6,r,J⟩))))))
 refine .P 2048 r (.drop .p4 (.F (.D 3 192 r (.own0 G5 238 (.own0 B0 2 (.own0 B0 2 (.own0 EH 85 (.own0 B0 2 (.own0 B0 2 ?_)))))))));exact .own0 EH 85 (.own0 ET 314 (.J (DZ r (.t r (.t r .n)) p (.o [11,7,9,6,5,4,3,2,1,0,1,0] r) (.inr (.inr ⟨(0,({ place:=({ i:=a1,j:=a2 }:BB),plan:=({ Kind:=a0.Plan.Kind,N:=a0.Plan.N,Source:=a0.Plan.Source,Length:=a0.Plan.Length,Draws:=a6 }:Plan),grid:=({ i:=a0.R,j:=a0.C }:BB),limit:=a0.Limit,choices:=Z,rows:=u,cols:=x,out:=([]:List AO),share:=1,shares:=([]:List (Int×Vec)),spread:=1,round:=0,status:=0,has:=FY,aside:=FY,waits:=false,begun:=false,sums:=([]:List BM),came:=([]:List (Int×Bool)),vote:=0,votes:=([]:List (Int×AO)),closed:=false }:A1)),_,((a7,a8),(a4,a5),k,m),_,_,_,_,_,_,_,_,_,_,_,_,_,_,_,_,_,_,_,r,⟨c,b,a,d⟩,r,J⟩)))))
theorem UX {o0 Q} (h:WE I gn3 o0) (d:IC o0 Q) :
  Fun prog 147 #[vp b2] I (UT o0 b2 gn3 p5 c6 b13 p8 c9 b16 b18) (λ_ v l=>∃ r,v=vi r∧l=(UT o0 b2 gn3 p5 c6 b13 p8 c9 b16 b18)∧Q r):=by
 exact Fun.ee func147 ntmps147 r (.F (.D 1 1 r (.B (.M 1 r (.eqNilP Aa9 r r r r (.L 17 r (.Z r r (.P 1 r (.M 3 r (.I AM .z r (.D 1 5 r (.q1 results147 rf UH r ⟨o0.round,r,r,d⟩))))))))))))
theorem WT {o0 a0 Q} (h:JE o0 a0 Q) :
  Fun prog 147 #[.pointer (mkA a0)] I [CX A8 o0] (λD v l=>∃ r,v=vi r∧l=[CX A8 o0]∧Q r):=by
 rcases a0 with _ | b
 . have h:=h.1 r;exact h.elim
 have⟨_,V,h⟩:=h.2 b rfl;refine Fun.bankR V (λd J=>UX (b2:=b) (gn3:=d.1) (p5:=d.2.1) (c6:=d.2.2.1) (b13:=d.2.2.2.1) (p8:=d.2.2.2.2.1) (c9:=d.2.2.2.2.2.1) (b16:=d.2.2.2.2.2.2.1) (b18:=d.2.2.2.2.2.2.2) J h) ?_;rintro d D v l Z O ⟨W,rfl,rfl,U⟩;exact⟨(d.1,d.2.1,d.2.2.1,d.2.2.2.1,d.2.2.2.2.1,d.2.2.2.2.2.1,d.2.2.2.2.2.2.1,d.2.2.2.2.2.2.2),[],r,A8.mono Z O,W,r,r,U⟩
theorem UY {o0 Q} (d:WE I gn3 o0) (D:ID o0 Q) :
  Fun prog 193 #[vp b2] I (UT o0 b2 gn3 p5 c6 b13 p8 c9 b16 b18) (λU v l=>∃ r O,v=.agg (GM r O)∧iA U O r∧l=(UT o0 b2 gn3 p5 c6 b13 p8 c9 b16 b18)∧Q r):=by
 refine Fun.ee func193 ntmps193 r (.F (.al NK r λ_=>.L 5 r (.B (.M 1 r (.eqNilP Aa9 r r r r (.L 37 r (.Z r r (.P 5 r (.M 3 r (.AA JP DJ r .p1 (.o 5 r) r r r (.al NK r λ_=>?_)))))))))));refine .R DJ .z r (.L 13 r (.B (.dr AxF 14 (.K 1 r (.X AM 0 r (.K 1 r (.X AM 0 r (.K 1 r (.X FX 0 r ?_)))))))));refine .K 1 r (.X FX 0 r (.K 1 r (.X P1 0 r (.Y r ?_))));refine .ca call38 r (BX d.2.2.2.2.1.1 D:) λ_ _ b e=>?_;obtain⟨s,_,_,rfl,a,D⟩:=e;have d:=b.u1 d;refine .q 8 r (.W r (.I P1 .z r .mk) (.j 1 r r (.W r (.I FX .z r .mk) (.j 1 r r (.W r (.I AM .z r .mk) (.j 1 r r (.W r (.I AM .z r .mk) (.j 1 r r tv)))))))) (.Y r ?_);refine .ca call38 r (BX d.2.2.2.2.1.2.1 D:) λ_ _ g i=>?_;obtain⟨t,_,_,rfl,c,D⟩:=i;have⟨j,d,a⟩:=g.u3 b d a;refine .q 8 r (.W r (.I P1 .z r .mk) (.j 1 r r (.W r (.I AM .z r .mk) (.j 1 r r (.W r (.I AM .z r .mk) (.j 1 r r tv)))))) (.Y r ?_);refine .ca call120 r (GB d.2.2.2.2.1.2.2 D:) λ_ _ m p=>?_;obtain⟨u,_,_,rfl,x,D⟩:=p;have⟨q,d,a,c⟩:=m.u4 j d a c;exact .q 8 r (.W r (.I AM .z r .mk) (.j 1 r r (.W r (.I AM .z r .mk) (.j 1 r r tv)))) (.h r (.bd NK fD mD r .mk) (.e2 14 (.R DJ .p1 r (.L 5 r (.drop .z (.J (DZ r (.w JP DJ r .z r .n) q (.o nl6 r) ⟨({ Low:=o0.has.Low,High:=o0.has.High,A:=s,B:=t,On:=u }:State),((_,_),(_,_),(_,_)),r,⟨a,c,x⟩,r,D⟩)))))))
theorem WU {o0 a0 Q} (h:JG o0 a0 Q) :
  Fun prog 193 #[.pointer (mkA a0)] I [CX A8 o0] (λJ v l=>∃ r D,v=.agg (GM r D)∧iA J D r∧l=[CX A8 o0]∧Q r):=by
 rcases a0 with _ | b
 . have h:=h.1 r;exact h.elim
 have⟨_,W,h⟩:=h.2 b rfl;refine Fun.bankR W (λd O=>UY (b2:=b) (gn3:=d.1) (p5:=d.2.1) (c6:=d.2.2.1) (b13:=d.2.2.2.1) (p8:=d.2.2.2.2.1) (c9:=d.2.2.2.2.2.1) (b16:=d.2.2.2.2.2.2.1) (b18:=d.2.2.2.2.2.2.2) O h) ?_;rintro d J v l a2 U ⟨Z,D,rfl,a,rfl,V⟩;exact⟨(d.1,d.2.1,d.2.2.1,d.2.2.2.1,d.2.2.2.2.1,d.2.2.2.2.2.1,d.2.2.2.2.2.2.1,d.2.2.2.2.2.2.2),[],r,A8.mono a2 U,Z,D,r,a,r,V⟩
theorem WV {o0 o1 Q} (U:nO I gq4 o0) (O:GL o0 o1 Q) :
  Fun prog 148 #[vp b3] I (kL4 o0 b3 gq4 b10 p6 c7 o1) (fun Z v l=>∃ r d1,v=.agg (GM r d1)∧iA Z d1 r∧l=(kL4 o0 b3 gq4 b10 p6 c7 o1)∧Q r):=by
 refine Fun.ee func148 ntmps148 r (.F (.al NK r fun _=>.V 5 5 r (.I AM .p1 r (.bd NK fD mD r (.al NK r fun c6=>?_)))))
 refine .R DJ .z r (.V 13 1 r (.L 29 r (.B (.M 3 r (.I isAgg134 .p2 r (.ln L6 r (.D 1 7340061 r (.E (.own0 B0 2 (.own0 B0 2 (.own0 B0 3 (.lx O [21,20,3,2,0] [5,5,5,4,4] r (fun j E l (g,h,x,y)=>fun c w=>∃ C D F G H J,j ⟨63,[],none⟩ (fun Z=>True) ((4,.slice H x.length J) :: (22,vi y) :: E) (pc c6 #[vi 0,vi o0.setup.Plan.N,.slice C g.length D,.slice F h.length G,.slice none 0 0] 63 :: OwnSl B0 2 C D g :: OwnSl B0 2 F G h :: OwnSl B0 3 H J x :: l) c w) (fun c w V W=>⟨_,_,_,_,_,_,jf rf tv [3,2,1,0,1,1,1,0,0] r V W⟩) ?_))))))))))))
 rintro ⟨g,h,x,y⟩ _ O c w ⟨C,D,F,G,H,J,c1,i,_,a8,d0⟩
 have U:=i.u1 U
 refine Cod.at a8 d0 (.F (.D 1 15728669 r (.B (.A r O (fun a5 O=>?_) fun a5 O=>?_))))
 · refine .P 7340061 r (.B (.E (.F ?_)))
   obtain ⟨c2,_,a6,_,_,c3,a7,O⟩:=U.2.2.ix O
   refine .U L6 sizeOf133 c3 c2 a6 r (.x 0 isAgg133 a7 r (.G 1 r (.V 7340125 1 r ?_)))
   refine .cS (.f call193 r) (.o [8] r) r (WU (I:=c1) O:) fun _ _ _ a9 b0=>?_
   obtain ⟨e,_,rfl,a,rfl,O⟩:=b0
   obtain ⟨b1,U⟩:=a9.u2 i U
   refine .rn 9 r (.al NK r fun _=>.R DJ .z r (.L 7340189 r (.B (.dr [0,1,2,3,5,6,7,8,4,10,9,11] 12 (.K 1 r (.X FX 2 r (.K 1 r (.X FX 0 r (.K 1 r (.X FX 2 r (.K 1 r (.X FX 0 r (.Y r ?_)))))))))))))
   obtain ⟨b2,O⟩:=O
   refine .ap (ys:=e.A) .p3 DF DF IN2 r (.imm a.1 r) b2 fun _ _=>.q 10 r (.W r (.I FX .p1 r .mk) (.j 1 r r (.W r (.I FX .p3 r .mk) (.j 1 r r tv)))) (.K 1 r (.Y r ?_))
   obtain ⟨b4,O⟩:=O
   refine .ap (ys:=e.B) .p4 DF DF IN2 r (.imm a.2.1 r) b4 fun _ _=>?_
   refine .q 10 r (.j 1 r r tv) (.Y r ?_)
   refine .s1 sizeOf27 .p4 r (.P 10 r r r tv (.e2 12 (.G 1 r (.s1 sizeOf27 .p4 r (.V 7340189 1 r (.I P1 .p2 r ?_))))))
   refine .ca call194 r (Ad8 a.2.2 O:) fun _ _ b5 b6=>?_
   obtain ⟨_,_,_,rfl,k,O⟩:=b6
   obtain ⟨d2,U,a⟩:=b5.u3 b1 U a
   refine .ln BE r (.D 1 30786332917917 r (.E (.lx O [43,42,22,21,20,7,3,2,0] [6,6,6,6,4,1,0,0,0] r (fun j E l (b,m)=>fun c w=>∃ p q,j ⟨63,[],none⟩ (fun Z=>True) ((4,.slice p b.length q) :: (44,vi m) :: E) (OwnSl B0 3 p q b :: l) c w) (fun c w V W=>⟨_,_,jf rf tv [5,5,5,5,5,4,1,0,0,0] r V W⟩) ?_)))
   rintro ⟨b,m⟩ _ O c w ⟨p,q,_,u,_,a8,d0⟩
   obtain ⟨P,U,a,k⟩:=u.u4 d2 U a k
   refine Cod.at a8 d0 (.F (.D 1 65970705006749 r (.B (.A r O (fun R O=>?_) fun R O=>?_))))
   · refine .P 30786332917917 r (.B (.E (.F ?_)))
     obtain ⟨b7,K,S,_,_,b8,T,O⟩:=k.ix O
     refine .U BE D3 b8 b7 S r (.x 0 AM T r (.D 1 30786332918429 r (.C (.G 2 r (.I AM .p8 r (.G 2 r (.bs 1 BE D3 jX r fun _=>?_)))))))
     obtain ⟨d3,O⟩:=O
     exact .ap (ys:=[A5 (e.Low+K)]) .p1 BE BE IN3 r (.box .z (.one r) r) d3 fun _ _=>.D 1 30786332917917 r (.drop .p1 (.C (.G 2 r (.H fun c w V W=>⟨_,O,_,_,jf u tv [0,0,0,0,0,0,0,0,0,0] r V W⟩))))
   exact .en 7340061 r (.drop .p8 (.C (.G 2 r (.H fun c w V W=>⟨_,O,_,_,_,_,_,_,jf P tv [5,5,5,0,0,0,0,0,0] r V W⟩))))
 refine .en 29 r (.M 1 r (.I AM .z r (.G 1 r (.y .p3 fun _ d4 s=>?_))))
 obtain ⟨d5,U⟩:=d4.u2 i U
 refine .ca call27 r (MY s O:) fun _ _ Y d6=>?_
 obtain ⟨b9,_,_,rfl,d,O⟩:=d6
 obtain ⟨a0,U,s⟩:=Y.u3 d5 U s
 refine .G 1 r (.s1 sizeOf40 .z r (.ns 13 r (.S JP DJ .z r (.R DJ .p6 r (.L 5 r (.drop .z (.y .p1 fun _ a1 t=>?_)))))))
 obtain ⟨a2,U,d⟩:=a1.u3 a0 U d
 refine .y .z fun _ a3 c0=>?_
 obtain ⟨a4,U,d,t⟩:=a3.u4 a2 U d t
 exact .J (DZ r (.w JP DJ r .p3 r .n) a4 (.o [0,0,0,1] r) ⟨({ Low:=0,High:=o0.setup.Plan.N,A:=g,B:=h,On:=b9 }:State),((_,_),(_,_),(_,_)),r,⟨c0,t,d⟩,r,O⟩)
theorem RX {o0 o1 Q} (V:nO I gq4 o0) (O:EM o0 o1 Q) :
  Fun prog 112 #[vp b3] I (kL4 o0 b3 gq4 b10 p6 c7 o1) (fun I_ v l=>∃ r Z p15 c16,v=.tuple #[]∧nO I_ Z r∧l=(kL4 r b3 Z b10 p15 c16 o1)∧Q r):=by
 refine Fun.ee func112 ntmps112 r (.B (.M 3 r (.I isAgg134 .z r (.ln L6 r (.D 1 897 r (.E (.lp O [8,7,0] W0 r (fun j E l b=>j ((9,vi b) :: E) l) (ji rf W0 r) ?_)))))))
 refine fun b _ O=>jq r fun A a=>?_
 have V:=a.u1 V
 refine .F (.D 1 1921 r (.B (.A r O (fun e O=>?_) fun e O=>?_)))
 · refine .P 897 r (.B (.E (.F ?_)))
   obtain ⟨B,_,g,_,_,C,i,O⟩:=V.2.2.ix O
   refine .U L6 sizeOf133 C B g r (.x 0 isAgg133 i r (.D 1 905 r (.B (.dr [0,2,3,4,5,6,1,7] 8 (.K 4 r (.X isAgg136 0 r (.h r (.ln qR r .mk) (.Y r ?_))))))))
   refine .cS (.f call147 r) (.o [3] r) r (WT (I:=A) O:) fun _ _ _ m p=>?_
   obtain ⟨_,rfl,rfl,O⟩:=p
   obtain ⟨c,V⟩:=m.u2 a V
   refine .rx 4 r (.q 4 r (.W r (.ln qR r .mk) (.W r (.I isAgg136 .p1 r .mk) (.j 3 r r tv))) (.K 1 r (.e2 8 (.L 1049473 r (.A r O (fun q O=>?_) fun q O=>?_)))))
   · exact .J (DZ r .n c (.o [1,1,1,0] r) ⟨o0,gq4,_,_,r,V,r,O⟩)
   exact .P 897 r (.C (.G 2 r (.H (je (A5 (b+1)) O c [1,1,1,0] r))))
 refine .en 1 r (.dr Aj2 12 (.K 4 r (.X isAgg136 0 r (.K 1 r (.Y r ?_)))))
 refine .cS (.f call148 r) (.o W0 r) r (WV (b3:=b3) (b10:=b10) (p6:=p6) (c7:=c7) V O:) fun _ _ _ t u=>?_
 obtain ⟨d,w,rfl,D,rfl,O⟩:=u
 obtain ⟨x,V⟩:=t.u2 a V
 refine .rx 4 r (.q 4 r (.W r (.I isAgg136 .z r .mk) (.j 4 r r tv)) (.Y r (.bs 1 qR DJ NK r fun _=>.q 5 r (.W r (.I isAgg136 .p1 r .mk) (.j 4 r r tv)) (.Y r ?_))))
 obtain ⟨y,O⟩:=O
 exact .ap (ys:=[d]) .p3 qR qR Az1 r (.box .z (.one ⟨w,r,D⟩) r) y fun _ _=>.q 5 r (.j 1 r r tv) (.K 2 r (.Y r (.s1 sizeOf136 .p2 r (.P 5 r r r tv (.e2 12 (.H (JR r .n x (.o [2,2,0,1] r) ⟨({ o0 with history:=(o0.history++([d])) }:AL),gq4,_,_,r,V,r,O⟩)))))))
theorem wS {o0 o1 a0 Q0 Q1} (V:lTa I ga3 a0) (U:SU o0 o1 a0 Q0 Q1) :
  Fun prog 73 #[.agg (YO a0 ga3)] I [CX A8 o0,CX BV o1] (λI_ v l=>(∃ r,v=.tuple #[.pointer none,vi r.1]∧l=[CX A8 r.2,CX BV o1]∧Q0 r)∨(∃ r b5 h6 e7 p8 c9,v=.tuple #[vp b5,vi r.1]∧nO I_ h6 r.2.2∧l=[CX A8 r.2.1,CX BV o1,pc b5 (FP r.2.2 h6 e7 p8 c9) 138,OwnMap KR P6 false e7 r.2.2.boxes,OwnSl S0 63 p8 c9 r.2.2.history]∧Q1 r)):=by
 refine Fun.ee func73 ntmps73 r (.F (.bx r λ_=>.D 2 2 r (.B (.F (.S bX WK .z r (.v call50 (OW V U:) r λh7 U=>.G 1 r (.V 18 2 r (.L 4114 r (.A r U (λe8 U=>?_) λe8 U=>?_)))))))))
 . exact .F (.D 3 12 r (.drop .z (.J (DZ r (.t r (.t r .n)) rf (.o I5 r) (.inl ⟨(h7,o0),r,r,U⟩)))))
 refine .P 2 r (.F (.S bX WK .z r (.mkMap KR P6 false r r λe5=>.bd zeroValue138 underlying138 AxX r (.bx r λe6=>.D 1 34 r (.B (.M 1 r (.I AM .p2 r (.G 1 r (.I AM .p2 r (.D 2 12582946 r (.E (.own0 P6 133 (.own0 P6 133 ?_)))))))))))));refine .lx U [22,5,1] [4,3,4] r (λj E l (k,m,x,e)=>λc w=>∃ F G H J,j ⟨71,[],none⟩ (λI_=>True) ((23,vi x) :: E) (pc e6 #[vi a0.Plan.Kind,vi a0.Plan.N,vi a0.Plan.Source,vi a0.Plan.Length,.slice ga3.1.1 a0.Plan.Draws.length ga3.1.2,vi a0.Graph.N,.slice ga3.2.1.1 a0.Graph.Edges.length ga3.2.1.2,vi a0.R,vi a0.C,vi a0.Room,vi a0.Limit,.slice ga3.2.2.1 a0.Choices.length ga3.2.2.2,.slice F k.length G,.map (some e5),.slice H m.length J,.slice none 0 0] 138 :: OwnSl P6 133 F G k :: OwnSl P6 133 H J m :: CX A8 e :: l) c w) (λc w W Z=>⟨_,_,_,_,jf rf tv [2,1,0,2,1,0,0] r W Z⟩) ?_;rintro⟨k,m,x,e⟩ _ U c w ⟨F,G,H,J,d6,y,_,h9,i0⟩;have V:=y.u1 V;refine Cod.at h9 i0 (.F (.D 1 29360162 r (.B (.A r U (λd3 U=>?_) λd3 U=>?_))))
 . refine .P 12582946 r (.B (.E (.F (.D 2 12583010 r (.B (.dr [0,1,2,3,5,6,7,4,8,9,10,11,12,13] 14 (.h r (.S bX WK .p4 r .mk) (.K 1 r (.X AM 4 r (.K 2 r (.X AM 4 r (.K 1 r (.Y r (.v call110 (jF (I:=d6) U:) r λ_ U=>?_))))))))))))));refine .q 7 r (.j 1 r r (.W r (.I AM .p4 r .mk) (.j 1 r r (.W r (.S bX WK .p4 r .mk) tv)))) (.Y r (.v call111 (ZD (I:=d6) U:) r λ_ U=>.q 7 r (.W r (.S bX WK .p4 r .mk) tv) (.Y r (.cS (.f call109 r) .n r (qB V U:) λ_ e9 _ d5 g=>?_))));rcases g with g | g | g
   . obtain⟨_,rfl,rfl,U⟩:=g; exact U.elim
   . obtain⟨K,p,d7,f0,f1,f2,f3,f4,f5,f6,rfl,f7,rfl,U⟩:=g;have⟨D,V⟩:=d5.u2 y V;refine .rx 13 r (.q 13 r tv (.K 4 r (.e2 14 (.D 1 12583394 r (.B (.F (.D 2 1099524211170 r (.A r U (λX U=>?_) λX U=>?_))))))))
     . refine .F (.D 3 12 r (.drop .z (.drop .z (.drop .z (.drop .z (.drop .z (.drop .z (.drop .z (.drop .z ?_)))))))));exact .drop .z (.drop .p1 (.drop .p1 (.J (DZ r (.t r (.t r .n)) D (.o I5 r) (.inl ⟨(K.1,e),r,r,U⟩)))))
     refine .P 12583138 r (.M 4 r (.I isAgg134 .p6 r (.G 1 r (.bs 1 L6 sizeOf133 zeroValue133 r λ_=>.bankP (B:=A8) (d7,f0,f1,f2,f3,f4,f5,f6) K.2 f7 (.o [1,1,1,1,1,1,4] r) λY=>?_))));have U:=U p Y;have⟨h8,U⟩:=U;refine .ap (ys:=[(some p)]) .p3 L6 L6 AlF r (.box .p1 (.one r) r) h8 λ_ _=>.G 2 r (.s1 sizeOf134 .p3 r (.L 12583138 r (.drop .p2 (.M 1 r (.I AM .p4 r (.G 1 r (.v call111 (ZD (I:=e9) U:) r λ_ U=>.D 1 72057594050511010 r (.A r U (λa2 U=>?_) λa2 U=>?_))))))))
     . refine .C (.G 4 r (.I isAgg134 .p2 r (.G 1 r (.bs 1 L6 sizeOf133 zeroValue133 r λ_=>?_))));have⟨a3,U⟩:=U;exact .ap (ys:=[(some p)]) .p4 L6 L6 AlF r (.box .z (.one r) r) a3 λ_ _=>.G 2 r (.s1 sizeOf134 .p4 r (.L 12582946 r (.drop .p1 (.C (.G 2 r (.H λc w W Z=>⟨_,U,_,_,_,_,jf D tv [3,1,0,0,0,0,0] r W Z⟩))))))
     exact .P 12582946 r (.C (.G 2 r (.H λc w W Z=>⟨_,U,_,_,_,_,jf D tv [2,0,1,0,0,0,0] r W Z⟩)))
   obtain⟨L,q,A,f8,f9,g0,g1,g2,g3,g4,g5,g6,g7,g8,g9,h0,h1,h2,h3,h4,h5,d8,rfl,a,rfl,U⟩:=g;have⟨Q,V⟩:=d5.u2 y V;refine .rx 19 r (.q 19 r tv (.K 4 r (.e2 14 (.D 1 12583394 r (.B (.F (.D 2 1099524211170 r (.A r U (λa4 U=>?_) λa4 U=>?_))))))))
   . refine .F (.D 3 12 r (.drop .z (.drop .z (.drop .z (.drop .z (.drop .z (.drop .z (.drop .z (.drop .z ?_)))))))));exact .drop .z (.drop .z (.drop .z (.drop .z (.drop .z (.drop .z (.drop .z (.drop .p1 (.drop .p1 (.J (DZ r (.t r (.t r .n)) Q (.o I5 r) (.inl ⟨(L.1,e),r,r,U⟩)))))))))))
   refine .P 12583138 r (.M 4 r (.I isAgg134 (.o 12 r) r (.G 1 r (.bs 1 L6 sizeOf133 zeroValue133 r λ_=>.qIn .p2 (.y .p4 λ_ a5 b=>?_)))));have⟨a6,V,a⟩:=a5.u3 Q V a;refine .y .p4 λ_ a7 d=>?_;have⟨a8,V,a,b⟩:=a7.u4 a6 V a b;refine .y .p4 λ_ a9 i=>?_;have⟨b0,V,a,b,d⟩:=a9.u5 a8 V a b d;refine .y .p4 λ_ b1 s=>?_;have⟨b2,V,a,b,d,i⟩:=b1.u6 b0 V a b d i;refine .y .p4 λ_ S O=>?_;have⟨b4,V,a,b,d,i⟩:=S.u6 b2 V a b d i;have s:=S.u1 s;refine .y .p4 λd9 T e0=>?_;have⟨d4,V,a,b,d,i⟩:=T.u6 b4 V a b d i;have⟨s,O⟩:=T.u2 s O;refine .bankP (B:=A8) ((A.1,A.2.1,A.2.2.1,A.2.2.2,((g1,g2),(g3,g4),(g5,g6)),((g7,g8),(g9,h0),(h1,h2))),f8,f9,g0,h3,h4,h5,d8) L.2 ⟨a.1,a.2.1,a.2.2.1,a.2.2.2,⟨b,d,i⟩,⟨s,O,e0⟩⟩ (.o [1,1,1,1,1,1,4] r) λb6=>?_;have U:=U q b6;have⟨b8,U⟩:=U;refine .ap (ys:=[(some q)]) .p3 L6 L6 AlF r (.box .p1 (.one r) r) b8 λ_ _=>.G 2 r (.s1 sizeOf134 .p3 r (.L 12583138 r (.drop .p2 (.M 1 r (.I AM .p4 r (.G 1 r (.v call111 (ZD (I:=d9) U:) r λ_ U=>.D 1 72057594050511010 r (.A r U (λc0 U=>?_) λc0 U=>?_))))))))
   . refine .C (.G 4 r (.I isAgg134 .p2 r (.G 1 r (.bs 1 L6 sizeOf133 zeroValue133 r λ_=>?_))));have⟨c1,U⟩:=U;exact .ap (ys:=[(some q)]) .p4 L6 L6 AlF r (.box .z (.one r) r) c1 λ_ _=>.G 2 r (.s1 sizeOf134 .p4 r (.L 12582946 r (.drop .p1 (.C (.G 2 r (.H λc w W Z=>⟨_,U,_,_,_,_,jf d4 tv [3,1,0,0,0,0,0] r W Z⟩))))))
   exact .P 12582946 r (.C (.G 2 r (.H λc w W Z=>⟨_,U,_,_,_,_,jf d4 tv [2,0,1,0,0,0,0] r W Z⟩)))
 refine .en 32 r (.drop .p4 (.M 1 r (.y .p1 λ_ c2 u=>?_)));have⟨c3,V⟩:=c2.u2 y V;refine .y .p1 λe1 c4 P=>?_;have⟨c5,V,u⟩:=c4.u3 c3 V u;refine .own0 S0 63 ?_;refine .cS (.f call112 r) (.o [1,2,0,0] r) r (RX (I:=e1) (o0:=({ setup:=a0,workers:=k,boxes:=([]:List ((Int×Int)×(Option Nat))),owners:=m,history:=([]:List State) }:AL)) (b3:=e6) (gq4:=(ga3,(F,G),(H,J))) (b10:=e5) (p6:=none) (c7:=0) ⟨V,u,P⟩ U:) λ_ _ _ c8 d0=>?_;obtain⟨e3,d1,_,_,rfl,e4,rfl,U⟩:=d0;have⟨d2,V,u,P⟩:=c8.u4 c5 V u P;exact .rn 5 r (.V 32 3 r (.L 12 r (.J (DZ r (.t r (.t r .n)) d2 (.o [3,3,0,0,0] r) (.inr ⟨(0,e,e3),_,d1,_,_,_,r,e4,r,U⟩)))))
theorem UL {o0 Q} (h:WE I gn3 o0) (d:ED o0 Q) :
  Fun prog 77 #[vp b2] I (UT o0 b2 gn3 p5 c6 b13 p8 c9 b16 b18) (λ_ v l=>∃ r,v=vi r∧l=(UT o0 b2 gn3 p5 c6 b13 p8 c9 b16 b18)∧Q r):=by
 exact Fun.ee func77 ntmps77 r (.F (.D 1 1 r (.B (.M 1 r (.eqNilP Aa9 r r r r (.L 17 r (.Z r r (.P 1 r (.M 3 r (.I isAgg61 .z r (.D 1 5 r (.q1 results77 rf UH r ⟨o0.status,r,r,d⟩))))))))))))
theorem LZ {o0 a0 Q} (h:DM o0 a0 Q) :
  Fun prog 77 #[.pointer (mkA a0)] I [CX A8 o0] (λD v l=>∃ r,v=vi r∧l=[CX A8 o0]∧Q r):=by
 rcases a0 with _ | b
 . have h:=h.1 r;exact h.elim
 have⟨_,V,h⟩:=h.2 b rfl;refine Fun.bankR V (λd J=>UL (b2:=b) (gn3:=d.1) (p5:=d.2.1) (c6:=d.2.2.1) (b13:=d.2.2.2.1) (p8:=d.2.2.2.2.1) (c9:=d.2.2.2.2.2.1) (b16:=d.2.2.2.2.2.2.1) (b18:=d.2.2.2.2.2.2.2) J h) ?_;rintro d D v l Z O ⟨W,rfl,rfl,U⟩;exact⟨(d.1,d.2.1,d.2.2.1,d.2.2.2.1,d.2.2.2.2.1,d.2.2.2.2.2.1,d.2.2.2.2.2.2.1,d.2.2.2.2.2.2.2),[],r,A8.mono Z O,W,r,r,U⟩
theorem XX {o0 a0 Q} (h:H5 o0 a0 Q) :
  Fun prog 81 #[.pointer (mkA a0)] I [CX A8 o0] (λ_ v l=>∃ r,v=.bool r∧l=[CX A8 o0]∧Q r):=by
 refine Fun.ee func81 ntmps81 r ?_;refine .M 1 r (.V 1 1 r ?_);refine .cS (.f call77 r) (.o [0] r) r (LZ (I:=I) h:) λ_ _ _ b c=>?_;obtain⟨d,rfl,rfl,h⟩:=c;exact .rn 1 r (.D 2 4 r (.q1 results81 b [0] r ⟨(d==0),r,r,h⟩))
theorem H4 {o0 a0 Q} (J:RepSl P6 I p2 c3 a0) (h:BS o0 a0 Q) :
  Fun prog 121 #[.slice p2 a0.length c3,.func (.func 81) #[] #[]] I [CX A8 o0] (λ_ v l=>∃ r,v=vi r∧l=[CX A8 o0]∧Q r):=by
 refine Fun.ee func121 ntmps121 r (.F (.D 1 3 r (.B (.M 1 r (.ln L6 r (.D 1 387 r (.E (.lp h xX [0] r (λj E l d=>j ((8,vi d) :: E) l) (ji rf [0] r) ?_))))))));refine λd _ h=>jq r λp a=>?_;have J:=a.u1 J;refine .F (.D 1 899 r (.B (.A r h (λf h=>?_) λf h=>?_)))
 . refine .P 387 r (.B (.E (.M 2 r (.V 419 3 r ?_))));have⟨q,_,g,_,_,s,b,h⟩:=J.ix h;refine .U L6 sizeOf133 s q g r (.x 0 isAgg133 b r ?_);refine .cS (.c call81 r r) (.o [0] r) r (XX (I:=p) h:) λ_ _ _ i k=>?_;obtain⟨_,rfl,rfl,h⟩:=k;have⟨e,J,b⟩:=i.u3 a J b;refine .rn 1 r (.L 65955 r (.A r h (λm h=>?_) λm h=>?_))
   . exact .F (.D 2 18 r (.q1 results121 e [0] r ⟨d,r,r,h⟩))
   exact .P 387 r (.C (.G 2 r (.H (je (A5 (d+1)) h e [0] r))))
 exact .en 2 r (.F (.D 1 18 r (.q1 results121 a [0] r ⟨(-1),r,r,h⟩)))
theorem GG {o0 a0 Q} (h:RepSl P6 I p2 c3 a0) (J:BN o0 a0 Q) :
  Fun prog 80 #[.slice p2 a0.length c3,.func (.func 81) #[] #[]] I [CX A8 o0] (λ_ v l=>∃ r,v=.bool r∧l=[CX A8 o0]∧Q r):=by
 refine Fun.ee func80 ntmps80 r ?_;refine .M 1 r (.V 3 2 r ?_);refine .cS (.f call121 r) (.o [0] r) r (H4 h J:) λ_ _ _ a c=>?_;obtain⟨d,rfl,rfl,J⟩:=c;have h:=a.u1 h;exact .rn 1 r (.D 2 18 r (.q1 results80 a [0] r ⟨(decide (0<=d)),r,r,J⟩))
theorem KE {o0 o1 Q} (h:nO I gq4 o0) (J:CP o0 o1 Q) :
  Fun prog 48 #[vp b3] I (kL4 o0 b3 gq4 b10 p6 c7 o1) (λ_ v l=>∃ r,v=.bool r∧l=(kL4 o0 b3 gq4 b10 p6 c7 o1)∧Q r):=by
 refine Fun.ee func48 ntmps48 r ?_;refine .M 1 r (.V 1 1 r (.neNilP AiG r r r r (.G 4 r (.O r (.I isAgg134 .z r ?_)))));refine .O r (.cS (.f call80 r) (.o [3] r) r (GG h.2.2 J:) λ_ _ _ a c=>?_);obtain⟨d,rfl,rfl,J⟩:=c;have h:=a.u1 h;exact .rn 4 r (.D 3 5 r (.q1 results48 a [1,1,1,0] r ⟨(!d),r,r,J⟩))
theorem M4 {o0 o1 a0 Q} (h:nO I gq4 o0) (d:G1 o0 o1 a0 Q) :
  Fun prog 149 #[vp b3,vi a0] I (kL4 o0 b3 gq4 b10 p6 c7 o1) (λ_ v l=>∃ r,v=.bool r∧l=(kL4 o0 b3 gq4 b10 p6 c7 o1)∧Q r):=by
 refine Fun.ee func149 ntmps149 r (.M 1 r (.V 3 1 r (.neNilP AiG r r r r (.G 5 r (.T d [9,10,11] r (λa d=>?_) λa d=>?_)))))
 . exact .G 4 r (.O r (.I isAgg134 .z r (.O r (.ln L6 r (.D 3 17 r (.q1 results149 rf W0 r ⟨(decide (a0<(o0.workers.length:Int))),r,r,d⟩))))))
 exact .D 9 17 r (.q1 results149 rf W0 r ⟨false,r,r,d⟩)
theorem MA {o0 Q} (h:WE I gn3 o0) (d:EW o0 Q) :
  Fun prog 195 #[vp b2] I (UT o0 b2 gn3 p5 c6 b13 p8 c9 b16 b18) (λ_ v l=>∃ r,v=vi r∧l=(UT o0 b2 gn3 p5 c6 b13 p8 c9 b16 b18)∧Q r):=by
 exact Fun.ee func195 ntmps195 r (.F (.D 1 1 r (.B (.M 1 r (.eqNilP Aa9 r r r r (.L 17 r (.Z r r (.P 1 r (.M 3 r (.I isAgg190 .z r (.ln AaA r (.D 1 5 r (.q1 results195 rf UH r ⟨(o0.out.length:Int),r,r,d⟩)))))))))))))
theorem WW {o0 Q} (O:WE I gn3 o0) (d:JH o0 Q) :
  Fun prog 150 #[vp b2] I (UT o0 b2 gn3 p5 c6 b13 p8 c9 b16 b18) (λV v l=>∃ r gh19,v=.tuple #[.agg (JL r.1 gh19),.bool r.2]∧rU V gh19 r.1∧l=(UT o0 b2 gn3 p5 c6 b13 p8 c9 b16 b18)∧Q r):=by
 refine Fun.ee func150 ntmps150 r ?_;refine .F (.al KJ r λ_=>?_);refine .D 1 5 r (.B (.M 1 r ?_));refine .cS (.f call195 r) (.o nl6 r) r (MA (b2:=b2) (p5:=p5) (c6:=c6) (b13:=b13) (p8:=p8) (c9:=c9) (b16:=b16) (b18:=b18) O d:) λ_ _ _ a e=>?_;obtain⟨_,rfl,rfl,d⟩:=e;have O:=a.u1 O;refine .rn 7 r (.D 1 69 r (.A r d (λg d=>?_) λg d=>?_))
 . exact .F (.bd KJ ZR mE r (.R CV .p6 r (.D 1 13 r (.J (DZ r (.w GF CV r .p6 r (.t r .n)) a (.o UH r) ⟨(({ Kind:=0,From:=0,To:=0,Seq:=0,Round:=0,Vec:=CJ,Sums:=([]:List BM),Triples:=([]:List A2),N:=0,Over:=false }:AO),false),((_,_),(_,_),(_,_)),r,⟨(.nil _ none 0),(.nil _ none 0),(.nil _ none 0)⟩,r,d⟩)))))
 refine .P 5 r (.M 3 r (.I isAgg190 .z r ?_));have⟨q,_,b,d⟩:=d;refine .neQ .p1 (CS b) λ_ _ s=>?_;cases s;refine .U AaA CV r q b r (.loQW GF CV .p1 b r r r r r λ_ h=>?_);obtain⟨_,rfl,c⟩:=h;refine .ca call196 r (Ad9 c d:) λ_ _ j k=>?_;obtain⟨u,m,rfl,x,d⟩:=k;have⟨p,O,c⟩:=j.u3 a O c;exact .R CV .p6 r (.D 1 13 r (.J (DZ r (.w GF CV r .p6 r (.t r .n)) p (.o UH r) ⟨(u,true),m,r,x,r,d⟩)))
theorem XY {o0 a0 Q} (h:K3 o0 a0 Q) :
  Fun prog 150 #[.pointer (mkA a0)] I [CX A8 o0] (λD v l=>∃ r gh2,v=.tuple #[.agg (JL r.1 gh2),.bool r.2]∧rU D gh2 r.1∧l=[CX A8 o0]∧Q r):=by
 rcases a0 with _ | b
 . have h:=h.1 r;exact h.elim
 have⟨_,W,h⟩:=h.2 b rfl;refine Fun.bankR W (λd O=>WW (b2:=b) (gn3:=d.1) (p5:=d.2.1) (c6:=d.2.2.1) (b13:=d.2.2.2.1) (p8:=d.2.2.2.2.1) (c9:=d.2.2.2.2.2.1) (b16:=d.2.2.2.2.2.2.1) (b18:=d.2.2.2.2.2.2.2) O h) ?_;rintro d D v l Z U ⟨J,gh2,rfl,a,rfl,V⟩;exact⟨(d.1,d.2.1,d.2.2.1,d.2.2.2.1,d.2.2.2.2.1,d.2.2.2.2.2.1,d.2.2.2.2.2.2.1,d.2.2.2.2.2.2.2),[],r,A8.mono Z U,(J.1,J.2),gh2,r,a,r,V⟩
theorem wT {a0 Q0 Q1} (d:YN a0 Q0 Q1) :
  Fun prog 197 #[vi a0] I [] (λ_ v l=>(∃ r,v=.tuple #[.pointer none,vi r]∧l=[]∧Q0 r)∨(∃ r h p2 c3 b7 b9,v=.tuple #[vp h,vi r.1]∧l=(kL1 r.2 h p2 c3 b7 b9)∧Q1 r)):=by
 refine Fun.ee func197 ntmps197 r (.F (.D 2 1 r (.B (.M 3 r (.T d [5,6] r (λa d=>?_) λa d=>?_)))))
 . exact d.elim
 refine .D 3 513 r (.A r d (λb d=>?_) λb d=>?_)
 . exact d.elim
 exact .P 1 r (.M 1 r (.mkMap vi G5 true r r λ_=>.mkMap vi B0 false r r λ_=>.bd zeroValue200 underlying200 Ay2 r (.bx r λb7=>.D 2 12 r (.own0 B0 3 (.J (DZ r (.t r (.t r .n)) rf (.o [1,0,1,0] r) (.inr ⟨(0,({ room:=a0,row:=([]:List Int),by_:=([]:List (Int×AO)),often:=([]:List (Int×Int)),sent:=0,taken:=0 }:BR)),_,_,_,_,_,r,r,d⟩)))))))
theorem SG {o0 o1 o2 a0 a1 Q0 Q1} (O:nO I gq5 o0) (J:EX o0 o1 o2 a0 a1 Q0 Q1) :
  Fun prog 151 #[vp b4,vi a0,vi a1] I (kL3 o0 b4 gq5 b11 p7 c8 o1 o2) (λZ v l=>(∃ r U p16 c17,v=.pointer none∧nO Z U r.1∧l=(kL3 r.1 b4 U b11 p16 c17 o1 r.2)∧Q0 r)∨(∃ r U p16 c17,v=.pointer (mkA r.1)∧nO Z U r.2.1∧l=(kL3 r.2.1 b4 U b11 p16 c17 o1 r.2.2)∧Q1 r)):=by
 refine Fun.ee func151 ntmps151 r ?_;refine .F (.D 1 7 r (.B (.M 2 r ?_)));refine .cS (.f call149 r) (.o W0 r) r (M4 (b3:=b4) (b10:=b11) (p6:=p7) (c7:=c8) O J:) λ_ _ _ c i=>?_;obtain⟨_,rfl,rfl,J⟩:=i;have O:=c.u1 O;refine .rn 5 r (.G 2 r (.T J [11,12] r (λj J=>?_) λj J=>?_))
 . exact .D 5 131079 r (.Q r r (.F (.D 1 65 r (.q1 results151 c nl8 r (.inl ⟨(o0,o2),gq5,_,_,r,O,r,J⟩)))))
 refine .G 2 r ?_;refine .O r (.cS (.f call149 r) (.o W0 r) r (M4 (b3:=b4) (b10:=b11) (p6:=p7) (c7:=c8) O J:) λ_ a2 _ p q=>?_);obtain⟨_,rfl,rfl,J⟩:=q;have⟨d,O⟩:=p.u2 c O;refine .rn 5 r (.D 2 131079 r (.A r J (λt J=>?_) λt J=>?_))
 . exact .F (.D 1 65 r (.q1 results151 d nl8 r (.inl ⟨(o0,o2),gq5,_,_,r,O,r,J⟩)))
 refine .P 7 r (.M 2 r (.ba zeroValue141 bW D3 r (.al zeroValue141 r λ_=>.R VW .z r (.L 129 r (.B (.B (.dr wC 7 (.K 3 r (.X isAgg135 1 r (.h r (.S isAgg141 VW .z r .mk) (.Y r λ{V}=>.lookM (k:=(a0,a1)) (El:=P6) (ag:=false) (zv:=.pointer none) (z:=none) AfG vC zeroValue142 ⟨[.pointer none],r,.s⟩ .p2 r r J r r λ_ _ _ J u w=>?_)))))))))));cases u;cases w;refine .q 6 r tv (.h r (.eqNilH AfI r r r r .mk) (.e2 7 (.L 134217857 r (.A r J (λx J=>?_) λx J=>?_))))
 . refine .dr AxE 15 (.K 3 r (.X isAgg135 1 r (.h r (.S isAgg141 VW .z r .mk) (.K 4 r (.X AM 1 r (.Y r (.cS (.f call197 r) .n r (wT (I:=a2) J:) λ_ _ _ A a=>?_)))))));rcases a with a | a
   . obtain⟨_,rfl,rfl,J⟩:=a; exact J.elim
   obtain⟨e,b,K,L,N,a3,rfl,rfl,J⟩:=a;have⟨C,O⟩:=A.u2 d O;refine .rx 10 r (.q 10 r (.W r (.S isAgg141 VW .p4 r .mk) (.W r (.I isAgg135 .p5 r .mk) (.j 3 r r tv))) (.K 3 r (.Y r λ{V}=>.bankP (B:=BV) (K,L,N,a3) e.2 tv (.o [0,0,0,0,5] r) λD=>?_)));have J:=J b D;refine .updM (k:=(a0,a1)) (El:=P6) (ag:=false) (v:=(some b)) AfG vC .p3 r r r ⟨[vp b],r,.s⟩ (.P 6 r r r (.j 1 r r tv) (.e2 15 (.L 129 r (.B (.dr Aj3 6 (.K 3 r (.X isAgg135 2 r (.h r (.S isAgg141 VW .p1 r .mk) (.Y r λ{V}=>.lookM (k:=(a0,a1)) (El:=P6) (ag:=false) (zv:=.pointer none) (z:=none) AfG vC zeroValue142 ⟨[.pointer none],r,.s⟩ .p3 r r J r r λ_ P _ J E F=>?_)))))))));cases E;cases F;exact .q 6 r tv (.e2 6 (.D 1 65 r (.drop .p1 (.q1 results151 C [1,1,1,1,0] r (.inr ⟨(P,({ o0 with boxes:=(DY (a0,a1) (some b) o0.boxes) }:AL),((b,e.2) :: o2)),gq5,_,_,r,O,r,J⟩)))))
 refine .P 129 r (.B (.dr Aj3 6 (.K 3 r (.X isAgg135 1 r (.h r (.S isAgg141 VW .z r .mk) (.Y r λ{V}=>.lookM (k:=(a0,a1)) (El:=P6) (ag:=false) (zv:=.pointer none) (z:=none) AfG vC zeroValue142 ⟨[.pointer none],r,.s⟩ .p2 r r J r r λ_ Q _ J G H=>?_))))));cases G;cases H;exact .q 6 r tv (.e2 6 (.D 1 65 r (.drop .z (.q1 results151 d nl8 r (.inr ⟨(Q,o0,o2),gq5,_,_,r,O,r,J⟩)))))
theorem fO {o0 Q} (d:O8 o0 Q) :
  Fun prog 198 #[vp b2] I (kL1 o0 b2 p3 c4 b8 b10) (λ_ v l=>∃ r,v=.bool r∧l=(kL1 o0 b2 p3 c4 b8 b10)∧Q r):=by
 exact Fun.ee func198 ntmps198 r (.F (.D 1 1 r (.B (.dr AoJ 10 (.K 3 r (.X EJ 0 r (.h r (.ln BE r .mk) (.K 3 r (.X AM 0 r (.K 1 r (.e2 10 (.D 1 5 r (.q1 results198 rf W0 r ⟨(decide (o0.room<=(o0.row.length:Int))),r,r,d⟩)))))))))))))
theorem jS {o0 a0 Q} (h:PU o0 a0 Q) :
  Fun prog 200 #[vp b2,vi a0] I (kL1 o0 b2 p3 c4 b8 b10) (λ_ v l=>∃ r J D,v=.tuple #[]∧l=(kL1 r b2 J D b8 b10)∧Q r):=by
 refine Fun.ee func200 ntmps200 r (.M 4 r (.I EJ .z r (.G 1 r (.bs 1 BE D3 jX r λ_=>?_))));have⟨b,h⟩:=h;refine .ap (ys:=[a0]) .p2 BE BE IN3 r (.box .z (.one r) r) b λ_ _=>.G 2 r (.s1 aB .p2 r (.L 3 r (.drop .p1 (.C (.G 3 r (.I isAgg198 .p1 r (.G 1 r (.lookM (k:=a0) (El:=B0) (ag:=false) (zv:=vi 0) (z:=0) (K2 nQ) AaC jX ⟨[vi 0],r,.s⟩ .p3 r r h r r λ_ a _ h c d=>?_))))))));cases c;cases d;exact .G 1 r (.updM (k:=a0) (El:=B0) (ag:=false) (v:=(A5 (a+1))) (K2 nQ) AaC .p3 r r r ⟨[vi (A5 (a+1))],r,.s⟩ (.H (JR r .n rf (.o [1,0,0,0] r) ⟨({ o0 with row:=(o0.row++([a0])),often:=(DY a0 (A5 (a+1)) o0.often) }:BR),_,_,r,r,h⟩)))
theorem fP {o0 a0 Q} (O:rU I gh11 a0) (J:KG o0 a0 Q) :
  Fun prog 152 #[vp b2,.agg (JL a0 gh11)] I (kL1 o0 b2 p3 c4 b8 b10) (λ_ v l=>∃ r W U,v=vi r.1∧l=(kL1 r.2 b2 W U b8 b10)∧Q r):=by
 refine Fun.ee func152 ntmps152 r ?_;refine .F (.bx r λ_=>?_);refine .D 1 9 r (.B (.E (.M 1 r (.eqNilP AfI r r r r (.D 1 41 r (.Z r r (.M 1 r ?_)))))));refine .cS (.f call198 r) (.o [1,1,1,1] r) r (fO (I:=I) (b2:=b2) (p3:=p3) (c4:=c4) (b8:=b8) (b10:=b10) J:) λ_ _ _ d j=>?_;obtain⟨_,rfl,rfl,J⟩:=j;have O:=d.u1 O;refine .rn 5 r (.D 1 265 r (.A r J (λm J=>?_) λm J=>?_))
 . exact .F (.D 1 17 r (.drop .p4 (.q1 results152 d W0 r ⟨(9,o0),_,_,r,r,J⟩)))
 refine .P 9 r (.F (.S GF CV .p4 r ?_));refine .ca call199 r (wI O J:) λ_ y p q=>?_;obtain⟨b,c,rfl,e,J⟩:=q;have⟨s,O⟩:=p.u2 d O;refine .R CV .p4 r (.V 9 3 r (.I AM .z r (.G 1 r (.s1 D3 .p4 r (.L 9 r (.B (.dr wC 7 (.K 3 r (.X isAgg194 0 r ?_)))))))));refine .K 1 r (.X AM 4 r (.h r (.S GF CV .p4 r .mk) (.e2 7 (.updM (k:=o0.sent) (El:=G5) (ag:=true) (v:=({ b with Seq:=o0.sent }:AO)) (K2 nQ) qT .p2 r r r ⟨[vi b.Kind,vi b.From,vi b.To,vi o0.sent,vi b.Round,vi b.Vec.N,.slice c.1.1 b.Vec.Items.length c.1.2,.slice c.2.1.1 b.Sums.length c.2.1.2,.slice c.2.2.1 b.Triples.length c.2.2.2,vi b.N,.bool b.Over],⟨c,r,e⟩,.a⟩ (.V 9 2 r (.I AM .p4 r ?_))))));refine .cS (.f call200 r) (.o W0 r) r (jS (I:=y) (b2:=b2) (p3:=p3) (c4:=c4) (b8:=b8) (b10:=b10) J:) λ_ _ _ u w=>?_;obtain⟨g,_,_,rfl,rfl,J⟩:=w;have⟨x,e⟩:=u.u2 s e;exact .rn 5 r (.L 1 r (.drop .p4 (.M 3 r (.I AM .z r (.G 3 r (.s1 D3 .z r (.V 1 1 r (.L 17 r (.q1 results152 x W0 r ⟨(0,({ g with sent:=A5 (g.sent+1) }:BR)),_,_,r,r,J⟩)))))))))
theorem jT {o0 a0 a1 Q} (O:rU I gh2 a1) (h:LL o0 a0 a1 Q) :
  Fun prog 152 #[.pointer (mkA a0),.agg (JL a1 gh2)] I [CX BV o0] (λJ v l=>∃ r,v=vi r.1∧l=[CX BV r.2]∧Q r):=by
 rcases a0 with _ | b
 . have h:=h.1 r;exact h.elim
 have⟨_,V,h⟩:=h.2 b rfl;refine Fun.bank V (λd _=>fP (b2:=b) (p3:=d.1) (c4:=d.2.1) (b8:=d.2.2.1) (b10:=d.2.2.2) O h) ?_;rintro d J v l _ ⟨D,a,c,rfl,rfl,U⟩;exact⟨(a,c,d.2.2.1,d.2.2.2),D.2,[],r,tv,(D.1,(b,D.2) :: FK b o0),r,r,U⟩
theorem WX {o0 Q} (D:WE I gn3 o0) (h:JI o0 Q) :
  Fun prog 153 #[vp b2] I (UT o0 b2 gn3 p5 c6 b13 p8 c9 b16 b18) (λO v l=>∃ r J Z U a2 W,v=.tuple #[]∧WE O J r∧l=(UT r b2 J Z U b13 a2 W b16 b18)∧Q r):=by
 refine Fun.ee func153 ntmps153 r ?_;refine .M 1 r ?_;refine .cS (.f call195 r) (.o UH r) r (MA (b2:=b2) (p5:=p5) (c6:=c6) (b13:=b13) (p8:=p8) (c9:=c9) (b16:=b16) (b18:=b18) D h:) λ_ _ _ b i=>?_;obtain⟨a,rfl,rfl,h⟩:=i;have D:=b.u1 D;refine .rn 6 r (.G 1 r (.V 5 2 r (.L 69 r (.A r h (λj h=>?_) λj h=>?_))))
 . refine .C (.G 4 r (.I isAgg190 .z r (.G 2 r (.pubQ .p1 λ_ k c=>?_))));have⟨m,D⟩:=k.u2 b D;have⟨p,_,_,h⟩:=h;have d:Int.toNat 1<=Int.toNat a:=by omega
   have e:Int.toNat a<=o0.out.length:=by omega
   have⟨_,_,q,g,s⟩:=RepSl.sliceW c (Int.toNat 1) (Int.toNat a) (Int.toNat a) d e (.inr rfl);exact .sliceW (L:=Int.toNat 1) (H:=Int.toNat a) (cm:=Int.toNat a) AaA CV r r c.1 r r r (.inr ⟨_,_,r,p,r⟩) (.inr ⟨_,_,r,(by omega),r⟩) (.inr r) d e r q g r r (.G 2 r (.s1 sizeOf190 .z r (.qNew 238 s (by rw[<-g]; simp only[AdT,QY]; omega) (.H (JR r .n m (.o [1,0,0,0,0,0] r) ⟨({ o0 with out:=((o0.out.take a.toNat).drop (Int.toNat 1)) }:A1),gn3,_,_,_,_,r,D,r,h⟩)))))
 exact .AC (JR r .n b (.o UH r) ⟨o0,gn3,_,_,_,_,r,D,r,h⟩)
theorem XZ {o0 a0 Q} (D:H6 o0 a0 Q) :
  Fun prog 153 #[.pointer (mkA a0)] I [CX A8 o0] (λO v l=>∃ r,v=.tuple #[]∧l=[CX A8 r]∧Q r):=by
 rcases a0 with _ | b
 . have D:=D.1 r;exact D.elim
 have⟨_,hx,D⟩:=D.2 b rfl;refine Fun.bank hx (λh U=>WX (b2:=b) (gn3:=h.1) (p5:=h.2.1) (c6:=h.2.2.1) (b13:=h.2.2.2.1) (p8:=h.2.2.2.2.1) (c9:=h.2.2.2.2.2.1) (b16:=h.2.2.2.2.2.2.1) (b18:=h.2.2.2.2.2.2.2) U D) ?_;rintro h O v l _ ⟨J,W,a,c,d,e,rfl,V,rfl,Z⟩;exact⟨(W,a,c,h.2.2.2.1,d,e,h.2.2.2.2.2.2.1,h.2.2.2.2.2.2.2),J,[],r,V,(b,J) :: FK b o0,r,r,Z⟩
theorem cW {o0 o1 o2 a0 Q} (O:nO I gq5 o0) (J:JJ o0 o1 o2 a0 Q) :
  Fun prog 113 #[vp b4,vi a0] I (kL3 o0 b4 gq5 b11 p7 c8 o1 o2) (λI_ v l=>∃ r Z p16 c17,v=.bool r.1∧nO I_ Z r.2.1∧l=(kL3 r.2.1 b4 Z b11 p16 c17 r.2.2.1 r.2.2.2)∧Q r):=by
 refine Fun.ee func113 ntmps113 r ?_;refine .F (.D 1 3 r (.B (.M 2 r ?_)));refine .cS (.f call149 r) (.o W0 r) r (M4 (b3:=b4) (b10:=b11) (p6:=p7) (c7:=c8) O J:) λ_ a2 _ e B=>?_;obtain⟨_,rfl,rfl,J⟩:=B;have O:=e.u1 O;refine .rn 5 r (.D 1 2051 r (.A r J (λC J=>?_) λC J=>?_))
 . exact .F (.D 1 17 r (.q1 results113 e nl8 r ⟨(false,o0,o1,o2),gq5,_,_,r,O,r,J⟩))
 refine .P 3 r (.M 3 r (.I isAgg134 .z r (.G 1 r ?_)));have⟨P,_,D,_,_,R,E,J⟩:=O.2.1.ix J;refine .U L6 sizeOf133 R P D r (.x 0 isAgg133 E r (.G 1 r (.V 35 1 r ?_)));refine .cS (.f call150 r) (.o [3] r) r (XY (I:=a2) J:) λ_ _ _ G H=>?_;obtain⟨_,_,rfl,d,rfl,J⟩:=H;have⟨i,O⟩:=G.u2 e O;refine .rn 5 r (.G 3 r (.al KJ r λ_=>.R CV .z r (.D 1 227 r (.B (.B (.dr [0,1,2,3,4,5,6,8,7,9,10,11] 12 (.K 3 r ?_)))))));refine D5 J (λa J=>?_) λa J=>?_
 . refine .gn r a (.gn r a (.gn r a (.gn r a (.gn r a (.gn r a (.gn r a (.gn r a (.h r (.pickT r a r r r .mk) (.e2 12 ?_)))))))));exact .L 34359738401 r (.drop .z (.Q r r (.F (.D 1 17 r (.q1 results113 i [1,1,1,0,0] r ⟨(false,o0,o1,o2),gq5,_,_,r,O,r,J⟩)))))
 refine .h r (.N r r a (.AD r r r .mk)) (.h r (.N r r a (.AD r r r .mk)) (.h r (.N r r a (.fo ZR 2 r D3 .mk)) (.h r (.N r r a (.I AM .z r .mk)) (.h r (.N r r a (.S GF CV .z r .mk)) (.Y r ?_)))));refine .N r r a (.cS (.f call151 r) (.o [2,2,2,1,1] r) r (SG (b4:=b4) (b11:=b11) (p7:=p7) (c8:=c8) O J:) λ_ _ _ K b=>?_);rcases b with b | b
 . obtain⟨_,_,_,_,rfl,_,rfl,J⟩:=b; exact J.elim
 obtain⟨y,j,_,_,rfl,c,rfl,J⟩:=b;have⟨m,O,d⟩:=K.u3 i O d;refine .rx 6 r (.q 6 r (.W r (.N r r a (.S GF CV .p5 r .mk)) tv) (.Y r ?_));refine .N r r a (.cS (.f call152 r) (.o [4] r) r (jT d J:) λ_ L _ p q=>?_);obtain⟨k,rfl,rfl,J⟩:=q;have⟨g,d,c⟩:=p.u3 m d c;refine .rx 6 r (.q 6 r tv (.h r (.N r r a (.ne r r r r .mk)) (.h r (.pickF r a r r r .mk) (.e2 12 (.L 34359738401 r (.drop .p5 (.A r J (λs J=>?_) λs J=>?_)))))))
 . exact .F (.D 1 17 r (.q1 results113 g [1,1,1,1,0] r ⟨(false,y.2.1,o1,k.2),j,_,_,r,c,r,J⟩))
 refine .P 33 r (.M 1 r ?_);refine .cS (.f call153 r) (.o [4] r) r (XZ (I:=L) J:) λ_ _ _ u w=>?_;obtain⟨N,rfl,rfl,J⟩:=w;have⟨x,c⟩:=u.u2 g c;exact .rn 5 r (.V 1 1 r (.L 17 r (.q1 results113 x [2,2,2,0,0] r ⟨(true,y.2.1,N,k.2),j,_,_,r,c,r,J⟩)))
theorem UM {o0 Q} (d:IE o0 Q) :
  Fun prog 118 #[vp b2] I (kL1 o0 b2 p3 c4 b8 b10) (λ_ v l=>∃ r,v=vi r∧l=(kL1 o0 b2 p3 c4 b8 b10)∧Q r):=by
 exact Fun.ee func118 ntmps118 r (.F (.D 1 1 r (.B (.M 1 r (.eqNilP AfI r r r r (.L 17 r (.Z r r (.P 1 r (.M 3 r (.I EJ .z r (.ln BE r (.D 1 5 r (.q1 results118 rf W0 r ⟨(o0.row.length:Int),r,r,d⟩)))))))))))))
theorem OY {o0 a0 Q} (h:HB o0 a0 Q) :
  Fun prog 118 #[.pointer (mkA a0)] I [CX BV o0] (λD v l=>∃ r,v=vi r∧l=[CX BV o0]∧Q r):=by
 rcases a0 with _ | b
 . have h:=h.1 r;exact h.elim
 have⟨_,O,h⟩:=h.2 b rfl;refine Fun.bankR O (λd _=>UM (b2:=b) (p3:=d.1) (c4:=d.2.1) (b8:=d.2.2.1) (b10:=d.2.2.2)  h) ?_;rintro d D v l _ _ ⟨U,rfl,rfl,J⟩;exact⟨(d.1,d.2.1,d.2.2.1,d.2.2.2),[],r,tv,U,r,r,J⟩
theorem aH {o0 o1 Q} (J:nO I gq4 o0) (D:HY o0 o1 Q) :
  Fun prog 117 #[vp b3] I (kL5 o0 b3 gq4 b10 p6 c7 o1) (λW v l=>∃ r a3 a2,v=.slice a3 r.length a2∧RepSl Aq0 W a3 a2 r∧l=(kL5 o0 b3 gq4 b10 p6 c7 o1)∧Q r):=by
 refine Fun.ee func117 ntmps117 r (.M 1 r (.V 1 1 r (.L 9 r (.B (.M 3 r (.I isAgg135 .z r (.rangeM vC .p1 r r r λS=>.L 1033 r (.E (.own0 Aq0 141 (.lx D [10,0] [2,2,2] r (λj E l (k,b)=>λc w=>∃ d e,j ⟨26,[],none⟩ (λW=>True) ((3,.slice d b.length e) :: E) (OwnIt KR P6 false b10 S o0.boxes k none :: OwnSl Aq0 141 d e b :: l) c w) (λc w O U=>⟨_,_,jf rf tv [1,0,0,0,0] r O U⟩) ?_))))))))));rintro⟨k,b⟩ _ D c w ⟨d,e,m,g,_,a7,a8⟩;have J:=g.u1 J;refine Cod.at a7 a8 (.F (.nextM .z r D r r (λD q=>?_) (λn _ _ _ D s t q=>?_)))
 . refine .D 1 5129 r (.B (.Z r r (.en 9 r (.M 1 r ?_))));have u:=Fun.sort (hk:=λ_=>⟨r,r⟩) AyQ isAgg141 VW (λx y a5 Q hq=>fM (I:=a5) (a0:=x) (a1:=y) (Q:=Q) hq) call159 (I:=m) (T:=141) (a:=d) (cap:=e) D;refine .cS (.f call158 r) (.o [1] r) r u λ_ _ _ A B=>?_;obtain⟨a6,rfl,i,rfl,D⟩:=B;have⟨C,J⟩:=A.u2 g J;refine .rl .z [3,23] r (by rw[i]) (.V 9 2 r (.L 5 r (.itEnd .p1 (.y .p1 λ_ a4 P=>?_))));have⟨F,J⟩:=a4.u2 C J;exact .q1 results117 F [1,0,0,0] r ⟨a6,_,_,r,P,r,D⟩
 cases s;cases t;refine .D 1 5129 r (.B (.Q r r (.P 1033 r (.E (.F (.entryM .z r r r (.G 2 r (.al zeroValue141 r λ_=>?_))))))));refine .R VW .z r (.G 1 r (.V 1081 1 r ?_));refine .cS (.f call118 r) (.o [5] r) r (OY (I:=m) D:) λ_ _ _ H K=>?_;obtain⟨_,rfl,rfl,D⟩:=K;have⟨h,J⟩:=H.u2 g J;refine .rn 6 r (.D 1 263193 r (.A r D (λL D=>?_) λL D=>?_))
 . refine .C (.G 1 r (.S isAgg141 VW .p1 r (.bs 1 underlying182 VW zeroValue141 r λ_=>?_)));have⟨N,D⟩:=D;exact .ap (ys:=[n.1]) .p4 underlying182 underlying182 AxY r (.box .z (.one r) r) N λ_ _=>.G 1 r (.H λc w O U=>⟨_,D,_,_,jf h tv [4,0,3,3,1] r O U⟩)
 exact .AC λc w O U=>⟨_,D,_,_,jf h tv [2,2,2,2,0] r O U⟩
theorem Y0 {o0 a0 Q} (d:K4 o0 a0 Q) :
  Fun prog 163 #[vi a0,vp b2] I [pc b2 #[vi o0] 3] (λ_ v l=>∃ r,v=.bool r∧l=[pc b2 #[vi o0] 3]∧Q r):=by
 exact Fun.ee func163 ntmps163 r (.M 1 r (.V 3 1 r (.I AM .z r (.D 2 10 r (.q1 results163 rf [0] r ⟨(a0==o0),r,r,d⟩)))))
theorem QN {o0 o1 Q} (h:EI o0 o1 Q) :
  Fun prog 162 #[.slice p3 o0.length c4,.func (.func 163) #[] #[vp b5]] I [OwnSl B0 3 p3 c4 o0,pc b5 #[vi o1] 3] (λ_ v l=>∃ r,v=vi r∧l=[OwnSl B0 3 p3 c4 o0,pc b5 #[vi o1] 3]∧Q r):=by
 refine Fun.ee func162 ntmps162 r (.F (.D 1 3 r (.B (.M 1 r (.ln BE r (.D 1 387 r (.E (.lp h xX I5 r (λj E l b=>j ((8,vi b) :: E) l) (ji rf I5 r) ?_))))))));refine λb _ h=>jq r λp d=>.F (.D 1 899 r (.B (.A r h (λg h=>?_) λg h=>?_)))
 . refine .P 387 r (.B (.E (.M 2 r (.V 419 3 r ?_))));have⟨f,_,a,h⟩:=h;refine .AG .z (CS a) λ_ q=>?_;cases q;refine .u BE D3 r r f (BG a f) r r (.lo1 (j:=0) AM .z a r r r r r ?_);refine .cS (.c call163 r r) (.o [1] r) r (Y0 (I:=p) (b2:=b5) h:) λ_ _ _ i k=>?_;obtain⟨_,rfl,rfl,h⟩:=k;have e:=i.u1 d;refine .rn 2 r (.L 65955 r (.A r h (λm h=>?_) λm h=>?_))
   . exact .F (.D 2 19 r (.q1 results162 e mW r ⟨b,r,r,h⟩))
   exact .P 387 r (.C (.G 2 r (.H (je (A5 (b+1)) h e mW r))))
 exact .en 3 r (.F (.D 1 19 r (.q1 results162 d I5 r ⟨(-1),r,r,h⟩)))
theorem aI {o0 Q} (O:HZ o0 Q) :
  Fun prog 119 #[vp b2] I (kL1 o0 b2 p3 c4 b8 b10) (λ_ v l=>∃ r,v=vi r∧l=(kL1 o0 b2 p3 c4 b8 b10)∧Q r):=by
 refine Fun.ee func119 ntmps119 r ?_;refine .F (.D 1 1 r (.B (.M 1 r ?_)));refine .cS (.f call118 r) (.o W0 r) r (UM (I:=I) (b2:=b2) (p3:=p3) (c4:=c4) (b8:=b8) (b10:=b10) O:) λ_ b _ a d=>?_;obtain⟨_,rfl,rfl,O⟩:=d;refine .rn 4 r (.D 1 65 r (.A r O (λe O=>?_) λe O=>?_))
 . exact .F (.D 1 5 r (.q1 results119 a W0 r ⟨(-1),r,r,O⟩))
 refine .P 1 r (.M 3 r (.I EJ .z r ?_));have g:=λ(J:IH) (W:IH.le b J) (U:V6 J [OwnSl B0 3 p3 c4 o0.row])=>cV (I:=J) (ApP U.1) O;refine .callB (.f call161 r) (.o [1] r) g r r λ_ _ h=>?_;obtain⟨_,rfl,O⟩:=h;refine .alloc1 jX r r r λn=>?_;refine .s1 D3 .z r (.V 9 3 r (.I EJ .p1 r (.mkFn r r r r ?_)));refine .cS (.f call162 r) (.o [2,0] r) r (QN (I:=b) (p3:=p3) (c4:=c4) (b5:=n) O:) λ_ _ _ j k=>?_;obtain⟨p,rfl,rfl,O⟩:=k;have m:=j.u1 a;exact .rn 5 r (.D 1 5 r (.drop .p1 (.q1 results119 m [1,0,0,0] r ⟨p,r,r,O⟩)))
theorem cX {o0 a0 Q} (h:MT o0 a0 Q) :
  Fun prog 119 #[.pointer (mkA a0)] I [CX BV o0] (λD v l=>∃ r,v=vi r∧l=[CX BV o0]∧Q r):=by
 rcases a0 with _ | b
 . have h:=h.1 r;exact h.elim
 have⟨_,O,h⟩:=h.2 b rfl;refine Fun.bankR O (λd _=>aI (b2:=b) (p3:=d.1) (c4:=d.2.1) (b8:=d.2.2.1) (b10:=d.2.2.2)  h) ?_;rintro d D v l _ _ ⟨U,rfl,rfl,J⟩;exact⟨(d.1,d.2.1,d.2.2.1,d.2.2.2),[],r,tv,U,r,r,J⟩
theorem nJ {o0 a0 Q} (d:S4 o0 a0 Q) :
  Fun prog 201 #[vp b2,vi a0] I (kL1 o0 b2 p3 c4 b8 b10) (λ_ v l=>∃ r,v=vi r∧l=(kL1 o0 b2 p3 c4 b8 b10)∧Q r):=by
 refine Fun.ee func201 ntmps201 r (.F (.D 1 3 r (.B (.E (.M 1 r (.eqNilP AfI r r r r (.D 1 35 r (.Z r r (.M 3 r (.T d [10,11] r (λa d=>?_) λa d=>?_))))))))))
 . exact .D 9 257 r (.Q r r (.F (.D 1 17 r (.q1 results201 rf W0 r ⟨3,r,r,d⟩))))
 refine .G 4 r (.O r (.I EJ .z r (.O r (.ln BE r (.D 3 257 r (.A r d (λb d=>?_) λb d=>?_))))))
 . exact .F (.D 1 17 r (.q1 results201 rf W0 r ⟨3,r,r,d⟩))
 exact .P 1 r (.F (.D 1 17 r (.q1 results201 rf W0 r ⟨0,r,r,d⟩)))
theorem SZ {o0 a0 a1 Q} (J:FA o0 a0 a1 Q) :
  Fun prog 202 #[.slice p2 o0.length c3,vi a0,vi a1] I [OwnSl B0 3 p2 c3 o0] (λ_ v l=>∃ r,v=.slice p2 r.length c3∧l=[OwnSl B0 3 p2 c3 r]∧Q r):=by
 refine Fun.ee func202 ntmps202 r (.ownCap .z λa=>.M 1 r (.V 7 4 r (.ln BE r ?_)));have⟨i,c,_,J⟩:=J;refine .sliceOm BE D3 r r r r i c (by omega) (by omega) r r λ_=>.L 7 r (.B (.F (.D 3 65543 r (.A r J (λb J=>?_) λb J=>?_))))
 . exact .F (.D 2 65 r (.q1 results202 rf [0] r ⟨o0,r,r,J⟩))
 refine .P 7 r (.M 1 r (.ln BE r (.D 1 135 r (.B (.dr wC 7 (.K 2 r ?_))))));have⟨_,_,_,J⟩:=J;refine .h r (.sliceO (L:=0) (H:=a0.toNat) BE D3 r r .z r r (.inl ⟨r,r⟩) (.inr ⟨_,_,r,(by omega),r⟩) (by omega) (by omega) r r .mk) (.K 2 r ?_);have⟨d,_,_,J⟩:=J;refine .h r (.sliceO (L:=a1.toNat) (H:=o0.length) BE D3 r r .z r r (.inr ⟨_,_,r,d,r⟩) (.inl ⟨r,r⟩) (by omega) (by omega) r r .mk) (.Y r λ{O}=>?_);have e:a0.toNat<=a1.toNat:=by omega
 have f:a1.toNat<=o0.length:=by omega
 refine .appendDel (L:=a0.toNat) (H:=a1.toNat) 8 .z BE IN3 r r r r r r r (oB _ _ _) (AjW _) (AjW _) r e f r r (.q 1 r tv (.e2 7 (.G 1 r (.V 129 2 r (.ln BE r (.G 1 r ?_))))));have g:(o0.take a0.toNat++o0.drop a1.toNat).length<=(o0.length:Int).toNat:=by simp only[kC,QY,AdT]; omega
 exact .sliceTail (L:=(o0.take a0.toNat++o0.drop a1.toNat).length) (N:=(o0.length:Int).toNat) BE D3 r r r (by omega) r (by omega) r g (by omega) r r (.clearTail .z BE IN3 r r r r r r r a (.V 1 2 r (.L 65 r (.q1 results202 rf [0] r ⟨(o0.take a0.toNat++o0.drop a1.toNat),r,r,J⟩))))
theorem jU {o0 a0 Q} (O:PV o0 a0 Q) :
  Fun prog 203 #[vp b2,vi a0] I (kL1 o0 b2 p3 c4 b8 b10) (λW v l=>∃ r U a2 Z,v=.agg (JL r.1 U)∧rU W U r.1∧l=(kL1 r.2 b2 a2 Z b8 b10)∧Q r):=by
 refine Fun.ee func203 ntmps203 r (.F (.al KJ r λ_=>.V 19 3 r (.I EJ .p1 r (.G 1 r ?_))));have⟨i,b,c,O⟩:=O;refine .AG .p2 (CS c) λE F=>?_;cases F;refine .u BE D3 r r i (BG c i) r r (.lo1 (j:=0) AM .p2 c r r r r r (.G 1 r (.V 51 3 r (.I isAgg194 .p1 r (.G 1 r (.lookM (k:=b) (El:=G5) (ag:=true) (zv:=.agg #[vi 0,vi 0,vi 0,vi 0,vi 0,vi 0,.slice none 0 0,.slice none 0 0,.slice none 0 0,vi 0,.bool false]) (z:=({ Kind:=0,From:=0,To:=0,Seq:=0,Round:=0,Vec:=CJ,Sums:=([]:List BM),Triples:=([]:List A2),N:=0,Over:=false }:AO)) (K2 nQ) qT KJ ⟨[vi 0,vi 0,vi 0,vi 0,vi 0,vi 0,.slice none 0 0,.slice none 0 0,.slice none 0 0,vi 0,.bool false],⟨((_,_),(_,_),(_,_)),r,⟨(.nil _ _ _),(.nil _ _ _),(.nil _ _ _)⟩⟩,.a⟩ .p3 r r O r r λ_ m _ O q t=>?_))))));obtain⟨h,rfl,e⟩:=q;cases t;refine .al KJ r λ_=>?_;refine .R CV .z r (.V 115 4 r (.I EJ .p2 r (.G 3 r ?_)));refine .cS (.f call202 r) (.o [3] r) r (SZ (I:=I) (p2:=some ⟨E,0,none⟩) (c3:=c4) O:) λ_ _ _ d x=>?_;obtain⟨p,rfl,rfl,O⟩:=x;have e:=d.u1 e;refine .rn 6 r (.G 2 r (.s1 aB .p3 r (.L 113 r (.B (.M 3 r (.I isAgg198 .p3 r (.G 1 r (.lookM (k:=b) (El:=B0) (ag:=false) (zv:=vi 0) (z:=0) (K2 nQ) AaC jX ⟨[vi 0],r,.s⟩ .p5 r r O r r λ_ g _ O y A=>?_))))))));cases y;cases A;refine .G 1 r (.updM (k:=b) (El:=B0) (ag:=false) (v:=(A5 (g - 1))) (K2 nQ) AaC .p5 r r r ⟨[vi (A5 (g - 1))],r,.s⟩ (.V 113 3 r (.I isAgg198 .p3 r (.G 1 r (.lookM (k:=b) (El:=B0) (ag:=false) (zv:=vi 0) (z:=0) (K2 nQ) AaC jX ⟨[vi 0],r,.s⟩ .p5 r r O r r λ_ _ _ O B C=>?_)))));cases B;cases C;refine .D 1 17592186044529 r (.A r O (λD O=>?_) λD O=>?_)
 . refine .M 3 r (.I isAgg198 .p3 r (.G 1 r (.delM (k:=b) (K2 nQ) AaC r .p5 r r (.L 113 r (.C (.G 3 r (.I isAgg194 .p3 r (.G 1 r (.delM (k:=b) (K2 nQ) qT r .p4 r r ?_)))))))));exact .ns 81 r (.S GF CV .p1 r (.R CV .p2 r (.L 17 r (.drop .p1 (.J (DZ r (.w GF CV r .p1 r .n) d (.o [2,0,1,1] r) ⟨(m,({ o0 with row:=p,by_:=(FK b o0.by_),often:=(FK b (DY b (A5 (g - 1)) o0.often)) }:BR)),h,_,_,r,e,r,O⟩))))))
 exact .P 81 r (.F (.S GF CV .p1 r (.R CV .p2 r (.L 17 r (.drop .p1 (.J (DZ r (.w GF CV r .p1 r .n) d (.o [2,0,1,1] r) ⟨(m,({ o0 with row:=p,often:=(DY b (A5 (g - 1)) o0.often) }:BR)),h,_,_,r,e,r,O⟩)))))))
theorem fQ {o0 a0 Q} (U:KH o0 a0 Q) :
  Fun prog 156 #[vp b2,vi a0] I (kL1 o0 b2 p3 c4 b8 b10) (λW v l=>∃ r V a2 Z,v=.tuple #[.agg (JL r.1 V),.bool r.2.1,vi r.2.2.1]∧rU W V r.1∧l=(kL1 r.2.2.2 b2 a2 Z b8 b10)∧Q r):=by
 refine Fun.ee func156 ntmps156 r ?_;refine .F (.al KJ r λ_=>?_);refine .D 2 19 r (.B (.M 2 r ?_));refine .cS (.f call201 r) (.o [1,1,1,1] r) r (nJ (I:=I) (b2:=b2) (p3:=p3) (c4:=c4) (b8:=b8) (b10:=b10) U:) λ_ J _ b B=>?_;obtain⟨x,rfl,rfl,U⟩:=B;refine .rn 5 r (.D 1 147 r (.B (.ownF .p1 λi=>?_)));refine .dr AsV 16 (.K 3 r ?_);refine D5 U (λc U=>?_) λc U=>?_
 . rw[c];exact .K 13 r (.e2 16 (.L 134217875 r (.Q r r (.F (.bd KJ ZR mE r (.G 1 r (.R CV .p4 r (.D 2 113 r (.J (DZ r (.w GF CV r .p4 r (.t r (.t r .n))) b (.o W0 r) ⟨(({ Kind:=0,From:=0,To:=0,Seq:=0,Round:=0,Vec:=CJ,Sums:=([]:List BM),Triples:=([]:List A2),N:=0,Over:=false }:AO),false,x,o0),((_,_),(_,_),(_,_)),_,_,r,⟨(.nil _ none 0),(.nil _ none 0),(.nil _ none 0)⟩,r,U⟩))))))))))
 rw[c];refine .K 3 r (.h r (.O r (.I EJ .z r .mk)) (.K 1 r ?_));have⟨y,_,d,U⟩:=U;have⟨K,L⟩:=i (CS d);cases L;refine .h r (.O r (.u BE D3 r r y (BG d y) r r .mk)) (.h r (.O r (.lo1 (j:=0) AM .p1 d r r r r r .mk)) (.K 3 r (.h r (.O r (.I AM .z r .mk)) (.K 2 r (.e2 16 (.L 134217875 r (.A r U (λC U=>?_) λC U=>?_)))))))
 . exact .F (.bd KJ ZR mE r (.G 1 r (.R CV .p4 r (.D 2 113 r (.J (DZ r (.w GF CV r .p4 r (.t r (.t r .n))) b (.o W0 r) ⟨(({ Kind:=0,From:=0,To:=0,Seq:=0,Round:=0,Vec:=CJ,Sums:=([]:List BM),Triples:=([]:List A2),N:=0,Over:=false }:AO),false,x,o0),((_,_),(_,_),(_,_)),_,_,r,⟨(.nil _ none 0),(.nil _ none 0),(.nil _ none 0)⟩,r,U⟩))))))
 refine .P 19 r (.M 2 r ?_);refine .cS (.f call203 r) (.o W0 r) r (jU (I:=J) (b2:=b2) (p3:=some ⟨K,0,none⟩) (c4:=c4) (b8:=b8) (b10:=b10) U:) λ_ _ _ E F=>?_;obtain⟨a,_,_,_,rfl,g,rfl,U⟩:=F;have e:=E.u1 b;refine .rn 5 r (.al KJ r λ_=>.R CV .z r (.L 273 r (.B (.B (.dr wC 7 (.K 1 r (.X AM 0 r (.K 3 r (.X AM 1 r (.K 1 r (.e2 7 (.L 549755814161 r (.A r U (λk U=>?_) λk U=>?_)))))))))))))
 . exact .F (.bd KJ ZR mE r (.R CV .p5 r (.D 2 113 r (.drop .z (.J (DZ r (.w GF CV r .p4 r (.t r (.t r .n))) e (.o W0 r) ⟨(({ Kind:=0,From:=0,To:=0,Seq:=0,Round:=0,Vec:=CJ,Sums:=([]:List BM),Triples:=([]:List A2),N:=0,Over:=false }:AO),false,0,a.2),((_,_),(_,_),(_,_)),_,_,r,⟨(.nil _ none 0),(.nil _ none 0),(.nil _ none 0)⟩,r,U⟩))))))
 refine .P 273 r (.M 3 r (.I AM .p1 r (.G 3 r (.s1 D3 .p1 r (.ns 273 r (.S GF CV .z r ?_))))));refine .ca call199 r (wI g U:) λ_ _ p q=>?_;obtain⟨G,s,rfl,H,U⟩:=q;have⟨u,g⟩:=p.u2 e g;exact .R CV .p5 r (.D 2 113 r (.drop .z (.J (DZ r (.w GF CV r .p4 r (.t r (.t r .n))) u (.o W0 r) ⟨(G,true,0,({ room:=a.2.room,row:=a.2.row,by_:=a.2.by_,often:=a.2.often,sent:=a.2.sent,taken:=A5 (a.2.taken+1) }:BR)),s,_,_,r,H,r,U⟩))))
theorem jV {o0 a0 a1 Q} (D:PW o0 a0 a1 Q) :
  Fun prog 156 #[.pointer (mkA a0),vi a1] I [CX BV o0] (λO v l=>∃ r gh2,v=.tuple #[.agg (JL r.1 gh2),.bool r.2.1,vi r.2.2.1]∧rU O gh2 r.1∧l=[CX BV r.2.2.2]∧Q r):=by
 rcases a0 with _ | b
 . have D:=D.1 r;exact D.elim
 have⟨_,V,D⟩:=D.2 b rfl;refine Fun.bank V (λh _=>fQ (b2:=b) (p3:=h.1) (c4:=h.2.1) (b8:=h.2.2.1) (b10:=h.2.2.2)  D) ?_;rintro h O v l _ ⟨J,gh2,a,c,rfl,d,rfl,U⟩;exact⟨(a,c,h.2.2.1,h.2.2.2),J.2.2.2,[],r,tv,(J.1,J.2.1,J.2.2.1,(b,J.2.2.2) :: FK b o0),gh2,r,d,r,U⟩
theorem UN {o0 Q} (h:WE I gn3 o0) (J:HT o0 Q) :
  Fun prog 204 #[vp b2] I (UT o0 b2 gn3 p5 c6 b13 p8 c9 b16 b18) (λ_ v l=>∃ r,v=vi r∧l=(UT o0 b2 gn3 p5 c6 b13 p8 c9 b16 b18)∧Q r):=by
 refine Fun.ee func204 ntmps204 r (.F (.D 1 1 r (.B (.M 1 r (.eqNilP Aa9 r r r r (.L 17 r (.Z r r (.P 1 r (.B (.dr Aj2 12 (.K 5 r (.X AM 0 r (.K 4 r (.X AM 0 r (.Y r ?_)))))))))))))));refine .cS (.f call234 r) (.o UH r) r (DV (b2:=b2) (p5:=p5) (c6:=c6) (b13:=b13) (p8:=p8) (c9:=c9) (b16:=b16) (b18:=b18) h J:) λ_ _ _ a c=>?_;obtain⟨d,rfl,rfl,J⟩:=c;have h:=a.u1 h;exact .rx 6 r (.q 6 r tv (.e2 12 (.D 1 5 r (.q1 results204 a UH r ⟨d,r,r,J⟩))))
theorem UZ {o0 a0 Q} (O:WE I gn3 o0) (J:G2 o0 a0 Q) :
  Fun prog 241 #[vp b2,vi a0] I (UT o0 b2 gn3 p5 c6 b13 p8 c9 b16 b18) (λ_ v l=>∃ r,v=vi r∧l=(UT o0 b2 gn3 p5 c6 b13 p8 c9 b16 b18)∧Q r):=by
 refine Fun.ee func241 ntmps241 r (.M 1 r (.V 3 4 r (.I AM .z r (.D 1 35 r (.B (.dr [0,1,2,3,4,5,6,8,9,10,11,12,13,14,15,16,17,18,7,19,20] 21 (.K 5 r (.X AM 0 r (.K 6 r (.X AM 0 r (.K 4 r (.X AM 0 r (.Y r (.v call144 (HW (I:=I) J:) r λa J=>?_))))))))))))));refine .q 6 r (.W r (.I AM .z r .mk) (.j 4 r r (.W r (.I AM .z r .mk) (.j 5 r r tv)))) (.Y r (.v call144 (HW (I:=I) J:) r λb J=>?_));refine .q 6 r tv (.h r (.maxI r r r r .mk) (.e2 21 (.D 1 99 r (.B (.dr [0,1,2,3,4,5,6,7,9,10,11,12,13,14,15,16,17,18,19,20,8,21,22] 23 (.K 5 r (.X AM 0 r (.K 7 r (.X AM 0 r (.K 4 r (.X AM 0 r (.K 1 r (.Y r (.v call144 (HW (I:=I) J:) r λc J=>?_))))))))))))));refine .q 6 r (.j 1 r r (.W r (.I AM .z r .mk) (.j 4 r r (.W r (.I AM .z r .mk) (.j 5 r r tv))))) (.Y r (.v call144 (HW (I:=I) J:) r λd J=>?_));exact .q 6 r tv (.h r (.minI r r r r .mk) (.e2 23 (.G 1 r (.V 193 3 r (.maxI r r r r (.D 1 17 r (.q1 results241 rf UH r ⟨(if (A5 ((if d<c then d else c) - (if b > a then b else a))) > 0 then A5 ((if d<c then d else c) - (if b > a then b else a)) else 0),r,r,J⟩)))))))
theorem UO {o0 a0 a1 Q} (O:WE I gn3 o0) (W:rU I gh19 a0) (J:EE o0 a0 a1 Q) :
  Fun prog 205 #[vp b2,.agg (JL a0 gh19),.agg (G6 a1).toArray] I (UT o0 b2 gn3 p5 c6 b13 p8 c9 b16 b18) (λZ v l=>∃ r d7 e8 e6 e9 e7,v=.bool r.1∧WE Z d7 r.2∧l=(UT r.2 b2 d7 e8 e6 b13 e9 e7 b16 b18)∧Q r):=by
 refine Fun.ee func205 ntmps205 r ?_;refine .F (.bx r λ_=>?_);refine .bx r λ_=>?_;refine .D 1 49 r (.B (.dr [0,1,2,3,9,4,5,6,7,8,999,10] 11 (.h r (.S GF CV .p1 r .mk) (.K 2 r (.X AM 0 r (.aP CC r (.Y r ?_)))))));refine .cS (.f call241 r) (.o [2,2,2,2,2,2] r) r (UZ (b2:=b2) (p5:=p5) (c6:=c6) (b13:=b13) (p8:=p8) (c9:=c9) (b16:=b16) (b18:=b18) O J:) λ_ _ _ P c8=>?_;obtain⟨_,rfl,rfl,J⟩:=c8;have⟨O,W⟩:=P.u2 O W;refine .rx 8 r (.q 8 r (.W r (.S GF CV .p7 r .mk) tv) (.Y r ?_));refine .ca call240 r (ZW W J:) λ_ _ d1 d2=>?_;obtain⟨D,d9,e0,rfl,e1,J⟩:=d2;have⟨R,O,W⟩:=d1.u3 P O W;refine .q 8 r tv (.K 3 r (.b r λ_=>DrawD.nop (.Y r λ{ex}=>.R AQ .p8 r (.P 9 r r r (.j 1 r r tv) (.e2 11 (.D 1 433 r (.B (.B (.dr AxG 12 (.K 3 r (.X isAgg191 0 r (.K 1 r ?_))))))))))));refine .X AM 6 r (.aP CC r (.Y r λ{ex}=>.lookM2 (k:=a1.i) (El:=fA) (ag:=true) (zv:=.agg #[vi 0,.slice none 0 0]) (z:=CJ) (K2 nQ) underlying191 CC ⟨[vi 0,.slice none 0 0],⟨_,_,r,(.nil _ _ _)⟩,.a⟩ .p2 r r J r r λ_ _ _ _ J T d8=>?_));obtain⟨_,_,rfl,_⟩:=T;cases d8;refine .q 9 r tv (.K 3 r (.b r λ_=>DrawD.nop (.Y r (.R AQ .p9 r (.P 10 r r r (.j 1 r r tv) (.e2 12 (.D 1 1457 r (.drop .p9 (.B (.dr [0,1,2,3,4,5,6,7,8,9,10,11,12,13,14,15,16,17,18,19,20,21,22,23,24,25,26] 27 (.K 2 r ?_)))))))))));refine D5 J (λF J=>?_) λF J=>?_
 . exact J.elim
 rw[F];refine .K 4 r ?_;refine D5 J (λG J=>?_) λG J=>?_
 . exact J.elim
 rw[G];refine .K 4 r (.h r (.O r (.I AM .z r .mk)) (.K 3 r ?_));refine D5 J (λH J=>?_) λH J=>?_
 . exact J.elim
 rw[H];refine .K 1 r (.h r (.O r (.I AM .p6 r .mk)) (.K 3 r ?_));refine D5 J (λd0 J=>?_) λd0 J=>?_
 . exact J.elim
 rw[d0];refine .K 1 r (.h r (.O r (.I AM .p7 r .mk)) (.K 3 r (.h r (.O r (.I AM .z r .mk)) (.K 2 r (.e2 27 (.L 2305843009213694113 r (.drop .p7 (.A r J (λe3 J=>?_) λe3 J=>?_))))))))
 . exact J.elim
 refine .P 161 r (.B (.dr wC 7 (.K 3 r (.X isAgg191 0 r (.K 1 r (.X AM 6 r (.h r (.S BK AQ .p7 r .mk) (.e2 7 (.updM (k:=a1.i) (El:=fA) (ag:=true) (v:=D.1) (K2 nQ) underlying191 .p2 r r r ⟨[vi D.1.N,.slice d9 D.1.Items.length e0],⟨_,_,r,e1⟩,.a⟩ ?_)))))))));refine .L 1 r (.drop .p6 (.drop .p6 (.B (.B (.dr nl9 11 (.K 3 r (.X isAgg191 0 r (.h r (.lenM underlying191 r .p2 r r r .mk) (.K 4 r (.X AM 0 r (.K 1 r (.e2 11 (.L 604462909807314587353089 r (.A r J (λe4 J=>?_) λe4 J=>?_))))))))))))))
 . exact .F (.D 1 65 r (.q1 results205 R UH r ⟨(true,({ o0 with shares:=(DY a1.i D.1 o0.shares) }:A1)),gn3,_,_,_,_,r,O,r,J⟩))
 refine .P 1 r (.F (.D 1 2049 r (.B (.M 4 r (.I AM .z r (.D 1 58028439341502200385898497 r (.E (.own0 fA 235 (.lx J [84,0] nl6 r (λj E l (t,u)=>λc w=>∃ y A,j ⟨159,[],none⟩ (λZ=>True) ((11,.slice y t.length A) :: (85,vi u) :: E) (OwnSl fA 235 y A t :: l) c w) (λc w U V=>⟨_,_,jf rf tv [0,0,0,0,0,0,0] r U V⟩) ?_)))))))));rintro⟨t,u⟩ _ J c w ⟨y,A,_,x,_,a7,c1⟩;have⟨X,O⟩:=x.u2 R O;refine Cod.at a7 c1 (.F (.D 1 135399691796838467567093761 r (.B (.A r J (λY J=>?_) λY J=>?_))))
 . refine .P 58028439341502200385898497 r (.B (.E (.F (.D 2 58028439341502200385902593 r (.C (.G 4 r (.I isAgg191 .p1 r (.G 1 r (.lookM (k:=u) (El:=fA) (ag:=true) (zv:=.agg #[vi 0,.slice none 0 0]) (z:=CJ) (K2 nQ) underlying191 CC ⟨[vi 0,.slice none 0 0],⟨_,_,r,(.nil _ _ _)⟩,.a⟩ .p3 r r J r r λ_ S _ J e5 a2=>?_)))))))));obtain⟨_,_,rfl,d3⟩:=e5;cases a2;refine .bs 1 qU AQ CC r λ_=>?_;have⟨a3,J⟩:=J;exact .ap (ys:=[S]) .p1 qU qU Ay5 r (.box .z (.one ⟨_,_,r,d3⟩) r) a3 λ_ _=>.D 1 58028439341502200385898497 r (.drop .p1 (.C (.G 2 r (.H λc w U V=>⟨_,J,_,_,jf x tv [0,0,0,0,0,0,0] r U V⟩))))
 refine .en 2049 r (.B (.dr [0,1,2,3,4,5,6,7,8,9,10,11,12,13,14,15,16,17,18,19,20,25,21,22,23,24,999,26] 27 (.K 4 r (.X AM 1 r (.K 4 r (.X AM 1 r (.K 4 r (.X AM 1 r (.K 4 r (.X AM 1 r (.K 1 r (.aP CC r (.Y r (.y .z λ_ a4 B=>?_))))))))))))));have⟨a5,a6,O⟩:=a4.u3 X x O;refine .ca call242 r (AgY B J:) λ_ _ a8 a9=>?_;obtain⟨_,_,_,rfl,e,J⟩:=a9;have⟨b0,b1,O,B⟩:=a8.u4 a5 a6 O B;refine .q 6 r tv (.K 3 r (.b r λ_=>DrawD.nop (.Y r (.R AQ .p6 r (.P 7 r r r (.j 1 r r tv) (.e2 27 (.D 1 8193 r (.B (.M 4 r (.I AM .z r (.D 1 510423550381407695195061911147652325377 r (.E (.lx J [127,13,0] [6] r (λj E l (d,C)=>λc w=>∃ m n p q s,j ⟨159,[],none⟩ (λZ=>WE Z m d) ((128,vi C) :: E) (pc b2 (FU d m n p b13 q s b16 b18) 196 :: QSl G5 238 n p d.out :: OwnSl ET 314 q s d.sums :: OwnMap vi fA true b13 d.shares :: OwnMap vi eB false b16 d.came :: OwnMap vi G5 true b18 d.votes :: l) c w) (λc w U V=>⟨gn3,_,_,_,_,jf rf O Av6 r U V⟩) ?_)))))))))))));rintro⟨d,C⟩ _ J c w ⟨m,n,p,q,s,_,K,g,a7,c1⟩;have⟨d5,b3,e⟩:=K.u3 b0 b1 e;refine Cod.at a7 c1 (.F (.D 1 1190988284223284622121811126011188748289 r (.B (.A r J (λb4 J=>?_) λb4 J=>?_))))
 . refine .P 510423550381407695195061911147652325377 r (.B (.E (.F (.D 2 510423550381407695195061911147652358145 r (.dr [0,1,2,3,4,5,6,7,9,10,11,12,13,8,14,15] 16 (.K 7 r (.X AM 0 r (.K 3 r (.X AM 0 r ?_)))))))));refine .h r (.S BK AQ .p6 r .mk) (.Y r ?_);refine .cS (.f call234 r) (.o wD r) r (DV (b2:=b2) (p5:=n) (c6:=p) (b13:=b13) (p8:=q) (c9:=s) (b16:=b16) (b18:=b18) g J:) λ_ d4 _ b6 b7=>?_;obtain⟨_,rfl,rfl,J⟩:=b7;have⟨b8,b9,c0,e,g⟩:=b6.u5 d5 b3 K e g;refine .rx 7 r (.q 7 r (.W r (.S BK AQ .p6 r .mk) (.W r (.I AM .z r .mk) (.j 4 r r tv))) (.h r (.bd KJ ZR mE r .mk) (.Y r ?_)));refine .cS (.f call192 r) (.o UH r) r (DD (I:=d4) (gh19:=((_,_),(_,_),(_,_))) (b2:=b2) (gn3:=m) (p5:=n) (c6:=p) (b13:=b13) (p8:=q) (c9:=s) (b16:=b16) (b18:=b18) g ⟨e,(.nil _ none 0),(.nil _ none 0)⟩ J:) λ_ _ _ c2 c3=>?_;obtain⟨_,c4,_,_,_,_,rfl,d6,rfl,J⟩:=c3;have⟨_,_,c5,e,g⟩:=c2.u5 b8 b9 c0 e g;exact .rx 7 r (.q 7 r tv (.e2 16 (.L 510423550381407695195061911147652325377 r (.C (.G 2 r (.H λc w U V=>⟨_,J,c4,_,_,_,_,jf c5 d6 Av6 r U V⟩))))))
 exact .en 1 r (.drop .p6 (.M 3 r (.I isAgg191 .z r (.clearM underlying191 r .p3 r (.V 1 3 r (.I AM .z r (.G 3 r (.s1 D3 .z r (.V 1 1 r (.L 65 r (.q1 results205 d5 wD r ⟨(true,({ d with share:=A5 (d.share+1),shares:=([]:List (Int×Vec)) }:A1)),m,_,_,_,_,r,g,r,J⟩)))))))))))
theorem UP {o0 a0 Q} (V:WE I gn3 o0) (O:FM o0 a0 Q) :
  Fun prog 243 #[vp b2,vi a0] I (UT o0 b2 gn3 p5 c6 b13 p8 c9 b16 b18) (λ_ v l=>∃ r,v=.agg (zH r).toArray∧l=(UT o0 b2 gn3 p5 c6 b13 p8 c9 b16 b18)∧Q r):=by
 refine Fun.ee func243 ntmps243 r (.F (.al zeroValue225 r λ_=>.L 19 r (.B (.M 3 r (.I isAgg57 .p1 r (.ln AfH r (.D 1 1043 r (.A r O (λa O=>?_) λa O=>?_))))))))
 . exact .F (.bd zeroValue225 underlying225 Ay4 r (.R sizeOf225 .z r (.L 17 r (.J (DZ r (.w isAgg225 sizeOf225 r .z r .n) rf (.o nl6 r) ⟨({ Way:=0,Form:=0 }:HR),r,r,O⟩)))))
 refine .P 19 r (.B (.ownF .p4 λ_=>.dr Aj5 14 (.K 3 r (.X isAgg57 1 r (.K 5 r (.X isAgg57 1 r (.h r (.ln AfH r .mk) ?_)))))));have⟨b,O⟩:=O;refine .h r (.rem r r b r r .mk) ?_;have⟨e,f,c,_,_,g,d,O⟩:=V.2.1.ix O;exact .h r (.U AfH sizeOf225 g e c r .mk) (.h r (.ldW isAgg225 sizeOf225 d r r r r .mk) (.e2 14 (.R sizeOf225 .z r (.L 17 r (.J (DZ r (.w isAgg225 sizeOf225 r .z r .n) rf (.o nl6 r) ⟨f,r,r,O⟩))))))
theorem T0 {o0 a0 a1 Q} (V:WE I gn3 o0) (W:rU I gh19 a0) (J:E0 o0 a0 a1 Q) :
  Fun prog 206 #[vp b2,.agg (JL a0 gh19),.agg (G6 a1).toArray] I (UT o0 b2 gn3 p5 c6 b13 p8 c9 b16 b18) (λI_ v l=>∃ r Z b0 a8 b1 a9,v=.bool r.1∧WE I_ Z r.2∧l=(UT r.2 b2 Z b0 a8 b13 b1 a9 b16 b18)∧Q r):=by
 refine Fun.ee func206 ntmps206 r ?_;refine .F (.bx r λ_=>?_);refine .bx r λ_=>?_;refine .D 1 49 r (.B (.dr AxG 12 (.h r (.S GF CV .p1 r .mk) (.K 4 r (.X AM 2 r (.aP CC r (.Y r ?_)))))));refine .ca call240 r (ZW W J:) λ_ _ g K=>?_;obtain⟨_,_,_,rfl,d,J⟩:=K;have⟨V,W⟩:=g.u2 V W;refine .q 8 r tv (.K 3 r (.b r λ_=>DrawD.nop (.Y r (.R AQ .p8 r (.P 9 r r r (.j 1 r r tv) (.e2 12 (.D 1 433 r (.B (.B (.dr [0,1,2,3,4,5,6,7,8,9,10,11,12,13,14,15,16,17,18,19,20,21,22,23,24,25] 26 (.K 3 r ?_)))))))))));refine D5 J (λi J=>?_) λi J=>?_
 . exact J.elim
 rw[i];refine .K 1 r (.h r (.O r (.I AM .z r .mk)) (.K 3 r ?_));refine D5 J (λj J=>?_) λj J=>?_
 . exact J.elim
 rw[j];refine .K 1 r (.h r (.O r (.I AM .z r .mk)) (.K 4 r (.h r (.O r (.I AM .p2 r .mk)) (.K 3 r ?_))));refine D5 J (λk J=>?_) λk J=>?_
 . exact J.elim
 rw[k];refine .K 1 r (.h r (.O r (.I AM .p1 r .mk)) (.K 3 r (.h r (.O r (.I AM .p2 r .mk)) (.K 2 r (.e2 26 (.L 562949953421457 r (.drop .z (.A r J (λN J=>?_) λN J=>?_))))))))
 . exact J.elim
 refine .P 145 r (.M 2 r (.I AM .z r ?_));refine .cS (.f call243 r) (.o nl6 r) r (UP (b2:=b2) (p5:=p5) (c6:=c6) (b13:=b13) (p8:=p8) (c9:=c9) (b16:=b16) (b18:=b18) V J:) λ_ a2 _ P R=>?_;obtain⟨a3,rfl,rfl,J⟩:=R;have⟨S,V,W,d⟩:=P.u4 g V W d;refine .rn 8 r (.al zeroValue225 r λ_=>.R sizeOf225 .z r (.L 657 r (.B (.dr [0,1,2,3,4,5,6,8,9,10,11,12,13,14,15,16,17,18,20,21,23,7,19,22,999] 24 (.K 4 r (.X fF 1 r (.K 1 r (.X AM 7 r (.K 3 r (.h r (.AA CW BL r .p1 (.o 5 r) r r r .mk) ?_))))))))));refine .K 3 r (.h r (.AA H9 EG r .p1 (.o 6 r) r r r .mk) (.K 1 r (.X isAgg223 0 r (.h r (.S BK AQ .p8 r .mk) (.K 1 r (.X isAgg222 0 r (.aP zeroValue329 r (.Y r (.v call244 (cQ (I:=a2) J:) r λa4 J=>?_)))))))));refine .q 9 r (.W r (.I isAgg222 .z r .mk) (.j 1 r r (.W r (.S BK AQ .p8 r .mk) (.W r (.I isAgg223 .z r .mk) (.j 1 r r (.W r (.AA H9 EG r .p1 (.o 6 r) r r r .mk) (.j 3 r r (.W r (.AA CW BL r .p1 (.o 5 r) r r r .mk) (.j 3 r r tv))))))))) (.Y r ?_);refine .ca call245 r (yE d J:) λ_ U n p=>?_;obtain⟨a5,q,rfl,e,J⟩:=p;have⟨s,V,W,d⟩:=n.u4 S V W d;refine .q 9 r (.W r (.I isAgg222 .z r .mk) (.j 1 r r (.W r (.AA H9 EG r .p1 (.o 6 r) r r r .mk) (.j 3 r r (.W r (.AA CW BL r .p1 (.o 5 r) r r r .mk) (.j 3 r r tv)))))) (.h r (.bd zeroValue329 underlying329 Ay7 r .mk) (.b r λ_=>DrawD.nop ?_));refine .e2 24 (.R sizeOf329 .p9 r (.L 1041 r (.drop .z (.drop .p7 (.F (.S isAgg329 sizeOf329 .p7 r ?_))))));refine .ca call246 r (yN (I:=U) (gk1:=(gn3.2.2.1,gn3.2.2.2.1,q,(none,0))) (a0:=({ Ring:=a4,Rows:=o0.rows,Cols:=o0.cols,X:=a5,Set:=([]:List Int),Others:=true,Way:=a3.Way }:GP)) ⟨V.2.2.1,V.2.2.2.1,e,(.nil _ none 0)⟩ J:) λ_ _ u w=>?_;obtain⟨_,_,_,rfl,c,J⟩:=w;have⟨x,V,W,e⟩:=u.u4 s V W e;refine .D 7 2065 r (.drop .p7 (.M 3 r (.I AM .z r (.G 3 r (.s1 D3 .z r (.L 2065 r (.B (.dr [0,1,2,3,4,5,6,8,9,10,7,11,12] 13 (.K 6 r (.X AM 0 r (.K 1 r (.X AM 6 r (.K 1 r (.Y r ?_))))))))))))));refine .cS (.f call234 r) (.o UH r) r (DV (o0:=({ o0 with spread:=A5 (o0.spread+1) }:A1)) (b2:=b2) (p5:=p5) (c6:=c6) (b13:=b13) (p8:=p8) (c9:=c9) (b16:=b16) (b18:=b18) V J:) λ_ a6 _ A B=>?_;obtain⟨_,rfl,rfl,J⟩:=B;have⟨C,V,W,c⟩:=A.u4 x V W c;refine .rx 7 r (.q 7 r (.j 1 r r (.W r (.I AM .p6 r .mk) (.j 2 r r tv))) (.h r (.bd KJ ZR mE r .mk) (.Y r ?_)));refine .cS (.f call192 r) (.o UH r) r (DD (I:=a6) (o0:=({ o0 with spread:=A5 (o0.spread+1) }:A1)) (gh19:=((_,_),(_,_),(_,_))) (b2:=b2) (gn3:=gn3) (p5:=p5) (c6:=c6) (b13:=b13) (p8:=p8) (c9:=c9) (b16:=b16) (b18:=b18) V ⟨(.nil _ none 0),c,(.nil _ none 0)⟩ J:) λ_ _ _ E F=>?_;obtain⟨Y,G,_,_,_,_,rfl,a7,rfl,J⟩:=F;have⟨H,V,W,c⟩:=E.u4 C V W c;exact .rx 7 r (.q 7 r tv (.e2 13 (.L 1 r (.drop .p6 (.F (.D 1 65 r (.q1 results206 H UH r ⟨(true,Y),G,_,_,_,_,r,a7,r,J⟩)))))))
theorem UQ {o0 a0 Q} (Z:WE I gn3 o0) (W:RepSl ET I p19 c20 a0) (J:FN o0 a0 Q) :
  Fun prog 247 #[vp b2,.slice p19 a0.length c20] I (UT o0 b2 gn3 p5 c6 b13 p8 c9 b16 b18) (λ_ v l=>∃ r,v=.bool r∧l=(UT o0 b2 gn3 p5 c6 b13 p8 c9 b16 b18)∧Q r):=by
 refine Fun.ee func247 ntmps247 r (.M 1 r (.V 3 1 r (.L 35 r (.B (.M 1 r (.ln EK r (.D 1 1825 r (.E (.lp J [9,8,0] UH r (λj E l (g,c)=>j ((5,vi g) :: (10,vi c) :: E) l) (ji rf UH r) ?_)))))))));rintro⟨g,c⟩ _ J;refine jq r λ_ a=>?_;have⟨Z,W⟩:=a.u2 Z W;refine .F (.D 1 3873 r (.B (.A r J (λi J=>?_) λi J=>?_)))
 . refine .P 1825 r (.B (.E (.F ?_)));have⟨n,o,d,_,_,k,e,J⟩:=W.ix J;refine .U EK FG k n d r (.ldW isAgg314 FG e r r r r (.al gE r λ_=>.R FG .z r (.L 1953 r (.B (.B (.dr Aj5 14 (.K 1 r (.X AM 0 r (.K 3 r ?_)))))))));refine D5 J (λb J=>?_) λb J=>?_
   . rw[b];exact .K 9 r (.e2 14 (.L 134219649 r (.Q r r (.F (.D 1 17 r (.drop .z (.q1 results247 a UH r ⟨false,r,r,J⟩)))))))
   rw[b];refine .K 1 r (.h r (.O r (.I AM .z r .mk)) (.K 4 r (.h r (.O r (.I AM .p1 r .mk)) (.K 2 r (.e2 14 (.L 134219649 r (.A r J (λf J=>?_) λf J=>?_)))))))
   . exact .F (.D 1 17 r (.drop .z (.q1 results247 a UH r ⟨false,r,r,J⟩)))
   exact .P 1921 r (.C (.G 1 r (.I AM .z r (.D 1 1825 r (.drop .z (.C (.G 2 r (.H (je (o.At,A5 (c+1)) J a UH r)))))))))
 exact .en 1 r (.F (.D 1 17 r (.q1 results247 a UH r ⟨true,r,r,J⟩)))
theorem J0 {o0 o1 a0 Q} (J:RepSl EH I p4 c5 o0) (d:DI o0 o1 a0 Q) :
  Fun prog 291 #[.agg (AhN a0).toArray,vp b3,vp b7] I [pc b3 #[.slice p4 o0.length c5] 40,pc b7 #[.bool o1] 4] (λ_ v l=>∃ r,v=.bool r∧l=[pc b3 #[.slice p4 o0.length c5] 40,pc b7 #[.bool o1] 4]∧Q r):=by
 refine Fun.ee func291 ntmps291 r (.F (.bx r λ_=>.D 1 14 r (.B (.dr [0,1,2,4,3,5] 6 (.X P1 1 r (.K 1 r (.X AM 0 r (.X ia4 2 r (.Y r (.v call292 (NG J d:) r λb d=>?_))))))))));exact .q 3 r (.W r (.I ia4 .p2 r .mk) tv) (.h r (.eqB underlying4 r r r r .mk) (.e2 6 (.D 1 22 r (.drop .z (.q1 results291 rf I5 r ⟨(b==o1),r,r,d⟩)))))
theorem LD {o0 o1 o2 Q} (J:RepSl EH I p7 c8 o1) (h:CQ o0 o1 o2 Q) :
  Fun prog 321 #[.slice p4 o0.length c5,.func (.func 291) #[] #[vp b6,vp b10]] I [OwnSl ET 314 p4 c5 o0,pc b6 #[.slice p7 o1.length c8] 40,pc b10 #[.bool o2] 4] (λ_ v l=>∃ r,v=vi r∧l=[OwnSl ET 314 p4 c5 o0,pc b6 #[.slice p7 o1.length c8] 40,pc b10 #[.bool o2] 4]∧Q r):=by
 refine Fun.ee func321 ntmps321 r (.F (.D 1 3 r (.B (.M 1 r (.ln EK r (.D 1 387 r (.E (.lp h xX WZ r (λj E l d=>j ((8,vi d) :: E) l) (ji rf WZ r) ?_))))))));refine λd _ h=>jq r λ_ a=>?_;have J:=a.u1 J;refine .F (.D 1 899 r (.B (.A r h (λg h=>?_) λg h=>?_)))
 . refine .P 387 r (.B (.E (.M 2 r (.V 419 3 r ?_))));have⟨f,_,b,h⟩:=h;refine .AG .z (CS b) λ_ p=>?_;cases p;refine .u EK FG r r f (BG b f) r r (.loA (j:=0) isAgg314 FG .z b r r (.o 3 r) r r r ?_);refine .cS (.c call291 r r) (.o [1,1] r) r (J0 (b3:=b6) (b7:=b10) J h:) λ_ _ _ i k=>?_;obtain⟨_,rfl,rfl,h⟩:=k;have⟨e,J⟩:=i.u2 a J;refine .rn 3 r (.L 65955 r (.A r h (λm h=>?_) λm h=>?_))
   . exact .F (.D 2 19 r (.q1 results321 e [2,0,0] r ⟨d,r,r,h⟩))
   exact .P 387 r (.C (.G 2 r (.H (je (A5 (d+1)) h e [2,0,0] r))))
 exact .en 3 r (.F (.D 1 19 r (.q1 results321 a WZ r ⟨(-1),r,r,h⟩)))
theorem KL {o0 o1 o2 Q} (U:RepSl EH I p7 c8 o1) (O:CO o0 o1 o2 Q) :
  Fun prog 290 #[.slice p4 o0.length c5,.func (.func 291) #[] #[vp b6,vp b10]] I [OwnSl ET 314 p4 c5 o0,pc b6 #[.slice p7 o1.length c8] 40,pc b10 #[.bool o2] 4] (λI_ v l=>∃ r,v=.slice p4 r.length c5∧l=[OwnSl ET 314 p4 c5 r,pc b6 #[.slice p7 o1.length c8] 40,pc b10 #[.bool o2] 4]∧Q r):=by
 refine Fun.ee func290 ntmps290 r ?_;refine .ownCap .z λ_=>?_;refine .M 1 r (.V 3 2 r ?_);refine .cS (.f call321 r) (.o WZ r) r (LD (p4:=p4) (c5:=c5) (b6:=b6) (b10:=b10) U O:) λ_ _ _ g C=>?_;obtain⟨_,rfl,rfl,O⟩:=C;have U:=g.u1 U;refine .rn 3 r (.D 1 35 r (.B (.F (.D 2 4131 r (.A r O (λD O=>?_) λD O=>?_)))))
 . exact .F (.D 2 19 r (.q1 results290 g WZ r ⟨o0,r,r,O⟩))
 refine .P 35 r (.B (.F (.D 3 99 r (.E (.lx O [1] [1,1] r (λj E l (a,b,d)=>λc w=>j ⟨42,[],none⟩ (λI_=>a.length=o0.length) ((0,.slice p4 a.length c5) :: (5,vi b) :: (6,vi d) :: E) (OwnSl ET 314 p4 c5 a :: l) c w) (λc w W Z=>jf rf (by first | exact r | omega | (simp only[QX] at * <;> omega)) WZ r W Z) ?_)))));rintro⟨a,b,d⟩ _ O c w ⟨_,h,_,a2,a3⟩;have⟨i,U⟩:=h.u2 g U;refine Cod.at a2 a3 (.B (.M 2 r (.ln EK r (.D 1 524387 r (.A r O (λt O=>?_) λt O=>?_)))))
 . refine .P 99 r (.B (.E (.M 2 r ?_)));have⟨p,q,e,O⟩:=O;refine .AG .z (CS e) λ_ F=>?_;cases F;refine .u EK FG r r p (BG e p) r r (.loA (j:=0) isAgg314 FG .z e r r (.o 3 r) r r r (.al gE r λ_=>?_));refine .R FG .z r (.V 227 1 r (.S isAgg314 FG .z r ?_));refine .cS (.c call291 r r) (.o [2,2] r) r (J0 (b3:=b6) (b7:=b10) U O:) λ_ _ _ x y=>?_;obtain⟨_,rfl,rfl,O⟩:=y;have⟨_,k,U⟩:=x.u3 i h U;refine .rn 4 r (.D 1 536871139 r (.A r O (λA O=>?_) λA O=>?_))
   . refine .M 2 r (.S isAgg314 FG .p2 r ?_);have⟨s,_,m,O⟩:=O;exact .u EK FG r r s (BG m s) r r (.stOA (j:=0) (v':=q) FG .p3 m r r r (.o r) r r (.rl .p3 [0,30] r (by simp only[QX]) (.L 99 r (.drop .p2 (.C (.D 3 99 r (.C (.G 3 r (.H λc w W Z=>⟨_,O,jf k (by first | exact r | omega | (simp only[QX] at * <;> omega)) [2,0,0] r W Z⟩)))))))))
   exact .P 99 r (.drop .p2 (.C (.G 3 r (.H λc w W Z=>⟨_,O,jf k (by first | exact r | omega | (simp only[QX] at * <;> omega)) [2,0,0] r W Z⟩))))
 refine .en 35 r (.M 2 r ?_);have⟨G,_,_,O⟩:=O;refine .sliceO (L:=b.toNat) (H:=a.length) EK FG r r .z r r (.inr ⟨_,_,r,G,r⟩) (.inl ⟨r,r⟩) (by omega) (by omega) r r (.ownCap .z λn=>.takeSl b.toNat .z (.clearTail (L:=b.toNat) (N:=a.length) .z EK AfF r r r r r r (by simp only[QY]; omega) n (.V 35 2 r ?_)));have⟨_,J,_,O⟩:=O;exact .sliceR EK FG r .z r J (by simp only[QY]; omega) r r (.D 1 19 r (.q1 results290 i WZ r ⟨(a.take b.toNat),r,r,O⟩))
theorem T1 {o0 a0 Q} (O:WE I gn3 o0) (V:E3 o0 a0 Q) :
  Fun prog 249 #[vp b2,vi a0] I (UT o0 b2 gn3 p5 c6 b13 p8 c9 b16 b18) (λI_ v l=>∃ r Z c0 b0 c1 b1,v=.tuple #[]∧WE I_ Z r∧l=(UT r b2 Z c0 b0 b13 c1 b1 b16 b18)∧Q r):=by
 refine Fun.ee func249 ntmps249 r ?_;refine .B (.dr [0,1,2,3,4,5,6,7,8,13,14,9,10,11,12,999,15] 16 (.K 3 r (.h r (.AA QB QA r .z (.o 5 r) r r r .mk) (.K 3 r (.h r (.AA JP DJ r .z (.o 5 r) r r r .mk) (.K 1 r (.a (λb=>vp b) (λb=>pc b #[.slice none 0 0] 40) r r r r (λ_ L W ex=>.alloc1 zeroValue40 r r r λb=>.mk (val:=λb=>vp b) (atom:=λb=>pc b #[.slice none 0 0] 40) W b) (.a (λb=>vp b) (λb=>pc b #[.bool false] 4) r r r r (λ_ L W ex=>.alloc1 zeroValue4 r r r λb=>.mk (val:=λb=>vp b) (atom:=λb=>pc b #[.bool false] 4) W b) (.Y r ?_)))))))));refine .ca call289 r (AdE O.1 O.2.2.2.2.1 V:) λ_ _ g N=>?_;obtain⟨_,_,_,rfl,i,V⟩:=N;have O:=g.u1 O;refine .q 6 r tv (.K 3 r (.b r λa4 a5=>DrawD.nop ?_));refine .Y r ?_;refine .s1 sizeOf40 .p7 r (.P 8 r r r (.j 1 r r tv) (.e2 16 (.s1 sizeOf4 .p6 r (.V 51 3 r (.I JY .z r (.mkFn r r r r ?_))))));refine .cS (.f call290 r) (.o [3,6,5] r) r (KL (p4:=p8) (c5:=c9) (b6:=a5) (b10:=a4) i V:) λ_ a6 _ P R=>?_;obtain⟨_,rfl,rfl,V⟩:=R;have⟨S,O,i⟩:=P.u3 g O i;refine .rn 8 r (.D 1 67 r (.drop .p1 (.drop .p1 (.M 3 r (.s1 ZT .p1 r (.V 67 4 r (.AA JP DJ r .p1 (.o 5 r) r r r (.G 2 r (.R DJ .p1 r ?_)))))))));refine .L 67 r (.B (.dr [0,1,2,3,4,5,7,8,9,10,11,12,17,6,13,14,15,16,999,18] 19 (.K 4 r (.X fF 1 r (.K 5 r (.X AM 1 r (.K 1 r (.aP CC r (.Y r (.v call244 (cQ (I:=a6) V:) r λ_ V=>?_))))))))));refine .q 6 r (.j 1 r r (.W r (.I AM .p1 r .mk) (.j 4 r r tv))) (.Y r (.y .z λ_ U j=>?_));have⟨a7,O⟩:=U.u2 S O;refine .ca call293 r (AgL j V:) λ_ a8 m p=>?_;obtain⟨_,_,_,rfl,c,V⟩:=p;have⟨e,O,j⟩:=m.u3 a7 O j;refine .q 5 r tv (.K 3 r (.b r λ_=>DrawD.nop (.Y r (.R AQ .p5 r (.P 6 r r r (.j 1 r r tv) (.e2 19 (.D 1 387 r (.B (.F (.D 2 72057594037928323 r (.A r V (λq V=>?_) λq V=>?_)))))))))))
 . refine .dr AxE 15 (.K 4 r (.h r (.AA QB QA r .z (.o 5 r) r r r .mk) (.K 3 r (.h r (.AA JP DJ r .z (.o 5 r) r r r .mk) (.K 1 r (.h r (.S BK AQ .p5 r .mk) (.Y r ?_)))))));refine .ca call294 r (yO O.1 O.2.2.2.2.1 c V:) λ_ X t u=>?_;obtain⟨Y,w,rfl,d,V⟩:=u;have⟨x,O,c⟩:=t.u3 e O c;refine .q 6 r (.j 1 r r tv) (.K 2 r (.Y r ?_));refine .R DJ .z r (.P 6 r r r tv (.e2 15 (.L 259 r (.drop .p5 (.C (.G 4 r (.own0 ET 314 ?_)))))));refine .cS (.f call145 r) (.o [1,1,1,0,0,0] r) r (H3 (I:=X) (o0:=({ o0 with aside:=Y,sums:=([]:List BM) }:A1)) (b2:=b2) (gn3:=(gn3.1,gn3.2.1,gn3.2.2.1,gn3.2.2.2.1,gn3.2.2.2.2.1,w)) (p5:=p5) (c6:=c6) (b13:=b13) (p8:=none) (c9:=0) (b16:=b16) (b18:=b18) ⟨O.1,O.2.1,O.2.2.1,O.2.2.2.1,O.2.2.2.2.1,d⟩ V:) λ_ _ _ A B=>?_;obtain⟨a9,C,_,_,_,_,rfl,a1,rfl,V⟩:=B;have⟨D,O,d⟩:=A.u3 x O d;exact .rn 6 r (.H (JR r .n D (.o UH r) ⟨a9,C,_,_,_,_,r,a1,r,V⟩))
 refine .P 259 r (.drop .p5 (.C (.G 4 r (.own0 ET 314 ?_))));refine .cS (.f call145 r) (.o [1,1,1,0,0,0] r) r (H3 (I:=a8) (o0:=({ o0 with aside:=o0.has,sums:=([]:List BM) }:A1)) (b2:=b2) (gn3:=(gn3.1,gn3.2.1,gn3.2.2.1,gn3.2.2.2.1,gn3.2.2.2.2.1,gn3.2.2.2.2.1)) (p5:=p5) (c6:=c6) (b13:=b13) (p8:=none) (c9:=0) (b16:=b16) (b18:=b18) ⟨O.1,O.2.1,O.2.2.1,O.2.2.2.1,O.2.2.2.2.1,O.2.2.2.2.1⟩ V:) λ_ _ _ F G=>?_;obtain⟨a2,H,_,_,_,_,rfl,a3,rfl,V⟩:=G;have⟨J,O⟩:=F.u2 e O;exact .rn 6 r (.H (JR r .n J (.o UH r) ⟨a2,H,_,_,_,_,r,a3,r,V⟩))
theorem T2 {o0 a0 a1 Q} (U:WE I gn3 o0) (V:rU I gh19 a0) (O:E4 o0 a0 a1 Q) :
  Fun prog 207 #[vp b2,.agg (JL a0 gh19),.agg (G6 a1).toArray] I (UT o0 b2 gn3 p5 c6 b13 p8 c9 b16 b18) (λI_ v l=>∃ r Z a8 a6 a9 a7,v=.bool r.1∧WE I_ Z r.2∧l=(UT r.2 b2 Z a8 a6 b13 a9 a7 b16 b18)∧Q r):=by
 refine Fun.ee func207 ntmps207 r (.F (.bx r λ_=>.bx r λ_=>.D 1 49 r (.B (.B (.dr [0,1,2,3,4,5,6,7,8,9,10,11,12,13,14,15,16,17,18,19,20,21,22,23,24,25,26,27,28,29,30,31,32,33,34,35,36,37,38,39,40,41,42,43,44,45,46,47,48,49,50,51,52,53,54] 55 (.K 4 r (.X AM 2 r (.K 2 r ?_))))))));refine D5 O (λc O=>?_) λc O=>?_
 . exact O.elim
 refine .h r (.N r r c (.fo gD 0 r D3 .mk)) (.h r (.N r r c (.I AM .z r .mk)) (.h r (.N r r c (.AD r r r .mk)) (.h r (.N r r c (.nilCheckP r r r .mk)) (.h r (.N r r c (.fo AaB 0 r sizeOf185 .mk)) (.h r (.N r r c (.fo gD 0 r D3 .mk)) (.h r (.N r r c (.I AM .p2 r .mk)) (.h r (.N r r c (.ne r r r r .mk)) (.h r (.pickF r c r r r .mk) (.K 1 r ?_)))))))));refine D5 O (λg O=>?_) λg O=>?_
 . exact O.elim
 refine .h r (.N r r g (.AD r r r .mk)) (.h r (.N r r g (.nilCheckP r r r .mk)) (.h r (.N r r g (.fo AaB 27 r sizeOf61 .mk)) (.h r (.N r r g (.I isAgg61 .p2 r .mk)) (.h r (.N r r g (.ne r r r r .mk)) (.h r (.pickF r g r r r .mk) (.K 1 r ?_))))));refine D5 O (λm O=>?_) λm O=>?_
 . exact O.elim
 refine .h r (.N r r m (.AD r r r .mk)) (.h r (.N r r m (.nilCheckP r r r .mk)) (.h r (.N r r m (.fo AaB 38 r sizeOf4 .mk)) (.h r (.N r r m (.I ia4 .p2 r .mk)) (.h r (.pickF r m r r r .mk) (.K 1 r ?_)))));refine D5 O (λd O=>?_) λd O=>?_
 . exact O.elim
 refine .h r (.N r r d (.fo ZR 4 r D3 .mk)) (.h r (.N r r d (.I AM .p1 r .mk)) (.h r (.N r r d (.AD r r r .mk)) (.h r (.N r r d (.nilCheckP r r r .mk)) (.h r (.N r r d (.fo AaB 26 r D3 .mk)) (.h r (.N r r d (.I AM .p2 r .mk)) (.h r (.N r r d (.add r r r r .mk)) (.h r (.N r r d (.ne r r r r .mk)) (.h r (.pickF r d r r r .mk) (.K 1 r ?_)))))))));refine D5 O (λe O=>?_) λe O=>?_
 . exact O.elim
 refine .h r (.N r r e (.AD r r r .mk)) (.h r (.N r r e (.nilCheckP r r r .mk)) (.h r (.N r r e (.fo AaB 41 r sizeOf193 .mk)) (.h r (.N r r e (.I isAgg193 .p2 r .mk)) (.h r (.N r r e (.fo gD 1 r D3 .mk)) (.h r (.N r r e (.I AM .z r .mk)) (.Y r λ{W}=>?_))))));refine .N r r e (.lookM (k:=a1.j) (El:=eB) (ag:=false) (zv:=.bool false) (z:=false) (K2 nQ) underlying193 zeroValue4 ⟨[.bool false],r,.s⟩ .p6 r r O r r λ_ _ _ O N a2=>?_);cases N;cases a2;refine .q 8 r tv (.h r (.pickF r e r r r .mk) (.K 1 r ?_));refine D5 O (λi O=>?_) λi O=>?_
 . exact O.elim
 refine .h r (.N r r i (.AD r r r .mk)) (.h r (.N r r i (.fo ZR 7 r ZT .mk)) (.h r (.N r r i (.I JY .p1 r .mk)) (.Y r ?_)));refine .N r r i (.cS (.f call247 r) (.o [2,2,2,2,2,2] r) r (UQ (b2:=b2) (p5:=p5) (c6:=c6) (b13:=b13) (p8:=p8) (c9:=c9) (b16:=b16) (b18:=b18) U V.2.1 O:) λ_ Y _ t R=>?_);obtain⟨_,rfl,rfl,O⟩:=R;have⟨U,V⟩:=t.u2 U V;refine .rx 8 r (.q 8 r tv (.h r (.N r r i (.not r r r .mk)) (.h r (.pickF r i r r r .mk) (.e2 55 (.L 2305843009213694001 r (.A r O (λS O=>?_) λS O=>?_))))))
 . exact O.elim
 refine .P 49 r (.B (.dr [0,1,2,3,4,5,6,7,9,10,11,12,13,14,15,8,999,16,17,18,19,20,21,22] 23 (.K 5 r (.X fF 0 r (.K 1 r (.X AM 7 r (.K 3 r (.X JY 0 r (.K 1 r ?_)))))))));refine .X JY 7 r (.a (λb=>.slice (some ⟨b,0,none⟩) 2 2) (λb=>pc b #[.slice p8 o0.sums.length c9,.slice gh19.2.1.1 a0.Sums.length gh19.2.1.2] 192) r r r r (λ_ _ hL W=>.bs 2 qV ZT zeroValue192 r λb=>.mk (val:=λb=>.slice (some ⟨b,0,none⟩) 2 2) (atom:=λb=>pc b #[.slice p8 o0.sums.length c9,.slice gh19.2.1.1 a0.Sums.length gh19.2.1.2] 192) hL b) (.Y r (.v call244 (cQ (I:=Y) O:) r λ_ O=>.q 8 r (.W r (.I JY .p7 r .mk) (.j 1 r r (.W r (.I JY .z r .mk) (.j 4 r r tv)))) (.b r λ_=>DrawD.nop ?_))));refine .Y r (.y .p3 λ_ w n=>?_);have⟨x,U,V⟩:=w.u3 t U V;refine .pubB (El:=(Y7 ET)) (ys:=([o0.sums,a0.Sums]:List (List BM))) (k:=2) .p7 (RepCs.cons (cs:=[.slice p8 o0.sums.length c9]) ⟨_,_,r,n⟩ (RepCs.cons (cs:=[.slice gh19.2.1.1 a0.Sums.length gh19.2.1.2]) ⟨_,_,r,V.2.1⟩ .nil)) r λ_ y p=>?_;have⟨A,U,V,n⟩:=y.u4 x U V n;refine .AF call248 r (nF p O:) r r λ_ _ _ C D=>?_;obtain⟨u,a3,a4,rfl,rfl,O⟩:=D;have⟨q,U,V,n,p⟩:=C.u5 A U V n p;refine .q 8 r (.j 1 r r tv) (.K 5 r (.Y r λ{W}=>.s1 ZT .p1 r (.P 8 r r r (.j 1 r r tv) (.e2 23 (.L 49 r (.B (.dr Aj3 6 (.K 3 r (.X isAgg193 1 r (.K 1 r (.X AM 6 r ?_)))))))))));refine .e2 6 (.updM (k:=a1.j) (El:=eB) (ag:=false) (v:=true) (K2 nQ) underlying193 .p4 r r r ⟨[.bool true],r,.s⟩ (.L 17 r (.drop .p6 (.B (.B (.dr nl9 11 (.K 3 r (.X isAgg193 1 r (.h r (.lenM underlying193 r .p4 r r r .mk) ?_)))))))));refine .K 4 r (.X AM 1 r (.K 1 r (.e2 11 (.L 1267650600228229401496703205393 r (.A r O (λE O=>?_) λE O=>?_)))))
 . refine .C (.G 2 r (.I AM .p6 r ?_));refine .cS (.f call249 r) (.o [1,1,1,0,0,0] r) r (T1 (o0:=({ o0 with sums:=u.1,came:=(DY a1.j true o0.came) }:A1)) (b2:=b2) (p5:=p5) (c6:=c6) (b13:=b13) (p8:=a3) (c9:=a4) (b16:=b16) (b18:=b18) U O:) λ_ _ _ G H=>?_;obtain⟨a5,J,_,_,_,_,rfl,X,rfl,O⟩:=H;have⟨K,U,V⟩:=G.u3 q U V;exact .rn 7 r (.L 1 r (.drop .p6 (.F (.D 1 65 r (.q1 results207 K UH r ⟨(true,a5),J,_,_,_,_,r,X,r,O⟩)))))
 exact .P 1 r (.drop .p6 (.F (.D 1 65 r (.q1 results207 q [1,1,1,0,0,0] r ⟨(true,({ o0 with sums:=u.1,came:=(DY a1.j true o0.came) }:A1)),gn3,_,_,_,_,r,U,r,O⟩))))
theorem T3 {o0 Q} (U:WE I gn3 o0) (J:FB o0 Q) :
  Fun prog 250 #[vp b2] I (UT o0 b2 gn3 p5 c6 b13 p8 c9 b16 b18) (λ_ v l=>∃ r,v=vi r∧l=(UT o0 b2 gn3 p5 c6 b13 p8 c9 b16 b18)∧Q r):=by
 refine Fun.ee func250 ntmps250 r (.M 1 r (.V 1 2 r (.L 25 r (.B (.M 3 r (.I isAgg194 .z r (.rangeM qT .p5 r r r λs=>.L 2073 r (.E (.lp J [11,0] [1,1,1,1,1] r (λj E l (d,e,f)=>j ((3,.bool e) :: (4,.bool f) :: E) (OwnIt vi G5 true b18 s o0.votes d none :: l)) (ji rf UH r) ?_)))))))));rintro⟨d,e,f⟩ _ J;refine jq r λ_ a=>?_;have U:=a.u1 U;refine .F (.nextM .z r J r r (λJ g=>?_) (λb c _ _ J h i g=>?_))
 . refine .D 1 10265 r (.B (.Z r r (.en 25 r (.B (.E (.F (.D 2 134217745 r (.A r J (λk J=>?_) λk J=>?_))))))))
   . exact .F (.D 1 5 r (.itEnd .z (.q1 results250 a [1,1,1,1,1,0] r ⟨3,r,r,J⟩)))
   refine .F (.D 3 536870913 r (.A r J (λm J=>?_) λm J=>?_))
   . exact .F (.D 1 5 r (.itEnd .z (.q1 results250 a [1,1,1,1,1,0] r ⟨1,r,r,J⟩)))
   refine .B (.dr AoJ 10 (.K 3 r (.X AM 1 r (.K 3 r (.X AM 1 r (.K 2 r (.e2 10 (.L 4294967297 r (.A r J (λn J=>?_) λn J=>?_)))))))))
   . exact .F (.D 1 5 r (.itEnd .z (.q1 results250 a [1,1,1,1,1,0] r ⟨2,r,r,J⟩)))
   exact .P 1 r (.F (.D 1 5 r (.itEnd .z (.q1 results250 a [1,1,1,1,1,0] r ⟨0,r,r,J⟩))))
 obtain⟨_,rfl,_⟩:=h;cases i;refine .D 1 10265 r (.B (.Q r r (.P 2073 r (.E (.F (.entryM .z r r r (.G 1 r (.al KJ r λ_=>.R CV .z r (.V 2137 2 r (.T J [3,16,17] r (λo J=>?_) λo J=>?_))))))))))
 . refine .D 4 2137 r (.C (.G 2 r (.T J [4,21,22] r (λp J=>?_) λp J=>?_)))
   . exact .G 5 r (.H (je (c,true,true) J a nl6 r))
   exact .G 1 r (.O r (.I LY .z r (.G 3 r (.H (je (c,true,b.2.N != 0) J a nl6 r)))))
 refine .G 1 r (.O r (.I ia4 .z r (.D 2 2137 r (.C (.G 2 r (.T J [4,21,22] r (λq J=>?_) λq J=>?_))))))
 . exact .G 5 r (.H (je (c,b.2.Over,true) J a nl6 r))
 exact .G 1 r (.O r (.I LY .z r (.G 3 r (.H (je (c,b.2.Over,b.2.N != 0) J a nl6 r)))))
theorem V0 {o0 a0 a1 Q} (J:WE I gn3 o0) (b1:rU I gh19 a0) (D:EP o0 a0 a1 Q) :
  Fun prog 208 #[vp b2,.agg (JL a0 gh19),.agg (G6 a1).toArray] I (UT o0 b2 gn3 p5 c6 b13 p8 c9 b16 b18) (λU v l=>∃ r Z d1 c0 d2 c1,v=.bool r.1∧WE U Z r.2∧l=(UT r.2 b2 Z d1 c0 b13 d2 c1 b16 b18)∧Q r):=by
 refine Fun.ee func208 ntmps208 r (.F (.bx r λ_=>.bx r λ_=>.D 1 49 r (.B (.B (.dr AxG 12 (.K 3 r (.X isAgg194 2 r (.K 1 r (.X AM 0 r (.aP KJ r (.Y r λ{ex}=>?_)))))))))));refine .lookM2 (k:=a1.i) (El:=G5) (ag:=true) (zv:=.agg #[vi 0,vi 0,vi 0,vi 0,vi 0,vi 0,.slice none 0 0,.slice none 0 0,.slice none 0 0,vi 0,.bool false]) (z:=({ Kind:=0,From:=0,To:=0,Seq:=0,Round:=0,Vec:=CJ,Sums:=([]:List BM),Triples:=([]:List A2),N:=0,Over:=false }:AO)) (K2 nQ) qT KJ ⟨[vi 0,vi 0,vi 0,vi 0,vi 0,vi 0,.slice none 0 0,.slice none 0 0,.slice none 0 0,vi 0,.bool false],⟨((_,_),(_,_),(_,_)),r,⟨(.nil _ _ _),(.nil _ _ _),(.nil _ _ _)⟩⟩,.a⟩ .p7 r r D r r λ_ _ _ _ D a7 a8=>?_;obtain⟨_,rfl,_⟩:=a7;cases a8;refine .q 8 r tv (.K 3 r (.b r λ_=>DrawD.nop (.Y r (.R CV .p8 r (.P 9 r r r (.j 1 r r tv) (.e2 12 (.D 1 305 r (.drop .p8 (.B (.dr [0,1,2,3,4,5,6,7,8,9,10,11,12,13,14,15,16,17,18,19,20,21,22,23,24,25,26,27,28] 29 (.K 2 r ?_)))))))))));refine D5 D (λx D=>?_) λx D=>?_
 . exact D.elim
 rw[x];refine .K 3 r (.h r (.O r (.AA isAgg185 sizeOf185 r .p2 (.o 2 r) r r r .mk)) (.h r (.O r (.bd qW gD uY r .mk)) (.h r (.O r (.neV r r (AvO o0.place ({ i:=0,j:=0 }:BB)) (AvP _ _ _ _ _) r r r .mk)) (.K 2 r ?_))));refine D5 D (λy D=>?_) λy D=>?_
 . exact D.elim
 rw[y];refine .K 3 r (.h r (.O r (.I ia4 .p2 r .mk)) (.K 2 r ?_));refine D5 D (λA D=>?_) λA D=>?_
 . exact D.elim
 rw[A];refine .K 1 r (.h r (.O r (.I AM .z r .mk)) (.K 3 r ?_));refine D5 D (λB D=>?_) λB D=>?_
 . exact D.elim
 rw[B];refine .K 1 r (.h r (.O r (.I AM .p1 r .mk)) (.K 3 r (.h r (.O r (.I AM .p2 r .mk)) (.K 2 r (.e2 29 (.L 562949953421361 r (.A r D (λa9 D=>?_) λa9 D=>?_)))))))
 . exact D.elim
 refine .P 49 r (.B (.dr wC 7 (.K 3 r (.X isAgg194 2 r (.K 1 r (.X AM 0 r (.h r (.S GF CV .p1 r .mk) (.e2 7 (.updM (k:=a1.i) (El:=G5) (ag:=true) (v:=a0) (K2 nQ) qT .p7 r r r ⟨[vi a0.Kind,vi a0.From,vi a0.To,vi a0.Seq,vi a0.Round,vi a0.Vec.N,.slice gh19.1.1 a0.Vec.Items.length gh19.1.2,.slice gh19.2.1.1 a0.Sums.length gh19.2.1.2,.slice gh19.2.2.1 a0.Triples.length gh19.2.2.2,vi a0.N,.bool a0.Over],⟨gh19,r,b1⟩,.a⟩ ?_)))))))));refine .L 1 r (.drop .z (.drop .z (.B (.B (.dr nl9 11 (.K 3 r (.X isAgg194 0 r (.h r (.lenM qT r .p5 r r r .mk) (.K 4 r (.X AM 0 r (.K 1 r (.e2 11 (.L 147573952589676412929 r (.A r D (λX D=>?_) λX D=>?_))))))))))))))
 . exact .F (.D 1 65 r (.q1 results208 rf UH r ⟨(true,({ o0 with votes:=(DY a1.i a0 o0.votes) }:A1)),gn3,_,_,_,_,r,J,r,D⟩))
 refine .P 1 r (.M 1 r ?_);refine .cS (.f call250 r) (.o UH r) r (T3 (o0:=({ o0 with votes:=(DY a1.i a0 o0.votes) }:A1)) (b2:=b2) (p5:=p5) (c6:=c6) (b13:=b13) (p8:=p8) (c9:=c9) (b16:=b16) (b18:=b18) J D:) λ_ _ _ C b0=>?_;obtain⟨a6,rfl,rfl,D⟩:=b0;have J:=C.u1 J;refine .rn 6 r (.D 1 513 r (.B (.M 4 r (.I AM .z r (.D 1 56668397794435742564865 r (.E (.lx D [74,9,0] [] r (λj E l (d,s)=>λc w=>∃ g m n p q,j ⟨106,[],none⟩ (λU=>WE U g d) ((75,vi s) :: E) (pc b2 (FU d g m n b13 p q b16 b18) 196 :: QSl G5 238 m n d.out :: OwnSl ET 314 p q d.sums :: OwnMap vi fA true b13 d.shares :: OwnMap vi eB false b16 d.came :: OwnMap vi G5 true b18 d.votes :: l) c w) (λc w V W=>⟨gn3,_,_,_,_,jf rf J wD r V W⟩) ?_)))))));rintro⟨d,s⟩ _ D c w ⟨g,m,n,p,q,_,t,e,d0,d3⟩;have u:=t.u1 C;refine Cod.at d0 d3 (.F (.D 1 132226261520350065984001 r (.B (.A r D (λa3 D=>?_) λa3 D=>?_))))
 . refine .P 56668397794435742564865 r (.B (.E (.F (.D 2 56668397794435742565889 r (.dr [0,1,2,4,5,6,7,8,3,9,10] 11 (.K 6 r (.X AM 0 r (.K 1 r (.Y r ?_)))))))));refine .cS (.f call234 r) (.o wD r) r (DV (b2:=b2) (p5:=m) (c6:=n) (b13:=b13) (p8:=p) (c9:=q) (b16:=b16) (b18:=b18) e D:) λ_ a2 _ G H=>?_;obtain⟨_,rfl,rfl,D⟩:=H;have⟨a5,K,e⟩:=G.u3 u t e;refine .rx 6 r (.q 6 r (.j 1 r r (.W r (.I AM .z r .mk) (.j 4 r r tv))) (.h r (.bd KJ ZR mE r .mk) (.Y r ?_)));refine .cS (.f call192 r) (.o UH r) r (DD (I:=a2) (gh19:=((_,_),(_,_),(_,_))) (b2:=b2) (gn3:=g) (p5:=m) (c6:=n) (b13:=b13) (p8:=p) (c9:=q) (b16:=b16) (b18:=b18) e ⟨(.nil _ none 0),(.nil _ none 0),(.nil _ none 0)⟩ D:) λ_ _ _ P R=>?_;obtain⟨_,S,_,_,_,_,rfl,a4,rfl,D⟩:=R;have⟨_,T,e⟩:=P.u3 a5 K e;exact .rx 6 r (.q 6 r tv (.e2 11 (.L 56668397794435742564865 r (.C (.G 2 r (.H λc w V W=>⟨_,D,S,_,_,_,_,jf T a4 wD r V W⟩))))))
 exact .en 513 r (.M 3 r (.I isAgg194 .z r (.clearM qT r .p5 r (.V 513 3 r (.I AM .z r (.G 3 r (.s1 D3 .z r (.V 513 5 r (.s1 sizeOf4 .z r (.V 1 1 r (.L 65 r (.q1 results208 u wD r ⟨(true,({ d with vote:=A5 (d.vote+1),votes:=([]:List (Int×AO)),closed:=a6 != 0 }:A1)),g,_,_,_,_,r,e,r,D⟩))))))))))))
theorem UR {o0 Q} (O:WE I gn3 o0) (J:FO o0 Q) :
  Fun prog 251 #[vp b2] I (UT o0 b2 gn3 p5 c6 b13 p8 c9 b16 b18) (λU v l=>∃ r Z a8 a5 a9 a6,v=.tuple #[]∧WE U Z r∧l=(UT r b2 Z a8 a5 b13 a9 a6 b16 b18)∧Q r):=by
 refine Fun.ee func251 ntmps251 r (.B (.dr [0,1,2,3,4,5,6,7,8,9,10,11,12,14,13,999] 15 (.K 3 r (.h r (.AA QB QA r .z (.o 5 r) r r r .mk) (.K 3 r (.h r (.AA JP DJ r .z (.o 5 r) r r r .mk) (.K 3 r (.X AM 0 r (.K 1 r (.aP CC r (.Y r ?_)))))))))));refine .ca call295 r (AjA O.1 O.2.2.2.2.1 J:) λ_ _ y R=>?_;obtain⟨_,_,_,rfl,i,J⟩:=R;have O:=y.u1 O;refine .q 6 r tv (.b r λ_=>DrawD.nop (.e2 15 (.R AQ .p6 r (.L 5 r (.B (.M 4 r (.I AM .z r (.D 1 25165829 r (.E (.lx J [23,2,0] [6] r (λj E l (d,s)=>λc w=>∃ e k m p q,j ⟨68,[],none⟩ (λU=>WE U e d) ((24,vi s) :: E) (pc b2 (FU d e k m b13 p q b16 b18) 196 :: QSl G5 238 k m d.out :: OwnSl ET 314 p q d.sums :: OwnMap vi fA true b13 d.shares :: OwnMap vi eB false b16 d.came :: OwnMap vi G5 true b18 d.votes :: l) c w) (λc w V W=>⟨gn3,_,_,_,_,jf rf O Av6 r V W⟩) ?_))))))))));rintro⟨d,s⟩ _ J c w ⟨e,k,m,p,q,_,u,g,a7,b0⟩;have⟨x,i⟩:=u.u2 y i;refine Cod.at a7 b0 (.F (.D 1 58720261 r (.B (.A r J (λA J=>?_) λA J=>?_))))
 . refine .P 25165829 r (.B (.E (.F (.D 2 25165837 r (.B (.dr [0,1,2,3,4,5,6,7,8,9,10,11,12,13,14,15,16,17,18,19,20,21,23,22,999] 24 (.h r (.S BK AQ .p6 r .mk) (.K 4 r (.X AM 0 r ?_)))))))));refine .K 4 r (.X AM 0 r (.K 4 r (.X AM 0 r (.K 4 r (.X AM 0 r (.K 1 r (.aP CC r (.Y r ?_))))))));refine .ca call296 r (yF i J:) λ_ S C D=>?_;obtain⟨_,_,_,rfl,t,J⟩:=D;have⟨F,G,i,g⟩:=C.u4 x u i g;refine .q 7 r tv (.b r λ_=>DrawD.nop (.e2 24 (.R AQ .p7 r (.L 25165853 r (.dr AoJ 10 (.K 5 r (.X AM 0 r (.K 1 r (.h r (.S BK AQ .p7 r .mk) (.h r (.bd KJ ZR mE r .mk) (.Y r ?_)))))))))));refine .cS (.f call192 r) (.o wD r) r (DD (I:=S) (gh19:=((_,_),(_,_),(_,_))) (b2:=b2) (gn3:=e) (p5:=k) (c6:=m) (b13:=b13) (p8:=p) (c9:=q) (b16:=b16) (b18:=b18) g ⟨t,(.nil _ none 0),(.nil _ none 0)⟩ J:) λ_ _ _ a2 K=>?_;obtain⟨_,N,_,_,_,_,rfl,a4,rfl,J⟩:=K;have⟨_,a3,i,g,t⟩:=a2.u5 F G i g t;exact .rx 8 r (.q 8 r tv (.e2 10 (.L 25165829 r (.drop .p7 (.C (.G 2 r (.H λc w V W=>⟨_,J,N,_,_,_,_,jf a3 a4 Av6 r V W⟩)))))))
 exact .en 1 r (.drop .p6 (.M 3 r (.I isAgg193 .z r (.clearM underlying193 r .p4 r (.L 1 r (.C (.G 3 r (.s1 ZT .z r (.own0 ET 314 (.H (JR r .n x (.o [1,1,2,0,1,1] r) ⟨({ d with sums:=([]:List BM),came:=([]:List (Int×Bool)) }:A1),e,_,_,_,_,r,g,r,J⟩)))))))))))
theorem T4 {o0 a0 a1 Q} (J:WE I gn3 o0) (a2:rU I gh19 a0) (D:E5 o0 a0 a1 Q) :
  Fun prog 209 #[vp b2,.agg (JL a0 gh19),.agg (G6 a1).toArray] I (UT o0 b2 gn3 p5 c6 b13 p8 c9 b16 b18) (λU v l=>∃ r a3 a9 a6 b0 a7,v=.bool r.1∧WE U a3 r.2∧l=(UT r.2 b2 a3 a9 a6 b13 b0 a7 b16 b18)∧Q r):=by
 refine Fun.ee func209 ntmps209 r (.F (.bx r λ_=>.bx r λ_=>.G 1 r (.V 49 1 r (.L 177 r (.B (.jn D [5,4,0] [2,2,2,2,2,2,1,0] r (λj E l p=>j ((7,vi p) :: E) l) (λ_ D=>?_) ?_))))))
 . refine .M 3 r (.I ia4 .p2 r (.L 4273 r (.A r D (λy D=>?_) λy D=>?_)))
   . exact .C (.G 3 r (.I AM .p2 r (.G 2 r (.H (je (A5 (o0.round+1)) D rf [2,2,2,2,2,2,1,0] r)))))
   exact .AC (je 0 D rf [2,2,2,2,2,2,1,0] r)
 refine λp D=>jq r λ_ d=>?_;have⟨J,a2⟩:=d.u2 J a2;refine .M 1 r (.I LY .p6 r (.D 1 433 r (.B (.M 4 r (.I AM .z r (.G 2 r (.T D [25,26] r (λA D=>?_) λA D=>?_)))))))
 . exact D.elim
 refine .O r (.S isAgg185 sizeOf185 .p7 r (.O r (.bd qW gD uY r (.O r (.neV r r (AvO a1 ({ i:=0,j:=0 }:BB)) (AvP _ _ _ _ _) r r r (.G 2 r (.T D [29,30,31] r (λB D=>?_) λB D=>?_)))))))
 . exact D.elim
 refine .G 3 r (.O r (.I ia4 .z r (.G 3 r (.T D [36,37,38] r (λC D=>?_) λC D=>?_))))
 . exact D.elim
 refine .G 3 r (.O r (.I isAgg61 .z r (.G 3 r (.T D [43,44,45] r (λa4 D=>?_) λa4 D=>?_))))
 . exact D.elim
 refine .G 1 r (.O r (.I AM .p6 r (.G 4 r (.T D [49,50,51] r (λF D=>?_) λF D=>?_))))
 . exact D.elim
 refine .G 4 r (.T D [53,54,55] r (λG D=>?_) λG D=>?_)
 . exact D.elim
 refine .D 3 288230376151712129 r (.drop .p6 (.drop .p6 (.A r D (λH D=>?_) λH D=>?_)))
 . exact D.elim
 refine .P 385 r (.M 6 r (.s1 sizeOf4 .z r (.G 2 r (.s1 sizeOf4 .z r (.G 2 r (.s1 sizeOf61 .z r (.L 385 r (.B (.jx D [8,0] [] r (λj E l a=>λc w=>∃ b g h k m,j ⟨90,[],none⟩ (λU=>WE U b a) E (pc b2 (FU a b g h b13 k m b16 b18) 196 :: QSl G5 238 g h a.out :: OwnSl ET 314 k m a.sums :: OwnMap vi fA true b13 a.shares :: OwnMap vi eB false b16 a.came :: OwnMap vi G5 true b18 a.votes :: l) c w) (λ_ D=>?_) ?_)))))))))
 . refine .B (.jn D [8,7,0] UH r (λj E l x=>j ((74,.bool x) :: E) l) (λ_ D=>?_) ?_)
   . refine .C (.G 3 r (.T D [70,71] r (λa5 D=>?_) λa5 D=>?_))
     . exact .G 3 r (.H (je (a0.N != 3) D rf UH r))
     exact .G 3 r (.H (je false D rf UH r))
   refine λx D=>jq r λ_ e=>?_;have⟨_,J⟩:=e.u2 d J;refine .A r D (λK D=>?_) λK D=>?_
   . exact .M 4 r (.AA JP DJ r .z (.o 5 r) r r r (.G 2 r (.R DJ .z r (.L 385 r (.C (.G 4 r (.s1 D3 .z r (.H λc w W Z=>⟨_,D,(gn3.1,gn3.2.1,gn3.2.2.1,gn3.2.2.2.1,gn3.2.2.2.2.2,gn3.2.2.2.2.2),_,_,_,_,jf e ⟨J.1,J.2.1,J.2.2.1,J.2.2.2.1,J.2.2.2.2.2,J.2.2.2.2.2⟩ wD r W Z⟩))))))))
   exact .AC λc w W Z=>⟨_,D,gn3,_,_,_,_,jf e J wD r W Z⟩
 rintro a D c w ⟨b,g,h,k,m,_,q,n,a8,b1⟩;have s:=q.u1 d;refine Cod.at a8 b1 (.B (.F (.D 2 154742504910672534362390529 r (.A r D (λL D=>?_) λL D=>?_))))
 . refine .C (.G 1 r ?_);refine .cS (.f call251 r) (.o wD r) r (UR (b2:=b2) (p5:=g) (c6:=h) (b13:=b13) (p8:=k) (c9:=m) (b16:=b16) (b18:=b18) n D:) λ_ _ _ P R=>?_;obtain⟨T,t,_,_,_,_,rfl,S,rfl,D⟩:=R;have⟨u,_,n⟩:=P.u3 s q n;exact .rn 6 r (.V 1 1 r (.L 65 r (.q1 results209 u UH r ⟨(true,T),t,_,_,_,_,r,S,r,D⟩)))
 exact .P 1 r (.F (.D 1 65 r (.q1 results209 s wD r ⟨(true,a),b,_,_,_,_,r,n,r,D⟩)))
theorem WY {o0 a0 Q} (V:WE I gn3 o0) (W:rU I gh19 a0) (U:EY o0 a0 Q) :
  Fun prog 157 #[vp b2,.agg (JL a0 gh19)] I (UT o0 b2 gn3 p5 c6 b13 p8 c9 b16 b18) (λI_ v l=>∃ r Z d0 c0 d1 c1,v=.bool r.1∧WE I_ Z r.2∧l=(UT r.2 b2 Z d0 c0 b13 d1 c1 b16 b18)∧Q r):=by
 refine Fun.ee func157 ntmps157 r (.F (.bx r λ_=>.D 1 9 r (.B (.B (.dr [0,1,2,3,4,5,6,7,8,9,10,11,12,13,14,15,16,17,18,19,20,21,22,23,24,25,26,27,28,29] 30 (.K 1 r (.h r (.eqNilP Aa9 r r r r .mk) (.K 2 r (.h r (.O r (.I AM .z r .mk)) (.K 1 r (.Y r ?_)))))))))));refine .O r (.cS (.f call204 r) (.o nl6 r) r (UN (b2:=b2) (p5:=p5) (c6:=c6) (b13:=b13) (p8:=p8) (c9:=c9) (b16:=b16) (b18:=b18) V U:) λ_ R _ c a8=>?_);obtain⟨_,rfl,rfl,U⟩:=a8;have⟨V,W⟩:=c.u2 V W;refine .rx 7 r (.q 7 r (.W r (.O r (.I AM .p6 r .mk)) (.j 1 r r tv)) (.K 3 r ?_));refine D5 U (λg U=>?_) λg U=>?_
 . exact U.elim
 rw[g];refine .K 1 r (.h r (.O r (.I AM .p6 r .mk)) (.K 3 r ?_));refine D5 U (λk U=>?_) λk U=>?_
 . exact U.elim
 rw[k];refine .K 1 r (.h r (.O r (.I AM .p6 r .mk)) (.K 4 r (.h r (.O r (.I AM .z r .mk)) (.K 4 r (.h r (.O r (.I AM .z r .mk)) (.K 3 r (.e2 30 (.L 34359738377 r (.A r U (λb0 U=>?_) λb0 U=>?_)))))))))
 . exact U.elim
 refine .P 9 r (.B (.dr [0,1,2,3,4,5,6,8,9,10,11,12,13,14,17,7,15,16,999] 18 (.K 4 r (.X AM 0 r (.K 1 r (.X AM 6 r (.K 4 r (.X AM 0 r (.K 1 r (.X AM 6 r (.aP qW r (.Y r (.v call110 (jF (I:=R) U:) r λd U=>?_)))))))))))));refine .q 7 r (.W r (.I AM .p6 r .mk) (.j 1 r r (.W r (.I AM .z r .mk) (.j 4 r r tv)))) (.Y r (.v call111 (ZD (I:=R) U:) r λe U=>.q 7 r tv (.h r (.bd qW gD uY r .mk) (.b r λ_=>DrawD.nop ?_))));refine .e2 18 (.R sizeOf185 .p7 r (.L 41 r (.B (.M 1 r (.I isAgg232 .p6 r (.L 18014398509482025 r (.E (.F (.D 2 54043195528445993 r (.A r U (λb1 U=>?_) λb1 U=>?_))))))))))
 . refine .M 1 r (.S GF CV .p6 r (.S isAgg185 sizeOf185 .p7 r ?_));refine .cS (.f call205 r) (.o UH r) r (UO (a1:=({ i:=d,j:=e }:BB)) (b2:=b2) (p5:=p5) (c6:=c6) (b13:=b13) (p8:=p8) (c9:=c9) (b16:=b16) (b18:=b18) V W U:) λ_ _ _ a3 a4=>?_;obtain⟨S,a5,_,_,_,_,rfl,a,rfl,U⟩:=a4;have⟨a6,V,W⟩:=a3.u3 c V W;exact .rn 8 r (.D 1 17 r (.drop .p6 (.drop .p6 (.q1 results157 a6 UH r ⟨(S.1,S.2),a5,_,_,_,_,r,a,r,U⟩))))
 refine .F (.D 2 2323857407723175977 r (.A r U (λa7 U=>?_) λa7 U=>?_))
 . refine .M 1 r (.S GF CV .p6 r (.S isAgg185 sizeOf185 .p7 r ?_));refine .cS (.f call206 r) (.o UH r) r (T0 (a1:=({ i:=d,j:=e }:BB)) (b2:=b2) (p5:=p5) (c6:=c6) (b13:=b13) (p8:=p8) (c9:=c9) (b16:=b16) (b18:=b18) V W U:) λ_ _ _ a9 u=>?_;obtain⟨T,q,_,_,_,_,rfl,C,rfl,U⟩:=u;have⟨s,V,W⟩:=a9.u3 c V W;exact .rn 8 r (.D 1 17 r (.drop .p6 (.drop .p6 (.q1 results157 s UH r ⟨(T.1,T.2),q,_,_,_,_,r,C,r,U⟩))))
 refine .F (.D 2 147591966988185894953 r (.A r U (λt U=>?_) λt U=>?_))
 . refine .M 1 r (.S GF CV .p6 r (.S isAgg185 sizeOf185 .p7 r ?_));refine .cS (.f call207 r) (.o UH r) r (T2 (a1:=({ i:=d,j:=e }:BB)) (b2:=b2) (p5:=p5) (c6:=c6) (b13:=b13) (p8:=p8) (c9:=c9) (b16:=b16) (b18:=b18) V W U:) λ_ _ _ w x=>?_;obtain⟨m,y,_,_,_,_,rfl,J,rfl,U⟩:=x;have⟨A,V,W⟩:=w.u3 c V W;exact .rn 8 r (.D 1 17 r (.drop .p6 (.drop .p6 (.q1 results157 A UH r ⟨(m.1,m.2),y,_,_,_,_,r,J,r,U⟩))))
 refine .F (.D 2 9444750980137799909417 r (.A r U (λB U=>?_) λB U=>?_))
 . refine .M 1 r (.S GF CV .p6 r (.S isAgg185 sizeOf185 .p7 r ?_));refine .cS (.f call208 r) (.o UH r) r (V0 (a1:=({ i:=d,j:=e }:BB)) (b2:=b2) (p5:=p5) (c6:=c6) (b13:=b13) (p8:=p8) (c9:=c9) (b16:=b16) (b18:=b18) V W U:) λ_ _ _ D E=>?_;obtain⟨n,F,_,_,_,_,rfl,a2,rfl,U⟩:=E;have⟨G,V,W⟩:=D.u3 c V W;exact .rn 8 r (.D 1 17 r (.drop .p6 (.drop .p6 (.q1 results157 G UH r ⟨(n.1,n.2),F,_,_,_,_,r,a2,r,U⟩))))
 refine .F (.D 2 604462909807314587353129 r (.A r U (λH U=>?_) λH U=>?_))
 . refine .M 1 r (.S GF CV .p6 r (.S isAgg185 sizeOf185 .p7 r ?_));refine .cS (.f call209 r) (.o UH r) r (T4 (a1:=({ i:=d,j:=e }:BB)) (b2:=b2) (p5:=p5) (c6:=c6) (b13:=b13) (p8:=p8) (c9:=c9) (b16:=b16) (b18:=b18) V W U:) λ_ _ _ K N=>?_;obtain⟨p,O,_,_,_,_,rfl,b5,rfl,U⟩:=N;have⟨P,V,W⟩:=K.u3 c V W;exact .rn 8 r (.D 1 17 r (.drop .p6 (.drop .p6 (.q1 results157 P UH r ⟨(p.1,p.2),O,_,_,_,_,r,b5,r,U⟩))))
 exact U.elim
theorem Y1 {o0 a0 a1 Q} (U:rU I gh2 a1) (D:K5 o0 a0 a1 Q) :
  Fun prog 157 #[.pointer (mkA a0),.agg (JL a1 gh2)] I [CX A8 o0] (λO v l=>∃ r,v=.bool r.1∧l=[CX A8 r.2]∧Q r):=by
 rcases a0 with _ | b
 . have D:=D.1 r;exact D.elim
 have⟨_,hx,D⟩:=D.2 b rfl;refine Fun.bank hx (λh V=>WY (b2:=b) (gn3:=h.1) (p5:=h.2.1) (c6:=h.2.2.1) (b13:=h.2.2.2.1) (p8:=h.2.2.2.2.1) (c9:=h.2.2.2.2.2.1) (b16:=h.2.2.2.2.2.2.1) (b18:=h.2.2.2.2.2.2.2) V U D) ?_;rintro h O v l _ ⟨J,Z,a,c,d,e,rfl,W,rfl,hq⟩;exact⟨(Z,a,c,h.2.2.2.1,d,e,h.2.2.2.2.2.2.1,h.2.2.2.2.2.2.2),J.2,[],r,W,(J.1,(b,J.2) :: FK b o0),r,r,hq⟩
theorem Y2 {o0 o1 o2 a0 a1 a2 Q} (W:nO I gq5 o0) (O:H7 o0 o1 o2 a0 a1 a2 Q) :
  Fun prog 116 #[vp b4,vi a0,vi a1,vi a2] I (kL3 o0 b4 gq5 b11 p7 c8 o1 o2) (λI_ v l=>∃ r Z p16 c17,v=.bool r.1∧nO I_ Z r.2.1∧l=(kL3 r.2.1 b4 Z b11 p16 c17 r.2.2.1 r.2.2.2)∧Q r):=by
 refine Fun.ee func116 ntmps116 r (.M 1 r (.V 15 3 r (.cS (.f call151 r) (.o nl8 r) r (SG (b4:=b4) (b11:=b11) (p7:=p7) (c8:=c8) W O:) λ_ K _ d b=>?_)));rcases b with b | b
 . obtain⟨_,_,_,_,rfl,_,rfl,O⟩:=b; exact O.elim
 obtain⟨L,A,N,a3,rfl,a,rfl,O⟩:=b;have W:=d.u1 W;refine .rn 5 r (.G 1 r ?_);refine .cS (.f call156 r) (.o [4] r) r (jV (I:=K) O:) λ_ _ _ C D=>?_;obtain⟨x,_,rfl,e,rfl,O⟩:=D;have⟨g,a⟩:=C.u2 d a;refine .rn 5 r (.G 4 r (.al KJ r λ_=>.R CV .z r (.D 2 1541 r (.B (.F (.D 2 8389125 r (.A r O (λi O=>?_) λi O=>?_)))))))
 . exact .F (.D 1 257 r (.drop .z (.q1 results116 g [1,1,1,1,0] r ⟨(false,L.2.1,o1,x.2.2.2),A,_,_,r,a,r,O⟩)))
 refine .P 517 r (.B (.ownF .p4 λ_=>.dr Av5 9 (.K 3 r (.X isAgg134 2 r (.K 1 r ?_)))));have⟨E,_,j,_,_,F,c,O⟩:=a.2.1.ix O;refine .h r (.U L6 sizeOf133 F E j r .mk) (.h r (.x 0 isAgg133 c r .mk) (.h r (.S GF CV .z r .mk) (.Y r ?_)));refine .cS (.f call157 r) (.o [5] r) r (Y1 e O:) λ_ _ _ m n=>?_;obtain⟨G,rfl,rfl,O⟩:=n;have⟨p,a,e,c⟩:=m.u4 g a e c;refine .rx 6 r (.q 6 r tv (.e2 9 (.L 1 r (.drop .p1 (.M 1 r ?_)))));refine .cS (.f call112 r) (.o [2,2,2,0] r) r (RX (b3:=b4) (b10:=b11) (p6:=N) (c7:=a3) a O:) λ_ _ _ s t=>?_;obtain⟨H,u,_,_,rfl,J,rfl,O⟩:=t;have⟨w,a⟩:=s.u2 p a;exact .rn 5 r (.V 1 1 r (.L 257 r (.q1 results116 w nl8 r ⟨(true,H,G.2,x.2.2.2),u,_,_,r,J,r,O⟩)))
theorem ZJ {o0 o1 o2 Q} (R6:nO I gq5 o0) (D:FT o0 o1 o2 Q) :
  Fun prog 75 #[vp b4] I (kL3 o0 b4 gq5 b11 p7 c8 o1 o2) (λU v l=>∃ r e1 p16 c17,v=.bool r.1∧nO U e1 r.2.1∧l=(kL3 r.2.1 b4 e1 b11 p16 c17 r.2.2.1 r.2.2.2)∧Q r):=by
 refine Fun.ee func75 ntmps75 r (.F (.D 1 1 r (.B (.M 1 r (.eqNilP AiG r r r r (.L 1025 r (.Z r r (.P 1 r (.F (.D 1 9 r ?_))))))))));refine .B (.M 3 r (.I isAgg134 .z r (.ln L6 r (.D 1 98313 r (.E (.lx D [15,0] [] r (λj E l (q,a9,x,S,T)=>λc w=>∃ n t u,j ⟨58,[],none⟩ (λU=>nO U n q) ((3,.bool a9) :: (16,vi x) :: E) (pc b4 (FP q n b11 t u) 138 :: OwnSl S0 63 t u q.history :: OwnMap KR P6 false b11 q.boxes :: CX A8 S :: CX BV T :: l) c w) (λc w J O=>⟨gq5,_,_,jf rf R6 Aj6 r J O⟩) ?_))))));rintro⟨q,a9,x,S,T⟩ _ D c w ⟨n,t,u,_,c1,d,V,Z⟩;refine Cod.at V Z (.F (.D 1 229385 r (.B (.A r D (λe3 D=>?_) λe3 D=>?_))))
 . refine .P 98313 r (.B (.E (.F (.D 2 98329 r (.C (.G 2 r ?_))))));refine .cS (.f call113 r) (.o Aj6 r) r (cW (b4:=b4) (b11:=b11) (p7:=t) (c8:=u) d D:) λ_ _ _ X Y=>?_;obtain⟨_,K,_,_,rfl,d9,rfl,D⟩:=Y;have⟨L,d⟩:=X.u2 c1 d;refine .rn 5 r (.G 1 r (.T D [21,22] r (λe4 D=>?_) λe4 D=>?_))
   . exact .D 3 98313 r (.C (.G 2 r (.H λc w J O=>⟨_,D,K,_,_,jf L d9 Aj6 r J O⟩)))
   exact .D 3 98313 r (.C (.G 2 r (.H λc w J O=>⟨_,D,K,_,_,jf L d9 Aj6 r J O⟩)))
 refine .en 9 r (.B (.M 1 r ?_));refine .cS (.f call117 r) (.o [0,1,0,1] r) r (aH (b3:=b4) (b10:=b11) (p6:=t) (c7:=u) d D:) λ_ _ _ a1 a2=>?_;obtain⟨_,_,_,rfl,a,rfl,D⟩:=a2;have⟨a3,d⟩:=a1.u2 c1 d;refine .rn 5 r (.ln underlying182 r (.D 1 939524105 r (.E (.lx D [28,27,0] [] r (λj E l (g,F,y,G,H)=>λc w=>∃ p A B,j ⟨58,[],none⟩ (λU=>nO U p g) ((3,.bool F) :: (29,vi y) :: E) (pc b4 (FP g p b11 A B) 138 :: OwnSl S0 63 A B g.history :: OwnMap KR P6 false b11 g.boxes :: CX BV G :: CX A8 H :: l) c w) (λc w J O=>⟨n,_,_,jf rf d Aj6 r J O⟩) ?_))));rintro⟨g,F,y,G,H⟩ _ D c w ⟨p,A,B,d2,N,b,V,Z⟩;have⟨d7,a⟩:=N.u2 a3 a;refine Cod.at V Z (.F (.D 1 2013265929 r (.B (.A r D (λa4 D=>?_) λa4 D=>?_))))
 . refine .P 939524105 r (.B (.E (.F ?_)));have⟨d3,d4,a5,_,_,d5,a6,D⟩:=a.ix D;refine .U underlying182 VW d5 d3 a5 r (.ldW isAgg141 VW a6 r r r r (.al zeroValue141 r λ_=>.R VW .z r (.L 939524169 r (.B (.dr Aj3 6 (.K 3 r (.X isAgg135 1 r (.h r (.S isAgg141 VW .z r .mk) (.Y r λ{ex}=>.lookM (k:=d4) (El:=P6) (ag:=false) (zv:=.pointer none) (z:=none) AfG vC zeroValue142 ⟨[.pointer none],r,.s⟩ .p3 r r D r r λ_ _ _ D a7 a8=>?_)))))))));cases a7;cases a8;refine .q 6 r tv (.e2 6 (.G 1 r (.V 939524297 1 r ?_)));refine .cS (.f call118 r) (.o [4] r) r (OY (I:=d2) D:) λ_ d6 _ b0 b1=>?_;obtain⟨_,rfl,rfl,D⟩:=b1;have⟨b2,b5,a,b⟩:=b0.u4 d7 N a b;refine .rn 6 r (.D 1 939524553 r (.B (.ownF .p3 λ_=>.dr [0,1,2,3,4,5,6,7] 8 (.K 1 r (.h r (.AB (i:=0) bW D3 r r (by decide) (o:=0) r r r .mk) (.X AM 1 r (.h r (.AB (i:=1) bW D3 r r (by decide) (o:=1) r r r .mk) (.X AM 1 r (.K 1 r (.Y r ?_))))))))));refine .cS (.f call119 r) (.o [0] r) r (cX (I:=d6) D:) λ_ _ _ b7 b8=>?_;obtain⟨_,rfl,rfl,D⟩:=b8;have⟨b9,c0,a,b⟩:=b7.u4 b2 b5 a b;refine .rx 6 r (.q 6 r (.W r (.I AM .p1 r .mk) (.W r (.AB (i:=1) bW D3 r r (by decide) (o:=1) r r r .mk) (.W r (.I AM .p1 r .mk) (.W r (.AB (i:=0) bW D3 r r (by decide) (o:=0) r r r .mk) (.j 1 r r tv))))) (.Y r ?_));refine .cS (.f call116 r) (.o [2,3,2,2,0] r) r (Y2 (b4:=b4) (b11:=b11) (p7:=A) (c8:=B) b D:) λ_ d8 _ c2 c3=>?_;obtain⟨_,P,_,_,rfl,C,rfl,D⟩:=c3;have⟨c4,R,a,b⟩:=c2.u4 b9 c0 a b;refine .rx 6 r (.q 6 r tv (.e2 8 (.L 939524489 r (.drop .p5 (.C (.G 2 r (.T D [3,49,50] r (λc5 D=>?_) λc5 D=>?_)))))))
   . exact .D 6 939524105 r (.C (.G 2 r (.H λc w J O=>⟨_,D,P,_,_,jf R C [0,1,0,1,0] r J O⟩)))
   refine .G 1 r ?_;refine .O r (.cS (.f call118 r) (.o [4] r) r (OY (I:=d8) D:) λ_ _ _ c9 d0=>?_);obtain⟨_,rfl,rfl,D⟩:=d0;have⟨_,d1,a,C⟩:=c9.u4 c4 R a C;exact .rn 5 r (.D 4 939524105 r (.C (.G 2 r (.H λc w J O=>⟨_,D,P,_,_,jf d1 C [1,2,1,0,0] r J O⟩))))
 exact .en 9 r (.F (.D 2 5 r (.q1 results75 d7 [0,1,0,1,0] r ⟨(F,g,H,G),p,_,_,r,b,r,D⟩)))
theorem nK {o0 o1 a0 a1 a2 Q0 Q1} (U:lTa I ga3 a0) (O:RepSl AeH I p5 c6 a1) (J:MI o0 o1 a0 a1 a2 Q0 Q1) :
  Fun prog 45 #[.agg (YO a0 ga3),.slice p5 a1.length c6,vi a2] I [CX A8 o0,CX BV o1] (λV v l=>(∃ r,v=.tuple #[.pointer none,vi r.1,vi r.2.1]∧l=[CX A8 r.2.2.1,CX BV r.2.2.2]∧Q0 r)∨(∃ r b8 b0 a4 p11 c12,v=.tuple #[vp b8,vi r.1,vi r.2.1]∧nO V b0 r.2.2.2.2∧l=[CX A8 r.2.2.1,CX BV r.2.2.2.1,pc b8 (FP r.2.2.2.2 b0 a4 p11 c12) 138,OwnMap KR P6 false a4 r.2.2.2.2.boxes,OwnSl S0 63 p11 c12 r.2.2.2.2.history]∧Q1 r)):=by
 refine Fun.ee func45 ntmps45 r (.F (.bx r λb10=>.D 3 14 r (.scope (.B (.F (.S bX WK .z r (.G 2 r (.v call72 (Ad5 U O J:) r λN J=>.G 1 r (.V 526 2 r (.L 1049102 r (.A r J (λa3 J=>?_) λa3 J=>?_)))))))))))
 . exact .F (.D 4 448 r (.drop .z (.J (DZ r (.t r (.t r (.t r .n))) rf (.o I5 r) (.inl ⟨(0,N,o0,o1),r,r,J⟩)))))
 refine .P 14 r (.F (.S bX WK .z r (.cS (.f call73 r) (.o [1,1] r) r (wS U J:) λ_ _ _ p e=>?_)));rcases e with e | e
 . obtain⟨_,rfl,rfl,J⟩:=e; exact J.elim
 obtain⟨Y,C,a5,u,_,_,rfl,D,rfl,J⟩:=e;have⟨U,O⟩:=p.u2 U O;refine .rn 6 r (.D 5 3078 r (.drop .p5 (.B (.F (.D 2 268438534 r (.A r J (λa6 J=>?_) λa6 J=>?_))))))
 . exact .F (.D 4 448 r (.drop .p2 (.drop .p2 (.drop .p2 (.J (DZ r (.t r (.t r (.t r .n))) p (.o I5 r) (.inl ⟨(0,Y.1,Y.2.1,o1),r,r,J⟩)))))))
 refine .P 1030 r (.B (.M 1 r (.ln underlying98 r (.D 1 7516193796 r (.E (.lp J [32,31,30,10,2] [2,2,2,0,0] r (λj E l _=>j E l) (ji rf [2,2,2,0,0] r) ?_))))));refine λ_ _ J=>jq r λ_ x=>?_;have⟨F,O,D⟩:=x.u3 p O D;refine .F (.D 1 16106128388 r (.B (.A r J (λG J=>?_) λG J=>?_)))
 . refine .P 7516193796 r (.B (.E (.F ?_)));have⟨a7,_,H,_,_,a8,b1,J⟩:=O.ix J;refine .U underlying98 sizeOf129 a8 a7 H r (.ldW isAgg129 sizeOf129 b1 r r r r (.al zeroValue129 r λ_=>.R sizeOf129 .z r (.L 7516201988 r (.C ?_))));exact J.elim
 refine .en 1028 r (.F (.D 1 17412 r (.B (.labelS 17412 r r (.B (.F (.D 2 3298534900736 r (.E (.lx J [40,10] [] r (λj E l (b,g,q,k,m)=>λc w=>∃ d h i,j ⟨52,[],none⟩ (λV=>nO V d b) ((14,vi g) :: (41,vi q) :: E) (pc C (FP b d u h i) 138 :: OwnSl S0 63 h i b.history :: OwnMap KR P6 false u b.boxes :: CX A8 k :: CX BV m :: l) c w) (λc w W Z=>⟨a5,_,_,jf rf D Aj6 r W Z⟩) ?_)))))))));rintro⟨b,g,q,k,m⟩ _ J c w ⟨d,h,i,_,y,a,d2,d3⟩;have⟨A,K⟩:=y.u2 F x;refine Cod.at d2 d3 (.F (.D 1 7696581411840 r (.B (.A r J (λL J=>?_) λL J=>?_))))
 . refine .P 3298534900736 r (.B (.E (.B (.M 1 r ?_))));refine .cS (.f call48 r) (.o [0,1,0,0] r) r (KE (b3:=C) (b10:=u) (p6:=h) (c7:=i) a J:) λ_ _ _ c0 P=>?_;obtain⟨_,rfl,rfl,J⟩:=P;have⟨B,Q,R,a⟩:=c0.u4 A K y a;refine .rn 5 r (.L 20890720945152 r (.A r J (λS J=>?_) λS J=>?_))
   . exact .en 17408 r (.F (.D 5 448 r (.J (DZ r (.t r (.t r (.t r .n))) B (.o [3,3,0,0,0] r) (.inr ⟨(g,0,k,m,b),_,d,_,_,_,r,a,r,J⟩)))))
   refine .P 3298534900736 r (.M 1 r ?_);refine .cS (.f call75 r) (.o nl8 r) r (ZJ (b4:=C) (b11:=u) (p7:=h) (c8:=i) a J:) λ_ _ _ c1 d0=>?_;obtain⟨_,d1,_,_,rfl,a9,rfl,J⟩:=d0;have⟨_,_,X,a⟩:=c1.u4 B Q R a;exact .rn 5 r (.L 3298534900736 r (.C (.D 3 3298534900736 r (.C (.G 2 r (.H λc w W Z=>⟨_,J,d1,_,_,jf X a9 Aj6 r W Z⟩))))))
 exact .en 17408 r (.F (.D 5 448 r (.J (DZ r (.t r (.t r (.t r .n))) A (.o [3,3,0,1,0] r) (.inr ⟨(g,0,k,m,b),_,d,_,_,_,r,a,r,J⟩)))))
theorem ZK {o0 Q} (h:nO I gq3 o0) (d:HK o0 Q) :
  Fun prog 76 #[vp b2] I (kL6 o0 b2 gq3 b9 p5 c6) (λ_ v l=>∃ r,v=vi r∧l=(kL6 o0 b2 gq3 b9 p5 c6)∧Q r):=by
 exact Fun.ee func76 ntmps76 r (.F (.D 1 1 r (.B (.M 1 r (.eqNilP AiG r r r r (.L 17 r (.Z r r (.P 1 r (.M 3 r (.I isAgg136 .z r (.ln qR r (.D 2 5 r (.q1 results76 rf WZ r ⟨(A5 ((o0.history.length:Int) - 1)),r,r,d⟩)))))))))))))
theorem aJ {o0 a0 Q} (V:nO I gq3 o0) (U:I3 o0 a0 Q) :
  Fun prog 78 #[vp b2,vi a0] I (kL6 o0 b2 gq3 b9 p5 c6) (λI_ v l=>∃ r Z,v=.tuple #[.agg (GM r.1 Z),.bool r.2]∧iA I_ Z r.1∧l=(kL6 o0 b2 gq3 b9 p5 c6)∧Q r):=by
 refine Fun.ee func78 ntmps78 r (.F (.al NK r λ_=>.D 1 19 r (.B (.M 1 r (.eqNilP AiG r r r r (.G 5 r (.T U [11,12,13] r (λg U=>?_) λg U=>?_)))))))
 . exact .D 8 2097171 r (.Q r r (.F (.bd NK fD mD r (.R DJ .z r (.D 1 49 r (.J (DZ r (.w JP DJ r .z r (.t r .n)) rf (.o xY r) ⟨(FY,false),((_,_),(_,_),(_,_)),r,⟨(.nil _ none 0),(.nil _ none 0),(.nil _ none 0)⟩,r,U⟩)))))))
 refine .G 4 r (.O r (.I isAgg136 .p1 r (.O r (.ln qR r (.D 2 2097171 r (.A r U (λi U=>?_) λi U=>?_))))))
 . exact .F (.bd NK fD mD r (.R DJ .z r (.D 1 49 r (.J (DZ r (.w JP DJ r .z r (.t r .n)) rf (.o xY r) ⟨(FY,false),((_,_),(_,_),(_,_)),r,⟨(.nil _ none 0),(.nil _ none 0),(.nil _ none 0)⟩,r,U⟩)))))
 refine .P 19 r (.M 3 r (.I isAgg136 .p1 r (.G 1 r ?_)));have⟨f,E,c,U⟩:=U;refine .AG .p3 (CS c) λ_ F=>?_;cases F;refine .u qR DJ r r f (BG c f) r r (.loEW JP DJ .p3 c r r r r r λ_ j=>?_);obtain⟨_,rfl,a⟩:=j;refine .al NK r λ_=>?_;refine .R DJ .z r (.L 81 r (.B (.dr AxF 14 (.K 1 r (.X AM 0 r (.K 1 r (.X AM 0 r (.K 1 r (.X FX 0 r (.K 1 r (.X FX 0 r (.K 1 r (.X P1 0 r (.Y r ?_))))))))))))));refine .ca call38 r (BX a.1 U:) λ_ _ d m=>?_;obtain⟨G,_,_,rfl,b,U⟩:=m;have⟨V,a⟩:=d.u2 V a;refine .q 5 r (.W r (.I P1 .z r .mk) (.j 1 r r (.W r (.I FX .z r .mk) (.j 1 r r (.W r (.I AM .z r .mk) (.j 1 r r (.W r (.I AM .z r .mk) (.j 1 r r tv)))))))) (.Y r ?_);refine .ca call38 r (BX a.2.1 U:) λ_ _ q s=>?_;obtain⟨H,_,_,rfl,e,U⟩:=s;have⟨u,V,a,b⟩:=q.u4 d V a b;refine .q 5 r (.W r (.I P1 .z r .mk) (.j 1 r r (.W r (.I AM .z r .mk) (.j 1 r r (.W r (.I AM .z r .mk) (.j 1 r r tv)))))) (.Y r ?_);refine .ca call120 r (GB a.2.2 U:) λ_ _ y C=>?_;obtain⟨J,_,_,rfl,K,U⟩:=C;have⟨D,V,a,b,e⟩:=y.u5 u V a b e;exact .q 5 r (.W r (.I AM .z r .mk) (.j 1 r r (.W r (.I AM .z r .mk) (.j 1 r r tv)))) (.h r (.bd NK fD mD r .mk) (.e2 14 (.R DJ .p1 r (.D 1 49 r (.drop .z (.J (DZ r (.w JP DJ r .z r (.t r .n)) D (.o xY r) ⟨(({ E with A:=G,B:=H,On:=J }:State),true),((_,_),(_,_),(_,_)),r,⟨b,e,K⟩,r,U⟩)))))))
theorem ZL {o0 o1 Q} (O:nO I gq4 o0) (h:HL o0 o1 Q) :
  Fun prog 46 #[vp b3] I (kL4 o0 b3 gq4 b10 p6 c7 o1) (λI_ v l=>∃ r W,v=.agg (AtG r W)∧iA I_ W r.State∧l=(kL4 o0 b3 gq4 b10 p6 c7 o1)∧Q r):=by
 refine Fun.ee func46 ntmps46 r ?_;refine .F (.al zeroValue65 r λ_=>?_);refine .L 5 r (.B (.M 1 r (.eqNilP AiG r r r r (.L 69 r (.Z r r (.P 5 r (.M 1 r ?_)))))));refine .cS (.f call76 r) (.o xY r) r (ZK (b2:=b3) (b9:=b10) (p5:=p6) (c6:=c7) O h:) λ_ _ _ d H=>?_;obtain⟨F,rfl,rfl,h⟩:=H;have O:=d.u1 O;refine .rn 5 r (.bd zeroValue65 underlying65 Az2 r (.al zeroValue65 r λR=>.R sizeOf65 .z r (.L 13 r (.B (.jn h [3,2,0] [1,1,1,1,1] r (λj E l e=>j E (pc R #[vi e,vi F,vi 0,vi 0,.slice none 0 0,.slice none 0 0,.slice none 0 0] 65 :: l)) (λ_ h=>?_) ?_)))))
 . refine .M 1 r (.V 29 1 r ?_);refine .cS (.f call48 r) (.o [1,1,1,2] r) r (KE (b3:=b3) (b10:=b10) (p6:=p6) (c7:=c7) O h:) λ_ J _ a i=>?_;obtain⟨_,rfl,rfl,h⟩:=i;have⟨k,O⟩:=a.u2 d O;refine .rn 6 r (.L 4125 r (.A r h (λm h=>?_) λm h=>?_))
   . refine .C (.G 4 r (.I isAgg134 .z r ?_));have⟨K,_,p,_,_,L,b,h⟩:=O.2.2.ix h;refine .U L6 sizeOf133 L K p r (.x 0 isAgg133 b r ?_);refine .cS (.c call77 r r) (.o [3] r) r (LZ (I:=J) h:) λ_ _ _ s t=>?_;obtain⟨N,rfl,rfl,h⟩:=t;have⟨_,u,O,b⟩:=s.u4 k a O b;exact .rn 6 r (.G 1 r (.s1 sizeOf61 .p4 r (.H (je N h u [4,1,1,1,1,0] r))))
   exact .AC (je 0 h a [4,0,0,0,1,0] r)
 refine λe h=>jq r λ_ g=>?_;have⟨x,O⟩:=g.u2 d O;refine .M 2 r (.I AM .z r ?_);refine .cS (.f call78 r) (.o xY r) r (aJ (b2:=b3) (b9:=b10) (p5:=p6) (c6:=c7) O h:) λ_ _ _ A B=>?_;obtain⟨a2,C,rfl,P,rfl,h⟩:=B;have⟨D,_,O⟩:=A.u3 x g O;exact .rn 6 r (.G 4 r (.R DJ .p3 r (.ns 13 r (.S isAgg65 sizeOf65 .p3 r (.R sizeOf65 .p4 r (.L 5 r (.drop .p3 (.J (DZ r (.w isAgg65 sizeOf65 r .p3 r .n) D (.o [0,0,0,1] r) ⟨({ Status:=e,Rounds:=F,State:=a2.1 }:Result),C,r,P,r,h⟩)))))))))
theorem fR {o0 Q} (d:O9 o0 Q) :
  Fun prog 79 #[vp b2] I (kL1 o0 b2 p3 c4 b8 b10) (λ_ v l=>∃ r,v=vi r∧l=(kL1 o0 b2 p3 c4 b8 b10)∧Q r):=by
 exact Fun.ee func79 ntmps79 r (.F (.D 1 1 r (.B (.M 1 r (.eqNilP AfI r r r r (.L 17 r (.Z r r (.P 1 r (.M 3 r (.I AM .z r (.D 1 5 r (.q1 results79 rf W0 r ⟨o0.sent,r,r,d⟩))))))))))))
theorem jW {o0 a0 Q} (h:PX o0 a0 Q) :
  Fun prog 79 #[.pointer (mkA a0)] I [CX BV o0] (λD v l=>∃ r,v=vi r∧l=[CX BV o0]∧Q r):=by
 rcases a0 with _ | b
 . have h:=h.1 r;exact h.elim
 have⟨_,O,h⟩:=h.2 b rfl;refine Fun.bankR O (λd _=>fR (b2:=b) (p3:=d.1) (c4:=d.2.1) (b8:=d.2.2.1) (b10:=d.2.2.2)  h) ?_;rintro d D v l _ _ ⟨U,rfl,rfl,J⟩;exact⟨(d.1,d.2.1,d.2.2.1,d.2.2.2),[],r,tv,U,r,r,J⟩
theorem cY {o0 o1 Q} (O:nO I gq4 o0) (J:JK o0 o1 Q) :
  Fun prog 47 #[vp b3] I (kL5 o0 b3 gq4 b10 p6 c7 o1) (λ_ v l=>∃ r,v=vi r∧l=(kL5 o0 b3 gq4 b10 p6 c7 o1)∧Q r):=by
 refine Fun.ee func47 ntmps47 r (.M 1 r (.V 1 1 r (.L 9 r (.B (.M 1 r (.neNilP AiG r r r r (.L 137 r (.Q r r (.M 3 r (.I isAgg135 .z r (.rangeM vC .p1 r r r λp=>.L 4105 r (.E (.lp J [12,0] xY r (λj E l (k,b)=>j ((3,vi b) :: E) (OwnIt KR P6 false b10 p o0.boxes k none :: l)) (ji rf W0 r) ?_)))))))))))));rintro⟨k,b⟩ _ J;refine jq r λs a=>?_;have O:=a.u1 O;refine .F (.nextM .z r J r r (λJ c=>?_) (λ_ t _ _ J m d c=>?_))
 . exact .D 1 20489 r (.B (.Z r r (.en 9 r (.F (.D 2 5 r (.itEnd .z (.q1 results47 a [1,0,0,0] r ⟨b,r,r,J⟩)))))))
 cases m;cases d;refine .D 1 20489 r (.B (.Q r r (.P 4105 r (.E (.F (.entryM .z r r r (.D 2 4137 r (.C (.G 2 r ?_)))))))));refine .cS (.f call79 r) (.o [3] r) r (jW (I:=s) J:) λ_ _ _ g h=>?_;obtain⟨n,rfl,rfl,J⟩:=h;have⟨i,O⟩:=g.u2 a O;exact .rn 4 r (.G 2 r (.H (je (t,A5 (b+n)) J i [1,1,1,0] r)))
theorem AjH {a0 a1 a2 Q} (U:lTa I ga1 a0) (V:RepSl AeH I p3 c4 a1) (O:bD a0 a1 a2 Q) :
  B3 prog 22 [.agg (YO a0 ga1),.slice p3 a1.length c4,vi a2] I (λZ v=>∃ r W,v=.tuple #[.agg (AtF r.1 W),vi r.2]∧iA Z W r.1.Result.State∧Q r):=by
 refine Fun.ee func22 ntmps22 r (.bank0 A8 (.bank0 BV (.F (.bx r λ_=>.al Ar6 r λ_=>.G 1 r (.ns 78 r (.S bX WK .p1 r (.G 2 r (.cS (.f call45 r) (.o [3,2] r) r (nK U V O:) λ_ _ _ e b=>?_))))))));rcases b with b | b
 . obtain⟨_,rfl,rfl,O⟩:=b; exact O.elim
 obtain⟨d,h,_,i,j,k,rfl,a,rfl,O⟩:=b;have⟨U,V⟩:=e.u2 U V;refine .rn 7 r (.D 7 1856 r (.drop .p6 (.B (.F (.D 2 2099008 r (.A r O (λD O=>?_) λD O=>?_))))))
 . exact .F (.bd Ar6 underlying67 AxW r (.G 1 r (.R xM .p5 r (.D 1 192 r (.drop .p2 (.drop .p2 (.drop .p2 (.J (B5 r (.w isAgg67 xM r .p2 r (.t r .n)) e ⟨(({ Result:=({ Status:=0,Rounds:=0,State:=FY }:Result),Sent:=0,Windows:=0 }:YA),d.2.1),((_,_),(_,_),(_,_)),r,⟨(.nil _ _ _),(.nil _ _ _),(.nil _ _ _)⟩,O⟩)))))))))
 refine .P 1856 r (.M 1 r ?_);refine .cS (.f call46 r) (.o [2,2,2,0] r) r (ZL (b3:=h) (b10:=i) (p6:=j) (c7:=k) a O:) λ_ _ _ F G=>?_;obtain⟨y,l,rfl,c,rfl,O⟩:=G;have⟨H,a⟩:=F.u2 e a;refine .rn 6 r (.G 1 r ?_);refine .cS (.f call47 r) (.o [0,0,0,1] r) r (cY (b3:=h) (b10:=i) (p6:=j) (c7:=k) a O:) λ_ _ _ K L=>?_;obtain⟨m,rfl,rfl,O⟩:=L;have⟨p,a,c⟩:=K.u3 H a c;refine .rn 6 r (.G 1 r (.bd Ar6 underlying67 AxW r (.al Ar6 r λ_=>?_)));refine .R xM .z r (.L 3392 r (.B (.M 1 r ?_)));refine .cS (.f call48 r) (.o [1,1,1,2] r) r (KE (b3:=h) (b10:=i) (p6:=j) (c7:=k) a O:) λ_ _ _ s u=>?_;obtain⟨_,rfl,rfl,O⟩:=u;have⟨g,a,c⟩:=s.u3 p a c;refine .rn 7 r (.D 1 4294970432 r (.drop .z (.drop .z (.drop .z (.A r O (λx O=>?_) λx O=>?_)))))
 . exact .C (.G 2 r (.s1 sizeOf61 .p1 r (.ns 3136 r (.S isAgg67 xM .p1 r (.G 1 r (.R xM .p3 r (.D 1 192 r (.drop .p1 (.J (B5 r (.w isAgg67 xM r .p2 r (.t r .n)) g ⟨(({ Result:=({ y with Status:=4 }:Result),Sent:=m,Windows:=d.1 }:YA),d.2.1),l,r,c,O⟩))))))))))
 exact .P 3136 r (.F (.S isAgg67 xM .p1 r (.G 1 r (.R xM .p3 r (.D 1 192 r (.drop .p1 (.J (B5 r (.w isAgg67 xM r .p2 r (.t r .n)) g ⟨(({ Result:=y,Sent:=m,Windows:=d.1 }:YA),d.2.1),l,r,c,O⟩))))))))
theorem rF {a0 a1 a2 a3 Q} (U:RepSl CA I p1 c2 a0.Edges) (V:RepSl B0 I p4 c5 a1) (O:XB a0 a1 a2 a3 Q) :
  B3 prog 6 [.agg #[vi a0.N,.slice p1 a0.Edges.length c2],.slice p4 a1.length c5,vi a2,vi a3] I (λZ v=>∃ r p7 c8,v=.tuple #[.slice p7 r.1.length c8,vi r.2.1,vi r.2.2]∧RepSl B0 Z p7 c8 r.1∧Q r):=by
 refine Fun.ee func6 ntmps6 r ?_;refine .F (.bx r λ_=>?_);refine .G 3 r (.ns 30 r (.S GA DC .z r (.G 3 r ?_)));refine .ca call21 r (yA U V O:) λ_ y d j=>?_;obtain⟨_,_,rfl,c,O⟩:=j;have⟨U,V⟩:=d.u2 U V;refine .al Ar5 r λ_=>.R WK .z r (.L 2048 r (.drop .p1 (.B (.dr [0,1,2,3,9,4,5,6,7,8,999,10] 11 (.h r (.S bX WK .z r .mk) (.h r (.S bX WK .z r .mk) (.K 1 r (.X AM 0 r (.aP Ar6 r (.Y r (.v call23 (AdH c O:) r λ_ O=>?_)))))))))));refine .q 1 r (.W r (.S bX WK .z r .mk) tv) (.Y r ?_);refine .ca call22 r (AjH (I:=y) c (.nil _ none 0) O:) λ_ _ m p=>?_;obtain⟨e,_,rfl,f,O⟩:=p;have⟨g,c⟩:=m.u2 d c;refine .q 1 r tv (.K 3 r (.b r λ_=>DrawD.nop (.Y r (.R xM .p1 r (.P 2 r r r (.j 1 r r tv) (.e2 11 (.D 1 5120 r (.drop .z (.B (.F (.D 2 268440576 r (.A r O (λq O=>?_) λq O=>?_))))))))))))
 . exact .F (.D 4 1792 r (.drop .z (.J (B5 r (.t r (.t r (.t r .n))) g ⟨(([]:List Int),0,e.2),_,_,r,(.nil _ _ _),O⟩))))
 refine .P 5120 r (.B (.dr [0,1,2,4,5,6,7,3,8,9] 10 (.K 2 r (.h r (.AA JP DJ r .z (.o 5 r) r r r .mk) (.K 2 r (.X AM 0 r (.K 1 r (.Y r ?_))))))));refine .ca call24 r (AdI f O:) λ_ _ u w=>?_;obtain⟨A,_,_,rfl,B,O⟩:=w;have⟨x,f⟩:=u.u2 g f;exact .q 1 r (.j 1 r r (.W r (.I AM .z r .mk) (.j 2 r r tv))) (.K 2 r (.e2 10 (.D 1 1792 r (.drop .z (.J (B5 r (.t r (.t r (.t r .n))) x ⟨(A,e.1.Result.Rounds,e.2),_,_,r,B,O⟩))))))
theorem yP {a0 a1 Q} (V:RepSl CA I p1 c2 a0.G.Edges) (U:RepSl B0 I p4 c5 a1) (D:bE a0 a1 Q) :
  B3 prog 3 [.agg (qJ a0 p1 c2),.slice p4 a1.length c5] I (λ_=>bV Q):=by
 refine Fun.ee func3 ntmps3 r ?_;refine .F (.bx r λ_=>?_);refine .G 1 r (.ns 6 r (.S isAgg26 sizeOf26 .z r ?_));refine .ca call5 r (mX V D:) λ_ _ o f4=>?_;obtain⟨_,_,_,rfl,a,D⟩:=f4;have⟨V,U⟩:=o.u2 V U;refine .G 5 r (.al S6 r λ_=>.R DC .z r (.D 3 418 r (.drop .p1 (.F (.D 1 930 r (.B (.jx D [8,7,5] [0] r (λj E l p=>λc w=>∃ q s,j ⟨125,[],none⟩ (λI_=>True) ((9,.slice q p.length s) :: E) (OwnSl B0 2 q s p :: l) c w) (λ_ D=>?_) ?_)))))))
 . refine .F (.D 1 1954 r (.E (.own0 B0 2 (.lx D [8,7,5,1] [1] r (λj E l (g,t)=>λc w=>∃ u v,j ⟨125,[],none⟩ (λI_=>True) ((9,.slice u g.length v) :: (10,vi t) :: E) (OwnSl B0 2 u v g :: l) c w) (λc w J O=>⟨_,_,jf rf tv I5 r J O⟩) ?_))));rintro⟨g,t⟩ _ D c w ⟨u,v,_,h,_,W,Z⟩;have⟨_,U,a⟩:=h.u3 o U a;refine Cod.at W Z (.B (.M 2 r (.ln DF r (.G 2 r (.T D [32,33] r (λL D=>?_) λL D=>?_)))))
   . refine .D 3 68719478690 r (.A r D (λb0 D=>?_) λb0 D=>?_)
     . refine .P 1954 r (.B (.E (.C (.G 3 r ?_))));have⟨f5,a9,P,_,_,f6,R,D⟩:=U.ix D;refine .U DF XP f6 f5 P r (.x 0 LY R r (.G 1 r (.bs 1 DF XP zv2 r λ_=>?_)));have⟨S,D⟩:=D;exact .ap (ys:=[Y4 .i64 a9 2147483647]) .p1 DF DF IN2 r (.box .z (.one r) r) S λ_ _=>.D 1 1954 r (.drop .p1 (.C (.G 3 r (.H λc w J O=>⟨_,D,_,_,jf h tv I5 r J O⟩))))
     exact .exit λc w J O=>⟨g,D,_,_,jf h tv I5 r J O⟩
   exact .D 3 68719478690 r (.Z r r (.exit λc w J O=>⟨g,D,_,_,jf h tv I5 r J O⟩))
 rintro p D c w ⟨q,s,_,B,_,W,Z⟩;have⟨T,a⟩:=B.u2 o a;refine Cod.at W Z (.F (.S GA DC .p1 r (.G 3 r (.y .z λ_ c0 d=>?_))));have⟨d1,d5,a⟩:=c0.u3 T B a;refine .ca call6 r (rF a d D:) λ_ _ Y f0=>?_;obtain⟨_,_,_,rfl,b,D⟩:=f0;have⟨a2,a3,a,d⟩:=Y.u4 d1 d5 a d;refine .G 7 r (.ns 11168 r (.S GA DC .z r ?_));refine .ca call7 r (yH a D:) λ_ _ a5 a6=>?_;obtain⟨_,_,_,rfl,x,D⟩:=a6;have⟨a7,a8,a,d,b⟩:=a5.u5 a2 a3 a d b;refine .G 3 r ?_;refine .ca call6 r (rF x d D:) λ_ _ X b1=>?_;obtain⟨_,_,_,rfl,i,D⟩:=b1;have⟨b2,b3,a,d,b,x⟩:=X.u6 a7 a8 a d b x;refine .G 7 r (.ns 92192 r (.S GA DC .z r ?_));refine .ca call9 r (wO a D:) λ_ _ b5 b6=>?_;obtain⟨_,_,_,rfl,y,D⟩:=b6;have⟨b7,b8,a,b,i⟩:=b5.u5 b2 b3 a b i;refine .ca call8 r (wN y D:) λ_ _ c1 c3=>?_;obtain⟨_,_,_,rfl,e,D⟩:=c3;have⟨f,c4,a,b,i,y⟩:=c1.u6 b7 b8 a b i y;refine .D 1 223264 r (.B (.M 3 r (.T D [70,71] r (λc6 D=>?_) λc6 D=>?_)))
 . exact .D 20 2475880078570760549798381600 r (.Q r r (.F (.D 1 16 r (.drop .z (.r1 results3 r f ⟨false,r,D⟩)))))
 refine .G 4 r (.T D [73,74,75] r (λc7 D=>?_) λc7 D=>?_)
 . exact .D 16 2475880078570760549798381600 r (.Q r r (.F (.D 1 16 r (.drop .z (.r1 results3 r f ⟨false,r,D⟩)))))
 refine .G 2 r ?_;refine .O r (.AE call10 r (pU b i D:) r r λ_ c9=>?_);obtain⟨_,rfl,D⟩:=c9;refine .G 3 r (.T D [79,80,81] r (λd0 D=>?_) λd0 D=>?_)
 . exact .D 10 2475880078570760549798381600 r (.Q r r (.F (.D 1 16 r (.drop .z (.r1 results3 r f ⟨false,r,D⟩)))))
 refine .O r (.S GA DC .z r (.G 1 r ?_));refine .O r (.AE call11 r (yI a b D:) r r λ_ d2=>?_);obtain⟨_,rfl,D⟩:=d2;refine .G 3 r (.T D [85,86,87] r (λd3 D=>?_) λd3 D=>?_)
 . exact .D 4 2475880078570760549798381600 r (.Q r r (.F (.D 1 16 r (.drop .z (.r1 results3 r f ⟨false,r,D⟩)))))
 refine .G 1 r (.O r (.ln fC r (.D 2 2475880078570760549798381600 r (.A r D (λd4 D=>?_) λd4 D=>?_))))
 . exact .F (.D 1 16 r (.drop .z (.r1 results3 r f ⟨false,r,D⟩)))
 refine .P 133152 r (.M 1 r (.I AM .z r (.G 1 r ?_)));refine .ca call12 r (AjD b D:) λ_ _ d6 d7=>?_;obtain⟨_,_,_,rfl,k,D⟩:=d7;have⟨d8,d9,a,b,e⟩:=d6.u5 f c4 a b e;refine .D 1 393216 r (.drop .z (.B (.F (.D 1 917504 r (.E (.lp D [18,17] [] r (λj E l A=>j ((19,vi A) :: E) l) (ji rf [] r) ?_))))));refine λA _ D=>jq r λ_ C=>?_;have⟨a4,e0,e,k⟩:=C.u4 d8 d9 e k;refine .B (.M 2 r (.ln fC r (.D 1 633825300114114700748352520192 r (.A r D (λe1 D=>?_) λe1 D=>?_))))
 . refine .P 917504 r (.B (.E (.F (.D 1 1966080 r (.B (.F (.D 1 4063232 r (.E (.lp D [19,18,17] [] r (λj E l (K,m)=>j ((20,.bool K) :: (21,vi m) :: E) l) (ji rf [] r) ?_)))))))));rintro⟨K,m⟩ _ D;refine jq r λ_ n=>?_;have⟨e2,_,e3,e,k⟩:=n.u5 a4 e0 C e k;refine .B (.M 3 r ?_);have⟨f7,_,F,D⟩:=D;obtain⟨_,_,_,f8,e4,_,_,rfl,_⟩:=e.2 _ _ F;refine .U fC aB f8 f7 F r (.x 0 EJ e4 r (.ln BE r (.D 1 324518553658426726783156024639488 r (.A r D (λe5 D=>?_) λe5 D=>?_))))
   . refine .P 4063232 r (.B (.E (.C (.G 2 r (.T D [20,111,112] r (λe6 D=>?_) λe6 D=>?_)))))
     . exact .D 11 4063232 r (.C (.G 3 r (.H (je (true,A5 (m+1)) D n [] r))))
     refine .G 3 r ?_;have⟨f9,_,H,D⟩:=D;obtain⟨_,_,_,g0,e7,_,_,rfl,g1⟩:=e.2 _ _ H;refine .O r (.U fC aB g0 f9 H r (.O r (.x 0 EJ e7 r (.G 1 r ?_))));have⟨g2,_,e8,_,_,g3,e9,D⟩:=g1.ix D;refine .O r (.U BE D3 g3 g2 e8 r (.O r (.x 0 AM e9 r ?_)));refine .O r (.AE call13 r (AgS k D:) r r λ_ f1=>?_);obtain⟨g4,rfl,D⟩:=f1;exact .D 2 4063232 r (.C (.G 3 r (.H (je (g4,A5 (m+1)) D n [] r))))
   refine .en 1966080 r (.F (.D 2 21267647932558653966460912964486430720 r (.A r D (λf2 D=>?_) λf2 D=>?_)))
   . exact .F (.D 1 16 r (.r1 results3 r e2 ⟨false,r,D⟩))
   exact .P 917504 r (.C (.G 3 r (.H (je (A5 (A+1)) D e3 [] r))))
 exact .en 0 r (.F (.D 1 16 r (.r1 results3 r a4 ⟨true,r,D⟩)))
end Go.Proofs.YtieniichmjgmcaaGreat
