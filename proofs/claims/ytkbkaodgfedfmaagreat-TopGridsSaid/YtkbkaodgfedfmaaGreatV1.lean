/- The walks. -/
import Derived.Test.YtkbkaodgfedfmaaGreatSL
namespace Go.Proofs.YtkbkaodgfedfmaaGreat
open Go Go.Fw
set_option linter.unusedVariables false
set_option linter.unusedSimpArgs false
set_option maxRecDepth 8000
set_option maxHeartbeats 1000000
open Tryz
abbrev TM (o:A0)(x0:Nat)(x1:aTp)(x2:Option Addr)(x3:Nat)(x4:Nat)(x5:Option Addr)(x6:Nat)(x7:Nat)(x8:Nat):List HA:=[pto x0 (.cells (FE o x1 x2 x3 x4 x5 x6 x7 x8) 108 (0,0)),QSl FO 121 x2 x3 o.out,OwnMap (Value.int .i64) bE true x4 o.shares,OwnSl EA 204 x5 x6 o.sums,OwnMap (Value.int .i64) eB false x7 o.came,OwnMap (Value.int .i64) FO true x8 o.votes]
abbrev kL1 (o:B4)(x0:Nat)(x1:Option Addr)(x2:Nat)(x3:Nat)(x4:Nat):List HA:=[pto x0 (.cells (xZ o x1 x2 x3 x4) 131 (0,0)),OwnSl AR 3 x1 x2 o.row,OwnMap (Value.int .i64) FO true x3 o.by_,OwnMap (Value.int .i64) AR false x4 o.often]
abbrev kL2 (o:A7)(x0:Nat)(x1:Option Addr)(x2:Nat)(x3:Option Addr)(x4:Nat):List HA:=[pto x0 (.cells (jI o x1 x2 x3 x4) 273 (0,0)),OwnSl E0 311 x1 x2 o.heads,OwnSl EA 204 x3 x4 o.out]
abbrev kL3 (o:A4)(x0:Nat)(x1:aTs)(x2:Nat)(x3:Option Addr)(x4:Nat)(x5:A2):List HA:=[pto x0 (.cells (BS o x1 x2 x3 x4) 63 (0,0)),OwnMap G8 IB false x2 o.boxes,OwnSl H5 48 x3 x4 o.history,BL A5 x5]
abbrev kL4 (o:A4)(x0:Nat)(x1:aTc)(x2:Option Addr)(x3:Nat)(x4:Nat)(x5:Option Addr)(x6:Nat)(x7:Option Addr)(x8:Nat)(x9:A2):List HA:=[pto x0 (.cells (bF o x1 x2 x3 x4 x5 x6 x7 x8) 63 (0,0)),OwnSl IB 64 x2 x3 o.workers,OwnMap G8 IB false x4 o.boxes,OwnSl IB 64 x5 x6 o.owners,OwnSl H5 48 x7 x8 o.history,BL A5 x9]
abbrev kL5 (o:A4)(x0:Nat)(x1:aTs)(x2:Nat)(x3:Option Addr)(x4:Nat)(x5:A2)(x6:A9):List HA:=[pto x0 (.cells (BS o x1 x2 x3 x4) 63 (0,0)),OwnMap G8 IB false x2 o.boxes,OwnSl H5 48 x3 x4 o.history,BL A5 x5,BL B7 x6]
abbrev kL6 (o:A4)(x0:Nat)(x1:aTs)(x2:Nat)(x3:Option Addr)(x4:Nat):List HA:=[pto x0 (.cells (BS o x1 x2 x3 x4) 63 (0,0)),OwnMap G8 IB false x2 o.boxes,OwnSl H5 48 x3 x4 o.history]
variable {I:IH}
variable {b2 b3 b4 b5 b6 b7 b8 b9 c2 c3 c4 c5 c6 c7 c8 c9 lr b10 b11 b13 b16 b17 b18 b21 b22 b26 c10 c11 c12 c13 c18 c20 c24:Nat}
variable {p1 p2 p3 p4 p5 p6 p7 p8 p9 p10 p11 p12 p17 p19 p23:Option Addr}
variable {Rr:Nat→HA}
variable {ga1:aTa}
variable {gb1:aTb}
variable {gc1 gc3 gc4:aTc}
variable {gd1 gd11:aTd}
variable {gf1 gf4 gf11:aTf}
variable {gi1 gi3 gi4 gi8 gi14 gi17:aTi}
variable {gj1 gj2 gj11 gj19:aTj}
variable {gk1 gk3 gk10 gk14:aTk}
variable {gl1:aTl}
variable {gm1:aTm}
variable {gp3:aTp}
variable {gs3 gs4 gs5:aTs}
theorem KG {a0 a1:Int} {Q:Int->Prop} (hd:FZ a0 a1 Q) :
  AY prog 60 [.int .i64 a0,.int .i64 a1] I (λ_=>Y9 Q):=by
 refine Fun.en func60 ntmps60 r λw0 M=>.sr (.kn 1 3 r (.seq (.sk 3 r (.spl hd [6,7] r (λa hd=>?_) λa hd=>?_))))
 . exact .kn 3 1027 r (.condKT r r (.sr (.kn 1 16 r (.r0 results60 r ⟨0,r,hd⟩))))
 refine .kn 3 1027 r (.condP r hd (λb hd=>?_) λb hd=>?_)
 . exact .sr (.kn 1 16 r (.r0 results60 r ⟨0,r,hd⟩))
 refine .sn 3 r (.sk 2 r ?_);obtain⟨c,hd⟩:=hd;exact .rem r r c r r (.kn 1 16 r (.r0 results60 r ⟨(a0.tmod a1),r,hd⟩))
theorem rO {a0:Graph} {Q:Graph->Prop} (R3:RepSl CW I p1 c2 a0.Edges) (hd:U3 a0 Q) :
  AY prog 33 [.agg #[.int .i64 a0.N,.slice p1 a0.Edges.length c2]] I (o1_ Q):=by
 refine Fun.en func33 ntmps33 r λw0 M=>.sr (.bx r λa3=>.al XD r λa4=>.nk 6 1 r (.lo AE .p1 r (.cq call60 (KG (I:=I) hd:) r λg hd=>.bd XD Aa4 AfS r (.al XD r λS=>?_))));refine .sa EB .z r (.no 14 r (.seq (.sr (.kn 1 30 r (.block (.own0 CW 139 (.lx hd [3,2,1] [3,2] r (λj E l (a,d)=>λc w=>∃ e f,j ⟨51,[],none⟩ (λI_=>True) ((4,.int .i64 d) :: E) (pto S (.cells #[.int .i64 g,.slice e a.length f] 28 (0,0)) :: OwnSl CW 139 e f a :: l) c w) (λc w ho hs=>⟨_,_,jf rf tv [1,0,1,0] r ho hs⟩) ?_)))))));rintro⟨a,d⟩ R hd c w ⟨e,f,i,b,_,hok,hsym⟩;have R3:=b.u1 R3;refine Cod.at hok hsym (.seq (.sk 2 r (.lo XC .p2 r (.ln HD r (.ks 2 r (.spl hd [14,15] r (λp hd=>?_) λp hd=>?_))))))
 . refine .ks 4 r (.spl hd [17,18,19] r (λq hd=>?_) λq hd=>?_)
   . refine .ks 1 r (.yes r (.lo AE .z r (.kn 2 8388638 r (.condP r hd (λs hd=>?_) λs hd=>?_))))
     . refine .sn 30 r (.seq (.block (.sk 1 r (.lo XC .p2 r (.ks 1 r ?_)))));obtain⟨J,k,t,T,o155,K,u,hd⟩:=R3.ix hd;refine .ixb HD D3 K J t r (.ldW L7 D3 u r r r r (.al MR r λU=>.sa D3 .z r (.no 62 r (.dr [0,1,2,3,4,5,7,8,9,10,12,13,14,6,11,15,16,17] 18 (.fk 1 r (.hl XC 1 r (.fk 1 r (.hl AE 0 r (.fk 1 r (.hl AE 1 r (.fk 1 r ?_)))))))))));refine .hl AE 0 r (.fk 1 r (.hl AE 1 r (.fk 1 r (.hl O7 0 r (.fk 1 r (.ww r (.cq call60 (KG (I:=i) hd:) r λm hd=>?_)))))));refine .so 5 r r r (.ck 1 r r (.ch r (.lo O7 .z r .mk) (.ck 1 r r (.ch r (.lo AE .p1 r .mk) (.ck 1 r r (.ch r (.lo AE .z r .mk) (.ck 1 r r (.ch r (.lo XC .p1 r .mk) (.ck 1 r r tv))))))))) (.ww r (.cq call60 (KG (I:=i) hd:) r λo hd=>?_));refine .so 5 r r r (.ck 1 r r (.ch r (.lo O7 .z r .mk) (.ck 1 r r (.ch r (.lo XC .p1 r .mk) (.ck 1 r r tv))))) (.h r (.bd MR underlying139 AiT r .mk) (.ww r (.bs 1 HD D3 MR r λV=>?_)));refine .so 6 r r r (.ch r (.lo XC .p2 r .mk) (.ck 1 r r tv)) (.ww r ?_);obtain⟨y,hd⟩:=hd;exact .append (ys:=[({ From:=m,To:=o,W:=XQ .i64 k.W 2147483647 }:B5)]) 24 .p3 HD HD pN r r r r r r r r r (.box .z (.one r) r) y r r λX Y=>.so 6 r r r tv (.e2 18 (.ks 1 r (.s1 sizeOf26 .p3 r (.no 30 r (.drop .p1 (.drop .p1 (.region (.ks 3 r (.nil' λc w ho hs=>⟨((a++([({ From:=m,To:=o,W:=XQ .i64 k.W 2147483647 }:B5)])),A6 (d+1)),hd,_,_,jf b tv [1,0,0,0] r ho hs⟩)))))))))
     refine .en 12 r (.drop .p2 (.sr (.lw HY EB .z r (.sa EB .p2 r (.no 4 r (.drop .z (.pub .z λZ A L=>?_)))))));have B:=A.u1 b;exact .ret (B0 r (.w HY EB r .z r .n) B ⟨({ N:=g,Edges:=a }:Graph),_,_,r,L,hd⟩)
   refine .kn 4 8388638 r (.condKF r r (.en 12 r (.drop .p2 (.sr (.lw HY EB .z r (.sa EB .p2 r (.no 4 r (.drop .z (.pub .z λa1 C O=>?_)))))))));have D:=C.u1 b;exact .ret (B0 r (.w HY EB r .z r .n) D ⟨({ N:=g,Edges:=a }:Graph),_,_,r,O,hd⟩)
 refine .kn 8 8388638 r (.condKF r r (.en 12 r (.drop .p2 (.sr (.lw HY EB .z r (.sa EB .p2 r (.no 4 r (.drop .z (.pub .z λa2 F P=>?_)))))))));have G:=F.u1 b;exact .ret (B0 r (.w HY EB r .z r .n) G ⟨({ N:=g,Edges:=a }:Graph),_,_,r,P,hd⟩)
theorem wO {a0:Plan} {a1:Int} {Q:Plan->Prop} (R3:RepSl AR I p1 c2 a0.Draws) (hd:WM a0 a1 Q) :
  AY prog 34 [.agg (IW a0 p1 c2),.int .i64 a1] I (λI_ v=>∃ r p4 c5,v=.agg (IW r p4 c5)∧RepSl AR I_ p4 c5 r.Draws∧Q r):=by
 refine Fun.en func34 ntmps34 r λw0 M=>.sr (.bx r λa2=>.al zeroValue25 r λS=>.no 22 r (.seq (.jn hd [4,2,1] [0] r (λj E l p=>j E (pto a2 (.cells #[.int .i64 p,.int .i64 a0.N,.int .i64 a0.Source,.int .i64 a0.Length,.slice p1 a0.Draws.length c2] 25 (0,0)) :: l)) (λT hd=>?_) ?_)))
 . refine .sk 1 r (.lo XB .p1 r (.ks 2 r (.spl hd [9,10] r (λP hd=>?_) λP hd=>?_)))
   . exact .kn 4 16406 r (.condKT r r (.region (.ks 1 r (.s1 sizeOf22 .p1 r (.nil' (je 3 hd rf [1,0] r))))))
   refine .ks 1 r (.yes r (.lo XB .p1 r (.kn 2 16406 r (.condP r hd (λR hd=>?_) λR hd=>?_))))
   . exact .region (.ks 1 r (.s1 sizeOf22 .p1 r (.nil' (je 3 hd rf [1,0] r))))
   exact .skip' (je a0.Kind hd rf [1,0] r)
 refine λp hd=>jq r λO g=>?_;have R3:=g.u1 R3;refine .sk 2 r (.s1 D5 .z r (.nk 22 1 r (.lo AE .z r (.ks 1 r (.cq call60 (KG (I:=O) hd:) r λq hd=>.ks 1 r (.s1 D5 .z r (.nk 22 1 r (.lo AE .z r (.cq call60 (KG (I:=O) hd:) r λs hd=>?_)))))))));refine .ks 1 r (.s1 D5 .z r (.nk 22 1 r (.no 54 r (.seq (.jx hd [4,2,1] [0,0] r (λj E l a=>λc w=>∃ h i,j ⟨58,[],none⟩ (λI_=>True) ((5,.slice h a.length i) :: E) (OwnSl AR 2 h i a :: l) c w) (λa7 hd=>?_) ?_)))))
 . refine .sr (.kn 1 118 r (.block (.own0 AR 2 (.lx hd [4,2,1] [1,1] r (λj E l (b,k)=>λc w=>∃ m o,j ⟨58,[],none⟩ (λI_=>True) ((5,.slice m b.length o) :: (6,.int .i64 k) :: E) (OwnSl AR 2 m o b :: l) c w) (λc w ho hs=>⟨_,_,jf rf tv [0,0,0] r ho hs⟩) ?_))));rintro⟨b,k⟩ Z hd c w ⟨m,o,a8,d,_,hok,hsym⟩;obtain⟨a3,R3⟩:=d.u2 g R3;refine Cod.at hok hsym (.seq (.sk 2 r (.lo DY .p1 r (.ln D7 r (.ks 2 r (.spl hd [31,32] r (λu hd=>?_) λu hd=>?_))))))
   . refine .kn 3 34359738486 r (.condP r hd (λx hd=>?_) λx hd=>?_)
     . refine .sn 118 r (.seq (.block (.region (.ks 2 r (.lo DY .p1 r (.ks 1 r ?_))))));obtain⟨U,t,y,a9,o278,V,A,hd⟩:=R3.ix hd;refine .ixb D7 bK V U y r (.ldb 0 O7 A r (.ks 1 r (.bs 1 D7 bK zv2 r λb0=>?_)));obtain⟨B,hd⟩:=hd;exact .append (ys:=[XQ .i64 t 2147483647]) 8 .p1 D7 D7 IN2 r r r r r r r r r (.box .z (.one r) r) B r r λb1 b2=>.kn 1 118 r (.drop .p1 (.region (.ks 3 r (.nil' λc w ho hs=>⟨((b++([XQ .i64 t 2147483647])),A6 (k+1)),hd,_,_,jf d tv [0,0,0] r ho hs⟩))))
     exact .exit λc w ho hs=>⟨b,hd,_,_,jf d tv [0,0,0] r ho hs⟩
   exact .kn 3 34359738486 r (.condKF r r (.exit λc w ho hs=>⟨b,hd,_,_,jf d tv [0,0,0] r ho hs⟩))
 rintro a hd c w ⟨h,i,b3,e,_,hok,hsym⟩;obtain⟨f,R3⟩:=e.u2 g R3;refine Cod.at hok hsym (.sk 2 r (.s1 mI .p1 r (.no 22 r (.seq (.sk 3 r (.spl hd [50,51] r (λC hd=>?_) λC hd=>?_))))))
 . refine .ks 1 r (.yes r (.lo XB .p1 r (.kn 2 36028797018963988 r (.condP r hd (λD hd=>?_) λD hd=>?_))))
   . refine .region (.ks 1 r (.s1 sizeOf22 .p1 r (.ns 20 r (.lw JV HT .p1 r (.sa HT .p2 r (.no 16 r (.drop .p1 (.pub .z λb4 F W=>?_))))))));obtain⟨G,a4⟩:=F.u2 f e;exact .ret (B0 r (.w JV HT r .z r .n) G ⟨({ Kind:=3,N:=a1,Source:=q,Length:=s,Draws:=a }:Plan),_,_,r,W,hd⟩)
   refine .sn 20 r (.sr (.lw JV HT .p1 r (.sa HT .p2 r (.no 16 r (.drop .p1 (.pub .z λb5 H X=>?_))))));obtain⟨J,a5⟩:=H.u2 f e;exact .ret (B0 r (.w JV HT r .z r .n) J ⟨({ Kind:=p,N:=a1,Source:=q,Length:=s,Draws:=a }:Plan),_,_,r,X,hd⟩)
 refine .kn 4 36028797018963988 r (.condKF r r (.sn 20 r (.sr (.lw JV HT .p1 r (.sa HT .p2 r (.no 16 r (.drop .p1 (.pub .z λb6 K Y=>?_))))))));obtain⟨L,a6⟩:=K.u2 f e;exact .ret (B0 r (.w JV HT r .z r .n) L ⟨({ Kind:=p,N:=a1,Source:=q,Length:=s,Draws:=a }:Plan),_,_,r,Y,hd⟩)
theorem iD {a0:H4} {Q:(Plan×Graph×Int)->Prop} (R2:lTa I ga1 a0) (hd:LX a0 Q) :
  AY prog 14 [.agg (xY a0 ga1)] I (λI_ v=>∃ r p3 c4 p6 c7,v=.tuple #[.agg (IW r.1 p3 c4),.agg #[.int .i64 r.2.1.N,.slice p6 r.2.1.Edges.length c7],.int .i64 r.2.2]∧RepSl AR I_ p3 c4 r.1.Draws∧RepSl CW I_ p6 c7 r.2.1.Edges∧Q r):=by
 refine Fun.en func14 ntmps14 r λw0 M=>?_;refine .sr (.bx r λm=>.al zeroValue25 r λp=>?_);refine .al XD r λq=>.ks 1 r (.nk 14 1 r (.loadA HY EB r .p2 (.o 2 r) r r r (.call call33 r (rO R2.2 hd:) r r λs u a d=>?_)));obtain⟨j,x,y,rfl,b,hd⟩:=d;have R2:=a.u1 R2;refine .al XD r λA=>.sa EB .z r (.no 46 r (.seq (.dr [0,1,2,3,5,6,7,8,9,4,10,11] 12 (.fk 1 r (.h r (.loadA JV HT r .p3 (.o 5 r) r r r .mk) (.fk 1 r (.hl AE 0 r (.h r (.lw HY EB .z r .mk) (.fk 1 r ?_)))))))));refine .hl isAgg5 3 r (.h r (.conv un5 eU r r r .mk) (.h r (.rem r r (by decide) r r .mk) (.ww r ?_)));refine .call call34 r (wO R2.1 hd:) r r λB C f g=>?_;obtain⟨k,D,E,rfl,l,hd⟩:=g;obtain⟨i,R2,b⟩:=f.u3 a R2 b;refine .so 4 r r r (.ch r (.rem r r (by decide) r r .mk) (.ch r (.conv un5 eU r r r .mk) (.ch r (.lo isAgg5 .p3 r .mk) (.ck 1 r r (.ch r (.lw HY EB .z r .mk) tv))))) (.ww r ?_);refine .sa HT .p2 r (.sn 4 r r r (.ch r (.rem r r (by decide) r r .mk) (.ch r (.conv un5 eU r r r .mk) (.ch r (.lo isAgg5 .p3 r .mk) (.ck 1 r r (.ch r (.lw HY EB .z r .mk) tv))))) (.ww r ?_));exact .sa EB .p1 r (.sn 4 r r r (.ch r (.rem r r (by decide) r r .mk) (.ch r (.conv un5 eU r r r .mk) (.ch r (.lo isAgg5 .p3 r .mk) (.ck 1 r r tv)))) (.e2 12 (.kn 1 28 r (.drop .z (.drop .p2 (.ret (B0 r (.w JV HT r .p1 r (.w HY EB r .z r (.t r .n))) i ⟨(k,j,(A6 (a0.Limit)).tmod 40),_,_,_,_,r,l,b,hd⟩)))))))
theorem iE {a0:G9} {Q:JO->Prop} (R2:lTb I gb1 a0) (hd:QK a0 Q) :
  AY prog 4 [.agg (lD a0 gb1)] I (λI_ v=>∃ r gc3,v=.agg (uN r gc3)∧lTc I_ gc3 r∧Q r):=by
 refine Fun.en func4 ntmps4 r λw0 M=>?_;refine .sr (.bx r λZ=>.al zeroValue36 r λB=>?_);refine .nk 6 1 r (.loadA isAgg30 sizeOf30 r .p1 (.o 8 r) r r r (.call call14 r (iD R2.1 hd:) r r λD F b p=>?_));obtain⟨d,G,J,K,N,rfl,e,f,hd⟩:=p;have R2:=b.u1 R2;refine .ks 4 r (.al zeroValue25 r λO=>.al XD r λP=>.sa HT .p1 r (.sa EB .z r (.ks 1 r (.nk 62 1 r (.lo isAgg31 .p3 r (.kn 1 126 r (.seq (.jx hd [5,4,3,2,1] [3,2,1,0] r (λj E l a=>λc w=>∃ g h,j ⟨41,[],none⟩ (λI_=>RepSl PI I_ g h a) ((6,.slice g a.length h) :: E) l c w) (λS hd=>?_) ?_))))))))
 . refine .sk 1 r (.ln rJ r (.kn 1 262270 r (.condP r hd (λq hd=>?_) λq hd=>?_)))
   . refine .region (.ks 1 r ?_);obtain⟨T,U,V,hd⟩:=hd;have i:Int.toNat 0<=Int.toNat 8:=by omega
     have k:Int.toNat 8<=a0.Choices.length:=by omega
     obtain⟨W,X,u,x,y⟩:=RepSl.sliceW R2.2 (Int.toNat 0) (Int.toNat 8) gb1.2.2 i k (.inl rfl);exact .sliceW (L:=Int.toNat 0) (H:=Int.toNat 8) (cm:=gb1.2.2) rJ sizeOf99 r r R2.2.1 r r r (.inl ⟨r,r⟩) (.inr ⟨_,_,r,(by omega),r⟩) (.inl r) i k r u x r r (.ks 1 r (.nil' λc w ho hs=>⟨((a0.Choices.take (Int.toNat 8)).drop (Int.toNat 0)),hd,_,_,jf rf y [3,2,1,0] r ho hs⟩))
   exact .skip' λc w ho hs=>⟨a0.Choices,hd,_,_,jf rf R2.2 [3,2,1,0] r ho hs⟩
 rintro a hd c w ⟨g,h,Y,s,A,hok,hsym⟩;obtain⟨t,R2,e,f⟩:=s.u4 b R2 e f;refine Cod.at hok hsym (.sr (.lw JV HT .p2 r (.lw HY EB .p3 r (.ks 1 r (.lo isAgg5 .z r (.conv un5 eU r r r (.rem r r (by decide) r r (.ks 2 r (.lo isAgg5 .z r ?_)))))))));exact .conv un5 eU r r r (.rem r r (by decide) r r (.ks 2 r (.lo isAgg5 .z r (.conv un5 eU r r r (.rem r r (by decide) r r (.ks 3 r (.bd zeroValue36 underlying36 Ao7 r (.sa dQ .p1 r (.no 4 r (.drop .z (.drop .p1 (.drop .p1 (.ret (B0 r (.w isAgg36 dQ r .z r .n) t ⟨({ Plan:=d.1,Graph:=d.2.1,R:=A6 (((A6 (a0.R)).tmod 4)+1),C:=A6 (((A6 (a0.C)).tmod 4)+1),Room:=A6 (((A6 (a0.Room)).tmod 5)+1),Limit:=d.2.2,Choices:=a }:JO),((_,_),(_,_),(_,_)),r,⟨e,f,A⟩,hd⟩))))))))))))))
theorem PD {a0 a1:Int} {Q:Bool->Prop} (hd:HI a0 a1 Q) :
  AY prog 19 [.int .i64 a0,.int .i64 a1] I (λ_=>cI Q):=by
 refine Fun.en func19 ntmps19 r λw0 M=>.sk 1 r (.nk 3 3 r (.spl hd [6,7] r (λa hd=>?_) λa hd=>?_))
 . exact .kn 5 16 r (.r0 results19 r ⟨(decide (a0<=a1)),r,hd⟩)
 exact .kn 5 16 r (.r0 results19 r ⟨false,r,hd⟩)
theorem LN {a0 a1:Int} {Q:Bool->Prop} (hd:I5 a0 a1 Q) :
  AY prog 100 [.int .i64 a0,.int .i64 a1] I (λ_=>cI Q):=by
 refine Fun.en func100 ntmps100 r λw0 M=>.sk 1 r (.nk 3 3 r (.spl hd [6,7] r (λa hd=>?_) λa hd=>?_))
 . exact .kn 5 16 r (.r0 results100 r ⟨(decide (a0<=a1)),r,hd⟩)
 exact .kn 5 16 r (.r0 results100 r ⟨false,r,hd⟩)
theorem dW {a0:Int} {Q:Bool->Prop} (hd:OA a0 Q) :
  Fun prog 102 #[.int .i64 a0] I [] (λI_ v l=>∃ r,v=.bool r∧l=[]∧Q r):=by
 refine Fun.en func102 ntmps102 r λw0 M=>.sk 1 r (.nk 1 3 r (.spl hd [4,5] r (λa hd=>?_) λa hd=>?_))
 . exact .kn 4 4 r (.q1 results102 rf [] r ⟨true,r,r,hd⟩)
 exact .kn 4 4 r (.q1 results102 rf [] r ⟨(decide (2147483647<a0)),r,r,hd⟩)
theorem ME {a0:List Int} {Q:Int->Prop} (R3:RepSl AR I p1 c2 a0) (hd:EE a0 Q) :
  Fun prog 158 #[.slice p1 a0.length c2,.func (.func 102) #[] #[]] I [] (λI_ v l=>∃ r,v=.int .i64 r∧l=[]∧Q r):=by
 refine Fun.en func158 ntmps158 r λw0 M=>.sr (.kn 1 3 r (.seq (.sk 1 r (.ln D7 r (.kn 1 387 r (.block (.lp hd [7,1,0] [] r (λj E l d=>j ((8,.int .i64 d) :: E) l) (ji rf [] r) ?_)))))));refine λd o hd=>jq r λp a=>?_;have R3:=a.u1 R3;refine .sr (.kn 1 899 r (.seq (.condP r hd (λf hd=>?_) λf hd=>?_)))
 . refine .sn 387 r (.seq (.block (.sk 2 r (.nk 419 3 r ?_))));obtain⟨q,t,g,u,o55,s,b,hd⟩:=R3.ix hd;refine .ixb D7 bK s q g r (.ldb 0 O7 b r ?_);refine .callS (.c call102 r r) .n (dW (I:=p) hd:) r r λw x y i k=>?_;obtain⟨z,rfl,rfl,hd⟩:=k;obtain⟨e,R3,b⟩:=i.u3 a R3 b;refine .rn 0 r (.no 65955 r (.condP r hd (λm hd=>?_) λm hd=>?_))
   . exact .sr (.kn 2 18 r (.q1 results158 e [] r ⟨d,r,r,hd⟩))
   exact .sn 387 r (.region (.ks 2 r (.nil' (je (A6 (d+1)) hd e [] r))))
 exact .en 2 r (.sr (.kn 1 18 r (.q1 results158 a [] r ⟨(-1),r,r,hd⟩)))
theorem L1 {a0:List Int} {Q:Bool->Prop} (R3:RepSl AR I p1 c2 a0) (hd:BA a0 Q) :
  Fun prog 101 #[.slice p1 a0.length c2,.func (.func 102) #[] #[]] I [] (λI_ v l=>∃ r,v=.bool r∧l=[]∧Q r):=by
 refine Fun.en func101 ntmps101 r λw0 M=>?_;refine .sk 1 r (.nk 3 2 r ?_);refine .callS (.f call158 r) .n (ME R3 hd:) r r λe g h a c=>?_;obtain⟨d,rfl,rfl,hd⟩:=c;have R3:=a.u1 R3;exact .rn 0 r (.kn 2 18 r (.q1 results101 a [] r ⟨(decide (0<=d)),r,r,hd⟩))
theorem XI {a0:Plan} {Q:Int->Prop} (R3:RepSl AR I p1 c2 a0.Draws) (hd:OB a0 Q) :
  AY prog 61 [.agg (IW a0 p1 c2)] I (λ_=>Y9 Q):=by
 refine Fun.en func61 ntmps61 r λw0 M=>.sr (.bx r λN=>.kn 1 2 r (.seq (.sk 1 r (.lo XB .z r (.ks 2 r (.spl hd [5,6] r (λu hd=>?_) λu hd=>?_))))))
 . exact .kn 4 1026 r (.condKT r r (.sr (.kn 1 4 r (.drop .z (.r0 results61 r ⟨8,r,hd⟩)))))
 refine .ks 1 r (.yes r (.lo XB .z r (.kn 2 1026 r (.condP r hd (λv hd=>?_) λv hd=>?_))))
 . exact .sr (.kn 1 4 r (.drop .z (.r0 results61 r ⟨8,r,hd⟩)))
 refine .sn 2 r (.seq (.sk 1 r (.lo AE .z r (.cq call100 (LN (I:=I) hd:) r λK hd=>.kn 1 16386 r (.condP r hd (λx hd=>?_) λx hd=>?_)))))
 . exact .sr (.kn 1 4 r (.drop .z (.r0 results61 r ⟨3,r,hd⟩)))
 refine .sn 2 r (.seq (.jn hd [1] [0] r (λj E l _=>j E l) (λL hd=>?_) ?_))
 . refine .sk 1 r (.lo XB .z r (.no 65538 r (.block (.seq (.jn hd [1] [0] r (λj E l _=>j E l) (λA hd=>?_) ?_)))))
   . refine .block (.seq (.block (.seq (.seq (.sr (.kn 2 196610 r (.condP r hd (λe hd=>?_) λe hd=>?_)))))))
     . refine .en 2 r (.sk 1 r (.lo AE .z r (.cq call100 (LN (I:=I) hd:) r λB hd=>.kn 1 33554434 r (.condP r hd (λh hd=>?_) λh hd=>?_))))
       . exact .sr (.kn 1 4 r (.drop .z (.r0 results61 r ⟨3,r,hd⟩)))
       exact .skip' (je () hd rf [0] r)
     refine .sn 65538 r (.seq (.sr (.kn 2 589826 r (.condP r hd (λc hd=>?_) λc hd=>?_))))
     . exact .sn 524290 r (.condKT r c (.exit (je () hd rf [0] r)))
     refine .region (.kn 2 524290 r (.condP r hd (λi hd=>?_) λi hd=>?_))
     . exact .exit (je () hd rf [0] r)
     exact .sn 2 r (.exit (je () hd rf [0] r))
   refine λ_ hd=>jq r λy a=>?_;have R3:=a.u1 R3;refine .seq (.sk 1 r (.lo AE .z r (.ks 1 r (.lo AE .z r (.ks 1 r (.cq call100 (LN (I:=y) hd:) r λC hd=>.kn 1 4294967298 r (.condP r hd (λm hd=>?_) λm hd=>?_)))))))
   . exact .sr (.kn 1 4 r (.drop .z (.r1 results61 r a ⟨3,r,hd⟩)))
   exact .sn 2 r (.exit (je () hd a [0] r))
 refine λ_ hd=>jq r λD b=>?_;have R3:=b.u1 R3;refine .seq (.block (.sk 1 r (.lo DY .z r (.ln D7 r (.kn 2 8589934594 r (.condP r hd (λo hd=>?_) λo hd=>?_))))))
 . exact .sr (.kn 1 4 r (.drop .z (.r1 results61 r b ⟨5,r,hd⟩)))
 refine .sk 1 r (.lo DY .z r ?_);refine .callS (.f call101 r) .n (L1 R3 hd:) r r λF G H q s=>?_;obtain⟨J,rfl,rfl,hd⟩:=s;obtain⟨d,R3⟩:=q.u2 b R3;refine .rn 1 r (.kn 1 274877906944 r (.drop .z (.condP r hd (λt hd=>?_) λt hd=>?_)))
 . exact .sr (.kn 1 4 r (.r1 results61 r d ⟨7,r,hd⟩))
 exact .sn 0 r (.sr (.kn 1 4 r (.r1 results61 r d ⟨0,r,hd⟩)))
theorem QU {o0:Graph} {a0:Int} {Q:Bool->Prop} (R5:RepSl CW I p3 c4 o0.Edges) (hd:JP o0 a0 Q) :
  Fun prog 103 #[.int .i64 a0,.pointer (some ⟨b2,0,none⟩)] I [pto b2 (.cells #[.int .i64 o0.N,.slice p3 o0.Edges.length c4] 28 (0,0))] (λI_ v l=>∃ r,v=.bool r∧l=[pto b2 (.cells #[.int .i64 o0.N,.slice p3 o0.Edges.length c4] 28 (0,0))]∧Q r):=by
 refine Fun.en func103 ntmps103 r λw0 M=>.sk 1 r (.nk 3 3 r (.spl hd [5,6] r (λa hd=>?_) λa hd=>?_))
 . exact .kn 6 10 r (.q1 results103 rf [0] r ⟨true,r,r,hd⟩)
 exact .ks 2 r (.yes r (.lo AE .z r (.kn 3 10 r (.q1 results103 rf [0] r ⟨(decide (o0.N<=a0)),r,r,hd⟩))))
theorem bO {o1:Graph} {a0:B5} {Q:Bool->Prop} (R7:RepSl CW I p5 c6 o1.Edges) (hd:N3 o1 a0 Q) :
  Fun prog 105 #[.agg (KL a0).toArray,.pointer (some ⟨b3,0,none⟩)] I [pto b3 (.cells #[.func (.func 103) #[] #[.pointer (some ⟨b4,0,none⟩)]] 70 (0,0)),pto b4 (.cells #[.int .i64 o1.N,.slice p5 o1.Edges.length c6] 28 (0,0))] (λI_ v l=>∃ r,v=.bool r∧l=[pto b3 (.cells #[.func (.func 103) #[] #[.pointer (some ⟨b4,0,none⟩)]] 70 (0,0)),pto b4 (.cells #[.int .i64 o1.N,.slice p5 o1.Edges.length c6] 28 (0,0))]∧Q r):=by
 refine Fun.en func105 ntmps105 r λw0 M=>?_;refine .sr (.bx r λk=>?_);refine .ks 1 r (.ns 6 r (.lo isAgg70 .p1 r (.ks 1 r (.lo AE .z r (.callS (.c call103 r r) (.o [2] r) (QU (b2:=b4) R7 hd:) r r λm n p a d=>?_)))));obtain⟨q,rfl,rfl,hd⟩:=d;have R7:=a.u1 R7;refine .rn 3 r (.ks 1 r (.spl hd [7,8] r (λe hd=>?_) λe hd=>?_))
 . exact .kn 6 10 r (.drop .p1 (.q1 results105 a [1,0] r ⟨true,r,r,hd⟩))
 refine .yes r (.lo isAgg70 .p2 r (.ks 1 r (.yes r (.lo AE .p1 r ?_))));refine .yes r (.callS (.c call103 r r) (.o [0] r) (QU (b2:=b4) R7 hd:) r r λs t u g h=>?_);obtain⟨j,rfl,rfl,hd⟩:=h;obtain⟨i,R7⟩:=g.u2 a R7;exact .rn 3 r (.kn 2 10 r (.drop .p1 (.q1 results105 i [1,0] r ⟨j,r,r,hd⟩)))
theorem JE {o1:Graph} {a0:List B5} {Q:Int->Prop} (R7:RepSl CW I p5 c6 o1.Edges) (R10:RepSl CW I p8 c9 a0) (hd:DD o1 a0 Q) :
  Fun prog 159 #[.slice p8 a0.length c9,.func (.func 105) #[] #[.pointer (some ⟨b3,0,none⟩)]] I [pto b3 (.cells #[.func (.func 103) #[] #[.pointer (some ⟨b4,0,none⟩)]] 70 (0,0)),pto b4 (.cells #[.int .i64 o1.N,.slice p5 o1.Edges.length c6] 28 (0,0))] (λI_ v l=>∃ r,v=.int .i64 r∧l=[pto b3 (.cells #[.func (.func 103) #[] #[.pointer (some ⟨b4,0,none⟩)]] 70 (0,0)),pto b4 (.cells #[.int .i64 o1.N,.slice p5 o1.Edges.length c6] 28 (0,0))]∧Q r):=by
 refine Fun.en func159 ntmps159 r λw0 M=>.sr (.kn 1 3 r (.seq (.sk 1 r (.ln HD r (.kn 1 387 r (.block (.lp hd [7,1,0] [0,0] r (λj E l d=>j ((8,.int .i64 d) :: E) l) (ji rf [0,0] r) ?_)))))));refine λd n hd=>jq r λs a=>?_;obtain⟨R7,R10⟩:=a.u2 R7 R10;refine .sr (.kn 1 899 r (.seq (.condP r hd (λf hd=>?_) λf hd=>?_)))
 . refine .sn 387 r (.seq (.block (.sk 2 r (.nk 419 3 r ?_))));obtain⟨p,t,g,u,o62,q,b,hd⟩:=R10.ix hd;refine .ixb HD D3 q p g r (.ldW L7 D3 b r r r r ?_);refine .callS (.c call105 r r) (.o [0,0] r) (bO (b3:=b3) (b4:=b4) R7 hd:) r r λw x y i k=>?_;obtain⟨z,rfl,rfl,hd⟩:=k;obtain⟨e,R7,R10,b⟩:=i.u4 a R7 R10 b;refine .rn 2 r (.no 65955 r (.condP r hd (λm hd=>?_) λm hd=>?_))
   . exact .sr (.kn 2 18 r (.q1 results159 e [0,0] r ⟨d,r,r,hd⟩))
   exact .sn 387 r (.region (.ks 2 r (.nil' (je (A6 (d+1)) hd e [0,0] r))))
 exact .en 2 r (.sr (.kn 1 18 r (.q1 results159 a [0,0] r ⟨(-1),r,r,hd⟩)))
theorem HZ {o1:Graph} {a0:List B5} {Q:Bool->Prop} (R7:RepSl CW I p5 c6 o1.Edges) (R10:RepSl CW I p8 c9 a0) (hd:CP o1 a0 Q) :
  Fun prog 104 #[.slice p8 a0.length c9,.func (.func 105) #[] #[.pointer (some ⟨b3,0,none⟩)]] I [pto b3 (.cells #[.func (.func 103) #[] #[.pointer (some ⟨b4,0,none⟩)]] 70 (0,0)),pto b4 (.cells #[.int .i64 o1.N,.slice p5 o1.Edges.length c6] 28 (0,0))] (λI_ v l=>∃ r,v=.bool r∧l=[pto b3 (.cells #[.func (.func 103) #[] #[.pointer (some ⟨b4,0,none⟩)]] 70 (0,0)),pto b4 (.cells #[.int .i64 o1.N,.slice p5 o1.Edges.length c6] 28 (0,0))]∧Q r):=by
 refine Fun.en func104 ntmps104 r λw0 M=>?_;refine .sk 1 r (.nk 3 2 r ?_);refine .callS (.f call159 r) (.o [0,0] r) (JE (b3:=b3) (b4:=b4) R7 R10 hd:) r r λe g h a c=>?_;obtain⟨d,rfl,rfl,hd⟩:=c;obtain⟨R7,R10⟩:=a.u2 R7 R10;exact .rn 2 r (.kn 2 18 r (.q1 results104 a [0,0] r ⟨(decide (0<=d)),r,r,hd⟩))
theorem bP {a0:B5} {Q:Bool->Prop} (hd:N4 a0 Q) :
  Fun prog 106 #[.agg (KL a0).toArray] I [] (λI_ v l=>∃ r,v=.bool r∧l=[]∧Q r):=by
 refine Fun.en func106 ntmps106 r λw0 M=>.sr (.bx r λb=>.ks 1 r (.nk 2 1 r (.lo O7 .z r (.ks 2 r (.spl hd [5,6] r (λa hd=>?_) λa hd=>?_)))))
 . exact .kn 5 4 r (.drop .z (.q1 results106 rf [] r ⟨true,r,r,hd⟩))
 exact .ks 1 r (.yes r (.lo O7 .z r (.kn 3 4 r (.drop .z (.q1 results106 rf [] r ⟨(decide (2147483647<a0.W)),r,r,hd⟩)))))
theorem JG {a0:List B5} {Q:Int->Prop} (R3:RepSl CW I p1 c2 a0) (hd:DE a0 Q) :
  Fun prog 159 #[.slice p1 a0.length c2,.func (.func 106) #[] #[]] I [] (λI_ v l=>∃ r,v=.int .i64 r∧l=[]∧Q r):=by
 refine Fun.en func159 ntmps159 r λw0 M=>.sr (.kn 1 3 r (.seq (.sk 1 r (.ln HD r (.kn 1 387 r (.block (.lp hd [7,1,0] [] r (λj E l d=>j ((8,.int .i64 d) :: E) l) (ji rf [] r) ?_)))))));refine λd o hd=>jq r λp a=>?_;have R3:=a.u1 R3;refine .sr (.kn 1 899 r (.seq (.condP r hd (λf hd=>?_) λf hd=>?_)))
 . refine .sn 387 r (.seq (.block (.sk 2 r (.nk 419 3 r ?_))));obtain⟨q,t,g,u,o55,s,b,hd⟩:=R3.ix hd;refine .ixb HD D3 s q g r (.ldW L7 D3 b r r r r ?_);refine .callS (.c call106 r r) .n (bP (I:=p) hd:) r r λw x y i k=>?_;obtain⟨z,rfl,rfl,hd⟩:=k;obtain⟨e,R3,b⟩:=i.u3 a R3 b;refine .rn 0 r (.no 65955 r (.condP r hd (λm hd=>?_) λm hd=>?_))
   . exact .sr (.kn 2 18 r (.q1 results159 e [] r ⟨d,r,r,hd⟩))
   exact .sn 387 r (.region (.ks 2 r (.nil' (je (A6 (d+1)) hd e [] r))))
 exact .en 2 r (.sr (.kn 1 18 r (.q1 results159 a [] r ⟨(-1),r,r,hd⟩)))
theorem I3 {a0:List B5} {Q:Bool->Prop} (R3:RepSl CW I p1 c2 a0) (hd:BU a0 Q) :
  Fun prog 104 #[.slice p1 a0.length c2,.func (.func 106) #[] #[]] I [] (λI_ v l=>∃ r,v=.bool r∧l=[]∧Q r):=by
 refine Fun.en func104 ntmps104 r λw0 M=>?_;refine .sk 1 r (.nk 3 2 r ?_);refine .callS (.f call159 r) .n (JG R3 hd:) r r λe g h a c=>?_;obtain⟨d,rfl,rfl,hd⟩:=c;have R3:=a.u1 R3;exact .rn 0 r (.kn 2 18 r (.q1 results104 a [] r ⟨(decide (0<=d)),r,r,hd⟩))
theorem cL {a0:Graph} {Q:Int->Prop} (R3:RepSl CW I p1 c2 a0.Edges) (hd:PR a0 Q) :
  AY prog 62 [.agg #[.int .i64 a0.N,.slice p1 a0.Edges.length c2]] I (λ_=>Y9 Q):=by
 refine Fun.en func62 ntmps62 r λw0 M=>.sr (.bx r λw=>.ks 1 r (.ns 2 r (.mkFn r r r r (.alloc1 zeroValue70 r r r λv=>.s1 sizeOf70 .z r (.no 10 r (.seq (.block (.sk 1 r (.lo AE .p1 r (.kn 2 42 r (.condP r hd (λe hd=>?_) λe hd=>?_)))))))))))
 . exact .sr (.kn 1 4 r (.drop .z (.drop .z (.r0 results62 r ⟨3,r,hd⟩))))
 refine .seq (.jn hd [3,1] [1,0] r (λj E l d=>j ((9,.bool d) :: E) l) (λx hd=>?_) ?_)
 . refine .sk 1 r (.lo AE .p1 r (.kn 2 522 r (.condP r hd (λg hd=>?_) λg hd=>?_)))
   . exact .skip' (je (decide (4096<a0.N)) hd rf [1,0] r)
   exact .region (.ks 1 r (.lo XC .p1 r (.ln HD r (.ks 2 r (.nil' (je (decide (65536<(a0.Edges.length:Int))) hd rf [1,0] r))))))
 refine λd hd=>jq r λy a=>?_;have R3:=a.u1 R3;refine .condP r hd (λh hd=>?_) λh hd=>?_
 . exact .sr (.kn 1 4 r (.drop .z (.drop .z (.r1 results62 r a ⟨5,r,hd⟩))))
 refine .sk 1 r (.lo XC .z r (.mkFn r r r r ?_));refine .callS (.f call104 r) (.o [1,0] r) (HZ (b3:=v) (b4:=w) R3 R3 hd:) r r λA B C k m=>?_;obtain⟨D,rfl,rfl,hd⟩:=m;obtain⟨b,R3⟩:=k.u2 a R3;refine .rn 2 r (.kn 1 131074 r (.drop .z (.condP r hd (λp hd=>?_) λp hd=>?_)))
 . exact .sr (.kn 1 4 r (.drop .z (.r1 results62 r b ⟨3,r,hd⟩)))
 refine .sk 1 r (.lo XC .z r ?_);refine .callS (.f call104 r) .n (I3 R3 hd:) r r λF G H s t=>?_;obtain⟨J,rfl,rfl,hd⟩:=t;obtain⟨c,R3⟩:=s.u2 b R3;refine .rn 1 r (.kn 1 4194304 r (.drop .z (.condP r hd (λu hd=>?_) λu hd=>?_)))
 . exact .sr (.kn 1 4 r (.r1 results62 r c ⟨7,r,hd⟩))
 exact .sn 0 r (.sr (.kn 1 4 r (.r1 results62 r c ⟨0,r,hd⟩)))
theorem S3 {a0:Int} {Q:Bool->Prop} (hd:QZ a0 Q) :
  AY prog 190 [.int .i64 a0] I (λ_=>cI Q):=by
 refine Fun.en func190 ntmps190 r λw0 M=>.sk 1 r (.nk 1 3 r (.spl hd [4,5] r (λa hd=>?_) λa hd=>?_))
 . exact .kn 4 4 r (.r0 results190 r ⟨(decide (a0<6)),r,hd⟩)
 exact .kn 4 4 r (.r0 results190 r ⟨false,r,hd⟩)
theorem MT {a0:Int} {Q:AL->Prop} (hd:N5 a0 Q) :
  AY prog 205 [.int .i64 a0] I (λ_=>o3_ Q):=by
 exact Fun.en func205 ntmps205 r λw0 M=>.sr (.al HB r λa=>.nk 5 1 r (.shr' r r (by decide) r r (.ks 1 r (.conv un2 bJ r r r (.bd HB hM hG r (.sa B6 .z r (.no 4 r (.ret (B0 r (.w CB B6 r .z r .n) rf ⟨({ Hi:=shr .i64 a0 63,Lo:=IntKind.wrap .u64 (a0) }:AL),r,hd⟩)))))))))
theorem L3 {a0:List Int} {Q:Int->Prop} (R3:RepSl AR I p1 c2 a0) (hd:IE a0 Q) :
  AY prog 52 [.slice p1 a0.length c2] I (λ_=>Y9 Q):=by
 refine Fun.en func52 ntmps52 r λw0 M=>.sk 1 r (.nk 1 1 r (.no 9 r (.seq (.sk 1 r (.ln BB r (.kn 1 456 r (.block (.lp hd [7,6,3] [] r (λj E l b=>j ((8,.int .i64 b) :: E) l) (ji rf [] r) ?_))))))));refine λb g hd=>jq r λm a=>?_;have R3:=a.u1 R3;refine .sr (.kn 1 968 r (.seq (.condP r hd (λc hd=>?_) λc hd=>?_)))
 . refine .sn 456 r (.seq (.block (.sr ?_)));obtain⟨h,i,d,n,o41,k,e,hd⟩:=R3.ix hd;refine .ixb BB D5 k h d r (.ldb 0 AE e r (.ks 1 r (.nk 488 3 r (.no 16872 r (.condP r hd (λf hd=>?_) λf hd=>?_)))))
   . exact .sr (.kn 2 4 r (.r1 results52 r a ⟨i,r,hd⟩))
   exact .sn 456 r (.region (.ks 2 r (.nil' (je (A6 (b+1)) hd a [] r))))
 exact .en 8 r (.sr (.kn 2 4 r (.r1 results52 r a ⟨0,r,hd⟩)))
theorem UM {a0:Int} {Q:Bool->Prop} (hd:LY a0 Q) :
  AY prog 285 [.int .i64 a0] I (λ_=>cI Q):=by
 exact Fun.en func285 ntmps285 r λw0 M=>.sk 1 r (.nk 1 4 r (.no 4 r (.r0 results285 r ⟨(a0 != a0),r,hd⟩)))
theorem QV {a0 a1:Int} {Q:Int->Prop} (hd:GR a0 a1 Q) :
  AY prog 250 [.int .i64 a0,.int .i64 a1] I (λ_=>Y9 Q):=by
 refine Fun.en func250 ntmps250 r λw0 M=>.sk 1 r (.nk 3 1 r (.cq call285 (UM (I:=I) hd:) r λi hd=>.ks 1 r (.nk 35 1 r (.cq call285 (UM (I:=I) hd:) r λh hd=>.kn 1 99 r (.seq (.sr (.kn 1 2115 r (.condP r hd (λb hd=>?_) λb hd=>?_))))))))
 . refine .seq (.sr (.kn 1 4096 r (.condP r hd (λc hd=>?_) λc hd=>?_)))
   . exact .sr (.kn 1 16 r (.r0 results250 r ⟨0,r,hd⟩))
   exact .sn 0 r (.sr (.kn 1 16 r (.r0 results250 r ⟨(-1),r,hd⟩)))
 refine .sn 67 r (.seq (.sr (.kn 1 8195 r (.condP r hd (λd hd=>?_) λd hd=>?_))))
 . exact .sr (.kn 1 16 r (.r0 results250 r ⟨1,r,hd⟩))
 refine .sn 3 r (.seq (.sr (.kn 3 65539 r (.condP r hd (λe hd=>?_) λe hd=>?_))))
 . exact .sr (.kn 1 16 r (.r0 results250 r ⟨(-1),r,hd⟩))
 refine .sn 3 r (.seq (.sr (.kn 3 524288 r (.condP r hd (λf hd=>?_) λf hd=>?_))))
 . exact .sr (.kn 1 16 r (.r0 results250 r ⟨1,r,hd⟩))
 exact .sn 0 r (.sr (.kn 1 16 r (.r0 results250 r ⟨0,r,hd⟩)))
theorem T7 {a0:Int} {Q:Bool->Prop} (hd:KM a0 Q) :
  AY prog 308 [.int .u64 a0] I (λ_=>cI Q):=by
 exact Fun.en func308 ntmps308 r λw0 M=>.sk 1 r (.nk 1 4 r (.no 4 r (.r0 results308 r ⟨(a0 != a0),r,hd⟩)))
theorem ZF {a0 a1:Int} {Q:Int->Prop} (hd:IF a0 a1 Q) :
  AY prog 297 [.int .u64 a0,.int .u64 a1] I (λ_=>Y9 Q):=by
 refine Fun.en func297 ntmps297 r λw0 M=>.sk 1 r (.nk 3 1 r (.cq call308 (T7 (I:=I) hd:) r λi hd=>.ks 1 r (.nk 35 1 r (.cq call308 (T7 (I:=I) hd:) r λh hd=>.kn 1 99 r (.seq (.sr (.kn 1 2115 r (.condP r hd (λb hd=>?_) λb hd=>?_))))))))
 . refine .seq (.sr (.kn 1 4096 r (.condP r hd (λc hd=>?_) λc hd=>?_)))
   . exact .sr (.kn 1 16 r (.r0 results297 r ⟨0,r,hd⟩))
   exact .sn 0 r (.sr (.kn 1 16 r (.r0 results297 r ⟨(-1),r,hd⟩)))
 refine .sn 67 r (.seq (.sr (.kn 1 8195 r (.condP r hd (λd hd=>?_) λd hd=>?_))))
 . exact .sr (.kn 1 16 r (.r0 results297 r ⟨1,r,hd⟩))
 refine .sn 3 r (.seq (.sr (.kn 3 65539 r (.condP r hd (λe hd=>?_) λe hd=>?_))))
 . exact .sr (.kn 1 16 r (.r0 results297 r ⟨(-1),r,hd⟩))
 refine .sn 3 r (.seq (.sr (.kn 3 524288 r (.condP r hd (λf hd=>?_) λf hd=>?_))))
 . exact .sr (.kn 1 16 r (.r0 results297 r ⟨1,r,hd⟩))
 exact .sn 0 r (.sr (.kn 1 16 r (.r0 results297 r ⟨0,r,hd⟩)))
theorem qB {a0 a1:AL} {Q:Int->Prop} (hd:RA a0 a1 Q) :
  AY prog 275 [.agg (FY a0).toArray,.agg (FY a1).toArray] I (λ_=>Y9 Q):=by
 refine Fun.en func275 ntmps275 r λw0 M=>.sr (.bx r λl=>.bx r λm=>.kn 1 12 r (.seq (.dr [0,1,2,3,5,6,7,8,4,9,10,11] 12 (.fk 1 r (.hl O7 1 r (.fk 1 r (.hl O7 0 r (.fk 1 r (.hl GY 1 r (.fk 1 r (.hl GY 0 r (.ww r ?_))))))))))));refine .cq call250 (QV (I:=I) hd:) r λf hd=>.so 2 r r r (.ch r (.lo GY .z r .mk) (.ck 1 r r (.ch r (.lo GY .p1 r .mk) (.ck 1 r r tv)))) (.ww r (.cq call297 (ZF (I:=I) hd:) r λa hd=>.so 2 r r r tv (.ww r (.bs 2 BB D5 kA r λi=>.so 3 r r r tv (.ww r (.pubB (El:=AR) (ys:=([f,a]:List Int)) (k:=2) .z (RepCs.cons (cs:=[.int .i64 f]) r (RepCs.cons (cs:=[.int .i64 a]) r .nil)) r λj d g=>?_))))));exact .cq call52 (L3 g hd:) r λh hd=>.so 2 r r r tv (.e2 12 (.kn 1 16 r (.drop .z (.drop .z (.r1 results275 r d ⟨h,r,hd⟩)))))
theorem cM {a0 a1:AL} {Q:AL->Prop} (hd:PS a0 a1 Q) :
  AY prog 244 [.agg (FY a0).toArray,.agg (FY a1).toArray] I (λ_=>o3_ Q):=by
 refine Fun.en func244 ntmps244 r λw0 M=>.sr (.bx r λe=>.bx r λf=>.al HB r λc=>.no 28 r (.seq (.sr (.lw CB B6 .p2 r (.lw CB B6 .p1 r (.cq call275 (qB (I:=I) hd:) r λd hd=>.kn 1 284 r (.condP r hd (λb hd=>?_) λb hd=>?_)))))))
 . exact .sr (.lw CB B6 .p2 r (.sa B6 .z r (.no 16 r (.drop .p1 (.drop .p1 (.ret (B0 r (.w CB B6 r .z r .n) rf ⟨a0,r,hd⟩)))))))
 exact .sn 24 r (.drop .p2 (.sr (.lw CB B6 .p1 r (.sa B6 .z r (.no 16 r (.drop .p1 (.ret (B0 r (.w CB B6 r .z r .n) rf ⟨a1,r,hd⟩))))))))
theorem RN {a0:Bool} {Q:AL->Prop} (hd:M4 a0 Q) :
  AY prog 245 [.bool a0] I (λ_=>o3_ Q):=by
 refine Fun.en func245 ntmps245 r λw0 M=>.sr (.al HB r λd=>.no 5 r (.seq (.sr (.kn 1 12 r (.condP r hd (λa hd=>?_) λa hd=>?_)))))
 . exact .sr (.cq call205 (MT (I:=I) hd:) r λc hd=>.sa B6 .z r (.no 4 r (.ret (B0 r (.w CB B6 r .z r .n) rf ⟨c,r,hd⟩))))
 exact .sn 4 r (.sr (.bd HB hM hG r (.sa B6 .z r (.no 4 r (.ret (B0 r (.w CB B6 r .z r .n) rf ⟨O9,r,hd⟩))))))
theorem iF {a0:Bool} {Q:Int->Prop} (hd:S8 a0 Q) :
  AY prog 276 [.bool a0] I (λ_=>o4_ Q):=by
 refine Fun.en func276 ntmps276 r λw0 M=>.sr (.kn 1 1 r (.seq (.sr (.kn 1 8 r (.condP r hd (λa hd=>?_) λa hd=>?_)))))
 . exact .sr (.kn 1 4 r (.r0 results276 r ⟨1,r,hd⟩))
 exact .sn 0 r (.sr (.kn 1 4 r (.r0 results276 r ⟨0,r,hd⟩)))
theorem qC {a0 a1:AL} {Q:AL->Prop} (hd:YG a0 a1 Q) :
  AY prog 246 [.agg (FY a0).toArray,.agg (FY a1).toArray] I (λ_=>o3_ Q):=by
 refine Fun.en func246 ntmps246 r λw0 M=>.sr (.bx r λd=>.bx r λe=>.al HB r λc=>.nk 28 1 r (.lo GY .p2 r (.ks 1 r (.lo GY .p1 r (.kn 2 60 r (.seq (.dr [0,1,2,3,4,5,6,7,8,9,10,14,11,12,13,15] 16 (.fk 1 r (.hl O7 2 r (.h r (.conv un2 bJ r r r .mk) ?_))))))))));refine .fk 1 r (.hl O7 1 r (.h r (.conv un2 bJ r r r .mk) (.fk 3 r (.hl GY 1 r (.fk 2 r (.ww r (.cq call276 (iF (I:=I) hd:) r λb hd=>?_)))))));exact .so 3 r r r (.ck 2 r r (.ch r (.conv un2 bJ r r r .mk) (.ch r (.lo O7 .p1 r .mk) (.ck 1 r r (.ch r (.conv un2 bJ r r r .mk) (.ch r (.lo O7 .p2 r .mk) (.ck 1 r r tv))))))) (.fk 1 r (.h r (.conv bJ un2 r r r .mk) (.h r (.bd HB hM hG r .mk) (.e2 16 (.sa B6 .z r (.no 16 r (.drop .p1 (.drop .p1 (.ret (B0 r (.w CB B6 r .z r .n) rf ⟨({ Hi:=A6 (IntKind.wrap .u64 ((IntKind.wrap .u64 ((IntKind.wrap .u64 (a0.Hi))+(IntKind.wrap .u64 (a1.Hi))))+b)),Lo:=IntKind.wrap .u64 (a0.Lo+a1.Lo) }:AL),r,hd⟩))))))))))
theorem dX {a0:Int} {a1 a2:AL} {Q:AL->Prop} (hd:S9 a0 a1 a2 Q) :
  AY prog 206 [.int .i64 a0,.agg (FY a1).toArray,.agg (FY a2).toArray] I (λ_=>o3_ Q):=by
 refine Fun.en func206 ntmps206 r λw0 M=>.sr (.bx r λy=>.bx r λA=>.al HB r λv=>.no 113 r (.seq (.sr (.kn 1 240 r (.block (.seq (.jn hd [7,6,5,4] [2,1,0] r (λj E l c=>j ((8,.bool c) :: E) l) (λx hd=>?_) ?_)))))))
 . refine .sr (.kn 2 496 r (.condP r hd (λd hd=>?_) λd hd=>?_))
   . exact .skip' (je (a0==1) hd rf [2,1,0] r)
   refine .sr (.kn 2 496 r (.condP r hd (λe hd=>?_) λe hd=>?_))
   . exact .skip' (je (a0==3) hd rf [2,1,0] r)
   exact .region (.ks 2 r (.nil' (je (a0==4) hd rf [2,1,0] r)))
 refine λc hd=>jq r λb a=>.condP r hd (λf hd=>?_) λf hd=>?_
 . exact .sr (.lw CB B6 .z r (.lw CB B6 .p1 r (.cq call244 (cM (I:=b) hd:) r λq hd=>.sa B6 .p2 r (.no 64 r (.drop .z (.drop .z (.ret (B0 r (.w CB B6 r .z r .n) a ⟨q,r,hd⟩))))))))
 refine .sr (.kn 2 33008 r (.condP r hd (λh hd=>?_) λh hd=>?_))
 . refine .sr (.lw CB B6 .z r (.lw CB B6 .p1 r (.neV r r (AiV a1 a2) (AiW _ _ _ _ _) r r r (.ks 1 r (.spl hd [19,20] r (λi hd=>?_) λi hd=>?_)))))
   . exact .ks 4 r (.cq call245 (RN (I:=b) hd:) r λs hd=>.sa B6 .p2 r (.no 64 r (.drop .z (.drop .z (.ret (B0 r (.w CB B6 r .z r .n) a ⟨s,r,hd⟩))))))
   exact .yes r (.lw CB B6 .z r (.yes r (.bd HB hM hG r (.yes r (.neV r r (AiV a1 O9) (AiW _ _ _ _ _) r r r (.ks 1 r (.cq call245 (RN (I:=b) hd:) r λt hd=>.sa B6 .p2 r (.no 64 r (.drop .z (.drop .z (.ret (B0 r (.w CB B6 r .z r .n) a ⟨t,r,hd⟩))))))))))))
 refine .sr (.kn 2 67108976 r (.condP r hd (λo hd=>?_) λo hd=>?_))
 . exact .sr (.lw CB B6 .z r (.lw CB B6 .p1 r (.cq call246 (qC (I:=b) hd:) r λu hd=>.sa B6 .p2 r (.no 64 r (.drop .z (.drop .z (.ret (B0 r (.w CB B6 r .z r .n) a ⟨u,r,hd⟩))))))))
 exact .sn 64 r (.drop .z (.drop .z (.sr (.bd HB hM hG r (.sa B6 .z r (.no 64 r (.ret (B0 r (.w CB B6 r .z r .n) a ⟨O9,r,hd⟩))))))))
theorem rP {a0:AL} {Q:(Int×Bool)->Prop} (hd:YH a0 Q) :
  AY prog 247 [.agg (FY a0).toArray] I (λ_=>o5_ Q):=by
 refine Fun.en func247 ntmps247 r λw0 M=>.sr (.bx r λd=>.ks 2 r (.nk 2 1 r (.lo GY .z r (.conv bJ un2 r r r (.kn 1 18 r (.seq (.seq (.dr [0,2,1,3] 4 (.fk 1 r (.h r (.lw CB B6 .z r .mk) (.ww r (.cq call205 (MT (I:=I) hd:) r λc hd=>?_))))))))))));refine .so 1 r r r (.ch r (.lw CB B6 .z r .mk) tv) (.h r (.neV r r (AiV c a0) (AiW _ _ _ _ _) r r r .mk) (.e2 4 (.no 2064 r (.drop .z (.condP r hd (λb hd=>?_) λb hd=>?_)))))
 . exact .sr (.kn 2 12 r (.ret (B0 r (.t r (.t r .n)) rf ⟨(0,false),r,hd⟩)))
 exact .sn 16 r (.sr (.kn 3 12 r (.ret (B0 r (.t r (.t r .n)) rf ⟨(A6 (a0.Lo),true),r,hd⟩))))
theorem cN {a0:Int} {a1:AL} {Q:(Int×Bool)->Prop} (hd:PT a0 a1 Q) :
  AY prog 207 [.int .i64 a0,.agg (FY a1).toArray] I (λ_=>o5_ Q):=by
 exact Fun.en func207 ntmps207 r λw0 M=>.sr (.bx r λc=>.ks 2 r (.ns 8 r (.lw CB B6 .z r (.cq call247 (rP (I:=I) hd:) r λb hd=>.kn 4 48 r (.drop .z (.ret (B0 r (.t r (.t r .n)) rf ⟨(b.1,b.2),r,hd⟩)))))))
theorem M0 {a0:Int} {Q:Bool->Prop} (hd:H6 a0 Q) :
  AY prog 91 [.int .i64 a0] I (λ_=>cI Q):=by
 exact Fun.en func91 ntmps91 r λw0 M=>.sk 1 r (.nk 1 4 r (.no 4 r (.r0 results91 r ⟨(a0 != a0),r,hd⟩)))
theorem D4 {a0 a1:Int} {Q:Int->Prop} (hd:CI a0 a1 Q) :
  AY prog 53 [.int .i64 a0,.int .i64 a1] I (λ_=>Y9 Q):=by
 refine Fun.en func53 ntmps53 r λw0 M=>.sk 1 r (.nk 3 1 r (.cq call91 (M0 (I:=I) hd:) r λi hd=>.ks 1 r (.nk 35 1 r (.cq call91 (M0 (I:=I) hd:) r λh hd=>.kn 1 99 r (.seq (.sr (.kn 1 2115 r (.condP r hd (λb hd=>?_) λb hd=>?_))))))))
 . refine .seq (.sr (.kn 1 4096 r (.condP r hd (λc hd=>?_) λc hd=>?_)))
   . exact .sr (.kn 1 16 r (.r0 results53 r ⟨0,r,hd⟩))
   exact .sn 0 r (.sr (.kn 1 16 r (.r0 results53 r ⟨(-1),r,hd⟩)))
 refine .sn 67 r (.seq (.sr (.kn 1 8195 r (.condP r hd (λd hd=>?_) λd hd=>?_))))
 . exact .sr (.kn 1 16 r (.r0 results53 r ⟨1,r,hd⟩))
 refine .sn 3 r (.seq (.sr (.kn 3 65539 r (.condP r hd (λe hd=>?_) λe hd=>?_))))
 . exact .sr (.kn 1 16 r (.r0 results53 r ⟨(-1),r,hd⟩))
 refine .sn 3 r (.seq (.sr (.kn 3 524288 r (.condP r hd (λf hd=>?_) λf hd=>?_))))
 . exact .sr (.kn 1 16 r (.r0 results53 r ⟨1,r,hd⟩))
 exact .sn 0 r (.sr (.kn 1 16 r (.r0 results53 r ⟨0,r,hd⟩)))
theorem wP {a0 a1:B5} {Q:Int->Prop} (hd:dA a0 a1 Q) :
  AY prog 249 [.agg (KL a0).toArray,.agg (KL a1).toArray] I (λ_=>Y9 Q):=by
 refine Fun.en func249 ntmps249 r λw0 M=>.sr (.bx r λl=>.bx r λm=>.kn 1 12 r (.seq (.dr [0,1,2,3,5,6,7,8,4,9,10,11] 12 (.fk 1 r (.hl AE 1 r (.fk 1 r (.hl AE 0 r (.fk 1 r (.hl AE 1 r (.fk 1 r (.hl AE 0 r (.ww r ?_))))))))))));refine .cq call53 (D4 (I:=I) hd:) r λf hd=>.so 2 r r r (.ch r (.lo AE .z r .mk) (.ck 1 r r (.ch r (.lo AE .p1 r .mk) (.ck 1 r r tv)))) (.ww r (.cq call53 (D4 (I:=I) hd:) r λa hd=>.so 2 r r r tv (.ww r (.bs 2 BB D5 kA r λi=>.so 3 r r r tv (.ww r (.pubB (El:=AR) (ys:=([f,a]:List Int)) (k:=2) .z (RepCs.cons (cs:=[.int .i64 f]) r (RepCs.cons (cs:=[.int .i64 a]) r .nil)) r λj d g=>?_))))));exact .cq call52 (L3 g hd:) r λh hd=>.so 2 r r r tv (.e2 12 (.kn 1 16 r (.drop .z (.drop .z (.r1 results249 r d ⟨h,r,hd⟩)))))
theorem rQ {a0 a1:B5} {Q:Int->Prop} (hd:U4 a0 a1 Q) :
  AY prog 209 [.agg (KL a0).toArray,.agg (KL a1).toArray] I (λ_=>Y9 Q):=by
 refine Fun.en func209 ntmps209 r λw0 M=>.sr (.bx r λm=>.bx r λn=>.kn 1 12 r (.seq (.dr [0,1,3,4,5,6,2,7,8,9] 10 (.h r (.lw L7 D3 .p1 r .mk) (.h r (.lw L7 D3 .z r .mk) (.fk 1 r (.hl O7 1 r (.fk 1 r (.hl O7 0 r (.ww r ?_))))))))));refine .cq call249 (wP (I:=I) hd:) r λf hd=>.so 2 r r r (.ch r (.lo O7 .z r .mk) (.ck 1 r r (.ch r (.lo O7 .p1 r .mk) (.ck 1 r r tv)))) (.ww r (.cq call250 (QV (I:=I) hd:) r λa hd=>.so 2 r r r tv (.ww r (.bs 2 BB D5 kA r λj=>.so 3 r r r tv (.ww r (.pubB (El:=AR) (ys:=([f,a]:List Int)) (k:=2) .z (RepCs.cons (cs:=[.int .i64 f]) r (RepCs.cons (cs:=[.int .i64 a]) r .nil)) r λl d g=>?_))))));exact .cq call52 (L3 g hd:) r λi hd=>.so 2 r r r tv (.e2 10 (.kn 1 16 r (.drop .z (.drop .z (.r1 results209 r d ⟨i,r,hd⟩)))))
theorem mK {a0:Int} {a1:List B5} {Q:((List B5)×Int)->Prop} (R3:RepSl CW I p1 c2 a1) (hd:PJ a0 a1 Q) :
  AY prog 160 [.int .i64 a0,.slice p1 a1.length c2] I (λI_ v=>∃ r p4 c5,v=.tuple #[.slice p4 r.1.length c5,.int .i64 r.2]∧RepSl CW I_ p4 c5 r.1∧Q r):=by
 refine Fun.en func160 ntmps160 r λw0 M=>.sr (.kn 2 3 r (.seq (.sk 1 r (.cq call190 (S3 (I:=I) hd:) r λe5 hd=>.kn 1 1048579 r (.condP r hd (λU hd=>?_) λU hd=>?_)))))
 . exact .sr (.kn 2 48 r (.ret (B0 r (.t r (.t r .n)) rf ⟨(([]:List B5),8),_,_,r,(.nil _ _ _),hd⟩)))
 refine .sn 3 r (.sr (.mkMap G8 sF true r r λO=>.kn 1 67 r (.seq (.sk 1 r (.ln HD r (.kn 1 29360193 r (.block (.lp hd [23,22,6,0] [] r (λj E l (e,g)=>j ((24,.int .i64 g) :: E) (OwnMap G8 sF true O e :: l)) (ji rf [0] r) ?_))))))));rintro⟨e,g⟩ c0 hd;refine jq r λD d=>?_;have R3:=d.u1 R3;refine .sr (.kn 1 62914625 r (.seq (.condP r hd (λK hd=>?_) λK hd=>?_)))
 . refine .sn 29360193 r (.seq (.block (.sr ?_)));obtain⟨b4,b,L,c7,o325,b5,N,hd⟩:=R3.ix hd;refine .ixb HD D3 b5 b4 L r (.ldW L7 D3 N r r r r (.al MR r λc8=>.sa D3 .z r (.nk 29360449 1 r (.lo AE .z r (.ks 1 r (.lo AE .z r (.ba bN T4 D5 r (.al bN r λc9=>.sa bL .z r (.nk 29360961 1 r (.lo O7 .p1 r (.cq call205 (MT (I:=D) hd:) r λh hd=>.al HB r λd0=>?_)))))))))));refine .sa B6 .z r (.no 29361729 r (.drop .p2 (.seq (.sk 1 r (.lw isAgg73 bL .p1 r (.lookM2 (k:=(b.From,b.To)) (El:=sF) (ag:=true) (zv:=.agg #[.int .i64 0,.int .u64 0]) (z:=O9) AmC underlying283 HB ⟨[.int .i64 0,.int .u64 0],r,.a⟩ .p2 r r hd r r λd1 d2 d3 c3 hd P R=>?_))))));cases P;cases R;refine .ks 3 r (.al HB r λd4=>.sa B6 .z r (.ks 1 r (.nk 29367873 1 r (.no 4398075874881 r (.condP r hd (λS hd=>?_) λS hd=>?_)))))
   . refine .region (.ks 1 r (.lw CB B6 .z r (.lw CB B6 .p1 r (.cq call206 (dX (I:=D) hd:) r λm hd=>.sa B6 .p1 r (.no 29361729 r (.drop .z (.region (.ks 1 r (.lw isAgg73 bL .p1 r (.lw CB B6 .z r (.updM (k:=(b.From,b.To)) (El:=sF) (ag:=true) (v:=m) AmC underlying283 .p2 r r r ⟨[.int .i64 m.Hi,.int .u64 m.Lo],r,.a⟩ (.no 29360193 r (.drop .z ?_)))))))))))));exact .drop .z (.region (.ks 2 r (.nil' (je ((DK (b.From,b.To) m e),A6 (g+1)) hd d [0] r))))
   exact .sn 29361729 r (.drop .z (.region (.ks 1 r (.lw isAgg73 bL .p1 r (.lw CB B6 .z r (.updM (k:=(b.From,b.To)) (El:=sF) (ag:=true) (v:=h) AmC underlying283 .p2 r r r ⟨[.int .i64 h.Hi,.int .u64 h.Lo],r,.a⟩ (.no 29360193 r (.drop .z (.drop .z (.region (.ks 2 r (.nil' (je ((DK (b.From,b.To) h e),A6 (g+1)) hd d [0] r)))))))))))))
 refine .en 65 r (.sr (.kn 1 8257 r (.seq (.sk 1 r (.rangeM underlying283 .z r r r λb6=>.no 4503599627378689 r (.block (.own0 CW 139 (.lx hd [52,0] [] r (λj E l (p,F)=>λc w=>∃ q s,j ⟨78,[],none⟩ (λI_=>True) ((13,.slice q p.length s) :: E) (OwnSl CW 139 q s p :: OwnIt G8 sF true O b6 e F none :: l) c w) (λc w ho hs=>⟨_,_,jf rf tv [0,0] r ho hs⟩) ?_))))))));rintro⟨p,F⟩ c1 hd c w ⟨q,s,G,u,_,hok,hsym⟩;have B:=u.u1 d;refine Cod.at hok hsym (.sr (.nextM .p1 r hd r r (λhd V=>?_) (λA b7 d5 c4 hd X Y V=>?_)))
 . refine .kn 1 22517998136860673 r (.seq (.condKF r r (.en 8192 r (.drop .p1 (.sk 1 r ?_)))));have Z:=Fun.sort (hk:=λ_=>⟨r,r⟩) Ao3 L7 D3 (λx y J Q hq=>rQ (I:=J) (a0:=x) (a1:=y) (Q:=Q) hq) call209 (I:=G) (T:=139) (a:=q) (cap:=s) hd;refine .callS (.f call208 r) (.o [0] r) Z r r λd6 d7 d8 a2 a3=>?_;obtain⟨b8,rfl,C,rfl,hd⟩:=a3;obtain⟨a4,a5⟩:=a2.u2 B u;refine .rl .z [13,75] r (by rw[C]) (.nk 8192 3 r (.no 48 r (.pub .z λd9 a6 b9=>?_)));obtain⟨a7,c6⟩:=a6.u2 a4 a5;exact .ret (B0 r (.t r (.t r .n)) a7 ⟨(b8,0),_,_,r,b9,hd⟩)
 cases X;cases Y;refine .kn 1 22517998136860673 r (.seq (.condKT r r (.sn 4503599627378689 r (.block (.sr (.entryM .z r r r (.ks 2 r (.al bN r λe0=>.al HB r λe1=>.sa bL .p1 r (.sa B6 .z r (.nk 4503599627427841 1 r (.lw CB B6 .z r (.cq call207 (cN (I:=G) hd:) r λH hd=>?_))))))))))));refine .kn 5 4503599627591681 r (.drop .z (.seq (.sr (.kn 2 36897991747046563841 r (.condP r hd (λa9 hd=>?_) λa9 hd=>?_)))))
 . exact .sr (.kn 2 48 r (.drop .z (.drop .z (.drop .z (.ret (B0 r (.t r (.t r .n)) B ⟨(([]:List B5),12),_,_,r,(.nil _ _ _),hd⟩))))))
 refine .sn 4503599627460609 r (.region (.ks 1 r (.ixArr (i:=0) T4 D5 r r (by decide) (o:=0) r r r (.lo AE .z r (.ixArr (i:=1) T4 D5 r r (by decide) (o:=1) r r r (.lo AE .z r (.ks 1 r (.bd MR underlying139 AiT r (.bs 1 HD D3 MR r λe2=>?_)))))))));obtain⟨b0,hd⟩:=hd;exact .append (ys:=[({ From:=A.1.1,To:=A.1.2,W:=H.1 }:B5)]) 24 .p3 HD HD pN r r r r r r r r r (.box .z (.one r) r) b0 r r λe3 e4=>.ks 1 r (.nil' λc w ho hs=>⟨((p++([({ From:=A.1.1,To:=A.1.2,W:=H.1 }:B5)])),b7),hd,_,_,jf u tv [0,2] r ho hs⟩)
theorem PM {a0:Graph} {Q:Graph->Prop} (R3:RepSl CW I p1 c2 a0.Edges) (hd:I6 a0 Q) :
  AY prog 109 [.agg #[.int .i64 a0.N,.slice p1 a0.Edges.length c2]] I (o1_ Q):=by
 refine Fun.en func109 ntmps109 r λw0 M=>?_;refine .sr (.bx r λf=>.al XD r λg=>?_);refine .nk 6 1 r (.lo XC .p1 r (.call call160 r (mK R3 hd:) r r λh i a c=>?_));obtain⟨d,j,k,rfl,e,hd⟩:=c;have R3:=a.u1 R3;exact .ks 5 r (.nk 14 1 r (.lo AE .p1 r (.ks 1 r (.bd XD Aa4 AfS r (.sa EB .z r (.no 4 r (.drop .p1 (.ret (B0 r (.w HY EB r .z r .n) a ⟨({ N:=a0.N,Edges:=d.1 }:Graph),_,_,r,e,hd⟩)))))))))
theorem ZG {a0:B5} {Q:(B5×Bool)->Prop} (hd:M5 a0 Q) :
  Fun prog 108 #[.agg (KL a0).toArray] I [] (λI_ v l=>∃ r,v=.tuple #[.agg (KL r.1).toArray,.bool r.2]∧l=[]∧Q r):=by
 refine Fun.en func108 ntmps108 r λw0 M=>.sr (.bx r λa=>.al MR r λb=>.kn 1 6 r (.seq (.dr [0,1,2,3,4,5,6] 7 (.h r (.lw L7 D3 .p1 r .mk) (.fk 1 r (.hl AE 1 r (.fk 1 r (.hl AE 1 r (.fk 1 r (.ww r ?_))))))))));exact .sa D3 .z r (.sn 2 r r r (.ck 1 r r (.ch r (.lo AE .p1 r .mk) (.ck 1 r r (.ch r (.lo AE .p1 r .mk) (.ck 1 r r tv))))) (.e2 7 (.kn 1 12 r (.drop .p1 (.ret (CT r (.w L7 D3 r .z r (.t r .n)) rf .n ⟨(a0,a0.From != a0.To),r,r,hd⟩))))))
theorem kJ {a0:Graph} {Q:Graph->Prop} (R3:RepSl CW I p1 c2 a0.Edges) (hd:SA a0 Q) :
  Fun prog 107 #[.agg #[.int .i64 a0.N,.slice p1 a0.Edges.length c2],.func (.func 108) #[] #[]] I [] (λI_ v l=>∃ r p4 c5,v=.agg #[.int .i64 r.N,.slice p4 r.Edges.length c5]∧RepSl CW I_ p4 c5 r.Edges∧l=[]∧Q r):=by
 refine Fun.en func107 ntmps107 r λw0 M=>.sr (.bx r λp=>.al XD r λa5=>.nk 22 1 r (.no 54 r (.seq (.sk 1 r (.lo XC .p1 r (.ln HD r (.kn 1 14390 r (.block (.own0 CW 139 (.lx hd [12,11,4,2,1] [2,1] r (λj E l (a,b)=>λc w=>∃ e f,j ⟨34,[],none⟩ (λI_=>True) ((5,.slice e a.length f) :: (13,.int .i64 b) :: E) (OwnSl CW 139 e f a :: l) c w) (λc w ho hs=>⟨_,_,jf rf tv [0,1,0] r ho hs⟩) ?_))))))))));rintro⟨a,b⟩ O hd c w ⟨e,f,F,d,_,hok,hsym⟩;have R3:=d.u1 R3;refine Cod.at hok hsym (.sr (.kn 1 30774 r (.seq (.condP r hd (λk hd=>?_) λk hd=>?_))))
 . refine .sn 14390 r (.seq (.block (.sr ?_)));obtain⟨G,P,m,R,o134,H,o,hd⟩:=R3.ix hd;refine .ixb HD D3 H G m r (.ldW L7 D3 o r r r r (.al MR r λS=>?_));refine .sa D3 .z r (.nk 14518 1 r (.lw L7 D3 .z r ?_));refine .callS (.c call108 r r) .n (ZG (I:=F) hd:) r r λT U V q s=>?_;obtain⟨i,rfl,rfl,hd⟩:=s;obtain⟨h,R3⟩:=q.u2 d R3;refine .rn 4 r (.ks 3 r (.al MR r λW=>.sa D3 .z r (.kn 1 15158 r (.drop .p1 (.sr (.kn 1 8403254 r (.condP r hd (λt hd=>?_) λt hd=>?_)))))))
   . refine .region (.ks 1 r (.lw L7 D3 .z r (.bs 1 HD D3 MR r λX=>?_)));obtain⟨u,hd⟩:=hd;exact .append (ys:=[i.1]) 24 .p2 HD HD pN r r r r r r r r r (.box .z (.one r) r) u r r λY Z=>.kn 1 14390 r (.drop .p1 (.drop .p1 (.region (.ks 2 r (.nil' λc w ho hs=>⟨((a++([i.1])),A6 (b+1)),hd,_,_,jf h tv [0,0,0] r ho hs⟩)))))
   exact .sn 14390 r (.drop .z (.region (.ks 2 r (.nil' λc w ho hs=>⟨(a,A6 (b+1)),hd,_,_,jf h tv [0,0,0] r ho hs⟩))))
 refine .en 54 r (.sk 1 r (.lo AE .p1 r (.ks 1 r (.bd XD Aa4 AfS r (.pub .z λJ x g=>?_)))));obtain⟨y,R3⟩:=x.u2 d R3;refine .call call109 r (PM (I:=J) (a0:=({ N:=a0.N,Edges:=a }:Graph)) g hd:) r r λa1 a2 B C=>?_;obtain⟨K,a3,a4,rfl,L,hd⟩:=C;obtain⟨D,R3,g⟩:=B.u3 y R3 g;exact .sa EB .p1 r (.no 18 r (.drop .z (.ret (CT r (.w HY EB r .z r .n) D .n ⟨K,_,_,r,L,r,hd⟩))))
theorem qD {a0:Graph} {Q:Graph->Prop} (R3:RepSl CW I p1 c2 a0.Edges) (hd:RC a0 Q) :
  AY prog 63 [.agg #[.int .i64 a0.N,.slice p1 a0.Edges.length c2]] I (o1_ Q):=by
 refine Fun.en func63 ntmps63 r λw0 M=>?_;refine .sr (.bx r λl=>.al XD r λm=>?_);refine .ns 6 r (.lw HY EB .p1 r (.callS (.f call107 r) .n (kJ R3 hd:) r r λg h i a c=>?_));obtain⟨d,j,k,rfl,e,rfl,hd⟩:=c;have R3:=a.u1 R3;exact .rn 2 r (.sa EB .z r (.no 4 r (.drop .p1 (.ret (B0 r (.w HY EB r .z r .n) a ⟨d,_,_,r,e,hd⟩)))))
theorem O6 {a1:Int} {Q:(List B5)->Prop} (hd:FC a1 Q) :
  uI prog 161 [.slice none 0 0,.int .i64 a1] I (λI_ v l=>∃ r p1 c2,v=.slice p1 r.length c2∧l=[OwnSl CW 139 p1 c2 r]∧Q r):=by
 refine Fun.en func161 ntmps161 r λw0 M=>.sr (.kn 1 3 r (.seq (.sr (.kn 2 67 r (.condP r hd (λa hd=>?_) λa hd=>?_)))))
 . refine .region ?_;exact hd.elim
 refine .sn 3 r (.seq (.sk 2 r (.capOf HD r r r r (.ks 1 r (.ln HD r (.ks 3 r (.nk 3 2 r (.no 65539 r (.condP r hd (λb hd=>?_) λb hd=>?_)))))))))
 . refine .region (.ks 2 r (.capOf HD r r r r (.slZ HD D3 r r (Nat.le_refl _) r r r (.ks 1 r ?_))));obtain⟨d,e,hd⟩:=hd;exact .growN CW 24 HD eU pN r r r r r r r r d e r r λg f c=>.ks 1 r (.ln HD r (.slZ HD D3 r r c AgS r r (.ks 1 r (.nk 1 2 r (.no 16 r (.q1 results161 rf [0] r ⟨([]:List B5),_,_,r,r,hd⟩))))))
 exact .sn 1 r (.sr (.kn 2 16 r (.own0 CW 139 (.q1 results161 rf [0] r ⟨([]:List B5),_,_,r,r,hd⟩))))
theorem N0 {a0:List (List B5)} {Q:(List B5)->Prop} (R3:RepSl (mD CW) I p1 c2 a0) (hd:D9 a0 Q) :
  AY prog 110 [.slice p1 a0.length c2] I (λI_ v=>∃ r p4 c5,v=.slice p4 r.length c5∧RepSl CW I_ p4 c5 r∧Q r):=by
 refine Fun.en func110 ntmps110 r λw0 M=>.sk 1 r (.nk 1 1 r (.no 9 r (.seq (.sk 1 r (.ln underlying244 r (.kn 1 3593 r (.block (.lp hd [10,9,0] [] r (λj E l (e,f)=>j ((3,.int .i64 e) :: (11,.int .i64 f) :: E) l) (ji rf [] r) ?_))))))));rintro⟨e,f⟩ R hd;refine jq r λG b=>?_;have R3:=b.u1 R3;refine .sr (.kn 1 7689 r (.seq (.condP r hd (λo hd=>?_) λo hd=>?_)))
 . refine .sn 3593 r (.seq (.block (.sr ?_)));obtain⟨H,J,k,hd⟩:=hd;obtain⟨W,o182,T,K,p,X,Y,rfl,Z⟩:=R3.2 _ _ k;refine .ixb underlying244 sizeOf26 K H k r (.ldb 0 XC p r (.ks 1 r (.nk 3625 2 r (.ln HD r (.ks 2 r (.nk 3593 2 r (.no 1052169 r (.condP r hd (λq hd=>?_) λq hd=>?_))))))))
   . refine .region ?_;exact hd.elim
   exact .sn 3593 r (.region (.ks 2 r (.nil' (je (A6 (e+(J.length:Int)),A6 (f+1)) hd b [] r))))
 refine .en 9 r (.sk 1 r ?_);refine .callO call161 r (O6 (I:=G) hd:) r r λa1 a2 a3 t u=>?_;obtain⟨a4,a5,a6,rfl,rfl,hd⟩:=u;obtain⟨x,R3⟩:=t.u2 b R3;refine .kn 1 65 r (.seq (.sk 1 r (.ln underlying244 r (.kn 1 234881088 r (.block (.lx hd [26,25] [] r (λj E l (a,g)=>λc w=>∃ h i,j ⟨36,[],none⟩ (λI_=>True) ((6,.slice h a.length i) :: (27,.int .i64 g) :: E) (OwnSl CW 139 h i a :: l) c w) (λc w ho hs=>⟨_,_,jf rf tv [0] r ho hs⟩) ?_))))));rintro⟨a,g⟩ S hd c w ⟨h,i,a7,d,_,hok,hsym⟩;obtain⟨y,R3⟩:=d.u2 x R3;refine Cod.at hok hsym (.sr (.kn 1 503316544 r (.seq (.condP r hd (λA hd=>?_) λA hd=>?_))))
 . refine .sn 234881088 r (.seq (.block (.sr ?_)));obtain⟨L,n,m,hd⟩:=hd;obtain⟨a8,o281,U,N,B,a9,s,rfl,O⟩:=R3.2 _ _ m;refine .ixb underlying244 sizeOf26 N L m r (.ldb 0 XC B r (.kn 1 234881344 r (.region (.ks 2 r ?_))));obtain⟨C,hd⟩:=hd;exact .append (ys:=n) 24 .z HD HD pN r r r r r r r r r (.imm O r) C r r λb1 b2=>.kn 1 234881088 r (.region (.ks 2 r (.nil' λc w ho hs=>⟨((a++n),A6 (g+1)),hd,_,_,jf d tv [0] r ho hs⟩)))
 refine .en 64 r (.sr (.kn 2 4 r (.pub .z λb3 D P=>?_)));obtain⟨F,V⟩:=D.u2 y d;exact .r1 results110 r F ⟨a,_,_,r,P,hd⟩
theorem dY {a0:B5} {Q:(B5×Bool)->Prop} (hd:KN a0 Q) :
  Fun prog 162 #[.agg (KL a0).toArray] I [] (λI_ v l=>∃ r,v=.tuple #[.agg (KL r.1).toArray,.bool r.2]∧l=[]∧Q r):=by
 refine Fun.en func162 ntmps162 r λw0 M=>.sr (.bx r λa=>.al MR r λb=>.ks 1 r (.nk 6 1 r (.lo AE .p1 r (.ks 1 r (.lo AE .p1 r (.ks 1 r (.lo O7 .p1 r (.bd MR underlying139 AiT r (.sa D3 .z r (.kn 1 12 r ?_))))))))));exact .drop .p1 (.ret (CT r (.w L7 D3 r .z r (.t r .n)) rf .n ⟨(({ From:=a0.To,To:=a0.From,W:=a0.W }:B5),true),r,r,hd⟩))
theorem kK {a0:Graph} {Q:Graph->Prop} (R3:RepSl CW I p1 c2 a0.Edges) (hd:N6 a0 Q) :
  Fun prog 107 #[.agg #[.int .i64 a0.N,.slice p1 a0.Edges.length c2],.func (.func 162) #[] #[]] I [] (λI_ v l=>∃ r p4 c5,v=.agg #[.int .i64 r.N,.slice p4 r.Edges.length c5]∧RepSl CW I_ p4 c5 r.Edges∧l=[]∧Q r):=by
 refine Fun.en func107 ntmps107 r λw0 M=>.sr (.bx r λp=>.al XD r λa5=>.nk 22 1 r (.no 54 r (.seq (.sk 1 r (.lo XC .p1 r (.ln HD r (.kn 1 14390 r (.block (.own0 CW 139 (.lx hd [12,11,4,2,1] [2,1] r (λj E l (a,b)=>λc w=>∃ e f,j ⟨34,[],none⟩ (λI_=>True) ((5,.slice e a.length f) :: (13,.int .i64 b) :: E) (OwnSl CW 139 e f a :: l) c w) (λc w ho hs=>⟨_,_,jf rf tv [0,1,0] r ho hs⟩) ?_))))))))));rintro⟨a,b⟩ O hd c w ⟨e,f,F,d,_,hok,hsym⟩;have R3:=d.u1 R3;refine Cod.at hok hsym (.sr (.kn 1 30774 r (.seq (.condP r hd (λk hd=>?_) λk hd=>?_))))
 . refine .sn 14390 r (.seq (.block (.sr ?_)));obtain⟨G,P,m,R,o134,H,o,hd⟩:=R3.ix hd;refine .ixb HD D3 H G m r (.ldW L7 D3 o r r r r (.al MR r λS=>?_));refine .sa D3 .z r (.nk 14518 1 r (.lw L7 D3 .z r ?_));refine .callS (.c call162 r r) .n (dY (I:=F) hd:) r r λT U V q s=>?_;obtain⟨i,rfl,rfl,hd⟩:=s;obtain⟨h,R3⟩:=q.u2 d R3;refine .rn 4 r (.ks 3 r (.al MR r λW=>.sa D3 .z r (.kn 1 15158 r (.drop .p1 (.sr (.kn 1 8403254 r (.condP r hd (λt hd=>?_) λt hd=>?_)))))))
   . refine .region (.ks 1 r (.lw L7 D3 .z r (.bs 1 HD D3 MR r λX=>?_)));obtain⟨u,hd⟩:=hd;exact .append (ys:=[i.1]) 24 .p2 HD HD pN r r r r r r r r r (.box .z (.one r) r) u r r λY Z=>.kn 1 14390 r (.drop .p1 (.drop .p1 (.region (.ks 2 r (.nil' λc w ho hs=>⟨((a++([i.1])),A6 (b+1)),hd,_,_,jf h tv [0,0,0] r ho hs⟩)))))
   exact .sn 14390 r (.drop .z (.region (.ks 2 r (.nil' λc w ho hs=>⟨(a,A6 (b+1)),hd,_,_,jf h tv [0,0,0] r ho hs⟩))))
 refine .en 54 r (.sk 1 r (.lo AE .p1 r (.ks 1 r (.bd XD Aa4 AfS r (.pub .z λJ x g=>?_)))));obtain⟨y,R3⟩:=x.u2 d R3;refine .call call109 r (PM (I:=J) (a0:=({ N:=a0.N,Edges:=a }:Graph)) g hd:) r r λa1 a2 B C=>?_;obtain⟨K,a3,a4,rfl,L,hd⟩:=C;obtain⟨D,R3,g⟩:=B.u3 y R3 g;exact .sa EB .p1 r (.no 18 r (.drop .z (.ret (CT r (.w HY EB r .z r .n) D .n ⟨K,_,_,r,L,r,hd⟩))))
theorem iG {a0:Graph} {Q:Graph->Prop} (R3:RepSl CW I p1 c2 a0.Edges) (hd:OC a0 Q) :
  AY prog 111 [.agg #[.int .i64 a0.N,.slice p1 a0.Edges.length c2]] I (o1_ Q):=by
 refine Fun.en func111 ntmps111 r λw0 M=>?_;refine .sr (.bx r λl=>.al XD r λm=>?_);refine .ns 6 r (.lw HY EB .p1 r (.callS (.f call107 r) .n (kK R3 hd:) r r λg h i a c=>?_));obtain⟨d,j,k,rfl,e,rfl,hd⟩:=c;have R3:=a.u1 R3;exact .rn 2 r (.sa EB .z r (.no 4 r (.drop .p1 (.ret (B0 r (.w HY EB r .z r .n) a ⟨d,_,_,r,e,hd⟩)))))
theorem iH {a0:Graph} {Q:Graph->Prop} (R3:RepSl CW I p1 c2 a0.Edges) (hd:SB a0 Q) :
  AY prog 64 [.agg #[.int .i64 a0.N,.slice p1 a0.Edges.length c2]] I (o1_ Q):=by
 refine Fun.en func64 ntmps64 r λw0 M=>?_;refine .sr (.bx r λD=>.al XD r λE=>?_);refine .no 6 r (.seq (.dr [0,1,2,3,4,5,6,7,8,9,10] 11 (.fk 1 r (.hl AE 1 r (.fk 1 r (.hl XC 1 r (.h r (.lw HY EB .p1 r .mk) (.ww r (.call call111 r (iG R3 hd:) r r λF G c g=>?_)))))))));obtain⟨e,v,x,rfl,a,hd⟩:=g;have R3:=c.u1 R3;refine .so 2 r r r (.ch r (.lo XC .p1 r .mk) (.ck 1 r r (.ch r (.lo AE .p1 r .mk) (.ck 1 r r tv)))) (.h r (.field1 Aa4 r XC r r r r .mk) (.ww r (.bs 2 underlying244 sizeOf26 zeroValue26 r λH=>.so 3 r r r (.ch r (.lo AE .p2 r .mk) (.ck 1 r r tv)) (.ww r ?_))));refine .pubB (El:=(mD CW)) (ys:=([a0.Edges,e.Edges]:List (List B5))) (k:=2) .z (RepCs.cons (cs:=[.slice p1 a0.Edges.length c2]) ⟨_,_,r,R3⟩ (RepCs.cons (cs:=[.slice v e.Edges.length x]) ⟨_,_,r,a⟩ .nil)) r λJ i b=>?_;obtain⟨j,R3,a⟩:=i.u3 c R3 a;refine .call call110 r (N0 b hd:) r r λK y m o=>?_;obtain⟨A,L,O,rfl,d,hd⟩:=o;obtain⟨p,R3,a,b⟩:=m.u4 j R3 a b;refine .so 2 r r r (.ch r (.lo AE .p1 r .mk) (.ck 1 r r tv)) (.h r (.bd XD Aa4 AfS r .mk) (.ww r ?_));refine .call call109 r (PM (I:=y) (a0:=({ N:=a0.N,Edges:=A }:Graph)) d hd:) r r λP R s t=>?_;obtain⟨B,S,T,rfl,C,hd⟩:=t;obtain⟨u,R3,a,b,d⟩:=s.u5 p R3 a b d;exact .so 2 r r r tv (.e2 11 (.sa EB .z r (.no 4 r (.drop .p1 (.ret (B0 r (.w HY EB r .z r .n) u ⟨B,_,_,r,C,hd⟩))))))
theorem bQ {a0:B5} {Q:(B5×Bool)->Prop} (hd:N7 a0 Q) :
  Fun prog 112 #[.agg (KL a0).toArray] I [] (λI_ v l=>∃ r,v=.tuple #[.agg (KL r.1).toArray,.bool r.2]∧l=[]∧Q r):=by
 exact Fun.en func112 ntmps112 r λw0 M=>.sr (.bx r λa=>.al MR r λb=>.ks 1 r (.nk 6 1 r (.s1 bK .p1 r (.ns 6 r (.lw L7 D3 .p1 r (.sa D3 .z r (.kn 1 12 r (.drop .p1 (.ret (CT r (.w L7 D3 r .z r (.t r .n)) rf .n ⟨(({ a0 with W:=1 }:B5),true),r,r,hd⟩))))))))))
theorem kL {a0:Graph} {Q:Graph->Prop} (R3:RepSl CW I p1 c2 a0.Edges) (hd:SD a0 Q) :
  Fun prog 107 #[.agg #[.int .i64 a0.N,.slice p1 a0.Edges.length c2],.func (.func 112) #[] #[]] I [] (λI_ v l=>∃ r p4 c5,v=.agg #[.int .i64 r.N,.slice p4 r.Edges.length c5]∧RepSl CW I_ p4 c5 r.Edges∧l=[]∧Q r):=by
 refine Fun.en func107 ntmps107 r λw0 M=>.sr (.bx r λp=>.al XD r λa5=>.nk 22 1 r (.no 54 r (.seq (.sk 1 r (.lo XC .p1 r (.ln HD r (.kn 1 14390 r (.block (.own0 CW 139 (.lx hd [12,11,4,2,1] [2,1] r (λj E l (a,b)=>λc w=>∃ e f,j ⟨34,[],none⟩ (λI_=>True) ((5,.slice e a.length f) :: (13,.int .i64 b) :: E) (OwnSl CW 139 e f a :: l) c w) (λc w ho hs=>⟨_,_,jf rf tv [0,1,0] r ho hs⟩) ?_))))))))));rintro⟨a,b⟩ O hd c w ⟨e,f,F,d,_,hok,hsym⟩;have R3:=d.u1 R3;refine Cod.at hok hsym (.sr (.kn 1 30774 r (.seq (.condP r hd (λk hd=>?_) λk hd=>?_))))
 . refine .sn 14390 r (.seq (.block (.sr ?_)));obtain⟨G,P,m,R,o134,H,o,hd⟩:=R3.ix hd;refine .ixb HD D3 H G m r (.ldW L7 D3 o r r r r (.al MR r λS=>?_));refine .sa D3 .z r (.nk 14518 1 r (.lw L7 D3 .z r ?_));refine .callS (.c call112 r r) .n (bQ (I:=F) hd:) r r λT U V q s=>?_;obtain⟨i,rfl,rfl,hd⟩:=s;obtain⟨h,R3⟩:=q.u2 d R3;refine .rn 4 r (.ks 3 r (.al MR r λW=>.sa D3 .z r (.kn 1 15158 r (.drop .p1 (.sr (.kn 1 8403254 r (.condP r hd (λt hd=>?_) λt hd=>?_)))))))
   . refine .region (.ks 1 r (.lw L7 D3 .z r (.bs 1 HD D3 MR r λX=>?_)));obtain⟨u,hd⟩:=hd;exact .append (ys:=[i.1]) 24 .p2 HD HD pN r r r r r r r r r (.box .z (.one r) r) u r r λY Z=>.kn 1 14390 r (.drop .p1 (.drop .p1 (.region (.ks 2 r (.nil' λc w ho hs=>⟨((a++([i.1])),A6 (b+1)),hd,_,_,jf h tv [0,0,0] r ho hs⟩)))))
   exact .sn 14390 r (.drop .z (.region (.ks 2 r (.nil' λc w ho hs=>⟨(a,A6 (b+1)),hd,_,_,jf h tv [0,0,0] r ho hs⟩))))
 refine .en 54 r (.sk 1 r (.lo AE .p1 r (.ks 1 r (.bd XD Aa4 AfS r (.pub .z λJ x g=>?_)))));obtain⟨y,R3⟩:=x.u2 d R3;refine .call call109 r (PM (I:=J) (a0:=({ N:=a0.N,Edges:=a }:Graph)) g hd:) r r λa1 a2 B C=>?_;obtain⟨K,a3,a4,rfl,L,hd⟩:=C;obtain⟨D,R3,g⟩:=B.u3 y R3 g;exact .sa EB .p1 r (.no 18 r (.drop .z (.ret (CT r (.w HY EB r .z r .n) D .n ⟨K,_,_,r,L,r,hd⟩))))
theorem V6 {a0:Graph} {Q:Graph->Prop} (R3:RepSl CW I p1 c2 a0.Edges) (hd:MI a0 Q) :
  AY prog 65 [.agg #[.int .i64 a0.N,.slice p1 a0.Edges.length c2]] I (o1_ Q):=by
 refine Fun.en func65 ntmps65 r λw0 M=>?_;refine .sr (.bx r λl=>.al XD r λm=>?_);refine .ns 6 r (.lw HY EB .p1 r (.callS (.f call107 r) .n (kL R3 hd:) r r λg h i a c=>?_));obtain⟨d,j,k,rfl,e,rfl,hd⟩:=c;have R3:=a.u1 R3;exact .rn 2 r (.sa EB .z r (.no 4 r (.drop .p1 (.ret (B0 r (.w HY EB r .z r .n) a ⟨d,_,_,r,e,hd⟩)))))
theorem lX {a0 a1:Int} {Q:Rows->Prop} (hd:VK a0 a1 Q) :
  uI prog 163 [.int .i64 a0,.int .i64 a1] I (λI_ v l=>∃ r p1 c2 p4 c5 p7 c8,v=.agg #[.int .i64 r.Rows,.int .i64 r.Cols,.slice p1 r.Start.length c2,.slice p4 r.Col.length c5,.slice p7 r.Val.length c8]∧l=[OwnSl AR 3 p1 c2 r.Start,OwnSl AR 3 p4 c5 r.Col,OwnSl AR 2 p7 c8 r.Val]∧Q r):=by
 refine Fun.en func163 ntmps163 r λw0 M=>.sr (.al XE r λc=>.nk 19 4 r ?_);obtain⟨a,b,hd⟩:=hd;exact .make (El:=AR) (zv:=0) 8 BB IN3 r r r r r r a b r r r λd=>.bd XE Aa6 Ac7 r (.sa CH .p1 r (.no 16 r (.own0 AR 3 (.own0 AR 2 (.ret (CT r (.w FA CH r .p3 r .n) rf (.o [2,1,0] r) ⟨({ Rows:=a0,Cols:=a1,Start:=(List.replicate (A6 (a0+1)).toNat 0),Col:=([]:List Int),Val:=([]:List Int) }:Rows),_,_,_,_,_,_,r,r,hd⟩))))))
theorem ZH {a0 a1:Int} {a2:List A3} {Q:Rows->Prop} (R3:RepSl ID I p1 c2 a2) (hd:RX a0 a1 a2 Q) :
  AY prog 113 [.int .i64 a0,.int .i64 a1,.slice p1 a2.length c2] I (λI_ v=>∃ r gd4,v=.agg (K7 r gd4)∧iV I_ gd4 r∧Q r):=by
 refine Fun.en func113 ntmps113 r λw0 M=>?_;refine .sr (.al XE r λb8=>?_);refine .nk 71 2 r (.callO call163 r (lX (I:=I) hd:) r r λf4 f5 f6 S c4=>?_);obtain⟨d,f7,f8,f9,g0,g1,g2,rfl,rfl,hd⟩:=c4;have R3:=S.u1 R3;refine .al XE r λN=>.sa CH .z r (.no 197 r (.seq (.sk 1 r (.ln MQ r (.kn 1 114881 r (.block (.lx hd [15,14,7,6,0] [4] r (λj E l (p,a,b,D)=>λc w=>∃ F t e f g i,j ⟨63,[],none⟩ (λI_=>True) ((16,.int .i64 D) :: E) (pto N (.cells #[.int .i64 d.Rows,.int .i64 d.Cols,.slice F p.length t,.slice e a.length f,.slice g b.length i] 90 (0,0)) :: OwnSl AR 3 F t p :: OwnSl AR 3 e f a :: OwnSl AR 2 g i b :: l) c w) (λc w ho hs=>⟨_,_,_,_,_,_,jf rf tv [0,0,0,0,0] r ho hs⟩) ?_)))))));rintro⟨p,a,b,D⟩ d2 hd c w ⟨F,t,e,f,g,i,d8,u,_,hok,hsym⟩;obtain⟨Z,R3⟩:=u.u2 S R3;refine Cod.at hok hsym (.sr (.kn 1 245953 r (.seq (.condP r hd (λa3 hd=>?_) λa3 hd=>?_))))
 . refine .sn 114881 r (.seq (.block (.sr ?_)));obtain⟨c5,k,a4,d9,o441,c6,a5,hd⟩:=R3.ix hd;refine .ixb MQ QT c6 c5 a4 r (.ldW isAgg151 QT a5 r r r r (.al ZB r λe0=>.sa QT .z r (.nk 115393 1 r (.lo EM .p1 r (.ks 1 r (.lo AE .z r (.ks 1 r ?_)))))));obtain⟨T,G,x,hd⟩:=hd;refine .ownNe .p2 (FN x) λc7 c8=>?_;cases c8;refine .ixa0 BB D5 r r T (CC x T) r r (.lo1 (j:=0) AE .p2 x r r r r r (.ks 1 r ?_));obtain⟨U,e1,O,hd⟩:=hd;refine .ixa0 BB D5 r r U (CC O U) r r (.stO1 (j:=0) (v':=(A6 (G+1))) D5 .p2 O r r r (.o r) r (.rl .p2 [21] r (by simp only[List.length_set]) (.reat .p1 (B:=pto N (.cells #[.int .i64 d.Rows,.int .i64 d.Cols,.slice (some ⟨c7,0,none⟩) (p.set ((A6 (k.Row+1)).toNat) (A6 (G+1))).length t,.slice e a.length f,.slice g b.length i] 90 (0,0))) (by simp only[List.length_set]) (.nk 115393 1 r (.lo EM .p1 r (.ks 1 r (.lo AE .z r (.bs 1 BB D5 kA r λe3=>?_))))))));obtain⟨a6,hd⟩:=hd;refine .append (ys:=[k.Col]) 8 .p4 BB BB IN3 r r r r r r r r r (.box .z (.one r) r) a6 r r λe4 e5=>.ks 1 r (.s1 sizeOf88 .p3 r (.no 115393 r (.drop .p1 (.region (.ks 1 r (.lo DY .p2 r (.ks 1 r (.lo O7 .p1 r (.bs 1 D7 bK zv2 r λe6=>?_)))))))));obtain⟨a7,hd⟩:=hd;exact .append (ys:=[k.Val]) 8 .p5 D7 D7 IN2 r r r r r r r r r (.box .z (.one r) r) a7 r r λe7 e8=>.ks 1 r (.s1 mI .p4 r (.no 114881 r (.drop .p1 (.drop .p2 (.region (.ks 2 r (.nil' λc w ho hs=>⟨((p.set ((A6 (k.Row+1)).toNat) (A6 (G+1))),(a++([k.Col])),(b++([k.Val])),A6 (D+1)),hd,_,_,_,_,_,_,jf u tv [2,2,1,0,0] r ho hs⟩)))))))
 refine .en 193 r (.seq (.sr (.kn 2 52776558133440 r (.block (.lx hd [44,7,6] [4,2,2] r (λj E l (m,q)=>λc w=>∃ H y,j ⟨63,[],none⟩ (λI_=>True) ((45,.int .i64 q) :: E) (pto N (.cells #[.int .i64 d.Rows,.int .i64 d.Cols,.slice H m.length y,.slice e a.length f,.slice g b.length i] 90 (0,0)) :: OwnSl AR 3 H y m :: l) c w) (λc w ho hs=>⟨_,_,jf rf tv [0,0,2,0,0] r ho hs⟩) ?_)))));rintro⟨m,q⟩ d3 hd c w ⟨H,y,e9,A,_,hok,hsym⟩;obtain⟨a8,a9⟩:=A.u2 Z u;refine Cod.at hok hsym (.sr (.kn 1 123145302311104 r (.seq (.condP r hd (λb0 hd=>?_) λb0 hd=>?_))))
 . refine .sn 52776558133440 r (.seq (.block (.sr (.kn 2 52776558134464 r (.ownF .p1 λV=>.ownF .p3 λd4=>.ownF .p4 λd5=>.dr [0,1,2,3,4,5,6,7,8,9,10,11] 12 (.fk 1 r (.hl EM 0 r (.fk 2 r ?_))))))));obtain⟨W,J,C,hd⟩:=hd;obtain⟨c9,d0⟩:=V (FN C);cases d0;refine .h r (.ixa0 BB D5 r r W (CC C W) r r .mk) (.h r (.lo1 (j:=0) AE .p1 C r r r r r .mk) (.fk 1 r (.hl EM 0 r (.fk 1 r ?_))));obtain⟨X,K,P,hd⟩:=hd;refine .h r (.ixa0 BB D5 r r X (CC P X) r r .mk) (.h r (.lo1 (j:=0) AE .p1 P r r r r r .mk) (.fk 1 r (.e2 12 ?_)));obtain⟨Y,f0,R,hd⟩:=hd;exact .ixa0 BB D5 r r Y (CC R Y) r r (.stO1 (j:=0) (v':=(A6 (J+K))) D5 .p1 R r r r (.o r) r (.rl .p1 [49,55] r (by simp only[List.length_set]) (.reat .z (B:=pto N (.cells #[.int .i64 d.Rows,.int .i64 d.Cols,.slice (some ⟨c9,0,none⟩) (m.set ((A6 (q+1)).toNat) (A6 (J+K))).length y,.slice e a.length f,.slice g b.length i] 90 (0,0))) (by simp only[List.length_set]) (.no 52776558133440 r (.region (.ks 2 r (.nil' λc w ho hs=>⟨((m.set ((A6 (q+1)).toNat) (A6 (J+K))),A6 (q+1)),hd,_,_,jf A tv [0,0,0,0,0] r ho hs⟩)))))))
 refine .en 192 r (.sr (.lw FA CH .z r (.sa CH .p2 r (.no 64 r (.drop .z (.pub .z λf1 b1 s=>?_))))));obtain⟨b2,b3,b4⟩:=b1.u3 a8 a9 A;refine .pub .p1 λf2 b5 L=>?_;obtain⟨b6,b7,b9,s⟩:=b5.u4 b2 b3 b4 s;refine .pub .p1 λf3 c0 d1=>?_;obtain⟨c1,d6,d7,s,L⟩:=c0.u5 b6 b7 b9 s L;exact .ret (B0 r (.w FA CH r .z r .n) c1 ⟨({ d with Start:=m,Col:=a,Val:=b }:Rows),((_,_),(_,_),(_,_)),r,⟨s,L,d1⟩,hd⟩)
theorem UN {a0:Graph} {Q:(Rows×Int)->Prop} (R3:RepSl CW I p1 c2 a0.Edges) (hd:OD a0 Q) :
  AY prog 66 [.agg #[.int .i64 a0.N,.slice p1 a0.Edges.length c2]] I (λI_ v=>∃ r gd4,v=.tuple #[.agg (K7 r.1 gd4),.int .i64 r.2]∧iV I_ gd4 r.1∧Q r):=by
 refine Fun.en func66 ntmps66 r λw0 M=>.sr (.bx r λa6=>.al XE r λa7=>.kn 1 6 r (.seq (.sr (.lw HY EB .p1 r (.cq call62 (cL R3 hd:) r λT hd=>.ks 1 r (.nk 22 2 r (.no 2070 r (.condP r hd (λH hd=>?_) λH hd=>?_))))))))
 . exact .sr (.bd XE Aa6 Ac7 r (.ks 1 r (.sa CH .z r (.kn 1 12 r (.drop .p1 (.ret (B0 r (.w FA CH r .z r (.t r .n)) rf ⟨(QJ,T),((_,_),(_,_),(_,_)),r,⟨(.nil _ _ _),(.nil _ _ _),(.nil _ _ _)⟩,hd⟩)))))))
 refine .sn 6 r (.sr (.kn 1 38 r (.seq (.sr (.lw HY EB .p1 r ?_)))));refine .call call111 r (iG R3 hd:) r r λa8 a9 i K=>?_;obtain⟨A,G,J,rfl,k,hd⟩:=K;have R3:=i.u1 R3;refine .field1 Aa4 r XC r r r r (.ln HD r (.kn 1 458790 r (.block (.own0 ID 151 (.lx hd [17,16,2,1] [2,1] r (λj E l (b,e)=>λc w=>∃ f g,j ⟨39,[],none⟩ (λI_=>True) ((5,.slice f b.length g) :: (18,.int .i64 e) :: E) (OwnSl ID 151 f g b :: l) c w) (λc w ho hs=>⟨_,_,jf rf tv [0,1,0] r ho hs⟩) ?_)))));rintro⟨b,e⟩ S hd c w ⟨f,g,V,d,_,hok,hsym⟩;obtain⟨m,R3,k⟩:=d.u3 i R3 k;refine Cod.at hok hsym (.sr (.kn 1 983078 r (.seq (.condP r hd (λo hd=>?_) λo hd=>?_))))
 . refine .sn 458790 r (.seq (.block (.sr ?_)));obtain⟨L,a,p,X,o155,O,q,hd⟩:=k.ix hd;refine .ixb HD D3 O L p r (.ldW L7 D3 q r r r r (.al MR r λY=>.sa D3 .z r (.no 458918 r (.region (.ks 2 r (.lo AE .z r (.ks 1 r (.lo AE .z r (.ks 1 r (.lo O7 .z r (.bd ZB underlying151 Ae8 r (.bs 1 MQ QT ZB r λZ=>?_))))))))))));obtain⟨s,hd⟩:=hd;exact .append (ys:=[({ Row:=a.From,Col:=a.To,Val:=a.W }:A3)]) 24 .p2 MQ MQ Ae7 r r r r r r r r r (.box .z (.one r) r) s r r λa1 a2=>.kn 1 458790 r (.drop .p1 (.drop .p1 (.region (.ks 2 r (.nil' λc w ho hs=>⟨((b++([({ Row:=a.From,Col:=a.To,Val:=a.W }:A3)])),A6 (e+1)),hd,_,_,jf d tv [0,0,0] r ho hs⟩)))))
 refine .en 38 r (.sk 1 r (.lo AE .p1 r (.ks 1 r (.lo AE .p1 r (.ks 1 r (.pub .z λa3 u h=>?_))))));obtain⟨x,y,R3⟩:=u.u3 m d R3;refine .call call113 r (ZH h hd:) r r λa4 a5 B C=>?_;obtain⟨P,D,rfl,R,hd⟩:=C;obtain⟨F,U,R3,h⟩:=B.u4 x y R3 h;exact .sa CH .p1 r (.kn 1 12 r (.drop .z (.ret (B0 r (.w FA CH r .z r (.t r .n)) F ⟨(P,0),D,r,R,hd⟩))))
theorem cO {a0:Plan} {a1:Graph} {Q:(Rows×Int)->Prop} (R3:RepSl AR I p1 c2 a0.Draws) (R6:RepSl CW I p4 c5 a1.Edges) (hd:PU a0 a1 Q) :
  AY prog 35 [.agg (IW a0 p1 c2),.agg #[.int .i64 a1.N,.slice p4 a1.Edges.length c5]] I (λI_ v=>∃ r gd7,v=.tuple #[.agg (K7 r.1 gd7),.int .i64 r.2]∧iV I_ gd7 r.1∧Q r):=by
 refine Fun.en func35 ntmps35 r λw0 M=>.sr (.bx r λe7=>.bx r λe8=>.al XE r λe9=>.kn 1 28 r (.seq (.sr (.lw JV HT .p2 r (.cq call61 (XI R3 hd:) r λo hd=>.ks 1 r (.nk 92 2 r (.no 2140 r (.condP r hd (λY hd=>?_) λY hd=>?_))))))))
 . exact .sr (.bd XE Aa6 Ac7 r (.ks 1 r (.sa CH .z r (.kn 1 48 r (.drop .p1 (.drop .p1 (.ret (B0 r (.w FA CH r .z r (.t r .n)) rf ⟨(QJ,o),((_,_),(_,_),(_,_)),r,⟨(.nil _ _ _),(.nil _ _ _),(.nil _ _ _)⟩,hd⟩))))))))
 refine .sn 28 r (.seq (.sk 1 r (.lo AE .p1 r (.ks 1 r (.lo AE .p2 r (.kn 1 262172 r (.condP r hd (λZ hd=>?_) λZ hd=>?_)))))))
 . exact .sr (.bd XE Aa6 Ac7 r (.sa CH .z r (.kn 1 48 r (.drop .p1 (.drop .p1 (.ret (B0 r (.w FA CH r .z r (.t r .n)) rf ⟨(QJ,4),((_,_),(_,_),(_,_)),r,⟨(.nil _ _ _),(.nil _ _ _),(.nil _ _ _)⟩,hd⟩)))))))
 refine .sn 28 r (.seq (.sr (.lw HY EB .p1 r (.cq call62 (cL R6 hd:) r λs hd=>.ks 1 r (.nk 156 2 r (.no 8388764 r (.condP r hd (λa3 hd=>?_) λa3 hd=>?_)))))))
 . exact .sr (.bd XE Aa6 Ac7 r (.ks 1 r (.sa CH .z r (.kn 1 48 r (.drop .p1 (.drop .p1 (.ret (B0 r (.w FA CH r .z r (.t r .n)) rf ⟨(QJ,s),((_,_),(_,_),(_,_)),r,⟨(.nil _ _ _),(.nil _ _ _),(.nil _ _ _)⟩,hd⟩))))))))
 refine .sn 28 r (.seq (.sk 1 r (.lo XB .p2 r (.no 134217752 r (.drop .p2 (.block (.seq (.block (.seq ?_)))))))));refine .block (.seq (.block (.seq (.seq (.sr (.kn 2 402653208 r (.condP r hd (λa4 hd=>?_) λa4 hd=>?_)))))))
 . refine .en 24 r (.region (.lw HY EB .p1 r ?_));refine .call call63 r (qD R6 hd:) r r λf0 f1 g a6=>?_;obtain⟨f2,f3,f4,rfl,h,hd⟩:=a6;have R6:=g.u1 R6;refine .sa EB .p1 r (.no 24 r (.region (.lw HY EB .p1 r ?_)));refine .call call64 r (iH h hd:) r r λf5 f6 a8 a9=>?_;obtain⟨f7,f8,f9,rfl,i,hd⟩:=a9;obtain⟨x,h⟩:=a8.u2 g h;refine .sa EB .p1 r (.ns 24 r (.lw HY EB .p1 r ?_));refine .call call65 r (V6 i hd:) r r λg0 g1 C J=>?_;obtain⟨g2,g3,g4,rfl,j,hd⟩:=J;obtain⟨L,i⟩:=C.u2 x i;refine .sa EB .p1 r (.no 24 r (.en 24 r (.sr (.lw HY EB .p1 r ?_))));refine .call call66 r (UN j hd:) r r λg5 g6 T X=>?_;obtain⟨W,b7,rfl,b8,hd⟩:=X;obtain⟨p,j⟩:=T.u2 L j;exact .ks 2 r (.sa CH .z r (.kn 1 48 r (.drop .p1 (.ret (B0 r (.w FA CH r .z r (.t r .n)) p ⟨(W.1,W.2),b7,r,b8,hd⟩)))))
 refine .sn 134217752 r (.seq (.sr (.kn 2 1207959576 r (.condP r hd (λq hd=>?_) λq hd=>?_))))
 . refine .en 24 r (.region (.lw HY EB .p1 r ?_));refine .call call64 r (iH R6 hd:) r r λc6 c7 d u=>?_;obtain⟨c8,c9,d0,rfl,a,hd⟩:=u;have R6:=d.u1 R6;refine .sa EB .p1 r (.ns 24 r (.lw HY EB .p1 r ?_));refine .call call65 r (V6 a hd:) r r λd1 d2 y A=>?_;obtain⟨d3,d4,d5,rfl,b,hd⟩:=A;obtain⟨B,a⟩:=y.u2 d a;refine .sa EB .p1 r (.no 24 r (.en 24 r (.sr (.lw HY EB .p1 r ?_))));refine .call call66 r (UN b hd:) r r λd6 d7 D E=>?_;obtain⟨k,F,rfl,b9,hd⟩:=E;obtain⟨G,b⟩:=D.u2 B b;exact .ks 2 r (.sa CH .z r (.kn 1 48 r (.drop .p1 (.ret (B0 r (.w FA CH r .z r (.t r .n)) G ⟨(k.1,k.2),F,r,b9,hd⟩)))))
 refine .sn 134217752 r (.sr (.kn 2 4294967320 r (.condP r hd (λH hd=>?_) λH hd=>?_)))
 . refine .en 24 r (.sr (.lw HY EB .p1 r ?_));refine .call call65 r (V6 R6 hd:) r r λd8 d9 e K=>?_;obtain⟨e0,e1,e2,rfl,c,hd⟩:=K;have R6:=e.u1 R6;refine .sa EB .p1 r (.no 24 r (.en 24 r (.sr (.lw HY EB .p1 r ?_))));refine .call call66 r (UN c hd:) r r λe3 e4 O P=>?_;obtain⟨l,R,rfl,c0,hd⟩:=P;obtain⟨S,c⟩:=O.u2 e c;exact .ks 2 r (.sa CH .z r (.kn 1 48 r (.drop .p1 (.ret (B0 r (.w FA CH r .z r (.t r .n)) S ⟨(l.1,l.2),R,r,c0,hd⟩)))))
 refine .sn 24 r (.en 24 r (.sr (.lw HY EB .p1 r ?_)));refine .call call66 r (UN R6 hd:) r r λe5 e6 f U=>?_;obtain⟨m,V,rfl,c1,hd⟩:=U;have R6:=f.u1 R6;exact .ks 2 r (.sa CH .z r (.kn 1 48 r (.drop .p1 (.ret (B0 r (.w FA CH r .z r (.t r .n)) f ⟨(m.1,m.2),V,r,c1,hd⟩)))))
theorem rR {a0:Plan} {a1:Graph} {a2:Int} {Q:Int->Prop} (R3:RepSl AR I p1 c2 a0.Draws) (R6:RepSl CW I p4 c5 a1.Edges) (hd:U5 a0 a1 a2 Q) :
  AY prog 20 [.agg (IW a0 p1 c2),.agg #[.int .i64 a1.N,.slice p4 a1.Edges.length c5],.int .i64 a2] I (λ_=>Y9 Q):=by
 refine Fun.en func20 ntmps20 r λw0 M=>?_;refine .sr (.bx r λi=>.bx r λj=>?_);refine .kn 1 28 r (.seq (.sr (.lw JV HT .p1 r (.lw HY EB .z r (.call call35 r (cO R3 R6 hd:) r r λk l a c=>?_)))));obtain⟨g,h,rfl,m,hd⟩:=c;obtain⟨R3,R6⟩:=a.u2 R3 R6;refine .ks 3 r (.al XE r λn=>.sa CH .z r (.kn 1 260 r (.drop .z (.drop .z (.drop .z (.sr (.kn 2 65796 r (.condP r hd (λd hd=>?_) λd hd=>?_))))))))
 . exact .sr (.kn 2 64 r (.r1 results20 r a ⟨g.2,r,hd⟩))
 refine .sn 4 r (.seq (.sk 3 r (.spl hd [19,20] r (λe hd=>?_) λe hd=>?_)))
 . exact .kn 3 8388608 r (.condKT r r (.sr (.kn 1 64 r (.r1 results20 r a ⟨3,r,hd⟩))))
 refine .kn 3 8388608 r (.condP r hd (λf hd=>?_) λf hd=>?_)
 . exact .sr (.kn 1 64 r (.r1 results20 r a ⟨3,r,hd⟩))
 exact .sn 0 r (.sr (.kn 1 64 r (.r1 results20 r a ⟨0,r,hd⟩)))
theorem T8 {a0:JO} {Q:Int->Prop} (R2:lTc I gc1 a0) (hd:IG a0 Q) :
  AY prog 6 [.agg (uN a0 gc1)] I (λ_=>Y9 Q):=by
 refine Fun.en func6 ntmps6 r λw0 M=>.sr (.bx r λC=>.ks 1 r (.nk 2 1 r (.no 10 r (.seq (.sk 1 r (.loadA JV HT r .z (.o 5 r) r r r (.ks 1 r (.loadA HY EB r .z (.o 2 r) r r r (.ks 1 r (.lo AE .z r (.cq call20 (rR R2.1 R2.2.1 hd:) r λs hd=>?_)))))))))));refine .ks 1 r (.nk 26 2 r (.no 8218 r (.condP r hd (λd hd=>?_) λd hd=>?_)))
 . exact .sr (.kn 2 4 r (.drop .z (.r0 results6 r ⟨s,r,hd⟩)))
 refine .sn 10 r (.seq (.block (.seq (.jn hd [1] [0] r (λj E l b=>j ((15,.bool b) :: E) l) (λw hd=>?_) ?_))))
 . refine .sk 2 r (.lo AE .z r ?_);refine .callPc call19 r r (PD (I:=I) hd:) r r λx f=>?_;obtain⟨t,rfl,hd⟩:=f;refine .kn 2 32778 r (.condP r hd (λg hd=>?_) λg hd=>?_)
   . exact .skip' (je (!t) hd rf [0] r)
   refine .sk 2 r (.lo AE .z r ?_);refine .callPc call19 r r (PD (I:=I) hd:) r r λy i=>?_;obtain⟨u,rfl,hd⟩:=i;refine .kn 2 32778 r (.condP r hd (λk hd=>?_) λk hd=>?_)
   . exact .skip' (je (!u) hd rf [0] r)
   refine .region (.ks 2 r (.lo AE .z r ?_));refine .callPc call19 r r (PD (I:=I) hd:) r r λA n=>?_;obtain⟨v,rfl,hd⟩:=n;exact .ks 2 r (.nil' (je (!v) hd rf [0] r))
 refine λb hd=>jq r λB a=>?_;have R2:=a.u1 R2;refine .condP r hd (λp hd=>?_) λp hd=>?_
 . exact .sr (.kn 1 4 r (.drop .z (.r1 results6 r a ⟨3,r,hd⟩)))
 refine .sk 1 r (.lo isAgg31 .z r (.ln rJ r (.kn 2 2147483648 r (.drop .z (.condP r hd (λq hd=>?_) λq hd=>?_)))))
 . exact .sr (.kn 1 4 r (.r1 results6 r a ⟨5,r,hd⟩))
 exact .sn 0 r (.sr (.kn 1 4 r (.r1 results6 r a ⟨0,r,hd⟩)))
theorem BW {a0:List Int} {Q:(List Int)->Prop} (R3:RepSl AR I p1 c2 a0) (hd:AX a0 Q) :
  AY prog 29 [.slice p1 a0.length c2] I (o7_ Q):=by
 refine Fun.en func29 ntmps29 r λw0 M=>.sr (.kn 1 1 r (.seq (.sk 1 r (.eqNilS D7 r r r r (.no 17 r ?_)))));refine split p1.isNone (λa=>?_) (λa=>?_)
 . have hd:=hd.1 (RepSl.ofNone R3 a);exact .condKT r a (.sr (.kn 1 4 r (.r0 results29 r ⟨([]:List Int),_,_,r,(.nil _ _ _),hd⟩)))
 have hd:=hd.2;refine .condKF r a (.sn 1 r (.sr (.bs 0 D7 bK zv2 r λh=>.ks 1 r (.ownB (El:=AR) (ys:=([]:List Int)) .z .nil r ?_))));obtain⟨b,hd⟩:=hd;exact .append (ys:=a0) 8 .z D7 D7 IN2 r r r r r r r r r (.imm R3 r) b r r λe f=>.kn 1 4 r (.pub .z λg c d=>.r1 results29 r c ⟨(([]:List Int)++a0),_,_,r,d,hd⟩)
theorem LD {a0:List ED} {Q:(List ED)->Prop} (R3:RepSl PI I p1 c2 a0) (hd:CK a0 Q) :
  AY prog 36 [.slice p1 a0.length c2] I (λI_ v=>∃ r p4 c5,v=.slice p4 r.length c5∧RepSl PI I_ p4 c5 r∧Q r):=by
 refine Fun.en func36 ntmps36 r λw0 M=>.sr (.kn 1 1 r (.seq (.sk 1 r (.eqNilS rJ r r r r (.no 17 r ?_)))));refine split p1.isNone (λa=>?_) (λa=>?_)
 . have hd:=hd.1 (RepSl.ofNone R3 a);exact .condKT r a (.sr (.kn 1 4 r (.r0 results36 r ⟨([]:List ED),_,_,r,(.nil _ _ _),hd⟩)))
 have hd:=hd.2;refine .condKF r a (.sn 1 r (.sr (.bs 0 rJ sizeOf99 zeroValue99 r λh=>.ks 1 r (.ownB (El:=PI) (ys:=([]:List ED)) .z .nil r ?_))));obtain⟨b,hd⟩:=hd;exact .append (ys:=a0) 16 .z rJ rJ AoB r r r r r r r r r (.imm R3 r) b r r λe f=>.kn 1 4 r (.pub .z λg c d=>.r1 results36 r c ⟨(([]:List ED)++a0),_,_,r,d,hd⟩)
theorem RO {a0 a1:Int} {Q:Bool->Prop} (hd:M6 a0 a1 Q) :
  AY prog 114 [.int .i64 a0,.int .i64 a1] I (λ_=>cI Q):=by
 refine Fun.en func114 ntmps114 r λw0 M=>.sk 1 r (.nk 3 3 r (.spl hd [6,7] r (λa hd=>?_) λa hd=>?_))
 . exact .kn 5 16 r (.r0 results114 r ⟨(decide (a0<=a1)),r,hd⟩)
 exact .kn 5 16 r (.r0 results114 r ⟨false,r,hd⟩)
theorem qE {a0 a1:Int} {Q:Bool->Prop} (hd:RF a0 a1 Q) :
  AY prog 164 [.int .i64 a0,.int .i64 a1] I (λ_=>cI Q):=by
 refine Fun.en func164 ntmps164 r λw0 M=>.sk 1 r (.nk 3 1 r (.cq call91 (M0 (I:=I) hd:) r λf hd=>.ks 1 r (.spl hd [6,7] r (λc hd=>?_) λc hd=>?_)))
 . refine .ks 1 r ?_;refine .yes r (.callP call91 r (M0 (I:=I) hd:) r r λg e=>?_);obtain⟨h,rfl,hd⟩:=e;refine .ks 3 r (.spl hd [10,11,12] r (λa hd=>?_) λa hd=>?_)
   . exact .kn 5 16 r (.r0 results164 r ⟨true,r,hd⟩)
   exact .kn 5 16 r (.r0 results164 r ⟨(decide (a0<a1)),r,hd⟩)
 exact .kn 10 16 r (.r0 results164 r ⟨(decide (a0<a1)),r,hd⟩)
theorem TN {a0:List Int} {Q:Bool->Prop} (R3:RepSl AR I p1 c2 a0) (hd:FI a0 Q) :
  AY prog 115 [.slice p1 a0.length c2] I (λ_=>cI Q):=by
 refine Fun.en func115 ntmps115 r λw0 M=>.sr (.kn 1 1 r (.seq (.sk 1 r (.ln BB r (.kn 2 9 r (.block (.lp hd [0] [] r (λj E l b=>j ((3,.int .i64 b) :: E) l) (ji rf [] r) ?_)))))));refine λb m hd=>jq r λn a=>?_;have R3:=a.u1 R3;refine .seq (.sr (.kn 2 265 r (.condP r hd (λc hd=>?_) λc hd=>?_)))
 . refine .sn 9 r (.seq (.block (.seq (.dr [0,1,2,3,4,5,6,7,8,9] 10 (.fk 2 r ?_)))));obtain⟨o,t,d,u,o67,p,e,hd⟩:=R3.ix hd;refine .h r (.ixb BB D5 p o d r .mk) (.h r (.ldb 0 AE e r .mk) (.fk 3 r ?_));obtain⟨q,v,f,w,o76,s,g,hd⟩:=R3.ix hd;refine .h r (.ixb BB D5 s q f r .mk) (.h r (.ldb 0 AE g r .mk) (.ww r (.cq call164 (qE (I:=n) hd:) r λx hd=>.so 0 r r r tv (.e2 10 (.no 1048585 r (.condP r hd (λk hd=>?_) λk hd=>?_))))))
   . exact .sr (.kn 1 4 r (.r1 results115 r a ⟨false,r,hd⟩))
   exact .sn 9 r (.region (.ks 3 r (.nil' (je (A6 (b - 1)) hd a [] r))))
 exact .en 0 r (.sr (.kn 1 4 r (.r1 results115 r a ⟨true,r,hd⟩)))
theorem Ag8 {a0:List Int} {a1:Int} {Q:Bool->Prop} (R3:RepSl AR I p1 c2 a0) (hd:mN a0 a1 Q) :
  AY prog 116 [.slice p1 a0.length c2,.int .i64 a1] I (λ_=>cI Q):=by
 refine Fun.en func116 ntmps116 r λw0 M=>.sr (.kn 1 3 r (.seq (.sk 1 r (.ln BB r (.kn 1 899 r (.block (.lp hd [8,7,1,0] [] r (λj E l b=>j ((9,.int .i64 b) :: E) l) (ji rf [] r) ?_)))))));refine λb o hd=>jq r λp a=>?_;have R3:=a.u1 R3;refine .sr (.kn 1 1923 r (.seq (.condP r hd (λf hd=>?_) λf hd=>?_)))
 . refine .sn 899 r (.seq (.block (.sk 1 r ?_)));obtain⟨q,v,g,w,o87,s,h,hd⟩:=R3.ix hd;refine .ixb BB D5 s q g r (.ldb 0 AE h r (.ks 2 r (.nk 995 3 r (.cq call114 (RO (I:=p) hd:) r λx hd=>.ks 2 r (.spl hd [18,19] r (λk hd=>?_) λk hd=>?_)))))
   . exact .kn 12 2147484547 r (.condKT r r (.sr (.kn 1 16 r (.r1 results116 r a ⟨false,r,hd⟩))))
   refine .ks 3 r (.spl hd [21,22] r (λm hd=>?_) λm hd=>?_)
   . refine .ks 3 r ?_;obtain⟨t,y,c,u,o102,n,d,hd⟩:=R3.ix hd;refine .yes r (.ixb BB D5 n t c r (.yes r (.ldb 0 AE d r (.kn 4 2147484547 r (.condP r hd (λe hd=>?_) λe hd=>?_)))))
     . exact .sr (.kn 1 16 r (.r1 results116 r a ⟨false,r,hd⟩))
     exact .sn 899 r (.region (.ks 2 r (.nil' (je (A6 (b+1)) hd a [] r))))
   exact .kn 9 2147484547 r (.condKF r r (.sn 899 r (.region (.ks 2 r (.nil' (je (A6 (b+1)) hd a [] r))))))
 exact .en 0 r (.sr (.kn 1 16 r (.r1 results116 r a ⟨true,r,hd⟩)))
theorem UO {a0:Rows} {Q:Bool->Prop} (R2:iV I gd1 a0) (hd:OE a0 Q) :
  AY prog 67 [.agg (K7 a0 gd1)] I (λ_=>cI Q):=by
 refine Fun.en func67 ntmps67 r λw0 M=>.sr (.bx r λo=>.ks 1 r (.nk 2 1 r (.lo EM .z r (.ln BB r (.kn 1 10 r (.seq (.sk 1 r (.lo AE .z r (.cq call114 (RO (I:=I) hd:) r λq hd=>.ks 2 r (.spl hd [11,12] r (λs hd=>?_) λs hd=>?_))))))))))
 . exact .kn 25 137438953482 r (.condKT r r (.sr (.kn 1 4 r (.drop .z (.r0 results67 r ⟨false,r,hd⟩)))))
 refine .ks 1 r (.yes r (.lo AE .z r ?_));refine .yes r (.callP call114 r (RO (I:=I) hd:) r r λt u=>?_);obtain⟨J,rfl,hd⟩:=u;refine .ks 3 r (.spl hd [16,17,18] r (λv hd=>?_) λv hd=>?_)
 . exact .kn 19 137438953482 r (.condKT r r (.sr (.kn 1 4 r (.drop .z (.r0 results67 r ⟨false,r,hd⟩)))))
 refine .ks 1 r (.yes r (.lo EM .z r (.yes r (.ln BB r (.ks 1 r (.yes r (.lo AE .z r (.ks 4 r (.spl hd [25,26,27] r (λw hd=>?_) λw hd=>?_)))))))))
 . exact .kn 10 137438953482 r (.condKT r r (.sr (.kn 1 4 r (.drop .z (.r0 results67 r ⟨false,r,hd⟩)))))
 refine .ks 1 r (.yes r (.lo DY .z r (.yes r (.ln D7 r (.ks 4 r (.spl hd [32,33,34] r (λx hd=>?_) λx hd=>?_))))))
 . exact .kn 3 137438953482 r (.condKT r r (.sr (.kn 1 4 r (.drop .z (.r0 results67 r ⟨false,r,hd⟩)))))
 refine .kn 3 137438953482 r (.condP r hd (λy hd=>?_) λy hd=>?_)
 . exact .sr (.kn 1 4 r (.drop .z (.r0 results67 r ⟨false,r,hd⟩)))
 refine .sn 10 r (.seq (.sk 1 r (.lo EM .z r ?_)));obtain⟨Y,b4,A,b6,o62,Z,B,hd⟩:=R2.1.ix hd;refine .ixb BB D5 Z Y A r (.ldb 0 AE B r (.ks 2 r (.spl hd [42,43] r (λC hd=>?_) λC hd=>?_)))
 . exact .kn 15 288230376151711746 r (.condKT r r (.sr (.kn 1 4 r (.drop .z (.r0 results67 r ⟨false,r,hd⟩)))))
 refine .ks 1 r (.yes r (.lo EM .z r (.ks 1 r (.yes r (.lo AE .z r ?_)))));obtain⟨a1,b7,D,b8,o72,a2,F,hd⟩:=R2.1.ix hd;refine .yes r (.ixb BB D5 a2 a1 D r (.yes r (.ldb 0 AE F r (.ks 4 r (.spl hd [51,52,53] r (λG hd=>?_) λG hd=>?_)))))
 . exact .kn 5 288230376151711746 r (.condKT r r (.sr (.kn 1 4 r (.drop .z (.r0 results67 r ⟨false,r,hd⟩)))))
 refine .ks 1 r (.yes r (.lo EM .z r ?_));refine .yes r (.callP call115 r (TN R2.1 hd:) r r λb9 K=>?_);obtain⟨c0,rfl,hd⟩:=K;refine .kn 2 288230376151711746 r (.condP r hd (λN hd=>?_) λN hd=>?_)
 . exact .sr (.kn 1 4 r (.drop .z (.r0 results67 r ⟨false,r,hd⟩)))
 refine .sn 2 r (.seq (.sk 1 r (.lo AE .z r (.kn 1 3458764513820540930 r (.block (.lp hd [60,1] [0] r (λj E l c=>j ((61,.int .i64 c) :: E) l) (ji rf [0] r) ?_))))));refine λc X hd=>jq r λa3 a=>?_;have R2:=a.u1 R2;refine .sr (.kn 1 8070450532247928834 r (.seq (.condP r hd (λg hd=>?_) λg hd=>?_)))
 . refine .sn 3458764513820540930 r (.seq (.block (.sr (.kn 2 3458764513820540946 r (.seq (.dr [0,1,2,3,4,5,6,7,8,9,10,11,12,13,14,15,16,17] 18 (.fk 1 r (.hl EM 0 r (.fk 1 r (.hl EM 0 r (.fk 1 r ?_)))))))))));obtain⟨O,d,i,a4,o166,P,k,hd⟩:=R2.1.ix hd;refine .h r (.ixb BB D5 P O i r .mk) (.h r (.ldb 0 AE k r .mk) (.fk 1 r (.hl EM 0 r (.fk 2 r ?_))));obtain⟨R,b,m,a5,o175,S,n,hd⟩:=R2.1.ix hd;refine .h r (.ixb BB D5 S R m r .mk) (.h r (.ldb 0 AE n r .mk) ?_);obtain⟨T,a6,a7,hd⟩:=hd;have e:Int.toNat d<=Int.toNat b:=by omega
   have f:Int.toNat b<=a0.Col.length:=by omega
   obtain⟨a8,a9,U,V,W⟩:=RepSl.sliceW R2.2.1 (Int.toNat d) (Int.toNat b) gd1.2.1.2 e f (.inl rfl);refine .h r (.sliceW (L:=Int.toNat d) (H:=Int.toNat b) (cm:=gd1.2.1.2) BB D5 r r R2.2.1.1 r r r (.inr ⟨_,_,r,T,r⟩) (.inr ⟨_,_,r,(by omega),r⟩) (.inl r) e f r U V r r .mk) (.fk 1 r (.hl AE 0 r (.ww r (.cq call116 (Ag8 W hd:) r λb0 hd=>.so 1 r r r tv (.fk 1 r (.e2 18 (.no 2417855097993772169953282 r (.condP r hd (λp hd=>?_) λp hd=>?_))))))))
   . exact .sr (.kn 1 4 r (.drop .z (.r1 results67 r a ⟨false,r,hd⟩)))
   exact .sn 3458764513820540930 r (.region (.ks 2 r (.nil' (je (A6 (c+1)) hd a [0] r))))
 exact .en 0 r (.drop .z (.sr (.kn 1 4 r (.r1 results67 r a ⟨true,r,hd⟩))))
theorem iI {a0:Int} {Q:Bool->Prop} (hd:SE a0 Q) :
  AY prog 117 [.int .i64 a0] I (λ_=>cI Q):=by
 refine Fun.en func117 ntmps117 r λw0 M=>.sk 1 r (.nk 1 3 r (.spl hd [4,5] r (λa hd=>?_) λa hd=>?_))
 . exact .kn 4 4 r (.r0 results117 r ⟨(decide (a0<=8)),r,hd⟩)
 exact .kn 4 4 r (.r0 results117 r ⟨false,r,hd⟩)
theorem XJ {a0 a1 a2 a3:Int} {Q:Bool->Prop} (hd:OG a0 a1 a2 a3 Q) :
  AY prog 68 [.int .i64 a0,.int .i64 a1,.int .i64 a2,.int .i64 a3] I (λ_=>cI Q):=by
 refine Fun.en func68 ntmps68 r λw0 M=>.sk 1 r (.nk 15 1 r (.cq call117 (iI (I:=I) hd:) r λi hd=>.ks 1 r (.spl hd [10,11] r (λf hd=>?_) λf hd=>?_)))
 . refine .ks 1 r ?_;refine .yes r (.callP call117 r (iI (I:=I) hd:) r r λj h=>?_);obtain⟨k,rfl,hd⟩:=h;refine .ks 2 r (.spl hd [13,14,15] r (λa hd=>?_) λa hd=>?_)
   . refine .ks 4 r (.spl hd [17,18,19] r (λb hd=>?_) λb hd=>?_)
     . refine .ks 5 r (.spl hd [22,23,24] r (λc hd=>?_) λc hd=>?_)
       . refine .ks 4 r (.spl hd [26,27,28] r (λd hd=>?_) λd hd=>?_)
         . exact .kn 5 256 r (.r0 results68 r ⟨(decide (a3<a1)),r,hd⟩)
         exact .kn 5 256 r (.r0 results68 r ⟨false,r,hd⟩)
       exact .kn 9 256 r (.r0 results68 r ⟨false,r,hd⟩)
     exact .kn 14 256 r (.r0 results68 r ⟨false,r,hd⟩)
   exact .kn 18 256 r (.r0 results68 r ⟨false,r,hd⟩)
 exact .kn 22 256 r (.r0 results68 r ⟨false,r,hd⟩)
theorem T9 {a0:Rows} {Q:Rows->Prop} (R2:iV I gd1 a0) (hd:PV a0 Q) :
  AY prog 118 [.agg (K7 a0 gd1)] I (o8_ Q):=by
 refine Fun.en func118 ntmps118 r λw0 M=>.sr (.bx r λH=>.al XE r λq=>.no 6 r (.seq (.sr (.lw FA CH .p1 r (.cq call67 (UO R2 hd:) r λs hd=>.no 22 r (.condP r hd (λd hd=>?_) λd hd=>?_))))))
 . exact .sr (.lw FA CH .p1 r (.sa CH .z r (.no 4 r (.drop .p1 (.ret (B0 r (.w FA CH r .z r .n) rf ⟨a0,gd1,r,R2,hd⟩))))))
 refine .sn 4 r (.drop .p1 (.sr ?_));refine .callO call163 r (lX (I:=I) hd:) r r λt u v f g=>?_;obtain⟨o,x,y,A,B,C,D,rfl,rfl,hd⟩:=g;refine .sa CH .p3 r (.no 4 r (.pub .z λE h a=>?_));have i:=h.u1 f;refine .pub .z λF j b=>?_;obtain⟨k,a⟩:=j.u2 i a;refine .pub .z λG l p=>?_;obtain⟨m,a,b⟩:=l.u3 k a b;exact .ret (B0 r (.w FA CH r .z r .n) m ⟨o,((_,_),(_,_),(_,_)),r,⟨a,b,p⟩,hd⟩)
theorem iJ {a0:Int×Int} {a1:Int} {Q:(Int×Int)->Prop} (hd:SF a0 a1 Q) :
  AY prog 119 [.agg #[.int .i64 a0.1,.int .i64 a0.2],.int .i64 a1] I (λI_ v=>∃ r,v=.tuple #[.int .i64 r.1,.int .i64 r.2]∧Q r):=by
 refine Fun.en func119 ntmps119 r λw0 M=>.sr (.bx r λb=>.ks 2 r (.ns 6 r (.ixArr (i:=0) T4 D5 r r (by decide) (o:=0) r r r (.lo AE .z r (.maxI r r r r (.ks 1 r (.ns 70 r (.ixArr (i:=1) T4 D5 r r (by decide) (o:=1) r r r (.lo AE .z r (.ks 1 r ?_))))))))));refine .minI r r r r (.kn 1 192 r (.drop .z (.seq (.sr (.kn 3 131264 r (.condP r hd (λa hd=>?_) λa hd=>?_))))))
 . exact .sr (.kn 3 48 r (.ret (B0 r (.t r (.t r .n)) rf ⟨((if 0 > a0.1 then 0 else a0.1),0),r,hd⟩)))
 exact .sn 192 r (.sr (.kn 6 48 r (.ret (B0 r (.t r (.t r .n)) rf ⟨((if 0 > a0.1 then 0 else a0.1),A6 ((if a1<a0.2 then a1 else a0.2) - (if 0 > a0.1 then 0 else a0.1))),r,hd⟩))))
theorem qF {a0:Rows} {a1:Int} {Q:((List Int)×(List Int))->Prop} (R2:iV I gd1 a0) (hd:YI a0 a1 Q) :
  AY prog 121 [.agg (K7 a0 gd1),.int .i64 a1] I (λI_ v=>∃ r p3 c4 p6 c7,v=.tuple #[.slice p3 r.1.length c4,.slice p6 r.2.length c7]∧RepSl AR I_ p3 c4 r.1∧RepSl AR I_ p6 c7 r.2∧Q r):=by
 refine Fun.en func121 ntmps121 r λw0 M=>.sr (.bx r λC=>.kn 2 6 r (.seq (.dr [0,1,2,3,4,5,6,7,8,9,10,11] 12 (.fk 1 r (.hl EM 0 r (.fk 1 r ?_))))));obtain⟨l,b,g,D,o35,m,i,hd⟩:=R2.1.ix hd;refine .h r (.ixb BB D5 m l g r .mk) (.h r (.ldb 0 AE i r .mk) (.fk 1 r (.hl EM 0 r (.fk 2 r ?_))));obtain⟨o,a,j,E,o44,p,k,hd⟩:=R2.1.ix hd;refine .h r (.ixb BB D5 p o j r .mk) (.h r (.ldb 0 AE k r .mk) (.fk 1 r (.e2 12 (.kn 1 196 r (.seq (.dr [0,1,2,3,4,5,6,7,8,9,10,11,12] 13 (.fk 1 r (.hl EM 0 r (.fk 3 r ?_)))))))));obtain⟨q,F,G,hd⟩:=hd;have c:Int.toNat b<=Int.toNat a:=by omega
 have d:Int.toNat a<=a0.Col.length:=by omega
 obtain⟨J,K,s,u,w⟩:=RepSl.sliceW R2.2.1 (Int.toNat b) (Int.toNat a) (Int.toNat a) c d (.inr rfl);refine .h r (.sliceW (L:=Int.toNat b) (H:=Int.toNat a) (cm:=Int.toNat a) BB D5 r r R2.2.1.1 r r r (.inr ⟨_,_,r,q,r⟩) (.inr ⟨_,_,r,(by omega),r⟩) (.inr r) c d r s u r r .mk) (.fk 1 r (.hl DY 0 r (.fk 3 r ?_)));obtain⟨x,N,O,hd⟩:=hd;have e:Int.toNat b<=Int.toNat a:=by omega
 have f:Int.toNat a<=a0.Val.length:=by omega
 obtain⟨P,R,y,A,B⟩:=RepSl.sliceW R2.2.2 (Int.toNat b) (Int.toNat a) (Int.toNat a) e f (.inr rfl);exact .h r (.sliceW (L:=Int.toNat b) (H:=Int.toNat a) (cm:=Int.toNat a) D7 bK r r R2.2.2.1 r r r (.inr ⟨_,_,r,x,r⟩) (.inr ⟨_,_,r,(by omega),r⟩) (.inr r) e f r y A r r .mk) (.fk 1 r (.e2 13 (.kn 1 48 r (.drop .z (.ret (B0 r (.t r (.t r .n)) rf ⟨(((a0.Col.take a.toNat).drop b.toNat),((a0.Val.take a.toNat).drop b.toNat)),_,_,_,_,r,w,B,hd⟩))))))
theorem Ag9 {a0:Rows} {a1:Int} {Q:(List AM)->Prop} (R2:iV I gd1 a0) (hd:mO a0 a1 Q) :
  AY prog 120 [.agg (K7 a0 gd1),.int .i64 a1] I (o9_ Q):=by
 refine Fun.en func120 ntmps120 r λw0 M=>?_;refine .sr (.bx r λA=>?_);refine .ks 1 r (.ns 6 r (.lw FA CH .z r (.call call118 r (T9 R2 hd:) r r λa4 S d B=>?_)));obtain⟨a5,U,rfl,h,hd⟩:=B;have R2:=d.u1 R2;refine .sa CH .z r (.no 6 r (.seq (.sk 2 r (.lo AE .z r (.ks 1 r (.cq call114 (RO (I:=S) hd:) r λa6 hd=>.kn 1 131078 r (.condP r hd (λD hd=>?_) λD hd=>?_)))))))
 . exact .sr (.kn 1 16 r (.drop .z (.r1 results120 r d ⟨([]:List AM),_,_,r,(.nil _ _ _),hd⟩)))
 refine .sn 6 r (.sk 1 r (.ns 38 r (.lw FA CH .z r (.ks 1 r ?_))));refine .call call121 r (qF h hd:) r r λa7 a8 G H=>?_;obtain⟨a9,C,F,b2,b3,rfl,i,k,hd⟩:=H;obtain⟨J,h⟩:=G.u2 d h;refine .kn 5 224 r (.drop .z (.seq (.sk 1 r (.ln BB r (.kn 1 117440672 r (.block (.own0 BM 184 (.lx hd [25,24,7] [] r (λj E l (a,e)=>λc w=>∃ f g,j ⟨42,[],none⟩ (λI_=>True) ((5,.slice f a.length g) :: (26,.int .i64 e) :: E) (OwnSl BM 184 f g a :: l) c w) (λc w ho hs=>⟨_,_,jf rf tv [0] r ho hs⟩) ?_))))))));rintro⟨a,e⟩ R hd c w ⟨f,g,V,b,_,hok,hsym⟩;obtain⟨o,i,k⟩:=b.u3 J i k;refine Cod.at hok hsym (.sr (.kn 1 251658400 r (.seq (.condP r hd (λp hd=>?_) λp hd=>?_))))
 . refine .sn 117440672 r (.seq (.block (.sk 1 r ?_)));obtain⟨K,m,q,W,o150,L,s,hd⟩:=i.ix hd;refine .ixb BB D5 L K q r (.ldb 0 AE s r (.kn 2 117441440 r (.region (.ks 4 r ?_))));obtain⟨N,n,t,X,o159,O,u,hd⟩:=k.ix hd;refine .ixb D7 bK O N t r (.ldb 0 O7 u r (.bd KF pU pQ r (.bs 1 DM D8 KF r λY=>?_)));obtain⟨v,hd⟩:=hd;exact .append (ys:=[({ At:=m,Val:=n }:AM)]) 16 .p1 DM DM pP r r r r r r r r r (.box .z (.one r) r) v r r λZ a2=>.kn 1 117440672 r (.drop .p1 (.region (.ks 2 r (.nil' λc w ho hs=>⟨((a++([({ At:=m,Val:=n }:AM)])),A6 (e+1)),hd,_,_,jf b tv [0] r ho hs⟩))))
 refine .en 32 r (.sr (.kn 2 16 r (.pub .z λa3 x P=>?_)));obtain⟨y,T⟩:=x.u2 o b;exact .r1 results120 r y ⟨a,_,_,r,P,hd⟩
theorem bB {a0:Rows} {a1 a2:Int×Int} {Q:Rows->Prop} (R2:iV I gd1 a0) (hd:U6 a0 a1 a2 Q) :
  AY prog 69 [.agg (K7 a0 gd1),.agg #[.int .i64 a1.1,.int .i64 a1.2],.agg #[.int .i64 a2.1,.int .i64 a2.2]] I (o8_ Q):=by
 refine Fun.en func69 ntmps69 r λw0 M=>?_;refine .sr (.bx r λd6=>.bx r λd7=>.bx r λd8=>?_);refine .al XE r λd9=>.ns 120 r (.lw FA CH .p3 r (.call call118 r (T9 R2 hd:) r r λe0 a4 y a6=>?_));obtain⟨e1,b8,rfl,a,hd⟩:=a6;have R2:=y.u1 R2;refine .sa CH .p3 r (.ns 120 r (.lw isAgg73 bL .p2 r (.ks 1 r (.lo AE .p3 r (.cq call119 (iJ (I:=a4) hd:) r λe2 hd=>.kn 5 488 r (.drop .p2 (.sr (.lw isAgg73 bL .p1 r (.ks 1 r (.lo AE .p2 r (.cq call119 (iJ (I:=a4) hd:) r λs hd=>?_)))))))))));refine .kn 5 1992 r (.drop .p1 (.sr (.kn 1 4040 r (.seq (.sr (.kn 2 6442454984 r (.block (.own0 ID 151 (.lx hd [31,10,9,8,7,6,3] [2,1] r (λj E l (i,d)=>λc w=>∃ k m,j ⟨74,[],none⟩ (λI_=>True) ((11,.slice k i.length m) :: (32,.int .i64 d) :: E) (OwnSl ID 151 k m i :: l) c w) (λc w ho hs=>⟨_,_,jf rf tv [0,1,0] r ho hs⟩) ?_)))))))));rintro⟨i,d⟩ b3 hd c w ⟨k,m,b9,g,_,hok,hsym⟩;obtain⟨t,a⟩:=g.u2 y a;refine Cod.at hok hsym (.sr (.kn 1 15032389576 r (.seq (.condP r hd (λB hd=>?_) λB hd=>?_))))
 . refine .sn 6442454984 r (.seq (.block (.sk 2 r (.ns 6442459080 r (.lw FA CH .p1 r (.ks 3 r ?_))))));refine .call call120 r (Ag9 a hd:) r r λc0 c1 D F=>?_;obtain⟨c2,c3,c4,rfl,e,hd⟩:=F;obtain⟨G,H,a⟩:=D.u3 t g a;refine .ln DM r (.kn 1 3854733156296 r (.block (.lx hd [40,39,32,31,12,10,9,8,7,6,3] [1,1] r (λj E l (b,h)=>λc w=>∃ o p,j ⟨74,[],none⟩ (λI_=>True) ((11,.slice o b.length p) :: (41,.int .i64 h) :: E) (OwnSl ID 151 o p b :: l) c w) (λc w ho hs=>⟨_,_,jf rf tv [0,0,0] r ho hs⟩) ?_)));rintro⟨b,h⟩ b4 hd c w ⟨o,p,c5,u,_,hok,hsym⟩;obtain⟨J,v,a,e⟩:=u.u4 G H a e;refine Cod.at hok hsym (.sr (.kn 1 8252779667400 r (.seq (.condP r hd (λK hd=>?_) λK hd=>?_))))
   . refine .sn 3854733156296 r (.seq (.block (.sr ?_)));obtain⟨a9,f,L,c6,o570,C,N,hd⟩:=e.ix hd;refine .ixb DM D8 C a9 L r (.ldW T5 D8 N r r r r (.al KF r λc7=>.sa D8 .z r (.no 3854733172680 r (.seq (.jn hd [41,40,39,32,31,14,12,11,10,9,8,7,6,3] [2,2,1,0] r (λj E l A=>j ((56,.bool A) :: E) l) (λc8 hd=>?_) ?_)))))
     . refine .region (.ks 1 r (.lo AE .z r (.ks 3 r (.spl hd [48,49] r (λO hd=>?_) λO hd=>?_))))
       . exact .ks 1 r (.yes r (.lo AE .z r (.ks 5 r (.nil' (je (decide ((A6 (f.At - s.1))<s.2)) hd rf [2,2,1,0] r)))))
       exact .ks 7 r (.nil' (je false hd rf [2,2,1,0] r))
     refine λA hd=>jq r λc9 P=>?_;obtain⟨b5,b6,x,a,e⟩:=P.u5 J v u a e;refine .condP r hd (λR hd=>?_) λR hd=>?_
     . refine .region (.ks 3 r (.lo AE .p3 r (.ks 3 r (.lo O7 .p3 r (.bd ZB underlying151 Ae8 r (.bs 1 MQ QT ZB r λd0=>?_))))));obtain⟨S,hd⟩:=hd;exact .append (ys:=[({ Row:=d,Col:=A6 (f.At - s.1),Val:=f.Val }:A3)]) 24 .p3 MQ MQ Ae7 r r r r r r r r r (.box .z (.one r) r) S r r λd1 d2=>.kn 1 3854733156296 r (.drop .p1 (.drop .p3 (.region (.ks 2 r (.nil' λc w ho hs=>⟨((b++([({ Row:=d,Col:=A6 (f.At - s.1),Val:=f.Val }:A3)])),A6 (h+1)),hd,_,_,jf x tv [0,0,0] r ho hs⟩)))))
     exact .sn 3854733156296 r (.drop .p3 (.region (.ks 2 r (.nil' λc w ho hs=>⟨(b,A6 (h+1)),hd,_,_,jf x tv [2,0,0] r ho hs⟩))))
   exact .en 6442454984 r (.region (.ks 2 r (.nil' λc w ho hs=>⟨(b,A6 (d+1)),hd,_,_,jf v tv [0,0,0] r ho hs⟩)))
 refine .en 3392 r (.drop .p1 (.sk 3 r (.pub .z λd3 T q=>?_)));obtain⟨U,V⟩:=T.u2 t g;refine .call call113 r (ZH q hd:) r r λd4 d5 X Y=>?_;obtain⟨W,Z,rfl,b2,hd⟩:=Y;obtain⟨a3,b7,q⟩:=X.u3 U V q;exact .sa CH .z r (.no 64 r (.ret (B0 r (.w FA CH r .z r .n) a3 ⟨W,Z,r,b2,hd⟩)))
theorem ZI {a0:Int} {Q:Bool->Prop} (hd:OH a0 Q) :
  AY prog 42 [.int .i64 a0] I (λ_=>cI Q):=by
 refine Fun.en func42 ntmps42 r λw0 M=>.sk 1 r (.nk 1 3 r (.spl hd [4,5] r (λa hd=>?_) λa hd=>?_))
 . exact .kn 4 4 r (.r0 results42 r ⟨(decide (a0<=8)),r,hd⟩)
 exact .kn 4 4 r (.r0 results42 r ⟨false,r,hd⟩)
theorem AcI {a0 a1:Int} {Q:Bool->Prop} (hd:fK a0 a1 Q) :
  AY prog 77 [.int .i64 a0,.int .i64 a1] I (λ_=>cI Q):=by
 refine Fun.en func77 ntmps77 r λw0 M=>.sk 1 r (.nk 3 3 r (.spl hd [6,7] r (λa hd=>?_) λa hd=>?_))
 . refine .ks 4 r (.spl hd [9,10,11] r (λb hd=>?_) λb hd=>?_)
   . refine .ks 1 r ?_;refine .yes r (.callP call42 r (ZI (I:=I) hd:) r r λf d=>?_);obtain⟨e,rfl,hd⟩:=d;exact .kn 2 16 r (.r0 results77 r ⟨e,r,hd⟩)
   exact .kn 4 16 r (.r0 results77 r ⟨false,r,hd⟩)
 exact .kn 8 16 r (.r0 results77 r ⟨false,r,hd⟩)
theorem H8 {a0 a1 a2:Int} {Q:Int->Prop} (hd:HJ a0 a1 a2 Q) :
  AY prog 40 [.int .i64 a0,.int .i64 a1,.int .i64 a2] I (λ_=>Y9 Q):=by
 refine Fun.en func40 ntmps40 r λw0 M=>.sr (.kn 1 7 r (.seq (.sk 2 r (.cq call77 (AcI (I:=I) hd:) r λd hd=>.kn 1 1031 r (.condP r hd (λa hd=>?_) λa hd=>?_)))))
 . exact .sr (.kn 1 64 r (.r0 results40 r ⟨0,r,hd⟩))
 refine .sn 7 r (.sk 1 r (.maxI r r r r (.ks 1 r (.minI r r r r (.ks 3 r ?_)))));obtain⟨b,hd⟩:=hd;exact .quo r r b r r (.kn 1 64 r (.r0 results40 r ⟨(A6 ((A6 ((if a1<(if 0 > a2 then 0 else a2) then a1 else (if 0 > a2 then 0 else a2))*a0)).tdiv a1)),r,hd⟩))
theorem HU {a0 a1 a2:Int} {Q:(Int×Int)->Prop} (hd:G0 a0 a1 a2 Q) :
  AY prog 70 [.int .i64 a0,.int .i64 a1,.int .i64 a2] I (λ_=>AnO Q):=by
 exact Fun.en func70 ntmps70 r λw0 M=>.sr (.al bN r λe=>.nk 71 3 r (.cq call40 (H8 (I:=I) hd:) r λc hd=>.ks 4 r (.cq call40 (H8 (I:=I) hd:) r λd hd=>.ba bN T4 D5 r (.sa bL .z r (.no 64 r (.ret (B0 r (.w isAgg73 bL r .z r .n) rf ⟨(c,d),r,hd⟩)))))))
theorem AaJ {a0:Rows} {a1 a2 a3 a4:Int} {Q:Rows->Prop} (R2:iV I gd1 a0) (hd:ZZ a0 a1 a2 a3 a4 Q) :
  AY prog 37 [.agg (K7 a0 gd1),.int .i64 a1,.int .i64 a2,.int .i64 a3,.int .i64 a4] I (o8_ Q):=by
 refine Fun.en func37 ntmps37 r λw0 M=>.sr (.bx r λT=>.al XE r λE=>.no 1086 r (.seq (.sr (.lw FA CH .p1 r (.cq call67 (UO R2 hd:) r λF hd=>.ks 2 r (.spl hd [13,14] r (λe hd=>?_) λe hd=>?_))))))
 . refine .kn 7 2098238 r (.condKT r r (.sr (.bd XE Aa6 Ac7 r (.ba bN T4 D5 r (.ba bN T4 D5 r ?_)))));refine .call call69 r (bB (I:=I) (gd1:=((_,_),(_,_),(_,_))) (a0:=QJ) ⟨(.nil _ none 0),(.nil _ none 0),(.nil _ none 0)⟩ hd:) r r λG H a g=>?_;obtain⟨x,i,rfl,y,hd⟩:=g;have R2:=a.u1 R2;exact .sa CH .z r (.no 1024 r (.drop .p1 (.ret (B0 r (.w FA CH r .z r .n) a ⟨x,i,r,y,hd⟩))))
 refine .ks 4 r ?_;refine .yes r (.callP call68 r (XJ (I:=I) hd:) r r λJ k=>?_);obtain⟨K,rfl,hd⟩:=k;refine .kn 2 2098238 r (.condP r hd (λl hd=>?_) λl hd=>?_)
 . refine .sr (.bd XE Aa6 Ac7 r (.ba bN T4 D5 r (.ba bN T4 D5 r ?_)));refine .call call69 r (bB (I:=I) (gd1:=((_,_),(_,_),(_,_))) (a0:=QJ) ⟨(.nil _ none 0),(.nil _ none 0),(.nil _ none 0)⟩ hd:) r r λL N b o=>?_;obtain⟨A,p,rfl,B,hd⟩:=o;have R2:=b.u1 R2;exact .sa CH .z r (.no 1024 r (.drop .p1 (.ret (B0 r (.w FA CH r .z r .n) b ⟨A,p,r,B,hd⟩))))
 refine .sn 1086 r (.seq (.dr [0,1,2,3,4,6,7,8,9,5,10,11] 12 (.h r (.lw FA CH .p1 r .mk) (.fk 1 r (.hl AE 1 r (.fk 3 r (.hl AE 1 r (.fk 2 r (.ww r (.cq call70 (HU (I:=I) hd:) r λO hd=>?_))))))))));refine .so 2 r r r (.ck 2 r r (.ch r (.lo AE .p1 r .mk) (.ck 1 r r (.ch r (.lw FA CH .p1 r .mk) tv)))) (.ww r ?_);refine .cq call70 (HU (I:=I) hd:) r λP hd=>?_;refine .so 2 r r r (.ch r (.lw FA CH .p1 r .mk) tv) (.ww r (.call call69 r (bB R2 hd:) r r λR S c u=>?_));obtain⟨C,v,rfl,D,hd⟩:=u;have R2:=c.u1 R2;exact .so 2 r r r tv (.e2 12 (.sa CH .z r (.no 1024 r (.drop .p1 (.ret (B0 r (.w FA CH r .z r .n) c ⟨C,v,r,D,hd⟩))))))
theorem lY {Q:AN->Prop} (hd:VL Q) :
  uI prog 71 [] I (λI_ v l=>∃ r p1 c2 p4 c5 p7 c8 p10 c11,v=.agg #[.int .i64 r.Rows,.int .i64 r.Cols,.slice p1 r.At.length c2,.slice p4 r.Start.length c5,.slice p7 r.Row.length c8,.slice p10 r.Val.length c11]∧l=[OwnSl AR 3 p1 c2 r.At,OwnSl AR 3 p4 c5 r.Start,OwnSl AR 3 p7 c8 r.Row,OwnSl AR 2 p10 c11 r.Val]∧Q r):=by
 exact Fun.en func71 ntmps71 r λw0 M=>.sr (.al pW r λa=>.ns 1 r (.bs 1 BB D5 kA r λb=>.ownB (El:=AR) (ys:=([0]:List Int)) .z (.one r) r (.bd pW underlying101 AlD r (.sa DW .p1 r (.no 1 r (.own0 AR 3 (.own0 AR 3 (.own0 AR 2 (.ret (CT r (.w GK DW r .p4 r .n) rf (.o [2,2,1,0] r) ⟨({ Rows:=0,Cols:=0,At:=([]:List Int),Start:=([0]:List Int),Row:=([]:List Int),Val:=([]:List Int) }:AN),_,_,_,_,_,_,_,_,r,r,hd⟩))))))))))
theorem cP {a0:Rows} {Q:(List A3)->Prop} (R2:iV I gd1 a0) (hd:PW a0 Q) :
  uI prog 72 [.agg (K7 a0 gd1)] I (λI_ v l=>∃ r p3 c4,v=.slice p3 r.length c4∧l=[OwnSl ID 151 p3 c4 r]∧Q r):=by
 refine Fun.en func72 ntmps72 r λw0 M=>?_;refine .sr (.bx r λy=>?_);refine .ks 1 r (.ns 2 r (.lw FA CH .z r (.call call118 r (T9 R2 hd:) r r λO b5 s P=>?_)));obtain⟨b6,Y,rfl,a,hd⟩:=P;have R2:=s.u1 R2;refine .sa CH .z r (.nk 2 1 r (.no 10 r (.seq (.sk 1 r (.lo AE .z r (.kn 1 12298 r (.block (.own0 ID 151 (.lx hd [12,1] [1] r (λj E l (e,b)=>λc w=>∃ f g,j ⟨42,[],none⟩ (λI_=>True) ((3,.slice f e.length g) :: (13,.int .i64 b) :: E) (OwnSl ID 151 f g e :: l) c w) (λc w ho hs=>⟨_,_,jf rf tv [0,0] r ho hs⟩) ?_)))))))));rintro⟨e,b⟩ V hd c w ⟨f,g,Z,o,_,hok,hsym⟩;obtain⟨p,a⟩:=o.u2 s a;refine Cod.at hok hsym (.sr (.kn 1 28682 r (.seq (.condP r hd (λx hd=>?_) λx hd=>?_))))
 . refine .sn 12298 r (.seq (.block (.sk 2 r (.ns 12314 r (.lw FA CH .p1 r (.ks 1 r ?_))))));refine .call call121 r (qF a hd:) r r λa1 a2 A B=>?_;obtain⟨a3,a4,a5,a6,a7,rfl,h,i,hd⟩:=B;obtain⟨C,D,a⟩:=A.u3 p o a;refine .ks 5 r (.nk 12410 1 r (.ln BB r (.kn 1 29372506 r (.block (.lx hd [23,22,13,12,6,4,1] [1] r (λj E l (d,k)=>λc w=>∃ m n,j ⟨42,[],none⟩ (λI_=>True) ((3,.slice m d.length n) :: (24,.int .i64 k) :: E) (OwnSl ID 151 m n d :: l) c w) (λc w ho hs=>⟨_,_,jf rf tv [0,0] r ho hs⟩) ?_)))));rintro⟨d,k⟩ W hd c w ⟨m,n,a8,q,_,hok,hsym⟩;obtain⟨X,F,a,h,i⟩:=q.u5 C D a h i;refine Cod.at hok hsym (.sr (.kn 1 62926938 r (.seq (.condP r hd (λG hd=>?_) λG hd=>?_))))
   . refine .sn 29372506 r (.seq (.block (.sk 1 r ?_)));obtain⟨R,t,H,a9,o517,S,J,hd⟩:=h.ix hd;refine .ixb BB D5 S R H r (.ldb 0 AE J r (.kn 2 29372890 r (.region (.ks 5 r ?_))));obtain⟨T,u,K,b0,o526,U,L,hd⟩:=i.ix hd;refine .ixb D7 bK U T K r (.ldb 0 O7 L r (.bd ZB underlying151 Ae8 r (.bs 1 MQ QT ZB r λb1=>?_)));obtain⟨N,hd⟩:=hd;exact .append (ys:=[({ Row:=b,Col:=t,Val:=u }:A3)]) 24 .p1 MQ MQ Ae7 r r r r r r r r r (.box .z (.one r) r) N r r λb2 b3=>.kn 1 29372506 r (.drop .p1 (.region (.ks 2 r (.nil' λc w ho hs=>⟨((d++([({ Row:=b,Col:=t,Val:=u }:A3)])),A6 (k+1)),hd,_,_,jf q tv [0,0] r ho hs⟩))))
   exact .en 12298 r (.region (.ks 2 r (.nil' λc w ho hs=>⟨(d,A6 (b+1)),hd,_,_,jf F tv [0,0] r ho hs⟩)))
 exact .en 8 r (.drop .p1 (.sr (.kn 2 4 r (.q1 results72 p [0] r ⟨e,_,_,r,r,hd⟩))))
theorem AaK {a0 a1:A3} {Q:Int->Prop} (hd:aA a0 a1 Q) :
  AY prog 123 [.agg (jH a0).toArray,.agg (jH a1).toArray] I (λ_=>Y9 Q):=by
 refine Fun.en func123 ntmps123 r λw0 M=>.sr (.bx r λl=>.bx r λm=>.kn 1 12 r (.seq (.dr [0,1,2,3,5,6,7,8,4,9,10,11] 12 (.fk 1 r (.hl AE 1 r (.fk 1 r (.hl AE 0 r (.fk 1 r (.hl AE 1 r (.fk 1 r (.hl AE 0 r (.ww r ?_))))))))))));refine .cq call53 (D4 (I:=I) hd:) r λf hd=>.so 2 r r r (.ch r (.lo AE .z r .mk) (.ck 1 r r (.ch r (.lo AE .p1 r .mk) (.ck 1 r r tv)))) (.ww r (.cq call53 (D4 (I:=I) hd:) r λa hd=>.so 2 r r r tv (.ww r (.bs 2 BB D5 kA r λi=>.so 3 r r r tv (.ww r (.pubB (El:=AR) (ys:=([f,a]:List Int)) (k:=2) .z (RepCs.cons (cs:=[.int .i64 f]) r (RepCs.cons (cs:=[.int .i64 a]) r .nil)) r λj d g=>?_))))));exact .cq call52 (L3 g hd:) r λh hd=>.so 2 r r r tv (.e2 12 (.kn 1 16 r (.drop .z (.drop .z (.r1 results123 r d ⟨h,r,hd⟩)))))
theorem AcJ {a0:Rows} {Q:Rows->Prop} (R2:iV I gd1 a0) (hd:fL a0 Q) :
  AY prog 73 [.agg (K7 a0 gd1)] I (o8_ Q):=by
 refine Fun.en func73 ntmps73 r λw0 M=>?_;refine .sr (.bx r λO=>.al XE r λV=>?_);refine .ns 6 r (.lw FA CH .p1 r (.call call118 r (T9 R2 hd:) r r λX c3 t W=>?_));obtain⟨c4,a9,rfl,b,hd⟩:=W;have R2:=t.u1 R2;refine .sa CH .p1 r (.ns 6 r (.lw FA CH .p1 r ?_));refine .callO call72 r (cP b hd:) r r λc5 c6 c7 Y Z=>?_;obtain⟨c8,c9,d0,rfl,rfl,hd⟩:=Z;obtain⟨a2,b⟩:=Y.u2 t b;refine .kn 1 14 r (.seq (.sk 1 r (.ln MQ r (.kn 1 7182 r (.block (.lx hd [11,2,1] [2,1] r (λj E l (e,i)=>λc w=>∃ g h,j ⟨36,[],none⟩ (λI_=>True) ((3,.slice g e.length h) :: (10,.slice g e.length h) :: (12,.int .i64 i) :: E) (OwnSl ID 151 g h e :: l) c w) (λc w ho hs=>⟨_,_,jf rf tv [0,1,0] r ho hs⟩) ?_))))));rintro⟨e,i⟩ a7 hd c w ⟨g,h,a3,k,_,hok,hsym⟩;obtain⟨A,b⟩:=k.u2 a2 b;refine Cod.at hok hsym (.sr (.kn 1 15374 r (.seq (.condP r hd (λB hd=>?_) λB hd=>?_))))
 . refine .sn 7182 r (.seq (.block (.sk 1 r ?_)));obtain⟨u,d,m,hd⟩:=hd;refine .ownNe .z (FN m) λb0 a4=>?_;cases a4;refine .ixa0 MQ QT r r u (CC m u) r r (.loA (j:=0) isAgg151 QT .z m r r (.o 3 r) r r r (.al ZB r λb1=>.ks 1 r (.sa QT .z r (.no 7230 r (.region (.ks 3 r (.lo AE .z r (.ks 1 r (.lo AE .z r (.ks 1 r (.lo O7 .z r (.bd ZB underlying151 Ae8 r ?_))))))))))));obtain⟨v,b2,q,hd⟩:=hd;exact .ixa0 MQ QT r r v (CC q v) r r (.stOA (j:=0) (v':=({ Row:=d.Col,Col:=d.Row,Val:=d.Val }:A3)) QT .p1 q r r r (.o r) r r (.rl .p1 [3,10,17] r (by simp only[List.length_set]) (.no 7182 r (.drop .z (.region (.ks 2 r (.nil' λc w ho hs=>⟨((e.set i.toNat ({ Row:=d.Col,Col:=d.Row,Val:=d.Val }:A3)),A6 (i+1)),hd,_,_,jf k tv [0,0,0] r ho hs⟩)))))))
 refine .en 14 r (.sk 1 r ?_);have C:=Fun.sort (hk:=λ_=>⟨r,r⟩) Ao2 isAgg151 QT (λx y J Q hq=>AaK (I:=J) (a0:=x) (a1:=y) (Q:=Q) hq) call123 (I:=a3) (T:=151) (a:=g) (cap:=h) hd;refine .callS (.f call122 r) (.o [0] r) C r r λb3 b4 b5 D F=>?_;obtain⟨b6,rfl,s,rfl,hd⟩:=F;obtain⟨G,H,b⟩:=D.u3 A k b;refine .rl .z [3,28] r (by rw[s]) (.nk 14 1 r (.lo AE .p1 r (.ks 1 r (.lo AE .p1 r (.ks 1 r (.pub .z λb7 K p=>?_))))));obtain⟨L,N,b⟩:=K.u3 G H b;refine .call call113 r (ZH p hd:) r r λb8 c0 P R=>?_;obtain⟨a5,S,rfl,a6,hd⟩:=R;obtain⟨U,a8,b,p⟩:=P.u4 L N b p;exact .sa CH .p1 r (.no 4 r (.drop .z (.ret (B0 r (.w FA CH r .z r .n) U ⟨a5,S,r,a6,hd⟩))))
theorem AgA {a0:Rows} {Q:AN->Prop} (R2:iV I gd1 a0) (hd:mP a0 Q) :
  AY prog 38 [.agg (K7 a0 gd1)] I (AnP Q):=by
 refine Fun.en func38 ntmps38 r λw0 M=>?_;refine .sr (.bx r λb9=>.al pW r λj6=>?_);refine .ns 6 r (.callO call71 r (lY (I:=I) hd:) r r λj7 j8 j9 L d3=>?_);obtain⟨f6,k0,k1,k2,k3,k4,k5,k6,k7,rfl,rfl,hd⟩:=d3;have R2:=L.u1 R2;refine .al pW r λW=>.sa DW .z r (.no 14 r (.seq (.sr (.lw FA CH .p6 r (.cq call67 (UO R2 hd:) r λk8 hd=>.kn 1 1038 r (.condP r hd (λd5 hd=>?_) λd5 hd=>?_))))))
 . refine .sr (.lw GK DW .z r (.sa DW .p5 r (.no 4 r (.drop .z (.drop .p5 (.pub .z λk9 d6 m=>?_))))));have d7:=d6.u1 L;refine .pub .z λl0 d8 K=>?_;obtain⟨d9,m⟩:=d8.u2 d7 m;refine .pub .z λl1 e0 X=>?_;obtain⟨e1,m,K⟩:=e0.u3 d9 m K;refine .pub .z λl2 e3 f7=>?_;obtain⟨e4,m,K,X⟩:=e3.u4 e1 m K X;exact .ret (B0 r (.w GK DW r .z r .n) e4 ⟨f6,((_,_),(_,_),(_,_),(_,_)),r,⟨m,K,X,f7⟩,hd⟩)
 refine .sn 14 r (.seq (.dr [0,1,2,3,4,5] 6 (.fk 1 r (.hl AE 6 r (.fk 1 r (.hl AE 6 r (.fk 1 r (.ww r ?_))))))));refine .s1 D5 .z r (.sn 7 r r r (.ch r (.lo AE .p6 r .mk) (.ck 1 r r tv)) (.e2 6 (.ks 1 r (.s1 D5 .z r (.no 14 r (.seq (.sr (.lw FA CH .p6 r ?_))))))));refine .call call73 r (AcJ R2 hd:) r r λg6 g7 a5 a6=>?_;obtain⟨g8,g1,rfl,N,hd⟩:=a6;obtain⟨a7,R2⟩:=a5.u2 L R2;refine .callO call72 r (cP N hd:) r r λg9 h0 h1 a9 b0=>?_;obtain⟨h2,h3,h4,rfl,rfl,hd⟩:=b0;obtain⟨b1,R2,N⟩:=a9.u3 a7 R2 N;refine .ln MQ r (.kn 1 7340044 r (.drop .p7 (.block (.lx hd [21,20,3,2] [6,0] r (λj E l (g,i,b,d,O)=>λc w=>∃ P R S T s t u v,j ⟨79,[],none⟩ (λI_=>True) ((22,.int .i64 O) :: E) (pto W (.cells #[.int .i64 a0.Rows,.int .i64 a0.Cols,.slice P g.length R,.slice S i.length T,.slice s b.length t,.slice u d.length v] 101 (0,0)) :: OwnSl AR 3 P R g :: OwnSl AR 3 S T i :: OwnSl AR 3 s t b :: OwnSl AR 2 u v d :: l) c w) (λc w ho hs=>⟨_,_,_,_,_,_,_,_,jf rf tv [1,1,1,1,1,1,0] r ho hs⟩) ?_))));rintro⟨g,i,b,d,O⟩ f5 hd c w ⟨P,R,S,T,s,t,u,v,h5,k,_,hok,hsym⟩;have x:=k.u1 b1;refine Cod.at hok hsym (.sr (.kn 1 15728652 r (.seq (.condP r hd (λb2 hd=>?_) λb2 hd=>?_))))
 . refine .sn 7340044 r (.seq (.block (.sr ?_)));obtain⟨Y,a,y,hd⟩:=hd;refine .ownNe .p6 (FN y) λh6 e5=>?_;cases e5;refine .ixa0 MQ QT r r Y (CC y Y) r r (.loA (j:=0) isAgg151 QT .p6 y r r (.o 3 r) r r r (.al ZB r λh7=>.sa QT .z r (.no 7340076 r (.seq (.jx hd [22,21,20,5,3,2] [6,4,4,0,3] r (λj E l (e,p)=>λc w=>∃ A C U D,j ⟨79,[],none⟩ (λI_=>True) E (pto W (.cells #[.int .i64 a0.Rows,.int .i64 a0.Cols,.slice A e.length C,.slice U p.length D,.slice s b.length t,.slice u d.length v] 101 (0,0)) :: OwnSl AR 3 A C e :: OwnSl AR 3 U D p :: l) c w) (λh8 hd=>?_) ?_)))))
   . refine .sk 1 r (.lo EM .p1 r (.ln BB r (.kn 1 7340140 r (.seq (.jn hd [22,21,20,5,3,2] [6,1,1,1,1,1,0,0] r (λj E l Z=>j ((41,.bool Z) :: E) l) (λh9 hd=>?_) ?_)))))
     . refine .ownF .p2 λa1=>.ownF .p3 λf8=>.ownF .p4 λf9=>.ownF .p5 λg0=>.dr [0,1,2,3,4,5,6,7,8,9,10,11,12] 13 (.fk 3 r ?_);refine D6 hd (λF hd=>?_) λF hd=>?_
       . rw[F];exact .fk 10 r (.e2 13 (.nil' (je true hd rf [6,1,1,1,1,1,0,0] r)))
       rw[F];refine .fk 1 r (.h r (.yes r (.lo EM .p1 r .mk)) (.fk 2 r ?_));obtain⟨a2,e6,G,hd⟩:=hd;obtain⟨i0,e7⟩:=a1 (FN G);cases e7;exact .h r (.yes r (.ixa0 BB D5 r r a2 (CC G a2) r r .mk)) (.h r (.yes r (.lo1 (j:=0) AE .p2 G r r r r r .mk)) (.fk 1 r (.h r (.yes r (.lo AE .z r .mk)) (.fk 2 r (.e2 13 (.nil' (je (e6 != a.Row) hd rf [6,1,1,1,1,1,0,0] r)))))))
     refine λZ hd=>jq r λi1 H=>?_;obtain⟨g2,g3⟩:=H.u2 x k;refine .condP r hd (λb3 hd=>?_) λb3 hd=>?_
     . refine .sk 1 r (.lo EM .p1 r (.ks 1 r (.lo AE .p6 r (.bs 1 BB D5 kA r λi2=>?_))));obtain⟨b4,hd⟩:=hd;refine .append (ys:=[a.Row]) 8 .p3 BB BB IN3 r r r r r r r r r (.box .z (.one r) r) b4 r r λi3 i4=>.ks 1 r (.s1 sizeOf88 .p3 r (.no 7340076 r (.drop .p1 (.region (.ks 1 r (.lo EM .p2 r (.bs 1 BB D5 kA r λi5=>?_)))))));obtain⟨b5,hd⟩:=hd;exact .append (ys:=[0]) 8 .p4 BB BB IN3 r r r r r r r r r (.box .z (.one r) r) b5 r r λi6 i7=>.ks 1 r (.s1 sizeOf88 .p4 r (.nil' λc w ho hs=>⟨((g++([a.Row])),(i++([0]))),hd,_,_,_,_,jf H tv [4,2,0,1,1,1,1,1] r ho hs⟩))
     exact .skip' λc w ho hs=>⟨(g,i),hd,_,_,_,_,jf H tv [1,1,1,0,0,0,0,0] r ho hs⟩
   rintro⟨e,p⟩ hd c w ⟨A,C,U,D,i8,b6,_,hok,hsym⟩;obtain⟨g4,b7⟩:=b6.u2 x k;refine Cod.at hok hsym (.sk 1 r (.lo EM .z r (.ks 1 r (.lo AE .p6 r (.bs 1 BB D5 kA r λi9=>?_)))));obtain⟨b8,hd⟩:=hd;refine .append (ys:=[a.Col]) 8 .p5 BB BB IN3 r r r r r r r r r (.box .z (.one r) r) b8 r r λe8 e9=>.ks 1 r (.s1 sizeOf88 .p2 r (.no 7340076 r (.drop .p1 (.sk 1 r (.lo DY .p1 r (.ks 1 r (.lo O7 .p6 r (.bs 1 D7 bK zv2 r λj0=>?_))))))));obtain⟨c0,hd⟩:=hd;refine .append (ys:=[a.Val]) 8 .p6 D7 D7 IN2 r r r r r r r r r (.box .z (.one r) r) c0 r r λf0 f1=>.ks 1 r (.s1 mI .p3 r (.no 7340044 r (.drop .p1 (.drop .p6 (.region (.ks 1 r (.lo EM .p2 r (.ks 1 r (.lo EM .p2 r ?_)))))))));refine .ln BB r (.ks 1 r (.lo EM .p2 r (.ln BB r ?_)));obtain⟨a3,j1,J,hd⟩:=hd;refine .ownNe .p4 (FN J) λf2 f3=>?_;cases f3;exact .ixa0 BB D5 r r a3 (CC J a3) r r (.stO1 (j:=0) (v':=((b++([a.Col])).length:Int)) D5 .p4 J r r r (.o r) r (.rl .p4 [69] r (by simp only[List.length_set]) (.reat .p2 (B:=pto W (.cells #[.int .i64 a0.Rows,.int .i64 a0.Cols,.slice A e.length C,.slice (some ⟨f2,0,none⟩) (p.set ((e.length:Int).toNat) ((b++([a.Col])).length:Int)).length D,.slice e8 (b++([a.Col])).length e9,.slice f0 (d++([a.Val])).length f1] 101 (0,0))) (by simp only[List.length_set]) (.no 7340044 r (.region (.ks 2 r (.nil' λc w ho hs=>⟨(e,(p.set ((e.length:Int).toNat) ((b++([a.Col])).length:Int)),(b++([a.Col])),(d++([a.Val])),A6 (O+1)),hd,_,_,_,_,_,_,_,_,jf b7 tv [2,2,2,1,0,0,0] r ho hs⟩)))))))
 refine .en 12 r (.drop .p6 (.sr (.lw GK DW .z r (.sa DW .p5 r (.no 4 r (.drop .z (.pub .z λj2 c1 f=>?_)))))));obtain⟨c2,c3⟩:=c1.u2 x k;refine .pub .z λj3 c4 q=>?_;obtain⟨c5,c6,f⟩:=c4.u3 c2 c3 f;refine .pub .z λj4 c7 V=>?_;obtain⟨c8,c9,f,q⟩:=c7.u4 c5 c6 f q;refine .pub .z λj5 d0 f4=>?_;obtain⟨d1,g5,f,q,V⟩:=d0.u5 c8 c9 f q V;exact .ret (B0 r (.w GK DW r .z r .n) d1 ⟨({ a0 with At:=g,Start:=i,Row:=b,Val:=d }:AN),((_,_),(_,_),(_,_),(_,_)),r,⟨f,q,V,f4⟩,hd⟩)
theorem cQ {a0:Int} {Q:Int->Prop} (hd:PX a0 Q) :
  AY prog 171 [.int .i64 a0] I (λ_=>Y9 Q):=by
 exact Fun.en func171 ntmps171 r λw0 M=>.sk 1 r (.nk 1 1 r (.maxI r r r r (.minI r r r r (.ks 1 r (.shr' r r (by decide) r r (.kn 1 4 r (.r0 results171 r ⟨(shr .i64 (A6 ((if 4096<(if 0 > a0 then 0 else a0) then 4096 else (if 0 > a0 then 0 else a0))+63)) 6),r,hd⟩)))))))
theorem UP {a0:Int} {Q:(List Int)->Prop} (hd:OI a0 Q) :
  uI prog 129 [.int .i64 a0] I (λI_ v l=>∃ r p1 c2,v=.slice p1 r.length c2∧l=[OwnSl IC 83 p1 c2 r]∧Q r):=by
 exact Fun.en func129 ntmps129 r λw0 M=>.sk 1 r (.nk 1 1 r (.cq call171 (cQ (I:=I) hd:) r λb ⟨c,d,hd⟩=>.make (El:=IC) (zv:=0) 8 T3 AnC r r r r r r c d r r r λe=>.kn 1 4 r (.q1 results129 rf [0] r ⟨(List.replicate b.toNat 0),_,_,r,r,hd⟩)))
theorem ZJ {a0:List Int} {a1:Int} {Q:Bool->Prop} (R3:RepSl IC I p1 c2 a0) (hd:N8 a0 a1 Q) :
  AY prog 130 [.slice p1 a0.length c2,.int .i64 a1] I (λ_=>cI Q):=by
 refine Fun.en func130 ntmps130 r λw0 M=>.sk 1 r (.nk 3 3 r (.spl hd [6,7] r (λa hd=>?_) λa hd=>?_))
 . exact .ks 1 r (.yes r (.shr' r r (by decide) r r (.ks 1 r (.yes r (.ln T3 r (.kn 3 16 r (.r0 results130 r ⟨(decide ((shr .i64 a1 6)<(a0.length:Int))),r,hd⟩)))))))
 exact .kn 7 16 r (.r0 results130 r ⟨false,r,hd⟩)
theorem lZ {a0:Int} {Q:Int->Prop} (hd:VM a0 Q) :
  AY prog 131 [.int .i64 a0] I (λ_=>o4_ Q):=by
 refine Fun.en func131 ntmps131 r λw0 M=>.sk 1 r (.nk 1 1 r (.conv eU underlying166 r r r (.ks 1 r ?_)));obtain⟨a,hd⟩:=hd;exact .shl' r r a r r (.kn 1 4 r (.r0 results131 r ⟨(shl .u64 1 (XQ .u64 (IntKind.wrap .u64 (a0)) 63)),r,hd⟩))
theorem PE {a0:Int} {a1:List Int} {Q:(List Int)->Prop} (R3:RepSl AR I p1 c2 a1) (hd:K1 a0 a1 Q) :
  AY prog 82 [.int .i64 a0,.slice p1 a1.length c2] I (AnQ Q):=by
 refine Fun.en func82 ntmps82 r λw0 M=>?_;refine .sk 1 r (.nk 3 1 r ?_);refine .callO call129 r (UP (I:=I) hd:) r r λK O b2 q P=>?_;obtain⟨b3,b4,b5,rfl,rfl,hd⟩:=P;have R3:=q.u1 R3;refine .kn 1 35 r (.seq (.sk 1 r (.ln BB r (.kn 1 7201 r (.block (.lx hd [11,10,0] [] r (λj E l (a,d)=>λc w=>∃ e g,j ⟨35,[],none⟩ (λI_=>True) ((5,.slice e a.length g) :: (12,.int .i64 d) :: E) (OwnSl IC 83 e g a :: l) c w) (λc w ho hs=>⟨_,_,jf rf tv [0] r ho hs⟩) ?_))))));rintro⟨a,d⟩ Z hd c w ⟨e,g,R,i,_,hok,hsym⟩;obtain⟨m,R3⟩:=i.u2 q R3;refine Cod.at hok hsym (.sr (.kn 1 15393 r (.seq (.condP r hd (λy hd=>?_) λy hd=>?_))))
 . refine .sn 7201 r (.seq (.block (.sr ?_)));obtain⟨S,T,A,a4,o176,U,B,hd⟩:=R3.ix hd;refine .ixb BB D5 U S A r (.ldb 0 AE B r (.kn 1 7329 r (.seq (.jn hd [12,11,10,7,5,0] [0] r (λj E l s=>j ((23,.bool s) :: E) l) (λa5 hd=>?_) ?_))))
   . refine .region (.ks 4 r (.spl hd [18,19] r (λC hd=>?_) λC hd=>?_))
     . refine .ks 2 r ?_;have D:=λ(J:IH) (hJ:IH.le R J) (hL:TZ J [OwnSl IC 83 e g a])=>ZJ (I:=J) (AgI hL.1) hd;refine .yes r (.callB (.f call130 r) (.o [0] r) D r r λa6 _ F=>?_);obtain⟨V,rfl,hd⟩:=F;exact .ks 1 r (.nil' (je V hd rf [0] r))
     exact .ks 4 r (.nil' (je false hd rf [0] r))
   refine λs hd=>jq r λW G=>?_;obtain⟨a2,n,R3⟩:=G.u3 m i R3;refine .condP r hd (λH hd=>?_) λH hd=>?_
   . refine .ownF .z λt=>.dr [0,1,2,3,4,5,6,7] 8 (.fk 2 r (.h r (.shr' r r (by decide) r r .mk) ?_));obtain⟨k,u,b,hd⟩:=hd;obtain⟨a7,X⟩:=t (FN b);cases X;refine .h r (.ixa0 T3 KX r r k (CC b k) r r .mk) (.h r (.lo1 (j:=0) GY .z b r r r r r .mk) (.fk 1 r (.ww r (.cq call131 (lZ (I:=W) hd:) r λv hd=>?_))));refine .so 1 r r r (.ch r (.lo1 (j:=0) GY .z b r r r r r .mk) (.ch r (.ixa0 T3 KX r r k (CC b k) r r .mk) (.ch r (.shr' r r (by decide) r r .mk) (.ck 2 r r tv)))) (.fk 1 r (.e2 8 ?_));obtain⟨x,a8,p,hd⟩:=hd;exact .ixa0 T3 KX r r x (CC p x) r r (.stO1 (j:=0) (v':=(bor .u64 u v)) KX .z p r r r (.o r) r (.rl .z [5,24] r (by simp only[List.length_set]) (.no 7201 r (.region (.ks 2 r (.nil' λc w ho hs=>⟨((a.set ((shr .i64 T 6).toNat) (bor .u64 u v)),A6 (d+1)),hd,_,_,jf n tv [0] r ho hs⟩))))))
   exact .sn 7201 r (.region (.ks 2 r (.nil' λc w ho hs=>⟨(a,A6 (d+1)),hd,_,_,jf n tv [0] r ho hs⟩)))
 refine .en 32 r (.sr (.kn 2 16 r (.pub .z λa9 L Y=>?_)));obtain⟨N,a3⟩:=L.u2 m i;exact .r1 results82 r N ⟨a,_,_,r,Y,hd⟩
theorem WC {a0:List Int} {Q:(List Int)->Prop} (R3:RepSl IC I p1 c2 a0) (hd:K2 a0 Q) :
  Fun prog 128 #[.slice p1 a0.length c2] I [] (λI_ v l=>∃ r b4 p5 c6,v=.func (.func 170) #[] #[.pointer (some ⟨b4,0,none⟩)]∧RepSl IC I_ p5 c6 r∧l=[pto b4 (.cells #[.slice p5 r.length c6] 46 (0,0))]∧Q r):=by
 exact Fun.en func128 ntmps128 r λw0 M=>.sr (.box1 r r r r λb4=>.ks 1 r (.ns 2 r (.mkFn r r r r (.kn 1 4 r (.q1 results128 rf [0] r ⟨a0,_,_,_,r,R3,r,hd⟩)))))
theorem dZ {o0:Nat} {o1 o2:Int} {o3:List Int} {Y:Nat->Int->Int->Int->((Bool×Nat×Int)->Prop)->Prop} {Q:(Nat×Int)->Prop} (hY:∀ {J_:IH},I.le J_->∀ {y11:Nat} {y12:Int} {y14:Int} {x16:Int} {Qy:(Bool×Nat×Int)->Prop},Y y11 y12 y14 x16 Qy->RFun prog lr [.int .i64 x16] J_ [Rr y11,pto b5 (.cells #[.int .i64 y12] 3 (0,0)),pto b6 (.cells #[.int .i64 y14] 3 (0,0))] (λI_ v l=>∃ r,v=.bool r.1∧l=[Rr r.2.1,pto b5 (.cells #[.int .i64 y12] 3 (0,0)),pto b6 (.cells #[.int .i64 r.2.2] 3 (0,0))]∧Qy r)) (R10:RepSl IC I p8 c9 o3) (hd:OJ o0 o1 o2 o3 Y Q) :
  Fun prog 170 #[.func (.yield lr) #[] #[],.pointer (some ⟨b7,0,none⟩)] I [Rr o0,pto b5 (.cells #[.int .i64 o1] 3 (0,0)),pto b6 (.cells #[.int .i64 o2] 3 (0,0)),pto b7 (.cells #[.slice p8 o3.length c9] 46 (0,0))] (λI_ v l=>∃ r,v=.tuple #[]∧l=[Rr r.1,pto b5 (.cells #[.int .i64 o1] 3 (0,0)),pto b6 (.cells #[.int .i64 r.2] 3 (0,0)),pto b7 (.cells #[.slice p8 o3.length c9] 46 (0,0))]∧Q r):=by
 refine Fun.en func170 ntmps170 r λw0 M=>.sr (.lo MZ .p3 r (.ln T3 r (.kn 1 451 r (.block (.lp hd [7,6,1,0] [1,2] r (λj E l (i,k,m)=>j ((8,.int .i64 k) :: E) (pto b6 (.cells #[.int .i64 i] 3 (0,0)) :: Rr m :: l)) (ji rf [2,0,0,0] r) ?_)))));rintro⟨i,k,m⟩ G hd;refine jq r λJ d=>?_;have R10:=d.u1 R10;refine .sr (.kn 1 963 r (.seq (.condP r hd (λp hd=>?_) λp hd=>?_)))
 . refine .sn 451 r (.seq (.block (.sk 1 r ?_)));obtain⟨C,K,q,L,o211,D,s,hd⟩:=R10.ix hd;refine .ixb T3 KX D C q r (.ldb 0 GY s r (.ks 2 r (.nk 475 1 r (.shl' r r (by decide) r r (.kn 1 499 r (.block (.lp hd [8,7,6,1,0] [2,2] r (λj E l (a,e,b,c)=>j ((4,.int .u64 e) :: (5,.int .i64 b) :: E) (pto b6 (.cells #[.int .i64 a] 3 (0,0)) :: Rr c :: l)) (ji rf [0,0,0,0] r) ?_)))))));rintro⟨a,e,b,c⟩ H hd;refine jq r λF f=>?_;obtain⟨g,R10⟩:=f.u2 d R10;refine .seq (.sr (.kn 2 66035 r (.condP r hd (λt hd=>?_) λt hd=>?_)))
   . refine .sn 499 r (.seq (.block (.sk 4 r (.spl hd [23,24] r (λu hd=>?_) λu hd=>?_))))
     . refine .ks 2 r ?_;have w:=hY (J_:=F) g (y11:=c) (y12:=o1) (y14:=a) (x16:=b) hd;refine .yes r (.callY r r (.o [1,1,0] r) w r r λN O P x y=>?_);obtain⟨h,rfl,rfl,hd⟩:=y;obtain⟨z,A,R10⟩:=x.u3 g f R10;refine .rn 4 r (.kn 2 536871411 r (.condP r hd (λB hd=>?_) λB hd=>?_))
       . exact .ret (CT r .n z (.o [0,0,0,0] r) ⟨(h.2.1,h.2.2),r,r,hd⟩)
       exact .sn 499 r (.region (.ks 1 r (.shr' r r (by decide) r r (.ks 4 r (.nil' (je (h.2.2,shr .u64 e 1,A6 (b+1),h.2.1) hd A [2,0,0,0] r))))))
     exact .kn 5 536871411 r (.condKF r r (.sn 499 r (.region (.ks 1 r (.shr' r r (by decide) r r (.ks 4 r (.nil' (je (a,shr .u64 e 1,A6 (b+1),c) hd f [0,0,0,0] r))))))))
   exact .en 451 r (.region (.ks 2 r (.nil' (je (a,A6 (k+1),c) hd g [0,0,0,0] r))))
 exact .exit (HG r .n d (.o [1,1,0,0] r) ⟨(m,i),r,r,hd⟩)
theorem XK {a0:List Int} {a1:Int} {Q:Int->Prop} (R3:RepSl IC I p1 c2 a0) (hd:OL a0 a1 Q) :
  AY prog 254 [.slice p1 a0.length c2,.int .i64 a1] I (λ_=>Y9 Q):=by
 refine Fun.en func254 ntmps254 r λw0 M=>?_;refine .marks0 (.sr (.box1 r r r r λA=>.alloc1 kA r r r λl=>?_));refine .no 25 r (.seq (.sk 1 r (.callS (.f call128 r) .n (WC R3 hd:) r r λB m C b g=>?_)));obtain⟨p,q,t,u,rfl,a,rfl,hd⟩:=g;have R3:=b.u1 R3;refine .rn 4 r (.no 152 r (.block (.rangeF [.ret] r call170 (.o [3,2,1,0] r) λlr D rc hrc=>?_)));refine⟨_,dZ (I:=m) (lr:=lr) (Rr:=bD lr [.ret] rc) (o0:=0) (o1:=a1) (o2:=0) (o3:=p) (b5:=A) (b6:=l) (b7:=q) (p8:=t) (c9:=u) ?_ a hd,?_⟩
 . intro I hJ E F v x Qy  hd
   replace a:=hJ.u1 a
   obtain⟨rfl,hd⟩:=hd;refine RFun.mk hrc r λw0 M=>.region (.ks 1 r (.nil' λc w ho hs=>nM (E':=[(3,_),(4,_),(5,_)]) ho ⟨r,r,r,tv⟩ hs .z (.block (.sk 1 r (.lo AE .p1 r (.kn 1 2096 r (.condP r hd (λh hd=>?_) λh hd=>?_)))))))
   . exact .sk 1 r (.s1 D5 .p2 r (.no 0 r (.ret λc w ho hs=>Ab8 (js:=[.ret]) 1 (.inr rfl) rf .z (.o [0,0] rfl) ⟨(false,1,x),rfl,rfl,hd⟩ hs)))
   exact .skip' λc w ho hs=>Ab8 0 (.inl rfl) rf .z (.o [0,0] rfl) ⟨(true,0,v),rfl,rfl,hd⟩ hs
 intro G H l' j k;obtain⟨y,rfl,rfl,hd⟩:=k;obtain⟨d,a⟩:=j.u2 b a;refine⟨_,_,r,λhj=>?_,λi hj=>?_⟩
 . have hd:=hd.1 (decide_eq_true hj);exact .rn 4 r (.mkS 16 r r (.drop .p1 (.drop .p2 (.sr (.s1 D5 .p1 r (.no 16 r (.ret (sD .z results254 (.s AE r .z .n) d ⟨(-1),r,hd⟩))))))))
 obtain⟨hz,hd⟩:=hd.2 (decide_eq_false (by omega));obtain rfl:i=0:=by omega
 refine⟨_,r,?_⟩;exact .rn 4 r (.ret (sD .z results254 (.s AE r .p1 .n) d ⟨y.2,r,hd⟩))
theorem cR {a0:List Int} {a1:Int} {Q:Bool->Prop} (R3:RepSl IC I p1 c2 a0) (hd:PY a0 a1 Q) :
  AY prog 218 [.slice p1 a0.length c2,.int .i64 a1] I (λ_=>cI Q):=by
 refine Fun.en func218 ntmps218 r λw0 M=>.sk 1 r (.nk 3 3 r (.spl hd [6,7] r (λd hd=>?_) λd hd=>?_))
 . refine .ks 4 r (.spl hd [9,10,11] r (λe hd=>?_) λe hd=>?_)
   . refine .ks 1 r (.yes r (.ln T3 r (.ks 1 r ?_)));refine .yes r (.callP call171 r (cQ (I:=I) hd:) r r λj g=>?_);obtain⟨k,rfl,hd⟩:=g;refine .ks 3 r (.spl hd [16,17,18] r (λa hd=>?_) λa hd=>?_)
     . refine .ks 2 r ?_;refine .yes r (.callP call254 r (XK R3 hd:) r r λi c=>?_);obtain⟨h,rfl,hd⟩:=c;exact .kn 3 16 r (.r0 results218 r ⟨(decide (h<0)),r,hd⟩)
     exact .kn 6 16 r (.r0 results218 r ⟨false,r,hd⟩)
   exact .kn 13 16 r (.r0 results218 r ⟨false,r,hd⟩)
 exact .kn 17 16 r (.r0 results218 r ⟨false,r,hd⟩)
theorem AcK {a0:Plan} {a1:State} {Q:Bool->Prop} (R3:RepSl AR I p1 c2 a0.Draws) (R5:YF I gi4 a1) (hd:nQ a0 a1 Q) :
  AY prog 166 [.agg (IW a0 p1 c2),.agg (F4 a1 gi4)] I (λ_=>cI Q):=by
 refine Fun.en func166 ntmps166 r λw0 M=>.sr (.bx r λk=>.bx r λl=>.kn 1 12 r (.seq (.sr (.lw JV HT .p1 r (.cq call61 (XI R3 hd:) r λm hd=>.ks 2 r (.spl hd [8,9] r (λb hd=>?_) λb hd=>?_))))))
 . exact .kn 18 134217736 r (.drop .p1 (.condKT r r (.sr (.kn 1 16 r (.drop .z (.r0 results166 r ⟨false,r,hd⟩))))))
 refine .ks 1 r (.yes r (.lo AE .z r (.ks 3 r (.spl hd [12,13,14] r (λc hd=>?_) λc hd=>?_))))
 . exact .kn 13 134217736 r (.drop .p1 (.condKT r r (.sr (.kn 1 16 r (.drop .z (.r0 results166 r ⟨false,r,hd⟩))))))
 refine .ks 1 r (.yes r (.lo AE .z r (.ks 1 r (.yes r (.lo AE .z r (.ks 3 r (.spl hd [19,20,21] r (λd hd=>?_) λd hd=>?_)))))))
 . exact .kn 6 134217736 r (.drop .p1 (.condKT r r (.sr (.kn 1 16 r (.drop .z (.r0 results166 r ⟨false,r,hd⟩))))))
 refine .ks 1 r (.yes r (.lo AE .z r (.ks 1 r (.yes r (.lo AE .p1 r (.kn 2 134217736 r (.drop .p1 (.condP r hd (λe hd=>?_) λe hd=>?_))))))))
 . exact .sr (.kn 1 16 r (.drop .z (.r0 results166 r ⟨false,r,hd⟩)))
 refine .sn 8 r (.sk 1 r (.lo AE .z r (.ks 1 r (.lo AE .z r (.ks 2 r (.nk 40 1 r (.lo DY .z r (.ln D7 r (.ks 3 r (.spl hd [37,38] r (λf hd=>?_) λf hd=>?_))))))))))
 . refine .ks 1 r (.yes r (.lo DY .z r (.yes r (.ln D7 r (.ks 4 r (.spl hd [43,44,45] r (λg hd=>?_) λg hd=>?_))))))
   . refine .ks 1 r (.yes r (.lo MZ .z r (.ks 1 r ?_)));refine .yes r (.callP call218 r (cR R5.2.2 hd:) r r λn i=>?_);obtain⟨j,rfl,hd⟩:=i;exact .kn 2 16 r (.drop .z (.r0 results166 r ⟨j,r,hd⟩))
   exact .kn 6 16 r (.drop .z (.r0 results166 r ⟨false,r,hd⟩))
 exact .kn 13 16 r (.drop .z (.r0 results166 r ⟨false,r,hd⟩))
theorem UQ {a0:Plan} {a1:State} {Q:State->Prop} (R3:RepSl AR I p1 c2 a0.Draws) (R5:YF I gi4 a1) (hd:OM a0 a1 Q) :
  AY prog 124 [.agg (IW a0 p1 c2),.agg (F4 a1 gi4)] I (λI_ v=>∃ r gi6,v=.agg (F4 r gi6)∧YF I_ gi6 r∧Q r):=by
 refine Fun.en func124 ntmps124 r λw0 M=>.sr (.bx r λc=>.bx r λd=>.al IR r λe=>.no 28 r (.seq (.sr (.lw JV HT .p2 r (.lw GL CD .p1 r (.cq call166 (AcK R3 R5 hd:) r λf hd=>.no 152 r (.drop .p2 (.condP r hd (λb hd=>?_) λb hd=>?_))))))))
 . exact .sr (.lw GL CD .p1 r (.sa CD .z r (.no 16 r (.drop .p1 (.ret (B0 r (.w GL CD r .z r .n) rf ⟨a1,gi4,r,R5,hd⟩))))))
 exact .sn 16 r (.drop .p1 (.sr (.bd IR Y4 bI r (.sa CD .z r (.no 16 r (.ret (B0 r (.w GL CD r .z r .n) rf ⟨FH,((_,_),(_,_),(_,_)),r,⟨(.nil _ _ _),(.nil _ _ _),(.nil _ _ _)⟩,hd⟩)))))))
theorem wQ {a0:Int} {Q:Int->Prop} (hd:WN a0 Q) :
  AY prog 167 [.int .u64 a0] I (λ_=>Y9 Q):=by
 refine Fun.en func167 ntmps167 r λw0 M=>.sr (.kn 1 1 r (.scope (.sr (.kn 1 9 r (.seq (.labelS 9 r r (.seq (.block (.lp hd [] [] r (λj E l (c,a)=>j ((0,.int .u64 c) :: (3,.int .i64 a) :: E) l) (ji rf [] r) ?_)))))))));rintro⟨c,a⟩ e hd;refine jq r λf b=>.block (.seq (.sr (.kn 2 41 r (.condP r hd (λd hd=>?_) λd hd=>?_))))
 . exact .en 8 r (.sr (.kn 2 4 r (.r1 results167 r b ⟨a,r,hd⟩)))
 exact .sn 9 r (.sr (.kn 5 9 r (.region (.ks 3 r (.nil' (je (XQ .u64 c (IntKind.wrap .u64 (c - 1)),A6 (a+1)) hd b [] r))))))
theorem cS {a0:List Int} {Q:Int->Prop} (R3:RepSl IC I p1 c2 a0) (hd:PZ a0 Q) :
  AY prog 125 [.slice p1 a0.length c2] I (λ_=>Y9 Q):=by
 refine Fun.en func125 ntmps125 r λw0 M=>.sk 1 r (.nk 1 1 r (.no 9 r (.seq (.sk 1 r (.ln T3 r (.kn 1 456 r (.block (.lp hd [7,6] [] r (λj E l (b,c)=>j ((3,.int .i64 b) :: (8,.int .i64 c) :: E) l) (ji rf [] r) ?_))))))));rintro⟨b,c⟩ h hd;refine jq r λi a=>?_;have R3:=a.u1 R3;refine .sr (.kn 1 968 r (.seq (.condP r hd (λd hd=>?_) λd hd=>?_)))
 . refine .sn 456 r (.seq (.block (.sr ?_)));obtain⟨k,o,e,p,o51,m,f,hd⟩:=R3.ix hd;exact .ixb T3 KX m k e r (.ldb 0 GY f r (.kn 1 488 r (.region (.ks 2 r (.cq call167 (wQ (I:=i) hd:) r λn hd=>.kn 2 456 r (.region (.ks 2 r (.nil' (je (A6 (b+n),A6 (c+1)) hd a [] r)))))))))
 exact .en 8 r (.sr (.kn 2 4 r (.r1 results125 r a ⟨b,r,hd⟩)))
theorem AaL {a0:Plan} {a1:State} {a2:Int} {Q:Int->Prop} (R3:RepSl AR I p1 c2 a0.Draws) (R5:YF I gi4 a1) (hd:aB a0 a1 a2 Q) :
  AY prog 78 [.agg (IW a0 p1 c2),.agg (F4 a1 gi4),.int .i64 a2] I (λ_=>Y9 Q):=by
 refine Fun.en func78 ntmps78 r λw0 M=>?_;refine .sr (.bx r λB=>.bx r λC=>?_);refine .ks 1 r (.ns 28 r (.lw JV HT .p1 r (.lw GL CD .z r (.call call124 r (UQ R3 R5 hd:) r r λD F a g=>?_))));obtain⟨G,A,rfl,b,hd⟩:=g;obtain⟨R3,R5⟩:=a.u2 R3 R5;refine .sa CD .z r (.no 28 r (.seq (.sk 1 r (.lo XB .p1 r (.no 16412 r (.block (.sr (.kn 2 49180 r (.condP r hd (λh hd=>?_) λh hd=>?_)))))))))
 . refine .sk 2 r (.lo AE .p1 r (.kn 1 1048592 r (.drop .p1 (.condP r hd (λi hd=>?_) λi hd=>?_))))
   . exact .sr (.kn 1 64 r (.drop .z (.r1 results78 r a ⟨0,r,hd⟩)))
   exact .sn 16 r (.sk 1 r (.lo MZ .z r (.cq call125 (cS b.2.2 hd:) r λu hd=>.kn 1 64 r (.drop .z (.r1 results78 r a ⟨u,r,hd⟩)))))
 refine .sr (.kn 2 2097168 r (.drop .p1 (.condP r hd (λm hd=>?_) λm hd=>?_)))
 . refine .sr (.kn 1 144 r (.seq (.sk 1 r (.lo DY .z r (.ln D7 r (.kn 1 117440640 r (.drop .z (.block (.lp hd [25,24] [] r (λj E l (c,e)=>j ((7,.int .i64 c) :: (26,.int .i64 e) :: E) l) (ji rf [] r) ?_)))))))));rintro⟨c,e⟩ v hd;refine jq r λH d=>?_;obtain⟨n,b⟩:=d.u2 a b;refine .sr (.kn 1 251658368 r (.seq (.condP r hd (λo hd=>?_) λo hd=>?_)))
   . refine .sn 117440640 r (.seq (.block (.sr ?_)));obtain⟨w,J,p,K,o81,x,q,hd⟩:=b.1.ix hd;refine .ixb D7 bK x w p r (.ldb 0 O7 q r (.ks 1 r (.nk 117441152 2 r (.no 2264924288 r (.condP r hd (λs hd=>?_) λs hd=>?_)))))
     . exact .region (.kn 3 117440640 r (.region (.ks 2 r (.nil' (je (A6 (c+1),A6 (e+1)) hd d [] r)))))
     exact .sn 117440640 r (.region (.ks 2 r (.nil' (je (c,A6 (e+1)) hd d [] r))))
   exact .en 128 r (.sr (.kn 2 64 r (.r1 results78 r n ⟨c,r,hd⟩)))
 exact .sn 16 r (.sk 1 r (.lo MZ .z r (.cq call125 (cS b.2.2 hd:) r λy hd=>.kn 1 64 r (.drop .z (.r1 results78 r a ⟨y,r,hd⟩)))))
theorem wR {a0 a1 a2:Int} {Q:Int->Prop} (hd:dB a0 a1 a2 Q) :
  AY prog 168 [.int .i64 a0,.int .i64 a1,.int .i64 a2] I (λ_=>Y9 Q):=by
 refine Fun.en func168 ntmps168 r λw0 M=>.sr (.kn 1 7 r (.seq (.sk 1 r (.cq call42 (ZI (I:=I) hd:) r λg hd=>.ks 2 r (.spl hd [9,10] r (λb hd=>?_) λb hd=>?_)))))
 . exact .kn 16 67108871 r (.condKT r r (.sr (.kn 1 64 r (.r0 results168 r ⟨(-1),r,hd⟩))))
 refine .ks 4 r (.spl hd [12,13,14] r (λc hd=>?_) λc hd=>?_)
 . exact .kn 12 67108871 r (.condKT r r (.sr (.kn 1 64 r (.r0 results168 r ⟨(-1),r,hd⟩))))
 refine .ks 4 r (.spl hd [16,17,18] r (λd hd=>?_) λd hd=>?_)
 . exact .kn 8 67108871 r (.condKT r r (.sr (.kn 1 64 r (.r0 results168 r ⟨(-1),r,hd⟩))))
 refine .ks 4 r (.spl hd [20,21,22] r (λe hd=>?_) λe hd=>?_)
 . exact .kn 4 67108871 r (.condKT r r (.sr (.kn 1 64 r (.r0 results168 r ⟨(-1),r,hd⟩))))
 refine .kn 4 67108871 r (.condP r hd (λf hd=>?_) λf hd=>?_)
 . exact .sr (.kn 1 64 r (.r0 results168 r ⟨(-1),r,hd⟩))
 exact .sn 7 r (.sr (.kn 6 64 r (.r0 results168 r ⟨(A6 ((A6 (a1*a0))+a2)),r,hd⟩)))
theorem eA {a0 a1:Int} {Q:Int->Prop} (hd:VN a0 a1 Q) :
  AY prog 16 [.int .i64 a0,.int .i64 a1] I (λ_=>Y9 Q):=by
 refine Fun.en func16 ntmps16 r λw0 M=>.sr (.kn 1 3 r (.seq (.sk 1 r (.cq call42 (ZI (I:=I) hd:) r λf hd=>.ks 2 r (.spl hd [7,8] r (λb hd=>?_) λb hd=>?_)))))
 . exact .kn 9 131075 r (.condKT r r (.sr (.kn 1 16 r (.r0 results16 r ⟨(-1),r,hd⟩))))
 refine .ks 4 r (.spl hd [10,11,12] r (λc hd=>?_) λc hd=>?_)
 . exact .kn 5 131075 r (.condKT r r (.sr (.kn 1 16 r (.r0 results16 r ⟨(-1),r,hd⟩))))
 refine .kn 5 131075 r (.condP r hd (λd hd=>?_) λd hd=>?_)
 . exact .sr (.kn 1 16 r (.r0 results16 r ⟨(-1),r,hd⟩))
 refine .sn 3 r (.sk 2 r ?_);obtain⟨e,hd⟩:=hd;exact .quo r r e r r (.kn 1 16 r (.r0 results16 r ⟨(A6 (a1.tdiv a0)),r,hd⟩))
theorem TA {a0 a1:Int} {Q:Int->Prop} (hd:Q3 a0 a1 Q) :
  AY prog 17 [.int .i64 a0,.int .i64 a1] I (λ_=>Y9 Q):=by
 refine Fun.en func17 ntmps17 r λw0 M=>.sr (.kn 1 3 r (.seq (.sk 2 r (.cq call16 (eA (I:=I) hd:) r λd hd=>.kn 1 259 r (.condP r hd (λb hd=>?_) λb hd=>?_)))))
 . exact .sr (.kn 1 16 r (.r0 results17 r ⟨(-1),r,hd⟩))
 refine .sn 3 r (.sk 2 r ?_);obtain⟨c,hd⟩:=hd;exact .rem r r c r r (.kn 1 16 r (.r0 results17 r ⟨(a1.tmod a0),r,hd⟩))
theorem FT {a0:List Int} {Q:(List Int)->Prop} (R3:RepSl IC I p1 c2 a0) (hd:BJ a0 Q) :
  AY prog 30 [.slice p1 a0.length c2] I (AnQ Q):=by
 refine Fun.en func30 ntmps30 r λw0 M=>.sr (.kn 1 1 r (.seq (.sk 1 r (.eqNilS T3 r r r r (.no 17 r ?_)))));refine split p1.isNone (λa=>?_) (λa=>?_)
 . have hd:=hd.1 (RepSl.ofNone R3 a);exact .condKT r a (.sr (.kn 1 4 r (.r0 results30 r ⟨([]:List Int),_,_,r,(.nil _ _ _),hd⟩)))
 have hd:=hd.2;refine .condKF r a (.sn 1 r (.sr (.bs 0 T3 KX zeroValue83 r λh=>.ks 1 r (.ownB (El:=IC) (ys:=([]:List Int)) .z .nil r ?_))));obtain⟨b,hd⟩:=hd;exact .append (ys:=a0) 8 .z T3 T3 AnC r r r r r r r r r (.imm R3 r) b r r λe f=>.kn 1 4 r (.pub .z λg c d=>.r1 results30 r c ⟨(([]:List Int)++a0),_,_,r,d,hd⟩)
theorem eC {o0:Nat} {o1 o2:List Int} {Y:Nat->(List Int)->Int->((Bool×Nat×(List Int))->Prop)->Prop} {Q:(Nat×(List Int))->Prop} (hY:∀ {J_:IH},I.le J_->∀ {y13:Nat} {y14:List Int} {x20:Int} {p16:Option Addr} {c17:Nat} {Qy:(Bool×Nat×(List Int))->Prop},Y y13 y14 x20 Qy->RFun prog lr [.int .i64 x20] J_ [Rr y13,pto b4 (.cells #[.slice p16 y14.length c17] 88 (0,0)),OwnSl AR 3 p16 c17 y14] (λI_ v l=>∃ r p22 c23,v=.bool r.1∧l=[Rr r.2.1,pto b4 (.cells #[.slice p22 r.2.2.length c23] 88 (0,0)),OwnSl AR 3 p22 c23 r.2.2]∧Qy r)) (R12:RepSl IC I p10 c11 o2) (hd:ON o0 o1 o2 Y Q) :
  Fun prog 170 #[.func (.yield lr) #[] #[],.pointer (some ⟨b9,0,none⟩)] I [Rr o0,pto b4 (.cells #[.slice p5 o1.length c6] 88 (0,0)),OwnSl AR 3 p5 c6 o1,pto b9 (.cells #[.slice p10 o2.length c11] 46 (0,0))] (λI_ v l=>∃ r p14 c15,v=.tuple #[]∧l=[Rr r.1,pto b4 (.cells #[.slice p14 r.2.length c15] 88 (0,0)),OwnSl AR 3 p14 c15 r.2,pto b9 (.cells #[.slice p10 o2.length c11] 46 (0,0))]∧Q r):=by
 refine Fun.en func170 ntmps170 r λw0 M=>.sr (.lo MZ .p3 r (.ln T3 r (.kn 1 451 r (.block (.lx hd [7,6,1,0] [3] r (λj E l (e,q,s)=>λc w=>∃ t u,j ⟨31,[],none⟩ (λI_=>True) ((8,.int .i64 q) :: E) (pto b4 (.cells #[.slice t e.length u] 88 (0,0)) :: OwnSl AR 3 t u e :: Rr s :: l) c w) (λc w ho hs=>⟨_,_,jf rf tv [1,1,0,0] r ho hs⟩) ?_)))));rintro⟨e,q,s⟩ O hd c w ⟨t,u,R,f,_,hok,hsym⟩;have R12:=f.u1 R12;refine Cod.at hok hsym (.sr (.kn 1 963 r (.seq (.condP r hd (λx hd=>?_) λx hd=>?_))))
 . refine .sn 451 r (.seq (.block (.sk 1 r ?_)));obtain⟨K,S,y,T,o275,L,z,hd⟩:=R12.ix hd;refine .ixb T3 KX L K y r (.ldb 0 GY z r (.ks 2 r (.nk 475 1 r (.shl' r r (by decide) r r (.kn 1 499 r (.block (.lx hd [8,7,6,1,0] [3] r (λj E l (a,g,b,d)=>λc w=>∃ h i,j ⟨31,[],none⟩ (λI_=>True) ((4,.int .u64 g) :: (5,.int .i64 b) :: E) (pto b4 (.cells #[.slice h a.length i] 88 (0,0)) :: OwnSl AR 3 h i a :: Rr d :: l) c w) (λc w ho hs=>⟨_,_,jf rf tv [0,0,0,0] r ho hs⟩) ?_)))))));rintro⟨a,g,b,d⟩ P hd c w ⟨h,i,N,k,_,hok,hsym⟩;obtain⟨m,R12⟩:=k.u2 f R12;refine Cod.at hok hsym (.seq (.sr (.kn 2 66035 r (.condP r hd (λA hd=>?_) λA hd=>?_))))
   . refine .sn 499 r (.seq (.block (.sk 4 r (.spl hd [23,24] r (λB hd=>?_) λB hd=>?_))))
     . refine .ks 2 r ?_;have C:=hY (J_:=N) m (y13:=d) (y14:=a) (x20:=b) (p16:=h) (c17:=i) hd;refine .yes r (.callY r r (.o [2,0,0] r) C r r λU V W D F=>?_);obtain⟨p,X,Z,rfl,rfl,hd⟩:=F;obtain⟨G,H,R12⟩:=D.u3 m k R12;refine .rn 4 r (.kn 2 536871411 r (.condP r hd (λJ hd=>?_) λJ hd=>?_))
       . exact .ret (CT r .n G (.o [0,0,0,0] r) ⟨(p.2.1,p.2.2),_,_,r,r,hd⟩)
       exact .sn 499 r (.region (.ks 1 r (.shr' r r (by decide) r r (.ks 4 r (.nil' λc w ho hs=>⟨(p.2.2,shr .u64 g 1,A6 (b+1),p.2.1),hd,_,_,jf H tv [1,1,0,0] r ho hs⟩)))))
     exact .kn 5 536871411 r (.condKF r r (.sn 499 r (.region (.ks 1 r (.shr' r r (by decide) r r (.ks 4 r (.nil' λc w ho hs=>⟨(a,shr .u64 g 1,A6 (b+1),d),hd,_,_,jf k tv [0,0,0,0] r ho hs⟩)))))))
   exact .en 451 r (.region (.ks 2 r (.nil' λc w ho hs=>⟨(a,A6 (q+1),d),hd,_,_,jf m tv [0,0,0,0] r ho hs⟩)))
 exact .exit (HG r .n f (.o [2,0,0,0] r) ⟨(s,e),_,_,r,r,hd⟩)
theorem PF {o0:List Int} {Q:(List Int)->Prop} (R5:RepSl IC I p3 c4 o0) (hd:FQ o0 Q) :
  Fun prog 169 #[.slice none 0 0,.func (.func 170) #[] #[.pointer (some ⟨b2,0,none⟩)]] I [pto b2 (.cells #[.slice p3 o0.length c4] 46 (0,0))] (λI_ v l=>∃ r p6 c7,v=.slice p6 r.length c7∧RepSl AR I_ p6 c7 r∧l=[pto b2 (.cells #[.slice p3 o0.length c4] 46 (0,0))]∧Q r):=by
 refine Fun.en func169 ntmps169 r λw0 M=>.marks0 (.sr (.box1 r r r r λm=>.kn 1 6 r (.seq (.sr (.kn 1 70 r (.block (.own0 AR 3 (.rangeF [] r call170 (.o [2,1,0,0] r) λlr D rc hrc=>?_))))))));refine⟨_,eC (I:=I) (lr:=lr) (Rr:=bD lr [] rc) (o0:=0) (o1:=([]:List Int)) (o2:=o0) (b4:=m) (p5:=none) (c6:=0) (b9:=b2) (p10:=p3) (c11:=c4) ?_ R5 hd,?_⟩
 . intro I hJ p h b q s Qy  hd
   replace R5:=hJ.u1 R5
   obtain⟨rfl,hd⟩:=hd;refine RFun.mk hrc r λw0 M=>.region (.ks 1 r (.nil' λc w ho hs=>nM (E':=[(2,_),(5,_)]) ho ⟨r,r,tv⟩ hs .z (.block (.region (.lo EM .p1 r (.ks 1 r (.bs 1 BB D5 kA r λu=>?_)))))));obtain⟨d,hd⟩:=hd;exact .append (ys:=[b]) 8 .p3 BB BB IN3 r r r r r r r r r (.box .z (.one r) r) d r r λx y=>.s1 sizeOf88 .p3 r (.nil' λc w ho hs=>Ab8 0 (.inl rfl) rf .p2 (.o [2,0] rfl) ⟨(true,0,(h++([b]))),_,_,rfl,rfl,hd⟩ hs)
 intro A B l' a e;obtain⟨j,C,E,rfl,rfl,hd⟩:=e;have R5:=a.u1 R5;obtain⟨hz,hd⟩:=hd;refine⟨_,_,r,λhj=>?_,λi hj=>absurd (hz.symm.trans hj) (by simp)⟩;refine .rn 4 r (.mkS 6 r r (.sr (.lo EM .p1 r (.kn 1 18 r (.drop .p1 (.pub .p1 λF f k=>?_))))));obtain⟨g,R5⟩:=f.u2 a R5;exact .ret (Al4 .z results169 (.t r .n) g (.o [0] r) ⟨j.2,_,_,r,k,r,hd⟩)
theorem V7 {o0:List Int} {Q:(List Int)->Prop} (R5:RepSl IC I p3 c4 o0) (hd:II o0 Q) :
  Fun prog 127 #[.func (.func 170) #[] #[.pointer (some ⟨b2,0,none⟩)]] I [pto b2 (.cells #[.slice p3 o0.length c4] 46 (0,0))] (λI_ v l=>∃ r p6 c7,v=.slice p6 r.length c7∧RepSl AR I_ p6 c7 r∧l=[pto b2 (.cells #[.slice p3 o0.length c4] 46 (0,0))]∧Q r):=by
 refine Fun.en func127 ntmps127 r λw0 M=>?_;refine .sk 1 r (.nk 1 1 r ?_);refine .callS (.f call169 r) (.o [0] r) (PF (b2:=b2) R5 hd:) r r λg k h a c=>?_;obtain⟨d,i,j,rfl,e,rfl,hd⟩:=c;have R5:=a.u1 R5;exact .rn 1 r (.kn 1 5 r (.q1 results127 a [0] r ⟨d,_,_,r,e,r,hd⟩))
theorem iK {a0:List Int} {Q:(List Int)->Prop} (R3:RepSl IC I p1 c2 a0) (hd:SG a0 Q) :
  AY prog 81 [.slice p1 a0.length c2] I (o7_ Q):=by
 refine Fun.en func81 ntmps81 r λw0 M=>?_;refine .sk 1 r (.nk 1 1 r ?_);refine .callS (.f call128 r) .n (WC R3 hd:) r r λm A p b c=>?_;obtain⟨q,j,s,t,rfl,a,rfl,hd⟩:=c;have R3:=b.u1 R3;refine .rn 1 r ?_;refine .callS (.f call127 r) (.o [0] r) (V7 (b2:=j) a hd:) r r λu v w e g=>?_;obtain⟨k,x,y,rfl,l,rfl,hd⟩:=g;obtain⟨h,R3,a⟩:=e.u3 b R3 a;exact .rn 1 r (.kn 1 4 r (.drop .z (.r1 results81 r h ⟨k,_,_,r,l,hd⟩)))
theorem BF {a0:List AM} {Q:(List AM)->Prop} (R3:RepSl BM I p1 c2 a0) (hd:AP a0 Q) :
  uI prog 132 [.slice p1 a0.length c2] I (λI_ v l=>∃ r p4 c5,v=.slice p4 r.length c5∧l=[OwnSl BM 184 p4 c5 r]∧Q r):=by
 refine Fun.en func132 ntmps132 r λw0 M=>.sr (.kn 1 1 r (.seq (.sk 1 r (.eqNilS DM r r r r (.no 17 r ?_)))));refine split p1.isNone (λa=>?_) (λa=>?_)
 . have hd:=hd.1 (RepSl.ofNone R3 a);exact .condKT r a (.sr (.kn 1 4 r (.own0 BM 184 (.q1 results132 rf [0] r ⟨([]:List AM),_,_,r,r,hd⟩))))
 have hd:=hd.2;refine .condKF r a (.sn 1 r (.sr (.bs 0 DM D8 KF r λc=>.ks 1 r (.ownB (El:=BM) (ys:=([]:List AM)) .z .nil r ?_))));obtain⟨b,hd⟩:=hd;exact .append (ys:=a0) 16 .z DM DM pP r r r r r r r r r (.imm R3 r) b r r λd e=>.kn 1 4 r (.q1 results132 rf [0] r ⟨(([]:List AM)++a0),_,_,r,r,hd⟩)
theorem HV {a0:List B8} {Q:(List B8)->Prop} (R3:RepSl EA I p1 c2 a0) (hd:CQ a0 Q) :
  AY prog 133 [.slice p1 a0.length c2] I (λI_ v=>∃ r p4 c5,v=.slice p4 r.length c5∧RepSl EA I_ p4 c5 r∧Q r):=by
 refine Fun.en func133 ntmps133 r λw0 M=>.sr (.kn 1 1 r (.seq (.sk 1 r (.eqNilS DZ r r r r (.no 17 r ?_)))));refine split p1.isNone (λa=>?_) (λa=>?_)
 . have hd:=hd.1 (RepSl.ofNone R3 a);exact .condKT r a (.sr (.kn 1 4 r (.r0 results133 r ⟨([]:List B8),_,_,r,(.nil _ _ _),hd⟩)))
 have hd:=hd.2;refine .condKF r a (.sn 1 r (.sr (.bs 0 DZ EW cJ r λh=>.ks 1 r (.ownB (El:=EA) (ys:=([]:List B8)) .z .nil r ?_))));obtain⟨b,hd⟩:=hd;exact .append (ys:=a0) 24 .z DZ DZ Aa3 r r r r r r r r r (.imm R3 r) b r r λe f=>.kn 1 4 r (.pub .z λg c d=>.r1 results133 r c ⟨(([]:List B8)++a0),_,_,r,d,hd⟩)
theorem wS {a0:AA} {Q:AA->Prop} (R2:iW I gj1 a0) (hd:WO a0 Q) :
  AY prog 84 [.agg (GB a0 gj1)] I (AnR Q):=by
 refine Fun.en func84 ntmps84 r λw0 M=>?_;refine .sr (.bx r λC=>.al H3 r λt=>?_);refine .no 6 r (.seq (.dr [0,1,2,4,5,3,7,8,6,9] 10 (.fk 2 r (.hl GZ 1 r (.fk 1 r (.hl IZ 1 r (.ww r (.callO call132 r (BF R2.1 hd:) r r λu v x a d=>?_))))))));obtain⟨k,l,m,rfl,rfl,hd⟩:=d;have R2:=a.u1 R2;refine .so 3 r r r (.ch r (.lo IZ .p2 r .mk) (.ck 1 r r tv)) (.fk 2 r (.ww r ?_));refine .call call133 r (HV R2.2.1 hd:) r r λy A f g=>?_;obtain⟨o,p,q,rfl,b,hd⟩:=g;obtain⟨h,R2⟩:=f.u2 a R2;refine .so 3 r r r (.ck 2 r r tv) (.ww r (.s1 sizeOf116 .p2 r (.sn 3 r r r tv (.e2 10 (.ks 1 r (.s1 Y0 .p2 r (.ns 6 r (.lw EY BX .p2 r (.sa BX .p1 r (.no 4 r (.drop .p2 (.pub .z λB i s=>?_))))))))))));obtain⟨j,R2,b⟩:=i.u3 h R2 b;exact .ret (B0 r (.w EY BX r .z r .n) j ⟨({ a0 with Vec:=({ N:=a0.Vec.N,Items:=k }:Vec),Sums:=o }:AA),((l,m),(p,q),gj1.2.2),r,⟨s,b,R2.2.2⟩,hd⟩)
theorem LF {a0:List A3} {Q:(List A3)->Prop} (R3:RepSl ID I p1 c2 a0) (hd:CL a0 Q) :
  AY prog 134 [.slice p1 a0.length c2] I (λI_ v=>∃ r p4 c5,v=.slice p4 r.length c5∧RepSl ID I_ p4 c5 r∧Q r):=by
 refine Fun.en func134 ntmps134 r λw0 M=>.sr (.kn 1 1 r (.seq (.sk 1 r (.eqNilS MQ r r r r (.no 17 r ?_)))));refine split p1.isNone (λa=>?_) (λa=>?_)
 . have hd:=hd.1 (RepSl.ofNone R3 a);exact .condKT r a (.sr (.kn 1 4 r (.r0 results134 r ⟨([]:List A3),_,_,r,(.nil _ _ _),hd⟩)))
 have hd:=hd.2;refine .condKF r a (.sn 1 r (.sr (.bs 0 MQ QT ZB r λh=>.ks 1 r (.ownB (El:=ID) (ys:=([]:List A3)) .z .nil r ?_))));obtain⟨b,hd⟩:=hd;exact .append (ys:=a0) 24 .z MQ MQ Ae7 r r r r r r r r r (.imm R3 r) b r r λe f=>.kn 1 4 r (.pub .z λg c d=>.r1 results134 r c ⟨(([]:List A3)++a0),_,_,r,d,hd⟩)
theorem qG {a0:AA} {Q:AA->Prop} (R2:iW I gj1 a0) (hd:YJ a0 Q) :
  AY prog 87 [.agg (GB a0 gj1)] I (AnR Q):=by
 refine Fun.en func87 ntmps87 r λw0 M=>?_;refine .sr (.bx r λP=>.al H3 r λv=>?_);refine .nk 6 2 r (.lo GZ .p1 r (.callO call132 r (BF R2.1 hd:) r r λx y A b e=>?_));obtain⟨q,B,C,rfl,rfl,hd⟩:=e;have R2:=b.u1 R2;refine .ks 2 r (.s1 sizeOf116 .p2 r (.nk 6 1 r (.lo IZ .p2 r ?_)));refine .call call133 r (HV R2.2.1 hd:) r r λD E g h=>?_;obtain⟨s,F,G,rfl,a,hd⟩:=h;obtain⟨i,R2⟩:=g.u2 b R2;refine .ks 1 r (.s1 Y0 .p2 r (.nk 6 1 r (.lo isAgg119 .p2 r ?_)));refine .call call134 r (LF R2.2.2 hd:) r r λH J k l=>?_;obtain⟨t,K,L,rfl,c,hd⟩:=l;obtain⟨m,R2,a⟩:=k.u3 i R2 a;refine .ks 1 r (.s1 sizeOf119 .p2 r (.ns 6 r (.lw EY BX .p2 r (.sa BX .p1 r (.no 4 r (.drop .p2 (.pub .z λO o u=>?_)))))));obtain⟨p,a,c⟩:=o.u3 m a c;exact .ret (B0 r (.w EY BX r .z r .n) p ⟨({ a0 with Vec:=({ N:=a0.Vec.N,Items:=q }:Vec),Sums:=s,Triples:=t }:AA),((_,_),(_,_),(_,_)),r,⟨u,a,c⟩,hd⟩)
theorem bS {a0 a1:Int×Int} {Q:Int->Prop} (hd:N9 a0 a1 Q) :
  AY prog 51 [.agg #[.int .i64 a0.1,.int .i64 a0.2],.agg #[.int .i64 a1.1,.int .i64 a1.2]] I (λ_=>Y9 Q):=by
 refine Fun.en func51 ntmps51 r λw0 M=>.sr (.bx r λn=>.bx r λp=>?_);refine .kn 1 12 r (.seq (.dr [0,1,2,3,5,6,7,8,4,9,10,11] 12 (.h r (.ixArr (i:=0) pT D5 r r (by decide) (o:=0) r r r .mk) (.hl AE 1 r (.h r (.ixArr (i:=0) pT D5 r r (by decide) (o:=0) r r r .mk) (.hl AE 0 r (.h r (.ixArr (i:=1) pT D5 r r (by decide) (o:=1) r r r .mk) (.hl AE 1 r (.h r (.ixArr (i:=1) pT D5 r r (by decide) (o:=1) r r r .mk) (.hl AE 0 r (.ww r ?_)))))))))));refine .cq call53 (D4 (I:=I) hd:) r λf hd=>.so 2 r r r (.ch r (.lo AE .z r .mk) (.ch r (.ixArr (i:=1) pT D5 r r (by decide) (o:=1) r r r .mk) (.ch r (.lo AE .p1 r .mk) (.ch r (.ixArr (i:=1) pT D5 r r (by decide) (o:=1) r r r .mk) tv)))) (.ww r (.cq call53 (D4 (I:=I) hd:) r λa hd=>.so 2 r r r tv (.ww r (.bs 2 BB D5 kA r λl=>?_))));exact .so 3 r r r tv (.ww r (.pubB (El:=AR) (ys:=([f,a]:List Int)) (k:=2) .z (RepCs.cons (cs:=[.int .i64 f]) r (RepCs.cons (cs:=[.int .i64 a]) r .nil)) r λm d g=>.cq call52 (L3 g hd:) r λj hd=>.so 2 r r r tv (.e2 12 (.kn 1 16 r (.drop .z (.drop .z (.r1 results51 r d ⟨j,r,hd⟩)))))))
theorem qH {a0 a1:Int} {Q:Bool->Prop} (hd:RG a0 a1 Q) :
  AY prog 220 [.int .i64 a0,.int .i64 a1] I (λ_=>cI Q):=by
 refine Fun.en func220 ntmps220 r λw0 M=>.sk 1 r (.nk 3 3 r (.spl hd [6,7] r (λa hd=>?_) λa hd=>?_))
 . exact .kn 5 16 r (.r0 results220 r ⟨(decide (a0<=a1)),r,hd⟩)
 exact .kn 5 16 r (.r0 results220 r ⟨false,r,hd⟩)
theorem bT {o0:Int} {o1:Vec} {a0:AM} {Q:(Bool×Int)->Prop} (R7:RepSl BM I p5 c6 o1.Items) (hd:NA o0 o1 a0 Q) :
  Fun prog 222 #[.agg (U2 a0).toArray,.pointer (some ⟨b3,0,none⟩),.pointer (some ⟨b4,0,none⟩)] I [pto b3 (.cells #[.int .i64 o0] 3 (0,0)),pto b4 (.cells #[.int .i64 o1.N,.slice p5 o1.Items.length c6] 118 (0,0))] (λI_ v l=>∃ r,v=.bool r.1∧l=[pto b3 (.cells #[.int .i64 r.2] 3 (0,0)),pto b4 (.cells #[.int .i64 o1.N,.slice p5 o1.Items.length c6] 118 (0,0))]∧Q r):=by
 refine Fun.en func222 ntmps222 r λw0 M=>.sr (.bx r λb=>.ks 1 r (.nk 14 1 r (.lo AE .z r (.lo AE .p1 r (.ks 2 r (.spl hd [9,10] r (λa hd=>?_) λa hd=>?_))))))
 . exact .ks 7 r (.nk 46 1 r (.lo AE .z r (.s1 D5 .p1 r (.no 38 r (.drop .z (.sr (.kn 2 22 r (.q1 results222 rf [0,0] r ⟨(true,a0.At),r,r,hd⟩))))))))
 exact .ks 1 r (.yes r (.lo AE .z r (.ks 1 r (.yes r (.lo AE .p2 r (.ks 3 r (.nk 46 1 r (.lo AE .z r (.s1 D5 .p1 r (.no 38 r (.drop .z (.sr (.kn 2 22 r (.q1 results222 rf [0,0] r ⟨(decide (o1.N<=a0.At),a0.At),r,r,hd⟩))))))))))))))
theorem JH {o0:Int} {o1:Vec} {a0:List AM} {Q:(Int×Int)->Prop} (R7:RepSl BM I p5 c6 o1.Items) (R10:RepSl BM I p8 c9 a0) (hd:DF o0 o1 a0 Q) :
  Fun prog 255 #[.slice p8 a0.length c9,.func (.func 222) #[] #[.pointer (some ⟨b3,0,none⟩),.pointer (some ⟨b4,0,none⟩)]] I [pto b3 (.cells #[.int .i64 o0] 3 (0,0)),pto b4 (.cells #[.int .i64 o1.N,.slice p5 o1.Items.length c6] 118 (0,0))] (λI_ v l=>∃ r,v=.int .i64 r.1∧l=[pto b3 (.cells #[.int .i64 r.2] 3 (0,0)),pto b4 (.cells #[.int .i64 o1.N,.slice p5 o1.Items.length c6] 118 (0,0))]∧Q r):=by
 refine Fun.en func255 ntmps255 r λw0 M=>.sr (.kn 1 3 r (.seq (.sk 1 r (.ln DM r (.kn 1 387 r (.block (.lp hd [7,1,0] [1] r (λj E l (e,d)=>j ((8,.int .i64 d) :: E) (pto b3 (.cells #[.int .i64 e] 3 (0,0)) :: l)) (ji rf [0,0] r) ?_)))))));rintro⟨e,d⟩ q hd;refine jq r λu a=>?_;obtain⟨R7,R10⟩:=a.u2 R7 R10;refine .sr (.kn 1 899 r (.seq (.condP r hd (λh hd=>?_) λh hd=>?_)))
 . refine .sn 387 r (.seq (.block (.sk 2 r (.nk 419 3 r ?_))));obtain⟨s,w,i,x,o70,t,b,hd⟩:=R10.ix hd;refine .ixb DM D8 t s i r (.ldW T5 D8 b r r r r ?_);refine .callS (.c call222 r r) (.o [0,0] r) (bT (b3:=b3) (b4:=b4) R7 hd:) r r λy z A m n=>?_;obtain⟨g,rfl,rfl,hd⟩:=n;obtain⟨f,R7,R10,b⟩:=m.u4 a R7 R10 b;refine .rn 2 r (.no 65955 r (.condP r hd (λp hd=>?_) λp hd=>?_))
   . exact .sr (.kn 2 18 r (.q1 results255 f [0,0] r ⟨(d,g.2),r,r,hd⟩))
   exact .sn 387 r (.region (.ks 2 r (.nil' (je (g.2,A6 (d+1)) hd f [0,0] r))))
 exact .en 2 r (.sr (.kn 1 18 r (.q1 results255 a [0,0] r ⟨((-1),e),r,r,hd⟩)))
theorem I4 {o0:Int} {o1:Vec} {a0:List AM} {Q:(Bool×Int)->Prop} (R7:RepSl BM I p5 c6 o1.Items) (R10:RepSl BM I p8 c9 a0) (hd:CR o0 o1 a0 Q) :
  Fun prog 221 #[.slice p8 a0.length c9,.func (.func 222) #[] #[.pointer (some ⟨b3,0,none⟩),.pointer (some ⟨b4,0,none⟩)]] I [pto b3 (.cells #[.int .i64 o0] 3 (0,0)),pto b4 (.cells #[.int .i64 o1.N,.slice p5 o1.Items.length c6] 118 (0,0))] (λI_ v l=>∃ r,v=.bool r.1∧l=[pto b3 (.cells #[.int .i64 r.2] 3 (0,0)),pto b4 (.cells #[.int .i64 o1.N,.slice p5 o1.Items.length c6] 118 (0,0))]∧Q r):=by
 refine Fun.en func221 ntmps221 r λw0 M=>?_;refine .sk 1 r (.nk 3 2 r ?_);refine .callS (.f call255 r) (.o [0,0] r) (JH (b3:=b3) (b4:=b4) R7 R10 hd:) r r λe g h a d=>?_;obtain⟨b,rfl,rfl,hd⟩:=d;obtain⟨R7,R10⟩:=a.u2 R7 R10;exact .rn 2 r (.kn 2 18 r (.q1 results221 a [0,0] r ⟨(decide (0<=b.1),b.2),r,r,hd⟩))
theorem FB {a0:Vec} {Q:Bool->Prop} (R3:RepSl BM I p1 c2 a0.Items) (hd:EN a0 Q) :
  AY prog 177 [.agg #[.int .i64 a0.N,.slice p1 a0.Items.length c2]] I (λ_=>cI Q):=by
 refine Fun.en func177 ntmps177 r λw0 M=>.sr (.bx r λi=>.kn 1 2 r (.seq (.sk 1 r (.lo AE .z r (.cq call220 (qH (I:=I) hd:) r λj hd=>.kn 1 130 r (.condP r hd (λc hd=>?_) λc hd=>?_))))))
 . exact .sr (.kn 1 4 r (.drop .z (.r0 results177 r ⟨false,r,hd⟩)))
 refine .sn 2 r (.sr (.alloc1 kA r r r λg=>?_));refine .s1 D5 .z r (.nk 10 1 r (.lo GZ .p1 r (.mkFn r r r r ?_)));refine .callS (.f call221 r) (.o [0,0] r) (I4 (b3:=g) (b4:=i) R3 R3 hd:) r r λk l m a e=>?_;obtain⟨h,rfl,rfl,hd⟩:=e;have R3:=a.u1 R3;exact .rn 2 r (.kn 2 4 r (.drop .z (.drop .z (.r1 results177 r a ⟨(!h.1),r,hd⟩))))
theorem Y1 {a0:AA} {a1:Int} {Q:(Vec×Bool)->Prop} (R2:iW I gj1 a0) (hd:LH a0 a1 Q) :
  AY prog 146 [.agg (GB a0 gj1),.int .i64 a1] I (λI_ v=>∃ r p3 c4,v=.tuple #[.agg #[.int .i64 r.1.N,.slice p3 r.1.Items.length c4],.bool r.2]∧RepSl BM I_ p3 c4 r.1.Items∧Q r):=by
 refine Fun.en func146 ntmps146 r λw0 M=>?_;refine .sr (.bx r λB=>.al BN r λC=>?_);refine .kn 1 22 r (.seq (.dr [0,1,2,3,4,5,8,6,7,999] 9 (.fk 2 r (.hl AE 1 r (.fk 2 r (.hl GZ 1 r (.aP BN r (.ww r (.callO call132 r (BF R2.1 hd:) r r λD s E d i=>?_)))))))));obtain⟨e,u,x,rfl,rfl,hd⟩:=i;have R2:=d.u1 R2;refine .so 3 r r r (.ch r (.lo AE .p2 r .mk) (.ck 2 r r tv)) (.h r (.bd BN EJ G5 r .mk) (.b r λF=>DrawD.nop ?_));refine .e2 9 (.sa AG .p3 r (.no 82 r (.drop .p2 (.seq (.dr [0,1,2,3,4,5,6,7,8,9] 10 (.h r (.lw BC AG .p2 r .mk) (.h r (.lw BC AG .p2 r .mk) (.ww r λ{ex}=>?_))))))));have j:=λ(J:IH) (hJ:IH.le s J) (hL:TZ J [OwnSl BM 184 u x e])=>FB (I:=J) (a0:=({ N:=a0.Vec.N,Items:=e }:Vec)) (AgI hL.1) hd;refine .callB (.f call177 r) (.o [0] r) j r r λG _ k=>?_;obtain⟨H,rfl,hd⟩:=k;refine .so 3 r r r (.ch r (.lw BC AG .p2 r .mk) tv) (.fk 1 r ?_);refine D6 hd (λc hd=>?_) λc hd=>?_
 . refine .h r (.gyes r r c (.fo EJ 0 r D5 .mk)) (.h r (.gyes r r c (.lo AE .p2 r .mk)) (.h r (.gyes r r c (.move r r r .mk)) (.h r (.gyes r r c (.eq r r r r .mk)) (.h r (.pickT r c r r r .mk) (.ww r ?_)))));refine .sa AG .p1 r (.sn 3 r r r (.ch r (.pickT r c r r r .mk) (.ch r (.gyes r r c (.eq r r r r .mk)) (.ch r (.gyes r r c (.move r r r .mk)) (.ch r (.gyes r r c (.lo AE .p2 r .mk)) (.ch r (.gyes r r c (.fo EJ 0 r D5 .mk)) tv))))) (.e2 10 (.kn 1 48 r (.drop .p2 (.pub .z λK l y=>?_)))));have m:=l.u1 d;exact .ret (B0 r (.w BC AG r .z r (.t r .n)) m ⟨(({ N:=a0.Vec.N,Items:=e }:Vec),a0.Vec.N==a1),_,_,r,y,hd⟩)
 refine .gn r c (.gn r c (.gn r c (.gn r c (.h r (.pickF r c r r r .mk) (.ww r ?_)))));refine .sa AG .p1 r (.sn 3 r r r (.ch r (.pickF r c r r r .mk) (.ch r (.gno r r c r r .mk) (.ch r (.gno r r c r r .mk) (.ch r (.gno r r c r r .mk) (.ch r (.gno r r c r r .mk) tv))))) (.e2 10 (.kn 1 48 r (.drop .p2 (.pub .z λO p A=>?_)))));have q:=p.u1 d;exact .ret (B0 r (.w BC AG r .z r (.t r .n)) q ⟨(({ N:=a0.Vec.N,Items:=e }:Vec),false),_,_,r,A,hd⟩)
theorem ZK {a0:Int} {Q:Bool->Prop} (hd:NB a0 Q) :
  AY prog 178 [.int .i64 a0] I (λ_=>cI Q):=by
 refine Fun.en func178 ntmps178 r λw0 M=>.sk 1 r (.nk 1 3 r (.spl hd [4,5] r (λa hd=>?_) λa hd=>?_))
 . exact .kn 4 4 r (.r0 results178 r ⟨(decide (a0<=4096)),r,hd⟩)
 exact .kn 4 4 r (.r0 results178 r ⟨false,r,hd⟩)
theorem O0 {a0:Vec} {Q:Vec->Prop} (R3:RepSl BM I p1 c2 a0.Items) (hd:K3 a0 Q) :
  AY prog 258 [.agg #[.int .i64 a0.N,.slice p1 a0.Items.length c2]] I (AmD Q):=by
 refine Fun.en func258 ntmps258 r λw0 M=>.sr (.bx r λc=>.al BN r λd=>.no 6 r (.seq (.sr (.lw BC AG .p1 r (.cq call177 (FB R3 hd:) r λe hd=>.no 22 r (.condP r hd (λb hd=>?_) λb hd=>?_))))))
 . exact .sr (.lw BC AG .p1 r (.sa AG .z r (.no 4 r (.drop .p1 (.ret (B0 r (.w BC AG r .z r .n) rf ⟨a0,_,_,r,R3,hd⟩))))))
 exact .sn 4 r (.drop .p1 (.sr (.bd BN EJ G5 r (.sa AG .z r (.no 4 r (.ret (B0 r (.w BC AG r .z r .n) rf ⟨BO,_,_,r,(.nil _ _ _),hd⟩)))))))
theorem eD {o0:Int} {a0:AM} {Q:AM->Prop} (hd:OO o0 a0 Q) :
  Fun prog 257 #[.agg (U2 a0).toArray,.pointer (some ⟨b2,0,none⟩)] I [pto b2 (.cells #[.int .i64 o0] 3 (0,0))] (λI_ v l=>∃ r,v=.agg (U2 r).toArray∧l=[pto b2 (.cells #[.int .i64 o0] 3 (0,0))]∧Q r):=by
 refine Fun.en func257 ntmps257 r λw0 M=>.sr (.bx r λa=>.al KF r λb=>.ns 14 r (.lo AE .p2 r (.ks 1 r (.lo AE .p1 r (.ks 2 r (.lo O7 .p1 r (.bd KF pU pQ r (.sa D8 .z r (.no 10 r (.drop .p1 ?_))))))))));exact .ret (CT r (.w T5 D8 r .z r .n) rf (.o [1] r) ⟨({ At:=A6 (o0+a0.At),Val:=a0.Val }:AM),r,r,hd⟩)
theorem kM {o0:Int} {a0:Vec} {Q:Vec->Prop} (R5:RepSl BM I p3 c4 a0.Items) (hd:NC o0 a0 Q) :
  Fun prog 256 #[.agg #[.int .i64 a0.N,.slice p3 a0.Items.length c4],.func (.func 257) #[] #[.pointer (some ⟨b2,0,none⟩)]] I [pto b2 (.cells #[.int .i64 o0] 3 (0,0))] (λI_ v l=>∃ r p6 c7,v=.agg #[.int .i64 r.N,.slice p6 r.Items.length c7]∧RepSl BM I_ p6 c7 r.Items∧l=[pto b2 (.cells #[.int .i64 o0] 3 (0,0))]∧Q r):=by
 refine Fun.en func256 ntmps256 r λw0 M=>?_;refine .sr (.bx r λa=>.al BN r λC=>?_);refine .ns 22 r (.lw BC AG .p1 r (.call call258 r (O0 R5 hd:) r r λL O s P=>?_));obtain⟨t,R,b6,rfl,u,hd⟩:=P;have R5:=s.u1 R5;refine .sa AG .p1 r (.no 22 r (.seq (.dr [0,1,2,3,6,4,5,999] 7 (.fk 1 r (.hl AE 1 r (.fk 1 r (.hl GZ 1 r (.aP BN r (.ww r ?_)))))))));refine .callO call132 r (BF u hd:) r r λb7 b8 b9 S T=>?_;obtain⟨c0,c1,c2,rfl,rfl,hd⟩:=T;obtain⟨U,u⟩:=S.u2 s u;refine .so 4 r r r (.ch r (.lo AE .p2 r .mk) (.ck 1 r r tv)) (.h r (.bd BN EJ G5 r .mk) (.b r λK=>DrawD.nop ?_));refine .e2 7 (.sa AG .p4 r (.no 50 r (.drop .p2 (.seq (.sk 1 r (.lo GZ .p3 r (.ln DM r (.kn 1 917554 r (.block (.lx hd [18,5,4,1] [2,1] r (λj E l (d,e)=>λc w=>∃ g f,j ⟨33,[],none⟩ (λI_=>True) ((17,.slice g d.length f) :: (19,.int .i64 e) :: E) (pto K (.cells #[.int .i64 t.N,.slice g d.length f] 118 (0,0)) :: OwnSl BM 184 g f d :: l) c w) (λc w ho hs=>⟨_,_,jf rf tv [3,0,1,0] r ho hs⟩) ?_))))))))));rintro⟨d,e⟩ Z hd c w ⟨g,f,V,i,_,hok,hsym⟩;have p:=i.u1 U;refine Cod.at hok hsym (.sr (.kn 1 1966130 r (.seq (.condP r hd (λA hd=>?_) λA hd=>?_))))
 . refine .sn 917554 r (.seq (.block (.sk 1 r ?_)));obtain⟨x,a3,k,hd⟩:=hd;refine .ownNe .p1 (FN k) λW X=>?_;cases X;refine .ixa0 DM D8 r r x (CC k x) r r (.loA (j:=0) T5 D8 .p1 k r r (.o 2 r) r r r (.al KF r λa4=>.ks 1 r (.sa D8 .z r (.no 917746 r (.dr [0,1,2,3,4,5] 6 (.fk 1 r (.hl GZ 1 r (.fk 2 r (.h r (.lw T5 D8 .z r .mk) (.ww r ?_))))))))));refine .callS (.c call257 r r) (.o [3] r) (eD (I:=V) (b2:=b2) hd:) r r λa5 a6 a7 D F=>?_;obtain⟨m,rfl,rfl,hd⟩:=F;obtain⟨a1,G⟩:=D.u2 p i;refine .rx 5 r (.so 5 r r r (.ck 1 r r (.ch r (.lo GZ .p2 r .mk) (.ck 1 r r tv))) (.e2 6 ?_));obtain⟨y,a8,q,hd⟩:=hd;exact .ixa0 DM D8 r r y (CC q y) r r (.stOA (j:=0) (v':=m) D8 .p3 q r r r (.o r) r r (.rl .p3 [17,25] r (by simp only[List.length_set]) (.reat .p2 (B:=pto K (.cells #[.int .i64 t.N,.slice (some ⟨W,0,none⟩) (d.set e.toNat m).length f] 118 (0,0))) (by simp only[List.length_set]) (.no 917554 r (.drop .p1 (.region (.ks 2 r (.nil' λc w ho hs=>⟨((d.set e.toNat m),A6 (e+1)),hd,_,_,jf G tv [1,1,0,0] r ho hs⟩))))))))
 refine .en 50 r (.sr (.lw BC AG .z r (.sa AG .p3 r (.no 18 r (.drop .z (.pub .z λa9 H Y=>?_))))));obtain⟨J,a2⟩:=H.u2 p i;exact .ret (CT r (.w BC AG r .p1 r .n) J (.o [0] r) ⟨({ N:=t.N,Items:=d }:Vec),_,_,r,Y,r,hd⟩)
theorem wT {a0:List Vec} {Q:(Vec×Int)->Prop} (R3:RepSl bE I p1 c2 a0) (hd:WP a0 Q) :
  AY prog 223 [.slice p1 a0.length c2] I (AmE Q):=by
 refine Fun.en func223 ntmps223 r λw0 M=>.sr (.al BN r λv=>.ks 1 r (.ns 5 r (.al BN r λO=>.no 21 r (.seq (.sk 1 r (.ln lU r (.kn 1 1812 r (.block (.own0 BM 184 (.lx hd [9,8,4,2] [2] r (λj E l (b,a,e)=>λc w=>∃ g i,j ⟨39,[],none⟩ (λI_=>True) ((10,.int .i64 e) :: E) (pto O (.cells #[.int .i64 b,.slice g a.length i] 118 (0,0)) :: OwnSl BM 184 g i a :: l) c w) (λc w ho hs=>⟨_,_,jf rf tv [1,0,0] r ho hs⟩) ?_))))))))));rintro⟨b,a,e⟩ L hd c w ⟨g,i,R,d,_,hok,hsym⟩;have R3:=d.u1 R3;refine Cod.at hok hsym (.sr (.kn 1 3860 r (.seq (.condP r hd (λs hd=>?_) λs hd=>?_))))
 . refine .sn 1812 r (.seq (.block (.sr ?_)));obtain⟨F,S,p,hd⟩:=hd;obtain⟨T,o184,P,G,u,U,V,rfl,k⟩:=R3.2 _ _ p;refine .ixb lU AG G F p r (.ldW BC AG u r r r r (.al BN r λW=>?_));refine .sa AG .z r (.nk 1876 1 r (.lo AE .p1 r (.alloc1 kA r r r λH=>?_)));refine .s1 D5 .z r (.ns 2004 r (.lw BC AG .p1 r (.mkFn r r r r (.callS (.f call256 r) (.o [0] r) (kM (b2:=H) k hd:) r r λX Y Z x y=>?_))));obtain⟨m,a1,a2,rfl,J,rfl,hd⟩:=y;obtain⟨q,R3,k⟩:=x.u3 d R3 k;refine .rn 5 r (.sa AG .p1 r (.no 1876 r (.drop .z (.seq (.sk 1 r (.lo AE .z r (.ks 1 r (.lo AE .p1 r (.kn 2 16779092 r (.condP r hd (λA hd=>?_) λA hd=>?_))))))))))
   . exact .sr (.bd BN EJ G5 r (.sa AG .p3 r (.kn 1 12 r (.drop .z (.drop .z (.drop .z (.ret (B0 r (.w BC AG r .z r (.t r .n)) q ⟨(BO,5),_,_,r,(.nil _ _ _),hd⟩))))))))
   refine .sn 1876 r (.dr [0,1,2,3,4,5,6,7,8,9,10] 11 (.fk 1 r (.hl AE 1 r (.fk 1 r (.hl AE 0 r (.fk 2 r (.hl GZ 1 r (.fk 1 r (.hl GZ 0 r (.ww r ?_))))))))));obtain⟨B,hd⟩:=hd;refine .append (ys:=m.Items) 16 .p2 DM DM pP r r r r r r r r r (.imm J r) B r r λa3 a4=>?_;exact .so 4 r r r (.ck 1 r r (.ch r (.lo AE .p1 r .mk) (.ck 1 r r (.ch r (.lo AE .p2 r .mk) (.ck 1 r r tv))))) (.h r (.bd BN EJ G5 r .mk) (.e2 11 (.sa AG .p2 r (.no 1812 r (.drop .p1 (.region (.ks 2 r (.nil' λc w ho hs=>⟨(A6 (b+m.N),(a++m.Items),A6 (e+1)),hd,_,_,jf q tv [1,0,0] r ho hs⟩))))))))
 refine .en 20 r (.sr (.lw BC AG .z r (.sa AG .p2 r (.kn 1 12 r (.drop .z (.pub .z λa5 C K=>?_))))));have D:=C.u1 d;exact .ret (B0 r (.w BC AG r .z r (.t r .n)) D ⟨(({ N:=b,Items:=a }:Vec),0),_,_,r,K,hd⟩)
theorem ZL {a0 a1:Int} {Q:Int->Prop} (hd:RY a0 a1 Q) :
  AY prog 150 [.int .i64 a0,.int .i64 a1] I (λ_=>Y9 Q):=by
 refine Fun.en func150 ntmps150 r λw0 M=>.sr (.kn 1 3 r (.seq (.sr (.kn 1 34 r (.block (.seq (.block (.seq (.block ?_)))))))));refine .seq (.block (.seq (.block (.seq (.seq (.sr (.kn 2 98 r (.condP r hd (λb hd=>?_) λb hd=>?_))))))))
 . exact .en 0 r (.seq (.sr (.kn 1 16 r (.r0 results150 r ⟨1,r,hd⟩))))
 refine .sn 34 r (.seq (.sr (.kn 2 290 r (.condP r hd (λc hd=>?_) λc hd=>?_))))
 . exact .en 0 r (.seq (.sr (.kn 1 16 r (.r0 results150 r ⟨5,r,hd⟩))))
 refine .sn 34 r (.seq (.sr (.kn 2 1058 r (.condP r hd (λd hd=>?_) λd hd=>?_))))
 . refine .en 2 r (.sr (.kn 3 131072 r (.condP r hd (λe hd=>?_) λe hd=>?_)))
   . exact .sr (.kn 1 16 r (.r0 results150 r ⟨2,r,hd⟩))
   exact .sn 0 r (.seq (.sr (.kn 1 16 r (.r0 results150 r ⟨4,r,hd⟩))))
 refine .sn 32 r (.seq (.sr (.kn 2 4128 r (.condP r hd (λa hd=>?_) λa hd=>?_))))
 . exact .sn 4096 r (.condKT r a (.en 0 r (.seq (.sr (.kn 1 16 r (.r0 results150 r ⟨4,r,hd⟩))))))
 refine .region (.kn 2 4096 r (.condP r hd (λf hd=>?_) λf hd=>?_))
 . exact .en 0 r (.seq (.sr (.kn 1 16 r (.r0 results150 r ⟨4,r,hd⟩))))
 exact .sn 0 r (.en 0 r (.sr (.kn 1 16 r (.r0 results150 r ⟨0,r,hd⟩))))
theorem qI {a0 a1 a2:Int} {Q:Int->Prop} (hd:RH a0 a1 a2 Q) :
  AY prog 182 [.int .i64 a0,.int .i64 a1,.int .i64 a2] I (λ_=>Y9 Q):=by
 refine Fun.en func182 ntmps182 r λw0 M=>.sr (.kn 1 7 r (.seq (.sr (.kn 1 135 r (.block (.seq (.sr (.kn 2 391 r (.condP r hd (λa hd=>?_) λa hd=>?_)))))))))
 . exact .sn 263 r (.condKT r a (.sr (.kn 2 64 r (.r0 results182 r ⟨a0,r,hd⟩))))
 refine .region (.kn 2 263 r (.condP r hd (λb hd=>?_) λb hd=>?_))
 . exact .sr (.kn 2 64 r (.r0 results182 r ⟨a0,r,hd⟩))
 refine .sn 6 r (.seq (.sk 2 r (.quo r r (by decide) r r (.kn 1 32768 r (.condP r hd (λc hd=>?_) λc hd=>?_)))))
 . exact .sr (.kn 1 64 r (.r0 results182 r ⟨2,r,hd⟩))
 exact .sn 0 r (.sr (.kn 1 64 r (.r0 results182 r ⟨1,r,hd⟩)))
theorem UR {a0:Int} {Q:Dense->Prop} (hd:OP a0 Q) :
  uI prog 224 [.int .i64 a0] I (λI_ v l=>∃ r p1 c2 p4 c5,v=.agg #[.int .i64 r.N,.slice p1 r.Has.length c2,.slice p4 r.Vals.length c5]∧RepSl IC I_ p1 c2 r.Has∧l=[OwnSl AR 2 p4 c5 r.Vals]∧Q r):=by
 refine Fun.en func224 ntmps224 r λw0 M=>.sr (.al hZ r λd=>.no 5 r (.seq (.sk 3 r (.spl hd [4,5] r (λc hd=>?_) λc hd=>?_))))
 . refine .kn 3 261 r (.condKT r r (.region (.kn 1 5 r (.seq (.dr [0,1,3,4,2,999,5] 6 (.fk 3 r ?_))))));obtain⟨B,C,hd⟩:=hd;refine .a (λb=>.slice (some ⟨b,0,none⟩) (List.replicate (Int.toNat 0) (0:Int)).length (Int.toNat 0)) (λb=>OwnSl AR 2 (some ⟨b,0,none⟩) (Int.toNat 0) (List.replicate (Int.toNat 0) (0:Int))) r r r r (λ_ L hL ex=>.make (El:=AR) (zv:=0) 8 D7 IN2 r r r r r r B C r r r λb=>.mk (val:=λb=>.slice (some ⟨b,0,none⟩) (List.replicate (Int.toNat 0) (0:Int)).length (Int.toNat 0)) (atom:=λb=>OwnSl AR 2 (some ⟨b,0,none⟩) (Int.toNat 0) (List.replicate (Int.toNat 0) (0:Int))) hL b) (.ww r ?_);refine .callO call129 r (UP (I:=I) hd:) r r λS T U e f=>?_;obtain⟨D,V,W,rfl,rfl,hd⟩:=f;refine .so 2 r r r (.ck 2 r r tv) (.b r λX=>DrawD.nop ?_);refine .h r (.bd hZ underlying228 AiU r .mk) (.e2 6 (.sa EX .p1 r (.no 4 r (.pub .z λY g E=>?_))));have i:=g.u1 e;exact .ret (CT r (.w KE EX r .z r .n) i (.o [1] r) ⟨({ N:=0,Has:=D,Vals:=(List.replicate (Int.toNat 0) (0:Int)) }:Dense),_,_,_,_,r,E,r,hd⟩)
 refine .kn 3 261 r (.condP r hd (λj hd=>?_) λj hd=>?_)
 . refine .region (.kn 1 5 r (.seq (.dr [0,1,3,4,2,999,5] 6 (.fk 3 r ?_))));obtain⟨F,G,hd⟩:=hd;refine .a (λb=>.slice (some ⟨b,0,none⟩) (List.replicate (Int.toNat 0) (0:Int)).length (Int.toNat 0)) (λb=>OwnSl AR 2 (some ⟨b,0,none⟩) (Int.toNat 0) (List.replicate (Int.toNat 0) (0:Int))) r r r r (λ_ L hL ex=>.make (El:=AR) (zv:=0) 8 D7 IN2 r r r r r r F G r r r λb=>.mk (val:=λb=>.slice (some ⟨b,0,none⟩) (List.replicate (Int.toNat 0) (0:Int)).length (Int.toNat 0)) (atom:=λb=>OwnSl AR 2 (some ⟨b,0,none⟩) (Int.toNat 0) (List.replicate (Int.toNat 0) (0:Int))) hL b) (.ww r ?_);refine .callO call129 r (UP (I:=I) hd:) r r λZ a1 a2 m p=>?_;obtain⟨H,a3,a4,rfl,rfl,hd⟩:=p;refine .so 2 r r r (.ck 2 r r tv) (.b r λa5=>DrawD.nop ?_);refine .h r (.bd hZ underlying228 AiU r .mk) (.e2 6 (.sa EX .p1 r (.no 4 r (.pub .z λa6 q J=>?_))));have s:=q.u1 m;exact .ret (CT r (.w KE EX r .z r .n) s (.o [1] r) ⟨({ N:=0,Has:=H,Vals:=(List.replicate (Int.toNat 0) (0:Int)) }:Dense),_,_,_,_,r,J,r,hd⟩)
 refine .sn 5 r (.seq (.dr [0,1,3,4,2,999,5] 6 (.fk 3 r ?_)));obtain⟨K,O,hd⟩:=hd;refine .a (λb=>.slice (some ⟨b,0,none⟩) (List.replicate a0.toNat (0:Int)).length a0.toNat) (λb=>OwnSl AR 2 (some ⟨b,0,none⟩) a0.toNat (List.replicate a0.toNat (0:Int))) r r r r (λ_ L hL ex=>.make (El:=AR) (zv:=0) 8 D7 IN2 r r r r r r K O r r r λb=>.mk (val:=λb=>.slice (some ⟨b,0,none⟩) (List.replicate a0.toNat (0:Int)).length a0.toNat) (atom:=λb=>OwnSl AR 2 (some ⟨b,0,none⟩) a0.toNat (List.replicate a0.toNat (0:Int))) hL b) (.ww r ?_);refine .callO call129 r (UP (I:=I) hd:) r r λa7 a8 a9 u x=>?_;obtain⟨P,k,t,rfl,rfl,hd⟩:=x;refine .so 2 r r r (.ck 2 r r tv) (.b r λb2=>DrawD.nop ?_);refine .h r (.bd hZ underlying228 AiU r .mk) (.e2 6 (.sa EX .p1 r (.no 4 r (.pub .z λb3 y R=>?_))));have A:=y.u1 u;exact .ret (CT r (.w KE EX r .z r .n) A (.o [1] r) ⟨({ N:=a0,Has:=P,Vals:=(List.replicate a0.toNat (0:Int)) }:Dense),_,_,_,_,r,R,r,hd⟩)
theorem ZM {a0:Vec} {Q:(List Int)->Prop} (R3:RepSl BM I p1 c2 a0.Items) (hd:ND a0 Q) :
  AY prog 225 [.agg #[.int .i64 a0.N,.slice p1 a0.Items.length c2]] I (o7_ Q):=by
 refine Fun.en func225 ntmps225 r λw0 M=>?_;refine .sr (.bx r λT=>?_);refine .ks 1 r (.nk 2 1 r (.no 10 r (.seq (.sr (.lw BC AG .z r (.call call258 r (O0 R3 hd:) r r λK L d q=>?_))))));obtain⟨O,P,R,rfl,e,hd⟩:=q;have R3:=d.u1 R3;refine .field1 EJ r GZ r r r r (.ln DM r (.kn 1 1800 r (.drop .z (.block (.own0 AR 3 (.lx hd [9,8] [] r (λj E l (a,f)=>λc w=>∃ g h,j ⟨21,[],none⟩ (λI_=>True) ((3,.slice g a.length h) :: (10,.int .i64 f) :: E) (OwnSl AR 3 g h a :: l) c w) (λc w ho hs=>⟨_,_,jf rf tv [0] r ho hs⟩) ?_))))));rintro⟨a,f⟩ y hd c w ⟨g,h,S,b,_,hok,hsym⟩;obtain⟨s,e⟩:=b.u2 d e;refine Cod.at hok hsym (.sr (.kn 1 3848 r (.seq (.condP r hd (λt hd=>?_) λt hd=>?_))))
 . refine .sn 1800 r (.seq (.block (.sr ?_)));obtain⟨A,o,u,C,o101,v,i,hd⟩:=e.ix hd;refine .ixb DM D8 v A u r (.ldW T5 D8 i r r r r (.al KF r λD=>.sa D8 .z r (.no 1832 r (.region (.ks 2 r (.lo AE .z r (.bs 1 BB D5 kA r λF=>?_)))))));obtain⟨k,hd⟩:=hd;exact .append (ys:=[o.At]) 8 .p2 BB BB IN3 r r r r r r r r r (.box .z (.one r) r) k r r λG H=>.kn 1 1800 r (.drop .p1 (.drop .p1 (.region (.ks 2 r (.nil' λc w ho hs=>⟨((a++([o.At])),A6 (f+1)),hd,_,_,jf b tv [0] r ho hs⟩)))))
 refine .en 8 r (.sr (.kn 2 4 r (.pub .z λJ m x=>?_)));obtain⟨n,B⟩:=m.u2 s b;exact .r1 results225 r n ⟨a,_,_,r,x,hd⟩
theorem qJ {a0:Vec} {Q:Dense->Prop} (R3:RepSl BM I p1 c2 a0.Items) (hd:YK a0 Q) :
  AY prog 183 [.agg #[.int .i64 a0.N,.slice p1 a0.Items.length c2]] I (λI_ v=>∃ r gk4,v=.agg (K8 r gk4)∧uM I_ gk4 r∧Q r):=by
 refine Fun.en func183 ntmps183 r λw0 M=>.sr (.bx r λd2=>.al hZ r λd3=>.no 6 r (.seq (.sr (.lw BC AG .p1 r (.cq call177 (FB R3 hd:) r λd4 hd=>.kn 1 262 r (.condP r hd (λZ hd=>?_) λZ hd=>?_))))))
 . refine .sr ?_;refine .callO call224 r (UR (I:=I) hd:) r r λd5 d6 d7 s a2=>?_;obtain⟨F,d8,d9,e0,e1,rfl,t,rfl,hd⟩:=a2;have R3:=s.u1 R3;refine .sa EX .p1 r (.no 4 r (.drop .p2 (.pub .z λe3 a3 L=>?_)));obtain⟨a4,t⟩:=a3.u2 s t;exact .ret (B0 r (.w KE EX r .z r .n) a4 ⟨F,((_,_),(_,_)),r,⟨t,L⟩,hd⟩)
 refine .sn 6 r (.sk 1 r (.lo AE .p1 r ?_));refine .callO call224 r (UR (I:=I) hd:) r r λe4 e5 e6 u a6=>?_;obtain⟨i,V,W,e7,e8,rfl,d,rfl,hd⟩:=a6;have R3:=u.u1 R3;refine .al hZ r λX=>.sa EX .z r (.no 14 r (.seq (.sk 1 r (.lo GZ .p3 r (.ln DM r (.kn 1 114702 r (.block (.lx hd [15,14,3,2,1] [3,2] r (λj E l (a,k)=>λc w=>∃ m e,j ⟨35,[],none⟩ (λI_=>True) ((16,.int .i64 k) :: E) (pto X (.cells #[.int .i64 i.N,.slice V i.Has.length W,.slice m a.length e] 228 (0,0)) :: OwnSl AR 2 m e a :: l) c w) (λc w ho hs=>⟨_,_,jf rf tv [0,0,1,0] r ho hs⟩) ?_))))))));rintro⟨a,k⟩ b3 hd c w ⟨m,e,b7,f,_,hok,hsym⟩;obtain⟨y,R3,d⟩:=f.u3 u R3 d;refine Cod.at hok hsym (.sr (.kn 1 245774 r (.seq (.condP r hd (λA hd=>?_) λA hd=>?_))))
 . refine .sn 114702 r (.seq (.block (.sr ?_)));obtain⟨a7,b,C,b8,o232,a8,D,hd⟩:=R3.ix hd;refine .ixb DM D8 a8 a7 C r (.ldW T5 D8 D r r r r (.al KF r λb9=>.sa D8 .z r (.no 114734 r (.region (.ks 1 r (.lo DY .p1 r (.ks 1 r (.lo AE .z r (.ks 1 r (.lo O7 .z r ?_))))))))));obtain⟨x,c0,g,hd⟩:=hd;refine .ownNe .p2 (FN g) λa9 Y=>?_;cases Y;exact .ixa0 D7 bK r r x (CC g x) r r (.stO1 (j:=0) (v':=b.Val) bK .p2 g r r r (.o r) r (.rl .p2 [21] r (by simp only[List.length_set]) (.reat .p1 (B:=pto X (.cells #[.int .i64 i.N,.slice V i.Has.length W,.slice (some ⟨a9,0,none⟩) (a.set b.At.toNat b.Val).length e] 228 (0,0))) (by simp only[List.length_set]) (.no 114702 r (.drop .z (.region (.ks 2 r (.nil' λc w ho hs=>⟨((a.set b.At.toNat b.Val),A6 (k+1)),hd,_,_,jf f tv [0,0,0,0] r ho hs⟩))))))))
 refine .en 14 r (.seq (.dr [0,1,2,3,4] 5 (.fk 1 r (.hl AE 2 r (.h r (.lw BC AG .p2 r .mk) (.ww r ?_))))));refine .call call225 r (ZM R3 hd:) r r λc1 c3 G H=>?_;obtain⟨c4,c5,c6,rfl,p,hd⟩:=H;obtain⟨J,K,R3,d⟩:=G.u4 y f R3 d;refine .so 4 r r r (.ch r (.lo AE .p2 r .mk) (.ck 1 r r tv)) (.ww r ?_);refine .call call82 r (PE p hd:) r r λc7 c8 O P=>?_;obtain⟨b1,c9,d0,rfl,q,hd⟩:=P;obtain⟨R,S,R3,d,p⟩:=O.u5 J K R3 d p;refine .so 4 r r r tv (.e2 5 (.ks 1 r (.s1 sizeOf46 .z r (.no 12 r (.drop .p2 (.sr (.lw KE EX .z r (.sa EX .p2 r (.no 4 r (.drop .z (.pub .z λd1 T b2=>?_)))))))))));obtain⟨U,b6,q⟩:=T.u3 R S q;exact .ret (B0 r (.w KE EX r .z r .n) U ⟨({ N:=i.N,Has:=b1,Vals:=a }:Dense),((_,_),(_,_)),r,⟨q,b2⟩,hd⟩)
theorem rS {a0:Int} {a1:Vec} {Q:Y2->Prop} (R3:RepSl BM I p1 c2 a1.Items) (hd:U7 a0 a1 Q) :
  AY prog 151 [.int .i64 a0,.agg #[.int .i64 a1.N,.slice p1 a1.Items.length c2]] I (λI_ v=>∃ r gl4,v=.agg (AgV r gl4)∧lTl I_ gl4 r∧Q r):=by
 refine Fun.en func151 ntmps151 r λw0 M=>.sr (.bx r λG=>.al zeroValue230 r λO=>.no 25 r (.seq (.jx hd [4,3,0] [0] r (λj E l (b,d)=>λc w=>∃ e f,j ⟨27,[],none⟩ (λI_=>RepSl BM I_ e f d) E (pto G (.cells #[.int .i64 b,.slice e d.length f] 118 (0,0)) :: l) c w) (λP hd=>?_) ?_)))
 . refine .sr (.lw BC AG .p1 r (.cq call177 (FB R3 hd:) r λR hd=>.kn 1 153 r (.condP r hd (λm hd=>?_) λm hd=>?_)))
   . exact .region (.bd BN EJ G5 r (.sa AG .p1 r (.nil' λc w ho hs=>⟨(0,([]:List AM)),hd,_,_,jf rf (.nil _ _ _) [1,0] r ho hs⟩)))
   exact .skip' λc w ho hs=>⟨(a1.N,a1.Items),hd,_,_,jf rf R3 [1,0] r ho hs⟩
 rintro⟨b,d⟩ hd c w ⟨e,f,i,g,a,hok,hsym⟩;refine Cod.at hok hsym (.seq (.sk 2 r (.lo GZ .z r (.ln DM r (.ks 1 r (.lo AE .z r (.cq call182 (qI (I:=i) hd:) r λS hd=>.kn 1 65560 r (.condP r hd (λp hd=>?_) λp hd=>?_))))))))
 . refine .sr (.lw BC AG .z r ?_);refine .call call183 r (qJ (I:=i) (a0:=({ N:=b,Items:=d }:Vec)) a hd:) r r λT U s t=>?_;obtain⟨H,u,rfl,J,hd⟩:=t;obtain⟨x,a⟩:=s.u2 g a;exact .bd zeroValue230 underlying230 AlF r (.sa sizeOf230 .p1 r (.no 16 r (.drop .z (.ret (B0 r (.w isAgg230 sizeOf230 r .z r .n) x ⟨({ Form:=2,Vec:=BO,Dense:=H }:Y2),((none,0),u),r,⟨(.nil _ _ _),J⟩,hd⟩)))))
 refine .sn 24 r (.seq (.dr [0,1,2,3,4,5,6] 7 (.fk 1 r (.hl AE 0 r (.fk 1 r (.hl GZ 0 r (.ww r ?_)))))));refine .callO call132 r (BF a hd:) r r λV W X A B=>?_;obtain⟨K,Y,Z,rfl,rfl,hd⟩:=B;obtain⟨C,a⟩:=A.u2 g a;refine .so 3 r r r (.ch r (.lo AE .p1 r .mk) (.ck 1 r r tv)) (.h r (.bd BN EJ G5 r .mk) (.h r (.bd zeroValue230 underlying230 AlF r .mk) (.e2 7 (.sa sizeOf230 .p2 r (.no 16 r (.drop .p1 (.pub .z λa2 D L=>?_)))))));have F:=D.u1 C;exact .ret (B0 r (.w isAgg230 sizeOf230 r .z r .n) F ⟨({ Form:=1,Vec:=({ N:=b,Items:=K }:Vec),Dense:=({ N:=0,Has:=([]:List Int),Vals:=([]:List Int) }:Dense) }:Y2),((_,_),((_,_),(_,_))),r,⟨L,⟨(.nil _ _ _),(.nil _ _ _)⟩⟩,hd⟩)
theorem eE {a0 a1 a2:Int} {Q:Int->Prop} (hd:KO a0 a1 a2 Q) :
  AY prog 184 [.int .i64 a0,.int .i64 a1,.int .i64 a2] I (λ_=>Y9 Q):=by
 refine Fun.en func184 ntmps184 r λw0 M=>.sr (.kn 1 7 r (.seq (.sr (.kn 1 135 r (.block (.seq (.sr (.kn 2 391 r (.condP r hd (λa hd=>?_) λa hd=>?_)))))))))
 . exact .sn 263 r (.condKT r a (.sr (.kn 2 64 r (.r0 results184 r ⟨a0,r,hd⟩))))
 refine .region (.kn 2 263 r (.condP r hd (λb hd=>?_) λb hd=>?_))
 . exact .sr (.kn 2 64 r (.r0 results184 r ⟨a0,r,hd⟩))
 refine .sn 6 r (.seq (.sk 2 r (.quo r r (by decide) r r (.kn 1 32768 r (.condP r hd (λc hd=>?_) λc hd=>?_)))))
 . exact .sr (.kn 1 64 r (.r0 results184 r ⟨2,r,hd⟩))
 exact .sn 0 r (.sr (.kn 1 64 r (.r0 results184 r ⟨1,r,hd⟩)))
theorem V8 {a0 a1:Int} {Q:Bool->Prop} (hd:MJ a0 a1 Q) :
  AY prog 301 [.int .i64 a0,.int .i64 a1] I (λ_=>cI Q):=by
 refine Fun.en func301 ntmps301 r λw0 M=>.sk 1 r (.nk 3 3 r (.spl hd [6,7] r (λa hd=>?_) λa hd=>?_))
 . exact .kn 5 16 r (.r0 results301 r ⟨(decide (a0<=a1)),r,hd⟩)
 exact .kn 5 16 r (.r0 results301 r ⟨false,r,hd⟩)
theorem V9 {a0:List Int} {a1:Int} {Q:Bool->Prop} (R3:RepSl AR I p1 c2 a0) (hd:MK a0 a1 Q) :
  AY prog 302 [.slice p1 a0.length c2,.int .i64 a1] I (λ_=>cI Q):=by
 refine Fun.en func302 ntmps302 r λw0 M=>.sr (.kn 1 3 r (.seq (.sk 1 r (.ln BB r (.kn 1 899 r (.block (.lp hd [8,7,1,0] [] r (λj E l b=>j ((9,.int .i64 b) :: E) l) (ji rf [] r) ?_)))))));refine λb o hd=>jq r λp a=>?_;have R3:=a.u1 R3;refine .sr (.kn 1 1923 r (.seq (.condP r hd (λf hd=>?_) λf hd=>?_)))
 . refine .sn 899 r (.seq (.block (.sk 1 r ?_)));obtain⟨q,v,g,w,o87,s,h,hd⟩:=R3.ix hd;refine .ixb BB D5 s q g r (.ldb 0 AE h r (.ks 2 r (.nk 995 3 r (.cq call301 (V8 (I:=p) hd:) r λx hd=>.ks 2 r (.spl hd [18,19] r (λk hd=>?_) λk hd=>?_)))))
   . exact .kn 12 2147484547 r (.condKT r r (.sr (.kn 1 16 r (.r1 results302 r a ⟨false,r,hd⟩))))
   refine .ks 3 r (.spl hd [21,22] r (λm hd=>?_) λm hd=>?_)
   . refine .ks 3 r ?_;obtain⟨t,y,c,u,o102,n,d,hd⟩:=R3.ix hd;refine .yes r (.ixb BB D5 n t c r (.yes r (.ldb 0 AE d r (.kn 4 2147484547 r (.condP r hd (λe hd=>?_) λe hd=>?_)))))
     . exact .sr (.kn 1 16 r (.r1 results302 r a ⟨false,r,hd⟩))
     exact .sn 899 r (.region (.ks 2 r (.nil' (je (A6 (b+1)) hd a [] r))))
   exact .kn 9 2147484547 r (.condKF r r (.sn 899 r (.region (.ks 2 r (.nil' (je (A6 (b+1)) hd a [] r))))))
 exact .en 0 r (.sr (.kn 1 16 r (.r1 results302 r a ⟨true,r,hd⟩)))
theorem iL {a0:AN} {Q:Bool->Prop} (R2:qP I gf1 a0) (hd:SH a0 Q) :
  AY prog 287 [.agg (EU a0 gf1)] I (λ_=>cI Q):=by
 refine Fun.en func287 ntmps287 r λw0 M=>.sr (.bx r λo=>.ks 1 r (.nk 2 1 r (.lo EM .z r (.ln BB r (.kn 1 10 r (.seq (.sk 1 r (.lo AE .z r (.cq call301 (V8 (I:=I) hd:) r λq hd=>.ks 2 r (.spl hd [11,12] r (λs hd=>?_) λs hd=>?_))))))))))
 . exact .kn 26 274877906954 r (.condKT r r (.sr (.kn 1 4 r (.drop .z (.r0 results287 r ⟨false,r,hd⟩)))))
 refine .ks 1 r (.yes r (.lo AE .z r ?_));refine .yes r (.callP call301 r (V8 (I:=I) hd:) r r λt u=>?_);obtain⟨A,rfl,hd⟩:=u;refine .ks 3 r (.spl hd [16,17,18] r (λv hd=>?_) λv hd=>?_)
 . exact .kn 20 274877906954 r (.condKT r r (.sr (.kn 1 4 r (.drop .z (.r0 results287 r ⟨false,r,hd⟩)))))
 refine .ks 1 r (.yes r (.lo EM .z r (.yes r (.ln BB r (.ks 1 r (.yes r (.lo EM .z r (.yes r (.ln BB r (.ks 4 r (.spl hd [26,27,28] r (λw hd=>?_) λw hd=>?_)))))))))))
 . exact .kn 10 274877906954 r (.condKT r r (.sr (.kn 1 4 r (.drop .z (.r0 results287 r ⟨false,r,hd⟩)))))
 refine .ks 1 r (.yes r (.lo DY .z r (.yes r (.ln D7 r (.ks 4 r (.spl hd [33,34,35] r (λx hd=>?_) λx hd=>?_))))))
 . exact .kn 3 274877906954 r (.condKT r r (.sr (.kn 1 4 r (.drop .z (.r0 results287 r ⟨false,r,hd⟩)))))
 refine .kn 3 274877906954 r (.condP r hd (λy hd=>?_) λy hd=>?_)
 . exact .sr (.kn 1 4 r (.drop .z (.r0 results287 r ⟨false,r,hd⟩)))
 refine .sn 10 r (.seq (.sk 1 r (.lo EM .z r (.ks 1 r (.lo AE .z r (.cq call302 (V9 R2.1 hd:) r λC hd=>.ks 2 r (.spl hd [44,45] r (λB hd=>?_) λB hd=>?_)))))))
 . exact .kn 25 1180591620717411303426 r (.condKT r r (.sr (.kn 1 4 r (.drop .z (.r0 results287 r ⟨false,r,hd⟩)))))
 refine .ks 1 r (.yes r (.lo EM .z r (.ks 2 r ?_)));refine .yes r (.callP call302 r (V9 R2.2.1 hd:) r r λb8 D=>?_);obtain⟨b9,rfl,hd⟩:=D;refine .ks 3 r (.spl hd [51,52,53] r (λF hd=>?_) λF hd=>?_)
 . exact .kn 17 1180591620717411303426 r (.condKT r r (.sr (.kn 1 4 r (.drop .z (.r0 results287 r ⟨false,r,hd⟩)))))
 refine .ks 1 r (.yes r (.lo EM .z r ?_));obtain⟨a1,c0,G,c1,o77,a2,J,hd⟩:=R2.2.1.ix hd;refine .yes r (.ixb BB D5 a2 a1 G r (.yes r (.ldb 0 AE J r (.ks 3 r (.spl hd [58,59,60] r (λK hd=>?_) λK hd=>?_)))))
 . exact .kn 10 1180591620717411303426 r (.condKT r r (.sr (.kn 1 4 r (.drop .z (.r0 results287 r ⟨false,r,hd⟩)))))
 refine .ks 1 r (.yes r (.lo EM .z r (.ks 1 r (.yes r (.lo EM .z r (.yes r (.ln BB r ?_)))))));obtain⟨a3,c2,N,c3,o87,a4,O,hd⟩:=R2.2.1.ix hd;refine .yes r (.ixb BB D5 a4 a3 N r (.yes r (.ldb 0 AE O r (.kn 3 1180591620717411303426 r (.condP r hd (λP hd=>?_) λP hd=>?_)))))
 . exact .sr (.kn 1 4 r (.drop .z (.r0 results287 r ⟨false,r,hd⟩)))
 refine .sn 2 r (.seq (.sk 1 r (.lo EM .z r (.ln BB r (.kn 1 28334198897217871282178 r (.block (.lp hd [73,1] [0] r (λj E l c=>j ((74,.int .i64 c) :: E) l) (ji rf [0] r) ?_)))))));refine λc Z hd=>jq r λa5 a=>?_;have R2:=a.u1 R2;refine .sr (.kn 1 66113130760175032991746 r (.seq (.condP r hd (λg hd=>?_) λg hd=>?_)))
 . refine .sn 28334198897217871282178 r (.seq (.block (.sr (.kn 2 28334198897217871282194 r (.seq (.dr [0,1,2,3,4,5,6,7,8,9,10,11,12,13,14,15,16,17] 18 (.fk 1 r (.hl EM 0 r (.fk 1 r (.hl EM 0 r (.fk 1 r ?_)))))))))));obtain⟨R,d,i,a6,o176,S,k,hd⟩:=R2.2.1.ix hd;refine .h r (.ixb BB D5 S R i r .mk) (.h r (.ldb 0 AE k r .mk) (.fk 1 r (.hl EM 0 r (.fk 2 r ?_))));obtain⟨T,b,m,a7,o185,U,n,hd⟩:=R2.2.1.ix hd;refine .h r (.ixb BB D5 U T m r .mk) (.h r (.ldb 0 AE n r .mk) ?_);obtain⟨V,a8,a9,hd⟩:=hd;have e:Int.toNat d<=Int.toNat b:=by omega
   have f:Int.toNat b<=a0.Row.length:=by omega
   obtain⟨b0,b1,W,X,Y⟩:=RepSl.sliceW R2.2.2.1 (Int.toNat d) (Int.toNat b) gf1.2.2.1.2 e f (.inl rfl);refine .h r (.sliceW (L:=Int.toNat d) (H:=Int.toNat b) (cm:=gf1.2.2.1.2) BB D5 r r R2.2.2.1.1 r r r (.inr ⟨_,_,r,V,r⟩) (.inr ⟨_,_,r,(by omega),r⟩) (.inl r) e f r W X r r .mk) (.fk 1 r (.hl AE 0 r (.ww r (.cq call302 (V9 Y hd:) r λb2 hd=>.so 1 r r r tv (.fk 1 r (.e2 18 (.no 19807068962764981616257269762 r (.condP r hd (λp hd=>?_) λp hd=>?_))))))))
   . exact .sr (.kn 1 4 r (.drop .z (.r1 results287 r a ⟨false,r,hd⟩)))
   exact .sn 28334198897217871282178 r (.region (.ks 2 r (.nil' (je (A6 (c+1)) hd a [0] r))))
 exact .en 0 r (.drop .z (.sr (.kn 1 4 r (.r1 results287 r a ⟨true,r,hd⟩))))
theorem mA {a0:AN} {Q:AN->Prop} (R2:qP I gf1 a0) (hd:VO a0 Q) :
  AY prog 259 [.agg (EU a0 gf1)] I (AnP Q):=by
 refine Fun.en func259 ntmps259 r λw0 M=>.sr (.bx r λP=>.al pW r λu=>.no 6 r (.seq (.sr (.lw GK DW .p1 r (.cq call287 (iL R2 hd:) r λv hd=>.no 22 r (.condP r hd (λe hd=>?_) λe hd=>?_))))))
 . exact .sr (.lw GK DW .p1 r (.sa DW .z r (.no 4 r (.drop .p1 (.ret (B0 r (.w GK DW r .z r .n) rf ⟨a0,gf1,r,R2,hd⟩))))))
 refine .sn 4 r (.drop .p1 (.sr ?_));refine .callO call71 r (lY (I:=I) hd:) r r λx y A g h=>?_;obtain⟨s,B,C,D,E,F,G,H,J,rfl,rfl,hd⟩:=h;refine .sa DW .p4 r (.no 4 r (.pub .z λK i a=>?_));have j:=i.u1 g;refine .pub .z λL k b=>?_;obtain⟨l,a⟩:=k.u2 j a;refine .pub .z λN m c=>?_;obtain⟨o,a,b⟩:=m.u3 l a b;refine .pub .z λO p t=>?_;obtain⟨q,a,b,c⟩:=p.u4 o a b c;exact .ret (B0 r (.w GK DW r .z r .n) q ⟨s,((_,_),(_,_),(_,_),(_,_)),r,⟨a,b,c,t⟩,hd⟩)
theorem iM {a0:AN} {a1:Int} {Q:Int->Prop} (R2:qP I gf1 a0) (hd:SI a0 a1 Q) :
  AY prog 260 [.agg (EU a0 gf1),.int .i64 a1] I (λ_=>Y9 Q):=by
 refine Fun.en func260 ntmps260 r λw0 M=>.sr (.bx r λG=>.kn 1 6 r (.scope (.seq (.dr [0,1,2,3] 4 (.fk 1 r (.hl EM 0 r (.h r (.ln BB r .mk) (.fk 1 r (.e2 4 (.kn 1 102 r ?_))))))))));refine .seq (.labelS 102 r r (.seq (.jn hd [] [] r (λj E l (d,f)=>j ((5,.int .i64 d) :: (6,.int .i64 f) :: E) l) (λx hd=>?_) ?_)))
 . refine .block (.lp hd [2,1] [0] r (λj E l (a,b)=>j ((5,.int .i64 a) :: (6,.int .i64 b) :: E) l) (ji rf [0] r) ?_);rintro⟨a,b⟩ w hd;refine jq r λy c=>?_;have R2:=c.u1 R2;refine .seq (.sr (.kn 3 8294 r (.condP r hd (λg hd=>?_) λg hd=>?_)))
   . refine .sn 102 r (.block (.sk 4 r (.quo r r (by decide) r r (.kn 2 230 r (.block (.sk 1 r (.lo EM .z r (.ks 1 r ?_))))))));obtain⟨s,A,i,B,o306,t,k,hd⟩:=R2.1.ix hd;refine .ixb BB D5 t s i r (.ldb 0 AE k r (.kn 3 2097382 r (.condP r hd (λm hd=>?_) λm hd=>?_)))
     . exact .sr (.kn 2 96 r (.drop .z (.exit (je (A6 (a+(A6 ((A6 (b - a)).tdiv 2))),b) hd c [] r))))
     refine .sk 1 r (.lo EM .z r (.ks 1 r ?_));obtain⟨u,C,n,D,o316,v,o,hd⟩:=R2.1.ix hd;refine .ixb BB D5 v u n r (.ldb 0 AE o r (.kn 3 1073742054 r (.condP r hd (λp hd=>?_) λp hd=>?_)))
     . exact .region (.ks 3 r (.nil' (je (A6 ((A6 (a+(A6 ((A6 (b - a)).tdiv 2))))+1),b) hd c [0] r)))
     exact .region (.ks 2 r (.nil' (je (a,A6 (a+(A6 ((A6 (b - a)).tdiv 2)))) hd c [0] r)))
   exact .exit (je (a,b) hd c [] r)
 rintro⟨d,f⟩ hd;refine jq r λF e=>.seq (.sr (.kn 3 4398046511136 r (.condP r hd (λq hd=>?_) λq hd=>?_)))
 . exact .sr (.kn 2 16 r (.r1 results260 r e ⟨d,r,hd⟩))
 exact .sn 0 r (.sr (.kn 1 16 r (.r1 results260 r e ⟨(-1),r,hd⟩)))
theorem AaM {a0:AN} {a1:List Int} {Q:Int->Prop} (R2:qP I gf1 a0) (R5:RepSl AR I p3 c4 a1) (hd:aC a0 a1 Q) :
  AY prog 226 [.agg (EU a0 gf1),.slice p3 a1.length c4] I (λ_=>Y9 Q):=by
 refine Fun.en func226 ntmps226 r λw0 M=>?_;refine .sr (.bx r λT=>?_);refine .ks 1 r (.ns 6 r (.lw GK DW .z r (.call call259 r (mA R2 hd:) r r λP R e u=>?_)));obtain⟨S,G,rfl,d,hd⟩:=u;obtain⟨R2,R5⟩:=e.u2 R2 R5;refine .sa DW .z r (.nk 6 1 r (.no 38 r (.seq (.sk 1 r (.ln BB r (.kn 1 14372 r (.block (.lp hd [12,11,2] [0] r (λj E l (a,b)=>j ((5,.int .i64 a) :: (13,.int .i64 b) :: E) l) (ji rf [0] r) ?_))))))));rintro⟨a,b⟩ F hd;refine jq r λH c=>?_;obtain⟨f,R5,d⟩:=c.u3 e R5 d;refine .sr (.kn 1 30756 r (.seq (.condP r hd (λg hd=>?_) λg hd=>?_)))
 . refine .sn 14372 r (.seq (.block (.sr ?_)));obtain⟨v,J,i,K,o149,w,k,hd⟩:=R5.ix hd;refine .ixb BB D5 w v i r (.ldb 0 AE k r (.ks 1 r (.ns 14500 r (.lw GK DW .z r (.ks 1 r (.cq call260 (iM d hd:) r λL hd=>.ks 1 r (.nk 14628 2 r (.no 2111780 r (.condP r hd (λn hd=>?_) λn hd=>?_)))))))))
   . refine .dr [0,1,2,3,4,5,6,7,8,9,10,11,12,13] 14 (.fk 2 r (.hl EM 0 r (.fk 2 r ?_)));obtain⟨x,y,o,N,o167,A,p,hd⟩:=d.2.1.ix hd;refine .h r (.ixb BB D5 A x o r .mk) (.h r (.ldb 0 AE p r .mk) (.fk 1 r (.hl EM 0 r (.fk 1 r ?_))));obtain⟨B,C,q,O,o176,D,s,hd⟩:=d.2.1.ix hd;exact .h r (.ixb BB D5 D B q r .mk) (.h r (.ldb 0 AE s r .mk) (.fk 2 r (.e2 14 (.kn 1 14372 r (.region (.ks 2 r (.nil' (je (A6 (a+(A6 (y - C))),A6 (b+1)) hd c [0] r))))))))
   exact .sn 14372 r (.region (.ks 2 r (.nil' (je (a,A6 (b+1)) hd c [0] r))))
 exact .en 32 r (.drop .z (.sr (.kn 2 16 r (.r1 results226 r f ⟨a,r,hd⟩))))
theorem AaN {a0:AN} {a1:Vec} {Q:Int->Prop} (R2:qP I gf1 a0) (R5:RepSl BM I p3 c4 a1.Items) (hd:aD a0 a1 Q) :
  AY prog 185 [.agg (EU a0 gf1),.agg #[.int .i64 a1.N,.slice p3 a1.Items.length c4]] I (λ_=>Y9 Q):=by
 refine Fun.en func185 ntmps185 r λw0 M=>?_;refine .sr (.bx r λm=>.bx r λn=>?_);refine .kn 1 12 r (.seq (.dr [0,1,2,3] 4 (.h r (.lw GK DW .p1 r .mk) (.h r (.lw BC AG .z r .mk) (.ww r (.call call225 r (ZM R5 hd:) r r λg i a c=>?_))))));obtain⟨j,k,l,rfl,e,hd⟩:=c;obtain⟨R2,R5⟩:=a.u2 R2 R5;exact .so 2 r r r (.ch r (.lw GK DW .p1 r .mk) tv) (.ww r (.cq call226 (AaM R2 e hd:) r λf hd=>.so 2 r r r tv (.e2 4 (.kn 1 16 r (.drop .z (.drop .z (.r1 results185 r a ⟨f,r,hd⟩)))))))
theorem MU {a0:List Int} {a1:Int} {Q:Bool->Prop} (R3:RepSl IC I p1 c2 a0) (hd:KP a0 a1 Q) :
  AY prog 200 [.slice p1 a0.length c2,.int .i64 a1] I (λ_=>cI Q):=by
 refine Fun.en func200 ntmps200 r λw0 M=>.sr (.kn 1 3 r (.seq (.dr [0,1,2,3,4,5,6,7,8,9,10,11,12,13] 14 (.fk 2 r (.ww r (.cq call130 (ZJ R3 hd:) r λn hd=>.so 0 r r r tv (.fk 1 r ?_)))))));refine D6 hd (λa hd=>?_) λa hd=>?_
 . refine .h r (.gyes r r a (.move r r r .mk)) (.h r (.gyes r r a (.move r r r .mk)) (.h r (.gyes r r a (.shr' r r (by decide) r r .mk)) ?_));obtain⟨i,j,b,l,o13,d,c,hd⟩:=R3.ix hd;refine .h r (.gyes r r a (.ixb T3 KX d i b r .mk)) (.h r (.gyes r r a (.ldb 0 GY c r .mk)) (.h r (.gyes r r a (.move r r r .mk)) (.ww r ?_)));refine .gyes r r a (.callP call131 r (lZ (I:=I) hd:) r r λm f=>?_);obtain⟨k,rfl,hd⟩:=f;exact .so 0 r r r (.ch r (.gyes r r a (.ldb 0 GY c r .mk)) (.ch r (.gyes r r a (.ixb T3 KX d i b r .mk)) (.ch r (.gyes r r a (.shr' r r (by decide) r r .mk)) (.ch r (.gyes r r a (.move r r r .mk)) (.ch r (.gyes r r a (.move r r r .mk)) tv))))) (.h r (.gyes r r a (.and r r r r .mk)) (.h r (.gyes r r a (.ne r r r r .mk)) (.h r (.pickT r a r r r .mk) (.e2 14 (.kn 1 16 r (.r0 results200 r ⟨((XQ .u64 j k) != 0),r,hd⟩))))))
 exact .gn r a (.gn r a (.gn r a (.gn r a (.gn r a (.gn r a (.gn r a (.gn r a (.gn r a (.h r (.pickF r a r r r .mk) (.e2 14 (.kn 1 16 r (.r0 results200 r ⟨false,r,hd⟩))))))))))))
theorem cT {a0:Dense} {Q:Bool->Prop} (R2:uM I gk1 a0) (hd:Q4 a0 Q) :
  AY prog 288 [.agg (K8 a0 gk1)] I (λ_=>cI Q):=by
 refine Fun.en func288 ntmps288 r λw0 M=>.sr (.bx r λy=>.kn 1 2 r (.seq (.sk 1 r (.lo MZ .z r (.ks 1 r (.lo AE .z r (.cq call218 (cR R2.1 hd:) r λt hd=>.ks 2 r (.spl hd [10,11] r (λg hd=>?_) λg hd=>?_))))))))
 . exact .kn 7 262146 r (.condKT r r (.sr (.kn 1 4 r (.drop .z (.r0 results288 r ⟨false,r,hd⟩)))))
 refine .ks 1 r (.yes r (.lo DY .z r (.yes r (.ln D7 r (.ks 1 r (.yes r (.lo AE .z r (.kn 2 262146 r (.condP r hd (λh hd=>?_) λh hd=>?_)))))))))
 . exact .sr (.kn 1 4 r (.drop .z (.r0 results288 r ⟨false,r,hd⟩)))
 refine .sn 2 r (.seq (.sk 1 r (.lo DY .z r (.ln D7 r (.kn 1 7340034 r (.block (.lp hd [21,20,1] [0] r (λj E l b=>j ((22,.int .i64 b) :: E) l) (ji rf [0] r) ?_)))))));refine λb o hd=>jq r λu a=>?_;have R2:=a.u1 R2;refine .sr (.kn 1 15728642 r (.seq (.condP r hd (λi hd=>?_) λi hd=>?_)))
 . refine .sn 7340034 r (.seq (.block (.sk 1 r ?_)));obtain⟨p,v,k,w,o93,q,m,hd⟩:=R2.2.ix hd;refine .ixb D7 bK q p k r (.ldb 0 O7 m r (.ks 2 r (.nk 7340058 3 r (.spl hd [28,29] r (λn hd=>?_) λn hd=>?_))))
   . refine .ks 1 r (.yes r (.lo MZ .z r (.ks 1 r ?_)));refine .yes r (.callP call200 r (MU R2.1 hd:) r r λs d=>?_);obtain⟨x,rfl,hd⟩:=d;refine .kn 2 34367078402 r (.condP r hd (λe hd=>?_) λe hd=>?_)
     . exact .sr (.kn 1 4 r (.drop .z (.r1 results288 r a ⟨false,r,hd⟩)))
     exact .sn 7340034 r (.region (.ks 2 r (.nil' (je (A6 (b+1)) hd a [0] r))))
   exact .kn 6 34367078402 r (.condKF r r (.sn 7340034 r (.region (.ks 2 r (.nil' (je (A6 (b+1)) hd a [0] r))))))
 exact .en 0 r (.drop .z (.sr (.kn 1 4 r (.r1 results288 r a ⟨true,r,hd⟩))))
theorem wU {a0:Dense} {Q:Dense->Prop} (R2:uM I gk1 a0) (hd:dC a0 Q) :
  AY prog 261 [.agg (K8 a0 gk1)] I (AnS Q):=by
 refine Fun.en func261 ntmps261 r λw0 M=>.sr (.bx r λx=>.al hZ r λk=>.no 6 r (.seq (.sr (.lw KE EX .p1 r (.cq call288 (cT R2 hd:) r λl hd=>.no 22 r (.condP r hd (λc hd=>?_) λc hd=>?_))))))
 . exact .sr (.lw KE EX .p1 r (.sa EX .z r (.no 4 r (.drop .p1 (.ret (B0 r (.w KE EX r .z r .n) rf ⟨a0,gk1,r,R2,hd⟩))))))
 refine .sn 4 r (.drop .p1 (.sr ?_));refine .callO call224 r (UR (I:=I) hd:) r r λm o p e f=>?_;obtain⟨i,q,s,t,u,rfl,a,rfl,hd⟩:=f;refine .sa EX .p1 r (.no 4 r (.pub .z λv g j=>?_));obtain⟨h,a⟩:=g.u2 e a;exact .ret (B0 r (.w KE EX r .z r .n) h ⟨i,((_,_),(_,_)),r,⟨a,j⟩,hd⟩)
theorem mL {a0:Dense} {Q:Dense->Prop} (R2:uM I gk1 a0) (hd:UW a0 Q) :
  Fun prog 262 #[.agg (K8 a0 gk1)] I [] (λI_ v l=>∃ r b3 gk4,v=.func (.func 289) #[] #[.pointer (some ⟨b3,0,none⟩)]∧uM I_ gk4 r∧l=[pto b3 (.cells (K8 r gk4) 228 (0,0))]∧Q r):=by
 exact Fun.en func262 ntmps262 r λw0 M=>.sr (.bx r λb3=>.ks 1 r (.ns 2 r (.mkFn r r r r (.kn 1 4 r (.q1 results262 rf [0] r ⟨a0,_,gk1,r,R2,r,hd⟩)))))
theorem iN {o0:Nat} {o1:Vec} {o2:Dense} {Y:Nat->Vec->Int->Int->((Bool×Nat×Vec)->Prop)->Prop} {Q:(Nat×Vec)->Prop} (hY:∀ {J_:IH},I.le J_->∀ {y12:Nat} {y13:Vec} {x19:Int} {x20:Int} {p15:Option Addr} {c16:Nat} {Qy:(Bool×Nat×Vec)->Prop},Y y12 y13 x19 x20 Qy->RFun prog lr [.int .i64 x19,.int .i64 x20] J_ [Rr y12,pto b4 (.cells #[.int .i64 y13.N,.slice p15 y13.Items.length c16] 118 (0,0)),OwnSl BM 184 p15 c16 y13.Items] (λI_ v l=>∃ r p22 c23,v=.bool r.1∧l=[Rr r.2.1,pto b4 (.cells #[.int .i64 r.2.2.N,.slice p22 r.2.2.Items.length c23] 118 (0,0)),OwnSl BM 184 p22 c23 r.2.2.Items]∧Qy r)) (R11:uM I gk10 o2) (hd:QL o0 o1 o2 Y Q) :
  Fun prog 289 #[.func (.yield lr) #[] #[],.pointer (some ⟨b9,0,none⟩)] I [Rr o0,pto b4 (.cells #[.int .i64 o1.N,.slice p5 o1.Items.length c6] 118 (0,0)),OwnSl BM 184 p5 c6 o1.Items,pto b9 (.cells (K8 o2 gk10) 228 (0,0))] (λI_ v l=>∃ r p13 c14,v=.tuple #[]∧l=[Rr r.1,pto b4 (.cells #[.int .i64 r.2.N,.slice p13 r.2.Items.length c14] 118 (0,0)),OwnSl BM 184 p13 c14 r.2.Items,pto b9 (.cells (K8 o2 gk10) 228 (0,0))]∧Q r):=by
 refine Fun.en func289 ntmps289 r λw0 M=>.sk 1 r (.lo MZ .p3 r (.cq call254 (XK R11.1 hd:) r λR hd=>.kn 1 11 r (.block (.lx hd [1,0] [3] r (λj E l (e,b,k,f)=>λc w=>∃ g h,j ⟨23,[],none⟩ (λI_=>True) ((3,.int .i64 k) :: E) (pto b4 (.cells #[.int .i64 e,.slice g b.length h] 118 (0,0)) :: OwnSl BM 184 g h b :: Rr f :: l) c w) (λc w ho hs=>⟨_,_,jf rf tv [1,1,0,0] r ho hs⟩) ?_))));rintro⟨e,b,k,f⟩ G hd c w ⟨g,h,A,a,_,hok,hsym⟩;have R11:=a.u1 R11;refine Cod.at hok hsym (.seq (.sr (.kn 2 267 r (.condP r hd (λp hd=>?_) λp hd=>?_))))
 . refine .sn 11 r (.seq (.block (.sk 3 r (.lo DY .p3 r (.ks 1 r ?_)))));obtain⟨B,C,q,H,o126,D,i,hd⟩:=R11.2.ix hd;refine .ixb D7 bK D B q r (.ldb 0 O7 i r ?_);have s:=hY (J_:=A) a (y12:=f) (y13:=({ N:=e,Items:=b }:Vec)) (x19:=k) (x20:=C) (p15:=g) (c16:=h) hd;refine .callY r r (.o [2,0,0] r) s r r λJ K L t u=>?_;obtain⟨d,O,P,rfl,rfl,hd⟩:=u;obtain⟨m,R11,i⟩:=t.u3 a R11 i;refine .rn 4 r (.kn 1 4194315 r (.condP r hd (λx hd=>?_) λx hd=>?_))
   . exact .ret (CT r .n m (.o [0,0,0,0] r) ⟨(d.2.1,d.2.2),_,_,r,r,hd⟩)
   exact .sn 11 r (.region (.ks 1 r (.lo MZ .p3 r (.ks 2 r (.cq call254 (XK R11.1 hd:) r λF hd=>.ks 1 r (.nil' λc w ho hs=>⟨(d.2.2.N,d.2.2.Items,F,d.2.1),hd,_,_,jf m tv [1,1,0,0] r ho hs⟩))))))
 exact .exit (HG r .n a (.o [2,0,0,0] r) ⟨(f,({ N:=e,Items:=b }:Vec)),_,_,r,r,hd⟩)
theorem wV {a0:Dense} {Q:Vec->Prop} (R2:uM I gk1 a0) (hd:WQ a0 Q) :
  AY prog 227 [.agg (K8 a0 gk1)] I (AnT Q):=by
 refine Fun.en func227 ntmps227 r λw0 M=>?_;refine .marks0 (.sr (.bx r λW=>.al BN r λX=>?_));refine .ns 6 r (.lw KE EX .p1 r (.call call261 r (wU R2 hd:) r r λY Z b t=>?_));obtain⟨E,K,rfl,d,hd⟩:=t;have R2:=b.u1 R2;refine .sa EX .p1 r (.nk 6 1 r (.lo AE .p1 r (.bd BN EJ G5 r (.al BN r λF=>?_))));refine .sa AG .z r (.no 14 r (.seq (.sr (.lw KE EX .p2 r ?_))));refine .callS (.f call262 r) .n (mL d hd:) r r λa1 G a2 v x=>?_;obtain⟨H,J,y,rfl,a,rfl,hd⟩:=x;obtain⟨A,d⟩:=v.u2 b d;refine .rn 5 r (.no 4108 r (.drop .p3 (.block (.own0 BM 184 (.rangeF [] r call289 (.o [4,2,0,0] r) λlr D rc hrc=>?_)))));refine⟨_,iN (I:=G) (lr:=lr) (Rr:=bD lr [] rc) (o0:=0) (o1:=({ N:=E.N,Items:=([]:List AM) }:Vec)) (o2:=H) (b4:=F) (p5:=none) (c6:=0) (b9:=J) (gk10:=y) ?_ a hd,?_⟩
 . intro I hJ a3 p q e a4 a5 Qy  hd
   replace a:=hJ.u1 a
   obtain⟨rfl,hd⟩:=hd;refine RFun.mk hrc r λw0 M=>.sr (.kn 1 16408 r (.region (.ks 1 r (.nil' λc w ho hs=>nM (E':=[(3,_),(4,_),(5,_)]) ho ⟨r,r,r,tv⟩ hs .z (.block (.region (.ks 1 r (.lo GZ .p1 r (.ks 2 r (.bd KF pU pQ r (.bs 1 DM D8 KF r λL=>?_)))))))))));obtain⟨g,hd⟩:=hd;exact .append (ys:=[({ At:=q,Val:=e }:AM)]) 16 .p3 DM DM pP r r r r r r r r r (.box .z (.one r) r) g r r λO P=>.ks 1 r (.s1 sizeOf116 .p3 r (.nil' λc w ho hs=>Ab8 0 (.inl rfl) rf .p2 (.o [2,0] rfl) ⟨(true,0,({ N:=p.N,Items:=(p.Items++([({ At:=q,Val:=e }:AM)])) }:Vec)),_,_,rfl,rfl,hd⟩ hs))
 intro R S l' h j;obtain⟨B,T,U,rfl,rfl,hd⟩:=j;obtain⟨k,a⟩:=h.u2 A a;obtain⟨hz,hd⟩:=hd;refine⟨_,_,r,λhj=>?_,λi hj=>absurd (hz.symm.trans hj) (by simp)⟩;refine .rn 5 r (.mkS 12 r r (.drop .p3 (.sr (.lw BC AG .p1 r (.sa AG .p3 r (.no 4 r (.drop .p1 (.pub .p1 λV l C=>?_))))))));have m:=l.u1 k;exact .ret (sD .z results227 (.w BC AG r .z r .n) m ⟨B.2,_,_,r,C,hd⟩)
theorem XL {a0:Y2} {Q:Vec->Prop} (R2:lTl I gl1 a0) (hd:OQ a0 Q) :
  AY prog 186 [.agg (AgV a0 gl1)] I (AnT Q):=by
 refine Fun.en func186 ntmps186 r λw0 M=>.sr (.bx r λD=>.al BN r λF=>.no 6 r (.seq (.block (.sk 1 r (.lo isAgg97 .p1 r (.kn 2 14 r (.condP r hd (λd hd=>?_) λd hd=>?_)))))))
 . refine .sk 1 r (.loadA KE EX r .p1 (.o 3 r) r r r ?_);refine .call call227 r (wV R2.2 hd:) r r λG H b f=>?_;obtain⟨x,J,K,rfl,y,hd⟩:=f;have R2:=b.u1 R2;exact .sa AG .z r (.no 4 r (.drop .p1 (.ret (B0 r (.w BC AG r .z r .n) b ⟨x,_,_,r,y,hd⟩))))
 refine .seq (.jn hd [2,1] [1,0] r (λj E l c=>j ((10,.bool c) :: E) l) (λL hd=>?_) ?_)
 . refine .region (.ks 1 r (.lo isAgg97 .p1 r (.ks 2 r (.spl hd [13,14] r (λg hd=>?_) λg hd=>?_))))
   . refine .ks 1 r (.yes r (.loadA BC AG r .p1 (.o 2 r) r r r ?_));refine .yes r (.callP call177 r (FB R2.1 hd:) r r λO k=>?_);obtain⟨A,rfl,hd⟩:=k;exact .ks 2 r (.nil' (je A hd rf [1,0] r))
   exact .ks 5 r (.nil' (je false hd rf [1,0] r))
 refine λc hd=>jq r λP a=>?_;have R2:=a.u1 R2;refine .condP r hd (λm hd=>?_) λm hd=>?_
 . refine .seq (.dr [0,1,2,3,4,5,6,7] 8 (.fk 2 r (.hl AE 0 r (.fk 2 r (.hl GZ 0 r (.ww r ?_))))));refine .callO call132 r (BF R2.1 hd:) r r λR S T q s=>?_;obtain⟨B,U,V,rfl,rfl,hd⟩:=s;obtain⟨t,R2⟩:=q.u2 a R2;refine .so 3 r r r (.ch r (.lo AE .p1 r .mk) (.ck 2 r r tv)) (.h r (.bd BN EJ G5 r .mk) (.e2 8 (.sa AG .p2 r (.no 4 r (.drop .p1 (.pub .z λW u C=>?_))))));have v:=u.u1 t;exact .ret (B0 r (.w BC AG r .z r .n) v ⟨({ N:=a0.Vec.N,Items:=B }:Vec),_,_,r,C,hd⟩)
 exact .sn 4 r (.drop .z (.sr (.bd BN EJ G5 r (.sa AG .z r (.no 4 r (.ret (B0 r (.w BC AG r .z r .n) a ⟨BO,_,_,r,(.nil _ _ _),hd⟩)))))))
theorem AaO {a0:Rows} {Q:Int->Prop} (R2:iV I gd1 a0) (hd:aF a0 Q) :
  AY prog 187 [.agg (K7 a0 gd1)] I (λ_=>Y9 Q):=by
 refine Fun.en func187 ntmps187 r λw0 M=>?_;refine .sr (.bx r λg=>?_);refine .ks 1 r (.ns 2 r (.lw FA CH .z r (.call call118 r (T9 R2 hd:) r r λh i a c=>?_)));obtain⟨d,e,rfl,f,hd⟩:=c;have R2:=a.u1 R2;exact .field1 Aa6 r EM r r r r (.ln BB r (.kn 1 4 r (.drop .z (.r1 results187 r a ⟨(d.Col.length:Int),r,hd⟩))))
theorem wW {a0:List B8} {Q:Bool->Prop} (R3:RepSl EA I p1 c2 a0) (hd:WR a0 Q) :
  AY prog 193 [.slice p1 a0.length c2] I (λ_=>cI Q):=by
 refine Fun.en func193 ntmps193 r λw0 M=>.sr (.kn 1 1 r (.seq (.sk 1 r (.ln DZ r (.kn 1 97 r (.block (.lp hd [5,0] [] r (λj E l c=>j ((6,.int .i64 c) :: E) l) (ji rf [] r) ?_)))))));refine λc m hd=>jq r λs a=>?_;have R3:=a.u1 R3;refine .sr (.kn 1 225 r (.seq (.condP r hd (λd hd=>?_) λd hd=>?_)))
 . refine .sn 97 r (.seq (.block (.sr (.kn 2 105 r (.seq (.dr [0,1,2,3,4,5,6,7,8,9,10,11,12,13,14,15] 16 (.fk 3 r ?_)))))));refine D6 hd (λb hd=>?_) λb hd=>?_
   . rw[b];refine .fk 3 r ?_;obtain⟨n,t,e,u,o42,o,f,hd⟩:=R3.ix hd;refine .h r (.yes r (.ixb DZ EW o n e r .mk)) (.fk 1 r (.h r (.yes r (.ldb 0 AE f r .mk)) (.fk 2 r ?_)));obtain⟨p,v,g,w,o51,q,i,hd⟩:=R3.ix hd;refine .h r (.yes r (.ixb DZ EW q p g r .mk)) (.fk 1 r (.h r (.yes r (.ldb 0 AE i r .mk)) (.fk 2 r (.e2 16 (.no 16777313 r (.condP r hd (λk hd=>?_) λk hd=>?_))))))
     . exact .sr (.kn 1 4 r (.r1 results193 r a ⟨false,r,hd⟩))
     exact .sn 97 r (.region (.ks 2 r (.nil' (je (A6 (c+1)) hd a [] r))))
   rw[b];exact .fk 13 r (.e2 16 (.no 16777313 r (.condKF r r (.sn 97 r (.region (.ks 2 r (.nil' (je (A6 (c+1)) hd a [] r))))))))
 exact .en 0 r (.sr (.kn 1 4 r (.r1 results193 r a ⟨true,r,hd⟩)))
theorem kN {a0:List AF} {Q:Int->Prop} (R3:RepSl E0 I p1 c2 a0) (hd:NF a0 Q) :
  AY prog 195 [.slice p1 a0.length c2] I (λ_=>Y9 Q):=by
 exact Fun.en func195 ntmps195 r λw0 M=>.sk 1 r (.nk 1 1 r (.ln NZ r (.kn 1 4 r (.r0 results195 r ⟨(a0.length:Int),r,hd⟩))))
theorem eH {a0:List B8} {Q:Bool->Prop} (R3:RepSl EA I p1 c2 a0) (hd:OR a0 Q) :
  Fun prog 192 #[.slice p1 a0.length c2] I [] (λI_ v l=>∃ r,v=.bool r∧l=[]∧Q r):=by
 exact Fun.en func192 ntmps192 r λw0 M=>.sk 1 r (.nk 1 1 r (.cq call193 (wW R3 hd:) r λb hd=>.kn 2 4 r (.q1 results192 rf [] r ⟨(!b),r,r,hd⟩)))
theorem KH {a0:List (List B8)} {Q:Int->Prop} (R3:RepSl (mD EA) I p1 c2 a0) (hd:DR a0 Q) :
  Fun prog 231 #[.slice p1 a0.length c2,.func (.func 192) #[] #[]] I [] (λI_ v l=>∃ r,v=.int .i64 r∧l=[]∧Q r):=by
 refine Fun.en func231 ntmps231 r λw0 M=>.sr (.kn 1 3 r (.seq (.sk 1 r (.ln lV r (.kn 1 387 r (.block (.lp hd [7,1,0] [] r (λj E l d=>j ((8,.int .i64 d) :: E) l) (ji rf [] r) ?_)))))));refine λd p hd=>jq r λu a=>?_;have R3:=a.u1 R3;refine .sr (.kn 1 899 r (.seq (.condP r hd (λh hd=>?_) λh hd=>?_)))
 . refine .sn 387 r (.seq (.block (.sk 2 r (.nk 419 3 r ?_))));obtain⟨q,w,e,hd⟩:=hd;obtain⟨x,o61,t,s,b,y,z,rfl,f⟩:=R3.2 _ _ e;refine .ixb lV Y0 s q e r (.ldb 0 IZ b r ?_);refine .callS (.c call192 r r) .n (eH f hd:) r r λA B C k m=>?_;obtain⟨D,rfl,rfl,hd⟩:=m;obtain⟨g,R3,f,b⟩:=k.u4 a R3 f b;refine .rn 0 r (.no 65955 r (.condP r hd (λo hd=>?_) λo hd=>?_))
   . exact .sr (.kn 2 18 r (.q1 results231 g [] r ⟨d,r,r,hd⟩))
   exact .sn 387 r (.region (.ks 2 r (.nil' (je (A6 (d+1)) hd g [] r))))
 exact .en 2 r (.sr (.kn 1 18 r (.q1 results231 a [] r ⟨(-1),r,r,hd⟩)))
theorem J0 {a0:List (List B8)} {Q:Bool->Prop} (R3:RepSl (mD EA) I p1 c2 a0) (hd:BZ a0 Q) :
  Fun prog 191 #[.slice p1 a0.length c2,.func (.func 192) #[] #[]] I [] (λI_ v l=>∃ r,v=.bool r∧l=[]∧Q r):=by
 refine Fun.en func191 ntmps191 r λw0 M=>?_;refine .sk 1 r (.nk 3 2 r ?_);refine .callS (.f call231 r) .n (KH R3 hd:) r r λe g h a c=>?_;obtain⟨d,rfl,rfl,hd⟩:=c;have R3:=a.u1 R3;exact .rn 0 r (.kn 2 18 r (.q1 results191 a [] r ⟨(decide (0<=d)),r,r,hd⟩))
theorem Y5 {o0:A7} {a0:AF} {Q:A7->Prop} (R13:RepSl EA I p11 c12 a0.l) (hd:LA o0 a0 Q) :
  Fun prog 333 #[.pointer (some ⟨b2,0,none⟩),.iface 311 (.agg #[.slice p11 a0.l.length c12,.int .i64 a0.which])] I (kL2 o0 b2 p3 c4 p6 c7) (λI_ v l=>∃ r p15 c16 p18 c19,v=.tuple #[]∧l=(kL2 r b2 p15 c16 p18 c19)∧Q r):=by
 refine Fun.en func333 ntmps333 r λw0 M=>.sk 1 r (.assertOk underlying311 r r r r (.ks 3 r (.al zeroValue311 r λb=>.sa IY .z r (.ks 1 r (.nk 49 1 r (.no 2065 r (.condKT r r (.dr [0,1,2,3,4,5,6] 7 (.fk 3 r (.hl T6 1 r (.h r (.lw isAgg311 IY .z r .mk) (.ww r ?_))))))))))));refine .bs 1 NZ IY zeroValue311 r λc=>.so 5 r r r (.ch r (.lo T6 .p2 r .mk) (.ck 3 r r tv)) (.ww r ?_);obtain⟨a,hd⟩:=hd;exact .append (ys:=[a0]) 32 .p3 NZ NZ AnK r r r r r r r r r (.box .z (.one ⟨_,_,r,R13⟩) r) a r r λd e=>.so 5 r r r (.ck 1 r r tv) (.e2 7 (.ks 1 r (.s1 sizeOf271 .p3 r (.nil' (HG r .n rf (.o [3,0,2] r) ⟨({ o0 with heads:=(o0.heads++([a0])) }:A7),_,_,_,_,r,r,hd⟩)))))
theorem QF {o0:List AF} {Q:Int->Prop} (hd:GA o0 Q) :
  Fun prog 195 #[.slice p2 o0.length c3] I [OwnSl E0 311 p2 c3 o0] (λI_ v l=>∃ r,v=.int .i64 r∧l=[OwnSl E0 311 p2 c3 o0]∧Q r):=by
 exact Fun.en func195 ntmps195 r λw0 M=>.sk 1 r (.nk 1 1 r (.ln NZ r (.kn 1 5 r (.q1 results195 rf [0] r ⟨(o0.length:Int),r,r,hd⟩))))
end Go.Proofs.YtkbkaodgfedfmaaGreat
