import Derived.Test.YtieniichmjgmcaaGreatV1
set_option linter.unusedVariables false
set_option linter.unusedSimpArgs false
set_option maxRecDepth 8000
set_option maxHeartbeats 1000000
namespace Go.Proofs.YtieniichmjgmcaaGreat
open Go Go.Fw
open Tryz
variable {I:IH}
variable {b2 b3 b4 b5 b6 b7 b8 b9 c2 c3 c4 c5 c6 c7 c8 c9 lr b10 b11 b13 b16 b18 b21 b22 b26 c10 c11 c12 c18 c20 c24:Nat}
variable {p1 p2 p3 p4 p5 p6 p7 p8 p9 p10 p11 p17 p19 p23:Option Addr}
variable {Rr:Nat→HA}
variable {ga1 ga3:aTa}
variable {gb1 gb11:aTb}
variable {gd1 gd4 gd11:aTd}
variable {gg1 gg4 gg8 gg14 gg17:aTg}
variable {gh1 gh2 gh11 gh19:aTh}
variable {gi1 gi3 gi10 gi14:aTi}
variable {gj1:aTj}
variable {gk1:aTk}
variable {gn3:aTn}
variable {gq3 gq4 gq5:aTq}
theorem KQ {o0 a0 a1 Q} (D:F6 o0 a0 a1 Q) :
  Fun prog 397 #[.slice p2 o0.length c3,vi a0,vi a1] I [OwnSl EL 394 p2 c3 o0] (λ_ v l=>∃ r,v=.bool r∧l=[OwnSl EL 394 p2 c3 o0]∧Q r):=by
 refine Fun.ee func397 ntmps397 r (.F (.C 1 7 r (.B (.ownF .z λA=>.openS .z λ_ a=>.dr [0,1,2,3,4,5,6,7,8,9,10,11,12,13,14,15,17,18,19,20,21,22,23,24,25,26,16,27,28,29,30] 31 (.J 2 r ?_)))));have⟨G,_,n,D⟩:=D;have⟨_,H⟩:=A (DJ n);cases H;obtain⟨_,_,t,_,_,rfl,o⟩:=a.get n;refine .h r (.v OX K6 r r G (BF n G) r r .mk) (.J 1 r (.h r (.lo1 (j:=0) K7 .z t r r r r r .mk) ?_));have⟨J,_,B,_,_,K,b,D⟩:=o.ix D;refine .h r (.W EK FH K J B r .mk) (.J 1 r (.h r (.x 0 AJ b r .mk) (.J 2 r ?_)));have⟨w,_,p,D⟩:=D;obtain⟨_,_,u,_,_,rfl,q⟩:=a.get p;refine .h r (.v OX K6 r r w (BF p w) r r .mk) (.J 1 r (.h r (.lo1 (j:=0) K7 .z u r r r r r .mk) ?_));have⟨L,_,C,_,_,N,c,D⟩:=q.ix D;refine .h r (.W EK FH N L C r .mk) (.J 1 r (.h r (.x 0 AJ c r .mk) (.J 2 r ?_)));have⟨f,_,d,D⟩:=D;obtain⟨_,_,g,_,_,rfl,_⟩:=a.get d;refine .h r (.v OX K6 r r f (BF d f) r r .mk) (.J 1 r (.h r (.lo1 (j:=1) AJ .z g r r r r r .mk) (.J 2 r ?_)));have⟨i,_,e,D⟩:=D;obtain⟨_,_,m,_,_,rfl,_⟩:=a.get e;refine .h r (.v OX K6 r r i (BF e i) r r .mk) (.J 1 r (.h r (.lo1 (j:=1) AJ .z m r r r r r .mk) (.Y r (.u call160 (DI (I:=I) D:) r λx D=>?_))));refine .q 1 r (.X r (.lo1 (j:=1) AJ .z m r r r r r .mk) (.Z 1 r r (.X r (.v OX K6 r r i (BF e i) r r .mk) (.Z 2 r r (.X r (.lo1 (j:=1) AJ .z g r r r r r .mk) (.Z 1 r r (.X r (.v OX K6 r r f (BF d f) r r .mk) (.Z 2 r r tv)))))))) (.Y r (.u call160 (DI (I:=I) D:) r λy D=>?_));refine .q 1 r tv (.Y r (.bs 2 BD DD nT r λ_=>.q 2 r tv (.Y r (.pubB (El:=AV) (ys:=([x,y]:List Int)) (k:=2) .z (RepCs.cons (cs:=[vi x]) r (RepCs.cons (cs:=[vi y]) r .nil)) r λ_ s O=>?_))));have⟨a,o,b,q,c⟩:=s.u5 a o b q c;exact .u call136 (M7 O D:) r λP D=>.q 1 r tv (.J 1 r (.e2 31 (.closeS .z a (.C 1 65 r (.q1 results397 s [0] r ⟨(decide (P<0)),r,r,D⟩)))))
theorem KR {o0 a0 a1 Q} (O:F7 o0 a0 a1 Q) :
  Fun prog 400 #[.slice p2 o0.length c3,vi a0,vi a1] I [OwnSl EL 394 p2 c3 o0] (λ_ v l=>∃ r,v=.tuple #[]∧r.length=o0.length∧l=[OwnSl EL 394 p2 c3 r]∧Q r):=by
 refine Fun.ee func400 ntmps400 r (.ownF .z λF=>.openS .z λ_ a=>.dr AcG 14 (.J 6 r ?_));have⟨G,b,f,O⟩:=O;have⟨d,H⟩:=F (DJ f);cases H;obtain⟨_,_,q,w,y,rfl,J⟩:=a.get f;refine .h r (.v OX K6 r r G (BF f G) r r .mk) (.h r (.loA (j:=0) isAgg394 K6 .z q r r (.o 2 r) r r r .mk) (.J 2 r ?_));have⟨A,c,g,O⟩:=O;obtain⟨_,_,s,B,C,rfl,K⟩:=a.get g;refine .h r (.v OX K6 r r A (BF g A) r r .mk) (.h r (.loA (j:=0) isAgg394 K6 .z s r r (.o 2 r) r r r .mk) ?_);have⟨D,_,i,O⟩:=O;obtain⟨_,_,t,_,_,rfl,_⟩:=a.get i;refine .h r (.v OX K6 r r D (BF i D) r r .mk) (.Y r λ{U}=>?_);have k:=a.set (x:=b) a0.toNat (cs:=[.slice w b.l.length y,vi b.which]) ⟨_,_,r,J⟩ ⟨r,r⟩;refine .stOA (j:=0) (v':=⟨[.slice w b.l.length y,vi b.which],r,r⟩) K6 .z t r r r (.o r) r r (.P 1 r r r (.Z 2 r r tv) (.e2 14 (.sub (E':=[(0,.slice (some ⟨d,0,none⟩) (o0.set a0.toNat b).length c3),(1,_),(2,_),(6,.slice (some ⟨d,0,none⟩) (o0.set a0.toNat b).length c3),(7,_),(8,.slice (some ⟨d,0,none⟩) (o0.set a0.toNat b).length c3),(9,_),(10,.slice (some ⟨d,0,none⟩) (o0.set a0.toNat b).length c3),(11,_),(12,_),(13,_),(14,.slice (some ⟨d,0,none⟩) (o0.set a0.toNat b).length c3),(15,_),(16,_),(17,_),(18,_)]) ⟨(by simp only[QV]; rfl),r,r,(by simp only[QV]; rfl),r,(by simp only[QV]; rfl),r,(by simp only[QV]; rfl),r,r,r,(by simp only[QV]; rfl),r,r,r,r,tv⟩ (.closeS .z k ?_))));have⟨E,_,m,O⟩:=O;refine .v OX K6 r r E (BF m E) r r (.openS .z λ_ e=>?_);obtain⟨_,_,u,_,_,rfl,_⟩:=e.get m;have p:=e.set (x:=c) a1.toNat (cs:=[.slice B c.l.length C,vi c.which]) ⟨_,_,r,K⟩ ⟨r,r⟩;exact .stOA (j:=0) (v':=⟨[.slice B c.l.length C,vi c.which],r,r⟩) K6 .z u r r r (.o r) r r (.closeS .z p (.rl .z [0,6,8,10,14] r (by simp only[QV]) (.H (H3 r .n rf (.o [0] r) ⟨((o0.set a0.toNat b).set a1.toNat c),r,(by first | exact r | omega | (simp only[QV] at * <;> omega)),r,O⟩))))
theorem Y8 {o0 a0 Q} (hd:FF o0 a0 Q) :
  Fun prog 129 #[.iface 392 (vp b2),vi a0] I (kL2 o0 b2 p3 c4 p6 c7) (λI_ v l=>∃ r p12 c13 p15 c16,v=.tuple #[]∧l=(kL2 r b2 p12 c13 p15 c16)∧Q r):=by
 refine Fun.ee func129 ntmps129 r ?_;refine .E (.lx hd [0] [2] r (λj E l (a,b)=>λc w=>j ⟨23,[],none⟩ (λI_=>a.length=o0.heads.length) ((1,vi b) :: E) (pc b2 #[.slice p3 a.length c4,vi o0.r,.slice p6 o0.out.length c7] 364 :: OwnSl EL 394 p3 c4 a :: l) c w) (λc w ho hs=>jf rf (by first | exact r | omega | (simp only[QV] at * <;> omega)) V9 r ho hs) ?_);rintro⟨a,b⟩ x hd c w ⟨y,d,A,hok,hsym⟩;refine Cod.at hok hsym (.E (.N 2 r (.quo r r (by decide) r r (.C 1 19 r (.B (.N 4 r (.T hd [10,11] r (λh hd=>?_) λh hd=>?_)))))))
 . exact .C 6 131091 r (.L r r (.exit (H3 r .n d (.o V9 r) ⟨({ o0 with heads:=a }:AF),_,_,_,_,r,r,hd⟩)))
 refine .G 3 r ?_;refine .O r (.cS (.iv call397 (IB (E6 MD gE r r r ZX) UL .z r) r r) (.o [1] r) r (KQ (I:=y) (p2:=p3) (c3:=c4) hd:) λD C F k m=>?_);obtain⟨G,rfl,rfl,hd⟩:=m;have e:=k.u1 d;refine .rn 3 r (.C 2 131091 r (.A r hd (λp hd=>?_) λp hd=>?_))
 . exact .exit (H3 r .n e (.o rL r) ⟨({ o0 with heads:=a }:AF),_,_,_,_,r,r,hd⟩)
 refine .P 19 r (.N 3 r ?_);refine .cS (.iv call400 (IB (E6 MD gE r r r ZX) UL .p1 r) r r) (.o [0] r) r (KR (I:=C) (p2:=p3) (c3:=c4) hd:) λH J K s t=>?_;obtain⟨g,rfl,f,rfl,hd⟩:=t;have u:=s.u1 e;exact .reat .p1 (B:=pc b2 #[.slice p3 g.length c4,vi o0.r,.slice p6 o0.out.length c7] 364) (by rw[f]) (.M 17 r (.D (.G 2 r (.H λc w ho hs=>⟨_,hd,jf u (by first | exact r | omega | (simp only[QV] at * <;> omega)) rL r ho hs⟩))))
theorem VC {o0 a0 Q} (R13:RepSl EV I p11 c12 a0.l) (hd:IK o0 a0 Q) :
  Fun prog 97 #[.iface 392 (vp b2),.iface 394 (.agg #[.slice p11 a0.l.length c12,vi a0.which])] I (kL2 o0 b2 p3 c4 p6 c7) (λI_ v l=>∃ r p15 c16 p18 c19,v=.tuple #[]∧l=(kL2 r b2 p15 c16 p18 c19)∧Q r):=by
 refine Fun.ee func97 ntmps97 r ?_;refine .N 2 r ?_;refine .cS (.i call399 (YK MD gE r r r ZX) r r) (.o V9 r) r (aL (b2:=b2) (p3:=p3) (c4:=c4) (p6:=p6) (c7:=c7) R13 hd:) λA t B a e=>?_;obtain⟨C,b,c,u,w,rfl,rfl,hd⟩:=e;have R13:=a.u1 R13;refine .rn 3 r (.M 1 r (.D (.G 2 r ?_)));refine .cS (.iv call287 (IB (E6 MD gE r r r ZX) UL .z r) r r) (.o [1] r) r (RU (I:=t) (p2:=b) (c3:=c) hd:) λD x E h j=>?_;obtain⟨F,rfl,rfl,hd⟩:=j;have k:=h.u1 a;refine .rn 3 r (.G 1 r ?_);refine .cS (.f call129 r) (.o rL r) r (Y8 (I:=x) (b2:=b2) (p3:=b) (c4:=c) (p6:=u) (c7:=w) hd:) λG H J p q=>?_;obtain⟨y,K,L,N,O,rfl,rfl,hd⟩:=q;have s:=p.u1 k;exact .rn 3 r (.H (H3 r .n s (.o V9 r) ⟨y,_,_,_,_,r,r,hd⟩))
theorem P7 {o0 a0 a1 Q} (R13:RepSl EV I p11 c12 a0) (hd:GJ o0 a0 a1 Q) :
  Fun prog 286 #[vp b2,.slice p11 a0.length c12,vi a1] I (kL2 o0 b2 p3 c4 p6 c7) (λI_ v l=>∃ r p15 c16 p18 c19,v=.tuple #[]∧l=(kL2 r b2 p15 c16 p18 c19)∧Q r):=by
 refine Fun.ee func286 ntmps286 r ?_;refine .N 1 r (.ln EK r (.C 1 263 r (.A r hd (λb hd=>?_) λb hd=>?_)))
 . refine .D (.G 3 r (.mkIface ZX r r r r (.G 2 r (.bd zeroValue394 underlying394 AxR r (.mkIface underlying394 r r r r ?_)))));refine .cS (.f call97 r) (.o V9 r) r (VC (a0:=({ l:=a0,which:=a1 }:B8)) (b2:=b2) (p3:=p3) (c4:=c4) (p6:=p6) (c7:=c7) R13 hd:) λg h i a d=>?_;obtain⟨e,j,k,m,p,rfl,rfl,hd⟩:=d;have R13:=a.u1 R13;exact .rn 3 r (.H (H3 r .n a (.o V9 r) ⟨e,_,_,_,_,r,r,hd⟩))
 exact .AB (H3 r .n rf (.o V9 r) ⟨o0,_,_,_,_,r,r,hd⟩)
theorem VD {o0 a0 a1 Q} (hd:G5 o0 a0 a1 Q) :
  Fun prog 128 #[.iface 392 (vp b2),vi a0,vi a1] I (kL2 o0 b2 p3 c4 p6 c7) (λI_ v l=>∃ r p12 c13 p15 c16,v=.bool r.1∧l=(kL2 r.2 b2 p12 c13 p15 c16)∧Q r):=by
 refine Fun.ee func128 ntmps128 r ?_;refine .N 1 r (.U 7 2 r (.M 135 r (.B (.E (.lx hd nl7 [2] r (λj E l (b,a)=>λc w=>j ⟨48,[],none⟩ (λI_=>b.length=o0.heads.length) ((7,vi a) :: E) (pc b2 #[.slice p3 b.length c4,vi o0.r,.slice p6 o0.out.length c7] 364 :: OwnSl EL 394 p3 c4 b :: l) c w) (λc w ho hs=>jf rf (by first | exact r | omega | (simp only[QV] at * <;> omega)) V9 r ho hs) ?_)))));rintro⟨b,a⟩ O hd c w ⟨K,d,P,hok,hsym⟩;refine Cod.at hok hsym (.E (.F (.C 4 391 r (.B (.N 4 r (.T hd [17,18] r (λm hd=>?_) λm hd=>?_))))))
 . exact .C 3 2097543 r (.L r r (.en 131 r (.F (.C 4 65 r (.q1 results128 d V9 r ⟨(decide (a0<a),({ o0 with heads:=b }:AF)),_,_,_,_,r,r,hd⟩)))))
 refine .C 3 2097543 r (.A r hd (λn hd=>?_) λn hd=>?_)
 . exact .en 131 r (.F (.C 4 65 r (.q1 results128 d V9 r ⟨(decide (a0<a),({ o0 with heads:=b }:AF)),_,_,_,_,r,r,hd⟩)))
 refine .P 391 r (.F (.C 2 903 r (.B (.jn hd [7,2,1,0] V9 r (λj E l f=>j ((9,vi f) :: E) l) (λT hd=>?_) ?_))))
 . refine .N 3 r (.U 1927 4 r (.T hd [27,28] r (λp hd=>?_) λp hd=>?_))
   . refine .G 3 r ?_;refine .O r (.cS (.iv call397 (IB (E6 MD gE r r r ZX) UL .z r) r r) (.o [1] r) r (KQ (I:=K) (p2:=p3) (c3:=c4) hd:) λU V W e s=>?_);obtain⟨X,rfl,rfl,hd⟩:=s;have R:=e.u1 d;refine .rn 3 r (.C 1 8589936263 r (.A r hd (λt hd=>?_) λt hd=>?_))
     . exact .D (.G 2 r (.H (je (A4 ((A4 ((A4 (2*a))+1))+1)) hd e rL r)))
     exact .AB (je (A4 ((A4 (2*a))+1)) hd e rL r)
   exact .C 5 8589936263 r (.j r r (.AB (je (A4 ((A4 (2*a))+1)) hd rf V9 r)))
 refine λf hd=>jq r λL g=>?_;have u:=g.u1 d;refine .B (.N 3 r ?_);refine .cS (.iv call397 (IB (E6 MD gE r r r ZX) UL .z r) r r) (.o [1] r) r (KQ (I:=L) (p2:=p3) (c3:=c4) hd:) λY N Z y A=>?_;obtain⟨a2,rfl,rfl,hd⟩:=A;have⟨h,C⟩:=y.u2 u g;refine .rn 3 r (.C 1 549755814535 r (.A r hd (λD hd=>?_) λD hd=>?_))
 . exact .en 131 r (.F (.C 4 65 r (.q1 results128 h rL r ⟨(decide (a0<a),({ o0 with heads:=b }:AF)),_,_,_,_,r,r,hd⟩)))
 refine .P 647 r (.N 3 r ?_);refine .cS (.iv call400 (IB (E6 MD gE r r r ZX) UL .p1 r) r r) (.o [0] r) r (KR (I:=N) (p2:=p3) (c3:=c4) hd:) λa3 a4 a5 G H=>?_;obtain⟨k,rfl,i,rfl,hd⟩:=H;have⟨J,S⟩:=G.u2 h C;exact .reat .p1 (B:=pc b2 #[.slice p3 k.length c4,vi o0.r,.slice p6 o0.out.length c7] 364) (by rw[i]) (.M 519 r (.D (.G 2 r (.H λc w ho hs=>⟨_,hd,jf J (by first | exact r | omega | (simp only[QV] at * <;> omega)) rL r ho hs⟩))))
theorem cY {o0 Q} (hd:NH o0 Q) :
  Fun prog 398 #[vp b2] I (kL2 o0 b2 p3 c4 p6 c7) (λI_ v l=>∃ r p20 c21 p12 c13 p15 c16,v=.iface 394 (.agg #[.slice p20 r.1.l.length c21,vi r.1.which])∧RepSl EV I_ p20 c21 r.1.l∧l=(kL2 r.2 b2 p12 c13 p15 c16)∧Q r):=by
 refine Fun.ee func398 ntmps398 r ?_;refine .N 1 r (.U 1 2 r (.I UL .z r (.ln OX r (.G 2 r (.U 9 2 r (.I UL .z r (.G 1 r ?_)))))));have⟨b,d,a,hd⟩:=hd;refine .ownNe .p1 (DJ a) λh e=>?_;cases e;refine .v OX K6 r r b (BF a b) r r (.loEW isAgg394 K6 .p1 a r r r r r λg c=>?_);obtain⟨i,j,rfl,f⟩:=c;refine .al zeroValue394 r λk=>?_;refine .R K6 .z r (.U 25 3 r (.I UL .p1 r (.G 1 r ?_)));have⟨m,n,o,hd⟩:=hd;exact .sliceT (H:=(A4 ((o0.heads.length:Int) - 1)).toNat) OX K6 r r .p2 .p2 r (by omega) r (by omega) r r (.G 1 r (.s1 sizeOf362 .p1 r (.ns 17 r (.S isAgg394 K6 .z r (.mkIface underlying394 r r r r (.C 1 5 r (.drop .z (.q1 results398 rf V9 r ⟨(d,({ o0 with heads:=(o0.heads.take (A4 ((o0.heads.length:Int) - 1)).toNat) }:AF)),_,_,_,_,_,_,r,f,r,hd⟩))))))))
theorem X2 {o0 Q} (hd:GQ o0 Q) :
  Fun prog 96 #[.iface 392 (vp b2)] I (kL2 o0 b2 p3 c4 p6 c7) (λI_ v l=>∃ r p20 c21 p12 c13 p15 c16,v=.iface 394 (.agg #[.slice p20 r.1.l.length c21,vi r.1.which])∧RepSl EV I_ p20 c21 r.1.l∧l=(kL2 r.2 b2 p12 c13 p15 c16)∧Q r):=by
 refine Fun.ee func96 ntmps96 r ?_;refine .N 1 r (.U 1 1 r ?_);refine .cS (.iv call287 (IB (E6 MD gE r r r ZX) UL .z r) r r) (.o [1] r) r (RU (I:=I) (p2:=p3) (c3:=c4) hd:) λJ x K d e=>?_;obtain⟨L,rfl,rfl,hd⟩:=e;refine .rn 3 r (.G 2 r (.U 9 2 r ?_));refine .cS (.iv call400 (IB (E6 MD gE r r r ZX) UL .p1 r) r r) (.o [0] r) r (KR (I:=x) (p2:=p3) (c3:=c4) hd:) λN y O h j=>?_;obtain⟨A,rfl,a,rfl,hd⟩:=j;have k:=h.u1 d;refine .reat .p1 (B:=pc b2 #[.slice p3 A.length c4,vi o0.r,.slice p6 o0.out.length c7] 364) (by rw[a]) (.U 9 2 r ?_);refine .cS (.f call128 r) (.o rL r) r (VD (I:=y) (b2:=b2) (p3:=p3) (c4:=c4) (p6:=p6) (c7:=c7) hd:) λP C R n p=>?_;obtain⟨S,D,E,F,G,rfl,rfl,hd⟩:=p;have q:=n.u1 k;refine .rn 3 r (.U 1 1 r ?_);refine .cS (.i call398 (YK MD gE r r r ZX) r r) (.o V9 r) r (cY (I:=C) (b2:=b2) (p3:=D) (c4:=E) (p6:=F) (c7:=G) hd:) λT U V t u=>?_;obtain⟨b,W,X,Y,Z,a0,a1,rfl,H,rfl,hd⟩:=u;have w:=t.u1 q;exact .rn 3 r (.C 1 5 r (.q1 results96 w V9 r ⟨(b.1,b.2),_,_,_,_,_,_,r,H,r,hd⟩))
theorem ZH {o0 Q} (hd:FV o0 Q) :
  Fun prog 288 #[vp b2] I (kL2 o0 b2 p3 c4 p6 c7) (fun I_ v l=>∃ r p12 c13 p15 c16,v=.tuple #[]∧l=(kL2 r b2 p12 c13 p15 c16)∧Q r):=by
 refine Fun.ee func288 ntmps288 r ?_
 refine .N 3 r (.I UL .z r ?_)
 obtain ⟨Y,k,m,hd⟩:=hd
 refine .ownNe .p1 (DJ m) fun b3 b4=>?_
 cases b4
 refine .v OX K6 r r Y (BF m Y) r r (.loEW isAgg394 K6 .p1 m r r r r r fun c3 a0=>?_)
 obtain ⟨e0,Z,rfl,b⟩:=a0
 refine .al zeroValue394 r fun e1=>?_
 refine .R K6 .z r (.U 5 3 r (.mkIface ZX r r r r ?_))
 refine .cS (.f call96 r) (.o xQ r) r (X2 (I:=I) (b2:=b2) (p3:=some ⟨b3,0,none⟩) (c4:=c4) (p6:=p6) (c7:=c7) hd:) fun e3 e4 e5 t a2=>?_
 obtain ⟨e6,e7,e8,b5,b6,b7,b8,rfl,e9,rfl,hd⟩:=a2
 have b:=t.u1 b
 refine .rn 4 r (.U 5 1 r (.I K7 .p3 r ?_))
 obtain ⟨b9,u,a3,f0,o90,c0,a4,hd⟩:=b.ix hd
 refine .W EK FH c0 b9 a3 r (.ldW isAgg314 FH a4 r r r r (.al gI r fun f1=>?_))
 refine .R FH .z r (.M 13 r (.B (.dr nl8 7 (.J 2 r (.V K7 4 r ?_)))))
 obtain ⟨a5,c5,c6,hd⟩:=hd
 have w:Int.toNat 1≤Int.toNat (k.l.length:Int):=by omega
 have x:Int.toNat (k.l.length:Int)≤k.l.length:=by omega
 obtain ⟨c8,c9,a6,a7,p⟩:=RepSl.sliceW b (Int.toNat 1) (Int.toNat (k.l.length:Int)) Z w x (.inl rfl)
 refine .h r (.sliceW (L:=Int.toNat 1) (H:=Int.toNat (k.l.length:Int)) (cm:=Z) EK FH r r b.1 r r r (.inr ⟨_,_,r,a5,r⟩) (.inl ⟨r,r,r⟩) (.inl r) w x r a6 a7 r r .mk) (.J 1 r (.V AJ 4 r (.Y r ?_)))
 refine .cS (.f call286 r) (.o xQ r) r (P7 (b2:=b2) (p3:=b5) (c4:=b6) (p6:=b7) (c7:=b8) p hd:) fun d0 d1 d2 R S=>?_
 obtain ⟨a,y,A,d3,C,rfl,rfl,hd⟩:=S
 obtain ⟨T,b,p⟩:=R.u3 t b p
 refine .rx 5 r (.q 5 r tv (.e2 7 (.M 9 r (.drop .p4 (.B (.N 3 r (.I K7 .z r (.ln EK r (.C 1 25 r ?_)))))))))
 refine .B (.jn hd [4,3,0] VA r (fun j E l D=>j ((47,.bool D) :: E) l) (fun d4 hd=>?_) ?_)
 · refine .ownF .p1 fun c1=>?_
   refine .ownF .p2 fun F=>?_
   refine .dr ArS 16 (.J 3 r ?_)
   refine CR hd (fun c hd=>?_) fun c hd=>?_
   · rw [c]
     refine .J 3 r (.h r (.O r (.I K7 .z r .mk)) (.J 2 r ?_))
     obtain ⟨G,a8,d,hd⟩:=hd
     obtain ⟨d5,a9⟩:=F (DJ d)
     cases a9
     exact .h r (.O r (.v EK FH r r G (BF d G) r r .mk)) (.J 1 r (.h r (.O r (.lo1 (j:=0) AJ .p2 d r r r r r .mk)) (.J 1 r (.h r (.O r (.I AJ .p3 r .mk)) (.J 2 r (.e2 16 (.H (je (a8.At==u.At) hd rf VA r))))))))
   rw [c]
   exact .J 13 r (.e2 16 (.H (je false hd rf VA r)))
 refine fun D hd=>jq r fun b0 U=>?_
 have q:=U.u1 T
 refine .A r hd (fun V hd=>?_) fun V hd=>?_
 · refine .B (.ownF .p1 fun c2=>?_)
   refine .ownF .p2 fun J=>?_
   refine .dr AyB 25 (.J 3 r (.V K7 0 r (.J 5 r (.V isAgg109 0 r (.J 3 r (.V K7 0 r (.J 2 r ?_)))))))
   obtain ⟨K,d6,e,hd⟩:=hd
   obtain ⟨N,b1⟩:=J (DJ e)
   cases b1
   refine .h r (.v EK FH r r K (BF e K) r r .mk) (.J 1 r (.h r (.loA (j:=1) CP BE .p2 e r r (.o 2 r) r r r .mk) (.J 1 r (.h r (.y CP BE r .p3 (.o 2 r) r r r .mk) (.Y r ?_)))))
   refine .u call102 (jA (I:=b0) hd:) r fun g hd=>?_
   refine .q 4 r (.Z 2 r r (.X r (.I K7 .z r .mk) (.Z 3 r r tv))) ?_
   obtain ⟨O,i,s,hd⟩:=hd
   refine .h r (.v EK FH r r O (BF s O) r r .mk) (.J 1 r (.Y r fun {ex}=>?_))
   exact .stOA (j:=1) (v':=({ At:=i.At,Val:=g }:BM)) BE .p2 s r r r (.o r) r r (.reat .z (B:=pc b2 #[.slice y a.heads.length A,vi a.r,.slice (some ⟨N,0,none⟩) (a.out.set ((A4 ((a.out.length:Int) - 1)).toNat) ({ At:=i.At,Val:=g }:BM)).length C] 364) (by simp only [QV]) (.P 4 r r r tv (.e2 25 (.rl .p2 [51,61] r (by simp only [QV]) (.reat .z (B:=pc b2 #[.slice y a.heads.length A,vi a.r,.slice (some ⟨N,0,none⟩) (a.out.set ((A4 ((a.out.length:Int) - 1)).toNat) ({ At:=i.At,Val:=g }:BM)).length C] 364) (by simp only [QV]) (.M 1 r (.drop .p3 (.K (DX r .n q (.o V9 r) ⟨({ a with out:=(a.out.set ((A4 ((a.out.length:Int) - 1)).toNat) ({ At:=i.At,Val:=g }:BM)) }:AF),_,_,_,_,r,r,hd⟩)))))))))
 refine .P 9 r (.dr nl5 11 (.J 4 r (.V K7 0 r (.h r (.S isAgg314 FH .p3 r .mk) (.Y r ?_)))))
 refine .bs 1 EK FH gI r fun d7=>?_
 refine .q 5 r (.X r (.I K7 .p1 r .mk) (.Z 4 r r tv)) (.Y r ?_)
 obtain ⟨X,hd⟩:=hd
 refine .ap (ys:=[u]) .p3 EK EK AeF r (.box .z (.one r) r) X fun d8 d9=>?_
 refine .q 5 r (.Z 1 r r tv) (.J 2 r (.Y r ?_))
 exact .s1 ZY .p2 r (.P 5 r r r tv (.e2 11 (.H (H3 r .n q (.o [2,2,0] r) ⟨({ a with out:=(a.out++([u])) }:AF),_,_,_,_,r,r,hd⟩))))
theorem nG {a0 a1 Q} (R3:RepSl (nZ EV) I p1 c2 a1) (hd:U0 a0 a1 Q) :
  wV prog 248 [vi a0,.slice p1 a1.length c2] I (λI_ v l=>∃ r p4 c5,v=.tuple #[.slice p4 r.1.length c5,vi r.2]∧l=[OwnSl EV 314 p4 c5 r.1]∧Q r):=by
 refine Fun.ee func248 ntmps248 r ?_;refine .F (.C 2 3 r (.B (.N 1 r ?_)));refine .u call100 (TE (I:=I) hd:) r λe5 hd=>?_;refine .C 1 2051 r (.A r hd (λa7 hd=>?_) λa7 hd=>?_)
 . exact .F (.C 2 48 r (.own0 EV 314 (.K (DX r (.t r (.t r .n)) rf (.o [0] r) ⟨(([]:List BM),8),_,_,r,r,hd⟩))))
 refine .P 3 r (.B (.N 1 r ?_));refine .cS (.f call283 r) .n r (K8 R3 hd:) λe6 e7 e8 x a9=>?_;obtain⟨e9,rfl,rfl,hd⟩:=a9;have R3:=x.u1 R3;refine .rn 0 r (.M 8195 r (.A r hd (λS hd=>?_) λS hd=>?_))
 . exact .F (.C 2 48 r (.own0 EV 314 (.K (DX r (.t r (.t r .n)) x (.o [0] r) ⟨(([]:List BM),6),_,_,r,r,hd⟩))))
 refine .P 3 r (.N 1 r (.bd zeroValue364 underlying364 AxP r (.bx r λF=>?_)));refine .C 1 66 r (.B (.N 1 r (.ln qQ r (.C 1 917568 r (.E (.own0 EL 394 (.own0 EV 314 (.lx hd [18,17,6] [] r (λj E l (d,y,e,A)=>λc w=>∃ g h i k,j ⟨41,[],none⟩ (λI_=>True) ((19,vi A) :: E) (pc F #[.slice g d.length h,vi y,.slice i e.length k] 364 :: OwnSl EL 394 g h d :: OwnSl EV 314 i k e :: l) c w) (λc w ho hs=>⟨_,_,_,_,jf rf tv nl7 r ho hs⟩) ?_))))))));rintro⟨d,y,e,A⟩ b4 hd c w ⟨g,h,i,k,c0,m,_,hok,hsym⟩;have⟨G,R3⟩:=m.u2 x R3;refine Cod.at hok hsym (.F (.C 1 1966144 r (.B (.A r hd (λP hd=>?_) λP hd=>?_))))
 . refine .P 917568 r (.B (.E (.N 1 r ?_)));have⟨b1,c1,H,hd⟩:=hd;obtain⟨c3,o302,b6,b3,R,c6,c8,rfl,B⟩:=R3.2 _ _ H;refine .W qQ ZY b3 b1 H r (.x 0 K7 R r (.C 2 917952 r (.D (.G 3 r ?_))));refine .cS (.f call286 r) (.o V9 r) r (P7 (o0:=({ heads:=d,r:=y,out:=e }:AF)) (b2:=F) (p3:=g) (c4:=h) (p6:=i) (c7:=k) B hd:) λc9 d0 d1 T U=>?_;obtain⟨C,d2,d3,d4,d5,rfl,rfl,hd⟩:=U;have⟨b7,V,R3,B⟩:=T.u4 G m R3 B;exact .rn 3 r (.M 917568 r (.D (.G 2 r (.H λc w ho hs=>⟨_,hd,_,_,_,_,jf V tv V9 r ho hs⟩))))
 refine .en 64 r (.B (.E (.lx hd [6] [] r (λj E l (p,N,q)=>λc w=>∃ a b s u,j ⟨41,[],none⟩ (λI_=>True) E (pc F #[.slice a p.length b,vi N,.slice s q.length u] 364 :: OwnSl EL 394 a b p :: OwnSl EV 314 s u q :: l) c w) (λc w ho hs=>⟨_,_,_,_,jf rf tv V9 r ho hs⟩) ?_)));rintro⟨p,N,q⟩ b5 hd c w ⟨a,b,s,u,O,K,_,hok,hsym⟩;have⟨L,W⟩:=K.u2 G m;refine Cod.at hok hsym (.B (.N 3 r (.I UL .z r ?_)));have X:=λ(J:IH) (hJ:IH.le O J) (hL:SM J [OwnSl EL 394 a b p])=>pK (I:=J) (Al7 hL.1) hd;refine .callB (.f call287 r) (.o [1] r) X r r λd6 _ Y=>?_;obtain⟨d7,rfl,hd⟩:=Y;refine .C 1 17179869248 r (.A r hd (λZ hd=>?_) λZ hd=>?_)
 . refine .P 64 r (.E (.D (.G 1 r ?_)));refine .cS (.f call288 r) (.o V9 r) r (ZH (I:=O) (b2:=F) (p3:=a) (c4:=b) (p6:=s) (c7:=u) hd:) λd8 d9 e0 a3 a4=>?_;obtain⟨D,e1,e2,e3,e4,rfl,rfl,hd⟩:=a4;have⟨b8,b9,a5⟩:=a3.u3 L W K;exact .rn 3 r (.H λc w ho hs=>⟨_,hd,_,_,_,_,jf a5 tv V9 r ho hs⟩)
 exact .en 64 r (.N 3 r (.I K7 .z r (.C 2 48 r (.drop .z (.drop .z (.K (DX r (.t r (.t r .n)) L (.o [0] r) ⟨(q,0),_,_,r,r,hd⟩)))))))
theorem AcS {a0 a1 a2 Q} (R3:RepSl AV I p1 c2 a0.Draws) (R5:iE I gg4 a1) (hd:YR a0 a1 a2 Q) :
  B6 prog 289 [.agg (M9 a0 p1 c2),.agg (GW a1 gg4),vi a2] I (λI_ v=>∃ r p6 c7,v=.tuple #[.slice p6 r.1.length c7,.bool r.2]∧RepSl KF I_ p6 c7 r.1∧Q r):=by
 refine Fun.ee func289 ntmps289 r ?_;refine .F (.bx r λb3=>?_);refine .bx r λb4=>?_;refine .G 2 r (.ns 24 r (.S QF QD .p1 r (.S JY DH .z r ?_)));refine .ca call233 r (WH R3 R5 hd:) λb5 b6 f L=>?_;obtain⟨b7,Y,rfl,a,hd⟩:=L;have⟨R3,R5⟩:=f.u2 R3 R5;refine .R DH .z r (.U 24 1 r (.M 280 r (.B (.jn hd [4] [0] r (λj E l J=>j ((8,vi J) :: E) l) (λb8 hd=>?_) ?_))))
 . refine .N 1 r (.I fI .p1 r (.M 65808 r (.drop .p1 (.E (.F (.C 2 196880 r (.A r hd (λN hd=>?_) λN hd=>?_)))))))
   . exact .D (.G 1 r (.H (je (-1) hd rf [0] r)))
   refine .F (.C 2 524560 r (.A r hd (λO hd=>?_) λO hd=>?_))
   . exact .AB (je 0 hd rf [0] r)
   exact .F (.C 2 192 r (.drop .z (.K (B7 r (.t r (.t r .n)) f ⟨(([]:List Int),true),_,_,r,(.nil _ _ _),hd⟩))))
 refine λJ hd=>jq r λb9 k=>?_;have⟨P,a⟩:=k.u2 f a;refine .F (.C 1 784 r (.B (.N 1 r (.I FK .z r (.ln CA r (.C 1 29360912 r (.E (.own0 AV 3 (.lx hd [23,22,8,4] [1] r (λj E l (e,b)=>λc w=>∃ g h,j ⟨44,[],none⟩ (λI_=>True) ((9,.slice g e.length h) :: (24,vi b) :: E) (OwnSl AV 3 g h e :: l) c w) (λc w ho hs=>⟨_,_,jf rf tv MF r ho hs⟩) ?_)))))))));rintro⟨e,b⟩ V hd c w ⟨g,h,Z,d,_,hok,hsym⟩;have⟨m,o,a⟩:=d.u3 P k a;refine Cod.at hok hsym (.F (.C 1 62915344 r (.B (.A r hd (λp hd=>?_) λp hd=>?_))))
 . refine .P 29360912 r (.B (.E (.N 1 r ?_)));have⟨R,a3,q,a4,o250,S,s,hd⟩:=a.1.ix hd;refine .W CA MO S R q r (.x 0 J6 s r (.G 2 r (.U 29363984 3 r (.M 2176845584 r (.A r hd (λu hd=>?_) λu hd=>?_)))))
   . refine .D (.G 2 r (.bs 1 BD DD nT r λa5=>?_));have⟨x,hd⟩:=hd;refine .ap (ys:=[b]) .p1 BD BD IN3 r (.box .z (.one r) r) x λa6 a7=>?_;exact .C 1 29360912 r (.drop .p1 (.D (.G 2 r (.H λc w ho hs=>⟨_,hd,_,_,jf d tv MF r ho hs⟩))))
   exact .P 29360912 r (.D (.G 2 r (.H λc w ho hs=>⟨_,hd,_,_,jf d tv MF r ho hs⟩)))
 refine .en 528 r (.N 1 r (.I AJ .p1 r (.G 1 r (.I AJ .p1 r (.G 2 r (.pub .z λa8 y i=>?_))))));have⟨A,B,C,a⟩:=y.u4 m o d a;refine .ca call27 r (UV i hd:) λa9 b0 F G=>?_;obtain⟨T,b1,b2,rfl,U,hd⟩:=G;have⟨H,W,X,a,i⟩:=F.u5 A B C a i;exact .C 2 192 r (.drop .z (.K (B7 r (.t r (.t r .n)) H ⟨(T,false),_,_,r,U,hd⟩)))
theorem AfJ {a0 Q} (d:dV a0 Q) :
  B6 prog 324 [vi a0] I (λ_=>Z6 Q):=by
 refine Fun.ee func324 ntmps324 r (.F (.C 1 1 r (.B (.F (.C 1 8 r (.E (.B (.F (.C 2 24 r (.A r d (λa d=>?_) λa d=>?_))))))))))
 . exact .P 16 r (.L r a (.F (.C 1 4 r (.r0 results324 r ⟨4611686018427387904,r,d⟩))))
 refine .F (.C 2 24 r (.A r d (λb d=>?_) λb d=>?_))
 . exact .P 16 r (.L r b (.F (.C 1 4 r (.r0 results324 r ⟨4611686018427387904,r,d⟩))))
 refine .D (.C 2 16 r (.A r d (λc d=>?_) λc d=>?_))
 . exact .F (.C 1 4 r (.r0 results324 r ⟨4611686018427387904,r,d⟩))
 exact .P 0 r (.F (.C 1 4 r (.r0 results324 r ⟨0,r,d⟩)))
theorem nH {o0 a0 Q} (d:S1 o0 a0 Q) :
  Fun prog 323 #[.agg (AgL a0).toArray,vp b2] I [pc b2 #[vi o0] 3] (λ_ v l=>∃ r,v=.bool r∧l=[pc b2 #[vi o0] 3]∧Q r):=by
 refine Fun.ee func323 ntmps323 r (.F (.bx r λ_=>.G 1 r (.U 6 1 r (.I AJ .z r (.G 2 r (.T d [6,7] r (λa d=>?_) λa d=>?_))))))
 . exact .C 6 10 r (.drop .z (.q1 results323 rf [0] r ⟨true,r,r,d⟩))
 exact .G 1 r (.O r (.I AJ .z r (.O r (.I AJ .p1 r (.C 3 10 r (.drop .z (.q1 results323 rf [0] r ⟨(decide (o0<=a0.At)),r,r,d⟩)))))))
theorem LS {o0 a0 Q} (R5:RepSl EV I p3 c4 a0) (hd:E8 o0 a0 Q) :
  Fun prog 321 #[.slice p3 a0.length c4,.func (.func 323) #[] #[vp b2]] I [pc b2 #[vi o0] 3] (λI_ v l=>∃ r,v=vi r∧l=[pc b2 #[vi o0] 3]∧Q r):=by
 refine Fun.ee func321 ntmps321 r ?_;refine .F (.C 1 3 r (.B (.N 1 r (.ln EK r (.C 1 387 r (.E (.lp hd vW [0] r (λj E l d=>j ((8,vi d) :: E) l) (ji rf [0] r) ?_)))))));refine λd n hd=>jq r λp a=>?_;have R5:=a.u1 R5;refine .F (.C 1 899 r (.B (.A r hd (λf hd=>?_) λf hd=>?_)))
 . refine .P 387 r (.B (.E (.N 2 r (.U 419 3 r ?_))));have⟨q,t,g,u,o57,s,b,hd⟩:=R5.ix hd;refine .W EK FH s q g r (.ldW isAgg314 FH b r r r r ?_);refine .cS (.c call323 r r) (.o [0] r) r (nH (I:=p) (b2:=b2) hd:) λw x y i k=>?_;obtain⟨z,rfl,rfl,hd⟩:=k;have⟨e,R5,b⟩:=i.u3 a R5 b;refine .rn 1 r (.M 65955 r (.A r hd (λm hd=>?_) λm hd=>?_))
   . exact .F (.C 2 18 r (.q1 results321 e [0] r ⟨d,r,r,hd⟩))
   exact .P 387 r (.D (.G 2 r (.H (je (A4 (d+1)) hd e [0] r))))
 exact .en 2 r (.F (.C 1 18 r (.q1 results321 a [0] r ⟨(-1),r,r,hd⟩)))
theorem K9 {o0 a0 Q} (R5:RepSl EV I p3 c4 a0) (hd:CN o0 a0 Q) :
  Fun prog 322 #[.slice p3 a0.length c4,.func (.func 323) #[] #[vp b2]] I [pc b2 #[vi o0] 3] (λI_ v l=>∃ r,v=.bool r∧l=[pc b2 #[vi o0] 3]∧Q r):=by
 refine Fun.ee func322 ntmps322 r ?_;refine .N 1 r (.U 3 2 r ?_);refine .cS (.f call321 r) (.o [0] r) r (LS (b2:=b2) R5 hd:) λe h g a c=>?_;obtain⟨d,rfl,rfl,hd⟩:=c;have R5:=a.u1 R5;exact .rn 1 r (.C 2 18 r (.q1 results322 a [0] r ⟨(decide (0<=d)),r,r,hd⟩))
theorem AfK {a0 a1 a2 Q} (R3:RepSl EV I p1 c2 a2) (hd:dW a0 a1 a2 Q) :
  B6 prog 293 [vi a0,vi a1,.slice p1 a2.length c2] I (AvR Q):=by
 refine Fun.ee func293 ntmps293 r ?_;refine .F (.box1 r r r r λZ=>?_);refine .al CG r λd2=>?_;refine .C 1 85 r (.B (.E (.N 1 r ?_)));refine .u call100 (TE (I:=I) hd:) r λd3 hd=>?_;refine .C 2 16469 r (.A r hd (λX hd=>?_) λX hd=>?_)
 . exact .F (.bd CG F5 GY r (.R AM .z r (.C 1 192 r (.drop .p1 (.K (B7 r (.w BK AM r .z r (.t r .n)) rf ⟨(CL,8),_,_,r,(.nil _ _ _),hd⟩))))))
 refine .B (.F (.I AJ .p1 r (.G 2 r (.T hd [21,22] r (λY hd=>?_) λY hd=>?_))))
 . exact .C 4 524373 r (.L r r (.P 524373 r (.L r r (.F (.bd CG F5 GY r (.R AM .z r (.C 1 192 r (.drop .p1 (.K (B7 r (.w BK AM r .z r (.t r .n)) rf ⟨(CL,3),_,_,r,(.nil _ _ _),hd⟩))))))))))
 refine .O r (.I AJ .p1 r (.C 3 524373 r (.A r hd (λu hd=>?_) λu hd=>?_)))
 . exact .P 524373 r (.L r u (.F (.bd CG F5 GY r (.R AM .z r (.C 1 192 r (.drop .p1 (.K (B7 r (.w BK AM r .z r (.t r .n)) rf ⟨(CL,3),_,_,r,(.nil _ _ _),hd⟩))))))))
 refine .D (.G 1 r (.mkFn r r r r ?_));refine .cS (.f call322 r) (.o [1] r) r (K9 (b2:=Z) R3 hd:) λd4 d5 d6 k a3=>?_;obtain⟨d7,rfl,rfl,hd⟩:=a3;have R3:=k.u1 R3;refine .rn 2 r (.C 1 524373 r (.A r hd (λa4 hd=>?_) λa4 hd=>?_))
 . exact .F (.bd CG F5 GY r (.R AM .p1 r (.C 1 192 r (.drop .z (.K (B7 r (.w BK AM r .z r (.t r .n)) k ⟨(CL,3),_,_,r,(.nil _ _ _),hd⟩))))))
 refine .P 85 r (.B (.N 1 r (.ln EK r (.C 1 6442451029 r (.E (.lp hd [31,6,4,2,0] MF r (λj E l e=>j ((32,vi e) :: E) l) (ji rf MF r) ?_))))));refine λe b4 hd=>jq r λb9 b=>?_;have⟨q,R3⟩:=b.u2 k R3;refine .F (.C 1 15032385621 r (.B (.A r hd (λA hd=>?_) λA hd=>?_)))
 . refine .P 6442451029 r (.B (.E (.F (.C 2 6442451285 r (.B (.dr ArS 16 (.J 3 r ?_)))))));refine CR hd (λg hd=>?_) λg hd=>?_
   . rw[g];refine .J 3 r ?_;have⟨a5,c0,B,c1,o146,a6,C,hd⟩:=R3.ix hd;refine .h r (.O r (.W EK FH a6 a5 B r .mk)) (.J 1 r (.h r (.O r (.x 0 AJ C r .mk)) (.J 2 r ?_)));have⟨a7,c3,D,c4,o155,a8,F,hd⟩:=R3.ix hd;refine .h r (.O r (.W EK FH a8 a7 D r .mk)) (.J 1 r (.h r (.O r (.x 0 AJ F r .mk)) (.J 2 r (.e2 16 (.M 1125906349293653 r (.A r hd (λG hd=>?_) λG hd=>?_))))))
     . exact .F (.bd CG F5 GY r (.R AM .p1 r (.C 1 192 r (.drop .z (.K (B7 r (.w BK AM r .z r (.t r .n)) q ⟨(CL,6),_,_,r,(.nil _ _ _),hd⟩))))))
     exact .P 6442451029 r (.D (.G 2 r (.H (je (A4 (e+1)) hd b MF r))))
   rw[g];exact .J 13 r (.e2 16 (.M 1125906349293653 r (.j r r (.P 6442451029 r (.D (.G 2 r (.H (je (A4 (e+1)) hd b MF r))))))))
 refine .en 85 r (.F (.I AJ .z r (.bd CG F5 GY r (.al CG r λa9=>?_))));refine .R AM .z r (.M 581 r (.drop .p1 (.B (.N 1 r (.ln EK r (.C 1 252201579132748353 r (.E (.own0 CF 300 (.lx hd [56,55,9,6,0] [2] r (λj E l (a,i)=>λc w=>∃ m p,j ⟨86,[],none⟩ (λI_=>True) ((57,vi i) :: E) (pc a9 #[vi a1,.slice m a.length p] 235 :: OwnSl CF 300 m p a :: l) c w) (λc w ho hs=>⟨_,_,jf rf tv rL r ho hs⟩) ?_)))))))));rintro⟨a,i⟩ b5 hd c w ⟨m,p,v,d,_,hok,hsym⟩;have⟨s,H,R3⟩:=d.u3 q b R3;refine Cod.at hok hsym (.F (.C 1 540431955284460097 r (.B (.A r hd (λJ hd=>?_) λJ hd=>?_))))
 . refine .P 252201579132748353 r (.B (.E (.F ?_)));have⟨b0,x,K,c5,o307,b1,L,hd⟩:=R3.ix hd;refine .W EK FH b1 b0 K r (.ldW isAgg314 FH L r r r r (.al gI r λc6=>?_));refine .R FH .z r (.U 252201579132750401 2 r (.y CP BE r .z (.o 2 r) r r r ?_));refine .u call103 (gM (I:=v) hd:) r λy hd=>?_;refine .C 5 252201579132762689 r (.B (.F (.C 2 590548011937838406209 r (.A r hd (λP hd=>?_) λP hd=>?_))))
   . exact .F (.bd CG F5 GY r (.R AM .p3 r (.C 1 192 r (.drop .z (.drop .z (.drop .z (.K (B7 r (.w BK AM r .z r (.t r .n)) s ⟨(CL,12),_,_,r,(.nil _ _ _),hd⟩))))))))
   refine .P 252201579132754497 r (.N 2 r ?_);refine .u call324 (AfJ (I:=v) hd:) r λc7 hd=>?_;refine .C 1 18889718133057713609281 r (.A r hd (λS hd=>?_) λS hd=>?_)
   . refine .D (.G 1 r (.I HU .p1 r (.G 1 r (.I AJ .z r (.G 1 r (.bd LN uT uR r (.bs 1 DU DL LN r λc8=>?_)))))));have⟨T,hd⟩:=hd;refine .ap (ys:=[({ At:=x.At,Val:=y.1 }:B9)]) .p3 DU DU uQ r (.box .z (.one r) r) T λc9 d0=>?_;exact .G 1 r (.s1 sizeOf233 .p3 r (.M 252201579132748353 r (.drop .p1 (.drop .p1 (.D (.G 2 r (.H λc w ho hs=>⟨_,hd,_,_,jf d tv rL r ho hs⟩)))))))
   exact .P 252201579132748353 r (.drop .z (.D (.G 2 r (.H λc w ho hs=>⟨_,hd,_,_,jf d tv V9 r ho hs⟩))))
 refine .en 576 r (.F (.S BK AM .z r (.R AM .p2 r (.C 1 192 r (.drop .z (.pub .z λd1 U b3=>?_))))));have⟨V,b7,b8⟩:=U.u3 s H d;exact .K (B7 r (.w BK AM r .z r (.t r .n)) V ⟨(({ N:=a1,Items:=a }:Vec),0),_,_,r,b3,hd⟩)
theorem gT {a0 a1 a2 Q} (R3:RepSl AV I p1 c2 a0.Draws) (hd:JE a0 a1 a2 Q) :
  B6 prog 351 [.agg (M9 a0 p1 c2),vi a1,vi a2] I (λ_=>Z6 Q):=by
 refine Fun.ee func351 ntmps351 r ?_;refine .F (.bx r λs=>?_);refine .C 1 14 r (.B (.N 1 r ?_));refine .u call212 (N0 (I:=I) hd:) r λn hd=>?_;refine .G 2 r (.T hd [11,12] r (λb hd=>?_) λb hd=>?_)
 . exact .C 7 524302 r (.L r r (.F (.C 1 64 r (.drop .z (.r0 results351 r ⟨0,r,hd⟩)))))
 refine .G 2 r (.O r (.I AJ .z r (.G 1 r ?_)));refine .O r (.AE call212 r (N0 (I:=I) hd:) r r λo d=>?_);obtain⟨p,rfl,hd⟩:=d;refine .C 2 524302 r (.A r hd (λe hd=>?_) λe hd=>?_)
 . exact .F (.C 1 64 r (.drop .z (.r0 results351 r ⟨0,r,hd⟩)))
 refine .P 14 r (.F (.C 1 142 r (.B (.N 1 r (.I FK .z r (.ln CA r (.G 1 r (.U 398 2 r (.M 16777614 r ?_)))))))));refine .A r hd (λf hd=>?_) λf hd=>?_
 . refine .dr AhY 12 (.J 1 r (.V FK 0 r (.J 2 r (.V AJ 0 r (.J 4 r ?_)))));have⟨g,hd⟩:=hd;refine .h r (.rem r r g r r .mk) ?_;have⟨k,l,i,q,o34,m,j,hd⟩:=R3.ix hd;exact .h r (.W CA MO m k i r .mk) (.h r (.x 0 J6 j r .mk) (.e2 12 (.C 1 132 r (.drop .z (.N 1 r (.shl' r r (by decide) r r (.C 3 64 r (.r0 results351 r ⟨(bor .i64 (shl .i64 l 12) a2),r,hd⟩))))))))
 exact .P 132 r (.drop .z (.N 1 r (.shl' r r (by decide) r r (.C 3 64 r (.r0 results351 r ⟨(bor .i64 (shl .i64 0 12) a2),r,hd⟩)))))
theorem rA {a0 Q} (d:NU a0 Q) :
  B6 prog 352 [vi a0] I (λ_=>Z6 Q):=by
 exact Fun.ee func352 ntmps352 r (.N 1 r (.U 1 2 r (.shr' r r (by decide) r r (.C 1 4 r (.r0 results352 r ⟨(shr .i64 (A4 (a0 - 1)) 1),r,d⟩)))))
theorem AcT {a0 a1 a2 a3 Q} (R3:RepSl AV I p1 c2 a0.Draws) (O:iE I gg4 a1) (D:U1 a0 a1 a2 a3 Q) :
  B6 prog 328 [.agg (M9 a0 p1 c2),.agg (GW a1 gg4),vi a2,vi a3] I (λ_=>o7_ Q):=by
 refine Fun.ee func328 ntmps328 r (.F (.bx r λ_=>.bx r λ_=>.G 2 r (.U 60 1 r (.I QE .z r (.G 1 r (.u call292 (O0 O.2.2 D:) r λc D=>?_))))));refine .C 1 1084 r (.B (.N 1 r (.I fI .p1 r (.M 66620 r (.E (.F (.C 2 197692 r (.A r D (λg D=>?_) λg D=>?_))))))))
 . exact .N 1 r (.I AJ .z r (.C 5 768 r (.drop .z (.drop .z (.K (B7 r (.t r (.t r .n)) rf ⟨(A4 (a1.Low+a3),c),r,D⟩))))))
 refine .F (.C 2 16778300 r (.A r D (λi D=>?_) λi D=>?_))
 . refine .B (.F (.C 3 268436540 r (.A r D (λj D=>?_) λj D=>?_)))
   . exact .F (.C 3 768 r (.drop .z (.drop .z (.K (B7 r (.t r (.t r .n)) rf ⟨(1,c),r,D⟩)))))
   refine .P 60 r (.B (.dr [0,1,3,4,5,6,8,9,10,11,12,13,2,7,14] 15 (.h r (.S QF QD .p1 r .mk) (.J 2 r (.V AJ 0 r (.J 3 r (.V FK 0 r (.J 1 r ?_))))))));have⟨d,p,a,_,_,e,b,D⟩:=O.1.ix D;refine .h r (.W CA MO e d a r .mk) (.h r (.x 0 J6 b r .mk) (.J 1 r (.Y r (.u call352 (rA (I:=I) D:) r λ_ D=>?_))));refine .q 2 r (.Z 1 r r (.X r (.x 0 J6 b r .mk) (.X r (.W CA MO e d a r .mk) (.Z 1 r r (.X r (.I FK .z r .mk) (.Z 3 r r (.X r (.I AJ .z r .mk) (.Z 1 r r (.X r (.S QF QD .p1 r .mk) tv))))))))) (.Y r ?_);refine .u call351 (gT R3 D:) r λq D=>?_;exact .q 2 r (.Z 1 r r (.X r (.x 0 J6 b r .mk) (.X r (.W CA MO e d a r .mk) (.Z 1 r r (.X r (.I FK .z r .mk) (.Z 1 r r tv)))))) (.J 1 r (.e2 15 (.C 1 768 r (.drop .z (.drop .z (.K (B7 r (.t r (.t r .n)) rf ⟨(q,p==0),r,D⟩)))))))
 refine .P 1064 r (.drop .p1 (.N 1 r (.I FK .z r (.G 1 r ?_))));have⟨s,u,m,_,_,v,o,D⟩:=O.1.ix D;exact .W CA MO v s m r (.x 0 J6 o r (.C 3 768 r (.drop .z (.K (B7 r (.t r (.t r .n)) rf ⟨(u,c),r,D⟩)))))
theorem Ai5 {a0 a1 a2 Q} (R3:RepSl AV I p1 c2 a0.Draws) (R5:iE I gg4 a1) (hd:kR a0 a1 a2 Q) :
  B6 prog 295 [.agg (M9 a0 p1 c2),.agg (GW a1 gg4),vi a2] I (λI_ v=>∃ r p6 c7,v=.agg #[vi r.N,.slice p6 r.Items.length c7]∧RepSl CF I_ p6 c7 r.Items∧Q r):=by
 refine Fun.ee func295 ntmps295 r ?_;refine .F (.bx r λO=>?_);refine .bx r λP=>?_;refine .al CG r λR=>?_;refine .ns 92 r (.S QF QD .p2 r (.S JY DH .p1 r ?_));refine .ca call233 r (WH R3 R5 hd:) λS T f y=>?_;obtain⟨e,F,rfl,g,hd⟩:=y;have⟨R3,R5⟩:=f.u2 R3 R5;refine .R DH .p1 r (.U 92 1 r (.I AJ .p1 r (.G 1 r (.I AJ .p1 r (.G 1 r (.bd CG F5 GY r (.al CG r λB=>?_)))))));refine .R AM .z r (.M 220 r (.B (.N 1 r (.I AJ .z r (.C 1 6291676 r (.E (.own0 CF 300 (.lx hd [21,7,6,4,3,2] [4,3,2] r (λj E l (b,d)=>λc w=>∃ h i,j ⟨44,[],none⟩ (λI_=>True) ((22,vi d) :: E) (pc B #[vi (A4 (e.High - e.Low)),.slice h b.length i] 235 :: OwnSl CF 300 h i b :: l) c w) (λc w ho hs=>⟨_,_,jf rf tv [1,0,2,1,0] r ho hs⟩) ?_))))))));rintro⟨b,d⟩ C hd c w ⟨h,i,G,a,_,hok,hsym⟩;have⟨m,R3,g⟩:=a.u3 f R3 g;refine Cod.at hok hsym (.F (.C 1 14680284 r (.B (.A r hd (λo hd=>?_) λo hd=>?_))))
 . refine .P 6291676 r (.B (.E (.N 2 r (.ns 6291932 r (.S QF QD .p2 r (.S JY DH .p3 r (.G 2 r ?_)))))));refine .u call328 (AcT R3 g hd:) r λk hd=>?_;refine .G 5 r (.U 6293468 1 r (.M 8596227036 r (.A r hd (λq hd=>?_) λq hd=>?_)))
   . refine .D (.G 1 r (.I HU .z r (.G 2 r (.bd LN uT uR r (.bs 1 DU DL LN r λH=>?_)))));have⟨s,hd⟩:=hd;refine .ap (ys:=[({ At:=d,Val:=k.1 }:B9)]) .p2 DU DU uQ r (.box .z (.one r) r) s λJ K=>?_;exact .G 1 r (.s1 sizeOf233 .p2 r (.M 6291676 r (.drop .p1 (.D (.G 2 r (.H λc w ho hs=>⟨_,hd,_,_,jf a tv [1,0,0,0,0] r ho hs⟩))))))
   exact .P 6291676 r (.D (.G 2 r (.H λc w ho hs=>⟨_,hd,_,_,jf a tv nl9 r ho hs⟩)))
 refine .en 192 r (.drop .p2 (.drop .p2 (.F (.S BK AM .z r (.R AM .p2 r (.M 64 r (.drop .z (.pub .z λL t A=>?_))))))));have⟨u,D⟩:=t.u2 m a;exact .K (B7 r (.w BK AM r .z r .n) u ⟨({ N:=A4 (e.High - e.Low),Items:=b }:Vec),_,_,r,A,hd⟩)
theorem cZ {a0 a1 Q} (d:OL a0 a1 Q) :
  B6 prog 274 [.agg #[vi a0.1,vi a0.2],.agg #[vi a1.1,vi a1.2]] I (λ_=>AxU Q):=by
 refine Fun.ee func274 ntmps274 r (.F (.bx r λ_=>.bx r λ_=>.al aI r λ_=>.ns 28 r (.AA (i:=0) S7 DD r r (by decide) (o:=0) r r r (.I AJ .p2 r (.AA (i:=0) S7 DD r r (by decide) (o:=0) r r r (.I AJ .p1 r (.maxI r r r r (.G 1 r (.U 60 2 r (.AA (i:=1) S7 DD r r (by decide) (o:=1) r r r (.I AJ .p2 r ?_)))))))))));exact .AA (i:=1) S7 DD r r (by decide) (o:=1) r r r (.I AJ .p1 r (.minI r r r r (.maxI r r r r (.ba aI S7 DD r (.R fH .z r (.M 16 r (.drop .p1 (.drop .p1 (.K (B7 r (.w isAgg97 fH r .z r .n) rf ⟨((if a1.1 > a0.1 then a1.1 else a0.1),(if (if a1.2<a0.2 then a1.2 else a0.2) > (if a1.1 > a0.1 then a1.1 else a0.1) then (if a1.2<a0.2 then a1.2 else a0.2) else (if a1.1 > a0.1 then a1.1 else a0.1))),r,d⟩))))))))))
theorem AfL {a0 a1 a2 Q} (d:dX a0 a1 a2 Q) :
  B6 prog 329 [vi a0,vi a1,vi a2] I (λ_=>Z6 Q):=by
 refine Fun.ee func329 ntmps329 r (.F (.C 1 7 r (.B (.N 3 r (.T d [8,9] r (λb d=>?_) λb d=>?_)))))
 . exact .C 4 8199 r (.L r r (.F (.C 1 64 r (.r0 results329 r ⟨0,r,d⟩))))
 refine .C 4 8199 r (.A r d (λc d=>?_) λc d=>?_)
 . exact .F (.C 1 64 r (.r0 results329 r ⟨0,r,d⟩))
 exact .P 7 r (.N 4 r (.u call144 (I7 (I:=I) d:) r λe d=>.G 3 r (.u call144 (I7 (I:=I) d:) r λf d=>.C 2 64 r (.r0 results329 r ⟨(A4 (e - f)),r,d⟩))))
theorem WJ {a0 a1 Q} (d:K3 a0 a1 Q) :
  Fun prog 364 #[.agg (VN a0).toArray,vi a1] I [] (λ_ v l=>∃ r,v=vi r∧l=[]∧Q r):=by
 exact Fun.ee func364 ntmps364 r (.F (.bx r λ_=>.G 1 r (.U 6 1 r (.I AJ .z r (.G 1 r (.u call160 (DI (I:=I) d:) r λb d=>.C 1 16 r (.drop .z (.q1 results364 rf [] r ⟨b,r,r,d⟩))))))))
theorem H0 {a0 a1 Q} (R3:RepSl CF I p1 c2 a0) (hd:BQ a0 a1 Q) :
  Fun prog 363 #[.slice p1 a0.length c2,vi a1,.func (.func 364) #[] #[]] I [] (λI_ v l=>∃ r,v=.tuple #[vi r.1,.bool r.2]∧l=[]∧Q r):=by
 refine Fun.ee func363 ntmps363 r ?_;refine .N 2 r (.U 7 1 r (.ln DU r (.G 1 r (.U 263 3 r (.M 1799 r (.B (.E (.lp hd [8,2,1,0] [] r (λj E l (a,d)=>j ((9,vi a) :: (10,vi d) :: E) l) (ji rf [] r) ?_))))))));rintro⟨a,d⟩ G hd;refine jq r λh b=>?_;have R3:=b.u1 R3;refine .B (.F (.C 3 132871 r (.A r hd (λi hd=>?_) λi hd=>?_)))
 . refine .P 1799 r (.E (.N 3 r (.conv lY AlY r r r (.shr' r r (by decide) r r (.conv AlY lY r r r (.G 1 r (.U 3847 3 r ?_)))))));have⟨A,H,k,J,o128,B,e,hd⟩:=R3.ix hd;refine .W DU DL B A k r (.ldW UK DL e r r r r (.G 1 r ?_));refine .cS (.c call364 r r) .n r (WJ (I:=h) hd:) λK L N o p=>?_;obtain⟨O,rfl,rfl,hd⟩:=p;have⟨g,R3,e⟩:=o.u3 b R3 e;refine .rn 0 r (.C 1 2147487495 r (.A r hd (λq hd=>?_) λq hd=>?_))
   . exact .D (.G 3 r (.H (je (A4 ((A4 (shr .u64 (IntKind.wrap .u64 (A4 (a+d))) 1))+1),d) hd g [] r)))
   exact .D (.G 2 r (.H (je (a,A4 (shr .u64 (IntKind.wrap .u64 (A4 (a+d))) 1)) hd g [] r)))
 refine .en 775 r (.N 5 r (.T hd [38,39] r (λs hd=>?_) λs hd=>?_))
 . refine .G 3 r ?_;have⟨C,P,u,R,o147,D,f,hd⟩:=R3.ix hd;refine .O r (.W DU DL D C u r (.O r (.ldW UK DL f r r r r (.G 1 r ?_))));refine .O r (.cS (.c call364 r r) .n r (WJ (I:=h) hd:) λS T U x y=>?_);obtain⟨F,rfl,rfl,hd⟩:=y;have⟨z,R3,f⟩:=x.u3 b R3 f;exact .rn 0 r (.C 4 196 r (.K (DX r (.t r (.t r .n)) z .n ⟨(a,F==0),r,r,hd⟩)))
 exact .C 11 196 r (.K (DX r (.t r (.t r .n)) b .n ⟨(a,false),r,r,hd⟩))
theorem ZI {a0 a1 Q} (R3:RepSl CF I p1 c2 a0.Items) (hd:NI a0 a1 Q) :
  B6 prog 350 [.agg #[vi a0.N,.slice p1 a0.Items.length c2],vi a1] I (λ_=>o7_ Q):=by
 refine Fun.ee func350 ntmps350 r ?_;refine .F (.bx r λh=>?_);refine .G 2 r (.U 6 1 r (.I HU .z r (.G 1 r ?_)));refine .cS (.f call363 r) .n r (H0 R3 hd:) λe i g a d=>?_;obtain⟨b,rfl,rfl,hd⟩:=d;have R3:=a.u1 R3;exact .rn 1 r (.C 4 48 r (.drop .z (.K (B7 r (.t r (.t r .n)) a ⟨(b.1,b.2),r,hd⟩))))
theorem jK {o0 a0 Q} (d:PS o0 a0 Q) :
  Fun prog 353 #[.agg (VN a0).toArray,vp b2] I [pc b2 #[vi o0] 3] (λ_ v l=>∃ r,v=.agg (VN r).toArray∧l=[pc b2 #[vi o0] 3]∧Q r):=by
 exact Fun.ee func353 ntmps353 r (.F (.bx r λ_=>.al LN r λ_=>.U 14 1 r (.I AJ .p1 r (.I AJ .p2 r (.G 2 r (.I J6 .p1 r (.bd LN uT uR r (.R DL .z r (.M 10 r (.drop .p1 (.K (DX r (.w UK DL r .z r .n) rf (.o [1] r) ⟨({ At:=A4 (a0.At - o0),Val:=a0.Val }:B9),r,r,d⟩))))))))))))
theorem pL {o0 a0 Q} (R5:RepSl CF I p3 c4 a0.Items) (hd:OM o0 a0 Q) :
  Fun prog 337 #[.agg #[vi a0.N,.slice p3 a0.Items.length c4],.func (.func 353) #[] #[vp b2]] I [pc b2 #[vi o0] 3] (λI_ v l=>∃ r p6 c7,v=.agg #[vi r.N,.slice p6 r.Items.length c7]∧RepSl CF I_ p6 c7 r.Items∧l=[pc b2 #[vi o0] 3]∧Q r):=by
 refine Fun.ee func337 ntmps337 r ?_;refine .F (.bx r λa=>?_);refine .al CG r λL=>?_;refine .ns 22 r (.S BK AM .p1 r ?_);refine .ca call339 r (P4 R5 hd:) λO b4 s P=>?_;obtain⟨t,b5,b6,rfl,u,hd⟩:=P;have R5:=s.u1 R5;refine .R AM .p1 r (.M 22 r (.B (.dr AuC 7 (.J 1 r (.V AJ 1 r (.J 1 r (.V HU 1 r (.aP CG r (.Y r ?_)))))))));refine .AD call237 r (BP u hd:) r r λb7 b8 b9 S T=>?_;obtain⟨c0,c1,c2,rfl,rfl,hd⟩:=T;have⟨U,u⟩:=S.u2 s u;refine .q 4 r (.X r (.I AJ .p2 r .mk) (.Z 1 r r tv)) (.h r (.bd CG F5 GY r .mk) (.b r λK=>DrawD.nop ?_));refine .e2 7 (.R AM .p4 r (.M 50 r (.drop .p2 (.B (.N 1 r (.I HU .p3 r (.ln DU r (.C 1 917554 r (.E ?_)))))))));refine .lx hd [18,5,4,1] [2,1] r (λj E l (d,e)=>λc w=>∃ g f,j ⟨33,[],none⟩ (λI_=>True) ((17,.slice g d.length f) :: (19,vi e) :: E) (pc K #[vi t.N,.slice g d.length f] 235 :: OwnSl CF 300 g f d :: l) c w) (λc w ho hs=>⟨_,_,jf rf tv [3,0,1,0] r ho hs⟩) ?_;rintro⟨d,e⟩ Z hd c w ⟨g,f,V,i,_,hok,hsym⟩;have p:=i.u1 U;refine Cod.at hok hsym (.F (.C 1 1966130 r (.B (.A r hd (λA hd=>?_) λA hd=>?_))))
 . refine .P 917554 r (.B (.E (.N 1 r ?_)));have⟨x,a3,k,hd⟩:=hd;refine .ownNe .p1 (DJ k) λW X=>?_;cases X;refine .v DU DL r r x (BF k x) r r (.loA (j:=0) UK DL .p1 k r r (.o 2 r) r r r (.al LN r λa4=>?_));refine .G 1 r (.R DL .z r (.M 917746 r (.dr AhZ 6 (.J 1 r (.V HU 1 r (.J 2 r (.h r (.S UK DL .z r .mk) (.Y r ?_))))))));refine .cS (.c call353 r r) (.o [3] r) r (jK (I:=V) (b2:=b2) hd:) λa5 a6 a7 D F=>?_;obtain⟨m,rfl,rfl,hd⟩:=F;have⟨a1,G⟩:=D.u2 p i;refine .rx 5 r (.q 5 r (.Z 1 r r (.X r (.I HU .p2 r .mk) (.Z 1 r r tv))) (.e2 6 ?_));have⟨y,a8,q,hd⟩:=hd;exact .v DU DL r r y (BF q y) r r (.stOA (j:=0) (v':=m) DL .p3 q r r r (.o r) r r (.rl .p3 [17,25] r (by simp only[QV]) (.reat .p2 (B:=pc K #[vi t.N,.slice (some ⟨W,0,none⟩) (d.set e.toNat m).length f] 235) (by simp only[QV]) (.M 917554 r (.drop .p1 (.D (.G 2 r (.H λc w ho hs=>⟨_,hd,_,_,jf G tv Ai0 r ho hs⟩))))))))
 refine .en 50 r (.F (.S BK AM .z r (.R AM .p3 r (.M 18 r (.drop .z (.pub .z λa9 H Y=>?_))))));have⟨J,a2⟩:=H.u2 p i;exact .K (DX r (.w BK AM r .p1 r .n) J (.o [0] r) ⟨({ N:=t.N,Items:=d }:Vec),_,_,r,Y,r,hd⟩)
theorem AcU {a0 a1 a2 Q} (R3:RepSl CF I p1 c2 a0.Items) (hd:YS a0 a1 a2 Q) :
  B6 prog 330 [.agg #[vi a0.N,.slice p1 a0.Items.length c2],vi a1,vi a2] I (AvQ Q):=by
 refine Fun.ee func330 ntmps330 r ?_;refine .F (.bx r λF=>?_);refine .box1 r r r r λC=>?_;refine .al CG r λG=>?_;refine .ns 92 r (.S BK AM .p2 r ?_);refine .ca call339 r (P4 R3 hd:) λJ K e s=>?_;obtain⟨b,O,g,rfl,c,hd⟩:=s;have R3:=e.u1 R3;refine .R AM .p2 r (.M 92 r (.B (.dr nl8 7 (.V AJ 1 r (.h r (.maxI r r r r .mk) (.J 2 r (.V AJ 2 r (.h r (.minI r r r r .mk) (.Y r ?_)))))))));refine .s1 DD .p1 r (.P 3 r r r (.X r (.minI r r r r .mk) (.X r (.I AJ .p2 r .mk) (.Z 2 r r tv))) (.e2 7 (.C 1 92 r (.B (.N 1 r (.I AJ .p1 r (.C 1 8388700 r (.A r hd (λt hd=>?_) λt hd=>?_))))))))
 . exact .F (.bd CG F5 GY r (.R AM .z r (.M 64 r (.drop .p1 (.drop .p1 (.K (B7 r (.w BK AM r .z r .n) e ⟨CL,_,_,r,(.nil _ _ _),hd⟩)))))))
 refine .P 92 r (.F (.S BK AM .p2 r (.I AJ .p1 r ?_)));refine .u call350 (ZI c hd:) r λd hd=>?_;refine .G 5 r (.ns 220 r (.S BK AM .p2 r (.G 1 r ?_)));refine .u call350 (ZI c hd:) r λa hd=>?_;refine .C 5 732 r (.B (.dr AuD 9 (.J 1 r (.V AJ 2 r (.J 1 r (.V HU 2 r (.J 2 r ?_)))))));have⟨l,P,R,hd⟩:=hd;have i:Int.toNat d.1<=Int.toNat a.1:=by omega
 have j:Int.toNat a.1<=b.Items.length:=by omega
 have⟨S,T,m,p,k⟩:=RepSl.sliceW c (Int.toNat d.1) (Int.toNat a.1) g i j (.inl rfl);refine .h r (.sliceW (L:=Int.toNat d.1) (H:=Int.toNat a.1) (cm:=g) DU DL r r c.1 r r r (.inr ⟨_,_,r,l,r⟩) (.inr ⟨_,_,r,(by omega),r⟩) (.inl r) i j r m p r r .mk) (.h r (.bd CG F5 GY r .mk) (.Y r ?_));refine .al CG r λU=>?_;refine .q 4 r (.X r (.bd CG F5 GY r .mk) (.X r (.sliceW (L:=Int.toNat d.1) (H:=Int.toNat a.1) (cm:=g) DU DL r r c.1 r r r (.inr ⟨_,_,r,l,r⟩) (.inr ⟨_,_,r,(by omega),r⟩) (.inl r) i j r m p r r .mk) (.Z 2 r r (.X r (.I HU .p3 r .mk) (.Z 1 r r (.X r (.I AJ .p3 r .mk) (.Z 1 r r tv))))))) (.e2 9 (.R AM .z r (.M 2132 r (.drop .p3 (.F (.S BK AM .z r (.mkFn r r r r ?_)))))));refine .cS (.f call337 r) (.o [2] r) r (pL (a0:=({ N:=b.N,Items:=((b.Items.take a.1.toNat).drop d.1.toNat) }:Vec)) (b2:=C) k hd:) λV W X y A=>?_;obtain⟨D,Y,Z,rfl,E,rfl,hd⟩:=A;have⟨B,k⟩:=y.u2 e k;refine .rn 3 r (.al CG r λa3=>?_);refine .R AM .z r (.M 4180 r (.drop .p2 (.N 1 r (.I AJ .p1 r (.G 2 r (.s1 DD .z r (.M 4160 r (.drop .p1 (.F ?_)))))))));exact .S BK AM .z r (.R AM .p1 r (.M 64 r (.drop .z (.K (B7 r (.w BK AM r .z r .n) B ⟨({ N:=A4 ((if b.N<a2 then b.N else a2) - (if 0 > a1 then 0 else a1)),Items:=D.Items }:Vec),_,_,r,E,hd⟩)))))
theorem xW {a0 a1 a2 a3 a4 a5 Q} (R3:RepSl CF I p1 c2 a0.Items) (hd:VT a0 a1 a2 a3 a4 a5 Q) :
  B6 prog 296 [.agg #[vi a0.N,.slice p1 a0.Items.length c2],vi a1,vi a2,vi a3,vi a4,vi a5] I (AvQ Q):=by
 refine Fun.ee func296 ntmps296 r ?_;refine .F (.bx r λC=>?_);refine .al CG r λD=>?_;refine .M 4222 r (.B (.B (.dr AyB 25 (.J 1 r (.Y r ?_)))));refine .u call271 (cV (I:=I) hd:) r λE hd=>?_;refine .q 2 r tv (.J 2 r ?_);refine CR hd (λd hd=>?_) λd hd=>?_
 . refine .gn r d (.gn r d (.gn r d (.gn r d (.gn r d (.gn r d (.h r (.pickT r d r r r .mk) (.J 14 r (.e2 25 (.M 549755818110 r ?_)))))))));exact .L r r (.F (.bd CG F5 GY r (.R AM .z r (.M 4096 r (.drop .p1 (.K (B7 r (.w BK AM r .z r .n) rf ⟨CL,_,_,r,(.nil _ _ _),hd⟩)))))))
 refine .h r (.Q r r d (.AC r r r .mk)) (.h r (.Q r r d (.AC r r r .mk)) (.h r (.Q r r d (.AC r r r .mk)) (.h r (.Q r r d (.AC r r r .mk)) (.Y r ?_))));refine .Q r r d (.AE call181 r (ZD (I:=I) hd:) r r λF k=>?_);obtain⟨G,rfl,hd⟩:=k;refine .q 2 r tv (.h r (.Q r r d (.not r r r .mk)) (.h r (.pickF r d r r r .mk) (.J 1 r ?_)));refine CR hd (λe hd=>?_) λe hd=>?_
 . refine .gn r e (.gn r e (.gn r e (.h r (.pickT r e r r r .mk) (.J 9 r (.e2 25 (.M 549755818110 r (.L r r (.F (.bd CG F5 GY r ?_)))))))));exact .R AM .z r (.M 4096 r (.drop .p1 (.K (B7 r (.w BK AM r .z r .n) rf ⟨CL,_,_,r,(.nil _ _ _),hd⟩))))
 refine .h r (.Q r r e (.S BK AM .p1 r .mk)) (.Y r ?_);refine .Q r r e (.AE call270 r (FS R3 hd:) r r λH m=>?_);obtain⟨J,rfl,hd⟩:=m;refine .q 2 r tv (.h r (.Q r r e (.not r r r .mk)) (.h r (.pickF r e r r r .mk) (.J 1 r ?_)));refine CR hd (λc hd=>?_) λc hd=>?_
 . refine .gn r c (.gn r c (.gn r c (.gn r c (.gn r c (.gn r c (.gn r c (.h r (.pickT r c r r r .mk) (.e2 25 (.M 549755818110 r ?_)))))))));exact .L r r (.F (.bd CG F5 GY r (.R AM .z r (.M 4096 r (.drop .p1 (.K (B7 r (.w BK AM r .z r .n) rf ⟨CL,_,_,r,(.nil _ _ _),hd⟩)))))))
 refine .h r (.Q r r c (.fo F5 0 r DD .mk)) (.h r (.Q r r c (.I AJ .p1 r .mk)) (.h r (.Q r r c (.AC r r r .mk)) (.h r (.Q r r c (.AC r r r .mk)) (.h r (.Q r r c (.AC r r r .mk)) (.Y r ?_)))));refine .Q r r c (.AE call329 r (AfL (I:=I) hd:) r r λK q=>?_);obtain⟨O,rfl,hd⟩:=q;refine .q 2 r (.X r (.Q r r c (.I AJ .p1 r .mk)) (.X r (.Q r r c (.fo F5 0 r DD .mk)) tv)) (.h r (.Q r r c (.ne r r r r .mk)) (.h r (.pickF r c r r r .mk) (.e2 25 (.M 549755818110 r (.A r hd (λs hd=>?_) λs hd=>?_)))))
 . exact .F (.bd CG F5 GY r (.R AM .z r (.M 4096 r (.drop .p1 (.K (B7 r (.w BK AM r .z r .n) rf ⟨CL,_,_,r,(.nil _ _ _),hd⟩))))))
 refine .P 4222 r (.N 3 r ?_);refine .u call183 (IZ (I:=I) hd:) r λP hd=>?_;refine .al aI r λR=>?_;refine .R fH .z r (.M 12394 r (.B (.dr AuC 7 (.h r (.S isAgg97 fH .z r .mk) (.J 3 r (.aP aI r (.Y r ?_)))))));refine .u call183 (IZ (I:=I) hd:) r λS hd=>?_;refine .q 3 r (.X r (.S isAgg97 fH .z r .mk) tv) (.Y r ?_);refine .u call274 (cZ (I:=I) hd:) r λT hd=>?_;refine .q 3 r tv (.b r λU=>DrawD.nop ?_);refine .e2 7 (.R fH .p3 r (.ns 28736 r (.S BK AM .p2 r (.AA (i:=0) S7 DD r r (by decide) (o:=0) r r r (.I AJ .p3 r (.AA (i:=0) S7 DD r r (by decide) (o:=0) r r r (.I AJ .z r (.G 1 r (.AA (i:=1) S7 DD r r (by decide) (o:=1) r r r ?_)))))))));refine .I AJ .p3 r (.AA (i:=0) S7 DD r r (by decide) (o:=0) r r r (.I AJ .z r (.G 1 r ?_)));refine .ca call330 r (AcU R3 hd:) λV W f y=>?_;obtain⟨A,X,Y,rfl,B,hd⟩:=y;have R3:=f.u1 R3;exact .R AM .p1 r (.M 4096 r (.drop .z (.drop .p1 (.drop .p1 (.K (B7 r (.w BK AM r .z r .n) f ⟨A,_,_,r,B,hd⟩))))))
theorem fO {a0 a1 Q} (D:ON a0 a1 Q) :
  B6 prog 159 [.agg #[vi a0.1,vi a0.2],.agg #[vi a1.1,vi a1.2]] I (λ_=>Z6 Q):=by
 refine Fun.ee func159 ntmps159 r (.F (.bx r λ_=>.bx r λ_=>?_));refine .C 1 12 r (.B (.dr AuA 12 (.h r (.AA (i:=0) bZ DD r r (by decide) (o:=0) r r r .mk) (.V AJ 1 r (.h r (.AA (i:=0) bZ DD r r (by decide) (o:=0) r r r .mk) (.V AJ 0 r (.h r (.AA (i:=1) bZ DD r r (by decide) (o:=1) r r r .mk) (.V AJ 1 r (.h r (.AA (i:=1) bZ DD r r (by decide) (o:=1) r r r .mk) (.V AJ 0 r (.Y r ?_)))))))))));refine .u call160 (DI (I:=I) D:) r λf D=>.q 2 r (.X r (.I AJ .z r .mk) (.X r (.AA (i:=1) bZ DD r r (by decide) (o:=1) r r r .mk) (.X r (.I AJ .p1 r .mk) (.X r (.AA (i:=1) bZ DD r r (by decide) (o:=1) r r r .mk) tv)))) (.Y r (.u call160 (DI (I:=I) D:) r λa D=>.q 2 r tv (.Y r (.bs 2 BD DD nT r λ_=>?_))));exact .q 3 r tv (.Y r (.pubB (El:=AV) (ys:=([f,a]:List Int)) (k:=2) .z (RepCs.cons (cs:=[vi f]) r (RepCs.cons (cs:=[vi a]) r .nil)) r λ_ d g=>.u call136 (M7 g D:) r λj D=>.q 2 r tv (.e2 12 (.C 1 16 r (.drop .z (.drop .z (.r1 results159 r d ⟨j,r,D⟩)))))))
theorem dA {a0 Q} (O:RepSl AV I p1 c2 a0) (J:JP a0 Q) :
  B6 prog 161 [.slice p1 a0.length c2] I (λ_=>Z6 Q):=by
 refine Fun.ee func161 ntmps161 r (.F (.C 1 1 r (.B (.N 1 r (.ln BD r (.C 1 129 r (.A r J (λk J=>?_) λk J=>?_)))))))
 . exact J.elim
 refine .P 1 r (.N 1 r ?_);have⟨m,_,e,_,_,n,f,J⟩:=O.ix J;refine .W BD DD n m e r (.x 0 AJ f r (.C 1 9 r (.B (.F (.C 1 25 r (.E (.lp J [0] [] r (λj E l (a,c)=>j ((3,vi a) :: (4,vi c) :: E) l) (ji rf [] r) ?_)))))));rintro⟨a,c⟩ _ J;refine jq r λ_ b=>?_;have O:=b.u1 O;refine .B (.N 2 r (.ln BD r (.C 1 32793 r (.A r J (λg J=>?_) λg J=>?_))))
 . refine .P 25 r (.B (.E (.D (.G 3 r ?_))));have⟨p,d,h,_,_,q,i,J⟩:=O.ix J;exact .W BD DD q p h r (.x 0 AJ i r (.minI r r r r (.C 1 25 r (.D (.G 3 r (.H (je ((if d<a then d else a),A4 (c+1)) J b [] r)))))))
 exact .en 8 r (.F (.C 2 4 r (.r1 results161 r b ⟨a,r,J⟩)))
theorem nI {a0 a1 Q} (R2:lTa I ga1 a0) (hd:U2 a0 a1 Q) :
  B6 prog 23 [.agg (bI a0 ga1),vi a1] I (λ_=>Z6 Q):=by
 refine Fun.ee func23 ntmps23 r ?_;refine .F (.bx r λi=>?_);refine .C 1 6 r (.B (.N 1 r ?_));refine .u call49 (MZ (I:=I) hd:) r λf hd=>?_;refine .G 2 r (.T hd [7,8] r (λb hd=>?_) λb hd=>?_)
 . exact .C 4 4102 r (.L r r (.F (.C 1 16 r (.drop .z (.r0 results23 r ⟨0,r,hd⟩)))))
 refine .O r (.S Y0 S8 .z r ?_);refine .O r (.AE call50 r (P3 R2 hd:) r r λg d=>?_);obtain⟨h,rfl,hd⟩:=d;refine .C 2 4102 r (.A r hd (λe hd=>?_) λe hd=>?_)
 . exact .F (.C 1 16 r (.drop .z (.r0 results23 r ⟨0,r,hd⟩)))
 exact .P 6 r (.N 1 r (.I AJ .z r (.G 1 r (.I AJ .z r (.C 7 16 r (.drop .z (.r0 results23 r ⟨(A4 ((A4 (4*(A4 ((A4 (a0.R+a0.C))+4))))*(A4 (a1+2)))),r,hd⟩)))))))
theorem AfM {a0 Q} (R2:iE I gg1 a0) (hd:oH a0 Q) :
  B6 prog 36 [.agg (GW a0 gg1)] I (AxS Q):=by
 refine Fun.ee func36 ntmps36 r ?_;refine .F (.bx r λw=>?_);refine .C 2 2 r (.B (.dr [0,1,3,4,2,5,6] 7 (.J 1 r (.V FK 0 r (.J 1 r (.V FK 0 r (.Y r ?_)))))));refine .ca call38 r (BH R2.1 hd:) λl m a d=>?_;obtain⟨i,o,p,rfl,b,hd⟩:=d;have R2:=a.u1 R2;refine .q 1 r (.X r (.I FK .z r .mk) (.Z 1 r r tv)) (.Y r ?_);refine .ca call38 r (BH R2.2.1 hd:) λq s f g=>?_;obtain⟨j,u,v,rfl,k,hd⟩:=g;have⟨h,R2,b⟩:=f.u3 a R2 b;exact .q 1 r tv (.J 1 r (.e2 7 (.C 1 12 r (.drop .z (.K (B7 r (.t r (.t r .n)) h ⟨(i,j),_,_,_,_,r,b,k,hd⟩))))))
theorem xX {a0 a1 a2 a3 Q} (R3:RepSl CC I p1 c2 a0.Edges) (hd:bF a0 a1 a2 a3 Q) :
  B6 prog 37 [.agg #[vi a0.N,.slice p1 a0.Edges.length c2],vi a1,vi a2,vi a3] I (o2_ Q):=by
 refine Fun.ee func37 ntmps37 r ?_;refine .F (.bx r λg=>?_);refine .al AlZ r λh=>?_;refine .ns 286 r (.S FC D4 .p1 r (.G 3 r ?_));refine .ca call35 r (mX R3 hd:) λi j b d=>?_;obtain⟨a,e,rfl,f,hd⟩:=d;have R3:=b.u1 R3;refine .al AlZ r λk=>?_;refine .R S8 .z r (.M 768 r (.drop .p2 (.N 2 r (.s1 sizeOf54 .z r (.ns 768 r (.S Y0 S8 .z r (.R S8 .p1 r (.M 256 r (.drop .z ?_)))))))));exact .K (B7 r (.w Y0 S8 r .z r .n) b ⟨({ a with Plan:=({ Kind:=2,N:=a.Plan.N,Source:=a.Plan.Source,Length:=a.Plan.Length,Draws:=a.Plan.Draws }:Plan) }:JB),e,r,f,hd⟩)
theorem S9 {o0 Q} (O:EZ o0 Q) :
  Fun prog 39 #[.slice p2 o0.length c3] I [OwnSl AV 3 p2 c3 o0] (λW v l=>∃ r,v=.tuple #[]∧r.length=o0.length∧l=[OwnSl AV 3 p2 c3 r]∧Q r):=by
 refine Fun.ee func39 ntmps39 r (.N 1 r (.ln BD r (.C 3 13 r (.E (.lx O [] [] r (λj E l (a,d,e)=>λc w=>j ⟨28,[],none⟩ (λW=>a.length=o0.length) ((0,.slice p2 a.length c3) :: (2,vi d) :: (3,vi e) :: E) (OwnSl AV 3 p2 c3 a :: l) c w) (λc w U V=>jf rf (by first | exact r | omega | (simp only[QV] at * <;> omega)) [0] r U V) ?_)))));rintro⟨a,d,e⟩ _ O c w ⟨_,f,_,a2,a3⟩;refine Cod.at a2 a3 (.B (.F (.C 3 525 r (.A r O (λy O=>?_) λy O=>?_))))
 . refine .P 13 r (.B (.E (.ownF .z λm=>.dr AcG 14 (.J 6 r ?_))));have⟨p,q,b,O⟩:=O;have⟨_,C⟩:=m (DJ b);cases C;refine .h r (.v BD DD r r p (BF b p) r r .mk) (.h r (.lo1 (j:=0) AJ .z b r r r r r .mk) (.J 2 r ?_));have⟨s,t,g,O⟩:=O;refine .h r (.v BD DD r r s (BF g s) r r .mk) (.h r (.lo1 (j:=0) AJ .z g r r r r r .mk) ?_);have⟨u,_,i,O⟩:=O;refine .h r (.v BD DD r r u (BF i u) r r .mk) (.Y r (.stO1 (j:=0) (v':=q) DD .z i r r r (.o r) r (.P 1 r r r (.Z 2 r r tv) (.e2 14 (.rl .z [0,14,16,18,22] r (by simp only[QV]) ?_)))));have⟨x,_,k,O⟩:=O;exact .v BD DD r r x (BF k x) r r (.stO1 (j:=0) (v':=t) DD .z k r r r (.o r) r (.rl .z [0,14,16,18,22] r (by simp only[QV]) (.M 13 r (.D (.G 6 r (.H λc w U V=>⟨_,O,jf f (by first | exact r | omega | (simp only[QV] at * <;> omega)) [0] r U V⟩))))))
 exact .exit (H3 r .n f (.o [0] r) ⟨a,r,(by first | exact r | omega | (simp only[QV] at * <;> omega)),r,O⟩)
theorem wI {a0 a1 a2 Q} (R3:RepSl AV I p1 c2 a0) (R6:RepSl AV I p4 c5 a1) (hd:bG a0 a1 a2 Q) :
  B6 prog 17 [.slice p1 a0.length c2,.slice p4 a1.length c5,vi a2] I (Ay0 Q):=by
 refine Fun.ee func17 ntmps17 r ?_;refine .N 1 r (.U 7 1 r (.ln CA r (.G 1 r (.ln CA r (.minI r r r r (.C 1 135 r (.B (.N 3 r (.T hd [17,18] r (λL hd=>?_) λL hd=>?_)))))))))
 . exact .C 19 137438953607 r (.L r r (.F (.C 1 64 r (.r0 results17 r ⟨([]:List Int),_,_,r,(.nil _ _ _),hd⟩))))
 refine .G 5 r (.T hd [21,22,23] r (λN hd=>?_) λN hd=>?_)
 . exact .C 14 137438953607 r (.L r r (.F (.C 1 64 r (.r0 results17 r ⟨([]:List Int),_,_,r,(.nil _ _ _),hd⟩))))
 refine .G 2 r ?_;have⟨b0,d2,O,d3,o38,b1,P,hd⟩:=R3.ix hd;refine .O r (.W CA MO b1 b0 O r (.O r (.x 0 J6 P r (.G 3 r (.T hd [28,29,30] r (λR hd=>?_) λR hd=>?_)))))
 . exact .C 7 137438953607 r (.L r r (.F (.C 1 64 r (.r0 results17 r ⟨([]:List Int),_,_,r,(.nil _ _ _),hd⟩))))
 refine .G 2 r ?_;have⟨b2,d4,S,d5,o48,b3,T,hd⟩:=R3.ix hd;refine .O r (.W CA MO b3 b2 S r (.O r (.x 0 J6 T r (.C 3 137438953607 r (.A r hd (λU hd=>?_) λU hd=>?_)))))
 . exact .F (.C 1 64 r (.r0 results17 r ⟨([]:List Int),_,_,r,(.nil _ _ _),hd⟩))
 refine .P 135 r (.N 1 r (.bs 1 BD DD nT r λd6=>?_));refine .ownB (El:=AV) (ys:=([a2]:List Int)) .z (.one r) r (.C 1 391 r (.B (.F (.C 2 899 r (.E (.lx hd vW [] r (λj E l (b,n)=>λc w=>∃ d e,j ⟨77,[],none⟩ (λI_=>True) ((8,.slice d b.length e) :: (9,vi n) :: E) (OwnSl AV 3 d e b :: l) c w) (λc w ho hs=>⟨_,_,jf rf tv [0] r ho hs⟩) ?_))))));rintro⟨b,n⟩ a9 hd c w ⟨d,e,V,a,_,hok,hsym⟩;have⟨R3,R6⟩:=a.u2 R3 R6;refine Cod.at hok hsym (.B (.N 2 r ?_));have⟨W,b5,p,b6,o228,X,q,hd⟩:=R3.ix hd;refine .W CA MO X W p r (.x 0 J6 q r (.C 1 35184372089731 r (.A r hd (λs hd=>?_) λs hd=>?_)))
 . refine .P 899 r (.B (.E (.N 2 r ?_)));have⟨Y,k,t,b7,o247,Z,u,hd⟩:=R6.ix hd;refine .W CA MO Z Y t r (.x 0 J6 u r (.C 1 1923 r (.B (.B (.ownF .z λb4=>?_)))));refine .dr [0,1,2,3,4,5,6,7,8,9,10,11,12,13,14,15,16,17,18] 19 (.J 3 r ?_);refine CR hd (λg hd=>?_) λg hd=>?_
   . rw[g];exact .J 16 r (.e2 19 (.M 4722366482869645215107 r (.L r r (.F (.C 1 64 r (.drop .z (.r1 results17 r a ⟨([]:List Int),_,_,r,(.nil _ _ _),hd⟩)))))))
   rw[g];refine .J 5 r ?_;refine CR hd (λi hd=>?_) λi hd=>?_
   . rw[i];exact .J 11 r (.e2 19 (.M 4722366482869645215107 r (.L r r (.F (.C 1 64 r (.drop .z (.r1 results17 r a ⟨([]:List Int),_,_,r,(.nil _ _ _),hd⟩)))))))
   rw[i];refine .J 2 r ?_;have⟨a3,b8,v,b9,o259,a4,x,hd⟩:=R3.ix hd;refine .h r (.O r (.W CA MO a4 a3 v r .mk)) (.h r (.O r (.x 0 J6 x r .mk)) (.J 2 r ?_));have⟨a5,c0,y,c1,o268,a6,A,hd⟩:=R3.ix hd;refine .h r (.O r (.W CA MO a6 a5 y r .mk)) (.h r (.O r (.x 0 J6 A r .mk)) (.J 3 r (.e2 19 (.M 4722366482869645215107 r (.A r hd (λB hd=>?_) λB hd=>?_)))))
   . exact .F (.C 1 64 r (.drop .z (.r1 results17 r a ⟨([]:List Int),_,_,r,(.nil _ _ _),hd⟩)))
   refine .P 1411 r (.D (.C 2 899 r (.D (.G 2 r (.bs 1 BD DD nT r λc4=>?_)))));have⟨C,hd⟩:=hd;refine .ap (ys:=[k]) .p1 BD BD IN3 r (.box .z (.one r) r) C λc6 c7=>?_;exact .G 1 r (.H λc w ho hs=>⟨_,hd,_,_,jf a tv [0] r ho hs⟩)
 refine .en 256 r (.N 1 r ?_);refine .cS (.f call39 r) (.o [0] r) r (S9 (I:=V) (p2:=d) (c3:=e) hd:) λc8 c9 d0 F G=>?_;obtain⟨a7,rfl,m,rfl,hd⟩:=G;have H:=F.u1 a;refine .rl .z [8,74] r (by rw[m]) (.U 256 2 r (.M 64 r (.pub .z λd1 J a8=>?_)));have K:=J.u1 H;exact .r1 results17 r K ⟨a7,_,_,r,a8,hd⟩
theorem gU {a0 a1 Q} (h:RepSl CC I p1 c2 a0.Edges) (d:RL a0 a1 Q) :
  B6 prog 43 [.agg #[vi a0.N,.slice p1 a0.Edges.length c2],vi a1] I (λ_=>eO Q):=by
 refine Fun.ee func43 ntmps43 r (.F (.bx r λ_=>.G 1 r (.ns 6 r (.S FC D4 .z r (.u call26 (QU h d:) r λ_ d=>.G 2 r (.T d [7,8] r (λa d=>?_) λa d=>?_))))))
 . refine .G 4 r (.T d [10,11,12] r (λb d=>?_) λb d=>?_)
   . exact .G 2 r (.O r (.I AJ .z r (.C 3 16 r (.drop .z (.r0 results43 r ⟨(decide (a1<a0.N)),r,d⟩)))))
   exact .C 6 16 r (.drop .z (.r0 results43 r ⟨false,r,d⟩))
 exact .C 10 16 r (.drop .z (.r0 results43 r ⟨false,r,d⟩))
theorem UW {a0 a1 Q} (U:RepSl AV I p1 c2 a0) (V:RepSl AV I p4 c5 a1) (O:FN a0 a1 Q) :
  B6 prog 67 [.slice p1 a0.length c2,.slice p4 a1.length c5] I (λ_=>eO Q):=by
 refine Fun.ee func67 ntmps67 r (.F (.C 1 3 r (.B (.N 1 r (.ln CA r (.G 1 r (.ln CA r (.C 1 1027 r (.A r O (λk O=>?_) λk O=>?_)))))))))
 . exact .F (.C 1 16 r (.r0 results67 r ⟨false,r,O⟩))
 refine .P 3 r (.B (.N 1 r (.ln CA r (.C 1 12291 r (.E (.lp O [12,1,0] [] r (λj E l b=>j ((13,vi b) :: E) l) (ji rf [] r) ?_))))));refine λb _ O=>jq r λ_ a=>?_;have⟨U,V⟩:=a.u2 U V;refine .F (.C 1 28675 r (.B (.A r O (λc O=>?_) λc O=>?_)))
 . refine .P 12291 r (.B (.E (.F (.C 2 12323 r (.B (.dr AuD 9 (.J 2 r ?_)))))));have⟨n,_,d,_,_,o,e,O⟩:=U.ix O;refine .h r (.W CA MO o n d r .mk) (.h r (.x 0 J6 e r .mk) (.J 2 r ?_));have⟨p,_,f,_,_,q,g,O⟩:=V.ix O;refine .h r (.W CA MO q p f r .mk) (.h r (.x 0 J6 g r .mk) (.J 1 r (.e2 9 (.M 16789507 r (.A r O (λi O=>?_) λi O=>?_)))))
   . exact .F (.C 1 16 r (.r1 results67 r a ⟨false,r,O⟩))
   exact .P 12291 r (.D (.G 2 r (.H (je (A4 (b+1)) O a [] r))))
 exact .en 0 r (.F (.C 1 16 r (.r1 results67 r a ⟨true,r,O⟩)))
theorem nJ {a0 a1 Q} (d:N7 a0 a1 Q) :
  B6 prog 99 [.int .u64 a0,.int .u64 a1] I (λ_=>Ay1 Q):=by
 refine Fun.ee func99 ntmps99 r (.N 2 r (.U 3 3 r (.U 67 1 r (.shr' r r (by decide) r r (.G 1 r (.U 195 3 r (.U 451 1 r (.shr' r r (by decide) r r (.G 1 r (.U 963 4 r ?_))))))))));exact .U 1987 4 r (.shr' r r (by decide) r r (.G 2 r (.U 2755 3 r (.U 6851 1 r (.shr' r r (by decide) r r (.G 1 r (.U 12995 6 r (.U 12931 6 r (.shr' r r (by decide) r r (.G 2 r (.U 19 4 r (.M 48 r (.K (B7 r (.t r (.t r .n)) rf ⟨(IntKind.wrap .u64 ((IntKind.wrap .u64 ((IntKind.wrap .u64 ((shr .u64 a0 32)*(shr .u64 a1 32)))+(shr .u64 (IntKind.wrap .u64 ((IntKind.wrap .u64 ((shr .u64 a0 32)*(TI .u64 a1 4294967295)))+(shr .u64 (IntKind.wrap .u64 ((TI .u64 a0 4294967295)*(TI .u64 a1 4294967295))) 32))) 32)))+(shr .u64 (IntKind.wrap .u64 ((TI .u64 (IntKind.wrap .u64 ((IntKind.wrap .u64 ((shr .u64 a0 32)*(TI .u64 a1 4294967295)))+(shr .u64 (IntKind.wrap .u64 ((TI .u64 a0 4294967295)*(TI .u64 a1 4294967295))) 32))) 4294967295)+(IntKind.wrap .u64 ((TI .u64 a0 4294967295)*(shr .u64 a1 32))))) 32)),IntKind.wrap .u64 (a0*a1)),r,d⟩))))))))))))))
theorem rO {a0 a1 Q} (d:KA a0 a1 Q) :
  B6 prog 70 [.int .u64 a0,.int .u64 a1] I (λ_=>Ay1 Q):=by
 exact Fun.ee func70 ntmps70 r (.F (.C 2 3 r (.B (.j r r (.P 3 r (.N 2 r (.u call99 (nJ (I:=I) d:) r λb d=>.G 5 r (.U 768 4 r (.M 48 r (.K (B7 r (.t r (.t r .n)) rf ⟨(b.1,b.2),r,d⟩)))))))))))
theorem KZ {a0 a1 Q} (R3:RepSl AV I p1 c2 a0) (D:DY a0 a1 Q) :
  wV prog 42 [.slice p1 a0.length c2,vi a1] I (λW v l=>∃ r p4 c5,v=.slice p4 r.length c5∧l=[OwnSl AV 2 p4 c5 r]∧Q r):=by
 refine Fun.ee func42 ntmps42 r (.F (.C 1 3 r (.B (.F (.C 2 1027 r (.A r D (λn D=>?_) λn D=>?_))))))
 . exact D.elim
 refine .P 3 r (.N 1 r (.ln CA r (.conv lY AlY r r r (.G 1 r (.conv lY AlY r r r (.u call70 (rO (I:=I) D:) r λ_ D=>.C 5 97 r (.B (.N 3 r (.T D [22,23] r (λi D=>?_) λi D=>?_)))))))))
 . exact D.elim
 refine .C 3 67108929 r (.A r D (λk D=>?_) λk D=>?_)
 . exact D.elim
 refine .P 65 r (.N 1 r (.conv AlY lY r r r ?_));have⟨o,p,D⟩:=D;refine .make (El:=AV) (zv:=0) 8 CA IN2 r r r r r r o p r r r λ_=>.G 1 r (.U 129 2 r (.copyI CA IN2 r r .z R3 r r r r r r (.rl .z [7,31] r (by rw[dM (by omega)]) (.C 1 384 r (.B (.E (.lx D [] [] r (λj E l (b,a)=>λc w=>∃ d e,j ⟨48,[],none⟩ (λW=>True) ((7,.slice d b.length e) :: (8,vi a) :: E) (OwnSl AV 2 d e b :: l) c w) (λc w O V=>⟨_,_,jf rf tv [0] r O V⟩) ?_)))))));rintro⟨b,a⟩ _ D c w ⟨d,e,_,f,_,a2,a3⟩;refine Cod.at a2 a3 (.B (.N 2 r (.ln CA r (.C 1 137438953856 r (.A r D (λm D=>?_) λm D=>?_)))))
 . refine .P 384 r (.E (.dr AuD 9 (.J 3 r ?_)));have⟨s,_,_,D⟩:=D;refine .h r (.sliceO (L:=a.toNat) (H:=b.length) CA MO r r .z r r (.inr ⟨_,_,r,s,r⟩) (.inl ⟨r,r⟩) (by omega) (by omega) r r .mk) (.J 2 r ?_);have⟨_,_,_,D⟩:=D;exact .h r (.sliceO (L:=0) (H:=a.toNat) CA MO r r .z r r (.inl ⟨r,r⟩) (.inr ⟨_,_,r,(by omega),r⟩) (by omega) (by omega) r r .mk) (.Y r (.copyS CA IN2 r r .z r r (by omega) (by omega) r r r (.q 1 r (.Z 1 r r tv) (.J 1 r (.e2 9 (.rl .z [7,39,42] r (by rw[dM (by omega)]) (.G 1 r (.H λc w O V=>⟨_,D,_,_,jf f tv [0] r O V⟩))))))))
 exact .en 128 r (.F (.C 2 16 r (.q1 results42 f [0] r ⟨b,_,_,r,r,D⟩)))
theorem nK {a0 Q} (h:RepSl BS I p1 c2 a0) (d:S2 a0 Q) :
  B6 prog 95 [.slice p1 a0.length c2] I (λ_=>Z6 Q):=by
 exact Fun.ee func95 ntmps95 r (.N 1 r (.U 1 1 r (.ln SF r (.C 1 4 r (.r0 results95 r ⟨(a0.length:Int),r,d⟩)))))
theorem P8 {o0 Q} (d:GK o0 Q) :
  Fun prog 95 #[.slice p2 o0.length c3] I [OwnSl BS 161 p2 c3 o0] (λ_ v l=>∃ r,v=vi r∧l=[OwnSl BS 161 p2 c3 o0]∧Q r):=by
 exact Fun.ee func95 ntmps95 r (.N 1 r (.U 1 1 r (.ln SF r (.C 1 5 r (.q1 results95 rf [0] r ⟨(o0.length:Int),r,r,d⟩)))))
theorem K0 {o0 a0 a1 Q} (D:EQ o0 a0 a1 Q) :
  Fun prog 396 #[.slice p2 o0.length c3,vi a0,vi a1] I [OwnSl BS 161 p2 c3 o0] (λ_ v l=>∃ r,v=.tuple #[]∧r.length=o0.length∧l=[OwnSl BS 161 p2 c3 r]∧Q r):=by
 refine Fun.ee func396 ntmps396 r (.ownF .z λk=>.dr AcG 14 (.J 6 r ?_));have⟨m,p,a,D⟩:=D;have⟨_,q⟩:=k (DJ a);cases q;refine .h r (.v SF ME r r m (BF a m) r r .mk) (.h r (.loA (j:=0) isAgg161 ME .z a r r (.o 2 r) r r r .mk) (.J 2 r ?_));have⟨e,f,b,D⟩:=D;refine .h r (.v SF ME r r e (BF b e) r r .mk) (.h r (.loA (j:=0) isAgg161 ME .z b r r (.o 2 r) r r r .mk) ?_);have⟨g,_,c,D⟩:=D;refine .h r (.v SF ME r r g (BF c g) r r .mk) (.Y r λ{O}=>.stOA (j:=0) (v':=p) ME .z c r r r (.o r) r r (.P 1 r r r (.Z 2 r r tv) (.e2 14 (.rl .z [0,6,8,10,14] r (by simp only[QV]) ?_))));have⟨i,_,d,D⟩:=D;exact .v SF ME r r i (BF d i) r r (.stOA (j:=0) (v':=f) ME .z d r r r (.o r) r r (.rl .z [0,6,8,10,14] r (by simp only[QV]) (.H (H3 r .n rf (.o [0] r) ⟨((o0.set a0.toNat p).set a1.toNat f),r,(by first | exact r | omega | (simp only[QV] at * <;> omega)),r,D⟩))))
theorem K1 {o0 a0 a1 Q} (D:ER o0 a0 a1 Q) :
  Fun prog 393 #[.slice p2 o0.length c3,vi a0,vi a1] I [OwnSl BS 161 p2 c3 o0] (λ_ v l=>∃ r,v=.bool r∧l=[OwnSl BS 161 p2 c3 o0]∧Q r):=by
 refine Fun.ee func393 ntmps393 r (.F (.C 1 7 r (.B (.ownF .z λd=>.dr nl5 11 (.J 2 r ?_)))));have⟨e,g,a,D⟩:=D;have⟨_,i⟩:=d (DJ a);cases i;refine .h r (.v SF ME r r e (BF a e) r r .mk) (.J 1 r (.h r (.lo1 (j:=1) J6 .z a r r r r r .mk) (.J 2 r ?_)));have⟨c,f,b,D⟩:=D;exact .h r (.v SF ME r r c (BF b c) r r .mk) (.J 1 r (.h r (.lo1 (j:=1) J6 .z b r r r r r .mk) (.J 1 r (.e2 11 (.C 1 65 r (.q1 results393 rf [0] r ⟨(decide (g.far<f.far)),r,r,D⟩))))))
theorem VE {o0 a0 a1 Q} (hd:G6 o0 a0 a1 Q) :
  Fun prog 128 #[.iface 159 (vp b2),vi a0,vi a1] I [pc b2 #[.slice p3 o0.length c4] 163,OwnSl BS 161 p3 c4 o0] (λI_ v l=>∃ r p8 c9,v=.bool r.1∧l=[pc b2 #[.slice p8 r.2.length c9] 163,OwnSl BS 161 p8 c9 r.2]∧Q r):=by
 refine Fun.ee func128 ntmps128 r ?_;refine .N 1 r (.U 7 2 r (.M 135 r (.B (.E (.lx hd nl7 [] r (λj E l (b,a)=>λc w=>j ⟨48,[],none⟩ (λI_=>b.length=o0.length) ((7,vi a) :: E) (pc b2 #[.slice p3 b.length c4] 163 :: OwnSl BS 161 p3 c4 b :: l) c w) (λc w ho hs=>jf rf (by first | exact r | omega | (simp only[QV] at * <;> omega)) MF r ho hs) ?_)))));rintro⟨b,a⟩ O hd c w ⟨K,d,P,hok,hsym⟩;refine Cod.at hok hsym (.E (.F (.C 4 391 r (.B (.N 4 r (.T hd [17,18] r (λm hd=>?_) λm hd=>?_))))))
 . exact .C 3 2097543 r (.L r r (.en 131 r (.F (.C 4 65 r (.q1 results128 d MF r ⟨(decide (a0<a),b),_,_,r,r,hd⟩)))))
 refine .C 3 2097543 r (.A r hd (λn hd=>?_) λn hd=>?_)
 . exact .en 131 r (.F (.C 4 65 r (.q1 results128 d MF r ⟨(decide (a0<a),b),_,_,r,r,hd⟩)))
 refine .P 391 r (.F (.C 2 903 r (.B (.jn hd [7,2,1,0] MF r (λj E l f=>j ((9,vi f) :: E) l) (λT hd=>?_) ?_))))
 . refine .N 3 r (.U 1927 4 r (.T hd [27,28] r (λp hd=>?_) λp hd=>?_))
   . refine .G 3 r ?_;refine .O r (.cS (.iv call393 (IB (E6 MD gD r r r ZV) UJ .z r) r r) (.o [1] r) r (K1 (I:=K) (p2:=p3) (c3:=c4) hd:) λU V W e s=>?_);obtain⟨X,rfl,rfl,hd⟩:=s;have R:=e.u1 d;refine .rn 2 r (.C 1 8589936263 r (.A r hd (λt hd=>?_) λt hd=>?_))
     . exact .D (.G 2 r (.H (je (A4 ((A4 ((A4 (2*a))+1))+1)) hd e gK r)))
     exact .AB (je (A4 ((A4 (2*a))+1)) hd e gK r)
   exact .C 5 8589936263 r (.j r r (.AB (je (A4 ((A4 (2*a))+1)) hd rf MF r)))
 refine λf hd=>jq r λL g=>?_;have u:=g.u1 d;refine .B (.N 3 r ?_);refine .cS (.iv call393 (IB (E6 MD gD r r r ZV) UJ .z r) r r) (.o [1] r) r (K1 (I:=L) (p2:=p3) (c3:=c4) hd:) λY N Z y A=>?_;obtain⟨a2,rfl,rfl,hd⟩:=A;have⟨h,C⟩:=y.u2 u g;refine .rn 2 r (.C 1 549755814535 r (.A r hd (λD hd=>?_) λD hd=>?_))
 . exact .en 131 r (.F (.C 4 65 r (.q1 results128 h gK r ⟨(decide (a0<a),b),_,_,r,r,hd⟩)))
 refine .P 647 r (.N 3 r ?_);refine .cS (.iv call396 (IB (E6 MD gD r r r ZV) UJ .p1 r) r r) (.o [0] r) r (K0 (I:=N) (p2:=p3) (c3:=c4) hd:) λa3 a4 a5 G H=>?_;obtain⟨k,rfl,i,rfl,hd⟩:=H;have⟨J,S⟩:=G.u2 h C;exact .reat .p1 (B:=pc b2 #[.slice p3 k.length c4] 163) (by rw[i]) (.M 519 r (.D (.G 2 r (.H λc w ho hs=>⟨_,hd,jf J (by first | exact r | omega | (simp only[QV] at * <;> omega)) gK r ho hs⟩))))
theorem aM {o0 Q} (h:MJ o0 Q) :
  Fun prog 394 #[vp b2] I [pc b2 #[.slice p3 o0.length c4] 163,OwnSl BS 161 p3 c4 o0] (λ_ v l=>∃ r p8 c9,v=.iface 161 (.agg (MP r.1).toArray)∧l=[pc b2 #[.slice p8 r.2.length c9] 163,OwnSl BS 161 p8 c9 r.2]∧Q r):=by
 refine Fun.ee func394 ntmps394 r (.N 1 r (.U 1 2 r (.I UJ .z r (.ln SF r (.G 2 r (.U 9 2 r (.I UJ .z r (.G 1 r ?_))))))));have⟨b,c,a,h⟩:=h;refine .ownNe .p1 (DJ a) λ_ d=>?_;cases d;refine .v SF ME r r b (BF a b) r r (.loA (j:=0) isAgg161 ME .p1 a r r (.o 2 r) r r r (.al uV r λ_=>.R ME .z r (.U 25 3 r (.I UJ .p1 r (.G 1 r ?_)))));have⟨_,_,_,h⟩:=h;exact .sliceT (H:=(A4 ((o0.length:Int) - 1)).toNat) SF ME r r .p2 .p2 r (by omega) r (by omega) r r (.G 1 r (.s1 sizeOf163 .p1 r (.ns 17 r (.S isAgg161 ME .z r (.mkIface underlying161 r r r r (.C 1 5 r (.drop .z (.q1 results394 rf MF r ⟨(c,(o0.take (A4 ((o0.length:Int) - 1)).toNat)),_,_,r,r,h⟩))))))))
theorem X3 {o0 Q} (hd:GR o0 Q) :
  Fun prog 96 #[.iface 159 (vp b2)] I [pc b2 #[.slice p3 o0.length c4] 163,OwnSl BS 161 p3 c4 o0] (λI_ v l=>∃ r p8 c9,v=.iface 161 (.agg (MP r.1).toArray)∧l=[pc b2 #[.slice p8 r.2.length c9] 163,OwnSl BS 161 p8 c9 r.2]∧Q r):=by
 refine Fun.ee func96 ntmps96 r ?_;refine .N 1 r (.U 1 1 r ?_);refine .cS (.iv call95 (IB (E6 MD gD r r r ZV) UJ .z r) r r) (.o [1] r) r (P8 (I:=I) (p2:=p3) (c3:=c4) hd:) λF x G d e=>?_;obtain⟨H,rfl,rfl,hd⟩:=e;refine .rn 2 r (.G 2 r (.U 9 2 r ?_));refine .cS (.iv call396 (IB (E6 MD gD r r r ZV) UJ .p1 r) r r) (.o [0] r) r (K0 (I:=x) (p2:=p3) (c3:=c4) hd:) λJ y K h j=>?_;obtain⟨A,rfl,a,rfl,hd⟩:=j;have k:=h.u1 d;refine .reat .p1 (B:=pc b2 #[.slice p3 A.length c4] 163) (by rw[a]) (.U 9 2 r ?_);refine .cS (.f call128 r) (.o gK r) r (VE (I:=y) (b2:=b2) (p3:=p3) (c4:=c4) hd:) λL C N n p=>?_;obtain⟨O,D,E,rfl,rfl,hd⟩:=p;have q:=n.u1 k;refine .rn 2 r (.U 1 1 r ?_);refine .cS (.i call394 (YK MD gD r r r ZV) r r) (.o MF r) r (aM (I:=C) (b2:=b2) (p3:=D) (c4:=E) hd:) λP R S t u=>?_;obtain⟨b,T,U,rfl,rfl,hd⟩:=u;have w:=t.u1 q;exact .rn 2 r (.C 1 5 r (.q1 results96 w MF r ⟨(b.1,b.2),_,_,r,r,hd⟩))
theorem ZJ {o0 a0 Q} (d:LB o0 a0 Q) :
  Fun prog 395 #[vp b2,.iface 161 (.agg (MP a0).toArray)] I [pc b2 #[.slice p3 o0.length c4] 163,OwnSl BS 161 p3 c4 o0] (fun _ v l=>∃ r p8 c9,v=.tuple #[]∧l=[pc b2 #[.slice p8 r.length c9] 163,OwnSl BS 161 p8 c9 r]∧Q r):=by
 refine Fun.ee func395 ntmps395 r (.N 1 r (.assertOk underlying161 r r r r (.G 3 r (.al uV r fun _=>.R ME .z r (.G 1 r (.U 49 1 r (.M 2065 r (.L r r (.dr nl8 7 (.J 3 r (.V UJ 1 r (.h r (.S isAgg161 ME .z r .mk) (.Y r ?_)))))))))))))
 refine .bs 1 SF ME uV r fun _=>.q 4 r (.X r (.I UJ .p2 r .mk) (.Z 3 r r tv)) (.Y r ?_)
 obtain ⟨a,d⟩:=d
 exact .ap (ys:=[a0]) .p3 SF SF AxG r (.box .z (.one r) r) a fun _ _=>.q 4 r (.Z 1 r r tv) (.e2 7 (.G 1 r (.s1 sizeOf163 .p3 r (.H (H3 r .n rf (.o [3,0] r) ⟨(o0++([a0])),_,_,r,r,d⟩)))))
theorem Y9 {o0 a0 Q} (hd:HB o0 a0 Q) :
  Fun prog 129 #[.iface 159 (vp b2),vi a0] I [pc b2 #[.slice p3 o0.length c4] 163,OwnSl BS 161 p3 c4 o0] (λI_ v l=>∃ r p8 c9,v=.tuple #[]∧l=[pc b2 #[.slice p8 r.length c9] 163,OwnSl BS 161 p8 c9 r]∧Q r):=by
 refine Fun.ee func129 ntmps129 r ?_;refine .E (.lx hd [0] [] r (λj E l (a,b)=>λc w=>j ⟨23,[],none⟩ (λI_=>a.length=o0.length) ((1,vi b) :: E) (pc b2 #[.slice p3 a.length c4] 163 :: OwnSl BS 161 p3 c4 a :: l) c w) (λc w ho hs=>jf rf (by first | exact r | omega | (simp only[QV] at * <;> omega)) MF r ho hs) ?_);rintro⟨a,b⟩ x hd c w ⟨y,d,A,hok,hsym⟩;refine Cod.at hok hsym (.E (.N 2 r (.quo r r (by decide) r r (.C 1 19 r (.B (.N 4 r (.T hd [10,11] r (λh hd=>?_) λh hd=>?_)))))))
 . exact .C 6 131091 r (.L r r (.exit (H3 r .n d (.o MF r) ⟨a,_,_,r,r,hd⟩)))
 refine .G 3 r ?_;refine .O r (.cS (.iv call393 (IB (E6 MD gD r r r ZV) UJ .z r) r r) (.o [1] r) r (K1 (I:=y) (p2:=p3) (c3:=c4) hd:) λD C F k m=>?_);obtain⟨G,rfl,rfl,hd⟩:=m;have e:=k.u1 d;refine .rn 2 r (.C 2 131091 r (.A r hd (λp hd=>?_) λp hd=>?_))
 . exact .exit (H3 r .n e (.o gK r) ⟨a,_,_,r,r,hd⟩)
 refine .P 19 r (.N 3 r ?_);refine .cS (.iv call396 (IB (E6 MD gD r r r ZV) UJ .p1 r) r r) (.o [0] r) r (K0 (I:=C) (p2:=p3) (c3:=c4) hd:) λH J K s t=>?_;obtain⟨g,rfl,f,rfl,hd⟩:=t;have u:=s.u1 e;exact .reat .p1 (B:=pc b2 #[.slice p3 g.length c4] 163) (by rw[f]) (.M 17 r (.D (.G 2 r (.H λc w ho hs=>⟨_,hd,jf u (by first | exact r | omega | (simp only[QV] at * <;> omega)) gK r ho hs⟩))))
theorem VF {o0 a0 Q} (hd:G7 o0 a0 Q) :
  Fun prog 97 #[.iface 159 (vp b2),.iface 161 (.agg (MP a0).toArray)] I [pc b2 #[.slice p3 o0.length c4] 163,OwnSl BS 161 p3 c4 o0] (λI_ v l=>∃ r p8 c9,v=.tuple #[]∧l=[pc b2 #[.slice p8 r.length c9] 163,OwnSl BS 161 p8 c9 r]∧Q r):=by
 refine Fun.ee func97 ntmps97 r ?_;refine .N 2 r ?_;refine .cS (.i call395 (YK MD gD r r r ZV) r r) (.o MF r) r (ZJ (I:=I) (b2:=b2) (p3:=p3) (c4:=c4) hd:) λx w y s c=>?_;obtain⟨A,a,b,rfl,rfl,hd⟩:=c;refine .rn 2 r (.M 1 r (.D (.G 2 r ?_)));refine .cS (.iv call95 (IB (E6 MD gD r r r ZV) UJ .z r) r r) (.o [1] r) r (P8 (I:=w) (p2:=a) (c3:=b) hd:) λB t C e g=>?_;obtain⟨D,rfl,rfl,hd⟩:=g;have h:=e.u1 s;refine .rn 2 r (.G 1 r ?_);refine .cS (.f call129 r) (.o gK r) r (Y9 (I:=t) (b2:=b2) (p3:=a) (c4:=b) hd:) λE F G k m=>?_;obtain⟨u,H,J,rfl,rfl,hd⟩:=m;have p:=k.u1 h;exact .rn 2 r (.H (H3 r .n p (.o MF r) ⟨u,_,_,r,r,hd⟩))
theorem xY {a0 a1 Q} (R3:RepSl CC I p1 c2 a0.Edges) (hd:VU a0 a1 Q) :
  B6 prog 68 [.agg #[vi a0.N,.slice p1 a0.Edges.length c2],vi a1] I (o3_ Q):=by
 refine Fun.ee func68 ntmps68 r ?_;refine .F (.bx r λb9=>?_);refine .G 1 r (.ns 6 r (.bs 1 CA MO zv2 r λo9=>?_));refine .G 1 r (.I AJ .p1 r (.pubB (El:=AV) (ys:=([4611686018427387904]:List Int)) (k:=1) .z (.one r) r λp0 c8 c9=>?_));have R3:=c8.u1 R3;refine .AD call42 r (KZ c9 hd:) r r λp5 p6 p7 i2 i3=>?_;obtain⟨p8,p9,q0,rfl,rfl,hd⟩:=i3;have⟨i4,R3,c9⟩:=i2.u3 c8 R3 c9;refine .G 1 r (.U 38 2 r ?_);have⟨i0,q1,b3,hd⟩:=hd;refine .ownNe .z (DJ b3) λq2 j2=>?_;cases j2;refine .v CA MO r r i0 (BF b3 i0) r r (.stO1 (j:=0) (v':=0) MO .z b3 r r r (.o r) r (.rl .z [5,18] r (by simp only[QV]) (.U 38 1 r (.I AJ .p1 r ?_))));have⟨j3,j4,hd⟩:=hd;refine .make (El:=wX) (zv:=(none,0,0)) 24 gF AyD r r r r r r j3 j4 r r r λj5=>?_;refine .toNest CC 73 .z (.sub (E':=[(1,_),(2,_),(5,_),(21,_),(22,_),(23,.slice (some ⟨j5,0,none⟩) (List.replicate a0.N.toNat ([]:List B0)).length a0.N.toNat)]) ⟨r,r,r,r,r,(by simp only[AnQ]; rfl),tv⟩ (.C 1 102 r (.B (.F (.S FC D4 .p2 r ?_)))));refine .ca call44 r (I6 R3 hd:) λn2 n3 f9 g0=>?_;obtain⟨n4,n5,n6,rfl,b4,hd⟩:=g0;have⟨g1,R3⟩:=f9.u2 i4 R3;refine .field1 oU r RS r r r r (.ln F8 r (.C 1 469762146 r (.drop .p2 (.E (.lx hd [27,26,5,1] [1] r (λj E l (e,b5)=>λc w=>∃ b6 s,j ⟨107,[],none⟩ (λI_=>True) ((6,.slice b6 e.length s) :: (28,vi b5) :: E) (O7 CC 73 22 b6 s e :: l) c w) (λc w ho hs=>⟨_,_,jf rf tv MF r ho hs⟩) ?_)))));rintro⟨e,b5⟩ j0 hd c w ⟨b6,s,n7,L,_,hok,hsym⟩;have⟨g2,b4⟩:=L.u2 g1 b4;refine Cod.at hok hsym (.F (.C 1 1006633058 r (.B (.A r hd (λg3 hd=>?_) λg3 hd=>?_))))
 . refine .P 469762146 r (.B (.E (.F ?_)));have⟨i5,b,g4,n8,o413,i6,g5,hd⟩:=b4.ix hd;refine .W F8 E5 i6 i5 g4 r (.ldW OY E5 g5 r r r r (.al QG r λn9=>?_));refine .R E5 .z r (.M 469762402 r (.nestN .p1 λd0=>?_));refine .nestX .p1 λj6 K=>?_;refine .dr nl5 11 (.J 2 r (.V AJ 2 r (.J 2 r (.V AJ 2 r ?_))));have⟨O,P,g,hd⟩:=hd;have⟨b7,i7⟩:=d0 (DJ g);cases i7;have⟨o0,o1,B⟩:=K.2 _ _ g;refine .h r (.v gF sizeOf22 r r O (BF g O) r r .mk) (.h r (.lo1 (j:=0) RS .z B r r r r r .mk) (.h r (.S OY E5 .p2 r .mk) (.Y r ?_)));refine .bs 1 F8 E5 QG r λo2=>?_;refine .q 5 r (.X r (.lo1 (j:=0) RS .p1 B r r r r r .mk) (.X r (.v gF sizeOf22 r r O (BF g O) r r .mk) (.X r (.I AJ .p3 r .mk) (.Z 2 r r (.X r (.I AJ .p3 r .mk) (.Z 2 r r tv)))))) (.Y r ?_);refine .nestF .p2 g B ?_;have⟨g6,hd⟩:=hd;refine .ap (ys:=[b]) .z F8 F8 AbQ r (.box .p2 (.one r) r) g6 λo3 o4=>?_;refine .q 6 r (.X r (.I AJ .p4 r .mk) (.Z 2 r r tv)) (.e2 11 ?_);have⟨d1,o5,R,hd⟩:=hd;have⟨o6,o7,j7⟩:=K.2 _ _ R;exact .v gF sizeOf22 r r d1 (BF R d1) r r (.nestSt sizeOf22 .p1 r .z .p1 R r r r r (.sub (E':=[(1,_),(5,_),(6,.slice (some ⟨b7,0,none⟩) (e.set b.From.toNat (P++([b]))).length s),(26,_),(27,_),(28,_),(8,_),(32,.slice (some ⟨b7,0,none⟩) (e.set b.From.toNat (P++([b]))).length s),(33,_),(34,_),(35,.slice (some ⟨b7,0,none⟩) (e.set b.From.toNat (P++([b]))).length s),(36,_),(37,_),(38,_),(39,_),(40,_),(41,_),(42,_),(43,_)]) ⟨r,r,(by simp only[QV]; rfl),r,r,r,r,(by simp only[QV]; rfl),r,r,(by simp only[QV]; rfl),r,r,r,r,r,r,r,r,tv⟩ (.M 469762146 r (.drop .p1 (.drop .p1 (.D (.G 2 r (.H λc w ho hs=>⟨_,hd,_,_,jf L tv MF r ho hs⟩))))))))
 refine .en 98 r (.N 1 r (.bd uV underlying161 AuT r (.bs 1 SF ME uV r λo8=>?_)));refine .ownB (El:=BS) (ys:=([({ v:=a1,far:=0 }:AO)]:List AO)) .z (.one r) r (.box1 r r r r λS=>?_);refine .C 1 608 r (.B (.E (.pubNest .p2 λk6 a3 g7=>?_)));have⟨d2,d3⟩:=a3.u2 g2 L;refine .lx hd [9] [] r (λj E l (i,m,t)=>λc w=>∃ T U V X u n,j ⟨107,[],none⟩ (λI_=>RepSl (nZ CC) I_ V X m) ((5,.slice T i.length U) :: (6,.slice V m.length X) :: E) (OwnSl AV 2 T U i :: pc S #[.slice u t.length n] 163 :: OwnSl BS 161 u n t :: l) c w) (λc w ho hs=>⟨_,_,_,_,_,_,jf rf g7 [2,0,0] r ho hs⟩) ?_;rintro⟨i,m,t⟩ i8 hd c w ⟨T,U,V,X,u,n,b8,C,a,hok,hsym⟩;have⟨a4,a5,a6⟩:=C.u3 d2 d3 a3;refine Cod.at hok hsym (.B (.N 2 r (.I UJ .p1 r ?_)));have d4:=λ(J:IH) (hJ:IH.le b8 J) (hL:SM J [OwnSl BS 161 u n t])=>nK (I:=J) (Al7 hL.1) hd;refine .callB (.f call95 r) (.o [2] r) d4 r r λk7 _ d5=>?_;obtain⟨k8,rfl,hd⟩:=d5;refine .C 1 9007199254741600 r (.A r hd (λd6 hd=>?_) λd6 hd=>?_)
 . refine .P 608 r (.E (.N 2 r (.I UJ .p1 r ?_)));have⟨c0,c1,D,hd⟩:=hd;refine .ownNe .p2 (DJ D) λg8 g9=>?_;cases g9;refine .v SF ME r r c0 (BF D c0) r r (.loA (j:=0) isAgg161 ME .p2 D r r (.o 2 r) r r r (.al uV r λk9=>?_));refine .R ME .z r (.U 1632 1 r (.mkIface ZV r r r r ?_));refine .cS (.f call96 r) (.o [2,2] r) r (X3 (I:=b8) (b2:=S) (p3:=some ⟨g8,0,none⟩) (c4:=n) hd:) λl0 l1 l2 d8 d9=>?_;obtain⟨h0,l3,l4,rfl,rfl,hd⟩:=d9;have⟨e0,e1,e3,a7,a⟩:=d8.u5 a4 a5 a6 C a;refine .rn 4 r (.M 1632 r (.B (.B (.ownF .p1 λj1=>?_))));refine .ownF .p3 λc7=>?_;refine .dr AuB 8 (.J 1 r (.V J6 2 r (.J 2 r (.V AJ 2 r ?_))));have⟨c3,l5,F,hd⟩:=hd;have⟨l6,h1⟩:=c7 (DJ F);cases h1;refine .h r (.v CA MO r r c3 (BF F c3) r r .mk) (.h r (.lo1 (j:=0) J6 .p3 F r r r r r .mk) (.J 1 r (.e2 8 (.M 590295810358705653344 r (.A r hd (λe4 hd=>?_) λe4 hd=>?_)))))
   . exact .exit λc w ho hs=>⟨_,hd,_,_,_,_,_,_,jf a7 a [3,0,0] r ho hs⟩
   refine .P 1632 r (.N 2 r (.I AJ .p2 r ?_));have⟨h2,l7,a8,hd⟩:=hd;obtain⟨l8,o1196,j8,h3,e5,l9,m0,rfl,p⟩:=a.2 _ _ a8;refine .W gF sizeOf22 h3 h2 a8 r (.x 0 RS e5 r (.ln F8 r (.C 1 132226261520350065985120 r (.E (.lx hd [75,74,10,9,6] [2] r (λj E l (d,q,x)=>λc w=>∃ Y Z y A,j ⟨107,[],none⟩ (λI_=>True) ((5,.slice Y d.length Z) :: (76,vi x) :: E) (OwnSl AV 2 Y Z d :: pc S #[.slice y q.length A] 163 :: OwnSl BS 161 y A q :: l) c w) (λc w ho hs=>⟨_,_,_,_,jf rf tv [3,0,0,0] r ho hs⟩) ?_)))));rintro⟨d,q,x⟩ i9 hd c w ⟨Y,Z,y,A,h4,G,_,hok,hsym⟩;have⟨e6,e7,e8,a9,a,p⟩:=G.u6 e0 e1 e3 a7 a p;refine Cod.at hok hsym (.F (.C 1 283341988972178712823392 r (.B (.A r hd (λe9 hd=>?_) λe9 hd=>?_))))
   . refine .P 132226261520350065985120 r (.B (.E (.F ?_)));have⟨h5,a2,f0,m1,o1370,h6,f1,hd⟩:=p.ix hd;refine .W F8 E5 h6 h5 f0 r (.ldW OY E5 f1 r r r r (.al QG r λm2=>?_));refine .R E5 .z r (.U 132226261520350065989216 1 r (.I J6 .p4 r (.G 1 r (.I J6 .z r (.G 2 r (.U 132226261520350065997408 3 r (.I AJ .z r ?_)))))));have⟨c5,m3,H,hd⟩:=hd;refine .ownNe .p1 (DJ H) λm4 h7=>?_;cases h7;refine .v CA MO r r c5 (BF H c5) r r (.lo1 (j:=0) J6 .p1 H r r r r r (.C 1 2476012304832280899864245856 r (.A r hd (λf2 hd=>?_) λf2 hd=>?_)))
     . refine .N 2 r (.I AJ .z r (.G 1 r ?_));have⟨c6,m5,b0,hd⟩:=hd;refine .v CA MO r r c6 (BF b0 c6) r r (.stO1 (j:=0) (v':=(A4 (c1.far+a2.W))) MO .p1 b0 r r r (.o r) r (.rl .p1 [5,92] r (by simp only[QV]) (.M 132226261520350065997408 r (.D (.G 1 r (.mkIface ZV r r r r (.G 1 r (.I AJ .z r (.G 1 r ?_)))))))));refine .bd uV underlying161 AuT r (.mkIface underlying161 r r r r ?_);refine .cS (.f call97 r) (.o [2,2] r) r (VF (I:=h4) (b2:=S) (p3:=y) (c4:=A) hd:) λm6 m7 m8 b1 f4=>?_;obtain⟨h8,m9,n0,rfl,rfl,hd⟩:=f4;have⟨j9,k0,k1,k2,f5,a⟩:=b1.u6 e6 e7 e8 a9 G a;have p:=b1.u1 p;exact .rn 5 r (.M 132226261520350065985120 r (.drop .p2 (.D (.G 2 r (.H λc w ho hs=>⟨_,hd,_,_,_,_,jf f5 tv [2,0,0,0] r ho hs⟩)))))
     exact .P 132226261520350065985120 r (.drop .z (.D (.G 2 r (.H λc w ho hs=>⟨_,hd,_,_,_,_,jf G tv VA r ho hs⟩))))
   exact .exit λc w ho hs=>⟨_,hd,_,_,_,_,_,_,jf a9 a V9 r ho hs⟩
 refine .en 32 r (.drop .p1 (.drop .p1 (.F (.C 2 16 r (.pub .z λn1 f6 h9=>?_)))));have⟨f7,k3,k4,k5⟩:=f6.u4 a4 a5 a6 C;exact .r1 results68 r f7 ⟨i,_,_,r,h9,hd⟩
theorem xZ {a0 a1 a2 Q} (R3:RepSl CC I p1 c2 a0.Edges) (R6:RepSl AV I p4 c5 a2) (hd:VV a0 a1 a2 Q) :
  B6 prog 40 [.agg #[vi a0.N,.slice p1 a0.Edges.length c2],vi a1,.slice p4 a2.length c5] I (λ_=>eO Q):=by
 refine Fun.ee func40 ntmps40 r ?_;refine .F (.bx r λq=>?_);refine .G 1 r (.ns 14 r (.S FC D4 .z r (.G 1 r ?_)));refine .u call43 (gU R3 hd:) r λj hd=>?_;refine .G 1 r (.T hd [9,10] r (λc hd=>?_) λc hd=>?_)
 . refine .O r (.S FC D4 .z r (.G 1 r ?_));refine .O r (.ca call68 r (xY R3 hd:) λk l a e=>?_);obtain⟨m,n,o,rfl,h,hd⟩:=e;have⟨R3,R6⟩:=a.u2 R3 R6;refine .G 1 r ?_;refine .O r (.AE call67 r (UW h R6 hd:) r r λp g=>?_);obtain⟨i,rfl,hd⟩:=g;exact .C 2 64 r (.drop .z (.r1 results40 r a ⟨i,r,hd⟩))
 exact .C 7 64 r (.drop .z (.r0 results40 r ⟨false,r,hd⟩))
theorem aC {a0 Q} (d:MS a0 Q) :
  B6 prog 69 [vi a0] I (λ_=>eO Q):=by
 refine Fun.ee func69 ntmps69 r (.N 1 r (.U 1 3 r (.T d [4,5] r (λa d=>?_) λa d=>?_)))
 . exact .C 4 4 r (.r0 results69 r ⟨(decide (a0<4611686018427387904)),r,d⟩)
 exact .C 4 4 r (.r0 results69 r ⟨false,r,d⟩)
theorem yA {a0 a1 Q} (R3:RepSl CC I p1 c2 a0.Edges) (R6:RepSl AV I p4 c5 a1) (hd:VW a0 a1 Q) :
  B6 prog 41 [.agg #[vi a0.N,.slice p1 a0.Edges.length c2],.slice p4 a1.length c5] I (λI_ v=>∃ r p7 c8,v=.slice p7 r.length c8∧RepSl CC I_ p7 c8 r∧Q r):=by
 refine Fun.ee func41 ntmps41 r ?_;refine .F (.bx r λy=>?_);refine .C 1 6 r (.B (.F (.S FC D4 .z r ?_)));refine .u call26 (QU R3 hd:) r λc0 hd=>?_;refine .G 2 r (.T hd [13,14] r (λO hd=>?_) λO hd=>?_)
 . exact .C 6 1048582 r (.L r r (.F (.C 1 16 r (.drop .z (.r0 results41 r ⟨([]:List B0),_,_,r,(.nil _ _ _),hd⟩)))))
 refine .G 1 r (.O r (.ln CA r (.G 1 r (.O r (.I AJ .z r (.C 2 1048582 r (.A r hd (λP hd=>?_) λP hd=>?_)))))))
 . exact .F (.C 1 16 r (.drop .z (.r0 results41 r ⟨([]:List B0),_,_,r,(.nil _ _ _),hd⟩)))
 refine .P 6 r (.N 1 r (.U 38 1 r (.M 102 r (.B (.F (.S FC D4 .z r ?_))))));refine .ca call44 r (I6 R3 hd:) λc1 c3 g S=>?_;obtain⟨c4,c6,c7,rfl,i,hd⟩:=S;have⟨R3,R6⟩:=g.u2 R3 R6;refine .field1 oU r RS r r r r (.ln F8 r (.C 1 58720354 r (.drop .z (.E (.own0 CC 73 (.lx hd [24,23,5,1] [] r (λj E l (a,d)=>λc w=>∃ e f,j ⟨61,[],none⟩ (λI_=>True) ((6,.slice e a.length f) :: (25,vi d) :: E) (OwnSl CC 73 e f a :: l) c w) (λc w ho hs=>⟨_,_,jf rf tv [0] r ho hs⟩) ?_))))));rintro⟨a,d⟩ a2 hd c w ⟨e,f,k,b,_,hok,hsym⟩;have⟨n,R6,i⟩:=b.u3 g R6 i;refine Cod.at hok hsym (.F (.C 1 125829218 r (.B (.A r hd (λo hd=>?_) λo hd=>?_))))
 . refine .P 58720354 r (.B (.E (.F ?_)));have⟨T,m,p,a5,o245,U,q,hd⟩:=i.ix hd;refine .W F8 E5 U T p r (.ldW OY E5 q r r r r (.al QG r λa6=>?_));refine .R E5 .z r (.M 58720610 r (.B (.ownF .p1 λa3=>?_)));refine .dr nl5 11 (.J 2 r (.V AJ 0 r ?_));have⟨V,a7,s,a8,o276,W,t,hd⟩:=R6.ix hd;refine .h r (.W CA MO W V s r .mk) (.h r (.x 0 J6 t r .mk) (.J 2 r (.V AJ 0 r ?_)));have⟨X,a9,u,b0,o285,Y,x,hd⟩:=R6.ix hd;refine .h r (.W CA MO Y X u r .mk) (.h r (.x 0 J6 x r .mk) (.J 1 r (.e2 11 (.G 1 r (.U 58722146 2 r ?_)))));refine .callPc call69 r r (aC (I:=k) hd:) r r λb1 A=>?_;obtain⟨b2,rfl,hd⟩:=A;refine .G 1 r (.T hd [41,42] r (λB hd=>?_) λB hd=>?_)
   . refine .G 2 r ?_;refine .O r (.callPc call69 r r (aC (I:=k) hd:) r r λb3 D=>?_);obtain⟨b4,rfl,hd⟩:=D;refine .G 2 r (.T hd [45,46,47] r (λF hd=>?_) λF hd=>?_)
     . refine .G 4 r (.O r (.I J6 .z r (.C 2 18014398568202594 r (.A r hd (λG hd=>?_) λG hd=>?_))))
       . refine .D (.G 1 r (.S OY E5 .z r (.bs 1 F8 E5 QG r λb5=>?_)));have⟨H,hd⟩:=hd;refine .ap (ys:=[m]) .p2 F8 F8 AbQ r (.box .z (.one r) r) H λb6 b7=>?_;exact .C 1 58720354 r (.drop .p1 (.drop .p1 (.D (.G 2 r (.H λc w ho hs=>⟨_,hd,_,_,jf b tv [0] r ho hs⟩)))))
       exact .P 58720354 r (.drop .z (.D (.G 2 r (.H λc w ho hs=>⟨_,hd,_,_,jf b tv [0] r ho hs⟩))))
     exact .C 7 18014398568202594 r (.j r r (.P 58720354 r (.drop .z (.D (.G 2 r (.H λc w ho hs=>⟨_,hd,_,_,jf b tv [0] r ho hs⟩))))))
   exact .C 12 18014398568202594 r (.j r r (.P 58720354 r (.drop .z (.D (.G 2 r (.H λc w ho hs=>⟨_,hd,_,_,jf b tv [0] r ho hs⟩))))))
 refine .en 64 r (.F (.C 2 16 r (.pub .z λb8 J Z=>?_)));have⟨K,a4⟩:=J.u2 n b;exact .r1 results41 r K ⟨a,_,_,r,Z,hd⟩
theorem QM {o0 Q} (d:EI o0 Q) :
  Fun prog 38 #[.slice p2 o0.length c3] I [OwnSl AV 2 p2 c3 o0] (λ_ v l=>∃ r p4 c5,v=.slice p4 r.length c5∧l=[OwnSl AV 2 p2 c3 o0,OwnSl AV 2 p4 c5 r]∧Q r):=by
 refine Fun.ee func38 ntmps38 r (.F (.C 1 1 r (.B (.N 1 r (.ownF .z λb=>.eqNilS CA r r r r (.M 17 r ?_))))));refine split p2.isNone (λa=>?_) (λa=>?_)
 . have d:=d.1 (AoS b a);exact .L r a (.F (.C 1 5 r (.own0 AV 2 (.q1 results38 rf gK r ⟨([]:List Int),_,_,r,r,d⟩))))
 have d:=d.2;refine .j r a (.P 1 r (.F (.bs 0 CA MO zv2 r λ_=>.G 1 r (.ownB (El:=AV) (ys:=([]:List Int)) .z .nil r ?_))));have⟨c,d⟩:=d;exact .ap (ys:=o0) .z CA CA IN2 r (.own .p1 r) c λ_ _=>.C 1 5 r (.q1 results38 rf gK r ⟨(([]:List Int)++o0),_,_,r,r,d⟩)
theorem AfN {a0 a1 a2 a3 Q} (R3:RepSl CC I p1 c2 a0.Edges) (R6:RepSl AV I p4 c5 a2) (hd:dY a0 a1 a2 a3 Q) :
  B6 prog 18 [.agg #[vi a0.N,.slice p1 a0.Edges.length c2],vi a1,.slice p4 a2.length c5,vi a3] I (Ay0 Q):=by
 refine Fun.ee func18 ntmps18 r ?_;refine .F (.bx r λk0=>?_);refine .C 1 30 r (.B (.F (.S FC D4 .z r (.G 2 r ?_))));refine .u call40 (xZ R3 R6 hd:) r λk1 hd=>?_;refine .G 2 r (.T hd [20,21] r (λa hd=>?_) λa hd=>?_)
 . exact .C 16 137438953502 r (.L r r (.F (.C 1 256 r (.drop .z (.r0 results18 r ⟨([]:List Int),_,_,r,(.nil _ _ _),hd⟩)))))
 refine .G 4 r (.T hd [23,24,25] r (λe9 hd=>?_) λe9 hd=>?_)
 . exact .C 12 137438953502 r (.L r r (.F (.C 1 256 r (.drop .z (.r0 results18 r ⟨([]:List Int),_,_,r,(.nil _ _ _),hd⟩)))))
 refine .G 2 r (.O r (.I AJ .z r (.G 3 r (.T hd [29,30,31] r (λf0 hd=>?_) λf0 hd=>?_))))
 . exact .C 6 137438953502 r (.L r r (.F (.C 1 256 r (.drop .z (.r0 results18 r ⟨([]:List Int),_,_,r,(.nil _ _ _),hd⟩)))))
 refine .G 2 r ?_;have⟨g5,k2,f1,k3,o42,g6,f2,hd⟩:=R6.ix hd;refine .O r (.W CA MO g6 g5 f1 r (.O r (.x 0 J6 f2 r (.C 2 137438953502 r (.A r hd (λf3 hd=>?_) λf3 hd=>?_)))))
 . exact .F (.C 1 256 r (.drop .z (.r0 results18 r ⟨([]:List Int),_,_,r,(.nil _ _ _),hd⟩)))
 refine .P 30 r (.B (.dr AuC 7 (.J 1 r (.V AJ 0 r (.h r (.S FC D4 .z r .mk) (.J 1 r (.aP V7 r (.Y r ?_))))))));refine .ca call41 r (yA R3 R6 hd:) λk4 k5 a6 f5=>?_;obtain⟨k6,k7,k8,rfl,d,hd⟩:=f5;have⟨R3,R6⟩:=a6.u2 R3 R6;refine .q 1 r (.X r (.I AJ .z r .mk) (.Z 1 r r tv)) (.h r (.bd V7 oU AeE r .mk) (.b r λk9=>DrawD.nop ?_));refine .e2 7 (.R D4 .p1 r (.M 522 r (.drop .z (.N 2 r (.ns 522 r (.bs 1 CA MO zv2 r λl0=>?_))))));refine .G 1 r (.I AJ .p1 r (.pubB (El:=AV) (ys:=([(-1)]:List Int)) (k:=1) .z (.one r) r λl1 f6 a7=>?_));have⟨f7,d⟩:=f6.u2 a6 d;refine .AD call42 r (KZ a7 hd:) r r λj0 g7 j1 f8 f9=>?_;obtain⟨l2,g0,g1,rfl,rfl,hd⟩:=f9;have⟨d3,d,a7⟩:=f8.u3 f7 d a7;refine .G 1 r (.U 1546 1 r ?_);refine .cS (.f call38 r) (.o [0] r) r (QM (I:=g7) (p2:=g0) (c3:=g1) hd:) λj2 j3 j4 d5 d6=>?_;obtain⟨j5,j6,j7,rfl,rfl,hd⟩:=d6;have⟨d7,d⟩:=d5.u2 d3 d;refine .rn 3 r (.G 1 r (.U 3594 2 r ?_));have⟨a8,j8,x,hd⟩:=hd;refine .ownNe .z (DJ x) λj9 g2=>?_;cases g2;refine .v CA MO r r a8 (BF x a8) r r (.stO1 (j:=0) (v':=0) MO .z x r r r (.o r) r (.rl .z [10,50] r (by simp only[QV]) (.U 3592 1 r (.M 7688 r (.E (.lx hd [9,3] [2] r (λj E l (y,A,i)=>λc w=>∃ B C D F,j ⟨96,[],none⟩ (λI_=>True) ((10,.slice B y.length C) :: (11,.slice D A.length F) :: (12,vi i) :: E) (OwnSl AV 2 B C y :: OwnSl AV 2 D F A :: l) c w) (λc w ho hs=>⟨_,_,_,_,jf rf tv V9 r ho hs⟩) ?_))))));rintro⟨y,A,i⟩ g3 hd c w ⟨B,C,D,F,h2,R,_,hok,hsym⟩;have⟨a9,d⟩:=R.u2 d7 d;refine Cod.at hok hsym (.B (.E (.F (.C 1 15880 r (.B (.N 1 r (.I RS .p2 r (.ln F8 r (.C 1 504403158265511432 r ?_)))))))));refine .E (.lx hd [57,56,12,9,3] [2] r (λj E l (e,g,G,n)=>λc w=>∃ H J K O,j ⟨96,[],none⟩ (λI_=>True) ((10,.slice H e.length J) :: (11,.slice K g.length O) :: (13,.bool G) :: (58,vi n) :: E) (OwnSl AV 2 H J e :: OwnSl AV 2 K O g :: l) c w) (λc w ho hs=>⟨_,_,_,_,jf rf tv V9 r ho hs⟩) ?_);rintro⟨e,g,G,n⟩ g4 hd c w ⟨H,J,K,O,h3,q,_,hok,hsym⟩;have⟨S,s,d⟩:=q.u3 a9 R d;refine Cod.at hok hsym (.F (.C 1 1080863910568934920 r (.B (.A r hd (λb0 hd=>?_) λb0 hd=>?_))))
 . refine .P 504403158265511432 r (.B (.E (.F ?_)));have⟨d8,p,b1,h4,o1674,d9,b2,hd⟩:=d.ix hd;refine .W F8 E5 d9 d8 b1 r (.ldW OY E5 b2 r r r r (.al QG r λh5=>?_));refine .R E5 .z r (.M 504403158265544200 r (.B (.jn hd [58,57,56,15,13,12,11,10,9,3] [3,1,1,0] r (λj E l V=>j ((76,.bool V) :: E) l) (λh6 hd=>?_) ?_)))
   . refine .D (.G 2 r (.I AJ .z r ?_));have⟨W,h7,t,hd⟩:=hd;refine .ownNe .p1 (DJ t) λh8 e0=>?_;cases e0;refine .v CA MO r r W (BF t W) r r (.lo1 (j:=0) J6 .p1 t r r r r r (.G 3 r (.T hd [68,69] r (λb3 hd=>?_) λb3 hd=>?_)))
     . refine .G 2 r (.O r (.I AJ .z r ?_));have⟨X,e1,T,hd⟩:=hd;exact .O r (.v CA MO r r X (BF T X) r r (.O r (.lo1 (j:=0) J6 .p1 T r r r r r (.G 2 r (.H (je (decide (e1<0)) hd rf [3,1,1,0] r))))))
     exact .G 7 r (.H (je false hd rf [3,1,1,0] r))
   refine λV hd=>jq r λh9 b4=>?_;have⟨g8,g9,U,d⟩:=b4.u4 S s q d;refine .A r hd (λb5 hd=>?_) λb5 hd=>?_
   . refine .B (.ownF .p1 λa4=>?_);refine .ownF .p2 λa5=>?_;refine .dr AhY 12 (.J 2 r (.V AJ 3 r (.J 2 r (.V AJ 3 r (.J 3 r (.V AJ 3 r ?_))))));have⟨Y,i0,u,hd⟩:=hd;have⟨i1,e3⟩:=a4 (DJ u);cases e3;refine .h r (.v CA MO r r Y (BF u Y) r r .mk) (.Y r ?_);refine .stO1 (j:=0) (v':=(A4 (i+1))) MO .p1 u r r r (.o r) r (.P 4 r r r (.X r (.I AJ .p3 r .mk) (.Z 1 r r (.X r (.I AJ .p3 r .mk) (.Z 2 r r tv)))) (.e2 12 (.rl .p1 [10,77] r (by simp only[QV]) ?_)));have⟨Z,i2,v,hd⟩:=hd;have⟨i3,e4⟩:=a5 (DJ v);cases e4;exact .v CA MO r r Z (BF v Z) r r (.stO1 (j:=0) (v':=p.From) MO .p2 v r r r (.o r) r (.rl .p2 [11,80] r (by simp only[QV]) (.M 504403158265503240 r (.drop .p3 (.D (.C 1 504403158265511432 r (.D (.G 2 r (.H λc w ho hs=>⟨_,hd,_,_,_,_,jf U tv [1,1,0] r ho hs⟩)))))))))
   exact .P 504403158265511432 r (.drop .p3 (.D (.G 2 r (.H λc w ho hs=>⟨_,hd,_,_,_,_,jf U tv [1,1,0] r ho hs⟩))))
 refine .en 15880 r (.F (.C 2 2475880078570760549798256136 r (.A r hd (λb6 hd=>?_) λb6 hd=>?_)))
 . refine .N 3 r (.pub .z λi4 b7 m=>?_);have⟨b8,b9,c0,d⟩:=b7.u4 S s q d;refine .pub .z λi5 c1 P=>?_;have⟨c4,c6,c7,d,m⟩:=c1.u5 b8 b9 c0 d m;refine .ca call17 r (wI m P hd:) λi6 i7 c9 d0=>?_;obtain⟨e5,i8,i9,rfl,e6,hd⟩:=d0;have⟨d1,h0,h1,d,m,P⟩:=c9.u6 c4 c6 c7 d m P;exact .C 1 256 r (.drop .z (.r1 results18 r d1 ⟨e5,_,_,r,e6,hd⟩))
 exact .P 7688 r (.D (.G 3 r (.H λc w ho hs=>⟨_,hd,_,_,_,_,jf s tv V9 r ho hs⟩)))
theorem wJ {a0 a1 Q} (R3:RepSl CC I p1 c2 a0.Edges) (R6:RepSl AV I p4 c5 a1) (hd:ST a0 a1 Q) :
  B6 prog 19 [.agg #[vi a0.N,.slice p1 a0.Edges.length c2],.slice p4 a1.length c5] I (λ_=>o7_ Q):=by
 refine Fun.ee func19 ntmps19 r ?_;refine .F (.bx r λb9=>?_);refine .C 2 6 r (.B (.B (.dr nl5 11 (.J 1 r (.h r (.ln BD r .mk) (.J 2 r ?_))))));refine CR hd (λa hd=>?_) λa hd=>?_
 . refine .gn r a (.gn r a (.gn r a (.gn r a (.gn r a (.gn r a (.h r (.pickT r a r r r .mk) (.e2 11 (.M 8388614 r (.L r r ?_)))))))));exact .F (.C 2 48 r (.drop .z (.K (B7 r (.t r (.t r .n)) rf ⟨(0,false),r,hd⟩))))
 refine .h r (.Q r r a (.S FC D4 .z r .mk)) (.h r (.Q r r a (.AC r r r .mk)) ?_);have⟨a7,c8,L,c9,o31,a8,O,hd⟩:=R6.ix hd;refine .h r (.Q r r a (.W BD DD a8 a7 L r .mk)) (.h r (.Q r r a (.x 0 AJ O r .mk)) (.Y r ?_));refine .Q r r a (.AE call43 r (gU R3 hd:) r r λd0 R=>?_);obtain⟨d1,rfl,hd⟩:=R;refine .q 1 r tv (.h r (.Q r r a (.not r r r .mk)) (.h r (.pickF r a r r r .mk) (.e2 11 (.M 8388614 r (.A r hd (λS hd=>?_) λS hd=>?_)))))
 . exact .F (.C 2 48 r (.drop .z (.K (B7 r (.t r (.t r .n)) rf ⟨(0,false),r,hd⟩))))
 refine .P 6 r (.F (.mkMap K2 AV false r r λa9=>?_));refine .C 1 70 r (.B (.F (.S FC D4 .p1 r ?_)));refine .ca call44 r (I6 R3 hd:) λb2 b3 m u=>?_;obtain⟨b4,b5,b6,rfl,e,hd⟩:=u;have⟨R3,R6⟩:=m.u2 R3 R6;refine .field1 oU r RS r r r r (.ln F8 r (.C 1 939524162 r (.drop .p1 (.E (.lp hd [28,27,6,1] [] r (λj E l (f,g)=>j ((29,vi g) :: E) (OwnMap K2 AV false a9 f :: l)) (ji rf [0] r) ?_)))));rintro⟨f,g⟩ a5 hd;refine jq r λb7 c=>?_;have⟨w,R6,e⟩:=c.u3 m R6 e;refine .F (.C 1 2013265986 r (.B (.A r hd (λx hd=>?_) λx hd=>?_)))
 . refine .P 939524162 r (.B (.E (.F ?_)));have⟨T,b,y,b8,o180,U,A,hd⟩:=e.ix hd;refine .W F8 E5 U T y r (.ldW OY E5 A r r r r (.al QG r λc0=>?_));refine .R E5 .z r (.M 939524418 r (.D (.G 2 r (.I AJ .z r (.G 1 r (.I AJ .z r (.ba aI S7 DD r (.G 1 r (.I J6 .z r ?_)))))))));exact .updM (k:=(b.From,b.To)) (El:=AV) (ag:=false) (v:=b.W) ApV underlying96 .p1 r r r ⟨[vi b.W],r,.s⟩ (.M 939524162 r (.drop .z (.D (.G 2 r (.H (je ((DV (b.From,b.To) b.W f),A4 (g+1)) hd c [0] r))))))
 refine .en 66 r (.F (.C 1 578 r (.B (.F (.C 1 1602 r (.E (.lp hd [6,1] [0] r (λj E l (d,i)=>j ((9,vi d) :: (10,vi i) :: E) l) (ji rf [0] r) ?_)))))));rintro⟨d,i⟩ a6 hd;refine jq r λc1 o=>?_;have⟨p,b0,R6⟩:=o.u3 w c R6;refine .B (.N 2 r (.ln BD r (.C 1 35184372090434 r (.A r hd (λB hd=>?_) λB hd=>?_))))
 . refine .P 1602 r (.B (.E (.B (.dr ArS 16 (.J 4 r ?_)))));have⟨V,X,C,c3,o332,Y,D,hd⟩:=R6.ix hd;refine .h r (.W BD DD Y V C r .mk) (.h r (.x 0 AJ D r .mk) (.J 2 r ?_));have⟨Z,a2,F,c4,o341,a3,G,hd⟩:=R6.ix hd;refine .h r (.W BD DD a3 Z F r .mk) (.h r (.x 0 AJ G r .mk) (.h r (.ba aI S7 DD r .mk) (.Y r λ{ex}=>?_)));refine .lookM2 (k:=(X,a2)) (El:=AV) (ag:=false) (zv:=vi 0) (z:=0) ApV underlying96 zv2 ⟨[vi 0],r,.s⟩ .z r r hd r r λc6 a4 c7 b1 hd H J=>?_;cases H;cases J;refine .q 1 r tv (.J 4 r (.e2 16 (.C 1 7746 r (.B (.F (.C 2 18446744073709555266 r (.A r hd (λK hd=>?_) λK hd=>?_)))))))
   . exact .F (.C 2 48 r (.drop .z (.K (B7 r (.t r (.t r .n)) p ⟨(0,false),r,hd⟩))))
   exact .P 3650 r (.D (.C 4 1602 r (.D (.G 3 r (.H (je (A4 (d+a4),A4 (i+1)) hd o [0] r))))))
 exact .en 512 r (.drop .z (.F (.C 3 48 r (.K (B7 r (.t r (.t r .n)) p ⟨(d,true),r,hd⟩)))))
theorem AcV {a0 a1 Q} (V:RepSl AV I p1 c2 a0.Draws) (J:U3 a0 a1 Q) :
  B6 prog 189 [.agg (M9 a0 p1 c2),vi a1] I (λ_=>o7_ Q):=by
 refine Fun.ee func189 ntmps189 r (.F (.bx r λ_=>.G 2 r (.U 6 2 r (.I AJ .z r (.C 2 70 r (.B (.E (.N 1 r (.I fI .z r (.C 2 2118 r (.A r J (λo J=>?_) λo J=>?_)))))))))))
 . exact .F (.C 3 48 r (.drop .z (.K (B7 r (.t r (.t r .n)) rf ⟨(a1,true),r,J⟩))))
 refine .N 1 r (.I fI .z r (.C 2 65604 r (.A r J (λp J=>?_) λp J=>?_)))
 . exact .F (.C 2 48 r (.drop .z (.K (B7 r (.t r (.t r .n)) rf ⟨(0,false),r,J⟩))))
 refine .B (.jn J [6,2] [0] r (λj E l d=>j ((20,.bool d) :: E) l) (λ_ J=>?_) ?_)
 . refine .D (.G 1 r (.I fI .z r (.G 2 r (.T J [23,24] r (λf J=>?_) λf J=>?_))))
   . exact .G 3 r (.H (je (a1==a0.Source) J rf [0] r))
   exact .G 3 r (.H (je false J rf [0] r))
 refine λd J=>jq r λ_ a=>?_;have V:=a.u1 V;refine .A r J (λg J=>?_) λg J=>?_
 . exact .F (.C 2 48 r (.drop .z (.K (B7 r (.t r (.t r .n)) a ⟨(1,true),r,J⟩))))
 refine .B (.jn J [2] [0] r (λj E l (c,e)=>j ((6,.bool c) :: (27,.bool e) :: E) l) (λ_ J=>?_) ?_)
 . refine .D (.G 2 r (.T J [6,28,29] r (λh J=>?_) λh J=>?_))
   . exact .G 5 r (.H (je (true,true) J rf [0] r))
   exact .G 1 r (.O r (.I fI .z r (.G 3 r (.H (je (false,a0.Kind==4) J rf [0] r)))))
 rintro⟨c,e⟩ J;refine jq r λ_ i=>?_;have⟨b,V⟩:=i.u2 a V;refine .A r J (λk J=>?_) λk J=>?_
 . exact .F (.C 3 48 r (.drop .z (.K (B7 r (.t r (.t r .n)) b ⟨(0,c),r,J⟩))))
 refine .N 1 r (.I fI .z r (.C 2 34359738368 r (.drop .z (.A r J (λm J=>?_) λm J=>?_))))
 . exact .F (.C 2 48 r (.K (B7 r (.t r (.t r .n)) b ⟨((-1),false),r,J⟩)))
 exact .P 0 r (.F (.C 2 48 r (.K (B7 r (.t r (.t r .n)) b ⟨(4611686018427387904,false),r,J⟩))))
theorem AfO {a0 a1 Q} (V:wQ I gd1 a0) (U:RepSl CF I p3 c4 a1.Items) (J:dZ a0 a1 Q) :
  B6 prog 344 [.agg (FG a0 gd1),.agg #[vi a1.N,.slice p3 a1.Items.length c4]] I (λO v=>∃ r a2 p8 c9,v=.tuple #[.agg (FG r.1 a2),.agg #[vi r.2.N,.slice p8 r.2.Items.length c9]]∧wQ O a2 r.1∧RepSl CF O p8 c9 r.2.Items∧Q r):=by
 refine Fun.ee func344 ntmps344 r (.F (.bx r λa3=>.bx r λ_=>.al uW r λ_=>.al CG r λ_=>.M 60 r (.B (.jx J [5,4,3,2] nl7 r (λj E l (g,i,a,b,d,e)=>λc w=>∃ k m o p q s t u,j ⟨17,[],none⟩ (λO=>RepSl AV O k m a∧RepSl AV O o p b∧RepSl AV O q s d∧RepSl AV O t u e) E (pc a3 #[vi g,vi i,.slice k a.length m,.slice o b.length p,.slice q d.length s,.slice t e.length u] 189 :: l) c w) (λ_ J=>?_) ?_))))
 . refine .F (.S HI EG .p3 r (.u call355 (nD V J:) r λ_ J=>.C 1 316 r (.A r J (λF J=>?_) λF J=>?_)))
   . refine .D (.bs 1 BD DD nT r λ_=>.ownB (El:=AV) (ys:=([0]:List Int)) .z (.one r) r (.bd uW underlying189 AuU r (.R EG .p4 r (.pub .z λ_ x K=>?_))));have U:=x.u1 U;exact .H λc w W Z=>⟨_,J,_,_,_,_,_,_,_,_,jf x ⟨(.nil _ _ _),K,(.nil _ _ _),(.nil _ _ _)⟩ [3,2,1,0] r W Z⟩
   exact .AB λc w W Z=>⟨_,J,_,_,_,_,_,_,_,_,jf rf ⟨V.1,V.2.1,V.2.2.1,V.2.2.2⟩ [3,2,1,0] r W Z⟩
 rintro⟨g,i,a,b,d,e⟩ J c w ⟨k,m,o,p,q,s,t,u,_,f,⟨y,A,B,C⟩,hok,hsym⟩;have U:=f.u1 U;refine Cod.at hok hsym (.B (.F (.S BK AM .p1 r (.u call270 (FS U J:) r λ_ J=>.C 1 8252 r (.A r J (λH J=>?_) λH J=>?_)))))
 . refine .D (.bd CG F5 GY r (.R AM .p1 r (.M 60 r (.B (.dr [0,1,2] 3 (.h r (.S HI EG .z r .mk) (.h r (.S BK AM .p1 r .mk) (.Y r ?_))))))));exact .R EG .p2 r (.P 4 r r r (.X r (.S BK AM .p1 r .mk) tv) (.e2 3 (.R AM .p3 r (.M 48 r (.drop .z (.drop .z (.K (B7 r (.w HI EG r .z r (.w BK AM r .p1 r .n)) f ⟨(({ Rows:=g,Cols:=i,At:=a,Start:=b,Row:=d,Val:=e }:BB),CL),((_,_),(_,_),(_,_),(_,_)),_,_,r,⟨y,A,B,C⟩,(.nil _ _ _),J⟩))))))))
 refine .P 60 r (.B (.dr [0,1,2] 3 (.h r (.S HI EG .z r .mk) (.h r (.S BK AM .p1 r .mk) (.Y r ?_)))));exact .R EG .p2 r (.P 4 r r r (.X r (.S BK AM .p1 r .mk) tv) (.e2 3 (.R AM .p3 r (.M 48 r (.drop .z (.drop .z (.K (B7 r (.w HI EG r .z r (.w BK AM r .p1 r .n)) f ⟨(({ Rows:=g,Cols:=i,At:=a,Start:=b,Row:=d,Val:=e }:BB),a1),((_,_),(_,_),(_,_),(_,_)),_,_,r,⟨y,A,B,C⟩,U,J⟩))))))))
theorem KD {a0 Q} (d:HQ a0 Q) :
  B6 prog 375 [.int .u64 a0] I (λ_ v=>∃ r,v=.agg #[.int .u64 r.1,.int .u64 r.2]∧Q r):=by
 exact Fun.ee func375 ntmps375 r (.F (.al zW r λ_=>.U 5 1 r (.shl' r r (by decide) r r (.shr' r r (by decide) r r (.G 1 r (.shr' r r (by decide) r r (.ba zW MC MV r (.R sizeOf445 .z r (.M 4 r (.K (B7 r (.w isAgg445 sizeOf445 r .z r .n) rf ⟨(shr .u64 (shl .u64 a0 32) 32,shr .u64 a0 32),r,d⟩)))))))))))
theorem wK {a0 a1 Q} (d:SU a0 a1 Q) :
  B6 prog 372 [.int .u64 a0,.int .u64 a1] I (λ_=>o5_ Q):=by
 refine Fun.ee func372 ntmps372 r (.F (.al I9 r λ_=>.U 19 1 r (.u call375 (KD (I:=I) d:) r λl d=>.G 1 r (.u call375 (KD (I:=I) d:) r λm d=>.al zW r λ_=>.al zW r λ_=>?_))));refine .R sizeOf445 .p1 r (.R sizeOf445 .z r (.ns 112 r (.AA (i:=0) MC MV r r (by decide) (o:=0) r r r (.I IA .p1 r (.AA (i:=0) MC MV r r (by decide) (o:=0) r r r (.I IA .z r (.C 2 240 r (.B (.dr [0,1,2,3,4,5,10,6,7,8,9,999] 11 ?_)))))))));refine .h r (.AA (i:=1) MC MV r r (by decide) (o:=1) r r r .mk) (.V IA 1 r (.h r (.AA (i:=0) MC MV r r (by decide) (o:=0) r r r .mk) (.V IA 0 r (.J 2 r (.aP zW r (.Y r (.u call375 (KD (I:=I) d:) r λ_ d=>?_)))))));refine .q 3 r (.Z 1 r r (.X r (.I IA .z r .mk) (.X r (.AA (i:=0) MC MV r r (by decide) (o:=0) r r r .mk) (.X r (.I IA .p1 r .mk) (.X r (.AA (i:=1) MC MV r r (by decide) (o:=1) r r r .mk) tv))))) (.h r (.index1 (i:=1) MC MV IA r r (by decide) r r r .mk) (.J 1 r (.Y r (.u call375 (KD (I:=I) d:) r λp d=>?_))));refine .q 3 r tv (.b r λ_=>DrawD.nop (.e2 11 (.R sizeOf445 .p3 r (.ns 496 r (.AA (i:=0) MC MV r r (by decide) (o:=0) r r r (.I IA .p1 r (.AA (i:=1) MC MV r r (by decide) (o:=1) r r r (.I IA .z r (.G 1 r (.AA (i:=0) MC MV r r (by decide) (o:=0) r r r (.I IA .p3 r (.G 1 r (.u call375 (KD (I:=I) d:) r λc d=>.al zW r λ_=>?_)))))))))))));refine .R sizeOf445 .z r (.M 1008 r (.B (.dr [0,1,2,3,4,5,6,7,8,9,10,11,12,13,14,15,16,17,18,19] 20 (.h r (.AA (i:=1) MC MV r r (by decide) (o:=1) r r r .mk) (.V IA 2 r (.h r (.AA (i:=1) MC MV r r (by decide) (o:=1) r r r .mk) (.V IA 1 r (.J 1 r (.h r (.AA (i:=1) MC MV r r (by decide) (o:=1) r r r .mk) ?_)))))))));refine .V IA 4 r (.J 1 r (.h r (.AA (i:=1) MC MV r r (by decide) (o:=1) r r r .mk) (.V IA 0 r (.J 1 r (.h r (.conv fG un2 r r r .mk) (.h r (.AA (i:=0) MC MV r r (by decide) (o:=0) r r r .mk) (.V IA 0 r (.h r (.shl' r r (by decide) r r .mk) (.J 1 r (.Y r (.u call375 (KD (I:=I) d:) r λq d=>?_)))))))))));refine .q 5 r (.X r (.shl' r r (by decide) r r .mk) (.X r (.I IA .z r .mk) (.X r (.AA (i:=0) MC MV r r (by decide) (o:=0) r r r .mk) (.X r (.conv fG un2 r r r .mk) (.Z 1 r r (.X r (.I IA .z r .mk) (.X r (.AA (i:=1) MC MV r r (by decide) (o:=1) r r r .mk) (.Z 1 r r (.X r (.I IA .p4 r .mk) (.X r (.AA (i:=1) MC MV r r (by decide) (o:=1) r r r .mk) (.Z 1 r r (.X r (.I IA .p1 r .mk) (.X r (.AA (i:=1) MC MV r r (by decide) (o:=1) r r r .mk) (.X r (.I IA .p2 r .mk) (.X r (.AA (i:=1) MC MV r r (by decide) (o:=1) r r r .mk) tv))))))))))))))) (.h r (.index1 (i:=0) MC MV IA r r (by decide) r r r .mk) (.J 1 r (.h r (.bd I9 lZ lW r .mk) (.e2 20 (.R BE .p3 r (.M 16 r (.drop .z (.drop .z (.drop .z ?_)))))))));exact .drop .p1 (.K (B7 r (.w CP BE r .z r .n) rf ⟨({ Hi:=A4 (IntKind.wrap .u64 ((IntKind.wrap .u64 ((IntKind.wrap .u64 (l.2*m.2))+p.2))+c.2)),Lo:=bor .u64 (shl .u64 c.1 32) q.1 }:AZ),r,d⟩))
theorem rB {a0 Q} (d:XJ a0 Q) :
  B6 prog 373 [vi a0] I (λ_=>o6_ Q):=by
 refine Fun.ee func373 ntmps373 r (.F (.C 1 1 r (.B (.F (.C 2 17 r (.A r d (λa d=>?_) λa d=>?_))))))
 . exact .N 1 r (.conv un2 fG r r r (.neg r r r (.C 1 4 r (.r0 results373 r ⟨(IntKind.wrap .u64 (0 - (IntKind.wrap .u64 (a0)))),r,d⟩))))
 exact .P 1 r (.N 1 r (.conv un2 fG r r r (.C 1 4 r (.r0 results373 r ⟨(IntKind.wrap .u64 (a0)),r,d⟩))))
theorem Ai6 {a0 a1 Q} (d:kS a0 a1 Q) :
  B6 prog 374 [.agg (GO a0).toArray,.agg (GO a1).toArray] I (λ_=>o5_ Q):=by
 refine Fun.ee func374 ntmps374 r (.F (.bx r λ_=>.bx r λ_=>.al I9 r λ_=>?_));refine .M 28 r (.B (.dr [0,1,2,3,4,5,6,7,8,9,10,11,15,16,17,18,19,12,13,14,20] 21 (.J 1 r (.V J6 2 r (.h r (.conv un2 fG r r r .mk) (.J 1 r (.V J6 1 r (.h r (.conv un2 fG r r r .mk) (.J 2 r ?_)))))))));refine .V IA 2 r (.J 1 r (.V IA 1 r (.J 2 r (.V IA 2 r (.J 1 r (.V IA 1 r (.J 1 r (.Y r (.u call168 (mY (I:=I) d:) r λb d=>?_)))))))));exact .q 3 r (.Z 1 r r (.X r (.I IA .p1 r .mk) (.Z 1 r r (.X r (.I IA .p2 r .mk) (.Z 2 r r (.X r (.conv un2 fG r r r .mk) (.X r (.I J6 .p1 r .mk) (.Z 1 r r (.X r (.conv un2 fG r r r .mk) (.X r (.I J6 .p2 r .mk) (.Z 1 r r tv))))))))))) (.J 1 r (.h r (.conv fG un2 r r r .mk) (.h r (.bd I9 lZ lW r .mk) (.e2 21 (.R BE .z r (.M 16 r (.drop .p1 (.drop .p1 (.K (B7 r (.w CP BE r .z r .n) rf ⟨({ Hi:=A4 (IntKind.wrap .u64 ((IntKind.wrap .u64 ((IntKind.wrap .u64 (a0.Hi)) - (IntKind.wrap .u64 (a1.Hi)))) - b)),Lo:=IntKind.wrap .u64 (a0.Lo - a1.Lo) }:AZ),r,d⟩))))))))))
theorem Ai7 {a0 a1 Q} (h:kT a0 a1 Q) :
  B6 prog 367 [vi a0,vi a1] I (λ_=>o5_ Q):=by
 refine Fun.ee func367 ntmps367 r (.F (.al I9 r λ_=>.U 19 1 r (.u call373 (rB (I:=I) h:) r λ_ h=>.G 1 r (.u call373 (rB (I:=I) h:) r λ_ h=>.u call372 (wK (I:=I) h:) r λf h=>.al I9 r λ_=>.R BE .z r (.M 51 r (.B (.N 4 r (.neB underlying4 r r r r (.M 32816 r (.A r h (λd h=>?_) λd h=>?_))))))))))
 . exact .F (.bd I9 lZ lW r (.S CP BE .z r (.u call374 (Ai6 (I:=I) h:) r λg h=>.R BE .p1 r (.M 16 r (.drop .z (.K (B7 r (.w CP BE r .z r .n) rf ⟨g,r,h⟩)))))))
 exact .P 48 r (.F (.S CP BE .z r (.R BE .p1 r (.M 16 r (.drop .z (.K (B7 r (.w CP BE r .z r .n) rf ⟨f,r,h⟩)))))))
theorem wL {a0 a1 a2 Q} (U:bH a0 a1 a2 Q) :
  B6 prog 358 [vi a0,vi a1,vi a2] I (λ_=>o5_ Q):=by
 refine Fun.ee func358 ntmps358 r (.F (.al I9 r λ_=>.M 71 r (.B (.F (.C 1 327 r (.E (.F (.C 2 839 r (.A r U (λs U=>?_) λs U=>?_)))))))))
 . refine .N 3 r (.T U [12,13] r (λt U=>?_) λt U=>?_)
   . exact .G 3 r (.u call131 (SZ (I:=I) U:) r λL U=>.R BE .z r (.M 64 r (.K (B7 r (.w CP BE r .z r .n) rf ⟨L,r,U⟩))))
   exact .G 3 r (.u call131 (SZ (I:=I) U:) r λN U=>.R BE .z r (.M 64 r (.K (B7 r (.w CP BE r .z r .n) rf ⟨N,r,U⟩))))
 refine .F (.C 2 262215 r (.A r U (λx U=>?_) λx U=>?_))
 . exact .N 2 r (.u call367 (Ai7 (I:=I) U:) r λO U=>.R BE .z r (.M 64 r (.K (B7 r (.w CP BE r .z r .n) rf ⟨O,r,U⟩))))
 refine .P 71 r (.B (.jn U [6,2,1,0] [0] r (λj E l _=>j E l) (λ_ U=>?_) ?_))
 . refine .N 1 r (.u call100 (TE (I:=I) U:) r λ_ U=>.G 1 r (.T U [24,25] r (λB U=>?_) λB U=>?_))
   . refine .G 2 r (.O r (.maxI r r r r (.C 2 1073741895 r (.A r U (λC U=>?_) λC U=>?_))))
     . exact .F (.u call101 (NZ (I:=I) U:) r λP U=>.R BE .z r (.M 64 r (.K (B7 r (.w CP BE r .z r .n) rf ⟨P,r,U⟩))))
     exact .AB (je () U rf [0] r)
   exact .C 5 1073741895 r (.j r r (.AB (je () U rf [0] r)))
 refine λ_ U=>jq r λm b=>.F (.bd I9 lZ lW r (.al I9 r λR=>.R BE .z r (.M 199 r (.B (.F (.C 1 8589934790 r (.E (.B (.E (.B (.jn U [7,6,2] [1] r (λj E l (o,p)=>j E (pc R #[vi o,.int .u64 p] 150 :: l)) (λ_ U=>?_) ?_)))))))))))
 . refine .E (.B (.E (.B (.B (.F (.C 2 25769803974 r (.A r U (λF U=>?_) λF U=>?_)))))))
   . exact .en 198 r (.D (.G 1 r (.u call101 (NZ (I:=m) U:) r λq U=>.R BE .z r (.H (je (q.Hi,q.Lo) U rf MF r)))))
   refine .P 8589934790 r (.B (.F (.C 2 77309411526 r (.A r U (λH U=>?_) λH U=>?_))))
   . exact .exit (je (0,0) U rf MF r)
   refine .P 8589934786 r (.F (.C 2 274877907138 r (.A r U (λJ U=>?_) λJ U=>?_)))
   . exact .en 66 r (.drop .z (.B (.N 1 r (.u call101 (NZ (I:=m) U:) r λS U=>.R BE .z r (.M 64 r (.K (B7 r (.w CP BE r .z r .n) b ⟨S,r,U⟩)))))))
   exact .P 192 r (.en 192 r (.F (.S CP BE .z r (.R BE .p1 r (.M 64 r (.drop .z (.K (B7 r (.w CP BE r .z r .n) b ⟨PB,r,U⟩))))))))
 rintro⟨o,p⟩ U;refine jq r λa d=>?_;have e:=d.u1 b;refine .B (.B (.dr [1,2,0,3,4,5] 6 (.h r (.S CP BE .z r .mk) (.J 1 r (.Y r (.u call101 (NZ (I:=a) U:) r λ_ U=>.q 2 r (.Z 1 r r (.X r (.S CP BE .z r .mk) tv)) (.Y r (.u call101 (NZ (I:=a) U:) r λ_ U=>?_))))))));exact .q 2 r (.X r (.S CP BE .z r .mk) tv) (.Y r (.u call132 (vZ (I:=a) U:) r λ_ U=>.q 2 r tv (.Y r (.u call130 (gL (I:=a) U:) r λK U=>.q 2 r tv (.e2 6 (.R BE .p1 r (.M 64 r (.drop .z (.K (B7 r (.w CP BE r .z r .n) e ⟨K,r,U⟩))))))))))
theorem yB {a0 a1 a2 a3 a4 Q} (R3:RepSl CF I p1 c2 a1) (R6:RepSl KF I p4 c5 a3) (d:VX a0 a1 a2 a3 a4 Q) :
  B6 prog 345 [vi a0,.slice p1 a1.length c2,vi a2,.slice p4 a3.length c5,.bool a4] I (fun I_ v=>∃ r p7 c8,v=.slice p7 r.length c8∧RepSl EV I_ p7 c8 r∧Q r):=by
 refine Fun.ee func345 ntmps345 r (.N 1 r (.U 31 1 r (.M 2079 r (.B (.N 1 r (.ln DU r (.C 1 116765 r (.E (.own0 EV 314 (.lx d [15,14,4,3,2,0] [] r (fun j E l (a,a5)=>fun c w=>∃ e f,j ⟨39,[],none⟩ (fun I_=>True) ((11,.slice e a.length f) :: (16,vi a5) :: E) (OwnSl EV 314 e f a :: l) c w) (fun c w O hs=>⟨_,_,jf rf tv [0] r O hs⟩) ?_))))))))))
 rintro ⟨a,a5⟩ _ d c w ⟨e,f,x,b,_,a6,a7⟩
 obtain ⟨R3,R6⟩:=b.u2 R3 R6
 refine Cod.at a6 a7 (.F (.C 1 247837 r (.B (.A r d (fun k d=>?_) fun k d=>?_))))
 · refine .P 116765 r (.B (.E (.F ?_)))
   obtain ⟨y,g,m,_,_,A,n,d⟩:=R3.ix d
   refine .W DU DL A y m r (.ldW UK DL n r r r r (.al LN r fun _=>.R DL .z r (.U 124957 2 r (.I AJ .z r (.u call292 (O0 R6 d:) r fun _ d=>.G 1 r (.neB underlying4 r r r r (.M 33679389 r (.A r d (fun p d=>?_) fun p d=>?_))))))))
   · refine .dr nl5 11 (.J 2 r (.V AJ 0 r (.J 2 r (.V J6 0 r (.J 1 r (.Y r (.u call358 (wL (I:=x) d:) r fun i d=>.q 2 r (.X r (.I AJ .z r .mk) (.Z 2 r r tv)) (.h r (.bd gI underlying314 AuV r .mk) (.Y r (.bs 1 EK FH gI r fun _=>?_))))))))))
     refine .q 3 r (.Z 1 r r tv) (.Y r ?_)
     obtain ⟨s,d⟩:=d
     exact .ap (ys:=[({ At:=g.At,Val:=i }:BM)]) .p2 EK EK AeF r (.box .z (.one r) r) s fun _ _=>.q 3 r tv (.e2 11 (.C 1 116765 r (.drop .p1 (.drop .p1 (.D (.G 2 r (.H fun c w O hs=>⟨_,d,_,_,jf b tv [0] r O hs⟩)))))))
   exact .P 116765 r (.drop .z (.D (.G 2 r (.H fun c w O hs=>⟨_,d,_,_,jf b tv [0] r O hs⟩))))
 refine .en 2048 r (.F (.C 2 1024 r (.pub .z fun _ t B=>?_)))
 have u:=t.u1 b
 exact .r1 results345 r u ⟨a,_,_,r,B,d⟩
theorem pM {a0 a1 Q} (h:wQ I gd1 a0) (D:U4 a0 a1 Q) :
  Fun prog 360 #[.agg (FG a0 gd1),vi a1] I [] (λd v l=>∃ r b3 gd4 b6,v=.func (.func 369) #[] #[vp b3,vp b6]∧wQ d gd4 r.1∧l=[pc b3 (FG r.1 gd4) 189,pc b6 #[vi r.2] 3]∧Q r):=by
 exact Fun.ee func360 ntmps360 r (.F (.bx r λb3=>.box1 r r r r λ_=>.G 1 r (.ns 12 r (.mkFn r r r r (.C 1 16 r (.q1 results360 rf gK r ⟨(a0,a1),_,gd1,_,r,h,r,D⟩))))))
theorem jL {o0 o1 o2 o3 Y Q} (hY:∀ {J_:IH},I.le J_->∀ {y14:Nat} {y15:List B9} {x21:B9} {p17:Option Addr} {c18:Nat} {Qy:(Bool×Nat×(List B9))->Prop},Y y14 y15 x21 Qy->RFun prog lr [.agg (VN x21).toArray] J_ [Rr y14,pc b5 #[.slice p17 y15.length c18] 233,OwnSl CF 300 p17 c18 y15] (λI_ v l=>∃ r p23 c24,v=.bool r.1∧l=[Rr r.2.1,pc b5 #[.slice p23 r.2.2.length c24] 233,OwnSl CF 300 p23 c24 r.2.2]∧Qy r)) (R12:wQ I gd11 o2) (hd:PT o0 o1 o2 o3 Y Q) :
  Fun prog 369 #[.func (.yield lr) #[] #[],vp b10,vp b13] I [Rr o0,pc b5 #[.slice p6 o1.length c7] 233,OwnSl CF 300 p6 c7 o1,pc b10 (FG o2 gd11) 189,pc b13 #[vi o3] 3] (λI_ v l=>∃ r p15 c16,v=.tuple #[]∧l=[Rr r.1,pc b5 #[.slice p15 r.2.length c16] 233,OwnSl CF 300 p15 c16 r.2,pc b10 (FG o2 gd11) 189,pc b13 #[vi o3] 3]∧Q r):=by
 refine Fun.ee func369 ntmps369 r ?_;refine .N 1 r (.I F9 .p3 r (.I AJ .p4 r ?_));have⟨S,a5,C,a6,o35,T,D,hd⟩:=R12.2.1.ix hd;refine .W BD DD T S C r (.x 0 AJ D r (.C 1 23 r (.E (.lx hd nl7 [3,3] r (λj E l (b,m,d)=>λc w=>∃ e f,j ⟨34,[],none⟩ (λI_=>True) ((4,vi m) :: E) (pc b5 #[.slice e b.length f] 233 :: OwnSl CF 300 e f b :: Rr d :: l) c w) (λc w ho hs=>⟨_,_,jf rf tv [1,1,0,0,0] r ho hs⟩) ?_))));rintro⟨b,m,d⟩ R hd c w ⟨e,f,F,a,_,hok,hsym⟩;have R12:=a.u1 R12;refine Cod.at hok hsym (.B (.N 2 r (.I F9 .p3 r (.I AJ .p4 r (.G 1 r ?_)))));have⟨G,V,q,W,o189,H,s,hd⟩:=R12.2.1.ix hd;refine .W BD DD H G q r (.x 0 AJ s r (.C 1 131095 r (.A r hd (λt hd=>?_) λt hd=>?_)))
 . refine .P 23 r (.B (.E (.B (.ownF .p1 λU=>?_))));refine .dr AcG 14 (.J 2 r (.V F9 3 r (.J 1 r ?_)));have⟨J,K,u,X,o200,L,g,hd⟩:=R12.2.2.1.ix hd;refine .h r (.W BD DD L J u r .mk) (.h r (.x 0 AJ g r .mk) (.J 1 r (.V FK 3 r (.J 1 r ?_))));have⟨N,O,x,Z,o209,P,i,hd⟩:=R12.2.2.2.ix hd;refine .h r (.W CA MO P N x r .mk) (.h r (.x 0 J6 i r .mk) (.h r (.bd LN uT uR r .mk) (.Y r λ{ex}=>?_)));have y:=hY (J_:=F) a (y14:=d) (y15:=b) (x21:=({ At:=K,Val:=O }:B9)) (p17:=e) (c18:=f) hd;refine .callY r r (.o [2,0,0] r) y r r λa0 a1 a2 z A=>?_;obtain⟨k,a3,a4,rfl,rfl,hd⟩:=A;have⟨p,R12,g,i⟩:=z.u4 a R12 g i;refine .rx 5 r (.q 5 r tv (.J 1 r (.e2 14 (.M 8589934615 r (.A r hd (λB hd=>?_) λB hd=>?_)))))
   . exact .K (DX r .n p (.o nl9 r) ⟨(k.2.1,k.2.2),_,_,r,r,hd⟩)
   exact .P 23 r (.D (.G 3 r (.H λc w ho hs=>⟨_,hd,_,_,jf p tv [1,1,0,0,0] r ho hs⟩)))
 exact .exit (H3 r .n a (.o [2,0,0,0,0] r) ⟨(d,b),_,_,r,r,hd⟩)
theorem KS {o0 o1 Q} (R5:wQ I gd4 o0) (hd:DR o0 o1 Q) :
  Fun prog 368 #[.slice none 0 0,.func (.func 369) #[] #[vp b3,vp b6]] I [pc b3 (FG o0 gd4) 189,pc b6 #[vi o1] 3] (λI_ v l=>∃ r p7 c8,v=.slice p7 r.length c8∧RepSl CF I_ p7 c8 r∧l=[pc b3 (FG o0 gd4) 189,pc b6 #[vi o1] 3]∧Q r):=by
 refine Fun.en func368 ntmps368 r λw0 M=>?_;refine .marks0 (.F (.box1 r r r r λm=>?_));refine .C 1 6 r (.B (.F (.C 1 70 r (.E (.own0 CF 300 (.rangeF [] r call369 (.o [2,1,0,0,0] r) λlr D rc hrc=>?_))))));refine⟨_,jL (I:=I) (lr:=lr) (Rr:=fD lr [] rc) (o0:=0) (o1:=([]:List B9)) (o2:=o0) (o3:=o1) (b5:=m) (p6:=none) (c7:=0) (b10:=b3) (gd11:=gd4) (b13:=b6) ?_ R5 hd,?_⟩
 . intro I hJ p h b q s Qy  hd
   replace R5:=hJ.u1 R5
   obtain⟨rfl,hd⟩:=hd;refine RFun.mk hrc r λw0 M=>?_;refine .D (.al LN r λu=>?_);refine .R DL .z r (.H λc w ho hs=>tD (E':=[(2,_),(5,_)]) ho ⟨r,r,tv⟩ hs .p1 (.E (.D (.I HU .p2 r (.S UK DL .z r (.bs 1 DU DL LN r λx=>?_))))));have⟨d,hd⟩:=hd;refine .ap (ys:=[b]) .p4 DU DU uQ r (.box .z (.one r) r) d λy A=>?_;refine .s1 sizeOf233 .p4 r ?_;exact .H λc w ho hs=>AgI 0 (.inl rfl) rf .p3 (.o [3,0] rfl) ⟨(true,0,(h++([b]))),_,_,rfl,rfl,hd⟩ hs
 intro B C l' a e;obtain⟨j,E,F,rfl,rfl,hd⟩:=e;have R5:=a.u1 R5;have⟨hz,hd⟩:=hd;refine⟨_,_,r,λhj=>?_,λi hj=>absurd (hz.symm.trans hj) (by simp)⟩;refine .rn 5 r (.mkS 6 r r (.F (.I HU .p1 r (.C 1 18 r (.drop .p1 (.pub .p1 λG f k=>?_))))));have⟨g,R5⟩:=f.u2 a R5;exact .K (AuM .z results368 (.t r .n) g (.o MF r) ⟨j.2,_,_,r,k,r,hd⟩)
theorem RV {o0 o1 Q} (R5:wQ I gd4 o0) (hd:ET o0 o1 Q) :
  Fun prog 359 #[.func (.func 369) #[] #[vp b3,vp b6]] I [pc b3 (FG o0 gd4) 189,pc b6 #[vi o1] 3] (λI_ v l=>∃ r p7 c8,v=.slice p7 r.length c8∧RepSl CF I_ p7 c8 r∧l=[pc b3 (FG o0 gd4) 189,pc b6 #[vi o1] 3]∧Q r):=by
 refine Fun.ee func359 ntmps359 r ?_;refine .N 1 r (.U 1 1 r ?_);refine .cS (.f call368 r) (.o MF r) r (KS (b3:=b3) (b6:=b6) R5 hd:) λg k h a b=>?_;obtain⟨d,i,j,rfl,e,rfl,hd⟩:=b;have R5:=a.u1 R5;exact .rn 2 r (.C 1 5 r (.q1 results359 a MF r ⟨d,_,_,r,e,r,hd⟩))
theorem yC {a0 a1 Q} (R2:wQ I gd1 a0) (hd:VY a0 a1 Q) :
  B6 prog 346 [.agg (FG a0 gd1),vi a1] I (AxT Q):=by
 refine Fun.ee func346 ntmps346 r ?_;refine .F (.bx r λP=>?_);refine .G 1 r (.ns 6 r (.S HI EG .z r ?_));refine .ca call340 r (qZ R2 hd:) λA B b e=>?_;obtain⟨C,x,rfl,a,hd⟩:=e;have R2:=b.u1 R2;refine .R EG .z r (.ns 6 r (.S HI EG .z r (.G 1 r ?_)));refine .u call341 (nE a hd:) r λD hd=>?_;refine .C 1 36 r (.B (.F (.C 2 4132 r (.A r hd (λh hd=>?_) λh hd=>?_))))
 . exact .F (.C 1 16 r (.drop .z (.r1 results346 r b ⟨([]:List B9),_,_,r,(.nil _ _ _),hd⟩)))
 refine .P 36 r (.F (.S HI EG .z r (.G 1 r ?_)));refine .cS (.f call360 r) .n r (pM a hd:) λE F G j k=>?_;obtain⟨H,t,y,u,rfl,c,rfl,hd⟩:=k;have⟨l,a⟩:=j.u2 b a;refine .rn 3 r ?_;refine .cS (.f call359 r) (.o MF r) r (RV (b3:=t) (b6:=u) c hd:) λJ K L p q=>?_;obtain⟨v,N,O,rfl,w,rfl,hd⟩:=q;have⟨s,a,c⟩:=p.u3 l a c;exact .rn 3 r (.C 1 16 r (.drop .z (.drop .z (.drop .z (.r1 results346 r s ⟨v,_,_,r,w,hd⟩)))))
theorem AfP {a0 a1 a2 a3 a4 Q} (R2:wQ I gd1 a1) (R5:RepSl CF I p3 c4 a2.Items) (R8:RepSl KF I p6 c7 a3) (hd:eA a0 a1 a2 a3 a4 Q) :
  B6 prog 317 [vi a0,.agg (FG a1 gd1),.agg #[vi a2.N,.slice p3 a2.Items.length c4],.slice p6 a3.length c7,.bool a4] I (fun I_ v=>∃ r p9 c10,v=.tuple #[.slice p9 r.1.length c10,vi r.2]∧RepSl EV I_ p9 c10 r.1∧Q r):=by
 refine Fun.ee func317 ntmps317 r ?_
 refine .F (.bx r fun e4=>?_)
 refine .bx r fun e5=>?_
 refine .G 2 r (.ns 217 r (.S HI EG .p1 r (.S BK AM .z r ?_)))
 refine .ca call344 r (AfO R2 R5 hd:) fun e6 b4 d a5=>?_
 obtain ⟨e7,b7,e8,e9,rfl,a,b,hd⟩:=a5
 obtain ⟨R2,R5,R8⟩:=d.u3 R2 R5 R8
 refine .G 3 r (.R EG .p1 r (.R AM .z r (.M 217 r (.B (.E (.N 1 r ?_))))))
 refine .u call100 (TE (I:=b4) hd:) r fun f0 hd=>?_
 refine .C 2 2097369 r (.A r hd (fun a7 hd=>?_) fun a7 hd=>?_)
 · exact .F (.C 2 3072 r (.drop .z (.drop .z (.K (B7 r (.t r (.t r .n)) d ⟨(([]:List BM),8),_,_,r,(.nil _ _ _),hd⟩)))))
 refine .N 1 r (.I AJ .z r (.G 1 r (.I AJ .p1 r (.C 2 33554649 r (.A r hd (fun a8 hd=>?_) fun a8 hd=>?_)))))
 · exact .F (.C 2 3072 r (.drop .z (.drop .z (.K (B7 r (.t r (.t r .n)) d ⟨(([]:List BM),4),_,_,r,(.nil _ _ _),hd⟩)))))
 refine .P 217 r (.F (.C 1 4313 r (.B (.N 1 r (.I HU .z r (.ln DU r (.C 1 30064775257 r (.drop .z (.E ?_)))))))))
 refine .own0 (nZ EV) 192 (.lx hd [33,32,6,4,3,0] [1] r (fun j E l (e,g)=>fun c w=>∃ i k,j ⟨57,[],none⟩ (fun I_=>True) ((12,.slice i e.length k) :: (34,vi g) :: E) (OwnSl (nZ EV) 192 i k e :: l) c w) (fun c w ho hs=>⟨_,_,jf rf tv MF r ho hs⟩) ?_)
 rintro ⟨e,g⟩ b3 hd c w ⟨i,k,b8,f,_,hok,hsym⟩
 obtain ⟨p,R8,a,b⟩:=f.u4 d R8 a b
 refine Cod.at hok hsym (.F (.C 1 64424513625 r (.B (.A r hd (fun u hd=>?_) fun u hd=>?_))))
 · refine .P 30064775257 r (.B (.E (.F ?_)))
   obtain ⟨a9,b9,x,c0,o213,b0,y,hd⟩:=b.ix hd
   refine .W DU DL b0 a9 x r (.ldW UK DL y r r r r (.al LN r fun c1=>?_))
   refine .R DL .z r (.M 30064791641 r (.dr [0,1,2,3,4,6,7,8,9,5,10,11,12] 13 (.J 2 r (.h r (.S HI EG .p2 r .mk) (.J 1 r (.V AJ 0 r (.J 1 r (.V J6 0 r (.J 2 r ?_)))))))))
   refine .Y r ?_
   refine .ca call346 r (yC a hd:) fun c2 c3 B C=>?_
   obtain ⟨c5,c6,c8,rfl,m,hd⟩:=C
   obtain ⟨D,F,R8,a,b⟩:=B.u5 p f R8 a b
   refine .q 3 r (.Z 2 r r (.X r (.I J6 .z r .mk) (.Z 3 r r tv))) (.Y r ?_)
   refine .ca call345 r (yB m R8 hd:) fun c9 d0 H J=>?_
   obtain ⟨q,d1,d2,rfl,b1,hd⟩:=J
   obtain ⟨b5,K,R8,a,b,m⟩:=H.u6 D F R8 a b m
   refine .q 3 r (.Z 1 r r tv) (.Y r ?_)
   refine .bs 1 qQ ZY zeroValue192 r fun d3=>?_
   refine .q 4 r (.Z 1 r r tv) (.Y r ?_)
   obtain ⟨L,hd⟩:=hd
   refine .ap (ys:=[q]) .p2 qQ qQ AxH r (.box .z (.one ⟨_,_,r,b1⟩) r) L fun d4 d5=>?_
   exact .q 4 r tv (.e2 13 (.C 1 30064775257 r (.drop .p1 (.drop .p1 (.D (.G 2 r (.H fun c w ho hs=>⟨_,hd,_,_,jf K tv MF r ho hs⟩)))))))
 refine .en 4097 r (.drop .p1 (.N 2 r (.pub .z fun d6 O o=>?_)))
 obtain ⟨P,R⟩:=O.u2 p f
 refine .AD call248 r (nG o hd:) r r fun d7 d8 d9 T U=>?_
 obtain ⟨s,e0,e1,rfl,rfl,hd⟩:=U
 obtain ⟨V,W,o⟩:=T.u3 P R o
 refine .C 4 3072 r (.pub .z fun e3 X b2=>?_)
 obtain ⟨Y,b6⟩:=X.u2 V W
 exact .K (B7 r (.t r (.t r .n)) Y ⟨(s.1,s.2),_,_,r,b2,hd⟩)
theorem AfQ {a0 a1 Q} (R2:nQ I gb1 a0) (R4:lTi I gi3 a1) (hd:eD a0 a1 Q) :
  B6 prog 347 [.agg (LF a0 gb1),.agg (LG a1 gi3)] I (λI_ v=>∃ r gb5 gi7,v=.tuple #[.agg (LF r.1 gb5),.agg (LG r.2 gi7)]∧nQ I_ gb5 r.1∧lTi I_ gi7 r.2∧Q r):=by
 refine Fun.ee func347 ntmps347 r ?_;refine .F (.bx r λC=>?_);refine .bx r λK=>?_;refine .al OZ r λL=>?_;refine .al mA r λN=>?_;refine .M 60 r (.B (.jx hd [5,4,3,2] nl7 r (λj E l d=>λc w=>∃ a,j ⟨19,[],none⟩ (λI_=>nQ I_ a d) E (pc C (LF d a) 187 :: l) c w) (λO hd=>?_) ?_))
 . refine .F (.S D0 BL .p3 r ?_);refine .u call180 (WF R2 hd:) r λP hd=>?_;refine .C 1 316 r (.A r hd (λk hd=>?_) λk hd=>?_)
   . refine .D (.S D0 BL .p3 r (.ba aI S7 DD r (.ba aI S7 DD r ?_)));refine .ca call182 r (eY R2 hd:) λR S f o=>?_;obtain⟨D,p,rfl,F,hd⟩:=o;have⟨R2,R4⟩:=f.u2 R2 R4;exact .R BL .p3 r (.H λc w ho hs=>⟨D,hd,p,jf f F [3,2,1,0] r ho hs⟩)
   exact .AB λc w ho hs=>⟨a0,hd,gb1,jf rf R2 [3,2,1,0] r ho hs⟩
 rintro d hd c w ⟨a,G,e,b,hok,hsym⟩;have R4:=e.u1 R4;refine Cod.at hok hsym (.B (.F (.S LM FJ .p1 r ?_)));refine .u call356 (gS R4 hd:) r λT hd=>?_;refine .C 1 32828 r (.A r hd (λs hd=>?_) λs hd=>?_)
 . refine .D ?_;refine .AD call313 r (WI (I:=G) hd:) r r λU V W u x=>?_;obtain⟨H,X,Y,Z,a2,rfl,g,rfl,hd⟩:=x;have⟨y,R4,b⟩:=u.u3 e R4 b;refine .R FJ .p2 r (.M 60 r (.B (.dr [0,1,2] 3 (.h r (.S D0 BL .p1 r .mk) (.h r (.S LM FJ .p2 r .mk) (.Y r ?_))))));refine .R BL .p3 r (.P 5 r r r (.X r (.S LM FJ .p2 r .mk) tv) (.e2 3 (.R FJ .p4 r (.M 48 r (.drop .p1 (.drop .p1 (.pub .z λa3 A J=>?_)))))));have⟨B,b,g⟩:=A.u3 y b g;exact .K (B7 r (.w D0 BL r .z r (.w LM FJ r .p1 r .n)) B ⟨(d,H),a,((_,_),(_,_)),r,b,⟨g,J⟩,hd⟩)
 refine .P 60 r (.B (.dr [0,1,2] 3 (.h r (.S D0 BL .z r .mk) (.h r (.S LM FJ .p1 r .mk) (.Y r ?_)))));exact .R BL .p2 r (.P 4 r r r (.X r (.S LM FJ .p1 r .mk) tv) (.e2 3 (.R FJ .p3 r (.M 48 r (.drop .z (.drop .z (.K (B7 r (.w D0 BL r .z r (.w LM FJ r .p1 r .n)) e ⟨(d,a1),a,gi3,r,b,R4,hd⟩))))))))
theorem pN {a0 Q} (h:U5 a0 Q) :
  Fun prog 362 #[vi a0] I [] (λ_ v l=>∃ r d b2 b3,v=.tuple #[.func (.func 370) #[] #[vp d,vp b2,vp b3],.func (.func 371) #[] #[vp b3,vp d]]∧l=[pc d #[.bool r.1] 4,pc b2 #[vi r.2.1] 109,pc b3 #[vi r.2.2.Hi,.int .u64 r.2.2.Lo] 150]∧Q r):=by
 refine Fun.ee func362 ntmps362 r (.F (.box1 r r r r λb3=>.G 2 r (.ns 2 r (.al I9 r λ_=>.ns 18 r (.alloc1 zeroValue4 r r r λ_=>?_)))));exact .s1 sizeOf4 .z r (.ns 50 r (.mkFn r r r r (.G 1 r (.U 52 1 r (.mkFn r r r r (.C 2 12 r (.K (DX r (.t r (.t r .n)) rf (.o [0,1,0] r) ⟨(false,a0,PB),_,_,_,r,r,h⟩))))))))
theorem jM {o0 o1 o2 a0 Q} (d:PU o0 o1 o2 a0 Q) :
  Fun prog 370 #[.agg (GO a0).toArray,vp b4,vp b5,vp b6] I [pc b4 #[.bool o0] 4,pc b5 #[vi o1] 109,pc b6 #[vi o2.Hi,.int .u64 o2.Lo] 150] (λ_ v l=>∃ r,v=.tuple #[]∧l=[pc b4 #[.bool r.1] 4,pc b5 #[vi o1] 109,pc b6 #[vi r.2.Hi,.int .u64 r.2.Lo] 150]∧Q r):=by
 refine Fun.ee func370 ntmps370 r (.F (.bx r λ_=>.M 30 r (.B (.F (.I ia4 .p1 r (.M 62 r (.A r d (λa d=>?_) λa d=>?_)))))))
 . exact .D (.I isAgg109 .p2 r (.S CP BE .p3 r (.S CP BE .z r (.u call102 (jA (I:=I) d:) r λc d=>.R BE .z r (.M 26 r (.D (.S CP BE .z r (.R BE .p3 r (.s1 sizeOf4 .p1 r (.H (H3 r .n rf (.o xQ r) ⟨(true,c),r,r,d⟩)))))))))))
 exact .P 26 r (.D (.S CP BE .z r (.R BE .p3 r (.s1 sizeOf4 .p1 r (.H (H3 r .n rf (.o xQ r) ⟨(true,a0),r,r,d⟩))))))
theorem jN {o0 o1 Q} (d:PV o0 o1 Q) :
  Fun prog 371 #[vp b3,vp b4] I [pc b3 #[vi o0.Hi,.int .u64 o0.Lo] 150,pc b4 #[.bool o1] 4] (λ_ v l=>∃ r,v=.tuple #[.agg (GO r.1).toArray,.bool r.2]∧l=[pc b3 #[vi o0.Hi,.int .u64 o0.Lo] 150,pc b4 #[.bool o1] 4]∧Q r):=by
 refine Fun.ee func371 ntmps371 r (.F (.al I9 r λ_=>.C 1 7 r (.B (.dr [0,1,2] 3 (.h r (.S CP BE .p1 r .mk) (.V ia4 2 r (.Y r ?_)))))));exact .R BE .z r (.P 3 r r r (.X r (.I ia4 .p2 r .mk) tv) (.e2 3 (.C 1 15 r (.K (DX r (.w CP BE r .z r (.t r .n)) rf (.o [1,1] r) ⟨(o0,o1),r,r,d⟩)))))
theorem Ai8 {a0 a1 a2 a3 Q} (R2:nQ I gb1 a1) (R4:lTi I gi3 a3) (hd:kU a0 a1 a2 a3 Q) :
  B6 prog 349 [vi a0,.agg (LF a1 gb1),vi a2,.agg (LG a3 gi3)] I (λI_ v=>∃ r,v=.tuple #[.agg (GO r.1).toArray,.bool r.2]∧Q r):=by
 refine Fun.ee func349 ntmps349 r ?_;refine .F (.bx r λd8=>?_);refine .bx r λd9=>?_;refine .al I9 r λe0=>?_;refine .G 1 r (.U 421 1 r ?_);refine .cS (.f call362 r) .n r (pN (I:=I) hd:) λe1 e3 e4 s X=>?_;obtain⟨e5,u,L,x,rfl,rfl,hd⟩:=X;have⟨R2,R4⟩:=s.u2 R2 R4;refine .rn 6 r (.C 5 3493 r (.B (.N 1 r (.I F9 .p5 r (.G 1 r ?_)))));have⟨S,e6,Y,e7,o56,b9,Z,hd⟩:=R2.1.ix hd;refine .W BD DD b9 S Y r (.x 0 AJ Z r (.C 1 7589 r (.E (.lp hd [11,10,8,7,5,2,0] [5,4,3,1] r (λj E l (g,i,k,b)=>j ((12,vi b) :: E) (pc u #[.bool g] 4 :: pc x #[vi i,.int .u64 k] 150 :: l)) (ji rf [0,1,3,2,1,0] r) ?_))));rintro⟨g,i,k,b⟩ b2 hd;refine jq r λm a=>?_;have⟨q,R2,R4⟩:=a.u3 s R2 R4;refine .B (.N 2 r (.I F9 .p2 r (.G 2 r ?_)));have⟨a4,c2,A,c3,o257,a5,B,hd⟩:=R2.1.ix hd;refine .W BD DD a5 a4 A r (.x 0 AJ B r (.C 1 2147491237 r (.A r hd (λC hd=>?_) λC hd=>?_)))
 . refine .P 7589 r (.B (.E (.N 1 r (.I F9 .p2 r (.G 1 r ?_)))));have⟨a6,c4,D,c5,o276,a7,F,hd⟩:=R2.2.1.ix hd;refine .W BD DD a7 a6 D r (.x 0 AJ F r (.G 1 r (.U 15781 1 r (.I QE .p3 r (.G 1 r ?_)))));refine .u call292 (O0 R4.1 hd:) r λc6 hd=>?_;refine .M 4398046526885 r (.A r hd (λH hd=>?_) λH hd=>?_)
   . refine .dr AcG 14 (.J 3 r (.V FK 2 r (.J 1 r ?_)));have⟨a8,c7,J,c8,o294,a9,d,hd⟩:=R2.2.2.ix hd;refine .h r (.W CA MO a9 a8 J r .mk) (.h r (.x 0 J6 d r .mk) (.J 1 r (.V FK 3 r (.J 1 r ?_))));have⟨b0,c9,K,d0,o303,b1,e,hd⟩:=R4.2.ix hd;refine .h r (.W CA MO b1 b0 K r .mk) (.h r (.x 0 J6 e r .mk) (.Y r ?_));refine .u call358 (wL (I:=m) hd:) r λd1 hd=>?_;refine .q 6 r (.Z 1 r r tv) (.Y r ?_);refine .cS (.c call370 r r) (.o [0,4,0] r) r (jM (I:=m) (b4:=u) (b5:=L) (b6:=x) hd:) λd2 d3 d4 O P=>?_;obtain⟨p,rfl,rfl,hd⟩:=P;have⟨c0,R,R2,R4,d,e⟩:=O.u6 q a R2 R4 d e;exact .rx 6 r (.q 6 r tv (.e2 14 (.M 7589 r (.D (.G 3 r (.H (je (p.1,p.2.Hi,p.2.Lo,A4 (b+1)) hd R [0,1,1,1,1,0] r)))))))
   exact .P 7589 r (.D (.G 3 r (.H (je (g,i,k,A4 (b+1)) hd a US r))))
 refine .en 2304 r (.drop .p2 (.drop .p2 (.drop .p3 (.N 1 r ?_))));refine .cS (.c call371 r r) (.o gK r) r (jN (I:=m) (b3:=x) (b4:=u) hd:) λd5 d6 d7 T U=>?_;obtain⟨y,rfl,rfl,hd⟩:=U;have⟨V,c1⟩:=T.u2 q a;exact .rn 3 r (.G 2 r (.R BE .p2 r (.C 1 768 r (.drop .z (.drop .z (.K (B7 r (.w CP BE r .z r (.t r .n)) V ⟨(y.1,y.2),r,hd⟩)))))))
theorem pP {a0 a1 a2 Q} (h:RepSl KF I p1 c2 a1) (D:U6 a0 a1 a2 Q) :
  Fun prog 348 #[vi a0,.slice p1 a1.length c2,.bool a2] I [] (λd v l=>∃ r b4 b5 p6 c7 b9,v=.func (.func 361) #[] #[vp b4,vp b5,vp b9]∧RepSl KF d p6 c7 r.2.1∧l=[pc b4 #[vi r.1] 3,pc b5 #[.slice p6 r.2.1.length c7] 40,pc b9 #[.bool r.2.2] 4]∧Q r):=by
 exact Fun.ee func348 ntmps348 r (.F (.box1 r r r r λb4=>.box1 r r r r λ_=>.box1 r r r r λ_=>.G 1 r (.ns 56 r (.mkFn r r r r (.C 1 64 r (.q1 results348 rf nl7 r ⟨(a0,a1,a2),_,_,_,_,_,r,h,r,D⟩))))))
theorem jO {o0 o1 o2 o3 o4 o5 o6 o7 Y Q} (hY:∀ {J_:IH},I.le J_->∀ {y27:Nat} {y28:Int} {y30:Rows} {y34:Dense} {y38:List BM} {x44:Int} {gb32:aTb} {gi36:aTi} {p40:Option Addr} {c41:Nat} {Qy:(Bool×Nat×(List BM))->Prop},nQ J_ gb32 y30->lTi J_ gi36 y34->Y y27 y28 y30 y34 y38 x44 Qy->RFun prog lr [vi x44] J_ [Rr y27,pc b9 #[vi y28] 109,pc b10 (LF y30 gb32) 187,pc b13 (LG y34 gi36) 324,pc b16 #[.slice p40 y38.length c41] 192,OwnSl EV 314 p40 c41 y38] (λI_ v l=>∃ r p46 c47,v=.bool r.1∧l=[Rr r.2.1,pc b9 #[vi y28] 109,pc b10 (LF y30 gb32) 187,pc b13 (LG y34 gi36) 324,pc b16 #[.slice p46 r.2.2.length c47] 192,OwnSl EV 314 p46 c47 r.2.2]∧Qy r)) (R12:nQ I gb11 o2) (R15:lTi I gi14 o3) (R25:RepSl KF I p23 c24 o6) (hd:PW o0 o1 o2 o3 o4 o5 o6 o7 Y Q) :
  Fun prog 361 #[.func (.yield lr) #[] #[],vp b21,vp b22,vp b26] I [Rr o0,pc b9 #[vi o1] 109,pc b10 (LF o2 gb11) 187,pc b13 (LG o3 gi14) 324,pc b16 #[.slice p17 o4.length c18] 192,OwnSl EV 314 p17 c18 o4,pc b21 #[vi o5] 3,pc b22 #[.slice p23 o6.length c24] 40,pc b26 #[.bool o7] 4] (λI_ v l=>∃ r p28 c29,v=.tuple #[]∧l=[Rr r.1,pc b9 #[vi o1] 109,pc b10 (LF o2 gb11) 187,pc b13 (LG o3 gi14) 324,pc b16 #[.slice p28 r.2.length c29] 192,OwnSl EV 314 p28 c29 r.2,pc b21 #[vi o5] 3,pc b22 #[.slice p23 o6.length c24] 40,pc b26 #[.bool o7] 4]∧Q r):=by
 refine Fun.ee func361 ntmps361 r ?_;refine .F (.I AJ .p6 r (.C 1 207 r (.E (.lx hd [6,3,2,1,0] [1,1,1,3,3,3] r (λj E l (d,e,f)=>λc w=>∃ g i,j ⟨22,[],none⟩ (λI_=>True) ((7,vi e) :: E) (pc b16 #[.slice g d.length i] 192 :: OwnSl EV 314 g i d :: Rr f :: l) c w) (λc w ho hs=>⟨_,_,jf rf tv [4,4,0,0,0,0,0,0,0] r ho hs⟩) ?_))));rintro⟨d,e,f⟩ z hd c w ⟨g,i,y,b,_,hok,hsym⟩;have⟨R12,R15,R25⟩:=b.u3 R12 R15 R25;refine Cod.at hok hsym (.F (.C 1 463 r (.B (.A r hd (λp hd=>?_) λp hd=>?_))))
 . refine .P 207 r (.B (.E (.F (.C 2 239 r (.B (.dr [0,1,3,2,4,5,6,7,8,9,10] 11 (.V QE 7 r (.J 1 r (.V ia4 8 r ?_)))))))));refine .Y r ?_;refine .u call292 (O0 R25 hd:) r λA hd=>?_;refine .q 9 r (.X r (.I ia4 .p8 r .mk) tv) (.h r (.neB underlying4 r r r r .mk) (.J 1 r ?_));refine CR hd (λa hd=>?_) λa hd=>?_
   . refine .h r (.Q r r a (.AC r r r .mk)) (.h r (.Q r r a (.AC r r r .mk)) (.Y r λ{ex}=>?_));have s:=hY (J_:=y) b (y27:=f) (y28:=o1) (y30:=o2) (y34:=o3) (y38:=d) (x44:=e) (gb32:=gb11) (gi36:=gi14) (p40:=g) (c41:=i) R12 R15 hd;refine .Q r r a (.callY r r (.o [2,2,2,2,0,0] r) s r r λB C D t u=>?_);obtain⟨k,F,G,rfl,rfl,hd⟩:=u;have⟨m,R12,R15,R25⟩:=t.u4 b R12 R15 R25;refine .rx 9 r (.q 9 r tv (.h r (.Q r r a (.not r r r .mk)) (.h r (.pickT r a r r r .mk) (.e2 11 (.M 1048783 r (.A r hd (λx hd=>?_) λx hd=>?_))))))
     . exact .K (DX r .n m (.o [0,0,0,0,0,0,0,0,0] r) ⟨(k.2.1,k.2.2),_,_,r,r,hd⟩)
     exact .P 207 r (.D (.G 2 r (.H λc w ho hs=>⟨_,hd,_,_,jf m tv [4,4,0,0,0,0,0,0,0] r ho hs⟩)))
   refine .gn r a (.gn r a (.gn r a (.gn r a (.h r (.pickF r a r r r .mk) (.e2 11 (.M 1048783 r (.j r r (.P 207 r (.D ?_)))))))));exact .G 2 r (.H λc w ho hs=>⟨_,hd,_,_,jf b tv [0,0,0,0,0,0,0,0,0] r ho hs⟩)
 exact .exit (H3 r .n b (.o [2,2,2,2,0,0,0,0,0] r) ⟨(f,d),_,_,r,r,hd⟩)
theorem AfR {a0 a1 a2 a3 a4 Q} (R2:nQ I gb1 a1) (R4:lTi I gi3 a2) (R7:RepSl KF I p5 c6 a3) (hd:eG a0 a1 a2 a3 a4 Q) :
  B6 prog 318 [vi a0,.agg (LF a1 gb1),.agg (LG a2 gi3),.slice p5 a3.length c6,.bool a4] I (λI_ v=>∃ r p8 c9,v=.tuple #[.slice p8 r.1.length c9,vi r.2]∧RepSl EV I_ p8 c9 r.1∧Q r):=by
 refine Fun.en func318 ntmps318 r λw0 M=>?_;refine .marks0 (.F (.box1 r r r r λV=>?_));refine .bx r λW=>?_;refine .bx r λb21=>?_;refine .G 2 r (.ns 248 r (.S D0 BL .p1 r (.S LM FJ .z r ?_)));refine .ca call347 r (AfQ R2 R4 hd:) λm X e E=>?_;obtain⟨B,F,G,rfl,a,b,hd⟩:=E;have⟨R2,R4,R7⟩:=e.u3 R2 R4 R7;refine .G 3 r (.R BL .p1 r (.R FJ .z r (.M 248 r (.B (.E (.F (.I isAgg109 .p2 r ?_)))))));refine .u call100 (TE (I:=X) hd:) r λd0 hd=>?_;refine .C 2 4194552 r (.A r hd (λJ hd=>?_) λJ hd=>?_)
 . exact .F (.C 2 3072 r (.drop .z (.drop .z (.drop .z (.K (yP .z results318 (.t r (.t r .n)) e ⟨(([]:List BM),8),_,_,r,(.nil _ _ _),hd⟩))))))
 refine .N 1 r (.I AJ .z r (.G 1 r (.I AJ .p1 r (.C 2 67109112 r (.A r hd (λK hd=>?_) λK hd=>?_)))))
 . exact .F (.C 2 3072 r (.drop .z (.drop .z (.drop .z (.K (yP .z results318 (.t r (.t r .n)) e ⟨(([]:List BM),4),_,_,r,(.nil _ _ _),hd⟩))))))
 refine .P 248 r (.F (.alloc1 zeroValue192 r r r λY=>?_));refine .M 4344 r (.B (.N 1 r (.I AJ .p2 r (.G 2 r ?_))));refine .cS (.f call348 r) .n r (pP R7 hd:) λd1 Z d2 N O=>?_;obtain⟨g,a5,a6,a7,a8,P,rfl,d,rfl,hd⟩:=O;have⟨l,R7,a,b⟩:=N.u4 e R7 a b;refine .rn 8 r (.M 68719481056 r (.E (.own0 EV 314 (.rangeF [] r call361 (.o [8,7,6,5,4,0,0,0,0] r) λlr D rc hrc=>?_))));refine⟨_,jO (I:=Z) (lr:=lr) (Rr:=fD lr [] rc) (o0:=0) (o1:=a0) (o2:=B.1) (o3:=B.2) (o4:=([]:List BM)) (o5:=g.1) (o6:=g.2.1) (o7:=g.2.2) (b9:=V) (b10:=W) (gb11:=F) (b13:=b21) (gi14:=G) (b16:=Y) (p17:=none) (c18:=0) (b21:=a5) (b22:=a6) (p23:=a7) (c24:=a8) (b26:=P) ?_ a b d hd,?_⟩
 . intro I hJ L b2 b3 b4 h j a9 b0 b5 b6 Qy R S hd
   replace a:=hJ.u1 a
   replace b:=hJ.u1 b
   replace d:=hJ.u1 d
   obtain⟨rfl,hd⟩:=hd;refine RFun.mk hrc r λw0 M=>?_;refine .D (.G 1 r (.H λc w ho hs=>tD (E':=[(5,_),(6,_),(7,_),(12,_),(13,_)]) ho ⟨r,r,r,r,r,tv⟩ hs .z (.E (.F (.I isAgg109 .p1 r (.S D0 BL .p2 r (.G 1 r (.S LM FJ .p3 r ?_))))))));refine .u call349 (Ai8 R S hd:) r λk hd=>?_;refine .G 3 r (.al I9 r λb7=>?_);refine .R BE .z r (.G 1 r (.U 61440 1 r (.M 70368744206336 r (.A r hd (λp hd=>?_) λp hd=>?_))))
   . refine .D (.I K7 .p5 r (.G 1 r (.S CP BE .z r (.bd gI underlying314 AuV r (.bs 1 EK FH gI r λb8=>?_)))));have⟨q,hd⟩:=hd;refine .ap (ys:=[({ At:=j,Val:=k.1 }:BM)]) .p7 EK EK AeF r (.box .z (.one r) r) q λc0 c1=>?_;refine .s1 ZY .p7 r ?_;exact .H λc w ho hs=>AgI 0 (.inl rfl) rf .p3 (.o [3,3,3,3,0] rfl) ⟨(true,0,(h++([({ At:=j,Val:=k.1 }:BM)]))),_,_,rfl,rfl,hd⟩ hs
   exact .AB λc w ho hs=>AgI 0 (.inl rfl) rf .p1 (.o [1,1,1,1,1] rfl) ⟨(true,0,h),_,_,rfl,rfl,hd⟩ hs
 intro c2 c3 l' s u;obtain⟨T,c4,c5,rfl,rfl,hd⟩:=u;have⟨x,a,b,d⟩:=s.u4 l a b d;have⟨hz,hd⟩:=hd;refine⟨_,_,r,λhj=>?_,λi hj=>absurd (hz.symm.trans hj) (by simp)⟩;refine .rn 9 r (.mkS 4096 r r (.drop .p1 (.drop .p1 (.drop .p1 (.drop .p3 (.drop .p3 (.drop .p3 (.F (.I K7 .p1 r ?_)))))))));refine .C 2 3072 r (.drop .p1 (.pub .p1 λc7 y U=>?_));have A:=y.u1 x;exact .K (yP .z results318 (.t r (.t r .n)) A ⟨(T.2,0),_,_,r,U,hd⟩)
theorem wM {a0 Q} (R2:lTj I gj1 a0) (hd:SV a0 Q) :
  B6 prog 319 [.agg (AoT a0 gj1)] I (AxY Q):=by
 refine Fun.ee func319 ntmps319 r ?_;refine .F (.bx r λt=>?_);refine .al mA r λu=>?_;refine .ns 6 r (.S isAgg326 sizeOf326 .p1 r ?_);refine .ca call279 r (ZG R2 hd:) λl m a d=>?_;obtain⟨v,o,p,rfl,b,hd⟩:=d;have R2:=a.u1 R2;refine .ca call276 r (wH b hd:) λq s f g=>?_;obtain⟨j,h,rfl,k,hd⟩:=g;have⟨i,R2,b⟩:=f.u3 a R2 b;exact .R FJ .z r (.M 4 r (.drop .p1 (.K (B7 r (.w LM FJ r .z r .n) i ⟨j,h,r,k,hd⟩))))
theorem AfS {a0 a1 Q} (R3:RepSl CF I p1 c2 a0.Items) (hd:XK a0 a1 Q) :
  B6 prog 326 [.agg #[vi a0.N,.slice p1 a0.Items.length c2],vi a1] I (λ_=>o7_ Q):=by
 refine Fun.ee func326 ntmps326 r ?_;refine .F (.bx r λv=>?_);refine .G 2 r (.ns 6 r (.S BK AM .z r ?_));refine .ca call339 r (P4 R3 hd:) λl m a d=>?_;obtain⟨o,p,q,rfl,b,hd⟩:=d;have R3:=a.u1 R3;refine .R AM .z r (.ns 6 r (.S BK AM .z r (.G 1 r ?_)));refine .u call350 (ZI b hd:) r λs hd=>?_;refine .C 5 196 r (.B (.F (.C 2 131140 r (.A r hd (λf hd=>?_) λf hd=>?_))))
 . exact .F (.C 2 48 r (.drop .z (.K (B7 r (.t r (.t r .n)) a ⟨(0,false),r,hd⟩))))
 refine .P 68 r (.N 1 r (.I HU .z r (.G 1 r ?_)));have⟨i,j,g,u,o41,k,h,hd⟩:=b.ix hd;exact .W DU DL k i g r (.G 1 r (.x 1 J6 h r (.C 2 48 r (.drop .z (.K (B7 r (.t r (.t r .n)) a ⟨(j.Val,true),r,hd⟩))))))
theorem yD {a0 a1 a2 a3 a4 a5 Q} (R3:RepSl AV I p1 c2 a0.Draws) (R5:iE I gg4 a1) (hd:RM a0 a1 a2 a3 a4 a5 Q) :
  B6 prog 327 [.agg (M9 a0 p1 c2),.agg (GW a1 gg4),vi a2,vi a3,vi a4,.bool a5] I (λI_ v=>∃ r,v=.tuple #[vi r.1,vi r.2.1,.bool r.2.2]∧Q r):=by
 refine Fun.ee func327 ntmps327 r ?_;refine .F (.bx r λV=>?_);refine .bx r λW=>?_;refine .C 3 252 r (.B (.dr nl5 11 (.J 1 r (.V FK 0 r (.J 1 r ?_)))));have⟨P,e,k,X,o36,R,m,hd⟩:=R5.1.ix hd;refine .h r (.W CA MO R P k r .mk) (.h r (.x 0 J6 m r .mk) (.J 1 r (.V FK 0 r (.J 1 r ?_))));have⟨S,c,o,Y,o45,T,p,hd⟩:=R5.2.1.ix hd;refine .h r (.W CA MO T S o r .mk) (.h r (.x 0 J6 p r .mk) (.J 1 r (.e2 11 (.C 1 98556 r (.B (.N 1 r (.I fI .p1 r (.M 268534012 r (.E ?_)))))))));refine .F (.C 2 805404924 r (.A r hd (λq hd=>?_) λq hd=>?_))
 . refine .N 2 r (.T hd [5,31,32] r (λs hd=>?_) λs hd=>?_)
   . refine .C 3 34359836692 r (.drop .z (.drop .z (.A r hd (λu hd=>?_) λu hd=>?_)))
     . exact .F (.C 5 28672 r (.K (B7 r (.t r (.t r (.t r .n))) rf ⟨(a2,a4,true),r,hd⟩)))
     exact .P 98304 r (.F (.C 5 28672 r (.K (B7 r (.t r (.t r (.t r .n))) rf ⟨(e,c,false),r,hd⟩))))
   exact .C 3 34359836692 r (.drop .z (.drop .z (.j r r (.P 98304 r (.F (.C 5 28672 r (.K (B7 r (.t r (.t r (.t r .n))) rf ⟨(e,c,false),r,hd⟩))))))))
 refine .B (.jn hd [28,16,15,7,6,5,4,3,2] gK r (λj E l g=>j ((38,.bool g) :: E) l) (λZ hd=>?_) ?_)
 . refine .F (.C 2 275146440956 r (.A r hd (λw hd=>?_) λw hd=>?_))
   . exact .AB (je (a0.Kind==2) hd rf gK r)
   exact .D (.G 2 r (.H (je (a0.Kind==3) hd rf gK r)))
 refine λg hd=>jq r λa6 d=>?_;have⟨R3,R5⟩:=d.u2 R3 R5;refine .A r hd (λx hd=>?_) λx hd=>?_
 . refine .N 2 r (.T hd [5,41,42] r (λy hd=>?_) λy hd=>?_)
   . refine .C 4 70368744275984 r (.drop .z (.drop .z (.A r hd (λA hd=>?_) λA hd=>?_)))
     . exact .F (.C 5 28672 r (.K (B7 r (.t r (.t r (.t r .n))) d ⟨(a4,c,true),r,hd⟩)))
     exact .P 98304 r (.F (.C 5 28672 r (.K (B7 r (.t r (.t r (.t r .n))) d ⟨(e,c,false),r,hd⟩))))
   exact .C 4 70368744275984 r (.drop .z (.drop .z (.j r r (.P 98304 r (.F (.C 5 28672 r (.K (B7 r (.t r (.t r (.t r .n))) d ⟨(e,c,false),r,hd⟩))))))))
 refine .F (.C 2 562950221955324 r (.A r hd (λB hd=>?_) λB hd=>?_))
 . exact .F (.C 7 28672 r (.drop .z (.drop .z (.K (B7 r (.t r (.t r (.t r .n))) d ⟨(a4,c,a4 != 0),r,hd⟩)))))
 refine .F (.C 2 36028797019062524 r (.A r hd (λC hd=>?_) λC hd=>?_))
 . refine .E (.F (.C 3 144115188075954428 r (.A r hd (λD hd=>?_) λD hd=>?_)))
   . exact .P 98304 r (.drop .z (.drop .z (.F (.C 5 28672 r (.K (B7 r (.t r (.t r (.t r .n))) d ⟨(e,c,false),r,hd⟩))))))
   refine .B (.jn hd [16,15,7,6,5,4,3,2] MF r (λj E l i=>j ((60,.bool i) :: E) l) (λa7 hd=>?_) ?_)
   . refine .D (.G 4 r (.T hd [63,64] r (λF hd=>?_) λF hd=>?_))
     . exact .G 3 r (.H (je a5 hd rf MF r))
     exact .G 3 r (.H (je false hd rf MF r))
   refine λi hd=>jq r λU G=>?_;have⟨f,R3,R5⟩:=G.u3 d R3 R5;refine .A r hd (λH hd=>?_) λH hd=>?_
   . exact .F (.C 4 28672 r (.drop .z (.drop .z (.K (B7 r (.t r (.t r (.t r .n))) f ⟨(2,c,false),r,hd⟩)))))
   refine .B (.dr [0,1,2,3,4,5,6,7,8,9,11,12,13,14,10,15,16,17,18,19] 20 (.J 4 r ?_));refine CR hd (λb hd=>?_) λb hd=>?_
   . refine .h r (.Q r r b (.AC r r r .mk)) (.h r (.Q r r b (.not r r r .mk)) (.h r (.Q r r b (.AC r r r .mk)) ?_));refine CR hd (λa hd=>?_) λa hd=>?_
     . refine .gn r a (.gn r a (.gn r a (.gn r a (.gn r a (.gn r a (.gn r a (.gn r a (.gn r a (.gn r a ?_)))))))));refine .h r (.Q r r b (.pickT r a r r r .mk)) (.h r (.pickT r b r r r .mk) (.J 1 r (.e2 20 (.M 295147905179352924160 r (.drop .z (.drop .z (.L r r (.F (.C 4 28672 r ?_)))))))));exact .K (B7 r (.t r (.t r (.t r .n))) f ⟨(1,c,true),r,hd⟩)
     refine .h r (.Q r r a (.AC r r r .mk)) (.h r (.Q r r a (.S QF QD .z r .mk)) (.h r (.Q r r a (.AC r r r .mk)) (.h r (.Q r r a (.fo fF 0 r DD .mk)) (.h r (.Q r r a (.I AJ .p1 r .mk)) (.h r (.Q r r a (.AC r r r .mk)) (.h r (.Q r r a (.add r r r r .mk)) (.Y r ?_)))))));refine .Q r r a (.AE call352 r (rA (I:=U) hd:) r r λa8 K=>?_);obtain⟨a9,rfl,hd⟩:=K;refine .q 2 r (.X r (.Q r r a (.add r r r r .mk)) (.X r (.Q r r a (.AC r r r .mk)) (.X r (.Q r r a (.I AJ .p1 r .mk)) (.X r (.Q r r a (.fo fF 0 r DD .mk)) (.X r (.Q r r a (.S QF QD .z r .mk)) (.X r (.Q r r a (.AC r r r .mk)) tv)))))) (.Y r ?_);refine .Q r r a (.AE call351 r (gT R3 hd:) r r λb0 N=>?_);obtain⟨b1,rfl,hd⟩:=N;refine .q 2 r (.X r (.Q r r a (.AC r r r .mk)) tv) (.h r (.Q r r a (.gt r r r r .mk)) (.h r (.Q r r b (.pickF r a r r r .mk)) (.h r (.pickT r b r r r .mk) (.J 1 r (.e2 20 (.M 295147905179352924160 r (.drop .z (.drop .z (.A r hd (λO hd=>?_) λO hd=>?_)))))))))
     . exact .F (.C 4 28672 r (.K (B7 r (.t r (.t r (.t r .n))) f ⟨(1,c,true),r,hd⟩)))
     exact .P 98304 r (.F (.C 5 28672 r (.K (B7 r (.t r (.t r (.t r .n))) f ⟨(e,c,false),r,hd⟩))))
   refine .gn r b (.gn r b (.gn r b (.J 10 r (.gn r b (.h r (.pickF r b r r r .mk) (.J 1 r (.e2 20 (.M 295147905179352924160 r (.drop .z ?_)))))))));exact .drop .z (.j r r (.P 98304 r (.F (.C 5 28672 r (.K (B7 r (.t r (.t r (.t r .n))) f ⟨(e,c,false),r,hd⟩))))))
 exact .P 98304 r (.drop .z (.drop .z (.F (.C 5 28672 r (.K (B7 r (.t r (.t r (.t r .n))) d ⟨(e,c,false),r,hd⟩))))))
theorem jP {o0 o1 a0 Q} (h:RepSl AV I p4 c5 o0.Draws) (d:PX o0 o1 a0 Q) :
  Fun prog 188 #[vi a0,vp b3,vp b7] I [pc b3 (M9 o0 p4 c5) 56,pc b7 #[vi o1] 3] (λ_ v l=>∃ r,v=.tuple #[vi r.1,vi r.2.1,.bool r.2.2]∧l=[pc b3 (M9 o0 p4 c5) 56,pc b7 #[vi o1] 3]∧Q r):=by
 exact Fun.ee func188 ntmps188 r (.N 3 r (.ns 7 r (.S QF QD .z r (.I AJ .p1 r (.G 2 r (.u call189 (AcV h d:) r λb d=>.G 5 r (.U 390 5 r (.M 118 r (.K (DX r (.t r (.t r (.t r .n))) rf (.o MF r) ⟨(b.1,(-1),b.2),r,r,d⟩))))))))))
theorem jQ {o0 o1 a0 a1 Q} (R6:RepSl AV I p4 c5 o0.Draws) (R9:iE I gg8 a0) (hd:PY o0 o1 a0 a1 Q) :
  Fun prog 187 #[.agg (GW a0 gg8),vi a1,.func (.func 188) #[] #[vp b3,vp b7]] I [pc b3 (M9 o0 p4 c5) 56,pc b7 #[vi o1] 3] (fun I_ v l=>∃ r gg10,v=.agg (GW r gg10)∧iE I_ gg10 r∧l=[pc b3 (M9 o0 p4 c5) 56,pc b7 #[vi o1] 3]∧Q r):=by
 refine Fun.ee func187 ntmps187 r ?_
 refine .F (.bx r fun c9=>?_)
 refine .al O4 r fun d0=>?_
 refine .U 78 1 r (.I AJ .p1 r (.G 1 r (.I AJ .p1 r (.bd O4 fF lV r (.al O4 r fun a5=>?_)))))
 refine .R DH .z r (.M 198 r (.drop .p2 (.F (.C 1 454 r (.B (.F (.C 2 786886 r (.E (.own0 AV 2 ?_)))))))))
 refine .own0 AV 2 (.own0 AV 3 (.lx hd [18,7,6,2,1] [5,5,4] r (fun j E l (e,f,h,g)=>fun c w=>∃ m p q s t u,j ⟨52,[],none⟩ (fun I_=>True) ((8,.slice t h.length u) :: (19,vi g) :: E) (pc a5 #[vi a0.Low,vi a0.High,.slice m e.length p,.slice q f.length s,.slice none 0 0] 63 :: OwnSl AV 2 m p e :: OwnSl AV 2 q s f :: OwnSl AV 3 t u h :: l) c w) (fun c w ho hs=>⟨_,_,_,_,_,_,jf rf tv [3,2,1,0,1,1,0] r ho hs⟩) ?_))
 rintro ⟨e,f,h,g⟩ a4 hd c w ⟨m,p,q,s,t,u,a6,k,_,hok,hsym⟩
 have R6:=k.u1 R6
 refine Cod.at hok hsym (.F (.C 1 1835462 r (.B (.A r hd (fun D hd=>?_) fun D hd=>?_))))
 · refine .P 786886 r (.B (.E (.N 2 r (.U 787398 2 r ?_))))
   refine .cS (.c call188 r r) (.o [4,4] r) r (jP (b3:=b3) (b7:=b7) R6 hd:) fun a7 a8 a9 G H=>?_
   obtain ⟨d,rfl,rfl,hd⟩:=H
   obtain ⟨C,R6⟩:=G.u2 k R6
   refine .rn 7 r (.C 7 794566 r (.B (.dr [0,1,2,5,6,7,8,3,4,10,999,9,11] 12 (.J 1 r (.V FK 2 r (.J 2 r (.V FK 2 r (.J 1 r (.a (fun b=>.slice (some ⟨b,0,none⟩) 1 1) (fun b=>pc b #[vi d.2.1] 2) r r r r (fun _ L hL ex=>.bs 1 CA MO zv2 r fun b=>.mk (val:=fun b=>.slice (some ⟨b,0,none⟩) 1 1) (atom:=fun b=>pc b #[vi d.2.1] 2) hL b) ?_)))))))))
   refine .Y r ?_
   refine .bs 1 CA MO zv2 r fun b0=>?_
   refine .q 8 r (.Z 1 r r (.X r (.I FK .p3 r .mk) (.Z 1 r r (.X r (.I FK .p3 r .mk) (.Z 1 r r tv))))) (.Y r ?_)
   obtain ⟨J,hd⟩:=hd
   refine .ap (ys:=[d.1]) .p4 CA CA IN2 r (.box .z (.one r) r) J fun b1 b2=>?_
   refine .q 8 r (.Z 1 r r (.X r (.I FK .p4 r .mk) (.Z 1 r r tv))) (.J 1 r (.b r fun b4=>DrawD.nop ?_))
   refine .Y r ?_
   obtain ⟨K,hd⟩:=hd
   refine .ap (ys:=[d.2.1]) .p5 CA CA IN2 r (.box .p8 (.one r) r) K fun b5 b6=>?_
   refine .q 9 r (.Z 1 r r tv) (.Y r ?_)
   refine .s1 sizeOf27 .p5 r (.P 9 r r r tv (.e2 12 (.G 1 r (.s1 sizeOf27 .p5 r (.M 791494 r (.drop .p2 (.drop .p7 (.F (.C 1 2199024042950 r ?_)))))))))
   refine .A r hd (fun N hd=>?_) fun N hd=>?_
   · refine .D (.G 2 r (.bs 1 BD DD nT r fun b8=>?_))
     obtain ⟨O,hd⟩:=hd
     refine .ap (ys:=[g]) .p6 BD BD IN3 r (.box .z (.one r) r) O fun b9 c0=>?_
     exact .C 1 786886 r (.drop .p1 (.D (.G 2 r (.H fun c w ho hs=>⟨_,hd,_,_,_,_,_,_,jf C tv [5,2,1,0,0,0,0] r ho hs⟩))))
   exact .P 786886 r (.D (.G 2 r (.H fun c w ho hs=>⟨_,hd,_,_,_,_,_,_,jf C tv [4,1,0,2,0,0,0] r ho hs⟩)))
 refine .en 454 r (.N 2 r (.pub .p3 fun c1 P x=>?_))
 obtain ⟨R,R6⟩:=P.u2 k R6
 refine .ca call27 r (UV x hd:) fun c2 c3 T U=>?_
 obtain ⟨a2,c4,c6,rfl,i,hd⟩:=U
 obtain ⟨V,R6,x⟩:=T.u3 R R6 x
 refine .G 1 r (.s1 sizeOf40 .z r (.ns 196 r (.S JY DH .z r (.R DH .p5 r (.M 68 r (.drop .z (.pub .p1 fun c7 W y=>?_)))))))
 obtain ⟨X,R6,i⟩:=W.u3 V R6 i
 refine .pub .z fun c8 Y a3=>?_
 obtain ⟨Z,R6,i,y⟩:=Y.u4 X R6 i y
 exact .K (DX r (.w JY DH r .p2 r .n) Z (.o MF r) ⟨({ a0 with A:=e,B:=f,On:=a2 }:State),((_,_),(_,_),(_,_)),r,⟨a3,y,i⟩,r,hd⟩)
theorem AcW {a0 a1 a2 Q} (R3:RepSl AV I p1 c2 a0.Draws) (hd:YT a0 a1 a2 Q) :
  B6 prog 143 [.agg (M9 a0 p1 c2),vi a1,vi a2] I (λI_ v=>∃ r gg4,v=.agg (GW r gg4)∧iE I_ gg4 r∧Q r):=by
 refine Fun.ee func143 ntmps143 r ?_;refine .F (.bx r λk=>?_);refine .box1 r r r r λl=>?_;refine .al O4 r λq=>?_;refine .M 92 r (.B (.F (.S QF QD .p2 r ?_)));refine .u call164 (ZC R3 hd:) r λs hd=>?_;refine .G 2 r (.T hd [10,11] r (λc hd=>?_) λc hd=>?_)
 . exact .C 14 33554524 r (.L r r (.F (.bd O4 fF lV r (.R DH .z r (.M 64 r (.drop .p1 (.drop .p1 (.K (B7 r (.w JY DH r .z r .n) rf ⟨G3,((_,_),(_,_),(_,_)),r,⟨(.nil _ _ _),(.nil _ _ _),(.nil _ _ _)⟩,hd⟩)))))))))
 refine .O r (.I AJ .p1 r (.G 3 r (.T hd [13,14,15] r (λd hd=>?_) λd hd=>?_)))
 . exact .C 10 33554524 r (.L r r (.F (.bd O4 fF lV r (.R DH .z r (.M 64 r (.drop .p1 (.drop .p1 (.K (B7 r (.w JY DH r .z r .n) rf ⟨G3,((_,_),(_,_),(_,_)),r,⟨(.nil _ _ _),(.nil _ _ _),(.nil _ _ _)⟩,hd⟩)))))))))
 refine .G 1 r (.O r (.I AJ .p1 r (.G 3 r (.T hd [18,19,20] r (λe hd=>?_) λe hd=>?_))))
 . exact .C 5 33554524 r (.L r r (.F (.bd O4 fF lV r (.R DH .z r (.M 64 r (.drop .p1 (.drop .p1 (.K (B7 r (.w JY DH r .z r .n) rf ⟨G3,((_,_),(_,_),(_,_)),r,⟨(.nil _ _ _),(.nil _ _ _),(.nil _ _ _)⟩,hd⟩)))))))))
 refine .G 2 r (.O r (.I AJ .p2 r (.C 2 33554524 r (.A r hd (λg hd=>?_) λg hd=>?_))))
 . exact .F (.bd O4 fF lV r (.R DH .z r (.M 64 r (.drop .p1 (.drop .p1 (.K (B7 r (.w JY DH r .z r .n) rf ⟨G3,((_,_),(_,_),(_,_)),r,⟨(.nil _ _ _),(.nil _ _ _),(.nil _ _ _)⟩,hd⟩)))))))
 refine .P 92 r (.F (.I AJ .p1 r (.G 1 r (.bd O4 fF lV r (.al O4 r λt=>?_)))));refine .R DH .z r (.ns 220 r (.S JY DH .z r (.G 1 r (.I AJ .p2 r (.G 1 r (.mkFn r r r r ?_))))));refine .cS (.f call187 r) (.o [3,2] r) r (jQ (I:=I) (a0:=({ Low:=a1,High:=a2,A:=([]:List Int),B:=([]:List Int),On:=([]:List Int) }:State)) (gg8:=((_,_),(_,_),(_,_))) (b3:=k) (p4:=p1) (c5:=c2) (b7:=l) R3 ⟨(.nil _ none 0),(.nil _ none 0),(.nil _ none 0)⟩ hd:) λu x y a i=>?_;obtain⟨m,j,rfl,p,rfl,hd⟩:=i;have R3:=a.u1 R3;exact .rn 4 r (.R DH .p3 r (.M 64 r (.drop .z (.drop .z (.drop .z (.K (B7 r (.w JY DH r .z r .n) a ⟨m,j,r,p,hd⟩)))))))
theorem nL {o0 o1 o2 o3 a0 Q} (d:N8 o0 o1 o2 o3 a0 Q) :
  Fun prog 273 #[vi a0,vp b5,vp b6,vp b7,vp b8] I [pc b5 #[vi o0] 3,pc b6 #[vi o1] 3,pc b7 #[vi o2] 3,pc b8 #[vi o3] 3] (λ_ v l=>∃ r,v=vi r∧l=[pc b5 #[vi o0] 3,pc b6 #[vi o1] 3,pc b7 #[vi o2] 3,pc b8 #[vi o3] 3]∧Q r):=by
 refine Fun.ee func273 ntmps273 r (.F (.C 1 31 r (.B (.dr [0,1,2,4,5,6,9,3,7,8,999] 10 (.V AJ 0 r (.V AJ 1 r (.J 1 r (.V AJ 0 r (.V AJ 2 r (.V AJ 3 r (.aP aI r (.Y r (.u call183 (IZ (I:=I) d:) r λ_ d=>?_)))))))))))));refine .q 4 r (.X r (.I AJ .p3 r .mk) (.X r (.I AJ .p2 r .mk) (.X r (.I AJ .z r .mk) tv))) (.Y r (.u call183 (IZ (I:=I) d:) r λ_ d=>.q 4 r tv (.Y r (.u call274 (cZ (I:=I) d:) r λc d=>.q 4 r tv (.b r λ_=>DrawD.nop ?_)))));exact .e2 10 (.R fH .p4 r (.ns 158 r (.AA (i:=1) S7 DD r r (by decide) (o:=1) r r r (.I AJ .p4 r (.AA (i:=0) S7 DD r r (by decide) (o:=0) r r r (.I AJ .p4 r (.C 2 94 r (.drop .p4 (.q1 results273 rf VA r ⟨(A4 (c.2 - c.1)),r,r,d⟩)))))))))
theorem nM {o0 o1 o2 o3 a0 a1 Q} (R11:RepSl fE I p9 c10 a0) (hd:S3 o0 o1 o2 o3 a0 a1 Q) :
  Fun prog 272 #[.slice p9 a0.length c10,vi a1,.func (.func 273) #[] #[vp b5,vp b6,vp b7,vp b8]] I [pc b5 #[vi o0] 3,pc b6 #[vi o1] 3,pc b7 #[vi o2] 3,pc b8 #[vi o3] 3] (λI_ v l=>∃ r p12 c13,v=.tuple #[.agg #[vi r.1.N,.slice p12 r.1.Items.length c13],vi r.2]∧RepSl CF I_ p12 c13 r.1.Items∧l=[pc b5 #[vi o0] 3,pc b6 #[vi o1] 3,pc b7 #[vi o2] 3,pc b8 #[vi o3] 3]∧Q r):=by
 refine Fun.ee func272 ntmps272 r ?_;refine .F (.al CG r λa5=>?_);refine .C 1 71 r (.B (.N 1 r (.ln qP r (.C 2 8261 r (.A r hd (λD hd=>?_) λD hd=>?_)))))
 . exact .F (.bd CG F5 GY r (.R AM .z r (.C 1 196 r (.K (DX r (.w BK AM r .z r (.t r .n)) rf (.o [1,1,1,1] r) ⟨(CL,4),_,_,r,(.nil _ none 0),r,hd⟩)))))
 refine .P 69 r (.B (.N 1 r (.ln qP r (.C 1 229445 r (.E (.lp hd [16,15,6,2,0] [1,1,1,1,0] r (λj E l d=>j ((17,vi d) :: E) l) (ji rf [1,1,1,1,0] r) ?_))))));refine λd K hd=>jq r λF b=>?_;have R11:=b.u1 R11;refine .F (.C 1 491589 r (.B (.A r hd (λk hd=>?_) λk hd=>?_)))
 . refine .P 229445 r (.B (.E (.N 1 r ?_)));have⟨G,O,f,hd⟩:=hd;obtain⟨P,o131,L,H,m,R,S,rfl,e⟩:=R11.2 _ _ f;refine .W qP AM H G f r (.ldW BK AM m r r r r (.al CG r λT=>?_));refine .G 1 r (.R AM .z r (.M 230213 r (.B (.dr nl5 11 (.h r (.S BK AM .z r .mk) (.Y r ?_))))));refine .u call270 (FS e hd:) r λU hd=>?_;refine .q 6 r tv (.J 2 r ?_);refine CR hd (λa hd=>?_) λa hd=>?_
   . refine .gn r a (.gn r a (.gn r a (.gn r a (.gn r a (.gn r a (.h r (.pickT r a r r r .mk) (.e2 11 (.M 4295196741 r (.drop .z ?_)))))))));exact .L r r (.F (.bd CG F5 GY r (.R AM .p4 r (.C 1 196 r (.K (DX r (.w BK AM r .p4 r (.t r .n)) b (.o VA r) ⟨(CL,4),_,_,r,(.nil _ none 0),r,hd⟩))))))
   refine .h r (.Q r r a (.fo F5 0 r DD .mk)) (.h r (.Q r r a (.I AJ .z r .mk)) (.h r (.Q r r a (.AC r r r .mk)) (.h r (.Q r r a (.AC r r r .mk)) (.Y r ?_))));refine .Q r r a (.cS (.c call273 r r) (.o [1,1,1,1] r) r (nL (I:=F) (b5:=b5) (b6:=b6) (b7:=b7) (b8:=b8) hd:) λV W X s u=>?_);obtain⟨Y,rfl,rfl,hd⟩:=u;have⟨g,R11,e⟩:=s.u3 b R11 e;refine .rx 6 r (.q 6 r (.X r (.Q r r a (.I AJ .p4 r .mk)) (.X r (.Q r r a (.fo F5 0 r DD .mk)) tv)) (.h r (.Q r r a (.ne r r r r .mk)) (.h r (.pickF r a r r r .mk) (.e2 11 (.M 4295196741 r (.drop .p4 (.A r hd (λx hd=>?_) λx hd=>?_)))))))
   . exact .F (.bd CG F5 GY r (.R AM .p4 r (.C 1 196 r (.K (DX r (.w BK AM r .p4 r (.t r .n)) g (.o VA r) ⟨(CL,4),_,_,r,(.nil _ none 0),r,hd⟩)))))
   exact .P 229445 r (.D (.G 2 r (.H (je (A4 (d+1)) hd g nl9 r))))
 refine .en 69 r (.N 1 r ?_);refine .ca call312 r (AcO R11 hd:) λZ a2 A B=>?_;obtain⟨i,a3,a4,rfl,J,hd⟩:=B;have⟨C,R11⟩:=A.u2 b R11;exact .G 2 r (.R AM .p4 r (.C 1 196 r (.K (DX r (.w BK AM r .p4 r (.t r .n)) C (.o VA r) ⟨(i.1,i.2),_,_,r,J,r,hd⟩))))
theorem AfT {a0 a1 a2 a3 a4 Q} (R3:RepSl fE I p1 c2 a4) (hd:eH a0 a1 a2 a3 a4 Q) :
  B6 prog 242 [vi a0,vi a1,vi a2,vi a3,.slice p1 a4.length c2] I (AvR Q):=by
 refine Fun.ee func242 ntmps242 r ?_;refine .F (.box1 r r r r λk=>?_);refine .box1 r r r r λl=>?_;refine .box1 r r r r λm=>?_;refine .box1 r r r r λp=>?_;refine .al CG r λs=>?_;refine .C 1 1520 r (.B (.F (.I AJ .p4 r ?_)));refine .u call271 (cV (I:=I) hd:) r λu hd=>?_;refine .G 2 r (.T hd [14,15] r (λd hd=>?_) λd hd=>?_)
 . refine .C 6 2098672 r (.L r r (.F (.bd CG F5 GY r (.R AM .z r (.C 1 3072 r (.drop .p1 (.drop .p1 (.drop .p1 (.drop .p1 ?_)))))))));exact .K (B7 r (.w BK AM r .z r (.t r .n)) rf ⟨(CL,3),_,_,r,(.nil _ _ _),hd⟩)
 refine .O r (.I AJ .p3 r (.O r (.I AJ .p2 r (.O r (.I AJ .p1 r ?_)))));refine .O r (.AE call181 r (ZD (I:=I) hd:) r r λv g=>?_);obtain⟨x,rfl,hd⟩:=g;refine .C 2 2098672 r (.A r hd (λh hd=>?_) λh hd=>?_)
 . exact .F (.bd CG F5 GY r (.R AM .z r (.C 1 3072 r (.drop .p1 (.drop .p1 (.drop .p1 (.drop .p1 (.K (B7 r (.w BK AM r .z r (.t r .n)) rf ⟨(CL,3),_,_,r,(.nil _ _ _),hd⟩)))))))))
 refine .P 1520 r (.N 1 r (.I AJ .p3 r (.mkFn r r r r ?_)));refine .cS (.f call272 r) (.o [4,3,2,1] r) r (nM (b5:=k) (b6:=l) (b7:=m) (b8:=p) R3 hd:) λy A B a j=>?_;obtain⟨b,C,D,rfl,q,rfl,hd⟩:=j;have R3:=a.u1 R3;exact .rn 5 r (.G 2 r (.R AM .p4 r (.C 1 3072 r (.drop .z (.drop .z (.drop .z (.drop .z (.K (B7 r (.w BK AM r .z r (.t r .n)) a ⟨(b.1,b.2),_,_,r,q,hd⟩)))))))))
theorem ZK {a0 Q} (R2:lTk I gk1 a0) (hd:LC a0 Q) :
  Fun prog 282 #[.agg (YV a0 gk1)] I [] (λI_ v l=>∃ r p3 c4,v=.tuple #[.slice p3 r.1.length c4,vi r.2]∧RepSl EV I_ p3 c4 r.1∧l=[]∧Q r):=by
 refine Fun.ee func282 ntmps282 r ?_;refine .F (.bx r λx=>?_);refine .C 2 2 r (.B (.dr [0,1,2,3,4,5,7,8,9,10,6,11,12,13] 14 (.J 1 r (.V isAgg109 0 r (.J 1 r (.h r (.y D0 BL r .z (.o 5 r) r r r .mk) (.J 1 r (.h r (.y isAgg326 sizeOf326 r .z (.o 6 r) r r r .mk) (.J 1 r ?_)))))))));refine .V QE 0 r (.J 1 r (.V ia4 0 r (.Y r ?_)));refine .ca call319 r (wM R2.2.2.1 hd:) λp y b e=>?_;obtain⟨A,m,rfl,a,hd⟩:=e;have R2:=b.u1 R2;refine .q 1 r (.X r (.I ia4 .z r .mk) (.Z 1 r r (.X r (.I QE .z r .mk) (.Z 1 r r (.X r (.y D0 BL r .z (.o 5 r) r r r .mk) (.Z 1 r r (.X r (.I isAgg109 .z r .mk) (.Z 1 r r tv)))))))) (.Y r ?_);refine .ca call318 r (AfR R2.1 a R2.2.2.2 hd:) λq s g i=>?_;obtain⟨c,u,w,rfl,k,hd⟩:=i;have⟨j,R2,a⟩:=g.u3 b R2 a;exact .q 1 r tv (.J 2 r (.e2 14 (.C 2 12 r (.drop .z (.K (DX r (.t r (.t r .n)) j .n ⟨(c.1,c.2),_,_,r,k,r,hd⟩))))))
theorem ZL {a0 Q} (R2:lTk I gk1 a0) (hd:LD a0 Q) :
  Fun prog 281 #[.agg (YV a0 gk1)] I [] (λI_ v l=>∃ r p3 c4,v=.tuple #[.slice p3 r.1.length c4,vi r.2]∧RepSl EV I_ p3 c4 r.1∧l=[]∧Q r):=by
 refine Fun.ee func281 ntmps281 r ?_;refine .F (.bx r λy=>?_);refine .C 2 2 r (.B (.dr [0,1,2,3,4,5,7,8,9,10,6,11,12,13] 14 (.J 1 r (.V isAgg109 0 r (.J 1 r (.h r (.y HI EG r .z (.o 6 r) r r r .mk) (.J 1 r (.h r (.y isAgg326 sizeOf326 r .z (.o 6 r) r r r .mk) (.J 1 r ?_)))))))));refine .V QE 0 r (.J 1 r (.V ia4 0 r (.Y r ?_)));refine .ca call279 r (ZG R2.2.2.1 hd:) λm A b e=>?_;obtain⟨B,p,q,rfl,a,hd⟩:=e;have R2:=b.u1 R2;refine .q 1 r (.X r (.I ia4 .z r .mk) (.Z 1 r r (.X r (.I QE .z r .mk) (.Z 1 r r (.X r (.y HI EG r .z (.o 6 r) r r r .mk) (.Z 1 r r (.X r (.I isAgg109 .z r .mk) (.Z 1 r r tv)))))))) (.Y r ?_);refine .ca call317 r (AfP R2.2.1 a R2.2.2.2 hd:) λs u g i=>?_;obtain⟨c,w,x,rfl,k,hd⟩:=i;have⟨j,R2,a⟩:=g.u3 b R2 a;exact .q 1 r tv (.J 2 r (.e2 14 (.C 2 12 r (.drop .z (.K (DX r (.t r (.t r .n)) j .n ⟨(c.1,c.2),_,_,r,k,r,hd⟩))))))
theorem yE {a0 Q} (R2:lTk I gk1 a0) (hd:VZ a0 Q) :
  B6 prog 246 [.agg (YV a0 gk1)] I (λI_ v=>∃ r p3 c4,v=.tuple #[.slice p3 r.1.length c4,vi r.2.1,vi r.2.2]∧RepSl EV I_ p3 c4 r.1∧Q r):=by
 refine Fun.ee func246 ntmps246 r ?_;refine .F (.bx r λZ=>?_);refine .C 3 2 r (.B (.dr [0,1,2,3,4,5,8,9,6,7,10,11] 12 (.J 1 r (.V isAgg222 0 r (.J 1 r (.h r (.y HI EG r .z (.o 6 r) r r r .mk) (.J 1 r (.h r (.y isAgg326 sizeOf326 r .z (.o 6 r) r r r .mk) (.J 1 r ?_)))))))));refine .h r (.y D0 BL r .z (.o 5 r) r r r .mk) (.Y r ?_);refine .ca call279 r (ZG R2.2.2.1 hd:) λG D a k=>?_;obtain⟨H,J,K,rfl,E,hd⟩:=k;have R2:=a.u1 R2;refine .q 1 r (.X r (.y D0 BL r .z (.o 5 r) r r r .mk) (.Z 1 r r (.X r (.y HI EG r .z (.o 6 r) r r r .mk) (.Z 1 r r (.X r (.I isAgg222 .z r .mk) (.Z 1 r r tv)))))) (.Y r ?_);refine .u call278 (AfH R2.2.1 E hd:) r λL hd=>?_;refine .q 1 r (.X r (.y D0 BL r .z (.o 5 r) r r r .mk) (.Z 1 r r (.X r (.I isAgg222 .z r .mk) (.Z 1 r r tv)))) (.Y r ?_);refine .u call280 (AfI R2.1 hd:) r λN hd=>?_;refine .q 1 r (.X r (.I isAgg222 .z r .mk) (.Z 1 r r tv)) (.Y r ?_);refine .u call277 (jI (I:=D) hd:) r λi hd=>?_;refine .q 1 r tv (.e2 12 (.G 1 r (.ns 34 r (.S isAgg329 sizeOf329 .z r (.mkFn r r r r (.C 1 98 r (.B (.F (.C 2 16777314 r ?_)))))))));refine .A r hd (λq hd=>?_) λq hd=>?_
 . refine .D (.S isAgg329 sizeOf329 .z r (.mkFn r r r r (.C 1 96 r (.drop .z (.N 1 r ?_)))));refine .cS (.c call282 r r) .n r (ZK R2 hd:) λO P R u w=>?_;obtain⟨d,S,T,rfl,F,rfl,hd⟩:=w;have⟨e,R2⟩:=u.u2 a R2;refine .rn 0 r (.C 5 416 r (.B (.F (.C 2 8589935008 r (.A r hd (λx hd=>?_) λx hd=>?_)))))
   . exact .F (.C 4 28 r (.K (B7 r (.t r (.t r (.t r .n))) e ⟨(([]:List BM),0,d.2),_,_,r,(.nil _ _ _),hd⟩)))
   exact .P 416 r (.F (.C 6 28 r (.K (B7 r (.t r (.t r (.t r .n))) e ⟨(d.1,i,d.2),_,_,r,F,hd⟩))))
 refine .P 96 r (.drop .z (.N 1 r ?_));refine .cS (.c call281 r r) .n r (ZL R2 hd:) λU V W A B=>?_;obtain⟨f,X,Y,rfl,C,rfl,hd⟩:=B;have⟨b,R2⟩:=A.u2 a R2;refine .rn 0 r (.C 5 416 r (.B (.F (.C 2 8589935008 r (.A r hd (λg hd=>?_) λg hd=>?_)))))
 . exact .F (.C 4 28 r (.K (B7 r (.t r (.t r (.t r .n))) b ⟨(([]:List BM),0,f.2),_,_,r,(.nil _ _ _),hd⟩)))
 exact .P 416 r (.F (.C 6 28 r (.K (B7 r (.t r (.t r (.t r .n))) b ⟨(f.1,i,f.2),_,_,r,C,hd⟩))))
theorem fP {o0 o1 o2 o3 a0 Q} (h:RepSl CF I p6 c7 o0.Items) (D:RepSl AV I p10 c11 o1.Draws) (J:iE I gg14 o2) (d:OO o0 o1 o2 o3 a0 Q) :
  Fun prog 325 #[vi a0,vp b5,vp b9,vp b13,vp b16] I [pc b5 #[vi o0.N,.slice p6 o0.Items.length c7] 235,pc b9 (M9 o1 p10 c11) 56,pc b13 (GW o2 gg14) 63,pc b16 #[vi o3] 3] (λ_ v l=>∃ r,v=.tuple #[vi r.1,vi r.2.1,.bool r.2.2]∧l=[pc b5 #[vi o0.N,.slice p6 o0.Items.length c7] 235,pc b9 (M9 o1 p10 c11) 56,pc b13 (GW o2 gg14) 63,pc b16 #[vi o3] 3]∧Q r):=by
 refine Fun.ee func325 ntmps325 r (.N 3 r (.ns 31 r (.S BK AM .z r (.G 1 r (.u call326 (AfS h d:) r λ_ d=>.G 5 r (.ns 1567 r (.S QF QD .p1 r (.S JY DH .p2 r (.I AJ .p3 r (.G 3 r (.u call327 (yD D J d:) r λa d=>?_)))))))))));exact .C 6 478 r (.K (DX r (.t r (.t r (.t r .n))) rf (.o VA r) ⟨(a.1,a.2.1,a.2.2),r,r,d⟩))
theorem jR {o0 o1 o2 o3 a0 a1 Q} (R8:RepSl CF I p6 c7 o0.Items) (R12:RepSl AV I p10 c11 o1.Draws) (R15:iE I gg14 o2) (R18:iE I gg17 a0) (hd:M1 o0 o1 o2 o3 a0 a1 Q) :
  Fun prog 187 #[.agg (GW a0 gg17),vi a1,.func (.func 325) #[] #[vp b5,vp b9,vp b13,vp b16]] I [pc b5 #[vi o0.N,.slice p6 o0.Items.length c7] 235,pc b9 (M9 o1 p10 c11) 56,pc b13 (GW o2 gg14) 63,pc b16 #[vi o3] 3] (fun I_ v l=>∃ r gg19,v=.agg (GW r gg19)∧iE I_ gg19 r∧l=[pc b5 #[vi o0.N,.slice p6 o0.Items.length c7] 235,pc b9 (M9 o1 p10 c11) 56,pc b13 (GW o2 gg14) 63,pc b16 #[vi o3] 3]∧Q r):=by
 refine Fun.ee func187 ntmps187 r ?_
 refine .F (.bx r fun d0=>?_)
 refine .al O4 r fun d1=>?_
 refine .U 78 1 r (.I AJ .p1 r (.G 1 r (.I AJ .p1 r (.bd O4 fF lV r (.al O4 r fun a6=>?_)))))
 refine .R DH .z r (.M 198 r (.drop .p2 (.F (.C 1 454 r (.B (.F (.C 2 786886 r (.E (.own0 AV 2 ?_)))))))))
 refine .own0 AV 2 (.own0 AV 3 (.lx hd [18,7,6,2,1] [5,5,5,5,4] r (fun j E l (e,f,h,g)=>fun c w=>∃ m p q s t u,j ⟨52,[],none⟩ (fun I_=>True) ((8,.slice t h.length u) :: (19,vi g) :: E) (pc a6 #[vi a0.Low,vi a0.High,.slice m e.length p,.slice q f.length s,.slice none 0 0] 63 :: OwnSl AV 2 m p e :: OwnSl AV 2 q s f :: OwnSl AV 3 t u h :: l) c w) (fun c w ho hs=>⟨_,_,_,_,_,_,jf rf tv [3,2,1,0,1,1,1,1,0] r ho hs⟩) ?_))
 rintro ⟨e,f,h,g⟩ a5 hd c w ⟨m,p,q,s,t,u,a7,k,_,hok,hsym⟩
 obtain ⟨R8,R12,R15⟩:=k.u3 R8 R12 R15
 refine Cod.at hok hsym (.F (.C 1 1835462 r (.B (.A r hd (fun D hd=>?_) fun D hd=>?_))))
 · refine .P 786886 r (.B (.E (.N 2 r (.U 787398 2 r ?_))))
   refine .cS (.c call325 r r) (.o [4,4,4,4] r) r (fP (b5:=b5) (b9:=b9) (b13:=b13) (b16:=b16) R8 R12 R15 hd:) fun a8 a9 T G H=>?_
   obtain ⟨d,rfl,rfl,hd⟩:=H
   obtain ⟨C,R8,R12,R15⟩:=G.u4 k R8 R12 R15
   refine .rn 9 r (.C 7 794566 r (.B (.dr [0,1,2,5,6,7,8,3,4,10,999,9,11] 12 (.J 1 r (.V FK 4 r (.J 2 r (.V FK 4 r (.J 1 r (.a (fun b=>.slice (some ⟨b,0,none⟩) 1 1) (fun b=>pc b #[vi d.2.1] 2) r r r r (fun _ L hL ex=>.bs 1 CA MO zv2 r fun b=>.mk (val:=fun b=>.slice (some ⟨b,0,none⟩) 1 1) (atom:=fun b=>pc b #[vi d.2.1] 2) hL b) ?_)))))))))
   refine .Y r ?_
   refine .bs 1 CA MO zv2 r fun b1=>?_
   refine .q 10 r (.Z 1 r r (.X r (.I FK .p5 r .mk) (.Z 1 r r (.X r (.I FK .p5 r .mk) (.Z 1 r r tv))))) (.Y r ?_)
   obtain ⟨J,hd⟩:=hd
   refine .ap (ys:=[d.1]) .p6 CA CA IN2 r (.box .z (.one r) r) J fun b2 b3=>?_
   refine .q 10 r (.Z 1 r r (.X r (.I FK .p6 r .mk) (.Z 1 r r tv))) (.J 1 r (.b r fun b4=>DrawD.nop ?_))
   refine .Y r ?_
   obtain ⟨K,hd⟩:=hd
   refine .ap (ys:=[d.2.1]) .p7 CA CA IN2 r (.box (.o 10 r) (.one r) r) K fun b6 b7=>?_
   refine .q 11 r (.Z 1 r r tv) (.Y r ?_)
   refine .s1 sizeOf27 .p7 r (.P 11 r r r tv (.e2 12 (.G 1 r (.s1 sizeOf27 .p7 r (.M 791494 r (.drop .p2 (.drop .p9 (.F (.C 1 2199024042950 r ?_)))))))))
   refine .A r hd (fun O hd=>?_) fun O hd=>?_
   · refine .D (.G 2 r (.bs 1 BD DD nT r fun b8=>?_))
     obtain ⟨P,hd⟩:=hd
     refine .ap (ys:=[g]) .p8 BD BD IN3 r (.box .z (.one r) r) P fun c0 c1=>?_
     exact .C 1 786886 r (.drop .p1 (.D (.G 2 r (.H fun c w ho hs=>⟨_,hd,_,_,_,_,_,_,jf C tv [7,2,1,0,0,0,0,0,0] r ho hs⟩))))
   exact .P 786886 r (.D (.G 2 r (.H fun c w ho hs=>⟨_,hd,_,_,_,_,_,_,jf C tv [6,1,0,4,0,0,0,0,0] r ho hs⟩)))
 refine .en 454 r (.N 2 r (.pub .p3 fun c2 R x=>?_))
 obtain ⟨S,R8,R12,R15⟩:=R.u4 k R8 R12 R15
 refine .ca call27 r (UV x hd:) fun c3 c4 U V=>?_
 obtain ⟨a3,c5,c6,rfl,i,hd⟩:=V
 obtain ⟨W,R8,R12,R15,x⟩:=U.u5 S R8 R12 R15 x
 refine .G 1 r (.s1 sizeOf40 .z r (.ns 196 r (.S JY DH .z r (.R DH .p7 r (.M 68 r (.drop .z (.pub .p1 fun c8 X y=>?_)))))))
 obtain ⟨Y,R8,R12,R15,i⟩:=X.u5 W R8 R12 R15 i
 refine .pub .z fun c9 Z a4=>?_
 obtain ⟨a2,R8,R12,R15,i,y⟩:=Z.u6 Y R8 R12 R15 i y
 exact .K (DX r (.w JY DH r .p4 r .n) a2 (.o VA r) ⟨({ a0 with A:=e,B:=f,On:=a3 }:State),((_,_),(_,_),(_,_)),r,⟨a4,y,i⟩,r,hd⟩)
theorem yF {a0 a1 a2 a3 Q} (R3:RepSl AV I p1 c2 a0.Draws) (R5:iE I gg4 a1) (R8:RepSl CF I p6 c7 a3.Items) (hd:W0 a0 a1 a2 a3 Q) :
  B6 prog 294 [.agg (M9 a0 p1 c2),.agg (GW a1 gg4),vi a2,.agg #[vi a3.N,.slice p6 a3.Items.length c7]] I (λI_ v=>∃ r gg9,v=.agg (GW r gg9)∧iE I_ gg9 r∧Q r):=by
 refine Fun.ee func294 ntmps294 r ?_;refine .F (.bx r λa4=>?_);refine .bx r λa5=>?_;refine .box1 r r r r λa6=>?_;refine .bx r λa7=>?_;refine .al O4 r λc1=>?_;refine .ns 496 r (.S QF QD .p4 r (.S JY DH .p3 r ?_));refine .ca call233 r (WH R3 R5 hd:) λc3 c4 d D=>?_;obtain⟨e,b3,rfl,a,hd⟩:=D;have⟨R3,R5,R8⟩:=d.u3 R3 R5 R8;refine .R DH .p3 r (.U 496 1 r (.I AJ .p3 r (.G 1 r (.I AJ .p3 r (.C 2 1008 r (.B (.B (.jn hd [9,8,7,6,5,4] [4,3,2,1,0] r (λj E l y=>j ((26,.bool y) :: E) l) (λc5 hd=>?_) ?_))))))))
 . refine .D (.S BK AM .p1 r ?_);refine .u call270 (FS R8 hd:) r λc6 hd=>?_;refine .G 2 r (.T hd [20,21] r (λG hd=>?_) λG hd=>?_)
   . exact .G 5 r (.H (je true hd rf [4,3,2,1,0] r))
   exact .G 1 r (.O r (.I AJ .p1 r (.G 3 r (.H (je (a3.N != (A4 (e.High - e.Low))) hd rf [4,3,2,1,0] r)))))
 refine λy hd=>jq r λc8 c=>?_;have⟨g,R3,R8,a⟩:=c.u4 d R3 R8 a;refine .A r hd (λH hd=>?_) λH hd=>?_
 . refine .B (.dr AwU 14 (.J 1 r (.V AJ 1 r (.J 1 r (.V AJ 1 r (.J 1 r (.V FK 1 r (.J 1 r (.V FK 1 r ?_)))))))));refine .J 1 r (.V QE 1 r (.Y r ?_));refine .ca call38 r (BH a.1 hd:) λc9 d0 K L=>?_;obtain⟨a8,d1,d2,rfl,b,hd⟩:=L;have⟨O,P,R3,R8,a⟩:=K.u5 g c R3 R8 a;refine .q 5 r (.X r (.I QE .p1 r .mk) (.Z 1 r r (.X r (.I FK .p1 r .mk) (.Z 1 r r (.X r (.I AJ .p1 r .mk) (.Z 1 r r (.X r (.I AJ .p1 r .mk) (.Z 1 r r tv)))))))) (.Y r ?_);refine .ca call38 r (BH a.2.1 hd:) λd3 d4 S T=>?_;obtain⟨a9,d5,d6,rfl,i,hd⟩:=T;have⟨U,V,R3,R8,a,b⟩:=S.u6 O P R3 R8 a b;refine .q 5 r (.X r (.I QE .p1 r .mk) (.Z 1 r r (.X r (.I AJ .p1 r .mk) (.Z 1 r r (.X r (.I AJ .p1 r .mk) (.Z 1 r r tv)))))) (.Y r ?_);refine .ca call120 r (GH a.2.2 hd:) λd7 d8 k W=>?_;obtain⟨m,b4,b6,rfl,X,hd⟩:=W;have⟨p,b1,R3,R8,a,b⟩:=k.u6 U V R3 R8 a b;have i:=k.u1 i;exact .q 5 r (.X r (.I AJ .p1 r .mk) (.Z 1 r r (.X r (.I AJ .p1 r .mk) (.Z 1 r r tv)))) (.h r (.bd O4 fF lV r .mk) (.e2 14 (.R DH .p4 r (.M 256 r (.drop .z (.drop .z (.drop .z (.drop .z (.K (B7 r (.w JY DH r .z r .n) p ⟨({ e with A:=a8,B:=a9,On:=m }:State),((_,_),(_,_),(_,_)),r,⟨b,i,X⟩,hd⟩))))))))))
 refine .P 1008 r (.F (.S JY DH .p1 r (.G 1 r (.mkFn r r r r ?_))));refine .cS (.f call187 r) (.o [3,0,0,0] r) r (jR (b5:=a7) (b9:=a4) (b13:=a5) (b16:=a6) R8 R3 a a hd:) λb7 b8 c0 s t=>?_;obtain⟨Y,u,rfl,Z,rfl,hd⟩:=t;have⟨x,b2,R3,R8,a⟩:=s.u5 g c R3 R8 a;exact .rn 5 r (.R DH .p4 r (.M 256 r (.drop .z (.drop .z (.drop .z (.drop .z (.K (B7 r (.w JY DH r .z r .n) x ⟨Y,u,r,Z,hd⟩))))))))
theorem DS {o0 a0 a1 Q} (h:WP I gn3 o0) (d:CI o0 a0 a1 Q) :
  Fun prog 234 #[vp b2,vi a0,vi a1] I (V8 o0 b2 gn3 p5 c6 b13 p8 c9 b16 b18) (λ_ v l=>∃ r,v=vi r∧l=(V8 o0 b2 gn3 p5 c6 b13 p8 c9 b16 b18)∧Q r):=by
 exact Fun.ee func234 ntmps234 r (.N 1 r (.U 7 4 r (.I AJ .z r (.G 2 r (.u call267 (AcL (I:=I) d:) r λb d=>.C 1 65 r (.q1 results234 rf US r ⟨b,r,r,d⟩))))))
theorem DE {o0 a0 Q} (R4:WP I gn3 o0) (R20:rT I gh19 a0) (hd:CH o0 a0 Q) :
  Fun prog 192 #[vp b2,.agg (JW a0 gh19)] I (V8 o0 b2 gn3 p5 c6 b13 p8 c9 b16 b18) (fun I_ v l=>∃ r gn22 p24 c25 p27 c28,v=.tuple #[]∧WP I_ gn22 r∧l=(V8 r b2 gn22 p24 c25 b13 p27 c28 b16 b18)∧Q r):=by
 refine Fun.ee func192 ntmps192 r ?_
 refine .F (.bx r fun g=>?_)
 refine .M 9 r (.B (.dr AhY 12 (.J 5 r (.V AJ 1 r (.J 4 r (.V AJ 1 r (.Y r ?_)))))))
 refine .cS (.f call234 r) (.o nl6 r) r (DS (b2:=b2) (p5:=p5) (c6:=c6) (b13:=b13) (p8:=p8) (c9:=c9) (b16:=b16) (b18:=b18) R4 hd:) fun i j k a d=>?_
 obtain ⟨b,rfl,rfl,hd⟩:=d
 obtain ⟨R4,R20⟩:=a.u2 R4 R20
 refine .rx 7 r (.q 7 r tv (.e2 12 (.G 1 r (.s1 DD .p6 r (.M 9 r (.dr nl5 11 (.J 4 r (.V isAgg190 0 r (.h r (.S GL CZ .p6 r .mk) ?_)))))))))
 refine .Y r ?_
 refine .bs 1 zQ CZ KY r fun m=>?_
 refine .q 8 r (.X r (.I isAgg190 .p1 r .mk) (.Z 4 r r tv)) (.Y r ?_)
 obtain ⟨e,hd⟩:=hd
 refine .appendQ (ys:=[({ a0 with From:=b }:AK)]) 136 .p2 zQ zQ AxN r r r r r r r r r (.box .z (.one ⟨gh19,r,R20⟩) r) (List.cons_ne_nil _ _) e r r fun p q=>?_
 refine .q 8 r (.Z 1 r r tv) (.J 2 r (.Y r ?_))
 exact .s1 sizeOf190 .p2 r (.P 8 r r r tv (.e2 11 (.qIn .z (.H (H3 r .n a (.o [2,0,1,1,1,1] r) ⟨({ o0 with out:=(o0.out++([({ a0 with From:=b }:AK)])) }:A1),gn3,_,_,_,_,r,R4,r,hd⟩)))))
theorem H8 {o0 a0 a1 Q} (R4:WP I gn3 o0) (hd:DC o0 a0 a1 Q) :
  Fun prog 145 #[vp b2,vi a0,.bool a1] I (V8 o0 b2 gn3 p5 c6 b13 p8 c9 b16 b18) (λI_ v l=>∃ r gn20 p22 c23 p25 c26,v=.tuple #[]∧WP I_ gn20 r∧l=(V8 r b2 gn20 p22 c23 b13 p25 c26 b16 b18)∧Q r):=by
 refine Fun.ee func145 ntmps145 r ?_;refine .N 2 r (.bd KY ZW lX r (.al KY r λu=>?_));refine .R CZ .z r (.M 71 r (.B (.F (.C 2 2115 r (.A r hd (λc hd=>?_) λc hd=>?_)))))
 . refine .dr An8 10 (.J 3 r (.h r (.y QF QD r .p1 (.o 5 r) r r r .mk) (.J 3 r (.h r (.y JY DH r .p1 (.o 5 r) r r r .mk) (.J 1 r (.Y r ?_))))));refine .u call191 (AfF R4.1 R4.2.2.2.2.2 hd:) r λw hd=>?_;refine .q 7 r tv (.e2 10 (.G 1 r (.s1 MO .z r (.U 65 3 r (.s1 sizeOf4 .p1 r (.M 65 r (.D (.G 1 r (.S GL CZ .z r ?_)))))))));refine .cS (.f call192 r) (.o nl6 r) r (DE (I:=I) (o0:=({ o0 with waits:=true }:A1)) (gh19:=((_,_),(_,_),(_,_))) (b2:=b2) (gn3:=gn3) (p5:=p5) (c6:=c6) (b13:=b13) (p8:=p8) (c9:=c9) (b16:=b16) (b18:=b18) R4 ⟨(.nil _ none 0),(.nil _ none 0),(.nil _ none 0)⟩ hd:) λx y A a g=>?_;obtain⟨p,i,B,C,D,E,rfl,q,rfl,hd⟩:=g;have R4:=a.u1 R4;exact .rn 7 r (.H (H3 r .n a (.o US r) ⟨p,i,_,_,_,_,r,q,r,hd⟩))
 refine .P 65 r (.N 3 r (.s1 sizeOf4 .p1 r (.M 65 r (.D (.G 1 r (.S GL CZ .z r ?_))))));refine .cS (.f call192 r) (.o nl6 r) r (DE (I:=I) (o0:=({ o0 with waits:=true }:A1)) (gh19:=((_,_),(_,_),(_,_))) (b2:=b2) (gn3:=gn3) (p5:=p5) (c6:=c6) (b13:=b13) (p8:=p8) (c9:=c9) (b16:=b16) (b18:=b18) R4 ⟨(.nil _ none 0),(.nil _ none 0),(.nil _ none 0)⟩ hd:) λF G H b k=>?_;obtain⟨s,m,J,K,L,O,rfl,t,rfl,hd⟩:=k;have R4:=b.u1 R4;exact .rn 7 r (.H (H3 r .n b (.o US r) ⟨s,m,_,_,_,_,r,t,r,hd⟩))
end Go.Proofs.YtieniichmjgmcaaGreat
