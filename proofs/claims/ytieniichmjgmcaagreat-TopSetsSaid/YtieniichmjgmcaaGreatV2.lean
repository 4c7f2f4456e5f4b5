import Derived.Test.YtieniichmjgmcaaGreatV1
set_option linter.unusedVariables false
set_option linter.unusedSimpArgs false
set_option maxRecDepth 8000
set_option maxHeartbeats 1000000
namespace Go.Proofs.YtieniichmjgmcaaGreat
open Go Go.Fw
open Tryz
variable {I:IH}
variable {b2 b3 b4 b5 b6 b7 b8 b9 c2 c3 c4 c5 c6 c7 c8 c9 lr b10 b11 b13 b16 b18 b21 b22 b26 c10 c11 c12 c18 c20 c24:Nat}
variable {p1 p2 p3 p4 p5 p6 p7 p8 p9 p10 p11 p17 p19 p23:Option Addr}
variable {Rr:Nat→HA}
variable {ga1 ga3:aTa}
variable {gb1 gb11:aTb}
variable {gd1 gd4 gd11:aTd}
variable {gg1 gg4 gg8 gg14 gg17:aTg}
variable {gh1 gh2 gh11 gh19:aTh}
variable {gi1 gi3 gi10 gi14:aTi}
variable {gj1:aTj}
variable {gk1:aTk}
variable {gn3:aTn}
variable {gq3 gq4 gq5:aTq}
theorem KB {o0 a0 a1 Q} (V:F5 o0 a0 a1 Q) :
  Fun prog 397 #[.slice p2 o0.length c3,vi a0,vi a1] I [OwnSl EL 394 p2 c3 o0] (λ_ v l=>∃ r,v=.bool r∧l=[OwnSl EL 394 p2 c3 o0]∧Q r):=by
 refine Fun.ee func397 ntmps397 r (.F (.D 1 7 r (.B (.ownF .z λA=>.openS .z λ_ a=>.dr [0,1,2,3,4,5,6,7,8,9,10,11,12,13,14,15,17,18,19,20,21,22,23,24,25,26,16,27,28,29,30] 31 (.K 2 r ?_)))));have⟨G,_,n,V⟩:=V;have⟨_,H⟩:=A (CS n);cases H;obtain⟨_,_,t,_,_,rfl,o⟩:=a.get n;refine .h r (.u OL JX r r G (BG n G) r r .mk) (.K 1 r (.h r (.lo1 (j:=0) JY .z t r r r r r .mk) ?_));have⟨J,_,B,_,_,K,b,V⟩:=o.ix V;refine .h r (.U EK FG K J B r .mk) (.K 1 r (.h r (.x 0 AM b r .mk) (.K 2 r ?_)));have⟨w,_,p,V⟩:=V;obtain⟨_,_,u,_,_,rfl,q⟩:=a.get p;refine .h r (.u OL JX r r w (BG p w) r r .mk) (.K 1 r (.h r (.lo1 (j:=0) JY .z u r r r r r .mk) ?_));have⟨L,_,C,_,_,N,c,V⟩:=q.ix V;refine .h r (.U EK FG N L C r .mk) (.K 1 r (.h r (.x 0 AM c r .mk) (.K 2 r ?_)));have⟨f,_,d,V⟩:=V;obtain⟨_,_,g,_,_,rfl,_⟩:=a.get d;refine .h r (.u OL JX r r f (BG d f) r r .mk) (.K 1 r (.h r (.lo1 (j:=1) AM .z g r r r r r .mk) (.K 2 r ?_)));have⟨i,_,e,V⟩:=V;obtain⟨_,_,m,_,_,rfl,_⟩:=a.get e;refine .h r (.u OL JX r r i (BG e i) r r .mk) (.K 1 r (.h r (.lo1 (j:=1) AM .z m r r r r r .mk) (.Y r (.v call160 (DL (I:=I) V:) r λx V=>?_))));refine .q 1 r (.W r (.lo1 (j:=1) AM .z m r r r r r .mk) (.j 1 r r (.W r (.u OL JX r r i (BG e i) r r .mk) (.j 2 r r (.W r (.lo1 (j:=1) AM .z g r r r r r .mk) (.j 1 r r (.W r (.u OL JX r r f (BG d f) r r .mk) (.j 2 r r tv)))))))) (.Y r (.v call160 (DL (I:=I) V:) r λy V=>?_));refine .q 1 r tv (.Y r (.bs 2 BE D3 jX r λ_=>.q 2 r tv (.Y r (.pubB (El:=B0) (ys:=([x,y]:List Int)) (k:=2) .z (RepCs.cons (cs:=[vi x]) r (RepCs.cons (cs:=[vi y]) r .nil)) r λ_ s O=>?_))));have⟨a,o,b,q,c⟩:=s.u5 a o b q c;exact .v call136 (LR O V:) r λP V=>.q 1 r tv (.K 1 r (.e2 31 (.closeS .z a (.D 1 65 r (.q1 results397 s [0] r ⟨(decide (P<0)),r,r,V⟩)))))
theorem KC {o0 a0 a1 Q} (O:F6 o0 a0 a1 Q) :
  Fun prog 400 #[.slice p2 o0.length c3,vi a0,vi a1] I [OwnSl EL 394 p2 c3 o0] (λ_ v l=>∃ r,v=.tuple #[]∧r.length=o0.length∧l=[OwnSl EL 394 p2 c3 r]∧Q r):=by
 refine Fun.ee func400 ntmps400 r (.ownF .z λF=>.openS .z λ_ a=>.dr Aj5 14 (.K 6 r ?_));have⟨G,b,f,O⟩:=O;have⟨d,H⟩:=F (CS f);cases H;obtain⟨_,_,q,w,y,rfl,J⟩:=a.get f;refine .h r (.u OL JX r r G (BG f G) r r .mk) (.h r (.loA (j:=0) isAgg394 JX .z q r r (.o 2 r) r r r .mk) (.K 2 r ?_));have⟨A,c,g,O⟩:=O;obtain⟨_,_,s,B,C,rfl,K⟩:=a.get g;refine .h r (.u OL JX r r A (BG g A) r r .mk) (.h r (.loA (j:=0) isAgg394 JX .z s r r (.o 2 r) r r r .mk) ?_);have⟨D,_,i,O⟩:=O;obtain⟨_,_,t,_,_,rfl,_⟩:=a.get i;refine .h r (.u OL JX r r D (BG i D) r r .mk) (.Y r λ{U}=>?_);have k:=a.set (x:=b) a0.toNat (cs:=[.slice w b.l.length y,vi b.which]) ⟨_,_,r,J⟩ ⟨r,r⟩;refine .stOA (j:=0) (v':=⟨[.slice w b.l.length y,vi b.which],r,r⟩) JX .z t r r r (.o r) r r (.P 1 r r r (.j 2 r r tv) (.e2 14 (.sub (E':=[(0,.slice (some ⟨d,0,none⟩) (o0.set a0.toNat b).length c3),(1,_),(2,_),(6,.slice (some ⟨d,0,none⟩) (o0.set a0.toNat b).length c3),(7,_),(8,.slice (some ⟨d,0,none⟩) (o0.set a0.toNat b).length c3),(9,_),(10,.slice (some ⟨d,0,none⟩) (o0.set a0.toNat b).length c3),(11,_),(12,_),(13,_),(14,.slice (some ⟨d,0,none⟩) (o0.set a0.toNat b).length c3),(15,_),(16,_),(17,_),(18,_)]) ⟨(by simp only[QX]; rfl),r,r,(by simp only[QX]; rfl),r,(by simp only[QX]; rfl),r,(by simp only[QX]; rfl),r,r,r,(by simp only[QX]; rfl),r,r,r,r,tv⟩ (.closeS .z k ?_))));have⟨E,_,m,O⟩:=O;refine .u OL JX r r E (BG m E) r r (.openS .z λ_ e=>?_);obtain⟨_,_,u,_,_,rfl,_⟩:=e.get m;have p:=e.set (x:=c) a1.toNat (cs:=[.slice B c.l.length C,vi c.which]) ⟨_,_,r,K⟩ ⟨r,r⟩;exact .stOA (j:=0) (v':=⟨[.slice B c.l.length C,vi c.which],r,r⟩) JX .z u r r r (.o r) r r (.closeS .z p (.rl .z [0,6,8,10,14] r (by simp only[QX]) (.H (JR r .n rf (.o [0] r) ⟨((o0.set a0.toNat b).set a1.toNat c),r,(by first | exact r | omega | (simp only[QX] at * <;> omega)),r,O⟩))))
theorem XW {o0 a0 Q} (J:FC o0 a0 Q) :
  Fun prog 129 #[.iface 392 (vp b2),vi a0] I (kL2 o0 b2 p3 c4 p6 c7) (λW v l=>∃ r a3 Z p15 c16,v=.tuple #[]∧l=(kL2 r b2 a3 Z p15 c16)∧Q r):=by
 refine Fun.ee func129 ntmps129 r (.E (.lx J [0] [2] r (λj E l (a,b)=>λc w=>j ⟨23,[],none⟩ (λW=>a.length=o0.heads.length) ((1,vi b) :: E) (pc b2 #[.slice p3 a.length c4,vi o0.r,.slice p6 o0.out.length c7] 364 :: OwnSl EL 394 p3 c4 a :: l) c w) (λc w U V=>jf rf (by first | exact r | omega | (simp only[QX] at * <;> omega)) WZ r U V) ?_));rintro⟨a,b⟩ _ J c w ⟨y,d,_,a2,a4⟩;refine Cod.at a2 a4 (.E (.M 2 r (.quo r r (by decide) r r (.D 1 19 r (.B (.M 4 r (.T J [10,11] r (λh J=>?_) λh J=>?_)))))))
 . exact .D 6 131091 r (.Q r r (.exit (JR r .n d (.o WZ r) ⟨({ o0 with heads:=a }:AJ),_,_,_,_,r,r,J⟩)))
 refine .G 3 r ?_;refine .O r (.cS (.iv call397 (V7 (KQ MD gC r r r ZS) UC .z r) r r) (.o [1] r) r (KB (I:=y) (p2:=p3) (c3:=c4) J:) λ_ C _ k m=>?_);obtain⟨_,rfl,rfl,J⟩:=m;have e:=k.u1 d;refine .rn 3 r (.D 2 131091 r (.A r J (λp J=>?_) λp J=>?_))
 . exact .exit (JR r .n e (.o nl7 r) ⟨({ o0 with heads:=a }:AJ),_,_,_,_,r,r,J⟩)
 refine .P 19 r (.M 3 r ?_);refine .cS (.iv call400 (V7 (KQ MD gC r r r ZS) UC .p1 r) r r) (.o [0] r) r (KC (I:=C) (p2:=p3) (c3:=c4) J:) λ_ _ _ s t=>?_;obtain⟨g,rfl,f,rfl,J⟩:=t;have u:=s.u1 e;exact .reat .p1 (B:=pc b2 #[.slice p3 g.length c4,vi o0.r,.slice p6 o0.out.length c7] 364) (by rw[f]) (.L 17 r (.C (.G 2 r (.H λc w U V=>⟨_,J,jf u (by first | exact r | omega | (simp only[QX] at * <;> omega)) nl7 r U V⟩))))
theorem UV {o0 a0 Q} (D:RepSl ET I p11 c12 a0.l) (d:IA o0 a0 Q) :
  Fun prog 97 #[.iface 392 (vp b2),.iface 394 (.agg #[.slice p11 a0.l.length c12,vi a0.which])] I (kL2 o0 b2 p3 c4 p6 c7) (λ_ v l=>∃ r p15 c16 O J,v=.tuple #[]∧l=(kL2 r b2 p15 c16 O J)∧Q r):=by
 refine Fun.ee func97 ntmps97 r ?_;refine .M 2 r ?_;refine .cS (.i call399 (tE MD gC r r r ZS) r r) (.o WZ r) r (aG (b2:=b2) (p3:=p3) (c4:=c4) (p6:=p6) (c7:=c7) D d:) λ_ t _ a e=>?_;obtain⟨_,b,c,u,w,rfl,rfl,d⟩:=e;have D:=a.u1 D;refine .rn 3 r (.L 1 r (.C (.G 2 r ?_)));refine .cS (.iv call287 (V7 (KQ MD gC r r r ZS) UC .z r) r r) (.o [1] r) r (RV (I:=t) (p2:=b) (c3:=c) d:) λ_ x _ h j=>?_;obtain⟨_,rfl,rfl,d⟩:=j;have k:=h.u1 a;refine .rn 3 r (.G 1 r ?_);refine .cS (.f call129 r) (.o nl7 r) r (XW (I:=x) (b2:=b2) (p3:=b) (c4:=c) (p6:=u) (c7:=w) d:) λ_ _ _ p q=>?_;obtain⟨y,_,_,_,_,rfl,rfl,d⟩:=q;have s:=p.u1 k;exact .rn 3 r (.H (JR r .n s (.o WZ r) ⟨y,_,_,_,_,r,r,d⟩))
theorem P5 {o0 a0 a1 Q} (J:RepSl ET I p11 c12 a0) (h:GD o0 a0 a1 Q) :
  Fun prog 286 #[vp b2,.slice p11 a0.length c12,vi a1] I (kL2 o0 b2 p3 c4 p6 c7) (λ_ v l=>∃ r p15 c16 U O,v=.tuple #[]∧l=(kL2 r b2 p15 c16 U O)∧Q r):=by
 refine Fun.ee func286 ntmps286 r (.M 1 r (.ln EK r (.D 1 263 r (.A r h (λb h=>?_) λb h=>?_))))
 . refine .C (.G 3 r (.mkIface ZS r r r r (.G 2 r (.bd zeroValue394 underlying394 AyA r (.mkIface underlying394 r r r r ?_)))));refine .cS (.f call97 r) (.o WZ r) r (UV (a0:=({ l:=a0,which:=a1 }:AX)) (b2:=b2) (p3:=p3) (c4:=c4) (p6:=p6) (c7:=c7) J h:) λ_ _ _ a d=>?_;obtain⟨e,_,_,_,_,rfl,rfl,h⟩:=d;have J:=a.u1 J;exact .rn 3 r (.H (JR r .n a (.o WZ r) ⟨e,_,_,_,_,r,r,h⟩))
 exact .AC (JR r .n rf (.o WZ r) ⟨o0,_,_,_,_,r,r,h⟩)
theorem UW {o0 a0 a1 Q} (J:G0 o0 a0 a1 Q) :
  Fun prog 128 #[.iface 392 (vp b2),vi a0,vi a1] I (kL2 o0 b2 p3 c4 p6 c7) (λI_ v l=>∃ r a5 a3 p15 c16,v=.bool r.1∧l=(kL2 r.2 b2 a5 a3 p15 c16)∧Q r):=by
 refine Fun.ee func128 ntmps128 r (.M 1 r (.V 7 2 r (.L 135 r (.B (.E (.lx J nl5 [2] r (λj E l (b,a)=>λc w=>j ⟨48,[],none⟩ (λI_=>b.length=o0.heads.length) ((7,vi a) :: E) (pc b2 #[.slice p3 b.length c4,vi o0.r,.slice p6 o0.out.length c7] 364 :: OwnSl EL 394 p3 c4 b :: l) c w) (λc w U W=>jf rf (by first | exact r | omega | (simp only[QX] at * <;> omega)) WZ r U W) ?_))))));rintro⟨b,a⟩ _ J c w ⟨K,d,_,a4,a6⟩;refine Cod.at a4 a6 (.E (.F (.D 4 391 r (.B (.M 4 r (.T J [17,18] r (λm J=>?_) λm J=>?_))))))
 . exact .D 3 2097543 r (.Q r r (.en 131 r (.F (.D 4 65 r (.q1 results128 d WZ r ⟨(decide (a0<a),({ o0 with heads:=b }:AJ)),_,_,_,_,r,r,J⟩)))))
 refine .D 3 2097543 r (.A r J (λn J=>?_) λn J=>?_)
 . exact .en 131 r (.F (.D 4 65 r (.q1 results128 d WZ r ⟨(decide (a0<a),({ o0 with heads:=b }:AJ)),_,_,_,_,r,r,J⟩)))
 refine .P 391 r (.F (.D 2 903 r (.B (.jn J [7,2,1,0] WZ r (λj E l f=>j ((9,vi f) :: E) l) (λ_ J=>?_) ?_))))
 . refine .M 3 r (.V 1927 4 r (.T J [27,28] r (λp J=>?_) λp J=>?_))
   . refine .G 3 r ?_;refine .O r (.cS (.iv call397 (V7 (KQ MD gC r r r ZS) UC .z r) r r) (.o [1] r) r (KB (I:=K) (p2:=p3) (c3:=c4) J:) λ_ _ _ e s=>?_);obtain⟨_,rfl,rfl,J⟩:=s;have R:=e.u1 d;refine .rn 3 r (.D 1 8589936263 r (.A r J (λt J=>?_) λt J=>?_))
     . exact .C (.G 2 r (.H (je (A5 ((A5 ((A5 (2*a))+1))+1)) J e nl7 r)))
     exact .AC (je (A5 ((A5 (2*a))+1)) J e nl7 r)
   exact .D 5 8589936263 r (.Z r r (.AC (je (A5 ((A5 (2*a))+1)) J rf WZ r)))
 refine λf J=>jq r λL g=>?_;have u:=g.u1 d;refine .B (.M 3 r ?_);refine .cS (.iv call397 (V7 (KQ MD gC r r r ZS) UC .z r) r r) (.o [1] r) r (KB (I:=L) (p2:=p3) (c3:=c4) J:) λ_ N _ y A=>?_;obtain⟨_,rfl,rfl,J⟩:=A;have⟨h,C⟩:=y.u2 u g;refine .rn 3 r (.D 1 549755814535 r (.A r J (λD J=>?_) λD J=>?_))
 . exact .en 131 r (.F (.D 4 65 r (.q1 results128 h nl7 r ⟨(decide (a0<a),({ o0 with heads:=b }:AJ)),_,_,_,_,r,r,J⟩)))
 refine .P 647 r (.M 3 r ?_);refine .cS (.iv call400 (V7 (KQ MD gC r r r ZS) UC .p1 r) r r) (.o [0] r) r (KC (I:=N) (p2:=p3) (c3:=c4) J:) λ_ _ _ G H=>?_;obtain⟨k,rfl,i,rfl,J⟩:=H;have⟨a2,_⟩:=G.u2 h C;exact .reat .p1 (B:=pc b2 #[.slice p3 k.length c4,vi o0.r,.slice p6 o0.out.length c7] 364) (by rw[i]) (.L 519 r (.C (.G 2 r (.H λc w U W=>⟨_,J,jf a2 (by first | exact r | omega | (simp only[QX] at * <;> omega)) nl7 r U W⟩))))
theorem cT {o0 Q} (h:MR o0 Q) :
  Fun prog 398 #[vp b2] I (kL2 o0 b2 p3 c4 p6 c7) (λU v l=>∃ r O J Z W p15 c16,v=.iface 394 (.agg #[.slice O r.1.l.length J,vi r.1.which])∧RepSl ET U O J r.1.l∧l=(kL2 r.2 b2 Z W p15 c16)∧Q r):=by
 refine Fun.ee func398 ntmps398 r (.M 1 r (.V 1 2 r (.I UC .z r (.ln OL r (.G 2 r (.V 9 2 r (.I UC .z r (.G 1 r ?_))))))));have⟨b,d,a,h⟩:=h;refine .AG .p1 (CS a) λ_ e=>?_;cases e;refine .u OL JX r r b (BG a b) r r (.loEW isAgg394 JX .p1 a r r r r r λ_ c=>?_);obtain⟨_,_,rfl,f⟩:=c;refine .al zeroValue394 r λ_=>?_;refine .R JX .z r (.V 25 3 r (.I UC .p1 r (.G 1 r ?_)));have⟨_,_,_,h⟩:=h;exact .sliceT (H:=(A5 ((o0.heads.length:Int) - 1)).toNat) OL JX r r .p2 .p2 r (by omega) r (by omega) r r (.G 1 r (.s1 sizeOf362 .p1 r (.ns 17 r (.S isAgg394 JX .z r (.mkIface underlying394 r r r r (.D 1 5 r (.drop .z (.q1 results398 rf WZ r ⟨(d,({ o0 with heads:=(o0.heads.take (A5 ((o0.heads.length:Int) - 1)).toNat) }:AJ)),_,_,_,_,_,_,r,f,r,h⟩))))))))
theorem WS {o0 Q} (J:GK o0 Q) :
  Fun prog 96 #[.iface 392 (vp b2)] I (kL2 o0 b2 p3 c4 p6 c7) (λW v l=>∃ r U O a2 Z p15 c16,v=.iface 394 (.agg #[.slice U r.1.l.length O,vi r.1.which])∧RepSl ET W U O r.1.l∧l=(kL2 r.2 b2 a2 Z p15 c16)∧Q r):=by
 refine Fun.ee func96 ntmps96 r ?_;refine .M 1 r (.V 1 1 r (.cS (.iv call287 (V7 (KQ MD gC r r r ZS) UC .z r) r r) (.o [1] r) r (RV (I:=I) (p2:=p3) (c3:=c4) J:) λ_ x _ d e=>?_));obtain⟨_,rfl,rfl,J⟩:=e;refine .rn 3 r (.G 2 r (.V 9 2 r (.cS (.iv call400 (V7 (KQ MD gC r r r ZS) UC .p1 r) r r) (.o [0] r) r (KC (I:=x) (p2:=p3) (c3:=c4) J:) λ_ y _ h j=>?_)));obtain⟨A,rfl,a,rfl,J⟩:=j;have k:=h.u1 d;refine .reat .p1 (B:=pc b2 #[.slice p3 A.length c4,vi o0.r,.slice p6 o0.out.length c7] 364) (by rw[a]) (.V 9 2 r ?_);refine .cS (.f call128 r) (.o nl7 r) r (UW (I:=y) (b2:=b2) (p3:=p3) (c4:=c4) (p6:=p6) (c7:=c7) J:) λ_ C _ n p=>?_;obtain⟨_,D,E,F,G,rfl,rfl,J⟩:=p;have q:=n.u1 k;refine .rn 3 r (.V 1 1 r ?_);refine .cS (.i call398 (tE MD gC r r r ZS) r r) (.o WZ r) r (cT (I:=C) (b2:=b2) (p3:=D) (c4:=E) (p6:=F) (c7:=G) J:) λ_ _ _ t u=>?_;obtain⟨b,_,_,_,_,_,_,rfl,H,rfl,J⟩:=u;have w:=t.u1 q;exact .rn 3 r (.D 1 5 r (.q1 results96 w WZ r ⟨(b.1,b.2),_,_,_,_,_,_,r,H,r,J⟩))
theorem ZF {o0 Q} (V:FS o0 Q) :
  Fun prog 288 #[vp b2] I (kL2 o0 b2 p3 c4 p6 c7) (fun _ v l=>∃ r d1 d0 p15 c16,v=.tuple #[]∧l=(kL2 r b2 d1 d0 p15 c16)∧Q r):=by
 refine Fun.ee func288 ntmps288 r (.M 3 r (.I UC .z r ?_))
 obtain ⟨Y,k,m,V⟩:=V
 refine .AG .p1 (CS m) fun b3 b4=>?_
 cases b4
 refine .u OL JX r r Y (BG m Y) r r (.loEW isAgg394 JX .p1 m r r r r r fun _ a0=>?_)
 obtain ⟨_,Z,rfl,b⟩:=a0
 refine .al zeroValue394 r fun _=>?_
 refine .R JX .z r (.V 5 3 r (.mkIface ZS r r r r (.cS (.f call96 r) (.o xY r) r (WS (I:=I) (b2:=b2) (p3:=some ⟨b3,0,none⟩) (c4:=c4) (p6:=p6) (c7:=c7) V:) fun _ _ _ t a2=>?_)))
 obtain ⟨_,_,_,b5,b6,b7,b8,rfl,_,rfl,V⟩:=a2
 have b:=t.u1 b
 refine .rn 4 r (.V 5 1 r (.I JY .p3 r ?_))
 obtain ⟨b9,u,a3,_,_,c0,a4,V⟩:=b.ix V
 refine .U EK FG c0 b9 a3 r (.ldW isAgg314 FG a4 r r r r (.al gE r fun _=>.R FG .z r (.L 13 r (.B (.dr wC 7 (.K 2 r (.X JY 4 r ?_)))))))
 obtain ⟨a5,_,_,V⟩:=V
 have w:Int.toNat 1≤Int.toNat (k.l.length:Int):=by omega
 have x:Int.toNat (k.l.length:Int)≤k.l.length:=by omega
 obtain ⟨_,_,a6,a7,p⟩:=RepSl.sliceW b (Int.toNat 1) (Int.toNat (k.l.length:Int)) Z w x (.inl rfl)
 refine .h r (.sliceW (L:=Int.toNat 1) (H:=Int.toNat (k.l.length:Int)) (cm:=Z) EK FG r r b.1 r r r (.inr ⟨_,_,r,a5,r⟩) (.inl ⟨r,r,r⟩) (.inl r) w x r a6 a7 r r .mk) (.K 1 r (.X AM 4 r (.Y r ?_)))
 refine .cS (.f call286 r) (.o xY r) r (P5 (b2:=b2) (p3:=b5) (c4:=b6) (p6:=b7) (c7:=b8) p V:) fun _ _ _ R S=>?_
 obtain ⟨a,y,A,_,C,rfl,rfl,V⟩:=S
 obtain ⟨T,b,p⟩:=R.u3 t b p
 refine .rx 5 r (.q 5 r tv (.e2 7 (.L 9 r (.drop .p4 (.B (.M 3 r (.I JY .z r (.ln EK r (.D 1 25 r (.B (.jn V [4,3,0] W0 r (fun j E l D=>j ((47,.bool D) :: E) l) (fun _ V=>?_) ?_)))))))))))
 · refine .ownF .p1 fun _=>.ownF .p2 fun F=>.dr AsV 16 (.K 3 r ?_)
   refine D5 V (fun c V=>?_) fun c V=>?_
   · rw [c]
     refine .K 3 r (.h r (.O r (.I JY .z r .mk)) (.K 2 r ?_))
     obtain ⟨G,a8,d,V⟩:=V
     obtain ⟨_,a9⟩:=F (CS d)
     cases a9
     exact .h r (.O r (.u EK FG r r G (BG d G) r r .mk)) (.K 1 r (.h r (.O r (.lo1 (j:=0) AM .p2 d r r r r r .mk)) (.K 1 r (.h r (.O r (.I AM .p3 r .mk)) (.K 2 r (.e2 16 (.H (je (a8.At==u.At) V rf W0 r))))))))
   rw [c]
   exact .K 13 r (.e2 16 (.H (je false V rf W0 r)))
 refine fun D V=>jq r fun b0 U=>?_
 have q:=U.u1 T
 refine .A r V (fun c1 V=>?_) fun c1 V=>?_
 · refine .B (.ownF .p1 fun _=>.ownF .p2 fun J=>.dr AyV 25 (.K 3 r (.X JY 0 r (.K 5 r (.X isAgg109 0 r (.K 3 r (.X JY 0 r (.K 2 r ?_))))))))
   obtain ⟨K,_,e,V⟩:=V
   obtain ⟨N,b1⟩:=J (CS e)
   cases b1
   refine .h r (.u EK FG r r K (BG e K) r r .mk) (.K 1 r (.h r (.loA (j:=1) BJ AR .p2 e r r (.o 2 r) r r r .mk) (.K 1 r (.h r (.AA BJ AR r .p3 (.o 2 r) r r r .mk) (.Y r (.v call102 (jA (I:=b0) V:) r fun g V=>?_))))))
   refine .q 4 r (.j 2 r r (.W r (.I JY .z r .mk) (.j 3 r r tv))) ?_
   obtain ⟨O,i,s,V⟩:=V
   exact .h r (.u EK FG r r O (BG s O) r r .mk) (.K 1 r (.Y r fun {ex}=>.stOA (j:=1) (v':=({ At:=i.At,Val:=g }:BM)) AR .p2 s r r r (.o r) r r (.reat .z (B:=pc b2 #[.slice y a.heads.length A,vi a.r,.slice (some ⟨N,0,none⟩) (a.out.set ((A5 ((a.out.length:Int) - 1)).toNat) ({ At:=i.At,Val:=g }:BM)).length C] 364) (by simp only [QX]) (.P 4 r r r tv (.e2 25 (.rl .p2 [51,61] r (by simp only [QX]) (.reat .z (B:=pc b2 #[.slice y a.heads.length A,vi a.r,.slice (some ⟨N,0,none⟩) (a.out.set ((A5 ((a.out.length:Int) - 1)).toNat) ({ At:=i.At,Val:=g }:BM)).length C] 364) (by simp only [QX]) (.L 1 r (.drop .p3 (.J (DZ r .n q (.o WZ r) ⟨({ a with out:=(a.out.set ((A5 ((a.out.length:Int) - 1)).toNat) ({ At:=i.At,Val:=g }:BM)) }:AJ),_,_,_,_,r,r,V⟩)))))))))))
 refine .P 9 r (.dr nl9 11 (.K 4 r (.X JY 0 r (.h r (.S isAgg314 FG .p3 r .mk) (.Y r (.bs 1 EK FG gE r fun _=>.q 5 r (.W r (.I JY .p1 r .mk) (.j 4 r r tv)) (.Y r ?_)))))))
 obtain ⟨X,V⟩:=V
 exact .ap (ys:=[u]) .p3 EK EK AfF r (.box .z (.one r) r) X fun _ _=>.q 5 r (.j 1 r r tv) (.K 2 r (.Y r (.s1 ZT .p2 r (.P 5 r r r tv (.e2 11 (.H (JR r .n q (.o [2,2,0] r) ⟨({ a with out:=(a.out++([u])) }:AJ),_,_,_,_,r,r,V⟩)))))))
theorem nF {a0 a1 Q} (U:RepSl (Y7 ET) I p1 c2 a1) (O:TQ a0 a1 Q) :
  Ab1 prog 248 [vi a0,.slice p1 a1.length c2] I (λI_ v l=>∃ r p4 c5,v=.tuple #[.slice p4 r.1.length c5,vi r.2]∧l=[OwnSl ET 314 p4 c5 r.1]∧Q r):=by
 refine Fun.ee func248 ntmps248 r (.F (.D 2 3 r (.B (.M 1 r (.v call100 (TC (I:=I) O:) r λ_ O=>.D 1 2051 r (.A r O (λa7 O=>?_) λa7 O=>?_))))))
 . exact .F (.D 2 48 r (.own0 ET 314 (.J (DZ r (.t r (.t r .n)) rf (.o [0] r) ⟨(([]:List BM),8),_,_,r,r,O⟩))))
 refine .P 3 r (.B (.M 1 r ?_));refine .cS (.f call283 r) .n r (JZ U O:) λ_ _ _ x a9=>?_;obtain⟨_,rfl,rfl,O⟩:=a9;have U:=x.u1 U;refine .rn 0 r (.L 8195 r (.A r O (λS O=>?_) λS O=>?_))
 . exact .F (.D 2 48 r (.own0 ET 314 (.J (DZ r (.t r (.t r .n)) x (.o [0] r) ⟨(([]:List BM),6),_,_,r,r,O⟩))))
 refine .P 3 r (.M 1 r (.bd zeroValue364 underlying364 Ay8 r (.bx r λF=>.D 1 66 r (.B (.M 1 r (.ln qV r (.D 1 917568 r (.E (.own0 EL 394 (.own0 ET 314 (.lx O [18,17,6] [] r (λj E l (d,y,e,A)=>λc w=>∃ g h i k,j ⟨41,[],none⟩ (λI_=>True) ((19,vi A) :: E) (pc F #[.slice g d.length h,vi y,.slice i e.length k] 364 :: OwnSl EL 394 g h d :: OwnSl ET 314 i k e :: l) c w) (λc w V W=>⟨_,_,_,_,jf rf tv nl5 r V W⟩) ?_)))))))))));rintro⟨d,y,e,A⟩ _ O c w ⟨g,h,i,k,_,m,_,Z,a2⟩;have⟨G,U⟩:=m.u2 x U;refine Cod.at Z a2 (.F (.D 1 1966144 r (.B (.A r O (λP O=>?_) λP O=>?_))))
 . refine .P 917568 r (.B (.E (.M 1 r ?_)));have⟨b1,_,H,O⟩:=O;obtain⟨_,_,_,b3,R,_,_,rfl,B⟩:=U.2 _ _ H;refine .U qV ZT b3 b1 H r (.x 0 JY R r (.D 2 917952 r (.C (.G 3 r ?_))));refine .cS (.f call286 r) (.o WZ r) r (P5 (o0:=({ heads:=d,r:=y,out:=e }:AJ)) (b2:=F) (p3:=g) (c4:=h) (p6:=i) (c7:=k) B O:) λ_ _ _ T a8=>?_;obtain⟨_,_,_,_,_,rfl,rfl,O⟩:=a8;have⟨_,b0,U,B⟩:=T.u4 G m U B;exact .rn 3 r (.L 917568 r (.C (.G 2 r (.H λc w V W=>⟨_,O,_,_,_,_,jf b0 tv WZ r V W⟩))))
 refine .en 64 r (.B (.E (.lx O [6] [] r (λj E l (p,N,q)=>λc w=>∃ a b s u,j ⟨41,[],none⟩ (λI_=>True) E (pc F #[.slice a p.length b,vi N,.slice s q.length u] 364 :: OwnSl EL 394 a b p :: OwnSl ET 314 s u q :: l) c w) (λc w V W=>⟨_,_,_,_,jf rf tv WZ r V W⟩) ?_)));rintro⟨p,N,q⟩ _ O c w ⟨a,b,s,u,a6,K,_,Z,a2⟩;have⟨L,c0⟩:=K.u2 G m;refine Cod.at Z a2 (.B (.M 3 r (.I UC .z r ?_)));have X:=λ(J:IH) (hJ:IH.le a6 J) (hL:V6 J [OwnSl EL 394 a b p])=>pR (I:=J) (ApP hL.1) O;refine .callB (.f call287 r) (.o [1] r) X r r λ_ _ Y=>?_;obtain⟨_,rfl,O⟩:=Y;refine .D 1 17179869248 r (.A r O (λc1 O=>?_) λc1 O=>?_)
 . refine .P 64 r (.E (.C (.G 1 r ?_)));refine .cS (.f call288 r) (.o WZ r) r (ZF (I:=a6) (b2:=F) (p3:=a) (c4:=b) (p6:=s) (c7:=u) O:) λ_ _ _ a3 a4=>?_;obtain⟨_,_,_,_,_,rfl,rfl,O⟩:=a4;have⟨_,_,a5⟩:=a3.u3 L c0 K;exact .rn 3 r (.H λc w V W=>⟨_,O,_,_,_,_,jf a5 tv WZ r V W⟩)
 exact .en 64 r (.M 3 r (.I JY .z r (.D 2 48 r (.drop .z (.drop .z (.J (DZ r (.t r (.t r .n)) L (.o [0] r) ⟨(q,0),_,_,r,r,O⟩)))))))
theorem AdE {a0 a1 a2 Q} (W:RepSl B0 I p1 c2 a0.Draws) (Z:iA I gg4 a1) (J:YH a0 a1 a2 Q) :
  B3 prog 289 [.agg (LU a0 p1 c2),.agg (GM a1 gg4),vi a2] I (λI_ v=>∃ r p6 c7,v=.tuple #[.slice p6 r.1.length c7,.bool r.2]∧RepSl EH I_ p6 c7 r.1∧Q r):=by
 refine Fun.ee func289 ntmps289 r ?_;refine .F (.bx r λ_=>.bx r λ_=>?_);refine .G 2 r (.ns 24 r (.S QB QA .p1 r (.S JP DJ .z r (.ca call233 r (W6 W Z J:) λ_ _ f L=>?_))));obtain⟨_,_,rfl,a,J⟩:=L;have⟨W,Z⟩:=f.u2 W Z;refine .R DJ .z r (.V 24 1 r (.L 280 r (.B (.jn J [4] [0] r (λj E l a3=>j ((8,vi a3) :: E) l) (λ_ J=>?_) ?_))))
 . refine .M 1 r (.I fF .p1 r (.L 65808 r (.drop .p1 (.E (.F (.D 2 196880 r (.A r J (λN J=>?_) λN J=>?_)))))))
   . exact .C (.G 1 r (.H (je (-1) J rf [0] r)))
   refine .F (.D 2 524560 r (.A r J (λa4 J=>?_) λa4 J=>?_))
   . exact .AC (je 0 J rf [0] r)
   exact .F (.D 2 192 r (.drop .z (.J (B5 r (.t r (.t r .n)) f ⟨(([]:List Int),true),_,_,r,(.nil _ _ _),J⟩))))
 refine λa3 J=>jq r λ_ k=>?_;have⟨P,a⟩:=k.u2 f a;refine .F (.D 1 784 r (.B (.M 1 r (.I FX .z r (.ln DF r (.D 1 29360912 r (.E (.own0 B0 3 (.lx J [23,22,8,4] [1] r (λj E l (e,b)=>λc w=>∃ g h,j ⟨44,[],none⟩ (λI_=>True) ((9,.slice g e.length h) :: (24,vi b) :: E) (OwnSl B0 3 g h e :: l) c w) (λc w O U=>⟨_,_,jf rf tv I5 r O U⟩) ?_)))))))));rintro⟨e,b⟩ _ J c w ⟨g,h,_,d,_,a6,a7⟩;have⟨m,o,a⟩:=d.u3 P k a;refine Cod.at a6 a7 (.F (.D 1 62915344 r (.B (.A r J (λp J=>?_) λp J=>?_))))
 . refine .P 29360912 r (.B (.E (.M 1 r ?_)));have⟨R,_,q,_,_,S,s,J⟩:=a.1.ix J;refine .U DF XP S R q r (.x 0 LY s r (.G 2 r (.V 29363984 3 r (.L 2176845584 r (.A r J (λu J=>?_) λu J=>?_)))))
   . refine .C (.G 2 r (.bs 1 BE D3 jX r λ_=>?_));have⟨x,J⟩:=J;exact .ap (ys:=[b]) .p1 BE BE IN3 r (.box .z (.one r) r) x λ_ _=>.D 1 29360912 r (.drop .p1 (.C (.G 2 r (.H λc w O U=>⟨_,J,_,_,jf d tv I5 r O U⟩))))
   exact .P 29360912 r (.C (.G 2 r (.H λc w O U=>⟨_,J,_,_,jf d tv I5 r O U⟩)))
 refine .en 528 r (.M 1 r (.I AM .p1 r (.G 1 r (.I AM .p1 r (.G 2 r (.y .z λ_ y i=>?_))))));have⟨A,B,C,a⟩:=y.u4 m o d a;refine .ca call27 r (MY i J:) λ_ _ F G=>?_;obtain⟨T,_,_,rfl,a5,J⟩:=G;have⟨H,_,_,a,i⟩:=F.u5 A B C a i;exact .D 2 192 r (.drop .z (.J (B5 r (.t r (.t r .n)) H ⟨(T,false),_,_,r,a5,J⟩)))
theorem AgK {a0 Q} (d:dP a0 Q) :
  B3 prog 324 [vi a0] I (λ_=>Y6 Q):=by
 refine Fun.ee func324 ntmps324 r (.F (.D 1 1 r (.B (.F (.D 1 8 r (.E (.B (.F (.D 2 24 r (.A r d (λa d=>?_) λa d=>?_))))))))))
 . exact .P 16 r (.Q r a (.F (.D 1 4 r (.r0 results324 r ⟨4611686018427387904,r,d⟩))))
 refine .F (.D 2 24 r (.A r d (λb d=>?_) λb d=>?_))
 . exact .P 16 r (.Q r b (.F (.D 1 4 r (.r0 results324 r ⟨4611686018427387904,r,d⟩))))
 refine .C (.D 2 16 r (.A r d (λc d=>?_) λc d=>?_))
 . exact .F (.D 1 4 r (.r0 results324 r ⟨4611686018427387904,r,d⟩))
 exact .P 0 r (.F (.D 1 4 r (.r0 results324 r ⟨0,r,d⟩)))
theorem nG {o0 a0 Q} (d:S2 o0 a0 Q) :
  Fun prog 323 #[.agg (AhN a0).toArray,vp b2] I [pc b2 #[vi o0] 3] (λ_ v l=>∃ r,v=.bool r∧l=[pc b2 #[vi o0] 3]∧Q r):=by
 refine Fun.ee func323 ntmps323 r (.F (.bx r λ_=>.G 1 r (.V 6 1 r (.I AM .z r (.G 2 r (.T d [6,7] r (λa d=>?_) λa d=>?_))))))
 . exact .D 6 10 r (.drop .z (.q1 results323 rf [0] r ⟨true,r,r,d⟩))
 exact .G 1 r (.O r (.I AM .z r (.O r (.I AM .p1 r (.D 3 10 r (.drop .z (.q1 results323 rf [0] r ⟨(decide (o0<=a0.At)),r,r,d⟩)))))))
theorem LC {o0 a0 Q} (J:RepSl ET I p3 c4 a0) (h:E8 o0 a0 Q) :
  Fun prog 321 #[.slice p3 a0.length c4,.func (.func 323) #[] #[vp b2]] I [pc b2 #[vi o0] 3] (λ_ v l=>∃ r,v=vi r∧l=[pc b2 #[vi o0] 3]∧Q r):=by
 refine Fun.ee func321 ntmps321 r (.F (.D 1 3 r (.B (.M 1 r (.ln EK r (.D 1 387 r (.E (.lp h xX [0] r (λj E l d=>j ((8,vi d) :: E) l) (ji rf [0] r) ?_))))))));refine λd _ h=>jq r λp a=>?_;have J:=a.u1 J;refine .F (.D 1 899 r (.B (.A r h (λf h=>?_) λf h=>?_)))
 . refine .P 387 r (.B (.E (.M 2 r (.V 419 3 r ?_))));have⟨q,_,g,_,_,s,b,h⟩:=J.ix h;refine .U EK FG s q g r (.ldW isAgg314 FG b r r r r ?_);refine .cS (.c call323 r r) (.o [0] r) r (nG (I:=p) (b2:=b2) h:) λ_ _ _ i k=>?_;obtain⟨_,rfl,rfl,h⟩:=k;have⟨e,J,b⟩:=i.u3 a J b;refine .rn 1 r (.L 65955 r (.A r h (λm h=>?_) λm h=>?_))
   . exact .F (.D 2 18 r (.q1 results321 e [0] r ⟨d,r,r,h⟩))
   exact .P 387 r (.C (.G 2 r (.H (je (A5 (d+1)) h e [0] r))))
 exact .en 2 r (.F (.D 1 18 r (.q1 results321 a [0] r ⟨(-1),r,r,h⟩)))
theorem K0 {o0 a0 Q} (h:RepSl ET I p3 c4 a0) (J:CL o0 a0 Q) :
  Fun prog 322 #[.slice p3 a0.length c4,.func (.func 323) #[] #[vp b2]] I [pc b2 #[vi o0] 3] (λ_ v l=>∃ r,v=.bool r∧l=[pc b2 #[vi o0] 3]∧Q r):=by
 refine Fun.ee func322 ntmps322 r ?_;refine .M 1 r (.V 3 2 r ?_);refine .cS (.f call321 r) (.o [0] r) r (LC (b2:=b2) h J:) λ_ _ _ a c=>?_;obtain⟨d,rfl,rfl,J⟩:=c;have h:=a.u1 h;exact .rn 1 r (.D 2 18 r (.q1 results322 a [0] r ⟨(decide (0<=d)),r,r,J⟩))
theorem AgL {a0 a1 a2 Q} (U:RepSl ET I p1 c2 a2) (J:dQ a0 a1 a2 Q) :
  B3 prog 293 [vi a0,vi a1,.slice p1 a2.length c2] I (AwH Q):=by
 refine Fun.ee func293 ntmps293 r (.F (.box1 r r r r λd1=>.al CC r λ_=>.D 1 85 r (.B (.E (.M 1 r (.v call100 (TC (I:=I) J:) r λ_ J=>.D 2 16469 r (.A r J (λX J=>?_) λX J=>?_)))))))
 . exact .F (.bd CC F4 GQ r (.R AQ .z r (.D 1 192 r (.drop .p1 (.J (B5 r (.w BK AQ r .z r (.t r .n)) rf ⟨(CJ,8),_,_,r,(.nil _ _ _),J⟩))))))
 refine .B (.F (.I AM .p1 r (.G 2 r (.T J [21,22] r (λY J=>?_) λY J=>?_))))
 . exact .D 4 524373 r (.Q r r (.P 524373 r (.Q r r (.F (.bd CC F4 GQ r (.R AQ .z r (.D 1 192 r (.drop .p1 (.J (B5 r (.w BK AQ r .z r (.t r .n)) rf ⟨(CJ,3),_,_,r,(.nil _ _ _),J⟩))))))))))
 refine .O r (.I AM .p1 r (.D 3 524373 r (.A r J (λu J=>?_) λu J=>?_)))
 . exact .P 524373 r (.Q r u (.F (.bd CC F4 GQ r (.R AQ .z r (.D 1 192 r (.drop .p1 (.J (B5 r (.w BK AQ r .z r (.t r .n)) rf ⟨(CJ,3),_,_,r,(.nil _ _ _),J⟩))))))))
 refine .C (.G 1 r (.mkFn r r r r ?_));refine .cS (.f call322 r) (.o [1] r) r (K0 (b2:=d1) U J:) λ_ _ _ k a3=>?_;obtain⟨_,rfl,rfl,J⟩:=a3;have U:=k.u1 U;refine .rn 2 r (.D 1 524373 r (.A r J (λa4 J=>?_) λa4 J=>?_))
 . exact .F (.bd CC F4 GQ r (.R AQ .p1 r (.D 1 192 r (.drop .z (.J (B5 r (.w BK AQ r .z r (.t r .n)) k ⟨(CJ,3),_,_,r,(.nil _ _ _),J⟩))))))
 refine .P 85 r (.B (.M 1 r (.ln EK r (.D 1 6442451029 r (.E (.lp J [31,6,4,2,0] I5 r (λj E l e=>j ((32,vi e) :: E) l) (ji rf I5 r) ?_))))));refine λe _ J=>jq r λ_ b=>?_;have⟨q,U⟩:=b.u2 k U;refine .F (.D 1 15032385621 r (.B (.A r J (λA J=>?_) λA J=>?_)))
 . refine .P 6442451029 r (.B (.E (.F (.D 2 6442451285 r (.B (.dr AsV 16 (.K 3 r ?_)))))));refine D5 J (λg J=>?_) λg J=>?_
   . rw[g];refine .K 3 r ?_;have⟨a5,_,B,_,_,a6,C,J⟩:=U.ix J;refine .h r (.O r (.U EK FG a6 a5 B r .mk)) (.K 1 r (.h r (.O r (.x 0 AM C r .mk)) (.K 2 r ?_)));have⟨a7,_,D,_,_,a8,F,J⟩:=U.ix J;refine .h r (.O r (.U EK FG a8 a7 D r .mk)) (.K 1 r (.h r (.O r (.x 0 AM F r .mk)) (.K 2 r (.e2 16 (.L 1125906349293653 r (.A r J (λG J=>?_) λG J=>?_))))))
     . exact .F (.bd CC F4 GQ r (.R AQ .p1 r (.D 1 192 r (.drop .z (.J (B5 r (.w BK AQ r .z r (.t r .n)) q ⟨(CJ,6),_,_,r,(.nil _ _ _),J⟩))))))
     exact .P 6442451029 r (.C (.G 2 r (.H (je (A5 (e+1)) J b I5 r))))
   rw[g];exact .K 13 r (.e2 16 (.L 1125906349293653 r (.Z r r (.P 6442451029 r (.C (.G 2 r (.H (je (A5 (e+1)) J b I5 r))))))))
 refine .en 85 r (.F (.I AM .z r (.bd CC F4 GQ r (.al CC r λa9=>.R AQ .z r (.L 581 r (.drop .p1 (.B (.M 1 r (.ln EK r (.D 1 252201579132748353 r (.E (.own0 CB 300 (.lx J [56,55,9,6,0] [2] r (λj E l (a,i)=>λc w=>∃ m p,j ⟨86,[],none⟩ (λ_=>True) ((57,vi i) :: E) (pc a9 #[vi a1,.slice m a.length p] 235 :: OwnSl CB 300 m p a :: l) c w) (λc w V W=>⟨_,_,jf rf tv nl7 r V W⟩) ?_)))))))))))));rintro⟨a,i⟩ _ J c w ⟨m,p,v,d,_,d2,d3⟩;have⟨s,H,U⟩:=d.u3 q b U;refine Cod.at d2 d3 (.F (.D 1 540431955284460097 r (.B (.A r J (λc0 J=>?_) λc0 J=>?_))))
 . refine .P 252201579132748353 r (.B (.E (.F ?_)));have⟨b0,x,K,_,_,b1,L,J⟩:=U.ix J;refine .U EK FG b1 b0 K r (.ldW isAgg314 FG L r r r r (.al gE r λ_=>.R FG .z r (.V 252201579132750401 2 r (.AA BJ AR r .z (.o 2 r) r r r (.v call103 (gI (I:=v) J:) r λy J=>.D 5 252201579132762689 r (.B (.F (.D 2 590548011937838406209 r (.A r J (λP J=>?_) λP J=>?_)))))))))
   . exact .F (.bd CC F4 GQ r (.R AQ .p3 r (.D 1 192 r (.drop .z (.drop .z (.drop .z (.J (B5 r (.w BK AQ r .z r (.t r .n)) s ⟨(CJ,12),_,_,r,(.nil _ _ _),J⟩))))))))
   refine .P 252201579132754497 r (.M 2 r (.v call324 (AgK (I:=v) J:) r λ_ J=>.D 1 18889718133057713609281 r (.A r J (λS J=>?_) λS J=>?_)))
   . refine .C (.G 1 r (.I HO .p1 r (.G 1 r (.I AM .z r (.G 1 r (.bd L8 vD vB r (.bs 1 DX DN L8 r λ_=>?_)))))));have⟨T,J⟩:=J;exact .ap (ys:=[({ At:=x.At,Val:=y.1 }:B9)]) .p3 DX DX vA r (.box .z (.one r) r) T λ_ _=>.G 1 r (.s1 sizeOf233 .p3 r (.L 252201579132748353 r (.drop .p1 (.drop .p1 (.C (.G 2 r (.H λc w V W=>⟨_,J,_,_,jf d tv nl7 r V W⟩)))))))
   exact .P 252201579132748353 r (.drop .z (.C (.G 2 r (.H λc w V W=>⟨_,J,_,_,jf d tv WZ r V W⟩))))
 refine .en 576 r (.F (.S BK AQ .z r (.R AQ .p2 r (.D 1 192 r (.drop .z (.y .z λ_ c1 b3=>?_))))));have⟨d0,_,_⟩:=c1.u3 s H d;exact .J (B5 r (.w BK AQ r .z r (.t r .n)) d0 ⟨(({ N:=a1,Items:=a }:Vec),0),_,_,r,b3,J⟩)
theorem gO {a0 a1 a2 Q} (W:RepSl B0 I p1 c2 a0.Draws) (J:IX a0 a1 a2 Q) :
  B3 prog 351 [.agg (LU a0 p1 c2),vi a1,vi a2] I (λ_=>Y6 Q):=by
 refine Fun.ee func351 ntmps351 r (.F (.bx r λ_=>.D 1 14 r (.B (.M 1 r (.v call212 (M9 (I:=I) J:) r λ_ J=>.G 2 r (.T J [11,12] r (λb J=>?_) λb J=>?_))))))
 . exact .D 7 524302 r (.Q r r (.F (.D 1 64 r (.drop .z (.r0 results351 r ⟨0,r,J⟩)))))
 refine .G 2 r (.O r (.I AM .z r (.G 1 r ?_)));refine .O r (.AE call212 r (M9 (I:=I) J:) r r λ_ d=>?_);obtain⟨_,rfl,J⟩:=d;refine .D 2 524302 r (.A r J (λe J=>?_) λe J=>?_)
 . exact .F (.D 1 64 r (.drop .z (.r0 results351 r ⟨0,r,J⟩)))
 refine .P 14 r (.F (.D 1 142 r (.B (.M 1 r (.I FX .z r (.ln DF r (.G 1 r (.V 398 2 r (.L 16777614 r (.A r J (λf J=>?_) λf J=>?_))))))))))
 . refine .dr Aj2 12 (.K 1 r (.X FX 0 r (.K 2 r (.X AM 0 r (.K 4 r ?_)))));have⟨g,J⟩:=J;refine .h r (.rem r r g r r .mk) ?_;have⟨k,l,i,_,_,m,j,J⟩:=W.ix J;exact .h r (.U DF XP m k i r .mk) (.h r (.x 0 LY j r .mk) (.e2 12 (.D 1 132 r (.drop .z (.M 1 r (.shl' r r (by decide) r r (.D 3 64 r (.r0 results351 r ⟨(yX .i64 (shl .i64 l 12) a2),r,J⟩))))))))
 exact .P 132 r (.drop .z (.M 1 r (.shl' r r (by decide) r r (.D 3 64 r (.r0 results351 r ⟨(yX .i64 (shl .i64 0 12) a2),r,J⟩)))))
theorem rD {a0 Q} (d:N6 a0 Q) :
  B3 prog 352 [vi a0] I (λ_=>Y6 Q):=by
 exact Fun.ee func352 ntmps352 r (.M 1 r (.V 1 2 r (.shr' r r (by decide) r r (.D 1 4 r (.r0 results352 r ⟨(shr .i64 (A5 (a0 - 1)) 1),r,d⟩)))))
theorem AdF {a0 a1 a2 a3 Q} (R3:RepSl B0 I p1 c2 a0.Draws) (Z:iA I gg4 a1) (O:TR a0 a1 a2 a3 Q) :
  B3 prog 328 [.agg (LU a0 p1 c2),.agg (GM a1 gg4),vi a2,vi a3] I (λ_=>o7_ Q):=by
 refine Fun.ee func328 ntmps328 r (.F (.bx r λ_=>.bx r λ_=>.G 2 r (.V 60 1 r (.I P1 .z r (.G 1 r (.v call292 (NG Z.2.2 O:) r λc O=>?_))))));refine .D 1 1084 r (.B (.M 1 r (.I fF .p1 r (.L 66620 r (.E (.F (.D 2 197692 r (.A r O (λg O=>?_) λg O=>?_))))))))
 . exact .M 1 r (.I AM .z r (.D 5 768 r (.drop .z (.drop .z (.J (B5 r (.t r (.t r .n)) rf ⟨(A5 (a1.Low+a3),c),r,O⟩))))))
 refine .F (.D 2 16778300 r (.A r O (λi O=>?_) λi O=>?_))
 . refine .B (.F (.D 3 268436540 r (.A r O (λj O=>?_) λj O=>?_)))
   . exact .F (.D 3 768 r (.drop .z (.drop .z (.J (B5 r (.t r (.t r .n)) rf ⟨(1,c),r,O⟩)))))
   refine .P 60 r (.B (.dr [0,1,3,4,5,6,8,9,10,11,12,13,2,7,14] 15 (.h r (.S QB QA .p1 r .mk) (.K 2 r (.X AM 0 r (.K 3 r (.X FX 0 r (.K 1 r ?_))))))));have⟨d,p,a,_,_,e,b,O⟩:=Z.1.ix O;refine .h r (.U DF XP e d a r .mk) (.h r (.x 0 LY b r .mk) (.K 1 r (.Y r (.v call352 (rD (I:=I) O:) r λ_ O=>?_))));refine .q 2 r (.j 1 r r (.W r (.x 0 LY b r .mk) (.W r (.U DF XP e d a r .mk) (.j 1 r r (.W r (.I FX .z r .mk) (.j 3 r r (.W r (.I AM .z r .mk) (.j 1 r r (.W r (.S QB QA .p1 r .mk) tv))))))))) (.Y r ?_);refine .v call351 (gO R3 O:) r λq O=>?_;exact .q 2 r (.j 1 r r (.W r (.x 0 LY b r .mk) (.W r (.U DF XP e d a r .mk) (.j 1 r r (.W r (.I FX .z r .mk) (.j 1 r r tv)))))) (.K 1 r (.e2 15 (.D 1 768 r (.drop .z (.drop .z (.J (B5 r (.t r (.t r .n)) rf ⟨(q,p==0),r,O⟩)))))))
 refine .P 1064 r (.drop .p1 (.M 1 r (.I FX .z r (.G 1 r ?_))));have⟨s,u,m,_,_,v,o,O⟩:=Z.1.ix O;exact .U DF XP v s m r (.x 0 LY o r (.D 3 768 r (.drop .z (.J (B5 r (.t r (.t r .n)) rf ⟨(u,c),r,O⟩)))))
theorem AjA {a0 a1 a2 Q} (U:RepSl B0 I p1 c2 a0.Draws) (R5:iA I gg4 a1) (O:kU a0 a1 a2 Q) :
  B3 prog 295 [.agg (LU a0 p1 c2),.agg (GM a1 gg4),vi a2] I (λI_ v=>∃ r p6 c7,v=.agg #[vi r.N,.slice p6 r.Items.length c7]∧RepSl CB I_ p6 c7 r.Items∧Q r):=by
 refine Fun.ee func295 ntmps295 r ?_;refine .F (.bx r λ_=>.bx r λ_=>?_);refine .al CC r λ_=>.ns 92 r (.S QB QA .p2 r (.S JP DJ .p1 r (.ca call233 r (W6 U R5 O:) λ_ _ f y=>?_)));obtain⟨e,_,rfl,g,O⟩:=y;have⟨U,R5⟩:=f.u2 U R5;refine .R DJ .p1 r (.V 92 1 r (.I AM .p1 r (.G 1 r (.I AM .p1 r (.G 1 r (.bd CC F4 GQ r (.al CC r λB=>?_)))))));refine .R AQ .z r (.L 220 r (.B (.M 1 r (.I AM .z r (.D 1 6291676 r (.E (.own0 CB 300 (.lx O [21,7,6,4,3,2] [4,3,2] r (λj E l (b,d)=>λc w=>∃ h i,j ⟨44,[],none⟩ (λI_=>True) ((22,vi d) :: E) (pc B #[vi (A5 (e.High - e.Low)),.slice h b.length i] 235 :: OwnSl CB 300 h i b :: l) c w) (λc w W Z=>⟨_,_,jf rf tv [1,0,2,1,0] r W Z⟩) ?_))))))));rintro⟨b,d⟩ _ O c w ⟨h,i,_,a,_,a3,a4⟩;have⟨m,U,g⟩:=a.u3 f U g;refine Cod.at a3 a4 (.F (.D 1 14680284 r (.B (.A r O (λo O=>?_) λo O=>?_))))
 . refine .P 6291676 r (.B (.E (.M 2 r (.ns 6291932 r (.S QB QA .p2 r (.S JP DJ .p3 r (.G 2 r (.v call328 (AdF U g O:) r λk O=>.G 5 r (.V 6293468 1 r (.L 8596227036 r (.A r O (λq O=>?_) λq O=>?_)))))))))))
   . refine .C (.G 1 r (.I HO .z r (.G 2 r (.bd L8 vD vB r (.bs 1 DX DN L8 r λ_=>?_)))));have⟨s,O⟩:=O;exact .ap (ys:=[({ At:=d,Val:=k.1 }:B9)]) .p2 DX DX vA r (.box .z (.one r) r) s λ_ _=>.G 1 r (.s1 sizeOf233 .p2 r (.L 6291676 r (.drop .p1 (.C (.G 2 r (.H λc w W Z=>⟨_,O,_,_,jf a tv [1,0,0,0,0] r W Z⟩))))))
   exact .P 6291676 r (.C (.G 2 r (.H λc w W Z=>⟨_,O,_,_,jf a tv nl8 r W Z⟩)))
 refine .en 192 r (.drop .p2 (.drop .p2 (.F (.S BK AQ .z r (.R AQ .p2 r (.L 64 r (.drop .z (.y .z λ_ t A=>?_))))))));have⟨u,_⟩:=t.u2 m a;exact .J (B5 r (.w BK AQ r .z r .n) u ⟨({ N:=A5 (e.High - e.Low),Items:=b }:Vec),_,_,r,A,O⟩)
theorem cU {a0 a1 Q} (d:O2 a0 a1 Q) :
  B3 prog 274 [.agg #[vi a0.1,vi a0.2],.agg #[vi a1.1,vi a1.2]] I (λ_=>AyC Q):=by
 refine Fun.ee func274 ntmps274 r (.F (.bx r λ_=>.bx r λ_=>.al fG r λ_=>.ns 28 r (.AB (i:=0) UA D3 r r (by decide) (o:=0) r r r (.I AM .p2 r (.AB (i:=0) UA D3 r r (by decide) (o:=0) r r r (.I AM .p1 r (.maxI r r r r (.G 1 r (.V 60 2 r (.AB (i:=1) UA D3 r r (by decide) (o:=1) r r r (.I AM .p2 r ?_)))))))))));exact .AB (i:=1) UA D3 r r (by decide) (o:=1) r r r (.I AM .p1 r (.minI r r r r (.maxI r r r r (.ba fG UA D3 r (.R fE .z r (.L 16 r (.drop .p1 (.drop .p1 (.J (B5 r (.w isAgg97 fE r .z r .n) rf ⟨((if a1.1 > a0.1 then a1.1 else a0.1),(if (if a1.2<a0.2 then a1.2 else a0.2) > (if a1.1 > a0.1 then a1.1 else a0.1) then (if a1.2<a0.2 then a1.2 else a0.2) else (if a1.1 > a0.1 then a1.1 else a0.1))),r,d⟩))))))))))
theorem AgM {a0 a1 a2 Q} (d:dR a0 a1 a2 Q) :
  B3 prog 329 [vi a0,vi a1,vi a2] I (λ_=>Y6 Q):=by
 refine Fun.ee func329 ntmps329 r (.F (.D 1 7 r (.B (.M 3 r (.T d [8,9] r (λb d=>?_) λb d=>?_)))))
 . exact .D 4 8199 r (.Q r r (.F (.D 1 64 r (.r0 results329 r ⟨0,r,d⟩))))
 refine .D 4 8199 r (.A r d (λc d=>?_) λc d=>?_)
 . exact .F (.D 1 64 r (.r0 results329 r ⟨0,r,d⟩))
 exact .P 7 r (.M 4 r (.v call144 (HW (I:=I) d:) r λe d=>.G 3 r (.v call144 (HW (I:=I) d:) r λf d=>.D 2 64 r (.r0 results329 r ⟨(A5 (e - f)),r,d⟩))))
theorem W8 {a0 a1 Q} (d:JU a0 a1 Q) :
  Fun prog 364 #[.agg (V9 a0).toArray,vi a1] I [] (λ_ v l=>∃ r,v=vi r∧l=[]∧Q r):=by
 exact Fun.ee func364 ntmps364 r (.F (.bx r λ_=>.G 1 r (.V 6 1 r (.I AM .z r (.G 1 r (.v call160 (DL (I:=I) d:) r λb d=>.D 1 16 r (.drop .z (.q1 results364 rf [] r ⟨b,r,r,d⟩))))))))
theorem GW {a0 a1 Q} (Z:RepSl CB I p1 c2 a0) (W:BQ a0 a1 Q) :
  Fun prog 363 #[.slice p1 a0.length c2,vi a1,.func (.func 364) #[] #[]] I [] (λ_ v l=>∃ r,v=.tuple #[vi r.1,.bool r.2]∧l=[]∧Q r):=by
 refine Fun.ee func363 ntmps363 r (.M 2 r (.V 7 1 r (.ln DX r (.G 1 r (.V 263 3 r (.L 1799 r (.B (.E (.lp W [8,2,1,0] [] r (λj E l (a,d)=>j ((9,vi a) :: (10,vi d) :: E) l) (ji rf [] r) ?_)))))))));rintro⟨a,d⟩ _ W;refine jq r λh b=>?_;have Z:=b.u1 Z;refine .B (.F (.D 3 132871 r (.A r W (λi W=>?_) λi W=>?_)))
 . refine .P 1799 r (.E (.M 3 r (.conv nQ underlying86 r r r (.shr' r r (by decide) r r (.conv underlying86 nQ r r r (.G 1 r (.V 3847 3 r ?_)))))));have⟨A,_,k,_,_,B,e,W⟩:=Z.ix W;refine .U DX DN B A k r (.ldW UB DN e r r r r (.G 1 r ?_));refine .cS (.c call364 r r) .n r (W8 (I:=h) W:) λ_ _ _ o p=>?_;obtain⟨_,rfl,rfl,W⟩:=p;have⟨g,Z,e⟩:=o.u3 b Z e;refine .rn 0 r (.D 1 2147487495 r (.A r W (λq W=>?_) λq W=>?_))
   . exact .C (.G 3 r (.H (je (A5 ((A5 (shr .u64 (IntKind.wrap .u64 (A5 (a+d))) 1))+1),d) W g [] r)))
   exact .C (.G 2 r (.H (je (a,A5 (shr .u64 (IntKind.wrap .u64 (A5 (a+d))) 1)) W g [] r)))
 refine .en 775 r (.M 5 r (.T W [38,39] r (λs W=>?_) λs W=>?_))
 . refine .G 3 r ?_;have⟨C,_,u,_,_,D,f,W⟩:=Z.ix W;refine .O r (.U DX DN D C u r (.O r (.ldW UB DN f r r r r (.G 1 r ?_))));refine .O r (.cS (.c call364 r r) .n r (W8 (I:=h) W:) λ_ _ _ x y=>?_);obtain⟨F,rfl,rfl,W⟩:=y;have⟨z,Z,f⟩:=x.u3 b Z f;exact .rn 0 r (.D 4 196 r (.J (DZ r (.t r (.t r .n)) z .n ⟨(a,F==0),r,r,W⟩)))
 exact .D 11 196 r (.J (DZ r (.t r (.t r .n)) b .n ⟨(a,false),r,r,W⟩))
theorem ZG {a0 a1 Q} (h:RepSl CB I p1 c2 a0.Items) (O:MS a0 a1 Q) :
  B3 prog 350 [.agg #[vi a0.N,.slice p1 a0.Items.length c2],vi a1] I (λ_=>o7_ Q):=by
 refine Fun.ee func350 ntmps350 r ?_;refine .F (.bx r λ_=>?_);refine .G 2 r (.V 6 1 r (.I HO .z r (.G 1 r (.cS (.f call363 r) .n r (GW h O:) λ_ _ _ a d=>?_))));obtain⟨b,rfl,rfl,O⟩:=d;have h:=a.u1 h;exact .rn 1 r (.D 4 48 r (.drop .z (.J (B5 r (.t r (.t r .n)) a ⟨(b.1,b.2),r,O⟩))))
theorem jK {o0 a0 Q} (d:PN o0 a0 Q) :
  Fun prog 353 #[.agg (V9 a0).toArray,vp b2] I [pc b2 #[vi o0] 3] (λ_ v l=>∃ r,v=.agg (V9 r).toArray∧l=[pc b2 #[vi o0] 3]∧Q r):=by
 exact Fun.ee func353 ntmps353 r (.F (.bx r λ_=>.al L8 r λ_=>.V 14 1 r (.I AM .p1 r (.I AM .p2 r (.G 2 r (.I LY .p1 r (.bd L8 vD vB r (.R DN .z r (.L 10 r (.drop .p1 (.J (DZ r (.w UB DN r .z r .n) rf (.o [1] r) ⟨({ At:=A5 (a0.At - o0),Val:=a0.Val }:B9),r,r,d⟩))))))))))))
theorem pT {o0 a0 Q} (U:RepSl CB I p3 c4 a0.Items) (O:O3 o0 a0 Q) :
  Fun prog 337 #[.agg #[vi a0.N,.slice p3 a0.Items.length c4],.func (.func 353) #[] #[vp b2]] I [pc b2 #[vi o0] 3] (λZ v l=>∃ r p6 c7,v=.agg #[vi r.N,.slice p6 r.Items.length c7]∧RepSl CB Z p6 c7 r.Items∧l=[pc b2 #[vi o0] 3]∧Q r):=by
 refine Fun.ee func337 ntmps337 r ?_;refine .F (.bx r λ_=>.al CC r λ_=>?_);refine .ns 22 r (.S BK AQ .p1 r (.ca call339 r (OX U O:) λ_ _ s P=>?_));obtain⟨t,_,_,rfl,u,O⟩:=P;have U:=s.u1 U;refine .R AQ .p1 r (.L 22 r (.B (.dr [0,1,2,3,6,4,5,999] 7 (.K 1 r (.X AM 1 r (.K 1 r (.X HO 1 r (.aP CC r (.Y r ?_)))))))));refine .AF call237 r (BP u O:) r r λ_ _ _ S T=>?_;obtain⟨_,_,_,rfl,rfl,O⟩:=T;have⟨a2,u⟩:=S.u2 s u;refine .q 4 r (.W r (.I AM .p2 r .mk) (.j 1 r r tv)) (.h r (.bd CC F4 GQ r .mk) (.b r λK=>DrawD.nop ?_));refine .e2 7 (.R AQ .p4 r (.L 50 r (.drop .p2 (.B (.M 1 r (.I HO .p3 r (.ln DX r (.D 1 917554 r (.E (.lx O [18,5,4,1] [2,1] r (λj E l (d,e)=>λc w=>∃ g f,j ⟨33,[],none⟩ (λZ=>True) ((17,.slice g d.length f) :: (19,vi e) :: E) (pc K #[vi t.N,.slice g d.length f] 235 :: OwnSl CB 300 g f d :: l) c w) (λc w V W=>⟨_,_,jf rf tv [3,0,1,0] r V W⟩) ?_))))))))));rintro⟨d,e⟩ _ O c w ⟨g,f,a3,i,_,a5,a6⟩;have p:=i.u1 a2;refine Cod.at a5 a6 (.F (.D 1 1966130 r (.B (.A r O (λA O=>?_) λA O=>?_))))
 . refine .P 917554 r (.B (.E (.M 1 r ?_)));have⟨x,_,k,O⟩:=O;refine .AG .p1 (CS k) λa4 X=>?_;cases X;refine .u DX DN r r x (BG k x) r r (.loA (j:=0) UB DN .p1 k r r (.o 2 r) r r r (.al L8 r λ_=>.G 1 r (.R DN .z r (.L 917746 r (.dr Aj3 6 (.K 1 r (.X HO 1 r (.K 2 r (.h r (.S UB DN .z r .mk) (.Y r ?_))))))))));refine .cS (.c call353 r r) (.o [3] r) r (jK (I:=a3) (b2:=b2) O:) λ_ _ _ D F=>?_;obtain⟨m,rfl,rfl,O⟩:=F;have⟨_,G⟩:=D.u2 p i;refine .rx 5 r (.q 5 r (.j 1 r r (.W r (.I HO .p2 r .mk) (.j 1 r r tv))) (.e2 6 ?_));have⟨y,_,q,O⟩:=O;exact .u DX DN r r y (BG q y) r r (.stOA (j:=0) (v':=m) DN .p3 q r r r (.o r) r r (.rl .p3 [17,25] r (by simp only[QX]) (.reat .p2 (B:=pc K #[vi t.N,.slice (some ⟨a4,0,none⟩) (d.set e.toNat m).length f] 235) (by simp only[QX]) (.L 917554 r (.drop .p1 (.C (.G 2 r (.H λc w V W=>⟨_,O,_,_,jf G tv Aj4 r V W⟩))))))))
 refine .en 50 r (.F (.S BK AQ .z r (.R AQ .p3 r (.L 18 r (.drop .z (.y .z λ_ H Y=>?_))))));have⟨J,_⟩:=H.u2 p i;exact .J (DZ r (.w BK AQ r .p1 r .n) J (.o [0] r) ⟨({ N:=t.N,Items:=d }:Vec),_,_,r,Y,r,O⟩)
theorem AdG {a0 a1 a2 Q} (U:RepSl CB I p1 c2 a0.Items) (O:YI a0 a1 a2 Q) :
  B3 prog 330 [.agg #[vi a0.N,.slice p1 a0.Items.length c2],vi a1,vi a2] I (AwG Q):=by
 refine Fun.ee func330 ntmps330 r ?_;refine .F (.bx r λ_=>.box1 r r r r λC=>?_);refine .al CC r λ_=>.ns 92 r (.S BK AQ .p2 r (.ca call339 r (OX U O:) λ_ _ e s=>?_));obtain⟨b,_,g,rfl,c,O⟩:=s;have U:=e.u1 U;refine .R AQ .p2 r (.L 92 r (.B (.dr wC 7 (.X AM 1 r (.h r (.maxI r r r r .mk) (.K 2 r (.X AM 2 r (.h r (.minI r r r r .mk) (.Y r ?_)))))))));refine .s1 D3 .p1 r (.P 3 r r r (.W r (.minI r r r r .mk) (.W r (.I AM .p2 r .mk) (.j 2 r r tv))) (.e2 7 (.D 1 92 r (.B (.M 1 r (.I AM .p1 r (.D 1 8388700 r (.A r O (λt O=>?_) λt O=>?_))))))))
 . exact .F (.bd CC F4 GQ r (.R AQ .z r (.L 64 r (.drop .p1 (.drop .p1 (.J (B5 r (.w BK AQ r .z r .n) e ⟨CJ,_,_,r,(.nil _ _ _),O⟩)))))))
 refine .P 92 r (.F (.S BK AQ .p2 r (.I AM .p1 r (.v call350 (ZG c O:) r λd O=>.G 5 r (.ns 220 r (.S BK AQ .p2 r (.G 1 r (.v call350 (ZG c O:) r λa O=>?_))))))));refine .D 5 732 r (.B (.dr Av5 9 (.K 1 r (.X AM 2 r (.K 1 r (.X HO 2 r (.K 2 r ?_)))))));have⟨l,_,_,O⟩:=O;have i:Int.toNat d.1<=Int.toNat a.1:=by omega
 have j:Int.toNat a.1<=b.Items.length:=by omega
 have⟨_,_,m,p,k⟩:=RepSl.sliceW c (Int.toNat d.1) (Int.toNat a.1) g i j (.inl rfl);refine .h r (.sliceW (L:=Int.toNat d.1) (H:=Int.toNat a.1) (cm:=g) DX DN r r c.1 r r r (.inr ⟨_,_,r,l,r⟩) (.inr ⟨_,_,r,(by omega),r⟩) (.inl r) i j r m p r r .mk) (.h r (.bd CC F4 GQ r .mk) (.Y r (.al CC r λ_=>?_)));refine .q 4 r (.W r (.bd CC F4 GQ r .mk) (.W r (.sliceW (L:=Int.toNat d.1) (H:=Int.toNat a.1) (cm:=g) DX DN r r c.1 r r r (.inr ⟨_,_,r,l,r⟩) (.inr ⟨_,_,r,(by omega),r⟩) (.inl r) i j r m p r r .mk) (.j 2 r r (.W r (.I HO .p3 r .mk) (.j 1 r r (.W r (.I AM .p3 r .mk) (.j 1 r r tv))))))) (.e2 9 (.R AQ .z r (.L 2132 r (.drop .p3 (.F (.S BK AQ .z r (.mkFn r r r r ?_)))))));refine .cS (.f call337 r) (.o [2] r) r (pT (a0:=({ N:=b.N,Items:=((b.Items.take a.1.toNat).drop d.1.toNat) }:Vec)) (b2:=C) k O:) λ_ _ _ y A=>?_;obtain⟨D,_,_,rfl,E,rfl,O⟩:=A;have⟨B,k⟩:=y.u2 e k;refine .rn 3 r (.al CC r λ_=>.R AQ .z r (.L 4180 r (.drop .p2 (.M 1 r (.I AM .p1 r (.G 2 r (.s1 D3 .z r (.L 4160 r (.drop .p1 (.F ?_))))))))));exact .S BK AQ .z r (.R AQ .p1 r (.L 64 r (.drop .z (.J (B5 r (.w BK AQ r .z r .n) B ⟨({ N:=A5 ((if b.N<a2 then b.N else a2) - (if 0 > a1 then 0 else a1)),Items:=D.Items }:Vec),_,_,r,E,O⟩)))))
theorem yF {a0 a1 a2 a3 a4 a5 Q} (O:RepSl CB I p1 c2 a0.Items) (D:VF a0 a1 a2 a3 a4 a5 Q) :
  B3 prog 296 [.agg #[vi a0.N,.slice p1 a0.Items.length c2],vi a1,vi a2,vi a3,vi a4,vi a5] I (AwG Q):=by
 refine Fun.ee func296 ntmps296 r (.F (.bx r λ_=>.al CC r λ_=>.L 4222 r (.B (.B (.dr AyV 25 (.K 1 r (.Y r (.v call271 (cP (I:=I) D:) r λ_ D=>.q 2 r tv (.K 2 r ?_)))))))));refine D5 D (λd D=>?_) λd D=>?_
 . refine .gn r d (.gn r d (.gn r d (.gn r d (.gn r d (.gn r d (.h r (.pickT r d r r r .mk) (.K 14 r (.e2 25 (.L 549755818110 r ?_)))))))));exact .Q r r (.F (.bd CC F4 GQ r (.R AQ .z r (.L 4096 r (.drop .p1 (.J (B5 r (.w BK AQ r .z r .n) rf ⟨CJ,_,_,r,(.nil _ _ _),D⟩)))))))
 refine .h r (.N r r d (.AD r r r .mk)) (.h r (.N r r d (.AD r r r .mk)) (.h r (.N r r d (.AD r r r .mk)) (.h r (.N r r d (.AD r r r .mk)) (.Y r ?_))));refine .N r r d (.AE call181 r (ZB (I:=I) D:) r r λ_ k=>?_);obtain⟨_,rfl,D⟩:=k;refine .q 2 r tv (.h r (.N r r d (.not r r r .mk)) (.h r (.pickF r d r r r .mk) (.K 1 r ?_)));refine D5 D (λe D=>?_) λe D=>?_
 . refine .gn r e (.gn r e (.gn r e (.h r (.pickT r e r r r .mk) (.K 9 r (.e2 25 (.L 549755818110 r (.Q r r (.F (.bd CC F4 GQ r ?_)))))))));exact .R AQ .z r (.L 4096 r (.drop .p1 (.J (B5 r (.w BK AQ r .z r .n) rf ⟨CJ,_,_,r,(.nil _ _ _),D⟩))))
 refine .h r (.N r r e (.S BK AQ .p1 r .mk)) (.Y r ?_);refine .N r r e (.AE call270 r (FQ O D:) r r λ_ m=>?_);obtain⟨_,rfl,D⟩:=m;refine .q 2 r tv (.h r (.N r r e (.not r r r .mk)) (.h r (.pickF r e r r r .mk) (.K 1 r ?_)));refine D5 D (λc D=>?_) λc D=>?_
 . refine .gn r c (.gn r c (.gn r c (.gn r c (.gn r c (.gn r c (.gn r c (.h r (.pickT r c r r r .mk) (.e2 25 (.L 549755818110 r ?_)))))))));exact .Q r r (.F (.bd CC F4 GQ r (.R AQ .z r (.L 4096 r (.drop .p1 (.J (B5 r (.w BK AQ r .z r .n) rf ⟨CJ,_,_,r,(.nil _ _ _),D⟩)))))))
 refine .h r (.N r r c (.fo F4 0 r D3 .mk)) (.h r (.N r r c (.I AM .p1 r .mk)) (.h r (.N r r c (.AD r r r .mk)) (.h r (.N r r c (.AD r r r .mk)) (.h r (.N r r c (.AD r r r .mk)) (.Y r ?_)))));refine .N r r c (.AE call329 r (AgM (I:=I) D:) r r λ_ q=>?_);obtain⟨_,rfl,D⟩:=q;refine .q 2 r (.W r (.N r r c (.I AM .p1 r .mk)) (.W r (.N r r c (.fo F4 0 r D3 .mk)) tv)) (.h r (.N r r c (.ne r r r r .mk)) (.h r (.pickF r c r r r .mk) (.e2 25 (.L 549755818110 r (.A r D (λs D=>?_) λs D=>?_)))))
 . exact .F (.bd CC F4 GQ r (.R AQ .z r (.L 4096 r (.drop .p1 (.J (B5 r (.w BK AQ r .z r .n) rf ⟨CJ,_,_,r,(.nil _ _ _),D⟩))))))
 refine .P 4222 r (.M 3 r (.v call183 (IK (I:=I) D:) r λ_ D=>.al fG r λ_=>.R fE .z r (.L 12394 r (.B (.dr [0,1,2,3,6,4,5,999] 7 (.h r (.S isAgg97 fE .z r .mk) (.K 3 r (.aP fG r (.Y r (.v call183 (IK (I:=I) D:) r λ_ D=>?_))))))))));refine .q 3 r (.W r (.S isAgg97 fE .z r .mk) tv) (.Y r (.v call274 (cU (I:=I) D:) r λ_ D=>.q 3 r tv (.b r λ_=>DrawD.nop ?_)));refine .e2 7 (.R fE .p3 r (.ns 28736 r (.S BK AQ .p2 r (.AB (i:=0) UA D3 r r (by decide) (o:=0) r r r (.I AM .p3 r (.AB (i:=0) UA D3 r r (by decide) (o:=0) r r r (.I AM .z r (.G 1 r (.AB (i:=1) UA D3 r r (by decide) (o:=1) r r r ?_)))))))));refine .I AM .p3 r (.AB (i:=0) UA D3 r r (by decide) (o:=0) r r r (.I AM .z r (.G 1 r ?_)));refine .ca call330 r (AdG O D:) λ_ _ f y=>?_;obtain⟨A,_,_,rfl,B,D⟩:=y;have O:=f.u1 O;exact .R AQ .p1 r (.L 4096 r (.drop .z (.drop .p1 (.drop .p1 (.J (B5 r (.w BK AQ r .z r .n) f ⟨A,_,_,r,B,D⟩))))))
theorem fM {a0 a1 Q} (J:O4 a0 a1 Q) :
  B3 prog 159 [.agg #[vi a0.1,vi a0.2],.agg #[vi a1.1,vi a1.2]] I (λ_=>Y6 Q):=by
 refine Fun.ee func159 ntmps159 r (.F (.bx r λ_=>.bx r λ_=>?_));refine .D 1 12 r (.B (.dr Av4 12 (.h r (.AB (i:=0) bW D3 r r (by decide) (o:=0) r r r .mk) (.X AM 1 r (.h r (.AB (i:=0) bW D3 r r (by decide) (o:=0) r r r .mk) (.X AM 0 r (.h r (.AB (i:=1) bW D3 r r (by decide) (o:=1) r r r .mk) (.X AM 1 r (.h r (.AB (i:=1) bW D3 r r (by decide) (o:=1) r r r .mk) (.X AM 0 r (.Y r ?_)))))))))));refine .v call160 (DL (I:=I) J:) r λf J=>.q 2 r (.W r (.I AM .z r .mk) (.W r (.AB (i:=1) bW D3 r r (by decide) (o:=1) r r r .mk) (.W r (.I AM .p1 r .mk) (.W r (.AB (i:=1) bW D3 r r (by decide) (o:=1) r r r .mk) tv)))) (.Y r (.v call160 (DL (I:=I) J:) r λa J=>.q 2 r tv (.Y r (.bs 2 BE D3 jX r λ_=>?_))));exact .q 3 r tv (.Y r (.pubB (El:=B0) (ys:=([f,a]:List Int)) (k:=2) .z (RepCs.cons (cs:=[vi f]) r (RepCs.cons (cs:=[vi a]) r .nil)) r λ_ d g=>.v call136 (LR g J:) r λj J=>.q 2 r tv (.e2 12 (.D 1 16 r (.drop .z (.drop .z (.r1 results159 r d ⟨j,r,J⟩)))))))
theorem cV {a0 Q} (O:RepSl B0 I p1 c2 a0) (J:JD a0 Q) :
  B3 prog 161 [.slice p1 a0.length c2] I (λ_=>Y6 Q):=by
 refine Fun.ee func161 ntmps161 r (.F (.D 1 1 r (.B (.M 1 r (.ln BE r (.D 1 129 r (.A r J (λk J=>?_) λk J=>?_)))))))
 . exact J.elim
 refine .P 1 r (.M 1 r ?_);have⟨m,_,e,_,_,n,f,J⟩:=O.ix J;refine .U BE D3 n m e r (.x 0 AM f r (.D 1 9 r (.B (.F (.D 1 25 r (.E (.lp J [0] [] r (λj E l (a,c)=>j ((3,vi a) :: (4,vi c) :: E) l) (ji rf [] r) ?_)))))));rintro⟨a,c⟩ _ J;refine jq r λ_ b=>?_;have O:=b.u1 O;refine .B (.M 2 r (.ln BE r (.D 1 32793 r (.A r J (λg J=>?_) λg J=>?_))))
 . refine .P 25 r (.B (.E (.C (.G 3 r ?_))));have⟨p,d,h,_,_,q,i,J⟩:=O.ix J;exact .U BE D3 q p h r (.x 0 AM i r (.minI r r r r (.D 1 25 r (.C (.G 3 r (.H (je ((if d<a then d else a),A5 (c+1)) J b [] r)))))))
 exact .en 8 r (.F (.D 2 4 r (.r1 results161 r b ⟨a,r,J⟩)))
theorem AdH {a0 a1 Q} (J:lTa I ga1 a0) (h:iH a0 a1 Q) :
  B3 prog 23 [.agg (YO a0 ga1),vi a1] I (λ_=>Y6 Q):=by
 refine Fun.ee func23 ntmps23 r (.F (.bx r λ_=>.D 1 6 r (.B (.M 1 r (.v call49 (M8 (I:=I) h:) r λ_ h=>.G 2 r (.T h [7,8] r (λb h=>?_) λb h=>?_))))))
 . exact .D 4 4102 r (.Q r r (.F (.D 1 16 r (.drop .z (.r0 results23 r ⟨0,r,h⟩)))))
 refine .O r (.S bX WK .z r ?_);refine .O r (.AE call50 r (OW J h:) r r λ_ d=>?_);obtain⟨_,rfl,h⟩:=d;refine .D 2 4102 r (.A r h (λe h=>?_) λe h=>?_)
 . exact .F (.D 1 16 r (.drop .z (.r0 results23 r ⟨0,r,h⟩)))
 exact .P 6 r (.M 1 r (.I AM .z r (.G 1 r (.I AM .z r (.D 7 16 r (.drop .z (.r0 results23 r ⟨(A5 ((A5 (4*(A5 ((A5 (a0.R+a0.C))+4))))*(A5 (a1+2)))),r,h⟩)))))))
theorem AdI {a0 Q} (W:iA I gg1 a0) (h:YJ a0 Q) :
  B3 prog 24 [.agg (GM a0 gg1)] I (λZ v=>∃ r p3 c4,v=.slice p3 r.length c4∧RepSl B0 Z p3 c4 r∧Q r):=by
 refine Fun.ee func24 ntmps24 r (.F (.bx r λ_=>.G 1 r (.V 2 1 r (.L 10 r (.B (.M 1 r (.I FX .z r (.ln DF r (.D 1 906 r (.E (.own0 B0 3 (.lx h [8,7,1] [1] r (λj E l (a,b)=>λc w=>∃ e f,j ⟨25,[],none⟩ (λZ=>True) ((3,.slice e a.length f) :: (9,vi b) :: E) (OwnSl B0 3 e f a :: l) c w) (λc w J O=>⟨_,_,jf rf tv I5 r J O⟩) ?_))))))))))));rintro⟨a,b⟩ _ h c w ⟨e,f,_,d,_,a3,a4⟩;have W:=d.u1 W;refine Cod.at a3 a4 (.F (.D 1 1930 r (.B (.A r h (λo h=>?_) λo h=>?_))))
 . refine .P 906 r (.B (.E (.M 1 r ?_)));have⟨p,_,g,_,_,q,a2,h⟩:=W.1.ix h;refine .U DF XP q p g r (.x 0 LY a2 r (.G 2 r (.V 954 2 r (.L 33690 r (.A r h (λi h=>?_) λi h=>?_)))))
   . refine .C (.G 2 r (.I AM .p1 r (.G 2 r (.bs 1 BE D3 jX r λ_=>?_))));have⟨k,h⟩:=h;exact .ap (ys:=[A5 (a0.Low+b)]) .p1 BE BE IN3 r (.box .z (.one r) r) k λ_ _=>.D 1 906 r (.drop .p1 (.C (.G 2 r (.H λc w J O=>⟨_,h,_,_,jf d tv I5 r J O⟩))))
   exact .P 906 r (.C (.G 2 r (.H λc w J O=>⟨_,h,_,_,jf d tv I5 r J O⟩)))
 refine .en 8 r (.drop .p1 (.F (.D 2 4 r (.y .z λ_ m s=>?_))));have n:=m.u1 d;exact .r1 results24 r n ⟨a,_,_,r,s,h⟩
theorem AjB {a0 Q} (d:kV a0 Q) :
  B3 prog 84 [vi a0] I (λ_=>bV Q):=by
 refine Fun.ee func84 ntmps84 r (.M 1 r (.V 1 3 r (.T d [4,5] r (λa d=>?_) λa d=>?_)))
 . exact .D 4 4 r (.r0 results84 r ⟨(decide (a0<=5)),r,d⟩)
 exact .D 4 4 r (.r0 results84 r ⟨false,r,d⟩)
theorem gP {a0 a1 Q} (d:RJ a0 a1 Q) :
  B3 prog 85 [.agg (J7 a0).toArray,.agg (J7 a1).toArray] I (λ_=>bV Q):=by
 refine Fun.ee func85 ntmps85 r (.F (.bx r λ_=>.bx r λ_=>.G 1 r (.V 12 1 r (.I AM .p1 r (.G 1 r (.I AM .z r (.G 2 r (.T d [9,10] r (λb d=>?_) λb d=>?_))))))))
 . exact .D 14 16 r (.drop .z (.drop .z (.r0 results85 r ⟨true,r,d⟩)))
 refine .G 1 r (.O r (.I AM .p1 r (.G 1 r (.O r (.I AM .z r (.G 2 r (.T d [15,16] r (λa d=>?_) λa d=>?_)))))))
 . exact .G 1 r (.O r (.I AM .p1 r (.G 1 r (.O r (.I AM .z r (.D 4 16 r (.drop .z (.drop .z (.r0 results85 r ⟨(decide (a0.To<a1.To)),r,d⟩)))))))))
 exact .D 8 16 r (.drop .z (.drop .z (.r0 results85 r ⟨false,r,d⟩)))
theorem AjC {a0 Q} (d:kW a0 Q) :
  B3 prog 86 [vi a0] I (λ_=>o5_ Q):=by
 refine Fun.ee func86 ntmps86 r (.F (.al EB r λ_=>.L 5 r (.B (.F (.D 2 21 r (.A r d (λa d=>?_) λa d=>?_))))))
 . exact .M 1 r (.conv xL Z0 r r r (.bd EB OJ OI r (.R AR .z r (.L 4 r (.J (B5 r (.w BJ AR r .z r .n) rf ⟨({ Hi:=(-1),Lo:=IntKind.wrap .u64 (a0) }:AP),r,d⟩))))))
 exact .P 5 r (.M 1 r (.conv xL Z0 r r r (.bd EB OJ OI r (.R AR .z r (.L 4 r (.J (B5 r (.w BJ AR r .z r .n) rf ⟨({ Hi:=0,Lo:=IntKind.wrap .u64 (a0) }:AP),r,d⟩)))))))
theorem rP {a0 a1 Q} (h:QQ a0 a1 Q) :
  B3 prog 123 [.agg (E9 a0).toArray,.agg (E9 a1).toArray] I (λ_=>Y6 Q):=by
 refine Fun.ee func123 ntmps123 r (.F (.bx r λ_=>.bx r λ_=>.D 1 12 r (.B (.jn h [3,2] mW r (λj E l _=>j E l) (λ_ h=>?_) ?_))))
 . refine .M 1 r (.I LY .p1 r (.G 1 r (.I LY .z r (.G 2 r (.T h [9,10] r (λb h=>?_) λb h=>?_)))))
   . exact .D 13 8388620 r (.Q r r (.F (.D 1 16 r (.drop .z (.drop .z (.r0 results123 r ⟨(-1),r,h⟩))))))
   refine .G 1 r (.O r (.I LY .p1 r (.G 1 r (.O r (.I LY .z r (.G 2 r (.T h [15,16] r (λc h=>?_) λc h=>?_)))))))
   . refine .G 1 r (.O r (.I FI .p1 r (.G 1 r (.O r (.I FI .z r (.D 3 8388620 r (.A r h (λd h=>?_) λd h=>?_)))))))
     . exact .F (.D 1 16 r (.drop .z (.drop .z (.r0 results123 r ⟨(-1),r,h⟩))))
     exact .AC (je () h rf mW r)
   exact .D 7 8388620 r (.Z r r (.AC (je () h rf mW r)))
 refine λ_ h=>jq r λ_ a=>.B (.F (.S BJ AR .z r (.S BJ AR .p1 r (.eqV r r (Aa7 a0 a1) (Aa8 _ _ _ _ _) r r r (.L 67108864 r (.drop .z (.drop .z (.A r h (λe h=>?_) λe h=>?_))))))))
 . exact .F (.D 1 16 r (.r1 results123 r a ⟨0,r,h⟩))
 exact .P 0 r (.F (.D 1 16 r (.r1 results123 r a ⟨1,r,h⟩)))
theorem gQ {a0 Q} (d:RK a0 Q) :
  B3 prog 124 [.bool a0] I (λ_=>o5_ Q):=by
 refine Fun.ee func124 ntmps124 r (.F (.al EB r λ_=>.L 5 r (.B (.F (.D 1 12 r (.A r d (λa d=>?_) λa d=>?_))))))
 . exact .F (.bd EB OJ OI r (.R AR .z r (.L 4 r (.J (B5 r (.w BJ AR r .z r .n) rf ⟨({ Hi:=0,Lo:=1 }:AP),r,d⟩)))))
 exact .P 4 r (.F (.bd EB OJ OI r (.R AR .z r (.L 4 r (.J (B5 r (.w BJ AR r .z r .n) rf ⟨GI,r,d⟩))))))
theorem AgN {a0 a1 Q} (d:dS a0 a1 Q) :
  B3 prog 125 [.agg (E9 a0).toArray,.agg (E9 a1).toArray] I (λ_=>o5_ Q):=by
 refine Fun.ee func125 ntmps125 r (.F (.bx r λ_=>.bx r λ_=>.al EB r λ_=>.V 28 1 r (.I FI .p2 r (.G 1 r (.I FI .p1 r (.G 2 r (.V 60 1 r (.I LY .p2 r (.G 1 r (.I LY .p1 r (.D 2 116 r ?_)))))))))));refine .drop .p1 (.B (.M 2 r (.I FI .p1 r (.D 1 1048688 r (.drop .p1 (.A r d (λa d=>?_) λa d=>?_))))))
 . exact .C (.G 3 r (.V 112 2 r (.bd EB OJ OI r (.R AR .z r (.L 16 r (.J (B5 r (.w BJ AR r .z r .n) rf ⟨({ Hi:=A5 ((A5 (a0.Hi+a1.Hi))+1),Lo:=IntKind.wrap .u64 (a0.Lo+a1.Lo) }:AP),r,d⟩)))))))
 exact .P 112 r (.M 2 r (.bd EB OJ OI r (.R AR .z r (.L 16 r (.J (B5 r (.w BJ AR r .z r .n) rf ⟨({ Hi:=A5 (a0.Hi+a1.Hi),Lo:=IntKind.wrap .u64 (a0.Lo+a1.Lo) }:AP),r,d⟩))))))
theorem AgO {a0 a1 a2 Q} (U:dT a0 a1 a2 Q) :
  B3 prog 87 [vi a0,.agg (E9 a1).toArray,.agg (E9 a2).toArray] I (λ_=>o5_ Q):=by
 refine Fun.ee func87 ntmps87 r (.F (.bx r λ_=>.bx r λ_=>.al EB r λ_=>.V 113 1 r (.L 240 r (.E (.B (.jn U [7,6,5,4] nl5 r (λj E l c=>j ((9,.bool c) :: E) l) (λ_ U=>?_) ?_))))))
 . refine .F (.D 2 752 r (.A r U (λd U=>?_) λd U=>?_))
   . exact .AC (je (a0==1) U rf nl5 r)
   refine .F (.D 2 752 r (.A r U (λe U=>?_) λe U=>?_))
   . exact .AC (je (a0==3) U rf nl5 r)
   exact .C (.G 2 r (.H (je (a0==4) U rf nl5 r)))
 refine λc U=>jq r λb a=>.A r U (λf U=>?_) λf U=>?_
 . refine .B (.F (.S BJ AR .p1 r (.S BJ AR .z r (.v call123 (rP (I:=b) U:) r λ_ U=>.D 1 65648 r (.A r U (λh U=>?_) λh U=>?_)))))
   . exact .F (.S BJ AR .p1 r (.R AR .p2 r (.L 64 r (.drop .z (.drop .z (.J (B5 r (.w BJ AR r .z r .n) a ⟨a2,r,U⟩)))))))
   exact .P 80 r (.drop .p1 (.F (.S BJ AR .z r (.R AR .p1 r (.L 64 r (.drop .z (.J (B5 r (.w BJ AR r .z r .n) a ⟨a1,r,U⟩))))))))
 refine .F (.D 2 524528 r (.A r U (λi U=>?_) λi U=>?_))
 . refine .F (.S BJ AR .z r (.bd EB OJ OI r (.neV r r (Aa7 a1 GI) (Aa8 _ _ _ _ _) r r r (.G 1 r (.T U [23,24] r (λk U=>?_) λk U=>?_)))))
   . exact .G 4 r (.v call124 (gQ (I:=b) U:) r λs U=>.R AR .p2 r (.L 64 r (.drop .z (.drop .z (.J (B5 r (.w BJ AR r .z r .n) a ⟨s,r,U⟩))))))
   exact .O r (.S BJ AR .p1 r (.O r (.bd EB OJ OI r (.O r (.neV r r (Aa7 a2 GI) (Aa8 _ _ _ _ _) r r r (.G 1 r (.v call124 (gQ (I:=b) U:) r λt U=>.R AR .p2 r (.L 64 r (.drop .z (.drop .z (.J (B5 r (.w BJ AR r .z r .n) a ⟨t,r,U⟩))))))))))))
 refine .F (.D 2 1073741936 r (.A r U (λp U=>?_) λp U=>?_))
 . exact .F (.S BJ AR .z r (.S BJ AR .p1 r (.v call125 (AgN (I:=b) U:) r λu U=>.R AR .p2 r (.L 64 r (.drop .z (.drop .z (.J (B5 r (.w BJ AR r .z r .n) a ⟨u,r,U⟩))))))))
 exact .F (.bd EB OJ OI r (.R AR .p2 r (.L 64 r (.drop .z (.drop .z (.J (B5 r (.w BJ AR r .z r .n) a ⟨GI,r,U⟩)))))))
theorem wM {a0 Q} (h:SP a0 Q) :
  B3 prog 88 [.agg (E9 a0).toArray] I (λ_=>o7_ Q):=by
 refine Fun.ee func88 ntmps88 r (.F (.bx r λ_=>.G 2 r (.V 2 1 r (.I FI .z r (.conv Z0 xL r r r (.D 1 18 r (.B (.M 1 r (.I LY .z r (.G 2 r (.T h [10,11] r (λb h=>?_) λb h=>?_)))))))))))
 . refine .G 4 r (.T h [13,14,15] r (λc h=>?_) λc h=>?_)
   . exact .D 8 8388624 r (.drop .z (.Q r r (.F (.D 3 12 r (.J (B5 r (.t r (.t r .n)) rf ⟨(A5 (a0.Lo),true),r,h⟩))))))
   refine .G 1 r (.O r (.I LY .z r (.G 2 r (.T h [18,19] r (λd h=>?_) λd h=>?_))))
   . refine .D 4 8388624 r (.drop .z (.A r h (λe h=>?_) λe h=>?_))
     . exact .F (.D 3 12 r (.J (B5 r (.t r (.t r .n)) rf ⟨(A5 (a0.Lo),true),r,h⟩)))
     exact .P 0 r (.F (.D 2 12 r (.J (B5 r (.t r (.t r .n)) rf ⟨(0,false),r,h⟩))))
   exact .D 4 8388624 r (.drop .z (.Z r r (.P 0 r (.F (.D 2 12 r (.J (B5 r (.t r (.t r .n)) rf ⟨(0,false),r,h⟩)))))))
 refine .G 5 r (.O r (.I LY .z r (.G 2 r (.T h [18,19] r (λf h=>?_) λf h=>?_))))
 . refine .D 4 8388624 r (.drop .z (.A r h (λa h=>?_) λa h=>?_))
   . exact .F (.D 3 12 r (.J (B5 r (.t r (.t r .n)) rf ⟨(A5 (a0.Lo),true),r,h⟩)))
   exact .P 0 r (.F (.D 2 12 r (.J (B5 r (.t r (.t r .n)) rf ⟨(0,false),r,h⟩))))
 exact .D 4 8388624 r (.drop .z (.Z r r (.P 0 r (.F (.D 2 12 r (.J (B5 r (.t r (.t r .n)) rf ⟨(0,false),r,h⟩)))))))
theorem rQ {a0 a1 Q} (J:RepSl CA I p1 c2 a1) (D:QR a0 a1 Q) :
  B3 prog 51 [vi a0,.slice p1 a1.length c2] I (o8_ Q):=by
 refine Fun.ee func51 ntmps51 r (.F (.D 2 3 r (.B (.M 1 r (.v call84 (AjB (I:=I) D:) r λ_ D=>.D 1 131075 r (.A r D (λj1 D=>?_) λj1 D=>?_))))))
 . exact .F (.D 2 48 r (.J (B5 r (.t r (.t r .n)) rf ⟨(([]:List B2),8),_,_,r,(.nil _ _ _),D⟩)))
 refine .P 3 r (.M 1 r (.V 67 1 r (.L 195 r (.B (.F (.D 1 451 r (.E (.own0 CA 73 (.own0 kR 150 (.lx D mW [] r (λj E l (q,s,u)=>λc w=>∃ K L N e8,j ⟨145,[],none⟩ (λI_=>True) ((6,.slice K q.length L) :: (7,.slice N s.length e8) :: (8,vi u) :: E) (OwnSl CA 73 K L q :: OwnSl kR 150 N e8 s :: l) c w) (λc w O U=>⟨_,_,_,_,jf rf tv mW r O U⟩) ?_))))))))));rintro⟨q,s,u⟩ _ D c w ⟨K,L,N,e8,_,d,_,V,Z⟩;have J:=d.u1 J;refine Cod.at V Z (.B (.M 2 r (.ln DU r (.D 1 2097603 r (.A r D (λd5 D=>?_) λd5 D=>?_)))))
 . refine .P 451 r (.B (.E (.F (.D 1 963 r (.B (.jn D [8,7,6,1,0] I5 r (λj E l e=>j ((9,vi e) :: E) l) (λ_ D=>?_) ?_))))))
   . refine .E (.lp D [8,7,6,1,0] I5 r (λj E l f=>j ((9,vi f) :: E) l) (ji rf I5 r) ?_);refine λf _ D=>jq r λg6 g=>?_;have⟨_,J⟩:=g.u2 d J;refine .B (.B (.ownF .z λd0=>.ownF .p1 λ_=>.dr AxE 15 (.K 2 r (.h r (.ln DU r .mk) (.K 2 r ?_)))));refine D5 D (λb D=>?_) λb D=>?_
     . refine .h r (.N r r b (.AD r r r .mk)) (.h r (.N r r b (.AD r r r .mk)) ?_);have⟨a7,_,x,D⟩:=D;have⟨_,g7⟩:=d0 (CS x);cases g7;refine .h r (.N r r b (.u DU D9 r r a7 (BG x a7) r r .mk)) (.h r (.N r r b (.loA (j:=0) OM D9 .z x r r (.o 3 r) r r r .mk)) (.h r (.N r r b (.AD r r r .mk)) (.h r (.N r r b (.AD r r r .mk)) ?_)));have⟨g8,_,d6,_,_,g9,d7,D⟩:=J.ix D;refine .h r (.N r r b (.U DU D9 g9 g8 d6 r .mk)) (.h r (.N r r b (.ldW OM D9 d7 r r r r .mk)) (.Y r ?_));refine .N r r b (.AE call85 r (gP (I:=g6) D:) r r λ_ d9=>?_);obtain⟨_,rfl,D⟩:=d9;refine .q 2 r tv (.h r (.pickT r b r r r .mk) (.e2 15 (.L 274877907907 r (.A r D (λe0 D=>?_) λe0 D=>?_))))
       . exact .P 963 r (.E (.C (.G 3 r (.H (je (A5 (f+1)) D g I5 r)))))
       exact .exit (je f D g I5 r)
     exact .gn r b (.gn r b (.gn r b (.gn r b (.gn r b (.gn r b (.gn r b (.gn r b (.gn r b (.h r (.pickF r b r r r .mk) (.e2 15 (.L 274877907907 r (.Z r r (.exit (je f D g I5 r))))))))))))))
   refine λe D=>jq r λa8 X=>?_;have⟨e1,J⟩:=X.u2 d J;refine .M 2 r ?_;have⟨h0,_,e3,_,_,h1,e4,D⟩:=J.ix D;refine .U DU D9 h1 h0 e3 r (.G 1 r (.x 2 LY e4 r (.v call86 (AjC (I:=a8) D:) r λa9 D=>.al EB r λ_=>.R AR .z r (.L 1987 r (.B (.B (.jn D [10,9,8,7,6,1,0] [1,1,0] r (λj E l b0=>j ((62,.bool b0) :: E) l) (λ_ D=>?_) ?_)))))))
   . refine .ownF .p1 λd1=>.ownF .p2 λ_=>.dr AsV 16 (.K 2 r (.h r (.ln DU r .mk) (.K 2 r ?_)));refine D5 D (λa D=>?_) λa D=>?_
     . refine .h r (.N r r a (.AD r r r .mk)) (.h r (.N r r a (.AD r r r .mk)) ?_);have⟨h2,_,e6,_,_,h3,e7,D⟩:=J.ix D;refine .h r (.N r r a (.U DU D9 h3 h2 e6 r .mk)) (.h r (.N r r a (.ldW OM D9 e7 r r r r .mk)) (.h r (.N r r a (.AD r r r .mk)) (.h r (.N r r a (.AD r r r .mk)) ?_)));have⟨b1,_,y,D⟩:=D;have⟨_,h4⟩:=d1 (CS y);cases h4;refine .h r (.N r r a (.u DU D9 r r b1 (BG y b1) r r .mk)) (.h r (.N r r a (.loA (j:=0) OM D9 .p1 y r r (.o 3 r) r r r .mk)) (.Y r ?_));refine .N r r a (.AE call85 r (gP (I:=a8) D:) r r λ_ e9=>?_);obtain⟨h5,rfl,D⟩:=e9;exact .q 3 r tv (.h r (.N r r a (.not r r r .mk)) (.h r (.pickT r a r r r .mk) (.e2 16 (.H (je (!h5) D rf [1,1,0] r)))))
     exact .gn r a (.gn r a (.gn r a (.gn r a (.gn r a (.gn r a (.gn r a (.gn r a (.gn r a (.gn r a (.h r (.pickF r a r r r .mk) (.e2 16 (.H (je false D rf [1,1,0] r)))))))))))))
   refine λb0 D=>jq r λh6 Y=>?_;have⟨j0,f0,J⟩:=Y.u3 e1 X J;refine .A r D (λf1 D=>?_) λf1 D=>?_
   . refine .B (.ownF .z λ_=>.ownF .p1 λd2=>.dr Av5 9 (.K 5 r ?_));have⟨b2,_,A,D⟩:=D;have⟨_,h7⟩:=d2 (CS A);cases h7;refine .h r (.u mF AR r r b2 (BG A b2) r r .mk) (.h r (.loA (j:=0) BJ AR .p1 A r r (.o 2 r) r r r .mk) (.h r (.S BJ AR .p2 r .mk) (.Y r (.v call87 (AgO (I:=h6) D:) r λb3 D=>.q 3 r (.j 2 r r tv) (.e2 9 ?_)))));have⟨b4,_,a2,D⟩:=D;exact .u mF AR r r b4 (BG a2 b4) r r (.stOA (j:=0) (v':=b3) AR .p1 a2 r r r (.o r) r r (.rl .p1 [7,63,66] r (by simp only[QX]) (.L 451 r (.drop .p2 (.en 451 r (.C (.G 3 r (.H λc w O U=>⟨_,D,_,_,_,_,jf j0 tv I5 r O U⟩))))))))
   refine .P 1987 r (.M 1 r (.bd QC AnD AnB r (.bs 1 DU D9 QC r λ_=>?_)));have⟨f3,D⟩:=D;refine .ap (ys:=[({ From:=0,To:=0,W:=0 }:B2)]) .p1 DU DU AcA r (.box .z (.one r) r) f3 λ_ _=>.D 1 1987 r (.drop .p1 (.M 1 r (.bd EB OJ OI r (.bs 1 mF AR EB r λ_=>?_))));have⟨f4,D⟩:=D;refine .ap (ys:=[GI]) .p2 mF mF AxZ r (.box .z (.one r) r) f4 λ_ _=>.D 1 1987 r (.drop .p1 (.B (.M 1 r (.ln DU r (.D 2 4035 r (.E (.lx D [10,9,8,1,0] [2] r (λj E l (i,k,m)=>λc w=>∃ P R S T,j ⟨145,[],none⟩ (λI_=>True) ((6,.slice P i.length R) :: (7,.slice S k.length T) :: (11,vi m) :: E) (OwnSl CA 73 P R i :: OwnSl kR 150 S T k :: l) c w) (λc w O U=>⟨_,_,_,_,jf rf tv nl7 r O U⟩) ?_)))))));rintro⟨i,k,m⟩ _ D c w ⟨P,R,S,T,_,a3,_,V,Z⟩;have⟨f5,_,_,J⟩:=a3.u4 j0 f0 Y J;refine Cod.at V Z (.B (.F (.D 3 77371252455336267181199299 r (.A r D (λf6 D=>?_) λf6 D=>?_))))
   . refine .P 4035 r (.B (.E (.M 5 r ?_)));have⟨b5,b6,B,D⟩:=D;refine .AG .z (CS B) λ_ h8=>?_;cases h8;refine .u DU D9 r r b5 (BG B b5) r r (.loA (j:=0) OM D9 .z B r r (.o 3 r) r r r ?_);have⟨b7,_,a4,D⟩:=D;refine .u DU D9 r r b7 (BG a4 b7) r r (.stOA (j:=0) (v':=b6) D9 .z a4 r r r (.o r) r r (.rl .z [6,89,91] r (by simp only[QX]) (.L 4035 r (.C (.G 5 r ?_)))));have⟨b8,b9,C,D⟩:=D;refine .AG .p1 (CS C) λ_ h9=>?_;cases h9;refine .u mF AR r r b8 (BG C b8) r r (.loA (j:=0) BJ AR .p1 C r r (.o 2 r) r r r ?_);have⟨c0,_,a5,D⟩:=D;exact .u mF AR r r c0 (BG a5 c0) r r (.stOA (j:=0) (v':=b9) AR .p1 a5 r r r (.o r) r r (.rl .p1 [7,97,99] r (by simp only[QX]) (.L 4035 r (.C (.G 3 r (.H λc w O U=>⟨_,D,_,_,_,_,jf a3 tv WZ r O U⟩))))))
   refine .en 1987 r (.B (.ownF .z λd3=>.ownF .p1 λd4=>.dr AxD 13 (.K 4 r ?_)));have⟨i0,c1,f7,_,_,i1,f8,D⟩:=J.ix D;refine .h r (.U DU D9 i1 i0 f7 r .mk) (.K 1 r (.h r (.x 0 AM f8 r .mk) (.K 2 r ?_)));have⟨i2,c3,f9,_,_,i3,g0,D⟩:=J.ix D;refine .h r (.U DU D9 i3 i2 f9 r .mk) (.K 1 r (.h r (.x 1 AM g0 r .mk) (.h r (.bd QC AnD AnB r .mk) (.e2 13 ?_))));have⟨c4,_,d8,D⟩:=D;have⟨_,i4⟩:=d3 (CS d8);cases i4;refine .u DU D9 r r c4 (BG d8 c4) r r (.stOA (j:=0) (v':=({ From:=c1.From,To:=c3.To,W:=0 }:B2)) D9 .z d8 r r r (.o r) r r (.rl .z [6,105] r (by simp only[QX]) (.L 1987 r (.C (.G 2 r (.S BJ AR .p2 r ?_))))));have⟨c5,_,F,D⟩:=D;have⟨_,i5⟩:=d4 (CS F);cases i5;exact .u mF AR r r c5 (BG F c5) r r (.stOA (j:=0) (v':=a9) AR .p1 F r r r (.o r) r r (.rl .p1 [7,119] r (by simp only[QX]) (.L 451 r (.drop .p2 (.C (.G 3 r (.H λc w O U=>⟨_,D,_,_,_,_,jf f5 tv I5 r O U⟩)))))))
 refine .en 192 r (.B (.F (.D 1 4288 r (.E (.lx D [7] [1] r (λj E l (p,v)=>λc w=>∃ f2 g2,j ⟨145,[],none⟩ (λI_=>True) ((6,.slice f2 p.length g2) :: (12,vi v) :: E) (OwnSl CA 73 f2 g2 p :: l) c w) (λc w O U=>⟨_,_,jf rf tv I5 r O U⟩) ?_)))));rintro⟨p,v⟩ _ D c w ⟨f2,g2,i6,G,_,V,Z⟩;have a6:=G.u1 d;refine Cod.at V Z (.B (.M 2 r (.ln DU r (.D 1 85070591730234615865843651857942057152 r (.A r D (λg1 D=>?_) λg1 D=>?_)))))
 . refine .P 4288 r (.B (.E (.M 2 r ?_)));have⟨c6,_,H,D⟩:=D;refine .AG .p1 (CS H) λ_ i7=>?_;cases i7;refine .u mF AR r r c6 (BG H c6) r r (.loA (j:=0) BJ AR .p1 H r r (.o 2 r) r r r (.v call88 (wM (I:=i6) D:) r λc7 D=>.D 5 28864 r (.B (.F (.D 2 348449143727040986586495598010130648543424 r (.A r D (λg3 D=>?_) λg3 D=>?_))))))
   . exact .F (.D 2 48 r (.drop .z (.drop .z (.J (B5 r (.t r (.t r .n)) a6 ⟨(([]:List B2),12),_,_,r,(.nil _ _ _),D⟩)))))
   refine .P 12480 r (.C (.G 3 r ?_));have⟨c8,c9,e5,D⟩:=D;refine .AG .z (CS e5) λ_ i8=>?_;cases i8;exact .u DU D9 r r c8 (BG e5 c8) r r (.G 1 r (.stO1 (j:=2) (v':=({ c9 with W:=c7.1 }:B2)) XP .z e5 r r r (.o r) r (.rl .z [6,139] r (by simp only[QX]) (.L 4288 r (.C (.G 3 r (.H λc w O U=>⟨_,D,_,_,jf G tv I5 r O U⟩)))))))
 refine .en 64 r (.drop .p1 (.F (.D 3 48 r (.y .z λ_ g4 i9=>?_))));have⟨g5,_⟩:=g4.u2 a6 G;exact .J (B5 r (.t r (.t r .n)) g5 ⟨(p,0),_,_,r,i9,D⟩)
theorem yG {a0 Q} (h:RepSl CA I p1 c2 a0.Edges) (D:VG a0 Q) :
  B3 prog 25 [.agg #[vi a0.N,.slice p1 a0.Edges.length c2]] I (o1_ Q):=by
 refine Fun.ee func25 ntmps25 r ?_;refine .F (.bx r λ_=>.al S6 r λ_=>?_);refine .V 6 1 r (.I P0 .p1 r (.ca call51 r (rQ h D:) λ_ _ a c=>?_));obtain⟨d,_,_,rfl,e,D⟩:=c;have h:=a.u1 h;exact .G 5 r (.V 14 1 r (.I AM .p1 r (.G 1 r (.bd S6 iN Ac9 r (.R DC .z r (.L 4 r (.drop .p1 (.J (B5 r (.w GA DC r .z r .n) a ⟨({ N:=a0.N,Edges:=d.1 }:Graph),_,_,r,e,D⟩)))))))))
theorem yH {a0 Q} (J:RepSl CA I p1 c2 a0.Edges) (D:VH a0 Q) :
  B3 prog 7 [.agg #[vi a0.N,.slice p1 a0.Edges.length c2]] I (o1_ Q):=by
 refine Fun.ee func7 ntmps7 r (.F (.bx r fun _=>.al S6 r fun _=>.V 6 1 r (.I AM .p1 r (.bd S6 iN Ac9 r (.al S6 r fun L=>.R DC .z r (.L 14 r (.B (.F (.D 1 30 r (.E (.own0 CA 73 (.lx D [3,2,1] [3,2] r (fun j E l (a,e)=>fun c w=>∃ f g,j ⟨35,[],none⟩ (fun _=>True) ((4,vi e) :: E) (pc L #[vi a0.N,.slice f a.length g] 24 :: OwnSl CA 73 f g a :: l) c w) (fun c w O Z=>⟨_,_,jf rf tv [1,0,1,0] r O Z⟩) ?_))))))))))))
 rintro ⟨a,e⟩ _ D c w ⟨f,g,_,b,_,a4,a5⟩
 have J:=b.u1 J
 refine Cod.at a4 a5 (.B (.M 2 r (.I P0 .p2 r (.ln DU r (.D 1 4126 r (.A r D (fun B D=>?_) fun B D=>?_))))))
 · refine .P 30 r (.B (.E (.ownF .p1 fun _=>.dr AyW 17 (.K 1 r (.X P0 0 r (.K 1 r (.X P0 2 r (.K 1 r ?_))))))))
   obtain ⟨C,i,m,_,_,a2,o,D⟩:=J.ix D
   refine .h r (.U DU D9 a2 C m r .mk) (.K 1 r (.h r (.x 0 AM o r .mk) (.K 1 r (.X P0 2 r (.K 1 r ?_)))))
   obtain ⟨F,k,p,_,_,G,q,D⟩:=J.ix D
   refine .h r (.U DU D9 G F p r .mk) (.K 1 r (.h r (.x 1 AM q r .mk) (.h r (.bd QC AnD AnB r .mk) (.Y r (.bs 1 DU D9 QC r fun _=>.q 5 r (.W r (.I P0 .p1 r .mk) (.j 1 r r tv)) (.Y r ?_))))))
   obtain ⟨s,D⟩:=D
   exact .ap (ys:=[({ From:=i.From,To:=k.To,W:=1 }:B2)]) .p2 DU DU AcA r (.box .z (.one r) r) s fun _ _=>.q 5 r tv (.e2 17 (.G 1 r (.s1 sizeOf22 .p2 r (.L 30 r (.drop .p1 (.C (.G 3 r (.H fun c w O Z=>⟨_,D,_,_,jf b tv [1,0,0,0] r O Z⟩))))))))
 refine .en 12 r (.drop .p2 (.F (.S GA DC .z r (.y .p1 fun H t d=>?_))))
 have u:=t.u1 b
 refine .ca call25 r (yG (I:=H) (a0:=({ N:=a0.N,Edges:=a }:Graph)) d D:) fun _ _ x y=>?_
 obtain ⟨a3,_,_,rfl,K,D⟩:=y
 obtain ⟨A,d⟩:=x.u2 u d
 exact .R DC .p1 r (.L 4 r (.drop .z (.J (B5 r (.w GA DC r .z r .n) A ⟨a3,_,_,r,K,D⟩))))
theorem wN {a0 Q} (U:RepSl B0 I p1 c2 a0) (h:SQ a0 Q) :
  B3 prog 8 [.slice p1 a0.length c2] I (λV v=>∃ r p4 c5,v=.slice p4 r.length c5∧RepSl (Y7 B0) V p4 c5 r∧Q r):=by
 refine Fun.ee func8 ntmps8 r (.M 1 r (.V 1 1 r (.ns 9 r (.mkMap vi B0 false r r λb9=>.D 1 25 r (.B (.M 1 r (.ln DF r (.D 1 7192 r (.E (.nest0 B0 3 30 (.lx h [11,10,4] [] r (λj E l (a,i,b)=>λc w=>∃ q t,j ⟨45,[],none⟩ (λV=>True) ((3,.slice q a.length t) :: (12,vi b) :: E) (FL B0 3 30 q t a :: OwnMap vi B0 false b9 i :: l) c w) (λc w J O=>⟨_,_,jf rf tv I5 r J O⟩) ?_)))))))))));rintro⟨a,i,b⟩ _ h c w ⟨q,t,_,m,_,W,Z⟩;have U:=m.u1 U;refine Cod.at W Z (.F (.D 1 15384 r (.B (.A r h (λF h=>?_) λF h=>?_))))
 . refine .P 7192 r (.B (.E (.M 1 r ?_)));have⟨a5,u,G,_,_,a6,H,h⟩:=U.ix h;refine .U DF XP a6 a5 G r (.x 0 LY H r (.G 2 r (.V 7288 2 r (.lookM2 (k:=u) (El:=B0) (ag:=false) (zv:=vi 0) (z:=0) (K2 xL) underlying74 jX ⟨[vi 0],r,.s⟩ .p1 r r h r r λ_ _ _ _ h a3 K=>?_))));cases a3;cases K;refine .D 5 7672 r (.B (.jx h [12,11,10,5,4] [] r (λj E l (d,x,e)=>λc w=>∃ y f,j ⟨45,[],none⟩ (λV=>True) ((3,.slice y d.length f) :: (7,vi e) :: E) (FL B0 3 30 y f d :: OwnMap vi B0 false b9 x :: l) c w) (λ_ h=>?_) ?_))
   . refine .F (.D 2 16784632 r (.A r h (λL h=>?_) λL h=>?_))
     . refine .M 1 r (.ln fC r (.G 1 r (.V 7416 3 r (.updM (k:=u) (El:=B0) (ag:=false) (v:=(a.length:Int)) (K2 xL) underlying74 .p1 r r r ⟨[vi (a.length:Int)],r,.s⟩ (.L 7352 r (.C (.G 1 r (.bs 1 fC aB zeroValue30 r λ_=>?_))))))));have⟨N,h⟩:=h;exact .appendN 24 .p1 fC fC AxV r r r r r r r r r (λ_=>.box .p2 (.one r) r) N r r λ_ _=>.G 1 r (.H λc w J O=>⟨_,h,_,_,jf rf tv [0,1] r J O⟩)
     exact .AC λc w J O=>⟨_,h,_,_,jf rf tv I5 r J O⟩
   rintro⟨d,x,e⟩ h c w ⟨y,f,_,a4,_,W,Z⟩;have⟨P,U⟩:=a4.u2 m U;refine Cod.at W Z (.C (.G 4 r ?_));have⟨B,n,g,h⟩:=h;refine .nestN .z λC=>.nestX .z λ_ a2=>?_;have⟨A,X⟩:=C (CS g);cases X;have⟨_,_,p⟩:=a2.2 _ _ g;refine .u fC aB r r B (BG g B) r r (.lo1 (j:=0) EJ .z p r r r r r (.G 1 r (.bs 1 BE D3 jX r λ_=>.nestF .p2 g p ?_)));have⟨R,h⟩:=h;refine .ap (ys:=[b]) .z BE BE IN3 r (.box .p2 (.one r) r) R λ_ _=>?_;have⟨D,_,o,h⟩:=h;have⟨_,_,_⟩:=a2.2 _ _ o;exact .u fC aB r r D (BG o D) r r (.nestSt aB .p1 r .z .p1 o r r r r (.sub (E':=[(3,.slice (some ⟨A,0,none⟩) (d.set e.toNat (n++([b]))).length f),(4,_),(5,_),(7,_),(10,_),(11,_),(12,_),(33,.slice (some ⟨A,0,none⟩) (d.set e.toNat (n++([b]))).length f),(34,_),(35,.slice (some ⟨A,0,none⟩) (d.set e.toNat (n++([b]))).length f),(36,_),(37,_),(38,_),(39,_),(40,_),(41,_),(42,_)]) ⟨(by simp only[QX]; rfl),r,r,r,r,r,r,(by simp only[QX]; rfl),r,(by simp only[QX]; rfl),r,r,r,r,r,r,r,tv⟩ (.L 7192 r (.drop .p1 (.C (.G 2 r (.H λc w J O=>⟨_,h,_,_,jf P tv I5 r J O⟩)))))))
 refine .en 8 r (.drop .p1 (.F (.D 2 4 r (.pubNest .z λ_ S Y=>?_))));have T:=S.u1 m;exact .r1 results8 r T ⟨a,_,_,r,Y,h⟩
theorem wO {a0 Q} (V:RepSl CA I p1 c2 a0.Edges) (J:SR a0 Q) :
  B3 prog 9 [.agg #[vi a0.N,.slice p1 a0.Edges.length c2]] I (o3_ Q):=by
 refine Fun.ee func9 ntmps9 r (.F (.bx r λ_=>.G 1 r (.V 2 1 r (.L 10 r (.B (.F (.D 1 26 r (.E (.own0 B0 2 (.lx J [1] [1] r (λj E l (u,i)=>λc w=>∃ C D,j ⟨59,[],none⟩ (λI_=>True) ((3,.slice C u.length D) :: (4,vi i) :: E) (OwnSl B0 2 C D u :: l) c w) (λc w O U=>⟨_,_,jf rf tv I5 r O U⟩) ?_))))))))));rintro⟨u,i⟩ _ J c w ⟨C,D,_,k,_,W,Z⟩;have V:=k.u1 V;refine Cod.at W Z (.B (.M 2 r (.I AM .p1 r (.D 1 4122 r (.A r J (λa7 J=>?_) λa7 J=>?_)))))
 . refine .P 26 r (.B (.E (.C (.G 2 r (.bs 1 DF XP zv2 r λ_=>?_)))));have⟨X,J⟩:=J;exact .ap (ys:=[i]) .p1 DF DF IN2 r (.box .z (.one r) r) X λ_ _=>.D 1 26 r (.drop .p1 (.C (.G 3 r (.H λc w O U=>⟨_,J,_,_,jf k tv I5 r O U⟩))))
 refine .en 10 r (.B (.F (.D 1 42 r (.E (.lx J [1] [1] r (λj E l (e,m)=>λc w=>∃ n p,j ⟨59,[],none⟩ (λI_=>True) ((3,.slice n e.length p) :: (5,vi m) :: E) (OwnSl B0 2 n p e :: l) c w) (λc w O U=>⟨_,_,jf rf tv I5 r O U⟩) ?_)))));rintro⟨e,m⟩ _ J c w ⟨n,p,_,f,_,W,Z⟩;have⟨v,V⟩:=f.u2 k V;refine Cod.at W Z (.B (.M 2 r (.I AM .p1 r (.D 1 4194346 r (.A r J (λa4 J=>?_) λa4 J=>?_)))))
 . refine .P 42 r (.B (.E (.F (.D 1 106 r (.E (.lx J [5,1] [1] r (λj E l (d,q)=>λc w=>∃ s t,j ⟨59,[],none⟩ (λI_=>True) ((3,.slice s d.length t) :: (6,vi q) :: E) (OwnSl B0 2 s t d :: l) c w) (λc w O U=>⟨_,_,jf rf tv I5 r O U⟩) ?_))))));rintro⟨d,q⟩ _ J c w ⟨s,t,_,x,_,W,Z⟩;have⟨_,P,V⟩:=x.u3 v f V;refine Cod.at W Z (.B (.M 2 r (.I P0 .p1 r (.ln DU r (.D 1 536871018 r (.A r J (λR J=>?_) λR J=>?_))))))
   . refine .P 106 r (.B (.E (.M 1 r (.I P0 .p1 r (.G 1 r ?_)))));have⟨Y,_,S,_,_,a8,T,J⟩:=V.ix J;refine .U DU D9 a8 Y S r (.ldW OM D9 T r r r r (.al QC r λ_=>.R D9 .z r (.L 234 r (.B (.ownF .p1 λG=>.dr nl9 11 (.K 2 r (.X AM 0 r ?_)))))));have⟨H,a,g,J⟩:=J;have⟨_,a1⟩:=G (CS g);cases a1;refine .h r (.u DF XP r r H (BG g H) r r .mk) (.h r (.lo1 (j:=0) LY .p1 g r r r r r .mk) (.K 2 r (.X AM 0 r ?_)));have⟨a3,b,y,J⟩:=J;refine .h r (.u DF XP r r a3 (BG y a3) r r .mk) (.h r (.lo1 (j:=0) LY .p1 y r r r r r .mk) (.h r (.minI r r r r .mk) (.e2 11 (.G 1 r (.V 490 2 r (.I AM .z r (.G 1 r ?_)))))));have⟨K,_,A,J⟩:=J;refine .u DF XP r r K (BG A K) r r (.stO1 (j:=0) (v':=(if b<a then b else a)) XP .p1 A r r r (.o r) r (.rl .p1 [3,48] r (by simp only[QX]) (.L 490 r (.C (.G 2 r (.I AM .z r (.G 1 r ?_)))))));have⟨L,_,B,J⟩:=J;exact .u DF XP r r L (BG B L) r r (.stO1 (j:=0) (v':=(if b<a then b else a)) XP .p1 B r r r (.o r) r (.rl .p1 [3,53] r (by simp only[QX]) (.L 106 r (.drop .z (.C (.G 3 r (.H λc w O U=>⟨_,J,_,_,jf x tv I5 r O U⟩)))))))
   exact .en 42 r (.C (.G 3 r (.H λc w O U=>⟨_,J,_,_,jf P tv I5 r O U⟩)))
 refine .en 8 r (.drop .p1 (.F (.D 2 4 r (.y .z λ_ a5 a2=>?_))));have⟨a6,_⟩:=a5.u2 v f;exact .r1 results9 r a6 ⟨e,_,_,r,a2,J⟩
theorem pU {a0 a1 Q} (O:RepSl B0 I p1 c2 a0) (V:RepSl B0 I p4 c5 a1) (J:O5 a0 a1 Q) :
  B3 prog 10 [.slice p1 a0.length c2,.slice p4 a1.length c5] I (λ_=>bV Q):=by
 refine Fun.ee func10 ntmps10 r (.F (.D 1 3 r (.B (.M 1 r (.ln BE r (.G 1 r (.ln BE r (.D 1 1027 r (.A r J (λk J=>?_) λk J=>?_)))))))))
 . exact .F (.D 1 16 r (.r0 results10 r ⟨false,r,J⟩))
 refine .P 3 r (.B (.F (.D 1 35 r (.E (.lp J mW [] r (λj E l b=>j ((5,vi b) :: E) l) (ji rf [] r) ?_)))));refine λb _ J=>jq r λ_ a=>?_;have⟨O,V⟩:=a.u2 O V;refine .B (.M 2 r (.ln BE r (.D 1 16419 r (.A r J (λc J=>?_) λc J=>?_))))
 . refine .P 35 r (.B (.E (.B (.dr Av5 9 (.K 2 r ?_)))));have⟨n,_,d,_,_,o,e,J⟩:=O.ix J;refine .h r (.U BE D3 o n d r .mk) (.h r (.x 0 AM e r .mk) (.K 2 r ?_));have⟨p,_,f,_,_,q,g,J⟩:=V.ix J;refine .h r (.U BE D3 q p f r .mk) (.h r (.x 0 AM g r .mk) (.K 1 r (.e2 9 (.L 33554467 r (.A r J (λi J=>?_) λi J=>?_)))))
   . exact .F (.D 1 16 r (.r1 results10 r a ⟨false,r,J⟩))
   exact .P 35 r (.C (.G 3 r (.H (je (A5 (b+1)) J a [] r))))
 exact .en 0 r (.F (.D 1 16 r (.r1 results10 r a ⟨true,r,J⟩)))
theorem SF {a0 a1 Q} (d:HI a0 a1 Q) :
  Fun prog 64 #[.int .u64 a0,.int .u64 a1] I [] (λ_ v l=>∃ r,v=.int .u64 r∧l=[]∧Q r):=by
 exact Fun.ee func64 ntmps64 r (.M 1 r (.V 3 4 r (.L 16 r (.q1 results64 rf [] r ⟨(yX .u64 a0 a1),r,r,d⟩))))
theorem pW {a0 a1 a2 Q} (O:RepSl EH I p1 c2 a1) (U:RepSl EH I p4 c5 a2) (J:TS a0 a1 a2 Q) :
  Fun prog 62 #[vi a0,.slice p1 a1.length c2,.slice p4 a2.length c5,.func (.func 64) #[] #[]] I [] (λZ v l=>∃ r p7 c8,v=.slice p7 r.length c8∧RepSl EH Z p7 c8 r∧l=[]∧Q r):=by
 refine Fun.ee func62 ntmps62 r (.M 1 r (.V 15 1 r ?_));have⟨a5,a6,J⟩:=J;refine .make (El:=EH) (zv:=0) 8 GZ AnC r r r r r r a5 a6 r r r λ_=>.D 1 526 r (.B (.M 1 r (.ln GZ r (.D 1 197134 r (.E (.lx J [16,3,2,1] [] r (λj E l (a,b)=>λc w=>∃ h i,j ⟨45,[],none⟩ (λZ=>True) ((9,.slice h a.length i) :: (17,vi b) :: E) (OwnSl EH 85 h i a :: l) c w) (λc w V W=>⟨_,_,jf rf tv [0] r V W⟩) ?_))))));rintro⟨a,b⟩ _ J c w ⟨h,i,_,d,_,c0,c1⟩;have⟨O,U⟩:=d.u2 O U;refine Cod.at c0 c1 (.F (.D 1 459278 r (.B (.A r J (λx J=>?_) λx J=>?_))))
 . refine .P 197134 r (.B (.E (.M 2 r (.V 198158 2 r (.L 204302 r (.B (.jn J [17,16,12,10,9,3,2,1] [0] r (λj E l m=>j ((11,.int .u64 m) :: E) l) (λ_ J=>?_) ?_)))))))
   . refine .M 2 r (.ln GZ r (.D 1 8592910 r (.A r J (λy J=>?_) λy J=>?_)))
     . refine .C (.G 2 r ?_);have⟨T,a8,A,_,_,a9,B,J⟩:=O.ix J;exact .U GZ G9 a9 T A r (.x 0 FI B r (.G 1 r (.H (je a8 J rf [0] r))))
     exact .AC (je 0 J rf [0] r)
   refine λm J=>jq r λp e=>?_;have⟨k,O,U⟩:=e.u3 d O U;refine .B (.M 2 r (.ln GZ r (.D 1 2147687950 r (.A r J (λC J=>?_) λC J=>?_))))
   . refine .C (.G 2 r ?_);have⟨b0,_,D,_,_,X,F,J⟩:=U.ix J;refine .U GZ G9 X b0 D r (.x 0 FI F r (.D 1 204302 r (.C (.G 5 r ?_))));refine .cS (.c call64 r r) .n r (SF (I:=p) J:) λ_ _ _ H a4=>?_;obtain⟨q,rfl,rfl,J⟩:=a4;have⟨K,_,O,U⟩:=H.u4 k e O U;refine .rn 1 r ?_;have⟨s,_,f,J⟩:=J;refine .AG .z (CS f) λ_ Y=>?_;cases Y;exact .u GZ G9 r r s (BG f s) r r (.stO1 (j:=0) (v':=q) G9 .z f r r r (.o r) r (.rl .z [9,36] r (by simp only[QX]) (.L 197134 r (.C (.G 2 r (.H λc w V W=>⟨_,J,_,_,jf K tv [0] r V W⟩))))))
   refine .P 204302 r (.C (.G 5 r ?_));refine .cS (.c call64 r r) .n r (SF (I:=p) J:) λ_ _ _ N a7=>?_;obtain⟨t,rfl,rfl,J⟩:=a7;have⟨P,_,O,U⟩:=N.u4 k e O U;refine .rn 1 r ?_;have⟨u,_,g,J⟩:=J;refine .AG .z (CS g) λ_ b1=>?_;cases b1;exact .u GZ G9 r r u (BG g u) r r (.stO1 (j:=0) (v':=t) G9 .z g r r r (.o r) r (.rl .z [9,36] r (by simp only[QX]) (.L 197134 r (.C (.G 2 r (.H λc w V W=>⟨_,J,_,_,jf P tv [0] r V W⟩))))))
 refine .en 520 r (.F (.D 2 264 r (.y .z λ_ R a3=>?_)));have S:=R.u1 d;exact .q1 results62 S [] r ⟨a,_,_,r,a3,r,J⟩
theorem gR {a0 a1 Q} (h:RepSl EH I p1 c2 a0) (J:RepSl EH I p4 c5 a1) (O:RL a0 a1 Q) :
  B3 prog 32 [.slice p1 a0.length c2,.slice p4 a1.length c5] I (AwI Q):=by
 refine Fun.ee func32 ntmps32 r ?_;refine .M 1 r (.V 3 1 r (.ln GZ r (.G 1 r (.ln GZ r (.maxI r r r r (.G 2 r ?_))))));refine .cS (.f call62 r) .n r (pW h J O:) λ_ _ _ a c=>?_;obtain⟨d,_,_,rfl,e,rfl,O⟩:=c;have⟨h,J⟩:=a.u2 h J;exact .rn 0 r (.D 1 16 r (.r1 results32 r a ⟨d,_,_,r,e,O⟩))
theorem rR {a0 a1 a2 Q} (J:RepSl (Y7 EH) I p1 c2 a1) (O:RepSl B0 I p4 c5 a2) (D:QS a0 a1 a2 Q) :
  B3 prog 28 [vi a0,.slice p1 a1.length c2,.slice p4 a2.length c5] I (AwI Q):=by
 refine Fun.ee func28 ntmps28 r ?_;refine .M 1 r (.V 7 1 r ?_);refine .AF call56 r (RU (I:=I) D:) r r λ_ _ _ p C=>?_;obtain⟨_,_,_,rfl,rfl,D⟩:=C;have⟨J,O⟩:=p.u2 J O;refine .D 1 134 r (.B (.M 1 r (.ln BE r (.D 1 28802 r (.E (.y .z λ_ i a3=>?_))))));have⟨q,J,O⟩:=i.u3 p J O;refine .lx D [13,12,1] [] r (λj E l (a,e)=>λc w=>∃ f g,j ⟨26,[],none⟩ (λI_=>RepSl EH I_ f g a) ((7,.slice f a.length g) :: (14,vi e) :: E) l c w) (λc w W Z=>⟨_,_,jf rf a3 [] r W Z⟩) ?_;rintro⟨a,e⟩ _ D c w ⟨f,g,_,k,b,a5,a6⟩;have⟨m,s,J,O⟩:=k.u4 q i J O;refine Cod.at a5 a6 (.F (.D 1 61570 r (.B (.A r D (λt D=>?_) λt D=>?_))))
 . refine .P 28802 r (.B (.E (.F ?_)));have⟨F,_,u,_,_,G,v,D⟩:=O.ix D;refine .U BE D3 G F u r (.x 0 AM v r (.D 1 29314 r (.C (.G 3 r ?_))));have⟨H,_,n,D⟩:=D;obtain⟨_,_,_,a4,d,_,_,rfl,h⟩:=J.2 _ _ n;refine .U underlying79 sizeOf40 a4 H n r (.x 0 P1 d r ?_);refine .ca call32 r (gR b h D:) λ_ _ o y=>?_;obtain⟨_,_,_,rfl,L,D⟩:=y;have⟨_,_,A,J,O,b⟩:=o.u6 m s k J O b;have⟨h,d⟩:=o.u2 h d;exact .D 1 28802 r (.C (.G 2 r (.H λc w W Z=>⟨_,D,_,_,jf A L [] r W Z⟩)))
 exact .en 128 r (.F (.D 2 64 r (.r1 results28 r m ⟨a,_,_,r,b,D⟩)))
theorem AdJ {a0 Q} (O:RepSl CA I p1 c2 a0.Edges) (J:YK a0 Q) :
  B3 prog 29 [.agg #[vi a0.N,.slice p1 a0.Edges.length c2]] I (λZ v=>∃ r p4 c5,v=.slice p4 r.length c5∧RepSl (Y7 EH) Z p4 c5 r∧Q r):=by
 refine Fun.ee func29 ntmps29 r (.F (.bx r λ_=>.G 1 r (.V 2 1 r (.I AM .z r ?_))));have⟨d1,d2,J⟩:=J;refine .make (El:=aA) (zv:=(none,0,0)) 24 fC AxV r r r r r r d1 d2 r r r λd3=>?_;refine .toNest B0 3 .z (.sub (E':=[(1,_),(9,_),(10,_),(11,.slice (some ⟨d3,0,none⟩) (List.replicate a0.N.toNat ([]:List Int)).length a0.N.toNat)]) ⟨r,r,r,(by simp only[At0]; rfl),tv⟩ (.D 1 10 r (.B (.F (.S GA DC .p1 r ?_)))));refine .ca call60 r (cL O J:) λ_ _ d5 X=>?_;obtain⟨_,_,_,rfl,t,J⟩:=X;have O:=d5.u1 O;refine .ca call59 r (Z9 t J:) λ_ _ d9 a1=>?_;obtain⟨_,_,_,rfl,u,J⟩:=a1;have⟨a2,O,t⟩:=d9.u3 d5 O t;refine .field1 iN r P0 r r r r (.ln DU r (.D 1 229386 r (.E (.lx J [16,15,1] [1] r (λj E l (b,x)=>λc w=>∃ y e,j ⟨50,[],none⟩ (λZ=>True) ((3,.slice y b.length e) :: (17,vi x) :: E) (FL B0 3 30 y e b :: l) c w) (λc w U V=>⟨_,_,jf rf tv I5 r U V⟩) ?_))));rintro⟨b,x⟩ _ J c w ⟨y,e,_,k,_,d0,d4⟩;have⟨a3,O,u⟩:=k.u3 a2 O u;refine Cod.at d0 d4 (.F (.D 1 491530 r (.B (.A r J (λa4 J=>?_) λa4 J=>?_))))
 . refine .P 229386 r (.B (.E (.F ?_)));have⟨b8,a,a5,_,_,c0,a6,J⟩:=u.ix J;refine .U DU D9 c0 b8 a5 r (.ldW OM D9 a6 r r r r (.al QC r λ_=>.R D9 .z r (.L 229418 r (.nestN .p1 λT=>.nestX .p1 λ_ i=>.dr Aj2 12 (.K 2 r (.X AM 2 r (.K 2 r (.X AM 2 r ?_))))))));have⟨m,n,d,J⟩:=J;have⟨A,c1⟩:=T (CS d);cases c1;have⟨_,_,f⟩:=i.2 _ _ d;refine .h r (.u fC aB r r m (BG d m) r r .mk) (.h r (.lo1 (j:=0) EJ .z f r r r r r .mk) (.K 1 r (.X AM 2 r (.Y r (.bs 1 BE D3 jX r λ_=>?_)))));refine .q 5 r (.W r (.lo1 (j:=0) EJ .p1 f r r r r r .mk) (.W r (.u fC aB r r m (BG d m) r r .mk) (.W r (.I AM .p3 r .mk) (.j 2 r r (.W r (.I AM .p3 r .mk) (.j 2 r r tv)))))) (.Y r (.nestF .p2 d f ?_));have⟨a7,J⟩:=J;refine .ap (ys:=[a.To]) .z BE BE IN3 r (.box .p2 (.one r) r) a7 λ_ _=>.q 6 r (.W r (.I AM .p4 r .mk) (.j 2 r r tv)) (.e2 12 ?_);have⟨d7,_,o,J⟩:=J;have⟨_,_,_⟩:=i.2 _ _ o;exact .u fC aB r r d7 (BG o d7) r r (.nestSt aB .p1 r .z .p1 o r r r r (.sub (E':=[(1,_),(3,.slice (some ⟨A,0,none⟩) (b.set a.From.toNat (n++([a.To]))).length e),(15,_),(16,_),(17,_),(5,_),(21,.slice (some ⟨A,0,none⟩) (b.set a.From.toNat (n++([a.To]))).length e),(22,_),(23,_),(24,.slice (some ⟨A,0,none⟩) (b.set a.From.toNat (n++([a.To]))).length e),(25,_),(26,_),(27,_),(28,_),(29,_),(30,_),(31,_),(32,_),(33,_)]) ⟨r,(by simp only[QX]; rfl),r,r,r,r,(by simp only[QX]; rfl),r,r,(by simp only[QX]; rfl),r,r,r,r,r,r,r,r,r,tv⟩ (.L 229386 r (.drop .p1 (.drop .p1 (.C (.G 2 r (.H λc w U V=>⟨_,J,_,_,jf k tv I5 r U V⟩))))))))
 refine .en 10 r (.F (.D 1 74 r (.B (.M 1 r (.ln fC r (.D 1 240518168642 r (.E (.pubNest .z λ_ K c3=>?_))))))));have⟨a8,a9,O⟩:=K.u3 a3 k O;refine .own0 (Y7 EH) 40 (.lx J [36,1] [1] r (λj E l (g,p,B)=>λc w=>∃ C D F G,j ⟨50,[],none⟩ (λZ=>RepSl (Y7 B0) Z F G p) ((6,.slice C g.length D) :: (35,.slice F p.length G) :: (37,vi B) :: E) (OwnSl (Y7 EH) 40 C D g :: l) c w) (λc w U V=>⟨_,_,_,_,jf rf c3 I5 r U V⟩) ?_);rintro⟨g,p,B⟩ _ J c w ⟨C,D,F,G,_,q,s,d0,d4⟩;have⟨L,d6,P,O⟩:=q.u4 a8 a9 K O;refine Cod.at d0 d4 (.F (.D 1 515396075586 r (.B (.A r J (λb0 J=>?_) λb0 J=>?_))))
 . refine .P 240518168642 r (.B (.E (.F ?_)));have⟨c4,_,R,J⟩:=J;obtain⟨_,_,_,c6,b1,_,_,rfl,H⟩:=s.2 _ _ R;refine .U fC aB c6 c4 R r (.x 0 EJ b1 r (.D 1 240518168898 r (.C (.G 2 r (.I AM .p1 r (.G 1 r ?_))))));refine .ca call27 r (MY H J:) λ_ _ S b3=>?_;obtain⟨d8,_,_,rfl,c7,J⟩:=b3;have⟨_,_,_,b4,O,s⟩:=S.u6 L d6 P q O s;have H:=S.u1 H;refine .bs 1 underlying79 sizeOf40 zeroValue40 r λ_=>?_;have⟨b5,J⟩:=J;exact .ap (ys:=[d8]) .p1 underlying79 underlying79 AyY r (.box .z (.one ⟨_,_,r,c7⟩) r) b5 λ_ _=>.D 1 240518168642 r (.drop .p1 (.C (.G 2 r (.H λc w U V=>⟨_,J,_,_,_,_,jf b4 s I5 r U V⟩))))
 refine .en 64 r (.drop .p1 (.F (.D 2 4 r (.y .z λ_ b6 c8=>?_))));have⟨b7,_,_,_⟩:=b6.u4 L d6 P q;exact .r1 results29 r b7 ⟨g,_,_,r,c8,J⟩
theorem UK {a0 a1 Q} (d:IB a0 a1 Q) :
  Fun prog 63 #[.int .u64 a0,.int .u64 a1] I [] (λ_ v l=>∃ r,v=.int .u64 r∧l=[]∧Q r):=by
 exact Fun.ee func63 ntmps63 r (.M 1 r (.V 3 4 r (.L 16 r (.q1 results63 rf [] r ⟨(Y4 .u64 a0 a1),r,r,d⟩))))
theorem pX {a0 a1 a2 Q} (O:RepSl EH I p1 c2 a1) (U:RepSl EH I p4 c5 a2) (J:TT a0 a1 a2 Q) :
  Fun prog 62 #[vi a0,.slice p1 a1.length c2,.slice p4 a2.length c5,.func (.func 63) #[] #[]] I [] (λZ v l=>∃ r p7 c8,v=.slice p7 r.length c8∧RepSl EH Z p7 c8 r∧l=[]∧Q r):=by
 refine Fun.ee func62 ntmps62 r (.M 1 r (.V 15 1 r ?_));have⟨a5,a6,J⟩:=J;refine .make (El:=EH) (zv:=0) 8 GZ AnC r r r r r r a5 a6 r r r λ_=>.D 1 526 r (.B (.M 1 r (.ln GZ r (.D 1 197134 r (.E (.lx J [16,3,2,1] [] r (λj E l (a,b)=>λc w=>∃ h i,j ⟨45,[],none⟩ (λZ=>True) ((9,.slice h a.length i) :: (17,vi b) :: E) (OwnSl EH 85 h i a :: l) c w) (λc w V W=>⟨_,_,jf rf tv [0] r V W⟩) ?_))))));rintro⟨a,b⟩ _ J c w ⟨h,i,_,d,_,c0,c1⟩;have⟨O,U⟩:=d.u2 O U;refine Cod.at c0 c1 (.F (.D 1 459278 r (.B (.A r J (λx J=>?_) λx J=>?_))))
 . refine .P 197134 r (.B (.E (.M 2 r (.V 198158 2 r (.L 204302 r (.B (.jn J [17,16,12,10,9,3,2,1] [0] r (λj E l m=>j ((11,.int .u64 m) :: E) l) (λ_ J=>?_) ?_)))))))
   . refine .M 2 r (.ln GZ r (.D 1 8592910 r (.A r J (λy J=>?_) λy J=>?_)))
     . refine .C (.G 2 r ?_);have⟨T,a8,A,_,_,a9,B,J⟩:=O.ix J;exact .U GZ G9 a9 T A r (.x 0 FI B r (.G 1 r (.H (je a8 J rf [0] r))))
     exact .AC (je 0 J rf [0] r)
   refine λm J=>jq r λp e=>?_;have⟨k,O,U⟩:=e.u3 d O U;refine .B (.M 2 r (.ln GZ r (.D 1 2147687950 r (.A r J (λC J=>?_) λC J=>?_))))
   . refine .C (.G 2 r ?_);have⟨b0,_,D,_,_,X,F,J⟩:=U.ix J;refine .U GZ G9 X b0 D r (.x 0 FI F r (.D 1 204302 r (.C (.G 5 r ?_))));refine .cS (.c call63 r r) .n r (UK (I:=p) J:) λ_ _ _ H a4=>?_;obtain⟨q,rfl,rfl,J⟩:=a4;have⟨K,_,O,U⟩:=H.u4 k e O U;refine .rn 1 r ?_;have⟨s,_,f,J⟩:=J;refine .AG .z (CS f) λ_ Y=>?_;cases Y;exact .u GZ G9 r r s (BG f s) r r (.stO1 (j:=0) (v':=q) G9 .z f r r r (.o r) r (.rl .z [9,36] r (by simp only[QX]) (.L 197134 r (.C (.G 2 r (.H λc w V W=>⟨_,J,_,_,jf K tv [0] r V W⟩))))))
   refine .P 204302 r (.C (.G 5 r ?_));refine .cS (.c call63 r r) .n r (UK (I:=p) J:) λ_ _ _ N a7=>?_;obtain⟨t,rfl,rfl,J⟩:=a7;have⟨P,_,O,U⟩:=N.u4 k e O U;refine .rn 1 r ?_;have⟨u,_,g,J⟩:=J;refine .AG .z (CS g) λ_ b1=>?_;cases b1;exact .u GZ G9 r r u (BG g u) r r (.stO1 (j:=0) (v':=t) G9 .z g r r r (.o r) r (.rl .z [9,36] r (by simp only[QX]) (.L 197134 r (.C (.G 2 r (.H λc w V W=>⟨_,J,_,_,jf P tv [0] r V W⟩))))))
 refine .en 520 r (.F (.D 2 264 r (.y .z λ_ R a3=>?_)));have S:=R.u1 d;exact .q1 results62 S [] r ⟨a,_,_,r,a3,r,J⟩
theorem AdK {a0 a1 Q} (h:RepSl EH I p1 c2 a0) (J:RepSl EH I p4 c5 a1) (O:YL a0 a1 Q) :
  B3 prog 31 [.slice p1 a0.length c2,.slice p4 a1.length c5] I (AwI Q):=by
 refine Fun.ee func31 ntmps31 r ?_;refine .M 1 r (.V 3 1 r (.ln GZ r (.G 2 r ?_)));refine .cS (.f call62 r) .n r (pX h J O:) λ_ _ _ a c=>?_;obtain⟨d,_,_,rfl,e,rfl,O⟩:=c;have⟨h,J⟩:=a.u2 h J;exact .rn 0 r (.D 1 16 r (.r1 results31 r a ⟨d,_,_,r,e,O⟩))
theorem yI {a0 a1 Q} (W:RepSl CA I p1 c2 a0.Edges) (Z:RepSl B0 I p4 c5 a1) (U:VI a0 a1 Q) :
  B3 prog 11 [.agg #[vi a0.N,.slice p1 a0.Edges.length c2],.slice p4 a1.length c5] I (λ_=>bV Q):=by
 refine Fun.ee func11 ntmps11 r (.F (.bx r λ_=>.D 1 6 r (.B (.F (.S GA DC .z r (.v call26 (WN W U:) r λ_ U=>.D 1 2054 r (.A r U (λY U=>?_) λY U=>?_)))))))
 . exact .F (.D 1 16 r (.drop .z (.r0 results11 r ⟨false,r,U⟩)))
 refine .P 6 r (.B (.M 1 r (.ln BE r (.D 1 28678 r (.E (.lp U [13,12,2,1] [0] r (λj E l e=>j ((14,vi e) :: E) l) (ji rf [0] r) ?_))))));refine λe _ U=>jq r λ_ c=>?_;have⟨W,Z⟩:=c.u2 W Z;refine .F (.D 1 61446 r (.B (.A r U (λk U=>?_) λk U=>?_)))
 . refine .P 28678 r (.B (.E (.M 1 r ?_)));have⟨a9,_,m,_,_,a2,n,U⟩:=Z.ix U;refine .U BE D3 a2 a9 m r (.x 0 AM n r (.G 2 r (.V 28774 3 r (.T U [20,21] r (λo U=>?_) λo U=>?_))))
   . exact .D 18 549755842566 r (.Q r r (.F (.D 1 16 r (.drop .z (.r1 results11 r c ⟨false,r,U⟩)))))
   refine .G 2 r (.O r (.I AM .z r (.G 3 r (.T U [25,26,27] r (λp U=>?_) λp U=>?_))))
   . exact .D 12 549755842566 r (.Q r r (.F (.D 1 16 r (.drop .z (.r1 results11 r c ⟨false,r,U⟩)))))
   refine .G 3 r (.T U [29,30] r (λq U=>?_) λq U=>?_)
   . refine .G 3 r ?_;have⟨a3,_,s,_,_,a4,t,U⟩:=Z.ix U;refine .O r (.U BE D3 a4 a3 s r (.O r (.x 0 AM t r (.D 4 549755842566 r (.A r U (λu U=>?_) λu U=>?_)))))
     . exact .F (.D 1 16 r (.drop .z (.r1 results11 r c ⟨false,r,U⟩)))
     exact .P 28678 r (.C (.G 2 r (.H (je (A5 (e+1)) U c [0] r))))
   exact .D 9 549755842566 r (.Z r r (.P 28678 r (.C (.G 2 r (.H (je (A5 (e+1)) U c [0] r))))))
 refine .en 6 r (.M 1 r (.I AM .z r (.G 1 r ?_)));refine .ca call27 r (MY Z U:) λ_ _ w x=>?_;obtain⟨_,_,_,rfl,b,U⟩:=x;have⟨y,W,Z⟩:=w.u3 c W Z;refine .D 1 134 r (.B (.dr [0,1,2,4,3,5] 6 (.K 1 r (.X AM 0 r (.h r (.S GA DC .z r .mk) (.K 1 r (.Y r ?_)))))));refine .ca call29 r (AdJ W U:) λ_ _ B C=>?_;obtain⟨_,_,_,rfl,f,U⟩:=C;have⟨D,W,Z,b⟩:=B.u4 y W Z b;refine .q 1 r (.j 1 r r (.W r (.I AM .z r .mk) (.j 1 r r tv))) (.Y r ?_);refine .ca call28 r (rR f Z U:) λ_ _ G H=>?_;obtain⟨_,_,_,rfl,d,U⟩:=H;have⟨J,W,Z,b,f⟩:=G.u5 D W Z b f;refine .q 1 r tv (.e2 6 (.D 1 388 r (.B (.dr [0,1,2,3,4,5,6,7,10,11,8,9,12,13] 14 (.K 2 r (.Y r ?_))))));refine .ca call31 r (AdK b d U:) λ_ _ L O=>?_;obtain⟨_,_,_,rfl,g,U⟩:=O;have⟨i,W,b,d⟩:=L.u4 J W b d;refine .q 1 r tv (.Y r (.v call30 (QW g U:) r λ_ U=>.q 1 r tv (.K 2 r ?_)));refine D5 U (λa U=>?_) λa U=>?_
 . refine .h r (.N r r a (.AD r r r .mk)) (.h r (.N r r a (.AD r r r .mk)) (.h r (.N r r a (.fo iN 0 r D3 .mk)) (.h r (.N r r a (.I AM .z r .mk)) (.Y r ?_))));refine .N r r a (.ca call32 r (gR b d U:) λ_ _ S T=>?_);obtain⟨_,_,_,rfl,a5,U⟩:=T;have⟨a7,W,b,d,g⟩:=S.u5 i W b d g;refine .q 1 r (.W r (.N r r a (.I AM .z r .mk)) (.W r (.N r r a (.fo iN 0 r D3 .mk)) tv)) (.Y r ?_);refine .N r r a (.AE call30 r (QW a5 U:) r r λ_ a8=>?_);obtain⟨a6,rfl,U⟩:=a8;exact .q 1 r (.W r (.N r r a (.I AM .z r .mk)) (.W r (.N r r a (.fo iN 0 r D3 .mk)) tv)) (.h r (.N r r a (.eq r r r r .mk)) (.h r (.pickT r a r r r .mk) (.e2 14 (.D 1 16 r (.drop .z (.r1 results11 r a7 ⟨(a6==a0.N),r,U⟩))))))
 exact .gn r a (.gn r a (.gn r a (.gn r a (.gn r a (.gn r a (.gn r a (.h r (.pickF r a r r r .mk) (.e2 14 (.D 1 16 r (.drop .z (.r1 results11 r i ⟨false,r,U⟩)))))))))))
theorem yJ {a0 Q} (h:VJ a0 Q) :
  B3 prog 65 [vi a0] I (λ_=>Y6 Q):=by
 refine Fun.ee func65 ntmps65 r (.F (.D 1 1 r (.B (.jn h [] [] r (λj E l b=>j ((0,vi b) :: E) l) (λ_ h=>?_) ?_))))
 . refine .F (.D 2 17 r (.A r h (λc h=>?_) λc h=>?_))
   . exact .C (.G 1 r (.H (je 4096 h rf [] r)))
   exact .AC (je a0 h rf [] r)
 refine λb h=>jq r λ_ a=>.B (.F (.D 2 65 r (.A r h (λd h=>?_) λd h=>?_)))
 . exact .F (.D 1 4 r (.r1 results65 r a ⟨0,r,h⟩))
 exact .P 1 r (.M 2 r (.quo r r (by decide) r r (.D 1 4 r (.r1 results65 r a ⟨(A5 ((A5 (b+63)).tdiv 64)),r,h⟩))))
theorem AgP {a0 Q} (h:dU a0 Q) :
  B3 prog 33 [vi a0] I (λJ v=>∃ r p1 c2,v=.slice p1 r.length c2∧RepSl EH J p1 c2 r∧Q r):=by
 exact Fun.ee func33 ntmps33 r (.M 1 r (.V 1 1 r (.v call65 (yJ (I:=I) h:) r λd ⟨e,f,h⟩=>.make (El:=EH) (zv:=0) 8 GZ AnC r r r r r r e f r r r λ_=>.D 1 4 r (.y .z λ_ a c=>.r1 results33 r a ⟨(List.replicate d.toNat 0),_,_,r,c,h⟩))))
theorem AgQ {a0 a1 a2 Q} (U:RepSl EH I p1 c2 a0) (J:oF a0 a1 a2 Q) :
  B3 prog 66 [.slice p1 a0.length c2,vi a1,.bool a2] I (Ar4 Q):=by
 refine Fun.ee func66 ntmps66 r (.M 1 r (.V 7 1 r (.V 135 2 r (.own0 EH 85 ?_))));have⟨l,J⟩:=J;refine .ap (ys:=a0) .z GZ GZ AnC r (.imm U r) l λ_ _=>.D 1 135 r (.B (.M 3 r (.T J [13,14] r (λm J=>?_) λm J=>?_)))
 . exact .D 6 1048710 r (.Q r r (.F (.D 2 64 r (.y .z λ_ n w=>.r1 results66 r n ⟨(([]:List Int)++a0),_,_,r,w,J⟩))))
 refine .G 1 r (.O r (.quo r r (by decide) r r (.G 1 r (.O r (.ln GZ r (.D 2 1048710 r (.A r J (λp J=>?_) λp J=>?_)))))))
 . exact .F (.D 2 64 r (.y .z λ_ q x=>.r1 results66 r q ⟨(([]:List Int)++a0),_,_,r,x,J⟩))
 refine .P 134 r (.M 1 r (.rem r r (by decide) r r (.conv nQ underlying86 r r r ?_)));have⟨s,J⟩:=J;refine .shl' r r s r r (.D 1 390 r (.B (.F (.D 1 67109250 r (.A r J (λt J=>?_) λt J=>?_)))))
 . refine .C (.G 2 r (.quo r r (by decide) r r (.G 2 r (.quo r r (by decide) r r ?_))));have⟨e,f,a,J⟩:=J;refine .AG .z (CS a) λ_ y=>?_;cases y;refine .u GZ G9 r r e (BG a e) r r (.lo1 (j:=0) FI .z a r r r r r (.G 2 r ?_));have⟨g,_,c,J⟩:=J;exact .u GZ G9 r r g (BG c g) r r (.stO1 (j:=0) (v':=(yX .u64 f (shl .u64 1 (IntKind.wrap .u64 (a1.tmod 64))))) G9 .z c r r r (.o r) r (.rl .z [7,27,30] r (by simp only[QX]) (.V 128 2 r (.L 64 r (.y .z λ_ u A=>.r1 results66 r u ⟨((([]:List Int)++a0).set ((A5 (a1.tdiv 64)).toNat) (yX .u64 f (shl .u64 1 (IntKind.wrap .u64 (a1.tmod 64))))),_,_,r,A,J⟩)))))
 refine .C (.G 2 r (.quo r r (by decide) r r (.G 2 r (.quo r r (by decide) r r ?_))));have⟨h,i,b,J⟩:=J;refine .AG .z (CS b) λ_ B=>?_;cases B;refine .u GZ G9 r r h (BG b h) r r (.lo1 (j:=0) FI .z b r r r r r (.G 2 r ?_));have⟨k,_,d,J⟩:=J;exact .u GZ G9 r r k (BG d k) r r (.stO1 (j:=0) (v':=(Ae2 .u64 i (shl .u64 1 (IntKind.wrap .u64 (a1.tmod 64))))) G9 .z d r r r (.o r) r (.rl .z [7,38,41] r (by simp only[QX]) (.V 128 2 r (.L 64 r (.y .z λ_ v C=>.r1 results66 r v ⟨((([]:List Int)++a0).set ((A5 (a1.tdiv 64)).toNat) (Ae2 .u64 i (shl .u64 1 (IntKind.wrap .u64 (a1.tmod 64))))),_,_,r,C,J⟩)))))
theorem AgR {a0 a1 Q} (h:RepSl EH I p1 c2 a0) (J:dV a0 a1 Q) :
  B3 prog 34 [.slice p1 a0.length c2,vi a1] I (Ar4 Q):=by
 refine Fun.ee func34 ntmps34 r ?_;refine .M 1 r (.V 3 2 r ?_);refine .ca call66 r (AgQ h J:) λ_ _ a c=>?_;obtain⟨e,_,_,rfl,d,J⟩:=c;have h:=a.u1 h;exact .D 1 16 r (.r1 results34 r a ⟨e,_,_,r,d,J⟩)
theorem AjD {a0 a1 Q} (O:RepSl B0 I p1 c2 a1) (J:kX a0 a1 Q) :
  B3 prog 12 [vi a0,.slice p1 a1.length c2] I (Ar4 Q):=by
 refine Fun.ee func12 ntmps12 r ?_;refine .M 1 r (.V 3 1 r ?_);refine .ca call33 r (AgP (I:=I) J:) λ_ _ k F=>?_;obtain⟨_,_,_,rfl,a4,J⟩:=F;have O:=k.u1 O;refine .D 1 35 r (.B (.F (.D 1 99 r (.E (.lx J mW [] r (λj E l (a,e)=>λc w=>∃ g h,j ⟨42,[],none⟩ (λI_=>RepSl EH I_ g h a) ((5,.slice g a.length h) :: (6,vi e) :: E) l c w) (λc w U W=>⟨_,_,jf rf a4 [] r U W⟩) ?_)))));rintro⟨a,e⟩ _ J c w ⟨g,h,_,d,b,a5,a6⟩;have⟨i,O⟩:=d.u2 k O;refine Cod.at a5 a6 (.B (.M 2 r (.ln BE r (.D 1 4195 r (.A r J (λm J=>?_) λm J=>?_)))))
 . refine .P 99 r (.B (.E (.M 2 r ?_)));have⟨G,_,n,_,_,H,o,J⟩:=O.ix J;refine .U BE D3 H G n r (.x 0 AM o r (.G 2 r (.T J [19,20] r (λp J=>?_) λp J=>?_)))
   . refine .G 2 r ?_;have⟨a2,_,q,_,_,K,s,J⟩:=O.ix J;refine .O r (.U BE D3 K a2 q r (.O r (.x 0 AM s r (.G 4 r (.T J [26,27,28] r (λt J=>?_) λt J=>?_)))))
     . refine .G 2 r ?_;have⟨L,_,u,_,_,N,v,J⟩:=O.ix J;refine .O r (.U BE D3 N L u r (.O r (.x 0 AM v r (.D 2 17179869283 r (.A r J (λx J=>?_) λx J=>?_)))))
       . refine .C (.G 3 r ?_);have⟨a3,_,y,_,_,P,f,J⟩:=O.ix J;refine .U BE D3 P a3 y r (.x 0 AM f r ?_);refine .ca call34 r (AgR b J:) λ_ _ A B=>?_;obtain⟨_,_,_,rfl,S,J⟩:=B;have⟨_,C,O,b,f⟩:=A.u5 i d O b f;exact .D 1 99 r (.C (.G 3 r (.H λc w U W=>⟨_,J,_,_,jf C S [] r U W⟩)))
       exact .P 99 r (.C (.G 3 r (.H λc w U W=>⟨_,J,_,_,jf d b [] r U W⟩)))
     exact .D 6 17179869283 r (.Z r r (.P 99 r (.C (.G 3 r (.H λc w U W=>⟨_,J,_,_,jf d b [] r U W⟩)))))
   exact .D 14 17179869283 r (.Z r r (.P 99 r (.C (.G 3 r (.H λc w U W=>⟨_,J,_,_,jf d b [] r U W⟩)))))
 exact .en 32 r (.F (.D 2 16 r (.r1 results12 r i ⟨a,_,_,r,b,J⟩)))
theorem AgS {a0 a1 Q} (W:RepSl EH I p1 c2 a0) (J:dW a0 a1 Q) :
  B3 prog 13 [.slice p1 a0.length c2,vi a1] I (λ_=>bV Q):=by
 refine Fun.ee func13 ntmps13 r (.M 1 r (.V 3 3 r (.T J [6,7] r (λc J=>?_) λc J=>?_)))
 . refine .G 1 r (.O r (.quo r r (by decide) r r (.G 1 r (.O r (.ln GZ r (.G 3 r (.T J [12,13,14] r (λd J=>?_) λd J=>?_)))))))
   . refine .G 2 r (.O r (.quo r r (by decide) r r ?_));have⟨g,h,e,_,_,f,a,J⟩:=W.ix J;refine .O r (.U GZ G9 f g e r (.O r (.x 0 FI a r (.G 1 r (.O r (.rem r r (by decide) r r (.O r (.conv nQ underlying86 r r r ?_))))))));have⟨b,J⟩:=J;exact .O r (.shr' r r b r r (.D 4 16 r (.r0 results13 r ⟨((Y4 .u64 (shr .u64 h (IntKind.wrap .u64 (a1.tmod 64))) 1)==1),r,J⟩)))
   exact .D 13 16 r (.r0 results13 r ⟨false,r,J⟩)
 exact .D 20 16 r (.r0 results13 r ⟨false,r,J⟩)
theorem AdL {a0 a1 Q} (W:RepSl B0 I p1 c2 a0.Draws) (U:TU a0 a1 Q) :
  B3 prog 189 [.agg (LU a0 p1 c2),vi a1] I (λ_=>o7_ Q):=by
 refine Fun.ee func189 ntmps189 r (.F (.bx r λ_=>.G 2 r (.V 6 2 r (.I AM .z r (.D 2 70 r (.B (.E (.M 1 r (.I fF .z r (.D 2 2118 r (.A r U (λo U=>?_) λo U=>?_)))))))))))
 . exact .F (.D 3 48 r (.drop .z (.J (B5 r (.t r (.t r .n)) rf ⟨(a1,true),r,U⟩))))
 refine .M 1 r (.I fF .z r (.D 2 65604 r (.A r U (λp U=>?_) λp U=>?_)))
 . exact .F (.D 2 48 r (.drop .z (.J (B5 r (.t r (.t r .n)) rf ⟨(0,false),r,U⟩))))
 refine .B (.jn U [6,2] [0] r (λj E l d=>j ((20,.bool d) :: E) l) (λ_ U=>?_) ?_)
 . refine .C (.G 1 r (.I fF .z r (.G 2 r (.T U [23,24] r (λf U=>?_) λf U=>?_))))
   . exact .G 3 r (.H (je (a1==a0.Source) U rf [0] r))
   exact .G 3 r (.H (je false U rf [0] r))
 refine λd U=>jq r λ_ a=>?_;have W:=a.u1 W;refine .A r U (λg U=>?_) λg U=>?_
 . exact .F (.D 2 48 r (.drop .z (.J (B5 r (.t r (.t r .n)) a ⟨(1,true),r,U⟩))))
 refine .B (.jn U [2] [0] r (λj E l (c,e)=>j ((6,.bool c) :: (27,.bool e) :: E) l) (λ_ U=>?_) ?_)
 . refine .C (.G 2 r (.T U [6,28,29] r (λh U=>?_) λh U=>?_))
   . exact .G 5 r (.H (je (true,true) U rf [0] r))
   exact .G 1 r (.O r (.I fF .z r (.G 3 r (.H (je (false,a0.Kind==4) U rf [0] r)))))
 rintro⟨c,e⟩ U;refine jq r λ_ i=>?_;have⟨b,W⟩:=i.u2 a W;refine .A r U (λk U=>?_) λk U=>?_
 . exact .F (.D 3 48 r (.drop .z (.J (B5 r (.t r (.t r .n)) b ⟨(0,c),r,U⟩))))
 refine .M 1 r (.I fF .z r (.D 2 34359738368 r (.drop .z (.A r U (λm U=>?_) λm U=>?_))))
 . exact .F (.D 2 48 r (.J (B5 r (.t r (.t r .n)) b ⟨((-1),false),r,U⟩)))
 exact .P 0 r (.F (.D 2 48 r (.J (B5 r (.t r (.t r .n)) b ⟨(4611686018427387904,false),r,U⟩))))
theorem AgT {a0 a1 Q} (V:wU I gd1 a0) (U:RepSl CB I p3 c4 a1.Items) (J:dX a0 a1 Q) :
  B3 prog 344 [.agg (FD a0 gd1),.agg #[vi a1.N,.slice p3 a1.Items.length c4]] I (λO v=>∃ r a2 p8 c9,v=.tuple #[.agg (FD r.1 a2),.agg #[vi r.2.N,.slice p8 r.2.Items.length c9]]∧wU O a2 r.1∧RepSl CB O p8 c9 r.2.Items∧Q r):=by
 refine Fun.ee func344 ntmps344 r (.F (.bx r λa3=>.bx r λ_=>.al vE r λ_=>.al CC r λ_=>.L 60 r (.B (.jx J [5,4,3,2] nl5 r (λj E l (g,i,a,b,d,e)=>λc w=>∃ k m o p q s t u,j ⟨17,[],none⟩ (λO=>RepSl B0 O k m a∧RepSl B0 O o p b∧RepSl B0 O q s d∧RepSl B0 O t u e) E (pc a3 #[vi g,vi i,.slice k a.length m,.slice o b.length p,.slice q d.length s,.slice t e.length u] 189 :: l) c w) (λ_ J=>?_) ?_))))
 . refine .F (.S H9 EG .p3 r (.v call355 (nC V J:) r λ_ J=>.D 1 316 r (.A r J (λF J=>?_) λF J=>?_)))
   . refine .C (.bs 1 BE D3 jX r λ_=>.ownB (El:=B0) (ys:=([0]:List Int)) .z (.one r) r (.bd vE underlying189 AvL r (.R EG .p4 r (.y .z λ_ x K=>?_))));have U:=x.u1 U;exact .H λc w Z hs=>⟨_,J,_,_,_,_,_,_,_,_,jf x ⟨(.nil _ _ _),K,(.nil _ _ _),(.nil _ _ _)⟩ [3,2,1,0] r Z hs⟩
   exact .AC λc w Z hs=>⟨_,J,_,_,_,_,_,_,_,_,jf rf ⟨V.1,V.2.1,V.2.2.1,V.2.2.2⟩ [3,2,1,0] r Z hs⟩
 rintro⟨g,i,a,b,d,e⟩ J c w ⟨k,m,o,p,q,s,t,u,_,f,⟨y,A,B,C⟩,hok,hsym⟩;have U:=f.u1 U;refine Cod.at hok hsym (.B (.F (.S BK AQ .p1 r (.v call270 (FQ U J:) r λ_ J=>.D 1 8252 r (.A r J (λH J=>?_) λH J=>?_)))))
 . refine .C (.bd CC F4 GQ r (.R AQ .p1 r (.L 60 r (.B (.dr [0,1,2] 3 (.h r (.S H9 EG .z r .mk) (.h r (.S BK AQ .p1 r .mk) (.Y r ?_))))))));exact .R EG .p2 r (.P 4 r r r (.W r (.S BK AQ .p1 r .mk) tv) (.e2 3 (.R AQ .p3 r (.L 48 r (.drop .z (.drop .z (.J (B5 r (.w H9 EG r .z r (.w BK AQ r .p1 r .n)) f ⟨(({ Rows:=g,Cols:=i,At:=a,Start:=b,Row:=d,Val:=e }:BF),CJ),((_,_),(_,_),(_,_),(_,_)),_,_,r,⟨y,A,B,C⟩,(.nil _ _ _),J⟩))))))))
 refine .P 60 r (.B (.dr [0,1,2] 3 (.h r (.S H9 EG .z r .mk) (.h r (.S BK AQ .p1 r .mk) (.Y r ?_)))));exact .R EG .p2 r (.P 4 r r r (.W r (.S BK AQ .p1 r .mk) tv) (.e2 3 (.R AQ .p3 r (.L 48 r (.drop .z (.drop .z (.J (B5 r (.w H9 EG r .z r (.w BK AQ r .p1 r .n)) f ⟨(({ Rows:=g,Cols:=i,At:=a,Start:=b,Row:=d,Val:=e }:BF),a1),((_,_),(_,_),(_,_),(_,_)),_,_,r,⟨y,A,B,C⟩,U,J⟩))))))))
theorem K1 {a0 Q} (d:HJ a0 Q) :
  B3 prog 375 [.int .u64 a0] I (λ_ v=>∃ r,v=.agg #[.int .u64 r.1,.int .u64 r.2]∧Q r):=by
 exact Fun.ee func375 ntmps375 r (.F (.al AaD r λ_=>.V 5 1 r (.shl' r r (by decide) r r (.shr' r r (by decide) r r (.G 1 r (.shr' r r (by decide) r r (.ba AaD LX G9 r (.R sizeOf445 .z r (.L 4 r (.J (B5 r (.w isAgg445 sizeOf445 r .z r .n) rf ⟨(shr .u64 (shl .u64 a0 32) 32,shr .u64 a0 32),r,d⟩)))))))))))
theorem wP {a0 a1 Q} (d:SS a0 a1 Q) :
  B3 prog 372 [.int .u64 a0,.int .u64 a1] I (λ_=>o5_ Q):=by
 refine Fun.ee func372 ntmps372 r (.F (.al EB r λ_=>.V 19 1 r (.v call375 (K1 (I:=I) d:) r λl d=>.G 1 r (.v call375 (K1 (I:=I) d:) r λm d=>.al AaD r λ_=>.al AaD r λ_=>?_))));refine .R sizeOf445 .p1 r (.R sizeOf445 .z r (.ns 112 r (.AB (i:=0) LX G9 r r (by decide) (o:=0) r r r (.I FI .p1 r (.AB (i:=0) LX G9 r r (by decide) (o:=0) r r r (.I FI .z r (.D 2 240 r (.B (.dr [0,1,2,3,4,5,10,6,7,8,9,999] 11 ?_)))))))));refine .h r (.AB (i:=1) LX G9 r r (by decide) (o:=1) r r r .mk) (.X FI 1 r (.h r (.AB (i:=0) LX G9 r r (by decide) (o:=0) r r r .mk) (.X FI 0 r (.K 2 r (.aP AaD r (.Y r (.v call375 (K1 (I:=I) d:) r λ_ d=>?_)))))));refine .q 3 r (.j 1 r r (.W r (.I FI .z r .mk) (.W r (.AB (i:=0) LX G9 r r (by decide) (o:=0) r r r .mk) (.W r (.I FI .p1 r .mk) (.W r (.AB (i:=1) LX G9 r r (by decide) (o:=1) r r r .mk) tv))))) (.h r (.index1 (i:=1) LX G9 FI r r (by decide) r r r .mk) (.K 1 r (.Y r (.v call375 (K1 (I:=I) d:) r λp d=>?_))));refine .q 3 r tv (.b r λ_=>DrawD.nop (.e2 11 (.R sizeOf445 .p3 r (.ns 496 r (.AB (i:=0) LX G9 r r (by decide) (o:=0) r r r (.I FI .p1 r (.AB (i:=1) LX G9 r r (by decide) (o:=1) r r r (.I FI .z r (.G 1 r (.AB (i:=0) LX G9 r r (by decide) (o:=0) r r r (.I FI .p3 r (.G 1 r (.v call375 (K1 (I:=I) d:) r λc d=>.al AaD r λ_=>?_)))))))))))));refine .R sizeOf445 .z r (.L 1008 r (.B (.dr [0,1,2,3,4,5,6,7,8,9,10,11,12,13,14,15,16,17,18,19] 20 (.h r (.AB (i:=1) LX G9 r r (by decide) (o:=1) r r r .mk) (.X FI 2 r (.h r (.AB (i:=1) LX G9 r r (by decide) (o:=1) r r r .mk) (.X FI 1 r (.K 1 r (.h r (.AB (i:=1) LX G9 r r (by decide) (o:=1) r r r .mk) ?_)))))))));refine .X FI 4 r (.K 1 r (.h r (.AB (i:=1) LX G9 r r (by decide) (o:=1) r r r .mk) (.X FI 0 r (.K 1 r (.h r (.conv Z0 xL r r r .mk) (.h r (.AB (i:=0) LX G9 r r (by decide) (o:=0) r r r .mk) (.X FI 0 r (.h r (.shl' r r (by decide) r r .mk) (.K 1 r (.Y r (.v call375 (K1 (I:=I) d:) r λq d=>?_)))))))))));refine .q 5 r (.W r (.shl' r r (by decide) r r .mk) (.W r (.I FI .z r .mk) (.W r (.AB (i:=0) LX G9 r r (by decide) (o:=0) r r r .mk) (.W r (.conv Z0 xL r r r .mk) (.j 1 r r (.W r (.I FI .z r .mk) (.W r (.AB (i:=1) LX G9 r r (by decide) (o:=1) r r r .mk) (.j 1 r r (.W r (.I FI .p4 r .mk) (.W r (.AB (i:=1) LX G9 r r (by decide) (o:=1) r r r .mk) (.j 1 r r (.W r (.I FI .p1 r .mk) (.W r (.AB (i:=1) LX G9 r r (by decide) (o:=1) r r r .mk) (.W r (.I FI .p2 r .mk) (.W r (.AB (i:=1) LX G9 r r (by decide) (o:=1) r r r .mk) tv))))))))))))))) (.h r (.index1 (i:=0) LX G9 FI r r (by decide) r r r .mk) (.K 1 r (.h r (.bd EB OJ OI r .mk) (.e2 20 (.R AR .p3 r (.L 16 r (.drop .z (.drop .z (.drop .z ?_)))))))));exact .drop .p1 (.J (B5 r (.w BJ AR r .z r .n) rf ⟨({ Hi:=A5 (IntKind.wrap .u64 ((IntKind.wrap .u64 ((IntKind.wrap .u64 (l.2*m.2))+p.2))+c.2)),Lo:=yX .u64 (shl .u64 c.1 32) q.1 }:AP),r,d⟩))
theorem rE {a0 Q} (d:X9 a0 Q) :
  B3 prog 373 [vi a0] I (λ_=>o6_ Q):=by
 refine Fun.ee func373 ntmps373 r (.F (.D 1 1 r (.B (.F (.D 2 17 r (.A r d (λa d=>?_) λa d=>?_))))))
 . exact .M 1 r (.conv xL Z0 r r r (.neg r r r (.D 1 4 r (.r0 results373 r ⟨(IntKind.wrap .u64 (0 - (IntKind.wrap .u64 (a0)))),r,d⟩))))
 exact .P 1 r (.M 1 r (.conv xL Z0 r r r (.D 1 4 r (.r0 results373 r ⟨(IntKind.wrap .u64 (a0)),r,d⟩))))
theorem AjE {a0 a1 Q} (d:kY a0 a1 Q) :
  B3 prog 374 [.agg (E9 a0).toArray,.agg (E9 a1).toArray] I (λ_=>o5_ Q):=by
 refine Fun.ee func374 ntmps374 r (.F (.bx r λ_=>.bx r λ_=>.al EB r λ_=>?_));refine .L 28 r (.B (.dr [0,1,2,3,4,5,6,7,8,9,10,11,15,16,17,18,19,12,13,14,20] 21 (.K 1 r (.X LY 2 r (.h r (.conv xL Z0 r r r .mk) (.K 1 r (.X LY 1 r (.h r (.conv xL Z0 r r r .mk) (.K 2 r ?_)))))))));refine .X FI 2 r (.K 1 r (.X FI 1 r (.K 2 r (.X FI 2 r (.K 1 r (.X FI 1 r (.K 1 r (.Y r (.v call168 (mY (I:=I) d:) r λb d=>?_)))))))));exact .q 3 r (.j 1 r r (.W r (.I FI .p1 r .mk) (.j 1 r r (.W r (.I FI .p2 r .mk) (.j 2 r r (.W r (.conv xL Z0 r r r .mk) (.W r (.I LY .p1 r .mk) (.j 1 r r (.W r (.conv xL Z0 r r r .mk) (.W r (.I LY .p2 r .mk) (.j 1 r r tv))))))))))) (.K 1 r (.h r (.conv Z0 xL r r r .mk) (.h r (.bd EB OJ OI r .mk) (.e2 21 (.R AR .z r (.L 16 r (.drop .p1 (.drop .p1 (.J (B5 r (.w BJ AR r .z r .n) rf ⟨({ Hi:=A5 (IntKind.wrap .u64 ((IntKind.wrap .u64 ((IntKind.wrap .u64 (a0.Hi)) - (IntKind.wrap .u64 (a1.Hi)))) - b)),Lo:=IntKind.wrap .u64 (a0.Lo - a1.Lo) }:AP),r,d⟩))))))))))
theorem AjF {a0 a1 Q} (h:kZ a0 a1 Q) :
  B3 prog 367 [vi a0,vi a1] I (λ_=>o5_ Q):=by
 refine Fun.ee func367 ntmps367 r (.F (.al EB r λ_=>.V 19 1 r (.v call373 (rE (I:=I) h:) r λ_ h=>.G 1 r (.v call373 (rE (I:=I) h:) r λ_ h=>.v call372 (wP (I:=I) h:) r λf h=>.al EB r λ_=>.R AR .z r (.L 51 r (.B (.M 4 r (.neB underlying4 r r r r (.L 32816 r (.A r h (λd h=>?_) λd h=>?_))))))))))
 . exact .F (.bd EB OJ OI r (.S BJ AR .z r (.v call374 (AjE (I:=I) h:) r λg h=>.R AR .p1 r (.L 16 r (.drop .z (.J (B5 r (.w BJ AR r .z r .n) rf ⟨g,r,h⟩)))))))
 exact .P 48 r (.F (.S BJ AR .z r (.R AR .p1 r (.L 16 r (.drop .z (.J (B5 r (.w BJ AR r .z r .n) rf ⟨f,r,h⟩)))))))
theorem wQ {a0 a1 a2 Q} (U:bB a0 a1 a2 Q) :
  B3 prog 358 [vi a0,vi a1,vi a2] I (λ_=>o5_ Q):=by
 refine Fun.ee func358 ntmps358 r (.F (.al EB r λ_=>.L 71 r (.B (.F (.D 1 327 r (.E (.F (.D 2 839 r (.A r U (λs U=>?_) λs U=>?_)))))))))
 . refine .M 3 r (.T U [12,13] r (λt U=>?_) λt U=>?_)
   . exact .G 3 r (.v call131 (SX (I:=I) U:) r λL U=>.R AR .z r (.L 64 r (.J (B5 r (.w BJ AR r .z r .n) rf ⟨L,r,U⟩))))
   exact .G 3 r (.v call131 (SX (I:=I) U:) r λN U=>.R AR .z r (.L 64 r (.J (B5 r (.w BJ AR r .z r .n) rf ⟨N,r,U⟩))))
 refine .F (.D 2 262215 r (.A r U (λx U=>?_) λx U=>?_))
 . exact .M 2 r (.v call367 (AjF (I:=I) U:) r λO U=>.R AR .z r (.L 64 r (.J (B5 r (.w BJ AR r .z r .n) rf ⟨O,r,U⟩))))
 refine .P 71 r (.B (.jn U [6,2,1,0] [0] r (λj E l _=>j E l) (λ_ U=>?_) ?_))
 . refine .M 1 r (.v call100 (TC (I:=I) U:) r λ_ U=>.G 1 r (.T U [24,25] r (λB U=>?_) λB U=>?_))
   . refine .G 2 r (.O r (.maxI r r r r (.D 2 1073741895 r (.A r U (λC U=>?_) λC U=>?_))))
     . exact .F (.v call101 (NF (I:=I) U:) r λP U=>.R AR .z r (.L 64 r (.J (B5 r (.w BJ AR r .z r .n) rf ⟨P,r,U⟩))))
     exact .AC (je () U rf [0] r)
   exact .D 5 1073741895 r (.Z r r (.AC (je () U rf [0] r)))
 refine λ_ U=>jq r λm b=>.F (.bd EB OJ OI r (.al EB r λR=>.R AR .z r (.L 199 r (.B (.F (.D 1 8589934790 r (.E (.B (.E (.B (.jn U [7,6,2] [1] r (λj E l (o,p)=>j E (pc R #[vi o,.int .u64 p] 150 :: l)) (λ_ U=>?_) ?_)))))))))))
 . refine .E (.B (.E (.B (.B (.F (.D 2 25769803974 r (.A r U (λF U=>?_) λF U=>?_)))))))
   . exact .en 198 r (.C (.G 1 r (.v call101 (NF (I:=m) U:) r λq U=>.R AR .z r (.H (je (q.Hi,q.Lo) U rf I5 r)))))
   refine .P 8589934790 r (.B (.F (.D 2 77309411526 r (.A r U (λH U=>?_) λH U=>?_))))
   . exact .exit (je (0,0) U rf I5 r)
   refine .P 8589934786 r (.F (.D 2 274877907138 r (.A r U (λJ U=>?_) λJ U=>?_)))
   . exact .en 66 r (.drop .z (.B (.M 1 r (.v call101 (NF (I:=m) U:) r λS U=>.R AR .z r (.L 64 r (.J (B5 r (.w BJ AR r .z r .n) b ⟨S,r,U⟩)))))))
   exact .P 192 r (.en 192 r (.F (.S BJ AR .z r (.R AR .p1 r (.L 64 r (.drop .z (.J (B5 r (.w BJ AR r .z r .n) b ⟨GI,r,U⟩))))))))
 rintro⟨o,p⟩ U;refine jq r λa d=>?_;have e:=d.u1 b;refine .B (.B (.dr [1,2,0,3,4,5] 6 (.h r (.S BJ AR .z r .mk) (.K 1 r (.Y r (.v call101 (NF (I:=a) U:) r λ_ U=>.q 2 r (.j 1 r r (.W r (.S BJ AR .z r .mk) tv)) (.Y r (.v call101 (NF (I:=a) U:) r λ_ U=>?_))))))));exact .q 2 r (.W r (.S BJ AR .z r .mk) tv) (.Y r (.v call132 (wF (I:=a) U:) r λ_ U=>.q 2 r tv (.Y r (.v call130 (gG (I:=a) U:) r λK U=>.q 2 r tv (.e2 6 (.R AR .p1 r (.L 64 r (.drop .z (.J (B5 r (.w BJ AR r .z r .n) e ⟨K,r,U⟩))))))))))
theorem yK {a0 a1 a2 a3 a4 Q} (Z:RepSl CB I p1 c2 a1) (R6:RepSl EH I p4 c5 a3) (d:VK a0 a1 a2 a3 a4 Q) :
  B3 prog 345 [vi a0,.slice p1 a1.length c2,vi a2,.slice p4 a3.length c5,.bool a4] I (fun I_ v=>∃ r p7 c8,v=.slice p7 r.length c8∧RepSl ET I_ p7 c8 r∧Q r):=by
 refine Fun.ee func345 ntmps345 r (.M 1 r (.V 31 1 r (.L 2079 r (.B (.M 1 r (.ln DX r (.D 1 116765 r (.E (.own0 ET 314 (.lx d [15,14,4,3,2,0] [] r (fun j E l (a,a5)=>fun c w=>∃ e f,j ⟨39,[],none⟩ (fun I_=>True) ((11,.slice e a.length f) :: (16,vi a5) :: E) (OwnSl ET 314 e f a :: l) c w) (fun c w J O=>⟨_,_,jf rf tv [0] r J O⟩) ?_))))))))))
 rintro ⟨a,a5⟩ _ d c w ⟨e,f,x,b,_,a6,a7⟩
 obtain ⟨Z,R6⟩:=b.u2 Z R6
 refine Cod.at a6 a7 (.F (.D 1 247837 r (.B (.A r d (fun k d=>?_) fun k d=>?_))))
 · refine .P 116765 r (.B (.E (.F ?_)))
   obtain ⟨y,g,m,_,_,A,n,d⟩:=Z.ix d
   refine .U DX DN A y m r (.ldW UB DN n r r r r (.al L8 r fun _=>.R DN .z r (.V 124957 2 r (.I AM .z r (.v call292 (NG R6 d:) r fun _ d=>.G 1 r (.neB underlying4 r r r r (.L 33679389 r (.A r d (fun p d=>?_) fun p d=>?_))))))))
   · refine .dr nl9 11 (.K 2 r (.X AM 0 r (.K 2 r (.X LY 0 r (.K 1 r (.Y r (.v call358 (wQ (I:=x) d:) r fun i d=>.q 2 r (.W r (.I AM .z r .mk) (.j 2 r r tv)) (.h r (.bd gE underlying314 AvM r .mk) (.Y r (.bs 1 EK FG gE r fun _=>?_))))))))))
     refine .q 3 r (.j 1 r r tv) (.Y r ?_)
     obtain ⟨s,d⟩:=d
     exact .ap (ys:=[({ At:=g.At,Val:=i }:BM)]) .p2 EK EK AfF r (.box .z (.one r) r) s fun _ _=>.q 3 r tv (.e2 11 (.D 1 116765 r (.drop .p1 (.drop .p1 (.C (.G 2 r (.H fun c w J O=>⟨_,d,_,_,jf b tv [0] r J O⟩)))))))
   exact .P 116765 r (.drop .z (.C (.G 2 r (.H fun c w J O=>⟨_,d,_,_,jf b tv [0] r J O⟩))))
 refine .en 2048 r (.F (.D 2 1024 r (.y .z fun _ t B=>?_)))
 have u:=t.u1 b
 exact .r1 results345 r u ⟨a,_,_,r,B,d⟩
theorem pY {a0 a1 Q} (h:wU I gd1 a0) (J:TV a0 a1 Q) :
  Fun prog 360 #[.agg (FD a0 gd1),vi a1] I [] (λd v l=>∃ r b3 gd4 b6,v=.func (.func 369) #[] #[vp b3,vp b6]∧wU d gd4 r.1∧l=[pc b3 (FD r.1 gd4) 189,pc b6 #[vi r.2] 3]∧Q r):=by
 exact Fun.ee func360 ntmps360 r (.F (.bx r λb3=>.box1 r r r r λ_=>.G 1 r (.ns 12 r (.mkFn r r r r (.D 1 16 r (.q1 results360 rf mW r ⟨(a0,a1),_,gd1,_,r,h,r,J⟩))))))
theorem jL {o0 o1 o2 o3 Y Q} (hY:∀ {J_:IH},I.le J_->∀ {y14:Nat} {y15:List B9} {x21:B9} {p17:Option Addr} {c18:Nat} {Z:(Bool×Nat×(List B9))->Prop},Y y14 y15 x21 Z->RFun prog lr [.agg (V9 x21).toArray] J_ [Rr y14,pc b5 #[.slice p17 y15.length c18] 233,OwnSl CB 300 p17 c18 y15] (λW v l=>∃ r p23 c24,v=.bool r.1∧l=[Rr r.2.1,pc b5 #[.slice p23 r.2.2.length c24] 233,OwnSl CB 300 p23 c24 r.2.2]∧Z r)) (J:wU I gd11 o2) (D:PO o0 o1 o2 o3 Y Q) :
  Fun prog 369 #[.func (.yield lr) #[] #[],vp b10,vp b13] I [Rr o0,pc b5 #[.slice p6 o1.length c7] 233,OwnSl CB 300 p6 c7 o1,pc b10 (FD o2 gd11) 189,pc b13 #[vi o3] 3] (λW v l=>∃ r p15 c16,v=.tuple #[]∧l=[Rr r.1,pc b5 #[.slice p15 r.2.length c16] 233,OwnSl CB 300 p15 c16 r.2,pc b10 (FD o2 gd11) 189,pc b13 #[vi o3] 3]∧Q r):=by
 refine Fun.ee func369 ntmps369 r (.M 1 r (.I EJ .p3 r (.I AM .p4 r ?_)));have⟨S,_,C,_,_,T,a2,D⟩:=J.2.1.ix D;refine .U BE D3 T S C r (.x 0 AM a2 r (.D 1 23 r (.E (.lx D nl5 [3,3] r (λj E l (b,m,d)=>λc w=>∃ e f,j ⟨34,[],none⟩ (λW=>True) ((4,vi m) :: E) (pc b5 #[.slice e b.length f] 233 :: OwnSl CB 300 e f b :: Rr d :: l) c w) (λc w O V=>⟨_,_,jf rf tv [1,1,0,0,0] r O V⟩) ?_))));rintro⟨b,m,d⟩ _ D c w ⟨e,f,F,a,_,a5,a6⟩;have J:=a.u1 J;refine Cod.at a5 a6 (.B (.M 2 r (.I EJ .p3 r (.I AM .p4 r (.G 1 r ?_)))));have⟨G,_,q,_,_,H,s,D⟩:=J.2.1.ix D;refine .U BE D3 H G q r (.x 0 AM s r (.D 1 131095 r (.A r D (λt D=>?_) λt D=>?_)))
 . refine .P 23 r (.B (.E (.B (.ownF .p1 λ_=>.dr Aj5 14 (.K 2 r (.X EJ 3 r (.K 1 r ?_)))))));have⟨a3,K,u,_,_,L,g,D⟩:=J.2.2.1.ix D;refine .h r (.U BE D3 L a3 u r .mk) (.h r (.x 0 AM g r .mk) (.K 1 r (.X FX 3 r (.K 1 r ?_))));have⟨N,a4,x,_,_,P,i,D⟩:=J.2.2.2.ix D;refine .h r (.U DF XP P N x r .mk) (.h r (.x 0 LY i r .mk) (.h r (.bd L8 vD vB r .mk) (.Y r λ{ex}=>?_)));have y:=hY (J_:=F) a (y14:=d) (y15:=b) (x21:=({ At:=K,Val:=a4 }:B9)) (p17:=e) (c18:=f) D;refine .callY r r (.o [2,0,0] r) y r r λ_ _ _ z A=>?_;obtain⟨k,_,_,rfl,rfl,D⟩:=A;have⟨p,J,g,i⟩:=z.u4 a J g i;refine .rx 5 r (.q 5 r tv (.K 1 r (.e2 14 (.L 8589934615 r (.A r D (λB D=>?_) λB D=>?_)))))
   . exact .J (DZ r .n p (.o nl8 r) ⟨(k.2.1,k.2.2),_,_,r,r,D⟩)
   exact .P 23 r (.C (.G 3 r (.H λc w O V=>⟨_,D,_,_,jf p tv [1,1,0,0,0] r O V⟩)))
 exact .exit (JR r .n a (.o [2,0,0,0,0] r) ⟨(d,b),_,_,r,r,D⟩)
theorem KD {o0 o1 Q} (R5:wU I gd4 o0) (hd:DT o0 o1 Q) :
  Fun prog 368 #[.slice none 0 0,.func (.func 369) #[] #[vp b3,vp b6]] I [pc b3 (FD o0 gd4) 189,pc b6 #[vi o1] 3] (λI_ v l=>∃ r p7 c8,v=.slice p7 r.length c8∧RepSl CB I_ p7 c8 r∧l=[pc b3 (FD o0 gd4) 189,pc b6 #[vi o1] 3]∧Q r):=by
 refine Fun.en func368 ntmps368 r λw0 M=>.marks0 (.F (.box1 r r r r λm=>.D 1 6 r (.B (.F (.D 1 70 r (.E (.own0 CB 300 (.rangeF [] r call369 (.o [2,1,0,0,0] r) λlr D rc hrc=>?_))))))));refine⟨_,jL (I:=I) (lr:=lr) (Rr:=eZ lr [] rc) (o0:=0) (o1:=([]:List B9)) (o2:=o0) (o3:=o1) (b5:=m) (p6:=none) (c7:=0) (b10:=b3) (gd11:=gd4) (b13:=b6) ?_ R5 hd,?_⟩
 . intro I hJ p h b q s Qy  hd
   replace R5:=hJ.u1 R5
   obtain⟨rfl,hd⟩:=hd;refine RFun.mk hrc r λw0 M=>.C (.al L8 r λu=>.R DN .z r (.H λc w ho hs=>tF (E':=[(2,_),(5,_)]) ho ⟨r,r,tv⟩ hs .p1 (.E (.C (.I HO .p2 r (.S UB DN .z r (.bs 1 DX DN L8 r λx=>?_)))))));have⟨d,hd⟩:=hd;exact .ap (ys:=[b]) .p4 DX DX vA r (.box .z (.one r) r) d λy A=>.s1 sizeOf233 .p4 r (.H λc w ho hs=>AhK 0 (.inl rfl) rf .p3 (.o [3,0] rfl) ⟨(true,0,(h++([b]))),_,_,rfl,rfl,hd⟩ hs)
 intro B C l' a e;obtain⟨j,E,F,rfl,rfl,hd⟩:=e;have R5:=a.u1 R5;have⟨hz,hd⟩:=hd;refine⟨_,_,r,λhj=>?_,λi hj=>absurd (hz.symm.trans hj) (by simp)⟩;refine .rn 5 r (.mkS 6 r r (.F (.I HO .p1 r (.D 1 18 r (.drop .p1 (.y .p1 λG f k=>?_))))));have⟨g,R5⟩:=f.u2 a R5;exact .J (AvE .z results368 (.t r .n) g (.o I5 r) ⟨j.2,_,_,r,k,r,hd⟩)
theorem RW {o0 o1 Q} (h:wU I gd4 o0) (J:ER o0 o1 Q) :
  Fun prog 359 #[.func (.func 369) #[] #[vp b3,vp b6]] I [pc b3 (FD o0 gd4) 189,pc b6 #[vi o1] 3] (λO v l=>∃ r p7 c8,v=.slice p7 r.length c8∧RepSl CB O p7 c8 r∧l=[pc b3 (FD o0 gd4) 189,pc b6 #[vi o1] 3]∧Q r):=by
 refine Fun.ee func359 ntmps359 r ?_;refine .M 1 r (.V 1 1 r ?_);refine .cS (.f call368 r) (.o I5 r) r (KD (b3:=b3) (b6:=b6) h J:) λ_ _ _ a b=>?_;obtain⟨d,_,_,rfl,e,rfl,J⟩:=b;have h:=a.u1 h;exact .rn 2 r (.D 1 5 r (.q1 results359 a I5 r ⟨d,_,_,r,e,r,J⟩))
theorem yL {a0 a1 Q} (J:wU I gd1 a0) (d:VL a0 a1 Q) :
  B3 prog 346 [.agg (FD a0 gd1),vi a1] I (AyB Q):=by
 refine Fun.ee func346 ntmps346 r ?_;refine .F (.bx r λ_=>?_);refine .G 1 r (.ns 6 r (.S H9 EG .z r (.ca call340 r (rC J d:) λ_ _ b e=>?_)));obtain⟨_,_,rfl,a,d⟩:=e;have J:=b.u1 J;refine .R EG .z r (.ns 6 r (.S H9 EG .z r (.G 1 r (.v call341 (nD a d:) r λ_ d=>.D 1 36 r (.B (.F (.D 2 4132 r (.A r d (λh d=>?_) λh d=>?_))))))))
 . exact .F (.D 1 16 r (.drop .z (.r1 results346 r b ⟨([]:List B9),_,_,r,(.nil _ _ _),d⟩)))
 refine .P 36 r (.F (.S H9 EG .z r (.G 1 r ?_)));refine .cS (.f call360 r) .n r (pY a d:) λ_ _ _ j k=>?_;obtain⟨_,t,_,u,rfl,c,rfl,d⟩:=k;have⟨l,a⟩:=j.u2 b a;refine .rn 3 r ?_;refine .cS (.f call359 r) (.o I5 r) r (RW (b3:=t) (b6:=u) c d:) λ_ _ _ p q=>?_;obtain⟨v,_,_,rfl,w,rfl,d⟩:=q;have⟨s,a,c⟩:=p.u3 l a c;exact .rn 3 r (.D 1 16 r (.drop .z (.drop .z (.drop .z (.r1 results346 r s ⟨v,_,_,r,w,d⟩)))))
theorem AgU {a0 a1 a2 a3 a4 Q} (O:wU I gd1 a1) (U:RepSl CB I p3 c4 a2.Items) (J:RepSl EH I p6 c7 a3) (D:dY a0 a1 a2 a3 a4 Q) :
  B3 prog 317 [vi a0,.agg (FD a1 gd1),.agg #[vi a2.N,.slice p3 a2.Items.length c4],.slice p6 a3.length c7,.bool a4] I (fun Z v=>∃ r p9 c10,v=.tuple #[.slice p9 r.1.length c10,vi r.2]∧RepSl ET Z p9 c10 r.1∧Q r):=by
 refine Fun.ee func317 ntmps317 r ?_
 refine .F (.bx r fun _=>.bx r fun _=>?_)
 refine .G 2 r (.ns 217 r (.S H9 EG .p1 r (.S BK AQ .z r (.ca call344 r (AgT O U D:) fun _ d3 d a5=>?_))))
 obtain ⟨_,_,_,_,rfl,a,b,D⟩:=a5
 obtain ⟨O,U,J⟩:=d.u3 O U J
 refine .G 3 r (.R EG .p1 r (.R AQ .z r (.L 217 r (.B (.E (.M 1 r (.v call100 (TC (I:=d3) D:) r fun _ D=>.D 2 2097369 r (.A r D (fun a7 D=>?_) fun a7 D=>?_))))))))
 · exact .F (.D 2 3072 r (.drop .z (.drop .z (.J (B5 r (.t r (.t r .n)) d ⟨(([]:List BM),8),_,_,r,(.nil _ _ _),D⟩)))))
 refine .M 1 r (.I AM .z r (.G 1 r (.I AM .p1 r (.D 2 33554649 r (.A r D (fun a8 D=>?_) fun a8 D=>?_)))))
 · exact .F (.D 2 3072 r (.drop .z (.drop .z (.J (B5 r (.t r (.t r .n)) d ⟨(([]:List BM),4),_,_,r,(.nil _ _ _),D⟩)))))
 refine .P 217 r (.F (.D 1 4313 r (.B (.M 1 r (.I HO .z r (.ln DX r (.D 1 30064775257 r (.drop .z (.E (.own0 (Y7 ET) 192 (.lx D [33,32,6,4,3,0] [1] r (fun j E l (e,g)=>fun c w=>∃ i k,j ⟨57,[],none⟩ (fun Z=>True) ((12,.slice i e.length k) :: (34,vi g) :: E) (OwnSl (Y7 ET) 192 i k e :: l) c w) (fun c w V W=>⟨_,_,jf rf tv I5 r V W⟩) ?_)))))))))))
 rintro ⟨e,g⟩ _ D c w ⟨i,k,_,f,_,d4,d5⟩
 obtain ⟨p,J,a,b⟩:=f.u4 d J a b
 refine Cod.at d4 d5 (.F (.D 1 64424513625 r (.B (.A r D (fun u D=>?_) fun u D=>?_))))
 · refine .P 30064775257 r (.B (.E (.F ?_)))
   obtain ⟨a9,_,x,_,_,b0,y,D⟩:=b.ix D
   refine .U DX DN b0 a9 x r (.ldW UB DN y r r r r (.al L8 r fun _=>?_))
   refine .R DN .z r (.L 30064791641 r (.dr [0,1,2,3,4,6,7,8,9,5,10,11,12] 13 (.K 2 r (.h r (.S H9 EG .p2 r .mk) (.K 1 r (.X AM 0 r (.K 1 r (.X LY 0 r (.K 2 r ?_)))))))))
   refine .Y r ?_
   refine .ca call346 r (yL a D:) fun _ _ B C=>?_
   obtain ⟨_,_,_,rfl,m,D⟩:=C
   obtain ⟨a6,F,J,a,b⟩:=B.u5 p f J a b
   refine .q 3 r (.j 2 r r (.W r (.I LY .z r .mk) (.j 3 r r tv))) (.Y r ?_)
   refine .ca call345 r (yK m J D:) fun _ _ H c0=>?_
   obtain ⟨q,_,_,rfl,b1,D⟩:=c0
   obtain ⟨_,K,J,a,b,m⟩:=H.u6 a6 F J a b m
   refine .q 3 r (.j 1 r r tv) (.Y r (.bs 1 qV ZT zeroValue192 r fun _=>.q 4 r (.j 1 r r tv) (.Y r ?_)))
   obtain ⟨L,D⟩:=D
   exact .ap (ys:=[q]) .p2 qV qV Ay0 r (.box .z (.one ⟨_,_,r,b1⟩) r) L fun _ _=>.q 4 r tv (.e2 13 (.D 1 30064775257 r (.drop .p1 (.drop .p1 (.C (.G 2 r (.H fun c w V W=>⟨_,D,_,_,jf K tv I5 r V W⟩)))))))
 refine .en 4097 r (.drop .p1 (.M 2 r (.y .z fun _ c1 o=>?_)))
 obtain ⟨P,R⟩:=c1.u2 p f
 refine .AF call248 r (nF o D:) r r fun _ _ _ T d0=>?_
 obtain ⟨s,_,_,rfl,rfl,D⟩:=d0
 obtain ⟨d1,d2,o⟩:=T.u3 P R o
 refine .D 4 3072 r (.y .z fun _ X b2=>?_)
 obtain ⟨Y,_⟩:=X.u2 d1 d2
 exact .J (B5 r (.t r (.t r .n)) Y ⟨(s.1,s.2),_,_,r,b2,D⟩)
theorem AgV {a0 a1 Q} (O:nN I gb1 a0) (J:lTi I gi3 a1) (D:dZ a0 a1 Q) :
  B3 prog 347 [.agg (KX a0 gb1),.agg (KY a1 gi3)] I (λU v=>∃ r a2 a3,v=.tuple #[.agg (KX r.1 a2),.agg (KY r.2 a3)]∧nN U a2 r.1∧lTi U a3 r.2∧Q r):=by
 refine Fun.ee func347 ntmps347 r (.F (.bx r λC=>.bx r λ_=>.al ON r λ_=>.al mG r λ_=>.L 60 r (.B (.jx D [5,4,3,2] nl5 r (λj E l d=>λc w=>∃ a,j ⟨19,[],none⟩ (λU=>nN U a d) E (pc C (KX d a) 187 :: l) c w) (λ_ D=>?_) ?_))))
 . refine .F (.S CW BL .p3 r (.v call180 (W5 O D:) r λ_ D=>.D 1 316 r (.A r D (λk D=>?_) λk D=>?_)))
   . refine .C (.S CW BL .p3 r (.ba fG UA D3 r (.ba fG UA D3 r ?_)));refine .ca call182 r (eW O D:) λ_ _ f o=>?_;obtain⟨a4,p,rfl,F,D⟩:=o;have⟨O,J⟩:=f.u2 O J;exact .R BL .p3 r (.H λc w V Z=>⟨a4,D,p,jf f F [3,2,1,0] r V Z⟩)
   exact .AC λc w V Z=>⟨a0,D,gb1,jf rf O [3,2,1,0] r V Z⟩
 rintro d D c w ⟨a,G,e,b,a6,a7⟩;have J:=e.u1 J;refine Cod.at a6 a7 (.B (.F (.S L7 FH .p1 r (.v call356 (gN J D:) r λ_ D=>.D 1 32828 r (.A r D (λs D=>?_) λs D=>?_)))))
 . refine .C ?_;refine .AF call313 r (W7 (I:=G) D:) r r λ_ _ _ u x=>?_;obtain⟨H,_,_,_,_,rfl,g,rfl,D⟩:=x;have⟨y,J,b⟩:=u.u3 e J b;refine .R FH .p2 r (.L 60 r (.B (.dr [0,1,2] 3 (.h r (.S CW BL .p1 r .mk) (.h r (.S L7 FH .p2 r .mk) (.Y r ?_))))));refine .R BL .p3 r (.P 5 r r r (.W r (.S L7 FH .p2 r .mk) tv) (.e2 3 (.R FH .p4 r (.L 48 r (.drop .p1 (.drop .p1 (.y .z λ_ A a5=>?_)))))));have⟨B,b,g⟩:=A.u3 y b g;exact .J (B5 r (.w CW BL r .z r (.w L7 FH r .p1 r .n)) B ⟨(d,H),a,((_,_),(_,_)),r,b,⟨g,a5⟩,D⟩)
 refine .P 60 r (.B (.dr [0,1,2] 3 (.h r (.S CW BL .z r .mk) (.h r (.S L7 FH .p1 r .mk) (.Y r ?_)))));exact .R BL .p2 r (.P 4 r r r (.W r (.S L7 FH .p1 r .mk) tv) (.e2 3 (.R FH .p3 r (.L 48 r (.drop .z (.drop .z (.J (B5 r (.w CW BL r .z r (.w L7 FH r .p1 r .n)) e ⟨(d,a1),a,gi3,r,b,J,D⟩))))))))
theorem pZ {a0 Q} (h:TW a0 Q) :
  Fun prog 362 #[vi a0] I [] (λ_ v l=>∃ r d b2 b3,v=.tuple #[.func (.func 370) #[] #[vp d,vp b2,vp b3],.func (.func 371) #[] #[vp b3,vp d]]∧l=[pc d #[.bool r.1] 4,pc b2 #[vi r.2.1] 109,pc b3 #[vi r.2.2.Hi,.int .u64 r.2.2.Lo] 150]∧Q r):=by
 refine Fun.ee func362 ntmps362 r (.F (.box1 r r r r λb3=>.G 2 r (.ns 2 r (.al EB r λ_=>.ns 18 r (.alloc1 zeroValue4 r r r λ_=>?_)))));exact .s1 sizeOf4 .z r (.ns 50 r (.mkFn r r r r (.G 1 r (.V 52 1 r (.mkFn r r r r (.D 2 12 r (.J (DZ r (.t r (.t r .n)) rf (.o [0,1,0] r) ⟨(false,a0,GI),_,_,_,r,r,h⟩))))))))
theorem jM {o0 o1 o2 a0 Q} (d:PP o0 o1 o2 a0 Q) :
  Fun prog 370 #[.agg (E9 a0).toArray,vp b4,vp b5,vp b6] I [pc b4 #[.bool o0] 4,pc b5 #[vi o1] 109,pc b6 #[vi o2.Hi,.int .u64 o2.Lo] 150] (λ_ v l=>∃ r,v=.tuple #[]∧l=[pc b4 #[.bool r.1] 4,pc b5 #[vi o1] 109,pc b6 #[vi r.2.Hi,.int .u64 r.2.Lo] 150]∧Q r):=by
 refine Fun.ee func370 ntmps370 r (.F (.bx r λ_=>.L 30 r (.B (.F (.I ia4 .p1 r (.L 62 r (.A r d (λa d=>?_) λa d=>?_)))))))
 . exact .C (.I isAgg109 .p2 r (.S BJ AR .p3 r (.S BJ AR .z r (.v call102 (jA (I:=I) d:) r λc d=>.R AR .z r (.L 26 r (.C (.S BJ AR .z r (.R AR .p3 r (.s1 sizeOf4 .p1 r (.H (JR r .n rf (.o xY r) ⟨(true,c),r,r,d⟩)))))))))))
 exact .P 26 r (.C (.S BJ AR .z r (.R AR .p3 r (.s1 sizeOf4 .p1 r (.H (JR r .n rf (.o xY r) ⟨(true,a0),r,r,d⟩))))))
theorem jN {o0 o1 Q} (d:PQ o0 o1 Q) :
  Fun prog 371 #[vp b3,vp b4] I [pc b3 #[vi o0.Hi,.int .u64 o0.Lo] 150,pc b4 #[.bool o1] 4] (λ_ v l=>∃ r,v=.tuple #[.agg (E9 r.1).toArray,.bool r.2]∧l=[pc b3 #[vi o0.Hi,.int .u64 o0.Lo] 150,pc b4 #[.bool o1] 4]∧Q r):=by
 refine Fun.ee func371 ntmps371 r (.F (.al EB r λ_=>.D 1 7 r (.B (.dr [0,1,2] 3 (.h r (.S BJ AR .p1 r .mk) (.X ia4 2 r (.Y r ?_)))))));exact .R AR .z r (.P 3 r r r (.W r (.I ia4 .p2 r .mk) tv) (.e2 3 (.D 1 15 r (.J (DZ r (.w BJ AR r .z r (.t r .n)) rf (.o [1,1] r) ⟨(o0,o1),r,r,d⟩)))))
theorem AjG {a0 a1 a2 a3 Q} (W:nN I gb1 a1) (Z:lTi I gi3 a3) (V:lC a0 a1 a2 a3 Q) :
  B3 prog 349 [vi a0,.agg (KX a1 gb1),vi a2,.agg (KY a3 gi3)] I (λ_ v=>∃ r,v=.tuple #[.agg (E9 r.1).toArray,.bool r.2]∧Q r):=by
 refine Fun.ee func349 ntmps349 r ?_;refine .F (.bx r λ_=>.bx r λ_=>?_);refine .al EB r λ_=>.G 1 r (.V 421 1 r (.cS (.f call362 r) .n r (pZ (I:=I) V:) λ_ _ _ s X=>?_));obtain⟨_,u,N,x,rfl,rfl,V⟩:=X;have⟨W,Z⟩:=s.u2 W Z;refine .rn 6 r (.D 5 3493 r (.B (.M 1 r (.I EJ .p5 r (.G 1 r ?_)))));have⟨S,_,Y,_,_,c1,d0,V⟩:=W.1.ix V;refine .U BE D3 c1 S Y r (.x 0 AM d0 r (.D 1 7589 r (.E (.lp V [11,10,8,7,5,2,0] [5,4,3,1] r (λj E l (g,i,k,b)=>j ((12,vi b) :: E) (pc u #[.bool g] 4 :: pc x #[vi i,.int .u64 k] 150 :: l)) (ji rf [0,1,3,2,1,0] r) ?_))));rintro⟨g,i,k,b⟩ _ V;refine jq r λm a=>?_;have⟨q,W,Z⟩:=a.u3 s W Z;refine .B (.M 2 r (.I EJ .p2 r (.G 2 r ?_)));have⟨a4,_,A,_,_,a5,B,V⟩:=W.1.ix V;refine .U BE D3 a5 a4 A r (.x 0 AM B r (.D 1 2147491237 r (.A r V (λC V=>?_) λC V=>?_)))
 . refine .P 7589 r (.B (.E (.M 1 r (.I EJ .p2 r (.G 1 r ?_)))));have⟨a6,_,D,_,_,a7,F,V⟩:=W.2.1.ix V;refine .U BE D3 a7 a6 D r (.x 0 AM F r (.G 1 r (.V 15781 1 r (.I P1 .p3 r (.G 1 r (.v call292 (NG Z.1 V:) r λ_ V=>.L 4398046526885 r (.A r V (λH V=>?_) λH V=>?_)))))))
   . refine .dr Aj5 14 (.K 3 r (.X FX 2 r (.K 1 r ?_)));have⟨a8,_,J,_,_,a9,d,V⟩:=W.2.2.ix V;refine .h r (.U DF XP a9 a8 J r .mk) (.h r (.x 0 LY d r .mk) (.K 1 r (.X FX 3 r (.K 1 r ?_))));have⟨b0,_,K,_,_,b1,e,V⟩:=Z.2.ix V;refine .h r (.U DF XP b1 b0 K r .mk) (.h r (.x 0 LY e r .mk) (.Y r ?_));refine .v call358 (wQ (I:=m) V:) r λ_ V=>?_;refine .q 6 r (.j 1 r r tv) (.Y r ?_);refine .cS (.c call370 r r) (.o [0,4,0] r) r (jM (I:=m) (b4:=u) (b5:=N) (b6:=x) V:) λ_ _ _ O P=>?_;obtain⟨p,rfl,rfl,V⟩:=P;have⟨_,R,W,Z,d,e⟩:=O.u6 q a W Z d e;exact .rx 6 r (.q 6 r tv (.e2 14 (.L 7589 r (.C (.G 3 r (.H (je (p.1,p.2.Hi,p.2.Lo,A5 (b+1)) V R [0,1,1,1,1,0] r)))))))
   exact .P 7589 r (.C (.G 3 r (.H (je (g,i,k,A5 (b+1)) V a UH r))))
 refine .en 2304 r (.drop .p2 (.drop .p2 (.drop .p3 (.M 1 r ?_))));refine .cS (.c call371 r r) (.o mW r) r (jN (I:=m) (b3:=x) (b4:=u) V:) λ_ _ _ T U=>?_;obtain⟨y,rfl,rfl,V⟩:=U;have⟨c0,_⟩:=T.u2 q a;exact .rn 3 r (.G 2 r (.R AR .p2 r (.D 1 768 r (.drop .z (.drop .z (.J (B5 r (.w BJ AR r .z r (.t r .n)) c0 ⟨(y.1,y.2),r,V⟩)))))))
theorem qA {a0 a1 a2 Q} (h:RepSl EH I p1 c2 a1) (J:TX a0 a1 a2 Q) :
  Fun prog 348 #[vi a0,.slice p1 a1.length c2,.bool a2] I [] (λd v l=>∃ r b4 b5 p6 c7 b9,v=.func (.func 361) #[] #[vp b4,vp b5,vp b9]∧RepSl EH d p6 c7 r.2.1∧l=[pc b4 #[vi r.1] 3,pc b5 #[.slice p6 r.2.1.length c7] 40,pc b9 #[.bool r.2.2] 4]∧Q r):=by
 exact Fun.ee func348 ntmps348 r (.F (.box1 r r r r λb4=>.box1 r r r r λ_=>.box1 r r r r λ_=>.G 1 r (.ns 56 r (.mkFn r r r r (.D 1 64 r (.q1 results348 rf nl5 r ⟨(a0,a1,a2),_,_,_,_,_,r,h,r,J⟩))))))
theorem jO {o0 o1 o2 o3 o4 o5 o6 o7 Y Q} (hY:∀ {J_:IH},I.le J_->∀ {y27:Nat} {y28:Int} {y30:Rows} {y34:Dense} {y38:List BM} {x44:Int} {gb32:aTb} {gi36:aTi} {p40:Option Addr} {c41:Nat} {Qy:(Bool×Nat×(List BM))->Prop},nN J_ gb32 y30->lTi J_ gi36 y34->Y y27 y28 y30 y34 y38 x44 Qy->RFun prog lr [vi x44] J_ [Rr y27,pc b9 #[vi y28] 109,pc b10 (KX y30 gb32) 187,pc b13 (KY y34 gi36) 324,pc b16 #[.slice p40 y38.length c41] 192,OwnSl ET 314 p40 c41 y38] (λI_ v l=>∃ r a8 a6,v=.bool r.1∧l=[Rr r.2.1,pc b9 #[vi y28] 109,pc b10 (KX y30 gb32) 187,pc b13 (KY y34 gi36) 324,pc b16 #[.slice a8 r.2.2.length a6] 192,OwnSl ET 314 a8 a6 r.2.2]∧Qy r)) (a2:nN I gb11 o2) (a3:lTi I gi14 o3) (a4:RepSl EH I p23 c24 o6) (O:PR o0 o1 o2 o3 o4 o5 o6 o7 Y Q) :
  Fun prog 361 #[.func (.yield lr) #[] #[],vp b21,vp b22,vp b26] I [Rr o0,pc b9 #[vi o1] 109,pc b10 (KX o2 gb11) 187,pc b13 (KY o3 gi14) 324,pc b16 #[.slice p17 o4.length c18] 192,OwnSl ET 314 p17 c18 o4,pc b21 #[vi o5] 3,pc b22 #[.slice p23 o6.length c24] 40,pc b26 #[.bool o7] 4] (λI_ v l=>∃ r a7 a5,v=.tuple #[]∧l=[Rr r.1,pc b9 #[vi o1] 109,pc b10 (KX o2 gb11) 187,pc b13 (KY o3 gi14) 324,pc b16 #[.slice a7 r.2.length a5] 192,OwnSl ET 314 a7 a5 r.2,pc b21 #[vi o5] 3,pc b22 #[.slice p23 o6.length c24] 40,pc b26 #[.bool o7] 4]∧Q r):=by
 refine Fun.ee func361 ntmps361 r (.F (.I AM .p6 r (.D 1 207 r (.E (.lx O [6,3,2,1,0] [1,1,1,3,3,3] r (λj E l (d,e,f)=>λc w=>∃ g i,j ⟨22,[],none⟩ (λI_=>True) ((7,vi e) :: E) (pc b16 #[.slice g d.length i] 192 :: OwnSl ET 314 g i d :: Rr f :: l) c w) (λc w U V=>⟨_,_,jf rf tv [4,4,0,0,0,0,0,0,0] r U V⟩) ?_)))));rintro⟨d,e,f⟩ _ O c w ⟨g,i,y,b,_,a9,b0⟩;have⟨a2,a3,a4⟩:=b.u3 a2 a3 a4;refine Cod.at a9 b0 (.F (.D 1 463 r (.B (.A r O (λp O=>?_) λp O=>?_))))
 . refine .P 207 r (.B (.E (.F (.D 2 239 r (.B (.dr [0,1,3,2,4,5,6,7,8,9,10] 11 (.X P1 7 r (.K 1 r (.X ia4 8 r (.Y r (.v call292 (NG a4 O:) r λ_ O=>?_)))))))))));refine .q 9 r (.W r (.I ia4 .p8 r .mk) tv) (.h r (.neB underlying4 r r r r .mk) (.K 1 r ?_));refine D5 O (λa O=>?_) λa O=>?_
   . refine .h r (.N r r a (.AD r r r .mk)) (.h r (.N r r a (.AD r r r .mk)) (.Y r λ{ex}=>?_));have s:=hY (J_:=y) b (y27:=f) (y28:=o1) (y30:=o2) (y34:=o3) (y38:=d) (x44:=e) (gb32:=gb11) (gi36:=gi14) (p40:=g) (c41:=i) a2 a3 O;refine .N r r a (.callY r r (.o [2,2,2,2,0,0] r) s r r λ_ _ _ t u=>?_);obtain⟨k,_,_,rfl,rfl,O⟩:=u;have⟨m,a2,a3,a4⟩:=t.u4 b a2 a3 a4;refine .rx 9 r (.q 9 r tv (.h r (.N r r a (.not r r r .mk)) (.h r (.pickT r a r r r .mk) (.e2 11 (.L 1048783 r (.A r O (λx O=>?_) λx O=>?_))))))
     . exact .J (DZ r .n m (.o [0,0,0,0,0,0,0,0,0] r) ⟨(k.2.1,k.2.2),_,_,r,r,O⟩)
     exact .P 207 r (.C (.G 2 r (.H λc w U V=>⟨_,O,_,_,jf m tv [4,4,0,0,0,0,0,0,0] r U V⟩)))
   exact .gn r a (.gn r a (.gn r a (.gn r a (.h r (.pickF r a r r r .mk) (.e2 11 (.L 1048783 r (.Z r r (.P 207 r (.C (.G 2 r (.H λc w U V=>⟨_,O,_,_,jf b tv [0,0,0,0,0,0,0,0,0] r U V⟩)))))))))))
 exact .exit (JR r .n b (.o [2,2,2,2,0,0,0,0,0] r) ⟨(f,d),_,_,r,r,O⟩)
theorem AgW {a0 a1 a2 a3 a4 Q} (R2:nN I gb1 a1) (R4:lTi I gi3 a2) (R7:RepSl EH I p5 c6 a3) (hd:eA a0 a1 a2 a3 a4 Q) :
  B3 prog 318 [vi a0,.agg (KX a1 gb1),.agg (KY a2 gi3),.slice p5 a3.length c6,.bool a4] I (λI_ v=>∃ r p8 c9,v=.tuple #[.slice p8 r.1.length c9,vi r.2]∧RepSl ET I_ p8 c9 r.1∧Q r):=by
 refine Fun.en func318 ntmps318 r λw0 M=>?_;refine .marks0 (.F (.box1 r r r r λV=>?_));refine .bx r λW=>?_;refine .bx r λb21=>?_;refine .G 2 r (.ns 248 r (.S CW BL .p1 r (.S L7 FH .z r ?_)));refine .ca call347 r (AgV R2 R4 hd:) λm X e E=>?_;obtain⟨B,F,G,rfl,a,b,hd⟩:=E;have⟨R2,R4,R7⟩:=e.u3 R2 R4 R7;refine .G 3 r (.R BL .p1 r (.R FH .z r (.L 248 r (.B (.E (.F (.I isAgg109 .p2 r (.v call100 (TC (I:=X) hd:) r λd0 hd=>.D 2 4194552 r (.A r hd (λJ hd=>?_) λJ hd=>?_)))))))))
 . exact .F (.D 2 3072 r (.drop .z (.drop .z (.drop .z (.J (zD .z results318 (.t r (.t r .n)) e ⟨(([]:List BM),8),_,_,r,(.nil _ _ _),hd⟩))))))
 refine .M 1 r (.I AM .z r (.G 1 r (.I AM .p1 r (.D 2 67109112 r (.A r hd (λK hd=>?_) λK hd=>?_)))))
 . exact .F (.D 2 3072 r (.drop .z (.drop .z (.drop .z (.J (zD .z results318 (.t r (.t r .n)) e ⟨(([]:List BM),4),_,_,r,(.nil _ _ _),hd⟩))))))
 refine .P 248 r (.F (.alloc1 zeroValue192 r r r λY=>?_));refine .L 4344 r (.B (.M 1 r (.I AM .p2 r (.G 2 r ?_))));refine .cS (.f call348 r) .n r (qA R7 hd:) λd1 Z d2 N O=>?_;obtain⟨g,a5,a6,a7,a8,P,rfl,d,rfl,hd⟩:=O;have⟨l,R7,a,b⟩:=N.u4 e R7 a b;refine .rn 8 r (.L 68719481056 r (.E (.own0 ET 314 (.rangeF [] r call361 (.o [8,7,6,5,4,0,0,0,0] r) λlr D rc hrc=>?_))));refine⟨_,jO (I:=Z) (lr:=lr) (Rr:=eZ lr [] rc) (o0:=0) (o1:=a0) (o2:=B.1) (o3:=B.2) (o4:=([]:List BM)) (o5:=g.1) (o6:=g.2.1) (o7:=g.2.2) (b9:=V) (b10:=W) (gb11:=F) (b13:=b21) (gi14:=G) (b16:=Y) (p17:=none) (c18:=0) (b21:=a5) (b22:=a6) (p23:=a7) (c24:=a8) (b26:=P) ?_ a b d hd,?_⟩
 . intro I hJ b1 b2 b3 b4 h j a9 b0 b5 b6 Qy R S hd
   replace a:=hJ.u1 a
   replace b:=hJ.u1 b
   replace d:=hJ.u1 d
   obtain⟨rfl,hd⟩:=hd;refine RFun.mk hrc r λw0 M=>.C (.G 1 r (.H λc w ho hs=>tF (E':=[(5,_),(6,_),(7,_),(12,_),(13,_)]) ho ⟨r,r,r,r,r,tv⟩ hs .z (.E (.F (.I isAgg109 .p1 r (.S CW BL .p2 r (.G 1 r (.S L7 FH .p3 r (.v call349 (AjG R S hd:) r λk hd=>.G 3 r (.al EB r λb7=>?_))))))))));refine .R AR .z r (.G 1 r (.V 61440 1 r (.L 70368744206336 r (.A r hd (λp hd=>?_) λp hd=>?_))))
   . refine .C (.I JY .p5 r (.G 1 r (.S BJ AR .z r (.bd gE underlying314 AvM r (.bs 1 EK FG gE r λb8=>?_)))));have⟨q,hd⟩:=hd;exact .ap (ys:=[({ At:=j,Val:=k.1 }:BM)]) .p7 EK EK AfF r (.box .z (.one r) r) q λc0 c1=>.s1 ZT .p7 r (.H λc w ho hs=>AhK 0 (.inl rfl) rf .p3 (.o [3,3,3,3,0] rfl) ⟨(true,0,(h++([({ At:=j,Val:=k.1 }:BM)]))),_,_,rfl,rfl,hd⟩ hs)
   exact .AC λc w ho hs=>AhK 0 (.inl rfl) rf .p1 (.o [1,1,1,1,1] rfl) ⟨(true,0,h),_,_,rfl,rfl,hd⟩ hs
 intro c2 c3 l' s u;obtain⟨T,c4,c5,rfl,rfl,hd⟩:=u;have⟨x,a,b,d⟩:=s.u4 l a b d;have⟨hz,hd⟩:=hd;refine⟨_,_,r,λhj=>?_,λi hj=>absurd (hz.symm.trans hj) (by simp)⟩;refine .rn 9 r (.mkS 4096 r r (.drop .p1 (.drop .p1 (.drop .p1 (.drop .p3 (.drop .p3 (.drop .p3 (.F (.I JY .p1 r (.D 2 3072 r (.drop .p1 (.y .p1 λc7 y U=>?_))))))))))));have A:=y.u1 x;exact .J (zD .z results318 (.t r (.t r .n)) A ⟨(T.2,0),_,_,r,U,hd⟩)
theorem wR {a0 Q} (D:lTj I gj1 a0) (O:ST a0 Q) :
  B3 prog 319 [.agg (Aq2 a0 gj1)] I (AyF Q):=by
 refine Fun.ee func319 ntmps319 r ?_;refine .F (.bx r λ_=>.al mG r λ_=>?_);refine .ns 6 r (.S isAgg326 sizeOf326 .p1 r (.ca call279 r (ZE D O:) λ_ _ a d=>?_));obtain⟨_,_,_,rfl,b,O⟩:=d;have D:=a.u1 D;refine .ca call276 r (wL b O:) λ_ _ f g=>?_;obtain⟨j,h,rfl,k,O⟩:=g;have⟨i,D,b⟩:=f.u3 a D b;exact .R FH .z r (.L 4 r (.drop .p1 (.J (B5 r (.w L7 FH r .z r .n) i ⟨j,h,r,k,O⟩))))
theorem AgX {a0 a1 Q} (V:RepSl CB I p1 c2 a0.Items) (O:XA a0 a1 Q) :
  B3 prog 326 [.agg #[vi a0.N,.slice p1 a0.Items.length c2],vi a1] I (λ_=>o7_ Q):=by
 refine Fun.ee func326 ntmps326 r ?_;refine .F (.bx r λ_=>?_);refine .G 2 r (.ns 6 r (.S BK AQ .z r (.ca call339 r (OX V O:) λ_ _ a d=>?_)));obtain⟨_,_,_,rfl,b,O⟩:=d;have V:=a.u1 V;refine .R AQ .z r (.ns 6 r (.S BK AQ .z r (.G 1 r (.v call350 (ZG b O:) r λ_ O=>.D 5 196 r (.B (.F (.D 2 131140 r (.A r O (λf O=>?_) λf O=>?_))))))))
 . exact .F (.D 2 48 r (.drop .z (.J (B5 r (.t r (.t r .n)) a ⟨(0,false),r,O⟩))))
 refine .P 68 r (.M 1 r (.I HO .z r (.G 1 r ?_)));have⟨i,j,g,_,_,k,h,O⟩:=b.ix O;exact .U DX DN k i g r (.G 1 r (.x 1 LY h r (.D 2 48 r (.drop .z (.J (B5 r (.t r (.t r .n)) a ⟨(j.Val,true),r,O⟩))))))
theorem yM {a0 a1 a2 a3 a4 a5 Q} (V:RepSl B0 I p1 c2 a0.Draws) (U:iA I gg4 a1) (O:RM a0 a1 a2 a3 a4 a5 Q) :
  B3 prog 327 [.agg (LU a0 p1 c2),.agg (GM a1 gg4),vi a2,vi a3,vi a4,.bool a5] I (λ_ v=>∃ r,v=.tuple #[vi r.1,vi r.2.1,.bool r.2.2]∧Q r):=by
 refine Fun.ee func327 ntmps327 r (.F (.bx r λ_=>.bx r λ_=>.D 3 252 r (.B (.dr nl9 11 (.K 1 r (.X FX 0 r (.K 1 r ?_)))))));have⟨P,e,k,_,_,R,m,O⟩:=U.1.ix O;refine .h r (.U DF XP R P k r .mk) (.h r (.x 0 LY m r .mk) (.K 1 r (.X FX 0 r (.K 1 r ?_))));have⟨S,c,o,_,_,T,p,O⟩:=U.2.1.ix O;refine .h r (.U DF XP T S o r .mk) (.h r (.x 0 LY p r .mk) (.K 1 r (.e2 11 (.D 1 98556 r (.B (.M 1 r (.I fF .p1 r (.L 268534012 r (.E (.F (.D 2 805404924 r (.A r O (λq O=>?_) λq O=>?_))))))))))))
 . refine .M 2 r (.T O [5,31,32] r (λs O=>?_) λs O=>?_)
   . refine .D 3 34359836692 r (.drop .z (.drop .z (.A r O (λu O=>?_) λu O=>?_)))
     . exact .F (.D 5 28672 r (.J (B5 r (.t r (.t r (.t r .n))) rf ⟨(a2,a4,true),r,O⟩)))
     exact .P 98304 r (.F (.D 5 28672 r (.J (B5 r (.t r (.t r (.t r .n))) rf ⟨(e,c,false),r,O⟩))))
   exact .D 3 34359836692 r (.drop .z (.drop .z (.Z r r (.P 98304 r (.F (.D 5 28672 r (.J (B5 r (.t r (.t r (.t r .n))) rf ⟨(e,c,false),r,O⟩))))))))
 refine .B (.jn O [28,16,15,7,6,5,4,3,2] mW r (λj E l g=>j ((38,.bool g) :: E) l) (λ_ O=>?_) ?_)
 . refine .F (.D 2 275146440956 r (.A r O (λw O=>?_) λw O=>?_))
   . exact .AC (je (a0.Kind==2) O rf mW r)
   exact .C (.G 2 r (.H (je (a0.Kind==3) O rf mW r)))
 refine λg O=>jq r λ_ d=>?_;have⟨V,U⟩:=d.u2 V U;refine .A r O (λx O=>?_) λx O=>?_
 . refine .M 2 r (.T O [5,41,42] r (λy O=>?_) λy O=>?_)
   . refine .D 4 70368744275984 r (.drop .z (.drop .z (.A r O (λA O=>?_) λA O=>?_)))
     . exact .F (.D 5 28672 r (.J (B5 r (.t r (.t r (.t r .n))) d ⟨(a4,c,true),r,O⟩)))
     exact .P 98304 r (.F (.D 5 28672 r (.J (B5 r (.t r (.t r (.t r .n))) d ⟨(e,c,false),r,O⟩))))
   exact .D 4 70368744275984 r (.drop .z (.drop .z (.Z r r (.P 98304 r (.F (.D 5 28672 r (.J (B5 r (.t r (.t r (.t r .n))) d ⟨(e,c,false),r,O⟩))))))))
 refine .F (.D 2 562950221955324 r (.A r O (λB O=>?_) λB O=>?_))
 . exact .F (.D 7 28672 r (.drop .z (.drop .z (.J (B5 r (.t r (.t r (.t r .n))) d ⟨(a4,c,a4 != 0),r,O⟩)))))
 refine .F (.D 2 36028797019062524 r (.A r O (λC O=>?_) λC O=>?_))
 . refine .E (.F (.D 3 144115188075954428 r (.A r O (λD O=>?_) λD O=>?_)))
   . exact .P 98304 r (.drop .z (.drop .z (.F (.D 5 28672 r (.J (B5 r (.t r (.t r (.t r .n))) d ⟨(e,c,false),r,O⟩))))))
   refine .B (.jn O [16,15,7,6,5,4,3,2] I5 r (λj E l i=>j ((60,.bool i) :: E) l) (λ_ O=>?_) ?_)
   . refine .C (.G 4 r (.T O [63,64] r (λF O=>?_) λF O=>?_))
     . exact .G 3 r (.H (je a5 O rf I5 r))
     exact .G 3 r (.H (je false O rf I5 r))
   refine λi O=>jq r λa7 G=>?_;have⟨f,V,U⟩:=G.u3 d V U;refine .A r O (λH O=>?_) λH O=>?_
   . exact .F (.D 4 28672 r (.drop .z (.drop .z (.J (B5 r (.t r (.t r (.t r .n))) f ⟨(2,c,false),r,O⟩)))))
   refine .B (.dr [0,1,2,3,4,5,6,7,8,9,11,12,13,14,10,15,16,17,18,19] 20 (.K 4 r ?_));refine D5 O (λb O=>?_) λb O=>?_
   . refine .h r (.N r r b (.AD r r r .mk)) (.h r (.N r r b (.not r r r .mk)) (.h r (.N r r b (.AD r r r .mk)) ?_));refine D5 O (λa O=>?_) λa O=>?_
     . refine .gn r a (.gn r a (.gn r a (.gn r a (.gn r a (.gn r a (.gn r a (.gn r a (.gn r a (.gn r a ?_)))))))));refine .h r (.N r r b (.pickT r a r r r .mk)) (.h r (.pickT r b r r r .mk) (.K 1 r (.e2 20 (.L 295147905179352924160 r (.drop .z (.drop .z (.Q r r (.F (.D 4 28672 r ?_)))))))));exact .J (B5 r (.t r (.t r (.t r .n))) f ⟨(1,c,true),r,O⟩)
     refine .h r (.N r r a (.AD r r r .mk)) (.h r (.N r r a (.S QB QA .z r .mk)) (.h r (.N r r a (.AD r r r .mk)) (.h r (.N r r a (.fo fD 0 r D3 .mk)) (.h r (.N r r a (.I AM .p1 r .mk)) (.h r (.N r r a (.AD r r r .mk)) (.h r (.N r r a (.add r r r r .mk)) (.Y r ?_)))))));refine .N r r a (.AE call352 r (rD (I:=a7) O:) r r λ_ K=>?_);obtain⟨_,rfl,O⟩:=K;refine .q 2 r (.W r (.N r r a (.add r r r r .mk)) (.W r (.N r r a (.AD r r r .mk)) (.W r (.N r r a (.I AM .p1 r .mk)) (.W r (.N r r a (.fo fD 0 r D3 .mk)) (.W r (.N r r a (.S QB QA .z r .mk)) (.W r (.N r r a (.AD r r r .mk)) tv)))))) (.Y r ?_);refine .N r r a (.AE call351 r (gO V O:) r r λ_ N=>?_);obtain⟨_,rfl,O⟩:=N;refine .q 2 r (.W r (.N r r a (.AD r r r .mk)) tv) (.h r (.N r r a (.gt r r r r .mk)) (.h r (.N r r b (.pickF r a r r r .mk)) (.h r (.pickT r b r r r .mk) (.K 1 r (.e2 20 (.L 295147905179352924160 r (.drop .z (.drop .z (.A r O (λa6 O=>?_) λa6 O=>?_)))))))))
     . exact .F (.D 4 28672 r (.J (B5 r (.t r (.t r (.t r .n))) f ⟨(1,c,true),r,O⟩)))
     exact .P 98304 r (.F (.D 5 28672 r (.J (B5 r (.t r (.t r (.t r .n))) f ⟨(e,c,false),r,O⟩))))
   refine .gn r b (.gn r b (.gn r b (.K 10 r (.gn r b (.h r (.pickF r b r r r .mk) (.K 1 r (.e2 20 (.L 295147905179352924160 r (.drop .z ?_)))))))));exact .drop .z (.Z r r (.P 98304 r (.F (.D 5 28672 r (.J (B5 r (.t r (.t r (.t r .n))) f ⟨(e,c,false),r,O⟩))))))
 exact .P 98304 r (.drop .z (.drop .z (.F (.D 5 28672 r (.J (B5 r (.t r (.t r (.t r .n))) d ⟨(e,c,false),r,O⟩))))))
theorem jP {o0 o1 a0 Q} (h:RepSl B0 I p4 c5 o0.Draws) (d:PS o0 o1 a0 Q) :
  Fun prog 188 #[vi a0,vp b3,vp b7] I [pc b3 (LU o0 p4 c5) 56,pc b7 #[vi o1] 3] (λ_ v l=>∃ r,v=.tuple #[vi r.1,vi r.2.1,.bool r.2.2]∧l=[pc b3 (LU o0 p4 c5) 56,pc b7 #[vi o1] 3]∧Q r):=by
 exact Fun.ee func188 ntmps188 r (.M 3 r (.ns 7 r (.S QB QA .z r (.I AM .p1 r (.G 2 r (.v call189 (AdL h d:) r λb d=>.G 5 r (.V 390 5 r (.L 118 r (.J (DZ r (.t r (.t r (.t r .n))) rf (.o I5 r) ⟨(b.1,(-1),b.2),r,r,d⟩))))))))))
theorem jQ {o0 o1 a0 a1 Q} (O:RepSl B0 I p4 c5 o0.Draws) (R9:iA I gg8 a0) (J:PT o0 o1 a0 a1 Q) :
  Fun prog 187 #[.agg (GM a0 gg8),vi a1,.func (.func 188) #[] #[vp b3,vp b7]] I [pc b3 (LU o0 p4 c5) 56,pc b7 #[vi o1] 3] (fun W v l=>∃ r Z,v=.agg (GM r Z)∧iA W Z r∧l=[pc b3 (LU o0 p4 c5) 56,pc b7 #[vi o1] 3]∧Q r):=by
 refine Fun.ee func187 ntmps187 r (.F (.bx r fun _=>.al NK r fun _=>.V 78 1 r (.I AM .p1 r (.G 1 r (.I AM .p1 r (.bd NK fD mD r (.al NK r fun a5=>?_)))))))
 refine .R DJ .z r (.L 198 r (.drop .p2 (.F (.D 1 454 r (.B (.F (.D 2 786886 r (.E (.own0 B0 2 (.own0 B0 2 (.own0 B0 3 (.lx J [18,7,6,2,1] [5,5,4] r (fun j E l (e,f,h,g)=>fun c w=>∃ m p q s t u,j ⟨52,[],none⟩ (fun W=>True) ((8,.slice t h.length u) :: (19,vi g) :: E) (pc a5 #[vi a0.Low,vi a0.High,.slice m e.length p,.slice q f.length s,.slice none 0 0] 63 :: OwnSl B0 2 m p e :: OwnSl B0 2 q s f :: OwnSl B0 3 t u h :: l) c w) (fun c w U V=>⟨_,_,_,_,_,_,jf rf tv [3,2,1,0,1,1,0] r U V⟩) ?_))))))))))))
 rintro ⟨e,f,h,g⟩ _ J c w ⟨m,p,q,s,t,u,_,k,_,b1,c0⟩
 have O:=k.u1 O
 refine Cod.at b1 c0 (.F (.D 1 1835462 r (.B (.A r J (fun D J=>?_) fun D J=>?_))))
 · refine .P 786886 r (.B (.E (.M 2 r (.V 787398 2 r ?_))))
   refine .cS (.c call188 r r) (.o [4,4] r) r (jP (b3:=b3) (b7:=b7) O J:) fun _ _ _ G H=>?_
   obtain ⟨d,rfl,rfl,J⟩:=H
   obtain ⟨C,O⟩:=G.u2 k O
   refine .rn 7 r (.D 7 794566 r (.B (.dr [0,1,2,5,6,7,8,3,4,10,999,9,11] 12 (.K 1 r (.X FX 2 r (.K 2 r (.X FX 2 r (.K 1 r (.a (fun b=>.slice (some ⟨b,0,none⟩) 1 1) (fun b=>pc b #[vi d.2.1] 2) r r r r (fun _ _ hL _=>.bs 1 DF XP zv2 r fun b=>.mk (val:=fun b=>.slice (some ⟨b,0,none⟩) 1 1) (atom:=fun b=>pc b #[vi d.2.1] 2) hL b) (.Y r (.bs 1 DF XP zv2 r fun _=>?_)))))))))))
   refine .q 8 r (.j 1 r r (.W r (.I FX .p3 r .mk) (.j 1 r r (.W r (.I FX .p3 r .mk) (.j 1 r r tv))))) (.Y r ?_)
   obtain ⟨a4,J⟩:=J
   refine .ap (ys:=[d.1]) .p4 DF DF IN2 r (.box .z (.one r) r) a4 fun _ _=>.q 8 r (.j 1 r r (.W r (.I FX .p4 r .mk) (.j 1 r r tv))) (.K 1 r (.b r fun _=>DrawD.nop (.Y r ?_)))
   obtain ⟨K,J⟩:=J
   refine .ap (ys:=[d.2.1]) .p5 DF DF IN2 r (.box .p8 (.one r) r) K fun _ _=>.q 9 r (.j 1 r r tv) (.Y r (.s1 sizeOf27 .p5 r (.P 9 r r r tv (.e2 12 (.G 1 r (.s1 sizeOf27 .p5 r (.L 791494 r (.drop .p2 (.drop .p7 (.F (.D 1 2199024042950 r ?_)))))))))))
   refine .A r J (fun N J=>?_) fun N J=>?_
   · refine .C (.G 2 r (.bs 1 BE D3 jX r fun _=>?_))
     obtain ⟨a6,J⟩:=J
     exact .ap (ys:=[g]) .p6 BE BE IN3 r (.box .z (.one r) r) a6 fun _ _=>.D 1 786886 r (.drop .p1 (.C (.G 2 r (.H fun c w U V=>⟨_,J,_,_,_,_,_,_,jf C tv [5,2,1,0,0,0,0] r U V⟩))))
   exact .P 786886 r (.C (.G 2 r (.H fun c w U V=>⟨_,J,_,_,_,_,_,_,jf C tv [4,1,0,2,0,0,0] r U V⟩)))
 refine .en 454 r (.M 2 r (.y .p3 fun _ P x=>?_))
 obtain ⟨R,O⟩:=P.u2 k O
 refine .ca call27 r (MY x J:) fun _ _ T a7=>?_
 obtain ⟨a2,_,_,rfl,i,J⟩:=a7
 obtain ⟨a8,O,x⟩:=T.u3 R O x
 refine .G 1 r (.s1 sizeOf40 .z r (.ns 196 r (.S JP DJ .z r (.R DJ .p5 r (.L 68 r (.drop .z (.y .p1 fun _ a9 y=>?_)))))))
 obtain ⟨X,O,i⟩:=a9.u3 a8 O i
 refine .y .z fun _ Y a3=>?_
 obtain ⟨b0,O,i,y⟩:=Y.u4 X O i y
 exact .J (DZ r (.w JP DJ r .p2 r .n) b0 (.o I5 r) ⟨({ a0 with A:=e,B:=f,On:=a2 }:State),((_,_),(_,_),(_,_)),r,⟨a3,y,i⟩,r,J⟩)
theorem AdM {a0 a1 a2 Q} (U:RepSl B0 I p1 c2 a0.Draws) (h:YM a0 a1 a2 Q) :
  B3 prog 143 [.agg (LU a0 p1 c2),vi a1,vi a2] I (λV v=>∃ r gg4,v=.agg (GM r gg4)∧iA V gg4 r∧Q r):=by
 refine Fun.ee func143 ntmps143 r (.F (.bx r λk=>.box1 r r r r λl=>.al NK r λ_=>.L 92 r (.B (.F (.S QB QA .p2 r (.v call164 (ZA U h:) r λ_ h=>.G 2 r (.T h [10,11] r (λc h=>?_) λc h=>?_)))))))
 . exact .D 14 33554524 r (.Q r r (.F (.bd NK fD mD r (.R DJ .z r (.L 64 r (.drop .p1 (.drop .p1 (.J (B5 r (.w JP DJ r .z r .n) rf ⟨FY,((_,_),(_,_),(_,_)),r,⟨(.nil _ _ _),(.nil _ _ _),(.nil _ _ _)⟩,h⟩)))))))))
 refine .O r (.I AM .p1 r (.G 3 r (.T h [13,14,15] r (λd h=>?_) λd h=>?_)))
 . exact .D 10 33554524 r (.Q r r (.F (.bd NK fD mD r (.R DJ .z r (.L 64 r (.drop .p1 (.drop .p1 (.J (B5 r (.w JP DJ r .z r .n) rf ⟨FY,((_,_),(_,_),(_,_)),r,⟨(.nil _ _ _),(.nil _ _ _),(.nil _ _ _)⟩,h⟩)))))))))
 refine .G 1 r (.O r (.I AM .p1 r (.G 3 r (.T h [18,19,20] r (λe h=>?_) λe h=>?_))))
 . exact .D 5 33554524 r (.Q r r (.F (.bd NK fD mD r (.R DJ .z r (.L 64 r (.drop .p1 (.drop .p1 (.J (B5 r (.w JP DJ r .z r .n) rf ⟨FY,((_,_),(_,_),(_,_)),r,⟨(.nil _ _ _),(.nil _ _ _),(.nil _ _ _)⟩,h⟩)))))))))
 refine .G 2 r (.O r (.I AM .p2 r (.D 2 33554524 r (.A r h (λg h=>?_) λg h=>?_))))
 . exact .F (.bd NK fD mD r (.R DJ .z r (.L 64 r (.drop .p1 (.drop .p1 (.J (B5 r (.w JP DJ r .z r .n) rf ⟨FY,((_,_),(_,_),(_,_)),r,⟨(.nil _ _ _),(.nil _ _ _),(.nil _ _ _)⟩,h⟩)))))))
 refine .P 92 r (.F (.I AM .p1 r (.G 1 r (.bd NK fD mD r (.al NK r λ_=>.R DJ .z r (.ns 220 r (.S JP DJ .z r (.G 1 r (.I AM .p2 r (.G 1 r (.mkFn r r r r ?_)))))))))));refine .cS (.f call187 r) (.o [3,2] r) r (jQ (I:=I) (a0:=({ Low:=a1,High:=a2,A:=([]:List Int),B:=([]:List Int),On:=([]:List Int) }:State)) (gg8:=((_,_),(_,_),(_,_))) (b3:=k) (p4:=p1) (c5:=c2) (b7:=l) U ⟨(.nil _ none 0),(.nil _ none 0),(.nil _ none 0)⟩ h:) λ_ _ _ a i=>?_;obtain⟨m,j,rfl,p,rfl,h⟩:=i;have U:=a.u1 U;exact .rn 4 r (.R DJ .p3 r (.L 64 r (.drop .z (.drop .z (.drop .z (.J (B5 r (.w JP DJ r .z r .n) a ⟨m,j,r,p,h⟩)))))))
theorem nH {o0 o1 o2 o3 a0 Q} (d:MH o0 o1 o2 o3 a0 Q) :
  Fun prog 273 #[vi a0,vp b5,vp b6,vp b7,vp b8] I [pc b5 #[vi o0] 3,pc b6 #[vi o1] 3,pc b7 #[vi o2] 3,pc b8 #[vi o3] 3] (λ_ v l=>∃ r,v=vi r∧l=[pc b5 #[vi o0] 3,pc b6 #[vi o1] 3,pc b7 #[vi o2] 3,pc b8 #[vi o3] 3]∧Q r):=by
 refine Fun.ee func273 ntmps273 r (.F (.D 1 31 r (.B (.dr [0,1,2,4,5,6,9,3,7,8,999] 10 (.X AM 0 r (.X AM 1 r (.K 1 r (.X AM 0 r (.X AM 2 r (.X AM 3 r (.aP fG r (.Y r (.v call183 (IK (I:=I) d:) r λ_ d=>?_)))))))))))));refine .q 4 r (.W r (.I AM .p3 r .mk) (.W r (.I AM .p2 r .mk) (.W r (.I AM .z r .mk) tv))) (.Y r (.v call183 (IK (I:=I) d:) r λ_ d=>.q 4 r tv (.Y r (.v call274 (cU (I:=I) d:) r λc d=>.q 4 r tv (.b r λ_=>DrawD.nop ?_)))));exact .e2 10 (.R fE .p4 r (.ns 158 r (.AB (i:=1) UA D3 r r (by decide) (o:=1) r r r (.I AM .p4 r (.AB (i:=0) UA D3 r r (by decide) (o:=0) r r r (.I AM .p4 r (.D 2 94 r (.drop .p4 (.q1 results273 rf W0 r ⟨(A5 (c.2 - c.1)),r,r,d⟩)))))))))
theorem nI {o0 o1 o2 o3 a0 a1 Q} (O:RepSl fA I p9 c10 a0) (J:S3 o0 o1 o2 o3 a0 a1 Q) :
  Fun prog 272 #[.slice p9 a0.length c10,vi a1,.func (.func 273) #[] #[vp b5,vp b6,vp b7,vp b8]] I [pc b5 #[vi o0] 3,pc b6 #[vi o1] 3,pc b7 #[vi o2] 3,pc b8 #[vi o3] 3] (λI_ v l=>∃ r Z V,v=.tuple #[.agg #[vi r.1.N,.slice Z r.1.Items.length V],vi r.2]∧RepSl CB I_ Z V r.1.Items∧l=[pc b5 #[vi o0] 3,pc b6 #[vi o1] 3,pc b7 #[vi o2] 3,pc b8 #[vi o3] 3]∧Q r):=by
 refine Fun.ee func272 ntmps272 r (.F (.al CC r λ_=>.D 1 71 r (.B (.M 1 r (.ln qU r (.D 2 8261 r (.A r J (λD J=>?_) λD J=>?_)))))))
 . exact .F (.bd CC F4 GQ r (.R AQ .z r (.D 1 196 r (.J (DZ r (.w BK AQ r .z r (.t r .n)) rf (.o [1,1,1,1] r) ⟨(CJ,4),_,_,r,(.nil _ none 0),r,J⟩)))))
 refine .P 69 r (.B (.M 1 r (.ln qU r (.D 1 229445 r (.E (.lp J [16,15,6,2,0] [1,1,1,1,0] r (λj E l d=>j ((17,vi d) :: E) l) (ji rf [1,1,1,1,0] r) ?_))))));refine λd _ J=>jq r λF b=>?_;have O:=b.u1 O;refine .F (.D 1 491589 r (.B (.A r J (λk J=>?_) λk J=>?_)))
 . refine .P 229445 r (.B (.E (.M 1 r ?_)));have⟨G,_,f,J⟩:=J;obtain⟨_,_,_,H,m,_,_,rfl,e⟩:=O.2 _ _ f;refine .U qU AQ H G f r (.ldW BK AQ m r r r r (.al CC r λ_=>.G 1 r (.R AQ .z r (.L 230213 r (.B (.dr nl9 11 (.h r (.S BK AQ .z r .mk) (.Y r (.v call270 (FQ e J:) r λ_ J=>.q 6 r tv (.K 2 r ?_))))))))));refine D5 J (λa J=>?_) λa J=>?_
   . refine .gn r a (.gn r a (.gn r a (.gn r a (.gn r a (.gn r a (.h r (.pickT r a r r r .mk) (.e2 11 (.L 4295196741 r (.drop .z ?_)))))))));exact .Q r r (.F (.bd CC F4 GQ r (.R AQ .p4 r (.D 1 196 r (.J (DZ r (.w BK AQ r .p4 r (.t r .n)) b (.o W0 r) ⟨(CJ,4),_,_,r,(.nil _ none 0),r,J⟩))))))
   refine .h r (.N r r a (.fo F4 0 r D3 .mk)) (.h r (.N r r a (.I AM .z r .mk)) (.h r (.N r r a (.AD r r r .mk)) (.h r (.N r r a (.AD r r r .mk)) (.Y r ?_))));refine .N r r a (.cS (.c call273 r r) (.o [1,1,1,1] r) r (nH (I:=F) (b5:=b5) (b6:=b6) (b7:=b7) (b8:=b8) J:) λ_ _ _ s u=>?_);obtain⟨_,rfl,rfl,J⟩:=u;have⟨g,O,e⟩:=s.u3 b O e;refine .rx 6 r (.q 6 r (.W r (.N r r a (.I AM .p4 r .mk)) (.W r (.N r r a (.fo F4 0 r D3 .mk)) tv)) (.h r (.N r r a (.ne r r r r .mk)) (.h r (.pickF r a r r r .mk) (.e2 11 (.L 4295196741 r (.drop .p4 (.A r J (λx J=>?_) λx J=>?_)))))))
   . exact .F (.bd CC F4 GQ r (.R AQ .p4 r (.D 1 196 r (.J (DZ r (.w BK AQ r .p4 r (.t r .n)) g (.o W0 r) ⟨(CJ,4),_,_,r,(.nil _ none 0),r,J⟩)))))
   exact .P 229445 r (.C (.G 2 r (.H (je (A5 (d+1)) J g nl8 r))))
 refine .en 69 r (.M 1 r ?_);refine .ca call312 r (AdA O J:) λ_ _ A B=>?_;obtain⟨i,_,_,rfl,a2,J⟩:=B;have⟨C,O⟩:=A.u2 b O;exact .G 2 r (.R AQ .p4 r (.D 1 196 r (.J (DZ r (.w BK AQ r .p4 r (.t r .n)) C (.o W0 r) ⟨(i.1,i.2),_,_,r,a2,r,J⟩))))
theorem AgY {a0 a1 a2 a3 a4 Q} (V:RepSl fA I p1 c2 a4) (U:eD a0 a1 a2 a3 a4 Q) :
  B3 prog 242 [vi a0,vi a1,vi a2,vi a3,.slice p1 a4.length c2] I (AwH Q):=by
 refine Fun.ee func242 ntmps242 r (.F (.box1 r r r r λk=>.box1 r r r r λl=>.box1 r r r r λm=>.box1 r r r r λp=>.al CC r λ_=>.D 1 1520 r (.B (.F (.I AM .p4 r (.v call271 (cP (I:=I) U:) r λ_ U=>.G 2 r (.T U [14,15] r (λd U=>?_) λd U=>?_)))))))
 . exact .D 6 2098672 r (.Q r r (.F (.bd CC F4 GQ r (.R AQ .z r (.D 1 3072 r (.drop .p1 (.drop .p1 (.drop .p1 (.drop .p1 (.J (B5 r (.w BK AQ r .z r (.t r .n)) rf ⟨(CJ,3),_,_,r,(.nil _ _ _),U⟩)))))))))))
 refine .O r (.I AM .p3 r (.O r (.I AM .p2 r (.O r (.I AM .p1 r ?_)))));refine .O r (.AE call181 r (ZB (I:=I) U:) r r λ_ g=>?_);obtain⟨_,rfl,U⟩:=g;refine .D 2 2098672 r (.A r U (λh U=>?_) λh U=>?_)
 . exact .F (.bd CC F4 GQ r (.R AQ .z r (.D 1 3072 r (.drop .p1 (.drop .p1 (.drop .p1 (.drop .p1 (.J (B5 r (.w BK AQ r .z r (.t r .n)) rf ⟨(CJ,3),_,_,r,(.nil _ _ _),U⟩)))))))))
 refine .P 1520 r (.M 1 r (.I AM .p3 r (.mkFn r r r r ?_)));refine .cS (.f call272 r) (.o [4,3,2,1] r) r (nI (b5:=k) (b6:=l) (b7:=m) (b8:=p) V U:) λ_ _ _ a j=>?_;obtain⟨b,_,_,rfl,q,rfl,U⟩:=j;have V:=a.u1 V;exact .rn 5 r (.G 2 r (.R AQ .p4 r (.D 1 3072 r (.drop .z (.drop .z (.drop .z (.drop .z (.J (B5 r (.w BK AQ r .z r (.t r .n)) a ⟨(b.1,b.2),_,_,r,q,U⟩)))))))))
theorem ZH {a0 Q} (d:lTk I gk1 a0) (O:KV a0 Q) :
  Fun prog 282 #[.agg (YP a0 gk1)] I [] (λU v l=>∃ r p3 c4,v=.tuple #[.slice p3 r.1.length c4,vi r.2]∧RepSl ET U p3 c4 r.1∧l=[]∧Q r):=by
 refine Fun.ee func282 ntmps282 r (.F (.bx r λ_=>?_));refine .D 2 2 r (.B (.dr [0,1,2,3,4,5,7,8,9,10,6,11,12,13] 14 (.K 1 r (.X isAgg109 0 r (.K 1 r (.h r (.AA CW BL r .z (.o 5 r) r r r .mk) (.K 1 r (.h r (.AA isAgg326 sizeOf326 r .z (.o 6 r) r r r .mk) (.K 1 r ?_)))))))));refine .X P1 0 r (.K 1 r (.X ia4 0 r (.Y r ?_)));refine .ca call319 r (wR d.2.2.1 O:) λ_ _ b e=>?_;obtain⟨_,_,rfl,a,O⟩:=e;have d:=b.u1 d;refine .q 1 r (.W r (.I ia4 .z r .mk) (.j 1 r r (.W r (.I P1 .z r .mk) (.j 1 r r (.W r (.AA CW BL r .z (.o 5 r) r r r .mk) (.j 1 r r (.W r (.I isAgg109 .z r .mk) (.j 1 r r tv)))))))) (.Y r ?_);refine .ca call318 r (AgW d.1 a d.2.2.2 O:) λ_ _ g i=>?_;obtain⟨c,_,_,rfl,k,O⟩:=i;have⟨j,d,a⟩:=g.u3 b d a;exact .q 1 r tv (.K 2 r (.e2 14 (.D 2 12 r (.drop .z (.J (DZ r (.t r (.t r .n)) j .n ⟨(c.1,c.2),_,_,r,k,r,O⟩))))))
theorem ZI {a0 Q} (d:lTk I gk1 a0) (O:KW a0 Q) :
  Fun prog 281 #[.agg (YP a0 gk1)] I [] (λU v l=>∃ r p3 c4,v=.tuple #[.slice p3 r.1.length c4,vi r.2]∧RepSl ET U p3 c4 r.1∧l=[]∧Q r):=by
 refine Fun.ee func281 ntmps281 r (.F (.bx r λ_=>?_));refine .D 2 2 r (.B (.dr [0,1,2,3,4,5,7,8,9,10,6,11,12,13] 14 (.K 1 r (.X isAgg109 0 r (.K 1 r (.h r (.AA H9 EG r .z (.o 6 r) r r r .mk) (.K 1 r (.h r (.AA isAgg326 sizeOf326 r .z (.o 6 r) r r r .mk) (.K 1 r ?_)))))))));refine .X P1 0 r (.K 1 r (.X ia4 0 r (.Y r ?_)));refine .ca call279 r (ZE d.2.2.1 O:) λ_ _ b e=>?_;obtain⟨_,_,_,rfl,a,O⟩:=e;have d:=b.u1 d;refine .q 1 r (.W r (.I ia4 .z r .mk) (.j 1 r r (.W r (.I P1 .z r .mk) (.j 1 r r (.W r (.AA H9 EG r .z (.o 6 r) r r r .mk) (.j 1 r r (.W r (.I isAgg109 .z r .mk) (.j 1 r r tv)))))))) (.Y r ?_);refine .ca call317 r (AgU d.2.1 a d.2.2.2 O:) λ_ _ g i=>?_;obtain⟨c,_,_,rfl,k,O⟩:=i;have⟨j,d,a⟩:=g.u3 b d a;exact .q 1 r tv (.K 2 r (.e2 14 (.D 2 12 r (.drop .z (.J (DZ r (.t r (.t r .n)) j .n ⟨(c.1,c.2),_,_,r,k,r,O⟩))))))
theorem yN {a0 Q} (U:lTk I gk1 a0) (O:VM a0 Q) :
  B3 prog 246 [.agg (YP a0 gk1)] I (λV v=>∃ r p3 c4,v=.tuple #[.slice p3 r.1.length c4,vi r.2.1,vi r.2.2]∧RepSl ET V p3 c4 r.1∧Q r):=by
 refine Fun.ee func246 ntmps246 r (.F (.bx r λ_=>?_));refine .D 3 2 r (.B (.dr [0,1,2,3,4,5,8,9,6,7,10,11] 12 (.K 1 r (.X isAgg222 0 r (.K 1 r (.h r (.AA H9 EG r .z (.o 6 r) r r r .mk) (.K 1 r (.h r (.AA isAgg326 sizeOf326 r .z (.o 6 r) r r r .mk) (.K 1 r ?_)))))))));refine .h r (.AA CW BL r .z (.o 5 r) r r r .mk) (.Y r ?_);refine .ca call279 r (ZE U.2.2.1 O:) λ_ D a k=>?_;obtain⟨_,_,_,rfl,E,O⟩:=k;have U:=a.u1 U;refine .q 1 r (.W r (.AA CW BL r .z (.o 5 r) r r r .mk) (.j 1 r r (.W r (.AA H9 EG r .z (.o 6 r) r r r .mk) (.j 1 r r (.W r (.I isAgg222 .z r .mk) (.j 1 r r tv)))))) (.Y r (.v call278 (AgI U.2.1 E O:) r λ_ O=>?_));refine .q 1 r (.W r (.AA CW BL r .z (.o 5 r) r r r .mk) (.j 1 r r (.W r (.I isAgg222 .z r .mk) (.j 1 r r tv)))) (.Y r (.v call280 (AgJ U.1 O:) r λ_ O=>.q 1 r (.W r (.I isAgg222 .z r .mk) (.j 1 r r tv)) (.Y r (.v call277 (jI (I:=D) O:) r λi O=>?_))));refine .q 1 r tv (.e2 12 (.G 1 r (.ns 34 r (.S isAgg329 sizeOf329 .z r (.mkFn r r r r (.D 1 98 r (.B (.F (.D 2 16777314 r (.A r O (λq O=>?_) λq O=>?_))))))))))
 . refine .C (.S isAgg329 sizeOf329 .z r (.mkFn r r r r (.D 1 96 r (.drop .z (.M 1 r ?_)))));refine .cS (.c call282 r r) .n r (ZH U O:) λ_ _ _ u w=>?_;obtain⟨d,_,_,rfl,F,rfl,O⟩:=w;have⟨e,U⟩:=u.u2 a U;refine .rn 0 r (.D 5 416 r (.B (.F (.D 2 8589935008 r (.A r O (λx O=>?_) λx O=>?_)))))
   . exact .F (.D 4 28 r (.J (B5 r (.t r (.t r (.t r .n))) e ⟨(([]:List BM),0,d.2),_,_,r,(.nil _ _ _),O⟩)))
   exact .P 416 r (.F (.D 6 28 r (.J (B5 r (.t r (.t r (.t r .n))) e ⟨(d.1,i,d.2),_,_,r,F,O⟩))))
 refine .P 96 r (.drop .z (.M 1 r ?_));refine .cS (.c call281 r r) .n r (ZI U O:) λ_ _ _ A B=>?_;obtain⟨f,_,_,rfl,C,rfl,O⟩:=B;have⟨b,U⟩:=A.u2 a U;refine .rn 0 r (.D 5 416 r (.B (.F (.D 2 8589935008 r (.A r O (λg O=>?_) λg O=>?_)))))
 . exact .F (.D 4 28 r (.J (B5 r (.t r (.t r (.t r .n))) b ⟨(([]:List BM),0,f.2),_,_,r,(.nil _ _ _),O⟩)))
 exact .P 416 r (.F (.D 6 28 r (.J (B5 r (.t r (.t r (.t r .n))) b ⟨(f.1,i,f.2),_,_,r,C,O⟩))))
theorem fN {o0 o1 o2 o3 a0 Q} (h:RepSl CB I p6 c7 o0.Items) (O:RepSl B0 I p10 c11 o1.Draws) (U:iA I gg14 o2) (d:O6 o0 o1 o2 o3 a0 Q) :
  Fun prog 325 #[vi a0,vp b5,vp b9,vp b13,vp b16] I [pc b5 #[vi o0.N,.slice p6 o0.Items.length c7] 235,pc b9 (LU o1 p10 c11) 56,pc b13 (GM o2 gg14) 63,pc b16 #[vi o3] 3] (λ_ v l=>∃ r,v=.tuple #[vi r.1,vi r.2.1,.bool r.2.2]∧l=[pc b5 #[vi o0.N,.slice p6 o0.Items.length c7] 235,pc b9 (LU o1 p10 c11) 56,pc b13 (GM o2 gg14) 63,pc b16 #[vi o3] 3]∧Q r):=by
 refine Fun.ee func325 ntmps325 r (.M 3 r (.ns 31 r (.S BK AQ .z r (.G 1 r (.v call326 (AgX h d:) r λ_ d=>.G 5 r (.ns 1567 r (.S QB QA .p1 r (.S JP DJ .p2 r (.I AM .p3 r (.G 3 r (.v call327 (yM O U d:) r λa d=>?_)))))))))));exact .D 6 478 r (.J (DZ r (.t r (.t r (.t r .n))) rf (.o W0 r) ⟨(a.1,a.2.1,a.2.2),r,r,d⟩))
theorem jR {o0 o1 o2 o3 a0 a1 Q} (J:RepSl CB I p6 c7 o0.Items) (O:RepSl B0 I p10 c11 o1.Draws) (U:iA I gg14 o2) (d2:iA I gg17 a0) (D:LK o0 o1 o2 o3 a0 a1 Q) :
  Fun prog 187 #[.agg (GM a0 gg17),vi a1,.func (.func 325) #[] #[vp b5,vp b9,vp b13,vp b16]] I [pc b5 #[vi o0.N,.slice p6 o0.Items.length c7] 235,pc b9 (LU o1 p10 c11) 56,pc b13 (GM o2 gg14) 63,pc b16 #[vi o3] 3] (fun Z v l=>∃ r a5,v=.agg (GM r a5)∧iA Z a5 r∧l=[pc b5 #[vi o0.N,.slice p6 o0.Items.length c7] 235,pc b9 (LU o1 p10 c11) 56,pc b13 (GM o2 gg14) 63,pc b16 #[vi o3] 3]∧Q r):=by
 refine Fun.ee func187 ntmps187 r (.F (.bx r fun _=>.al NK r fun _=>.V 78 1 r (.I AM .p1 r (.G 1 r (.I AM .p1 r (.bd NK fD mD r (.al NK r fun a6=>?_)))))))
 refine .R DJ .z r (.L 198 r (.drop .p2 (.F (.D 1 454 r (.B (.F (.D 2 786886 r (.E (.own0 B0 2 (.own0 B0 2 (.own0 B0 3 (.lx D [18,7,6,2,1] [5,5,5,5,4] r (fun j E l (e,f,h,g)=>fun c w=>∃ m p q s t u,j ⟨52,[],none⟩ (fun Z=>True) ((8,.slice t h.length u) :: (19,vi g) :: E) (pc a6 #[vi a0.Low,vi a0.High,.slice m e.length p,.slice q f.length s,.slice none 0 0] 63 :: OwnSl B0 2 m p e :: OwnSl B0 2 q s f :: OwnSl B0 3 t u h :: l) c w) (fun c w V W=>⟨_,_,_,_,_,_,jf rf tv [3,2,1,0,1,1,1,1,0] r V W⟩) ?_))))))))))))
 rintro ⟨e,f,h,g⟩ _ D c w ⟨m,p,q,s,t,u,_,k,_,d0,d1⟩
 obtain ⟨J,O,U⟩:=k.u3 J O U
 refine Cod.at d0 d1 (.F (.D 1 1835462 r (.B (.A r D (fun a7 D=>?_) fun a7 D=>?_))))
 · refine .P 786886 r (.B (.E (.M 2 r (.V 787398 2 r ?_))))
   refine .cS (.c call325 r r) (.o [4,4,4,4] r) r (fN (b5:=b5) (b9:=b9) (b13:=b13) (b16:=b16) J O U D:) fun _ _ _ G H=>?_
   obtain ⟨d,rfl,rfl,D⟩:=H
   obtain ⟨C,J,O,U⟩:=G.u4 k J O U
   refine .rn 9 r (.D 7 794566 r (.B (.dr [0,1,2,5,6,7,8,3,4,10,999,9,11] 12 (.K 1 r (.X FX 4 r (.K 2 r (.X FX 4 r (.K 1 r (.a (fun b=>.slice (some ⟨b,0,none⟩) 1 1) (fun b=>pc b #[vi d.2.1] 2) r r r r (fun _ _ hL _=>.bs 1 DF XP zv2 r fun b=>.mk (val:=fun b=>.slice (some ⟨b,0,none⟩) 1 1) (atom:=fun b=>pc b #[vi d.2.1] 2) hL b) (.Y r (.bs 1 DF XP zv2 r fun _=>?_)))))))))))
   refine .q 10 r (.j 1 r r (.W r (.I FX .p5 r .mk) (.j 1 r r (.W r (.I FX .p5 r .mk) (.j 1 r r tv))))) (.Y r ?_)
   obtain ⟨a8,D⟩:=D
   refine .ap (ys:=[d.1]) .p6 DF DF IN2 r (.box .z (.one r) r) a8 fun _ _=>.q 10 r (.j 1 r r (.W r (.I FX .p6 r .mk) (.j 1 r r tv))) (.K 1 r (.b r fun _=>DrawD.nop (.Y r ?_)))
   obtain ⟨K,D⟩:=D
   refine .ap (ys:=[d.2.1]) .p7 DF DF IN2 r (.box (.o 10 r) (.one r) r) K fun _ _=>.q 11 r (.j 1 r r tv) (.Y r ?_)
   refine .s1 sizeOf27 .p7 r (.P 11 r r r tv (.e2 12 (.G 1 r (.s1 sizeOf27 .p7 r (.L 791494 r (.drop .p2 (.drop .p9 (.F (.D 1 2199024042950 r (.A r D (fun a9 D=>?_) fun a9 D=>?_))))))))))
   · refine .C (.G 2 r (.bs 1 BE D3 jX r fun _=>?_))
     obtain ⟨P,D⟩:=D
     exact .ap (ys:=[g]) .p8 BE BE IN3 r (.box .z (.one r) r) P fun _ _=>.D 1 786886 r (.drop .p1 (.C (.G 2 r (.H fun c w V W=>⟨_,D,_,_,_,_,_,_,jf C tv [7,2,1,0,0,0,0,0,0] r V W⟩))))
   exact .P 786886 r (.C (.G 2 r (.H fun c w V W=>⟨_,D,_,_,_,_,_,_,jf C tv [6,1,0,4,0,0,0,0,0] r V W⟩)))
 refine .en 454 r (.M 2 r (.y .p3 fun _ R x=>?_))
 obtain ⟨S,J,O,U⟩:=R.u4 k J O U
 refine .ca call27 r (MY x D:) fun _ _ b0 b1=>?_
 obtain ⟨a3,_,_,rfl,i,D⟩:=b1
 obtain ⟨c0,J,O,U,x⟩:=b0.u5 S J O U x
 refine .G 1 r (.s1 sizeOf40 .z r (.ns 196 r (.S JP DJ .z r (.R DJ .p7 r (.L 68 r (.drop .z (.y .p1 fun _ X y=>?_)))))))
 obtain ⟨Y,J,O,U,i⟩:=X.u5 c0 J O U i
 refine .y .z fun _ c1 a4=>?_
 obtain ⟨a2,J,O,U,i,y⟩:=c1.u6 Y J O U i y
 exact .J (DZ r (.w JP DJ r .p4 r .n) a2 (.o W0 r) ⟨({ a0 with A:=e,B:=f,On:=a3 }:State),((_,_),(_,_),(_,_)),r,⟨a4,y,i⟩,r,D⟩)
theorem yO {a0 a1 a2 a3 Q} (U:RepSl B0 I p1 c2 a0.Draws) (W:iA I gg4 a1) (V:RepSl CB I p6 c7 a3.Items) (O:VN a0 a1 a2 a3 Q) :
  B3 prog 294 [.agg (LU a0 p1 c2),.agg (GM a1 gg4),vi a2,.agg #[vi a3.N,.slice p6 a3.Items.length c7]] I (λI_ v=>∃ r Z,v=.agg (GM r Z)∧iA I_ Z r∧Q r):=by
 refine Fun.ee func294 ntmps294 r ?_;refine .F (.bx r λa4=>?_);refine .bx r λa5=>?_;refine .box1 r r r r λa6=>?_;refine .bx r λa7=>?_;refine .al NK r λ_=>?_;refine .ns 496 r (.S QB QA .p4 r (.S JP DJ .p3 r ?_));refine .ca call233 r (W6 U W O:) λ_ _ d D=>?_;obtain⟨e,_,rfl,a,O⟩:=D;have⟨U,W,V⟩:=d.u3 U W V;refine .R DJ .p3 r (.V 496 1 r (.I AM .p3 r (.G 1 r (.I AM .p3 r (.D 2 1008 r (.B (.B (.jn O [9,8,7,6,5,4] [4,3,2,1,0] r (λj E l y=>j ((26,.bool y) :: E) l) (λ_ O=>?_) ?_))))))))
 . refine .C (.S BK AQ .p1 r (.v call270 (FQ V O:) r λ_ O=>.G 2 r (.T O [20,21] r (λG O=>?_) λG O=>?_)))
   . exact .G 5 r (.H (je true O rf [4,3,2,1,0] r))
   exact .G 1 r (.O r (.I AM .p1 r (.G 3 r (.H (je (a3.N != (A5 (e.High - e.Low))) O rf [4,3,2,1,0] r)))))
 refine λy O=>jq r λ_ c=>?_;have⟨g,U,V,a⟩:=c.u4 d U V a;refine .A r O (λH O=>?_) λH O=>?_
 . refine .B (.dr AxF 14 (.K 1 r (.X AM 1 r (.K 1 r (.X AM 1 r (.K 1 r (.X FX 1 r (.K 1 r (.X FX 1 r ?_)))))))));refine .K 1 r (.X P1 1 r (.Y r ?_));refine .ca call38 r (BX a.1 O:) λ_ _ K L=>?_;obtain⟨a8,_,_,rfl,b,O⟩:=L;have⟨b0,P,U,V,a⟩:=K.u5 g c U V a;refine .q 5 r (.W r (.I P1 .p1 r .mk) (.j 1 r r (.W r (.I FX .p1 r .mk) (.j 1 r r (.W r (.I AM .p1 r .mk) (.j 1 r r (.W r (.I AM .p1 r .mk) (.j 1 r r tv)))))))) (.Y r ?_);refine .ca call38 r (BX a.2.1 O:) λ_ _ S T=>?_;obtain⟨a9,_,_,rfl,i,O⟩:=T;have⟨b1,c0,U,V,a,b⟩:=S.u6 b0 P U V a b;refine .q 5 r (.W r (.I P1 .p1 r .mk) (.j 1 r r (.W r (.I AM .p1 r .mk) (.j 1 r r (.W r (.I AM .p1 r .mk) (.j 1 r r tv)))))) (.Y r ?_);refine .ca call120 r (GB a.2.2 O:) λ_ _ k c1=>?_;obtain⟨m,_,_,rfl,X,O⟩:=c1;have⟨p,_,U,V,a,b⟩:=k.u6 b1 c0 U V a b;have i:=k.u1 i;exact .q 5 r (.W r (.I AM .p1 r .mk) (.j 1 r r (.W r (.I AM .p1 r .mk) (.j 1 r r tv)))) (.h r (.bd NK fD mD r .mk) (.e2 14 (.R DJ .p4 r (.L 256 r (.drop .z (.drop .z (.drop .z (.drop .z (.J (B5 r (.w JP DJ r .z r .n) p ⟨({ e with A:=a8,B:=a9,On:=m }:State),((_,_),(_,_),(_,_)),r,⟨b,i,X⟩,O⟩))))))))))
 refine .P 1008 r (.F (.S JP DJ .p1 r (.G 1 r (.mkFn r r r r ?_))));refine .cS (.f call187 r) (.o [3,0,0,0] r) r (jR (b5:=a7) (b9:=a4) (b13:=a5) (b16:=a6) V U a a O:) λ_ _ _ s t=>?_;obtain⟨Y,u,rfl,d0,rfl,O⟩:=t;have⟨x,_,U,V,a⟩:=s.u5 g c U V a;exact .rn 5 r (.R DJ .p4 r (.L 256 r (.drop .z (.drop .z (.drop .z (.drop .z (.J (B5 r (.w JP DJ r .z r .n) x ⟨Y,u,r,d0,O⟩))))))))
theorem DV {o0 a0 a1 Q} (h:WE I gn3 o0) (d:CF o0 a0 a1 Q) :
  Fun prog 234 #[vp b2,vi a0,vi a1] I (UT o0 b2 gn3 p5 c6 b13 p8 c9 b16 b18) (λ_ v l=>∃ r,v=vi r∧l=(UT o0 b2 gn3 p5 c6 b13 p8 c9 b16 b18)∧Q r):=by
 exact Fun.ee func234 ntmps234 r (.M 1 r (.V 7 4 r (.I AM .z r (.G 2 r (.v call267 (Ad7 (I:=I) d:) r λb d=>.D 1 65 r (.q1 results234 rf UH r ⟨b,r,r,d⟩))))))
theorem DD {o0 a0 Q} (J:WE I gn3 o0) (O:rU I gh19 a0) (D:CE o0 a0 Q) :
  Fun prog 192 #[vp b2,.agg (JL a0 gh19)] I (UT o0 b2 gn3 p5 c6 b13 p8 c9 b16 b18) (fun V v l=>∃ r U a3 Z a4 a2,v=.tuple #[]∧WE V U r∧l=(UT r b2 U a3 Z b13 a4 a2 b16 b18)∧Q r):=by
 refine Fun.ee func192 ntmps192 r ?_
 refine .F (.bx r fun _=>?_)
 refine .L 9 r (.B (.dr Aj2 12 (.K 5 r (.X AM 1 r (.K 4 r (.X AM 1 r (.Y r ?_)))))))
 refine .cS (.f call234 r) (.o nl6 r) r (DV (b2:=b2) (p5:=p5) (c6:=c6) (b13:=b13) (p8:=p8) (c9:=c9) (b16:=b16) (b18:=b18) J D:) fun _ _ _ a d=>?_
 obtain ⟨b,rfl,rfl,D⟩:=d
 obtain ⟨J,O⟩:=a.u2 J O
 refine .rx 7 r (.q 7 r tv (.e2 12 (.G 1 r (.s1 D3 .p6 r (.L 9 r (.dr nl9 11 (.K 4 r (.X isAgg190 0 r (.h r (.S GF CV .p6 r .mk) (.Y r (.bs 1 AaA CV KJ r fun _=>?_)))))))))))
 refine .q 8 r (.W r (.I isAgg190 .p1 r .mk) (.j 4 r r tv)) (.Y r ?_)
 obtain ⟨e,D⟩:=D
 exact .appendQ (ys:=[({ a0 with From:=b }:AO)]) 136 .p2 AaA AaA Ay6 r r r r r r r r r (.box .z (.one ⟨gh19,r,O⟩) r) (List.cons_ne_nil _ _) e r r fun _ _=>.q 8 r (.j 1 r r tv) (.K 2 r (.Y r (.s1 sizeOf190 .p2 r (.P 8 r r r tv (.e2 11 (.qIn .z (.H (JR r .n a (.o [2,0,1,1,1,1] r) ⟨({ o0 with out:=(o0.out++([({ a0 with From:=b }:AO)])) }:A1),gn3,_,_,_,_,r,J,r,D⟩))))))))
end Go.Proofs.YtieniichmjgmcaaGreat
