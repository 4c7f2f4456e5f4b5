import Derived.Test.YtcecodhleocefaaGreatV1
set_option linter.unusedVariables false
set_option linter.unusedSimpArgs false
set_option maxRecDepth 8000
set_option maxHeartbeats 1000000
namespace Go.Proofs.YtcecodhleocefaaGreat
open Go Go.Fw
open Tryz
variable {I:IH}
variable {b2 b3 b4 b5 b6 b7 b8 b9 c2 c3 c4 c5 c6 c7 c8 c9 lr b10 b11 b13 b14 b15 b16 b17 b18 b21 b22 b26 c10 c11 c12 c13 c18 c20 c24:Nat}
variable {p1 p2 p3 p4 p5 p6 p7 p8 p9 p10 p11 p12 p17 p19 p23:Option Addr}
variable {Rr:Nat→HA}
variable {ga1:aTa}
variable {gb1:aTb}
variable {gc1 gc3:aTc}
variable {gd1 gd11:aTd}
variable {gf1 gf3 gf4 gf7 gf8 gf14 gf17:aTf}
variable {gg1 gg4 gg11:aTg}
variable {gj1 gj2 gj11 gj19:aTj}
variable {gk1 gk3 gk10 gk14:aTk}
variable {gl1:aTl}
variable {gm1:aTm}
variable {gp3:aTp}
variable {gs3 gs4 gs5:aTs}
theorem ME {a0 Q} (U:RepSl (gO EZ) I p1 c2 a0) (J:E7 a0 Q) :
  Fun prog 286 #[.slice p1 a0.length c2,.func (.func 245) #[] #[]] I [] (λ_ v l=>∃ r,v=vi r∧l=[]∧Q r):=by
 refine Fun.ee func286 ntmps286 r (.F (.D 1 3 r (.B (.M 1 r (.ln sF r (.D 1 387 r (.E (.lp J xO [] r (λj E l d=>j ((8,vi d) :: E) l) (ji rf [] r) ?_))))))));refine λd _ J=>jq r λ_ a=>?_;have U:=a.u1 U;refine .F (.D 1 899 r (.B (.A r J (λh J=>?_) λh J=>?_)))
 . refine .O 387 r (.B (.E (.M 2 r (.V 419 3 r ?_))));have⟨q,_,e,J⟩:=J;obtain⟨_,_,_,s,b,_,_,rfl,f⟩:=U.2 _ _ e;refine .Y sF bH s q e r (.ldb 0 KN b r ?_);refine .x (.c call245 r r) .n r (kU f J:) λ_ _ _ k m=>?_;obtain⟨_,rfl,rfl,J⟩:=m;have⟨g,U,f,b⟩:=k.u4 a U f b;refine .rn 0 r (.L 65955 r (.A r J (λo J=>?_) λo J=>?_))
   . exact .F (.D 2 18 r (.q1 results286 g [] r ⟨d,r,r,J⟩))
   exact .O 387 r (.C (.G 2 r (.I (je (AJ (d+1)) J g [] r))))
 exact .en 2 r (.F (.D 1 18 r (.q1 results286 a [] r ⟨(-1),r,r,J⟩)))
theorem KO {a0 Q} (h:RepSl (gO EZ) I p1 c2 a0) (J:CO a0 Q) :
  Fun prog 244 #[.slice p1 a0.length c2,.func (.func 245) #[] #[]] I [] (λ_ v l=>∃ r,v=.bool r∧l=[]∧Q r):=by
 refine Fun.ee func244 ntmps244 r ?_;refine .M 1 r (.V 3 2 r ?_);refine .x (.f call286 r) .n r (ME h J:) λ_ _ _ a c=>?_;obtain⟨d,rfl,rfl,J⟩:=c;have h:=a.u1 h;exact .rn 0 r (.D 2 18 r (.q1 results244 a [] r ⟨(decide (0<=d)),r,r,J⟩))
theorem bT {o0 a0 Q} (D:RepSl EZ I p11 c12 a0.l) (d:N4 o0 a0 Q) :
  Fun prog 369 #[vp b2,.iface 375 (.agg #[.slice p11 a0.l.length c12,vi a0.which])] I (kL3 o0 b2 p3 c4 p6 c7) (fun _ v l=>∃ r p15 c16 O J,v=.tuple #[]∧l=(kL3 r b2 p15 c16 O J)∧Q r):=by
 refine Fun.ee func369 ntmps369 r (.M 1 r (.assertOk underlying375 r r r r (.G 3 r (.al zeroValue375 r fun _=>.R KL .z r (.G 1 r (.V 49 1 r (.L 2065 r (.Q r r (.dr xQ 7 (.K 3 r (.W UZ 1 r (.h r (.S isAgg375 KL .z r .mk) (.X r ?_)))))))))))))
 refine .bs 1 PM KL zeroValue375 r fun _=>.v 5 r (.U r (.H UZ .p2 r .mk) (.u 3 r r tv)) (.X r ?_)
 obtain ⟨a,d⟩:=d
 exact .ap (ys:=[a0]) .p3 PM PM AyE r (.box .z (.one ⟨_,_,r,D⟩) r) a fun _ _=>.v 5 r (.u 1 r r tv) (.e2 7 (.G 1 r (.s1 sizeOf330 .p3 r (.I (FR r .n rf (.o [3,0,2] r) ⟨({ o0 with heads:=(o0.heads++([a0])) }:AN),_,_,_,_,r,r,d⟩)))))
theorem SJ {o0 Q} (d:HB o0 Q) :
  Fun prog 248 #[.slice p2 o0.length c3] I [OwnSl EM 375 p2 c3 o0] (λ_ v l=>∃ r,v=vi r∧l=[OwnSl EM 375 p2 c3 o0]∧Q r):=by
 exact Fun.ee func248 ntmps248 r (.M 1 r (.V 1 1 r (.ln PM r (.D 1 5 r (.q1 results248 rf [0] r ⟨(o0.length:Int),r,r,d⟩)))))
theorem L5 {o0 a0 a1 Q} (V:FC o0 a0 a1 Q) :
  Fun prog 367 #[.slice p2 o0.length c3,vi a0,vi a1] I [OwnSl EM 375 p2 c3 o0] (λ_ v l=>∃ r,v=.bool r∧l=[OwnSl EM 375 p2 c3 o0]∧Q r):=by
 refine Fun.ee func367 ntmps367 r (.F (.D 1 7 r (.B (.ownF .z λA=>.openS .z λ_ a=>.dr [0,1,2,3,4,5,6,7,8,9,10,11,12,13,14,15,17,18,19,20,21,22,23,24,25,26,16,27,28,29,30] 31 (.K 2 r ?_)))));have⟨G,_,n,V⟩:=V;have⟨_,H⟩:=A (FY n);cases H;obtain⟨_,_,t,_,_,rfl,o⟩:=a.get n;refine .h r (.AB PM KL r r G (CL n G) r r .mk) (.K 1 r (.h r (.lo1 (j:=0) KN .z t r r r r r .mk) ?_));have⟨J,_,B,_,_,K,b,V⟩:=o.ix V;refine .h r (.Y EL FN K J B r .mk) (.K 1 r (.h r (.ldb 0 AM b r .mk) (.K 2 r ?_)));have⟨w,_,p,V⟩:=V;obtain⟨_,_,u,_,_,rfl,q⟩:=a.get p;refine .h r (.AB PM KL r r w (CL p w) r r .mk) (.K 1 r (.h r (.lo1 (j:=0) KN .z u r r r r r .mk) ?_));have⟨L,_,C,_,_,N,c,V⟩:=q.ix V;refine .h r (.Y EL FN N L C r .mk) (.K 1 r (.h r (.ldb 0 AM c r .mk) (.K 2 r ?_)));have⟨f,_,d,V⟩:=V;obtain⟨_,_,g,_,_,rfl,_⟩:=a.get d;refine .h r (.AB PM KL r r f (CL d f) r r .mk) (.K 1 r (.h r (.lo1 (j:=1) AM .z g r r r r r .mk) (.K 2 r ?_)));have⟨i,_,e,V⟩:=V;obtain⟨_,_,m,_,_,rfl,_⟩:=a.get e;refine .h r (.AB PM KL r r i (CL e i) r r .mk) (.K 1 r (.h r (.lo1 (j:=1) AM .z m r r r r r .mk) (.X r (.q call72 (DJ (I:=I) V:) r λx V=>?_))));refine .v 1 r (.U r (.lo1 (j:=1) AM .z m r r r r r .mk) (.u 1 r r (.U r (.AB PM KL r r i (CL e i) r r .mk) (.u 2 r r (.U r (.lo1 (j:=1) AM .z g r r r r r .mk) (.u 1 r r (.U r (.AB PM KL r r f (CL d f) r r .mk) (.u 2 r r tv)))))))) (.X r (.q call72 (DJ (I:=I) V:) r λy V=>?_));refine .v 1 r tv (.X r (.bs 2 B0 D5 pG r λ_=>.v 2 r tv (.X r (.pubB (El:=B2) (ys:=([x,y]:List Int)) (k:=2) .z (RepCs.cons (cs:=[vi x]) r (RepCs.cons (cs:=[vi y]) r .nil)) r λ_ s O=>?_))));have⟨a,o,b,q,c⟩:=s.u5 a o b q c;exact .q call71 (MW O V:) r λP V=>.v 1 r tv (.K 1 r (.e2 31 (.closeS .z a (.D 1 65 r (.q1 results367 s [0] r ⟨(decide (P<0)),r,r,V⟩)))))
theorem L6 {o0 a0 a1 Q} (U:FD o0 a0 a1 Q) :
  Fun prog 370 #[.slice p2 o0.length c3,vi a0,vi a1] I [OwnSl EM 375 p2 c3 o0] (λ_ v l=>∃ r,v=.tuple #[]∧r.length=o0.length∧l=[OwnSl EM 375 p2 c3 r]∧Q r):=by
 refine Fun.ee func370 ntmps370 r (.ownF .z λF=>.openS .z λ_ a=>.dr Aj4 14 (.K 6 r ?_));have⟨G,b,f,U⟩:=U;have⟨d,H⟩:=F (FY f);cases H;obtain⟨_,_,q,w,y,rfl,J⟩:=a.get f;refine .h r (.AB PM KL r r G (CL f G) r r .mk) (.h r (.loA (j:=0) isAgg375 KL .z q r r (.o 2 r) r r r .mk) (.K 2 r ?_));have⟨A,c,g,U⟩:=U;obtain⟨_,_,s,B,C,rfl,K⟩:=a.get g;refine .h r (.AB PM KL r r A (CL g A) r r .mk) (.h r (.loA (j:=0) isAgg375 KL .z s r r (.o 2 r) r r r .mk) ?_);have⟨D,_,i,U⟩:=U;obtain⟨_,_,t,_,_,rfl,_⟩:=a.get i;refine .h r (.AB PM KL r r D (CL i D) r r .mk) (.X r λ{V}=>?_);have k:=a.set (x:=b) a0.toNat (cs:=[.slice w b.l.length y,vi b.which]) ⟨_,_,r,J⟩ ⟨r,r⟩;refine .stOA (j:=0) (v':=⟨[.slice w b.l.length y,vi b.which],r,r⟩) KL .z t r r r (.o r) r r (.O 1 r r r (.u 2 r r tv) (.e2 14 (.sub (E':=[(0,.slice (some ⟨d,0,none⟩) (o0.set a0.toNat b).length c3),(1,_),(2,_),(6,.slice (some ⟨d,0,none⟩) (o0.set a0.toNat b).length c3),(7,_),(8,.slice (some ⟨d,0,none⟩) (o0.set a0.toNat b).length c3),(9,_),(10,.slice (some ⟨d,0,none⟩) (o0.set a0.toNat b).length c3),(11,_),(12,_),(13,_),(14,.slice (some ⟨d,0,none⟩) (o0.set a0.toNat b).length c3),(15,_),(16,_),(17,_),(18,_)]) ⟨(by simp only[cB]; rfl),r,r,(by simp only[cB]; rfl),r,(by simp only[cB]; rfl),r,(by simp only[cB]; rfl),r,r,r,(by simp only[cB]; rfl),r,r,r,r,tv⟩ (.closeS .z k ?_))));have⟨E,_,m,U⟩:=U;refine .AB PM KL r r E (CL m E) r r (.openS .z λ_ e=>?_);obtain⟨_,_,u,_,_,rfl,_⟩:=e.get m;have p:=e.set (x:=c) a1.toNat (cs:=[.slice B c.l.length C,vi c.which]) ⟨_,_,r,K⟩ ⟨r,r⟩;exact .stOA (j:=0) (v':=⟨[.slice B c.l.length C,vi c.which],r,r⟩) KL .z u r r r (.o r) r r (.closeS .z p (.rl .z [0,6,8,10,14] r (by simp only[cB]) (.I (FR r .n rf (.o [0] r) ⟨((o0.set a0.toNat b).set a1.toNat c),r,(by first | exact r | omega | (simp only[cB] at * <;> omega)),r,U⟩))))
theorem YS {o0 a0 Q} (J:FK o0 a0 Q) :
  Fun prog 319 #[.iface 373 (vp b2),vi a0] I (kL3 o0 b2 p3 c4 p6 c7) (λW v l=>∃ r p12 c13 p15 c16,v=.tuple #[]∧l=(kL3 r b2 p12 c13 p15 c16)∧Q r):=by
 refine Fun.ee func319 ntmps319 r (.E (.lx J [0] [2] r (λj E l (a,b)=>λc w=>j ⟨23,[],none⟩ (λW=>a.length=o0.heads.length) ((1,vi b) :: E) (pc b2 #[.slice p3 a.length c4,vi o0.r,.slice p6 o0.out.length c7] 332 :: OwnSl EM 375 p3 c4 a :: l) c w) (λc w U V=>jf rf (by first | exact r | omega | (simp only[cB] at * <;> omega)) VO r U V) ?_));rintro⟨a,b⟩ _ J c w ⟨y,d,_,Z,a2⟩;refine Cod.at Z a2 (.E (.M 2 r (.quo r r (by decide) r r (.D 1 19 r (.B (.M 4 r (.T J [10,11] r (λh J=>?_) λh J=>?_)))))))
 . exact .D 6 131091 r (.Q r r (.exit (FR r .n d (.o VO r) ⟨({ o0 with heads:=a }:AN),_,_,_,_,r,r,J⟩)))
 refine .G 3 r ?_;refine .P r (.x (.iv call367 (VZ (LR MD iN r r r bG) UZ .z r) r r) (.o [1] r) r (L5 (I:=y) (p2:=p3) (c3:=c4) J:) λ_ C _ k m=>?_);obtain⟨_,rfl,rfl,J⟩:=m;have e:=k.u1 d;refine .rn 3 r (.D 2 131091 r (.A r J (λp J=>?_) λp J=>?_))
 . exact .exit (FR r .n e (.o nl7 r) ⟨({ o0 with heads:=a }:AN),_,_,_,_,r,r,J⟩)
 refine .O 19 r (.M 3 r ?_);refine .x (.iv call370 (VZ (LR MD iN r r r bG) UZ .p1 r) r r) (.o [0] r) r (L6 (I:=C) (p2:=p3) (c3:=c4) J:) λ_ _ _ s t=>?_;obtain⟨g,rfl,f,rfl,J⟩:=t;have u:=s.u1 e;exact .reat .p1 (B:=pc b2 #[.slice p3 g.length c4,vi o0.r,.slice p6 o0.out.length c7] 332) (by rw[f]) (.L 17 r (.C (.G 2 r (.I λc w U V=>⟨_,J,jf u (by first | exact r | omega | (simp only[cB] at * <;> omega)) nl7 r U V⟩))))
theorem VQ {o0 a0 Q} (D:RepSl EZ I p11 c12 a0.l) (d:IP o0 a0 Q) :
  Fun prog 287 #[.iface 373 (vp b2),.iface 375 (.agg #[.slice p11 a0.l.length c12,vi a0.which])] I (kL3 o0 b2 p3 c4 p6 c7) (λ_ v l=>∃ r p15 c16 O J,v=.tuple #[]∧l=(kL3 r b2 p15 c16 O J)∧Q r):=by
 refine Fun.ee func287 ntmps287 r ?_;refine .M 2 r ?_;refine .x (.i call369 (uZ MD iN r r r bG) r r) (.o VO r) r (bT (b2:=b2) (p3:=p3) (c4:=c4) (p6:=p6) (c7:=c7) D d:) λ_ t _ a e=>?_;obtain⟨_,b,c,u,w,rfl,rfl,d⟩:=e;have D:=a.u1 D;refine .rn 3 r (.L 1 r (.C (.G 2 r ?_)));refine .x (.iv call248 (VZ (LR MD iN r r r bG) UZ .z r) r r) (.o [1] r) r (SJ (I:=t) (p2:=b) (c3:=c) d:) λ_ x _ h j=>?_;obtain⟨_,rfl,rfl,d⟩:=j;have k:=h.u1 a;refine .rn 3 r (.G 1 r ?_);refine .x (.f call319 r) (.o nl7 r) r (YS (I:=x) (b2:=b2) (p3:=b) (c4:=c) (p6:=u) (c7:=w) d:) λ_ _ _ p q=>?_;obtain⟨y,_,_,_,_,rfl,rfl,d⟩:=q;have s:=p.u1 k;exact .rn 3 r (.I (FR r .n s (.o VO r) ⟨y,_,_,_,_,r,r,d⟩))
theorem Q4 {o0 a0 a1 Q} (J:RepSl EZ I p11 c12 a0) (h:GN o0 a0 a1 Q) :
  Fun prog 247 #[vp b2,.slice p11 a0.length c12,vi a1] I (kL3 o0 b2 p3 c4 p6 c7) (λ_ v l=>∃ r p15 c16 U O,v=.tuple #[]∧l=(kL3 r b2 p15 c16 U O)∧Q r):=by
 refine Fun.ee func247 ntmps247 r (.M 1 r (.ln EL r (.D 1 263 r (.A r h (λb h=>?_) λb h=>?_))))
 . refine .C (.G 3 r (.mkIface bG r r r r (.G 2 r (.bd zeroValue375 underlying375 AyF r (.mkIface underlying375 r r r r ?_)))));refine .x (.f call287 r) (.o VO r) r (VQ (a0:=({ l:=a0,which:=a1 }:B1)) (b2:=b2) (p3:=p3) (c4:=c4) (p6:=p6) (c7:=c7) J h:) λ_ _ _ a d=>?_;obtain⟨e,_,_,_,_,rfl,rfl,h⟩:=d;have J:=a.u1 J;exact .rn 3 r (.I (FR r .n a (.o VO r) ⟨e,_,_,_,_,r,r,h⟩))
 exact .AE (FR r .n rf (.o VO r) ⟨o0,_,_,_,_,r,r,h⟩)
theorem VR {o0 a0 a1 Q} (U:G9 o0 a0 a1 Q) :
  Fun prog 320 #[.iface 373 (vp b2),vi a0,vi a1] I (kL3 o0 b2 p3 c4 p6 c7) (λI_ v l=>∃ r p12 c13 p15 c16,v=.bool r.1∧l=(kL3 r.2 b2 p12 c13 p15 c16)∧Q r):=by
 refine Fun.ee func320 ntmps320 r (.M 1 r (.V 7 2 r (.L 135 r (.B (.E (.lx U xP [2] r (λj E l (b,a)=>λc w=>j ⟨48,[],none⟩ (λI_=>b.length=o0.heads.length) ((7,vi a) :: E) (pc b2 #[.slice p3 b.length c4,vi o0.r,.slice p6 o0.out.length c7] 332 :: OwnSl EM 375 p3 c4 b :: l) c w) (λc w W Z=>jf rf (by first | exact r | omega | (simp only[cB] at * <;> omega)) VO r W Z) ?_))))));rintro⟨b,a⟩ _ U c w ⟨K,d,_,a2,a4⟩;refine Cod.at a2 a4 (.E (.F (.D 4 391 r (.B (.M 4 r (.T U [17,18] r (λm U=>?_) λm U=>?_))))))
 . exact .D 3 2097543 r (.Q r r (.en 131 r (.F (.D 4 65 r (.q1 results320 d VO r ⟨(decide (a0<a),({ o0 with heads:=b }:AN)),_,_,_,_,r,r,U⟩)))))
 refine .D 3 2097543 r (.A r U (λn U=>?_) λn U=>?_)
 . exact .en 131 r (.F (.D 4 65 r (.q1 results320 d VO r ⟨(decide (a0<a),({ o0 with heads:=b }:AN)),_,_,_,_,r,r,U⟩)))
 refine .O 391 r (.F (.D 2 903 r (.B (.jn U [7,2,1,0] VO r (λj E l f=>j ((9,vi f) :: E) l) (λ_ U=>?_) ?_))))
 . refine .M 3 r (.V 1927 4 r (.T U [27,28] r (λp U=>?_) λp U=>?_))
   . refine .G 3 r ?_;refine .P r (.x (.iv call367 (VZ (LR MD iN r r r bG) UZ .z r) r r) (.o [1] r) r (L5 (I:=K) (p2:=p3) (c3:=c4) U:) λ_ _ _ e s=>?_);obtain⟨_,rfl,rfl,U⟩:=s;have R:=e.u1 d;refine .rn 3 r (.D 1 8589936263 r (.A r U (λt U=>?_) λt U=>?_))
     . exact .C (.G 2 r (.I (je (AJ ((AJ ((AJ (2*a))+1))+1)) U e nl7 r)))
     exact .AE (je (AJ ((AJ (2*a))+1)) U e nl7 r)
   exact .D 5 8589936263 r (.j r r (.AE (je (AJ ((AJ (2*a))+1)) U rf VO r)))
 refine λf U=>jq r λL g=>?_;have u:=g.u1 d;refine .B (.M 3 r ?_);refine .x (.iv call367 (VZ (LR MD iN r r r bG) UZ .z r) r r) (.o [1] r) r (L5 (I:=L) (p2:=p3) (c3:=c4) U:) λ_ N _ y A=>?_;obtain⟨_,rfl,rfl,U⟩:=A;have⟨h,C⟩:=y.u2 u g;refine .rn 3 r (.D 1 549755814535 r (.A r U (λD U=>?_) λD U=>?_))
 . exact .en 131 r (.F (.D 4 65 r (.q1 results320 h nl7 r ⟨(decide (a0<a),({ o0 with heads:=b }:AN)),_,_,_,_,r,r,U⟩)))
 refine .O 647 r (.M 3 r ?_);refine .x (.iv call370 (VZ (LR MD iN r r r bG) UZ .p1 r) r r) (.o [0] r) r (L6 (I:=N) (p2:=p3) (c3:=c4) U:) λ_ _ _ G H=>?_;obtain⟨k,rfl,i,rfl,U⟩:=H;have⟨J,_⟩:=G.u2 h C;exact .reat .p1 (B:=pc b2 #[.slice p3 k.length c4,vi o0.r,.slice p6 o0.out.length c7] 332) (by rw[i]) (.L 519 r (.C (.G 2 r (.I λc w W Z=>⟨_,U,jf J (by first | exact r | omega | (simp only[cB] at * <;> omega)) nl7 r W Z⟩))))
theorem eN {o0 Q} (h:O2 o0 Q) :
  Fun prog 368 #[vp b2] I (kL3 o0 b2 p3 c4 p6 c7) (λU v l=>∃ r O J p12 c13 p15 c16,v=.iface 375 (.agg #[.slice O r.1.l.length J,vi r.1.which])∧RepSl EZ U O J r.1.l∧l=(kL3 r.2 b2 p12 c13 p15 c16)∧Q r):=by
 refine Fun.ee func368 ntmps368 r (.M 1 r (.V 1 2 r (.H UZ .z r (.ln PM r (.G 2 r (.V 9 2 r (.H UZ .z r (.G 1 r ?_))))))));have⟨b,d,a,h⟩:=h;refine .ownNe .p1 (FY a) λ_ e=>?_;cases e;refine .AB PM KL r r b (CL a b) r r (.loEW isAgg375 KL .p1 a r r r r r λ_ c=>?_);obtain⟨_,_,rfl,f⟩:=c;refine .al zeroValue375 r λ_=>?_;refine .R KL .z r (.V 25 3 r (.H UZ .p1 r (.G 1 r ?_)));have⟨_,_,_,h⟩:=h;exact .sliceT (H:=(AJ ((o0.heads.length:Int) - 1)).toNat) PM KL r r .p2 .p2 r (by omega) r (by omega) r r (.G 1 r (.s1 sizeOf330 .p1 r (.ns 17 r (.S isAgg375 KL .z r (.mkIface underlying375 r r r r (.D 1 5 r (.drop .z (.q1 results368 rf VO r ⟨(d,({ o0 with heads:=(o0.heads.take (AJ ((o0.heads.length:Int) - 1)).toNat) }:AN)),_,_,_,_,_,_,r,f,r,h⟩))))))))
theorem XM {o0 Q} (J:GZ o0 Q) :
  Fun prog 288 #[.iface 373 (vp b2)] I (kL3 o0 b2 p3 c4 p6 c7) (λW v l=>∃ r U O p12 c13 p15 c16,v=.iface 375 (.agg #[.slice U r.1.l.length O,vi r.1.which])∧RepSl EZ W U O r.1.l∧l=(kL3 r.2 b2 p12 c13 p15 c16)∧Q r):=by
 refine Fun.ee func288 ntmps288 r ?_;refine .M 1 r (.V 1 1 r (.x (.iv call248 (VZ (LR MD iN r r r bG) UZ .z r) r r) (.o [1] r) r (SJ (I:=I) (p2:=p3) (c3:=c4) J:) λ_ x _ d e=>?_));obtain⟨_,rfl,rfl,J⟩:=e;refine .rn 3 r (.G 2 r (.V 9 2 r (.x (.iv call370 (VZ (LR MD iN r r r bG) UZ .p1 r) r r) (.o [0] r) r (L6 (I:=x) (p2:=p3) (c3:=c4) J:) λ_ y _ h j=>?_)));obtain⟨A,rfl,a,rfl,J⟩:=j;have k:=h.u1 d;refine .reat .p1 (B:=pc b2 #[.slice p3 A.length c4,vi o0.r,.slice p6 o0.out.length c7] 332) (by rw[a]) (.V 9 2 r ?_);refine .x (.f call320 r) (.o nl7 r) r (VR (I:=y) (b2:=b2) (p3:=p3) (c4:=c4) (p6:=p6) (c7:=c7) J:) λ_ C _ n p=>?_;obtain⟨_,D,E,F,G,rfl,rfl,J⟩:=p;have q:=n.u1 k;refine .rn 3 r (.V 1 1 r ?_);refine .x (.i call368 (uZ MD iN r r r bG) r r) (.o VO r) r (eN (I:=C) (b2:=b2) (p3:=D) (c4:=E) (p6:=F) (c7:=G) J:) λ_ _ _ t u=>?_;obtain⟨b,_,_,_,_,_,_,rfl,H,rfl,J⟩:=u;have w:=t.u1 q;exact .rn 3 r (.D 1 5 r (.q1 results288 w VO r ⟨(b.1,b.2),_,_,_,_,_,_,r,H,r,J⟩))
theorem aN {o0 Q} (V:G0 o0 Q) :
  Fun prog 249 #[vp b2] I (kL3 o0 b2 p3 c4 p6 c7) (fun _ v l=>∃ r p12 c13 p15 c16,v=.tuple #[]∧l=(kL3 r b2 p12 c13 p15 c16)∧Q r):=by
 refine Fun.ee func249 ntmps249 r (.M 3 r (.H UZ .z r ?_))
 obtain ⟨Y,k,m,V⟩:=V
 refine .ownNe .p1 (FY m) fun b3 b4=>?_
 cases b4
 refine .AB PM KL r r Y (CL m Y) r r (.loEW isAgg375 KL .p1 m r r r r r fun _ a0=>?_)
 obtain ⟨_,Z,rfl,b⟩:=a0
 refine .al zeroValue375 r fun _=>?_
 refine .R KL .z r (.V 5 3 r (.mkIface bG r r r r (.x (.f call288 r) (.o nl8 r) r (XM (I:=I) (b2:=b2) (p3:=some ⟨b3,0,none⟩) (c4:=c4) (p6:=p6) (c7:=c7) V:) fun _ _ _ t a2=>?_)))
 obtain ⟨_,_,_,b5,b6,b7,b8,rfl,_,rfl,V⟩:=a2
 have b:=t.u1 b
 refine .rn 4 r (.V 5 1 r (.H KN .p3 r ?_))
 obtain ⟨b9,u,a3,_,_,c0,a4,V⟩:=b.ix V
 refine .Y EL FN c0 b9 a3 r (.ldW isAgg254 FN a4 r r r r (.al iP r fun _=>.R FN .z r (.L 13 r (.B (.dr xQ 7 (.K 2 r (.W KN 4 r ?_)))))))
 obtain ⟨a5,_,_,V⟩:=V
 have w:Int.toNat 1≤Int.toNat (k.l.length:Int):=by omega
 have x:Int.toNat (k.l.length:Int)≤k.l.length:=by omega
 obtain ⟨_,_,a6,a7,p⟩:=RepSl.sliceW b (Int.toNat 1) (Int.toNat (k.l.length:Int)) Z w x (.inl rfl)
 refine .h r (.sliceW (L:=Int.toNat 1) (H:=Int.toNat (k.l.length:Int)) (cm:=Z) EL FN r r b.1 r r r (.inr ⟨_,_,r,a5,r⟩) (.inl ⟨r,r,r⟩) (.inl r) w x r a6 a7 r r .mk) (.K 1 r (.W AM 4 r (.X r ?_)))
 refine .x (.f call247 r) (.o nl8 r) r (Q4 (b2:=b2) (p3:=b5) (c4:=b6) (p6:=b7) (c7:=b8) p V:) fun _ _ _ R S=>?_
 obtain ⟨a,y,A,_,C,rfl,rfl,V⟩:=S
 obtain ⟨T,b,p⟩:=R.u3 t b p
 refine .rx 5 r (.v 5 r tv (.e2 7 (.L 9 r (.drop .p4 (.B (.M 3 r (.H KN .z r (.ln EL r (.D 1 25 r (.B (.jn V [4,3,0] SH r (fun j E l D=>j ((47,.bool D) :: E) l) (fun _ V=>?_) ?_)))))))))))
 · refine .ownF .p1 fun _=>.ownF .p2 fun F=>.dr Av2 16 (.K 3 r ?_)
   refine DG V (fun c V=>?_) fun c V=>?_
   · rw [c]
     refine .K 3 r (.h r (.P r (.H KN .z r .mk)) (.K 2 r ?_))
     obtain ⟨G,a8,d,V⟩:=V
     obtain ⟨_,a9⟩:=F (FY d)
     cases a9
     exact .h r (.P r (.AB EL FN r r G (CL d G) r r .mk)) (.K 1 r (.h r (.P r (.lo1 (j:=0) AM .p2 d r r r r r .mk)) (.K 1 r (.h r (.P r (.H AM .p3 r .mk)) (.K 2 r (.e2 16 (.I (je (a8.At==u.At) V rf SH r))))))))
   rw [c]
   exact .K 13 r (.e2 16 (.I (je false V rf SH r)))
 refine fun D V=>jq r fun b0 U=>?_
 have q:=U.u1 T
 refine .A r V (fun c1 V=>?_) fun c1 V=>?_
 · refine .B (.ownF .p1 fun _=>.ownF .p2 fun J=>.dr Az7 25 (.K 3 r (.W KN 0 r (.K 5 r (.W dM 0 r (.K 3 r (.W KN 0 r (.K 2 r ?_))))))))
   obtain ⟨K,_,e,V⟩:=V
   obtain ⟨N,b1⟩:=J (FY e)
   cases b1
   refine .h r (.AB EL FN r r K (CL e K) r r .mk) (.K 1 r (.h r (.loA (j:=1) C0 B9 .p2 e r r (.o 2 r) r r r .mk) (.K 1 r (.h r (.Z C0 B9 r .p3 (.o 2 r) r r r .mk) (.X r (.q call205 (aI (I:=b0) V:) r fun g V=>?_))))))
   refine .v 4 r (.u 2 r r (.U r (.H KN .z r .mk) (.u 3 r r tv))) ?_
   obtain ⟨O,i,s,V⟩:=V
   exact .h r (.AB EL FN r r O (CL s O) r r .mk) (.K 1 r (.X r fun {ex}=>.stOA (j:=1) (v':=({ At:=i.At,Val:=g }:BK)) B9 .p2 s r r r (.o r) r r (.reat .z (B:=pc b2 #[.slice y a.heads.length A,vi a.r,.slice (some ⟨N,0,none⟩) (a.out.set ((AJ ((a.out.length:Int) - 1)).toNat) ({ At:=i.At,Val:=g }:BK)).length C] 332) (by simp only [cB]) (.O 4 r r r tv (.e2 25 (.rl .p2 [51,61] r (by simp only [cB]) (.reat .z (B:=pc b2 #[.slice y a.heads.length A,vi a.r,.slice (some ⟨N,0,none⟩) (a.out.set ((AJ ((a.out.length:Int) - 1)).toNat) ({ At:=i.At,Val:=g }:BK)).length C] 332) (by simp only [cB]) (.L 1 r (.drop .p3 (.J (DF r .n q (.o VO r) ⟨({ a with out:=(a.out.set ((AJ ((a.out.length:Int) - 1)).toNat) ({ At:=i.At,Val:=g }:BK)) }:AN),_,_,_,_,r,r,V⟩)))))))))))
 refine .O 9 r (.dr zP 11 (.K 4 r (.W KN 0 r (.h r (.S isAgg254 FN .p3 r .mk) (.X r (.bs 1 EL FN iP r fun _=>.v 5 r (.U r (.H KN .p1 r .mk) (.u 4 r r tv)) (.X r ?_)))))))
 obtain ⟨X,V⟩:=V
 exact .ap (ys:=[u]) .p3 EL EL AfT r (.box .z (.one r) r) X fun _ _=>.v 5 r (.u 1 r r tv) (.K 2 r (.X r (.s1 bH .p2 r (.O 5 r r r tv (.e2 11 (.I (FR r .n q (.o [2,2,0] r) ⟨({ a with out:=(a.out++([u])) }:AN),_,_,_,_,r,r,V⟩)))))))
theorem oW {a0 a1 Q} (U:RepSl (gO EZ) I p1 c2 a1) (O:UF a0 a1 Q) :
  yP prog 174 [vi a0,.slice p1 a1.length c2] I (λI_ v l=>∃ r p4 c5,v=.tuple #[.slice p4 r.1.length c5,vi r.2]∧l=[OwnSl EZ 254 p4 c5 r.1]∧Q r):=by
 refine Fun.ee func174 ntmps174 r (.F (.D 2 3 r (.B (.M 1 r (.q call148 (U1 (I:=I) O:) r λ_ O=>.D 1 2051 r (.A r O (λa7 O=>?_) λa7 O=>?_))))))
 . exact .F (.D 2 48 r (.own0 EZ 254 (.J (DF r (.t r (.t r .n)) rf (.o [0] r) ⟨(([]:List BK),8),_,_,r,r,O⟩))))
 refine .O 3 r (.B (.M 1 r ?_));refine .x (.f call244 r) .n r (KO U O:) λ_ _ _ x a9=>?_;obtain⟨_,rfl,rfl,O⟩:=a9;have U:=x.u1 U;refine .rn 0 r (.L 8195 r (.A r O (λS O=>?_) λS O=>?_))
 . exact .F (.D 2 48 r (.own0 EZ 254 (.J (DF r (.t r (.t r .n)) x (.o [0] r) ⟨(([]:List BK),6),_,_,r,r,O⟩))))
 refine .O 3 r (.M 1 r (.bd zeroValue332 underlying332 AyD r (.y r λF=>.D 1 66 r (.B (.M 1 r (.ln sF r (.D 1 917568 r (.E (.own0 EM 375 (.own0 EZ 254 (.lx O [18,17,6] [] r (λj E l (d,y,e,A)=>λc w=>∃ g h i k,j ⟨41,[],none⟩ (λI_=>True) ((19,vi A) :: E) (pc F #[.slice g d.length h,vi y,.slice i e.length k] 332 :: OwnSl EM 375 g h d :: OwnSl EZ 254 i k e :: l) c w) (λc w V W=>⟨_,_,_,_,jf rf tv xP r V W⟩) ?_)))))))))));rintro⟨d,y,e,A⟩ _ O c w ⟨g,h,i,k,_,m,_,Z,a2⟩;have⟨G,U⟩:=m.u2 x U;refine Cod.at Z a2 (.F (.D 1 1966144 r (.B (.A r O (λP O=>?_) λP O=>?_))))
 . refine .O 917568 r (.B (.E (.M 1 r ?_)));have⟨b1,_,H,O⟩:=O;obtain⟨_,_,_,b3,R,_,_,rfl,B⟩:=U.2 _ _ H;refine .Y sF bH b3 b1 H r (.ldb 0 KN R r (.D 2 917952 r (.C (.G 3 r ?_))));refine .x (.f call247 r) (.o VO r) r (Q4 (o0:=({ heads:=d,r:=y,out:=e }:AN)) (b2:=F) (p3:=g) (c4:=h) (p6:=i) (c7:=k) B O:) λ_ _ _ T a8=>?_;obtain⟨_,_,_,_,_,rfl,rfl,O⟩:=a8;have⟨_,b0,U,B⟩:=T.u4 G m U B;exact .rn 3 r (.L 917568 r (.C (.G 2 r (.I λc w V W=>⟨_,O,_,_,_,_,jf b0 tv VO r V W⟩))))
 refine .en 64 r (.B (.E (.lx O [6] [] r (λj E l (p,N,q)=>λc w=>∃ a b s u,j ⟨41,[],none⟩ (λI_=>True) E (pc F #[.slice a p.length b,vi N,.slice s q.length u] 332 :: OwnSl EM 375 a b p :: OwnSl EZ 254 s u q :: l) c w) (λc w V W=>⟨_,_,_,_,jf rf tv VO r V W⟩) ?_)));rintro⟨p,N,q⟩ _ O c w ⟨a,b,s,u,a6,K,_,Z,a2⟩;have⟨L,c0⟩:=K.u2 G m;refine Cod.at Z a2 (.B (.M 3 r (.H UZ .z r ?_)));have X:=λ(J:IH) (hJ:IH.le a6 J) (hL:VY J [OwnSl EM 375 a b p])=>rB (I:=J) (Ap9 hL.1) O;refine .callB (.f call248 r) (.o [1] r) X r r λ_ _ Y=>?_;obtain⟨_,rfl,O⟩:=Y;refine .D 1 17179869248 r (.A r O (λc1 O=>?_) λc1 O=>?_)
 . refine .O 64 r (.E (.C (.G 1 r ?_)));refine .x (.f call249 r) (.o VO r) r (aN (I:=a6) (b2:=F) (p3:=a) (c4:=b) (p6:=s) (c7:=u) O:) λ_ _ _ a3 a4=>?_;obtain⟨_,_,_,_,_,rfl,rfl,O⟩:=a4;have⟨_,_,a5⟩:=a3.u3 L c0 K;exact .rn 3 r (.I λc w V W=>⟨_,O,_,_,_,_,jf a5 tv VO r V W⟩)
 exact .en 64 r (.M 3 r (.H KN .z r (.D 2 48 r (.drop .z (.drop .z (.J (DF r (.t r (.t r .n)) L (.o [0] r) ⟨(q,0),_,_,r,r,O⟩)))))))
theorem oX {a0 a1 a2 Q} (W:RepSl B2 I p1 c2 a0.Draws) (Z:X6 I gf4 a1) (J:QL a0 a1 a2 Q) :
  B7 prog 87 [.agg (F0 a0 p1 c2),.agg (EO a1 gf4),vi a2] I (λI_ v=>∃ r p6 c7,v=.tuple #[.slice p6 r.1.length c7,.bool r.2]∧RepSl JT I_ p6 c7 r.1∧Q r):=by
 refine Fun.ee func87 ntmps87 r ?_;refine .F (.y r λ_=>.y r λ_=>?_);refine .G 2 r (.ns 24 r (.S FV F9 .p1 r (.S FW CJ .z r (.ca call84 r (WZ W Z J:) λ_ _ f L=>?_))));obtain⟨_,_,rfl,a,J⟩:=L;have⟨W,Z⟩:=f.u2 W Z;refine .R CJ .z r (.V 24 1 r (.L 280 r (.B (.jn J [4] [0] r (λj E l a4=>j ((8,vi a4) :: E) l) (λ_ J=>?_) ?_))))
 . refine .M 1 r (.H VL .p1 r (.L 65808 r (.drop .p1 (.E (.F (.D 2 196880 r (.A r J (λN J=>?_) λN J=>?_)))))))
   . exact .C (.G 1 r (.I (je (-1) J rf [0] r)))
   refine .F (.D 2 524560 r (.A r J (λa5 J=>?_) λa5 J=>?_))
   . exact .AE (je 0 J rf [0] r)
   exact .F (.D 2 192 r (.drop .z (.J (B6 r (.t r (.t r .n)) f ⟨(([]:List Int),true),_,_,r,(.nil _ _ _),J⟩))))
 refine λa4 J=>jq r λ_ k=>?_;have⟨P,a⟩:=k.u2 f a;refine .F (.D 1 784 r (.B (.M 1 r (.H F3 .z r (.ln DU r (.D 1 29360912 r (.E (.own0 B2 3 (.lx J [23,22,8,4] [1] r (λj E l (e,b)=>λc w=>∃ g h,j ⟨44,[],none⟩ (λI_=>True) ((9,.slice g e.length h) :: (24,vi b) :: E) (OwnSl B2 3 g h e :: l) c w) (λc w O U=>⟨_,_,jf rf tv PR r O U⟩) ?_)))))))));rintro⟨e,b⟩ _ J c w ⟨g,h,_,d,_,a7,a8⟩;have⟨m,o,a⟩:=d.u3 P k a;refine Cod.at a7 a8 (.F (.D 1 62915344 r (.B (.A r J (λp J=>?_) λp J=>?_))))
 . refine .O 29360912 r (.B (.E (.M 1 r ?_)));have⟨R,_,q,_,_,S,s,J⟩:=a.1.ix J;refine .Y DU dK S R q r (.ldb 0 PN s r (.G 2 r (.V 29363984 3 r (.L 2176845584 r (.A r J (λu J=>?_) λu J=>?_)))))
   . refine .C (.G 2 r (.bs 1 B0 D5 pG r λ_=>?_));have⟨x,J⟩:=J;exact .ap (ys:=[b]) .p1 B0 B0 IN3 r (.box .z (.one r) r) x λ_ _=>.D 1 29360912 r (.drop .p1 (.C (.G 2 r (.I λc w O U=>⟨_,J,_,_,jf d tv PR r O U⟩))))
   exact .O 29360912 r (.C (.G 2 r (.I λc w O U=>⟨_,J,_,_,jf d tv PR r O U⟩)))
 refine .en 528 r (.M 1 r (.H AM .p1 r (.G 1 r (.H AM .p1 r (.G 2 r (.pub .z λ_ y i=>?_))))));have⟨A,B,C,a⟩:=y.u4 m o d a;refine .ca call132 r (VA i J:) λ_ _ F G=>?_;obtain⟨T,_,_,rfl,a6,J⟩:=G;have⟨H,_,_,a,i⟩:=F.u5 A B C a i;exact .D 2 192 r (.drop .z (.J (B6 r (.t r (.t r .n)) H ⟨(T,false),_,_,r,a6,J⟩)))
theorem sQ {a0 Q} (d:TW a0 Q) :
  B7 prog 140 [vi a0] I (λ_=>bE Q):=by
 refine Fun.ee func140 ntmps140 r (.F (.D 1 1 r (.B (.F (.D 1 8 r (.E (.B (.F (.D 2 24 r (.A r d (λa d=>?_) λa d=>?_))))))))))
 . exact .O 16 r (.Q r a (.F (.D 1 4 r (.r0 results140 r ⟨4611686018427387904,r,d⟩))))
 refine .F (.D 2 24 r (.A r d (λb d=>?_) λb d=>?_))
 . exact .O 16 r (.Q r b (.F (.D 1 4 r (.r0 results140 r ⟨4611686018427387904,r,d⟩))))
 refine .C (.D 2 16 r (.A r d (λc d=>?_) λc d=>?_))
 . exact .F (.D 1 4 r (.r0 results140 r ⟨4611686018427387904,r,d⟩))
 exact .O 0 r (.F (.D 1 4 r (.r0 results140 r ⟨0,r,d⟩)))
theorem oY {o0 a0 Q} (d:ST o0 a0 Q) :
  Fun prog 291 #[.agg (AhX a0).toArray,vp b2] I [pc b2 #[vi o0] 3] (λ_ v l=>∃ r,v=.bool r∧l=[pc b2 #[vi o0] 3]∧Q r):=by
 refine Fun.ee func291 ntmps291 r (.F (.y r λ_=>.G 1 r (.V 6 1 r (.H AM .z r (.G 2 r (.T d [6,7] r (λa d=>?_) λa d=>?_))))))
 . exact .D 6 10 r (.drop .z (.q1 results291 rf [0] r ⟨true,r,r,d⟩))
 exact .G 1 r (.P r (.H AM .z r (.P r (.H AM .p1 r (.D 3 10 r (.drop .z (.q1 results291 rf [0] r ⟨(decide (o0<=a0.At)),r,r,d⟩)))))))
theorem MF {o0 a0 Q} (J:RepSl EZ I p3 c4 a0) (h:E8 o0 a0 Q) :
  Fun prog 289 #[.slice p3 a0.length c4,.func (.func 291) #[] #[vp b2]] I [pc b2 #[vi o0] 3] (λ_ v l=>∃ r,v=vi r∧l=[pc b2 #[vi o0] 3]∧Q r):=by
 refine Fun.ee func289 ntmps289 r (.F (.D 1 3 r (.B (.M 1 r (.ln EL r (.D 1 387 r (.E (.lp h xO [0] r (λj E l d=>j ((8,vi d) :: E) l) (ji rf [0] r) ?_))))))));refine λd _ h=>jq r λp a=>?_;have J:=a.u1 J;refine .F (.D 1 899 r (.B (.A r h (λf h=>?_) λf h=>?_)))
 . refine .O 387 r (.B (.E (.M 2 r (.V 419 3 r ?_))));have⟨q,_,g,_,_,s,b,h⟩:=J.ix h;refine .Y EL FN s q g r (.ldW isAgg254 FN b r r r r ?_);refine .x (.c call291 r r) (.o [0] r) r (oY (I:=p) (b2:=b2) h:) λ_ _ _ i k=>?_;obtain⟨_,rfl,rfl,h⟩:=k;have⟨e,J,b⟩:=i.u3 a J b;refine .rn 1 r (.L 65955 r (.A r h (λm h=>?_) λm h=>?_))
   . exact .F (.D 2 18 r (.q1 results289 e [0] r ⟨d,r,r,h⟩))
   exact .O 387 r (.C (.G 2 r (.I (je (AJ (d+1)) h e [0] r))))
 exact .en 2 r (.F (.D 1 18 r (.q1 results289 a [0] r ⟨(-1),r,r,h⟩)))
theorem KP {o0 a0 Q} (h:RepSl EZ I p3 c4 a0) (J:CP o0 a0 Q) :
  Fun prog 290 #[.slice p3 a0.length c4,.func (.func 291) #[] #[vp b2]] I [pc b2 #[vi o0] 3] (λ_ v l=>∃ r,v=.bool r∧l=[pc b2 #[vi o0] 3]∧Q r):=by
 refine Fun.ee func290 ntmps290 r ?_;refine .M 1 r (.V 3 2 r ?_);refine .x (.f call289 r) (.o [0] r) r (MF (b2:=b2) h J:) λ_ _ _ a c=>?_;obtain⟨d,rfl,rfl,J⟩:=c;have h:=a.u1 h;exact .rn 1 r (.D 2 18 r (.q1 results290 a [0] r ⟨(decide (0<=d)),r,r,J⟩))
theorem Ah3 {a0 a1 a2 Q} (U:RepSl EZ I p1 c2 a2) (J:fM a0 a1 a2 Q) :
  B7 prog 252 [vi a0,vi a1,.slice p1 a2.length c2] I (AwK Q):=by
 refine Fun.ee func252 ntmps252 r (.F (.box1 r r r r λd1=>.al BZ r λ_=>.D 1 85 r (.B (.E (.M 1 r (.q call148 (U1 (I:=I) J:) r λ_ J=>.D 2 16469 r (.A r J (λX J=>?_) λX J=>?_)))))))
 . exact .F (.bd BZ EV GP r (.R AR .z r (.D 1 192 r (.drop .p1 (.J (B6 r (.w BI AR r .z r (.t r .n)) rf ⟨(CK,8),_,_,r,(.nil _ _ _),J⟩))))))
 refine .B (.F (.H AM .p1 r (.G 2 r (.T J [21,22] r (λY J=>?_) λY J=>?_))))
 . exact .D 4 524373 r (.Q r r (.O 524373 r (.Q r r (.F (.bd BZ EV GP r (.R AR .z r (.D 1 192 r (.drop .p1 (.J (B6 r (.w BI AR r .z r (.t r .n)) rf ⟨(CK,3),_,_,r,(.nil _ _ _),J⟩))))))))))
 refine .P r (.H AM .p1 r (.D 3 524373 r (.A r J (λu J=>?_) λu J=>?_)))
 . exact .O 524373 r (.Q r u (.F (.bd BZ EV GP r (.R AR .z r (.D 1 192 r (.drop .p1 (.J (B6 r (.w BI AR r .z r (.t r .n)) rf ⟨(CK,3),_,_,r,(.nil _ _ _),J⟩))))))))
 refine .C (.G 1 r (.mkFn r r r r ?_));refine .x (.f call290 r) (.o [1] r) r (KP (b2:=d1) U J:) λ_ _ _ k a3=>?_;obtain⟨_,rfl,rfl,J⟩:=a3;have U:=k.u1 U;refine .rn 2 r (.D 1 524373 r (.A r J (λa4 J=>?_) λa4 J=>?_))
 . exact .F (.bd BZ EV GP r (.R AR .p1 r (.D 1 192 r (.drop .z (.J (B6 r (.w BI AR r .z r (.t r .n)) k ⟨(CK,3),_,_,r,(.nil _ _ _),J⟩))))))
 refine .O 85 r (.B (.M 1 r (.ln EL r (.D 1 6442451029 r (.E (.lp J [31,6,4,2,0] PR r (λj E l e=>j ((32,vi e) :: E) l) (ji rf PR r) ?_))))));refine λe _ J=>jq r λ_ b=>?_;have⟨q,U⟩:=b.u2 k U;refine .F (.D 1 15032385621 r (.B (.A r J (λA J=>?_) λA J=>?_)))
 . refine .O 6442451029 r (.B (.E (.F (.D 2 6442451285 r (.B (.dr Av2 16 (.K 3 r ?_)))))));refine DG J (λg J=>?_) λg J=>?_
   . rw[g];refine .K 3 r ?_;have⟨a5,_,B,_,_,a6,C,J⟩:=U.ix J;refine .h r (.P r (.Y EL FN a6 a5 B r .mk)) (.K 1 r (.h r (.P r (.ldb 0 AM C r .mk)) (.K 2 r ?_)));have⟨a7,_,D,_,_,a8,F,J⟩:=U.ix J;refine .h r (.P r (.Y EL FN a8 a7 D r .mk)) (.K 1 r (.h r (.P r (.ldb 0 AM F r .mk)) (.K 2 r (.e2 16 (.L 1125906349293653 r (.A r J (λG J=>?_) λG J=>?_))))))
     . exact .F (.bd BZ EV GP r (.R AR .p1 r (.D 1 192 r (.drop .z (.J (B6 r (.w BI AR r .z r (.t r .n)) q ⟨(CK,6),_,_,r,(.nil _ _ _),J⟩))))))
     exact .O 6442451029 r (.C (.G 2 r (.I (je (AJ (e+1)) J b PR r))))
   rw[g];exact .K 13 r (.e2 16 (.L 1125906349293653 r (.j r r (.O 6442451029 r (.C (.G 2 r (.I (je (AJ (e+1)) J b PR r))))))))
 refine .en 85 r (.F (.H AM .z r (.bd BZ EV GP r (.al BZ r λa9=>.R AR .z r (.L 581 r (.drop .p1 (.B (.M 1 r (.ln EL r (.D 1 252201579132748353 r (.E (.own0 BX 183 (.lx J [56,55,9,6,0] [2] r (λj E l (a,i)=>λc w=>∃ m p,j ⟨86,[],none⟩ (λ_=>True) ((57,vi i) :: E) (pc a9 #[vi a1,.slice m a.length p] 125 :: OwnSl BX 183 m p a :: l) c w) (λc w V W=>⟨_,_,jf rf tv nl7 r V W⟩) ?_)))))))))))));rintro⟨a,i⟩ _ J c w ⟨m,p,v,d,_,d2,d3⟩;have⟨s,H,U⟩:=d.u3 q b U;refine Cod.at d2 d3 (.F (.D 1 540431955284460097 r (.B (.A r J (λc0 J=>?_) λc0 J=>?_))))
 . refine .O 252201579132748353 r (.B (.E (.F ?_)));have⟨b0,x,K,_,_,b1,L,J⟩:=U.ix J;refine .Y EL FN b1 b0 K r (.ldW isAgg254 FN L r r r r (.al iP r λ_=>.R FN .z r (.V 252201579132750401 2 r (.Z C0 B9 r .z (.o 2 r) r r r (.q call263 (iX (I:=v) J:) r λy J=>.D 5 252201579132762689 r (.B (.F (.D 2 590548011937838406209 r (.A r J (λP J=>?_) λP J=>?_)))))))))
   . exact .F (.bd BZ EV GP r (.R AR .p3 r (.D 1 192 r (.drop .z (.drop .z (.drop .z (.J (B6 r (.w BI AR r .z r (.t r .n)) s ⟨(CK,12),_,_,r,(.nil _ _ _),J⟩))))))))
   refine .O 252201579132754497 r (.M 2 r (.q call140 (sQ (I:=v) J:) r λ_ J=>.D 1 18889718133057713609281 r (.A r J (λS J=>?_) λS J=>?_)))
   . refine .C (.G 1 r (.H HF .p1 r (.G 1 r (.H AM .z r (.G 1 r (.bd JL sD sA r (.bs 1 DB D4 JL r λ_=>?_)))))));have⟨T,J⟩:=J;exact .ap (ys:=[({ At:=x.At,Val:=y.1 }:B3)]) .p3 DB DB rZ r (.box .z (.one r) r) T λ_ _=>.G 1 r (.s1 sizeOf123 .p3 r (.L 252201579132748353 r (.drop .p1 (.drop .p1 (.C (.G 2 r (.I λc w V W=>⟨_,J,_,_,jf d tv nl7 r V W⟩)))))))
   exact .O 252201579132748353 r (.drop .z (.C (.G 2 r (.I λc w V W=>⟨_,J,_,_,jf d tv VO r V W⟩))))
 refine .en 576 r (.F (.S BI AR .z r (.R AR .p2 r (.D 1 192 r (.drop .z (.pub .z λ_ c1 b3=>?_))))));have⟨d0,_,_⟩:=c1.u3 s H d;exact .J (B6 r (.w BI AR r .z r (.t r .n)) d0 ⟨(({ N:=a1,Items:=a }:Vec),0),_,_,r,b3,J⟩)
theorem jD {a0 a1 a2 Q} (U:RepSl B2 I p1 c2 a0.Draws) (J:JI a0 a1 a2 Q) :
  B7 prog 212 [.agg (F0 a0 p1 c2),vi a1,vi a2] I (λ_=>bE Q):=by
 refine Fun.ee func212 ntmps212 r (.F (.y r λ_=>.D 1 14 r (.B (.M 1 r (.q call129 (NK (I:=I) J:) r λ_ J=>.G 2 r (.T J [11,12] r (λb J=>?_) λb J=>?_))))))
 . exact .D 7 524302 r (.Q r r (.F (.D 1 64 r (.drop .z (.r0 results212 r ⟨0,r,J⟩)))))
 refine .G 2 r (.P r (.H AM .z r (.G 1 r ?_)));refine .P r (.AC call129 r (NK (I:=I) J:) r r λ_ d=>?_);obtain⟨_,rfl,J⟩:=d;refine .D 2 524302 r (.A r J (λe J=>?_) λe J=>?_)
 . exact .F (.D 1 64 r (.drop .z (.r0 results212 r ⟨0,r,J⟩)))
 refine .O 14 r (.F (.D 1 142 r (.B (.M 1 r (.H F3 .z r (.ln DU r (.G 1 r (.V 398 2 r (.L 16777614 r (.A r J (λf J=>?_) λf J=>?_))))))))))
 . refine .dr Ao0 12 (.K 1 r (.W F3 0 r (.K 2 r (.W AM 0 r (.K 4 r ?_)))));have⟨g,J⟩:=J;refine .h r (.rem r r g r r .mk) ?_;have⟨k,l,i,_,_,m,j,J⟩:=U.ix J;exact .h r (.Y DU dK m k i r .mk) (.h r (.ldb 0 PN j r .mk) (.e2 12 (.D 1 132 r (.drop .z (.M 1 r (.shl' r r (by decide) r r (.D 3 64 r (.r0 results212 r ⟨(bor .i64 (shl .i64 l 12) a2),r,J⟩))))))))
 exact .O 132 r (.drop .z (.M 1 r (.shl' r r (by decide) r r (.D 3 64 r (.r0 results212 r ⟨(bor .i64 (shl .i64 0 12) a2),r,J⟩)))))
theorem sR {a0 Q} (d:OH a0 Q) :
  B7 prog 213 [vi a0] I (λ_=>bE Q):=by
 exact Fun.ee func213 ntmps213 r (.M 1 r (.V 1 2 r (.shr' r r (by decide) r r (.D 1 4 r (.r0 results213 r ⟨(shr .i64 (AJ (a0 - 1)) 1),r,d⟩)))))
theorem AdY {a0 a1 a2 a3 Q} (R3:RepSl B2 I p1 c2 a0.Draws) (R5:X6 I gf4 a1) (Z:UG a0 a1 a2 a3 Q) :
  B7 prog 145 [.agg (F0 a0 p1 c2),.agg (EO a1 gf4),vi a2,vi a3] I (λ_=>o5_ Q):=by
 refine Fun.ee func145 ntmps145 r (.F (.y r λ_=>.y r λ_=>.G 2 r (.V 60 1 r (.H OS .z r (.G 1 r (.q call88 (MC R5.2.2 Z:) r λc Z=>?_))))));refine .D 1 1084 r (.B (.M 1 r (.H VL .p1 r (.L 66620 r (.E (.F (.D 2 197692 r (.A r Z (λg Z=>?_) λg Z=>?_))))))))
 . exact .M 1 r (.H AM .z r (.D 5 768 r (.drop .z (.drop .z (.J (B6 r (.t r (.t r .n)) rf ⟨(AJ (a1.Low+a3),c),r,Z⟩))))))
 refine .F (.D 2 16778300 r (.A r Z (λi Z=>?_) λi Z=>?_))
 . refine .B (.F (.D 3 268436540 r (.A r Z (λj Z=>?_) λj Z=>?_)))
   . exact .F (.D 3 768 r (.drop .z (.drop .z (.J (B6 r (.t r (.t r .n)) rf ⟨(1,c),r,Z⟩)))))
   refine .O 60 r (.B (.dr [0,1,3,4,5,6,8,9,10,11,12,13,2,7,14] 15 (.h r (.S FV F9 .p1 r .mk) (.K 2 r (.W AM 0 r (.K 3 r (.W F3 0 r (.K 1 r ?_))))))));have⟨d,p,a,_,_,e,b,Z⟩:=R5.1.ix Z;refine .h r (.Y DU dK e d a r .mk) (.h r (.ldb 0 PN b r .mk) (.K 1 r (.X r (.q call213 (sR (I:=I) Z:) r λ_ Z=>?_))));refine .v 2 r (.u 1 r r (.U r (.ldb 0 PN b r .mk) (.U r (.Y DU dK e d a r .mk) (.u 1 r r (.U r (.H F3 .z r .mk) (.u 3 r r (.U r (.H AM .z r .mk) (.u 1 r r (.U r (.S FV F9 .p1 r .mk) tv))))))))) (.X r ?_);refine .q call212 (jD R3 Z:) r λq Z=>?_;exact .v 2 r (.u 1 r r (.U r (.ldb 0 PN b r .mk) (.U r (.Y DU dK e d a r .mk) (.u 1 r r (.U r (.H F3 .z r .mk) (.u 1 r r tv)))))) (.K 1 r (.e2 15 (.D 1 768 r (.drop .z (.drop .z (.J (B6 r (.t r (.t r .n)) rf ⟨(q,p==0),r,Z⟩)))))))
 refine .O 1064 r (.drop .p1 (.M 1 r (.H F3 .z r (.G 1 r ?_))));have⟨s,u,m,_,_,v,o,Z⟩:=R5.1.ix Z;exact .Y DU dK v s m r (.ldb 0 PN o r (.D 3 768 r (.drop .z (.J (B6 r (.t r (.t r .n)) rf ⟨(u,c),r,Z⟩)))))
theorem yA {a0 a1 a2 Q} (U:RepSl B2 I p1 c2 a0.Draws) (R5:X6 I gf4 a1) (h:cQ a0 a1 a2 Q) :
  B7 prog 91 [.agg (F0 a0 p1 c2),.agg (EO a1 gf4),vi a2] I (λI_ v=>∃ r p6 c7,v=.agg #[vi r.N,.slice p6 r.Items.length c7]∧RepSl BX I_ p6 c7 r.Items∧Q r):=by
 refine Fun.ee func91 ntmps91 r ?_;refine .F (.y r λ_=>.y r λ_=>?_);refine .al BZ r λ_=>.ns 92 r (.S FV F9 .p2 r (.S FW CJ .p1 r (.ca call84 r (WZ U R5 h:) λ_ _ f y=>?_)));obtain⟨e,_,rfl,g,h⟩:=y;have⟨U,R5⟩:=f.u2 U R5;refine .R CJ .p1 r (.V 92 1 r (.H AM .p1 r (.G 1 r (.H AM .p1 r (.G 1 r (.bd BZ EV GP r (.al BZ r λB=>?_)))))));refine .R AR .z r (.L 220 r (.B (.M 1 r (.H AM .z r (.D 1 6291676 r (.E (.own0 BX 183 (.lx h [21,7,6,4,3,2] [4,3,2] r (λj E l (b,d)=>λc w=>∃ a4 i,j ⟨44,[],none⟩ (λI_=>True) ((22,vi d) :: E) (pc B #[vi (AJ (e.High - e.Low)),.slice a4 b.length i] 125 :: OwnSl BX 183 a4 i b :: l) c w) (λc w W Z=>⟨_,_,jf rf tv [1,0,2,1,0] r W Z⟩) ?_))))))));rintro⟨b,d⟩ _ h c w ⟨a4,i,_,a,_,a5,a6⟩;have⟨m,U,g⟩:=a.u3 f U g;refine Cod.at a5 a6 (.F (.D 1 14680284 r (.B (.A r h (λo h=>?_) λo h=>?_))))
 . refine .O 6291676 r (.B (.E (.M 2 r (.ns 6291932 r (.S FV F9 .p2 r (.S FW CJ .p3 r (.G 2 r (.q call145 (AdY U g h:) r λk h=>.G 5 r (.V 6293468 1 r (.L 8596227036 r (.A r h (λq h=>?_) λq h=>?_)))))))))))
   . refine .C (.G 1 r (.H HF .z r (.G 2 r (.bd JL sD sA r (.bs 1 DB D4 JL r λ_=>?_)))));have⟨s,h⟩:=h;exact .ap (ys:=[({ At:=d,Val:=k.1 }:B3)]) .p2 DB DB rZ r (.box .z (.one r) r) s λ_ _=>.G 1 r (.s1 sizeOf123 .p2 r (.L 6291676 r (.drop .p1 (.C (.G 2 r (.I λc w W Z=>⟨_,h,_,_,jf a tv [1,0,0,0,0] r W Z⟩))))))
   exact .O 6291676 r (.C (.G 2 r (.I λc w W Z=>⟨_,h,_,_,jf a tv gG r W Z⟩)))
 refine .en 192 r (.drop .p2 (.drop .p2 (.F (.S BI AR .z r (.R AR .p2 r (.L 64 r (.drop .z (.pub .z λ_ t A=>?_))))))));have⟨u,_⟩:=t.u2 m a;exact .J (B6 r (.w BI AR r .z r .n) u ⟨({ N:=AJ (e.High - e.Low),Items:=b }:Vec),_,_,r,A,h⟩)
theorem eO {a0 a1 Q} (d:P9 a0 a1 Q) :
  B7 prog 235 [.agg #[vi a0.1,vi a0.2],.agg #[vi a1.1,vi a1.2]] I (λ_=>AyH Q):=by
 refine Fun.ee func235 ntmps235 r (.F (.y r λ_=>.y r λ_=>.al gS r λ_=>.ns 28 r (.AA (i:=0) UY D5 r r (by decide) (o:=0) r r r (.H AM .p2 r (.AA (i:=0) UY D5 r r (by decide) (o:=0) r r r (.H AM .p1 r (.maxI r r r r (.G 1 r (.V 60 2 r (.AA (i:=1) UY D5 r r (by decide) (o:=1) r r r (.H AM .p2 r ?_)))))))))));exact .AA (i:=1) UY D5 r r (by decide) (o:=1) r r r (.H AM .p1 r (.minI r r r r (.maxI r r r r (.ba gS UY D5 r (.R gR .z r (.L 16 r (.drop .p1 (.drop .p1 (.J (B6 r (.w isAgg96 gR r .z r .n) rf ⟨((if a1.1 > a0.1 then a1.1 else a0.1),(if (if a1.2<a0.2 then a1.2 else a0.2) > (if a1.1 > a0.1 then a1.1 else a0.1) then (if a1.2<a0.2 then a1.2 else a0.2) else (if a1.1 > a0.1 then a1.1 else a0.1))),r,d⟩))))))))))
theorem Ah4 {a0 a1 a2 Q} (d:fN a0 a1 a2 Q) :
  B7 prog 292 [vi a0,vi a1,vi a2] I (λ_=>bE Q):=by
 refine Fun.ee func292 ntmps292 r (.F (.D 1 7 r (.B (.M 3 r (.T d [8,9] r (λb d=>?_) λb d=>?_)))))
 . exact .D 4 8199 r (.Q r r (.F (.D 1 64 r (.r0 results292 r ⟨0,r,d⟩))))
 refine .D 4 8199 r (.A r d (λc d=>?_) λc d=>?_)
 . exact .F (.D 1 64 r (.r0 results292 r ⟨0,r,d⟩))
 exact .O 7 r (.M 4 r (.q call100 (IC (I:=I) d:) r λe d=>.G 3 r (.q call100 (IC (I:=I) d:) r λf d=>.D 2 64 r (.r0 results292 r ⟨(AJ (e - f)),r,d⟩))))
theorem X1 {a0 a1 Q} (d:KH a0 a1 Q) :
  Fun prog 270 #[.agg (W4 a0).toArray,vi a1] I [] (λ_ v l=>∃ r,v=vi r∧l=[]∧Q r):=by
 exact Fun.ee func270 ntmps270 r (.F (.y r λ_=>.G 1 r (.V 6 1 r (.H AM .z r (.G 1 r (.q call72 (DJ (I:=I) d:) r λb d=>.D 1 16 r (.drop .z (.q1 results270 rf [] r ⟨b,r,r,d⟩))))))))
theorem H9 {a0 a1 Q} (W:RepSl BX I p1 c2 a0) (U:BP a0 a1 Q) :
  Fun prog 269 #[.slice p1 a0.length c2,vi a1,.func (.func 270) #[] #[]] I [] (λ_ v l=>∃ r,v=.tuple #[vi r.1,.bool r.2]∧l=[]∧Q r):=by
 refine Fun.ee func269 ntmps269 r (.M 2 r (.V 7 1 r (.ln DB r (.G 1 r (.V 263 3 r (.L 1799 r (.B (.E (.lp U [8,2,1,0] [] r (λj E l (a,d)=>j ((9,vi a) :: (10,vi d) :: E) l) (ji rf [] r) ?_)))))))));rintro⟨a,d⟩ _ U;refine jq r λh b=>?_;have W:=b.u1 W;refine .B (.F (.D 3 132871 r (.A r U (λi U=>?_) λi U=>?_)))
 . refine .O 1799 r (.E (.M 3 r (.conv lK underlying213 r r r (.shr' r r (by decide) r r (.conv underlying213 lK r r r (.G 1 r (.V 3847 3 r ?_)))))));have⟨A,_,k,_,_,B,e,U⟩:=W.ix U;refine .Y DB D4 B A k r (.ldW T2 D4 e r r r r (.G 1 r ?_));refine .x (.c call270 r r) .n r (X1 (I:=h) U:) λ_ _ _ o p=>?_;obtain⟨_,rfl,rfl,U⟩:=p;have⟨g,W,e⟩:=o.u3 b W e;refine .rn 0 r (.D 1 2147487495 r (.A r U (λq U=>?_) λq U=>?_))
   . exact .C (.G 3 r (.I (je (AJ ((AJ (shr .u64 (IntKind.wrap .u64 (AJ (a+d))) 1))+1),d) U g [] r)))
   exact .C (.G 2 r (.I (je (a,AJ (shr .u64 (IntKind.wrap .u64 (AJ (a+d))) 1)) U g [] r)))
 refine .en 775 r (.M 5 r (.T U [38,39] r (λs U=>?_) λs U=>?_))
 . refine .G 3 r ?_;have⟨C,_,u,_,_,D,f,U⟩:=W.ix U;refine .P r (.Y DB D4 D C u r (.P r (.ldW T2 D4 f r r r r (.G 1 r ?_))));refine .P r (.x (.c call270 r r) .n r (X1 (I:=h) U:) λ_ _ _ x y=>?_);obtain⟨F,rfl,rfl,U⟩:=y;have⟨z,W,f⟩:=x.u3 b W f;exact .rn 0 r (.D 4 196 r (.J (DF r (.t r (.t r .n)) z .n ⟨(a,F==0),r,r,U⟩)))
 exact .D 11 196 r (.J (DF r (.t r (.t r .n)) b .n ⟨(a,false),r,r,U⟩))
theorem aO {a0 a1 Q} (h:RepSl BX I p1 c2 a0.Items) (O:O3 a0 a1 Q) :
  B7 prog 211 [.agg #[vi a0.N,.slice p1 a0.Items.length c2],vi a1] I (λ_=>o5_ Q):=by
 refine Fun.ee func211 ntmps211 r ?_;refine .F (.y r λ_=>?_);refine .G 2 r (.V 6 1 r (.H HF .z r (.G 1 r (.x (.f call269 r) .n r (H9 h O:) λ_ _ _ a d=>?_))));obtain⟨b,rfl,rfl,O⟩:=d;have h:=a.u1 h;exact .rn 1 r (.D 4 48 r (.drop .z (.J (B6 r (.t r (.t r .n)) a ⟨(b.1,b.2),r,O⟩))))
theorem kV {o0 a0 Q} (d:QM o0 a0 Q) :
  Fun prog 321 #[.agg (W4 a0).toArray,vp b2] I [pc b2 #[vi o0] 3] (λ_ v l=>∃ r,v=.agg (W4 r).toArray∧l=[pc b2 #[vi o0] 3]∧Q r):=by
 exact Fun.ee func321 ntmps321 r (.F (.y r λ_=>.al JL r λ_=>.V 14 1 r (.H AM .p1 r (.H AM .p2 r (.G 2 r (.H PN .p1 r (.bd JL sD sA r (.R D4 .z r (.L 10 r (.drop .p1 (.J (DF r (.w T2 D4 r .z r .n) rf (.o [1] r) ⟨({ At:=AJ (a0.At - o0),Val:=a0.Val }:B3),r,r,d⟩))))))))))))
theorem rC {o0 a0 Q} (U:RepSl BX I p3 c4 a0.Items) (J:PA o0 a0 Q) :
  Fun prog 307 #[.agg #[vi a0.N,.slice p3 a0.Items.length c4],.func (.func 321) #[] #[vp b2]] I [pc b2 #[vi o0] 3] (λZ v l=>∃ r p6 c7,v=.agg #[vi r.N,.slice p6 r.Items.length c7]∧RepSl BX Z p6 c7 r.Items∧l=[pc b2 #[vi o0] 3]∧Q r):=by
 refine Fun.ee func307 ntmps307 r ?_;refine .F (.y r λ_=>.al BZ r λ_=>?_);refine .ns 22 r (.S BI AR .p1 r (.ca call210 r (PS U J:) λ_ _ s P=>?_));obtain⟨t,_,_,rfl,u,J⟩:=P;have U:=s.u1 U;refine .R AR .p1 r (.L 22 r (.B (.dr [0,1,2,3,6,4,5,999] 7 (.K 1 r (.W AM 1 r (.K 1 r (.W HF 1 r (.aP BZ r (.X r ?_)))))))));refine .AF call163 r (BN u J:) r r λ_ _ _ S T=>?_;obtain⟨_,_,_,rfl,rfl,J⟩:=T;have⟨a4,u⟩:=S.u2 s u;refine .v 4 r (.U r (.H AM .p2 r .mk) (.u 1 r r tv)) (.h r (.bd BZ EV GP r .mk) (.b r λK=>DrawD.nop ?_));refine .e2 7 (.R AR .p4 r (.L 50 r (.drop .p2 (.B (.M 1 r (.H HF .p3 r (.ln DB r (.D 1 917554 r (.E (.lx J [18,5,4,1] [2,1] r (λj E l (d,e)=>λc w=>∃ g f,j ⟨33,[],none⟩ (λZ=>True) ((17,.slice g d.length f) :: (19,vi e) :: E) (pc K #[vi t.N,.slice g d.length f] 125 :: OwnSl BX 183 g f d :: l) c w) (λc w V W=>⟨_,_,jf rf tv [3,0,1,0] r V W⟩) ?_))))))))));rintro⟨d,e⟩ _ J c w ⟨g,f,a5,i,_,a7,a8⟩;have p:=i.u1 a4;refine Cod.at a7 a8 (.F (.D 1 1966130 r (.B (.A r J (λA J=>?_) λA J=>?_))))
 . refine .O 917554 r (.B (.E (.M 1 r ?_)));have⟨x,_,k,J⟩:=J;refine .ownNe .p1 (FY k) λa6 X=>?_;cases X;refine .AB DB D4 r r x (CL k x) r r (.loA (j:=0) T2 D4 .p1 k r r (.o 2 r) r r r (.al JL r λ_=>.G 1 r (.R D4 .z r (.L 917746 r (.dr Aj2 6 (.K 1 r (.W HF 1 r (.K 2 r (.h r (.S T2 D4 .z r .mk) (.X r ?_))))))))));refine .x (.c call321 r r) (.o [3] r) r (kV (I:=a5) (b2:=b2) J:) λ_ _ _ D F=>?_;obtain⟨m,rfl,rfl,J⟩:=F;have⟨_,G⟩:=D.u2 p i;refine .rx 5 r (.v 5 r (.u 1 r r (.U r (.H HF .p2 r .mk) (.u 1 r r tv))) (.e2 6 ?_));have⟨y,_,q,J⟩:=J;exact .AB DB D4 r r y (CL q y) r r (.stOA (j:=0) (v':=m) D4 .p3 q r r r (.o r) r r (.rl .p3 [17,25] r (by simp only[cB]) (.reat .p2 (B:=pc K #[vi t.N,.slice (some ⟨a6,0,none⟩) (d.set e.toNat m).length f] 125) (by simp only[cB]) (.L 917554 r (.drop .p1 (.C (.G 2 r (.I λc w V W=>⟨_,J,_,_,jf G tv Aj3 r V W⟩))))))))
 refine .en 50 r (.F (.S BI AR .z r (.R AR .p3 r (.L 18 r (.drop .z (.pub .z λ_ H Y=>?_))))));have⟨a2,_⟩:=H.u2 p i;exact .J (DF r (.w BI AR r .p1 r .n) a2 (.o [0] r) ⟨({ N:=t.N,Items:=d }:Vec),_,_,r,Y,r,J⟩)
theorem AdZ {a0 a1 a2 Q} (Z:RepSl BX I p1 c2 a0.Items) (V:ZD a0 a1 a2 Q) :
  B7 prog 293 [.agg #[vi a0.N,.slice p1 a0.Items.length c2],vi a1,vi a2] I (AwJ Q):=by
 refine Fun.ee func293 ntmps293 r ?_;refine .F (.y r λ_=>.box1 r r r r λC=>?_);refine .al BZ r λ_=>.ns 92 r (.S BI AR .p2 r (.ca call210 r (PS Z V:) λ_ _ e s=>?_));obtain⟨b,_,g,rfl,c,V⟩:=s;have Z:=e.u1 Z;refine .R AR .p2 r (.L 92 r (.B (.dr xQ 7 (.W AM 1 r (.h r (.maxI r r r r .mk) (.K 2 r (.W AM 2 r (.h r (.minI r r r r .mk) (.X r ?_)))))))));refine .s1 D5 .p1 r (.O 3 r r r (.U r (.minI r r r r .mk) (.U r (.H AM .p2 r .mk) (.u 2 r r tv))) (.e2 7 (.D 1 92 r (.B (.M 1 r (.H AM .p1 r (.D 1 8388700 r (.A r V (λt V=>?_) λt V=>?_))))))))
 . exact .F (.bd BZ EV GP r (.R AR .z r (.L 64 r (.drop .p1 (.drop .p1 (.J (B6 r (.w BI AR r .z r .n) e ⟨CK,_,_,r,(.nil _ _ _),V⟩)))))))
 refine .O 92 r (.F (.S BI AR .p2 r (.H AM .p1 r (.q call211 (aO c V:) r λd V=>.G 5 r (.ns 220 r (.S BI AR .p2 r (.G 1 r (.q call211 (aO c V:) r λa V=>?_))))))));refine .D 5 732 r (.B (.dr AsW 9 (.K 1 r (.W AM 2 r (.K 1 r (.W HF 2 r (.K 2 r ?_)))))));have⟨l,_,_,V⟩:=V;have i:Int.toNat d.1<=Int.toNat a.1:=by omega
 have j:Int.toNat a.1<=b.Items.length:=by omega
 have⟨_,_,m,p,k⟩:=RepSl.sliceW c (Int.toNat d.1) (Int.toNat a.1) g i j (.inl rfl);refine .h r (.sliceW (L:=Int.toNat d.1) (H:=Int.toNat a.1) (cm:=g) DB D4 r r c.1 r r r (.inr ⟨_,_,r,l,r⟩) (.inr ⟨_,_,r,(by omega),r⟩) (.inl r) i j r m p r r .mk) (.h r (.bd BZ EV GP r .mk) (.X r (.al BZ r λ_=>?_)));refine .v 4 r (.U r (.bd BZ EV GP r .mk) (.U r (.sliceW (L:=Int.toNat d.1) (H:=Int.toNat a.1) (cm:=g) DB D4 r r c.1 r r r (.inr ⟨_,_,r,l,r⟩) (.inr ⟨_,_,r,(by omega),r⟩) (.inl r) i j r m p r r .mk) (.u 2 r r (.U r (.H HF .p3 r .mk) (.u 1 r r (.U r (.H AM .p3 r .mk) (.u 1 r r tv))))))) (.e2 9 (.R AR .z r (.L 2132 r (.drop .p3 (.F (.S BI AR .z r (.mkFn r r r r ?_)))))));refine .x (.f call307 r) (.o [2] r) r (rC (a0:=({ N:=b.N,Items:=((b.Items.take a.1.toNat).drop d.1.toNat) }:Vec)) (b2:=C) k V:) λ_ _ _ y A=>?_;obtain⟨D,_,_,rfl,E,rfl,V⟩:=A;have⟨B,k⟩:=y.u2 e k;refine .rn 3 r (.al BZ r λ_=>.R AR .z r (.L 4180 r (.drop .p2 (.M 1 r (.H AM .p1 r (.G 2 r (.s1 D5 .z r (.L 4160 r (.drop .p1 (.F ?_))))))))));exact .S BI AR .z r (.R AR .p1 r (.L 64 r (.drop .z (.J (B6 r (.w BI AR r .z r .n) B ⟨({ N:=AJ ((if b.N<a2 then b.N else a2) - (if 0 > a1 then 0 else a1)),Items:=D.Items }:Vec),_,_,r,E,V⟩)))))
theorem zW {a0 a1 a2 a3 a4 a5 Q} (V:RepSl BX I p1 c2 a0.Items) (D:WB a0 a1 a2 a3 a4 a5 Q) :
  B7 prog 253 [.agg #[vi a0.N,.slice p1 a0.Items.length c2],vi a1,vi a2,vi a3,vi a4,vi a5] I (AwJ Q):=by
 refine Fun.ee func253 ntmps253 r (.F (.y r λ_=>.al BZ r λ_=>.L 4222 r (.B (.B (.dr Az7 25 (.K 1 r (.X r (.q call232 (eL (I:=I) D:) r λ_ D=>.v 2 r tv (.K 2 r ?_)))))))));refine DG D (λd D=>?_) λd D=>?_
 . refine .gn r d (.gn r d (.gn r d (.gn r d (.gn r d (.gn r d (.h r (.pickT r d r r r .mk) (.K 14 r (.e2 25 (.L 549755818110 r ?_)))))))));exact .Q r r (.F (.bd BZ EV GP r (.R AR .z r (.L 4096 r (.drop .p1 (.J (B6 r (.w BI AR r .z r .n) rf ⟨CK,_,_,r,(.nil _ _ _),D⟩)))))))
 refine .h r (.N r r d (.AD r r r .mk)) (.h r (.N r r d (.AD r r r .mk)) (.h r (.N r r d (.AD r r r .mk)) (.h r (.N r r d (.AD r r r .mk)) (.X r ?_))));refine .N r r d (.AC call153 r (aJ (I:=I) D:) r r λ_ k=>?_);obtain⟨_,rfl,D⟩:=k;refine .v 2 r tv (.h r (.N r r d (.not r r r .mk)) (.h r (.pickF r d r r r .mk) (.K 1 r ?_)));refine DG D (λe D=>?_) λe D=>?_
 . refine .gn r e (.gn r e (.gn r e (.h r (.pickT r e r r r .mk) (.K 9 r (.e2 25 (.L 549755818110 r (.Q r r (.F (.bd BZ EV GP r ?_)))))))));exact .R AR .z r (.L 4096 r (.drop .p1 (.J (B6 r (.w BI AR r .z r .n) rf ⟨CK,_,_,r,(.nil _ _ _),D⟩))))
 refine .h r (.N r r e (.S BI AR .p1 r .mk)) (.X r ?_);refine .N r r e (.AC call141 r (FX V D:) r r λ_ m=>?_);obtain⟨_,rfl,D⟩:=m;refine .v 2 r tv (.h r (.N r r e (.not r r r .mk)) (.h r (.pickF r e r r r .mk) (.K 1 r ?_)));refine DG D (λc D=>?_) λc D=>?_
 . refine .gn r c (.gn r c (.gn r c (.gn r c (.gn r c (.gn r c (.gn r c (.h r (.pickT r c r r r .mk) (.e2 25 (.L 549755818110 r ?_)))))))));exact .Q r r (.F (.bd BZ EV GP r (.R AR .z r (.L 4096 r (.drop .p1 (.J (B6 r (.w BI AR r .z r .n) rf ⟨CK,_,_,r,(.nil _ _ _),D⟩)))))))
 refine .h r (.N r r c (.fo EV 0 r D5 .mk)) (.h r (.N r r c (.H AM .p1 r .mk)) (.h r (.N r r c (.AD r r r .mk)) (.h r (.N r r c (.AD r r r .mk)) (.h r (.N r r c (.AD r r r .mk)) (.X r ?_)))));refine .N r r c (.AC call292 r (Ah4 (I:=I) D:) r r λ_ q=>?_);obtain⟨_,rfl,D⟩:=q;refine .v 2 r (.U r (.N r r c (.H AM .p1 r .mk)) (.U r (.N r r c (.fo EV 0 r D5 .mk)) tv)) (.h r (.N r r c (.ne r r r r .mk)) (.h r (.pickF r c r r r .mk) (.e2 25 (.L 549755818110 r (.A r D (λs D=>?_) λs D=>?_)))))
 . exact .F (.bd BZ EV GP r (.R AR .z r (.L 4096 r (.drop .p1 (.J (B6 r (.w BI AR r .z r .n) rf ⟨CK,_,_,r,(.nil _ _ _),D⟩))))))
 refine .O 4222 r (.M 3 r (.q call155 (J7 (I:=I) D:) r λ_ D=>.al gS r λ_=>.R gR .z r (.L 12394 r (.B (.dr [0,1,2,3,6,4,5,999] 7 (.h r (.S isAgg96 gR .z r .mk) (.K 3 r (.aP gS r (.X r (.q call155 (J7 (I:=I) D:) r λ_ D=>?_))))))))));refine .v 3 r (.U r (.S isAgg96 gR .z r .mk) tv) (.X r (.q call235 (eO (I:=I) D:) r λ_ D=>.v 3 r tv (.b r λ_=>DrawD.nop ?_)));refine .e2 7 (.R gR .p3 r (.ns 28736 r (.S BI AR .p2 r (.AA (i:=0) UY D5 r r (by decide) (o:=0) r r r (.H AM .p3 r (.AA (i:=0) UY D5 r r (by decide) (o:=0) r r r (.H AM .z r (.G 1 r (.AA (i:=1) UY D5 r r (by decide) (o:=1) r r r ?_)))))))));refine .H AM .p3 r (.AA (i:=0) UY D5 r r (by decide) (o:=0) r r r (.H AM .z r (.G 1 r ?_)));refine .ca call293 r (AdZ V D:) λ_ _ f y=>?_;obtain⟨A,_,_,rfl,B,D⟩:=y;have V:=f.u1 V;exact .R AR .p1 r (.L 4096 r (.drop .z (.drop .p1 (.drop .p1 (.J (B6 r (.w BI AR r .z r .n) f ⟨A,_,_,r,B,D⟩))))))
theorem gZ {a0 a1 Q} (J:PB a0 a1 Q) :
  B7 prog 70 [.agg #[vi a0.1,vi a0.2],.agg #[vi a1.1,vi a1.2]] I (λ_=>bE Q):=by
 refine Fun.ee func70 ntmps70 r (.F (.y r λ_=>.y r λ_=>?_));refine .D 1 12 r (.B (.dr Av1 12 (.h r (.AA (i:=0) wN D5 r r (by decide) (o:=0) r r r .mk) (.W AM 1 r (.h r (.AA (i:=0) wN D5 r r (by decide) (o:=0) r r r .mk) (.W AM 0 r (.h r (.AA (i:=1) wN D5 r r (by decide) (o:=1) r r r .mk) (.W AM 1 r (.h r (.AA (i:=1) wN D5 r r (by decide) (o:=1) r r r .mk) (.W AM 0 r (.X r ?_)))))))))));refine .q call72 (DJ (I:=I) J:) r λf J=>.v 2 r (.U r (.H AM .z r .mk) (.U r (.AA (i:=1) wN D5 r r (by decide) (o:=1) r r r .mk) (.U r (.H AM .p1 r .mk) (.U r (.AA (i:=1) wN D5 r r (by decide) (o:=1) r r r .mk) tv)))) (.X r (.q call72 (DJ (I:=I) J:) r λa J=>.v 2 r tv (.X r (.bs 2 B0 D5 pG r λ_=>?_))));exact .v 3 r tv (.X r (.pubB (El:=B2) (ys:=([f,a]:List Int)) (k:=2) .z (RepCs.cons (cs:=[vi f]) r (RepCs.cons (cs:=[vi a]) r .nil)) r λ_ d g=>.q call71 (MW g J:) r λj J=>.v 2 r tv (.e2 12 (.D 1 16 r (.drop .z (.drop .z (.r1 results70 r d ⟨j,r,J⟩)))))))
theorem eP {a0 Q} (U:RepSl B2 I p1 c2 a0) (J:K0 a0 Q) :
  B7 prog 73 [.slice p1 a0.length c2] I (λ_=>bE Q):=by
 refine Fun.ee func73 ntmps73 r (.F (.D 1 1 r (.B (.M 1 r (.ln B0 r (.D 1 129 r (.A r J (λk J=>?_) λk J=>?_)))))))
 . exact J.elim
 refine .O 1 r (.M 1 r ?_);have⟨m,_,e,_,_,n,f,J⟩:=U.ix J;refine .Y B0 D5 n m e r (.ldb 0 AM f r (.D 1 9 r (.B (.F (.D 1 25 r (.E (.lp J [0] [] r (λj E l (a,c)=>j ((3,vi a) :: (4,vi c) :: E) l) (ji rf [] r) ?_)))))));rintro⟨a,c⟩ _ J;refine jq r λ_ b=>?_;have U:=b.u1 U;refine .B (.M 2 r (.ln B0 r (.D 1 32793 r (.A r J (λg J=>?_) λg J=>?_))))
 . refine .O 25 r (.B (.E (.C (.G 3 r ?_))));have⟨p,d,h,_,_,q,i,J⟩:=U.ix J;exact .Y B0 D5 q p h r (.ldb 0 AM i r (.minI r r r r (.D 1 25 r (.C (.G 3 r (.I (je ((if d<a then d else a),AJ (c+1)) J b [] r)))))))
 exact .en 8 r (.F (.D 2 4 r (.r1 results73 r b ⟨a,r,J⟩)))
theorem PT {a0 Q} (h:RepSl NC I p1 c2 a0) (d:DY a0 Q) :
  yP prog 14 [.slice p1 a0.length c2] I (λ_ v l=>∃ r p4 c5,v=.slice p4 r.length c5∧l=[OwnSl NC 65 p4 c5 r]∧Q r):=by
 refine Fun.ee func14 ntmps14 r (.F (.D 1 1 r (.B (.M 1 r (.eqNilS ZU r r r r (.L 17 r ?_))))));refine split p1.isNone (λa=>?_) (λa=>?_)
 . have d:=d.1 (RepSl.ofNone h a);exact .Q r a (.F (.D 1 4 r (.own0 NC 65 (.q1 results14 rf [0] r ⟨([]:List ET),_,_,r,r,d⟩))))
 have d:=d.2;refine .j r a (.O 1 r (.F (.bs 0 ZU ZW AiQ r λ_=>.G 1 r (.ownB (El:=NC) (ys:=([]:List ET)) .z .nil r ?_))));have⟨b,d⟩:=d;exact .ap (ys:=a0) .z ZU ZU AwH r (.imm h r) b λ_ _=>.D 1 4 r (.q1 results14 rf [0] r ⟨(([]:List ET)++a0),_,_,r,r,d⟩)
theorem eQ {a0 a1 Q} (O:RepSl NC I p1 c2 a0.L) (h:K1 a0 a1 Q) :
  B7 prog 6 [.agg #[.slice p1 a0.L.length c2,.int .u8 a0.Windows],vi a1] I (λZ v=>∃ r p4 c5,v=.slice p4 r.length c5∧RepSl NC Z p4 c5 r∧Q r):=by
 refine Fun.ee func6 ntmps6 r (.F (.y r λ_=>.G 1 r (.V 6 1 r (.L 38 r (.B (.F (.D 1 102 r (.E (.own0 NC 65 (.lx h [2,1] [1] r (λj E l (a,e)=>λc w=>∃ f g,j ⟨48,[],none⟩ (λZ=>True) ((5,.slice f a.length g) :: (6,vi e) :: E) (OwnSl NC 65 f g a :: l) c w) (λc w U W=>⟨_,_,jf rf tv PR r U W⟩) ?_))))))))));rintro⟨a,e⟩ _ h c w ⟨f,g,d,b,_,a5,a6⟩;have O:=b.u1 O;refine Cod.at a5 a6 (.B (.M 2 r (.H isAgg34 .p1 r (.ln ZU r (.G 2 r (.T h [12,13] r (λn h=>?_) λn h=>?_))))))
 . refine .D 3 65638 r (.A r h (λo h=>?_) λo h=>?_)
   . refine .O 102 r (.B (.E (.M 1 r (.H isAgg34 .p1 r (.G 1 r ?_)))));have⟨H,_,p,_,_,J,q,h⟩:=O.ix h;refine .Y ZU ZW J H p r (.ldW isAgg65 ZW q r r r r (.al AiQ r λ_=>.R ZW .z r (.V 230 1 r (.H isAgg63 .z r (.q call17 (FB (I:=d) h:) r λa4 h=>.G 2 r (.s1 sizeOf63 .z r (.V 230 1 r (.H AM .z r (.G 1 r (.q call17 (FB (I:=d) h:) r λi h=>?_))))))))));refine .G 1 r (.s1 D5 .z r (.V 230 1 r (.H AM .z r (.G 1 r (.q call17 (FB (I:=d) h:) r λk h=>.G 1 r (.s1 D5 .z r (.V 230 1 r (.H AM .z r (.q call17 (FB (I:=d) h:) r λm h=>?_)))))))));refine .G 1 r (.s1 D5 .z r (.L 230 r (.C (.G 1 r (.S isAgg65 ZW .z r (.bs 1 ZU ZW AiQ r λ_=>?_))))));have⟨y,h⟩:=h;exact .ap (ys:=[({ Kind:=AJ (a4+1),A:=i,B:=k,K:=m }:ET)]) .p2 ZU ZU AwH r (.box .z (.one r) r) y λ_ _=>.D 1 102 r (.drop .p1 (.drop .p1 (.C (.G 3 r (.I λc w U W=>⟨_,h,_,_,jf b tv PR r U W⟩)))))
   refine .en 32 r (.drop .p1 (.F (.D 2 16 r (.pub .z λ_ C N=>?_))));have D:=C.u1 b;exact .r1 results6 r D ⟨a,_,_,r,N,h⟩
 refine .D 3 65638 r (.j r r (.en 32 r (.drop .p1 (.F (.D 2 16 r (.pub .z λ_ F a2=>?_))))));have G:=F.u1 b;exact .r1 results6 r G ⟨a,_,_,r,a2,h⟩
theorem yB {a0 a1 Q} (R3:RepSl B2 I p1 c2 a0.Draws) (W:RepSl CC I p4 c5 a1.Edges) (V:TD a0 a1 Q) :
  B7 prog 79 [.agg (F0 a0 p1 c2),.agg #[vi a1.N,.slice p4 a1.Edges.length c5]] I (λZ v=>∃ r p7 c8,v=.agg #[vi r.N,.slice p7 r.Edges.length c8]∧RepSl CC Z p7 c8 r.Edges∧Q r):=by
 refine Fun.ee func79 ntmps79 r (.F (.y r λ_=>.y r λ_=>.al YL r λ_=>.L 28 r (.B (.M 1 r (.H VL .p2 r (.L 88 r (.drop .p2 (.E (.B (.E (.B ?_)))))))))));refine .E (.B (.E (.B (.B (.F (.D 2 216 r (.A r V (λh V=>?_) λh V=>?_)))))))
 . refine .en 24 r (.C (.S FH CV .p1 r ?_));refine .ca call124 r (eH W V:) λ_ _ a j=>?_;obtain⟨_,_,_,rfl,b,V⟩:=j;have W:=a.u1 W;refine .R CV .p1 r (.L 24 r (.C (.S FH CV .p1 r ?_)));refine .ca call125 r (TN b V:) λ_ _ l m=>?_;obtain⟨_,_,_,rfl,c,V⟩:=m;have⟨o,b⟩:=l.u2 a b;refine .R CV .p1 r (.L 24 r (.B (.F (.S FH CV .p1 r ?_))));refine .ca call126 r (KS c V:) λ_ _ q s=>?_;obtain⟨K,_,_,rfl,L,V⟩:=s;have⟨t,c⟩:=q.u2 o c;exact .R CV .z r (.L 16 r (.drop .p1 (.J (B6 r (.w FH CV r .z r .n) t ⟨K,_,_,r,L,V⟩))))
 refine .O 88 r (.B (.F (.D 2 600 r (.A r V (λu V=>?_) λu V=>?_))))
 . refine .en 24 r (.C (.S FH CV .p1 r ?_));refine .ca call125 r (TN W V:) λ_ _ d y=>?_;obtain⟨_,_,_,rfl,e,V⟩:=y;have W:=d.u1 W;refine .R CV .p1 r (.L 24 r (.B (.F (.S FH CV .p1 r ?_))));refine .ca call126 r (KS e V:) λ_ _ B C=>?_;obtain⟨O,_,_,rfl,P,V⟩:=C;have⟨D,e⟩:=B.u2 d e;exact .R CV .z r (.L 16 r (.drop .p1 (.J (B6 r (.w FH CV r .z r .n) D ⟨O,_,_,r,P,V⟩))))
 refine .O 88 r (.F (.D 2 2072 r (.A r V (λE V=>?_) λE V=>?_)))
 . refine .en 24 r (.B (.F (.S FH CV .p1 r ?_)));refine .ca call126 r (KS W V:) λ_ _ f G=>?_;obtain⟨R,_,_,rfl,S,V⟩:=G;have W:=f.u1 W;exact .R CV .z r (.L 16 r (.drop .p1 (.J (B6 r (.w FH CV r .z r .n) f ⟨R,_,_,r,S,V⟩))))
 refine .O 24 r (.en 24 r (.F (.S FH CV .p1 r ?_)));refine .ca call128 r (NL W V:) λ_ _ g J=>?_;obtain⟨T,_,_,rfl,U,V⟩:=J;have W:=g.u1 W;exact .R CV .z r (.L 16 r (.drop .p1 (.J (B6 r (.w FH CV r .z r .n) g ⟨T,_,_,r,U,V⟩))))
theorem yC {a0 a1 Q} (V:RepSl B2 I p1 c2 a0.Draws) (W:RepSl CC I p4 c5 a1.Edges) (U:TE a0 a1 Q) :
  B7 prog 43 [.agg (F0 a0 p1 c2),.agg #[vi a1.N,.slice p4 a1.Edges.length c5]] I (λZ v=>∃ r p7 c8,v=.tuple #[.slice p7 r.1.length c8,vi r.2]∧RepSl CC Z p7 c8 r.1∧Q r):=by
 refine Fun.ee func43 ntmps43 r ?_;refine .F (.y r λ_=>.y r λ_=>?_);refine .D 2 12 r (.B (.F (.S FV F9 .p1 r (.S FH CV .z r (.ca call78 r (XH V W U:) λ_ _ a c=>?_)))));obtain⟨i,_,rfl,_,U⟩:=c;have⟨V,W⟩:=a.u2 V W;refine .G 3 r (.al OL r λ_=>.R BJ .z r (.D 1 140 r (.drop .z (.F (.D 2 32908 r (.A r U (λd U=>?_) λd U=>?_))))))
 . exact .F (.D 3 48 r (.drop .z (.drop .z (.J (B6 r (.t r (.t r .n)) a ⟨(([]:List B5),i.2),_,_,r,(.nil _ _ _),U⟩)))))
 refine .O 12 r (.F (.S FV F9 .p1 r (.S FH CV .z r ?_)));refine .ca call79 r (yB V W U:) λ_ _ f g=>?_;obtain⟨j,_,_,rfl,k,U⟩:=g;have⟨h,V,W⟩:=f.u3 a V W;exact .field1 AcX r VM r r r r (.D 2 48 r (.drop .z (.drop .z (.J (B6 r (.t r (.t r .n)) h ⟨(j.Edges,0),_,_,r,k,U⟩)))))
theorem yD {a0 a1 Q} (O:RepSl B2 I p1 c2 a0.Draws) (J:X6 I gf4 a1) (h:ZE a0 a1 Q) :
  B7 prog 202 [.agg (F0 a0 p1 c2),.agg (EO a1 gf4)] I (λ_=>dJ Q):=by
 refine Fun.ee func202 ntmps202 r (.F (.y r λ_=>.y r λ_=>.G 1 r (.V 12 1 r (.H AM .z r (.G 2 r (.T h [7,8] r (λa h=>?_) λa h=>?_))))))
 . refine .G 1 r (.P r (.H AM .z r (.G 1 r (.P r (.H AM .p1 r (.G 3 r (.T h [13,14,15] r (λb h=>?_) λb h=>?_)))))))
   . refine .G 1 r (.P r (.H F3 .z r (.P r (.ln DU r (.G 1 r (.P r (.H AM .p1 r (.G 3 r (.T h [21,22,23] r (λc h=>?_) λc h=>?_)))))))))
     . refine .G 1 r (.P r (.H F3 .z r (.P r (.ln DU r (.G 1 r (.P r (.H AM .p1 r (.G 3 r (.T h [29,30,31] r (λd h=>?_) λd h=>?_)))))))))
       . refine .G 1 r (.P r (.H OS .z r (.G 1 r (.P r (.H AM .p1 r ?_)))));refine .P r (.AC call201 r (XI J.2.2 h:) r r λ_ f=>?_);obtain⟨g,rfl,h⟩:=f;exact .D 2 16 r (.drop .z (.drop .z (.r0 results202 r ⟨g,r,h⟩)))
       exact .D 7 16 r (.drop .z (.drop .z (.r0 results202 r ⟨false,r,h⟩)))
     exact .D 15 16 r (.drop .z (.drop .z (.r0 results202 r ⟨false,r,h⟩)))
   exact .D 23 16 r (.drop .z (.drop .z (.r0 results202 r ⟨false,r,h⟩)))
 exact .D 30 16 r (.drop .z (.drop .z (.r0 results202 r ⟨false,r,h⟩)))
theorem eR {o0 a0 Q} (h:RepSl B2 I p3 c4 o0.Draws) (d:O4 o0 a0 Q) :
  Fun prog 203 #[.agg (L9 a0).toArray,vp b2] I [pc b2 (F0 o0 p3 c4) 25] (λ_ v l=>∃ r,v=.bool r∧l=[pc b2 (F0 o0 p3 c4) 25]∧Q r):=by
 refine Fun.ee func203 ntmps203 r (.F (.y r λ_=>.G 1 r (.V 6 1 r (.H AM .z r (.G 1 r (.H AM .z r (.minI r r r r (.G 2 r (.T d [9,10] r (λa d=>?_) λa d=>?_)))))))))
 . exact .D 10 10 r (.drop .z (.q1 results203 rf [0] r ⟨true,r,r,d⟩))
 exact .G 1 r (.P r (.H AM .z r (.G 1 r (.P r (.H AM .z r (.P r (.maxI r r r r (.G 1 r (.P r (.H AM .p1 r (.D 3 10 r (.drop .z (.q1 results203 rf [0] r ⟨(decide (o0.N<=(if a0.To > a0.From then a0.To else a0.From))),r,r,d⟩)))))))))))))
theorem L7 {o0 a0 Q} (J:RepSl B2 I p3 c4 o0.Draws) (U:RepSl CC I p6 c7 a0) (h:DS o0 a0 Q) :
  Fun prog 259 #[.slice p6 a0.length c7,.func (.func 203) #[] #[vp b2]] I [pc b2 (F0 o0 p3 c4) 25] (λ_ v l=>∃ r,v=vi r∧l=[pc b2 (F0 o0 p3 c4) 25]∧Q r):=by
 refine Fun.ee func259 ntmps259 r (.F (.D 1 3 r (.B (.M 1 r (.ln H8 r (.D 1 387 r (.E (.lp h xO [0] r (λj E l d=>j ((8,vi d) :: E) l) (ji rf [0] r) ?_))))))));refine λd _ h=>jq r λ_ a=>?_;have⟨J,U⟩:=a.u2 J U;refine .F (.D 1 899 r (.B (.A r h (λf h=>?_) λf h=>?_)))
 . refine .O 387 r (.B (.E (.M 2 r (.V 419 3 r ?_))));have⟨p,_,g,_,_,q,b,h⟩:=U.ix h;refine .Y H8 CT q p g r (.ldW KM CT b r r r r ?_);refine .x (.c call203 r r) (.o [0] r) r (eR (b2:=b2) J h:) λ_ _ _ i k=>?_;obtain⟨_,rfl,rfl,h⟩:=k;have⟨e,J,U,b⟩:=i.u4 a J U b;refine .rn 1 r (.L 65955 r (.A r h (λm h=>?_) λm h=>?_))
   . exact .F (.D 2 18 r (.q1 results259 e [0] r ⟨d,r,r,h⟩))
   exact .O 387 r (.C (.G 2 r (.I (je (AJ (d+1)) h e [0] r))))
 exact .en 2 r (.F (.D 1 18 r (.q1 results259 a [0] r ⟨(-1),r,r,h⟩)))
theorem JG {o0 a0 Q} (h:RepSl B2 I p3 c4 o0.Draws) (J:RepSl CC I p6 c7 a0) (O:DA o0 a0 Q) :
  Fun prog 189 #[.slice p6 a0.length c7,.func (.func 203) #[] #[vp b2]] I [pc b2 (F0 o0 p3 c4) 25] (λ_ v l=>∃ r,v=.bool r∧l=[pc b2 (F0 o0 p3 c4) 25]∧Q r):=by
 refine Fun.ee func189 ntmps189 r ?_;refine .M 1 r (.V 3 2 r ?_);refine .x (.f call259 r) (.o [0] r) r (L7 (b2:=b2) h J O:) λ_ _ _ a b=>?_;obtain⟨d,rfl,rfl,O⟩:=b;have⟨h,J⟩:=a.u2 h J;exact .rn 1 r (.D 2 18 r (.q1 results189 a [0] r ⟨(decide (0<=d)),r,r,O⟩))
theorem yE {a0 a1 a2 Q} (J:RepSl B2 I p1 c2 a0.Draws) (U:RepSl CC I p4 c5 a1) (W:X6 I gf7 a2) (d:TF a0 a1 a2 Q) :
  B7 prog 135 [.agg (F0 a0 p1 c2),.slice p4 a1.length c5,.agg (EO a2 gf7)] I (λ_=>bE Q):=by
 refine Fun.ee func135 ntmps135 r (.F (.y r λj=>.y r λ_=>.D 1 42 r (.B (.F (.S FV F9 .p1 r (.q call80 (TL J d:) r λk d=>.G 1 r (.V 170 2 r (.L 2218 r (.A r d (λc d=>?_) λc d=>?_)))))))))
 . exact .F (.D 2 64 r (.drop .z (.drop .z (.r0 results135 r ⟨k,r,d⟩))))
 refine .O 42 r (.B (.F (.S FV F9 .p1 r (.S FW CJ .z r (.q call202 (yD J W d:) r λ_ d=>.D 1 65546 r (.drop .z (.A r d (λe d=>?_) λe d=>?_)))))))
 . exact .F (.D 1 64 r (.drop .z (.r0 results135 r ⟨4,r,d⟩)))
 refine .O 10 r (.B (.M 1 r (.mkFn r r r r ?_)));refine .x (.f call189 r) (.o [0] r) r (JG (b2:=j) J U d:) λ_ _ _ a h=>?_;obtain⟨_,rfl,rfl,d⟩:=h;have⟨J,U⟩:=a.u2 J U;refine .rn 1 r (.L 524288 r (.drop .z (.A r d (λi d=>?_) λi d=>?_)))
 . exact .F (.D 1 64 r (.r1 results135 r a ⟨3,r,d⟩))
 exact .O 0 r (.F (.D 1 64 r (.r1 results135 r a ⟨0,r,d⟩)))
theorem SK {a0 a1 a2 a3 Q} (U:RepSl B2 I p1 c2 a0.Draws) (V:RepSl CC I p4 c5 a1) (W:X6 I gf7 a2) (J:HC a0 a1 a2 a3 Q) :
  Fun prog 47 #[.agg (F0 a0 p1 c2),.slice p4 a1.length c5,.agg (EO a2 gf7),vi a3] I [] (λZ v l=>∃ r b9 p10 c11 b13 b15 b16,v=.func (.func 93) #[] #[vp b9,vp b13,vp b16]∧RepSl CC Z p10 c11 r.1∧l=[pc b9 #[.slice p10 r.1.length c11] 26,pc b13 #[.map (some b15)] 185,OwnMap vi B2 false b15 r.2.1,pc b16 #[vi r.2.2] 187]∧Q r):=by
 refine Fun.ee func47 ntmps47 r (.F (.y r λb15=>.box1 r r r r λ_=>.y r λ_=>.G 1 r (.ns 120 r (.mkMap vi B2 false r r λy=>.alloc1 zeroValue185 r r r λ_=>.s1 sizeOf185 .z r (.L 632 r (.B (.F (.S FV F9 .p4 r (.S FW CJ .p2 r (.G 1 r ?_))))))))));refine .ca call91 r (yA U W J:) λ_ _ e h=>?_;obtain⟨_,_,_,rfl,c,J⟩:=h;have⟨U,V,W⟩:=e.u3 U V W;refine .field1 EV r HF r r r r (.ln DB r (.D 1 1835576 r (.drop .p2 (.E (.lp J [19,18,9,5,4,3] [3,2,0] r (λj E l (b,d)=>j ((20,vi d) :: E) (OwnMap vi B2 false y b :: l)) (ji rf [1,2,1,0] r) ?_)))));rintro⟨b,d⟩ _ J;refine jq r λq f=>?_;have⟨i,U,V,c⟩:=f.u4 e U V c;refine .F (.D 1 3932728 r (.B (.A r J (λm J=>?_) λm J=>?_)))
 . refine .O 1835576 r (.B (.E (.F ?_)));have⟨t,a,n,_,_,u,o,J⟩:=c.ix J;refine .Y DB D4 u t n r (.ldW T2 D4 o r r r r (.al JL r λ_=>.R D4 .z r (.L 1837624 r (.C (.H isAgg185 .p4 r (.G 1 r (.H AM .z r (.G 1 r (.H PN .z r (.updM (k:=a.At) (El:=B2) (ag:=false) (v:=a.Val) (JQ lK) underlying185 .p1 r r r ⟨[vi a.Val],r,.s⟩ (.L 1835576 r ?_)))))))))));exact .drop .z (.C (.G 2 r (.I (je ((EJ a.At a.Val b),AJ (d+1)) J f SH r))))
 exact .en 568 r (.M 1 r (.H VL .p1 r (.G 1 r (.q call92 (SI (I:=q) J:) r λw J=>.alloc1 zeroValue187 r r r λ_=>.s1 sizeOf187 .z r (.L 4640 r (.drop .p2 (.F (.mkFn r r r r (.D 1 256 r (.q1 results47 i [2,2,1,0] r ⟨(a1,b,w),_,_,_,_,_,_,r,V,r,J⟩))))))))))
theorem hM {a0 Q} (h:PC a0 Q) :
  Fun prog 138 #[vi a0] I [] (λ_ v l=>∃ r d b2 b3,v=.tuple #[.func (.func 204) #[] #[vp d,vp b2,vp b3],.func (.func 206) #[] #[vp b3,vp d]]∧l=[pc d #[.bool r.1] 4,pc b2 #[vi r.2.1] 187,pc b3 #[vi r.2.2.Hi,.int .u64 r.2.2.Lo] 191]∧Q r):=by
 refine Fun.ee func138 ntmps138 r (.F (.box1 r r r r λb3=>.G 2 r (.ns 2 r (.al GF r λ_=>.ns 18 r (.alloc1 zeroValue4 r r r λ_=>?_)))));exact .s1 sz4 .z r (.ns 50 r (.mkFn r r r r (.mkFn r r r r (.D 2 12 r (.J (DF r (.t r (.t r .n)) rf (.o zN r) ⟨(false,a0,NW),_,_,_,r,r,h⟩))))))
theorem bU {o0 o1 o2 a0 Q} (d:N5 o0 o1 o2 a0 Q) :
  Fun prog 204 #[.agg (F5 a0).toArray,vp b4,vp b5,vp b6] I [pc b4 #[.bool o0] 4,pc b5 #[vi o1] 187,pc b6 #[vi o2.Hi,.int .u64 o2.Lo] 191] (λ_ v l=>∃ r,v=.tuple #[]∧l=[pc b4 #[.bool r.1] 4,pc b5 #[vi o1] 187,pc b6 #[vi r.2.Hi,.int .u64 r.2.Lo] 191]∧Q r):=by
 refine Fun.ee func204 ntmps204 r (.F (.y r λ_=>.L 30 r (.B (.F (.H ia4 .p1 r (.L 62 r (.A r d (λa d=>?_) λa d=>?_)))))))
 . exact .C (.H dM .p2 r (.S C0 B9 .p3 r (.S C0 B9 .z r (.q call205 (aI (I:=I) d:) r λc d=>.R B9 .z r (.L 26 r (.C (.S C0 B9 .z r (.R B9 .p3 r (.s1 sz4 .p1 r (.I (FR r .n rf (.o nl8 r) ⟨(true,c),r,r,d⟩)))))))))))
 exact .O 26 r (.C (.S C0 B9 .z r (.R B9 .p3 r (.s1 sz4 .p1 r (.I (FR r .n rf (.o nl8 r) ⟨(true,a0),r,r,d⟩))))))
theorem bV {o0 o1 Q} (d:N6 o0 o1 Q) :
  Fun prog 206 #[vp b3,vp b4] I [pc b3 #[vi o0.Hi,.int .u64 o0.Lo] 191,pc b4 #[.bool o1] 4] (λ_ v l=>∃ r,v=.tuple #[.agg (F5 r.1).toArray,.bool r.2]∧l=[pc b3 #[vi o0.Hi,.int .u64 o0.Lo] 191,pc b4 #[.bool o1] 4]∧Q r):=by
 refine Fun.ee func206 ntmps206 r (.F (.al GF r λ_=>.D 1 7 r (.B (.dr [0,1,2] 3 (.h r (.S C0 B9 .p1 r .mk) (.W ia4 2 r (.X r ?_)))))));exact .R B9 .z r (.O 3 r r r (.U r (.H ia4 .p2 r .mk) tv) (.e2 3 (.D 1 15 r (.J (DF r (.w C0 B9 r .z r (.t r .n)) rf (.o [1,1] r) ⟨(o0,o1),r,r,d⟩)))))
theorem zX {a0 a1 a2 Q} (Z:RepSl W3 I p1 c2 a2) (W:WC a0 a1 a2 Q) :
  B7 prog 89 [vi a0,vi a1,.slice p1 a2.length c2] I (λ_ v=>∃ r,v=.tuple #[vi r.1,.bool r.2.1,vi r.2.2]∧Q r):=by
 refine Fun.ee func89 ntmps89 r (.M 3 r (.V 7 2 r (.q call92 (SI (I:=I) W:) r λ_ W=>.D 1 516 r (.B (.F (.D 2 4194820 r (.A r W (λP W=>?_) λP W=>?_)))))))
 . exact .F (.D 3 448 r (.J (B6 r (.t r (.t r (.t r .n))) rf ⟨(0,false,8),r,W⟩)))
 refine .O 516 r (.M 1 r ?_);refine .x (.f call138 r) .n r (hM (I:=I) W:) λ_ _ _ h S=>?_;obtain⟨_,i,Y,k,rfl,rfl,W⟩:=S;have Z:=h.u1 Z;refine .rn 3 r (.D 5 3588 r (.B (.M 1 r (.ln underlying178 r (.D 1 1879051776 r (.E (.lp W [29,28,11,10,9] [1] r (λj E l (m,p,q,d)=>j ((30,vi d) :: E) (pc i #[.bool m] 4 :: pc k #[vi p,.int .u64 q] 191 :: l)) (ji rf zN r) ?_)))))));rintro⟨m,p,q,d⟩ _ W;refine jq r λs b=>?_;have⟨g,Z⟩:=b.u2 h Z;refine .F (.D 1 4026535424 r (.B (.A r W (λw W=>?_) λw W=>?_)))
 . refine .O 1879051776 r (.B (.E (.F ?_)));have⟨T,_,x,_,_,U,y,W⟩:=Z.ix W;refine .Y underlying178 B9 U T x r (.ldW C0 B9 y r r r r (.al GF r λ_=>?_));refine .R B9 .z r (.L 1879059968 r (.C (.G 1 r (.S C0 B9 .z r ?_))));refine .x (.c call204 r r) (.o [1,2,1] r) r (bU (I:=s) (b4:=i) (b5:=Y) (b6:=k) W:) λ_ _ _ B C=>?_;obtain⟨e,rfl,rfl,W⟩:=C;have⟨_,D,Z⟩:=B.u3 g b Z;exact .rn 4 r (.L 1879051776 r (.drop .p3 (.C (.G 2 r (.I (je (e.1,e.2.Hi,e.2.Lo,AJ (d+1)) W D zN r))))))
 refine .en 2560 r (.drop .p2 (.M 1 r ?_));refine .x (.c call206 r r) (.o tG r) r (bV (I:=s) (b3:=k) (b4:=i) W:) λ_ u _ G H=>?_;obtain⟨_,rfl,rfl,W⟩:=H;have⟨a,_⟩:=G.u2 g b;refine .rn 2 r (.G 3 r (.al GF r λ_=>.R B9 .z r (.D 1 49664 r (.drop .p1 (.drop .p1 (.B (.F (.D 2 17592186061312 r (.A r W (λJ W=>?_) λJ W=>?_)))))))))
 . exact .F (.D 3 448 r (.drop .z (.J (B6 r (.t r (.t r (.t r .n))) a ⟨(0,false,0),r,W⟩))))
 refine .O 16896 r (.F (.S C0 B9 .z r (.q call139 (iW (I:=u) W:) r λV W=>.D 5 197120 r (.drop .z (.B (.E (.F (.D 3 1125899906908672 r (.A r W (λL W=>?_) λL W=>?_)))))))))
 . exact .F (.D 3 448 r (.J (B6 r (.t r (.t r (.t r .n))) a ⟨(0,false,12),r,W⟩)))
 refine .M 2 r (.q call140 (sQ (I:=u) W:) r λ_ W=>.D 2 9007199254806528 r (.A r W (λO W=>?_) λO W=>?_))
 . exact .F (.D 3 448 r (.J (B6 r (.t r (.t r (.t r .n))) a ⟨(0,false,0),r,W⟩)))
 exact .O 65536 r (.F (.D 4 448 r (.J (B6 r (.t r (.t r (.t r .n))) a ⟨(V.1,true,0),r,W⟩))))
theorem YT {a0 a1 Q} (U:RepSl B2 I p1 c2 a0) (V:RepSl B2 I p4 c5 a1) (J:LW a0 a1 Q) :
  B7 prog 48 [.slice p1 a0.length c2,.slice p4 a1.length c5] I (λ_=>dJ Q):=by
 refine Fun.ee func48 ntmps48 r (.F (.D 1 3 r (.B (.M 1 r (.ln DU r (.G 1 r (.ln DU r (.D 1 1027 r (.A r J (λk J=>?_) λk J=>?_)))))))))
 . exact .F (.D 1 16 r (.r0 results48 r ⟨false,r,J⟩))
 refine .O 3 r (.B (.F (.D 1 35 r (.E (.lp J tG [] r (λj E l b=>j ((5,vi b) :: E) l) (ji rf [] r) ?_)))));refine λb _ J=>jq r λ_ a=>?_;have⟨U,V⟩:=a.u2 U V;refine .B (.M 2 r (.ln DU r (.D 1 16419 r (.A r J (λc J=>?_) λc J=>?_))))
 . refine .O 35 r (.B (.E (.B (.dr AsW 9 (.K 2 r ?_)))));have⟨n,_,d,_,_,o,e,J⟩:=U.ix J;refine .h r (.Y DU dK o n d r .mk) (.h r (.ldb 0 PN e r .mk) (.K 2 r ?_));have⟨p,_,f,_,_,q,g,J⟩:=V.ix J;refine .h r (.Y DU dK q p f r .mk) (.h r (.ldb 0 PN g r .mk) (.K 1 r (.e2 9 (.L 33554467 r (.A r J (λi J=>?_) λi J=>?_)))))
   . exact .F (.D 1 16 r (.r1 results48 r a ⟨false,r,J⟩))
   exact .O 35 r (.C (.G 3 r (.I (je (AJ (b+1)) J a [] r))))
 exact .en 0 r (.F (.D 1 16 r (.r1 results48 r a ⟨true,r,J⟩)))
theorem Ae0 {a0 a1 Q} (U:RepSl JT I p1 c2 a0) (V:RepSl JT I p4 c5 a1) (J:ZF a0 a1 Q) :
  B7 prog 49 [.slice p1 a0.length c2,.slice p4 a1.length c5] I (λ_=>dJ Q):=by
 refine Fun.ee func49 ntmps49 r (.F (.D 1 3 r (.B (.M 1 r (.ln UW r (.G 1 r (.ln UW r (.D 1 1027 r (.A r J (λk J=>?_) λk J=>?_)))))))))
 . exact .F (.D 1 16 r (.r0 results49 r ⟨false,r,J⟩))
 refine .O 3 r (.B (.F (.D 1 35 r (.E (.lp J tG [] r (λj E l b=>j ((5,vi b) :: E) l) (ji rf [] r) ?_)))));refine λb _ J=>jq r λ_ a=>?_;have⟨U,V⟩:=a.u2 U V;refine .B (.M 2 r (.ln UW r (.D 1 16419 r (.A r J (λc J=>?_) λc J=>?_))))
 . refine .O 35 r (.B (.E (.B (.dr AsW 9 (.K 2 r ?_)))));have⟨n,_,d,_,_,o,e,J⟩:=U.ix J;refine .h r (.Y UW GD o n d r .mk) (.h r (.ldb 0 EC e r .mk) (.K 2 r ?_));have⟨p,_,f,_,_,q,g,J⟩:=V.ix J;refine .h r (.Y UW GD q p f r .mk) (.h r (.ldb 0 EC g r .mk) (.K 1 r (.e2 9 (.L 33554467 r (.A r J (λi J=>?_) λi J=>?_)))))
   . exact .F (.D 1 16 r (.r1 results49 r a ⟨false,r,J⟩))
   exact .O 35 r (.C (.G 3 r (.I (je (AJ (b+1)) J a [] r))))
 exact .en 0 r (.F (.D 1 16 r (.r1 results49 r a ⟨true,r,J⟩)))
theorem Ae1 {a0 a1 Q} (O:X6 I gf1 a0) (U:X6 I gf3 a1) (J:ZG a0 a1 Q) :
  B7 prog 22 [.agg (EO a0 gf1),.agg (EO a1 gf3)] I (λ_=>dJ Q):=by
 refine Fun.ee func22 ntmps22 r (.F (.y r λ_=>.y r λ_=>.G 1 r (.V 12 1 r (.H AM .p1 r (.G 1 r (.H AM .z r (.G 2 r (.T J [9,10] r (λa J=>?_) λa J=>?_))))))))
 . refine .G 1 r (.P r (.H AM .p1 r (.G 1 r (.P r (.H AM .z r (.G 3 r (.T J [15,16,17] r (λb J=>?_) λb J=>?_)))))))
   . refine .G 1 r (.P r (.H F3 .p1 r (.G 1 r (.P r (.H F3 .z r ?_)))));refine .P r (.AC call48 r (YT O.1 U.1 J:) r r λ_ d=>?_);obtain⟨_,rfl,J⟩:=d;refine .G 2 r (.T J [22,23,24] r (λe J=>?_) λe J=>?_)
     . refine .G 1 r (.P r (.H F3 .p1 r (.G 1 r (.P r (.H F3 .z r ?_)))));refine .P r (.AC call48 r (YT O.2.1 U.2.1 J:) r r λ_ g=>?_);obtain⟨_,rfl,J⟩:=g;refine .G 2 r (.T J [29,30,31] r (λh J=>?_) λh J=>?_)
       . refine .G 1 r (.P r (.H OS .p1 r (.G 1 r (.P r (.H OS .z r ?_)))));refine .P r (.AC call49 r (Ae0 O.2.2 U.2.2 J:) r r λ_ j=>?_);obtain⟨k,rfl,J⟩:=j;exact .D 2 16 r (.drop .z (.drop .z (.r0 results22 r ⟨k,r,J⟩)))
       exact .D 7 16 r (.drop .z (.drop .z (.r0 results22 r ⟨false,r,J⟩)))
     exact .D 14 16 r (.drop .z (.drop .z (.r0 results22 r ⟨false,r,J⟩)))
   exact .D 21 16 r (.drop .z (.drop .z (.r0 results22 r ⟨false,r,J⟩)))
 exact .D 28 16 r (.drop .z (.drop .z (.r0 results22 r ⟨false,r,J⟩)))
theorem Ae2 {a0 a1 Q} (J:X6 I gf1 a0.State) (O:X6 I gf3 a1.State) (h:ZH a0 a1 Q) :
  B7 prog 9 [.agg (fT a0 gf1),.agg (fT a1 gf3)] I (λ_=>dJ Q):=by
 refine Fun.ee func9 ntmps9 r (.F (.y r λ_=>.y r λ_=>.G 1 r (.V 12 1 r (.H isAgg44 .p1 r (.G 1 r (.H isAgg44 .z r (.G 2 r (.T h [9,10] r (λa h=>?_) λa h=>?_))))))))
 . refine .G 1 r (.P r (.H AM .p1 r (.G 1 r (.P r (.H AM .z r (.G 3 r (.T h [15,16,17] r (λb h=>?_) λb h=>?_)))))))
   . refine .G 1 r (.P r (.Z FW CJ r .p1 (.o 5 r) r r r (.G 1 r (.P r (.Z FW CJ r .z (.o 5 r) r r r ?_)))));refine .P r (.AC call22 r (Ae1 J O h:) r r λ_ d=>?_);obtain⟨e,rfl,h⟩:=d;exact .D 2 16 r (.drop .z (.drop .z (.r0 results9 r ⟨e,r,h⟩)))
   exact .D 7 16 r (.drop .z (.drop .z (.r0 results9 r ⟨false,r,h⟩)))
 exact .D 14 16 r (.drop .z (.drop .z (.r0 results9 r ⟨false,r,h⟩)))
theorem Ae3 {a0 a1 Q} (W:RepSl B2 I p1 c2 a0.Draws) (U:UH a0 a1 Q) :
  B7 prog 83 [.agg (F0 a0 p1 c2),vi a1] I (λ_=>o5_ Q):=by
 refine Fun.ee func83 ntmps83 r (.F (.y r λ_=>.G 2 r (.V 6 2 r (.H AM .z r (.D 2 70 r (.B (.E (.M 1 r (.H VL .z r (.D 2 2118 r (.A r U (λo U=>?_) λo U=>?_)))))))))))
 . exact .F (.D 3 48 r (.drop .z (.J (B6 r (.t r (.t r .n)) rf ⟨(a1,true),r,U⟩))))
 refine .M 1 r (.H VL .z r (.D 2 65604 r (.A r U (λp U=>?_) λp U=>?_)))
 . exact .F (.D 2 48 r (.drop .z (.J (B6 r (.t r (.t r .n)) rf ⟨(0,false),r,U⟩))))
 refine .B (.jn U [6,2] [0] r (λj E l d=>j ((20,.bool d) :: E) l) (λ_ U=>?_) ?_)
 . refine .C (.G 1 r (.H VL .z r (.G 2 r (.T U [23,24] r (λf U=>?_) λf U=>?_))))
   . exact .G 3 r (.I (je (a1==a0.Source) U rf [0] r))
   exact .G 3 r (.I (je false U rf [0] r))
 refine λd U=>jq r λ_ a=>?_;have W:=a.u1 W;refine .A r U (λg U=>?_) λg U=>?_
 . exact .F (.D 2 48 r (.drop .z (.J (B6 r (.t r (.t r .n)) a ⟨(1,true),r,U⟩))))
 refine .B (.jn U [2] [0] r (λj E l (c,e)=>j ((6,.bool c) :: (27,.bool e) :: E) l) (λ_ U=>?_) ?_)
 . refine .C (.G 2 r (.T U [6,28,29] r (λh U=>?_) λh U=>?_))
   . exact .G 5 r (.I (je (true,true) U rf [0] r))
   exact .G 1 r (.P r (.H VL .z r (.G 3 r (.I (je (false,a0.Kind==4) U rf [0] r)))))
 rintro⟨c,e⟩ U;refine jq r λ_ i=>?_;have⟨b,W⟩:=i.u2 a W;refine .A r U (λk U=>?_) λk U=>?_
 . exact .F (.D 3 48 r (.drop .z (.J (B6 r (.t r (.t r .n)) b ⟨(0,c),r,U⟩))))
 refine .M 1 r (.H VL .z r (.D 2 34359738368 r (.drop .z (.A r U (λm U=>?_) λm U=>?_))))
 . exact .F (.D 2 48 r (.J (B6 r (.t r (.t r .n)) b ⟨((-1),false),r,U⟩)))
 exact .O 0 r (.F (.D 2 48 r (.J (B6 r (.t r (.t r .n)) b ⟨(4611686018427387904,false),r,U⟩))))
theorem KT {a0 Q} (d:HW a0 Q) :
  B7 prog 271 [.int .u64 a0] I (λ_ v=>∃ r,v=.agg #[.int .u64 r.1,.int .u64 r.2]∧Q r):=by
 exact Fun.ee func271 ntmps271 r (.F (.al Ab3 r λ_=>.V 5 1 r (.shl' r r (by decide) r r (.shr' r r (by decide) r r (.G 1 r (.shr' r r (by decide) r r (.ba Ab3 N0 GD r (.R sizeOf357 .z r (.L 4 r (.J (B6 r (.w isAgg357 sizeOf357 r .z r .n) rf ⟨(shr .u64 (shl .u64 a0 32) 32,shr .u64 a0 32),r,d⟩)))))))))))
theorem yF {a0 a1 Q} (d:TG a0 a1 Q) :
  B7 prog 214 [.int .u64 a0,.int .u64 a1] I (λ_=>o3_ Q):=by
 refine Fun.ee func214 ntmps214 r (.F (.al GF r λ_=>.V 19 1 r (.q call271 (KT (I:=I) d:) r λl d=>.G 1 r (.q call271 (KT (I:=I) d:) r λm d=>.al Ab3 r λ_=>.al Ab3 r λ_=>?_))));refine .R sizeOf357 .p1 r (.R sizeOf357 .z r (.ns 112 r (.AA (i:=0) N0 GD r r (by decide) (o:=0) r r r (.H EC .p1 r (.AA (i:=0) N0 GD r r (by decide) (o:=0) r r r (.H EC .z r (.D 2 240 r (.B (.dr [0,1,2,3,4,5,10,6,7,8,9,999] 11 ?_)))))))));refine .h r (.AA (i:=1) N0 GD r r (by decide) (o:=1) r r r .mk) (.W EC 1 r (.h r (.AA (i:=0) N0 GD r r (by decide) (o:=0) r r r .mk) (.W EC 0 r (.K 2 r (.aP Ab3 r (.X r (.q call271 (KT (I:=I) d:) r λ_ d=>?_)))))));refine .v 3 r (.u 1 r r (.U r (.H EC .z r .mk) (.U r (.AA (i:=0) N0 GD r r (by decide) (o:=0) r r r .mk) (.U r (.H EC .p1 r .mk) (.U r (.AA (i:=1) N0 GD r r (by decide) (o:=1) r r r .mk) tv))))) (.h r (.index1 (i:=1) N0 GD EC r r (by decide) r r r .mk) (.K 1 r (.X r (.q call271 (KT (I:=I) d:) r λp d=>?_))));refine .v 3 r tv (.b r λ_=>DrawD.nop (.e2 11 (.R sizeOf357 .p3 r (.ns 496 r (.AA (i:=0) N0 GD r r (by decide) (o:=0) r r r (.H EC .p1 r (.AA (i:=1) N0 GD r r (by decide) (o:=1) r r r (.H EC .z r (.G 1 r (.AA (i:=0) N0 GD r r (by decide) (o:=0) r r r (.H EC .p3 r (.G 1 r (.q call271 (KT (I:=I) d:) r λc d=>.al Ab3 r λ_=>?_)))))))))))));refine .R sizeOf357 .z r (.L 1008 r (.B (.dr [0,1,2,3,4,5,6,7,8,9,10,11,12,13,14,15,16,17,18,19] 20 (.h r (.AA (i:=1) N0 GD r r (by decide) (o:=1) r r r .mk) (.W EC 2 r (.h r (.AA (i:=1) N0 GD r r (by decide) (o:=1) r r r .mk) (.W EC 1 r (.K 1 r (.h r (.AA (i:=1) N0 GD r r (by decide) (o:=1) r r r .mk) ?_)))))))));refine .W EC 4 r (.K 1 r (.h r (.AA (i:=1) N0 GD r r (by decide) (o:=1) r r r .mk) (.W EC 0 r (.K 1 r (.h r (.conv T0 un2 r r r .mk) (.h r (.AA (i:=0) N0 GD r r (by decide) (o:=0) r r r .mk) (.W EC 0 r (.h r (.shl' r r (by decide) r r .mk) (.K 1 r (.X r (.q call271 (KT (I:=I) d:) r λq d=>?_)))))))))));refine .v 5 r (.U r (.shl' r r (by decide) r r .mk) (.U r (.H EC .z r .mk) (.U r (.AA (i:=0) N0 GD r r (by decide) (o:=0) r r r .mk) (.U r (.conv T0 un2 r r r .mk) (.u 1 r r (.U r (.H EC .z r .mk) (.U r (.AA (i:=1) N0 GD r r (by decide) (o:=1) r r r .mk) (.u 1 r r (.U r (.H EC .p4 r .mk) (.U r (.AA (i:=1) N0 GD r r (by decide) (o:=1) r r r .mk) (.u 1 r r (.U r (.H EC .p1 r .mk) (.U r (.AA (i:=1) N0 GD r r (by decide) (o:=1) r r r .mk) (.U r (.H EC .p2 r .mk) (.U r (.AA (i:=1) N0 GD r r (by decide) (o:=1) r r r .mk) tv))))))))))))))) (.h r (.index1 (i:=0) N0 GD EC r r (by decide) r r r .mk) (.K 1 r (.h r (.bd GF nN nL r .mk) (.e2 20 (.R B9 .p3 r (.L 16 r (.drop .z (.drop .z (.drop .z ?_)))))))));exact .drop .p1 (.J (B6 r (.w C0 B9 r .z r .n) rf ⟨({ Hi:=AJ (IntKind.wrap .u64 ((IntKind.wrap .u64 ((IntKind.wrap .u64 (l.2*m.2))+p.2))+c.2)),Lo:=bor .u64 (shl .u64 c.1 32) q.1 }:AQ),r,d⟩))
theorem sS {a0 Q} (d:Y4 a0 Q) :
  B7 prog 215 [vi a0] I (λ_=>o4_ Q):=by
 refine Fun.ee func215 ntmps215 r (.F (.D 1 1 r (.B (.F (.D 2 17 r (.A r d (λa d=>?_) λa d=>?_))))))
 . exact .M 1 r (.conv un2 T0 r r r (.neg r r r (.D 1 4 r (.r0 results215 r ⟨(IntKind.wrap .u64 (0 - (IntKind.wrap .u64 (a0)))),r,d⟩))))
 exact .O 1 r (.M 1 r (.conv un2 T0 r r r (.D 1 4 r (.r0 results215 r ⟨(IntKind.wrap .u64 (a0)),r,d⟩))))
theorem Aj8 {a0 a1 Q} (d:mH a0 a1 Q) :
  B7 prog 216 [.agg (F5 a0).toArray,.agg (F5 a1).toArray] I (λ_=>o3_ Q):=by
 refine Fun.ee func216 ntmps216 r (.F (.y r λ_=>.y r λ_=>.al GF r λ_=>?_));refine .L 28 r (.B (.dr [0,1,2,3,4,5,6,7,8,9,10,11,15,16,17,18,19,12,13,14,20] 21 (.K 1 r (.W PN 2 r (.h r (.conv un2 T0 r r r .mk) (.K 1 r (.W PN 1 r (.h r (.conv un2 T0 r r r .mk) (.K 2 r ?_)))))))));refine .W EC 2 r (.K 1 r (.W EC 1 r (.K 2 r (.W EC 2 r (.K 1 r (.W EC 1 r (.K 1 r (.X r (.q call218 (oO (I:=I) d:) r λb d=>?_)))))))));exact .v 3 r (.u 1 r r (.U r (.H EC .p1 r .mk) (.u 1 r r (.U r (.H EC .p2 r .mk) (.u 2 r r (.U r (.conv un2 T0 r r r .mk) (.U r (.H PN .p1 r .mk) (.u 1 r r (.U r (.conv un2 T0 r r r .mk) (.U r (.H PN .p2 r .mk) (.u 1 r r tv))))))))))) (.K 1 r (.h r (.conv T0 un2 r r r .mk) (.h r (.bd GF nN nL r .mk) (.e2 21 (.R B9 .z r (.L 16 r (.drop .p1 (.drop .p1 (.J (B6 r (.w C0 B9 r .z r .n) rf ⟨({ Hi:=AJ (IntKind.wrap .u64 ((IntKind.wrap .u64 ((IntKind.wrap .u64 (a0.Hi)) - (IntKind.wrap .u64 (a1.Hi)))) - b)),Lo:=IntKind.wrap .u64 (a0.Lo - a1.Lo) }:AQ),r,d⟩))))))))))
theorem Aj9 {a0 a1 Q} (h:mI a0 a1 Q) :
  B7 prog 147 [vi a0,vi a1] I (λ_=>o3_ Q):=by
 refine Fun.ee func147 ntmps147 r (.F (.al GF r λ_=>.V 19 1 r (.q call215 (sS (I:=I) h:) r λ_ h=>.G 1 r (.q call215 (sS (I:=I) h:) r λ_ h=>.q call214 (yF (I:=I) h:) r λf h=>.al GF r λ_=>.R B9 .z r (.L 51 r (.B (.M 4 r (.neB underlying4 r r r r (.L 32816 r (.A r h (λd h=>?_) λd h=>?_))))))))))
 . exact .F (.bd GF nN nL r (.S C0 B9 .z r (.q call216 (Aj8 (I:=I) h:) r λg h=>.R B9 .p1 r (.L 16 r (.drop .z (.J (B6 r (.w C0 B9 r .z r .n) rf ⟨g,r,h⟩)))))))
 exact .O 48 r (.F (.S C0 B9 .z r (.R B9 .p1 r (.L 16 r (.drop .z (.J (B6 r (.w C0 B9 r .z r .n) rf ⟨f,r,h⟩)))))))
theorem aQ {a0 a1 a2 Q} (V:UI a0 a1 a2 Q) :
  B7 prog 94 [vi a0,vi a1,vi a2] I (λ_=>o3_ Q):=by
 refine Fun.ee func94 ntmps94 r (.F (.al GF r λ_=>.L 71 r (.B (.F (.D 1 327 r (.E (.F (.D 2 839 r (.A r V (λs V=>?_) λs V=>?_)))))))))
 . refine .M 3 r (.T V [12,13] r (λt V=>?_) λt V=>?_)
   . exact .G 3 r (.q call146 (TM (I:=I) V:) r λL V=>.R B9 .z r (.L 64 r (.J (B6 r (.w C0 B9 r .z r .n) rf ⟨L,r,V⟩))))
   exact .G 3 r (.q call146 (TM (I:=I) V:) r λN V=>.R B9 .z r (.L 64 r (.J (B6 r (.w C0 B9 r .z r .n) rf ⟨N,r,V⟩))))
 refine .F (.D 2 262215 r (.A r V (λx V=>?_) λx V=>?_))
 . exact .M 2 r (.q call147 (Aj9 (I:=I) V:) r λO V=>.R B9 .z r (.L 64 r (.J (B6 r (.w C0 B9 r .z r .n) rf ⟨O,r,V⟩))))
 refine .O 71 r (.B (.jn V [6,2,1,0] [0] r (λj E l _=>j E l) (λ_ V=>?_) ?_))
 . refine .M 1 r (.q call148 (U1 (I:=I) V:) r λ_ V=>.G 1 r (.T V [24,25] r (λB V=>?_) λB V=>?_))
   . refine .G 2 r (.P r (.maxI r r r r (.D 2 1073741895 r (.A r V (λC V=>?_) λC V=>?_))))
     . exact .F (.q call149 (OP (I:=I) V:) r λP V=>.R B9 .z r (.L 64 r (.J (B6 r (.w C0 B9 r .z r .n) rf ⟨P,r,V⟩))))
     exact .AE (je () V rf [0] r)
   exact .D 5 1073741895 r (.j r r (.AE (je () V rf [0] r)))
 refine λ_ V=>jq r λm b=>.F (.bd GF nN nL r (.al GF r λR=>.R B9 .z r (.L 199 r (.B (.F (.D 1 8589934790 r (.E (.B (.E (.B (.jn V [7,6,2] [1] r (λj E l (o,p)=>j E (pc R #[vi o,.int .u64 p] 191 :: l)) (λ_ V=>?_) ?_)))))))))))
 . refine .E (.B (.E (.B (.B (.F (.D 2 25769803974 r (.A r V (λF V=>?_) λF V=>?_)))))))
   . exact .en 198 r (.C (.G 1 r (.q call149 (OP (I:=m) V:) r λq V=>.R B9 .z r (.I (je (q.Hi,q.Lo) V rf PR r)))))
   refine .O 8589934790 r (.B (.F (.D 2 77309411526 r (.A r V (λH V=>?_) λH V=>?_))))
   . exact .exit (je (0,0) V rf PR r)
   refine .O 8589934786 r (.F (.D 2 274877907138 r (.A r V (λJ V=>?_) λJ V=>?_)))
   . exact .en 66 r (.drop .z (.B (.M 1 r (.q call149 (OP (I:=m) V:) r λS V=>.R B9 .z r (.L 64 r (.J (B6 r (.w C0 B9 r .z r .n) b ⟨S,r,V⟩)))))))
   exact .O 192 r (.en 192 r (.F (.S C0 B9 .z r (.R B9 .p1 r (.L 64 r (.drop .z (.J (B6 r (.w C0 B9 r .z r .n) b ⟨NW,r,V⟩))))))))
 rintro⟨o,p⟩ V;refine jq r λa d=>?_;have e:=d.u1 b;refine .B (.B (.dr [1,2,0,3,4,5] 6 (.h r (.S C0 B9 .z r .mk) (.K 1 r (.X r (.q call149 (OP (I:=a) V:) r λ_ V=>.v 2 r (.u 1 r r (.U r (.S C0 B9 .z r .mk) tv)) (.X r (.q call149 (OP (I:=a) V:) r λ_ V=>?_))))))));exact .v 2 r (.U r (.S C0 B9 .z r .mk) tv) (.X r (.q call151 (xT (I:=a) V:) r λ_ V=>.v 2 r tv (.X r (.q call150 (iV (I:=a) V:) r λK V=>.v 2 r tv (.e2 6 (.R B9 .p1 r (.L 64 r (.drop .z (.J (B6 r (.w C0 B9 r .z r .n) e ⟨K,r,V⟩))))))))))
theorem Ah5 {a0 a1 Q} (V:RepSl BX I p1 c2 a0.Items) (U:Y5 a0 a1 Q) :
  B7 prog 143 [.agg #[vi a0.N,.slice p1 a0.Items.length c2],vi a1] I (λ_=>o5_ Q):=by
 refine Fun.ee func143 ntmps143 r ?_;refine .F (.y r λ_=>?_);refine .G 2 r (.ns 6 r (.S BI AR .z r (.ca call210 r (PS V U:) λ_ _ a d=>?_)));obtain⟨_,_,_,rfl,b,U⟩:=d;have V:=a.u1 V;refine .R AR .z r (.ns 6 r (.S BI AR .z r (.G 1 r (.q call211 (aO b U:) r λ_ U=>.D 5 196 r (.B (.F (.D 2 131140 r (.A r U (λf U=>?_) λf U=>?_))))))))
 . exact .F (.D 2 48 r (.drop .z (.J (B6 r (.t r (.t r .n)) a ⟨(0,false),r,U⟩))))
 refine .O 68 r (.M 1 r (.H HF .z r (.G 1 r ?_)));have⟨i,j,g,_,_,k,h,U⟩:=b.ix U;exact .Y DB D4 k i g r (.G 1 r (.ldb 1 PN h r (.D 2 48 r (.drop .z (.J (B6 r (.t r (.t r .n)) a ⟨(j.Val,true),r,U⟩))))))
theorem zY {a0 a1 a2 a3 a4 a5 Q} (Z:RepSl B2 I p1 c2 a0.Draws) (V:X6 I gf4 a1) (U:S8 a0 a1 a2 a3 a4 a5 Q) :
  B7 prog 144 [.agg (F0 a0 p1 c2),.agg (EO a1 gf4),vi a2,vi a3,vi a4,.bool a5] I (λ_ v=>∃ r,v=.tuple #[vi r.1,vi r.2.1,.bool r.2.2]∧Q r):=by
 refine Fun.ee func144 ntmps144 r (.F (.y r λ_=>.y r λ_=>.D 3 252 r (.B (.dr zP 11 (.K 1 r (.W F3 0 r (.K 1 r ?_)))))));have⟨P,e,k,_,_,R,m,U⟩:=V.1.ix U;refine .h r (.Y DU dK R P k r .mk) (.h r (.ldb 0 PN m r .mk) (.K 1 r (.W F3 0 r (.K 1 r ?_))));have⟨S,c,o,_,_,T,p,U⟩:=V.2.1.ix U;refine .h r (.Y DU dK T S o r .mk) (.h r (.ldb 0 PN p r .mk) (.K 1 r (.e2 11 (.D 1 98556 r (.B (.M 1 r (.H VL .p1 r (.L 268534012 r (.E (.F (.D 2 805404924 r (.A r U (λq U=>?_) λq U=>?_))))))))))))
 . refine .M 2 r (.T U [5,31,32] r (λs U=>?_) λs U=>?_)
   . refine .D 3 34359836692 r (.drop .z (.drop .z (.A r U (λu U=>?_) λu U=>?_)))
     . exact .F (.D 5 28672 r (.J (B6 r (.t r (.t r (.t r .n))) rf ⟨(a2,a4,true),r,U⟩)))
     exact .O 98304 r (.F (.D 5 28672 r (.J (B6 r (.t r (.t r (.t r .n))) rf ⟨(e,c,false),r,U⟩))))
   exact .D 3 34359836692 r (.drop .z (.drop .z (.j r r (.O 98304 r (.F (.D 5 28672 r (.J (B6 r (.t r (.t r (.t r .n))) rf ⟨(e,c,false),r,U⟩))))))))
 refine .B (.jn U [28,16,15,7,6,5,4,3,2] tG r (λj E l g=>j ((38,.bool g) :: E) l) (λ_ U=>?_) ?_)
 . refine .F (.D 2 275146440956 r (.A r U (λw U=>?_) λw U=>?_))
   . exact .AE (je (a0.Kind==2) U rf tG r)
   exact .C (.G 2 r (.I (je (a0.Kind==3) U rf tG r)))
 refine λg U=>jq r λ_ d=>?_;have⟨Z,V⟩:=d.u2 Z V;refine .A r U (λx U=>?_) λx U=>?_
 . refine .M 2 r (.T U [5,41,42] r (λy U=>?_) λy U=>?_)
   . refine .D 4 70368744275984 r (.drop .z (.drop .z (.A r U (λA U=>?_) λA U=>?_)))
     . exact .F (.D 5 28672 r (.J (B6 r (.t r (.t r (.t r .n))) d ⟨(a4,c,true),r,U⟩)))
     exact .O 98304 r (.F (.D 5 28672 r (.J (B6 r (.t r (.t r (.t r .n))) d ⟨(e,c,false),r,U⟩))))
   exact .D 4 70368744275984 r (.drop .z (.drop .z (.j r r (.O 98304 r (.F (.D 5 28672 r (.J (B6 r (.t r (.t r (.t r .n))) d ⟨(e,c,false),r,U⟩))))))))
 refine .F (.D 2 562950221955324 r (.A r U (λB U=>?_) λB U=>?_))
 . exact .F (.D 7 28672 r (.drop .z (.drop .z (.J (B6 r (.t r (.t r (.t r .n))) d ⟨(a4,c,a4 != 0),r,U⟩)))))
 refine .F (.D 2 36028797019062524 r (.A r U (λC U=>?_) λC U=>?_))
 . refine .E (.F (.D 3 144115188075954428 r (.A r U (λD U=>?_) λD U=>?_)))
   . exact .O 98304 r (.drop .z (.drop .z (.F (.D 5 28672 r (.J (B6 r (.t r (.t r (.t r .n))) d ⟨(e,c,false),r,U⟩))))))
   refine .B (.jn U [16,15,7,6,5,4,3,2] PR r (λj E l i=>j ((60,.bool i) :: E) l) (λ_ U=>?_) ?_)
   . refine .C (.G 4 r (.T U [63,64] r (λF U=>?_) λF U=>?_))
     . exact .G 3 r (.I (je a5 U rf PR r))
     exact .G 3 r (.I (je false U rf PR r))
   refine λi U=>jq r λa6 G=>?_;have⟨f,Z,V⟩:=G.u3 d Z V;refine .A r U (λH U=>?_) λH U=>?_
   . exact .F (.D 4 28672 r (.drop .z (.drop .z (.J (B6 r (.t r (.t r (.t r .n))) f ⟨(2,c,false),r,U⟩)))))
   refine .B (.dr [0,1,2,3,4,5,6,7,8,9,11,12,13,14,10,15,16,17,18,19] 20 (.K 4 r ?_));refine DG U (λb U=>?_) λb U=>?_
   . refine .h r (.N r r b (.AD r r r .mk)) (.h r (.N r r b (.not r r r .mk)) (.h r (.N r r b (.AD r r r .mk)) ?_));refine DG U (λa U=>?_) λa U=>?_
     . refine .gn r a (.gn r a (.gn r a (.gn r a (.gn r a (.gn r a (.gn r a (.gn r a (.gn r a (.gn r a ?_)))))))));refine .h r (.N r r b (.pickT r a r r r .mk)) (.h r (.pickT r b r r r .mk) (.K 1 r (.e2 20 (.L 295147905179352924160 r (.drop .z (.drop .z (.Q r r (.F (.D 4 28672 r ?_)))))))));exact .J (B6 r (.t r (.t r (.t r .n))) f ⟨(1,c,true),r,U⟩)
     refine .h r (.N r r a (.AD r r r .mk)) (.h r (.N r r a (.S FV F9 .z r .mk)) (.h r (.N r r a (.AD r r r .mk)) (.h r (.N r r a (.fo bO 0 r D5 .mk)) (.h r (.N r r a (.H AM .p1 r .mk)) (.h r (.N r r a (.AD r r r .mk)) (.h r (.N r r a (.add r r r r .mk)) (.X r ?_)))))));refine .N r r a (.AC call213 r (sR (I:=a6) U:) r r λ_ K=>?_);obtain⟨_,rfl,U⟩:=K;refine .v 2 r (.U r (.N r r a (.add r r r r .mk)) (.U r (.N r r a (.AD r r r .mk)) (.U r (.N r r a (.H AM .p1 r .mk)) (.U r (.N r r a (.fo bO 0 r D5 .mk)) (.U r (.N r r a (.S FV F9 .z r .mk)) (.U r (.N r r a (.AD r r r .mk)) tv)))))) (.X r ?_);refine .N r r a (.AC call212 r (jD Z U:) r r λ_ N=>?_);obtain⟨_,rfl,U⟩:=N;refine .v 2 r (.U r (.N r r a (.AD r r r .mk)) tv) (.h r (.N r r a (.gt r r r r .mk)) (.h r (.N r r b (.pickF r a r r r .mk)) (.h r (.pickT r b r r r .mk) (.K 1 r (.e2 20 (.L 295147905179352924160 r (.drop .z (.drop .z (.A r U (λO U=>?_) λO U=>?_)))))))))
     . exact .F (.D 4 28672 r (.J (B6 r (.t r (.t r (.t r .n))) f ⟨(1,c,true),r,U⟩)))
     exact .O 98304 r (.F (.D 5 28672 r (.J (B6 r (.t r (.t r (.t r .n))) f ⟨(e,c,false),r,U⟩))))
   refine .gn r b (.gn r b (.gn r b (.K 10 r (.gn r b (.h r (.pickF r b r r r .mk) (.K 1 r (.e2 20 (.L 295147905179352924160 r (.drop .z ?_)))))))));exact .drop .z (.j r r (.O 98304 r (.F (.D 5 28672 r (.J (B6 r (.t r (.t r (.t r .n))) f ⟨(e,c,false),r,U⟩))))))
 exact .O 98304 r (.drop .z (.drop .z (.F (.D 5 28672 r (.J (B6 r (.t r (.t r (.t r .n))) d ⟨(e,c,false),r,U⟩))))))
theorem Ah6 {a0 a1 Q} (Z:yI I gg1 a0) (W:RepSl BX I p3 c4 a1.Items) (J:fO a0 a1 Q) :
  B7 prog 313 [.agg (FL a0 gg1),.agg #[vi a1.N,.slice p3 a1.Items.length c4]] I (λV v=>∃ r a2 p8 c9,v=.tuple #[.agg (FL r.1 a2),.agg #[vi r.2.N,.slice p8 r.2.Items.length c9]]∧yI V a2 r.1∧RepSl BX V p8 c9 r.2.Items∧Q r):=by
 refine Fun.ee func313 ntmps313 r (.F (.y r λa4=>.y r λ_=>.al wP r λ_=>.al BZ r λ_=>.L 60 r (.B (.jx J [5,4,3,2] xP r (λj E l (g,i,a,b,d,e)=>λc w=>∃ k m o p q s t u,j ⟨17,[],none⟩ (λV=>RepSl B2 V k m a∧RepSl B2 V o p b∧RepSl B2 V q s d∧RepSl B2 V t u e) E (pc a4 #[vi g,vi i,.slice k a.length m,.slice o b.length p,.slice q d.length s,.slice t e.length u] 145 :: l) c w) (λ_ J=>?_) ?_))))
 . refine .F (.S HN EI .p3 r (.q call333 (oT Z J:) r λ_ J=>.D 1 316 r (.A r J (λF J=>?_) λF J=>?_)))
   . refine .C (.bs 1 B0 D5 pG r λ_=>.ownB (El:=B2) (ys:=([0]:List Int)) .z (.one r) r (.bd wP underlying145 AvK r (.R EI .p4 r (.pub .z λ_ x K=>?_))));have W:=x.u1 W;exact .I λc w ho hs=>⟨_,J,_,_,_,_,_,_,_,_,jf x ⟨(.nil _ _ _),K,(.nil _ _ _),(.nil _ _ _)⟩ AgV r ho hs⟩
   exact .AE λc w ho hs=>⟨_,J,_,_,_,_,_,_,_,_,jf rf ⟨Z.1,Z.2.1,Z.2.2.1,Z.2.2.2⟩ AgV r ho hs⟩
 rintro⟨g,i,a,b,d,e⟩ J c w ⟨k,m,o,p,q,s,t,u,_,f,⟨y,A,B,C⟩,hok,hsym⟩;have W:=f.u1 W;refine Cod.at hok hsym (.B (.F (.S BI AR .p1 r (.q call141 (FX W J:) r λ_ J=>.D 1 8252 r (.A r J (λH J=>?_) λH J=>?_)))))
 . refine .C (.bd BZ EV GP r (.R AR .p1 r (.L 60 r (.B (.dr [0,1,2] 3 (.h r (.S HN EI .z r .mk) (.h r (.S BI AR .p1 r .mk) (.X r ?_))))))));exact .R EI .p2 r (.O 4 r r r (.U r (.S BI AR .p1 r .mk) tv) (.e2 3 (.R AR .p3 r (.L 48 r (.drop .z (.drop .z (.J (B6 r (.w HN EI r .z r (.w BI AR r .p1 r .n)) f ⟨(({ Rows:=g,Cols:=i,At:=a,Start:=b,Row:=d,Val:=e }:BE),CK),((_,_),(_,_),(_,_),(_,_)),_,_,r,⟨y,A,B,C⟩,(.nil _ _ _),J⟩))))))))
 refine .O 60 r (.B (.dr [0,1,2] 3 (.h r (.S HN EI .z r .mk) (.h r (.S BI AR .p1 r .mk) (.X r ?_)))));exact .R EI .p2 r (.O 4 r r r (.U r (.S BI AR .p1 r .mk) tv) (.e2 3 (.R AR .p3 r (.L 48 r (.drop .z (.drop .z (.J (B6 r (.w HN EI r .z r (.w BI AR r .p1 r .n)) f ⟨(({ Rows:=g,Cols:=i,At:=a,Start:=b,Row:=d,Val:=e }:BE),a1),((_,_),(_,_),(_,_),(_,_)),_,_,r,⟨y,A,B,C⟩,W,J⟩))))))))
theorem zZ {a0 a1 a2 a3 a4 Q} (R3:RepSl BX I p1 c2 a1) (R6:RepSl JT I p4 c5 a3) (d:WD a0 a1 a2 a3 a4 Q) :
  B7 prog 314 [vi a0,.slice p1 a1.length c2,vi a2,.slice p4 a3.length c5,.bool a4] I (fun I_ v=>∃ r p7 c8,v=.slice p7 r.length c8∧RepSl EZ I_ p7 c8 r∧Q r):=by
 refine Fun.ee func314 ntmps314 r (.M 1 r (.V 31 1 r (.L 2079 r (.B (.M 1 r (.ln DB r (.D 1 116765 r (.E (.own0 EZ 254 (.lx d [15,14,4,3,2,0] [] r (fun j E l (a,a5)=>fun c w=>∃ e f,j ⟨39,[],none⟩ (fun I_=>True) ((11,.slice e a.length f) :: (16,vi a5) :: E) (OwnSl EZ 254 e f a :: l) c w) (fun c w J Z=>⟨_,_,jf rf tv [0] r J Z⟩) ?_))))))))))
 rintro ⟨a,a5⟩ _ d c w ⟨e,f,x,b,_,a6,a7⟩
 obtain ⟨R3,R6⟩:=b.u2 R3 R6
 refine Cod.at a6 a7 (.F (.D 1 247837 r (.B (.A r d (fun k d=>?_) fun k d=>?_))))
 · refine .O 116765 r (.B (.E (.F ?_)))
   obtain ⟨y,g,m,_,_,A,n,d⟩:=R3.ix d
   refine .Y DB D4 A y m r (.ldW T2 D4 n r r r r (.al JL r fun _=>.R D4 .z r (.V 124957 2 r (.H AM .z r (.q call88 (MC R6 d:) r fun _ d=>.G 1 r (.neB underlying4 r r r r (.L 33679389 r (.A r d (fun p d=>?_) fun p d=>?_))))))))
   · refine .dr zP 11 (.K 2 r (.W AM 0 r (.K 2 r (.W PN 0 r (.K 1 r (.X r (.q call94 (aQ (I:=x) d:) r fun i d=>.v 2 r (.U r (.H AM .z r .mk) (.u 2 r r tv)) (.h r (.bd iP underlying254 AvM r .mk) (.X r (.bs 1 EL FN iP r fun _=>?_))))))))))
     refine .v 3 r (.u 1 r r tv) (.X r ?_)
     obtain ⟨s,d⟩:=d
     exact .ap (ys:=[({ At:=g.At,Val:=i }:BK)]) .p2 EL EL AfT r (.box .z (.one r) r) s fun _ _=>.v 3 r tv (.e2 11 (.D 1 116765 r (.drop .p1 (.drop .p1 (.C (.G 2 r (.I fun c w J Z=>⟨_,d,_,_,jf b tv [0] r J Z⟩)))))))
   exact .O 116765 r (.drop .z (.C (.G 2 r (.I fun c w J Z=>⟨_,d,_,_,jf b tv [0] r J Z⟩))))
 refine .en 2048 r (.F (.D 2 1024 r (.pub .z fun _ t B=>?_)))
 have u:=t.u1 b
 exact .r1 results314 r u ⟨a,_,_,r,B,d⟩
theorem rD {a0 a1 Q} (h:yI I gg1 a0) (J:UJ a0 a1 Q) :
  Fun prog 337 #[.agg (FL a0 gg1),vi a1] I [] (λd v l=>∃ r b3 gg4 b6,v=.func (.func 347) #[] #[vp b3,vp b6]∧yI d gg4 r.1∧l=[pc b3 (FL r.1 gg4) 145,pc b6 #[vi r.2] 3]∧Q r):=by
 exact Fun.ee func337 ntmps337 r (.F (.y r λb3=>.box1 r r r r λ_=>.G 1 r (.ns 12 r (.mkFn r r r r (.D 1 16 r (.q1 results337 rf tG r ⟨(a0,a1),_,gg1,_,r,h,r,J⟩))))))
theorem kW {o0 o1 o2 o3 Y Q} (hY:∀ {J_:IH},I.le J_->∀ {y14:Nat} {y15:List B3} {x21:B3} {p17:Option Addr} {c18:Nat} {Z:(Bool×Nat×(List B3))->Prop},Y y14 y15 x21 Z->RFun prog lr [.agg (W4 x21).toArray] J_ [Rr y14,pc b5 #[.slice p17 y15.length c18] 123,OwnSl BX 183 p17 c18 y15] (λV v l=>∃ r p23 c24,v=.bool r.1∧l=[Rr r.2.1,pc b5 #[.slice p23 r.2.2.length c24] 123,OwnSl BX 183 p23 c24 r.2.2]∧Z r)) (J:yI I gg11 o2) (D:QN o0 o1 o2 o3 Y Q) :
  Fun prog 347 #[.func (.yield lr) #[] #[],vp b10,vp b13] I [Rr o0,pc b5 #[.slice p6 o1.length c7] 123,OwnSl BX 183 p6 c7 o1,pc b10 (FL o2 gg11) 145,pc b13 #[vi o3] 3] (λV v l=>∃ r p15 c16,v=.tuple #[]∧l=[Rr r.1,pc b5 #[.slice p15 r.2.length c16] 123,OwnSl BX 183 p15 c16 r.2,pc b10 (FL o2 gg11) 145,pc b13 #[vi o3] 3]∧Q r):=by
 refine Fun.ee func347 ntmps347 r (.M 1 r (.H CN .p3 r (.H AM .p4 r ?_)));have⟨S,_,C,_,_,T,a2,D⟩:=J.2.1.ix D;refine .Y B0 D5 T S C r (.ldb 0 AM a2 r (.D 1 23 r (.E (.lx D xP [3,3] r (λj E l (b,m,d)=>λc w=>∃ e f,j ⟨34,[],none⟩ (λV=>True) ((4,vi m) :: E) (pc b5 #[.slice e b.length f] 123 :: OwnSl BX 183 e f b :: Rr d :: l) c w) (λc w O U=>⟨_,_,jf rf tv [1,1,0,0,0] r O U⟩) ?_))));rintro⟨b,m,d⟩ _ D c w ⟨e,f,F,a,_,a6,a7⟩;have J:=a.u1 J;refine Cod.at a6 a7 (.B (.M 2 r (.H CN .p3 r (.H AM .p4 r (.G 1 r ?_)))));have⟨G,_,q,_,_,H,s,D⟩:=J.2.1.ix D;refine .Y B0 D5 H G q r (.ldb 0 AM s r (.D 1 131095 r (.A r D (λt D=>?_) λt D=>?_)))
 . refine .O 23 r (.B (.E (.B (.ownF .p1 λ_=>.dr Aj4 14 (.K 2 r (.W CN 3 r (.K 1 r ?_)))))));have⟨a4,K,u,_,_,L,g,D⟩:=J.2.2.1.ix D;refine .h r (.Y B0 D5 L a4 u r .mk) (.h r (.ldb 0 AM g r .mk) (.K 1 r (.W F3 3 r (.K 1 r ?_))));have⟨N,a5,x,_,_,P,i,D⟩:=J.2.2.2.ix D;refine .h r (.Y DU dK P N x r .mk) (.h r (.ldb 0 PN i r .mk) (.h r (.bd JL sD sA r .mk) (.X r λ{ex}=>?_)));have y:=hY (J_:=F) a (y14:=d) (y15:=b) (x21:=({ At:=K,Val:=a5 }:B3)) (p17:=e) (c18:=f) D;refine .callY r r (.o [2,0,0] r) y r r λ_ _ _ z A=>?_;obtain⟨k,_,_,rfl,rfl,D⟩:=A;have⟨p,J,g,i⟩:=z.u4 a J g i;refine .rx 5 r (.v 5 r tv (.K 1 r (.e2 14 (.L 8589934615 r (.A r D (λB D=>?_) λB D=>?_)))))
   . exact .J (DF r .n p (.o gG r) ⟨(k.2.1,k.2.2),_,_,r,r,D⟩)
   exact .O 23 r (.C (.G 3 r (.I λc w O U=>⟨_,D,_,_,jf p tv [1,1,0,0,0] r O U⟩)))
 exact .exit (FR r .n a (.o [2,0,0,0,0] r) ⟨(d,b),_,_,r,r,D⟩)
theorem L8 {o0 o1 Q} (R5:yI I gg4 o0) (hd:DT o0 o1 Q) :
  Fun prog 346 #[.slice none 0 0,.func (.func 347) #[] #[vp b3,vp b6]] I [pc b3 (FL o0 gg4) 145,pc b6 #[vi o1] 3] (λI_ v l=>∃ r p7 c8,v=.slice p7 r.length c8∧RepSl BX I_ p7 c8 r∧l=[pc b3 (FL o0 gg4) 145,pc b6 #[vi o1] 3]∧Q r):=by
 refine Fun.en func346 ntmps346 r λw0 M=>.marks0 (.F (.box1 r r r r λm=>.D 1 6 r (.B (.F (.D 1 70 r (.E (.own0 BX 183 (.rangeF [] r call347 (.o [2,1,0,0,0] r) λlr D rc hrc=>?_))))))));refine⟨_,kW (I:=I) (lr:=lr) (Rr:=bN lr [] rc) (o0:=0) (o1:=([]:List B3)) (o2:=o0) (o3:=o1) (b5:=m) (p6:=none) (c7:=0) (b10:=b3) (gg11:=gg4) (b13:=b6) ?_ R5 hd,?_⟩
 . intro I hJ p h b q s Qy  hd
   replace R5:=hJ.u1 R5
   obtain⟨rfl,hd⟩:=hd;refine RFun.mk hrc r λw0 M=>.C (.al JL r λu=>.R D4 .z r (.I λc w ho hs=>jM (E':=[(2,_),(5,_)]) ho ⟨r,r,tv⟩ hs .p1 (.E (.C (.H HF .p2 r (.S T2 D4 .z r (.bs 1 DB D4 JL r λx=>?_)))))));have⟨d,hd⟩:=hd;exact .ap (ys:=[b]) .p4 DB DB rZ r (.box .z (.one r) r) d λy A=>.s1 sizeOf123 .p4 r (.I λc w ho hs=>Ac3 0 (.inl rfl) rf .p3 (.o [3,0] rfl) ⟨(true,0,(h++([b]))),_,_,rfl,rfl,hd⟩ hs)
 intro B C l' a e;obtain⟨j,E,F,rfl,rfl,hd⟩:=e;have R5:=a.u1 R5;have⟨hz,hd⟩:=hd;refine⟨_,_,r,λhj=>?_,λi hj=>absurd (hz.symm.trans hj) (by simp)⟩;refine .rn 5 r (.mkS 6 r r (.F (.H HF .p1 r (.D 1 18 r (.drop .p1 (.pub .p1 λG f k=>?_))))));have⟨g,R5⟩:=f.u2 a R5;exact .J (AvD .z results346 (.t r .n) g (.o PR r) ⟨j.2,_,_,r,k,r,hd⟩)
theorem SM {o0 o1 Q} (h:yI I gg4 o0) (J:EX o0 o1 Q) :
  Fun prog 336 #[.func (.func 347) #[] #[vp b3,vp b6]] I [pc b3 (FL o0 gg4) 145,pc b6 #[vi o1] 3] (λO v l=>∃ r p7 c8,v=.slice p7 r.length c8∧RepSl BX O p7 c8 r∧l=[pc b3 (FL o0 gg4) 145,pc b6 #[vi o1] 3]∧Q r):=by
 refine Fun.ee func336 ntmps336 r ?_;refine .M 1 r (.V 1 1 r ?_);refine .x (.f call346 r) (.o PR r) r (L8 (b3:=b3) (b6:=b6) h J:) λ_ _ _ a b=>?_;obtain⟨d,_,_,rfl,e,rfl,J⟩:=b;have h:=a.u1 h;exact .rn 2 r (.D 1 5 r (.q1 results336 a PR r ⟨d,_,_,r,e,r,J⟩))
theorem Aa0 {a0 a1 Q} (J:yI I gg1 a0) (d:WE a0 a1 Q) :
  B7 prog 315 [.agg (FL a0 gg1),vi a1] I (AyG Q):=by
 refine Fun.ee func315 ntmps315 r ?_;refine .F (.y r λ_=>?_);refine .G 1 r (.ns 6 r (.S HN EI .z r (.ca call309 r (sP J d:) λ_ _ b e=>?_)));obtain⟨_,_,rfl,a,d⟩:=e;have J:=b.u1 J;refine .R EI .z r (.ns 6 r (.S HN EI .z r (.G 1 r (.q call310 (oU a d:) r λ_ d=>.D 1 36 r (.B (.F (.D 2 4132 r (.A r d (λh d=>?_) λh d=>?_))))))))
 . exact .F (.D 1 16 r (.drop .z (.r1 results315 r b ⟨([]:List B3),_,_,r,(.nil _ _ _),d⟩)))
 refine .O 36 r (.F (.S HN EI .z r (.G 1 r ?_)));refine .x (.f call337 r) .n r (rD a d:) λ_ _ _ j k=>?_;obtain⟨_,t,_,u,rfl,c,rfl,d⟩:=k;have⟨l,a⟩:=j.u2 b a;refine .rn 3 r ?_;refine .x (.f call336 r) (.o PR r) r (SM (b3:=t) (b6:=u) c d:) λ_ _ _ p q=>?_;obtain⟨v,_,_,rfl,w,rfl,d⟩:=q;have⟨s,a,c⟩:=p.u3 l a c;exact .rn 3 r (.D 1 16 r (.drop .z (.drop .z (.drop .z (.r1 results315 r s ⟨v,_,_,r,w,d⟩)))))
theorem Ah7 {a0 a1 a2 a3 a4 Q} (O:yI I gg1 a1) (U:RepSl BX I p3 c4 a2.Items) (J:RepSl JT I p6 c7 a3) (D:fP a0 a1 a2 a3 a4 Q) :
  B7 prog 283 [vi a0,.agg (FL a1 gg1),.agg #[vi a2.N,.slice p3 a2.Items.length c4],.slice p6 a3.length c7,.bool a4] I (fun Z v=>∃ r p9 c10,v=.tuple #[.slice p9 r.1.length c10,vi r.2]∧RepSl EZ Z p9 c10 r.1∧Q r):=by
 refine Fun.ee func283 ntmps283 r ?_
 refine .F (.y r fun _=>.y r fun _=>?_)
 refine .G 2 r (.ns 217 r (.S HN EI .p1 r (.S BI AR .z r (.ca call313 r (Ah6 O U D:) fun _ d3 d a5=>?_))))
 obtain ⟨_,_,_,_,rfl,a,b,D⟩:=a5
 obtain ⟨O,U,J⟩:=d.u3 O U J
 refine .G 3 r (.R EI .p1 r (.R AR .z r (.L 217 r (.B (.E (.M 1 r (.q call148 (U1 (I:=d3) D:) r fun _ D=>.D 2 2097369 r (.A r D (fun a7 D=>?_) fun a7 D=>?_))))))))
 · exact .F (.D 2 3072 r (.drop .z (.drop .z (.J (B6 r (.t r (.t r .n)) d ⟨(([]:List BK),8),_,_,r,(.nil _ _ _),D⟩)))))
 refine .M 1 r (.H AM .z r (.G 1 r (.H AM .p1 r (.D 2 33554649 r (.A r D (fun a8 D=>?_) fun a8 D=>?_)))))
 · exact .F (.D 2 3072 r (.drop .z (.drop .z (.J (B6 r (.t r (.t r .n)) d ⟨(([]:List BK),4),_,_,r,(.nil _ _ _),D⟩)))))
 refine .O 217 r (.F (.D 1 4313 r (.B (.M 1 r (.H HF .z r (.ln DB r (.D 1 30064775257 r (.drop .z (.E (.own0 (gO EZ) 126 (.lx D [33,32,6,4,3,0] [1] r (fun j E l (e,g)=>fun c w=>∃ i k,j ⟨57,[],none⟩ (fun Z=>True) ((12,.slice i e.length k) :: (34,vi g) :: E) (OwnSl (gO EZ) 126 i k e :: l) c w) (fun c w V W=>⟨_,_,jf rf tv PR r V W⟩) ?_)))))))))))
 rintro ⟨e,g⟩ _ D c w ⟨i,k,_,f,_,d4,d5⟩
 obtain ⟨p,J,a,b⟩:=f.u4 d J a b
 refine Cod.at d4 d5 (.F (.D 1 64424513625 r (.B (.A r D (fun u D=>?_) fun u D=>?_))))
 · refine .O 30064775257 r (.B (.E (.F ?_)))
   obtain ⟨a9,_,x,_,_,b0,y,D⟩:=b.ix D
   refine .Y DB D4 b0 a9 x r (.ldW T2 D4 y r r r r (.al JL r fun _=>?_))
   refine .R D4 .z r (.L 30064791641 r (.dr [0,1,2,3,4,6,7,8,9,5,10,11,12] 13 (.K 2 r (.h r (.S HN EI .p2 r .mk) (.K 1 r (.W AM 0 r (.K 1 r (.W PN 0 r (.K 2 r ?_)))))))))
   refine .X r (.ca call315 r (Aa0 a D:) fun _ _ B C=>?_)
   obtain ⟨_,_,_,rfl,m,D⟩:=C
   obtain ⟨a6,F,J,a,b⟩:=B.u5 p f J a b
   refine .v 3 r (.u 2 r r (.U r (.H PN .z r .mk) (.u 3 r r tv))) (.X r ?_)
   refine .ca call314 r (zZ m J D:) fun _ _ H c0=>?_
   obtain ⟨q,_,_,rfl,b1,D⟩:=c0
   obtain ⟨_,K,J,a,b,m⟩:=H.u6 a6 F J a b m
   refine .v 3 r (.u 1 r r tv) (.X r (.bs 1 sF bH zeroValue126 r fun _=>.v 4 r (.u 1 r r tv) (.X r ?_)))
   obtain ⟨L,D⟩:=D
   exact .ap (ys:=[q]) .p2 sF sF Ay4 r (.box .z (.one ⟨_,_,r,b1⟩) r) L fun _ _=>.v 4 r tv (.e2 13 (.D 1 30064775257 r (.drop .p1 (.drop .p1 (.C (.G 2 r (.I fun c w V W=>⟨_,D,_,_,jf K tv PR r V W⟩)))))))
 refine .en 4097 r (.drop .p1 (.M 2 r (.pub .z fun _ c1 o=>?_)))
 obtain ⟨P,R⟩:=c1.u2 p f
 refine .AF call174 r (oW o D:) r r fun _ _ _ T d0=>?_
 obtain ⟨s,_,_,rfl,rfl,D⟩:=d0
 obtain ⟨d1,d2,o⟩:=T.u3 P R o
 refine .D 4 3072 r (.pub .z fun _ X b2=>?_)
 obtain ⟨Y,_⟩:=X.u2 d1 d2
 exact .J (B6 r (.t r (.t r .n)) Y ⟨(s.1,s.2),_,_,r,b2,D⟩)
theorem Ah8 {a0 a1 Q} (V:pF I gd1 a0) (J:lTk I gk3 a1) (D:fQ a0 a1 Q) :
  B7 prog 316 [.agg (M0 a0 gd1),.agg (M2 a1 gk3)] I (λW v=>∃ r a2 a4,v=.tuple #[.agg (M0 r.1 a2),.agg (M2 r.2 a4)]∧pF W a2 r.1∧lTk W a4 r.2∧Q r):=by
 refine Fun.ee func316 ntmps316 r (.F (.y r λC=>.y r λ_=>.al OL r λ_=>.al nQ r λ_=>.L 60 r (.B (.jx D [5,4,3,2] xP r (λj E l d=>λc w=>∃ a,j ⟨19,[],none⟩ (λW=>pF W a d) E (pc C (M0 d a) 143 :: l) c w) (λ_ D=>?_) ?_))))
 . refine .F (.S D0 BJ .p3 r (.q call152 (WY V D:) r λ_ D=>.D 1 316 r (.A r D (λk D=>?_) λk D=>?_)))
   . refine .C (.S D0 BJ .p3 r (.ba gS UY D5 r (.ba gS UY D5 r ?_)));refine .ca call154 r (gI V D:) λ_ _ f o=>?_;obtain⟨a5,p,rfl,F,D⟩:=o;have⟨V,J⟩:=f.u2 V J;exact .R BJ .p3 r (.I λc w Z hs=>⟨a5,D,p,jf f F AgV r Z hs⟩)
   exact .AE λc w Z hs=>⟨a0,D,gd1,jf rf V AgV r Z hs⟩
 rintro d D c w ⟨a,G,e,b,a7,a8⟩;have J:=e.u1 J;refine Cod.at a7 a8 (.B (.F (.S M8 FO .p1 r (.q call334 (jC J D:) r λ_ D=>.D 1 32828 r (.A r D (λs D=>?_) λs D=>?_)))))
 . refine .C ?_;refine .AF call279 r (X0 (I:=G) D:) r r λ_ _ _ u x=>?_;obtain⟨H,_,_,_,_,rfl,g,rfl,D⟩:=x;have⟨y,J,b⟩:=u.u3 e J b;refine .R FO .p2 r (.L 60 r (.B (.dr [0,1,2] 3 (.h r (.S D0 BJ .p1 r .mk) (.h r (.S M8 FO .p2 r .mk) (.X r ?_))))));refine .R BJ .p3 r (.O 5 r r r (.U r (.S M8 FO .p2 r .mk) tv) (.e2 3 (.R FO .p4 r (.L 48 r (.drop .p1 (.drop .p1 (.pub .z λ_ A a6=>?_)))))));have⟨B,b,g⟩:=A.u3 y b g;exact .J (B6 r (.w D0 BJ r .z r (.w M8 FO r .p1 r .n)) B ⟨(d,H),a,((_,_),(_,_)),r,b,⟨g,a6⟩,D⟩)
 refine .O 60 r (.B (.dr [0,1,2] 3 (.h r (.S D0 BJ .z r .mk) (.h r (.S M8 FO .p1 r .mk) (.X r ?_)))));exact .R BJ .p2 r (.O 4 r r r (.U r (.S M8 FO .p1 r .mk) tv) (.e2 3 (.R FO .p3 r (.L 48 r (.drop .z (.drop .z (.J (B6 r (.w D0 BJ r .z r (.w M8 FO r .p1 r .n)) e ⟨(d,a1),a,gk3,r,b,J,D⟩))))))))
theorem rE {a0 Q} (h:UK a0 Q) :
  Fun prog 339 #[vi a0] I [] (λ_ v l=>∃ r d b2 b3,v=.tuple #[.func (.func 348) #[] #[vp d,vp b2,vp b3],.func (.func 349) #[] #[vp b3,vp d]]∧l=[pc d #[.bool r.1] 4,pc b2 #[vi r.2.1] 187,pc b3 #[vi r.2.2.Hi,.int .u64 r.2.2.Lo] 191]∧Q r):=by
 refine Fun.ee func339 ntmps339 r (.F (.box1 r r r r λb3=>.G 2 r (.ns 2 r (.al GF r λ_=>.ns 18 r (.alloc1 zeroValue4 r r r λ_=>?_)))));exact .s1 sz4 .z r (.ns 50 r (.mkFn r r r r (.G 1 r (.V 52 1 r (.mkFn r r r r (.D 2 12 r (.J (DF r (.t r (.t r .n)) rf (.o zN r) ⟨(false,a0,NW),_,_,_,r,r,h⟩))))))))
theorem kX {o0 o1 o2 a0 Q} (d:QO o0 o1 o2 a0 Q) :
  Fun prog 348 #[.agg (F5 a0).toArray,vp b4,vp b5,vp b6] I [pc b4 #[.bool o0] 4,pc b5 #[vi o1] 187,pc b6 #[vi o2.Hi,.int .u64 o2.Lo] 191] (λ_ v l=>∃ r,v=.tuple #[]∧l=[pc b4 #[.bool r.1] 4,pc b5 #[vi o1] 187,pc b6 #[vi r.2.Hi,.int .u64 r.2.Lo] 191]∧Q r):=by
 refine Fun.ee func348 ntmps348 r (.F (.y r λ_=>.L 30 r (.B (.F (.H ia4 .p1 r (.L 62 r (.A r d (λa d=>?_) λa d=>?_)))))))
 . exact .C (.H dM .p2 r (.S C0 B9 .p3 r (.S C0 B9 .z r (.q call205 (aI (I:=I) d:) r λc d=>.R B9 .z r (.L 26 r (.C (.S C0 B9 .z r (.R B9 .p3 r (.s1 sz4 .p1 r (.I (FR r .n rf (.o nl8 r) ⟨(true,c),r,r,d⟩)))))))))))
 exact .O 26 r (.C (.S C0 B9 .z r (.R B9 .p3 r (.s1 sz4 .p1 r (.I (FR r .n rf (.o nl8 r) ⟨(true,a0),r,r,d⟩))))))
theorem kY {o0 o1 Q} (d:QP o0 o1 Q) :
  Fun prog 349 #[vp b3,vp b4] I [pc b3 #[vi o0.Hi,.int .u64 o0.Lo] 191,pc b4 #[.bool o1] 4] (λ_ v l=>∃ r,v=.tuple #[.agg (F5 r.1).toArray,.bool r.2]∧l=[pc b3 #[vi o0.Hi,.int .u64 o0.Lo] 191,pc b4 #[.bool o1] 4]∧Q r):=by
 refine Fun.ee func349 ntmps349 r (.F (.al GF r λ_=>.D 1 7 r (.B (.dr [0,1,2] 3 (.h r (.S C0 B9 .p1 r .mk) (.W ia4 2 r (.X r ?_)))))));exact .R B9 .z r (.O 3 r r r (.U r (.H ia4 .p2 r .mk) tv) (.e2 3 (.D 1 15 r (.J (DF r (.w C0 B9 r .z r (.t r .n)) rf (.o [1,1] r) ⟨(o0,o1),r,r,d⟩)))))
theorem AjA {a0 a1 a2 a3 Q} (V:pF I gd1 a1) (Z:lTk I gk3 a3) (U:mJ a0 a1 a2 a3 Q) :
  B7 prog 318 [vi a0,.agg (M0 a1 gd1),vi a2,.agg (M2 a3 gk3)] I (λ_ v=>∃ r,v=.tuple #[.agg (F5 r.1).toArray,.bool r.2]∧Q r):=by
 refine Fun.ee func318 ntmps318 r ?_;refine .F (.y r λ_=>.y r λ_=>?_);refine .al GF r λ_=>.G 1 r (.V 421 1 r (.x (.f call339 r) .n r (rE (I:=I) U:) λ_ _ _ s X=>?_));obtain⟨_,u,N,x,rfl,rfl,U⟩:=X;have⟨V,Z⟩:=s.u2 V Z;refine .rn 6 r (.D 5 3493 r (.B (.M 1 r (.H CN .p5 r (.G 1 r ?_)))));have⟨S,_,Y,_,_,b9,d0,U⟩:=V.1.ix U;refine .Y B0 D5 b9 S Y r (.ldb 0 AM d0 r (.D 1 7589 r (.E (.lp U [11,10,8,7,5,2,0] [5,4,3,1] r (λj E l (g,i,k,b)=>j ((12,vi b) :: E) (pc u #[.bool g] 4 :: pc x #[vi i,.int .u64 k] 191 :: l)) (ji rf [0,1,3,2,1,0] r) ?_))));rintro⟨g,i,k,b⟩ _ U;refine jq r λm a=>?_;have⟨q,V,Z⟩:=a.u3 s V Z;refine .B (.M 2 r (.H CN .p2 r (.G 2 r ?_)));have⟨a4,_,A,_,_,a5,B,U⟩:=V.1.ix U;refine .Y B0 D5 a5 a4 A r (.ldb 0 AM B r (.D 1 2147491237 r (.A r U (λC U=>?_) λC U=>?_)))
 . refine .O 7589 r (.B (.E (.M 1 r (.H CN .p2 r (.G 1 r ?_)))));have⟨a6,_,D,_,_,a7,F,U⟩:=V.2.1.ix U;refine .Y B0 D5 a7 a6 D r (.ldb 0 AM F r (.G 1 r (.V 15781 1 r (.H OS .p3 r (.G 1 r (.q call88 (MC Z.1 U:) r λ_ U=>.L 4398046526885 r (.A r U (λH U=>?_) λH U=>?_)))))))
   . refine .dr Aj4 14 (.K 3 r (.W F3 2 r (.K 1 r ?_)));have⟨a8,_,J,_,_,a9,d,U⟩:=V.2.2.ix U;refine .h r (.Y DU dK a9 a8 J r .mk) (.h r (.ldb 0 PN d r .mk) (.K 1 r (.W F3 3 r (.K 1 r ?_))));have⟨b0,_,K,_,_,b1,e,U⟩:=Z.2.ix U;refine .h r (.Y DU dK b1 b0 K r .mk) (.h r (.ldb 0 PN e r .mk) (.X r ?_));refine .q call94 (aQ (I:=m) U:) r λ_ U=>?_;refine .v 6 r (.u 1 r r tv) (.X r (.x (.c call348 r r) (.o [0,4,0] r) r (kX (I:=m) (b4:=u) (b5:=N) (b6:=x) U:) λ_ _ _ O P=>?_));obtain⟨p,rfl,rfl,U⟩:=P;have⟨_,R,V,Z,d,e⟩:=O.u6 q a V Z d e;exact .rx 6 r (.v 6 r tv (.e2 14 (.L 7589 r (.C (.G 3 r (.I (je (p.1,p.2.Hi,p.2.Lo,AJ (b+1)) U R [0,1,1,1,1,0] r)))))))
   exact .O 7589 r (.C (.G 3 r (.I (je (g,i,k,AJ (b+1)) U a TK r))))
 refine .en 2304 r (.drop .p2 (.drop .p2 (.drop .p3 (.M 1 r ?_))));refine .x (.c call349 r r) (.o tG r) r (kY (I:=m) (b3:=x) (b4:=u) U:) λ_ _ _ T c0=>?_;obtain⟨y,rfl,rfl,U⟩:=c0;have⟨c1,_⟩:=T.u2 q a;exact .rn 3 r (.G 2 r (.R B9 .p2 r (.D 1 768 r (.drop .z (.drop .z (.J (B6 r (.w C0 B9 r .z r (.t r .n)) c1 ⟨(y.1,y.2),r,U⟩)))))))
theorem rF {a0 a1 a2 Q} (h:RepSl JT I p1 c2 a1) (J:UL a0 a1 a2 Q) :
  Fun prog 317 #[vi a0,.slice p1 a1.length c2,.bool a2] I [] (λd v l=>∃ r b4 b5 p6 c7 b9,v=.func (.func 338) #[] #[vp b4,vp b5,vp b9]∧RepSl JT d p6 c7 r.2.1∧l=[pc b4 #[vi r.1] 3,pc b5 #[.slice p6 r.2.1.length c7] 45,pc b9 #[.bool r.2.2] 4]∧Q r):=by
 exact Fun.ee func317 ntmps317 r (.F (.box1 r r r r λb4=>.box1 r r r r λ_=>.box1 r r r r λ_=>.G 1 r (.ns 56 r (.mkFn r r r r (.D 1 64 r (.q1 results317 rf xP r ⟨(a0,a1,a2),_,_,_,_,_,r,h,r,J⟩))))))
theorem kZ {o0 o1 o2 o3 o4 o5 o6 o7 Y Q} (hY:∀ {J_:IH},I.le J_->∀ {y27:Nat} {y28:Int} {y30:Rows} {y34:Dense} {y38:List BK} {x44:Int} {gd32:aTd} {gk36:aTk} {p40:Option Addr} {c41:Nat} {Qy:(Bool×Nat×(List BK))->Prop},pF J_ gd32 y30->lTk J_ gk36 y34->Y y27 y28 y30 y34 y38 x44 Qy->RFun prog lr [vi x44] J_ [Rr y27,pc b9 #[vi y28] 187,pc b10 (M0 y30 gd32) 143,pc b13 (M2 y34 gk36) 264,pc b16 #[.slice p40 y38.length c41] 126,OwnSl EZ 254 p40 c41 y38] (λI_ v l=>∃ r a9 a7,v=.bool r.1∧l=[Rr r.2.1,pc b9 #[vi y28] 187,pc b10 (M0 y30 gd32) 143,pc b13 (M2 y34 gk36) 264,pc b16 #[.slice a9 r.2.2.length a7] 126,OwnSl EZ 254 a9 a7 r.2.2]∧Qy r)) (a2:pF I gd11 o2) (a4:lTk I gk14 o3) (a5:RepSl JT I p23 c24 o6) (V:QQ o0 o1 o2 o3 o4 o5 o6 o7 Y Q) :
  Fun prog 338 #[.func (.yield lr) #[] #[],vp b21,vp b22,vp b26] I [Rr o0,pc b9 #[vi o1] 187,pc b10 (M0 o2 gd11) 143,pc b13 (M2 o3 gk14) 264,pc b16 #[.slice p17 o4.length c18] 126,OwnSl EZ 254 p17 c18 o4,pc b21 #[vi o5] 3,pc b22 #[.slice p23 o6.length c24] 45,pc b26 #[.bool o7] 4] (λI_ v l=>∃ r a8 a6,v=.tuple #[]∧l=[Rr r.1,pc b9 #[vi o1] 187,pc b10 (M0 o2 gd11) 143,pc b13 (M2 o3 gk14) 264,pc b16 #[.slice a8 r.2.length a6] 126,OwnSl EZ 254 a8 a6 r.2,pc b21 #[vi o5] 3,pc b22 #[.slice p23 o6.length c24] 45,pc b26 #[.bool o7] 4]∧Q r):=by
 refine Fun.ee func338 ntmps338 r (.F (.H AM .p6 r (.D 1 207 r (.E (.lx V [6,3,2,1,0] [1,1,1,3,3,3] r (λj E l (d,e,f)=>λc w=>∃ g i,j ⟨22,[],none⟩ (λI_=>True) ((7,vi e) :: E) (pc b16 #[.slice g d.length i] 126 :: OwnSl EZ 254 g i d :: Rr f :: l) c w) (λc w Z hs=>⟨_,_,jf rf tv [4,4,0,0,0,0,0,0,0] r Z hs⟩) ?_)))));rintro⟨d,e,f⟩ _ V c w ⟨g,i,y,b,_,b0,b1⟩;have⟨a2,a4,a5⟩:=b.u3 a2 a4 a5;refine Cod.at b0 b1 (.F (.D 1 463 r (.B (.A r V (λp V=>?_) λp V=>?_))))
 . refine .O 207 r (.B (.E (.F (.D 2 239 r (.B (.dr [0,1,3,2,4,5,6,7,8,9,10] 11 (.W OS 7 r (.K 1 r (.W ia4 8 r (.X r (.q call88 (MC a5 V:) r λ_ V=>?_)))))))))));refine .v 9 r (.U r (.H ia4 .p8 r .mk) tv) (.h r (.neB underlying4 r r r r .mk) (.K 1 r ?_));refine DG V (λa V=>?_) λa V=>?_
   . refine .h r (.N r r a (.AD r r r .mk)) (.h r (.N r r a (.AD r r r .mk)) (.X r λ{ex}=>?_));have s:=hY (J_:=y) b (y27:=f) (y28:=o1) (y30:=o2) (y34:=o3) (y38:=d) (x44:=e) (gd32:=gd11) (gk36:=gk14) (p40:=g) (c41:=i) a2 a4 V;refine .N r r a (.callY r r (.o [2,2,2,2,0,0] r) s r r λ_ _ _ t u=>?_);obtain⟨k,_,_,rfl,rfl,V⟩:=u;have⟨m,a2,a4,a5⟩:=t.u4 b a2 a4 a5;refine .rx 9 r (.v 9 r tv (.h r (.N r r a (.not r r r .mk)) (.h r (.pickT r a r r r .mk) (.e2 11 (.L 1048783 r (.A r V (λx V=>?_) λx V=>?_))))))
     . exact .J (DF r .n m (.o [0,0,0,0,0,0,0,0,0] r) ⟨(k.2.1,k.2.2),_,_,r,r,V⟩)
     exact .O 207 r (.C (.G 2 r (.I λc w Z hs=>⟨_,V,_,_,jf m tv [4,4,0,0,0,0,0,0,0] r Z hs⟩)))
   exact .gn r a (.gn r a (.gn r a (.gn r a (.h r (.pickF r a r r r .mk) (.e2 11 (.L 1048783 r (.j r r (.O 207 r (.C (.G 2 r (.I λc w Z hs=>⟨_,V,_,_,jf b tv [0,0,0,0,0,0,0,0,0] r Z hs⟩)))))))))))
 exact .exit (FR r .n b (.o [2,2,2,2,0,0,0,0,0] r) ⟨(f,d),_,_,r,r,V⟩)
theorem Ah9 {a0 a1 a2 a3 a4 Q} (R2:pF I gd1 a1) (R4:lTk I gk3 a2) (R7:RepSl JT I p5 c6 a3) (hd:fR a0 a1 a2 a3 a4 Q) :
  B7 prog 284 [vi a0,.agg (M0 a1 gd1),.agg (M2 a2 gk3),.slice p5 a3.length c6,.bool a4] I (λI_ v=>∃ r p8 c9,v=.tuple #[.slice p8 r.1.length c9,vi r.2]∧RepSl EZ I_ p8 c9 r.1∧Q r):=by
 refine Fun.en func284 ntmps284 r λw0 M=>?_;refine .marks0 (.F (.box1 r r r r λV=>.y r λW=>?_));refine .y r λb21=>.G 2 r (.ns 248 r (.S D0 BJ .p1 r (.S M8 FO .z r (.ca call316 r (Ah8 R2 R4 hd:) λm X e E=>?_))));obtain⟨B,F,G,rfl,a,b,hd⟩:=E;have⟨R2,R4,R7⟩:=e.u3 R2 R4 R7;refine .G 3 r (.R BJ .p1 r (.R FO .z r (.L 248 r (.B (.E (.F (.H dM .p2 r (.q call148 (U1 (I:=X) hd:) r λd0 hd=>.D 2 4194552 r (.A r hd (λJ hd=>?_) λJ hd=>?_)))))))))
 . exact .F (.D 2 3072 r (.drop .z (.drop .z (.drop .z (.J (XW .z results284 (.t r (.t r .n)) e ⟨(([]:List BK),8),_,_,r,(.nil _ _ _),hd⟩))))))
 refine .M 1 r (.H AM .z r (.G 1 r (.H AM .p1 r (.D 2 67109112 r (.A r hd (λK hd=>?_) λK hd=>?_)))))
 . exact .F (.D 2 3072 r (.drop .z (.drop .z (.drop .z (.J (XW .z results284 (.t r (.t r .n)) e ⟨(([]:List BK),4),_,_,r,(.nil _ _ _),hd⟩))))))
 refine .O 248 r (.F (.alloc1 zeroValue126 r r r λY=>?_));refine .L 4344 r (.B (.M 1 r (.H AM .p2 r (.G 2 r ?_))));refine .x (.f call317 r) .n r (rF R7 hd:) λd1 Z d2 N O=>?_;obtain⟨g,a5,a6,a7,a8,P,rfl,d,rfl,hd⟩:=O;have⟨l,R7,a,b⟩:=N.u4 e R7 a b;refine .rn 8 r (.L 68719481056 r (.E (.own0 EZ 254 (.rangeF [] r call338 (.o [8,7,6,5,4,0,0,0,0] r) λlr D rc hrc=>?_))));refine⟨_,kZ (I:=Z) (lr:=lr) (Rr:=bN lr [] rc) (o0:=0) (o1:=a0) (o2:=B.1) (o3:=B.2) (o4:=([]:List BK)) (o5:=g.1) (o6:=g.2.1) (o7:=g.2.2) (b9:=V) (b10:=W) (gd11:=F) (b13:=b21) (gk14:=G) (b16:=Y) (p17:=none) (c18:=0) (b21:=a5) (b22:=a6) (p23:=a7) (c24:=a8) (b26:=P) ?_ a b d hd,?_⟩
 . intro I hJ b1 b2 b3 b4 h j a9 b0 b5 b6 Qy R S hd
   replace a:=hJ.u1 a
   replace b:=hJ.u1 b
   replace d:=hJ.u1 d
   obtain⟨rfl,hd⟩:=hd;refine RFun.mk hrc r λw0 M=>.C (.G 1 r (.I λc w ho hs=>jM (E':=[(5,_),(6,_),(7,_),(12,_),(13,_)]) ho ⟨r,r,r,r,r,tv⟩ hs .z (.E (.F (.H dM .p1 r (.S D0 BJ .p2 r (.G 1 r (.S M8 FO .p3 r (.q call318 (AjA R S hd:) r λk hd=>.G 3 r (.al GF r λb7=>?_))))))))));refine .R B9 .z r (.G 1 r (.V 61440 1 r (.L 70368744206336 r (.A r hd (λp hd=>?_) λp hd=>?_))))
   . refine .C (.H KN .p5 r (.G 1 r (.S C0 B9 .z r (.bd iP underlying254 AvM r (.bs 1 EL FN iP r λb8=>?_)))));have⟨q,hd⟩:=hd;exact .ap (ys:=[({ At:=j,Val:=k.1 }:BK)]) .p7 EL EL AfT r (.box .z (.one r) r) q λc0 c1=>.s1 bH .p7 r (.I λc w ho hs=>Ac3 0 (.inl rfl) rf .p3 (.o [3,3,3,3,0] rfl) ⟨(true,0,(h++([({ At:=j,Val:=k.1 }:BK)]))),_,_,rfl,rfl,hd⟩ hs)
   exact .AE λc w ho hs=>Ac3 0 (.inl rfl) rf .p1 (.o nl9 rfl) ⟨(true,0,h),_,_,rfl,rfl,hd⟩ hs
 intro c2 c3 l' s u;obtain⟨T,c4,c5,rfl,rfl,hd⟩:=u;have⟨x,a,b,d⟩:=s.u4 l a b d;have⟨hz,hd⟩:=hd;refine⟨_,_,r,λhj=>?_,λi hj=>absurd (hz.symm.trans hj) (by simp)⟩;refine .rn 9 r (.mkS 4096 r r (.drop .p1 (.drop .p1 (.drop .p1 (.drop .p3 (.drop .p3 (.drop .p3 (.F (.H KN .p1 r (.D 2 3072 r (.drop .p1 (.pub .p1 λc7 y U=>?_))))))))))));have A:=y.u1 x;exact .J (XW .z results284 (.t r (.t r .n)) A ⟨(T.2,0),_,_,r,U,hd⟩)
theorem yG {a0 Q} (D:lTl I gl1 a0) (O:TH a0 Q) :
  B7 prog 285 [.agg (ApM a0 gl1)] I (AyK Q):=by
 refine Fun.ee func285 ntmps285 r ?_;refine .F (.y r λ_=>.al nQ r λ_=>?_);refine .ns 6 r (.S isAgg266 sizeOf266 .p1 r (.ca call240 r (aM D O:) λ_ _ a d=>?_));obtain⟨_,_,_,rfl,b,O⟩:=d;have D:=a.u1 D;refine .ca call237 r (xZ b O:) λ_ _ f g=>?_;obtain⟨j,h,rfl,k,O⟩:=g;have⟨i,D,b⟩:=f.u3 a D b;exact .R FO .z r (.L 4 r (.drop .p1 (.J (B6 r (.w M8 FO r .z r .n) i ⟨j,h,r,k,O⟩))))
theorem lC {o0 o1 a0 Q} (h:RepSl B2 I p4 c5 o0.Draws) (d:QR o0 o1 a0 Q) :
  Fun prog 82 #[vi a0,vp b3,vp b7] I [pc b3 (F0 o0 p4 c5) 25,pc b7 #[vi o1] 3] (λ_ v l=>∃ r,v=.tuple #[vi r.1,vi r.2.1,.bool r.2.2]∧l=[pc b3 (F0 o0 p4 c5) 25,pc b7 #[vi o1] 3]∧Q r):=by
 exact Fun.ee func82 ntmps82 r (.M 3 r (.ns 7 r (.S FV F9 .z r (.H AM .p1 r (.G 2 r (.q call83 (Ae3 h d:) r λb d=>.G 5 r (.V 390 5 r (.L 118 r (.J (DF r (.t r (.t r (.t r .n))) rf (.o PR r) ⟨(b.1,(-1),b.2),r,r,d⟩))))))))))
theorem lD {o0 o1 a0 a1 Q} (O:RepSl B2 I p4 c5 o0.Draws) (R9:X6 I gf8 a0) (J:QS o0 o1 a0 a1 Q) :
  Fun prog 81 #[.agg (EO a0 gf8),vi a1,.func (.func 82) #[] #[vp b3,vp b7]] I [pc b3 (F0 o0 p4 c5) 25,pc b7 #[vi o1] 3] (fun W v l=>∃ r Z,v=.agg (EO r Z)∧X6 W Z r∧l=[pc b3 (F0 o0 p4 c5) 25,pc b7 #[vi o1] 3]∧Q r):=by
 refine Fun.ee func81 ntmps81 r (.F (.y r fun _=>.al MR r fun _=>.V 78 1 r (.H AM .p1 r (.G 1 r (.H AM .p1 r (.bd MR bO gQ r (.al MR r fun a5=>?_)))))))
 refine .R CJ .z r (.L 198 r (.drop .p2 (.F (.D 1 454 r (.B (.F (.D 2 786886 r (.E (.own0 B2 2 (.own0 B2 2 (.own0 B2 3 (.lx J [18,7,6,2,1] [5,5,4] r (fun j E l (e,f,h,g)=>fun c w=>∃ m p q s t u,j ⟨52,[],none⟩ (fun W=>True) ((8,.slice t h.length u) :: (19,vi g) :: E) (pc a5 #[vi a0.Low,vi a0.High,.slice m e.length p,.slice q f.length s,.slice none 0 0] 47 :: OwnSl B2 2 m p e :: OwnSl B2 2 q s f :: OwnSl B2 3 t u h :: l) c w) (fun c w U V=>⟨_,_,_,_,_,_,jf rf tv [3,2,1,0,1,1,0] r U V⟩) ?_))))))))))))
 rintro ⟨e,f,h,g⟩ _ J c w ⟨m,p,q,s,t,u,_,k,_,b1,c0⟩
 have O:=k.u1 O
 refine Cod.at b1 c0 (.F (.D 1 1835462 r (.B (.A r J (fun D J=>?_) fun D J=>?_))))
 · refine .O 786886 r (.B (.E (.M 2 r (.V 787398 2 r ?_))))
   refine .x (.c call82 r r) (.o [4,4] r) r (lC (b3:=b3) (b7:=b7) O J:) fun _ _ _ G H=>?_
   obtain ⟨d,rfl,rfl,J⟩:=H
   obtain ⟨C,O⟩:=G.u2 k O
   refine .rn 7 r (.D 7 794566 r (.B (.dr [0,1,2,5,6,7,8,3,4,10,999,9,11] 12 (.K 1 r (.W F3 2 r (.K 2 r (.W F3 2 r (.K 1 r (.a (fun b=>.slice (some ⟨b,0,none⟩) 1 1) (fun b=>pc b #[vi d.2.1] 2) r r r r (fun _ _ hL _=>.bs 1 DU dK zv2 r fun b=>.mk (val:=fun b=>.slice (some ⟨b,0,none⟩) 1 1) (atom:=fun b=>pc b #[vi d.2.1] 2) hL b) (.X r (.bs 1 DU dK zv2 r fun _=>?_)))))))))))
   refine .v 8 r (.u 1 r r (.U r (.H F3 .p3 r .mk) (.u 1 r r (.U r (.H F3 .p3 r .mk) (.u 1 r r tv))))) (.X r ?_)
   obtain ⟨a4,J⟩:=J
   refine .ap (ys:=[d.1]) .p4 DU DU IN2 r (.box .z (.one r) r) a4 fun _ _=>.v 8 r (.u 1 r r (.U r (.H F3 .p4 r .mk) (.u 1 r r tv))) (.K 1 r (.b r fun _=>DrawD.nop (.X r ?_)))
   obtain ⟨K,J⟩:=J
   refine .ap (ys:=[d.2.1]) .p5 DU DU IN2 r (.box .p8 (.one r) r) K fun _ _=>.v 9 r (.u 1 r r tv) (.X r (.s1 sizeOf23 .p5 r (.O 9 r r r tv (.e2 12 (.G 1 r (.s1 sizeOf23 .p5 r (.L 791494 r (.drop .p2 (.drop .p7 (.F (.D 1 2199024042950 r ?_)))))))))))
   refine .A r J (fun N J=>?_) fun N J=>?_
   · refine .C (.G 2 r (.bs 1 B0 D5 pG r fun _=>?_))
     obtain ⟨a6,J⟩:=J
     exact .ap (ys:=[g]) .p6 B0 B0 IN3 r (.box .z (.one r) r) a6 fun _ _=>.D 1 786886 r (.drop .p1 (.C (.G 2 r (.I fun c w U V=>⟨_,J,_,_,_,_,_,_,jf C tv [5,2,1,0,0,0,0] r U V⟩))))
   exact .O 786886 r (.C (.G 2 r (.I fun c w U V=>⟨_,J,_,_,_,_,_,_,jf C tv [4,1,0,2,0,0,0] r U V⟩)))
 refine .en 454 r (.M 2 r (.pub .p3 fun _ P x=>?_))
 obtain ⟨R,O⟩:=P.u2 k O
 refine .ca call132 r (VA x J:) fun _ _ T a7=>?_
 obtain ⟨a2,_,_,rfl,i,J⟩:=a7
 obtain ⟨a8,O,x⟩:=T.u3 R O x
 refine .G 1 r (.s1 sizeOf45 .z r (.ns 196 r (.S FW CJ .z r (.R CJ .p5 r (.L 68 r (.drop .z (.pub .p1 fun _ a9 y=>?_)))))))
 obtain ⟨X,O,i⟩:=a9.u3 a8 O i
 refine .pub .z fun _ Y a3=>?_
 obtain ⟨b0,O,i,y⟩:=Y.u4 X O i y
 exact .J (DF r (.w FW CJ r .p2 r .n) b0 (.o PR r) ⟨({ a0 with A:=e,B:=f,On:=a2 }:State),((_,_),(_,_),(_,_)),r,⟨a3,y,i⟩,r,J⟩)
theorem oZ {a0 a1 a2 Q} (U:RepSl B2 I p1 c2 a0.Draws) (h:UM a0 a1 a2 Q) :
  B7 prog 44 [.agg (F0 a0 p1 c2),vi a1,vi a2] I (λV v=>∃ r gf4,v=.agg (EO r gf4)∧X6 V gf4 r∧Q r):=by
 refine Fun.ee func44 ntmps44 r (.F (.y r λk=>.box1 r r r r λl=>.al MR r λ_=>.L 92 r (.B (.F (.S FV F9 .p2 r (.q call80 (TL U h:) r λ_ h=>.G 2 r (.T h [10,11] r (λc h=>?_) λc h=>?_)))))))
 . exact .D 14 33554524 r (.Q r r (.F (.bd MR bO gQ r (.R CJ .z r (.L 64 r (.drop .p1 (.drop .p1 (.J (B6 r (.w FW CJ r .z r .n) rf ⟨DL,((_,_),(_,_),(_,_)),r,⟨(.nil _ _ _),(.nil _ _ _),(.nil _ _ _)⟩,h⟩)))))))))
 refine .P r (.H AM .p1 r (.G 3 r (.T h [13,14,15] r (λd h=>?_) λd h=>?_)))
 . exact .D 10 33554524 r (.Q r r (.F (.bd MR bO gQ r (.R CJ .z r (.L 64 r (.drop .p1 (.drop .p1 (.J (B6 r (.w FW CJ r .z r .n) rf ⟨DL,((_,_),(_,_),(_,_)),r,⟨(.nil _ _ _),(.nil _ _ _),(.nil _ _ _)⟩,h⟩)))))))))
 refine .G 1 r (.P r (.H AM .p1 r (.G 3 r (.T h [18,19,20] r (λe h=>?_) λe h=>?_))))
 . exact .D 5 33554524 r (.Q r r (.F (.bd MR bO gQ r (.R CJ .z r (.L 64 r (.drop .p1 (.drop .p1 (.J (B6 r (.w FW CJ r .z r .n) rf ⟨DL,((_,_),(_,_),(_,_)),r,⟨(.nil _ _ _),(.nil _ _ _),(.nil _ _ _)⟩,h⟩)))))))))
 refine .G 2 r (.P r (.H AM .p2 r (.D 2 33554524 r (.A r h (λg h=>?_) λg h=>?_))))
 . exact .F (.bd MR bO gQ r (.R CJ .z r (.L 64 r (.drop .p1 (.drop .p1 (.J (B6 r (.w FW CJ r .z r .n) rf ⟨DL,((_,_),(_,_),(_,_)),r,⟨(.nil _ _ _),(.nil _ _ _),(.nil _ _ _)⟩,h⟩)))))))
 refine .O 92 r (.F (.H AM .p1 r (.G 1 r (.bd MR bO gQ r (.al MR r λ_=>.R CJ .z r (.ns 220 r (.S FW CJ .z r (.G 1 r (.H AM .p2 r (.G 1 r (.mkFn r r r r ?_)))))))))));refine .x (.f call81 r) (.o [3,2] r) r (lD (I:=I) (a0:=({ Low:=a1,High:=a2,A:=([]:List Int),B:=([]:List Int),On:=([]:List Int) }:State)) (gf8:=((_,_),(_,_),(_,_))) (b3:=k) (p4:=p1) (c5:=c2) (b7:=l) U ⟨(.nil _ none 0),(.nil _ none 0),(.nil _ none 0)⟩ h:) λ_ _ _ a i=>?_;obtain⟨m,j,rfl,p,rfl,h⟩:=i;have U:=a.u1 U;exact .rn 4 r (.R CJ .p3 r (.L 64 r (.drop .z (.drop .z (.drop .z (.J (B6 r (.w FW CJ r .z r .n) a ⟨m,j,r,p,h⟩)))))))
theorem pB {o0 o1 o2 o3 a0 Q} (d:NS o0 o1 o2 o3 a0 Q) :
  Fun prog 234 #[vi a0,vp b5,vp b6,vp b7,vp b8] I [pc b5 #[vi o0] 3,pc b6 #[vi o1] 3,pc b7 #[vi o2] 3,pc b8 #[vi o3] 3] (λ_ v l=>∃ r,v=vi r∧l=[pc b5 #[vi o0] 3,pc b6 #[vi o1] 3,pc b7 #[vi o2] 3,pc b8 #[vi o3] 3]∧Q r):=by
 refine Fun.ee func234 ntmps234 r (.F (.D 1 31 r (.B (.dr [0,1,2,4,5,6,9,3,7,8,999] 10 (.W AM 0 r (.W AM 1 r (.K 1 r (.W AM 0 r (.W AM 2 r (.W AM 3 r (.aP gS r (.X r (.q call155 (J7 (I:=I) d:) r λ_ d=>?_)))))))))))));refine .v 4 r (.U r (.H AM .p3 r .mk) (.U r (.H AM .p2 r .mk) (.U r (.H AM .z r .mk) tv))) (.X r (.q call155 (J7 (I:=I) d:) r λ_ d=>.v 4 r tv (.X r (.q call235 (eO (I:=I) d:) r λc d=>.v 4 r tv (.b r λ_=>DrawD.nop ?_)))));exact .e2 10 (.R gR .p4 r (.ns 158 r (.AA (i:=1) UY D5 r r (by decide) (o:=1) r r r (.H AM .p4 r (.AA (i:=0) UY D5 r r (by decide) (o:=0) r r r (.H AM .p4 r (.D 2 94 r (.drop .p4 (.q1 results234 rf SH r ⟨(AJ (c.2 - c.1)),r,r,d⟩)))))))))
theorem pC {o0 o1 o2 o3 a0 a1 Q} (W:RepSl gP I p9 c10 a0) (V:SU o0 o1 o2 o3 a0 a1 Q) :
  Fun prog 233 #[.slice p9 a0.length c10,vi a1,.func (.func 234) #[] #[vp b5,vp b6,vp b7,vp b8]] I [pc b5 #[vi o0] 3,pc b6 #[vi o1] 3,pc b7 #[vi o2] 3,pc b8 #[vi o3] 3] (λZ v l=>∃ r p12 c13,v=.tuple #[.agg #[vi r.1.N,.slice p12 r.1.Items.length c13],vi r.2]∧RepSl BX Z p12 c13 r.1.Items∧l=[pc b5 #[vi o0] 3,pc b6 #[vi o1] 3,pc b7 #[vi o2] 3,pc b8 #[vi o3] 3]∧Q r):=by
 refine Fun.ee func233 ntmps233 r (.F (.al BZ r λ_=>.D 1 71 r (.B (.M 1 r (.ln sE r (.D 2 8261 r (.A r V (λD V=>?_) λD V=>?_)))))))
 . exact .F (.bd BZ EV GP r (.R AR .z r (.D 1 196 r (.J (DF r (.w BI AR r .z r (.t r .n)) rf (.o [1,1,1,1] r) ⟨(CK,4),_,_,r,(.nil _ none 0),r,V⟩)))))
 refine .O 69 r (.B (.M 1 r (.ln sE r (.D 1 229445 r (.E (.lp V [16,15,6,2,0] AgW r (λj E l d=>j ((17,vi d) :: E) l) (ji rf AgW r) ?_))))));refine λd _ V=>jq r λF b=>?_;have W:=b.u1 W;refine .F (.D 1 491589 r (.B (.A r V (λk V=>?_) λk V=>?_)))
 . refine .O 229445 r (.B (.E (.M 1 r ?_)));have⟨G,_,f,V⟩:=V;obtain⟨_,_,_,H,m,_,_,rfl,e⟩:=W.2 _ _ f;refine .Y sE AR H G f r (.ldW BI AR m r r r r (.al BZ r λ_=>.G 1 r (.R AR .z r (.L 230213 r (.B (.dr zP 11 (.h r (.S BI AR .z r .mk) (.X r (.q call141 (FX e V:) r λ_ V=>.v 6 r tv (.K 2 r ?_))))))))));refine DG V (λa V=>?_) λa V=>?_
   . refine .gn r a (.gn r a (.gn r a (.gn r a (.gn r a (.gn r a (.h r (.pickT r a r r r .mk) (.e2 11 (.L 4295196741 r (.drop .z ?_)))))))));exact .Q r r (.F (.bd BZ EV GP r (.R AR .p4 r (.D 1 196 r (.J (DF r (.w BI AR r .p4 r (.t r .n)) b (.o SH r) ⟨(CK,4),_,_,r,(.nil _ none 0),r,V⟩))))))
   refine .h r (.N r r a (.fo EV 0 r D5 .mk)) (.h r (.N r r a (.H AM .z r .mk)) (.h r (.N r r a (.AD r r r .mk)) (.h r (.N r r a (.AD r r r .mk)) (.X r ?_))));refine .N r r a (.x (.c call234 r r) (.o [1,1,1,1] r) r (pB (I:=F) (b5:=b5) (b6:=b6) (b7:=b7) (b8:=b8) V:) λ_ _ _ s u=>?_);obtain⟨_,rfl,rfl,V⟩:=u;have⟨g,W,e⟩:=s.u3 b W e;refine .rx 6 r (.v 6 r (.U r (.N r r a (.H AM .p4 r .mk)) (.U r (.N r r a (.fo EV 0 r D5 .mk)) tv)) (.h r (.N r r a (.ne r r r r .mk)) (.h r (.pickF r a r r r .mk) (.e2 11 (.L 4295196741 r (.drop .p4 (.A r V (λx V=>?_) λx V=>?_)))))))
   . exact .F (.bd BZ EV GP r (.R AR .p4 r (.D 1 196 r (.J (DF r (.w BI AR r .p4 r (.t r .n)) g (.o SH r) ⟨(CK,4),_,_,r,(.nil _ none 0),r,V⟩)))))
   exact .O 229445 r (.C (.G 2 r (.I (je (AJ (d+1)) V g gG r))))
 refine .en 69 r (.M 1 r ?_);refine .ca call278 r (AdU W V:) λ_ _ A B=>?_;obtain⟨i,_,_,rfl,J,V⟩:=B;have⟨C,W⟩:=A.u2 b W;exact .G 2 r (.R AR .p4 r (.D 1 196 r (.J (DF r (.w BI AR r .p4 r (.t r .n)) C (.o SH r) ⟨(i.1,i.2),_,_,r,J,r,V⟩))))
theorem AhA {a0 a1 a2 a3 a4 Q} (V:RepSl gP I p1 c2 a4) (U:fS a0 a1 a2 a3 a4 Q) :
  B7 prog 169 [vi a0,vi a1,vi a2,vi a3,.slice p1 a4.length c2] I (AwK Q):=by
 refine Fun.ee func169 ntmps169 r (.F (.box1 r r r r λk=>.box1 r r r r λl=>.box1 r r r r λm=>.box1 r r r r λp=>.al BZ r λ_=>.D 1 1520 r (.B (.F (.H AM .p4 r (.q call232 (eL (I:=I) U:) r λ_ U=>.G 2 r (.T U [14,15] r (λd U=>?_) λd U=>?_)))))))
 . exact .D 6 2098672 r (.Q r r (.F (.bd BZ EV GP r (.R AR .z r (.D 1 3072 r (.drop .p1 (.drop .p1 (.drop .p1 (.drop .p1 (.J (B6 r (.w BI AR r .z r (.t r .n)) rf ⟨(CK,3),_,_,r,(.nil _ _ _),U⟩)))))))))))
 refine .P r (.H AM .p3 r (.P r (.H AM .p2 r (.P r (.H AM .p1 r ?_)))));refine .P r (.AC call153 r (aJ (I:=I) U:) r r λ_ g=>?_);obtain⟨_,rfl,U⟩:=g;refine .D 2 2098672 r (.A r U (λh U=>?_) λh U=>?_)
 . exact .F (.bd BZ EV GP r (.R AR .z r (.D 1 3072 r (.drop .p1 (.drop .p1 (.drop .p1 (.drop .p1 (.J (B6 r (.w BI AR r .z r (.t r .n)) rf ⟨(CK,3),_,_,r,(.nil _ _ _),U⟩)))))))))
 refine .O 1520 r (.M 1 r (.H AM .p3 r (.mkFn r r r r ?_)));refine .x (.f call233 r) (.o [4,3,2,1] r) r (pC (b5:=k) (b6:=l) (b7:=m) (b8:=p) V U:) λ_ _ _ a j=>?_;obtain⟨b,_,_,rfl,q,rfl,U⟩:=j;have V:=a.u1 V;exact .rn 5 r (.G 2 r (.R AR .p4 r (.D 1 3072 r (.drop .z (.drop .z (.drop .z (.drop .z (.J (B6 r (.w BI AR r .z r (.t r .n)) a ⟨(b.1,b.2),_,_,r,q,U⟩)))))))))
theorem aR {a0 Q} (d:lTm I gm1 a0) (O:LX a0 Q) :
  Fun prog 243 #[.agg (ZL a0 gm1)] I [] (λV v l=>∃ r p3 c4,v=.tuple #[.slice p3 r.1.length c4,vi r.2]∧RepSl EZ V p3 c4 r.1∧l=[]∧Q r):=by
 refine Fun.ee func243 ntmps243 r (.F (.y r λ_=>?_));refine .D 2 2 r (.B (.dr [0,1,2,3,4,5,7,8,9,10,6,11,12,13] 14 (.K 1 r (.W dM 0 r (.K 1 r (.h r (.Z D0 BJ r .z (.o 5 r) r r r .mk) (.K 1 r (.h r (.Z isAgg266 sizeOf266 r .z (.o 6 r) r r r .mk) (.K 1 r ?_)))))))));refine .W OS 0 r (.K 1 r (.W ia4 0 r (.X r ?_)));refine .ca call285 r (yG d.2.2.1 O:) λ_ _ b e=>?_;obtain⟨_,_,rfl,a,O⟩:=e;have d:=b.u1 d;refine .v 1 r (.U r (.H ia4 .z r .mk) (.u 1 r r (.U r (.H OS .z r .mk) (.u 1 r r (.U r (.Z D0 BJ r .z (.o 5 r) r r r .mk) (.u 1 r r (.U r (.H dM .z r .mk) (.u 1 r r tv)))))))) (.X r ?_);refine .ca call284 r (Ah9 d.1 a d.2.2.2 O:) λ_ _ g i=>?_;obtain⟨c,_,_,rfl,k,O⟩:=i;have⟨j,d,a⟩:=g.u3 b d a;exact .v 1 r tv (.K 2 r (.e2 14 (.D 2 12 r (.drop .z (.J (DF r (.t r (.t r .n)) j .n ⟨(c.1,c.2),_,_,r,k,r,O⟩))))))
theorem aS {a0 Q} (d:lTm I gm1 a0) (O:LY a0 Q) :
  Fun prog 242 #[.agg (ZL a0 gm1)] I [] (λV v l=>∃ r p3 c4,v=.tuple #[.slice p3 r.1.length c4,vi r.2]∧RepSl EZ V p3 c4 r.1∧l=[]∧Q r):=by
 refine Fun.ee func242 ntmps242 r (.F (.y r λ_=>?_));refine .D 2 2 r (.B (.dr [0,1,2,3,4,5,7,8,9,10,6,11,12,13] 14 (.K 1 r (.W dM 0 r (.K 1 r (.h r (.Z HN EI r .z (.o 6 r) r r r .mk) (.K 1 r (.h r (.Z isAgg266 sizeOf266 r .z (.o 6 r) r r r .mk) (.K 1 r ?_)))))))));refine .W OS 0 r (.K 1 r (.W ia4 0 r (.X r ?_)));refine .ca call240 r (aM d.2.2.1 O:) λ_ _ b e=>?_;obtain⟨_,_,_,rfl,a,O⟩:=e;have d:=b.u1 d;refine .v 1 r (.U r (.H ia4 .z r .mk) (.u 1 r r (.U r (.H OS .z r .mk) (.u 1 r r (.U r (.Z HN EI r .z (.o 6 r) r r r .mk) (.u 1 r r (.U r (.H dM .z r .mk) (.u 1 r r tv)))))))) (.X r ?_);refine .ca call283 r (Ah7 d.2.1 a d.2.2.2 O:) λ_ _ g i=>?_;obtain⟨c,_,_,rfl,k,O⟩:=i;have⟨j,d,a⟩:=g.u3 b d a;exact .v 1 r tv (.K 2 r (.e2 14 (.D 2 12 r (.drop .z (.J (DF r (.t r (.t r .n)) j .n ⟨(c.1,c.2),_,_,r,k,r,O⟩))))))
theorem Aa1 {a0 Q} (V:lTm I gm1 a0) (D:WF a0 Q) :
  B7 prog 172 [.agg (ZL a0 gm1)] I (λI_ v=>∃ r p3 c4,v=.tuple #[.slice p3 r.1.length c4,vi r.2.1,vi r.2.2]∧RepSl EZ I_ p3 c4 r.1∧Q r):=by
 refine Fun.ee func172 ntmps172 r (.F (.y r λ_=>?_));refine .D 3 2 r (.B (.dr [0,1,2,3,4,5,8,9,6,7,10,11] 12 (.K 1 r (.W isAgg195 0 r (.K 1 r (.h r (.Z HN EI r .z (.o 6 r) r r r .mk) (.K 1 r (.h r (.Z isAgg266 sizeOf266 r .z (.o 6 r) r r r .mk) (.K 1 r ?_)))))))));refine .h r (.Z D0 BJ r .z (.o 5 r) r r r .mk) (.X r ?_);refine .ca call240 r (aM V.2.2.1 D:) λ_ a2 a k=>?_;obtain⟨_,_,_,rfl,E,D⟩:=k;have V:=a.u1 V;refine .v 1 r (.U r (.Z D0 BJ r .z (.o 5 r) r r r .mk) (.u 1 r r (.U r (.Z HN EI r .z (.o 6 r) r r r .mk) (.u 1 r r (.U r (.H isAgg195 .z r .mk) (.u 1 r r tv)))))) (.X r (.q call239 (Ah1 V.2.1 E D:) r λ_ D=>?_));refine .v 1 r (.U r (.Z D0 BJ r .z (.o 5 r) r r r .mk) (.u 1 r r (.U r (.H isAgg195 .z r .mk) (.u 1 r r tv)))) (.X r (.q call241 (Ah2 V.1 D:) r λ_ D=>.v 1 r (.U r (.H isAgg195 .z r .mk) (.u 1 r r tv)) (.X r (.q call238 (kT (I:=a2) D:) r λi D=>?_))));refine .v 1 r tv (.e2 12 (.G 1 r (.ns 34 r (.S isAgg269 sizeOf269 .z r (.mkFn r r r r (.D 1 98 r (.B (.F (.D 2 16777314 r (.A r D (λq D=>?_) λq D=>?_))))))))))
 . refine .C (.S isAgg269 sizeOf269 .z r (.mkFn r r r r (.D 1 96 r (.drop .z (.M 1 r ?_)))));refine .x (.c call243 r r) .n r (aR V D:) λ_ _ _ u w=>?_;obtain⟨d,_,_,rfl,F,rfl,D⟩:=w;have⟨e,V⟩:=u.u2 a V;refine .rn 0 r (.D 5 416 r (.B (.F (.D 2 8589935008 r (.A r D (λx D=>?_) λx D=>?_)))))
   . exact .F (.D 4 28 r (.J (B6 r (.t r (.t r (.t r .n))) e ⟨(([]:List BK),0,d.2),_,_,r,(.nil _ _ _),D⟩)))
   exact .O 416 r (.F (.D 6 28 r (.J (B6 r (.t r (.t r (.t r .n))) e ⟨(d.1,i,d.2),_,_,r,F,D⟩))))
 refine .O 96 r (.drop .z (.M 1 r ?_));refine .x (.c call242 r r) .n r (aS V D:) λ_ _ _ A B=>?_;obtain⟨f,_,_,rfl,C,rfl,D⟩:=B;have⟨b,V⟩:=A.u2 a V;refine .rn 0 r (.D 5 416 r (.B (.F (.D 2 8589935008 r (.A r D (λg D=>?_) λg D=>?_)))))
 . exact .F (.D 4 28 r (.J (B6 r (.t r (.t r (.t r .n))) b ⟨(([]:List BK),0,f.2),_,_,r,(.nil _ _ _),D⟩)))
 exact .O 416 r (.F (.D 6 28 r (.J (B6 r (.t r (.t r (.t r .n))) b ⟨(f.1,i,f.2),_,_,r,C,D⟩))))
theorem hZ {o0 o1 o2 o3 a0 Q} (h:RepSl BX I p6 c7 o0.Items) (O:RepSl B2 I p10 c11 o1.Draws) (U:X6 I gf14 o2) (d:PD o0 o1 o2 o3 a0 Q) :
  Fun prog 142 #[vi a0,vp b5,vp b9,vp b13,vp b16] I [pc b5 #[vi o0.N,.slice p6 o0.Items.length c7] 125,pc b9 (F0 o1 p10 c11) 25,pc b13 (EO o2 gf14) 47,pc b16 #[vi o3] 3] (λ_ v l=>∃ r,v=.tuple #[vi r.1,vi r.2.1,.bool r.2.2]∧l=[pc b5 #[vi o0.N,.slice p6 o0.Items.length c7] 125,pc b9 (F0 o1 p10 c11) 25,pc b13 (EO o2 gf14) 47,pc b16 #[vi o3] 3]∧Q r):=by
 refine Fun.ee func142 ntmps142 r (.M 3 r (.ns 31 r (.S BI AR .z r (.G 1 r (.q call143 (Ah5 h d:) r λ_ d=>.G 5 r (.ns 1567 r (.S FV F9 .p1 r (.S FW CJ .p2 r (.H AM .p3 r (.G 3 r (.q call144 (zY O U d:) r λa d=>?_)))))))))));exact .D 6 478 r (.J (DF r (.t r (.t r (.t r .n))) rf (.o SH r) ⟨(a.1,a.2.1,a.2.2),r,r,d⟩))
theorem lE {o0 o1 o2 o3 a0 a1 Q} (J:RepSl BX I p6 c7 o0.Items) (O:RepSl B2 I p10 c11 o1.Draws) (U:X6 I gf14 o2) (d2:X6 I gf17 a0) (D:MO o0 o1 o2 o3 a0 a1 Q) :
  Fun prog 81 #[.agg (EO a0 gf17),vi a1,.func (.func 142) #[] #[vp b5,vp b9,vp b13,vp b16]] I [pc b5 #[vi o0.N,.slice p6 o0.Items.length c7] 125,pc b9 (F0 o1 p10 c11) 25,pc b13 (EO o2 gf14) 47,pc b16 #[vi o3] 3] (fun Z v l=>∃ r a5,v=.agg (EO r a5)∧X6 Z a5 r∧l=[pc b5 #[vi o0.N,.slice p6 o0.Items.length c7] 125,pc b9 (F0 o1 p10 c11) 25,pc b13 (EO o2 gf14) 47,pc b16 #[vi o3] 3]∧Q r):=by
 refine Fun.ee func81 ntmps81 r (.F (.y r fun _=>.al MR r fun _=>.V 78 1 r (.H AM .p1 r (.G 1 r (.H AM .p1 r (.bd MR bO gQ r (.al MR r fun a6=>?_)))))))
 refine .R CJ .z r (.L 198 r (.drop .p2 (.F (.D 1 454 r (.B (.F (.D 2 786886 r (.E (.own0 B2 2 (.own0 B2 2 (.own0 B2 3 (.lx D [18,7,6,2,1] [5,5,5,5,4] r (fun j E l (e,f,h,g)=>fun c w=>∃ m p q s t u,j ⟨52,[],none⟩ (fun Z=>True) ((8,.slice t h.length u) :: (19,vi g) :: E) (pc a6 #[vi a0.Low,vi a0.High,.slice m e.length p,.slice q f.length s,.slice none 0 0] 47 :: OwnSl B2 2 m p e :: OwnSl B2 2 q s f :: OwnSl B2 3 t u h :: l) c w) (fun c w V W=>⟨_,_,_,_,_,_,jf rf tv [3,2,1,0,1,1,1,1,0] r V W⟩) ?_))))))))))))
 rintro ⟨e,f,h,g⟩ _ D c w ⟨m,p,q,s,t,u,_,k,_,d0,d1⟩
 obtain ⟨J,O,U⟩:=k.u3 J O U
 refine Cod.at d0 d1 (.F (.D 1 1835462 r (.B (.A r D (fun a7 D=>?_) fun a7 D=>?_))))
 · refine .O 786886 r (.B (.E (.M 2 r (.V 787398 2 r ?_))))
   refine .x (.c call142 r r) (.o [4,4,4,4] r) r (hZ (b5:=b5) (b9:=b9) (b13:=b13) (b16:=b16) J O U D:) fun _ _ _ G H=>?_
   obtain ⟨d,rfl,rfl,D⟩:=H
   obtain ⟨C,J,O,U⟩:=G.u4 k J O U
   refine .rn 9 r (.D 7 794566 r (.B (.dr [0,1,2,5,6,7,8,3,4,10,999,9,11] 12 (.K 1 r (.W F3 4 r (.K 2 r (.W F3 4 r (.K 1 r (.a (fun b=>.slice (some ⟨b,0,none⟩) 1 1) (fun b=>pc b #[vi d.2.1] 2) r r r r (fun _ _ hL _=>.bs 1 DU dK zv2 r fun b=>.mk (val:=fun b=>.slice (some ⟨b,0,none⟩) 1 1) (atom:=fun b=>pc b #[vi d.2.1] 2) hL b) (.X r (.bs 1 DU dK zv2 r fun _=>?_)))))))))))
   refine .v 10 r (.u 1 r r (.U r (.H F3 .p5 r .mk) (.u 1 r r (.U r (.H F3 .p5 r .mk) (.u 1 r r tv))))) (.X r ?_)
   obtain ⟨a8,D⟩:=D
   refine .ap (ys:=[d.1]) .p6 DU DU IN2 r (.box .z (.one r) r) a8 fun _ _=>.v 10 r (.u 1 r r (.U r (.H F3 .p6 r .mk) (.u 1 r r tv))) (.K 1 r (.b r fun _=>DrawD.nop (.X r ?_)))
   obtain ⟨K,D⟩:=D
   refine .ap (ys:=[d.2.1]) .p7 DU DU IN2 r (.box (.o 10 r) (.one r) r) K fun _ _=>.v 11 r (.u 1 r r tv) (.X r ?_)
   refine .s1 sizeOf23 .p7 r (.O 11 r r r tv (.e2 12 (.G 1 r (.s1 sizeOf23 .p7 r (.L 791494 r (.drop .p2 (.drop .p9 (.F (.D 1 2199024042950 r (.A r D (fun a9 D=>?_) fun a9 D=>?_))))))))))
   · refine .C (.G 2 r (.bs 1 B0 D5 pG r fun _=>?_))
     obtain ⟨P,D⟩:=D
     exact .ap (ys:=[g]) .p8 B0 B0 IN3 r (.box .z (.one r) r) P fun _ _=>.D 1 786886 r (.drop .p1 (.C (.G 2 r (.I fun c w V W=>⟨_,D,_,_,_,_,_,_,jf C tv [7,2,1,0,0,0,0,0,0] r V W⟩))))
   exact .O 786886 r (.C (.G 2 r (.I fun c w V W=>⟨_,D,_,_,_,_,_,_,jf C tv [6,1,0,4,0,0,0,0,0] r V W⟩)))
 refine .en 454 r (.M 2 r (.pub .p3 fun _ R x=>?_))
 obtain ⟨S,J,O,U⟩:=R.u4 k J O U
 refine .ca call132 r (VA x D:) fun _ _ b0 b1=>?_
 obtain ⟨a3,_,_,rfl,i,D⟩:=b1
 obtain ⟨c0,J,O,U,x⟩:=b0.u5 S J O U x
 refine .G 1 r (.s1 sizeOf45 .z r (.ns 196 r (.S FW CJ .z r (.R CJ .p7 r (.L 68 r (.drop .z (.pub .p1 fun _ X y=>?_)))))))
 obtain ⟨Y,J,O,U,i⟩:=X.u5 c0 J O U i
 refine .pub .z fun _ c1 a4=>?_
 obtain ⟨a2,J,O,U,i,y⟩:=c1.u6 Y J O U i y
 exact .J (DF r (.w FW CJ r .p4 r .n) a2 (.o SH r) ⟨({ a0 with A:=e,B:=f,On:=a3 }:State),((_,_),(_,_),(_,_)),r,⟨a4,y,i⟩,r,D⟩)
theorem jE {a0 a1 a2 a3 Q} (U:RepSl B2 I p1 c2 a0.Draws) (W:X6 I gf4 a1) (V:RepSl BX I p6 c7 a3.Items) (O:S9 a0 a1 a2 a3 Q) :
  B7 prog 90 [.agg (F0 a0 p1 c2),.agg (EO a1 gf4),vi a2,.agg #[vi a3.N,.slice p6 a3.Items.length c7]] I (λI_ v=>∃ r Z,v=.agg (EO r Z)∧X6 I_ Z r∧Q r):=by
 refine Fun.ee func90 ntmps90 r ?_;refine .F (.y r λa4=>.y r λa5=>.box1 r r r r λa6=>?_);refine .y r λa7=>.al MR r λ_=>.ns 496 r (.S FV F9 .p4 r (.S FW CJ .p3 r (.ca call84 r (WZ U W O:) λ_ _ d D=>?_)));obtain⟨e,_,rfl,a,O⟩:=D;have⟨U,W,V⟩:=d.u3 U W V;refine .R CJ .p3 r (.V 496 1 r (.H AM .p3 r (.G 1 r (.H AM .p3 r (.D 2 1008 r (.B (.B (.jn O [9,8,7,6,5,4] [4,3,2,1,0] r (λj E l y=>j ((26,.bool y) :: E) l) (λ_ O=>?_) ?_))))))))
 . refine .C (.S BI AR .p1 r (.q call141 (FX V O:) r λ_ O=>.G 2 r (.T O [20,21] r (λG O=>?_) λG O=>?_)))
   . exact .G 5 r (.I (je true O rf [4,3,2,1,0] r))
   exact .G 1 r (.P r (.H AM .p1 r (.G 3 r (.I (je (a3.N != (AJ (e.High - e.Low))) O rf [4,3,2,1,0] r)))))
 refine λy O=>jq r λ_ c=>?_;have⟨g,U,V,a⟩:=c.u4 d U V a;refine .A r O (λH O=>?_) λH O=>?_
 . refine .B (.dr AxK 14 (.K 1 r (.W AM 1 r (.K 1 r (.W AM 1 r (.K 1 r (.W F3 1 r (.K 1 r (.W F3 1 r ?_)))))))));refine .K 1 r (.W OS 1 r (.X r ?_));refine .ca call76 r (CI a.1 O:) λ_ _ K L=>?_;obtain⟨a8,_,_,rfl,b,O⟩:=L;have⟨b0,P,U,V,a⟩:=K.u5 g c U V a;refine .v 5 r (.U r (.H OS .p1 r .mk) (.u 1 r r (.U r (.H F3 .p1 r .mk) (.u 1 r r (.U r (.H AM .p1 r .mk) (.u 1 r r (.U r (.H AM .p1 r .mk) (.u 1 r r tv)))))))) (.X r ?_);refine .ca call76 r (CI a.2.1 O:) λ_ _ S T=>?_;obtain⟨a9,_,_,rfl,i,O⟩:=T;have⟨b1,c0,U,V,a,b⟩:=S.u6 b0 P U V a b;refine .v 5 r (.U r (.H OS .p1 r .mk) (.u 1 r r (.U r (.H AM .p1 r .mk) (.u 1 r r (.U r (.H AM .p1 r .mk) (.u 1 r r tv)))))) (.X r ?_);refine .ca call77 r (GM a.2.2 O:) λ_ _ k c1=>?_;obtain⟨m,_,_,rfl,X,O⟩:=c1;have⟨p,_,U,V,a,b⟩:=k.u6 b1 c0 U V a b;have i:=k.u1 i;exact .v 5 r (.U r (.H AM .p1 r .mk) (.u 1 r r (.U r (.H AM .p1 r .mk) (.u 1 r r tv)))) (.h r (.bd MR bO gQ r .mk) (.e2 14 (.R CJ .p4 r (.L 256 r (.drop .z (.drop .z (.drop .z (.drop .z (.J (B6 r (.w FW CJ r .z r .n) p ⟨({ e with A:=a8,B:=a9,On:=m }:State),((_,_),(_,_),(_,_)),r,⟨b,i,X⟩,O⟩))))))))))
 refine .O 1008 r (.F (.S FW CJ .p1 r (.G 1 r (.mkFn r r r r ?_))));refine .x (.f call81 r) (.o [3,0,0,0] r) r (lE (b5:=a7) (b9:=a4) (b13:=a5) (b16:=a6) V U a a O:) λ_ _ _ s t=>?_;obtain⟨Y,u,rfl,d0,rfl,O⟩:=t;have⟨x,_,U,V,a⟩:=s.u5 g c U V a;exact .rn 5 r (.R CJ .p4 r (.L 256 r (.drop .z (.drop .z (.drop .z (.drop .z (.J (B6 r (.w FW CJ r .z r .n) x ⟨Y,u,r,d0,O⟩))))))))
theorem DV {o0 a0 a1 Q} (h:X7 I gp3 o0) (d:CD o0 a0 a1 Q) :
  Fun prog 166 #[vp b2,vi a0,vi a1] I (VN o0 b2 gp3 p5 c6 b13 p8 c9 b16 b18) (λ_ v l=>∃ r,v=vi r∧l=(VN o0 b2 gp3 p5 c6 b13 p8 c9 b16 b18)∧Q r):=by
 exact Fun.ee func166 ntmps166 r (.M 1 r (.V 7 4 r (.H AM .z r (.G 2 r (.q call231 (AdR (I:=I) d:) r λb d=>.D 1 65 r (.q1 results166 rf TK r ⟨b,r,r,d⟩))))))
theorem DE {o0 a0 Q} (J:X7 I gp3 o0) (V:tQ I gj19 a0) (D:CB o0 a0 Q) :
  Fun prog 160 #[vp b2,.agg (K8 a0 gj19)] I (VN o0 b2 gp3 p5 c6 b13 p8 c9 b16 b18) (fun I_ v l=>∃ r Z a5 a2 a6 a4,v=.tuple #[]∧X7 I_ Z r∧l=(VN r b2 Z a5 a2 b13 a6 a4 b16 b18)∧Q r):=by
 refine Fun.ee func160 ntmps160 r ?_
 refine .F (.y r fun _=>?_)
 refine .L 9 r (.B (.dr Ao0 12 (.K 5 r (.W AM 1 r (.K 4 r (.W AM 1 r (.X r (.x (.f call166 r) (.o nl6 r) r (DV (b2:=b2) (p5:=p5) (c6:=c6) (b13:=b13) (p8:=p8) (c9:=c9) (b16:=b16) (b18:=b18) J D:) fun _ _ _ a d=>?_))))))))
 obtain ⟨b,rfl,rfl,D⟩:=d
 obtain ⟨J,V⟩:=a.u2 J V
 refine .rx 7 r (.v 7 r tv (.e2 12 (.G 1 r (.s1 D5 .p6 r (.L 9 r (.dr zP 11 (.K 4 r (.W isAgg146 0 r (.h r (.S GQ CZ .p6 r .mk) (.X r (.bs 1 AaZ CZ LH r fun _=>?_)))))))))))
 refine .v 8 r (.U r (.H isAgg146 .p1 r .mk) (.u 4 r r tv)) (.X r ?_)
 obtain ⟨e,D⟩:=D
 exact .appendQ (ys:=[({ a0 with From:=b }:AU)]) 136 .p2 AaZ AaZ Ay5 r r r r r r r r r (.box .z (.one ⟨gj19,r,V⟩) r) (List.cons_ne_nil _ _) e r r fun _ _=>.v 8 r (.u 1 r r tv) (.K 2 r (.X r (.s1 sizeOf146 .p2 r (.O 8 r r r tv (.e2 11 (.qIn .z (.I (FR r .n a (.o [2,0,1,1,1,1] r) ⟨({ o0 with out:=(o0.out++([({ a0 with From:=b }:AU)])) }:A3),gp3,_,_,_,_,r,J,r,D⟩))))))))
theorem HH {o0 a0 a1 Q} (J:X7 I gp3 o0) (d:DC o0 a0 a1 Q) :
  Fun prog 101 #[vp b2,vi a0,.bool a1] I (VN o0 b2 gp3 p5 c6 b13 p8 c9 b16 b18) (λW v l=>∃ r U p22 c23 a4 a2,v=.tuple #[]∧X7 W U r∧l=(VN r b2 U p22 c23 b13 a4 a2 b16 b18)∧Q r):=by
 refine Fun.ee func101 ntmps101 r (.M 2 r (.bd LH bF nK r (.al LH r λ_=>.R CZ .z r (.L 71 r (.B (.F (.D 2 2115 r (.A r d (λc d=>?_) λc d=>?_))))))))
 . refine .dr Ao1 10 (.K 3 r (.h r (.Z FV F9 r .p1 (.o 5 r) r r r .mk) (.K 3 r (.h r (.Z FW CJ r .p1 (.o 5 r) r r r .mk) (.K 1 r (.X r (.q call45 (sO J.1 J.2.2.2.2.2 d:) r λ_ d=>?_)))))));refine .v 7 r tv (.e2 10 (.G 1 r (.s1 dK .z r (.V 65 3 r (.s1 sz4 .p1 r (.L 65 r (.C (.G 1 r (.S GQ CZ .z r ?_)))))))));refine .x (.f call160 r) (.o nl6 r) r (DE (I:=I) (o0:=({ o0 with waits:=true }:A3)) (gj19:=((_,_),(_,_),(_,_))) (b2:=b2) (gp3:=gp3) (p5:=p5) (c6:=c6) (b13:=b13) (p8:=p8) (c9:=c9) (b16:=b16) (b18:=b18) J ⟨(.nil _ none 0),(.nil _ none 0),(.nil _ none 0)⟩ d:) λ_ _ _ a g=>?_;obtain⟨p,i,_,_,_,_,rfl,q,rfl,d⟩:=g;have J:=a.u1 J;exact .rn 7 r (.I (FR r .n a (.o TK r) ⟨p,i,_,_,_,_,r,q,r,d⟩))
 refine .O 65 r (.M 3 r (.s1 sz4 .p1 r (.L 65 r (.C (.G 1 r (.S GQ CZ .z r ?_))))));refine .x (.f call160 r) (.o nl6 r) r (DE (I:=I) (o0:=({ o0 with waits:=true }:A3)) (gj19:=((_,_),(_,_),(_,_))) (b2:=b2) (gp3:=gp3) (p5:=p5) (c6:=c6) (b13:=b13) (p8:=p8) (c9:=c9) (b16:=b16) (b18:=b18) J ⟨(.nil _ none 0),(.nil _ none 0),(.nil _ none 0)⟩ d:) λ_ _ _ b k=>?_;obtain⟨s,m,_,_,_,_,rfl,t,rfl,d⟩:=k;have J:=b.u1 J;exact .rn 7 r (.I (FR r .n b (.o TK r) ⟨s,m,_,_,_,_,r,t,r,d⟩))
theorem rG {a0 a1 a2 Q0 Q1 Q2} (U:lTc I gc1 a0) (J:PE a0 a1 a2 Q0 Q1 Q2) :
  Fun prog 55 #[.agg (ZK a0 gc1),vi a1,vi a2] I [] (λW v l=>(∃ r,v=.tuple #[.pointer none,vi r]∧l=[]∧Q0 r)∨(∃ r b3 e5 p6 c7 b14 p9 c10 b17 f5,v=.tuple #[vp b3,vi r.1]∧X7 W e5 r.2∧l=(VN r.2 b3 e5 p6 c7 b14 p9 c10 b17 f5)∧Q1 r)∨(∃ r b3 e6 p6 c7 a9 p9 c10 p12 c13 p15 c16 e7 d9 e8 e1 e9 e3 f0 e4 b0 c0,v=.tuple #[vp b3,vi r.1]∧lTq W e6 r.2∧l=[pc b3 (M3 r.2 e6 p6 c7 a9 p9 c10 p12 c13 p15 c16 e7 d9 e8 e1 e9 e3 f0 e4 b0 c0) 151,OwnSl GG 129 p6 c7 r.2.out,OwnMap vi gP true a9 r.2.shares,OwnSl B2 2 p9 c10 r.2.has.A,OwnSl B2 2 p12 c13 r.2.has.B,OwnSl JT 162 p15 c16 r.2.has.On,OwnSl B2 2 e7 d9 r.2.aside.A,OwnSl B2 2 e8 e1 r.2.aside.B,OwnSl JT 162 e9 e3 r.2.aside.On,OwnSl EZ 254 f0 e4 r.2.sums,OwnMap vi eB false b0 r.2.came,OwnMap vi GG true c0 r.2.votes]∧Q2 r)):=by
 refine Fun.ee func55 ntmps55 r (.F (.y r λ_=>.D 2 14 r (.B (.F (.S dL ZV .z r (.q call50 (V9 U J:) r λd7 J=>.G 1 r (.V 270 2 r (.L 65806 r (.A r J (λQ J=>?_) λQ J=>?_)))))))))
 . exact .F (.D 3 192 r (.drop .z (.J (DF r (.t r (.t r .n)) rf .n (.inl ⟨d7,r,r,J⟩)))))
 refine .O 14 r (.B (.M 3 r (.T J [19,20] r (λb1 J=>?_) λb1 J=>?_)))
 . exact J.elim
 refine .G 2 r (.P r (.H AM .z r (.G 3 r (.T J [24,25,26] r (λb4 J=>?_) λb4 J=>?_))))
 . exact J.elim
 refine .G 4 r (.T J [28,29,30] r (λb6 J=>?_) λb6 J=>?_)
 . exact J.elim
 refine .G 2 r (.P r (.H AM .z r (.D 2 34359738382 r (.A r J (λb7 J=>?_) λb7 J=>?_))))
 . exact J.elim
 refine .O 14 r (.M 1 r (.Z FV F9 r .z (.o 5 r) r r r (.G 1 r (.Z FH CV r .z (.o 2 r) r r r ?_))));refine .ca call78 r (XH U.1 U.2.1 J:) λ_ _ s b9=>?_;obtain⟨_,_,rfl,e,J⟩:=b9;have U:=s.u1 U;refine .G 3 r (.al OL r λ_=>.R BJ .z r (.D 1 526 r (.B (.dr [0,1,2,3,4,5,6,7,8,9,10,11,12,13,14,15,16] 17 (.K 2 r (.h r (.bd sG iO wL r .mk) (.K 1 r (.h r (.Z FV F9 r .p1 (.o 5 r) r r r .mk) (.K 1 r (.W AM 1 r ?_))))))))));refine .K 1 r (.W AM 1 r (.h r (.bd sG iO wL r .mk) (.K 1 r (.W AM 1 r (.K 1 r (.W isAgg31 1 r (.X r ?_)))))));refine .ca call97 r (N8 U.2.2 J:) λ_ _ c1 c2=>?_;obtain⟨a3,Z,a5,rfl,b,J⟩:=c2;have⟨c3,U,e⟩:=c1.u3 s U e;refine .v 2 r (.U r (.H AM .p1 r .mk) (.u 1 r r (.U r (.bd sG iO wL r .mk) (.U r (.H AM .p1 r .mk) (.u 1 r r (.U r (.H AM .p1 r .mk) (.u 1 r r (.U r (.Z FV F9 r .p1 (.o 5 r) r r r .mk) (.u 1 r r (.U r (.bd sG iO wL r .mk) (.u 2 r r tv))))))))))) (.h r (.bd zeroValue151 Ab0 Ay6 r .mk) (.X r ?_));refine .y r λd8=>?_;refine .v 3 r tv (.e2 17 (.G 1 r (.V 2574 3 r (.H F3 .p2 r ?_))));refine .ca call76 r (CI U.1 J:) λ_ _ c5 c8=>?_;obtain⟨a6,a7,a8,rfl,c,J⟩:=c8;have⟨d0,U,e,b⟩:=c5.u4 c3 U e b;refine .G 3 r (.s1 sizeOf23 .z r (.V 2574 1 r (.S D0 BJ .p1 r (.G 1 r (.H AM .p2 r (.G 1 r (.H AM .p2 r (.G 2 r ?_))))))));refine .ca call98 r (AgY e J:) λ_ _ E F=>?_;obtain⟨u,k,rfl,a,J⟩:=F;have⟨G,U,e,b,c⟩:=E.u5 d0 U e b c;refine .G 2 r (.R BJ .z r (.L 2062 r (.drop .p1 (.M 4 r (.Z D0 BJ r .z (.o 5 r) r r r ?_)))));refine .ca call99 r (Ao4 a J:) λ_ w f1 K=>?_;obtain⟨x,m,rfl,d,J⟩:=K;have⟨p,U,b,c,a⟩:=f1.u5 G U b c a;refine .G 2 r (.R EI .z r (.V 2062 3 r (.mkMap vi gP true r r λd1=>.mkMap vi eB false r r λd2=>.mkMap vi GG true r r λd3=>.G 2 r (.s1 sizeOf147 .p3 r (.G 2 r (.s1 sizeOf148 .p3 r (.G 2 r (.s1 sizeOf149 .p3 r (.L 2062 r (.B (.F (.D 2 2535301200456458802993406412810 r ?_))))))))))));refine .A r J (λL J=>?_) λL J=>?_
 . refine .M 2 r (.H AM .p4 r (.D 1 6154 r (.B (.dr [0,1,2,3,4,5,6,8,9,10,11,12,7,13,14,15,16,17] 18 (.K 2 r (.h r (.Z FV F9 r .p4 (.o 5 r) r r r .mk) (.K 2 r (.W AM 4 r (.K 3 r (.W AM 4 r (.K 2 r (.X r (.q call100 (IC (I:=w) J:) r λ_ J=>?_)))))))))))));refine .v 5 r (.u 2 r r (.U r (.H AM .p4 r .mk) (.u 2 r r (.U r (.Z FV F9 r .p4 (.o 5 r) r r r .mk) (.u 2 r r tv))))) (.X r (.q call100 (IC (I:=w) J:) r λ_ J=>?_));refine .v 5 r (.U r (.Z FV F9 r .p4 (.o 5 r) r r r .mk) (.u 2 r r tv)) (.X r ?_);refine .ca call44 r (oZ U.1 J:) λ_ d4 S T=>?_;obtain⟨y,q,rfl,g,J⟩:=T;have⟨f2,U,b,c,a,d⟩:=S.u6 p U b c a d;refine .v 5 r (.u 1 r r tv) (.K 2 r (.X r (.R CJ .p3 r (.O 5 r r r tv (.e2 18 (.L 2048 r (.drop .p4 (.M 4 r (.Z FW CJ r .p3 (.o 5 r) r r r (.G 2 r (.R CJ .p3 r (.L 2048 r ?_))))))))))));refine .C (.G 1 r (.own0 GG 129 (.own0 EZ 254 (.qIn .p1 ?_))));refine .x (.f call101 r) (.o [5,1,3,0,1,0] r) r (HH (I:=d4) (o0:=({ place:=({ i:=a1,j:=a2 }:BC),plan:=({ Kind:=a0.Plan.Kind,N:=a0.Plan.N,Source:=a0.Plan.Source,Length:=a0.Plan.Length,Draws:=a6 }:Plan),grid:=({ i:=a0.R,j:=a0.C }:BC),limit:=a0.Limit,choices:=a3,rows:=u,cols:=x,out:=([]:List AU),share:=1,shares:=([]:List (Int×Vec)),spread:=1,round:=0,status:=0,has:=y,aside:=y,waits:=false,begun:=false,sums:=([]:List BK),came:=([]:List (Int×Bool)),vote:=0,votes:=([]:List (Int×AU)),closed:=false }:A3)) (b2:=d8) (gp3:=((a7,a8),(Z,a5),k,m,q,q)) (p5:=none) (c6:=0) (b13:=d1) (p8:=none) (c9:=0) (b16:=d2) (b18:=d3) ⟨c,b,a,d,g,g⟩ J:) λ_ _ _ f3 X=>?_;obtain⟨d5,Y,_,_,_,_,rfl,d6,rfl,J⟩:=X;have⟨f4,b,c,a,d,g⟩:=f3.u6 f2 b c a d g;exact .rn 6 r (.V 2048 3 r (.L 192 r (.J (DF r (.t r (.t r .n)) f4 (.o TK r) (.inr (.inl ⟨(0,d5),_,Y,_,_,_,_,_,_,_,r,d6,r,J⟩))))))
 refine .O 2048 r (.drop .p4 (.F (.D 3 192 r (.own0 GG 129 (.own0 B2 2 (.own0 B2 2 (.own0 JT 162 (.own0 B2 2 (.own0 B2 2 ?_)))))))));exact .own0 JT 162 (.own0 EZ 254 (.J (DF r (.t r (.t r .n)) p (.o [11,7,9,6,5,4,3,2,1,0,1,0] r) (.inr (.inr ⟨(0,({ place:=({ i:=a1,j:=a2 }:BC),plan:=({ Kind:=a0.Plan.Kind,N:=a0.Plan.N,Source:=a0.Plan.Source,Length:=a0.Plan.Length,Draws:=a6 }:Plan),grid:=({ i:=a0.R,j:=a0.C }:BC),limit:=a0.Limit,choices:=a3,rows:=u,cols:=x,out:=([]:List AU),share:=1,shares:=([]:List (Int×Vec)),spread:=1,round:=0,status:=0,has:=DL,aside:=DL,waits:=false,begun:=false,sums:=([]:List BK),came:=([]:List (Int×Bool)),vote:=0,votes:=([]:List (Int×AU)),closed:=false }:A3)),_,((a7,a8),(Z,a5),k,m),_,_,_,_,_,_,_,_,_,_,_,_,_,_,_,_,_,_,_,r,⟨c,b,a,d⟩,r,J⟩)))))
theorem VS {o0 Q} (h:X7 I gp3 o0) (d:IQ o0 Q) :
  Fun prog 103 #[vp b2] I (VN o0 b2 gp3 p5 c6 b13 p8 c9 b16 b18) (λ_ v l=>∃ r,v=vi r∧l=(VN o0 b2 gp3 p5 c6 b13 p8 c9 b16 b18)∧Q r):=by
 exact Fun.ee func103 ntmps103 r (.F (.D 1 1 r (.B (.M 1 r (.eqNilP AmU r r r r (.L 17 r (.j r r (.O 1 r (.M 3 r (.H AM .z r (.D 1 5 r (.q1 results103 rf TK r ⟨o0.round,r,r,d⟩))))))))))))
theorem XN {o0 a0 Q} (h:K2 o0 a0 Q) :
  Fun prog 103 #[.pointer (mkA a0)] I [CE A9 o0] (λD v l=>∃ r,v=vi r∧l=[CE A9 o0]∧Q r):=by
 rcases a0 with _ | b
 . have h:=h.1 r;exact h.elim
 have⟨_,V,h⟩:=h.2 b rfl;refine Fun.bankR V (λd J=>VS (b2:=b) (gp3:=d.1) (p5:=d.2.1) (c6:=d.2.2.1) (b13:=d.2.2.2.1) (p8:=d.2.2.2.2.1) (c9:=d.2.2.2.2.2.1) (b16:=d.2.2.2.2.2.2.1) (b18:=d.2.2.2.2.2.2.2) J h) ?_;rintro d D v l Z O ⟨W,rfl,rfl,U⟩;exact⟨(d.1,d.2.1,d.2.2.1,d.2.2.2.1,d.2.2.2.2.1,d.2.2.2.2.2.1,d.2.2.2.2.2.2.1,d.2.2.2.2.2.2.2),[],r,A9.mono Z O,W,r,r,U⟩
theorem VT {o0 Q} (d:X7 I gp3 o0) (D:IR o0 Q) :
  Fun prog 161 #[vp b2] I (VN o0 b2 gp3 p5 c6 b13 p8 c9 b16 b18) (λI_ v l=>∃ r V,v=.agg (EO r V)∧X6 I_ V r∧l=(VN o0 b2 gp3 p5 c6 b13 p8 c9 b16 b18)∧Q r):=by
 refine Fun.ee func161 ntmps161 r (.F (.al MR r λ_=>.L 5 r (.B (.M 1 r (.eqNilP AmU r r r r (.L 37 r (.j r r (.O 5 r (.M 3 r (.Z FW CJ r .p1 (.o 5 r) r r r (.al MR r λ_=>?_)))))))))));refine .R CJ .z r (.L 13 r (.B (.dr AxK 14 (.K 1 r (.W AM 0 r (.K 1 r (.W AM 0 r (.K 1 r (.W F3 0 r ?_)))))))));refine .K 1 r (.W F3 0 r (.K 1 r (.W OS 0 r (.X r ?_))));refine .ca call76 r (CI d.2.2.2.2.1.1 D:) λ_ _ b e=>?_;obtain⟨s,_,_,rfl,a,D⟩:=e;have d:=b.u1 d;refine .v 8 r (.U r (.H OS .z r .mk) (.u 1 r r (.U r (.H F3 .z r .mk) (.u 1 r r (.U r (.H AM .z r .mk) (.u 1 r r (.U r (.H AM .z r .mk) (.u 1 r r tv)))))))) (.X r ?_);refine .ca call76 r (CI d.2.2.2.2.1.2.1 D:) λ_ _ g i=>?_;obtain⟨t,_,_,rfl,c,D⟩:=i;have⟨j,d,a⟩:=g.u3 b d a;refine .v 8 r (.U r (.H OS .z r .mk) (.u 1 r r (.U r (.H AM .z r .mk) (.u 1 r r (.U r (.H AM .z r .mk) (.u 1 r r tv)))))) (.X r ?_);refine .ca call77 r (GM d.2.2.2.2.1.2.2 D:) λ_ _ m p=>?_;obtain⟨u,_,_,rfl,x,D⟩:=p;have⟨q,d,a,c⟩:=m.u4 j d a c;exact .v 8 r (.U r (.H AM .z r .mk) (.u 1 r r (.U r (.H AM .z r .mk) (.u 1 r r tv)))) (.h r (.bd MR bO gQ r .mk) (.e2 14 (.R CJ .p1 r (.L 5 r (.drop .z (.J (DF r (.w FW CJ r .z r .n) q (.o nl6 r) ⟨({ Low:=o0.has.Low,High:=o0.has.High,A:=s,B:=t,On:=u }:State),((_,_),(_,_),(_,_)),r,⟨a,c,x⟩,r,D⟩)))))))
theorem XO {o0 a0 Q} (h:K3 o0 a0 Q) :
  Fun prog 161 #[.pointer (mkA a0)] I [CE A9 o0] (λJ v l=>∃ r D,v=.agg (EO r D)∧X6 J D r∧l=[CE A9 o0]∧Q r):=by
 rcases a0 with _ | b
 . have h:=h.1 r;exact h.elim
 have⟨_,W,h⟩:=h.2 b rfl;refine Fun.bankR W (λd O=>VT (b2:=b) (gp3:=d.1) (p5:=d.2.1) (c6:=d.2.2.1) (b13:=d.2.2.2.1) (p8:=d.2.2.2.2.1) (c9:=d.2.2.2.2.2.1) (b16:=d.2.2.2.2.2.2.1) (b18:=d.2.2.2.2.2.2.2) O h) ?_;rintro d J v l a2 U ⟨Z,D,rfl,a,rfl,V⟩;exact⟨(d.1,d.2.1,d.2.2.1,d.2.2.2.1,d.2.2.2.2.1,d.2.2.2.2.2.1,d.2.2.2.2.2.2.1,d.2.2.2.2.2.2.2),[],r,A9.mono a2 U,Z,D,r,a,r,V⟩
theorem XP {o0 o1 Q} (U:W5 I gs4 o0) (O:H0 o0 o1 Q) :
  Fun prog 104 #[vp b3] I (kL4 o0 b3 gs4 b10 p6 c7 o1) (fun Z v l=>∃ r d1,v=.agg (EO r d1)∧X6 Z d1 r∧l=(kL4 o0 b3 gs4 b10 p6 c7 o1)∧Q r):=by
 refine Fun.ee func104 ntmps104 r (.F (.al MR r fun _=>.V 5 5 r (.H AM .p1 r (.bd MR bO gQ r (.al MR r fun c6=>?_)))))
 refine .R CJ .z r (.V 13 1 r (.L 29 r (.B (.M 3 r (.H isAgg86 .p2 r (.ln UX r (.D 1 7340061 r (.E (.own0 B2 2 (.own0 B2 2 (.own0 B2 3 (.lx O [21,20,3,2,0] [5,5,5,4,4] r (fun j E l (g,h,x,y)=>fun c w=>∃ C D F G H J,j ⟨63,[],none⟩ (fun Z=>True) ((4,.slice H x.length J) :: (22,vi y) :: E) (pc c6 #[vi 0,vi o0.setup.Plan.N,.slice C g.length D,.slice F h.length G,.slice none 0 0] 47 :: OwnSl B2 2 C D g :: OwnSl B2 2 F G h :: OwnSl B2 3 H J x :: l) c w) (fun c w V W=>⟨_,_,_,_,_,_,jf rf tv [3,2,1,0,1,1,1,0,0] r V W⟩) ?_))))))))))))
 rintro ⟨g,h,x,y⟩ _ O c w ⟨C,D,F,G,H,J,c1,i,_,a8,d0⟩
 have U:=i.u1 U
 refine Cod.at a8 d0 (.F (.D 1 15728669 r (.B (.A r O (fun a5 O=>?_) fun a5 O=>?_))))
 · refine .O 7340061 r (.B (.E (.F ?_)))
   obtain ⟨c2,_,a6,_,_,c3,a7,O⟩:=U.2.2.ix O
   refine .Y UX sizeOf87 c3 c2 a6 r (.ldb 0 isAgg87 a7 r (.G 1 r (.V 7340125 1 r ?_)))
   refine .x (.f call161 r) (.o [8] r) r (XO (I:=c1) O:) fun _ _ _ a9 b0=>?_
   obtain ⟨e,_,rfl,a,rfl,O⟩:=b0
   obtain ⟨b1,U⟩:=a9.u2 i U
   refine .rn 9 r (.al MR r fun _=>.R CJ .z r (.L 7340189 r (.B (.dr [0,1,2,3,5,6,7,8,4,10,9,11] 12 (.K 1 r (.W F3 2 r (.K 1 r (.W F3 0 r (.K 1 r (.W F3 2 r (.K 1 r (.W F3 0 r (.X r ?_)))))))))))))
   obtain ⟨b2,O⟩:=O
   refine .ap (ys:=e.A) .p3 DU DU IN2 r (.imm a.1 r) b2 fun _ _=>.v 10 r (.U r (.H F3 .p1 r .mk) (.u 1 r r (.U r (.H F3 .p3 r .mk) (.u 1 r r tv)))) (.K 1 r (.X r ?_))
   obtain ⟨b4,O⟩:=O
   refine .ap (ys:=e.B) .p4 DU DU IN2 r (.imm a.2.1 r) b4 fun _ _=>?_
   refine .v 10 r (.u 1 r r tv) (.X r ?_)
   refine .s1 sizeOf23 .p4 r (.O 10 r r r tv (.e2 12 (.G 1 r (.s1 sizeOf23 .p4 r (.V 7340189 1 r (.H OS .p2 r ?_))))))
   refine .ca call162 r (AdS a.2.2 O:) fun _ _ b5 b6=>?_
   obtain ⟨_,_,_,rfl,k,O⟩:=b6
   obtain ⟨d2,U,a⟩:=b5.u3 b1 U a
   refine .ln B0 r (.D 1 30786332917917 r (.E (.lx O [43,42,22,21,20,7,3,2,0] [6,6,6,6,4,1,0,0,0] r (fun j E l (b,m)=>fun c w=>∃ p q,j ⟨63,[],none⟩ (fun Z=>True) ((4,.slice p b.length q) :: (44,vi m) :: E) (OwnSl B2 3 p q b :: l) c w) (fun c w V W=>⟨_,_,jf rf tv [5,5,5,5,5,4,1,0,0,0] r V W⟩) ?_)))
   rintro ⟨b,m⟩ _ O c w ⟨p,q,_,u,_,a8,d0⟩
   obtain ⟨P,U,a,k⟩:=u.u4 d2 U a k
   refine Cod.at a8 d0 (.F (.D 1 65970705006749 r (.B (.A r O (fun R O=>?_) fun R O=>?_))))
   · refine .O 30786332917917 r (.B (.E (.F ?_)))
     obtain ⟨b7,K,S,_,_,b8,T,O⟩:=k.ix O
     refine .Y B0 D5 b8 b7 S r (.ldb 0 AM T r (.D 1 30786332918429 r (.C (.G 2 r (.H AM .p8 r (.G 2 r (.bs 1 B0 D5 pG r fun _=>?_)))))))
     obtain ⟨d3,O⟩:=O
     exact .ap (ys:=[AJ (e.Low+K)]) .p1 B0 B0 IN3 r (.box .z (.one r) r) d3 fun _ _=>.D 1 30786332917917 r (.drop .p1 (.C (.G 2 r (.I fun c w V W=>⟨_,O,_,_,jf u tv [0,0,0,0,0,0,0,0,0,0] r V W⟩))))
   exact .en 7340061 r (.drop .p8 (.C (.G 2 r (.I fun c w V W=>⟨_,O,_,_,_,_,_,_,jf P tv [5,5,5,0,0,0,0,0,0] r V W⟩))))
 refine .en 29 r (.M 1 r (.H AM .z r (.G 1 r (.pub .p3 fun _ d4 s=>?_))))
 obtain ⟨d5,U⟩:=d4.u2 i U
 refine .ca call132 r (VA s O:) fun _ _ Y d6=>?_
 obtain ⟨b9,_,_,rfl,d,O⟩:=d6
 obtain ⟨a0,U,s⟩:=Y.u3 d5 U s
 refine .G 1 r (.s1 sizeOf45 .z r (.ns 13 r (.S FW CJ .z r (.R CJ .p6 r (.L 5 r (.drop .z (.pub .p1 fun _ a1 t=>?_)))))))
 obtain ⟨a2,U,d⟩:=a1.u3 a0 U d
 refine .pub .z fun _ a3 c0=>?_
 obtain ⟨a4,U,d,t⟩:=a3.u4 a2 U d t
 exact .J (DF r (.w FW CJ r .p3 r .n) a4 (.o [0,0,0,1] r) ⟨({ Low:=0,High:=o0.setup.Plan.N,A:=g,B:=h,On:=b9 }:State),((_,_),(_,_),(_,_)),r,⟨c0,t,d⟩,r,O⟩)
theorem SN {o0 o1 Q} (V:W5 I gs4 o0) (D:EN o0 o1 Q) :
  Fun prog 58 #[vp b3] I (kL4 o0 b3 gs4 b10 p6 c7 o1) (fun I_ v l=>∃ r Z p15 c16,v=.tuple #[]∧W5 I_ Z r∧l=(kL4 r b3 Z b10 p15 c16 o1)∧Q r):=by
 refine Fun.ee func58 ntmps58 r (.B (.M 3 r (.H isAgg86 .z r (.ln UX r (.D 1 897 r (.E (.lp D [8,7,0] SH r (fun j E l b=>j ((9,vi b) :: E) l) (ji rf SH r) ?_)))))))
 refine fun b _ D=>jq r fun A a=>?_
 have V:=a.u1 V
 refine .F (.D 1 1921 r (.B (.A r D (fun e D=>?_) fun e D=>?_)))
 · refine .O 897 r (.B (.E (.F ?_)))
   obtain ⟨B,_,g,_,_,C,i,D⟩:=V.2.2.ix D
   refine .Y UX sizeOf87 C B g r (.ldb 0 isAgg87 i r (.D 1 905 r (.B (.dr [0,2,3,4,5,6,1,7] 8 (.K 4 r (.W isAgg89 0 r (.h r (.ln AfU r .mk) (.X r ?_))))))))
   refine .x (.f call103 r) (.o [3] r) r (XN (I:=A) D:) fun _ _ _ m p=>?_
   obtain ⟨_,rfl,rfl,D⟩:=p
   obtain ⟨c,V⟩:=m.u2 a V
   refine .rx 4 r (.v 4 r (.U r (.ln AfU r .mk) (.U r (.H isAgg89 .p1 r .mk) (.u 3 r r tv))) (.K 1 r (.e2 8 (.L 1049473 r (.A r D (fun q D=>?_) fun q D=>?_)))))
   · exact .J (DF r .n c (.o [1,1,1,0] r) ⟨o0,gs4,_,_,r,V,r,D⟩)
   exact .O 897 r (.C (.G 2 r (.I (je (AJ (b+1)) D c [1,1,1,0] r))))
 refine .en 1 r (.dr Ao0 12 (.K 4 r (.W isAgg89 0 r (.K 1 r (.X r ?_)))))
 refine .x (.f call104 r) (.o SH r) r (XP (b3:=b3) (b10:=b10) (p6:=p6) (c7:=c7) V D:) fun _ _ _ t u=>?_
 obtain ⟨d,w,rfl,a2,rfl,D⟩:=u
 obtain ⟨x,V⟩:=t.u2 a V
 refine .rx 4 r (.v 4 r (.U r (.H isAgg89 .z r .mk) (.u 4 r r tv)) (.X r (.bs 1 AfU CJ MR r fun _=>.v 5 r (.U r (.H isAgg89 .p1 r .mk) (.u 4 r r tv)) (.X r ?_))))
 obtain ⟨y,D⟩:=D
 exact .ap (ys:=[d]) .p3 AfU AfU AzA r (.box .z (.one ⟨w,r,a2⟩) r) y fun _ _=>.v 5 r (.u 1 r r tv) (.K 2 r (.X r (.s1 sizeOf89 .p2 r (.O 5 r r r tv (.e2 12 (.I (FR r .n x (.o [2,2,0,1] r) ⟨({ o0 with history:=(o0.history++([d])) }:A6),gs4,_,_,r,V,r,D⟩)))))))
theorem eS {o0 o1 a0 Q0 Q1} (V:lTc I gc3 a0) (U:PF o0 o1 a0 Q0 Q1) :
  Fun prog 26 #[.agg (ZK a0 gc3)] I [CE A9 o0,CE BD o1] (λI_ v l=>(∃ r,v=.tuple #[.pointer none,vi r.1]∧l=[CE A9 r.2,CE BD o1]∧Q0 r)∨(∃ r b5 h6 e7 p8 c9,v=.tuple #[vp b5,vi r.1]∧W5 I_ h6 r.2.2∧l=[CE A9 r.2.1,CE BD o1,pc b5 (DD r.2.2 h6 e7 p8 c9) 91,OwnMap IK NV false e7 r.2.2.boxes,OwnSl N3 47 p8 c9 r.2.2.history]∧Q1 r)):=by
 refine Fun.ee func26 ntmps26 r (.F (.y r λ_=>.D 2 2 r (.B (.F (.S dL ZV .z r (.q call50 (V9 V U:) r λh7 U=>.G 1 r (.V 18 2 r (.L 4114 r (.A r U (λe8 U=>?_) λe8 U=>?_)))))))))
 . exact .F (.D 3 12 r (.drop .z (.J (DF r (.t r (.t r .n)) rf (.o PR r) (.inl ⟨(h7,o0),r,r,U⟩)))))
 refine .O 2 r (.F (.S dL ZV .z r (.mkMap IK NV false r r λe5=>.bd zeroValue91 underlying91 AzC r (.y r λe6=>.D 1 34 r (.B (.M 1 r (.H AM .p2 r (.G 1 r (.H AM .p2 r (.D 2 12582946 r (.E (.own0 NV 87 (.own0 NV 87 ?_)))))))))))));refine .lx U [22,5,1] [4,3,4] r (λj E l (k,m,x,e)=>λc w=>∃ F G H J,j ⟨71,[],none⟩ (λI_=>True) ((23,vi x) :: E) (pc e6 #[vi a0.Plan.Kind,vi a0.Plan.N,vi a0.Plan.Source,vi a0.Plan.Length,.slice gc3.1.1 a0.Plan.Draws.length gc3.1.2,vi a0.Graph.N,.slice gc3.2.1.1 a0.Graph.Edges.length gc3.2.1.2,vi a0.R,vi a0.C,vi a0.Room,vi a0.Limit,.slice gc3.2.2.1 a0.Choices.length gc3.2.2.2,.slice F k.length G,.map (some e5),.slice H m.length J,.slice none 0 0] 91 :: OwnSl NV 87 F G k :: OwnSl NV 87 H J m :: CE A9 e :: l) c w) (λc w W Z=>⟨_,_,_,_,jf rf tv [2,1,0,2,1,0,0] r W Z⟩) ?_;rintro⟨k,m,x,e⟩ _ U c w ⟨F,G,H,J,d6,y,_,h9,i0⟩;have V:=y.u1 V;refine Cod.at h9 i0 (.F (.D 1 29360162 r (.B (.A r U (λd3 U=>?_) λd3 U=>?_))))
 . refine .O 12582946 r (.B (.E (.F (.D 2 12583010 r (.B (.dr [0,1,2,3,5,6,7,4,8,9,10,11,12,13] 14 (.h r (.S dL ZV .p4 r .mk) (.K 1 r (.W AM 4 r (.K 2 r (.W AM 4 r (.K 1 r (.X r (.q call56 (kP (I:=d6) U:) r λ_ U=>?_))))))))))))));refine .v 7 r (.u 1 r r (.U r (.H AM .p4 r .mk) (.u 1 r r (.U r (.S dL ZV .p4 r .mk) tv)))) (.X r (.q call57 (aL (I:=d6) U:) r λ_ U=>.v 7 r (.U r (.S dL ZV .p4 r .mk) tv) (.X r (.x (.f call55 r) .n r (rG V U:) λ_ e9 _ d5 g=>?_))));rcases g with g | g | g
   . obtain⟨_,rfl,rfl,U⟩:=g; exact U.elim
   . obtain⟨K,p,d7,f0,f1,f2,f3,f4,f5,f6,rfl,f7,rfl,U⟩:=g;have⟨D,V⟩:=d5.u2 y V;refine .rx 13 r (.v 13 r tv (.K 4 r (.e2 14 (.D 1 12583394 r (.B (.F (.D 2 1099524211170 r (.A r U (λX U=>?_) λX U=>?_))))))))
     . refine .F (.D 3 12 r (.drop .z (.drop .z (.drop .z (.drop .z (.drop .z (.drop .z (.drop .z (.drop .z ?_)))))))));exact .drop .z (.drop .p1 (.drop .p1 (.J (DF r (.t r (.t r .n)) D (.o PR r) (.inl ⟨(K.1,e),r,r,U⟩)))))
     refine .O 12583138 r (.M 4 r (.H isAgg86 .p6 r (.G 1 r (.bs 1 UX sizeOf87 zeroValue87 r λ_=>.bankP (B:=A9) (d7,f0,f1,f2,f3,f4,f5,f6) K.2 f7 (.o [1,1,1,1,1,1,4] r) λY=>?_))));have U:=U p Y;have⟨h8,U⟩:=U;refine .ap (ys:=[(some p)]) .p3 UX UX Au5 r (.box .p1 (.one r) r) h8 λ_ _=>.G 2 r (.s1 sizeOf86 .p3 r (.L 12583138 r (.drop .p2 (.M 1 r (.H AM .p4 r (.G 1 r (.q call57 (aL (I:=e9) U:) r λ_ U=>.D 1 72057594050511010 r (.A r U (λa2 U=>?_) λa2 U=>?_))))))))
     . refine .C (.G 4 r (.H isAgg86 .p2 r (.G 1 r (.bs 1 UX sizeOf87 zeroValue87 r λ_=>?_))));have⟨a3,U⟩:=U;exact .ap (ys:=[(some p)]) .p4 UX UX Au5 r (.box .z (.one r) r) a3 λ_ _=>.G 2 r (.s1 sizeOf86 .p4 r (.L 12582946 r (.drop .p1 (.C (.G 2 r (.I λc w W Z=>⟨_,U,_,_,_,_,jf D tv [3,1,0,0,0,0,0] r W Z⟩))))))
     exact .O 12582946 r (.C (.G 2 r (.I λc w W Z=>⟨_,U,_,_,_,_,jf D tv [2,0,1,0,0,0,0] r W Z⟩)))
   obtain⟨L,q,A,f8,f9,g0,g1,g2,g3,g4,g5,g6,g7,g8,g9,h0,h1,h2,h3,h4,h5,d8,rfl,a,rfl,U⟩:=g;have⟨Q,V⟩:=d5.u2 y V;refine .rx 19 r (.v 19 r tv (.K 4 r (.e2 14 (.D 1 12583394 r (.B (.F (.D 2 1099524211170 r (.A r U (λa4 U=>?_) λa4 U=>?_))))))))
   . refine .F (.D 3 12 r (.drop .z (.drop .z (.drop .z (.drop .z (.drop .z (.drop .z (.drop .z (.drop .z ?_)))))))));exact .drop .z (.drop .z (.drop .z (.drop .z (.drop .z (.drop .z (.drop .z (.drop .p1 (.drop .p1 (.J (DF r (.t r (.t r .n)) Q (.o PR r) (.inl ⟨(L.1,e),r,r,U⟩)))))))))))
   refine .O 12583138 r (.M 4 r (.H isAgg86 (.o 12 r) r (.G 1 r (.bs 1 UX sizeOf87 zeroValue87 r λ_=>.qIn .p2 (.pub .p4 λ_ a5 b=>?_)))));have⟨a6,V,a⟩:=a5.u3 Q V a;refine .pub .p4 λ_ a7 d=>?_;have⟨a8,V,a,b⟩:=a7.u4 a6 V a b;refine .pub .p4 λ_ a9 i=>?_;have⟨b0,V,a,b,d⟩:=a9.u5 a8 V a b d;refine .pub .p4 λ_ b1 s=>?_;have⟨b2,V,a,b,d,i⟩:=b1.u6 b0 V a b d i;refine .pub .p4 λ_ S O=>?_;have⟨b4,V,a,b,d,i⟩:=S.u6 b2 V a b d i;have s:=S.u1 s;refine .pub .p4 λd9 T e0=>?_;have⟨d4,V,a,b,d,i⟩:=T.u6 b4 V a b d i;have⟨s,O⟩:=T.u2 s O;refine .bankP (B:=A9) ((A.1,A.2.1,A.2.2.1,A.2.2.2,((g1,g2),(g3,g4),(g5,g6)),((g7,g8),(g9,h0),(h1,h2))),f8,f9,g0,h3,h4,h5,d8) L.2 ⟨a.1,a.2.1,a.2.2.1,a.2.2.2,⟨b,d,i⟩,⟨s,O,e0⟩⟩ (.o [1,1,1,1,1,1,4] r) λb6=>?_;have U:=U q b6;have⟨b8,U⟩:=U;refine .ap (ys:=[(some q)]) .p3 UX UX Au5 r (.box .p1 (.one r) r) b8 λ_ _=>.G 2 r (.s1 sizeOf86 .p3 r (.L 12583138 r (.drop .p2 (.M 1 r (.H AM .p4 r (.G 1 r (.q call57 (aL (I:=d9) U:) r λ_ U=>.D 1 72057594050511010 r (.A r U (λc0 U=>?_) λc0 U=>?_))))))))
   . refine .C (.G 4 r (.H isAgg86 .p2 r (.G 1 r (.bs 1 UX sizeOf87 zeroValue87 r λ_=>?_))));have⟨c1,U⟩:=U;exact .ap (ys:=[(some q)]) .p4 UX UX Au5 r (.box .z (.one r) r) c1 λ_ _=>.G 2 r (.s1 sizeOf86 .p4 r (.L 12582946 r (.drop .p1 (.C (.G 2 r (.I λc w W Z=>⟨_,U,_,_,_,_,jf d4 tv [3,1,0,0,0,0,0] r W Z⟩))))))
   exact .O 12582946 r (.C (.G 2 r (.I λc w W Z=>⟨_,U,_,_,_,_,jf d4 tv [2,0,1,0,0,0,0] r W Z⟩)))
 refine .en 32 r (.drop .p4 (.M 1 r (.pub .p1 λ_ c2 u=>?_)));have⟨c3,V⟩:=c2.u2 y V;refine .pub .p1 λe1 c4 P=>?_;have⟨c5,V,u⟩:=c4.u3 c3 V u;refine .own0 N3 47 ?_;refine .x (.f call58 r) (.o [1,2,0,0] r) r (SN (I:=e1) (o0:=({ setup:=a0,workers:=k,boxes:=([]:List ((Int×Int)×(Option Nat))),owners:=m,history:=([]:List State) }:A6)) (b3:=e6) (gs4:=(gc3,(F,G),(H,J))) (b10:=e5) (p6:=none) (c7:=0) ⟨V,u,P⟩ U:) λ_ _ _ c8 d0=>?_;obtain⟨e3,d1,_,_,rfl,e4,rfl,U⟩:=d0;have⟨d2,V,u,P⟩:=c8.u4 c5 V u P;exact .rn 5 r (.V 32 3 r (.L 12 r (.J (DF r (.t r (.t r .n)) d2 (.o [3,3,0,0,0] r) (.inr ⟨(0,e,e3),_,d1,_,_,_,r,e4,r,U⟩)))))
theorem NA {o0 o1 a0 Q} (h:W5 I gs4 o0) (d:GA o0 o1 a0 Q) :
  Fun prog 59 #[vp b3,vi a0] I (kL4 o0 b3 gs4 b10 p6 c7 o1) (λ_ v l=>∃ r,v=.bool r∧l=(kL4 o0 b3 gs4 b10 p6 c7 o1)∧Q r):=by
 refine Fun.ee func59 ntmps59 r (.M 1 r (.V 3 1 r (.neNilP AiO r r r r (.G 5 r (.T d [9,10,11] r (λa d=>?_) λa d=>?_)))))
 . exact .G 4 r (.P r (.H isAgg86 .z r (.P r (.ln UX r (.D 3 17 r (.q1 results59 rf SH r ⟨(decide (a0<(o0.workers.length:Int))),r,r,d⟩))))))
 exact .D 9 17 r (.q1 results59 rf SH r ⟨false,r,r,d⟩)
theorem NM {o0 Q} (h:X7 I gp3 o0) (d:F7 o0 Q) :
  Fun prog 105 #[vp b2] I (VN o0 b2 gp3 p5 c6 b13 p8 c9 b16 b18) (λ_ v l=>∃ r,v=vi r∧l=(VN o0 b2 gp3 p5 c6 b13 p8 c9 b16 b18)∧Q r):=by
 exact Fun.ee func105 ntmps105 r (.F (.D 1 1 r (.B (.M 1 r (.eqNilP AmU r r r r (.L 17 r (.j r r (.O 1 r (.M 3 r (.H isAgg146 .z r (.ln AaZ r (.D 1 5 r (.q1 results105 rf TK r ⟨(o0.out.length:Int),r,r,d⟩)))))))))))))
end Go.Proofs.YtcecodhleocefaaGreat
