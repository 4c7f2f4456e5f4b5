/- The walks (printed by a program of ours). -/
import Derived.Test.YtbohadngdkjljaaGreatV1
namespace Go.Proofs.YtbohadngdkjljaaGreat
open Go Go.Fw
set_option linter.unusedVariables false
set_option linter.unusedSimpArgs false
set_option maxRecDepth 8000
set_option maxHeartbeats 1000000
open Tryz
variable {I:IH}
variable {b2 b3 b4 b5 b6 b7 b8 b9 c2 c3 c4 c5 c6 c7 c8 c9 lr b10 b11 b12 b13 b18 b19 b20 b21 b35 b36 b37 b38 b39 b40 b41 b42 b43 b54 b59 c10 c11 c12 c13 c14 c15 c16 c17 c18 c19 c20 c21 c22 c23 c24 c25 c26 c27 c28 c29 c30 c31 c32 c33 c34 c35 c36 c37 c38 c39 c41 c42 c43 c44 c45 c46 c47 c48 c49 c50 c51 c52 c54 c55 c57 c60 c63 c66 c69 c72 c75 c78:Nat}
variable {p1 p2 p3 p4 p5 p6 p7 p8 p9 p10 p11 p12 p13 p14 p15 p16 p17 p18 p19 p20 p21 p22 p23 p24 p25 p26 p27 p28 p29 p30 p31 p32 p33 p34 p35 p36 p37 p38 p40 p41 p42 p43 p44 p45 p46 p47 p48 p49 p50 p51 p53 p54 p56 p59 p62 p65 p68 p71 p74 p77:Option Addr}
variable {Rr:Nat→HA}
theorem bV {a0:AL} {Q:(AL×Bool)→Prop} (hd:KW a0 Q) :
  Fun prog 246 #[.agg (IR a0).toArray] I [] (fun I_ v l=>∃ r,v=.tuple #[.agg (IR r.1).toArray,.bool r.2]∧l=[]∧Q r):=by
 refine Fun.en func246 ntmps246 r fun w0 M=>?_
 refine .sr (.bx r fun a=>?_)
 refine .al KZ r fun b=>?_
 refine .ks 1 r (.nk [2,1] 1 r (.lo BF .p1 r (.ks 1 r (.lo BF .p1 r (.ks 1 r (.lo UT .p1 r (.build KZ nJ nH (.c r r r (.o r) (.c r r r (.o r) (.c r r r (.o r) .n))) (by exact ⟨⟨_,_,r,r,r⟩,⟨⟨_,_,r,r,r⟩,⟨⟨_,_,r,r,r⟩,trivial⟩⟩⟩) r r (.sa CN .z r (.kn 1 [3,2] r ?_)))))))))
 exact .drop .p1 (.ret (KG results246 (.w MQ CN r .z r (.t r .n)) rf .n ⟨(({ From:=a0.To,To:=a0.From,W:=a0.W }:AL),true),r,r,hd⟩))
theorem gH {a0:AK} {Q:AK→Prop} (R3:RepSl BU I p1 c2 a0.Edges) (hd:NX a0 Q) :
  Fun prog 241 #[.agg #[.int .i64 a0.N,.slice p1 a0.Edges.length c2],.func (.func 246) #[] #[]] I [] (fun I_ v l=>∃ r p4 c5,v=.agg #[.int .i64 r.N,.slice p4 r.Edges.length c5]∧RepSl BU I_ p4 c5 r.Edges∧l=[]∧Q r):=by
 refine Fun.en func241 ntmps241 r fun w0 M=>?_
 refine .sr (.bx r fun b8=>?_)
 refine .al MR r fun a8=>?_
 refine .nk [4,2,1] 1 r (.no [5,4,2,1] r (.seq (.sk 1 r (.lo GV .p1 r (.ln CL r (.kn 1 [13,12,11,5,4,2,1] r (.block (.own0 BU 49 (.lx hd [12,11,4,2,1] [2,1] r (fun j E l (a,b)=>fun c w=>∃ e f,j ⟨34,[],none⟩ (fun I_=>True) ((5,.slice e a.length f) :: (13,.int .i64 b) :: E) (OwnSl BU 49 e f a :: l) c w) (fun c w ho hs=>⟨_,_,jf rf trivial [0,1,0] r ho hs⟩) ?_)))))))))
 rintro ⟨a,b⟩ S hd c w ⟨e,f,J,d,_,hok,hsym⟩
 have R3:=d.u1 R3
 refine Cod.at hok hsym (.sr (.kn 1 [14,13,12,11,5,4,2,1] r (.seq (.condP r hd (fun p hd=>?_) fun p hd=>?_))))
 · refine .sn [13,12,11,5,4,2,1] r (.seq (.block (.sr ?_)))
   obtain ⟨k,K,h,hd⟩:=hd
   obtain ⟨U,o134,T,L,q,s⟩:=R3.2 _ _ h
   cases s
   refine .ixa CL CN r L r k (AH h k) r r (.ldW MQ CN q r r r r (.al KZ r fun V=>?_))
   refine .sa CN .z r (.nk [7,13,12,11,5,4,2,1] 1 r (.lw MQ CN .z r ?_))
   have t:=bV (I:=J) (a0:=K) hd
   refine .callS (.c call246 r r) .n t r r fun W X Y u x=>?_
   obtain ⟨m,rfl,rfl,hd⟩:=x
   obtain ⟨i,R3⟩:=u.u2 d R3
   refine .rn 4 r (.ks 3 r (.al KZ r fun Z=>?_))
   refine .sa CN .z r (.kn 1 [9,8,13,12,11,5,4,2,1] r (.drop .p1 (.sr (.kn 1 [23,8,13,12,11,5,4,2,1] r (.condP r hd (fun y hd=>?_) fun y hd=>?_)))))
   · refine .region (.ks 1 r (.lw MQ CN .z r (.buildSlice 1 CL CN KZ r r (.c r r r .n) r r fun a1=>?_)))
     obtain ⟨A,hd⟩:=hd
     refine .append (ys:=[m.1]) 24 .p2 CL CL kL r r r r r r r r r (.box .z (.one r) r) A r r fun a2 a3=>?_
     exact .kn 1 [5,13,12,11,4,2,1] r (.drop .p1 (.drop .p1 (.region (.ks 2 r (.nil' fun c w ho hs=>⟨((a++([m.1])),AJ (b+1)),hd,_,_,jf i trivial [0,0,0] r ho hs⟩)))))
   exact .sn [13,12,11,5,4,2,1] r (.drop .z (.region (.ks 2 r (.nil' fun c w ho hs=>⟨(a,AJ (b+1)),hd,_,_,jf i trivial [0,0,0] r ho hs⟩))))
 refine .en [5,4,2,1] r (.sk 1 r (.lo BF .p1 r (.ks 1 r (.build MR fH nF (.c r r r (.o r) (.c r r r (.o r) .n)) (by exact ⟨⟨_,_,r,r,r⟩,⟨⟨_,_,r,r,r⟩,trivial⟩⟩) r r (.pub .z fun O B g=>?_)))))
 obtain ⟨C,R3⟩:=B.u2 d R3
 have D:=QC (I:=O) (a0:=({ N:=a0.N,Edges:=a }:AK)) g hd
 refine .call call244 r D r r fun a4 a5 F G=>?_
 obtain ⟨P,a6,a7,rfl,R,hd⟩:=G
 obtain ⟨H,R3,g⟩:=F.u3 C R3 g
 exact .sa CT .p1 r (.no [4,1] r (.drop .z (.ret (KG results241 (.w EJ CT r .z r .n) H .n ⟨P,_,_,r,R,r,hd⟩))))
theorem eS {a0:AK} {Q:AK→Prop} (R3:RepSl BU I p1 c2 a0.Edges) (hd:PD a0 Q) :
  BR prog 193 [.agg #[.int .i64 a0.N,.slice p1 a0.Edges.length c2]] I (o5_ Q):=by
 refine Fun.en func193 ntmps193 r fun w0 M=>?_
 refine .sr (.bx r fun l=>?_)
 refine .al MR r fun m=>?_
 refine .ns [2,1] r (.lw EJ CT .p1 r ?_)
 have b:=gH (I:=I) (a0:=a0) R3 hd
 refine .callS (.f call241 r) .n b r r fun g h i a c=>?_
 obtain ⟨d,j,k,rfl,e,rfl,hd⟩:=c
 have R3:=a.u1 R3
 exact .rn 2 r (.sa CT .z r (.no [2] r (.drop .p1 (.ret (BS results193 (.w EJ CT r .z r .n) a ⟨d,_,_,r,e,hd⟩)))))
theorem OT {a1:Int} {Q:(List AL)→Prop} (hd:FR a1 Q) :
  nB prog 280 [.slice none 0 0,.int .i64 a1] I (fun I_ v l=>∃ r p1 c2,v=.slice p1 r.length c2∧l=[OwnSl BU 49 p1 c2 r]∧Q r):=by
 refine Fun.en func280 ntmps280 r fun w0 M=>?_
 refine .sr (.kn 1 [1,0] r (.seq (.sr (.kn 2 [6,1,0] r (.condP r hd (fun a hd=>?_) fun a hd=>?_)))))
 · refine .region ?_
   exact hd.elim
 refine .sn [1,0] r (.seq (.sk 2 r (.capOf CL r r r r (.ks 1 r (.ln CL r (.ks 3 r (.nk [1,0] 2 r (.no [16,1,0] r (.condP r hd (fun b hd=>?_) fun b hd=>?_)))))))))
 · refine .region (.ks 2 r (.capOf CL r r r r (.slZ CL CN r r (Nat.le_refl _) r r r (.ks 1 r ?_))))
   obtain ⟨d,e,hd⟩:=hd
   refine .growN BU 24 CL gX kL r r r r r r r r d e r r fun g f c=>?_
   exact .ks 1 r (.ln CL r (.slZ CL CN r r c tW r r (.ks 1 r (.nk [0] 2 r (.no [4] r (.q1 results280 rf [0] r ⟨([]:List AL),_,_,r,r,hd⟩))))))
 exact .sn [0] r (.sr (.kn 2 [4] r (.own0 BU 49 (.q1 results280 rf [0] r ⟨([]:List AL),_,_,r,r,hd⟩))))
theorem NJ {a0:List (List AL)} {Q:(List AL)→Prop} (R3:RepSl (NN BU) I p1 c2 a0) (hd:DN a0 Q) :
  BR prog 245 [.slice p1 a0.length c2] I (fun I_ v=>∃ r p4 c5,v=.slice p4 r.length c5∧RepSl BU I_ p4 c5 r∧Q r):=by
 refine Fun.en func245 ntmps245 r fun w0 M=>?_
 refine .sk 1 r (.nk [0] 1 r (.no [3,0] r (.seq (.sk 1 r (.ln underlying306 r (.kn 1 [11,10,9,3,0] r (.block (.lp hd [10,9,0] [] r (fun j E l (e,f)=>j ((3,.int .i64 e) :: (11,.int .i64 f) :: E) l) (ji rf [] r) ?_))))))))
 rintro ⟨e,f⟩ T hd
 refine jq r fun L b=>?_
 have R3:=b.u1 R3
 refine .sr (.kn 1 [12,11,10,9,3,0] r (.seq (.condP r hd (fun q hd=>?_) fun q hd=>?_)))
 · refine .sn [11,10,9,3,0] r (.seq (.block (.sr ?_)))
   obtain ⟨n,N,k,hd⟩:=hd
   obtain ⟨Y,o182,V,O,s,t⟩:=R3.2 _ _ k
   obtain ⟨Z,a1,rfl,a2⟩:=t
   refine .ixa underlying306 sizeOf22 r O r n (AH k n) r r (.ld1 (j:=0) GV s r r r r r (.ks 1 r (.nk [5,11,10,9,3,0] 2 r (.ln CL r (.ks 2 r (.nk [3,11,10,9,0] 2 r (.no [20,3,11,10,9,0] r (.condP r hd (fun u hd=>?_) fun u hd=>?_))))))))
   · refine .region ?_
     exact hd.elim
   exact .sn [3,11,10,9,0] r (.region (.ks 2 r (.nil' (je (AJ (e+(N.length:Int)),AJ (f+1)) hd b [] r))))
 refine .en [3,0] r (.sk 1 r ?_)
 have x:=OT (I:=L) hd
 refine .callO call280 r x r r fun a3 a4 a5 y A=>?_
 obtain ⟨a6,a7,a8,rfl,rfl,hd⟩:=A
 obtain ⟨B,R3⟩:=y.u2 b R3
 refine .kn 1 [6,0] r (.seq (.sk 1 r (.ln underlying306 r (.kn 1 [27,26,25,6] r (.block (.lx hd [26,25] [] r (fun j E l (a,g)=>fun c w=>∃ h i,j ⟨36,[],none⟩ (fun I_=>True) ((6,.slice h a.length i) :: (27,.int .i64 g) :: E) (OwnSl BU 49 h i a :: l) c w) (fun c w ho hs=>⟨_,_,jf rf trivial [0] r ho hs⟩) ?_))))))
 rintro ⟨a,g⟩ U hd c w ⟨h,i,a9,d,_,hok,hsym⟩
 obtain ⟨C,R3⟩:=d.u2 B R3
 refine Cod.at hok hsym (.sr (.kn 1 [28,27,26,25,6] r (.seq (.condP r hd (fun D hd=>?_) fun D hd=>?_))))
 · refine .sn [27,26,25,6] r (.seq (.block (.sr ?_)))
   obtain ⟨o,p,m,hd⟩:=hd
   obtain ⟨b0,o281,W,P,F,G⟩:=R3.2 _ _ m
   obtain ⟨b1,b2,rfl,R⟩:=G
   refine .ixa underlying306 sizeOf22 r P r o (AH m o) r r (.ld1 (j:=0) GV F r r r r r (.kn 1 [8,27,26,25,6] r (.region (.ks 2 r ?_))))
   obtain ⟨H,hd⟩:=hd
   refine .append (ys:=p) 24 .z CL CL kL r r r r r r r r r (.imm R r) H r r fun b3 b4=>?_
   exact .kn 1 [6,27,26,25] r (.region (.ks 2 r (.nil' fun c w ho hs=>⟨((a++p),AJ (g+1)),hd,_,_,jf d trivial [0] r ho hs⟩)))
 refine .en [6] r (.sr (.kn 2 [2] r (.pub .z fun b5 J S=>?_)))
 obtain ⟨K,X⟩:=J.u2 C d
 exact .r1 results245 r K ⟨a,_,_,r,S,hd⟩
theorem tE {a0:AK} {Q:AK→Prop} (R3:RepSl BU I p1 c2 a0.Edges) (hd:X0 a0 Q) :
  BR prog 192 [.agg #[.int .i64 a0.N,.slice p1 a0.Edges.length c2]] I (o5_ Q):=by
 refine Fun.en func192 ntmps192 r fun w0 M=>?_
 refine .sr (.bx r fun G=>?_)
 refine .al MR r fun H=>?_
 refine .no [2,1] r (.seq (.dr [0,1,2,3,4,5,6,7,8,9,10] 11 (.fk 1 r (.h r (fun _=>.lo BF .p1 r .mk) (.fk 1 r (.h r (fun _=>.lo GV .p1 r .mk) (.h r (fun _=>.lw EJ CT .p1 r .mk) (.ww r fun ex=>?_))))))))
 have g:=eS (I:=I) R3 hd
 refine .call call193 r g r r fun J K d i=>?_
 obtain ⟨f,y,A,rfl,a,hd⟩:=i
 have R3:=d.u1 R3
 refine .so 2 r r r (.ch r (fun _=>.lo GV .p1 r .mk) (.ck 1 r r (.ch r (fun _=>.lo BF .p1 r .mk) (.ck 1 r r trivial)))) (.h r (fun _=>.field1 fH r GV r r r r .mk) (.ww r fun ex=>?_))
 refine .buildSlice 2 underlying306 sizeOf22 zeroValue22 r r (.c r r r (.c r r r .n)) r r fun L=>?_
 refine .so 3 r r r (.ch r (fun _=>.lo BF .p2 r .mk) (.ck 1 r r trivial)) (.ww r fun ex=>?_)
 refine .pubB (El:=(NN BU)) (ys:=([a0.Edges,f.Edges]:List (List AL))) (k:=2) .z (RepCs.cons (cs:=[.slice p1 a0.Edges.length c2]) ⟨_,_,r,R3⟩ (RepCs.cons (cs:=[.slice y f.Edges.length A]) ⟨_,_,r,a⟩ .nil)) r fun B j b=>?_
 obtain ⟨l,R3,a⟩:=j.u3 d R3 a
 have m:=NJ (I:=B) b hd
 refine .call call245 r m r r fun O C p q=>?_
 obtain ⟨D,P,R,rfl,e,hd⟩:=q
 obtain ⟨s,R3,a,b⟩:=p.u4 l R3 a b
 refine .so 2 r r r (.ch r (fun _=>.lo BF .p1 r .mk) (.ck 1 r r trivial)) (.h r (fun _=>.build MR fH nF (.c r r r (.o r) (.c r r r (.o r) .n)) (by exact ⟨⟨_,_,r,r,r⟩,⟨⟨_,_,r,r,r⟩,trivial⟩⟩) r r .mk) (.ww r fun ex=>?_))
 have t:=QC (I:=C) (a0:=({ N:=a0.N,Edges:=D }:AK)) e hd
 refine .call call244 r t r r fun S T u v=>?_
 obtain ⟨E,U,V,rfl,F,hd⟩:=v
 obtain ⟨x,R3,a,b,e⟩:=u.u5 s R3 a b e
 exact .so 2 r r r trivial (.e2 11 (.sa CT .z r (.no [2] r (.drop .p1 (.ret (BS results192 (.w EJ CT r .z r .n) x ⟨E,_,_,r,F,hd⟩))))))
theorem iM {a0:AK} {Q:AK→Prop} (R3:RepSl BU I p1 c2 a0.Edges) (hd:WE a0 Q) :
  BR prog 121 [.agg #[.int .i64 a0.N,.slice p1 a0.Edges.length c2]] I (o5_ Q):=by
 refine Fun.en func121 ntmps121 r fun w0 M=>?_
 refine .sr (.bx r fun H=>?_)
 refine .al MR r fun J=>?_
 refine .ns [2,1] r (.lw EJ CT .p1 r ?_)
 have d:=tE (I:=I) R3 hd
 refine .call call192 r d r r fun t o b e=>?_
 obtain ⟨u,v,x,rfl,a,hd⟩:=e
 have R3:=b.u1 R3
 have f:=nZ (I:=o) a hd
 refine .call call191 r f r r fun y p g h=>?_
 obtain ⟨A,B,C,rfl,c,hd⟩:=h
 obtain ⟨i,R3,a⟩:=g.u3 b R3 a
 have j:=nY (I:=p) c hd
 refine .call call190 r j r r fun D E k l=>?_
 obtain ⟨q,F,G,rfl,s,hd⟩:=l
 obtain ⟨m,R3,a,c⟩:=k.u4 i R3 a c
 exact .sa CT .z r (.no [2] r (.drop .p1 (.ret (BS results121 (.w EJ CT r .z r .n) m ⟨q,_,_,r,s,hd⟩))))
theorem Z3 {a0:AK} {Q:(Rows×Int)→Prop} (R3:RepSl BU I p1 c2 a0.Edges) (hd:SQ a0 Q) :
  BR prog 122 [.agg #[.int .i64 a0.N,.slice p1 a0.Edges.length c2]] I (o8_ Q):=by
 refine Fun.en func122 ntmps122 r fun w0 M=>?_
 refine .sr (.bx r fun b5=>?_)
 refine .al FO r fun b6=>?_
 refine .kn 1 [2,1] r (.seq (.sr (.lw EJ CT .p1 r ?_)))
 have H:=MD (I:=I) R3 hd
 refine .cq call119 H r fun X hd=>?_
 refine .ks 1 r (.nk [4,2,1] 2 r (.no [11,4,2,1] r (.condP r hd (fun J hd=>?_) fun J hd=>?_)))
 · exact .sr (.build FO OQ OP .n (by exact trivial) r r (.ks 1 r (.sa BH .z r (.kn 1 [3,2] r (.drop .p1 (.ret (BS results122 (.w CF BH r .z r (.t r .n)) rf ⟨(({ Rows:=0,Cols:=0,Start:=([]:List Int),Col:=([]:List Int),Val:=([]:List Int) }:Rows),X),_,_,_,_,_,_,r,(.nil _ _ _),(.nil _ _ _),(.nil _ _ _),hd⟩)))))))
 refine .sn [2,1] r (.sr (.kn 1 [5,2,1] r (.seq (.sr (.lw EJ CT .p1 r ?_)))))
 have K:=eS (I:=I) R3 hd
 refine .call call193 r K r r fun b7 b8 k L=>?_
 obtain ⟨b9,c0,c1,rfl,m,hd⟩:=L
 have R3:=k.u1 R3
 refine .field1 fH r GV r r r r (.ln CL r (.kn 1 [18,17,16,5,2,1] r (.block (.own0 BV 103 (.lx hd [17,16,2,1] [2,1] r (fun j E l (b,e)=>fun c w=>∃ f g,j ⟨39,[],none⟩ (fun I_=>True) ((5,.slice f b.length g) :: (18,.int .i64 e) :: E) (OwnSl BV 103 f g b :: l) c w) (fun c w ho hs=>⟨_,_,jf rf trivial [0,1,0] r ho hs⟩) ?_)))))
 rintro ⟨b,e⟩ V hd c w ⟨f,g,a1,d,_,hok,hsym⟩
 obtain ⟨q,R3,m⟩:=d.u3 k R3 m
 refine Cod.at hok hsym (.sr (.kn 1 [19,18,17,16,5,2,1] r (.seq (.condP r hd (fun s hd=>?_) fun s hd=>?_))))
 · refine .sn [18,17,16,5,2,1] r (.seq (.block (.sr ?_)))
   obtain ⟨p,a,i,hd⟩:=hd
   obtain ⟨a2,o162,Y,O,u,v⟩:=m.2 _ _ i
   cases v
   refine .ixa CL CN r O r p (AH i p) r r (.ldW MQ CN u r r r r (.al KZ r fun a3=>?_))
   refine .sa CN .z r (.no [7,18,17,16,5,2,1] r (.region (.ks 2 r (.lo BF .z r (.ks 1 r (.lo BF .z r (.ks 1 r (.lo UT .z r (.build RK oT oP (.c r r r (.o r) (.c r r r (.o r) (.c r r r (.o r) .n))) (by exact ⟨⟨_,_,r,r,r⟩,⟨⟨_,_,r,r,r⟩,⟨⟨_,_,r,r,r⟩,trivial⟩⟩⟩) r r ?_)))))))))
   refine .buildSlice 1 JG KD RK r r (.c r r r .n) r r fun a4=>?_
   obtain ⟨x,hd⟩:=hd
   refine .append (ys:=[({ Row:=a.From,Col:=a.To,Val:=a.W }:AD)]) 24 .p2 JG JG kM r r r r r r r r r (.box .z (.one r) r) x r r fun a5 a6=>?_
   exact .kn 1 [5,18,17,16,2,1] r (.drop .p1 (.drop .p1 (.region (.ks 2 r (.nil' fun c w ho hs=>⟨((b++([({ Row:=a.From,Col:=a.To,Val:=a.W }:AD)])),AJ (e+1)),hd,_,_,jf d trivial [0,0,0] r ho hs⟩)))))
 refine .en [5,2,1] r (.sk 1 r (.lo BF .p1 r (.ks 1 r (.lo BF .p1 r (.ks 1 r (.pub .z fun P y h=>?_))))))
 obtain ⟨A,B,R3⟩:=y.u3 q d R3
 have C:=YX (I:=P) h hd
 refine .call call194 r C r r fun a7 a8 D F=>?_
 obtain ⟨R,a9,b0,b1,b2,b3,b4,rfl,S,T,U,hd⟩:=F
 obtain ⟨G,Z,R3,h⟩:=D.u4 A B R3 h
 exact .sa BH .p1 r (.kn 1 [3,2] r (.drop .z (.ret (BS results122 (.w CF BH r .z r (.t r .n)) G ⟨(R,0),_,_,_,_,_,_,r,S,T,U,hd⟩))))
theorem W2 {a0:AK} {a1 a2:Int} {Q:(BI×Int)→Prop} (R3:RepSl BU I p1 c2 a0.Edges) (hd:HG a0 a1 a2 Q) :
  BR prog 48 [.agg #[.int .i64 a0.N,.slice p1 a0.Edges.length c2],.int .i64 a1,.int .i64 a2] I (AjL Q):=by
 refine Fun.en func48 ntmps48 r fun w0 M=>?_
 refine .sr (.bx r fun d1=>?_)
 refine .al XR r fun d2=>?_
 refine .kn 1 [6,3,2,1] r (.seq (.sr (.lw EJ CT .p1 r ?_)))
 have G:=MD (I:=I) R3 hd
 refine .cq call119 G r fun a4 hd=>?_
 refine .ks 1 r (.nk [8,6,3,2,1] 2 r (.no [16,8,6,3,2,1] r (.condP r hd (fun H hd=>?_) fun H hd=>?_)))
 · exact .sr (.build XR nI nG .n (by exact trivial) r r (.ks 1 r (.sa KH .z r (.kn 1 [7,6] r (.drop .p1 (.ret (BS results48 (.w WI KH r .z r (.t r .n)) rf ⟨(({ Ring:=0,A:=({ Rows:=0,Cols:=0,Start:=([]:List Int),Col:=([]:List Int),Val:=([]:List Int) }:Rows),B:=({ Rows:=0,Cols:=0,Start:=([]:List Int),Col:=([]:List Int),Val:=([]:List Int) }:Rows),Mask:=({ Rows:=0,Cols:=0,Start:=([]:List Int),Col:=([]:List Int),Val:=([]:List Int) }:Rows),R:=0,C:=0,Room:=0 }:BI),a4),_,_,_,_,_,_,_,_,_,_,_,_,_,_,_,_,_,_,r,(.nil _ _ _),(.nil _ _ _),(.nil _ _ _),(.nil _ _ _),(.nil _ _ _),(.nil _ _ _),(.nil _ _ _),(.nil _ _ _),(.nil _ _ _),hd⟩)))))))
 refine .sn [6,3,2,1] r (.seq (.sk 1 r ?_))
 have J:=mW (I:=I) hd
 refine .cq call120 J r fun d3 hd=>?_
 refine .ks 2 r ?_
 refine AQ hd (fun f hd=>?_) fun f hd=>?_
 · rw [f]
   exact .kn 4 [26,6,3,2,1] r (.condKT r r (.sr (.build XR nI nG .n (by exact trivial) r r (.sa KH .z r (.kn 1 [7,6] r (.drop .p1 (.ret (BS results48 (.w WI KH r .z r (.t r .n)) rf ⟨(({ Ring:=0,A:=({ Rows:=0,Cols:=0,Start:=([]:List Int),Col:=([]:List Int),Val:=([]:List Int) }:Rows),B:=({ Rows:=0,Cols:=0,Start:=([]:List Int),Col:=([]:List Int),Val:=([]:List Int) }:Rows),Mask:=({ Rows:=0,Cols:=0,Start:=([]:List Int),Col:=([]:List Int),Val:=([]:List Int) }:Rows),R:=0,C:=0,Room:=0 }:BI),3),_,_,_,_,_,_,_,_,_,_,_,_,_,_,_,_,_,_,r,(.nil _ _ _),(.nil _ _ _),(.nil _ _ _),(.nil _ _ _),(.nil _ _ _),(.nil _ _ _),(.nil _ _ _),(.nil _ _ _),(.nil _ _ _),hd⟩))))))))
 rw [f]
 refine .ks 1 r ?_
 have K:=mW (I:=I) hd
 refine .yes r (.callP call120 r K r r fun d4 L=>?_)
 obtain ⟨d5,rfl,hd⟩:=L
 refine .kn 2 [26,6,3,2,1] r (.condP r hd (fun O hd=>?_) fun O hd=>?_)
 · exact .sr (.build XR nI nG .n (by exact trivial) r r (.sa KH .z r (.kn 1 [7,6] r (.drop .p1 (.ret (BS results48 (.w WI KH r .z r (.t r .n)) rf ⟨(({ Ring:=0,A:=({ Rows:=0,Cols:=0,Start:=([]:List Int),Col:=([]:List Int),Val:=([]:List Int) }:Rows),B:=({ Rows:=0,Cols:=0,Start:=([]:List Int),Col:=([]:List Int),Val:=([]:List Int) }:Rows),Mask:=({ Rows:=0,Cols:=0,Start:=([]:List Int),Col:=([]:List Int),Val:=([]:List Int) }:Rows),R:=0,C:=0,Room:=0 }:BI),3),_,_,_,_,_,_,_,_,_,_,_,_,_,_,_,_,_,_,r,(.nil _ _ _),(.nil _ _ _),(.nil _ _ _),(.nil _ _ _),(.nil _ _ _),(.nil _ _ _),(.nil _ _ _),(.nil _ _ _),(.nil _ _ _),hd⟩))))))
 refine .sn [6,3,2,1] r (.sr (.lw EJ CT .p1 r ?_))
 have P:=iM (I:=I) R3 hd
 refine .call call121 r P r r fun d6 a5 k S=>?_
 obtain ⟨d7,d8,d9,rfl,a,hd⟩:=S
 have R3:=k.u1 R3
 refine .al MR r fun e0=>?_
 refine .sa CT .z r (.no [9,6,2,1] r (.drop .p2 (.sk 2 r (.build XR nI nG (.c r r r (.o r) (.c r r r (.o r) (.c r r r (.o r) (.c r r r (.o r) .n)))) (by exact ⟨⟨_,_,r,r,r⟩,⟨⟨_,_,r,r,r⟩,⟨⟨_,_,r,r,r⟩,⟨⟨_,_,r,r,r⟩,trivial⟩⟩⟩⟩) r r (.al XR r fun a6=>?_)))))
 refine .sa KH .z r (.no [10,9,6] r (.seq (.sk 3 r (.buildSlice 3 underlying172 sizeOf171 zeroValue171 r r (.c r r r (.c r r r (.c r r r .n))) r r fun a7=>?_))))
 refine .ln underlying172 r (.kn 1 [38,37,36,10,9,6] r (.block (.unroll 3 (.sr (.kn 1 [39,38,37,36,10,9,6] r (.seq (.condKT r (by decide) (.sn [38,37,36,10,9,6] r (.seq ?_)))))))))
 refine .block (.sr (.ixa0 underlying172 sizeOf171 r r (by decide) (by decide) r r (.lo isAgg171 .z r (.kn 1 [12,38,37,36,10,9,6] r (.region (.ks 1 r (.lw EJ CT .p2 r ?_)))))))
 have l:=Z3 (I:=a5) a hd
 refine .call call122 r l r r fun a8 T m p=>?_
 obtain ⟨U,a9,b0,b1,b2,b3,b4,rfl,b,d,e,hd⟩:=p
 obtain ⟨q,a⟩:=m.u2 k a
 refine .ks 4 r (.sa BH .p1 r (.no [38,37,36,10,9,6] r (.region (.ks 1 r (.sub (E':=[(6,_),(9,_),(10,_),(36,_),(37,_),(38,_),(49,.int .i64 1)]) ⟨r,r,r,r,r,r,(by first | (rw [show AJ (0+1)=1 by decide]; rfl) | (rw [show IntKind.i64.wrap (0+1)=1 by decide]; rfl)),trivial⟩ (.ks 1 r (.nil' fun c w ho hs=>Unr.mk (Cod.at (E:=[(6,_),(9,_),(10,_),(36,_),(37,_),(38,_)]) (ho.sub ⟨r,r,r,r,r,r,trivial⟩) hs (.sr (.kn 1 [39,38,37,36,10,9,6] r ?_))))))))))
 refine .seq (.condKT r (by decide) (.sn [38,37,36,10,9,6] r (.seq (.block (.sr (.ixa0 underlying172 sizeOf171 r r (by decide) (by decide) r r (.lo isAgg171 .z r (.kn 1 [12,38,37,36,10,9,6] r (.region ?_)))))))))
 refine .ks 1 r (.lw EJ CT .p2 r ?_)
 have s:=Z3 (I:=T) a hd
 refine .call call122 r s r r fun b5 V u v=>?_
 obtain ⟨W,b6,b7,b8,b9,c0,c1,rfl,g,h,i,hd⟩:=v
 obtain ⟨x,a,b,d,e⟩:=u.u5 q a b d e
 refine .ks 4 r (.sa BH .p1 r (.no [38,37,36,10,9,6] r (.region (.ks 1 r (.sub (E':=[(6,_),(9,_),(10,_),(36,_),(37,_),(38,_),(49,.int .i64 2)]) ⟨r,r,r,r,r,r,(by first | (rw [show AJ (1+1)=2 by decide]; rfl) | (rw [show IntKind.i64.wrap (1+1)=2 by decide]; rfl)),trivial⟩ (.ks 1 r (.nil' fun c w ho hs=>Unr.mk (Cod.at (E:=[(6,_),(9,_),(10,_),(36,_),(37,_),(38,_)]) (ho.sub ⟨r,r,r,r,r,r,trivial⟩) hs (.sr (.kn 1 [39,38,37,36,10,9,6] r ?_))))))))))
 refine .seq (.condKT r (by decide) (.sn [38,37,36,10,9,6] r (.seq (.block (.sr (.ixa0 underlying172 sizeOf171 r r (by decide) (by decide) r r (.lo isAgg171 .z r (.kn 1 [12,38,37,36,10,9,6] r (.region ?_)))))))))
 refine .ks 1 r (.lw EJ CT .p2 r ?_)
 have y:=Z3 (I:=V) a hd
 refine .call call122 r y r r fun c3 c4 j D=>?_
 obtain ⟨X,c5,c6,c7,c8,c9,d0,rfl,Y,Z,a3,hd⟩:=D
 obtain ⟨F,a,b,d,e,g⟩:=j.u6 x a b d e g
 obtain ⟨h,i⟩:=j.u2 h i
 refine .ks 4 r (.sa BH .p1 r (.no [38,37,36,10,9,6] r (.region (.ks 1 r (.sub (E':=[(6,_),(9,_),(10,_),(36,_),(37,_),(38,_),(49,.int .i64 3)]) ⟨r,r,r,r,r,r,(by first | (rw [show AJ (2+1)=3 by decide]; rfl) | (rw [show IntKind.i64.wrap (2+1)=3 by decide]; rfl)),trivial⟩ (.ks 1 r (.nil' fun c w ho hs=>Unr.mk (Cod.at (E:=[(6,_),(9,_),(10,_),(36,_),(37,_),(38,_)]) (ho.sub ⟨r,r,r,r,r,r,trivial⟩) hs (.sr (.kn 1 [39,38,37,36,10,9,6] r ?_))))))))))
 refine .seq (.condKF r (by decide) (.en [10,6] r (.drop .z (.drop .p1 (.sr (.lw WI KH .z r (.sa KH .p1 r (.kn 1 [7,6] r (.drop .z ?_)))))))))
 exact .ret (BS results48 (.w WI KH r .z r (.t r .n)) F ⟨(({ Ring:=5,A:=U.1,B:=W.1,Mask:=X.1,R:=a1,C:=a2,Room:=4 }:BI),0),_,_,_,_,_,_,_,_,_,_,_,_,_,_,_,_,_,_,r,b,d,e,g,h,i,Y,Z,a3,hd⟩)
theorem tF {a0:Int} {a1:Rows} {Q:(Int×Int)→Prop} (R3:RepSl AE I p1 c2 a1.Start) (R6:RepSl AE I p4 c5 a1.Col) (R9:RepSl AE I p7 c8 a1.Val) (hd:TR a0 a1 Q) :
  BR prog 117 [.int .i64 a0,.agg #[.int .i64 a1.Rows,.int .i64 a1.Cols,.slice p1 a1.Start.length c2,.slice p4 a1.Col.length c5,.slice p7 a1.Val.length c8]] I (fun _=>AhW Q):=by
 refine Fun.en func117 ntmps117 r fun w0 M=>?_
 refine .sr (.bx r fun b7=>?_)
 refine .kn 2 [3,0] r (.seq (.sk 1 r ?_))
 have K:=ND (I:=I) hd
 refine .cq call100 K r fun b8 hd=>?_
 refine .kn 1 [14,3,0] r (.condP r hd (fun N hd=>?_) fun N hd=>?_)
 · exact .sr (.kn 2 [5,4] r (.drop .z (.ret (BS results117 (.t r (.t r .n)) rf ⟨(0,8),r,hd⟩))))
 refine .sn [3,0] r (.sr (.lw CF BH .z r ?_))
 have O:=VZ (I:=I) R3 R6 R9 hd
 refine .call call143 r O r r fun b9 F b P=>?_
 obtain ⟨a,c0,G,rfl,k,hd⟩:=P
 obtain ⟨R3,R6,R9⟩:=b.u3 R3 R6 R9
 refine .kn 1 [6,0] r (.drop .z (.seq (.sk 1 r (.ln JG r (.kn 1 [19,6,0] r (.condP r hd (fun R hd=>?_) fun R hd=>?_))))))
 · refine .sk 1 r ?_
   have S:=iL (I:=F) hd
   refine .cq call182 S r fun a4 hd=>?_
   exact .kn 2 [5,4] r (.ret (BS results117 (.t r (.t r .n)) b ⟨(a4,0),r,hd⟩))
 refine .sn [6,0] r (.sk 1 r ?_)
 obtain ⟨J,c1,m,hd⟩:=hd
 obtain ⟨c3,o73,a8,a5,T,U⟩:=k.2 _ _ m
 cases U
 refine .ixa JG KD r a5 r J (AH m J) r r (.ks 1 r (.ld1 (j:=2) UT T r r r r r ?_))
 have V:=IB (I:=F) hd
 refine .cq call183 V r fun c4 hd=>?_
 refine .al DK r fun a6=>?_
 refine .sa AU .z r (.no [7,6,0] r (.seq (.sk 1 r ?_)))
 obtain ⟨W,a9,b0,hd⟩:=hd
 have o:Int.toNat 1≤Int.toNat (a.length:Int):=by omega
 have p:Int.toNat (a.length:Int)≤a.length:=by omega
 obtain ⟨b1,b2,X,Y,c⟩:=RepSl.sliceW k (Int.toNat 1) (Int.toNat (a.length:Int)) G o p (.inl rfl)
 refine .sliceW (L:=Int.toNat 1) (H:=Int.toNat (a.length:Int)) (cm:=G) JG KD r r k.1 r r r (.inr ⟨_,_,r,W,r⟩) (.inl ⟨r,r,r⟩) (.inl r) o p r X Y r r (.ln JG r (.kn 1 [30,29,28,7,0] r (.block (.lp hd [29,28,7,0] [] r (fun j E l (q,s,d)=>j ((30,.int .i64 d) :: E) (pto a6 (.cells #[.int .i64 q,.int .u64 s] 157 (0,0)) :: l)) (ji rf [0] r) ?_))))
 rintro ⟨q,s,d⟩ a3 hd
 refine jq r fun e f=>?_
 obtain ⟨g,c⟩:=f.u2 b c
 refine .sr (.kn 1 [31,30,29,28,7,0] r (.seq (.condP r hd (fun w hd=>?_) fun w hd=>?_)))
 · refine .sn [30,29,28,7,0] r (.seq (.block (.sr ?_)))
   obtain ⟨u,b3,i,hd⟩:=hd
   obtain ⟨b4,o267,a7,Z,x,y⟩:=c.2 _ _ i
   cases y
   refine .ixa JG KD r Z r u (AH i u) r r (.ldW isAgg103 KD x r r r r (.al RK r fun b5=>?_))
   refine .sa KD .z r (.no [9,30,29,28,7,0] r (.dr [0,1,2,3,4,5] 6 (.fk 1 r (.h r (fun _=>.lw BP AU .p1 r .mk) (.fk 1 r (.h r (fun _=>.lo UT .z r .mk) (.ww r fun ex=>?_)))))))
   have A:=IB (I:=e) hd
   refine .cq call183 A r fun b6 hd=>?_
   refine .so 2 r r r (.ch r (fun _=>.lw BP AU .p1 r .mk) (.ck 1 r r trivial)) (.ww r fun ex=>?_)
   have B:=UK (I:=e) hd
   refine .cq call184 B r fun v hd=>?_
   exact .so 2 r r r trivial (.e2 6 (.sa AU .p1 r (.no [30,29,28,7,0] r (.drop .z (.region (.ks 2 r (.nil' (je (v.Hi,v.Lo,AJ (d+1)) hd f [0] r))))))))
 refine .en [7,0] r (.sk 1 r (.lw BP AU .z r ?_))
 have C:=QA (I:=e) hd
 refine .cq call185 C r fun a2 hd=>?_
 refine .kn 5 [11,10] r (.drop .z (.seq (.sr (.kn 2 [48,10] r (.condP r hd (fun D hd=>?_) fun D hd=>?_)))))
 · exact .sr (.kn 2 [5,4] r (.ret (BS results117 (.t r (.t r .n)) g ⟨(0,12),r,hd⟩)))
 exact .sn [10] r (.sr (.kn 3 [5,4] r (.ret (BS results117 (.t r (.t r .n)) g ⟨(a2.1,0),r,hd⟩))))
theorem eT {a0 a1:List (Int×Int×Int)} {Q:Bool→Prop} (R3:RepSl OV I p1 c2 a0) (R6:RepSl OV I p4 c5 a1) (hd:TS a0 a1 Q) :
  BR prog 50 [.slice p1 a0.length c2,.slice p4 a1.length c5] I (fun _=>dA Q):=by
 refine Fun.en func50 ntmps50 r fun w0 M=>?_
 refine .sr (.kn 1 [1,0] r (.seq (.sk 1 r (.ln ZY r (.ks 1 r (.ln ZY r (.kn 1 [10,1,0] r (.condP r hd (fun p hd=>?_) fun p hd=>?_))))))))
 · exact .sr (.kn 1 [4] r (.r0 results50 r ⟨false,r,hd⟩))
 refine .sn [1,0] r (.seq (.sr (.kn 1 [5,1,0] r (.block (.lp hd [1,0] [] r (fun j E l b=>j ((5,.int .i64 b) :: E) l) (ji rf [] r) ?_)))))
 refine fun b q hd=>jq r fun y a=>?_
 obtain ⟨R3,R6⟩:=a.u2 R3 R6
 refine .seq (.sk 2 r (.ln ZY r (.kn 1 [14,5,1,0] r (.condP r hd (fun g hd=>?_) fun g hd=>?_))))
 · refine .sn [5,1,0] r (.seq (.block (.seq (.dr [0,1,2,3,4,5,6,7,8] 9 (.fk 2 r ?_)))))
   obtain ⟨e,s,c,hd⟩:=hd
   obtain ⟨z,o64,w,t,i,k⟩:=R3.2 _ _ c
   cases k
   refine .h r (fun _=>.ixa ZY dH r t r e (AH c e) r r .mk) (.h r (fun _=>.ldW isAgg99 dH i r r r r .mk) (.fk 2 r ?_))
   obtain ⟨f,u,d,hd⟩:=hd
   obtain ⟨A,o73,x,v,m,n⟩:=R6.2 _ _ d
   cases n
   refine .h r (fun _=>.ixa ZY dH r v r f (AH d f) r r .mk) (.h r (fun _=>.ldW isAgg99 dH m r r r r .mk) (.h r (fun _=>.neV r r (Ak3 s u) (Ak4 _ _ _ _ _) r r r .mk) (.e2 9 (.no [25,5,1,0] r (.condP r hd (fun o hd=>?_) fun o hd=>?_)))))
   · exact .sr (.kn 1 [4] r (.r1 results50 r a ⟨false,r,hd⟩))
   exact .sn [5,1,0] r (.region (.ks 3 r (.nil' (je (AJ (b+1)) hd a [] r))))
 exact .en [] r (.sr (.kn 1 [4] r (.r1 results50 r a ⟨true,r,hd⟩)))
theorem bB {a0:AK} {Q:AK→Prop} (R3:RepSl BU I p1 c2 a0.Edges) (hd:VF a0 Q) :
  Fun prog 126 #[.agg #[.int .i64 a0.N,.slice p1 a0.Edges.length c2]] I [] (fun I_ v l=>∃ r b4 p5 c6,v=.func (.func 196) #[] #[.pointer (some ⟨b4,0,none⟩)]∧RepSl BU I_ p5 c6 r.Edges∧l=[pto b4 (.cells #[.int .i64 r.N,.slice p5 r.Edges.length c6] 24 (0,0))]∧Q r):=by
 refine Fun.en func126 ntmps126 r fun w0 M=>?_
 refine .sr (.bx r fun b4=>?_)
 exact .ks 1 r (.ns [1] r (.mkFn r r r r (.kn 1 [2] r (.q1 results126 rf [0] r ⟨a0,_,_,_,r,R3,r,hd⟩))))
theorem eU {a0 a1 a2:Int} {Q:Int→Prop} (hd:IY a0 a1 a2 Q) :
  BR prog 142 [.int .i64 a0,.int .i64 a1,.int .i64 a2] I (fun _=>kO Q):=by
 refine Fun.en func142 ntmps142 r fun w0 M=>?_
 refine .sr (.kn 1 [2,1,0] r (.seq (.sk 1 r ?_)))
 have e:=YW (I:=I) hd
 refine .cq call137 e r fun g hd=>?_
 refine .ks 2 r ?_
 refine AQ hd (fun a hd=>?_) fun a hd=>?_
 · rw [a]
   exact .kn 16 [26,2,1,0] r (.condKT r r (.sr (.kn 1 [6] r (.r0 results142 r ⟨(-1),r,hd⟩))))
 rw [a]
 refine .ks 4 r ?_
 refine AQ hd (fun b hd=>?_) fun b hd=>?_
 · rw [b]
   exact .kn 12 [26,2,1,0] r (.condKT r r (.sr (.kn 1 [6] r (.r0 results142 r ⟨(-1),r,hd⟩))))
 rw [b]
 refine .ks 4 r ?_
 refine AQ hd (fun c hd=>?_) fun c hd=>?_
 · rw [c]
   exact .kn 8 [26,2,1,0] r (.condKT r r (.sr (.kn 1 [6] r (.r0 results142 r ⟨(-1),r,hd⟩))))
 rw [c]
 refine .ks 4 r ?_
 refine AQ hd (fun d hd=>?_) fun d hd=>?_
 · rw [d]
   exact .kn 4 [26,2,1,0] r (.condKT r r (.sr (.kn 1 [6] r (.r0 results142 r ⟨(-1),r,hd⟩))))
 rw [d]
 refine .kn 4 [26,2,1,0] r (.condP r hd (fun f hd=>?_) fun f hd=>?_)
 · exact .sr (.kn 1 [6] r (.r0 results142 r ⟨(-1),r,hd⟩))
 exact .sn [2,1,0] r (.sr (.kn 6 [6] r (.r0 results142 r ⟨(AJ ((AJ (a1*a0))+a2)),r,hd⟩)))
theorem oA {a0:Int} {Q:Int→Prop} (hd:VH a0 Q) :
  BR prog 306 [.int .i64 a0] I (fun _=>kO Q):=by
 refine Fun.en func306 ntmps306 r fun w0 M=>?_
 exact .sk 1 r (.nk [0] 1 r (.maxI r r r r (.minI r r r r (.ks 1 r (.shr' r r (by decide) r r (.kn 1 [2] r (.r0 results306 r ⟨(shr .i64 (AJ ((if 4096<(if 0 > a0 then 0 else a0) then 4096 else (if 0 > a0 then 0 else a0))+63)) 6),r,hd⟩)))))))
theorem xL {a0:Int} {Q:(List Int)→Prop} (hd:ZK a0 Q) :
  nB prog 281 [.int .i64 a0] I (fun I_ v l=>∃ r p1 c2,v=.slice p1 r.length c2∧l=[OwnSl TE 155 p1 c2 r]∧Q r):=by
 refine Fun.en func281 ntmps281 r fun w0 M=>?_
 refine .sk 1 r (.nk [0] 1 r ?_)
 have a:=oA (I:=I) hd
 refine .cq call306 a r fun b hd=>?_
 obtain ⟨c,d,hd⟩:=hd
 refine .make (El:=TE) (zv:=0) 8 RJ AhE r r r r r r c d r r r fun e=>?_
 exact .kn 1 [2] r (.q1 results281 rf [0] r ⟨(List.replicate b.toNat 0),_,_,r,r,hd⟩)
theorem mX {a0:List Int} {a1:Int} {Q:Bool→Prop} (R3:RepSl TE I p1 c2 a0) (hd:RW a0 a1 Q) :
  BR prog 282 [.slice p1 a0.length c2,.int .i64 a1] I (fun _=>dA Q):=by
 refine Fun.en func282 ntmps282 r fun w0 M=>?_
 refine .sk 1 r (.nk [1,0] 3 r ?_)
 refine AQ hd (fun a hd=>?_) fun a hd=>?_
 · rw [a]
   exact .ks 1 r (.yes r (.shr' r r (by decide) r r (.ks 1 r (.yes r (.ln RJ r (.kn 3 [4] r (.r0 results282 r ⟨(decide ((shr .i64 a1 6)<(a0.length:Int))),r,hd⟩)))))))
 rw [a]
 exact .kn 7 [4] r (.r0 results282 r ⟨false,r,hd⟩)
theorem xM {a0:Int} {Q:Int→Prop} (hd:ZL a0 Q) :
  BR prog 283 [.int .i64 a0] I (fun _=>AhX Q):=by
 refine Fun.en func283 ntmps283 r fun w0 M=>?_
 refine .sk 1 r (.nk [0] 1 r (.conv gX dE r r r (.ks 1 r ?_)))
 obtain ⟨a,hd⟩:=hd
 exact .shl' r r a r r (.kn 1 [2] r (.r0 results283 r ⟨(shl .u64 1 (xR .u64 (IntKind.wrap .u64 (a0)) 63)),r,hd⟩))
theorem Aa4 {a0:Int} {a1:List Int} {Q:(List Int)→Prop} (R3:RepSl AE I p1 c2 a1) (hd:cZ a0 a1 Q) :
  BR prog 248 [.int .i64 a0,.slice p1 a1.length c2] I (fun I_ v=>∃ r p4 c5,v=.slice p4 r.length c5∧RepSl TE I_ p4 c5 r∧Q r):=by
 refine Fun.en func248 ntmps248 r fun w0 M=>?_
 refine .sk 1 r (.nk [1,0] 1 r ?_)
 have S:=xL (I:=I) hd
 refine .callO call281 r S r r fun b3 b4 b5 t T=>?_
 obtain ⟨b6,b7,b8,rfl,rfl,hd⟩:=T
 have R3:=t.u1 R3
 refine .kn 1 [5,1,0] r (.seq (.sk 1 r (.ln BT r (.kn 1 [12,11,10,5,0] r (.block (.lx hd [11,10,0] [] r (fun j E l (a,d)=>fun c w=>∃ e g,j ⟨35,[],none⟩ (fun I_=>True) ((5,.slice e a.length g) :: (12,.int .i64 d) :: E) (OwnSl TE 155 e g a :: l) c w) (fun c w ho hs=>⟨_,_,jf rf trivial [0] r ho hs⟩) ?_))))))
 rintro ⟨a,d⟩ a3 hd c w ⟨e,g,U,i,_,hok,hsym⟩
 obtain ⟨n,R3⟩:=i.u2 t R3
 refine Cod.at hok hsym (.sr (.kn 1 [13,12,11,10,5,0] r (.seq (.condP r hd (fun D hd=>?_) fun D hd=>?_))))
 · refine .sn [12,11,10,5,0] r (.seq (.block (.sr ?_)))
   obtain ⟨u,V,p,hd⟩:=hd
   obtain ⟨a7,o176,a4,W,F,G⟩:=R3.2 _ _ p
   cases G
   refine .ixa BT EX r W r u (AH p u) r r (.ld1 (j:=0) BF F r r r r r (.kn 1 [7,12,11,10,5,0] r (.seq (.jn hd [12,11,10,7,5,0] [0] r (fun j E l x=>j ((23,.bool x) :: E) l) (fun a8 hd=>?_) ?_))))
   · skip
     refine .region (.ks 4 r ?_)
     refine AQ hd (fun k hd=>?_) fun k hd=>?_
     · rw [k]
       refine .ks 2 r ?_
       have H:=fun (J:IH) (hJ:IH.le U J) (hL:V7 J [OwnSl TE 155 e g a])=>mX (I:=J) (Ad7 hL.1) hd
       refine .yes r (.callB (.f call282 r) (.o [0] r) H r r fun a9 _ K=>?_)
       obtain ⟨X,rfl,hd⟩:=K
       exact .ks 1 r (.nil' (je X hd rf [0] r))
     rw [k]
     exact .ks 4 r (.nil' (je false hd rf [0] r))
   refine fun x hd=>jq r fun Y L=>?_
   obtain ⟨a5,q,R3⟩:=L.u3 n i R3
   refine .condP r hd (fun N hd=>?_) fun N hd=>?_
   · refine .ownF .z fun y=>?_
     refine .dr [0,1,2,3,4,5,6,7] 8 (.fk 2 r (.h r (fun _=>.shr' r r (by decide) r r .mk) ?_))
     obtain ⟨m,A,b,hd⟩:=hd
     obtain ⟨b0,Z⟩:=y (DO b)
     cases Z
     refine .h r (fun _=>.ixa0 RJ GD r r m (AH b m) r r .mk) (.h r (fun _=>.lo1 (j:=0) DZ .z b r r r r r .mk) (.fk 1 r (.ww r fun ex=>?_)))
     have O:=xM (I:=Y) hd
     refine .cq call283 O r fun B hd=>?_
     refine .so 1 r r r (.ch r (fun _=>.lo1 (j:=0) DZ .z b r r r r r .mk) (.ch r (fun _=>.ixa0 RJ GD r r m (AH b m) r r .mk) (.ch r (fun _=>.shr' r r (by decide) r r .mk) (.ck 2 r r trivial)))) (.fk 1 r (.e2 8 ?_))
     obtain ⟨C,b1,s,hd⟩:=hd
     exact .ixa0 RJ GD r r C (AH s C) r r (.stO1 (j:=0) (v':=(bor .u64 A B)) GD .z s r r r (.o r) r (.rl .z [5,24] r (by simp only [List.length_set]) (.no [12,11,10,5,0] r (.region (.ks 2 r (.nil' fun c w ho hs=>⟨((a.set ((shr .i64 V 6).toNat) (bor .u64 A B)),AJ (d+1)),hd,_,_,jf q trivial [0] r ho hs⟩))))))
   exact .sn [12,11,10,5,0] r (.region (.ks 2 r (.nil' fun c w ho hs=>⟨(a,AJ (d+1)),hd,_,_,jf q trivial [0] r ho hs⟩)))
 refine .en [5] r (.sr (.kn 2 [4] r (.pub .z fun b2 P a2=>?_)))
 obtain ⟨R,a6⟩:=P.u2 n i
 exact .r1 results248 r R ⟨a,_,_,r,a2,hd⟩
theorem qE {a0:AK} {Q:(List (List Int))→Prop} (R3:RepSl BU I p1 c2 a0.Edges) (hd:ZM a0 Q) :
  BR prog 197 [.agg #[.int .i64 a0.N,.slice p1 a0.Edges.length c2]] I (fun I_ v=>∃ r p4 c5,v=.slice p4 r.length c5∧RepSl (NN TE) I_ p4 c5 r∧Q r):=by
 refine Fun.en func197 ntmps197 r fun w0 M=>?_
 refine .sr (.bx r fun b9=>?_)
 refine .ks 1 r (.nk [1] 1 r (.lo BF .z r ?_))
 obtain ⟨d0,d1,hd⟩:=hd
 refine .make (El:=nE) (zv:=(none,0,0)) 24 oW Ak1 r r r r r r d0 d1 r r r fun d2=>?_
 refine .toNest AE 3 .z (.sub (E':=[(1,_),(9,_),(10,_),(11,.slice (some ⟨d2,0,none⟩) (List.replicate a0.N.toNat ([]:List Int)).length a0.N.toNat)]) ⟨r,r,r,(by simp only [List.length_replicate]; rfl),trivial⟩ (.kn 1 [3,1] r (.seq (.sr (.lw EJ CT .p1 r ?_)))))
 have Z:=iM (I:=I) R3 hd
 refine .call call121 r Z r r fun e4 e5 J a1=>?_
 obtain ⟨e6,e7,e8,rfl,u,hd⟩:=a1
 have R3:=J.u1 R3
 refine .field1 fH r GV r r r r (.ln CL r (.kn 1 [16,15,14,3,1] r (.block (.lx hd [15,14,1] [1] r (fun j E l (b,x)=>fun c w=>∃ y e,j ⟨49,[],none⟩ (fun I_=>True) ((3,.slice y b.length e) :: (16,.int .i64 x) :: E) (NO AE 3 30 y e b :: l) c w) (fun c w ho hs=>⟨_,_,jf rf trivial [0,0] r ho hs⟩) ?_))))
 rintro ⟨b,x⟩ c8 hd c w ⟨y,e,e9,k,_,hok,hsym⟩
 obtain ⟨a2,R3,u⟩:=k.u3 J R3 u
 refine Cod.at hok hsym (.sr (.kn 1 [17,16,15,14,3,1] r (.seq (.condP r hd (fun a3 hd=>?_) fun a3 hd=>?_))))
 · refine .sn [16,15,14,3,1] r (.seq (.block (.sr ?_)))
   obtain ⟨U,a,K,hd⟩:=hd
   obtain ⟨f0,o365,d5,b8,a4,a5⟩:=u.2 _ _ K
   cases a5
   refine .ixa CL CN r b8 r U (AH K U) r r (.ldW MQ CN a4 r r r r (.al KZ r fun f1=>?_))
   refine .sa CN .z r (.no [5,16,15,14,3,1] r (.nestN .p1 fun V=>?_))
   refine .nestX .p1 fun d3 i=>?_
   refine .dr [0,1,2,3,4,5,6,7,8,9,10,11] 12 (.fk 2 r (.h r (fun _=>.lo BF .p2 r .mk) (.fk 2 r (.h r (fun _=>.lo BF .p2 r .mk) ?_))))
   obtain ⟨m,o,d,hd⟩:=hd
   obtain ⟨A,c0⟩:=V (DO d)
   cases c0
   obtain ⟨f2,f3,f⟩:=i.2 _ _ d
   refine .h r (fun _=>.ixa0 oW iO r r m (AH d m) r r .mk) (.h r (fun _=>.lo1 (j:=0) GS .z f r r r r r .mk) (.fk 1 r (.h r (fun _=>.lo BF .p2 r .mk) (.ww r fun ex=>?_))))
   refine .buildSlice 1 BT EX nL r r (.c r r r .n) r r fun f4=>?_
   refine .so 5 r r r (.ch r (fun _=>.lo1 (j:=0) GS .p1 f r r r r r .mk) (.ch r (fun _=>.ixa0 oW iO r r m (AH d m) r r .mk) (.ch r (fun _=>.lo BF .p3 r .mk) (.ck 2 r r (.ch r (fun _=>.lo BF .p3 r .mk) (.ck 2 r r trivial)))))) (.ww r fun ex=>?_)
   refine .nestF .p2 d f ?_
   obtain ⟨a6,hd⟩:=hd
   refine .append (ys:=[a.From]) 8 .z BT BT IN3 r r r r r r r r r (.box .p2 (.one r) r) a6 r r fun f5 f6=>?_
   refine .so 6 r r r (.ch r (fun _=>.lo BF .p4 r .mk) (.ck 2 r r trivial)) (.e2 12 ?_)
   obtain ⟨W,f7,p,hd⟩:=hd
   obtain ⟨f8,f9,d4⟩:=i.2 _ _ p
   exact .ixa0 oW iO r r W (AH p W) r r (.nestSt iO .p1 r .z .p1 p r r r r (.sub (E':=[(1,_),(3,.slice (some ⟨A,0,none⟩) (b.set a.To.toNat (o++([a.From]))).length e),(14,_),(15,_),(16,_),(5,_),(20,.slice (some ⟨A,0,none⟩) (b.set a.To.toNat (o++([a.From]))).length e),(21,_),(22,_),(23,.slice (some ⟨A,0,none⟩) (b.set a.To.toNat (o++([a.From]))).length e),(24,_),(25,_),(26,_),(27,_),(28,_),(29,_),(30,_),(31,_),(32,_)]) ⟨r,(by simp only [List.length_set]; rfl),r,r,r,r,(by simp only [List.length_set]; rfl),r,r,(by simp only [List.length_set]; rfl),r,r,r,r,r,r,r,r,r,trivial⟩ (.no [16,15,14,3,1] r (.drop .p1 (.drop .p1 (.region (.ks 2 r (.nil' fun c w ho hs=>⟨((b.set a.To.toNat (o++([a.From]))),AJ (x+1)),hd,_,_,jf k trivial [0,0] r ho hs⟩))))))))
 refine .en [3,1] r (.sr (.kn 1 [6,3,1] r (.seq (.sk 1 r (.ln oW r (.kn 1 [36,35,34,6,1] r (.block (.pubNest .z fun g0 L c1=>?_))))))))
 obtain ⟨a7,a8,R3⟩:=L.u3 a2 k R3
 refine .own0 (NN TE) 181 (.lx hd [35,1] [1] r (fun j E l (g,q,B)=>fun c w=>∃ C D F G,j ⟨49,[],none⟩ (fun I_=>RepSl (NN AE) I_ F G q) ((6,.slice C g.length D) :: (34,.slice F q.length G) :: (36,.int .i64 B) :: E) (OwnSl (NN TE) 181 C D g :: l) c w) (fun c w ho hs=>⟨_,_,_,_,jf rf c1 [0,0] r ho hs⟩) ?_)
 rintro ⟨g,q,B⟩ c9 hd c w ⟨C,D,F,G,c3,s,t,hok,hsym⟩
 obtain ⟨O,P,R,R3⟩:=s.u4 a7 a8 L R3
 refine Cod.at hok hsym (.sr (.kn 1 [37,36,35,34,6,1] r (.seq (.condP r hd (fun a9 hd=>?_) fun a9 hd=>?_))))
 · refine .sn [36,35,34,6,1] r (.seq (.block (.sr ?_)))
   obtain ⟨X,g1,S,hd⟩:=hd
   obtain ⟨g2,o522,d6,c4,b0,b1⟩:=t.2 _ _ S
   obtain ⟨g3,g4,rfl,H⟩:=b1
   refine .ixa oW iO r c4 r X (AH S X) r r (.ld1 (j:=0) GS b0 r r r r r (.kn 1 [8,36,35,34,6,1] r (.region (.ks 2 r (.lo BF .p1 r (.ks 1 r ?_))))))
   have b2:=Aa4 (I:=c3) H hd
   refine .call call248 r b2 r r fun g5 g6 T b3=>?_
   obtain ⟨Y,g7,g8,rfl,c6,hd⟩:=b3
   obtain ⟨d7,d8,d9,b4,R3,t⟩:=T.u6 O P R s R3 t
   have H:=T.u1 H
   refine .buildSlice 1 dF sizeOf181 zeroValue181 r r (.c r r r .n) r r fun g9=>?_
   obtain ⟨b5,hd⟩:=hd
   refine .append (ys:=[Y]) 24 .p1 dF dF AjE r r r r r r r r r (.box .z (.one ⟨_,_,r,c6⟩) r) b5 r r fun h0 h1=>?_
   exact .kn 1 [6,36,35,34,1] r (.drop .p1 (.region (.ks 2 r (.nil' fun c w ho hs=>⟨((g++([Y])),q,AJ (B+1)),hd,_,_,_,_,jf b4 t [0,0] r ho hs⟩))))
 refine .en [6] r (.drop .p1 (.sr (.kn 2 [2] r (.pub .z fun h2 b6 c7=>?_))))
 obtain ⟨b7,e0,e1,e3⟩:=b6.u4 O P R s
 exact .r1 results197 r b7 ⟨g,_,_,r,c7,hd⟩
theorem gI {a0:List Int} {Q:(List Int)→Prop} (R3:RepSl TE I p1 c2 a0) (hd:TT a0 Q) :
  Fun prog 250 #[.slice p1 a0.length c2] I [] (fun I_ v l=>∃ r b4 p5 c6,v=.func (.func 285) #[] #[.pointer (some ⟨b4,0,none⟩)]∧RepSl TE I_ p5 c6 r∧l=[pto b4 (.cells #[.slice p5 r.length c6] 181 (0,0))]∧Q r):=by
 refine Fun.en func250 ntmps250 r fun w0 M=>?_
 refine .sr (.box1 r r r r fun b4=>?_)
 exact .ks 1 r (.ns [1] r (.mkFn r r r r (.kn 1 [2] r (.q1 results250 rf [0] r ⟨a0,_,_,_,r,R3,r,hd⟩))))
theorem bW {o0:Nat} {o1 o2:List Int} {Y:Nat→(List Int)→Int→((Bool×Nat×(List Int))→Prop)→Prop} {Q:(Nat×(List Int))→Prop} (hY:∀ {J_:IH},I.le J_→∀ {y13:Nat} {y14:List Int} {x20:Int} {p16:Option Addr} {c17:Nat} {Qy:(Bool×Nat×(List Int))→Prop},Y y13 y14 x20 Qy→RFun prog lr [.int .i64 x20] J_ [Rr y13,pto b4 (.cells #[.slice p16 y14.length c17] 30 (0,0)),OwnSl AE 3 p16 c17 y14] (fun I_ v l=>∃ r p22 c23,v=.bool r.1∧l=[Rr r.2.1,pto b4 (.cells #[.slice p22 r.2.2.length c23] 30 (0,0)),OwnSl AE 3 p22 c23 r.2.2]∧Qy r)) (R12:RepSl TE I p10 c11 o2) (hd:PF o0 o1 o2 Y Q) :
  Fun prog 285 #[.func (.yield lr) #[] #[],.pointer (some ⟨b9,0,none⟩)] I [Rr o0,pto b4 (.cells #[.slice p5 o1.length c6] 30 (0,0)),OwnSl AE 3 p5 c6 o1,pto b9 (.cells #[.slice p10 o2.length c11] 181 (0,0))] (fun I_ v l=>∃ r p14 c15,v=.tuple #[]∧l=[Rr r.1,pto b4 (.cells #[.slice p14 r.2.length c15] 30 (0,0)),OwnSl AE 3 p14 c15 r.2,pto b9 (.cells #[.slice p10 o2.length c11] 181 (0,0))]∧Q r):=by
 refine Fun.en func285 ntmps285 r fun w0 M=>?_
 refine .sr (.lo isAgg181 .p3 r (.ln RJ r (.kn 1 [8,7,6,1,0] r (.block (.lx hd [7,6,1,0] [3] r (fun j E l (e,s,t)=>fun c w=>∃ u x,j ⟨31,[],none⟩ (fun I_=>True) ((8,.int .i64 s) :: E) (pto b4 (.cells #[.slice u e.length x] 30 (0,0)) :: OwnSl AE 3 u x e :: Rr t :: l) c w) (fun c w ho hs=>⟨_,_,jf rf trivial [1,1,0,0] r ho hs⟩) ?_)))))
 rintro ⟨e,s,t⟩ P hd c w ⟨u,x,T,f,_,hok,hsym⟩
 have R12:=f.u1 R12
 refine Cod.at hok hsym (.sr (.kn 1 [9,8,7,6,1,0] r (.seq (.condP r hd (fun A hd=>?_) fun A hd=>?_))))
 · refine .sn [8,7,6,1,0] r (.seq (.block (.sk 1 r ?_)))
   obtain ⟨z,U,y,hd⟩:=hd
   obtain ⟨V,o275,S,N,B,C⟩:=R12.2 _ _ y
   cases C
   refine .ixa RJ GD r N r z (AH y z) r r (.ld1 (j:=0) DZ B r r r r r (.ks 2 r (.nk [4,3,8,7,6,1,0] 1 r (.shl' r r (by decide) r r (.kn 1 [5,4,8,7,6,1,0] r (.block (.lx hd [8,7,6,1,0] [3] r (fun j E l (a,g,b,d)=>fun c w=>∃ h i,j ⟨31,[],none⟩ (fun I_=>True) ((4,.int .u64 g) :: (5,.int .i64 b) :: E) (pto b4 (.cells #[.slice h a.length i] 30 (0,0)) :: OwnSl AE 3 h i a :: Rr d :: l) c w) (fun c w ho hs=>⟨_,_,jf rf trivial [0,0,0,0] r ho hs⟩) ?_)))))))
   rintro ⟨a,g,b,d⟩ R hd c w ⟨h,i,O,k,_,hok,hsym⟩
   obtain ⟨m,R12⟩:=k.u2 f R12
   refine Cod.at hok hsym (.seq (.sr (.kn 2 [16,8,7,6,5,4,1,0] r (.condP r hd (fun D hd=>?_) fun D hd=>?_))))
   · refine .sn [8,7,6,5,4,1,0] r (.seq (.block (.sk 4 r ?_)))
     refine AQ hd (fun p hd=>?_) fun p hd=>?_
     · rw [p]
       refine .ks 2 r ?_
       have F:=hY (J_:=O) m (y13:=d) (y14:=a) (x20:=b) (p16:=h) (c17:=i) hd
       refine .yes r (.callY r r (.o [2,0,0] r) F r r fun W X Z G H=>?_)
       obtain ⟨q,a0,a1,rfl,rfl,hd⟩:=H
       obtain ⟨J,K,R12⟩:=G.u3 m k R12
       refine .rn 4 r (.kn 2 [29,8,7,6,5,4,1,0] r (.condP r hd (fun L hd=>?_) fun L hd=>?_))
       · exact .ret (KG results285 .n J (.o [0,0,0,0] r) ⟨(q.2.1,q.2.2),_,_,r,r,hd⟩)
       exact .sn [8,7,6,5,4,1,0] r (.region (.ks 1 r (.shr' r r (by decide) r r (.ks 4 r (.nil' fun c w ho hs=>⟨(q.2.2,shr .u64 g 1,AJ (b+1),q.2.1),hd,_,_,jf K trivial [1,1,0,0] r ho hs⟩)))))
     rw [p]
     exact .kn 5 [29,8,7,6,5,4,1,0] r (.condKF r r (.sn [8,7,6,5,4,1,0] r (.region (.ks 1 r (.shr' r r (by decide) r r (.ks 4 r (.nil' fun c w ho hs=>⟨(a,shr .u64 g 1,AJ (b+1),d),hd,_,_,jf k trivial [0,0,0,0] r ho hs⟩)))))))
   exact .en [8,7,6,1,0] r (.region (.ks 2 r (.nil' fun c w ho hs=>⟨(a,AJ (s+1),d),hd,_,_,jf m trivial [0,0,0,0] r ho hs⟩)))
 exact .exit (RF results285 .n f (.o [2,0,0,0] r) ⟨(t,e),_,_,r,r,hd⟩)
theorem PR {o0:List Int} {Q:(List Int)→Prop} (R5:RepSl TE I p3 c4 o0) (hd:FZ o0 Q) :
  Fun prog 284 #[.slice none 0 0,.func (.func 285) #[] #[.pointer (some ⟨b2,0,none⟩)]] I [pto b2 (.cells #[.slice p3 o0.length c4] 181 (0,0))] (fun I_ v l=>∃ r p6 c7,v=.slice p6 r.length c7∧RepSl AE I_ p6 c7 r∧l=[pto b2 (.cells #[.slice p3 o0.length c4] 181 (0,0))]∧Q r):=by
 refine Fun.en func284 ntmps284 r fun w0 M=>?_
 refine .marks0 (.sr (.box1 r r r r fun m=>?_))
 refine .kn 1 [2,1] r (.seq (.sr (.kn 1 [6,2,1] r (.block (.own0 AE 3 (.rangeF [] r call285 (.o [2,1,0,0] r) fun lr D rc hrc=>?_))))))
 refine ⟨_,bW (I:=I) (lr:=lr) (Rr:=bI lr [] rc) (o0:=0) (o1:=([]:List Int)) (o2:=o0) (b4:=m) (p5:=none) (c6:=0) (b9:=b2) (p10:=p3) (c11:=c4) ?_ R5 hd,?_⟩
 · skip
   intro I hJ p h b q s Qy  hd
   replace R5:=R5.mono hJ
   obtain ⟨rfl,hd⟩:=hd
   refine RFun.mk hrc r fun w0 M=>?_
   refine .region (.ks 1 r (.nil' fun c w ho hs=>qK (E':=[(2,_),(5,_)]) ho ⟨r,r,trivial⟩ hs .z (.block (.region (.lo GS .p1 r (.ks 1 r (.buildSlice 1 BT EX nL r r (.c r r r .n) r r fun u=>?_)))))))
   obtain ⟨d,hd⟩:=hd
   refine .append (ys:=[b]) 8 .p3 BT BT IN3 r r r r r r r r r (.box .z (.one r) r) d r r fun x y=>?_
   refine .s1 iO .p3 r ?_
   exact .nil' fun c w ho hs=>AfP 0 (.inl rfl) rf .p2 (.o [2,0] rfl) ⟨(true,0,(h++([b]))),_,_,rfl,rfl,hd⟩ hs
 intro A B l' a e
 obtain ⟨j,C,E,rfl,rfl,hd⟩:=e
 have R5:=a.u1 R5
 obtain ⟨hz,hd⟩:=hd
 refine ⟨_,_,r,fun hj=>?_,fun i hj=>absurd (hz.symm.trans hj) (by simp)⟩
 refine .rn 4 r (.mkS [2,1] r r (.sr (.lo GS .p1 r (.kn 1 [4,1] r (.drop .p1 (.pub .p1 fun F f k=>?_))))))
 obtain ⟨g,R5⟩:=f.u2 a R5
 exact .ret (AhB .z results284 (.t r .n) g (.o [0] r) ⟨j.2,_,_,r,k,r,hd⟩)
theorem W3 {o0:List Int} {Q:(List Int)→Prop} (R5:RepSl TE I p3 c4 o0) (hd:IZ o0 Q) :
  Fun prog 249 #[.func (.func 285) #[] #[.pointer (some ⟨b2,0,none⟩)]] I [pto b2 (.cells #[.slice p3 o0.length c4] 181 (0,0))] (fun I_ v l=>∃ r p6 c7,v=.slice p6 r.length c7∧RepSl AE I_ p6 c7 r∧l=[pto b2 (.cells #[.slice p3 o0.length c4] 181 (0,0))]∧Q r):=by
 refine Fun.en func249 ntmps249 r fun w0 M=>?_
 refine .sk 1 r (.nk [0] 1 r ?_)
 have b:=PR (I:=I) (o0:=o0) (b2:=b2) (p3:=p3) (c4:=c4) R5 hd
 refine .callS (.f call284 r) (.o [0] r) b r r fun g k h a c=>?_
 obtain ⟨d,i,j,rfl,e,rfl,hd⟩:=c
 have R5:=a.u1 R5
 exact .rn 1 r (.kn 1 [2,0] r (.q1 results249 a [0] r ⟨d,_,_,r,e,r,hd⟩))
theorem SI {a0:List Int} {Q:(List Int)→Prop} (R3:RepSl TE I p1 c2 a0) (hd:JA a0 Q) :
  BR prog 198 [.slice p1 a0.length c2] I (AhY Q):=by
 refine Fun.en func198 ntmps198 r fun w0 M=>?_
 refine .sk 1 r (.nk [0] 1 r ?_)
 have i:=gI (I:=I) (a0:=a0) R3 hd
 refine .callS (.f call250 r) .n i r r fun t s u b c=>?_
 obtain ⟨j,k,l,m,rfl,a,rfl,hd⟩:=c
 have R3:=b.u1 R3
 refine .rn 1 r ?_
 have d:=W3 (I:=s) (o0:=j) (b2:=k) (p3:=l) (c4:=m) a hd
 refine .callS (.f call249 r) (.o [0] r) d r r fun v w x e g=>?_
 obtain ⟨p,y,A,rfl,q,rfl,hd⟩:=g
 obtain ⟨h,R3,a⟩:=e.u3 b R3 a
 exact .rn 1 r (.kn 1 [2] r (.drop .z (.r1 results198 r h ⟨p,_,_,r,q,hd⟩)))
theorem UL {a0 a1:Int} {Q:Int→Prop} (hd:KX a0 a1 Q) :
  Fun prog 252 #[.int .u64 a0,.int .u64 a1] I [] (fun I_ v l=>∃ r,v=.int .u64 r∧l=[]∧Q r):=by
 refine Fun.en func252 ntmps252 r fun w0 M=>?_
 exact .sk 1 r (.nk [1,0] 4 r (.no [4] r (.q1 results252 rf [] r ⟨(xR .u64 a0 a1),r,r,hd⟩)))
theorem gJ {a0:Int} {a1 a2:List Int} {Q:(List Int)→Prop} (R3:RepSl TE I p1 c2 a1) (R6:RepSl TE I p4 c5 a2) (hd:TU a0 a1 a2 Q) :
  Fun prog 251 #[.int .i64 a0,.slice p1 a1.length c2,.slice p4 a2.length c5,.func (.func 252) #[] #[]] I [] (fun I_ v l=>∃ r p7 c8,v=.slice p7 r.length c8∧RepSl TE I_ p7 c8 r∧l=[]∧Q r):=by
 refine Fun.en func251 ntmps251 r fun w0 M=>?_
 refine .sk 1 r (.nk [3,2,1,0] 1 r ?_)
 obtain ⟨a8,a9,hd⟩:=hd
 refine .make (El:=TE) (zv:=0) 8 RJ AhE r r r r r r a8 a9 r r r fun d2=>?_
 refine .kn 1 [9,3,2,1] r (.seq (.sk 1 r (.ln RJ r (.kn 1 [17,16,9,3,2,1] r (.block (.lx hd [16,3,2,1] [] r (fun j E l (a,b)=>fun c w=>∃ i k,j ⟨45,[],none⟩ (fun I_=>True) ((9,.slice i a.length k) :: (17,.int .i64 b) :: E) (OwnSl TE 155 i k a :: l) c w) (fun c w ho hs=>⟨_,_,jf rf trivial [0] r ho hs⟩) ?_))))))
 rintro ⟨a,b⟩ a7 hd c w ⟨i,k,b4,d,_,hok,hsym⟩
 obtain ⟨R3,R6⟩:=d.u2 R3 R6
 refine Cod.at hok hsym (.sr (.kn 1 [18,17,16,9,3,2,1] r (.seq (.condP r hd (fun C hd=>?_) fun C hd=>?_))))
 · refine .sn [17,16,9,3,2,1] r (.seq (.block (.sk 2 r (.nk [10,17,16,9,3,2,1] 2 r (.no [12,11,10,17,16,9,3,2,1] r (.seq (.jn hd [17,16,12,10,9,3,2,1] [0] r (fun j E l e=>j ((11,.int .u64 e) :: E) l) (fun b5 hd=>?_) ?_)))))))
   · skip
     refine .sk 2 r (.ln RJ r (.kn 1 [23,12,11,10,17,16,9,3,2,1] r (.condP r hd (fun D hd=>?_) fun D hd=>?_)))
     · refine .region (.ks 2 r ?_)
       obtain ⟨s,X,m,hd⟩:=hd
       obtain ⟨b6,o209,b0,Y,F,G⟩:=R3.2 _ _ m
       cases G
       exact .ixa RJ GD r Y r s (AH m s) r r (.ld1 (j:=0) DZ F r r r r r (.ks 1 r (.nil' (je X hd rf [0] r))))
     exact .skip' (je 0 hd rf [0] r)
   refine fun e hd=>jq r fun t f=>?_
   obtain ⟨p,R3,R6⟩:=f.u3 d R3 R6
   refine .seq (.sk 2 r (.ln RJ r (.kn 1 [31,17,16,12,11,10,9,3,2,1] r (.condP r hd (fun H hd=>?_) fun H hd=>?_))))
   · refine .region (.ks 2 r ?_)
     obtain ⟨u,Z,q,hd⟩:=hd
     obtain ⟨b7,o222,b1,a3,J,K⟩:=R6.2 _ _ q
     cases K
     refine .ixa RJ GD r a3 r u (AH q u) r r (.ld1 (j:=0) DZ J r r r r r (.kn 1 [12,17,16,11,10,9,3,2,1] r (.region (.ks 5 r ?_))))
     have L:=UL (I:=t) (a0:=e) (a1:=Z) hd
     refine .callS (.c call252 r r) .n L r r fun b8 b9 c0 N O=>?_
     obtain ⟨x,rfl,rfl,hd⟩:=O
     obtain ⟨P,b2,R3,R6⟩:=N.u4 p f R3 R6
     refine .rn 1 r ?_
     obtain ⟨y,c1,g,hd⟩:=hd
     refine .ownNe .z (DO g) fun c3 a4=>?_
     cases a4
     exact .ixa0 RJ GD r r y (AH g y) r r (.stO1 (j:=0) (v':=x) GD .z g r r r (.o r) r (.rl .z [9,36] r (by simp only [List.length_set]) (.no [17,16,9,3,2,1] r (.region (.ks 2 r (.nil' fun c w ho hs=>⟨((a.set b.toNat x),AJ (b+1)),hd,_,_,jf P trivial [0] r ho hs⟩))))))
   refine .sn [17,16,12,11,10,9,3,2,1] r (.region (.ks 5 r ?_))
   have R:=UL (I:=t) (a0:=e) (a1:=0) hd
   refine .callS (.c call252 r r) .n R r r fun c4 c6 c7 S T=>?_
   obtain ⟨A,rfl,rfl,hd⟩:=T
   obtain ⟨U,b3,R3,R6⟩:=S.u4 p f R3 R6
   refine .rn 1 r ?_
   obtain ⟨B,c9,h,hd⟩:=hd
   refine .ownNe .z (DO h) fun d0 a5=>?_
   cases a5
   exact .ixa0 RJ GD r r B (AH h B) r r (.stO1 (j:=0) (v':=A) GD .z h r r r (.o r) r (.rl .z [9,36] r (by simp only [List.length_set]) (.no [17,16,9,3,2,1] r (.region (.ks 2 r (.nil' fun c w ho hs=>⟨((a.set b.toNat A),AJ (b+1)),hd,_,_,jf U trivial [0] r ho hs⟩))))))
 refine .en [9,3] r (.sr (.kn 2 [8,3] r (.pub .z fun d1 V a6=>?_)))
 have W:=V.u1 d
 exact .q1 results251 W [] r ⟨a,_,_,r,a6,r,hd⟩
theorem eV {a0 a1:List Int} {Q:(List Int)→Prop} (R3:RepSl TE I p1 c2 a0) (R6:RepSl TE I p4 c5 a1) (hd:PG a0 a1 Q) :
  BR prog 199 [.slice p1 a0.length c2,.slice p4 a1.length c5] I (fun I_ v=>∃ r p7 c8,v=.slice p7 r.length c8∧RepSl TE I_ p7 c8 r∧Q r):=by
 refine Fun.en func199 ntmps199 r fun w0 M=>?_
 refine .sk 1 r (.nk [1,0] 1 r (.ln RJ r (.ks 2 r ?_)))
 have b:=gJ (I:=I) (a0:=(a0.length:Int)) (a1:=a0) (a2:=a1) R3 R6 hd
 refine .callS (.f call251 r) .n b r r fun g h i a c=>?_
 obtain ⟨d,j,k,rfl,e,rfl,hd⟩:=c
 obtain ⟨R3,R6⟩:=a.u2 R3 R6
 exact .rn 0 r (.kn 1 [4] r (.r1 results199 r a ⟨d,_,_,r,e,hd⟩))
theorem KR {o1:BI} {o2:Int} {o3:List (Nat×AA)} {o4:AA} {a0 a1 a2:Int} {a3:List AD} {Q:AA→Prop} (R10:RepSl AE I p8 c9 o1.A.Start) (R13:RepSl AE I p11 c12 o1.A.Col) (R16:RepSl AE I p14 c15 o1.A.Val) (R19:RepSl AE I p17 c18 o1.B.Start) (R22:RepSl AE I p20 c21 o1.B.Col) (R25:RepSl AE I p23 c24 o1.B.Val) (R28:RepSl AE I p26 c27 o1.Mask.Start) (R31:RepSl AE I p29 c30 o1.Mask.Col) (R34:RepSl AE I p32 c33 o1.Mask.Val) (R39:RepSl AE I p37 c38 o4.mask.Start) (R42:RepSl AE I p40 c41 o4.mask.Col) (R45:RepSl AE I p43 c44 o4.mask.Val) (R58:RepSl BV I p56 c57 a3) (hd:CG o1 o2 o3 o4 a0 a1 a2 a3 Q) :
  Fun prog 141 #[.int .i64 a0,.int .i64 a1,.int .i64 a2,.slice p56 a3.length c57,.pointer (some ⟨b6,0,none⟩),.pointer (some ⟨b7,0,none⟩),.pointer (some ⟨b35,0,none⟩)] I [pto b6 (.cells #[.pointer (some ⟨b36,0,none⟩)] 122 (0,0)),pto b7 (.cells (uE o1 p8 c9 p11 c12 p14 c15 p17 c18 p20 c21 p23 c24 p26 c27 p29 c30 p32 c33) 40 (0,0)),pto b35 (.cells #[.int .i64 o2] 3 (0,0)),BQ AG o3,pto b36 (.cells (PZ o4 p37 c38 p40 c41 p43 c44 p46 c47 b54 p49 c50) 127 (0,0)),OwnSl DQ 196 p46 c47 o4.out,OwnMap FP (NN BV) false b54 o4.parts,OwnSl CI 161 p49 c50 o4.has] (fun I_ v l=>∃ r p60 c61 p63 c64 p66 c67 p69 c70 p72 c73,v=.tuple #[]∧RepSl AE I_ p60 c61 r.mask.Start∧RepSl AE I_ p63 c64 r.mask.Col∧RepSl AE I_ p66 c67 r.mask.Val∧l=[pto b6 (.cells #[.pointer (some ⟨b36,0,none⟩)] 122 (0,0)),pto b7 (.cells (uE o1 p8 c9 p11 c12 p14 c15 p17 c18 p20 c21 p23 c24 p26 c27 p29 c30 p32 c33) 40 (0,0)),pto b35 (.cells #[.int .i64 o2] 3 (0,0)),BQ AG o3,pto b36 (.cells (PZ r p60 c61 p63 c64 p66 c67 p69 c70 b54 p72 c73) 127 (0,0)),OwnSl DQ 196 p69 c70 r.out,OwnMap FP (NN BV) false b54 r.parts,OwnSl CI 161 p72 c73 r.has]∧Q r):=by
 refine Fun.en func141 ntmps141 r fun w0 M=>?_
 refine .dr [0,1,2,3,4,5,6,7,8,9,10,11,12,13,14,15,17,18,19,20,22,23,16,21,24,25,26,27,28,29] 30 (.h r (fun _=>.lo KP .z r .mk) (.h r (fun _=>.lo KP .z r .mk) (.fk 2 r (.h r (fun _=>.lo aU .p4 r .mk) (.fk 2 r (.h r (fun _=>.lo BF .p1 r .mk) (.h r (fun _=>.lo KP .z r .mk) (.fk 2 r (.h r (fun _=>.lo BF .p4 r .mk) ?_)))))))))
 refine .h r (fun _=>.lo KP .z r .mk) (.fk 2 r (.h r (fun _=>.lo BF .p4 r .mk) (.fk 1 r (.h r (fun _=>.lo BF .p1 r .mk) (.fk 2 r (.h r (fun _=>.lo BF .p2 r .mk) (.fk 1 r (.ww r fun ex=>?_))))))))
 have d:=eU (I:=I) hd
 refine .cq call142 d r fun a hd=>?_
 refine .so 8 r r r (.ck 1 r r (.ch r (fun _=>.lo BF .p2 r .mk) (.ck 2 r r (.ch r (fun _=>.lo BF .p1 r .mk) (.ck 2 r r (.ch r (fun _=>.lo aU .p4 r .mk) (.ck 2 r r (.ch r (fun _=>.lo KP .z r .mk) (.ch r (fun _=>.lo KP .z r .mk) trivial))))))))) (.ww r fun ex=>?_)
 have e:=eU (I:=I) hd
 refine .cq call142 e r fun b hd=>?_
 refine .so 8 r r r (.ck 1 r r (.ch r (fun _=>.lo BF .p2 r .mk) (.ck 1 r r (.ch r (fun _=>.lo aU .p4 r .mk) (.ck 2 r r (.ch r (fun _=>.lo KP .z r .mk) (.ch r (fun _=>.lo KP .z r .mk) trivial))))))) (.h r (fun _=>.build TY uJ uG (.c r r r (.o r) (.c r r r (.o r) (.c r r r (.o r) (.c r r r (.o r) (.c r r r (.o r) .n))))) (by exact ⟨⟨_,_,r,r,r⟩,⟨⟨_,_,r,r,r⟩,⟨⟨_,_,r,r,r⟩,⟨⟨_,_,r,r,r⟩,⟨⟨_,_,r,r,r⟩,trivial⟩⟩⟩⟩⟩) r r .mk) (.ww r fun ex=>?_))
 refine .buildSlice 1 dD FN TY r r (.c r r r .n) r r fun g=>?_
 refine .so 9 r r r (.ch r (fun _=>.lo aU .p5 r .mk) (.ck 2 r r (.ch r (fun _=>.lo KP .p1 r .mk) (.ch r (fun _=>.lo KP .p1 r .mk) trivial)))) (.ww r fun ex=>?_)
 obtain ⟨f,hd⟩:=hd
 refine .append (ys:=[({ Kind:=a0,From:=a,To:=b,Seq:=0,Round:=o2,Vec:=({ N:=0,Items:=([]:List EC) }:Vec),Sums:=([]:List eZ),Triples:=a3,N:=0,Over:=false }:BL)]) 136 .p6 dD dD AjF r r r r r r r r r (.box .z (.one ⟨_,_,_,_,_,_,r,.nil _ _ _,.nil _ _ _,R58⟩) r) f r r fun k m=>?_
 refine .so 9 r r r (.ch r (fun _=>.lo KP .p2 r .mk) trivial) (.fk 2 r (.ww r fun ex=>?_))
 exact .s1 AhG .p6 r (.sn 9 r r r trivial (.e2 30 (.nil' (RF results141 .n rf (.o [2,2,2,2,2,0,1,1] r) ⟨({ i:=o4.i,j:=o4.j,mask:=o4.mask,out:=(o4.out++([({ Kind:=a0,From:=a,To:=b,Seq:=0,Round:=o2,Vec:=({ N:=0,Items:=([]:List EC) }:Vec),Sums:=([]:List eZ),Triples:=a3,N:=0,Over:=false }:BL)])),parts:=o4.parts,at_:=o4.at_,has:=o4.has }:AA),_,_,_,_,_,_,_,_,_,_,r,R39,R42,R45,r,hd⟩))))
theorem W4 {o0:AC} {o1:AA} {o2:List (Nat×AA)} {a0:Int} {a1:BJ} {Q:AA→Prop} (R7:RepSl AE I p5 c6 o0.p.A.Start) (R10:RepSl AE I p8 c9 o0.p.A.Col) (R13:RepSl AE I p11 c12 o0.p.A.Val) (R16:RepSl AE I p14 c15 o0.p.B.Start) (R19:RepSl AE I p17 c18 o0.p.B.Col) (R22:RepSl AE I p20 c21 o0.p.B.Val) (R25:RepSl AE I p23 c24 o0.p.Mask.Start) (R28:RepSl AE I p26 c27 o0.p.Mask.Col) (R31:RepSl AE I p29 c30 o0.p.Mask.Val) (R34:RepSl CB I p32 c33 o0.stages) (R44:RepSl AE I p42 c43 o1.mask.Start) (R47:RepSl AE I p45 c46 o1.mask.Col) (R50:RepSl AE I p48 c49 o1.mask.Val) (hd:GG o0 o1 o2 a0 a1 Q) :
  Fun prog 73 #[.pointer (some ⟨b4,0,none⟩),.pointer (some ⟨b41,0,none⟩),.int .i64 a0,.agg (kK a1).toArray] I [pto b4 (.cells (AZ o0 p5 c6 p8 c9 p11 c12 p14 c15 p17 c18 p20 c21 p23 c24 p26 c27 p29 c30 p32 c33 p35 c36 b40) 121 (0,0)),OwnSl CV 122 p35 c36 o0.workers,OwnMap CU CV false b40 o0.boxes,pto b41 (.cells (PZ o1 p42 c43 p45 c46 p48 c49 p51 c52 b59 p54 c55) 127 (0,0)),OwnSl DQ 196 p51 c52 o1.out,OwnMap FP (NN BV) false b59 o1.parts,OwnSl CI 161 p54 c55 o1.has,BQ AG o2] (fun I_ v l=>∃ r p62 c63 p65 c66 p68 c69 p71 c72 p74 c75,v=.tuple #[]∧RepSl AE I_ p62 c63 r.mask.Start∧RepSl AE I_ p65 c66 r.mask.Col∧RepSl AE I_ p68 c69 r.mask.Val∧l=[pto b4 (.cells (AZ o0 p5 c6 p8 c9 p11 c12 p14 c15 p17 c18 p20 c21 p23 c24 p26 c27 p29 c30 p32 c33 p35 c36 b40) 121 (0,0)),OwnSl CV 122 p35 c36 o0.workers,OwnMap CU CV false b40 o0.boxes,pto b41 (.cells (PZ r p62 c63 p65 c66 p68 c69 p71 c72 b59 p74 c75) 127 (0,0)),OwnSl DQ 196 p71 c72 r.out,OwnMap FP (NN BV) false b59 r.parts,OwnSl CI 161 p74 c75 r.has,BQ AG o2]∧Q r):=by
 refine Fun.en func73 ntmps73 r fun w0 M=>?_
 refine .sr (.box1 r r r r fun j9=>?_)
 refine .box1 r r r r fun k0=>?_
 refine .bx r fun r9=>?_
 refine .nk [7,6,5,0] 3 r (.loadA WI KH r .p3 (.o 19 r) r r r (.al XR r fun k1=>?_))
 refine .sa KH .z r (.nk [8,7,6,5] 1 r (.lo BF .p1 r (.ks 1 r (.lo BF .p1 r (.buildArr LX OC EX (.c r r r (.o r) (.c r r r (.o r) .n)) r r (.al LX r fun s0=>?_))))))
 refine .sa HK .z r (.ns [9,8,7,6,5] r (.mkFn r r r r (.kn 1 [10,9,8,7,5] r (.seq (.jx hd [10,9,8,7,5] [4,2,1,0,0,0,0,0,4] r (fun j E l (e8,e9,f0,f1,b2,b3,b5,b8,f2,f3,b9)=>fun c w=>∃ f4 f5 f6 f7 f8 f9 g0 g1 g2 g3,j ⟨97,[],none⟩ (fun I_=>RepSl AE I_ f4 f5 b2∧RepSl AE I_ f6 f7 b3∧RepSl AE I_ f8 f9 b5) E (pto b41 (.cells #[.int .i64 e8,.int .i64 e9,.int .i64 f0,.int .i64 f1,.slice f4 b2.length f5,.slice f6 b3.length f7,.slice f8 b5.length f9,.slice g0 b8.length g1,.map (some b59),.int .i64 f3,.slice g2 b9.length g3] 127 (0,0)) :: OwnSl DQ 196 g0 g1 b8 :: OwnMap FP (NN BV) false b59 f2 :: OwnSl CI 161 g2 g3 b9 :: l) c w) (fun m7 hd=>?_) ?_)))))
 · skip
   refine .seq (.dr [0,1,2,3,4,5,6] 7 (.fk 1 r (.h r (fun _=>.lo BF .p2 r .mk) (.h r (fun _=>.lo KP .p4 r .mk) (.fk 2 r (.h r (fun _=>.lo BF .p8 r .mk) (.fk 1 r (.e2 7 (.no [31,10,9,8,7,5] r ?_)))))))))
   refine .condP r hd (fun h6 hd=>?_) fun h6 hd=>?_
   · refine .seq (.dr [0,1,2,3,4,5,6,7,8,9,10,12,11,13,14] 15 (.fk 1 r (.h r (fun _=>.loadA CF BH r .p1 (.o 5 r) r r r .mk) (.fk 2 r (.h r (fun _=>.lo BF .p1 r .mk) (.fk 1 r (.h r (fun _=>.lo BF .p1 r .mk) (.h r (fun _=>.lo KP .p4 r .mk) (.fk 2 r ?_)))))))))
     refine .h r (fun _=>.lo BF .p8 r .mk) (.h r (fun _=>.lw LW HK .z r .mk) (.ww r fun ex=>?_))
     have h7:=YZ (I:=I) hd
     refine .cq call144 h7 r fun m8 hd=>?_
     refine .so 13 r r r (.ch r (fun _=>.lw LW HK .z r .mk) (.ch r (fun _=>.loadA CF BH r .p1 (.o 5 r) r r r .mk) (.ck 1 r r trivial))) (.ww r fun ex=>?_)
     have h8:=SY (I:=I) R7 R10 R13 hd
     refine .call call139 r h8 r r fun m9 k2 u h9=>?_
     obtain ⟨n0,n1,n2,n3,n4,n5,n6,rfl,g4,g5,g6,hd⟩:=h9
     obtain ⟨R7,R10,R13,R16,R19,R22⟩:=u.u6 R7 R10 R13 R16 R19 R22
     obtain ⟨R25,R28,R31,R34,R44,R47⟩:=u.u6 R25 R28 R31 R34 R44 R47
     have R50:=u.u1 R50
     refine .so 13 r r r trivial (.ww r fun ex=>?_)
     have i0:=VZ (I:=k2) g4 g5 g6 hd
     refine .call call143 r i0 r r fun n7 n8 c0 i1=>?_
     obtain ⟨k3,n9,o5,rfl,Y,hd⟩:=i1
     obtain ⟨i2,R7,R10,R13,R16,R19⟩:=c0.u6 u R7 R10 R13 R16 R19
     obtain ⟨R22,R25,R28,R31,R34,R44⟩:=c0.u6 R22 R25 R28 R31 R34 R44
     obtain ⟨R47,R50,g4,g5,g6⟩:=c0.u5 R47 R50 g4 g5 g6
     refine .so 13 r r r trivial (.e2 15 (.ks 1 r (.nk [11,10,9,8,7,5] 1 r (.lo BF .p1 r (.kn 1 [49,48,11,10,9,8,7,5] r (.block (.lx hd [48,11,10,9,8,7,5] [4,2,1,0,0,0,0,0,4] r (fun j E l (Z,c1,c2,c3,a4,a5,a6,a7,c4,c5,a8,c7)=>fun c w=>∃ c8 d0 d1 d2 d3 d4 d5 d6 d7 d8,j ⟨97,[],none⟩ (fun I_=>RepSl AE I_ c8 d0 a4∧RepSl AE I_ d1 d2 a5∧RepSl AE I_ d3 d4 a6) ((49,.int .i64 c7) :: E) (pto b41 (.cells #[.int .i64 Z,.int .i64 c1,.int .i64 c2,.int .i64 c3,.slice c8 a4.length d0,.slice d1 a5.length d2,.slice d3 a6.length d4,.slice d5 a7.length d6,.map (some b59),.int .i64 c5,.slice d7 a8.length d8] 127 (0,0)) :: OwnSl DQ 196 d5 d6 a7 :: OwnMap FP (NN BV) false b59 c4 :: OwnSl CI 161 d7 d8 a8 :: l) c w) (fun c w ho hs=>⟨_,_,_,_,_,_,_,_,_,_,jf rf ⟨R44,R47,R50⟩ [8,8,8,8,4,2,1,0,0,0,0,0,0] r ho hs⟩) ?_)))))))
     rintro ⟨Z,c1,c2,c3,a4,a5,a6,a7,c4,c5,a8,c7⟩ l1 hd c w ⟨c8,d0,d1,d2,d3,d4,d5,d6,d7,d8,k4,d9,⟨e0,e1,e3⟩,hok,hsym⟩
     obtain ⟨h0,R7,R10,R13,R16,R19⟩:=d9.u6 i2 R7 R10 R13 R16 R19
     obtain ⟨R22,R25,R28,R31,R34,Y⟩:=d9.u6 R22 R25 R28 R31 R34 Y
     refine Cod.at hok hsym (.sr (.kn 1 [50,49,48,11,10,9,8,7,5] r (.seq (.condP r hd (fun i3 hd=>?_) fun i3 hd=>?_))))
     · refine .sn [49,48,11,10,9,8,7,5] r (.seq (.block (.sr (.kn 2 [12,49,48,11,10,9,8,7,5] r (.region (.ks 1 r (.lo KP .p4 r (.ks 2 r (.lo BF .z r ?_)))))))))
       refine .ks 2 r ?_
       have i4:=KR (I:=k4) (o1:=o0.p) (o2:=a0) (o3:=o2) (o4:=({ i:=Z,j:=c1,mask:=({ Rows:=c2,Cols:=c3,Start:=a4,Col:=a5,Val:=a6 }:Rows),out:=a7,parts:=c4,at_:=c5,has:=a8 }:AA)) (a0:=6) (a1:=Z) (a2:=c7) (a3:=k3) (b6:=j9) (b7:=k1) (p8:=p5) (c9:=c6) (p11:=p8) (c12:=c9) (p14:=p11) (c15:=c12) (p17:=p14) (c18:=c15) (p20:=p17) (c21:=c18) (p23:=p20) (c24:=c21) (p26:=p23) (c27:=c24) (p29:=p26) (c30:=c27) (p32:=p29) (c33:=c30) (b35:=k0) (b36:=b41) (p37:=c8) (c38:=d0) (p40:=d1) (c41:=d2) (p43:=d3) (c44:=d4) (p46:=d5) (c47:=d6) (b54:=b59) (p49:=d7) (c50:=d8) R7 R10 R13 R16 R19 R22 R25 R28 R31 e0 e1 e3 Y hd
       refine .callS (.c call141 r r) (.o [4,5,6,9,0,0,0,0] r) i4 r r fun o6 o7 o8 e4 i5=>?_
       obtain ⟨b,o9,p0,p7,p9,q0,q1,q2,q3,q4,q5,rfl,k5,k6,k7,rfl,hd⟩:=i5
       obtain ⟨l3,i6,R7,R10,R13,R16⟩:=e4.u6 h0 d9 R7 R10 R13 R16
       obtain ⟨R19,R22,R25,R28,R31,R34⟩:=e4.u6 R19 R22 R25 R28 R31 R34
       obtain ⟨Y,e0,e1,e3⟩:=e4.u4 Y e0 e1 e3
       exact .rn 13 r (.no [49,48,11,10,9,8,7,5] r (.region (.ks 2 r (.nil' fun c w ho hs=>⟨(b.i,b.j,b.mask.Rows,b.mask.Cols,b.mask.Start,b.mask.Col,b.mask.Val,b.out,b.parts,b.at_,b.has,AJ (c7+1)),hd,_,_,_,_,_,_,_,_,_,_,jf i6 ⟨k5,k6,k7⟩ [4,4,4,4,0,3,0,2,0,1,1,1,0] r ho hs⟩))))
     exact .exit fun c w ho hs=>⟨(Z,c1,c2,c3,a4,a5,a6,a7,c4,c5,a8),hd,_,_,_,_,_,_,_,_,_,_,jf h0 ⟨e0,e1,e3⟩ [0,0,0,0,0,0,0,0,0,0,0,0,0] r ho hs⟩
   exact .skip' fun c w ho hs=>⟨(o1.i,o1.j,o1.mask.Rows,o1.mask.Cols,o1.mask.Start,o1.mask.Col,o1.mask.Val,o1.out,o1.parts,o1.at_,o1.has),hd,_,_,_,_,_,_,_,_,_,_,jf rf ⟨R44,R47,R50⟩ [8,8,8,8,4,2,1,0,0,0,0,0,0] r ho hs⟩
 rintro ⟨e8,e9,f0,f1,b2,b3,b5,b8,f2,f3,b9⟩ hd c w ⟨f4,f5,f6,f7,f8,f9,g0,g1,g2,g3,h1,x,⟨q,s,t⟩,hok,hsym⟩
 obtain ⟨R7,R10,R13,R16,R19,R22⟩:=x.u6 R7 R10 R13 R16 R19 R22
 obtain ⟨R25,R28,R31,R34⟩:=x.u4 R25 R28 R31 R34
 refine Cod.at hok hsym (.seq (.dr [0,1,2,3,4,5,6] 7 (.fk 1 r (.h r (fun _=>.lo BF .p5 r .mk) (.h r (fun _=>.lo KP .p4 r .mk) (.fk 2 r (.h r (fun _=>.lo BF .z r .mk) (.fk 1 r (.e2 7 ?_)))))))))
 refine .no [67,10,9,8,5] r (.drop .p5 (.condP r hd (fun i7 hd=>?_) fun i7 hd=>?_))
 · refine .seq (.dr [0,1,2,3,4,5,6,7,8,9,10,11,12,13,14] 15 (.fk 1 r (.h r (fun _=>.loadA CF BH r .p5 (.o 5 r) r r r .mk) (.h r (fun _=>.lw LW HK .p6 r .mk) (.fk 2 r (.h r (fun _=>.lo BF .p5 r .mk) (.fk 1 r (.h r (fun _=>.lo BF .p5 r .mk) (.h r (fun _=>.lo KP .p4 r .mk) ?_)))))))))
   refine .fk 2 r (.h r (fun _=>.lo BF .z r .mk) (.ww r fun ex=>?_))
   have i8:=YZ (I:=h1) hd
   refine .cq call144 i8 r fun q6 hd=>?_
   refine .so 12 r r r (.ch r (fun _=>.lw LW HK .p6 r .mk) (.ch r (fun _=>.loadA CF BH r .p5 (.o 5 r) r r r .mk) (.ck 1 r r trivial))) (.ww r fun ex=>?_)
   have i9:=SY (I:=h1) R16 R19 R22 hd
   refine .call call139 r i9 r r fun q7 k8 e5 j0=>?_
   obtain ⟨q8,q9,r0,r1,r2,r3,r4,rfl,g7,g8,g9,hd⟩:=j0
   obtain ⟨j1,R7,R10,R13,R16,R19⟩:=e5.u6 x R7 R10 R13 R16 R19
   obtain ⟨R22,R25,R28,R31,R34,q⟩:=e5.u6 R22 R25 R28 R31 R34 q
   obtain ⟨s,t⟩:=e5.u2 s t
   refine .so 12 r r r trivial (.ww r fun ex=>?_)
   have j2:=VZ (I:=k8) g7 g8 g9 hd
   refine .call call143 r j2 r r fun r5 r6 e6 j3=>?_
   obtain ⟨k9,r7,r8,rfl,a9,hd⟩:=j3
   obtain ⟨j4,R7,R10,R13,R16,R19⟩:=e6.u6 j1 R7 R10 R13 R16 R19
   obtain ⟨R22,R25,R28,R31,R34,q⟩:=e6.u6 R22 R25 R28 R31 R34 q
   obtain ⟨s,t,g7,g8,g9⟩:=e6.u5 s t g7 g8 g9
   refine .so 12 r r r trivial (.e2 15 (.kn 1 [13,10,8,5] r (.drop .p6 (.sk 1 r (.lo BF .p5 r (.kn 1 [85,84,13,10,5] r (.block (.lx hd [84,13,10,5] [4,4,4,4,4,4,4] r (fun j E l (y,d,C,D,e,f,g,k,F,G,m,H)=>fun c w=>∃ J K L N O P R S T U,j ⟨97,[],none⟩ (fun I_=>RepSl AE I_ J K e∧RepSl AE I_ L N f∧RepSl AE I_ O P g) ((85,.int .i64 H) :: E) (pto b41 (.cells #[.int .i64 y,.int .i64 d,.int .i64 C,.int .i64 D,.slice J e.length K,.slice L f.length N,.slice O g.length P,.slice R k.length S,.map (some b59),.int .i64 G,.slice T m.length U] 127 (0,0)) :: OwnSl DQ 196 R S k :: OwnMap FP (NN BV) false b59 F :: OwnSl CI 161 T U m :: l) c w) (fun c w ho hs=>⟨_,_,_,_,_,_,_,_,_,_,jf rf ⟨q,s,t⟩ [0,0,0,0,0,0,0,0,0,0,0] r ho hs⟩) ?_))))))))
   rintro ⟨y,d,C,D,e,f,g,k,F,G,m,H⟩ l0 hd c w ⟨J,K,L,N,O,P,R,S,T,U,j5,b0,⟨V,W,X⟩,hok,hsym⟩
   obtain ⟨e7,R7,R10,R13,R16,R19⟩:=b0.u6 j4 R7 R10 R13 R16 R19
   obtain ⟨R22,R25,R28,R31,R34,a9⟩:=b0.u6 R22 R25 R28 R31 R34 a9
   refine Cod.at hok hsym (.sr (.kn 1 [86,85,84,13,10,5] r (.seq (.condP r hd (fun h2 hd=>?_) fun h2 hd=>?_))))
   · refine .sn [85,84,13,10,5] r (.seq (.block (.sr (.kn 2 [14,85,84,13,10,5] r (.region (.ks 2 r (.lo KP .p4 r (.ks 2 r (.lo BF .z r ?_)))))))))
     refine .ks 1 r ?_
     have h3:=KR (I:=j5) (o1:=o0.p) (o2:=a0) (o3:=o2) (o4:=({ i:=y,j:=d,mask:=({ Rows:=C,Cols:=D,Start:=e,Col:=f,Val:=g }:Rows),out:=k,parts:=F,at_:=G,has:=m }:AA)) (a0:=7) (a1:=H) (a2:=d) (a3:=k9) (b6:=j9) (b7:=k1) (p8:=p5) (c9:=c6) (p11:=p8) (c12:=c9) (p14:=p11) (c15:=c12) (p17:=p14) (c18:=c15) (p20:=p17) (c21:=c18) (p23:=p20) (c24:=c21) (p26:=p23) (c27:=c24) (p29:=p26) (c30:=c27) (p32:=p29) (c33:=c30) (b35:=k0) (b36:=b41) (p37:=J) (c38:=K) (p40:=L) (c41:=N) (p43:=O) (c44:=P) (p46:=R) (c47:=S) (b54:=b59) (p49:=T) (c50:=U) R7 R10 R13 R16 R19 R22 R25 R28 R31 V W X a9 hd
     refine .callS (.c call141 r r) (.o [4,4,4,7,0,0,0,0] r) h3 r r fun l4 l5 l6 b1 h4=>?_
     obtain ⟨a,l7,l8,l9,m0,m1,m2,m3,m4,m5,m6,rfl,j6,j7,j8,rfl,hd⟩:=h4
     obtain ⟨l2,h5,R7,R10,R13,R16⟩:=b1.u6 e7 b0 R7 R10 R13 R16
     obtain ⟨R19,R22,R25,R28,R31,R34⟩:=b1.u6 R19 R22 R25 R28 R31 R34
     obtain ⟨a9,V,W,X⟩:=b1.u4 a9 V W X
     exact .rn 11 r (.no [85,84,13,10,5] r (.region (.ks 2 r (.nil' fun c w ho hs=>⟨(a.i,a.j,a.mask.Rows,a.mask.Cols,a.mask.Start,a.mask.Col,a.mask.Val,a.out,a.parts,a.at_,a.has,AJ (H+1)),hd,_,_,_,_,_,_,_,_,_,_,jf h5 ⟨j6,j7,j8⟩ [4,4,4,4,0,0,0,1,1,1,0] r ho hs⟩))))
   exact .exit (RF results73 .n e7 (.o [7,7,7,0,0,0,0,3] r) ⟨({ i:=y,j:=d,mask:=({ Rows:=C,Cols:=D,Start:=e,Col:=f,Val:=g }:Rows),out:=k,parts:=F,at_:=G,has:=m }:AA),_,_,_,_,_,_,_,_,_,_,r,V,W,X,r,hd⟩)
 exact .skip' (RF results73 .n x (.o [8,8,8,0,0,0,0,4] r) ⟨({ i:=e8,j:=e9,mask:=({ Rows:=f0,Cols:=f1,Start:=b2,Col:=b3,Val:=b5 }:Rows),out:=b8,parts:=f2,at_:=f3,has:=b9 }:AA),_,_,_,_,_,_,_,_,_,_,r,q,s,t,r,hd⟩)
theorem iY {o0:List (Nat×AA)} {o1:List (Nat×AF)} {a0:BI} {Q0:(Int×(List (Nat×AA)))→Prop} {Q1:(Int×(List (Nat×AA))×AC)→Prop} (R5:RepSl AE I p3 c4 a0.A.Start) (R8:RepSl AE I p6 c7 a0.A.Col) (R11:RepSl AE I p9 c10 a0.A.Val) (R14:RepSl AE I p12 c13 a0.B.Start) (R17:RepSl AE I p15 c16 a0.B.Col) (R20:RepSl AE I p18 c19 a0.B.Val) (R23:RepSl AE I p21 c22 a0.Mask.Start) (R26:RepSl AE I p24 c25 a0.Mask.Col) (R29:RepSl AE I p27 c28 a0.Mask.Val) (hd:PY o0 o1 a0 Q0 Q1) :
  Fun prog 22 #[.agg #[.int .i64 a0.Ring,.int .i64 a0.A.Rows,.int .i64 a0.A.Cols,.slice p3 a0.A.Start.length c4,.slice p6 a0.A.Col.length c7,.slice p9 a0.A.Val.length c10,.int .i64 a0.B.Rows,.int .i64 a0.B.Cols,.slice p12 a0.B.Start.length c13,.slice p15 a0.B.Col.length c16,.slice p18 a0.B.Val.length c19,.int .i64 a0.Mask.Rows,.int .i64 a0.Mask.Cols,.slice p21 a0.Mask.Start.length c22,.slice p24 a0.Mask.Col.length c25,.slice p27 a0.Mask.Val.length c28,.int .i64 a0.R,.int .i64 a0.C,.int .i64 a0.Room]] I [BQ AG o0,BQ BD o1] (fun I_ v l=>(∃ r,v=.tuple #[.pointer none,.int .i64 r.1]∧l=[BQ AG r.2,BQ BD o1]∧Q0 r)∨(∃ r b30 p31 c32 p34 c35 p37 c38 p40 c41 p43 c44 p46 c47 p49 c50 p52 c53 p55 c56 p58 c59 p61 c62 b65,v=.tuple #[.pointer (some ⟨b30,0,none⟩),.int .i64 r.1]∧RepSl AE I_ p31 c32 r.2.2.p.A.Start∧RepSl AE I_ p34 c35 r.2.2.p.A.Col∧RepSl AE I_ p37 c38 r.2.2.p.A.Val∧RepSl AE I_ p40 c41 r.2.2.p.B.Start∧RepSl AE I_ p43 c44 r.2.2.p.B.Col∧RepSl AE I_ p46 c47 r.2.2.p.B.Val∧RepSl AE I_ p49 c50 r.2.2.p.Mask.Start∧RepSl AE I_ p52 c53 r.2.2.p.Mask.Col∧RepSl AE I_ p55 c56 r.2.2.p.Mask.Val∧RepSl CB I_ p58 c59 r.2.2.stages∧RepSl CV I_ p61 c62 r.2.2.workers∧l=[BQ AG r.2.1,BQ BD o1,pto b30 (.cells (AZ r.2.2 p31 c32 p34 c35 p37 c38 p40 c41 p43 c44 p46 c47 p49 c50 p52 c53 p55 c56 p58 c59 p61 c62 b65) 121 (0,0)),OwnMap CU CV false b65 r.2.2.boxes]∧Q1 r)):=by
 refine Fun.en func22 ntmps22 r fun w0 M=>?_
 refine .sr (.bx r fun l0=>?_)
 refine .kn 2 [1] r (.seq (.sr (.lw WI KH .z r ?_)))
 have g5:=aZ (I:=I) R5 R8 R11 R14 R17 R20 R23 R26 R29 hd
 refine .cq call33 g5 r fun h1 hd=>?_
 refine .ks 1 r (.nk [4,1] 2 r (.no [15,4,1] r (.condP r hd (fun g6 hd=>?_) fun g6 hd=>?_)))
 · exact .sr (.kn 3 [3,2] r (.drop .z (.ret (KG results22 (.t r (.t r .n)) rf (.o [0,0] r) (.inl ⟨(h1,o0),r,r,hd⟩)))))
 refine .sn [1] r (.seq (.dr [0,1,2,3,4,5,6,7,9,8,999,10,11] 12 (.h r (fun _=>.lw WI KH .z r .mk) (.fk 2 r (.h r (fun _=>.lo BF .z r .mk) (.fk 1 r (.h r (fun _=>.lo BF .z r .mk) (.fk 1 r (.h r (fun _=>.lo BF .z r .mk) ?_)))))))))
 refine .a (fun b=>.map (some b)) (fun b=>OwnMap CU CV false b ([]:List ((Int×Int)×(Option Nat)))) r r r r (fun _ L hL ex=>.mkMap CU CV false r r fun b=>.mk (val:=fun b=>.map (some b)) (atom:=fun b=>OwnMap CU CV false b ([]:List ((Int×Int)×(Option Nat)))) hL b) (.ww r fun ex=>?_)
 have g7:=iW (I:=I) hd
 refine .call call69 r g7 r r fun l1 l2 c2 g8=>?_
 obtain ⟨c5,g1,g2,rfl,e,hd⟩:=g8
 obtain ⟨R5,R8,R11,R14,R17,R20⟩:=c2.u6 R5 R8 R11 R14 R17 R20
 obtain ⟨R23,R26,R29⟩:=c2.u3 R23 R26 R29
 refine .so 3 r r r (.ch r (fun _=>.lw WI KH .z r .mk) trivial) (.b r fun g3=>DrawD.nop (.h r (fun _=>.build zeroValue121 underlying121 Aj8 (.c r r r (.o r) (.c r r r (.o r) (.c r r r (.o r) .n))) (by exact ⟨⟨_,_,r,r,r⟩,⟨⟨_,_,r,r,r⟩,⟨⟨_,_,r,r,r⟩,trivial⟩⟩⟩) r r .mk) (.ww r fun ex=>?_)))
 refine .bx r fun g4=>?_
 refine .so 5 r r r trivial (.e2 12 (.kn 1 [5,1] r (.seq (.sk 1 r (.lo BF .p1 r (.ks 1 r (.lo BF .p1 r (.kn 2 [34,33,5,1] r (.block ?_)))))))))
 refine .own0 CV 122 (.lx hd [33,5,1] [2,4,3] r (fun j E l (q,b2,G)=>fun c w=>∃ a5 a6,j ⟨87,[],none⟩ (fun I_=>True) ((34,.int .i64 b2) :: E) (pto g4 (.cells #[.int .i64 a0.Ring,.int .i64 a0.A.Rows,.int .i64 a0.A.Cols,.slice p3 a0.A.Start.length c4,.slice p6 a0.A.Col.length c7,.slice p9 a0.A.Val.length c10,.int .i64 a0.B.Rows,.int .i64 a0.B.Cols,.slice p12 a0.B.Start.length c13,.slice p15 a0.B.Col.length c16,.slice p18 a0.B.Val.length c19,.int .i64 a0.Mask.Rows,.int .i64 a0.Mask.Cols,.slice p21 a0.Mask.Start.length c22,.slice p24 a0.Mask.Col.length c25,.slice p27 a0.Mask.Val.length c28,.int .i64 a0.R,.int .i64 a0.C,.int .i64 a0.Room,.slice g1 c5.length g2,.slice a5 q.length a6,.map (some g3)] 121 (0,0)) :: OwnSl CV 122 a5 a6 q :: BQ AG G :: l) c w) (fun c w ho hs=>⟨_,_,jf rf trivial [1,0,1,0,1,0] r ho hs⟩) ?_)
 rintro ⟨q,b2,G⟩ g9 hd c w ⟨a5,a6,b3,H,_,hok,hsym⟩
 obtain ⟨b6,R5,R8,R11,R14,R17⟩:=H.u6 c2 R5 R8 R11 R14 R17
 obtain ⟨R20,R23,R26,R29,e⟩:=H.u5 R20 R23 R26 R29 e
 refine Cod.at hok hsym (.sr (.kn 1 [35,34,33,5,1] r (.seq (.condP r hd (fun c8 hd=>?_) fun c8 hd=>?_))))
 · refine .sn [34,33,5,1] r (.seq (.block (.sr (.kn 2 [6,34,33,5,1] r (.seq (.dr [0,1,2,4,5,6,3,7,8] 9 (.fk 1 r (.h r (fun _=>.lo BF .p3 r .mk) (.fk 2 r ?_)))))))))
   refine .h r (fun _=>.lo BF .p3 r .mk) (.fk 1 r (.ww r fun ex=>?_))
   have d0:=mM (I:=b3) hd
   refine .cq call70 d0 r fun h8 hd=>?_
   refine .so 6 r r r (.ck 1 r r (.ch r (fun _=>.lo BF .p3 r .mk) (.ck 1 r r trivial))) (.ww r fun ex=>?_)
   have d1:=Aa0 (I:=b3) hd
   refine .cq call71 d1 r fun h9 hd=>?_
   refine .so 6 r r r trivial (.fk 1 r (.e2 9 (.ks 1 r (.nk [8,7,34,33,5,1] 3 r (.loadA CF BH r .p3 (.o 5 r) r r r (.ks 1 r (.lo BF .p3 r (.ks 1 r (.lo BF .p3 r ?_)))))))))
   refine .ks 2 r ?_
   have d2:=xH (I:=b3) R23 R26 R29 hd
   refine .call call72 r d2 r r fun i0 i1 b7 d3=>?_
   obtain ⟨i2,i3,i4,i5,i6,i7,i8,rfl,f0,f1,f2,hd⟩:=d3
   obtain ⟨d4,d5,R5,R8,R11,R14⟩:=b7.u6 b6 H R5 R8 R11 R14
   obtain ⟨R17,R20,R23,R26,R29,e⟩:=b7.u6 R17 R20 R23 R26 R29 e
   refine .mkMap FP (NN BV) false r r fun a7=>?_
   refine .build zeroValue127 underlying127 AjA (.c r r r (.o r) (.c r r r (.o r) (.c r r r (.o r) (.c r r r (.o r) .n)))) (by exact ⟨⟨_,_,r,r,r⟩,⟨⟨_,_,r,r,r⟩,⟨⟨_,_,r,r,r⟩,⟨⟨_,_,r,r,r⟩,trivial⟩⟩⟩⟩) r r (.bx r fun s=>?_)
   refine .kn 1 [9,34,33,5,1] r (.seq (.sk 3 r (.lo aS .p2 r (.ln dC r (.kn 1 [64,63,62,9,34,33,5,1] r (.block (.own0 DQ 196 (.own0 CI 161 (.lx hd [63,62,34,33,9,5,1] [7,4,4,5,4,4] r (fun j E l (J,K,N,O,u,x,y,D,P,Q,F,a8)=>fun c w=>∃ S T U V W X Y Z a2 a3,j ⟨87,[],none⟩ (fun I_=>RepSl AE I_ S T u∧RepSl AE I_ U V x∧RepSl AE I_ W X y) ((64,.int .i64 a8) :: E) (pto s (.cells #[.int .i64 J,.int .i64 K,.int .i64 N,.int .i64 O,.slice S u.length T,.slice U x.length V,.slice W y.length X,.slice Y D.length Z,.map (some a7),.int .i64 Q,.slice a2 F.length a3] 127 (0,0)) :: OwnSl DQ 196 Y Z D :: OwnMap FP (NN BV) false a7 P :: OwnSl CI 161 a2 a3 F :: l) c w) (fun c w ho hs=>⟨_,_,_,_,_,_,_,_,_,_,jf rf ⟨f0,f1,f2⟩ [2,1,1,0,3,0,0,1,0,0] r ho hs⟩) ?_)))))))))
   rintro ⟨J,K,N,O,u,x,y,D,P,Q,F,a8⟩ h0 hd c w ⟨S,T,U,V,W,X,Y,Z,a2,a3,f3,a4,⟨g,k,m⟩,hok,hsym⟩
   obtain ⟨b8,b9,R5,R8,R11,R14⟩:=a4.u6 d4 d5 R5 R8 R11 R14
   obtain ⟨R17,R20,R23,R26,R29,e⟩:=a4.u6 R17 R20 R23 R26 R29 e
   refine Cod.at hok hsym (.sr (.kn 1 [65,64,63,62,34,33,9,5,1] r (.seq (.condP r hd (fun d6 hd=>?_) fun d6 hd=>?_))))
   · refine .sn [64,63,62,34,33,9,5,1] r (.seq (.block (.sk 1 r ?_)))
     obtain ⟨c3,f4,c0,hd⟩:=hd
     obtain ⟨i9,o1801,h2,f5,d7,d8⟩:=e.2 _ _ c0
     cases d8
     refine .ixa dC kT r f5 r c3 (AH c0 c3) r r (.ldW isAgg129 kT d7 r r r r (.al AdN r fun j0=>?_))
     refine .ks 1 r (.sa kT .z r (.no [10,11,64,63,62,34,33,9,5,1] r (.region (.ks 3 r (.lw isAgg129 kT .z r ?_)))))
     have d9:=W4 (I:=f3) (o0:=({ p:=a0,stages:=c5,workers:=q,boxes:=([]:List ((Int×Int)×(Option Nat))) }:AC)) (o1:=({ i:=J,j:=K,mask:=({ Rows:=N,Cols:=O,Start:=u,Col:=x,Val:=y }:Rows),out:=D,parts:=P,at_:=Q,has:=F }:AA)) (o2:=G) (a0:=a8) (a1:=f4) (b4:=g4) (p5:=p3) (c6:=c4) (p8:=p6) (c9:=c7) (p11:=p9) (c12:=c10) (p14:=p12) (c15:=c13) (p17:=p15) (c18:=c16) (p20:=p18) (c21:=c19) (p23:=p21) (c24:=c22) (p26:=p24) (c27:=c25) (p29:=p27) (c30:=c28) (p32:=g1) (c33:=g2) (p35:=a5) (c36:=a6) (b40:=g3) (b41:=s) (p42:=S) (c43:=T) (p45:=U) (c46:=V) (p48:=W) (c49:=X) (p51:=Y) (c52:=Z) (b59:=a7) (p54:=a2) (c55:=a3) R5 R8 R11 R14 R17 R20 R23 R26 R29 e g k m hd
     refine .callS (.f call73 r) (.o [6,6,6,1,1,1,1,2] r) d9 r r fun j1 j2 j3 a9 e0=>?_
     obtain ⟨d,j4,j5,j6,j7,j8,j9,k0,k1,k2,k3,rfl,f6,f7,f8,rfl,hd⟩:=e0
     obtain ⟨h3,h4,e1,R5,R8,R11⟩:=a9.u6 b8 b9 a4 R5 R8 R11
     obtain ⟨R14,R17,R20,R23,R26,R29⟩:=a9.u6 R14 R17 R20 R23 R26 R29
     obtain ⟨e,g,k,m⟩:=a9.u4 e g k m
     exact .rn 11 r (.no [64,63,62,34,33,9,5,1] r (.drop .p8 (.region (.ks 2 r (.nil' fun c w ho hs=>⟨(d.i,d.j,d.mask.Rows,d.mask.Cols,d.mask.Start,d.mask.Col,d.mask.Val,d.out,d.parts,d.at_,d.has,AJ (a8+1)),hd,_,_,_,_,_,_,_,_,_,_,jf e1 ⟨f6,f7,f8⟩ [3,3,3,3,4,0,0,0,0,0] r ho hs⟩)))))
   refine .en [34,33,9,5,1] r (.region (.ks 4 r (.lo isAgg119 .p5 r (.ks 1 r (.buildSlice 1 TW sizeOf122 zeroValue122 r r (.c r r r .n) r r fun k4=>?_)))))
   refine .pub .p2 fun k5 b0 b5=>?_
   obtain ⟨e3,e4,e5,R5,R8,R11⟩:=b0.u6 b8 b9 a4 R5 R8 R11
   obtain ⟨R14,R17,R20,R23,R26,R29⟩:=b0.u6 R14 R17 R20 R23 R26 R29
   obtain ⟨e,g,k,m⟩:=b0.u4 e g k m
   refine .pub .p3 fun k6 b1 f9=>?_
   obtain ⟨h5,e6,h6,R5,R8,R11⟩:=b1.u6 e3 e4 e5 R5 R8 R11
   obtain ⟨R14,R17,R20,R23,R26,R29⟩:=b1.u6 R14 R17 R20 R23 R26 R29
   obtain ⟨e,g,k,m,b5⟩:=b1.u5 e g k m b5
   refine .bankP (B:=AG) (S,T,U,V,W,X,Y,Z,a7,a2,a3) ({ i:=J,j:=K,mask:=({ Rows:=N,Cols:=O,Start:=u,Col:=x,Val:=y }:Rows),out:=D,parts:=P,at_:=Q,has:=F }:AA) ⟨g,k,m,b5,f9⟩ (.o [1,1,5] r) fun e7=>?_
   have hd:=hd s e7
   obtain ⟨e8,hd⟩:=hd
   refine .append (ys:=[(some s)]) 8 .p4 TW TW Aj9 r r r r r r r r r (.box .p1 (.one r) r) e8 r r fun k7 k8=>?_
   exact .ks 2 r (.s1 sizeOf119 .p4 r (.no [34,33,5,1] r (.drop .p2 (.region (.ks 2 r (.nil' fun c w ho hs=>⟨((q++([(some s)])),AJ (b2+1),((s,({ i:=J,j:=K,mask:=({ Rows:=N,Cols:=O,Start:=u,Col:=x,Val:=y }:Rows),out:=D,parts:=P,at_:=Q,has:=F }:AA)) :: G)),hd,_,_,jf e6 trivial [3,0,0,0,0,0] r ho hs⟩))))))
 refine .en [5] r (.drop .p3 (.sr (.kn 3 [3,2] r (.pub .p1 fun k9 c1 g0=>?_))))
 obtain ⟨e9,h7,R5,R8,R11,R14⟩:=c1.u6 b6 H R5 R8 R11 R14
 obtain ⟨R17,R20,R23,R26,R29,e⟩:=c1.u6 R17 R20 R23 R26 R29 e
 exact .ret (KG results22 (.t r (.t r .n)) e9 (.o [1,2,0,0] r) (.inr ⟨(0,G,({ p:=a0,stages:=c5,workers:=q,boxes:=([]:List ((Int×Int)×(Option Nat))) }:AC)),_,_,_,_,_,_,_,_,_,_,_,_,_,_,_,_,_,_,_,_,_,_,_,_,r,R5,R8,R11,R14,R17,R20,R23,R26,R29,e,g0,r,hd⟩))
theorem eW {a0:NP} {Q:Bool→Prop} (hd:QZ a0 Q) :
  Fun prog 62 #[.agg (cS a0).toArray] I [] (fun I_ v l=>∃ r,v=.bool r∧l=[]∧Q r):=by
 refine Fun.en func62 ntmps62 r fun w0 M=>?_
 refine .sr (.bx r fun c=>?_)
 refine .ks 1 r (.ns [1] r (.lw yJ iP .z r ?_))
 have a:=eN (I:=I) hd
 refine .cq call19 a r fun b hd=>?_
 exact .kn 2 [2] r (.drop .z (.q1 results62 rf [] r ⟨(!b),r,r,hd⟩))
theorem JV {a0:List NP} {Q:Int→Prop} (R3:RepSl AdL I p1 c2 a0) (hd:DV a0 Q) :
  Fun prog 129 #[.slice p1 a0.length c2,.func (.func 62) #[] #[]] I [] (fun I_ v l=>∃ r,v=.int .i64 r∧l=[]∧Q r):=by
 refine Fun.en func129 ntmps129 r fun w0 M=>?_
 refine .sr (.kn 1 [1,0] r (.seq (.sk 1 r (.ln uH r (.kn 1 [8,7,1,0] r (.block (.lp hd [7,1,0] [] r (fun j E l d=>j ((8,.int .i64 d) :: E) l) (ji rf [] r) ?_)))))))
 refine fun d q hd=>jq r fun s a=>?_
 have R3:=a.u1 R3
 refine .sr (.kn 1 [9,8,7,1,0] r (.seq (.condP r hd (fun h hd=>?_) fun h hd=>?_)))
 · refine .sn [8,7,1,0] r (.seq (.block (.sk 2 r (.nk [5,8,7,1,0] 3 r ?_))))
   obtain ⟨g,t,e,hd⟩:=hd
   obtain ⟨x,o55,w,u,b,i⟩:=R3.2 _ _ e
   cases i
   refine .ixa uH iP r u r g (AH e g) r r (.ldW yJ iP b r r r r ?_)
   have k:=eW (I:=s) (a0:=t) hd
   refine .callS (.c call62 r r) .n k r r fun y z A m o=>?_
   obtain ⟨B,rfl,rfl,hd⟩:=o
   obtain ⟨f,R3,b⟩:=m.u3 a R3 b
   refine .rn 0 r (.no [16,5,8,7,1,0] r (.condP r hd (fun p hd=>?_) fun p hd=>?_))
   · exact .sr (.kn 2 [4,1] r (.q1 results129 f [] r ⟨d,r,r,hd⟩))
   exact .sn [8,7,1,0] r (.region (.ks 2 r (.nil' (je (AJ (d+1)) hd f [] r))))
 exact .en [1] r (.sr (.kn 1 [4,1] r (.q1 results129 a [] r ⟨(-1),r,r,hd⟩)))
theorem EV {a0:List NP} {Q:Bool→Prop} (R3:RepSl AdL I p1 c2 a0) (hd:BX a0 Q) :
  Fun prog 61 #[.slice p1 a0.length c2,.func (.func 62) #[] #[]] I [] (fun I_ v l=>∃ r,v=.bool r∧l=[]∧Q r):=by
 refine Fun.en func61 ntmps61 r fun w0 M=>?_
 refine .sk 1 r (.nk [1,0] 2 r ?_)
 have b:=JV (I:=I) (a0:=a0) R3 hd
 refine .callS (.f call129 r) .n b r r fun e g h a c=>?_
 obtain ⟨d,rfl,rfl,hd⟩:=c
 have R3:=a.u1 R3
 exact .rn 0 r (.kn 2 [4,1] r (.q1 results61 a [] r ⟨(decide (0≤d)),r,r,hd⟩))
theorem XH {o0:List (Nat×AA)} {o1:List (Nat×AF)} {a0:NP} {Q:Bool→Prop} (hd:QP o0 o1 a0 Q) :
  Fun prog 25 #[.pointer none,.agg (cS a0).toArray] I [BQ AG o0,BQ BD o1] (fun I_ v l=>∃ r,v=.bool r∧l=[BQ AG o0,BQ BD o1]∧Q r):=by
 refine Fun.en func25 ntmps25 r fun w0 M=>?_
 refine .sr (.bx r fun a=>?_)
 exact .kn 1 [3,0] r (.seq (.sk 1 r (.eqNilP uI r r r r (.kn 5 [11,3,0] r (.condKT r r (.sr (.kn 1 [4] r (.drop .z (.q1 results25 rf [0,0] r ⟨false,r,r,hd⟩)))))))))
theorem LK {o0:List (Nat×AA)} {Q:Bool→Prop} (hd:HW o0 Q) :
  Fun prog 38 #[.pointer none] I [BQ AG o0] (fun I_ v l=>∃ r,v=.bool r∧l=[BQ AG o0]∧Q r):=by
 refine Fun.en func38 ntmps38 r fun w0 M=>?_
 refine .sr (.box1 r r r r fun a=>?_)
 refine .kn 1 [1] r (.seq (.sr (.lo isAgg60 .z r (.eqNilP uI r r r r (.no [4,1] r (.condKT r r (.sr (.kn 1 [2] r (.drop .z ?_)))))))))
 exact .q1 results38 rf [0] r ⟨false,r,r,hd⟩
theorem UM {o0:List (Nat×AA)} {o1:List (Nat×AF)} (hd:LS o0 o1) :
  Fun prog 63 #[.pointer none] I [BQ AG o0,BQ BD o1] (fun _ _ _=>False):=by
 refine Fun.en func63 ntmps63 r fun w0 M=>?_
 refine .sk 1 r (.nk [0] 1 r (.no [3,0] r (.seq (.sk 1 r ?_))))
 exact hd.elim
theorem UN {o0:List (Nat×AA)} {Q:(Rows×Int)→Prop} (hd:LU o0 Q) :
  Fun prog 64 #[.pointer none] I [BQ AG o0] (fun I_ v l=>∃ r p2 c3 p5 c6 p8 c9,v=.tuple #[.agg #[.int .i64 r.1.Rows,.int .i64 r.1.Cols,.slice p2 r.1.Start.length c3,.slice p5 r.1.Col.length c6,.slice p8 r.1.Val.length c9],.int .i64 r.2]∧RepSl AE I_ p2 c3 r.1.Start∧RepSl AE I_ p5 c6 r.1.Col∧RepSl AE I_ p8 c9 r.1.Val∧l=[BQ AG o0]∧Q r):=by
 refine Fun.en func64 ntmps64 r fun w0 M=>?_
 refine .sr (.al FO r fun a=>?_)
 refine .kn 1 [2,0] r (.seq (.sk 1 r (.eqNilP uI r r r r (.no [5,2,0] r (.condKT r r (.sr (.build FO OQ OP .n (by exact trivial) r r (.sa BH .z r (.kn 1 [3,2] r ?_)))))))))
 exact .ret (KG results64 (.w CF BH r .z r (.t r .n)) rf (.o [1] r) ⟨(({ Rows:=0,Cols:=0,Start:=([]:List Int),Col:=([]:List Int),Val:=([]:List Int) }:Rows),10),_,_,_,_,_,_,r,(.nil _ none 0),(.nil _ none 0),(.nil _ none 0),r,hd⟩)
theorem ID {o0:AC} {o1:List (Nat×AA)} {a0:Int} {Q:Bool→Prop} (R6:RepSl AE I p4 c5 o0.p.A.Start) (R9:RepSl AE I p7 c8 o0.p.A.Col) (R12:RepSl AE I p10 c11 o0.p.A.Val) (R15:RepSl AE I p13 c14 o0.p.B.Start) (R18:RepSl AE I p16 c17 o0.p.B.Col) (R21:RepSl AE I p19 c20 o0.p.B.Val) (R24:RepSl AE I p22 c23 o0.p.Mask.Start) (R27:RepSl AE I p25 c26 o0.p.Mask.Col) (R30:RepSl AE I p28 c29 o0.p.Mask.Val) (R33:RepSl CB I p31 c32 o0.stages) (R36:RepSl CV I p34 c35 o0.workers) (hd:EE o0 o1 a0 Q) :
  Fun prog 96 #[.pointer (some ⟨b3,0,none⟩),.int .i64 a0] I [pto b3 (.cells (AZ o0 p4 c5 p7 c8 p10 c11 p13 c14 p16 c17 p19 c20 p22 c23 p25 c26 p28 c29 p31 c32 p34 c35 b38) 121 (0,0)),OwnMap CU CV false b38 o0.boxes,BQ AG o1] (fun I_ v l=>∃ r,v=.bool r∧l=[pto b3 (.cells (AZ o0 p4 c5 p7 c8 p10 c11 p13 c14 p16 c17 p19 c20 p22 c23 p25 c26 p28 c29 p31 c32 p34 c35 b38) 121 (0,0)),OwnMap CU CV false b38 o0.boxes,BQ AG o1]∧Q r):=by
 refine Fun.en func96 ntmps96 r fun w0 M=>?_
 refine .sk 1 r (.nk [1,0] 1 r (.neNilP uI r r r r (.ks 5 r ?_)))
 refine AQ hd (fun a hd=>?_) fun a hd=>?_
 · rw [a]
   exact .ks 4 r (.yes r (.lo isAgg119 .z r (.yes r (.ln TW r (.kn 3 [4,0] r (.q1 results96 rf [0,0,0] r ⟨(decide (a0<(o0.workers.length:Int))),r,r,hd⟩))))))
 rw [a]
 exact .kn 9 [4,0] r (.q1 results96 rf [0,0,0] r ⟨false,r,r,hd⟩)
theorem W5 {o0:AC} {o1:List (Nat×AA)} {a0:Int} {Q:Int→Prop} (R6:RepSl AE I p4 c5 o0.p.A.Start) (R9:RepSl AE I p7 c8 o0.p.A.Col) (R12:RepSl AE I p10 c11 o0.p.A.Val) (R15:RepSl AE I p13 c14 o0.p.B.Start) (R18:RepSl AE I p16 c17 o0.p.B.Col) (R21:RepSl AE I p19 c20 o0.p.B.Val) (R24:RepSl AE I p22 c23 o0.p.Mask.Start) (R27:RepSl AE I p25 c26 o0.p.Mask.Col) (R30:RepSl AE I p28 c29 o0.p.Mask.Val) (R33:RepSl CB I p31 c32 o0.stages) (R36:RepSl CV I p34 c35 o0.workers) (hd:GH o0 o1 a0 Q) :
  Fun prog 29 #[.pointer (some ⟨b3,0,none⟩),.int .i64 a0] I [pto b3 (.cells (AZ o0 p4 c5 p7 c8 p10 c11 p13 c14 p16 c17 p19 c20 p22 c23 p25 c26 p28 c29 p31 c32 p34 c35 b38) 121 (0,0)),OwnMap CU CV false b38 o0.boxes,BQ AG o1] (fun I_ v l=>∃ r,v=.int .i64 r∧l=[pto b3 (.cells (AZ o0 p4 c5 p7 c8 p10 c11 p13 c14 p16 c17 p19 c20 p22 c23 p25 c26 p28 c29 p31 c32 p34 c35 b38) 121 (0,0)),OwnMap CU CV false b38 o0.boxes,BQ AG o1]∧Q r):=by
 refine Fun.en func29 ntmps29 r fun w0 M=>?_
 refine .sr (.kn 1 [1,0] r (.seq (.sk 2 r ?_)))
 have g:=ID (I:=I) (o0:=o0) (o1:=o1) (a0:=a0) (b3:=b3) (p4:=p4) (c5:=c5) (p7:=p7) (c8:=c8) (p10:=p10) (c11:=c11) (p13:=p13) (c14:=c14) (p16:=p16) (c17:=c17) (p19:=p19) (c20:=c20) (p22:=p22) (c23:=c23) (p25:=p25) (c26:=c26) (p28:=p28) (c29:=c29) (p31:=p31) (c32:=c32) (p34:=p34) (c35:=c35) (b38:=b38) R6 R9 R12 R15 R18 R21 R24 R27 R30 R33 R36 hd
 refine .callS (.f call96 r) (.o [0,0,0] r) g r r fun R S T a h=>?_
 obtain ⟨U,rfl,rfl,hd⟩:=h
 obtain ⟨R6,R9,R12,R15,R18,R21⟩:=a.u6 R6 R9 R12 R15 R18 R21
 obtain ⟨R24,R27,R30,R33,R36⟩:=a.u5 R24 R27 R30 R33 R36
 refine .rn 3 r (.kn 1 [8,1,0] r (.condP r hd (fun i hd=>?_) fun i hd=>?_))
 · exact .sr (.kn 1 [4,0] r (.q1 results29 a [0,0,0] r ⟨0,r,r,hd⟩))
 refine .sn [1,0] r (.sk 3 r (.lo isAgg119 .z r (.ks 1 r ?_)))
 obtain ⟨d,V,b,hd⟩:=hd
 obtain ⟨W,o59,P,q,k,m⟩:=R36.2 _ _ b
 cases m
 refine .ixa TW sizeOf122 r q r d (AH b d) r r (.ld1 (j:=0) KP k r r r r r ?_)
 obtain ⟨s,e,n,c,hd⟩:=hd
 refine .bankO .p2 c fun ⟨t,u,w,x,y,C,D,E,F,G,H⟩ ⟨J,K,L,N,O⟩=>?_
 exact .rn 5 r (.sub (E':=[(0,_),(1,_),(9,_),(10,_),(11,_),(12,_),(13,_),(14,_),(15,.pointer (some ⟨s,0,none⟩))]) ⟨r,r,r,r,r,r,r,r,(by rw [n]; rfl),trivial⟩ (.ks 2 r (.lo aU .z r (.ln dD r (.ks 1 r (.bankB (B:=AG) (t,u,w,x,y,C,D,E,F,G,H) e ⟨J,K,L,N,O⟩ c (.o [0,0,0] r) (.no [4,0] r (.q1 results29 a [1,1,0] r ⟨(e.out.length:Int),r,r,hd⟩))))))))
theorem mY {a0:Int} {Q0:Int→Prop} {Q1:(Int×AF)→Prop} (hd:RX a0 Q0 Q1) :
  Fun prog 155 #[.int .i64 a0] I [] (fun I_ v l=>(∃ r,v=.tuple #[.pointer none,.int .i64 r]∧l=[]∧Q0 r)∨(∃ r b1 p2 c3 b7 b9,v=.tuple #[.pointer (some ⟨b1,0,none⟩),.int .i64 r.1]∧l=[pto b1 (.cells #[.int .i64 r.2.room,.slice p2 r.2.row.length c3,.map (some b7),.map (some b9),.int .i64 r.2.sent,.int .i64 r.2.taken] 213 (0,0)),OwnSl AE 3 p2 c3 r.2.row,OwnMap (Value.int .i64) DQ true b7 r.2.by_,OwnMap (Value.int .i64) AE false b9 r.2.often]∧Q1 r)):=by
 refine Fun.en func155 ntmps155 r fun w0 M=>?_
 refine .sr (.kn 2 [0] r (.seq (.sk 3 r ?_)))
 refine AQ hd (fun a hd=>?_) fun a hd=>?_
 · rw [a]
   exact .kn 3 [9,0] r (.condKT r r (.sr (.kn 2 [3,2] r (.ret (KG results155 (.t r (.t r .n)) rf .n (.inl ⟨3,r,r,hd⟩))))))
 rw [a]
 refine .kn 3 [9,0] r (.condP r hd (fun b hd=>?_) fun b hd=>?_)
 · exact .sr (.kn 2 [3,2] r (.ret (KG results155 (.t r (.t r .n)) rf .n (.inl ⟨3,r,r,hd⟩))))
 refine .sn [0] r (.sk 1 r (.mkMap (Value.int .i64) DQ true r r fun d=>?_))
 refine .mkMap (Value.int .i64) AE false r r fun e=>?_
 refine .build zeroValue213 underlying213 AjG (.c r r r (.o r) (.c r r r (.o r) (.c r r r (.o r) .n))) (by exact ⟨⟨_,_,r,r,r⟩,⟨⟨_,_,r,r,r⟩,⟨⟨_,_,r,r,r⟩,trivial⟩⟩⟩) r r (.bx r fun b7=>?_)
 exact .kn 2 [3,2] r (.own0 AE 3 (.ret (KG results155 (.t r (.t r .n)) rf (.o [1,0,1,0] r) (.inr ⟨(0,({ room:=a0,row:=([]:List Int),by_:=([]:List (Int×BL)),often:=([]:List (Int×Int)),sent:=0,taken:=0 }:AF)),_,_,_,_,_,r,r,hd⟩))))
theorem FW {o0:AC} {o1:List (Nat×AA)} {o2:List (Nat×AF)} {a0 a1:Int} {Q0:(AC×(List (Nat×AF)))→Prop} {Q1:((Option Nat)×AC×(List (Nat×AF)))→Prop} (R7:RepSl AE I p5 c6 o0.p.A.Start) (R10:RepSl AE I p8 c9 o0.p.A.Col) (R13:RepSl AE I p11 c12 o0.p.A.Val) (R16:RepSl AE I p14 c15 o0.p.B.Start) (R19:RepSl AE I p17 c18 o0.p.B.Col) (R22:RepSl AE I p20 c21 o0.p.B.Val) (R25:RepSl AE I p23 c24 o0.p.Mask.Start) (R28:RepSl AE I p26 c27 o0.p.Mask.Col) (R31:RepSl AE I p29 c30 o0.p.Mask.Val) (R34:RepSl CB I p32 c33 o0.stages) (R37:RepSl CV I p35 c36 o0.workers) (hd:CJ o0 o1 o2 a0 a1 Q0 Q1) :
  Fun prog 85 #[.pointer (some ⟨b4,0,none⟩),.int .i64 a0,.int .i64 a1] I [pto b4 (.cells (AZ o0 p5 c6 p8 c9 p11 c12 p14 c15 p17 c18 p20 c21 p23 c24 p26 c27 p29 c30 p32 c33 p35 c36 b39) 121 (0,0)),OwnMap CU CV false b39 o0.boxes,BQ AG o1,BQ BD o2] (fun I_ v l=>(∃ r p41 c42 p44 c45 p47 c48 p50 c51 p53 c54 p56 c57 p59 c60 p62 c63 p65 c66 p68 c69 p71 c72,v=.pointer none∧RepSl AE I_ p41 c42 r.1.p.A.Start∧RepSl AE I_ p44 c45 r.1.p.A.Col∧RepSl AE I_ p47 c48 r.1.p.A.Val∧RepSl AE I_ p50 c51 r.1.p.B.Start∧RepSl AE I_ p53 c54 r.1.p.B.Col∧RepSl AE I_ p56 c57 r.1.p.B.Val∧RepSl AE I_ p59 c60 r.1.p.Mask.Start∧RepSl AE I_ p62 c63 r.1.p.Mask.Col∧RepSl AE I_ p65 c66 r.1.p.Mask.Val∧RepSl CB I_ p68 c69 r.1.stages∧RepSl CV I_ p71 c72 r.1.workers∧l=[pto b4 (.cells (AZ r.1 p41 c42 p44 c45 p47 c48 p50 c51 p53 c54 p56 c57 p59 c60 p62 c63 p65 c66 p68 c69 p71 c72 b39) 121 (0,0)),OwnMap CU CV false b39 r.1.boxes,BQ AG o1,BQ BD r.2]∧Q0 r)∨(∃ r p41 c42 p44 c45 p47 c48 p50 c51 p53 c54 p56 c57 p59 c60 p62 c63 p65 c66 p68 c69 p71 c72,v=.pointer (mkA r.1)∧RepSl AE I_ p41 c42 r.2.1.p.A.Start∧RepSl AE I_ p44 c45 r.2.1.p.A.Col∧RepSl AE I_ p47 c48 r.2.1.p.A.Val∧RepSl AE I_ p50 c51 r.2.1.p.B.Start∧RepSl AE I_ p53 c54 r.2.1.p.B.Col∧RepSl AE I_ p56 c57 r.2.1.p.B.Val∧RepSl AE I_ p59 c60 r.2.1.p.Mask.Start∧RepSl AE I_ p62 c63 r.2.1.p.Mask.Col∧RepSl AE I_ p65 c66 r.2.1.p.Mask.Val∧RepSl CB I_ p68 c69 r.2.1.stages∧RepSl CV I_ p71 c72 r.2.1.workers∧l=[pto b4 (.cells (AZ r.2.1 p41 c42 p44 c45 p47 c48 p50 c51 p53 c54 p56 c57 p59 c60 p62 c63 p65 c66 p68 c69 p71 c72 b39) 121 (0,0)),OwnMap CU CV false b39 r.2.1.boxes,BQ AG o1,BQ BD r.2.2]∧Q1 r)):=by
 refine Fun.en func85 ntmps85 r fun w0 M=>?_
 refine .sr (.kn 1 [2,1,0] r (.seq (.sk 2 r ?_)))
 have F:=ID (I:=I) (o0:=o0) (o1:=o1) (a0:=a0) (b3:=b4) (p4:=p5) (c5:=c6) (p7:=p8) (c8:=c9) (p10:=p11) (c11:=c12) (p13:=p14) (c14:=c15) (p16:=p17) (c17:=c18) (p19:=p20) (c20:=c21) (p22:=p23) (c23:=c24) (p25:=p26) (c26:=c27) (p28:=p29) (c29:=c30) (p31:=p32) (c32:=c33) (p34:=p35) (c35:=c36) (b38:=b39) R7 R10 R13 R16 R19 R22 R25 R28 R31 R34 R37 hd
 refine .callS (.f call96 r) (.o [0,0,0] r) F r r fun a8 X a9 d G=>?_
 obtain ⟨b0,rfl,rfl,hd⟩:=G
 obtain ⟨R7,R10,R13,R16,R19,R22⟩:=d.u6 R7 R10 R13 R16 R19 R22
 obtain ⟨R25,R28,R31,R34,R37⟩:=d.u5 R25 R28 R31 R34 R37
 refine .rn 4 r (.ks 2 r ?_)
 refine AQ hd (fun i hd=>?_) fun i hd=>?_
 · rw [i]
   exact .kn 5 [17,2,1,0] r (.condKT r r (.sr (.kn 1 [6,0] r (.q1 results85 d [0,0,0,0] r (.inl ⟨(o0,o2),_,_,_,_,_,_,_,_,_,_,_,_,_,_,_,_,_,_,_,_,_,_,r,R7,R10,R13,R16,R19,R22,R25,R28,R31,R34,R37,r,hd⟩)))))
 rw [i]
 refine .ks 2 r ?_
 have H:=ID (I:=X) (o0:=o0) (o1:=o1) (a0:=a1) (b3:=b4) (p4:=p5) (c5:=c6) (p7:=p8) (c8:=c9) (p10:=p11) (c11:=c12) (p13:=p14) (c14:=c15) (p16:=p17) (c17:=c18) (p19:=p20) (c20:=c21) (p22:=p23) (c23:=c24) (p25:=p26) (c26:=c27) (p28:=p29) (c29:=c30) (p31:=p32) (c32:=c33) (p34:=p35) (c35:=c36) (b38:=b39) R7 R10 R13 R16 R19 R22 R25 R28 R31 R34 R37 hd
 refine .yes r (.callS (.f call96 r) (.o [0,0,0] r) H r r fun b1 Y b2 j J=>?_)
 obtain ⟨b5,rfl,rfl,hd⟩:=J
 obtain ⟨e,R7,R10,R13,R16,R19⟩:=j.u6 d R7 R10 R13 R16 R19
 obtain ⟨R22,R25,R28,R31,R34,R37⟩:=j.u6 R22 R25 R28 R31 R34 R37
 refine .rn 4 r (.kn 2 [17,2,1,0] r (.condP r hd (fun K hd=>?_) fun K hd=>?_))
 · exact .sr (.kn 1 [6,0] r (.q1 results85 e [0,0,0,0] r (.inl ⟨(o0,o2),_,_,_,_,_,_,_,_,_,_,_,_,_,_,_,_,_,_,_,_,_,_,r,R7,R10,R13,R16,R19,R22,R25,R28,R31,R34,R37,r,hd⟩)))
 refine .sn [2,1,0] r (.sk 2 r (.buildArr LX OC EX (.c r r r (.o r) (.c r r r (.o r) .n)) r r (.al LX r fun b6=>?_)))
 refine .sa HK .z r (.no [7,0] r (.seq (.seq (.dr [0,1,2,3,4,5,6] 7 (.fk 3 r (.h r (fun _=>.lo isAgg118 .p1 r .mk) (.h r (fun _=>.lw LW HK .z r .mk) (.ww r fun ex=>?_))))))))
 refine .lookM (k:=(a0,a1)) (El:=CV) (ag:=false) (zv:=.pointer none) (z:=none) WH kP zeroValue146 ⟨[.pointer none],r,.s⟩ .p2 r r hd r r fun b7 b8 a4 hd L N=>?_
 cases L
 cases N
 refine .so 5 r r r trivial (.h r (fun _=>.eqNilH kQ r r r r .mk) (.e2 7 (.no [27,7,0] r (.condP r hd (fun O hd=>?_) fun O hd=>?_))))
 · refine .dr [0,1,2,3,4,5,6,7,8,9,10,11,12,13,14] 15 (.fk 3 r (.h r (fun _=>.lo isAgg118 .p1 r .mk) (.h r (fun _=>.lw LW HK .z r .mk) (.fk 4 r (.h r (fun _=>.lo BF .p1 r .mk) (.ww r fun ex=>?_))))))
   have P:=mY (I:=Y) (a0:=o0.p.Room) hd
   refine .callS (.f call155 r) .n P r r fun b9 c0 c1 g a=>?_
   rcases a with a | a
   · obtain ⟨c2,rfl,rfl,hd⟩:=a
     obtain ⟨m,R7,R10,R13,R16,R19⟩:=g.u6 e R7 R10 R13 R16 R19
     obtain ⟨R22,R25,R28,R31,R34,R37⟩:=g.u6 R22 R25 R28 R31 R34 R37
     refine .rx 5 r (.so 5 r r r (.ch r (fun _=>.lw LW HK .z r .mk) (.ch r (fun _=>.lo isAgg118 .p1 r .mk) (.ck 3 r r trivial))) (.fk 3 r (.ww r fun ex=>?_)))
     refine .updM (k:=(a0,a1)) (El:=CV) (ag:=false) (v:=none) WH kP .p2 r r r ⟨[.pointer none],r,.s⟩ (.sn 5 r r r (.ck 1 r r trivial) (.e2 15 (.no [7,0] r (.seq (.dr [0,1,2,3,4,5] 6 (.fk 3 r (.h r (fun _=>.lo isAgg118 .p1 r .mk) (.h r (fun _=>.lw LW HK .z r .mk) (.ww r fun ex=>?_)))))))))
     refine .lookM (k:=(a0,a1)) (El:=CV) (ag:=false) (zv:=.pointer none) (z:=none) WH kP zeroValue146 ⟨[.pointer none],r,.s⟩ .p2 r r hd r r fun a5 Q Z hd q t=>?_
     cases q
     cases t
     exact .so 5 r r r trivial (.e2 6 (.kn 1 [6,0] r (.drop .z (.q1 results85 m [0,0,0,0] r (.inr ⟨(Q,({ p:=o0.p,stages:=o0.stages,workers:=o0.workers,boxes:=(EO (a0,a1) none o0.boxes) }:AC),o2),_,_,_,_,_,_,_,_,_,_,_,_,_,_,_,_,_,_,_,_,_,_,r,R7,R10,R13,R16,R19,R22,R25,R28,R31,R34,R37,r,hd⟩)))))
   obtain ⟨E,b,R,S,T,U,rfl,rfl,hd⟩:=a
   obtain ⟨u,R7,R10,R13,R16,R19⟩:=g.u6 e R7 R10 R13 R16 R19
   obtain ⟨R22,R25,R28,R31,R34,R37⟩:=g.u6 R22 R25 R28 R31 R34 R37
   refine .rx 9 r (.so 9 r r r (.ch r (fun _=>.lw LW HK .p4 r .mk) (.ch r (fun _=>.lo isAgg118 .p5 r .mk) (.ck 3 r r trivial))) (.fk 3 r (.ww r fun ex=>?_)))
   refine .bankP (B:=BD) (R,S,T,U) E.2 trivial (.o [0,0,0,0,4] r) fun w=>?_
   have hd:=hd b w
   refine .updM (k:=(a0,a1)) (El:=CV) (ag:=false) (v:=(some b)) WH kP .p3 r r r ⟨[.pointer (some ⟨b,0,none⟩)],r,.s⟩ (.sn 5 r r r (.ck 1 r r trivial) (.e2 15 (.no [7,0] r (.seq (.dr [0,1,2,3,4,5] 6 (.fk 3 r (.h r (fun _=>.lo isAgg118 .p2 r .mk) (.h r (fun _=>.lw LW HK .p1 r .mk) (.ww r fun ex=>?_)))))))))
   refine .lookM (k:=(a0,a1)) (El:=CV) (ag:=false) (zv:=.pointer none) (z:=none) WH kP zeroValue146 ⟨[.pointer none],r,.s⟩ .p3 r r hd r r fun a6 V a2 hd x y=>?_
   cases x
   cases y
   exact .so 5 r r r trivial (.e2 6 (.kn 1 [6,0] r (.drop .p1 (.q1 results85 u [1,1,1,0] r (.inr ⟨(V,({ p:=o0.p,stages:=o0.stages,workers:=o0.workers,boxes:=(EO (a0,a1) (some b) o0.boxes) }:AC),((b,E.2) :: o2)),_,_,_,_,_,_,_,_,_,_,_,_,_,_,_,_,_,_,_,_,_,_,r,R7,R10,R13,R16,R19,R22,R25,R28,R31,R34,R37,r,hd⟩)))))
 refine .sn [7,0] r (.seq (.dr [0,1,2,3,4,5] 6 (.fk 3 r (.h r (fun _=>.lo isAgg118 .p1 r .mk) (.h r (fun _=>.lw LW HK .z r .mk) (.ww r fun ex=>?_))))))
 refine .lookM (k:=(a0,a1)) (El:=CV) (ag:=false) (zv:=.pointer none) (z:=none) WH kP zeroValue146 ⟨[.pointer none],r,.s⟩ .p2 r r hd r r fun a7 W a3 hd C D=>?_
 cases C
 cases D
 exact .so 5 r r r trivial (.e2 6 (.kn 1 [6,0] r (.drop .z (.q1 results85 e [0,0,0,0] r (.inr ⟨(W,o0,o2),_,_,_,_,_,_,_,_,_,_,_,_,_,_,_,_,_,_,_,_,_,_,r,R7,R10,R13,R16,R19,R22,R25,R28,R31,R34,R37,r,hd⟩)))))
theorem RN {a0:BL} {Q:Int→Prop} (R3:RepSl RG I p1 c2 a0.Vec.Items) (R6:RepSl fG I p4 c5 a0.Sums) (R9:RepSl BV I p7 c8 a0.Triples) (hd:NY a0 Q) :
  Fun prog 152 #[.pointer none,.agg #[.int .i64 a0.Kind,.int .i64 a0.From,.int .i64 a0.To,.int .i64 a0.Seq,.int .i64 a0.Round,.int .i64 a0.Vec.N,.slice p1 a0.Vec.Items.length c2,.slice p4 a0.Sums.length c5,.slice p7 a0.Triples.length c8,.int .i64 a0.N,.bool a0.Over]] I [] (fun I_ v l=>∃ r,v=.int .i64 r∧l=[]∧Q r):=by
 refine Fun.en func152 ntmps152 r fun w0 M=>?_
 refine .sr (.bx r fun a=>?_)
 refine .kn 1 [3,0] r (.seq (.block (.sk 1 r (.eqNilP kQ r r r r (.kn 1 [5,3,0] r (.condKT r r (.sr (.kn 1 [4] r (.drop .z ?_)))))))))
 exact .q1 results152 rf [] r ⟨10,r,r,hd⟩
theorem RO {o0:AF} {Q:Bool→Prop} (hd:HH o0 Q) :
  Fun prog 157 #[.pointer (some ⟨b2,0,none⟩)] I [pto b2 (.cells #[.int .i64 o0.room,.slice p3 o0.row.length c4,.map (some b8),.map (some b10),.int .i64 o0.sent,.int .i64 o0.taken] 213 (0,0)),OwnSl AE 3 p3 c4 o0.row,OwnMap (Value.int .i64) DQ true b8 o0.by_,OwnMap (Value.int .i64) AE false b10 o0.often] (fun I_ v l=>∃ r,v=.bool r∧l=[pto b2 (.cells #[.int .i64 o0.room,.slice p3 o0.row.length c4,.map (some b8),.map (some b10),.int .i64 o0.sent,.int .i64 o0.taken] 213 (0,0)),OwnSl AE 3 p3 c4 o0.row,OwnMap (Value.int .i64) DQ true b8 o0.by_,OwnMap (Value.int .i64) AE false b10 o0.often]∧Q r):=by
 refine Fun.en func157 ntmps157 r fun w0 M=>?_
 refine .sr (.kn 1 [0] r (.seq (.dr [0,1,2,3,4,5,6,7,8,9] 10 (.fk 3 r (.h r (fun _=>.lo GS .z r .mk) (.h r (fun _=>.ln BT r .mk) (.fk 3 r (.h r (fun _=>.lo BF .z r .mk) (.fk 1 r ?_)))))))))
 exact .e2 10 (.kn 1 [2,0] r (.q1 results157 rf [0,0,0,0] r ⟨(decide (o0.room≤(o0.row.length:Int))),r,r,hd⟩))
theorem UO {o0:AF} {a0:Int} {Q:AF→Prop} (hd:HX o0 a0 Q) :
  Fun prog 158 #[.pointer (some ⟨b2,0,none⟩),.int .i64 a0] I [pto b2 (.cells #[.int .i64 o0.room,.slice p3 o0.row.length c4,.map (some b8),.map (some b10),.int .i64 o0.sent,.int .i64 o0.taken] 213 (0,0)),OwnSl AE 3 p3 c4 o0.row,OwnMap (Value.int .i64) DQ true b8 o0.by_,OwnMap (Value.int .i64) AE false b10 o0.often] (fun I_ v l=>∃ r p12 c13,v=.tuple #[]∧l=[pto b2 (.cells #[.int .i64 r.room,.slice p12 r.row.length c13,.map (some b8),.map (some b10),.int .i64 r.sent,.int .i64 r.taken] 213 (0,0)),OwnSl AE 3 p12 c13 r.row,OwnMap (Value.int .i64) DQ true b8 r.by_,OwnMap (Value.int .i64) AE false b10 r.often]∧Q r):=by
 refine Fun.en func158 ntmps158 r fun w0 M=>?_
 refine .sk 4 r (.lo GS .z r (.ks 1 r (.buildSlice 1 BT EX nL r r (.c r r r .n) r r fun g=>?_)))
 obtain ⟨b,hd⟩:=hd
 refine .append (ys:=[a0]) 8 .p2 BT BT IN3 r r r r r r r r r (.box .z (.one r) r) b r r fun h i=>?_
 refine .ks 2 r (.s1 iO .p2 r (.no [1,0] r (.drop .p1 (.region (.ks 3 r (.lo isAgg211 .p1 r (.ks 1 r (.lookM (k:=a0) (El:=AE) (ag:=false) (zv:=.int .i64 0) (z:=0) (MK gX) oV nL ⟨[.int .i64 0],r,.s⟩ .p3 r r hd r r fun j a f hd d e=>?_))))))))
 cases d
 cases e
 exact .ks 1 r (.updM (k:=a0) (El:=AE) (ag:=false) (v:=(AJ (a+1))) (MK gX) oV .p3 r r r ⟨[.int .i64 (AJ (a+1))],r,.s⟩ (.nil' (RF results158 .n rf (.o [1,0,0,0] r) ⟨({ room:=o0.room,row:=(o0.row++([a0])),by_:=o0.by_,often:=(EO a0 (AJ (a+1)) o0.often),sent:=o0.sent,taken:=o0.taken }:AF),_,_,r,r,hd⟩)))
theorem aJ {o0:AF} {a0:BL} {Q:(Int×AF)→Prop} (R13:RepSl RG I p11 c12 a0.Vec.Items) (R16:RepSl fG I p14 c15 a0.Sums) (R19:RepSl BV I p17 c18 a0.Triples) (hd:JY o0 a0 Q) :
  Fun prog 152 #[.pointer (some ⟨b2,0,none⟩),.agg #[.int .i64 a0.Kind,.int .i64 a0.From,.int .i64 a0.To,.int .i64 a0.Seq,.int .i64 a0.Round,.int .i64 a0.Vec.N,.slice p11 a0.Vec.Items.length c12,.slice p14 a0.Sums.length c15,.slice p17 a0.Triples.length c18,.int .i64 a0.N,.bool a0.Over]] I [pto b2 (.cells #[.int .i64 o0.room,.slice p3 o0.row.length c4,.map (some b8),.map (some b10),.int .i64 o0.sent,.int .i64 o0.taken] 213 (0,0)),OwnSl AE 3 p3 c4 o0.row,OwnMap (Value.int .i64) DQ true b8 o0.by_,OwnMap (Value.int .i64) AE false b10 o0.often] (fun I_ v l=>∃ r p21 c22,v=.int .i64 r.1∧l=[pto b2 (.cells #[.int .i64 r.2.room,.slice p21 r.2.row.length c22,.map (some b8),.map (some b10),.int .i64 r.2.sent,.int .i64 r.2.taken] 213 (0,0)),OwnSl AE 3 p21 c22 r.2.row,OwnMap (Value.int .i64) DQ true b8 r.2.by_,OwnMap (Value.int .i64) AE false b10 r.2.often]∧Q r):=by
 refine Fun.en func152 ntmps152 r fun w0 M=>?_
 refine .sr (.bx r fun L=>?_)
 refine .kn 1 [3,0] r (.seq (.block (.sk 1 r (.eqNilP kQ r r r r (.kn 1 [5,3,0] r (.condKF r r (.sk 1 r ?_)))))))
 have m:=RO (I:=I) (o0:=o0) (b2:=b2) (p3:=p3) (c4:=c4) (b8:=b8) (b10:=b10) hd
 refine .callS (.f call157 r) (.o [1,1,1,1] r) m r r fun O A P d n=>?_
 obtain ⟨R,rfl,rfl,hd⟩:=n
 obtain ⟨R13,R16,R19⟩:=d.u3 R13 R16 R19
 refine .rn 5 r (.kn 1 [8,3,0] r (.condP r hd (fun p hd=>?_) fun p hd=>?_))
 · exact .sr (.kn 1 [4,0] r (.drop .p4 (.q1 results152 d [0,0,0,0] r ⟨(9,o0),_,_,r,r,hd⟩)))
 refine .sn [3,0] r (.sr (.lw QQ FN .p4 r ?_))
 have q:=mP (I:=A) R13 R16 R19 hd
 refine .call call219 r q r r fun S B s t=>?_
 obtain ⟨b,C,D,E,F,G,H,rfl,e,g,i,hd⟩:=t
 obtain ⟨u,R13,R16,R19⟩:=s.u4 d R13 R16 R19
 refine .sa FN .p4 r (.nk [3,0] 3 r (.lo BF .z r (.ks 1 r (.s1 EX .p4 r (.no [3,0] r (.seq (.dr [0,1,2,3,4,5,6] 7 (.fk 3 r (.h r (fun _=>.lo isAgg210 .z r .mk) ?_)))))))))
 refine .fk 1 r (.h r (fun _=>.lo BF .p4 r .mk) (.h r (fun _=>.lw QQ FN .p4 r .mk) (.e2 7 (.updM (k:=o0.sent) (El:=DQ) (ag:=true) (v:=({ Kind:=b.Kind,From:=b.From,To:=b.To,Seq:=o0.sent,Round:=b.Round,Vec:=b.Vec,Sums:=b.Sums,Triples:=b.Triples,N:=b.N,Over:=b.Over }:BL)) (MK gX) underlying210 .p2 r r r ⟨[.int .i64 b.Kind,.int .i64 b.From,.int .i64 b.To,.int .i64 o0.sent,.int .i64 b.Round,.int .i64 b.Vec.N,.slice C b.Vec.Items.length D,.slice E b.Sums.length F,.slice G b.Triples.length H,.int .i64 b.N,.bool b.Over],⟨_,_,_,_,_,_,r,e,g,i⟩,.a⟩ (.nk [3,0] 2 r (.lo BF .p4 r ?_))))))
 have w:=UO (I:=B) (o0:=({ room:=o0.room,row:=o0.row,by_:=(EO o0.sent ({ Kind:=b.Kind,From:=b.From,To:=b.To,Seq:=o0.sent,Round:=b.Round,Vec:=b.Vec,Sums:=b.Sums,Triples:=b.Triples,N:=b.N,Over:=b.Over }:BL) o0.by_),often:=o0.often,sent:=o0.sent,taken:=o0.taken }:AF)) (a0:=o0.sent) (b2:=b2) (p3:=p3) (c4:=c4) (b8:=b8) (b10:=b10) hd
 refine .callS (.f call158 r) (.o [0,0,0,0] r) w r r fun T U V x y=>?_
 obtain ⟨c,J,K,rfl,rfl,hd⟩:=y
 obtain ⟨j,e,g,i⟩:=x.u4 u e g i
 exact .rn 5 r (.no [0] r (.drop .p4 (.sk 3 r (.lo BF .z r (.ks 3 r (.s1 EX .z r (.nk [0] 1 r (.no [4,0] r (.q1 results152 j [0,0,0,0] r ⟨(0,({ room:=c.room,row:=c.row,by_:=c.by_,often:=c.often,sent:=AJ (c.sent+1),taken:=c.taken }:AF)),_,_,r,r,hd⟩)))))))))
theorem bX {o0:List (Nat×AF)} {a0:Option Nat} {a1:BL} {Q:(Int×(List (Nat×AF)))→Prop} (R4:RepSl RG I p2 c3 a1.Vec.Items) (R7:RepSl fG I p5 c6 a1.Sums) (R10:RepSl BV I p8 c9 a1.Triples) (hd:PH o0 a0 a1 Q) :
  Fun prog 152 #[.pointer (mkA a0),.agg #[.int .i64 a1.Kind,.int .i64 a1.From,.int .i64 a1.To,.int .i64 a1.Seq,.int .i64 a1.Round,.int .i64 a1.Vec.N,.slice p2 a1.Vec.Items.length c3,.slice p5 a1.Sums.length c6,.slice p8 a1.Triples.length c9,.int .i64 a1.N,.bool a1.Over]] I [BQ BD o0] (fun I_ v l=>∃ r,v=.int .i64 r.1∧l=[BQ BD r.2]∧Q r):=by
 rcases a0 with _ | b
 · have hd:=hd.1 r
   refine (Fun.frame (r:=[BQ BD o0]) (RN R4 R7 R10 hd)).conseq fun I_ v l hle h=>?_
   obtain ⟨d,rfl,rr,rfl,rfl,hq⟩:=h
   exact ⟨(rr,o0),r,r,hq⟩
 obtain ⟨x,hx,hd⟩:=hd.2 b rfl
 refine Fun.bank hx (fun aa _=>aJ (b2:=b) (p3:=aa.1) (c4:=aa.2.1) (b8:=aa.2.2.1) (b10:=aa.2.2.2) R4 R7 R10 hd) ?_
 rintro aa I_ v l hle ⟨rr,a,c,rfl,rfl,hq⟩
 exact ⟨(a,c,aa.2.2.1,aa.2.2.2),rr.2,[],r,trivial,(rr.1,(b,rr.2) :: CM b o0),r,r,hq⟩
theorem ME {o0:AC} {o1:List (Nat×AA)} {o2:List (Nat×AF)} {a0:Int} {Q:(Bool×AC×(List (Nat×AA))×(List (Nat×AF)))→Prop} (R7:RepSl AE I p5 c6 o0.p.A.Start) (R10:RepSl AE I p8 c9 o0.p.A.Col) (R13:RepSl AE I p11 c12 o0.p.A.Val) (R16:RepSl AE I p14 c15 o0.p.B.Start) (R19:RepSl AE I p17 c18 o0.p.B.Col) (R22:RepSl AE I p20 c21 o0.p.B.Val) (R25:RepSl AE I p23 c24 o0.p.Mask.Start) (R28:RepSl AE I p26 c27 o0.p.Mask.Col) (R31:RepSl AE I p29 c30 o0.p.Mask.Val) (R34:RepSl CB I p32 c33 o0.stages) (R37:RepSl CV I p35 c36 o0.workers) (hd:DE o0 o1 o2 a0 Q) :
  Fun prog 83 #[.pointer (some ⟨b4,0,none⟩),.int .i64 a0] I [pto b4 (.cells (AZ o0 p5 c6 p8 c9 p11 c12 p14 c15 p17 c18 p20 c21 p23 c24 p26 c27 p29 c30 p32 c33 p35 c36 b39) 121 (0,0)),OwnMap CU CV false b39 o0.boxes,BQ AG o1,BQ BD o2] (fun I_ v l=>∃ r p41 c42 p44 c45 p47 c48 p50 c51 p53 c54 p56 c57 p59 c60 p62 c63 p65 c66 p68 c69 p71 c72,v=.bool r.1∧RepSl AE I_ p41 c42 r.2.1.p.A.Start∧RepSl AE I_ p44 c45 r.2.1.p.A.Col∧RepSl AE I_ p47 c48 r.2.1.p.A.Val∧RepSl AE I_ p50 c51 r.2.1.p.B.Start∧RepSl AE I_ p53 c54 r.2.1.p.B.Col∧RepSl AE I_ p56 c57 r.2.1.p.B.Val∧RepSl AE I_ p59 c60 r.2.1.p.Mask.Start∧RepSl AE I_ p62 c63 r.2.1.p.Mask.Col∧RepSl AE I_ p65 c66 r.2.1.p.Mask.Val∧RepSl CB I_ p68 c69 r.2.1.stages∧RepSl CV I_ p71 c72 r.2.1.workers∧l=[pto b4 (.cells (AZ r.2.1 p41 c42 p44 c45 p47 c48 p50 c51 p53 c54 p56 c57 p59 c60 p62 c63 p65 c66 p68 c69 p71 c72 b39) 121 (0,0)),OwnMap CU CV false b39 r.2.1.boxes,BQ AG r.2.2.1,BQ BD r.2.2.2]∧Q r):=by
 refine Fun.en func83 ntmps83 r fun w0 M=>?_
 refine .sr (.kn 1 [1,0] r (.seq (.sk 2 r ?_)))
 have l8:=W5 (I:=I) (o0:=o0) (o1:=o1) (a0:=a0) (b3:=b4) (p4:=p5) (c5:=c6) (p7:=p8) (c8:=c9) (p10:=p11) (c11:=c12) (p13:=p14) (c14:=c15) (p16:=p17) (c17:=c18) (p19:=p20) (c20:=c21) (p22:=p23) (c23:=c24) (p25:=p26) (c26:=c27) (p28:=p29) (c29:=c30) (p31:=p32) (c32:=c33) (p34:=p35) (c35:=c36) (b38:=b39) R7 R10 R13 R16 R19 R22 R25 R28 R31 R34 R37 hd
 refine .callS (.f call29 r) (.o [0,0,0] r) l8 r r fun y8 q5 y9 P l9=>?_
 obtain ⟨z0,rfl,rfl,hd⟩:=l9
 obtain ⟨R7,R10,R13,R16,R19,R22⟩:=P.u6 R7 R10 R13 R16 R19 R22
 obtain ⟨R25,R28,R31,R34,R37⟩:=P.u5 R25 R28 R31 R34 R37
 refine .rn 4 r (.kn 1 [9,1,0] r (.condP r hd (fun m0 hd=>?_) fun m0 hd=>?_))
 · exact .sr (.kn 1 [4,0] r (.q1 results83 P [0,0,0,0] r ⟨(false,o0,o1,o2),_,_,_,_,_,_,_,_,_,_,_,_,_,_,_,_,_,_,_,_,_,_,r,R7,R10,R13,R16,R19,R22,R25,R28,R31,R34,R37,r,hd⟩))
 refine .sn [1,0] r (.sk 3 r (.lo isAgg119 .z r (.ks 1 r ?_)))
 obtain ⟨l7,z1,h6,hd⟩:=hd
 obtain ⟨z2,o69,q9,q6,m1,m2⟩:=R37.2 _ _ h6
 cases m2
 refine .ixa TW sizeOf122 r q6 r l7 (AH h6 l7) r r (.ld1 (j:=0) KP m1 r r r r r (.kn 1 [5,1,0] r (.seq (.jx hd [0] [2] r (fun j E l (d9,e0,e1,V,W,X,e3,e4,Y,Z,a2,e5,e6,a3,a4,a5,e7,e8,e9,a6,a7,f0,h7,f1)=>fun c w=>∃ f2 f3 f4 f5 f6 f7 f8 f9 g0 g1 g2 g3 g4 g5 g6 g7 g8 g9 h0 h1 h2 h3,j ⟨43,[],none⟩ (fun I_=>RepSl AE I_ f2 f3 V∧RepSl AE I_ f4 f5 W∧RepSl AE I_ f6 f7 X∧RepSl AE I_ f8 f9 Y∧RepSl AE I_ g0 g1 Z∧RepSl AE I_ g2 g3 a2∧RepSl AE I_ g4 g5 a3∧RepSl AE I_ g6 g7 a4∧RepSl AE I_ g8 g9 a5∧RepSl CB I_ h0 h1 a6∧RepSl CV I_ h2 h3 a7) ((5,.pointer (mkA h7)) :: E) (pto b4 (.cells #[.int .i64 d9,.int .i64 e0,.int .i64 e1,.slice f2 V.length f3,.slice f4 W.length f5,.slice f6 X.length f7,.int .i64 e3,.int .i64 e4,.slice f8 Y.length f9,.slice g0 Z.length g1,.slice g2 a2.length g3,.int .i64 e5,.int .i64 e6,.slice g4 a3.length g5,.slice g6 a4.length g7,.slice g8 a5.length g9,.int .i64 e7,.int .i64 e8,.int .i64 e9,.slice h0 a6.length h1,.slice h2 a7.length h3,.map (some b39)] 121 (0,0)) :: OwnMap CU CV false b39 f0 :: BQ BD f1 :: l) c w) (fun r0 hd=>?_) ?_))))
 · skip
   refine .seq ?_
   obtain ⟨a8,h8,j8,a9,hd⟩:=hd
   refine .bankO .p2 a9 fun ⟨h9,i0,i1,i2,i3,i4,i5,i6,i7,i8,i9⟩ ⟨q,s,t,k,u⟩=>?_
   refine .rn 6 r (.sub (E':=[(0,_),(1,_),(5,.pointer (some ⟨a8,0,none⟩))]) ⟨r,r,(by rw [j8]; rfl),trivial⟩ (.dr [0,1,2,3,4,5,6,7,8,10,11,12,13,14,15,9,16,17] 18 (.fk 5 r (.h r (fun _=>.lo aU .z r .mk) ?_))))
   obtain ⟨j0,m3,h5,hd⟩:=hd
   obtain ⟨r1,o484,q7,m4,m,j9⟩:=k.2 _ _ h5
   obtain ⟨r2,r3,r4,r5,r6,r7,rfl,F,G,J⟩:=j9
   refine .h r (fun _=>.ixa dD FN r m4 r j0 (AH h5 j0) r r .mk) (.fk 1 r (.h r (fun _=>.ld1 (j:=2) BF m r r r r r .mk) (.fk 3 r (.h r (fun _=>.lo aU .z r .mk) ?_))))
   obtain ⟨S,j1,T,hd⟩:=hd
   obtain ⟨r8,o502,q8,h4,g,k0⟩:=k.2 _ _ T
   obtain ⟨r9,s0,s2,s3,s4,s5,rfl,x,y,D⟩:=k0
   refine .h r (fun _=>.ixa dD FN r h4 r S (AH T S) r r .mk) (.h r (fun _=>.ldW QQ FN g r r r r .mk) (.ww r fun ex=>?_))
   have k1:=FW (I:=q5) (o0:=o0) (o1:=(CM a8 o1)) (o2:=o2) (a0:=a0) (a1:=m3.To) (b4:=b4) (p5:=p5) (c6:=c6) (p8:=p8) (c9:=c9) (p11:=p11) (c12:=c12) (p14:=p14) (c15:=c15) (p17:=p17) (c18:=c18) (p20:=p20) (c21:=c21) (p23:=p23) (c24:=c24) (p26:=p26) (c27:=c27) (p29:=p29) (c30:=c30) (p32:=p32) (c33:=c33) (p35:=p35) (c36:=c36) (b39:=b39) R7 R10 R13 R16 R19 R22 R25 R28 R31 R34 R37 hd
   refine .callS (.f call85 r) (.o [3,3,2,2] r) k1 r r fun s6 j2 s7 e K=>?_
   rcases K with K | K
   · obtain ⟨a,s8,s9,t0,t1,t2,t3,t4,t5,t6,t7,t8,t9,u0,u3,u4,u7,u8,u9,v0,v1,v2,v3,rfl,b0,b1,b2,b5,b6,b7,b8,b9,c0,c1,c2,rfl,hd⟩:=K
     obtain ⟨k2,R7,R10,R13,R16,R19⟩:=e.u6 P R7 R10 R13 R16 R19
     obtain ⟨R22,R25,R28,R31,R34,R37⟩:=e.u6 R22 R25 R28 R31 R34 R37
     obtain ⟨q,s,t,k,u,F⟩:=e.u6 q s t k u F
     obtain ⟨G,J,m,x,y,D⟩:=e.u6 G J m x y D
     have g:=e.u1 g
     refine .rx 6 r (.so 6 r r r (.ch r (fun _=>.ldW QQ FN g r r r r .mk) (.ch r (fun _=>.ixa dD FN r h4 r S (AH T S) r r .mk) (.ch r (fun _=>.lo aU .p4 r .mk) (.ck 3 r r trivial)))) (.ww r fun ex=>?_))
     have k3:=RN (I:=j2) (a0:=j1) x y D hd
     refine .callS (.f call152 r) .n k3 r r fun v4 v5 v6 N k4=>?_
     obtain ⟨v7,rfl,rfl,hd⟩:=k4
     obtain ⟨k5,k6,q,s,t,k⟩:=N.u6 k2 e q s t k
     obtain ⟨u,F,G,J,m,x⟩:=N.u6 u F G J m x
     obtain ⟨y,D,g,b0,b1,b2⟩:=N.u6 y D g b0 b1 b2
     obtain ⟨b5,b6,b7,b8,b9,c0⟩:=N.u6 b5 b6 b7 b8 b9 c0
     obtain ⟨c1,c2⟩:=N.u2 c1 c2
     refine .rx 6 r (.so 6 r r r trivial (.fk 1 r (.e2 18 (.bankB (B:=AG) (h9,i0,i1,i2,i3,i4,i5,i6,i7,i8,i9) h8 ⟨q,s,t,k,u⟩ a9 (.o [4,4,2] r) (.no [34,5,0] r (.condP r hd (fun k7 hd=>?_) fun k7 hd=>?_))))))
     · exact .sr (.kn 1 [4,0] r (.q1 results83 k5 [1,1,0,0] r ⟨(false,a.1,o1,a.2),_,_,_,_,_,_,_,_,_,_,_,_,_,_,_,_,_,_,_,_,_,_,r,b0,b1,b2,b5,b6,b7,b8,b9,c0,c1,c2,r,hd⟩))
     exact .skip' fun c w ho hs=>⟨(a.1.p.Ring,a.1.p.A.Rows,a.1.p.A.Cols,a.1.p.A.Start,a.1.p.A.Col,a.1.p.A.Val,a.1.p.B.Rows,a.1.p.B.Cols,a.1.p.B.Start,a.1.p.B.Col,a.1.p.B.Val,a.1.p.Mask.Rows,a.1.p.Mask.Cols,a.1.p.Mask.Start,a.1.p.Mask.Col,a.1.p.Mask.Val,a.1.p.R,a.1.p.C,a.1.p.Room,a.1.stages,a.1.workers,a.1.boxes,(some a8),a.2),hd,_,_,_,_,_,_,_,_,_,_,_,_,_,_,_,_,_,_,_,_,_,_,jf k6 ⟨b0,b1,b2,b5,b6,b7,b8,b9,c0,c1,c2⟩ [1,1,1,0] r ho hs⟩
   obtain ⟨b,v8,v9,w1,w2,w3,w4,w5,w6,w7,w8,w9,x0,x1,x2,x3,x4,x5,x6,x7,x8,x9,y0,rfl,c3,c4,c7,d0,d1,d2,d3,d4,d5,d6,d7,rfl,hd⟩:=K
   obtain ⟨k8,R7,R10,R13,R16,R19⟩:=e.u6 P R7 R10 R13 R16 R19
   obtain ⟨R22,R25,R28,R31,R34,R37⟩:=e.u6 R22 R25 R28 R31 R34 R37
   obtain ⟨q,s,t,k,u,F⟩:=e.u6 q s t k u F
   obtain ⟨G,J,m,x,y,D⟩:=e.u6 G J m x y D
   have g:=e.u1 g
   refine .rx 6 r (.so 6 r r r (.ch r (fun _=>.ldW QQ FN g r r r r .mk) (.ch r (fun _=>.ixa dD FN r h4 r S (AH T S) r r .mk) (.ch r (fun _=>.lo aU .p4 r .mk) (.ck 3 r r trivial)))) (.ww r fun ex=>?_))
   have k9:=bX (I:=j2) (o0:=b.2.2) (a0:=b.1) (a1:=j1) x y D hd
   refine .callS (.f call152 r) (.o [3] r) k9 r r fun y1 y2 y3 O l0=>?_
   obtain ⟨j3,rfl,rfl,hd⟩:=l0
   obtain ⟨l1,l2,q,s,t,k⟩:=O.u6 k8 e q s t k
   obtain ⟨u,F,G,J,m,x⟩:=O.u6 u F G J m x
   obtain ⟨y,D,g,c3,c4,c7⟩:=O.u6 y D g c3 c4 c7
   obtain ⟨d0,d1,d2,d3,d4,d5⟩:=O.u6 d0 d1 d2 d3 d4 d5
   obtain ⟨d6,d7⟩:=O.u2 d6 d7
   refine .rx 6 r (.so 6 r r r trivial (.fk 1 r (.e2 18 (.bankB (B:=AG) (h9,i0,i1,i2,i3,i4,i5,i6,i7,i8,i9) h8 ⟨q,s,t,k,u⟩ a9 (.o [4,4,3] r) (.no [34,5,0] r (.condP r hd (fun l3 hd=>?_) fun l3 hd=>?_))))))
   · exact .sr (.kn 1 [4,0] r (.q1 results83 l1 [2,2,0,0] r ⟨(false,b.2.1,o1,j3.2),_,_,_,_,_,_,_,_,_,_,_,_,_,_,_,_,_,_,_,_,_,_,r,c3,c4,c7,d0,d1,d2,d3,d4,d5,d6,d7,r,hd⟩))
   exact .skip' fun c w ho hs=>⟨(b.2.1.p.Ring,b.2.1.p.A.Rows,b.2.1.p.A.Cols,b.2.1.p.A.Start,b.2.1.p.A.Col,b.2.1.p.A.Val,b.2.1.p.B.Rows,b.2.1.p.B.Cols,b.2.1.p.B.Start,b.2.1.p.B.Col,b.2.1.p.B.Val,b.2.1.p.Mask.Rows,b.2.1.p.Mask.Cols,b.2.1.p.Mask.Start,b.2.1.p.Mask.Col,b.2.1.p.Mask.Val,b.2.1.p.R,b.2.1.p.C,b.2.1.p.Room,b.2.1.stages,b.2.1.workers,b.2.1.boxes,(some a8),j3.2),hd,_,_,_,_,_,_,_,_,_,_,_,_,_,_,_,_,_,_,_,_,_,_,jf l2 ⟨c3,c4,c7,d0,d1,d2,d3,d4,d5,d6,d7⟩ [2,2,1,0] r ho hs⟩
 rintro ⟨d9,e0,e1,V,W,X,e3,e4,Y,Z,a2,e5,e6,a3,a4,a5,e7,e8,e9,a6,a7,f0,h7,f1⟩ hd c w ⟨f2,f3,f4,f5,f6,f7,f8,f9,g0,g1,g2,g3,g4,g5,g6,g7,g8,g9,h0,h1,h2,h3,y4,l4,⟨m5,m6,m7,m8,m9,n0,n1,n2,n3,n4,n5⟩,hok,hsym⟩
 have l5:=l4.u1 P
 refine Cod.at hok hsym (.sk 2 r ?_)
 obtain ⟨U,d,d8,l6,hd⟩:=hd
 refine .bankO .p3 l6 fun ⟨n6,n7,n8,n9,o3,o4,y5,j4,o5,o6,o7⟩ ⟨o8,o9,p0,j5,p1⟩=>?_
 refine .rn 6 r (.sub (E':=[(0,_),(5,.pointer (some ⟨U,0,none⟩)),(35,.pointer (some ⟨U,0,none⟩)),(36,.pointer (some ⟨U,0,none⟩))]) ⟨r,(by rw [d8]; rfl),(by rw [d8]; rfl),(by rw [d8]; rfl),trivial⟩ (.ks 2 r (.lo aU .z r ?_)))
 obtain ⟨p6,y6,y7,hd⟩:=hd
 have j6:Int.toNat 1≤Int.toNat (d.out.length:Int):=by omega
 have j7:Int.toNat (d.out.length:Int)≤d.out.length:=by omega
 obtain ⟨p9,q0,q2,q3,q4⟩:=RepSl.sliceW j5 (Int.toNat 1) (Int.toNat (d.out.length:Int)) j4 j6 j7 (.inl rfl)
 exact .sliceW (L:=Int.toNat 1) (H:=Int.toNat (d.out.length:Int)) (cm:=j4) dD FN r r j5.1 r r r (.inr ⟨_,_,r,p6,r⟩) (.inl ⟨r,r,r⟩) (.inl r) j6 j7 r q2 q3 r r (.ks 2 r (.s1 AhG .z r (.bankC (B:=AG) (n6,n7,n8,n9,o3,o4,p9,q0,o5,o6,o7) ({ i:=d.i,j:=d.j,mask:=d.mask,out:=((d.out.take (d.out.length:Int).toNat).drop (Int.toNat 1)),parts:=d.parts,at_:=d.at_,has:=d.has }:AA) ⟨o8,o9,p0,q4,p1⟩ (.o [0,0,0] r) (.nk [0] 1 r (.no [4,0] r (.q1 results83 l5 [1,1,0,0] r ⟨(true,({ p:=({ Ring:=d9,A:=({ Rows:=e0,Cols:=e1,Start:=V,Col:=W,Val:=X }:Rows),B:=({ Rows:=e3,Cols:=e4,Start:=Y,Col:=Z,Val:=a2 }:Rows),Mask:=({ Rows:=e5,Cols:=e6,Start:=a3,Col:=a4,Val:=a5 }:Rows),R:=e7,C:=e8,Room:=e9 }:BI),stages:=a6,workers:=a7,boxes:=f0 }:AC),((U,({ i:=d.i,j:=d.j,mask:=d.mask,out:=((d.out.take (d.out.length:Int).toNat).drop (Int.toNat 1)),parts:=d.parts,at_:=d.at_,has:=d.has }:AA)) :: (CM U o1)),f1),_,_,_,_,_,_,_,_,_,_,_,_,_,_,_,_,_,_,_,_,_,_,r,m5,m6,m7,m8,m9,n0,n1,n2,n3,n4,n5,r,hd⟩))))))
theorem ON {a0:Int} {Q:Int→Prop} (hd:GA a0 Q) :
  Fun prog 156 #[.pointer none,.int .i64 a0] I [] (fun I_ v l=>∃ r,v=.int .i64 r∧l=[]∧Q r):=by
 refine Fun.en func156 ntmps156 r fun w0 M=>?_
 refine .sr (.kn 1 [1,0] r (.seq (.block (.sk 1 r (.eqNilP kQ r r r r (.kn 1 [5,1,0] r (.condKT r r (.sr (.kn 1 [4] r ?_)))))))))
 exact .q1 results156 rf [] r ⟨10,r,r,hd⟩
theorem RP {a0:Int} {Q:(BL×Bool×Int)→Prop} (hd:JZ a0 Q) :
  Fun prog 153 #[.pointer none,.int .i64 a0] I [] (fun I_ v l=>∃ r p1 c2 p4 c5 p7 c8,v=.tuple #[.agg #[.int .i64 r.1.Kind,.int .i64 r.1.From,.int .i64 r.1.To,.int .i64 r.1.Seq,.int .i64 r.1.Round,.int .i64 r.1.Vec.N,.slice p1 r.1.Vec.Items.length c2,.slice p4 r.1.Sums.length c5,.slice p7 r.1.Triples.length c8,.int .i64 r.1.N,.bool r.1.Over],.bool r.2.1,.int .i64 r.2.2]∧RepSl RG I_ p1 c2 r.1.Vec.Items∧RepSl fG I_ p4 c5 r.1.Sums∧RepSl BV I_ p7 c8 r.1.Triples∧l=[]∧Q r):=by
 refine Fun.en func153 ntmps153 r fun w0 M=>?_
 refine .sr (.al TY r fun j=>?_)
 refine .kn 2 [4,1,0] r (.seq (.sk 2 r ?_))
 have b:=ON (I:=I) (a0:=a0) hd
 refine .callS (.f call156 r) .n b r r fun g h i c d=>?_
 obtain ⟨e,rfl,rfl,hd⟩:=d
 refine .rn 1 r (.kn 1 [7,4,1,0] r (.seq (.dr [0,1,2,3,4,5,6,7,8,9,10,11,12,13,14,15] 16 (.fk 3 r ?_))))
 refine AQ hd (fun a hd=>?_) fun a hd=>?_
 · rw [a]
   exact .fk 13 r (.e2 16 (.no [27,7,4,1,0] r (.condKT r r (.sr (.build TY uJ uG .n (by exact trivial) r r (.ks 1 r (.sa FN .z r (.kn 2 [6,5,4] r (.ret (KG results153 (.w QQ FN r .z r (.t r (.t r .n))) c .n ⟨(({ Kind:=0,From:=0,To:=0,Seq:=0,Round:=0,Vec:=({ N:=0,Items:=([]:List EC) }:Vec),Sums:=([]:List eZ),Triples:=([]:List AD),N:=0,Over:=false }:BL),false,e),_,_,_,_,_,_,r,(.nil _ none 0),(.nil _ none 0),(.nil _ none 0),r,hd⟩))))))))))
 rw [a]
 refine .fk 1 r ?_
 exact hd.elim
theorem OO {o0:AF} {a0:Int} {Q:Int→Prop} (hd:GY o0 a0 Q) :
  Fun prog 156 #[.pointer (some ⟨b2,0,none⟩),.int .i64 a0] I [pto b2 (.cells #[.int .i64 o0.room,.slice p3 o0.row.length c4,.map (some b8),.map (some b10),.int .i64 o0.sent,.int .i64 o0.taken] 213 (0,0)),OwnSl AE 3 p3 c4 o0.row,OwnMap (Value.int .i64) DQ true b8 o0.by_,OwnMap (Value.int .i64) AE false b10 o0.often] (fun I_ v l=>∃ r,v=.int .i64 r∧l=[pto b2 (.cells #[.int .i64 o0.room,.slice p3 o0.row.length c4,.map (some b8),.map (some b10),.int .i64 o0.sent,.int .i64 o0.taken] 213 (0,0)),OwnSl AE 3 p3 c4 o0.row,OwnMap (Value.int .i64) DQ true b8 o0.by_,OwnMap (Value.int .i64) AE false b10 o0.often]∧Q r):=by
 refine Fun.en func156 ntmps156 r fun w0 M=>?_
 refine .sr (.kn 1 [1,0] r (.seq (.block (.sk 1 r (.eqNilP kQ r r r r (.kn 1 [5,1,0] r (.condKF r r (.sk 3 r ?_))))))))
 refine AQ hd (fun a hd=>?_) fun a hd=>?_
 · rw [a]
   exact .kn 9 [8,0] r (.condKT r r (.sr (.kn 1 [4,0] r (.q1 results156 rf [0,0,0,0] r ⟨3,r,r,hd⟩))))
 rw [a]
 refine .ks 4 r (.yes r (.lo GS .z r (.yes r (.ln BT r (.kn 3 [8,0] r (.condP r hd (fun b hd=>?_) fun b hd=>?_))))))
 · exact .sr (.kn 1 [4,0] r (.q1 results156 rf [0,0,0,0] r ⟨3,r,r,hd⟩))
 exact .sn [0] r (.sr (.kn 1 [4,0] r (.q1 results156 rf [0,0,0,0] r ⟨0,r,r,hd⟩)))
theorem KE {o0:List Int} {a0 a1:Int} {Q:(List Int)→Prop} (hd:EA o0 a0 a1 Q) :
  Fun prog 159 #[.slice p2 o0.length c3,.int .i64 a0,.int .i64 a1] I [OwnSl AE 3 p2 c3 o0] (fun I_ v l=>∃ r,v=.slice p2 r.length c3∧l=[OwnSl AE 3 p2 c3 r]∧Q r):=by
 refine Fun.en func159 ntmps159 r fun w0 M=>?_
 refine .ownCap .z fun a=>?_
 refine .sk 1 r (.nk [2,1,0] 4 r (.ln BT r ?_))
 obtain ⟨i,c,j,hd⟩:=hd
 refine .sliceOm BT EX r r r r i c (by omega) (by omega) r r fun k=>?_
 refine .no [2,1,0] r (.seq (.sr (.kn 3 [16,2,1,0] r (.condP r hd (fun b hd=>?_) fun b hd=>?_))))
 · exact .sr (.kn 2 [6,0] r (.q1 results159 rf [0] r ⟨o0,r,r,hd⟩))
 refine .sn [2,1,0] r (.sk 1 r (.ln BT r (.kn 1 [7,2,1,0] r (.seq (.dr [0,1,2,3,4,5,6] 7 (.fk 2 r ?_))))))
 obtain ⟨m,n,o,hd⟩:=hd
 refine .h r (fun _=>.sliceO (L:=0) (H:=a0.toNat) BT EX r r .z r r (.inl ⟨r,r⟩) (.inr ⟨_,_,r,(by omega),r⟩) (by omega) (by omega) r r .mk) (.fk 2 r ?_)
 obtain ⟨d,p,q,hd⟩:=hd
 refine .h r (fun _=>.sliceO (L:=a1.toNat) (H:=o0.length) BT EX r r .z r r (.inr ⟨_,_,r,d,r⟩) (.inl ⟨r,r⟩) (by omega) (by omega) r r .mk) (.ww r fun ex=>?_)
 have e:a0.toNat≤a1.toNat:=by omega
 have f:a1.toNat≤o0.length:=by omega
 refine .appendDel (L:=a0.toNat) (H:=a1.toNat) 8 .z BT IN3 r r r r r r r (AbQ _ _ _) (Nat.sub_zero _) (Nat.sub_zero _) r e f r r (.so 1 r r r trivial (.e2 7 (.ks 1 r (.nk [0,7] 2 r (.ln BT r (.ks 1 r ?_))))))
 have g:(o0.take a0.toNat++o0.drop a1.toNat).length≤(o0.length:Int).toNat:=by simp only [List.length_append,List.length_take,List.length_drop]; omega
 exact .sliceTail (L:=(o0.take a0.toNat++o0.drop a1.toNat).length) (N:=(o0.length:Int).toNat) BT EX r r r (by omega) r (by omega) r g (by omega) r r (.clearTail .z BT IN3 r r r r r r r a (.nk [0] 2 r (.no [6,0] r (.q1 results159 rf [0] r ⟨(o0.take a0.toNat++o0.drop a1.toNat),r,r,hd⟩))))
theorem bY {o0:AF} {a0:Int} {Q:(BL×AF)→Prop} (hd:KY o0 a0 Q) :
  Fun prog 220 #[.pointer (some ⟨b2,0,none⟩),.int .i64 a0] I [pto b2 (.cells #[.int .i64 o0.room,.slice p3 o0.row.length c4,.map (some b8),.map (some b10),.int .i64 o0.sent,.int .i64 o0.taken] 213 (0,0)),OwnSl AE 3 p3 c4 o0.row,OwnMap (Value.int .i64) DQ true b8 o0.by_,OwnMap (Value.int .i64) AE false b10 o0.often] (fun I_ v l=>∃ r p20 c21 p23 c24 p26 c27 p12 c13,v=.agg #[.int .i64 r.1.Kind,.int .i64 r.1.From,.int .i64 r.1.To,.int .i64 r.1.Seq,.int .i64 r.1.Round,.int .i64 r.1.Vec.N,.slice p20 r.1.Vec.Items.length c21,.slice p23 r.1.Sums.length c24,.slice p26 r.1.Triples.length c27,.int .i64 r.1.N,.bool r.1.Over]∧RepSl RG I_ p20 c21 r.1.Vec.Items∧RepSl fG I_ p23 c24 r.1.Sums∧RepSl BV I_ p26 c27 r.1.Triples∧l=[pto b2 (.cells #[.int .i64 r.2.room,.slice p12 r.2.row.length c13,.map (some b8),.map (some b10),.int .i64 r.2.sent,.int .i64 r.2.taken] 213 (0,0)),OwnSl AE 3 p12 c13 r.2.row,OwnMap (Value.int .i64) DQ true b8 r.2.by_,OwnMap (Value.int .i64) AE false b10 r.2.often]∧Q r):=by
 refine Fun.en func220 ntmps220 r fun w0 M=>?_
 refine .sr (.al TY r fun O=>?_)
 refine .nk [4,1,0] 3 r (.lo GS .p1 r (.ks 1 r ?_))
 obtain ⟨p,b,c,hd⟩:=hd
 refine .ownNe .p2 (DO c) fun F G=>?_
 cases G
 refine .ixa0 BT EX r r p (AH c p) r r (.lo1 (j:=0) BF .p2 c r r r r r (.ks 1 r (.nk [5,4,1,0] 3 r (.lo isAgg210 .p1 r (.ks 1 r (.lookM (k:=b) (El:=DQ) (ag:=true) (zv:=.agg #[.int .i64 0,.int .i64 0,.int .i64 0,.int .i64 0,.int .i64 0,.int .i64 0,.slice none 0 0,.slice none 0 0,.slice none 0 0,.int .i64 0,.bool false]) (z:=({ Kind:=0,From:=0,To:=0,Seq:=0,Round:=0,Vec:=({ N:=0,Items:=([]:List EC) }:Vec),Sums:=([]:List eZ),Triples:=([]:List AD),N:=0,Over:=false }:BL)) (MK gX) underlying210 TY ⟨[.int .i64 0,.int .i64 0,.int .i64 0,.int .i64 0,.int .i64 0,.int .i64 0,.slice none 0 0,.slice none 0 0,.slice none 0 0,.int .i64 0,.bool false],⟨_,_,_,_,_,_,r,.nil _ _ _,.nil _ _ _,.nil _ _ _⟩,.a⟩ .p3 r r hd r r fun P q J hd u x=>?_))))))
 obtain ⟨R,S,T,U,V,W,rfl,e,g,h⟩:=u
 cases x
 refine .al TY r fun X=>?_
 refine .sa FN .z r (.nk [6,5,4,1,0] 4 r (.lo GS .p2 r (.ks 3 r ?_)))
 have y:=KE (I:=I) (o0:=o0.row) (a0:=a0) (a1:=(AJ (a0+1))) (p2:=some ⟨F,0,none⟩) (c3:=c4) hd
 refine .callS (.f call159 r) (.o [3] r) y r r fun Y Z a2 d A=>?_
 obtain ⟨t,rfl,rfl,hd⟩:=A
 obtain ⟨e,g,h⟩:=d.u3 e g h
 refine .rn 6 r (.ks 2 r (.s1 iO .p3 r (.no [6,5,4,0] r (.seq (.sk 3 r (.lo isAgg211 .p3 r (.ks 1 r (.lookM (k:=b) (El:=AE) (ag:=false) (zv:=.int .i64 0) (z:=0) (MK gX) oV nL ⟨[.int .i64 0],r,.s⟩ .p5 r r hd r r fun a3 i K hd B C=>?_))))))))
 cases B
 cases C
 refine .ks 1 r (.updM (k:=b) (El:=AE) (ag:=false) (v:=(AJ (i - 1))) (MK gX) oV .p5 r r r ⟨[.int .i64 (AJ (i - 1))],r,.s⟩ (.nk [6,5,4,0] 3 r (.lo isAgg211 .p3 r (.ks 1 r (.lookM (k:=b) (El:=AE) (ag:=false) (zv:=.int .i64 0) (z:=0) (MK gX) oV nL ⟨[.int .i64 0],r,.s⟩ .p5 r r hd r r fun L a4 H hd D E=>?_)))))
 cases D
 cases E
 refine .kn 1 [44,6,5,4,0] r (.condP r hd (fun m hd=>?_) fun m hd=>?_)
 · refine .sk 3 r (.lo isAgg211 .p3 r (.ks 1 r (.delM (k:=b) (MK gX) oV r .p5 r r (.no [6,5,4,0] r (.region (.ks 3 r (.lo isAgg210 .p3 r (.ks 1 r (.delM (k:=b) (MK gX) underlying210 r .p4 r r ?_)))))))))
   exact .ns [6,4,0] r (.lw QQ FN .p1 r (.sa FN .p2 r (.no [4,0] r (.drop .p1 (.ret (KG results220 (.w QQ FN r .p1 r .n) d (.o [2,0,1,1] r) ⟨(q,({ room:=o0.room,row:=t,by_:=(CM b o0.by_),often:=(CM b (EO b (AJ (i - 1)) o0.often)),sent:=o0.sent,taken:=o0.taken }:AF)),_,_,_,_,_,_,_,_,r,e,g,h,r,hd⟩))))))
 exact .sn [6,4,0] r (.sr (.lw QQ FN .p1 r (.sa FN .p2 r (.no [4,0] r (.drop .p1 (.ret (KG results220 (.w QQ FN r .p1 r .n) d (.o [2,0,1,1] r) ⟨(q,({ room:=o0.room,row:=t,by_:=o0.by_,often:=(EO b (AJ (i - 1)) o0.often),sent:=o0.sent,taken:=o0.taken }:AF)),_,_,_,_,_,_,_,_,r,e,g,h,r,hd⟩)))))))
theorem aK {o0:AF} {a0:Int} {Q:(BL×Bool×Int×AF)→Prop} (hd:KA o0 a0 Q) :
  Fun prog 153 #[.pointer (some ⟨b2,0,none⟩),.int .i64 a0] I [pto b2 (.cells #[.int .i64 o0.room,.slice p3 o0.row.length c4,.map (some b8),.map (some b10),.int .i64 o0.sent,.int .i64 o0.taken] 213 (0,0)),OwnSl AE 3 p3 c4 o0.row,OwnMap (Value.int .i64) DQ true b8 o0.by_,OwnMap (Value.int .i64) AE false b10 o0.often] (fun I_ v l=>∃ r p20 c21 p23 c24 p26 c27 p12 c13,v=.tuple #[.agg #[.int .i64 r.1.Kind,.int .i64 r.1.From,.int .i64 r.1.To,.int .i64 r.1.Seq,.int .i64 r.1.Round,.int .i64 r.1.Vec.N,.slice p20 r.1.Vec.Items.length c21,.slice p23 r.1.Sums.length c24,.slice p26 r.1.Triples.length c27,.int .i64 r.1.N,.bool r.1.Over],.bool r.2.1,.int .i64 r.2.2.1]∧RepSl RG I_ p20 c21 r.1.Vec.Items∧RepSl fG I_ p23 c24 r.1.Sums∧RepSl BV I_ p26 c27 r.1.Triples∧l=[pto b2 (.cells #[.int .i64 r.2.2.2.room,.slice p12 r.2.2.2.row.length c13,.map (some b8),.map (some b10),.int .i64 r.2.2.2.sent,.int .i64 r.2.2.2.taken] 213 (0,0)),OwnSl AE 3 p12 c13 r.2.2.2.row,OwnMap (Value.int .i64) DQ true b8 r.2.2.2.by_,OwnMap (Value.int .i64) AE false b10 r.2.2.2.often]∧Q r):=by
 refine Fun.en func153 ntmps153 r fun w0 M=>?_
 refine .sr (.al TY r fun a7=>?_)
 refine .kn 2 [4,1,0] r (.seq (.sk 2 r ?_))
 have B:=OO (I:=I) (o0:=o0) (a0:=a0) (b2:=b2) (p3:=p3) (c4:=c4) (b8:=b8) (b10:=b10) hd
 refine .callS (.f call156 r) (.o [1,1,1,1] r) B r r fun a8 O a9 b C=>?_
 obtain ⟨y,rfl,rfl,hd⟩:=C
 refine .rn 5 r (.kn 1 [7,4,1,0] r (.seq (.ownF .p1 fun m=>?_)))
 refine .dr [0,1,2,3,4,5,6,7,8,9,10,11,12,13,14,15] 16 (.fk 3 r ?_)
 refine AQ hd (fun c hd=>?_) fun c hd=>?_
 · rw [c]
   exact .fk 13 r (.e2 16 (.no [27,7,4,1,0] r (.condKT r r (.sr (.build TY uJ uG .n (by exact trivial) r r (.ks 1 r (.sa FN .p4 r (.kn 2 [6,5,4,0] r (.ret (KG results153 (.w QQ FN r .p4 r (.t r (.t r .n))) b (.o [0,0,0,0] r) ⟨(({ Kind:=0,From:=0,To:=0,Seq:=0,Round:=0,Vec:=({ N:=0,Items:=([]:List EC) }:Vec),Sums:=([]:List eZ),Triples:=([]:List AD),N:=0,Over:=false }:BL),false,y,o0),_,_,_,_,_,_,_,_,r,(.nil _ none 0),(.nil _ none 0),(.nil _ none 0),r,hd⟩))))))))))
 rw [c]
 refine .fk 3 r (.h r (fun _=>.yes r (.lo GS .z r .mk)) (.fk 1 r ?_))
 obtain ⟨A,b0,d,hd⟩:=hd
 obtain ⟨P,R⟩:=m (DO d)
 cases R
 refine .h r (fun _=>.yes r (.ixa0 BT EX r r A (AH d A) r r .mk)) (.h r (fun _=>.yes r (.lo1 (j:=0) BF .p1 d r r r r r .mk)) (.fk 3 r (.h r (fun _=>.yes r (.lo BF .z r .mk)) (.fk 2 r (.e2 16 (.no [27,7,4,1,0] r (.condP r hd (fun D hd=>?_) fun D hd=>?_)))))))
 · exact .sr (.build TY uJ uG .n (by exact trivial) r r (.ks 1 r (.sa FN .p4 r (.kn 2 [6,5,4,0] r (.ret (KG results153 (.w QQ FN r .p4 r (.t r (.t r .n))) b (.o [0,0,0,0] r) ⟨(({ Kind:=0,From:=0,To:=0,Seq:=0,Round:=0,Vec:=({ N:=0,Items:=([]:List EC) }:Vec),Sums:=([]:List eZ),Triples:=([]:List AD),N:=0,Over:=false }:BL),false,y,o0),_,_,_,_,_,_,_,_,r,(.nil _ none 0),(.nil _ none 0),(.nil _ none 0),r,hd⟩))))))
 refine .sn [4,1,0] r (.sk 2 r ?_)
 have E:=bY (I:=O) (o0:=o0) (a0:=a0) (b2:=b2) (p3:=some ⟨P,0,none⟩) (c4:=c4) (b8:=b8) (b10:=b10) hd
 refine .callS (.f call220 r) (.o [0,0,0,0] r) E r r fun b1 S b3 F G=>?_
 obtain ⟨a,b4,b5,b6,b7,T,U,V,W,rfl,k,e,g,rfl,hd⟩:=G
 have i:=F.u1 b
 refine .rn 5 r (.al TY r fun X=>?_)
 refine .sa FN .z r (.no [8,4,0] r (.seq (.seq (.dr [0,1,2,3,4,5,6] 7 (.fk 1 r (.h r (fun _=>.lo BF .z r .mk) (.fk 3 r (.h r (fun _=>.lo BF .p1 r .mk) (.fk 1 r ?_)))))))))
 refine .e2 7 (.no [39,8,4,0] r (.condP r hd (fun p hd=>?_) fun p hd=>?_))
 · exact .sr (.build TY uJ uG .n (by exact trivial) r r (.sa FN .p5 r (.kn 2 [6,5,4,0] r (.drop .z (.ret (KG results153 (.w QQ FN r .p4 r (.t r (.t r .n))) i (.o [0,0,0,0] r) ⟨(({ Kind:=0,From:=0,To:=0,Seq:=0,Round:=0,Vec:=({ N:=0,Items:=([]:List EC) }:Vec),Sums:=([]:List eZ),Triples:=([]:List AD),N:=0,Over:=false }:BL),false,0,a.2),_,_,_,_,_,_,_,_,r,(.nil _ none 0),(.nil _ none 0),(.nil _ none 0),r,hd⟩))))))
 refine .sn [8,4,0] r (.sk 3 r (.lo BF .p1 r (.ks 3 r (.s1 EX .p1 r (.ns [8,4,0] r (.lw QQ FN .z r ?_))))))
 have q:=mP (I:=S) k e g hd
 refine .call call219 r q r r fun Y Z s u=>?_
 obtain ⟨H,a1,a2,a3,a4,a5,a6,rfl,J,K,L,hd⟩:=u
 obtain ⟨x,k,e,g⟩:=s.u4 i k e g
 exact .sa FN .p5 r (.kn 2 [6,5,4,0] r (.drop .z (.ret (KG results153 (.w QQ FN r .p4 r (.t r (.t r .n))) x (.o [0,0,0,0] r) ⟨(H,true,0,({ room:=a.2.room,row:=a.2.row,by_:=a.2.by_,often:=a.2.often,sent:=a.2.sent,taken:=AJ (a.2.taken+1) }:AF)),_,_,_,_,_,_,_,_,r,J,K,L,r,hd⟩))))
theorem bZ {o0:List (Nat×AF)} {a0:Option Nat} {a1:Int} {Q:(BL×Bool×Int×(List (Nat×AF)))→Prop} (hd:PI o0 a0 a1 Q) :
  Fun prog 153 #[.pointer (mkA a0),.int .i64 a1] I [BQ BD o0] (fun I_ v l=>∃ r p2 c3 p5 c6 p8 c9,v=.tuple #[.agg #[.int .i64 r.1.Kind,.int .i64 r.1.From,.int .i64 r.1.To,.int .i64 r.1.Seq,.int .i64 r.1.Round,.int .i64 r.1.Vec.N,.slice p2 r.1.Vec.Items.length c3,.slice p5 r.1.Sums.length c6,.slice p8 r.1.Triples.length c9,.int .i64 r.1.N,.bool r.1.Over],.bool r.2.1,.int .i64 r.2.2.1]∧RepSl RG I_ p2 c3 r.1.Vec.Items∧RepSl fG I_ p5 c6 r.1.Sums∧RepSl BV I_ p8 c9 r.1.Triples∧l=[BQ BD r.2.2.2]∧Q r):=by
 rcases a0 with _ | b
 · have hd:=hd.1 r
   refine (Fun.frame (r:=[BQ BD o0]) (RP  hd)).conseq fun I_ v l hle h=>?_
   obtain ⟨g,rfl,rr,p2,c3,p5,c6,p8,c9,rfl,c,d,a,rfl,hq⟩:=h
   exact ⟨(rr.1,rr.2.1,rr.2.2,o0),p2,c3,p5,c6,p8,c9,r,c,d,a,r,hq⟩
 obtain ⟨x,hx,hd⟩:=hd.2 b rfl
 refine Fun.bank hx (fun aa _=>aK (b2:=b) (p3:=aa.1) (c4:=aa.2.1) (b8:=aa.2.2.1) (b10:=aa.2.2.2)  hd) ?_
 rintro aa I_ v l hle ⟨rr,p2,c3,p5,c6,p8,c9,e,f,rfl,c,d,a,rfl,hq⟩
 exact ⟨(e,f,aa.2.2.1,aa.2.2.2),rr.2.2.2,[],r,trivial,(rr.1,rr.2.1,rr.2.2.1,(b,rr.2.2.2) :: CM b o0),p2,c3,p5,c6,p8,c9,r,c,d,a,r,hq⟩
theorem KF {o0:AC} {o1:List (Nat×AA)} {a0:Option Nat} {Q:(Bool×(List (Nat×AA)))→Prop} (R6:RepSl AE I p4 c5 o0.p.A.Start) (R9:RepSl AE I p7 c8 o0.p.A.Col) (R12:RepSl AE I p10 c11 o0.p.A.Val) (R15:RepSl AE I p13 c14 o0.p.B.Start) (R18:RepSl AE I p16 c17 o0.p.B.Col) (R21:RepSl AE I p19 c20 o0.p.B.Val) (R24:RepSl AE I p22 c23 o0.p.Mask.Start) (R27:RepSl AE I p25 c26 o0.p.Mask.Col) (R30:RepSl AE I p28 c29 o0.p.Mask.Val) (R33:RepSl CB I p31 c32 o0.stages) (R36:RepSl CV I p34 c35 o0.workers) (hd:DB o0 o1 a0 Q) :
  Fun prog 154 #[.pointer (some ⟨b3,0,none⟩),.pointer (mkA a0)] I [pto b3 (.cells (AZ o0 p4 c5 p7 c8 p10 c11 p13 c14 p16 c17 p19 c20 p22 c23 p25 c26 p28 c29 p31 c32 p34 c35 b38) 121 (0,0)),OwnMap CU CV false b38 o0.boxes,BQ AG o1] (fun I_ v l=>∃ r,v=.bool r.1∧l=[pto b3 (.cells (AZ o0 p4 c5 p7 c8 p10 c11 p13 c14 p16 c17 p19 c20 p22 c23 p25 c26 p28 c29 p31 c32 p34 c35 b38) 121 (0,0)),OwnMap CU CV false b38 o0.boxes,BQ AG r.2]∧Q r):=by
 refine Fun.en func154 ntmps154 r fun w0 M=>?_
 refine .sr (.kn 1 [1,0] r (.seq (.seq ?_)))
 obtain ⟨q,z7,g6,c2,hd⟩:=hd
 refine .bankO .p2 c2 fun ⟨z8,z9,A0,A1,A2,A3,A4,A5,A6,A7,A8⟩ ⟨A9,B0,B1,B2,B3⟩=>?_
 refine .rn 5 r (.sub (E':=[(0,_),(1,.pointer (some ⟨q,0,none⟩))]) ⟨r,(by rw [g6]; rfl),trivial⟩ (.dr [0,1,2,3,4,5,6,7,8,9] 10 (.fk 3 r (.h r (fun _=>.lo BF .z r .mk) (.fk 3 r (.h r (fun _=>.lo aS .p3 r .mk) (.h r (fun _=>.ln dC r .mk) (.fk 1 r (.e2 10 ?_)))))))))
 refine .bankB (B:=AG) (z8,z9,A0,A1,A2,A3,A4,A5,A6,A7,A8) z7 ⟨A9,B0,B1,B2,B3⟩ c2 (.o [0,0,0] r) (.no [27,1,0] r (.condP r hd (fun g7 hd=>?_) fun g7 hd=>?_))
 · exact .sr (.kn 1 [4,0] r (.q1 results154 rf [1,1,0] r ⟨(false,o1),r,r,hd⟩))
 refine .sn [1,0] r (.seq ?_)
 obtain ⟨B8,m,c9,b2,hd⟩:=hd
 obtain rfl:=Option.some.inj c9
 refine .bankO .z b2 fun ⟨g8,g9,h0,h1,h2,h3,h4,h5,h6,h7,h8⟩ ⟨h9,i0,i1,i2,i3⟩=>?_
 refine .rn 5 r (.dr [0,1,2,3,4,5,6,7,8,9,10,11,999,12] 13 (.fk 3 r (.h r (fun _=>.lo BF .z r .mk) (.h r (fun _=>.build dI kS kN (.c r r r (.o r) (.c r r r (.o r) .n)) (by exact ⟨⟨_,_,r,r,r⟩,⟨⟨_,_,r,r,r⟩,trivial⟩⟩) r r .mk) (.fk 3 r (.h r (fun _=>.lo BF .z r .mk) (.h r (fun _=>.build dI kS kN (.c r r r (.o r) (.c r r r (.o r) .n)) (by exact ⟨⟨_,_,r,r,r⟩,⟨⟨_,_,r,r,r⟩,trivial⟩⟩) r r .mk) (.a (fun b=>.pointer (some ⟨b,0,none⟩)) (fun b=>pto b (.cells #[.int .i64 0,.int .i64 0] 206 (0,0))) r r r r (fun _ L hL ex=>.al dI r fun b=>.mk (val:=fun b=>.pointer (some ⟨b,0,none⟩)) (atom:=fun b=>pto b (.cells #[.int .i64 0,.int .i64 0] 206 (0,0))) hL b) (.ww r fun ex=>?_)))))))))
 refine .al dI r fun B9=>?_
 refine .so 6 r r r (.ch r (fun _=>.build dI kS kN (.c r r r (.o r) (.c r r r (.o r) .n)) (by exact ⟨⟨_,_,r,r,r⟩,⟨⟨_,_,r,r,r⟩,trivial⟩⟩) r r .mk) (.ch r (fun _=>.lo BF .p1 r .mk) (.ck 3 r r (.ch r (fun _=>.build dI kS kN (.c r r r (.o r) (.c r r r (.o r) .n)) (by exact ⟨⟨_,_,r,r,r⟩,⟨⟨_,_,r,r,r⟩,trivial⟩⟩) r r .mk) (.ch r (fun _=>.lo BF .p1 r .mk) (.ck 3 r r trivial)))))) (.b r fun C0=>DrawD.nop (.ww r fun ex=>?_))
 refine .sa sizeOf206 .p6 r (.sn 7 r r r (.ch r (fun _=>.build dI kS kN (.c r r r (.o r) (.c r r r (.o r) .n)) (by exact ⟨⟨_,_,r,r,r⟩,⟨⟨_,_,r,r,r⟩,trivial⟩⟩) r r .mk) (.ch r (fun _=>.lo BF .p1 r .mk) (.ck 3 r r trivial))) (.e2 13 (.sa sizeOf206 .z r (.bankB (B:=AG) (g8,g9,h0,h1,h2,h3,h4,h5,h6,h7,h8) m ⟨h9,i0,i1,i2,i3⟩ b2 (.o [1,1,1] r) (.no [5,6,1,0] r (.seq ?_))))))
 obtain ⟨C1,i4,d0,b4,hd⟩:=hd
 obtain rfl:=Option.some.inj d0
 refine .bankO .z b4 fun ⟨i5,i6,i7,i8,i9,j0,j1,j2,j3,j4,j5⟩ ⟨j6,j7,j8,j9,k0⟩=>?_
 refine .rn 7 r (.dr [0,1,2,3,4,5,6,7,8,9] 10 (.fk 3 r (.h r (fun _=>.lo isAgg124 .z r .mk) (.h r (fun _=>.lw isAgg206 sizeOf206 .p6 r .mk) (.ww r fun ex=>?_)))))
 refine .lookM2 (k:=({ kind:=6,stage:=m.at_ }:BC)) (El:=(NN BV)) (ag:=false) (zv:=.slice none 0 0) (z:=([]:List AD)) oS oU zeroValue54 ⟨[.slice none 0 0],⟨_,_,r,.nil _ _ _⟩,.s⟩ .p1 r r hd r r fun C2 C3 C4 B4 hd d1 d2=>?_
 obtain ⟨C5,C6,rfl,U⟩:=d1
 cases d2
 refine .so 7 r r r trivial (.fk 4 r (.e2 10 (.ks 1 r (.bankB (B:=AG) (i5,i6,i7,i8,i9,j0,j1,j2,j3,j4,j5) i4 ⟨j6,j7,j8,j9,k0⟩ b4 (.o [0,0,0] r) (.no [8,7,5,6,1,0] r (.seq ?_))))))
 obtain ⟨C7,k1,d3,b5,hd⟩:=hd
 obtain rfl:=Option.some.inj d3
 refine .bankO .z b5 fun ⟨k2,k3,k4,k5,k6,k7,k8,k9,l0,l1,l2⟩ ⟨l3,l4,l5,l6,l7⟩=>?_
 refine .rn 7 r (.dr [0,1,2,3,4,5,6,7,8,9] 10 (.fk 3 r (.h r (fun _=>.lo isAgg124 .z r .mk) (.h r (fun _=>.lw isAgg206 sizeOf206 .p3 r .mk) (.ww r fun ex=>?_)))))
 refine .lookM2 (k:=({ kind:=7,stage:=m.at_ }:BC)) (El:=(NN BV)) (ag:=false) (zv:=.slice none 0 0) (z:=([]:List AD)) oS oU zeroValue54 ⟨[.slice none 0 0],⟨_,_,r,.nil _ _ _⟩,.s⟩ .p1 r r hd r r fun C8 C9 D0 B5 hd d4 d5=>?_
 obtain ⟨D1,D2,rfl,y⟩:=d4
 cases d5
 refine .so 7 r r r trivial (.fk 4 r (.e2 10 (.ks 1 r (.bankB (B:=AG) (k2,k3,k4,k5,k6,k7,k8,k9,l0,l1,l2) k1 ⟨l3,l4,l5,l6,l7⟩ b5 (.o [0,0,0] r) (.no [10,9,8,7,5,6,1,0] r (.seq (.sk 3 r ?_)))))))
 refine AQ hd (fun O hd=>?_) fun O hd=>?_
 · rw [O]
   exact .kn 3 [61,9,7,5,6,1,0] r (.condKT r r (.sr (.kn 1 [4,0] r (.drop .p1 (.drop .p3 (.q1 results154 rf [1,1,0] r ⟨(false,o1),r,r,hd⟩))))))
 rw [O]
 refine .kn 3 [61,9,7,5,6,1,0] r (.condP r hd (fun d6 hd=>?_) fun d6 hd=>?_)
 · exact .sr (.kn 1 [4,0] r (.drop .p1 (.drop .p3 (.q1 results154 rf [1,1,0] r ⟨(false,o1),r,r,hd⟩))))
 refine .sn [9,7,5,6,1,0] r (.seq ?_)
 obtain ⟨D3,l8,d7,b6,hd⟩:=hd
 obtain rfl:=Option.some.inj d7
 refine .bankO .z b6 fun ⟨l9,m0,m1,m2,m3,m4,m5,m6,m7,m8,m9⟩ ⟨n0,n1,n2,n3,n4⟩=>?_
 refine .rn 7 r (.dr [0,1,2,3,4,5,6,7,8,9,10,11,12,13,14,15,16,17,18,19,20,21,22] 23 (.fk 3 r (.h r (fun _=>.lo aS .p4 r .mk) (.fk 3 r (.h r (fun _=>.lo BF .z r .mk) ?_)))))
 obtain ⟨c3,D4,b7,hd⟩:=hd
 obtain ⟨D5,o331,B6,n5,d8,d9⟩:=R33.2 _ _ b7
 cases d9
 refine .h r (fun _=>.ixa dC kT r n5 r c3 (AH b7 c3) r r .mk) (.fk 1 r (.h r (fun _=>.ld1 (j:=1) BF d8 r r r r r .mk) (.fk 3 r (.h r (fun _=>.lo aS .p4 r .mk) (.fk 3 r (.h r (fun _=>.lo BF .z r .mk) ?_))))))
 obtain ⟨c4,D6,b8,hd⟩:=hd
 obtain ⟨D7,o340,B7,n6,e0,e1⟩:=R33.2 _ _ b8
 cases e1
 refine .h r (fun _=>.ixa dC kT r n6 r c4 (AH b8 c4) r r .mk) (.fk 1 r (.h r (fun _=>.ld1 (j:=0) BF e0 r r r r r .mk) (.fk 1 r (.e2 23 (.ks 1 r (.bankB (B:=AG) (l9,m0,m1,m2,m3,m4,m5,m6,m7,m8,m9) l8 ⟨n0,n1,n2,n3,n4⟩ b6 (.o [0,0,0] r) (.no [11,9,7,5,6,1,0] r (.seq ?_))))))))
 obtain ⟨D8,n7,e3,b9,hd⟩:=hd
 obtain rfl:=Option.some.inj e3
 refine .bankO .z b9 fun ⟨n8,n9,o2,o3,o4,o5,o6,o7,o8,o9,p0⟩ ⟨V,W,X,Y,Z⟩=>?_
 refine .rn 7 r (.dr [0,1,2,3,4,5,6,7,8,9,10,11,16,12,13,14,15,999,17] 18 (.fk 4 r (.h r (fun _=>.lo kU .p4 r .mk) (.fk 4 r (.h r (fun _=>.lo BF .z r .mk) (.fk 2 r (.a (fun b=>.pointer (some ⟨b,0,none⟩)) (fun b=>pto b (.cells #[.int .i64 0,.int .i64 0,.slice none 0 0,.slice none 0 0,.slice none 0 0] 33 (0,0))) r r r r (fun _ L hL ex=>.al FO r fun b=>.mk (val:=fun b=>.pointer (some ⟨b,0,none⟩)) (atom:=fun b=>pto b (.cells #[.int .i64 0,.int .i64 0,.slice none 0 0,.slice none 0 0,.slice none 0 0] 33 (0,0))) hL b) (.ww r fun ex=>?_))))))))
 have e4:=mT (I:=I) U hd
 refine .call call208 r e4 r r fun D9 p9 t e5=>?_
 obtain ⟨E0,E1,E2,E3,E4,E5,E6,rfl,C,D,E,hd⟩:=e5
 obtain ⟨R6,R9,R12,R15,R18,R21⟩:=t.u6 R6 R9 R12 R15 R18 R21
 obtain ⟨R24,R27,R30,R33,R36,U⟩:=t.u6 R24 R27 R30 R33 R36 U
 obtain ⟨y,V,W,X,Y,Z⟩:=t.u6 y V W X Y Z
 refine .so 7 r r r trivial (.fk 3 r (.b r fun E7=>DrawD.nop (.ww r fun ex=>?_)))
 refine .sa BH .p7 r (.sn 8 r r r (.ck 1 r r trivial) (.e2 18 (.ks 1 r (.bankB (B:=AG) (n8,n9,o2,o3,o4,o5,o6,o7,o8,o9,p0) n7 ⟨V,W,X,Y,Z⟩ b9 (.o [0,0,0] r) (.no [12,11,9,5,6,1,0] r (.seq ?_))))))
 obtain ⟨E8,q0,e6,c0,hd⟩:=hd
 obtain rfl:=Option.some.inj e6
 refine .bankO .z c0 fun ⟨q2,q3,q4,q5,q6,q7,q8,q9,r0,r1,r2⟩ ⟨a1,a2,a3,a4,a5⟩=>?_
 refine .rn 8 r (.dr [0,1,2,3,4,5,6,7,8,9,10,11,16,12,13,14,15,999,17] 18 (.fk 4 r (.h r (fun _=>.lo kU .p4 r .mk) (.fk 5 r (.h r (fun _=>.lo BF .z r .mk) (.fk 1 r (.a (fun b=>.pointer (some ⟨b,0,none⟩)) (fun b=>pto b (.cells #[.int .i64 0,.int .i64 0,.slice none 0 0,.slice none 0 0,.slice none 0 0] 33 (0,0))) r r r r (fun _ L hL ex=>.al FO r fun b=>.mk (val:=fun b=>.pointer (some ⟨b,0,none⟩)) (atom:=fun b=>pto b (.cells #[.int .i64 0,.int .i64 0,.slice none 0 0,.slice none 0 0,.slice none 0 0] 33 (0,0))) hL b) (.ww r fun ex=>?_))))))))
 have e7:=mT (I:=p9) y hd
 refine .call call208 r e7 r r fun E9 r3 u e8=>?_
 obtain ⟨F0,F1,F2,F3,F4,F5,F6,rfl,a6,a7,a8,hd⟩:=e8
 obtain ⟨e9,R6,R9,R12,R15,R18⟩:=u.u6 t R6 R9 R12 R15 R18
 obtain ⟨R21,R24,R27,R30,R33,R36⟩:=u.u6 R21 R24 R27 R30 R33 R36
 obtain ⟨y,C,D,E,a1,a2⟩:=u.u6 y C D E a1 a2
 obtain ⟨a3,a4,a5⟩:=u.u3 a3 a4 a5
 refine .so 8 r r r trivial (.fk 3 r (.b r fun F7=>DrawD.nop (.ww r fun ex=>?_)))
 refine .sa BH .p8 r (.sn 9 r r r (.ck 1 r r trivial) (.e2 18 (.ks 1 r (.bankB (B:=AG) (q2,q3,q4,q5,q6,q7,q8,q9,r0,r1,r2) q0 ⟨a1,a2,a3,a4,a5⟩ c0 (.o [0,0,0] r) (.no [14,12,5,6,1,0] r (.seq ?_))))))
 obtain ⟨F8,r4,f0,c1,hd⟩:=hd
 obtain rfl:=Option.some.inj f0
 refine .bankO .z c1 fun ⟨r5,r6,r7,r8,r9,s0,s2,s3,s4,s5,s6⟩ ⟨P,R,S,a9,b0⟩=>?_
 refine .rn 9 r (.dr [0,1,2,3,4,5,6,7,8,9,10,11,12,13,14,15] 16 (.fk 4 r (.h r (fun _=>.lo kU .p4 r .mk) (.h r (fun _=>.lw CF BH .p7 r .mk) (.h r (fun _=>.lw CF BH .p8 r .mk) (.fk 3 r (.h r (fun _=>.loadA CF BH r .z (.o 5 r) r r r .mk) (.ww r fun ex=>?_))))))))
 have f1:=sZ (I:=r3) C D E a6 a7 a8 P R S hd
 refine .call call221 r f1 r r fun F9 G0 w f2=>?_
 obtain ⟨c6,s7,s8,rfl,F,hd⟩:=f2
 obtain ⟨f3,R6,R9,R12,R15,R18⟩:=w.u6 e9 R6 R9 R12 R15 R18
 obtain ⟨R21,R24,R27,R30,R33,R36⟩:=w.u6 R21 R24 R27 R30 R33 R36
 obtain ⟨C,D,E,a6,a7,a8⟩:=w.u6 C D E a6 a7 a8
 obtain ⟨P,R,S,a9,b0⟩:=w.u5 P R S a9 b0
 refine .so 9 r r r trivial (.fk 4 r (.e2 16 (.ks 1 r (.bankB (B:=AG) (r5,r6,r7,r8,r9,s0,s2,s3,s4,s5,s6) r4 ⟨P,R,S,a9,b0⟩ c1 (.o [0,0,0] r) (.no [16,5,6,1,0] r (.drop .p5 (.drop .p5 (.seq ?_))))))))
 obtain ⟨G1,d,f4,f5,hd⟩:=hd
 obtain rfl:=Option.some.inj f4
 refine .bankO .z f5 fun ⟨s9,t0,t1,t2,t3,t4,t5,t6,t7,t8,t9⟩ ⟨G,H,J,K,N⟩=>?_
 refine .rn 7 r (.dr [0,1,2,3,4,5,6,7,8,9,10,11,12,13,14,15,16,17,18] 19 (.fk 5 r (.h r (fun _=>.lo kU .p4 r .mk) (.fk 3 r (.h r (fun _=>.lo isAgg76 .z r .mk) (.fk 1 r (.ww r fun ex=>?_)))))))
 refine .buildSlice 2 kR AdM zeroValue76 r r (.c r r r (.c r r r .n)) r r fun G2=>?_
 refine .so 8 r r r (.ch r (fun _=>.lo kU .p5 r .mk) (.ck 5 r r trivial)) (.ww r fun ex=>?_)
 refine .pubB (El:=(NN CI)) (ys:=([d.has,c6.1]:List (List AM))) (k:=2) .z (RepCs.cons (cs:=[.slice t8 d.has.length t9]) ⟨_,_,r,N⟩ (RepCs.cons (cs:=[.slice s7 c6.1.length s8]) ⟨_,_,r,F⟩ .nil)) r fun u0 T b1=>?_
 obtain ⟨f6,R6,R9,R12,R15,R18⟩:=T.u6 f3 R6 R9 R12 R15 R18
 obtain ⟨R21,R24,R27,R30,R33,R36⟩:=T.u6 R21 R24 R27 R30 R33 R36
 obtain ⟨F,G,H,J,K,N⟩:=T.u6 F G H J K N
 have f7:=tA (I:=u0) b1 hd
 refine .call call222 r f7 r r fun G3 G4 x f8=>?_
 obtain ⟨c7,u2,u4,rfl,u7,hd⟩:=f8
 obtain ⟨f9,R6,R9,R12,R15,R18⟩:=x.u6 f6 R6 R9 R12 R15 R18
 obtain ⟨R21,R24,R27,R30,R33,R36⟩:=x.u6 R21 R24 R27 R30 R33 R36
 obtain ⟨F,G,H,J,K,N⟩:=x.u6 F G H J K N
 have b1:=x.u1 b1
 refine .so 7 r r r (.ck 1 r r trivial) (.fk 5 r (.ww r fun ex=>?_))
 refine .s1 AdM .z r (.sn 7 r r r (.ck 1 r r trivial) (.e2 19 (.bankC (B:=AG) (s9,t0,t1,t2,t3,t4,t5,t6,t7,u2,u4) ({ i:=d.i,j:=d.j,mask:=d.mask,out:=d.out,parts:=d.parts,at_:=d.at_,has:=c7.1 }:AA) ⟨G,H,J,K,u7⟩ (.o [0,0,0] r) (.no [5,6,1,0] r (.seq ?_)))))
 obtain ⟨G5,e,g0,g1,hd⟩:=hd
 obtain rfl:=Option.some.inj g0
 refine .bankO .z g1 fun ⟨u8,u9,v0,v1,v2,v3,v4,v5,v6,v7,v8⟩ ⟨v9,w1,w2,w3,w4⟩=>?_
 refine .rn 7 r (.dr [0,1,2,3,4,5] 6 (.fk 3 r (.h r (fun _=>.lo isAgg124 .z r .mk) (.h r (fun _=>.lw isAgg206 sizeOf206 .p6 r .mk) (.ww r fun ex=>?_)))))
 refine .delM (k:=({ kind:=6,stage:=m.at_ }:BC)) oS oU r .p1 r r (.sn 7 r r r trivial (.e2 6 (.bankC (B:=AG) (u8,u9,v0,v1,v2,v3,v4,v5,v6,v7,v8) ({ i:=e.i,j:=e.j,mask:=e.mask,out:=e.out,parts:=(CM ({ kind:=6,stage:=m.at_ }:BC) e.parts),at_:=e.at_,has:=e.has }:AA) ⟨v9,w1,w2,w3,w4⟩ (.o [0,0,0] r) (.no [6,1,0] r (.drop .p4 (.seq ?_))))))
 obtain ⟨G6,f,g2,g3,hd⟩:=hd
 obtain rfl:=Option.some.inj g2
 refine .bankO .z g3 fun ⟨w5,w6,w7,w8,w9,x0,x1,x2,x3,x4,x5⟩ ⟨x6,x7,x8,x9,y0⟩=>?_
 refine .rn 6 r (.dr [0,1,2,3,4,5] 6 (.fk 3 r (.h r (fun _=>.lo isAgg124 .z r .mk) (.h r (fun _=>.lw isAgg206 sizeOf206 .p3 r .mk) (.ww r fun ex=>?_)))))
 refine .delM (k:=({ kind:=7,stage:=m.at_ }:BC)) oS oU r .p1 r r (.sn 6 r r r trivial (.e2 6 (.bankC (B:=AG) (w5,w6,w7,w8,w9,x0,x1,x2,x3,x4,x5) ({ i:=f.i,j:=f.j,mask:=f.mask,out:=f.out,parts:=(CM ({ kind:=7,stage:=m.at_ }:BC) f.parts),at_:=f.at_,has:=f.has }:AA) ⟨x6,x7,x8,x9,y0⟩ (.o [0,0,0] r) (.no [1,0] r (.drop .p1 (.sk 1 r ?_))))))
 obtain ⟨G7,g,g4,g5,hd⟩:=hd
 obtain rfl:=Option.some.inj g4
 refine .bankO .z g5 fun ⟨y1,y2,y3,y4,y5,y6,y7,y8,y9,z0,z1⟩ ⟨z2,z3,z4,z5,z6⟩=>?_
 exact .rn 5 r (.ks 2 r (.lo BF .z r (.ks 3 r (.s1 EX .z r (.bankC (B:=AG) (y1,y2,y3,y4,y5,y6,y7,y8,y9,z0,z1) ({ i:=g.i,j:=g.j,mask:=g.mask,out:=g.out,parts:=g.parts,at_:=AJ (g.at_+1),has:=g.has }:AA) ⟨z2,z3,z4,z5,z6⟩ (.o [0,0,0] r) (.nk [0] 1 r (.no [4,0] r (.q1 results154 f9 [1,1,0] r ⟨(true,((q,({ i:=g.i,j:=g.j,mask:=g.mask,out:=g.out,parts:=g.parts,at_:=AJ (g.at_+1),has:=g.has }:AA)) :: (CM q ((q,({ i:=f.i,j:=f.j,mask:=f.mask,out:=f.out,parts:=(CM ({ kind:=7,stage:=m.at_ }:BC) f.parts),at_:=f.at_,has:=f.has }:AA)) :: (CM q ((q,({ i:=e.i,j:=e.j,mask:=e.mask,out:=e.out,parts:=(CM ({ kind:=6,stage:=m.at_ }:BC) e.parts),at_:=e.at_,has:=e.has }:AA)) :: (CM q ((q,({ i:=d.i,j:=d.j,mask:=d.mask,out:=d.out,parts:=d.parts,at_:=d.at_,has:=c7.1 }:AA)) :: (CM q o1))))))))),r,r,hd⟩))))))))
theorem MF {o0:AC} {o1:List (Nat×AA)} {o2:List (Nat×AF)} {a0 a1 a2:Int} {Q:(Bool×AC×(List (Nat×AA))×(List (Nat×AF)))→Prop} (R7:RepSl AE I p5 c6 o0.p.A.Start) (R10:RepSl AE I p8 c9 o0.p.A.Col) (R13:RepSl AE I p11 c12 o0.p.A.Val) (R16:RepSl AE I p14 c15 o0.p.B.Start) (R19:RepSl AE I p17 c18 o0.p.B.Col) (R22:RepSl AE I p20 c21 o0.p.B.Val) (R25:RepSl AE I p23 c24 o0.p.Mask.Start) (R28:RepSl AE I p26 c27 o0.p.Mask.Col) (R31:RepSl AE I p29 c30 o0.p.Mask.Val) (R34:RepSl CB I p32 c33 o0.stages) (R37:RepSl CV I p35 c36 o0.workers) (hd:DF o0 o1 o2 a0 a1 a2 Q) :
  Fun prog 84 #[.pointer (some ⟨b4,0,none⟩),.int .i64 a0,.int .i64 a1,.int .i64 a2] I [pto b4 (.cells (AZ o0 p5 c6 p8 c9 p11 c12 p14 c15 p17 c18 p20 c21 p23 c24 p26 c27 p29 c30 p32 c33 p35 c36 b39) 121 (0,0)),OwnMap CU CV false b39 o0.boxes,BQ AG o1,BQ BD o2] (fun I_ v l=>∃ r p41 c42 p44 c45 p47 c48 p50 c51 p53 c54 p56 c57 p59 c60 p62 c63 p65 c66 p68 c69 p71 c72,v=.bool r.1∧RepSl AE I_ p41 c42 r.2.1.p.A.Start∧RepSl AE I_ p44 c45 r.2.1.p.A.Col∧RepSl AE I_ p47 c48 r.2.1.p.A.Val∧RepSl AE I_ p50 c51 r.2.1.p.B.Start∧RepSl AE I_ p53 c54 r.2.1.p.B.Col∧RepSl AE I_ p56 c57 r.2.1.p.B.Val∧RepSl AE I_ p59 c60 r.2.1.p.Mask.Start∧RepSl AE I_ p62 c63 r.2.1.p.Mask.Col∧RepSl AE I_ p65 c66 r.2.1.p.Mask.Val∧RepSl CB I_ p68 c69 r.2.1.stages∧RepSl CV I_ p71 c72 r.2.1.workers∧l=[pto b4 (.cells (AZ r.2.1 p41 c42 p44 c45 p47 c48 p50 c51 p53 c54 p56 c57 p59 c60 p62 c63 p65 c66 p68 c69 p71 c72 b39) 121 (0,0)),OwnMap CU CV false b39 r.2.1.boxes,BQ AG r.2.2.1,BQ BD r.2.2.2]∧Q r):=by
 refine Fun.en func84 ntmps84 r fun w0 M=>?_
 refine .sk 1 r (.nk [3,2,1,0] 3 r ?_)
 have c2:=FW (I:=I) (o0:=o0) (o1:=o1) (o2:=o2) (a0:=a0) (a1:=a1) (b4:=b4) (p5:=p5) (c6:=c6) (p8:=p8) (c9:=c9) (p11:=p11) (c12:=c12) (p14:=p14) (c15:=c15) (p17:=p17) (c18:=c18) (p20:=p20) (c21:=c21) (p23:=p23) (c24:=c24) (p26:=p26) (c27:=c27) (p29:=p29) (c30:=c30) (p32:=p32) (c33:=c33) (p35:=p35) (c36:=c36) (b39:=b39) R7 R10 R13 R16 R19 R22 R25 R28 R31 R34 R37 hd
 refine .callS (.f call85 r) (.o [0,0,0,0] r) c2 r r fun o7 b5 o8 R V=>?_
 rcases V with V | V
 · obtain ⟨W,f4,f5,f6,f7,f8,f9,g0,g1,g2,g3,g4,g5,g6,g7,g8,g9,h0,h1,h2,h3,h4,h5,rfl,d,e,g,m,q,t,u,w,x,y,a,rfl,hd⟩:=V
   obtain ⟨R7,R10,R13,R16,R19,R22⟩:=R.u6 R7 R10 R13 R16 R19 R22
   obtain ⟨R25,R28,R31,R34,R37⟩:=R.u5 R25 R28 R31 R34 R37
   refine .rn 4 r (.ks 1 r ?_)
   have c3:=RP (I:=b5) (a0:=a2) hd
   refine .callS (.f call153 r) .n c3 r r fun o9 p0 p6 a7 c4=>?_
   obtain ⟨S,p9,q0,q2,q3,h6,h7,rfl,q4,q5,h8,rfl,hd⟩:=c4
   obtain ⟨a8,d,e,g,m,q⟩:=a7.u6 R d e g m q
   obtain ⟨t,u,w,x,y,a⟩:=a7.u6 t u w x y a
   refine .rn 4 r (.ks 4 r (.al TY r fun q6=>?_))
   refine .sa FN .z r (.kn 2 [10,9,2,0] r (.seq (.sr (.kn 2 [24,9,2,0] r (.condP r hd (fun c7 hd=>?_) fun c7 hd=>?_)))))
   · exact .sr (.kn 1 [8,0] r (.drop .z (.q1 results84 a8 [0,0,0,0] r ⟨(false,W.1,o1,W.2),_,_,_,_,_,_,_,_,_,_,_,_,_,_,_,_,_,_,_,_,_,_,r,d,e,g,m,q,t,u,w,x,y,a,r,hd⟩)))
   refine .sn [9,2,0] r (.sk 3 r (.lo isAgg119 .p1 r (.ks 1 r ?_)))
   obtain ⟨b6,q7,a9,hd⟩:=hd
   obtain ⟨q8,o404,o5,h9,d0,d1⟩:=a.2 _ _ a9
   cases d1
   refine .ixa TW sizeOf122 r h9 r b6 (AH a9 b6) r r (.ld1 (j:=0) KP d0 r r r r r (.kn 1 [12,9,0] r (.seq ?_)))
   obtain ⟨b7,T,d2,d3,hd⟩:=hd
   refine .bankO .p3 d3 fun ⟨i0,i1,i2,i3,i4,i5,i6,i7,i8,i9,j0⟩ ⟨j1,j2,j3,j4,j5⟩=>?_
   refine .rn 7 r (.sub (E':=[(0,_),(9,_),(12,.pointer (some ⟨b7,0,none⟩))]) ⟨r,r,(by rw [d2]; rfl),trivial⟩ (.dr [0,1,2,3,4,5,6,7,8,9,10] 11 (.fk 3 r (.h r (fun _=>.lo isAgg124 .z r .mk) (.fk 1 r (.h r (fun _=>.lo isAgg191 .p3 r .mk) (.fk 1 r (.h r (fun _=>.lo BF .p3 r .mk) (.h r (fun _=>.build dI kS kN (.c r r r (.o r) (.c r r r (.o r) .n)) (by exact ⟨⟨_,_,r,r,r⟩,⟨⟨_,_,r,r,r⟩,trivial⟩⟩) r r .mk) ?_)))))))))
   refine .fk 1 r (.h r (fun _=>.lo isAgg54 .p3 r .mk) (.e2 11 (.updM (k:=({ kind:=S.1.Kind,stage:=S.1.Round }:BC)) (El:=(NN BV)) (ag:=false) (v:=S.1.Triples) oS oU .p1 r r r ⟨[.slice h6 S.1.Triples.length h7],⟨_,_,r,h8⟩,.s⟩ (.bankC (B:=AG) (i0,i1,i2,i3,i4,i5,i6,i7,i8,i9,j0) ({ i:=T.i,j:=T.j,mask:=T.mask,out:=T.out,parts:=(EO ({ kind:=S.1.Kind,stage:=S.1.Round }:BC) S.1.Triples T.parts),at_:=T.at_,has:=T.has }:AA) ⟨j1,j2,j3,j4,j5⟩ (.o [0,0,0] r) (.no [12,0] r (.drop .p1 (.seq (.block (.lp hd [12,0] [1,1,1] r (fun j E l a5=>j E (BQ AG a5 :: l)) (ji rf [0,0,0,0] r) ?_)))))))))
   refine fun a5 o3 hd=>jq r fun j6 Y=>?_
   obtain ⟨d4,d,e,g,m,q⟩:=Y.u6 a8 d e g m q
   obtain ⟨t,u,w,x,y,a⟩:=Y.u6 t u w x y a
   refine .seq (.sk 2 r ?_)
   have d5:=KF (I:=j6) (o0:=W.1) (o1:=a5) (a0:=(some b7)) (b3:=b4) (p4:=f4) (c5:=f5) (p7:=f6) (c8:=f7) (p10:=f8) (c11:=f9) (p13:=g0) (c14:=g1) (p16:=g2) (c17:=g3) (p19:=g4) (c20:=g5) (p22:=g6) (c23:=g7) (p25:=g8) (c26:=g9) (p28:=h0) (c29:=h1) (p31:=h2) (c32:=h3) (p34:=h4) (c35:=h5) (b38:=b39) d e g m q t u w x y a hd
   refine .callS (.f call154 r) (.o [1,1,0] r) d5 r r fun q9 r0 r1 Z d6=>?_
   obtain ⟨b8,rfl,rfl,hd⟩:=d6
   obtain ⟨d7,d8,d,e,g,m⟩:=Z.u6 d4 Y d e g m
   obtain ⟨q,t,u,w,x,y⟩:=Z.u6 q t u w x y
   have a:=Z.u1 a
   refine .rn 4 r (.no [45,12,0] r (.condP r hd (fun d9 hd=>?_) fun d9 hd=>?_))
   · exact .sn [12,0] r (.block (.skip' (je b8.2 hd d8 [2,0,0,0] r)))
   exact .en [0] r (.sr (.kn 1 [8,0] r (.q1 results84 d7 [0,0,0,0] r ⟨(true,W.1,b8.2,W.2),_,_,_,_,_,_,_,_,_,_,_,_,_,_,_,_,_,_,_,_,_,_,r,d,e,g,m,q,t,u,w,x,y,a,r,hd⟩)))
 obtain ⟨X,j7,j8,j9,k0,k1,k2,k3,k4,k5,k6,k7,k8,k9,l0,l1,l2,l3,l4,l5,l6,l7,l8,rfl,C,D,F,G,H,J,K,L,N,O,b,rfl,hd⟩:=V
 obtain ⟨R7,R10,R13,R16,R19,R22⟩:=R.u6 R7 R10 R13 R16 R19 R22
 obtain ⟨R25,R28,R31,R34,R37⟩:=R.u5 R25 R28 R31 R34 R37
 refine .rn 4 r (.ks 1 r ?_)
 have e0:=bZ (I:=b5) (o0:=X.2.2) (a0:=X.1) (a1:=a2) hd
 refine .callS (.f call153 r) (.o [3] r) e0 r r fun r2 r3 r4 b0 e1=>?_
 obtain ⟨P,r5,r6,r7,r8,l9,m0,rfl,r9,s0,m1,rfl,hd⟩:=e1
 obtain ⟨b1,C,D,F,G,H⟩:=b0.u6 R C D F G H
 obtain ⟨J,K,L,N,O,b⟩:=b0.u6 J K L N O b
 refine .rn 4 r (.ks 4 r (.al TY r fun s1=>?_))
 refine .sa FN .z r (.kn 2 [10,9,2,0] r (.seq (.sr (.kn 2 [24,9,2,0] r (.condP r hd (fun e3 hd=>?_) fun e3 hd=>?_)))))
 · exact .sr (.kn 1 [8,0] r (.drop .z (.q1 results84 b1 [1,1,1,0] r ⟨(false,X.2.1,o1,P.2.2.2),_,_,_,_,_,_,_,_,_,_,_,_,_,_,_,_,_,_,_,_,_,_,r,C,D,F,G,H,J,K,L,N,O,b,r,hd⟩)))
 refine .sn [9,2,0] r (.sk 3 r (.lo isAgg119 .p2 r (.ks 1 r ?_)))
 obtain ⟨b9,s2,b2,hd⟩:=hd
 obtain ⟨s3,o527,o6,m2,e4,e5⟩:=b.2 _ _ b2
 cases e5
 refine .ixa TW sizeOf122 r m2 r b9 (AH b2 b9) r r (.ld1 (j:=0) KP e4 r r r r r (.kn 1 [12,9,0] r (.seq ?_)))
 obtain ⟨c0,U,e6,e7,hd⟩:=hd
 refine .bankO .p4 e7 fun ⟨m3,m4,m5,m6,m7,m8,m9,n0,n1,n2,n3⟩ ⟨n4,n5,n6,n7,n8⟩=>?_
 refine .rn 7 r (.sub (E':=[(0,_),(9,_),(12,.pointer (some ⟨c0,0,none⟩))]) ⟨r,r,(by rw [e6]; rfl),trivial⟩ (.dr [0,1,2,3,4,5,6,7,8,9,10] 11 (.fk 3 r (.h r (fun _=>.lo isAgg124 .z r .mk) (.fk 1 r (.h r (fun _=>.lo isAgg191 .p3 r .mk) (.fk 1 r (.h r (fun _=>.lo BF .p3 r .mk) (.h r (fun _=>.build dI kS kN (.c r r r (.o r) (.c r r r (.o r) .n)) (by exact ⟨⟨_,_,r,r,r⟩,⟨⟨_,_,r,r,r⟩,trivial⟩⟩) r r .mk) ?_)))))))))
 refine .fk 1 r (.h r (fun _=>.lo isAgg54 .p3 r .mk) (.e2 11 (.updM (k:=({ kind:=P.1.Kind,stage:=P.1.Round }:BC)) (El:=(NN BV)) (ag:=false) (v:=P.1.Triples) oS oU .p1 r r r ⟨[.slice l9 P.1.Triples.length m0],⟨_,_,r,m1⟩,.s⟩ (.bankC (B:=AG) (m3,m4,m5,m6,m7,m8,m9,n0,n1,n2,n3) ({ i:=U.i,j:=U.j,mask:=U.mask,out:=U.out,parts:=(EO ({ kind:=P.1.Kind,stage:=P.1.Round }:BC) P.1.Triples U.parts),at_:=U.at_,has:=U.has }:AA) ⟨n4,n5,n6,n7,n8⟩ (.o [0,0,0] r) (.no [12,0] r (.drop .p1 (.seq (.block (.lp hd [12,0] [2,2,1] r (fun j E l a6=>j E (BQ AG a6 :: l)) (ji rf [0,1,1,0] r) ?_)))))))))
 refine fun a6 o4 hd=>jq r fun n9 a3=>?_
 obtain ⟨e8,C,D,F,G,H⟩:=a3.u6 b1 C D F G H
 obtain ⟨J,K,L,N,O,b⟩:=a3.u6 J K L N O b
 refine .seq (.sk 2 r ?_)
 have e9:=KF (I:=n9) (o0:=X.2.1) (o1:=a6) (a0:=(some c0)) (b3:=b4) (p4:=j7) (c5:=j8) (p7:=j9) (c8:=k0) (p10:=k1) (c11:=k2) (p13:=k3) (c14:=k4) (p16:=k5) (c17:=k6) (p19:=k7) (c20:=k8) (p22:=k9) (c23:=l0) (p25:=l1) (c26:=l2) (p28:=l3) (c29:=l4) (p31:=l5) (c32:=l6) (p34:=l7) (c35:=l8) (b38:=b39) C D F G H J K L N O b hd
 refine .callS (.f call154 r) (.o [1,1,0] r) e9 r r fun s4 s5 s6 a4 f0=>?_
 obtain ⟨c1,rfl,rfl,hd⟩:=f0
 obtain ⟨f1,f2,C,D,F,G⟩:=a4.u6 e8 a3 C D F G
 obtain ⟨H,J,K,L,N,O⟩:=a4.u6 H J K L N O
 have b:=a4.u1 b
 refine .rn 4 r (.no [45,12,0] r (.condP r hd (fun f3 hd=>?_) fun f3 hd=>?_))
 · exact .sn [12,0] r (.block (.skip' (je c1.2 hd f2 [2,0,0,0] r)))
 exact .en [0] r (.sr (.kn 1 [8,0] r (.q1 results84 f1 [0,0,0,0] r ⟨(true,X.2.1,c1.2,P.2.2.2),_,_,_,_,_,_,_,_,_,_,_,_,_,_,_,_,_,_,_,_,_,_,r,C,D,F,G,H,J,K,L,N,O,b,r,hd⟩)))
theorem aL (hd:VJ ) :
  Fun prog 157 #[.pointer none] I [] (fun _ _ _=>False):=by
 refine Fun.en func157 ntmps157 r fun w0 M=>?_
 refine .sr (.kn 1 [0] r (.seq (.dr [0,1,2,3,4,5,6,7,8,9] 10 (.fk 1 r ?_))))
 exact hd.elim
theorem OX {a0:Int} {Q:Int→Prop} (hd:HR a0 Q) :
  Fun prog 86 #[.pointer none,.int .i64 a0] I [] (fun I_ v l=>∃ r,v=.int .i64 r∧l=[]∧Q r):=by
 refine Fun.en func86 ntmps86 r fun w0 M=>?_
 refine .sr (.kn 1 [1,0] r (.seq (.sk 2 r ?_)))
 have g:=ON (I:=I) (a0:=a0) hd
 refine .callS (.f call156 r) .n g r r fun k h m a b=>?_
 obtain ⟨i,rfl,rfl,hd⟩:=b
 refine .rn 0 r (.ks 1 r (.nk [5,1,0] 2 r (.no [10,5,1,0] r (.condP r hd (fun c hd=>?_) fun c hd=>?_))))
 · exact .sr (.kn 2 [4] r (.q1 results86 a [] r ⟨i,r,r,hd⟩))
 refine .sn [1,0] r (.seq (.sk 1 r ?_))
 have d:=aL (I:=h)  hd
 refine .callS (.f call157 r) .n d r r fun o p q j e=>?_
 exact e.elim
theorem XW {o0:AF} {a0:Int} {Q:(Int×AF)→Prop} (hd:HS o0 a0 Q) :
  Fun prog 86 #[.pointer (some ⟨b2,0,none⟩),.int .i64 a0] I [pto b2 (.cells #[.int .i64 o0.room,.slice p3 o0.row.length c4,.map (some b8),.map (some b10),.int .i64 o0.sent,.int .i64 o0.taken] 213 (0,0)),OwnSl AE 3 p3 c4 o0.row,OwnMap (Value.int .i64) DQ true b8 o0.by_,OwnMap (Value.int .i64) AE false b10 o0.often] (fun I_ v l=>∃ r p12 c13,v=.int .i64 r.1∧l=[pto b2 (.cells #[.int .i64 r.2.room,.slice p12 r.2.row.length c13,.map (some b8),.map (some b10),.int .i64 r.2.sent,.int .i64 r.2.taken] 213 (0,0)),OwnSl AE 3 p12 c13 r.2.row,OwnMap (Value.int .i64) DQ true b8 r.2.by_,OwnMap (Value.int .i64) AE false b10 r.2.often]∧Q r):=by
 refine Fun.en func86 ntmps86 r fun w0 M=>?_
 refine .sr (.kn 1 [1,0] r (.seq (.sk 2 r ?_)))
 have e:=OO (I:=I) (o0:=o0) (a0:=a0) (b2:=b2) (p3:=p3) (c4:=c4) (b8:=b8) (b10:=b10) hd
 refine .callS (.f call156 r) (.o [0,0,0,0] r) e r r fun D u E b g=>?_
 obtain ⟨w,rfl,rfl,hd⟩:=g
 refine .rn 4 r (.ks 1 r (.nk [5,1,0] 2 r (.no [10,5,1,0] r (.condP r hd (fun h hd=>?_) fun h hd=>?_))))
 · exact .sr (.kn 2 [4,0] r (.q1 results86 b [0,0,0,0] r ⟨(w,o0),_,_,r,r,hd⟩))
 refine .sn [1,0] r (.seq (.sk 1 r ?_))
 have i:=RO (I:=u) (o0:=o0) (b2:=b2) (p3:=p3) (c4:=c4) (b8:=b8) (b10:=b10) hd
 refine .callS (.f call157 r) (.o [0,0,0,0] r) i r r fun F x G k m=>?_
 obtain ⟨H,rfl,rfl,hd⟩:=m
 have c:=k.u1 b
 refine .rn 4 r (.no [13,1,0] r (.condP r hd (fun n hd=>?_) fun n hd=>?_))
 · exact .sr (.kn 1 [4,0] r (.q1 results86 c [0,0,0,0] r ⟨(9,o0),_,_,r,r,hd⟩))
 refine .sn [1,0] r (.sk 4 r (.lo GS .z r (.ks 1 r ?_)))
 obtain ⟨d,y,a,hd⟩:=hd
 refine .ownNe .p1 (DO a) fun A B=>?_
 cases B
 refine .ixa0 BT EX r r d (AH a d) r r (.lo1 (j:=0) BF .p1 a r r r r r ?_)
 have p:=UO (I:=x) (o0:=o0) (a0:=y) (b2:=b2) (p3:=some ⟨A,0,none⟩) (c4:=c4) (b8:=b8) (b10:=b10) hd
 refine .callS (.f call158 r) (.o [0,0,0,0] r) p r r fun J K L q s=>?_
 obtain ⟨C,N,O,rfl,rfl,hd⟩:=s
 have t:=q.u1 c
 exact .rn 4 r (.nk [0] 1 r (.no [4,0] r (.q1 results86 t [0,0,0,0] r ⟨(0,C),_,_,r,r,hd⟩)))
theorem Z4 {o0:List (Nat×AF)} {a0:Option Nat} {a1:Int} {Q:(Int×(List (Nat×AF)))→Prop} (hd:MO o0 a0 a1 Q) :
  Fun prog 86 #[.pointer (mkA a0),.int .i64 a1] I [BQ BD o0] (fun I_ v l=>∃ r,v=.int .i64 r.1∧l=[BQ BD r.2]∧Q r):=by
 rcases a0 with _ | b
 · have hd:=hd.1 r
   refine (Fun.frame (r:=[BQ BD o0]) (OX  hd)).conseq fun I_ v l hle h=>?_
   obtain ⟨d,rfl,rr,rfl,rfl,hq⟩:=h
   exact ⟨(rr,o0),r,r,hq⟩
 obtain ⟨x,hx,hd⟩:=hd.2 b rfl
 refine Fun.bank hx (fun aa _=>XW (b2:=b) (p3:=aa.1) (c4:=aa.2.1) (b8:=aa.2.2.1) (b10:=aa.2.2.2)  hd) ?_
 rintro aa I_ v l hle ⟨rr,a,c,rfl,rfl,hq⟩
 exact ⟨(a,c,aa.2.2.1,aa.2.2.2),rr.2,[],r,trivial,(rr.1,(b,rr.2) :: CM b o0),r,r,hq⟩
theorem RQ {a0:Int} {Q:Int→Prop} (hd:KB a0 Q) :
  Fun prog 87 #[.pointer none,.int .i64 a0] I [] (fun I_ v l=>∃ r,v=.int .i64 r∧l=[]∧Q r):=by
 refine Fun.en func87 ntmps87 r fun w0 M=>?_
 refine .sr (.kn 1 [1,0] r (.seq (.sk 2 r ?_)))
 have d:=ON (I:=I) (a0:=a0) hd
 refine .callS (.f call156 r) .n d r r fun g h i a b=>?_
 obtain ⟨e,rfl,rfl,hd⟩:=b
 refine .rn 0 r (.ks 1 r (.nk [5,1,0] 2 r (.no [11,5,1,0] r (.condP r hd (fun c hd=>?_) fun c hd=>?_))))
 · exact .sr (.kn 2 [4] r (.q1 results87 a [] r ⟨e,r,r,hd⟩))
 refine .sn [1,0] r (.sk 1 r ?_)
 exact hd.elim
theorem aM {o0:AF} {a0:Int} {Q:(Int×AF)→Prop} (hd:KC o0 a0 Q) :
  Fun prog 87 #[.pointer (some ⟨b2,0,none⟩),.int .i64 a0] I [pto b2 (.cells #[.int .i64 o0.room,.slice p3 o0.row.length c4,.map (some b8),.map (some b10),.int .i64 o0.sent,.int .i64 o0.taken] 213 (0,0)),OwnSl AE 3 p3 c4 o0.row,OwnMap (Value.int .i64) DQ true b8 o0.by_,OwnMap (Value.int .i64) AE false b10 o0.often] (fun I_ v l=>∃ r p12 c13,v=.int .i64 r.1∧l=[pto b2 (.cells #[.int .i64 r.2.room,.slice p12 r.2.row.length c13,.map (some b8),.map (some b10),.int .i64 r.2.sent,.int .i64 r.2.taken] 213 (0,0)),OwnSl AE 3 p12 c13 r.2.row,OwnMap (Value.int .i64) DQ true b8 r.2.by_,OwnMap (Value.int .i64) AE false b10 r.2.often]∧Q r):=by
 refine Fun.en func87 ntmps87 r fun w0 M=>?_
 refine .sr (.kn 1 [1,0] r (.seq (.sk 2 r ?_)))
 have g:=OO (I:=I) (o0:=o0) (a0:=a0) (b2:=b2) (p3:=p3) (c4:=c4) (b8:=b8) (b10:=b10) hd
 refine .callS (.f call156 r) (.o [0,0,0,0] r) g r r fun A t B b h=>?_
 obtain ⟨u,rfl,rfl,hd⟩:=h
 refine .rn 4 r (.ks 1 r (.nk [5,1,0] 2 r (.no [11,5,1,0] r (.condP r hd (fun i hd=>?_) fun i hd=>?_))))
 · exact .sr (.kn 2 [4,0] r (.q1 results87 b [0,0,0,0] r ⟨(u,o0),_,_,r,r,hd⟩))
 refine .sn [1,0] r (.sk 3 r (.lo GS .z r (.ks 1 r ?_)))
 obtain ⟨d,e,a,hd⟩:=hd
 refine .ownNe .p1 (DO a) fun w x=>?_
 cases x
 refine .ixa0 BT EX r r d (AH a d) r r (.lo1 (j:=0) BF .p1 a r r r r r (.ks 1 r (.nk [6,1,0] 4 r (.lo GS .z r (.ks 3 r ?_)))))
 have k:=KE (I:=t) (o0:=o0.row) (a0:=a0) (a1:=(AJ (a0+1))) (p2:=some ⟨w,0,none⟩) (c3:=c4) hd
 refine .callS (.f call159 r) (.o [1] r) k r r fun C D E m p=>?_
 obtain ⟨y,rfl,rfl,hd⟩:=p
 have q:=m.u1 b
 refine .rn 4 r (.ks 1 r (.buildSlice 1 BT EX nL r r (.c r r r .n) r r fun F=>?_))
 obtain ⟨s,hd⟩:=hd
 refine .append (ys:=[e]) 8 .p1 BT BT IN3 r r r r r r r r r (.box .z (.one r) r) s r r fun G H=>?_
 exact .ks 2 r (.s1 iO .p2 r (.no [0] r (.drop .p1 (.sr (.kn 1 [4,0] r (.q1 results87 q [1,0,0,0] r ⟨(0,({ room:=o0.room,row:=(y++([e])),by_:=o0.by_,often:=o0.often,sent:=o0.sent,taken:=o0.taken }:AF)),_,_,r,r,hd⟩))))))
theorem cC {o0:List (Nat×AF)} {a0:Option Nat} {a1:Int} {Q:(Int×(List (Nat×AF)))→Prop} (hd:PJ o0 a0 a1 Q) :
  Fun prog 87 #[.pointer (mkA a0),.int .i64 a1] I [BQ BD o0] (fun I_ v l=>∃ r,v=.int .i64 r.1∧l=[BQ BD r.2]∧Q r):=by
 rcases a0 with _ | b
 · have hd:=hd.1 r
   refine (Fun.frame (r:=[BQ BD o0]) (RQ  hd)).conseq fun I_ v l hle h=>?_
   obtain ⟨d,rfl,rr,rfl,rfl,hq⟩:=h
   exact ⟨(rr,o0),r,r,hq⟩
 obtain ⟨x,hx,hd⟩:=hd.2 b rfl
 refine Fun.bank hx (fun aa _=>aM (b2:=b) (p3:=aa.1) (c4:=aa.2.1) (b8:=aa.2.2.1) (b10:=aa.2.2.2)  hd) ?_
 rintro aa I_ v l hle ⟨rr,a,c,rfl,rfl,hq⟩
 exact ⟨(a,c,aa.2.2.1,aa.2.2.2),rr.2,[],r,trivial,(rr.1,(b,rr.2) :: CM b o0),r,r,hq⟩
theorem UP {o0:AF} {Q:Int→Prop} (hd:HY o0 Q) :
  Fun prog 97 #[.pointer (some ⟨b2,0,none⟩)] I [pto b2 (.cells #[.int .i64 o0.room,.slice p3 o0.row.length c4,.map (some b8),.map (some b10),.int .i64 o0.sent,.int .i64 o0.taken] 213 (0,0)),OwnSl AE 3 p3 c4 o0.row,OwnMap (Value.int .i64) DQ true b8 o0.by_,OwnMap (Value.int .i64) AE false b10 o0.often] (fun I_ v l=>∃ r,v=.int .i64 r∧l=[pto b2 (.cells #[.int .i64 o0.room,.slice p3 o0.row.length c4,.map (some b8),.map (some b10),.int .i64 o0.sent,.int .i64 o0.taken] 213 (0,0)),OwnSl AE 3 p3 c4 o0.row,OwnMap (Value.int .i64) DQ true b8 o0.by_,OwnMap (Value.int .i64) AE false b10 o0.often]∧Q r):=by
 refine Fun.en func97 ntmps97 r fun w0 M=>?_
 refine .sr (.kn 1 [0] r (.seq (.sk 1 r (.eqNilP kQ r r r r (.no [4,0] r (.condKF r r (.sn [0] r (.sk 3 r (.lo GS .z r ?_)))))))))
 exact .ln BT r (.kn 1 [2,0] r (.q1 results97 rf [0,0,0,0] r ⟨(o0.row.length:Int),r,r,hd⟩))
theorem UQ {Q:Int→Prop} (hd:PK Q) :
  Fun prog 97 #[.pointer none] I [] (fun I_ v l=>∃ r,v=.int .i64 r∧l=[]∧Q r):=by
 refine Fun.en func97 ntmps97 r fun w0 M=>?_
 exact .sr (.kn 1 [0] r (.seq (.sk 1 r (.eqNilP kQ r r r r (.no [4,0] r (.condKT r r (.sr (.kn 1 [2] r (.q1 results97 rf [] r ⟨0,r,r,hd⟩)))))))))
theorem VT {o0:List (Nat×AF)} {a0:Option Nat} {Q:Int→Prop} (hd:GZ o0 a0 Q) :
  Fun prog 97 #[.pointer (mkA a0)] I [BQ BD o0] (fun I_ v l=>∃ r,v=.int .i64 r∧l=[BQ BD o0]∧Q r):=by
 rcases a0 with _ | b
 · have hd:=hd.1 r
   refine (Fun.frame (r:=[BQ BD o0]) (UQ  hd)).conseq fun I_ v l hle h=>?_
   obtain ⟨a,rfl,rr,rfl,rfl,hq⟩:=h
   exact ⟨rr,r,r,hq⟩
 obtain ⟨x,hx,hd⟩:=hd.2 b rfl
 refine Fun.bankR hx (fun aa _=>UP (b2:=b) (p3:=aa.1) (c4:=aa.2.1) (b8:=aa.2.2.1) (b10:=aa.2.2.2)  hd) ?_
 rintro aa I_ v l hle hf ⟨rr,rfl,rfl,hq⟩
 exact ⟨(aa.1,aa.2.1,aa.2.2.1,aa.2.2.2),[],r,trivial,rr,r,r,hq⟩
theorem WU {o0 a0:Int} {Q:Bool→Prop} (hd:JQ o0 a0 Q) :
  Fun prog 203 #[.int .i64 a0,.pointer (some ⟨b2,0,none⟩)] I [pto b2 (.cells #[.int .i64 o0] 3 (0,0))] (fun I_ v l=>∃ r,v=.bool r∧l=[pto b2 (.cells #[.int .i64 o0] 3 (0,0))]∧Q r):=by
 refine Fun.en func203 ntmps203 r fun w0 M=>?_
 exact .sk 1 r (.nk [1,0] 1 r (.lo BF .z r (.kn 2 [3,1] r (.q1 results203 rf [0] r ⟨(a0==o0),r,r,hd⟩))))
theorem PS {o0:List Int} {o1:Int} {Q:Int→Prop} (hd:EI o0 o1 Q) :
  Fun prog 202 #[.slice p3 o0.length c4,.func (.func 203) #[] #[.pointer (some ⟨b5,0,none⟩)]] I [OwnSl AE 3 p3 c4 o0,pto b5 (.cells #[.int .i64 o1] 3 (0,0))] (fun I_ v l=>∃ r,v=.int .i64 r∧l=[OwnSl AE 3 p3 c4 o0,pto b5 (.cells #[.int .i64 o1] 3 (0,0))]∧Q r):=by
 refine Fun.en func202 ntmps202 r fun w0 M=>?_
 refine .sr (.kn 1 [1,0] r (.seq (.sk 1 r (.ln BT r (.kn 1 [8,7,1,0] r (.block (.lp hd [7,1,0] [0,0] r (fun j E l b=>j ((8,.int .i64 b) :: E) l) (ji rf [0,0] r) ?_)))))))
 refine fun b n hd=>jq r fun p d=>?_
 refine .sr (.kn 1 [9,8,7,1,0] r (.seq (.condP r hd (fun g hd=>?_) fun g hd=>?_)))
 · refine .sn [8,7,1,0] r (.seq (.block (.sk 2 r (.nk [5,8,7,1,0] 3 r ?_))))
   obtain ⟨f,q,a,hd⟩:=hd
   refine .ownNe .z (DO a) fun t s=>?_
   cases s
   refine .ixa0 BT EX r r f (AH a f) r r (.lo1 (j:=0) BF .z a r r r r r ?_)
   have h:=WU (I:=p) (o0:=o1) (a0:=q) (b2:=b5) hd
   refine .callS (.c call203 r r) (.o [1] r) h r r fun u w x i k=>?_
   obtain ⟨y,rfl,rfl,hd⟩:=k
   have e:=i.u1 d
   refine .rn 2 r (.no [16,5,8,7,1,0] r (.condP r hd (fun m hd=>?_) fun m hd=>?_))
   · exact .sr (.kn 2 [4,1,0] r (.q1 results202 e [1,0] r ⟨b,r,r,hd⟩))
   exact .sn [8,7,1,0] r (.region (.ks 2 r (.nil' (je (AJ (b+1)) hd e [1,0] r))))
 exact .en [1,0] r (.sr (.kn 1 [4,1,0] r (.q1 results202 d [0,0] r ⟨(-1),r,r,hd⟩)))
theorem XX {o0:AF} {Q:Int→Prop} (hd:HT o0 Q) :
  Fun prog 130 #[.pointer (some ⟨b2,0,none⟩)] I [pto b2 (.cells #[.int .i64 o0.room,.slice p3 o0.row.length c4,.map (some b8),.map (some b10),.int .i64 o0.sent,.int .i64 o0.taken] 213 (0,0)),OwnSl AE 3 p3 c4 o0.row,OwnMap (Value.int .i64) DQ true b8 o0.by_,OwnMap (Value.int .i64) AE false b10 o0.often] (fun I_ v l=>∃ r,v=.int .i64 r∧l=[pto b2 (.cells #[.int .i64 o0.room,.slice p3 o0.row.length c4,.map (some b8),.map (some b10),.int .i64 o0.sent,.int .i64 o0.taken] 213 (0,0)),OwnSl AE 3 p3 c4 o0.row,OwnMap (Value.int .i64) DQ true b8 o0.by_,OwnMap (Value.int .i64) AE false b10 o0.often]∧Q r):=by
 refine Fun.en func130 ntmps130 r fun w0 M=>?_
 refine .sr (.kn 1 [0] r (.seq (.sk 1 r ?_)))
 have c:=UP (I:=I) (o0:=o0) (b2:=b2) (p3:=p3) (c4:=c4) (b8:=b8) (b10:=b10) hd
 refine .callS (.f call97 r) (.o [0,0,0,0] r) c r r fun s b t a d=>?_
 obtain ⟨u,rfl,rfl,hd⟩:=d
 refine .rn 4 r (.kn 1 [6,0] r (.condP r hd (fun e hd=>?_) fun e hd=>?_))
 · exact .sr (.kn 1 [2,0] r (.q1 results130 a [0,0,0,0] r ⟨(-1),r,r,hd⟩))
 refine .sn [0] r (.sk 3 r (.lo GS .z r ?_))
 have g:=fun (J:IH) (hJ:IH.le b J) (hL:V7 J [OwnSl AE 3 p3 c4 o0.row])=>Z2 (I:=J) (Ad7 hL.1) hd
 refine .callB (.f call201 r) (.o [1] r) g r r fun w _ h=>?_
 obtain ⟨n,rfl,hd⟩:=h
 refine .alloc1 nL r r r fun p=>?_
 refine .s1 EX .z r (.nk [3,0] 3 r (.lo GS .p1 r (.mkFn r r r r ?_)))
 have i:=PS (I:=b) (o0:=o0.row) (o1:=n) (p3:=p3) (c4:=c4) (b5:=p) hd
 refine .callS (.f call202 r) (.o [2,0] r) i r r fun x y A j k=>?_
 obtain ⟨q,rfl,rfl,hd⟩:=k
 have m:=j.u1 a
 exact .rn 5 r (.kn 1 [2,0] r (.drop .p1 (.q1 results130 m [1,0,0,0] r ⟨q,r,r,hd⟩)))
theorem XY {Q:Int→Prop} (hd:RH Q) :
  Fun prog 130 #[.pointer none] I [] (fun I_ v l=>∃ r,v=.int .i64 r∧l=[]∧Q r):=by
 refine Fun.en func130 ntmps130 r fun w0 M=>?_
 refine .sr (.kn 1 [0] r (.seq (.sk 1 r ?_)))
 have d:=UQ (I:=I)  hd
 refine .callS (.f call97 r) .n d r r fun e g h a b=>?_
 obtain ⟨i,rfl,rfl,hd⟩:=b
 refine .rn 0 r (.kn 1 [6,0] r (.condP r hd (fun c hd=>?_) fun c hd=>?_))
 · exact .sr (.kn 1 [2] r (.q1 results130 a [] r ⟨(-1),r,r,hd⟩))
 refine .sn [0] r (.sk 1 r ?_)
 exact hd.elim
theorem Z5 {o0:List (Nat×AF)} {a0:Option Nat} {Q:Int→Prop} (hd:JB o0 a0 Q) :
  Fun prog 130 #[.pointer (mkA a0)] I [BQ BD o0] (fun I_ v l=>∃ r,v=.int .i64 r∧l=[BQ BD o0]∧Q r):=by
 rcases a0 with _ | b
 · have hd:=hd.1 r
   refine (Fun.frame (r:=[BQ BD o0]) (XY  hd)).conseq fun I_ v l hle h=>?_
   obtain ⟨a,rfl,rr,rfl,rfl,hq⟩:=h
   exact ⟨rr,r,r,hq⟩
 obtain ⟨x,hx,hd⟩:=hd.2 b rfl
 refine Fun.bankR hx (fun aa _=>XX (b2:=b) (p3:=aa.1) (c4:=aa.2.1) (b8:=aa.2.2.1) (b10:=aa.2.2.2)  hd) ?_
 rintro aa I_ v l hle hf ⟨rr,rfl,rfl,hq⟩
 exact ⟨(aa.1,aa.2.1,aa.2.2.1,aa.2.2.2),[],r,trivial,rr,r,r,hq⟩
theorem KS {o0:AC} {o1:List (Nat×AA)} {o2:List (Nat×AF)} {Q:(Bool×AC×(List (Nat×AA))×(List (Nat×AF)))→Prop} (R7:RepSl AE I p5 c6 o0.p.A.Start) (R10:RepSl AE I p8 c9 o0.p.A.Col) (R13:RepSl AE I p11 c12 o0.p.A.Val) (R16:RepSl AE I p14 c15 o0.p.B.Start) (R19:RepSl AE I p17 c18 o0.p.B.Col) (R22:RepSl AE I p20 c21 o0.p.B.Val) (R25:RepSl AE I p23 c24 o0.p.Mask.Start) (R28:RepSl AE I p26 c27 o0.p.Mask.Col) (R31:RepSl AE I p29 c30 o0.p.Mask.Val) (R34:RepSl CB I p32 c33 o0.stages) (R37:RepSl CV I p35 c36 o0.workers) (hd:EG o0 o1 o2 Q) :
  Fun prog 63 #[.pointer (some ⟨b4,0,none⟩)] I [pto b4 (.cells (AZ o0 p5 c6 p8 c9 p11 c12 p14 c15 p17 c18 p20 c21 p23 c24 p26 c27 p29 c30 p32 c33 p35 c36 b39) 121 (0,0)),OwnMap CU CV false b39 o0.boxes,BQ AG o1,BQ BD o2] (fun I_ v l=>∃ r p41 c42 p44 c45 p47 c48 p50 c51 p53 c54 p56 c57 p59 c60 p62 c63 p65 c66 p68 c69 p71 c72,v=.bool r.1∧RepSl AE I_ p41 c42 r.2.1.p.A.Start∧RepSl AE I_ p44 c45 r.2.1.p.A.Col∧RepSl AE I_ p47 c48 r.2.1.p.A.Val∧RepSl AE I_ p50 c51 r.2.1.p.B.Start∧RepSl AE I_ p53 c54 r.2.1.p.B.Col∧RepSl AE I_ p56 c57 r.2.1.p.B.Val∧RepSl AE I_ p59 c60 r.2.1.p.Mask.Start∧RepSl AE I_ p62 c63 r.2.1.p.Mask.Col∧RepSl AE I_ p65 c66 r.2.1.p.Mask.Val∧RepSl CB I_ p68 c69 r.2.1.stages∧RepSl CV I_ p71 c72 r.2.1.workers∧l=[pto b4 (.cells (AZ r.2.1 p41 c42 p44 c45 p47 c48 p50 c51 p53 c54 p56 c57 p59 c60 p62 c63 p65 c66 p68 c69 p71 c72 b39) 121 (0,0)),OwnMap CU CV false b39 r.2.1.boxes,BQ AG r.2.2.1,BQ BD r.2.2.2]∧Q r):=by
 refine Fun.en func63 ntmps63 r fun w0 M=>?_
 refine .sk 1 r (.nk [0] 1 r (.no [3,0] r (.seq (.sk 3 r (.lo isAgg119 .z r (.ln TW r (.kn 1 [14,13,3,0] r (.block (.lx hd [13,0] [] r (fun j E l (p7,p9,q0,g4,g5,g6,q2,q3,g7,g8,g9,q4,q5,h0,h1,h2,q6,q7,q8,h3,h4,q9,r0,f8,r1,r2)=>fun c w=>∃ h5 h6 h7 h8 h9 i0 i1 i2 i3 i4 i5 i6 i7 i8 i9 j0 j1 j2 j3 j4 j5 j6,j ⟨66,[],none⟩ (fun I_=>RepSl AE I_ h5 h6 g4∧RepSl AE I_ h7 h8 g5∧RepSl AE I_ h9 i0 g6∧RepSl AE I_ i1 i2 g7∧RepSl AE I_ i3 i4 g8∧RepSl AE I_ i5 i6 g9∧RepSl AE I_ i7 i8 h0∧RepSl AE I_ i9 j0 h1∧RepSl AE I_ j1 j2 h2∧RepSl CB I_ j3 j4 h3∧RepSl CV I_ j5 j6 h4) ((3,.bool r0) :: (14,.int .i64 f8) :: E) (pto b4 (.cells #[.int .i64 p7,.int .i64 p9,.int .i64 q0,.slice h5 g4.length h6,.slice h7 g5.length h8,.slice h9 g6.length i0,.int .i64 q2,.int .i64 q3,.slice i1 g7.length i2,.slice i3 g8.length i4,.slice i5 g9.length i6,.int .i64 q4,.int .i64 q5,.slice i7 h0.length i8,.slice i9 h1.length j0,.slice j1 h2.length j2,.int .i64 q6,.int .i64 q7,.int .i64 q8,.slice j3 h3.length j4,.slice j5 h4.length j6,.map (some b39)] 121 (0,0)) :: OwnMap CU CV false b39 q9 :: BQ AG r1 :: BQ BD r2 :: l) c w) (fun c w ho hs=>⟨_,_,_,_,_,_,_,_,_,_,_,_,_,_,_,_,_,_,_,_,_,_,jf rf ⟨R7,R10,R13,R16,R19,R22,R25,R28,R31,R34,R37⟩ [0,0,0,0] r ho hs⟩) ?_)))))))))
 rintro ⟨p7,p9,q0,g4,g5,g6,q2,q3,g7,g8,g9,q4,q5,h0,h1,h2,q6,q7,q8,h3,h4,q9,r0,f8,r1,r2⟩ x7 hd c w ⟨h5,h6,h7,h8,h9,i0,i1,i2,i3,i4,i5,i6,i7,i8,i9,j0,j1,j2,j3,j4,j5,j6,x4,r3,⟨j7,j8,j9,k0,k1,k2,k3,k4,k5,k6,k7⟩,hok,hsym⟩
 refine Cod.at hok hsym (.sr (.kn 1 [15,14,13,3,0] r (.seq (.condP r hd (fun w4 hd=>?_) fun w4 hd=>?_))))
 · refine .sn [14,13,3,0] r (.seq (.block (.sr (.kn 2 [4,14,13,3,0] r (.region (.ks 2 r ?_))))))
   have w5:=ME (I:=x4) (o0:=({ p:=({ Ring:=p7,A:=({ Rows:=p9,Cols:=q0,Start:=g4,Col:=g5,Val:=g6 }:Rows),B:=({ Rows:=q2,Cols:=q3,Start:=g7,Col:=g8,Val:=g9 }:Rows),Mask:=({ Rows:=q4,Cols:=q5,Start:=h0,Col:=h1,Val:=h2 }:Rows),R:=q6,C:=q7,Room:=q8 }:BI),stages:=h3,workers:=h4,boxes:=q9 }:AC)) (o1:=r1) (o2:=r2) (a0:=f8) (b4:=b4) (p5:=h5) (c6:=h6) (p8:=h7) (c9:=h8) (p11:=h9) (c12:=i0) (p14:=i1) (c15:=i2) (p17:=i3) (c18:=i4) (p20:=i5) (c21:=i6) (p23:=i7) (c24:=i8) (p26:=i9) (c27:=j0) (p29:=j1) (c30:=j2) (p32:=j3) (c33:=j4) (p35:=j5) (c36:=j6) (b39:=b39) j7 j8 j9 k0 k1 k2 k3 k4 k5 k6 k7 hd
   refine .callS (.f call83 r) (.o [0,0,0,0] r) w5 r r fun B4 B5 B6 r4 w6=>?_
   obtain ⟨b,B7,B8,B9,C0,C1,C2,C3,C4,C5,C6,C7,C8,C9,D0,D1,D2,D3,D4,D5,D6,D7,D8,rfl,s7,s8,s9,t0,t1,t2,t3,t4,t5,t6,t7,rfl,hd⟩:=w6
   obtain ⟨r5,j7,j8,j9,k0,k1⟩:=r4.u6 r3 j7 j8 j9 k0 k1
   obtain ⟨k2,k3,k4,k5,k6,k7⟩:=r4.u6 k2 k3 k4 k5 k6 k7
   refine .rn 4 r (.ks 1 r ?_)
   refine AQ hd (fun k8 hd=>?_) fun k8 hd=>?_
   · rw [k8]
     exact .kn 3 [3,14,13,0] r (.region (.ks 2 r (.nil' fun c w ho hs=>⟨(b.2.1.p.Ring,b.2.1.p.A.Rows,b.2.1.p.A.Cols,b.2.1.p.A.Start,b.2.1.p.A.Col,b.2.1.p.A.Val,b.2.1.p.B.Rows,b.2.1.p.B.Cols,b.2.1.p.B.Start,b.2.1.p.B.Col,b.2.1.p.B.Val,b.2.1.p.Mask.Rows,b.2.1.p.Mask.Cols,b.2.1.p.Mask.Start,b.2.1.p.Mask.Col,b.2.1.p.Mask.Val,b.2.1.p.R,b.2.1.p.C,b.2.1.p.Room,b.2.1.stages,b.2.1.workers,b.2.1.boxes,true,AJ (f8+1),b.2.2.1,b.2.2.2),hd,_,_,_,_,_,_,_,_,_,_,_,_,_,_,_,_,_,_,_,_,_,_,jf r5 ⟨s7,s8,s9,t0,t1,t2,t3,t4,t5,t6,t7⟩ [0,0,0,0] r ho hs⟩)))
   rw [k8]
   exact .kn 3 [3,14,13,0] r (.region (.ks 2 r (.nil' fun c w ho hs=>⟨(b.2.1.p.Ring,b.2.1.p.A.Rows,b.2.1.p.A.Cols,b.2.1.p.A.Start,b.2.1.p.A.Col,b.2.1.p.A.Val,b.2.1.p.B.Rows,b.2.1.p.B.Cols,b.2.1.p.B.Start,b.2.1.p.B.Col,b.2.1.p.B.Val,b.2.1.p.Mask.Rows,b.2.1.p.Mask.Cols,b.2.1.p.Mask.Start,b.2.1.p.Mask.Col,b.2.1.p.Mask.Val,b.2.1.p.R,b.2.1.p.C,b.2.1.p.Room,b.2.1.stages,b.2.1.workers,b.2.1.boxes,r0,AJ (f8+1),b.2.2.1,b.2.2.2),hd,_,_,_,_,_,_,_,_,_,_,_,_,_,_,_,_,_,_,_,_,_,_,jf r5 ⟨s7,s8,s9,t0,t1,t2,t3,t4,t5,t6,t7⟩ [0,0,0,0] r ho hs⟩)))
 refine .en [3,0] r (.seq (.sk 3 r (.lo isAgg119 .z r (.ln TW r (.kn 1 [29,28,3,0] r (.block (.lx hd [28,0] [] r (fun j E l (k9,l0,l1,W,X,Y,l2,l3,Z,a3,a4,l4,l5,a5,a6,a7,l6,l7,l8,a8,a9,l9,m0,G,m1,m2)=>fun c w=>∃ m3 m4 m5 m6 m7 m8 m9 n0 n1 n2 n3 n4 n5 n6 n7 n8 n9 o3 o4 o5 o6 o7,j ⟨66,[],none⟩ (fun I_=>RepSl AE I_ m3 m4 W∧RepSl AE I_ m5 m6 X∧RepSl AE I_ m7 m8 Y∧RepSl AE I_ m9 n0 Z∧RepSl AE I_ n1 n2 a3∧RepSl AE I_ n3 n4 a4∧RepSl AE I_ n5 n6 a5∧RepSl AE I_ n7 n8 a6∧RepSl AE I_ n9 o3 a7∧RepSl CB I_ o4 o5 a8∧RepSl CV I_ o6 o7 a9) ((3,.bool m0) :: (29,.int .i64 G) :: E) (pto b4 (.cells #[.int .i64 k9,.int .i64 l0,.int .i64 l1,.slice m3 W.length m4,.slice m5 X.length m6,.slice m7 Y.length m8,.int .i64 l2,.int .i64 l3,.slice m9 Z.length n0,.slice n1 a3.length n2,.slice n3 a4.length n4,.int .i64 l4,.int .i64 l5,.slice n5 a5.length n6,.slice n7 a6.length n8,.slice n9 a7.length o3,.int .i64 l6,.int .i64 l7,.int .i64 l8,.slice o4 a8.length o5,.slice o6 a9.length o7,.map (some b39)] 121 (0,0)) :: OwnMap CU CV false b39 l9 :: BQ AG m1 :: BQ BD m2 :: l) c w) (fun c w ho hs=>⟨_,_,_,_,_,_,_,_,_,_,_,_,_,_,_,_,_,_,_,_,_,_,jf rf ⟨j7,j8,j9,k0,k1,k2,k3,k4,k5,k6,k7⟩ [0,0,0,0] r ho hs⟩) ?_)))))))
 rintro ⟨k9,l0,l1,W,X,Y,l2,l3,Z,a3,a4,l4,l5,a5,a6,a7,l6,l7,l8,a8,a9,l9,m0,G,m1,m2⟩ x5 hd c w ⟨m3,m4,m5,m6,m7,m8,m9,n0,n1,n2,n3,n4,n5,n6,n7,n8,n9,o3,o4,o5,o6,o7,y1,p0,⟨r6,r7,r8,r9,s0,s1,s2,s3,s4,s5,s6⟩,hok,hsym⟩
 have p2:=p0.u1 r3
 refine Cod.at hok hsym (.sr (.kn 1 [30,29,28,3,0] r (.seq (.condP r hd (fun t8 hd=>?_) fun t8 hd=>?_))))
 · refine .sn [29,28,3,0] r (.seq (.block (.sk 2 r (.nk [5,29,28,3,0] 3 r (.lo isAgg119 .z r (.ln TW r (.kn 1 [37,36,5,29,28,3,0] r (.block (.lx hd [36,29,28,5,0] [] r (fun j E l (b0,b1,b2,H,J,K,b3,b5,L,N,O,b6,b7,P,S,T,b8,b9,c0,U,V,c1,o8,D,c2,F)=>fun c w=>∃ c3 c4 c5 c7 c8 d0 d1 d2 d3 d4 d5 d6 d7 d8 d9 e0 e1 e2 e3 e4 e5 e6,j ⟨66,[],none⟩ (fun I_=>RepSl AE I_ c3 c4 H∧RepSl AE I_ c5 c7 J∧RepSl AE I_ c8 d0 K∧RepSl AE I_ d1 d2 L∧RepSl AE I_ d3 d4 N∧RepSl AE I_ d5 d6 O∧RepSl AE I_ d7 d8 P∧RepSl AE I_ d9 e0 S∧RepSl AE I_ e1 e2 T∧RepSl CB I_ e3 e4 U∧RepSl CV I_ e5 e6 V) ((3,.bool o8) :: (37,.int .i64 D) :: E) (pto b4 (.cells #[.int .i64 b0,.int .i64 b1,.int .i64 b2,.slice c3 H.length c4,.slice c5 J.length c7,.slice c8 K.length d0,.int .i64 b3,.int .i64 b5,.slice d1 L.length d2,.slice d3 N.length d4,.slice d5 O.length d6,.int .i64 b6,.int .i64 b7,.slice d7 P.length d8,.slice d9 S.length e0,.slice e1 T.length e2,.int .i64 b8,.int .i64 b9,.int .i64 c0,.slice e3 U.length e4,.slice e5 V.length e6,.map (some b39)] 121 (0,0)) :: OwnMap CU CV false b39 c1 :: BQ AG c2 :: BQ BD F :: l) c w) (fun c w ho hs=>⟨_,_,_,_,_,_,_,_,_,_,_,_,_,_,_,_,_,_,_,_,_,_,jf rf ⟨r6,r7,r8,r9,s0,s1,s2,s3,s4,s5,s6⟩ [0,0,0,0] r ho hs⟩) ?_)))))))))
   rintro ⟨b0,b1,b2,H,J,K,b3,b5,L,N,O,b6,b7,P,S,T,b8,b9,c0,U,V,c1,o8,D,c2,F⟩ x6 hd c w ⟨c3,c4,c5,c7,c8,d0,d1,d2,d3,d4,d5,d6,d7,d8,d9,e0,e1,e2,e3,e4,e5,e6,w7,p3,⟨d,e,g,h,i,m,q,t,u,x,y⟩,hok,hsym⟩
   obtain ⟨t9,p4⟩:=p3.u2 p2 p0
   refine Cod.at hok hsym (.sr (.kn 1 [38,37,36,29,28,5,3,0] r (.seq (.condP r hd (fun u0 hd=>?_) fun u0 hd=>?_))))
   · refine .sn [37,36,29,28,5,3,0] r (.seq (.block (.sk 2 r (.nk [6,37,36,29,28,5,3,0] 3 r (.lo isAgg118 .z r (.ks 2 r (.buildArr LX OC EX (.c r r r (.o r) (.c r r r (.o r) .n)) r r (.lookM (k:=(G,D)) (El:=CV) (ag:=false) (zv:=.pointer none) (z:=none) WH kP zeroValue146 ⟨[.pointer none],r,.s⟩ .p1 r r hd r r fun y2 o9 x8 hd u3 u4=>?_))))))))
     cases u3
     cases u4
     refine .ks 1 r (.nk [7,6,37,36,29,28,5,3,0] 1 r ?_)
     have u5:=VT (I:=w7) (o0:=F) (a0:=o9) hd
     refine .callS (.f call97 r) (.o [3] r) u5 r r fun y3 w8 y4 f9 u7=>?_
     obtain ⟨w9,rfl,rfl,hd⟩:=u7
     obtain ⟨u8,u9,v0,d,e,g⟩:=f9.u6 t9 p4 p3 d e g
     obtain ⟨h,i,m,q,t,u⟩:=f9.u6 h i m q t u
     obtain ⟨x,y⟩:=f9.u2 x y
     refine .rn 4 r (.ks 1 r (.nk [8,7,6,37,36,29,28,5,3,0] 4 r ?_))
     have v1:=Z5 (I:=w8) (o0:=F) (a0:=o9) hd
     refine .callS (.f call130 r) (.o [0] r) v1 r r fun y5 x0 y6 g0 v2=>?_
     obtain ⟨x1,rfl,rfl,hd⟩:=v2
     obtain ⟨v3,v4,v5,d,e,g⟩:=g0.u6 u8 u9 v0 d e g
     obtain ⟨h,i,m,q,t,u⟩:=g0.u6 h i m q t u
     obtain ⟨x,y⟩:=g0.u2 x y
     refine .rn 4 r ?_
     have v6:=MF (I:=x0) (o0:=({ p:=({ Ring:=b0,A:=({ Rows:=b1,Cols:=b2,Start:=H,Col:=J,Val:=K }:Rows),B:=({ Rows:=b3,Cols:=b5,Start:=L,Col:=N,Val:=O }:Rows),Mask:=({ Rows:=b6,Cols:=b7,Start:=P,Col:=S,Val:=T }:Rows),R:=b8,C:=b9,Room:=c0 }:BI),stages:=U,workers:=V,boxes:=c1 }:AC)) (o1:=c2) (o2:=F) (a0:=G) (a1:=D) (a2:=x1) (b4:=b4) (p5:=c3) (c6:=c4) (p8:=c5) (c9:=c7) (p11:=c8) (c12:=d0) (p14:=d1) (c15:=d2) (p17:=d3) (c18:=d4) (p20:=d5) (c21:=d6) (p23:=d7) (c24:=d8) (p26:=d9) (c27:=e0) (p29:=e1) (c30:=e2) (p32:=e3) (c33:=e4) (p35:=e5) (c36:=e6) (b39:=b39) d e g h i m q t u x y hd
     refine .callS (.f call84 r) (.o [1,1,1,0] r) v6 r r fun y7 x2 y8 g1 v7=>?_
     obtain ⟨a,y9,z0,z1,z2,z3,z4,z5,z6,z7,z8,z9,A0,A1,A2,A3,A4,A5,A6,A7,A8,A9,B0,rfl,e7,e8,e9,f0,f1,f2,f3,f4,f5,f6,f7,rfl,hd⟩:=v7
     obtain ⟨v8,v9,p6,d,e,g⟩:=g1.u6 v3 v4 v5 d e g
     obtain ⟨h,i,m,q,t,u⟩:=g1.u6 h i m q t u
     obtain ⟨x,y⟩:=g1.u2 x y
     refine .rn 4 r (.no [8,7,37,36,29,28,5,3,0] r (.region (.ks 2 r ?_)))
     refine AQ hd (fun g2 hd=>?_) fun g2 hd=>?_
     · rw [g2]
       exact .kn 6 [3,37,36,29,28,5,0] r (.region (.ks 2 r (.nil' fun c w ho hs=>⟨(a.2.1.p.Ring,a.2.1.p.A.Rows,a.2.1.p.A.Cols,a.2.1.p.A.Start,a.2.1.p.A.Col,a.2.1.p.A.Val,a.2.1.p.B.Rows,a.2.1.p.B.Cols,a.2.1.p.B.Start,a.2.1.p.B.Col,a.2.1.p.B.Val,a.2.1.p.Mask.Rows,a.2.1.p.Mask.Cols,a.2.1.p.Mask.Start,a.2.1.p.Mask.Col,a.2.1.p.Mask.Val,a.2.1.p.R,a.2.1.p.C,a.2.1.p.Room,a.2.1.stages,a.2.1.workers,a.2.1.boxes,true,AJ (D+1),a.2.2.1,a.2.2.2),hd,_,_,_,_,_,_,_,_,_,_,_,_,_,_,_,_,_,_,_,_,_,_,jf p6 ⟨e7,e8,e9,f0,f1,f2,f3,f4,f5,f6,f7⟩ [0,0,0,0] r ho hs⟩)))
     rw [g2]
     refine .ks 1 r ?_
     have w1:=VT (I:=x2) (o0:=a.2.2.2) (a0:=o9) hd
     refine .yes r (.callS (.f call97 r) (.o [3] r) w1 r r fun B1 B2 B3 g3 w2=>?_)
     obtain ⟨x3,rfl,rfl,hd⟩:=w2
     obtain ⟨x9,y0,w3,e7,e8,e9⟩:=g3.u6 v8 v9 p6 e7 e8 e9
     obtain ⟨f0,f1,f2,f3,f4,f5⟩:=g3.u6 f0 f1 f2 f3 f4 f5
     obtain ⟨f6,f7⟩:=g3.u2 f6 f7
     exact .rn 4 r (.kn 4 [3,37,36,29,28,5,0] r (.region (.ks 2 r (.nil' fun c w ho hs=>⟨(a.2.1.p.Ring,a.2.1.p.A.Rows,a.2.1.p.A.Cols,a.2.1.p.A.Start,a.2.1.p.A.Col,a.2.1.p.A.Val,a.2.1.p.B.Rows,a.2.1.p.B.Cols,a.2.1.p.B.Start,a.2.1.p.B.Col,a.2.1.p.B.Val,a.2.1.p.Mask.Rows,a.2.1.p.Mask.Cols,a.2.1.p.Mask.Start,a.2.1.p.Mask.Col,a.2.1.p.Mask.Val,a.2.1.p.R,a.2.1.p.C,a.2.1.p.Room,a.2.1.stages,a.2.1.workers,a.2.1.boxes,decide (x3<w9),AJ (D+1),a.2.2.1,a.2.2.2),hd,_,_,_,_,_,_,_,_,_,_,_,_,_,_,_,_,_,_,_,_,_,_,jf w3 ⟨e7,e8,e9,f0,f1,f2,f3,f4,f5,f6,f7⟩ [1,1,1,0] r ho hs⟩))))
   exact .en [29,28,3,0] r (.region (.ks 2 r (.nil' fun c w ho hs=>⟨(b0,b1,b2,H,J,K,b3,b5,L,N,O,b6,b7,P,S,T,b8,b9,c0,U,V,c1,o8,AJ (G+1),c2,F),hd,_,_,_,_,_,_,_,_,_,_,_,_,_,_,_,_,_,_,_,_,_,_,jf p4 ⟨d,e,g,h,i,m,q,t,u,x,y⟩ [0,0,0,0] r ho hs⟩)))
 exact .en [3,0] r (.sr (.kn 2 [2,0] r (.q1 results63 p2 [0,0,0,0] r ⟨(m0,({ p:=({ Ring:=k9,A:=({ Rows:=l0,Cols:=l1,Start:=W,Col:=X,Val:=Y }:Rows),B:=({ Rows:=l2,Cols:=l3,Start:=Z,Col:=a3,Val:=a4 }:Rows),Mask:=({ Rows:=l4,Cols:=l5,Start:=a5,Col:=a6,Val:=a7 }:Rows),R:=l6,C:=l7,Room:=l8 }:BI),stages:=a8,workers:=a9,boxes:=l9 }:AC),m1,m2),_,_,_,_,_,_,_,_,_,_,_,_,_,_,_,_,_,_,_,_,_,_,r,r6,r7,r8,r9,s0,s1,s2,s3,s4,s5,s6,r,hd⟩)))
theorem XI {o0:AC} {o1:List (Nat×AA)} {o2:List (Nat×AF)} {a0:NP} {Q:(Bool×AC×(List (Nat×AA))×(List (Nat×AF)))→Prop} (R7:RepSl AE I p5 c6 o0.p.A.Start) (R10:RepSl AE I p8 c9 o0.p.A.Col) (R13:RepSl AE I p11 c12 o0.p.A.Val) (R16:RepSl AE I p14 c15 o0.p.B.Start) (R19:RepSl AE I p17 c18 o0.p.B.Col) (R22:RepSl AE I p20 c21 o0.p.B.Val) (R25:RepSl AE I p23 c24 o0.p.Mask.Start) (R28:RepSl AE I p26 c27 o0.p.Mask.Col) (R31:RepSl AE I p29 c30 o0.p.Mask.Val) (R34:RepSl CB I p32 c33 o0.stages) (R37:RepSl CV I p35 c36 o0.workers) (hd:HI o0 o1 o2 a0 Q) :
  Fun prog 25 #[.pointer (some ⟨b4,0,none⟩),.agg (cS a0).toArray] I [pto b4 (.cells (AZ o0 p5 c6 p8 c9 p11 c12 p14 c15 p17 c18 p20 c21 p23 c24 p26 c27 p29 c30 p32 c33 p35 c36 b39) 121 (0,0)),OwnMap CU CV false b39 o0.boxes,BQ AG o1,BQ BD o2] (fun I_ v l=>∃ r p41 c42 p44 c45 p47 c48 p50 c51 p53 c54 p56 c57 p59 c60 p62 c63 p65 c66 p68 c69 p71 c72,v=.bool r.1∧RepSl AE I_ p41 c42 r.2.1.p.A.Start∧RepSl AE I_ p44 c45 r.2.1.p.A.Col∧RepSl AE I_ p47 c48 r.2.1.p.A.Val∧RepSl AE I_ p50 c51 r.2.1.p.B.Start∧RepSl AE I_ p53 c54 r.2.1.p.B.Col∧RepSl AE I_ p56 c57 r.2.1.p.B.Val∧RepSl AE I_ p59 c60 r.2.1.p.Mask.Start∧RepSl AE I_ p62 c63 r.2.1.p.Mask.Col∧RepSl AE I_ p65 c66 r.2.1.p.Mask.Val∧RepSl CB I_ p68 c69 r.2.1.stages∧RepSl CV I_ p71 c72 r.2.1.workers∧l=[pto b4 (.cells (AZ r.2.1 p41 c42 p44 c45 p47 c48 p50 c51 p53 c54 p56 c57 p59 c60 p62 c63 p65 c66 p68 c69 p71 c72 b39) 121 (0,0)),OwnMap CU CV false b39 r.2.1.boxes,BQ AG r.2.2.1,BQ BD r.2.2.2]∧Q r):=by
 refine Fun.en func25 ntmps25 r fun w0 M=>?_
 refine .sr (.bx r fun A2=>?_)
 refine .kn 1 [3,0] r (.seq (.sk 1 r (.eqNilP uI r r r r (.ks 1 r (.yes r (.lw yJ iP .z r ?_))))))
 have f7:=eN (I:=I) hd
 refine .yes r (.callP call19 r f7 r r fun A3 f8=>?_)
 obtain ⟨A4,rfl,hd⟩:=f8
 refine .kn 2 [11,3,0] r (.condP r hd (fun f9 hd=>?_) fun f9 hd=>?_)
 · exact .sr (.kn 1 [4,0] r (.drop .z (.q1 results25 rf [0,0,0,0] r ⟨(false,o0,o1,o2),_,_,_,_,_,_,_,_,_,_,_,_,_,_,_,_,_,_,_,_,_,_,r,R7,R10,R13,R16,R19,R22,R25,R28,R31,R34,R37,r,hd⟩)))
 refine .sn [3,0] r (.seq (.sk 1 r (.lo isAgg45 .z r (.no [13,3,0] r (.block (.sr (.kn 2 [14,13,3,0] r (.condP r hd (fun g0 hd=>?_) fun g0 hd=>?_))))))))
 · refine .sk 2 r (.lo BF .z r ?_)
   have g1:=ME (I:=I) (o0:=o0) (o1:=o1) (o2:=o2) (a0:=a0.A) (b4:=b4) (p5:=p5) (c6:=c6) (p8:=p8) (c9:=c9) (p11:=p11) (c12:=c12) (p14:=p14) (c15:=c15) (p17:=p17) (c18:=c18) (p20:=p20) (c21:=c21) (p23:=p23) (c24:=c24) (p26:=p26) (c27:=c27) (p29:=p29) (c30:=c30) (p32:=p32) (c33:=c33) (p35:=p35) (c36:=c36) (b39:=b39) R7 R10 R13 R16 R19 R22 R25 R28 R31 R34 R37 hd
   refine .callS (.f call83 r) (.o [1,1,1,1] r) g1 r r fun A5 A6 A7 k g2=>?_
   obtain ⟨c2,A8,A9,B0,B1,B2,B3,B4,B5,B6,B7,B8,B9,C0,C1,C2,C3,C4,C5,C6,C7,C8,C9,rfl,i7,i8,i9,j0,j1,j2,j3,j4,j5,j6,j7,rfl,hd⟩:=g2
   obtain ⟨R7,R10,R13,R16,R19,R22⟩:=k.u6 R7 R10 R13 R16 R19 R22
   obtain ⟨R25,R28,R31,R34,R37⟩:=k.u5 R25 R28 R31 R34 R37
   exact .rn 5 r (.kn 1 [4,0] r (.drop .p4 (.q1 results25 k [0,0,0,0] r ⟨(c2.1,c2.2.1,c2.2.2.1,c2.2.2.2),_,_,_,_,_,_,_,_,_,_,_,_,_,_,_,_,_,_,_,_,_,_,r,i7,i8,i9,j0,j1,j2,j3,j4,j5,j6,j7,r,hd⟩)))
 refine .sr (.kn 2 [20,13,3,0] r (.condP r hd (fun d5 hd=>?_) fun d5 hd=>?_))
 · refine .sk 2 r (.lo BF .z r (.ks 1 r (.lo BF .z r (.ks 1 r (.lo BF .z r ?_)))))
   have d6:=MF (I:=I) (o0:=o0) (o1:=o1) (o2:=o2) (a0:=a0.A) (a1:=a0.B) (a2:=a0.K) (b4:=b4) (p5:=p5) (c6:=c6) (p8:=p8) (c9:=c9) (p11:=p11) (c12:=c12) (p14:=p14) (c15:=c15) (p17:=p17) (c18:=c18) (p20:=p20) (c21:=c21) (p23:=p23) (c24:=c24) (p26:=p26) (c27:=c27) (p29:=p29) (c30:=c30) (p32:=p32) (c33:=c33) (p35:=p35) (c36:=c36) (b39:=b39) R7 R10 R13 R16 R19 R22 R25 R28 R31 R34 R37 hd
   refine .callS (.f call84 r) (.o [1,1,1,1] r) d6 r r fun j8 j9 k0 e d7=>?_
   obtain ⟨g,k1,k2,k3,k4,k5,k6,k7,k8,k9,l0,l1,l2,l3,l4,l5,l6,l7,l8,l9,m0,m1,m2,rfl,g3,g4,g5,g6,g7,g8,g9,h0,h1,h2,h3,rfl,hd⟩:=d7
   obtain ⟨R7,R10,R13,R16,R19,R22⟩:=e.u6 R7 R10 R13 R16 R19 R22
   obtain ⟨R25,R28,R31,R34,R37⟩:=e.u5 R25 R28 R31 R34 R37
   exact .rn 5 r (.kn 1 [4,0] r (.drop .p4 (.q1 results25 e [0,0,0,0] r ⟨(g.1,g.2.1,g.2.2.1,g.2.2.2),_,_,_,_,_,_,_,_,_,_,_,_,_,_,_,_,_,_,_,_,_,_,r,g3,g4,g5,g6,g7,g8,g9,h0,h1,h2,h3,r,hd⟩)))
 refine .sr (.kn 2 [30,13,3,0] r (.condP r hd (fun d8 hd=>?_) fun d8 hd=>?_))
 · refine .seq (.dr [0,1,2,3,4,6,7,5,8,9] 10 (.fk 2 r (.h r (fun _=>.lo BF .z r .mk) (.fk 1 r (.h r (fun _=>.lo BF .z r .mk) (.fk 1 r (.h r (fun _=>.lo BF .z r .mk) (.ww r fun ex=>?_))))))))
   have d9:=FW (I:=I) (o0:=o0) (o1:=o1) (o2:=o2) (a0:=a0.A) (a1:=a0.B) (b4:=b4) (p5:=p5) (c6:=c6) (p8:=p8) (c9:=c9) (p11:=p11) (c12:=c12) (p14:=p14) (c15:=c15) (p17:=p17) (c18:=c18) (p20:=p20) (c21:=c21) (p23:=p23) (c24:=c24) (p26:=p26) (c27:=c27) (p29:=p29) (c30:=c30) (p32:=p32) (c33:=c33) (p35:=p35) (c36:=c36) (b39:=b39) R7 R10 R13 R16 R19 R22 R25 R28 R31 R34 R37 hd
   refine .callS (.f call85 r) (.o [1,1,1,1] r) d9 r r fun m3 c8 m4 a c=>?_
   rcases c with c | c
   · obtain ⟨d0,m5,m6,m7,m8,m9,n0,n1,n2,n3,n4,n5,n6,n7,n8,n9,o3,o4,o5,o6,o7,o8,o9,rfl,m,q,s,t,u,w,x,y,C,D,E,rfl,hd⟩:=c
     obtain ⟨R7,R10,R13,R16,R19,R22⟩:=a.u6 R7 R10 R13 R16 R19 R22
     obtain ⟨R25,R28,R31,R34,R37⟩:=a.u5 R25 R28 R31 R34 R37
     refine .rx 5 r (.so 5 r r r (.ch r (fun _=>.lo BF .p4 r .mk) (.ck 1 r r trivial)) (.ww r fun ex=>?_))
     have e0:=OX (I:=c8) (a0:=a0.K) hd
     refine .callS (.f call86 r) .n e0 r r fun p0 p1 p2 c3 e1=>?_
     obtain ⟨h4,rfl,rfl,hd⟩:=e1
     obtain ⟨e3,m,q,s,t,u⟩:=c3.u6 a m q s t u
     obtain ⟨w,x,y,C,D,E⟩:=c3.u6 w x y C D E
     exact .rx 5 r (.so 5 r r r trivial (.fk 1 r (.e2 10 (.kn 1 [4,0] r (.drop .p4 (.q1 results25 e3 [0,0,0,0] r ⟨(h4==0,d0.1,o1,d0.2),_,_,_,_,_,_,_,_,_,_,_,_,_,_,_,_,_,_,_,_,_,_,r,m,q,s,t,u,w,x,y,C,D,E,r,hd⟩))))))
   obtain ⟨F,p3,p6,p7,p9,q0,q2,q3,q4,q5,q6,q7,q8,q9,r0,r1,r2,r3,r4,r5,r6,r7,r8,rfl,G,H,J,L,N,O,P,R,S,T,U,rfl,hd⟩:=c
   obtain ⟨R7,R10,R13,R16,R19,R22⟩:=a.u6 R7 R10 R13 R16 R19 R22
   obtain ⟨R25,R28,R31,R34,R37⟩:=a.u5 R25 R28 R31 R34 R37
   refine .rx 5 r (.so 5 r r r (.ch r (fun _=>.lo BF .p4 r .mk) (.ck 1 r r trivial)) (.ww r fun ex=>?_))
   have e4:=Z4 (I:=c8) (o0:=F.2.2) (a0:=F.1) (a1:=a0.K) hd
   refine .callS (.f call86 r) (.o [3] r) e4 r r fun r9 s0 s1 c4 e5=>?_
   obtain ⟨d1,rfl,rfl,hd⟩:=e5
   obtain ⟨e6,G,H,J,L,N⟩:=c4.u6 a G H J L N
   obtain ⟨O,P,R,S,T,U⟩:=c4.u6 O P R S T U
   exact .rx 5 r (.so 5 r r r trivial (.fk 1 r (.e2 10 (.kn 1 [4,0] r (.drop .p4 (.q1 results25 e6 [1,1,1,0] r ⟨(d1.1==0,F.2.1,o1,d1.2),_,_,_,_,_,_,_,_,_,_,_,_,_,_,_,_,_,_,_,_,_,_,r,G,H,J,L,N,O,P,R,S,T,U,r,hd⟩))))))
 refine .sr (.kn 2 [42,3,0] r (.condP r hd (fun e7 hd=>?_) fun e7 hd=>?_))
 · refine .seq (.dr [0,1,2,3,4,6,7,5,8,9] 10 (.fk 2 r (.h r (fun _=>.lo BF .z r .mk) (.fk 1 r (.h r (fun _=>.lo BF .z r .mk) (.fk 1 r (.h r (fun _=>.lo BF .z r .mk) (.ww r fun ex=>?_))))))))
   have e8:=FW (I:=I) (o0:=o0) (o1:=o1) (o2:=o2) (a0:=a0.A) (a1:=a0.B) (b4:=b4) (p5:=p5) (c6:=c6) (p8:=p8) (c9:=c9) (p11:=p11) (c12:=c12) (p14:=p14) (c15:=c15) (p17:=p17) (c18:=c18) (p20:=p20) (c21:=c21) (p23:=p23) (c24:=c24) (p26:=p26) (c27:=c27) (p29:=p29) (c30:=c30) (p32:=p32) (c33:=c33) (p35:=p35) (c36:=c36) (b39:=b39) R7 R10 R13 R16 R19 R22 R25 R28 R31 R34 R37 hd
   refine .callS (.f call85 r) (.o [1,1,1,1] r) e8 r r fun s2 d2 s3 b d=>?_
   rcases d with d | d
   · obtain ⟨d3,s4,s5,s6,s7,s8,s9,t0,t1,t2,t3,t4,t5,t6,t7,t8,t9,u0,u1,u2,u3,u4,u7,rfl,V,W,X,Y,Z,a3,a4,a5,a6,a7,a8,rfl,hd⟩:=d
     obtain ⟨R7,R10,R13,R16,R19,R22⟩:=b.u6 R7 R10 R13 R16 R19 R22
     obtain ⟨R25,R28,R31,R34,R37⟩:=b.u5 R25 R28 R31 R34 R37
     refine .rx 5 r (.so 5 r r r (.ch r (fun _=>.lo BF .p4 r .mk) (.ck 1 r r trivial)) (.ww r fun ex=>?_))
     have e9:=RQ (I:=d2) (a0:=a0.K) hd
     refine .callS (.f call87 r) .n e9 r r fun u8 u9 v0 c5 f0=>?_
     obtain ⟨h5,rfl,rfl,hd⟩:=f0
     obtain ⟨f1,V,W,X,Y,Z⟩:=c5.u6 b V W X Y Z
     obtain ⟨a3,a4,a5,a6,a7,a8⟩:=c5.u6 a3 a4 a5 a6 a7 a8
     exact .rx 5 r (.so 5 r r r trivial (.fk 1 r (.e2 10 (.kn 1 [4,0] r (.drop .p4 (.q1 results25 f1 [0,0,0,0] r ⟨(h5==0,d3.1,o1,d3.2),_,_,_,_,_,_,_,_,_,_,_,_,_,_,_,_,_,_,_,_,_,_,r,V,W,X,Y,Z,a3,a4,a5,a6,a7,a8,r,hd⟩))))))
   obtain ⟨a9,v1,v2,v3,v4,v5,v6,v7,v8,v9,w1,w2,w3,w4,w5,w6,w7,w8,w9,x0,x1,x2,x3,rfl,b0,b1,b2,b3,b5,b6,b7,b8,b9,c0,c1,rfl,hd⟩:=d
   obtain ⟨R7,R10,R13,R16,R19,R22⟩:=b.u6 R7 R10 R13 R16 R19 R22
   obtain ⟨R25,R28,R31,R34,R37⟩:=b.u5 R25 R28 R31 R34 R37
   refine .rx 5 r (.so 5 r r r (.ch r (fun _=>.lo BF .p4 r .mk) (.ck 1 r r trivial)) (.ww r fun ex=>?_))
   have f2:=cC (I:=d2) (o0:=a9.2.2) (a0:=a9.1) (a1:=a0.K) hd
   refine .callS (.f call87 r) (.o [3] r) f2 r r fun x4 x5 x6 c7 f3=>?_
   obtain ⟨d4,rfl,rfl,hd⟩:=f3
   obtain ⟨f4,b0,b1,b2,b3,b5⟩:=c7.u6 b b0 b1 b2 b3 b5
   obtain ⟨b6,b7,b8,b9,c0,c1⟩:=c7.u6 b6 b7 b8 b9 c0 c1
   exact .rx 5 r (.so 5 r r r trivial (.fk 1 r (.e2 10 (.kn 1 [4,0] r (.drop .p4 (.q1 results25 f4 [1,1,1,0] r ⟨(d4.1==0,a9.2.1,o1,d4.2),_,_,_,_,_,_,_,_,_,_,_,_,_,_,_,_,_,_,_,_,_,_,r,b0,b1,b2,b3,b5,b6,b7,b8,b9,c0,c1,r,hd⟩))))))
 refine .sn [0] r (.drop .z (.sk 1 r ?_))
 have f5:=KS (I:=I) (o0:=o0) (o1:=o1) (o2:=o2) (b4:=b4) (p5:=p5) (c6:=c6) (p8:=p8) (c9:=c9) (p11:=p11) (c12:=c12) (p14:=p14) (c15:=c15) (p17:=p17) (c18:=c18) (p20:=p20) (c21:=c21) (p23:=p23) (c24:=c24) (p26:=p26) (c27:=c27) (p29:=p29) (c30:=c30) (p32:=p32) (c33:=c33) (p35:=p35) (c36:=c36) (b39:=b39) R7 R10 R13 R16 R19 R22 R25 R28 R31 R34 R37 hd
 refine .callS (.f call63 r) (.o [0,0,0,0] r) f5 r r fun x7 x8 x9 i f6=>?_
 obtain ⟨j,y0,y1,y2,y3,y4,y5,y6,y7,y8,y9,z0,z1,z2,z3,z4,z5,z6,z7,z8,z9,A0,A1,rfl,h6,h7,h8,h9,i0,i1,i2,i3,i4,i5,i6,rfl,hd⟩:=f6
 obtain ⟨R7,R10,R13,R16,R19,R22⟩:=i.u6 R7 R10 R13 R16 R19 R22
 obtain ⟨R25,R28,R31,R34,R37⟩:=i.u5 R25 R28 R31 R34 R37
 exact .rn 4 r (.kn 1 [4,0] r (.q1 results25 i [0,0,0,0] r ⟨(j.1,j.2.1,j.2.2.1,j.2.2.2),_,_,_,_,_,_,_,_,_,_,_,_,_,_,_,_,_,_,_,_,_,_,r,h6,h7,h8,h9,i0,i1,i2,i3,i4,i5,i6,r,hd⟩))
theorem SJ {o1:List (Nat×AA)} {o2:AC} {a0:Option Nat} {Q:Bool→Prop} (R8:RepSl AE I p6 c7 o2.p.A.Start) (R11:RepSl AE I p9 c10 o2.p.A.Col) (R14:RepSl AE I p12 c13 o2.p.A.Val) (R17:RepSl AE I p15 c16 o2.p.B.Start) (R20:RepSl AE I p18 c19 o2.p.B.Col) (R23:RepSl AE I p21 c22 o2.p.B.Val) (R26:RepSl AE I p24 c25 o2.p.Mask.Start) (R29:RepSl AE I p27 c28 o2.p.Mask.Col) (R32:RepSl AE I p30 c31 o2.p.Mask.Val) (R35:RepSl CB I p33 c34 o2.stages) (R38:RepSl CV I p36 c37 o2.workers) (hd:GU o1 o2 a0 Q) :
  Fun prog 109 #[.pointer (mkA a0),.pointer (some ⟨b4,0,none⟩)] I [pto b4 (.cells #[.pointer (some ⟨b5,0,none⟩)] 60 (0,0)),BQ AG o1,pto b5 (.cells (AZ o2 p6 c7 p9 c10 p12 c13 p15 c16 p18 c19 p21 c22 p24 c25 p27 c28 p30 c31 p33 c34 p36 c37 b40) 121 (0,0)),OwnMap CU CV false b40 o2.boxes] (fun I_ v l=>∃ r,v=.bool r∧l=[pto b4 (.cells #[.pointer (some ⟨b5,0,none⟩)] 60 (0,0)),BQ AG o1,pto b5 (.cells (AZ o2 p6 c7 p9 c10 p12 c13 p15 c16 p18 c19 p21 c22 p24 c25 p27 c28 p30 c31 p33 c34 p36 c37 b40) 121 (0,0)),OwnMap CU CV false b40 o2.boxes]∧Q r):=by
 refine Fun.en func109 ntmps109 r fun w0 M=>?_
 refine .sr (.kn 1 [1,0] r (.seq ?_))
 obtain ⟨d,b,c,a,hd⟩:=hd
 refine .bankO .p1 a fun ⟨e,f,g,i,j,k,m,n,q,s,t⟩ ⟨u,w,x,y,C⟩=>?_
 refine .rn 6 r (.sub (E':=[(0,.pointer (some ⟨d,0,none⟩)),(1,_)]) ⟨(by rw [c]; rfl),r,trivial⟩ (.dr [0,1,2,3,4,5,6,7,8,9] 10 (.fk 3 r (.h r (fun _=>.lo BF .z r .mk) (.h r (fun _=>.lo isAgg60 .p3 r .mk) (.fk 2 r (.h r (fun _=>.lo aS .p4 r .mk) (.h r (fun _=>.ln dC r .mk) (.fk 1 r ?_)))))))))
 exact .e2 10 (.ks 1 r (.bankB (B:=AG) (e,f,g,i,j,k,m,n,q,s,t) b ⟨u,w,x,y,C⟩ a (.o [0,0,0] r) (.no [3,1] r (.q1 results109 rf [1,0,0,0] r ⟨(decide (b.at_<(o2.stages.length:Int))),r,r,hd⟩))))
theorem GX {o1:List (Nat×AA)} {o2:AC} {a0:List (Option Nat)} {Q:Int→Prop} (R8:RepSl AE I p6 c7 o2.p.A.Start) (R11:RepSl AE I p9 c10 o2.p.A.Col) (R14:RepSl AE I p12 c13 o2.p.A.Val) (R17:RepSl AE I p15 c16 o2.p.B.Start) (R20:RepSl AE I p18 c19 o2.p.B.Col) (R23:RepSl AE I p21 c22 o2.p.B.Val) (R26:RepSl AE I p24 c25 o2.p.Mask.Start) (R29:RepSl AE I p27 c28 o2.p.Mask.Col) (R32:RepSl AE I p30 c31 o2.p.Mask.Val) (R35:RepSl CB I p33 c34 o2.stages) (R38:RepSl CV I p36 c37 o2.workers) (R43:RepSl CV I p41 c42 a0) (hd:CR o1 o2 a0 Q) :
  Fun prog 175 #[.slice p41 a0.length c42,.func (.func 109) #[] #[.pointer (some ⟨b4,0,none⟩)]] I [pto b4 (.cells #[.pointer (some ⟨b5,0,none⟩)] 60 (0,0)),BQ AG o1,pto b5 (.cells (AZ o2 p6 c7 p9 c10 p12 c13 p15 c16 p18 c19 p21 c22 p24 c25 p27 c28 p30 c31 p33 c34 p36 c37 b40) 121 (0,0)),OwnMap CU CV false b40 o2.boxes] (fun I_ v l=>∃ r,v=.int .i64 r∧l=[pto b4 (.cells #[.pointer (some ⟨b5,0,none⟩)] 60 (0,0)),BQ AG o1,pto b5 (.cells (AZ o2 p6 c7 p9 c10 p12 c13 p15 c16 p18 c19 p21 c22 p24 c25 p27 c28 p30 c31 p33 c34 p36 c37 b40) 121 (0,0)),OwnMap CU CV false b40 o2.boxes]∧Q r):=by
 refine Fun.en func175 ntmps175 r fun w0 M=>?_
 refine .sr (.kn 1 [1,0] r (.seq (.sk 1 r (.ln TW r (.kn 1 [8,7,1,0] r (.block (.lp hd [7,1,0] [0,1,1,0] r (fun j E l e=>j ((8,.int .i64 e) :: E) l) (ji rf [0,1,1,0] r) ?_)))))))
 refine fun e s hd=>jq r fun t a=>?_
 obtain ⟨R8,R11,R14,R17,R20,R23⟩:=a.u6 R8 R11 R14 R17 R20 R23
 obtain ⟨R26,R29,R32,R35,R38,R43⟩:=a.u6 R26 R29 R32 R35 R38 R43
 refine .sr (.kn 1 [9,8,7,1,0] r (.seq (.condP r hd (fun n hd=>?_) fun n hd=>?_)))
 · refine .sn [8,7,1,0] r (.seq (.block (.sk 2 r (.nk [5,8,7,1,0] 3 r ?_))))
   obtain ⟨m,u,g,hd⟩:=hd
   obtain ⟨F,o95,x,w,d,q⟩:=R43.2 _ _ g
   cases q
   refine .ixa TW sizeOf122 r w r m (AH g m) r r (.ld1 (j:=0) KP d r r r r r ?_)
   have h:=SJ (I:=t) (o1:=o1) (o2:=o2) (a0:=u) (b4:=b4) (b5:=b5) (p6:=p6) (c7:=c7) (p9:=p9) (c10:=c10) (p12:=p12) (c13:=c13) (p15:=p15) (c16:=c16) (p18:=p18) (c19:=c19) (p21:=p21) (c22:=c22) (p24:=p24) (c25:=c25) (p27:=p27) (c28:=c28) (p30:=p30) (c31:=c31) (p33:=p33) (c34:=c34) (p36:=p36) (c37:=c37) (b40:=b40) R8 R11 R14 R17 R20 R23 R26 R29 R32 R35 R38 hd
   refine .callS (.c call109 r r) (.o [0,2,0,0] r) h r r fun y z C b i=>?_
   obtain ⟨D,rfl,rfl,hd⟩:=i
   obtain ⟨f,R8,R11,R14,R17,R20⟩:=b.u6 a R8 R11 R14 R17 R20
   obtain ⟨R23,R26,R29,R32,R35,R38⟩:=b.u6 R23 R26 R29 R32 R35 R38
   obtain ⟨R43,d⟩:=b.u2 R43 d
   refine .rn 4 r (.no [16,5,8,7,1,0] r (.condP r hd (fun k hd=>?_) fun k hd=>?_))
   · exact .sr (.kn 2 [4,1] r (.q1 results175 f [0,0,0,0] r ⟨e,r,r,hd⟩))
   exact .sn [8,7,1,0] r (.region (.ks 2 r (.nil' (je (AJ (e+1)) hd f [0,1,1,0] r))))
 exact .en [1] r (.sr (.kn 1 [4,1] r (.q1 results175 a [0,2,0,0] r ⟨(-1),r,r,hd⟩)))
theorem GK {o1:List (Nat×AA)} {o2:AC} {a0:List (Option Nat)} {Q:Bool→Prop} (R8:RepSl AE I p6 c7 o2.p.A.Start) (R11:RepSl AE I p9 c10 o2.p.A.Col) (R14:RepSl AE I p12 c13 o2.p.A.Val) (R17:RepSl AE I p15 c16 o2.p.B.Start) (R20:RepSl AE I p18 c19 o2.p.B.Col) (R23:RepSl AE I p21 c22 o2.p.B.Val) (R26:RepSl AE I p24 c25 o2.p.Mask.Start) (R29:RepSl AE I p27 c28 o2.p.Mask.Col) (R32:RepSl AE I p30 c31 o2.p.Mask.Val) (R35:RepSl CB I p33 c34 o2.stages) (R38:RepSl CV I p36 c37 o2.workers) (R43:RepSl CV I p41 c42 a0) (hd:CK o1 o2 a0 Q) :
  Fun prog 108 #[.slice p41 a0.length c42,.func (.func 109) #[] #[.pointer (some ⟨b4,0,none⟩)]] I [pto b4 (.cells #[.pointer (some ⟨b5,0,none⟩)] 60 (0,0)),BQ AG o1,pto b5 (.cells (AZ o2 p6 c7 p9 c10 p12 c13 p15 c16 p18 c19 p21 c22 p24 c25 p27 c28 p30 c31 p33 c34 p36 c37 b40) 121 (0,0)),OwnMap CU CV false b40 o2.boxes] (fun I_ v l=>∃ r,v=.bool r∧l=[pto b4 (.cells #[.pointer (some ⟨b5,0,none⟩)] 60 (0,0)),BQ AG o1,pto b5 (.cells (AZ o2 p6 c7 p9 c10 p12 c13 p15 c16 p18 c19 p21 c22 p24 c25 p27 c28 p30 c31 p33 c34 p36 c37 b40) 121 (0,0)),OwnMap CU CV false b40 o2.boxes]∧Q r):=by
 refine Fun.en func108 ntmps108 r fun w0 M=>?_
 refine .sk 1 r (.nk [1,0] 2 r ?_)
 have b:=GX (I:=I) (o1:=o1) (o2:=o2) (a0:=a0) (b4:=b4) (b5:=b5) (p6:=p6) (c7:=c7) (p9:=p9) (c10:=c10) (p12:=p12) (c13:=c13) (p15:=p15) (c16:=c16) (p18:=p18) (c19:=c19) (p21:=p21) (c22:=c22) (p24:=p24) (c25:=c25) (p27:=p27) (c28:=c28) (p30:=p30) (c31:=c31) (p33:=p33) (c34:=c34) (p36:=p36) (c37:=c37) (b40:=b40) R8 R11 R14 R17 R20 R23 R26 R29 R32 R35 R38 R43 hd
 refine .callS (.f call175 r) (.o [0,0,0,0] r) b r r fun e g h a c=>?_
 obtain ⟨d,rfl,rfl,hd⟩:=c
 obtain ⟨R8,R11,R14,R17,R20,R23⟩:=a.u6 R8 R11 R14 R17 R20 R23
 obtain ⟨R26,R29,R32,R35,R38,R43⟩:=a.u6 R26 R29 R32 R35 R38 R43
 exact .rn 4 r (.kn 2 [4,1] r (.q1 results108 a [0,0,0,0] r ⟨(decide (0≤d)),r,r,hd⟩))
theorem LL {o0:AC} {o1:List (Nat×AA)} {Q:Bool→Prop} (R6:RepSl AE I p4 c5 o0.p.A.Start) (R9:RepSl AE I p7 c8 o0.p.A.Col) (R12:RepSl AE I p10 c11 o0.p.A.Val) (R15:RepSl AE I p13 c14 o0.p.B.Start) (R18:RepSl AE I p16 c17 o0.p.B.Col) (R21:RepSl AE I p19 c20 o0.p.B.Val) (R24:RepSl AE I p22 c23 o0.p.Mask.Start) (R27:RepSl AE I p25 c26 o0.p.Mask.Col) (R30:RepSl AE I p28 c29 o0.p.Mask.Val) (R33:RepSl CB I p31 c32 o0.stages) (R36:RepSl CV I p34 c35 o0.workers) (hd:DL o0 o1 Q) :
  Fun prog 38 #[.pointer (some ⟨b3,0,none⟩)] I [pto b3 (.cells (AZ o0 p4 c5 p7 c8 p10 c11 p13 c14 p16 c17 p19 c20 p22 c23 p25 c26 p28 c29 p31 c32 p34 c35 b38) 121 (0,0)),OwnMap CU CV false b38 o0.boxes,BQ AG o1] (fun I_ v l=>∃ r,v=.bool r∧l=[pto b3 (.cells (AZ o0 p4 c5 p7 c8 p10 c11 p13 c14 p16 c17 p19 c20 p22 c23 p25 c26 p28 c29 p31 c32 p34 c35 b38) 121 (0,0)),OwnMap CU CV false b38 o0.boxes,BQ AG o1]∧Q r):=by
 refine Fun.en func38 ntmps38 r fun w0 M=>?_
 refine .sr (.box1 r r r r fun d=>?_)
 refine .kn 1 [1,0] r (.seq (.sr (.lo isAgg60 .z r (.eqNilP uI r r r r (.no [4,1,0] r (.condKF r r (.sn [1,0] r (.sr (.lo isAgg60 .z r ?_)))))))))
 refine .ks 2 r (.lo isAgg119 .p1 r (.mkFn r r r r ?_))
 have b:=GK (I:=I) (o1:=o1) (o2:=o0) (a0:=o0.workers) (b4:=d) (b5:=b3) (p6:=p4) (c7:=c5) (p9:=p7) (c10:=c8) (p12:=p10) (c13:=c11) (p15:=p13) (c16:=c14) (p18:=p16) (c19:=c17) (p21:=p19) (c22:=c20) (p24:=p22) (c25:=c23) (p27:=p25) (c28:=c26) (p30:=p28) (c31:=c29) (p33:=p31) (c34:=c32) (p36:=p34) (c37:=c35) (b40:=b38) R6 R9 R12 R15 R18 R21 R24 R27 R30 R33 R36 R36 hd
 refine .callS (.f call108 r) (.o [0,2,0,0] r) b r r fun g h i a c=>?_
 obtain ⟨e,rfl,rfl,hd⟩:=c
 obtain ⟨R6,R9,R12,R15,R18,R21⟩:=a.u6 R6 R9 R12 R15 R18 R21
 obtain ⟨R24,R27,R30,R33,R36⟩:=a.u5 R24 R27 R30 R33 R36
 exact .rn 4 r (.kn 2 [2,0] r (.drop .z (.q1 results38 a [1,1,0] r ⟨(!e),r,r,hd⟩)))
theorem UX {o0:AC} {o1:List (Nat×AA)} {Q:(List AM)→Prop} (R6:RepSl AE I p4 c5 o0.p.A.Start) (R9:RepSl AE I p7 c8 o0.p.A.Col) (R12:RepSl AE I p10 c11 o0.p.A.Val) (R15:RepSl AE I p13 c14 o0.p.B.Start) (R18:RepSl AE I p16 c17 o0.p.B.Col) (R21:RepSl AE I p19 c20 o0.p.B.Val) (R24:RepSl AE I p22 c23 o0.p.Mask.Start) (R27:RepSl AE I p25 c26 o0.p.Mask.Col) (R30:RepSl AE I p28 c29 o0.p.Mask.Val) (R33:RepSl CB I p31 c32 o0.stages) (R36:RepSl CV I p34 c35 o0.workers) (hd:EP o0 o1 Q) :
  Fun prog 40 #[.pointer (some ⟨b3,0,none⟩)] I [pto b3 (.cells (AZ o0 p4 c5 p7 c8 p10 c11 p13 c14 p16 c17 p19 c20 p22 c23 p25 c26 p28 c29 p31 c32 p34 c35 b38) 121 (0,0)),OwnMap CU CV false b38 o0.boxes,BQ AG o1] (fun I_ v l=>∃ r p39 c40,v=.slice p39 r.length c40∧RepSl CI I_ p39 c40 r∧l=[pto b3 (.cells (AZ o0 p4 c5 p7 c8 p10 c11 p13 c14 p16 c17 p19 c20 p22 c23 p25 c26 p28 c29 p31 c32 p34 c35 b38) 121 (0,0)),OwnMap CU CV false b38 o0.boxes,BQ AG o1]∧Q r):=by
 refine Fun.en func40 ntmps40 r fun w0 M=>?_
 refine .sr (.kn 1 [0] r (.seq (.sk 1 r (.eqNilP uI r r r r (.no [11,0] r (.condKF r r (.sn [0] r (.sr (.kn 1 [3,0] r ?_)))))))))
 refine .seq (.sk 3 r (.lo isAgg119 .z r (.ln TW r (.kn 1 [17,16,15,3,0] r (.block (.own0 CI 161 (.lx hd [16,15,0] [1,1,1] r (fun j E l (q,s)=>fun c w=>∃ i k,j ⟨81,[],none⟩ (fun I_=>True) ((3,.slice i q.length k) :: (17,.int .i64 s) :: E) (OwnSl CI 161 i k q :: l) c w) (fun c w ho hs=>⟨_,_,jf rf trivial [0,0,0,0] r ho hs⟩) ?_)))))))
 rintro ⟨q,s⟩ f6 hd c w ⟨i,k,t,d,_,hok,hsym⟩
 obtain ⟨R6,R9,R12,R15,R18,R21⟩:=d.u6 R6 R9 R12 R15 R18 R21
 obtain ⟨R24,R27,R30,R33,R36⟩:=d.u5 R24 R27 R30 R33 R36
 refine Cod.at hok hsym (.sr (.kn 1 [18,17,16,15,3,0] r (.seq (.condP r hd (fun W hd=>?_) fun W hd=>?_))))
 · refine .sn [17,16,15,3,0] r (.seq (.block (.sr ?_)))
   obtain ⟨R,g0,F,hd⟩:=hd
   obtain ⟨g1,o554,f8,b5,X,Y⟩:=R36.2 _ _ F
   cases Y
   refine .ixa TW sizeOf122 r b5 r R (AH F R) r r (.ld1 (j:=0) KP X r r r r r (.kn 1 [5,17,16,15,3,0] r (.seq ?_)))
   obtain ⟨b6,b7,Z,G,hd⟩:=hd
   refine .bankO .p3 G fun ⟨b8,b9,c0,c1,c2,c3,c4,c6,c7,c9,d0⟩ ⟨d1,d2,d3,d4,d5⟩=>?_
   refine .rn 6 r (.sub (E':=[(0,_),(3,_),(15,_),(16,_),(17,_),(5,.pointer (some ⟨b6,0,none⟩))]) ⟨r,r,r,r,r,(by rw [Z]; rfl),trivial⟩ (.dr [0,1,2,3,4,5,6,7,8,9,10,11,12,13,14,16,17,18,19,20,21,22,23,24,25,26,27,28,29,30,15,31,32] 33 (.fk 5 r (.h r (fun _=>.lo BF .p4 r .mk) (.fk 4 r (.h r (fun _=>.lo BF .p4 r .mk) (.fk 3 r (.h r (fun _=>.lo BF .z r .mk) (.fk 5 r ?_)))))))))
   refine .h r (fun _=>.lo BF .p4 r .mk) (.fk 4 r (.h r (fun _=>.lo BF .p4 r .mk) (.fk 3 r (.h r (fun _=>.lo BF .z r .mk) (.ww r fun ex=>?_)))))
   have a2:=JD (I:=t) hd
   refine .cq call110 a2 r fun S hd=>?_
   refine .so 6 r r r (.ch r (fun _=>.lo BF .z r .mk) (.ck 3 r r (.ch r (fun _=>.lo BF .p4 r .mk) (.ck 4 r r (.ch r (fun _=>.lo BF .p4 r .mk) (.ck 5 r r trivial)))))) (.ww r fun ex=>?_)
   have a3:=JD (I:=t) hd
   refine .cq call110 a3 r fun U hd=>?_
   refine .so 6 r r r trivial (.fk 1 r (.e2 33 (.ks 1 r (.bankB (B:=AG) (b8,b9,c0,c1,c2,c3,c4,c6,c7,c9,d0) b7 ⟨d1,d2,d3,d4,d5⟩ G (.o [0,0,0] r) (.nk [7,6,5,17,16,15,3,0] 1 r ?_)))))
   obtain ⟨g2,d6,a4,H,hd⟩:=hd
   obtain rfl:=Option.some.inj a4
   refine .bankO .z H fun ⟨d7,d8,d9,e0,e1,e3,e4,e5,e6,e7,e8⟩ ⟨e9,f0,f1,f2,m⟩=>?_
   refine .rn 6 r (.ks 2 r (.lo isAgg76 .z r (.ln EW r (.ks 1 r (.bankB (B:=AG) (d7,d8,d9,e0,e1,e3,e4,e5,e6,e7,e8) d6 ⟨e9,f0,f1,f2,m⟩ H (.o [0,0,0] r) (.no [58,57,56,7,6,17,16,15,3,0] r (.block (.lx hd [57,56,17,16,15,7,6,0] [2,2,0] r (fun j E l (g,u)=>fun c w=>∃ C D,j ⟨81,[],none⟩ (fun I_=>True) ((3,.slice C g.length D) :: (58,.int .i64 u) :: E) (OwnSl CI 161 C D g :: l) c w) (fun c w ho hs=>⟨_,_,jf rf trivial [1,1,1,0] r ho hs⟩) ?_))))))))
   rintro ⟨g,u⟩ f7 hd c w ⟨C,D,g3,e,_,hok,hsym⟩
   obtain ⟨a5,R6,R9,R12,R15,R18⟩:=e.u6 d R6 R9 R12 R15 R18
   obtain ⟨R21,R24,R27,R30,R33,R36⟩:=e.u6 R21 R24 R27 R30 R33 R36
   have m:=e.u1 m
   refine Cod.at hok hsym (.sr (.kn 1 [59,58,57,56,17,16,15,7,6,3,0] r (.seq (.condP r hd (fun a6 hd=>?_) fun a6 hd=>?_))))
   · refine .sn [58,57,56,17,16,15,7,6,3,0] r (.seq (.block (.sr ?_)))
     obtain ⟨V,b,K,hd⟩:=hd
     obtain ⟨g4,o764,f9,f3,a7,a8⟩:=m.2 _ _ K
     cases a8
     refine .ixa EW CA r f3 r V (AH K V) r r (.ldW IL CA a7 r r r r (.al gZ r fun g5=>?_))
     refine .sa CA .z r (.no [9,58,57,56,17,16,15,7,6,3,0] r (.region (.ks 2 r (.lo BF .z r (.ks 3 r (.lo BF .z r (.ks 3 r (.loadA BP AU r .z (.o 2 r) r r r (.build gZ underlying161 AhF (.c r r r (.o r) (.c r r r (.o r) (.c r r r (.o r) .n))) (by exact ⟨⟨_,_,r,r,r⟩,⟨⟨_,_,r,r,r⟩,⟨⟨_,_,r,r,r⟩,trivial⟩⟩⟩) r r ?_)))))))))
     refine .buildSlice 1 EW CA gZ r r (.c r r r .n) r r fun g6=>?_
     obtain ⟨a9,hd⟩:=hd
     refine .append (ys:=[({ Row:=AJ (b.Row+S),Col:=AJ (b.Col+U),Val:=b.Val }:AM)]) 32 .p2 EW EW uF r r r r r r r r r (.box .z (.one r) r) a9 r r fun g7 g8=>?_
     exact .kn 1 [3,58,57,56,17,16,15,7,6,0] r (.drop .p1 (.drop .p1 (.region (.ks 2 r (.nil' fun c w ho hs=>⟨((g++([({ Row:=AJ (b.Row+S),Col:=AJ (b.Col+U),Val:=b.Val }:AM)])),AJ (u+1)),hd,_,_,jf e trivial [0,0,0,0] r ho hs⟩)))))
   exact .en [17,16,15,3,0] r (.region (.ks 2 r (.nil' fun c w ho hs=>⟨(g,AJ (s+1)),hd,_,_,jf a5 trivial [0,0,0,0] r ho hs⟩)))
 refine .en [3,0] r (.sk 1 r ?_)
 have b0:=Fun.sort (hk:=fun _=>⟨r,r⟩) AjO IL CA (fun x y J Q hq=>WT (I:=J) (a0:=x) (a1:=y) (Q:=Q) hq) call112 (I:=t) (T:=161) (a:=i) (cap:=k) hd
 refine .callS (.f call111 r) (.o [0] r) b0 r r fun g9 h0 h1 L b1=>?_
 obtain ⟨f4,rfl,P,rfl,hd⟩:=b1
 obtain ⟨b2,R6,R9,R12,R15,R18⟩:=L.u6 d R6 R9 R12 R15 R18
 obtain ⟨R21,R24,R27,R30,R33,R36⟩:=L.u6 R21 R24 R27 R30 R33 R36
 refine .rl .z [3,78] r (by rw [P]) (.nk [3,0] 2 r (.no [2,0] r (.pub .z fun h2 O f5=>?_)))
 obtain ⟨b4,R6,R9,R12,R15,R18⟩:=O.u6 b2 R6 R9 R12 R15 R18
 obtain ⟨R21,R24,R27,R30,R33,R36⟩:=O.u6 R21 R24 R27 R30 R33 R36
 exact .q1 results40 b4 [0,0,0] r ⟨f4,_,_,r,f5,r,hd⟩
end Go.Proofs.YtbohadngdkjljaaGreat
