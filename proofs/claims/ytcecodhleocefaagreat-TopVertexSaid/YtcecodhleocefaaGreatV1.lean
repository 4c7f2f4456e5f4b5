import Derived.Test.YtcecodhleocefaaGreatF
set_option linter.unusedVariables false
set_option linter.unusedSimpArgs false
set_option maxRecDepth 8000
set_option maxHeartbeats 1000000
set_option linter.defProp false
namespace Go.Proofs.YtcecodhleocefaaGreat
open Go Go.Fw
open Tryz
def _root_.Go.Fw.Cod.A:=@Go.Fw.Cod.condP
def _root_.Go.Fw.Cod.B:=@Go.Fw.Cod.seq
def _root_.Go.Fw.Cod.C:=@Go.Fw.Cod.region
def _root_.Go.Fw.Ops.D:=@Go.Fw.Ops.kn
def _root_.Go.Fw.Cod.E:=@Go.Fw.Cod.block
def _root_.Go.Fw.Cod.F:=@Go.Fw.Cod.sr
def _root_.Go.Fw.Ops.G:=@Go.Fw.Ops.ks
def _root_.Go.Fw.Ops.H:=@Go.Fw.Ops.lo
def _root_.Go.Fw.Ops.I:=@Go.Fw.Ops.nil'
def _root_.Go.Fw.Cod.J:=@Go.Fw.Cod.ret
def _root_.Go.Fw.DrawD.K:=@Go.Fw.DrawD.fk
def _root_.Go.Fw.Ops.L:=@Go.Fw.Ops.no
def _root_.Go.Fw.Cod.M:=@Go.Fw.Cod.sk
def _root_.Go.Fw.Ops.N:=@Go.Fw.Ops.gyes
def _root_.Go.Fw.Cod.O:=@Go.Fw.Cod.sn
def _root_.Go.Fw.WPost.O:=@Go.Fw.WPost.sn
def _root_.Go.Fw.Ops.P:=@Go.Fw.Ops.yes
def _root_.Go.Fw.Cod.Q:=@Go.Fw.Cod.condKT
def _root_.Go.Fw.Ops.R:=@Go.Fw.Ops.sa
def _root_.Go.Fw.Ops.S:=@Go.Fw.Ops.lw
def _root_.Go.Fw.Ops.T:=@Go.Fw.Ops.spl
def _root_.Go.Fw.PendL.U:=@Go.Fw.PendL.ch
def _root_.Go.Fw.Ops.V:=@Go.Fw.Ops.nk
def _root_.Go.Fw.DrawD.W:=@Go.Fw.DrawD.hl
def _root_.Go.Fw.DrawD.X:=@Go.Fw.DrawD.ww
def _root_.Go.Fw.Ops.Y:=@Go.Fw.Ops.ixb
def _root_.Go.Fw.Ops.Z:=@Go.Fw.Ops.loadA
def _root_.Go.Fw.Cod.j:=@Go.Fw.Cod.condKF
def _root_.Go.Fw.Ops.q:=@Go.Fw.Ops.cq
def _root_.Go.Fw.PendL.u:=@Go.Fw.PendL.ck
def _root_.Go.Fw.WPost.v:=@Go.Fw.WPost.sp
def _root_.Go.Fw.Ops.x:=@Go.Fw.Ops.cS
def _root_.Go.Fw.Ops.y:=@Go.Fw.Ops.bx
def _root_.Go.Fw.Ops.AA:=@Go.Fw.Ops.ixArr
def _root_.Go.Fw.Ops.AB:=@Go.Fw.Ops.ixa0
def _root_.Go.Fw.Ops.AC:=@Go.Fw.Ops.callP
def _root_.Go.Fw.Ops.AD:=@Go.Fw.Ops.move
def _root_.Go.Fw.Cod.AE:=@Go.Fw.Cod.skip'
def _root_.Go.Fw.Ops.AF:=@Go.Fw.Ops.callO
abbrev vp (b:Nat):Value:=.pointer (some ⟨b,0,none⟩)
abbrev pc (b:Nat)(c:Array Value)(t:TypeId):HA:=pto b (.cells c t (0,0))
abbrev vi (x:Int):Value:=.int .i64 x
abbrev VN (o:A3)(W:Nat)(Z:aTp)(d:Option Addr)(h:Nat)(D:Nat)(J:Option Addr)(O:Nat)(U:Nat)(V:Nat):List HA:=[pc W (G2 o Z d h D J O U V) 151,QSl GG 129 d h o.out,OwnMap vi gP true D o.shares,OwnSl EZ 254 J O o.sums,OwnMap vi eB false U o.came,OwnMap vi GG true V o.votes]
abbrev xN (o:BF)(O:Nat)(d:Option Addr)(h:Nat)(D:Nat)(J:Nat):List HA:=[pc O (Af0 o d h D J) 157,OwnSl B2 3 d h o.row,OwnMap vi GG true D o.by_,OwnMap vi B2 false J o.often]
abbrev zM (o:A6)(J:Nat)(O:aTs)(d:Nat)(h:Option Addr)(D:Nat)(U:A4)(V:A8):List HA:=[pc J (DD o O d h D) 91,OwnMap IK NV false d o.boxes,OwnSl N3 47 h D o.history,CE A9 U,CE BD V]
abbrev kL3 (o:AN)(O:Nat)(d:Option Addr)(h:Nat)(D:Option Addr)(J:Nat):List HA:=[pc O (pX o d h D J) 332,OwnSl EM 375 d h o.heads,OwnSl EZ 254 D J o.out]
abbrev kL4 (o:A6)(J:Nat)(O:aTs)(d:Nat)(h:Option Addr)(D:Nat)(U:A4):List HA:=[pc J (DD o O d h D) 91,OwnMap IK NV false d o.boxes,OwnSl N3 47 h D o.history,CE A9 U]
abbrev kL5 (o:A6)(J:Nat)(O:aTs)(d:Nat)(h:Option Addr)(D:Nat)(U:A8):List HA:=[pc J (DD o O d h D) 91,OwnMap IK NV false d o.boxes,OwnSl N3 47 h D o.history,CE BD U]
abbrev kL6 (o:A6)(J:Nat)(O:aTs)(d:Nat)(h:Option Addr)(D:Nat):List HA:=[pc J (DD o O d h D) 91,OwnMap IK NV false d o.boxes,OwnSl N3 47 h D o.history]
abbrev PR:List Nat:=[0,0]
abbrev SH:List Nat:=[0,0,0,0]
abbrev TK:List Nat:=[0,0,0,0,0,0]
abbrev VO:List Nat:=[0,0,0]
abbrev gG:List Nat:=[0,0,0,0,0]
abbrev tG:List Nat:=[1,0]
abbrev nl6:List Nat:=[1,1,1,1,1,1]
abbrev nl7:List Nat:=[1,0,0]
abbrev nl8:List Nat:=[1,1,1]
abbrev nl9:List Nat:=[1,1,1,1,1]
abbrev xO:List Nat:=[7,1,0]
abbrev xP:List Nat:=[2,1,0]
abbrev xQ:List Nat:=[0,1,2,3,4,5,6]
abbrev xR:List Nat:=[0,0,1,0,0,0]
abbrev zN:List Nat:=[0,1,0]
abbrev zP:List Nat:=[0,1,2,3,4,5,6,7,8,9,10]
abbrev AgV:List Nat:=[3,2,1,0]
abbrev AgW:List Nat:=[1,1,1,1,0]
abbrev AgX:List Nat:=[0,1,0,0,0]
abbrev Aj2:List Nat:=[0,1,2,3,4,5]
abbrev Aj3:List Nat:=[1,1,0,0]
abbrev Aj4:List Nat:=[0,1,2,3,4,5,6,7,8,9,10,11,12,13]
abbrev Ao0:List Nat:=[0,1,2,3,4,5,6,7,8,9,10,11]
abbrev Ao1:List Nat:=[0,1,2,3,4,5,6,7,8,9]
abbrev AsV:List Nat:=[0,1,2,3,4,5,6,7,8,9,10,11,12]
abbrev AsW:List Nat:=[0,1,2,3,4,5,6,7,8]
abbrev Av1:List Nat:=[0,1,2,3,5,6,7,8,4,9,10,11]
abbrev Av2:List Nat:=[0,1,2,3,4,5,6,7,8,9,10,11,12,13,14,15]
abbrev Av3:List Nat:=[0,0,0,0,0,0,0]
abbrev Av4:List Nat:=[0,0,1,0,0,0,0]
abbrev AxK:List Nat:=[0,1,2,3,4,5,7,8,10,11,6,9,12,13]
abbrev AxL:List Nat:=[0,1,2,3,4,5,10,6,7,8,9,999,11]
abbrev Az6:List Nat:=[0,1,2,3,4,5,6,7,8,9,10,11,12,13,14,15,16,17]
abbrev Az7:List Nat:=[0,1,2,3,4,5,6,7,8,9,10,11,12,13,14,15,16,17,18,19,20,21,22,23,24]
variable {I:IH}
variable {b2 b3 b4 b5 b6 b7 b8 b9 c2 c3 c4 c5 c6 c7 c8 c9 lr b10 b11 b13 b14 b15 b16 b17 b18 b21 b22 b26 c10 c11 c12 c13 c18 c20 c24:Nat}
variable {p1 p2 p3 p4 p5 p6 p7 p8 p9 p10 p11 p12 p17 p19 p23:Option Addr}
variable {Rr:Nat→HA}
variable {ga1:aTa}
variable {gb1:aTb}
variable {gc1 gc3:aTc}
variable {gd1 gd11:aTd}
variable {gf1 gf3 gf4 gf7 gf8 gf14 gf17:aTf}
variable {gg1 gg4 gg11:aTg}
variable {gj1 gj2 gj11 gj19:aTj}
variable {gk1 gk3 gk10 gk14:aTk}
variable {gl1:aTl}
variable {gm1:aTm}
variable {gp3:aTp}
variable {gs3 gs4 gs5:aTs}
theorem FB {a0 a1 Q} (d:DX a0 a1 Q) :
  B7 prog 17 [vi a0,vi a1] I (λ_=>bE Q):=by
 refine Fun.ee func17 ntmps17 r (.F (.D 1 3 r (.B (.M 3 r (.T d [6,7] r (λa d=>?_) λa d=>?_)))))
 . exact .D 3 1027 r (.Q r r (.F (.D 1 16 r (.r0 results17 r ⟨0,r,d⟩))))
 refine .D 3 1027 r (.A r d (λb d=>?_) λb d=>?_)
 . exact .F (.D 1 16 r (.r0 results17 r ⟨0,r,d⟩))
 refine .O 3 r (.M 2 r ?_);have⟨c,d⟩:=d;exact .rem r r c r r (.D 1 16 r (.r0 results17 r ⟨(a0.tmod a1),r,d⟩))
theorem zQ {a0 Q} (J:RepSl CC I p1 c2 a0.Edges) (D:W6 a0 Q) :
  B7 prog 23 [.agg #[vi a0.N,.slice p1 a0.Edges.length c2]] I (o1_ Q):=by
 refine Fun.ee func23 ntmps23 r (.F (.y r fun _=>.al YL r fun _=>.V 6 1 r (.H AM .p1 r (.q call17 (FB (I:=I) D:) r fun g D=>.bd YL AcX AmT r (.al YL r fun S=>?_)))))
 refine .R CV .z r (.L 14 r (.B (.F (.D 1 30 r (.E (.own0 CC 115 (.lx D [3,2,1] [3,2] r (fun j E l (a,d)=>fun c w=>∃ e f,j ⟨51,[],none⟩ (fun _=>True) ((4,vi d) :: E) (pc S #[vi g,.slice e a.length f] 28 :: OwnSl CC 115 e f a :: l) c w) (fun c w O Z=>⟨_,_,jf rf tv [1,0,1,0] r O Z⟩) ?_)))))))
 rintro ⟨a,d⟩ _ D c w ⟨e,f,i,b,_,a6,a7⟩
 have J:=b.u1 J
 refine Cod.at a6 a7 (.B (.M 2 r (.H VM .p2 r (.ln H8 r (.G 2 r (.T D [14,15] r (fun p D=>?_) fun p D=>?_))))))
 · refine .G 4 r (.T D [17,18,19] r (fun q D=>?_) fun q D=>?_)
   · refine .G 1 r (.P r (.H AM .z r (.D 2 8388638 r (.A r D (fun s D=>?_) fun s D=>?_))))
     · refine .O 30 r (.B (.E (.M 1 r (.H VM .p2 r (.G 1 r ?_)))))
       obtain ⟨a4,k,t,_,_,K,u,D⟩:=J.ix D
       refine .Y H8 CT K a4 t r (.ldW KM CT u r r r r (.al N1 r fun _=>.R CT .z r (.L 62 r (.dr [0,1,2,3,4,5,7,8,9,10,12,13,14,6,11,15,16,17] 18 (.K 1 r (.W VM 1 r (.K 1 r (.W AM 0 r (.K 1 r (.W AM 1 r (.K 1 r ?_)))))))))))
       refine .W AM 0 r (.K 1 r (.W AM 1 r (.K 1 r (.W PN 0 r (.K 1 r (.X r (.q call17 (FB (I:=i) D:) r fun m D=>?_)))))))
       refine .v 5 r (.u 1 r r (.U r (.H PN .z r .mk) (.u 1 r r (.U r (.H AM .p1 r .mk) (.u 1 r r (.U r (.H AM .z r .mk) (.u 1 r r (.U r (.H VM .p1 r .mk) (.u 1 r r tv))))))))) (.X r (.q call17 (FB (I:=i) D:) r fun o D=>?_))
       refine .v 5 r (.u 1 r r (.U r (.H PN .z r .mk) (.u 1 r r (.U r (.H VM .p1 r .mk) (.u 1 r r tv))))) (.h r (.bd N1 nM AqN r .mk) (.X r (.bs 1 H8 CT N1 r fun _=>?_)))
       refine .v 6 r (.U r (.H VM .p2 r .mk) (.u 1 r r tv)) (.X r ?_)
       obtain ⟨y,D⟩:=D
       exact .ap (ys:=[({ From:=m,To:=o,W:=cC .i64 k.W 2147483647 }:B5)]) .p3 H8 H8 wK r (.box .z (.one r) r) y fun _ _=>.v 6 r tv (.e2 18 (.G 1 r (.s1 sizeOf26 .p3 r (.L 30 r (.drop .p1 (.drop .p1 (.C (.G 3 r (.I fun c w O Z=>⟨_,D,_,_,jf b tv [1,0,0,0] r O Z⟩)))))))))
     refine .en 12 r (.drop .p2 (.F (.S FH CV .z r (.R CV .p2 r (.L 4 r (.drop .z (.pub .z fun _ A L=>?_)))))))
     have B:=A.u1 b
     exact .J (B6 r (.w FH CV r .z r .n) B ⟨({ N:=g,Edges:=a }:Graph),_,_,r,L,D⟩)
   refine .D 4 8388638 r (.j r r (.en 12 r (.drop .p2 (.F (.S FH CV .z r (.R CV .p2 r (.L 4 r (.drop .z (.pub .z fun _ C a5=>?_)))))))))
   have a2:=C.u1 b
   exact .J (B6 r (.w FH CV r .z r .n) a2 ⟨({ N:=g,Edges:=a }:Graph),_,_,r,a5,D⟩)
 refine .D 8 8388638 r (.j r r (.en 12 r (.drop .p2 (.F (.S FH CV .z r (.R CV .p2 r (.L 4 r (.drop .z (.pub .z fun _ F P=>?_)))))))))
 have G:=F.u1 b
 exact .J (B6 r (.w FH CV r .z r .n) G ⟨({ N:=g,Edges:=a }:Graph),_,_,r,P,D⟩)
theorem AdN {a0 a1 Q} (J:RepSl B2 I p1 c2 a0.Draws) (D:Z5 a0 a1 Q) :
  B7 prog 24 [.agg (F0 a0 p1 c2),vi a1] I (λV v=>∃ r p4 c5,v=.agg (F0 r p4 c5)∧RepSl B2 V p4 c5 r.Draws∧Q r):=by
 refine Fun.ee func24 ntmps24 r (.F (.y r λa2=>.al zeroValue25 r λ_=>.L 22 r (.B (.jn D [4,2,1] [0] r (λj E l p=>j E (pc a2 #[vi p,vi a0.N,vi a0.Source,vi a0.Length,.slice p1 a0.Draws.length c2] 25 :: l)) (λ_ D=>?_) ?_))))
 . refine .M 1 r (.H VL .p1 r (.G 2 r (.T D [9,10] r (λP D=>?_) λP D=>?_)))
   . exact .D 4 16406 r (.Q r r (.C (.G 1 r (.s1 sizeOf22 .p1 r (.I (je 3 D rf tG r))))))
   refine .G 1 r (.P r (.H VL .p1 r (.D 2 16406 r (.A r D (λR D=>?_) λR D=>?_))))
   . exact .C (.G 1 r (.s1 sizeOf22 .p1 r (.I (je 3 D rf tG r))))
   exact .AE (je a0.Kind D rf tG r)
 refine λp D=>jq r λa4 g=>?_;have J:=g.u1 J;refine .M 2 r (.s1 D5 .z r (.V 22 1 r (.H AM .z r (.G 1 r (.q call17 (FB (I:=a4) D:) r λq D=>.G 1 r (.s1 D5 .z r (.V 22 1 r (.H AM .z r (.q call17 (FB (I:=a4) D:) r λs D=>?_)))))))));refine .G 1 r (.s1 D5 .z r (.V 22 1 r (.L 54 r (.B (.jx D [4,2,1] PR r (λj E l a=>λc w=>∃ h i,j ⟨58,[],none⟩ (λV=>True) ((5,.slice h a.length i) :: E) (OwnSl B2 2 h i a :: l) c w) (λ_ D=>?_) ?_)))))
 . refine .F (.D 1 118 r (.E (.own0 B2 2 (.lx D [4,2,1] [1,1] r (λj E l (b,k)=>λc w=>∃ m o,j ⟨58,[],none⟩ (λV=>True) ((5,.slice m b.length o) :: (6,vi k) :: E) (OwnSl B2 2 m o b :: l) c w) (λc w O U=>⟨_,_,jf rf tv VO r O U⟩) ?_))));rintro⟨b,k⟩ _ D c w ⟨m,o,_,d,_,W,Z⟩;have⟨_,J⟩:=d.u2 g J;refine Cod.at W Z (.B (.M 2 r (.H F3 .p1 r (.ln DU r (.G 2 r (.T D [31,32] r (λu D=>?_) λu D=>?_))))))
   . refine .D 3 34359738486 r (.A r D (λx D=>?_) λx D=>?_)
     . refine .O 118 r (.B (.E (.C (.G 2 r (.H F3 .p1 r (.G 1 r ?_))))));have⟨a7,t,y,_,_,a8,A,D⟩:=J.ix D;refine .Y DU dK a8 a7 y r (.ldb 0 PN A r (.G 1 r (.bs 1 DU dK zv2 r λ_=>?_)));have⟨B,D⟩:=D;exact .ap (ys:=[cC .i64 t 2147483647]) .p1 DU DU IN2 r (.box .z (.one r) r) B λ_ _=>.D 1 118 r (.drop .p1 (.C (.G 3 r (.I λc w O U=>⟨_,D,_,_,jf d tv VO r O U⟩))))
     exact .exit λc w O U=>⟨b,D,_,_,jf d tv VO r O U⟩
   exact .D 3 34359738486 r (.j r r (.exit λc w O U=>⟨b,D,_,_,jf d tv VO r O U⟩))
 rintro a D c w ⟨h,i,_,e,_,W,Z⟩;have⟨f,J⟩:=e.u2 g J;refine Cod.at W Z (.M 2 r (.s1 sizeOf23 .p1 r (.L 22 r (.B (.M 3 r (.T D [50,51] r (λC D=>?_) λC D=>?_))))))
 . refine .G 1 r (.P r (.H VL .p1 r (.D 2 36028797018963988 r (.A r D (λa5 D=>?_) λa5 D=>?_))))
   . refine .C (.G 1 r (.s1 sizeOf22 .p1 r (.ns 20 r (.S FV F9 .p1 r (.R F9 .p2 r (.L 16 r (.drop .p1 (.pub .z λ_ F a9=>?_))))))));have⟨G,_⟩:=F.u2 f e;exact .J (B6 r (.w FV F9 r .z r .n) G ⟨({ Kind:=3,N:=a1,Source:=q,Length:=s,Draws:=a }:Plan),_,_,r,a9,D⟩)
   refine .O 20 r (.F (.S FV F9 .p1 r (.R F9 .p2 r (.L 16 r (.drop .p1 (.pub .z λ_ H X=>?_))))));have⟨a6,_⟩:=H.u2 f e;exact .J (B6 r (.w FV F9 r .z r .n) a6 ⟨({ Kind:=p,N:=a1,Source:=q,Length:=s,Draws:=a }:Plan),_,_,r,X,D⟩)
 refine .D 4 36028797018963988 r (.j r r (.O 20 r (.F (.S FV F9 .p1 r (.R F9 .p2 r (.L 16 r (.drop .p1 (.pub .z λ_ K Y=>?_))))))));have⟨L,_⟩:=K.u2 f e;exact .J (B6 r (.w FV F9 r .z r .n) L ⟨({ Kind:=p,N:=a1,Source:=q,Length:=s,Draws:=a }:Plan),_,_,r,Y,D⟩)
theorem oM {a0 Q} (d:lTa I ga1 a0) (hd:NQ a0 Q) :
  B7 prog 10 [.agg (AeZ a0 ga1)] I (λI_ v=>∃ r p3 c4 p6 c7,v=.tuple #[.agg (F0 r.1 p3 c4),.agg #[vi r.2.1.N,.slice p6 r.2.1.Edges.length c7],vi r.2.2]∧RepSl B2 I_ p3 c4 r.1.Draws∧RepSl CC I_ p6 c7 r.2.1.Edges∧Q r):=by
 refine Fun.ee func10 ntmps10 r ?_;refine .F (.y r λ_=>.al zeroValue25 r λ_=>?_);refine .al YL r λ_=>.G 1 r (.V 14 1 r (.Z FH CV r .p2 (.o 2 r) r r r (.ca call23 r (zQ d.2 hd:) λ_ _ a a2=>?_)));obtain⟨j,_,_,rfl,b,hd⟩:=a2;have d:=a.u1 d;refine .al YL r λ_=>.R CV .z r (.L 46 r (.B (.dr [0,1,2,3,5,6,7,8,9,4,10,11] 12 (.K 1 r (.h r (.Z FV F9 r .p3 (.o 5 r) r r r .mk) (.K 1 r (.W AM 0 r (.h r (.S FH CV .z r .mk) (.K 1 r ?_)))))))));refine .W isAgg5 3 r (.h r (.conv un5 lK r r r .mk) (.h r (.rem r r (by decide) r r .mk) (.X r ?_)));refine .ca call24 r (AdN d.1 hd:) λ_ _ f g=>?_;obtain⟨k,_,_,rfl,l,hd⟩:=g;have⟨i,d,b⟩:=f.u3 a d b;refine .v 4 r (.U r (.rem r r (by decide) r r .mk) (.U r (.conv un5 lK r r r .mk) (.U r (.H isAgg5 .p3 r .mk) (.u 1 r r (.U r (.S FH CV .z r .mk) tv))))) (.X r ?_);refine .R F9 .p2 r (.O 4 r r r (.U r (.rem r r (by decide) r r .mk) (.U r (.conv un5 lK r r r .mk) (.U r (.H isAgg5 .p3 r .mk) (.u 1 r r (.U r (.S FH CV .z r .mk) tv))))) (.X r ?_));exact .R CV .p1 r (.O 4 r r r (.U r (.rem r r (by decide) r r .mk) (.U r (.conv un5 lK r r r .mk) (.U r (.H isAgg5 .p3 r .mk) (.u 1 r r tv)))) (.e2 12 (.D 1 28 r (.drop .z (.drop .p2 (.J (B6 r (.w FV F9 r .p1 r (.w FH CV r .z r (.t r .n))) i ⟨(k,j,(AJ (a0.Limit)).tmod 40),_,_,_,_,r,l,b,hd⟩)))))))
theorem oN {a0 Q} (U:lTb I gb1 a0) (O:SR a0 Q) :
  B7 prog 4 [.agg (rP a0 gb1)] I (λW v=>∃ r gc3,v=.agg (ZK r gc3)∧lTc W gc3 r∧Q r):=by
 refine Fun.ee func4 ntmps4 r ?_;refine .F (.y r λ_=>.al zeroValue38 r λ_=>?_);refine .V 6 1 r (.Z isAgg30 sizeOf30 r .p1 (.o 8 r) r r r (.ca call10 r (oM U.1 O:) λ_ _ b p=>?_));obtain⟨d,_,_,_,_,rfl,e,f,O⟩:=p;have U:=b.u1 U;refine .G 4 r (.al zeroValue25 r λ_=>.al YL r λ_=>.R F9 .p1 r (.R CV .z r (.G 1 r (.V 62 1 r (.H isAgg31 .p3 r (.D 1 126 r (.B (.jx O [5,4,3,2,1] AgV r (λj E l a=>λc w=>∃ g h,j ⟨41,[],none⟩ (λW=>RepSl RM W g h a) ((6,.slice g a.length h) :: E) l c w) (λ_ O=>?_) ?_))))))))
 . refine .M 1 r (.ln zB r (.D 1 262270 r (.A r O (λq O=>?_) λq O=>?_)))
   . refine .C (.G 1 r ?_);have⟨_,_,_,O⟩:=O;have i:Int.toNat 0<=Int.toNat 8:=by omega
     have k:Int.toNat 8<=a0.Choices.length:=by omega
     have⟨_,_,u,x,y⟩:=RepSl.sliceW U.2 (Int.toNat 0) (Int.toNat 8) gb1.2.2 i k (.inl rfl);exact .sliceW (L:=Int.toNat 0) (H:=Int.toNat 8) (cm:=gb1.2.2) zB sizeOf198 r r U.2.1 r r r (.inl ⟨r,r⟩) (.inr ⟨_,_,r,(by omega),r⟩) (.inl r) i k r u x r r (.G 1 r (.I λc w ho hs=>⟨_,O,_,_,jf rf y AgV r ho hs⟩))
   exact .AE λc w ho hs=>⟨_,O,_,_,jf rf U.2 AgV r ho hs⟩
 rintro a O c w ⟨g,h,_,s,A,a2,a4⟩;have⟨t,U,e,f⟩:=s.u4 b U e f;refine Cod.at a2 a4 (.F (.S FV F9 .p2 r (.S FH CV .p3 r (.G 1 r (.H isAgg5 .z r (.conv un5 lK r r r (.rem r r (by decide) r r (.G 2 r (.H isAgg5 .z r ?_)))))))));exact .conv un5 lK r r r (.rem r r (by decide) r r (.G 2 r (.H isAgg5 .z r (.conv un5 lK r r r (.rem r r (by decide) r r (.G 3 r (.bd zeroValue38 underlying38 Az9 r (.R ZV .p1 r (.L 4 r (.drop .z (.drop .p1 (.drop .p1 (.J (B6 r (.w dL ZV r .z r .n) t ⟨({ Plan:=d.1,Graph:=d.2.1,R:=AJ (((AJ (a0.R)).tmod 4)+1),C:=AJ (((AJ (a0.C)).tmod 4)+1),Room:=AJ (((AJ (a0.Room)).tmod 5)+1),Limit:=d.2.2,Choices:=a }:KG),((_,_),(_,_),(_,_)),r,⟨e,f,A⟩,O⟩))))))))))))))
theorem NK {a0 a1 Q} (d:JH a0 a1 Q) :
  B7 prog 129 [vi a0,vi a1] I (λ_=>dJ Q):=by
 refine Fun.ee func129 ntmps129 r (.M 1 r (.V 3 3 r (.T d [6,7] r (λa d=>?_) λa d=>?_)))
 . exact .D 5 16 r (.r0 results129 r ⟨(decide (a0<=a1)),r,d⟩)
 exact .D 5 16 r (.r0 results129 r ⟨false,r,d⟩)
theorem kL {a0 Q} (d:Q5 a0 Q) :
  Fun prog 131 #[vi a0] I [] (λ_ v l=>∃ r,v=.bool r∧l=[]∧Q r):=by
 refine Fun.ee func131 ntmps131 r (.M 1 r (.V 1 3 r (.T d [4,5] r (λa d=>?_) λa d=>?_)))
 . exact .D 4 4 r (.q1 results131 rf [] r ⟨true,r,r,d⟩)
 exact .D 4 4 r (.q1 results131 rf [] r ⟨(decide (2147483647<a0)),r,r,d⟩)
theorem O8 {a0 Q} (J:RepSl B2 I p1 c2 a0) (h:F6 a0 Q) :
  Fun prog 199 #[.slice p1 a0.length c2,.func (.func 131) #[] #[]] I [] (λ_ v l=>∃ r,v=vi r∧l=[]∧Q r):=by
 refine Fun.ee func199 ntmps199 r (.F (.D 1 3 r (.B (.M 1 r (.ln DU r (.D 1 387 r (.E (.lp h xO [] r (λj E l d=>j ((8,vi d) :: E) l) (ji rf [] r) ?_))))))));refine λd _ h=>jq r λp a=>?_;have J:=a.u1 J;refine .F (.D 1 899 r (.B (.A r h (λf h=>?_) λf h=>?_)))
 . refine .O 387 r (.B (.E (.M 2 r (.V 419 3 r ?_))));have⟨q,_,g,_,_,s,b,h⟩:=J.ix h;refine .Y DU dK s q g r (.ldb 0 PN b r ?_);refine .x (.c call131 r r) .n r (kL (I:=p) h:) λ_ _ _ i k=>?_;obtain⟨_,rfl,rfl,h⟩:=k;have⟨e,J,b⟩:=i.u3 a J b;refine .rn 0 r (.L 65955 r (.A r h (λm h=>?_) λm h=>?_))
   . exact .F (.D 2 18 r (.q1 results199 e [] r ⟨d,r,r,h⟩))
   exact .O 387 r (.C (.G 2 r (.I (je (AJ (d+1)) h e [] r))))
 exact .en 2 r (.F (.D 1 18 r (.q1 results199 a [] r ⟨(-1),r,r,h⟩)))
theorem MV {a0 Q} (h:RepSl B2 I p1 c2 a0) (J:BH a0 Q) :
  Fun prog 130 #[.slice p1 a0.length c2,.func (.func 131) #[] #[]] I [] (λ_ v l=>∃ r,v=.bool r∧l=[]∧Q r):=by
 refine Fun.ee func130 ntmps130 r ?_;refine .M 1 r (.V 3 2 r ?_);refine .x (.f call199 r) .n r (O8 h J:) λ_ _ _ a c=>?_;obtain⟨d,rfl,rfl,J⟩:=c;have h:=a.u1 h;exact .rn 0 r (.D 2 18 r (.q1 results130 a [] r ⟨(decide (0<=d)),r,r,J⟩))
theorem TL {a0 Q} (U:RepSl B2 I p1 c2 a0.Draws) (J:NX a0 Q) :
  B7 prog 80 [.agg (F0 a0 p1 c2)] I (λ_=>bE Q):=by
 refine Fun.ee func80 ntmps80 r (.F (.y r λ_=>.D 1 2 r (.B (.M 1 r (.H VL .z r (.G 2 r (.T J [5,6] r (λu J=>?_) λu J=>?_)))))))
 . exact .D 4 1026 r (.Q r r (.F (.D 1 4 r (.drop .z (.r0 results80 r ⟨8,r,J⟩)))))
 refine .G 1 r (.P r (.H VL .z r (.D 2 1026 r (.A r J (λv J=>?_) λv J=>?_))))
 . exact .F (.D 1 4 r (.drop .z (.r0 results80 r ⟨8,r,J⟩)))
 refine .O 2 r (.B (.M 1 r (.H AM .z r (.q call129 (NK (I:=I) J:) r λ_ J=>.D 1 16386 r (.A r J (λx J=>?_) λx J=>?_)))))
 . exact .F (.D 1 4 r (.drop .z (.r0 results80 r ⟨3,r,J⟩)))
 refine .O 2 r (.B (.jn J [1] [0] r (λj E l _=>j E l) (λ_ J=>?_) ?_))
 . refine .M 1 r (.H VL .z r (.L 65538 r (.E (.B (.jn J [1] [0] r (λj E l _=>j E l) (λ_ J=>?_) ?_)))))
   . refine .E (.B (.E (.B (.B (.F (.D 2 196610 r (.A r J (λe J=>?_) λe J=>?_)))))))
     . refine .en 2 r (.M 1 r (.H AM .z r (.q call129 (NK (I:=I) J:) r λ_ J=>.D 1 33554434 r (.A r J (λh J=>?_) λh J=>?_))))
       . exact .F (.D 1 4 r (.drop .z (.r0 results80 r ⟨3,r,J⟩)))
       exact .AE (je () J rf [0] r)
     refine .O 65538 r (.B (.F (.D 2 589826 r (.A r J (λc J=>?_) λc J=>?_))))
     . exact .O 524290 r (.Q r c (.exit (je () J rf [0] r)))
     refine .C (.D 2 524290 r (.A r J (λi J=>?_) λi J=>?_))
     . exact .exit (je () J rf [0] r)
     exact .O 2 r (.exit (je () J rf [0] r))
   refine λ_ J=>jq r λy a=>?_;have U:=a.u1 U;refine .B (.M 1 r (.H AM .z r (.G 1 r (.H AM .z r (.G 1 r (.q call129 (NK (I:=y) J:) r λ_ J=>.D 1 4294967298 r (.A r J (λm J=>?_) λm J=>?_)))))))
   . exact .F (.D 1 4 r (.drop .z (.r1 results80 r a ⟨3,r,J⟩)))
   exact .O 2 r (.exit (je () J a [0] r))
 refine λ_ J=>jq r λ_ b=>?_;have U:=b.u1 U;refine .B (.E (.M 1 r (.H F3 .z r (.ln DU r (.D 2 8589934594 r (.A r J (λo J=>?_) λo J=>?_))))))
 . exact .F (.D 1 4 r (.drop .z (.r1 results80 r b ⟨5,r,J⟩)))
 refine .M 1 r (.H F3 .z r ?_);refine .x (.f call130 r) .n r (MV U J:) λ_ _ _ q s=>?_;obtain⟨_,rfl,rfl,J⟩:=s;have⟨d,U⟩:=q.u2 b U;refine .rn 1 r (.D 1 274877906944 r (.drop .z (.A r J (λt J=>?_) λt J=>?_)))
 . exact .F (.D 1 4 r (.r1 results80 r d ⟨7,r,J⟩))
 exact .O 0 r (.F (.D 1 4 r (.r1 results80 r d ⟨0,r,J⟩)))
theorem T3 {o0 a0 Q} (h:RepSl CC I p3 c4 o0.Edges) (d:LA o0 a0 Q) :
  Fun prog 188 #[vi a0,vp b2] I [pc b2 #[vi o0.N,.slice p3 o0.Edges.length c4] 28] (λ_ v l=>∃ r,v=.bool r∧l=[pc b2 #[vi o0.N,.slice p3 o0.Edges.length c4] 28]∧Q r):=by
 refine Fun.ee func188 ntmps188 r (.M 1 r (.V 3 3 r (.T d [5,6] r (λa d=>?_) λa d=>?_)))
 . exact .D 6 10 r (.q1 results188 rf [0] r ⟨true,r,r,d⟩)
 exact .G 2 r (.P r (.H AM .z r (.D 3 10 r (.q1 results188 rf [0] r ⟨(decide (o0.N<=a0)),r,r,d⟩))))
theorem gV {o1 a0 Q} (O:RepSl CC I p5 c6 o1.Edges) (J:OX o1 a0 Q) :
  Fun prog 190 #[.agg (L9 a0).toArray,vp b3] I [pc b3 #[.func (.func 188) #[] #[vp b4]] 82,pc b4 #[vi o1.N,.slice p5 o1.Edges.length c6] 28] (λ_ v l=>∃ r,v=.bool r∧l=[pc b3 #[.func (.func 188) #[] #[vp b4]] 82,pc b4 #[vi o1.N,.slice p5 o1.Edges.length c6] 28]∧Q r):=by
 refine Fun.ee func190 ntmps190 r ?_;refine .F (.y r λ_=>?_);refine .G 1 r (.ns 6 r (.H isAgg82 .p1 r (.G 1 r (.H AM .z r (.x (.c call188 r r) (.o [2] r) r (T3 (b2:=b4) O J:) λ_ _ _ a d=>?_)))));obtain⟨_,rfl,rfl,J⟩:=d;have O:=a.u1 O;refine .rn 3 r (.G 1 r (.T J [7,8] r (λe J=>?_) λe J=>?_))
 . exact .D 6 10 r (.drop .p1 (.q1 results190 a tG r ⟨true,r,r,J⟩))
 refine .P r (.H isAgg82 .p2 r (.G 1 r (.P r (.H AM .p1 r ?_))));refine .P r (.x (.c call188 r r) (.o [0] r) r (T3 (b2:=b4) O J:) λ_ _ _ g h=>?_);obtain⟨j,rfl,rfl,J⟩:=h;have⟨i,O⟩:=g.u2 a O;exact .rn 3 r (.D 2 10 r (.drop .p1 (.q1 results190 i tG r ⟨j,r,r,J⟩)))
theorem L0 {o1 a0 Q} (J:RepSl CC I p5 c6 o1.Edges) (U:RepSl CC I p8 c9 a0) (h:DO o1 a0 Q) :
  Fun prog 259 #[.slice p8 a0.length c9,.func (.func 190) #[] #[vp b3]] I [pc b3 #[.func (.func 188) #[] #[vp b4]] 82,pc b4 #[vi o1.N,.slice p5 o1.Edges.length c6] 28] (λ_ v l=>∃ r,v=vi r∧l=[pc b3 #[.func (.func 188) #[] #[vp b4]] 82,pc b4 #[vi o1.N,.slice p5 o1.Edges.length c6] 28]∧Q r):=by
 refine Fun.ee func259 ntmps259 r (.F (.D 1 3 r (.B (.M 1 r (.ln H8 r (.D 1 387 r (.E (.lp h xO PR r (λj E l d=>j ((8,vi d) :: E) l) (ji rf PR r) ?_))))))));refine λd _ h=>jq r λ_ a=>?_;have⟨J,U⟩:=a.u2 J U;refine .F (.D 1 899 r (.B (.A r h (λf h=>?_) λf h=>?_)))
 . refine .O 387 r (.B (.E (.M 2 r (.V 419 3 r ?_))));have⟨p,_,g,_,_,q,b,h⟩:=U.ix h;refine .Y H8 CT q p g r (.ldW KM CT b r r r r ?_);refine .x (.c call190 r r) (.o PR r) r (gV (b3:=b3) (b4:=b4) J h:) λ_ _ _ i k=>?_;obtain⟨_,rfl,rfl,h⟩:=k;have⟨e,J,U,b⟩:=i.u4 a J U b;refine .rn 2 r (.L 65955 r (.A r h (λm h=>?_) λm h=>?_))
   . exact .F (.D 2 18 r (.q1 results259 e PR r ⟨d,r,r,h⟩))
   exact .O 387 r (.C (.G 2 r (.I (je (AJ (d+1)) h e PR r))))
 exact .en 2 r (.F (.D 1 18 r (.q1 results259 a PR r ⟨(-1),r,r,h⟩)))
theorem JB {o1 a0 Q} (h:RepSl CC I p5 c6 o1.Edges) (O:RepSl CC I p8 c9 a0) (J:D6 o1 a0 Q) :
  Fun prog 189 #[.slice p8 a0.length c9,.func (.func 190) #[] #[vp b3]] I [pc b3 #[.func (.func 188) #[] #[vp b4]] 82,pc b4 #[vi o1.N,.slice p5 o1.Edges.length c6] 28] (λ_ v l=>∃ r,v=.bool r∧l=[pc b3 #[.func (.func 188) #[] #[vp b4]] 82,pc b4 #[vi o1.N,.slice p5 o1.Edges.length c6] 28]∧Q r):=by
 refine Fun.ee func189 ntmps189 r ?_;refine .M 1 r (.V 3 2 r ?_);refine .x (.f call259 r) (.o PR r) r (L0 (b3:=b3) (b4:=b4) h O J:) λ_ _ _ a c=>?_;obtain⟨d,rfl,rfl,J⟩:=c;have⟨h,O⟩:=a.u2 h O;exact .rn 2 r (.D 2 18 r (.q1 results189 a PR r ⟨(decide (0<=d)),r,r,J⟩))
theorem gW {a0 Q} (d:OY a0 Q) :
  Fun prog 191 #[.agg (L9 a0).toArray] I [] (λ_ v l=>∃ r,v=.bool r∧l=[]∧Q r):=by
 refine Fun.ee func191 ntmps191 r (.F (.y r λ_=>.G 1 r (.V 2 1 r (.H PN .z r (.G 2 r (.T d [5,6] r (λa d=>?_) λa d=>?_))))))
 . exact .D 5 4 r (.drop .z (.q1 results191 rf [] r ⟨true,r,r,d⟩))
 exact .G 1 r (.P r (.H PN .z r (.D 3 4 r (.drop .z (.q1 results191 rf [] r ⟨(decide (2147483647<a0.W)),r,r,d⟩)))))
theorem L1 {a0 Q} (J:RepSl CC I p1 c2 a0) (h:DP a0 Q) :
  Fun prog 259 #[.slice p1 a0.length c2,.func (.func 191) #[] #[]] I [] (λ_ v l=>∃ r,v=vi r∧l=[]∧Q r):=by
 refine Fun.ee func259 ntmps259 r (.F (.D 1 3 r (.B (.M 1 r (.ln H8 r (.D 1 387 r (.E (.lp h xO [] r (λj E l d=>j ((8,vi d) :: E) l) (ji rf [] r) ?_))))))));refine λd _ h=>jq r λp a=>?_;have J:=a.u1 J;refine .F (.D 1 899 r (.B (.A r h (λf h=>?_) λf h=>?_)))
 . refine .O 387 r (.B (.E (.M 2 r (.V 419 3 r ?_))));have⟨q,_,g,_,_,s,b,h⟩:=J.ix h;refine .Y H8 CT s q g r (.ldW KM CT b r r r r ?_);refine .x (.c call191 r r) .n r (gW (I:=p) h:) λ_ _ _ i k=>?_;obtain⟨_,rfl,rfl,h⟩:=k;have⟨e,J,b⟩:=i.u3 a J b;refine .rn 0 r (.L 65955 r (.A r h (λm h=>?_) λm h=>?_))
   . exact .F (.D 2 18 r (.q1 results259 e [] r ⟨d,r,r,h⟩))
   exact .O 387 r (.C (.G 2 r (.I (je (AJ (d+1)) h e [] r))))
 exact .en 2 r (.F (.D 1 18 r (.q1 results259 a [] r ⟨(-1),r,r,h⟩)))
theorem JC {a0 Q} (h:RepSl CC I p1 c2 a0) (J:CF a0 Q) :
  Fun prog 189 #[.slice p1 a0.length c2,.func (.func 191) #[] #[]] I [] (λ_ v l=>∃ r,v=.bool r∧l=[]∧Q r):=by
 refine Fun.ee func189 ntmps189 r ?_;refine .M 1 r (.V 3 2 r ?_);refine .x (.f call259 r) .n r (L1 h J:) λ_ _ _ a c=>?_;obtain⟨d,rfl,rfl,J⟩:=c;have h:=a.u1 h;exact .rn 0 r (.D 2 18 r (.q1 results189 a [] r ⟨(decide (0<=d)),r,r,J⟩))
theorem iU {a0 Q} (U:RepSl CC I p1 c2 a0.Edges) (J:RY a0 Q) :
  B7 prog 123 [.agg #[vi a0.N,.slice p1 a0.Edges.length c2]] I (λ_=>bE Q):=by
 refine Fun.ee func123 ntmps123 r (.F (.y r λw=>.G 1 r (.ns 2 r (.mkFn r r r r (.alloc1 zeroValue82 r r r λv=>.s1 sizeOf82 .z r (.L 10 r (.B (.E (.M 1 r (.H AM .p1 r (.D 2 42 r (.A r J (λe J=>?_) λe J=>?_))))))))))))
 . exact .F (.D 1 4 r (.drop .z (.drop .z (.r0 results123 r ⟨3,r,J⟩))))
 refine .B (.jn J [3,1] tG r (λj E l d=>j ((9,.bool d) :: E) l) (λ_ J=>?_) ?_)
 . refine .M 1 r (.H AM .p1 r (.D 2 522 r (.A r J (λg J=>?_) λg J=>?_)))
   . exact .AE (je (decide (4096<a0.N)) J rf tG r)
   exact .C (.G 1 r (.H VM .p1 r (.ln H8 r (.G 2 r (.I (je (decide (65536<(a0.Edges.length:Int))) J rf tG r))))))
 refine λd J=>jq r λ_ a=>?_;have U:=a.u1 U;refine .A r J (λh J=>?_) λh J=>?_
 . exact .F (.D 1 4 r (.drop .z (.drop .z (.r1 results123 r a ⟨5,r,J⟩))))
 refine .M 1 r (.H VM .z r (.mkFn r r r r ?_));refine .x (.f call189 r) (.o tG r) r (JB (b3:=v) (b4:=w) U U J:) λ_ _ _ k m=>?_;obtain⟨_,rfl,rfl,J⟩:=m;have⟨b,U⟩:=k.u2 a U;refine .rn 2 r (.D 1 131074 r (.drop .z (.A r J (λp J=>?_) λp J=>?_)))
 . exact .F (.D 1 4 r (.drop .z (.r1 results123 r b ⟨3,r,J⟩)))
 refine .M 1 r (.H VM .z r ?_);refine .x (.f call189 r) .n r (JC U J:) λ_ _ _ s t=>?_;obtain⟨_,rfl,rfl,J⟩:=t;have⟨c,U⟩:=s.u2 b U;refine .rn 1 r (.D 1 4194304 r (.drop .z (.A r J (λu J=>?_) λu J=>?_)))
 . exact .F (.D 1 4 r (.r1 results123 r c ⟨7,r,J⟩))
 exact .O 0 r (.F (.D 1 4 r (.r1 results123 r c ⟨0,r,J⟩)))
theorem U1 {a0 Q} (d:T8 a0 Q) :
  B7 prog 148 [vi a0] I (λ_=>dJ Q):=by
 refine Fun.ee func148 ntmps148 r (.M 1 r (.V 1 3 r (.T d [4,5] r (λa d=>?_) λa d=>?_)))
 . exact .D 4 4 r (.r0 results148 r ⟨(decide (a0<6)),r,d⟩)
 exact .D 4 4 r (.r0 results148 r ⟨false,r,d⟩)
theorem OP {a0 Q} (d:OZ a0 Q) :
  B7 prog 149 [vi a0] I (λ_=>o3_ Q):=by
 exact Fun.ee func149 ntmps149 r (.F (.al GF r λ_=>.V 5 1 r (.shr' r r (by decide) r r (.G 1 r (.conv un2 T0 r r r (.bd GF nN nL r (.R B9 .z r (.L 4 r (.J (B6 r (.w C0 B9 r .z r .n) rf ⟨({ Hi:=shr .i64 a0 63,Lo:=IntKind.wrap .u64 (a0) }:AQ),r,d⟩))))))))))
theorem TM {a0 Q} (d:NY a0 Q) :
  B7 prog 146 [.bool a0] I (λ_=>o3_ Q):=by
 refine Fun.ee func146 ntmps146 r (.F (.al GF r λ_=>.L 5 r (.B (.F (.D 1 12 r (.A r d (λa d=>?_) λa d=>?_))))))
 . exact .F (.q call149 (OP (I:=I) d:) r λc d=>.R B9 .z r (.L 4 r (.J (B6 r (.w C0 B9 r .z r .n) rf ⟨c,r,d⟩))))
 exact .O 4 r (.F (.bd GF nN nL r (.R B9 .z r (.L 4 r (.J (B6 r (.w C0 B9 r .z r .n) rf ⟨NW,r,d⟩))))))
theorem MW {a0 Q} (U:RepSl B2 I p1 c2 a0) (J:JX a0 Q) :
  B7 prog 71 [.slice p1 a0.length c2] I (λ_=>bE Q):=by
 refine Fun.ee func71 ntmps71 r (.M 1 r (.V 1 1 r (.L 9 r (.B (.M 1 r (.ln B0 r (.D 1 456 r (.E (.lp J [7,6,3] [] r (λj E l b=>j ((8,vi b) :: E) l) (ji rf [] r) ?_)))))))));refine λb _ J=>jq r λ_ a=>?_;have U:=a.u1 U;refine .F (.D 1 968 r (.B (.A r J (λc J=>?_) λc J=>?_)))
 . refine .O 456 r (.B (.E (.F ?_)));have⟨h,i,d,_,_,k,e,J⟩:=U.ix J;refine .Y B0 D5 k h d r (.ldb 0 AM e r (.G 1 r (.V 488 3 r (.L 16872 r (.A r J (λf J=>?_) λf J=>?_)))))
   . exact .F (.D 2 4 r (.r1 results71 r a ⟨i,r,J⟩))
   exact .O 456 r (.C (.G 2 r (.I (je (AJ (b+1)) J a [] r))))
 exact .en 8 r (.F (.D 2 4 r (.r1 results71 r a ⟨0,r,J⟩)))
theorem WV {a0 Q} (d:NR a0 Q) :
  B7 prog 297 [vi a0] I (λ_=>dJ Q):=by
 exact Fun.ee func297 ntmps297 r (.M 1 r (.V 1 4 r (.L 4 r (.r0 results297 r ⟨(a0 != a0),r,d⟩))))
theorem T4 {a0 a1 Q} (h:HT a0 a1 Q) :
  B7 prog 272 [vi a0,vi a1] I (λ_=>bE Q):=by
 refine Fun.ee func272 ntmps272 r (.M 1 r (.V 3 1 r (.q call297 (WV (I:=I) h:) r λ_ h=>.G 1 r (.V 35 1 r (.q call297 (WV (I:=I) h:) r λ_ h=>.D 1 99 r (.B (.F (.D 1 2115 r (.A r h (λb h=>?_) λb h=>?_)))))))))
 . refine .B (.F (.D 1 4096 r (.A r h (λc h=>?_) λc h=>?_)))
   . exact .F (.D 1 16 r (.r0 results272 r ⟨0,r,h⟩))
   exact .O 0 r (.F (.D 1 16 r (.r0 results272 r ⟨(-1),r,h⟩)))
 refine .O 67 r (.B (.F (.D 1 8195 r (.A r h (λd h=>?_) λd h=>?_))))
 . exact .F (.D 1 16 r (.r0 results272 r ⟨1,r,h⟩))
 refine .O 3 r (.B (.F (.D 3 65539 r (.A r h (λe h=>?_) λe h=>?_))))
 . exact .F (.D 1 16 r (.r0 results272 r ⟨(-1),r,h⟩))
 refine .O 3 r (.B (.F (.D 3 524288 r (.A r h (λf h=>?_) λf h=>?_))))
 . exact .F (.D 1 16 r (.r0 results272 r ⟨1,r,h⟩))
 exact .O 0 r (.F (.D 1 16 r (.r0 results272 r ⟨0,r,h⟩)))
theorem V8 {a0 Q} (d:MK a0 Q) :
  B7 prog 298 [.int .u64 a0] I (λ_=>dJ Q):=by
 exact Fun.ee func298 ntmps298 r (.M 1 r (.V 1 4 r (.L 4 r (.r0 results298 r ⟨(a0 != a0),r,d⟩))))
theorem eD {a0 a1 Q} (h:JY a0 a1 Q) :
  B7 prog 273 [.int .u64 a0,.int .u64 a1] I (λ_=>bE Q):=by
 refine Fun.ee func273 ntmps273 r (.M 1 r (.V 3 1 r (.q call298 (V8 (I:=I) h:) r λ_ h=>.G 1 r (.V 35 1 r (.q call298 (V8 (I:=I) h:) r λ_ h=>.D 1 99 r (.B (.F (.D 1 2115 r (.A r h (λb h=>?_) λb h=>?_)))))))))
 . refine .B (.F (.D 1 4096 r (.A r h (λc h=>?_) λc h=>?_)))
   . exact .F (.D 1 16 r (.r0 results273 r ⟨0,r,h⟩))
   exact .O 0 r (.F (.D 1 16 r (.r0 results273 r ⟨(-1),r,h⟩)))
 refine .O 67 r (.B (.F (.D 1 8195 r (.A r h (λd h=>?_) λd h=>?_))))
 . exact .F (.D 1 16 r (.r0 results273 r ⟨1,r,h⟩))
 refine .O 3 r (.B (.F (.D 3 65539 r (.A r h (λe h=>?_) λe h=>?_))))
 . exact .F (.D 1 16 r (.r0 results273 r ⟨(-1),r,h⟩))
 refine .O 3 r (.B (.F (.D 3 524288 r (.A r h (λf h=>?_) λf h=>?_))))
 . exact .F (.D 1 16 r (.r0 results273 r ⟨1,r,h⟩))
 exact .O 0 r (.F (.D 1 16 r (.r0 results273 r ⟨0,r,h⟩)))
theorem xS {a0 a1 Q} (J:T9 a0 a1 Q) :
  B7 prog 217 [.agg (F5 a0).toArray,.agg (F5 a1).toArray] I (λ_=>bE Q):=by
 refine Fun.ee func217 ntmps217 r (.F (.y r λ_=>.y r λ_=>.D 1 12 r (.B (.dr Av1 12 (.K 1 r (.W PN 1 r (.K 1 r (.W PN 0 r (.K 1 r (.W EC 1 r (.K 1 r (.W EC 0 r (.X r ?_)))))))))))));refine .q call272 (T4 (I:=I) J:) r λf J=>.v 2 r (.U r (.H EC .z r .mk) (.u 1 r r (.U r (.H EC .p1 r .mk) (.u 1 r r tv)))) (.X r (.q call273 (eD (I:=I) J:) r λa J=>.v 2 r tv (.X r (.bs 2 B0 D5 pG r λ_=>.v 3 r tv (.X r (.pubB (El:=B2) (ys:=([f,a]:List Int)) (k:=2) .z (RepCs.cons (cs:=[vi f]) r (RepCs.cons (cs:=[vi a]) r .nil)) r λ_ d g=>?_))))));exact .q call71 (MW g J:) r λh J=>.v 2 r tv (.e2 12 (.D 1 16 r (.drop .z (.drop .z (.r1 results217 r d ⟨h,r,J⟩)))))
theorem iV {a0 a1 Q} (d:RZ a0 a1 Q) :
  B7 prog 150 [.agg (F5 a0).toArray,.agg (F5 a1).toArray] I (λ_=>o3_ Q):=by
 refine Fun.ee func150 ntmps150 r (.F (.y r λ_=>.y r λ_=>.al GF r λ_=>.L 28 r (.B (.F (.S C0 B9 .p2 r (.S C0 B9 .p1 r (.q call217 (xS (I:=I) d:) r λ_ d=>.D 1 284 r (.A r d (λb d=>?_) λb d=>?_))))))))
 . exact .F (.S C0 B9 .p2 r (.R B9 .z r (.L 16 r (.drop .p1 (.drop .p1 (.J (B6 r (.w C0 B9 r .z r .n) rf ⟨a0,r,d⟩)))))))
 exact .O 24 r (.drop .p2 (.F (.S C0 B9 .p1 r (.R B9 .z r (.L 16 r (.drop .p1 (.J (B6 r (.w C0 B9 r .z r .n) rf ⟨a1,r,d⟩))))))))
theorem oO {a0 Q} (d:U6 a0 Q) :
  B7 prog 218 [.bool a0] I (λ_=>o4_ Q):=by
 refine Fun.ee func218 ntmps218 r (.F (.D 1 1 r (.B (.F (.D 1 8 r (.A r d (λa d=>?_) λa d=>?_))))))
 . exact .F (.D 1 4 r (.r0 results218 r ⟨1,r,d⟩))
 exact .O 0 r (.F (.D 1 4 r (.r0 results218 r ⟨0,r,d⟩)))
theorem xT {a0 a1 Q} (d:cM a0 a1 Q) :
  B7 prog 151 [.agg (F5 a0).toArray,.agg (F5 a1).toArray] I (λ_=>o3_ Q):=by
 refine Fun.ee func151 ntmps151 r (.F (.y r λ_=>.y r λ_=>.al GF r λ_=>.V 28 1 r (.H EC .p2 r (.G 1 r (.H EC .p1 r (.D 2 60 r (.B (.dr [0,1,2,3,4,5,6,7,8,9,10,14,11,12,13,15] 16 (.K 1 r (.W PN 2 r (.h r (.conv un2 T0 r r r .mk) ?_)))))))))));refine .K 1 r (.W PN 1 r (.h r (.conv un2 T0 r r r .mk) (.K 3 r (.W EC 1 r (.K 2 r (.X r (.q call218 (oO (I:=I) d:) r λb d=>?_)))))));exact .v 3 r (.u 2 r r (.U r (.conv un2 T0 r r r .mk) (.U r (.H PN .p1 r .mk) (.u 1 r r (.U r (.conv un2 T0 r r r .mk) (.U r (.H PN .p2 r .mk) (.u 1 r r tv))))))) (.K 1 r (.h r (.conv T0 un2 r r r .mk) (.h r (.bd GF nN nL r .mk) (.e2 16 (.R B9 .z r (.L 16 r (.drop .p1 (.drop .p1 (.J (B6 r (.w C0 B9 r .z r .n) rf ⟨({ Hi:=AJ (IntKind.wrap .u64 ((IntKind.wrap .u64 ((IntKind.wrap .u64 (a0.Hi))+(IntKind.wrap .u64 (a1.Hi))))+b)),Lo:=IntKind.wrap .u64 (a0.Lo+a1.Lo) }:AQ),r,d⟩))))))))))
theorem aI {a0 a1 a2 Q} (U:S0 a0 a1 a2 Q) :
  B7 prog 205 [vi a0,.agg (F5 a1).toArray,.agg (F5 a2).toArray] I (λ_=>o3_ Q):=by
 refine Fun.ee func205 ntmps205 r (.F (.y r λ_=>.y r λ_=>.al GF r λ_=>.L 113 r (.B (.F (.D 1 240 r (.E (.B (.jn U [7,6,5,4] xP r (λj E l c=>j ((8,.bool c) :: E) l) (λ_ U=>?_) ?_))))))))
 . refine .F (.D 2 496 r (.A r U (λd U=>?_) λd U=>?_))
   . exact .AE (je (a0==1) U rf xP r)
   refine .F (.D 2 496 r (.A r U (λe U=>?_) λe U=>?_))
   . exact .AE (je (a0==3) U rf xP r)
   exact .C (.G 2 r (.I (je (a0==4) U rf xP r)))
 refine λc U=>jq r λb a=>.A r U (λf U=>?_) λf U=>?_
 . exact .F (.S C0 B9 .z r (.S C0 B9 .p1 r (.q call150 (iV (I:=b) U:) r λq U=>.R B9 .p2 r (.L 64 r (.drop .z (.drop .z (.J (B6 r (.w C0 B9 r .z r .n) a ⟨q,r,U⟩))))))))
 refine .F (.D 2 33008 r (.A r U (λh U=>?_) λh U=>?_))
 . refine .F (.S C0 B9 .z r (.S C0 B9 .p1 r (.neV r r (AqP a1 a2) (AqQ _ _ _ _ _) r r r (.G 1 r (.T U [19,20] r (λi U=>?_) λi U=>?_)))))
   . exact .G 4 r (.q call146 (TM (I:=b) U:) r λs U=>.R B9 .p2 r (.L 64 r (.drop .z (.drop .z (.J (B6 r (.w C0 B9 r .z r .n) a ⟨s,r,U⟩))))))
   exact .P r (.S C0 B9 .z r (.P r (.bd GF nN nL r (.P r (.neV r r (AqP a1 NW) (AqQ _ _ _ _ _) r r r (.G 1 r (.q call146 (TM (I:=b) U:) r λt U=>.R B9 .p2 r (.L 64 r (.drop .z (.drop .z (.J (B6 r (.w C0 B9 r .z r .n) a ⟨t,r,U⟩))))))))))))
 refine .F (.D 2 67108976 r (.A r U (λo U=>?_) λo U=>?_))
 . exact .F (.S C0 B9 .z r (.S C0 B9 .p1 r (.q call151 (xT (I:=b) U:) r λu U=>.R B9 .p2 r (.L 64 r (.drop .z (.drop .z (.J (B6 r (.w C0 B9 r .z r .n) a ⟨u,r,U⟩))))))))
 exact .O 64 r (.drop .z (.drop .z (.F (.bd GF nN nL r (.R B9 .z r (.L 64 r (.J (B6 r (.w C0 B9 r .z r .n) a ⟨NW,r,U⟩))))))))
theorem iW {a0 Q} (d:W7 a0 Q) :
  B7 prog 139 [.agg (F5 a0).toArray] I (λ_=>o5_ Q):=by
 refine Fun.ee func139 ntmps139 r (.F (.y r λ_=>.G 2 r (.V 2 1 r (.H EC .z r (.conv T0 un2 r r r (.D 1 18 r (.B (.B (.dr [0,2,1,3] 4 (.K 1 r (.h r (.S C0 B9 .z r .mk) (.X r (.q call149 (OP (I:=I) d:) r λc d=>?_)))))))))))));refine .v 1 r (.U r (.S C0 B9 .z r .mk) tv) (.h r (.neV r r (AqP c a0) (AqQ _ _ _ _ _) r r r .mk) (.e2 4 (.L 2064 r (.drop .z (.A r d (λb d=>?_) λb d=>?_)))))
 . exact .F (.D 2 12 r (.J (B6 r (.t r (.t r .n)) rf ⟨(0,false),r,d⟩)))
 exact .O 16 r (.F (.D 3 12 r (.J (B6 r (.t r (.t r .n)) rf ⟨(AJ (a0.Lo),true),r,d⟩))))
theorem iX {a0 a1 Q} (d:S1 a0 a1 Q) :
  B7 prog 263 [vi a0,.agg (F5 a1).toArray] I (λ_=>o5_ Q):=by
 exact Fun.ee func263 ntmps263 r (.F (.y r λ_=>.G 2 r (.ns 8 r (.S C0 B9 .z r (.q call139 (iW (I:=I) d:) r λb d=>.D 4 48 r (.drop .z (.J (B6 r (.t r (.t r .n)) rf ⟨(b.1,b.2),r,d⟩))))))))
theorem NU {a0 Q} (d:I8 a0 Q) :
  B7 prog 122 [vi a0] I (λ_=>dJ Q):=by
 exact Fun.ee func122 ntmps122 r (.M 1 r (.V 1 4 r (.L 4 r (.r0 results122 r ⟨(a0 != a0),r,d⟩))))
theorem DJ {a0 a1 Q} (h:CY a0 a1 Q) :
  B7 prog 72 [vi a0,vi a1] I (λ_=>bE Q):=by
 refine Fun.ee func72 ntmps72 r (.M 1 r (.V 3 1 r (.q call122 (NU (I:=I) h:) r λ_ h=>.G 1 r (.V 35 1 r (.q call122 (NU (I:=I) h:) r λ_ h=>.D 1 99 r (.B (.F (.D 1 2115 r (.A r h (λb h=>?_) λb h=>?_)))))))))
 . refine .B (.F (.D 1 4096 r (.A r h (λc h=>?_) λc h=>?_)))
   . exact .F (.D 1 16 r (.r0 results72 r ⟨0,r,h⟩))
   exact .O 0 r (.F (.D 1 16 r (.r0 results72 r ⟨(-1),r,h⟩)))
 refine .O 67 r (.B (.F (.D 1 8195 r (.A r h (λd h=>?_) λd h=>?_))))
 . exact .F (.D 1 16 r (.r0 results72 r ⟨1,r,h⟩))
 refine .O 3 r (.B (.F (.D 3 65539 r (.A r h (λe h=>?_) λe h=>?_))))
 . exact .F (.D 1 16 r (.r0 results72 r ⟨(-1),r,h⟩))
 refine .O 3 r (.B (.F (.D 3 524288 r (.A r h (λf h=>?_) λf h=>?_))))
 . exact .F (.D 1 16 r (.r0 results72 r ⟨1,r,h⟩))
 exact .O 0 r (.F (.D 1 16 r (.r0 results72 r ⟨0,r,h⟩)))
theorem AdO {a0 a1 Q} (J:jP a0 a1 Q) :
  B7 prog 296 [.agg (L9 a0).toArray,.agg (L9 a1).toArray] I (λ_=>bE Q):=by
 refine Fun.ee func296 ntmps296 r (.F (.y r λ_=>.y r λ_=>.D 1 12 r (.B (.dr Av1 12 (.K 1 r (.W AM 1 r (.K 1 r (.W AM 0 r (.K 1 r (.W AM 1 r (.K 1 r (.W AM 0 r (.X r ?_)))))))))))));refine .q call72 (DJ (I:=I) J:) r λf J=>.v 2 r (.U r (.H AM .z r .mk) (.u 1 r r (.U r (.H AM .p1 r .mk) (.u 1 r r tv)))) (.X r (.q call72 (DJ (I:=I) J:) r λa J=>.v 2 r tv (.X r (.bs 2 B0 D5 pG r λ_=>.v 3 r tv (.X r (.pubB (El:=B2) (ys:=([f,a]:List Int)) (k:=2) .z (RepCs.cons (cs:=[vi f]) r (RepCs.cons (cs:=[vi a]) r .nil)) r λ_ d g=>?_))))));exact .q call71 (MW g J:) r λh J=>.v 2 r tv (.e2 12 (.D 1 16 r (.drop .z (.drop .z (.r1 results296 r d ⟨h,r,J⟩)))))
theorem zT {a0 a1 Q} (J:W8 a0 a1 Q) :
  B7 prog 265 [.agg (L9 a0).toArray,.agg (L9 a1).toArray] I (λ_=>bE Q):=by
 refine Fun.ee func265 ntmps265 r (.F (.y r λ_=>.y r λ_=>.D 1 12 r (.B (.dr [0,1,3,4,5,6,2,7,8,9] 10 (.h r (.S KM CT .p1 r .mk) (.h r (.S KM CT .z r .mk) (.K 1 r (.W PN 1 r (.K 1 r (.W PN 0 r (.X r ?_)))))))))));refine .q call296 (AdO (I:=I) J:) r λf J=>.v 2 r (.U r (.H PN .z r .mk) (.u 1 r r (.U r (.H PN .p1 r .mk) (.u 1 r r tv)))) (.X r (.q call272 (T4 (I:=I) J:) r λa J=>.v 2 r tv (.X r (.bs 2 B0 D5 pG r λ_=>.v 3 r tv (.X r (.pubB (El:=B2) (ys:=([f,a]:List Int)) (k:=2) .z (RepCs.cons (cs:=[vi f]) r (RepCs.cons (cs:=[vi a]) r .nil)) r λ_ d g=>?_))))));exact .q call71 (MW g J:) r λi J=>.v 2 r tv (.e2 10 (.D 1 16 r (.drop .z (.drop .z (.r1 results265 r d ⟨i,r,J⟩)))))
theorem tH {a0 a1 Q} (U:RepSl CC I p1 c2 a1) (J:RN a0 a1 Q) :
  B7 prog 198 [vi a0,.slice p1 a1.length c2] I (λI_ v=>∃ r p4 c5,v=.tuple #[.slice p4 r.1.length c5,vi r.2]∧RepSl CC I_ p4 c5 r.1∧Q r):=by
 refine Fun.ee func198 ntmps198 r (.F (.D 2 3 r (.B (.M 1 r (.q call148 (U1 (I:=I) J:) r λ_ J=>.D 1 1048579 r (.A r J (λb3 J=>?_) λb3 J=>?_))))))
 . exact .F (.D 2 48 r (.J (B6 r (.t r (.t r .n)) rf ⟨(([]:List B5),8),_,_,r,(.nil _ _ _),J⟩)))
 refine .O 3 r (.F (.mkMap IK W3 true r r λa8=>.D 1 67 r (.B (.M 1 r (.ln H8 r (.D 1 29360193 r (.E (.lp J [23,22,6,0] [] r (λj E l (e,g)=>j ((24,vi g) :: E) (OwnMap IK W3 true a8 e :: l)) (ji rf [0] r) ?_))))))));rintro⟨e,g⟩ _ J;refine jq r λD d=>?_;have U:=d.u1 U;refine .F (.D 1 62914625 r (.B (.A r J (λK J=>?_) λK J=>?_)))
 . refine .O 29360193 r (.B (.E (.F ?_)));have⟨b4,b,L,_,_,b5,N,J⟩:=U.ix J;refine .Y H8 CT b5 b4 L r (.ldW KM CT N r r r r (.al N1 r λ_=>.R CT .z r (.V 29360449 1 r (.H AM .z r (.G 1 r (.H AM .z r (.ba gS UY D5 r (.al gS r λ_=>.R gR .z r (.V 29360961 1 r (.H PN .p1 r (.q call149 (OP (I:=D) J:) r λh J=>.al GF r λ_=>?_)))))))))));refine .R B9 .z r (.L 29361729 r (.drop .p2 (.B (.M 1 r (.S isAgg96 gR .p1 r (.lookM2 (k:=(b.From,b.To)) (El:=W3) (ag:=true) (zv:=.agg #[vi 0,.int .u64 0]) (z:=NW) AwI underlying349 GF ⟨[vi 0,.int .u64 0],r,.a⟩ .p2 r r J r r λ_ _ _ _ J P R=>?_))))));cases P;cases R;refine .G 3 r (.al GF r λ_=>.R B9 .z r (.G 1 r (.V 29367873 1 r (.L 4398075874881 r (.A r J (λS J=>?_) λS J=>?_)))))
   . refine .C (.G 1 r (.S C0 B9 .z r (.S C0 B9 .p1 r (.q call205 (aI (I:=D) J:) r λm J=>.R B9 .p1 r (.L 29361729 r (.drop .z (.C (.G 1 r (.S isAgg96 gR .p1 r (.S C0 B9 .z r (.updM (k:=(b.From,b.To)) (El:=W3) (ag:=true) (v:=m) AwI underlying349 .p2 r r r ⟨[vi m.Hi,.int .u64 m.Lo],r,.a⟩ (.L 29360193 r (.drop .z ?_)))))))))))));exact .drop .z (.C (.G 2 r (.I (je ((EJ (b.From,b.To) m e),AJ (g+1)) J d [0] r))))
   exact .O 29361729 r (.drop .z (.C (.G 1 r (.S isAgg96 gR .p1 r (.S C0 B9 .z r (.updM (k:=(b.From,b.To)) (El:=W3) (ag:=true) (v:=h) AwI underlying349 .p2 r r r ⟨[vi h.Hi,.int .u64 h.Lo],r,.a⟩ (.L 29360193 r (.drop .z (.drop .z (.C (.G 2 r (.I (je ((EJ (b.From,b.To) h e),AJ (g+1)) J d [0] r)))))))))))))
 refine .en 65 r (.F (.D 1 8257 r (.B (.M 1 r (.rangeM underlying349 .z r r r λb6=>.L 4503599627378689 r (.E (.own0 CC 115 (.lx J [52,0] [] r (λj E l (p,F)=>λc w=>∃ q s,j ⟨78,[],none⟩ (λI_=>True) ((13,.slice q p.length s) :: E) (OwnSl CC 115 q s p :: OwnIt IK W3 true a8 b6 e F none :: l) c w) (λc w V Z=>⟨_,_,jf rf tv PR r V Z⟩) ?_))))))));rintro⟨p,F⟩ _ J c w ⟨q,s,G,u,_,d0,d1⟩;have B:=u.u1 d;refine Cod.at d0 d1 (.F (.nextM .p1 r J r r (λJ c0=>?_) (λA _ _ _ J X Y c0=>?_)))
 . refine .D 1 22517998136860673 r (.B (.j r r (.en 8192 r (.drop .p1 (.M 1 r ?_)))));have c1:=Fun.sort (hk:=λ_=>⟨r,r⟩) Az5 KM CT (λx y b1 Q hq=>zT (I:=b1) (a0:=x) (a1:=y) (Q:=Q) hq) call265 (I:=G) (T:=115) (a:=q) (cap:=s) J;refine .x (.f call264 r) (.o [0] r) r c1 λ_ _ _ a2 a3=>?_;obtain⟨b8,rfl,C,rfl,J⟩:=a3;have⟨a4,a5⟩:=a2.u2 B u;refine .rl .z [13,75] r (by rw[C]) (.V 8192 3 r (.L 48 r (.pub .z λ_ a6 b9=>?_)));have⟨a7,_⟩:=a6.u2 a4 a5;exact .J (B6 r (.t r (.t r .n)) a7 ⟨(b8,0),_,_,r,b9,J⟩)
 cases X;cases Y;refine .D 1 22517998136860673 r (.B (.Q r r (.O 4503599627378689 r (.E (.F (.entryM .z r r r (.G 2 r (.al gS r λ_=>.al GF r λ_=>.R gR .p1 r (.R B9 .z r (.V 4503599627427841 1 r (.S C0 B9 .z r (.q call263 (iX (I:=G) J:) r λH J=>?_))))))))))));refine .D 5 4503599627591681 r (.drop .z (.B (.F (.D 2 36897991747046563841 r (.A r J (λa9 J=>?_) λa9 J=>?_)))))
 . exact .F (.D 2 48 r (.drop .z (.drop .z (.drop .z (.J (B6 r (.t r (.t r .n)) B ⟨(([]:List B5),12),_,_,r,(.nil _ _ _),J⟩))))))
 refine .O 4503599627460609 r (.C (.G 1 r (.AA (i:=0) UY D5 r r (by decide) (o:=0) r r r (.H AM .z r (.AA (i:=1) UY D5 r r (by decide) (o:=1) r r r (.H AM .z r (.G 1 r (.bd N1 nM AqN r (.bs 1 H8 CT N1 r λ_=>?_)))))))));have⟨b0,J⟩:=J;exact .ap (ys:=[({ From:=A.1.1,To:=A.1.2,W:=H.1 }:B5)]) .p3 H8 H8 wK r (.box .z (.one r) r) b0 λ_ _=>.G 1 r (.I λc w V Z=>⟨_,J,_,_,jf u tv [0,2] r V Z⟩)
theorem NL {a0 Q} (h:RepSl CC I p1 c2 a0.Edges) (D:HU a0 Q) :
  B7 prog 128 [.agg #[vi a0.N,.slice p1 a0.Edges.length c2]] I (o1_ Q):=by
 refine Fun.ee func128 ntmps128 r ?_;refine .F (.y r λ_=>.al YL r λ_=>?_);refine .V 6 1 r (.H VM .p1 r (.ca call198 r (tH h D:) λ_ _ a c=>?_));obtain⟨d,_,_,rfl,e,D⟩:=c;have h:=a.u1 h;exact .G 5 r (.V 14 1 r (.H AM .p1 r (.G 1 r (.bd YL AcX AmT r (.R CV .z r (.L 4 r (.drop .p1 (.J (B6 r (.w FH CV r .z r .n) a ⟨({ N:=a0.N,Edges:=d.1 }:Graph),_,_,r,e,D⟩)))))))))
theorem eG {a0 Q} (d:NZ a0 Q) :
  Fun prog 193 #[.agg (L9 a0).toArray] I [] (λ_ v l=>∃ r,v=.tuple #[.agg (L9 r.1).toArray,.bool r.2]∧l=[]∧Q r):=by
 refine Fun.ee func193 ntmps193 r (.F (.y r λ_=>.al N1 r λ_=>.D 1 6 r (.B (.dr xQ 7 (.h r (.S KM CT .p1 r .mk) (.K 1 r (.W AM 1 r (.K 1 r (.W AM 1 r (.K 1 r (.X r ?_)))))))))));exact .R CT .z r (.O 2 r r r (.u 1 r r (.U r (.H AM .p1 r .mk) (.u 1 r r (.U r (.H AM .p1 r .mk) (.u 1 r r tv))))) (.e2 7 (.D 1 12 r (.drop .p1 (.J (DF r (.w KM CT r .z r (.t r .n)) rf .n ⟨(a0,a0.From != a0.To),r,r,d⟩))))))
theorem qX {a0 Q} (J:RepSl CC I p1 c2 a0.Edges) (D:U7 a0 Q) :
  Fun prog 192 #[.agg #[vi a0.N,.slice p1 a0.Edges.length c2],.func (.func 193) #[] #[]] I [] (λZ v l=>∃ r p4 c5,v=.agg #[vi r.N,.slice p4 r.Edges.length c5]∧RepSl CC Z p4 c5 r.Edges∧l=[]∧Q r):=by
 refine Fun.ee func192 ntmps192 r (.F (.y r λ_=>.al YL r λ_=>.V 22 1 r (.L 54 r (.B (.M 1 r (.H VM .p1 r (.ln H8 r (.D 1 14390 r (.E (.own0 CC 115 (.lx D [12,11,4,2,1] [2,1] r (λj E l (a,b)=>λc w=>∃ e f,j ⟨34,[],none⟩ (λZ=>True) ((5,.slice e a.length f) :: (13,vi b) :: E) (OwnSl CC 115 e f a :: l) c w) (λc w U W=>⟨_,_,jf rf tv zN r U W⟩) ?_)))))))))));rintro⟨a,b⟩ _ D c w ⟨e,f,F,d,_,a5,a6⟩;have J:=d.u1 J;refine Cod.at a5 a6 (.F (.D 1 30774 r (.B (.A r D (λk D=>?_) λk D=>?_))))
 . refine .O 14390 r (.B (.E (.F ?_)));have⟨G,_,m,_,_,H,o,D⟩:=J.ix D;refine .Y H8 CT H G m r (.ldW KM CT o r r r r (.al N1 r λ_=>?_));refine .R CT .z r (.V 14518 1 r (.S KM CT .z r ?_));refine .x (.c call193 r r) .n r (eG (I:=F) D:) λ_ _ _ q s=>?_;obtain⟨i,rfl,rfl,D⟩:=s;have⟨h,J⟩:=q.u2 d J;refine .rn 4 r (.G 3 r (.al N1 r λ_=>.R CT .z r (.D 1 15158 r (.drop .p1 (.F (.D 1 8403254 r (.A r D (λt D=>?_) λt D=>?_)))))))
   . refine .C (.G 1 r (.S KM CT .z r (.bs 1 H8 CT N1 r λ_=>?_)));have⟨u,D⟩:=D;exact .ap (ys:=[i.1]) .p2 H8 H8 wK r (.box .z (.one r) r) u λ_ _=>.D 1 14390 r (.drop .p1 (.drop .p1 (.C (.G 2 r (.I λc w U W=>⟨_,D,_,_,jf h tv VO r U W⟩)))))
   exact .O 14390 r (.drop .z (.C (.G 2 r (.I λc w U W=>⟨_,D,_,_,jf h tv VO r U W⟩))))
 refine .en 54 r (.M 1 r (.H AM .p1 r (.G 1 r (.bd YL AcX AmT r (.pub .z λa4 x g=>?_)))));have⟨y,J⟩:=x.u2 d J;refine .ca call128 r (NL (I:=a4) (a0:=({ N:=a0.N,Edges:=a }:Graph)) g D:) λ_ _ B C=>?_;obtain⟨K,_,_,rfl,L,D⟩:=C;have⟨a2,J,g⟩:=B.u3 y J g;exact .R CV .p1 r (.L 18 r (.drop .z (.J (DF r (.w FH CV r .z r .n) a2 .n ⟨K,_,_,r,L,r,D⟩))))
theorem eH {a0 Q} (h:RepSl CC I p1 c2 a0.Edges) (D:P0 a0 Q) :
  B7 prog 124 [.agg #[vi a0.N,.slice p1 a0.Edges.length c2]] I (o1_ Q):=by
 refine Fun.ee func124 ntmps124 r ?_;refine .F (.y r λ_=>.al YL r λ_=>?_);refine .ns 6 r (.S FH CV .p1 r (.x (.f call192 r) .n r (qX h D:) λ_ _ _ a c=>?_));obtain⟨d,_,_,rfl,e,rfl,D⟩:=c;have h:=a.u1 h;exact .rn 2 r (.R CV .z r (.L 4 r (.drop .p1 (.J (B6 r (.w FH CV r .z r .n) a ⟨d,_,_,r,e,D⟩)))))
theorem PY {a1 Q} (h:FZ a1 Q) :
  yP prog 260 [.slice none 0 0,vi a1] I (λ_ v l=>∃ r p1 c2,v=.slice p1 r.length c2∧l=[OwnSl CC 115 p1 c2 r]∧Q r):=by
 refine Fun.ee func260 ntmps260 r (.F (.D 1 3 r (.B (.F (.D 2 67 r (.A r h (λa h=>?_) λa h=>?_))))))
 . exact h.elim
 refine .O 3 r (.B (.M 2 r (.capOf H8 r r r r (.G 1 r (.ln H8 r (.G 3 r (.V 3 2 r (.L 65539 r (.A r h (λb h=>?_) λb h=>?_)))))))))
 . refine .C (.G 2 r (.capOf H8 r r r r (.slZ H8 CT r r (Z0 _) r r r (.G 1 r ?_))));have⟨d,e,h⟩:=h;exact .growN CC 24 H8 lK wK r r r r r r r r d e r r λ_ _ c=>.G 1 r (.ln H8 r (.slZ H8 CT r r c ApJ r r (.G 1 r (.V 1 2 r (.L 16 r (.q1 results260 rf [0] r ⟨([]:List B5),_,_,r,r,h⟩))))))
 exact .O 1 r (.F (.D 2 16 r (.own0 CC 115 (.q1 results260 rf [0] r ⟨([]:List B5),_,_,r,r,h⟩))))
theorem OT {a0 Q} (O:RepSl (gO CC) I p1 c2 a0) (J:DM a0 Q) :
  B7 prog 194 [.slice p1 a0.length c2] I (λZ v=>∃ r p4 c5,v=.slice p4 r.length c5∧RepSl CC Z p4 c5 r∧Q r):=by
 refine Fun.ee func194 ntmps194 r (.M 1 r (.V 1 1 r (.L 9 r (.B (.M 1 r (.ln underlying346 r (.D 1 3593 r (.E (.lp J [10,9,0] [] r (λj E l (e,f)=>j ((3,vi e) :: (11,vi f) :: E) l) (ji rf [] r) ?_)))))))));rintro⟨e,f⟩ _ J;refine jq r λG b=>?_;have O:=b.u1 O;refine .F (.D 1 7689 r (.B (.A r J (λo J=>?_) λo J=>?_)))
 . refine .O 3593 r (.B (.E (.F ?_)));have⟨H,a2,k,J⟩:=J;obtain⟨_,_,_,K,p,_,_,rfl,_⟩:=O.2 _ _ k;refine .Y underlying346 sizeOf26 K H k r (.ldb 0 VM p r (.G 1 r (.V 3625 2 r (.ln H8 r (.G 2 r (.V 3593 2 r (.L 1052169 r (.A r J (λq J=>?_) λq J=>?_))))))))
   . exact J.elim
   exact .O 3593 r (.C (.G 2 r (.I (je (AJ (e+(a2.length:Int)),AJ (f+1)) J b [] r))))
 refine .en 9 r (.M 1 r ?_);refine .AF call260 r (PY (I:=G) J:) r r λ_ _ _ t u=>?_;obtain⟨_,_,_,rfl,rfl,J⟩:=u;have⟨x,O⟩:=t.u2 b O;refine .D 1 65 r (.B (.M 1 r (.ln underlying346 r (.D 1 234881088 r (.E (.lx J [26,25] [] r (λj E l (a,g)=>λc w=>∃ h i,j ⟨36,[],none⟩ (λZ=>True) ((6,.slice h a.length i) :: (27,vi g) :: E) (OwnSl CC 115 h i a :: l) c w) (λc w U W=>⟨_,_,jf rf tv [0] r U W⟩) ?_))))));rintro⟨a,g⟩ _ J c w ⟨h,i,_,d,_,a5,a6⟩;have⟨y,O⟩:=d.u2 x O;refine Cod.at a5 a6 (.F (.D 1 503316544 r (.B (.A r J (λA J=>?_) λA J=>?_))))
 . refine .O 234881088 r (.B (.E (.F ?_)));have⟨L,n,m,J⟩:=J;obtain⟨_,_,_,N,B,_,_,rfl,a4⟩:=O.2 _ _ m;refine .Y underlying346 sizeOf26 N L m r (.ldb 0 VM B r (.D 1 234881344 r (.C (.G 2 r ?_))));have⟨C,J⟩:=J;exact .ap (ys:=n) .z H8 H8 wK r (.imm a4 r) C λ_ _=>.D 1 234881088 r (.C (.G 2 r (.I λc w U W=>⟨_,J,_,_,jf d tv [0] r U W⟩)))
 refine .en 64 r (.F (.D 2 4 r (.pub .z λ_ D P=>?_)));have⟨F,_⟩:=D.u2 y d;exact .r1 results194 r F ⟨a,_,_,r,P,J⟩
theorem kM {a0 Q} (d:ML a0 Q) :
  Fun prog 261 #[.agg (L9 a0).toArray] I [] (λ_ v l=>∃ r,v=.tuple #[.agg (L9 r.1).toArray,.bool r.2]∧l=[]∧Q r):=by
 refine Fun.ee func261 ntmps261 r (.F (.y r λ_=>.al N1 r λ_=>.G 1 r (.V 6 1 r (.H AM .p1 r (.G 1 r (.H AM .p1 r (.G 1 r (.H PN .p1 r (.bd N1 nM AqN r (.R CT .z r (.D 1 12 r ?_)))))))))));exact .drop .p1 (.J (DF r (.w KM CT r .z r (.t r .n)) rf .n ⟨(({ From:=a0.To,To:=a0.From,W:=a0.W }:B5),true),r,r,d⟩))
theorem qY {a0 Q} (J:RepSl CC I p1 c2 a0.Edges) (D:P1 a0 Q) :
  Fun prog 192 #[.agg #[vi a0.N,.slice p1 a0.Edges.length c2],.func (.func 261) #[] #[]] I [] (λZ v l=>∃ r p4 c5,v=.agg #[vi r.N,.slice p4 r.Edges.length c5]∧RepSl CC Z p4 c5 r.Edges∧l=[]∧Q r):=by
 refine Fun.ee func192 ntmps192 r (.F (.y r λ_=>.al YL r λ_=>.V 22 1 r (.L 54 r (.B (.M 1 r (.H VM .p1 r (.ln H8 r (.D 1 14390 r (.E (.own0 CC 115 (.lx D [12,11,4,2,1] [2,1] r (λj E l (a,b)=>λc w=>∃ e f,j ⟨34,[],none⟩ (λZ=>True) ((5,.slice e a.length f) :: (13,vi b) :: E) (OwnSl CC 115 e f a :: l) c w) (λc w U W=>⟨_,_,jf rf tv zN r U W⟩) ?_)))))))))));rintro⟨a,b⟩ _ D c w ⟨e,f,F,d,_,a5,a6⟩;have J:=d.u1 J;refine Cod.at a5 a6 (.F (.D 1 30774 r (.B (.A r D (λk D=>?_) λk D=>?_))))
 . refine .O 14390 r (.B (.E (.F ?_)));have⟨G,_,m,_,_,H,o,D⟩:=J.ix D;refine .Y H8 CT H G m r (.ldW KM CT o r r r r (.al N1 r λ_=>?_));refine .R CT .z r (.V 14518 1 r (.S KM CT .z r ?_));refine .x (.c call261 r r) .n r (kM (I:=F) D:) λ_ _ _ q s=>?_;obtain⟨i,rfl,rfl,D⟩:=s;have⟨h,J⟩:=q.u2 d J;refine .rn 4 r (.G 3 r (.al N1 r λ_=>.R CT .z r (.D 1 15158 r (.drop .p1 (.F (.D 1 8403254 r (.A r D (λt D=>?_) λt D=>?_)))))))
   . refine .C (.G 1 r (.S KM CT .z r (.bs 1 H8 CT N1 r λ_=>?_)));have⟨u,D⟩:=D;exact .ap (ys:=[i.1]) .p2 H8 H8 wK r (.box .z (.one r) r) u λ_ _=>.D 1 14390 r (.drop .p1 (.drop .p1 (.C (.G 2 r (.I λc w U W=>⟨_,D,_,_,jf h tv VO r U W⟩)))))
   exact .O 14390 r (.drop .z (.C (.G 2 r (.I λc w U W=>⟨_,D,_,_,jf h tv VO r U W⟩))))
 refine .en 54 r (.M 1 r (.H AM .p1 r (.G 1 r (.bd YL AcX AmT r (.pub .z λa4 x g=>?_)))));have⟨y,J⟩:=x.u2 d J;refine .ca call128 r (NL (I:=a4) (a0:=({ N:=a0.N,Edges:=a }:Graph)) g D:) λ_ _ B C=>?_;obtain⟨K,_,_,rfl,L,D⟩:=C;have⟨a2,J,g⟩:=B.u3 y J g;exact .R CV .p1 r (.L 18 r (.drop .z (.J (DF r (.w FH CV r .z r .n) a2 .n ⟨K,_,_,r,L,r,D⟩))))
theorem oP {a0 Q} (h:RepSl CC I p1 c2 a0.Edges) (D:Q6 a0 Q) :
  B7 prog 195 [.agg #[vi a0.N,.slice p1 a0.Edges.length c2]] I (o1_ Q):=by
 refine Fun.ee func195 ntmps195 r ?_;refine .F (.y r λ_=>.al YL r λ_=>?_);refine .ns 6 r (.S FH CV .p1 r (.x (.f call192 r) .n r (qY h D:) λ_ _ _ a c=>?_));obtain⟨d,_,_,rfl,e,rfl,D⟩:=c;have h:=a.u1 h;exact .rn 2 r (.R CV .z r (.L 4 r (.drop .p1 (.J (B6 r (.w FH CV r .z r .n) a ⟨d,_,_,r,e,D⟩)))))
theorem TN {a0 Q} (D:RepSl CC I p1 c2 a0.Edges) (O:O0 a0 Q) :
  B7 prog 125 [.agg #[vi a0.N,.slice p1 a0.Edges.length c2]] I (o1_ Q):=by
 refine Fun.ee func125 ntmps125 r ?_;refine .F (.y r λ_=>.al YL r λ_=>?_);refine .L 6 r (.B (.dr zP 11 (.K 1 r (.W AM 1 r (.K 1 r (.W VM 1 r (.h r (.S FH CV .p1 r .mk) (.X r (.ca call195 r (oP D O:) λ_ _ c g=>?_)))))))));obtain⟨e,v,x,rfl,a,O⟩:=g;have D:=c.u1 D;refine .v 2 r (.U r (.H VM .p1 r .mk) (.u 1 r r (.U r (.H AM .p1 r .mk) (.u 1 r r tv)))) (.h r (.field1 AcX r VM r r r r .mk) (.X r (.bs 2 underlying346 sizeOf26 zeroValue26 r λ_=>.v 3 r (.U r (.H AM .p2 r .mk) (.u 1 r r tv)) (.X r ?_))));refine .pubB (El:=(gO CC)) (ys:=([a0.Edges,e.Edges]:List (List B5))) (k:=2) .z (RepCs.cons (cs:=[.slice p1 a0.Edges.length c2]) ⟨_,_,r,D⟩ (RepCs.cons (cs:=[.slice v e.Edges.length x]) ⟨_,_,r,a⟩ .nil)) r λ_ i b=>?_;have⟨j,D,a⟩:=i.u3 c D a;refine .ca call194 r (OT b O:) λ_ y m o=>?_;obtain⟨A,_,_,rfl,d,O⟩:=o;have⟨p,D,a,b⟩:=m.u4 j D a b;refine .v 2 r (.U r (.H AM .p1 r .mk) (.u 1 r r tv)) (.h r (.bd YL AcX AmT r .mk) (.X r ?_));refine .ca call128 r (NL (I:=y) (a0:=({ N:=a0.N,Edges:=A }:Graph)) d O:) λ_ _ s t=>?_;obtain⟨B,_,_,rfl,C,O⟩:=t;have⟨u,D,a,b,d⟩:=s.u5 p D a b d;exact .v 2 r tv (.e2 11 (.R CV .z r (.L 4 r (.drop .p1 (.J (B6 r (.w FH CV r .z r .n) u ⟨B,_,_,r,C,O⟩))))))
theorem gX {a0 Q} (d:P2 a0 Q) :
  Fun prog 196 #[.agg (L9 a0).toArray] I [] (λ_ v l=>∃ r,v=.tuple #[.agg (L9 r.1).toArray,.bool r.2]∧l=[]∧Q r):=by
 exact Fun.ee func196 ntmps196 r (.F (.y r λ_=>.al N1 r λ_=>.G 1 r (.V 6 1 r (.s1 dK .p1 r (.ns 6 r (.S KM CT .p1 r (.R CT .z r (.D 1 12 r (.drop .p1 (.J (DF r (.w KM CT r .z r (.t r .n)) rf .n ⟨(({ a0 with W:=1 }:B5),true),r,r,d⟩)))))))))))
theorem qZ {a0 Q} (J:RepSl CC I p1 c2 a0.Edges) (D:U8 a0 Q) :
  Fun prog 192 #[.agg #[vi a0.N,.slice p1 a0.Edges.length c2],.func (.func 196) #[] #[]] I [] (λZ v l=>∃ r p4 c5,v=.agg #[vi r.N,.slice p4 r.Edges.length c5]∧RepSl CC Z p4 c5 r.Edges∧l=[]∧Q r):=by
 refine Fun.ee func192 ntmps192 r (.F (.y r λ_=>.al YL r λ_=>.V 22 1 r (.L 54 r (.B (.M 1 r (.H VM .p1 r (.ln H8 r (.D 1 14390 r (.E (.own0 CC 115 (.lx D [12,11,4,2,1] [2,1] r (λj E l (a,b)=>λc w=>∃ e f,j ⟨34,[],none⟩ (λZ=>True) ((5,.slice e a.length f) :: (13,vi b) :: E) (OwnSl CC 115 e f a :: l) c w) (λc w U W=>⟨_,_,jf rf tv zN r U W⟩) ?_)))))))))));rintro⟨a,b⟩ _ D c w ⟨e,f,F,d,_,a5,a6⟩;have J:=d.u1 J;refine Cod.at a5 a6 (.F (.D 1 30774 r (.B (.A r D (λk D=>?_) λk D=>?_))))
 . refine .O 14390 r (.B (.E (.F ?_)));have⟨G,_,m,_,_,H,o,D⟩:=J.ix D;refine .Y H8 CT H G m r (.ldW KM CT o r r r r (.al N1 r λ_=>?_));refine .R CT .z r (.V 14518 1 r (.S KM CT .z r ?_));refine .x (.c call196 r r) .n r (gX (I:=F) D:) λ_ _ _ q s=>?_;obtain⟨i,rfl,rfl,D⟩:=s;have⟨h,J⟩:=q.u2 d J;refine .rn 4 r (.G 3 r (.al N1 r λ_=>.R CT .z r (.D 1 15158 r (.drop .p1 (.F (.D 1 8403254 r (.A r D (λt D=>?_) λt D=>?_)))))))
   . refine .C (.G 1 r (.S KM CT .z r (.bs 1 H8 CT N1 r λ_=>?_)));have⟨u,D⟩:=D;exact .ap (ys:=[i.1]) .p2 H8 H8 wK r (.box .z (.one r) r) u λ_ _=>.D 1 14390 r (.drop .p1 (.drop .p1 (.C (.G 2 r (.I λc w U W=>⟨_,D,_,_,jf h tv VO r U W⟩)))))
   exact .O 14390 r (.drop .z (.C (.G 2 r (.I λc w U W=>⟨_,D,_,_,jf h tv VO r U W⟩))))
 refine .en 54 r (.M 1 r (.H AM .p1 r (.G 1 r (.bd YL AcX AmT r (.pub .z λa4 x g=>?_)))));have⟨y,J⟩:=x.u2 d J;refine .ca call128 r (NL (I:=a4) (a0:=({ N:=a0.N,Edges:=a }:Graph)) g D:) λ_ _ B C=>?_;obtain⟨K,_,_,rfl,L,D⟩:=C;have⟨a2,J,g⟩:=B.u3 y J g;exact .R CV .p1 r (.L 18 r (.drop .z (.J (DF r (.w FH CV r .z r .n) a2 .n ⟨K,_,_,r,L,r,D⟩))))
theorem KS {a0 Q} (h:RepSl CC I p1 c2 a0.Edges) (D:HV a0 Q) :
  B7 prog 126 [.agg #[vi a0.N,.slice p1 a0.Edges.length c2]] I (o1_ Q):=by
 refine Fun.ee func126 ntmps126 r ?_;refine .F (.y r λ_=>.al YL r λ_=>?_);refine .ns 6 r (.S FH CV .p1 r (.x (.f call192 r) .n r (qZ h D:) λ_ _ _ a c=>?_));obtain⟨d,_,_,rfl,e,rfl,D⟩:=c;have h:=a.u1 h;exact .rn 2 r (.R CV .z r (.L 4 r (.drop .p1 (.J (B6 r (.w FH CV r .z r .n) a ⟨d,_,_,r,e,D⟩)))))
theorem sL {a0 a1 Q} (d:XY a0 a1 Q) :
  yP prog 262 [vi a0,vi a1] I (λ_ v l=>∃ r p1 c2 p4 c5 p7 c8,v=.agg #[vi r.Rows,vi r.Cols,.slice p1 r.Start.length c2,.slice p4 r.Col.length c5,.slice p7 r.Val.length c8]∧l=[OwnSl B2 3 p1 c2 r.Start,OwnSl B2 3 p4 c5 r.Col,OwnSl B2 2 p7 c8 r.Val]∧Q r):=by
 refine Fun.ee func262 ntmps262 r (.F (.al OL r λ_=>.V 19 4 r ?_));have⟨a,b,d⟩:=d;exact .make (El:=B2) (zv:=0) 8 B0 IN3 r r r r r r a b r r r λ_=>.bd OL sB wM r (.R BJ .p1 r (.L 16 r (.own0 B2 3 (.own0 B2 2 (.J (DF r (.w D0 BJ r .p3 r .n) rf (.o xP r) ⟨({ Rows:=a0,Cols:=a1,Start:=(List.replicate (AJ (a0+1)).toNat 0),Col:=([]:List Int),Val:=([]:List Int) }:Rows),_,_,_,_,_,_,r,r,d⟩))))))
theorem eI {a0 a1 a2 Q} (U:RepSl JW I p1 c2 a2) (D:TV a0 a1 a2 Q) :
  B7 prog 197 [vi a0,vi a1,.slice p1 a2.length c2] I (λV v=>∃ r d7,v=.agg (M0 r d7)∧pF V d7 r∧Q r):=by
 refine Fun.ee func197 ntmps197 r ?_;refine .F (.al OL r λ_=>?_);refine .V 71 2 r (.AF call262 r (sL (I:=I) D:) r r λ_ _ _ S c4=>?_);obtain⟨d,_,_,_,_,_,_,rfl,rfl,D⟩:=c4;have U:=S.u1 U;refine .al OL r λN=>.R BJ .z r (.L 197 r (.B (.M 1 r (.ln OJ r (.D 1 114881 r (.E (.lx D [15,14,7,6,0] [4] r (λj E l (p,a,b,d2)=>λc w=>∃ F t e f g i,j ⟨63,[],none⟩ (λV=>True) ((16,vi d2) :: E) (pc N #[vi d.Rows,vi d.Cols,.slice F p.length t,.slice e a.length f,.slice g b.length i] 143 :: OwnSl B2 3 F t p :: OwnSl B2 3 e f a :: OwnSl B2 2 g i b :: l) c w) (λc w J O=>⟨_,_,_,_,_,_,jf rf tv gG r J O⟩) ?_)))))));rintro⟨p,a,b,d2⟩ _ D c w ⟨F,t,e,f,g,i,_,u,_,W,Z⟩;have⟨d9,U⟩:=u.u2 S U;refine Cod.at W Z (.F (.D 1 245953 r (.B (.A r D (λa3 D=>?_) λa3 D=>?_))))
 . refine .O 114881 r (.B (.E (.F ?_)));have⟨c5,k,a4,_,_,c6,a5,D⟩:=U.ix D;refine .Y OJ T1 c6 c5 a4 r (.ldW isAgg248 T1 a5 r r r r (.al dN r λ_=>.R T1 .z r (.V 115393 1 r (.H CN .p1 r (.G 1 r (.H AM .z r (.G 1 r ?_)))))));have⟨T,G,x,D⟩:=D;refine .ownNe .p2 (FY x) λc7 c8=>?_;cases c8;refine .AB B0 D5 r r T (CL x T) r r (.lo1 (j:=0) AM .p2 x r r r r r (.G 1 r ?_));have⟨d5,_,d4,D⟩:=D;refine .AB B0 D5 r r d5 (CL d4 d5) r r (.stO1 (j:=0) (v':=(AJ (G+1))) D5 .p2 d4 r r r (.o r) r (.rl .p2 [21] r (by simp only[cB]) (.reat .p1 (B:=pc N #[vi d.Rows,vi d.Cols,.slice (some ⟨c7,0,none⟩) (p.set ((AJ (k.Row+1)).toNat) (AJ (G+1))).length t,.slice e a.length f,.slice g b.length i] 143) (by simp only[cB]) (.V 115393 1 r (.H CN .p1 r (.G 1 r (.H AM .z r (.bs 1 B0 D5 pG r λ_=>?_))))))));have⟨a6,D⟩:=D;refine .ap (ys:=[k.Col]) .p4 B0 B0 IN3 r (.box .z (.one r) r) a6 λ_ _=>.G 1 r (.s1 sizeOf141 .p3 r (.L 115393 r (.drop .p1 (.C (.G 1 r (.H F3 .p2 r (.G 1 r (.H PN .p1 r (.bs 1 DU dK zv2 r λ_=>?_)))))))));have⟨a7,D⟩:=D;exact .ap (ys:=[k.Val]) .p5 DU DU IN2 r (.box .z (.one r) r) a7 λ_ _=>.G 1 r (.s1 sizeOf23 .p4 r (.L 114881 r (.drop .p1 (.drop .p2 (.C (.G 2 r (.I λc w J O=>⟨_,D,_,_,_,_,_,_,jf u tv [2,2,1,0,0] r J O⟩)))))))
 refine .en 193 r (.B (.F (.D 2 52776558133440 r (.E (.lx D [44,7,6] [4,2,2] r (λj E l (m,q)=>λc w=>∃ H y,j ⟨63,[],none⟩ (λV=>True) ((45,vi q) :: E) (pc N #[vi d.Rows,vi d.Cols,.slice H m.length y,.slice e a.length f,.slice g b.length i] 143 :: OwnSl B2 3 H y m :: l) c w) (λc w J O=>⟨_,_,jf rf tv [0,0,2,0,0] r J O⟩) ?_)))));rintro⟨m,q⟩ _ D c w ⟨H,y,_,A,_,W,Z⟩;have⟨a8,a9⟩:=A.u2 d9 u;refine Cod.at W Z (.F (.D 1 123145302311104 r (.B (.A r D (λb0 D=>?_) λb0 D=>?_))))
 . refine .O 52776558133440 r (.B (.E (.F (.D 2 52776558134464 r (.ownF .p1 λd8=>.ownF .p3 λ_=>.ownF .p4 λ_=>.dr Ao0 12 (.K 1 r (.W CN 0 r (.K 2 r ?_))))))));have⟨d6,d3,C,D⟩:=D;have⟨c9,d0⟩:=d8 (FY C);cases d0;refine .h r (.AB B0 D5 r r d6 (CL C d6) r r .mk) (.h r (.lo1 (j:=0) AM .p1 C r r r r r .mk) (.K 1 r (.W CN 0 r (.K 1 r ?_))));have⟨X,K,P,D⟩:=D;refine .h r (.AB B0 D5 r r X (CL P X) r r .mk) (.h r (.lo1 (j:=0) AM .p1 P r r r r r .mk) (.K 1 r (.e2 12 ?_)));have⟨Y,_,R,D⟩:=D;exact .AB B0 D5 r r Y (CL R Y) r r (.stO1 (j:=0) (v':=(AJ (d3+K))) D5 .p1 R r r r (.o r) r (.rl .p1 [49,55] r (by simp only[cB]) (.reat .z (B:=pc N #[vi d.Rows,vi d.Cols,.slice (some ⟨c9,0,none⟩) (m.set ((AJ (q+1)).toNat) (AJ (d3+K))).length y,.slice e a.length f,.slice g b.length i] 143) (by simp only[cB]) (.L 52776558133440 r (.C (.G 2 r (.I λc w J O=>⟨_,D,_,_,jf A tv gG r J O⟩)))))))
 refine .en 192 r (.F (.S D0 BJ .z r (.R BJ .p2 r (.L 64 r (.drop .z (.pub .z λ_ b1 s=>?_))))));have⟨b2,b3,b4⟩:=b1.u3 a8 a9 A;refine .pub .p1 λ_ b5 L=>?_;have⟨b6,b7,b9,s⟩:=b5.u4 b2 b3 b4 s;refine .pub .p1 λ_ c0 d1=>?_;have⟨c1,_,_,s,L⟩:=c0.u5 b6 b7 b9 s L;exact .J (B6 r (.w D0 BJ r .z r .n) c1 ⟨({ d with Start:=m,Col:=a,Val:=b }:Rows),((_,_),(_,_),(_,_)),r,⟨s,L,d1⟩,D⟩)
theorem WW {a0 Q} (O:RepSl CC I p1 c2 a0.Edges) (D:Q7 a0 Q) :
  B7 prog 127 [.agg #[vi a0.N,.slice p1 a0.Edges.length c2]] I (λI_ v=>∃ r a2,v=.tuple #[.agg (M0 r.1 a2),vi r.2]∧pF I_ a2 r.1∧Q r):=by
 refine Fun.ee func127 ntmps127 r (.F (.y r λ_=>.al OL r λ_=>.D 1 6 r (.B (.F (.S FH CV .p1 r (.q call123 (iU O D:) r λT D=>.G 1 r (.V 22 2 r (.L 2070 r (.A r D (λH D=>?_) λH D=>?_)))))))))
 . exact .F (.bd OL sB wM r (.G 1 r (.R BJ .z r (.D 1 12 r (.drop .p1 (.J (B6 r (.w D0 BJ r .z r (.t r .n)) rf ⟨(SQ,T),((_,_),(_,_),(_,_)),r,⟨(.nil _ _ _),(.nil _ _ _),(.nil _ _ _)⟩,D⟩)))))))
 refine .O 6 r (.F (.D 1 38 r (.B (.F (.S FH CV .p1 r ?_)))));refine .ca call195 r (oP O D:) λ_ _ i K=>?_;obtain⟨_,_,_,rfl,k,D⟩:=K;have O:=i.u1 O;refine .field1 AcX r VM r r r r (.ln H8 r (.D 1 458790 r (.E (.own0 JW 248 (.lx D [17,16,2,1] [2,1] r (λj E l (b,e)=>λc w=>∃ f g,j ⟨39,[],none⟩ (λI_=>True) ((5,.slice f b.length g) :: (18,vi e) :: E) (OwnSl JW 248 f g b :: l) c w) (λc w U Z=>⟨_,_,jf rf tv zN r U Z⟩) ?_)))));rintro⟨b,e⟩ _ D c w ⟨f,g,_,d,_,a6,a7⟩;have⟨m,O,k⟩:=d.u3 i O k;refine Cod.at a6 a7 (.F (.D 1 983078 r (.B (.A r D (λo D=>?_) λo D=>?_))))
 . refine .O 458790 r (.B (.E (.F ?_)));have⟨L,a,p,_,_,a5,q,D⟩:=k.ix D;refine .Y H8 CT a5 L p r (.ldW KM CT q r r r r (.al N1 r λ_=>.R CT .z r (.L 458918 r (.C (.G 2 r (.H AM .z r (.G 1 r (.H AM .z r (.G 1 r (.H PN .z r (.bd dN underlying248 AlA r (.bs 1 OJ T1 dN r λ_=>?_))))))))))));have⟨s,D⟩:=D;exact .ap (ys:=[({ Row:=a.From,Col:=a.To,Val:=a.W }:A5)]) .p2 OJ OJ Al9 r (.box .z (.one r) r) s λ_ _=>.D 1 458790 r (.drop .p1 (.drop .p1 (.C (.G 2 r (.I λc w U Z=>⟨_,D,_,_,jf d tv VO r U Z⟩)))))
 refine .en 38 r (.M 1 r (.H AM .p1 r (.G 1 r (.H AM .p1 r (.G 1 r (.pub .z λ_ u h=>?_))))));have⟨x,y,O⟩:=u.u3 m d O;refine .ca call197 r (eI h D:) λ_ _ B C=>?_;obtain⟨P,a4,rfl,R,D⟩:=C;have⟨F,_,O,h⟩:=B.u4 x y O h;exact .R BJ .p1 r (.D 1 12 r (.drop .z (.J (B6 r (.w D0 BJ r .z r (.t r .n)) F ⟨(P,0),a4,r,R,D⟩))))
theorem XH {a0 a1 Q} (R3:RepSl B2 I p1 c2 a0.Draws) (V:RepSl CC I p4 c5 a1.Edges) (U:OB a0 a1 Q) :
  B7 prog 78 [.agg (F0 a0 p1 c2),.agg #[vi a1.N,.slice p4 a1.Edges.length c5]] I (λI_ v=>∃ r Z,v=.tuple #[.agg (M0 r.1 Z),vi r.2]∧pF I_ Z r.1∧Q r):=by
 refine Fun.ee func78 ntmps78 r (.F (.y r λ_=>.y r λ_=>.al OL r λ_=>.D 1 28 r (.B (.F (.S FV F9 .p2 r (.q call80 (TL R3 U:) r λo U=>.G 1 r (.V 92 2 r (.L 2140 r (.A r U (λY U=>?_) λY U=>?_)))))))))
 . exact .F (.bd OL sB wM r (.G 1 r (.R BJ .z r (.D 1 48 r (.drop .p1 (.drop .p1 (.J (B6 r (.w D0 BJ r .z r (.t r .n)) rf ⟨(SQ,o),((_,_),(_,_),(_,_)),r,⟨(.nil _ _ _),(.nil _ _ _),(.nil _ _ _)⟩,U⟩))))))))
 refine .O 28 r (.B (.M 1 r (.H AM .p1 r (.G 1 r (.H AM .p2 r (.D 1 262172 r (.A r U (λa7 U=>?_) λa7 U=>?_)))))))
 . exact .F (.bd OL sB wM r (.R BJ .z r (.D 1 48 r (.drop .p1 (.drop .p1 (.J (B6 r (.w D0 BJ r .z r (.t r .n)) rf ⟨(SQ,4),((_,_),(_,_),(_,_)),r,⟨(.nil _ _ _),(.nil _ _ _),(.nil _ _ _)⟩,U⟩)))))))
 refine .O 28 r (.B (.F (.S FH CV .p1 r (.q call123 (iU V U:) r λs U=>.G 1 r (.V 156 2 r (.L 8388764 r (.A r U (λa3 U=>?_) λa3 U=>?_)))))))
 . exact .F (.bd OL sB wM r (.G 1 r (.R BJ .z r (.D 1 48 r (.drop .p1 (.drop .p1 (.J (B6 r (.w D0 BJ r .z r (.t r .n)) rf ⟨(SQ,s),((_,_),(_,_),(_,_)),r,⟨(.nil _ _ _),(.nil _ _ _),(.nil _ _ _)⟩,U⟩))))))))
 refine .O 28 r (.B (.M 1 r (.H VL .p2 r (.L 134217752 r (.drop .p2 (.E (.B (.E (.B ?_)))))))));refine .E (.B (.E (.B (.B (.F (.D 2 402653208 r (.A r U (λa4 U=>?_) λa4 U=>?_)))))))
 . refine .en 24 r (.C (.S FH CV .p1 r ?_));refine .ca call124 r (eH V U:) λ_ _ g a6=>?_;obtain⟨_,_,_,rfl,h,U⟩:=a6;have V:=g.u1 V;refine .R CV .p1 r (.L 24 r (.C (.S FH CV .p1 r ?_)));refine .ca call125 r (TN h U:) λ_ _ a8 a9=>?_;obtain⟨_,_,_,rfl,i,U⟩:=a9;have⟨x,h⟩:=a8.u2 g h;refine .R CV .p1 r (.ns 24 r (.S FH CV .p1 r ?_));refine .ca call126 r (KS i U:) λ_ _ T X=>?_;obtain⟨_,_,_,rfl,j,U⟩:=X;have⟨b4,i⟩:=T.u2 x i;refine .R CV .p1 r (.L 24 r (.en 24 r (.F (.S FH CV .p1 r ?_))));refine .ca call127 r (WW j U:) λ_ _ b5 b6=>?_;obtain⟨W,b7,rfl,b8,U⟩:=b6;have⟨p,j⟩:=b5.u2 b4 j;exact .G 2 r (.R BJ .z r (.D 1 48 r (.drop .p1 (.J (B6 r (.w D0 BJ r .z r (.t r .n)) p ⟨(W.1,W.2),b7,r,b8,U⟩)))))
 refine .O 134217752 r (.B (.F (.D 2 1207959576 r (.A r U (λq U=>?_) λq U=>?_))))
 . refine .en 24 r (.C (.S FH CV .p1 r ?_));refine .ca call125 r (TN V U:) λ_ _ d u=>?_;obtain⟨_,_,_,rfl,a,U⟩:=u;have V:=d.u1 V;refine .R CV .p1 r (.ns 24 r (.S FH CV .p1 r ?_));refine .ca call126 r (KS a U:) λ_ _ y A=>?_;obtain⟨_,_,_,rfl,b,U⟩:=A;have⟨B,a⟩:=y.u2 d a;refine .R CV .p1 r (.L 24 r (.en 24 r (.F (.S FH CV .p1 r ?_))));refine .ca call127 r (WW b U:) λ_ _ D E=>?_;obtain⟨k,F,rfl,b9,U⟩:=E;have⟨G,b⟩:=D.u2 B b;exact .G 2 r (.R BJ .z r (.D 1 48 r (.drop .p1 (.J (B6 r (.w D0 BJ r .z r (.t r .n)) G ⟨(k.1,k.2),F,r,b9,U⟩)))))
 refine .O 134217752 r (.F (.D 2 4294967320 r (.A r U (λH U=>?_) λH U=>?_)))
 . refine .en 24 r (.F (.S FH CV .p1 r ?_));refine .ca call126 r (KS V U:) λ_ _ e K=>?_;obtain⟨_,_,_,rfl,c,U⟩:=K;have V:=e.u1 V;refine .R CV .p1 r (.L 24 r (.en 24 r (.F (.S FH CV .p1 r ?_))));refine .ca call127 r (WW c U:) λ_ _ O P=>?_;obtain⟨l,R,rfl,c0,U⟩:=P;have⟨S,c⟩:=O.u2 e c;exact .G 2 r (.R BJ .z r (.D 1 48 r (.drop .p1 (.J (B6 r (.w D0 BJ r .z r (.t r .n)) S ⟨(l.1,l.2),R,r,c0,U⟩)))))
 refine .O 24 r (.en 24 r (.F (.S FH CV .p1 r ?_)));refine .ca call127 r (WW V U:) λ_ _ f a2=>?_;obtain⟨m,a5,rfl,c1,U⟩:=a2;have V:=f.u1 V;exact .G 2 r (.R BJ .z r (.D 1 48 r (.drop .p1 (.J (B6 r (.w D0 BJ r .z r (.t r .n)) f ⟨(m.1,m.2),a5,r,c1,U⟩)))))
theorem iY {a0 a1 a2 Q} (J:RepSl B2 I p1 c2 a0.Draws) (U:RepSl CC I p4 c5 a1.Edges) (h:S2 a0 a1 a2 Q) :
  B7 prog 42 [.agg (F0 a0 p1 c2),.agg #[vi a1.N,.slice p4 a1.Edges.length c5],vi a2] I (λ_=>bE Q):=by
 refine Fun.ee func42 ntmps42 r ?_;refine .F (.y r λ_=>.y r λ_=>?_);refine .D 1 28 r (.B (.F (.S FV F9 .p1 r (.S FH CV .z r (.ca call78 r (XH J U h:) λ_ _ a c=>?_)))));obtain⟨g,_,rfl,_,h⟩:=c;have⟨J,U⟩:=a.u2 J U;refine .G 3 r (.al OL r λ_=>.R BJ .z r (.D 1 260 r (.drop .z (.drop .z (.drop .z (.F (.D 2 65796 r (.A r h (λd h=>?_) λd h=>?_))))))))
 . exact .F (.D 2 64 r (.r1 results42 r a ⟨g.2,r,h⟩))
 refine .O 4 r (.B (.M 3 r (.T h [19,20] r (λe h=>?_) λe h=>?_)))
 . exact .D 3 8388608 r (.Q r r (.F (.D 1 64 r (.r1 results42 r a ⟨3,r,h⟩))))
 refine .D 3 8388608 r (.A r h (λf h=>?_) λf h=>?_)
 . exact .F (.D 1 64 r (.r1 results42 r a ⟨3,r,h⟩))
 exact .O 0 r (.F (.D 1 64 r (.r1 results42 r a ⟨0,r,h⟩)))
theorem RH {a0 a1 Q} (d:IL a0 a1 Q) :
  B7 prog 95 [vi a0,vi a1] I (λ_=>dJ Q):=by
 refine Fun.ee func95 ntmps95 r (.M 1 r (.V 3 3 r (.T d [6,7] r (λa d=>?_) λa d=>?_)))
 . exact .D 5 16 r (.r0 results95 r ⟨(decide (a0<=a1)),r,d⟩)
 exact .D 5 16 r (.r0 results95 r ⟨false,r,d⟩)
theorem V9 {a0 Q} (J:lTc I gc1 a0) (h:MM a0 Q) :
  B7 prog 50 [.agg (ZK a0 gc1)] I (λ_=>bE Q):=by
 refine Fun.ee func50 ntmps50 r (.F (.y r λ_=>.G 1 r (.V 2 1 r (.L 10 r (.B (.M 1 r (.Z FV F9 r .z (.o 5 r) r r r (.G 1 r (.Z FH CV r .z (.o 2 r) r r r (.G 1 r (.H AM .z r (.q call42 (iY J.1 J.2.1 h:) r λs h=>?_))))))))))));refine .G 1 r (.V 26 2 r (.L 8218 r (.A r h (λd h=>?_) λd h=>?_)))
 . exact .F (.D 2 4 r (.drop .z (.r0 results50 r ⟨s,r,h⟩)))
 refine .O 10 r (.B (.E (.B (.jn h [1] [0] r (λj E l b=>j ((15,.bool b) :: E) l) (λ_ h=>?_) ?_))))
 . refine .M 2 r (.H AM .z r ?_);refine .callPc call95 r r (RH (I:=I) h:) r r λ_ f=>?_;obtain⟨t,rfl,h⟩:=f;refine .D 2 32778 r (.A r h (λg h=>?_) λg h=>?_)
   . exact .AE (je (!t) h rf [0] r)
   refine .M 2 r (.H AM .z r ?_);refine .callPc call95 r r (RH (I:=I) h:) r r λ_ i=>?_;obtain⟨u,rfl,h⟩:=i;refine .D 2 32778 r (.A r h (λk h=>?_) λk h=>?_)
   . exact .AE (je (!u) h rf [0] r)
   refine .C (.G 2 r (.H AM .z r ?_));refine .callPc call95 r r (RH (I:=I) h:) r r λ_ n=>?_;obtain⟨v,rfl,h⟩:=n;exact .G 2 r (.I (je (!v) h rf [0] r))
 refine λb h=>jq r λ_ a=>?_;have J:=a.u1 J;refine .A r h (λp h=>?_) λp h=>?_
 . exact h.elim
 refine .M 1 r (.H isAgg31 .z r (.ln zB r (.D 2 2147483648 r (.drop .z (.A r h (λq h=>?_) λq h=>?_)))))
 . exact h.elim
 exact .O 0 r (.F (.D 1 4 r (.r1 results50 r a ⟨0,r,h⟩)))
theorem RU {a0 a1 Q} (d:LS a0 a1 Q) :
  B7 prog 54 [vi a0,vi a1] I (λ_=>dJ Q):=by
 refine Fun.ee func54 ntmps54 r (.M 1 r (.V 3 3 r (.T d [6,7] r (λa d=>?_) λa d=>?_)))
 . exact .D 5 16 r (.r0 results54 r ⟨(decide (a0<=a1)),r,d⟩)
 exact .D 5 16 r (.r0 results54 r ⟨false,r,d⟩)
theorem AdP {a0 Q} (J:Z6 a0 Q) :
  B7 prog 53 [.agg (fG a0).toArray] I (λ_=>dJ Q):=by
 refine Fun.ee func53 ntmps53 r (.F (.y r λ_=>.D 1 2 r (.B (.M 1 r (.H AM .z r (.q call54 (RU (I:=I) J:) r λ_ J=>.G 2 r (.T J [6,7] r (λb J=>?_) λb J=>?_)))))))
 . exact .D 11 262146 r (.Q r r (.F (.D 1 4 r (.drop .z (.r0 results53 r ⟨false,r,J⟩)))))
 refine .G 1 r (.P r (.H AM .z r ?_));refine .P r (.AC call54 r (RU (I:=I) J:) r r λ_ d=>?_);obtain⟨_,rfl,J⟩:=d;refine .G 3 r (.T J [11,12,13] r (λe J=>?_) λe J=>?_)
 . exact .D 5 262146 r (.Q r r (.F (.D 1 4 r (.drop .z (.r0 results53 r ⟨false,r,J⟩)))))
 refine .G 1 r (.P r (.H AM .z r ?_));refine .P r (.AC call54 r (RU (I:=I) J:) r r λ_ g=>?_);obtain⟨_,rfl,J⟩:=g;refine .D 2 262146 r (.A r J (λh J=>?_) λh J=>?_)
 . exact .F (.D 1 4 r (.drop .z (.r0 results53 r ⟨false,r,J⟩)))
 refine .O 2 r (.M 1 r (.H isAgg63 .z r (.G 2 r (.T J [21,22] r (λi J=>?_) λi J=>?_))))
 . exact .G 1 r (.P r (.H isAgg63 .z r (.D 3 4 r (.drop .z (.r0 results53 r ⟨(decide (a0.Kind<=5)),r,J⟩)))))
 exact .D 5 4 r (.drop .z (.r0 results53 r ⟨false,r,J⟩))
theorem kN {a0 Q} (d:Q8 a0 Q) :
  Fun prog 52 #[.agg (fG a0).toArray] I [] (λ_ v l=>∃ r,v=.bool r∧l=[]∧Q r):=by
 exact Fun.ee func52 ntmps52 r (.F (.y r λ_=>.G 1 r (.ns 2 r (.S isAgg65 ZW .z r (.q call53 (AdP (I:=I) d:) r λb d=>.D 2 4 r (.drop .z (.q1 results52 rf [] r ⟨(!b),r,r,d⟩)))))))
theorem L3 {a0 Q} (J:RepSl NC I p1 c2 a0) (h:DQ a0 Q) :
  Fun prog 96 #[.slice p1 a0.length c2,.func (.func 52) #[] #[]] I [] (λ_ v l=>∃ r,v=vi r∧l=[]∧Q r):=by
 refine Fun.ee func96 ntmps96 r (.F (.D 1 3 r (.B (.M 1 r (.ln ZU r (.D 1 387 r (.E (.lp h xO [] r (λj E l d=>j ((8,vi d) :: E) l) (ji rf [] r) ?_))))))));refine λd _ h=>jq r λp a=>?_;have J:=a.u1 J;refine .F (.D 1 899 r (.B (.A r h (λf h=>?_) λf h=>?_)))
 . refine .O 387 r (.B (.E (.M 2 r (.V 419 3 r ?_))));have⟨q,_,g,_,_,s,b,h⟩:=J.ix h;refine .Y ZU ZW s q g r (.ldW isAgg65 ZW b r r r r ?_);refine .x (.c call52 r r) .n r (kN (I:=p) h:) λ_ _ _ i k=>?_;obtain⟨_,rfl,rfl,h⟩:=k;have⟨e,J,b⟩:=i.u3 a J b;refine .rn 0 r (.L 65955 r (.A r h (λm h=>?_) λm h=>?_))
   . exact .F (.D 2 18 r (.q1 results96 e [] r ⟨d,r,r,h⟩))
   exact .O 387 r (.C (.G 2 r (.I (je (AJ (d+1)) h e [] r))))
 exact .en 2 r (.F (.D 1 18 r (.q1 results96 a [] r ⟨(-1),r,r,h⟩)))
theorem JD {a0 Q} (h:RepSl NC I p1 c2 a0) (J:D7 a0 Q) :
  Fun prog 51 #[.slice p1 a0.length c2,.func (.func 52) #[] #[]] I [] (λ_ v l=>∃ r,v=.bool r∧l=[]∧Q r):=by
 refine Fun.ee func51 ntmps51 r ?_;refine .M 1 r (.V 3 2 r ?_);refine .x (.f call96 r) .n r (L3 h J:) λ_ _ _ a c=>?_;obtain⟨d,rfl,rfl,J⟩:=c;have h:=a.u1 h;exact .rn 0 r (.D 2 18 r (.q1 results51 a [] r ⟨(decide (0<=d)),r,r,J⟩))
theorem oQ {a0 a1 a2 Q} (V:lTc I gc1 a0) (U:RepSl NC I p3 c4 a1) (J:U9 a0 a1 a2 Q) :
  B7 prog 25 [.agg (ZK a0 gc1),.slice p3 a1.length c4,vi a2] I (λ_=>bE Q):=by
 refine Fun.ee func25 ntmps25 r (.F (.y r λ_=>.D 1 14 r (.B (.F (.S dL ZV .z r (.q call50 (V9 V J:) r λk J=>.D 1 134 r (.drop .z (.F (.D 2 2182 r (.A r J (λc J=>?_) λc J=>?_))))))))))
 . exact .F (.D 2 64 r (.r0 results25 r ⟨k,r,J⟩))
 refine .O 6 r (.B (.E (.M 1 r (.ln ZU r (.D 2 8198 r (.A r J (λd J=>?_) λd J=>?_))))))
 . exact J.elim
 refine .M 1 r ?_;refine .x (.f call51 r) .n r (JD U J:) λ_ l _ a g=>?_;obtain⟨_,rfl,rfl,J⟩:=g;have U:=a.u1 U;refine .rn 0 r (.D 1 131076 r (.A r J (λh J=>?_) λh J=>?_))
 . exact J.elim
 refine .M 1 r (.q call54 (RU (I:=l) J:) r λ_ J=>.D 2 1048576 r (.A r J (λj J=>?_) λj J=>?_))
 . exact J.elim
 exact .O 0 r (.F (.D 1 64 r (.r1 results25 r a ⟨0,r,J⟩)))
theorem eJ {a0 a1 Q} (h:RepSl JT I p1 c2 a0) (d:P3 a0 a1 Q) :
  B7 prog 136 [.slice p1 a0.length c2,vi a1] I (λ_=>dJ Q):=by
 refine Fun.ee func136 ntmps136 r (.M 1 r (.V 3 3 r (.T d [6,7] r (λa d=>?_) λa d=>?_)))
 . exact .G 1 r (.P r (.shr' r r (by decide) r r (.G 1 r (.P r (.ln UW r (.D 3 16 r (.r0 results136 r ⟨(decide ((shr .i64 a1 6)<(a0.length:Int))),r,d⟩)))))))
 exact .D 7 16 r (.r0 results136 r ⟨false,r,d⟩)
theorem sM {a0 Q} (d:XZ a0 Q) :
  B7 prog 137 [vi a0] I (λ_=>o4_ Q):=by
 refine Fun.ee func137 ntmps137 r (.M 1 r (.V 1 1 r (.conv lK underlying213 r r r (.G 1 r ?_))));have⟨a,d⟩:=d;exact .shl' r r a r r (.D 1 4 r (.r0 results137 r ⟨(shl .u64 1 (cC .u64 (IntKind.wrap .u64 (a0)) 63)),r,d⟩))
theorem iZ {a0 Q} (d:S3 a0 Q) :
  B7 prog 266 [vi a0] I (λ_=>bE Q):=by
 exact Fun.ee func266 ntmps266 r (.M 1 r (.V 1 1 r (.maxI r r r r (.minI r r r r (.G 1 r (.shr' r r (by decide) r r (.D 1 4 r (.r0 results266 r ⟨(shr .i64 (AJ ((if 4096<(if 0 > a0 then 0 else a0) then 4096 else (if 0 > a0 then 0 else a0))+63)) 6),r,d⟩))))))))
theorem WX {a0 Q} (h:Q9 a0 Q) :
  yP prog 200 [vi a0] I (λ_ v l=>∃ r p1 c2,v=.slice p1 r.length c2∧l=[OwnSl JT 162 p1 c2 r]∧Q r):=by
 exact Fun.ee func200 ntmps200 r (.M 1 r (.V 1 1 r (.q call266 (iZ (I:=I) h:) r λb ⟨c,d,h⟩=>.make (El:=JT) (zv:=0) 8 UW AvL r r r r r r c d r r r λ_=>.D 1 4 r (.q1 results200 rf [0] r ⟨(List.replicate b.toNat 0),_,_,r,r,h⟩))))
theorem VA {a0 a1 Q} (V:RepSl B2 I p1 c2 a1) (U:ND a0 a1 Q) :
  B7 prog 132 [vi a0,.slice p1 a1.length c2] I (o7_ Q):=by
 refine Fun.ee func132 ntmps132 r ?_;refine .M 1 r (.V 3 1 r ?_);refine .AF call200 r (WX (I:=I) U:) r r λ_ _ _ q P=>?_;obtain⟨_,_,_,rfl,rfl,U⟩:=P;have V:=q.u1 V;refine .D 1 35 r (.B (.M 1 r (.ln B0 r (.D 1 7201 r (.E (.lx U [11,10,0] [] r (λj E l (a,d)=>λc w=>∃ e g,j ⟨35,[],none⟩ (λ_=>True) ((5,.slice e a.length g) :: (12,vi d) :: E) (OwnSl JT 162 e g a :: l) c w) (λc w W Z=>⟨_,_,jf rf tv [0] r W Z⟩) ?_))))));rintro⟨a,d⟩ _ U c w ⟨e,g,R,i,_,a6,a7⟩;have⟨m,V⟩:=i.u2 q V;refine Cod.at a6 a7 (.F (.D 1 15393 r (.B (.A r U (λy U=>?_) λy U=>?_))))
 . refine .O 7201 r (.B (.E (.F ?_)));have⟨S,_,A,_,_,a2,B,U⟩:=V.ix U;refine .Y B0 D5 a2 S A r (.ldb 0 AM B r (.D 1 7329 r (.B (.jn U [12,11,10,7,5,0] [0] r (λj E l s=>j ((23,.bool s) :: E) l) (λ_ U=>?_) ?_))))
   . refine .C (.G 4 r (.T U [18,19] r (λC U=>?_) λC U=>?_))
     . refine .G 2 r ?_;have D:=λ(J:IH) (hJ:IH.le R J) (hL:VY J [OwnSl JT 162 e g a])=>eJ (I:=J) (Ap9 hL.1) U;refine .P r (.callB (.f call136 r) (.o [0] r) D r r λ_ _ F=>?_);obtain⟨a4,rfl,U⟩:=F;exact .G 1 r (.I (je a4 U rf [0] r))
     exact .G 4 r (.I (je false U rf [0] r))
   refine λs U=>jq r λa5 G=>?_;have⟨_,n,V⟩:=G.u3 m i V;refine .A r U (λH U=>?_) λH U=>?_
   . refine .ownF .z λt=>.dr [0,1,2,3,4,5,6,7] 8 (.K 2 r (.h r (.shr' r r (by decide) r r .mk) ?_));have⟨k,u,b,U⟩:=U;have⟨_,X⟩:=t (FY b);cases X;refine .h r (.AB UW GD r r k (CL b k) r r .mk) (.h r (.lo1 (j:=0) EC .z b r r r r r .mk) (.K 1 r (.X r (.q call137 (sM (I:=a5) U:) r λv U=>?_))));refine .v 1 r (.U r (.lo1 (j:=0) EC .z b r r r r r .mk) (.U r (.AB UW GD r r k (CL b k) r r .mk) (.U r (.shr' r r (by decide) r r .mk) (.u 2 r r tv)))) (.K 1 r (.e2 8 ?_));have⟨x,_,p,U⟩:=U;exact .AB UW GD r r x (CL p x) r r (.stO1 (j:=0) (v':=(bor .u64 u v)) GD .z p r r r (.o r) r (.rl .z [5,24] r (by simp only[cB]) (.L 7201 r (.C (.G 2 r (.I λc w W Z=>⟨_,U,_,_,jf n tv [0] r W Z⟩))))))
   exact .O 7201 r (.C (.G 2 r (.I λc w W Z=>⟨_,U,_,_,jf n tv [0] r W Z⟩)))
 refine .en 32 r (.F (.D 2 16 r (.pub .z λ_ L Y=>?_)));have⟨N,_⟩:=L.u2 m i;exact .r1 results132 r N ⟨a,_,_,r,Y,U⟩
theorem CI {a0 Q} (J:RepSl B2 I p1 c2 a0) (h:BB a0 Q) :
  B7 prog 76 [.slice p1 a0.length c2] I (o8_ Q):=by
 refine Fun.ee func76 ntmps76 r (.F (.D 1 1 r (.B (.M 1 r (.eqNilS DU r r r r (.L 17 r ?_))))));refine split p1.isNone (λa=>?_) (λa=>?_)
 . have h:=h.1 (RepSl.ofNone J a);exact .Q r a (.F (.D 1 4 r (.r0 results76 r ⟨([]:List Int),_,_,r,(.nil _ _ _),h⟩)))
 have h:=h.2;refine .j r a (.O 1 r (.F (.bs 0 DU dK zv2 r λ_=>.G 1 r (.ownB (El:=B2) (ys:=([]:List Int)) .z .nil r ?_))));have⟨b,h⟩:=h;exact .ap (ys:=a0) .z DU DU IN2 r (.imm J r) b λ_ _=>.D 1 4 r (.pub .z λ_ c d=>.r1 results76 r c ⟨(([]:List Int)++a0),_,_,r,d,h⟩)
theorem N8 {a0 Q} (J:RepSl RM I p1 c2 a0) (h:D2 a0 Q) :
  B7 prog 97 [.slice p1 a0.length c2] I (λU v=>∃ r p4 c5,v=.slice p4 r.length c5∧RepSl RM U p4 c5 r∧Q r):=by
 refine Fun.ee func97 ntmps97 r (.F (.D 1 1 r (.B (.M 1 r (.eqNilS zB r r r r (.L 17 r ?_))))));refine split p1.isNone (λa=>?_) (λa=>?_)
 . have h:=h.1 (RepSl.ofNone J a);exact .Q r a (.F (.D 1 4 r (.r0 results97 r ⟨([]:List HP),_,_,r,(.nil _ _ _),h⟩)))
 have h:=h.2;refine .j r a (.O 1 r (.F (.bs 0 zB sizeOf198 zeroValue198 r λ_=>.G 1 r (.ownB (El:=RM) (ys:=([]:List HP)) .z .nil r ?_))));have⟨b,h⟩:=h;exact .ap (ys:=a0) .z zB zB AyA r (.imm J r) b λ_ _=>.D 1 4 r (.pub .z λ_ c d=>.r1 results97 r c ⟨(([]:List HP)++a0),_,_,r,d,h⟩)
theorem TO {a0 a1 Q} (d:O1 a0 a1 Q) :
  B7 prog 219 [vi a0,vi a1] I (λ_=>dJ Q):=by
 refine Fun.ee func219 ntmps219 r (.M 1 r (.V 3 3 r (.T d [6,7] r (λa d=>?_) λa d=>?_)))
 . exact .D 5 16 r (.r0 results219 r ⟨(decide (a0<=a1)),r,d⟩)
 exact .D 5 16 r (.r0 results219 r ⟨false,r,d⟩)
theorem xU {a0 a1 Q} (d:TA a0 a1 Q) :
  B7 prog 274 [vi a0,vi a1] I (λ_=>dJ Q):=by
 refine Fun.ee func274 ntmps274 r (.M 1 r (.V 3 1 r (.q call122 (NU (I:=I) d:) r λ_ d=>.G 1 r (.T d [6,7] r (λc d=>?_) λc d=>?_))))
 . refine .G 1 r ?_;refine .P r (.AC call122 r (NU (I:=I) d:) r r λ_ e=>?_);obtain⟨_,rfl,d⟩:=e;refine .G 3 r (.T d [10,11,12] r (λa d=>?_) λa d=>?_)
   . exact .D 5 16 r (.r0 results274 r ⟨true,r,d⟩)
   exact .D 5 16 r (.r0 results274 r ⟨(decide (a0<a1)),r,d⟩)
 exact .D 10 16 r (.r0 results274 r ⟨(decide (a0<a1)),r,d⟩)
theorem VP {a0 Q} (U:RepSl B2 I p1 c2 a0) (J:G8 a0 Q) :
  B7 prog 220 [.slice p1 a0.length c2] I (λ_=>dJ Q):=by
 refine Fun.ee func220 ntmps220 r (.F (.D 1 1 r (.B (.M 1 r (.ln B0 r (.D 2 9 r (.E (.lp J [0] [] r (λj E l b=>j ((3,vi b) :: E) l) (ji rf [] r) ?_))))))));refine λb _ J=>jq r λn a=>?_;have U:=a.u1 U;refine .B (.F (.D 2 265 r (.A r J (λc J=>?_) λc J=>?_)))
 . refine .O 9 r (.B (.E (.B (.dr Ao1 10 (.K 2 r ?_)))));have⟨o,_,d,_,_,p,e,J⟩:=U.ix J;refine .h r (.Y B0 D5 p o d r .mk) (.h r (.ldb 0 AM e r .mk) (.K 3 r ?_));have⟨q,_,f,_,_,s,g,J⟩:=U.ix J;refine .h r (.Y B0 D5 s q f r .mk) (.h r (.ldb 0 AM g r .mk) (.X r (.q call274 (xU (I:=n) J:) r λ_ J=>.v 0 r tv (.e2 10 (.L 1048585 r (.A r J (λk J=>?_) λk J=>?_))))))
   . exact .F (.D 1 4 r (.r1 results220 r a ⟨false,r,J⟩))
   exact .O 9 r (.C (.G 3 r (.I (je (AJ (b - 1)) J a [] r))))
 exact .en 0 r (.F (.D 1 4 r (.r1 results220 r a ⟨true,r,J⟩)))
theorem Ao2 {a0 a1 Q} (U:RepSl B2 I p1 c2 a0) (J:tR a0 a1 Q) :
  B7 prog 221 [.slice p1 a0.length c2,vi a1] I (λ_=>dJ Q):=by
 refine Fun.ee func221 ntmps221 r (.F (.D 1 3 r (.B (.M 1 r (.ln B0 r (.D 1 899 r (.E (.lp J [8,7,1,0] [] r (λj E l b=>j ((9,vi b) :: E) l) (ji rf [] r) ?_))))))));refine λb _ J=>jq r λp a=>?_;have U:=a.u1 U;refine .F (.D 1 1923 r (.B (.A r J (λf J=>?_) λf J=>?_)))
 . refine .O 899 r (.B (.E (.M 1 r ?_)));have⟨q,_,g,_,_,s,h,J⟩:=U.ix J;refine .Y B0 D5 s q g r (.ldb 0 AM h r (.G 2 r (.V 995 3 r (.q call219 (TO (I:=p) J:) r λ_ J=>.G 2 r (.T J [18,19] r (λk J=>?_) λk J=>?_)))))
   . exact .D 12 2147484547 r (.Q r r (.F (.D 1 16 r (.r1 results221 r a ⟨false,r,J⟩))))
   refine .G 3 r (.T J [21,22] r (λm J=>?_) λm J=>?_)
   . refine .G 3 r ?_;have⟨t,_,c,_,_,n,d,J⟩:=U.ix J;refine .P r (.Y B0 D5 n t c r (.P r (.ldb 0 AM d r (.D 4 2147484547 r (.A r J (λe J=>?_) λe J=>?_)))))
     . exact .F (.D 1 16 r (.r1 results221 r a ⟨false,r,J⟩))
     exact .O 899 r (.C (.G 2 r (.I (je (AJ (b+1)) J a [] r))))
   exact .D 9 2147484547 r (.j r r (.O 899 r (.C (.G 2 r (.I (je (AJ (b+1)) J a [] r))))))
 exact .en 0 r (.F (.D 1 16 r (.r1 results221 r a ⟨true,r,J⟩)))
theorem WY {a0 Q} (Z:pF I gd1 a0) (J:QA a0 Q) :
  B7 prog 152 [.agg (M0 a0 gd1)] I (λ_=>dJ Q):=by
 refine Fun.ee func152 ntmps152 r (.F (.y r λ_=>.G 1 r (.V 2 1 r (.H CN .z r (.ln B0 r (.D 1 10 r (.B (.M 1 r (.H AM .z r (.q call219 (TO (I:=I) J:) r λ_ J=>.G 2 r (.T J [11,12] r (λs J=>?_) λs J=>?_)))))))))))
 . exact .D 25 137438953482 r (.Q r r (.F (.D 1 4 r (.drop .z (.r0 results152 r ⟨false,r,J⟩)))))
 refine .G 1 r (.P r (.H AM .z r ?_));refine .P r (.AC call219 r (TO (I:=I) J:) r r λ_ u=>?_);obtain⟨_,rfl,J⟩:=u;refine .G 3 r (.T J [16,17,18] r (λv J=>?_) λv J=>?_)
 . exact .D 19 137438953482 r (.Q r r (.F (.D 1 4 r (.drop .z (.r0 results152 r ⟨false,r,J⟩)))))
 refine .G 1 r (.P r (.H CN .z r (.P r (.ln B0 r (.G 1 r (.P r (.H AM .z r (.G 4 r (.T J [25,26,27] r (λw J=>?_) λw J=>?_)))))))))
 . exact .D 10 137438953482 r (.Q r r (.F (.D 1 4 r (.drop .z (.r0 results152 r ⟨false,r,J⟩)))))
 refine .G 1 r (.P r (.H F3 .z r (.P r (.ln DU r (.G 4 r (.T J [32,33,34] r (λx J=>?_) λx J=>?_))))))
 . exact .D 3 137438953482 r (.Q r r (.F (.D 1 4 r (.drop .z (.r0 results152 r ⟨false,r,J⟩)))))
 refine .D 3 137438953482 r (.A r J (λy J=>?_) λy J=>?_)
 . exact .F (.D 1 4 r (.drop .z (.r0 results152 r ⟨false,r,J⟩)))
 refine .O 10 r (.B (.M 1 r (.H CN .z r ?_)));have⟨Y,_,A,_,_,a4,B,J⟩:=Z.1.ix J;refine .Y B0 D5 a4 Y A r (.ldb 0 AM B r (.G 2 r (.T J [42,43] r (λC J=>?_) λC J=>?_)))
 . exact .D 15 288230376151711746 r (.Q r r (.F (.D 1 4 r (.drop .z (.r0 results152 r ⟨false,r,J⟩)))))
 refine .G 1 r (.P r (.H CN .z r (.G 1 r (.P r (.H AM .z r ?_)))));have⟨a1,_,D,_,_,a2,F,J⟩:=Z.1.ix J;refine .P r (.Y B0 D5 a2 a1 D r (.P r (.ldb 0 AM F r (.G 4 r (.T J [51,52,53] r (λG J=>?_) λG J=>?_)))))
 . exact .D 5 288230376151711746 r (.Q r r (.F (.D 1 4 r (.drop .z (.r0 results152 r ⟨false,r,J⟩)))))
 refine .G 1 r (.P r (.H CN .z r ?_));refine .P r (.AC call220 r (VP Z.1 J:) r r λ_ K=>?_);obtain⟨_,rfl,J⟩:=K;refine .D 2 288230376151711746 r (.A r J (λN J=>?_) λN J=>?_)
 . exact .F (.D 1 4 r (.drop .z (.r0 results152 r ⟨false,r,J⟩)))
 refine .O 2 r (.B (.M 1 r (.H AM .z r (.D 1 3458764513820540930 r (.E (.lp J [60,1] [0] r (λj E l c=>j ((61,vi c) :: E) l) (ji rf [0] r) ?_))))));refine λc _ J=>jq r λ_ a=>?_;have Z:=a.u1 Z;refine .F (.D 1 8070450532247928834 r (.B (.A r J (λg J=>?_) λg J=>?_)))
 . refine .O 3458764513820540930 r (.B (.E (.F (.D 2 3458764513820540946 r (.B (.dr Az6 18 (.K 1 r (.W CN 0 r (.K 1 r (.W CN 0 r (.K 1 r ?_)))))))))));have⟨O,d,i,_,_,P,k,J⟩:=Z.1.ix J;refine .h r (.Y B0 D5 P O i r .mk) (.h r (.ldb 0 AM k r .mk) (.K 1 r (.W CN 0 r (.K 2 r ?_))));have⟨R,b,m,_,_,S,n,J⟩:=Z.1.ix J;refine .h r (.Y B0 D5 S R m r .mk) (.h r (.ldb 0 AM n r .mk) ?_);have⟨T,_,_,J⟩:=J;have e:Int.toNat d<=Int.toNat b:=by omega
   have f:Int.toNat b<=a0.Col.length:=by omega
   have⟨_,_,U,V,W⟩:=RepSl.sliceW Z.2.1 (Int.toNat d) (Int.toNat b) gd1.2.1.2 e f (.inl rfl);refine .h r (.sliceW (L:=Int.toNat d) (H:=Int.toNat b) (cm:=gd1.2.1.2) B0 D5 r r Z.2.1.1 r r r (.inr ⟨_,_,r,T,r⟩) (.inr ⟨_,_,r,(by omega),r⟩) (.inl r) e f r U V r r .mk) (.K 1 r (.W AM 0 r (.X r (.q call221 (Ao2 W J:) r λ_ J=>.v 1 r tv (.K 1 r (.e2 18 (.L 2417855097993772169953282 r (.A r J (λp J=>?_) λp J=>?_))))))))
   . exact .F (.D 1 4 r (.drop .z (.r1 results152 r a ⟨false,r,J⟩)))
   exact .O 3458764513820540930 r (.C (.G 2 r (.I (je (AJ (c+1)) J a [0] r))))
 exact .en 0 r (.drop .z (.F (.D 1 4 r (.r1 results152 r a ⟨true,r,J⟩))))
theorem oR {a0 Q} (d:UA a0 Q) :
  B7 prog 222 [vi a0] I (λ_=>dJ Q):=by
 refine Fun.ee func222 ntmps222 r (.M 1 r (.V 1 3 r (.T d [4,5] r (λa d=>?_) λa d=>?_)))
 . exact .D 4 4 r (.r0 results222 r ⟨(decide (a0<=8)),r,d⟩)
 exact .D 4 4 r (.r0 results222 r ⟨false,r,d⟩)
theorem aJ {a0 a1 a2 a3 Q} (J:QB a0 a1 a2 a3 Q) :
  B7 prog 153 [vi a0,vi a1,vi a2,vi a3] I (λ_=>dJ Q):=by
 refine Fun.ee func153 ntmps153 r (.M 1 r (.V 15 1 r (.q call222 (oR (I:=I) J:) r λ_ J=>.G 1 r (.T J [10,11] r (λf J=>?_) λf J=>?_))))
 . refine .G 1 r ?_;refine .P r (.AC call222 r (oR (I:=I) J:) r r λ_ h=>?_);obtain⟨_,rfl,J⟩:=h;refine .G 2 r (.T J [13,14,15] r (λa J=>?_) λa J=>?_)
   . refine .G 4 r (.T J [17,18,19] r (λb J=>?_) λb J=>?_)
     . refine .G 5 r (.T J [22,23,24] r (λc J=>?_) λc J=>?_)
       . refine .G 4 r (.T J [26,27,28] r (λd J=>?_) λd J=>?_)
         . exact .D 5 256 r (.r0 results153 r ⟨(decide (a3<a1)),r,J⟩)
         exact .D 5 256 r (.r0 results153 r ⟨false,r,J⟩)
       exact .D 9 256 r (.r0 results153 r ⟨false,r,J⟩)
     exact .D 14 256 r (.r0 results153 r ⟨false,r,J⟩)
   exact .D 18 256 r (.r0 results153 r ⟨false,r,J⟩)
 exact .D 22 256 r (.r0 results153 r ⟨false,r,J⟩)
theorem VB {a0 Q} (U:pF I gd1 a0) (D:S4 a0 Q) :
  B7 prog 223 [.agg (M0 a0 gd1)] I (o9_ Q):=by
 refine Fun.ee func223 ntmps223 r (.F (.y r λ_=>.al OL r λ_=>.L 6 r (.B (.F (.S D0 BJ .p1 r (.q call152 (WY U D:) r λ_ D=>.L 22 r (.A r D (λd D=>?_) λd D=>?_)))))))
 . exact .F (.S D0 BJ .p1 r (.R BJ .z r (.L 4 r (.drop .p1 (.J (B6 r (.w D0 BJ r .z r .n) rf ⟨a0,gd1,r,U,D⟩))))))
 refine .O 4 r (.drop .p1 (.F ?_));refine .AF call262 r (sL (I:=I) D:) r r λ_ _ _ f g=>?_;obtain⟨o,_,_,_,_,_,_,rfl,rfl,D⟩:=g;refine .R BJ .p3 r (.L 4 r (.pub .z λ_ h a=>?_));have i:=h.u1 f;refine .pub .z λ_ j b=>?_;have⟨k,a⟩:=j.u2 i a;refine .pub .z λ_ l p=>?_;have⟨m,a,b⟩:=l.u3 k a b;exact .J (B6 r (.w D0 BJ r .z r .n) m ⟨o,((_,_),(_,_),(_,_)),r,⟨a,b,p⟩,D⟩)
theorem oS {a0 a1 Q} (d:UB a0 a1 Q) :
  B7 prog 224 [.agg #[vi a0.1,vi a0.2],vi a1] I (λ_ v=>∃ r,v=.tuple #[vi r.1,vi r.2]∧Q r):=by
 refine Fun.ee func224 ntmps224 r (.F (.y r λ_=>.G 2 r (.ns 6 r (.AA (i:=0) UY D5 r r (by decide) (o:=0) r r r (.H AM .z r (.maxI r r r r (.G 1 r (.ns 70 r (.AA (i:=1) UY D5 r r (by decide) (o:=1) r r r (.H AM .z r (.G 1 r ?_)))))))))));refine .minI r r r r (.D 1 192 r (.drop .z (.B (.F (.D 3 131264 r (.A r d (λa d=>?_) λa d=>?_))))))
 . exact .F (.D 3 48 r (.J (B6 r (.t r (.t r .n)) rf ⟨((if 0 > a0.1 then 0 else a0.1),0),r,d⟩)))
 exact .O 192 r (.F (.D 6 48 r (.J (B6 r (.t r (.t r .n)) rf ⟨((if 0 > a0.1 then 0 else a0.1),AJ ((if a1<a0.2 then a1 else a0.2) - (if 0 > a0.1 then 0 else a0.1))),r,d⟩))))
theorem xV {a0 a1 Q} (U:pF I gd1 a0) (O:cN a0 a1 Q) :
  B7 prog 226 [.agg (M0 a0 gd1),vi a1] I (λV v=>∃ r p3 c4 p6 c7,v=.tuple #[.slice p3 r.1.length c4,.slice p6 r.2.length c7]∧RepSl B2 V p3 c4 r.1∧RepSl B2 V p6 c7 r.2∧Q r):=by
 refine Fun.ee func226 ntmps226 r (.F (.y r λ_=>.D 2 6 r (.B (.dr Ao0 12 (.K 1 r (.W CN 0 r (.K 1 r ?_)))))));have⟨l,b,g,_,_,m,i,O⟩:=U.1.ix O;refine .h r (.Y B0 D5 m l g r .mk) (.h r (.ldb 0 AM i r .mk) (.K 1 r (.W CN 0 r (.K 2 r ?_))));have⟨o,a,j,_,_,p,k,O⟩:=U.1.ix O;refine .h r (.Y B0 D5 p o j r .mk) (.h r (.ldb 0 AM k r .mk) (.K 1 r (.e2 12 (.D 1 196 r (.B (.dr AsV 13 (.K 1 r (.W CN 0 r (.K 3 r ?_)))))))));have⟨q,_,_,O⟩:=O;have c:Int.toNat b<=Int.toNat a:=by omega
 have d:Int.toNat a<=a0.Col.length:=by omega
 have⟨_,_,s,u,w⟩:=RepSl.sliceW U.2.1 (Int.toNat b) (Int.toNat a) (Int.toNat a) c d (.inr rfl);refine .h r (.sliceW (L:=Int.toNat b) (H:=Int.toNat a) (cm:=Int.toNat a) B0 D5 r r U.2.1.1 r r r (.inr ⟨_,_,r,q,r⟩) (.inr ⟨_,_,r,(by omega),r⟩) (.inr r) c d r s u r r .mk) (.K 1 r (.W F3 0 r (.K 3 r ?_)));have⟨x,_,_,O⟩:=O;have e:Int.toNat b<=Int.toNat a:=by omega
 have f:Int.toNat a<=a0.Val.length:=by omega
 have⟨_,_,y,A,B⟩:=RepSl.sliceW U.2.2 (Int.toNat b) (Int.toNat a) (Int.toNat a) e f (.inr rfl);exact .h r (.sliceW (L:=Int.toNat b) (H:=Int.toNat a) (cm:=Int.toNat a) DU dK r r U.2.2.1 r r r (.inr ⟨_,_,r,x,r⟩) (.inr ⟨_,_,r,(by omega),r⟩) (.inr r) e f r y A r r .mk) (.K 1 r (.e2 13 (.D 1 48 r (.drop .z (.J (B6 r (.t r (.t r .n)) rf ⟨(((a0.Col.take a.toNat).drop b.toNat),((a0.Val.take a.toNat).drop b.toNat)),_,_,_,_,r,w,B,O⟩))))))
theorem Ao3 {a0 a1 Q} (V:pF I gd1 a0) (U:tS a0 a1 Q) :
  B7 prog 225 [.agg (M0 a0 gd1),vi a1] I (AyG Q):=by
 refine Fun.ee func225 ntmps225 r ?_;refine .F (.y r λ_=>?_);refine .G 1 r (.ns 6 r (.S D0 BJ .z r (.ca call223 r (VB V U:) λ_ S d B=>?_)));obtain⟨_,_,rfl,h,U⟩:=B;have V:=d.u1 V;refine .R BJ .z r (.L 6 r (.B (.M 2 r (.H AM .z r (.G 1 r (.q call219 (TO (I:=S) U:) r λ_ U=>.D 1 131078 r (.A r U (λD U=>?_) λD U=>?_)))))))
 . exact .F (.D 1 16 r (.drop .z (.r1 results225 r d ⟨([]:List B3),_,_,r,(.nil _ _ _),U⟩)))
 refine .O 6 r (.M 1 r (.ns 38 r (.S D0 BJ .z r (.G 1 r ?_))));refine .ca call226 r (xV h U:) λ_ _ G H=>?_;obtain⟨_,_,_,_,_,rfl,i,k,U⟩:=H;have⟨J,h⟩:=G.u2 d h;refine .D 5 224 r (.drop .z (.B (.M 1 r (.ln B0 r (.D 1 117440672 r (.E (.own0 BX 183 (.lx U [25,24,7] [] r (λj E l (a,e)=>λc w=>∃ f g,j ⟨42,[],none⟩ (λ_=>True) ((5,.slice f a.length g) :: (26,vi e) :: E) (OwnSl BX 183 f g a :: l) c w) (λc w W Z=>⟨_,_,jf rf tv [0] r W Z⟩) ?_))))))));rintro⟨a,e⟩ _ U c w ⟨f,g,_,b,_,a2,a4⟩;have⟨o,i,k⟩:=b.u3 J i k;refine Cod.at a2 a4 (.F (.D 1 251658400 r (.B (.A r U (λp U=>?_) λp U=>?_))))
 . refine .O 117440672 r (.B (.E (.M 1 r ?_)));have⟨K,m,q,_,_,L,s,U⟩:=i.ix U;refine .Y B0 D5 L K q r (.ldb 0 AM s r (.D 2 117441440 r (.C (.G 4 r ?_))));have⟨N,n,t,_,_,O,u,U⟩:=k.ix U;refine .Y DU dK O N t r (.ldb 0 PN u r (.bd JL sD sA r (.bs 1 DB D4 JL r λ_=>?_)));have⟨v,U⟩:=U;exact .ap (ys:=[({ At:=m,Val:=n }:B3)]) .p1 DB DB rZ r (.box .z (.one r) r) v λ_ _=>.D 1 117440672 r (.drop .p1 (.C (.G 2 r (.I λc w W Z=>⟨_,U,_,_,jf b tv [0] r W Z⟩))))
 refine .en 32 r (.F (.D 2 16 r (.pub .z λ_ x P=>?_)));have⟨y,_⟩:=x.u2 o b;exact .r1 results225 r y ⟨a,_,_,r,P,U⟩
theorem gI {a0 a1 a2 Q} (U:pF I gd1 a0) (D:W9 a0 a1 a2 Q) :
  B7 prog 154 [.agg (M0 a0 gd1),.agg #[vi a1.1,vi a1.2],.agg #[vi a2.1,vi a2.2]] I (o9_ Q):=by
 refine Fun.ee func154 ntmps154 r ?_;refine .F (.y r λ_=>.y r λ_=>.y r λ_=>?_);refine .al OL r λ_=>.ns 120 r (.S D0 BJ .p3 r (.ca call223 r (VB U D:) λ_ Z y a6=>?_));obtain⟨_,_,rfl,a,D⟩:=a6;have U:=y.u1 U;refine .R BJ .p3 r (.ns 120 r (.S isAgg96 gR .p2 r (.G 1 r (.H AM .p3 r (.q call224 (oS (I:=Z) D:) r λ_ D=>.D 5 488 r (.drop .p2 (.F (.S isAgg96 gR .p1 r (.G 1 r (.H AM .p2 r (.q call224 (oS (I:=Z) D:) r λs D=>?_)))))))))));refine .D 5 1992 r (.drop .p1 (.F (.D 1 4040 r (.B (.F (.D 2 6442454984 r (.E (.own0 JW 248 (.lx D [31,10,9,8,7,6,3] [2,1] r (λj E l (i,d)=>λc w=>∃ k m,j ⟨74,[],none⟩ (λI_=>True) ((11,.slice k i.length m) :: (32,vi d) :: E) (OwnSl JW 248 k m i :: l) c w) (λc w J O=>⟨_,_,jf rf tv zN r J O⟩) ?_)))))))));rintro⟨i,d⟩ _ D c w ⟨k,m,_,g,_,V,W⟩;have⟨t,a⟩:=g.u2 y a;refine Cod.at V W (.F (.D 1 15032389576 r (.B (.A r D (λB D=>?_) λB D=>?_))))
 . refine .O 6442454984 r (.B (.E (.M 2 r (.ns 6442459080 r (.S D0 BJ .p1 r (.G 3 r ?_))))));refine .ca call225 r (Ao3 a D:) λ_ _ a5 F=>?_;obtain⟨_,_,_,rfl,e,D⟩:=F;have⟨G,H,a⟩:=a5.u3 t g a;refine .ln DB r (.D 1 3854733156296 r (.E (.lx D [40,39,32,31,12,10,9,8,7,6,3] [1,1] r (λj E l (b,h)=>λc w=>∃ o p,j ⟨74,[],none⟩ (λI_=>True) ((11,.slice o b.length p) :: (41,vi h) :: E) (OwnSl JW 248 o p b :: l) c w) (λc w J O=>⟨_,_,jf rf tv VO r J O⟩) ?_)));rintro⟨b,h⟩ _ D c w ⟨o,p,_,u,_,V,W⟩;have⟨a7,v,a,e⟩:=u.u4 G H a e;refine Cod.at V W (.F (.D 1 8252779667400 r (.B (.A r D (λK D=>?_) λK D=>?_))))
   . refine .O 3854733156296 r (.B (.E (.F ?_)));have⟨a9,f,L,_,_,c1,N,D⟩:=e.ix D;refine .Y DB D4 c1 a9 L r (.ldW T2 D4 N r r r r (.al JL r λ_=>.R D4 .z r (.L 3854733172680 r (.B (.jn D [41,40,39,32,31,14,12,11,10,9,8,7,6,3] [2,2,1,0] r (λj E l A=>j ((56,.bool A) :: E) l) (λ_ D=>?_) ?_)))))
     . refine .C (.G 1 r (.H AM .z r (.G 3 r (.T D [48,49] r (λa8 D=>?_) λa8 D=>?_))))
       . exact .G 1 r (.P r (.H AM .z r (.G 5 r (.I (je (decide ((AJ (f.At - s.1))<s.2)) D rf [2,2,1,0] r)))))
       exact .G 7 r (.I (je false D rf [2,2,1,0] r))
     refine λA D=>jq r λ_ P=>?_;have⟨_,_,x,a,e⟩:=P.u5 a7 v u a e;refine .A r D (λR D=>?_) λR D=>?_
     . refine .C (.G 3 r (.H AM .p3 r (.G 3 r (.H PN .p3 r (.bd dN underlying248 AlA r (.bs 1 OJ T1 dN r λ_=>?_))))));have⟨S,D⟩:=D;exact .ap (ys:=[({ Row:=d,Col:=AJ (f.At - s.1),Val:=f.Val }:A5)]) .p3 OJ OJ Al9 r (.box .z (.one r) r) S λ_ _=>.D 1 3854733156296 r (.drop .p1 (.drop .p3 (.C (.G 2 r (.I λc w J O=>⟨_,D,_,_,jf x tv VO r J O⟩)))))
     exact .O 3854733156296 r (.drop .p3 (.C (.G 2 r (.I λc w J O=>⟨_,D,_,_,jf x tv [2,0,0] r J O⟩))))
   exact .en 6442454984 r (.C (.G 2 r (.I λc w J O=>⟨_,D,_,_,jf v tv VO r J O⟩)))
 refine .en 3392 r (.drop .p1 (.M 3 r (.pub .z λ_ T q=>?_)));have⟨b0,c0⟩:=T.u2 t g;refine .ca call197 r (eI q D:) λ_ _ X Y=>?_;obtain⟨b1,d0,rfl,b2,D⟩:=Y;have⟨a3,_,q⟩:=X.u3 b0 c0 q;exact .R BJ .z r (.L 64 r (.J (B6 r (.w D0 BJ r .z r .n) a3 ⟨b1,d0,r,b2,D⟩)))
theorem eK {a0 Q} (d:QC a0 Q) :
  B7 prog 102 [vi a0] I (λ_=>dJ Q):=by
 refine Fun.ee func102 ntmps102 r (.M 1 r (.V 1 3 r (.T d [4,5] r (λa d=>?_) λa d=>?_)))
 . exact .D 4 4 r (.r0 results102 r ⟨(decide (a0<=8)),r,d⟩)
 exact .D 4 4 r (.r0 results102 r ⟨false,r,d⟩)
theorem Aj5 {a0 a1 Q} (h:mF a0 a1 Q) :
  B7 prog 159 [vi a0,vi a1] I (λ_=>dJ Q):=by
 refine Fun.ee func159 ntmps159 r (.M 1 r (.V 3 3 r (.T h [6,7] r (λa h=>?_) λa h=>?_)))
 . refine .G 4 r (.T h [9,10,11] r (λb h=>?_) λb h=>?_)
   . refine .G 1 r ?_;refine .P r (.AC call102 r (eK (I:=I) h:) r r λ_ d=>?_);obtain⟨e,rfl,h⟩:=d;exact .D 2 16 r (.r0 results159 r ⟨e,r,h⟩)
   exact .D 4 16 r (.r0 results159 r ⟨false,r,h⟩)
 exact .D 8 16 r (.r0 results159 r ⟨false,r,h⟩)
theorem IC {a0 a1 a2 Q} (d:IM a0 a1 a2 Q) :
  B7 prog 100 [vi a0,vi a1,vi a2] I (λ_=>bE Q):=by
 refine Fun.ee func100 ntmps100 r (.F (.D 1 7 r (.B (.M 2 r (.q call159 (Aj5 (I:=I) d:) r λ_ d=>.D 1 1031 r (.A r d (λa d=>?_) λa d=>?_))))))
 . exact .F (.D 1 64 r (.r0 results100 r ⟨0,r,d⟩))
 refine .O 7 r (.M 1 r (.maxI r r r r (.G 1 r (.minI r r r r (.G 3 r ?_)))));have⟨b,d⟩:=d;exact .quo r r b r r (.D 1 64 r (.r0 results100 r ⟨(AJ ((AJ ((if a1<(if 0 > a2 then 0 else a2) then a1 else (if 0 > a2 then 0 else a2))*a0)).tdiv a1)),r,d⟩))
theorem J7 {a0 a1 a2 Q} (h:GY a0 a1 a2 Q) :
  B7 prog 155 [vi a0,vi a1,vi a2] I (λ_=>AyH Q):=by
 exact Fun.ee func155 ntmps155 r (.F (.al gS r λ_=>.V 71 3 r (.q call100 (IC (I:=I) h:) r λc h=>.G 4 r (.q call100 (IC (I:=I) h:) r λd h=>.ba gS UY D5 r (.R gR .z r (.L 64 r (.J (B6 r (.w isAgg96 gR r .z r .n) rf ⟨(c,d),r,h⟩))))))))
theorem AgY {a0 a1 a2 a3 a4 Q} (V:pF I gd1 a0) (d:fH a0 a1 a2 a3 a4 Q) :
  B7 prog 98 [.agg (M0 a0 gd1),vi a1,vi a2,vi a3,vi a4] I (o9_ Q):=by
 refine Fun.ee func98 ntmps98 r (.F (.y r λ_=>.al OL r λ_=>.L 1086 r (.B (.F (.S D0 BJ .p1 r (.q call152 (WY V d:) r λ_ d=>.G 2 r (.T d [13,14] r (λe d=>?_) λe d=>?_)))))))
 . refine .D 7 2098238 r (.Q r r (.F (.bd OL sB wM r (.ba gS UY D5 r (.ba gS UY D5 r ?_)))));refine .ca call154 r (gI (I:=I) (gd1:=((_,_),(_,_),(_,_))) (a0:=SQ) ⟨(.nil _ none 0),(.nil _ none 0),(.nil _ none 0)⟩ d:) λ_ _ a g=>?_;obtain⟨x,i,rfl,y,d⟩:=g;have V:=a.u1 V;exact .R BJ .z r (.L 1024 r (.drop .p1 (.J (B6 r (.w D0 BJ r .z r .n) a ⟨x,i,r,y,d⟩))))
 refine .G 4 r ?_;refine .P r (.AC call153 r (aJ (I:=I) d:) r r λ_ k=>?_);obtain⟨_,rfl,d⟩:=k;refine .D 2 2098238 r (.A r d (λl d=>?_) λl d=>?_)
 . refine .F (.bd OL sB wM r (.ba gS UY D5 r (.ba gS UY D5 r ?_)));refine .ca call154 r (gI (I:=I) (gd1:=((_,_),(_,_),(_,_))) (a0:=SQ) ⟨(.nil _ none 0),(.nil _ none 0),(.nil _ none 0)⟩ d:) λ_ _ b o=>?_;obtain⟨A,p,rfl,B,d⟩:=o;have V:=b.u1 V;exact .R BJ .z r (.L 1024 r (.drop .p1 (.J (B6 r (.w D0 BJ r .z r .n) b ⟨A,p,r,B,d⟩))))
 refine .O 1086 r (.B (.dr [0,1,2,3,4,6,7,8,9,5,10,11] 12 (.h r (.S D0 BJ .p1 r .mk) (.K 1 r (.W AM 1 r (.K 3 r (.W AM 1 r (.K 2 r (.X r (.q call155 (J7 (I:=I) d:) r λ_ d=>?_))))))))));refine .v 2 r (.u 2 r r (.U r (.H AM .p1 r .mk) (.u 1 r r (.U r (.S D0 BJ .p1 r .mk) tv)))) (.X r ?_);refine .q call155 (J7 (I:=I) d:) r λ_ d=>?_;refine .v 2 r (.U r (.S D0 BJ .p1 r .mk) tv) (.X r (.ca call154 r (gI V d:) λ_ _ c u=>?_));obtain⟨C,v,rfl,D,d⟩:=u;have V:=c.u1 V;exact .v 2 r tv (.e2 12 (.R BJ .z r (.L 1024 r (.drop .p1 (.J (B6 r (.w D0 BJ r .z r .n) c ⟨C,v,r,D,d⟩))))))
theorem sN {Q} (d:Y0 Q) :
  yP prog 156 [] I (λ_ v l=>∃ r p1 c2 p4 c5 p7 c8 p10 c11,v=.agg #[vi r.Rows,vi r.Cols,.slice p1 r.At.length c2,.slice p4 r.Start.length c5,.slice p7 r.Row.length c8,.slice p10 r.Val.length c11]∧l=[OwnSl B2 3 p1 c2 r.At,OwnSl B2 3 p4 c5 r.Start,OwnSl B2 3 p7 c8 r.Row,OwnSl B2 2 p10 c11 r.Val]∧Q r):=by
 exact Fun.ee func156 ntmps156 r (.F (.al wP r λ_=>.ns 1 r (.bs 1 B0 D5 pG r λ_=>.ownB (El:=B2) (ys:=([0]:List Int)) .z (.one r) r (.bd wP underlying145 AvK r (.R EI .p1 r (.L 1 r (.own0 B2 3 (.own0 B2 3 (.own0 B2 2 (.J (DF r (.w HN EI r .p4 r .n) rf (.o [2,2,1,0] r) ⟨({ Rows:=0,Cols:=0,At:=([]:List Int),Start:=([0]:List Int),Row:=([]:List Int),Val:=([]:List Int) }:BE),_,_,_,_,_,_,_,_,r,r,d⟩)))))))))))
theorem jA {a0 Q} (W:pF I gd1 a0) (D:S5 a0 Q) :
  yP prog 157 [.agg (M0 a0 gd1)] I (λI_ v l=>∃ r p3 c4,v=.slice p3 r.length c4∧l=[OwnSl JW 248 p3 c4 r]∧Q r):=by
 refine Fun.ee func157 ntmps157 r ?_;refine .F (.y r λ_=>?_);refine .G 1 r (.ns 2 r (.S D0 BJ .z r (.ca call223 r (VB W D:) λ_ _ s P=>?_)));obtain⟨_,_,rfl,a,D⟩:=P;have W:=s.u1 W;refine .R BJ .z r (.V 2 1 r (.L 10 r (.B (.M 1 r (.H AM .z r (.D 1 12298 r (.E (.own0 JW 248 (.lx D [12,1] [1] r (λj E l (e,b)=>λc w=>∃ f g,j ⟨42,[],none⟩ (λI_=>True) ((3,.slice f e.length g) :: (13,vi b) :: E) (OwnSl JW 248 f g e :: l) c w) (λc w J U=>⟨_,_,jf rf tv PR r J U⟩) ?_)))))))));rintro⟨e,b⟩ _ D c w ⟨f,g,_,o,_,Z,a2⟩;have⟨p,a⟩:=o.u2 s a;refine Cod.at Z a2 (.F (.D 1 28682 r (.B (.A r D (λx D=>?_) λx D=>?_))))
 . refine .O 12298 r (.B (.E (.M 2 r (.ns 12314 r (.S D0 BJ .p1 r (.G 1 r ?_))))));refine .ca call226 r (xV a D:) λ_ _ A B=>?_;obtain⟨_,_,_,_,_,rfl,h,i,D⟩:=B;have⟨C,a4,a⟩:=A.u3 p o a;refine .G 5 r (.V 12410 1 r (.ln B0 r (.D 1 29372506 r (.E (.lx D [23,22,13,12,6,4,1] [1] r (λj E l (d,k)=>λc w=>∃ m n,j ⟨42,[],none⟩ (λI_=>True) ((3,.slice m d.length n) :: (24,vi k) :: E) (OwnSl JW 248 m n d :: l) c w) (λc w J U=>⟨_,_,jf rf tv PR r J U⟩) ?_)))));rintro⟨d,k⟩ _ D c w ⟨m,n,_,q,_,Z,a2⟩;have⟨_,F,a,h,i⟩:=q.u5 C a4 a h i;refine Cod.at Z a2 (.F (.D 1 62926938 r (.B (.A r D (λG D=>?_) λG D=>?_))))
   . refine .O 29372506 r (.B (.E (.M 1 r ?_)));have⟨R,t,H,_,_,S,a5,D⟩:=h.ix D;refine .Y B0 D5 S R H r (.ldb 0 AM a5 r (.D 2 29372890 r (.C (.G 5 r ?_))));have⟨T,u,K,_,_,a6,L,D⟩:=i.ix D;refine .Y DU dK a6 T K r (.ldb 0 PN L r (.bd dN underlying248 AlA r (.bs 1 OJ T1 dN r λ_=>?_)));have⟨N,D⟩:=D;exact .ap (ys:=[({ Row:=b,Col:=t,Val:=u }:A5)]) .p1 OJ OJ Al9 r (.box .z (.one r) r) N λ_ _=>.D 1 29372506 r (.drop .p1 (.C (.G 2 r (.I λc w J U=>⟨_,D,_,_,jf q tv PR r J U⟩))))
   exact .en 12298 r (.C (.G 2 r (.I λc w J U=>⟨_,D,_,_,jf F tv PR r J U⟩)))
 exact .en 8 r (.drop .p1 (.F (.D 2 4 r (.q1 results157 p [0] r ⟨e,_,_,r,r,D⟩))))
theorem AgZ {a0 a1 Q} (J:fI a0 a1 Q) :
  B7 prog 228 [.agg (pW a0).toArray,.agg (pW a1).toArray] I (λ_=>bE Q):=by
 refine Fun.ee func228 ntmps228 r (.F (.y r λ_=>.y r λ_=>.D 1 12 r (.B (.dr Av1 12 (.K 1 r (.W AM 1 r (.K 1 r (.W AM 0 r (.K 1 r (.W AM 1 r (.K 1 r (.W AM 0 r (.X r ?_)))))))))))));refine .q call72 (DJ (I:=I) J:) r λf J=>.v 2 r (.U r (.H AM .z r .mk) (.u 1 r r (.U r (.H AM .p1 r .mk) (.u 1 r r tv)))) (.X r (.q call72 (DJ (I:=I) J:) r λa J=>.v 2 r tv (.X r (.bs 2 B0 D5 pG r λ_=>.v 3 r tv (.X r (.pubB (El:=B2) (ys:=([f,a]:List Int)) (k:=2) .z (RepCs.cons (cs:=[vi f]) r (RepCs.cons (cs:=[vi a]) r .nil)) r λ_ d g=>?_))))));exact .q call71 (MW g J:) r λh J=>.v 2 r tv (.e2 12 (.D 1 16 r (.drop .z (.drop .z (.r1 results228 r d ⟨h,r,J⟩)))))
theorem Aj6 {a0 Q} (U:pF I gd1 a0) (J:mG a0 Q) :
  B7 prog 158 [.agg (M0 a0 gd1)] I (o9_ Q):=by
 refine Fun.ee func158 ntmps158 r ?_;refine .F (.y r λ_=>.al OL r λ_=>?_);refine .ns 6 r (.S D0 BJ .p1 r (.ca call223 r (VB U J:) λ_ _ t a9=>?_));obtain⟨_,_,rfl,b,J⟩:=a9;have U:=t.u1 U;refine .R BJ .p1 r (.ns 6 r (.S D0 BJ .p1 r ?_));refine .AF call157 r (jA b J:) r r λ_ _ _ Y b0=>?_;obtain⟨_,_,_,rfl,rfl,J⟩:=b0;have⟨a2,b⟩:=Y.u2 t b;refine .D 1 14 r (.B (.M 1 r (.ln OJ r (.D 1 7182 r (.E (.lx J [11,2,1] [2,1] r (λj E l (e,i)=>λc w=>∃ g h,j ⟨36,[],none⟩ (λ_=>True) ((3,.slice g e.length h) :: (10,.slice g e.length h) :: (12,vi i) :: E) (OwnSl JW 248 g h e :: l) c w) (λc w W Z=>⟨_,_,jf rf tv zN r W Z⟩) ?_))))));rintro⟨e,i⟩ _ J c w ⟨g,h,a3,k,_,b1,c0⟩;have⟨A,b⟩:=k.u2 a2 b;refine Cod.at b1 c0 (.F (.D 1 15374 r (.B (.A r J (λB J=>?_) λB J=>?_))))
 . refine .O 7182 r (.B (.E (.M 1 r ?_)));have⟨u,d,m,J⟩:=J;refine .ownNe .z (FY m) λ_ a4=>?_;cases a4;refine .AB OJ T1 r r u (CL m u) r r (.loA (j:=0) isAgg248 T1 .z m r r (.o 3 r) r r r (.al dN r λ_=>.G 1 r (.R T1 .z r (.L 7230 r (.C (.G 3 r (.H AM .z r (.G 1 r (.H AM .z r (.G 1 r (.H PN .z r (.bd dN underlying248 AlA r ?_))))))))))));have⟨v,_,q,J⟩:=J;exact .AB OJ T1 r r v (CL q v) r r (.stOA (j:=0) (v':=({ Row:=d.Col,Col:=d.Row,Val:=d.Val }:A5)) T1 .p1 q r r r (.o r) r r (.rl .p1 [3,10,17] r (by simp only[cB]) (.L 7182 r (.drop .z (.C (.G 2 r (.I λc w W Z=>⟨_,J,_,_,jf k tv VO r W Z⟩)))))))
 refine .en 14 r (.M 1 r ?_);have C:=Fun.sort (hk:=λ_=>⟨r,r⟩) Az4 isAgg248 T1 (λx y a7 Q hq=>AgZ (I:=a7) (a0:=x) (a1:=y) (Q:=Q) hq) call228 (I:=a3) (T:=248) (a:=g) (cap:=h) J;refine .x (.f call227 r) (.o [0] r) r C λ_ _ _ D F=>?_;obtain⟨_,rfl,s,rfl,J⟩:=F;have⟨G,H,b⟩:=D.u3 A k b;refine .rl .z [3,28] r (by rw[s]) (.V 14 1 r (.H AM .p1 r (.G 1 r (.H AM .p1 r (.G 1 r (.pub .z λ_ K p=>?_))))));have⟨L,N,b⟩:=K.u3 G H b;refine .ca call197 r (eI p J:) λ_ _ P R=>?_;obtain⟨a5,S,rfl,a6,J⟩:=R;have⟨a8,_,b,p⟩:=P.u4 L N b p;exact .R BJ .p1 r (.L 4 r (.drop .z (.J (B6 r (.w D0 BJ r .z r .n) a8 ⟨a5,S,r,a6,J⟩))))
theorem Ao4 {a0 Q} (V:pF I gd1 a0) (O:tT a0 Q) :
  B7 prog 99 [.agg (M0 a0 gd1)] I (AyI Q):=by
 refine Fun.ee func99 ntmps99 r ?_;refine .F (.y r λ_=>.al wP r λ_=>?_);refine .ns 6 r (.AF call156 r (sN (I:=I) O:) r r λ_ _ _ L d3=>?_);obtain⟨f6,_,_,_,_,_,_,_,_,rfl,rfl,O⟩:=d3;have V:=L.u1 V;refine .al wP r λa8=>.R EI .z r (.L 14 r (.B (.F (.S D0 BJ .p6 r (.q call152 (WY V O:) r λ_ O=>.D 1 1038 r (.A r O (λd5 O=>?_) λd5 O=>?_))))))
 . refine .F (.S HN EI .z r (.R EI .p5 r (.L 4 r (.drop .z (.drop .p5 (.pub .z λ_ d6 m=>?_))))));have d7:=d6.u1 L;refine .pub .z λ_ d8 K=>?_;have⟨d9,m⟩:=d8.u2 d7 m;refine .pub .z λ_ e0 X=>?_;have⟨e1,m,K⟩:=e0.u3 d9 m K;refine .pub .z λ_ e3 f7=>?_;have⟨e4,m,K,X⟩:=e3.u4 e1 m K X;exact .J (B6 r (.w HN EI r .z r .n) e4 ⟨f6,((_,_),(_,_),(_,_),(_,_)),r,⟨m,K,X,f7⟩,O⟩)
 refine .O 14 r (.B (.dr Aj2 6 (.K 1 r (.W AM 6 r (.K 1 r (.W AM 6 r (.K 1 r (.X r ?_))))))));refine .s1 D5 .z r (.O 7 r r r (.U r (.H AM .p6 r .mk) (.u 1 r r tv)) (.e2 6 (.G 1 r (.s1 D5 .z r (.L 14 r (.B (.F (.S D0 BJ .p6 r ?_))))))));refine .ca call158 r (Aj6 V O:) λ_ _ a5 a6=>?_;obtain⟨_,_,rfl,N,O⟩:=a6;have⟨a7,V⟩:=a5.u2 L V;refine .AF call157 r (jA N O:) r r λ_ _ _ a9 b0=>?_;obtain⟨_,_,_,rfl,rfl,O⟩:=b0;have⟨b1,V,N⟩:=a9.u3 a7 V N;refine .ln OJ r (.D 1 7340044 r (.drop .p7 (.E (.lx O [21,20,3,2] [6,0] r (λj E l (g,i,b,d,f5)=>λc w=>∃ P R S T s t u v,j ⟨79,[],none⟩ (λI_=>True) ((22,vi f5) :: E) (pc a8 #[vi a0.Rows,vi a0.Cols,.slice P g.length R,.slice S i.length T,.slice s b.length t,.slice u d.length v] 145 :: OwnSl B2 3 P R g :: OwnSl B2 3 S T i :: OwnSl B2 3 s t b :: OwnSl B2 2 u v d :: l) c w) (λc w W Z=>⟨_,_,_,_,_,_,_,_,jf rf tv [1,1,1,1,1,1,0] r W Z⟩) ?_))));rintro⟨g,i,b,d,f5⟩ _ O c w ⟨P,R,S,T,s,t,u,v,_,k,_,d2,d4⟩;have x:=k.u1 b1;refine Cod.at d2 d4 (.F (.D 1 15728652 r (.B (.A r O (λb2 O=>?_) λb2 O=>?_))))
 . refine .O 7340044 r (.B (.E (.F ?_)));have⟨Y,a,y,O⟩:=O;refine .ownNe .p6 (FY y) λ_ e5=>?_;cases e5;refine .AB OJ T1 r r Y (CL y Y) r r (.loA (j:=0) isAgg248 T1 .p6 y r r (.o 3 r) r r r (.al dN r λ_=>.R T1 .z r (.L 7340076 r (.B (.jx O [22,21,20,5,3,2] [6,4,4,0,3] r (λj E l (e,p)=>λc w=>∃ A C U D,j ⟨79,[],none⟩ (λI_=>True) E (pc a8 #[vi a0.Rows,vi a0.Cols,.slice A e.length C,.slice U p.length D,.slice s b.length t,.slice u d.length v] 145 :: OwnSl B2 3 A C e :: OwnSl B2 3 U D p :: l) c w) (λ_ O=>?_) ?_)))))
   . refine .M 1 r (.H CN .p1 r (.ln B0 r (.D 1 7340140 r (.B (.jn O [22,21,20,5,3,2] [6,1,1,1,1,1,0,0] r (λj E l f8=>j ((41,.bool f8) :: E) l) (λ_ O=>?_) ?_)))))
     . refine .ownF .p2 λa1=>.ownF .p3 λ_=>.ownF .p4 λ_=>.ownF .p5 λ_=>.dr AsV 13 (.K 3 r ?_);refine DG O (λF O=>?_) λF O=>?_
       . rw[F];exact .K 10 r (.e2 13 (.I (je true O rf [6,1,1,1,1,1,0,0] r)))
       rw[F];refine .K 1 r (.h r (.P r (.H CN .p1 r .mk)) (.K 2 r ?_));have⟨a2,e6,G,O⟩:=O;have⟨_,e7⟩:=a1 (FY G);cases e7;exact .h r (.P r (.AB B0 D5 r r a2 (CL G a2) r r .mk)) (.h r (.P r (.lo1 (j:=0) AM .p2 G r r r r r .mk)) (.K 1 r (.h r (.P r (.H AM .z r .mk)) (.K 2 r (.e2 13 (.I (je (e6 != a.Row) O rf [6,1,1,1,1,1,0,0] r)))))))
     refine λf8 O=>jq r λ_ H=>?_;have⟨_,_⟩:=H.u2 x k;refine .A r O (λb3 O=>?_) λb3 O=>?_
     . refine .M 1 r (.H CN .p1 r (.G 1 r (.H AM .p6 r (.bs 1 B0 D5 pG r λ_=>?_))));have⟨b4,O⟩:=O;refine .ap (ys:=[a.Row]) .p3 B0 B0 IN3 r (.box .z (.one r) r) b4 λ_ _=>.G 1 r (.s1 sizeOf141 .p3 r (.L 7340076 r (.drop .p1 (.C (.G 1 r (.H CN .p2 r (.bs 1 B0 D5 pG r λ_=>?_)))))));have⟨b5,O⟩:=O;exact .ap (ys:=[0]) .p4 B0 B0 IN3 r (.box .z (.one r) r) b5 λ_ _=>.G 1 r (.s1 sizeOf141 .p4 r (.I λc w W Z=>⟨_,O,_,_,_,_,jf H tv [4,2,0,1,1,1,1,1] r W Z⟩))
     exact .AE λc w W Z=>⟨_,O,_,_,_,_,jf H tv [1,1,1,0,0,0,0,0] r W Z⟩
   rintro⟨e,p⟩ O c w ⟨A,C,U,D,_,b6,_,d2,d4⟩;have⟨_,b7⟩:=b6.u2 x k;refine Cod.at d2 d4 (.M 1 r (.H CN .z r (.G 1 r (.H AM .p6 r (.bs 1 B0 D5 pG r λ_=>?_)))));have⟨b8,O⟩:=O;refine .ap (ys:=[a.Col]) .p5 B0 B0 IN3 r (.box .z (.one r) r) b8 λe8 e9=>.G 1 r (.s1 sizeOf141 .p2 r (.L 7340076 r (.drop .p1 (.M 1 r (.H F3 .p1 r (.G 1 r (.H PN .p6 r (.bs 1 DU dK zv2 r λ_=>?_))))))));have⟨c0,O⟩:=O;refine .ap (ys:=[a.Val]) .p6 DU DU IN2 r (.box .z (.one r) r) c0 λf0 f1=>.G 1 r (.s1 sizeOf23 .p3 r (.L 7340044 r (.drop .p1 (.drop .p6 (.C (.G 1 r (.H CN .p2 r (.G 1 r (.H CN .p2 r ?_)))))))));refine .ln B0 r (.G 1 r (.H CN .p2 r (.ln B0 r ?_)));have⟨a3,_,J,O⟩:=O;refine .ownNe .p4 (FY J) λf2 f3=>?_;cases f3;exact .AB B0 D5 r r a3 (CL J a3) r r (.stO1 (j:=0) (v':=((b++([a.Col])).length:Int)) D5 .p4 J r r r (.o r) r (.rl .p4 [69] r (by simp only[cB]) (.reat .p2 (B:=pc a8 #[vi a0.Rows,vi a0.Cols,.slice A e.length C,.slice (some ⟨f2,0,none⟩) (p.set ((e.length:Int).toNat) ((b++([a.Col])).length:Int)).length D,.slice e8 (b++([a.Col])).length e9,.slice f0 (d++([a.Val])).length f1] 145) (by simp only[cB]) (.L 7340044 r (.C (.G 2 r (.I λc w W Z=>⟨_,O,_,_,_,_,_,_,_,_,jf b7 tv [2,2,2,1,0,0,0] r W Z⟩)))))))
 refine .en 12 r (.drop .p6 (.F (.S HN EI .z r (.R EI .p5 r (.L 4 r (.drop .z (.pub .z λ_ c1 f=>?_)))))));have⟨c2,c3⟩:=c1.u2 x k;refine .pub .z λ_ c4 q=>?_;have⟨c5,c6,f⟩:=c4.u3 c2 c3 f;refine .pub .z λ_ c7 a4=>?_;have⟨c8,c9,f,q⟩:=c7.u4 c5 c6 f q;refine .pub .z λ_ d0 f4=>?_;have⟨d1,_,f,q,a4⟩:=d0.u5 c8 c9 f q a4;exact .J (B6 r (.w HN EI r .z r .n) d1 ⟨({ a0 with At:=g,Start:=i,Row:=b,Val:=d }:BE),((_,_),(_,_),(_,_),(_,_)),r,⟨f,q,a4,f4⟩,O⟩)
theorem YR {a0 Q} (h:RepSl JT I p1 c2 a0) (J:LU a0 Q) :
  Fun prog 230 #[.slice p1 a0.length c2] I [] (λd v l=>∃ r b4 p5 c6,v=.func (.func 277) #[] #[vp b4]∧RepSl JT d p5 c6 r∧l=[pc b4 #[.slice p5 r.length c6] 45]∧Q r):=by
 exact Fun.ee func230 ntmps230 r (.F (.box1 r r r r λb4=>.G 1 r (.ns 2 r (.mkFn r r r r (.D 1 4 r (.q1 results230 rf [0] r ⟨a0,_,_,_,r,h,r,J⟩))))))
theorem kO {o0 o1 o2 o3 Y Q} (hY:∀ {J_:IH},I.le J_->∀ {y11:Nat} {y12:Int} {y14:Int} {x16:Int} {Z:(Bool×Nat×Int)->Prop},Y y11 y12 y14 x16 Z->RFun prog lr [vi x16] J_ [Rr y11,pc b5 #[vi y12] 3,pc b6 #[vi y14] 3] (λI_ v l=>∃ r,v=.bool r.1∧l=[Rr r.2.1,pc b5 #[vi y12] 3,pc b6 #[vi r.2.2] 3]∧Z r)) (W:RepSl JT I p8 c9 o3) (U:QD o0 o1 o2 o3 Y Q) :
  Fun prog 277 #[.func (.yield lr) #[] #[],vp b7] I [Rr o0,pc b5 #[vi o1] 3,pc b6 #[vi o2] 3,pc b7 #[.slice p8 o3.length c9] 45] (λI_ v l=>∃ r,v=.tuple #[]∧l=[Rr r.1,pc b5 #[vi o1] 3,pc b6 #[vi r.2] 3,pc b7 #[.slice p8 o3.length c9] 45]∧Q r):=by
 refine Fun.ee func277 ntmps277 r (.F (.H OS .p3 r (.ln UW r (.D 1 451 r (.E (.lp U [7,6,1,0] [1,2] r (λj E l (i,k,m)=>j ((8,vi k) :: E) (pc b6 #[vi i] 3 :: Rr m :: l)) (ji rf [2,0,0,0] r) ?_))))));rintro⟨i,k,m⟩ _ U;refine jq r λ_ d=>?_;have W:=d.u1 W;refine .F (.D 1 963 r (.B (.A r U (λp U=>?_) λp U=>?_)))
 . refine .O 451 r (.B (.E (.M 1 r ?_)));have⟨C,_,q,_,_,D,s,U⟩:=W.ix U;refine .Y UW GD D C q r (.ldb 0 EC s r (.G 2 r (.V 475 1 r (.shl' r r (by decide) r r (.D 1 499 r (.E (.lp U [8,7,6,1,0] [2,2] r (λj E l (a,e,b,c)=>j ((4,.int .u64 e) :: (5,vi b) :: E) (pc b6 #[vi a] 3 :: Rr c :: l)) (ji rf SH r) ?_)))))));rintro⟨a,e,b,c⟩ _ U;refine jq r λF f=>?_;have⟨g,W⟩:=f.u2 d W;refine .B (.F (.D 2 66035 r (.A r U (λt U=>?_) λt U=>?_)))
   . refine .O 499 r (.B (.E (.M 4 r (.T U [23,24] r (λu U=>?_) λu U=>?_))))
     . refine .G 2 r ?_;have w:=hY (J_:=F) g (y11:=c) (y12:=o1) (y14:=a) (x16:=b) U;refine .P r (.callY r r (.o [1,1,0] r) w r r λ_ _ _ x y=>?_);obtain⟨h,rfl,rfl,U⟩:=y;have⟨z,A,W⟩:=x.u3 g f W;refine .rn 4 r (.D 2 536871411 r (.A r U (λB U=>?_) λB U=>?_))
       . exact .J (DF r .n z (.o SH r) ⟨(h.2.1,h.2.2),r,r,U⟩)
       exact .O 499 r (.C (.G 1 r (.shr' r r (by decide) r r (.G 4 r (.I (je (h.2.2,shr .u64 e 1,AJ (b+1),h.2.1) U A [2,0,0,0] r))))))
     exact .D 5 536871411 r (.j r r (.O 499 r (.C (.G 1 r (.shr' r r (by decide) r r (.G 4 r (.I (je (a,shr .u64 e 1,AJ (b+1),c) U f SH r))))))))
   exact .en 451 r (.C (.G 2 r (.I (je (a,AJ (k+1),c) U g SH r))))
 exact .exit (FR r .n d (.o Aj3 r) ⟨(m,i),r,r,U⟩)
theorem aK {a0 a1 Q} (R3:RepSl JT I p1 c2 a0) (hd:QE a0 a1 Q) :
  B7 prog 267 [.slice p1 a0.length c2,vi a1] I (λ_=>bE Q):=by
 refine Fun.en func267 ntmps267 r λw0 M=>?_;refine .marks0 (.F (.box1 r r r r λA=>.alloc1 pG r r r λl=>?_));refine .L 25 r (.B (.M 1 r (.x (.f call230 r) .n r (YR R3 hd:) λB m C b g=>?_)));obtain⟨p,q,t,u,rfl,a,rfl,hd⟩:=g;have R3:=b.u1 R3;refine .rn 4 r (.L 152 r (.E (.rangeF [.ret] r call277 (.o AgV r) λlr D rc hrc=>?_)));refine⟨_,kO (I:=m) (lr:=lr) (Rr:=bN lr [.ret] rc) (o0:=0) (o1:=a1) (o2:=0) (o3:=p) (b5:=A) (b6:=l) (b7:=q) (p8:=t) (c9:=u) ?_ a hd,?_⟩
 . intro I hJ E F v x Qy  hd
   replace a:=hJ.u1 a
   obtain⟨rfl,hd⟩:=hd;refine RFun.mk hrc r λw0 M=>.C (.G 1 r (.I λc w ho hs=>jM (E':=[(3,_),(4,_),(5,_)]) ho ⟨r,r,r,tv⟩ hs .z (.E (.M 1 r (.H AM .p1 r (.D 1 2096 r (.A r hd (λh hd=>?_) λh hd=>?_)))))))
   . exact .M 1 r (.s1 D5 .p2 r (.L 0 r (.J λc w ho hs=>Ac3 (js:=[.ret]) 1 (.inr rfl) rf .z (.o PR rfl) ⟨(false,1,x),rfl,rfl,hd⟩ hs)))
   exact .AE λc w ho hs=>Ac3 0 (.inl rfl) rf .z (.o PR rfl) ⟨(true,0,v),rfl,rfl,hd⟩ hs
 intro G H l' j k;obtain⟨y,rfl,rfl,hd⟩:=k;have⟨d,a⟩:=j.u2 b a;refine⟨_,_,r,λhj=>?_,λi hj=>?_⟩
 . have hd:=hd.1 (decide_eq_true hj);exact .rn 4 r (.mkS 16 r r (.drop .p1 (.drop .p2 (.F (.s1 D5 .p1 r (.L 16 r (.J (XW .z results267 (.s AM r .z .n) d ⟨(-1),r,hd⟩))))))))
 have⟨hz,hd⟩:=hd.2 (decide_eq_false (by omega));obtain rfl:i=0:=by omega
 refine⟨_,r,?_⟩;exact .rn 4 r (.J (XW .z results267 (.s AM r .p1 .n) d ⟨y.2,r,hd⟩))
theorem XI {a0 a1 Q} (O:RepSl JT I p1 c2 a0) (J:OC a0 a1 Q) :
  B7 prog 201 [.slice p1 a0.length c2,vi a1] I (λ_=>dJ Q):=by
 refine Fun.ee func201 ntmps201 r (.M 1 r (.V 3 3 r (.T J [6,7] r (λd J=>?_) λd J=>?_)))
 . refine .G 4 r (.T J [9,10,11] r (λe J=>?_) λe J=>?_)
   . refine .G 1 r (.P r (.ln UW r (.G 1 r ?_)));refine .P r (.AC call266 r (iZ (I:=I) J:) r r λ_ g=>?_);obtain⟨_,rfl,J⟩:=g;refine .G 3 r (.T J [16,17,18] r (λa J=>?_) λa J=>?_)
     . refine .G 2 r ?_;refine .P r (.AC call267 r (aK O J:) r r λ_ c=>?_);obtain⟨h,rfl,J⟩:=c;exact .D 3 16 r (.r0 results201 r ⟨(decide (h<0)),r,J⟩)
     exact .D 6 16 r (.r0 results201 r ⟨false,r,J⟩)
   exact .D 13 16 r (.r0 results201 r ⟨false,r,J⟩)
 exact .D 17 16 r (.r0 results201 r ⟨false,r,J⟩)
theorem Aj7 {a0 a1 Q} (J:RepSl B2 I p1 c2 a0.Draws) (U:X6 I gf4 a1) (h:vD a0 a1 Q) :
  B7 prog 133 [.agg (F0 a0 p1 c2),.agg (EO a1 gf4)] I (λ_=>dJ Q):=by
 refine Fun.ee func133 ntmps133 r (.F (.y r λ_=>.y r λ_=>.D 1 12 r (.B (.F (.S FV F9 .p1 r (.q call80 (TL J h:) r λ_ h=>.G 2 r (.T h [8,9] r (λb h=>?_) λb h=>?_)))))))
 . exact .D 18 134217736 r (.drop .p1 (.Q r r (.F (.D 1 16 r (.drop .z (.r0 results133 r ⟨false,r,h⟩))))))
 refine .G 1 r (.P r (.H AM .z r (.G 3 r (.T h [12,13,14] r (λc h=>?_) λc h=>?_))))
 . exact .D 13 134217736 r (.drop .p1 (.Q r r (.F (.D 1 16 r (.drop .z (.r0 results133 r ⟨false,r,h⟩))))))
 refine .G 1 r (.P r (.H AM .z r (.G 1 r (.P r (.H AM .z r (.G 3 r (.T h [19,20,21] r (λd h=>?_) λd h=>?_)))))))
 . exact .D 6 134217736 r (.drop .p1 (.Q r r (.F (.D 1 16 r (.drop .z (.r0 results133 r ⟨false,r,h⟩))))))
 refine .G 1 r (.P r (.H AM .z r (.G 1 r (.P r (.H AM .p1 r (.D 2 134217736 r (.drop .p1 (.A r h (λe h=>?_) λe h=>?_))))))))
 . exact .F (.D 1 16 r (.drop .z (.r0 results133 r ⟨false,r,h⟩)))
 refine .O 8 r (.M 1 r (.H AM .z r (.G 1 r (.H AM .z r (.G 2 r (.V 40 1 r (.H F3 .z r (.ln DU r (.G 3 r (.T h [37,38] r (λf h=>?_) λf h=>?_))))))))))
 . refine .G 1 r (.P r (.H F3 .z r (.P r (.ln DU r (.G 4 r (.T h [43,44,45] r (λg h=>?_) λg h=>?_))))))
   . refine .G 1 r (.P r (.H OS .z r (.G 1 r ?_)));refine .P r (.AC call201 r (XI U.2.2 h:) r r λ_ i=>?_);obtain⟨j,rfl,h⟩:=i;exact .D 2 16 r (.drop .z (.r0 results133 r ⟨j,r,h⟩))
   exact .D 6 16 r (.drop .z (.r0 results133 r ⟨false,r,h⟩))
 exact .D 13 16 r (.drop .z (.r0 results133 r ⟨false,r,h⟩))
theorem WZ {a0 a1 Q} (V:RepSl B2 I p1 c2 a0.Draws) (h:X6 I gf4 a1) (d:QF a0 a1 Q) :
  B7 prog 84 [.agg (F0 a0 p1 c2),.agg (EO a1 gf4)] I (λU v=>∃ r D,v=.agg (EO r D)∧X6 U D r∧Q r):=by
 refine Fun.ee func84 ntmps84 r (.F (.y r λ_=>.y r λ_=>.al MR r λ_=>.L 28 r (.B (.F (.S FV F9 .p2 r (.S FW CJ .p1 r (.q call133 (Aj7 V h d:) r λ_ d=>.L 152 r (.drop .p2 (.A r d (λb d=>?_) λb d=>?_)))))))))
 . exact .F (.S FW CJ .p1 r (.R CJ .z r (.L 16 r (.drop .p1 (.J (B6 r (.w FW CJ r .z r .n) rf ⟨a1,gf4,r,h,d⟩))))))
 exact .O 16 r (.drop .p1 (.F (.bd MR bO gQ r (.R CJ .z r (.L 16 r (.J (B6 r (.w FW CJ r .z r .n) rf ⟨DL,((_,_),(_,_),(_,_)),r,⟨(.nil _ _ _),(.nil _ _ _),(.nil _ _ _)⟩,d⟩)))))))
theorem AdQ {a0 Q} (h:Z7 a0 Q) :
  B7 prog 134 [.int .u64 a0] I (λ_=>bE Q):=by
 refine Fun.ee func134 ntmps134 r (.F (.D 1 1 r (.scope (.F (.D 1 9 r (.B (.labelS 9 r r (.B (.E (.lp h [] [] r (λj E l (c,a)=>j ((0,.int .u64 c) :: (3,vi a) :: E) l) (ji rf [] r) ?_))))))))));rintro⟨c,a⟩ _ h;refine jq r λ_ b=>.E (.B (.F (.D 2 41 r (.A r h (λd h=>?_) λd h=>?_))))
 . exact .en 8 r (.F (.D 2 4 r (.r1 results134 r b ⟨a,r,h⟩)))
 exact .O 9 r (.F (.D 5 9 r (.C (.G 3 r (.I (je (cC .u64 c (IntKind.wrap .u64 (c - 1)),AJ (a+1)) h b [] r))))))
theorem jB {a0 Q} (J:RepSl JT I p1 c2 a0) (h:S6 a0 Q) :
  B7 prog 85 [.slice p1 a0.length c2] I (λ_=>bE Q):=by
 refine Fun.ee func85 ntmps85 r (.M 1 r (.V 1 1 r (.L 9 r (.B (.M 1 r (.ln UW r (.D 1 456 r (.E (.lp h [7,6] [] r (λj E l (b,c)=>j ((3,vi b) :: (8,vi c) :: E) l) (ji rf [] r) ?_)))))))));rintro⟨b,c⟩ _ h;refine jq r λi a=>?_;have J:=a.u1 J;refine .F (.D 1 968 r (.B (.A r h (λd h=>?_) λd h=>?_)))
 . refine .O 456 r (.B (.E (.F ?_)));have⟨k,_,e,_,_,m,f,h⟩:=J.ix h;exact .Y UW GD m k e r (.ldb 0 EC f r (.D 1 488 r (.C (.G 2 r (.q call134 (AdQ (I:=i) h:) r λn h=>.D 2 456 r (.C (.G 2 r (.I (je (AJ (b+n),AJ (c+1)) h a [] r)))))))))
 exact .en 8 r (.F (.D 2 4 r (.r1 results85 r a ⟨b,r,h⟩)))
theorem sO {a0 a1 a2 Q} (U:RepSl B2 I p1 c2 a0.Draws) (W:X6 I gf4 a1) (J:Y1 a0 a1 a2 Q) :
  B7 prog 45 [.agg (F0 a0 p1 c2),.agg (EO a1 gf4),vi a2] I (λ_=>bE Q):=by
 refine Fun.ee func45 ntmps45 r ?_;refine .F (.y r λ_=>.y r λ_=>?_);refine .G 1 r (.ns 28 r (.S FV F9 .p1 r (.S FW CJ .z r (.ca call84 r (WZ U W J:) λ_ _ a g=>?_))));obtain⟨_,_,rfl,b,J⟩:=g;have⟨U,W⟩:=a.u2 U W;refine .R CJ .z r (.L 28 r (.B (.M 1 r (.H VL .p1 r (.L 16412 r (.E (.F (.D 2 49180 r (.A r J (λh J=>?_) λh J=>?_)))))))))
 . refine .M 2 r (.H AM .p1 r (.D 1 1048592 r (.drop .p1 (.A r J (λi J=>?_) λi J=>?_))))
   . exact .F (.D 1 64 r (.drop .z (.r1 results45 r a ⟨0,r,J⟩)))
   exact .O 16 r (.M 1 r (.H OS .z r (.q call85 (jB b.2.2 J:) r λu J=>.D 1 64 r (.drop .z (.r1 results45 r a ⟨u,r,J⟩)))))
 refine .F (.D 2 2097168 r (.drop .p1 (.A r J (λm J=>?_) λm J=>?_)))
 . refine .F (.D 1 144 r (.B (.M 1 r (.H F3 .z r (.ln DU r (.D 1 117440640 r (.drop .z (.E (.lp J [25,24] [] r (λj E l (c,e)=>j ((7,vi c) :: (26,vi e) :: E) l) (ji rf [] r) ?_)))))))));rintro⟨c,e⟩ _ J;refine jq r λ_ d=>?_;have⟨n,b⟩:=d.u2 a b;refine .F (.D 1 251658368 r (.B (.A r J (λo J=>?_) λo J=>?_)))
   . refine .O 117440640 r (.B (.E (.F ?_)));have⟨w,_,p,_,_,x,q,J⟩:=b.1.ix J;refine .Y DU dK x w p r (.ldb 0 PN q r (.G 1 r (.V 117441152 2 r (.L 2264924288 r (.A r J (λs J=>?_) λs J=>?_)))))
     . exact .C (.D 3 117440640 r (.C (.G 2 r (.I (je (AJ (c+1),AJ (e+1)) J d [] r)))))
     exact .O 117440640 r (.C (.G 2 r (.I (je (c,AJ (e+1)) J d [] r))))
   exact .en 128 r (.F (.D 2 64 r (.r1 results45 r n ⟨c,r,J⟩)))
 exact .O 16 r (.M 1 r (.H OS .z r (.q call85 (jB b.2.2 J:) r λy J=>.D 1 64 r (.drop .z (.r1 results45 r a ⟨y,r,J⟩)))))
theorem AdR {a0 a1 a2 Q} (h:jQ a0 a1 a2 Q) :
  B7 prog 231 [vi a0,vi a1,vi a2] I (λ_=>bE Q):=by
 refine Fun.ee func231 ntmps231 r (.F (.D 1 7 r (.B (.M 1 r (.q call102 (eK (I:=I) h:) r λ_ h=>.G 2 r (.T h [9,10] r (λb h=>?_) λb h=>?_))))))
 . exact .D 16 67108871 r (.Q r r (.F (.D 1 64 r (.r0 results231 r ⟨(-1),r,h⟩))))
 refine .G 4 r (.T h [12,13,14] r (λc h=>?_) λc h=>?_)
 . exact .D 12 67108871 r (.Q r r (.F (.D 1 64 r (.r0 results231 r ⟨(-1),r,h⟩))))
 refine .G 4 r (.T h [16,17,18] r (λd h=>?_) λd h=>?_)
 . exact .D 8 67108871 r (.Q r r (.F (.D 1 64 r (.r0 results231 r ⟨(-1),r,h⟩))))
 refine .G 4 r (.T h [20,21,22] r (λe h=>?_) λe h=>?_)
 . exact .D 4 67108871 r (.Q r r (.F (.D 1 64 r (.r0 results231 r ⟨(-1),r,h⟩))))
 refine .D 4 67108871 r (.A r h (λf h=>?_) λf h=>?_)
 . exact .F (.D 1 64 r (.r0 results231 r ⟨(-1),r,h⟩))
 exact .O 7 r (.F (.D 6 64 r (.r0 results231 r ⟨(AJ ((AJ (a1*a0))+a2)),r,h⟩)))
theorem kP {a0 a1 Q} (h:Y2 a0 a1 Q) :
  B7 prog 56 [vi a0,vi a1] I (λ_=>bE Q):=by
 refine Fun.ee func56 ntmps56 r (.F (.D 1 3 r (.B (.M 1 r (.q call102 (eK (I:=I) h:) r λ_ h=>.G 2 r (.T h [7,8] r (λb h=>?_) λb h=>?_))))))
 . exact .D 9 131075 r (.Q r r (.F (.D 1 16 r (.r0 results56 r ⟨(-1),r,h⟩))))
 refine .G 4 r (.T h [10,11,12] r (λc h=>?_) λc h=>?_)
 . exact .D 5 131075 r (.Q r r (.F (.D 1 16 r (.r0 results56 r ⟨(-1),r,h⟩))))
 refine .D 5 131075 r (.A r h (λd h=>?_) λd h=>?_)
 . exact .F (.D 1 16 r (.r0 results56 r ⟨(-1),r,h⟩))
 refine .O 3 r (.M 2 r ?_);have⟨e,h⟩:=h;exact .quo r r e r r (.D 1 16 r (.r0 results56 r ⟨(AJ (a1.tdiv a0)),r,h⟩))
theorem aL {a0 a1 Q} (d:UC a0 a1 Q) :
  B7 prog 57 [vi a0,vi a1] I (λ_=>bE Q):=by
 refine Fun.ee func57 ntmps57 r (.F (.D 1 3 r (.B (.M 2 r (.q call56 (kP (I:=I) d:) r λ_ d=>.D 1 259 r (.A r d (λb d=>?_) λb d=>?_))))))
 . exact .F (.D 1 16 r (.r0 results57 r ⟨(-1),r,d⟩))
 refine .O 3 r (.M 2 r ?_);have⟨c,d⟩:=d;exact .rem r r c r r (.D 1 16 r (.r0 results57 r ⟨(a1.tmod a0),r,d⟩))
theorem GM {a0 Q} (J:RepSl JT I p1 c2 a0) (h:BT a0 Q) :
  B7 prog 77 [.slice p1 a0.length c2] I (o7_ Q):=by
 refine Fun.ee func77 ntmps77 r (.F (.D 1 1 r (.B (.M 1 r (.eqNilS UW r r r r (.L 17 r ?_))))));refine split p1.isNone (λa=>?_) (λa=>?_)
 . have h:=h.1 (RepSl.ofNone J a);exact .Q r a (.F (.D 1 4 r (.r0 results77 r ⟨([]:List Int),_,_,r,(.nil _ _ _),h⟩)))
 have h:=h.2;refine .j r a (.O 1 r (.F (.bs 0 UW GD zeroValue162 r λ_=>.G 1 r (.ownB (El:=JT) (ys:=([]:List Int)) .z .nil r ?_))));have⟨b,h⟩:=h;exact .ap (ys:=a0) .z UW UW AvL r (.imm J r) b λ_ _=>.D 1 4 r (.pub .z λ_ c d=>.r1 results77 r c ⟨(([]:List Int)++a0),_,_,r,d,h⟩)
theorem kQ {o0 o1 o2 Y Q} (hY:∀ {J_:IH},I.le J_->∀ {y13:Nat} {y14:List Int} {x20:Int} {p16:Option Addr} {c17:Nat} {Qy:(Bool×Nat×(List Int))->Prop},Y y13 y14 x20 Qy->RFun prog lr [vi x20] J_ [Rr y13,pc b4 #[.slice p16 y14.length c17] 141,OwnSl B2 3 p16 c17 y14] (λZ v l=>∃ r p22 c23,v=.bool r.1∧l=[Rr r.2.1,pc b4 #[.slice p22 r.2.2.length c23] 141,OwnSl B2 3 p22 c23 r.2.2]∧Qy r)) (W:RepSl JT I p10 c11 o2) (D:QG o0 o1 o2 Y Q) :
  Fun prog 277 #[.func (.yield lr) #[] #[],vp b9] I [Rr o0,pc b4 #[.slice p5 o1.length c6] 141,OwnSl B2 3 p5 c6 o1,pc b9 #[.slice p10 o2.length c11] 45] (λZ v l=>∃ r a6 a5,v=.tuple #[]∧l=[Rr r.1,pc b4 #[.slice a6 r.2.length a5] 141,OwnSl B2 3 a6 a5 r.2,pc b9 #[.slice p10 o2.length c11] 45]∧Q r):=by
 refine Fun.ee func277 ntmps277 r (.F (.H OS .p3 r (.ln UW r (.D 1 451 r (.E (.lx D [7,6,1,0] [3] r (λj E l (e,q,s)=>λc w=>∃ t u,j ⟨31,[],none⟩ (λZ=>True) ((8,vi q) :: E) (pc b4 #[.slice t e.length u] 141 :: OwnSl B2 3 t u e :: Rr s :: l) c w) (λc w J U=>⟨_,_,jf rf tv Aj3 r J U⟩) ?_))))));rintro⟨e,q,s⟩ _ D c w ⟨t,u,_,f,_,a2,a4⟩;have W:=f.u1 W;refine Cod.at a2 a4 (.F (.D 1 963 r (.B (.A r D (λx D=>?_) λx D=>?_))))
 . refine .O 451 r (.B (.E (.M 1 r ?_)));have⟨K,_,y,_,_,L,z,D⟩:=W.ix D;refine .Y UW GD L K y r (.ldb 0 EC z r (.G 2 r (.V 475 1 r (.shl' r r (by decide) r r (.D 1 499 r (.E (.lx D [8,7,6,1,0] [3] r (λj E l (a,g,b,d)=>λc w=>∃ h i,j ⟨31,[],none⟩ (λZ=>True) ((4,.int .u64 g) :: (5,vi b) :: E) (pc b4 #[.slice h a.length i] 141 :: OwnSl B2 3 h i a :: Rr d :: l) c w) (λc w J U=>⟨_,_,jf rf tv SH r J U⟩) ?_)))))));rintro⟨a,g,b,d⟩ _ D c w ⟨h,i,N,k,_,a2,a4⟩;have⟨m,W⟩:=k.u2 f W;refine Cod.at a2 a4 (.B (.F (.D 2 66035 r (.A r D (λA D=>?_) λA D=>?_))))
   . refine .O 499 r (.B (.E (.M 4 r (.T D [23,24] r (λB D=>?_) λB D=>?_))))
     . refine .G 2 r ?_;have C:=hY (J_:=N) m (y13:=d) (y14:=a) (x20:=b) (p16:=h) (c17:=i) D;refine .P r (.callY r r (.o [2,0,0] r) C r r λ_ _ _ a7 F=>?_);obtain⟨p,_,_,rfl,rfl,D⟩:=F;have⟨G,H,W⟩:=a7.u3 m k W;refine .rn 4 r (.D 2 536871411 r (.A r D (λa8 D=>?_) λa8 D=>?_))
       . exact .J (DF r .n G (.o SH r) ⟨(p.2.1,p.2.2),_,_,r,r,D⟩)
       exact .O 499 r (.C (.G 1 r (.shr' r r (by decide) r r (.G 4 r (.I λc w J U=>⟨_,D,_,_,jf H tv Aj3 r J U⟩)))))
     exact .D 5 536871411 r (.j r r (.O 499 r (.C (.G 1 r (.shr' r r (by decide) r r (.G 4 r (.I λc w J U=>⟨_,D,_,_,jf k tv SH r J U⟩)))))))
   exact .en 451 r (.C (.G 2 r (.I λc w J U=>⟨_,D,_,_,jf m tv SH r J U⟩)))
 exact .exit (FR r .n f (.o [2,0,0,0] r) ⟨(s,e),_,_,r,r,D⟩)
theorem RJ {o0 Q} (R5:RepSl JT I p3 c4 o0) (hd:GI o0 Q) :
  Fun prog 276 #[.slice none 0 0,.func (.func 277) #[] #[vp b2]] I [pc b2 #[.slice p3 o0.length c4] 45] (λI_ v l=>∃ r p6 c7,v=.slice p6 r.length c7∧RepSl B2 I_ p6 c7 r∧l=[pc b2 #[.slice p3 o0.length c4] 45]∧Q r):=by
 refine Fun.en func276 ntmps276 r λw0 M=>.marks0 (.F (.box1 r r r r λm=>.D 1 6 r (.B (.F (.D 1 70 r (.E (.own0 B2 3 (.rangeF [] r call277 (.o [2,1,0,0] r) λlr D rc hrc=>?_))))))));refine⟨_,kQ (I:=I) (lr:=lr) (Rr:=bN lr [] rc) (o0:=0) (o1:=([]:List Int)) (o2:=o0) (b4:=m) (p5:=none) (c6:=0) (b9:=b2) (p10:=p3) (c11:=c4) ?_ R5 hd,?_⟩
 . intro I hJ p h b q s Qy  hd
   replace R5:=hJ.u1 R5
   obtain⟨rfl,hd⟩:=hd;refine RFun.mk hrc r λw0 M=>.C (.G 1 r (.I λc w ho hs=>jM (E':=[(2,_),(5,_)]) ho ⟨r,r,tv⟩ hs .z (.E (.C (.H CN .p1 r (.G 1 r (.bs 1 B0 D5 pG r λu=>?_)))))));have⟨d,hd⟩:=hd;exact .ap (ys:=[b]) .p3 B0 B0 IN3 r (.box .z (.one r) r) d λx y=>.s1 sizeOf141 .p3 r (.I λc w ho hs=>Ac3 0 (.inl rfl) rf .p2 (.o [2,0] rfl) ⟨(true,0,(h++([b]))),_,_,rfl,rfl,hd⟩ hs)
 intro A B l' a e;obtain⟨j,C,E,rfl,rfl,hd⟩:=e;have R5:=a.u1 R5;have⟨hz,hd⟩:=hd;refine⟨_,_,r,λhj=>?_,λi hj=>absurd (hz.symm.trans hj) (by simp)⟩;refine .rn 4 r (.mkS 6 r r (.F (.H CN .p1 r (.D 1 18 r (.drop .p1 (.pub .p1 λF f k=>?_))))));have⟨g,R5⟩:=f.u2 a R5;exact .J (AvD .z results276 (.t r .n) g (.o [0] r) ⟨j.2,_,_,r,k,r,hd⟩)
theorem XJ {o0 Q} (h:RepSl JT I p3 c4 o0) (J:JZ o0 Q) :
  Fun prog 229 #[.func (.func 277) #[] #[vp b2]] I [pc b2 #[.slice p3 o0.length c4] 45] (λO v l=>∃ r p6 c7,v=.slice p6 r.length c7∧RepSl B2 O p6 c7 r∧l=[pc b2 #[.slice p3 o0.length c4] 45]∧Q r):=by
 refine Fun.ee func229 ntmps229 r ?_;refine .M 1 r (.V 1 1 r ?_);refine .x (.f call276 r) (.o [0] r) r (RJ (b2:=b2) h J:) λ_ _ _ a c=>?_;obtain⟨d,_,_,rfl,e,rfl,J⟩:=c;have h:=a.u1 h;exact .rn 1 r (.D 1 5 r (.q1 results229 a [0] r ⟨d,_,_,r,e,r,J⟩))
theorem AdS {a0 Q} (d:RepSl JT I p1 c2 a0) (J:Z8 a0 Q) :
  B7 prog 162 [.slice p1 a0.length c2] I (o8_ Q):=by
 refine Fun.ee func162 ntmps162 r ?_;refine .M 1 r (.V 1 1 r ?_);refine .x (.f call230 r) .n r (YR d J:) λ_ _ _ b c=>?_;obtain⟨_,j,_,_,rfl,a,rfl,J⟩:=c;have d:=b.u1 d;refine .rn 1 r ?_;refine .x (.f call229 r) (.o [0] r) r (XJ (b2:=j) a J:) λ_ _ _ e g=>?_;obtain⟨k,_,_,rfl,l,rfl,J⟩:=g;have⟨h,d,a⟩:=e.u3 b d a;exact .rn 1 r (.D 1 4 r (.drop .z (.r1 results162 r h ⟨k,_,_,r,l,J⟩)))
theorem BN {a0 Q} (h:RepSl BX I p1 c2 a0) (d:AX a0 Q) :
  yP prog 163 [.slice p1 a0.length c2] I (λ_ v l=>∃ r p4 c5,v=.slice p4 r.length c5∧l=[OwnSl BX 183 p4 c5 r]∧Q r):=by
 refine Fun.ee func163 ntmps163 r (.F (.D 1 1 r (.B (.M 1 r (.eqNilS DB r r r r (.L 17 r ?_))))));refine split p1.isNone (λa=>?_) (λa=>?_)
 . have d:=d.1 (RepSl.ofNone h a);exact .Q r a (.F (.D 1 4 r (.own0 BX 183 (.q1 results163 rf [0] r ⟨([]:List B3),_,_,r,r,d⟩))))
 have d:=d.2;refine .j r a (.O 1 r (.F (.bs 0 DB D4 JL r λ_=>.G 1 r (.ownB (El:=BX) (ys:=([]:List B3)) .z .nil r ?_))));have⟨b,d⟩:=d;exact .ap (ys:=a0) .z DB DB rZ r (.imm h r) b λ_ _=>.D 1 4 r (.q1 results163 rf [0] r ⟨(([]:List B3)++a0),_,_,r,r,d⟩)
theorem J8 {a0 Q} (J:RepSl EZ I p1 c2 a0) (h:D8 a0 Q) :
  B7 prog 164 [.slice p1 a0.length c2] I (λU v=>∃ r p4 c5,v=.slice p4 r.length c5∧RepSl EZ U p4 c5 r∧Q r):=by
 refine Fun.ee func164 ntmps164 r (.F (.D 1 1 r (.B (.M 1 r (.eqNilS EL r r r r (.L 17 r ?_))))));refine split p1.isNone (λa=>?_) (λa=>?_)
 . have h:=h.1 (RepSl.ofNone J a);exact .Q r a (.F (.D 1 4 r (.r0 results164 r ⟨([]:List BK),_,_,r,(.nil _ _ _),h⟩)))
 have h:=h.2;refine .j r a (.O 1 r (.F (.bs 0 EL FN iP r λ_=>.G 1 r (.ownB (El:=EZ) (ys:=([]:List BK)) .z .nil r ?_))));have⟨b,h⟩:=h;exact .ap (ys:=a0) .z EL EL AfT r (.imm J r) b λ_ _=>.D 1 4 r (.pub .z λ_ c d=>.r1 results164 r c ⟨(([]:List BK)++a0),_,_,r,d,h⟩)
theorem AdT {a0 Q} (D:tQ I gj1 a0) (V:Z9 a0 Q) :
  B7 prog 106 [.agg (K8 a0 gj1)] I (AyJ Q):=by
 refine Fun.ee func106 ntmps106 r ?_;refine .F (.y r λ_=>.al LH r λ_=>?_);refine .L 6 r (.B (.dr [0,1,2,4,5,3,7,8,6,9] 10 (.K 2 r (.W HF 1 r (.K 1 r (.W KN 1 r (.X r (.AF call163 r (BN D.1 V:) r r λ_ _ _ a d=>?_))))))));obtain⟨k,l,m,rfl,rfl,V⟩:=d;have D:=a.u1 D;refine .v 3 r (.U r (.H KN .p2 r .mk) (.u 1 r r tv)) (.K 2 r (.X r ?_));refine .ca call164 r (J8 D.2.1 V:) λ_ _ f g=>?_;obtain⟨o,p,q,rfl,b,V⟩:=g;have⟨h,D⟩:=f.u2 a D;refine .v 3 r (.u 2 r r tv) (.X r (.s1 sizeOf123 .p2 r (.O 3 r r r tv (.e2 10 (.G 1 r (.s1 bH .p2 r (.ns 6 r (.S GQ CZ .p2 r (.R CZ .p1 r (.L 4 r (.drop .p2 (.pub .z λ_ i s=>?_))))))))))));have⟨j,D,b⟩:=i.u3 h D b;exact .J (B6 r (.w GQ CZ r .z r .n) j ⟨({ a0 with Vec:=({ N:=a0.Vec.N,Items:=k }:Vec),Sums:=o }:AU),((l,m),(p,q),gj1.2.2),r,⟨s,b,D.2.2⟩,V⟩)
theorem N9 {a0 Q} (J:RepSl JW I p1 c2 a0) (h:D3 a0 Q) :
  B7 prog 165 [.slice p1 a0.length c2] I (λU v=>∃ r p4 c5,v=.slice p4 r.length c5∧RepSl JW U p4 c5 r∧Q r):=by
 refine Fun.ee func165 ntmps165 r (.F (.D 1 1 r (.B (.M 1 r (.eqNilS OJ r r r r (.L 17 r ?_))))));refine split p1.isNone (λa=>?_) (λa=>?_)
 . have h:=h.1 (RepSl.ofNone J a);exact .Q r a (.F (.D 1 4 r (.r0 results165 r ⟨([]:List A5),_,_,r,(.nil _ _ _),h⟩)))
 have h:=h.2;refine .j r a (.O 1 r (.F (.bs 0 OJ T1 dN r λ_=>.G 1 r (.ownB (El:=JW) (ys:=([]:List A5)) .z .nil r ?_))));have⟨b,h⟩:=h;exact .ap (ys:=a0) .z OJ OJ Al9 r (.imm J r) b λ_ _=>.D 1 4 r (.pub .z λ_ c d=>.r1 results165 r c ⟨(([]:List A5)++a0),_,_,r,d,h⟩)
theorem xW {a0 Q} (d:tQ I gj1 a0) (D:cO a0 Q) :
  B7 prog 109 [.agg (K8 a0 gj1)] I (AyJ Q):=by
 refine Fun.ee func109 ntmps109 r ?_;refine .F (.y r λ_=>.al LH r λ_=>?_);refine .V 6 2 r (.H HF .p1 r (.AF call163 r (BN d.1 D:) r r λ_ _ _ b e=>?_));obtain⟨q,_,_,rfl,rfl,D⟩:=e;have d:=b.u1 d;refine .G 2 r (.s1 sizeOf123 .p2 r (.V 6 1 r (.H KN .p2 r ?_)));refine .ca call164 r (J8 d.2.1 D:) λ_ _ g h=>?_;obtain⟨s,_,_,rfl,a,D⟩:=h;have⟨i,d⟩:=g.u2 b d;refine .G 1 r (.s1 bH .p2 r (.V 6 1 r (.H isAgg127 .p2 r ?_)));refine .ca call165 r (N9 d.2.2 D:) λ_ _ k l=>?_;obtain⟨t,_,_,rfl,c,D⟩:=l;have⟨m,d,a⟩:=k.u3 i d a;refine .G 1 r (.s1 sizeOf127 .p2 r (.ns 6 r (.S GQ CZ .p2 r (.R CZ .p1 r (.L 4 r (.drop .p2 (.pub .z λ_ o u=>?_)))))));have⟨p,a,c⟩:=o.u3 m a c;exact .J (B6 r (.w GQ CZ r .z r .n) p ⟨({ a0 with Vec:=({ N:=a0.Vec.N,Items:=q }:Vec),Sums:=s,Triples:=t }:AU),((_,_),(_,_),(_,_)),r,⟨u,a,c⟩,D⟩)
theorem xX {a0 a1 Q} (d:TB a0 a1 Q) :
  B7 prog 207 [vi a0,vi a1] I (λ_=>dJ Q):=by
 refine Fun.ee func207 ntmps207 r (.M 1 r (.V 3 3 r (.T d [6,7] r (λa d=>?_) λa d=>?_)))
 . exact .D 5 16 r (.r0 results207 r ⟨(decide (a0<=a1)),r,d⟩)
 exact .D 5 16 r (.r0 results207 r ⟨false,r,d⟩)
theorem gY {o0 o1 a0 Q} (h:RepSl BX I p5 c6 o1.Items) (d:P4 o0 o1 a0 Q) :
  Fun prog 209 #[.agg (W4 a0).toArray,vp b3,vp b4] I [pc b3 #[vi o0] 3,pc b4 #[vi o1.N,.slice p5 o1.Items.length c6] 125] (λ_ v l=>∃ r,v=.bool r.1∧l=[pc b3 #[vi r.2] 3,pc b4 #[vi o1.N,.slice p5 o1.Items.length c6] 125]∧Q r):=by
 refine Fun.ee func209 ntmps209 r (.F (.y r λ_=>.G 1 r (.V 14 1 r (.H AM .z r (.H AM .p1 r (.G 2 r (.T d [9,10] r (λa d=>?_) λa d=>?_)))))))
 . exact .G 7 r (.V 46 1 r (.H AM .z r (.s1 D5 .p1 r (.L 38 r (.drop .z (.F (.D 2 22 r (.q1 results209 rf PR r ⟨(true,a0.At),r,r,d⟩))))))))
 exact .G 1 r (.P r (.H AM .z r (.G 1 r (.P r (.H AM .p2 r (.G 3 r (.V 46 1 r (.H AM .z r (.s1 D5 .p1 r (.L 38 r (.drop .z (.F (.D 2 22 r (.q1 results209 rf PR r ⟨(decide (o1.N<=a0.At),a0.At),r,r,d⟩))))))))))))))
theorem L4 {o0 o1 a0 Q} (U:RepSl BX I p5 c6 o1.Items) (W:RepSl BX I p8 c9 a0) (J:DR o0 o1 a0 Q) :
  Fun prog 268 #[.slice p8 a0.length c9,.func (.func 209) #[] #[vp b3,vp b4]] I [pc b3 #[vi o0] 3,pc b4 #[vi o1.N,.slice p5 o1.Items.length c6] 125] (λ_ v l=>∃ r,v=vi r.1∧l=[pc b3 #[vi r.2] 3,pc b4 #[vi o1.N,.slice p5 o1.Items.length c6] 125]∧Q r):=by
 refine Fun.ee func268 ntmps268 r (.F (.D 1 3 r (.B (.M 1 r (.ln DB r (.D 1 387 r (.E (.lp J xO [1] r (λj E l (e,d)=>j ((8,vi d) :: E) (pc b3 #[vi e] 3 :: l)) (ji rf PR r) ?_))))))));rintro⟨e,d⟩ _ J;refine jq r λ_ a=>?_;have⟨U,W⟩:=a.u2 U W;refine .F (.D 1 899 r (.B (.A r J (λh J=>?_) λh J=>?_)))
 . refine .O 387 r (.B (.E (.M 2 r (.V 419 3 r ?_))));have⟨s,_,i,_,_,t,b,J⟩:=W.ix J;refine .Y DB D4 t s i r (.ldW T2 D4 b r r r r ?_);refine .x (.c call209 r r) (.o PR r) r (gY (b3:=b3) (b4:=b4) U J:) λ_ _ _ m n=>?_;obtain⟨g,rfl,rfl,J⟩:=n;have⟨f,U,W,b⟩:=m.u4 a U W b;refine .rn 2 r (.L 65955 r (.A r J (λp J=>?_) λp J=>?_))
   . exact .F (.D 2 18 r (.q1 results268 f PR r ⟨(d,g.2),r,r,J⟩))
   exact .O 387 r (.C (.G 2 r (.I (je (g.2,AJ (d+1)) J f PR r))))
 exact .en 2 r (.F (.D 1 18 r (.q1 results268 a PR r ⟨((-1),e),r,r,J⟩)))
theorem JE {o0 o1 a0 Q} (h:RepSl BX I p5 c6 o1.Items) (O:RepSl BX I p8 c9 a0) (J:D9 o0 o1 a0 Q) :
  Fun prog 208 #[.slice p8 a0.length c9,.func (.func 209) #[] #[vp b3,vp b4]] I [pc b3 #[vi o0] 3,pc b4 #[vi o1.N,.slice p5 o1.Items.length c6] 125] (λ_ v l=>∃ r,v=.bool r.1∧l=[pc b3 #[vi r.2] 3,pc b4 #[vi o1.N,.slice p5 o1.Items.length c6] 125]∧Q r):=by
 refine Fun.ee func208 ntmps208 r ?_;refine .M 1 r (.V 3 2 r ?_);refine .x (.f call268 r) (.o PR r) r (L4 (b3:=b3) (b4:=b4) h O J:) λ_ _ _ a d=>?_;obtain⟨b,rfl,rfl,J⟩:=d;have⟨h,O⟩:=a.u2 h O;exact .rn 2 r (.D 2 18 r (.q1 results208 a PR r ⟨(decide (0<=b.1),b.2),r,r,J⟩))
theorem FX {a0 Q} (J:RepSl BX I p1 c2 a0.Items) (d:FE a0 Q) :
  B7 prog 141 [.agg #[vi a0.N,.slice p1 a0.Items.length c2]] I (λ_=>dJ Q):=by
 refine Fun.ee func141 ntmps141 r (.F (.y r λi=>.D 1 2 r (.B (.M 1 r (.H AM .z r (.q call207 (xX (I:=I) d:) r λ_ d=>.D 1 130 r (.A r d (λc d=>?_) λc d=>?_)))))))
 . exact .F (.D 1 4 r (.drop .z (.r0 results141 r ⟨false,r,d⟩)))
 refine .O 2 r (.F (.alloc1 pG r r r λg=>?_));refine .s1 D5 .z r (.V 10 1 r (.H HF .p1 r (.mkFn r r r r ?_)));refine .x (.f call208 r) (.o PR r) r (JE (b3:=g) (b4:=i) J J d:) λ_ _ _ a e=>?_;obtain⟨h,rfl,rfl,d⟩:=e;have J:=a.u1 J;exact .rn 2 r (.D 2 4 r (.drop .z (.drop .z (.r1 results141 r a ⟨(!h.1),r,d⟩))))
theorem bK {a0 a1 Q} (Z:tQ I gj1 a0) (V:NE a0 a1 Q) :
  B7 prog 167 [.agg (K8 a0 gj1),vi a1] I (λI_ v=>∃ r p3 c4,v=.tuple #[.agg #[vi r.1.N,.slice p3 r.1.Items.length c4],.bool r.2]∧RepSl BX I_ p3 c4 r.1.Items∧Q r):=by
 refine Fun.ee func167 ntmps167 r ?_;refine .F (.y r λ_=>.al BZ r λ_=>?_);refine .D 1 22 r (.B (.dr [0,1,2,3,4,5,8,6,7,999] 9 (.K 2 r (.W AM 1 r (.K 2 r (.W HF 1 r (.aP BZ r (.X r (.AF call163 r (BN Z.1 V:) r r λ_ s _ d i=>?_)))))))));obtain⟨e,u,x,rfl,rfl,V⟩:=i;have Z:=d.u1 Z;refine .v 3 r (.U r (.H AM .p2 r .mk) (.u 2 r r tv)) (.h r (.bd BZ EV GP r .mk) (.b r λ_=>DrawD.nop ?_));refine .e2 9 (.R AR .p3 r (.L 82 r (.drop .p2 (.B (.dr Ao1 10 (.h r (.S BI AR .p2 r .mk) (.h r (.S BI AR .p2 r .mk) (.X r λ{ex}=>?_))))))));have j:=λ(J:IH) (hJ:IH.le s J) (hL:VY J [OwnSl BX 183 u x e])=>FX (I:=J) (a0:=({ N:=a0.Vec.N,Items:=e }:Vec)) (Ap9 hL.1) V;refine .callB (.f call141 r) (.o [0] r) j r r λ_ _ k=>?_;obtain⟨_,rfl,V⟩:=k;refine .v 3 r (.U r (.S BI AR .p2 r .mk) tv) (.K 1 r ?_);refine DG V (λc V=>?_) λc V=>?_
 . refine .h r (.N r r c (.fo EV 0 r D5 .mk)) (.h r (.N r r c (.H AM .p2 r .mk)) (.h r (.N r r c (.AD r r r .mk)) (.h r (.N r r c (.eq r r r r .mk)) (.h r (.pickT r c r r r .mk) (.X r ?_)))));refine .R AR .p1 r (.O 3 r r r (.U r (.pickT r c r r r .mk) (.U r (.N r r c (.eq r r r r .mk)) (.U r (.N r r c (.AD r r r .mk)) (.U r (.N r r c (.H AM .p2 r .mk)) (.U r (.N r r c (.fo EV 0 r D5 .mk)) tv))))) (.e2 10 (.D 1 48 r (.drop .p2 (.pub .z λ_ l y=>?_)))));have m:=l.u1 d;exact .J (B6 r (.w BI AR r .z r (.t r .n)) m ⟨(({ N:=a0.Vec.N,Items:=e }:Vec),a0.Vec.N==a1),_,_,r,y,V⟩)
 refine .gn r c (.gn r c (.gn r c (.gn r c (.h r (.pickF r c r r r .mk) (.X r ?_)))));refine .R AR .p1 r (.O 3 r r r (.U r (.pickF r c r r r .mk) (.U r (.gno r r c r r .mk) (.U r (.gno r r c r r .mk) (.U r (.gno r r c r r .mk) (.U r (.gno r r c r r .mk) tv))))) (.e2 10 (.D 1 48 r (.drop .p2 (.pub .z λ_ p A=>?_)))));have q:=p.u1 d;exact .J (B6 r (.w BI AR r .z r (.t r .n)) q ⟨(({ N:=a0.Vec.N,Items:=e }:Vec),false),_,_,r,A,V⟩)
theorem eL {a0 Q} (d:P5 a0 Q) :
  B7 prog 232 [vi a0] I (λ_=>dJ Q):=by
 refine Fun.ee func232 ntmps232 r (.M 1 r (.V 1 3 r (.T d [4,5] r (λa d=>?_) λa d=>?_)))
 . exact .D 4 4 r (.r0 results232 r ⟨(decide (a0<=4096)),r,d⟩)
 exact .D 4 4 r (.r0 results232 r ⟨false,r,d⟩)
theorem PS {a0 Q} (h:RepSl BX I p1 c2 a0.Items) (d:LV a0 Q) :
  B7 prog 210 [.agg #[vi a0.N,.slice p1 a0.Items.length c2]] I (AwJ Q):=by
 refine Fun.ee func210 ntmps210 r (.F (.y r λ_=>.al BZ r λ_=>.L 6 r (.B (.F (.S BI AR .p1 r (.q call141 (FX h d:) r λ_ d=>.L 22 r (.A r d (λb d=>?_) λb d=>?_)))))))
 . exact .F (.S BI AR .p1 r (.R AR .z r (.L 4 r (.drop .p1 (.J (B6 r (.w BI AR r .z r .n) rf ⟨a0,_,_,r,h,d⟩))))))
 exact .O 4 r (.drop .p1 (.F (.bd BZ EV GP r (.R AR .z r (.L 4 r (.J (B6 r (.w BI AR r .z r .n) rf ⟨CK,_,_,r,(.nil _ _ _),d⟩)))))))
theorem kS {o0 a0 Q} (d:QH o0 a0 Q) :
  Fun prog 308 #[.agg (W4 a0).toArray,vp b2] I [pc b2 #[vi o0] 3] (λ_ v l=>∃ r,v=.agg (W4 r).toArray∧l=[pc b2 #[vi o0] 3]∧Q r):=by
 refine Fun.ee func308 ntmps308 r (.F (.y r λ_=>.al JL r λ_=>.ns 14 r (.H AM .p2 r (.G 1 r (.H AM .p1 r (.G 2 r (.H PN .p1 r (.bd JL sD sA r (.R D4 .z r (.L 10 r (.drop .p1 ?_)))))))))));exact .J (DF r (.w T2 D4 r .z r .n) rf (.o [1] r) ⟨({ At:=AJ (o0+a0.At),Val:=a0.Val }:B3),r,r,d⟩)
theorem rA {o0 a0 Q} (U:RepSl BX I p3 c4 a0.Items) (J:P6 o0 a0 Q) :
  Fun prog 307 #[.agg #[vi a0.N,.slice p3 a0.Items.length c4],.func (.func 308) #[] #[vp b2]] I [pc b2 #[vi o0] 3] (λZ v l=>∃ r p6 c7,v=.agg #[vi r.N,.slice p6 r.Items.length c7]∧RepSl BX Z p6 c7 r.Items∧l=[pc b2 #[vi o0] 3]∧Q r):=by
 refine Fun.ee func307 ntmps307 r ?_;refine .F (.y r λ_=>.al BZ r λ_=>?_);refine .ns 22 r (.S BI AR .p1 r (.ca call210 r (PS U J:) λ_ _ s P=>?_));obtain⟨t,_,_,rfl,u,J⟩:=P;have U:=s.u1 U;refine .R AR .p1 r (.L 22 r (.B (.dr [0,1,2,3,6,4,5,999] 7 (.K 1 r (.W AM 1 r (.K 1 r (.W HF 1 r (.aP BZ r (.X r ?_)))))))));refine .AF call163 r (BN u J:) r r λ_ _ _ S T=>?_;obtain⟨_,_,_,rfl,rfl,J⟩:=T;have⟨a4,u⟩:=S.u2 s u;refine .v 4 r (.U r (.H AM .p2 r .mk) (.u 1 r r tv)) (.h r (.bd BZ EV GP r .mk) (.b r λK=>DrawD.nop ?_));refine .e2 7 (.R AR .p4 r (.L 50 r (.drop .p2 (.B (.M 1 r (.H HF .p3 r (.ln DB r (.D 1 917554 r (.E (.lx J [18,5,4,1] [2,1] r (λj E l (d,e)=>λc w=>∃ g f,j ⟨33,[],none⟩ (λZ=>True) ((17,.slice g d.length f) :: (19,vi e) :: E) (pc K #[vi t.N,.slice g d.length f] 125 :: OwnSl BX 183 g f d :: l) c w) (λc w V W=>⟨_,_,jf rf tv [3,0,1,0] r V W⟩) ?_))))))))));rintro⟨d,e⟩ _ J c w ⟨g,f,a5,i,_,a7,a8⟩;have p:=i.u1 a4;refine Cod.at a7 a8 (.F (.D 1 1966130 r (.B (.A r J (λA J=>?_) λA J=>?_))))
 . refine .O 917554 r (.B (.E (.M 1 r ?_)));have⟨x,_,k,J⟩:=J;refine .ownNe .p1 (FY k) λa6 X=>?_;cases X;refine .AB DB D4 r r x (CL k x) r r (.loA (j:=0) T2 D4 .p1 k r r (.o 2 r) r r r (.al JL r λ_=>.G 1 r (.R D4 .z r (.L 917746 r (.dr Aj2 6 (.K 1 r (.W HF 1 r (.K 2 r (.h r (.S T2 D4 .z r .mk) (.X r ?_))))))))));refine .x (.c call308 r r) (.o [3] r) r (kS (I:=a5) (b2:=b2) J:) λ_ _ _ D F=>?_;obtain⟨m,rfl,rfl,J⟩:=F;have⟨_,G⟩:=D.u2 p i;refine .rx 5 r (.v 5 r (.u 1 r r (.U r (.H HF .p2 r .mk) (.u 1 r r tv))) (.e2 6 ?_));have⟨y,_,q,J⟩:=J;exact .AB DB D4 r r y (CL q y) r r (.stOA (j:=0) (v':=m) D4 .p3 q r r r (.o r) r r (.rl .p3 [17,25] r (by simp only[cB]) (.reat .p2 (B:=pc K #[vi t.N,.slice (some ⟨a6,0,none⟩) (d.set e.toNat m).length f] 125) (by simp only[cB]) (.L 917554 r (.drop .p1 (.C (.G 2 r (.I λc w V W=>⟨_,J,_,_,jf G tv Aj3 r V W⟩))))))))
 refine .en 50 r (.F (.S BI AR .z r (.R AR .p3 r (.L 18 r (.drop .z (.pub .z λ_ H Y=>?_))))));have⟨a2,_⟩:=H.u2 p i;exact .J (DF r (.w BI AR r .p1 r .n) a2 (.o [0] r) ⟨({ N:=t.N,Items:=d }:Vec),_,_,r,Y,r,J⟩)
theorem AdU {a0 Q} (J:RepSl gP I p1 c2 a0) (D:ZA a0 Q) :
  B7 prog 278 [.slice p1 a0.length c2] I (AwK Q):=by
 refine Fun.ee func278 ntmps278 r (.F (.al BZ r fun _=>.G 1 r (.ns 5 r (.al BZ r fun a5=>.L 21 r (.B (.M 1 r (.ln sE r (.D 1 1812 r (.E (.own0 BX 183 (.lx D [9,8,4,2] [2] r (fun j E l (b,a,e)=>fun c w=>∃ g i,j ⟨39,[],none⟩ (fun _=>True) ((10,vi e) :: E) (pc a5 #[vi b,.slice g a.length i] 125 :: OwnSl BX 183 g i a :: l) c w) (fun c w O Z=>⟨_,_,jf rf tv nl7 r O Z⟩) ?_)))))))))))
 rintro ⟨b,a,e⟩ _ D c w ⟨g,i,_,d,_,a6,a7⟩
 have J:=d.u1 J
 refine Cod.at a6 a7 (.F (.D 1 3860 r (.B (.A r D (fun s D=>?_) fun s D=>?_))))
 · refine .O 1812 r (.B (.E (.F ?_)))
   obtain ⟨F,_,p,D⟩:=D
   obtain ⟨_,_,_,G,u,_,_,rfl,k⟩:=J.2 _ _ p
   refine .Y sE AR G F p r (.ldW BI AR u r r r r (.al BZ r fun _=>?_))
   refine .R AR .z r (.V 1876 1 r (.H AM .p1 r (.alloc1 pG r r r fun H=>?_)))
   refine .s1 D5 .z r (.ns 2004 r (.S BI AR .p1 r (.mkFn r r r r (.x (.f call307 r) (.o [0] r) r (rA (b2:=H) k D:) fun _ _ _ x y=>?_))))
   obtain ⟨m,_,_,rfl,a4,rfl,D⟩:=y
   obtain ⟨q,J,k⟩:=x.u3 d J k
   refine .rn 5 r (.R AR .p1 r (.L 1876 r (.drop .z (.B (.M 1 r (.H AM .z r (.G 1 r (.H AM .p1 r (.D 2 16779092 r (.A r D (fun A D=>?_) fun A D=>?_))))))))))
   · exact .F (.bd BZ EV GP r (.R AR .p3 r (.D 1 12 r (.drop .z (.drop .z (.drop .z (.J (B6 r (.w BI AR r .z r (.t r .n)) q ⟨(CK,5),_,_,r,(.nil _ _ _),D⟩))))))))
   refine .O 1876 r (.dr zP 11 (.K 1 r (.W AM 1 r (.K 1 r (.W AM 0 r (.K 2 r (.W HF 1 r (.K 1 r (.W HF 0 r (.X r ?_))))))))))
   obtain ⟨B,D⟩:=D
   refine .ap (ys:=m.Items) .p2 DB DB rZ r (.imm a4 r) B fun _ _=>?_
   exact .v 4 r (.u 1 r r (.U r (.H AM .p1 r .mk) (.u 1 r r (.U r (.H AM .p2 r .mk) (.u 1 r r tv))))) (.h r (.bd BZ EV GP r .mk) (.e2 11 (.R AR .p2 r (.L 1812 r (.drop .p1 (.C (.G 2 r (.I fun c w O Z=>⟨_,D,_,_,jf q tv nl7 r O Z⟩))))))))
 refine .en 20 r (.F (.S BI AR .z r (.R AR .p2 r (.D 1 12 r (.drop .z (.pub .z fun _ C K=>?_))))))
 have a2:=C.u1 d
 exact .J (B6 r (.w BI AR r .z r (.t r .n)) a2 ⟨(({ N:=b,Items:=a }:Vec),0),_,_,r,K,D⟩)
theorem SI {a0 a1 Q} (h:OD a0 a1 Q) :
  B7 prog 92 [vi a0,vi a1] I (λ_=>bE Q):=by
 refine Fun.ee func92 ntmps92 r (.F (.D 1 3 r (.B (.F (.D 1 34 r (.E (.B (.E (.B (.E ?_))))))))));refine .B (.E (.B (.E (.B (.B (.F (.D 2 98 r (.A r h (λb h=>?_) λb h=>?_))))))))
 . exact .en 0 r (.B (.F (.D 1 16 r (.r0 results92 r ⟨1,r,h⟩))))
 refine .O 34 r (.B (.F (.D 2 290 r (.A r h (λc h=>?_) λc h=>?_))))
 . exact .en 0 r (.B (.F (.D 1 16 r (.r0 results92 r ⟨5,r,h⟩))))
 refine .O 34 r (.B (.F (.D 2 1058 r (.A r h (λd h=>?_) λd h=>?_))))
 . refine .en 2 r (.F (.D 3 131072 r (.A r h (λe h=>?_) λe h=>?_)))
   . exact .F (.D 1 16 r (.r0 results92 r ⟨2,r,h⟩))
   exact .O 0 r (.B (.F (.D 1 16 r (.r0 results92 r ⟨4,r,h⟩))))
 refine .O 32 r (.B (.F (.D 2 4128 r (.A r h (λa h=>?_) λa h=>?_))))
 . exact .O 4096 r (.Q r a (.en 0 r (.B (.F (.D 1 16 r (.r0 results92 r ⟨4,r,h⟩))))))
 refine .C (.D 2 4096 r (.A r h (λf h=>?_) λf h=>?_))
 . exact .en 0 r (.B (.F (.D 1 16 r (.r0 results92 r ⟨4,r,h⟩))))
 exact .O 0 r (.en 0 r (.F (.D 1 16 r (.r0 results92 r ⟨0,r,h⟩))))
theorem xY {a0 a1 a2 Q} (d:TC a0 a1 a2 Q) :
  B7 prog 236 [vi a0,vi a1,vi a2] I (λ_=>bE Q):=by
 refine Fun.ee func236 ntmps236 r (.F (.D 1 7 r (.B (.F (.D 1 135 r (.E (.B (.F (.D 2 391 r (.A r d (λa d=>?_) λa d=>?_))))))))))
 . exact .O 263 r (.Q r a (.F (.D 2 64 r (.r0 results236 r ⟨a0,r,d⟩))))
 refine .C (.D 2 263 r (.A r d (λb d=>?_) λb d=>?_))
 . exact .F (.D 2 64 r (.r0 results236 r ⟨a0,r,d⟩))
 refine .O 6 r (.B (.M 2 r (.quo r r (by decide) r r (.D 1 32768 r (.A r d (λc d=>?_) λc d=>?_)))))
 . exact .F (.D 1 64 r (.r0 results236 r ⟨2,r,d⟩))
 exact .O 0 r (.F (.D 1 64 r (.r0 results236 r ⟨1,r,d⟩)))
theorem X0 {a0 Q} (d:QI a0 Q) :
  yP prog 279 [vi a0] I (λW v l=>∃ r p1 c2 p4 c5,v=.agg #[vi r.N,.slice p1 r.Has.length c2,.slice p4 r.Vals.length c5]∧RepSl JT W p1 c2 r.Has∧l=[OwnSl B2 2 p4 c5 r.Vals]∧Q r):=by
 refine Fun.ee func279 ntmps279 r (.F (.al nQ r λ_=>.L 5 r (.B (.M 3 r (.T d [4,5] r (λc d=>?_) λc d=>?_)))))
 . refine .D 3 261 r (.Q r r (.C (.D 1 5 r (.B (.dr [0,1,3,4,2,999,5] 6 (.K 3 r ?_))))));have⟨B,C,d⟩:=d;refine .a (λb=>.slice (some ⟨b,0,none⟩) (List.replicate (Int.toNat 0) (0:Int)).length (Int.toNat 0)) (λb=>OwnSl B2 2 (some ⟨b,0,none⟩) (Int.toNat 0) (List.replicate (Int.toNat 0) (0:Int))) r r r r (λ_ L U V=>.make (El:=B2) (zv:=0) 8 DU IN2 r r r r r r B C r r r λb=>.mk (val:=λb=>.slice (some ⟨b,0,none⟩) (List.replicate (Int.toNat 0) (0:Int)).length (Int.toNat 0)) (atom:=λb=>OwnSl B2 2 (some ⟨b,0,none⟩) (Int.toNat 0) (List.replicate (Int.toNat 0) (0:Int))) U b) (.X r ?_);refine .AF call200 r (WX (I:=I) d:) r r λ_ _ _ e f=>?_;obtain⟨D,_,_,rfl,rfl,d⟩:=f;refine .v 2 r (.u 2 r r tv) (.b r λ_=>DrawD.nop ?_);refine .h r (.bd nQ underlying264 AqO r .mk) (.e2 6 (.R FO .p1 r (.L 4 r (.pub .z λ_ g E=>?_))));have i:=g.u1 e;exact .J (DF r (.w M8 FO r .z r .n) i (.o [1] r) ⟨({ N:=0,Has:=D,Vals:=(List.replicate (Int.toNat 0) (0:Int)) }:Dense),_,_,_,_,r,E,r,d⟩)
 refine .D 3 261 r (.A r d (λj d=>?_) λj d=>?_)
 . refine .C (.D 1 5 r (.B (.dr [0,1,3,4,2,999,5] 6 (.K 3 r ?_))));have⟨F,G,d⟩:=d;refine .a (λb=>.slice (some ⟨b,0,none⟩) (List.replicate (Int.toNat 0) (0:Int)).length (Int.toNat 0)) (λb=>OwnSl B2 2 (some ⟨b,0,none⟩) (Int.toNat 0) (List.replicate (Int.toNat 0) (0:Int))) r r r r (λ_ L U V=>.make (El:=B2) (zv:=0) 8 DU IN2 r r r r r r F G r r r λb=>.mk (val:=λb=>.slice (some ⟨b,0,none⟩) (List.replicate (Int.toNat 0) (0:Int)).length (Int.toNat 0)) (atom:=λb=>OwnSl B2 2 (some ⟨b,0,none⟩) (Int.toNat 0) (List.replicate (Int.toNat 0) (0:Int))) U b) (.X r ?_);refine .AF call200 r (WX (I:=I) d:) r r λ_ _ _ m p=>?_;obtain⟨H,_,_,rfl,rfl,d⟩:=p;refine .v 2 r (.u 2 r r tv) (.b r λ_=>DrawD.nop ?_);refine .h r (.bd nQ underlying264 AqO r .mk) (.e2 6 (.R FO .p1 r (.L 4 r (.pub .z λ_ q J=>?_))));have s:=q.u1 m;exact .J (DF r (.w M8 FO r .z r .n) s (.o [1] r) ⟨({ N:=0,Has:=H,Vals:=(List.replicate (Int.toNat 0) (0:Int)) }:Dense),_,_,_,_,r,J,r,d⟩)
 refine .O 5 r (.B (.dr [0,1,3,4,2,999,5] 6 (.K 3 r ?_)));have⟨K,O,d⟩:=d;refine .a (λb=>.slice (some ⟨b,0,none⟩) (List.replicate a0.toNat (0:Int)).length a0.toNat) (λb=>OwnSl B2 2 (some ⟨b,0,none⟩) a0.toNat (List.replicate a0.toNat (0:Int))) r r r r (λ_ L U V=>.make (El:=B2) (zv:=0) 8 DU IN2 r r r r r r K O r r r λb=>.mk (val:=λb=>.slice (some ⟨b,0,none⟩) (List.replicate a0.toNat (0:Int)).length a0.toNat) (atom:=λb=>OwnSl B2 2 (some ⟨b,0,none⟩) a0.toNat (List.replicate a0.toNat (0:Int))) U b) (.X r ?_);refine .AF call200 r (WX (I:=I) d:) r r λ_ _ _ u x=>?_;obtain⟨P,_,_,rfl,rfl,d⟩:=x;refine .v 2 r (.u 2 r r tv) (.b r λ_=>DrawD.nop ?_);refine .h r (.bd nQ underlying264 AqO r .mk) (.e2 6 (.R FO .p1 r (.L 4 r (.pub .z λ_ y R=>?_))));have A:=y.u1 u;exact .J (DF r (.w M8 FO r .z r .n) A (.o [1] r) ⟨({ N:=a0,Has:=P,Vals:=(List.replicate a0.toNat (0:Int)) }:Dense),_,_,_,_,r,R,r,d⟩)
theorem eM {a0 Q} (U:RepSl BX I p1 c2 a0.Items) (J:P7 a0 Q) :
  B7 prog 280 [.agg #[vi a0.N,.slice p1 a0.Items.length c2]] I (o8_ Q):=by
 refine Fun.ee func280 ntmps280 r ?_;refine .F (.y r λ_=>?_);refine .G 1 r (.V 2 1 r (.L 10 r (.B (.F (.S BI AR .z r (.ca call210 r (PS U J:) λ_ _ d q=>?_))))));obtain⟨_,_,_,rfl,e,J⟩:=q;have U:=d.u1 U;refine .field1 EV r HF r r r r (.ln DB r (.D 1 1800 r (.drop .z (.E (.own0 B2 3 (.lx J [9,8] [] r (λj E l (a,f)=>λc w=>∃ g h,j ⟨21,[],none⟩ (λ_=>True) ((3,.slice g a.length h) :: (10,vi f) :: E) (OwnSl B2 3 g h a :: l) c w) (λc w W Z=>⟨_,_,jf rf tv [0] r W Z⟩) ?_))))));rintro⟨a,f⟩ _ J c w ⟨g,h,_,b,_,a2,a4⟩;have⟨s,e⟩:=b.u2 d e;refine Cod.at a2 a4 (.F (.D 1 3848 r (.B (.A r J (λt J=>?_) λt J=>?_))))
 . refine .O 1800 r (.B (.E (.F ?_)));have⟨A,o,u,_,_,v,i,J⟩:=e.ix J;refine .Y DB D4 v A u r (.ldW T2 D4 i r r r r (.al JL r λ_=>.R D4 .z r (.L 1832 r (.C (.G 2 r (.H AM .z r (.bs 1 B0 D5 pG r λ_=>?_)))))));have⟨k,J⟩:=J;exact .ap (ys:=[o.At]) .p2 B0 B0 IN3 r (.box .z (.one r) r) k λ_ _=>.D 1 1800 r (.drop .p1 (.drop .p1 (.C (.G 2 r (.I λc w W Z=>⟨_,J,_,_,jf b tv [0] r W Z⟩)))))
 refine .en 8 r (.F (.D 2 4 r (.pub .z λ_ m x=>?_)));have⟨n,_⟩:=m.u2 s b;exact .r1 results280 r n ⟨a,_,_,r,x,J⟩
theorem xZ {a0 Q} (J:RepSl BX I p1 c2 a0.Items) (D:cP a0 Q) :
  B7 prog 237 [.agg #[vi a0.N,.slice p1 a0.Items.length c2]] I (λZ v=>∃ r a5,v=.agg (M2 r a5)∧lTk Z a5 r∧Q r):=by
 refine Fun.ee func237 ntmps237 r (.F (.y r λ_=>.al nQ r λ_=>.L 6 r (.B (.F (.S BI AR .p1 r (.q call141 (FX J D:) r λ_ D=>.D 1 262 r (.A r D (λd2 D=>?_) λd2 D=>?_)))))))
 . refine .F ?_;refine .AF call279 r (X0 (I:=I) D:) r r λ_ _ _ s a2=>?_;obtain⟨b4,_,_,_,_,rfl,t,rfl,D⟩:=a2;have J:=s.u1 J;refine .R FO .p1 r (.L 4 r (.drop .p2 (.pub .z λ_ a3 b5=>?_)));have⟨a4,t⟩:=a3.u2 s t;exact .J (B6 r (.w M8 FO r .z r .n) a4 ⟨b4,((_,_),(_,_)),r,⟨t,b5⟩,D⟩)
 refine .O 6 r (.M 1 r (.H AM .p1 r ?_));refine .AF call279 r (X0 (I:=I) D:) r r λ_ _ _ u a6=>?_;obtain⟨i,V,W,_,_,rfl,d,rfl,D⟩:=a6;have J:=u.u1 J;refine .al nQ r λX=>.R FO .z r (.L 14 r (.B (.M 1 r (.H HF .p3 r (.ln DB r (.D 1 114702 r (.E (.lx D [15,14,3,2,1] [3,2] r (λj E l (a,k)=>λc w=>∃ m e,j ⟨35,[],none⟩ (λZ=>True) ((16,vi k) :: E) (pc X #[vi i.N,.slice V i.Has.length W,.slice m a.length e] 264 :: OwnSl B2 2 m e a :: l) c w) (λc w O U=>⟨_,_,jf rf tv [0,0,1,0] r O U⟩) ?_))))))));rintro⟨a,k⟩ _ D c w ⟨m,e,_,f,_,d3,d4⟩;have⟨y,J,d⟩:=f.u3 u J d;refine Cod.at d3 d4 (.F (.D 1 245774 r (.B (.A r D (λA D=>?_) λA D=>?_))))
 . refine .O 114702 r (.B (.E (.F ?_)));have⟨a7,b,C,_,_,a8,c0,D⟩:=J.ix D;refine .Y DB D4 a8 a7 C r (.ldW T2 D4 c0 r r r r (.al JL r λ_=>.R D4 .z r (.L 114734 r (.C (.G 1 r (.H F3 .p1 r (.G 1 r (.H AM .z r (.G 1 r (.H PN .z r ?_))))))))));have⟨x,_,g,D⟩:=D;refine .ownNe .p2 (FY g) λa9 b0=>?_;cases b0;exact .AB DU dK r r x (CL g x) r r (.stO1 (j:=0) (v':=b.Val) dK .p2 g r r r (.o r) r (.rl .p2 [21] r (by simp only[cB]) (.reat .p1 (B:=pc X #[vi i.N,.slice V i.Has.length W,.slice (some ⟨a9,0,none⟩) (a.set b.At.toNat b.Val).length e] 264) (by simp only[cB]) (.L 114702 r (.drop .z (.C (.G 2 r (.I λc w O U=>⟨_,D,_,_,jf f tv SH r O U⟩))))))))
 refine .en 14 r (.B (.dr [0,1,2,3,4] 5 (.K 1 r (.W AM 2 r (.h r (.S BI AR .p2 r .mk) (.X r ?_))))));refine .ca call280 r (eM J D:) λ_ _ G H=>?_;obtain⟨_,_,_,rfl,p,D⟩:=H;have⟨c1,K,J,d⟩:=G.u4 y f J d;refine .v 4 r (.U r (.H AM .p2 r .mk) (.u 1 r r tv)) (.X r ?_);refine .ca call132 r (VA p D:) λ_ _ d0 P=>?_;obtain⟨b1,_,_,rfl,q,D⟩:=P;have⟨R,S,J,d,p⟩:=d0.u5 c1 K J d p;refine .v 4 r tv (.e2 5 (.G 1 r (.s1 sizeOf45 .z r (.L 12 r (.drop .p2 (.F (.S M8 FO .z r (.R FO .p2 r (.L 4 r (.drop .z (.pub .z λ_ T b2=>?_)))))))))));have⟨d1,_,q⟩:=T.u3 R S q;exact .J (B6 r (.w M8 FO r .z r .n) d1 ⟨({ N:=i.N,Has:=b1,Vals:=a }:Dense),((_,_),(_,_)),r,⟨q,b2⟩,D⟩)
theorem zU {a0 a1 Q} (R3:RepSl BX I p1 c2 a1.Items) (D:WA a0 a1 Q) :
  B7 prog 171 [vi a0,.agg #[vi a1.N,.slice p1 a1.Items.length c2]] I (λJ v=>∃ r a2,v=.agg (ApM r a2)∧lTl J a2 r∧Q r):=by
 refine Fun.ee func171 ntmps171 r (.F (.y r λG=>.al zeroValue266 r λ_=>.L 25 r (.B (.jx D [4,3,0] [0] r (λj E l (b,d)=>λc w=>∃ e f,j ⟨27,[],none⟩ (λJ=>RepSl BX J e f d) E (pc G #[vi b,.slice e d.length f] 125 :: l) c w) (λ_ D=>?_) ?_))))
 . refine .F (.S BI AR .p1 r (.q call141 (FX R3 D:) r λ_ D=>.D 1 153 r (.A r D (λm D=>?_) λm D=>?_)))
   . exact .C (.bd BZ EV GP r (.R AR .p1 r (.I λc w V Z=>⟨_,D,_,_,jf rf (.nil _ _ _) tG r V Z⟩)))
   exact .AE λc w V Z=>⟨_,D,_,_,jf rf R3 tG r V Z⟩
 rintro⟨b,d⟩ D c w ⟨e,f,i,g,a,a6,a7⟩;refine Cod.at a6 a7 (.B (.M 2 r (.H HF .z r (.ln DB r (.G 1 r (.H AM .z r (.q call236 (xY (I:=i) D:) r λ_ D=>.D 1 65560 r (.A r D (λp D=>?_) λp D=>?_))))))))
 . refine .F (.S BI AR .z r ?_);refine .ca call237 r (xZ (I:=i) (a0:=({ N:=b,Items:=d }:Vec)) a D:) λ_ _ s t=>?_;obtain⟨H,u,rfl,a5,D⟩:=t;have⟨x,a⟩:=s.u2 g a;exact .bd zeroValue266 underlying266 AvN r (.R sizeOf266 .p1 r (.L 16 r (.drop .z (.J (B6 r (.w isAgg266 sizeOf266 r .z r .n) x ⟨({ Form:=2,Vec:=CK,Dense:=H }:jO),((none,0),u),r,⟨(.nil _ _ _),a5⟩,D⟩)))))
 refine .O 24 r (.B (.dr xQ 7 (.K 1 r (.W AM 0 r (.K 1 r (.W HF 0 r (.X r ?_)))))));refine .AF call163 r (BN a D:) r r λ_ _ _ A B=>?_;obtain⟨K,_,_,rfl,rfl,D⟩:=B;have⟨C,a⟩:=A.u2 g a;refine .v 3 r (.U r (.H AM .p1 r .mk) (.u 1 r r tv)) (.h r (.bd BZ EV GP r .mk) (.h r (.bd zeroValue266 underlying266 AvN r .mk) (.e2 7 (.R sizeOf266 .p2 r (.L 16 r (.drop .p1 (.pub .z λ_ a4 L=>?_)))))));have F:=a4.u1 C;exact .J (B6 r (.w isAgg266 sizeOf266 r .z r .n) F ⟨({ Form:=1,Vec:=({ N:=b,Items:=K }:Vec),Dense:=({ N:=0,Has:=([]:List Int),Vals:=([]:List Int) }:Dense) }:jO),((_,_),((_,_),(_,_))),r,⟨L,⟨(.nil _ _ _),(.nil _ _ _)⟩⟩,D⟩)
theorem kT {a0 a1 a2 Q} (d:MN a0 a1 a2 Q) :
  B7 prog 238 [vi a0,vi a1,vi a2] I (λ_=>bE Q):=by
 refine Fun.ee func238 ntmps238 r (.F (.D 1 7 r (.B (.F (.D 1 135 r (.E (.B (.F (.D 2 391 r (.A r d (λa d=>?_) λa d=>?_))))))))))
 . exact .O 263 r (.Q r a (.F (.D 2 64 r (.r0 results238 r ⟨a0,r,d⟩))))
 refine .C (.D 2 263 r (.A r d (λb d=>?_) λb d=>?_))
 . exact .F (.D 2 64 r (.r0 results238 r ⟨a0,r,d⟩))
 refine .O 6 r (.B (.M 2 r (.quo r r (by decide) r r (.D 1 32768 r (.A r d (λc d=>?_) λc d=>?_)))))
 . exact .F (.D 1 64 r (.r0 results238 r ⟨2,r,d⟩))
 exact .O 0 r (.F (.D 1 64 r (.r0 results238 r ⟨1,r,d⟩)))
theorem XK {a0 a1 Q} (d:OE a0 a1 Q) :
  B7 prog 344 [vi a0,vi a1] I (λ_=>dJ Q):=by
 refine Fun.ee func344 ntmps344 r (.M 1 r (.V 3 3 r (.T d [6,7] r (λa d=>?_) λa d=>?_)))
 . exact .D 5 16 r (.r0 results344 r ⟨(decide (a0<=a1)),r,d⟩)
 exact .D 5 16 r (.r0 results344 r ⟨false,r,d⟩)
theorem XL {a0 a1 Q} (U:RepSl B2 I p1 c2 a0) (J:OG a0 a1 Q) :
  B7 prog 345 [.slice p1 a0.length c2,vi a1] I (λ_=>dJ Q):=by
 refine Fun.ee func345 ntmps345 r (.F (.D 1 3 r (.B (.M 1 r (.ln B0 r (.D 1 899 r (.E (.lp J [8,7,1,0] [] r (λj E l b=>j ((9,vi b) :: E) l) (ji rf [] r) ?_))))))));refine λb _ J=>jq r λp a=>?_;have U:=a.u1 U;refine .F (.D 1 1923 r (.B (.A r J (λf J=>?_) λf J=>?_)))
 . refine .O 899 r (.B (.E (.M 1 r ?_)));have⟨q,_,g,_,_,s,h,J⟩:=U.ix J;refine .Y B0 D5 s q g r (.ldb 0 AM h r (.G 2 r (.V 995 3 r (.q call344 (XK (I:=p) J:) r λ_ J=>.G 2 r (.T J [18,19] r (λk J=>?_) λk J=>?_)))))
   . exact .D 12 2147484547 r (.Q r r (.F (.D 1 16 r (.r1 results345 r a ⟨false,r,J⟩))))
   refine .G 3 r (.T J [21,22] r (λm J=>?_) λm J=>?_)
   . refine .G 3 r ?_;have⟨t,_,c,_,_,n,d,J⟩:=U.ix J;refine .P r (.Y B0 D5 n t c r (.P r (.ldb 0 AM d r (.D 4 2147484547 r (.A r J (λe J=>?_) λe J=>?_)))))
     . exact .F (.D 1 16 r (.r1 results345 r a ⟨false,r,J⟩))
     exact .O 899 r (.C (.G 2 r (.I (je (AJ (b+1)) J a [] r))))
   exact .D 9 2147484547 r (.j r r (.O 899 r (.C (.G 2 r (.I (je (AJ (b+1)) J a [] r))))))
 exact .en 0 r (.F (.D 1 16 r (.r1 results345 r a ⟨true,r,J⟩)))
theorem oT {a0 Q} (Z:yI I gg1 a0) (W:UD a0 Q) :
  B7 prog 333 [.agg (FL a0 gg1)] I (λ_=>dJ Q):=by
 refine Fun.ee func333 ntmps333 r (.F (.y r λ_=>.G 1 r (.V 2 1 r (.H CN .z r (.ln B0 r (.D 1 10 r (.B (.M 1 r (.H AM .z r (.q call344 (XK (I:=I) W:) r λ_ W=>.G 2 r (.T W [11,12] r (λs W=>?_) λs W=>?_)))))))))))
 . exact .D 26 274877906954 r (.Q r r (.F (.D 1 4 r (.drop .z (.r0 results333 r ⟨false,r,W⟩)))))
 refine .G 1 r (.P r (.H AM .z r ?_));refine .P r (.AC call344 r (XK (I:=I) W:) r r λ_ u=>?_);obtain⟨_,rfl,W⟩:=u;refine .G 3 r (.T W [16,17,18] r (λv W=>?_) λv W=>?_)
 . exact .D 20 274877906954 r (.Q r r (.F (.D 1 4 r (.drop .z (.r0 results333 r ⟨false,r,W⟩)))))
 refine .G 1 r (.P r (.H CN .z r (.P r (.ln B0 r (.G 1 r (.P r (.H CN .z r (.P r (.ln B0 r (.G 4 r (.T W [26,27,28] r (λw W=>?_) λw W=>?_)))))))))))
 . exact .D 10 274877906954 r (.Q r r (.F (.D 1 4 r (.drop .z (.r0 results333 r ⟨false,r,W⟩)))))
 refine .G 1 r (.P r (.H F3 .z r (.P r (.ln DU r (.G 4 r (.T W [33,34,35] r (λx W=>?_) λx W=>?_))))))
 . exact .D 3 274877906954 r (.Q r r (.F (.D 1 4 r (.drop .z (.r0 results333 r ⟨false,r,W⟩)))))
 refine .D 3 274877906954 r (.A r W (λy W=>?_) λy W=>?_)
 . exact .F (.D 1 4 r (.drop .z (.r0 results333 r ⟨false,r,W⟩)))
 refine .O 10 r (.B (.M 1 r (.H CN .z r (.G 1 r (.H AM .z r (.q call345 (XL Z.1 W:) r λ_ W=>.G 2 r (.T W [44,45] r (λB W=>?_) λB W=>?_)))))))
 . exact .D 25 1180591620717411303426 r (.Q r r (.F (.D 1 4 r (.drop .z (.r0 results333 r ⟨false,r,W⟩)))))
 refine .G 1 r (.P r (.H CN .z r (.G 2 r ?_)));refine .P r (.AC call345 r (XL Z.2.1 W:) r r λ_ D=>?_);obtain⟨_,rfl,W⟩:=D;refine .G 3 r (.T W [51,52,53] r (λF W=>?_) λF W=>?_)
 . exact .D 17 1180591620717411303426 r (.Q r r (.F (.D 1 4 r (.drop .z (.r0 results333 r ⟨false,r,W⟩)))))
 refine .G 1 r (.P r (.H CN .z r ?_));have⟨a1,_,G,_,_,a2,J,W⟩:=Z.2.1.ix W;refine .P r (.Y B0 D5 a2 a1 G r (.P r (.ldb 0 AM J r (.G 3 r (.T W [58,59,60] r (λK W=>?_) λK W=>?_)))))
 . exact .D 10 1180591620717411303426 r (.Q r r (.F (.D 1 4 r (.drop .z (.r0 results333 r ⟨false,r,W⟩)))))
 refine .G 1 r (.P r (.H CN .z r (.G 1 r (.P r (.H CN .z r (.P r (.ln B0 r ?_)))))));have⟨a3,_,N,_,_,a4,O,W⟩:=Z.2.1.ix W;refine .P r (.Y B0 D5 a4 a3 N r (.P r (.ldb 0 AM O r (.D 3 1180591620717411303426 r (.A r W (λP W=>?_) λP W=>?_)))))
 . exact .F (.D 1 4 r (.drop .z (.r0 results333 r ⟨false,r,W⟩)))
 refine .O 2 r (.B (.M 1 r (.H CN .z r (.ln B0 r (.D 1 28334198897217871282178 r (.E (.lp W [73,1] [0] r (λj E l c=>j ((74,vi c) :: E) l) (ji rf [0] r) ?_)))))));refine λc _ W=>jq r λ_ a=>?_;have Z:=a.u1 Z;refine .F (.D 1 66113130760175032991746 r (.B (.A r W (λg W=>?_) λg W=>?_)))
 . refine .O 28334198897217871282178 r (.B (.E (.F (.D 2 28334198897217871282194 r (.B (.dr Az6 18 (.K 1 r (.W CN 0 r (.K 1 r (.W CN 0 r (.K 1 r ?_)))))))))));have⟨R,d,i,_,_,S,k,W⟩:=Z.2.1.ix W;refine .h r (.Y B0 D5 S R i r .mk) (.h r (.ldb 0 AM k r .mk) (.K 1 r (.W CN 0 r (.K 2 r ?_))));have⟨T,b,m,_,_,U,n,W⟩:=Z.2.1.ix W;refine .h r (.Y B0 D5 U T m r .mk) (.h r (.ldb 0 AM n r .mk) ?_);have⟨V,_,_,W⟩:=W;have e:Int.toNat d<=Int.toNat b:=by omega
   have f:Int.toNat b<=a0.Row.length:=by omega
   have⟨_,_,a5,X,Y⟩:=RepSl.sliceW Z.2.2.1 (Int.toNat d) (Int.toNat b) gg1.2.2.1.2 e f (.inl rfl);refine .h r (.sliceW (L:=Int.toNat d) (H:=Int.toNat b) (cm:=gg1.2.2.1.2) B0 D5 r r Z.2.2.1.1 r r r (.inr ⟨_,_,r,V,r⟩) (.inr ⟨_,_,r,(by omega),r⟩) (.inl r) e f r a5 X r r .mk) (.K 1 r (.W AM 0 r (.X r (.q call345 (XL Y W:) r λ_ W=>.v 1 r tv (.K 1 r (.e2 18 (.L 19807068962764981616257269762 r (.A r W (λp W=>?_) λp W=>?_))))))))
   . exact .F (.D 1 4 r (.drop .z (.r1 results333 r a ⟨false,r,W⟩)))
   exact .O 28334198897217871282178 r (.C (.G 2 r (.I (je (AJ (c+1)) W a [0] r))))
 exact .en 0 r (.drop .z (.F (.D 1 4 r (.r1 results333 r a ⟨true,r,W⟩))))
theorem sP {a0 Q} (D:yI I gg1 a0) (d:Y3 a0 Q) :
  B7 prog 309 [.agg (FL a0 gg1)] I (AyI Q):=by
 refine Fun.ee func309 ntmps309 r (.F (.y r λ_=>.al wP r λ_=>.L 6 r (.B (.F (.S HN EI .p1 r (.q call333 (oT D d:) r λ_ d=>.L 22 r (.A r d (λe d=>?_) λe d=>?_)))))))
 . exact .F (.S HN EI .p1 r (.R EI .z r (.L 4 r (.drop .p1 (.J (B6 r (.w HN EI r .z r .n) rf ⟨a0,gg1,r,D,d⟩))))))
 refine .O 4 r (.drop .p1 (.F ?_));refine .AF call156 r (sN (I:=I) d:) r r λ_ _ _ g h=>?_;obtain⟨s,_,_,_,_,_,_,_,_,rfl,rfl,d⟩:=h;refine .R EI .p4 r (.L 4 r (.pub .z λ_ i a=>?_));have j:=i.u1 g;refine .pub .z λ_ k b=>?_;have⟨l,a⟩:=k.u2 j a;refine .pub .z λ_ m c=>?_;have⟨o,a,b⟩:=m.u3 l a b;refine .pub .z λ_ p t=>?_;have⟨q,a,b,c⟩:=p.u4 o a b c;exact .J (B6 r (.w HN EI r .z r .n) q ⟨s,((_,_),(_,_),(_,_),(_,_)),r,⟨a,b,c,t⟩,d⟩)
theorem oU {a0 a1 Q} (U:yI I gg1 a0) (J:UE a0 a1 Q) :
  B7 prog 310 [.agg (FL a0 gg1),vi a1] I (λ_=>bE Q):=by
 refine Fun.ee func310 ntmps310 r (.F (.y r λ_=>.D 1 6 r (.scope (.B (.dr [0,1,2,3] 4 (.K 1 r (.W CN 0 r (.h r (.ln B0 r .mk) (.K 1 r (.e2 4 (.D 1 102 r ?_)))))))))));refine .B (.labelS 102 r r (.B (.jn J [] [] r (λj E l (d,f)=>j ((5,vi d) :: (6,vi f) :: E) l) (λ_ J=>?_) ?_)))
 . refine .E (.lp J [2,1] [0] r (λj E l (a,b)=>j ((5,vi a) :: (6,vi b) :: E) l) (ji rf [0] r) ?_);rintro⟨a,b⟩ _ J;refine jq r λ_ c=>?_;have U:=c.u1 U;refine .B (.F (.D 3 8294 r (.A r J (λg J=>?_) λg J=>?_)))
   . refine .O 102 r (.E (.M 4 r (.quo r r (by decide) r r (.D 2 230 r (.E (.M 1 r (.H CN .z r (.G 1 r ?_))))))));have⟨s,_,i,_,_,t,k,J⟩:=U.1.ix J;refine .Y B0 D5 t s i r (.ldb 0 AM k r (.D 3 2097382 r (.A r J (λm J=>?_) λm J=>?_)))
     . exact .F (.D 2 96 r (.drop .z (.exit (je (AJ (a+(AJ ((AJ (b - a)).tdiv 2))),b) J c [] r))))
     refine .M 1 r (.H CN .z r (.G 1 r ?_));have⟨u,_,n,_,_,v,o,J⟩:=U.1.ix J;refine .Y B0 D5 v u n r (.ldb 0 AM o r (.D 3 1073742054 r (.A r J (λp J=>?_) λp J=>?_)))
     . exact .C (.G 3 r (.I (je (AJ ((AJ (a+(AJ ((AJ (b - a)).tdiv 2))))+1),b) J c [0] r)))
     exact .C (.G 2 r (.I (je (a,AJ (a+(AJ ((AJ (b - a)).tdiv 2)))) J c [0] r)))
   exact .exit (je (a,b) J c [] r)
 rintro⟨d,f⟩ J;refine jq r λ_ e=>.B (.F (.D 3 4398046511136 r (.A r J (λq J=>?_) λq J=>?_)))
 . exact .F (.D 2 16 r (.r1 results310 r e ⟨d,r,J⟩))
 exact .O 0 r (.F (.D 1 16 r (.r1 results310 r e ⟨(-1),r,J⟩)))
theorem Ah0 {a0 a1 Q} (Z:yI I gg1 a0) (U:RepSl B2 I p3 c4 a1) (J:fJ a0 a1 Q) :
  B7 prog 281 [.agg (FL a0 gg1),.slice p3 a1.length c4] I (λ_=>bE Q):=by
 refine Fun.ee func281 ntmps281 r ?_;refine .F (.y r λ_=>?_);refine .G 1 r (.ns 6 r (.S HN EI .z r (.ca call309 r (sP Z J:) λ_ _ e u=>?_)));obtain⟨_,_,rfl,d,J⟩:=u;have⟨Z,U⟩:=e.u2 Z U;refine .R EI .z r (.V 6 1 r (.L 38 r (.B (.M 1 r (.ln B0 r (.D 1 14372 r (.E (.lp J [12,11,2] [0] r (λj E l (a,b)=>j ((5,vi a) :: (13,vi b) :: E) l) (ji rf [0] r) ?_))))))));rintro⟨a,b⟩ _ J;refine jq r λ_ c=>?_;have⟨f,U,d⟩:=c.u3 e U d;refine .F (.D 1 30756 r (.B (.A r J (λg J=>?_) λg J=>?_)))
 . refine .O 14372 r (.B (.E (.F ?_)));have⟨v,_,i,_,_,w,k,J⟩:=U.ix J;refine .Y B0 D5 w v i r (.ldb 0 AM k r (.G 1 r (.ns 14500 r (.S HN EI .z r (.G 1 r (.q call310 (oU d J:) r λ_ J=>.G 1 r (.V 14628 2 r (.L 2111780 r (.A r J (λn J=>?_) λn J=>?_)))))))))
   . refine .dr Aj4 14 (.K 2 r (.W CN 0 r (.K 2 r ?_)));have⟨x,y,o,_,_,A,p,J⟩:=d.2.1.ix J;refine .h r (.Y B0 D5 A x o r .mk) (.h r (.ldb 0 AM p r .mk) (.K 1 r (.W CN 0 r (.K 1 r ?_))));have⟨B,C,q,_,_,D,s,J⟩:=d.2.1.ix J;exact .h r (.Y B0 D5 D B q r .mk) (.h r (.ldb 0 AM s r .mk) (.K 2 r (.e2 14 (.D 1 14372 r (.C (.G 2 r (.I (je (AJ (a+(AJ (y - C))),AJ (b+1)) J c [0] r))))))))
   exact .O 14372 r (.C (.G 2 r (.I (je (a,AJ (b+1)) J c [0] r))))
 exact .en 32 r (.drop .z (.F (.D 2 16 r (.r1 results281 r f ⟨a,r,J⟩))))
theorem Ah1 {a0 a1 Q} (J:yI I gg1 a0) (O:RepSl BX I p3 c4 a1.Items) (d:fK a0 a1 Q) :
  B7 prog 239 [.agg (FL a0 gg1),.agg #[vi a1.N,.slice p3 a1.Items.length c4]] I (λ_=>bE Q):=by
 refine Fun.ee func239 ntmps239 r ?_;refine .F (.y r λ_=>.y r λ_=>?_);refine .D 1 12 r (.B (.dr [0,1,2,3] 4 (.h r (.S HN EI .p1 r .mk) (.h r (.S BI AR .z r .mk) (.X r (.ca call280 r (eM O d:) λ_ _ a c=>?_))))));obtain⟨_,_,_,rfl,e,d⟩:=c;have⟨J,O⟩:=a.u2 J O;exact .v 2 r (.U r (.S HN EI .p1 r .mk) tv) (.X r (.q call281 (Ah0 J e d:) r λf d=>.v 2 r tv (.e2 4 (.D 1 16 r (.drop .z (.drop .z (.r1 results239 r a ⟨f,r,d⟩)))))))
theorem MC {a0 a1 Q} (O:RepSl JT I p1 c2 a0) (J:KR a0 a1 Q) :
  B7 prog 88 [.slice p1 a0.length c2,vi a1] I (λ_=>dJ Q):=by
 refine Fun.ee func88 ntmps88 r (.F (.D 1 3 r (.B (.dr Aj4 14 (.K 2 r (.X r (.q call136 (eJ O J:) r λ_ J=>.v 0 r tv (.K 1 r ?_))))))));refine DG J (λa J=>?_) λa J=>?_
 . refine .h r (.N r r a (.AD r r r .mk)) (.h r (.N r r a (.AD r r r .mk)) (.h r (.N r r a (.shr' r r (by decide) r r .mk)) ?_));have⟨i,j,b,_,_,d,c,J⟩:=O.ix J;refine .h r (.N r r a (.Y UW GD d i b r .mk)) (.h r (.N r r a (.ldb 0 EC c r .mk)) (.h r (.N r r a (.AD r r r .mk)) (.X r ?_)));refine .N r r a (.AC call137 r (sM (I:=I) J:) r r λ_ f=>?_);obtain⟨k,rfl,J⟩:=f;exact .v 0 r (.U r (.N r r a (.ldb 0 EC c r .mk)) (.U r (.N r r a (.Y UW GD d i b r .mk)) (.U r (.N r r a (.shr' r r (by decide) r r .mk)) (.U r (.N r r a (.AD r r r .mk)) (.U r (.N r r a (.AD r r r .mk)) tv))))) (.h r (.N r r a (.and r r r r .mk)) (.h r (.N r r a (.ne r r r r .mk)) (.h r (.pickT r a r r r .mk) (.e2 14 (.D 1 16 r (.r0 results88 r ⟨((cC .u64 j k) != 0),r,J⟩))))))
 exact .gn r a (.gn r a (.gn r a (.gn r a (.gn r a (.gn r a (.gn r a (.gn r a (.gn r a (.h r (.pickF r a r r r .mk) (.e2 14 (.D 1 16 r (.r0 results88 r ⟨false,r,J⟩))))))))))))
theorem jC {a0 Q} (U:lTk I gk1 a0) (J:S7 a0 Q) :
  B7 prog 334 [.agg (M2 a0 gk1)] I (λ_=>dJ Q):=by
 refine Fun.ee func334 ntmps334 r (.F (.y r λ_=>.D 1 2 r (.B (.M 1 r (.H OS .z r (.G 1 r (.H AM .z r (.q call201 (XI U.1 J:) r λ_ J=>.G 2 r (.T J [10,11] r (λg J=>?_) λg J=>?_)))))))))
 . exact .D 7 262146 r (.Q r r (.F (.D 1 4 r (.drop .z (.r0 results334 r ⟨false,r,J⟩)))))
 refine .G 1 r (.P r (.H F3 .z r (.P r (.ln DU r (.G 1 r (.P r (.H AM .z r (.D 2 262146 r (.A r J (λh J=>?_) λh J=>?_)))))))))
 . exact .F (.D 1 4 r (.drop .z (.r0 results334 r ⟨false,r,J⟩)))
 refine .O 2 r (.B (.M 1 r (.H F3 .z r (.ln DU r (.D 1 7340034 r (.E (.lp J [21,20,1] [0] r (λj E l b=>j ((22,vi b) :: E) l) (ji rf [0] r) ?_)))))));refine λb _ J=>jq r λ_ a=>?_;have U:=a.u1 U;refine .F (.D 1 15728642 r (.B (.A r J (λi J=>?_) λi J=>?_)))
 . refine .O 7340034 r (.B (.E (.M 1 r ?_)));have⟨p,_,k,_,_,q,m,J⟩:=U.2.ix J;refine .Y DU dK q p k r (.ldb 0 PN m r (.G 2 r (.V 7340058 3 r (.T J [28,29] r (λn J=>?_) λn J=>?_))))
   . refine .G 1 r (.P r (.H OS .z r (.G 1 r ?_)));refine .P r (.AC call88 r (MC U.1 J:) r r λ_ d=>?_);obtain⟨_,rfl,J⟩:=d;refine .D 2 34367078402 r (.A r J (λe J=>?_) λe J=>?_)
     . exact .F (.D 1 4 r (.drop .z (.r1 results334 r a ⟨false,r,J⟩)))
     exact .O 7340034 r (.C (.G 2 r (.I (je (AJ (b+1)) J a [0] r))))
   exact .D 6 34367078402 r (.j r r (.O 7340034 r (.C (.G 2 r (.I (je (AJ (b+1)) J a [0] r))))))
 exact .en 0 r (.drop .z (.F (.D 1 4 r (.r1 results334 r a ⟨true,r,J⟩))))
theorem AdV {a0 Q} (D:lTk I gk1 a0) (d:jR a0 Q) :
  B7 prog 311 [.agg (M2 a0 gk1)] I (AyK Q):=by
 refine Fun.ee func311 ntmps311 r (.F (.y r λ_=>.al nQ r λ_=>.L 6 r (.B (.F (.S M8 FO .p1 r (.q call334 (jC D d:) r λ_ d=>.L 22 r (.A r d (λc d=>?_) λc d=>?_)))))))
 . exact .F (.S M8 FO .p1 r (.R FO .z r (.L 4 r (.drop .p1 (.J (B6 r (.w M8 FO r .z r .n) rf ⟨a0,gk1,r,D,d⟩))))))
 refine .O 4 r (.drop .p1 (.F ?_));refine .AF call279 r (X0 (I:=I) d:) r r λ_ _ _ e f=>?_;obtain⟨i,_,_,_,_,rfl,a,rfl,d⟩:=f;refine .R FO .p1 r (.L 4 r (.pub .z λ_ g j=>?_));have⟨h,a⟩:=g.u2 e a;exact .J (B6 r (.w M8 FO r .z r .n) h ⟨i,((_,_),(_,_)),r,⟨a,j⟩,d⟩)
theorem tI {a0 Q} (J:lTk I gk1 a0) (O:X8 a0 Q) :
  Fun prog 312 #[.agg (M2 a0 gk1)] I [] (λh v l=>∃ r b3 d,v=.func (.func 335) #[] #[vp b3]∧lTk h d r∧l=[pc b3 (M2 r d) 264]∧Q r):=by
 exact Fun.ee func312 ntmps312 r (.F (.y r λb3=>.G 1 r (.ns 2 r (.mkFn r r r r (.D 1 4 r (.q1 results312 rf [0] r ⟨a0,_,gk1,r,J,r,O⟩))))))
theorem oV {o0 o1 o2 Y Q} (hY:∀ {J_:IH},I.le J_->∀ {y12:Nat} {y13:Vec} {x19:Int} {x20:Int} {p15:Option Addr} {c16:Nat} {Qy:(Bool×Nat×Vec)->Prop},Y y12 y13 x19 x20 Qy->RFun prog lr [vi x19,vi x20] J_ [Rr y12,pc b4 #[vi y13.N,.slice p15 y13.Items.length c16] 125,OwnSl BX 183 p15 c16 y13.Items] (λZ v l=>∃ r p22 c23,v=.bool r.1∧l=[Rr r.2.1,pc b4 #[vi r.2.2.N,.slice p22 r.2.2.Items.length c23] 125,OwnSl BX 183 p22 c23 r.2.2.Items]∧Qy r)) (U:lTk I gk10 o2) (D:SS o0 o1 o2 Y Q) :
  Fun prog 335 #[.func (.yield lr) #[] #[],vp b9] I [Rr o0,pc b4 #[vi o1.N,.slice p5 o1.Items.length c6] 125,OwnSl BX 183 p5 c6 o1.Items,pc b9 (M2 o2 gk10) 264] (λZ v l=>∃ r a4 a2,v=.tuple #[]∧l=[Rr r.1,pc b4 #[vi r.2.N,.slice a4 r.2.Items.length a2] 125,OwnSl BX 183 a4 a2 r.2.Items,pc b9 (M2 o2 gk10) 264]∧Q r):=by
 refine Fun.ee func335 ntmps335 r (.M 1 r (.H OS .p3 r (.q call267 (aK U.1 D:) r λ_ D=>.D 1 11 r (.E (.lx D tG [3] r (λj E l (e,b,k,f)=>λc w=>∃ g h,j ⟨23,[],none⟩ (λZ=>True) ((3,vi k) :: E) (pc b4 #[vi e,.slice g b.length h] 125 :: OwnSl BX 183 g h b :: Rr f :: l) c w) (λc w V W=>⟨_,_,jf rf tv Aj3 r V W⟩) ?_)))));rintro⟨e,b,k,f⟩ _ D c w ⟨g,h,A,a,_,a6,a7⟩;have U:=a.u1 U;refine Cod.at a6 a7 (.B (.F (.D 2 267 r (.A r D (λp D=>?_) λp D=>?_))))
 . refine .O 11 r (.B (.E (.M 3 r (.H F3 .p3 r (.G 1 r ?_)))));have⟨B,C,q,_,_,a5,i,D⟩:=U.2.ix D;refine .Y DU dK a5 B q r (.ldb 0 PN i r ?_);have s:=hY (J_:=A) a (y12:=f) (y13:=({ N:=e,Items:=b }:Vec)) (x19:=k) (x20:=C) (p15:=g) (c16:=h) D;refine .callY r r (.o [2,0,0] r) s r r λ_ _ _ t u=>?_;obtain⟨d,_,_,rfl,rfl,D⟩:=u;have⟨m,U,i⟩:=t.u3 a U i;refine .rn 4 r (.D 1 4194315 r (.A r D (λx D=>?_) λx D=>?_))
   . exact .J (DF r .n m (.o SH r) ⟨(d.2.1,d.2.2),_,_,r,r,D⟩)
   exact .O 11 r (.C (.G 1 r (.H OS .p3 r (.G 2 r (.q call267 (aK U.1 D:) r λ_ D=>.G 1 r (.I λc w V W=>⟨_,D,_,_,jf m tv Aj3 r V W⟩))))))
 exact .exit (FR r .n a (.o [2,0,0,0] r) ⟨(f,({ N:=e,Items:=b }:Vec)),_,_,r,r,D⟩)
theorem AdW {a0 Q} (R2:lTk I gk1 a0) (hd:ZB a0 Q) :
  B7 prog 282 [.agg (M2 a0 gk1)] I (AyL Q):=by
 refine Fun.en func282 ntmps282 r λw0 M=>?_;refine .marks0 (.F (.y r λW=>.al BZ r λX=>?_));refine .ns 6 r (.S M8 FO .p1 r (.ca call311 r (AdV R2 hd:) λY Z b t=>?_));obtain⟨E,K,rfl,d,hd⟩:=t;have R2:=b.u1 R2;refine .R FO .p1 r (.V 6 1 r (.H AM .p1 r (.bd BZ EV GP r (.al BZ r λF=>?_))));refine .R AR .z r (.L 14 r (.B (.F (.S M8 FO .p2 r ?_))));refine .x (.f call312 r) .n r (tI d hd:) λa1 G a2 v x=>?_;obtain⟨H,J,y,rfl,a,rfl,hd⟩:=x;have⟨A,d⟩:=v.u2 b d;refine .rn 5 r (.L 4108 r (.drop .p3 (.E (.own0 BX 183 (.rangeF [] r call335 (.o [4,2,0,0] r) λlr D rc hrc=>?_)))));refine⟨_,oV (I:=G) (lr:=lr) (Rr:=bN lr [] rc) (o0:=0) (o1:=({ N:=E.N,Items:=([]:List B3) }:Vec)) (o2:=H) (b4:=F) (p5:=none) (c6:=0) (b9:=J) (gk10:=y) ?_ a hd,?_⟩
 . intro I hJ a3 p q e a4 a5 Qy  hd
   replace a:=hJ.u1 a
   obtain⟨rfl,hd⟩:=hd;refine RFun.mk hrc r λw0 M=>.F (.D 1 16408 r (.C (.G 1 r (.I λc w ho hs=>jM (E':=[(3,_),(4,_),(5,_)]) ho ⟨r,r,r,tv⟩ hs .z (.E (.C (.G 1 r (.H HF .p1 r (.G 2 r (.bd JL sD sA r (.bs 1 DB D4 JL r λL=>?_)))))))))));have⟨g,hd⟩:=hd;exact .ap (ys:=[({ At:=q,Val:=e }:B3)]) .p3 DB DB rZ r (.box .z (.one r) r) g λO P=>.G 1 r (.s1 sizeOf123 .p3 r (.I λc w ho hs=>Ac3 0 (.inl rfl) rf .p2 (.o [2,0] rfl) ⟨(true,0,({ N:=p.N,Items:=(p.Items++([({ At:=q,Val:=e }:B3)])) }:Vec)),_,_,rfl,rfl,hd⟩ hs))
 intro R S l' h j;obtain⟨B,T,U,rfl,rfl,hd⟩:=j;have⟨k,a⟩:=h.u2 A a;have⟨hz,hd⟩:=hd;refine⟨_,_,r,λhj=>?_,λi hj=>absurd (hz.symm.trans hj) (by simp)⟩;refine .rn 5 r (.mkS 12 r r (.drop .p3 (.F (.S BI AR .p1 r (.R AR .p3 r (.L 4 r (.drop .p1 (.pub .p1 λV l C=>?_))))))));have m:=l.u1 k;exact .J (XW .z results282 (.w BI AR r .z r .n) m ⟨B.2,_,_,r,C,hd⟩)
theorem aM {a0 Q} (V:lTl I gl1 a0) (d:QJ a0 Q) :
  B7 prog 240 [.agg (ApM a0 gl1)] I (AyL Q):=by
 refine Fun.ee func240 ntmps240 r (.F (.y r λ_=>.al BZ r λ_=>.L 6 r (.B (.E (.M 1 r (.H isAgg196 .p1 r (.D 2 14 r (.A r d (λa2 d=>?_) λa2 d=>?_))))))))
 . refine .M 1 r (.Z M8 FO r .p1 (.o 3 r) r r r ?_);refine .ca call282 r (AdW V.2 d:) λ_ _ b f=>?_;obtain⟨x,_,_,rfl,y,d⟩:=f;have V:=b.u1 V;exact .R AR .z r (.L 4 r (.drop .p1 (.J (B6 r (.w BI AR r .z r .n) b ⟨x,_,_,r,y,d⟩))))
 refine .B (.jn d [2,1] tG r (λj E l c=>j ((10,.bool c) :: E) l) (λ_ d=>?_) ?_)
 . refine .C (.G 1 r (.H isAgg196 .p1 r (.G 2 r (.T d [13,14] r (λg d=>?_) λg d=>?_))))
   . refine .G 1 r (.P r (.Z BI AR r .p1 (.o 2 r) r r r ?_));refine .P r (.AC call141 r (FX V.1 d:) r r λ_ k=>?_);obtain⟨A,rfl,d⟩:=k;exact .G 2 r (.I (je A d rf tG r))
   exact .G 5 r (.I (je false d rf tG r))
 refine λc d=>jq r λ_ a=>?_;have V:=a.u1 V;refine .A r d (λm d=>?_) λm d=>?_
 . refine .B (.dr [0,1,2,3,4,5,6,7] 8 (.K 2 r (.W AM 0 r (.K 2 r (.W HF 0 r (.X r ?_))))));refine .AF call163 r (BN V.1 d:) r r λ_ _ _ q s=>?_;obtain⟨B,_,_,rfl,rfl,d⟩:=s;have⟨t,V⟩:=q.u2 a V;refine .v 3 r (.U r (.H AM .p1 r .mk) (.u 2 r r tv)) (.h r (.bd BZ EV GP r .mk) (.e2 8 (.R AR .p2 r (.L 4 r (.drop .p1 (.pub .z λ_ u C=>?_))))));have v:=u.u1 t;exact .J (B6 r (.w BI AR r .z r .n) v ⟨({ N:=a0.Vec.N,Items:=B }:Vec),_,_,r,C,d⟩)
 exact .O 4 r (.drop .z (.F (.bd BZ EV GP r (.R AR .z r (.L 4 r (.J (B6 r (.w BI AR r .z r .n) a ⟨CK,_,_,r,(.nil _ _ _),d⟩)))))))
theorem Ah2 {a0 Q} (h:pF I gd1 a0) (J:fL a0 Q) :
  B7 prog 241 [.agg (M0 a0 gd1)] I (λ_=>bE Q):=by
 refine Fun.ee func241 ntmps241 r ?_;refine .F (.y r λ_=>?_);refine .G 1 r (.ns 2 r (.S D0 BJ .z r (.ca call223 r (VB h J:) λ_ _ a c=>?_)));obtain⟨d,_,rfl,_,J⟩:=c;have h:=a.u1 h;exact .field1 sB r CN r r r r (.ln B0 r (.D 1 4 r (.drop .z (.r1 results241 r a ⟨(d.Col.length:Int),r,J⟩))))
theorem AdX {a0 Q} (U:RepSl EZ I p1 c2 a0) (J:ZC a0 Q) :
  B7 prog 246 [.slice p1 a0.length c2] I (λ_=>dJ Q):=by
 refine Fun.ee func246 ntmps246 r (.F (.D 1 1 r (.B (.M 1 r (.ln EL r (.D 1 97 r (.E (.lp J [5,0] [] r (λj E l c=>j ((6,vi c) :: E) l) (ji rf [] r) ?_))))))));refine λc _ J=>jq r λ_ a=>?_;have U:=a.u1 U;refine .F (.D 1 225 r (.B (.A r J (λd J=>?_) λd J=>?_)))
 . refine .O 97 r (.B (.E (.F (.D 2 105 r (.B (.dr Av2 16 (.K 3 r ?_)))))));refine DG J (λb J=>?_) λb J=>?_
   . rw[b];refine .K 3 r ?_;have⟨n,_,e,_,_,o,f,J⟩:=U.ix J;refine .h r (.P r (.Y EL FN o n e r .mk)) (.K 1 r (.h r (.P r (.ldb 0 AM f r .mk)) (.K 2 r ?_)));have⟨p,_,g,_,_,q,i,J⟩:=U.ix J;refine .h r (.P r (.Y EL FN q p g r .mk)) (.K 1 r (.h r (.P r (.ldb 0 AM i r .mk)) (.K 2 r (.e2 16 (.L 16777313 r (.A r J (λk J=>?_) λk J=>?_))))))
     . exact .F (.D 1 4 r (.r1 results246 r a ⟨false,r,J⟩))
     exact .O 97 r (.C (.G 2 r (.I (je (AJ (c+1)) J a [] r))))
   rw[b];exact .K 13 r (.e2 16 (.L 16777313 r (.j r r (.O 97 r (.C (.G 2 r (.I (je (AJ (c+1)) J a [] r))))))))
 exact .en 0 r (.F (.D 1 4 r (.r1 results246 r a ⟨true,r,J⟩)))
theorem rB {a0 Q} (h:RepSl EM I p1 c2 a0) (d:P8 a0 Q) :
  B7 prog 248 [.slice p1 a0.length c2] I (λ_=>bE Q):=by
 exact Fun.ee func248 ntmps248 r (.M 1 r (.V 1 1 r (.ln PM r (.D 1 4 r (.r0 results248 r ⟨(a0.length:Int),r,d⟩)))))
theorem kU {a0 Q} (h:RepSl EZ I p1 c2 a0) (d:QK a0 Q) :
  Fun prog 245 #[.slice p1 a0.length c2] I [] (λ_ v l=>∃ r,v=.bool r∧l=[]∧Q r):=by
 exact Fun.ee func245 ntmps245 r (.M 1 r (.V 1 1 r (.q call246 (AdX h d:) r λb d=>.D 2 4 r (.q1 results245 rf [] r ⟨(!b),r,r,d⟩))))
end Go.Proofs.YtcecodhleocefaaGreat
