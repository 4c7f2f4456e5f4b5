import Derived.Test.YtieniichmjgmcaaGreatF
set_option linter.unusedVariables false
set_option linter.unusedSimpArgs false
set_option maxRecDepth 8000
set_option maxHeartbeats 1000000
set_option linter.defProp false
namespace Go.Proofs.YtieniichmjgmcaaGreat
open Go Go.Fw
open Tryz
def _root_.Go.Fw.Cod.A:=@Go.Fw.Cod.condP
def _root_.Go.Fw.Cod.B:=@Go.Fw.Cod.seq
def _root_.Go.Fw.Cod.C:=@Go.Fw.Cod.region
def _root_.Go.Fw.Ops.D:=@Go.Fw.Ops.kn
def _root_.Go.Fw.Cod.E:=@Go.Fw.Cod.block
def _root_.Go.Fw.Cod.F:=@Go.Fw.Cod.sr
def _root_.Go.Fw.Ops.G:=@Go.Fw.Ops.ks
def _root_.Go.Fw.Ops.H:=@Go.Fw.Ops.nil'
def _root_.Go.Fw.Ops.I:=@Go.Fw.Ops.lo
def _root_.Go.Fw.Cod.J:=@Go.Fw.Cod.ret
def _root_.Go.Fw.DrawD.K:=@Go.Fw.DrawD.fk
def _root_.Go.Fw.Ops.L:=@Go.Fw.Ops.no
def _root_.Go.Fw.Cod.M:=@Go.Fw.Cod.sk
def _root_.Go.Fw.Ops.N:=@Go.Fw.Ops.gyes
def _root_.Go.Fw.Ops.O:=@Go.Fw.Ops.yes
def _root_.Go.Fw.Cod.P:=@Go.Fw.Cod.sn
def _root_.Go.Fw.WPost.P:=@Go.Fw.WPost.sn
def _root_.Go.Fw.Cod.Q:=@Go.Fw.Cod.condKT
def _root_.Go.Fw.Ops.R:=@Go.Fw.Ops.sa
def _root_.Go.Fw.Ops.S:=@Go.Fw.Ops.lw
def _root_.Go.Fw.Ops.T:=@Go.Fw.Ops.spl
def _root_.Go.Fw.Ops.U:=@Go.Fw.Ops.ixb
def _root_.Go.Fw.Ops.V:=@Go.Fw.Ops.nk
def _root_.Go.Fw.PendL.W:=@Go.Fw.PendL.ch
def _root_.Go.Fw.DrawD.X:=@Go.Fw.DrawD.hl
def _root_.Go.Fw.DrawD.Y:=@Go.Fw.DrawD.ww
def _root_.Go.Fw.Cod.Z:=@Go.Fw.Cod.condKF
def _root_.Go.Fw.PendL.j:=@Go.Fw.PendL.ck
def _root_.Go.Fw.WPost.q:=@Go.Fw.WPost.sp
def _root_.Go.Fw.Ops.u:=@Go.Fw.Ops.ixa0
def _root_.Go.Fw.Ops.v:=@Go.Fw.Ops.cq
def _root_.Go.Fw.Ops.x:=@Go.Fw.Ops.ldb
def _root_.Go.Fw.Cod.y:=@Go.Fw.Cod.pub
def _root_.Go.Fw.Ops.y:=@Go.Fw.Ops.pub
def _root_.Go.Fw.Ops.AA:=@Go.Fw.Ops.loadA
def _root_.Go.Fw.Ops.AB:=@Go.Fw.Ops.ixArr
def _root_.Go.Fw.Cod.AC:=@Go.Fw.Cod.skip'
def _root_.Go.Fw.Ops.AD:=@Go.Fw.Ops.move
def _root_.Go.Fw.Ops.AE:=@Go.Fw.Ops.callP
def _root_.Go.Fw.Ops.AF:=@Go.Fw.Ops.callO
def _root_.Go.Fw.Ops.AG:=@Go.Fw.Ops.ownNe
abbrev vp (b:Nat):Value:=.pointer (some ⟨b,0,none⟩)
abbrev pc (b:Nat)(c:Array Value)(t:TypeId):HA:=pto b (.cells c t (0,0))
abbrev vi (x:Int):Value:=.int .i64 x
abbrev UT (o:A1)(W:Nat)(Z:aTn)(d:Option Addr)(h:Nat)(D:Nat)(J:Option Addr)(O:Nat)(U:Nat)(V:Nat):List HA:=[pc W (FU o Z d h D J O U V) 196,QSl G5 238 d h o.out,OwnMap vi fA true D o.shares,OwnSl ET 314 J O o.sums,OwnMap vi eB false U o.came,OwnMap vi G5 true V o.votes]
abbrev kL1 (o:BR)(O:Nat)(d:Option Addr)(h:Nat)(D:Nat)(J:Nat):List HA:=[pc O (AeI o d h D J) 200,OwnSl B0 3 d h o.row,OwnMap vi G5 true D o.by_,OwnMap vi B0 false J o.often]
abbrev kL2 (o:AJ)(O:Nat)(d:Option Addr)(h:Nat)(D:Option Addr)(J:Nat):List HA:=[pc O (oG o d h D J) 364,OwnSl EL 394 d h o.heads,OwnSl ET 314 D J o.out]
abbrev kL3 (o:AL)(J:Nat)(O:aTq)(d:Nat)(h:Option Addr)(D:Nat)(U:A3)(V:AV):List HA:=[pc J (FP o O d h D) 138,OwnMap KR P6 false d o.boxes,OwnSl S0 63 h D o.history,CX A8 U,CX BV V]
abbrev kL4 (o:AL)(J:Nat)(O:aTq)(d:Nat)(h:Option Addr)(D:Nat)(U:A3):List HA:=[pc J (FP o O d h D) 138,OwnMap KR P6 false d o.boxes,OwnSl S0 63 h D o.history,CX A8 U]
abbrev kL5 (o:AL)(J:Nat)(O:aTq)(d:Nat)(h:Option Addr)(D:Nat)(U:AV):List HA:=[pc J (FP o O d h D) 138,OwnMap KR P6 false d o.boxes,OwnSl S0 63 h D o.history,CX BV U]
abbrev kL6 (o:AL)(J:Nat)(O:aTq)(d:Nat)(h:Option Addr)(D:Nat):List HA:=[pc J (FP o O d h D) 138,OwnMap KR P6 false d o.boxes,OwnSl S0 63 h D o.history]
abbrev I5:List Nat:=[0,0]
abbrev UH:List Nat:=[0,0,0,0,0,0]
abbrev W0:List Nat:=[0,0,0,0]
abbrev WZ:List Nat:=[0,0,0]
abbrev mW:List Nat:=[1,0]
abbrev nl5:List Nat:=[2,1,0]
abbrev nl6:List Nat:=[1,1,1,1,1,1]
abbrev nl7:List Nat:=[1,0,0]
abbrev nl8:List Nat:=[0,0,0,0,0]
abbrev nl9:List Nat:=[0,1,2,3,4,5,6,7,8,9,10]
abbrev wC:List Nat:=[0,1,2,3,4,5,6]
abbrev wD:List Nat:=[0,0,1,0,0,0]
abbrev xX:List Nat:=[7,1,0]
abbrev xY:List Nat:=[1,1,1]
abbrev Aj2:List Nat:=[0,1,2,3,4,5,6,7,8,9,10,11]
abbrev Aj3:List Nat:=[0,1,2,3,4,5]
abbrev Aj4:List Nat:=[1,1,0,0]
abbrev Aj5:List Nat:=[0,1,2,3,4,5,6,7,8,9,10,11,12,13]
abbrev Aj6:List Nat:=[0,1,0,0,0]
abbrev AoJ:List Nat:=[0,1,2,3,4,5,6,7,8,9]
abbrev AsV:List Nat:=[0,1,2,3,4,5,6,7,8,9,10,11,12,13,14,15]
abbrev Av4:List Nat:=[0,1,2,3,5,6,7,8,4,9,10,11]
abbrev Av5:List Nat:=[0,1,2,3,4,5,6,7,8]
abbrev Av6:List Nat:=[0,0,1,0,0,0,0]
abbrev AxD:List Nat:=[0,1,2,3,4,5,6,7,8,9,10,11,12]
abbrev AxE:List Nat:=[0,1,2,3,4,5,6,7,8,9,10,11,12,13,14]
abbrev AxF:List Nat:=[0,1,2,3,4,5,7,8,10,11,6,9,12,13]
abbrev AxG:List Nat:=[0,1,2,3,4,5,10,6,7,8,9,999,11]
abbrev AyU:List Nat:=[0,1,2,3,4,5,6,7,8,9,10,11,12,13,14,15,16,17]
abbrev AyV:List Nat:=[0,1,2,3,4,5,6,7,8,9,10,11,12,13,14,15,16,17,18,19,20,21,22,23,24]
abbrev AyW:List Nat:=[0,1,2,3,4,5,6,7,8,9,10,11,12,13,14,15,16]
variable {I:IH}
variable {b2 b3 b4 b5 b6 b7 b8 b9 c2 c3 c4 c5 c6 c7 c8 c9 lr b10 b11 b13 b16 b18 b21 b22 b26 c10 c11 c12 c18 c20 c24:Nat}
variable {p1 p2 p3 p4 p5 p6 p7 p8 p9 p10 p11 p17 p19 p23:Option Addr}
variable {Rr:Nat→HA}
variable {ga1 ga3:aTa}
variable {gb1 gb11:aTb}
variable {gd1 gd4 gd11:aTd}
variable {gg1 gg4 gg8 gg14 gg17:aTg}
variable {gh1 gh2 gh11 gh19:aTh}
variable {gi1 gi3 gi10 gi14:aTi}
variable {gj1:aTj}
variable {gk1:aTk}
variable {gn3:aTn}
variable {gq3 gq4 gq5:aTq}
theorem OV {a0 a1 Q} (d:HG a0 a1 Q) :
  B3 prog 16 [vi a0,vi a1] I (λ_=>Y6 Q):=by
 refine Fun.ee func16 ntmps16 r (.F (.D 1 3 r (.B (.M 3 r (.T d [6,7] r (λa d=>?_) λa d=>?_)))))
 . exact .D 3 1027 r (.Q r r (.F (.D 1 16 r (.r0 results16 r ⟨0,r,d⟩))))
 refine .D 3 1027 r (.A r d (λb d=>?_) λb d=>?_)
 . exact .F (.D 1 16 r (.r0 results16 r ⟨0,r,d⟩))
 refine .P 3 r (.M 2 r ?_);have⟨c,d⟩:=d;exact .rem r r c r r (.D 1 16 r (.r0 results16 r ⟨(a0.tmod a1),r,d⟩))
theorem xZ {a0 Q} (D:RepSl CA I p1 c2 a0.Edges) (d:VA a0 Q) :
  B3 prog 20 [.agg #[vi a0.N,.slice p1 a0.Edges.length c2]] I (o1_ Q):=by
 refine Fun.ee func20 ntmps20 r (.F (.bx r fun _=>.al S6 r fun _=>.V 6 1 r (.I AM .p1 r (.v call16 (OV (I:=I) d:) r fun g d=>.bd S6 iN Ac9 r (.al S6 r fun S=>?_)))))
 refine .R DC .z r (.L 14 r (.B (.F (.D 1 30 r (.E (.own0 CA 73 (.lx d [3,2,1] [3,2] r (fun j E l (a,a2)=>fun c w=>∃ e f,j ⟨51,[],none⟩ (fun _=>True) ((4,vi a2) :: E) (pc S #[vi g,.slice e a.length f] 24 :: OwnSl CA 73 e f a :: l) c w) (fun c w J O=>⟨_,_,jf rf tv [1,0,1,0] r J O⟩) ?_)))))))
 rintro ⟨a,a2⟩ _ d c w ⟨e,f,i,b,_,a6,a7⟩
 have D:=b.u1 D
 refine Cod.at a6 a7 (.B (.M 2 r (.I P0 .p2 r (.ln DU r (.G 2 r (.T d [14,15] r (fun p d=>?_) fun p d=>?_))))))
 · refine .G 4 r (.T d [17,18,19] r (fun q d=>?_) fun q d=>?_)
   · refine .G 1 r (.O r (.I AM .z r (.D 2 8388638 r (.A r d (fun s d=>?_) fun s d=>?_))))
     · refine .P 30 r (.B (.E (.M 1 r (.I P0 .p2 r (.G 1 r ?_)))))
       obtain ⟨a4,k,t,_,_,K,u,d⟩:=D.ix d
       refine .U DU D9 K a4 t r (.ldW OM D9 u r r r r (.al QC r fun _=>.R D9 .z r (.L 62 r (.dr [0,1,2,3,4,5,7,8,9,10,12,13,14,6,11,15,16,17] 18 (.K 1 r (.X P0 1 r (.K 1 r (.X AM 0 r (.K 1 r (.X AM 1 r (.K 1 r ?_)))))))))))
       refine .X AM 0 r (.K 1 r (.X AM 1 r (.K 1 r (.X LY 0 r (.K 1 r (.Y r (.v call16 (OV (I:=i) d:) r fun m d=>?_)))))))
       refine .q 5 r (.j 1 r r (.W r (.I LY .z r .mk) (.j 1 r r (.W r (.I AM .p1 r .mk) (.j 1 r r (.W r (.I AM .z r .mk) (.j 1 r r (.W r (.I P0 .p1 r .mk) (.j 1 r r tv))))))))) (.Y r (.v call16 (OV (I:=i) d:) r fun o d=>?_))
       refine .q 5 r (.j 1 r r (.W r (.I LY .z r .mk) (.j 1 r r (.W r (.I P0 .p1 r .mk) (.j 1 r r tv))))) (.h r (.bd QC AnD AnB r .mk) (.Y r (.bs 1 DU D9 QC r fun _=>?_)))
       refine .q 6 r (.W r (.I P0 .p2 r .mk) (.j 1 r r tv)) (.Y r ?_)
       obtain ⟨y,d⟩:=d
       exact .ap (ys:=[({ From:=m,To:=o,W:=Y4 .i64 k.W 2147483647 }:B2)]) .p3 DU DU AcA r (.box .z (.one r) r) y fun _ _=>.q 6 r tv (.e2 18 (.G 1 r (.s1 sizeOf22 .p3 r (.L 30 r (.drop .p1 (.drop .p1 (.C (.G 3 r (.H fun c w J O=>⟨_,d,_,_,jf b tv [1,0,0,0] r J O⟩)))))))))
     refine .en 12 r (.drop .p2 (.F (.S GA DC .z r (.R DC .p2 r (.L 4 r (.drop .z (.y .z fun _ A L=>?_)))))))
     have B:=A.u1 b
     exact .J (B5 r (.w GA DC r .z r .n) B ⟨({ N:=g,Edges:=a }:Graph),_,_,r,L,d⟩)
   refine .D 4 8388638 r (.Z r r (.en 12 r (.drop .p2 (.F (.S GA DC .z r (.R DC .p2 r (.L 4 r (.drop .z (.y .z fun _ C a5=>?_)))))))))
   have a3:=C.u1 b
   exact .J (B5 r (.w GA DC r .z r .n) a3 ⟨({ N:=g,Edges:=a }:Graph),_,_,r,a5,d⟩)
 refine .D 8 8388638 r (.Z r r (.en 12 r (.drop .p2 (.F (.S GA DC .z r (.R DC .p2 r (.L 4 r (.drop .z (.y .z fun _ F P=>?_)))))))))
 have G:=F.u1 b
 exact .J (B5 r (.w GA DC r .z r .n) G ⟨({ N:=g,Edges:=a }:Graph),_,_,r,P,d⟩)
theorem mX {a0 Q} (U:RepSl CA I p1 c2 a0.G.Edges) (O:MF a0 Q) :
  B3 prog 5 [.agg (qJ a0 p1 c2)] I (λZ v=>∃ r p4 c5,v=.tuple #[.agg #[vi r.1.N,.slice p4 r.1.Edges.length c5],vi r.2.1,vi r.2.2.1,vi r.2.2.2]∧RepSl CA Z p4 c5 r.1.Edges∧Q r):=by
 refine Fun.ee func5 ntmps5 r ?_;refine .F (.bx r λ_=>.al S6 r λ_=>?_);refine .G 3 r (.V 6 1 r (.AA GA DC r .p1 (.o 2 r) r r r (.ca call20 r (xZ U O:) λ_ _ b k=>?_)));obtain⟨_,_,_,rfl,u,O⟩:=k;have U:=b.u1 U;refine .al S6 r λx=>.R DC .z r (.L 70 r (.B (.jx O [6,2,1] [2,1] r (λj E l (d,a)=>λc w=>∃ e f,j ⟨30,[],none⟩ (λZ=>RepSl CA Z e f a) E (pc x #[vi d,.slice e a.length f] 24 :: l) c w) (λ_ O=>?_) ?_)))
 . refine .M 1 r (.I AM .z r (.D 1 4166 r (.A r O (λm O=>?_) λm O=>?_)))
   . exact .C (.bd S6 iN Ac9 r (.R DC .z r (.H λc w ho hs=>⟨_,O,_,_,jf rf (.nil _ _ _) [0,1,0] r ho hs⟩)))
   exact .AC λc w ho hs=>⟨_,O,_,_,jf rf u [0,1,0] r ho hs⟩
 rintro⟨d,a⟩ O c w ⟨e,f,y,p,A,a2,a3⟩;have⟨q,U⟩:=p.u2 b U;refine Cod.at a2 a3 (.B (.dr [0,1,2,3,4,6,7,8,9,10,11,12,13,14,15,5,16,17,18] 19 (.h r (.S GA DC .z r .mk) (.K 1 r (.X AM 1 r (.K 1 r (.X AM 0 r (.K 1 r (.X isAgg5 1 r ?_)))))))));refine .h r (.conv un5 nQ r r r .mk) (.h r (.rem r r (by decide) r r .mk) (.K 2 r (.X isAgg5 1 r (.h r (.conv un5 nQ r r r .mk) (.h r (.rem r r (by decide) r r .mk) (.K 1 r (.Y r (.v call16 (OV (I:=y) O:) r λB O=>?_))))))));refine .q 3 r (.j 1 r r (.W r (.rem r r (by decide) r r .mk) (.W r (.conv un5 nQ r r r .mk) (.W r (.I isAgg5 .p1 r .mk) (.j 2 r r (.W r (.rem r r (by decide) r r .mk) (.W r (.conv un5 nQ r r r .mk) (.W r (.I isAgg5 .p1 r .mk) (.j 1 r r (.W r (.S GA DC .z r .mk) tv)))))))))) (.Y r ?_);exact .R DC .p2 r (.P 3 r r r (.j 1 r r (.W r (.rem r r (by decide) r r .mk) (.W r (.conv un5 nQ r r r .mk) (.W r (.I isAgg5 .p1 r .mk) (.j 2 r r (.W r (.rem r r (by decide) r r .mk) (.W r (.conv un5 nQ r r r .mk) (.W r (.I isAgg5 .p1 r .mk) (.j 1 r r tv))))))))) (.K 2 r (.e2 19 (.D 1 60 r (.drop .z (.drop .z (.J (B5 r (.w GA DC r .z r (.t r (.t r (.t r .n)))) q ⟨(({ N:=d,Edges:=a }:Graph),B,A5 (((A5 (a0.R)).tmod 4)+1),A5 (((A5 (a0.C)).tmod 4)+1)),_,_,r,A,O⟩))))))))
theorem Ad2 {a0 a1 a2 a3 Q} (h:RepSl CA I p1 c2 a0.Edges) (d:iC a0 a1 a2 a3 Q) :
  B3 prog 35 [.agg #[vi a0.N,.slice p1 a0.Edges.length c2],vi a1,vi a2,vi a3] I (o2_ Q):=by
 refine Fun.ee func35 ntmps35 r (.F (.bx r λ_=>.al Ar5 r λ_=>.V 286 1 r (.L 798 r (.B (.jn d [8,4,3,2,1] mW r (λj E l a=>j ((9,vi a) :: E) l) (λ_ d=>?_) ?_)))))
 . refine .M 1 r (.I AM .p1 r (.D 1 4894 r (.A r d (λc d=>?_) λc d=>?_)))
   . exact .C (.G 1 r (.I AM .p1 r (.minI r r r r (.G 2 r (.H (je (A5 ((if 8191<a0.N then 8191 else a0.N)+1)) d rf mW r))))))
   exact .AC (je 0 d rf mW r)
 refine λa d=>jq r λ_ b=>?_;have h:=b.u1 h;exact .M 1 r (.I AM .z r (.G 1 r (.bd zeroValue56 underlying56 AyZ r (.S GA DC .z r (.G 3 r (.bd Ar5 underlying59 Az0 r (.R WK .p1 r (.L 256 r (.drop .z (.J (B5 r (.w bX WK r .z r .n) b ⟨({ Plan:=({ Kind:=1,N:=a0.N,Source:=a1,Length:=0,Draws:=([]:List Int) }:Plan),Graph:=a0,R:=a2,C:=a3,Room:=4,Limit:=a,Choices:=([]:List HR) }:JS),((_,_),(_,_),(_,_)),r,⟨(.nil _ _ _),h,(.nil _ _ _)⟩,d⟩)))))))))))
theorem BX {a0 Q} (J:RepSl B0 I p1 c2 a0) (h:B8 a0 Q) :
  B3 prog 38 [.slice p1 a0.length c2] I (o3_ Q):=by
 refine Fun.ee func38 ntmps38 r (.F (.D 1 1 r (.B (.M 1 r (.eqNilS DF r r r r (.L 17 r ?_))))));refine split p1.isNone (λa=>?_) (λa=>?_)
 . have h:=h.1 (RepSl.ofNone J a);exact .Q r a (.F (.D 1 4 r (.r0 results38 r ⟨([]:List Int),_,_,r,(.nil _ _ _),h⟩)))
 have h:=h.2;refine .Z r a (.P 1 r (.F (.bs 0 DF XP zv2 r λ_=>.G 1 r (.ownB (El:=B0) (ys:=([]:List Int)) .z .nil r ?_))));have⟨b,h⟩:=h;exact .ap (ys:=a0) .z DF DF IN2 r (.imm J r) b λ_ _=>.D 1 4 r (.y .z λ_ c d=>.r1 results38 r c ⟨(([]:List Int)++a0),_,_,r,d,h⟩)
theorem yA {a0 a1 a2 a3 Q} (D:RepSl CA I p1 c2 a0.Edges) (O:RepSl B0 I p4 c5 a1) (U:aV a0 a1 a2 a3 Q) :
  B3 prog 21 [.agg #[vi a0.N,.slice p1 a0.Edges.length c2],.slice p4 a1.length c5,vi a2,vi a3] I (λZ v=>∃ r W,v=.agg (YO r W)∧lTa Z W r∧Q r):=by
 refine Fun.ee func21 ntmps21 r ?_;refine .F (.bx r λ_=>.al Ar5 r λ_=>?_);refine .ns 286 r (.S GA DC .p1 r (.G 2 r (.ca call35 r (Ad2 D U:) λ_ _ c f=>?_)));obtain⟨a,d,rfl,b,U⟩:=f;have⟨D,O⟩:=c.u2 D O;refine .al Ar5 r λ_=>?_;refine .R WK .z r (.V 786 1 r ?_);refine .ca call38 r (BX O U:) λ_ _ h i=>?_;obtain⟨k,l,m,rfl,o,U⟩:=i;have⟨j,D,O,b⟩:=h.u4 c D O b;refine .G 2 r (.s1 sizeOf54 .z r (.G 2 r (.s1 sizeOf27 .z r (.V 784 1 r (.I AM .p2 r (.maxI r r r r (.minI r r r r (.G 2 r (.s1 D3 .z r ?_)))))))));exact .L 768 r (.drop .p2 (.F (.S bX WK .z r (.R WK .p1 r (.L 256 r (.drop .z (.J (B5 r (.w bX WK r .z r .n) j ⟨({ a with Plan:=({ Kind:=5,N:=a.Plan.N,Source:=a.Plan.Source,Length:=a.Plan.Length,Draws:=k }:Plan),Limit:=A5 (2*(if 4096<(if 0 > a0.N then 0 else a0.N) then 4096 else (if 0 > a0.N then 0 else a0.N))) }:JS),((l,m),d.2.1,d.2.2),r,⟨o,b.2.1,b.2.2⟩,U⟩))))))))
theorem M8 {a0 a1 Q} (d:IU a0 a1 Q) :
  B3 prog 49 [vi a0,vi a1] I (λ_=>bV Q):=by
 refine Fun.ee func49 ntmps49 r (.M 1 r (.V 3 3 r (.T d [6,7] r (λa d=>?_) λa d=>?_)))
 . exact .D 5 16 r (.r0 results49 r ⟨(decide (a0<=a1)),r,d⟩)
 exact .D 5 16 r (.r0 results49 r ⟨false,r,d⟩)
theorem QL {a0 a1 Q} (d:I8 a0 a1 Q) :
  B3 prog 82 [vi a0,vi a1] I (λ_=>bV Q):=by
 refine Fun.ee func82 ntmps82 r (.M 1 r (.V 3 3 r (.T d [6,7] r (λa d=>?_) λa d=>?_)))
 . exact .D 5 16 r (.r0 results82 r ⟨(decide (a0<=a1)),r,d⟩)
 exact .D 5 16 r (.r0 results82 r ⟨false,r,d⟩)
theorem SD {o0 a0 Q} (h:RepSl CA I p3 c4 o0.Edges) (d:KF o0 a0 Q) :
  Fun prog 52 #[vi a0,vp b2] I [pc b2 #[vi o0.N,.slice p3 o0.Edges.length c4] 24] (λ_ v l=>∃ r,v=.bool r∧l=[pc b2 #[vi o0.N,.slice p3 o0.Edges.length c4] 24]∧Q r):=by
 refine Fun.ee func52 ntmps52 r (.M 1 r (.V 3 3 r (.T d [5,6] r (λa d=>?_) λa d=>?_)))
 . exact .D 6 10 r (.q1 results52 rf [0] r ⟨true,r,r,d⟩)
 exact .G 2 r (.O r (.I AM .z r (.D 3 10 r (.q1 results52 rf [0] r ⟨(decide (o0.N<=a0)),r,r,d⟩))))
theorem fI {o1 a0 Q} (U:RepSl CA I p5 c6 o1.Edges) (J:NQ o1 a0 Q) :
  Fun prog 54 #[.agg (J7 a0).toArray,vp b3] I [pc b3 #[.func (.func 52) #[] #[vp b4]] 110,pc b4 #[vi o1.N,.slice p5 o1.Edges.length c6] 24] (λ_ v l=>∃ r,v=.bool r∧l=[pc b3 #[.func (.func 52) #[] #[vp b4]] 110,pc b4 #[vi o1.N,.slice p5 o1.Edges.length c6] 24]∧Q r):=by
 refine Fun.ee func54 ntmps54 r ?_;refine .F (.bx r λ_=>?_);refine .G 1 r (.ns 6 r (.I isAgg110 .p1 r (.G 1 r (.I AM .z r (.cS (.c call52 r r) (.o [2] r) r (SD (b2:=b4) U J:) λ_ _ _ a d=>?_)))));obtain⟨_,rfl,rfl,J⟩:=d;have U:=a.u1 U;refine .rn 3 r (.G 1 r (.T J [7,8] r (λe J=>?_) λe J=>?_))
 . exact .D 6 10 r (.drop .p1 (.q1 results54 a mW r ⟨true,r,r,J⟩))
 refine .O r (.I isAgg110 .p2 r (.G 1 r (.O r (.I AM .p1 r ?_))));refine .O r (.cS (.c call52 r r) (.o [0] r) r (SD (b2:=b4) U J:) λ_ _ _ g h=>?_);obtain⟨j,rfl,rfl,J⟩:=h;have⟨i,U⟩:=g.u2 a U;exact .rn 3 r (.D 2 10 r (.drop .p1 (.q1 results54 i mW r ⟨j,r,r,J⟩)))
theorem K7 {o1 a0 Q} (J:RepSl CA I p5 c6 o1.Edges) (O:RepSl CA I p8 c9 a0) (h:DP o1 a0 Q) :
  Fun prog 89 #[.slice p8 a0.length c9,.func (.func 54) #[] #[vp b3]] I [pc b3 #[.func (.func 52) #[] #[vp b4]] 110,pc b4 #[vi o1.N,.slice p5 o1.Edges.length c6] 24] (λ_ v l=>∃ r,v=vi r∧l=[pc b3 #[.func (.func 52) #[] #[vp b4]] 110,pc b4 #[vi o1.N,.slice p5 o1.Edges.length c6] 24]∧Q r):=by
 refine Fun.ee func89 ntmps89 r (.F (.D 1 3 r (.B (.M 1 r (.ln DU r (.D 1 387 r (.E (.lp h xX I5 r (λj E l d=>j ((8,vi d) :: E) l) (ji rf I5 r) ?_))))))));refine λd _ h=>jq r λ_ a=>?_;have⟨J,O⟩:=a.u2 J O;refine .F (.D 1 899 r (.B (.A r h (λf h=>?_) λf h=>?_)))
 . refine .P 387 r (.B (.E (.M 2 r (.V 419 3 r ?_))));have⟨p,_,g,_,_,q,b,h⟩:=O.ix h;refine .U DU D9 q p g r (.ldW OM D9 b r r r r ?_);refine .cS (.c call54 r r) (.o I5 r) r (fI (b3:=b3) (b4:=b4) J h:) λ_ _ _ i k=>?_;obtain⟨_,rfl,rfl,h⟩:=k;have⟨e,J,O,b⟩:=i.u4 a J O b;refine .rn 2 r (.L 65955 r (.A r h (λm h=>?_) λm h=>?_))
   . exact .F (.D 2 18 r (.q1 results89 e I5 r ⟨d,r,r,h⟩))
   exact .P 387 r (.C (.G 2 r (.H (je (A5 (d+1)) h e I5 r))))
 exact .en 2 r (.F (.D 1 18 r (.q1 results89 a I5 r ⟨(-1),r,r,h⟩)))
theorem IM {o1 a0 Q} (h:RepSl CA I p5 c6 o1.Edges) (O:RepSl CA I p8 c9 a0) (J:D6 o1 a0 Q) :
  Fun prog 53 #[.slice p8 a0.length c9,.func (.func 54) #[] #[vp b3]] I [pc b3 #[.func (.func 52) #[] #[vp b4]] 110,pc b4 #[vi o1.N,.slice p5 o1.Edges.length c6] 24] (λ_ v l=>∃ r,v=.bool r∧l=[pc b3 #[.func (.func 52) #[] #[vp b4]] 110,pc b4 #[vi o1.N,.slice p5 o1.Edges.length c6] 24]∧Q r):=by
 refine Fun.ee func53 ntmps53 r ?_;refine .M 1 r (.V 3 2 r ?_);refine .cS (.f call89 r) (.o I5 r) r (K7 (b3:=b3) (b4:=b4) h O J:) λ_ _ _ a c=>?_;obtain⟨d,rfl,rfl,J⟩:=c;have⟨h,O⟩:=a.u2 h O;exact .rn 2 r (.D 2 18 r (.q1 results53 a I5 r ⟨(decide (0<=d)),r,r,J⟩))
theorem fJ {a0 Q} (d:NR a0 Q) :
  Fun prog 55 #[.agg (J7 a0).toArray] I [] (λ_ v l=>∃ r,v=.bool r∧l=[]∧Q r):=by
 refine Fun.ee func55 ntmps55 r (.F (.bx r λ_=>.G 1 r (.V 2 1 r (.I LY .z r (.G 2 r (.T d [5,6] r (λa d=>?_) λa d=>?_))))))
 . exact .D 5 4 r (.drop .z (.q1 results55 rf [] r ⟨true,r,r,d⟩))
 exact .G 1 r (.O r (.I LY .z r (.D 3 4 r (.drop .z (.q1 results55 rf [] r ⟨(decide (2147483647<a0.W)),r,r,d⟩)))))
theorem K8 {a0 Q} (J:RepSl CA I p1 c2 a0) (h:DQ a0 Q) :
  Fun prog 89 #[.slice p1 a0.length c2,.func (.func 55) #[] #[]] I [] (λ_ v l=>∃ r,v=vi r∧l=[]∧Q r):=by
 refine Fun.ee func89 ntmps89 r (.F (.D 1 3 r (.B (.M 1 r (.ln DU r (.D 1 387 r (.E (.lp h xX [] r (λj E l d=>j ((8,vi d) :: E) l) (ji rf [] r) ?_))))))));refine λd _ h=>jq r λp a=>?_;have J:=a.u1 J;refine .F (.D 1 899 r (.B (.A r h (λf h=>?_) λf h=>?_)))
 . refine .P 387 r (.B (.E (.M 2 r (.V 419 3 r ?_))));have⟨q,_,g,_,_,s,b,h⟩:=J.ix h;refine .U DU D9 s q g r (.ldW OM D9 b r r r r ?_);refine .cS (.c call55 r r) .n r (fJ (I:=p) h:) λ_ _ _ i k=>?_;obtain⟨_,rfl,rfl,h⟩:=k;have⟨e,J,b⟩:=i.u3 a J b;refine .rn 0 r (.L 65955 r (.A r h (λm h=>?_) λm h=>?_))
   . exact .F (.D 2 18 r (.q1 results89 e [] r ⟨d,r,r,h⟩))
   exact .P 387 r (.C (.G 2 r (.H (je (A5 (d+1)) h e [] r))))
 exact .en 2 r (.F (.D 1 18 r (.q1 results89 a [] r ⟨(-1),r,r,h⟩)))
theorem IP {a0 Q} (h:RepSl CA I p1 c2 a0) (J:CG a0 Q) :
  Fun prog 53 #[.slice p1 a0.length c2,.func (.func 55) #[] #[]] I [] (λ_ v l=>∃ r,v=.bool r∧l=[]∧Q r):=by
 refine Fun.ee func53 ntmps53 r ?_;refine .M 1 r (.V 3 2 r ?_);refine .cS (.f call89 r) .n r (K8 h J:) λ_ _ _ a c=>?_;obtain⟨d,rfl,rfl,J⟩:=c;have h:=a.u1 h;exact .rn 0 r (.D 2 18 r (.q1 results53 a [] r ⟨(decide (0<=d)),r,r,J⟩))
theorem WN {a0 Q} (O:RepSl CA I p1 c2 a0.Edges) (J:N1 a0 Q) :
  B3 prog 26 [.agg #[vi a0.N,.slice p1 a0.Edges.length c2]] I (λ_=>Y6 Q):=by
 refine Fun.ee func26 ntmps26 r (.F (.bx r λw=>.G 1 r (.ns 2 r (.mkFn r r r r (.alloc1 zeroValue110 r r r λv=>.s1 sizeOf110 .z r (.L 10 r (.B (.E (.M 1 r (.I AM .p1 r (.D 2 42 r (.A r J (λe J=>?_) λe J=>?_))))))))))))
 . exact .F (.D 1 4 r (.drop .z (.drop .z (.r0 results26 r ⟨3,r,J⟩))))
 refine .B (.jn J [3,1] mW r (λj E l d=>j ((9,.bool d) :: E) l) (λ_ J=>?_) ?_)
 . refine .M 1 r (.I AM .p1 r (.D 2 522 r (.A r J (λg J=>?_) λg J=>?_)))
   . exact .AC (je (decide (4096<a0.N)) J rf mW r)
   exact .C (.G 1 r (.I P0 .p1 r (.ln DU r (.G 2 r (.H (je (decide (65536<(a0.Edges.length:Int))) J rf mW r))))))
 refine λd J=>jq r λ_ a=>?_;have O:=a.u1 O;refine .A r J (λh J=>?_) λh J=>?_
 . exact .F (.D 1 4 r (.drop .z (.drop .z (.r1 results26 r a ⟨5,r,J⟩))))
 refine .M 1 r (.I P0 .z r (.mkFn r r r r ?_));refine .cS (.f call53 r) (.o mW r) r (IM (b3:=v) (b4:=w) O O J:) λ_ _ _ k m=>?_;obtain⟨_,rfl,rfl,J⟩:=m;have⟨b,O⟩:=k.u2 a O;refine .rn 2 r (.D 1 131074 r (.drop .z (.A r J (λp J=>?_) λp J=>?_)))
 . exact .F (.D 1 4 r (.drop .z (.r1 results26 r b ⟨3,r,J⟩)))
 refine .M 1 r (.I P0 .z r ?_);refine .cS (.f call53 r) .n r (IP O J:) λ_ _ _ s t=>?_;obtain⟨_,rfl,rfl,J⟩:=t;have⟨c,O⟩:=s.u2 b O;refine .rn 1 r (.D 1 4194304 r (.drop .z (.A r J (λu J=>?_) λu J=>?_)))
 . exact .F (.D 1 4 r (.r1 results26 r c ⟨7,r,J⟩))
 exact .P 0 r (.F (.D 1 4 r (.r1 results26 r c ⟨0,r,J⟩)))
theorem TC {a0 Q} (d:SJ a0 Q) :
  B3 prog 100 [vi a0] I (λ_=>bV Q):=by
 refine Fun.ee func100 ntmps100 r (.M 1 r (.V 1 3 r (.T d [4,5] r (λa d=>?_) λa d=>?_)))
 . exact .D 4 4 r (.r0 results100 r ⟨(decide (a0<6)),r,d⟩)
 exact .D 4 4 r (.r0 results100 r ⟨false,r,d⟩)
theorem NF {a0 Q} (d:NS a0 Q) :
  B3 prog 101 [vi a0] I (λ_=>o5_ Q):=by
 exact Fun.ee func101 ntmps101 r (.F (.al EB r λ_=>.V 5 1 r (.shr' r r (by decide) r r (.G 1 r (.conv xL Z0 r r r (.bd EB OJ OI r (.R AR .z r (.L 4 r (.J (B5 r (.w BJ AR r .z r .n) rf ⟨({ Hi:=shr .i64 a0 63,Lo:=IntKind.wrap .u64 (a0) }:AP),r,d⟩))))))))))
theorem LR {a0 Q} (O:RepSl B0 I p1 c2 a0) (J:J9 a0 Q) :
  B3 prog 136 [.slice p1 a0.length c2] I (λ_=>Y6 Q):=by
 refine Fun.ee func136 ntmps136 r (.M 1 r (.V 1 1 r (.L 9 r (.B (.M 1 r (.ln BE r (.D 1 456 r (.E (.lp J [7,6,3] [] r (λj E l b=>j ((8,vi b) :: E) l) (ji rf [] r) ?_)))))))));refine λb _ J=>jq r λ_ a=>?_;have O:=a.u1 O;refine .F (.D 1 968 r (.B (.A r J (λc J=>?_) λc J=>?_)))
 . refine .P 456 r (.B (.E (.F ?_)));have⟨h,i,d,_,_,k,e,J⟩:=O.ix J;refine .U BE D3 k h d r (.x 0 AM e r (.G 1 r (.V 488 3 r (.L 16872 r (.A r J (λf J=>?_) λf J=>?_)))))
   . exact .F (.D 2 4 r (.r1 results136 r a ⟨i,r,J⟩))
   exact .P 456 r (.C (.G 2 r (.H (je (A5 (b+1)) J a [] r))))
 exact .en 8 r (.F (.D 2 4 r (.r1 results136 r a ⟨0,r,J⟩)))
theorem W3 {a0 Q} (d:MG a0 Q) :
  B3 prog 179 [vi a0] I (λ_=>bV Q):=by
 exact Fun.ee func179 ntmps179 r (.M 1 r (.V 1 4 r (.L 4 r (.r0 results179 r ⟨(a0 != a0),r,d⟩))))
theorem SE {a0 a1 Q} (h:HH a0 a1 Q) :
  B3 prog 138 [vi a0,vi a1] I (λ_=>Y6 Q):=by
 refine Fun.ee func138 ntmps138 r (.M 1 r (.V 3 1 r (.v call179 (W3 (I:=I) h:) r λ_ h=>.G 1 r (.V 35 1 r (.v call179 (W3 (I:=I) h:) r λ_ h=>.D 1 99 r (.B (.F (.D 1 2115 r (.A r h (λb h=>?_) λb h=>?_)))))))))
 . refine .B (.F (.D 1 4096 r (.A r h (λc h=>?_) λc h=>?_)))
   . exact .F (.D 1 16 r (.r0 results138 r ⟨0,r,h⟩))
   exact .P 0 r (.F (.D 1 16 r (.r0 results138 r ⟨(-1),r,h⟩)))
 refine .P 67 r (.B (.F (.D 1 8195 r (.A r h (λd h=>?_) λd h=>?_))))
 . exact .F (.D 1 16 r (.r0 results138 r ⟨1,r,h⟩))
 refine .P 3 r (.B (.F (.D 3 65539 r (.A r h (λe h=>?_) λe h=>?_))))
 . exact .F (.D 1 16 r (.r0 results138 r ⟨(-1),r,h⟩))
 refine .P 3 r (.B (.F (.D 3 524288 r (.A r h (λf h=>?_) λf h=>?_))))
 . exact .F (.D 1 16 r (.r0 results138 r ⟨1,r,h⟩))
 exact .P 0 r (.F (.D 1 16 r (.r0 results138 r ⟨0,r,h⟩)))
theorem UI {a0 Q} (d:LG a0 Q) :
  B3 prog 262 [.int .u64 a0] I (λ_=>bV Q):=by
 exact Fun.ee func262 ntmps262 r (.M 1 r (.V 1 4 r (.L 4 r (.r0 results262 r ⟨(a0 != a0),r,d⟩))))
theorem cJ {a0 a1 Q} (h:JA a0 a1 Q) :
  B3 prog 217 [.int .u64 a0,.int .u64 a1] I (λ_=>Y6 Q):=by
 refine Fun.ee func217 ntmps217 r (.M 1 r (.V 3 1 r (.v call262 (UI (I:=I) h:) r λ_ h=>.G 1 r (.V 35 1 r (.v call262 (UI (I:=I) h:) r λ_ h=>.D 1 99 r (.B (.F (.D 1 2115 r (.A r h (λb h=>?_) λb h=>?_)))))))))
 . refine .B (.F (.D 1 4096 r (.A r h (λc h=>?_) λc h=>?_)))
   . exact .F (.D 1 16 r (.r0 results217 r ⟨0,r,h⟩))
   exact .P 0 r (.F (.D 1 16 r (.r0 results217 r ⟨(-1),r,h⟩)))
 refine .P 67 r (.B (.F (.D 1 8195 r (.A r h (λd h=>?_) λd h=>?_))))
 . exact .F (.D 1 16 r (.r0 results217 r ⟨1,r,h⟩))
 refine .P 3 r (.B (.F (.D 3 65539 r (.A r h (λe h=>?_) λe h=>?_))))
 . exact .F (.D 1 16 r (.r0 results217 r ⟨(-1),r,h⟩))
 refine .P 3 r (.B (.F (.D 3 524288 r (.A r h (λf h=>?_) λf h=>?_))))
 . exact .F (.D 1 16 r (.r0 results217 r ⟨1,r,h⟩))
 exact .P 0 r (.F (.D 1 16 r (.r0 results217 r ⟨0,r,h⟩)))
theorem wE {a0 a1 Q} (J:SK a0 a1 Q) :
  B3 prog 167 [.agg (E9 a0).toArray,.agg (E9 a1).toArray] I (λ_=>Y6 Q):=by
 refine Fun.ee func167 ntmps167 r (.F (.bx r λ_=>.bx r λ_=>.D 1 12 r (.B (.dr Av4 12 (.K 1 r (.X LY 1 r (.K 1 r (.X LY 0 r (.K 1 r (.X FI 1 r (.K 1 r (.X FI 0 r (.Y r ?_)))))))))))));refine .v call138 (SE (I:=I) J:) r λf J=>.q 2 r (.W r (.I FI .z r .mk) (.j 1 r r (.W r (.I FI .p1 r .mk) (.j 1 r r tv)))) (.Y r (.v call217 (cJ (I:=I) J:) r λa J=>.q 2 r tv (.Y r (.bs 2 BE D3 jX r λ_=>.q 3 r tv (.Y r (.pubB (El:=B0) (ys:=([f,a]:List Int)) (k:=2) .z (RepCs.cons (cs:=[vi f]) r (RepCs.cons (cs:=[vi a]) r .nil)) r λ_ d g=>?_))))));exact .v call136 (LR g J:) r λh J=>.q 2 r tv (.e2 12 (.D 1 16 r (.drop .z (.drop .z (.r1 results167 r d ⟨h,r,J⟩)))))
theorem gG {a0 a1 Q} (d:R8 a0 a1 Q) :
  B3 prog 130 [.agg (E9 a0).toArray,.agg (E9 a1).toArray] I (λ_=>o5_ Q):=by
 refine Fun.ee func130 ntmps130 r (.F (.bx r λ_=>.bx r λ_=>.al EB r λ_=>.L 28 r (.B (.F (.S BJ AR .p2 r (.S BJ AR .p1 r (.v call167 (wE (I:=I) d:) r λ_ d=>.D 1 284 r (.A r d (λb d=>?_) λb d=>?_))))))))
 . exact .F (.S BJ AR .p2 r (.R AR .z r (.L 16 r (.drop .p1 (.drop .p1 (.J (B5 r (.w BJ AR r .z r .n) rf ⟨a0,r,d⟩)))))))
 exact .P 24 r (.drop .p2 (.F (.S BJ AR .p1 r (.R AR .z r (.L 16 r (.drop .p1 (.J (B5 r (.w BJ AR r .z r .n) rf ⟨a1,r,d⟩))))))))
theorem SX {a0 Q} (d:MO a0 Q) :
  B3 prog 131 [.bool a0] I (λ_=>o5_ Q):=by
 refine Fun.ee func131 ntmps131 r (.F (.al EB r λ_=>.L 5 r (.B (.F (.D 1 12 r (.A r d (λa d=>?_) λa d=>?_))))))
 . exact .F (.v call101 (NF (I:=I) d:) r λc d=>.R AR .z r (.L 4 r (.J (B5 r (.w BJ AR r .z r .n) rf ⟨c,r,d⟩))))
 exact .P 4 r (.F (.bd EB OJ OI r (.R AR .z r (.L 4 r (.J (B5 r (.w BJ AR r .z r .n) rf ⟨GI,r,d⟩))))))
theorem mY {a0 Q} (d:TH a0 Q) :
  B3 prog 168 [.bool a0] I (λ_=>o6_ Q):=by
 refine Fun.ee func168 ntmps168 r (.F (.D 1 1 r (.B (.F (.D 1 8 r (.A r d (λa d=>?_) λa d=>?_))))))
 . exact .F (.D 1 4 r (.r0 results168 r ⟨1,r,d⟩))
 exact .P 0 r (.F (.D 1 4 r (.r0 results168 r ⟨0,r,d⟩)))
theorem wF {a0 a1 Q} (d:aW a0 a1 Q) :
  B3 prog 132 [.agg (E9 a0).toArray,.agg (E9 a1).toArray] I (λ_=>o5_ Q):=by
 refine Fun.ee func132 ntmps132 r (.F (.bx r λ_=>.bx r λ_=>.al EB r λ_=>.V 28 1 r (.I FI .p2 r (.G 1 r (.I FI .p1 r (.D 2 60 r (.B (.dr [0,1,2,3,4,5,6,7,8,9,10,14,11,12,13,15] 16 (.K 1 r (.X LY 2 r (.h r (.conv xL Z0 r r r .mk) ?_)))))))))));refine .K 1 r (.X LY 1 r (.h r (.conv xL Z0 r r r .mk) (.K 3 r (.X FI 1 r (.K 2 r (.Y r (.v call168 (mY (I:=I) d:) r λb d=>?_)))))));exact .q 3 r (.j 2 r r (.W r (.conv xL Z0 r r r .mk) (.W r (.I LY .p1 r .mk) (.j 1 r r (.W r (.conv xL Z0 r r r .mk) (.W r (.I LY .p2 r .mk) (.j 1 r r tv))))))) (.K 1 r (.h r (.conv Z0 xL r r r .mk) (.h r (.bd EB OJ OI r .mk) (.e2 16 (.R AR .z r (.L 16 r (.drop .p1 (.drop .p1 (.J (B5 r (.w BJ AR r .z r .n) rf ⟨({ Hi:=A5 (IntKind.wrap .u64 ((IntKind.wrap .u64 ((IntKind.wrap .u64 (a0.Hi))+(IntKind.wrap .u64 (a1.Hi))))+b)),Lo:=IntKind.wrap .u64 (a0.Lo+a1.Lo) }:AP),r,d⟩))))))))))
theorem jA {a0 a1 a2 Q} (U:TI a0 a1 a2 Q) :
  B3 prog 102 [vi a0,.agg (E9 a1).toArray,.agg (E9 a2).toArray] I (λ_=>o5_ Q):=by
 refine Fun.ee func102 ntmps102 r (.F (.bx r λ_=>.bx r λ_=>.al EB r λ_=>.L 113 r (.B (.F (.D 1 240 r (.E (.B (.jn U [7,6,5,4] nl5 r (λj E l c=>j ((8,.bool c) :: E) l) (λ_ U=>?_) ?_))))))))
 . refine .F (.D 2 496 r (.A r U (λd U=>?_) λd U=>?_))
   . exact .AC (je (a0==1) U rf nl5 r)
   refine .F (.D 2 496 r (.A r U (λe U=>?_) λe U=>?_))
   . exact .AC (je (a0==3) U rf nl5 r)
   exact .C (.G 2 r (.H (je (a0==4) U rf nl5 r)))
 refine λc U=>jq r λb a=>.A r U (λf U=>?_) λf U=>?_
 . exact .F (.S BJ AR .z r (.S BJ AR .p1 r (.v call130 (gG (I:=b) U:) r λq U=>.R AR .p2 r (.L 64 r (.drop .z (.drop .z (.J (B5 r (.w BJ AR r .z r .n) a ⟨q,r,U⟩))))))))
 refine .F (.D 2 33008 r (.A r U (λh U=>?_) λh U=>?_))
 . refine .F (.S BJ AR .z r (.S BJ AR .p1 r (.neV r r (Aa7 a1 a2) (Aa8 _ _ _ _ _) r r r (.G 1 r (.T U [19,20] r (λi U=>?_) λi U=>?_)))))
   . exact .G 4 r (.v call131 (SX (I:=b) U:) r λs U=>.R AR .p2 r (.L 64 r (.drop .z (.drop .z (.J (B5 r (.w BJ AR r .z r .n) a ⟨s,r,U⟩))))))
   exact .O r (.S BJ AR .z r (.O r (.bd EB OJ OI r (.O r (.neV r r (Aa7 a1 GI) (Aa8 _ _ _ _ _) r r r (.G 1 r (.v call131 (SX (I:=b) U:) r λt U=>.R AR .p2 r (.L 64 r (.drop .z (.drop .z (.J (B5 r (.w BJ AR r .z r .n) a ⟨t,r,U⟩))))))))))))
 refine .F (.D 2 67108976 r (.A r U (λo U=>?_) λo U=>?_))
 . exact .F (.S BJ AR .z r (.S BJ AR .p1 r (.v call132 (wF (I:=b) U:) r λu U=>.R AR .p2 r (.L 64 r (.drop .z (.drop .z (.J (B5 r (.w BJ AR r .z r .n) a ⟨u,r,U⟩))))))))
 exact .P 64 r (.drop .z (.drop .z (.F (.bd EB OJ OI r (.R AR .z r (.L 64 r (.J (B5 r (.w BJ AR r .z r .n) a ⟨GI,r,U⟩))))))))
theorem yB {a0 Q} (d:aX a0 Q) :
  B3 prog 133 [.agg (E9 a0).toArray] I (λ_=>o7_ Q):=by
 refine Fun.ee func133 ntmps133 r (.F (.bx r λ_=>.G 2 r (.V 2 1 r (.I FI .z r (.conv Z0 xL r r r (.D 1 18 r (.B (.B (.dr [0,2,1,3] 4 (.K 1 r (.h r (.S BJ AR .z r .mk) (.Y r (.v call101 (NF (I:=I) d:) r λc d=>?_)))))))))))));refine .q 1 r (.W r (.S BJ AR .z r .mk) tv) (.h r (.neV r r (Aa7 c a0) (Aa8 _ _ _ _ _) r r r .mk) (.e2 4 (.L 2064 r (.drop .z (.A r d (λb d=>?_) λb d=>?_)))))
 . exact .F (.D 2 12 r (.J (B5 r (.t r (.t r .n)) rf ⟨(0,false),r,d⟩)))
 exact .P 16 r (.F (.D 3 12 r (.J (B5 r (.t r (.t r .n)) rf ⟨(A5 (a0.Lo),true),r,d⟩))))
theorem gI {a0 a1 Q} (d:RA a0 a1 Q) :
  B3 prog 103 [vi a0,.agg (E9 a1).toArray] I (λ_=>o7_ Q):=by
 exact Fun.ee func103 ntmps103 r (.F (.bx r λ_=>.G 2 r (.ns 8 r (.S BJ AR .z r (.v call133 (yB (I:=I) d:) r λb d=>.D 4 48 r (.drop .z (.J (B5 r (.t r (.t r .n)) rf ⟨(b.1,b.2),r,d⟩))))))))
theorem MK {a0 Q} (d:HS a0 Q) :
  B3 prog 211 [vi a0] I (λ_=>bV Q):=by
 exact Fun.ee func211 ntmps211 r (.M 1 r (.V 1 4 r (.L 4 r (.r0 results211 r ⟨(a0 != a0),r,d⟩))))
theorem DL {a0 a1 Q} (h:CR a0 a1 Q) :
  B3 prog 160 [vi a0,vi a1] I (λ_=>Y6 Q):=by
 refine Fun.ee func160 ntmps160 r (.M 1 r (.V 3 1 r (.v call211 (MK (I:=I) h:) r λ_ h=>.G 1 r (.V 35 1 r (.v call211 (MK (I:=I) h:) r λ_ h=>.D 1 99 r (.B (.F (.D 1 2115 r (.A r h (λb h=>?_) λb h=>?_)))))))))
 . refine .B (.F (.D 1 4096 r (.A r h (λc h=>?_) λc h=>?_)))
   . exact .F (.D 1 16 r (.r0 results160 r ⟨0,r,h⟩))
   exact .P 0 r (.F (.D 1 16 r (.r0 results160 r ⟨(-1),r,h⟩)))
 refine .P 67 r (.B (.F (.D 1 8195 r (.A r h (λd h=>?_) λd h=>?_))))
 . exact .F (.D 1 16 r (.r0 results160 r ⟨1,r,h⟩))
 refine .P 3 r (.B (.F (.D 3 65539 r (.A r h (λe h=>?_) λe h=>?_))))
 . exact .F (.D 1 16 r (.r0 results160 r ⟨(-1),r,h⟩))
 refine .P 3 r (.B (.F (.D 3 524288 r (.A r h (λf h=>?_) λf h=>?_))))
 . exact .F (.D 1 16 r (.r0 results160 r ⟨1,r,h⟩))
 exact .P 0 r (.F (.D 1 16 r (.r0 results160 r ⟨0,r,h⟩)))
theorem Ad3 {a0 a1 Q} (J:iD a0 a1 Q) :
  B3 prog 137 [.agg (J7 a0).toArray,.agg (J7 a1).toArray] I (λ_=>Y6 Q):=by
 refine Fun.ee func137 ntmps137 r (.F (.bx r λ_=>.bx r λ_=>.D 1 12 r (.B (.dr Av4 12 (.K 1 r (.X AM 1 r (.K 1 r (.X AM 0 r (.K 1 r (.X AM 1 r (.K 1 r (.X AM 0 r (.Y r ?_)))))))))))));refine .v call160 (DL (I:=I) J:) r λf J=>.q 2 r (.W r (.I AM .z r .mk) (.j 1 r r (.W r (.I AM .p1 r .mk) (.j 1 r r tv)))) (.Y r (.v call160 (DL (I:=I) J:) r λa J=>.q 2 r tv (.Y r (.bs 2 BE D3 jX r λ_=>.q 3 r tv (.Y r (.pubB (El:=B0) (ys:=([f,a]:List Int)) (k:=2) .z (RepCs.cons (cs:=[vi f]) r (RepCs.cons (cs:=[vi a]) r .nil)) r λ_ d g=>?_))))));exact .v call136 (LR g J:) r λh J=>.q 2 r tv (.e2 12 (.D 1 16 r (.drop .z (.drop .z (.r1 results137 r d ⟨h,r,J⟩)))))
theorem yC {a0 a1 Q} (J:VB a0 a1 Q) :
  B3 prog 105 [.agg (J7 a0).toArray,.agg (J7 a1).toArray] I (λ_=>Y6 Q):=by
 refine Fun.ee func105 ntmps105 r (.F (.bx r λ_=>.bx r λ_=>.D 1 12 r (.B (.dr [0,1,3,4,5,6,2,7,8,9] 10 (.h r (.S OM D9 .p1 r .mk) (.h r (.S OM D9 .z r .mk) (.K 1 r (.X LY 1 r (.K 1 r (.X LY 0 r (.Y r ?_)))))))))));refine .v call137 (Ad3 (I:=I) J:) r λf J=>.q 2 r (.W r (.I LY .z r .mk) (.j 1 r r (.W r (.I LY .p1 r .mk) (.j 1 r r tv)))) (.Y r (.v call138 (SE (I:=I) J:) r λa J=>.q 2 r tv (.Y r (.bs 2 BE D3 jX r λ_=>.q 3 r tv (.Y r (.pubB (El:=B0) (ys:=([f,a]:List Int)) (k:=2) .z (RepCs.cons (cs:=[vi f]) r (RepCs.cons (cs:=[vi a]) r .nil)) r λ_ d g=>?_))))));exact .v call136 (LR g J:) r λi J=>.q 2 r tv (.e2 10 (.D 1 16 r (.drop .z (.drop .z (.r1 results105 r d ⟨i,r,J⟩)))))
theorem rN {a0 a1 Q} (O:RepSl CA I p1 c2 a1) (J:QP a0 a1 Q) :
  B3 prog 71 [vi a0,.slice p1 a1.length c2] I (o8_ Q):=by
 refine Fun.ee func71 ntmps71 r (.F (.D 2 3 r (.B (.M 1 r (.v call100 (TC (I:=I) J:) r λ_ J=>.D 1 1048579 r (.A r J (λb3 J=>?_) λb3 J=>?_))))))
 . exact .F (.D 2 48 r (.J (B5 r (.t r (.t r .n)) rf ⟨(([]:List B2),8),_,_,r,(.nil _ _ _),J⟩)))
 refine .P 3 r (.F (.mkMap KR kR true r r λa8=>.D 1 67 r (.B (.M 1 r (.ln DU r (.D 1 29360193 r (.E (.lp J [23,22,6,0] [] r (λj E l (e,g)=>j ((24,vi g) :: E) (OwnMap KR kR true a8 e :: l)) (ji rf [0] r) ?_))))))));rintro⟨e,g⟩ _ J;refine jq r λD d=>?_;have O:=d.u1 O;refine .F (.D 1 62914625 r (.B (.A r J (λK J=>?_) λK J=>?_)))
 . refine .P 29360193 r (.B (.E (.F ?_)));have⟨b4,b,L,_,_,b5,N,J⟩:=O.ix J;refine .U DU D9 b5 b4 L r (.ldW OM D9 N r r r r (.al QC r λ_=>.R D9 .z r (.V 29360449 1 r (.I AM .z r (.G 1 r (.I AM .z r (.ba fG UA D3 r (.al fG r λ_=>.R fE .z r (.V 29360961 1 r (.I LY .p1 r (.v call101 (NF (I:=D) J:) r λh J=>.al EB r λ_=>?_)))))))))));refine .R AR .z r (.L 29361729 r (.drop .p2 (.B (.M 1 r (.S isAgg97 fE .p1 r (.lookM2 (k:=(b.From,b.To)) (El:=kR) (ag:=true) (zv:=.agg #[vi 0,.int .u64 0]) (z:=GI) AwF underlying171 EB ⟨[vi 0,.int .u64 0],r,.a⟩ .p2 r r J r r λ_ _ _ _ J P R=>?_))))));cases P;cases R;refine .G 3 r (.al EB r λ_=>.R AR .z r (.G 1 r (.V 29367873 1 r (.L 4398075874881 r (.A r J (λS J=>?_) λS J=>?_)))))
   . refine .C (.G 1 r (.S BJ AR .z r (.S BJ AR .p1 r (.v call102 (jA (I:=D) J:) r λm J=>.R AR .p1 r (.L 29361729 r (.drop .z (.C (.G 1 r (.S isAgg97 fE .p1 r (.S BJ AR .z r (.updM (k:=(b.From,b.To)) (El:=kR) (ag:=true) (v:=m) AwF underlying171 .p2 r r r ⟨[vi m.Hi,.int .u64 m.Lo],r,.a⟩ (.L 29360193 r (.drop .z ?_)))))))))))));exact .drop .z (.C (.G 2 r (.H (je ((DY (b.From,b.To) m e),A5 (g+1)) J d [0] r))))
   exact .P 29361729 r (.drop .z (.C (.G 1 r (.S isAgg97 fE .p1 r (.S BJ AR .z r (.updM (k:=(b.From,b.To)) (El:=kR) (ag:=true) (v:=h) AwF underlying171 .p2 r r r ⟨[vi h.Hi,.int .u64 h.Lo],r,.a⟩ (.L 29360193 r (.drop .z (.drop .z (.C (.G 2 r (.H (je ((DY (b.From,b.To) h e),A5 (g+1)) J d [0] r)))))))))))))
 refine .en 65 r (.F (.D 1 8257 r (.B (.M 1 r (.rangeM underlying171 .z r r r λb6=>.L 4503599627378689 r (.E (.own0 CA 73 (.lx J [52,0] [] r (λj E l (p,F)=>λc w=>∃ q s,j ⟨78,[],none⟩ (λ_=>True) ((13,.slice q p.length s) :: E) (OwnSl CA 73 q s p :: OwnIt KR kR true a8 b6 e F none :: l) c w) (λc w V Z=>⟨_,_,jf rf tv I5 r V Z⟩) ?_))))))));rintro⟨p,F⟩ _ J c w ⟨q,s,G,u,_,d0,d1⟩;have B:=u.u1 d;refine Cod.at d0 d1 (.F (.nextM .p1 r J r r (λJ c0=>?_) (λA _ _ _ J X Y c0=>?_)))
 . refine .D 1 22517998136860673 r (.B (.Z r r (.en 8192 r (.drop .p1 (.M 1 r ?_)))));have c1:=Fun.sort (hk:=λ_=>⟨r,r⟩) AyP OM D9 (λx y b1 Q hq=>yC (I:=b1) (a0:=x) (a1:=y) (Q:=Q) hq) call105 (I:=G) (T:=73) (a:=q) (cap:=s) J;refine .cS (.f call104 r) (.o [0] r) r c1 λ_ _ _ a2 a3=>?_;obtain⟨b8,rfl,C,rfl,J⟩:=a3;have⟨a4,a5⟩:=a2.u2 B u;refine .rl .z [13,75] r (by rw[C]) (.V 8192 3 r (.L 48 r (.y .z λ_ a6 b9=>?_)));have⟨a7,_⟩:=a6.u2 a4 a5;exact .J (B5 r (.t r (.t r .n)) a7 ⟨(b8,0),_,_,r,b9,J⟩)
 cases X;cases Y;refine .D 1 22517998136860673 r (.B (.Q r r (.P 4503599627378689 r (.E (.F (.entryM .z r r r (.G 2 r (.al fG r λ_=>.al EB r λ_=>.R fE .p1 r (.R AR .z r (.V 4503599627427841 1 r (.S BJ AR .z r (.v call103 (gI (I:=G) J:) r λH J=>?_))))))))))));refine .D 5 4503599627591681 r (.drop .z (.B (.F (.D 2 36897991747046563841 r (.A r J (λa9 J=>?_) λa9 J=>?_)))))
 . exact .F (.D 2 48 r (.drop .z (.drop .z (.drop .z (.J (B5 r (.t r (.t r .n)) B ⟨(([]:List B2),12),_,_,r,(.nil _ _ _),J⟩))))))
 refine .P 4503599627460609 r (.C (.G 1 r (.AB (i:=0) UA D3 r r (by decide) (o:=0) r r r (.I AM .z r (.AB (i:=1) UA D3 r r (by decide) (o:=1) r r r (.I AM .z r (.G 1 r (.bd QC AnD AnB r (.bs 1 DU D9 QC r λ_=>?_)))))))));have⟨b0,J⟩:=J;exact .ap (ys:=[({ From:=A.1.1,To:=A.1.2,W:=H.1 }:B2)]) .p3 DU DU AcA r (.box .z (.one r) r) b0 λ_ _=>.G 1 r (.H λc w V Z=>⟨_,J,_,_,jf u tv [0,2] r V Z⟩)
theorem QV {a0 Q} (h:RepSl CA I p1 c2 a0.Edges) (D:IV a0 Q) :
  B3 prog 44 [.agg #[vi a0.N,.slice p1 a0.Edges.length c2]] I (o1_ Q):=by
 refine Fun.ee func44 ntmps44 r ?_;refine .F (.bx r λ_=>.al S6 r λ_=>?_);refine .V 6 1 r (.I P0 .p1 r (.ca call71 r (rN h D:) λ_ _ a c=>?_));obtain⟨d,_,_,rfl,e,D⟩:=c;have h:=a.u1 h;exact .G 5 r (.V 14 1 r (.I AM .p1 r (.G 1 r (.bd S6 iN Ac9 r (.R DC .z r (.L 4 r (.drop .p1 (.J (B5 r (.w GA DC r .z r .n) a ⟨({ N:=a0.N,Edges:=d.1 }:Graph),_,_,r,e,D⟩)))))))))
theorem P3 {a1 Q} (h:FR a1 Q) :
  Ab1 prog 126 [.slice none 0 0,vi a1] I (λ_ v l=>∃ r p1 c2,v=.slice p1 r.length c2∧l=[OwnSl CA 73 p1 c2 r]∧Q r):=by
 refine Fun.ee func126 ntmps126 r (.F (.D 1 3 r (.B (.F (.D 2 67 r (.A r h (λa h=>?_) λa h=>?_))))))
 . exact h.elim
 refine .P 3 r (.B (.M 2 r (.capOf DU r r r r (.G 1 r (.ln DU r (.G 3 r (.V 3 2 r (.L 65539 r (.A r h (λb h=>?_) λb h=>?_)))))))))
 . refine .C (.G 2 r (.capOf DU r r r r (.slZ DU D9 r r (Y3 _) r r r (.G 1 r ?_))));have⟨d,e,h⟩:=h;exact .growN CA 24 DU nQ AcA r r r r r r r r d e r r λ_ _ c=>.G 1 r (.ln DU r (.slZ DU D9 r r c ApZ r r (.G 1 r (.V 1 2 r (.L 16 r (.q1 results126 rf [0] r ⟨([]:List B2),_,_,r,r,h⟩))))))
 exact .P 1 r (.F (.D 2 16 r (.own0 CA 73 (.q1 results126 rf [0] r ⟨([]:List B2),_,_,r,r,h⟩))))
theorem NL {a0 Q} (J:RepSl (Y7 CA) I p1 c2 a0) (D:DO a0 Q) :
  B3 prog 91 [.slice p1 a0.length c2] I (λZ v=>∃ r p4 c5,v=.slice p4 r.length c5∧RepSl CA Z p4 c5 r∧Q r):=by
 refine Fun.ee func91 ntmps91 r (.M 1 r (.V 1 1 r (.L 9 r (.B (.M 1 r (.ln underlying158 r (.D 1 3593 r (.E (.lp D [10,9,0] [] r (λj E l (e,f)=>j ((3,vi e) :: (11,vi f) :: E) l) (ji rf [] r) ?_)))))))));rintro⟨e,f⟩ _ D;refine jq r λG b=>?_;have J:=b.u1 J;refine .F (.D 1 7689 r (.B (.A r D (λo D=>?_) λo D=>?_)))
 . refine .P 3593 r (.B (.E (.F ?_)));have⟨H,a3,k,D⟩:=D;obtain⟨_,_,_,K,p,_,_,rfl,_⟩:=J.2 _ _ k;refine .U underlying158 sizeOf22 K H k r (.x 0 P0 p r (.G 1 r (.V 3625 2 r (.ln DU r (.G 2 r (.V 3593 2 r (.L 1052169 r (.A r D (λq D=>?_) λq D=>?_))))))))
   . exact D.elim
   exact .P 3593 r (.C (.G 2 r (.H (je (A5 (e+(a3.length:Int)),A5 (f+1)) D b [] r))))
 refine .en 9 r (.M 1 r ?_);refine .AF call126 r (P3 (I:=G) D:) r r λ_ _ _ t u=>?_;obtain⟨_,_,_,rfl,rfl,D⟩:=u;have⟨x,J⟩:=t.u2 b J;refine .D 1 65 r (.B (.M 1 r (.ln underlying158 r (.D 1 234881088 r (.E (.lx D [26,25] [] r (λj E l (a,g)=>λc w=>∃ h i,j ⟨36,[],none⟩ (λZ=>True) ((6,.slice h a.length i) :: (27,vi g) :: E) (OwnSl CA 73 h i a :: l) c w) (λc w O W=>⟨_,_,jf rf tv [0] r O W⟩) ?_))))));rintro⟨a,g⟩ _ D c w ⟨h,i,_,d,_,a5,a6⟩;have⟨y,J⟩:=d.u2 x J;refine Cod.at a5 a6 (.F (.D 1 503316544 r (.B (.A r D (λA D=>?_) λA D=>?_))))
 . refine .P 234881088 r (.B (.E (.F ?_)));have⟨L,n,m,D⟩:=D;obtain⟨_,_,_,N,B,_,_,rfl,a4⟩:=J.2 _ _ m;refine .U underlying158 sizeOf22 N L m r (.x 0 P0 B r (.D 1 234881344 r (.C (.G 2 r ?_))));have⟨C,D⟩:=D;exact .ap (ys:=n) .z DU DU AcA r (.imm a4 r) C λ_ _=>.D 1 234881088 r (.C (.G 2 r (.H λc w O W=>⟨_,D,_,_,jf d tv [0] r O W⟩)))
 refine .en 64 r (.F (.D 2 4 r (.y .z λ_ a2 P=>?_)));have⟨F,_⟩:=a2.u2 y d;exact .r1 results91 r F ⟨a,_,_,r,P,D⟩
theorem jB {a0 Q} (d:LH a0 Q) :
  Fun prog 127 #[.agg (J7 a0).toArray] I [] (λ_ v l=>∃ r,v=.tuple #[.agg (J7 r.1).toArray,.bool r.2]∧l=[]∧Q r):=by
 refine Fun.ee func127 ntmps127 r (.F (.bx r λ_=>.al QC r λ_=>.G 1 r (.V 6 1 r (.I AM .p1 r (.G 1 r (.I AM .p1 r (.G 1 r (.I LY .p1 r (.bd QC AnD AnB r (.R D9 .z r (.D 1 12 r ?_)))))))))));exact .drop .p1 (.J (DZ r (.w OM D9 r .z r (.t r .n)) rf .n ⟨(({ From:=a0.To,To:=a0.From,W:=a0.W }:B2),true),r,r,d⟩))
theorem pM {a0 Q} (J:RepSl CA I p1 c2 a0.Edges) (D:NT a0 Q) :
  Fun prog 93 #[.agg #[vi a0.N,.slice p1 a0.Edges.length c2],.func (.func 127) #[] #[]] I [] (λZ v l=>∃ r p4 c5,v=.agg #[vi r.N,.slice p4 r.Edges.length c5]∧RepSl CA Z p4 c5 r.Edges∧l=[]∧Q r):=by
 refine Fun.ee func93 ntmps93 r (.F (.bx r λ_=>.al S6 r λ_=>.V 22 1 r (.L 54 r (.B (.M 1 r (.I P0 .p1 r (.ln DU r (.D 1 14390 r (.E (.own0 CA 73 (.lx D [12,11,4,2,1] [2,1] r (λj E l (a,b)=>λc w=>∃ e f,j ⟨34,[],none⟩ (λZ=>True) ((5,.slice e a.length f) :: (13,vi b) :: E) (OwnSl CA 73 e f a :: l) c w) (λc w O W=>⟨_,_,jf rf tv [0,1,0] r O W⟩) ?_)))))))))));rintro⟨a,b⟩ _ D c w ⟨e,f,F,d,_,a4,a5⟩;have J:=d.u1 J;refine Cod.at a4 a5 (.F (.D 1 30774 r (.B (.A r D (λk D=>?_) λk D=>?_))))
 . refine .P 14390 r (.B (.E (.F ?_)));have⟨G,_,m,_,_,H,o,D⟩:=J.ix D;refine .U DU D9 H G m r (.ldW OM D9 o r r r r (.al QC r λ_=>?_));refine .R D9 .z r (.V 14518 1 r (.S OM D9 .z r ?_));refine .cS (.c call127 r r) .n r (jB (I:=F) D:) λ_ _ _ q s=>?_;obtain⟨i,rfl,rfl,D⟩:=s;have⟨h,J⟩:=q.u2 d J;refine .rn 4 r (.G 3 r (.al QC r λ_=>.R D9 .z r (.D 1 15158 r (.drop .p1 (.F (.D 1 8403254 r (.A r D (λt D=>?_) λt D=>?_)))))))
   . refine .C (.G 1 r (.S OM D9 .z r (.bs 1 DU D9 QC r λ_=>?_)));have⟨u,D⟩:=D;exact .ap (ys:=[i.1]) .p2 DU DU AcA r (.box .z (.one r) r) u λ_ _=>.D 1 14390 r (.drop .p1 (.drop .p1 (.C (.G 2 r (.H λc w O W=>⟨_,D,_,_,jf h tv WZ r O W⟩)))))
   exact .P 14390 r (.drop .z (.C (.G 2 r (.H λc w O W=>⟨_,D,_,_,jf h tv WZ r O W⟩))))
 refine .en 54 r (.M 1 r (.I AM .p1 r (.G 1 r (.bd S6 iN Ac9 r (.y .z λa3 x g=>?_)))));have⟨y,J⟩:=x.u2 d J;refine .ca call44 r (QV (I:=a3) (a0:=({ N:=a0.N,Edges:=a }:Graph)) g D:) λ_ _ B C=>?_;obtain⟨K,_,_,rfl,L,D⟩:=C;have⟨a2,J,g⟩:=B.u3 y J g;exact .R DC .p1 r (.L 18 r (.drop .z (.J (DZ r (.w GA DC r .z r .n) a2 .n ⟨K,_,_,r,L,r,D⟩))))
theorem mZ {a0 Q} (h:RepSl CA I p1 c2 a0.Edges) (D:P7 a0 Q) :
  B3 prog 92 [.agg #[vi a0.N,.slice p1 a0.Edges.length c2]] I (o1_ Q):=by
 refine Fun.ee func92 ntmps92 r ?_;refine .F (.bx r λ_=>.al S6 r λ_=>?_);refine .ns 6 r (.S GA DC .p1 r (.cS (.f call93 r) .n r (pM h D:) λ_ _ _ a c=>?_));obtain⟨d,_,_,rfl,e,rfl,D⟩:=c;have h:=a.u1 h;exact .rn 2 r (.R DC .z r (.L 4 r (.drop .p1 (.J (B5 r (.w GA DC r .z r .n) a ⟨d,_,_,r,e,D⟩)))))
theorem Z9 {a0 Q} (D:RepSl CA I p1 c2 a0.Edges) (O:P8 a0 Q) :
  B3 prog 59 [.agg #[vi a0.N,.slice p1 a0.Edges.length c2]] I (o1_ Q):=by
 refine Fun.ee func59 ntmps59 r ?_;refine .F (.bx r λ_=>.al S6 r λ_=>?_);refine .L 6 r (.B (.dr nl9 11 (.K 1 r (.X AM 1 r (.K 1 r (.X P0 1 r (.h r (.S GA DC .p1 r .mk) (.Y r (.ca call92 r (mZ D O:) λ_ _ c g=>?_)))))))));obtain⟨e,v,x,rfl,a,O⟩:=g;have D:=c.u1 D;refine .q 2 r (.W r (.I P0 .p1 r .mk) (.j 1 r r (.W r (.I AM .p1 r .mk) (.j 1 r r tv)))) (.h r (.field1 iN r P0 r r r r .mk) (.Y r (.bs 2 underlying158 sizeOf22 zeroValue22 r λ_=>.q 3 r (.W r (.I AM .p2 r .mk) (.j 1 r r tv)) (.Y r ?_))));refine .pubB (El:=(Y7 CA)) (ys:=([a0.Edges,e.Edges]:List (List B2))) (k:=2) .z (RepCs.cons (cs:=[.slice p1 a0.Edges.length c2]) ⟨_,_,r,D⟩ (RepCs.cons (cs:=[.slice v e.Edges.length x]) ⟨_,_,r,a⟩ .nil)) r λ_ i b=>?_;have⟨j,D,a⟩:=i.u3 c D a;refine .ca call91 r (NL b O:) λ_ y m o=>?_;obtain⟨A,_,_,rfl,d,O⟩:=o;have⟨p,D,a,b⟩:=m.u4 j D a b;refine .q 2 r (.W r (.I AM .p1 r .mk) (.j 1 r r tv)) (.h r (.bd S6 iN Ac9 r .mk) (.Y r ?_));refine .ca call44 r (QV (I:=y) (a0:=({ N:=a0.N,Edges:=A }:Graph)) d O:) λ_ _ s t=>?_;obtain⟨B,_,_,rfl,C,O⟩:=t;have⟨u,D,a,b,d⟩:=s.u5 p D a b d;exact .q 2 r tv (.e2 11 (.R DC .z r (.L 4 r (.drop .p1 (.J (B5 r (.w GA DC r .z r .n) u ⟨B,_,_,r,C,O⟩))))))
theorem cK {a0 Q} (d:MP a0 Q) :
  Fun prog 94 #[.agg (J7 a0).toArray] I [] (λ_ v l=>∃ r,v=.tuple #[.agg (J7 r.1).toArray,.bool r.2]∧l=[]∧Q r):=by
 refine Fun.ee func94 ntmps94 r (.F (.bx r λ_=>.al QC r λ_=>.D 1 6 r (.B (.dr wC 7 (.h r (.S OM D9 .p1 r .mk) (.K 1 r (.X AM 1 r (.K 1 r (.X AM 1 r (.K 1 r (.Y r ?_)))))))))));exact .R D9 .z r (.P 2 r r r (.j 1 r r (.W r (.I AM .p1 r .mk) (.j 1 r r (.W r (.I AM .p1 r .mk) (.j 1 r r tv))))) (.e2 7 (.D 1 12 r (.drop .p1 (.J (DZ r (.w OM D9 r .z r (.t r .n)) rf .n ⟨(a0,a0.From != a0.To),r,r,d⟩))))))
theorem pN {a0 Q} (J:RepSl CA I p1 c2 a0.Edges) (D:TJ a0 Q) :
  Fun prog 93 #[.agg #[vi a0.N,.slice p1 a0.Edges.length c2],.func (.func 94) #[] #[]] I [] (λZ v l=>∃ r p4 c5,v=.agg #[vi r.N,.slice p4 r.Edges.length c5]∧RepSl CA Z p4 c5 r.Edges∧l=[]∧Q r):=by
 refine Fun.ee func93 ntmps93 r (.F (.bx r λ_=>.al S6 r λ_=>.V 22 1 r (.L 54 r (.B (.M 1 r (.I P0 .p1 r (.ln DU r (.D 1 14390 r (.E (.own0 CA 73 (.lx D [12,11,4,2,1] [2,1] r (λj E l (a,b)=>λc w=>∃ e f,j ⟨34,[],none⟩ (λZ=>True) ((5,.slice e a.length f) :: (13,vi b) :: E) (OwnSl CA 73 e f a :: l) c w) (λc w O W=>⟨_,_,jf rf tv [0,1,0] r O W⟩) ?_)))))))))));rintro⟨a,b⟩ _ D c w ⟨e,f,F,d,_,a4,a5⟩;have J:=d.u1 J;refine Cod.at a4 a5 (.F (.D 1 30774 r (.B (.A r D (λk D=>?_) λk D=>?_))))
 . refine .P 14390 r (.B (.E (.F ?_)));have⟨G,_,m,_,_,H,o,D⟩:=J.ix D;refine .U DU D9 H G m r (.ldW OM D9 o r r r r (.al QC r λ_=>?_));refine .R D9 .z r (.V 14518 1 r (.S OM D9 .z r ?_));refine .cS (.c call94 r r) .n r (cK (I:=F) D:) λ_ _ _ q s=>?_;obtain⟨i,rfl,rfl,D⟩:=s;have⟨h,J⟩:=q.u2 d J;refine .rn 4 r (.G 3 r (.al QC r λ_=>.R D9 .z r (.D 1 15158 r (.drop .p1 (.F (.D 1 8403254 r (.A r D (λt D=>?_) λt D=>?_)))))))
   . refine .C (.G 1 r (.S OM D9 .z r (.bs 1 DU D9 QC r λ_=>?_)));have⟨u,D⟩:=D;exact .ap (ys:=[i.1]) .p2 DU DU AcA r (.box .z (.one r) r) u λ_ _=>.D 1 14390 r (.drop .p1 (.drop .p1 (.C (.G 2 r (.H λc w O W=>⟨_,D,_,_,jf h tv WZ r O W⟩)))))
   exact .P 14390 r (.drop .z (.C (.G 2 r (.H λc w O W=>⟨_,D,_,_,jf h tv WZ r O W⟩))))
 refine .en 54 r (.M 1 r (.I AM .p1 r (.G 1 r (.bd S6 iN Ac9 r (.y .z λa3 x g=>?_)))));have⟨y,J⟩:=x.u2 d J;refine .ca call44 r (QV (I:=a3) (a0:=({ N:=a0.N,Edges:=a }:Graph)) g D:) λ_ _ B C=>?_;obtain⟨K,_,_,rfl,L,D⟩:=C;have⟨a2,J,g⟩:=B.u3 y J g;exact .R DC .p1 r (.L 18 r (.drop .z (.J (DZ r (.w GA DC r .z r .n) a2 .n ⟨K,_,_,r,L,r,D⟩))))
theorem cL {a0 Q} (h:RepSl CA I p1 c2 a0.Edges) (D:NU a0 Q) :
  B3 prog 60 [.agg #[vi a0.N,.slice p1 a0.Edges.length c2]] I (o1_ Q):=by
 refine Fun.ee func60 ntmps60 r ?_;refine .F (.bx r λ_=>.al S6 r λ_=>?_);refine .ns 6 r (.S GA DC .p1 r (.cS (.f call93 r) .n r (pN h D:) λ_ _ _ a c=>?_));obtain⟨d,_,_,rfl,e,rfl,D⟩:=c;have h:=a.u1 h;exact .rn 2 r (.R DC .z r (.L 4 r (.drop .p1 (.J (B5 r (.w GA DC r .z r .n) a ⟨d,_,_,r,e,D⟩)))))
theorem M9 {a0 a1 Q} (d:IW a0 a1 Q) :
  B3 prog 212 [vi a0,vi a1] I (λ_=>bV Q):=by
 refine Fun.ee func212 ntmps212 r (.M 1 r (.V 3 3 r (.T d [6,7] r (λa d=>?_) λa d=>?_)))
 . exact .D 5 16 r (.r0 results212 r ⟨(decide (a0<=a1)),r,d⟩)
 exact .D 5 16 r (.r0 results212 r ⟨false,r,d⟩)
theorem jC {a0 Q} (d:P9 a0 Q) :
  Fun prog 214 #[vi a0] I [] (λ_ v l=>∃ r,v=.bool r∧l=[]∧Q r):=by
 refine Fun.ee func214 ntmps214 r (.M 1 r (.V 1 3 r (.T d [4,5] r (λa d=>?_) λa d=>?_)))
 . exact .D 4 4 r (.q1 results214 rf [] r ⟨true,r,r,d⟩)
 exact .D 4 4 r (.q1 results214 rf [] r ⟨(decide (2147483647<a0)),r,r,d⟩)
theorem MW {a0 Q} (J:RepSl B0 I p1 c2 a0) (h:EV a0 Q) :
  Fun prog 260 #[.slice p1 a0.length c2,.func (.func 214) #[] #[]] I [] (λ_ v l=>∃ r,v=vi r∧l=[]∧Q r):=by
 refine Fun.ee func260 ntmps260 r (.F (.D 1 3 r (.B (.M 1 r (.ln DF r (.D 1 387 r (.E (.lp h xX [] r (λj E l d=>j ((8,vi d) :: E) l) (ji rf [] r) ?_))))))));refine λd _ h=>jq r λp a=>?_;have J:=a.u1 J;refine .F (.D 1 899 r (.B (.A r h (λf h=>?_) λf h=>?_)))
 . refine .P 387 r (.B (.E (.M 2 r (.V 419 3 r ?_))));have⟨q,_,g,_,_,s,b,h⟩:=J.ix h;refine .U DF XP s q g r (.x 0 LY b r ?_);refine .cS (.c call214 r r) .n r (jC (I:=p) h:) λ_ _ _ i k=>?_;obtain⟨_,rfl,rfl,h⟩:=k;have⟨e,J,b⟩:=i.u3 a J b;refine .rn 0 r (.L 65955 r (.A r h (λm h=>?_) λm h=>?_))
   . exact .F (.D 2 18 r (.q1 results260 e [] r ⟨d,r,r,h⟩))
   exact .P 387 r (.C (.G 2 r (.H (je (A5 (d+1)) h e [] r))))
 exact .en 2 r (.F (.D 1 18 r (.q1 results260 a [] r ⟨(-1),r,r,h⟩)))
theorem LS {a0 Q} (h:RepSl B0 I p1 c2 a0) (J:BI a0 Q) :
  Fun prog 213 #[.slice p1 a0.length c2,.func (.func 214) #[] #[]] I [] (λ_ v l=>∃ r,v=.bool r∧l=[]∧Q r):=by
 refine Fun.ee func213 ntmps213 r ?_;refine .M 1 r (.V 3 2 r ?_);refine .cS (.f call260 r) .n r (MW h J:) λ_ _ _ a c=>?_;obtain⟨d,rfl,rfl,J⟩:=c;have h:=a.u1 h;exact .rn 0 r (.D 2 18 r (.q1 results213 a [] r ⟨(decide (0<=d)),r,r,J⟩))
theorem ZA {a0 Q} (U:RepSl B0 I p1 c2 a0.Draws) (J:PA a0 Q) :
  B3 prog 164 [.agg (LU a0 p1 c2)] I (λ_=>Y6 Q):=by
 refine Fun.ee func164 ntmps164 r (.F (.bx r λ_=>.D 1 2 r (.B (.M 1 r (.I fF .z r (.G 2 r (.T J [5,6] r (λu J=>?_) λu J=>?_)))))))
 . exact .D 4 1026 r (.Q r r (.F (.D 1 4 r (.drop .z (.r0 results164 r ⟨8,r,J⟩)))))
 refine .G 1 r (.O r (.I fF .z r (.D 2 1026 r (.A r J (λv J=>?_) λv J=>?_))))
 . exact .F (.D 1 4 r (.drop .z (.r0 results164 r ⟨8,r,J⟩)))
 refine .P 2 r (.B (.M 1 r (.I AM .z r (.v call212 (M9 (I:=I) J:) r λ_ J=>.D 1 16386 r (.A r J (λx J=>?_) λx J=>?_)))))
 . exact .F (.D 1 4 r (.drop .z (.r0 results164 r ⟨3,r,J⟩)))
 refine .P 2 r (.B (.jn J [1] [0] r (λj E l _=>j E l) (λ_ J=>?_) ?_))
 . refine .M 1 r (.I fF .z r (.L 65538 r (.E (.B (.jn J [1] [0] r (λj E l _=>j E l) (λ_ J=>?_) ?_)))))
   . refine .E (.B (.E (.B (.B (.F (.D 2 196610 r (.A r J (λe J=>?_) λe J=>?_)))))))
     . refine .en 2 r (.M 1 r (.I AM .z r (.v call212 (M9 (I:=I) J:) r λ_ J=>.D 1 33554434 r (.A r J (λh J=>?_) λh J=>?_))))
       . exact .F (.D 1 4 r (.drop .z (.r0 results164 r ⟨3,r,J⟩)))
       exact .AC (je () J rf [0] r)
     refine .P 65538 r (.B (.F (.D 2 589826 r (.A r J (λc J=>?_) λc J=>?_))))
     . exact .P 524290 r (.Q r c (.exit (je () J rf [0] r)))
     refine .C (.D 2 524290 r (.A r J (λi J=>?_) λi J=>?_))
     . exact .exit (je () J rf [0] r)
     exact .P 2 r (.exit (je () J rf [0] r))
   refine λ_ J=>jq r λy a=>?_;have U:=a.u1 U;refine .B (.M 1 r (.I AM .z r (.G 1 r (.I AM .z r (.G 1 r (.v call212 (M9 (I:=y) J:) r λ_ J=>.D 1 4294967298 r (.A r J (λm J=>?_) λm J=>?_)))))))
   . exact .F (.D 1 4 r (.drop .z (.r1 results164 r a ⟨3,r,J⟩)))
   exact .P 2 r (.exit (je () J a [0] r))
 refine λ_ J=>jq r λ_ b=>?_;have U:=b.u1 U;refine .B (.E (.M 1 r (.I FX .z r (.ln DF r (.D 2 8589934594 r (.A r J (λo J=>?_) λo J=>?_))))))
 . exact .F (.D 1 4 r (.drop .z (.r1 results164 r b ⟨5,r,J⟩)))
 refine .M 1 r (.I FX .z r ?_);refine .cS (.f call213 r) .n r (LS U J:) λ_ _ _ q s=>?_;obtain⟨_,rfl,rfl,J⟩:=s;have⟨d,U⟩:=q.u2 b U;refine .rn 1 r (.D 1 274877906944 r (.drop .z (.A r J (λt J=>?_) λt J=>?_)))
 . exact .F (.D 1 4 r (.r1 results164 r d ⟨7,r,J⟩))
 exact .P 0 r (.F (.D 1 4 r (.r1 results164 r d ⟨0,r,J⟩)))
theorem fK {a0 Q} (d:NV a0 Q) :
  Fun prog 215 #[.agg (J7 a0).toArray] I [] (λ_ v l=>∃ r,v=.tuple #[.agg (J7 r.1).toArray,.bool r.2]∧l=[]∧Q r):=by
 exact Fun.ee func215 ntmps215 r (.F (.bx r λ_=>.al QC r λ_=>.G 1 r (.V 6 1 r (.s1 XP .p1 r (.ns 6 r (.S OM D9 .p1 r (.R D9 .z r (.D 1 12 r (.drop .p1 (.J (DZ r (.w OM D9 r .z r (.t r .n)) rf .n ⟨(({ a0 with W:=1 }:B2),true),r,r,d⟩)))))))))))
theorem pP {a0 Q} (J:RepSl CA I p1 c2 a0.Edges) (D:TK a0 Q) :
  Fun prog 93 #[.agg #[vi a0.N,.slice p1 a0.Edges.length c2],.func (.func 215) #[] #[]] I [] (λZ v l=>∃ r p4 c5,v=.agg #[vi r.N,.slice p4 r.Edges.length c5]∧RepSl CA Z p4 c5 r.Edges∧l=[]∧Q r):=by
 refine Fun.ee func93 ntmps93 r (.F (.bx r λ_=>.al S6 r λ_=>.V 22 1 r (.L 54 r (.B (.M 1 r (.I P0 .p1 r (.ln DU r (.D 1 14390 r (.E (.own0 CA 73 (.lx D [12,11,4,2,1] [2,1] r (λj E l (a,b)=>λc w=>∃ e f,j ⟨34,[],none⟩ (λZ=>True) ((5,.slice e a.length f) :: (13,vi b) :: E) (OwnSl CA 73 e f a :: l) c w) (λc w O W=>⟨_,_,jf rf tv [0,1,0] r O W⟩) ?_)))))))))));rintro⟨a,b⟩ _ D c w ⟨e,f,F,d,_,a4,a5⟩;have J:=d.u1 J;refine Cod.at a4 a5 (.F (.D 1 30774 r (.B (.A r D (λk D=>?_) λk D=>?_))))
 . refine .P 14390 r (.B (.E (.F ?_)));have⟨G,_,m,_,_,H,o,D⟩:=J.ix D;refine .U DU D9 H G m r (.ldW OM D9 o r r r r (.al QC r λ_=>?_));refine .R D9 .z r (.V 14518 1 r (.S OM D9 .z r ?_));refine .cS (.c call215 r r) .n r (fK (I:=F) D:) λ_ _ _ q s=>?_;obtain⟨i,rfl,rfl,D⟩:=s;have⟨h,J⟩:=q.u2 d J;refine .rn 4 r (.G 3 r (.al QC r λ_=>.R D9 .z r (.D 1 15158 r (.drop .p1 (.F (.D 1 8403254 r (.A r D (λt D=>?_) λt D=>?_)))))))
   . refine .C (.G 1 r (.S OM D9 .z r (.bs 1 DU D9 QC r λ_=>?_)));have⟨u,D⟩:=D;exact .ap (ys:=[i.1]) .p2 DU DU AcA r (.box .z (.one r) r) u λ_ _=>.D 1 14390 r (.drop .p1 (.drop .p1 (.C (.G 2 r (.H λc w O W=>⟨_,D,_,_,jf h tv WZ r O W⟩)))))
   exact .P 14390 r (.drop .z (.C (.G 2 r (.H λc w O W=>⟨_,D,_,_,jf h tv WZ r O W⟩))))
 refine .en 54 r (.M 1 r (.I AM .p1 r (.G 1 r (.bd S6 iN Ac9 r (.y .z λa3 x g=>?_)))));have⟨y,J⟩:=x.u2 d J;refine .ca call44 r (QV (I:=a3) (a0:=({ N:=a0.N,Edges:=a }:Graph)) g D:) λ_ _ B C=>?_;obtain⟨K,_,_,rfl,L,D⟩:=C;have⟨a2,J,g⟩:=B.u3 y J g;exact .R DC .p1 r (.L 18 r (.drop .z (.J (DZ r (.w GA DC r .z r .n) a2 .n ⟨K,_,_,r,L,r,D⟩))))
theorem WO {a0 Q} (h:RepSl CA I p1 c2 a0.Edges) (D:N2 a0 Q) :
  B3 prog 165 [.agg #[vi a0.N,.slice p1 a0.Edges.length c2]] I (o1_ Q):=by
 refine Fun.ee func165 ntmps165 r ?_;refine .F (.bx r λ_=>.al S6 r λ_=>?_);refine .ns 6 r (.S GA DC .p1 r (.cS (.f call93 r) .n r (pP h D:) λ_ _ _ a c=>?_));obtain⟨d,_,_,rfl,e,rfl,D⟩:=c;have h:=a.u1 h;exact .rn 2 r (.R DC .z r (.L 4 r (.drop .p1 (.J (B5 r (.w GA DC r .z r .n) a ⟨d,_,_,r,e,D⟩)))))
theorem qZ {a0 a1 Q} (d:X3 a0 a1 Q) :
  Ab1 prog 261 [vi a0,vi a1] I (λ_ v l=>∃ r p1 c2 p4 c5 p7 c8,v=.agg #[vi r.Rows,vi r.Cols,.slice p1 r.Start.length c2,.slice p4 r.Col.length c5,.slice p7 r.Val.length c8]∧l=[OwnSl B0 3 p1 c2 r.Start,OwnSl B0 3 p4 c5 r.Col,OwnSl B0 2 p7 c8 r.Val]∧Q r):=by
 refine Fun.ee func261 ntmps261 r (.F (.al ON r λ_=>.V 19 4 r ?_));have⟨a,b,d⟩:=d;exact .make (El:=B0) (zv:=0) 8 BE IN3 r r r r r r a b r r r λ_=>.bd ON qS uZ r (.R BL .p1 r (.L 16 r (.own0 B0 3 (.own0 B0 2 (.J (DZ r (.w CW BL r .p3 r .n) rf (.o nl5 r) ⟨({ Rows:=a0,Cols:=a1,Start:=(List.replicate (A5 (a0+1)).toNat 0),Col:=([]:List Int),Val:=([]:List Int) }:Rows),_,_,_,_,_,_,r,r,d⟩))))))
theorem cM {a0 a1 a2 Q} (U:RepSl J8 I p1 c2 a2) (D:T6 a0 a1 a2 Q) :
  B3 prog 216 [vi a0,vi a1,.slice p1 a2.length c2] I (λV v=>∃ r d7,v=.agg (KX r d7)∧nN V d7 r∧Q r):=by
 refine Fun.ee func216 ntmps216 r ?_;refine .F (.al ON r λ_=>?_);refine .V 71 2 r (.AF call261 r (qZ (I:=I) D:) r r λ_ _ _ S c4=>?_);obtain⟨d,_,_,_,_,_,_,rfl,rfl,D⟩:=c4;have U:=S.u1 U;refine .al ON r λN=>.R BL .z r (.L 197 r (.B (.M 1 r (.ln NA r (.D 1 114881 r (.E (.lx D [15,14,7,6,0] [4] r (λj E l (p,a,b,d2)=>λc w=>∃ F t e f g i,j ⟨63,[],none⟩ (λV=>True) ((16,vi d2) :: E) (pc N #[vi d.Rows,vi d.Cols,.slice F p.length t,.slice e a.length f,.slice g b.length i] 187 :: OwnSl B0 3 F t p :: OwnSl B0 3 e f a :: OwnSl B0 2 g i b :: l) c w) (λc w J O=>⟨_,_,_,_,_,_,jf rf tv nl8 r J O⟩) ?_)))))));rintro⟨p,a,b,d2⟩ _ D c w ⟨F,t,e,f,g,i,_,u,_,W,Z⟩;have⟨d9,U⟩:=u.u2 S U;refine Cod.at W Z (.F (.D 1 245953 r (.B (.A r D (λa3 D=>?_) λa3 D=>?_))))
 . refine .P 114881 r (.B (.E (.F ?_)));have⟨c5,k,a4,_,_,c6,a5,D⟩:=U.ix D;refine .U NA SB c6 c5 a4 r (.ldW isAgg270 SB a5 r r r r (.al bY r λ_=>.R SB .z r (.V 115393 1 r (.I EJ .p1 r (.G 1 r (.I AM .z r (.G 1 r ?_)))))));have⟨T,G,x,D⟩:=D;refine .AG .p2 (CS x) λc7 c8=>?_;cases c8;refine .u BE D3 r r T (BG x T) r r (.lo1 (j:=0) AM .p2 x r r r r r (.G 1 r ?_));have⟨d5,_,d4,D⟩:=D;refine .u BE D3 r r d5 (BG d4 d5) r r (.stO1 (j:=0) (v':=(A5 (G+1))) D3 .p2 d4 r r r (.o r) r (.rl .p2 [21] r (by simp only[QX]) (.reat .p1 (B:=pc N #[vi d.Rows,vi d.Cols,.slice (some ⟨c7,0,none⟩) (p.set ((A5 (k.Row+1)).toNat) (A5 (G+1))).length t,.slice e a.length f,.slice g b.length i] 187) (by simp only[QX]) (.V 115393 1 r (.I EJ .p1 r (.G 1 r (.I AM .z r (.bs 1 BE D3 jX r λ_=>?_))))))));have⟨a6,D⟩:=D;refine .ap (ys:=[k.Col]) .p4 BE BE IN3 r (.box .z (.one r) r) a6 λ_ _=>.G 1 r (.s1 aB .p3 r (.L 115393 r (.drop .p1 (.C (.G 1 r (.I FX .p2 r (.G 1 r (.I LY .p1 r (.bs 1 DF XP zv2 r λ_=>?_)))))))));have⟨a7,D⟩:=D;exact .ap (ys:=[k.Val]) .p5 DF DF IN2 r (.box .z (.one r) r) a7 λ_ _=>.G 1 r (.s1 sizeOf27 .p4 r (.L 114881 r (.drop .p1 (.drop .p2 (.C (.G 2 r (.H λc w J O=>⟨_,D,_,_,_,_,_,_,jf u tv [2,2,1,0,0] r J O⟩)))))))
 refine .en 193 r (.B (.F (.D 2 52776558133440 r (.E (.lx D [44,7,6] [4,2,2] r (λj E l (m,q)=>λc w=>∃ H y,j ⟨63,[],none⟩ (λV=>True) ((45,vi q) :: E) (pc N #[vi d.Rows,vi d.Cols,.slice H m.length y,.slice e a.length f,.slice g b.length i] 187 :: OwnSl B0 3 H y m :: l) c w) (λc w J O=>⟨_,_,jf rf tv [0,0,2,0,0] r J O⟩) ?_)))));rintro⟨m,q⟩ _ D c w ⟨H,y,_,A,_,W,Z⟩;have⟨a8,a9⟩:=A.u2 d9 u;refine Cod.at W Z (.F (.D 1 123145302311104 r (.B (.A r D (λb0 D=>?_) λb0 D=>?_))))
 . refine .P 52776558133440 r (.B (.E (.F (.D 2 52776558134464 r (.ownF .p1 λd8=>.ownF .p3 λ_=>.ownF .p4 λ_=>.dr Aj2 12 (.K 1 r (.X EJ 0 r (.K 2 r ?_))))))));have⟨d6,d3,C,D⟩:=D;have⟨c9,d0⟩:=d8 (CS C);cases d0;refine .h r (.u BE D3 r r d6 (BG C d6) r r .mk) (.h r (.lo1 (j:=0) AM .p1 C r r r r r .mk) (.K 1 r (.X EJ 0 r (.K 1 r ?_))));have⟨X,K,P,D⟩:=D;refine .h r (.u BE D3 r r X (BG P X) r r .mk) (.h r (.lo1 (j:=0) AM .p1 P r r r r r .mk) (.K 1 r (.e2 12 ?_)));have⟨Y,_,R,D⟩:=D;exact .u BE D3 r r Y (BG R Y) r r (.stO1 (j:=0) (v':=(A5 (d3+K))) D3 .p1 R r r r (.o r) r (.rl .p1 [49,55] r (by simp only[QX]) (.reat .z (B:=pc N #[vi d.Rows,vi d.Cols,.slice (some ⟨c9,0,none⟩) (m.set ((A5 (q+1)).toNat) (A5 (d3+K))).length y,.slice e a.length f,.slice g b.length i] 187) (by simp only[QX]) (.L 52776558133440 r (.C (.G 2 r (.H λc w J O=>⟨_,D,_,_,jf A tv nl8 r J O⟩)))))))
 refine .en 192 r (.F (.S CW BL .z r (.R BL .p2 r (.L 64 r (.drop .z (.y .z λ_ b1 s=>?_))))));have⟨b2,b3,b4⟩:=b1.u3 a8 a9 A;refine .y .p1 λ_ b5 L=>?_;have⟨b6,b7,b9,s⟩:=b5.u4 b2 b3 b4 s;refine .y .p1 λ_ c0 d1=>?_;have⟨c1,_,_,s,L⟩:=c0.u5 b6 b7 b9 s L;exact .J (B5 r (.w CW BL r .z r .n) c1 ⟨({ d with Start:=m,Col:=a,Val:=b }:Rows),((_,_),(_,_),(_,_)),r,⟨s,L,d1⟩,D⟩)
theorem W4 {a0 Q} (O:RepSl CA I p1 c2 a0.Edges) (D:PB a0 Q) :
  B3 prog 166 [.agg #[vi a0.N,.slice p1 a0.Edges.length c2]] I (λI_ v=>∃ r a2,v=.tuple #[.agg (KX r.1 a2),vi r.2]∧nN I_ a2 r.1∧Q r):=by
 refine Fun.ee func166 ntmps166 r (.F (.bx r λ_=>.al ON r λ_=>.D 1 6 r (.B (.F (.S GA DC .p1 r (.v call26 (WN O D:) r λT D=>.G 1 r (.V 22 2 r (.L 2070 r (.A r D (λH D=>?_) λH D=>?_)))))))))
 . exact .F (.bd ON qS uZ r (.G 1 r (.R BL .z r (.D 1 12 r (.drop .p1 (.J (B5 r (.w CW BL r .z r (.t r .n)) rf ⟨(RZ,T),((_,_),(_,_),(_,_)),r,⟨(.nil _ _ _),(.nil _ _ _),(.nil _ _ _)⟩,D⟩)))))))
 refine .P 6 r (.F (.D 1 38 r (.B (.F (.S GA DC .p1 r ?_)))));refine .ca call92 r (mZ O D:) λ_ _ i K=>?_;obtain⟨_,_,_,rfl,k,D⟩:=K;have O:=i.u1 O;refine .field1 iN r P0 r r r r (.ln DU r (.D 1 458790 r (.E (.own0 J8 270 (.lx D [17,16,2,1] [2,1] r (λj E l (b,e)=>λc w=>∃ f g,j ⟨39,[],none⟩ (λI_=>True) ((5,.slice f b.length g) :: (18,vi e) :: E) (OwnSl J8 270 f g b :: l) c w) (λc w Z hs=>⟨_,_,jf rf tv [0,1,0] r Z hs⟩) ?_)))));rintro⟨b,e⟩ _ D c w ⟨f,g,_,d,_,a5,a6⟩;have⟨m,O,k⟩:=d.u3 i O k;refine Cod.at a5 a6 (.F (.D 1 983078 r (.B (.A r D (λo D=>?_) λo D=>?_))))
 . refine .P 458790 r (.B (.E (.F ?_)));have⟨L,a,p,_,_,a4,q,D⟩:=k.ix D;refine .U DU D9 a4 L p r (.ldW OM D9 q r r r r (.al QC r λ_=>.R D9 .z r (.L 458918 r (.C (.G 2 r (.I AM .z r (.G 1 r (.I AM .z r (.G 1 r (.I LY .z r (.bd bY underlying270 AlH r (.bs 1 NA SB bY r λ_=>?_))))))))))));have⟨s,D⟩:=D;exact .ap (ys:=[({ Row:=a.From,Col:=a.To,Val:=a.W }:A2)]) .p2 NA NA AlG r (.box .z (.one r) r) s λ_ _=>.D 1 458790 r (.drop .p1 (.drop .p1 (.C (.G 2 r (.H λc w Z hs=>⟨_,D,_,_,jf d tv WZ r Z hs⟩)))))
 refine .en 38 r (.M 1 r (.I AM .p1 r (.G 1 r (.I AM .p1 r (.G 1 r (.y .z λ_ u h=>?_))))));have⟨x,y,O⟩:=u.u3 m d O;refine .ca call216 r (cM h D:) λ_ _ B C=>?_;obtain⟨P,a3,rfl,R,D⟩:=C;have⟨F,_,O,h⟩:=B.u4 x y O h;exact .R BL .p1 r (.D 1 12 r (.drop .z (.J (B5 r (.w CW BL r .z r (.t r .n)) F ⟨(P,0),a3,r,R,D⟩))))
theorem gJ {a0 a1 Q} (R3:RepSl B0 I p1 c2 a0.Draws) (V:RepSl CA I p4 c5 a1.Edges) (U:RB a0 a1 Q) :
  B3 prog 122 [.agg (LU a0 p1 c2),.agg #[vi a1.N,.slice p4 a1.Edges.length c5]] I (λI_ v=>∃ r Z,v=.tuple #[.agg (KX r.1 Z),vi r.2]∧nN I_ Z r.1∧Q r):=by
 refine Fun.ee func122 ntmps122 r (.F (.bx r λ_=>.bx r λ_=>.al ON r λ_=>.D 1 28 r (.B (.F (.S QB QA .p2 r (.v call164 (ZA R3 U:) r λo U=>.G 1 r (.V 92 2 r (.L 2140 r (.A r U (λY U=>?_) λY U=>?_)))))))))
 . exact .F (.bd ON qS uZ r (.G 1 r (.R BL .z r (.D 1 48 r (.drop .p1 (.drop .p1 (.J (B5 r (.w CW BL r .z r (.t r .n)) rf ⟨(RZ,o),((_,_),(_,_),(_,_)),r,⟨(.nil _ _ _),(.nil _ _ _),(.nil _ _ _)⟩,U⟩))))))))
 refine .P 28 r (.B (.M 1 r (.I AM .p1 r (.G 1 r (.I AM .p2 r (.D 1 262172 r (.A r U (λa7 U=>?_) λa7 U=>?_)))))))
 . exact .F (.bd ON qS uZ r (.R BL .z r (.D 1 48 r (.drop .p1 (.drop .p1 (.J (B5 r (.w CW BL r .z r (.t r .n)) rf ⟨(RZ,4),((_,_),(_,_),(_,_)),r,⟨(.nil _ _ _),(.nil _ _ _),(.nil _ _ _)⟩,U⟩)))))))
 refine .P 28 r (.B (.F (.S GA DC .p1 r (.v call26 (WN V U:) r λs U=>.G 1 r (.V 156 2 r (.L 8388764 r (.A r U (λa3 U=>?_) λa3 U=>?_)))))))
 . exact .F (.bd ON qS uZ r (.G 1 r (.R BL .z r (.D 1 48 r (.drop .p1 (.drop .p1 (.J (B5 r (.w CW BL r .z r (.t r .n)) rf ⟨(RZ,s),((_,_),(_,_),(_,_)),r,⟨(.nil _ _ _),(.nil _ _ _),(.nil _ _ _)⟩,U⟩))))))))
 refine .P 28 r (.B (.M 1 r (.I fF .p2 r (.L 134217752 r (.drop .p2 (.E (.B (.E (.B ?_)))))))));refine .E (.B (.E (.B (.B (.F (.D 2 402653208 r (.A r U (λa4 U=>?_) λa4 U=>?_)))))))
 . refine .en 24 r (.C (.S GA DC .p1 r ?_));refine .ca call60 r (cL V U:) λ_ _ g a6=>?_;obtain⟨_,_,_,rfl,h,U⟩:=a6;have V:=g.u1 V;refine .R DC .p1 r (.L 24 r (.C (.S GA DC .p1 r ?_)));refine .ca call59 r (Z9 h U:) λ_ _ a8 a9=>?_;obtain⟨_,_,_,rfl,i,U⟩:=a9;have⟨x,h⟩:=a8.u2 g h;refine .R DC .p1 r (.ns 24 r (.S GA DC .p1 r ?_));refine .ca call165 r (WO i U:) λ_ _ T X=>?_;obtain⟨_,_,_,rfl,j,U⟩:=X;have⟨b4,i⟩:=T.u2 x i;refine .R DC .p1 r (.L 24 r (.en 24 r (.F (.S GA DC .p1 r ?_))));refine .ca call166 r (W4 j U:) λ_ _ b5 b6=>?_;obtain⟨W,b7,rfl,b8,U⟩:=b6;have⟨p,j⟩:=b5.u2 b4 j;exact .G 2 r (.R BL .z r (.D 1 48 r (.drop .p1 (.J (B5 r (.w CW BL r .z r (.t r .n)) p ⟨(W.1,W.2),b7,r,b8,U⟩)))))
 refine .P 134217752 r (.B (.F (.D 2 1207959576 r (.A r U (λq U=>?_) λq U=>?_))))
 . refine .en 24 r (.C (.S GA DC .p1 r ?_));refine .ca call59 r (Z9 V U:) λ_ _ d u=>?_;obtain⟨_,_,_,rfl,a,U⟩:=u;have V:=d.u1 V;refine .R DC .p1 r (.ns 24 r (.S GA DC .p1 r ?_));refine .ca call165 r (WO a U:) λ_ _ y A=>?_;obtain⟨_,_,_,rfl,b,U⟩:=A;have⟨B,a⟩:=y.u2 d a;refine .R DC .p1 r (.L 24 r (.en 24 r (.F (.S GA DC .p1 r ?_))));refine .ca call166 r (W4 b U:) λ_ _ D E=>?_;obtain⟨k,F,rfl,b9,U⟩:=E;have⟨G,b⟩:=D.u2 B b;exact .G 2 r (.R BL .z r (.D 1 48 r (.drop .p1 (.J (B5 r (.w CW BL r .z r (.t r .n)) G ⟨(k.1,k.2),F,r,b9,U⟩)))))
 refine .P 134217752 r (.F (.D 2 4294967320 r (.A r U (λH U=>?_) λH U=>?_)))
 . refine .en 24 r (.F (.S GA DC .p1 r ?_));refine .ca call165 r (WO V U:) λ_ _ e K=>?_;obtain⟨_,_,_,rfl,c,U⟩:=K;have V:=e.u1 V;refine .R DC .p1 r (.L 24 r (.en 24 r (.F (.S GA DC .p1 r ?_))));refine .ca call166 r (W4 c U:) λ_ _ O P=>?_;obtain⟨l,R,rfl,c0,U⟩:=P;have⟨S,c⟩:=O.u2 e c;exact .G 2 r (.R BL .z r (.D 1 48 r (.drop .p1 (.J (B5 r (.w CW BL r .z r (.t r .n)) S ⟨(l.1,l.2),R,r,c0,U⟩)))))
 refine .P 24 r (.en 24 r (.F (.S GA DC .p1 r ?_)));refine .ca call166 r (W4 V U:) λ_ _ f a2=>?_;obtain⟨m,a5,rfl,c1,U⟩:=a2;have V:=f.u1 V;exact .G 2 r (.R BL .z r (.D 1 48 r (.drop .p1 (.J (B5 r (.w CW BL r .z r (.t r .n)) f ⟨(m.1,m.2),a5,r,c1,U⟩)))))
theorem yD {a0 a1 a2 Q} (J:RepSl B0 I p1 c2 a0.Draws) (O:RepSl CA I p4 c5 a1.Edges) (h:VC a0 a1 a2 Q) :
  B3 prog 83 [.agg (LU a0 p1 c2),.agg #[vi a1.N,.slice p4 a1.Edges.length c5],vi a2] I (λ_=>Y6 Q):=by
 refine Fun.ee func83 ntmps83 r ?_;refine .F (.bx r λ_=>.bx r λ_=>?_);refine .D 1 28 r (.B (.F (.S QB QA .p1 r (.S GA DC .z r (.ca call122 r (gJ J O h:) λ_ _ a c=>?_)))));obtain⟨g,_,rfl,_,h⟩:=c;have⟨J,O⟩:=a.u2 J O;refine .G 3 r (.al ON r λ_=>.R BL .z r (.D 1 260 r (.drop .z (.drop .z (.drop .z (.F (.D 2 65796 r (.A r h (λd h=>?_) λd h=>?_))))))))
 . exact .F (.D 2 64 r (.r1 results83 r a ⟨g.2,r,h⟩))
 refine .P 4 r (.B (.M 3 r (.T h [19,20] r (λe h=>?_) λe h=>?_)))
 . exact .D 3 8388608 r (.Q r r (.F (.D 1 64 r (.r1 results83 r a ⟨3,r,h⟩))))
 refine .D 3 8388608 r (.A r h (λf h=>?_) λf h=>?_)
 . exact .F (.D 1 64 r (.r1 results83 r a ⟨3,r,h⟩))
 exact .P 0 r (.F (.D 1 64 r (.r1 results83 r a ⟨0,r,h⟩)))
theorem OW {a0 Q} (J:lTa I ga1 a0) (h:JB a0 Q) :
  B3 prog 50 [.agg (YO a0 ga1)] I (λ_=>Y6 Q):=by
 refine Fun.ee func50 ntmps50 r (.F (.bx r λ_=>.G 1 r (.V 2 1 r (.L 10 r (.B (.M 1 r (.AA QB QA r .z (.o 5 r) r r r (.G 1 r (.AA GA DC r .z (.o 2 r) r r r (.G 1 r (.I AM .z r (.v call83 (yD J.1 J.2.1 h:) r λs h=>?_))))))))))));refine .G 1 r (.V 26 2 r (.L 8218 r (.A r h (λd h=>?_) λd h=>?_)))
 . exact .F (.D 2 4 r (.drop .z (.r0 results50 r ⟨s,r,h⟩)))
 refine .P 10 r (.B (.E (.B (.jn h [1] [0] r (λj E l b=>j ((15,.bool b) :: E) l) (λ_ h=>?_) ?_))))
 . refine .M 2 r (.I AM .z r ?_);refine .callPc call82 r r (QL (I:=I) h:) r r λ_ f=>?_;obtain⟨t,rfl,h⟩:=f;refine .D 2 32778 r (.A r h (λg h=>?_) λg h=>?_)
   . exact .AC (je (!t) h rf [0] r)
   refine .M 2 r (.I AM .z r ?_);refine .callPc call82 r r (QL (I:=I) h:) r r λ_ i=>?_;obtain⟨u,rfl,h⟩:=i;refine .D 2 32778 r (.A r h (λk h=>?_) λk h=>?_)
   . exact .AC (je (!u) h rf [0] r)
   refine .C (.G 2 r (.I AM .z r ?_));refine .callPc call82 r r (QL (I:=I) h:) r r λ_ n=>?_;obtain⟨v,rfl,h⟩:=n;exact .G 2 r (.H (je (!v) h rf [0] r))
 refine λb h=>jq r λ_ a=>?_;have J:=a.u1 J;refine .A r h (λp h=>?_) λp h=>?_
 . exact h.elim
 refine .M 1 r (.I isAgg57 .z r (.ln AfH r (.D 2 2147483648 r (.drop .z (.A r h (λq h=>?_) λq h=>?_)))))
 . exact h.elim
 exact .P 0 r (.F (.D 1 4 r (.r1 results50 r a ⟨0,r,h⟩)))
theorem Ad4 {a0 Q} (J:tL a0 Q) :
  B3 prog 108 [.agg (Ab6 a0).toArray] I (λ_=>bV Q):=by
 refine Fun.ee func108 ntmps108 r (.F (.bx r λ_=>.D 1 2 r (.B (.M 1 r (.I AM .z r (.v call49 (M8 (I:=I) J:) r λ_ J=>.G 2 r (.T J [6,7] r (λb J=>?_) λb J=>?_)))))))
 . exact .D 11 262146 r (.Q r r (.F (.D 1 4 r (.drop .z (.r0 results108 r ⟨false,r,J⟩)))))
 refine .G 1 r (.O r (.I AM .z r ?_));refine .O r (.AE call49 r (M8 (I:=I) J:) r r λ_ d=>?_);obtain⟨_,rfl,J⟩:=d;refine .G 3 r (.T J [11,12,13] r (λe J=>?_) λe J=>?_)
 . exact .D 5 262146 r (.Q r r (.F (.D 1 4 r (.drop .z (.r0 results108 r ⟨false,r,J⟩)))))
 refine .G 1 r (.O r (.I AM .z r ?_));refine .O r (.AE call49 r (M8 (I:=I) J:) r r λ_ g=>?_);obtain⟨_,rfl,J⟩:=g;refine .D 2 262146 r (.A r J (λh J=>?_) λh J=>?_)
 . exact .F (.D 1 4 r (.drop .z (.r0 results108 r ⟨false,r,J⟩)))
 refine .P 2 r (.M 1 r (.I isAgg127 .z r (.G 2 r (.T J [21,22] r (λi J=>?_) λi J=>?_))))
 . exact .G 1 r (.O r (.I isAgg127 .z r (.D 3 4 r (.drop .z (.r0 results108 r ⟨(decide (a0.Kind<=5)),r,J⟩)))))
 exact .D 5 4 r (.drop .z (.r0 results108 r ⟨false,r,J⟩))
theorem jD {a0 Q} (d:X4 a0 Q) :
  Fun prog 107 #[.agg (Ab6 a0).toArray] I [] (λ_ v l=>∃ r,v=.bool r∧l=[]∧Q r):=by
 exact Fun.ee func107 ntmps107 r (.F (.bx r λ_=>.G 1 r (.ns 2 r (.S isAgg129 sizeOf129 .z r (.v call108 (Ad4 (I:=I) d:) r λb d=>.D 2 4 r (.drop .z (.q1 results107 rf [] r ⟨(!b),r,r,d⟩)))))))
theorem K9 {a0 Q} (J:RepSl AeH I p1 c2 a0) (h:DR a0 Q) :
  Fun prog 139 #[.slice p1 a0.length c2,.func (.func 107) #[] #[]] I [] (λ_ v l=>∃ r,v=vi r∧l=[]∧Q r):=by
 refine Fun.ee func139 ntmps139 r (.F (.D 1 3 r (.B (.M 1 r (.ln underlying98 r (.D 1 387 r (.E (.lp h xX [] r (λj E l d=>j ((8,vi d) :: E) l) (ji rf [] r) ?_))))))));refine λd _ h=>jq r λp a=>?_;have J:=a.u1 J;refine .F (.D 1 899 r (.B (.A r h (λf h=>?_) λf h=>?_)))
 . refine .P 387 r (.B (.E (.M 2 r (.V 419 3 r ?_))));have⟨q,_,g,_,_,s,b,h⟩:=J.ix h;refine .U underlying98 sizeOf129 s q g r (.ldW isAgg129 sizeOf129 b r r r r ?_);refine .cS (.c call107 r r) .n r (jD (I:=p) h:) λ_ _ _ i k=>?_;obtain⟨_,rfl,rfl,h⟩:=k;have⟨e,J,b⟩:=i.u3 a J b;refine .rn 0 r (.L 65955 r (.A r h (λm h=>?_) λm h=>?_))
   . exact .F (.D 2 18 r (.q1 results139 e [] r ⟨d,r,r,h⟩))
   exact .P 387 r (.C (.G 2 r (.H (je (A5 (d+1)) h e [] r))))
 exact .en 2 r (.F (.D 1 18 r (.q1 results139 a [] r ⟨(-1),r,r,h⟩)))
theorem IQ {a0 Q} (h:RepSl AeH I p1 c2 a0) (J:CH a0 Q) :
  Fun prog 106 #[.slice p1 a0.length c2,.func (.func 107) #[] #[]] I [] (λ_ v l=>∃ r,v=.bool r∧l=[]∧Q r):=by
 refine Fun.ee func106 ntmps106 r ?_;refine .M 1 r (.V 3 2 r ?_);refine .cS (.f call139 r) .n r (K9 h J:) λ_ _ _ a c=>?_;obtain⟨d,rfl,rfl,J⟩:=c;have h:=a.u1 h;exact .rn 0 r (.D 2 18 r (.q1 results106 a [] r ⟨(decide (0<=d)),r,r,J⟩))
theorem Ad5 {a0 a1 a2 Q} (U:lTa I ga1 a0) (O:RepSl AeH I p3 c4 a1) (J:iE a0 a1 a2 Q) :
  B3 prog 72 [.agg (YO a0 ga1),.slice p3 a1.length c4,vi a2] I (λ_=>Y6 Q):=by
 refine Fun.ee func72 ntmps72 r (.F (.bx r λ_=>.D 1 14 r (.B (.F (.S bX WK .z r (.v call50 (OW U J:) r λk J=>.D 1 134 r (.drop .z (.F (.D 2 2182 r (.A r J (λc J=>?_) λc J=>?_))))))))))
 . exact .F (.D 2 64 r (.r0 results72 r ⟨k,r,J⟩))
 refine .P 6 r (.B (.E (.M 1 r (.ln underlying98 r (.D 2 8198 r (.A r J (λd J=>?_) λd J=>?_))))))
 . exact J.elim
 refine .M 1 r ?_;refine .cS (.f call106 r) .n r (IQ O J:) λ_ l _ a g=>?_;obtain⟨_,rfl,rfl,J⟩:=g;have O:=a.u1 O;refine .rn 0 r (.D 1 131076 r (.A r J (λh J=>?_) λh J=>?_))
 . exact J.elim
 refine .M 1 r (.v call49 (M8 (I:=l) J:) r λ_ J=>.D 2 1048576 r (.A r J (λj J=>?_) λj J=>?_))
 . exact J.elim
 exact .P 0 r (.F (.D 1 64 r (.r1 results72 r a ⟨0,r,J⟩)))
theorem M2 {a0 Q} (J:RepSl dI I p1 c2 a0) (h:CZ a0 Q) :
  B3 prog 140 [.slice p1 a0.length c2] I (λO v=>∃ r p4 c5,v=.slice p4 r.length c5∧RepSl dI O p4 c5 r∧Q r):=by
 refine Fun.ee func140 ntmps140 r (.F (.D 1 1 r (.B (.M 1 r (.eqNilS AfH r r r r (.L 17 r ?_))))));refine split p1.isNone (λa=>?_) (λa=>?_)
 . have h:=h.1 (RepSl.ofNone J a);exact .Q r a (.F (.D 1 4 r (.r0 results140 r ⟨([]:List HR),_,_,r,(.nil _ _ _),h⟩)))
 have h:=h.2;refine .Z r a (.P 1 r (.F (.bs 0 AfH sizeOf225 zeroValue225 r λ_=>.G 1 r (.ownB (El:=dI) (ys:=([]:List HR)) .z .nil r ?_))));have⟨b,h⟩:=h;exact .ap (ys:=a0) .z AfH AfH Ay3 r (.imm J r) b λ_ _=>.D 1 4 r (.y .z λ_ c d=>.r1 results140 r c ⟨(([]:List HR)++a0),_,_,r,d,h⟩)
theorem SY {a0 a1 Q} (d:MQ a0 a1 Q) :
  B3 prog 223 [vi a0,vi a1] I (λ_=>bV Q):=by
 refine Fun.ee func223 ntmps223 r (.M 1 r (.V 3 3 r (.T d [6,7] r (λa d=>?_) λa d=>?_)))
 . exact .D 5 16 r (.r0 results223 r ⟨(decide (a0<=a1)),r,d⟩)
 exact .D 5 16 r (.r0 results223 r ⟨false,r,d⟩)
theorem wG {a0 a1 Q} (d:SM a0 a1 Q) :
  B3 prog 264 [vi a0,vi a1] I (λ_=>bV Q):=by
 refine Fun.ee func264 ntmps264 r (.M 1 r (.V 3 1 r (.v call211 (MK (I:=I) d:) r λ_ d=>.G 1 r (.T d [6,7] r (λc d=>?_) λc d=>?_))))
 . refine .G 1 r ?_;refine .O r (.AE call211 r (MK (I:=I) d:) r r λ_ e=>?_);obtain⟨_,rfl,d⟩:=e;refine .G 3 r (.T d [10,11,12] r (λa d=>?_) λa d=>?_)
   . exact .D 5 16 r (.r0 results264 r ⟨true,r,d⟩)
   exact .D 5 16 r (.r0 results264 r ⟨(decide (a0<a1)),r,d⟩)
 exact .D 10 16 r (.r0 results264 r ⟨(decide (a0<a1)),r,d⟩)
theorem UU {a0 Q} (O:RepSl B0 I p1 c2 a0) (J:FZ a0 Q) :
  B3 prog 224 [.slice p1 a0.length c2] I (λ_=>bV Q):=by
 refine Fun.ee func224 ntmps224 r (.F (.D 1 1 r (.B (.M 1 r (.ln BE r (.D 2 9 r (.E (.lp J [0] [] r (λj E l b=>j ((3,vi b) :: E) l) (ji rf [] r) ?_))))))));refine λb _ J=>jq r λn a=>?_;have O:=a.u1 O;refine .B (.F (.D 2 265 r (.A r J (λc J=>?_) λc J=>?_)))
 . refine .P 9 r (.B (.E (.B (.dr AoJ 10 (.K 2 r ?_)))));have⟨o,_,d,_,_,p,e,J⟩:=O.ix J;refine .h r (.U BE D3 p o d r .mk) (.h r (.x 0 AM e r .mk) (.K 3 r ?_));have⟨q,_,f,_,_,s,g,J⟩:=O.ix J;refine .h r (.U BE D3 s q f r .mk) (.h r (.x 0 AM g r .mk) (.Y r (.v call264 (wG (I:=n) J:) r λ_ J=>.q 0 r tv (.e2 10 (.L 1048585 r (.A r J (λk J=>?_) λk J=>?_))))))
   . exact .F (.D 1 4 r (.r1 results224 r a ⟨false,r,J⟩))
   exact .P 9 r (.C (.G 3 r (.H (je (A5 (b - 1)) J a [] r))))
 exact .en 0 r (.F (.D 1 4 r (.r1 results224 r a ⟨true,r,J⟩)))
theorem AoK {a0 a1 Q} (W:RepSl B0 I p1 c2 a0) (J:rV a0 a1 Q) :
  B3 prog 225 [.slice p1 a0.length c2,vi a1] I (λ_=>bV Q):=by
 refine Fun.ee func225 ntmps225 r (.F (.D 1 3 r (.B (.M 1 r (.ln BE r (.D 1 899 r (.E (.lp J [8,7,1,0] [] r (λj E l b=>j ((9,vi b) :: E) l) (ji rf [] r) ?_))))))));refine λb _ J=>jq r λp a=>?_;have W:=a.u1 W;refine .F (.D 1 1923 r (.B (.A r J (λf J=>?_) λf J=>?_)))
 . refine .P 899 r (.B (.E (.M 1 r ?_)));have⟨q,_,g,_,_,s,h,J⟩:=W.ix J;refine .U BE D3 s q g r (.x 0 AM h r (.G 2 r (.V 995 3 r (.v call223 (SY (I:=p) J:) r λ_ J=>.G 2 r (.T J [18,19] r (λk J=>?_) λk J=>?_)))))
   . exact .D 12 2147484547 r (.Q r r (.F (.D 1 16 r (.r1 results225 r a ⟨false,r,J⟩))))
   refine .G 3 r (.T J [21,22] r (λm J=>?_) λm J=>?_)
   . refine .G 3 r ?_;have⟨t,_,c,_,_,n,d,J⟩:=W.ix J;refine .O r (.U BE D3 n t c r (.O r (.x 0 AM d r (.D 4 2147484547 r (.A r J (λe J=>?_) λe J=>?_)))))
     . exact .F (.D 1 16 r (.r1 results225 r a ⟨false,r,J⟩))
     exact .P 899 r (.C (.G 2 r (.H (je (A5 (b+1)) J a [] r))))
   exact .D 9 2147484547 r (.Z r r (.P 899 r (.C (.G 2 r (.H (je (A5 (b+1)) J a [] r))))))
 exact .en 0 r (.F (.D 1 16 r (.r1 results225 r a ⟨true,r,J⟩)))
theorem W5 {a0 Q} (Z:nN I gb1 a0) (J:PC a0 Q) :
  B3 prog 180 [.agg (KX a0 gb1)] I (λ_=>bV Q):=by
 refine Fun.ee func180 ntmps180 r (.F (.bx r λ_=>.G 1 r (.V 2 1 r (.I EJ .z r (.ln BE r (.D 1 10 r (.B (.M 1 r (.I AM .z r (.v call223 (SY (I:=I) J:) r λ_ J=>.G 2 r (.T J [11,12] r (λs J=>?_) λs J=>?_)))))))))))
 . exact .D 25 137438953482 r (.Q r r (.F (.D 1 4 r (.drop .z (.r0 results180 r ⟨false,r,J⟩)))))
 refine .G 1 r (.O r (.I AM .z r ?_));refine .O r (.AE call223 r (SY (I:=I) J:) r r λ_ u=>?_);obtain⟨_,rfl,J⟩:=u;refine .G 3 r (.T J [16,17,18] r (λv J=>?_) λv J=>?_)
 . exact .D 19 137438953482 r (.Q r r (.F (.D 1 4 r (.drop .z (.r0 results180 r ⟨false,r,J⟩)))))
 refine .G 1 r (.O r (.I EJ .z r (.O r (.ln BE r (.G 1 r (.O r (.I AM .z r (.G 4 r (.T J [25,26,27] r (λw J=>?_) λw J=>?_)))))))))
 . exact .D 10 137438953482 r (.Q r r (.F (.D 1 4 r (.drop .z (.r0 results180 r ⟨false,r,J⟩)))))
 refine .G 1 r (.O r (.I FX .z r (.O r (.ln DF r (.G 4 r (.T J [32,33,34] r (λx J=>?_) λx J=>?_))))))
 . exact .D 3 137438953482 r (.Q r r (.F (.D 1 4 r (.drop .z (.r0 results180 r ⟨false,r,J⟩)))))
 refine .D 3 137438953482 r (.A r J (λy J=>?_) λy J=>?_)
 . exact .F (.D 1 4 r (.drop .z (.r0 results180 r ⟨false,r,J⟩)))
 refine .P 10 r (.B (.M 1 r (.I EJ .z r ?_)));have⟨Y,_,A,_,_,a3,B,J⟩:=Z.1.ix J;refine .U BE D3 a3 Y A r (.x 0 AM B r (.G 2 r (.T J [42,43] r (λC J=>?_) λC J=>?_)))
 . exact .D 15 288230376151711746 r (.Q r r (.F (.D 1 4 r (.drop .z (.r0 results180 r ⟨false,r,J⟩)))))
 refine .G 1 r (.O r (.I EJ .z r (.G 1 r (.O r (.I AM .z r ?_)))));have⟨a1,_,D,_,_,a2,F,J⟩:=Z.1.ix J;refine .O r (.U BE D3 a2 a1 D r (.O r (.x 0 AM F r (.G 4 r (.T J [51,52,53] r (λG J=>?_) λG J=>?_)))))
 . exact .D 5 288230376151711746 r (.Q r r (.F (.D 1 4 r (.drop .z (.r0 results180 r ⟨false,r,J⟩)))))
 refine .G 1 r (.O r (.I EJ .z r ?_));refine .O r (.AE call224 r (UU Z.1 J:) r r λ_ K=>?_);obtain⟨_,rfl,J⟩:=K;refine .D 2 288230376151711746 r (.A r J (λN J=>?_) λN J=>?_)
 . exact .F (.D 1 4 r (.drop .z (.r0 results180 r ⟨false,r,J⟩)))
 refine .P 2 r (.B (.M 1 r (.I AM .z r (.D 1 3458764513820540930 r (.E (.lp J [60,1] [0] r (λj E l c=>j ((61,vi c) :: E) l) (ji rf [0] r) ?_))))));refine λc _ J=>jq r λ_ a=>?_;have Z:=a.u1 Z;refine .F (.D 1 8070450532247928834 r (.B (.A r J (λg J=>?_) λg J=>?_)))
 . refine .P 3458764513820540930 r (.B (.E (.F (.D 2 3458764513820540946 r (.B (.dr AyU 18 (.K 1 r (.X EJ 0 r (.K 1 r (.X EJ 0 r (.K 1 r ?_)))))))))));have⟨O,d,i,_,_,P,k,J⟩:=Z.1.ix J;refine .h r (.U BE D3 P O i r .mk) (.h r (.x 0 AM k r .mk) (.K 1 r (.X EJ 0 r (.K 2 r ?_))));have⟨R,b,m,_,_,S,n,J⟩:=Z.1.ix J;refine .h r (.U BE D3 S R m r .mk) (.h r (.x 0 AM n r .mk) ?_);have⟨T,_,_,J⟩:=J;have e:Int.toNat d<=Int.toNat b:=by omega
   have f:Int.toNat b<=a0.Col.length:=by omega
   have⟨_,_,U,V,W⟩:=RepSl.sliceW Z.2.1 (Int.toNat d) (Int.toNat b) gb1.2.1.2 e f (.inl rfl);refine .h r (.sliceW (L:=Int.toNat d) (H:=Int.toNat b) (cm:=gb1.2.1.2) BE D3 r r Z.2.1.1 r r r (.inr ⟨_,_,r,T,r⟩) (.inr ⟨_,_,r,(by omega),r⟩) (.inl r) e f r U V r r .mk) (.K 1 r (.X AM 0 r (.Y r (.v call225 (AoK W J:) r λ_ J=>.q 1 r tv (.K 1 r (.e2 18 (.L 2417855097993772169953282 r (.A r J (λp J=>?_) λp J=>?_))))))))
   . exact .F (.D 1 4 r (.drop .z (.r1 results180 r a ⟨false,r,J⟩)))
   exact .P 3458764513820540930 r (.C (.G 2 r (.H (je (A5 (c+1)) J a [0] r))))
 exact .en 0 r (.drop .z (.F (.D 1 4 r (.r1 results180 r a ⟨true,r,J⟩))))
theorem nA {a0 Q} (d:TL a0 Q) :
  B3 prog 226 [vi a0] I (λ_=>bV Q):=by
 refine Fun.ee func226 ntmps226 r (.M 1 r (.V 1 3 r (.T d [4,5] r (λa d=>?_) λa d=>?_)))
 . exact .D 4 4 r (.r0 results226 r ⟨(decide (a0<=8)),r,d⟩)
 exact .D 4 4 r (.r0 results226 r ⟨false,r,d⟩)
theorem ZB {a0 a1 a2 a3 Q} (J:PD a0 a1 a2 a3 Q) :
  B3 prog 181 [vi a0,vi a1,vi a2,vi a3] I (λ_=>bV Q):=by
 refine Fun.ee func181 ntmps181 r (.M 1 r (.V 15 1 r (.v call226 (nA (I:=I) J:) r λ_ J=>.G 1 r (.T J [10,11] r (λf J=>?_) λf J=>?_))))
 . refine .G 1 r ?_;refine .O r (.AE call226 r (nA (I:=I) J:) r r λ_ h=>?_);obtain⟨_,rfl,J⟩:=h;refine .G 2 r (.T J [13,14,15] r (λa J=>?_) λa J=>?_)
   . refine .G 4 r (.T J [17,18,19] r (λb J=>?_) λb J=>?_)
     . refine .G 5 r (.T J [22,23,24] r (λc J=>?_) λc J=>?_)
       . refine .G 4 r (.T J [26,27,28] r (λd J=>?_) λd J=>?_)
         . exact .D 5 256 r (.r0 results181 r ⟨(decide (a3<a1)),r,J⟩)
         exact .D 5 256 r (.r0 results181 r ⟨false,r,J⟩)
       exact .D 9 256 r (.r0 results181 r ⟨false,r,J⟩)
     exact .D 14 256 r (.r0 results181 r ⟨false,r,J⟩)
   exact .D 18 256 r (.r0 results181 r ⟨false,r,J⟩)
 exact .D 22 256 r (.r0 results181 r ⟨false,r,J⟩)
theorem UJ {a0 Q} (O:nN I gb1 a0) (D:RC a0 Q) :
  B3 prog 227 [.agg (KX a0 gb1)] I (Au6 Q):=by
 refine Fun.ee func227 ntmps227 r (.F (.bx r λ_=>.al ON r λ_=>.L 6 r (.B (.F (.S CW BL .p1 r (.v call180 (W5 O D:) r λ_ D=>.L 22 r (.A r D (λd D=>?_) λd D=>?_)))))))
 . exact .F (.S CW BL .p1 r (.R BL .z r (.L 4 r (.drop .p1 (.J (B5 r (.w CW BL r .z r .n) rf ⟨a0,gb1,r,O,D⟩))))))
 refine .P 4 r (.drop .p1 (.F ?_));refine .AF call261 r (qZ (I:=I) D:) r r λ_ _ _ f g=>?_;obtain⟨o,_,_,_,_,_,_,rfl,rfl,D⟩:=g;refine .R BL .p3 r (.L 4 r (.y .z λ_ h a=>?_));have i:=h.u1 f;refine .y .z λ_ j b=>?_;have⟨k,a⟩:=j.u2 i a;refine .y .z λ_ l p=>?_;have⟨m,a,b⟩:=l.u3 k a b;exact .J (B5 r (.w CW BL r .z r .n) m ⟨o,((_,_),(_,_),(_,_)),r,⟨a,b,p⟩,D⟩)
theorem nB {a0 a1 Q} (d:TM a0 a1 Q) :
  B3 prog 228 [.agg #[vi a0.1,vi a0.2],vi a1] I (λ_ v=>∃ r,v=.tuple #[vi r.1,vi r.2]∧Q r):=by
 refine Fun.ee func228 ntmps228 r (.F (.bx r λ_=>.G 2 r (.ns 6 r (.AB (i:=0) UA D3 r r (by decide) (o:=0) r r r (.I AM .z r (.maxI r r r r (.G 1 r (.ns 70 r (.AB (i:=1) UA D3 r r (by decide) (o:=1) r r r (.I AM .z r (.G 1 r ?_)))))))))));refine .minI r r r r (.D 1 192 r (.drop .z (.B (.F (.D 3 131264 r (.A r d (λa d=>?_) λa d=>?_))))))
 . exact .F (.D 3 48 r (.J (B5 r (.t r (.t r .n)) rf ⟨((if 0 > a0.1 then 0 else a0.1),0),r,d⟩)))
 exact .P 192 r (.F (.D 6 48 r (.J (B5 r (.t r (.t r .n)) rf ⟨((if 0 > a0.1 then 0 else a0.1),A5 ((if a1<a0.2 then a1 else a0.2) - (if 0 > a0.1 then 0 else a0.1))),r,d⟩))))
theorem wH {a0 a1 Q} (V:nN I gb1 a0) (O:aY a0 a1 Q) :
  B3 prog 230 [.agg (KX a0 gb1),vi a1] I (Az3 Q):=by
 refine Fun.ee func230 ntmps230 r (.F (.bx r λ_=>.D 2 6 r (.B (.dr Aj2 12 (.K 1 r (.X EJ 0 r (.K 1 r ?_)))))));have⟨l,b,g,_,_,m,i,O⟩:=V.1.ix O;refine .h r (.U BE D3 m l g r .mk) (.h r (.x 0 AM i r .mk) (.K 1 r (.X EJ 0 r (.K 2 r ?_))));have⟨o,a,j,_,_,p,k,O⟩:=V.1.ix O;refine .h r (.U BE D3 p o j r .mk) (.h r (.x 0 AM k r .mk) (.K 1 r (.e2 12 (.D 1 196 r (.B (.dr AxD 13 (.K 1 r (.X EJ 0 r (.K 3 r ?_)))))))));have⟨q,_,_,O⟩:=O;have c:Int.toNat b<=Int.toNat a:=by omega
 have d:Int.toNat a<=a0.Col.length:=by omega
 have⟨_,_,s,u,v⟩:=RepSl.sliceW V.2.1 (Int.toNat b) (Int.toNat a) (Int.toNat a) c d (.inr rfl);refine .h r (.sliceW (L:=Int.toNat b) (H:=Int.toNat a) (cm:=Int.toNat a) BE D3 r r V.2.1.1 r r r (.inr ⟨_,_,r,q,r⟩) (.inr ⟨_,_,r,(by omega),r⟩) (.inr r) c d r s u r r .mk) (.K 1 r (.X FX 0 r (.K 3 r ?_)));have⟨w,_,_,O⟩:=O;have e:Int.toNat b<=Int.toNat a:=by omega
 have f:Int.toNat a<=a0.Val.length:=by omega
 have⟨_,_,x,y,A⟩:=RepSl.sliceW V.2.2 (Int.toNat b) (Int.toNat a) (Int.toNat a) e f (.inr rfl);exact .h r (.sliceW (L:=Int.toNat b) (H:=Int.toNat a) (cm:=Int.toNat a) DF XP r r V.2.2.1 r r r (.inr ⟨_,_,r,w,r⟩) (.inr ⟨_,_,r,(by omega),r⟩) (.inr r) e f r x y r r .mk) (.K 1 r (.e2 13 (.D 1 48 r (.drop .z (.J (B5 r (.t r (.t r .n)) rf ⟨(((a0.Col.take a.toNat).drop b.toNat),((a0.Val.take a.toNat).drop b.toNat)),_,_,_,_,r,v,A,O⟩))))))
theorem AoL {a0 a1 Q} (V:nN I gb1 a0) (O:rW a0 a1 Q) :
  B3 prog 229 [.agg (KX a0 gb1),vi a1] I (AyB Q):=by
 refine Fun.ee func229 ntmps229 r ?_;refine .F (.bx r λ_=>?_);refine .G 1 r (.ns 6 r (.S CW BL .z r (.ca call227 r (UJ V O:) λ_ S d B=>?_)));obtain⟨_,_,rfl,h,O⟩:=B;have V:=d.u1 V;refine .R BL .z r (.L 6 r (.B (.M 2 r (.I AM .z r (.G 1 r (.v call223 (SY (I:=S) O:) r λ_ O=>.D 1 131078 r (.A r O (λD O=>?_) λD O=>?_)))))))
 . exact .F (.D 1 16 r (.drop .z (.r1 results229 r d ⟨([]:List B9),_,_,r,(.nil _ _ _),O⟩)))
 refine .P 6 r (.M 1 r (.ns 38 r (.S CW BL .z r (.G 1 r ?_))));refine .ca call230 r (wH h O:) λ_ _ G H=>?_;obtain⟨_,_,_,_,_,rfl,i,k,O⟩:=H;have⟨J,h⟩:=G.u2 d h;refine .D 5 224 r (.drop .z (.B (.M 1 r (.ln BE r (.D 1 117440672 r (.E (.own0 CB 300 (.lx O [25,24,7] [] r (λj E l (a,e)=>λc w=>∃ f g,j ⟨42,[],none⟩ (λ_=>True) ((5,.slice f a.length g) :: (26,vi e) :: E) (OwnSl CB 300 f g a :: l) c w) (λc w W Z=>⟨_,_,jf rf tv [0] r W Z⟩) ?_))))))));rintro⟨a,e⟩ _ O c w ⟨f,g,_,b,_,a3,a4⟩;have⟨o,i,k⟩:=b.u3 J i k;refine Cod.at a3 a4 (.F (.D 1 251658400 r (.B (.A r O (λp O=>?_) λp O=>?_))))
 . refine .P 117440672 r (.B (.E (.M 1 r ?_)));have⟨K,m,q,_,_,L,s,O⟩:=i.ix O;refine .U BE D3 L K q r (.x 0 AM s r (.D 2 117441440 r (.C (.G 4 r ?_))));have⟨N,n,t,_,_,a2,u,O⟩:=k.ix O;refine .U DF XP a2 N t r (.x 0 LY u r (.bd L8 vD vB r (.bs 1 DX DN L8 r λ_=>?_)));have⟨v,O⟩:=O;exact .ap (ys:=[({ At:=m,Val:=n }:B9)]) .p1 DX DX vA r (.box .z (.one r) r) v λ_ _=>.D 1 117440672 r (.drop .p1 (.C (.G 2 r (.H λc w W Z=>⟨_,O,_,_,jf b tv [0] r W Z⟩))))
 refine .en 32 r (.F (.D 2 16 r (.y .z λ_ x P=>?_)));have⟨y,_⟩:=x.u2 o b;exact .r1 results229 r y ⟨a,_,_,r,P,O⟩
theorem eW {a0 a1 a2 Q} (U:nN I gb1 a0) (D:VD a0 a1 a2 Q) :
  B3 prog 182 [.agg (KX a0 gb1),.agg #[vi a1.1,vi a1.2],.agg #[vi a2.1,vi a2.2]] I (Au6 Q):=by
 refine Fun.ee func182 ntmps182 r ?_;refine .F (.bx r λ_=>.bx r λ_=>.bx r λ_=>?_);refine .al ON r λ_=>.ns 120 r (.S CW BL .p3 r (.ca call227 r (UJ U D:) λ_ Z y a6=>?_));obtain⟨_,_,rfl,a,D⟩:=a6;have U:=y.u1 U;refine .R BL .p3 r (.ns 120 r (.S isAgg97 fE .p2 r (.G 1 r (.I AM .p3 r (.v call228 (nB (I:=Z) D:) r λ_ D=>.D 5 488 r (.drop .p2 (.F (.S isAgg97 fE .p1 r (.G 1 r (.I AM .p2 r (.v call228 (nB (I:=Z) D:) r λs D=>?_)))))))))));refine .D 5 1992 r (.drop .p1 (.F (.D 1 4040 r (.B (.F (.D 2 6442454984 r (.E (.own0 J8 270 (.lx D [31,10,9,8,7,6,3] [2,1] r (λj E l (i,d)=>λc w=>∃ k m,j ⟨74,[],none⟩ (λI_=>True) ((11,.slice k i.length m) :: (32,vi d) :: E) (OwnSl J8 270 k m i :: l) c w) (λc w J O=>⟨_,_,jf rf tv [0,1,0] r J O⟩) ?_)))))))));rintro⟨i,d⟩ _ D c w ⟨k,m,_,g,_,V,W⟩;have⟨t,a⟩:=g.u2 y a;refine Cod.at V W (.F (.D 1 15032389576 r (.B (.A r D (λB D=>?_) λB D=>?_))))
 . refine .P 6442454984 r (.B (.E (.M 2 r (.ns 6442459080 r (.S CW BL .p1 r (.G 3 r ?_))))));refine .ca call229 r (AoL a D:) λ_ _ a5 F=>?_;obtain⟨_,_,_,rfl,e,D⟩:=F;have⟨G,H,a⟩:=a5.u3 t g a;refine .ln DX r (.D 1 3854733156296 r (.E (.lx D [40,39,32,31,12,10,9,8,7,6,3] [1,1] r (λj E l (b,h)=>λc w=>∃ o p,j ⟨74,[],none⟩ (λI_=>True) ((11,.slice o b.length p) :: (41,vi h) :: E) (OwnSl J8 270 o p b :: l) c w) (λc w J O=>⟨_,_,jf rf tv WZ r J O⟩) ?_)));rintro⟨b,h⟩ _ D c w ⟨o,p,_,u,_,V,W⟩;have⟨a7,v,a,e⟩:=u.u4 G H a e;refine Cod.at V W (.F (.D 1 8252779667400 r (.B (.A r D (λK D=>?_) λK D=>?_))))
   . refine .P 3854733156296 r (.B (.E (.F ?_)));have⟨a9,f,L,_,_,c1,N,D⟩:=e.ix D;refine .U DX DN c1 a9 L r (.ldW UB DN N r r r r (.al L8 r λ_=>.R DN .z r (.L 3854733172680 r (.B (.jn D [41,40,39,32,31,14,12,11,10,9,8,7,6,3] [2,2,1,0] r (λj E l A=>j ((56,.bool A) :: E) l) (λ_ D=>?_) ?_)))))
     . refine .C (.G 1 r (.I AM .z r (.G 3 r (.T D [48,49] r (λa8 D=>?_) λa8 D=>?_))))
       . exact .G 1 r (.O r (.I AM .z r (.G 5 r (.H (je (decide ((A5 (f.At - s.1))<s.2)) D rf [2,2,1,0] r)))))
       exact .G 7 r (.H (je false D rf [2,2,1,0] r))
     refine λA D=>jq r λ_ P=>?_;have⟨_,_,x,a,e⟩:=P.u5 a7 v u a e;refine .A r D (λR D=>?_) λR D=>?_
     . refine .C (.G 3 r (.I AM .p3 r (.G 3 r (.I LY .p3 r (.bd bY underlying270 AlH r (.bs 1 NA SB bY r λ_=>?_))))));have⟨S,D⟩:=D;exact .ap (ys:=[({ Row:=d,Col:=A5 (f.At - s.1),Val:=f.Val }:A2)]) .p3 NA NA AlG r (.box .z (.one r) r) S λ_ _=>.D 1 3854733156296 r (.drop .p1 (.drop .p3 (.C (.G 2 r (.H λc w J O=>⟨_,D,_,_,jf x tv WZ r J O⟩)))))
     exact .P 3854733156296 r (.drop .p3 (.C (.G 2 r (.H λc w J O=>⟨_,D,_,_,jf x tv [2,0,0] r J O⟩))))
   exact .en 6442454984 r (.C (.G 2 r (.H λc w J O=>⟨_,D,_,_,jf v tv WZ r J O⟩)))
 refine .en 3392 r (.drop .p1 (.M 3 r (.y .z λ_ T q=>?_)));have⟨b0,c0⟩:=T.u2 t g;refine .ca call216 r (cM q D:) λ_ _ X Y=>?_;obtain⟨b1,d0,rfl,b2,D⟩:=Y;have⟨a3,_,q⟩:=X.u3 b0 c0 q;exact .R BL .z r (.L 64 r (.J (B5 r (.w CW BL r .z r .n) a3 ⟨b1,d0,r,b2,D⟩)))
theorem cN {a0 Q} (d:PE a0 Q) :
  B3 prog 146 [vi a0] I (λ_=>bV Q):=by
 refine Fun.ee func146 ntmps146 r (.M 1 r (.V 1 3 r (.T d [4,5] r (λa d=>?_) λa d=>?_)))
 . exact .D 4 4 r (.r0 results146 r ⟨(decide (a0<=8)),r,d⟩)
 exact .D 4 4 r (.r0 results146 r ⟨false,r,d⟩)
theorem Aj7 {a0 a1 Q} (h:kS a0 a1 Q) :
  B3 prog 190 [vi a0,vi a1] I (λ_=>bV Q):=by
 refine Fun.ee func190 ntmps190 r (.M 1 r (.V 3 3 r (.T h [6,7] r (λa h=>?_) λa h=>?_)))
 . refine .G 4 r (.T h [9,10,11] r (λb h=>?_) λb h=>?_)
   . refine .G 1 r ?_;refine .O r (.AE call146 r (cN (I:=I) h:) r r λ_ d=>?_);obtain⟨e,rfl,h⟩:=d;exact .D 2 16 r (.r0 results190 r ⟨e,r,h⟩)
   exact .D 4 16 r (.r0 results190 r ⟨false,r,h⟩)
 exact .D 8 16 r (.r0 results190 r ⟨false,r,h⟩)
theorem HW {a0 a1 a2 Q} (d:I9 a0 a1 a2 Q) :
  B3 prog 144 [vi a0,vi a1,vi a2] I (λ_=>Y6 Q):=by
 refine Fun.ee func144 ntmps144 r (.F (.D 1 7 r (.B (.M 2 r (.v call190 (Aj7 (I:=I) d:) r λ_ d=>.D 1 1031 r (.A r d (λa d=>?_) λa d=>?_))))))
 . exact .F (.D 1 64 r (.r0 results144 r ⟨0,r,d⟩))
 refine .P 7 r (.M 1 r (.maxI r r r r (.G 1 r (.minI r r r r (.G 3 r ?_)))));have⟨b,d⟩:=d;exact .quo r r b r r (.D 1 64 r (.r0 results144 r ⟨(A5 ((A5 ((if a1<(if 0 > a2 then 0 else a2) then a1 else (if 0 > a2 then 0 else a2))*a0)).tdiv a1)),r,d⟩))
theorem IK {a0 a1 a2 Q} (h:GJ a0 a1 a2 Q) :
  B3 prog 183 [vi a0,vi a1,vi a2] I (λ_=>AyC Q):=by
 exact Fun.ee func183 ntmps183 r (.F (.al fG r λ_=>.V 71 3 r (.v call144 (HW (I:=I) h:) r λc h=>.G 4 r (.v call144 (HW (I:=I) h:) r λd h=>.ba fG UA D3 r (.R fE .z r (.L 64 r (.J (B5 r (.w isAgg97 fE r .z r .n) rf ⟨(c,d),r,h⟩))))))))
theorem AgE {a0 a1 a2 a3 a4 Q} (U:nN I gb1 a0) (d:dJ a0 a1 a2 a3 a4 Q) :
  B3 prog 141 [.agg (KX a0 gb1),vi a1,vi a2,vi a3,vi a4] I (Au6 Q):=by
 refine Fun.ee func141 ntmps141 r (.F (.bx r λ_=>.al ON r λ_=>.L 1086 r (.B (.F (.S CW BL .p1 r (.v call180 (W5 U d:) r λ_ d=>.G 2 r (.T d [13,14] r (λe d=>?_) λe d=>?_)))))))
 . refine .D 7 2098238 r (.Q r r (.F (.bd ON qS uZ r (.ba fG UA D3 r (.ba fG UA D3 r ?_)))));refine .ca call182 r (eW (I:=I) (gb1:=((_,_),(_,_),(_,_))) (a0:=RZ) ⟨(.nil _ none 0),(.nil _ none 0),(.nil _ none 0)⟩ d:) λ_ _ a g=>?_;obtain⟨x,i,rfl,y,d⟩:=g;have U:=a.u1 U;exact .R BL .z r (.L 1024 r (.drop .p1 (.J (B5 r (.w CW BL r .z r .n) a ⟨x,i,r,y,d⟩))))
 refine .G 4 r ?_;refine .O r (.AE call181 r (ZB (I:=I) d:) r r λ_ k=>?_);obtain⟨_,rfl,d⟩:=k;refine .D 2 2098238 r (.A r d (λl d=>?_) λl d=>?_)
 . refine .F (.bd ON qS uZ r (.ba fG UA D3 r (.ba fG UA D3 r ?_)));refine .ca call182 r (eW (I:=I) (gb1:=((_,_),(_,_),(_,_))) (a0:=RZ) ⟨(.nil _ none 0),(.nil _ none 0),(.nil _ none 0)⟩ d:) λ_ _ b o=>?_;obtain⟨A,p,rfl,B,d⟩:=o;have U:=b.u1 U;exact .R BL .z r (.L 1024 r (.drop .p1 (.J (B5 r (.w CW BL r .z r .n) b ⟨A,p,r,B,d⟩))))
 refine .P 1086 r (.B (.dr [0,1,2,3,4,6,7,8,9,5,10,11] 12 (.h r (.S CW BL .p1 r .mk) (.K 1 r (.X AM 1 r (.K 3 r (.X AM 1 r (.K 2 r (.Y r (.v call183 (IK (I:=I) d:) r λ_ d=>?_))))))))));refine .q 2 r (.j 2 r r (.W r (.I AM .p1 r .mk) (.j 1 r r (.W r (.S CW BL .p1 r .mk) tv)))) (.Y r ?_);refine .v call183 (IK (I:=I) d:) r λ_ d=>?_;refine .q 2 r (.W r (.S CW BL .p1 r .mk) tv) (.Y r (.ca call182 r (eW U d:) λ_ _ c u=>?_));obtain⟨C,v,rfl,D,d⟩:=u;have U:=c.u1 U;exact .q 2 r tv (.e2 12 (.R BL .z r (.L 1024 r (.drop .p1 (.J (B5 r (.w CW BL r .z r .n) c ⟨C,v,r,D,d⟩))))))
theorem rA {Q} (d:X5 Q) :
  Ab1 prog 184 [] I (λ_ v l=>∃ r p1 c2 p4 c5 p7 c8 p10 c11,v=.agg #[vi r.Rows,vi r.Cols,.slice p1 r.At.length c2,.slice p4 r.Start.length c5,.slice p7 r.Row.length c8,.slice p10 r.Val.length c11]∧l=[OwnSl B0 3 p1 c2 r.At,OwnSl B0 3 p4 c5 r.Start,OwnSl B0 3 p7 c8 r.Row,OwnSl B0 2 p10 c11 r.Val]∧Q r):=by
 exact Fun.ee func184 ntmps184 r (.F (.al vE r λ_=>.ns 1 r (.bs 1 BE D3 jX r λ_=>.ownB (El:=B0) (ys:=([0]:List Int)) .z (.one r) r (.bd vE underlying189 AvL r (.R EG .p1 r (.L 1 r (.own0 B0 3 (.own0 B0 3 (.own0 B0 2 (.J (DZ r (.w H9 EG r .p4 r .n) rf (.o [2,2,1,0] r) ⟨({ Rows:=0,Cols:=0,At:=([]:List Int),Start:=([0]:List Int),Row:=([]:List Int),Val:=([]:List Int) }:BF),_,_,_,_,_,_,_,_,r,r,d⟩)))))))))))
theorem gK {a0 Q} (U:nN I gb1 a0) (D:RE a0 Q) :
  Ab1 prog 185 [.agg (KX a0 gb1)] I (λI_ v l=>∃ r p3 c4,v=.slice p3 r.length c4∧l=[OwnSl J8 270 p3 c4 r]∧Q r):=by
 refine Fun.ee func185 ntmps185 r ?_;refine .F (.bx r λ_=>?_);refine .G 1 r (.ns 2 r (.S CW BL .z r (.ca call227 r (UJ U D:) λ_ _ s P=>?_)));obtain⟨_,_,rfl,a,D⟩:=P;have U:=s.u1 U;refine .R BL .z r (.V 2 1 r (.L 10 r (.B (.M 1 r (.I AM .z r (.D 1 12298 r (.E (.own0 J8 270 (.lx D [12,1] [1] r (λj E l (e,b)=>λc w=>∃ f g,j ⟨42,[],none⟩ (λI_=>True) ((3,.slice f e.length g) :: (13,vi b) :: E) (OwnSl J8 270 f g e :: l) c w) (λc w J O=>⟨_,_,jf rf tv I5 r J O⟩) ?_)))))))));rintro⟨e,b⟩ _ D c w ⟨f,g,_,o,_,W,Z⟩;have⟨p,a⟩:=o.u2 s a;refine Cod.at W Z (.F (.D 1 28682 r (.B (.A r D (λx D=>?_) λx D=>?_))))
 . refine .P 12298 r (.B (.E (.M 2 r (.ns 12314 r (.S CW BL .p1 r (.G 1 r ?_))))));refine .ca call230 r (wH a D:) λ_ _ A B=>?_;obtain⟨_,_,_,_,_,rfl,h,i,D⟩:=B;have⟨C,a2,a⟩:=A.u3 p o a;refine .G 5 r (.V 12410 1 r (.ln BE r (.D 1 29372506 r (.E (.lx D [23,22,13,12,6,4,1] [1] r (λj E l (d,k)=>λc w=>∃ m n,j ⟨42,[],none⟩ (λI_=>True) ((3,.slice m d.length n) :: (24,vi k) :: E) (OwnSl J8 270 m n d :: l) c w) (λc w J O=>⟨_,_,jf rf tv I5 r J O⟩) ?_)))));rintro⟨d,k⟩ _ D c w ⟨m,n,_,q,_,W,Z⟩;have⟨_,F,a,h,i⟩:=q.u5 C a2 a h i;refine Cod.at W Z (.F (.D 1 62926938 r (.B (.A r D (λG D=>?_) λG D=>?_))))
   . refine .P 29372506 r (.B (.E (.M 1 r ?_)));have⟨R,t,H,_,_,S,a3,D⟩:=h.ix D;refine .U BE D3 S R H r (.x 0 AM a3 r (.D 2 29372890 r (.C (.G 5 r ?_))));have⟨T,u,K,_,_,a4,L,D⟩:=i.ix D;refine .U DF XP a4 T K r (.x 0 LY L r (.bd bY underlying270 AlH r (.bs 1 NA SB bY r λ_=>?_)));have⟨N,D⟩:=D;exact .ap (ys:=[({ Row:=b,Col:=t,Val:=u }:A2)]) .p1 NA NA AlG r (.box .z (.one r) r) N λ_ _=>.D 1 29372506 r (.drop .p1 (.C (.G 2 r (.H λc w J O=>⟨_,D,_,_,jf q tv I5 r J O⟩))))
   exact .en 12298 r (.C (.G 2 r (.H λc w J O=>⟨_,D,_,_,jf F tv I5 r J O⟩)))
 exact .en 8 r (.drop .p1 (.F (.D 2 4 r (.q1 results185 p [0] r ⟨e,_,_,r,r,D⟩))))
theorem AgF {a0 a1 Q} (J:dK a0 a1 Q) :
  B3 prog 232 [.agg (oE a0).toArray,.agg (oE a1).toArray] I (λ_=>Y6 Q):=by
 refine Fun.ee func232 ntmps232 r (.F (.bx r λ_=>.bx r λ_=>.D 1 12 r (.B (.dr Av4 12 (.K 1 r (.X AM 1 r (.K 1 r (.X AM 0 r (.K 1 r (.X AM 1 r (.K 1 r (.X AM 0 r (.Y r ?_)))))))))))));refine .v call160 (DL (I:=I) J:) r λf J=>.q 2 r (.W r (.I AM .z r .mk) (.j 1 r r (.W r (.I AM .p1 r .mk) (.j 1 r r tv)))) (.Y r (.v call160 (DL (I:=I) J:) r λa J=>.q 2 r tv (.Y r (.bs 2 BE D3 jX r λ_=>.q 3 r tv (.Y r (.pubB (El:=B0) (ys:=([f,a]:List Int)) (k:=2) .z (RepCs.cons (cs:=[vi f]) r (RepCs.cons (cs:=[vi a]) r .nil)) r λ_ d g=>?_))))));exact .v call136 (LR g J:) r λh J=>.q 2 r tv (.e2 12 (.D 1 16 r (.drop .z (.drop .z (.r1 results232 r d ⟨h,r,J⟩)))))
theorem Aj8 {a0 Q} (U:nN I gb1 a0) (O:kT a0 Q) :
  B3 prog 186 [.agg (KX a0 gb1)] I (Au6 Q):=by
 refine Fun.ee func186 ntmps186 r ?_;refine .F (.bx r λ_=>.al ON r λ_=>?_);refine .ns 6 r (.S CW BL .p1 r (.ca call227 r (UJ U O:) λ_ _ t a8=>?_));obtain⟨_,_,rfl,b,O⟩:=a8;have U:=t.u1 U;refine .R BL .p1 r (.ns 6 r (.S CW BL .p1 r ?_));refine .AF call185 r (gK b O:) r r λ_ _ _ Y a9=>?_;obtain⟨_,_,_,rfl,rfl,O⟩:=a9;have⟨a2,b⟩:=Y.u2 t b;refine .D 1 14 r (.B (.M 1 r (.ln NA r (.D 1 7182 r (.E (.lx O [11,2,1] [2,1] r (λj E l (e,i)=>λc w=>∃ g h,j ⟨36,[],none⟩ (λ_=>True) ((3,.slice g e.length h) :: (10,.slice g e.length h) :: (12,vi i) :: E) (OwnSl J8 270 g h e :: l) c w) (λc w W Z=>⟨_,_,jf rf tv [0,1,0] r W Z⟩) ?_))))));rintro⟨e,i⟩ _ O c w ⟨g,h,a3,k,_,b0,b1⟩;have⟨A,b⟩:=k.u2 a2 b;refine Cod.at b0 b1 (.F (.D 1 15374 r (.B (.A r O (λB O=>?_) λB O=>?_))))
 . refine .P 7182 r (.B (.E (.M 1 r ?_)));have⟨u,d,m,O⟩:=O;refine .AG .z (CS m) λ_ a4=>?_;cases a4;refine .u NA SB r r u (BG m u) r r (.loA (j:=0) isAgg270 SB .z m r r (.o 3 r) r r r (.al bY r λ_=>.G 1 r (.R SB .z r (.L 7230 r (.C (.G 3 r (.I AM .z r (.G 1 r (.I AM .z r (.G 1 r (.I LY .z r (.bd bY underlying270 AlH r ?_))))))))))));have⟨v,_,q,O⟩:=O;exact .u NA SB r r v (BG q v) r r (.stOA (j:=0) (v':=({ Row:=d.Col,Col:=d.Row,Val:=d.Val }:A2)) SB .p1 q r r r (.o r) r r (.rl .p1 [3,10,17] r (by simp only[QX]) (.L 7182 r (.drop .z (.C (.G 2 r (.H λc w W Z=>⟨_,O,_,_,jf k tv WZ r W Z⟩)))))))
 refine .en 14 r (.M 1 r ?_);have C:=Fun.sort (hk:=λ_=>⟨r,r⟩) AyR isAgg270 SB (λx y J Q hq=>AgF (I:=J) (a0:=x) (a1:=y) (Q:=Q) hq) call232 (I:=a3) (T:=270) (a:=g) (cap:=h) O;refine .cS (.f call231 r) (.o [0] r) r C λ_ _ _ D F=>?_;obtain⟨_,rfl,s,rfl,O⟩:=F;have⟨G,H,b⟩:=D.u3 A k b;refine .rl .z [3,28] r (by rw[s]) (.V 14 1 r (.I AM .p1 r (.G 1 r (.I AM .p1 r (.G 1 r (.y .z λ_ K p=>?_))))));have⟨L,N,b⟩:=K.u3 G H b;refine .ca call216 r (cM p O:) λ_ _ P R=>?_;obtain⟨a5,S,rfl,a6,O⟩:=R;have⟨a7,_,b,p⟩:=P.u4 L N b p;exact .R BL .p1 r (.L 4 r (.drop .z (.J (B5 r (.w CW BL r .z r .n) a7 ⟨a5,S,r,a6,O⟩))))
theorem AoM {a0 Q} (V:nN I gb1 a0) (O:rX a0 Q) :
  B3 prog 142 [.agg (KX a0 gb1)] I (AyD Q):=by
 refine Fun.ee func142 ntmps142 r ?_;refine .F (.bx r λ_=>.al vE r λ_=>?_);refine .ns 6 r (.AF call184 r (rA (I:=I) O:) r r λ_ _ _ L d3=>?_);obtain⟨f6,_,_,_,_,_,_,_,_,rfl,rfl,O⟩:=d3;have V:=L.u1 V;refine .al vE r λa8=>.R EG .z r (.L 14 r (.B (.F (.S CW BL .p6 r (.v call180 (W5 V O:) r λ_ O=>.D 1 1038 r (.A r O (λd5 O=>?_) λd5 O=>?_))))))
 . refine .F (.S H9 EG .z r (.R EG .p5 r (.L 4 r (.drop .z (.drop .p5 (.y .z λ_ d6 m=>?_))))));have d7:=d6.u1 L;refine .y .z λ_ d8 K=>?_;have⟨d9,m⟩:=d8.u2 d7 m;refine .y .z λ_ e0 X=>?_;have⟨e1,m,K⟩:=e0.u3 d9 m K;refine .y .z λ_ e3 f7=>?_;have⟨e4,m,K,X⟩:=e3.u4 e1 m K X;exact .J (B5 r (.w H9 EG r .z r .n) e4 ⟨f6,((_,_),(_,_),(_,_),(_,_)),r,⟨m,K,X,f7⟩,O⟩)
 refine .P 14 r (.B (.dr Aj3 6 (.K 1 r (.X AM 6 r (.K 1 r (.X AM 6 r (.K 1 r (.Y r ?_))))))));refine .s1 D3 .z r (.P 7 r r r (.W r (.I AM .p6 r .mk) (.j 1 r r tv)) (.e2 6 (.G 1 r (.s1 D3 .z r (.L 14 r (.B (.F (.S CW BL .p6 r ?_))))))));refine .ca call186 r (Aj8 V O:) λ_ _ a5 a6=>?_;obtain⟨_,_,rfl,N,O⟩:=a6;have⟨a7,V⟩:=a5.u2 L V;refine .AF call185 r (gK N O:) r r λ_ _ _ a9 b0=>?_;obtain⟨_,_,_,rfl,rfl,O⟩:=b0;have⟨b1,V,N⟩:=a9.u3 a7 V N;refine .ln NA r (.D 1 7340044 r (.drop .p7 (.E (.lx O [21,20,3,2] [6,0] r (λj E l (g,i,b,d,f5)=>λc w=>∃ P R S T s t u v,j ⟨79,[],none⟩ (λI_=>True) ((22,vi f5) :: E) (pc a8 #[vi a0.Rows,vi a0.Cols,.slice P g.length R,.slice S i.length T,.slice s b.length t,.slice u d.length v] 189 :: OwnSl B0 3 P R g :: OwnSl B0 3 S T i :: OwnSl B0 3 s t b :: OwnSl B0 2 u v d :: l) c w) (λc w W Z=>⟨_,_,_,_,_,_,_,_,jf rf tv [1,1,1,1,1,1,0] r W Z⟩) ?_))));rintro⟨g,i,b,d,f5⟩ _ O c w ⟨P,R,S,T,s,t,u,v,_,k,_,d2,d4⟩;have x:=k.u1 b1;refine Cod.at d2 d4 (.F (.D 1 15728652 r (.B (.A r O (λb2 O=>?_) λb2 O=>?_))))
 . refine .P 7340044 r (.B (.E (.F ?_)));have⟨Y,a,y,O⟩:=O;refine .AG .p6 (CS y) λ_ e5=>?_;cases e5;refine .u NA SB r r Y (BG y Y) r r (.loA (j:=0) isAgg270 SB .p6 y r r (.o 3 r) r r r (.al bY r λ_=>.R SB .z r (.L 7340076 r (.B (.jx O [22,21,20,5,3,2] [6,4,4,0,3] r (λj E l (e,p)=>λc w=>∃ A C U D,j ⟨79,[],none⟩ (λI_=>True) E (pc a8 #[vi a0.Rows,vi a0.Cols,.slice A e.length C,.slice U p.length D,.slice s b.length t,.slice u d.length v] 189 :: OwnSl B0 3 A C e :: OwnSl B0 3 U D p :: l) c w) (λ_ O=>?_) ?_)))))
   . refine .M 1 r (.I EJ .p1 r (.ln BE r (.D 1 7340140 r (.B (.jn O [22,21,20,5,3,2] [6,1,1,1,1,1,0,0] r (λj E l f8=>j ((41,.bool f8) :: E) l) (λ_ O=>?_) ?_)))))
     . refine .ownF .p2 λa1=>.ownF .p3 λ_=>.ownF .p4 λ_=>.ownF .p5 λ_=>.dr AxD 13 (.K 3 r ?_);refine D5 O (λF O=>?_) λF O=>?_
       . rw[F];exact .K 10 r (.e2 13 (.H (je true O rf [6,1,1,1,1,1,0,0] r)))
       rw[F];refine .K 1 r (.h r (.O r (.I EJ .p1 r .mk)) (.K 2 r ?_));have⟨a2,e6,G,O⟩:=O;have⟨_,e7⟩:=a1 (CS G);cases e7;exact .h r (.O r (.u BE D3 r r a2 (BG G a2) r r .mk)) (.h r (.O r (.lo1 (j:=0) AM .p2 G r r r r r .mk)) (.K 1 r (.h r (.O r (.I AM .z r .mk)) (.K 2 r (.e2 13 (.H (je (e6 != a.Row) O rf [6,1,1,1,1,1,0,0] r)))))))
     refine λf8 O=>jq r λ_ H=>?_;have⟨_,_⟩:=H.u2 x k;refine .A r O (λb3 O=>?_) λb3 O=>?_
     . refine .M 1 r (.I EJ .p1 r (.G 1 r (.I AM .p6 r (.bs 1 BE D3 jX r λ_=>?_))));have⟨b4,O⟩:=O;refine .ap (ys:=[a.Row]) .p3 BE BE IN3 r (.box .z (.one r) r) b4 λ_ _=>.G 1 r (.s1 aB .p3 r (.L 7340076 r (.drop .p1 (.C (.G 1 r (.I EJ .p2 r (.bs 1 BE D3 jX r λ_=>?_)))))));have⟨b5,O⟩:=O;exact .ap (ys:=[0]) .p4 BE BE IN3 r (.box .z (.one r) r) b5 λ_ _=>.G 1 r (.s1 aB .p4 r (.H λc w W Z=>⟨_,O,_,_,_,_,jf H tv [4,2,0,1,1,1,1,1] r W Z⟩))
     exact .AC λc w W Z=>⟨_,O,_,_,_,_,jf H tv [1,1,1,0,0,0,0,0] r W Z⟩
   rintro⟨e,p⟩ O c w ⟨A,C,U,D,_,b6,_,d2,d4⟩;have⟨_,b7⟩:=b6.u2 x k;refine Cod.at d2 d4 (.M 1 r (.I EJ .z r (.G 1 r (.I AM .p6 r (.bs 1 BE D3 jX r λ_=>?_)))));have⟨b8,O⟩:=O;refine .ap (ys:=[a.Col]) .p5 BE BE IN3 r (.box .z (.one r) r) b8 λe8 e9=>.G 1 r (.s1 aB .p2 r (.L 7340076 r (.drop .p1 (.M 1 r (.I FX .p1 r (.G 1 r (.I LY .p6 r (.bs 1 DF XP zv2 r λ_=>?_))))))));have⟨c0,O⟩:=O;refine .ap (ys:=[a.Val]) .p6 DF DF IN2 r (.box .z (.one r) r) c0 λf0 f1=>.G 1 r (.s1 sizeOf27 .p3 r (.L 7340044 r (.drop .p1 (.drop .p6 (.C (.G 1 r (.I EJ .p2 r (.G 1 r (.I EJ .p2 r ?_)))))))));refine .ln BE r (.G 1 r (.I EJ .p2 r (.ln BE r ?_)));have⟨a3,_,J,O⟩:=O;refine .AG .p4 (CS J) λf2 f3=>?_;cases f3;exact .u BE D3 r r a3 (BG J a3) r r (.stO1 (j:=0) (v':=((b++([a.Col])).length:Int)) D3 .p4 J r r r (.o r) r (.rl .p4 [69] r (by simp only[QX]) (.reat .p2 (B:=pc a8 #[vi a0.Rows,vi a0.Cols,.slice A e.length C,.slice (some ⟨f2,0,none⟩) (p.set ((e.length:Int).toNat) ((b++([a.Col])).length:Int)).length D,.slice e8 (b++([a.Col])).length e9,.slice f0 (d++([a.Val])).length f1] 189) (by simp only[QX]) (.L 7340044 r (.C (.G 2 r (.H λc w W Z=>⟨_,O,_,_,_,_,_,_,_,_,jf b7 tv [2,2,2,1,0,0,0] r W Z⟩)))))))
 refine .en 12 r (.drop .p6 (.F (.S H9 EG .z r (.R EG .p5 r (.L 4 r (.drop .z (.y .z λ_ c1 f=>?_)))))));have⟨c2,c3⟩:=c1.u2 x k;refine .y .z λ_ c4 q=>?_;have⟨c5,c6,f⟩:=c4.u3 c2 c3 f;refine .y .z λ_ c7 a4=>?_;have⟨c8,c9,f,q⟩:=c7.u4 c5 c6 f q;refine .y .z λ_ d0 f4=>?_;have⟨d1,_,f,q,a4⟩:=d0.u5 c8 c9 f q a4;exact .J (B5 r (.w H9 EG r .z r .n) d1 ⟨({ a0 with At:=g,Start:=i,Row:=b,Val:=d }:BF),((_,_),(_,_),(_,_),(_,_)),r,⟨f,q,a4,f4⟩,O⟩)
theorem gL {a0 Q} (d:RF a0 Q) :
  B3 prog 90 [vi a0] I (λ_=>Y6 Q):=by
 exact Fun.ee func90 ntmps90 r (.M 1 r (.V 1 1 r (.maxI r r r r (.minI r r r r (.G 1 r (.shr' r r (by decide) r r (.D 1 4 r (.r0 results90 r ⟨(shr .i64 (A5 ((if 4096<(if 0 > a0 then 0 else a0) then 4096 else (if 0 > a0 then 0 else a0))+63)) 6),r,d⟩))))))))
theorem RU {a0 Q} (h:N3 a0 Q) :
  Ab1 prog 56 [vi a0] I (λ_ v l=>∃ r p1 c2,v=.slice p1 r.length c2∧l=[OwnSl EH 85 p1 c2 r]∧Q r):=by
 exact Fun.ee func56 ntmps56 r (.M 1 r (.V 1 1 r (.v call90 (gL (I:=I) h:) r λb ⟨c,d,h⟩=>.make (El:=EH) (zv:=0) 8 GZ AnC r r r r r r c d r r r λ_=>.D 1 4 r (.q1 results56 rf [0] r ⟨(List.replicate b.toNat 0),_,_,r,r,h⟩))))
theorem cO {a0 a1 Q} (h:RepSl EH I p1 c2 a0) (d:NW a0 a1 Q) :
  B3 prog 57 [.slice p1 a0.length c2,vi a1] I (λ_=>bV Q):=by
 refine Fun.ee func57 ntmps57 r (.M 1 r (.V 3 3 r (.T d [6,7] r (λa d=>?_) λa d=>?_)))
 . exact .G 1 r (.O r (.shr' r r (by decide) r r (.G 1 r (.O r (.ln GZ r (.D 3 16 r (.r0 results57 r ⟨(decide ((shr .i64 a1 6)<(a0.length:Int))),r,d⟩)))))))
 exact .D 7 16 r (.r0 results57 r ⟨false,r,d⟩)
theorem rB {a0 Q} (d:X6 a0 Q) :
  B3 prog 58 [vi a0] I (λ_=>o6_ Q):=by
 refine Fun.ee func58 ntmps58 r (.M 1 r (.V 1 1 r (.conv nQ underlying86 r r r (.G 1 r ?_))));have⟨a,d⟩:=d;exact .shl' r r a r r (.D 1 4 r (.r0 results58 r ⟨(shl .u64 1 (Y4 .u64 (IntKind.wrap .u64 (a0)) 63)),r,d⟩))
theorem MY {a0 a1 Q} (V:RepSl B0 I p1 c2 a1) (U:JT a0 a1 Q) :
  B3 prog 27 [vi a0,.slice p1 a1.length c2] I (Ar4 Q):=by
 refine Fun.ee func27 ntmps27 r ?_;refine .M 1 r (.V 3 1 r ?_);refine .AF call56 r (RU (I:=I) U:) r r λ_ _ _ q P=>?_;obtain⟨_,_,_,rfl,rfl,U⟩:=P;have V:=q.u1 V;refine .D 1 35 r (.B (.M 1 r (.ln BE r (.D 1 7201 r (.E (.lx U [11,10,0] [] r (λj E l (a,d)=>λc w=>∃ e g,j ⟨35,[],none⟩ (λ_=>True) ((5,.slice e a.length g) :: (12,vi d) :: E) (OwnSl EH 85 e g a :: l) c w) (λc w W Z=>⟨_,_,jf rf tv [0] r W Z⟩) ?_))))));rintro⟨a,d⟩ _ U c w ⟨e,g,R,i,_,a5,a6⟩;have⟨m,V⟩:=i.u2 q V;refine Cod.at a5 a6 (.F (.D 1 15393 r (.B (.A r U (λy U=>?_) λy U=>?_))))
 . refine .P 7201 r (.B (.E (.F ?_)));have⟨S,_,A,_,_,a2,B,U⟩:=V.ix U;refine .U BE D3 a2 S A r (.x 0 AM B r (.D 1 7329 r (.B (.jn U [12,11,10,7,5,0] [0] r (λj E l s=>j ((23,.bool s) :: E) l) (λ_ U=>?_) ?_))))
   . refine .C (.G 4 r (.T U [18,19] r (λC U=>?_) λC U=>?_))
     . refine .G 2 r ?_;have D:=λ(J:IH) (hJ:IH.le R J) (hL:V6 J [OwnSl EH 85 e g a])=>cO (I:=J) (ApP hL.1) U;refine .O r (.callB (.f call57 r) (.o [0] r) D r r λ_ _ F=>?_);obtain⟨a3,rfl,U⟩:=F;exact .G 1 r (.H (je a3 U rf [0] r))
     exact .G 4 r (.H (je false U rf [0] r))
   refine λs U=>jq r λa4 G=>?_;have⟨_,n,V⟩:=G.u3 m i V;refine .A r U (λH U=>?_) λH U=>?_
   . refine .ownF .z λt=>.dr [0,1,2,3,4,5,6,7] 8 (.K 2 r (.h r (.shr' r r (by decide) r r .mk) ?_));have⟨k,u,b,U⟩:=U;have⟨_,X⟩:=t (CS b);cases X;refine .h r (.u GZ G9 r r k (BG b k) r r .mk) (.h r (.lo1 (j:=0) FI .z b r r r r r .mk) (.K 1 r (.Y r (.v call58 (rB (I:=a4) U:) r λv U=>?_))));refine .q 1 r (.W r (.lo1 (j:=0) FI .z b r r r r r .mk) (.W r (.u GZ G9 r r k (BG b k) r r .mk) (.W r (.shr' r r (by decide) r r .mk) (.j 2 r r tv)))) (.K 1 r (.e2 8 ?_));have⟨x,_,p,U⟩:=U;exact .u GZ G9 r r x (BG p x) r r (.stO1 (j:=0) (v':=(yX .u64 u v)) G9 .z p r r r (.o r) r (.rl .z [5,24] r (by simp only[QX]) (.L 7201 r (.C (.G 2 r (.H λc w W Z=>⟨_,U,_,_,jf n tv [0] r W Z⟩))))))
   exact .P 7201 r (.C (.G 2 r (.H λc w W Z=>⟨_,U,_,_,jf n tv [0] r W Z⟩)))
 refine .en 32 r (.F (.D 2 16 r (.y .z λ_ L Y=>?_)));have⟨N,_⟩:=L.u2 m i;exact .r1 results27 r N ⟨a,_,_,r,Y,U⟩
theorem Ad6 {a0 Q} (h:YB a0 Q) :
  B3 prog 61 [.int .u64 a0] I (λ_=>Y6 Q):=by
 refine Fun.ee func61 ntmps61 r (.F (.D 1 1 r (.scope (.F (.D 1 9 r (.B (.labelS 9 r r (.B (.E (.lp h [] [] r (λj E l (c,a)=>j ((0,.int .u64 c) :: (3,vi a) :: E) l) (ji rf [] r) ?_))))))))));rintro⟨c,a⟩ _ h;refine jq r λ_ b=>.E (.B (.F (.D 2 41 r (.A r h (λd h=>?_) λd h=>?_))))
 . exact .en 8 r (.F (.D 2 4 r (.r1 results61 r b ⟨a,r,h⟩)))
 exact .P 9 r (.F (.D 5 9 r (.C (.G 3 r (.H (je (Y4 .u64 c (IntKind.wrap .u64 (c - 1)),A5 (a+1)) h b [] r))))))
theorem QW {a0 Q} (J:RepSl EH I p1 c2 a0) (h:KS a0 Q) :
  B3 prog 30 [.slice p1 a0.length c2] I (λ_=>Y6 Q):=by
 refine Fun.ee func30 ntmps30 r (.M 1 r (.V 1 1 r (.L 9 r (.B (.M 1 r (.ln GZ r (.D 1 456 r (.E (.lp h [7,6] [] r (λj E l (b,c)=>j ((3,vi b) :: (8,vi c) :: E) l) (ji rf [] r) ?_)))))))));rintro⟨b,c⟩ _ h;refine jq r λi a=>?_;have J:=a.u1 J;refine .F (.D 1 968 r (.B (.A r h (λd h=>?_) λd h=>?_)))
 . refine .P 456 r (.B (.E (.F ?_)));have⟨k,_,e,_,_,m,f,h⟩:=J.ix h;exact .U GZ G9 m k e r (.x 0 FI f r (.D 1 488 r (.C (.G 2 r (.v call61 (Ad6 (I:=i) h:) r λn h=>.D 2 456 r (.C (.G 2 r (.H (je (A5 (b+n),A5 (c+1)) h a [] r)))))))))
 exact .en 8 r (.F (.D 2 4 r (.r1 results30 r a ⟨b,r,h⟩)))
theorem XV {a0 Q} (h:RepSl EH I p1 c2 a0) (J:KT a0 Q) :
  Fun prog 236 #[.slice p1 a0.length c2] I [] (λd v l=>∃ r b4 p5 c6,v=.func (.func 269) #[] #[vp b4]∧RepSl EH d p5 c6 r∧l=[pc b4 #[.slice p5 r.length c6] 40]∧Q r):=by
 exact Fun.ee func236 ntmps236 r (.F (.box1 r r r r λb4=>.G 1 r (.ns 2 r (.mkFn r r r r (.D 1 4 r (.q1 results236 rf [0] r ⟨a0,_,_,_,r,h,r,J⟩))))))
theorem jE {o0 o1 o2 o3 Y Q} (hY:∀ {J_:IH},I.le J_->∀ {y11:Nat} {y12:Int} {y14:Int} {x16:Int} {Qy:(Bool×Nat×Int)->Prop},Y y11 y12 y14 x16 Qy->RFun prog lr [vi x16] J_ [Rr y11,pc b5 #[vi y12] 3,pc b6 #[vi y14] 3] (λI_ v l=>∃ r,v=.bool r.1∧l=[Rr r.2.1,pc b5 #[vi y12] 3,pc b6 #[vi r.2.2] 3]∧Qy r)) (W:RepSl EH I p8 c9 o3) (D:PF o0 o1 o2 o3 Y Q) :
  Fun prog 269 #[.func (.yield lr) #[] #[],vp b7] I [Rr o0,pc b5 #[vi o1] 3,pc b6 #[vi o2] 3,pc b7 #[.slice p8 o3.length c9] 40] (λI_ v l=>∃ r,v=.tuple #[]∧l=[Rr r.1,pc b5 #[vi o1] 3,pc b6 #[vi r.2] 3,pc b7 #[.slice p8 o3.length c9] 40]∧Q r):=by
 refine Fun.ee func269 ntmps269 r (.F (.I P1 .p3 r (.ln GZ r (.D 1 451 r (.E (.lp D [7,6,1,0] [1,2] r (λj E l (i,k,m)=>j ((8,vi k) :: E) (pc b6 #[vi i] 3 :: Rr m :: l)) (ji rf [2,0,0,0] r) ?_))))));rintro⟨i,k,m⟩ _ D;refine jq r λ_ d=>?_;have W:=d.u1 W;refine .F (.D 1 963 r (.B (.A r D (λp D=>?_) λp D=>?_)))
 . refine .P 451 r (.B (.E (.M 1 r ?_)));have⟨C,_,q,_,_,a2,s,D⟩:=W.ix D;refine .U GZ G9 a2 C q r (.x 0 FI s r (.G 2 r (.V 475 1 r (.shl' r r (by decide) r r (.D 1 499 r (.E (.lp D [8,7,6,1,0] [2,2] r (λj E l (a,e,b,c)=>j ((4,.int .u64 e) :: (5,vi b) :: E) (pc b6 #[vi a] 3 :: Rr c :: l)) (ji rf W0 r) ?_)))))));rintro⟨a,e,b,c⟩ _ D;refine jq r λF f=>?_;have⟨g,W⟩:=f.u2 d W;refine .B (.F (.D 2 66035 r (.A r D (λt D=>?_) λt D=>?_)))
   . refine .P 499 r (.B (.E (.M 4 r (.T D [23,24] r (λu D=>?_) λu D=>?_))))
     . refine .G 2 r ?_;have w:=hY (J_:=F) g (y11:=c) (y12:=o1) (y14:=a) (x16:=b) D;refine .O r (.callY r r (.o [1,1,0] r) w r r λ_ _ _ x y=>?_);obtain⟨h,rfl,rfl,D⟩:=y;have⟨z,A,W⟩:=x.u3 g f W;refine .rn 4 r (.D 2 536871411 r (.A r D (λB D=>?_) λB D=>?_))
       . exact .J (DZ r .n z (.o W0 r) ⟨(h.2.1,h.2.2),r,r,D⟩)
       exact .P 499 r (.C (.G 1 r (.shr' r r (by decide) r r (.G 4 r (.H (je (h.2.2,shr .u64 e 1,A5 (b+1),h.2.1) D A [2,0,0,0] r))))))
     exact .D 5 536871411 r (.Z r r (.P 499 r (.C (.G 1 r (.shr' r r (by decide) r r (.G 4 r (.H (je (a,shr .u64 e 1,A5 (b+1),c) D f W0 r))))))))
   exact .en 451 r (.C (.G 2 r (.H (je (a,A5 (k+1),c) D g W0 r))))
 exact .exit (JR r .n d (.o Aj4 r) ⟨(m,i),r,r,D⟩)
theorem ZC {a0 a1 Q} (R3:RepSl EH I p1 c2 a0) (hd:PG a0 a1 Q) :
  B3 prog 335 [.slice p1 a0.length c2,vi a1] I (λ_=>Y6 Q):=by
 refine Fun.en func335 ntmps335 r λw0 M=>?_;refine .marks0 (.F (.box1 r r r r λA=>.alloc1 jX r r r λl=>?_));refine .L 25 r (.B (.M 1 r (.cS (.f call236 r) .n r (XV R3 hd:) λB m C b g=>?_)));obtain⟨p,q,t,u,rfl,a,rfl,hd⟩:=g;have R3:=b.u1 R3;refine .rn 4 r (.L 152 r (.E (.rangeF [.ret] r call269 (.o [3,2,1,0] r) λlr D rc hrc=>?_)));refine⟨_,jE (I:=m) (lr:=lr) (Rr:=eZ lr [.ret] rc) (o0:=0) (o1:=a1) (o2:=0) (o3:=p) (b5:=A) (b6:=l) (b7:=q) (p8:=t) (c9:=u) ?_ a hd,?_⟩
 . intro I hJ E F v x Qy  hd
   replace a:=hJ.u1 a
   obtain⟨rfl,hd⟩:=hd;refine RFun.mk hrc r λw0 M=>.C (.G 1 r (.H λc w ho hs=>tF (E':=[(3,_),(4,_),(5,_)]) ho ⟨r,r,r,tv⟩ hs .z (.E (.M 1 r (.I AM .p1 r (.D 1 2096 r (.A r hd (λh hd=>?_) λh hd=>?_)))))))
   . exact .M 1 r (.s1 D3 .p2 r (.L 0 r (.J λc w ho hs=>AhK (js:=[.ret]) 1 (.inr rfl) rf .z (.o I5 rfl) ⟨(false,1,x),rfl,rfl,hd⟩ hs)))
   exact .AC λc w ho hs=>AhK 0 (.inl rfl) rf .z (.o I5 rfl) ⟨(true,0,v),rfl,rfl,hd⟩ hs
 intro G H l' j k;obtain⟨y,rfl,rfl,hd⟩:=k;have⟨d,a⟩:=j.u2 b a;refine⟨_,_,r,λhj=>?_,λi hj=>?_⟩
 . have hd:=hd.1 (decide_eq_true hj);exact .rn 4 r (.mkS 16 r r (.drop .p1 (.drop .p2 (.F (.s1 D3 .p1 r (.L 16 r (.J (zD .z results335 (.s AM r .z .n) d ⟨(-1),r,hd⟩))))))))
 have⟨hz,hd⟩:=hd.2 (decide_eq_false (by omega));obtain rfl:i=0:=by omega
 refine⟨_,r,?_⟩;exact .rn 4 r (.J (zD .z results335 (.s AM r .p1 .n) d ⟨y.2,r,hd⟩))
theorem gM {a0 a1 Q} (U:RepSl EH I p1 c2 a0) (J:RG a0 a1 Q) :
  B3 prog 308 [.slice p1 a0.length c2,vi a1] I (λ_=>bV Q):=by
 refine Fun.ee func308 ntmps308 r (.M 1 r (.V 3 3 r (.T J [6,7] r (λd J=>?_) λd J=>?_)))
 . refine .G 4 r (.T J [9,10,11] r (λe J=>?_) λe J=>?_)
   . refine .G 1 r (.O r (.ln GZ r (.G 1 r ?_)));refine .O r (.AE call90 r (gL (I:=I) J:) r r λ_ g=>?_);obtain⟨_,rfl,J⟩:=g;refine .G 3 r (.T J [16,17,18] r (λa J=>?_) λa J=>?_)
     . refine .G 2 r ?_;refine .O r (.AE call335 r (ZC U J:) r r λ_ c=>?_);obtain⟨h,rfl,J⟩:=c;exact .D 3 16 r (.r0 results308 r ⟨(decide (h<0)),r,J⟩)
     exact .D 6 16 r (.r0 results308 r ⟨false,r,J⟩)
   exact .D 13 16 r (.r0 results308 r ⟨false,r,J⟩)
 exact .D 17 16 r (.r0 results308 r ⟨false,r,J⟩)
theorem Aj9 {a0 a1 Q} (J:RepSl B0 I p1 c2 a0.Draws) (U:iA I gg4 a1) (h:tM a0 a1 Q) :
  B3 prog 266 [.agg (LU a0 p1 c2),.agg (GM a1 gg4)] I (λ_=>bV Q):=by
 refine Fun.ee func266 ntmps266 r (.F (.bx r λ_=>.bx r λ_=>.D 1 12 r (.B (.F (.S QB QA .p1 r (.v call164 (ZA J h:) r λ_ h=>.G 2 r (.T h [8,9] r (λb h=>?_) λb h=>?_)))))))
 . exact .D 18 134217736 r (.drop .p1 (.Q r r (.F (.D 1 16 r (.drop .z (.r0 results266 r ⟨false,r,h⟩))))))
 refine .G 1 r (.O r (.I AM .z r (.G 3 r (.T h [12,13,14] r (λc h=>?_) λc h=>?_))))
 . exact .D 13 134217736 r (.drop .p1 (.Q r r (.F (.D 1 16 r (.drop .z (.r0 results266 r ⟨false,r,h⟩))))))
 refine .G 1 r (.O r (.I AM .z r (.G 1 r (.O r (.I AM .z r (.G 3 r (.T h [19,20,21] r (λd h=>?_) λd h=>?_)))))))
 . exact .D 6 134217736 r (.drop .p1 (.Q r r (.F (.D 1 16 r (.drop .z (.r0 results266 r ⟨false,r,h⟩))))))
 refine .G 1 r (.O r (.I AM .z r (.G 1 r (.O r (.I AM .p1 r (.D 2 134217736 r (.drop .p1 (.A r h (λe h=>?_) λe h=>?_))))))))
 . exact .F (.D 1 16 r (.drop .z (.r0 results266 r ⟨false,r,h⟩)))
 refine .P 8 r (.M 1 r (.I AM .z r (.G 1 r (.I AM .z r (.G 2 r (.V 40 1 r (.I FX .z r (.ln DF r (.G 3 r (.T h [37,38] r (λf h=>?_) λf h=>?_))))))))))
 . refine .G 1 r (.O r (.I FX .z r (.O r (.ln DF r (.G 4 r (.T h [43,44,45] r (λg h=>?_) λg h=>?_))))))
   . refine .G 1 r (.O r (.I P1 .z r (.G 1 r ?_)));refine .O r (.AE call308 r (gM U.2.2 h:) r r λ_ i=>?_);obtain⟨j,rfl,h⟩:=i;exact .D 2 16 r (.drop .z (.r0 results266 r ⟨j,r,h⟩))
   exact .D 6 16 r (.drop .z (.r0 results266 r ⟨false,r,h⟩))
 exact .D 13 16 r (.drop .z (.r0 results266 r ⟨false,r,h⟩))
theorem W6 {a0 a1 Q} (U:RepSl B0 I p1 c2 a0.Draws) (h:iA I gg4 a1) (d:PH a0 a1 Q) :
  B3 prog 233 [.agg (LU a0 p1 c2),.agg (GM a1 gg4)] I (λO v=>∃ r D,v=.agg (GM r D)∧iA O D r∧Q r):=by
 refine Fun.ee func233 ntmps233 r (.F (.bx r λ_=>.bx r λ_=>.al NK r λ_=>.L 28 r (.B (.F (.S QB QA .p2 r (.S JP DJ .p1 r (.v call266 (Aj9 U h d:) r λ_ d=>.L 152 r (.drop .p2 (.A r d (λb d=>?_) λb d=>?_)))))))))
 . exact .F (.S JP DJ .p1 r (.R DJ .z r (.L 16 r (.drop .p1 (.J (B5 r (.w JP DJ r .z r .n) rf ⟨a1,gg4,r,h,d⟩))))))
 exact .P 16 r (.drop .p1 (.F (.bd NK fD mD r (.R DJ .z r (.L 16 r (.J (B5 r (.w JP DJ r .z r .n) rf ⟨FY,((_,_),(_,_),(_,_)),r,⟨(.nil _ _ _),(.nil _ _ _),(.nil _ _ _)⟩,d⟩)))))))
theorem AgG {a0 a1 a2 Q} (O:RepSl B0 I p1 c2 a0.Draws) (W:iA I gg4 a1) (J:dL a0 a1 a2 Q) :
  B3 prog 191 [.agg (LU a0 p1 c2),.agg (GM a1 gg4),vi a2] I (λ_=>Y6 Q):=by
 refine Fun.ee func191 ntmps191 r ?_;refine .F (.bx r λ_=>.bx r λ_=>?_);refine .G 1 r (.ns 28 r (.S QB QA .p1 r (.S JP DJ .z r (.ca call233 r (W6 O W J:) λ_ _ a g=>?_))));obtain⟨_,_,rfl,b,J⟩:=g;have⟨O,W⟩:=a.u2 O W;refine .R DJ .z r (.L 28 r (.B (.M 1 r (.I fF .p1 r (.L 16412 r (.E (.F (.D 2 49180 r (.A r J (λh J=>?_) λh J=>?_)))))))))
 . refine .M 2 r (.I AM .p1 r (.D 1 1048592 r (.drop .p1 (.A r J (λi J=>?_) λi J=>?_))))
   . exact .F (.D 1 64 r (.drop .z (.r1 results191 r a ⟨0,r,J⟩)))
   exact .P 16 r (.M 1 r (.I P1 .z r (.v call30 (QW b.2.2 J:) r λu J=>.D 1 64 r (.drop .z (.r1 results191 r a ⟨u,r,J⟩)))))
 refine .F (.D 2 2097168 r (.drop .p1 (.A r J (λm J=>?_) λm J=>?_)))
 . refine .F (.D 1 144 r (.B (.M 1 r (.I FX .z r (.ln DF r (.D 1 117440640 r (.drop .z (.E (.lp J [25,24] [] r (λj E l (c,e)=>j ((7,vi c) :: (26,vi e) :: E) l) (ji rf [] r) ?_)))))))));rintro⟨c,e⟩ _ J;refine jq r λ_ d=>?_;have⟨n,b⟩:=d.u2 a b;refine .F (.D 1 251658368 r (.B (.A r J (λo J=>?_) λo J=>?_)))
   . refine .P 117440640 r (.B (.E (.F ?_)));have⟨w,_,p,_,_,x,q,J⟩:=b.1.ix J;refine .U DF XP x w p r (.x 0 LY q r (.G 1 r (.V 117441152 2 r (.L 2264924288 r (.A r J (λs J=>?_) λs J=>?_)))))
     . exact .C (.D 3 117440640 r (.C (.G 2 r (.H (je (A5 (c+1),A5 (e+1)) J d [] r)))))
     exact .P 117440640 r (.C (.G 2 r (.H (je (c,A5 (e+1)) J d [] r))))
   exact .en 128 r (.F (.D 2 64 r (.r1 results191 r n ⟨c,r,J⟩)))
 exact .P 16 r (.M 1 r (.I P1 .z r (.v call30 (QW b.2.2 J:) r λy J=>.D 1 64 r (.drop .z (.r1 results191 r a ⟨y,r,J⟩)))))
theorem Ad7 {a0 a1 a2 Q} (h:iF a0 a1 a2 Q) :
  B3 prog 267 [vi a0,vi a1,vi a2] I (λ_=>Y6 Q):=by
 refine Fun.ee func267 ntmps267 r (.F (.D 1 7 r (.B (.M 1 r (.v call146 (cN (I:=I) h:) r λ_ h=>.G 2 r (.T h [9,10] r (λb h=>?_) λb h=>?_))))))
 . exact .D 16 67108871 r (.Q r r (.F (.D 1 64 r (.r0 results267 r ⟨(-1),r,h⟩))))
 refine .G 4 r (.T h [12,13,14] r (λc h=>?_) λc h=>?_)
 . exact .D 12 67108871 r (.Q r r (.F (.D 1 64 r (.r0 results267 r ⟨(-1),r,h⟩))))
 refine .G 4 r (.T h [16,17,18] r (λd h=>?_) λd h=>?_)
 . exact .D 8 67108871 r (.Q r r (.F (.D 1 64 r (.r0 results267 r ⟨(-1),r,h⟩))))
 refine .G 4 r (.T h [20,21,22] r (λe h=>?_) λe h=>?_)
 . exact .D 4 67108871 r (.Q r r (.F (.D 1 64 r (.r0 results267 r ⟨(-1),r,h⟩))))
 refine .D 4 67108871 r (.A r h (λf h=>?_) λf h=>?_)
 . exact .F (.D 1 64 r (.r0 results267 r ⟨(-1),r,h⟩))
 exact .P 7 r (.F (.D 6 64 r (.r0 results267 r ⟨(A5 ((A5 (a1*a0))+a2)),r,h⟩)))
theorem jF {a0 a1 Q} (h:X7 a0 a1 Q) :
  B3 prog 110 [vi a0,vi a1] I (λ_=>Y6 Q):=by
 refine Fun.ee func110 ntmps110 r (.F (.D 1 3 r (.B (.M 1 r (.v call146 (cN (I:=I) h:) r λ_ h=>.G 2 r (.T h [7,8] r (λb h=>?_) λb h=>?_))))))
 . exact .D 9 131075 r (.Q r r (.F (.D 1 16 r (.r0 results110 r ⟨(-1),r,h⟩))))
 refine .G 4 r (.T h [10,11,12] r (λc h=>?_) λc h=>?_)
 . exact .D 5 131075 r (.Q r r (.F (.D 1 16 r (.r0 results110 r ⟨(-1),r,h⟩))))
 refine .D 5 131075 r (.A r h (λd h=>?_) λd h=>?_)
 . exact .F (.D 1 16 r (.r0 results110 r ⟨(-1),r,h⟩))
 refine .P 3 r (.M 2 r ?_);have⟨e,h⟩:=h;exact .quo r r e r r (.D 1 16 r (.r0 results110 r ⟨(A5 (a1.tdiv a0)),r,h⟩))
theorem ZD {a0 a1 Q} (d:TN a0 a1 Q) :
  B3 prog 111 [vi a0,vi a1] I (λ_=>Y6 Q):=by
 refine Fun.ee func111 ntmps111 r (.F (.D 1 3 r (.B (.M 2 r (.v call110 (jF (I:=I) d:) r λ_ d=>.D 1 259 r (.A r d (λb d=>?_) λb d=>?_))))))
 . exact .F (.D 1 16 r (.r0 results111 r ⟨(-1),r,d⟩))
 refine .P 3 r (.M 2 r ?_);have⟨c,d⟩:=d;exact .rem r r c r r (.D 1 16 r (.r0 results111 r ⟨(a1.tmod a0),r,d⟩))
theorem GB {a0 Q} (J:RepSl EH I p1 c2 a0) (h:BW a0 Q) :
  B3 prog 120 [.slice p1 a0.length c2] I (Ar4 Q):=by
 refine Fun.ee func120 ntmps120 r (.F (.D 1 1 r (.B (.M 1 r (.eqNilS GZ r r r r (.L 17 r ?_))))));refine split p1.isNone (λa=>?_) (λa=>?_)
 . have h:=h.1 (RepSl.ofNone J a);exact .Q r a (.F (.D 1 4 r (.r0 results120 r ⟨([]:List Int),_,_,r,(.nil _ _ _),h⟩)))
 have h:=h.2;refine .Z r a (.P 1 r (.F (.bs 0 GZ G9 zeroValue85 r λ_=>.G 1 r (.ownB (El:=EH) (ys:=([]:List Int)) .z .nil r ?_))));have⟨b,h⟩:=h;exact .ap (ys:=a0) .z GZ GZ AnC r (.imm J r) b λ_ _=>.D 1 4 r (.y .z λ_ c d=>.r1 results120 r c ⟨(([]:List Int)++a0),_,_,r,d,h⟩)
theorem jG {o0 o1 o2 Y Q} (hY:∀ {J_:IH},I.le J_->∀ {y13:Nat} {y14:List Int} {x20:Int} {p16:Option Addr} {c17:Nat} {Qy:(Bool×Nat×(List Int))->Prop},Y y13 y14 x20 Qy->RFun prog lr [vi x20] J_ [Rr y13,pc b4 #[.slice p16 y14.length c17] 30,OwnSl B0 3 p16 c17 y14] (λI_ v l=>∃ r a8 a6,v=.bool r.1∧l=[Rr r.2.1,pc b4 #[.slice a8 r.2.2.length a6] 30,OwnSl B0 3 a8 a6 r.2.2]∧Qy r)) (W:RepSl EH I p10 c11 o2) (d:PI o0 o1 o2 Y Q) :
  Fun prog 269 #[.func (.yield lr) #[] #[],vp b9] I [Rr o0,pc b4 #[.slice p5 o1.length c6] 30,OwnSl B0 3 p5 c6 o1,pc b9 #[.slice p10 o2.length c11] 40] (λI_ v l=>∃ r a7 a5,v=.tuple #[]∧l=[Rr r.1,pc b4 #[.slice a7 r.2.length a5] 30,OwnSl B0 3 a7 a5 r.2,pc b9 #[.slice p10 o2.length c11] 40]∧Q r):=by
 refine Fun.ee func269 ntmps269 r (.F (.I P1 .p3 r (.ln GZ r (.D 1 451 r (.E (.lx d [7,6,1,0] [3] r (λj E l (e,q,s)=>λc w=>∃ t u,j ⟨31,[],none⟩ (λI_=>True) ((8,vi q) :: E) (pc b4 #[.slice t e.length u] 30 :: OwnSl B0 3 t u e :: Rr s :: l) c w) (λc w D J=>⟨_,_,jf rf tv Aj4 r D J⟩) ?_))))));rintro⟨e,q,s⟩ _ d c w ⟨t,u,_,f,_,a3,a4⟩;have W:=f.u1 W;refine Cod.at a3 a4 (.F (.D 1 963 r (.B (.A r d (λx d=>?_) λx d=>?_))))
 . refine .P 451 r (.B (.E (.M 1 r ?_)));have⟨K,_,y,_,_,L,z,d⟩:=W.ix d;refine .U GZ G9 L K y r (.x 0 FI z r (.G 2 r (.V 475 1 r (.shl' r r (by decide) r r (.D 1 499 r (.E (.lx d [8,7,6,1,0] [3] r (λj E l (a,g,b,a2)=>λc w=>∃ h i,j ⟨31,[],none⟩ (λI_=>True) ((4,.int .u64 g) :: (5,vi b) :: E) (pc b4 #[.slice h a.length i] 30 :: OwnSl B0 3 h i a :: Rr a2 :: l) c w) (λc w D J=>⟨_,_,jf rf tv W0 r D J⟩) ?_)))))));rintro⟨a,g,b,a2⟩ _ d c w ⟨h,i,N,k,_,a3,a4⟩;have⟨m,W⟩:=k.u2 f W;refine Cod.at a3 a4 (.B (.F (.D 2 66035 r (.A r d (λA d=>?_) λA d=>?_))))
   . refine .P 499 r (.B (.E (.M 4 r (.T d [23,24] r (λB d=>?_) λB d=>?_))))
     . refine .G 2 r ?_;have C:=hY (J_:=N) m (y13:=a2) (y14:=a) (x20:=b) (p16:=h) (c17:=i) d;refine .O r (.callY r r (.o [2,0,0] r) C r r λ_ _ _ a9 F=>?_);obtain⟨p,_,_,rfl,rfl,d⟩:=F;have⟨G,H,W⟩:=a9.u3 m k W;refine .rn 4 r (.D 2 536871411 r (.A r d (λb0 d=>?_) λb0 d=>?_))
       . exact .J (DZ r .n G (.o W0 r) ⟨(p.2.1,p.2.2),_,_,r,r,d⟩)
       exact .P 499 r (.C (.G 1 r (.shr' r r (by decide) r r (.G 4 r (.H λc w D J=>⟨_,d,_,_,jf H tv Aj4 r D J⟩)))))
     exact .D 5 536871411 r (.Z r r (.P 499 r (.C (.G 1 r (.shr' r r (by decide) r r (.G 4 r (.H λc w D J=>⟨_,d,_,_,jf k tv W0 r D J⟩)))))))
   exact .en 451 r (.C (.G 2 r (.H λc w D J=>⟨_,d,_,_,jf m tv W0 r D J⟩)))
 exact .exit (JR r .n f (.o [2,0,0,0] r) ⟨(s,e),_,_,r,r,d⟩)
theorem QM {o0 Q} (R5:RepSl EH I p3 c4 o0) (hd:G7 o0 Q) :
  Fun prog 268 #[.slice none 0 0,.func (.func 269) #[] #[vp b2]] I [pc b2 #[.slice p3 o0.length c4] 40] (λI_ v l=>∃ r p6 c7,v=.slice p6 r.length c7∧RepSl B0 I_ p6 c7 r∧l=[pc b2 #[.slice p3 o0.length c4] 40]∧Q r):=by
 refine Fun.en func268 ntmps268 r λw0 M=>.marks0 (.F (.box1 r r r r λm=>.D 1 6 r (.B (.F (.D 1 70 r (.E (.own0 B0 3 (.rangeF [] r call269 (.o [2,1,0,0] r) λlr D rc hrc=>?_))))))));refine⟨_,jG (I:=I) (lr:=lr) (Rr:=eZ lr [] rc) (o0:=0) (o1:=([]:List Int)) (o2:=o0) (b4:=m) (p5:=none) (c6:=0) (b9:=b2) (p10:=p3) (c11:=c4) ?_ R5 hd,?_⟩
 . intro I hJ p h b q s Qy  hd
   replace R5:=hJ.u1 R5
   obtain⟨rfl,hd⟩:=hd;refine RFun.mk hrc r λw0 M=>.C (.G 1 r (.H λc w ho hs=>tF (E':=[(2,_),(5,_)]) ho ⟨r,r,tv⟩ hs .z (.E (.C (.I EJ .p1 r (.G 1 r (.bs 1 BE D3 jX r λu=>?_)))))));have⟨d,hd⟩:=hd;exact .ap (ys:=[b]) .p3 BE BE IN3 r (.box .z (.one r) r) d λx y=>.s1 aB .p3 r (.H λc w ho hs=>AhK 0 (.inl rfl) rf .p2 (.o [2,0] rfl) ⟨(true,0,(h++([b]))),_,_,rfl,rfl,hd⟩ hs)
 intro A B l' a e;obtain⟨j,C,E,rfl,rfl,hd⟩:=e;have R5:=a.u1 R5;have⟨hz,hd⟩:=hd;refine⟨_,_,r,λhj=>?_,λi hj=>absurd (hz.symm.trans hj) (by simp)⟩;refine .rn 4 r (.mkS 6 r r (.F (.I EJ .p1 r (.D 1 18 r (.drop .p1 (.y .p1 λF f k=>?_))))));have⟨g,R5⟩:=f.u2 a R5;exact .J (AvE .z results268 (.t r .n) g (.o [0] r) ⟨j.2,_,_,r,k,r,hd⟩)
theorem WP {o0 Q} (h:RepSl EH I p3 c4 o0) (J:JC o0 Q) :
  Fun prog 235 #[.func (.func 269) #[] #[vp b2]] I [pc b2 #[.slice p3 o0.length c4] 40] (λO v l=>∃ r p6 c7,v=.slice p6 r.length c7∧RepSl B0 O p6 c7 r∧l=[pc b2 #[.slice p3 o0.length c4] 40]∧Q r):=by
 refine Fun.ee func235 ntmps235 r ?_;refine .M 1 r (.V 1 1 r ?_);refine .cS (.f call268 r) (.o [0] r) r (QM (b2:=b2) h J:) λ_ _ _ a c=>?_;obtain⟨d,_,_,rfl,e,rfl,J⟩:=c;have h:=a.u1 h;exact .rn 1 r (.D 1 5 r (.q1 results235 a [0] r ⟨d,_,_,r,e,r,J⟩))
theorem Ad8 {a0 Q} (d:RepSl EH I p1 c2 a0) (J:YC a0 Q) :
  B3 prog 194 [.slice p1 a0.length c2] I (o3_ Q):=by
 refine Fun.ee func194 ntmps194 r ?_;refine .M 1 r (.V 1 1 r ?_);refine .cS (.f call236 r) .n r (XV d J:) λ_ _ _ b c=>?_;obtain⟨_,j,_,_,rfl,a,rfl,J⟩:=c;have d:=b.u1 d;refine .rn 1 r ?_;refine .cS (.f call235 r) (.o [0] r) r (WP (b2:=j) a J:) λ_ _ _ e g=>?_;obtain⟨k,_,_,rfl,l,rfl,J⟩:=g;have⟨h,d,a⟩:=e.u3 b d a;exact .rn 1 r (.D 1 4 r (.drop .z (.r1 results194 r h ⟨k,_,_,r,l,J⟩)))
theorem BP {a0 Q} (h:RepSl CB I p1 c2 a0) (d:B6 a0 Q) :
  Ab1 prog 237 [.slice p1 a0.length c2] I (λ_ v l=>∃ r p4 c5,v=.slice p4 r.length c5∧l=[OwnSl CB 300 p4 c5 r]∧Q r):=by
 refine Fun.ee func237 ntmps237 r (.F (.D 1 1 r (.B (.M 1 r (.eqNilS DX r r r r (.L 17 r ?_))))));refine split p1.isNone (λa=>?_) (λa=>?_)
 . have d:=d.1 (RepSl.ofNone h a);exact .Q r a (.F (.D 1 4 r (.own0 CB 300 (.q1 results237 rf [0] r ⟨([]:List B9),_,_,r,r,d⟩))))
 have d:=d.2;refine .Z r a (.P 1 r (.F (.bs 0 DX DN L8 r λ_=>.G 1 r (.ownB (El:=CB) (ys:=([]:List B9)) .z .nil r ?_))));have⟨b,d⟩:=d;exact .ap (ys:=a0) .z DX DX vA r (.imm h r) b λ_ _=>.D 1 4 r (.q1 results237 rf [0] r ⟨(([]:List B9)++a0),_,_,r,r,d⟩)
theorem IL {a0 Q} (J:RepSl ET I p1 c2 a0) (h:D7 a0 Q) :
  B3 prog 238 [.slice p1 a0.length c2] I (λO v=>∃ r p4 c5,v=.slice p4 r.length c5∧RepSl ET O p4 c5 r∧Q r):=by
 refine Fun.ee func238 ntmps238 r (.F (.D 1 1 r (.B (.M 1 r (.eqNilS EK r r r r (.L 17 r ?_))))));refine split p1.isNone (λa=>?_) (λa=>?_)
 . have h:=h.1 (RepSl.ofNone J a);exact .Q r a (.F (.D 1 4 r (.r0 results238 r ⟨([]:List BM),_,_,r,(.nil _ _ _),h⟩)))
 have h:=h.2;refine .Z r a (.P 1 r (.F (.bs 0 EK FG gE r λ_=>.G 1 r (.ownB (El:=ET) (ys:=([]:List BM)) .z .nil r ?_))));have⟨b,h⟩:=h;exact .ap (ys:=a0) .z EK EK AfF r (.imm J r) b λ_ _=>.D 1 4 r (.y .z λ_ c d=>.r1 results238 r c ⟨(([]:List BM)++a0),_,_,r,d,h⟩)
theorem Ad9 {a0 Q} (D:rU I gh1 a0) (O:YD a0 Q) :
  B3 prog 196 [.agg (JL a0 gh1)] I (AyE Q):=by
 refine Fun.ee func196 ntmps196 r ?_;refine .F (.bx r λ_=>.al KJ r λ_=>?_);refine .L 6 r (.B (.dr [0,1,2,4,5,3,7,8,6,9] 10 (.K 2 r (.X HO 1 r (.K 1 r (.X JY 1 r (.Y r (.AF call237 r (BP D.1 O:) r r λ_ _ _ a d=>?_))))))));obtain⟨k,l,m,rfl,rfl,O⟩:=d;have D:=a.u1 D;refine .q 3 r (.W r (.I JY .p2 r .mk) (.j 1 r r tv)) (.K 2 r (.Y r ?_));refine .ca call238 r (IL D.2.1 O:) λ_ _ f g=>?_;obtain⟨o,p,q,rfl,b,O⟩:=g;have⟨h,D⟩:=f.u2 a D;refine .q 3 r (.j 2 r r tv) (.Y r (.s1 sizeOf233 .p2 r (.P 3 r r r tv (.e2 10 (.G 1 r (.s1 ZT .p2 r (.ns 6 r (.S GF CV .p2 r (.R CV .p1 r (.L 4 r (.drop .p2 (.y .z λ_ i s=>?_))))))))))));have⟨j,D,b⟩:=i.u3 h D b;exact .J (B5 r (.w GF CV r .z r .n) j ⟨({ a0 with Vec:=({ N:=a0.Vec.N,Items:=k }:Vec),Sums:=o }:AO),((l,m),(p,q),gh1.2.2),r,⟨s,b,D.2.2⟩,O⟩)
theorem M3 {a0 Q} (J:RepSl J8 I p1 c2 a0) (h:D0 a0 Q) :
  B3 prog 239 [.slice p1 a0.length c2] I (λO v=>∃ r p4 c5,v=.slice p4 r.length c5∧RepSl J8 O p4 c5 r∧Q r):=by
 refine Fun.ee func239 ntmps239 r (.F (.D 1 1 r (.B (.M 1 r (.eqNilS NA r r r r (.L 17 r ?_))))));refine split p1.isNone (λa=>?_) (λa=>?_)
 . have h:=h.1 (RepSl.ofNone J a);exact .Q r a (.F (.D 1 4 r (.r0 results239 r ⟨([]:List A2),_,_,r,(.nil _ _ _),h⟩)))
 have h:=h.2;refine .Z r a (.P 1 r (.F (.bs 0 NA SB bY r λ_=>.G 1 r (.ownB (El:=J8) (ys:=([]:List A2)) .z .nil r ?_))));have⟨b,h⟩:=h;exact .ap (ys:=a0) .z NA NA AlG r (.imm J r) b λ_ _=>.D 1 4 r (.y .z λ_ c d=>.r1 results239 r c ⟨(([]:List A2)++a0),_,_,r,d,h⟩)
theorem wI {a0 Q} (d:rU I gh1 a0) (D:aZ a0 Q) :
  B3 prog 199 [.agg (JL a0 gh1)] I (AyE Q):=by
 refine Fun.ee func199 ntmps199 r ?_;refine .F (.bx r λ_=>.al KJ r λ_=>?_);refine .V 6 2 r (.I HO .p1 r (.AF call237 r (BP d.1 D:) r r λ_ _ _ b e=>?_));obtain⟨q,_,_,rfl,rfl,D⟩:=e;have d:=b.u1 d;refine .G 2 r (.s1 sizeOf233 .p2 r (.V 6 1 r (.I JY .p2 r ?_)));refine .ca call238 r (IL d.2.1 D:) λ_ _ g h=>?_;obtain⟨s,_,_,rfl,a,D⟩:=h;have⟨i,d⟩:=g.u2 b d;refine .G 1 r (.s1 ZT .p2 r (.V 6 1 r (.I isAgg236 .p2 r ?_)));refine .ca call239 r (M3 d.2.2 D:) λ_ _ k l=>?_;obtain⟨t,_,_,rfl,c,D⟩:=l;have⟨m,d,a⟩:=k.u3 i d a;refine .G 1 r (.s1 sizeOf236 .p2 r (.ns 6 r (.S GF CV .p2 r (.R CV .p1 r (.L 4 r (.drop .p2 (.y .z λ_ o u=>?_)))))));have⟨p,a,c⟩:=o.u3 m a c;exact .J (B5 r (.w GF CV r .z r .n) p ⟨({ a0 with Vec:=({ N:=a0.Vec.N,Items:=q }:Vec),Sums:=s,Triples:=t }:AO),((_,_),(_,_),(_,_)),r,⟨u,a,c⟩,D⟩)
theorem wJ {a0 a1 Q} (d:SN a0 a1 Q) :
  B3 prog 309 [vi a0,vi a1] I (λ_=>bV Q):=by
 refine Fun.ee func309 ntmps309 r (.M 1 r (.V 3 3 r (.T d [6,7] r (λa d=>?_) λa d=>?_)))
 . exact .D 5 16 r (.r0 results309 r ⟨(decide (a0<=a1)),r,d⟩)
 exact .D 5 16 r (.r0 results309 r ⟨false,r,d⟩)
theorem fL {o0 o1 a0 Q} (h:RepSl CB I p5 c6 o1.Items) (d:NX o0 o1 a0 Q) :
  Fun prog 311 #[.agg (V9 a0).toArray,vp b3,vp b4] I [pc b3 #[vi o0] 3,pc b4 #[vi o1.N,.slice p5 o1.Items.length c6] 235] (λ_ v l=>∃ r,v=.bool r.1∧l=[pc b3 #[vi r.2] 3,pc b4 #[vi o1.N,.slice p5 o1.Items.length c6] 235]∧Q r):=by
 refine Fun.ee func311 ntmps311 r (.F (.bx r λ_=>.G 1 r (.V 14 1 r (.I AM .z r (.I AM .p1 r (.G 2 r (.T d [9,10] r (λa d=>?_) λa d=>?_)))))))
 . exact .G 7 r (.V 46 1 r (.I AM .z r (.s1 D3 .p1 r (.L 38 r (.drop .z (.F (.D 2 22 r (.q1 results311 rf I5 r ⟨(true,a0.At),r,r,d⟩))))))))
 exact .G 1 r (.O r (.I AM .z r (.G 1 r (.O r (.I AM .p2 r (.G 3 r (.V 46 1 r (.I AM .z r (.s1 D3 .p1 r (.L 38 r (.drop .z (.F (.D 2 22 r (.q1 results311 rf I5 r ⟨(decide (o1.N<=a0.At),a0.At),r,r,d⟩))))))))))))))
theorem KA {o0 o1 a0 Q} (O:RepSl CB I p5 c6 o1.Items) (W:RepSl CB I p8 c9 a0) (J:DS o0 o1 a0 Q) :
  Fun prog 336 #[.slice p8 a0.length c9,.func (.func 311) #[] #[vp b3,vp b4]] I [pc b3 #[vi o0] 3,pc b4 #[vi o1.N,.slice p5 o1.Items.length c6] 235] (λ_ v l=>∃ r,v=vi r.1∧l=[pc b3 #[vi r.2] 3,pc b4 #[vi o1.N,.slice p5 o1.Items.length c6] 235]∧Q r):=by
 refine Fun.ee func336 ntmps336 r (.F (.D 1 3 r (.B (.M 1 r (.ln DX r (.D 1 387 r (.E (.lp J xX [1] r (λj E l (e,d)=>j ((8,vi d) :: E) (pc b3 #[vi e] 3 :: l)) (ji rf I5 r) ?_))))))));rintro⟨e,d⟩ _ J;refine jq r λ_ a=>?_;have⟨O,W⟩:=a.u2 O W;refine .F (.D 1 899 r (.B (.A r J (λh J=>?_) λh J=>?_)))
 . refine .P 387 r (.B (.E (.M 2 r (.V 419 3 r ?_))));have⟨s,_,i,_,_,t,b,J⟩:=W.ix J;refine .U DX DN t s i r (.ldW UB DN b r r r r ?_);refine .cS (.c call311 r r) (.o I5 r) r (fL (b3:=b3) (b4:=b4) O J:) λ_ _ _ m n=>?_;obtain⟨g,rfl,rfl,J⟩:=n;have⟨f,O,W,b⟩:=m.u4 a O W b;refine .rn 2 r (.L 65955 r (.A r J (λp J=>?_) λp J=>?_))
   . exact .F (.D 2 18 r (.q1 results336 f I5 r ⟨(d,g.2),r,r,J⟩))
   exact .P 387 r (.C (.G 2 r (.H (je (g.2,A5 (d+1)) J f I5 r))))
 exact .en 2 r (.F (.D 1 18 r (.q1 results336 a I5 r ⟨((-1),e),r,r,J⟩)))
theorem IR {o0 o1 a0 Q} (h:RepSl CB I p5 c6 o1.Items) (O:RepSl CB I p8 c9 a0) (J:D8 o0 o1 a0 Q) :
  Fun prog 310 #[.slice p8 a0.length c9,.func (.func 311) #[] #[vp b3,vp b4]] I [pc b3 #[vi o0] 3,pc b4 #[vi o1.N,.slice p5 o1.Items.length c6] 235] (λ_ v l=>∃ r,v=.bool r.1∧l=[pc b3 #[vi r.2] 3,pc b4 #[vi o1.N,.slice p5 o1.Items.length c6] 235]∧Q r):=by
 refine Fun.ee func310 ntmps310 r ?_;refine .M 1 r (.V 3 2 r ?_);refine .cS (.f call336 r) (.o I5 r) r (KA (b3:=b3) (b4:=b4) h O J:) λ_ _ _ a d=>?_;obtain⟨b,rfl,rfl,J⟩:=d;have⟨h,O⟩:=a.u2 h O;exact .rn 2 r (.D 2 18 r (.q1 results310 a I5 r ⟨(decide (0<=b.1),b.2),r,r,J⟩))
theorem FQ {a0 Q} (J:RepSl CB I p1 c2 a0.Items) (d:F7 a0 Q) :
  B3 prog 270 [.agg #[vi a0.N,.slice p1 a0.Items.length c2]] I (λ_=>bV Q):=by
 refine Fun.ee func270 ntmps270 r (.F (.bx r λi=>.D 1 2 r (.B (.M 1 r (.I AM .z r (.v call309 (wJ (I:=I) d:) r λ_ d=>.D 1 130 r (.A r d (λc d=>?_) λc d=>?_)))))))
 . exact .F (.D 1 4 r (.drop .z (.r0 results270 r ⟨false,r,d⟩)))
 refine .P 2 r (.F (.alloc1 jX r r r λg=>?_));refine .s1 D3 .z r (.V 10 1 r (.I HO .p1 r (.mkFn r r r r ?_)));refine .cS (.f call310 r) (.o I5 r) r (IR (b3:=g) (b4:=i) J J d:) λ_ _ _ a e=>?_;obtain⟨h,rfl,rfl,d⟩:=e;have J:=a.u1 J;exact .rn 2 r (.D 2 4 r (.drop .z (.drop .z (.r1 results270 r a ⟨(!h.1),r,d⟩))))
theorem ZW {a0 a1 Q} (U:rU I gh1 a0) (O:M5 a0 a1 Q) :
  B3 prog 240 [.agg (JL a0 gh1),vi a1] I (λV v=>∃ r p3 c4,v=.tuple #[.agg #[vi r.1.N,.slice p3 r.1.Items.length c4],.bool r.2]∧RepSl CB V p3 c4 r.1.Items∧Q r):=by
 refine Fun.ee func240 ntmps240 r ?_;refine .F (.bx r λ_=>.al CC r λ_=>?_);refine .D 1 22 r (.B (.dr [0,1,2,3,4,5,8,6,7,999] 9 (.K 2 r (.X AM 1 r (.K 2 r (.X HO 1 r (.aP CC r (.Y r (.AF call237 r (BP U.1 O:) r r λ_ s _ d i=>?_)))))))));obtain⟨e,u,x,rfl,rfl,O⟩:=i;have U:=d.u1 U;refine .q 3 r (.W r (.I AM .p2 r .mk) (.j 2 r r tv)) (.h r (.bd CC F4 GQ r .mk) (.b r λ_=>DrawD.nop ?_));refine .e2 9 (.R AQ .p3 r (.L 82 r (.drop .p2 (.B (.dr AoJ 10 (.h r (.S BK AQ .p2 r .mk) (.h r (.S BK AQ .p2 r .mk) (.Y r λ{ex}=>?_))))))));have j:=λ(J:IH) (hJ:IH.le s J) (Z:V6 J [OwnSl CB 300 u x e])=>FQ (I:=J) (a0:=({ N:=a0.Vec.N,Items:=e }:Vec)) (ApP Z.1) O;refine .callB (.f call270 r) (.o [0] r) j r r λ_ _ k=>?_;obtain⟨_,rfl,O⟩:=k;refine .q 3 r (.W r (.S BK AQ .p2 r .mk) tv) (.K 1 r ?_);refine D5 O (λc O=>?_) λc O=>?_
 . refine .h r (.N r r c (.fo F4 0 r D3 .mk)) (.h r (.N r r c (.I AM .p2 r .mk)) (.h r (.N r r c (.AD r r r .mk)) (.h r (.N r r c (.eq r r r r .mk)) (.h r (.pickT r c r r r .mk) (.Y r ?_)))));refine .R AQ .p1 r (.P 3 r r r (.W r (.pickT r c r r r .mk) (.W r (.N r r c (.eq r r r r .mk)) (.W r (.N r r c (.AD r r r .mk)) (.W r (.N r r c (.I AM .p2 r .mk)) (.W r (.N r r c (.fo F4 0 r D3 .mk)) tv))))) (.e2 10 (.D 1 48 r (.drop .p2 (.y .z λ_ l y=>?_)))));have m:=l.u1 d;exact .J (B5 r (.w BK AQ r .z r (.t r .n)) m ⟨(({ N:=a0.Vec.N,Items:=e }:Vec),a0.Vec.N==a1),_,_,r,y,O⟩)
 refine .gn r c (.gn r c (.gn r c (.gn r c (.h r (.pickF r c r r r .mk) (.Y r ?_)))));refine .R AQ .p1 r (.P 3 r r r (.W r (.pickF r c r r r .mk) (.W r (.gno r r c r r .mk) (.W r (.gno r r c r r .mk) (.W r (.gno r r c r r .mk) (.W r (.gno r r c r r .mk) tv))))) (.e2 10 (.D 1 48 r (.drop .p2 (.y .z λ_ p A=>?_)))));have q:=p.u1 d;exact .J (B5 r (.w BK AQ r .z r (.t r .n)) q ⟨(({ N:=a0.Vec.N,Items:=e }:Vec),false),_,_,r,A,O⟩)
theorem cP {a0 Q} (d:NY a0 Q) :
  B3 prog 271 [vi a0] I (λ_=>bV Q):=by
 refine Fun.ee func271 ntmps271 r (.M 1 r (.V 1 3 r (.T d [4,5] r (λa d=>?_) λa d=>?_)))
 . exact .D 4 4 r (.r0 results271 r ⟨(decide (a0<=4096)),r,d⟩)
 exact .D 4 4 r (.r0 results271 r ⟨false,r,d⟩)
theorem OX {a0 Q} (h:RepSl CB I p1 c2 a0.Items) (d:KU a0 Q) :
  B3 prog 339 [.agg #[vi a0.N,.slice p1 a0.Items.length c2]] I (AwG Q):=by
 refine Fun.ee func339 ntmps339 r (.F (.bx r λ_=>.al CC r λ_=>.L 6 r (.B (.F (.S BK AQ .p1 r (.v call270 (FQ h d:) r λ_ d=>.L 22 r (.A r d (λb d=>?_) λb d=>?_)))))))
 . exact .F (.S BK AQ .p1 r (.R AQ .z r (.L 4 r (.drop .p1 (.J (B5 r (.w BK AQ r .z r .n) rf ⟨a0,_,_,r,h,d⟩))))))
 exact .P 4 r (.drop .p1 (.F (.bd CC F4 GQ r (.R AQ .z r (.L 4 r (.J (B5 r (.w BK AQ r .z r .n) rf ⟨CJ,_,_,r,(.nil _ _ _),d⟩)))))))
theorem jH {o0 a0 Q} (d:PJ o0 a0 Q) :
  Fun prog 338 #[.agg (V9 a0).toArray,vp b2] I [pc b2 #[vi o0] 3] (λ_ v l=>∃ r,v=.agg (V9 r).toArray∧l=[pc b2 #[vi o0] 3]∧Q r):=by
 refine Fun.ee func338 ntmps338 r (.F (.bx r λ_=>.al L8 r λ_=>.ns 14 r (.I AM .p2 r (.G 1 r (.I AM .p1 r (.G 2 r (.I LY .p1 r (.bd L8 vD vB r (.R DN .z r (.L 10 r (.drop .p1 ?_)))))))))));exact .J (DZ r (.w UB DN r .z r .n) rf (.o [1] r) ⟨({ At:=A5 (o0+a0.At),Val:=a0.Val }:B9),r,r,d⟩)
theorem pQ {o0 a0 Q} (U:RepSl CB I p3 c4 a0.Items) (O:NZ o0 a0 Q) :
  Fun prog 337 #[.agg #[vi a0.N,.slice p3 a0.Items.length c4],.func (.func 338) #[] #[vp b2]] I [pc b2 #[vi o0] 3] (λZ v l=>∃ r p6 c7,v=.agg #[vi r.N,.slice p6 r.Items.length c7]∧RepSl CB Z p6 c7 r.Items∧l=[pc b2 #[vi o0] 3]∧Q r):=by
 refine Fun.ee func337 ntmps337 r ?_;refine .F (.bx r λ_=>.al CC r λ_=>?_);refine .ns 22 r (.S BK AQ .p1 r (.ca call339 r (OX U O:) λ_ _ s P=>?_));obtain⟨t,_,_,rfl,u,O⟩:=P;have U:=s.u1 U;refine .R AQ .p1 r (.L 22 r (.B (.dr [0,1,2,3,6,4,5,999] 7 (.K 1 r (.X AM 1 r (.K 1 r (.X HO 1 r (.aP CC r (.Y r ?_)))))))));refine .AF call237 r (BP u O:) r r λ_ _ _ S T=>?_;obtain⟨_,_,_,rfl,rfl,O⟩:=T;have⟨a2,u⟩:=S.u2 s u;refine .q 4 r (.W r (.I AM .p2 r .mk) (.j 1 r r tv)) (.h r (.bd CC F4 GQ r .mk) (.b r λK=>DrawD.nop ?_));refine .e2 7 (.R AQ .p4 r (.L 50 r (.drop .p2 (.B (.M 1 r (.I HO .p3 r (.ln DX r (.D 1 917554 r (.E (.lx O [18,5,4,1] [2,1] r (λj E l (d,e)=>λc w=>∃ g f,j ⟨33,[],none⟩ (λZ=>True) ((17,.slice g d.length f) :: (19,vi e) :: E) (pc K #[vi t.N,.slice g d.length f] 235 :: OwnSl CB 300 g f d :: l) c w) (λc w V W=>⟨_,_,jf rf tv [3,0,1,0] r V W⟩) ?_))))))))));rintro⟨d,e⟩ _ O c w ⟨g,f,a3,i,_,a5,a6⟩;have p:=i.u1 a2;refine Cod.at a5 a6 (.F (.D 1 1966130 r (.B (.A r O (λA O=>?_) λA O=>?_))))
 . refine .P 917554 r (.B (.E (.M 1 r ?_)));have⟨x,_,k,O⟩:=O;refine .AG .p1 (CS k) λa4 X=>?_;cases X;refine .u DX DN r r x (BG k x) r r (.loA (j:=0) UB DN .p1 k r r (.o 2 r) r r r (.al L8 r λ_=>.G 1 r (.R DN .z r (.L 917746 r (.dr Aj3 6 (.K 1 r (.X HO 1 r (.K 2 r (.h r (.S UB DN .z r .mk) (.Y r ?_))))))))));refine .cS (.c call338 r r) (.o [3] r) r (jH (I:=a3) (b2:=b2) O:) λ_ _ _ D F=>?_;obtain⟨m,rfl,rfl,O⟩:=F;have⟨_,G⟩:=D.u2 p i;refine .rx 5 r (.q 5 r (.j 1 r r (.W r (.I HO .p2 r .mk) (.j 1 r r tv))) (.e2 6 ?_));have⟨y,_,q,O⟩:=O;exact .u DX DN r r y (BG q y) r r (.stOA (j:=0) (v':=m) DN .p3 q r r r (.o r) r r (.rl .p3 [17,25] r (by simp only[QX]) (.reat .p2 (B:=pc K #[vi t.N,.slice (some ⟨a4,0,none⟩) (d.set e.toNat m).length f] 235) (by simp only[QX]) (.L 917554 r (.drop .p1 (.C (.G 2 r (.H λc w V W=>⟨_,O,_,_,jf G tv Aj4 r V W⟩))))))))
 refine .en 50 r (.F (.S BK AQ .z r (.R AQ .p3 r (.L 18 r (.drop .z (.y .z λ_ H Y=>?_))))));have⟨J,_⟩:=H.u2 p i;exact .J (DZ r (.w BK AQ r .p1 r .n) J (.o [0] r) ⟨({ N:=t.N,Items:=d }:Vec),_,_,r,Y,r,O⟩)
theorem AdA {a0 Q} (J:RepSl fA I p1 c2 a0) (D:YE a0 Q) :
  B3 prog 312 [.slice p1 a0.length c2] I (AwH Q):=by
 refine Fun.ee func312 ntmps312 r (.F (.al CC r fun _=>.G 1 r (.ns 5 r (.al CC r fun a4=>.L 21 r (.B (.M 1 r (.ln qU r (.D 1 1812 r (.E (.own0 CB 300 (.lx D [9,8,4,2] [2] r (fun j E l (b,a,e)=>fun c w=>∃ g i,j ⟨39,[],none⟩ (fun _=>True) ((10,vi e) :: E) (pc a4 #[vi b,.slice g a.length i] 235 :: OwnSl CB 300 g i a :: l) c w) (fun c w O Z=>⟨_,_,jf rf tv nl7 r O Z⟩) ?_)))))))))))
 rintro ⟨b,a,e⟩ _ D c w ⟨g,i,_,d,_,a5,a6⟩
 have J:=d.u1 J
 refine Cod.at a5 a6 (.F (.D 1 3860 r (.B (.A r D (fun s D=>?_) fun s D=>?_))))
 · refine .P 1812 r (.B (.E (.F ?_)))
   obtain ⟨F,_,p,D⟩:=D
   obtain ⟨_,_,_,G,u,_,_,rfl,k⟩:=J.2 _ _ p
   refine .U qU AQ G F p r (.ldW BK AQ u r r r r (.al CC r fun _=>?_))
   refine .R AQ .z r (.V 1876 1 r (.I AM .p1 r (.alloc1 jX r r r fun H=>?_)))
   refine .s1 D3 .z r (.ns 2004 r (.S BK AQ .p1 r (.mkFn r r r r (.cS (.f call337 r) (.o [0] r) r (pQ (b2:=H) k D:) fun _ _ _ x y=>?_))))
   obtain ⟨m,_,_,rfl,a3,rfl,D⟩:=y
   obtain ⟨q,J,k⟩:=x.u3 d J k
   refine .rn 5 r (.R AQ .p1 r (.L 1876 r (.drop .z (.B (.M 1 r (.I AM .z r (.G 1 r (.I AM .p1 r (.D 2 16779092 r (.A r D (fun A D=>?_) fun A D=>?_))))))))))
   · exact .F (.bd CC F4 GQ r (.R AQ .p3 r (.D 1 12 r (.drop .z (.drop .z (.drop .z (.J (B5 r (.w BK AQ r .z r (.t r .n)) q ⟨(CJ,5),_,_,r,(.nil _ _ _),D⟩))))))))
   refine .P 1876 r (.dr nl9 11 (.K 1 r (.X AM 1 r (.K 1 r (.X AM 0 r (.K 2 r (.X HO 1 r (.K 1 r (.X HO 0 r (.Y r ?_))))))))))
   obtain ⟨B,D⟩:=D
   refine .ap (ys:=m.Items) .p2 DX DX vA r (.imm a3 r) B fun _ _=>?_
   exact .q 4 r (.j 1 r r (.W r (.I AM .p1 r .mk) (.j 1 r r (.W r (.I AM .p2 r .mk) (.j 1 r r tv))))) (.h r (.bd CC F4 GQ r .mk) (.e2 11 (.R AQ .p2 r (.L 1812 r (.drop .p1 (.C (.G 2 r (.H fun c w O Z=>⟨_,D,_,_,jf q tv nl7 r O Z⟩))))))))
 refine .en 20 r (.F (.S BK AQ .z r (.R AQ .p2 r (.D 1 12 r (.drop .z (.y .z fun _ C K=>?_))))))
 have a2:=C.u1 d
 exact .J (B5 r (.w BK AQ r .z r (.t r .n)) a2 ⟨(({ N:=b,Items:=a }:Vec),0),_,_,r,K,D⟩)
theorem cQ {a0 a1 Q} (h:T7 a0 a1 Q) :
  B3 prog 244 [vi a0,vi a1] I (λ_=>Y6 Q):=by
 refine Fun.ee func244 ntmps244 r (.F (.D 1 3 r (.B (.F (.D 1 34 r (.E (.B (.E (.B (.E ?_))))))))));refine .B (.E (.B (.E (.B (.B (.F (.D 2 98 r (.A r h (λb h=>?_) λb h=>?_))))))))
 . exact .en 0 r (.B (.F (.D 1 16 r (.r0 results244 r ⟨1,r,h⟩))))
 refine .P 34 r (.B (.F (.D 2 290 r (.A r h (λc h=>?_) λc h=>?_))))
 . exact .en 0 r (.B (.F (.D 1 16 r (.r0 results244 r ⟨5,r,h⟩))))
 refine .P 34 r (.B (.F (.D 2 1058 r (.A r h (λd h=>?_) λd h=>?_))))
 . refine .en 2 r (.F (.D 3 131072 r (.A r h (λe h=>?_) λe h=>?_)))
   . exact .F (.D 1 16 r (.r0 results244 r ⟨2,r,h⟩))
   exact .P 0 r (.B (.F (.D 1 16 r (.r0 results244 r ⟨4,r,h⟩))))
 refine .P 32 r (.B (.F (.D 2 4128 r (.A r h (λa h=>?_) λa h=>?_))))
 . exact .P 4096 r (.Q r a (.en 0 r (.B (.F (.D 1 16 r (.r0 results244 r ⟨4,r,h⟩))))))
 refine .C (.D 2 4096 r (.A r h (λf h=>?_) λf h=>?_))
 . exact .en 0 r (.B (.F (.D 1 16 r (.r0 results244 r ⟨4,r,h⟩))))
 exact .P 0 r (.en 0 r (.F (.D 1 16 r (.r0 results244 r ⟨0,r,h⟩))))
theorem wK {a0 a1 a2 Q} (d:SO a0 a1 a2 Q) :
  B3 prog 275 [vi a0,vi a1,vi a2] I (λ_=>Y6 Q):=by
 refine Fun.ee func275 ntmps275 r (.F (.D 1 7 r (.B (.F (.D 1 135 r (.E (.B (.F (.D 2 391 r (.A r d (λa d=>?_) λa d=>?_))))))))))
 . exact .P 263 r (.Q r a (.F (.D 2 64 r (.r0 results275 r ⟨a0,r,d⟩))))
 refine .C (.D 2 263 r (.A r d (λb d=>?_) λb d=>?_))
 . exact .F (.D 2 64 r (.r0 results275 r ⟨a0,r,d⟩))
 refine .P 6 r (.B (.M 2 r (.quo r r (by decide) r r (.D 1 32768 r (.A r d (λc d=>?_) λc d=>?_)))))
 . exact .F (.D 1 64 r (.r0 results275 r ⟨2,r,d⟩))
 exact .P 0 r (.F (.D 1 64 r (.r0 results275 r ⟨1,r,d⟩)))
theorem W7 {a0 Q} (d:PK a0 Q) :
  Ab1 prog 313 [vi a0] I (λW v l=>∃ r p1 c2 p4 c5,v=.agg #[vi r.N,.slice p1 r.Has.length c2,.slice p4 r.Vals.length c5]∧RepSl EH W p1 c2 r.Has∧l=[OwnSl B0 2 p4 c5 r.Vals]∧Q r):=by
 refine Fun.ee func313 ntmps313 r (.F (.al mG r λ_=>.L 5 r (.B (.M 3 r (.T d [4,5] r (λc d=>?_) λc d=>?_)))))
 . refine .D 3 261 r (.Q r r (.C (.D 1 5 r (.B (.dr [0,1,3,4,2,999,5] 6 (.K 3 r ?_))))));have⟨B,C,d⟩:=d;refine .a (λb=>.slice (some ⟨b,0,none⟩) (List.replicate (Int.toNat 0) (0:Int)).length (Int.toNat 0)) (λb=>OwnSl B0 2 (some ⟨b,0,none⟩) (Int.toNat 0) (List.replicate (Int.toNat 0) (0:Int))) r r r r (λ_ L U V=>.make (El:=B0) (zv:=0) 8 DF IN2 r r r r r r B C r r r λb=>.mk (val:=λb=>.slice (some ⟨b,0,none⟩) (List.replicate (Int.toNat 0) (0:Int)).length (Int.toNat 0)) (atom:=λb=>OwnSl B0 2 (some ⟨b,0,none⟩) (Int.toNat 0) (List.replicate (Int.toNat 0) (0:Int))) U b) (.Y r ?_);refine .AF call56 r (RU (I:=I) d:) r r λ_ _ _ e f=>?_;obtain⟨D,_,_,rfl,rfl,d⟩:=f;refine .q 2 r (.j 2 r r tv) (.b r λ_=>DrawD.nop ?_);refine .h r (.bd mG underlying324 Ar3 r .mk) (.e2 6 (.R FH .p1 r (.L 4 r (.y .z λ_ g E=>?_))));have i:=g.u1 e;exact .J (DZ r (.w L7 FH r .z r .n) i (.o [1] r) ⟨({ N:=0,Has:=D,Vals:=(List.replicate (Int.toNat 0) (0:Int)) }:Dense),_,_,_,_,r,E,r,d⟩)
 refine .D 3 261 r (.A r d (λj d=>?_) λj d=>?_)
 . refine .C (.D 1 5 r (.B (.dr [0,1,3,4,2,999,5] 6 (.K 3 r ?_))));have⟨F,G,d⟩:=d;refine .a (λb=>.slice (some ⟨b,0,none⟩) (List.replicate (Int.toNat 0) (0:Int)).length (Int.toNat 0)) (λb=>OwnSl B0 2 (some ⟨b,0,none⟩) (Int.toNat 0) (List.replicate (Int.toNat 0) (0:Int))) r r r r (λ_ L U V=>.make (El:=B0) (zv:=0) 8 DF IN2 r r r r r r F G r r r λb=>.mk (val:=λb=>.slice (some ⟨b,0,none⟩) (List.replicate (Int.toNat 0) (0:Int)).length (Int.toNat 0)) (atom:=λb=>OwnSl B0 2 (some ⟨b,0,none⟩) (Int.toNat 0) (List.replicate (Int.toNat 0) (0:Int))) U b) (.Y r ?_);refine .AF call56 r (RU (I:=I) d:) r r λ_ _ _ m p=>?_;obtain⟨H,_,_,rfl,rfl,d⟩:=p;refine .q 2 r (.j 2 r r tv) (.b r λ_=>DrawD.nop ?_);refine .h r (.bd mG underlying324 Ar3 r .mk) (.e2 6 (.R FH .p1 r (.L 4 r (.y .z λ_ q J=>?_))));have s:=q.u1 m;exact .J (DZ r (.w L7 FH r .z r .n) s (.o [1] r) ⟨({ N:=0,Has:=H,Vals:=(List.replicate (Int.toNat 0) (0:Int)) }:Dense),_,_,_,_,r,J,r,d⟩)
 refine .P 5 r (.B (.dr [0,1,3,4,2,999,5] 6 (.K 3 r ?_)));have⟨K,O,d⟩:=d;refine .a (λb=>.slice (some ⟨b,0,none⟩) (List.replicate a0.toNat (0:Int)).length a0.toNat) (λb=>OwnSl B0 2 (some ⟨b,0,none⟩) a0.toNat (List.replicate a0.toNat (0:Int))) r r r r (λ_ L U V=>.make (El:=B0) (zv:=0) 8 DF IN2 r r r r r r K O r r r λb=>.mk (val:=λb=>.slice (some ⟨b,0,none⟩) (List.replicate a0.toNat (0:Int)).length a0.toNat) (atom:=λb=>OwnSl B0 2 (some ⟨b,0,none⟩) a0.toNat (List.replicate a0.toNat (0:Int))) U b) (.Y r ?_);refine .AF call56 r (RU (I:=I) d:) r r λ_ _ _ u x=>?_;obtain⟨P,_,_,rfl,rfl,d⟩:=x;refine .q 2 r (.j 2 r r tv) (.b r λ_=>DrawD.nop ?_);refine .h r (.bd mG underlying324 Ar3 r .mk) (.e2 6 (.R FH .p1 r (.L 4 r (.y .z λ_ y R=>?_))));have A:=y.u1 u;exact .J (DZ r (.w L7 FH r .z r .n) A (.o [1] r) ⟨({ N:=a0,Has:=P,Vals:=(List.replicate a0.toNat (0:Int)) }:Dense),_,_,_,_,r,R,r,d⟩)
theorem cR {a0 Q} (O:RepSl CB I p1 c2 a0.Items) (J:O0 a0 Q) :
  B3 prog 314 [.agg #[vi a0.N,.slice p1 a0.Items.length c2]] I (o3_ Q):=by
 refine Fun.ee func314 ntmps314 r ?_;refine .F (.bx r λ_=>?_);refine .G 1 r (.V 2 1 r (.L 10 r (.B (.F (.S BK AQ .z r (.ca call339 r (OX O J:) λ_ _ d q=>?_))))));obtain⟨_,_,_,rfl,e,J⟩:=q;have O:=d.u1 O;refine .field1 F4 r HO r r r r (.ln DX r (.D 1 1800 r (.drop .z (.E (.own0 B0 3 (.lx J [9,8] [] r (λj E l (a,f)=>λc w=>∃ g h,j ⟨21,[],none⟩ (λ_=>True) ((3,.slice g a.length h) :: (10,vi f) :: E) (OwnSl B0 3 g h a :: l) c w) (λc w W Z=>⟨_,_,jf rf tv [0] r W Z⟩) ?_))))));rintro⟨a,f⟩ _ J c w ⟨g,h,_,b,_,a2,a3⟩;have⟨s,e⟩:=b.u2 d e;refine Cod.at a2 a3 (.F (.D 1 3848 r (.B (.A r J (λt J=>?_) λt J=>?_))))
 . refine .P 1800 r (.B (.E (.F ?_)));have⟨A,o,u,_,_,v,i,J⟩:=e.ix J;refine .U DX DN v A u r (.ldW UB DN i r r r r (.al L8 r λ_=>.R DN .z r (.L 1832 r (.C (.G 2 r (.I AM .z r (.bs 1 BE D3 jX r λ_=>?_)))))));have⟨k,J⟩:=J;exact .ap (ys:=[o.At]) .p2 BE BE IN3 r (.box .z (.one r) r) k λ_ _=>.D 1 1800 r (.drop .p1 (.drop .p1 (.C (.G 2 r (.H λc w W Z=>⟨_,J,_,_,jf b tv [0] r W Z⟩)))))
 refine .en 8 r (.F (.D 2 4 r (.y .z λ_ m x=>?_)));have⟨n,_⟩:=m.u2 s b;exact .r1 results314 r n ⟨a,_,_,r,x,J⟩
theorem wL {a0 Q} (J:RepSl CB I p1 c2 a0.Items) (D:bA a0 Q) :
  B3 prog 276 [.agg #[vi a0.N,.slice p1 a0.Items.length c2]] I (λZ v=>∃ r a5,v=.agg (KY r a5)∧lTi Z a5 r∧Q r):=by
 refine Fun.ee func276 ntmps276 r (.F (.bx r λ_=>.al mG r λ_=>.L 6 r (.B (.F (.S BK AQ .p1 r (.v call270 (FQ J D:) r λ_ D=>.D 1 262 r (.A r D (λd2 D=>?_) λd2 D=>?_)))))))
 . refine .F ?_;refine .AF call313 r (W7 (I:=I) D:) r r λ_ _ _ s a2=>?_;obtain⟨b4,_,_,_,_,rfl,t,rfl,D⟩:=a2;have J:=s.u1 J;refine .R FH .p1 r (.L 4 r (.drop .p2 (.y .z λ_ a3 b5=>?_)));have⟨a4,t⟩:=a3.u2 s t;exact .J (B5 r (.w L7 FH r .z r .n) a4 ⟨b4,((_,_),(_,_)),r,⟨t,b5⟩,D⟩)
 refine .P 6 r (.M 1 r (.I AM .p1 r ?_));refine .AF call313 r (W7 (I:=I) D:) r r λ_ _ _ u a6=>?_;obtain⟨i,V,W,_,_,rfl,d,rfl,D⟩:=a6;have J:=u.u1 J;refine .al mG r λX=>.R FH .z r (.L 14 r (.B (.M 1 r (.I HO .p3 r (.ln DX r (.D 1 114702 r (.E (.lx D [15,14,3,2,1] [3,2] r (λj E l (a,k)=>λc w=>∃ m e,j ⟨35,[],none⟩ (λZ=>True) ((16,vi k) :: E) (pc X #[vi i.N,.slice V i.Has.length W,.slice m a.length e] 324 :: OwnSl B0 2 m e a :: l) c w) (λc w O U=>⟨_,_,jf rf tv [0,0,1,0] r O U⟩) ?_))))))));rintro⟨a,k⟩ _ D c w ⟨m,e,_,f,_,d3,d4⟩;have⟨y,J,d⟩:=f.u3 u J d;refine Cod.at d3 d4 (.F (.D 1 245774 r (.B (.A r D (λA D=>?_) λA D=>?_))))
 . refine .P 114702 r (.B (.E (.F ?_)));have⟨a7,b,C,_,_,a8,c0,D⟩:=J.ix D;refine .U DX DN a8 a7 C r (.ldW UB DN c0 r r r r (.al L8 r λ_=>.R DN .z r (.L 114734 r (.C (.G 1 r (.I FX .p1 r (.G 1 r (.I AM .z r (.G 1 r (.I LY .z r ?_))))))))));have⟨x,_,g,D⟩:=D;refine .AG .p2 (CS g) λa9 b0=>?_;cases b0;exact .u DF XP r r x (BG g x) r r (.stO1 (j:=0) (v':=b.Val) XP .p2 g r r r (.o r) r (.rl .p2 [21] r (by simp only[QX]) (.reat .p1 (B:=pc X #[vi i.N,.slice V i.Has.length W,.slice (some ⟨a9,0,none⟩) (a.set b.At.toNat b.Val).length e] 324) (by simp only[QX]) (.L 114702 r (.drop .z (.C (.G 2 r (.H λc w O U=>⟨_,D,_,_,jf f tv W0 r O U⟩))))))))
 refine .en 14 r (.B (.dr [0,1,2,3,4] 5 (.K 1 r (.X AM 2 r (.h r (.S BK AQ .p2 r .mk) (.Y r ?_))))));refine .ca call314 r (cR J D:) λ_ _ G H=>?_;obtain⟨_,_,_,rfl,p,D⟩:=H;have⟨c1,K,J,d⟩:=G.u4 y f J d;refine .q 4 r (.W r (.I AM .p2 r .mk) (.j 1 r r tv)) (.Y r ?_);refine .ca call27 r (MY p D:) λ_ _ d0 P=>?_;obtain⟨b1,_,_,rfl,q,D⟩:=P;have⟨R,S,J,d,p⟩:=d0.u5 c1 K J d p;refine .q 4 r tv (.e2 5 (.G 1 r (.s1 sizeOf40 .z r (.L 12 r (.drop .p2 (.F (.S L7 FH .z r (.R FH .p2 r (.L 4 r (.drop .z (.y .z λ_ T b2=>?_)))))))))));have⟨d1,_,q⟩:=T.u3 R S q;exact .J (B5 r (.w L7 FH r .z r .n) d1 ⟨({ N:=i.N,Has:=b1,Vals:=a }:Dense),((_,_),(_,_)),r,⟨q,b2⟩,D⟩)
theorem yE {a0 a1 Q} (V:RepSl CB I p1 c2 a1.Items) (D:VE a0 a1 Q) :
  B3 prog 245 [vi a0,.agg #[vi a1.N,.slice p1 a1.Items.length c2]] I (λJ v=>∃ r Z,v=.agg (Aq2 r Z)∧lTj J Z r∧Q r):=by
 refine Fun.ee func245 ntmps245 r (.F (.bx r λG=>.al zeroValue326 r λ_=>.L 25 r (.B (.jx D [4,3,0] [0] r (λj E l (b,d)=>λc w=>∃ e f,j ⟨27,[],none⟩ (λJ=>RepSl CB J e f d) E (pc G #[vi b,.slice e d.length f] 235 :: l) c w) (λ_ D=>?_) ?_))))
 . refine .F (.S BK AQ .p1 r (.v call270 (FQ V D:) r λ_ D=>.D 1 153 r (.A r D (λm D=>?_) λm D=>?_)))
   . exact .C (.bd CC F4 GQ r (.R AQ .p1 r (.H λc w O U=>⟨_,D,_,_,jf rf (.nil _ _ _) mW r O U⟩)))
   exact .AC λc w O U=>⟨_,D,_,_,jf rf V mW r O U⟩
 rintro⟨b,d⟩ D c w ⟨e,f,i,g,a,a4,a5⟩;refine Cod.at a4 a5 (.B (.M 2 r (.I HO .z r (.ln DX r (.G 1 r (.I AM .z r (.v call275 (wK (I:=i) D:) r λ_ D=>.D 1 65560 r (.A r D (λp D=>?_) λp D=>?_))))))))
 . refine .F (.S BK AQ .z r ?_);refine .ca call276 r (wL (I:=i) (a0:=({ N:=b,Items:=d }:Vec)) a D:) λ_ _ s t=>?_;obtain⟨H,u,rfl,a3,D⟩:=t;have⟨x,a⟩:=s.u2 g a;exact .bd zeroValue326 underlying326 AvN r (.R sizeOf326 .p1 r (.L 16 r (.drop .z (.J (B5 r (.w isAgg326 sizeOf326 r .z r .n) x ⟨({ Form:=2,Vec:=CJ,Dense:=H }:iB),((none,0),u),r,⟨(.nil _ _ _),a3⟩,D⟩)))))
 refine .P 24 r (.B (.dr wC 7 (.K 1 r (.X AM 0 r (.K 1 r (.X HO 0 r (.Y r ?_)))))));refine .AF call237 r (BP a D:) r r λ_ _ _ A B=>?_;obtain⟨K,_,_,rfl,rfl,D⟩:=B;have⟨C,a⟩:=A.u2 g a;refine .q 3 r (.W r (.I AM .p1 r .mk) (.j 1 r r tv)) (.h r (.bd CC F4 GQ r .mk) (.h r (.bd zeroValue326 underlying326 AvN r .mk) (.e2 7 (.R sizeOf326 .p2 r (.L 16 r (.drop .p1 (.y .z λ_ a2 L=>?_)))))));have F:=a2.u1 C;exact .J (B5 r (.w isAgg326 sizeOf326 r .z r .n) F ⟨({ Form:=1,Vec:=({ N:=b,Items:=K }:Vec),Dense:=({ N:=0,Has:=([]:List Int),Vals:=([]:List Int) }:Dense) }:iB),((_,_),((_,_),(_,_))),r,⟨L,⟨(.nil _ _ _),(.nil _ _ _)⟩⟩,D⟩)
theorem jI {a0 a1 a2 Q} (d:LI a0 a1 a2 Q) :
  B3 prog 277 [vi a0,vi a1,vi a2] I (λ_=>Y6 Q):=by
 refine Fun.ee func277 ntmps277 r (.F (.D 1 7 r (.B (.F (.D 1 135 r (.E (.B (.F (.D 2 391 r (.A r d (λa d=>?_) λa d=>?_))))))))))
 . exact .P 263 r (.Q r a (.F (.D 2 64 r (.r0 results277 r ⟨a0,r,d⟩))))
 refine .C (.D 2 263 r (.A r d (λb d=>?_) λb d=>?_))
 . exact .F (.D 2 64 r (.r0 results277 r ⟨a0,r,d⟩))
 refine .P 6 r (.B (.M 2 r (.quo r r (by decide) r r (.D 1 32768 r (.A r d (λc d=>?_) λc d=>?_)))))
 . exact .F (.D 1 64 r (.r0 results277 r ⟨2,r,d⟩))
 exact .P 0 r (.F (.D 1 64 r (.r0 results277 r ⟨1,r,d⟩)))
theorem WQ {a0 a1 Q} (d:N4 a0 a1 Q) :
  B3 prog 365 [vi a0,vi a1] I (λ_=>bV Q):=by
 refine Fun.ee func365 ntmps365 r (.M 1 r (.V 3 3 r (.T d [6,7] r (λa d=>?_) λa d=>?_)))
 . exact .D 5 16 r (.r0 results365 r ⟨(decide (a0<=a1)),r,d⟩)
 exact .D 5 16 r (.r0 results365 r ⟨false,r,d⟩)
theorem WR {a0 a1 Q} (W:RepSl B0 I p1 c2 a0) (J:N5 a0 a1 Q) :
  B3 prog 366 [.slice p1 a0.length c2,vi a1] I (λ_=>bV Q):=by
 refine Fun.ee func366 ntmps366 r (.F (.D 1 3 r (.B (.M 1 r (.ln BE r (.D 1 899 r (.E (.lp J [8,7,1,0] [] r (λj E l b=>j ((9,vi b) :: E) l) (ji rf [] r) ?_))))))));refine λb _ J=>jq r λp a=>?_;have W:=a.u1 W;refine .F (.D 1 1923 r (.B (.A r J (λf J=>?_) λf J=>?_)))
 . refine .P 899 r (.B (.E (.M 1 r ?_)));have⟨q,_,g,_,_,s,h,J⟩:=W.ix J;refine .U BE D3 s q g r (.x 0 AM h r (.G 2 r (.V 995 3 r (.v call365 (WQ (I:=p) J:) r λ_ J=>.G 2 r (.T J [18,19] r (λk J=>?_) λk J=>?_)))))
   . exact .D 12 2147484547 r (.Q r r (.F (.D 1 16 r (.r1 results366 r a ⟨false,r,J⟩))))
   refine .G 3 r (.T J [21,22] r (λm J=>?_) λm J=>?_)
   . refine .G 3 r ?_;have⟨t,_,c,_,_,n,d,J⟩:=W.ix J;refine .O r (.U BE D3 n t c r (.O r (.x 0 AM d r (.D 4 2147484547 r (.A r J (λe J=>?_) λe J=>?_)))))
     . exact .F (.D 1 16 r (.r1 results366 r a ⟨false,r,J⟩))
     exact .P 899 r (.C (.G 2 r (.H (je (A5 (b+1)) J a [] r))))
   exact .D 9 2147484547 r (.Z r r (.P 899 r (.C (.G 2 r (.H (je (A5 (b+1)) J a [] r))))))
 exact .en 0 r (.F (.D 1 16 r (.r1 results366 r a ⟨true,r,J⟩)))
theorem nC {a0 Q} (Z:wU I gd1 a0) (W:TO a0 Q) :
  B3 prog 355 [.agg (FD a0 gd1)] I (λ_=>bV Q):=by
 refine Fun.ee func355 ntmps355 r (.F (.bx r λ_=>.G 1 r (.V 2 1 r (.I EJ .z r (.ln BE r (.D 1 10 r (.B (.M 1 r (.I AM .z r (.v call365 (WQ (I:=I) W:) r λ_ W=>.G 2 r (.T W [11,12] r (λs W=>?_) λs W=>?_)))))))))))
 . exact .D 26 274877906954 r (.Q r r (.F (.D 1 4 r (.drop .z (.r0 results355 r ⟨false,r,W⟩)))))
 refine .G 1 r (.O r (.I AM .z r ?_));refine .O r (.AE call365 r (WQ (I:=I) W:) r r λ_ u=>?_);obtain⟨_,rfl,W⟩:=u;refine .G 3 r (.T W [16,17,18] r (λv W=>?_) λv W=>?_)
 . exact .D 20 274877906954 r (.Q r r (.F (.D 1 4 r (.drop .z (.r0 results355 r ⟨false,r,W⟩)))))
 refine .G 1 r (.O r (.I EJ .z r (.O r (.ln BE r (.G 1 r (.O r (.I EJ .z r (.O r (.ln BE r (.G 4 r (.T W [26,27,28] r (λw W=>?_) λw W=>?_)))))))))))
 . exact .D 10 274877906954 r (.Q r r (.F (.D 1 4 r (.drop .z (.r0 results355 r ⟨false,r,W⟩)))))
 refine .G 1 r (.O r (.I FX .z r (.O r (.ln DF r (.G 4 r (.T W [33,34,35] r (λx W=>?_) λx W=>?_))))))
 . exact .D 3 274877906954 r (.Q r r (.F (.D 1 4 r (.drop .z (.r0 results355 r ⟨false,r,W⟩)))))
 refine .D 3 274877906954 r (.A r W (λy W=>?_) λy W=>?_)
 . exact .F (.D 1 4 r (.drop .z (.r0 results355 r ⟨false,r,W⟩)))
 refine .P 10 r (.B (.M 1 r (.I EJ .z r (.G 1 r (.I AM .z r (.v call366 (WR Z.1 W:) r λ_ W=>.G 2 r (.T W [44,45] r (λB W=>?_) λB W=>?_)))))))
 . exact .D 25 1180591620717411303426 r (.Q r r (.F (.D 1 4 r (.drop .z (.r0 results355 r ⟨false,r,W⟩)))))
 refine .G 1 r (.O r (.I EJ .z r (.G 2 r ?_)));refine .O r (.AE call366 r (WR Z.2.1 W:) r r λ_ D=>?_);obtain⟨_,rfl,W⟩:=D;refine .G 3 r (.T W [51,52,53] r (λF W=>?_) λF W=>?_)
 . exact .D 17 1180591620717411303426 r (.Q r r (.F (.D 1 4 r (.drop .z (.r0 results355 r ⟨false,r,W⟩)))))
 refine .G 1 r (.O r (.I EJ .z r ?_));have⟨a1,_,G,_,_,a2,J,W⟩:=Z.2.1.ix W;refine .O r (.U BE D3 a2 a1 G r (.O r (.x 0 AM J r (.G 3 r (.T W [58,59,60] r (λK W=>?_) λK W=>?_)))))
 . exact .D 10 1180591620717411303426 r (.Q r r (.F (.D 1 4 r (.drop .z (.r0 results355 r ⟨false,r,W⟩)))))
 refine .G 1 r (.O r (.I EJ .z r (.G 1 r (.O r (.I EJ .z r (.O r (.ln BE r ?_)))))));have⟨a3,_,N,_,_,a4,O,W⟩:=Z.2.1.ix W;refine .O r (.U BE D3 a4 a3 N r (.O r (.x 0 AM O r (.D 3 1180591620717411303426 r (.A r W (λP W=>?_) λP W=>?_)))))
 . exact .F (.D 1 4 r (.drop .z (.r0 results355 r ⟨false,r,W⟩)))
 refine .P 2 r (.B (.M 1 r (.I EJ .z r (.ln BE r (.D 1 28334198897217871282178 r (.E (.lp W [73,1] [0] r (λj E l c=>j ((74,vi c) :: E) l) (ji rf [0] r) ?_)))))));refine λc _ W=>jq r λ_ a=>?_;have Z:=a.u1 Z;refine .F (.D 1 66113130760175032991746 r (.B (.A r W (λg W=>?_) λg W=>?_)))
 . refine .P 28334198897217871282178 r (.B (.E (.F (.D 2 28334198897217871282194 r (.B (.dr AyU 18 (.K 1 r (.X EJ 0 r (.K 1 r (.X EJ 0 r (.K 1 r ?_)))))))))));have⟨R,d,i,_,_,S,k,W⟩:=Z.2.1.ix W;refine .h r (.U BE D3 S R i r .mk) (.h r (.x 0 AM k r .mk) (.K 1 r (.X EJ 0 r (.K 2 r ?_))));have⟨T,b,m,_,_,U,n,W⟩:=Z.2.1.ix W;refine .h r (.U BE D3 U T m r .mk) (.h r (.x 0 AM n r .mk) ?_);have⟨V,_,_,W⟩:=W;have e:Int.toNat d<=Int.toNat b:=by omega
   have f:Int.toNat b<=a0.Row.length:=by omega
   have⟨_,_,a5,X,Y⟩:=RepSl.sliceW Z.2.2.1 (Int.toNat d) (Int.toNat b) gd1.2.2.1.2 e f (.inl rfl);refine .h r (.sliceW (L:=Int.toNat d) (H:=Int.toNat b) (cm:=gd1.2.2.1.2) BE D3 r r Z.2.2.1.1 r r r (.inr ⟨_,_,r,V,r⟩) (.inr ⟨_,_,r,(by omega),r⟩) (.inl r) e f r a5 X r r .mk) (.K 1 r (.X AM 0 r (.Y r (.v call366 (WR Y W:) r λ_ W=>.q 1 r tv (.K 1 r (.e2 18 (.L 19807068962764981616257269762 r (.A r W (λp W=>?_) λp W=>?_))))))))
   . exact .F (.D 1 4 r (.drop .z (.r1 results355 r a ⟨false,r,W⟩)))
   exact .P 28334198897217871282178 r (.C (.G 2 r (.H (je (A5 (c+1)) W a [0] r))))
 exact .en 0 r (.drop .z (.F (.D 1 4 r (.r1 results355 r a ⟨true,r,W⟩))))
theorem rC {a0 Q} (D:wU I gd1 a0) (d:X8 a0 Q) :
  B3 prog 340 [.agg (FD a0 gd1)] I (AyD Q):=by
 refine Fun.ee func340 ntmps340 r (.F (.bx r λ_=>.al vE r λ_=>.L 6 r (.B (.F (.S H9 EG .p1 r (.v call355 (nC D d:) r λ_ d=>.L 22 r (.A r d (λe d=>?_) λe d=>?_)))))))
 . exact .F (.S H9 EG .p1 r (.R EG .z r (.L 4 r (.drop .p1 (.J (B5 r (.w H9 EG r .z r .n) rf ⟨a0,gd1,r,D,d⟩))))))
 refine .P 4 r (.drop .p1 (.F ?_));refine .AF call184 r (rA (I:=I) d:) r r λ_ _ _ g h=>?_;obtain⟨s,_,_,_,_,_,_,_,_,rfl,rfl,d⟩:=h;refine .R EG .p4 r (.L 4 r (.y .z λ_ i a=>?_));have j:=i.u1 g;refine .y .z λ_ k b=>?_;have⟨l,a⟩:=k.u2 j a;refine .y .z λ_ m c=>?_;have⟨o,a,b⟩:=m.u3 l a b;refine .y .z λ_ p t=>?_;have⟨q,a,b,c⟩:=p.u4 o a b c;exact .J (B5 r (.w H9 EG r .z r .n) q ⟨s,((_,_),(_,_),(_,_),(_,_)),r,⟨a,b,c,t⟩,d⟩)
theorem nD {a0 a1 Q} (O:wU I gd1 a0) (J:TP a0 a1 Q) :
  B3 prog 341 [.agg (FD a0 gd1),vi a1] I (λ_=>Y6 Q):=by
 refine Fun.ee func341 ntmps341 r (.F (.bx r λ_=>.D 1 6 r (.scope (.B (.dr [0,1,2,3] 4 (.K 1 r (.X EJ 0 r (.h r (.ln BE r .mk) (.K 1 r (.e2 4 (.D 1 102 r ?_)))))))))));refine .B (.labelS 102 r r (.B (.jn J [] [] r (λj E l (d,f)=>j ((5,vi d) :: (6,vi f) :: E) l) (λ_ J=>?_) ?_)))
 . refine .E (.lp J [2,1] [0] r (λj E l (a,b)=>j ((5,vi a) :: (6,vi b) :: E) l) (ji rf [0] r) ?_);rintro⟨a,b⟩ _ J;refine jq r λ_ c=>?_;have O:=c.u1 O;refine .B (.F (.D 3 8294 r (.A r J (λg J=>?_) λg J=>?_)))
   . refine .P 102 r (.E (.M 4 r (.quo r r (by decide) r r (.D 2 230 r (.E (.M 1 r (.I EJ .z r (.G 1 r ?_))))))));have⟨s,_,i,_,_,t,k,J⟩:=O.1.ix J;refine .U BE D3 t s i r (.x 0 AM k r (.D 3 2097382 r (.A r J (λm J=>?_) λm J=>?_)))
     . exact .F (.D 2 96 r (.drop .z (.exit (je (A5 (a+(A5 ((A5 (b - a)).tdiv 2))),b) J c [] r))))
     refine .M 1 r (.I EJ .z r (.G 1 r ?_));have⟨u,_,n,_,_,v,o,J⟩:=O.1.ix J;refine .U BE D3 v u n r (.x 0 AM o r (.D 3 1073742054 r (.A r J (λp J=>?_) λp J=>?_)))
     . exact .C (.G 3 r (.H (je (A5 ((A5 (a+(A5 ((A5 (b - a)).tdiv 2))))+1),b) J c [0] r)))
     exact .C (.G 2 r (.H (je (a,A5 (a+(A5 ((A5 (b - a)).tdiv 2)))) J c [0] r)))
   exact .exit (je (a,b) J c [] r)
 rintro⟨d,f⟩ J;refine jq r λ_ e=>.B (.F (.D 3 4398046511136 r (.A r J (λq J=>?_) λq J=>?_)))
 . exact .F (.D 2 16 r (.r1 results341 r e ⟨d,r,J⟩))
 exact .P 0 r (.F (.D 1 16 r (.r1 results341 r e ⟨(-1),r,J⟩)))
theorem AgH {a0 a1 Q} (W:wU I gd1 a0) (O:RepSl B0 I p3 c4 a1) (J:dM a0 a1 Q) :
  B3 prog 315 [.agg (FD a0 gd1),.slice p3 a1.length c4] I (λ_=>Y6 Q):=by
 refine Fun.ee func315 ntmps315 r ?_;refine .F (.bx r λ_=>?_);refine .G 1 r (.ns 6 r (.S H9 EG .z r (.ca call340 r (rC W J:) λ_ _ e u=>?_)));obtain⟨_,_,rfl,d,J⟩:=u;have⟨W,O⟩:=e.u2 W O;refine .R EG .z r (.V 6 1 r (.L 38 r (.B (.M 1 r (.ln BE r (.D 1 14372 r (.E (.lp J [12,11,2] [0] r (λj E l (a,b)=>j ((5,vi a) :: (13,vi b) :: E) l) (ji rf [0] r) ?_))))))));rintro⟨a,b⟩ _ J;refine jq r λ_ c=>?_;have⟨f,O,d⟩:=c.u3 e O d;refine .F (.D 1 30756 r (.B (.A r J (λg J=>?_) λg J=>?_)))
 . refine .P 14372 r (.B (.E (.F ?_)));have⟨v,_,i,_,_,w,k,J⟩:=O.ix J;refine .U BE D3 w v i r (.x 0 AM k r (.G 1 r (.ns 14500 r (.S H9 EG .z r (.G 1 r (.v call341 (nD d J:) r λ_ J=>.G 1 r (.V 14628 2 r (.L 2111780 r (.A r J (λn J=>?_) λn J=>?_)))))))))
   . refine .dr Aj5 14 (.K 2 r (.X EJ 0 r (.K 2 r ?_)));have⟨x,y,o,_,_,A,p,J⟩:=d.2.1.ix J;refine .h r (.U BE D3 A x o r .mk) (.h r (.x 0 AM p r .mk) (.K 1 r (.X EJ 0 r (.K 1 r ?_))));have⟨B,C,q,_,_,D,s,J⟩:=d.2.1.ix J;exact .h r (.U BE D3 D B q r .mk) (.h r (.x 0 AM s r .mk) (.K 2 r (.e2 14 (.D 1 14372 r (.C (.G 2 r (.H (je (A5 (a+(A5 (y - C))),A5 (b+1)) J c [0] r))))))))
   exact .P 14372 r (.C (.G 2 r (.H (je (a,A5 (b+1)) J c [0] r))))
 exact .en 32 r (.drop .z (.F (.D 2 16 r (.r1 results315 r f ⟨a,r,J⟩))))
theorem AgI {a0 a1 Q} (J:wU I gd1 a0) (O:RepSl CB I p3 c4 a1.Items) (d:dN a0 a1 Q) :
  B3 prog 278 [.agg (FD a0 gd1),.agg #[vi a1.N,.slice p3 a1.Items.length c4]] I (λ_=>Y6 Q):=by
 refine Fun.ee func278 ntmps278 r ?_;refine .F (.bx r λ_=>.bx r λ_=>?_);refine .D 1 12 r (.B (.dr [0,1,2,3] 4 (.h r (.S H9 EG .p1 r .mk) (.h r (.S BK AQ .z r .mk) (.Y r (.ca call314 r (cR O d:) λ_ _ a c=>?_))))));obtain⟨_,_,_,rfl,e,d⟩:=c;have⟨J,O⟩:=a.u2 J O;exact .q 2 r (.W r (.S H9 EG .p1 r .mk) tv) (.Y r (.v call315 (AgH J e d:) r λf d=>.q 2 r tv (.e2 4 (.D 1 16 r (.drop .z (.drop .z (.r1 results278 r a ⟨f,r,d⟩)))))))
theorem NG {a0 a1 Q} (O:RepSl EH I p1 c2 a0) (J:LJ a0 a1 Q) :
  B3 prog 292 [.slice p1 a0.length c2,vi a1] I (λ_=>bV Q):=by
 refine Fun.ee func292 ntmps292 r (.F (.D 1 3 r (.B (.dr Aj5 14 (.K 2 r (.Y r (.v call57 (cO O J:) r λ_ J=>.q 0 r tv (.K 1 r ?_))))))));refine D5 J (λa J=>?_) λa J=>?_
 . refine .h r (.N r r a (.AD r r r .mk)) (.h r (.N r r a (.AD r r r .mk)) (.h r (.N r r a (.shr' r r (by decide) r r .mk)) ?_));have⟨i,j,b,_,_,d,c,J⟩:=O.ix J;refine .h r (.N r r a (.U GZ G9 d i b r .mk)) (.h r (.N r r a (.x 0 FI c r .mk)) (.h r (.N r r a (.AD r r r .mk)) (.Y r ?_)));refine .N r r a (.AE call58 r (rB (I:=I) J:) r r λ_ f=>?_);obtain⟨k,rfl,J⟩:=f;exact .q 0 r (.W r (.N r r a (.x 0 FI c r .mk)) (.W r (.N r r a (.U GZ G9 d i b r .mk)) (.W r (.N r r a (.shr' r r (by decide) r r .mk)) (.W r (.N r r a (.AD r r r .mk)) (.W r (.N r r a (.AD r r r .mk)) tv))))) (.h r (.N r r a (.and r r r r .mk)) (.h r (.N r r a (.ne r r r r .mk)) (.h r (.pickT r a r r r .mk) (.e2 14 (.D 1 16 r (.r0 results292 r ⟨((Y4 .u64 j k) != 0),r,J⟩))))))
 exact .gn r a (.gn r a (.gn r a (.gn r a (.gn r a (.gn r a (.gn r a (.gn r a (.gn r a (.h r (.pickF r a r r r .mk) (.e2 14 (.D 1 16 r (.r0 results292 r ⟨false,r,J⟩))))))))))))
theorem gN {a0 Q} (W:lTi I gi1 a0) (J:RH a0 Q) :
  B3 prog 356 [.agg (KY a0 gi1)] I (λ_=>bV Q):=by
 refine Fun.ee func356 ntmps356 r (.F (.bx r λ_=>.D 1 2 r (.B (.M 1 r (.I P1 .z r (.G 1 r (.I AM .z r (.v call308 (gM W.1 J:) r λ_ J=>.G 2 r (.T J [10,11] r (λg J=>?_) λg J=>?_)))))))))
 . exact .D 7 262146 r (.Q r r (.F (.D 1 4 r (.drop .z (.r0 results356 r ⟨false,r,J⟩)))))
 refine .G 1 r (.O r (.I FX .z r (.O r (.ln DF r (.G 1 r (.O r (.I AM .z r (.D 2 262146 r (.A r J (λh J=>?_) λh J=>?_)))))))))
 . exact .F (.D 1 4 r (.drop .z (.r0 results356 r ⟨false,r,J⟩)))
 refine .P 2 r (.B (.M 1 r (.I FX .z r (.ln DF r (.D 1 7340034 r (.E (.lp J [21,20,1] [0] r (λj E l b=>j ((22,vi b) :: E) l) (ji rf [0] r) ?_)))))));refine λb _ J=>jq r λ_ a=>?_;have W:=a.u1 W;refine .F (.D 1 15728642 r (.B (.A r J (λi J=>?_) λi J=>?_)))
 . refine .P 7340034 r (.B (.E (.M 1 r ?_)));have⟨p,_,k,_,_,q,m,J⟩:=W.2.ix J;refine .U DF XP q p k r (.x 0 LY m r (.G 2 r (.V 7340058 3 r (.T J [28,29] r (λn J=>?_) λn J=>?_))))
   . refine .G 1 r (.O r (.I P1 .z r (.G 1 r ?_)));refine .O r (.AE call292 r (NG W.1 J:) r r λ_ d=>?_);obtain⟨_,rfl,J⟩:=d;refine .D 2 34367078402 r (.A r J (λe J=>?_) λe J=>?_)
     . exact .F (.D 1 4 r (.drop .z (.r1 results356 r a ⟨false,r,J⟩)))
     exact .P 7340034 r (.C (.G 2 r (.H (je (A5 (b+1)) J a [0] r))))
   exact .D 6 34367078402 r (.Z r r (.P 7340034 r (.C (.G 2 r (.H (je (A5 (b+1)) J a [0] r))))))
 exact .en 0 r (.drop .z (.F (.D 1 4 r (.r1 results356 r a ⟨true,r,J⟩))))
theorem AdB {a0 Q} (D:lTi I gi1 a0) (d:iG a0 Q) :
  B3 prog 342 [.agg (KY a0 gi1)] I (AyF Q):=by
 refine Fun.ee func342 ntmps342 r (.F (.bx r λ_=>.al mG r λ_=>.L 6 r (.B (.F (.S L7 FH .p1 r (.v call356 (gN D d:) r λ_ d=>.L 22 r (.A r d (λc d=>?_) λc d=>?_)))))))
 . exact .F (.S L7 FH .p1 r (.R FH .z r (.L 4 r (.drop .p1 (.J (B5 r (.w L7 FH r .z r .n) rf ⟨a0,gi1,r,D,d⟩))))))
 refine .P 4 r (.drop .p1 (.F ?_));refine .AF call313 r (W7 (I:=I) d:) r r λ_ _ _ e f=>?_;obtain⟨i,_,_,_,_,rfl,a,rfl,d⟩:=f;refine .R FH .p1 r (.L 4 r (.y .z λ_ g j=>?_));have⟨h,a⟩:=g.u2 e a;exact .J (B5 r (.w L7 FH r .z r .n) h ⟨i,((_,_),(_,_)),r,⟨a,j⟩,d⟩)
theorem rO {a0 Q} (J:lTi I gi1 a0) (O:WF a0 Q) :
  Fun prog 343 #[.agg (KY a0 gi1)] I [] (λh v l=>∃ r b3 d,v=.func (.func 357) #[] #[vp b3]∧lTi h d r∧l=[pc b3 (KY r d) 324]∧Q r):=by
 exact Fun.ee func343 ntmps343 r (.F (.bx r λb3=>.G 1 r (.ns 2 r (.mkFn r r r r (.D 1 4 r (.q1 results343 rf [0] r ⟨a0,_,gi1,r,J,r,O⟩))))))
theorem nE {o0 o1 o2 Y Q} (hY:∀ {J_:IH},I.le J_->∀ {y12:Nat} {y13:Vec} {x19:Int} {x20:Int} {p15:Option Addr} {c16:Nat} {Qy:(Bool×Nat×Vec)->Prop},Y y12 y13 x19 x20 Qy->RFun prog lr [vi x19,vi x20] J_ [Rr y12,pc b4 #[vi y13.N,.slice p15 y13.Items.length c16] 235,OwnSl CB 300 p15 c16 y13.Items] (λZ v l=>∃ r a5 a3,v=.bool r.1∧l=[Rr r.2.1,pc b4 #[vi r.2.2.N,.slice a5 r.2.2.Items.length a3] 235,OwnSl CB 300 a5 a3 r.2.2.Items]∧Qy r)) (O:lTi I gi10 o2) (D:S1 o0 o1 o2 Y Q) :
  Fun prog 357 #[.func (.yield lr) #[] #[],vp b9] I [Rr o0,pc b4 #[vi o1.N,.slice p5 o1.Items.length c6] 235,OwnSl CB 300 p5 c6 o1.Items,pc b9 (KY o2 gi10) 324] (λZ v l=>∃ r a4 a2,v=.tuple #[]∧l=[Rr r.1,pc b4 #[vi r.2.N,.slice a4 r.2.Items.length a2] 235,OwnSl CB 300 a4 a2 r.2.Items,pc b9 (KY o2 gi10) 324]∧Q r):=by
 refine Fun.ee func357 ntmps357 r (.M 1 r (.I P1 .p3 r (.v call335 (ZC O.1 D:) r λ_ D=>.D 1 11 r (.E (.lx D mW [3] r (λj E l (e,b,k,f)=>λc w=>∃ g h,j ⟨23,[],none⟩ (λZ=>True) ((3,vi k) :: E) (pc b4 #[vi e,.slice g b.length h] 235 :: OwnSl CB 300 g h b :: Rr f :: l) c w) (λc w V W=>⟨_,_,jf rf tv Aj4 r V W⟩) ?_)))));rintro⟨e,b,k,f⟩ _ D c w ⟨g,h,A,a,_,a7,a8⟩;have O:=a.u1 O;refine Cod.at a7 a8 (.B (.F (.D 2 267 r (.A r D (λp D=>?_) λp D=>?_))))
 . refine .P 11 r (.B (.E (.M 3 r (.I FX .p3 r (.G 1 r ?_)))));have⟨B,C,q,_,_,a6,i,D⟩:=O.2.ix D;refine .U DF XP a6 B q r (.x 0 LY i r ?_);have s:=hY (J_:=A) a (y12:=f) (y13:=({ N:=e,Items:=b }:Vec)) (x19:=k) (x20:=C) (p15:=g) (c16:=h) D;refine .callY r r (.o [2,0,0] r) s r r λ_ _ _ t u=>?_;obtain⟨d,_,_,rfl,rfl,D⟩:=u;have⟨m,O,i⟩:=t.u3 a O i;refine .rn 4 r (.D 1 4194315 r (.A r D (λx D=>?_) λx D=>?_))
   . exact .J (DZ r .n m (.o W0 r) ⟨(d.2.1,d.2.2),_,_,r,r,D⟩)
   exact .P 11 r (.C (.G 1 r (.I P1 .p3 r (.G 2 r (.v call335 (ZC O.1 D:) r λ_ D=>.G 1 r (.H λc w V W=>⟨_,D,_,_,jf m tv Aj4 r V W⟩))))))
 exact .exit (JR r .n a (.o [2,0,0,0] r) ⟨(f,({ N:=e,Items:=b }:Vec)),_,_,r,r,D⟩)
theorem AdC {a0 Q} (R2:lTi I gi1 a0) (hd:YF a0 Q) :
  B3 prog 316 [.agg (KY a0 gi1)] I (AyG Q):=by
 refine Fun.en func316 ntmps316 r λw0 M=>?_;refine .marks0 (.F (.bx r λW=>.al CC r λX=>?_));refine .ns 6 r (.S L7 FH .p1 r (.ca call342 r (AdB R2 hd:) λY Z b t=>?_));obtain⟨E,K,rfl,d,hd⟩:=t;have R2:=b.u1 R2;refine .R FH .p1 r (.V 6 1 r (.I AM .p1 r (.bd CC F4 GQ r (.al CC r λF=>?_))));refine .R AQ .z r (.L 14 r (.B (.F (.S L7 FH .p2 r ?_))));refine .cS (.f call343 r) .n r (rO d hd:) λa1 G a2 v x=>?_;obtain⟨H,J,y,rfl,a,rfl,hd⟩:=x;have⟨A,d⟩:=v.u2 b d;refine .rn 5 r (.L 4108 r (.drop .p3 (.E (.own0 CB 300 (.rangeF [] r call357 (.o [4,2,0,0] r) λlr D rc hrc=>?_)))));refine⟨_,nE (I:=G) (lr:=lr) (Rr:=eZ lr [] rc) (o0:=0) (o1:=({ N:=E.N,Items:=([]:List B9) }:Vec)) (o2:=H) (b4:=F) (p5:=none) (c6:=0) (b9:=J) (gi10:=y) ?_ a hd,?_⟩
 . intro I hJ a3 p q e a4 a5 Qy  hd
   replace a:=hJ.u1 a
   obtain⟨rfl,hd⟩:=hd;refine RFun.mk hrc r λw0 M=>.F (.D 1 16408 r (.C (.G 1 r (.H λc w ho hs=>tF (E':=[(3,_),(4,_),(5,_)]) ho ⟨r,r,r,tv⟩ hs .z (.E (.C (.G 1 r (.I HO .p1 r (.G 2 r (.bd L8 vD vB r (.bs 1 DX DN L8 r λL=>?_)))))))))));have⟨g,hd⟩:=hd;exact .ap (ys:=[({ At:=q,Val:=e }:B9)]) .p3 DX DX vA r (.box .z (.one r) r) g λO P=>.G 1 r (.s1 sizeOf233 .p3 r (.H λc w ho hs=>AhK 0 (.inl rfl) rf .p2 (.o [2,0] rfl) ⟨(true,0,({ N:=p.N,Items:=(p.Items++([({ At:=q,Val:=e }:B9)])) }:Vec)),_,_,rfl,rfl,hd⟩ hs))
 intro R S l' h j;obtain⟨B,T,U,rfl,rfl,hd⟩:=j;have⟨k,a⟩:=h.u2 A a;have⟨hz,hd⟩:=hd;refine⟨_,_,r,λhj=>?_,λi hj=>absurd (hz.symm.trans hj) (by simp)⟩;refine .rn 5 r (.mkS 12 r r (.drop .p3 (.F (.S BK AQ .p1 r (.R AQ .p3 r (.L 4 r (.drop .p1 (.y .p1 λV l C=>?_))))))));have m:=l.u1 k;exact .J (zD .z results316 (.w BK AQ r .z r .n) m ⟨B.2,_,_,r,C,hd⟩)
theorem ZE {a0 Q} (V:lTj I gj1 a0) (U:PL a0 Q) :
  B3 prog 279 [.agg (Aq2 a0 gj1)] I (AyG Q):=by
 refine Fun.ee func279 ntmps279 r (.F (.bx r λ_=>.al CC r λ_=>.L 6 r (.B (.E (.M 1 r (.I isAgg223 .p1 r (.D 2 14 r (.A r U (λd U=>?_) λd U=>?_))))))))
 . refine .M 1 r (.AA L7 FH r .p1 (.o 3 r) r r r ?_);refine .ca call316 r (AdC V.2 U:) λ_ _ b f=>?_;obtain⟨x,_,_,rfl,y,U⟩:=f;have V:=b.u1 V;exact .R AQ .z r (.L 4 r (.drop .p1 (.J (B5 r (.w BK AQ r .z r .n) b ⟨x,_,_,r,y,U⟩))))
 refine .B (.jn U [2,1] mW r (λj E l c=>j ((10,.bool c) :: E) l) (λ_ U=>?_) ?_)
 . refine .C (.G 1 r (.I isAgg223 .p1 r (.G 2 r (.T U [13,14] r (λg U=>?_) λg U=>?_))))
   . refine .G 1 r (.O r (.AA BK AQ r .p1 (.o 2 r) r r r ?_));refine .O r (.AE call270 r (FQ V.1 U:) r r λ_ k=>?_);obtain⟨A,rfl,U⟩:=k;exact .G 2 r (.H (je A U rf mW r))
   exact .G 5 r (.H (je false U rf mW r))
 refine λc U=>jq r λ_ a=>?_;have V:=a.u1 V;refine .A r U (λm U=>?_) λm U=>?_
 . refine .B (.dr [0,1,2,3,4,5,6,7] 8 (.K 2 r (.X AM 0 r (.K 2 r (.X HO 0 r (.Y r ?_))))));refine .AF call237 r (BP V.1 U:) r r λ_ _ _ q s=>?_;obtain⟨B,_,_,rfl,rfl,U⟩:=s;have⟨t,V⟩:=q.u2 a V;refine .q 3 r (.W r (.I AM .p1 r .mk) (.j 2 r r tv)) (.h r (.bd CC F4 GQ r .mk) (.e2 8 (.R AQ .p2 r (.L 4 r (.drop .p1 (.y .z λ_ u C=>?_))))));have v:=u.u1 t;exact .J (B5 r (.w BK AQ r .z r .n) v ⟨({ N:=a0.Vec.N,Items:=B }:Vec),_,_,r,C,U⟩)
 exact .P 4 r (.drop .z (.F (.bd CC F4 GQ r (.R AQ .z r (.L 4 r (.J (B5 r (.w BK AQ r .z r .n) a ⟨CJ,_,_,r,(.nil _ _ _),U⟩)))))))
theorem AgJ {a0 Q} (h:nN I gb1 a0) (J:dO a0 Q) :
  B3 prog 280 [.agg (KX a0 gb1)] I (λ_=>Y6 Q):=by
 refine Fun.ee func280 ntmps280 r ?_;refine .F (.bx r λ_=>?_);refine .G 1 r (.ns 2 r (.S CW BL .z r (.ca call227 r (UJ h J:) λ_ _ a c=>?_)));obtain⟨d,_,rfl,_,J⟩:=c;have h:=a.u1 h;exact .field1 qS r EJ r r r r (.ln BE r (.D 1 4 r (.drop .z (.r1 results280 r a ⟨(d.Col.length:Int),r,J⟩))))
theorem AdD {a0 Q} (V:RepSl ET I p1 c2 a0) (J:YG a0 Q) :
  B3 prog 285 [.slice p1 a0.length c2] I (λ_=>bV Q):=by
 refine Fun.ee func285 ntmps285 r (.F (.D 1 1 r (.B (.M 1 r (.ln EK r (.D 1 97 r (.E (.lp J [5,0] [] r (λj E l c=>j ((6,vi c) :: E) l) (ji rf [] r) ?_))))))));refine λc _ J=>jq r λ_ a=>?_;have V:=a.u1 V;refine .F (.D 1 225 r (.B (.A r J (λd J=>?_) λd J=>?_)))
 . refine .P 97 r (.B (.E (.F (.D 2 105 r (.B (.dr AsV 16 (.K 3 r ?_)))))));refine D5 J (λb J=>?_) λb J=>?_
   . rw[b];refine .K 3 r ?_;have⟨n,_,e,_,_,o,f,J⟩:=V.ix J;refine .h r (.O r (.U EK FG o n e r .mk)) (.K 1 r (.h r (.O r (.x 0 AM f r .mk)) (.K 2 r ?_)));have⟨p,_,g,_,_,q,i,J⟩:=V.ix J;refine .h r (.O r (.U EK FG q p g r .mk)) (.K 1 r (.h r (.O r (.x 0 AM i r .mk)) (.K 2 r (.e2 16 (.L 16777313 r (.A r J (λk J=>?_) λk J=>?_))))))
     . exact .F (.D 1 4 r (.r1 results285 r a ⟨false,r,J⟩))
     exact .P 97 r (.C (.G 2 r (.H (je (A5 (c+1)) J a [] r))))
   rw[b];exact .K 13 r (.e2 16 (.L 16777313 r (.Z r r (.P 97 r (.C (.G 2 r (.H (je (A5 (c+1)) J a [] r))))))))
 exact .en 0 r (.F (.D 1 4 r (.r1 results285 r a ⟨true,r,J⟩)))
theorem pR {a0 Q} (h:RepSl EL I p1 c2 a0) (d:O1 a0 Q) :
  B3 prog 287 [.slice p1 a0.length c2] I (λ_=>Y6 Q):=by
 exact Fun.ee func287 ntmps287 r (.M 1 r (.V 1 1 r (.ln OL r (.D 1 4 r (.r0 results287 r ⟨(a0.length:Int),r,d⟩)))))
theorem jJ {a0 Q} (h:RepSl ET I p1 c2 a0) (d:PM a0 Q) :
  Fun prog 284 #[.slice p1 a0.length c2] I [] (λ_ v l=>∃ r,v=.bool r∧l=[]∧Q r):=by
 exact Fun.ee func284 ntmps284 r (.M 1 r (.V 1 1 r (.v call285 (AdD h d:) r λb d=>.D 2 4 r (.q1 results284 rf [] r ⟨(!b),r,r,d⟩))))
theorem LB {a0 Q} (O:RepSl (Y7 ET) I p1 c2 a0) (J:E7 a0 Q) :
  Fun prog 320 #[.slice p1 a0.length c2,.func (.func 284) #[] #[]] I [] (λ_ v l=>∃ r,v=vi r∧l=[]∧Q r):=by
 refine Fun.ee func320 ntmps320 r (.F (.D 1 3 r (.B (.M 1 r (.ln qV r (.D 1 387 r (.E (.lp J xX [] r (λj E l d=>j ((8,vi d) :: E) l) (ji rf [] r) ?_))))))));refine λd _ J=>jq r λ_ a=>?_;have O:=a.u1 O;refine .F (.D 1 899 r (.B (.A r J (λh J=>?_) λh J=>?_)))
 . refine .P 387 r (.B (.E (.M 2 r (.V 419 3 r ?_))));have⟨q,_,e,J⟩:=J;obtain⟨_,_,_,s,b,_,_,rfl,f⟩:=O.2 _ _ e;refine .U qV ZT s q e r (.x 0 JY b r ?_);refine .cS (.c call284 r r) .n r (jJ f J:) λ_ _ _ k m=>?_;obtain⟨_,rfl,rfl,J⟩:=m;have⟨g,O,f,b⟩:=k.u4 a O f b;refine .rn 0 r (.L 65955 r (.A r J (λo J=>?_) λo J=>?_))
   . exact .F (.D 2 18 r (.q1 results320 g [] r ⟨d,r,r,J⟩))
   exact .P 387 r (.C (.G 2 r (.H (je (A5 (d+1)) J g [] r))))
 exact .en 2 r (.F (.D 1 18 r (.q1 results320 a [] r ⟨(-1),r,r,J⟩)))
theorem JZ {a0 Q} (h:RepSl (Y7 ET) I p1 c2 a0) (J:CK a0 Q) :
  Fun prog 283 #[.slice p1 a0.length c2,.func (.func 284) #[] #[]] I [] (λ_ v l=>∃ r,v=.bool r∧l=[]∧Q r):=by
 refine Fun.ee func283 ntmps283 r ?_;refine .M 1 r (.V 3 2 r ?_);refine .cS (.f call320 r) .n r (LB h J:) λ_ _ _ a c=>?_;obtain⟨d,rfl,rfl,J⟩:=c;have h:=a.u1 h;exact .rn 0 r (.D 2 18 r (.q1 results283 a [] r ⟨(decide (0<=d)),r,r,J⟩))
theorem aG {o0 a0 Q} (D:RepSl ET I p11 c12 a0.l) (d:M0 o0 a0 Q) :
  Fun prog 399 #[vp b2,.iface 394 (.agg #[.slice p11 a0.l.length c12,vi a0.which])] I (kL2 o0 b2 p3 c4 p6 c7) (fun _ v l=>∃ r p15 c16 O J,v=.tuple #[]∧l=(kL2 r b2 p15 c16 O J)∧Q r):=by
 refine Fun.ee func399 ntmps399 r (.M 1 r (.assertOk underlying394 r r r r (.G 3 r (.al zeroValue394 r fun _=>.R JX .z r (.G 1 r (.V 49 1 r (.L 2065 r (.Q r r (.dr wC 7 (.K 3 r (.X UC 1 r (.h r (.S isAgg394 JX .z r .mk) (.Y r ?_)))))))))))))
 refine .bs 1 OL JX zeroValue394 r fun _=>.q 5 r (.W r (.I UC .p2 r .mk) (.j 3 r r tv)) (.Y r ?_)
 obtain ⟨a,d⟩:=d
 exact .ap (ys:=[a0]) .p3 OL OL Ay9 r (.box .z (.one ⟨_,_,r,D⟩) r) a fun _ _=>.q 5 r (.j 1 r r tv) (.e2 7 (.G 1 r (.s1 sizeOf362 .p3 r (.H (JR r .n rf (.o [3,0,2] r) ⟨({ o0 with heads:=(o0.heads++([a0])) }:AJ),_,_,_,_,r,r,d⟩)))))
theorem RV {o0 Q} (d:GX o0 Q) :
  Fun prog 287 #[.slice p2 o0.length c3] I [OwnSl EL 394 p2 c3 o0] (λ_ v l=>∃ r,v=vi r∧l=[OwnSl EL 394 p2 c3 o0]∧Q r):=by
 exact Fun.ee func287 ntmps287 r (.M 1 r (.V 1 1 r (.ln OL r (.D 1 5 r (.q1 results287 rf [0] r ⟨(o0.length:Int),r,r,d⟩)))))
end Go.Proofs.YtieniichmjgmcaaGreat
