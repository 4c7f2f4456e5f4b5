import Derived.Test.YtieniichmjgmcaaGreatF
set_option linter.unusedVariables false
set_option linter.unusedSimpArgs false
set_option maxRecDepth 8000
set_option maxHeartbeats 1000000
set_option linter.defProp false
namespace Go.Proofs.YtieniichmjgmcaaGreat
open Go Go.Fw
open Tryz
def _root_.Go.Fw.Cod.A:=@Go.Fw.Cod.condP
def _root_.Go.Fw.Cod.B:=@Go.Fw.Cod.seq
def _root_.Go.Fw.Ops.C:=@Go.Fw.Ops.kn
def _root_.Go.Fw.Cod.D:=@Go.Fw.Cod.region
def _root_.Go.Fw.Cod.E:=@Go.Fw.Cod.block
def _root_.Go.Fw.Cod.F:=@Go.Fw.Cod.sr
def _root_.Go.Fw.Ops.G:=@Go.Fw.Ops.ks
def _root_.Go.Fw.Ops.H:=@Go.Fw.Ops.nil'
def _root_.Go.Fw.Ops.I:=@Go.Fw.Ops.lo
def _root_.Go.Fw.DrawD.J:=@Go.Fw.DrawD.fk
def _root_.Go.Fw.Cod.K:=@Go.Fw.Cod.ret
def _root_.Go.Fw.Cod.L:=@Go.Fw.Cod.condKT
def _root_.Go.Fw.Ops.M:=@Go.Fw.Ops.no
def _root_.Go.Fw.Cod.N:=@Go.Fw.Cod.sk
def _root_.Go.Fw.Ops.O:=@Go.Fw.Ops.yes
def _root_.Go.Fw.Cod.P:=@Go.Fw.Cod.sn
def _root_.Go.Fw.WPost.P:=@Go.Fw.WPost.sn
def _root_.Go.Fw.Ops.Q:=@Go.Fw.Ops.gyes
def _root_.Go.Fw.Ops.R:=@Go.Fw.Ops.sa
def _root_.Go.Fw.Ops.S:=@Go.Fw.Ops.lw
def _root_.Go.Fw.Ops.T:=@Go.Fw.Ops.spl
def _root_.Go.Fw.Ops.U:=@Go.Fw.Ops.nk
def _root_.Go.Fw.DrawD.V:=@Go.Fw.DrawD.hl
def _root_.Go.Fw.Ops.W:=@Go.Fw.Ops.ixb
def _root_.Go.Fw.PendL.X:=@Go.Fw.PendL.ch
def _root_.Go.Fw.DrawD.Y:=@Go.Fw.DrawD.ww
def _root_.Go.Fw.PendL.Z:=@Go.Fw.PendL.ck
def _root_.Go.Fw.Cod.j:=@Go.Fw.Cod.condKF
def _root_.Go.Fw.WPost.q:=@Go.Fw.WPost.sp
def _root_.Go.Fw.Ops.u:=@Go.Fw.Ops.cq
def _root_.Go.Fw.Ops.v:=@Go.Fw.Ops.ixa0
def _root_.Go.Fw.Ops.x:=@Go.Fw.Ops.ldb
def _root_.Go.Fw.Ops.y:=@Go.Fw.Ops.loadA
def _root_.Go.Fw.Ops.AA:=@Go.Fw.Ops.ixArr
def _root_.Go.Fw.Cod.AB:=@Go.Fw.Cod.skip'
def _root_.Go.Fw.Ops.AC:=@Go.Fw.Ops.move
def _root_.Go.Fw.Ops.AD:=@Go.Fw.Ops.callO
def _root_.Go.Fw.Ops.AE:=@Go.Fw.Ops.callP
abbrev vp (b:Nat):Value:=.pointer (some ⟨b,0,none⟩)
abbrev pc (b:Nat)(c:Array Value)(t:TypeId):HA:=pto b (.cells c t (0,0))
abbrev vi (x:Int):Value:=.int .i64 x
abbrev V8 (o:A1)(W:Nat)(Z:aTn)(d:Option Addr)(h:Nat)(D:Nat)(J:Option Addr)(O:Nat)(U:Nat)(V:Nat):List HA:=[pc W (FX o Z d h D J O U V) 196,QSl GB 238 d h o.out,OwnMap vi fE true D o.shares,OwnSl EV 314 J O o.sums,OwnMap vi eB false U o.came,OwnMap vi GB true V o.votes]
abbrev kL1 (o:BR)(O:Nat)(d:Option Addr)(h:Nat)(D:Nat)(J:Nat):List HA:=[pc O (AdL o d h D J) 200,OwnSl AV 3 d h o.row,OwnMap vi GB true D o.by_,OwnMap vi AV false J o.often]
abbrev kL2 (o:AF)(O:Nat)(d:Option Addr)(h:Nat)(D:Option Addr)(J:Nat):List HA:=[pc O (oI o d h D J) 364,OwnSl EL 394 d h o.heads,OwnSl EV 314 D J o.out]
abbrev kL3 (o:AH)(J:Nat)(O:aTq)(d:Nat)(h:Option Addr)(D:Nat)(U:A3)(V:AP):List HA:=[pc J (FR o O d h D) 138,OwnMap K2 PA false d o.boxes,OwnSl RZ 63 h D o.history,D3 A7 U,D3 BZ V]
abbrev kL4 (o:AH)(J:Nat)(O:aTq)(d:Nat)(h:Option Addr)(D:Nat)(U:A3):List HA:=[pc J (FR o O d h D) 138,OwnMap K2 PA false d o.boxes,OwnSl RZ 63 h D o.history,D3 A7 U]
abbrev kL5 (o:AH)(J:Nat)(O:aTq)(d:Nat)(h:Option Addr)(D:Nat)(U:AP):List HA:=[pc J (FR o O d h D) 138,OwnMap K2 PA false d o.boxes,OwnSl RZ 63 h D o.history,D3 BZ U]
abbrev kL6 (o:AH)(J:Nat)(O:aTq)(d:Nat)(h:Option Addr)(D:Nat):List HA:=[pc J (FR o O d h D) 138,OwnMap K2 PA false d o.boxes,OwnSl RZ 63 h D o.history]
abbrev MF:List Nat:=[0,0]
abbrev US:List Nat:=[0,0,0,0,0,0]
abbrev V9:List Nat:=[0,0,0]
abbrev VA:List Nat:=[0,0,0,0]
abbrev gK:List Nat:=[1,0]
abbrev nl5:List Nat:=[0,1,2,3,4,5,6,7,8,9,10]
abbrev nl6:List Nat:=[1,1,1,1,1,1]
abbrev nl7:List Nat:=[2,1,0]
abbrev nl8:List Nat:=[0,1,2,3,4,5,6]
abbrev nl9:List Nat:=[0,0,0,0,0]
abbrev rL:List Nat:=[1,0,0]
abbrev vW:List Nat:=[7,1,0]
abbrev vX:List Nat:=[0,0,1,0,0,0]
abbrev xQ:List Nat:=[1,1,1]
abbrev AcG:List Nat:=[0,1,2,3,4,5,6,7,8,9,10,11,12,13]
abbrev AhY:List Nat:=[0,1,2,3,4,5,6,7,8,9,10,11]
abbrev AhZ:List Nat:=[0,1,2,3,4,5]
abbrev Ai0:List Nat:=[1,1,0,0]
abbrev Ai1:List Nat:=[0,1,0,0,0]
abbrev An8:List Nat:=[0,1,2,3,4,5,6,7,8,9]
abbrev ArS:List Nat:=[0,1,2,3,4,5,6,7,8,9,10,11,12,13,14,15]
abbrev AuA:List Nat:=[0,1,2,3,5,6,7,8,4,9,10,11]
abbrev AuB:List Nat:=[0,1,2,3,4,5,6,7]
abbrev AuC:List Nat:=[0,1,2,3,6,4,5,999]
abbrev AuD:List Nat:=[0,1,2,3,4,5,6,7,8]
abbrev AuE:List Nat:=[0,0,1,0,0,0,0]
abbrev AwU:List Nat:=[0,1,2,3,4,5,7,8,10,11,6,9,12,13]
abbrev AwV:List Nat:=[0,1,2,3,9,4,5,6,7,8,999,10]
abbrev AwW:List Nat:=[0,1,2,3,4,5,10,6,7,8,9,999,11]
abbrev AyA:List Nat:=[0,1,2,3,4,5,6,7,8,9,10,11,12,13,14,15,16,17]
abbrev AyB:List Nat:=[0,1,2,3,4,5,6,7,8,9,10,11,12,13,14,15,16,17,18,19,20,21,22,23,24]
variable {I:IH}
variable {b2 b3 b4 b5 b6 b7 b8 b9 c2 c3 c4 c5 c6 c7 c8 c9 lr b10 b11 b13 b16 b18 b21 b22 b26 c10 c11 c12 c18 c20 c24:Nat}
variable {p1 p2 p3 p4 p5 p6 p7 p8 p9 p10 p11 p17 p19 p23:Option Addr}
variable {Rr:Nat→HA}
variable {ga1 ga3:aTa}
variable {gb1 gb11:aTb}
variable {gd1 gd4 gd11:aTd}
variable {gg1 gg4 gg8 gg14 gg17:aTg}
variable {gh1 gh2 gh11 gh19:aTh}
variable {gi1 gi3 gi10 gi14:aTi}
variable {gj1:aTj}
variable {gk1:aTk}
variable {gn3:aTn}
variable {gq3 gq4 gq5:aTq}
theorem LQ {a0 a1 Q} (d:FM a0 a1 Q) :
  B6 prog 16 [vi a0,vi a1] I (λ_=>Z6 Q):=by
 refine Fun.ee func16 ntmps16 r (.F (.C 1 3 r (.B (.N 3 r (.T d [6,7] r (λa d=>?_) λa d=>?_)))))
 . exact .C 3 1027 r (.L r r (.F (.C 1 16 r (.r0 results16 r ⟨0,r,d⟩))))
 refine .C 3 1027 r (.A r d (λb d=>?_) λb d=>?_)
 . exact .F (.C 1 16 r (.r0 results16 r ⟨0,r,d⟩))
 refine .P 3 r (.N 2 r ?_);have⟨c,d⟩:=d;exact .rem r r c r r (.C 1 16 r (.r0 results16 r ⟨(a0.tmod a1),r,d⟩))
theorem xR {a0 Q} (D:RepSl CC I p1 c2 a0.Edges) (d:VO a0 Q) :
  B6 prog 20 [.agg #[vi a0.N,.slice p1 a0.Edges.length c2]] I (o1_ Q):=by
 refine Fun.ee func20 ntmps20 r (.F (.bx r fun _=>.al V7 r fun _=>.U 6 1 r (.I AJ .p1 r (.u call16 (LQ (I:=I) d:) r fun g d=>.bd V7 oU AeE r (.al V7 r fun S=>?_)))))
 refine .R D4 .z r (.M 14 r (.B (.F (.C 1 30 r (.E (.own0 CC 73 (.lx d [3,2,1] [3,2] r (fun j E l (a,a2)=>fun c w=>∃ e f,j ⟨51,[],none⟩ (fun _=>True) ((4,vi a2) :: E) (pc S #[vi g,.slice e a.length f] 24 :: OwnSl CC 73 e f a :: l) c w) (fun c w J O=>⟨_,_,jf rf tv [1,0,1,0] r J O⟩) ?_)))))))
 rintro ⟨a,a2⟩ _ d c w ⟨e,f,i,b,_,a6,a7⟩
 have D:=b.u1 D
 refine Cod.at a6 a7 (.B (.N 2 r (.I RS .p2 r (.ln F8 r (.G 2 r (.T d [14,15] r (fun p d=>?_) fun p d=>?_))))))
 · refine .G 4 r (.T d [17,18,19] r (fun q d=>?_) fun q d=>?_)
   · refine .G 1 r (.O r (.I AJ .z r (.C 2 8388638 r (.A r d (fun s d=>?_) fun s d=>?_))))
     · refine .P 30 r (.B (.E (.N 1 r (.I RS .p2 r (.G 1 r ?_)))))
       obtain ⟨a4,k,t,_,_,K,u,d⟩:=D.ix d
       refine .W F8 E5 K a4 t r (.ldW OY E5 u r r r r (.al QG r fun _=>.R E5 .z r (.M 62 r (.dr [0,1,2,3,4,5,7,8,9,10,12,13,14,6,11,15,16,17] 18 (.J 1 r (.V RS 1 r (.J 1 r (.V AJ 0 r (.J 1 r (.V AJ 1 r (.J 1 r ?_)))))))))))
       refine .V AJ 0 r (.J 1 r (.V AJ 1 r (.J 1 r (.V J6 0 r (.J 1 r (.Y r (.u call16 (LQ (I:=i) d:) r fun m d=>?_)))))))
       refine .q 5 r (.Z 1 r r (.X r (.I J6 .z r .mk) (.Z 1 r r (.X r (.I AJ .p1 r .mk) (.Z 1 r r (.X r (.I AJ .z r .mk) (.Z 1 r r (.X r (.I RS .p1 r .mk) (.Z 1 r r tv))))))))) (.Y r (.u call16 (LQ (I:=i) d:) r fun o d=>?_))
       refine .q 5 r (.Z 1 r r (.X r (.I J6 .z r .mk) (.Z 1 r r (.X r (.I RS .p1 r .mk) (.Z 1 r r tv))))) (.h r (.bd QG AvS AvP r .mk) (.Y r (.bs 1 F8 E5 QG r fun _=>?_)))
       refine .q 6 r (.X r (.I RS .p2 r .mk) (.Z 1 r r tv)) (.Y r ?_)
       obtain ⟨y,d⟩:=d
       exact .ap (ys:=[({ From:=m,To:=o,W:=TI .i64 k.W 2147483647 }:B0)]) .p3 F8 F8 AbQ r (.box .z (.one r) r) y fun _ _=>.q 6 r tv (.e2 18 (.G 1 r (.s1 sizeOf22 .p3 r (.M 30 r (.drop .p1 (.drop .p1 (.D (.G 3 r (.H fun c w J O=>⟨_,d,_,_,jf b tv [1,0,0,0] r J O⟩)))))))))
     refine .en 12 r (.drop .p2 (.F (.S FC D4 .z r (.R D4 .p2 r (.M 4 r (.drop .z (.pub .z fun _ A L=>?_)))))))
     have B:=A.u1 b
     exact .K (B7 r (.w FC D4 r .z r .n) B ⟨({ N:=g,Edges:=a }:Graph),_,_,r,L,d⟩)
   refine .C 4 8388638 r (.j r r (.en 12 r (.drop .p2 (.F (.S FC D4 .z r (.R D4 .p2 r (.M 4 r (.drop .z (.pub .z fun _ C a5=>?_)))))))))
   have a3:=C.u1 b
   exact .K (B7 r (.w FC D4 r .z r .n) a3 ⟨({ N:=g,Edges:=a }:Graph),_,_,r,a5,d⟩)
 refine .C 8 8388638 r (.j r r (.en 12 r (.drop .p2 (.F (.S FC D4 .z r (.R D4 .p2 r (.M 4 r (.drop .z (.pub .z fun _ F P=>?_)))))))))
 have G:=F.u1 b
 exact .K (B7 r (.w FC D4 r .z r .n) G ⟨({ N:=g,Edges:=a }:Graph),_,_,r,P,d⟩)
theorem mW {a0 Q} (R3:RepSl CC I p1 c2 a0.G.Edges) (hd:N5 a0 Q) :
  B6 prog 5 [.agg (qB a0 p1 c2)] I (λI_ v=>∃ r p4 c5,v=.tuple #[.agg #[vi r.1.N,.slice p4 r.1.Edges.length c5],vi r.2.1,vi r.2.2.1,vi r.2.2.2]∧RepSl CC I_ p4 c5 r.1.Edges∧Q r):=by
 refine Fun.ee func5 ntmps5 r ?_;refine .F (.bx r λD=>?_);refine .al V7 r λF=>?_;refine .G 3 r (.U 6 1 r (.y FC D4 r .p1 (.o 2 r) r r r ?_));refine .ca call20 r (xR R3 hd:) λH J b k=>?_;obtain⟨g,K,L,rfl,u,hd⟩:=k;have R3:=b.u1 R3;refine .al V7 r λx=>?_;refine .R D4 .z r (.M 70 r (.B (.jx hd [6,2,1] [2,1] r (λj E l (d,a)=>λc w=>∃ e f,j ⟨30,[],none⟩ (λI_=>RepSl CC I_ e f a) E (pc x #[vi d,.slice e a.length f] 24 :: l) c w) (λO hd=>?_) ?_)))
 . refine .N 1 r (.I AJ .z r (.C 1 4166 r (.A r hd (λm hd=>?_) λm hd=>?_)))
   . exact .D (.bd V7 oU AeE r (.R D4 .z r (.H λc w ho hs=>⟨_,hd,_,_,jf rf (.nil _ _ _) [0,1,0] r ho hs⟩)))
   exact .AB λc w ho hs=>⟨_,hd,_,_,jf rf u [0,1,0] r ho hs⟩
 rintro⟨d,a⟩ hd c w ⟨e,f,y,p,A,hok,hsym⟩;have⟨q,R3⟩:=p.u2 b R3;refine Cod.at hok hsym (.B (.dr [0,1,2,3,4,6,7,8,9,10,11,12,13,14,15,5,16,17,18] 19 (.h r (.S FC D4 .z r .mk) (.J 1 r (.V AJ 1 r (.J 1 r (.V AJ 0 r (.J 1 r (.V isAgg5 1 r ?_)))))))));refine .h r (.conv un5 lY r r r .mk) (.h r (.rem r r (by decide) r r .mk) (.J 2 r (.V isAgg5 1 r (.h r (.conv un5 lY r r r .mk) (.h r (.rem r r (by decide) r r .mk) (.J 1 r (.Y r ?_)))))));refine .u call16 (LQ (I:=y) hd:) r λB hd=>?_;refine .q 3 r (.Z 1 r r (.X r (.rem r r (by decide) r r .mk) (.X r (.conv un5 lY r r r .mk) (.X r (.I isAgg5 .p1 r .mk) (.Z 2 r r (.X r (.rem r r (by decide) r r .mk) (.X r (.conv un5 lY r r r .mk) (.X r (.I isAgg5 .p1 r .mk) (.Z 1 r r (.X r (.S FC D4 .z r .mk) tv)))))))))) (.Y r ?_);exact .R D4 .p2 r (.P 3 r r r (.Z 1 r r (.X r (.rem r r (by decide) r r .mk) (.X r (.conv un5 lY r r r .mk) (.X r (.I isAgg5 .p1 r .mk) (.Z 2 r r (.X r (.rem r r (by decide) r r .mk) (.X r (.conv un5 lY r r r .mk) (.X r (.I isAgg5 .p1 r .mk) (.Z 1 r r tv))))))))) (.J 2 r (.e2 19 (.C 1 60 r (.drop .z (.drop .z (.K (B7 r (.w FC D4 r .z r (.t r (.t r (.t r .n)))) q ⟨(({ N:=d,Edges:=a }:Graph),B,A4 (((A4 (a0.R)).tmod 4)+1),A4 (((A4 (a0.C)).tmod 4)+1)),_,_,r,A,hd⟩))))))))
theorem mX {a0 a1 a2 a3 Q} (h:RepSl CC I p1 c2 a0.Edges) (d:TO a0 a1 a2 a3 Q) :
  B6 prog 35 [.agg #[vi a0.N,.slice p1 a0.Edges.length c2],vi a1,vi a2,vi a3] I (o2_ Q):=by
 refine Fun.ee func35 ntmps35 r (.F (.bx r λ_=>.al AlZ r λ_=>.U 286 1 r (.M 798 r (.B (.jn d [8,4,3,2,1] gK r (λj E l a=>j ((9,vi a) :: E) l) (λ_ d=>?_) ?_)))))
 . refine .N 1 r (.I AJ .p1 r (.C 1 4894 r (.A r d (λc d=>?_) λc d=>?_)))
   . exact .D (.G 1 r (.I AJ .p1 r (.minI r r r r (.G 2 r (.H (je (A4 ((if 8191<a0.N then 8191 else a0.N)+1)) d rf gK r))))))
   exact .AB (je 0 d rf gK r)
 refine λa d=>jq r λ_ b=>?_;have h:=b.u1 h;exact .N 1 r (.I AJ .z r (.G 1 r (.bd zeroValue56 underlying56 AyE r (.S FC D4 .z r (.G 3 r (.bd AlZ underlying59 AyF r (.R S8 .p1 r (.M 256 r (.drop .z (.K (B7 r (.w Y0 S8 r .z r .n) b ⟨({ Plan:=({ Kind:=1,N:=a0.N,Source:=a1,Length:=0,Draws:=([]:List Int) }:Plan),Graph:=a0,R:=a2,C:=a3,Room:=4,Limit:=a,Choices:=([]:List HY) }:JB),((_,_),(_,_),(_,_)),r,⟨(.nil _ _ _),h,(.nil _ _ _)⟩,d⟩)))))))))))
theorem BH {a0 Q} (D:RepSl AV I p1 c2 a0) (h:AU a0 Q) :
  B6 prog 38 [.slice p1 a0.length c2] I (o3_ Q):=by
 refine Fun.ee func38 ntmps38 r (.F (.C 1 1 r (.B (.N 1 r (.eqNilS CA r r r r (.M 17 r ?_))))));refine split p1.isNone (λa=>?_) (λa=>?_)
 . have h:=h.1 (RepSl.ofNone D a);exact .L r a (.F (.C 1 4 r (.r0 results38 r ⟨([]:List Int),_,_,r,(.nil _ _ _),h⟩)))
 have h:=h.2;refine .j r a (.P 1 r (.F (.bs 0 CA MO zv2 r λ_=>.G 1 r (.ownB (El:=AV) (ys:=([]:List Int)) .z .nil r ?_))));have⟨b,h⟩:=h;exact .ap (ys:=a0) .z CA CA IN2 r (.imm D r) b λ_ _=>.C 1 4 r (.pub .z λ_ c d=>.r1 results38 r c ⟨(([]:List Int)++a0),_,_,r,d,h⟩)
theorem MZ {a0 a1 Q} (d:JC a0 a1 Q) :
  B6 prog 49 [vi a0,vi a1] I (λ_=>eO Q):=by
 refine Fun.ee func49 ntmps49 r (.N 1 r (.U 3 3 r (.T d [6,7] r (λa d=>?_) λa d=>?_)))
 . exact .C 5 16 r (.r0 results49 r ⟨(decide (a0<=a1)),r,d⟩)
 exact .C 5 16 r (.r0 results49 r ⟨false,r,d⟩)
theorem QK {a0 a1 Q} (d:II a0 a1 Q) :
  B6 prog 82 [vi a0,vi a1] I (λ_=>eO Q):=by
 refine Fun.ee func82 ntmps82 r (.N 1 r (.U 3 3 r (.T d [6,7] r (λa d=>?_) λa d=>?_)))
 . exact .C 5 16 r (.r0 results82 r ⟨(decide (a0<=a1)),r,d⟩)
 exact .C 5 16 r (.r0 results82 r ⟨false,r,d⟩)
theorem SH {o0 a0 Q} (h:RepSl CC I p3 c4 o0.Edges) (d:KU o0 a0 Q) :
  Fun prog 52 #[vi a0,vp b2] I [pc b2 #[vi o0.N,.slice p3 o0.Edges.length c4] 24] (λ_ v l=>∃ r,v=.bool r∧l=[pc b2 #[vi o0.N,.slice p3 o0.Edges.length c4] 24]∧Q r):=by
 refine Fun.ee func52 ntmps52 r (.N 1 r (.U 3 3 r (.T d [5,6] r (λa d=>?_) λa d=>?_)))
 . exact .C 6 10 r (.q1 results52 rf [0] r ⟨true,r,r,d⟩)
 exact .G 2 r (.O r (.I AJ .z r (.C 3 10 r (.q1 results52 rf [0] r ⟨(decide (o0.N<=a0)),r,r,d⟩))))
theorem fK {o1 a0 Q} (R7:RepSl CC I p5 c6 o1.Edges) (hd:O8 o1 a0 Q) :
  Fun prog 54 #[.agg (LW a0).toArray,vp b3] I [pc b3 #[.func (.func 52) #[] #[vp b4]] 110,pc b4 #[vi o1.N,.slice p5 o1.Edges.length c6] 24] (λI_ v l=>∃ r,v=.bool r∧l=[pc b3 #[.func (.func 52) #[] #[vp b4]] 110,pc b4 #[vi o1.N,.slice p5 o1.Edges.length c6] 24]∧Q r):=by
 refine Fun.ee func54 ntmps54 r ?_;refine .F (.bx r λk=>?_);refine .G 1 r (.ns 6 r (.I isAgg110 .p1 r (.G 1 r (.I AJ .z r ?_))));refine .cS (.c call52 r r) (.o [2] r) r (SH (b2:=b4) R7 hd:) λm n p a d=>?_;obtain⟨q,rfl,rfl,hd⟩:=d;have R7:=a.u1 R7;refine .rn 3 r (.G 1 r (.T hd [7,8] r (λe hd=>?_) λe hd=>?_))
 . exact .C 6 10 r (.drop .p1 (.q1 results54 a gK r ⟨true,r,r,hd⟩))
 refine .O r (.I isAgg110 .p2 r (.G 1 r (.O r (.I AJ .p1 r ?_))));refine .O r (.cS (.c call52 r r) (.o [0] r) r (SH (b2:=b4) R7 hd:) λs t u g h=>?_);obtain⟨j,rfl,rfl,hd⟩:=h;have⟨i,R7⟩:=g.u2 a R7;exact .rn 3 r (.C 2 10 r (.drop .p1 (.q1 results54 i gK r ⟨j,r,r,hd⟩)))
theorem KM {o1 a0 Q} (R7:RepSl CC I p5 c6 o1.Edges) (R10:RepSl CC I p8 c9 a0) (hd:DN o1 a0 Q) :
  Fun prog 89 #[.slice p8 a0.length c9,.func (.func 54) #[] #[vp b3]] I [pc b3 #[.func (.func 52) #[] #[vp b4]] 110,pc b4 #[vi o1.N,.slice p5 o1.Edges.length c6] 24] (λI_ v l=>∃ r,v=vi r∧l=[pc b3 #[.func (.func 52) #[] #[vp b4]] 110,pc b4 #[vi o1.N,.slice p5 o1.Edges.length c6] 24]∧Q r):=by
 refine Fun.ee func89 ntmps89 r ?_;refine .F (.C 1 3 r (.B (.N 1 r (.ln F8 r (.C 1 387 r (.E (.lp hd vW MF r (λj E l d=>j ((8,vi d) :: E) l) (ji rf MF r) ?_)))))));refine λd n hd=>jq r λs a=>?_;have⟨R7,R10⟩:=a.u2 R7 R10;refine .F (.C 1 899 r (.B (.A r hd (λf hd=>?_) λf hd=>?_)))
 . refine .P 387 r (.B (.E (.N 2 r (.U 419 3 r ?_))));have⟨p,t,g,u,o62,q,b,hd⟩:=R10.ix hd;refine .W F8 E5 q p g r (.ldW OY E5 b r r r r ?_);refine .cS (.c call54 r r) (.o MF r) r (fK (b3:=b3) (b4:=b4) R7 hd:) λw x y i k=>?_;obtain⟨z,rfl,rfl,hd⟩:=k;have⟨e,R7,R10,b⟩:=i.u4 a R7 R10 b;refine .rn 2 r (.M 65955 r (.A r hd (λm hd=>?_) λm hd=>?_))
   . exact .F (.C 2 18 r (.q1 results89 e MF r ⟨d,r,r,hd⟩))
   exact .P 387 r (.D (.G 2 r (.H (je (A4 (d+1)) hd e MF r))))
 exact .en 2 r (.F (.C 1 18 r (.q1 results89 a MF r ⟨(-1),r,r,hd⟩)))
theorem J7 {o1 a0 Q} (R7:RepSl CC I p5 c6 o1.Edges) (R10:RepSl CC I p8 c9 a0) (hd:D8 o1 a0 Q) :
  Fun prog 53 #[.slice p8 a0.length c9,.func (.func 54) #[] #[vp b3]] I [pc b3 #[.func (.func 52) #[] #[vp b4]] 110,pc b4 #[vi o1.N,.slice p5 o1.Edges.length c6] 24] (λI_ v l=>∃ r,v=.bool r∧l=[pc b3 #[.func (.func 52) #[] #[vp b4]] 110,pc b4 #[vi o1.N,.slice p5 o1.Edges.length c6] 24]∧Q r):=by
 refine Fun.ee func53 ntmps53 r ?_;refine .N 1 r (.U 3 2 r ?_);refine .cS (.f call89 r) (.o MF r) r (KM (b3:=b3) (b4:=b4) R7 R10 hd:) λe g h a c=>?_;obtain⟨d,rfl,rfl,hd⟩:=c;have⟨R7,R10⟩:=a.u2 R7 R10;exact .rn 2 r (.C 2 18 r (.q1 results53 a MF r ⟨(decide (0<=d)),r,r,hd⟩))
theorem fL {a0 Q} (d:O9 a0 Q) :
  Fun prog 55 #[.agg (LW a0).toArray] I [] (λ_ v l=>∃ r,v=.bool r∧l=[]∧Q r):=by
 refine Fun.ee func55 ntmps55 r (.F (.bx r λ_=>.G 1 r (.U 2 1 r (.I J6 .z r (.G 2 r (.T d [5,6] r (λa d=>?_) λa d=>?_))))))
 . exact .C 5 4 r (.drop .z (.q1 results55 rf [] r ⟨true,r,r,d⟩))
 exact .G 1 r (.O r (.I J6 .z r (.C 3 4 r (.drop .z (.q1 results55 rf [] r ⟨(decide (2147483647<a0.W)),r,r,d⟩)))))
theorem KN {a0 Q} (R3:RepSl CC I p1 c2 a0) (hd:DO a0 Q) :
  Fun prog 89 #[.slice p1 a0.length c2,.func (.func 55) #[] #[]] I [] (λI_ v l=>∃ r,v=vi r∧l=[]∧Q r):=by
 refine Fun.ee func89 ntmps89 r ?_;refine .F (.C 1 3 r (.B (.N 1 r (.ln F8 r (.C 1 387 r (.E (.lp hd vW [] r (λj E l d=>j ((8,vi d) :: E) l) (ji rf [] r) ?_)))))));refine λd o hd=>jq r λp a=>?_;have R3:=a.u1 R3;refine .F (.C 1 899 r (.B (.A r hd (λf hd=>?_) λf hd=>?_)))
 . refine .P 387 r (.B (.E (.N 2 r (.U 419 3 r ?_))));have⟨q,t,g,u,o55,s,b,hd⟩:=R3.ix hd;refine .W F8 E5 s q g r (.ldW OY E5 b r r r r ?_);refine .cS (.c call55 r r) .n r (fL (I:=p) hd:) λw x y i k=>?_;obtain⟨z,rfl,rfl,hd⟩:=k;have⟨e,R3,b⟩:=i.u3 a R3 b;refine .rn 0 r (.M 65955 r (.A r hd (λm hd=>?_) λm hd=>?_))
   . exact .F (.C 2 18 r (.q1 results89 e [] r ⟨d,r,r,hd⟩))
   exact .P 387 r (.D (.G 2 r (.H (je (A4 (d+1)) hd e [] r))))
 exact .en 2 r (.F (.C 1 18 r (.q1 results89 a [] r ⟨(-1),r,r,hd⟩)))
theorem J8 {a0 Q} (R3:RepSl CC I p1 c2 a0) (hd:CJ a0 Q) :
  Fun prog 53 #[.slice p1 a0.length c2,.func (.func 55) #[] #[]] I [] (λI_ v l=>∃ r,v=.bool r∧l=[]∧Q r):=by
 refine Fun.ee func53 ntmps53 r ?_;refine .N 1 r (.U 3 2 r ?_);refine .cS (.f call89 r) .n r (KN R3 hd:) λe g h a c=>?_;obtain⟨d,rfl,rfl,hd⟩:=c;have R3:=a.u1 R3;exact .rn 0 r (.C 2 18 r (.q1 results53 a [] r ⟨(decide (0<=d)),r,r,hd⟩))
theorem QU {a0 Q} (R3:RepSl CC I p1 c2 a0.Edges) (hd:L8 a0 Q) :
  B6 prog 26 [.agg #[vi a0.N,.slice p1 a0.Edges.length c2]] I (λ_=>Z6 Q):=by
 refine Fun.ee func26 ntmps26 r ?_;refine .F (.bx r λw=>?_);refine .G 1 r (.ns 2 r (.mkFn r r r r (.alloc1 zeroValue110 r r r λv=>?_)));refine .s1 sizeOf110 .z r (.M 10 r (.B (.E (.N 1 r (.I AJ .p1 r (.C 2 42 r (.A r hd (λe hd=>?_) λe hd=>?_)))))))
 . exact .F (.C 1 4 r (.drop .z (.drop .z (.r0 results26 r ⟨3,r,hd⟩))))
 refine .B (.jn hd [3,1] gK r (λj E l d=>j ((9,.bool d) :: E) l) (λx hd=>?_) ?_)
 . refine .N 1 r (.I AJ .p1 r (.C 2 522 r (.A r hd (λg hd=>?_) λg hd=>?_)))
   . exact .AB (je (decide (4096<a0.N)) hd rf gK r)
   exact .D (.G 1 r (.I RS .p1 r (.ln F8 r (.G 2 r (.H (je (decide (65536<(a0.Edges.length:Int))) hd rf gK r))))))
 refine λd hd=>jq r λy a=>?_;have R3:=a.u1 R3;refine .A r hd (λh hd=>?_) λh hd=>?_
 . exact .F (.C 1 4 r (.drop .z (.drop .z (.r1 results26 r a ⟨5,r,hd⟩))))
 refine .N 1 r (.I RS .z r (.mkFn r r r r ?_));refine .cS (.f call53 r) (.o gK r) r (J7 (b3:=v) (b4:=w) R3 R3 hd:) λA B C k m=>?_;obtain⟨D,rfl,rfl,hd⟩:=m;have⟨b,R3⟩:=k.u2 a R3;refine .rn 2 r (.C 1 131074 r (.drop .z (.A r hd (λp hd=>?_) λp hd=>?_)))
 . exact .F (.C 1 4 r (.drop .z (.r1 results26 r b ⟨3,r,hd⟩)))
 refine .N 1 r (.I RS .z r ?_);refine .cS (.f call53 r) .n r (J8 R3 hd:) λF G H s t=>?_;obtain⟨J,rfl,rfl,hd⟩:=t;have⟨c,R3⟩:=s.u2 b R3;refine .rn 1 r (.C 1 4194304 r (.drop .z (.A r hd (λu hd=>?_) λu hd=>?_)))
 . exact .F (.C 1 4 r (.r1 results26 r c ⟨7,r,hd⟩))
 exact .P 0 r (.F (.C 1 4 r (.r1 results26 r c ⟨0,r,hd⟩)))
theorem TE {a0 Q} (d:SN a0 Q) :
  B6 prog 100 [vi a0] I (λ_=>eO Q):=by
 refine Fun.ee func100 ntmps100 r (.N 1 r (.U 1 3 r (.T d [4,5] r (λa d=>?_) λa d=>?_)))
 . exact .C 4 4 r (.r0 results100 r ⟨(decide (a0<6)),r,d⟩)
 exact .C 4 4 r (.r0 results100 r ⟨false,r,d⟩)
theorem NZ {a0 Q} (d:OA a0 Q) :
  B6 prog 101 [vi a0] I (λ_=>o5_ Q):=by
 exact Fun.ee func101 ntmps101 r (.F (.al I9 r λ_=>.U 5 1 r (.shr' r r (by decide) r r (.G 1 r (.conv un2 fG r r r (.bd I9 lZ lW r (.R BE .z r (.M 4 r (.K (B7 r (.w CP BE r .z r .n) rf ⟨({ Hi:=shr .i64 a0 63,Lo:=IntKind.wrap .u64 (a0) }:AZ),r,d⟩))))))))))
theorem M7 {a0 Q} (O:RepSl AV I p1 c2 a0) (J:JK a0 Q) :
  B6 prog 136 [.slice p1 a0.length c2] I (λ_=>Z6 Q):=by
 refine Fun.ee func136 ntmps136 r (.N 1 r (.U 1 1 r (.M 9 r (.B (.N 1 r (.ln BD r (.C 1 456 r (.E (.lp J [7,6,3] [] r (λj E l b=>j ((8,vi b) :: E) l) (ji rf [] r) ?_)))))))));refine λb _ J=>jq r λ_ a=>?_;have O:=a.u1 O;refine .F (.C 1 968 r (.B (.A r J (λc J=>?_) λc J=>?_)))
 . refine .P 456 r (.B (.E (.F ?_)));have⟨h,i,d,_,_,k,e,J⟩:=O.ix J;refine .W BD DD k h d r (.x 0 AJ e r (.G 1 r (.U 488 3 r (.M 16872 r (.A r J (λf J=>?_) λf J=>?_)))))
   . exact .F (.C 2 4 r (.r1 results136 r a ⟨i,r,J⟩))
   exact .P 456 r (.D (.G 2 r (.H (je (A4 (b+1)) J a [] r))))
 exact .en 8 r (.F (.C 2 4 r (.r1 results136 r a ⟨0,r,J⟩)))
theorem WD {a0 Q} (d:N6 a0 Q) :
  B6 prog 179 [vi a0] I (λ_=>eO Q):=by
 exact Fun.ee func179 ntmps179 r (.N 1 r (.U 1 4 r (.M 4 r (.r0 results179 r ⟨(a0 != a0),r,d⟩))))
theorem SI {a0 a1 Q} (h:HP a0 a1 Q) :
  B6 prog 138 [vi a0,vi a1] I (λ_=>Z6 Q):=by
 refine Fun.ee func138 ntmps138 r (.N 1 r (.U 3 1 r (.u call179 (WD (I:=I) h:) r λ_ h=>.G 1 r (.U 35 1 r (.u call179 (WD (I:=I) h:) r λ_ h=>.C 1 99 r (.B (.F (.C 1 2115 r (.A r h (λb h=>?_) λb h=>?_)))))))))
 . refine .B (.F (.C 1 4096 r (.A r h (λc h=>?_) λc h=>?_)))
   . exact .F (.C 1 16 r (.r0 results138 r ⟨0,r,h⟩))
   exact .P 0 r (.F (.C 1 16 r (.r0 results138 r ⟨(-1),r,h⟩)))
 refine .P 67 r (.B (.F (.C 1 8195 r (.A r h (λd h=>?_) λd h=>?_))))
 . exact .F (.C 1 16 r (.r0 results138 r ⟨1,r,h⟩))
 refine .P 3 r (.B (.F (.C 3 65539 r (.A r h (λe h=>?_) λe h=>?_))))
 . exact .F (.C 1 16 r (.r0 results138 r ⟨(-1),r,h⟩))
 refine .P 3 r (.B (.F (.C 3 524288 r (.A r h (λf h=>?_) λf h=>?_))))
 . exact .F (.C 1 16 r (.r0 results138 r ⟨1,r,h⟩))
 exact .P 0 r (.F (.C 1 16 r (.r0 results138 r ⟨0,r,h⟩)))
theorem UT {a0 Q} (d:LX a0 Q) :
  B6 prog 262 [.int .u64 a0] I (λ_=>eO Q):=by
 exact Fun.ee func262 ntmps262 r (.N 1 r (.U 1 4 r (.M 4 r (.r0 results262 r ⟨(a0 != a0),r,d⟩))))
theorem cP {a0 a1 Q} (h:JL a0 a1 Q) :
  B6 prog 217 [.int .u64 a0,.int .u64 a1] I (λ_=>Z6 Q):=by
 refine Fun.ee func217 ntmps217 r (.N 1 r (.U 3 1 r (.u call262 (UT (I:=I) h:) r λ_ h=>.G 1 r (.U 35 1 r (.u call262 (UT (I:=I) h:) r λ_ h=>.C 1 99 r (.B (.F (.C 1 2115 r (.A r h (λb h=>?_) λb h=>?_)))))))))
 . refine .B (.F (.C 1 4096 r (.A r h (λc h=>?_) λc h=>?_)))
   . exact .F (.C 1 16 r (.r0 results217 r ⟨0,r,h⟩))
   exact .P 0 r (.F (.C 1 16 r (.r0 results217 r ⟨(-1),r,h⟩)))
 refine .P 67 r (.B (.F (.C 1 8195 r (.A r h (λd h=>?_) λd h=>?_))))
 . exact .F (.C 1 16 r (.r0 results217 r ⟨1,r,h⟩))
 refine .P 3 r (.B (.F (.C 3 65539 r (.A r h (λe h=>?_) λe h=>?_))))
 . exact .F (.C 1 16 r (.r0 results217 r ⟨(-1),r,h⟩))
 refine .P 3 r (.B (.F (.C 3 524288 r (.A r h (λf h=>?_) λf h=>?_))))
 . exact .F (.C 1 16 r (.r0 results217 r ⟨1,r,h⟩))
 exact .P 0 r (.F (.C 1 16 r (.r0 results217 r ⟨0,r,h⟩)))
theorem vY {a0 a1 Q} (D:SO a0 a1 Q) :
  B6 prog 167 [.agg (GO a0).toArray,.agg (GO a1).toArray] I (λ_=>Z6 Q):=by
 refine Fun.ee func167 ntmps167 r (.F (.bx r λ_=>.bx r λ_=>.C 1 12 r (.B (.dr AuA 12 (.J 1 r (.V J6 1 r (.J 1 r (.V J6 0 r (.J 1 r (.V IA 1 r (.J 1 r (.V IA 0 r (.Y r ?_)))))))))))));refine .u call138 (SI (I:=I) D:) r λf D=>.q 2 r (.X r (.I IA .z r .mk) (.Z 1 r r (.X r (.I IA .p1 r .mk) (.Z 1 r r tv)))) (.Y r (.u call217 (cP (I:=I) D:) r λa D=>.q 2 r tv (.Y r (.bs 2 BD DD nT r λ_=>.q 3 r tv (.Y r (.pubB (El:=AV) (ys:=([f,a]:List Int)) (k:=2) .z (RepCs.cons (cs:=[vi f]) r (RepCs.cons (cs:=[vi a]) r .nil)) r λ_ d g=>?_))))));exact .u call136 (M7 g D:) r λh D=>.q 2 r tv (.e2 12 (.C 1 16 r (.drop .z (.drop .z (.r1 results167 r d ⟨h,r,D⟩)))))
theorem gL {a0 a1 Q} (d:RA a0 a1 Q) :
  B6 prog 130 [.agg (GO a0).toArray,.agg (GO a1).toArray] I (λ_=>o5_ Q):=by
 refine Fun.ee func130 ntmps130 r (.F (.bx r λ_=>.bx r λ_=>.al I9 r λ_=>.M 28 r (.B (.F (.S CP BE .p2 r (.S CP BE .p1 r (.u call167 (vY (I:=I) d:) r λ_ d=>.C 1 284 r (.A r d (λb d=>?_) λb d=>?_))))))))
 . exact .F (.S CP BE .p2 r (.R BE .z r (.M 16 r (.drop .p1 (.drop .p1 (.K (B7 r (.w CP BE r .z r .n) rf ⟨a0,r,d⟩)))))))
 exact .P 24 r (.drop .p2 (.F (.S CP BE .p1 r (.R BE .z r (.M 16 r (.drop .p1 (.K (B7 r (.w CP BE r .z r .n) rf ⟨a1,r,d⟩))))))))
theorem SZ {a0 Q} (d:ND a0 Q) :
  B6 prog 131 [.bool a0] I (λ_=>o5_ Q):=by
 refine Fun.ee func131 ntmps131 r (.F (.al I9 r λ_=>.M 5 r (.B (.F (.C 1 12 r (.A r d (λa d=>?_) λa d=>?_))))))
 . exact .F (.u call101 (NZ (I:=I) d:) r λc d=>.R BE .z r (.M 4 r (.K (B7 r (.w CP BE r .z r .n) rf ⟨c,r,d⟩))))
 exact .P 4 r (.F (.bd I9 lZ lW r (.R BE .z r (.M 4 r (.K (B7 r (.w CP BE r .z r .n) rf ⟨PB,r,d⟩))))))
theorem mY {a0 Q} (d:TP a0 Q) :
  B6 prog 168 [.bool a0] I (λ_=>o6_ Q):=by
 refine Fun.ee func168 ntmps168 r (.F (.C 1 1 r (.B (.F (.C 1 8 r (.A r d (λa d=>?_) λa d=>?_))))))
 . exact .F (.C 1 4 r (.r0 results168 r ⟨1,r,d⟩))
 exact .P 0 r (.F (.C 1 4 r (.r0 results168 r ⟨0,r,d⟩)))
theorem vZ {a0 a1 Q} (d:aZ a0 a1 Q) :
  B6 prog 132 [.agg (GO a0).toArray,.agg (GO a1).toArray] I (λ_=>o5_ Q):=by
 refine Fun.ee func132 ntmps132 r (.F (.bx r λ_=>.bx r λ_=>.al I9 r λ_=>.U 28 1 r (.I IA .p2 r (.G 1 r (.I IA .p1 r (.C 2 60 r (.B (.dr [0,1,2,3,4,5,6,7,8,9,10,14,11,12,13,15] 16 (.J 1 r (.V J6 2 r (.h r (.conv un2 fG r r r .mk) ?_)))))))))));refine .J 1 r (.V J6 1 r (.h r (.conv un2 fG r r r .mk) (.J 3 r (.V IA 1 r (.J 2 r (.Y r (.u call168 (mY (I:=I) d:) r λb d=>?_)))))));exact .q 3 r (.Z 2 r r (.X r (.conv un2 fG r r r .mk) (.X r (.I J6 .p1 r .mk) (.Z 1 r r (.X r (.conv un2 fG r r r .mk) (.X r (.I J6 .p2 r .mk) (.Z 1 r r tv))))))) (.J 1 r (.h r (.conv fG un2 r r r .mk) (.h r (.bd I9 lZ lW r .mk) (.e2 16 (.R BE .z r (.M 16 r (.drop .p1 (.drop .p1 (.K (B7 r (.w CP BE r .z r .n) rf ⟨({ Hi:=A4 (IntKind.wrap .u64 ((IntKind.wrap .u64 ((IntKind.wrap .u64 (a0.Hi))+(IntKind.wrap .u64 (a1.Hi))))+b)),Lo:=IntKind.wrap .u64 (a0.Lo+a1.Lo) }:AZ),r,d⟩))))))))))
theorem jA {a0 a1 a2 Q} (J:TQ a0 a1 a2 Q) :
  B6 prog 102 [vi a0,.agg (GO a1).toArray,.agg (GO a2).toArray] I (λ_=>o5_ Q):=by
 refine Fun.ee func102 ntmps102 r (.F (.bx r λ_=>.bx r λ_=>.al I9 r λ_=>.M 113 r (.B (.F (.C 1 240 r (.E (.B (.jn J [7,6,5,4] nl7 r (λj E l c=>j ((8,.bool c) :: E) l) (λ_ J=>?_) ?_))))))))
 . refine .F (.C 2 496 r (.A r J (λd J=>?_) λd J=>?_))
   . exact .AB (je (a0==1) J rf nl7 r)
   refine .F (.C 2 496 r (.A r J (λe J=>?_) λe J=>?_))
   . exact .AB (je (a0==3) J rf nl7 r)
   exact .D (.G 2 r (.H (je (a0==4) J rf nl7 r)))
 refine λc J=>jq r λb a=>.A r J (λf J=>?_) λf J=>?_
 . exact .F (.S CP BE .z r (.S CP BE .p1 r (.u call130 (gL (I:=b) J:) r λq J=>.R BE .p2 r (.M 64 r (.drop .z (.drop .z (.K (B7 r (.w CP BE r .z r .n) a ⟨q,r,J⟩))))))))
 refine .F (.C 2 33008 r (.A r J (λh J=>?_) λh J=>?_))
 . refine .F (.S CP BE .z r (.S CP BE .p1 r (.neV r r (ApT a1 a2) (ApU _ _ _ _ _) r r r (.G 1 r (.T J [19,20] r (λi J=>?_) λi J=>?_)))))
   . exact .G 4 r (.u call131 (SZ (I:=b) J:) r λs J=>.R BE .p2 r (.M 64 r (.drop .z (.drop .z (.K (B7 r (.w CP BE r .z r .n) a ⟨s,r,J⟩))))))
   exact .O r (.S CP BE .z r (.O r (.bd I9 lZ lW r (.O r (.neV r r (ApT a1 PB) (ApU _ _ _ _ _) r r r (.G 1 r (.u call131 (SZ (I:=b) J:) r λt J=>.R BE .p2 r (.M 64 r (.drop .z (.drop .z (.K (B7 r (.w CP BE r .z r .n) a ⟨t,r,J⟩))))))))))))
 refine .F (.C 2 67108976 r (.A r J (λo J=>?_) λo J=>?_))
 . exact .F (.S CP BE .z r (.S CP BE .p1 r (.u call132 (vZ (I:=b) J:) r λu J=>.R BE .p2 r (.M 64 r (.drop .z (.drop .z (.K (B7 r (.w CP BE r .z r .n) a ⟨u,r,J⟩))))))))
 exact .P 64 r (.drop .z (.drop .z (.F (.bd I9 lZ lW r (.R BE .z r (.M 64 r (.K (B7 r (.w CP BE r .z r .n) a ⟨PB,r,J⟩))))))))
theorem xS {a0 Q} (d:bA a0 Q) :
  B6 prog 133 [.agg (GO a0).toArray] I (λ_=>o7_ Q):=by
 refine Fun.ee func133 ntmps133 r (.F (.bx r λ_=>.G 2 r (.U 2 1 r (.I IA .z r (.conv fG un2 r r r (.C 1 18 r (.B (.B (.dr [0,2,1,3] 4 (.J 1 r (.h r (.S CP BE .z r .mk) (.Y r (.u call101 (NZ (I:=I) d:) r λc d=>?_)))))))))))));refine .q 1 r (.X r (.S CP BE .z r .mk) tv) (.h r (.neV r r (ApT c a0) (ApU _ _ _ _ _) r r r .mk) (.e2 4 (.M 2064 r (.drop .z (.A r d (λb d=>?_) λb d=>?_)))))
 . exact .F (.C 2 12 r (.K (B7 r (.t r (.t r .n)) rf ⟨(0,false),r,d⟩)))
 exact .P 16 r (.F (.C 3 12 r (.K (B7 r (.t r (.t r .n)) rf ⟨(A4 (a0.Lo),true),r,d⟩))))
theorem gM {a0 a1 Q} (d:RB a0 a1 Q) :
  B6 prog 103 [vi a0,.agg (GO a1).toArray] I (λ_=>o7_ Q):=by
 exact Fun.ee func103 ntmps103 r (.F (.bx r λ_=>.G 2 r (.ns 8 r (.S CP BE .z r (.u call133 (xS (I:=I) d:) r λb d=>.C 4 48 r (.drop .z (.K (B7 r (.t r (.t r .n)) rf ⟨(b.1,b.2),r,d⟩))))))))
theorem NB {a0 Q} (d:HZ a0 Q) :
  B6 prog 211 [vi a0] I (λ_=>eO Q):=by
 exact Fun.ee func211 ntmps211 r (.N 1 r (.U 1 4 r (.M 4 r (.r0 results211 r ⟨(a0 != a0),r,d⟩))))
theorem DI {a0 a1 Q} (h:CX a0 a1 Q) :
  B6 prog 160 [vi a0,vi a1] I (λ_=>Z6 Q):=by
 refine Fun.ee func160 ntmps160 r (.N 1 r (.U 3 1 r (.u call211 (NB (I:=I) h:) r λ_ h=>.G 1 r (.U 35 1 r (.u call211 (NB (I:=I) h:) r λ_ h=>.C 1 99 r (.B (.F (.C 1 2115 r (.A r h (λb h=>?_) λb h=>?_)))))))))
 . refine .B (.F (.C 1 4096 r (.A r h (λc h=>?_) λc h=>?_)))
   . exact .F (.C 1 16 r (.r0 results160 r ⟨0,r,h⟩))
   exact .P 0 r (.F (.C 1 16 r (.r0 results160 r ⟨(-1),r,h⟩)))
 refine .P 67 r (.B (.F (.C 1 8195 r (.A r h (λd h=>?_) λd h=>?_))))
 . exact .F (.C 1 16 r (.r0 results160 r ⟨1,r,h⟩))
 refine .P 3 r (.B (.F (.C 3 65539 r (.A r h (λe h=>?_) λe h=>?_))))
 . exact .F (.C 1 16 r (.r0 results160 r ⟨(-1),r,h⟩))
 refine .P 3 r (.B (.F (.C 3 524288 r (.A r h (λf h=>?_) λf h=>?_))))
 . exact .F (.C 1 16 r (.r0 results160 r ⟨1,r,h⟩))
 exact .P 0 r (.F (.C 1 16 r (.r0 results160 r ⟨0,r,h⟩)))
theorem AcH {a0 a1 Q} (D:iG a0 a1 Q) :
  B6 prog 137 [.agg (LW a0).toArray,.agg (LW a1).toArray] I (λ_=>Z6 Q):=by
 refine Fun.ee func137 ntmps137 r (.F (.bx r λ_=>.bx r λ_=>.C 1 12 r (.B (.dr AuA 12 (.J 1 r (.V AJ 1 r (.J 1 r (.V AJ 0 r (.J 1 r (.V AJ 1 r (.J 1 r (.V AJ 0 r (.Y r ?_)))))))))))));refine .u call160 (DI (I:=I) D:) r λf D=>.q 2 r (.X r (.I AJ .z r .mk) (.Z 1 r r (.X r (.I AJ .p1 r .mk) (.Z 1 r r tv)))) (.Y r (.u call160 (DI (I:=I) D:) r λa D=>.q 2 r tv (.Y r (.bs 2 BD DD nT r λ_=>.q 3 r tv (.Y r (.pubB (El:=AV) (ys:=([f,a]:List Int)) (k:=2) .z (RepCs.cons (cs:=[vi f]) r (RepCs.cons (cs:=[vi a]) r .nil)) r λ_ d g=>?_))))));exact .u call136 (M7 g D:) r λh D=>.q 2 r tv (.e2 12 (.C 1 16 r (.drop .z (.drop .z (.r1 results137 r d ⟨h,r,D⟩)))))
theorem xT {a0 a1 Q} (D:VP a0 a1 Q) :
  B6 prog 105 [.agg (LW a0).toArray,.agg (LW a1).toArray] I (λ_=>Z6 Q):=by
 refine Fun.ee func105 ntmps105 r (.F (.bx r λ_=>.bx r λ_=>.C 1 12 r (.B (.dr [0,1,3,4,5,6,2,7,8,9] 10 (.h r (.S OY E5 .p1 r .mk) (.h r (.S OY E5 .z r .mk) (.J 1 r (.V J6 1 r (.J 1 r (.V J6 0 r (.Y r ?_)))))))))));refine .u call137 (AcH (I:=I) D:) r λf D=>.q 2 r (.X r (.I J6 .z r .mk) (.Z 1 r r (.X r (.I J6 .p1 r .mk) (.Z 1 r r tv)))) (.Y r (.u call138 (SI (I:=I) D:) r λa D=>.q 2 r tv (.Y r (.bs 2 BD DD nT r λ_=>.q 3 r tv (.Y r (.pubB (El:=AV) (ys:=([f,a]:List Int)) (k:=2) .z (RepCs.cons (cs:=[vi f]) r (RepCs.cons (cs:=[vi a]) r .nil)) r λ_ d g=>?_))))));exact .u call136 (M7 g D:) r λi D=>.q 2 r tv (.e2 10 (.C 1 16 r (.drop .z (.drop .z (.r1 results105 r d ⟨i,r,D⟩)))))
theorem rM {a0 a1 Q} (R3:RepSl CC I p1 c2 a1) (hd:QP a0 a1 Q) :
  B6 prog 71 [vi a0,.slice p1 a1.length c2] I (o8_ Q):=by
 refine Fun.ee func71 ntmps71 r ?_;refine .F (.C 2 3 r (.B (.N 1 r ?_)));refine .u call100 (TE (I:=I) hd:) r λe4 hd=>?_;refine .C 1 1048579 r (.A r hd (λb3 hd=>?_) λb3 hd=>?_)
 . exact .F (.C 2 48 r (.K (B7 r (.t r (.t r .n)) rf ⟨(([]:List B0),8),_,_,r,(.nil _ _ _),hd⟩)))
 refine .P 3 r (.F (.mkMap K2 yT true r r λO=>?_));refine .C 1 67 r (.B (.N 1 r (.ln F8 r (.C 1 29360193 r (.E (.lp hd [23,22,6,0] [] r (λj E l (e,g)=>j ((24,vi g) :: E) (OwnMap K2 yT true O e :: l)) (ji rf [0] r) ?_))))));rintro⟨e,g⟩ c0 hd;refine jq r λD d=>?_;have R3:=d.u1 R3;refine .F (.C 1 62914625 r (.B (.A r hd (λK hd=>?_) λK hd=>?_)))
 . refine .P 29360193 r (.B (.E (.F ?_)));have⟨b4,b,L,c6,o325,b5,N,hd⟩:=R3.ix hd;refine .W F8 E5 b5 b4 L r (.ldW OY E5 N r r r r (.al QG r λc7=>?_));refine .R E5 .z r (.U 29360449 1 r (.I AJ .z r (.G 1 r (.I AJ .z r (.ba aI S7 DD r (.al aI r λc8=>?_))))));refine .R fH .z r (.U 29360961 1 r (.I J6 .p1 r ?_));refine .u call101 (NZ (I:=D) hd:) r λh hd=>?_;refine .al I9 r λc9=>?_;refine .R BE .z r (.M 29361729 r (.drop .p2 (.B (.N 1 r (.S isAgg97 fH .p1 r (.lookM2 (k:=(b.From,b.To)) (El:=yT) (ag:=true) (zv:=.agg #[vi 0,.int .u64 0]) (z:=PB) ApV underlying171 I9 ⟨[vi 0,.int .u64 0],r,.a⟩ .p2 r r hd r r λd0 d1 d2 c3 hd P R=>?_))))));cases P;cases R;refine .G 3 r (.al I9 r λd3=>?_);refine .R BE .z r (.G 1 r (.U 29367873 1 r (.M 4398075874881 r (.A r hd (λS hd=>?_) λS hd=>?_))))
   . refine .D (.G 1 r (.S CP BE .z r (.S CP BE .p1 r ?_)));refine .u call102 (jA (I:=D) hd:) r λm hd=>?_;refine .R BE .p1 r (.M 29361729 r (.drop .z (.D (.G 1 r (.S isAgg97 fH .p1 r (.S CP BE .z r (.updM (k:=(b.From,b.To)) (El:=yT) (ag:=true) (v:=m) ApV underlying171 .p2 r r r ⟨[vi m.Hi,.int .u64 m.Lo],r,.a⟩ (.M 29360193 r (.drop .z ?_)))))))));exact .drop .z (.D (.G 2 r (.H (je ((DV (b.From,b.To) m e),A4 (g+1)) hd d [0] r))))
   refine .P 29361729 r (.drop .z (.D (.G 1 r (.S isAgg97 fH .p1 r (.S CP BE .z r (.updM (k:=(b.From,b.To)) (El:=yT) (ag:=true) (v:=h) ApV underlying171 .p2 r r r ⟨[vi h.Hi,.int .u64 h.Lo],r,.a⟩ (.M 29360193 r (.drop .z (.drop .z ?_)))))))));exact .D (.G 2 r (.H (je ((DV (b.From,b.To) h e),A4 (g+1)) hd d [0] r)))
 refine .en 65 r (.F (.C 1 8257 r (.B (.N 1 r (.rangeM underlying171 .z r r r λb6=>?_)))));refine .M 4503599627378689 r (.E (.own0 CC 73 (.lx hd [52,0] [] r (λj E l (p,F)=>λc w=>∃ q s,j ⟨78,[],none⟩ (λI_=>True) ((13,.slice q p.length s) :: E) (OwnSl CC 73 q s p :: OwnIt K2 yT true O b6 e F none :: l) c w) (λc w ho hs=>⟨_,_,jf rf tv MF r ho hs⟩) ?_)));rintro⟨p,F⟩ c1 hd c w ⟨q,s,G,u,_,hok,hsym⟩;have B:=u.u1 d;refine Cod.at hok hsym (.F (.nextM .p1 r hd r r (λhd V=>?_) (λA b7 d4 c4 hd X Y V=>?_)))
 . refine .C 1 22517998136860673 r (.B (.j r r (.en 8192 r (.drop .p1 (.N 1 r ?_)))));have Z:=Fun.sort (hk:=λ_=>⟨r,r⟩) Ay7 OY E5 (λx y J Q hq=>xT (I:=J) (a0:=x) (a1:=y) (Q:=Q) hq) call105 (I:=G) (T:=73) (a:=q) (cap:=s) hd;refine .cS (.f call104 r) (.o [0] r) r Z λd5 d6 d7 a2 a3=>?_;obtain⟨b8,rfl,C,rfl,hd⟩:=a3;have⟨a4,a5⟩:=a2.u2 B u;refine .rl .z [13,75] r (by rw[C]) (.U 8192 3 r (.M 48 r (.pub .z λd8 a6 b9=>?_)));have⟨a7,c5⟩:=a6.u2 a4 a5;exact .K (B7 r (.t r (.t r .n)) a7 ⟨(b8,0),_,_,r,b9,hd⟩)
 cases X;cases Y;refine .C 1 22517998136860673 r (.B (.L r r (.P 4503599627378689 r (.E (.F (.entryM .z r r r (.G 2 r (.al aI r λd9=>?_))))))));refine .al I9 r λe0=>?_;refine .R fH .p1 r (.R BE .z r (.U 4503599627427841 1 r (.S CP BE .z r ?_)));refine .u call103 (gM (I:=G) hd:) r λH hd=>?_;refine .C 5 4503599627591681 r (.drop .z (.B (.F (.C 2 36897991747046563841 r (.A r hd (λa9 hd=>?_) λa9 hd=>?_)))))
 . exact .F (.C 2 48 r (.drop .z (.drop .z (.drop .z (.K (B7 r (.t r (.t r .n)) B ⟨(([]:List B0),12),_,_,r,(.nil _ _ _),hd⟩))))))
 refine .P 4503599627460609 r (.D (.G 1 r (.AA (i:=0) S7 DD r r (by decide) (o:=0) r r r (.I AJ .z r (.AA (i:=1) S7 DD r r (by decide) (o:=1) r r r (.I AJ .z r (.G 1 r (.bd QG AvS AvP r (.bs 1 F8 E5 QG r λe1=>?_)))))))));have⟨b0,hd⟩:=hd;refine .ap (ys:=[({ From:=A.1.1,To:=A.1.2,W:=H.1 }:B0)]) .p3 F8 F8 AbQ r (.box .z (.one r) r) b0 λe2 e3=>?_;exact .G 1 r (.H λc w ho hs=>⟨_,hd,_,_,jf u tv [0,2] r ho hs⟩)
theorem I6 {a0 Q} (R3:RepSl CC I p1 c2 a0.Edges) (hd:FT a0 Q) :
  B6 prog 44 [.agg #[vi a0.N,.slice p1 a0.Edges.length c2]] I (o1_ Q):=by
 refine Fun.ee func44 ntmps44 r ?_;refine .F (.bx r λf=>?_);refine .al V7 r λg=>?_;refine .U 6 1 r (.I RS .p1 r ?_);refine .ca call71 r (rM R3 hd:) λh i a c=>?_;obtain⟨d,j,k,rfl,e,hd⟩:=c;have R3:=a.u1 R3;exact .G 5 r (.U 14 1 r (.I AJ .p1 r (.G 1 r (.bd V7 oU AeE r (.R D4 .z r (.M 4 r (.drop .p1 (.K (B7 r (.w FC D4 r .z r .n) a ⟨({ N:=a0.N,Edges:=d.1 }:Graph),_,_,r,e,hd⟩)))))))))
theorem P6 {a1 Q} (h:FU a1 Q) :
  wV prog 126 [.slice none 0 0,vi a1] I (λ_ v l=>∃ r p1 c2,v=.slice p1 r.length c2∧l=[OwnSl CC 73 p1 c2 r]∧Q r):=by
 refine Fun.ee func126 ntmps126 r (.F (.C 1 3 r (.B (.F (.C 2 67 r (.A r h (λa h=>?_) λa h=>?_))))))
 . exact h.elim
 refine .P 3 r (.B (.N 2 r (.capOf F8 r r r r (.G 1 r (.ln F8 r (.G 3 r (.U 3 2 r (.M 65539 r (.A r h (λb h=>?_) λb h=>?_)))))))))
 . refine .D (.G 2 r (.capOf F8 r r r r (.slZ F8 E5 r r (YG _) r r r (.G 1 r ?_))));have⟨d,e,h⟩:=h;exact .growN CC 24 F8 lY AbQ r r r r r r r r d e r r λ_ _ c=>.G 1 r (.ln F8 r (.slZ F8 E5 r r c AoP r r (.G 1 r (.U 1 2 r (.M 16 r (.q1 results126 rf [0] r ⟨([]:List B0),_,_,r,r,h⟩))))))
 exact .P 1 r (.F (.C 2 16 r (.own0 CC 73 (.q1 results126 rf [0] r ⟨([]:List B0),_,_,r,r,h⟩))))
theorem O5 {a0 Q} (R3:RepSl (nZ CC) I p1 c2 a0) (hd:DM a0 Q) :
  B6 prog 91 [.slice p1 a0.length c2] I (λI_ v=>∃ r p4 c5,v=.slice p4 r.length c5∧RepSl CC I_ p4 c5 r∧Q r):=by
 refine Fun.ee func91 ntmps91 r ?_;refine .N 1 r (.U 1 1 r (.M 9 r (.B (.N 1 r (.ln gF r (.C 1 3593 r (.E (.lp hd [10,9,0] [] r (λj E l (e,f)=>j ((3,vi e) :: (11,vi f) :: E) l) (ji rf [] r) ?_))))))));rintro⟨e,f⟩ R hd;refine jq r λG b=>?_;have R3:=b.u1 R3;refine .F (.C 1 7689 r (.B (.A r hd (λo hd=>?_) λo hd=>?_)))
 . refine .P 3593 r (.B (.E (.F ?_)));have⟨H,J,k,hd⟩:=hd;obtain⟨W,o182,T,K,p,X,Y,rfl,Z⟩:=R3.2 _ _ k;refine .W gF sizeOf22 K H k r (.x 0 RS p r (.G 1 r (.U 3625 2 r (.ln F8 r (.G 2 r (.U 3593 2 r (.M 1052169 r (.A r hd (λq hd=>?_) λq hd=>?_))))))))
   . exact hd.elim
   exact .P 3593 r (.D (.G 2 r (.H (je (A4 (e+(J.length:Int)),A4 (f+1)) hd b [] r))))
 refine .en 9 r (.N 1 r ?_);refine .AD call126 r (P6 (I:=G) hd:) r r λa1 a2 a3 t u=>?_;obtain⟨a4,a5,a6,rfl,rfl,hd⟩:=u;have⟨x,R3⟩:=t.u2 b R3;refine .C 1 65 r (.B (.N 1 r (.ln gF r (.C 1 234881088 r (.E (.lx hd [26,25] [] r (λj E l (a,g)=>λc w=>∃ h i,j ⟨36,[],none⟩ (λI_=>True) ((6,.slice h a.length i) :: (27,vi g) :: E) (OwnSl CC 73 h i a :: l) c w) (λc w ho hs=>⟨_,_,jf rf tv [0] r ho hs⟩) ?_))))));rintro⟨a,g⟩ S hd c w ⟨h,i,a7,d,_,hok,hsym⟩;have⟨y,R3⟩:=d.u2 x R3;refine Cod.at hok hsym (.F (.C 1 503316544 r (.B (.A r hd (λA hd=>?_) λA hd=>?_))))
 . refine .P 234881088 r (.B (.E (.F ?_)));have⟨L,n,m,hd⟩:=hd;obtain⟨a8,o281,U,N,B,a9,s,rfl,O⟩:=R3.2 _ _ m;refine .W gF sizeOf22 N L m r (.x 0 RS B r (.C 1 234881344 r (.D (.G 2 r ?_))));have⟨C,hd⟩:=hd;refine .ap (ys:=n) .z F8 F8 AbQ r (.imm O r) C λb1 b2=>?_;exact .C 1 234881088 r (.D (.G 2 r (.H λc w ho hs=>⟨_,hd,_,_,jf d tv [0] r ho hs⟩)))
 refine .en 64 r (.F (.C 2 4 r (.pub .z λb3 D P=>?_)));have⟨F,V⟩:=D.u2 y d;exact .r1 results91 r F ⟨a,_,_,r,P,hd⟩
theorem jB {a0 Q} (d:LY a0 Q) :
  Fun prog 127 #[.agg (LW a0).toArray] I [] (λ_ v l=>∃ r,v=.tuple #[.agg (LW r.1).toArray,.bool r.2]∧l=[]∧Q r):=by
 refine Fun.ee func127 ntmps127 r (.F (.bx r λ_=>.al QG r λ_=>.G 1 r (.U 6 1 r (.I AJ .p1 r (.G 1 r (.I AJ .p1 r (.G 1 r (.I J6 .p1 r (.bd QG AvS AvP r (.R E5 .z r (.C 1 12 r ?_)))))))))));exact .drop .p1 (.K (DX r (.w OY E5 r .z r (.t r .n)) rf .n ⟨(({ From:=a0.To,To:=a0.From,W:=a0.W }:B0),true),r,r,d⟩))
theorem pG {a0 Q} (R3:RepSl CC I p1 c2 a0.Edges) (hd:OB a0 Q) :
  Fun prog 93 #[.agg #[vi a0.N,.slice p1 a0.Edges.length c2],.func (.func 127) #[] #[]] I [] (λI_ v l=>∃ r p4 c5,v=.agg #[vi r.N,.slice p4 r.Edges.length c5]∧RepSl CC I_ p4 c5 r.Edges∧l=[]∧Q r):=by
 refine Fun.ee func93 ntmps93 r ?_;refine .F (.bx r λp=>?_);refine .al V7 r λa5=>?_;refine .U 22 1 r (.M 54 r (.B (.N 1 r (.I RS .p1 r (.ln F8 r (.C 1 14390 r (.E (.own0 CC 73 (.lx hd [12,11,4,2,1] [2,1] r (λj E l (a,b)=>λc w=>∃ e f,j ⟨34,[],none⟩ (λI_=>True) ((5,.slice e a.length f) :: (13,vi b) :: E) (OwnSl CC 73 e f a :: l) c w) (λc w ho hs=>⟨_,_,jf rf tv [0,1,0] r ho hs⟩) ?_)))))))));rintro⟨a,b⟩ O hd c w ⟨e,f,F,d,_,hok,hsym⟩;have R3:=d.u1 R3;refine Cod.at hok hsym (.F (.C 1 30774 r (.B (.A r hd (λk hd=>?_) λk hd=>?_))))
 . refine .P 14390 r (.B (.E (.F ?_)));have⟨G,P,m,R,o134,H,o,hd⟩:=R3.ix hd;refine .W F8 E5 H G m r (.ldW OY E5 o r r r r (.al QG r λS=>?_));refine .R E5 .z r (.U 14518 1 r (.S OY E5 .z r ?_));refine .cS (.c call127 r r) .n r (jB (I:=F) hd:) λT U V q s=>?_;obtain⟨i,rfl,rfl,hd⟩:=s;have⟨h,R3⟩:=q.u2 d R3;refine .rn 4 r (.G 3 r (.al QG r λW=>?_));refine .R E5 .z r (.C 1 15158 r (.drop .p1 (.F (.C 1 8403254 r (.A r hd (λt hd=>?_) λt hd=>?_)))))
   . refine .D (.G 1 r (.S OY E5 .z r (.bs 1 F8 E5 QG r λX=>?_)));have⟨u,hd⟩:=hd;refine .ap (ys:=[i.1]) .p2 F8 F8 AbQ r (.box .z (.one r) r) u λY Z=>?_;exact .C 1 14390 r (.drop .p1 (.drop .p1 (.D (.G 2 r (.H λc w ho hs=>⟨_,hd,_,_,jf h tv V9 r ho hs⟩)))))
   exact .P 14390 r (.drop .z (.D (.G 2 r (.H λc w ho hs=>⟨_,hd,_,_,jf h tv V9 r ho hs⟩))))
 refine .en 54 r (.N 1 r (.I AJ .p1 r (.G 1 r (.bd V7 oU AeE r (.pub .z λJ x g=>?_)))));have⟨y,R3⟩:=x.u2 d R3;refine .ca call44 r (I6 (I:=J) (a0:=({ N:=a0.N,Edges:=a }:Graph)) g hd:) λa1 a2 B C=>?_;obtain⟨K,a3,a4,rfl,L,hd⟩:=C;have⟨D,R3,g⟩:=B.u3 y R3 g;exact .R D4 .p1 r (.M 18 r (.drop .z (.K (DX r (.w FC D4 r .z r .n) D .n ⟨K,_,_,r,L,r,hd⟩))))
theorem mZ {a0 Q} (R3:RepSl CC I p1 c2 a0.Edges) (hd:PC a0 Q) :
  B6 prog 92 [.agg #[vi a0.N,.slice p1 a0.Edges.length c2]] I (o1_ Q):=by
 refine Fun.ee func92 ntmps92 r ?_;refine .F (.bx r λl=>?_);refine .al V7 r λm=>?_;refine .ns 6 r (.S FC D4 .p1 r ?_);refine .cS (.f call93 r) .n r (pG R3 hd:) λg h i a c=>?_;obtain⟨d,j,k,rfl,e,rfl,hd⟩:=c;have R3:=a.u1 R3;exact .rn 2 r (.R D4 .z r (.M 4 r (.drop .p1 (.K (B7 r (.w FC D4 r .z r .n) a ⟨d,_,_,r,e,hd⟩)))))
theorem nA {a0 Q} (R3:RepSl CC I p1 c2 a0.Edges) (hd:TR a0 Q) :
  B6 prog 59 [.agg #[vi a0.N,.slice p1 a0.Edges.length c2]] I (o1_ Q):=by
 refine Fun.ee func59 ntmps59 r ?_;refine .F (.bx r λD=>?_);refine .al V7 r λE=>?_;refine .M 6 r (.B (.dr nl5 11 (.J 1 r (.V AJ 1 r (.J 1 r (.V RS 1 r (.h r (.S FC D4 .p1 r .mk) (.Y r ?_))))))));refine .ca call92 r (mZ R3 hd:) λF G c g=>?_;obtain⟨e,v,x,rfl,a,hd⟩:=g;have R3:=c.u1 R3;refine .q 2 r (.X r (.I RS .p1 r .mk) (.Z 1 r r (.X r (.I AJ .p1 r .mk) (.Z 1 r r tv)))) (.h r (.field1 oU r RS r r r r .mk) (.Y r ?_));refine .bs 2 gF sizeOf22 zeroValue22 r λH=>?_;refine .q 3 r (.X r (.I AJ .p2 r .mk) (.Z 1 r r tv)) (.Y r ?_);refine .pubB (El:=(nZ CC)) (ys:=([a0.Edges,e.Edges]:List (List B0))) (k:=2) .z (RepCs.cons (cs:=[.slice p1 a0.Edges.length c2]) ⟨_,_,r,R3⟩ (RepCs.cons (cs:=[.slice v e.Edges.length x]) ⟨_,_,r,a⟩ .nil)) r λJ i b=>?_;have⟨j,R3,a⟩:=i.u3 c R3 a;refine .ca call91 r (O5 b hd:) λK y m o=>?_;obtain⟨A,L,O,rfl,d,hd⟩:=o;have⟨p,R3,a,b⟩:=m.u4 j R3 a b;refine .q 2 r (.X r (.I AJ .p1 r .mk) (.Z 1 r r tv)) (.h r (.bd V7 oU AeE r .mk) (.Y r ?_));refine .ca call44 r (I6 (I:=y) (a0:=({ N:=a0.N,Edges:=A }:Graph)) d hd:) λP R s t=>?_;obtain⟨B,S,T,rfl,C,hd⟩:=t;have⟨u,R3,a,b,d⟩:=s.u5 p R3 a b d;exact .q 2 r tv (.e2 11 (.R D4 .z r (.M 4 r (.drop .p1 (.K (B7 r (.w FC D4 r .z r .n) u ⟨B,_,_,r,C,hd⟩))))))
theorem cQ {a0 Q} (d:NF a0 Q) :
  Fun prog 94 #[.agg (LW a0).toArray] I [] (λ_ v l=>∃ r,v=.tuple #[.agg (LW r.1).toArray,.bool r.2]∧l=[]∧Q r):=by
 refine Fun.ee func94 ntmps94 r (.F (.bx r λ_=>.al QG r λ_=>.C 1 6 r (.B (.dr nl8 7 (.h r (.S OY E5 .p1 r .mk) (.J 1 r (.V AJ 1 r (.J 1 r (.V AJ 1 r (.J 1 r (.Y r ?_)))))))))));exact .R E5 .z r (.P 2 r r r (.Z 1 r r (.X r (.I AJ .p1 r .mk) (.Z 1 r r (.X r (.I AJ .p1 r .mk) (.Z 1 r r tv))))) (.e2 7 (.C 1 12 r (.drop .p1 (.K (DX r (.w OY E5 r .z r (.t r .n)) rf .n ⟨(a0,a0.From != a0.To),r,r,d⟩))))))
theorem pH {a0 Q} (R3:RepSl CC I p1 c2 a0.Edges) (hd:TS a0 Q) :
  Fun prog 93 #[.agg #[vi a0.N,.slice p1 a0.Edges.length c2],.func (.func 94) #[] #[]] I [] (λI_ v l=>∃ r p4 c5,v=.agg #[vi r.N,.slice p4 r.Edges.length c5]∧RepSl CC I_ p4 c5 r.Edges∧l=[]∧Q r):=by
 refine Fun.ee func93 ntmps93 r ?_;refine .F (.bx r λp=>?_);refine .al V7 r λa5=>?_;refine .U 22 1 r (.M 54 r (.B (.N 1 r (.I RS .p1 r (.ln F8 r (.C 1 14390 r (.E (.own0 CC 73 (.lx hd [12,11,4,2,1] [2,1] r (λj E l (a,b)=>λc w=>∃ e f,j ⟨34,[],none⟩ (λI_=>True) ((5,.slice e a.length f) :: (13,vi b) :: E) (OwnSl CC 73 e f a :: l) c w) (λc w ho hs=>⟨_,_,jf rf tv [0,1,0] r ho hs⟩) ?_)))))))));rintro⟨a,b⟩ O hd c w ⟨e,f,F,d,_,hok,hsym⟩;have R3:=d.u1 R3;refine Cod.at hok hsym (.F (.C 1 30774 r (.B (.A r hd (λk hd=>?_) λk hd=>?_))))
 . refine .P 14390 r (.B (.E (.F ?_)));have⟨G,P,m,R,o134,H,o,hd⟩:=R3.ix hd;refine .W F8 E5 H G m r (.ldW OY E5 o r r r r (.al QG r λS=>?_));refine .R E5 .z r (.U 14518 1 r (.S OY E5 .z r ?_));refine .cS (.c call94 r r) .n r (cQ (I:=F) hd:) λT U V q s=>?_;obtain⟨i,rfl,rfl,hd⟩:=s;have⟨h,R3⟩:=q.u2 d R3;refine .rn 4 r (.G 3 r (.al QG r λW=>?_));refine .R E5 .z r (.C 1 15158 r (.drop .p1 (.F (.C 1 8403254 r (.A r hd (λt hd=>?_) λt hd=>?_)))))
   . refine .D (.G 1 r (.S OY E5 .z r (.bs 1 F8 E5 QG r λX=>?_)));have⟨u,hd⟩:=hd;refine .ap (ys:=[i.1]) .p2 F8 F8 AbQ r (.box .z (.one r) r) u λY Z=>?_;exact .C 1 14390 r (.drop .p1 (.drop .p1 (.D (.G 2 r (.H λc w ho hs=>⟨_,hd,_,_,jf h tv V9 r ho hs⟩)))))
   exact .P 14390 r (.drop .z (.D (.G 2 r (.H λc w ho hs=>⟨_,hd,_,_,jf h tv V9 r ho hs⟩))))
 refine .en 54 r (.N 1 r (.I AJ .p1 r (.G 1 r (.bd V7 oU AeE r (.pub .z λJ x g=>?_)))));have⟨y,R3⟩:=x.u2 d R3;refine .ca call44 r (I6 (I:=J) (a0:=({ N:=a0.N,Edges:=a }:Graph)) g hd:) λa1 a2 B C=>?_;obtain⟨K,a3,a4,rfl,L,hd⟩:=C;have⟨D,R3,g⟩:=B.u3 y R3 g;exact .R D4 .p1 r (.M 18 r (.drop .z (.K (DX r (.w FC D4 r .z r .n) D .n ⟨K,_,_,r,L,r,hd⟩))))
theorem wA {a0 Q} (R3:RepSl CC I p1 c2 a0.Edges) (hd:SP a0 Q) :
  B6 prog 60 [.agg #[vi a0.N,.slice p1 a0.Edges.length c2]] I (o1_ Q):=by
 refine Fun.ee func60 ntmps60 r ?_;refine .F (.bx r λl=>?_);refine .al V7 r λm=>?_;refine .ns 6 r (.S FC D4 .p1 r ?_);refine .cS (.f call93 r) .n r (pH R3 hd:) λg h i a c=>?_;obtain⟨d,j,k,rfl,e,rfl,hd⟩:=c;have R3:=a.u1 R3;exact .rn 2 r (.R D4 .z r (.M 4 r (.drop .p1 (.K (B7 r (.w FC D4 r .z r .n) a ⟨d,_,_,r,e,hd⟩)))))
theorem N0 {a0 a1 Q} (d:JD a0 a1 Q) :
  B6 prog 212 [vi a0,vi a1] I (λ_=>eO Q):=by
 refine Fun.ee func212 ntmps212 r (.N 1 r (.U 3 3 r (.T d [6,7] r (λa d=>?_) λa d=>?_)))
 . exact .C 5 16 r (.r0 results212 r ⟨(decide (a0<=a1)),r,d⟩)
 exact .C 5 16 r (.r0 results212 r ⟨false,r,d⟩)
theorem jC {a0 Q} (d:PD a0 Q) :
  Fun prog 214 #[vi a0] I [] (λ_ v l=>∃ r,v=.bool r∧l=[]∧Q r):=by
 refine Fun.ee func214 ntmps214 r (.N 1 r (.U 1 3 r (.T d [4,5] r (λa d=>?_) λa d=>?_)))
 . exact .C 4 4 r (.q1 results214 rf [] r ⟨true,r,r,d⟩)
 exact .C 4 4 r (.q1 results214 rf [] r ⟨(decide (2147483647<a0)),r,r,d⟩)
theorem NM {a0 Q} (R3:RepSl AV I p1 c2 a0) (hd:EY a0 Q) :
  Fun prog 260 #[.slice p1 a0.length c2,.func (.func 214) #[] #[]] I [] (λI_ v l=>∃ r,v=vi r∧l=[]∧Q r):=by
 refine Fun.ee func260 ntmps260 r ?_;refine .F (.C 1 3 r (.B (.N 1 r (.ln CA r (.C 1 387 r (.E (.lp hd vW [] r (λj E l d=>j ((8,vi d) :: E) l) (ji rf [] r) ?_)))))));refine λd o hd=>jq r λp a=>?_;have R3:=a.u1 R3;refine .F (.C 1 899 r (.B (.A r hd (λf hd=>?_) λf hd=>?_)))
 . refine .P 387 r (.B (.E (.N 2 r (.U 419 3 r ?_))));have⟨q,t,g,u,o55,s,b,hd⟩:=R3.ix hd;refine .W CA MO s q g r (.x 0 J6 b r ?_);refine .cS (.c call214 r r) .n r (jC (I:=p) hd:) λw x y i k=>?_;obtain⟨z,rfl,rfl,hd⟩:=k;have⟨e,R3,b⟩:=i.u3 a R3 b;refine .rn 0 r (.M 65955 r (.A r hd (λm hd=>?_) λm hd=>?_))
   . exact .F (.C 2 18 r (.q1 results260 e [] r ⟨d,r,r,hd⟩))
   exact .P 387 r (.D (.G 2 r (.H (je (A4 (d+1)) hd e [] r))))
 exact .en 2 r (.F (.C 1 18 r (.q1 results260 a [] r ⟨(-1),r,r,hd⟩)))
theorem M8 {a0 Q} (R3:RepSl AV I p1 c2 a0) (hd:BG a0 Q) :
  Fun prog 213 #[.slice p1 a0.length c2,.func (.func 214) #[] #[]] I [] (λI_ v l=>∃ r,v=.bool r∧l=[]∧Q r):=by
 refine Fun.ee func213 ntmps213 r ?_;refine .N 1 r (.U 3 2 r ?_);refine .cS (.f call260 r) .n r (NM R3 hd:) λe g h a c=>?_;obtain⟨d,rfl,rfl,hd⟩:=c;have R3:=a.u1 R3;exact .rn 0 r (.C 2 18 r (.q1 results213 a [] r ⟨(decide (0<=d)),r,r,hd⟩))
theorem ZC {a0 Q} (R3:RepSl AV I p1 c2 a0.Draws) (hd:PE a0 Q) :
  B6 prog 164 [.agg (M9 a0 p1 c2)] I (λ_=>Z6 Q):=by
 refine Fun.ee func164 ntmps164 r ?_;refine .F (.bx r λN=>?_);refine .C 1 2 r (.B (.N 1 r (.I fI .z r (.G 2 r (.T hd [5,6] r (λu hd=>?_) λu hd=>?_)))))
 . exact .C 4 1026 r (.L r r (.F (.C 1 4 r (.drop .z (.r0 results164 r ⟨8,r,hd⟩)))))
 refine .G 1 r (.O r (.I fI .z r (.C 2 1026 r (.A r hd (λv hd=>?_) λv hd=>?_))))
 . exact .F (.C 1 4 r (.drop .z (.r0 results164 r ⟨8,r,hd⟩)))
 refine .P 2 r (.B (.N 1 r (.I AJ .z r ?_)));refine .u call212 (N0 (I:=I) hd:) r λK hd=>?_;refine .C 1 16386 r (.A r hd (λx hd=>?_) λx hd=>?_)
 . exact .F (.C 1 4 r (.drop .z (.r0 results164 r ⟨3,r,hd⟩)))
 refine .P 2 r (.B (.jn hd [1] [0] r (λj E l _=>j E l) (λL hd=>?_) ?_))
 . refine .N 1 r (.I fI .z r (.M 65538 r (.E (.B (.jn hd [1] [0] r (λj E l _=>j E l) (λA hd=>?_) ?_)))))
   . refine .E (.B (.E (.B (.B (.F (.C 2 196610 r (.A r hd (λe hd=>?_) λe hd=>?_)))))))
     . refine .en 2 r (.N 1 r (.I AJ .z r ?_));refine .u call212 (N0 (I:=I) hd:) r λB hd=>?_;refine .C 1 33554434 r (.A r hd (λh hd=>?_) λh hd=>?_)
       . exact .F (.C 1 4 r (.drop .z (.r0 results164 r ⟨3,r,hd⟩)))
       exact .AB (je () hd rf [0] r)
     refine .P 65538 r (.B (.F (.C 2 589826 r (.A r hd (λc hd=>?_) λc hd=>?_))))
     . exact .P 524290 r (.L r c (.exit (je () hd rf [0] r)))
     refine .D (.C 2 524290 r (.A r hd (λi hd=>?_) λi hd=>?_))
     . exact .exit (je () hd rf [0] r)
     exact .P 2 r (.exit (je () hd rf [0] r))
   refine λ_ hd=>jq r λy a=>?_;have R3:=a.u1 R3;refine .B (.N 1 r (.I AJ .z r (.G 1 r (.I AJ .z r (.G 1 r ?_)))));refine .u call212 (N0 (I:=y) hd:) r λC hd=>?_;refine .C 1 4294967298 r (.A r hd (λm hd=>?_) λm hd=>?_)
   . exact .F (.C 1 4 r (.drop .z (.r1 results164 r a ⟨3,r,hd⟩)))
   exact .P 2 r (.exit (je () hd a [0] r))
 refine λ_ hd=>jq r λD b=>?_;have R3:=b.u1 R3;refine .B (.E (.N 1 r (.I FK .z r (.ln CA r (.C 2 8589934594 r (.A r hd (λo hd=>?_) λo hd=>?_))))))
 . exact .F (.C 1 4 r (.drop .z (.r1 results164 r b ⟨5,r,hd⟩)))
 refine .N 1 r (.I FK .z r ?_);refine .cS (.f call213 r) .n r (M8 R3 hd:) λF G H q s=>?_;obtain⟨J,rfl,rfl,hd⟩:=s;have⟨d,R3⟩:=q.u2 b R3;refine .rn 1 r (.C 1 274877906944 r (.drop .z (.A r hd (λt hd=>?_) λt hd=>?_)))
 . exact .F (.C 1 4 r (.r1 results164 r d ⟨7,r,hd⟩))
 exact .P 0 r (.F (.C 1 4 r (.r1 results164 r d ⟨0,r,hd⟩)))
theorem fM {a0 Q} (d:OC a0 Q) :
  Fun prog 215 #[.agg (LW a0).toArray] I [] (λ_ v l=>∃ r,v=.tuple #[.agg (LW r.1).toArray,.bool r.2]∧l=[]∧Q r):=by
 exact Fun.ee func215 ntmps215 r (.F (.bx r λ_=>.al QG r λ_=>.G 1 r (.U 6 1 r (.s1 MO .p1 r (.ns 6 r (.S OY E5 .p1 r (.R E5 .z r (.C 1 12 r (.drop .p1 (.K (DX r (.w OY E5 r .z r (.t r .n)) rf .n ⟨(({ a0 with W:=1 }:B0),true),r,r,d⟩)))))))))))
theorem pI {a0 Q} (R3:RepSl CC I p1 c2 a0.Edges) (hd:TT a0 Q) :
  Fun prog 93 #[.agg #[vi a0.N,.slice p1 a0.Edges.length c2],.func (.func 215) #[] #[]] I [] (λI_ v l=>∃ r p4 c5,v=.agg #[vi r.N,.slice p4 r.Edges.length c5]∧RepSl CC I_ p4 c5 r.Edges∧l=[]∧Q r):=by
 refine Fun.ee func93 ntmps93 r ?_;refine .F (.bx r λp=>?_);refine .al V7 r λa5=>?_;refine .U 22 1 r (.M 54 r (.B (.N 1 r (.I RS .p1 r (.ln F8 r (.C 1 14390 r (.E (.own0 CC 73 (.lx hd [12,11,4,2,1] [2,1] r (λj E l (a,b)=>λc w=>∃ e f,j ⟨34,[],none⟩ (λI_=>True) ((5,.slice e a.length f) :: (13,vi b) :: E) (OwnSl CC 73 e f a :: l) c w) (λc w ho hs=>⟨_,_,jf rf tv [0,1,0] r ho hs⟩) ?_)))))))));rintro⟨a,b⟩ O hd c w ⟨e,f,F,d,_,hok,hsym⟩;have R3:=d.u1 R3;refine Cod.at hok hsym (.F (.C 1 30774 r (.B (.A r hd (λk hd=>?_) λk hd=>?_))))
 . refine .P 14390 r (.B (.E (.F ?_)));have⟨G,P,m,R,o134,H,o,hd⟩:=R3.ix hd;refine .W F8 E5 H G m r (.ldW OY E5 o r r r r (.al QG r λS=>?_));refine .R E5 .z r (.U 14518 1 r (.S OY E5 .z r ?_));refine .cS (.c call215 r r) .n r (fM (I:=F) hd:) λT U V q s=>?_;obtain⟨i,rfl,rfl,hd⟩:=s;have⟨h,R3⟩:=q.u2 d R3;refine .rn 4 r (.G 3 r (.al QG r λW=>?_));refine .R E5 .z r (.C 1 15158 r (.drop .p1 (.F (.C 1 8403254 r (.A r hd (λt hd=>?_) λt hd=>?_)))))
   . refine .D (.G 1 r (.S OY E5 .z r (.bs 1 F8 E5 QG r λX=>?_)));have⟨u,hd⟩:=hd;refine .ap (ys:=[i.1]) .p2 F8 F8 AbQ r (.box .z (.one r) r) u λY Z=>?_;exact .C 1 14390 r (.drop .p1 (.drop .p1 (.D (.G 2 r (.H λc w ho hs=>⟨_,hd,_,_,jf h tv V9 r ho hs⟩)))))
   exact .P 14390 r (.drop .z (.D (.G 2 r (.H λc w ho hs=>⟨_,hd,_,_,jf h tv V9 r ho hs⟩))))
 refine .en 54 r (.N 1 r (.I AJ .p1 r (.G 1 r (.bd V7 oU AeE r (.pub .z λJ x g=>?_)))));have⟨y,R3⟩:=x.u2 d R3;refine .ca call44 r (I6 (I:=J) (a0:=({ N:=a0.N,Edges:=a }:Graph)) g hd:) λa1 a2 B C=>?_;obtain⟨K,a3,a4,rfl,L,hd⟩:=C;have⟨D,R3,g⟩:=B.u3 y R3 g;exact .R D4 .p1 r (.M 18 r (.drop .z (.K (DX r (.w FC D4 r .z r .n) D .n ⟨K,_,_,r,L,r,hd⟩))))
theorem WY {a0 Q} (R3:RepSl CC I p1 c2 a0.Edges) (hd:NR a0 Q) :
  B6 prog 165 [.agg #[vi a0.N,.slice p1 a0.Edges.length c2]] I (o1_ Q):=by
 refine Fun.ee func165 ntmps165 r ?_;refine .F (.bx r λl=>?_);refine .al V7 r λm=>?_;refine .ns 6 r (.S FC D4 .p1 r ?_);refine .cS (.f call93 r) .n r (pI R3 hd:) λg h i a c=>?_;obtain⟨d,j,k,rfl,e,rfl,hd⟩:=c;have R3:=a.u1 R3;exact .rn 2 r (.R D4 .z r (.M 4 r (.drop .p1 (.K (B7 r (.w FC D4 r .z r .n) a ⟨d,_,_,r,e,hd⟩)))))
theorem qW {a0 a1 Q} (d:XD a0 a1 Q) :
  wV prog 261 [vi a0,vi a1] I (λ_ v l=>∃ r p1 c2 p4 c5 p7 c8,v=.agg #[vi r.Rows,vi r.Cols,.slice p1 r.Start.length c2,.slice p4 r.Col.length c5,.slice p7 r.Val.length c8]∧l=[OwnSl AV 3 p1 c2 r.Start,OwnSl AV 3 p4 c5 r.Col,OwnSl AV 2 p7 c8 r.Val]∧Q r):=by
 refine Fun.ee func261 ntmps261 r (.F (.al OZ r λ_=>.U 19 4 r ?_));have⟨a,b,d⟩:=d;exact .make (El:=AV) (zv:=0) 8 BD IN3 r r r r r r a b r r r λ_=>.bd OZ qN uP r (.R BL .p1 r (.M 16 r (.own0 AV 3 (.own0 AV 2 (.K (DX r (.w D0 BL r .p3 r .n) rf (.o nl7 r) ⟨({ Rows:=a0,Cols:=a1,Start:=(List.replicate (A4 (a0+1)).toNat 0),Col:=([]:List Int),Val:=([]:List Int) }:Rows),_,_,_,_,_,_,r,r,d⟩))))))
theorem cR {a0 a1 a2 Q} (R3:RepSl JJ I p1 c2 a2) (hd:T8 a0 a1 a2 Q) :
  B6 prog 216 [vi a0,vi a1,.slice p1 a2.length c2] I (λI_ v=>∃ r gb4,v=.agg (LF r gb4)∧nQ I_ gb4 r∧Q r):=by
 refine Fun.ee func216 ntmps216 r ?_;refine .F (.al OZ r λb8=>?_);refine .U 71 2 r ?_;refine .AD call261 r (qW (I:=I) hd:) r r λf4 f5 f6 S c4=>?_;obtain⟨d,f7,f8,f9,g0,g1,g2,rfl,rfl,hd⟩:=c4;have R3:=S.u1 R3;refine .al OZ r λN=>?_;refine .R BL .z r (.M 197 r (.B (.N 1 r (.ln NX r (.C 1 114881 r (.E (.lx hd [15,14,7,6,0] [4] r (λj E l (p,a,b,D)=>λc w=>∃ F t e f g i,j ⟨63,[],none⟩ (λI_=>True) ((16,vi D) :: E) (pc N #[vi d.Rows,vi d.Cols,.slice F p.length t,.slice e a.length f,.slice g b.length i] 187 :: OwnSl AV 3 F t p :: OwnSl AV 3 e f a :: OwnSl AV 2 g i b :: l) c w) (λc w ho hs=>⟨_,_,_,_,_,_,jf rf tv nl9 r ho hs⟩) ?_)))))));rintro⟨p,a,b,D⟩ d2 hd c w ⟨F,t,e,f,g,i,d8,u,_,hok,hsym⟩;have⟨Z,R3⟩:=u.u2 S R3;refine Cod.at hok hsym (.F (.C 1 245953 r (.B (.A r hd (λa3 hd=>?_) λa3 hd=>?_))))
 . refine .P 114881 r (.B (.E (.F ?_)));have⟨c5,k,a4,d9,o441,c6,a5,hd⟩:=R3.ix hd;refine .W NX SG c6 c5 a4 r (.ldW isAgg270 SG a5 r r r r (.al cA r λe0=>?_));refine .R SG .z r (.U 115393 1 r (.I F9 .p1 r (.G 1 r (.I AJ .z r (.G 1 r ?_)))));have⟨T,G,x,hd⟩:=hd;refine .ownNe .p2 (DJ x) λc7 c8=>?_;cases c8;refine .v BD DD r r T (BF x T) r r (.lo1 (j:=0) AJ .p2 x r r r r r (.G 1 r ?_));have⟨U,e1,O,hd⟩:=hd;refine .v BD DD r r U (BF O U) r r (.stO1 (j:=0) (v':=(A4 (G+1))) DD .p2 O r r r (.o r) r (.rl .p2 [21] r (by simp only[QV]) (.reat .p1 (B:=pc N #[vi d.Rows,vi d.Cols,.slice (some ⟨c7,0,none⟩) (p.set ((A4 (k.Row+1)).toNat) (A4 (G+1))).length t,.slice e a.length f,.slice g b.length i] 187) (by simp only[QV]) (.U 115393 1 r (.I F9 .p1 r (.G 1 r (.I AJ .z r (.bs 1 BD DD nT r λe3=>?_))))))));have⟨a6,hd⟩:=hd;refine .ap (ys:=[k.Col]) .p4 BD BD IN3 r (.box .z (.one r) r) a6 λe4 e5=>?_;refine .G 1 r (.s1 AhD .p3 r (.M 115393 r (.drop .p1 (.D (.G 1 r (.I FK .p2 r (.G 1 r (.I J6 .p1 r (.bs 1 CA MO zv2 r λe6=>?_)))))))));have⟨a7,hd⟩:=hd;refine .ap (ys:=[k.Val]) .p5 CA CA IN2 r (.box .z (.one r) r) a7 λe7 e8=>?_;exact .G 1 r (.s1 sizeOf27 .p4 r (.M 114881 r (.drop .p1 (.drop .p2 (.D (.G 2 r (.H λc w ho hs=>⟨_,hd,_,_,_,_,_,_,jf u tv [2,2,1,0,0] r ho hs⟩)))))))
 refine .en 193 r (.B (.F (.C 2 52776558133440 r (.E (.lx hd [44,7,6] [4,2,2] r (λj E l (m,q)=>λc w=>∃ H y,j ⟨63,[],none⟩ (λI_=>True) ((45,vi q) :: E) (pc N #[vi d.Rows,vi d.Cols,.slice H m.length y,.slice e a.length f,.slice g b.length i] 187 :: OwnSl AV 3 H y m :: l) c w) (λc w ho hs=>⟨_,_,jf rf tv [0,0,2,0,0] r ho hs⟩) ?_)))));rintro⟨m,q⟩ d3 hd c w ⟨H,y,e9,A,_,hok,hsym⟩;have⟨a8,a9⟩:=A.u2 Z u;refine Cod.at hok hsym (.F (.C 1 123145302311104 r (.B (.A r hd (λb0 hd=>?_) λb0 hd=>?_))))
 . refine .P 52776558133440 r (.B (.E (.F (.C 2 52776558134464 r (.ownF .p1 λV=>?_)))));refine .ownF .p3 λd4=>?_;refine .ownF .p4 λd5=>?_;refine .dr AhY 12 (.J 1 r (.V F9 0 r (.J 2 r ?_)));have⟨W,J,C,hd⟩:=hd;have⟨c9,d0⟩:=V (DJ C);cases d0;refine .h r (.v BD DD r r W (BF C W) r r .mk) (.h r (.lo1 (j:=0) AJ .p1 C r r r r r .mk) (.J 1 r (.V F9 0 r (.J 1 r ?_))));have⟨X,K,P,hd⟩:=hd;refine .h r (.v BD DD r r X (BF P X) r r .mk) (.h r (.lo1 (j:=0) AJ .p1 P r r r r r .mk) (.J 1 r (.e2 12 ?_)));have⟨Y,f0,R,hd⟩:=hd;exact .v BD DD r r Y (BF R Y) r r (.stO1 (j:=0) (v':=(A4 (J+K))) DD .p1 R r r r (.o r) r (.rl .p1 [49,55] r (by simp only[QV]) (.reat .z (B:=pc N #[vi d.Rows,vi d.Cols,.slice (some ⟨c9,0,none⟩) (m.set ((A4 (q+1)).toNat) (A4 (J+K))).length y,.slice e a.length f,.slice g b.length i] 187) (by simp only[QV]) (.M 52776558133440 r (.D (.G 2 r (.H λc w ho hs=>⟨_,hd,_,_,jf A tv nl9 r ho hs⟩)))))))
 refine .en 192 r (.F (.S D0 BL .z r (.R BL .p2 r (.M 64 r (.drop .z (.pub .z λf1 b1 s=>?_))))));have⟨b2,b3,b4⟩:=b1.u3 a8 a9 A;refine .pub .p1 λf2 b5 L=>?_;have⟨b6,b7,b9,s⟩:=b5.u4 b2 b3 b4 s;refine .pub .p1 λf3 c0 d1=>?_;have⟨c1,d6,d7,s,L⟩:=c0.u5 b6 b7 b9 s L;exact .K (B7 r (.w D0 BL r .z r .n) c1 ⟨({ d with Start:=m,Col:=a,Val:=b }:Rows),((_,_),(_,_),(_,_)),r,⟨s,L,d1⟩,hd⟩)
theorem WE {a0 Q} (R3:RepSl CC I p1 c2 a0.Edges) (hd:PF a0 Q) :
  B6 prog 166 [.agg #[vi a0.N,.slice p1 a0.Edges.length c2]] I (λI_ v=>∃ r gb4,v=.tuple #[.agg (LF r.1 gb4),vi r.2]∧nQ I_ gb4 r.1∧Q r):=by
 refine Fun.ee func166 ntmps166 r ?_;refine .F (.bx r λa6=>?_);refine .al OZ r λa7=>?_;refine .C 1 6 r (.B (.F (.S FC D4 .p1 r ?_)));refine .u call26 (QU R3 hd:) r λT hd=>?_;refine .G 1 r (.U 22 2 r (.M 2070 r (.A r hd (λH hd=>?_) λH hd=>?_)))
 . exact .F (.bd OZ qN uP r (.G 1 r (.R BL .z r (.C 1 12 r (.drop .p1 (.K (B7 r (.w D0 BL r .z r (.t r .n)) rf ⟨(RY,T),((_,_),(_,_),(_,_)),r,⟨(.nil _ _ _),(.nil _ _ _),(.nil _ _ _)⟩,hd⟩)))))))
 refine .P 6 r (.F (.C 1 38 r (.B (.F (.S FC D4 .p1 r ?_)))));refine .ca call92 r (mZ R3 hd:) λa8 a9 i K=>?_;obtain⟨J,b1,b2,rfl,k,hd⟩:=K;have R3:=i.u1 R3;refine .field1 oU r RS r r r r (.ln F8 r (.C 1 458790 r (.E (.own0 JJ 270 (.lx hd [17,16,2,1] [2,1] r (λj E l (b,e)=>λc w=>∃ f g,j ⟨39,[],none⟩ (λI_=>True) ((5,.slice f b.length g) :: (18,vi e) :: E) (OwnSl JJ 270 f g b :: l) c w) (λc w ho hs=>⟨_,_,jf rf tv [0,1,0] r ho hs⟩) ?_)))));rintro⟨b,e⟩ S hd c w ⟨f,g,V,d,_,hok,hsym⟩;have⟨m,R3,k⟩:=d.u3 i R3 k;refine Cod.at hok hsym (.F (.C 1 983078 r (.B (.A r hd (λo hd=>?_) λo hd=>?_))))
 . refine .P 458790 r (.B (.E (.F ?_)));have⟨L,a,p,X,o155,O,q,hd⟩:=k.ix hd;refine .W F8 E5 O L p r (.ldW OY E5 q r r r r (.al QG r λY=>?_));refine .R E5 .z r (.M 458918 r (.D (.G 2 r (.I AJ .z r (.G 1 r (.I AJ .z r (.G 1 r (.I J6 .z r (.bd cA underlying270 Ak3 r ?_)))))))));refine .bs 1 NX SG cA r λZ=>?_;have⟨s,hd⟩:=hd;refine .ap (ys:=[({ Row:=a.From,Col:=a.To,Val:=a.W }:A2)]) .p2 NX NX Ak2 r (.box .z (.one r) r) s λa1 a2=>?_;exact .C 1 458790 r (.drop .p1 (.drop .p1 (.D (.G 2 r (.H λc w ho hs=>⟨_,hd,_,_,jf d tv V9 r ho hs⟩)))))
 refine .en 38 r (.N 1 r (.I AJ .p1 r (.G 1 r (.I AJ .p1 r (.G 1 r (.pub .z λa3 u h=>?_))))));have⟨x,y,R3⟩:=u.u3 m d R3;refine .ca call216 r (cR h hd:) λa4 a5 B C=>?_;obtain⟨P,D,rfl,R,hd⟩:=C;have⟨F,U,R3,h⟩:=B.u4 x y R3 h;exact .R BL .p1 r (.C 1 12 r (.drop .z (.K (B7 r (.w D0 BL r .z r (.t r .n)) F ⟨(P,0),D,r,R,hd⟩))))
theorem gN {a0 a1 Q} (R3:RepSl AV I p1 c2 a0.Draws) (R6:RepSl CC I p4 c5 a1.Edges) (hd:RC a0 a1 Q) :
  B6 prog 122 [.agg (M9 a0 p1 c2),.agg #[vi a1.N,.slice p4 a1.Edges.length c5]] I (λI_ v=>∃ r gb7,v=.tuple #[.agg (LF r.1 gb7),vi r.2]∧nQ I_ gb7 r.1∧Q r):=by
 refine Fun.ee func122 ntmps122 r ?_;refine .F (.bx r λe7=>?_);refine .bx r λe8=>?_;refine .al OZ r λe9=>?_;refine .C 1 28 r (.B (.F (.S QF QD .p2 r ?_)));refine .u call164 (ZC R3 hd:) r λo hd=>?_;refine .G 1 r (.U 92 2 r (.M 2140 r (.A r hd (λY hd=>?_) λY hd=>?_)))
 . exact .F (.bd OZ qN uP r (.G 1 r (.R BL .z r (.C 1 48 r (.drop .p1 (.drop .p1 (.K (B7 r (.w D0 BL r .z r (.t r .n)) rf ⟨(RY,o),((_,_),(_,_),(_,_)),r,⟨(.nil _ _ _),(.nil _ _ _),(.nil _ _ _)⟩,hd⟩))))))))
 refine .P 28 r (.B (.N 1 r (.I AJ .p1 r (.G 1 r (.I AJ .p2 r (.C 1 262172 r (.A r hd (λZ hd=>?_) λZ hd=>?_)))))))
 . exact .F (.bd OZ qN uP r (.R BL .z r (.C 1 48 r (.drop .p1 (.drop .p1 (.K (B7 r (.w D0 BL r .z r (.t r .n)) rf ⟨(RY,4),((_,_),(_,_),(_,_)),r,⟨(.nil _ _ _),(.nil _ _ _),(.nil _ _ _)⟩,hd⟩)))))))
 refine .P 28 r (.B (.F (.S FC D4 .p1 r ?_)));refine .u call26 (QU R6 hd:) r λs hd=>?_;refine .G 1 r (.U 156 2 r (.M 8388764 r (.A r hd (λa3 hd=>?_) λa3 hd=>?_)))
 . exact .F (.bd OZ qN uP r (.G 1 r (.R BL .z r (.C 1 48 r (.drop .p1 (.drop .p1 (.K (B7 r (.w D0 BL r .z r (.t r .n)) rf ⟨(RY,s),((_,_),(_,_),(_,_)),r,⟨(.nil _ _ _),(.nil _ _ _),(.nil _ _ _)⟩,hd⟩))))))))
 refine .P 28 r (.B (.N 1 r (.I fI .p2 r (.M 134217752 r (.drop .p2 (.E (.B (.E (.B ?_)))))))));refine .E (.B (.E (.B (.B (.F (.C 2 402653208 r (.A r hd (λa4 hd=>?_) λa4 hd=>?_)))))))
 . refine .en 24 r (.D (.S FC D4 .p1 r ?_));refine .ca call60 r (wA R6 hd:) λf0 f1 g a6=>?_;obtain⟨f2,f3,f4,rfl,h,hd⟩:=a6;have R6:=g.u1 R6;refine .R D4 .p1 r (.M 24 r (.D (.S FC D4 .p1 r ?_)));refine .ca call59 r (nA h hd:) λf5 f6 a8 a9=>?_;obtain⟨f7,f8,f9,rfl,i,hd⟩:=a9;have⟨x,h⟩:=a8.u2 g h;refine .R D4 .p1 r (.ns 24 r (.S FC D4 .p1 r ?_));refine .ca call165 r (WY i hd:) λg0 g1 J L=>?_;obtain⟨g2,g3,g4,rfl,j,hd⟩:=L;have⟨T,i⟩:=J.u2 x i;refine .R D4 .p1 r (.M 24 r (.en 24 r (.F (.S FC D4 .p1 r ?_))));refine .ca call166 r (WE j hd:) λg5 g6 X b6=>?_;obtain⟨W,b7,rfl,b8,hd⟩:=b6;have⟨p,j⟩:=X.u2 T j;exact .G 2 r (.R BL .z r (.C 1 48 r (.drop .p1 (.K (B7 r (.w D0 BL r .z r (.t r .n)) p ⟨(W.1,W.2),b7,r,b8,hd⟩)))))
 refine .P 134217752 r (.B (.F (.C 2 1207959576 r (.A r hd (λq hd=>?_) λq hd=>?_))))
 . refine .en 24 r (.D (.S FC D4 .p1 r ?_));refine .ca call59 r (nA R6 hd:) λc6 c7 d u=>?_;obtain⟨c8,c9,d0,rfl,a,hd⟩:=u;have R6:=d.u1 R6;refine .R D4 .p1 r (.ns 24 r (.S FC D4 .p1 r ?_));refine .ca call165 r (WY a hd:) λd1 d2 y A=>?_;obtain⟨d3,d4,d5,rfl,b,hd⟩:=A;have⟨B,a⟩:=y.u2 d a;refine .R D4 .p1 r (.M 24 r (.en 24 r (.F (.S FC D4 .p1 r ?_))));refine .ca call166 r (WE b hd:) λd6 d7 D E=>?_;obtain⟨k,F,rfl,b9,hd⟩:=E;have⟨G,b⟩:=D.u2 B b;exact .G 2 r (.R BL .z r (.C 1 48 r (.drop .p1 (.K (B7 r (.w D0 BL r .z r (.t r .n)) G ⟨(k.1,k.2),F,r,b9,hd⟩)))))
 refine .P 134217752 r (.F (.C 2 4294967320 r (.A r hd (λH hd=>?_) λH hd=>?_)))
 . refine .en 24 r (.F (.S FC D4 .p1 r ?_));refine .ca call165 r (WY R6 hd:) λd8 d9 e K=>?_;obtain⟨e0,e1,e2,rfl,c,hd⟩:=K;have R6:=e.u1 R6;refine .R D4 .p1 r (.M 24 r (.en 24 r (.F (.S FC D4 .p1 r ?_))));refine .ca call166 r (WE c hd:) λe3 e4 O P=>?_;obtain⟨l,R,rfl,c0,hd⟩:=P;have⟨S,c⟩:=O.u2 e c;exact .G 2 r (.R BL .z r (.C 1 48 r (.drop .p1 (.K (B7 r (.w D0 BL r .z r (.t r .n)) S ⟨(l.1,l.2),R,r,c0,hd⟩)))))
 refine .P 24 r (.en 24 r (.F (.S FC D4 .p1 r ?_)));refine .ca call166 r (WE R6 hd:) λe5 e6 f U=>?_;obtain⟨m,V,rfl,c1,hd⟩:=U;have R6:=f.u1 R6;exact .G 2 r (.R BL .z r (.C 1 48 r (.drop .p1 (.K (B7 r (.w D0 BL r .z r (.t r .n)) f ⟨(m.1,m.2),V,r,c1,hd⟩)))))
theorem xU {a0 a1 a2 Q} (R3:RepSl AV I p1 c2 a0.Draws) (R6:RepSl CC I p4 c5 a1.Edges) (hd:VQ a0 a1 a2 Q) :
  B6 prog 83 [.agg (M9 a0 p1 c2),.agg #[vi a1.N,.slice p4 a1.Edges.length c5],vi a2] I (λ_=>Z6 Q):=by
 refine Fun.ee func83 ntmps83 r ?_;refine .F (.bx r λi=>?_);refine .bx r λj=>?_;refine .C 1 28 r (.B (.F (.S QF QD .p1 r (.S FC D4 .z r ?_))));refine .ca call122 r (gN R3 R6 hd:) λk l a c=>?_;obtain⟨g,h,rfl,m,hd⟩:=c;have⟨R3,R6⟩:=a.u2 R3 R6;refine .G 3 r (.al OZ r λn=>?_);refine .R BL .z r (.C 1 260 r (.drop .z (.drop .z (.drop .z (.F (.C 2 65796 r (.A r hd (λd hd=>?_) λd hd=>?_)))))))
 . exact .F (.C 2 64 r (.r1 results83 r a ⟨g.2,r,hd⟩))
 refine .P 4 r (.B (.N 3 r (.T hd [19,20] r (λe hd=>?_) λe hd=>?_)))
 . exact .C 3 8388608 r (.L r r (.F (.C 1 64 r (.r1 results83 r a ⟨3,r,hd⟩))))
 refine .C 3 8388608 r (.A r hd (λf hd=>?_) λf hd=>?_)
 . exact .F (.C 1 64 r (.r1 results83 r a ⟨3,r,hd⟩))
 exact .P 0 r (.F (.C 1 64 r (.r1 results83 r a ⟨0,r,hd⟩)))
theorem P3 {a0 Q} (R2:lTa I ga1 a0) (hd:JM a0 Q) :
  B6 prog 50 [.agg (bI a0 ga1)] I (λ_=>Z6 Q):=by
 refine Fun.ee func50 ntmps50 r ?_;refine .F (.bx r λC=>?_);refine .G 1 r (.U 2 1 r (.M 10 r (.B (.N 1 r (.y QF QD r .z (.o 5 r) r r r (.G 1 r (.y FC D4 r .z (.o 2 r) r r r (.G 1 r (.I AJ .z r ?_)))))))));refine .u call83 (xU R2.1 R2.2.1 hd:) r λs hd=>?_;refine .G 1 r (.U 26 2 r (.M 8218 r (.A r hd (λd hd=>?_) λd hd=>?_)))
 . exact .F (.C 2 4 r (.drop .z (.r0 results50 r ⟨s,r,hd⟩)))
 refine .P 10 r (.B (.E (.B (.jn hd [1] [0] r (λj E l b=>j ((15,.bool b) :: E) l) (λw hd=>?_) ?_))))
 . refine .N 2 r (.I AJ .z r ?_);refine .callPc call82 r r (QK (I:=I) hd:) r r λx f=>?_;obtain⟨t,rfl,hd⟩:=f;refine .C 2 32778 r (.A r hd (λg hd=>?_) λg hd=>?_)
   . exact .AB (je (!t) hd rf [0] r)
   refine .N 2 r (.I AJ .z r ?_);refine .callPc call82 r r (QK (I:=I) hd:) r r λy i=>?_;obtain⟨u,rfl,hd⟩:=i;refine .C 2 32778 r (.A r hd (λk hd=>?_) λk hd=>?_)
   . exact .AB (je (!u) hd rf [0] r)
   refine .D (.G 2 r (.I AJ .z r ?_));refine .callPc call82 r r (QK (I:=I) hd:) r r λA n=>?_;obtain⟨v,rfl,hd⟩:=n;exact .G 2 r (.H (je (!v) hd rf [0] r))
 refine λb hd=>jq r λB a=>?_;have R2:=a.u1 R2;refine .A r hd (λp hd=>?_) λp hd=>?_
 . exact hd.elim
 refine .N 1 r (.I isAgg57 .z r (.ln AeH r (.C 2 2147483648 r (.drop .z (.A r hd (λq hd=>?_) λq hd=>?_)))))
 . exact hd.elim
 exact .P 0 r (.F (.C 1 4 r (.r1 results50 r a ⟨0,r,hd⟩)))
theorem AcI {a0 Q} (hd:tJ a0 Q) :
  B6 prog 108 [.agg (AaW a0).toArray] I (λ_=>eO Q):=by
 refine Fun.ee func108 ntmps108 r ?_;refine .F (.bx r λo=>?_);refine .C 1 2 r (.B (.N 1 r (.I AJ .z r ?_)));refine .u call49 (MZ (I:=I) hd:) r λj hd=>?_;refine .G 2 r (.T hd [6,7] r (λb hd=>?_) λb hd=>?_)
 . exact .C 11 262146 r (.L r r (.F (.C 1 4 r (.drop .z (.r0 results108 r ⟨false,r,hd⟩)))))
 refine .G 1 r (.O r (.I AJ .z r ?_));refine .O r (.AE call49 r (MZ (I:=I) hd:) r r λk d=>?_);obtain⟨l,rfl,hd⟩:=d;refine .G 3 r (.T hd [11,12,13] r (λe hd=>?_) λe hd=>?_)
 . exact .C 5 262146 r (.L r r (.F (.C 1 4 r (.drop .z (.r0 results108 r ⟨false,r,hd⟩)))))
 refine .G 1 r (.O r (.I AJ .z r ?_));refine .O r (.AE call49 r (MZ (I:=I) hd:) r r λm g=>?_);obtain⟨n,rfl,hd⟩:=g;refine .C 2 262146 r (.A r hd (λh hd=>?_) λh hd=>?_)
 . exact .F (.C 1 4 r (.drop .z (.r0 results108 r ⟨false,r,hd⟩)))
 refine .P 2 r (.N 1 r (.I isAgg127 .z r (.G 2 r (.T hd [21,22] r (λi hd=>?_) λi hd=>?_))))
 . exact .G 1 r (.O r (.I isAgg127 .z r (.C 3 4 r (.drop .z (.r0 results108 r ⟨(decide (a0.Kind<=5)),r,hd⟩)))))
 exact .C 5 4 r (.drop .z (.r0 results108 r ⟨false,r,hd⟩))
theorem jD {a0 Q} (d:XE a0 Q) :
  Fun prog 107 #[.agg (AaW a0).toArray] I [] (λ_ v l=>∃ r,v=.bool r∧l=[]∧Q r):=by
 exact Fun.ee func107 ntmps107 r (.F (.bx r λ_=>.G 1 r (.ns 2 r (.S isAgg129 sizeOf129 .z r (.u call108 (AcI (I:=I) d:) r λb d=>.C 2 4 r (.drop .z (.q1 results107 rf [] r ⟨(!b),r,r,d⟩)))))))
theorem KO {a0 Q} (R3:RepSl AdK I p1 c2 a0) (hd:DP a0 Q) :
  Fun prog 139 #[.slice p1 a0.length c2,.func (.func 107) #[] #[]] I [] (λI_ v l=>∃ r,v=vi r∧l=[]∧Q r):=by
 refine Fun.ee func139 ntmps139 r ?_;refine .F (.C 1 3 r (.B (.N 1 r (.ln underlying98 r (.C 1 387 r (.E (.lp hd vW [] r (λj E l d=>j ((8,vi d) :: E) l) (ji rf [] r) ?_)))))));refine λd o hd=>jq r λp a=>?_;have R3:=a.u1 R3;refine .F (.C 1 899 r (.B (.A r hd (λf hd=>?_) λf hd=>?_)))
 . refine .P 387 r (.B (.E (.N 2 r (.U 419 3 r ?_))));have⟨q,t,g,u,o55,s,b,hd⟩:=R3.ix hd;refine .W underlying98 sizeOf129 s q g r (.ldW isAgg129 sizeOf129 b r r r r ?_);refine .cS (.c call107 r r) .n r (jD (I:=p) hd:) λw x y i k=>?_;obtain⟨z,rfl,rfl,hd⟩:=k;have⟨e,R3,b⟩:=i.u3 a R3 b;refine .rn 0 r (.M 65955 r (.A r hd (λm hd=>?_) λm hd=>?_))
   . exact .F (.C 2 18 r (.q1 results139 e [] r ⟨d,r,r,hd⟩))
   exact .P 387 r (.D (.G 2 r (.H (je (A4 (d+1)) hd e [] r))))
 exact .en 2 r (.F (.C 1 18 r (.q1 results139 a [] r ⟨(-1),r,r,hd⟩)))
theorem J9 {a0 Q} (R3:RepSl AdK I p1 c2 a0) (hd:CK a0 Q) :
  Fun prog 106 #[.slice p1 a0.length c2,.func (.func 107) #[] #[]] I [] (λI_ v l=>∃ r,v=.bool r∧l=[]∧Q r):=by
 refine Fun.ee func106 ntmps106 r ?_;refine .N 1 r (.U 3 2 r ?_);refine .cS (.f call139 r) .n r (KO R3 hd:) λe g h a c=>?_;obtain⟨d,rfl,rfl,hd⟩:=c;have R3:=a.u1 R3;exact .rn 0 r (.C 2 18 r (.q1 results106 a [] r ⟨(decide (0<=d)),r,r,hd⟩))
theorem AcJ {a0 a1 a2 Q} (R2:lTa I ga1 a0) (R5:RepSl AdK I p3 c4 a1) (hd:iH a0 a1 a2 Q) :
  B6 prog 72 [.agg (bI a0 ga1),.slice p3 a1.length c4,vi a2] I (λ_=>Z6 Q):=by
 refine Fun.ee func72 ntmps72 r ?_;refine .F (.bx r λs=>?_);refine .C 1 14 r (.B (.F (.S Y0 S8 .z r ?_)));refine .u call50 (P3 R2 hd:) r λk hd=>?_;refine .C 1 134 r (.drop .z (.F (.C 2 2182 r (.A r hd (λc hd=>?_) λc hd=>?_))))
 . exact .F (.C 2 64 r (.r0 results72 r ⟨k,r,hd⟩))
 refine .P 6 r (.B (.E (.N 1 r (.ln underlying98 r (.C 2 8198 r (.A r hd (λd hd=>?_) λd hd=>?_))))))
 . exact hd.elim
 refine .N 1 r ?_;refine .cS (.f call106 r) .n r (J9 R5 hd:) λm l o a g=>?_;obtain⟨p,rfl,rfl,hd⟩:=g;have R5:=a.u1 R5;refine .rn 0 r (.C 1 131076 r (.A r hd (λh hd=>?_) λh hd=>?_))
 . exact hd.elim
 refine .N 1 r ?_;refine .u call49 (MZ (I:=l) hd:) r λq hd=>?_;refine .C 2 1048576 r (.A r hd (λj hd=>?_) λj hd=>?_)
 . exact hd.elim
 exact .P 0 r (.F (.C 1 64 r (.r1 results72 r a ⟨0,r,hd⟩)))
theorem ML {a0 Q} (D:RepSl dN I p1 c2 a0) (h:D5 a0 Q) :
  B6 prog 140 [.slice p1 a0.length c2] I (λJ v=>∃ r p4 c5,v=.slice p4 r.length c5∧RepSl dN J p4 c5 r∧Q r):=by
 refine Fun.ee func140 ntmps140 r (.F (.C 1 1 r (.B (.N 1 r (.eqNilS AeH r r r r (.M 17 r ?_))))));refine split p1.isNone (λa=>?_) (λa=>?_)
 . have h:=h.1 (RepSl.ofNone D a);exact .L r a (.F (.C 1 4 r (.r0 results140 r ⟨([]:List HY),_,_,r,(.nil _ _ _),h⟩)))
 have h:=h.2;refine .j r a (.P 1 r (.F (.bs 0 AeH sizeOf225 zeroValue225 r λ_=>.G 1 r (.ownB (El:=dN) (ys:=([]:List HY)) .z .nil r ?_))));have⟨b,h⟩:=h;exact .ap (ys:=a0) .z AeH AeH AxK r (.imm D r) b λ_ _=>.C 1 4 r (.pub .z λ_ c d=>.r1 results140 r c ⟨(([]:List HY)++a0),_,_,r,d,h⟩)
theorem T0 {a0 a1 Q} (d:NG a0 a1 Q) :
  B6 prog 223 [vi a0,vi a1] I (λ_=>eO Q):=by
 refine Fun.ee func223 ntmps223 r (.N 1 r (.U 3 3 r (.T d [6,7] r (λa d=>?_) λa d=>?_)))
 . exact .C 5 16 r (.r0 results223 r ⟨(decide (a0<=a1)),r,d⟩)
 exact .C 5 16 r (.r0 results223 r ⟨false,r,d⟩)
theorem wC {a0 a1 Q} (hd:SQ a0 a1 Q) :
  B6 prog 264 [vi a0,vi a1] I (λ_=>eO Q):=by
 refine Fun.ee func264 ntmps264 r ?_;refine .N 1 r (.U 3 1 r ?_);refine .u call211 (NB (I:=I) hd:) r λf hd=>?_;refine .G 1 r (.T hd [6,7] r (λc hd=>?_) λc hd=>?_)
 . refine .G 1 r ?_;refine .O r (.AE call211 r (NB (I:=I) hd:) r r λg e=>?_);obtain⟨h,rfl,hd⟩:=e;refine .G 3 r (.T hd [10,11,12] r (λa hd=>?_) λa hd=>?_)
   . exact .C 5 16 r (.r0 results264 r ⟨true,r,hd⟩)
   exact .C 5 16 r (.r0 results264 r ⟨(decide (a0<a1)),r,hd⟩)
 exact .C 10 16 r (.r0 results264 r ⟨(decide (a0<a1)),r,hd⟩)
theorem VB {a0 Q} (U:RepSl AV I p1 c2 a0) (O:G4 a0 Q) :
  B6 prog 224 [.slice p1 a0.length c2] I (λ_=>eO Q):=by
 refine Fun.ee func224 ntmps224 r (.F (.C 1 1 r (.B (.N 1 r (.ln BD r (.C 2 9 r (.E (.lp O [0] [] r (λj E l b=>j ((3,vi b) :: E) l) (ji rf [] r) ?_))))))));refine λb _ O=>jq r λn a=>?_;have U:=a.u1 U;refine .B (.F (.C 2 265 r (.A r O (λc O=>?_) λc O=>?_)))
 . refine .P 9 r (.B (.E (.B (.dr An8 10 (.J 2 r ?_)))));have⟨o,_,d,_,_,p,e,O⟩:=U.ix O;refine .h r (.W BD DD p o d r .mk) (.h r (.x 0 AJ e r .mk) (.J 3 r ?_));have⟨q,_,f,_,_,s,g,O⟩:=U.ix O;refine .h r (.W BD DD s q f r .mk) (.h r (.x 0 AJ g r .mk) (.Y r (.u call264 (wC (I:=n) O:) r λ_ O=>.q 0 r tv (.e2 10 (.M 1048585 r (.A r O (λk O=>?_) λk O=>?_))))))
   . exact .F (.C 1 4 r (.r1 results224 r a ⟨false,r,O⟩))
   exact .P 9 r (.D (.G 3 r (.H (je (A4 (b - 1)) O a [] r))))
 exact .en 0 r (.F (.C 1 4 r (.r1 results224 r a ⟨true,r,O⟩)))
theorem An9 {a0 a1 Q} (V:RepSl AV I p1 c2 a0) (J:rU a0 a1 Q) :
  B6 prog 225 [.slice p1 a0.length c2,vi a1] I (λ_=>eO Q):=by
 refine Fun.ee func225 ntmps225 r (.F (.C 1 3 r (.B (.N 1 r (.ln BD r (.C 1 899 r (.E (.lp J [8,7,1,0] [] r (λj E l b=>j ((9,vi b) :: E) l) (ji rf [] r) ?_))))))));refine λb _ J=>jq r λp a=>?_;have V:=a.u1 V;refine .F (.C 1 1923 r (.B (.A r J (λf J=>?_) λf J=>?_)))
 . refine .P 899 r (.B (.E (.N 1 r ?_)));have⟨q,_,g,_,_,s,h,J⟩:=V.ix J;refine .W BD DD s q g r (.x 0 AJ h r (.G 2 r (.U 995 3 r (.u call223 (T0 (I:=p) J:) r λ_ J=>.G 2 r (.T J [18,19] r (λk J=>?_) λk J=>?_)))))
   . exact .C 12 2147484547 r (.L r r (.F (.C 1 16 r (.r1 results225 r a ⟨false,r,J⟩))))
   refine .G 3 r (.T J [21,22] r (λm J=>?_) λm J=>?_)
   . refine .G 3 r ?_;have⟨t,_,c,_,_,n,d,J⟩:=V.ix J;refine .O r (.W BD DD n t c r (.O r (.x 0 AJ d r (.C 4 2147484547 r (.A r J (λe J=>?_) λe J=>?_)))))
     . exact .F (.C 1 16 r (.r1 results225 r a ⟨false,r,J⟩))
     exact .P 899 r (.D (.G 2 r (.H (je (A4 (b+1)) J a [] r))))
   exact .C 9 2147484547 r (.j r r (.P 899 r (.D (.G 2 r (.H (je (A4 (b+1)) J a [] r))))))
 exact .en 0 r (.F (.C 1 16 r (.r1 results225 r a ⟨true,r,J⟩)))
theorem WF {a0 Q} (R2:nQ I gb1 a0) (hd:PG a0 Q) :
  B6 prog 180 [.agg (LF a0 gb1)] I (λ_=>eO Q):=by
 refine Fun.ee func180 ntmps180 r ?_;refine .F (.bx r λo=>?_);refine .G 1 r (.U 2 1 r (.I F9 .z r (.ln BD r (.C 1 10 r (.B (.N 1 r (.I AJ .z r ?_)))))));refine .u call223 (T0 (I:=I) hd:) r λt hd=>?_;refine .G 2 r (.T hd [11,12] r (λs hd=>?_) λs hd=>?_)
 . exact .C 25 137438953482 r (.L r r (.F (.C 1 4 r (.drop .z (.r0 results180 r ⟨false,r,hd⟩)))))
 refine .G 1 r (.O r (.I AJ .z r ?_));refine .O r (.AE call223 r (T0 (I:=I) hd:) r r λb2 u=>?_);obtain⟨b3,rfl,hd⟩:=u;refine .G 3 r (.T hd [16,17,18] r (λv hd=>?_) λv hd=>?_)
 . exact .C 19 137438953482 r (.L r r (.F (.C 1 4 r (.drop .z (.r0 results180 r ⟨false,r,hd⟩)))))
 refine .G 1 r (.O r (.I F9 .z r (.O r (.ln BD r (.G 1 r (.O r (.I AJ .z r (.G 4 r (.T hd [25,26,27] r (λw hd=>?_) λw hd=>?_)))))))))
 . exact .C 10 137438953482 r (.L r r (.F (.C 1 4 r (.drop .z (.r0 results180 r ⟨false,r,hd⟩)))))
 refine .G 1 r (.O r (.I FK .z r (.O r (.ln CA r (.G 4 r (.T hd [32,33,34] r (λx hd=>?_) λx hd=>?_))))))
 . exact .C 3 137438953482 r (.L r r (.F (.C 1 4 r (.drop .z (.r0 results180 r ⟨false,r,hd⟩)))))
 refine .C 3 137438953482 r (.A r hd (λy hd=>?_) λy hd=>?_)
 . exact .F (.C 1 4 r (.drop .z (.r0 results180 r ⟨false,r,hd⟩)))
 refine .P 10 r (.B (.N 1 r (.I F9 .z r ?_)));have⟨Y,b4,A,b6,o62,Z,B,hd⟩:=R2.1.ix hd;refine .W BD DD Z Y A r (.x 0 AJ B r (.G 2 r (.T hd [42,43] r (λC hd=>?_) λC hd=>?_)))
 . exact .C 15 288230376151711746 r (.L r r (.F (.C 1 4 r (.drop .z (.r0 results180 r ⟨false,r,hd⟩)))))
 refine .G 1 r (.O r (.I F9 .z r (.G 1 r (.O r (.I AJ .z r ?_)))));have⟨a1,b7,D,b8,o72,a2,F,hd⟩:=R2.1.ix hd;refine .O r (.W BD DD a2 a1 D r (.O r (.x 0 AJ F r (.G 4 r (.T hd [51,52,53] r (λG hd=>?_) λG hd=>?_)))))
 . exact .C 5 288230376151711746 r (.L r r (.F (.C 1 4 r (.drop .z (.r0 results180 r ⟨false,r,hd⟩)))))
 refine .G 1 r (.O r (.I F9 .z r ?_));refine .O r (.AE call224 r (VB R2.1 hd:) r r λb9 K=>?_);obtain⟨c0,rfl,hd⟩:=K;refine .C 2 288230376151711746 r (.A r hd (λN hd=>?_) λN hd=>?_)
 . exact .F (.C 1 4 r (.drop .z (.r0 results180 r ⟨false,r,hd⟩)))
 refine .P 2 r (.B (.N 1 r (.I AJ .z r (.C 1 3458764513820540930 r (.E (.lp hd [60,1] [0] r (λj E l c=>j ((61,vi c) :: E) l) (ji rf [0] r) ?_))))));refine λc X hd=>jq r λa3 a=>?_;have R2:=a.u1 R2;refine .F (.C 1 8070450532247928834 r (.B (.A r hd (λg hd=>?_) λg hd=>?_)))
 . refine .P 3458764513820540930 r (.B (.E (.F (.C 2 3458764513820540946 r (.B (.dr AyA 18 (.J 1 r (.V F9 0 r (.J 1 r ?_)))))))));refine .V F9 0 r (.J 1 r ?_);have⟨O,d,i,a4,o166,P,k,hd⟩:=R2.1.ix hd;refine .h r (.W BD DD P O i r .mk) (.h r (.x 0 AJ k r .mk) (.J 1 r (.V F9 0 r (.J 2 r ?_))));have⟨R,b,m,a5,o175,S,n,hd⟩:=R2.1.ix hd;refine .h r (.W BD DD S R m r .mk) (.h r (.x 0 AJ n r .mk) ?_);have⟨T,a6,a7,hd⟩:=hd;have e:Int.toNat d<=Int.toNat b:=by omega
   have f:Int.toNat b<=a0.Col.length:=by omega
   have⟨a8,a9,U,V,W⟩:=RepSl.sliceW R2.2.1 (Int.toNat d) (Int.toNat b) gb1.2.1.2 e f (.inl rfl);refine .h r (.sliceW (L:=Int.toNat d) (H:=Int.toNat b) (cm:=gb1.2.1.2) BD DD r r R2.2.1.1 r r r (.inr ⟨_,_,r,T,r⟩) (.inr ⟨_,_,r,(by omega),r⟩) (.inl r) e f r U V r r .mk) (.J 1 r (.V AJ 0 r (.Y r ?_)));refine .u call225 (An9 W hd:) r λb0 hd=>?_;refine .q 1 r tv (.J 1 r (.e2 18 (.M 2417855097993772169953282 r (.A r hd (λp hd=>?_) λp hd=>?_))))
   . exact .F (.C 1 4 r (.drop .z (.r1 results180 r a ⟨false,r,hd⟩)))
   exact .P 3458764513820540930 r (.D (.G 2 r (.H (je (A4 (c+1)) hd a [0] r))))
 exact .en 0 r (.drop .z (.F (.C 1 4 r (.r1 results180 r a ⟨true,r,hd⟩))))
theorem nB {a0 Q} (d:TU a0 Q) :
  B6 prog 226 [vi a0] I (λ_=>eO Q):=by
 refine Fun.ee func226 ntmps226 r (.N 1 r (.U 1 3 r (.T d [4,5] r (λa d=>?_) λa d=>?_)))
 . exact .C 4 4 r (.r0 results226 r ⟨(decide (a0<=8)),r,d⟩)
 exact .C 4 4 r (.r0 results226 r ⟨false,r,d⟩)
theorem ZD {a0 a1 a2 a3 Q} (hd:PH a0 a1 a2 a3 Q) :
  B6 prog 181 [vi a0,vi a1,vi a2,vi a3] I (λ_=>eO Q):=by
 refine Fun.ee func181 ntmps181 r ?_;refine .N 1 r (.U 15 1 r ?_);refine .u call226 (nB (I:=I) hd:) r λi hd=>?_;refine .G 1 r (.T hd [10,11] r (λf hd=>?_) λf hd=>?_)
 . refine .G 1 r ?_;refine .O r (.AE call226 r (nB (I:=I) hd:) r r λj h=>?_);obtain⟨k,rfl,hd⟩:=h;refine .G 2 r (.T hd [13,14,15] r (λa hd=>?_) λa hd=>?_)
   . refine .G 4 r (.T hd [17,18,19] r (λb hd=>?_) λb hd=>?_)
     . refine .G 5 r (.T hd [22,23,24] r (λc hd=>?_) λc hd=>?_)
       . refine .G 4 r (.T hd [26,27,28] r (λd hd=>?_) λd hd=>?_)
         . exact .C 5 256 r (.r0 results181 r ⟨(decide (a3<a1)),r,hd⟩)
         exact .C 5 256 r (.r0 results181 r ⟨false,r,hd⟩)
       exact .C 9 256 r (.r0 results181 r ⟨false,r,hd⟩)
     exact .C 14 256 r (.r0 results181 r ⟨false,r,hd⟩)
   exact .C 18 256 r (.r0 results181 r ⟨false,r,hd⟩)
 exact .C 22 256 r (.r0 results181 r ⟨false,r,hd⟩)
theorem UU {a0 Q} (R2:nQ I gb1 a0) (hd:RE a0 Q) :
  B6 prog 227 [.agg (LF a0 gb1)] I (At3 Q):=by
 refine Fun.ee func227 ntmps227 r ?_;refine .F (.bx r λH=>?_);refine .al OZ r λq=>?_;refine .M 6 r (.B (.F (.S D0 BL .p1 r ?_)));refine .u call180 (WF R2 hd:) r λs hd=>?_;refine .M 22 r (.A r hd (λd hd=>?_) λd hd=>?_)
 . exact .F (.S D0 BL .p1 r (.R BL .z r (.M 4 r (.drop .p1 (.K (B7 r (.w D0 BL r .z r .n) rf ⟨a0,gb1,r,R2,hd⟩))))))
 refine .P 4 r (.drop .p1 (.F ?_));refine .AD call261 r (qW (I:=I) hd:) r r λt u v f g=>?_;obtain⟨o,x,y,A,B,C,D,rfl,rfl,hd⟩:=g;refine .R BL .p3 r (.M 4 r (.pub .z λE h a=>?_));have i:=h.u1 f;refine .pub .z λF j b=>?_;have⟨k,a⟩:=j.u2 i a;refine .pub .z λG l p=>?_;have⟨m,a,b⟩:=l.u3 k a b;exact .K (B7 r (.w D0 BL r .z r .n) m ⟨o,((_,_),(_,_),(_,_)),r,⟨a,b,p⟩,hd⟩)
theorem nC {a0 a1 Q} (d:TV a0 a1 Q) :
  B6 prog 228 [.agg #[vi a0.1,vi a0.2],vi a1] I (λ_ v=>∃ r,v=.tuple #[vi r.1,vi r.2]∧Q r):=by
 refine Fun.ee func228 ntmps228 r (.F (.bx r λ_=>.G 2 r (.ns 6 r (.AA (i:=0) S7 DD r r (by decide) (o:=0) r r r (.I AJ .z r (.maxI r r r r (.G 1 r (.ns 70 r (.AA (i:=1) S7 DD r r (by decide) (o:=1) r r r (.I AJ .z r (.G 1 r ?_)))))))))));refine .minI r r r r (.C 1 192 r (.drop .z (.B (.F (.C 3 131264 r (.A r d (λa d=>?_) λa d=>?_))))))
 . exact .F (.C 3 48 r (.K (B7 r (.t r (.t r .n)) rf ⟨((if 0 > a0.1 then 0 else a0.1),0),r,d⟩)))
 exact .P 192 r (.F (.C 6 48 r (.K (B7 r (.t r (.t r .n)) rf ⟨((if 0 > a0.1 then 0 else a0.1),A4 ((if a1<a0.2 then a1 else a0.2) - (if 0 > a0.1 then 0 else a0.1))),r,d⟩))))
theorem wD {a0 a1 Q} (O:nQ I gb1 a0) (D:bB a0 a1 Q) :
  B6 prog 230 [.agg (LF a0 gb1),vi a1] I (AxS Q):=by
 refine Fun.ee func230 ntmps230 r (.F (.bx r λ_=>.C 2 6 r (.B (.dr AhY 12 (.J 1 r (.V F9 0 r (.J 1 r ?_)))))));have⟨l,b,g,_,_,m,i,D⟩:=O.1.ix D;refine .h r (.W BD DD m l g r .mk) (.h r (.x 0 AJ i r .mk) (.J 1 r (.V F9 0 r (.J 2 r ?_))));have⟨o,a,j,_,_,p,k,D⟩:=O.1.ix D;refine .h r (.W BD DD p o j r .mk) (.h r (.x 0 AJ k r .mk) (.J 1 r (.e2 12 (.C 1 196 r (.B (.dr [0,1,2,3,4,5,6,7,8,9,10,11,12] 13 (.J 1 r (.V F9 0 r (.J 3 r ?_)))))))));have⟨q,_,_,D⟩:=D;have c:Int.toNat b<=Int.toNat a:=by omega
 have d:Int.toNat a<=a0.Col.length:=by omega
 have⟨_,_,s,u,v⟩:=RepSl.sliceW O.2.1 (Int.toNat b) (Int.toNat a) (Int.toNat a) c d (.inr rfl);refine .h r (.sliceW (L:=Int.toNat b) (H:=Int.toNat a) (cm:=Int.toNat a) BD DD r r O.2.1.1 r r r (.inr ⟨_,_,r,q,r⟩) (.inr ⟨_,_,r,(by omega),r⟩) (.inr r) c d r s u r r .mk) (.J 1 r (.V FK 0 r (.J 3 r ?_)));have⟨w,_,_,D⟩:=D;have e:Int.toNat b<=Int.toNat a:=by omega
 have f:Int.toNat a<=a0.Val.length:=by omega
 have⟨_,_,x,y,A⟩:=RepSl.sliceW O.2.2 (Int.toNat b) (Int.toNat a) (Int.toNat a) e f (.inr rfl);exact .h r (.sliceW (L:=Int.toNat b) (H:=Int.toNat a) (cm:=Int.toNat a) CA MO r r O.2.2.1 r r r (.inr ⟨_,_,r,w,r⟩) (.inr ⟨_,_,r,(by omega),r⟩) (.inr r) e f r x y r r .mk) (.J 1 r (.e2 13 (.C 1 48 r (.drop .z (.K (B7 r (.t r (.t r .n)) rf ⟨(((a0.Col.take a.toNat).drop b.toNat),((a0.Val.take a.toNat).drop b.toNat)),_,_,_,_,r,v,A,D⟩))))))
theorem AnA {a0 a1 Q} (R2:nQ I gb1 a0) (hd:rV a0 a1 Q) :
  B6 prog 229 [.agg (LF a0 gb1),vi a1] I (AxT Q):=by
 refine Fun.ee func229 ntmps229 r ?_;refine .F (.bx r λb8=>?_);refine .G 1 r (.ns 6 r (.S D0 BL .z r ?_));refine .ca call227 r (UU R2 hd:) λa4 S d B=>?_;obtain⟨a5,U,rfl,h,hd⟩:=B;have R2:=d.u1 R2;refine .R BL .z r (.M 6 r (.B (.N 2 r (.I AJ .z r (.G 1 r ?_)))));refine .u call223 (T0 (I:=S) hd:) r λa6 hd=>?_;refine .C 1 131078 r (.A r hd (λD hd=>?_) λD hd=>?_)
 . exact .F (.C 1 16 r (.drop .z (.r1 results229 r d ⟨([]:List B9),_,_,r,(.nil _ _ _),hd⟩)))
 refine .P 6 r (.N 1 r (.ns 38 r (.S D0 BL .z r (.G 1 r ?_))));refine .ca call230 r (wD h hd:) λa7 a8 G H=>?_;obtain⟨a9,b0,b1,b2,b3,rfl,i,k,hd⟩:=H;have⟨J,h⟩:=G.u2 d h;refine .C 5 224 r (.drop .z (.B (.N 1 r (.ln BD r (.C 1 117440672 r (.E (.own0 CF 300 (.lx hd [25,24,7] [] r (λj E l (a,e)=>λc w=>∃ f g,j ⟨42,[],none⟩ (λI_=>True) ((5,.slice f a.length g) :: (26,vi e) :: E) (OwnSl CF 300 f g a :: l) c w) (λc w ho hs=>⟨_,_,jf rf tv [0] r ho hs⟩) ?_))))))));rintro⟨a,e⟩ R hd c w ⟨f,g,V,b,_,hok,hsym⟩;have⟨o,i,k⟩:=b.u3 J i k;refine Cod.at hok hsym (.F (.C 1 251658400 r (.B (.A r hd (λp hd=>?_) λp hd=>?_))))
 . refine .P 117440672 r (.B (.E (.N 1 r ?_)));have⟨K,m,q,W,o150,L,s,hd⟩:=i.ix hd;refine .W BD DD L K q r (.x 0 AJ s r (.C 2 117441440 r (.D (.G 4 r ?_))));have⟨N,n,t,X,o159,O,u,hd⟩:=k.ix hd;refine .W CA MO O N t r (.x 0 J6 u r (.bd LN uT uR r (.bs 1 DU DL LN r λY=>?_)));have⟨v,hd⟩:=hd;refine .ap (ys:=[({ At:=m,Val:=n }:B9)]) .p1 DU DU uQ r (.box .z (.one r) r) v λZ a2=>?_;exact .C 1 117440672 r (.drop .p1 (.D (.G 2 r (.H λc w ho hs=>⟨_,hd,_,_,jf b tv [0] r ho hs⟩))))
 refine .en 32 r (.F (.C 2 16 r (.pub .z λa3 x P=>?_)));have⟨y,T⟩:=x.u2 o b;exact .r1 results229 r y ⟨a,_,_,r,P,hd⟩
theorem eY {a0 a1 a2 Q} (R2:nQ I gb1 a0) (hd:VR a0 a1 a2 Q) :
  B6 prog 182 [.agg (LF a0 gb1),.agg #[vi a1.1,vi a1.2],.agg #[vi a2.1,vi a2.2]] I (At3 Q):=by
 refine Fun.ee func182 ntmps182 r ?_;refine .F (.bx r λd6=>?_);refine .bx r λd7=>?_;refine .bx r λd8=>?_;refine .al OZ r λd9=>?_;refine .ns 120 r (.S D0 BL .p3 r ?_);refine .ca call227 r (UU R2 hd:) λe0 a4 y a6=>?_;obtain⟨e1,b8,rfl,a,hd⟩:=a6;have R2:=y.u1 R2;refine .R BL .p3 r (.ns 120 r (.S isAgg97 fH .p2 r (.G 1 r (.I AJ .p3 r ?_))));refine .u call228 (nC (I:=a4) hd:) r λe2 hd=>?_;refine .C 5 488 r (.drop .p2 (.F (.S isAgg97 fH .p1 r (.G 1 r (.I AJ .p2 r ?_)))));refine .u call228 (nC (I:=a4) hd:) r λs hd=>?_;refine .C 5 1992 r (.drop .p1 (.F (.C 1 4040 r (.B (.F (.C 2 6442454984 r (.E (.own0 JJ 270 (.lx hd [31,10,9,8,7,6,3] [2,1] r (λj E l (i,d)=>λc w=>∃ k m,j ⟨74,[],none⟩ (λI_=>True) ((11,.slice k i.length m) :: (32,vi d) :: E) (OwnSl JJ 270 k m i :: l) c w) (λc w ho hs=>⟨_,_,jf rf tv [0,1,0] r ho hs⟩) ?_)))))))));rintro⟨i,d⟩ b3 hd c w ⟨k,m,b9,g,_,hok,hsym⟩;have⟨t,a⟩:=g.u2 y a;refine Cod.at hok hsym (.F (.C 1 15032389576 r (.B (.A r hd (λB hd=>?_) λB hd=>?_))))
 . refine .P 6442454984 r (.B (.E (.N 2 r (.ns 6442459080 r (.S D0 BL .p1 r (.G 3 r ?_))))));refine .ca call229 r (AnA a hd:) λc0 c1 D F=>?_;obtain⟨c2,c3,c4,rfl,e,hd⟩:=F;have⟨G,H,a⟩:=D.u3 t g a;refine .ln DU r (.C 1 3854733156296 r (.E (.lx hd [40,39,32,31,12,10,9,8,7,6,3] [1,1] r (λj E l (b,h)=>λc w=>∃ o p,j ⟨74,[],none⟩ (λI_=>True) ((11,.slice o b.length p) :: (41,vi h) :: E) (OwnSl JJ 270 o p b :: l) c w) (λc w ho hs=>⟨_,_,jf rf tv V9 r ho hs⟩) ?_)));rintro⟨b,h⟩ b4 hd c w ⟨o,p,c5,u,_,hok,hsym⟩;have⟨J,v,a,e⟩:=u.u4 G H a e;refine Cod.at hok hsym (.F (.C 1 8252779667400 r (.B (.A r hd (λK hd=>?_) λK hd=>?_))))
   . refine .P 3854733156296 r (.B (.E (.F ?_)));have⟨a9,f,L,c6,o570,b0,N,hd⟩:=e.ix hd;refine .W DU DL b0 a9 L r (.ldW UK DL N r r r r (.al LN r λc7=>?_));refine .R DL .z r (.M 3854733172680 r (.B (.jn hd [41,40,39,32,31,14,12,11,10,9,8,7,6,3] [2,2,1,0] r (λj E l A=>j ((56,.bool A) :: E) l) (λc8 hd=>?_) ?_)))
     . refine .D (.G 1 r (.I AJ .z r (.G 3 r (.T hd [48,49] r (λO hd=>?_) λO hd=>?_))))
       . exact .G 1 r (.O r (.I AJ .z r (.G 5 r (.H (je (decide ((A4 (f.At - s.1))<s.2)) hd rf [2,2,1,0] r)))))
       exact .G 7 r (.H (je false hd rf [2,2,1,0] r))
     refine λA hd=>jq r λc9 P=>?_;have⟨b5,b6,x,a,e⟩:=P.u5 J v u a e;refine .A r hd (λR hd=>?_) λR hd=>?_
     . refine .D (.G 3 r (.I AJ .p3 r (.G 3 r (.I J6 .p3 r (.bd cA underlying270 Ak3 r (.bs 1 NX SG cA r λd0=>?_))))));have⟨S,hd⟩:=hd;refine .ap (ys:=[({ Row:=d,Col:=A4 (f.At - s.1),Val:=f.Val }:A2)]) .p3 NX NX Ak2 r (.box .z (.one r) r) S λd1 d2=>?_;exact .C 1 3854733156296 r (.drop .p1 (.drop .p3 (.D (.G 2 r (.H λc w ho hs=>⟨_,hd,_,_,jf x tv V9 r ho hs⟩)))))
     exact .P 3854733156296 r (.drop .p3 (.D (.G 2 r (.H λc w ho hs=>⟨_,hd,_,_,jf x tv [2,0,0] r ho hs⟩))))
   exact .en 6442454984 r (.D (.G 2 r (.H λc w ho hs=>⟨_,hd,_,_,jf v tv V9 r ho hs⟩)))
 refine .en 3392 r (.drop .p1 (.N 3 r (.pub .z λd3 T q=>?_)));have⟨U,V⟩:=T.u2 t g;refine .ca call216 r (cR q hd:) λd4 d5 X Y=>?_;obtain⟨b1,Z,rfl,b2,hd⟩:=Y;have⟨a3,b7,q⟩:=X.u3 U V q;exact .R BL .z r (.M 64 r (.K (B7 r (.w D0 BL r .z r .n) a3 ⟨b1,Z,r,b2,hd⟩)))
theorem cT {a0 Q} (d:PI a0 Q) :
  B6 prog 146 [vi a0] I (λ_=>eO Q):=by
 refine Fun.ee func146 ntmps146 r (.N 1 r (.U 1 3 r (.T d [4,5] r (λa d=>?_) λa d=>?_)))
 . exact .C 4 4 r (.r0 results146 r ⟨(decide (a0<=8)),r,d⟩)
 exact .C 4 4 r (.r0 results146 r ⟨false,r,d⟩)
theorem Ai2 {a0 a1 Q} (hd:kP a0 a1 Q) :
  B6 prog 190 [vi a0,vi a1] I (λ_=>eO Q):=by
 refine Fun.ee func190 ntmps190 r ?_;refine .N 1 r (.U 3 3 r (.T hd [6,7] r (λa hd=>?_) λa hd=>?_))
 . refine .G 4 r (.T hd [9,10,11] r (λb hd=>?_) λb hd=>?_)
   . refine .G 1 r ?_;refine .O r (.AE call146 r (cT (I:=I) hd:) r r λf d=>?_);obtain⟨e,rfl,hd⟩:=d;exact .C 2 16 r (.r0 results190 r ⟨e,r,hd⟩)
   exact .C 4 16 r (.r0 results190 r ⟨false,r,hd⟩)
 exact .C 8 16 r (.r0 results190 r ⟨false,r,hd⟩)
theorem I7 {a0 a1 a2 Q} (d:IJ a0 a1 a2 Q) :
  B6 prog 144 [vi a0,vi a1,vi a2] I (λ_=>Z6 Q):=by
 refine Fun.ee func144 ntmps144 r (.F (.C 1 7 r (.B (.N 2 r (.u call190 (Ai2 (I:=I) d:) r λ_ d=>.C 1 1031 r (.A r d (λa d=>?_) λa d=>?_))))))
 . exact .F (.C 1 64 r (.r0 results144 r ⟨0,r,d⟩))
 refine .P 7 r (.N 1 r (.maxI r r r r (.G 1 r (.minI r r r r (.G 3 r ?_)))));have⟨b,d⟩:=d;exact .quo r r b r r (.C 1 64 r (.r0 results144 r ⟨(A4 ((A4 ((if a1<(if 0 > a2 then 0 else a2) then a1 else (if 0 > a2 then 0 else a2))*a0)).tdiv a1)),r,d⟩))
theorem IZ {a0 a1 a2 Q} (h:GP a0 a1 a2 Q) :
  B6 prog 183 [vi a0,vi a1,vi a2] I (λ_=>AxU Q):=by
 exact Fun.ee func183 ntmps183 r (.F (.al aI r λ_=>.U 71 3 r (.u call144 (I7 (I:=I) h:) r λc h=>.G 4 r (.u call144 (I7 (I:=I) h:) r λd h=>.ba aI S7 DD r (.R fH .z r (.M 64 r (.K (B7 r (.w isAgg97 fH r .z r .n) rf ⟨(c,d),r,h⟩))))))))
theorem AfD {a0 a1 a2 a3 a4 Q} (R2:nQ I gb1 a0) (hd:dO a0 a1 a2 a3 a4 Q) :
  B6 prog 141 [.agg (LF a0 gb1),vi a1,vi a2,vi a3,vi a4] I (At3 Q):=by
 refine Fun.ee func141 ntmps141 r ?_;refine .F (.bx r λT=>?_);refine .al OZ r λE=>?_;refine .M 1086 r (.B (.F (.S D0 BL .p1 r ?_)));refine .u call180 (WF R2 hd:) r λF hd=>?_;refine .G 2 r (.T hd [13,14] r (λe hd=>?_) λe hd=>?_)
 . refine .C 7 2098238 r (.L r r (.F (.bd OZ qN uP r (.ba aI S7 DD r (.ba aI S7 DD r ?_)))));refine .ca call182 r (eY (I:=I) (gb1:=((_,_),(_,_),(_,_))) (a0:=RY) ⟨(.nil _ none 0),(.nil _ none 0),(.nil _ none 0)⟩ hd:) λG H a g=>?_;obtain⟨x,i,rfl,y,hd⟩:=g;have R2:=a.u1 R2;exact .R BL .z r (.M 1024 r (.drop .p1 (.K (B7 r (.w D0 BL r .z r .n) a ⟨x,i,r,y,hd⟩))))
 refine .G 4 r ?_;refine .O r (.AE call181 r (ZD (I:=I) hd:) r r λJ k=>?_);obtain⟨K,rfl,hd⟩:=k;refine .C 2 2098238 r (.A r hd (λl hd=>?_) λl hd=>?_)
 . refine .F (.bd OZ qN uP r (.ba aI S7 DD r (.ba aI S7 DD r ?_)));refine .ca call182 r (eY (I:=I) (gb1:=((_,_),(_,_),(_,_))) (a0:=RY) ⟨(.nil _ none 0),(.nil _ none 0),(.nil _ none 0)⟩ hd:) λL N b o=>?_;obtain⟨A,p,rfl,B,hd⟩:=o;have R2:=b.u1 R2;exact .R BL .z r (.M 1024 r (.drop .p1 (.K (B7 r (.w D0 BL r .z r .n) b ⟨A,p,r,B,hd⟩))))
 refine .P 1086 r (.B (.dr [0,1,2,3,4,6,7,8,9,5,10,11] 12 (.h r (.S D0 BL .p1 r .mk) (.J 1 r (.V AJ 1 r (.J 3 r (.V AJ 1 r (.J 2 r (.Y r ?_)))))))));refine .u call183 (IZ (I:=I) hd:) r λO hd=>?_;refine .q 2 r (.Z 2 r r (.X r (.I AJ .p1 r .mk) (.Z 1 r r (.X r (.S D0 BL .p1 r .mk) tv)))) (.Y r ?_);refine .u call183 (IZ (I:=I) hd:) r λP hd=>?_;refine .q 2 r (.X r (.S D0 BL .p1 r .mk) tv) (.Y r ?_);refine .ca call182 r (eY R2 hd:) λR S c u=>?_;obtain⟨C,v,rfl,D,hd⟩:=u;have R2:=c.u1 R2;exact .q 2 r tv (.e2 12 (.R BL .z r (.M 1024 r (.drop .p1 (.K (B7 r (.w D0 BL r .z r .n) c ⟨C,v,r,D,hd⟩))))))
theorem qX {Q} (d:XF Q) :
  wV prog 184 [] I (λ_ v l=>∃ r p1 c2 p4 c5 p7 c8 p10 c11,v=.agg #[vi r.Rows,vi r.Cols,.slice p1 r.At.length c2,.slice p4 r.Start.length c5,.slice p7 r.Row.length c8,.slice p10 r.Val.length c11]∧l=[OwnSl AV 3 p1 c2 r.At,OwnSl AV 3 p4 c5 r.Start,OwnSl AV 3 p7 c8 r.Row,OwnSl AV 2 p10 c11 r.Val]∧Q r):=by
 exact Fun.ee func184 ntmps184 r (.F (.al uW r λ_=>.ns 1 r (.bs 1 BD DD nT r λ_=>.ownB (El:=AV) (ys:=([0]:List Int)) .z (.one r) r (.bd uW underlying189 AuU r (.R EG .p1 r (.M 1 r (.own0 AV 3 (.own0 AV 3 (.own0 AV 2 (.K (DX r (.w HI EG r .p4 r .n) rf (.o [2,2,1,0] r) ⟨({ Rows:=0,Cols:=0,At:=([]:List Int),Start:=([0]:List Int),Row:=([]:List Int),Val:=([]:List Int) }:BB),_,_,_,_,_,_,_,_,r,r,d⟩)))))))))))
theorem gO {a0 Q} (R2:nQ I gb1 a0) (hd:RF a0 Q) :
  wV prog 185 [.agg (LF a0 gb1)] I (λI_ v l=>∃ r p3 c4,v=.slice p3 r.length c4∧l=[OwnSl JJ 270 p3 c4 r]∧Q r):=by
 refine Fun.ee func185 ntmps185 r ?_;refine .F (.bx r λy=>?_);refine .G 1 r (.ns 2 r (.S D0 BL .z r ?_));refine .ca call227 r (UU R2 hd:) λO b5 s P=>?_;obtain⟨b6,Y,rfl,a,hd⟩:=P;have R2:=s.u1 R2;refine .R BL .z r (.U 2 1 r (.M 10 r (.B (.N 1 r (.I AJ .z r (.C 1 12298 r (.E (.own0 JJ 270 (.lx hd [12,1] [1] r (λj E l (e,b)=>λc w=>∃ f g,j ⟨42,[],none⟩ (λI_=>True) ((3,.slice f e.length g) :: (13,vi b) :: E) (OwnSl JJ 270 f g e :: l) c w) (λc w ho hs=>⟨_,_,jf rf tv MF r ho hs⟩) ?_)))))))));rintro⟨e,b⟩ V hd c w ⟨f,g,Z,o,_,hok,hsym⟩;have⟨p,a⟩:=o.u2 s a;refine Cod.at hok hsym (.F (.C 1 28682 r (.B (.A r hd (λx hd=>?_) λx hd=>?_))))
 . refine .P 12298 r (.B (.E (.N 2 r (.ns 12314 r (.S D0 BL .p1 r (.G 1 r ?_))))));refine .ca call230 r (wD a hd:) λa1 a2 A B=>?_;obtain⟨a3,a4,a5,a6,a7,rfl,h,i,hd⟩:=B;have⟨C,D,a⟩:=A.u3 p o a;refine .G 5 r (.U 12410 1 r (.ln BD r (.C 1 29372506 r (.E (.lx hd [23,22,13,12,6,4,1] [1] r (λj E l (d,k)=>λc w=>∃ m n,j ⟨42,[],none⟩ (λI_=>True) ((3,.slice m d.length n) :: (24,vi k) :: E) (OwnSl JJ 270 m n d :: l) c w) (λc w ho hs=>⟨_,_,jf rf tv MF r ho hs⟩) ?_)))));rintro⟨d,k⟩ W hd c w ⟨m,n,a8,q,_,hok,hsym⟩;have⟨X,F,a,h,i⟩:=q.u5 C D a h i;refine Cod.at hok hsym (.F (.C 1 62926938 r (.B (.A r hd (λG hd=>?_) λG hd=>?_))))
   . refine .P 29372506 r (.B (.E (.N 1 r ?_)));have⟨R,t,H,a9,o517,S,J,hd⟩:=h.ix hd;refine .W BD DD S R H r (.x 0 AJ J r (.C 2 29372890 r (.D (.G 5 r ?_))));have⟨T,u,K,b0,o526,U,L,hd⟩:=i.ix hd;refine .W CA MO U T K r (.x 0 J6 L r (.bd cA underlying270 Ak3 r (.bs 1 NX SG cA r λb1=>?_)));have⟨N,hd⟩:=hd;refine .ap (ys:=[({ Row:=b,Col:=t,Val:=u }:A2)]) .p1 NX NX Ak2 r (.box .z (.one r) r) N λb2 b3=>?_;exact .C 1 29372506 r (.drop .p1 (.D (.G 2 r (.H λc w ho hs=>⟨_,hd,_,_,jf q tv MF r ho hs⟩))))
   exact .en 12298 r (.D (.G 2 r (.H λc w ho hs=>⟨_,hd,_,_,jf F tv MF r ho hs⟩)))
 exact .en 8 r (.drop .p1 (.F (.C 2 4 r (.q1 results185 p [0] r ⟨e,_,_,r,r,hd⟩))))
theorem AfE {a0 a1 Q} (D:dP a0 a1 Q) :
  B6 prog 232 [.agg (oG a0).toArray,.agg (oG a1).toArray] I (λ_=>Z6 Q):=by
 refine Fun.ee func232 ntmps232 r (.F (.bx r λ_=>.bx r λ_=>.C 1 12 r (.B (.dr AuA 12 (.J 1 r (.V AJ 1 r (.J 1 r (.V AJ 0 r (.J 1 r (.V AJ 1 r (.J 1 r (.V AJ 0 r (.Y r ?_)))))))))))));refine .u call160 (DI (I:=I) D:) r λf D=>.q 2 r (.X r (.I AJ .z r .mk) (.Z 1 r r (.X r (.I AJ .p1 r .mk) (.Z 1 r r tv)))) (.Y r (.u call160 (DI (I:=I) D:) r λa D=>.q 2 r tv (.Y r (.bs 2 BD DD nT r λ_=>.q 3 r tv (.Y r (.pubB (El:=AV) (ys:=([f,a]:List Int)) (k:=2) .z (RepCs.cons (cs:=[vi f]) r (RepCs.cons (cs:=[vi a]) r .nil)) r λ_ d g=>?_))))));exact .u call136 (M7 g D:) r λh D=>.q 2 r tv (.e2 12 (.C 1 16 r (.drop .z (.drop .z (.r1 results232 r d ⟨h,r,D⟩)))))
theorem Ai3 {a0 Q} (R2:nQ I gb1 a0) (hd:kQ a0 Q) :
  B6 prog 186 [.agg (LF a0 gb1)] I (At3 Q):=by
 refine Fun.ee func186 ntmps186 r ?_;refine .F (.bx r λO=>?_);refine .al OZ r λV=>?_;refine .ns 6 r (.S D0 BL .p1 r ?_);refine .ca call227 r (UU R2 hd:) λX c3 t W=>?_;obtain⟨c4,a9,rfl,b,hd⟩:=W;have R2:=t.u1 R2;refine .R BL .p1 r (.ns 6 r (.S D0 BL .p1 r ?_));refine .AD call185 r (gO b hd:) r r λc5 c6 c7 Y Z=>?_;obtain⟨c8,c9,d0,rfl,rfl,hd⟩:=Z;have⟨a2,b⟩:=Y.u2 t b;refine .C 1 14 r (.B (.N 1 r (.ln NX r (.C 1 7182 r (.E (.lx hd [11,2,1] [2,1] r (λj E l (e,i)=>λc w=>∃ g h,j ⟨36,[],none⟩ (λI_=>True) ((3,.slice g e.length h) :: (10,.slice g e.length h) :: (12,vi i) :: E) (OwnSl JJ 270 g h e :: l) c w) (λc w ho hs=>⟨_,_,jf rf tv [0,1,0] r ho hs⟩) ?_))))));rintro⟨e,i⟩ a7 hd c w ⟨g,h,a3,k,_,hok,hsym⟩;have⟨A,b⟩:=k.u2 a2 b;refine Cod.at hok hsym (.F (.C 1 15374 r (.B (.A r hd (λB hd=>?_) λB hd=>?_))))
 . refine .P 7182 r (.B (.E (.N 1 r ?_)));have⟨u,d,m,hd⟩:=hd;refine .ownNe .z (DJ m) λb0 a4=>?_;cases a4;refine .v NX SG r r u (BF m u) r r (.loA (j:=0) isAgg270 SG .z m r r (.o 3 r) r r r (.al cA r λb1=>?_));refine .G 1 r (.R SG .z r (.M 7230 r (.D (.G 3 r (.I AJ .z r (.G 1 r (.I AJ .z r (.G 1 r (.I J6 .z r ?_)))))))));refine .bd cA underlying270 Ak3 r ?_;have⟨v,b2,q,hd⟩:=hd;exact .v NX SG r r v (BF q v) r r (.stOA (j:=0) (v':=({ Row:=d.Col,Col:=d.Row,Val:=d.Val }:A2)) SG .p1 q r r r (.o r) r r (.rl .p1 [3,10,17] r (by simp only[QV]) (.M 7182 r (.drop .z (.D (.G 2 r (.H λc w ho hs=>⟨_,hd,_,_,jf k tv V9 r ho hs⟩)))))))
 refine .en 14 r (.N 1 r ?_);have C:=Fun.sort (hk:=λ_=>⟨r,r⟩) Ay9 isAgg270 SG (λx y J Q hq=>AfE (I:=J) (a0:=x) (a1:=y) (Q:=Q) hq) call232 (I:=a3) (T:=270) (a:=g) (cap:=h) hd;refine .cS (.f call231 r) (.o [0] r) r C λb3 b4 b5 D F=>?_;obtain⟨b6,rfl,s,rfl,hd⟩:=F;have⟨G,H,b⟩:=D.u3 A k b;refine .rl .z [3,28] r (by rw[s]) (.U 14 1 r (.I AJ .p1 r (.G 1 r (.I AJ .p1 r (.G 1 r (.pub .z λb7 K p=>?_))))));have⟨L,N,b⟩:=K.u3 G H b;refine .ca call216 r (cR p hd:) λb8 c0 P R=>?_;obtain⟨a5,S,rfl,a6,hd⟩:=R;have⟨U,a8,b,p⟩:=P.u4 L N b p;exact .R BL .p1 r (.M 4 r (.drop .z (.K (B7 r (.w D0 BL r .z r .n) U ⟨a5,S,r,a6,hd⟩))))
theorem AnB {a0 Q} (R2:nQ I gb1 a0) (hd:rW a0 Q) :
  B6 prog 142 [.agg (LF a0 gb1)] I (AxV Q):=by
 refine Fun.ee func142 ntmps142 r ?_;refine .F (.bx r λb9=>?_);refine .al uW r λj6=>?_;refine .ns 6 r ?_;refine .AD call184 r (qX (I:=I) hd:) r r λj7 j8 j9 L d3=>?_;obtain⟨f6,k0,k1,k2,k3,k4,k5,k6,k7,rfl,rfl,hd⟩:=d3;have R2:=L.u1 R2;refine .al uW r λW=>?_;refine .R EG .z r (.M 14 r (.B (.F (.S D0 BL .p6 r ?_))));refine .u call180 (WF R2 hd:) r λk8 hd=>?_;refine .C 1 1038 r (.A r hd (λd5 hd=>?_) λd5 hd=>?_)
 . refine .F (.S HI EG .z r (.R EG .p5 r (.M 4 r (.drop .z (.drop .p5 (.pub .z λk9 d6 m=>?_))))));have d7:=d6.u1 L;refine .pub .z λl0 d8 K=>?_;have⟨d9,m⟩:=d8.u2 d7 m;refine .pub .z λl1 e0 X=>?_;have⟨e1,m,K⟩:=e0.u3 d9 m K;refine .pub .z λl2 e3 f7=>?_;have⟨e4,m,K,X⟩:=e3.u4 e1 m K X;exact .K (B7 r (.w HI EG r .z r .n) e4 ⟨f6,((_,_),(_,_),(_,_),(_,_)),r,⟨m,K,X,f7⟩,hd⟩)
 refine .P 14 r (.B (.dr AhZ 6 (.J 1 r (.V AJ 6 r (.J 1 r (.V AJ 6 r (.J 1 r (.Y r ?_))))))));refine .s1 DD .z r (.P 7 r r r (.X r (.I AJ .p6 r .mk) (.Z 1 r r tv)) (.e2 6 (.G 1 r (.s1 DD .z r (.M 14 r (.B (.F (.S D0 BL .p6 r ?_))))))));refine .ca call186 r (Ai3 R2 hd:) λg6 g7 a5 a6=>?_;obtain⟨g8,g1,rfl,N,hd⟩:=a6;have⟨a7,R2⟩:=a5.u2 L R2;refine .AD call185 r (gO N hd:) r r λg9 h0 h1 a9 b0=>?_;obtain⟨h2,h3,h4,rfl,rfl,hd⟩:=b0;have⟨b1,R2,N⟩:=a9.u3 a7 R2 N;refine .ln NX r (.C 1 7340044 r (.drop .p7 (.E (.lx hd [21,20,3,2] [6,0] r (λj E l (g,i,b,d,O)=>λc w=>∃ P R S T s t u v,j ⟨79,[],none⟩ (λI_=>True) ((22,vi O) :: E) (pc W #[vi a0.Rows,vi a0.Cols,.slice P g.length R,.slice S i.length T,.slice s b.length t,.slice u d.length v] 189 :: OwnSl AV 3 P R g :: OwnSl AV 3 S T i :: OwnSl AV 3 s t b :: OwnSl AV 2 u v d :: l) c w) (λc w ho hs=>⟨_,_,_,_,_,_,_,_,jf rf tv [1,1,1,1,1,1,0] r ho hs⟩) ?_))));rintro⟨g,i,b,d,O⟩ f5 hd c w ⟨P,R,S,T,s,t,u,v,h5,k,_,hok,hsym⟩;have x:=k.u1 b1;refine Cod.at hok hsym (.F (.C 1 15728652 r (.B (.A r hd (λb2 hd=>?_) λb2 hd=>?_))))
 . refine .P 7340044 r (.B (.E (.F ?_)));have⟨Y,a,y,hd⟩:=hd;refine .ownNe .p6 (DJ y) λh6 e5=>?_;cases e5;refine .v NX SG r r Y (BF y Y) r r (.loA (j:=0) isAgg270 SG .p6 y r r (.o 3 r) r r r (.al cA r λh7=>?_));refine .R SG .z r (.M 7340076 r (.B (.jx hd [22,21,20,5,3,2] [6,4,4,0,3] r (λj E l (e,p)=>λc w=>∃ A C U D,j ⟨79,[],none⟩ (λI_=>True) E (pc W #[vi a0.Rows,vi a0.Cols,.slice A e.length C,.slice U p.length D,.slice s b.length t,.slice u d.length v] 189 :: OwnSl AV 3 A C e :: OwnSl AV 3 U D p :: l) c w) (λh8 hd=>?_) ?_)))
   . refine .N 1 r (.I F9 .p1 r (.ln BD r (.C 1 7340140 r (.B (.jn hd [22,21,20,5,3,2] [6,1,1,1,1,1,0,0] r (λj E l Z=>j ((41,.bool Z) :: E) l) (λh9 hd=>?_) ?_)))))
     . refine .ownF .p2 λa1=>?_;refine .ownF .p3 λf8=>?_;refine .ownF .p4 λf9=>?_;refine .ownF .p5 λg0=>?_;refine .dr [0,1,2,3,4,5,6,7,8,9,10,11,12] 13 (.J 3 r ?_);refine CR hd (λF hd=>?_) λF hd=>?_
       . rw[F];exact .J 10 r (.e2 13 (.H (je true hd rf [6,1,1,1,1,1,0,0] r)))
       rw[F];refine .J 1 r (.h r (.O r (.I F9 .p1 r .mk)) (.J 2 r ?_));have⟨a2,e6,G,hd⟩:=hd;have⟨i0,e7⟩:=a1 (DJ G);cases e7;exact .h r (.O r (.v BD DD r r a2 (BF G a2) r r .mk)) (.h r (.O r (.lo1 (j:=0) AJ .p2 G r r r r r .mk)) (.J 1 r (.h r (.O r (.I AJ .z r .mk)) (.J 2 r (.e2 13 (.H (je (e6 != a.Row) hd rf [6,1,1,1,1,1,0,0] r)))))))
     refine λZ hd=>jq r λi1 H=>?_;have⟨g2,g3⟩:=H.u2 x k;refine .A r hd (λb3 hd=>?_) λb3 hd=>?_
     . refine .N 1 r (.I F9 .p1 r (.G 1 r (.I AJ .p6 r (.bs 1 BD DD nT r λi2=>?_))));have⟨b4,hd⟩:=hd;refine .ap (ys:=[a.Row]) .p3 BD BD IN3 r (.box .z (.one r) r) b4 λi3 i4=>?_;refine .G 1 r (.s1 AhD .p3 r (.M 7340076 r (.drop .p1 (.D (.G 1 r (.I F9 .p2 r (.bs 1 BD DD nT r λi5=>?_)))))));have⟨b5,hd⟩:=hd;refine .ap (ys:=[0]) .p4 BD BD IN3 r (.box .z (.one r) r) b5 λi6 i7=>?_;exact .G 1 r (.s1 AhD .p4 r (.H λc w ho hs=>⟨_,hd,_,_,_,_,jf H tv [4,2,0,1,1,1,1,1] r ho hs⟩))
     exact .AB λc w ho hs=>⟨_,hd,_,_,_,_,jf H tv [1,1,1,0,0,0,0,0] r ho hs⟩
   rintro⟨e,p⟩ hd c w ⟨A,C,U,D,i8,b6,_,hok,hsym⟩;have⟨g4,b7⟩:=b6.u2 x k;refine Cod.at hok hsym (.N 1 r (.I F9 .z r (.G 1 r (.I AJ .p6 r (.bs 1 BD DD nT r λi9=>?_)))));have⟨b8,hd⟩:=hd;refine .ap (ys:=[a.Col]) .p5 BD BD IN3 r (.box .z (.one r) r) b8 λe8 e9=>?_;refine .G 1 r (.s1 AhD .p2 r (.M 7340076 r (.drop .p1 (.N 1 r (.I FK .p1 r (.G 1 r (.I J6 .p6 r (.bs 1 CA MO zv2 r λj0=>?_))))))));have⟨c0,hd⟩:=hd;refine .ap (ys:=[a.Val]) .p6 CA CA IN2 r (.box .z (.one r) r) c0 λf0 f1=>?_;refine .G 1 r (.s1 sizeOf27 .p3 r (.M 7340044 r (.drop .p1 (.drop .p6 (.D (.G 1 r (.I F9 .p2 r (.G 1 r (.I F9 .p2 r ?_)))))))));refine .ln BD r (.G 1 r (.I F9 .p2 r (.ln BD r ?_)));have⟨a3,j1,J,hd⟩:=hd;refine .ownNe .p4 (DJ J) λf2 f3=>?_;cases f3;exact .v BD DD r r a3 (BF J a3) r r (.stO1 (j:=0) (v':=((b++([a.Col])).length:Int)) DD .p4 J r r r (.o r) r (.rl .p4 [69] r (by simp only[QV]) (.reat .p2 (B:=pc W #[vi a0.Rows,vi a0.Cols,.slice A e.length C,.slice (some ⟨f2,0,none⟩) (p.set ((e.length:Int).toNat) ((b++([a.Col])).length:Int)).length D,.slice e8 (b++([a.Col])).length e9,.slice f0 (d++([a.Val])).length f1] 189) (by simp only[QV]) (.M 7340044 r (.D (.G 2 r (.H λc w ho hs=>⟨_,hd,_,_,_,_,_,_,_,_,jf b7 tv [2,2,2,1,0,0,0] r ho hs⟩)))))))
 refine .en 12 r (.drop .p6 (.F (.S HI EG .z r (.R EG .p5 r (.M 4 r (.drop .z (.pub .z λj2 c1 f=>?_)))))));have⟨c2,c3⟩:=c1.u2 x k;refine .pub .z λj3 c4 q=>?_;have⟨c5,c6,f⟩:=c4.u3 c2 c3 f;refine .pub .z λj4 c7 V=>?_;have⟨c8,c9,f,q⟩:=c7.u4 c5 c6 f q;refine .pub .z λj5 d0 f4=>?_;have⟨d1,g5,f,q,V⟩:=d0.u5 c8 c9 f q V;exact .K (B7 r (.w HI EG r .z r .n) d1 ⟨({ a0 with At:=g,Start:=i,Row:=b,Val:=d }:BB),((_,_),(_,_),(_,_),(_,_)),r,⟨f,q,V,f4⟩,hd⟩)
theorem gP {a0 Q} (d:RG a0 Q) :
  B6 prog 90 [vi a0] I (λ_=>Z6 Q):=by
 exact Fun.ee func90 ntmps90 r (.N 1 r (.U 1 1 r (.maxI r r r r (.minI r r r r (.G 1 r (.shr' r r (by decide) r r (.C 1 4 r (.r0 results90 r ⟨(shr .i64 (A4 ((if 4096<(if 0 > a0 then 0 else a0) then 4096 else (if 0 > a0 then 0 else a0))+63)) 6),r,d⟩))))))))
theorem WG {a0 Q} (h:PJ a0 Q) :
  wV prog 56 [vi a0] I (λ_ v l=>∃ r p1 c2,v=.slice p1 r.length c2∧l=[OwnSl KF 85 p1 c2 r]∧Q r):=by
 exact Fun.ee func56 ntmps56 r (.N 1 r (.U 1 1 r (.u call90 (gP (I:=I) h:) r λb ⟨c,d,h⟩=>.make (El:=KF) (zv:=0) 8 aH AxD r r r r r r c d r r r λ_=>.C 1 4 r (.q1 results56 rf [0] r ⟨(List.replicate b.toNat 0),_,_,r,r,h⟩))))
theorem cU {a0 a1 Q} (h:RepSl KF I p1 c2 a0) (d:OD a0 a1 Q) :
  B6 prog 57 [.slice p1 a0.length c2,vi a1] I (λ_=>eO Q):=by
 refine Fun.ee func57 ntmps57 r (.N 1 r (.U 3 3 r (.T d [6,7] r (λa d=>?_) λa d=>?_)))
 . exact .G 1 r (.O r (.shr' r r (by decide) r r (.G 1 r (.O r (.ln aH r (.C 3 16 r (.r0 results57 r ⟨(decide ((shr .i64 a1 6)<(a0.length:Int))),r,d⟩)))))))
 exact .C 7 16 r (.r0 results57 r ⟨false,r,d⟩)
theorem qY {a0 Q} (d:XG a0 Q) :
  B6 prog 58 [vi a0] I (λ_=>o6_ Q):=by
 refine Fun.ee func58 ntmps58 r (.N 1 r (.U 1 1 r (.conv lY AlY r r r (.G 1 r ?_))));have⟨a,d⟩:=d;exact .shl' r r a r r (.C 1 4 r (.r0 results58 r ⟨(shl .u64 1 (TI .u64 (IntKind.wrap .u64 (a0)) 63)),r,d⟩))
theorem UV {a0 a1 Q} (R3:RepSl AV I p1 c2 a1) (hd:MQ a0 a1 Q) :
  B6 prog 27 [vi a0,.slice p1 a1.length c2] I (AxW Q):=by
 refine Fun.ee func27 ntmps27 r ?_;refine .N 1 r (.U 3 1 r ?_);refine .AD call56 r (WG (I:=I) hd:) r r λK b1 b2 q P=>?_;obtain⟨b3,b4,b5,rfl,rfl,hd⟩:=P;have R3:=q.u1 R3;refine .C 1 35 r (.B (.N 1 r (.ln BD r (.C 1 7201 r (.E (.lx hd [11,10,0] [] r (λj E l (a,d)=>λc w=>∃ e g,j ⟨35,[],none⟩ (λI_=>True) ((5,.slice e a.length g) :: (12,vi d) :: E) (OwnSl KF 85 e g a :: l) c w) (λc w ho hs=>⟨_,_,jf rf tv [0] r ho hs⟩) ?_))))));rintro⟨a,d⟩ Z hd c w ⟨e,g,R,i,_,hok,hsym⟩;have⟨m,R3⟩:=i.u2 q R3;refine Cod.at hok hsym (.F (.C 1 15393 r (.B (.A r hd (λy hd=>?_) λy hd=>?_))))
 . refine .P 7201 r (.B (.E (.F ?_)));have⟨S,T,A,a4,o176,U,B,hd⟩:=R3.ix hd;refine .W BD DD U S A r (.x 0 AJ B r (.C 1 7329 r (.B (.jn hd [12,11,10,7,5,0] [0] r (λj E l s=>j ((23,.bool s) :: E) l) (λa5 hd=>?_) ?_))))
   . refine .D (.G 4 r (.T hd [18,19] r (λC hd=>?_) λC hd=>?_))
     . refine .G 2 r ?_;have D:=λ(J:IH) (hJ:IH.le R J) (hL:SM J [OwnSl KF 85 e g a])=>cU (I:=J) (Al7 hL.1) hd;refine .O r (.callB (.f call57 r) (.o [0] r) D r r λa6 _ F=>?_);obtain⟨V,rfl,hd⟩:=F;exact .G 1 r (.H (je V hd rf [0] r))
     exact .G 4 r (.H (je false hd rf [0] r))
   refine λs hd=>jq r λW G=>?_;have⟨a2,n,R3⟩:=G.u3 m i R3;refine .A r hd (λH hd=>?_) λH hd=>?_
   . refine .ownF .z λt=>?_;refine .dr AuB 8 (.J 2 r (.h r (.shr' r r (by decide) r r .mk) ?_));have⟨k,u,b,hd⟩:=hd;have⟨a7,X⟩:=t (DJ b);cases X;refine .h r (.v aH MV r r k (BF b k) r r .mk) (.h r (.lo1 (j:=0) IA .z b r r r r r .mk) (.J 1 r (.Y r ?_)));refine .u call58 (qY (I:=W) hd:) r λv hd=>?_;refine .q 1 r (.X r (.lo1 (j:=0) IA .z b r r r r r .mk) (.X r (.v aH MV r r k (BF b k) r r .mk) (.X r (.shr' r r (by decide) r r .mk) (.Z 2 r r tv)))) (.J 1 r (.e2 8 ?_));have⟨x,a8,p,hd⟩:=hd;exact .v aH MV r r x (BF p x) r r (.stO1 (j:=0) (v':=(bor .u64 u v)) MV .z p r r r (.o r) r (.rl .z [5,24] r (by simp only[QV]) (.M 7201 r (.D (.G 2 r (.H λc w ho hs=>⟨_,hd,_,_,jf n tv [0] r ho hs⟩))))))
   exact .P 7201 r (.D (.G 2 r (.H λc w ho hs=>⟨_,hd,_,_,jf n tv [0] r ho hs⟩)))
 refine .en 32 r (.F (.C 2 16 r (.pub .z λa9 L Y=>?_)));have⟨N,a3⟩:=L.u2 m i;exact .r1 results27 r N ⟨a,_,_,r,Y,hd⟩
theorem AcK {a0 Q} (h:YL a0 Q) :
  B6 prog 61 [.int .u64 a0] I (λ_=>Z6 Q):=by
 refine Fun.ee func61 ntmps61 r (.F (.C 1 1 r (.scope (.F (.C 1 9 r (.B (.labelS 9 r r (.B (.E (.lp h [] [] r (λj E l (c,a)=>j ((0,.int .u64 c) :: (3,vi a) :: E) l) (ji rf [] r) ?_))))))))));rintro⟨c,a⟩ _ h;refine jq r λ_ b=>.E (.B (.F (.C 2 41 r (.A r h (λd h=>?_) λd h=>?_))))
 . exact .en 8 r (.F (.C 2 4 r (.r1 results61 r b ⟨a,r,h⟩)))
 exact .P 9 r (.F (.C 5 9 r (.D (.G 3 r (.H (je (TI .u64 c (IntKind.wrap .u64 (c - 1)),A4 (a+1)) h b [] r))))))
theorem gQ {a0 Q} (J:RepSl KF I p1 c2 a0) (h:RH a0 Q) :
  B6 prog 30 [.slice p1 a0.length c2] I (λ_=>Z6 Q):=by
 refine Fun.ee func30 ntmps30 r (.N 1 r (.U 1 1 r (.M 9 r (.B (.N 1 r (.ln aH r (.C 1 456 r (.E (.lp h [7,6] [] r (λj E l (b,c)=>j ((3,vi b) :: (8,vi c) :: E) l) (ji rf [] r) ?_)))))))));rintro⟨b,c⟩ _ h;refine jq r λi a=>?_;have J:=a.u1 J;refine .F (.C 1 968 r (.B (.A r h (λd h=>?_) λd h=>?_)))
 . refine .P 456 r (.B (.E (.F ?_)));have⟨k,_,e,_,_,m,f,h⟩:=J.ix h;exact .W aH MV m k e r (.x 0 IA f r (.C 1 488 r (.D (.G 2 r (.u call61 (AcK (I:=i) h:) r λn h=>.C 2 456 r (.D (.G 2 r (.H (je (A4 (b+n),A4 (c+1)) h a [] r)))))))))
 exact .en 8 r (.F (.C 2 4 r (.r1 results30 r a ⟨b,r,h⟩)))
theorem Y7 {a0 Q} (h:RepSl KF I p1 c2 a0) (D:L9 a0 Q) :
  Fun prog 236 #[.slice p1 a0.length c2] I [] (λd v l=>∃ r b4 p5 c6,v=.func (.func 269) #[] #[vp b4]∧RepSl KF d p5 c6 r∧l=[pc b4 #[.slice p5 r.length c6] 40]∧Q r):=by
 exact Fun.ee func236 ntmps236 r (.F (.box1 r r r r λb4=>.G 1 r (.ns 2 r (.mkFn r r r r (.C 1 4 r (.q1 results236 rf [0] r ⟨a0,_,_,_,r,h,r,D⟩))))))
theorem jE {o0 o1 o2 o3 Y Q} (hY:∀ {J_:IH},I.le J_->∀ {y11:Nat} {y12:Int} {y14:Int} {x16:Int} {Qy:(Bool×Nat×Int)->Prop},Y y11 y12 y14 x16 Qy->RFun prog lr [vi x16] J_ [Rr y11,pc b5 #[vi y12] 3,pc b6 #[vi y14] 3] (λI_ v l=>∃ r,v=.bool r.1∧l=[Rr r.2.1,pc b5 #[vi y12] 3,pc b6 #[vi r.2.2] 3]∧Qy r)) (R10:RepSl KF I p8 c9 o3) (hd:PK o0 o1 o2 o3 Y Q) :
  Fun prog 269 #[.func (.yield lr) #[] #[],vp b7] I [Rr o0,pc b5 #[vi o1] 3,pc b6 #[vi o2] 3,pc b7 #[.slice p8 o3.length c9] 40] (λI_ v l=>∃ r,v=.tuple #[]∧l=[Rr r.1,pc b5 #[vi o1] 3,pc b6 #[vi r.2] 3,pc b7 #[.slice p8 o3.length c9] 40]∧Q r):=by
 refine Fun.ee func269 ntmps269 r ?_;refine .F (.I QE .p3 r (.ln aH r (.C 1 451 r (.E (.lp hd [7,6,1,0] [1,2] r (λj E l (i,k,m)=>j ((8,vi k) :: E) (pc b6 #[vi i] 3 :: Rr m :: l)) (ji rf [2,0,0,0] r) ?_)))));rintro⟨i,k,m⟩ G hd;refine jq r λJ d=>?_;have R10:=d.u1 R10;refine .F (.C 1 963 r (.B (.A r hd (λp hd=>?_) λp hd=>?_)))
 . refine .P 451 r (.B (.E (.N 1 r ?_)));have⟨C,K,q,L,o211,D,s,hd⟩:=R10.ix hd;refine .W aH MV D C q r (.x 0 IA s r (.G 2 r (.U 475 1 r (.shl' r r (by decide) r r (.C 1 499 r (.E (.lp hd [8,7,6,1,0] [2,2] r (λj E l (a,e,b,c)=>j ((4,.int .u64 e) :: (5,vi b) :: E) (pc b6 #[vi a] 3 :: Rr c :: l)) (ji rf VA r) ?_)))))));rintro⟨a,e,b,c⟩ H hd;refine jq r λF f=>?_;have⟨g,R10⟩:=f.u2 d R10;refine .B (.F (.C 2 66035 r (.A r hd (λt hd=>?_) λt hd=>?_)))
   . refine .P 499 r (.B (.E (.N 4 r (.T hd [23,24] r (λu hd=>?_) λu hd=>?_))))
     . refine .G 2 r ?_;have w:=hY (J_:=F) g (y11:=c) (y12:=o1) (y14:=a) (x16:=b) hd;refine .O r (.callY r r (.o [1,1,0] r) w r r λN O P x y=>?_);obtain⟨h,rfl,rfl,hd⟩:=y;have⟨z,A,R10⟩:=x.u3 g f R10;refine .rn 4 r (.C 2 536871411 r (.A r hd (λB hd=>?_) λB hd=>?_))
       . exact .K (DX r .n z (.o VA r) ⟨(h.2.1,h.2.2),r,r,hd⟩)
       exact .P 499 r (.D (.G 1 r (.shr' r r (by decide) r r (.G 4 r (.H (je (h.2.2,shr .u64 e 1,A4 (b+1),h.2.1) hd A [2,0,0,0] r))))))
     exact .C 5 536871411 r (.j r r (.P 499 r (.D (.G 1 r (.shr' r r (by decide) r r (.G 4 r (.H (je (a,shr .u64 e 1,A4 (b+1),c) hd f VA r))))))))
   exact .en 451 r (.D (.G 2 r (.H (je (a,A4 (k+1),c) hd g VA r))))
 exact .exit (H3 r .n d (.o Ai0 r) ⟨(m,i),r,r,hd⟩)
theorem ZE {a0 a1 Q} (R3:RepSl KF I p1 c2 a0) (hd:PL a0 a1 Q) :
  B6 prog 335 [.slice p1 a0.length c2,vi a1] I (λ_=>Z6 Q):=by
 refine Fun.en func335 ntmps335 r λw0 M=>?_;refine .marks0 (.F (.box1 r r r r λA=>?_));refine .alloc1 nT r r r λl=>?_;refine .M 25 r (.B (.N 1 r ?_));refine .cS (.f call236 r) .n r (Y7 R3 hd:) λB m C b g=>?_;obtain⟨p,q,t,u,rfl,a,rfl,hd⟩:=g;have R3:=b.u1 R3;refine .rn 4 r (.M 152 r (.E (.rangeF [.ret] r call269 (.o [3,2,1,0] r) λlr D rc hrc=>?_)));refine⟨_,jE (I:=m) (lr:=lr) (Rr:=fD lr [.ret] rc) (o0:=0) (o1:=a1) (o2:=0) (o3:=p) (b5:=A) (b6:=l) (b7:=q) (p8:=t) (c9:=u) ?_ a hd,?_⟩
 . intro I hJ E F v x Qy  hd
   replace a:=hJ.u1 a
   obtain⟨rfl,hd⟩:=hd;refine RFun.mk hrc r λw0 M=>?_;refine .D (.G 1 r (.H λc w ho hs=>tD (E':=[(3,_),(4,_),(5,_)]) ho ⟨r,r,r,tv⟩ hs .z (.E (.N 1 r (.I AJ .p1 r (.C 1 2096 r (.A r hd (λh hd=>?_) λh hd=>?_)))))))
   . refine .N 1 r (.s1 DD .p2 r (.M 0 r ?_));exact .K λc w ho hs=>AgI (js:=[.ret]) 1 (.inr rfl) rf .z (.o MF rfl) ⟨(false,1,x),rfl,rfl,hd⟩ hs
   exact .AB λc w ho hs=>AgI 0 (.inl rfl) rf .z (.o MF rfl) ⟨(true,0,v),rfl,rfl,hd⟩ hs
 intro G H l' j k;obtain⟨y,rfl,rfl,hd⟩:=k;have⟨d,a⟩:=j.u2 b a;refine⟨_,_,r,λhj=>?_,λi hj=>?_⟩
 . have hd:=hd.1 (decide_eq_true hj);exact .rn 4 r (.mkS 16 r r (.drop .p1 (.drop .p2 (.F (.s1 DD .p1 r (.M 16 r (.K (yP .z results335 (.s AJ r .z .n) d ⟨(-1),r,hd⟩))))))))
 have⟨hz,hd⟩:=hd.2 (decide_eq_false (by omega));obtain rfl:i=0:=by omega
 refine⟨_,r,?_⟩;exact .rn 4 r (.K (yP .z results335 (.s AJ r .p1 .n) d ⟨y.2,r,hd⟩))
theorem gR {a0 a1 Q} (R3:RepSl KF I p1 c2 a0) (hd:RJ a0 a1 Q) :
  B6 prog 308 [.slice p1 a0.length c2,vi a1] I (λ_=>eO Q):=by
 refine Fun.ee func308 ntmps308 r ?_;refine .N 1 r (.U 3 3 r (.T hd [6,7] r (λd hd=>?_) λd hd=>?_))
 . refine .G 4 r (.T hd [9,10,11] r (λe hd=>?_) λe hd=>?_)
   . refine .G 1 r (.O r (.ln aH r (.G 1 r ?_)));refine .O r (.AE call90 r (gP (I:=I) hd:) r r λj g=>?_);obtain⟨k,rfl,hd⟩:=g;refine .G 3 r (.T hd [16,17,18] r (λa hd=>?_) λa hd=>?_)
     . refine .G 2 r ?_;refine .O r (.AE call335 r (ZE R3 hd:) r r λi c=>?_);obtain⟨h,rfl,hd⟩:=c;exact .C 3 16 r (.r0 results308 r ⟨(decide (h<0)),r,hd⟩)
     exact .C 6 16 r (.r0 results308 r ⟨false,r,hd⟩)
   exact .C 13 16 r (.r0 results308 r ⟨false,r,hd⟩)
 exact .C 17 16 r (.r0 results308 r ⟨false,r,hd⟩)
theorem Ai4 {a0 a1 Q} (R3:RepSl AV I p1 c2 a0.Draws) (R5:iE I gg4 a1) (hd:tK a0 a1 Q) :
  B6 prog 266 [.agg (M9 a0 p1 c2),.agg (GW a1 gg4)] I (λ_=>eO Q):=by
 refine Fun.ee func266 ntmps266 r ?_;refine .F (.bx r λk=>?_);refine .bx r λl=>?_;refine .C 1 12 r (.B (.F (.S QF QD .p1 r ?_)));refine .u call164 (ZC R3 hd:) r λm hd=>?_;refine .G 2 r (.T hd [8,9] r (λb hd=>?_) λb hd=>?_)
 . exact .C 18 134217736 r (.drop .p1 (.L r r (.F (.C 1 16 r (.drop .z (.r0 results266 r ⟨false,r,hd⟩))))))
 refine .G 1 r (.O r (.I AJ .z r (.G 3 r (.T hd [12,13,14] r (λc hd=>?_) λc hd=>?_))))
 . exact .C 13 134217736 r (.drop .p1 (.L r r (.F (.C 1 16 r (.drop .z (.r0 results266 r ⟨false,r,hd⟩))))))
 refine .G 1 r (.O r (.I AJ .z r (.G 1 r (.O r (.I AJ .z r (.G 3 r (.T hd [19,20,21] r (λd hd=>?_) λd hd=>?_)))))))
 . exact .C 6 134217736 r (.drop .p1 (.L r r (.F (.C 1 16 r (.drop .z (.r0 results266 r ⟨false,r,hd⟩))))))
 refine .G 1 r (.O r (.I AJ .z r (.G 1 r (.O r (.I AJ .p1 r (.C 2 134217736 r (.drop .p1 (.A r hd (λe hd=>?_) λe hd=>?_))))))))
 . exact .F (.C 1 16 r (.drop .z (.r0 results266 r ⟨false,r,hd⟩)))
 refine .P 8 r (.N 1 r (.I AJ .z r (.G 1 r (.I AJ .z r (.G 2 r (.U 40 1 r (.I FK .z r (.ln CA r (.G 3 r ?_)))))))));refine .T hd [37,38] r (λf hd=>?_) λf hd=>?_
 . refine .G 1 r (.O r (.I FK .z r (.O r (.ln CA r (.G 4 r (.T hd [43,44,45] r (λg hd=>?_) λg hd=>?_))))))
   . refine .G 1 r (.O r (.I QE .z r (.G 1 r ?_)));refine .O r (.AE call308 r (gR R5.2.2 hd:) r r λn i=>?_);obtain⟨j,rfl,hd⟩:=i;exact .C 2 16 r (.drop .z (.r0 results266 r ⟨j,r,hd⟩))
   exact .C 6 16 r (.drop .z (.r0 results266 r ⟨false,r,hd⟩))
 exact .C 13 16 r (.drop .z (.r0 results266 r ⟨false,r,hd⟩))
theorem WH {a0 a1 Q} (O:RepSl AV I p1 c2 a0.Draws) (h:iE I gg4 a1) (d:PM a0 a1 Q) :
  B6 prog 233 [.agg (M9 a0 p1 c2),.agg (GW a1 gg4)] I (λJ v=>∃ r D,v=.agg (GW r D)∧iE J D r∧Q r):=by
 refine Fun.ee func233 ntmps233 r (.F (.bx r λ_=>.bx r λ_=>.al O4 r λ_=>.M 28 r (.B (.F (.S QF QD .p2 r (.S JY DH .p1 r (.u call266 (Ai4 O h d:) r λ_ d=>.M 152 r (.drop .p2 (.A r d (λb d=>?_) λb d=>?_)))))))))
 . exact .F (.S JY DH .p1 r (.R DH .z r (.M 16 r (.drop .p1 (.K (B7 r (.w JY DH r .z r .n) rf ⟨a1,gg4,r,h,d⟩))))))
 exact .P 16 r (.drop .p1 (.F (.bd O4 fF lV r (.R DH .z r (.M 16 r (.K (B7 r (.w JY DH r .z r .n) rf ⟨G3,((_,_),(_,_),(_,_)),r,⟨(.nil _ _ _),(.nil _ _ _),(.nil _ _ _)⟩,d⟩)))))))
theorem AfF {a0 a1 a2 Q} (R3:RepSl AV I p1 c2 a0.Draws) (R5:iE I gg4 a1) (hd:dQ a0 a1 a2 Q) :
  B6 prog 191 [.agg (M9 a0 p1 c2),.agg (GW a1 gg4),vi a2] I (λ_=>Z6 Q):=by
 refine Fun.ee func191 ntmps191 r ?_;refine .F (.bx r λB=>?_);refine .bx r λC=>?_;refine .G 1 r (.ns 28 r (.S QF QD .p1 r (.S JY DH .z r ?_)));refine .ca call233 r (WH R3 R5 hd:) λD F a g=>?_;obtain⟨G,A,rfl,b,hd⟩:=g;have⟨R3,R5⟩:=a.u2 R3 R5;refine .R DH .z r (.M 28 r (.B (.N 1 r (.I fI .p1 r (.M 16412 r (.E (.F (.C 2 49180 r (.A r hd (λh hd=>?_) λh hd=>?_)))))))))
 . refine .N 2 r (.I AJ .p1 r (.C 1 1048592 r (.drop .p1 (.A r hd (λi hd=>?_) λi hd=>?_))))
   . exact .F (.C 1 64 r (.drop .z (.r1 results191 r a ⟨0,r,hd⟩)))
   refine .P 16 r (.N 1 r (.I QE .z r ?_));refine .u call30 (gQ b.2.2 hd:) r λu hd=>?_;exact .C 1 64 r (.drop .z (.r1 results191 r a ⟨u,r,hd⟩))
 refine .F (.C 2 2097168 r (.drop .p1 (.A r hd (λm hd=>?_) λm hd=>?_)))
 . refine .F (.C 1 144 r (.B (.N 1 r (.I FK .z r (.ln CA r (.C 1 117440640 r (.drop .z (.E (.lp hd [25,24] [] r (λj E l (c,e)=>j ((7,vi c) :: (26,vi e) :: E) l) (ji rf [] r) ?_)))))))));rintro⟨c,e⟩ v hd;refine jq r λH d=>?_;have⟨n,b⟩:=d.u2 a b;refine .F (.C 1 251658368 r (.B (.A r hd (λo hd=>?_) λo hd=>?_)))
   . refine .P 117440640 r (.B (.E (.F ?_)));have⟨w,J,p,K,o81,x,q,hd⟩:=b.1.ix hd;refine .W CA MO x w p r (.x 0 J6 q r (.G 1 r (.U 117441152 2 r (.M 2264924288 r (.A r hd (λs hd=>?_) λs hd=>?_)))))
     . exact .D (.C 3 117440640 r (.D (.G 2 r (.H (je (A4 (c+1),A4 (e+1)) hd d [] r)))))
     exact .P 117440640 r (.D (.G 2 r (.H (je (c,A4 (e+1)) hd d [] r))))
   exact .en 128 r (.F (.C 2 64 r (.r1 results191 r n ⟨c,r,hd⟩)))
 refine .P 16 r (.N 1 r (.I QE .z r ?_));refine .u call30 (gQ b.2.2 hd:) r λy hd=>?_;exact .C 1 64 r (.drop .z (.r1 results191 r a ⟨y,r,hd⟩))
theorem AcL {a0 a1 a2 Q} (h:iI a0 a1 a2 Q) :
  B6 prog 267 [vi a0,vi a1,vi a2] I (λ_=>Z6 Q):=by
 refine Fun.ee func267 ntmps267 r (.F (.C 1 7 r (.B (.N 1 r (.u call146 (cT (I:=I) h:) r λ_ h=>.G 2 r (.T h [9,10] r (λb h=>?_) λb h=>?_))))))
 . exact .C 16 67108871 r (.L r r (.F (.C 1 64 r (.r0 results267 r ⟨(-1),r,h⟩))))
 refine .G 4 r (.T h [12,13,14] r (λc h=>?_) λc h=>?_)
 . exact .C 12 67108871 r (.L r r (.F (.C 1 64 r (.r0 results267 r ⟨(-1),r,h⟩))))
 refine .G 4 r (.T h [16,17,18] r (λd h=>?_) λd h=>?_)
 . exact .C 8 67108871 r (.L r r (.F (.C 1 64 r (.r0 results267 r ⟨(-1),r,h⟩))))
 refine .G 4 r (.T h [20,21,22] r (λe h=>?_) λe h=>?_)
 . exact .C 4 67108871 r (.L r r (.F (.C 1 64 r (.r0 results267 r ⟨(-1),r,h⟩))))
 refine .C 4 67108871 r (.A r h (λf h=>?_) λf h=>?_)
 . exact .F (.C 1 64 r (.r0 results267 r ⟨(-1),r,h⟩))
 exact .P 7 r (.F (.C 6 64 r (.r0 results267 r ⟨(A4 ((A4 (a1*a0))+a2)),r,h⟩)))
theorem jF {a0 a1 Q} (h:XH a0 a1 Q) :
  B6 prog 110 [vi a0,vi a1] I (λ_=>Z6 Q):=by
 refine Fun.ee func110 ntmps110 r (.F (.C 1 3 r (.B (.N 1 r (.u call146 (cT (I:=I) h:) r λ_ h=>.G 2 r (.T h [7,8] r (λb h=>?_) λb h=>?_))))))
 . exact .C 9 131075 r (.L r r (.F (.C 1 16 r (.r0 results110 r ⟨(-1),r,h⟩))))
 refine .G 4 r (.T h [10,11,12] r (λc h=>?_) λc h=>?_)
 . exact .C 5 131075 r (.L r r (.F (.C 1 16 r (.r0 results110 r ⟨(-1),r,h⟩))))
 refine .C 5 131075 r (.A r h (λd h=>?_) λd h=>?_)
 . exact .F (.C 1 16 r (.r0 results110 r ⟨(-1),r,h⟩))
 refine .P 3 r (.N 2 r ?_);have⟨e,h⟩:=h;exact .quo r r e r r (.C 1 16 r (.r0 results110 r ⟨(A4 (a1.tdiv a0)),r,h⟩))
theorem ZF {a0 a1 Q} (d:TX a0 a1 Q) :
  B6 prog 111 [vi a0,vi a1] I (λ_=>Z6 Q):=by
 refine Fun.ee func111 ntmps111 r (.F (.C 1 3 r (.B (.N 2 r (.u call110 (jF (I:=I) d:) r λ_ d=>.C 1 259 r (.A r d (λb d=>?_) λb d=>?_))))))
 . exact .F (.C 1 16 r (.r0 results111 r ⟨(-1),r,d⟩))
 refine .P 3 r (.N 2 r ?_);have⟨c,d⟩:=d;exact .rem r r c r r (.C 1 16 r (.r0 results111 r ⟨(a1.tmod a0),r,d⟩))
theorem GH {a0 Q} (D:RepSl KF I p1 c2 a0) (h:C0 a0 Q) :
  B6 prog 120 [.slice p1 a0.length c2] I (AxW Q):=by
 refine Fun.ee func120 ntmps120 r (.F (.C 1 1 r (.B (.N 1 r (.eqNilS aH r r r r (.M 17 r ?_))))));refine split p1.isNone (λa=>?_) (λa=>?_)
 . have h:=h.1 (RepSl.ofNone D a);exact .L r a (.F (.C 1 4 r (.r0 results120 r ⟨([]:List Int),_,_,r,(.nil _ _ _),h⟩)))
 have h:=h.2;refine .j r a (.P 1 r (.F (.bs 0 aH MV zeroValue85 r λ_=>.G 1 r (.ownB (El:=KF) (ys:=([]:List Int)) .z .nil r ?_))));have⟨b,h⟩:=h;exact .ap (ys:=a0) .z aH aH AxD r (.imm D r) b λ_ _=>.C 1 4 r (.pub .z λ_ c d=>.r1 results120 r c ⟨(([]:List Int)++a0),_,_,r,d,h⟩)
theorem jG {o0 o1 o2 Y Q} (hY:∀ {J_:IH},I.le J_->∀ {y13:Nat} {y14:List Int} {x20:Int} {p16:Option Addr} {c17:Nat} {Qy:(Bool×Nat×(List Int))->Prop},Y y13 y14 x20 Qy->RFun prog lr [vi x20] J_ [Rr y13,pc b4 #[.slice p16 y14.length c17] 30,OwnSl AV 3 p16 c17 y14] (λI_ v l=>∃ r p22 c23,v=.bool r.1∧l=[Rr r.2.1,pc b4 #[.slice p22 r.2.2.length c23] 30,OwnSl AV 3 p22 c23 r.2.2]∧Qy r)) (R12:RepSl KF I p10 c11 o2) (hd:PN o0 o1 o2 Y Q) :
  Fun prog 269 #[.func (.yield lr) #[] #[],vp b9] I [Rr o0,pc b4 #[.slice p5 o1.length c6] 30,OwnSl AV 3 p5 c6 o1,pc b9 #[.slice p10 o2.length c11] 40] (λI_ v l=>∃ r p14 c15,v=.tuple #[]∧l=[Rr r.1,pc b4 #[.slice p14 r.2.length c15] 30,OwnSl AV 3 p14 c15 r.2,pc b9 #[.slice p10 o2.length c11] 40]∧Q r):=by
 refine Fun.ee func269 ntmps269 r ?_;refine .F (.I QE .p3 r (.ln aH r (.C 1 451 r (.E (.lx hd [7,6,1,0] [3] r (λj E l (e,q,s)=>λc w=>∃ t u,j ⟨31,[],none⟩ (λI_=>True) ((8,vi q) :: E) (pc b4 #[.slice t e.length u] 30 :: OwnSl AV 3 t u e :: Rr s :: l) c w) (λc w ho hs=>⟨_,_,jf rf tv Ai0 r ho hs⟩) ?_)))));rintro⟨e,q,s⟩ O hd c w ⟨t,u,R,f,_,hok,hsym⟩;have R12:=f.u1 R12;refine Cod.at hok hsym (.F (.C 1 963 r (.B (.A r hd (λx hd=>?_) λx hd=>?_))))
 . refine .P 451 r (.B (.E (.N 1 r ?_)));have⟨K,S,y,T,o275,L,z,hd⟩:=R12.ix hd;refine .W aH MV L K y r (.x 0 IA z r (.G 2 r (.U 475 1 r (.shl' r r (by decide) r r (.C 1 499 r (.E (.lx hd [8,7,6,1,0] [3] r (λj E l (a,g,b,d)=>λc w=>∃ h i,j ⟨31,[],none⟩ (λI_=>True) ((4,.int .u64 g) :: (5,vi b) :: E) (pc b4 #[.slice h a.length i] 30 :: OwnSl AV 3 h i a :: Rr d :: l) c w) (λc w ho hs=>⟨_,_,jf rf tv VA r ho hs⟩) ?_)))))));rintro⟨a,g,b,d⟩ P hd c w ⟨h,i,N,k,_,hok,hsym⟩;have⟨m,R12⟩:=k.u2 f R12;refine Cod.at hok hsym (.B (.F (.C 2 66035 r (.A r hd (λA hd=>?_) λA hd=>?_))))
   . refine .P 499 r (.B (.E (.N 4 r (.T hd [23,24] r (λB hd=>?_) λB hd=>?_))))
     . refine .G 2 r ?_;have C:=hY (J_:=N) m (y13:=d) (y14:=a) (x20:=b) (p16:=h) (c17:=i) hd;refine .O r (.callY r r (.o [2,0,0] r) C r r λU V W D F=>?_);obtain⟨p,X,Z,rfl,rfl,hd⟩:=F;have⟨G,H,R12⟩:=D.u3 m k R12;refine .rn 4 r (.C 2 536871411 r (.A r hd (λJ hd=>?_) λJ hd=>?_))
       . exact .K (DX r .n G (.o VA r) ⟨(p.2.1,p.2.2),_,_,r,r,hd⟩)
       exact .P 499 r (.D (.G 1 r (.shr' r r (by decide) r r (.G 4 r (.H λc w ho hs=>⟨_,hd,_,_,jf H tv Ai0 r ho hs⟩)))))
     exact .C 5 536871411 r (.j r r (.P 499 r (.D (.G 1 r (.shr' r r (by decide) r r (.G 4 r (.H λc w ho hs=>⟨_,hd,_,_,jf k tv VA r ho hs⟩)))))))
   exact .en 451 r (.D (.G 2 r (.H λc w ho hs=>⟨_,hd,_,_,jf m tv VA r ho hs⟩)))
 exact .exit (H3 r .n f (.o [2,0,0,0] r) ⟨(s,e),_,_,r,r,hd⟩)
theorem QL {o0 Q} (R5:RepSl KF I p3 c4 o0) (hd:GF o0 Q) :
  Fun prog 268 #[.slice none 0 0,.func (.func 269) #[] #[vp b2]] I [pc b2 #[.slice p3 o0.length c4] 40] (λI_ v l=>∃ r p6 c7,v=.slice p6 r.length c7∧RepSl AV I_ p6 c7 r∧l=[pc b2 #[.slice p3 o0.length c4] 40]∧Q r):=by
 refine Fun.en func268 ntmps268 r λw0 M=>?_;refine .marks0 (.F (.box1 r r r r λm=>?_));refine .C 1 6 r (.B (.F (.C 1 70 r (.E (.own0 AV 3 (.rangeF [] r call269 (.o [2,1,0,0] r) λlr D rc hrc=>?_))))));refine⟨_,jG (I:=I) (lr:=lr) (Rr:=fD lr [] rc) (o0:=0) (o1:=([]:List Int)) (o2:=o0) (b4:=m) (p5:=none) (c6:=0) (b9:=b2) (p10:=p3) (c11:=c4) ?_ R5 hd,?_⟩
 . intro I hJ p h b q s Qy  hd
   replace R5:=hJ.u1 R5
   obtain⟨rfl,hd⟩:=hd;refine RFun.mk hrc r λw0 M=>?_;refine .D (.G 1 r (.H λc w ho hs=>tD (E':=[(2,_),(5,_)]) ho ⟨r,r,tv⟩ hs .z (.E (.D (.I F9 .p1 r (.G 1 r (.bs 1 BD DD nT r λu=>?_)))))));have⟨d,hd⟩:=hd;refine .ap (ys:=[b]) .p3 BD BD IN3 r (.box .z (.one r) r) d λx y=>?_;refine .s1 AhD .p3 r ?_;exact .H λc w ho hs=>AgI 0 (.inl rfl) rf .p2 (.o [2,0] rfl) ⟨(true,0,(h++([b]))),_,_,rfl,rfl,hd⟩ hs
 intro A B l' a e;obtain⟨j,C,E,rfl,rfl,hd⟩:=e;have R5:=a.u1 R5;have⟨hz,hd⟩:=hd;refine⟨_,_,r,λhj=>?_,λi hj=>absurd (hz.symm.trans hj) (by simp)⟩;refine .rn 4 r (.mkS 6 r r (.F (.I F9 .p1 r (.C 1 18 r (.drop .p1 (.pub .p1 λF f k=>?_))))));have⟨g,R5⟩:=f.u2 a R5;exact .K (AuM .z results268 (.t r .n) g (.o [0] r) ⟨j.2,_,_,r,k,r,hd⟩)
theorem WZ {o0 Q} (R5:RepSl KF I p3 c4 o0) (hd:JO o0 Q) :
  Fun prog 235 #[.func (.func 269) #[] #[vp b2]] I [pc b2 #[.slice p3 o0.length c4] 40] (λI_ v l=>∃ r p6 c7,v=.slice p6 r.length c7∧RepSl AV I_ p6 c7 r∧l=[pc b2 #[.slice p3 o0.length c4] 40]∧Q r):=by
 refine Fun.ee func235 ntmps235 r ?_;refine .N 1 r (.U 1 1 r ?_);refine .cS (.f call268 r) (.o [0] r) r (QL (b2:=b2) R5 hd:) λg k h a c=>?_;obtain⟨d,i,j,rfl,e,rfl,hd⟩:=c;have R5:=a.u1 R5;exact .rn 1 r (.C 1 5 r (.q1 results235 a [0] r ⟨d,_,_,r,e,r,hd⟩))
theorem AcM {a0 Q} (R3:RepSl KF I p1 c2 a0) (hd:YM a0 Q) :
  B6 prog 194 [.slice p1 a0.length c2] I (o3_ Q):=by
 refine Fun.ee func194 ntmps194 r ?_;refine .N 1 r (.U 1 1 r ?_);refine .cS (.f call236 r) .n r (Y7 R3 hd:) λm A p b c=>?_;obtain⟨q,j,s,t,rfl,a,rfl,hd⟩:=c;have R3:=b.u1 R3;refine .rn 1 r ?_;refine .cS (.f call235 r) (.o [0] r) r (WZ (b2:=j) a hd:) λu v w e g=>?_;obtain⟨k,x,y,rfl,l,rfl,hd⟩:=g;have⟨h,R3,a⟩:=e.u3 b R3 a;exact .rn 1 r (.C 1 4 r (.drop .z (.r1 results194 r h ⟨k,_,_,r,l,hd⟩)))
theorem BP {a0 Q} (h:RepSl CF I p1 c2 a0) (d:B3 a0 Q) :
  wV prog 237 [.slice p1 a0.length c2] I (λ_ v l=>∃ r p4 c5,v=.slice p4 r.length c5∧l=[OwnSl CF 300 p4 c5 r]∧Q r):=by
 refine Fun.ee func237 ntmps237 r (.F (.C 1 1 r (.B (.N 1 r (.eqNilS DU r r r r (.M 17 r ?_))))));refine split p1.isNone (λa=>?_) (λa=>?_)
 . have d:=d.1 (RepSl.ofNone h a);exact .L r a (.F (.C 1 4 r (.own0 CF 300 (.q1 results237 rf [0] r ⟨([]:List B9),_,_,r,r,d⟩))))
 have d:=d.2;refine .j r a (.P 1 r (.F (.bs 0 DU DL LN r λ_=>.G 1 r (.ownB (El:=CF) (ys:=([]:List B9)) .z .nil r ?_))));have⟨b,d⟩:=d;exact .ap (ys:=a0) .z DU DU uQ r (.imm h r) b λ_ _=>.C 1 4 r (.q1 results237 rf [0] r ⟨(([]:List B9)++a0),_,_,r,r,d⟩)
theorem J0 {a0 Q} (D:RepSl EV I p1 c2 a0) (h:D9 a0 Q) :
  B6 prog 238 [.slice p1 a0.length c2] I (λJ v=>∃ r p4 c5,v=.slice p4 r.length c5∧RepSl EV J p4 c5 r∧Q r):=by
 refine Fun.ee func238 ntmps238 r (.F (.C 1 1 r (.B (.N 1 r (.eqNilS EK r r r r (.M 17 r ?_))))));refine split p1.isNone (λa=>?_) (λa=>?_)
 . have h:=h.1 (RepSl.ofNone D a);exact .L r a (.F (.C 1 4 r (.r0 results238 r ⟨([]:List BM),_,_,r,(.nil _ _ _),h⟩)))
 have h:=h.2;refine .j r a (.P 1 r (.F (.bs 0 EK FH gI r λ_=>.G 1 r (.ownB (El:=EV) (ys:=([]:List BM)) .z .nil r ?_))));have⟨b,h⟩:=h;exact .ap (ys:=a0) .z EK EK AeF r (.imm D r) b λ_ _=>.C 1 4 r (.pub .z λ_ c d=>.r1 results238 r c ⟨(([]:List BM)++a0),_,_,r,d,h⟩)
theorem AcN {a0 Q} (R2:rT I gh1 a0) (hd:YN a0 Q) :
  B6 prog 196 [.agg (JW a0 gh1)] I (AxX Q):=by
 refine Fun.ee func196 ntmps196 r ?_;refine .F (.bx r λC=>?_);refine .al KY r λt=>?_;refine .M 6 r (.B (.dr [0,1,2,4,5,3,7,8,6,9] 10 (.J 2 r (.V HU 1 r (.J 1 r (.V K7 1 r (.Y r ?_)))))));refine .AD call237 r (BP R2.1 hd:) r r λu v x a d=>?_;obtain⟨k,l,m,rfl,rfl,hd⟩:=d;have R2:=a.u1 R2;refine .q 3 r (.X r (.I K7 .p2 r .mk) (.Z 1 r r tv)) (.J 2 r (.Y r ?_));refine .ca call238 r (J0 R2.2.1 hd:) λy A f g=>?_;obtain⟨o,p,q,rfl,b,hd⟩:=g;have⟨h,R2⟩:=f.u2 a R2;refine .q 3 r (.Z 2 r r tv) (.Y r ?_);refine .s1 sizeOf233 .p2 r (.P 3 r r r tv (.e2 10 (.G 1 r (.s1 ZY .p2 r (.ns 6 r (.S GL CZ .p2 r (.R CZ .p1 r (.M 4 r (.drop .p2 ?_)))))))));refine .pub .z λB i s=>?_;have⟨j,R2,b⟩:=i.u3 h R2 b;exact .K (B7 r (.w GL CZ r .z r .n) j ⟨({ a0 with Vec:=({ N:=a0.Vec.N,Items:=k }:Vec),Sums:=o }:AK),((l,m),(p,q),gh1.2.2),r,⟨s,b,R2.2.2⟩,hd⟩)
theorem MM {a0 Q} (D:RepSl JJ I p1 c2 a0) (h:D6 a0 Q) :
  B6 prog 239 [.slice p1 a0.length c2] I (λJ v=>∃ r p4 c5,v=.slice p4 r.length c5∧RepSl JJ J p4 c5 r∧Q r):=by
 refine Fun.ee func239 ntmps239 r (.F (.C 1 1 r (.B (.N 1 r (.eqNilS NX r r r r (.M 17 r ?_))))));refine split p1.isNone (λa=>?_) (λa=>?_)
 . have h:=h.1 (RepSl.ofNone D a);exact .L r a (.F (.C 1 4 r (.r0 results239 r ⟨([]:List A2),_,_,r,(.nil _ _ _),h⟩)))
 have h:=h.2;refine .j r a (.P 1 r (.F (.bs 0 NX SG cA r λ_=>.G 1 r (.ownB (El:=JJ) (ys:=([]:List A2)) .z .nil r ?_))));have⟨b,h⟩:=h;exact .ap (ys:=a0) .z NX NX Ak2 r (.imm D r) b λ_ _=>.C 1 4 r (.pub .z λ_ c d=>.r1 results239 r c ⟨(([]:List A2)++a0),_,_,r,d,h⟩)
theorem wE {a0 Q} (R2:rT I gh1 a0) (hd:bD a0 Q) :
  B6 prog 199 [.agg (JW a0 gh1)] I (AxX Q):=by
 refine Fun.ee func199 ntmps199 r ?_;refine .F (.bx r λP=>?_);refine .al KY r λv=>?_;refine .U 6 2 r (.I HU .p1 r ?_);refine .AD call237 r (BP R2.1 hd:) r r λx y A b e=>?_;obtain⟨q,B,C,rfl,rfl,hd⟩:=e;have R2:=b.u1 R2;refine .G 2 r (.s1 sizeOf233 .p2 r (.U 6 1 r (.I K7 .p2 r ?_)));refine .ca call238 r (J0 R2.2.1 hd:) λD E g h=>?_;obtain⟨s,F,G,rfl,a,hd⟩:=h;have⟨i,R2⟩:=g.u2 b R2;refine .G 1 r (.s1 ZY .p2 r (.U 6 1 r (.I isAgg236 .p2 r ?_)));refine .ca call239 r (MM R2.2.2 hd:) λH J k l=>?_;obtain⟨t,K,L,rfl,c,hd⟩:=l;have⟨m,R2,a⟩:=k.u3 i R2 a;refine .G 1 r (.s1 sizeOf236 .p2 r (.ns 6 r (.S GL CZ .p2 r (.R CZ .p1 r (.M 4 r (.drop .p2 (.pub .z λO o u=>?_)))))));have⟨p,a,c⟩:=o.u3 m a c;exact .K (B7 r (.w GL CZ r .z r .n) p ⟨({ a0 with Vec:=({ N:=a0.Vec.N,Items:=q }:Vec),Sums:=s,Triples:=t }:AK),((_,_),(_,_),(_,_)),r,⟨u,a,c⟩,hd⟩)
theorem wF {a0 a1 Q} (d:SR a0 a1 Q) :
  B6 prog 309 [vi a0,vi a1] I (λ_=>eO Q):=by
 refine Fun.ee func309 ntmps309 r (.N 1 r (.U 3 3 r (.T d [6,7] r (λa d=>?_) λa d=>?_)))
 . exact .C 5 16 r (.r0 results309 r ⟨(decide (a0<=a1)),r,d⟩)
 exact .C 5 16 r (.r0 results309 r ⟨false,r,d⟩)
theorem fN {o0 o1 a0 Q} (h:RepSl CF I p5 c6 o1.Items) (d:OE o0 o1 a0 Q) :
  Fun prog 311 #[.agg (VN a0).toArray,vp b3,vp b4] I [pc b3 #[vi o0] 3,pc b4 #[vi o1.N,.slice p5 o1.Items.length c6] 235] (λ_ v l=>∃ r,v=.bool r.1∧l=[pc b3 #[vi r.2] 3,pc b4 #[vi o1.N,.slice p5 o1.Items.length c6] 235]∧Q r):=by
 refine Fun.ee func311 ntmps311 r (.F (.bx r λ_=>.G 1 r (.U 14 1 r (.I AJ .z r (.I AJ .p1 r (.G 2 r (.T d [9,10] r (λa d=>?_) λa d=>?_)))))))
 . exact .G 7 r (.U 46 1 r (.I AJ .z r (.s1 DD .p1 r (.M 38 r (.drop .z (.F (.C 2 22 r (.q1 results311 rf MF r ⟨(true,a0.At),r,r,d⟩))))))))
 exact .G 1 r (.O r (.I AJ .z r (.G 1 r (.O r (.I AJ .p2 r (.G 3 r (.U 46 1 r (.I AJ .z r (.s1 DD .p1 r (.M 38 r (.drop .z (.F (.C 2 22 r (.q1 results311 rf MF r ⟨(decide (o1.N<=a0.At),a0.At),r,r,d⟩))))))))))))))
theorem KP {o0 o1 a0 Q} (R7:RepSl CF I p5 c6 o1.Items) (R10:RepSl CF I p8 c9 a0) (hd:DQ o0 o1 a0 Q) :
  Fun prog 336 #[.slice p8 a0.length c9,.func (.func 311) #[] #[vp b3,vp b4]] I [pc b3 #[vi o0] 3,pc b4 #[vi o1.N,.slice p5 o1.Items.length c6] 235] (λI_ v l=>∃ r,v=vi r.1∧l=[pc b3 #[vi r.2] 3,pc b4 #[vi o1.N,.slice p5 o1.Items.length c6] 235]∧Q r):=by
 refine Fun.ee func336 ntmps336 r ?_;refine .F (.C 1 3 r (.B (.N 1 r (.ln DU r (.C 1 387 r (.E (.lp hd vW [1] r (λj E l (e,d)=>j ((8,vi d) :: E) (pc b3 #[vi e] 3 :: l)) (ji rf MF r) ?_)))))));rintro⟨e,d⟩ q hd;refine jq r λu a=>?_;have⟨R7,R10⟩:=a.u2 R7 R10;refine .F (.C 1 899 r (.B (.A r hd (λh hd=>?_) λh hd=>?_)))
 . refine .P 387 r (.B (.E (.N 2 r (.U 419 3 r ?_))));have⟨s,w,i,x,o70,t,b,hd⟩:=R10.ix hd;refine .W DU DL t s i r (.ldW UK DL b r r r r ?_);refine .cS (.c call311 r r) (.o MF r) r (fN (b3:=b3) (b4:=b4) R7 hd:) λy z A m n=>?_;obtain⟨g,rfl,rfl,hd⟩:=n;have⟨f,R7,R10,b⟩:=m.u4 a R7 R10 b;refine .rn 2 r (.M 65955 r (.A r hd (λp hd=>?_) λp hd=>?_))
   . exact .F (.C 2 18 r (.q1 results336 f MF r ⟨(d,g.2),r,r,hd⟩))
   exact .P 387 r (.D (.G 2 r (.H (je (g.2,A4 (d+1)) hd f MF r))))
 exact .en 2 r (.F (.C 1 18 r (.q1 results336 a MF r ⟨((-1),e),r,r,hd⟩)))
theorem JA {o0 o1 a0 Q} (R7:RepSl CF I p5 c6 o1.Items) (R10:RepSl CF I p8 c9 a0) (hd:DA o0 o1 a0 Q) :
  Fun prog 310 #[.slice p8 a0.length c9,.func (.func 311) #[] #[vp b3,vp b4]] I [pc b3 #[vi o0] 3,pc b4 #[vi o1.N,.slice p5 o1.Items.length c6] 235] (λI_ v l=>∃ r,v=.bool r.1∧l=[pc b3 #[vi r.2] 3,pc b4 #[vi o1.N,.slice p5 o1.Items.length c6] 235]∧Q r):=by
 refine Fun.ee func310 ntmps310 r ?_;refine .N 1 r (.U 3 2 r ?_);refine .cS (.f call336 r) (.o MF r) r (KP (b3:=b3) (b4:=b4) R7 R10 hd:) λe g h a d=>?_;obtain⟨b,rfl,rfl,hd⟩:=d;have⟨R7,R10⟩:=a.u2 R7 R10;exact .rn 2 r (.C 2 18 r (.q1 results310 a MF r ⟨(decide (0<=b.1),b.2),r,r,hd⟩))
theorem FS {a0 Q} (R3:RepSl CF I p1 c2 a0.Items) (hd:FA a0 Q) :
  B6 prog 270 [.agg #[vi a0.N,.slice p1 a0.Items.length c2]] I (λ_=>eO Q):=by
 refine Fun.ee func270 ntmps270 r ?_;refine .F (.bx r λi=>?_);refine .C 1 2 r (.B (.N 1 r (.I AJ .z r ?_)));refine .u call309 (wF (I:=I) hd:) r λj hd=>?_;refine .C 1 130 r (.A r hd (λc hd=>?_) λc hd=>?_)
 . exact .F (.C 1 4 r (.drop .z (.r0 results270 r ⟨false,r,hd⟩)))
 refine .P 2 r (.F (.alloc1 nT r r r λg=>?_));refine .s1 DD .z r (.U 10 1 r (.I HU .p1 r (.mkFn r r r r ?_)));refine .cS (.f call310 r) (.o MF r) r (JA (b3:=g) (b4:=i) R3 R3 hd:) λk l m a e=>?_;obtain⟨h,rfl,rfl,hd⟩:=e;have R3:=a.u1 R3;exact .rn 2 r (.C 2 4 r (.drop .z (.drop .z (.r1 results270 r a ⟨(!h.1),r,hd⟩))))
theorem aB {a0 a1 Q} (R2:rT I gh1 a0) (hd:MR a0 a1 Q) :
  B6 prog 240 [.agg (JW a0 gh1),vi a1] I (λI_ v=>∃ r p3 c4,v=.tuple #[.agg #[vi r.1.N,.slice p3 r.1.Items.length c4],.bool r.2]∧RepSl CF I_ p3 c4 r.1.Items∧Q r):=by
 refine Fun.ee func240 ntmps240 r ?_;refine .F (.bx r λB=>?_);refine .al CG r λC=>?_;refine .C 1 22 r (.B (.dr [0,1,2,3,4,5,8,6,7,999] 9 (.J 2 r (.V AJ 1 r (.J 2 r (.V HU 1 r (.aP CG r (.Y r ?_))))))));refine .AD call237 r (BP R2.1 hd:) r r λD s E d i=>?_;obtain⟨e,u,x,rfl,rfl,hd⟩:=i;have R2:=d.u1 R2;refine .q 3 r (.X r (.I AJ .p2 r .mk) (.Z 2 r r tv)) (.h r (.bd CG F5 GY r .mk) (.b r λF=>DrawD.nop ?_));refine .e2 9 (.R AM .p3 r (.M 82 r (.drop .p2 (.B (.dr An8 10 (.h r (.S BK AM .p2 r .mk) (.h r (.S BK AM .p2 r .mk) (.Y r λ{ex}=>?_))))))));have j:=λ(J:IH) (hJ:IH.le s J) (hL:SM J [OwnSl CF 300 u x e])=>FS (I:=J) (a0:=({ N:=a0.Vec.N,Items:=e }:Vec)) (Al7 hL.1) hd;refine .callB (.f call270 r) (.o [0] r) j r r λG _ k=>?_;obtain⟨H,rfl,hd⟩:=k;refine .q 3 r (.X r (.S BK AM .p2 r .mk) tv) (.J 1 r ?_);refine CR hd (λc hd=>?_) λc hd=>?_
 . refine .h r (.Q r r c (.fo F5 0 r DD .mk)) (.h r (.Q r r c (.I AJ .p2 r .mk)) (.h r (.Q r r c (.AC r r r .mk)) (.h r (.Q r r c (.eq r r r r .mk)) (.h r (.pickT r c r r r .mk) (.Y r ?_)))));refine .R AM .p1 r (.P 3 r r r (.X r (.pickT r c r r r .mk) (.X r (.Q r r c (.eq r r r r .mk)) (.X r (.Q r r c (.AC r r r .mk)) (.X r (.Q r r c (.I AJ .p2 r .mk)) (.X r (.Q r r c (.fo F5 0 r DD .mk)) tv))))) (.e2 10 (.C 1 48 r (.drop .p2 (.pub .z λK l y=>?_)))));have m:=l.u1 d;exact .K (B7 r (.w BK AM r .z r (.t r .n)) m ⟨(({ N:=a0.Vec.N,Items:=e }:Vec),a0.Vec.N==a1),_,_,r,y,hd⟩)
 refine .gn r c (.gn r c (.gn r c (.gn r c (.h r (.pickF r c r r r .mk) (.Y r ?_)))));refine .R AM .p1 r (.P 3 r r r (.X r (.pickF r c r r r .mk) (.X r (.gno r r c r r .mk) (.X r (.gno r r c r r .mk) (.X r (.gno r r c r r .mk) (.X r (.gno r r c r r .mk) tv))))) (.e2 10 (.C 1 48 r (.drop .p2 (.pub .z λO p A=>?_)))));have q:=p.u1 d;exact .K (B7 r (.w BK AM r .z r (.t r .n)) q ⟨(({ N:=a0.Vec.N,Items:=e }:Vec),false),_,_,r,A,hd⟩)
theorem cV {a0 Q} (d:OG a0 Q) :
  B6 prog 271 [vi a0] I (λ_=>eO Q):=by
 refine Fun.ee func271 ntmps271 r (.N 1 r (.U 1 3 r (.T d [4,5] r (λa d=>?_) λa d=>?_)))
 . exact .C 4 4 r (.r0 results271 r ⟨(decide (a0<=4096)),r,d⟩)
 exact .C 4 4 r (.r0 results271 r ⟨false,r,d⟩)
theorem P4 {a0 Q} (h:RepSl CF I p1 c2 a0.Items) (d:LA a0 Q) :
  B6 prog 339 [.agg #[vi a0.N,.slice p1 a0.Items.length c2]] I (AvQ Q):=by
 refine Fun.ee func339 ntmps339 r (.F (.bx r λ_=>.al CG r λ_=>.M 6 r (.B (.F (.S BK AM .p1 r (.u call270 (FS h d:) r λ_ d=>.M 22 r (.A r d (λb d=>?_) λb d=>?_)))))))
 . exact .F (.S BK AM .p1 r (.R AM .z r (.M 4 r (.drop .p1 (.K (B7 r (.w BK AM r .z r .n) rf ⟨a0,_,_,r,h,d⟩))))))
 exact .P 4 r (.drop .p1 (.F (.bd CG F5 GY r (.R AM .z r (.M 4 r (.K (B7 r (.w BK AM r .z r .n) rf ⟨CL,_,_,r,(.nil _ _ _),d⟩)))))))
theorem jH {o0 a0 Q} (d:PO o0 a0 Q) :
  Fun prog 338 #[.agg (VN a0).toArray,vp b2] I [pc b2 #[vi o0] 3] (λ_ v l=>∃ r,v=.agg (VN r).toArray∧l=[pc b2 #[vi o0] 3]∧Q r):=by
 refine Fun.ee func338 ntmps338 r (.F (.bx r λ_=>.al LN r λ_=>.ns 14 r (.I AJ .p2 r (.G 1 r (.I AJ .p1 r (.G 2 r (.I J6 .p1 r (.bd LN uT uR r (.R DL .z r (.M 10 r (.drop .p1 ?_)))))))))));exact .K (DX r (.w UK DL r .z r .n) rf (.o [1] r) ⟨({ At:=A4 (o0+a0.At),Val:=a0.Val }:B9),r,r,d⟩)
theorem pJ {o0 a0 Q} (R5:RepSl CF I p3 c4 a0.Items) (hd:OH o0 a0 Q) :
  Fun prog 337 #[.agg #[vi a0.N,.slice p3 a0.Items.length c4],.func (.func 338) #[] #[vp b2]] I [pc b2 #[vi o0] 3] (λI_ v l=>∃ r p6 c7,v=.agg #[vi r.N,.slice p6 r.Items.length c7]∧RepSl CF I_ p6 c7 r.Items∧l=[pc b2 #[vi o0] 3]∧Q r):=by
 refine Fun.ee func337 ntmps337 r ?_;refine .F (.bx r λa=>?_);refine .al CG r λL=>?_;refine .ns 22 r (.S BK AM .p1 r ?_);refine .ca call339 r (P4 R5 hd:) λO b4 s P=>?_;obtain⟨t,b5,b6,rfl,u,hd⟩:=P;have R5:=s.u1 R5;refine .R AM .p1 r (.M 22 r (.B (.dr AuC 7 (.J 1 r (.V AJ 1 r (.J 1 r (.V HU 1 r (.aP CG r (.Y r ?_)))))))));refine .AD call237 r (BP u hd:) r r λb7 b8 b9 S T=>?_;obtain⟨c0,c1,c2,rfl,rfl,hd⟩:=T;have⟨U,u⟩:=S.u2 s u;refine .q 4 r (.X r (.I AJ .p2 r .mk) (.Z 1 r r tv)) (.h r (.bd CG F5 GY r .mk) (.b r λK=>DrawD.nop ?_));refine .e2 7 (.R AM .p4 r (.M 50 r (.drop .p2 (.B (.N 1 r (.I HU .p3 r (.ln DU r (.C 1 917554 r (.E ?_)))))))));refine .lx hd [18,5,4,1] [2,1] r (λj E l (d,e)=>λc w=>∃ g f,j ⟨33,[],none⟩ (λI_=>True) ((17,.slice g d.length f) :: (19,vi e) :: E) (pc K #[vi t.N,.slice g d.length f] 235 :: OwnSl CF 300 g f d :: l) c w) (λc w ho hs=>⟨_,_,jf rf tv [3,0,1,0] r ho hs⟩) ?_;rintro⟨d,e⟩ Z hd c w ⟨g,f,V,i,_,hok,hsym⟩;have p:=i.u1 U;refine Cod.at hok hsym (.F (.C 1 1966130 r (.B (.A r hd (λA hd=>?_) λA hd=>?_))))
 . refine .P 917554 r (.B (.E (.N 1 r ?_)));have⟨x,a3,k,hd⟩:=hd;refine .ownNe .p1 (DJ k) λW X=>?_;cases X;refine .v DU DL r r x (BF k x) r r (.loA (j:=0) UK DL .p1 k r r (.o 2 r) r r r (.al LN r λa4=>?_));refine .G 1 r (.R DL .z r (.M 917746 r (.dr AhZ 6 (.J 1 r (.V HU 1 r (.J 2 r (.h r (.S UK DL .z r .mk) (.Y r ?_))))))));refine .cS (.c call338 r r) (.o [3] r) r (jH (I:=V) (b2:=b2) hd:) λa5 a6 a7 D F=>?_;obtain⟨m,rfl,rfl,hd⟩:=F;have⟨a1,G⟩:=D.u2 p i;refine .rx 5 r (.q 5 r (.Z 1 r r (.X r (.I HU .p2 r .mk) (.Z 1 r r tv))) (.e2 6 ?_));have⟨y,a8,q,hd⟩:=hd;exact .v DU DL r r y (BF q y) r r (.stOA (j:=0) (v':=m) DL .p3 q r r r (.o r) r r (.rl .p3 [17,25] r (by simp only[QV]) (.reat .p2 (B:=pc K #[vi t.N,.slice (some ⟨W,0,none⟩) (d.set e.toNat m).length f] 235) (by simp only[QV]) (.M 917554 r (.drop .p1 (.D (.G 2 r (.H λc w ho hs=>⟨_,hd,_,_,jf G tv Ai0 r ho hs⟩))))))))
 refine .en 50 r (.F (.S BK AM .z r (.R AM .p3 r (.M 18 r (.drop .z (.pub .z λa9 H Y=>?_))))));have⟨J,a2⟩:=H.u2 p i;exact .K (DX r (.w BK AM r .p1 r .n) J (.o [0] r) ⟨({ N:=t.N,Items:=d }:Vec),_,_,r,Y,r,hd⟩)
theorem AcO {a0 Q} (R3:RepSl fE I p1 c2 a0) (hd:YO a0 Q) :
  B6 prog 312 [.slice p1 a0.length c2] I (AvR Q):=by
 refine Fun.ee func312 ntmps312 r ?_
 refine .F (.al CG r fun v=>?_)
 refine .G 1 r (.ns 5 r (.al CG r fun O=>?_))
 refine .M 21 r (.B (.N 1 r (.ln qP r (.C 1 1812 r (.E (.own0 CF 300 (.lx hd [9,8,4,2] [2] r (fun j E l (b,a,e)=>fun c w=>∃ g i,j ⟨39,[],none⟩ (fun I_=>True) ((10,vi e) :: E) (pc O #[vi b,.slice g a.length i] 235 :: OwnSl CF 300 g i a :: l) c w) (fun c w ho hs=>⟨_,_,jf rf tv rL r ho hs⟩) ?_)))))))
 rintro ⟨b,a,e⟩ L hd c w ⟨g,i,R,d,_,hok,hsym⟩
 have R3:=d.u1 R3
 refine Cod.at hok hsym (.F (.C 1 3860 r (.B (.A r hd (fun s hd=>?_) fun s hd=>?_))))
 · refine .P 1812 r (.B (.E (.F ?_)))
   obtain ⟨F,S,p,hd⟩:=hd
   obtain ⟨T,o184,P,G,u,U,V,rfl,k⟩:=R3.2 _ _ p
   refine .W qP AM G F p r (.ldW BK AM u r r r r (.al CG r fun W=>?_))
   refine .R AM .z r (.U 1876 1 r (.I AJ .p1 r (.alloc1 nT r r r fun H=>?_)))
   refine .s1 DD .z r (.ns 2004 r (.S BK AM .p1 r (.mkFn r r r r ?_)))
   refine .cS (.f call337 r) (.o [0] r) r (pJ (b2:=H) k hd:) fun X Y Z x y=>?_
   obtain ⟨m,a1,a2,rfl,J,rfl,hd⟩:=y
   obtain ⟨q,R3,k⟩:=x.u3 d R3 k
   refine .rn 5 r (.R AM .p1 r (.M 1876 r (.drop .z (.B (.N 1 r (.I AJ .z r (.G 1 r (.I AJ .p1 r (.C 2 16779092 r ?_)))))))))
   refine .A r hd (fun A hd=>?_) fun A hd=>?_
   · exact .F (.bd CG F5 GY r (.R AM .p3 r (.C 1 12 r (.drop .z (.drop .z (.drop .z (.K (B7 r (.w BK AM r .z r (.t r .n)) q ⟨(CL,5),_,_,r,(.nil _ _ _),hd⟩))))))))
   refine .P 1876 r (.dr nl5 11 (.J 1 r (.V AJ 1 r (.J 1 r (.V AJ 0 r (.J 2 r (.V HU 1 r (.J 1 r (.V HU 0 r ?_)))))))))
   refine .Y r ?_
   obtain ⟨B,hd⟩:=hd
   refine .ap (ys:=m.Items) .p2 DU DU uQ r (.imm J r) B fun a3 a4=>?_
   exact .q 4 r (.Z 1 r r (.X r (.I AJ .p1 r .mk) (.Z 1 r r (.X r (.I AJ .p2 r .mk) (.Z 1 r r tv))))) (.h r (.bd CG F5 GY r .mk) (.e2 11 (.R AM .p2 r (.M 1812 r (.drop .p1 (.D (.G 2 r (.H fun c w ho hs=>⟨_,hd,_,_,jf q tv rL r ho hs⟩))))))))
 refine .en 20 r (.F (.S BK AM .z r (.R AM .p2 r (.C 1 12 r (.drop .z (.pub .z fun a5 C K=>?_))))))
 have D:=C.u1 d
 exact .K (B7 r (.w BK AM r .z r (.t r .n)) D ⟨(({ N:=b,Items:=a }:Vec),0),_,_,r,K,hd⟩)
theorem cW {a0 a1 Q} (h:T9 a0 a1 Q) :
  B6 prog 244 [vi a0,vi a1] I (λ_=>Z6 Q):=by
 refine Fun.ee func244 ntmps244 r (.F (.C 1 3 r (.B (.F (.C 1 34 r (.E (.B (.E (.B (.E ?_))))))))));refine .B (.E (.B (.E (.B (.B (.F (.C 2 98 r (.A r h (λb h=>?_) λb h=>?_))))))))
 . exact .en 0 r (.B (.F (.C 1 16 r (.r0 results244 r ⟨1,r,h⟩))))
 refine .P 34 r (.B (.F (.C 2 290 r (.A r h (λc h=>?_) λc h=>?_))))
 . exact .en 0 r (.B (.F (.C 1 16 r (.r0 results244 r ⟨5,r,h⟩))))
 refine .P 34 r (.B (.F (.C 2 1058 r (.A r h (λd h=>?_) λd h=>?_))))
 . refine .en 2 r (.F (.C 3 131072 r (.A r h (λe h=>?_) λe h=>?_)))
   . exact .F (.C 1 16 r (.r0 results244 r ⟨2,r,h⟩))
   exact .P 0 r (.B (.F (.C 1 16 r (.r0 results244 r ⟨4,r,h⟩))))
 refine .P 32 r (.B (.F (.C 2 4128 r (.A r h (λa h=>?_) λa h=>?_))))
 . exact .P 4096 r (.L r a (.en 0 r (.B (.F (.C 1 16 r (.r0 results244 r ⟨4,r,h⟩))))))
 refine .D (.C 2 4096 r (.A r h (λf h=>?_) λf h=>?_))
 . exact .en 0 r (.B (.F (.C 1 16 r (.r0 results244 r ⟨4,r,h⟩))))
 exact .P 0 r (.en 0 r (.F (.C 1 16 r (.r0 results244 r ⟨0,r,h⟩))))
theorem wG {a0 a1 a2 Q} (d:SS a0 a1 a2 Q) :
  B6 prog 275 [vi a0,vi a1,vi a2] I (λ_=>Z6 Q):=by
 refine Fun.ee func275 ntmps275 r (.F (.C 1 7 r (.B (.F (.C 1 135 r (.E (.B (.F (.C 2 391 r (.A r d (λa d=>?_) λa d=>?_))))))))))
 . exact .P 263 r (.L r a (.F (.C 2 64 r (.r0 results275 r ⟨a0,r,d⟩))))
 refine .D (.C 2 263 r (.A r d (λb d=>?_) λb d=>?_))
 . exact .F (.C 2 64 r (.r0 results275 r ⟨a0,r,d⟩))
 refine .P 6 r (.B (.N 2 r (.quo r r (by decide) r r (.C 1 32768 r (.A r d (λc d=>?_) λc d=>?_)))))
 . exact .F (.C 1 64 r (.r0 results275 r ⟨2,r,d⟩))
 exact .P 0 r (.F (.C 1 64 r (.r0 results275 r ⟨1,r,d⟩)))
theorem WI {a0 Q} (hd:PP a0 Q) :
  wV prog 313 [vi a0] I (λI_ v l=>∃ r p1 c2 p4 c5,v=.agg #[vi r.N,.slice p1 r.Has.length c2,.slice p4 r.Vals.length c5]∧RepSl KF I_ p1 c2 r.Has∧l=[OwnSl AV 2 p4 c5 r.Vals]∧Q r):=by
 refine Fun.ee func313 ntmps313 r ?_;refine .F (.al mA r λd=>?_);refine .M 5 r (.B (.N 3 r (.T hd [4,5] r (λc hd=>?_) λc hd=>?_)))
 . refine .C 3 261 r (.L r r (.D (.C 1 5 r (.B (.dr [0,1,3,4,2,999,5] 6 (.J 3 r ?_))))));have⟨B,C,hd⟩:=hd;refine .a (λb=>.slice (some ⟨b,0,none⟩) (List.replicate (Int.toNat 0) (0:Int)).length (Int.toNat 0)) (λb=>OwnSl AV 2 (some ⟨b,0,none⟩) (Int.toNat 0) (List.replicate (Int.toNat 0) (0:Int))) r r r r (λ_ L hL ex=>.make (El:=AV) (zv:=0) 8 CA IN2 r r r r r r B C r r r λb=>.mk (val:=λb=>.slice (some ⟨b,0,none⟩) (List.replicate (Int.toNat 0) (0:Int)).length (Int.toNat 0)) (atom:=λb=>OwnSl AV 2 (some ⟨b,0,none⟩) (Int.toNat 0) (List.replicate (Int.toNat 0) (0:Int))) hL b) (.Y r ?_);refine .AD call56 r (WG (I:=I) hd:) r r λS T U e f=>?_;obtain⟨D,V,W,rfl,rfl,hd⟩:=f;refine .q 2 r (.Z 2 r r tv) (.b r λX=>DrawD.nop ?_);refine .h r (.bd mA underlying324 ApS r .mk) (.e2 6 (.R FJ .p1 r (.M 4 r (.pub .z λY g E=>?_))));have i:=g.u1 e;exact .K (DX r (.w LM FJ r .z r .n) i (.o [1] r) ⟨({ N:=0,Has:=D,Vals:=(List.replicate (Int.toNat 0) (0:Int)) }:Dense),_,_,_,_,r,E,r,hd⟩)
 refine .C 3 261 r (.A r hd (λj hd=>?_) λj hd=>?_)
 . refine .D (.C 1 5 r (.B (.dr [0,1,3,4,2,999,5] 6 (.J 3 r ?_))));have⟨F,G,hd⟩:=hd;refine .a (λb=>.slice (some ⟨b,0,none⟩) (List.replicate (Int.toNat 0) (0:Int)).length (Int.toNat 0)) (λb=>OwnSl AV 2 (some ⟨b,0,none⟩) (Int.toNat 0) (List.replicate (Int.toNat 0) (0:Int))) r r r r (λ_ L hL ex=>.make (El:=AV) (zv:=0) 8 CA IN2 r r r r r r F G r r r λb=>.mk (val:=λb=>.slice (some ⟨b,0,none⟩) (List.replicate (Int.toNat 0) (0:Int)).length (Int.toNat 0)) (atom:=λb=>OwnSl AV 2 (some ⟨b,0,none⟩) (Int.toNat 0) (List.replicate (Int.toNat 0) (0:Int))) hL b) (.Y r ?_);refine .AD call56 r (WG (I:=I) hd:) r r λZ a1 a2 m p=>?_;obtain⟨H,a3,a4,rfl,rfl,hd⟩:=p;refine .q 2 r (.Z 2 r r tv) (.b r λa5=>DrawD.nop ?_);refine .h r (.bd mA underlying324 ApS r .mk) (.e2 6 (.R FJ .p1 r (.M 4 r (.pub .z λa6 q J=>?_))));have s:=q.u1 m;exact .K (DX r (.w LM FJ r .z r .n) s (.o [1] r) ⟨({ N:=0,Has:=H,Vals:=(List.replicate (Int.toNat 0) (0:Int)) }:Dense),_,_,_,_,r,J,r,hd⟩)
 refine .P 5 r (.B (.dr [0,1,3,4,2,999,5] 6 (.J 3 r ?_)));have⟨K,O,hd⟩:=hd;refine .a (λb=>.slice (some ⟨b,0,none⟩) (List.replicate a0.toNat (0:Int)).length a0.toNat) (λb=>OwnSl AV 2 (some ⟨b,0,none⟩) a0.toNat (List.replicate a0.toNat (0:Int))) r r r r (λ_ L hL ex=>.make (El:=AV) (zv:=0) 8 CA IN2 r r r r r r K O r r r λb=>.mk (val:=λb=>.slice (some ⟨b,0,none⟩) (List.replicate a0.toNat (0:Int)).length a0.toNat) (atom:=λb=>OwnSl AV 2 (some ⟨b,0,none⟩) a0.toNat (List.replicate a0.toNat (0:Int))) hL b) (.Y r ?_);refine .AD call56 r (WG (I:=I) hd:) r r λa7 a8 a9 u x=>?_;obtain⟨P,k,t,rfl,rfl,hd⟩:=x;refine .q 2 r (.Z 2 r r tv) (.b r λb2=>DrawD.nop ?_);refine .h r (.bd mA underlying324 ApS r .mk) (.e2 6 (.R FJ .p1 r (.M 4 r (.pub .z λb3 y R=>?_))));have A:=y.u1 u;exact .K (DX r (.w LM FJ r .z r .n) A (.o [1] r) ⟨({ N:=a0,Has:=P,Vals:=(List.replicate a0.toNat (0:Int)) }:Dense),_,_,_,_,r,R,r,hd⟩)
theorem cX {a0 Q} (R3:RepSl CF I p1 c2 a0.Items) (hd:OI a0 Q) :
  B6 prog 314 [.agg #[vi a0.N,.slice p1 a0.Items.length c2]] I (o3_ Q):=by
 refine Fun.ee func314 ntmps314 r ?_;refine .F (.bx r λT=>?_);refine .G 1 r (.U 2 1 r (.M 10 r (.B (.F (.S BK AM .z r ?_)))));refine .ca call339 r (P4 R3 hd:) λK L d q=>?_;obtain⟨O,P,R,rfl,e,hd⟩:=q;have R3:=d.u1 R3;refine .field1 F5 r HU r r r r (.ln DU r (.C 1 1800 r (.drop .z (.E (.own0 AV 3 (.lx hd [9,8] [] r (λj E l (a,f)=>λc w=>∃ g h,j ⟨21,[],none⟩ (λI_=>True) ((3,.slice g a.length h) :: (10,vi f) :: E) (OwnSl AV 3 g h a :: l) c w) (λc w ho hs=>⟨_,_,jf rf tv [0] r ho hs⟩) ?_))))));rintro⟨a,f⟩ y hd c w ⟨g,h,S,b,_,hok,hsym⟩;have⟨s,e⟩:=b.u2 d e;refine Cod.at hok hsym (.F (.C 1 3848 r (.B (.A r hd (λt hd=>?_) λt hd=>?_))))
 . refine .P 1800 r (.B (.E (.F ?_)));have⟨A,o,u,C,o101,v,i,hd⟩:=e.ix hd;refine .W DU DL v A u r (.ldW UK DL i r r r r (.al LN r λD=>?_));refine .R DL .z r (.M 1832 r (.D (.G 2 r (.I AJ .z r (.bs 1 BD DD nT r λF=>?_)))));have⟨k,hd⟩:=hd;refine .ap (ys:=[o.At]) .p2 BD BD IN3 r (.box .z (.one r) r) k λG H=>?_;exact .C 1 1800 r (.drop .p1 (.drop .p1 (.D (.G 2 r (.H λc w ho hs=>⟨_,hd,_,_,jf b tv [0] r ho hs⟩)))))
 refine .en 8 r (.F (.C 2 4 r (.pub .z λJ m x=>?_)));have⟨n,B⟩:=m.u2 s b;exact .r1 results314 r n ⟨a,_,_,r,x,hd⟩
theorem wH {a0 Q} (R3:RepSl CF I p1 c2 a0.Items) (hd:bE a0 Q) :
  B6 prog 276 [.agg #[vi a0.N,.slice p1 a0.Items.length c2]] I (λI_ v=>∃ r gi4,v=.agg (LG r gi4)∧lTi I_ gi4 r∧Q r):=by
 refine Fun.ee func276 ntmps276 r ?_;refine .F (.bx r λd2=>?_);refine .al mA r λd3=>?_;refine .M 6 r (.B (.F (.S BK AM .p1 r ?_)));refine .u call270 (FS R3 hd:) r λd4 hd=>?_;refine .C 1 262 r (.A r hd (λZ hd=>?_) λZ hd=>?_)
 . refine .F ?_;refine .AD call313 r (WI (I:=I) hd:) r r λd5 d6 d7 s a2=>?_;obtain⟨L,d8,d9,e0,e1,rfl,t,rfl,hd⟩:=a2;have R3:=s.u1 R3;refine .R FJ .p1 r (.M 4 r (.drop .p2 (.pub .z λe3 a3 b5=>?_)));have⟨a4,t⟩:=a3.u2 s t;exact .K (B7 r (.w LM FJ r .z r .n) a4 ⟨L,((_,_),(_,_)),r,⟨t,b5⟩,hd⟩)
 refine .P 6 r (.N 1 r (.I AJ .p1 r ?_));refine .AD call313 r (WI (I:=I) hd:) r r λe4 e5 e6 u a6=>?_;obtain⟨i,V,W,e7,e8,rfl,d,rfl,hd⟩:=a6;have R3:=u.u1 R3;refine .al mA r λX=>?_;refine .R FJ .z r (.M 14 r (.B (.N 1 r (.I HU .p3 r (.ln DU r (.C 1 114702 r (.E (.lx hd [15,14,3,2,1] [3,2] r (λj E l (a,k)=>λc w=>∃ m e,j ⟨35,[],none⟩ (λI_=>True) ((16,vi k) :: E) (pc X #[vi i.N,.slice V i.Has.length W,.slice m a.length e] 324 :: OwnSl AV 2 m e a :: l) c w) (λc w ho hs=>⟨_,_,jf rf tv [0,0,1,0] r ho hs⟩) ?_))))))));rintro⟨a,k⟩ b3 hd c w ⟨m,e,b7,f,_,hok,hsym⟩;have⟨y,R3,d⟩:=f.u3 u R3 d;refine Cod.at hok hsym (.F (.C 1 245774 r (.B (.A r hd (λA hd=>?_) λA hd=>?_))))
 . refine .P 114702 r (.B (.E (.F ?_)));have⟨a7,b,C,b8,o232,a8,D,hd⟩:=R3.ix hd;refine .W DU DL a8 a7 C r (.ldW UK DL D r r r r (.al LN r λb9=>?_));refine .R DL .z r (.M 114734 r (.D (.G 1 r (.I FK .p1 r (.G 1 r (.I AJ .z r (.G 1 r (.I J6 .z r ?_))))))));have⟨x,c0,g,hd⟩:=hd;refine .ownNe .p2 (DJ g) λa9 b0=>?_;cases b0;exact .v CA MO r r x (BF g x) r r (.stO1 (j:=0) (v':=b.Val) MO .p2 g r r r (.o r) r (.rl .p2 [21] r (by simp only[QV]) (.reat .p1 (B:=pc X #[vi i.N,.slice V i.Has.length W,.slice (some ⟨a9,0,none⟩) (a.set b.At.toNat b.Val).length e] 324) (by simp only[QV]) (.M 114702 r (.drop .z (.D (.G 2 r (.H λc w ho hs=>⟨_,hd,_,_,jf f tv VA r ho hs⟩))))))))
 refine .en 14 r (.B (.dr [0,1,2,3,4] 5 (.J 1 r (.V AJ 2 r (.h r (.S BK AM .p2 r .mk) (.Y r ?_))))));refine .ca call314 r (cX R3 hd:) λc1 c3 G H=>?_;obtain⟨c4,c5,c6,rfl,p,hd⟩:=H;have⟨J,K,R3,d⟩:=G.u4 y f R3 d;refine .q 4 r (.X r (.I AJ .p2 r .mk) (.Z 1 r r tv)) (.Y r ?_);refine .ca call27 r (UV p hd:) λc7 c8 O P=>?_;obtain⟨b1,c9,d0,rfl,q,hd⟩:=P;have⟨R,S,R3,d,p⟩:=O.u5 J K R3 d p;refine .q 4 r tv (.e2 5 (.G 1 r (.s1 sizeOf40 .z r (.M 12 r (.drop .p2 (.F (.S LM FJ .z r (.R FJ .p2 r (.M 4 r ?_)))))))));refine .drop .z (.pub .z λd1 T b2=>?_);have⟨U,b6,q⟩:=T.u3 R S q;exact .K (B7 r (.w LM FJ r .z r .n) U ⟨({ N:=i.N,Has:=b1,Vals:=a }:Dense),((_,_),(_,_)),r,⟨q,b2⟩,hd⟩)
theorem xV {a0 a1 Q} (R3:RepSl CF I p1 c2 a1.Items) (hd:VS a0 a1 Q) :
  B6 prog 245 [vi a0,.agg #[vi a1.N,.slice p1 a1.Items.length c2]] I (λI_ v=>∃ r gj4,v=.agg (AoT r gj4)∧lTj I_ gj4 r∧Q r):=by
 refine Fun.ee func245 ntmps245 r ?_;refine .F (.bx r λG=>?_);refine .al zeroValue326 r λO=>?_;refine .M 25 r (.B (.jx hd [4,3,0] [0] r (λj E l (b,d)=>λc w=>∃ e f,j ⟨27,[],none⟩ (λI_=>RepSl CF I_ e f d) E (pc G #[vi b,.slice e d.length f] 235 :: l) c w) (λP hd=>?_) ?_))
 . refine .F (.S BK AM .p1 r ?_);refine .u call270 (FS R3 hd:) r λR hd=>?_;refine .C 1 153 r (.A r hd (λm hd=>?_) λm hd=>?_)
   . exact .D (.bd CG F5 GY r (.R AM .p1 r (.H λc w ho hs=>⟨_,hd,_,_,jf rf (.nil _ _ _) gK r ho hs⟩)))
   exact .AB λc w ho hs=>⟨_,hd,_,_,jf rf R3 gK r ho hs⟩
 rintro⟨b,d⟩ hd c w ⟨e,f,i,g,a,hok,hsym⟩;refine Cod.at hok hsym (.B (.N 2 r (.I HU .z r (.ln DU r (.G 1 r (.I AJ .z r ?_))))));refine .u call275 (wG (I:=i) hd:) r λS hd=>?_;refine .C 1 65560 r (.A r hd (λp hd=>?_) λp hd=>?_)
 . refine .F (.S BK AM .z r ?_);refine .ca call276 r (wH (I:=i) (a0:=({ N:=b,Items:=d }:Vec)) a hd:) λT U s t=>?_;obtain⟨H,u,rfl,J,hd⟩:=t;have⟨x,a⟩:=s.u2 g a;exact .bd zeroValue326 underlying326 AuW r (.R sizeOf326 .p1 r (.M 16 r (.drop .z (.K (B7 r (.w isAgg326 sizeOf326 r .z r .n) x ⟨({ Form:=2,Vec:=CL,Dense:=H }:iF),((none,0),u),r,⟨(.nil _ _ _),J⟩,hd⟩)))))
 refine .P 24 r (.B (.dr nl8 7 (.J 1 r (.V AJ 0 r (.J 1 r (.V HU 0 r (.Y r ?_)))))));refine .AD call237 r (BP a hd:) r r λV W X A B=>?_;obtain⟨K,Y,Z,rfl,rfl,hd⟩:=B;have⟨C,a⟩:=A.u2 g a;refine .q 3 r (.X r (.I AJ .p1 r .mk) (.Z 1 r r tv)) (.h r (.bd CG F5 GY r .mk) (.h r (.bd zeroValue326 underlying326 AuW r .mk) (.e2 7 (.R sizeOf326 .p2 r (.M 16 r (.drop .p1 (.pub .z λa2 D L=>?_)))))));have F:=D.u1 C;exact .K (B7 r (.w isAgg326 sizeOf326 r .z r .n) F ⟨({ Form:=1,Vec:=({ N:=b,Items:=K }:Vec),Dense:=({ N:=0,Has:=([]:List Int),Vals:=([]:List Int) }:Dense) }:iF),((_,_),((_,_),(_,_))),r,⟨L,⟨(.nil _ _ _),(.nil _ _ _)⟩⟩,hd⟩)
theorem jI {a0 a1 a2 Q} (d:LZ a0 a1 a2 Q) :
  B6 prog 277 [vi a0,vi a1,vi a2] I (λ_=>Z6 Q):=by
 refine Fun.ee func277 ntmps277 r (.F (.C 1 7 r (.B (.F (.C 1 135 r (.E (.B (.F (.C 2 391 r (.A r d (λa d=>?_) λa d=>?_))))))))))
 . exact .P 263 r (.L r a (.F (.C 2 64 r (.r0 results277 r ⟨a0,r,d⟩))))
 refine .D (.C 2 263 r (.A r d (λb d=>?_) λb d=>?_))
 . exact .F (.C 2 64 r (.r0 results277 r ⟨a0,r,d⟩))
 refine .P 6 r (.B (.N 2 r (.quo r r (by decide) r r (.C 1 32768 r (.A r d (λc d=>?_) λc d=>?_)))))
 . exact .F (.C 1 64 r (.r0 results277 r ⟨2,r,d⟩))
 exact .P 0 r (.F (.C 1 64 r (.r0 results277 r ⟨1,r,d⟩)))
theorem X0 {a0 a1 Q} (d:NS a0 a1 Q) :
  B6 prog 365 [vi a0,vi a1] I (λ_=>eO Q):=by
 refine Fun.ee func365 ntmps365 r (.N 1 r (.U 3 3 r (.T d [6,7] r (λa d=>?_) λa d=>?_)))
 . exact .C 5 16 r (.r0 results365 r ⟨(decide (a0<=a1)),r,d⟩)
 exact .C 5 16 r (.r0 results365 r ⟨false,r,d⟩)
theorem X1 {a0 a1 Q} (V:RepSl AV I p1 c2 a0) (J:NT a0 a1 Q) :
  B6 prog 366 [.slice p1 a0.length c2,vi a1] I (λ_=>eO Q):=by
 refine Fun.ee func366 ntmps366 r (.F (.C 1 3 r (.B (.N 1 r (.ln BD r (.C 1 899 r (.E (.lp J [8,7,1,0] [] r (λj E l b=>j ((9,vi b) :: E) l) (ji rf [] r) ?_))))))));refine λb _ J=>jq r λp a=>?_;have V:=a.u1 V;refine .F (.C 1 1923 r (.B (.A r J (λf J=>?_) λf J=>?_)))
 . refine .P 899 r (.B (.E (.N 1 r ?_)));have⟨q,_,g,_,_,s,h,J⟩:=V.ix J;refine .W BD DD s q g r (.x 0 AJ h r (.G 2 r (.U 995 3 r (.u call365 (X0 (I:=p) J:) r λ_ J=>.G 2 r (.T J [18,19] r (λk J=>?_) λk J=>?_)))))
   . exact .C 12 2147484547 r (.L r r (.F (.C 1 16 r (.r1 results366 r a ⟨false,r,J⟩))))
   refine .G 3 r (.T J [21,22] r (λm J=>?_) λm J=>?_)
   . refine .G 3 r ?_;have⟨t,_,c,_,_,n,d,J⟩:=V.ix J;refine .O r (.W BD DD n t c r (.O r (.x 0 AJ d r (.C 4 2147484547 r (.A r J (λe J=>?_) λe J=>?_)))))
     . exact .F (.C 1 16 r (.r1 results366 r a ⟨false,r,J⟩))
     exact .P 899 r (.D (.G 2 r (.H (je (A4 (b+1)) J a [] r))))
   exact .C 9 2147484547 r (.j r r (.P 899 r (.D (.G 2 r (.H (je (A4 (b+1)) J a [] r))))))
 exact .en 0 r (.F (.C 1 16 r (.r1 results366 r a ⟨true,r,J⟩)))
theorem nD {a0 Q} (R2:wQ I gd1 a0) (hd:TY a0 Q) :
  B6 prog 355 [.agg (FG a0 gd1)] I (λ_=>eO Q):=by
 refine Fun.ee func355 ntmps355 r ?_;refine .F (.bx r λo=>?_);refine .G 1 r (.U 2 1 r (.I F9 .z r (.ln BD r (.C 1 10 r (.B (.N 1 r (.I AJ .z r ?_)))))));refine .u call365 (X0 (I:=I) hd:) r λt hd=>?_;refine .G 2 r (.T hd [11,12] r (λs hd=>?_) λs hd=>?_)
 . exact .C 26 274877906954 r (.L r r (.F (.C 1 4 r (.drop .z (.r0 results355 r ⟨false,r,hd⟩)))))
 refine .G 1 r (.O r (.I AJ .z r ?_));refine .O r (.AE call365 r (X0 (I:=I) hd:) r r λb4 u=>?_);obtain⟨b6,rfl,hd⟩:=u;refine .G 3 r (.T hd [16,17,18] r (λv hd=>?_) λv hd=>?_)
 . exact .C 20 274877906954 r (.L r r (.F (.C 1 4 r (.drop .z (.r0 results355 r ⟨false,r,hd⟩)))))
 refine .G 1 r (.O r (.I F9 .z r (.O r (.ln BD r (.G 1 r (.O r (.I F9 .z r (.O r (.ln BD r (.G 4 r (.T hd [26,27,28] r (λw hd=>?_) λw hd=>?_)))))))))))
 . exact .C 10 274877906954 r (.L r r (.F (.C 1 4 r (.drop .z (.r0 results355 r ⟨false,r,hd⟩)))))
 refine .G 1 r (.O r (.I FK .z r (.O r (.ln CA r (.G 4 r (.T hd [33,34,35] r (λx hd=>?_) λx hd=>?_))))))
 . exact .C 3 274877906954 r (.L r r (.F (.C 1 4 r (.drop .z (.r0 results355 r ⟨false,r,hd⟩)))))
 refine .C 3 274877906954 r (.A r hd (λy hd=>?_) λy hd=>?_)
 . exact .F (.C 1 4 r (.drop .z (.r0 results355 r ⟨false,r,hd⟩)))
 refine .P 10 r (.B (.N 1 r (.I F9 .z r (.G 1 r (.I AJ .z r ?_)))));refine .u call366 (X1 R2.1 hd:) r λb7 hd=>?_;refine .G 2 r (.T hd [44,45] r (λB hd=>?_) λB hd=>?_)
 . exact .C 25 1180591620717411303426 r (.L r r (.F (.C 1 4 r (.drop .z (.r0 results355 r ⟨false,r,hd⟩)))))
 refine .G 1 r (.O r (.I F9 .z r (.G 2 r ?_)));refine .O r (.AE call366 r (X1 R2.2.1 hd:) r r λb8 D=>?_);obtain⟨b9,rfl,hd⟩:=D;refine .G 3 r (.T hd [51,52,53] r (λF hd=>?_) λF hd=>?_)
 . exact .C 17 1180591620717411303426 r (.L r r (.F (.C 1 4 r (.drop .z (.r0 results355 r ⟨false,r,hd⟩)))))
 refine .G 1 r (.O r (.I F9 .z r ?_));have⟨a1,c0,G,c1,o77,a2,J,hd⟩:=R2.2.1.ix hd;refine .O r (.W BD DD a2 a1 G r (.O r (.x 0 AJ J r (.G 3 r (.T hd [58,59,60] r (λK hd=>?_) λK hd=>?_)))))
 . exact .C 10 1180591620717411303426 r (.L r r (.F (.C 1 4 r (.drop .z (.r0 results355 r ⟨false,r,hd⟩)))))
 refine .G 1 r (.O r (.I F9 .z r (.G 1 r (.O r (.I F9 .z r (.O r (.ln BD r ?_)))))));have⟨a3,c2,N,c3,o87,a4,O,hd⟩:=R2.2.1.ix hd;refine .O r (.W BD DD a4 a3 N r (.O r (.x 0 AJ O r (.C 3 1180591620717411303426 r (.A r hd (λP hd=>?_) λP hd=>?_)))))
 . exact .F (.C 1 4 r (.drop .z (.r0 results355 r ⟨false,r,hd⟩)))
 refine .P 2 r (.B (.N 1 r (.I F9 .z r (.ln BD r (.C 1 28334198897217871282178 r (.E (.lp hd [73,1] [0] r (λj E l c=>j ((74,vi c) :: E) l) (ji rf [0] r) ?_)))))));refine λc Z hd=>jq r λa5 a=>?_;have R2:=a.u1 R2;refine .F (.C 1 66113130760175032991746 r (.B (.A r hd (λg hd=>?_) λg hd=>?_)))
 . refine .P 28334198897217871282178 r (.B (.E (.F (.C 2 28334198897217871282194 r (.B (.dr AyA 18 (.J 1 r (.V F9 0 r (.J 1 r ?_)))))))));refine .V F9 0 r (.J 1 r ?_);have⟨R,d,i,a6,o176,S,k,hd⟩:=R2.2.1.ix hd;refine .h r (.W BD DD S R i r .mk) (.h r (.x 0 AJ k r .mk) (.J 1 r (.V F9 0 r (.J 2 r ?_))));have⟨T,b,m,a7,o185,U,n,hd⟩:=R2.2.1.ix hd;refine .h r (.W BD DD U T m r .mk) (.h r (.x 0 AJ n r .mk) ?_);have⟨V,a8,a9,hd⟩:=hd;have e:Int.toNat d<=Int.toNat b:=by omega
   have f:Int.toNat b<=a0.Row.length:=by omega
   have⟨b0,b1,W,X,Y⟩:=RepSl.sliceW R2.2.2.1 (Int.toNat d) (Int.toNat b) gd1.2.2.1.2 e f (.inl rfl);refine .h r (.sliceW (L:=Int.toNat d) (H:=Int.toNat b) (cm:=gd1.2.2.1.2) BD DD r r R2.2.2.1.1 r r r (.inr ⟨_,_,r,V,r⟩) (.inr ⟨_,_,r,(by omega),r⟩) (.inl r) e f r W X r r .mk) (.J 1 r (.V AJ 0 r (.Y r ?_)));refine .u call366 (X1 Y hd:) r λb2 hd=>?_;refine .q 1 r tv (.J 1 r (.e2 18 (.M 19807068962764981616257269762 r (.A r hd (λp hd=>?_) λp hd=>?_))))
   . exact .F (.C 1 4 r (.drop .z (.r1 results355 r a ⟨false,r,hd⟩)))
   exact .P 28334198897217871282178 r (.D (.G 2 r (.H (je (A4 (c+1)) hd a [0] r))))
 exact .en 0 r (.drop .z (.F (.C 1 4 r (.r1 results355 r a ⟨true,r,hd⟩))))
theorem qZ {a0 Q} (R2:wQ I gd1 a0) (hd:XI a0 Q) :
  B6 prog 340 [.agg (FG a0 gd1)] I (AxV Q):=by
 refine Fun.ee func340 ntmps340 r ?_;refine .F (.bx r λP=>?_);refine .al uW r λu=>?_;refine .M 6 r (.B (.F (.S HI EG .p1 r ?_)));refine .u call355 (nD R2 hd:) r λv hd=>?_;refine .M 22 r (.A r hd (λe hd=>?_) λe hd=>?_)
 . exact .F (.S HI EG .p1 r (.R EG .z r (.M 4 r (.drop .p1 (.K (B7 r (.w HI EG r .z r .n) rf ⟨a0,gd1,r,R2,hd⟩))))))
 refine .P 4 r (.drop .p1 (.F ?_));refine .AD call184 r (qX (I:=I) hd:) r r λx y A g h=>?_;obtain⟨s,B,C,D,E,F,G,H,J,rfl,rfl,hd⟩:=h;refine .R EG .p4 r (.M 4 r (.pub .z λK i a=>?_));have j:=i.u1 g;refine .pub .z λL k b=>?_;have⟨l,a⟩:=k.u2 j a;refine .pub .z λN m c=>?_;have⟨o,a,b⟩:=m.u3 l a b;refine .pub .z λO p t=>?_;have⟨q,a,b,c⟩:=p.u4 o a b c;exact .K (B7 r (.w HI EG r .z r .n) q ⟨s,((_,_),(_,_),(_,_),(_,_)),r,⟨a,b,c,t⟩,hd⟩)
theorem nE {a0 a1 Q} (U:wQ I gd1 a0) (O:TZ a0 a1 Q) :
  B6 prog 341 [.agg (FG a0 gd1),vi a1] I (λ_=>Z6 Q):=by
 refine Fun.ee func341 ntmps341 r (.F (.bx r λ_=>.C 1 6 r (.scope (.B (.dr [0,1,2,3] 4 (.J 1 r (.V F9 0 r (.h r (.ln BD r .mk) (.J 1 r (.e2 4 (.C 1 102 r ?_)))))))))));refine .B (.labelS 102 r r (.B (.jn O [] [] r (λj E l (d,f)=>j ((5,vi d) :: (6,vi f) :: E) l) (λ_ O=>?_) ?_)))
 . refine .E (.lp O [2,1] [0] r (λj E l (a,b)=>j ((5,vi a) :: (6,vi b) :: E) l) (ji rf [0] r) ?_);rintro⟨a,b⟩ _ O;refine jq r λ_ c=>?_;have U:=c.u1 U;refine .B (.F (.C 3 8294 r (.A r O (λg O=>?_) λg O=>?_)))
   . refine .P 102 r (.E (.N 4 r (.quo r r (by decide) r r (.C 2 230 r (.E (.N 1 r (.I F9 .z r (.G 1 r ?_))))))));have⟨s,_,i,_,_,t,k,O⟩:=U.1.ix O;refine .W BD DD t s i r (.x 0 AJ k r (.C 3 2097382 r (.A r O (λm O=>?_) λm O=>?_)))
     . exact .F (.C 2 96 r (.drop .z (.exit (je (A4 (a+(A4 ((A4 (b - a)).tdiv 2))),b) O c [] r))))
     refine .N 1 r (.I F9 .z r (.G 1 r ?_));have⟨u,_,n,_,_,v,o,O⟩:=U.1.ix O;refine .W BD DD v u n r (.x 0 AJ o r (.C 3 1073742054 r (.A r O (λp O=>?_) λp O=>?_)))
     . exact .D (.G 3 r (.H (je (A4 ((A4 (a+(A4 ((A4 (b - a)).tdiv 2))))+1),b) O c [0] r)))
     exact .D (.G 2 r (.H (je (a,A4 (a+(A4 ((A4 (b - a)).tdiv 2)))) O c [0] r)))
   exact .exit (je (a,b) O c [] r)
 rintro⟨d,f⟩ O;refine jq r λ_ e=>.B (.F (.C 3 4398046511136 r (.A r O (λq O=>?_) λq O=>?_)))
 . exact .F (.C 2 16 r (.r1 results341 r e ⟨d,r,O⟩))
 exact .P 0 r (.F (.C 1 16 r (.r1 results341 r e ⟨(-1),r,O⟩)))
theorem AfG {a0 a1 Q} (R2:wQ I gd1 a0) (R5:RepSl AV I p3 c4 a1) (hd:dR a0 a1 Q) :
  B6 prog 315 [.agg (FG a0 gd1),.slice p3 a1.length c4] I (λ_=>Z6 Q):=by
 refine Fun.ee func315 ntmps315 r ?_;refine .F (.bx r λT=>?_);refine .G 1 r (.ns 6 r (.S HI EG .z r ?_));refine .ca call340 r (qZ R2 hd:) λP R e u=>?_;obtain⟨S,G,rfl,d,hd⟩:=u;have⟨R2,R5⟩:=e.u2 R2 R5;refine .R EG .z r (.U 6 1 r (.M 38 r (.B (.N 1 r (.ln BD r (.C 1 14372 r (.E (.lp hd [12,11,2] [0] r (λj E l (a,b)=>j ((5,vi a) :: (13,vi b) :: E) l) (ji rf [0] r) ?_))))))));rintro⟨a,b⟩ F hd;refine jq r λH c=>?_;have⟨f,R5,d⟩:=c.u3 e R5 d;refine .F (.C 1 30756 r (.B (.A r hd (λg hd=>?_) λg hd=>?_)))
 . refine .P 14372 r (.B (.E (.F ?_)));have⟨v,J,i,K,o149,w,k,hd⟩:=R5.ix hd;refine .W BD DD w v i r (.x 0 AJ k r (.G 1 r (.ns 14500 r (.S HI EG .z r (.G 1 r ?_)))));refine .u call341 (nE d hd:) r λL hd=>?_;refine .G 1 r (.U 14628 2 r (.M 2111780 r (.A r hd (λn hd=>?_) λn hd=>?_)))
   . refine .dr AcG 14 (.J 2 r (.V F9 0 r (.J 2 r ?_)));have⟨x,y,o,N,o167,A,p,hd⟩:=d.2.1.ix hd;refine .h r (.W BD DD A x o r .mk) (.h r (.x 0 AJ p r .mk) (.J 1 r (.V F9 0 r (.J 1 r ?_))));have⟨B,C,q,O,o176,D,s,hd⟩:=d.2.1.ix hd;exact .h r (.W BD DD D B q r .mk) (.h r (.x 0 AJ s r .mk) (.J 2 r (.e2 14 (.C 1 14372 r (.D (.G 2 r (.H (je (A4 (a+(A4 (y - C))),A4 (b+1)) hd c [0] r))))))))
   exact .P 14372 r (.D (.G 2 r (.H (je (a,A4 (b+1)) hd c [0] r))))
 exact .en 32 r (.drop .z (.F (.C 2 16 r (.r1 results315 r f ⟨a,r,hd⟩))))
theorem AfH {a0 a1 Q} (R2:wQ I gd1 a0) (R5:RepSl CF I p3 c4 a1.Items) (hd:dS a0 a1 Q) :
  B6 prog 278 [.agg (FG a0 gd1),.agg #[vi a1.N,.slice p3 a1.Items.length c4]] I (λ_=>Z6 Q):=by
 refine Fun.ee func278 ntmps278 r ?_;refine .F (.bx r λm=>?_);refine .bx r λn=>?_;refine .C 1 12 r (.B (.dr [0,1,2,3] 4 (.h r (.S HI EG .p1 r .mk) (.h r (.S BK AM .z r .mk) (.Y r ?_)))));refine .ca call314 r (cX R5 hd:) λg i a c=>?_;obtain⟨j,k,l,rfl,e,hd⟩:=c;have⟨R2,R5⟩:=a.u2 R2 R5;refine .q 2 r (.X r (.S HI EG .p1 r .mk) tv) (.Y r ?_);refine .u call315 (AfG R2 e hd:) r λf hd=>?_;exact .q 2 r tv (.e2 4 (.C 1 16 r (.drop .z (.drop .z (.r1 results278 r a ⟨f,r,hd⟩)))))
theorem O0 {a0 a1 Q} (R3:RepSl KF I p1 c2 a0) (hd:M0 a0 a1 Q) :
  B6 prog 292 [.slice p1 a0.length c2,vi a1] I (λ_=>eO Q):=by
 refine Fun.ee func292 ntmps292 r ?_;refine .F (.C 1 3 r (.B (.dr AcG 14 (.J 2 r (.Y r ?_)))));refine .u call57 (cU R3 hd:) r λn hd=>?_;refine .q 0 r tv (.J 1 r ?_);refine CR hd (λa hd=>?_) λa hd=>?_
 . refine .h r (.Q r r a (.AC r r r .mk)) (.h r (.Q r r a (.AC r r r .mk)) (.h r (.Q r r a (.shr' r r (by decide) r r .mk)) ?_));have⟨i,j,b,l,o13,d,c,hd⟩:=R3.ix hd;refine .h r (.Q r r a (.W aH MV d i b r .mk)) (.h r (.Q r r a (.x 0 IA c r .mk)) (.h r (.Q r r a (.AC r r r .mk)) (.Y r ?_)));refine .Q r r a (.AE call58 r (qY (I:=I) hd:) r r λm f=>?_);obtain⟨k,rfl,hd⟩:=f;exact .q 0 r (.X r (.Q r r a (.x 0 IA c r .mk)) (.X r (.Q r r a (.W aH MV d i b r .mk)) (.X r (.Q r r a (.shr' r r (by decide) r r .mk)) (.X r (.Q r r a (.AC r r r .mk)) (.X r (.Q r r a (.AC r r r .mk)) tv))))) (.h r (.Q r r a (.and r r r r .mk)) (.h r (.Q r r a (.ne r r r r .mk)) (.h r (.pickT r a r r r .mk) (.e2 14 (.C 1 16 r (.r0 results292 r ⟨((TI .u64 j k) != 0),r,hd⟩))))))
 refine .gn r a (.gn r a (.gn r a (.gn r a (.gn r a (.gn r a (.gn r a (.gn r a (.gn r a (.h r (.pickF r a r r r .mk) ?_)))))))));exact .e2 14 (.C 1 16 r (.r0 results292 r ⟨false,r,hd⟩))
theorem gS {a0 Q} (R2:lTi I gi1 a0) (hd:RK a0 Q) :
  B6 prog 356 [.agg (LG a0 gi1)] I (λ_=>eO Q):=by
 refine Fun.ee func356 ntmps356 r ?_;refine .F (.bx r λy=>?_);refine .C 1 2 r (.B (.N 1 r (.I QE .z r (.G 1 r (.I AJ .z r ?_)))));refine .u call308 (gR R2.1 hd:) r λt hd=>?_;refine .G 2 r (.T hd [10,11] r (λg hd=>?_) λg hd=>?_)
 . exact .C 7 262146 r (.L r r (.F (.C 1 4 r (.drop .z (.r0 results356 r ⟨false,r,hd⟩)))))
 refine .G 1 r (.O r (.I FK .z r (.O r (.ln CA r (.G 1 r (.O r (.I AJ .z r (.C 2 262146 r (.A r hd (λh hd=>?_) λh hd=>?_)))))))))
 . exact .F (.C 1 4 r (.drop .z (.r0 results356 r ⟨false,r,hd⟩)))
 refine .P 2 r (.B (.N 1 r (.I FK .z r (.ln CA r (.C 1 7340034 r (.E (.lp hd [21,20,1] [0] r (λj E l b=>j ((22,vi b) :: E) l) (ji rf [0] r) ?_)))))));refine λb o hd=>jq r λu a=>?_;have R2:=a.u1 R2;refine .F (.C 1 15728642 r (.B (.A r hd (λi hd=>?_) λi hd=>?_)))
 . refine .P 7340034 r (.B (.E (.N 1 r ?_)));have⟨p,v,k,w,o93,q,m,hd⟩:=R2.2.ix hd;refine .W CA MO q p k r (.x 0 J6 m r (.G 2 r (.U 7340058 3 r (.T hd [28,29] r (λn hd=>?_) λn hd=>?_))))
   . refine .G 1 r (.O r (.I QE .z r (.G 1 r ?_)));refine .O r (.AE call292 r (O0 R2.1 hd:) r r λs d=>?_);obtain⟨x,rfl,hd⟩:=d;refine .C 2 34367078402 r (.A r hd (λe hd=>?_) λe hd=>?_)
     . exact .F (.C 1 4 r (.drop .z (.r1 results356 r a ⟨false,r,hd⟩)))
     exact .P 7340034 r (.D (.G 2 r (.H (je (A4 (b+1)) hd a [0] r))))
   exact .C 6 34367078402 r (.j r r (.P 7340034 r (.D (.G 2 r (.H (je (A4 (b+1)) hd a [0] r))))))
 exact .en 0 r (.drop .z (.F (.C 1 4 r (.r1 results356 r a ⟨true,r,hd⟩))))
theorem AcP {a0 Q} (R2:lTi I gi1 a0) (hd:iJ a0 Q) :
  B6 prog 342 [.agg (LG a0 gi1)] I (AxY Q):=by
 refine Fun.ee func342 ntmps342 r ?_;refine .F (.bx r λx=>?_);refine .al mA r λk=>?_;refine .M 6 r (.B (.F (.S LM FJ .p1 r ?_)));refine .u call356 (gS R2 hd:) r λl hd=>?_;refine .M 22 r (.A r hd (λc hd=>?_) λc hd=>?_)
 . exact .F (.S LM FJ .p1 r (.R FJ .z r (.M 4 r (.drop .p1 (.K (B7 r (.w LM FJ r .z r .n) rf ⟨a0,gi1,r,R2,hd⟩))))))
 refine .P 4 r (.drop .p1 (.F ?_));refine .AD call313 r (WI (I:=I) hd:) r r λm o p e f=>?_;obtain⟨i,q,s,t,u,rfl,a,rfl,hd⟩:=f;refine .R FJ .p1 r (.M 4 r (.pub .z λv g j=>?_));have⟨h,a⟩:=g.u2 e a;exact .K (B7 r (.w LM FJ r .z r .n) h ⟨i,((_,_),(_,_)),r,⟨a,j⟩,hd⟩)
theorem rN {a0 Q} (D:lTi I gi1 a0) (J:WQ a0 Q) :
  Fun prog 343 #[.agg (LG a0 gi1)] I [] (λh v l=>∃ r b3 d,v=.func (.func 357) #[] #[vp b3]∧lTi h d r∧l=[pc b3 (LG r d) 324]∧Q r):=by
 exact Fun.ee func343 ntmps343 r (.F (.bx r λb3=>.G 1 r (.ns 2 r (.mkFn r r r r (.C 1 4 r (.q1 results343 rf [0] r ⟨a0,_,gi1,r,D,r,J⟩))))))
theorem nF {o0 o1 o2 Y Q} (hY:∀ {J_:IH},I.le J_->∀ {y12:Nat} {y13:Vec} {x19:Int} {x20:Int} {p15:Option Addr} {c16:Nat} {Qy:(Bool×Nat×Vec)->Prop},Y y12 y13 x19 x20 Qy->RFun prog lr [vi x19,vi x20] J_ [Rr y12,pc b4 #[vi y13.N,.slice p15 y13.Items.length c16] 235,OwnSl CF 300 p15 c16 y13.Items] (λI_ v l=>∃ r p22 c23,v=.bool r.1∧l=[Rr r.2.1,pc b4 #[vi r.2.2.N,.slice p22 r.2.2.Items.length c23] 235,OwnSl CF 300 p22 c23 r.2.2.Items]∧Qy r)) (R11:lTi I gi10 o2) (hd:S0 o0 o1 o2 Y Q) :
  Fun prog 357 #[.func (.yield lr) #[] #[],vp b9] I [Rr o0,pc b4 #[vi o1.N,.slice p5 o1.Items.length c6] 235,OwnSl CF 300 p5 c6 o1.Items,pc b9 (LG o2 gi10) 324] (λI_ v l=>∃ r p13 c14,v=.tuple #[]∧l=[Rr r.1,pc b4 #[vi r.2.N,.slice p13 r.2.Items.length c14] 235,OwnSl CF 300 p13 c14 r.2.Items,pc b9 (LG o2 gi10) 324]∧Q r):=by
 refine Fun.ee func357 ntmps357 r ?_;refine .N 1 r (.I QE .p3 r ?_);refine .u call335 (ZE R11.1 hd:) r λR hd=>?_;refine .C 1 11 r (.E (.lx hd gK [3] r (λj E l (e,b,k,f)=>λc w=>∃ g h,j ⟨23,[],none⟩ (λI_=>True) ((3,vi k) :: E) (pc b4 #[vi e,.slice g b.length h] 235 :: OwnSl CF 300 g h b :: Rr f :: l) c w) (λc w ho hs=>⟨_,_,jf rf tv Ai0 r ho hs⟩) ?_));rintro⟨e,b,k,f⟩ G hd c w ⟨g,h,A,a,_,hok,hsym⟩;have R11:=a.u1 R11;refine Cod.at hok hsym (.B (.F (.C 2 267 r (.A r hd (λp hd=>?_) λp hd=>?_))))
 . refine .P 11 r (.B (.E (.N 3 r (.I FK .p3 r (.G 1 r ?_)))));have⟨B,C,q,H,o126,D,i,hd⟩:=R11.2.ix hd;refine .W CA MO D B q r (.x 0 J6 i r ?_);have s:=hY (J_:=A) a (y12:=f) (y13:=({ N:=e,Items:=b }:Vec)) (x19:=k) (x20:=C) (p15:=g) (c16:=h) hd;refine .callY r r (.o [2,0,0] r) s r r λJ K L t u=>?_;obtain⟨d,O,P,rfl,rfl,hd⟩:=u;have⟨m,R11,i⟩:=t.u3 a R11 i;refine .rn 4 r (.C 1 4194315 r (.A r hd (λx hd=>?_) λx hd=>?_))
   . exact .K (DX r .n m (.o VA r) ⟨(d.2.1,d.2.2),_,_,r,r,hd⟩)
   refine .P 11 r (.D (.G 1 r (.I QE .p3 r (.G 2 r ?_))));refine .u call335 (ZE R11.1 hd:) r λF hd=>?_;exact .G 1 r (.H λc w ho hs=>⟨_,hd,_,_,jf m tv Ai0 r ho hs⟩)
 exact .exit (H3 r .n a (.o [2,0,0,0] r) ⟨(f,({ N:=e,Items:=b }:Vec)),_,_,r,r,hd⟩)
theorem AcQ {a0 Q} (R2:lTi I gi1 a0) (hd:YP a0 Q) :
  B6 prog 316 [.agg (LG a0 gi1)] I (AxZ Q):=by
 refine Fun.en func316 ntmps316 r λw0 M=>?_;refine .marks0 (.F (.bx r λW=>?_));refine .al CG r λX=>?_;refine .ns 6 r (.S LM FJ .p1 r ?_);refine .ca call342 r (AcP R2 hd:) λY Z b t=>?_;obtain⟨E,K,rfl,d,hd⟩:=t;have R2:=b.u1 R2;refine .R FJ .p1 r (.U 6 1 r (.I AJ .p1 r (.bd CG F5 GY r (.al CG r λF=>?_))));refine .R AM .z r (.M 14 r (.B (.F (.S LM FJ .p2 r ?_))));refine .cS (.f call343 r) .n r (rN d hd:) λa1 G a2 v x=>?_;obtain⟨H,J,y,rfl,a,rfl,hd⟩:=x;have⟨A,d⟩:=v.u2 b d;refine .rn 5 r (.M 4108 r (.drop .p3 (.E (.own0 CF 300 (.rangeF [] r call357 (.o [4,2,0,0] r) λlr D rc hrc=>?_)))));refine⟨_,nF (I:=G) (lr:=lr) (Rr:=fD lr [] rc) (o0:=0) (o1:=({ N:=E.N,Items:=([]:List B9) }:Vec)) (o2:=H) (b4:=F) (p5:=none) (c6:=0) (b9:=J) (gi10:=y) ?_ a hd,?_⟩
 . intro I hJ a3 p q e a4 a5 Qy  hd
   replace a:=hJ.u1 a
   obtain⟨rfl,hd⟩:=hd;refine RFun.mk hrc r λw0 M=>?_;refine .F (.C 1 16408 r (.D (.G 1 r (.H λc w ho hs=>tD (E':=[(3,_),(4,_),(5,_)]) ho ⟨r,r,r,tv⟩ hs .z (.E (.D (.G 1 r (.I HU .p1 r (.G 2 r ?_)))))))));refine .bd LN uT uR r (.bs 1 DU DL LN r λL=>?_);have⟨g,hd⟩:=hd;refine .ap (ys:=[({ At:=q,Val:=e }:B9)]) .p3 DU DU uQ r (.box .z (.one r) r) g λO P=>?_;refine .G 1 r (.s1 sizeOf233 .p3 r ?_);exact .H λc w ho hs=>AgI 0 (.inl rfl) rf .p2 (.o [2,0] rfl) ⟨(true,0,({ N:=p.N,Items:=(p.Items++([({ At:=q,Val:=e }:B9)])) }:Vec)),_,_,rfl,rfl,hd⟩ hs
 intro R S l' h j;obtain⟨B,T,U,rfl,rfl,hd⟩:=j;have⟨k,a⟩:=h.u2 A a;have⟨hz,hd⟩:=hd;refine⟨_,_,r,λhj=>?_,λi hj=>absurd (hz.symm.trans hj) (by simp)⟩;refine .rn 5 r (.mkS 12 r r (.drop .p3 (.F (.S BK AM .p1 r (.R AM .p3 r (.M 4 r (.drop .p1 (.pub .p1 λV l C=>?_))))))));have m:=l.u1 k;exact .K (yP .z results316 (.w BK AM r .z r .n) m ⟨B.2,_,_,r,C,hd⟩)
theorem ZG {a0 Q} (R2:lTj I gj1 a0) (hd:PQ a0 Q) :
  B6 prog 279 [.agg (AoT a0 gj1)] I (AxZ Q):=by
 refine Fun.ee func279 ntmps279 r ?_;refine .F (.bx r λD=>?_);refine .al CG r λF=>?_;refine .M 6 r (.B (.E (.N 1 r (.I isAgg223 .p1 r (.C 2 14 r (.A r hd (λd hd=>?_) λd hd=>?_))))))
 . refine .N 1 r (.y LM FJ r .p1 (.o 3 r) r r r ?_);refine .ca call316 r (AcQ R2.2 hd:) λG H b f=>?_;obtain⟨x,J,K,rfl,y,hd⟩:=f;have R2:=b.u1 R2;exact .R AM .z r (.M 4 r (.drop .p1 (.K (B7 r (.w BK AM r .z r .n) b ⟨x,_,_,r,y,hd⟩))))
 refine .B (.jn hd [2,1] gK r (λj E l c=>j ((10,.bool c) :: E) l) (λL hd=>?_) ?_)
 . refine .D (.G 1 r (.I isAgg223 .p1 r (.G 2 r (.T hd [13,14] r (λg hd=>?_) λg hd=>?_))))
   . refine .G 1 r (.O r (.y BK AM r .p1 (.o 2 r) r r r ?_));refine .O r (.AE call270 r (FS R2.1 hd:) r r λO k=>?_);obtain⟨A,rfl,hd⟩:=k;exact .G 2 r (.H (je A hd rf gK r))
   exact .G 5 r (.H (je false hd rf gK r))
 refine λc hd=>jq r λP a=>?_;have R2:=a.u1 R2;refine .A r hd (λm hd=>?_) λm hd=>?_
 . refine .B (.dr AuB 8 (.J 2 r (.V AJ 0 r (.J 2 r (.V HU 0 r (.Y r ?_))))));refine .AD call237 r (BP R2.1 hd:) r r λR S T q s=>?_;obtain⟨B,U,V,rfl,rfl,hd⟩:=s;have⟨t,R2⟩:=q.u2 a R2;refine .q 3 r (.X r (.I AJ .p1 r .mk) (.Z 2 r r tv)) (.h r (.bd CG F5 GY r .mk) (.e2 8 (.R AM .p2 r (.M 4 r (.drop .p1 (.pub .z λW u C=>?_))))));have v:=u.u1 t;exact .K (B7 r (.w BK AM r .z r .n) v ⟨({ N:=a0.Vec.N,Items:=B }:Vec),_,_,r,C,hd⟩)
 exact .P 4 r (.drop .z (.F (.bd CG F5 GY r (.R AM .z r (.M 4 r (.K (B7 r (.w BK AM r .z r .n) a ⟨CL,_,_,r,(.nil _ _ _),hd⟩)))))))
theorem AfI {a0 Q} (R2:nQ I gb1 a0) (hd:dU a0 Q) :
  B6 prog 280 [.agg (LF a0 gb1)] I (λ_=>Z6 Q):=by
 refine Fun.ee func280 ntmps280 r ?_;refine .F (.bx r λg=>?_);refine .G 1 r (.ns 2 r (.S D0 BL .z r ?_));refine .ca call227 r (UU R2 hd:) λh i a c=>?_;obtain⟨d,e,rfl,f,hd⟩:=c;have R2:=a.u1 R2;exact .field1 qN r F9 r r r r (.ln BD r (.C 1 4 r (.drop .z (.r1 results280 r a ⟨(d.Col.length:Int),r,hd⟩))))
theorem AcR {a0 Q} (V:RepSl EV I p1 c2 a0) (U:YQ a0 Q) :
  B6 prog 285 [.slice p1 a0.length c2] I (λ_=>eO Q):=by
 refine Fun.ee func285 ntmps285 r (.F (.C 1 1 r (.B (.N 1 r (.ln EK r (.C 1 97 r (.E (.lp U [5,0] [] r (λj E l c=>j ((6,vi c) :: E) l) (ji rf [] r) ?_))))))));refine λc _ U=>jq r λ_ a=>?_;have V:=a.u1 V;refine .F (.C 1 225 r (.B (.A r U (λd U=>?_) λd U=>?_)))
 . refine .P 97 r (.B (.E (.F (.C 2 105 r (.B (.dr ArS 16 (.J 3 r ?_)))))));refine CR U (λb U=>?_) λb U=>?_
   . rw[b];refine .J 3 r ?_;have⟨n,_,e,_,_,o,f,U⟩:=V.ix U;refine .h r (.O r (.W EK FH o n e r .mk)) (.J 1 r (.h r (.O r (.x 0 AJ f r .mk)) (.J 2 r ?_)));have⟨p,_,g,_,_,q,i,U⟩:=V.ix U;refine .h r (.O r (.W EK FH q p g r .mk)) (.J 1 r (.h r (.O r (.x 0 AJ i r .mk)) (.J 2 r (.e2 16 (.M 16777313 r (.A r U (λk U=>?_) λk U=>?_))))))
     . exact .F (.C 1 4 r (.r1 results285 r a ⟨false,r,U⟩))
     exact .P 97 r (.D (.G 2 r (.H (je (A4 (c+1)) U a [] r))))
   rw[b];exact .J 13 r (.e2 16 (.M 16777313 r (.j r r (.P 97 r (.D (.G 2 r (.H (je (A4 (c+1)) U a [] r))))))))
 exact .en 0 r (.F (.C 1 4 r (.r1 results285 r a ⟨true,r,U⟩)))
theorem pK {a0 Q} (h:RepSl EL I p1 c2 a0) (d:OJ a0 Q) :
  B6 prog 287 [.slice p1 a0.length c2] I (λ_=>Z6 Q):=by
 exact Fun.ee func287 ntmps287 r (.N 1 r (.U 1 1 r (.ln OX r (.C 1 4 r (.r0 results287 r ⟨(a0.length:Int),r,d⟩)))))
theorem jJ {a0 Q} (h:RepSl EV I p1 c2 a0) (d:PR a0 Q) :
  Fun prog 284 #[.slice p1 a0.length c2] I [] (λ_ v l=>∃ r,v=.bool r∧l=[]∧Q r):=by
 exact Fun.ee func284 ntmps284 r (.N 1 r (.U 1 1 r (.u call285 (AcR h d:) r λb d=>.C 2 4 r (.q1 results284 rf [] r ⟨(!b),r,r,d⟩))))
theorem LR {a0 Q} (R3:RepSl (nZ EV) I p1 c2 a0) (hd:E7 a0 Q) :
  Fun prog 320 #[.slice p1 a0.length c2,.func (.func 284) #[] #[]] I [] (λI_ v l=>∃ r,v=vi r∧l=[]∧Q r):=by
 refine Fun.ee func320 ntmps320 r ?_;refine .F (.C 1 3 r (.B (.N 1 r (.ln qQ r (.C 1 387 r (.E (.lp hd vW [] r (λj E l d=>j ((8,vi d) :: E) l) (ji rf [] r) ?_)))))));refine λd p hd=>jq r λu a=>?_;have R3:=a.u1 R3;refine .F (.C 1 899 r (.B (.A r hd (λh hd=>?_) λh hd=>?_)))
 . refine .P 387 r (.B (.E (.N 2 r (.U 419 3 r ?_))));have⟨q,w,e,hd⟩:=hd;obtain⟨x,o61,t,s,b,y,z,rfl,f⟩:=R3.2 _ _ e;refine .W qQ ZY s q e r (.x 0 K7 b r ?_);refine .cS (.c call284 r r) .n r (jJ f hd:) λA B C k m=>?_;obtain⟨D,rfl,rfl,hd⟩:=m;have⟨g,R3,f,b⟩:=k.u4 a R3 f b;refine .rn 0 r (.M 65955 r (.A r hd (λo hd=>?_) λo hd=>?_))
   . exact .F (.C 2 18 r (.q1 results320 g [] r ⟨d,r,r,hd⟩))
   exact .P 387 r (.D (.G 2 r (.H (je (A4 (d+1)) hd g [] r))))
 exact .en 2 r (.F (.C 1 18 r (.q1 results320 a [] r ⟨(-1),r,r,hd⟩)))
theorem K8 {a0 Q} (R3:RepSl (nZ EV) I p1 c2 a0) (hd:CM a0 Q) :
  Fun prog 283 #[.slice p1 a0.length c2,.func (.func 284) #[] #[]] I [] (λI_ v l=>∃ r,v=.bool r∧l=[]∧Q r):=by
 refine Fun.ee func283 ntmps283 r ?_;refine .N 1 r (.U 3 2 r ?_);refine .cS (.f call320 r) .n r (LR R3 hd:) λe g h a c=>?_;obtain⟨d,rfl,rfl,hd⟩:=c;have R3:=a.u1 R3;exact .rn 0 r (.C 2 18 r (.q1 results283 a [] r ⟨(decide (0<=d)),r,r,hd⟩))
theorem aL {o0 a0 Q} (D:RepSl EV I p11 c12 a0.l) (d:MI o0 a0 Q) :
  Fun prog 399 #[vp b2,.iface 394 (.agg #[.slice p11 a0.l.length c12,vi a0.which])] I (kL2 o0 b2 p3 c4 p6 c7) (fun _ v l=>∃ r p15 c16 W O,v=.tuple #[]∧l=(kL2 r b2 p15 c16 W O)∧Q r):=by
 refine Fun.ee func399 ntmps399 r (.N 1 r (.assertOk underlying394 r r r r (.G 3 r (.al zeroValue394 r fun _=>.R K6 .z r (.G 1 r (.U 49 1 r (.M 2065 r (.L r r (.dr nl8 7 (.J 3 r (.V UL 1 r (.h r (.S isAgg394 K6 .z r .mk) (.Y r ?_)))))))))))))
 refine .bs 1 OX K6 zeroValue394 r fun _=>.q 5 r (.X r (.I UL .p2 r .mk) (.Z 3 r r tv)) (.Y r ?_)
 obtain ⟨a,d⟩:=d
 exact .ap (ys:=[a0]) .p3 OX OX AxQ r (.box .z (.one ⟨_,_,r,D⟩) r) a fun _ _=>.q 5 r (.Z 1 r r tv) (.e2 7 (.G 1 r (.s1 sizeOf362 .p3 r (.H (H3 r .n rf (.o [3,0,2] r) ⟨({ o0 with heads:=(o0.heads++([a0])) }:AF),_,_,_,_,r,r,d⟩)))))
theorem RU {o0 Q} (d:H4 o0 Q) :
  Fun prog 287 #[.slice p2 o0.length c3] I [OwnSl EL 394 p2 c3 o0] (λ_ v l=>∃ r,v=vi r∧l=[OwnSl EL 394 p2 c3 o0]∧Q r):=by
 exact Fun.ee func287 ntmps287 r (.N 1 r (.U 1 1 r (.ln OX r (.C 1 5 r (.q1 results287 rf [0] r ⟨(o0.length:Int),r,r,d⟩)))))
end Go.Proofs.YtieniichmjgmcaaGreat
