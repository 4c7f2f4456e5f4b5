/- The walks (printed by a program of ours). -/
import Derived.Test.YtccpfgdefibdnaaGreatV1
namespace Go.Proofs.YtccpfgdefibdnaaGreat
open Go Go.Fw
set_option linter.unusedVariables false
set_option linter.unusedSimpArgs false
set_option maxRecDepth 8000
set_option maxHeartbeats 1000000
open Tryz
theorem W_ring_Mul {I:IH} {a0:Int} {a1:Int} {a2:Int} {Q:Wide→Prop}  (hd:ring_Mul a0 a1 a2 Q) :
  PFun prog 166 [.int .i64 a0,.int .i64 a1,.int .i64 a2] I (fun _=>o3_ Q):=by
 refine Fun.enter func166 r ntmps166 r (.c (.c (.c .n))) fun w0 M=>?_
 refine .sr (.allocA zv155 r r fun h=>?_)
 refine .nilS [6,2,1,0] r r (.seq (.sr (.ks 1 r (.nilS [8,6,2,1,0] r r (.block (.sr (.ks 2 r (.nilS [9,8,6,2,1,0] r r (.condP r hd (fun E hd=>?_) fun E hd=>?_)))))))))
 · refine .sr (.ks 3 r ?_)
   refine splitP hd (fun d hd=>?_) fun d hd=>?_
   · rw [d]
     refine .ks 3 r ?_
     have F:=W_ring_truth (I:=I) hd
     refine .callP call191 r F r r fun b7 G=>?_
     obtain ⟨a3,rfl,hd⟩:=G
     exact .storeA sz155 r r .z (.t (.t .nil)) r r (.nilS [6] r r (.ret (pret results166 (.w ia155 sz155 r .z r .n) (.refl _) ⟨a3,r,hd⟩)))
   rw [d]
   refine .ks 3 r ?_
   have H:=W_ring_truth (I:=I) hd
   refine .callP call191 r H r r fun b8 J=>?_
   obtain ⟨a4,rfl,hd⟩:=J
   exact .storeA sz155 r r .z (.t (.t .nil)) r r (.nilS [6] r r (.ret (pret results166 (.w ia155 sz155 r .z r .n) (.refl _) ⟨a4,r,hd⟩)))
 refine .sr (.ks 2 r (.nilS [18,6,2,1,0] r r (.condP r hd (fun K hd=>?_) fun K hd=>?_)))
 · refine .sr (.ks 2 r ?_)
   have L:=W_wide_Mul (I:=I) hd
   refine .callP call192 r L r r fun b9 N=>?_
   obtain ⟨a5,rfl,hd⟩:=N
   exact .storeA sz155 r r .z (.t (.t .nil)) r r (.nilS [6] r r (.ret (pret results166 (.w ia155 sz155 r .z r .n) (.refl _) ⟨a5,r,hd⟩)))
 refine .skipS [6,2,1,0] r r (.seq ?_)
 refine Cod.joinQ (σ:=Unit) hd (fun (_:Unit) c w=>∃ I_,IH.le I I_∧Ok ⟨51,[],none⟩ [(0,.int .i64 a0),(1,.int .i64 a1),(2,.int .i64 a2),(6,.pointer (some ⟨h,0,none⟩))] c∧Sym w0 M I I_ [pto h (.cells #[.int .i64 0,.int .u64 0] 155 (0,0))] w) (fun c0 hd=>?_) ?_
 · skip
   refine .sr (.ks 1 r ?_)
   have O:=W_ring_Is (I:=I) hd
   refine .callP call121 r O r r fun c1 P=>?_
   obtain ⟨c2,rfl,hd⟩:=P
   refine .ks 1 r ?_
   refine splitP hd (fun e hd=>?_) fun e hd=>?_
   · rw [e]
     refine .ks 2 r (.gyes r r r (.maxI r r r r (.ks 2 r (.nilS [30,6,2,1,0] r r (.condP r hd (fun R hd=>?_) fun R hd=>?_)))))
     · refine .sr ?_
       have S:=W_wide_Of (I:=I) hd
       refine .callP call181 r S r r fun c3 T=>?_
       obtain ⟨a6,rfl,hd⟩:=T
       exact .storeA sz155 r r .z (.t (.t .nil)) r r (.nilS [6] r r (.ret (pret results166 (.w ia155 sz155 r .z r .n) (.refl _) ⟨a6,r,hd⟩)))
     exact .skip' fun c w ho hs=>⟨(),hd,I,(.refl _),ho.sub ⟨r,r,r,r,trivial⟩,hs.pick (.c .z .n)⟩
   rw [e]
   exact .ks 5 r (.nilS [30,6,2,1,0] r r (.condKF r r (.skip' fun c w ho hs=>⟨(),hd,I,(.refl _),ho.sub ⟨r,r,r,r,trivial⟩,hs.pick (.c .z .n)⟩)))
 rintro ⟨⟩ hd c w hst
 obtain ⟨b,f,hok,hsym⟩:=hst
 refine Cod.at hok hsym (.sr (.build zv155 un155 BI155 .n (by exact trivial) r r (.allocA zv155 r r fun A=>?_)))
 refine .storeA sz155 r r .z (.t (.t .nil)) r r (.nilS [7,6,2,1,0] r r (.seq (.sr (.ks 1 r (.nilS [33,7,6,2,1] r r (.block (.seq (.block (.seq ?_)))))))))
 refine Cod.joinQ (σ:=Int×Int) hd (fun (s:Int×Int) c w=>match s with | (B,C)=>∃ I_,IH.le b I_∧Ok ⟨51,[],none⟩ [(2,.int .i64 a2),(6,.pointer (some ⟨h,0,none⟩)),(7,.pointer (some ⟨A,0,none⟩))] c∧Sym w0 M I I_ [pto h (.cells #[.int .i64 0,.int .u64 0] 155 (0,0)),pto A (.cells #[.int .i64 B,.int .u64 C] 155 (0,0))] w) (fun c4 hd=>?_) ?_
 · skip
   refine .block (.seq (.block (.seq (.seq (.sr (.ks 2 r (.nilS [34,33,7,6,2,1] r r (.condP r hd (fun U hd=>?_) fun U hd=>?_))))))))
   · refine .exitS [7,6,2,1] r r (.region (.ks 1 r ?_))
     have V:=W_wide_Of (I:=b) hd
     refine .callP call181 r V r r fun c5 W=>?_
     obtain ⟨D,rfl,hd⟩:=W
     exact .storeA sz155 r r .z (.t (.t .nil)) r r (.nil' fun c w ho hs=>⟨(D.Hi,D.Lo),hd,b,(.refl _),ho.sub ⟨r,r,r,trivial⟩,hs.pick (.c (.s .z) (.c .z .n))⟩)
   refine .skipS [33,7,6,2,1] r r (.seq (.sr (.ks 2 r (.nilS [36,33,7,6,2,1] r r (.condP r hd (fun X hd=>?_) fun X hd=>?_)))))
   · exact .exit fun c w ho hs=>⟨(0,0),hd,b,(.refl _),ho.sub ⟨r,r,r,trivial⟩,hs.pick (.c (.s .z) (.c .z .n))⟩
   refine .skipS [33,7,6,1] r r (.sr (.ks 2 r (.nilS [38,7,6,1] r r (.condP r hd (fun Y hd=>?_) fun Y hd=>?_))))
   · refine .exitS [6,1] r r (.drop .z (.seq (.sr (.ks 1 r ?_))))
     have i:=W_wide_Of (I:=b) hd
     refine .callP call181 r i r r fun a8 j=>?_
     obtain ⟨a7,rfl,hd⟩:=j
     exact .storeA sz155 r r .z (.t (.t .nil)) r r (.nilS [6] r r (.ret (pret results166 (.w ia155 sz155 r .z r .n) f ⟨a7,r,hd⟩)))
   exact .skipS [7,6] r r (.exitS [7,6] r r (.sr (.loadW ia155 sz155 r .z r r r (.storeA sz155 r r (.s .z) (.t (.t .nil)) r r (.nilS [6] r r (.drop .z (.ret (pret results166 (.w ia155 sz155 r .z r .n) f ⟨({ Hi:=0,Lo:=0 }:Wide),r,hd⟩))))))))
 rintro ⟨B,C⟩ hd c w hst
 obtain ⟨a,k,hok,hsym⟩:=hst
 have l:=IH.le.trans f k
 refine Cod.at hok hsym (.seq (.seq (.dr [1,2,0,3,4,5] 6 (.g r r r (fun _=>.loadW ia155 sz155 r (.s .z) r r r .mk) (.fk 1 r (.ww r fun ex=>?_))))))
 have m:=W_wide_Of (I:=a) hd
 refine .callP call181 r m r r fun a9 o=>?_
 obtain ⟨b0,rfl,hd⟩:=o
 refine .so 2 r r r (.ck 1 r r (.cg r r r r (fun _=>.loadW ia155 sz155 r (.s .z) r r r .mk) trivial)) (.ww r fun ex=>?_)
 have p:=W_wide_Of (I:=a) hd
 refine .callP call181 r p r r fun b1 q=>?_
 obtain ⟨b2,rfl,hd⟩:=q
 refine .so 2 r r r (.cg r r r r (fun _=>.loadW ia155 sz155 r (.s .z) r r r .mk) trivial) (.ww r fun ex=>?_)
 have u:=W_wide_Add (I:=a) hd
 refine .callP call194 r u r r fun b4 v=>?_
 obtain ⟨b5,rfl,hd⟩:=v
 refine .so 2 r r r trivial (.ww r fun ex=>?_)
 have x:=W_ring_lesser (I:=a) hd
 refine .callP call193 r x r r fun b6 y=>?_
 obtain ⟨Z,rfl,hd⟩:=y
 exact .so 2 r r r trivial (.e2 6 (.storeA sz155 r r .z (.t (.t .nil)) r r (.nilS [6] r r (.drop (.s .z) (.ret (pret results166 (.w ia155 sz155 r .z r .n) l ⟨Z,r,hd⟩))))))
theorem W_pull_adder_6fc {I:IH} {a0:Int} {Q:(Bool×Int×Wide)→Prop}  (hd:pull_adder_6fc a0 Q) :
  Fun prog 165 #[.int .i64 a0] I [] (fun I_ v l=>∃ r b1 b2 b3,v=.tuple #[.func (.func 189) #[] #[.pointer (some ⟨b1,0,none⟩),.pointer (some ⟨b2,0,none⟩),.pointer (some ⟨b3,0,none⟩)],.func (.func 190) #[] #[.pointer (some ⟨b3,0,none⟩),.pointer (some ⟨b1,0,none⟩)]]∧l=[pto b1 (.cells #[.bool r.1] 4 (0,0)),pto b2 (.cells #[.int .i64 r.2.1] 85 (0,0)),pto b3 (.cells #[.int .i64 r.2.2.Hi,.int .u64 r.2.2.Lo] 155 (0,0))]∧Q r):=by
 refine Fun.enter (vs:=[.int .i64 a0]) func165 r ntmps165 r (.c .n) fun w0 M=>?_
 refine .sr (.box1 r r r r fun b3=>?_)
 refine .ks 2 r (.nilS [1] r r (.sr (.allocA zv155 r r fun a=>?_)))
 refine .nilS [4,1] r r (.sr (.alloc1 zeroValue4 r r r fun b=>?_))
 refine .store1 sizeOf4 r r .z (.t .nil) r (.nilS [5,4,1] r r (.sr (.mkFn r r r r (.ks 1 r (.nilS [2,5,4] r r (.sr (.ks 1 r (.mkFn r r r r (.ks 2 r ?_)))))))))
 exact .nilS [3,2] r r (.ret (oret results165 (.t r (.t r .n)) (.refl _) (.c .z (.c (.s .z) (.c .z .n))) ⟨(false,a0,({ Hi:=0,Lo:=0 }:Wide)),_,_,_,r,r,hd⟩))
theorem W_pull_adder_1_b72 {I:IH} {o0:Bool} {o1:Int} {o2:Wide} {a0:Wide} {b4:Nat} {b5:Nat} {b6:Nat} {Q:(Bool×Wide)→Prop}  (hd:pull_adder_1_b72 o0 o1 o2 a0 Q) :
  Fun prog 189 #[.agg (encWide a0).toArray,.pointer (some ⟨b4,0,none⟩),.pointer (some ⟨b5,0,none⟩),.pointer (some ⟨b6,0,none⟩)] I [pto b4 (.cells #[.bool o0] 4 (0,0)),pto b5 (.cells #[.int .i64 o1] 85 (0,0)),pto b6 (.cells #[.int .i64 o2.Hi,.int .u64 o2.Lo] 155 (0,0))] (fun I_ v l=>∃ r,v=.tuple #[]∧l=[pto b4 (.cells #[.bool r.1] 4 (0,0)),pto b5 (.cells #[.int .i64 o1] 85 (0,0)),pto b6 (.cells #[.int .i64 r.2.Hi,.int .u64 r.2.Lo] 155 (0,0))]∧Q r):=by
 refine Fun.enter (vs:=[.agg (encWide a0).toArray,.pointer (some ⟨b4,0,none⟩),.pointer (some ⟨b5,0,none⟩),.pointer (some ⟨b6,0,none⟩)]) func189 r ntmps189 r (.c (.c (.c (.c .n)))) fun w0 M=>?_
 refine .sr (.boxA r r r fun g=>?_)
 refine .nilS [4,3,2,1] r r (.seq (.sr (.load1 isAgg4 r (.s .z) r r r (.nilS [5,4,3,2,1] r r (.condP r hd (fun a hd=>?_) fun a hd=>?_)))))
 · refine .region (.load1 isAgg85 r (.s (.s .z)) r r r (.loadW ia155 sz155 r (.s (.s (.s .z))) r r r (.loadW ia155 sz155 r .z r r r ?_)))
   have b:=W_ring_Add (I:=I) hd
   refine .callP call182 r b r r fun f d=>?_
   obtain ⟨e,rfl,hd⟩:=d
   exact .storeA sz155 r r .z (.t (.t .nil)) r r (.nilS [4,3,1] r r (.region (.loadW ia155 sz155 r .z r r r (.storeA sz155 r r (.s (.s (.s .z))) (.t (.t .nil)) r r (.store1 sizeOf4 r r (.s .z) (.t .nil) r (.nil' (oretN results189 .n (.refl _) (.c (.s .z) (.c (.s .z) (.c (.s .z) .n))) ⟨(true,e),r,r,hd⟩)))))))
 exact .skipS [4,3,1] r r (.region (.loadW ia155 sz155 r .z r r r (.storeA sz155 r r (.s (.s (.s .z))) (.t (.t .nil)) r r (.store1 sizeOf4 r r (.s .z) (.t .nil) r (.nil' (oretN results189 .n (.refl _) (.c (.s .z) (.c (.s .z) (.c (.s .z) .n))) ⟨(true,a0),r,r,hd⟩))))))
theorem W_pull_adder_2_cdb {I:IH} {o0:Wide} {o1:Bool} {b3:Nat} {b4:Nat} {Q:(Wide×Bool)→Prop}  (hd:pull_adder_2_cdb o0 o1 Q) :
  Fun prog 190 #[.pointer (some ⟨b3,0,none⟩),.pointer (some ⟨b4,0,none⟩)] I [pto b3 (.cells #[.int .i64 o0.Hi,.int .u64 o0.Lo] 155 (0,0)),pto b4 (.cells #[.bool o1] 4 (0,0))] (fun I_ v l=>∃ r,v=.tuple #[.agg (encWide r.1).toArray,.bool r.2]∧l=[pto b3 (.cells #[.int .i64 o0.Hi,.int .u64 o0.Lo] 155 (0,0)),pto b4 (.cells #[.bool o1] 4 (0,0))]∧Q r):=by
 refine Fun.enter (vs:=[.pointer (some ⟨b3,0,none⟩),.pointer (some ⟨b4,0,none⟩)]) func190 r ntmps190 r (.c (.c .n)) fun w0 M=>?_
 refine .sr (.allocA zv155 r r fun a=>?_)
 refine .ks 1 r (.nilS [2,1,0] r r (.seq (.dr [0,1,2] 3 (.g r r r (fun _=>.loadW ia155 sz155 r (.s .z) r r r .mk) (.g r r r (fun _=>.load1 isAgg4 r (.s (.s .z)) r r r .mk) (.ww r fun ex=>?_))))))
 exact .storeA sz155 r r .z (.t (.t .nil)) r r (.sn 3 r r r (.cg r r r r (fun _=>.load1 isAgg4 r (.s (.s .z)) r r r .mk) trivial) (.e2 3 (.ks 1 r (.nilS [3,2,1,0] r r (.ret (oret results190 (.w ia155 sz155 r .z r (.t r .n)) (.refl _) (.c (.s .z) (.c (.s .z) .n)) ⟨(o0,o1),r,r,hd⟩))))))
theorem W_pull_row {I:IH} {a0:Int} {a1:Rows} {a2:Int} {a3:Dense} {p1:Option Addr} {c2:Nat} {p4:Option Addr} {c5:Nat} {p7:Option Addr} {c8:Nat} {p10:Option Addr} {c11:Nat} {p13:Option Addr} {c14:Nat} {Q:(Wide×Bool)→Prop} (R3:RepSl eI64 I p1 c2 a1.Start) (R6:RepSl eI64 I p4 c5 a1.Col) (R9:RepSl eI64 I p7 c8 a1.Val) (R12:RepSl eU64 I p10 c11 a3.Has) (R15:RepSl eI64 I p13 c14 a3.Vals) (hd:pull_row a0 a1 a2 a3 Q) :
  PFun prog 123 [.int .i64 a0,.agg #[.int .i64 a1.Rows,.int .i64 a1.Cols,.slice p1 a1.Start.length c2,.slice p4 a1.Col.length c5,.slice p7 a1.Val.length c8],.int .i64 a2,.agg #[.int .i64 a3.N,.slice p10 a3.Has.length c11,.slice p13 a3.Vals.length c14]] I (fun I_ v=>∃ r,v=.tuple #[.agg (encWide r.1).toArray,.bool r.2]∧Q r):=by
 refine Fun.enter func123 r ntmps123 r (.c (.c (.c (.c .n)))) fun w0 M=>?_
 refine .sr (.boxA r r r fun C=>?_)
 refine .boxA r r r fun D=>?_
 refine .allocA zv155 r r fun A=>?_
 refine .ks 1 r (.nilS [8,7,5,2,0] r r (.sr (.ks 1 r ?_)))
 have c3:=W_pull_adder_6fc (I:=I) (a0:=a0) hd
 refine .callS (.f call165 r) .n c3 r r fun g1 c0 g2 d c4=>?_
 obtain ⟨p,l,B,m,rfl,rfl,hd⟩:=c4
 replace R3:=R3.mono d
 replace R6:=R6.mono d
 replace R9:=R9.mono d
 replace R12:=R12.mono d
 replace R15:=R15.mono d
 refine .re (m':=[pto l (.cells #[.bool p.1] 4 (0,0)),pto B (.cells #[.int .i64 p.2.1] 85 (0,0)),pto m (.cells #[.int .i64 p.2.2.Hi,.int .u64 p.2.2.Lo] 155 (0,0)),pto A (.cells #[.int .i64 0,.int .u64 0] 155 (0,0)),pto D (.cells #[.int .i64 a3.N,.slice p10 a3.Has.length c11,.slice p13 a3.Vals.length c14] 88 (0,0)),pto C (.cells #[.int .i64 a1.Rows,.int .i64 a1.Cols,.slice p1 a1.Start.length c2,.slice p4 a1.Col.length c5,.slice p7 a1.Val.length c8] 53 (0,0))]) r (.ks 5 r (.nilS [11,10,8,7,5,2,0] r r (.seq (.sr (.fa un53 r sz51 r (o:=2) r r r (.load1 ia51 r (.s (.s (.s (.s (.s .z))))) r r r (.ks 1 r ?_)))))))
 obtain ⟨c1,g3,L,hd⟩:=hd
 obtain ⟨g4,o67,e4,d6,c6,c7⟩:=R3.2 _ _ L
 cases c7
 refine .ixa un51 sz3 r d6 r c1 (idx_lt L c1) r r (.ld1 (j:=0) ia3 c6 r r r r r (.ks 1 r (.nilS [12,11,10,8,7,5,2,0] r r (.block (.loop hd (fun (s:Bool×Int×Int×Int) c w=>match s with | (e,h,i,u)=>∃ I_,IH.le c0 I_∧Ok ⟨61,[],none⟩ [(0,.int .i64 a0),(2,.int .i64 a2),(5,.pointer (some ⟨C,0,none⟩)),(7,.pointer (some ⟨D,0,none⟩)),(8,.pointer (some ⟨A,0,none⟩)),(10,.func (.func 189) #[] #[.pointer (some ⟨l,0,none⟩),.pointer (some ⟨B,0,none⟩),.pointer (some ⟨m,0,none⟩)]),(11,.func (.func 190) #[] #[.pointer (some ⟨m,0,none⟩),.pointer (some ⟨l,0,none⟩)]),(12,.int .i64 u)] c∧Sym w0 M I I_ [pto C (.cells #[.int .i64 a1.Rows,.int .i64 a1.Cols,.slice p1 a1.Start.length c2,.slice p4 a1.Col.length c5,.slice p7 a1.Val.length c8] 53 (0,0)),pto D (.cells #[.int .i64 a3.N,.slice p10 a3.Has.length c11,.slice p13 a3.Vals.length c14] 88 (0,0)),pto A (.cells #[.int .i64 0,.int .u64 0] 155 (0,0)),pto l (.cells #[.bool e] 4 (0,0)),pto B (.cells #[.int .i64 p.2.1] 85 (0,0)),pto m (.cells #[.int .i64 h,.int .u64 i] 155 (0,0))] w) (fun c w ho hs=>⟨c0,(.refl _),ho.sub ⟨r,r,r,r,r,r,r,r,trivial⟩,hs.pick (.c (.s (.s (.s (.s (.s .z))))) (.c (.s (.s (.s (.s .z)))) (.c (.s (.s (.s .z))) (.c .z (.c .z (.c .z .n))))))⟩) ?_)))))
 rintro ⟨e,h,i,u⟩ d5 hd c w hst
 obtain ⟨q,a,hok,hsym⟩:=hst
 have E:=IH.le.trans d a
 replace R3:=R3.mono a
 replace R6:=R6.mono a
 replace R9:=R9.mono a
 replace R12:=R12.mono a
 replace R15:=R15.mono a
 refine Cod.at hok hsym (.seq (.sr (.ks 1 r (.fa un53 r sz51 r (o:=2) r r r (.load1 ia51 r .z r r r (.ks 2 r ?_))))))
 obtain ⟨O,e5,F,hd⟩:=hd
 obtain ⟨e6,o268,d7,c9,U,V⟩:=R3.2 _ _ F
 cases V
 refine .ixa un51 sz3 r c9 r O (idx_lt F O) r r (.ld1 (j:=0) ia3 U r r r r r (.ks 1 r (.nilS [31,12,11,10,8,7,5,2,0] r r (.condP r hd (fun W hd=>?_) fun W hd=>?_))))
 · refine .skipS [12,11,10,8,7,5,2,0] r r (.seq (.block (.sr (.fa un53 r sz51 r (o:=3) r r r (.load1 ia51 r .z r r r (.ks 1 r ?_))))))
   obtain ⟨P,e7,G,hd⟩:=hd
   obtain ⟨e8,o287,d8,d0,X,Y⟩:=R6.2 _ _ G
   cases Y
   refine .ixa un51 sz3 r d0 r P (idx_lt G P) r r (.ld1 (j:=0) ia3 X r r r r r (.ks 1 r (.nilS [13,12,11,10,8,7,5,2,0] r r (.sr (.fa un88 r sz34 r (o:=1) r r r (.load1 ia34 r (.s .z) r r r (.ks 1 r ?_)))))))
   have Z:=W_flags_Has (I:=q) R12 hd
   refine .callP call134 r Z r r fun e9 a4=>?_
   obtain ⟨f0,rfl,hd⟩:=a4
   refine .nilS [42,13,12,11,10,8,7,5,2,0] r r (.condP r hd (fun a5 hd=>?_) fun a5 hd=>?_)
   · refine .dr [0,1,2,3,4,5,6,7,8,9,10,11,12,13] 14 (.fk 2 r (.g r r r (fun _=>.fa un53 r sz23 r (o:=4) r r r .mk) (.g r r r (fun _=>.load1 ia23 r .z r r r .mk) (.fk 1 r ?_))))
     obtain ⟨R,f1,H,hd⟩:=hd
     obtain ⟨f2,o305,d9,d1,x,a6⟩:=R9.2 _ _ H
     cases a6
     refine .g r r r (fun _=>.ixa un23 sz2 r d1 r R (idx_lt H R) r r .mk) (.g r r r (fun _=>.ld1 (j:=0) ia2 x r r r r r .mk) (.g r r r (fun _=>.fa un88 r sz23 r (o:=2) r r r .mk) (.g r r r (fun _=>.load1 ia23 r (.s .z) r r r .mk) (.fk 1 r ?_))))
     obtain ⟨S,f3,J,hd⟩:=hd
     obtain ⟨f4,o314,e0,d2,y,a7⟩:=R15.2 _ _ J
     cases a7
     refine .g r r r (fun _=>.ixa un23 sz2 r d2 r S (idx_lt J S) r r .mk) (.g r r r (fun _=>.ld1 (j:=0) ia2 y r r r r r .mk) (.ww r fun ex=>?_))
     have a8:=W_ring_Mul (I:=q) hd
     refine .callP call166 r a8 r r fun f5 a9=>?_
     obtain ⟨d3,rfl,hd⟩:=a9
     refine .so 6 r r r (.ck 1 r r trivial) (.ww r fun ex=>?_)
     have b0:=W_pull_adder_1_b72 (I:=q) (o0:=e) (o1:=p.2.1) (o2:=({ Hi:=h,Lo:=i }:Wide)) (a0:=d3) (b4:=l) (b5:=B) (b6:=m) hd
     refine .callS (.c call189 r r) (.c (.s (.s (.s .z))) (.c (.s (.s (.s .z))) (.c (.s (.s (.s .z))) .n))) b0 r r fun f6 d4 f7 b b1=>?_
     obtain ⟨k,rfl,rfl,hd⟩:=b1
     have e1:=IH.le.trans E b
     have b2:=IH.le.trans a b
     replace R3:=R3.mono b
     replace R6:=R6.mono b
     replace R9:=R9.mono b
     replace R12:=R12.mono b
     replace R15:=R15.mono b
     replace x:=x.mono b
     replace y:=y.mono b
     exact .re (m':=(pto l (.cells #[.bool k.1] 4 (0,0))) :: (pto B (.cells #[.int .i64 p.2.1] 85 (0,0))) :: (pto m (.cells #[.int .i64 k.2.Hi,.int .u64 k.2.Lo] 155 (0,0))) :: (pto C (.cells #[.int .i64 a1.Rows,.int .i64 a1.Cols,.slice p1 a1.Start.length c2,.slice p4 a1.Col.length c5,.slice p7 a1.Val.length c8] 53 (0,0))) :: (pto D (.cells #[.int .i64 a3.N,.slice p10 a3.Has.length c11,.slice p13 a3.Vals.length c14] 88 (0,0))) :: (pto A (.cells #[.int .i64 0,.int .u64 0] 155 (0,0))) :: ex) r (.so 6 r r r trivial (.e2 14 (.nilS [12,11,10,8,7,5,2,0] r r (.region (.ks 3 r (.nil' fun c w ho hs=>⟨(k.1,k.2.Hi,k.2.Lo,w64 (u+1)),hd,d4,b2,ho.sub ⟨r,r,r,r,r,r,r,r,trivial⟩,hs.pick (.c (.s (.s (.s .z))) (.c (.s (.s (.s .z))) (.c (.s (.s (.s .z))) (.c .z (.c .z (.c .z .n))))))⟩))))))
   exact .skipS [12,11,10,8,7,5,2,0] r r (.region (.ks 3 r (.nil' fun c w ho hs=>⟨(e,h,i,w64 (u+1)),hd,q,a,ho.sub ⟨r,r,r,r,r,r,r,r,trivial⟩,hs.pick (.c .z (.c .z (.c .z (.c .z (.c .z (.c .z .n))))))⟩)))
 refine .exitS [11,8] r r (.drop .z (.drop .z (.drop (.s (.s .z)) (.sr (.ks 1 r ?_)))))
 have b7:=W_pull_adder_2_cdb (I:=q) (o0:=({ Hi:=h,Lo:=i }:Wide)) (o1:=e) (b3:=m) (b4:=l) hd
 refine .callS (.c call190 r r) (.c (.s (.s .z)) (.c (.s .z) .n)) b7 r r fun f8 f9 g0 K b8=>?_
 obtain ⟨T,rfl,rfl,hd⟩:=b8
 have b9:=IH.le.trans E K
 have e3:=IH.le.trans a K
 exact .re (m':=[pto m (.cells #[.int .i64 h,.int .u64 i] 155 (0,0)),pto l (.cells #[.bool e] 4 (0,0)),pto A (.cells #[.int .i64 0,.int .u64 0] 155 (0,0))]) r (.ks 2 r (.storeA sz155 r r (.s (.s .z)) (.t (.t .nil)) r r (.ks 1 r (.nilS [9,8] r r (.drop .z (.drop .z (.ret (pret results123 (.w ia155 sz155 r .z r (.t r .n)) b9 ⟨(T.1,T.2),r,hd⟩))))))))
theorem W_pull_asked_064 {I:IH} {a0:Int} {a1:List Int} {a2:Bool} {p1:Option Addr} {c2:Nat} {Q:(Int×(List Int)×Bool)→Prop} (R3:RepSl eU64 I p1 c2 a1) (hd:pull_asked_064 a0 a1 a2 Q) :
  Fun prog 122 #[.int .i64 a0,.slice p1 a1.length c2,.bool a2] I [] (fun I_ v l=>∃ r b4 b5 p6 c7 b9,v=.func (.func 164) #[] #[.pointer (some ⟨b4,0,none⟩),.pointer (some ⟨b5,0,none⟩),.pointer (some ⟨b9,0,none⟩)]∧RepSl eU64 I_ p6 c7 r.2.1∧l=[pto b4 (.cells #[.int .i64 r.1] 3 (0,0)),pto b5 (.cells #[.slice p6 r.2.1.length c7] 34 (0,0)),pto b9 (.cells #[.bool r.2.2] 4 (0,0))]∧Q r):=by
 refine Fun.enter (vs:=[.int .i64 a0,.slice p1 a1.length c2,.bool a2]) func122 r ntmps122 r (.c (.c (.c .n))) fun w0 M=>?_
 refine .sr (.box1 r r r r fun b4=>?_)
 refine .box1 r r r r fun a=>?_
 refine .box1 r r r r fun b=>?_
 exact .ks 1 r (.nilS [5,4,3] r r (.sr (.mkFn r r r r (.ks 1 r (.nilS [6] r r (.ret (oret results122 (.t r .n) (.refl _) (.c (.s (.s .z)) (.c (.s .z) (.c .z .n))) ⟨(a0,a1,a2),_,_,_,_,_,r,R3,r,hd⟩)))))))
theorem W_pull_asked_1_839 {I:IH} {o0:Nat} {o1:Int} {o2:Rows} {o3:Dense} {o4:List Sum} {o5:Int} {o6:List Int} {o7:Bool} {Y:Nat→Int→Rows→Dense→(List Sum)→Int→((Bool×Nat×(List Sum))→Prop)→Prop} {b9:Nat} {b10:Nat} {p11:Option Addr} {c12:Nat} {p14:Option Addr} {c15:Nat} {p17:Option Addr} {c18:Nat} {b20:Nat} {p21:Option Addr} {c22:Nat} {p24:Option Addr} {c25:Nat} {b27:Nat} {p28:Option Addr} {c29:Nat} {b32:Nat} {b33:Nat} {p34:Option Addr} {c35:Nat} {b37:Nat} {lr:Nat} {Rr:Nat→HA} {Q:(Nat×(List Sum))→Prop} (hY:∀ {J_:IH},I.le J_→∀ {y38:Nat} {y39:Int} {y41:Rows} {y52:Dense} {y60:List Sum} {x66:Int} {p43:Option Addr} {c44:Nat} {p46:Option Addr} {c47:Nat} {p49:Option Addr} {c50:Nat} {p54:Option Addr} {c55:Nat} {p57:Option Addr} {c58:Nat} {p62:Option Addr} {c63:Nat} {Qy:(Bool×Nat×(List Sum))→Prop},RepSl eI64 J_ p43 c44 y41.Start→RepSl eI64 J_ p46 c47 y41.Col→RepSl eI64 J_ p49 c50 y41.Val→RepSl eU64 J_ p54 c55 y52.Has→RepSl eI64 J_ p57 c58 y52.Vals→Y y38 y39 y41 y52 y60 x66 Qy→RFun prog lr [.int .i64 x66] J_ [Rr y38,pto b9 (.cells #[.int .i64 y39] 85 (0,0)),pto b10 (.cells #[.int .i64 y41.Rows,.int .i64 y41.Cols,.slice p43 y41.Start.length c44,.slice p46 y41.Col.length c47,.slice p49 y41.Val.length c50] 53 (0,0)),pto b20 (.cells #[.int .i64 y52.N,.slice p54 y52.Has.length c55,.slice p57 y52.Vals.length c58] 88 (0,0)),pto b27 (.cells #[.slice p62 y60.length c63] 110 (0,0)),OwnSl eSum 159 p62 c63 y60] (fun I_ v l=>∃ r p68 c69,v=.bool r.1∧l=[Rr r.2.1,pto b9 (.cells #[.int .i64 y39] 85 (0,0)),pto b10 (.cells #[.int .i64 y41.Rows,.int .i64 y41.Cols,.slice p43 y41.Start.length c44,.slice p46 y41.Col.length c47,.slice p49 y41.Val.length c50] 53 (0,0)),pto b20 (.cells #[.int .i64 y52.N,.slice p54 y52.Has.length c55,.slice p57 y52.Vals.length c58] 88 (0,0)),pto b27 (.cells #[.slice p68 r.2.2.length c69] 110 (0,0)),OwnSl eSum 159 p68 c69 r.2.2]∧Qy r)) (R13:RepSl eI64 I p11 c12 o2.Start) (R16:RepSl eI64 I p14 c15 o2.Col) (R19:RepSl eI64 I p17 c18 o2.Val) (R23:RepSl eU64 I p21 c22 o3.Has) (R26:RepSl eI64 I p24 c25 o3.Vals) (R36:RepSl eU64 I p34 c35 o6) (hd:pull_asked_1_839 o0 o1 o2 o3 o4 o5 o6 o7 Y Q) :
  Fun prog 164 #[.func (.yield lr) #[] #[],.pointer (some ⟨b32,0,none⟩),.pointer (some ⟨b33,0,none⟩),.pointer (some ⟨b37,0,none⟩)] I [Rr o0,pto b9 (.cells #[.int .i64 o1] 85 (0,0)),pto b10 (.cells #[.int .i64 o2.Rows,.int .i64 o2.Cols,.slice p11 o2.Start.length c12,.slice p14 o2.Col.length c15,.slice p17 o2.Val.length c18] 53 (0,0)),pto b20 (.cells #[.int .i64 o3.N,.slice p21 o3.Has.length c22,.slice p24 o3.Vals.length c25] 88 (0,0)),pto b27 (.cells #[.slice p28 o4.length c29] 110 (0,0)),OwnSl eSum 159 p28 c29 o4,pto b32 (.cells #[.int .i64 o5] 3 (0,0)),pto b33 (.cells #[.slice p34 o6.length c35] 34 (0,0)),pto b37 (.cells #[.bool o7] 4 (0,0))] (fun I_ v l=>∃ r p39 c40,v=.tuple #[]∧l=[Rr r.1,pto b9 (.cells #[.int .i64 o1] 85 (0,0)),pto b10 (.cells #[.int .i64 o2.Rows,.int .i64 o2.Cols,.slice p11 o2.Start.length c12,.slice p14 o2.Col.length c15,.slice p17 o2.Val.length c18] 53 (0,0)),pto b20 (.cells #[.int .i64 o3.N,.slice p21 o3.Has.length c22,.slice p24 o3.Vals.length c25] 88 (0,0)),pto b27 (.cells #[.slice p39 r.2.length c40] 110 (0,0)),OwnSl eSum 159 p39 c40 r.2,pto b32 (.cells #[.int .i64 o5] 3 (0,0)),pto b33 (.cells #[.slice p34 o6.length c35] 34 (0,0)),pto b37 (.cells #[.bool o7] 4 (0,0))]∧Q r):=by
 refine Fun.enter (vs:=[.func (.yield lr) #[] #[],.pointer (some ⟨b32,0,none⟩),.pointer (some ⟨b33,0,none⟩),.pointer (some ⟨b37,0,none⟩)]) func164 r ntmps164 r (.c (.c (.c (.c .n)))) fun w0 M=>?_
 refine .sr (.load1 ia3 r (.s (.s (.s (.s (.s (.s .z)))))) r r r (.ks 1 r (.nilS [7,6,3,2,1,0] r r (.block (.loop hd (fun (s:(List Sum)×Int×Nat) c w=>match s with | (f,h,i)=>∃ I_ j k,IH.le I I_∧Ok ⟨22,[],none⟩ [(0,.func (.yield lr) #[] #[]),(1,.pointer (some ⟨b32,0,none⟩)),(2,.pointer (some ⟨b33,0,none⟩)),(3,.pointer (some ⟨b37,0,none⟩)),(6,.int .i64 o5),(7,.int .i64 h)] c∧Sym w0 M I I_ [pto b9 (.cells #[.int .i64 o1] 85 (0,0)),pto b10 (.cells #[.int .i64 o2.Rows,.int .i64 o2.Cols,.slice p11 o2.Start.length c12,.slice p14 o2.Col.length c15,.slice p17 o2.Val.length c18] 53 (0,0)),pto b20 (.cells #[.int .i64 o3.N,.slice p21 o3.Has.length c22,.slice p24 o3.Vals.length c25] 88 (0,0)),pto b27 (.cells #[.slice j f.length k] 110 (0,0)),OwnSl eSum 159 j k f,pto b32 (.cells #[.int .i64 o5] 3 (0,0)),pto b33 (.cells #[.slice p34 o6.length c35] 34 (0,0)),pto b37 (.cells #[.bool o7] 4 (0,0)),Rr i] w) (fun c w ho hs=>⟨I,_,_,(.refl _),ho.sub ⟨r,r,r,r,r,r,trivial⟩,hs.pick (.c (.s .z) (.c (.s .z) (.c (.s .z) (.c (.s .z) (.c (.s .z) (.c (.s .z) (.c (.s .z) (.c (.s .z) (.c .z .n)))))))))⟩) ?_)))))
 rintro ⟨f,h,i⟩ D hd c w hst
 obtain ⟨m,j,k,b,hok,hsym⟩:=hst
 replace R13:=R13.mono b
 replace R16:=R16.mono b
 replace R19:=R19.mono b
 replace R23:=R23.mono b
 replace R26:=R26.mono b
 replace R36:=R36.mono b
 refine Cod.at hok hsym (.sr (.ks 1 r (.nilS [8,7,6,3,2,1,0] r r (.seq (.condP r hd (fun t hd=>?_) fun t hd=>?_)))))
 · refine .skipS [7,6,3,2,1,0] r r (.seq (.block (.sr (.ks 2 r (.nilS [5,7,6,3,2,1,0] r r (.seq (.dr [0,1,3,2,4,5,6,7,8,9,10] 11 (.g r r r (fun _=>.load1 ia34 r (.s (.s (.s (.s (.s (.s .z)))))) r r r .mk) (.fk 1 r ?_)))))))))
   refine .g r r r (fun _=>.load1 isAgg4 r (.s (.s (.s (.s (.s (.s (.s .z))))))) r r r .mk) (.ww r fun ex=>?_)
   have u:=W_flags_Has (I:=m) R36 hd
   refine .callP call134 r u r r fun E x=>?_
   obtain ⟨F,rfl,hd⟩:=x
   refine .so 9 r r r (.cg r r r r (fun _=>.load1 isAgg4 r (.s (.s (.s (.s (.s (.s (.s .z))))))) r r r .mk) trivial) (.g r r r (fun _=>.neB underlying4 r r r r .mk) (.fk 1 r ?_))
   refine splitP hd (fun a hd=>?_) fun a hd=>?_
   · refine .g r r r (fun _=>.gyes r r a (.move r r r .mk)) (.g r r r (fun _=>.gyes r r a (.move r r r .mk)) (.ww r fun ex=>?_))
     have y:=hY (J_:=m) b (y38:=i) (y39:=o1) (y41:=o2) (y52:=o3) (y60:=f) (x66:=h) (p43:=p11) (c44:=c12) (p46:=p14) (c47:=c15) (p49:=p17) (c50:=c18) (p54:=p21) (c55:=c22) (p57:=p24) (c58:=c25) (p62:=j) (c63:=k) R13 R16 R19 R23 R26 hd
     refine .gyes r r a (.callY r r (.c (.s (.s (.s (.s (.s (.s (.s (.s .z)))))))) (.c .z (.c .z (.c .z (.c .z (.c .z .n)))))) y r r fun G C H d A=>?_)
     obtain ⟨e,p,q,rfl,rfl,hd⟩:=A
     have o:=IH.le.trans b d
     replace R13:=R13.mono d
     replace R16:=R16.mono d
     replace R19:=R19.mono d
     replace R23:=R23.mono d
     replace R26:=R26.mono d
     replace R36:=R36.mono d
     refine .re (m':=(Rr e.2.1) :: (pto b9 (.cells #[.int .i64 o1] 85 (0,0))) :: (pto b10 (.cells #[.int .i64 o2.Rows,.int .i64 o2.Cols,.slice p11 o2.Start.length c12,.slice p14 o2.Col.length c15,.slice p17 o2.Val.length c18] 53 (0,0))) :: (pto b20 (.cells #[.int .i64 o3.N,.slice p21 o3.Has.length c22,.slice p24 o3.Vals.length c25] 88 (0,0))) :: (pto b27 (.cells #[.slice p e.2.2.length q] 110 (0,0))) :: (OwnSl eSum 159 p q e.2.2) :: (pto b32 (.cells #[.int .i64 o5] 3 (0,0))) :: (pto b33 (.cells #[.slice p34 o6.length c35] 34 (0,0))) :: (pto b37 (.cells #[.bool o7] 4 (0,0))) :: ex) r (.so 9 r r r trivial (.g r r r (fun _=>.gyes r r a (.not r r r .mk)) (.g r r r (fun _=>.pickT r a r r r .mk) (.e2 11 (.nilS [20,7,6,3,2,1,0] r r (.condP r hd (fun B hd=>?_) fun B hd=>?_))))))
     · exact .ret (oret results164 .n o (.c .z (.c .z (.c .z (.c .z (.c .z (.c .z (.c .z (.c .z (.c .z .n))))))))) ⟨(e.2.1,e.2.2),_,_,r,r,hd⟩)
     exact .skipS [7,6,3,2,1,0] r r (.region (.ks 2 r (.nil' fun c w ho hs=>⟨(e.2.2,w64 (h+1),e.2.1),hd,C,_,_,o,ho.sub ⟨r,r,r,r,r,r,trivial⟩,hs.pick (.c (.s .z) (.c (.s .z) (.c (.s .z) (.c (.s .z) (.c (.s .z) (.c (.s .z) (.c (.s .z) (.c (.s .z) (.c .z .n)))))))))⟩)))
   refine .g r r r (fun _=>.gno r r a r r .mk) (.g r r r (fun _=>.gno r r a r r .mk) (.g r r r (fun _=>.gno r r a r r .mk) (.g r r r (fun _=>.gno r r a r r .mk) (.g r r r (fun _=>.pickF r a r r r .mk) (.e2 11 (.nilS [20,7,6,3,2,1,0] r r (.condKF r r (.skipS [7,6,3,2,1,0] r r (.region ?_)))))))))
   exact .ks 2 r (.nil' fun c w ho hs=>⟨(f,w64 (h+1),i),hd,m,_,_,b,ho.sub ⟨r,r,r,r,r,r,trivial⟩,hs.pick (.c .z (.c .z (.c .z (.c .z (.c .z (.c .z (.c .z (.c .z (.c .z .n)))))))))⟩)
 exact .exit (oretN results164 .n b (.c (.s (.s (.s (.s (.s (.s (.s (.s .z)))))))) (.c .z (.c .z (.c .z (.c .z (.c .z (.c .z (.c .z (.c .z .n))))))))) ⟨(i,f),_,_,r,r,hd⟩)
theorem W_pull_Sums {I:IH} {a0:Int} {a1:Rows} {a2:Dense} {a3:List Int} {a4:Bool} {p1:Option Addr} {c2:Nat} {p4:Option Addr} {c5:Nat} {p7:Option Addr} {c8:Nat} {p10:Option Addr} {c11:Nat} {p13:Option Addr} {c14:Nat} {p16:Option Addr} {c17:Nat} {Q:((List Sum)×Int)→Prop} (R3:RepSl eI64 I p1 c2 a1.Start) (R6:RepSl eI64 I p4 c5 a1.Col) (R9:RepSl eI64 I p7 c8 a1.Val) (R12:RepSl eU64 I p10 c11 a2.Has) (R15:RepSl eI64 I p13 c14 a2.Vals) (R18:RepSl eU64 I p16 c17 a3) (hd:pull_Sums a0 a1 a2 a3 a4 Q) :
  PFun prog 71 [.int .i64 a0,.agg #[.int .i64 a1.Rows,.int .i64 a1.Cols,.slice p1 a1.Start.length c2,.slice p4 a1.Col.length c5,.slice p7 a1.Val.length c8],.agg #[.int .i64 a2.N,.slice p10 a2.Has.length c11,.slice p13 a2.Vals.length c14],.slice p16 a3.length c17,.bool a4] I (o19_ Q):=by
 refine Fun.enter func71 r ntmps71 r (.c (.c (.c (.c (.c .n))))) fun w0 M=>?_
 refine .marks0 (.sr (.box1 r r r r fun C=>?_))
 refine .boxA r r r fun E=>?_
 refine .boxA r r r fun b32=>?_
 refine .ks 2 r (.nilS [7,6,5,4,3] r r (.sr (.loadW ia53 sz53 r (.s .z) r r r (.loadW ia88 sz88 r .z r r r ?_))))
 have b5:=W_pull_sure (I:=I) R3 R6 R9 R12 R15 hd
 refine .call call72 r b5 r r fun f8 b4 b b6=>?_
 obtain ⟨a,F,G,H,J,K,L,O,P,R,S,rfl,h,j,k,l,m,hd⟩:=b6
 replace R3:=R3.mono b
 replace R6:=R6.mono b
 replace R9:=R9.mono b
 replace R12:=R12.mono b
 replace R15:=R15.mono b
 replace R18:=R18.mono b
 refine .ks 3 r (.storeA sz53 r r (.s .z) (.t (.t (.t (.t (.t .nil))))) r r (.storeA sz88 r r .z (.t (.t (.t .nil))) r r (.nilS [7,6,5,4,3] r r (.seq (.block (.sr (.load1 isAgg85 r (.s (.s .z)) r r r ?_)))))))
 have b7:=W_ring_Is (I:=b4) hd
 refine .callP call121 r b7 r r fun f9 b8=>?_
 obtain ⟨g0,rfl,hd⟩:=b8
 refine .ks 2 r (.nilS [22,7,6,5,4,3] r r (.condP r hd (fun c0 hd=>?_) fun c0 hd=>?_))
 · exact .sr (.ks 2 r (.nilS [11,10] r r (.drop .z (.drop .z (.drop .z (.ret (pretM .z results71 (.t r (.t r .n)) b ⟨(([]:List Sum),8),_,_,r,(.nil _ _ _),hd⟩)))))))
 refine .sr (.fa un88 r sz3 r (o:=0) r r r (.load1 ia3 r .z r r r (.fa un53 r sz3 r (o:=1) r r r (.load1 ia3 r (.s .z) r r r (.ks 2 r (.nilS [26,7,6,5,4,3] r r (.condP r hd (fun c1 hd=>?_) fun c1 hd=>?_)))))))
 · exact .sr (.ks 2 r (.nilS [11,10] r r (.drop .z (.drop .z (.drop .z (.ret (pretM .z results71 (.t r (.t r .n)) b ⟨(([]:List Sum),4),_,_,r,(.nil _ _ _),hd⟩)))))))
 refine .skipS [7,6,5,4,3] r r (.sr (.alloc1 zeroValue110 r r r fun q=>?_))
 refine .nilS [12,7,6,5,4,3] r r (.seq (.sr (.fa un53 r sz3 r (o:=0) r r r (.load1 ia3 r (.s (.s .z)) r r r (.ks 2 r ?_)))))
 have Y:=W_pull_asked_064 (I:=b4) (a0:=a.1.Rows) (a1:=a3) (a2:=a4) R18 hd
 refine .callS (.f call122 r) .n Y r r fun d2 c3 d3 d Z=>?_
 obtain ⟨e,u,v,x,y,A,rfl,p,rfl,hd⟩:=Z
 have a5:=IH.le.trans b d
 replace R18:=R18.mono d
 replace h:=h.mono d
 replace j:=j.mono d
 replace k:=k.mono d
 replace l:=l.mono d
 replace m:=m.mono d
 refine .re (m':=[pto u (.cells #[.int .i64 e.1] 3 (0,0)),pto v (.cells #[.slice x e.2.1.length y] 34 (0,0)),pto A (.cells #[.bool e.2.2] 4 (0,0)),pto q (.cells #[.slice none 0 0] 110 (0,0)),pto b32 (.cells #[.int .i64 a.2.N,.slice O a.2.Has.length P,.slice R a.2.Vals.length S] 88 (0,0)),pto E (.cells #[.int .i64 a.1.Rows,.int .i64 a.1.Cols,.slice F a.1.Start.length G,.slice H a.1.Col.length J,.slice K a.1.Val.length L] 53 (0,0)),pto C (.cells #[.int .i64 a0] 85 (0,0)),Marks ([])]) r (.nilS [36,12,7,6,5] r r (.block (.own0 eSum 159 (.rangeF [] r call164 (.c (.s (.s (.s (.s (.s (.s (.s (.s .z)))))))) (.c (.s (.s (.s (.s (.s (.s (.s .z))))))) (.c (.s (.s (.s (.s (.s (.s .z)))))) (.c (.s (.s (.s (.s (.s .z))))) (.c (.s (.s (.s (.s .z)))) (.c .z (.c .z (.c .z (.c .z .n))))))))) fun lr D rc hrc=>?_))))
 refine ⟨_,W_pull_asked_1_839 (I:=c3) (lr:=lr) (Rr:=recA lr [] rc) (o0:=0) (o1:=a0) (o2:=a.1) (o3:=a.2) (o4:=([]:List Sum)) (o5:=e.1) (o6:=e.2.1) (o7:=e.2.2) (b9:=C) (b10:=E) (p11:=F) (c12:=G) (p14:=H) (c15:=J) (p17:=K) (c18:=L) (b20:=b32) (p21:=O) (c22:=P) (p24:=R) (c25:=S) (b27:=q) (p28:=none) (c29:=0) (b32:=u) (b33:=v) (p34:=x) (c35:=y) (b37:=A) ?_ h j k l m p hd,?_⟩
 · skip
   intro I hJ d4 d5 d6 d7 T U d8 d9 e0 e1 e2 e3 e4 e5 e6 e7 e8 e9 Qy c4 c6 c7 c9 d0 hd
   replace h:=h.mono hJ
   replace j:=j.mono hJ
   replace k:=k.mono hJ
   replace l:=l.mono hJ
   replace m:=m.mono hJ
   replace p:=p.mono hJ
   obtain ⟨rfl,hd⟩:=hd
   refine RFun.mk hrc r fun w0 M=>?_
   refine .region (.ks 1 r (.nil' fun c w ho hs=>beginR (E':=[(5,_),(6,_),(7,_),(12,_),(13,_)]) ho ⟨r,r,r,r,r,trivial⟩ hs .z (.block (.sr (.load1 isAgg85 r (.s .z) r r r (.loadW ia53 sz53 r (.s (.s .z)) r r r (.ks 1 r (.loadW ia88 sz88 r (.s (.s (.s .z))) r r r ?_))))))))
   have a6:=W_pull_row (I:=I) c4 c6 c7 c9 d0 hd
   refine .callP call123 r a6 r r fun f0 a7=>?_
   obtain ⟨V,rfl,hd⟩:=a7
   refine .ks 3 r (.allocA zv155 r r fun f1=>?_)
   refine .storeA sz155 r r .z (.t (.t .nil)) r r (.ks 1 r (.nilS [15,14,13,12] r r (.sr (.ks 1 r (.nilS [46,14,13,12] r r (.condP r hd (fun a8 hd=>?_) fun a8 hd=>?_))))))
   · refine .region (.load1 isAgg110 r (.s (.s (.s (.s (.s .z))))) r r r (.ks 1 r (.loadW ia155 sz155 r .z r r r (.build zeroValue159 un159 BI159 (.c r r r (.t .nil) (.c r r r (.s (.t (.t .nil))) .n)) (by exact ⟨⟨_,_,r,r,r⟩,⟨⟨_,_,r,r,r⟩,trivial⟩⟩) r r (.buildSlice 1 un110 sz159 zeroValue159 r r (.c r r r .n) r r fun f2=>?_)))))
     obtain ⟨a9,hd⟩:=hd
     refine .append (ys:=[({ At:=U,Val:=V.1 }:Sum)]) 24 (.s (.s (.s (.s (.s (.s (.s .z))))))) un110 un110 IN159 r r r r r r r r r (.box .z (.one r) r) a9 r r fun f3 f4=>?_
     refine .store1 sizeOf110 r r (.s (.s (.s (.s (.s (.s (.s .z))))))) (.t .nil) r ?_
     exact .nil' fun c w ho hs=>endR 0 (.inl rfl) (.refl _) (.s (.s (.s .z))) (.c (.s (.s (.s .z))) (.c (.s (.s (.s .z))) (.c (.s (.s (.s .z))) (.c (.s (.s (.s .z))) (.c .z .n))))) ⟨(true,0,(T++([({ At:=U,Val:=V.1 }:Sum)]))),_,_,rfl,rfl,hd⟩ hs
   exact .skip' fun c w ho hs=>endR 0 (.inl rfl) (.refl _) (.s .z) (.c (.s .z) (.c (.s .z) (.c (.s .z) (.c (.s .z) (.c (.s .z) .n))))) ⟨(true,0,T),_,_,rfl,rfl,hd⟩ hs
 intro f5 f6 l' g b0
 obtain ⟨B,W,X,rfl,rfl,hd⟩:=b0
 have b1:=IH.le.trans a5 g
 replace h:=h.mono g
 replace j:=j.mono g
 replace k:=k.mono g
 replace l:=l.mono g
 replace m:=m.mono g
 replace p:=p.mono g
 obtain ⟨hz,hd⟩:=hd
 refine ⟨_,_,r,fun hj=>?_,fun i hj=>absurd (hz.symm.trans hj) (by simp)⟩
 refine .re (m':=[Marks (D :: []),pto C (.cells #[.int .i64 a0] 85 (0,0)),pto E (.cells #[.int .i64 a.1.Rows,.int .i64 a.1.Cols,.slice F a.1.Start.length G,.slice H a.1.Col.length J,.slice K a.1.Val.length L] 53 (0,0)),pto b32 (.cells #[.int .i64 a.2.N,.slice O a.2.Has.length P,.slice R a.2.Vals.length S] 88 (0,0)),pto q (.cells #[.slice W B.2.length X] 110 (0,0)),OwnSl eSum 159 W X B.2,pto u (.cells #[.int .i64 e.1] 3 (0,0)),pto v (.cells #[.slice x e.2.1.length y] 34 (0,0)),pto A (.cells #[.bool e.2.2] 4 (0,0))]) r (.mkS [12] r r (.drop (.s .z) (.drop (.s .z) (.drop (.s .z) (.drop (.s (.s (.s .z))) (.drop (.s (.s (.s .z))) (.drop (.s (.s (.s .z))) (.sr (.load1 isAgg110 r (.s .z) r r r ?_)))))))))
 refine .ks 2 r (.nilS [11,10] r r (.drop (.s .z) (.pub (.s .z) fun f7 b2 d1=>?_)))
 have b3:=IH.le.trans b1 b2
 exact .ret (pretM .z results71 (.t r (.t r .n)) b3 ⟨(B.2,0),_,_,r,d1,hd⟩)
theorem W_ring_Zero {I:IH} {a0:Int} {Q:Int→Prop}  (hd:ring_Zero a0 Q) :
  PFun prog 129 [.int .i64 a0] I (fun _=>o0_ Q):=by
 refine Fun.enter func129 r ntmps129 r (.c .n) fun w0 M=>?_
 refine .sr (.ks 1 r (.nilS [0] r r (.seq (.sr (.ks 1 r (.nilS [3] r r (.block (.seq (.sr ?_)))))))))
 refine .ks 2 r (.nilS [4,3] r r (.condP r hd (fun a hd=>?_) fun a hd=>?_))
 · exact .skipS [4] r r (.condKT r a (.sr (.ks 1 r (.nilS [2] r r (.ret (pret results129 (.t r .n) (.refl _) ⟨4611686018427387904,r,hd⟩))))))
 refine .sr (.ks 2 r (.nilS [4,3] r r (.condP r hd (fun b hd=>?_) fun b hd=>?_)))
 · exact .skipS [4] r r (.condKT r b (.sr (.ks 1 r (.nilS [2] r r (.ret (pret results129 (.t r .n) (.refl _) ⟨4611686018427387904,r,hd⟩))))))
 refine .region (.ks 2 r (.nilS [4] r r (.condP r hd (fun d hd=>?_) fun d hd=>?_)))
 · exact .sr (.ks 1 r (.nilS [2] r r (.ret (pret results129 (.t r .n) (.refl _) ⟨4611686018427387904,r,hd⟩))))
 exact .skipS [] r r (.sr (.ks 1 r (.nilS [2] r r (.ret (pret results129 (.t r .n) (.refl _) ⟨0,r,hd⟩)))))
theorem W_pull_Done_1_ac1 {I:IH} {o0:Int} {a0:Sum} {b2:Nat} {Q:Bool→Prop}  (hd:pull_Done_1_ac1 o0 a0 Q) :
  Fun prog 127 #[.agg (encSum a0).toArray,.pointer (some ⟨b2,0,none⟩)] I [pto b2 (.cells #[.int .i64 o0] 3 (0,0))] (fun I_ v l=>∃ r,v=.bool r∧l=[pto b2 (.cells #[.int .i64 o0] 3 (0,0))]∧Q r):=by
 refine Fun.enter (vs:=[.agg (encSum a0).toArray,.pointer (some ⟨b2,0,none⟩)]) func127 r ntmps127 r (.c (.c .n)) fun w0 M=>?_
 refine .sr (.boxA r r r fun b=>?_)
 refine .ks 1 r (.nilS [2,1] r r (.sr (.fa un159 r sz3 r (o:=0) r r r (.load1 ia3 r .z r r r (.ks 2 r ?_)))))
 refine splitP hd (fun a hd=>?_) fun a hd=>?_
 · rw [a]
   exact .ks 6 r (.nilS [3,1] r r (.drop .z (.ret (oret results127 (.t r .n) (.refl _) (.c .z .n) ⟨true,r,r,hd⟩))))
 rw [a]
 exact .gyes r r r (.fa un159 r sz3 r (o:=0) r r r (.gyes r r r (.load1 ia3 r .z r r r (.gyes r r r (.load1 ia3 r (.s .z) r r r (.ks 3 r (.nilS [3,1] r r (.drop .z (.ret (oret results127 (.t r .n) (.refl _) (.c .z .n) ⟨(decide (o0≤a0.At)),r,r,hd⟩))))))))))
theorem W_slices_IndexFunc_api_Sum_api_Sum_a5e {I:IH} {o0:Int} {a0:List Sum} {b2:Nat} {p3:Option Addr} {c4:Nat} {Q:Int→Prop} (R5:RepSl eSum I p3 c4 a0) (hd:slices_IndexFunc_api_Sum_api_Sum_a5e o0 a0 Q) :
  Fun prog 170 #[.slice p3 a0.length c4,.func (.func 127) #[] #[.pointer (some ⟨b2,0,none⟩)]] I [pto b2 (.cells #[.int .i64 o0] 3 (0,0))] (fun I_ v l=>∃ r,v=.int .i64 r∧l=[pto b2 (.cells #[.int .i64 o0] 3 (0,0))]∧Q r):=by
 refine Fun.enter (vs:=[.slice p3 a0.length c4,.func (.func 127) #[] #[.pointer (some ⟨b2,0,none⟩)]]) func170 r ntmps170 r (.c (.c .n)) fun w0 M=>?_
 refine .sr (.ks 1 r (.nilS [1,0] r r (.seq (.sr (.ks 1 r (.len un110 r r r r (.ks 1 r (.nilS [8,7,1,0] r r (.block ?_)))))))))
 refine .loop hd (fun (e:Int) c w=>∃ I_,IH.le I I_∧Ok ⟨19,[],none⟩ [(0,.slice p3 a0.length c4),(1,.func (.func 127) #[] #[.pointer (some ⟨b2,0,none⟩)]),(7,.int .i64 (a0.length:Int)),(8,.int .i64 e)] c∧Sym w0 M I I_ [pto b2 (.cells #[.int .i64 o0] 3 (0,0))] w) (fun c w ho hs=>⟨I,(.refl _),ho.sub ⟨r,r,r,r,trivial⟩,hs.pick (.c .z .n)⟩) ?_
 rintro e p hd c w hst
 obtain ⟨q,a,hok,hsym⟩:=hst
 replace R5:=R5.mono a
 refine Cod.at hok hsym (.sr (.ks 1 r (.nilS [9,8,7,1,0] r r (.seq (.condP r hd (fun i hd=>?_) fun i hd=>?_)))))
 · refine .skipS [8,7,1,0] r r (.seq (.block (.sr (.ks 2 r (.nilS [5,8,7,1,0] r r (.sr (.ks 3 r ?_)))))))
   obtain ⟨h,s,f,hd⟩:=hd
   obtain ⟨A,o57,y,u,b,j⟩:=R5.2 _ _ f
   cases j
   refine .ixa un110 sz159 r u r h (idx_lt f h) r r (.ldW isAgg159 sz159 b r r r r ?_)
   have k:=W_pull_Done_1_ac1 (I:=q) (o0:=o0) (a0:=s) (b2:=b2) hd
   refine .callS (.c call127 r r) (.c .z .n) k r r fun B x C d m=>?_
   obtain ⟨D,rfl,rfl,hd⟩:=m
   have g:=IH.le.trans a d
   replace R5:=R5.mono d
   replace b:=b.mono d
   refine .re (m':=[pto b2 (.cells #[.int .i64 o0] 3 (0,0))]) r (.nilS [16,5,8,7,1,0] r r (.condP r hd (fun o hd=>?_) fun o hd=>?_))
   · exact .sr (.ks 2 r (.nilS [4,1] r r (.ret (oret results170 (.t r .n) g (.c .z .n) ⟨e,r,r,hd⟩))))
   exact .skipS [8,7,1,0] r r (.region (.ks 2 r (.nil' fun c w ho hs=>⟨(w64 (e+1)),hd,x,g,ho.sub ⟨r,r,r,r,trivial⟩,hs.pick (.c .z .n)⟩)))
 exact .exitS [1] r r (.sr (.ks 1 r (.nilS [4,1] r r (.ret (oret results170 (.t r .n) a (.c .z .n) ⟨(-1),r,r,hd⟩)))))
theorem W_slices_ContainsFunc_api_Sum_api_Sum_927 {I:IH} {o0:Int} {a0:List Sum} {b2:Nat} {p3:Option Addr} {c4:Nat} {Q:Bool→Prop} (R5:RepSl eSum I p3 c4 a0) (hd:slices_ContainsFunc_api_Sum_api_Sum_927 o0 a0 Q) :
  Fun prog 126 #[.slice p3 a0.length c4,.func (.func 127) #[] #[.pointer (some ⟨b2,0,none⟩)]] I [pto b2 (.cells #[.int .i64 o0] 3 (0,0))] (fun I_ v l=>∃ r,v=.bool r∧l=[pto b2 (.cells #[.int .i64 o0] 3 (0,0))]∧Q r):=by
 refine Fun.enter (vs:=[.slice p3 a0.length c4,.func (.func 127) #[] #[.pointer (some ⟨b2,0,none⟩)]]) func126 r ntmps126 r (.c (.c .n)) fun w0 M=>?_
 refine .sr (.ks 1 r (.nilS [1,0] r r (.sr (.ks 2 r ?_))))
 have b:=W_slices_IndexFunc_api_Sum_api_Sum_a5e (I:=I) (o0:=o0) (a0:=a0) (b2:=b2) R5 hd
 refine .callS (.f call170 r) (.c .z .n) b r r fun g i h a d=>?_
 obtain ⟨e,rfl,rfl,hd⟩:=d
 replace R5:=R5.mono a
 exact .re (m':=[pto b2 (.cells #[.int .i64 o0] 3 (0,0))]) r (.ks 2 r (.nilS [4,1] r r (.ret (oret results126 (.t r .n) a (.c .z .n) ⟨(decide (0≤e)),r,r,hd⟩))))
theorem W_pull_Done {I:IH} {a0:Int} {a1:Int} {a2:List Sum} {p1:Option Addr} {c2:Nat} {Q:(Vec×Int)→Prop} (R3:RepSl eSum I p1 c2 a2) (hd:pull_Done a0 a1 a2 Q) :
  PFun prog 73 [.int .i64 a0,.int .i64 a1,.slice p1 a2.length c2] I (o20_ Q):=by
 refine Fun.enter func73 r ntmps73 r (.c (.c (.c .n))) fun w0 M=>?_
 refine .sr (.box1 r r r r fun y=>?_)
 refine .allocA zv82 r r fun p=>?_
 refine .ks 1 r (.nilS [6,4,2,0] r r (.seq (.block (.sr (.ks 1 r ?_)))))
 have b3:=W_ring_Is (I:=I) hd
 refine .callP call121 r b3 r r fun e5 b4=>?_
 obtain ⟨e6,rfl,hd⟩:=b4
 refine .ks 2 r (.nilS [14,6,4,2,0] r r (.condP r hd (fun b5 hd=>?_) fun b5 hd=>?_))
 · exact .sr (.build zv82 un82 BI82 .n (by exact trivial) r r (.storeA sz82 r r .z (.t (.t .nil)) r r (.ks 1 r (.nilS [7,6] r r (.drop (.s .z) (.ret (pret results73 (.w ia82 sz82 r .z r (.t r .n)) (.refl _) ⟨(({ N:=0,Items:=([]:List Item) }:Vec),8),_,_,r,(.nil _ _ _),hd⟩)))))))
 refine .seq (.sr (.load1 ia3 r (.s .z) r r r (.ks 2 r ?_)))
 refine splitP hd (fun q hd=>?_) fun q hd=>?_
 · rw [q]
   refine .ks 4 r (.nilS [19,6,4,2,0] r r (.condKT r r (.skipS [19,6,4,2,0] r r (.condKT r r (.sr (.build zv82 un82 BI82 .n (by exact trivial) r r (.storeA sz82 r r .z (.t (.t .nil)) r r (.ks 1 r (.nilS [7,6] r r ?_)))))))))
   exact .drop (.s .z) (.ret (pret results73 (.w ia82 sz82 r .z r (.t r .n)) (.refl _) ⟨(({ N:=0,Items:=([]:List Item) }:Vec),3),_,_,r,(.nil _ _ _),hd⟩))
 rw [q]
 refine .gyes r r r (.load1 ia3 r (.s .z) r r r (.ks 3 r (.nilS [19,6,4,2,0] r r (.condP r hd (fun F hd=>?_) fun F hd=>?_))))
 · exact .skipS [19,6,4,2,0] r r (.condKT r F (.sr (.build zv82 un82 BI82 .n (by exact trivial) r r (.storeA sz82 r r .z (.t (.t .nil)) r r (.ks 1 r (.nilS [7,6] r r (.drop (.s .z) (.ret (pret results73 (.w ia82 sz82 r .z r (.t r .n)) (.refl _) ⟨(({ N:=0,Items:=([]:List Item) }:Vec),3),_,_,r,(.nil _ _ _),hd⟩)))))))))
 refine .region (.ks 1 r (.mkFn r r r r ?_))
 have b6:=W_slices_ContainsFunc_api_Sum_api_Sum_927 (I:=I) (o0:=a1) (a0:=a2) (b2:=y) R3 hd
 refine .callS (.f call126 r) (.c (.s .z) .n) b6 r r fun e7 b1 e8 u b7=>?_
 obtain ⟨e9,rfl,rfl,hd⟩:=b7
 replace R3:=R3.mono u
 refine .re (m':=[pto y (.cells #[.int .i64 a1] 3 (0,0)),pto p (.cells #[.int .i64 0,.slice none 0 0] 82 (0,0))]) r (.ks 1 r (.nilS [19,6,4,2,0] r r (.condP r hd (fun b8 hd=>?_) fun b8 hd=>?_)))
 · exact .sr (.build zv82 un82 BI82 .n (by exact trivial) r r (.storeA sz82 r r (.s .z) (.t (.t .nil)) r r (.ks 1 r (.nilS [7,6] r r (.drop .z (.ret (pret results73 (.w ia82 sz82 r .z r (.t r .n)) u ⟨(({ N:=0,Items:=([]:List Item) }:Vec),3),_,_,r,(.nil _ _ _),hd⟩)))))))
 refine .skipS [6,4,2,0] r r (.seq (.sr (.ks 1 r (.len un110 r r r r (.ks 1 r (.nilS [32,31,6,4,2,0] r r (.block (.loop hd (fun (d:Int) c w=>∃ I_,IH.le b1 I_∧Ok ⟨86,[],none⟩ [(0,.int .i64 a0),(2,.slice p1 a2.length c2),(4,.pointer (some ⟨y,0,none⟩)),(6,.pointer (some ⟨p,0,none⟩)),(31,.int .i64 (a2.length:Int)),(32,.int .i64 d)] c∧Sym w0 M I I_ [pto y (.cells #[.int .i64 a1] 3 (0,0)),pto p (.cells #[.int .i64 0,.slice none 0 0] 82 (0,0))] w) (fun c w ho hs=>⟨b1,(.refl _),ho.sub ⟨r,r,r,r,r,r,trivial⟩,hs.pick (.c .z (.c .z .n))⟩) ?_))))))))
 rintro d c4 hd c w hst
 obtain ⟨h,b,hok,hsym⟩:=hst
 have A:=IH.le.trans u b
 replace R3:=R3.mono b
 refine Cod.at hok hsym (.sr (.ks 1 r (.nilS [33,32,31,6,4,2,0] r r (.seq (.condP r hd (fun P hd=>?_) fun P hd=>?_)))))
 · refine .skipS [32,31,6,4,2,0] r r (.seq (.block (.sr (.ks 2 r (.nilS [8,32,31,6,4,2,0] r r (.seq (.dr [0,1,2,3,4,5,6,7,8,9,10,11,12,13,14,15] 16 (.fk 3 r ?_))))))))
   refine splitP hd (fun i hd=>?_) fun i hd=>?_
   · rw [i]
     refine .fk 3 r ?_
     obtain ⟨G,d1,B,hd⟩:=hd
     obtain ⟨d2,o146,c6,b9,R,S⟩:=R3.2 _ _ B
     cases S
     refine .g r r r (fun _=>.gyes r r r (.ixa un110 sz159 r b9 r G (idx_lt B G) r r .mk)) (.g r r r (fun _=>.gyes r r r (.fa un159 r sz3 r (o:=o146+(w64 (d - 1)).toNat*3) r r r .mk)) (.g r r r (fun _=>.gyes r r r (.ld1 (j:=0) ia3 R r r r r r .mk)) (.fk 2 r ?_)))
     obtain ⟨H,d3,C,hd⟩:=hd
     obtain ⟨d4,o155,c7,c0,T,U⟩:=R3.2 _ _ C
     cases U
     refine .g r r r (fun _=>.gyes r r r (.ixa un110 sz159 r c0 r H (idx_lt C H) r r .mk)) (.g r r r (fun _=>.gyes r r r (.fa un159 r sz3 r (o:=o155+d.toNat*3) r r r .mk)) (.g r r r (fun _=>.gyes r r r (.ld1 (j:=0) ia3 T r r r r r .mk)) (.fk 2 r (.e2 16 (.nilS [50,32,31,6,4,2,0] r r (.condP r hd (fun V hd=>?_) fun V hd=>?_))))))
     · exact .sr (.build zv82 un82 BI82 .n (by exact trivial) r r (.storeA sz82 r r (.s .z) (.t (.t .nil)) r r (.ks 1 r (.nilS [7,6] r r (.drop .z (.ret (pret results73 (.w ia82 sz82 r .z r (.t r .n)) A ⟨(({ N:=0,Items:=([]:List Item) }:Vec),6),_,_,r,(.nil _ _ _),hd⟩)))))))
     exact .skipS [32,31,6,4,2,0] r r (.region (.ks 2 r (.nil' fun c w ho hs=>⟨(w64 (d+1)),hd,h,b,ho.sub ⟨r,r,r,r,r,r,trivial⟩,hs.pick (.c .z (.c .z .n))⟩)))
   rw [i]
   exact .fk 13 r (.e2 16 (.nilS [50,32,31,6,4,2,0] r r (.condKF r r (.skipS [32,31,6,4,2,0] r r (.region (.ks 2 r (.nil' fun c w ho hs=>⟨(w64 (d+1)),hd,h,b,ho.sub ⟨r,r,r,r,r,r,trivial⟩,hs.pick (.c .z (.c .z .n))⟩)))))))
 refine .exitS [6,4,2,0] r r (.sr (.load1 ia3 r .z r r r (.build zv82 un82 BI82 (.c r r r (.t .nil) .n) (by exact ⟨⟨_,_,r,r,r⟩,trivial⟩) r r (.allocA zv82 r r fun J=>?_))))
 refine .storeA sz82 r r .z (.t (.t .nil)) r r (.nilS [9,6,2,0] r r (.drop (.s .z) (.seq (.sr (.ks 1 r (.len un110 r r r r (.ks 1 r (.nilS [57,56,55,9,6,0] r r (.block ?_)))))))))
 refine .own0 eItem 119 (.loop hd (fun (s:(List Item)×Int) c w=>match s with | (e,k)=>∃ I_ v x,IH.le h I_∧Ok ⟨86,[],none⟩ [(0,.int .i64 a0),(6,.pointer (some ⟨p,0,none⟩)),(9,.pointer (some ⟨J,0,none⟩)),(55,.slice p1 a2.length c2),(56,.int .i64 (a2.length:Int)),(57,.int .i64 k)] c∧Sym w0 M I I_ [pto p (.cells #[.int .i64 0,.slice none 0 0] 82 (0,0)),pto J (.cells #[.int .i64 a1,.slice v e.length x] 82 (0,0)),OwnSl eItem 119 v x e] w) (fun c w ho hs=>⟨h,_,_,(.refl _),ho.sub ⟨r,r,r,r,r,r,trivial⟩,hs.pick (.c (.s (.s .z)) (.c (.s .z) (.c .z .n)))⟩) ?_)
 rintro ⟨e,k⟩ c5 hd c w hst
 obtain ⟨l,v,x,a,hok,hsym⟩:=hst
 have D:=IH.le.trans A a
 have W:=IH.le.trans b a
 replace R3:=R3.mono a
 refine Cod.at hok hsym (.sr (.ks 1 r (.nilS [58,57,56,55,9,6,0] r r (.seq (.condP r hd (fun X hd=>?_) fun X hd=>?_)))))
 · refine .skipS [57,56,55,9,6,0] r r (.seq (.block (.sr ?_)))
   obtain ⟨K,L,E,hd⟩:=hd
   obtain ⟨d5,o307,c8,c1,Y,Z⟩:=R3.2 _ _ E
   cases Z
   refine .ixa un110 sz159 r c1 r K (idx_lt E K) r r (.ldW isAgg159 sz159 Y r r r r (.allocA zeroValue159 r r fun d6=>?_))
   refine .storeA sz159 r r .z (.t (.t (.t .nil))) r r (.nilS [11,57,56,55,9,6,0] r r (.sr (.ks 1 r (.fa un159 r sz155 r (o:=1) r r r (.loadA ia155 sz155 r .z (.s (.t (.t .nil))) r r r ?_)))))
   have a3:=W_ring_Narrow (I:=l) hd
   refine .callP call128 r a3 r r fun d7 a4=>?_
   obtain ⟨O,rfl,hd⟩:=a4
   refine .ks 5 r (.nilS [13,12,11,57,56,55,9,6,0] r r (.seq (.sr (.ks 2 r (.nilS [69,12,11,57,56,55,9,6,0] r r (.condP r hd (fun a5 hd=>?_) fun a5 hd=>?_))))))
   · exact .sr (.build zv82 un82 BI82 .n (by exact trivial) r r (.storeA sz82 r r (.s .z) (.t (.t .nil)) r r (.ks 1 r (.nilS [7,6] r r (.drop .z (.drop (.s .z) (.drop (.s .z) (.ret (pret results73 (.w ia82 sz82 r .z r (.t r .n)) D ⟨(({ N:=0,Items:=([]:List Item) }:Vec),12),_,_,r,(.nil _ _ _),hd⟩)))))))))
   refine .skipS [12,11,57,56,55,9,6,0] r r (.sr (.ks 2 r ?_))
   have a6:=W_ring_Zero (I:=l) hd
   refine .callP call129 r a6 r r fun d8 a7=>?_
   obtain ⟨d9,rfl,hd⟩:=a7
   refine .ks 1 r (.nilS [74,12,11,57,56,55,9,6,0] r r (.condP r hd (fun a8 hd=>?_) fun a8 hd=>?_))
   · refine .region (.fa un82 r sz80 r (o:=1) r r r (.load1 ia80 r (.s (.s .z)) r r r (.fa un159 r sz3 r (o:=0) r r r (.load1 ia3 r .z r r r (.ks 1 r (.build zv119 un119 BI119 (.c r r r (.t .nil) (.c r r r (.s (.t .nil)) .n)) (by exact ⟨⟨_,_,r,r,r⟩,⟨⟨_,_,r,r,r⟩,trivial⟩⟩) r r (.buildSlice 1 un80 sz119 zv119 r r (.c r r r .n) r r fun e0=>?_)))))))
     obtain ⟨a9,hd⟩:=hd
     refine .append (ys:=[({ At:=L.At,Val:=O.1 }:Item)]) 16 (.s (.s (.s (.s .z)))) un80 un80 IN119 r r r r r r r r r (.box .z (.one r) r) a9 r r fun e1 e3=>?_
     exact .fa un82 r sz80 r (o:=1) r r r (.store1 sz80 r r (.s (.s (.s (.s .z)))) (.s (.t .nil)) r (.nilS [57,56,55,9,6,0] r r (.drop (.s .z) (.drop (.s .z) (.region (.ks 2 r (.nil' fun c w ho hs=>⟨((e++([({ At:=L.At,Val:=O.1 }:Item)])),w64 (k+1)),hd,l,_,_,a,ho.sub ⟨r,r,r,r,r,r,trivial⟩,hs.pick (.c (.s .z) (.c (.s .z) (.c .z .n)))⟩)))))))
   exact .skipS [57,56,55,9,6,0] r r (.drop .z (.region (.ks 2 r (.nil' fun c w ho hs=>⟨(e,w64 (k+1)),hd,l,_,_,a,ho.sub ⟨r,r,r,r,r,r,trivial⟩,hs.pick (.c .z (.c .z (.c .z .n)))⟩))))
 refine .exitS [9,6] r r (.sr (.loadW ia82 sz82 r (.s .z) r r r (.storeA sz82 r r .z (.t (.t .nil)) r r (.ks 1 r (.nilS [7,6] r r (.drop (.s .z) (.pub (.s .z) fun e4 m c3=>?_)))))))
 have b0:=IH.le.trans D m
 have c9:=IH.le.trans W m
 have d0:=IH.le.trans a m
 exact .ret (pret results73 (.w ia82 sz82 r .z r (.t r .n)) b0 ⟨(({ N:=a1,Items:=e }:Vec),0),_,_,r,c3,hd⟩)
theorem W_pull_Times {I:IH} {a0:Int} {a1:Rows} {a2:Dense} {a3:List Int} {a4:Bool} {p1:Option Addr} {c2:Nat} {p4:Option Addr} {c5:Nat} {p7:Option Addr} {c8:Nat} {p10:Option Addr} {c11:Nat} {p13:Option Addr} {c14:Nat} {p16:Option Addr} {c17:Nat} {Q:(Vec×Int)→Prop} (R3:RepSl eI64 I p1 c2 a1.Start) (R6:RepSl eI64 I p4 c5 a1.Col) (R9:RepSl eI64 I p7 c8 a1.Val) (R12:RepSl eU64 I p10 c11 a2.Has) (R15:RepSl eI64 I p13 c14 a2.Vals) (R18:RepSl eU64 I p16 c17 a3) (hd:pull_Times a0 a1 a2 a3 a4 Q) :
  PFun prog 40 [.int .i64 a0,.agg #[.int .i64 a1.Rows,.int .i64 a1.Cols,.slice p1 a1.Start.length c2,.slice p4 a1.Col.length c5,.slice p7 a1.Val.length c8],.agg #[.int .i64 a2.N,.slice p10 a2.Has.length c11,.slice p13 a2.Vals.length c14],.slice p16 a3.length c17,.bool a4] I (o21_ Q):=by
 refine Fun.enter func40 r ntmps40 r (.c (.c (.c (.c (.c .n))))) fun w0 M=>?_
 refine .sr (.boxA r r r fun H=>?_)
 refine .boxA r r r fun J=>?_
 refine .allocA zv82 r r fun K=>?_
 refine .ks 1 r (.nilS [10,7,6,4,3,0] r r (.sr (.ks 1 r (.loadW ia53 sz53 r (.s (.s .z)) r r r (.loadW ia88 sz88 r (.s .z) r r r (.ks 2 r ?_))))))
 have q:=W_pull_Sums (I:=I) R3 R6 R9 R12 R15 R18 hd
 refine .call call71 r q r r fun L A a u=>?_
 obtain ⟨B,O,P,rfl,e,hd⟩:=u
 replace R3:=R3.mono a
 replace R6:=R6.mono a
 replace R9:=R9.mono a
 replace R12:=R12.mono a
 replace R15:=R15.mono a
 replace R18:=R18.mono a
 refine .ks 5 r (.nilS [13,12,10,7,6,0] r r (.seq (.sr (.ks 2 r (.nilS [24,13,12,10,7,6,0] r r (.condP r hd (fun v hd=>?_) fun v hd=>?_))))))
 · exact .sr (.build zv82 un82 BI82 .n (by exact trivial) r r (.ks 1 r (.storeA sz82 r r .z (.t (.t .nil)) r r (.ks 1 r (.nilS [11,10] r r (.drop (.s .z) (.drop (.s .z) (.ret (pret results40 (.w ia82 sz82 r .z r (.t r .n)) a ⟨(({ N:=0,Items:=([]:List Item) }:Vec),B.2),_,_,r,(.nil _ _ _),hd⟩)))))))))
 refine .skipS [12,10,7,6,0] r r (.sr (.loadW ia53 sz53 r (.s (.s .z)) r r r (.loadW ia88 sz88 r (.s .z) r r r ?_)))
 have g:=W_pull_sure (I:=A) R3 R6 R9 R12 R15 hd
 refine .call call72 r g r r fun R C b x=>?_
 obtain ⟨S,T,U,V,W,X,Y,Z,a5,a6,a7,rfl,l,m,p,a8,a9,hd⟩:=x
 have h:=IH.le.trans a b
 replace R3:=R3.mono b
 replace R6:=R6.mono b
 replace R9:=R9.mono b
 replace R12:=R12.mono b
 replace R15:=R15.mono b
 replace e:=e.mono b
 refine .ks 3 r (.storeA sz53 r r (.s (.s .z)) (.t (.t (.t (.t (.t .nil))))) r r (.nilS [12,10,6,0] r r (.drop (.s .z) (.sr (.ks 1 r (.fa un53 r sz3 r (o:=0) r r r (.load1 ia3 r (.s .z) r r r (.ks 1 r ?_))))))))
 have i:=W_pull_Done (I:=C) e hd
 refine .call call73 r i r r fun D E d j=>?_
 obtain ⟨f,F,G,rfl,y,hd⟩:=j
 have k:=IH.le.trans h d
 replace e:=e.mono d
 replace l:=l.mono d
 replace m:=m.mono d
 replace p:=p.mono d
 exact .ks 2 r (.storeA sz82 r r .z (.t (.t .nil)) r r (.ks 1 r (.nilS [11,10] r r (.drop (.s .z) (.ret (pret results40 (.w ia82 sz82 r .z r (.t r .n)) k ⟨(f.1,f.2),_,_,r,y,hd⟩))))))
theorem W_prog_Ring {I:IH} {a0:Int} {a1:Int} {Q:Int→Prop}  (hd:prog_Ring a0 a1 Q) :
  PFun prog 41 [.int .i64 a0,.int .i64 a1] I (fun _=>o0_ Q):=by
 refine Fun.enter func41 r ntmps41 r (.c (.c .n)) fun w0 M=>?_
 refine .sr (.ks 1 r (.nilS [1,0] r r (.seq (.sr (.ks 1 r (.nilS [5,1] r r (.block (.seq (.block ?_)))))))))
 refine .seq (.block (.seq (.block (.seq (.block (.seq (.seq (.sr (.ks 2 r ?_)))))))))
 refine .nilS [6,5,1] r r (.condP r hd (fun b hd=>?_) fun b hd=>?_)
 · exact .exitS [] r r (.seq (.sr (.ks 1 r (.nilS [4] r r (.ret (pret results41 (.t r .n) (.refl _) ⟨1,r,hd⟩))))))
 refine .skipS [5,1] r r (.seq (.sr (.ks 2 r (.nilS [8,5,1] r r (.condP r hd (fun d hd=>?_) fun d hd=>?_)))))
 · exact .exitS [] r r (.seq (.sr (.ks 1 r (.nilS [4] r r (.ret (pret results41 (.t r .n) (.refl _) ⟨5,r,hd⟩))))))
 refine .skipS [5,1] r r (.seq (.sr (.ks 2 r (.nilS [10,5,1] r r (.condP r hd (fun e hd=>?_) fun e hd=>?_)))))
 · refine .exitS [1] r r (.sr (.ks 3 r (.nilS [17] r r (.condP r hd (fun f hd=>?_) fun f hd=>?_))))
   · exact .sr (.ks 1 r (.nilS [4] r r (.ret (pret results41 (.t r .n) (.refl _) ⟨2,r,hd⟩))))
   exact .skipS [] r r (.seq (.sr (.ks 1 r (.nilS [4] r r (.ret (pret results41 (.t r .n) (.refl _) ⟨4,r,hd⟩))))))
 refine .skipS [5] r r (.seq (.sr (.ks 2 r (.nilS [12,5] r r (.condP r hd (fun a hd=>?_) fun a hd=>?_)))))
 · exact .skipS [12] r r (.condKT r a (.exitS [] r r (.seq (.sr (.ks 1 r (.nilS [4] r r (.ret (pret results41 (.t r .n) (.refl _) ⟨4,r,hd⟩))))))))
 refine .region (.ks 2 r (.nilS [12] r r (.condP r hd (fun g hd=>?_) fun g hd=>?_)))
 · exact .exitS [] r r (.seq (.sr (.ks 1 r (.nilS [4] r r (.ret (pret results41 (.t r .n) (.refl _) ⟨4,r,hd⟩))))))
 exact .skipS [] r r (.exitS [] r r (.sr (.ks 1 r (.nilS [4] r r (.ret (pret results41 (.t r .n) (.refl _) ⟨0,r,hd⟩))))))
theorem W_spvec_within {I:IH} {a0:Int} {a1:Int} {Q:Bool→Prop}  (hd:spvec_within a0 a1 Q) :
  PFun prog 130 [.int .i64 a0,.int .i64 a1] I (fun _=>o2_ Q):=by
 refine Fun.enter func130 r ntmps130 r (.c (.c .n)) fun w0 M=>?_
 refine .sr (.ks 1 r (.nilS [1,0] r r (.sr (.ks 3 r ?_))))
 refine splitP hd (fun a hd=>?_) fun a hd=>?_
 · rw [a]
   exact .ks 5 r (.nilS [4] r r (.ret (pret results130 (.t r .n) (.refl _) ⟨(decide (a0≤a1)),r,hd⟩)))
 rw [a]
 exact .ks 5 r (.nilS [4] r r (.ret (pret results130 (.t r .n) (.refl _) ⟨false,r,hd⟩)))
theorem W_spvec_Right_1_81a {I:IH} {o0:Int} {o1:Vec} {a0:Item} {b3:Nat} {b4:Nat} {p5:Option Addr} {c6:Nat} {Q:(Bool×Int)→Prop} (R7:RepSl eItem I p5 c6 o1.Items) (hd:spvec_Right_1_81a o0 o1 a0 Q) :
  Fun prog 132 #[.agg (encItem a0).toArray,.pointer (some ⟨b3,0,none⟩),.pointer (some ⟨b4,0,none⟩)] I [pto b3 (.cells #[.int .i64 o0] 3 (0,0)),pto b4 (.cells #[.int .i64 o1.N,.slice p5 o1.Items.length c6] 82 (0,0))] (fun I_ v l=>∃ r,v=.bool r.1∧l=[pto b3 (.cells #[.int .i64 r.2] 3 (0,0)),pto b4 (.cells #[.int .i64 o1.N,.slice p5 o1.Items.length c6] 82 (0,0))]∧Q r):=by
 refine Fun.enter (vs:=[.agg (encItem a0).toArray,.pointer (some ⟨b3,0,none⟩),.pointer (some ⟨b4,0,none⟩)]) func132 r ntmps132 r (.c (.c (.c .n))) fun w0 M=>?_
 refine .sr (.boxA r r r fun b=>?_)
 refine .ks 1 r (.nilS [3,2,1] r r (.sr (.fa un119 r sz3 r (o:=0) r r r (.load1 ia3 r .z r r r (.load1 ia3 r (.s .z) r r r (.ks 2 r ?_))))))
 refine splitP hd (fun a hd=>?_) fun a hd=>?_
 · rw [a]
   refine .ks 7 r (.nilS [5,3,2,1] r r (.sr (.fa un119 r sz3 r (o:=0) r r r (.load1 ia3 r .z r r r (.store1 sz3 r r (.s .z) (.t .nil) r (.nilS [5,2,1] r r (.drop .z (.sr (.ks 2 r ?_)))))))))
   exact .nilS [4,2,1] r r (.ret (oret results132 (.t r .n) (.refl _) (.c .z (.c .z .n)) ⟨(true,a0.At),r,r,hd⟩))
 rw [a]
 refine .gyes r r r (.fa un119 r sz3 r (o:=0) r r r (.gyes r r r (.load1 ia3 r .z r r r (.gyes r r r (.fa un82 r sz3 r (o:=0) r r r (.gyes r r r (.load1 ia3 r (.s (.s .z)) r r r (.ks 3 r (.nilS [5,3,2,1] r r (.sr (.fa un119 r sz3 r (o:=0) r r r (.load1 ia3 r .z r r r (.store1 sz3 r r (.s .z) (.t .nil) r ?_)))))))))))))
 exact .nilS [5,2,1] r r (.drop .z (.sr (.ks 2 r (.nilS [4,2,1] r r (.ret (oret results132 (.t r .n) (.refl _) (.c .z (.c .z .n)) ⟨(decide (o1.N≤a0.At),a0.At),r,r,hd⟩))))))
theorem W_slices_IndexFunc_api_Item_api_Item_a3e {I:IH} {o0:Int} {o1:Vec} {a0:List Item} {b3:Nat} {b4:Nat} {p5:Option Addr} {c6:Nat} {p8:Option Addr} {c9:Nat} {Q:(Int×Int)→Prop} (R7:RepSl eItem I p5 c6 o1.Items) (R10:RepSl eItem I p8 c9 a0) (hd:slices_IndexFunc_api_Item_api_Item_a3e o0 o1 a0 Q) :
  Fun prog 172 #[.slice p8 a0.length c9,.func (.func 132) #[] #[.pointer (some ⟨b3,0,none⟩),.pointer (some ⟨b4,0,none⟩)]] I [pto b3 (.cells #[.int .i64 o0] 3 (0,0)),pto b4 (.cells #[.int .i64 o1.N,.slice p5 o1.Items.length c6] 82 (0,0))] (fun I_ v l=>∃ r,v=.int .i64 r.1∧l=[pto b3 (.cells #[.int .i64 r.2] 3 (0,0)),pto b4 (.cells #[.int .i64 o1.N,.slice p5 o1.Items.length c6] 82 (0,0))]∧Q r):=by
 refine Fun.enter (vs:=[.slice p8 a0.length c9,.func (.func 132) #[] #[.pointer (some ⟨b3,0,none⟩),.pointer (some ⟨b4,0,none⟩)]]) func172 r ntmps172 r (.c (.c .n)) fun w0 M=>?_
 refine .sr (.ks 1 r (.nilS [1,0] r r (.seq (.sr (.ks 1 r (.len un80 r r r r (.ks 1 r (.nilS [8,7,1,0] r r (.block ?_)))))))))
 refine .loop hd (fun (s:Int×Int) c w=>match s with | (e,f)=>∃ I_,IH.le I I_∧Ok ⟨19,[],none⟩ [(0,.slice p8 a0.length c9),(1,.func (.func 132) #[] #[.pointer (some ⟨b3,0,none⟩),.pointer (some ⟨b4,0,none⟩)]),(7,.int .i64 (a0.length:Int)),(8,.int .i64 f)] c∧Sym w0 M I I_ [pto b3 (.cells #[.int .i64 e] 3 (0,0)),pto b4 (.cells #[.int .i64 o1.N,.slice p5 o1.Items.length c6] 82 (0,0))] w) (fun c w ho hs=>⟨I,(.refl _),ho.sub ⟨r,r,r,r,trivial⟩,hs.pick (.c .z (.c .z .n))⟩) ?_
 rintro ⟨e,f⟩ u hd c w hst
 obtain ⟨x,a,hok,hsym⟩:=hst
 replace R7:=R7.mono a
 replace R10:=R10.mono a
 refine Cod.at hok hsym (.sr (.ks 1 r (.nilS [9,8,7,1,0] r r (.seq (.condP r hd (fun k hd=>?_) fun k hd=>?_)))))
 · refine .skipS [8,7,1,0] r r (.seq (.block (.sr (.ks 2 r (.nilS [5,8,7,1,0] r r (.sr (.ks 3 r ?_)))))))
   obtain ⟨j,y,g,hd⟩:=hd
   obtain ⟨D,o70,C,A,d,m⟩:=R10.2 _ _ g
   cases m
   refine .ixa un80 sz119 r A r j (idx_lt g j) r r (.ldW isAgg119 sz119 d r r r r ?_)
   have o:=W_spvec_Right_1_81a (I:=x) (o0:=e) (o1:=o1) (a0:=y) (b3:=b3) (b4:=b4) (p5:=p5) (c6:=c6) R7 hd
   refine .callS (.c call132 r r) (.c .z (.c .z .n)) o r r fun E B F b p=>?_
   obtain ⟨h,rfl,rfl,hd⟩:=p
   have i:=IH.le.trans a b
   replace R7:=R7.mono b
   replace R10:=R10.mono b
   replace d:=d.mono b
   refine .re (m':=[pto b3 (.cells #[.int .i64 h.2] 3 (0,0)),pto b4 (.cells #[.int .i64 o1.N,.slice p5 o1.Items.length c6] 82 (0,0))]) r (.nilS [16,5,8,7,1,0] r r (.condP r hd (fun q hd=>?_) fun q hd=>?_))
   · exact .sr (.ks 2 r (.nilS [4,1] r r (.ret (oret results172 (.t r .n) i (.c .z (.c .z .n)) ⟨(f,h.2),r,r,hd⟩))))
   exact .skipS [8,7,1,0] r r (.region (.ks 2 r (.nil' fun c w ho hs=>⟨(h.2,w64 (f+1)),hd,B,i,ho.sub ⟨r,r,r,r,trivial⟩,hs.pick (.c .z (.c .z .n))⟩)))
 exact .exitS [1] r r (.sr (.ks 1 r (.nilS [4,1] r r (.ret (oret results172 (.t r .n) a (.c .z (.c .z .n)) ⟨((-1),e),r,r,hd⟩)))))
theorem W_slices_ContainsFunc_api_Item_api_Item_cd0 {I:IH} {o0:Int} {o1:Vec} {a0:List Item} {b3:Nat} {b4:Nat} {p5:Option Addr} {c6:Nat} {p8:Option Addr} {c9:Nat} {Q:(Bool×Int)→Prop} (R7:RepSl eItem I p5 c6 o1.Items) (R10:RepSl eItem I p8 c9 a0) (hd:slices_ContainsFunc_api_Item_api_Item_cd0 o0 o1 a0 Q) :
  Fun prog 131 #[.slice p8 a0.length c9,.func (.func 132) #[] #[.pointer (some ⟨b3,0,none⟩),.pointer (some ⟨b4,0,none⟩)]] I [pto b3 (.cells #[.int .i64 o0] 3 (0,0)),pto b4 (.cells #[.int .i64 o1.N,.slice p5 o1.Items.length c6] 82 (0,0))] (fun I_ v l=>∃ r,v=.bool r.1∧l=[pto b3 (.cells #[.int .i64 r.2] 3 (0,0)),pto b4 (.cells #[.int .i64 o1.N,.slice p5 o1.Items.length c6] 82 (0,0))]∧Q r):=by
 refine Fun.enter (vs:=[.slice p8 a0.length c9,.func (.func 132) #[] #[.pointer (some ⟨b3,0,none⟩),.pointer (some ⟨b4,0,none⟩)]]) func131 r ntmps131 r (.c (.c .n)) fun w0 M=>?_
 refine .sr (.ks 1 r (.nilS [1,0] r r (.sr (.ks 2 r ?_))))
 have d:=W_slices_IndexFunc_api_Item_api_Item_a3e (I:=I) (o0:=o0) (o1:=o1) (a0:=a0) (b3:=b3) (b4:=b4) (p5:=p5) (c6:=c6) R7 R10 hd
 refine .callS (.f call172 r) (.c .z (.c .z .n)) d r r fun g h i a e=>?_
 obtain ⟨b,rfl,rfl,hd⟩:=e
 replace R7:=R7.mono a
 replace R10:=R10.mono a
 exact .re (m':=[pto b3 (.cells #[.int .i64 b.2] 3 (0,0)),pto b4 (.cells #[.int .i64 o1.N,.slice p5 o1.Items.length c6] 82 (0,0))]) r (.ks 2 r (.nilS [4,1] r r (.ret (oret results131 (.t r .n) a (.c .z (.c .z .n)) ⟨(decide (0≤b.1),b.2),r,r,hd⟩))))
theorem W_spvec_Right {I:IH} {a0:Vec} {p1:Option Addr} {c2:Nat} {Q:Bool→Prop} (R3:RepSl eItem I p1 c2 a0.Items) (hd:spvec_Right a0 Q) :
  PFun prog 74 [.agg #[.int .i64 a0.N,.slice p1 a0.Items.length c2]] I (fun _=>o2_ Q):=by
 refine Fun.enter func74 r ntmps74 r (.c .n) fun w0 M=>?_
 refine .sr (.boxA r r r fun k=>?_)
 refine .ks 1 r (.nilS [1] r r (.seq (.sr (.fa un82 r sz3 r (o:=0) r r r (.load1 ia3 r .z r r r ?_)))))
 have e:=W_spvec_within (I:=I) hd
 refine .callP call130 r e r r fun l g=>?_
 obtain ⟨m,rfl,hd⟩:=g
 refine .ks 1 r (.nilS [7,1] r r (.condP r hd (fun h hd=>?_) fun h hd=>?_))
 · exact .sr (.ks 1 r (.nilS [2] r r (.drop .z (.ret (pret results74 (.t r .n) (.refl _) ⟨false,r,hd⟩)))))
 refine .skipS [1] r r (.sr (.alloc1 zv3 r r r fun b=>?_))
 refine .store1 sz3 r r .z (.t .nil) r (.nilS [3,1] r r (.sr (.fa un82 r sz80 r (o:=1) r r r (.load1 ia80 r (.s .z) r r r (.mkFn r r r r ?_)))))
 have i:=W_slices_ContainsFunc_api_Item_api_Item_cd0 (I:=I) (o0:=(-1)) (o1:=a0) (a0:=a0.Items) (b3:=b) (b4:=k) (p5:=p1) (c6:=c2) R3 R3 hd
 refine .callS (.f call131 r) (.c .z (.c .z .n)) i r r fun p q u a j=>?_
 obtain ⟨d,rfl,rfl,hd⟩:=j
 replace R3:=R3.mono a
 exact .re (m':=[pto b (.cells #[.int .i64 d.2] 3 (0,0)),pto k (.cells #[.int .i64 a0.N,.slice p1 a0.Items.length c2] 82 (0,0))]) r (.ks 2 r (.nilS [2] r r (.drop .z (.drop .z (.ret (pret results74 (.t r .n) a ⟨(!d.1),r,hd⟩))))))
theorem W_spvec_sure {I:IH} {a0:Vec} {p1:Option Addr} {c2:Nat} {Q:Vec→Prop} (R3:RepSl eItem I p1 c2 a0.Items) (hd:spvec_sure a0 Q) :
  PFun prog 133 [.agg #[.int .i64 a0.N,.slice p1 a0.Items.length c2]] I (o18_ Q):=by
 refine Fun.enter func133 r ntmps133 r (.c .n) fun w0 M=>?_
 refine .sr (.boxA r r r fun e=>?_)
 refine .allocA zv82 r r fun f=>?_
 refine .nilS [2,1] r r (.seq (.sr (.loadW ia82 sz82 r (.s .z) r r r ?_)))
 have a:=W_spvec_Right (I:=I) R3 hd
 refine .callP call74 r a r r fun g b=>?_
 obtain ⟨h,rfl,hd⟩:=b
 refine .nilS [4,2,1] r r (.condP r hd (fun d hd=>?_) fun d hd=>?_)
 · exact .sr (.loadW ia82 sz82 r (.s .z) r r r (.storeA sz82 r r .z (.t (.t .nil)) r r (.nilS [2] r r (.drop (.s .z) (.ret (pret results133 (.w ia82 sz82 r .z r .n) (.refl _) ⟨a0,_,_,r,R3,hd⟩))))))
 exact .skipS [2] r r (.drop (.s .z) (.sr (.build zv82 un82 BI82 .n (by exact trivial) r r (.storeA sz82 r r .z (.t (.t .nil)) r r (.nilS [2] r r (.ret (pret results133 (.w ia82 sz82 r .z r .n) (.refl _) ⟨({ N:=0,Items:=([]:List Item) }:Vec),_,_,r,(.nil _ _ _),hd⟩)))))))
theorem W_spvec_Places {I:IH} {a0:Vec} {p1:Option Addr} {c2:Nat} {Q:(List Int)→Prop} (R3:RepSl eItem I p1 c2 a0.Items) (hd:spvec_Places a0 Q) :
  PFun prog 76 [.agg #[.int .i64 a0.N,.slice p1 a0.Items.length c2]] I (o14_ Q):=by
 refine Fun.enter func76 r ntmps76 r (.c .n) fun w0 M=>?_
 refine .sr (.boxA r r r fun W=>?_)
 refine .ks 1 r (.nilS [1] r r (.sr (.ks 1 r (.nilS [3,1] r r (.seq (.sr (.loadW ia82 sz82 r .z r r r ?_)))))))
 have y:=W_spvec_sure (I:=I) R3 hd
 refine .call call133 r y r r fun V q e A=>?_
 obtain ⟨u,F,G,rfl,f,hd⟩:=A
 replace R3:=R3.mono e
 refine .field1 un82 r ia80 r r r r (.len un80 r r r r (.ks 1 r (.nilS [10,9,8,3] r r (.drop .z (.block (.own0 eI64 3 (.loop hd (fun (s:(List Int)×Int) c w=>match s with | (b,g)=>∃ I_ h i,IH.le q I_∧Ok ⟨21,[],none⟩ [(3,.slice h b.length i),(8,.slice F u.Items.length G),(9,.int .i64 (u.Items.length:Int)),(10,.int .i64 g)] c∧Sym w0 M I I_ [OwnSl eI64 3 h i b] w) (fun c w ho hs=>⟨q,_,_,(.refl _),ho.sub ⟨r,r,r,r,trivial⟩,hs.pick (.c .z .n)⟩) ?_)))))))
 rintro ⟨b,g⟩ H hd c w hst
 obtain ⟨J,h,i,a,hok,hsym⟩:=hst
 have B:=IH.le.trans e a
 replace f:=f.mono a
 refine Cod.at hok hsym (.sr (.ks 1 r (.nilS [11,10,9,8,3] r r (.seq (.condP r hd (fun C hd=>?_) fun C hd=>?_)))))
 · refine .skipS [10,9,8,3] r r (.seq (.block (.sr ?_)))
   obtain ⟨v,x,j,hd⟩:=hd
   obtain ⟨O,o101,K,D,k,l⟩:=f.2 _ _ j
   cases l
   refine .ixa un80 sz119 r D r v (idx_lt j v) r r (.ldW isAgg119 sz119 k r r r r (.allocA zv119 r r fun P=>?_))
   refine .storeA sz119 r r .z (.t (.t .nil)) r r (.nilS [5,10,9,8,3] r r (.region (.ks 1 r (.fa un119 r sz3 r (o:=0) r r r (.load1 ia3 r .z r r r (.buildSlice 1 un51 sz3 zv3 r r (.c r r r .n) r r fun R=>?_))))))
   obtain ⟨m,hd⟩:=hd
   refine .append (ys:=[x.At]) 8 (.s (.s .z)) un51 un51 IN3 r r r r r r r r r (.box .z (.one r) r) m r r fun S T=>?_
   exact .ks 1 r (.nilS [3,10,9,8] r r (.drop (.s .z) (.drop (.s .z) (.region (.ks 2 r (.nil' fun c w ho hs=>⟨((b++([x.At])),w64 (g+1)),hd,J,_,_,a,ho.sub ⟨r,r,r,r,trivial⟩,hs.pick (.c .z .n)⟩))))))
 refine .exitS [3] r r (.sr (.ks 2 r (.nilS [2] r r (.pub .z fun U d E=>?_))))
 have p:=IH.le.trans B d
 have L:=IH.le.trans a d
 exact .ret (pret results76 (.t r .n) p ⟨b,_,_,r,E,hd⟩)
theorem W_devec_Of {I:IH} {a0:Vec} {p1:Option Addr} {c2:Nat} {Q:Dense→Prop} (R3:RepSl eItem I p1 c2 a0.Items) (hd:devec_Of a0 Q) :
  PFun prog 42 [.agg #[.int .i64 a0.N,.slice p1 a0.Items.length c2]] I (o23_ Q):=by
 refine Fun.enter func42 r ntmps42 r (.c .n) fun w0 M=>?_
 refine .sr (.boxA r r r fun a1=>?_)
 refine .allocA zv88 r r fun a2=>?_
 refine .nilS [2,1] r r (.seq (.sr (.loadW ia82 sz82 r (.s .z) r r r ?_)))
 have a6:=W_spvec_Right (I:=I) R3 hd
 refine .callP call74 r a6 r r fun d7 a7=>?_
 obtain ⟨d8,rfl,hd⟩:=a7
 refine .ks 1 r (.nilS [8,2,1] r r (.condP r hd (fun a8 hd=>?_) fun a8 hd=>?_))
 · refine .sr ?_
   have a9:=W_devec_New (I:=I) hd
   refine .callO call75 r a9 r r fun d9 e0 e1 y b0=>?_
   obtain ⟨c0,e3,e4,e5,e6,rfl,A,rfl,hd⟩:=b0
   replace R3:=R3.mono y
   refine .storeA sz88 r r (.s .z) (.t (.t (.t .nil))) r r (.nilS [2] r r (.drop (.s (.s .z)) (.pub .z fun e7 C c1=>?_)))
   have b1:=IH.le.trans y C
   replace A:=A.mono C
   exact .ret (pret results42 (.w ia88 sz88 r .z r .n) b1 ⟨c0,_,_,_,_,r,A,c1,hd⟩)
 refine .skipS [2,1] r r (.sr (.fa un82 r sz3 r (o:=0) r r r (.load1 ia3 r (.s .z) r r r ?_)))
 have b2:=W_devec_New (I:=I) hd
 refine .callO call75 r b2 r r fun e8 a3 e9 D b3=>?_
 obtain ⟨m,a4,a5,f0,f1,rfl,i,rfl,hd⟩:=b3
 replace R3:=R3.mono D
 refine .allocA zv88 r r fun E=>?_
 refine .storeA sz88 r r .z (.t (.t (.t .nil))) r r (.nilS [3,2,1] r r (.seq (.sr (.fa un82 r sz80 r (o:=1) r r r (.load1 ia80 r (.s (.s (.s .z))) r r r (.len un80 r r r r (.ks 1 r (.nilS [16,15,14,3,2,1] r r (.block ?_)))))))))
 refine .loop hd (fun (s:(List Int)×Int) c w=>match s with | (a,p)=>∃ I_ q h,IH.le a3 I_∧Ok ⟨35,[],none⟩ [(1,.pointer (some ⟨a1,0,none⟩)),(2,.pointer (some ⟨a2,0,none⟩)),(3,.pointer (some ⟨E,0,none⟩)),(14,.slice p1 a0.Items.length c2),(15,.int .i64 (a0.Items.length:Int)),(16,.int .i64 p)] c∧Sym w0 M I I_ [pto a1 (.cells #[.int .i64 a0.N,.slice p1 a0.Items.length c2] 82 (0,0)),pto a2 (.cells #[.int .i64 0,.slice none 0 0,.slice none 0 0] 88 (0,0)),pto E (.cells #[.int .i64 m.N,.slice a4 m.Has.length a5,.slice q a.length h] 88 (0,0)),OwnSl eI64 2 q h a] w) (fun c w ho hs=>⟨a3,_,_,(.refl _),ho.sub ⟨r,r,r,r,r,r,trivial⟩,hs.pick (.c (.s (.s (.s .z))) (.c (.s (.s .z)) (.c .z (.c .z .n))))⟩) ?_
 rintro ⟨a,p⟩ b9 hd c w hst
 obtain ⟨F,q,h,d,hok,hsym⟩:=hst
 have K:=IH.le.trans D d
 replace R3:=R3.mono d
 replace i:=i.mono d
 refine Cod.at hok hsym (.sr (.ks 1 r (.nilS [17,16,15,14,3,2,1] r r (.seq (.condP r hd (fun L hd=>?_) fun L hd=>?_)))))
 · refine .skipS [16,15,14,3,2,1] r r (.seq (.block (.sr ?_)))
   obtain ⟨G,b,x,hd⟩:=hd
   obtain ⟨c5,o236,c3,b4,O,P⟩:=R3.2 _ _ x
   cases P
   refine .ixa un80 sz119 r b4 r G (idx_lt x G) r r (.ldW isAgg119 sz119 O r r r r (.allocA zv119 r r fun c6=>?_))
   refine .storeA sz119 r r .z (.t (.t .nil)) r r (.nilS [5,16,15,14,3,2,1] r r (.region (.fa un88 r sz23 r (o:=2) r r r (.load1 ia23 r (.s (.s (.s .z))) r r r (.fa un119 r sz3 r (o:=0) r r r (.load1 ia3 r .z r r r (.fa un119 r sz2 r (o:=1) r r r (.load1 ia2 r .z r r r ?_))))))))
   obtain ⟨H,c7,k,hd⟩:=hd
   refine .ownNe (.s (.s (.s (.s .z)))) (idx_ne k) fun J b5=>?_
   cases b5
   exact .ixa0 un23 sz2 r r H (idx_lt k H) r r (.stO1 (j:=0) (v':=b.Val) sz2 (.s (.s (.s (.s .z)))) k r r r (.t .nil) r (.sub (E':=[(1,_),(2,_),(3,_),(14,_),(15,_),(16,_),(5,_),(20,_),(21,.slice (some ⟨J,0,none⟩) (a.set b.At.toNat b.Val).length h),(22,_),(23,_),(24,_),(25,_),(26,_)]) ⟨r,r,r,r,r,r,r,r,(by simp only [List.length_set]; rfl),r,r,r,r,r,trivial⟩ (.reat (.s (.s (.s .z))) (B:=pto E (.cells #[.int .i64 m.N,.slice a4 m.Has.length a5,.slice (some ⟨J,0,none⟩) (a.set b.At.toNat b.Val).length h] 88 (0,0))) (by simp only [List.length_set]) (.nilS [16,15,14,3,2,1] r r (.drop .z (.region (.ks 2 r (.nil' fun c w ho hs=>⟨((a.set b.At.toNat b.Val),w64 (p+1)),hd,F,_,_,d,ho.sub ⟨r,r,r,r,r,r,trivial⟩,hs.pick (.c .z (.c .z (.c .z (.c .z .n))))⟩))))))))
 refine .exitS [3,2,1] r r (.seq (.dr [0,1,2,3,4] 5 (.g r r r (fun _=>.fa un82 r sz3 r (o:=0) r r r .mk) (.g r r r (fun _=>.load1 ia3 r .z r r r .mk) (.g r r r (fun _=>.loadW ia82 sz82 r .z r r r .mk) (.ww r fun ex=>?_))))))
 have R:=W_spvec_Places (I:=F) R3 hd
 refine .call call76 r R r r fun c8 b6 f S=>?_
 obtain ⟨c9,d0,d1,rfl,u,hd⟩:=S
 have T:=IH.le.trans K f
 have U:=IH.le.trans d f
 replace R3:=R3.mono f
 replace i:=i.mono f
 refine .so 4 r r r (.cg r r r r (fun _=>.load1 ia3 r .z r r r .mk) (.cg r r r r (fun _=>.fa un82 r sz3 r (o:=0) r r r .mk) trivial)) (.ww r fun ex=>?_)
 have V:=W_flags_Of (I:=b6) u hd
 refine .call call70 r V r r fun d2 d3 e W=>?_
 obtain ⟨b7,d4,d5,rfl,v,hd⟩:=W
 have X:=IH.le.trans T e
 have Y:=IH.le.trans U e
 replace R3:=R3.mono e
 replace i:=i.mono e
 replace u:=u.mono e
 refine .so 4 r r r trivial (.e2 5 (.fa un88 r sz34 r (o:=1) r r r (.store1 sz34 r r (.s (.s .z)) (.s (.t .nil)) r (.nilS [3,2] r r (.drop .z (.sr (.loadW ia88 sz88 r (.s .z) r r r (.storeA sz88 r r .z (.t (.t (.t .nil))) r r (.nilS [2] r r ?_)))))))))
 refine .drop (.s .z) (.pub (.s .z) fun d6 l b8=>?_)
 have Z:=IH.le.trans X l
 have c4:=IH.le.trans Y l
 replace v:=v.mono l
 exact .ret (pret results42 (.w ia88 sz88 r .z r .n) Z ⟨({ N:=m.N,Has:=b7,Vals:=a }:Dense),_,_,_,_,r,v,b8,hd⟩)
theorem W_slices_Clone_int64_int64 {I:IH} {a0:List Int} {p1:Option Addr} {c2:Nat} {Q:(List Int)→Prop} (R3:RepSl eI64 I p1 c2 a0) (hd:slices_Clone_int64_int64 a0 Q) :
  PFun prog 78 [.slice p1 a0.length c2] I (o14_ Q):=by
 refine Fun.enter func78 r ntmps78 r (.c .n) fun w0 M=>?_
 refine .sr (.ks 1 r (.nilS [0] r r (.seq (.sr (.ks 1 r (.eqNilS un23 r r r r (.nilS [4,0] r r ?_)))))))
 refine split p1.isNone (fun a=>?_) (fun a=>?_)
 · have hd:=hd.1 (RepSl.ofNone R3 a)
   exact .condKT r a (.sr (.ks 1 r (.nilS [2] r r (.ret (pret results78 (.t r .n) (.refl _) ⟨([]:List Int),_,_,r,(.nil _ _ _),hd⟩)))))
 have hd:=hd.2
 refine .condKF r a (.skipS [0] r r (.sr (.buildSlice 0 un23 sz2 zv2 r r .n r r fun i=>?_)))
 refine .ks 1 r (.ownB (El:=eI64) (ys:=([]:List Int)) .z .nil r ?_)
 obtain ⟨b,hd⟩:=hd
 refine .append (ys:=a0) 8 .z un23 un23 IN2 r r r r r r r r r (.imm R3 r) b r r fun f g=>?_
 refine .ks 1 r (.nilS [2] r r (.pub .z fun h d e=>?_))
 exact .ret (pret results78 (.t r .n) d ⟨(([]:List Int)++a0),_,_,r,e,hd⟩)
theorem W_slices_Clone_uint64_uint64 {I:IH} {a0:List Int} {p1:Option Addr} {c2:Nat} {Q:(List Int)→Prop} (R3:RepSl eU64 I p1 c2 a0) (hd:slices_Clone_uint64_uint64 a0 Q) :
  PFun prog 79 [.slice p1 a0.length c2] I (o12_ Q):=by
 refine Fun.enter func79 r ntmps79 r (.c .n) fun w0 M=>?_
 refine .sr (.ks 1 r (.nilS [0] r r (.seq (.sr (.ks 1 r (.eqNilS un34 r r r r (.nilS [4,0] r r ?_)))))))
 refine split p1.isNone (fun a=>?_) (fun a=>?_)
 · have hd:=hd.1 (RepSl.ofNone R3 a)
   exact .condKT r a (.sr (.ks 1 r (.nilS [2] r r (.ret (pret results79 (.t r .n) (.refl _) ⟨([]:List Int),_,_,r,(.nil _ _ _),hd⟩)))))
 have hd:=hd.2
 refine .condKF r a (.skipS [0] r r (.sr (.buildSlice 0 un34 sz96 zeroValue96 r r .n r r fun i=>?_)))
 refine .ks 1 r (.ownB (El:=eU64) (ys:=([]:List Int)) .z .nil r ?_)
 obtain ⟨b,hd⟩:=hd
 refine .append (ys:=a0) 8 .z un34 un34 IN96 r r r r r r r r r (.imm R3 r) b r r fun f g=>?_
 refine .ks 1 r (.nilS [2] r r (.pub .z fun h d e=>?_))
 exact .ret (pret results79 (.t r .n) d ⟨(([]:List Int)++a0),_,_,r,e,hd⟩)
theorem W_flags_ones {I:IH} {a0:Int} {Q:Int→Prop}  (hd:flags_ones a0 Q) :
  PFun prog 138 [.int .u64 a0] I (fun _=>o0_ Q):=by
 refine Fun.enter func138 r ntmps138 r (.c .n) fun w0 M=>?_
 refine .sr (.ks 1 r (.nilS [0] r r (.scope (.sr (.ks 1 r (.nilS [3,0] r r (.seq (.labelS [3,0] r r (.seq ?_)))))))))
 refine .block (.loop hd (fun (s:Int×Int) c w=>match s with | (d,a)=>∃ I_,IH.le I I_∧Ok ⟨13,[],none⟩ [(0,.int .u64 d),(3,.int .i64 a)] c∧Sym w0 M I I_ [] w) (fun c w ho hs=>⟨I,(.refl _),ho.sub ⟨r,r,trivial⟩,hs.pick .n⟩) ?_)
 rintro ⟨d,a⟩ f hd c w hst
 obtain ⟨g,b,hok,hsym⟩:=hst
 refine Cod.at hok hsym (.block (.seq (.sr (.ks 2 r (.nilS [5,3,0] r r (.condP r hd (fun e hd=>?_) fun e hd=>?_))))))
 · exact .exitS [3] r r (.sr (.ks 2 r (.nilS [2] r r (.ret (pret results138 (.t r .n) b ⟨a,r,hd⟩)))))
 exact .skipS [3,0] r r (.sr (.ks 5 r (.nilS [0,3] r r (.region (.ks 3 r (.nil' fun c w ho hs=>⟨(bnd .u64 d (IntKind.wrap .u64 (d - 1)),w64 (a+1)),hd,g,b,ho.sub ⟨r,r,trivial⟩,hs.pick .n⟩))))))
theorem W_flags_Count {I:IH} {a0:List Int} {p1:Option Addr} {c2:Nat} {Q:Int→Prop} (R3:RepSl eU64 I p1 c2 a0) (hd:flags_Count a0 Q) :
  PFun prog 86 [.slice p1 a0.length c2] I (fun _=>o0_ Q):=by
 refine Fun.enter func86 r ntmps86 r (.c .n) fun w0 M=>?_
 refine .sr (.ks 1 r (.nilS [0] r r (.sr (.ks 1 r (.nilS [3,0] r r (.seq (.sr (.ks 1 r (.len un34 r r r r ?_)))))))))
 refine .ks 1 r (.nilS [8,7,6,3] r r (.block (.loop hd (fun (s:Int×Int) c w=>match s with | (b,d)=>∃ I_,IH.le I I_∧Ok ⟨18,[],none⟩ [(3,.int .i64 b),(6,.slice p1 a0.length c2),(7,.int .i64 (a0.length:Int)),(8,.int .i64 d)] c∧Sym w0 M I I_ [] w) (fun c w ho hs=>⟨I,(.refl _),ho.sub ⟨r,r,r,r,trivial⟩,hs.pick .n⟩) ?_)))
 rintro ⟨b,d⟩ o hd c w hst
 obtain ⟨f,a,hok,hsym⟩:=hst
 replace R3:=R3.mono a
 refine Cod.at hok hsym (.sr (.ks 1 r (.nilS [9,8,7,6,3] r r (.seq (.condP r hd (fun h hd=>?_) fun h hd=>?_)))))
 · refine .skipS [8,7,6,3] r r (.seq (.block (.sr ?_)))
   obtain ⟨g,v,e,hd⟩:=hd
   obtain ⟨x,o51,u,p,i,k⟩:=R3.2 _ _ e
   cases k
   refine .ixa un34 sz96 r p r g (idx_lt e g) r r (.ld1 (j:=0) ia96 i r r r r r (.ks 1 r (.nilS [5,8,7,6,3] r r (.region (.ks 2 r ?_)))))
   have l:=W_flags_ones (I:=f) hd
   refine .callP call138 r l r r fun y m=>?_
   obtain ⟨q,rfl,hd⟩:=m
   exact .ks 2 r (.nilS [3,8,7,6] r r (.region (.ks 2 r (.nil' fun c w ho hs=>⟨(w64 (b+q),w64 (d+1)),hd,f,a,ho.sub ⟨r,r,r,r,trivial⟩,hs.pick .n⟩))))
 exact .exitS [3] r r (.sr (.ks 2 r (.nilS [2] r r (.ret (pret results86 (.t r .n) a ⟨b,r,hd⟩)))))
theorem W_prog_Live {I:IH} {a0:Plan} {a1:State} {a2:Int} {p1:Option Addr} {c2:Nat} {p4:Option Addr} {c5:Nat} {p7:Option Addr} {c8:Nat} {p10:Option Addr} {c11:Nat} {Q:Int→Prop} (R3:RepSl eI64 I p1 c2 a0.Draws) (R6:RepSl eI64 I p4 c5 a1.A) (R9:RepSl eI64 I p7 c8 a1.B) (R12:RepSl eU64 I p10 c11 a1.On) (hd:prog_Live a0 a1 a2 Q) :
  PFun prog 47 [.agg #[.int .i64 a0.Kind,.int .i64 a0.N,.int .i64 a0.Source,.int .i64 a0.Length,.slice p1 a0.Draws.length c2],.agg #[.int .i64 a1.Low,.int .i64 a1.High,.slice p4 a1.A.length c5,.slice p7 a1.B.length c8,.slice p10 a1.On.length c11],.int .i64 a2] I (fun _=>o0_ Q):=by
 refine Fun.enter func47 r ntmps47 r (.c (.c (.c .n))) fun w0 M=>?_
 refine .sr (.boxA r r r fun X=>?_)
 refine .boxA r r r fun Y=>?_
 refine .ks 1 r (.nilS [4,3,2] r r (.sr (.loadW ia25 sz25 r (.s .z) r r r (.loadW ia36 sz36 r .z r r r ?_))))
 have y:=W_prog_sure (I:=I) R3 R6 R9 R12 hd
 refine .call call69 r y r r fun Z e a C=>?_
 obtain ⟨q,P,R,a3,a4,a5,a6,rfl,h,a7,u,hd⟩:=C
 replace R3:=R3.mono a
 replace R6:=R6.mono a
 replace R9:=R9.mono a
 replace R12:=R12.mono a
 refine .storeA sz36 r r .z (.t (.t (.t (.t (.t .nil))))) r r (.nilS [4,3,2] r r (.seq (.sr (.fa un25 r sz22 r (o:=0) r r r (.load1 ia22 r (.s .z) r r r (.nilS [14,4,3,2] r r (.block (.sr (.ks 2 r ?_)))))))))
 refine .nilS [15,14,4,3,2] r r (.condP r hd (fun D hd=>?_) fun D hd=>?_)
 · refine .sr (.ks 1 r (.fa un25 r sz3 r (o:=3) r r r (.load1 ia3 r (.s .z) r r r (.ks 1 r (.nilS [20,4] r r (.drop (.s .z) (.condP r hd (fun E hd=>?_) fun E hd=>?_)))))))
   · exact .sr (.ks 1 r (.nilS [6] r r (.drop .z (.ret (pret results47 (.t r .n) a ⟨0,r,hd⟩)))))
   refine .skipS [4] r r (.sr (.fa un36 r sz34 r (o:=4) r r r (.load1 ia34 r .z r r r ?_)))
   have F:=W_flags_Count (I:=e) u hd
   refine .callP call86 r F r r fun a8 G=>?_
   obtain ⟨S,rfl,hd⟩:=G
   exact .ks 1 r (.nilS [6] r r (.drop .z (.ret (pret results47 (.t r .n) a ⟨S,r,hd⟩))))
 refine .sr (.ks 2 r (.nilS [21,4] r r (.drop (.s .z) (.condP r hd (fun H hd=>?_) fun H hd=>?_))))
 · refine .sr (.ks 1 r (.nilS [7,4] r r (.seq (.sr (.fa un36 r sz23 r (o:=2) r r r (.load1 ia23 r .z r r r (.len un23 r r r r (.ks 1 r (.nilS [26,25,24,7] r r ?_)))))))))
   refine .drop .z (.block (.loop hd (fun (s:Int×Int) c w=>match s with | (d,f)=>∃ I_,IH.le e I_∧Ok ⟨39,[],none⟩ [(7,.int .i64 d),(24,.slice P q.A.length R),(25,.int .i64 (q.A.length:Int)),(26,.int .i64 f)] c∧Sym w0 M I I_ [] w) (fun c w ho hs=>⟨e,(.refl _),ho.sub ⟨r,r,r,r,trivial⟩,hs.pick .n⟩) ?_))
   rintro ⟨d,f⟩ T hd c w hst
   obtain ⟨v,b,hok,hsym⟩:=hst
   have J:=IH.le.trans a b
   replace h:=h.mono b
   refine Cod.at hok hsym (.sr (.ks 1 r (.nilS [27,26,25,24,7] r r (.seq (.condP r hd (fun K hd=>?_) fun K hd=>?_)))))
   · refine .skipS [26,25,24,7] r r (.seq (.block (.sr ?_)))
     obtain ⟨x,a9,g,hd⟩:=hd
     obtain ⟨V,o102,U,L,i,k⟩:=h.2 _ _ g
     cases k
     refine .ixa un23 sz2 r L r x (idx_lt g x) r r (.ld1 (j:=0) ia2 i r r r r r (.ks 1 r (.nilS [9,26,25,24,7] r r (.sr (.ks 2 r (.nilS [31,26,25,24,7] r r (.condP r hd (fun l hd=>?_) fun l hd=>?_)))))))
     · exact .region (.ks 3 r (.nilS [7,26,25,24] r r (.region (.ks 2 r (.nil' fun c w ho hs=>⟨(w64 (d+1),w64 (f+1)),hd,v,b,ho.sub ⟨r,r,r,r,trivial⟩,hs.pick .n⟩)))))
     exact .skipS [26,25,24,7] r r (.region (.ks 2 r (.nil' fun c w ho hs=>⟨(d,w64 (f+1)),hd,v,b,ho.sub ⟨r,r,r,r,trivial⟩,hs.pick .n⟩)))
   exact .exitS [7] r r (.sr (.ks 2 r (.nilS [6] r r (.ret (pret results47 (.t r .n) J ⟨d,r,hd⟩)))))
 refine .skipS [4] r r (.sr (.fa un36 r sz34 r (o:=4) r r r (.load1 ia34 r .z r r r ?_)))
 have m:=W_flags_Count (I:=e) u hd
 refine .callP call86 r m r r fun W p=>?_
 obtain ⟨O,rfl,hd⟩:=p
 exact .ks 1 r (.nilS [6] r r (.drop .z (.ret (pret results47 (.t r .n) a ⟨O,r,hd⟩))))
theorem W_spvec_order_7ac {I:IH} {a0:Item} {a1:Int} {Q:Int→Prop}  (hd:spvec_order_7ac a0 a1 Q) :
  Fun prog 174 #[.agg (encItem a0).toArray,.int .i64 a1] I [] (fun I_ v l=>∃ r,v=.int .i64 r∧l=[]∧Q r):=by
 refine Fun.enter (vs:=[.agg (encItem a0).toArray,.int .i64 a1]) func174 r ntmps174 r (.c (.c .n)) fun w0 M=>?_
 refine .sr (.boxA r r r fun e=>?_)
 refine .ks 1 r (.nilS [2,1] r r (.sr (.fa un119 r sz3 r (o:=0) r r r (.load1 ia3 r .z r r r (.ks 1 r ?_)))))
 have a:=W_cmp_Compare_int (I:=I) hd
 refine .callP call196 r a r r fun f b=>?_
 obtain ⟨d,rfl,hd⟩:=b
 exact .ks 1 r (.nilS [4] r r (.drop .z (.ret (oret results174 (.t r .n) (.refl _) .n ⟨d,r,r,hd⟩))))
theorem W_slices_BinarySearchFunc_api_Item_api_Item_int_8a3 {I:IH} {a0:List Item} {a1:Int} {p1:Option Addr} {c2:Nat} {Q:(Int×Bool)→Prop} (R3:RepSl eItem I p1 c2 a0) (hd:slices_BinarySearchFunc_api_Item_api_Item_int_8a3 a0 a1 Q) :
  Fun prog 173 #[.slice p1 a0.length c2,.int .i64 a1,.func (.func 174) #[] #[]] I [] (fun I_ v l=>∃ r,v=.tuple #[.int .i64 r.1,.bool r.2]∧l=[]∧Q r):=by
 refine Fun.enter (vs:=[.slice p1 a0.length c2,.int .i64 a1,.func (.func 174) #[] #[]]) func173 r ntmps173 r (.c (.c (.c .n))) fun w0 M=>?_
 refine .sr (.ks 2 r (.nilS [2,1,0] r r (.sr (.ks 1 r (.len un80 r r r r (.ks 1 r (.nilS [8,2,1,0] r r (.sr (.ks 3 r ?_)))))))))
 refine .nilS [10,9,8,2,1,0] r r (.seq (.block (.loop hd (fun (s:Int×Int) c w=>match s with | (a,d)=>∃ I_,IH.le I I_∧Ok ⟨49,[],none⟩ [(0,.slice p1 a0.length c2),(1,.int .i64 a1),(2,.func (.func 174) #[] #[]),(8,.int .i64 (a0.length:Int)),(9,.int .i64 a),(10,.int .i64 d)] c∧Sym w0 M I I_ [] w) (fun c w ho hs=>⟨I,(.refl _),ho.sub ⟨r,r,r,r,r,r,trivial⟩,hs.pick .n⟩) ?_)))
 rintro ⟨a,d⟩ N hd c w hst
 obtain ⟨o,b,hok,hsym⟩:=hst
 replace R3:=R3.mono b
 refine Cod.at hok hsym (.seq (.sr (.ks 3 r (.nilS [17,10,9,8,2,1,0] r r (.condP r hd (fun x hd=>?_) fun x hd=>?_)))))
 · refine .skipS [10,9,8,2,1,0] r r (.block (.sr (.ks 3 r (.conv un3 underlying148 r r r (.shr' r r (by decide) r r (.conv underlying148 un3 r r r (.ks 1 r (.nilS [11,10,9,8,2,1,0] r r (.sr ?_)))))))))
   refine .ks 3 r ?_
   obtain ⟨p,G,j,hd⟩:=hd
   obtain ⟨R,o128,O,H,e,y⟩:=R3.2 _ _ j
   cases y
   refine .ixa un80 sz119 r H r p (idx_lt j p) r r (.ldW isAgg119 sz119 e r r r r (.ks 1 r ?_))
   have z:=W_spvec_order_7ac (I:=o) (a0:=G) (a1:=a1) hd
   refine .callS (.c call174 r r) .n z r r fun S q T f A=>?_
   obtain ⟨U,rfl,rfl,hd⟩:=A
   have k:=IH.le.trans b f
   replace R3:=R3.mono f
   replace e:=e.mono f
   refine .re (m':=[]) r (.ks 1 r (.nilS [31,11,10,9,8,2,1,0] r r (.condP r hd (fun B hd=>?_) fun B hd=>?_)))
   · exact .region (.ks 3 r (.nil' fun c w ho hs=>⟨(w64 ((w64 (shr .u64 (IntKind.wrap .u64 (w64 (a+d))) 1))+1),d),hd,q,k,ho.sub ⟨r,r,r,r,r,r,trivial⟩,hs.pick .n⟩))
   exact .region (.ks 2 r (.nil' fun c w ho hs=>⟨(a,w64 (shr .u64 (IntKind.wrap .u64 (w64 (a+d))) 1)),hd,q,k,ho.sub ⟨r,r,r,r,r,r,trivial⟩,hs.pick .n⟩))
 refine .exitS [9,8,2,1,0] r r (.sr (.ks 5 r ?_))
 refine splitP hd (fun g hd=>?_) fun g hd=>?_
 · rw [g]
   refine .ks 3 r ?_
   obtain ⟨u,J,m,hd⟩:=hd
   obtain ⟨V,o147,P,K,h,C⟩:=R3.2 _ _ m
   cases C
   refine .gyes r r r (.ixa un80 sz119 r K r u (idx_lt m u) r r (.gyes r r r (.ldW isAgg119 sz119 h r r r r (.ks 1 r ?_))))
   have D:=W_spvec_order_7ac (I:=o) (a0:=J) (a1:=a1) hd
   refine .gyes r r r (.callS (.c call174 r r) .n D r r fun W X Y i E=>?_)
   obtain ⟨L,rfl,rfl,hd⟩:=E
   have F:=IH.le.trans b i
   replace R3:=R3.mono i
   replace h:=h.mono i
   exact .re (m':=[]) r (.ks 4 r (.nilS [7,6,2] r r (.ret (oret results173 (.t r (.t r .n)) F .n ⟨(a,L==0),r,r,hd⟩))))
 rw [g]
 exact .ks 11 r (.nilS [7,6,2] r r (.ret (oret results173 (.t r (.t r .n)) b .n ⟨(a,false),r,r,hd⟩)))
theorem W_spvec_find {I:IH} {a0:Vec} {a1:Int} {p1:Option Addr} {c2:Nat} {Q:(Int×Bool)→Prop} (R3:RepSl eItem I p1 c2 a0.Items) (hd:spvec_find a0 a1 Q) :
  PFun prog 137 [.agg #[.int .i64 a0.N,.slice p1 a0.Items.length c2],.int .i64 a1] I (fun _=>o4_ Q):=by
 refine Fun.enter func137 r ntmps137 r (.c (.c .n)) fun w0 M=>?_
 refine .sr (.boxA r r r fun g=>?_)
 refine .ks 2 r (.nilS [2,1] r r (.sr (.fa un82 r sz80 r (o:=1) r r r (.load1 ia80 r .z r r r (.ks 1 r ?_)))))
 have d:=W_slices_BinarySearchFunc_api_Item_api_Item_int_8a3 (I:=I) (a0:=a0.Items) (a1:=a1) R3 hd
 refine .callS (.f call173 r) .n d r r fun h j i a e=>?_
 obtain ⟨b,rfl,rfl,hd⟩:=e
 replace R3:=R3.mono a
 exact .re (m':=[pto g (.cells #[.int .i64 a0.N,.slice p1 a0.Items.length c2] 82 (0,0))]) r (.ks 4 r (.nilS [5,4] r r (.drop .z (.ret (pret results137 (.t r (.t r .n)) a ⟨(b.1,b.2),r,hd⟩)))))
theorem W_spvec_Get {I:IH} {a0:Vec} {a1:Int} {p1:Option Addr} {c2:Nat} {Q:(Int×Bool)→Prop} (R3:RepSl eItem I p1 c2 a0.Items) (hd:spvec_Get a0 a1 Q) :
  PFun prog 82 [.agg #[.int .i64 a0.N,.slice p1 a0.Items.length c2],.int .i64 a1] I (fun _=>o4_ Q):=by
 refine Fun.enter func82 r ntmps82 r (.c (.c .n)) fun w0 M=>?_
 refine .sr (.boxA r r r fun D=>?_)
 refine .ks 2 r (.nilS [2,1] r r (.sr (.loadW ia82 sz82 r .z r r r ?_)))
 have f:=W_spvec_sure (I:=I) R3 hd
 refine .call call133 r f r r fun w p a g=>?_
 obtain ⟨x,y,A,rfl,d,hd⟩:=g
 replace R3:=R3.mono a
 refine .storeA sz82 r r .z (.t (.t .nil)) r r (.nilS [2,1] r r (.sr (.loadW ia82 sz82 r .z r r r (.ks 1 r ?_))))
 have h:=W_spvec_find (I:=p) d hd
 refine .callP call137 r h r r fun B i=>?_
 obtain ⟨q,rfl,hd⟩:=i
 refine .ks 5 r (.nilS [7,6,2] r r (.seq (.sr (.ks 2 r (.nilS [17,6,2] r r (.condP r hd (fun k hd=>?_) fun k hd=>?_))))))
 · exact .sr (.ks 2 r (.nilS [5,4] r r (.drop .z (.ret (pret results82 (.t r (.t r .n)) a ⟨(0,false),r,hd⟩)))))
 refine .skipS [6,2] r r (.sr (.fa un82 r sz80 r (o:=1) r r r (.load1 ia80 r .z r r r (.ks 1 r ?_))))
 obtain ⟨e,s,b,hd⟩:=hd
 obtain ⟨C,o41,v,u,l,m⟩:=d.2 _ _ b
 cases m
 exact .ixa un80 sz119 r u r e (idx_lt b e) r r (.fa un119 r sz2 r (o:=o41+q.1.toNat*2+1) r r r (.ld1 (j:=1) ia2 l r r r r r (.ks 2 r (.nilS [5,4] r r (.drop .z (.ret (pret results82 (.t r (.t r .n)) a ⟨(s.Val,true),r,hd⟩)))))))
theorem W_prog_behind {I:IH} {a0:Plan} {a1:State} {a2:Int} {a3:Int} {a4:Int} {a5:Bool} {p1:Option Addr} {c2:Nat} {p4:Option Addr} {c5:Nat} {p7:Option Addr} {c8:Nat} {p10:Option Addr} {c11:Nat} {Q:(Int×Int×Bool)→Prop} (R3:RepSl eI64 I p1 c2 a0.Draws) (R6:RepSl eI64 I p4 c5 a1.A) (R9:RepSl eI64 I p7 c8 a1.B) (R12:RepSl eU64 I p10 c11 a1.On) (hd:prog_behind a0 a1 a2 a3 a4 a5 Q) :
  PFun prog 83 [.agg #[.int .i64 a0.Kind,.int .i64 a0.N,.int .i64 a0.Source,.int .i64 a0.Length,.slice p1 a0.Draws.length c2],.agg #[.int .i64 a1.Low,.int .i64 a1.High,.slice p4 a1.A.length c5,.slice p7 a1.B.length c8,.slice p10 a1.On.length c11],.int .i64 a2,.int .i64 a3,.int .i64 a4,.bool a5] I (fun I_ v=>∃ r,v=.tuple #[.int .i64 r.1,.int .i64 r.2.1,.bool r.2.2]∧Q r):=by
 refine Fun.enter func83 r ntmps83 r (.c (.c (.c (.c (.c (.c .n)))))) fun w0 M=>?_
 refine .sr (.boxA r r r fun p=>?_)
 refine .boxA r r r fun q=>?_
 refine .ks 3 r (.nilS [7,6,5,4,3,2] r r (.seq (.dr [0,1,2,3,4,5,6,7,8,9,10] 11 (.g r r r (fun _=>.fa un36 r sz23 r (o:=2) r r r .mk) (.g r r r (fun _=>.load1 ia23 r .z r r r .mk) (.fk 1 r ?_))))))
 obtain ⟨C,f,u,hd⟩:=hd
 obtain ⟨b3,o43,b1,a9,H,J⟩:=R6.2 _ _ u
 cases J
 refine .g r r r (fun _=>.ixa un23 sz2 r a9 r C (idx_lt u C) r r .mk) (.g r r r (fun _=>.ld1 (j:=0) ia2 H r r r r r .mk) (.g r r r (fun _=>.fa un36 r sz23 r (o:=3) r r r .mk) (.g r r r (fun _=>.load1 ia23 r .z r r r .mk) (.fk 1 r ?_))))
 obtain ⟨D,d,x,hd⟩:=hd
 obtain ⟨b4,o52,b2,b0,K,L⟩:=R9.2 _ _ x
 cases L
 refine .g r r r (fun _=>.ixa un23 sz2 r b0 r D (idx_lt x D) r r .mk) (.g r r r (fun _=>.ld1 (j:=0) ia2 K r r r r r .mk) (.fk 1 r (.e2 11 (.ks 1 r (.nilS [16,15,7,6,5,4,3,2] r r (.seq (.sr (.fa un25 r sz22 r (o:=0) r r r (.load1 ia22 r (.s .z) r r r ?_)))))))))
 refine .nilS [28,16,15,7,6,5,4,3,2] r r (.block (.sr (.ks 2 r (.nilS [29,28,16,15,7,6,5,4,3,2] r r (.condP r hd (fun O hd=>?_) fun O hd=>?_)))))
 · refine .sr (.ks 2 r ?_)
   refine splitP hd (fun k hd=>?_) fun k hd=>?_
   · rw [k]
     refine .ks 3 r (.nilS [35,16,15,4,2] r r (.drop .z (.drop .z (.condP r hd (fun P hd=>?_) fun P hd=>?_))))
     · exact .sr (.ks 5 r (.nilS [14,13,12] r r (.ret (pret results83 (.t r (.t r (.t r .n))) (.refl _) ⟨(a2,a4,true),r,hd⟩))))
     exact .skipS [16,15] r r (.sr (.ks 5 r (.nilS [14,13,12] r r (.ret (pret results83 (.t r (.t r (.t r .n))) (.refl _) ⟨(f,d,false),r,hd⟩)))))
   rw [k]
   exact .ks 3 r (.nilS [35,16,15,4,2] r r (.drop .z (.drop .z (.condKF r r (.skipS [16,15] r r (.sr (.ks 5 r (.nilS [14,13,12] r r (.ret (pret results83 (.t r (.t r (.t r .n))) (.refl _) ⟨(f,d,false),r,hd⟩))))))))))
 refine .seq ?_
 refine Cod.joinQ (σ:=Bool) hd (fun (E:Bool) c w=>∃ I_,IH.le I I_∧Ok ⟨91,[],none⟩ [(2,.int .i64 a2),(3,.int .i64 a3),(4,.int .i64 a4),(5,.bool a5),(6,.pointer (some ⟨p,0,none⟩)),(7,.pointer (some ⟨q,0,none⟩)),(15,.int .i64 f),(16,.int .i64 d),(28,.int .i64 a0.Kind),(38,.bool E)] c∧Sym w0 M I I_ [pto p (.cells #[.int .i64 a0.Kind,.int .i64 a0.N,.int .i64 a0.Source,.int .i64 a0.Length,.slice p1 a0.Draws.length c2] 25 (0,0)),pto q (.cells #[.int .i64 a1.Low,.int .i64 a1.High,.slice p4 a1.A.length c5,.slice p7 a1.B.length c8,.slice p10 a1.On.length c11] 36 (0,0))] w) (fun b5 hd=>?_) ?_
 · skip
   refine .sr (.ks 2 r (.nilS [38,28,16,15,7,6,5,4,3,2] r r (.condP r hd (fun R hd=>?_) fun R hd=>?_)))
   · exact .skip' fun c w ho hs=>⟨(a0.Kind==2),hd,I,(.refl _),ho.sub ⟨r,r,r,r,r,r,r,r,r,r,trivial⟩,hs.pick (.c (.s .z) (.c .z .n))⟩
   exact .region (.ks 2 r (.nil' fun c w ho hs=>⟨(a0.Kind==3),hd,I,(.refl _),ho.sub ⟨r,r,r,r,r,r,r,r,r,r,trivial⟩,hs.pick (.c (.s .z) (.c .z .n))⟩))
 rintro E hd c w hst
 obtain ⟨y,e,hok,hsym⟩:=hst
 replace R3:=R3.mono e
 replace R6:=R6.mono e
 replace R9:=R9.mono e
 replace R12:=R12.mono e
 refine Cod.at hok hsym (.condP r hd (fun S hd=>?_) fun S hd=>?_)
 · refine .sr (.ks 2 r ?_)
   refine splitP hd (fun l hd=>?_) fun l hd=>?_
   · rw [l]
     refine .ks 4 r (.nilS [46,16,15,4] r r (.drop .z (.drop .z (.condP r hd (fun T hd=>?_) fun T hd=>?_))))
     · exact .sr (.ks 5 r (.nilS [14,13,12] r r (.ret (pret results83 (.t r (.t r (.t r .n))) e ⟨(a4,d,true),r,hd⟩))))
     exact .skipS [16,15] r r (.sr (.ks 5 r (.nilS [14,13,12] r r (.ret (pret results83 (.t r (.t r (.t r .n))) e ⟨(f,d,false),r,hd⟩)))))
   rw [l]
   exact .ks 4 r (.nilS [46,16,15,4] r r (.drop .z (.drop .z (.condKF r r (.skipS [16,15] r r (.sr (.ks 5 r (.nilS [14,13,12] r r (.ret (pret results83 (.t r (.t r (.t r .n))) e ⟨(f,d,false),r,hd⟩))))))))))
 refine .sr (.ks 2 r (.nilS [49,28,16,15,7,6,5,4,3,2] r r (.condP r hd (fun U hd=>?_) fun U hd=>?_)))
 · exact .sr (.ks 7 r (.nilS [14,13,12] r r (.drop .z (.drop .z (.ret (pret results83 (.t r (.t r (.t r .n))) e ⟨(a4,d,a4 != 0),r,hd⟩))))))
 refine .sr (.ks 2 r (.nilS [55,16,15,7,6,5,4,3,2] r r (.condP r hd (fun V hd=>?_) fun V hd=>?_)))
 · refine .block (.sr (.ks 3 r (.nilS [57,16,15,7,6,5,4,3,2] r r (.condP r hd (fun W hd=>?_) fun W hd=>?_))))
   · exact .skipS [16,15] r r (.drop .z (.drop .z (.sr (.ks 5 r (.nilS [14,13,12] r r (.ret (pret results83 (.t r (.t r (.t r .n))) e ⟨(f,d,false),r,hd⟩)))))))
   refine .seq ?_
   refine Cod.joinQ (σ:=Bool) hd (fun (F:Bool) c w=>∃ I_,IH.le y I_∧Ok ⟨91,[],none⟩ [(2,.int .i64 a2),(3,.int .i64 a3),(4,.int .i64 a4),(5,.bool a5),(6,.pointer (some ⟨p,0,none⟩)),(7,.pointer (some ⟨q,0,none⟩)),(15,.int .i64 f),(16,.int .i64 d),(60,.bool F)] c∧Sym w0 M I I_ [pto p (.cells #[.int .i64 a0.Kind,.int .i64 a0.N,.int .i64 a0.Source,.int .i64 a0.Length,.slice p1 a0.Draws.length c2] 25 (0,0)),pto q (.cells #[.int .i64 a1.Low,.int .i64 a1.High,.slice p4 a1.A.length c5,.slice p7 a1.B.length c8,.slice p10 a1.On.length c11] 36 (0,0))] w) (fun b6 hd=>?_) ?_
   · skip
     refine .region (.ks 4 r ?_)
     refine splitP hd (fun m hd=>?_) fun m hd=>?_
     · rw [m]
       exact .ks 3 r (.nil' fun c w ho hs=>⟨a5,hd,y,(.refl _),ho.sub ⟨r,r,r,r,r,r,r,r,r,trivial⟩,hs.pick (.c .z (.c .z .n))⟩)
     rw [m]
     exact .ks 3 r (.nil' fun c w ho hs=>⟨false,hd,y,(.refl _),ho.sub ⟨r,r,r,r,r,r,r,r,r,trivial⟩,hs.pick (.c .z (.c .z .n))⟩)
   rintro F hd c w hst
   obtain ⟨G,h,hok,hsym⟩:=hst
   have i:=IH.le.trans e h
   replace R3:=R3.mono h
   replace R6:=R6.mono h
   replace R9:=R9.mono h
   replace R12:=R12.mono h
   refine Cod.at hok hsym (.condP r hd (fun X hd=>?_) fun X hd=>?_)
   · exact .sr (.ks 4 r (.nilS [14,13,12] r r (.drop .z (.drop .z (.ret (pret results83 (.t r (.t r (.t r .n))) i ⟨(2,d,false),r,hd⟩))))))
   refine .seq (.dr [0,1,2,3,4,5,6,7,8,9,11,12,13,14,10,15,16,17,18,19] 20 (.fk 4 r ?_))
   refine splitP hd (fun b hd=>?_) fun b hd=>?_
   · refine .g r r r (fun _=>.gyes r r b (.move r r r .mk)) (.g r r r (fun _=>.gyes r r b (.not r r r .mk)) (.g r r r (fun _=>.gyes r r b (.move r r r .mk)) ?_))
     refine splitP hd (fun a hd=>?_) fun a hd=>?_
     · refine .g r r r (fun _=>.gno r r a r r .mk) (.g r r r (fun _=>.gno r r a r r .mk) (.g r r r (fun _=>.gno r r a r r .mk) (.g r r r (fun _=>.gno r r a r r .mk) (.g r r r (fun _=>.gno r r a r r .mk) (.g r r r (fun _=>.gno r r a r r .mk) (.g r r r (fun _=>.gno r r a r r .mk) (.g r r r (fun _=>.gno r r a r r .mk) (.g r r r (fun _=>.gno r r a r r .mk) (.g r r r (fun _=>.gno r r a r r .mk) ?_)))))))))
       refine .g r r r (fun _=>.gyes r r b (.pickT r a r r r .mk)) (.g r r r (fun _=>.pickT r b r r r .mk) (.fk 1 r (.e2 20 (.nilS [68,16,15] r r (.drop .z (.drop .z (.condKT r r (.sr (.ks 4 r ?_)))))))))
       exact .nilS [14,13,12] r r (.ret (pret results83 (.t r (.t r (.t r .n))) i ⟨(1,d,true),r,hd⟩))
     refine .g r r r (fun _=>.gyes r r a (.move r r r .mk)) (.g r r r (fun _=>.gyes r r a (.loadW ia25 sz25 r .z r r r .mk)) (.g r r r (fun _=>.gyes r r a (.move r r r .mk)) (.g r r r (fun _=>.gyes r r a (.fa un36 r sz3 r (o:=0) r r r .mk)) (.g r r r (fun _=>.gyes r r a (.load1 ia3 r (.s .z) r r r .mk)) (.g r r r (fun _=>.gyes r r a (.move r r r .mk)) (.g r r r (fun _=>.gyes r r a (.add r r r r .mk)) (.ww r fun ex=>?_)))))))
     have Y:=W_prog_draw (I:=G) hd
     refine .gyes r r a (.callP call136 r Y r r fun b7 Z=>?_)
     obtain ⟨b8,rfl,hd⟩:=Z
     refine .so 2 r r r (.cg r r r r (fun _=>.gyes r r a (.add r r r r .mk)) (.cg r r r r (fun _=>.gyes r r a (.move r r r .mk)) (.cg r r r r (fun _=>.gyes r r a (.load1 ia3 r (.s .z) r r r .mk)) (.cg r r r r (fun _=>.gyes r r a (.fa un36 r sz3 r (o:=0) r r r .mk)) (.cg r r r r (fun _=>.gyes r r a (.loadW ia25 sz25 r .z r r r .mk)) (.cg r r r r (fun _=>.gyes r r a (.move r r r .mk)) trivial)))))) (.ww r fun ex=>?_)
     have a6:=W_prog_number (I:=G) R3 hd
     refine .gyes r r a (.callP call135 r a6 r r fun b9 a7=>?_)
     obtain ⟨c0,rfl,hd⟩:=a7
     refine .so 2 r r r (.cg r r r r (fun _=>.gyes r r a (.move r r r .mk)) trivial) (.g r r r (fun _=>.gyes r r a (.gt r r r r .mk)) (.g r r r (fun _=>.gyes r r b (.pickF r a r r r .mk)) (.g r r r (fun _=>.pickT r b r r r .mk) (.fk 1 r (.e2 20 (.nilS [68,16,15] r r (.drop .z (.drop .z (.condP r hd (fun a8 hd=>?_) fun a8 hd=>?_)))))))))
     · exact .sr (.ks 4 r (.nilS [14,13,12] r r (.ret (pret results83 (.t r (.t r (.t r .n))) i ⟨(1,d,true),r,hd⟩))))
     exact .skipS [16,15] r r (.sr (.ks 5 r (.nilS [14,13,12] r r (.ret (pret results83 (.t r (.t r (.t r .n))) i ⟨(f,d,false),r,hd⟩)))))
   refine .g r r r (fun _=>.gno r r b r r .mk) (.g r r r (fun _=>.gno r r b r r .mk) (.g r r r (fun _=>.gno r r b r r .mk) (.fk 10 r (.g r r r (fun _=>.gno r r b r r .mk) (.g r r r (fun _=>.pickF r b r r r .mk) (.fk 1 r (.e2 20 (.nilS [68,16,15] r r (.drop .z ?_)))))))))
   exact .drop .z (.condKF r r (.skipS [16,15] r r (.sr (.ks 5 r (.nilS [14,13,12] r r (.ret (pret results83 (.t r (.t r (.t r .n))) i ⟨(f,d,false),r,hd⟩)))))))
 exact .skipS [16,15] r r (.drop .z (.drop .z (.sr (.ks 5 r (.nilS [14,13,12] r r (.ret (pret results83 (.t r (.t r (.t r .n))) e ⟨(f,d,false),r,hd⟩)))))))
theorem W_prog_first {I:IH} {a0:Plan} {a1:Int} {p1:Option Addr} {c2:Nat} {Q:(Int×Bool)→Prop} (R3:RepSl eI64 I p1 c2 a0.Draws) (hd:prog_first a0 a1 Q) :
  PFun prog 85 [.agg #[.int .i64 a0.Kind,.int .i64 a0.N,.int .i64 a0.Source,.int .i64 a0.Length,.slice p1 a0.Draws.length c2],.int .i64 a1] I (fun _=>o4_ Q):=by
 refine Fun.enter func85 r ntmps85 r (.c (.c .n)) fun w0 M=>?_
 refine .sr (.boxA r r r fun i=>?_)
 refine .ks 2 r (.nilS [2,1] r r (.sr (.ks 1 r (.fa un25 r sz3 r (o:=2) r r r (.load1 ia3 r .z r r r (.ks 2 r (.nilS [6,2,1] r r (.seq (.block ?_)))))))))
 refine .sr (.fa un25 r sz22 r (o:=0) r r r (.load1 ia22 r .z r r r (.ks 2 r (.nilS [11,6,2,1] r r (.condP r hd (fun q hd=>?_) fun q hd=>?_)))))
 · exact .sr (.ks 3 r (.nilS [5,4] r r (.drop .z (.ret (pret results85 (.t r (.t r .n)) (.refl _) ⟨(a1,true),r,hd⟩)))))
 refine .sr (.fa un25 r sz22 r (o:=0) r r r (.load1 ia22 r .z r r r (.ks 2 r (.nilS [16,6,2] r r (.condP r hd (fun u hd=>?_) fun u hd=>?_)))))
 · exact .sr (.ks 2 r (.nilS [5,4] r r (.drop .z (.ret (pret results85 (.t r (.t r .n)) (.refl _) ⟨(0,false),r,hd⟩)))))
 refine .seq ?_
 refine Cod.joinQ (σ:=Bool) hd (fun (j:Bool) c w=>∃ I_,IH.le I I_∧Ok ⟨39,[],none⟩ [(2,.pointer (some ⟨i,0,none⟩)),(6,.bool (a1==a0.Source)),(20,.bool j)] c∧Sym w0 M I I_ [pto i (.cells #[.int .i64 a0.Kind,.int .i64 a0.N,.int .i64 a0.Source,.int .i64 a0.Length,.slice p1 a0.Draws.length c2] 25 (0,0))] w) (fun v hd=>?_) ?_
 · skip
   refine .region (.fa un25 r sz22 r (o:=0) r r r (.load1 ia22 r .z r r r (.ks 2 r ?_)))
   refine splitP hd (fun a hd=>?_) fun a hd=>?_
   · rw [a]
     exact .ks 3 r (.nil' fun c w ho hs=>⟨(a1==a0.Source),hd,I,(.refl _),ho.sub ⟨r,r,r,trivial⟩,hs.pick (.c .z .n)⟩)
   rw [a]
   exact .ks 3 r (.nil' fun c w ho hs=>⟨false,hd,I,(.refl _),ho.sub ⟨r,r,r,trivial⟩,hs.pick (.c .z .n)⟩)
 rintro j hd c w hst
 obtain ⟨f,b,hok,hsym⟩:=hst
 replace R3:=R3.mono b
 refine Cod.at hok hsym (.condP r hd (fun l hd=>?_) fun l hd=>?_)
 · exact .sr (.ks 2 r (.nilS [5,4] r r (.drop .z (.ret (pret results85 (.t r (.t r .n)) b ⟨(1,true),r,hd⟩)))))
 refine .seq ?_
 refine Cod.joinQ (σ:=Bool×Bool) hd (fun (s:Bool×Bool) c w=>match s with | (g,k)=>∃ I_,IH.le f I_∧Ok ⟨39,[],none⟩ [(2,.pointer (some ⟨i,0,none⟩)),(6,.bool g),(27,.bool k)] c∧Sym w0 M I I_ [pto i (.cells #[.int .i64 a0.Kind,.int .i64 a0.N,.int .i64 a0.Source,.int .i64 a0.Length,.slice p1 a0.Draws.length c2] 25 (0,0))] w) (fun x hd=>?_) ?_
 · skip
   refine .region (.ks 2 r ?_)
   refine splitP hd (fun d hd=>?_) fun d hd=>?_
   · rw [d]
     exact .ks 5 r (.nil' fun c w ho hs=>⟨(true,true),hd,f,(.refl _),ho.sub ⟨r,r,r,trivial⟩,hs.pick (.c .z .n)⟩)
   rw [d]
   exact .gyes r r r (.fa un25 r sz22 r (o:=0) r r r (.gyes r r r (.load1 ia22 r .z r r r (.ks 3 r (.nil' fun c w ho hs=>⟨(false,a0.Kind==4),hd,f,(.refl _),ho.sub ⟨r,r,r,trivial⟩,hs.pick (.c .z .n)⟩)))))
 rintro ⟨g,k⟩ hd c w hst
 obtain ⟨y,h,hok,hsym⟩:=hst
 have e:=IH.le.trans b h
 replace R3:=R3.mono h
 refine Cod.at hok hsym (.condP r hd (fun m hd=>?_) fun m hd=>?_)
 · exact .sr (.ks 3 r (.nilS [5,4] r r (.drop .z (.ret (pret results85 (.t r (.t r .n)) e ⟨(0,g),r,hd⟩)))))
 refine .sr (.fa un25 r sz22 r (o:=0) r r r (.load1 ia22 r .z r r r (.ks 2 r (.nilS [35] r r (.drop .z (.condP r hd (fun p hd=>?_) fun p hd=>?_))))))
 · exact .sr (.ks 2 r (.nilS [5,4] r r (.ret (pret results85 (.t r (.t r .n)) e ⟨((-1),false),r,hd⟩))))
 exact .skipS [] r r (.sr (.ks 2 r (.nilS [5,4] r r (.ret (pret results85 (.t r (.t r .n)) e ⟨(4611686018427387904,false),r,hd⟩)))))
theorem W_prog_Update_1_24a {I:IH} {o0:Vec} {o1:Plan} {o2:State} {o3:Int} {a0:Int} {b5:Nat} {p6:Option Addr} {c7:Nat} {b9:Nat} {p10:Option Addr} {c11:Nat} {b13:Nat} {p14:Option Addr} {c15:Nat} {p17:Option Addr} {c18:Nat} {p20:Option Addr} {c21:Nat} {b23:Nat} {Q:(Int×Int×Bool)→Prop} (R8:RepSl eItem I p6 c7 o0.Items) (R12:RepSl eI64 I p10 c11 o1.Draws) (R16:RepSl eI64 I p14 c15 o2.A) (R19:RepSl eI64 I p17 c18 o2.B) (R22:RepSl eU64 I p20 c21 o2.On) (hd:prog_Update_1_24a o0 o1 o2 o3 a0 Q) :
  Fun prog 81 #[.int .i64 a0,.pointer (some ⟨b5,0,none⟩),.pointer (some ⟨b9,0,none⟩),.pointer (some ⟨b13,0,none⟩),.pointer (some ⟨b23,0,none⟩)] I [pto b5 (.cells #[.int .i64 o0.N,.slice p6 o0.Items.length c7] 82 (0,0)),pto b9 (.cells #[.int .i64 o1.Kind,.int .i64 o1.N,.int .i64 o1.Source,.int .i64 o1.Length,.slice p10 o1.Draws.length c11] 25 (0,0)),pto b13 (.cells #[.int .i64 o2.Low,.int .i64 o2.High,.slice p14 o2.A.length c15,.slice p17 o2.B.length c18,.slice p20 o2.On.length c21] 36 (0,0)),pto b23 (.cells #[.int .i64 o3] 3 (0,0))] (fun I_ v l=>∃ r,v=.tuple #[.int .i64 r.1,.int .i64 r.2.1,.bool r.2.2]∧l=[pto b5 (.cells #[.int .i64 o0.N,.slice p6 o0.Items.length c7] 82 (0,0)),pto b9 (.cells #[.int .i64 o1.Kind,.int .i64 o1.N,.int .i64 o1.Source,.int .i64 o1.Length,.slice p10 o1.Draws.length c11] 25 (0,0)),pto b13 (.cells #[.int .i64 o2.Low,.int .i64 o2.High,.slice p14 o2.A.length c15,.slice p17 o2.B.length c18,.slice p20 o2.On.length c21] 36 (0,0)),pto b23 (.cells #[.int .i64 o3] 3 (0,0))]∧Q r):=by
 refine Fun.enter (vs:=[.int .i64 a0,.pointer (some ⟨b5,0,none⟩),.pointer (some ⟨b9,0,none⟩),.pointer (some ⟨b13,0,none⟩),.pointer (some ⟨b23,0,none⟩)]) func81 r ntmps81 r (.c (.c (.c (.c (.c .n))))) fun w0 M=>?_
 refine .sr (.ks 3 r (.nilS [4,3,2,1,0] r r (.sr (.loadW ia82 sz82 r .z r r r (.ks 1 r ?_)))))
 have b:=W_spvec_Get (I:=I) R8 hd
 refine .callP call82 r b r r fun g d=>?_
 obtain ⟨h,rfl,hd⟩:=d
 refine .ks 5 r (.nilS [10,9,4,3,2,1,0] r r (.sr (.loadW ia25 sz25 r (.s .z) r r r (.loadW ia36 sz36 r (.s (.s .z)) r r r (.load1 ia3 r (.s (.s (.s .z))) r r r (.ks 3 r ?_))))))
 have e:=W_prog_behind (I:=I) R12 R16 R19 R22 hd
 refine .callP call83 r e r r fun i f=>?_
 obtain ⟨a,rfl,hd⟩:=f
 exact .ks 6 r (.nilS [8,7,6,4,3,2,1] r r (.ret (oret results81 (.t r (.t r (.t r .n))) (.refl _) (.c .z (.c .z (.c .z (.c .z .n)))) ⟨(a.1,a.2.1,a.2.2),r,r,hd⟩)))
theorem W_prog_changed_59a {I:IH} {o0:Vec} {o1:Plan} {o2:State} {o3:Int} {a0:State} {a1:Int} {b5:Nat} {p6:Option Addr} {c7:Nat} {b9:Nat} {p10:Option Addr} {c11:Nat} {b13:Nat} {p14:Option Addr} {c15:Nat} {p17:Option Addr} {c18:Nat} {p20:Option Addr} {c21:Nat} {b23:Nat} {p24:Option Addr} {c25:Nat} {p27:Option Addr} {c28:Nat} {p30:Option Addr} {c31:Nat} {Q:State→Prop} (R8:RepSl eItem I p6 c7 o0.Items) (R12:RepSl eI64 I p10 c11 o1.Draws) (R16:RepSl eI64 I p14 c15 o2.A) (R19:RepSl eI64 I p17 c18 o2.B) (R22:RepSl eU64 I p20 c21 o2.On) (R26:RepSl eI64 I p24 c25 a0.A) (R29:RepSl eI64 I p27 c28 a0.B) (R32:RepSl eU64 I p30 c31 a0.On) (hd:prog_changed_59a o0 o1 o2 o3 a0 a1 Q) :
  Fun prog 80 #[.agg #[.int .i64 a0.Low,.int .i64 a0.High,.slice p24 a0.A.length c25,.slice p27 a0.B.length c28,.slice p30 a0.On.length c31],.int .i64 a1,.func (.func 81) #[] #[.pointer (some ⟨b5,0,none⟩),.pointer (some ⟨b9,0,none⟩),.pointer (some ⟨b13,0,none⟩),.pointer (some ⟨b23,0,none⟩)]] I [pto b5 (.cells #[.int .i64 o0.N,.slice p6 o0.Items.length c7] 82 (0,0)),pto b9 (.cells #[.int .i64 o1.Kind,.int .i64 o1.N,.int .i64 o1.Source,.int .i64 o1.Length,.slice p10 o1.Draws.length c11] 25 (0,0)),pto b13 (.cells #[.int .i64 o2.Low,.int .i64 o2.High,.slice p14 o2.A.length c15,.slice p17 o2.B.length c18,.slice p20 o2.On.length c21] 36 (0,0)),pto b23 (.cells #[.int .i64 o3] 3 (0,0))] (fun I_ v l=>∃ r p33 c34 p36 c37 p39 c40,v=.agg #[.int .i64 r.Low,.int .i64 r.High,.slice p33 r.A.length c34,.slice p36 r.B.length c37,.slice p39 r.On.length c40]∧RepSl eI64 I_ p33 c34 r.A∧RepSl eI64 I_ p36 c37 r.B∧RepSl eU64 I_ p39 c40 r.On∧l=[pto b5 (.cells #[.int .i64 o0.N,.slice p6 o0.Items.length c7] 82 (0,0)),pto b9 (.cells #[.int .i64 o1.Kind,.int .i64 o1.N,.int .i64 o1.Source,.int .i64 o1.Length,.slice p10 o1.Draws.length c11] 25 (0,0)),pto b13 (.cells #[.int .i64 o2.Low,.int .i64 o2.High,.slice p14 o2.A.length c15,.slice p17 o2.B.length c18,.slice p20 o2.On.length c21] 36 (0,0)),pto b23 (.cells #[.int .i64 o3] 3 (0,0))]∧Q r):=by
 refine Fun.enter (vs:=[.agg #[.int .i64 a0.Low,.int .i64 a0.High,.slice p24 a0.A.length c25,.slice p27 a0.B.length c28,.slice p30 a0.On.length c31],.int .i64 a1,.func (.func 81) #[] #[.pointer (some ⟨b5,0,none⟩),.pointer (some ⟨b9,0,none⟩),.pointer (some ⟨b13,0,none⟩),.pointer (some ⟨b23,0,none⟩)]]) func80 r ntmps80 r (.c (.c (.c .n))) fun w0 M=>?_
 refine .sr (.boxA r r r fun d2=>?_)
 refine .allocA zv36 r r fun O=>?_
 refine .nilS [6,3,2,1] r r (.sr (.fa un36 r sz3 r (o:=0) r r r (.load1 ia3 r (.s .z) r r r (.fa un36 r sz3 r (o:=1) r r r (.load1 ia3 r (.s .z) r r r (.build zv36 un36 BI36 (.c r r r (.t .nil) (.c r r r (.s (.t .nil)) .n)) (by exact ⟨⟨_,_,r,r,r⟩,⟨⟨_,_,r,r,r⟩,trivial⟩⟩) r r (.allocA zv36 r r fun P=>?_)))))))
 refine .storeA sz36 r r .z (.t (.t (.t (.t (.t .nil))))) r r (.nilS [7,6,2,1] r r (.drop (.s (.s .z)) (.sr (.ks 1 r (.nilS [8,7,6,2,1] r r (.seq (.sr (.ks 2 r (.nilS [19,18,8,7,6,2,1] r r ?_)))))))))
 refine .block (.own0 eI64 2 (.own0 eI64 2 (.own0 eI64 3 (.loop hd (fun (s:(List Int)×(List Int)×(List Int)×Int) c w=>match s with | (i,j,u,q)=>∃ I_ x y C D F G,IH.le I I_∧Ok ⟨52,[],none⟩ [(1,.int .i64 a1),(2,.func (.func 81) #[] #[.pointer (some ⟨b5,0,none⟩),.pointer (some ⟨b9,0,none⟩),.pointer (some ⟨b13,0,none⟩),.pointer (some ⟨b23,0,none⟩)]),(6,.pointer (some ⟨O,0,none⟩)),(7,.pointer (some ⟨P,0,none⟩)),(8,.slice F u.length G),(18,.int .i64 a1),(19,.int .i64 q)] c∧Sym w0 M I I_ [pto b5 (.cells #[.int .i64 o0.N,.slice p6 o0.Items.length c7] 82 (0,0)),pto b9 (.cells #[.int .i64 o1.Kind,.int .i64 o1.N,.int .i64 o1.Source,.int .i64 o1.Length,.slice p10 o1.Draws.length c11] 25 (0,0)),pto b13 (.cells #[.int .i64 o2.Low,.int .i64 o2.High,.slice p14 o2.A.length c15,.slice p17 o2.B.length c18,.slice p20 o2.On.length c21] 36 (0,0)),pto b23 (.cells #[.int .i64 o3] 3 (0,0)),pto O (.cells #[.int .i64 0,.int .i64 0,.slice none 0 0,.slice none 0 0,.slice none 0 0] 36 (0,0)),pto P (.cells #[.int .i64 a0.Low,.int .i64 a0.High,.slice x i.length y,.slice C j.length D,.slice none 0 0] 36 (0,0)),OwnSl eI64 2 x y i,OwnSl eI64 2 C D j,OwnSl eI64 3 F G u] w) (fun c w ho hs=>⟨I,_,_,_,_,_,_,(.refl _),ho.sub ⟨r,r,r,r,r,r,r,trivial⟩,hs.pick (.c (.s (.s (.s (.s (.s .z))))) (.c (.s (.s (.s (.s (.s .z))))) (.c (.s (.s (.s (.s (.s .z))))) (.c (.s (.s (.s (.s (.s .z))))) (.c (.s (.s (.s (.s .z)))) (.c (.s (.s (.s .z))) (.c (.s (.s .z)) (.c (.s .z) (.c .z .n)))))))))⟩) ?_))))
 rintro ⟨i,j,u,q⟩ b1 hd c w hst
 obtain ⟨a7,x,y,C,D,F,G,e,hok,hsym⟩:=hst
 replace R8:=R8.mono e
 replace R12:=R12.mono e
 replace R16:=R16.mono e
 replace R19:=R19.mono e
 replace R22:=R22.mono e
 refine Cod.at hok hsym (.sr (.ks 1 r (.nilS [20,19,18,8,7,6,2,1] r r (.seq (.condP r hd (fun S hd=>?_) fun S hd=>?_)))))
 · refine .skipS [19,18,8,7,6,2,1] r r (.seq (.block (.sr (.ks 2 r (.nilS [9,19,18,8,7,6,2,1] r r (.sr (.ks 2 r ?_)))))))
   have T:=W_prog_Update_1_24a (I:=a7) (o0:=o0) (o1:=o1) (o2:=o2) (o3:=o3) (a0:=q) (b5:=b5) (p6:=p6) (c7:=c7) (b9:=b9) (p10:=p10) (c11:=c11) (b13:=b13) (p14:=p14) (c15:=c15) (p17:=p17) (c18:=c18) (p20:=p20) (c21:=c21) (b23:=b23) R8 R12 R16 R19 R22 hd
   refine .callS (.c call81 r r) (.c .z (.c .z (.c .z (.c .z .n)))) T r r fun b2 R b3 m U=>?_
   obtain ⟨k,rfl,rfl,hd⟩:=U
   have K:=IH.le.trans e m
   replace R8:=R8.mono m
   replace R12:=R12.mono m
   replace R16:=R16.mono m
   replace R19:=R19.mono m
   replace R22:=R22.mono m
   refine .re (m':=[pto b5 (.cells #[.int .i64 o0.N,.slice p6 o0.Items.length c7] 82 (0,0)),pto b9 (.cells #[.int .i64 o1.Kind,.int .i64 o1.N,.int .i64 o1.Source,.int .i64 o1.Length,.slice p10 o1.Draws.length c11] 25 (0,0)),pto b13 (.cells #[.int .i64 o2.Low,.int .i64 o2.High,.slice p14 o2.A.length c15,.slice p17 o2.B.length c18,.slice p20 o2.On.length c21] 36 (0,0)),pto b23 (.cells #[.int .i64 o3] 3 (0,0)),pto O (.cells #[.int .i64 0,.int .i64 0,.slice none 0 0,.slice none 0 0,.slice none 0 0] 36 (0,0)),pto P (.cells #[.int .i64 a0.Low,.int .i64 a0.High,.slice x i.length y,.slice C j.length D,.slice none 0 0] 36 (0,0)),OwnSl eI64 2 x y i,OwnSl eI64 2 C D j,OwnSl eI64 3 F G u]) r (.ks 7 r (.nilS [12,11,10,9,19,18,8,7,6,2,1] r r (.seq (.dr [0,1,2,5,6,7,8,3,4,10,999,9,11] 12 (.g r r r (fun _=>.fa un36 r sz23 r (o:=2) r r r .mk) (.g r r r (fun _=>.load1 ia23 r (.s (.s (.s (.s (.s .z))))) r r r .mk) (.fk 1 r (.g r r r (fun _=>.fa un36 r sz23 r (o:=3) r r r .mk) (.g r r r (fun _=>.load1 ia23 r (.s (.s (.s (.s (.s .z))))) r r r .mk) ?_)))))))))
   refine .fk 1 r (.a (fun b=>.slice (some ⟨b,0,none⟩) 1 1) (fun b=>pto b (.cells #[.int .i64 k.2.1] 2 (0,0))) r r r r (fun _ L hL ex=>.buildSlice 1 un23 sz2 zv2 r r (.c r r r .n) r r fun b=>.mk (val:=fun b=>.slice (some ⟨b,0,none⟩) 1 1) (atom:=fun b=>pto b (.cells #[.int .i64 k.2.1] 2 (0,0))) hL b) (.ww r fun ex=>?_))
   refine .buildSlice 1 un23 sz2 zv2 r r (.c r r r .n) r r fun b4=>?_
   refine .so 10 r r r (.ck 1 r r (.cg r r r r (fun _=>.load1 ia23 r (.s (.s (.s (.s (.s (.s .z)))))) r r r .mk) (.cg r r r r (fun _=>.fa un36 r sz23 r (o:=3) r r r .mk) (.cg r r r r (fun _=>.load1 ia23 r (.s (.s (.s (.s (.s (.s .z)))))) r r r .mk) (.cg r r r r (fun _=>.fa un36 r sz23 r (o:=2) r r r .mk) trivial))))) (.ww r fun ex=>?_)
   obtain ⟨V,hd⟩:=hd
   refine .append (ys:=[k.1]) 8 (.s (.s (.s (.s (.s (.s (.s .z))))))) un23 un23 IN2 r r r r r r r r r (.box .z (.one r) r) V r r fun b6 b7=>?_
   refine .so 10 r r r (.ck 1 r r (.cg r r r r (fun _=>.load1 ia23 r (.s (.s (.s (.s (.s (.s (.s .z))))))) r r r .mk) (.cg r r r r (fun _=>.fa un36 r sz23 r (o:=3) r r r .mk) trivial))) (.g r r r (fun _=>.fa un36 r sz23 r (o:=2) r r r .mk) (.b r fun b8=>DrawD.nop (.ww r fun ex=>?_)))
   obtain ⟨W,hd⟩:=hd
   refine .append (ys:=[k.2.1]) 8 (.s (.s (.s (.s (.s (.s (.s (.s .z)))))))) un23 un23 IN2 r r r r r r r r r (.box (.s (.s (.s (.s (.s (.s (.s (.s (.s (.s .z)))))))))) (.one r) r) W r r fun c0 c1=>?_
   refine .so 11 r r r (.cg r r r r (fun _=>.fa un36 r sz23 r (o:=2) r r r .mk) trivial) (.ww r fun ex=>?_)
   refine .store1 sz23 r r (.s (.s (.s (.s (.s (.s (.s (.s .z)))))))) (.s (.s (.t .nil))) r (.sn 11 r r r trivial (.e2 12 (.fa un36 r sz23 r (o:=3) r r r (.store1 sz23 r r (.s (.s (.s (.s (.s (.s (.s (.s .z)))))))) (.s (.s (.s (.t .nil)))) r (.nilS [12,9,19,18,8,7,6,2,1] r r (.drop (.s (.s .z)) (.drop (.s (.s (.s (.s (.s (.s (.s (.s (.s .z))))))))) (.sr (.ks 1 r ?_)))))))))
   refine .nilS [41,9,19,18,8,7,6,2,1] r r (.condP r hd (fun X hd=>?_) fun X hd=>?_)
   · refine .region (.ks 2 r (.buildSlice 1 un51 sz3 zv3 r r (.c r r r .n) r r fun c2=>?_))
     obtain ⟨Y,hd⟩:=hd
     refine .append (ys:=[q]) 8 (.s (.s (.s (.s (.s (.s (.s (.s (.s .z))))))))) un51 un51 IN3 r r r r r r r r r (.box .z (.one r) r) Y r r fun c3 c4=>?_
     exact .ks 1 r (.nilS [8,19,18,7,6,2,1] r r (.drop (.s .z) (.region (.ks 2 r (.nil' fun c w ho hs=>⟨((i++([k.1])),(j++([k.2.1])),(u++([q])),w64 (q+1)),hd,R,_,_,_,_,_,_,K,ho.sub ⟨r,r,r,r,r,r,r,trivial⟩,hs.pick (.c (.s (.s (.s .z))) (.c (.s (.s (.s .z))) (.c (.s (.s (.s .z))) (.c (.s (.s (.s .z))) (.c (.s (.s (.s .z))) (.c (.s (.s (.s .z))) (.c (.s (.s .z)) (.c (.s .z) (.c .z .n)))))))))⟩)))))
   exact .skipS [19,18,8,7,6,2,1] r r (.region (.ks 2 r (.nil' fun c w ho hs=>⟨((i++([k.1])),(j++([k.2.1])),u,w64 (q+1)),hd,R,_,_,_,_,_,_,K,ho.sub ⟨r,r,r,r,r,r,r,trivial⟩,hs.pick (.c (.s (.s .z)) (.c (.s (.s .z)) (.c (.s (.s .z)) (.c (.s (.s .z)) (.c (.s (.s .z)) (.c (.s (.s .z)) (.c (.s .z) (.c .z (.c .z .n)))))))))⟩)))
 refine .exitS [8,7,6,2,1] r r (.sr (.ks 2 r (.pub (.s (.s (.s (.s (.s (.s (.s (.s .z)))))))) fun a8 p H=>?_)))
 have Z:=IH.le.trans e p
 replace R8:=R8.mono p
 replace R12:=R12.mono p
 replace R16:=R16.mono p
 replace R19:=R19.mono p
 replace R22:=R22.mono p
 have a2:=W_flags_Of (I:=a8) H hd
 refine .call call70 r a2 r r fun c5 c6 f a3=>?_
 obtain ⟨a9,c8,c9,rfl,E,hd⟩:=a3
 have a4:=IH.le.trans Z f
 replace R8:=R8.mono f
 replace R12:=R12.mono f
 replace R16:=R16.mono f
 replace R19:=R19.mono f
 replace R22:=R22.mono f
 replace H:=H.mono f
 refine .fa un36 r sz34 r (o:=4) r r r (.store1 sz34 r r (.s (.s (.s (.s (.s .z))))) (.s (.s (.s (.s (.t .nil))))) r (.nilS [7,6,2] r r (.sr (.loadW ia36 sz36 r (.s (.s (.s (.s (.s .z))))) r r r (.storeA sz36 r r (.s (.s (.s (.s .z)))) (.t (.t (.t (.t (.t .nil))))) r r (.nilS [6,2] r r (.drop (.s (.s (.s (.s (.s .z))))) (.pub (.s (.s (.s (.s (.s (.s .z)))))) fun d0 h J=>?_))))))))
 have a5:=IH.le.trans a4 h
 replace R8:=R8.mono h
 replace R12:=R12.mono h
 replace R16:=R16.mono h
 replace R19:=R19.mono h
 replace R22:=R22.mono h
 replace E:=E.mono h
 refine .pub (.s (.s (.s (.s (.s .z))))) fun d1 d b0=>?_
 have a6:=IH.le.trans a5 d
 replace R8:=R8.mono d
 replace R12:=R12.mono d
 replace R16:=R16.mono d
 replace R19:=R19.mono d
 replace R22:=R22.mono d
 replace E:=E.mono d
 replace J:=J.mono d
 exact .ret (oret results80 (.w ia36 sz36 r (.s (.s (.s (.s .z)))) r .n) a6 (.c .z (.c .z (.c .z (.c .z .n)))) ⟨({ Low:=a0.Low,High:=a0.High,A:=i,B:=j,On:=a9 }:State),_,_,_,_,_,_,r,b0,J,E,r,hd⟩)
theorem W_prog_Update {I:IH} {a0:Plan} {a1:State} {a2:Int} {a3:Vec} {p1:Option Addr} {c2:Nat} {p4:Option Addr} {c5:Nat} {p7:Option Addr} {c8:Nat} {p10:Option Addr} {c11:Nat} {p13:Option Addr} {c14:Nat} {Q:State→Prop} (R3:RepSl eI64 I p1 c2 a0.Draws) (R6:RepSl eI64 I p4 c5 a1.A) (R9:RepSl eI64 I p7 c8 a1.B) (R12:RepSl eU64 I p10 c11 a1.On) (R15:RepSl eItem I p13 c14 a3.Items) (hd:prog_Update a0 a1 a2 a3 Q) :
  PFun prog 44 [.agg #[.int .i64 a0.Kind,.int .i64 a0.N,.int .i64 a0.Source,.int .i64 a0.Length,.slice p1 a0.Draws.length c2],.agg #[.int .i64 a1.Low,.int .i64 a1.High,.slice p4 a1.A.length c5,.slice p7 a1.B.length c8,.slice p10 a1.On.length c11],.int .i64 a2,.agg #[.int .i64 a3.N,.slice p13 a3.Items.length c14]] I (o25_ Q):=by
 refine Fun.enter func44 r ntmps44 r (.c (.c (.c (.c .n)))) fun w0 M=>?_
 refine .sr (.boxA r r r fun v=>?_)
 refine .boxA r r r fun x=>?_
 refine .box1 r r r r fun y=>?_
 refine .boxA r r r fun C=>?_
 refine .allocA zv36 r r fun E=>?_
 refine .nilS [8,7,6,5,4] r r (.sr (.loadW ia25 sz25 r (.s (.s (.s (.s .z)))) r r r (.loadW ia36 sz36 r (.s (.s (.s .z))) r r r ?_)))
 have b0:=W_prog_sure (I:=I) R3 R6 R9 R12 hd
 refine .call call69 r b0 r r fun f3 D m b1=>?_
 obtain ⟨a,F,G,H,J,K,L,rfl,e,h,i,hd⟩:=b1
 replace R3:=R3.mono m
 replace R6:=R6.mono m
 replace R9:=R9.mono m
 replace R12:=R12.mono m
 replace R15:=R15.mono m
 refine .storeA sz36 r r (.s (.s (.s .z))) (.t (.t (.t (.t (.t .nil))))) r r (.nilS [8,7,6,5,4] r r (.sr (.fa un36 r sz3 r (o:=1) r r r (.load1 ia3 r (.s (.s (.s .z))) r r r (.fa un36 r sz3 r (o:=0) r r r (.load1 ia3 r (.s (.s (.s .z))) r r r (.ks 2 r (.nilS [9,8,7,6,5,4] r r (.seq ?_)))))))))
 refine .seq ?_
 refine Cod.joinQ (σ:=Bool) hd (fun (a8:Bool) c w=>∃ I_,IH.le D I_∧Ok ⟨45,[],none⟩ [(4,.pointer (some ⟨v,0,none⟩)),(5,.pointer (some ⟨x,0,none⟩)),(6,.pointer (some ⟨y,0,none⟩)),(7,.pointer (some ⟨C,0,none⟩)),(8,.pointer (some ⟨E,0,none⟩)),(9,.int .i64 (w64 (a.High - a.Low))),(26,.bool a8)] c∧Sym w0 M I I_ [pto v (.cells #[.int .i64 a0.Kind,.int .i64 a0.N,.int .i64 a0.Source,.int .i64 a0.Length,.slice p1 a0.Draws.length c2] 25 (0,0)),pto x (.cells #[.int .i64 a.Low,.int .i64 a.High,.slice F a.A.length G,.slice H a.B.length J,.slice K a.On.length L] 36 (0,0)),pto y (.cells #[.int .i64 a2] 3 (0,0)),pto C (.cells #[.int .i64 a3.N,.slice p13 a3.Items.length c14] 82 (0,0)),pto E (.cells #[.int .i64 0,.int .i64 0,.slice none 0 0,.slice none 0 0,.slice none 0 0] 36 (0,0))] w) (fun f4 hd=>?_) ?_
 · skip
   refine .region (.loadW ia82 sz82 r (.s .z) r r r ?_)
   have b2:=W_spvec_Right (I:=D) R15 hd
   refine .callP call74 r b2 r r fun f5 b3=>?_
   obtain ⟨f6,rfl,hd⟩:=b3
   refine .ks 2 r ?_
   refine splitP hd (fun q hd=>?_) fun q hd=>?_
   · rw [q]
     exact .ks 5 r (.nil' fun c w ho hs=>⟨true,hd,D,(.refl _),ho.sub ⟨r,r,r,r,r,r,r,trivial⟩,hs.pick (.c (.s (.s (.s (.s .z)))) (.c (.s (.s (.s .z))) (.c (.s (.s .z)) (.c (.s .z) (.c .z .n)))))⟩)
   rw [q]
   exact .gyes r r r (.fa un82 r sz3 r (o:=0) r r r (.gyes r r r (.load1 ia3 r (.s .z) r r r (.ks 3 r (.nil' fun c w ho hs=>⟨(a3.N != (w64 (a.High - a.Low))),hd,D,(.refl _),ho.sub ⟨r,r,r,r,r,r,r,trivial⟩,hs.pick (.c (.s (.s (.s (.s .z)))) (.c (.s (.s (.s .z))) (.c (.s (.s .z)) (.c (.s .z) (.c .z .n)))))⟩)))))
 rintro a8 hd c w hst
 obtain ⟨a9,l,hok,hsym⟩:=hst
 have O:=IH.le.trans m l
 replace R3:=R3.mono l
 replace R15:=R15.mono l
 replace e:=e.mono l
 replace h:=h.mono l
 replace i:=i.mono l
 refine Cod.at hok hsym (.condP r hd (fun b4 hd=>?_) fun b4 hd=>?_)
 · refine .seq (.dr [0,1,2,3,4,5,7,8,10,11,6,9,12,13] 14 (.g r r r (fun _=>.fa un36 r sz3 r (o:=0) r r r .mk) (.g r r r (fun _=>.load1 ia3 r (.s .z) r r r .mk) (.g r r r (fun _=>.fa un36 r sz3 r (o:=1) r r r .mk) (.g r r r (fun _=>.load1 ia3 r (.s .z) r r r .mk) (.g r r r (fun _=>.fa un36 r sz23 r (o:=2) r r r .mk) (.g r r r (fun _=>.load1 ia23 r (.s .z) r r r .mk) (.g r r r (fun _=>.fa un36 r sz23 r (o:=3) r r r .mk) (.g r r r (fun _=>.load1 ia23 r (.s .z) r r r .mk) ?_)))))))))
   refine .g r r r (fun _=>.fa un36 r sz34 r (o:=4) r r r .mk) (.g r r r (fun _=>.load1 ia34 r (.s .z) r r r .mk) (.ww r fun ex=>?_))
   have P:=W_slices_Clone_int64_int64 (I:=a9) e hd
   refine .call call78 r P r r fun d3 c9 j R=>?_
   obtain ⟨d0,d4,d5,rfl,p,hd⟩:=R
   have S:=IH.le.trans O j
   have T:=IH.le.trans l j
   replace R3:=R3.mono j
   replace R15:=R15.mono j
   replace e:=e.mono j
   replace h:=h.mono j
   replace i:=i.mono j
   refine .so 5 r r r (.cg r r r r (fun _=>.load1 ia34 r (.s .z) r r r .mk) (.cg r r r r (fun _=>.fa un36 r sz34 r (o:=4) r r r .mk) (.cg r r r r (fun _=>.load1 ia23 r (.s .z) r r r .mk) (.cg r r r r (fun _=>.fa un36 r sz23 r (o:=3) r r r .mk) (.cg r r r r (fun _=>.load1 ia3 r (.s .z) r r r .mk) (.cg r r r r (fun _=>.fa un36 r sz3 r (o:=1) r r r .mk) (.cg r r r r (fun _=>.load1 ia3 r (.s .z) r r r .mk) (.cg r r r r (fun _=>.fa un36 r sz3 r (o:=0) r r r .mk) trivial)))))))) (.ww r fun ex=>?_)
   have U:=W_slices_Clone_int64_int64 (I:=c9) h hd
   refine .call call78 r U r r fun d6 b6 d V=>?_
   obtain ⟨b7,d7,d8,rfl,u,hd⟩:=V
   have W:=IH.le.trans S d
   have X:=IH.le.trans T d
   replace R3:=R3.mono d
   replace R15:=R15.mono d
   replace e:=e.mono d
   replace h:=h.mono d
   replace i:=i.mono d
   replace p:=p.mono d
   refine .so 5 r r r (.cg r r r r (fun _=>.load1 ia34 r (.s .z) r r r .mk) (.cg r r r r (fun _=>.fa un36 r sz34 r (o:=4) r r r .mk) (.cg r r r r (fun _=>.load1 ia3 r (.s .z) r r r .mk) (.cg r r r r (fun _=>.fa un36 r sz3 r (o:=1) r r r .mk) (.cg r r r r (fun _=>.load1 ia3 r (.s .z) r r r .mk) (.cg r r r r (fun _=>.fa un36 r sz3 r (o:=0) r r r .mk) trivial)))))) (.ww r fun ex=>?_)
   have Y:=W_slices_Clone_uint64_uint64 (I:=b6) i hd
   refine .call call79 r Y r r fun d9 e0 b Z=>?_
   obtain ⟨b8,e1,e3,rfl,c0,hd⟩:=Z
   have a4:=IH.le.trans W b
   have d1:=IH.le.trans X b
   replace R3:=R3.mono b
   replace R15:=R15.mono b
   replace e:=e.mono b
   replace h:=h.mono b
   replace i:=i.mono b
   replace p:=p.mono b
   replace u:=u.mono b
   exact .so 5 r r r (.cg r r r r (fun _=>.load1 ia3 r (.s .z) r r r .mk) (.cg r r r r (fun _=>.fa un36 r sz3 r (o:=1) r r r .mk) (.cg r r r r (fun _=>.load1 ia3 r (.s .z) r r r .mk) (.cg r r r r (fun _=>.fa un36 r sz3 r (o:=0) r r r .mk) trivial)))) (.g r r r (fun _=>.build zv36 un36 BI36 (.c r r r (.t .nil) (.c r r r (.s (.t .nil)) (.c r r r (.s (.s (.t .nil))) (.c r r r (.s (.s (.s (.t .nil)))) (.c r r r (.s (.s (.s (.s (.t .nil))))) .n))))) (by exact ⟨⟨_,_,r,r,r⟩,⟨⟨_,_,r,r,r⟩,⟨⟨_,_,r,r,r⟩,⟨⟨_,_,r,r,r⟩,⟨⟨_,_,r,r,r⟩,trivial⟩⟩⟩⟩⟩) r r .mk) (.e2 14 (.storeA sz36 r r (.s (.s (.s (.s .z)))) (.t (.t (.t (.t (.t .nil))))) r r (.nilS [8] r r (.drop .z (.drop .z (.drop .z (.drop .z (.ret (pret results44 (.w ia36 sz36 r .z r .n) a4 ⟨({ Low:=a.Low,High:=a.High,A:=d0,B:=b7,On:=b8 }:State),_,_,_,_,_,_,r,p,u,c0,hd⟩))))))))))
 refine .skipS [9,8,7,6,5,4] r r (.sr (.loadW ia36 sz36 r (.s .z) r r r (.ks 1 r (.mkFn r r r r ?_))))
 have a5:=W_prog_changed_59a (I:=a9) (o0:=a3) (o1:=a0) (o2:=a) (o3:=a2) (a0:=a) (a1:=(w64 (a.High - a.Low))) (b5:=C) (p6:=p13) (c7:=c14) (b9:=v) (p10:=p1) (c11:=c2) (b13:=x) (p14:=F) (c15:=G) (p17:=H) (c18:=J) (p20:=K) (c21:=L) (b23:=y) R15 R3 e h i e h i hd
 refine .callS (.f call80 r) (.c (.s (.s (.s .z))) (.c .z (.c .z (.c .z .n)))) a5 r r fun e4 e5 e6 k a6=>?_
 obtain ⟨c1,e7,e8,e9,f0,f1,f2,rfl,c3,c4,c6,rfl,hd⟩:=a6
 have a7:=IH.le.trans O k
 have d2:=IH.le.trans l k
 replace R3:=R3.mono k
 replace R15:=R15.mono k
 replace e:=e.mono k
 replace h:=h.mono k
 replace i:=i.mono k
 exact .re (m':=[pto C (.cells #[.int .i64 a3.N,.slice p13 a3.Items.length c14] 82 (0,0)),pto v (.cells #[.int .i64 a0.Kind,.int .i64 a0.N,.int .i64 a0.Source,.int .i64 a0.Length,.slice p1 a0.Draws.length c2] 25 (0,0)),pto x (.cells #[.int .i64 a.Low,.int .i64 a.High,.slice F a.A.length G,.slice H a.B.length J,.slice K a.On.length L] 36 (0,0)),pto y (.cells #[.int .i64 a2] 3 (0,0)),pto E (.cells #[.int .i64 0,.int .i64 0,.slice none 0 0,.slice none 0 0,.slice none 0 0] 36 (0,0))]) r (.storeA sz36 r r (.s (.s (.s (.s .z)))) (.t (.t (.t (.t (.t .nil))))) r r (.nilS [8] r r (.drop .z (.drop .z (.drop .z (.drop .z (.ret (pret results44 (.w ia36 sz36 r .z r .n) a7 ⟨c1,_,_,_,_,_,_,r,c3,c4,c6,hd⟩))))))))
theorem W_model_Step {I:IH} {a0:Plan} {a1:Rows} {a2:State} {a3:Int} {p1:Option Addr} {c2:Nat} {p4:Option Addr} {c5:Nat} {p7:Option Addr} {c8:Nat} {p10:Option Addr} {c11:Nat} {p13:Option Addr} {c14:Nat} {p16:Option Addr} {c17:Nat} {p19:Option Addr} {c20:Nat} {Q:(State×Int)→Prop} (R3:RepSl eI64 I p1 c2 a0.Draws) (R6:RepSl eI64 I p4 c5 a1.Start) (R9:RepSl eI64 I p7 c8 a1.Col) (R12:RepSl eI64 I p10 c11 a1.Val) (R15:RepSl eI64 I p13 c14 a2.A) (R18:RepSl eI64 I p16 c17 a2.B) (R21:RepSl eU64 I p19 c20 a2.On) (hd:model_Step a0 a1 a2 a3 Q) :
  PFun prog 19 [.agg #[.int .i64 a0.Kind,.int .i64 a0.N,.int .i64 a0.Source,.int .i64 a0.Length,.slice p1 a0.Draws.length c2],.agg #[.int .i64 a1.Rows,.int .i64 a1.Cols,.slice p4 a1.Start.length c5,.slice p7 a1.Col.length c8,.slice p10 a1.Val.length c11],.agg #[.int .i64 a2.Low,.int .i64 a2.High,.slice p13 a2.A.length c14,.slice p16 a2.B.length c17,.slice p19 a2.On.length c20],.int .i64 a3] I (o26_ Q):=by
 refine Fun.enter func19 r ntmps19 r (.c (.c (.c (.c .n)))) fun w0 M=>?_
 refine .sr (.boxA r r r fun b9=>?_)
 refine .boxA r r r fun c0=>?_
 refine .boxA r r r fun c1=>?_
 refine .allocA zv36 r r fun c3=>?_
 refine .ks 1 r (.nilS [8,6,5,4,3] r r (.seq (.sr (.loadW ia25 sz25 r (.s (.s (.s .z))) r r r ?_))))
 have c6:=W_prog_Right (I:=I) R3 hd
 refine .callP call36 r c6 r r fun h3 c7=>?_
 obtain ⟨e1,rfl,hd⟩:=c7
 refine .ks 1 r (.nilS [10,8,6,5,4,3] r r (.sr (.ks 2 r (.nilS [18,10,8,6,5,4,3] r r (.condP r hd (fun c9 hd=>?_) fun c9 hd=>?_)))))
 · exact .sr (.build zv36 un36 BI36 .n (by exact trivial) r r (.ks 1 r (.storeA sz36 r r .z (.t (.t (.t (.t (.t .nil))))) r r (.ks 1 r (.nilS [9,8] r r (.drop (.s .z) (.drop (.s .z) (.drop (.s .z) (.ret (pret results19 (.w ia36 sz36 r .z r (.t r .n)) (.refl _) ⟨(({ Low:=0,High:=0,A:=([]:List Int),B:=([]:List Int),On:=([]:List Int) }:State),e1),_,_,_,_,_,_,r,(.nil _ _ _),(.nil _ _ _),(.nil _ _ _),hd⟩))))))))))
 refine .skipS [8,6,5,4,3] r r (.seq ?_)
 refine Cod.joinQ (σ:=Int×Int×(List Int)×(List Int)×(List Int)) hd (fun (s:Int×Int×(List Int)×(List Int)×(List Int)) c w=>match s with | (H,J,D,E,F)=>∃ I_ K O P R S T,IH.le I I_∧RepSl eI64 I_ K O D∧RepSl eI64 I_ P R E∧RepSl eI64 I_ S T F∧Ok ⟨76,[],none⟩ [(3,.int .i64 a3),(4,.pointer (some ⟨b9,0,none⟩)),(5,.pointer (some ⟨c0,0,none⟩)),(6,.pointer (some ⟨c1,0,none⟩)),(8,.pointer (some ⟨c3,0,none⟩))] c∧Sym w0 M I I_ [pto b9 (.cells #[.int .i64 a0.Kind,.int .i64 a0.N,.int .i64 a0.Source,.int .i64 a0.Length,.slice p1 a0.Draws.length c2] 25 (0,0)),pto c0 (.cells #[.int .i64 H,.int .i64 J,.slice K D.length O,.slice P E.length R,.slice S F.length T] 53 (0,0)),pto c1 (.cells #[.int .i64 a2.Low,.int .i64 a2.High,.slice p13 a2.A.length c14,.slice p16 a2.B.length c17,.slice p19 a2.On.length c20] 36 (0,0)),pto c3 (.cells #[.int .i64 0,.int .i64 0,.slice none 0 0,.slice none 0 0,.slice none 0 0] 36 (0,0))] w) (fun h4 hd=>?_) ?_
 · skip
   refine .sr (.loadW ia53 sz53 r (.s (.s .z)) r r r ?_)
   have d0:=W_csr_Right (I:=I) R6 R9 R12 hd
   refine .callP call37 r d0 r r fun h5 d1=>?_
   obtain ⟨h6,rfl,hd⟩:=d1
   refine .ks 1 r (.nilS [23,8,6,5,4,3] r r (.condP r hd (fun d2 hd=>?_) fun d2 hd=>?_))
   · exact .region (.build zv53 un53 BI53 .n (by exact trivial) r r (.storeA sz53 r r (.s (.s .z)) (.t (.t (.t (.t (.t .nil))))) r r (.nil' fun c w ho hs=>⟨(0,0,([]:List Int),([]:List Int),([]:List Int)),hd,I,_,_,_,_,_,_,(.refl _),.nil _ _ _,.nil _ _ _,.nil _ _ _,ho.sub ⟨r,r,r,r,r,trivial⟩,hs.pick (.c (.s (.s (.s .z))) (.c (.s (.s .z)) (.c (.s .z) (.c .z .n))))⟩)))
   exact .skip' fun c w ho hs=>⟨(a1.Rows,a1.Cols,a1.Start,a1.Col,a1.Val),hd,I,_,_,_,_,_,_,(.refl _),R6,R9,R12,ho.sub ⟨r,r,r,r,r,trivial⟩,hs.pick (.c (.s (.s (.s .z))) (.c (.s (.s .z)) (.c (.s .z) (.c .z .n))))⟩
 rintro ⟨H,J,D,E,F⟩ hd c w hst
 obtain ⟨c4,K,O,P,R,S,T,i,l,m,p,hok,hsym⟩:=hst
 replace R3:=R3.mono i
 replace R15:=R15.mono i
 replace R18:=R18.mono i
 replace R21:=R21.mono i
 refine Cod.at hok hsym (.seq (.sr (.fa un53 r sz3 r (o:=0) r r r (.load1 ia3 r (.s .z) r r r (.fa un25 r sz3 r (o:=1) r r r (.load1 ia3 r .z r r r (.ks 2 r ?_)))))))
 refine splitP hd (fun u hd=>?_) fun u hd=>?_
 · rw [u]
   refine .ks 12 r (.nilS [42,8,6,5,4,3] r r (.condKT r r (.sr (.build zv36 un36 BI36 .n (by exact trivial) r r (.storeA sz36 r r (.s (.s (.s .z))) (.t (.t (.t (.t (.t .nil))))) r r (.ks 1 r (.nilS [9,8] r r (.drop .z (.drop .z ?_)))))))))
   exact .drop .z (.ret (pret results19 (.w ia36 sz36 r .z r (.t r .n)) i ⟨(({ Low:=0,High:=0,A:=([]:List Int),B:=([]:List Int),On:=([]:List Int) }:State),4),_,_,_,_,_,_,r,(.nil _ _ _),(.nil _ _ _),(.nil _ _ _),hd⟩))
 rw [u]
 refine .gyes r r r (.fa un53 r sz3 r (o:=1) r r r (.gyes r r r (.load1 ia3 r (.s .z) r r r (.gyes r r r (.fa un25 r sz3 r (o:=1) r r r (.gyes r r r (.load1 ia3 r .z r r r (.ks 3 r ?_))))))))
 refine splitP hd (fun v hd=>?_) fun v hd=>?_
 · rw [v]
   refine .ks 5 r (.nilS [42,8,6,5,4,3] r r (.condKT r r (.sr (.build zv36 un36 BI36 .n (by exact trivial) r r (.storeA sz36 r r (.s (.s (.s .z))) (.t (.t (.t (.t (.t .nil))))) r r (.ks 1 r (.nilS [9,8] r r (.drop .z (.drop .z ?_)))))))))
   exact .drop .z (.ret (pret results19 (.w ia36 sz36 r .z r (.t r .n)) i ⟨(({ Low:=0,High:=0,A:=([]:List Int),B:=([]:List Int),On:=([]:List Int) }:State),4),_,_,_,_,_,_,r,(.nil _ _ _),(.nil _ _ _),(.nil _ _ _),hd⟩))
 rw [v]
 refine .gyes r r r (.loadW ia25 sz25 r .z r r r (.gyes r r r (.loadW ia36 sz36 r (.s (.s .z)) r r r ?_)))
 have V:=W_model_whole (I:=c4) R3 R15 R18 R21 hd
 refine .gyes r r r (.callP call38 r V r r fun e3 W=>?_)
 obtain ⟨e4,rfl,hd⟩:=W
 refine .ks 2 r (.nilS [42,8,6,5,4,3] r r (.condP r hd (fun X hd=>?_) fun X hd=>?_))
 · exact .sr (.build zv36 un36 BI36 .n (by exact trivial) r r (.storeA sz36 r r (.s (.s (.s .z))) (.t (.t (.t (.t (.t .nil))))) r r (.ks 1 r (.nilS [9,8] r r (.drop .z (.drop .z (.drop .z (.ret (pret results19 (.w ia36 sz36 r .z r (.t r .n)) i ⟨(({ Low:=0,High:=0,A:=([]:List Int),B:=([]:List Int),On:=([]:List Int) }:State),4),_,_,_,_,_,_,r,(.nil _ _ _),(.nil _ _ _),(.nil _ _ _),hd⟩)))))))))
 refine .skipS [8,6,5,4,3] r r (.sr (.loadW ia25 sz25 r .z r r r (.loadW ia36 sz36 r (.s (.s .z)) r r r (.ks 1 r ?_))))
 have Y:=W_prog_Asked (I:=c4) R3 R15 R18 R21 hd
 refine .call call39 r Y r r fun e5 U h Z=>?_
 obtain ⟨e6,e7,e8,rfl,k,hd⟩:=Z
 have a4:=IH.le.trans i h
 replace R3:=R3.mono h
 replace R15:=R15.mono h
 replace R18:=R18.mono h
 replace R21:=R21.mono h
 replace l:=l.mono h
 replace m:=m.mono h
 replace p:=p.mono h
 refine .ks 5 r (.nilS [12,11,8,6,5,4,3] r r (.seq (.dr [0,1,2,4,5,6,7,10,11,16,3,8,9,12,13,14,15,999,17] 18 (.g r r r (fun _=>.fa un25 r sz22 r (o:=0) r r r .mk) (.g r r r (fun _=>.load1 ia22 r .z r r r .mk) (.fk 1 r (.g r r r (fun _=>.loadW ia53 sz53 r (.s .z) r r r .mk) (.g r r r (fun _=>.loadW ia25 sz25 r .z r r r .mk) (.g r r r (fun _=>.loadW ia36 sz36 r (.s (.s .z)) r r r .mk) ?_)))))))))
 refine .fk 3 r (.a (fun b=>.pointer (some ⟨b,0,none⟩)) (fun b=>pto b (.cells #[.int .i64 0,.slice none 0 0] 82 (0,0))) r r r r (fun _ L hL ex=>.allocA zv82 r r fun b=>.mk (val:=fun b=>.pointer (some ⟨b,0,none⟩)) (atom:=fun b=>pto b (.cells #[.int .i64 0,.slice none 0 0] 82 (0,0))) hL b) (.ww r fun ex=>?_))
 have a5:=W_prog_Ring (I:=U) hd
 refine .callP call41 r a5 r r fun e9 a6=>?_
 obtain ⟨f0,rfl,hd⟩:=a6
 refine .so 4 r r r (.ck 3 r r (.cg r r r r (fun _=>.loadW ia36 sz36 r (.s (.s .z)) r r r .mk) (.cg r r r r (fun _=>.loadW ia25 sz25 r .z r r r .mk) (.cg r r r r (fun _=>.loadW ia53 sz53 r (.s .z) r r r .mk) trivial)))) (.ww r fun ex=>?_)
 have a7:=W_prog_Out (I:=U) R3 R15 R18 R21 hd
 refine .call call43 r a7 r r fun f1 d3 f a8=>?_
 obtain ⟨f2,f3,f4,rfl,q,hd⟩:=a8
 have a9:=IH.le.trans a4 f
 replace R3:=R3.mono f
 replace R15:=R15.mono f
 replace R18:=R18.mono f
 replace R21:=R21.mono f
 replace l:=l.mono f
 replace m:=m.mono f
 replace p:=p.mono f
 replace k:=k.mono f
 refine .so 4 r r r (.ck 2 r r (.cg r r r r (fun _=>.loadW ia53 sz53 r (.s .z) r r r .mk) trivial)) (.ww r fun ex=>?_)
 have b0:=W_devec_Of (I:=d3) q hd
 refine .call call42 r b0 r r fun f5 d4 e b1=>?_
 obtain ⟨f6,f7,f8,f9,g0,rfl,x,y,hd⟩:=b1
 have b2:=IH.le.trans a9 e
 replace R3:=R3.mono e
 replace R15:=R15.mono e
 replace R18:=R18.mono e
 replace R21:=R21.mono e
 replace l:=l.mono e
 replace m:=m.mono e
 replace p:=p.mono e
 replace k:=k.mono e
 replace q:=q.mono e
 refine .so 4 r r r (.ck 2 r r (.cg r r r r (fun _=>.loadW ia53 sz53 r (.s .z) r r r .mk) trivial)) (.ww r fun ex=>?_)
 have b3:=W_pull_Times (I:=d4) (a1:=({ Rows:=H,Cols:=J,Start:=D,Col:=E,Val:=F }:Rows)) l m p x y k hd
 refine .call call40 r b3 r r fun g1 d5 d b4=>?_
 obtain ⟨d6,g2,g3,rfl,C,hd⟩:=b4
 have G:=IH.le.trans b2 d
 replace R3:=R3.mono d
 replace R15:=R15.mono d
 replace R18:=R18.mono d
 replace R21:=R21.mono d
 replace l:=l.mono d
 replace m:=m.mono d
 replace p:=p.mono d
 replace k:=k.mono d
 replace q:=q.mono d
 replace x:=x.mono d
 replace y:=y.mono d
 refine .so 4 r r r trivial (.fk 3 r (.b r fun g4=>DrawD.nop (.ww r fun ex=>?_)))
 refine .storeA sz82 r r (.s (.s (.s (.s .z)))) (.t (.t .nil)) r r (.sn 5 r r r (.ck 1 r r trivial) (.e2 18 (.ks 1 r (.nilS [14,13,8,6,4,3] r r (.drop (.s .z) (.seq (.sr (.ks 2 r (.nilS [68,14,13,8,6,4,3] r r ?_)))))))))
 refine .condP r hd (fun b5 hd=>?_) fun b5 hd=>?_
 · exact .sr (.build zv36 un36 BI36 .n (by exact trivial) r r (.ks 1 r (.storeA sz36 r r (.s (.s .z)) (.t (.t (.t (.t (.t .nil))))) r r (.ks 1 r (.nilS [9,8] r r (.drop .z (.drop .z (.drop (.s .z) (.ret (pret results19 (.w ia36 sz36 r .z r (.t r .n)) G ⟨(({ Low:=0,High:=0,A:=([]:List Int),B:=([]:List Int),On:=([]:List Int) }:State),d6.2),_,_,_,_,_,_,r,(.nil _ _ _),(.nil _ _ _),(.nil _ _ _),hd⟩))))))))))
 refine .skipS [13,8,6,4,3] r r (.sr (.loadW ia25 sz25 r .z r r r (.loadW ia36 sz36 r (.s .z) r r r (.ks 1 r (.loadW ia82 sz82 r (.s (.s (.s .z))) r r r ?_)))))
 have b6:=W_prog_Update (I:=d5) R3 R15 R18 R21 C hd
 refine .call call44 r b6 r r fun g5 g6 j b7=>?_
 obtain ⟨d7,g7,g8,g9,h0,h1,h2,rfl,d8,d9,e0,hd⟩:=b7
 have b8:=IH.le.trans G j
 replace R3:=R3.mono j
 replace R15:=R15.mono j
 replace R18:=R18.mono j
 replace R21:=R21.mono j
 replace C:=C.mono j
 exact .storeA sz36 r r (.s (.s .z)) (.t (.t (.t (.t (.t .nil))))) r r (.ks 1 r (.nilS [9,8] r r (.drop .z (.drop .z (.drop (.s .z) (.ret (pret results19 (.w ia36 sz36 r .z r (.t r .n)) b8 ⟨(d7,0),_,_,_,_,_,_,r,d8,d9,e0,hd⟩)))))))
theorem W_prog_Begin_1_d27 {I:IH} {o0:Plan} {o1:Int} {a0:Int} {b3:Nat} {p4:Option Addr} {c5:Nat} {b7:Nat} {Q:(Int×Int×Bool)→Prop} (R6:RepSl eI64 I p4 c5 o0.Draws) (hd:prog_Begin_1_d27 o0 o1 a0 Q) :
  Fun prog 84 #[.int .i64 a0,.pointer (some ⟨b3,0,none⟩),.pointer (some ⟨b7,0,none⟩)] I [pto b3 (.cells #[.int .i64 o0.Kind,.int .i64 o0.N,.int .i64 o0.Source,.int .i64 o0.Length,.slice p4 o0.Draws.length c5] 25 (0,0)),pto b7 (.cells #[.int .i64 o1] 3 (0,0))] (fun I_ v l=>∃ r,v=.tuple #[.int .i64 r.1,.int .i64 r.2.1,.bool r.2.2]∧l=[pto b3 (.cells #[.int .i64 o0.Kind,.int .i64 o0.N,.int .i64 o0.Source,.int .i64 o0.Length,.slice p4 o0.Draws.length c5] 25 (0,0)),pto b7 (.cells #[.int .i64 o1] 3 (0,0))]∧Q r):=by
 refine Fun.enter (vs:=[.int .i64 a0,.pointer (some ⟨b3,0,none⟩),.pointer (some ⟨b7,0,none⟩)]) func84 r ntmps84 r (.c (.c (.c .n))) fun w0 M=>?_
 refine .sr (.ks 3 r (.nilS [2,1,0] r r (.sr (.loadW ia25 sz25 r .z r r r (.load1 ia3 r (.s .z) r r r (.ks 2 r ?_))))))
 have b:=W_prog_first (I:=I) R6 hd
 refine .callP call85 r b r r fun e a=>?_
 obtain ⟨d,rfl,hd⟩:=a
 exact .ks 5 r (.nilS [8,7,2,1] r r (.sr (.ks 5 r (.nilS [6,5,4,2,1] r r (.ret (oret results84 (.t r (.t r (.t r .n))) (.refl _) (.c .z (.c .z .n)) ⟨(d.1,(-1),d.2),r,r,hd⟩))))))
theorem W_prog_changed_b13 {I:IH} {o0:Plan} {o1:Int} {a0:State} {a1:Int} {b3:Nat} {p4:Option Addr} {c5:Nat} {b7:Nat} {p8:Option Addr} {c9:Nat} {p11:Option Addr} {c12:Nat} {p14:Option Addr} {c15:Nat} {Q:State→Prop} (R6:RepSl eI64 I p4 c5 o0.Draws) (R10:RepSl eI64 I p8 c9 a0.A) (R13:RepSl eI64 I p11 c12 a0.B) (R16:RepSl eU64 I p14 c15 a0.On) (hd:prog_changed_b13 o0 o1 a0 a1 Q) :
  Fun prog 80 #[.agg #[.int .i64 a0.Low,.int .i64 a0.High,.slice p8 a0.A.length c9,.slice p11 a0.B.length c12,.slice p14 a0.On.length c15],.int .i64 a1,.func (.func 84) #[] #[.pointer (some ⟨b3,0,none⟩),.pointer (some ⟨b7,0,none⟩)]] I [pto b3 (.cells #[.int .i64 o0.Kind,.int .i64 o0.N,.int .i64 o0.Source,.int .i64 o0.Length,.slice p4 o0.Draws.length c5] 25 (0,0)),pto b7 (.cells #[.int .i64 o1] 3 (0,0))] (fun I_ v l=>∃ r p17 c18 p20 c21 p23 c24,v=.agg #[.int .i64 r.Low,.int .i64 r.High,.slice p17 r.A.length c18,.slice p20 r.B.length c21,.slice p23 r.On.length c24]∧RepSl eI64 I_ p17 c18 r.A∧RepSl eI64 I_ p20 c21 r.B∧RepSl eU64 I_ p23 c24 r.On∧l=[pto b3 (.cells #[.int .i64 o0.Kind,.int .i64 o0.N,.int .i64 o0.Source,.int .i64 o0.Length,.slice p4 o0.Draws.length c5] 25 (0,0)),pto b7 (.cells #[.int .i64 o1] 3 (0,0))]∧Q r):=by
 refine Fun.enter (vs:=[.agg #[.int .i64 a0.Low,.int .i64 a0.High,.slice p8 a0.A.length c9,.slice p11 a0.B.length c12,.slice p14 a0.On.length c15],.int .i64 a1,.func (.func 84) #[] #[.pointer (some ⟨b3,0,none⟩),.pointer (some ⟨b7,0,none⟩)]]) func80 r ntmps80 r (.c (.c (.c .n))) fun w0 M=>?_
 refine .sr (.boxA r r r fun d3=>?_)
 refine .allocA zv36 r r fun O=>?_
 refine .nilS [6,3,2,1] r r (.sr (.fa un36 r sz3 r (o:=0) r r r (.load1 ia3 r (.s .z) r r r (.fa un36 r sz3 r (o:=1) r r r (.load1 ia3 r (.s .z) r r r (.build zv36 un36 BI36 (.c r r r (.t .nil) (.c r r r (.s (.t .nil)) .n)) (by exact ⟨⟨_,_,r,r,r⟩,⟨⟨_,_,r,r,r⟩,trivial⟩⟩) r r (.allocA zv36 r r fun P=>?_)))))))
 refine .storeA sz36 r r .z (.t (.t (.t (.t (.t .nil))))) r r (.nilS [7,6,2,1] r r (.drop (.s (.s .z)) (.sr (.ks 1 r (.nilS [8,7,6,2,1] r r (.seq (.sr (.ks 2 r (.nilS [19,18,8,7,6,2,1] r r ?_)))))))))
 refine .block (.own0 eI64 2 (.own0 eI64 2 (.own0 eI64 3 (.loop hd (fun (s:(List Int)×(List Int)×(List Int)×Int) c w=>match s with | (d,e,i,h)=>∃ I_ k m p q x y,IH.le I I_∧Ok ⟨52,[],none⟩ [(1,.int .i64 a1),(2,.func (.func 84) #[] #[.pointer (some ⟨b3,0,none⟩),.pointer (some ⟨b7,0,none⟩)]),(6,.pointer (some ⟨O,0,none⟩)),(7,.pointer (some ⟨P,0,none⟩)),(8,.slice x i.length y),(18,.int .i64 a1),(19,.int .i64 h)] c∧Sym w0 M I I_ [pto b3 (.cells #[.int .i64 o0.Kind,.int .i64 o0.N,.int .i64 o0.Source,.int .i64 o0.Length,.slice p4 o0.Draws.length c5] 25 (0,0)),pto b7 (.cells #[.int .i64 o1] 3 (0,0)),pto O (.cells #[.int .i64 0,.int .i64 0,.slice none 0 0,.slice none 0 0,.slice none 0 0] 36 (0,0)),pto P (.cells #[.int .i64 a0.Low,.int .i64 a0.High,.slice k d.length m,.slice p e.length q,.slice none 0 0] 36 (0,0)),OwnSl eI64 2 k m d,OwnSl eI64 2 p q e,OwnSl eI64 3 x y i] w) (fun c w ho hs=>⟨I,_,_,_,_,_,_,(.refl _),ho.sub ⟨r,r,r,r,r,r,r,trivial⟩,hs.pick (.c (.s (.s (.s (.s (.s .z))))) (.c (.s (.s (.s (.s (.s .z))))) (.c (.s (.s (.s (.s .z)))) (.c (.s (.s (.s .z))) (.c (.s (.s .z)) (.c (.s .z) (.c .z .n)))))))⟩) ?_))))
 rintro ⟨d,e,i,h⟩ b1 hd c w hst
 obtain ⟨a7,k,m,p,q,x,y,C,hok,hsym⟩:=hst
 replace R6:=R6.mono C
 refine Cod.at hok hsym (.sr (.ks 1 r (.nilS [20,19,18,8,7,6,2,1] r r (.seq (.condP r hd (fun S hd=>?_) fun S hd=>?_)))))
 · refine .skipS [19,18,8,7,6,2,1] r r (.seq (.block (.sr (.ks 2 r (.nilS [9,19,18,8,7,6,2,1] r r (.sr (.ks 2 r ?_)))))))
   have T:=W_prog_Begin_1_d27 (I:=a7) (o0:=o0) (o1:=o1) (a0:=h) (b3:=b3) (p4:=p4) (c5:=c5) (b7:=b7) R6 hd
   refine .callS (.c call84 r r) (.c .z (.c .z .n)) T r r fun b2 R b4 H U=>?_
   obtain ⟨f,rfl,rfl,hd⟩:=U
   have J:=IH.le.trans C H
   replace R6:=R6.mono H
   refine .re (m':=[pto b3 (.cells #[.int .i64 o0.Kind,.int .i64 o0.N,.int .i64 o0.Source,.int .i64 o0.Length,.slice p4 o0.Draws.length c5] 25 (0,0)),pto b7 (.cells #[.int .i64 o1] 3 (0,0)),pto O (.cells #[.int .i64 0,.int .i64 0,.slice none 0 0,.slice none 0 0,.slice none 0 0] 36 (0,0)),pto P (.cells #[.int .i64 a0.Low,.int .i64 a0.High,.slice k d.length m,.slice p e.length q,.slice none 0 0] 36 (0,0)),OwnSl eI64 2 k m d,OwnSl eI64 2 p q e,OwnSl eI64 3 x y i]) r (.ks 7 r (.nilS [12,11,10,9,19,18,8,7,6,2,1] r r (.seq (.dr [0,1,2,5,6,7,8,3,4,10,999,9,11] 12 (.g r r r (fun _=>.fa un36 r sz23 r (o:=2) r r r .mk) (.g r r r (fun _=>.load1 ia23 r (.s (.s (.s .z))) r r r .mk) (.fk 1 r (.g r r r (fun _=>.fa un36 r sz23 r (o:=3) r r r .mk) (.g r r r (fun _=>.load1 ia23 r (.s (.s (.s .z))) r r r .mk) ?_)))))))))
   refine .fk 1 r (.a (fun b=>.slice (some ⟨b,0,none⟩) 1 1) (fun b=>pto b (.cells #[.int .i64 f.2.1] 2 (0,0))) r r r r (fun _ L hL ex=>.buildSlice 1 un23 sz2 zv2 r r (.c r r r .n) r r fun b=>.mk (val:=fun b=>.slice (some ⟨b,0,none⟩) 1 1) (atom:=fun b=>pto b (.cells #[.int .i64 f.2.1] 2 (0,0))) hL b) (.ww r fun ex=>?_))
   refine .buildSlice 1 un23 sz2 zv2 r r (.c r r r .n) r r fun b5=>?_
   refine .so 8 r r r (.ck 1 r r (.cg r r r r (fun _=>.load1 ia23 r (.s (.s (.s (.s .z)))) r r r .mk) (.cg r r r r (fun _=>.fa un36 r sz23 r (o:=3) r r r .mk) (.cg r r r r (fun _=>.load1 ia23 r (.s (.s (.s (.s .z)))) r r r .mk) (.cg r r r r (fun _=>.fa un36 r sz23 r (o:=2) r r r .mk) trivial))))) (.ww r fun ex=>?_)
   obtain ⟨V,hd⟩:=hd
   refine .append (ys:=[f.1]) 8 (.s (.s (.s (.s (.s .z))))) un23 un23 IN2 r r r r r r r r r (.box .z (.one r) r) V r r fun b6 b8=>?_
   refine .so 8 r r r (.ck 1 r r (.cg r r r r (fun _=>.load1 ia23 r (.s (.s (.s (.s (.s .z))))) r r r .mk) (.cg r r r r (fun _=>.fa un36 r sz23 r (o:=3) r r r .mk) trivial))) (.g r r r (fun _=>.fa un36 r sz23 r (o:=2) r r r .mk) (.b r fun b9=>DrawD.nop (.ww r fun ex=>?_)))
   obtain ⟨W,hd⟩:=hd
   refine .append (ys:=[f.2.1]) 8 (.s (.s (.s (.s (.s (.s .z)))))) un23 un23 IN2 r r r r r r r r r (.box (.s (.s (.s (.s (.s (.s (.s (.s .z)))))))) (.one r) r) W r r fun c0 c1=>?_
   refine .so 9 r r r (.cg r r r r (fun _=>.fa un36 r sz23 r (o:=2) r r r .mk) trivial) (.ww r fun ex=>?_)
   refine .store1 sz23 r r (.s (.s (.s (.s (.s (.s .z)))))) (.s (.s (.t .nil))) r (.sn 9 r r r trivial (.e2 12 (.fa un36 r sz23 r (o:=3) r r r (.store1 sz23 r r (.s (.s (.s (.s (.s (.s .z)))))) (.s (.s (.s (.t .nil)))) r (.nilS [12,9,19,18,8,7,6,2,1] r r (.drop (.s (.s .z)) (.drop (.s (.s (.s (.s (.s (.s (.s .z))))))) (.sr (.ks 1 r ?_)))))))))
   refine .nilS [41,9,19,18,8,7,6,2,1] r r (.condP r hd (fun X hd=>?_) fun X hd=>?_)
   · refine .region (.ks 2 r (.buildSlice 1 un51 sz3 zv3 r r (.c r r r .n) r r fun c2=>?_))
     obtain ⟨Y,hd⟩:=hd
     refine .append (ys:=[h]) 8 (.s (.s (.s (.s (.s (.s (.s .z))))))) un51 un51 IN3 r r r r r r r r r (.box .z (.one r) r) Y r r fun c3 c4=>?_
     exact .ks 1 r (.nilS [8,19,18,7,6,2,1] r r (.drop (.s .z) (.region (.ks 2 r (.nil' fun c w ho hs=>⟨((d++([f.1])),(e++([f.2.1])),(i++([h])),w64 (h+1)),hd,R,_,_,_,_,_,_,J,ho.sub ⟨r,r,r,r,r,r,r,trivial⟩,hs.pick (.c (.s (.s (.s .z))) (.c (.s (.s (.s .z))) (.c (.s (.s (.s .z))) (.c (.s (.s (.s .z))) (.c (.s (.s .z)) (.c (.s .z) (.c .z .n)))))))⟩)))))
   exact .skipS [19,18,8,7,6,2,1] r r (.region (.ks 2 r (.nil' fun c w ho hs=>⟨((d++([f.1])),(e++([f.2.1])),i,w64 (h+1)),hd,R,_,_,_,_,_,_,J,ho.sub ⟨r,r,r,r,r,r,r,trivial⟩,hs.pick (.c (.s (.s .z)) (.c (.s (.s .z)) (.c (.s (.s .z)) (.c (.s (.s .z)) (.c (.s .z) (.c .z (.c .z .n)))))))⟩)))
 refine .exitS [8,7,6,2,1] r r (.sr (.ks 2 r (.pub (.s (.s (.s (.s (.s (.s .z)))))) fun a8 K F=>?_)))
 have Z:=IH.le.trans C K
 replace R6:=R6.mono K
 have a2:=W_flags_Of (I:=a8) F hd
 refine .call call70 r a2 r r fun c6 c7 D a3=>?_
 obtain ⟨a9,c8,d0,rfl,u,hd⟩:=a3
 have a4:=IH.le.trans Z D
 replace R6:=R6.mono D
 replace F:=F.mono D
 refine .fa un36 r sz34 r (o:=4) r r r (.store1 sz34 r r (.s (.s (.s .z))) (.s (.s (.s (.s (.t .nil))))) r (.nilS [7,6,2] r r (.sr (.loadW ia36 sz36 r (.s (.s (.s .z))) r r r (.storeA sz36 r r (.s (.s .z)) (.t (.t (.t (.t (.t .nil))))) r r (.nilS [6,2] r r (.drop (.s (.s (.s .z))) (.pub (.s (.s (.s (.s .z)))) fun d1 E G=>?_))))))))
 have a5:=IH.le.trans a4 E
 replace R6:=R6.mono E
 replace u:=u.mono E
 refine .pub (.s (.s (.s .z))) fun d2 j b0=>?_
 have a6:=IH.le.trans a5 j
 replace R6:=R6.mono j
 replace u:=u.mono j
 replace G:=G.mono j
 exact .ret (oret results80 (.w ia36 sz36 r (.s (.s .z)) r .n) a6 (.c .z (.c .z .n)) ⟨({ Low:=a0.Low,High:=a0.High,A:=d,B:=e,On:=a9 }:State),_,_,_,_,_,_,r,b0,G,u,r,hd⟩)
theorem W_prog_Begin {I:IH} {a0:Plan} {a1:Int} {a2:Int} {p1:Option Addr} {c2:Nat} {Q:State→Prop} (R3:RepSl eI64 I p1 c2 a0.Draws) (hd:prog_Begin a0 a1 a2 Q) :
  PFun prog 46 [.agg #[.int .i64 a0.Kind,.int .i64 a0.N,.int .i64 a0.Source,.int .i64 a0.Length,.slice p1 a0.Draws.length c2],.int .i64 a1,.int .i64 a2] I (o13_ Q):=by
 refine Fun.enter func46 r ntmps46 r (.c (.c (.c .n))) fun w0 M=>?_
 refine .sr (.boxA r r r fun g=>?_)
 refine .box1 r r r r fun h=>?_
 refine .allocA zv36 r r fun p=>?_
 refine .nilS [6,4,3,2] r r (.seq (.sr (.loadW ia25 sz25 r (.s (.s .z)) r r r ?_)))
 have i:=W_prog_Right (I:=I) R3 hd
 refine .callP call36 r i r r fun C j=>?_
 obtain ⟨D,rfl,hd⟩:=j
 refine .ks 2 r ?_
 refine splitP hd (fun a hd=>?_) fun a hd=>?_
 · rw [a]
   exact .ks 14 r (.nilS [25,6,4,3,2] r r (.condKT r r (.sr (.build zv36 un36 BI36 .n (by exact trivial) r r (.storeA sz36 r r .z (.t (.t (.t (.t (.t .nil))))) r r (.nilS [6] r r (.drop (.s .z) (.drop (.s .z) (.ret (pret results46 (.w ia36 sz36 r .z r .n) (.refl _) ⟨({ Low:=0,High:=0,A:=([]:List Int),B:=([]:List Int),On:=([]:List Int) }:State),_,_,_,_,_,_,r,(.nil _ _ _),(.nil _ _ _),(.nil _ _ _),hd⟩))))))))))
 rw [a]
 refine .gyes r r r (.load1 ia3 r (.s .z) r r r (.ks 3 r ?_))
 refine splitP hd (fun b hd=>?_) fun b hd=>?_
 · rw [b]
   exact .ks 10 r (.nilS [25,6,4,3,2] r r (.condKT r r (.sr (.build zv36 un36 BI36 .n (by exact trivial) r r (.storeA sz36 r r .z (.t (.t (.t (.t (.t .nil))))) r r (.nilS [6] r r (.drop (.s .z) (.drop (.s .z) (.ret (pret results46 (.w ia36 sz36 r .z r .n) (.refl _) ⟨({ Low:=0,High:=0,A:=([]:List Int),B:=([]:List Int),On:=([]:List Int) }:State),_,_,_,_,_,_,r,(.nil _ _ _),(.nil _ _ _),(.nil _ _ _),hd⟩))))))))))
 rw [b]
 refine .ks 1 r (.gyes r r r (.load1 ia3 r (.s .z) r r r (.ks 3 r ?_)))
 refine splitP hd (fun d hd=>?_) fun d hd=>?_
 · rw [d]
   exact .ks 5 r (.nilS [25,6,4,3,2] r r (.condKT r r (.sr (.build zv36 un36 BI36 .n (by exact trivial) r r (.storeA sz36 r r .z (.t (.t (.t (.t (.t .nil))))) r r (.nilS [6] r r (.drop (.s .z) (.drop (.s .z) (.ret (pret results46 (.w ia36 sz36 r .z r .n) (.refl _) ⟨({ Low:=0,High:=0,A:=([]:List Int),B:=([]:List Int),On:=([]:List Int) }:State),_,_,_,_,_,_,r,(.nil _ _ _),(.nil _ _ _),(.nil _ _ _),hd⟩))))))))))
 rw [d]
 refine .ks 1 r (.gyes r r r (.fa un25 r sz3 r (o:=1) r r r (.gyes r r r (.load1 ia3 r (.s (.s .z)) r r r (.ks 2 r (.nilS [25,6,4,3,2] r r (.condP r hd (fun k hd=>?_) fun k hd=>?_)))))))
 · exact .sr (.build zv36 un36 BI36 .n (by exact trivial) r r (.storeA sz36 r r .z (.t (.t (.t (.t (.t .nil))))) r r (.nilS [6] r r (.drop (.s .z) (.drop (.s .z) (.ret (pret results46 (.w ia36 sz36 r .z r .n) (.refl _) ⟨({ Low:=0,High:=0,A:=([]:List Int),B:=([]:List Int),On:=([]:List Int) }:State),_,_,_,_,_,_,r,(.nil _ _ _),(.nil _ _ _),(.nil _ _ _),hd⟩)))))))
 refine .skipS [6,4,3,2] r r (.sr (.load1 ia3 r (.s .z) r r r (.ks 1 r (.build zv36 un36 BI36 (.c r r r (.t .nil) (.c r r r (.s (.t .nil)) .n)) (by exact ⟨⟨_,_,r,r,r⟩,⟨⟨_,_,r,r,r⟩,trivial⟩⟩) r r (.allocA zv36 r r fun q=>?_)))))
 refine .storeA sz36 r r .z (.t (.t (.t (.t (.t .nil))))) r r (.nilS [7,6,4,3,2] r r (.sr (.loadW ia36 sz36 r .z r r r (.ks 1 r (.load1 ia3 r (.s (.s .z)) r r r (.ks 1 r (.mkFn r r r r ?_)))))))
 have l:=W_prog_changed_b13 (I:=I) (o0:=a0) (o1:=a1) (a0:=({ Low:=a1,High:=a2,A:=([]:List Int),B:=([]:List Int),On:=([]:List Int) }:State)) (a1:=(w64 (a2 - a1))) (b3:=g) (p4:=p1) (c5:=c2) (b7:=h) R3 (.nil _ none 0) (.nil _ none 0) (.nil _ none 0) hd
 refine .callS (.f call80 r) (.c (.s (.s (.s .z))) (.c (.s (.s .z)) .n)) l r r fun E F G e m=>?_
 obtain ⟨u,H,J,K,L,O,P,rfl,v,x,y,rfl,hd⟩:=m
 replace R3:=R3.mono e
 exact .re (m':=[pto g (.cells #[.int .i64 a0.Kind,.int .i64 a0.N,.int .i64 a0.Source,.int .i64 a0.Length,.slice p1 a0.Draws.length c2] 25 (0,0)),pto h (.cells #[.int .i64 a1] 3 (0,0)),pto q (.cells #[.int .i64 a1,.int .i64 a2,.slice none 0 0,.slice none 0 0,.slice none 0 0] 36 (0,0)),pto p (.cells #[.int .i64 0,.int .i64 0,.slice none 0 0,.slice none 0 0,.slice none 0 0] 36 (0,0))]) r (.storeA sz36 r r (.s (.s (.s .z))) (.t (.t (.t (.t (.t .nil))))) r r (.nilS [6] r r (.drop .z (.drop .z (.drop .z (.ret (pret results46 (.w ia36 sz36 r .z r .n) e ⟨u,_,_,_,_,_,_,r,v,x,y,hd⟩)))))))
theorem W_model_states_1_e9c {I:IH} {o0:Nat} {o1:Result} {o2:Plan} {o3:Graph} {o5:Int} {Y:Nat→Result→State→((Bool×Nat×Result)→Prop)→Prop} {b7:Nat} {p8:Option Addr} {c9:Nat} {p11:Option Addr} {c12:Nat} {p14:Option Addr} {c15:Nat} {b17:Nat} {p18:Option Addr} {c19:Nat} {b21:Nat} {p22:Option Addr} {c23:Nat} {b25:Nat} {b26:Nat} {lr:Nat} {Rr:Nat→HA} {Q:(Nat×Result)→Prop} (hY:∀ {J_:IH},I.le J_→∀ {y27:Nat} {y28:Result} {x39:State} {p30:Option Addr} {c31:Nat} {p33:Option Addr} {c34:Nat} {p36:Option Addr} {c37:Nat} {p40:Option Addr} {c41:Nat} {p43:Option Addr} {c44:Nat} {p46:Option Addr} {c47:Nat} {Qy:(Bool×Nat×Result)→Prop},RepSl eI64 J_ p30 c31 y28.State.A→RepSl eI64 J_ p33 c34 y28.State.B→RepSl eU64 J_ p36 c37 y28.State.On→RepSl eI64 J_ p40 c41 x39.A→RepSl eI64 J_ p43 c44 x39.B→RepSl eU64 J_ p46 c47 x39.On→Y y27 y28 x39 Qy→RFun prog lr [.agg #[.int .i64 x39.Low,.int .i64 x39.High,.slice p40 x39.A.length c41,.slice p43 x39.B.length c44,.slice p46 x39.On.length c47]] J_ [Rr y27,pto b7 (.cells #[.int .i64 y28.Status,.int .i64 y28.Rounds,.int .i64 y28.State.Low,.int .i64 y28.State.High,.slice p30 y28.State.A.length c31,.slice p33 y28.State.B.length c34,.slice p36 y28.State.On.length c37] 38 (0,0))] (fun I_ v l=>∃ r p50 c51 p53 c54 p56 c57,v=.bool r.1∧RepSl eI64 I_ p50 c51 r.2.2.State.A∧RepSl eI64 I_ p53 c54 r.2.2.State.B∧RepSl eU64 I_ p56 c57 r.2.2.State.On∧l=[Rr r.2.1,pto b7 (.cells #[.int .i64 r.2.2.Status,.int .i64 r.2.2.Rounds,.int .i64 r.2.2.State.Low,.int .i64 r.2.2.State.High,.slice p50 r.2.2.State.A.length c51,.slice p53 r.2.2.State.B.length c54,.slice p56 r.2.2.State.On.length c57] 38 (0,0))]∧Qy r)) (R10:RepSl eI64 I p8 c9 o1.State.A) (R13:RepSl eI64 I p11 c12 o1.State.B) (R16:RepSl eU64 I p14 c15 o1.State.On) (R20:RepSl eI64 I p18 c19 o2.Draws) (R24:RepSl eEdge I p22 c23 o3.Edges) (hd:model_states_1_e9c o0 o1 o2 o3 o5 Y Q) :
  Fun prog 45 #[.func (.yield lr) #[] #[],.pointer (some ⟨b17,0,none⟩),.pointer (some ⟨b21,0,none⟩),.pointer (some ⟨b25,0,none⟩),.pointer (some ⟨b26,0,none⟩)] I [Rr o0,pto b7 (.cells #[.int .i64 o1.Status,.int .i64 o1.Rounds,.int .i64 o1.State.Low,.int .i64 o1.State.High,.slice p8 o1.State.A.length c9,.slice p11 o1.State.B.length c12,.slice p14 o1.State.On.length c15] 38 (0,0)),pto b17 (.cells #[.int .i64 o2.Kind,.int .i64 o2.N,.int .i64 o2.Source,.int .i64 o2.Length,.slice p18 o2.Draws.length c19] 25 (0,0)),pto b21 (.cells #[.int .i64 o3.N,.slice p22 o3.Edges.length c23] 28 (0,0)),pto b25 (.cells #[.pointer (some ⟨b7,0,none⟩)] 65 (0,0)),pto b26 (.cells #[.int .i64 o5] 3 (0,0))] (fun I_ v l=>∃ r p28 c29 p31 c32 p34 c35,v=.tuple #[]∧RepSl eI64 I_ p28 c29 r.2.State.A∧RepSl eI64 I_ p31 c32 r.2.State.B∧RepSl eU64 I_ p34 c35 r.2.State.On∧l=[Rr r.1,pto b7 (.cells #[.int .i64 r.2.Status,.int .i64 r.2.Rounds,.int .i64 r.2.State.Low,.int .i64 r.2.State.High,.slice p28 r.2.State.A.length c29,.slice p31 r.2.State.B.length c32,.slice p34 r.2.State.On.length c35] 38 (0,0)),pto b17 (.cells #[.int .i64 o2.Kind,.int .i64 o2.N,.int .i64 o2.Source,.int .i64 o2.Length,.slice p18 o2.Draws.length c19] 25 (0,0)),pto b21 (.cells #[.int .i64 o3.N,.slice p22 o3.Edges.length c23] 28 (0,0)),pto b25 (.cells #[.pointer (some ⟨b7,0,none⟩)] 65 (0,0)),pto b26 (.cells #[.int .i64 o5] 3 (0,0))]∧Q r):=by
 refine Fun.enter (vs:=[.func (.yield lr) #[] #[],.pointer (some ⟨b17,0,none⟩),.pointer (some ⟨b21,0,none⟩),.pointer (some ⟨b25,0,none⟩),.pointer (some ⟨b26,0,none⟩)]) func45 r ntmps45 r (.c (.c (.c (.c (.c .n))))) fun w0 M=>?_
 refine .scope (.sr (.loadW ia25 sz25 r (.s (.s .z)) r r r (.loadW ia28 sz28 r (.s (.s (.s .z))) r r r ?_)))
 have e3:=W_prog_Matrix (I:=I) R20 R24 hd
 refine .call call29 r e3 r r fun i1 g0 E e4=>?_
 obtain ⟨g,d7,d8,d9,e0,e1,e2,rfl,y,C,D,hd⟩:=e4
 replace R10:=R10.mono E
 replace R13:=R13.mono E
 replace R16:=R16.mono E
 replace R20:=R20.mono E
 replace R24:=R24.mono E
 refine .ks 3 r (.allocA zv53 r r fun b6=>?_)
 refine .storeA sz53 r r .z (.t (.t (.t (.t (.t .nil))))) r r (.ks 1 r (.nilS [6,4,3,1,0] r r (.sr (.loadW ia25 sz25 r (.s (.s (.s .z))) r r r (.fa un25 r sz3 r (o:=1) r r r (.load1 ia3 r (.s (.s (.s .z))) r r r ?_))))))
 have c0:=W_prog_Begin (I:=g0) R20 hd
 refine .call call46 r c0 r r fun g1 b8 e c1=>?_
 obtain ⟨g2,g3,g4,g5,g6,g7,g8,rfl,e5,e6,e7,hd⟩:=c1
 have c2:=IH.le.trans E e
 replace R10:=R10.mono e
 replace R13:=R13.mono e
 replace R16:=R16.mono e
 replace R20:=R20.mono e
 replace R24:=R24.mono e
 replace y:=y.mono e
 replace C:=C.mono e
 replace D:=D.mono e
 refine .allocA zv36 r r fun a5=>?_
 refine .storeA sz36 r r .z (.t (.t (.t (.t (.t .nil))))) r r (.nilS [8,6,4,3,1,0] r r (.sr (.ks 1 r (.nilS [9,8,6,4,3,1,0] r r (.seq (.labelS [9,8,6,4,3,1,0] r r (.block (.loop hd (fun (s:Int×Int×Int×Int×(List Int)×(List Int)×(List Int)×Int×Int×(List Int)×(List Int)×(List Int)×Int×Nat) c w=>match s with | (a6,a7,a8,a9,K,L,O,F,G,h,i,j,b0,b1)=>∃ I_ P R S T U V W X Z a0 a3 a4,IH.le b8 I_∧RepSl eI64 I_ P R K∧RepSl eI64 I_ S T L∧RepSl eU64 I_ U V O∧RepSl eI64 I_ W X h∧RepSl eI64 I_ Z a0 i∧RepSl eU64 I_ a3 a4 j∧Ok ⟨54,[],none⟩ [(0,.func (.yield lr) #[] #[]),(1,.pointer (some ⟨b17,0,none⟩)),(3,.pointer (some ⟨b25,0,none⟩)),(4,.pointer (some ⟨b26,0,none⟩)),(6,.pointer (some ⟨b6,0,none⟩)),(8,.pointer (some ⟨a5,0,none⟩)),(9,.int .i64 b0)] c∧Sym w0 M I I_ [pto b7 (.cells #[.int .i64 a6,.int .i64 a7,.int .i64 a8,.int .i64 a9,.slice P K.length R,.slice S L.length T,.slice U O.length V] 38 (0,0)),pto b17 (.cells #[.int .i64 o2.Kind,.int .i64 o2.N,.int .i64 o2.Source,.int .i64 o2.Length,.slice p18 o2.Draws.length c19] 25 (0,0)),pto b25 (.cells #[.pointer (some ⟨b7,0,none⟩)] 65 (0,0)),pto b26 (.cells #[.int .i64 o5] 3 (0,0)),pto b6 (.cells #[.int .i64 g.1.Rows,.int .i64 g.1.Cols,.slice d7 g.1.Start.length d8,.slice d9 g.1.Col.length e0,.slice e1 g.1.Val.length e2] 53 (0,0)),pto a5 (.cells #[.int .i64 F,.int .i64 G,.slice W h.length X,.slice Z i.length a0,.slice a3 j.length a4] 36 (0,0)),pto b21 (.cells #[.int .i64 o3.N,.slice p22 o3.Edges.length c23] 28 (0,0)),Rr b1] w) (fun c w ho hs=>⟨b8,_,_,_,_,_,_,_,_,_,_,_,_,(.refl _),R10,R13,R16,e5,e6,e7,ho.sub ⟨r,r,r,r,r,r,r,trivial⟩,hs.pick (.c (.s (.s (.s .z))) (.c (.s (.s (.s .z))) (.c (.s (.s (.s (.s .z)))) (.c (.s (.s (.s (.s .z)))) (.c (.s .z) (.c .z (.c (.s .z) (.c .z .n))))))))⟩) ?_))))))))
 rintro ⟨a6,a7,a8,a9,K,L,O,F,G,h,i,j,b0,b1⟩ f9 hd c w hst
 obtain ⟨e8,P,R,S,T,U,V,W,X,Z,a0,a3,a4,f,b2,b3,b4,k,m,p,hok,hsym⟩:=hst
 have b5:=IH.le.trans c2 f
 replace R20:=R20.mono f
 replace R24:=R24.mono f
 replace y:=y.mono f
 replace C:=C.mono f
 replace D:=D.mono f
 refine Cod.at hok hsym (.seq (.sr (.ks 1 r (.loadW ia36 sz36 r (.s (.s (.s (.s (.s .z))))) r r r ?_))))
 have c3:=hY (J_:=e8) b5 (y27:=b1) (y28:=({ Status:=a6,Rounds:=a7,State:=({ Low:=a8,High:=a9,A:=K,B:=L,On:=O }:State) }:Result)) (x39:=({ Low:=F,High:=G,A:=h,B:=i,On:=j }:State)) (p30:=P) (c31:=R) (p33:=S) (c34:=T) (p36:=U) (c37:=V) b2 b3 b4 k m p hd
 refine .callY r r (.c (.s (.s (.s (.s (.s (.s (.s .z))))))) (.c .z .n)) c3 r r fun g9 b9 h0 b c4=>?_
 obtain ⟨a,e9,f0,f1,f2,f3,f4,rfl,q,u,x,rfl,hd⟩:=c4
 have H:=IH.le.trans b5 b
 have c5:=IH.le.trans f b
 replace R20:=R20.mono b
 replace R24:=R24.mono b
 replace y:=y.mono b
 replace C:=C.mono b
 replace D:=D.mono b
 replace b2:=b2.mono b
 replace b3:=b3.mono b
 replace b4:=b4.mono b
 replace k:=k.mono b
 replace m:=m.mono b
 replace p:=p.mono b
 refine .re (m':=[Rr a.2.1,pto b7 (.cells #[.int .i64 a.2.2.Status,.int .i64 a.2.2.Rounds,.int .i64 a.2.2.State.Low,.int .i64 a.2.2.State.High,.slice e9 a.2.2.State.A.length f0,.slice f1 a.2.2.State.B.length f2,.slice f3 a.2.2.State.On.length f4] 38 (0,0)),pto b17 (.cells #[.int .i64 o2.Kind,.int .i64 o2.N,.int .i64 o2.Source,.int .i64 o2.Length,.slice p18 o2.Draws.length c19] 25 (0,0)),pto b25 (.cells #[.pointer (some ⟨b7,0,none⟩)] 65 (0,0)),pto b26 (.cells #[.int .i64 o5] 3 (0,0)),pto b6 (.cells #[.int .i64 g.1.Rows,.int .i64 g.1.Cols,.slice d7 g.1.Start.length d8,.slice d9 g.1.Col.length e0,.slice e1 g.1.Val.length e2] 53 (0,0)),pto a5 (.cells #[.int .i64 F,.int .i64 G,.slice W h.length X,.slice Z i.length a0,.slice a3 j.length a4] 36 (0,0)),pto b21 (.cells #[.int .i64 o3.N,.slice p22 o3.Edges.length c23] 28 (0,0))]) r (.nilS [24,9,8,6,4,3,1,0] r r (.condP r hd (fun c6 hd=>?_) fun c6 hd=>?_))
 · refine .skipS [9,8,6,4,3,1,0] r r (.block (.seq (.block (.sr (.loadW ia25 sz25 r (.s (.s .z)) r r r (.loadW ia36 sz36 r (.s (.s (.s (.s (.s (.s .z)))))) r r r (.ks 1 r ?_)))))))
   have c7:=W_prog_Live (I:=b9) (a1:=({ Low:=F,High:=G,A:=h,B:=i,On:=j }:State)) R20 k m p hd
   refine .callP call47 r c7 r r fun h1 c8=>?_
   obtain ⟨h2,rfl,hd⟩:=c8
   refine .ks 2 r (.nilS [25,9,8,6,4,3,1,0] r r (.condP r hd (fun d0 hd=>?_) fun d0 hd=>?_))
   · exact .sr (.load1 isAgg65 r (.s (.s (.s .z))) r r r (.nilCheckP r r r (.store1 sz33 r r (.s .z) (.t .nil) r (.nilS [] r r (.drop (.s (.s (.s (.s (.s .z))))) (.drop (.s (.s (.s (.s (.s .z))))) (.exit (oretN results45 .n H (.c .z (.c .z (.c .z (.c (.s (.s .z)) (.c .z (.c .z .n)))))) ⟨(a.2.1,({ Status:=1,Rounds:=a.2.2.Rounds,State:=a.2.2.State }:Result)),_,_,_,_,_,_,r,q,u,x,r,hd⟩))))))))
   refine .sr (.ks 1 r (.load1 ia3 r (.s (.s (.s (.s .z)))) r r r (.ks 2 r (.nilS [33,9,8,6,4,3,1,0] r r (.condP r hd (fun d1 hd=>?_) fun d1 hd=>?_)))))
   · exact .sr (.load1 isAgg65 r (.s (.s (.s .z))) r r r (.nilCheckP r r r (.store1 sz33 r r (.s .z) (.t .nil) r (.nilS [] r r (.drop (.s (.s (.s (.s (.s .z))))) (.drop (.s (.s (.s (.s (.s .z))))) (.exit (oretN results45 .n H (.c .z (.c .z (.c .z (.c (.s (.s .z)) (.c .z (.c .z .n)))))) ⟨(a.2.1,({ Status:=2,Rounds:=a.2.2.Rounds,State:=a.2.2.State }:Result)),_,_,_,_,_,_,r,q,u,x,r,hd⟩))))))))
   refine .skipS [9,8,6,4,3,1,0] r r (.sr (.ks 3 r (.nilS [9,8,6,4,3,1,0] r r (.sr (.loadW ia25 sz25 r (.s (.s .z)) r r r (.loadW ia53 sz53 r (.s (.s (.s (.s (.s .z))))) r r r (.loadW ia36 sz36 r (.s (.s (.s (.s (.s (.s .z)))))) r r r (.ks 1 r ?_))))))))
   have d2:=W_model_Step (I:=b9) (a2:=({ Low:=F,High:=G,A:=h,B:=i,On:=j }:State)) R20 y C D k m p hd
   refine .call call19 r d2 r r fun h3 f5 d d3=>?_
   obtain ⟨J,h4,h5,h6,h7,h8,h9,rfl,f6,f7,f8,hd⟩:=d3
   have d4:=IH.le.trans H d
   have d5:=IH.le.trans c5 d
   replace R20:=R20.mono d
   replace R24:=R24.mono d
   replace y:=y.mono d
   replace C:=C.mono d
   replace D:=D.mono d
   replace k:=k.mono d
   replace m:=m.mono d
   replace p:=p.mono d
   replace q:=q.mono d
   replace u:=u.mono d
   replace x:=x.mono d
   refine .ks 3 r (.allocA zv36 r r fun i0=>?_)
   refine .storeA sz36 r r .z (.t (.t (.t (.t (.t .nil))))) r r (.ks 1 r (.nilS [11,10,9,8,6,4,3,1,0] r r (.seq (.sr (.ks 2 r (.nilS [50,10,9,8,6,4,3,1,0] r r (.condP r hd (fun d6 hd=>?_) fun d6 hd=>?_)))))))
   · exact .sr (.load1 isAgg65 r (.s (.s (.s (.s .z)))) r r r (.nilCheckP r r r (.store1 sz33 r r (.s (.s .z)) (.t .nil) r (.nilS [] r r (.drop .z (.drop (.s (.s (.s (.s (.s .z))))) (.drop (.s (.s (.s (.s (.s .z))))) (.exit (oretN results45 .n d4 (.c .z (.c .z (.c .z (.c (.s (.s .z)) (.c .z (.c .z .n)))))) ⟨(a.2.1,({ Status:=3,Rounds:=a.2.2.Rounds,State:=a.2.2.State }:Result)),_,_,_,_,_,_,r,q,u,x,r,hd⟩)))))))))
   exact .skipS [10,9,8,6,4,3,1,0] r r (.region (.loadW ia36 sz36 r .z r r r (.storeA sz36 r r (.s (.s (.s (.s (.s (.s (.s .z))))))) (.t (.t (.t (.t (.t .nil))))) r r (.nil' fun c w ho hs=>⟨(a.2.2.Status,a.2.2.Rounds,a.2.2.State.Low,a.2.2.State.High,a.2.2.State.A,a.2.2.State.B,a.2.2.State.On,J.1.Low,J.1.High,J.1.A,J.1.B,J.1.On,w64 (b0+1),a.2.1),hd,f5,_,_,_,_,_,_,_,_,_,_,_,_,d5,q,u,x,f6,f7,f8,ho.sub ⟨r,r,r,r,r,r,r,trivial⟩,hs.pick (.c (.s (.s .z)) (.c (.s (.s .z)) (.c (.s (.s .z)) (.c (.s (.s .z)) (.c (.s (.s .z)) (.c (.s (.s .z)) (.c (.s (.s .z)) (.c (.s .z) .n))))))))⟩))))
 exact .exit (oretN results45 .n H (.c .z (.c .z (.c .z (.c (.s (.s (.s (.s .z)))) (.c .z (.c .z .n)))))) ⟨(a.2.1,a.2.2),_,_,_,_,_,_,r,q,u,x,r,hd⟩)
theorem W_model_Run {I:IH} {a0:Plan} {a1:Graph} {a2:Int} {p1:Option Addr} {c2:Nat} {p4:Option Addr} {c5:Nat} {Q:(Result×Int)→Prop} (R3:RepSl eI64 I p1 c2 a0.Draws) (R6:RepSl eEdge I p4 c5 a1.Edges) (hd:model_Run a0 a1 a2 Q) :
  PFun prog 9 [.agg #[.int .i64 a0.Kind,.int .i64 a0.N,.int .i64 a0.Source,.int .i64 a0.Length,.slice p1 a0.Draws.length c2],.agg #[.int .i64 a1.N,.slice p4 a1.Edges.length c5],.int .i64 a2] I (o28_ Q):=by
 refine Fun.enter func9 r ntmps9 r (.c (.c (.c .n))) fun w0 M=>?_
 refine .marks0 (.sr (.boxA r r r fun a4=>?_))
 refine .boxA r r r fun a5=>?_
 refine .allocA zv38 r r fun b26=>?_
 refine .ks 1 r (.nilS [6,4,3,2] r r (.seq (.sr (.loadW ia25 sz25 r (.s (.s .z)) r r r (.loadW ia28 sz28 r (.s .z) r r r (.ks 1 r ?_))))))
 have F:=W_model_Check (I:=I) R3 R6 hd
 refine .callP call16 r F r r fun d4 G=>?_
 obtain ⟨a6,rfl,hd⟩:=G
 refine .ks 1 r (.nilS [8,6,4,3,2] r r (.sr (.ks 2 r (.nilS [16,8,6,4,3,2] r r (.condP r hd (fun H hd=>?_) fun H hd=>?_)))))
 · exact .sr (.build zv38 un38 BI38 .n (by exact trivial) r r (.ks 1 r (.storeA sz38 r r .z (.t (.t (.t (.t (.t (.t (.t .nil))))))) r r (.ks 1 r (.nilS [7,6] r r (.drop (.s .z) (.drop (.s .z) (.ret (pretM (.s .z) results9 (.w isAgg38 sz38 r .z r (.t r .n)) (.refl _) ⟨(({ Status:=0,Rounds:=0,State:=({ Low:=0,High:=0,A:=([]:List Int),B:=([]:List Int),On:=([]:List Int) }:State) }:Result),a6),_,_,_,_,_,_,r,(.nil _ _ _),(.nil _ _ _),(.nil _ _ _),hd⟩)))))))))
 refine .skipS [6,4,3,2] r r (.sr (.build zv38 un38 BI38 (.c r r r (.s (.t .nil)) .n) (by exact ⟨⟨_,_,r,r,r⟩,trivial⟩) r r (.allocA zv38 r r fun d=>?_)))
 refine .storeA sz38 r r .z (.t (.t (.t (.t (.t (.t (.t .nil))))))) r r (.nilS [9,6,4,3,2] r r (.seq (.sr (.loadW ia25 sz25 r (.s (.s (.s .z))) r r r (.loadW ia28 sz28 r (.s (.s .z)) r r r (.ks 1 r (.fa un38 r sz33 r (o:=0) r r r ?_)))))))
 have J:=W_model_states_18b (I:=I) (o0:=({ Status:=0,Rounds:=(-1),State:=({ Low:=0,High:=0,A:=([]:List Int),B:=([]:List Int),On:=([]:List Int) }:State) }:Result)) (a0:=a0) (a1:=a1) (a2:=a2) (b2:=d) (p3:=none) (c4:=0) (p6:=none) (c7:=0) (p9:=none) (c10:=0) (.nil _ none 0) (.nil _ none 0) (.nil _ none 0) R3 R6 hd
 refine .callS (.f call23 r) (.c .z .n) J r r fun d5 a7 d6 j K=>?_
 obtain ⟨a,k,l,m,p,q,u,v,x,rfl,g,h,rfl,hd⟩:=K
 replace R3:=R3.mono j
 replace R6:=R6.mono j
 refine .re (m':=[pto d (.cells #[.int .i64 0,.int .i64 (-1),.int .i64 0,.int .i64 0,.slice none 0 0,.slice none 0 0,.slice none 0 0] 38 (0,0)),pto k (.cells #[.int .i64 a.1.Kind,.int .i64 a.1.N,.int .i64 a.1.Source,.int .i64 a.1.Length,.slice l a.1.Draws.length m] 25 (0,0)),pto p (.cells #[.int .i64 a.2.1.N,.slice q a.2.1.Edges.length u] 28 (0,0)),pto v (.cells #[.pointer (some ⟨d,0,none⟩)] 65 (0,0)),pto x (.cells #[.int .i64 a.2.2] 3 (0,0)),pto b26 (.cells #[.int .i64 0,.int .i64 0,.int .i64 0,.int .i64 0,.slice none 0 0,.slice none 0 0,.slice none 0 0] 38 (0,0)),pto a5 (.cells #[.int .i64 a1.N,.slice p4 a1.Edges.length c5] 28 (0,0)),pto a4 (.cells #[.int .i64 a0.Kind,.int .i64 a0.N,.int .i64 a0.Source,.int .i64 a0.Length,.slice p1 a0.Draws.length c2] 25 (0,0)),Marks ([])]) r (.nilS [24,9,6] r r (.drop (.s (.s (.s (.s (.s (.s .z)))))) (.drop (.s (.s (.s (.s (.s (.s .z)))))) (.block (.rangeF [] r call45 (.c (.s (.s (.s (.s (.s (.s .z)))))) (.c .z (.c .z (.c .z (.c .z (.c .z .n)))))) fun lr D rc hrc=>?_)))))
 refine ⟨_,W_model_states_1_e9c (I:=a7) (lr:=lr) (Rr:=recA lr [] rc) (o0:=0) (o1:=({ Status:=0,Rounds:=(-1),State:=({ Low:=0,High:=0,A:=([]:List Int),B:=([]:List Int),On:=([]:List Int) }:State) }:Result)) (o2:=a.1) (o3:=a.2.1) (o5:=a.2.2) (b7:=d) (p8:=none) (c9:=0) (p11:=none) (c12:=0) (p14:=none) (c15:=0) (b17:=k) (p18:=l) (c19:=m) (b21:=p) (p22:=q) (c23:=u) (b25:=v) (b26:=x) ?_ (.nil _ none 0) (.nil _ none 0) (.nil _ none 0) g h hd,?_⟩
 · skip
   intro I hJ a8 y L a9 b0 b1 b3 b4 b5 b6 b8 b9 c0 c1 c3 Qy c6 c8 d0 O P R hd
   replace g:=g.mono hJ
   replace h:=h.mono hJ
   obtain ⟨rfl,hd⟩:=hd
   refine RFun.mk hrc r fun w0 M=>?_
   refine .region (.allocA zv36 r r fun d1=>?_)
   refine .storeA sz36 r r .z (.t (.t (.t (.t (.t .nil))))) r r (.nil' fun c w ho hs=>beginR (E':=[(9,_),(10,_)]) ho ⟨r,r,trivial⟩ hs (.s .z) (.block (.sr (.loadW ia36 sz36 r .z r r r (.fa un38 r sz36 r (o:=2) r r r (.storeA sz36 r r (.s (.s .z)) (.s (.s (.t (.t (.t (.t (.t .nil))))))) r r (.nilS [9] r r (.drop .z (.region ?_)))))))))
   refine .fa un38 r sz3 r (o:=1) r r r (.load1 ia3 r (.s .z) r r r (.ks 1 r (.fa un38 r sz3 r (o:=1) r r r (.store1 sz3 r r (.s .z) (.s (.t .nil)) r ?_))))
   exact .nil' fun c w ho hs=>endR 0 (.inl rfl) (.refl _) .z (.c .z .n) ⟨(true,0,({ Status:=y.Status,Rounds:=w64 (y.Rounds+1),State:=L }:Result)),_,_,_,_,_,_,rfl,O,P,R,rfl,hd⟩ hs
 intro d2 d3 l' e C
 obtain ⟨b,S,T,U,V,W,X,rfl,Y,Z,a3,rfl,hd⟩:=C
 have E:=IH.le.trans j e
 replace g:=g.mono e
 replace h:=h.mono e
 obtain ⟨hz,hd⟩:=hd
 refine ⟨_,_,r,fun hj=>?_,fun i hj=>absurd (hz.symm.trans hj) (by simp)⟩
 refine .re (m':=[Marks (D :: []),pto d (.cells #[.int .i64 b.2.Status,.int .i64 b.2.Rounds,.int .i64 b.2.State.Low,.int .i64 b.2.State.High,.slice S b.2.State.A.length T,.slice U b.2.State.B.length V,.slice W b.2.State.On.length X] 38 (0,0)),pto k (.cells #[.int .i64 a.1.Kind,.int .i64 a.1.N,.int .i64 a.1.Source,.int .i64 a.1.Length,.slice l a.1.Draws.length m] 25 (0,0)),pto p (.cells #[.int .i64 a.2.1.N,.slice q a.2.1.Edges.length u] 28 (0,0)),pto v (.cells #[.pointer (some ⟨d,0,none⟩)] 65 (0,0)),pto x (.cells #[.int .i64 a.2.2] 3 (0,0)),pto b26 (.cells #[.int .i64 0,.int .i64 0,.int .i64 0,.int .i64 0,.slice none 0 0,.slice none 0 0,.slice none 0 0] 38 (0,0))]) r (.mkS [9,6] r r (.drop (.s (.s .z)) (.drop (.s (.s .z)) (.drop (.s (.s .z)) (.drop (.s (.s .z)) (.sr (.loadW isAgg38 sz38 r (.s .z) r r r (.storeA sz38 r r (.s (.s .z)) (.t (.t (.t (.t (.t (.t (.t .nil))))))) r r (.ks 1 r ?_)))))))))
 exact .nilS [7,6] r r (.drop (.s .z) (.ret (pretM .z results9 (.w isAgg38 sz38 r .z r (.t r .n)) E ⟨(b.2,0),_,_,_,_,_,_,r,Y,Z,a3,hd⟩)))
theorem W_model_states_1_589 {I:IH} {o0:Nat} {o1:List State} {o2:Plan} {o3:Graph} {o5:Int} {o6:Int} {Y:Nat→(List State)→State→((Bool×Nat×(List State))→Prop)→Prop} {b8:Nat} {p9:Option Addr} {c10:Nat} {b13:Nat} {p14:Option Addr} {c15:Nat} {b17:Nat} {p18:Option Addr} {c19:Nat} {b21:Nat} {b22:Nat} {b23:Nat} {lr:Nat} {Rr:Nat→HA} {Q:(Nat×(List State)×Int)→Prop} (hY:∀ {J_:IH},I.le J_→∀ {y24:Nat} {y25:List State} {x31:State} {p27:Option Addr} {c28:Nat} {p32:Option Addr} {c33:Nat} {p35:Option Addr} {c36:Nat} {p38:Option Addr} {c39:Nat} {Qy:(Bool×Nat×(List State))→Prop},RepSl eI64 J_ p32 c33 x31.A→RepSl eI64 J_ p35 c36 x31.B→RepSl eU64 J_ p38 c39 x31.On→Y y24 y25 x31 Qy→RFun prog lr [.agg #[.int .i64 x31.Low,.int .i64 x31.High,.slice p32 x31.A.length c33,.slice p35 x31.B.length c36,.slice p38 x31.On.length c39]] J_ [Rr y24,pto b8 (.cells #[.slice p27 y25.length c28] 42 (0,0)),OwnSl eState 36 p27 c28 y25] (fun I_ v l=>∃ r p42 c43,v=.bool r.1∧l=[Rr r.2.1,pto b8 (.cells #[.slice p42 r.2.2.length c43] 42 (0,0)),OwnSl eState 36 p42 c43 r.2.2]∧Qy r)) (R16:RepSl eI64 I p14 c15 o2.Draws) (R20:RepSl eEdge I p18 c19 o3.Edges) (hd:model_states_1_589 o0 o1 o2 o3 o5 o6 Y Q) :
  Fun prog 45 #[.func (.yield lr) #[] #[],.pointer (some ⟨b13,0,none⟩),.pointer (some ⟨b17,0,none⟩),.pointer (some ⟨b21,0,none⟩),.pointer (some ⟨b22,0,none⟩)] I [Rr o0,pto b8 (.cells #[.slice p9 o1.length c10] 42 (0,0)),OwnSl eState 36 p9 c10 o1,pto b13 (.cells #[.int .i64 o2.Kind,.int .i64 o2.N,.int .i64 o2.Source,.int .i64 o2.Length,.slice p14 o2.Draws.length c15] 25 (0,0)),pto b17 (.cells #[.int .i64 o3.N,.slice p18 o3.Edges.length c19] 28 (0,0)),pto b21 (.cells #[.pointer (some ⟨b23,0,none⟩)] 65 (0,0)),pto b22 (.cells #[.int .i64 o5] 3 (0,0)),pto b23 (.cells #[.int .i64 o6] 33 (0,0))] (fun I_ v l=>∃ r p25 c26,v=.tuple #[]∧l=[Rr r.1,pto b8 (.cells #[.slice p25 r.2.1.length c26] 42 (0,0)),OwnSl eState 36 p25 c26 r.2.1,pto b13 (.cells #[.int .i64 o2.Kind,.int .i64 o2.N,.int .i64 o2.Source,.int .i64 o2.Length,.slice p14 o2.Draws.length c15] 25 (0,0)),pto b17 (.cells #[.int .i64 o3.N,.slice p18 o3.Edges.length c19] 28 (0,0)),pto b21 (.cells #[.pointer (some ⟨b23,0,none⟩)] 65 (0,0)),pto b22 (.cells #[.int .i64 o5] 3 (0,0)),pto b23 (.cells #[.int .i64 r.2.2] 33 (0,0))]∧Q r):=by
 refine Fun.enter (vs:=[.func (.yield lr) #[] #[],.pointer (some ⟨b13,0,none⟩),.pointer (some ⟨b17,0,none⟩),.pointer (some ⟨b21,0,none⟩),.pointer (some ⟨b22,0,none⟩)]) func45 r ntmps45 r (.c (.c (.c (.c (.c .n))))) fun w0 M=>?_
 refine .scope (.sr (.loadW ia25 sz25 r (.s (.s (.s .z))) r r r (.loadW ia28 sz28 r (.s (.s (.s (.s .z)))) r r r ?_)))
 have c7:=W_prog_Matrix (I:=I) R16 R20 hd
 refine .call call29 r c7 r r fun f9 d9 S c8=>?_
 obtain ⟨f,c0,c1,c2,c3,c4,c5,rfl,p,q,u,hd⟩:=c8
 replace R16:=R16.mono S
 replace R20:=R20.mono S
 refine .ks 3 r (.allocA zv53 r r fun X=>?_)
 refine .storeA sz53 r r .z (.t (.t (.t (.t (.t .nil))))) r r (.ks 1 r (.nilS [6,4,3,1,0] r r (.sr (.loadW ia25 sz25 r (.s (.s (.s (.s .z)))) r r r (.fa un25 r sz3 r (o:=1) r r r (.load1 ia3 r (.s (.s (.s (.s .z)))) r r r ?_))))))
 have a4:=W_prog_Begin (I:=d9) R16 hd
 refine .call call46 r a4 r r fun e0 c6 x c9=>?_
 obtain ⟨g0,e1,e2,e3,e4,e5,e6,rfl,d0,d1,d2,hd⟩:=c9
 have a5:=IH.le.trans S x
 replace R16:=R16.mono x
 replace R20:=R20.mono x
 replace p:=p.mono x
 replace q:=q.mono x
 replace u:=u.mono x
 refine .allocA zv36 r r fun T=>?_
 refine .storeA sz36 r r .z (.t (.t (.t (.t (.t .nil))))) r r (.nilS [8,6,4,3,1,0] r r (.sr (.ks 1 r (.nilS [9,8,6,4,3,1,0] r r (.seq (.labelS [9,8,6,4,3,1,0] r r (.block (.loop hd (fun (s:(List State)×Int×Int×(List Int)×(List Int)×(List Int)×Int×Nat) c w=>match s with | (F,y,C,g,h,i,U,V)=>∃ I_ G H J K L O P R,IH.le c6 I_∧RepSl eI64 I_ J K g∧RepSl eI64 I_ L O h∧RepSl eU64 I_ P R i∧Ok ⟨54,[],none⟩ [(0,.func (.yield lr) #[] #[]),(1,.pointer (some ⟨b13,0,none⟩)),(3,.pointer (some ⟨b21,0,none⟩)),(4,.pointer (some ⟨b22,0,none⟩)),(6,.pointer (some ⟨X,0,none⟩)),(8,.pointer (some ⟨T,0,none⟩)),(9,.int .i64 U)] c∧Sym w0 M I I_ [pto b8 (.cells #[.slice G F.length H] 42 (0,0)),OwnSl eState 36 G H F,pto b13 (.cells #[.int .i64 o2.Kind,.int .i64 o2.N,.int .i64 o2.Source,.int .i64 o2.Length,.slice p14 o2.Draws.length c15] 25 (0,0)),pto b21 (.cells #[.pointer (some ⟨b23,0,none⟩)] 65 (0,0)),pto b23 (.cells #[.int .i64 o6] 33 (0,0)),pto b22 (.cells #[.int .i64 o5] 3 (0,0)),pto X (.cells #[.int .i64 f.1.Rows,.int .i64 f.1.Cols,.slice c0 f.1.Start.length c1,.slice c2 f.1.Col.length c3,.slice c4 f.1.Val.length c5] 53 (0,0)),pto T (.cells #[.int .i64 y,.int .i64 C,.slice J g.length K,.slice L h.length O,.slice P i.length R] 36 (0,0)),pto b17 (.cells #[.int .i64 o3.N,.slice p18 o3.Edges.length c19] 28 (0,0)),Rr V] w) (fun c w ho hs=>⟨c6,_,_,_,_,_,_,_,_,(.refl _),d0,d1,d2,ho.sub ⟨r,r,r,r,r,r,r,trivial⟩,hs.pick (.c (.s (.s (.s .z))) (.c (.s (.s (.s .z))) (.c (.s (.s (.s .z))) (.c (.s (.s (.s (.s .z)))) (.c (.s (.s (.s (.s (.s .z))))) (.c (.s (.s (.s (.s .z)))) (.c (.s .z) (.c .z (.c (.s .z) (.c .z .n))))))))))⟩) ?_))))))))
 rintro ⟨F,y,C,g,h,i,U,V⟩ d8 hd c w hst
 obtain ⟨d3,G,H,J,K,L,O,P,R,e,j,k,m,hok,hsym⟩:=hst
 have W:=IH.le.trans a5 e
 replace R16:=R16.mono e
 replace R20:=R20.mono e
 replace p:=p.mono e
 replace q:=q.mono e
 replace u:=u.mono e
 refine Cod.at hok hsym (.seq (.sr (.ks 1 r (.loadW ia36 sz36 r (.s (.s (.s (.s (.s (.s (.s .z))))))) r r r ?_))))
 have a6:=hY (J_:=d3) W (y24:=V) (y25:=F) (x31:=({ Low:=y,High:=C,A:=g,B:=h,On:=i }:State)) (p27:=G) (c28:=H) j k m hd
 refine .callY r r (.c (.s (.s (.s (.s (.s (.s (.s (.s (.s .z))))))))) (.c .z (.c .z .n))) a6 r r fun e7 Z e8 b a7=>?_
 obtain ⟨a,a0,a3,rfl,rfl,hd⟩:=a7
 have D:=IH.le.trans W b
 have a8:=IH.le.trans e b
 replace R16:=R16.mono b
 replace R20:=R20.mono b
 replace p:=p.mono b
 replace q:=q.mono b
 replace u:=u.mono b
 replace j:=j.mono b
 replace k:=k.mono b
 replace m:=m.mono b
 refine .re (m':=[Rr a.2.1,pto b8 (.cells #[.slice a0 a.2.2.length a3] 42 (0,0)),OwnSl eState 36 a0 a3 a.2.2,pto b13 (.cells #[.int .i64 o2.Kind,.int .i64 o2.N,.int .i64 o2.Source,.int .i64 o2.Length,.slice p14 o2.Draws.length c15] 25 (0,0)),pto b21 (.cells #[.pointer (some ⟨b23,0,none⟩)] 65 (0,0)),pto b23 (.cells #[.int .i64 o6] 33 (0,0)),pto b22 (.cells #[.int .i64 o5] 3 (0,0)),pto X (.cells #[.int .i64 f.1.Rows,.int .i64 f.1.Cols,.slice c0 f.1.Start.length c1,.slice c2 f.1.Col.length c3,.slice c4 f.1.Val.length c5] 53 (0,0)),pto T (.cells #[.int .i64 y,.int .i64 C,.slice J g.length K,.slice L h.length O,.slice P i.length R] 36 (0,0)),pto b17 (.cells #[.int .i64 o3.N,.slice p18 o3.Edges.length c19] 28 (0,0))]) r (.nilS [24,9,8,6,4,3,1,0] r r (.condP r hd (fun a9 hd=>?_) fun a9 hd=>?_))
 · refine .skipS [9,8,6,4,3,1,0] r r (.block (.seq (.block (.sr (.loadW ia25 sz25 r (.s (.s (.s .z))) r r r (.loadW ia36 sz36 r (.s (.s (.s (.s (.s (.s (.s (.s .z)))))))) r r r (.ks 1 r ?_)))))))
   have b0:=W_prog_Live (I:=Z) (a1:=({ Low:=y,High:=C,A:=g,B:=h,On:=i }:State)) R16 j k m hd
   refine .callP call47 r b0 r r fun e9 b1=>?_
   obtain ⟨f0,rfl,hd⟩:=b1
   refine .ks 2 r (.nilS [25,9,8,6,4,3,1,0] r r (.condP r hd (fun b2 hd=>?_) fun b2 hd=>?_))
   · exact .sr (.load1 isAgg65 r (.s (.s (.s (.s .z)))) r r r (.nilCheckP r r r (.store1 sz33 r r (.s (.s (.s (.s (.s .z))))) (.t .nil) r (.nilS [] r r (.drop (.s (.s (.s (.s (.s (.s (.s .z))))))) (.drop (.s (.s (.s (.s (.s (.s (.s .z))))))) (.exit (oretN results45 .n D (.c .z (.c .z (.c .z (.c .z (.c (.s (.s (.s .z))) (.c .z (.c (.s .z) (.c .z .n)))))))) ⟨(a.2.1,a.2.2,1),_,_,r,r,hd⟩))))))))
   refine .sr (.ks 1 r (.load1 ia3 r (.s (.s (.s (.s (.s (.s .z)))))) r r r (.ks 2 r (.nilS [33,9,8,6,4,3,1,0] r r (.condP r hd (fun b3 hd=>?_) fun b3 hd=>?_)))))
   · exact .sr (.load1 isAgg65 r (.s (.s (.s (.s .z)))) r r r (.nilCheckP r r r (.store1 sz33 r r (.s (.s (.s (.s (.s .z))))) (.t .nil) r (.nilS [] r r (.drop (.s (.s (.s (.s (.s (.s (.s .z))))))) (.drop (.s (.s (.s (.s (.s (.s (.s .z))))))) (.exit (oretN results45 .n D (.c .z (.c .z (.c .z (.c .z (.c (.s (.s (.s .z))) (.c .z (.c (.s .z) (.c .z .n)))))))) ⟨(a.2.1,a.2.2,2),_,_,r,r,hd⟩))))))))
   refine .skipS [9,8,6,4,3,1,0] r r (.sr (.ks 3 r (.nilS [9,8,6,4,3,1,0] r r (.sr (.loadW ia25 sz25 r (.s (.s (.s .z))) r r r (.loadW ia53 sz53 r (.s (.s (.s (.s (.s (.s (.s .z))))))) r r r (.loadW ia36 sz36 r (.s (.s (.s (.s (.s (.s (.s (.s .z)))))))) r r r (.ks 1 r ?_))))))))
   have b4:=W_model_Step (I:=Z) (a2:=({ Low:=y,High:=C,A:=g,B:=h,On:=i }:State)) R16 p q u j k m hd
   refine .call call19 r b4 r r fun f1 d4 d b5=>?_
   obtain ⟨E,f2,f3,f4,f5,f6,f7,rfl,d5,d6,d7,hd⟩:=b5
   have b6:=IH.le.trans D d
   have b7:=IH.le.trans a8 d
   replace R16:=R16.mono d
   replace R20:=R20.mono d
   replace p:=p.mono d
   replace q:=q.mono d
   replace u:=u.mono d
   replace j:=j.mono d
   replace k:=k.mono d
   replace m:=m.mono d
   refine .ks 3 r (.allocA zv36 r r fun f8=>?_)
   refine .storeA sz36 r r .z (.t (.t (.t (.t (.t .nil))))) r r (.ks 1 r (.nilS [11,10,9,8,6,4,3,1,0] r r (.seq (.sr (.ks 2 r (.nilS [50,10,9,8,6,4,3,1,0] r r (.condP r hd (fun b9 hd=>?_) fun b9 hd=>?_)))))))
   · exact .sr (.load1 isAgg65 r (.s (.s (.s (.s (.s .z))))) r r r (.nilCheckP r r r (.store1 sz33 r r (.s (.s (.s (.s (.s (.s .z)))))) (.t .nil) r (.nilS [] r r (.drop .z (.drop (.s (.s (.s (.s (.s (.s (.s .z))))))) (.drop (.s (.s (.s (.s (.s (.s (.s .z))))))) (.exit (oretN results45 .n b6 (.c .z (.c .z (.c .z (.c .z (.c (.s (.s (.s .z))) (.c .z (.c (.s .z) (.c .z .n)))))))) ⟨(a.2.1,a.2.2,3),_,_,r,r,hd⟩)))))))))
   exact .skipS [10,9,8,6,4,3,1,0] r r (.region (.loadW ia36 sz36 r .z r r r (.storeA sz36 r r (.s (.s (.s (.s (.s (.s (.s (.s (.s .z))))))))) (.t (.t (.t (.t (.t .nil))))) r r (.nil' fun c w ho hs=>⟨(a.2.2,E.1.Low,E.1.High,E.1.A,E.1.B,E.1.On,w64 (U+1),a.2.1),hd,d4,_,_,_,_,_,_,_,_,b7,d5,d6,d7,ho.sub ⟨r,r,r,r,r,r,r,trivial⟩,hs.pick (.c (.s (.s .z)) (.c (.s (.s .z)) (.c (.s (.s .z)) (.c (.s (.s .z)) (.c (.s (.s .z)) (.c (.s (.s .z)) (.c (.s (.s .z)) (.c (.s (.s .z)) (.c (.s (.s .z)) (.c (.s .z) .n))))))))))⟩))))
 exact .exit (oretN results45 .n D (.c .z (.c .z (.c .z (.c .z (.c (.s (.s (.s (.s (.s .z))))) (.c .z (.c (.s .z) (.c .z .n)))))))) ⟨(a.2.1,a.2.2,o6),_,_,r,r,hd⟩)
theorem W_slices_AppendSeq_api_State_api_State_f00 {I:IH} {o0:Plan} {o1:Graph} {o3:Int} {o4:Int} {b6:Nat} {p7:Option Addr} {c8:Nat} {b10:Nat} {p11:Option Addr} {c12:Nat} {b14:Nat} {b15:Nat} {b16:Nat} {Q:((List State)×Int)→Prop} (R9:RepSl eI64 I p7 c8 o0.Draws) (R13:RepSl eEdge I p11 c12 o1.Edges) (hd:slices_AppendSeq_api_State_api_State_f00 o0 o1 o3 o4 Q) :
  Fun prog 51 #[.slice none 0 0,.func (.func 45) #[] #[.pointer (some ⟨b6,0,none⟩),.pointer (some ⟨b10,0,none⟩),.pointer (some ⟨b14,0,none⟩),.pointer (some ⟨b15,0,none⟩)]] I [pto b6 (.cells #[.int .i64 o0.Kind,.int .i64 o0.N,.int .i64 o0.Source,.int .i64 o0.Length,.slice p7 o0.Draws.length c8] 25 (0,0)),pto b10 (.cells #[.int .i64 o1.N,.slice p11 o1.Edges.length c12] 28 (0,0)),pto b14 (.cells #[.pointer (some ⟨b16,0,none⟩)] 65 (0,0)),pto b15 (.cells #[.int .i64 o3] 3 (0,0)),pto b16 (.cells #[.int .i64 o4] 33 (0,0))] (fun I_ v l=>∃ r p18 c19,v=.slice p18 r.1.length c19∧RepSl eState I_ p18 c19 r.1∧l=[pto b6 (.cells #[.int .i64 o0.Kind,.int .i64 o0.N,.int .i64 o0.Source,.int .i64 o0.Length,.slice p7 o0.Draws.length c8] 25 (0,0)),pto b10 (.cells #[.int .i64 o1.N,.slice p11 o1.Edges.length c12] 28 (0,0)),pto b14 (.cells #[.pointer (some ⟨b16,0,none⟩)] 65 (0,0)),pto b15 (.cells #[.int .i64 o3] 3 (0,0)),pto b16 (.cells #[.int .i64 r.2] 33 (0,0))]∧Q r):=by
 refine Fun.enter (vs:=[.slice none 0 0,.func (.func 45) #[] #[.pointer (some ⟨b6,0,none⟩),.pointer (some ⟨b10,0,none⟩),.pointer (some ⟨b14,0,none⟩),.pointer (some ⟨b15,0,none⟩)]]) func51 r ntmps51 r (.c (.c .n)) fun w0 M=>?_
 refine .marks0 (.sr (.box1 r r r r fun j=>?_))
 refine .ks 1 r (.nilS [2,1] r r (.seq (.sr (.ks 1 r (.nilS [6,2,1] r r (.block (.own0 eState 36 (.rangeF [] r call45 (.c (.s (.s .z)) (.c (.s .z) (.c .z (.c .z (.c .z (.c .z (.c .z (.c .z .n)))))))) fun lr D rc hrc=>?_))))))))
 refine ⟨_,W_model_states_1_589 (I:=I) (lr:=lr) (Rr:=recA lr [] rc) (o0:=0) (o1:=([]:List State)) (o2:=o0) (o3:=o1) (o5:=o3) (o6:=o4) (b8:=j) (p9:=none) (c10:=0) (b13:=b6) (p14:=p7) (c15:=c8) (b17:=b10) (p18:=p11) (c19:=c12) (b21:=b14) (b22:=b15) (b23:=b16) ?_ R9 R13 hd,?_⟩
 · skip
   intro I hJ B p k C E F G H J K L Qy q u x hd
   replace R9:=R9.mono hJ
   replace R13:=R13.mono hJ
   obtain ⟨rfl,hd⟩:=hd
   refine RFun.mk hrc r fun w0 M=>?_
   refine .region (.allocA zv36 r r fun O=>?_)
   refine .storeA sz36 r r .z (.t (.t (.t (.t (.t .nil))))) r r (.nil' fun c w ho hs=>beginR (E':=[(2,_),(5,_)]) ho ⟨r,r,trivial⟩ hs (.s .z) (.block (.region (.load1 isAgg42 r (.s (.s .z)) r r r (.loadW ia36 sz36 r .z r r r (.buildSlice 1 un42 sz36 zv36 r r (.c r r r .n) r r fun P=>?_))))))
   obtain ⟨m,hd⟩:=hd
   refine .append (ys:=[k]) 88 (.s (.s (.s (.s .z)))) un42 un42 IN36 r r r r r r r r r (.box .z (.one ⟨_,_,_,_,_,_,r,q,u,x⟩) r) m r r fun R S=>?_
   refine .store1 sizeOf42 r r (.s (.s (.s (.s .z)))) (.t .nil) r ?_
   exact .nil' fun c w ho hs=>endR 0 (.inl rfl) (.refl _) (.s (.s (.s .z))) (.c (.s (.s (.s .z))) (.c .z .n)) ⟨(true,0,(p++([k]))),_,_,rfl,rfl,hd⟩ hs
 intro y T l' d g
 obtain ⟨a,e,f,rfl,rfl,hd⟩:=g
 replace R9:=R9.mono d
 replace R13:=R13.mono d
 obtain ⟨hz,hd⟩:=hd
 refine ⟨_,_,r,fun hj=>?_,fun i hj=>absurd (hz.symm.trans hj) (by simp)⟩
 refine .re (m':=[Marks (D :: []),pto j (.cells #[.slice e a.2.1.length f] 42 (0,0)),OwnSl eState 36 e f a.2.1,pto b6 (.cells #[.int .i64 o0.Kind,.int .i64 o0.N,.int .i64 o0.Source,.int .i64 o0.Length,.slice p7 o0.Draws.length c8] 25 (0,0)),pto b10 (.cells #[.int .i64 o1.N,.slice p11 o1.Edges.length c12] 28 (0,0)),pto b14 (.cells #[.pointer (some ⟨b16,0,none⟩)] 65 (0,0)),pto b15 (.cells #[.int .i64 o3] 3 (0,0)),pto b16 (.cells #[.int .i64 a.2.2] 33 (0,0))]) r (.mkS [2,1] r r (.sr (.load1 isAgg42 r (.s .z) r r r (.ks 1 r (.nilS [4,1] r r (.drop (.s .z) (.pub (.s .z) fun A b o=>?_)))))))
 have h:=IH.le.trans d b
 replace R9:=R9.mono b
 replace R13:=R13.mono b
 exact .ret (oretM .z results51 (.t r .n) h (.c .z (.c .z (.c .z (.c .z (.c .z .n))))) ⟨(a.2.1,a.2.2),_,_,r,o,r,hd⟩)
theorem W_slices_Collect_api_State_f8c {I:IH} {o0:Plan} {o1:Graph} {o3:Int} {o4:Int} {b6:Nat} {p7:Option Addr} {c8:Nat} {b10:Nat} {p11:Option Addr} {c12:Nat} {b14:Nat} {b15:Nat} {b16:Nat} {Q:((List State)×Int)→Prop} (R9:RepSl eI64 I p7 c8 o0.Draws) (R13:RepSl eEdge I p11 c12 o1.Edges) (hd:slices_Collect_api_State_f8c o0 o1 o3 o4 Q) :
  Fun prog 25 #[.func (.func 45) #[] #[.pointer (some ⟨b6,0,none⟩),.pointer (some ⟨b10,0,none⟩),.pointer (some ⟨b14,0,none⟩),.pointer (some ⟨b15,0,none⟩)]] I [pto b6 (.cells #[.int .i64 o0.Kind,.int .i64 o0.N,.int .i64 o0.Source,.int .i64 o0.Length,.slice p7 o0.Draws.length c8] 25 (0,0)),pto b10 (.cells #[.int .i64 o1.N,.slice p11 o1.Edges.length c12] 28 (0,0)),pto b14 (.cells #[.pointer (some ⟨b16,0,none⟩)] 65 (0,0)),pto b15 (.cells #[.int .i64 o3] 3 (0,0)),pto b16 (.cells #[.int .i64 o4] 33 (0,0))] (fun I_ v l=>∃ r p18 c19,v=.slice p18 r.1.length c19∧RepSl eState I_ p18 c19 r.1∧l=[pto b6 (.cells #[.int .i64 o0.Kind,.int .i64 o0.N,.int .i64 o0.Source,.int .i64 o0.Length,.slice p7 o0.Draws.length c8] 25 (0,0)),pto b10 (.cells #[.int .i64 o1.N,.slice p11 o1.Edges.length c12] 28 (0,0)),pto b14 (.cells #[.pointer (some ⟨b16,0,none⟩)] 65 (0,0)),pto b15 (.cells #[.int .i64 o3] 3 (0,0)),pto b16 (.cells #[.int .i64 r.2] 33 (0,0))]∧Q r):=by
 refine Fun.enter (vs:=[.func (.func 45) #[] #[.pointer (some ⟨b6,0,none⟩),.pointer (some ⟨b10,0,none⟩),.pointer (some ⟨b14,0,none⟩),.pointer (some ⟨b15,0,none⟩)]]) func25 r ntmps25 r (.c .n) fun w0 M=>?_
 refine .sr (.ks 1 r (.nilS [0] r r (.sr (.ks 1 r ?_))))
 have d:=W_slices_AppendSeq_api_State_api_State_f00 (I:=I) (o0:=o0) (o1:=o1) (o3:=o3) (o4:=o4) (b6:=b6) (p7:=p7) (c8:=c8) (b10:=b10) (p11:=p11) (c12:=c12) (b14:=b14) (b15:=b15) (b16:=b16) R9 R13 hd
 refine .callS (.f call51 r) (.c .z (.c .z (.c .z (.c .z (.c .z .n))))) d r r fun h i j a e=>?_
 obtain ⟨b,k,m,rfl,g,rfl,hd⟩:=e
 replace R9:=R9.mono a
 replace R13:=R13.mono a
 exact .re (m':=[pto b6 (.cells #[.int .i64 o0.Kind,.int .i64 o0.N,.int .i64 o0.Source,.int .i64 o0.Length,.slice p7 o0.Draws.length c8] 25 (0,0)),pto b10 (.cells #[.int .i64 o1.N,.slice p11 o1.Edges.length c12] 28 (0,0)),pto b14 (.cells #[.pointer (some ⟨b16,0,none⟩)] 65 (0,0)),pto b15 (.cells #[.int .i64 o3] 3 (0,0)),pto b16 (.cells #[.int .i64 b.2] 33 (0,0))]) r (.ks 1 r (.nilS [2,0] r r (.ret (oret results25 (.t r .n) a (.c .z (.c .z (.c .z (.c .z (.c .z .n))))) ⟨(b.1,b.2),_,_,r,g,r,hd⟩))))
theorem W_model_Trace {I:IH} {a0:Plan} {a1:Graph} {a2:Int} {p1:Option Addr} {c2:Nat} {p4:Option Addr} {c5:Nat} {Q:((List State)×Int)→Prop} (R3:RepSl eI64 I p1 c2 a0.Draws) (R6:RepSl eEdge I p4 c5 a1.Edges) (hd:model_Trace a0 a1 a2 Q) :
  PFun prog 11 [.agg #[.int .i64 a0.Kind,.int .i64 a0.N,.int .i64 a0.Source,.int .i64 a0.Length,.slice p1 a0.Draws.length c2],.agg #[.int .i64 a1.N,.slice p4 a1.Edges.length c5],.int .i64 a2] I (o27_ Q):=by
 refine Fun.enter func11 r ntmps11 r (.c (.c (.c .n))) fun w0 M=>?_
 refine .sr (.boxA r r r fun b14=>?_)
 refine .boxA r r r fun b16=>?_
 refine .ks 2 r (.nilS [4,3,2] r r (.seq (.sr (.loadW ia25 sz25 r (.s .z) r r r (.loadW ia28 sz28 r .z r r r (.ks 1 r ?_))))))
 have v:=W_model_Check (I:=I) R3 R6 hd
 refine .callP call16 r v r r fun H w=>?_
 obtain ⟨E,rfl,hd⟩:=w
 refine .ks 1 r (.nilS [8,4,3,2] r r (.sr (.ks 2 r (.nilS [15,8,4,3,2] r r (.condP r hd (fun x hd=>?_) fun x hd=>?_)))))
 · exact .sr (.ks 3 r (.nilS [7,6] r r (.drop .z (.drop .z (.ret (pret results11 (.t r (.t r .n)) (.refl _) ⟨(([]:List State),E),_,_,r,(.nil _ _ _),hd⟩))))))
 refine .skipS [4,3,2] r r (.sr (.alloc1 zeroValue33 r r r fun d=>?_))
 refine .nilS [9,4,3,2] r r (.sr (.loadW ia25 sz25 r (.s (.s .z)) r r r (.loadW ia28 sz28 r (.s .z) r r r (.ks 1 r ?_))))
 have y:=W_model_states_5ef (I:=I) (o0:=0) (a0:=a0) (a1:=a1) (a2:=a2) (b2:=d) R3 R6 hd
 refine .callS (.f call23 r) (.c .z .n) y r r fun J F K e A=>?_
 obtain ⟨a,g,h,i,j,k,l,m,o,rfl,p,q,rfl,hd⟩:=A
 replace R3:=R3.mono e
 replace R6:=R6.mono e
 refine .re (m':=[pto d (.cells #[.int .i64 0] 33 (0,0)),pto g (.cells #[.int .i64 a.1.Kind,.int .i64 a.1.N,.int .i64 a.1.Source,.int .i64 a.1.Length,.slice h a.1.Draws.length i] 25 (0,0)),pto j (.cells #[.int .i64 a.2.1.N,.slice k a.2.1.Edges.length l] 28 (0,0)),pto m (.cells #[.pointer (some ⟨d,0,none⟩)] 65 (0,0)),pto o (.cells #[.int .i64 a.2.2] 3 (0,0)),pto b16 (.cells #[.int .i64 a1.N,.slice p4 a1.Edges.length c5] 28 (0,0)),pto b14 (.cells #[.int .i64 a0.Kind,.int .i64 a0.N,.int .i64 a0.Source,.int .i64 a0.Length,.slice p1 a0.Draws.length c2] 25 (0,0))]) r ?_
 have B:=W_slices_Collect_api_State_f8c (I:=F) (o0:=a.1) (o1:=a.2.1) (o3:=a.2.2) (o4:=0) (b6:=g) (p7:=h) (c8:=i) (b10:=j) (p11:=k) (c12:=l) (b14:=m) (b15:=o) (b16:=d) p q hd
 refine .callS (.f call25 r) (.c (.s .z) (.c (.s .z) (.c (.s .z) (.c (.s .z) (.c .z .n))))) B r r fun L O P b C=>?_
 obtain ⟨u,R,S,rfl,G,rfl,hd⟩:=C
 have D:=IH.le.trans e b
 replace R3:=R3.mono b
 replace R6:=R6.mono b
 replace p:=p.mono b
 replace q:=q.mono b
 refine .re (m':=[pto g (.cells #[.int .i64 a.1.Kind,.int .i64 a.1.N,.int .i64 a.1.Source,.int .i64 a.1.Length,.slice h a.1.Draws.length i] 25 (0,0)),pto j (.cells #[.int .i64 a.2.1.N,.slice k a.2.1.Edges.length l] 28 (0,0)),pto m (.cells #[.pointer (some ⟨d,0,none⟩)] 65 (0,0)),pto o (.cells #[.int .i64 a.2.2] 3 (0,0)),pto d (.cells #[.int .i64 u.2] 33 (0,0)),pto b16 (.cells #[.int .i64 a1.N,.slice p4 a1.Edges.length c5] 28 (0,0)),pto b14 (.cells #[.int .i64 a0.Kind,.int .i64 a0.N,.int .i64 a0.Source,.int .i64 a0.Length,.slice p1 a0.Draws.length c2] 25 (0,0))]) r (.ks 2 r (.nilS [7,6] r r (.drop .z (.drop .z (.drop .z (.drop .z (.drop .z (.drop .z (.drop .z ?_)))))))))
 exact .ret (pret results11 (.t r (.t r .n)) D ⟨(u.1,0),_,_,r,G,hd⟩)
theorem W_law22_live {I:IH} {Q:Bool→Prop}  (hd:law22_live Q) :
  PFun prog 13 [] I (fun _=>o2_ Q):=by
 refine Fun.enter func13 r ntmps13 r .n fun w0 M=>?_
 refine .sr (.ks 1 r (.nilS [] r r (.sr (.build zv70 un70 BI70 (.c r r r (.t .nil) (.c r r r (.s (.t .nil)) (.c r r r (.s (.s (.t .nil))) .n))) (by exact ⟨⟨_,_,r,r,r⟩,⟨⟨_,_,r,r,r⟩,⟨⟨_,_,r,r,r⟩,trivial⟩⟩⟩) r r (.build zv70 un70 BI70 (.c r r r (.t .nil) (.c r r r (.s (.t .nil)) (.c r r r (.s (.s (.t .nil))) .n))) (by exact ⟨⟨_,_,r,r,r⟩,⟨⟨_,_,r,r,r⟩,⟨⟨_,_,r,r,r⟩,trivial⟩⟩⟩) r r (.buildSlice 2 un26 sz70 zv70 r r (.c r r r (.c r r r .n)) r r fun b6=>?_))))))
 refine .ownB (El:=eEdge) (ys:=([({ From:=0,To:=1,W:=1 }:Edge),({ From:=1,To:=2,W:=1 }:Edge)]:List Edge)) .z (RepCs.cons (cs:=[.int .i64 0,.int .i64 1,.int .i64 1]) r (RepCs.cons (cs:=[.int .i64 1,.int .i64 2,.int .i64 1]) r .nil)) r (.build zv28 un28 BI28 (.c r r r (.t .nil) (.c r r r (.s (.t .nil)) .n)) (by exact ⟨⟨_,_,r,r,r⟩,⟨⟨_,_,r,r,r⟩,trivial⟩⟩) r r (.allocA zv28 r r fun b9=>?_))
 refine .storeA sz28 r r .z (.t (.t .nil)) r r (.nilS [1] r r (.sr (.build zv25 un25 BI25 (.c r r r (.t .nil) (.c r r r (.s (.t .nil)) .n)) (by exact ⟨⟨_,_,r,r,r⟩,⟨⟨_,_,r,r,r⟩,trivial⟩⟩) r r (.allocA zv25 r r fun d6=>?_))))
 refine .storeA sz25 r r .z (.t (.t (.t (.t (.t .nil))))) r r (.nilS [2,1] r r (.sr (.loadW ia25 sz25 r .z r r r (.loadW ia28 sz28 r (.s .z) r r r (.pub (.s (.s .z)) fun a8 X b=>?_)))))
 have Y:=W_model_Run (I:=a8) (a0:=({ Kind:=1,N:=3,Source:=0,Length:=0,Draws:=([]:List Int) }:Plan)) (a1:=({ N:=3,Edges:=([({ From:=0,To:=1,W:=1 }:Edge),({ From:=1,To:=2,W:=1 }:Edge)]:List Edge) }:Graph)) (.nil _ none 0) b hd
 refine .call call9 r Y r r fun d7 a9 F Z=>?_
 obtain ⟨d8,d9,e0,e1,e2,e3,e4,rfl,f,g,h,hd⟩:=Z
 have a2:=IH.le.trans X F
 replace b:=b.mono F
 refine .ks 3 r (.allocA zv38 r r fun e5=>?_)
 refine .storeA sz38 r r .z (.t (.t (.t (.t (.t (.t (.t .nil))))))) r r (.ks 1 r (.nilS [4,3,2,1] r r (.sr (.loadW ia25 sz25 r (.s .z) r r r (.loadW ia28 sz28 r (.s (.s .z)) r r r ?_)))))
 have a3:=W_model_Trace (I:=a9) (a0:=({ Kind:=1,N:=3,Source:=0,Length:=0,Draws:=([]:List Int) }:Plan)) (a1:=({ N:=3,Edges:=([({ From:=0,To:=1,W:=1 }:Edge),({ From:=1,To:=2,W:=1 }:Edge)]:List Edge) }:Graph)) (.nil _ none 0) b hd
 refine .call call11 r a3 r r fun e6 b0 j a4=>?_
 obtain ⟨e7,e8,e9,rfl,E,hd⟩:=a4
 have a5:=IH.le.trans a2 j
 replace b:=b.mono j
 replace f:=f.mono j
 replace g:=g.mono j
 replace h:=h.mono j
 refine .ks 5 r (.nilS [6,5,4,3,2,1] r r (.sr (.loadW ia25 sz25 r (.s .z) r r r (.loadW ia28 sz28 r (.s (.s .z)) r r r ?_))))
 have G:=W_model_Run (I:=b0) (a0:=({ Kind:=1,N:=3,Source:=0,Length:=0,Draws:=([]:List Int) }:Plan)) (a1:=({ N:=3,Edges:=([({ From:=0,To:=1,W:=1 }:Edge),({ From:=1,To:=2,W:=1 }:Edge)]:List Edge) }:Graph)) (.nil _ none 0) b hd
 refine .call call9 r G r r fun b1 b2 d H=>?_
 obtain ⟨b3,b4,b5,b7,b8,c0,c1,rfl,c2,c3,c4,hd⟩:=H
 have i:=IH.le.trans a5 d
 replace b:=b.mono d
 replace f:=f.mono d
 replace g:=g.mono d
 replace h:=h.mono d
 replace E:=E.mono d
 refine .ks 3 r (.allocA zv38 r r fun c5=>?_)
 refine .storeA sz38 r r .z (.t (.t (.t (.t (.t (.t (.t .nil))))))) r r (.ks 1 r (.nilS [8,6,5,4,3,2,1] r r (.drop .z (.sr (.ks 3 r ?_)))))
 refine splitP hd (fun m hd=>?_) fun m hd=>?_
 · rw [m]
   refine .gyes r r r (.fa un38 r sz33 r (o:=0) r r r (.gyes r r r (.load1 isAgg33 r .z r r r (.ks 3 r ?_))))
   refine splitP hd (fun p hd=>?_) fun p hd=>?_
   · rw [p]
     refine .gyes r r r (.fa un38 r sz3 r (o:=1) r r r (.gyes r r r (.load1 ia3 r .z r r r (.ks 3 r ?_))))
     refine splitP hd (fun q hd=>?_) fun q hd=>?_
     · rw [q]
       refine .gyes r r r (.fa un38 r sz36 r (o:=2) r r r (.gyes r r r (.fa un36 r sz23 r (o:=4) r r r (.gyes r r r (.load1 ia23 r .z r r r (.gyes r r r (.buildSlice 3 un23 sz2 zv2 r r (.c r r r (.c r r r (.c r r r .n))) r r fun c6=>?_)))))))
       refine .pubB (El:=eI64) (ys:=([0,1,2]:List Int)) (k:=3) .z (RepCs.cons (cs:=[.int .i64 0]) r (RepCs.cons (cs:=[.int .i64 1]) r (RepCs.cons (cs:=[.int .i64 2]) r .nil))) r fun l e a6=>?_
       have a:=IH.le.trans i e
       replace b:=b.mono e
       replace f:=f.mono e
       replace g:=g.mono e
       replace h:=h.mono e
       replace E:=E.mono e
       have J:=W_ref07_SameVals (I:=l) f a6 hd
       refine .gyes r r r (.callP call26 r J r r fun c7 K=>?_)
       obtain ⟨c8,rfl,hd⟩:=K
       refine .ks 2 r ?_
       refine splitP hd (fun u hd=>?_) fun u hd=>?_
       · rw [u]
         refine .ks 4 r ?_
         refine splitP hd (fun v hd=>?_) fun v hd=>?_
         · rw [v]
           refine .ks 1 r (.gyes r r r (.len un42 r r r r (.ks 3 r ?_)))
           refine splitP hd (fun w hd=>?_) fun w hd=>?_
           · rw [w]
             refine .ks 4 r ?_
             refine splitP hd (fun x hd=>?_) fun x hd=>?_
             · rw [x]
               refine .gyes r r r (.loadW ia25 sz25 r (.s .z) r r r (.gyes r r r (.loadW ia28 sz28 r (.s (.s .z)) r r r ?_)))
               have L:=W_model_Check (I:=l) (a0:=({ Kind:=1,N:=3,Source:=0,Length:=0,Draws:=([]:List Int) }:Plan)) (a1:=({ N:=3,Edges:=([({ From:=0,To:=1,W:=1 }:Edge),({ From:=1,To:=2,W:=1 }:Edge)]:List Edge) }:Graph)) (.nil _ none 0) b hd
               refine .gyes r r r (.callP call16 r L r r fun c9 O=>?_)
               obtain ⟨d0,rfl,hd⟩:=O
               refine .ks 3 r ?_
               refine splitP hd (fun y hd=>?_) fun y hd=>?_
               · rw [y]
                 refine .gyes r r r (.loadW ia25 sz25 r (.s .z) r r r (.gyes r r r (.build zv28 un28 BI28 .n (by exact trivial) r r ?_)))
                 have P:=W_model_Check (I:=l) (a0:=({ Kind:=1,N:=3,Source:=0,Length:=0,Draws:=([]:List Int) }:Plan)) (a1:=({ N:=0,Edges:=([]:List Edge) }:Graph)) (.nil _ none 0) (.nil _ none 0) hd
                 refine .gyes r r r (.callP call16 r P r r fun d1 R=>?_)
                 obtain ⟨d2,rfl,hd⟩:=R
                 refine .ks 3 r ?_
                 refine splitP hd (fun C hd=>?_) fun C hd=>?_
                 · rw [C]
                   refine .gyes r r r (.loadW isAgg38 sz38 r .z r r r (.gyes r r r (.loadW isAgg38 sz38 r .z r r r ?_)))
                   have S:=W_model_Same (I:=l) f g h f g h hd
                   refine .gyes r r r (.callP call27 r S r r fun d3 T=>?_)
                   obtain ⟨d4,rfl,hd⟩:=T
                   refine .ks 2 r ?_
                   refine splitP hd (fun D hd=>?_) fun D hd=>?_
                   · rw [D]
                     refine .gyes r r r (.loadW isAgg38 sz38 r .z r r r (.gyes r r r (.build zv38 un38 BI38 .n (by exact trivial) r r ?_)))
                     have U:=W_model_Same (I:=l) (a1:=({ Status:=0,Rounds:=0,State:=({ Low:=0,High:=0,A:=([]:List Int),B:=([]:List Int),On:=([]:List Int) }:State) }:Result)) f g h (.nil _ none 0) (.nil _ none 0) (.nil _ none 0) hd
                     refine .gyes r r r (.callP call27 r U r r fun d5 V=>?_)
                     obtain ⟨a7,rfl,hd⟩:=V
                     exact .ks 3 r (.nilS [0] r r (.drop .z (.drop .z (.drop .z (.ret (pret results13 (.t r .n) a ⟨(!a7),r,hd⟩))))))
                   rw [D]
                   exact .ks 6 r (.nilS [0] r r (.drop .z (.drop .z (.drop .z (.ret (pret results13 (.t r .n) a ⟨false,r,hd⟩))))))
                 rw [C]
                 exact .ks 11 r (.nilS [0] r r (.drop .z (.drop .z (.drop .z (.ret (pret results13 (.t r .n) a ⟨false,r,hd⟩))))))
               rw [y]
               exact .ks 17 r (.nilS [0] r r (.drop .z (.drop .z (.drop .z (.ret (pret results13 (.t r .n) a ⟨false,r,hd⟩))))))
             rw [x]
             exact .ks 23 r (.nilS [0] r r (.drop .z (.drop .z (.drop .z (.ret (pret results13 (.t r .n) a ⟨false,r,hd⟩))))))
           rw [w]
           exact .ks 27 r (.nilS [0] r r (.drop .z (.drop .z (.drop .z (.ret (pret results13 (.t r .n) a ⟨false,r,hd⟩))))))
         rw [v]
         exact .ks 32 r (.nilS [0] r r (.drop .z (.drop .z (.drop .z (.ret (pret results13 (.t r .n) a ⟨false,r,hd⟩))))))
       rw [u]
       exact .ks 36 r (.nilS [0] r r (.drop .z (.drop .z (.drop .z (.ret (pret results13 (.t r .n) a ⟨false,r,hd⟩))))))
     rw [q]
     exact .ks 43 r (.nilS [0] r r (.drop .z (.drop .z (.drop .z (.ret (pret results13 (.t r .n) i ⟨false,r,hd⟩))))))
   rw [p]
   exact .ks 48 r (.nilS [0] r r (.drop .z (.drop .z (.drop .z (.ret (pret results13 (.t r .n) i ⟨false,r,hd⟩))))))
 rw [m]
 exact .ks 53 r (.nilS [0] r r (.drop .z (.drop .z (.drop .z (.ret (pret results13 (.t r .n) i ⟨false,r,hd⟩))))))
end Go.Proofs.YtccpfgdefibdnaaGreat
