/- The walks (printed by a program of ours). -/
import Derived.Test.YtaefnmlbnkmahaaGreatSL
namespace Go.Proofs.YtaefnmlbnkmahaaGreat
open Go Go.Fw
set_option linter.unusedVariables false
set_option linter.unusedSimpArgs false
set_option maxRecDepth 8000
set_option maxHeartbeats 1000000
open Tryz
theorem W_csr_within {I:IH} {a0:Int} {a1:Int} {Q:Bool→Prop}  (hd:csr_within a0 a1 Q) :
  PFun prog 167 [.int .i64 a0,.int .i64 a1] I (fun _=>o4_ Q):=by
 refine Fun.enter func167 r ntmps167 r (.c (.c .n)) fun w0 M=>?_
 refine .sr (.ks 1 r (.nilS [1,0] r r (.sr (.ks 3 r ?_))))
 refine splitP hd (fun a hd=>?_) fun a hd=>?_
 · rw [a]
   exact .ks 5 r (.nilS [4] r r (.ret (pret results167 (.t r .n) (.refl _) ⟨(decide (a0≤a1)),r,hd⟩)))
 rw [a]
 exact .ks 5 r (.nilS [4] r r (.ret (pret results167 (.t r .n) (.refl _) ⟨false,r,hd⟩)))
theorem W_cmp_isNaN_int {I:IH} {a0:Int} {Q:Bool→Prop}  (hd:cmp_isNaN_int a0 Q) :
  PFun prog 254 [.int .i64 a0] I (fun _=>o4_ Q):=by
 refine Fun.enter func254 r ntmps254 r (.c .n) fun w0 M=>?_
 exact .sr (.ks 1 r (.nilS [0] r r (.sr (.ks 4 r (.nilS [2] r r (.ret (pret results254 (.t r .n) (.refl _) ⟨(a0 != a0),r,hd⟩)))))))
theorem W_cmp_Less_int {I:IH} {a0:Int} {a1:Int} {Q:Bool→Prop}  (hd:cmp_Less_int a0 a1 Q) :
  PFun prog 226 [.int .i64 a0,.int .i64 a1] I (fun _=>o4_ Q):=by
 refine Fun.enter func226 r ntmps226 r (.c (.c .n)) fun w0 M=>?_
 refine .sr (.ks 1 r (.nilS [1,0] r r (.sr (.ks 1 r ?_))))
 have d:=W_cmp_isNaN_int (I:=I) hd
 refine .callP call254 r d r r fun h e=>?_
 obtain ⟨i,rfl,hd⟩:=e
 refine .ks 1 r ?_
 refine splitP hd (fun b hd=>?_) fun b hd=>?_
 · rw [b]
   refine .ks 1 r ?_
   have f:=W_cmp_isNaN_int (I:=I) hd
   refine .gyes r r r (.callP call254 r f r r fun j g=>?_)
   obtain ⟨k,rfl,hd⟩:=g
   refine .ks 3 r ?_
   refine splitP hd (fun a hd=>?_) fun a hd=>?_
   · rw [a]
     exact .ks 5 r (.nilS [4] r r (.ret (pret results226 (.t r .n) (.refl _) ⟨true,r,hd⟩)))
   rw [a]
   exact .ks 5 r (.nilS [4] r r (.ret (pret results226 (.t r .n) (.refl _) ⟨(decide (a0<a1)),r,hd⟩)))
 rw [b]
 exact .ks 10 r (.nilS [4] r r (.ret (pret results226 (.t r .n) (.refl _) ⟨(decide (a0<a1)),r,hd⟩)))
theorem W_slices_IsSorted_int_int {I:IH} {a0:List Int} {p1:Option Addr} {c2:Nat} {Q:Bool→Prop} (R3:RepSl eI64 I p1 c2 a0) (hd:slices_IsSorted_int_int a0 Q) :
  PFun prog 168 [.slice p1 a0.length c2] I (fun _=>o4_ Q):=by
 refine Fun.enter func168 r ntmps168 r (.c .n) fun w0 M=>?_
 refine .sr (.ks 1 r (.nilS [0] r r (.seq (.sr (.ks 1 r (.len un29 r r r r (.ks 2 r (.nilS [3,0] r r (.block ?_)))))))))
 refine .loop hd (fun (b:Int) c w=>∃ I_,IH.le I I_∧Ok ⟨21,[],none⟩ [(0,.slice p1 a0.length c2),(3,.int .i64 b)] c∧Sym w0 M I I_ [] w) (fun c w ho hs=>⟨I,(.refl _),ho.sub ⟨r,r,trivial⟩,hs.pick .n⟩) ?_
 rintro b v hd c w hst
 obtain ⟨f,a,hok,hsym⟩:=hst
 replace R3:=R3.mono a
 refine Cod.at hok hsym (.seq (.sr (.ks 2 r (.nilS [8,3,0] r r (.condP r hd (fun k hd=>?_) fun k hd=>?_)))))
 · refine .skipS [3,0] r r (.seq (.block (.seq (.dr [0,1,2,3,4,5,6,7,8,9] 10 (.fk 2 r ?_)))))
   obtain ⟨h,B,d,hd⟩:=hd
   obtain ⟨C,o67,z,x,l,m⟩:=R3.2 _ _ d
   cases m
   refine .g r r r (fun _=>.ixa un29 sz3 r x r h (idx_lt d h) r r .mk) (.g r r r (fun _=>.ld1 (j:=0) ia3 l r r r r r .mk) (.fk 3 r ?_))
   obtain ⟨i,D,e,hd⟩:=hd
   obtain ⟨E,o76,A,y,o,p⟩:=R3.2 _ _ e
   cases p
   refine .g r r r (fun _=>.ixa un29 sz3 r y r i (idx_lt e i) r r .mk) (.g r r r (fun _=>.ld1 (j:=0) ia3 o r r r r r .mk) (.ww r fun ex=>?_))
   have q:=W_cmp_Less_int (I:=f) hd
   refine .callP call226 r q r r fun F s=>?_
   obtain ⟨G,rfl,hd⟩:=s
   refine .so 0 r r r trivial (.e2 10 (.nilS [20,3,0] r r (.condP r hd (fun u hd=>?_) fun u hd=>?_)))
   · exact .sr (.ks 1 r (.nilS [2] r r (.ret (pret results168 (.t r .n) a ⟨false,r,hd⟩))))
   exact .skipS [3,0] r r (.region (.ks 3 r (.nil' fun c w ho hs=>⟨(w64 (b - 1)),hd,f,a,ho.sub ⟨r,r,trivial⟩,hs.pick .n⟩)))
 exact .exitS [] r r (.sr (.ks 1 r (.nilS [2] r r (.ret (pret results168 (.t r .n) a ⟨true,r,hd⟩)))))
theorem W_csr_row {I:IH} {a0:List Int} {a1:Int} {p1:Option Addr} {c2:Nat} {Q:Bool→Prop} (R3:RepSl eI64 I p1 c2 a0) (hd:csr_row a0 a1 Q) :
  PFun prog 169 [.slice p1 a0.length c2,.int .i64 a1] I (fun _=>o4_ Q):=by
 refine Fun.enter func169 r ntmps169 r (.c (.c .n)) fun w0 M=>?_
 refine .sr (.ks 1 r (.nilS [1,0] r r (.seq (.sr (.ks 1 r (.len un29 r r r r (.ks 1 r (.nilS [9,8,7,1,0] r r (.block ?_)))))))))
 refine .loop hd (fun (e:Int) c w=>∃ I_,IH.le I I_∧Ok ⟨33,[],none⟩ [(0,.slice p1 a0.length c2),(1,.int .i64 a1),(7,.slice p1 a0.length c2),(8,.int .i64 (a0.length:Int)),(9,.int .i64 e)] c∧Sym w0 M I I_ [] w) (fun c w ho hs=>⟨I,(.refl _),ho.sub ⟨r,r,r,r,r,trivial⟩,hs.pick .n⟩) ?_
 rintro e y hd c w hst
 obtain ⟨g,a,hok,hsym⟩:=hst
 replace R3:=R3.mono a
 refine Cod.at hok hsym (.sr (.ks 1 r (.nilS [10,9,8,7,1,0] r r (.seq (.condP r hd (fun p hd=>?_) fun p hd=>?_)))))
 · refine .skipS [9,8,7,1,0] r r (.seq (.block (.sr (.ks 1 r ?_))))
   obtain ⟨m,D,h,hd⟩:=hd
   obtain ⟨E,o87,B,z,q,s⟩:=R3.2 _ _ h
   cases s
   refine .ixa un29 sz3 r z r m (idx_lt h m) r r (.ld1 (j:=0) ia3 q r r r r r (.ks 2 r (.nilS [6,5,9,8,7,1,0] r r (.sr (.ks 3 r ?_)))))
   have u:=W_csr_within (I:=g) hd
   refine .callP call167 r u r r fun F v=>?_
   obtain ⟨G,rfl,hd⟩:=v
   refine .ks 2 r ?_
   refine splitP hd (fun b hd=>?_) fun b hd=>?_
   · rw [b]
     exact .ks 12 r (.nilS [31,9,8,7,1,0] r r (.condKT r r (.sr (.ks 1 r (.nilS [4] r r (.ret (pret results169 (.t r .n) a ⟨false,r,hd⟩)))))))
   rw [b]
   refine .ks 3 r ?_
   refine splitP hd (fun d hd=>?_) fun d hd=>?_
   · rw [d]
     refine .ks 3 r ?_
     obtain ⟨o,H,f,hd⟩:=hd
     obtain ⟨C,o102,A,x,i,k⟩:=R3.2 _ _ f
     cases k
     refine .gyes r r r (.ixa un29 sz3 r x r o (idx_lt f o) r r (.gyes r r r (.ld1 (j:=0) ia3 i r r r r r (.ks 4 r (.nilS [31,9,8,7,1,0] r r (.condP r hd (fun l hd=>?_) fun l hd=>?_))))))
     · exact .sr (.ks 1 r (.nilS [4] r r (.ret (pret results169 (.t r .n) a ⟨false,r,hd⟩))))
     exact .skipS [9,8,7,1,0] r r (.region (.ks 2 r (.nil' fun c w ho hs=>⟨(w64 (e+1)),hd,g,a,ho.sub ⟨r,r,r,r,r,trivial⟩,hs.pick .n⟩)))
   rw [d]
   exact .ks 9 r (.nilS [31,9,8,7,1,0] r r (.condKF r r (.skipS [9,8,7,1,0] r r (.region (.ks 2 r (.nil' fun c w ho hs=>⟨(w64 (e+1)),hd,g,a,ho.sub ⟨r,r,r,r,r,trivial⟩,hs.pick .n⟩))))))
 exact .exitS [] r r (.sr (.ks 1 r (.nilS [4] r r (.ret (pret results169 (.t r .n) a ⟨true,r,hd⟩)))))
theorem W_csr_Right {I:IH} {a0:Rows} {p1:Option Addr} {c2:Nat} {p4:Option Addr} {c5:Nat} {p7:Option Addr} {c8:Nat} {Q:Bool→Prop} (R3:RepSl eI64 I p1 c2 a0.Start) (R6:RepSl eI64 I p4 c5 a0.Col) (R9:RepSl eI64 I p7 c8 a0.Val) (hd:csr_Right a0 Q) :
  PFun prog 96 [.agg #[.int .i64 a0.Rows,.int .i64 a0.Cols,.slice p1 a0.Start.length c2,.slice p4 a0.Col.length c5,.slice p7 a0.Val.length c8]] I (fun _=>o4_ Q):=by
 refine Fun.enter func96 r ntmps96 r (.c .n) fun w0 M=>?_
 refine .sr (.boxA r r r fun O=>?_)
 refine .ks 1 r (.nilS [1] r r (.sr (.fa un32 r sz29 r (o:=3) r r r (.load1 ia29 r .z r r r (.len un29 r r r r (.ks 1 r (.nilS [3,1] r r (.seq (.sr ?_)))))))))
 refine .fa un32 r sz3 r (o:=0) r r r (.load1 ia3 r .z r r r ?_)
 have S:=W_csr_within (I:=I) hd
 refine .callP call167 r S r r fun c9 T=>?_
 obtain ⟨d0,rfl,hd⟩:=T
 refine .ks 2 r ?_
 refine splitP hd (fun d hd=>?_) fun d hd=>?_
 · rw [d]
   exact .ks 25 r (.nilS [37,3,1] r r (.condKT r r (.sr (.ks 1 r (.nilS [2] r r (.drop .z (.ret (pret results96 (.t r .n) (.refl _) ⟨false,r,hd⟩))))))))
 rw [d]
 refine .gyes r r r (.fa un32 r sz3 r (o:=1) r r r (.gyes r r r (.load1 ia3 r .z r r r ?_)))
 have U:=W_csr_within (I:=I) hd
 refine .gyes r r r (.callP call167 r U r r fun d1 V=>?_)
 obtain ⟨d2,rfl,hd⟩:=V
 refine .ks 3 r ?_
 refine splitP hd (fun e hd=>?_) fun e hd=>?_
 · rw [e]
   exact .ks 19 r (.nilS [37,3,1] r r (.condKT r r (.sr (.ks 1 r (.nilS [2] r r (.drop .z (.ret (pret results96 (.t r .n) (.refl _) ⟨false,r,hd⟩))))))))
 rw [e]
 refine .gyes r r r (.fa un32 r sz29 r (o:=2) r r r (.gyes r r r (.load1 ia29 r .z r r r (.gyes r r r (.len un29 r r r r (.gyes r r r (.fa un32 r sz3 r (o:=0) r r r (.gyes r r r (.load1 ia3 r .z r r r (.ks 4 r ?_))))))))))
 refine splitP hd (fun f hd=>?_) fun f hd=>?_
 · rw [f]
   exact .ks 10 r (.nilS [37,3,1] r r (.condKT r r (.sr (.ks 1 r (.nilS [2] r r (.drop .z (.ret (pret results96 (.t r .n) (.refl _) ⟨false,r,hd⟩))))))))
 rw [f]
 refine .gyes r r r (.fa un32 r sz30 r (o:=4) r r r (.gyes r r r (.load1 ia30 r .z r r r (.gyes r r r (.len un30 r r r r (.ks 4 r ?_))))))
 refine splitP hd (fun h hd=>?_) fun h hd=>?_
 · rw [h]
   exact .ks 3 r (.nilS [37,3,1] r r (.condKT r r (.sr (.ks 1 r (.nilS [2] r r (.drop .z (.ret (pret results96 (.t r .n) (.refl _) ⟨false,r,hd⟩))))))))
 rw [h]
 refine .ks 3 r (.nilS [37,3,1] r r (.condP r hd (fun W hd=>?_) fun W hd=>?_))
 · exact .sr (.ks 1 r (.nilS [2] r r (.drop .z (.ret (pret results96 (.t r .n) (.refl _) ⟨false,r,hd⟩)))))
 refine .skipS [3,1] r r (.seq (.sr (.fa un32 r sz29 r (o:=2) r r r (.load1 ia29 r .z r r r ?_))))
 obtain ⟨P,d3,s,hd⟩:=hd
 obtain ⟨d4,o69,b6,b2,X,Y⟩:=R3.2 _ _ s
 cases Y
 refine .ixa un29 sz3 r b2 r P (idx_lt s P) r r (.ld1 (j:=0) ia3 X r r r r r (.ks 2 r ?_))
 refine splitP hd (fun i hd=>?_) fun i hd=>?_
 · rw [i]
   exact .ks 15 r (.nilS [58,1] r r (.condKT r r (.sr (.ks 1 r (.nilS [2] r r (.drop .z (.ret (pret results96 (.t r .n) (.refl _) ⟨false,r,hd⟩))))))))
 rw [i]
 refine .gyes r r r (.fa un32 r sz29 r (o:=2) r r r (.gyes r r r (.load1 ia29 r .z r r r (.gyes r r r (.fa un32 r sz3 r (o:=0) r r r (.gyes r r r (.load1 ia3 r .z r r r ?_)))))))
 obtain ⟨R,d5,u,hd⟩:=hd
 obtain ⟨d6,o79,b7,b3,Z,a1⟩:=R3.2 _ _ u
 cases a1
 refine .gyes r r r (.ixa un29 sz3 r b3 r R (idx_lt u R) r r (.gyes r r r (.ld1 (j:=0) ia3 Z r r r r r (.ks 4 r ?_))))
 refine splitP hd (fun k hd=>?_) fun k hd=>?_
 · rw [k]
   exact .ks 5 r (.nilS [58,1] r r (.condKT r r (.sr (.ks 1 r (.nilS [2] r r (.drop .z (.ret (pret results96 (.t r .n) (.refl _) ⟨false,r,hd⟩))))))))
 rw [k]
 refine .gyes r r r (.fa un32 r sz29 r (o:=2) r r r (.gyes r r r (.load1 ia29 r .z r r r ?_)))
 have a2:=W_slices_IsSorted_int_int (I:=I) R3 hd
 refine .gyes r r r (.callP call168 r a2 r r fun d7 a3=>?_)
 obtain ⟨d8,rfl,hd⟩:=a3
 refine .ks 2 r (.nilS [58,1] r r (.condP r hd (fun a4 hd=>?_) fun a4 hd=>?_))
 · exact .sr (.ks 1 r (.nilS [2] r r (.drop .z (.ret (pret results96 (.t r .n) (.refl _) ⟨false,r,hd⟩)))))
 refine .skipS [1] r r (.seq (.sr (.fa un32 r sz3 r (o:=0) r r r (.load1 ia3 r .z r r r (.ks 1 r (.nilS [61,60,1] r r (.block (.loop hd (fun (l:Int) c w=>∃ I_,IH.le I I_∧Ok ⟨83,[],none⟩ [(1,.pointer (some ⟨O,0,none⟩)),(60,.int .i64 a0.Rows),(61,.int .i64 l)] c∧Sym w0 M I I_ [pto O (.cells #[.int .i64 a0.Rows,.int .i64 a0.Cols,.slice p1 a0.Start.length c2,.slice p4 a0.Col.length c5,.slice p7 a0.Val.length c8] 32 (0,0))] w) (fun c w ho hs=>⟨I,(.refl _),ho.sub ⟨r,r,r,trivial⟩,hs.pick (.c .z .n)⟩) ?_))))))))
 rintro l b1 hd c w hst
 obtain ⟨v,a,hok,hsym⟩:=hst
 replace R3:=R3.mono a
 replace R6:=R6.mono a
 replace R9:=R9.mono a
 refine Cod.at hok hsym (.sr (.ks 1 r (.nilS [62,61,60,1] r r (.seq (.condP r hd (fun C hd=>?_) fun C hd=>?_)))))
 · refine .skipS [61,60,1] r r (.seq (.block (.sr (.ks 2 r (.nilS [4,61,60,1] r r (.seq (.dr [0,1,2,3,4,5,6,7,8,9,10,11,12,13,14,15,16,17] 18 (.g r r r (fun _=>.fa un32 r sz29 r (o:=3) r r r .mk) (.g r r r (fun _=>.load1 ia29 r .z r r r .mk) ?_)))))))))
   refine .g r r r (fun _=>.fa un32 r sz29 r (o:=2) r r r .mk) (.g r r r (fun _=>.load1 ia29 r .z r r r .mk) (.fk 1 r ?_))
   obtain ⟨x,m,p,hd⟩:=hd
   obtain ⟨b8,o173,b4,a5,D,E⟩:=R3.2 _ _ p
   cases E
   refine .g r r r (fun _=>.ixa un29 sz3 r a5 r x (idx_lt p x) r r .mk) (.g r r r (fun _=>.ld1 (j:=0) ia3 D r r r r r .mk) (.g r r r (fun _=>.fa un32 r sz29 r (o:=2) r r r .mk) (.g r r r (fun _=>.load1 ia29 r .z r r r .mk) (.fk 2 r ?_))))
   obtain ⟨y,b,q,hd⟩:=hd
   obtain ⟨b9,o182,b5,a6,F,G⟩:=R3.2 _ _ q
   cases G
   refine .g r r r (fun _=>.ixa un29 sz3 r a6 r y (idx_lt q y) r r .mk) (.g r r r (fun _=>.ld1 (j:=0) ia3 F r r r r r .mk) ?_)
   obtain ⟨a7,c0,c1,hd⟩:=hd
   have A:Int.toNat m≤Int.toNat b:=by omega
   have B:Int.toNat b≤a0.Col.length:=by omega
   obtain ⟨c3,c4,a8,a9,b0⟩:=RepSl.sliceW R6 (Int.toNat m) (Int.toNat b) c5 A B (.inl rfl)
   refine .g r r r (fun _=>.sliceW (L:=Int.toNat m) (H:=Int.toNat b) (cm:=c5) un29 sz3 r r R6.1 r r r (.inr ⟨_,_,r,a7,r⟩) (.inr ⟨_,_,r,(by omega),r⟩) (.inl r) A B r a8 a9 r r .mk) (.g r r r (fun _=>.fa un32 r sz3 r (o:=1) r r r .mk) (.g r r r (fun _=>.load1 ia3 r .z r r r .mk) (.ww r fun ex=>?_)))
   have J:=W_csr_row (I:=v) b0 hd
   refine .callP call169 r J r r fun c6 K=>?_
   obtain ⟨c7,rfl,hd⟩:=K
   refine .so 1 r r r trivial (.fk 1 r (.e2 18 (.nilS [81,61,60,1] r r (.condP r hd (fun N hd=>?_) fun N hd=>?_))))
   · exact .sr (.ks 1 r (.nilS [2] r r (.drop .z (.ret (pret results96 (.t r .n) a ⟨false,r,hd⟩)))))
   exact .skipS [61,60,1] r r (.region (.ks 2 r (.nil' fun c w ho hs=>⟨(w64 (l+1)),hd,v,a,ho.sub ⟨r,r,r,trivial⟩,hs.pick (.c .z .n)⟩)))
 exact .exitS [] r r (.drop .z (.sr (.ks 1 r (.nilS [2] r r (.ret (pret results96 (.t r .n) a ⟨true,r,hd⟩))))))
theorem W_csr_empty {I:IH} {a0:Int} {a1:Int} {Q:Rows→Prop}  (hd:csr_empty a0 a1 Q) :
  OFun prog 229 [.int .i64 a0,.int .i64 a1] I (fun _=>o5_ Q):=by
 refine Fun.enter func229 r ntmps229 r (.c (.c .n)) fun w0 M=>?_
 refine .sr (.allocA zv32 r r fun d=>?_)
 refine .nilS [4,1,0] r r (.sr (.ks 4 r ?_))
 obtain ⟨a,b,hd⟩:=hd
 refine .make (El:=eI64) (zv:=0) 8 un29 IN3 r r r r r r a b r r r fun e=>?_
 exact .build zv32 un32 BI32 (.c r r r (.t .nil) (.c r r r (.s (.t .nil)) (.c r r r (.s (.s (.t .nil))) .n))) (by exact ⟨⟨_,_,r,r,r⟩,⟨⟨_,_,r,r,r⟩,⟨⟨_,_,r,r,r⟩,trivial⟩⟩⟩) r r (.storeA sz32 r r (.s .z) (.t (.t (.t (.t (.t .nil))))) r r (.nilS [4] r r (.own0 eI64 3 (.own0 eI64 2 (.ret (oret results229 (.w ia32 sz32 r (.s (.s (.s .z))) r .n) (.refl _) (.c (.s (.s .z)) (.c (.s .z) (.c .z .n))) ⟨({ Rows:=a0,Cols:=a1,Start:=(List.replicate (w64 (a0+1)).toNat 0),Col:=([]:List Int),Val:=([]:List Int) }:Rows),_,_,_,_,_,_,r,r,hd⟩))))))
theorem W_csr_sure {I:IH} {a0:Rows} {p1:Option Addr} {c2:Nat} {p4:Option Addr} {c5:Nat} {p7:Option Addr} {c8:Nat} {Q:Rows→Prop} (R3:RepSl eI64 I p1 c2 a0.Start) (R6:RepSl eI64 I p4 c5 a0.Col) (R9:RepSl eI64 I p7 c8 a0.Val) (hd:csr_sure a0 Q) :
  PFun prog 173 [.agg #[.int .i64 a0.Rows,.int .i64 a0.Cols,.slice p1 a0.Start.length c2,.slice p4 a0.Col.length c5,.slice p7 a0.Val.length c8]] I (o8_ Q):=by
 refine Fun.enter func173 r ntmps173 r (.c .n) fun w0 M=>?_
 refine .sr (.boxA r r r fun v=>?_)
 refine .allocA zv32 r r fun x=>?_
 refine .nilS [2,1] r r (.seq (.sr (.loadW ia32 sz32 r (.s .z) r r r ?_)))
 have f:=W_csr_Right (I:=I) R3 R6 R9 hd
 refine .callP call96 r f r r fun y g=>?_
 obtain ⟨A,rfl,hd⟩:=g
 refine .nilS [4,2,1] r r (.condP r hd (fun h hd=>?_) fun h hd=>?_)
 · exact .sr (.loadW ia32 sz32 r (.s .z) r r r (.storeA sz32 r r .z (.t (.t (.t (.t (.t .nil))))) r r (.nilS [2] r r (.drop (.s .z) (.ret (pret results173 (.w ia32 sz32 r .z r .n) (.refl _) ⟨a0,_,_,_,_,_,_,r,R3,R6,R9,hd⟩))))))
 refine .skipS [2] r r (.drop (.s .z) (.sr ?_))
 have i:=W_csr_empty (I:=I) hd
 refine .callO call229 r i r r fun B C D j k=>?_
 obtain ⟨q,E,F,G,H,J,K,rfl,rfl,hd⟩:=k
 refine .storeA sz32 r r (.s (.s (.s .z))) (.t (.t (.t (.t (.t .nil))))) r r (.nilS [2] r r (.pub .z fun L l a=>?_))
 have m:=IH.le.trans j l
 refine .pub .z fun N d e=>?_
 have o:=IH.le.trans m d
 replace a:=a.mono d
 refine .pub .z fun O b u=>?_
 have p:=IH.le.trans o b
 replace a:=a.mono b
 replace e:=e.mono b
 exact .ret (pret results173 (.w ia32 sz32 r .z r .n) p ⟨q,_,_,_,_,_,_,r,a,e,u,hd⟩)
theorem W_csr_bounds {I:IH} {a0:Int×Int} {a1:Int} {Q:(Int×Int)→Prop}  (hd:csr_bounds a0 a1 Q) :
  PFun prog 174 [.agg #[.int .i64 a0.1,.int .i64 a0.2],.int .i64 a1] I (fun _=>o9_ Q):=by
 refine Fun.enter func174 r ntmps174 r (.c (.c .n)) fun w0 M=>?_
 refine .sr (.boxA r r r fun b=>?_)
 refine .ks 2 r (.nilS [2,1] r r (.sr (.ixArr (i:=0) un169 sz3 r r (by decide) (o:=0) r r r (.load1 ia3 r .z r r r (.maxI r r r r (.ks 1 r (.nilS [6,2,1] r r (.sr (.ixArr (i:=1) un169 sz3 r r (by decide) (o:=1) r r r ?_)))))))))
 refine .load1 ia3 r .z r r r (.ks 1 r (.minI r r r r (.ks 1 r (.nilS [7,6] r r (.drop .z (.seq (.sr (.ks 3 r (.nilS [17,7,6] r r ?_)))))))))
 refine .condP r hd (fun a hd=>?_) fun a hd=>?_
 · exact .sr (.ks 3 r (.nilS [5,4] r r (.ret (pret results174 (.t r (.t r .n)) (.refl _) ⟨((if 0 > a0.1 then 0 else a0.1),0),r,hd⟩))))
 exact .skipS [7,6] r r (.sr (.ks 6 r (.nilS [5,4] r r (.ret (pret results174 (.t r (.t r .n)) (.refl _) ⟨((if 0 > a0.1 then 0 else a0.1),w64 ((if a1<a0.2 then a1 else a0.2) - (if 0 > a0.1 then 0 else a0.1))),r,hd⟩)))))
theorem W_csr_part {I:IH} {a0:Rows} {a1:Int} {p1:Option Addr} {c2:Nat} {p4:Option Addr} {c5:Nat} {p7:Option Addr} {c8:Nat} {Q:((List Int)×(List Int))→Prop} (R3:RepSl eI64 I p1 c2 a0.Start) (R6:RepSl eI64 I p4 c5 a0.Col) (R9:RepSl eI64 I p7 c8 a0.Val) (hd:csr_part a0 a1 Q) :
  PFun prog 230 [.agg #[.int .i64 a0.Rows,.int .i64 a0.Cols,.slice p1 a0.Start.length c2,.slice p4 a0.Col.length c5,.slice p7 a0.Val.length c8],.int .i64 a1] I (o10_ Q):=by
 refine Fun.enter func230 r ntmps230 r (.c (.c .n)) fun w0 M=>?_
 refine .sr (.boxA r r r fun K=>?_)
 refine .ks 2 r (.nilS [2,1] r r (.seq (.dr [0,1,2,3,4,5,6,7,8,9,10,11] 12 (.g r r r (fun _=>.fa un32 r sz29 r (o:=2) r r r .mk) (.g r r r (fun _=>.load1 ia29 r .z r r r .mk) (.fk 1 r ?_))))))
 obtain ⟨f,b,d,hd⟩:=hd
 obtain ⟨N,o42,G,v,p,q⟩:=R3.2 _ _ d
 cases q
 refine .g r r r (fun _=>.ixa un29 sz3 r v r f (idx_lt d f) r r .mk) (.g r r r (fun _=>.ld1 (j:=0) ia3 p r r r r r .mk) (.g r r r (fun _=>.fa un32 r sz29 r (o:=2) r r r .mk) (.g r r r (fun _=>.load1 ia29 r .z r r r .mk) (.fk 2 r ?_))))
 obtain ⟨h,a,e,hd⟩:=hd
 obtain ⟨O,o51,J,w,s,u⟩:=R3.2 _ _ e
 cases u
 refine .g r r r (fun _=>.ixa un29 sz3 r w r h (idx_lt e h) r r .mk) (.g r r r (fun _=>.ld1 (j:=0) ia3 s r r r r r .mk) (.fk 1 r (.e2 12 (.ks 1 r (.nilS [7,6,2] r r (.seq (.dr [0,1,2,3,4,5,6,7,8,9,10,11,12] 13 (.g r r r (fun _=>.fa un32 r sz29 r (o:=3) r r r .mk) (.g r r r (fun _=>.load1 ia29 r .z r r r .mk) ?_)))))))))
 refine .fk 3 r ?_
 obtain ⟨x,P,R,hd⟩:=hd
 have i:Int.toNat b≤Int.toNat a:=by omega
 have k:Int.toNat a≤a0.Col.length:=by omega
 obtain ⟨S,T,y,A,B⟩:=RepSl.sliceW R6 (Int.toNat b) (Int.toNat a) (Int.toNat a) i k (.inr rfl)
 refine .g r r r (fun _=>.sliceW (L:=Int.toNat b) (H:=Int.toNat a) (cm:=Int.toNat a) un29 sz3 r r R6.1 r r r (.inr ⟨_,_,r,x,r⟩) (.inr ⟨_,_,r,(by omega),r⟩) (.inr r) i k r y A r r .mk) (.g r r r (fun _=>.fa un32 r sz30 r (o:=4) r r r .mk) (.g r r r (fun _=>.load1 ia30 r .z r r r .mk) (.fk 3 r ?_)))
 obtain ⟨C,U,V,hd⟩:=hd
 have l:Int.toNat b≤Int.toNat a:=by omega
 have m:Int.toNat a≤a0.Val.length:=by omega
 obtain ⟨W,X,D,E,F⟩:=RepSl.sliceW R9 (Int.toNat b) (Int.toNat a) (Int.toNat a) l m (.inr rfl)
 exact .g r r r (fun _=>.sliceW (L:=Int.toNat b) (H:=Int.toNat a) (cm:=Int.toNat a) un30 sz2 r r R9.1 r r r (.inr ⟨_,_,r,C,r⟩) (.inr ⟨_,_,r,(by omega),r⟩) (.inr r) l m r D E r r .mk) (.fk 1 r (.e2 13 (.ks 1 r (.nilS [5,4] r r (.drop .z (.ret (pret results230 (.t r (.t r .n)) (.refl _) ⟨(((a0.Col.take a.toNat).drop b.toNat),((a0.Val.take a.toNat).drop b.toNat)),_,_,_,_,r,B,F,hd⟩)))))))
theorem W_csr_Row {I:IH} {a0:Rows} {a1:Int} {p1:Option Addr} {c2:Nat} {p4:Option Addr} {c5:Nat} {p7:Option Addr} {c8:Nat} {Q:(List Item)→Prop} (R3:RepSl eI64 I p1 c2 a0.Start) (R6:RepSl eI64 I p4 c5 a0.Col) (R9:RepSl eI64 I p7 c8 a0.Val) (hd:csr_Row a0 a1 Q) :
  PFun prog 175 [.agg #[.int .i64 a0.Rows,.int .i64 a0.Cols,.slice p1 a0.Start.length c2,.slice p4 a0.Col.length c5,.slice p7 a0.Val.length c8],.int .i64 a1] I (fun I_ v=>∃ r p10 c11,v=.slice p10 r.length c11∧RepSl eItem I_ p10 c11 r∧Q r):=by
 refine Fun.enter func175 r ntmps175 r (.c (.c .n)) fun w0 M=>?_
 refine .sr (.boxA r r r fun b9=>?_)
 refine .ks 1 r (.nilS [2,1] r r (.sr (.loadW ia32 sz32 r .z r r r ?_)))
 have R:=W_csr_sure (I:=I) R3 R6 R9 hd
 refine .call call173 r R r r fun c0 O b S=>?_
 obtain ⟨c1,c3,c4,c6,c7,c9,d0,rfl,m,p,q,hd⟩:=S
 replace R3:=R3.mono b
 replace R6:=R6.mono b
 replace R9:=R9.mono b
 refine .storeA sz32 r r .z (.t (.t (.t (.t (.t .nil))))) r r (.nilS [2,1] r r (.seq (.sr (.ks 1 r (.fa un32 r sz3 r (o:=0) r r r (.load1 ia3 r .z r r r (.ks 1 r ?_)))))))
 have T:=W_csr_within (I:=O) hd
 refine .callP call167 r T r r fun d1 U=>?_
 obtain ⟨d2,rfl,hd⟩:=U
 refine .ks 1 r (.nilS [17,2,1] r r (.condP r hd (fun V hd=>?_) fun V hd=>?_))
 · exact .sr (.ks 1 r (.nilS [4] r r (.drop .z (.ret (pret results175 (.t r .n) b ⟨([]:List Item),_,_,r,(.nil _ _ _),hd⟩)))))
 refine .skipS [2,1] r r (.sr (.ks 1 r (.nilS [5,2,1] r r (.sr (.loadW ia32 sz32 r .z r r r (.ks 1 r ?_))))))
 have W:=W_csr_part (I:=O) m p q hd
 refine .call call230 r W r r fun d3 P e X=>?_
 obtain ⟨u,a6,a7,a8,a9,rfl,x,y,hd⟩:=X
 have Y:=IH.le.trans b e
 replace m:=m.mono e
 replace p:=p.mono e
 replace q:=q.mono e
 refine .ks 5 r (.nilS [7,6,5] r r (.drop .z (.seq (.sr (.ks 1 r (.len un29 r r r r (.ks 1 r (.nilS [26,25,24,7,5] r r (.block ?_)))))))))
 refine .own0 eItem 51 (.loop hd (fun (s:(List Item)×Int) c w=>match s with | (d,f)=>∃ I_ g h,IH.le P I_∧Ok ⟨42,[],none⟩ [(5,.slice g d.length h),(7,.slice a8 u.2.length a9),(24,.slice a6 u.1.length a7),(25,.int .i64 (u.1.length:Int)),(26,.int .i64 f)] c∧Sym w0 M I I_ [OwnSl eItem 51 g h d] w) (fun c w ho hs=>⟨P,_,_,(.refl _),ho.sub ⟨r,r,r,r,r,trivial⟩,hs.pick (.c .z .n)⟩) ?_)
 rintro ⟨d,f⟩ a5 hd c w hst
 obtain ⟨Z,g,h,a,hok,hsym⟩:=hst
 have E:=IH.le.trans Y a
 replace x:=x.mono a
 replace y:=y.mono a
 refine Cod.at hok hsym (.sr (.ks 1 r (.nilS [27,26,25,24,7,5] r r (.seq (.condP r hd (fun F hd=>?_) fun F hd=>?_)))))
 · refine .skipS [26,25,24,7,5] r r (.seq (.block (.sr (.ks 1 r ?_))))
   obtain ⟨A,B,i,hd⟩:=hd
   obtain ⟨b3,o171,b0,a2,G,H⟩:=x.2 _ _ i
   cases H
   refine .ixa un29 sz3 r a2 r A (idx_lt i A) r r (.ld1 (j:=0) ia3 G r r r r r (.ks 2 r (.nilS [9,8,26,25,24,7,5] r r (.region (.ks 4 r ?_)))))
   obtain ⟨C,D,k,hd⟩:=hd
   obtain ⟨b4,o180,b1,a3,J,K⟩:=y.2 _ _ k
   cases K
   refine .ixa un30 sz2 r a3 r C (idx_lt k C) r r (.ld1 (j:=0) ia2 J r r r r r (.build zv51 un51 BI51 (.c r r r (.t .nil) (.c r r r (.s (.t .nil)) .n)) (by exact ⟨⟨_,_,r,r,r⟩,⟨⟨_,_,r,r,r⟩,trivial⟩⟩) r r (.buildSlice 1 un52 sz51 zv51 r r (.c r r r .n) r r fun b5=>?_)))
   obtain ⟨L,hd⟩:=hd
   refine .append (ys:=[({ At:=B,Val:=D }:Item)]) 16 (.s .z) un52 un52 IN51 r r r r r r r r r (.box .z (.one r) r) L r r fun b6 b7=>?_
   exact .ks 1 r (.nilS [5,26,25,24,7] r r (.drop (.s .z) (.region (.ks 2 r (.nil' fun c w ho hs=>⟨((d++([({ At:=B,Val:=D }:Item)])),w64 (f+1)),hd,Z,_,_,a,ho.sub ⟨r,r,r,r,r,trivial⟩,hs.pick (.c .z .n)⟩)))))
 refine .exitS [5] r r (.sr (.ks 2 r (.nilS [4] r r (.pub .z fun b8 l a4=>?_))))
 have N:=IH.le.trans E l
 have b2:=IH.le.trans a l
 exact .ret (pret results175 (.t r .n) N ⟨d,_,_,r,a4,hd⟩)
theorem W_csr_built {I:IH} {a0:Int} {a1:Int} {a2:List Triple} {p1:Option Addr} {c2:Nat} {Q:Rows→Prop} (R3:RepSl eTriple I p1 c2 a2) (hd:csr_built a0 a1 a2 Q) :
  PFun prog 176 [.int .i64 a0,.int .i64 a1,.slice p1 a2.length c2] I (o6_ Q):=by
 refine Fun.enter func176 r ntmps176 r (.c (.c (.c .n))) fun w0 M=>?_
 refine .sr (.allocA zv32 r r fun T=>?_)
 refine .nilS [6,2,1,0] r r (.sr (.ks 2 r ?_))
 have c8:=W_csr_empty (I:=I) hd
 refine .callO call229 r c8 r r fun f6 c7 f7 Y c9=>?_
 obtain ⟨e,f8,f9,g0,g1,g2,g3,rfl,rfl,hd⟩:=c9
 replace R3:=R3.mono Y
 refine .allocA zv32 r r fun F=>?_
 refine .storeA sz32 r r .z (.t (.t (.t (.t (.t .nil))))) r r (.nilS [7,6,2,0] r r (.seq (.sr (.ks 1 r (.len un99 r r r r (.ks 1 r (.nilS [16,15,14,7,6,0] r r (.block (.loop hd (fun (s:(List Int)×(List Int)×(List Int)×Int) c w=>match s with | (q,a,b,L)=>∃ I_ N A f h i k,IH.le c7 I_∧Ok ⟨63,[],none⟩ [(0,.int .i64 a0),(6,.pointer (some ⟨T,0,none⟩)),(7,.pointer (some ⟨F,0,none⟩)),(14,.slice p1 a2.length c2),(15,.int .i64 (a2.length:Int)),(16,.int .i64 L)] c∧Sym w0 M I I_ [pto T (.cells #[.int .i64 0,.int .i64 0,.slice none 0 0,.slice none 0 0,.slice none 0 0] 32 (0,0)),pto F (.cells #[.int .i64 e.Rows,.int .i64 e.Cols,.slice N q.length A,.slice f a.length h,.slice i b.length k] 32 (0,0)),OwnSl eI64 3 N A q,OwnSl eI64 3 f h a,OwnSl eI64 2 i k b] w) (fun c w ho hs=>⟨c7,_,_,_,_,_,_,(.refl _),ho.sub ⟨r,r,r,r,r,r,trivial⟩,hs.pick (.c (.s (.s (.s (.s .z)))) (.c .z (.c .z (.c .z (.c .z .n)))))⟩) ?_)))))))))
 rintro ⟨q,a,b,L⟩ d5 hd c w hst
 obtain ⟨O,N,A,f,h,i,k,v,hok,hsym⟩:=hst
 have b0:=IH.le.trans Y v
 replace R3:=R3.mono v
 refine Cod.at hok hsym (.sr (.ks 1 r (.nilS [17,16,15,14,7,6,0] r r (.seq (.condP r hd (fun b1 hd=>?_) fun b1 hd=>?_)))))
 · refine .skipS [16,15,14,7,6,0] r r (.seq (.block (.sr ?_)))
   obtain ⟨Z,l,U,hd⟩:=hd
   obtain ⟨e3,o448,d9,d0,b2,b3⟩:=R3.2 _ _ U
   cases b3
   refine .ixa un99 sz101 r d0 r Z (idx_lt U Z) r r (.ldW isAgg101 sz101 b2 r r r r (.allocA zv101 r r fun e4=>?_))
   refine .storeA sz101 r r .z (.t (.t (.t .nil))) r r (.nilS [9,16,15,14,7,6,0] r r (.sr (.fa un32 r sz29 r (o:=2) r r r (.load1 ia29 r (.s (.s .z)) r r r (.fa un101 r sz3 r (o:=0) r r r (.load1 ia3 r .z r r r (.ks 1 r ?_)))))))
   obtain ⟨a3,G,H,hd⟩:=hd
   refine .ownNe (.s (.s (.s .z))) (idx_ne H) fun a4 d1=>?_
   cases d1
   refine .ixa0 un29 sz3 r r a3 (idx_lt H a3) r r (.lo1 (j:=0) ia3 (.s (.s (.s .z))) H r r r r r (.ks 1 r ?_))
   obtain ⟨a5,e5,V,hd⟩:=hd
   refine .ixa0 un29 sz3 r r a5 (idx_lt V a5) r r (.stO1 (j:=0) (v':=(w64 (G+1))) sz3 (.s (.s (.s .z))) V r r r (.t .nil) r (.sub (E':=[(0,_),(6,_),(7,_),(14,_),(15,_),(16,_),(9,_),(20,_),(21,.slice (some ⟨a4,0,none⟩) (q.set ((w64 (l.Row+1)).toNat) (w64 (G+1))).length A),(22,_),(23,_),(24,_),(25,_),(26,_),(27,_),(28,_)]) ⟨r,r,r,r,r,r,r,r,(by simp only [List.length_set]; rfl),r,r,r,r,r,r,r,trivial⟩ (.reat (.s (.s .z)) (B:=pto F (.cells #[.int .i64 e.Rows,.int .i64 e.Cols,.slice (some ⟨a4,0,none⟩) (q.set ((w64 (l.Row+1)).toNat) (w64 (G+1))).length A,.slice f a.length h,.slice i b.length k] 32 (0,0))) (by simp only [List.length_set]) (.nilS [9,16,15,14,7,6,0] r r (.sr (.fa un32 r sz29 r (o:=3) r r r (.load1 ia29 r (.s (.s .z)) r r r (.fa un101 r sz3 r (o:=1) r r r (.load1 ia3 r .z r r r ?_)))))))))
   refine .buildSlice 1 un29 sz3 zv3 r r (.c r r r .n) r r fun e6=>?_
   obtain ⟨b4,hd⟩:=hd
   refine .append (ys:=[l.Col]) 8 (.s (.s (.s (.s (.s .z))))) un29 un29 IN3 r r r r r r r r r (.box .z (.one r) r) b4 r r fun e7 e8=>?_
   refine .fa un32 r sz29 r (o:=3) r r r (.store1 sz29 r r (.s (.s (.s (.s .z)))) (.s (.s (.s (.t .nil)))) r (.nilS [9,16,15,14,7,6,0] r r (.drop (.s .z) (.region (.fa un32 r sz30 r (o:=4) r r r (.load1 ia30 r (.s (.s (.s .z))) r r r (.fa un101 r sz2 r (o:=2) r r r (.load1 ia2 r (.s .z) r r r (.buildSlice 1 un30 sz2 zv2 r r (.c r r r .n) r r fun e9=>?_)))))))))
   obtain ⟨b5,hd⟩:=hd
   refine .append (ys:=[l.Val]) 8 (.s (.s (.s (.s (.s (.s .z)))))) un30 un30 IN2 r r r r r r r r r (.box .z (.one r) r) b5 r r fun f0 f1=>?_
   exact .fa un32 r sz30 r (o:=4) r r r (.store1 sz30 r r (.s (.s (.s (.s (.s .z))))) (.s (.s (.s (.s (.t .nil))))) r (.nilS [16,15,14,7,6,0] r r (.drop (.s .z) (.drop (.s (.s .z)) (.region (.ks 2 r (.nil' fun c w ho hs=>⟨((q.set ((w64 (l.Row+1)).toNat) (w64 (G+1))),(a++([l.Col])),(b++([l.Val])),w64 (L+1)),hd,O,_,_,_,_,_,_,v,ho.sub ⟨r,r,r,r,r,r,trivial⟩,hs.pick (.c (.s (.s .z)) (.c (.s (.s .z)) (.c (.s (.s .z)) (.c (.s .z) (.c .z .n)))))⟩)))))))
 refine .exitS [7,6,0] r r (.seq (.sr (.ks 2 r (.nilS [45,44,7,6] r r (.block (.loop hd (fun (s:(List Int)×Int) c w=>match s with | (d,m)=>∃ I_ P u,IH.le O I_∧Ok ⟨63,[],none⟩ [(6,.pointer (some ⟨T,0,none⟩)),(7,.pointer (some ⟨F,0,none⟩)),(44,.int .i64 a0),(45,.int .i64 m)] c∧Sym w0 M I I_ [pto T (.cells #[.int .i64 0,.int .i64 0,.slice none 0 0,.slice none 0 0,.slice none 0 0] 32 (0,0)),pto F (.cells #[.int .i64 e.Rows,.int .i64 e.Cols,.slice P d.length u,.slice f a.length h,.slice i b.length k] 32 (0,0)),OwnSl eI64 3 P u d,OwnSl eI64 3 f h a,OwnSl eI64 2 i k b] w) (fun c w ho hs=>⟨O,_,_,(.refl _),ho.sub ⟨r,r,r,r,trivial⟩,hs.pick (.c .z (.c .z (.c .z (.c .z (.c .z .n)))))⟩) ?_))))))
 rintro ⟨d,m⟩ d6 hd c w hst
 obtain ⟨d2,P,u,x,hok,hsym⟩:=hst
 have b6:=IH.le.trans b0 x
 have b7:=IH.le.trans v x
 refine Cod.at hok hsym (.sr (.ks 1 r (.nilS [46,45,44,7,6] r r (.seq (.condP r hd (fun b8 hd=>?_) fun b8 hd=>?_)))))
 · refine .skipS [45,44,7,6] r r (.seq (.block (.sr (.ks 2 r (.nilS [10,45,44,7,6] r r (.ownF (.s (.s .z)) fun a6=>?_))))))
   refine .ownF (.s (.s (.s .z))) fun d7=>?_
   refine .ownF (.s (.s (.s (.s .z)))) fun d8=>?_
   refine .dr [0,1,2,3,4,5,6,7,8,9,10,11] 12 (.g r r r (fun _=>.fa un32 r sz29 r (o:=2) r r r .mk) (.g r r r (fun _=>.load1 ia29 r (.s .z) r r r .mk) (.fk 2 r ?_)))
   obtain ⟨a7,C,J,hd⟩:=hd
   obtain ⟨R,d3⟩:=a6 (idx_ne J)
   cases d3
   refine .g r r r (fun _=>.ixa0 un29 sz3 r r a7 (idx_lt J a7) r r .mk) (.g r r r (fun _=>.lo1 (j:=0) ia3 (.s (.s .z)) J r r r r r .mk) (.g r r r (fun _=>.fa un32 r sz29 r (o:=2) r r r .mk) (.g r r r (fun _=>.load1 ia29 r (.s .z) r r r .mk) (.fk 1 r ?_))))
   obtain ⟨a8,D,W,hd⟩:=hd
   refine .g r r r (fun _=>.ixa0 un29 sz3 r r a8 (idx_lt W a8) r r .mk) (.g r r r (fun _=>.lo1 (j:=0) ia3 (.s (.s .z)) W r r r r r .mk) (.fk 1 r (.e2 12 ?_)))
   obtain ⟨a9,f2,X,hd⟩:=hd
   exact .ixa0 un29 sz3 r r a9 (idx_lt X a9) r r (.stO1 (j:=0) (v':=(w64 (C+D))) sz3 (.s (.s .z)) X r r r (.t .nil) r (.sub (E':=[(6,_),(7,_),(44,_),(45,_),(10,_),(48,_),(49,.slice (some ⟨R,0,none⟩) (d.set ((w64 (m+1)).toNat) (w64 (C+D))).length u),(50,_),(51,_),(52,_),(53,_),(54,_),(55,.slice (some ⟨R,0,none⟩) (d.set ((w64 (m+1)).toNat) (w64 (C+D))).length u),(56,_),(57,_),(58,_),(59,_),(60,_)]) ⟨r,r,r,r,r,r,(by simp only [List.length_set]; rfl),r,r,r,r,r,(by simp only [List.length_set]; rfl),r,r,r,r,r,trivial⟩ (.reat (.s .z) (B:=pto F (.cells #[.int .i64 e.Rows,.int .i64 e.Cols,.slice (some ⟨R,0,none⟩) (d.set ((w64 (m+1)).toNat) (w64 (C+D))).length u,.slice f a.length h,.slice i b.length k] 32 (0,0))) (by simp only [List.length_set]) (.nilS [45,44,7,6] r r (.region (.ks 2 r (.nil' fun c w ho hs=>⟨((d.set ((w64 (m+1)).toNat) (w64 (C+D))),w64 (m+1)),hd,d2,_,_,x,ho.sub ⟨r,r,r,r,trivial⟩,hs.pick (.c .z (.c .z (.c .z (.c .z (.c .z .n)))))⟩)))))))
 refine .exitS [7,6] r r (.sr (.loadW ia32 sz32 r (.s .z) r r r (.storeA sz32 r r .z (.t (.t (.t (.t (.t .nil))))) r r (.nilS [6] r r (.drop (.s .z) (.pub (.s .z) fun f3 K E=>?_))))))
 have b9:=IH.le.trans b6 K
 have c0:=IH.le.trans b7 K
 have c1:=IH.le.trans x K
 refine .pub (.s .z) fun f4 y S=>?_
 have c3:=IH.le.trans b9 y
 have c4:=IH.le.trans c0 y
 have c5:=IH.le.trans c1 y
 replace E:=E.mono y
 refine .pub (.s .z) fun f5 p d4=>?_
 have c6:=IH.le.trans c3 p
 have e0:=IH.le.trans c4 p
 have e1:=IH.le.trans c5 p
 replace E:=E.mono p
 replace S:=S.mono p
 exact .ret (pret results176 (.w ia32 sz32 r .z r .n) c6 ⟨({ Rows:=e.Rows,Cols:=e.Cols,Start:=d,Col:=a,Val:=b }:Rows),_,_,_,_,_,_,r,E,S,d4,hd⟩)
theorem W_csr_Cut {I:IH} {a0:Rows} {a1:Int×Int} {a2:Int×Int} {p1:Option Addr} {c2:Nat} {p4:Option Addr} {c5:Nat} {p7:Option Addr} {c8:Nat} {Q:Rows→Prop} (R3:RepSl eI64 I p1 c2 a0.Start) (R6:RepSl eI64 I p4 c5 a0.Col) (R9:RepSl eI64 I p7 c8 a0.Val) (hd:csr_Cut a0 a1 a2 Q) :
  PFun prog 105 [.agg #[.int .i64 a0.Rows,.int .i64 a0.Cols,.slice p1 a0.Start.length c2,.slice p4 a0.Col.length c5,.slice p7 a0.Val.length c8],.agg #[.int .i64 a1.1,.int .i64 a1.2],.agg #[.int .i64 a2.1,.int .i64 a2.2]] I (o8_ Q):=by
 refine Fun.enter func105 r ntmps105 r (.c (.c (.c .n))) fun w0 M=>?_
 refine .sr (.boxA r r r fun y=>?_)
 refine .boxA r r r fun g1=>?_
 refine .boxA r r r fun g2=>?_
 refine .allocA zv32 r r fun A=>?_
 refine .nilS [6,5,4,3] r r (.sr (.loadW ia32 sz32 r (.s (.s (.s .z))) r r r ?_))
 have c7:=W_csr_sure (I:=I) R3 R6 R9 hd
 refine .call call173 r c7 r r fun g3 L B c9=>?_
 obtain ⟨a,T,U,V,W,X,Y,rfl,j,k,l,hd⟩:=c9
 replace R3:=R3.mono B
 replace R6:=R6.mono B
 replace R9:=R9.mono B
 refine .storeA sz32 r r (.s (.s (.s .z))) (.t (.t (.t (.t (.t .nil))))) r r (.nilS [6,5,4,3] r r (.sr (.loadW isAgg169 sz169 r (.s (.s .z)) r r r (.fa un32 r sz3 r (o:=0) r r r (.load1 ia3 r (.s (.s (.s .z))) r r r ?_)))))
 have d0:=W_csr_bounds (I:=L) hd
 refine .callP call174 r d0 r r fun g4 d1=>?_
 obtain ⟨m,rfl,hd⟩:=d1
 refine .ks 5 r (.nilS [8,7,6,5,3] r r (.drop (.s (.s .z)) (.sr (.loadW isAgg169 sz169 r (.s .z) r r r (.fa un32 r sz3 r (o:=1) r r r (.load1 ia3 r (.s (.s .z)) r r r ?_))))))
 have d2:=W_csr_bounds (I:=L) hd
 refine .callP call174 r d2 r r fun g5 d3=>?_
 obtain ⟨h,rfl,hd⟩:=d3
 refine .ks 5 r (.nilS [10,9,8,7,6,3] r r (.drop (.s .z) (.sr (.ks 1 r (.nilS [11,10,9,8,7,6,3] r r (.seq (.sr (.ks 2 r (.nilS [32,31,11,10,9,8,7,6,3] r r ?_)))))))))
 refine .block (.own0 eTriple 101 (.loop hd (fun (s:(List Triple)×Int) c w=>match s with | (G,b)=>∃ I_ H J,IH.le L I_∧Ok ⟨74,[],none⟩ [(3,.pointer (some ⟨y,0,none⟩)),(6,.pointer (some ⟨A,0,none⟩)),(7,.int .i64 m.1),(8,.int .i64 m.2),(9,.int .i64 h.1),(10,.int .i64 h.2),(11,.slice H G.length J),(31,.int .i64 m.2),(32,.int .i64 b)] c∧Sym w0 M I I_ [pto y (.cells #[.int .i64 a.Rows,.int .i64 a.Cols,.slice T a.Start.length U,.slice V a.Col.length W,.slice X a.Val.length Y] 32 (0,0)),pto A (.cells #[.int .i64 0,.int .i64 0,.slice none 0 0,.slice none 0 0,.slice none 0 0] 32 (0,0)),OwnSl eTriple 101 H J G] w) (fun c w ho hs=>⟨L,_,_,(.refl _),ho.sub ⟨r,r,r,r,r,r,r,r,r,trivial⟩,hs.pick (.c (.s (.s .z)) (.c (.s .z) (.c .z .n)))⟩) ?_))
 rintro ⟨G,b⟩ e1 hd c w hst
 obtain ⟨d4,H,J,g,hok,hsym⟩:=hst
 have N:=IH.le.trans B g
 replace j:=j.mono g
 replace k:=k.mono g
 replace l:=l.mono g
 refine Cod.at hok hsym (.sr (.ks 1 r (.nilS [33,32,31,11,10,9,8,7,6,3] r r (.seq (.condP r hd (fun a9 hd=>?_) fun a9 hd=>?_)))))
 · refine .skipS [32,31,11,10,9,8,7,6,3] r r (.seq (.block (.sr (.ks 2 r (.nilS [12,32,31,11,10,9,8,7,6,3] r r (.sr (.loadW ia32 sz32 r .z r r r (.ks 3 r ?_))))))))
   have b0:=W_csr_Row (I:=d4) j k l hd
   refine .call call175 r b0 r r fun e7 Z p b1=>?_
   obtain ⟨C,a3,a4,rfl,q,hd⟩:=b1
   have b2:=IH.le.trans N p
   have b3:=IH.le.trans g p
   replace j:=j.mono p
   replace k:=k.mono p
   replace l:=l.mono p
   refine .len un52 r r r r (.ks 1 r (.nilS [41,40,39,12,32,31,11,10,9,8,7,6,3] r r (.block (.loop hd (fun (s:(List Triple)×Int) c w=>match s with | (f,u)=>∃ I_ v x,IH.le Z I_∧Ok ⟨74,[],none⟩ [(3,.pointer (some ⟨y,0,none⟩)),(6,.pointer (some ⟨A,0,none⟩)),(7,.int .i64 m.1),(8,.int .i64 m.2),(9,.int .i64 h.1),(10,.int .i64 h.2),(11,.slice v f.length x),(12,.int .i64 b),(31,.int .i64 m.2),(32,.int .i64 b),(39,.slice a3 C.length a4),(40,.int .i64 (C.length:Int)),(41,.int .i64 u)] c∧Sym w0 M I I_ [pto y (.cells #[.int .i64 a.Rows,.int .i64 a.Cols,.slice T a.Start.length U,.slice V a.Col.length W,.slice X a.Val.length Y] 32 (0,0)),pto A (.cells #[.int .i64 0,.int .i64 0,.slice none 0 0,.slice none 0 0,.slice none 0 0] 32 (0,0)),OwnSl eTriple 101 v x f] w) (fun c w ho hs=>⟨Z,_,_,(.refl _),ho.sub ⟨r,r,r,r,r,r,r,r,r,r,r,r,r,trivial⟩,hs.pick (.c .z (.c .z (.c .z .n)))⟩) ?_))))
   rintro ⟨f,u⟩ e2 hd c w hst
   obtain ⟨D,v,x,d,hok,hsym⟩:=hst
   have b4:=IH.le.trans b2 d
   have O:=IH.le.trans b3 d
   replace j:=j.mono d
   replace k:=k.mono d
   replace l:=l.mono d
   replace q:=q.mono d
   refine Cod.at hok hsym (.sr (.ks 1 r (.nilS [42,41,40,39,32,31,12,11,10,9,8,7,6,3] r r (.seq (.condP r hd (fun b5 hd=>?_) fun b5 hd=>?_)))))
   · refine .skipS [41,40,39,32,31,12,11,10,9,8,7,6,3] r r (.seq (.block (.sr ?_)))
     obtain ⟨a5,i,P,hd⟩:=hd
     obtain ⟨e8,o598,e3,d5,b6,b7⟩:=q.2 _ _ P
     cases b7
     refine .ixa un52 sz51 r d5 r a5 (idx_lt P a5) r r (.ldW isAgg51 sz51 b6 r r r r (.allocA zv51 r r fun a6=>?_))
     refine .storeA sz51 r r .z (.t (.t .nil)) r r (.nilS [14,41,40,39,32,31,12,11,10,9,8,7,6,3] r r (.seq ?_))
     refine Cod.joinQ (σ:=Bool) hd (fun (a7:Bool) c w=>∃ I_,IH.le D I_∧Ok ⟨74,[],none⟩ [(3,.pointer (some ⟨y,0,none⟩)),(6,.pointer (some ⟨A,0,none⟩)),(7,.int .i64 m.1),(8,.int .i64 m.2),(9,.int .i64 h.1),(10,.int .i64 h.2),(11,.slice v f.length x),(12,.int .i64 b),(14,.pointer (some ⟨a6,0,none⟩)),(31,.int .i64 m.2),(32,.int .i64 b),(39,.slice a3 C.length a4),(40,.int .i64 (C.length:Int)),(41,.int .i64 u),(56,.bool a7)] c∧Sym w0 M I I_ [pto y (.cells #[.int .i64 a.Rows,.int .i64 a.Cols,.slice T a.Start.length U,.slice V a.Col.length W,.slice X a.Val.length Y] 32 (0,0)),pto A (.cells #[.int .i64 0,.int .i64 0,.slice none 0 0,.slice none 0 0,.slice none 0 0] 32 (0,0)),OwnSl eTriple 101 v x f,pto a6 (.cells #[.int .i64 i.At,.int .i64 i.Val] 51 (0,0))] w) (fun e9 hd=>?_) ?_
     · skip
       refine .region (.fa un51 r sz3 r (o:=0) r r r (.load1 ia3 r .z r r r (.ks 3 r ?_)))
       refine splitP hd (fun E hd=>?_) fun E hd=>?_
       · rw [E]
         exact .gyes r r r (.fa un51 r sz3 r (o:=0) r r r (.gyes r r r (.load1 ia3 r .z r r r (.ks 5 r (.nil' fun c w ho hs=>⟨(decide ((w64 (i.At - h.1))<h.2)),hd,D,(.refl _),ho.sub ⟨r,r,r,r,r,r,r,r,r,r,r,r,r,r,r,trivial⟩,hs.pick (.c (.s .z) (.c (.s .z) (.c (.s .z) (.c .z .n))))⟩)))))
       rw [E]
       exact .ks 7 r (.nil' fun c w ho hs=>⟨false,hd,D,(.refl _),ho.sub ⟨r,r,r,r,r,r,r,r,r,r,r,r,r,r,r,trivial⟩,hs.pick (.c (.s .z) (.c (.s .z) (.c (.s .z) (.c .z .n))))⟩)
     rintro a7 hd c w hst
     obtain ⟨a8,e,hok,hsym⟩:=hst
     have e4:=IH.le.trans b4 e
     have e5:=IH.le.trans O e
     have R:=IH.le.trans d e
     replace j:=j.mono e
     replace k:=k.mono e
     replace l:=l.mono e
     replace q:=q.mono e
     refine Cod.at hok hsym (.condP r hd (fun b8 hd=>?_) fun b8 hd=>?_)
     · refine .region (.ks 2 r (.fa un51 r sz3 r (o:=0) r r r (.load1 ia3 r (.s (.s (.s .z))) r r r (.ks 2 r (.fa un51 r sz2 r (o:=1) r r r (.load1 ia2 r (.s (.s (.s .z))) r r r (.build zv101 un101 BI101 (.c r r r (.t .nil) (.c r r r (.s (.t .nil)) (.c r r r (.s (.s (.t .nil))) .n))) (by exact ⟨⟨_,_,r,r,r⟩,⟨⟨_,_,r,r,r⟩,⟨⟨_,_,r,r,r⟩,trivial⟩⟩⟩) r r (.buildSlice 1 un99 sz101 zv101 r r (.c r r r .n) r r fun f0=>?_))))))))
       obtain ⟨b9,hd⟩:=hd
       refine .append (ys:=[({ Row:=b,Col:=w64 (i.At - h.1),Val:=i.Val }:Triple)]) 24 (.s (.s (.s .z))) un99 un99 IN101 r r r r r r r r r (.box .z (.one r) r) b9 r r fun f1 f2=>?_
       exact .ks 1 r (.nilS [11,41,40,39,32,31,12,10,9,8,7,6,3] r r (.drop (.s .z) (.drop (.s (.s (.s .z))) (.region (.ks 2 r (.nil' fun c w ho hs=>⟨((f++([({ Row:=b,Col:=w64 (i.At - h.1),Val:=i.Val }:Triple)])),w64 (u+1)),hd,a8,_,_,R,ho.sub ⟨r,r,r,r,r,r,r,r,r,r,r,r,r,trivial⟩,hs.pick (.c (.s .z) (.c (.s .z) (.c .z .n)))⟩))))))
     exact .skipS [41,40,39,32,31,12,11,10,9,8,7,6,3] r r (.drop (.s (.s (.s .z))) (.region (.ks 2 r (.nil' fun c w ho hs=>⟨(f,w64 (u+1)),hd,a8,_,_,R,ho.sub ⟨r,r,r,r,r,r,r,r,r,r,r,r,r,trivial⟩,hs.pick (.c .z (.c .z (.c .z .n)))⟩))))
   exact .exitS [32,31,11,10,9,8,7,6,3] r r (.region (.ks 2 r (.nil' fun c w ho hs=>⟨(f,w64 (b+1)),hd,D,_,_,O,ho.sub ⟨r,r,r,r,r,r,r,r,r,trivial⟩,hs.pick (.c .z (.c .z (.c .z .n)))⟩)))
 refine .exitS [11,10,8,6] r r (.drop .z (.sr (.ks 3 r (.pub (.s .z) fun d6 S K=>?_))))
 have c0:=IH.le.trans N S
 have c1:=IH.le.trans g S
 have c3:=W_csr_built (I:=d6) K hd
 refine .call call176 r c3 r r fun f3 f4 F c4=>?_
 obtain ⟨d7,f5,f6,f7,f8,f9,g0,rfl,d8,d9,e0,hd⟩:=c4
 have c6:=IH.le.trans c0 F
 have e6:=IH.le.trans c1 F
 replace K:=K.mono F
 exact .storeA sz32 r r .z (.t (.t (.t (.t (.t .nil))))) r r (.nilS [6] r r (.ret (pret results105 (.w ia32 sz32 r .z r .n) c6 ⟨d7,_,_,_,_,_,_,r,d8,d9,e0,hd⟩)))
theorem W_ring_Is {I:IH} {a0:Int} {Q:Bool→Prop}  (hd:ring_Is a0 Q) :
  PFun prog 102 [.int .i64 a0] I (fun _=>o4_ Q):=by
 refine Fun.enter func102 r ntmps102 r (.c .n) fun w0 M=>?_
 refine .sr (.ks 1 r (.nilS [0] r r (.sr (.ks 3 r ?_))))
 refine splitP hd (fun a hd=>?_) fun a hd=>?_
 · rw [a]
   exact .ks 4 r (.nilS [2] r r (.ret (pret results102 (.t r .n) (.refl _) ⟨(decide (a0<6)),r,hd⟩)))
 rw [a]
 exact .ks 4 r (.nilS [2] r r (.ret (pret results102 (.t r .n) (.refl _) ⟨false,r,hd⟩)))
theorem W_wide_Of {I:IH} {a0:Int} {Q:Wide→Prop}  (hd:wide_Of a0 Q) :
  PFun prog 149 [.int .i64 a0] I (fun _=>o2_ Q):=by
 refine Fun.enter func149 r ntmps149 r (.c .n) fun w0 M=>?_
 refine .sr (.allocA zv127 r r fun a=>?_)
 exact .nilS [2,0] r r (.sr (.ks 1 r (.shr' r r (by decide) r r (.ks 1 r (.conv un2 un125 r r r (.build zv127 un127 BI127 (.c r r r (.t .nil) (.c r r r (.s (.t .nil)) .n)) (by exact ⟨⟨_,_,r,r,r⟩,⟨⟨_,_,r,r,r⟩,trivial⟩⟩) r r (.storeA sz127 r r .z (.t (.t .nil)) r r (.nilS [2] r r (.ret (pret results149 (.w ia127 sz127 r .z r .n) (.refl _) ⟨({ Hi:=shr .i64 a0 63,Lo:=IntKind.wrap .u64 (a0) }:Wide),r,hd⟩))))))))))
theorem W_ring_truth {I:IH} {a0:Bool} {Q:Wide→Prop}  (hd:ring_truth a0 Q) :
  PFun prog 207 [.bool a0] I (fun _=>o2_ Q):=by
 refine Fun.enter func207 r ntmps207 r (.c .n) fun w0 M=>?_
 refine .sr (.allocA zv127 r r fun f=>?_)
 refine .nilS [2,0] r r (.seq (.sr (.ks 1 r (.nilS [3,2] r r (.condP r hd (fun a hd=>?_) fun a hd=>?_)))))
 · refine .sr ?_
   have b:=W_wide_Of (I:=I) hd
   refine .callP call149 r b r r fun g d=>?_
   obtain ⟨e,rfl,hd⟩:=d
   exact .storeA sz127 r r .z (.t (.t .nil)) r r (.nilS [2] r r (.ret (pret results207 (.w ia127 sz127 r .z r .n) (.refl _) ⟨e,r,hd⟩)))
 exact .skipS [2] r r (.sr (.build zv127 un127 BI127 .n (by exact trivial) r r (.storeA sz127 r r .z (.t (.t .nil)) r r (.nilS [2] r r (.ret (pret results207 (.w ia127 sz127 r .z r .n) (.refl _) ⟨({ Hi:=0,Lo:=0 }:Wide),r,hd⟩))))))
theorem W_wide_halves {I:IH} {a0:Int} {Q:(Int×Int)→Prop}  (hd:wide_halves a0 Q) :
  PFun prog 262 [.int .u64 a0] I (fun I_ v=>∃ r,v=.agg #[.int .u64 r.1,.int .u64 r.2]∧Q r):=by
 refine Fun.enter func262 r ntmps262 r (.c .n) fun w0 M=>?_
 refine .sr (.allocA zv268 r r fun a=>?_)
 refine .nilS [2,0] r r (.sr (.ks 1 r (.shl' r r (by decide) r r (.shr' r r (by decide) r r (.ks 1 r (.shr' r r (by decide) r r (.buildArr zv268 un268 sz125 (.c r r r (.t .nil) (.c r r r (.s (.t .nil)) .n)) r r (.storeA sizeOf268 r r .z (.t (.t .nil)) r r (.nilS [2] r r ?_)))))))))
 exact .ret (pret results262 (.w isAgg268 sizeOf268 r .z r .n) (.refl _) ⟨(shr .u64 (shl .u64 a0 32) 32,shr .u64 a0 32),r,hd⟩)
theorem W_wide_product {I:IH} {a0:Int} {a1:Int} {Q:Wide→Prop}  (hd:wide_product a0 a1 Q) :
  PFun prog 246 [.int .u64 a0,.int .u64 a1] I (fun _=>o2_ Q):=by
 refine Fun.enter func246 r ntmps246 r (.c (.c .n)) fun w0 M=>?_
 refine .sr (.allocA zv127 r r fun S=>?_)
 refine .nilS [4,1,0] r r (.sr (.ks 1 r ?_))
 have e:=W_wide_halves (I:=I) hd
 refine .callP call262 r e r r fun D f=>?_
 obtain ⟨y,rfl,hd⟩:=f
 refine .ks 1 r ?_
 have h:=W_wide_halves (I:=I) hd
 refine .callP call262 r h r r fun E j=>?_
 obtain ⟨A,rfl,hd⟩:=j
 refine .allocA zv268 r r fun F=>?_
 refine .allocA zv268 r r fun G=>?_
 refine .storeA sizeOf268 r r (.s .z) (.t (.t .nil)) r r (.storeA sizeOf268 r r .z (.t (.t .nil)) r r (.nilS [6,5,4] r r (.sr (.ixArr (i:=0) un268 sz125 r r (by decide) (o:=0) r r r (.load1 ia125 r (.s .z) r r r (.ixArr (i:=0) un268 sz125 r r (by decide) (o:=0) r r r (.load1 ia125 r .z r r r (.ks 2 r (.nilS [7,6,5,4] r r ?_)))))))))
 refine .seq (.dr [0,1,2,3,4,5,10,6,7,8,9,999] 11 (.g r r r (fun _=>.ixArr (i:=1) un268 sz125 r r (by decide) (o:=1) r r r .mk) (.g r r r (fun _=>.load1 ia125 r (.s .z) r r r .mk) (.g r r r (fun _=>.ixArr (i:=0) un268 sz125 r r (by decide) (o:=0) r r r .mk) (.g r r r (fun _=>.load1 ia125 r .z r r r .mk) (.fk 2 r (.a (fun b=>.pointer (some ⟨b,0,none⟩)) (fun b=>pto b (.cells #[.int .u64 0,.int .u64 0] 268 (0,0))) r r r r (fun _ L hL ex=>.allocA zv268 r r fun b=>.mk (val:=fun b=>.pointer (some ⟨b,0,none⟩)) (atom:=fun b=>pto b (.cells #[.int .u64 0,.int .u64 0] 268 (0,0))) hL b) (.ww r fun ex=>?_))))))))
 have k:=W_wide_halves (I:=I) hd
 refine .callP call262 r k r r fun H l=>?_
 obtain ⟨J,rfl,hd⟩:=l
 refine .so 3 r r r (.ck 1 r r (.cg r r r r (fun _=>.load1 ia125 r .z r r r .mk) (.cg r r r r (fun _=>.ixArr (i:=0) un268 sz125 r r (by decide) (o:=0) r r r .mk) (.cg r r r r (fun _=>.load1 ia125 r (.s .z) r r r .mk) (.cg r r r r (fun _=>.ixArr (i:=1) un268 sz125 r r (by decide) (o:=1) r r r .mk) trivial))))) (.g r r r (fun _=>.index1 (i:=1) un268 sz125 ia125 r r (by decide) r r r .mk) (.fk 1 r (.ww r fun ex=>?_)))
 have m:=W_wide_halves (I:=I) hd
 refine .callP call262 r m r r fun K p=>?_
 obtain ⟨B,rfl,hd⟩:=p
 refine .so 3 r r r trivial (.b r fun N=>DrawD.nop (.e2 11 (.storeA sizeOf268 r r (.s (.s (.s .z))) (.t (.t .nil)) r r (.nilS [8,7,6,5,4] r r (.sr (.ixArr (i:=0) un268 sz125 r r (by decide) (o:=0) r r r (.load1 ia125 r (.s .z) r r r (.ixArr (i:=1) un268 sz125 r r (by decide) (o:=1) r r r (.load1 ia125 r .z r r r ?_)))))))))
 refine .ks 1 r (.ixArr (i:=0) un268 sz125 r r (by decide) (o:=0) r r r (.load1 ia125 r (.s (.s (.s .z))) r r r (.ks 1 r ?_)))
 have q:=W_wide_halves (I:=I) hd
 refine .callP call262 r q r r fun O u=>?_
 obtain ⟨d,rfl,hd⟩:=u
 refine .allocA zv268 r r fun P=>?_
 refine .storeA sizeOf268 r r .z (.t (.t .nil)) r r (.nilS [9,8,7,6,5,4] r r (.seq (.dr [0,1,2,3,4,5,6,7,8,9,10,11,12,13,14,15,16,17,18,19] 20 (.g r r r (fun _=>.ixArr (i:=1) un268 sz125 r r (by decide) (o:=1) r r r .mk) (.g r r r (fun _=>.load1 ia125 r (.s (.s .z)) r r r .mk) (.g r r r (fun _=>.ixArr (i:=1) un268 sz125 r r (by decide) (o:=1) r r r .mk) (.g r r r (fun _=>.load1 ia125 r (.s .z) r r r .mk) (.fk 1 r (.g r r r (fun _=>.ixArr (i:=1) un268 sz125 r r (by decide) (o:=1) r r r .mk) ?_)))))))))
 refine .g r r r (fun _=>.load1 ia125 r (.s (.s (.s (.s .z)))) r r r .mk) (.fk 1 r (.g r r r (fun _=>.ixArr (i:=1) un268 sz125 r r (by decide) (o:=1) r r r .mk) (.g r r r (fun _=>.load1 ia125 r .z r r r .mk) (.fk 1 r (.g r r r (fun _=>.conv un125 un2 r r r .mk) (.g r r r (fun _=>.ixArr (i:=0) un268 sz125 r r (by decide) (o:=0) r r r .mk) (.g r r r (fun _=>.load1 ia125 r .z r r r .mk) (.g r r r (fun _=>.shl' r r (by decide) r r .mk) (.fk 1 r ?_)))))))))
 refine .ww r fun ex=>?_
 have v:=W_wide_halves (I:=I) hd
 refine .callP call262 r v r r fun R x=>?_
 obtain ⟨C,rfl,hd⟩:=x
 refine .so 5 r r r (.cg r r r r (fun _=>.shl' r r (by decide) r r .mk) (.cg r r r r (fun _=>.load1 ia125 r .z r r r .mk) (.cg r r r r (fun _=>.ixArr (i:=0) un268 sz125 r r (by decide) (o:=0) r r r .mk) (.cg r r r r (fun _=>.conv un125 un2 r r r .mk) (.ck 1 r r (.cg r r r r (fun _=>.load1 ia125 r .z r r r .mk) (.cg r r r r (fun _=>.ixArr (i:=1) un268 sz125 r r (by decide) (o:=1) r r r .mk) (.ck 1 r r (.cg r r r r (fun _=>.load1 ia125 r (.s (.s (.s (.s .z)))) r r r .mk) (.cg r r r r (fun _=>.ixArr (i:=1) un268 sz125 r r (by decide) (o:=1) r r r .mk) (.ck 1 r r (.cg r r r r (fun _=>.load1 ia125 r (.s .z) r r r .mk) (.cg r r r r (fun _=>.ixArr (i:=1) un268 sz125 r r (by decide) (o:=1) r r r .mk) (.cg r r r r (fun _=>.load1 ia125 r (.s (.s .z)) r r r .mk) (.cg r r r r (fun _=>.ixArr (i:=1) un268 sz125 r r (by decide) (o:=1) r r r .mk) trivial))))))))))))))) (.g r r r (fun _=>.index1 (i:=0) un268 sz125 ia125 r r (by decide) r r r .mk) (.fk 1 r (.g r r r (fun _=>.build zv127 un127 BI127 (.c r r r (.t .nil) (.c r r r (.s (.t .nil)) .n)) (by exact ⟨⟨_,_,r,r,r⟩,⟨⟨_,_,r,r,r⟩,trivial⟩⟩) r r .mk) (.e2 20 (.storeA sz127 r r (.s (.s (.s .z))) (.t (.t .nil)) r r (.nilS [4] r r (.drop .z (.drop .z (.drop .z ?_)))))))))
 exact .drop (.s .z) (.ret (pret results246 (.w ia127 sz127 r .z r .n) (.refl _) ⟨({ Hi:=w64 (IntKind.wrap .u64 ((IntKind.wrap .u64 ((IntKind.wrap .u64 (y.2*A.2))+B.2))+d.2)),Lo:=bor .u64 (shl .u64 d.1 32) C.1 }:Wide),r,hd⟩))
theorem W_wide_size {I:IH} {a0:Int} {Q:Int→Prop}  (hd:wide_size a0 Q) :
  PFun prog 247 [.int .i64 a0] I (fun _=>o11_ Q):=by
 refine Fun.enter func247 r ntmps247 r (.c .n) fun w0 M=>?_
 refine .sr (.ks 1 r (.nilS [0] r r (.seq (.sr (.ks 2 r (.nilS [4,0] r r (.condP r hd (fun a hd=>?_) fun a hd=>?_)))))))
 · exact .sr (.ks 1 r (.conv un2 un125 r r r (.neg r r r (.ks 1 r (.nilS [2] r r (.ret (pret results247 (.t r .n) (.refl _) ⟨(IntKind.wrap .u64 (0 - (IntKind.wrap .u64 (a0)))),r,hd⟩)))))))
 exact .skipS [0] r r (.sr (.ks 1 r (.conv un2 un125 r r r (.ks 1 r (.nilS [2] r r (.ret (pret results247 (.t r .n) (.refl _) ⟨(IntKind.wrap .u64 (a0)),r,hd⟩)))))))
theorem W_wide_carry {I:IH} {a0:Bool} {Q:Int→Prop}  (hd:wide_carry a0 Q) :
  PFun prog 250 [.bool a0] I (fun _=>o11_ Q):=by
 refine Fun.enter func250 r ntmps250 r (.c .n) fun w0 M=>?_
 refine .sr (.ks 1 r (.nilS [0] r r (.seq (.sr (.ks 1 r (.nilS [3] r r (.condP r hd (fun a hd=>?_) fun a hd=>?_)))))))
 · exact .sr (.ks 1 r (.nilS [2] r r (.ret (pret results250 (.t r .n) (.refl _) ⟨1,r,hd⟩))))
 exact .skipS [] r r (.sr (.ks 1 r (.nilS [2] r r (.ret (pret results250 (.t r .n) (.refl _) ⟨0,r,hd⟩)))))
theorem W_wide_Sub {I:IH} {a0:Wide} {a1:Wide} {Q:Wide→Prop}  (hd:wide_Sub a0 a1 Q) :
  PFun prog 248 [.agg (encWide a0).toArray,.agg (encWide a1).toArray] I (fun _=>o2_ Q):=by
 refine Fun.enter func248 r ntmps248 r (.c (.c .n)) fun w0 M=>?_
 refine .sr (.boxA r r r fun h=>?_)
 refine .boxA r r r fun i=>?_
 refine .allocA zv127 r r fun e=>?_
 refine .nilS [4,3,2] r r (.seq (.dr [0,1,2,3,4,5,6,7,8,9,10,11,15,16,17,18,19,12,13,14,20] 21 (.g r r r (fun _=>.fa un127 r sz2 r (o:=0) r r r .mk) (.g r r r (fun _=>.load1 ia2 r (.s (.s .z)) r r r .mk) (.g r r r (fun _=>.conv un2 un125 r r r .mk) (.g r r r (fun _=>.fa un127 r sz2 r (o:=0) r r r .mk) (.g r r r (fun _=>.load1 ia2 r (.s .z) r r r .mk) (.g r r r (fun _=>.conv un2 un125 r r r .mk) (.fk 1 r ?_)))))))))
 refine .g r r r (fun _=>.fa un127 r sz125 r (o:=1) r r r .mk) (.g r r r (fun _=>.load1 ia125 r (.s (.s .z)) r r r .mk) (.g r r r (fun _=>.fa un127 r sz125 r (o:=1) r r r .mk) (.g r r r (fun _=>.load1 ia125 r (.s .z) r r r .mk) (.fk 1 r (.g r r r (fun _=>.fa un127 r sz125 r (o:=1) r r r .mk) (.g r r r (fun _=>.load1 ia125 r (.s (.s .z)) r r r .mk) (.g r r r (fun _=>.fa un127 r sz125 r (o:=1) r r r .mk) (.g r r r (fun _=>.load1 ia125 r (.s .z) r r r .mk) (.fk 1 r ?_)))))))))
 refine .ww r fun ex=>?_
 have a:=W_wide_carry (I:=I) hd
 refine .callP call250 r a r r fun f b=>?_
 obtain ⟨d,rfl,hd⟩:=b
 exact .so 3 r r r (.ck 1 r r (.cg r r r r (fun _=>.load1 ia125 r (.s .z) r r r .mk) (.cg r r r r (fun _=>.fa un127 r sz125 r (o:=1) r r r .mk) (.cg r r r r (fun _=>.load1 ia125 r (.s (.s .z)) r r r .mk) (.cg r r r r (fun _=>.fa un127 r sz125 r (o:=1) r r r .mk) (.ck 1 r r (.cg r r r r (fun _=>.conv un2 un125 r r r .mk) (.cg r r r r (fun _=>.load1 ia2 r (.s .z) r r r .mk) (.cg r r r r (fun _=>.fa un127 r sz2 r (o:=0) r r r .mk) (.cg r r r r (fun _=>.conv un2 un125 r r r .mk) (.cg r r r r (fun _=>.load1 ia2 r (.s (.s .z)) r r r .mk) (.cg r r r r (fun _=>.fa un127 r sz2 r (o:=0) r r r .mk) trivial)))))))))))) (.fk 1 r (.g r r r (fun _=>.conv un125 un2 r r r .mk) (.g r r r (fun _=>.build zv127 un127 BI127 (.c r r r (.t .nil) (.c r r r (.s (.t .nil)) .n)) (by exact ⟨⟨_,_,r,r,r⟩,⟨⟨_,_,r,r,r⟩,trivial⟩⟩) r r .mk) (.e2 21 (.storeA sz127 r r .z (.t (.t .nil)) r r (.nilS [4] r r (.drop (.s .z) (.drop (.s .z) (.ret (pret results248 (.w ia127 sz127 r .z r .n) (.refl _) ⟨({ Hi:=w64 (IntKind.wrap .u64 ((IntKind.wrap .u64 ((IntKind.wrap .u64 (a0.Hi)) - (IntKind.wrap .u64 (a1.Hi)))) - d)),Lo:=IntKind.wrap .u64 (a0.Lo - a1.Lo) }:Wide),r,hd⟩))))))))))
theorem W_wide_Mul {I:IH} {a0:Int} {a1:Int} {Q:Wide→Prop}  (hd:wide_Mul a0 a1 Q) :
  PFun prog 208 [.int .i64 a0,.int .i64 a1] I (fun _=>o2_ Q):=by
 refine Fun.enter func208 r ntmps208 r (.c (.c .n)) fun w0 M=>?_
 refine .sr (.allocA zv127 r r fun y=>?_)
 refine .nilS [4,1,0] r r (.sr (.ks 1 r ?_))
 have a:=W_wide_size (I:=I) hd
 refine .callP call247 r a r r fun m b=>?_
 obtain ⟨o,rfl,hd⟩:=b
 refine .ks 1 r ?_
 have d:=W_wide_size (I:=I) hd
 refine .callP call247 r d r r fun p e=>?_
 obtain ⟨q,rfl,hd⟩:=e
 have f:=W_wide_product (I:=I) hd
 refine .callP call246 r f r r fun u g=>?_
 obtain ⟨k,rfl,hd⟩:=g
 refine .allocA zv127 r r fun v=>?_
 refine .storeA sz127 r r .z (.t (.t .nil)) r r (.nilS [5,4,1,0] r r (.seq (.sr (.ks 4 r (.neB underlying4 r r r r (.nilS [15,5,4] r r (.condP r hd (fun h hd=>?_) fun h hd=>?_)))))))
 · refine .sr (.build zv127 un127 BI127 .n (by exact trivial) r r (.loadW ia127 sz127 r .z r r r ?_))
   have i:=W_wide_Sub (I:=I) hd
   refine .callP call248 r i r r fun x j=>?_
   obtain ⟨l,rfl,hd⟩:=j
   exact .storeA sz127 r r (.s .z) (.t (.t .nil)) r r (.nilS [4] r r (.drop .z (.ret (pret results208 (.w ia127 sz127 r .z r .n) (.refl _) ⟨l,r,hd⟩))))
 exact .skipS [5,4] r r (.sr (.loadW ia127 sz127 r .z r r r (.storeA sz127 r r (.s .z) (.t (.t .nil)) r r (.nilS [4] r r (.drop .z (.ret (pret results208 (.w ia127 sz127 r .z r .n) (.refl _) ⟨k,r,hd⟩)))))))
theorem W_cmp_Or_int {I:IH} {a0:List Int} {p1:Option Addr} {c2:Nat} {Q:Int→Prop} (R3:RepSl eI64 I p1 c2 a0) (hd:cmp_Or_int a0 Q) :
  PFun prog 231 [.slice p1 a0.length c2] I (fun _=>o0_ Q):=by
 refine Fun.enter func231 r ntmps231 r (.c .n) fun w0 M=>?_
 refine .sr (.ks 1 r (.nilS [0] r r (.sr (.ks 1 r (.nilS [3,0] r r (.seq (.sr (.ks 1 r (.len un29 r r r r ?_)))))))))
 refine .ks 1 r (.nilS [8,7,6,3] r r (.block (.loop hd (fun (b:Int) c w=>∃ I_,IH.le I I_∧Ok ⟨18,[],none⟩ [(3,.int .i64 0),(6,.slice p1 a0.length c2),(7,.int .i64 (a0.length:Int)),(8,.int .i64 b)] c∧Sym w0 M I I_ [] w) (fun c w ho hs=>⟨I,(.refl _),ho.sub ⟨r,r,r,r,trivial⟩,hs.pick .n⟩) ?_)))
 rintro b k hd c w hst
 obtain ⟨l,a,hok,hsym⟩:=hst
 replace R3:=R3.mono a
 refine Cod.at hok hsym (.sr (.ks 1 r (.nilS [9,8,7,6,3] r r (.seq (.condP r hd (fun f hd=>?_) fun f hd=>?_)))))
 · refine .skipS [8,7,6,3] r r (.seq (.block (.sr ?_)))
   obtain ⟨e,m,d,hd⟩:=hd
   obtain ⟨q,o41,p,o,g,h⟩:=R3.2 _ _ d
   cases h
   refine .ixa un29 sz3 r o r e (idx_lt d e) r r (.ld1 (j:=0) ia3 g r r r r r (.ks 1 r (.nilS [5,8,7,6,3] r r (.sr (.ks 3 r (.nilS [14,5,8,7,6,3] r r (.condP r hd (fun i hd=>?_) fun i hd=>?_)))))))
   · exact .sr (.ks 2 r (.nilS [2] r r (.ret (pret results231 (.t r .n) a ⟨m,r,hd⟩))))
   exact .skipS [8,7,6,3] r r (.region (.ks 2 r (.nil' fun c w ho hs=>⟨(w64 (b+1)),hd,l,a,ho.sub ⟨r,r,r,r,trivial⟩,hs.pick .n⟩)))
 exact .exitS [3] r r (.sr (.ks 2 r (.nilS [2] r r (.ret (pret results231 (.t r .n) a ⟨0,r,hd⟩)))))
theorem W_cmp_isNaN_int64 {I:IH} {a0:Int} {Q:Bool→Prop}  (hd:cmp_isNaN_int64 a0 Q) :
  PFun prog 283 [.int .i64 a0] I (fun _=>o4_ Q):=by
 refine Fun.enter func283 r ntmps283 r (.c .n) fun w0 M=>?_
 exact .sr (.ks 1 r (.nilS [0] r r (.sr (.ks 4 r (.nilS [2] r r (.ret (pret results283 (.t r .n) (.refl _) ⟨(a0 != a0),r,hd⟩)))))))
theorem W_cmp_Compare_int64 {I:IH} {a0:Int} {a1:Int} {Q:Int→Prop}  (hd:cmp_Compare_int64 a0 a1 Q) :
  PFun prog 260 [.int .i64 a0,.int .i64 a1] I (fun _=>o0_ Q):=by
 refine Fun.enter func260 r ntmps260 r (.c (.c .n)) fun w0 M=>?_
 refine .sr (.ks 1 r (.nilS [1,0] r r (.sr (.ks 1 r ?_))))
 have i:=W_cmp_isNaN_int64 (I:=I) hd
 refine .callP call283 r i r r fun m j=>?_
 obtain ⟨o,rfl,hd⟩:=j
 refine .ks 1 r (.nilS [5,1,0] r r (.sr (.ks 1 r ?_)))
 have a:=W_cmp_isNaN_int64 (I:=I) hd
 refine .callP call283 r a r r fun k b=>?_
 obtain ⟨l,rfl,hd⟩:=b
 refine .ks 1 r (.nilS [6,5,1,0] r r (.seq (.sr (.ks 1 r (.nilS [11,6,1,0] r r (.condP r hd (fun d hd=>?_) fun d hd=>?_))))))
 · refine .seq (.sr (.ks 1 r (.nilS [12] r r (.condP r hd (fun e hd=>?_) fun e hd=>?_))))
   · exact .sr (.ks 1 r (.nilS [4] r r (.ret (pret results260 (.t r .n) (.refl _) ⟨0,r,hd⟩))))
   exact .skipS [] r r (.sr (.ks 1 r (.nilS [4] r r (.ret (pret results260 (.t r .n) (.refl _) ⟨(-1),r,hd⟩)))))
 refine .skipS [6,1,0] r r (.seq (.sr (.ks 1 r (.nilS [13,1,0] r r (.condP r hd (fun f hd=>?_) fun f hd=>?_)))))
 · exact .sr (.ks 1 r (.nilS [4] r r (.ret (pret results260 (.t r .n) (.refl _) ⟨1,r,hd⟩))))
 refine .skipS [1,0] r r (.seq (.sr (.ks 3 r (.nilS [16,1,0] r r (.condP r hd (fun g hd=>?_) fun g hd=>?_)))))
 · exact .sr (.ks 1 r (.nilS [4] r r (.ret (pret results260 (.t r .n) (.refl _) ⟨(-1),r,hd⟩))))
 refine .skipS [1,0] r r (.seq (.sr (.ks 3 r (.nilS [19] r r (.condP r hd (fun h hd=>?_) fun h hd=>?_)))))
 · exact .sr (.ks 1 r (.nilS [4] r r (.ret (pret results260 (.t r .n) (.refl _) ⟨1,r,hd⟩))))
 exact .skipS [] r r (.sr (.ks 1 r (.nilS [4] r r (.ret (pret results260 (.t r .n) (.refl _) ⟨0,r,hd⟩)))))
theorem W_cmp_isNaN_uint64 {I:IH} {a0:Int} {Q:Bool→Prop}  (hd:cmp_isNaN_uint64 a0 Q) :
  PFun prog 285 [.int .u64 a0] I (fun _=>o4_ Q):=by
 refine Fun.enter func285 r ntmps285 r (.c .n) fun w0 M=>?_
 exact .sr (.ks 1 r (.nilS [0] r r (.sr (.ks 4 r (.nilS [2] r r (.ret (pret results285 (.t r .n) (.refl _) ⟨(a0 != a0),r,hd⟩)))))))
theorem W_cmp_Compare_uint64 {I:IH} {a0:Int} {a1:Int} {Q:Int→Prop}  (hd:cmp_Compare_uint64 a0 a1 Q) :
  PFun prog 263 [.int .u64 a0,.int .u64 a1] I (fun _=>o0_ Q):=by
 refine Fun.enter func263 r ntmps263 r (.c (.c .n)) fun w0 M=>?_
 refine .sr (.ks 1 r (.nilS [1,0] r r (.sr (.ks 1 r ?_))))
 have i:=W_cmp_isNaN_uint64 (I:=I) hd
 refine .callP call285 r i r r fun m j=>?_
 obtain ⟨o,rfl,hd⟩:=j
 refine .ks 1 r (.nilS [5,1,0] r r (.sr (.ks 1 r ?_)))
 have a:=W_cmp_isNaN_uint64 (I:=I) hd
 refine .callP call285 r a r r fun k b=>?_
 obtain ⟨l,rfl,hd⟩:=b
 refine .ks 1 r (.nilS [6,5,1,0] r r (.seq (.sr (.ks 1 r (.nilS [11,6,1,0] r r (.condP r hd (fun d hd=>?_) fun d hd=>?_))))))
 · refine .seq (.sr (.ks 1 r (.nilS [12] r r (.condP r hd (fun e hd=>?_) fun e hd=>?_))))
   · exact .sr (.ks 1 r (.nilS [4] r r (.ret (pret results263 (.t r .n) (.refl _) ⟨0,r,hd⟩))))
   exact .skipS [] r r (.sr (.ks 1 r (.nilS [4] r r (.ret (pret results263 (.t r .n) (.refl _) ⟨(-1),r,hd⟩)))))
 refine .skipS [6,1,0] r r (.seq (.sr (.ks 1 r (.nilS [13,1,0] r r (.condP r hd (fun f hd=>?_) fun f hd=>?_)))))
 · exact .sr (.ks 1 r (.nilS [4] r r (.ret (pret results263 (.t r .n) (.refl _) ⟨1,r,hd⟩))))
 refine .skipS [1,0] r r (.seq (.sr (.ks 3 r (.nilS [16,1,0] r r (.condP r hd (fun g hd=>?_) fun g hd=>?_)))))
 · exact .sr (.ks 1 r (.nilS [4] r r (.ret (pret results263 (.t r .n) (.refl _) ⟨(-1),r,hd⟩))))
 refine .skipS [1,0] r r (.seq (.sr (.ks 3 r (.nilS [19] r r (.condP r hd (fun h hd=>?_) fun h hd=>?_)))))
 · exact .sr (.ks 1 r (.nilS [4] r r (.ret (pret results263 (.t r .n) (.refl _) ⟨1,r,hd⟩))))
 exact .skipS [] r r (.sr (.ks 1 r (.nilS [4] r r (.ret (pret results263 (.t r .n) (.refl _) ⟨0,r,hd⟩)))))
theorem W_wide_Compare {I:IH} {a0:Wide} {a1:Wide} {Q:Int→Prop}  (hd:wide_Compare a0 a1 Q) :
  PFun prog 249 [.agg (encWide a0).toArray,.agg (encWide a1).toArray] I (fun _=>o0_ Q):=by
 refine Fun.enter func249 r ntmps249 r (.c (.c .n)) fun w0 M=>?_
 refine .sr (.boxA r r r fun y=>?_)
 refine .boxA r r r fun A=>?_
 refine .ks 1 r (.nilS [3,2] r r (.seq (.dr [0,1,2,3,5,6,7,8,4,9,10,11] 12 (.g r r r (fun _=>.fa un127 r sz2 r (o:=0) r r r .mk) (.g r r r (fun _=>.load1 ia2 r (.s .z) r r r .mk) (.g r r r (fun _=>.fa un127 r sz2 r (o:=0) r r r .mk) (.g r r r (fun _=>.load1 ia2 r .z r r r .mk) (.g r r r (fun _=>.fa un127 r sz125 r (o:=1) r r r .mk) (.g r r r (fun _=>.load1 ia125 r (.s .z) r r r .mk) ?_)))))))))
 refine .g r r r (fun _=>.fa un127 r sz125 r (o:=1) r r r .mk) (.g r r r (fun _=>.load1 ia125 r .z r r r .mk) (.ww r fun ex=>?_))
 have b:=W_cmp_Compare_int64 (I:=I) hd
 refine .callP call260 r b r r fun u d=>?_
 obtain ⟨l,rfl,hd⟩:=d
 refine .so 2 r r r (.cg r r r r (fun _=>.load1 ia125 r .z r r r .mk) (.cg r r r r (fun _=>.fa un127 r sz125 r (o:=1) r r r .mk) (.cg r r r r (fun _=>.load1 ia125 r (.s .z) r r r .mk) (.cg r r r r (fun _=>.fa un127 r sz125 r (o:=1) r r r .mk) trivial)))) (.ww r fun ex=>?_)
 have e:=W_cmp_Compare_uint64 (I:=I) hd
 refine .callP call263 r e r r fun v f=>?_
 obtain ⟨a,rfl,hd⟩:=f
 refine .so 2 r r r trivial (.ww r fun ex=>?_)
 refine .buildSlice 2 un29 sz3 zv3 r r (.c r r r (.c r r r .n)) r r fun w=>?_
 refine .so 3 r r r trivial (.ww r fun ex=>?_)
 refine .pubB (El:=eI64) (ys:=([l,a]:List Int)) (k:=2) .z (RepCs.cons (cs:=[.int .i64 l]) r (RepCs.cons (cs:=[.int .i64 a]) r .nil)) r fun m h p=>?_
 have i:=W_cmp_Or_int (I:=m) p hd
 refine .callP call231 r i r r fun x j=>?_
 obtain ⟨q,rfl,hd⟩:=j
 exact .so 2 r r r trivial (.e2 12 (.ks 1 r (.nilS [4] r r (.drop .z (.drop .z (.ret (pret results249 (.t r .n) h ⟨q,r,hd⟩)))))))
theorem W_ring_lesser {I:IH} {a0:Wide} {a1:Wide} {Q:Wide→Prop}  (hd:ring_lesser a0 a1 Q) :
  PFun prog 209 [.agg (encWide a0).toArray,.agg (encWide a1).toArray] I (fun _=>o2_ Q):=by
 refine Fun.enter func209 r ntmps209 r (.c (.c .n)) fun w0 M=>?_
 refine .sr (.boxA r r r fun h=>?_)
 refine .boxA r r r fun i=>?_
 refine .allocA zv127 r r fun e=>?_
 refine .nilS [4,3,2] r r (.seq (.sr (.loadW ia127 sz127 r (.s (.s .z)) r r r (.loadW ia127 sz127 r (.s .z) r r r ?_))))
 have a:=W_wide_Compare (I:=I) hd
 refine .callP call249 r a r r fun f b=>?_
 obtain ⟨g,rfl,hd⟩:=b
 refine .ks 1 r (.nilS [8,4,3,2] r r (.condP r hd (fun d hd=>?_) fun d hd=>?_))
 · exact .sr (.loadW ia127 sz127 r (.s (.s .z)) r r r (.storeA sz127 r r .z (.t (.t .nil)) r r (.nilS [4] r r (.drop (.s .z) (.drop (.s .z) (.ret (pret results209 (.w ia127 sz127 r .z r .n) (.refl _) ⟨a0,r,hd⟩)))))))
 exact .skipS [4,3] r r (.drop (.s (.s .z)) (.sr (.loadW ia127 sz127 r (.s .z) r r r (.storeA sz127 r r .z (.t (.t .nil)) r r (.nilS [4] r r (.drop (.s .z) (.ret (pret results209 (.w ia127 sz127 r .z r .n) (.refl _) ⟨a1,r,hd⟩))))))))
theorem W_wide_Add {I:IH} {a0:Wide} {a1:Wide} {Q:Wide→Prop}  (hd:wide_Add a0 a1 Q) :
  PFun prog 210 [.agg (encWide a0).toArray,.agg (encWide a1).toArray] I (fun _=>o2_ Q):=by
 refine Fun.enter func210 r ntmps210 r (.c (.c .n)) fun w0 M=>?_
 refine .sr (.boxA r r r fun h=>?_)
 refine .boxA r r r fun i=>?_
 refine .allocA zv127 r r fun e=>?_
 refine .nilS [4,3,2] r r (.sr (.fa un127 r sz125 r (o:=1) r r r (.load1 ia125 r (.s (.s .z)) r r r (.fa un127 r sz125 r (o:=1) r r r (.load1 ia125 r (.s .z) r r r (.ks 2 r (.nilS [5,4,3,2] r r (.seq (.dr [0,1,2,3,4,5,6,7,8,9,10,14,11,12,13,15] 16 ?_)))))))))
 refine .g r r r (fun _=>.fa un127 r sz2 r (o:=0) r r r .mk) (.g r r r (fun _=>.load1 ia2 r (.s (.s .z)) r r r .mk) (.g r r r (fun _=>.conv un2 un125 r r r .mk) (.g r r r (fun _=>.fa un127 r sz2 r (o:=0) r r r .mk) (.g r r r (fun _=>.load1 ia2 r (.s .z) r r r .mk) (.g r r r (fun _=>.conv un2 un125 r r r .mk) (.fk 2 r (.g r r r (fun _=>.fa un127 r sz125 r (o:=1) r r r .mk) (.g r r r (fun _=>.load1 ia125 r (.s .z) r r r .mk) (.fk 2 r ?_)))))))))
 refine .ww r fun ex=>?_
 have a:=W_wide_carry (I:=I) hd
 refine .callP call250 r a r r fun f b=>?_
 obtain ⟨d,rfl,hd⟩:=b
 exact .so 3 r r r (.ck 2 r r (.cg r r r r (fun _=>.conv un2 un125 r r r .mk) (.cg r r r r (fun _=>.load1 ia2 r (.s .z) r r r .mk) (.cg r r r r (fun _=>.fa un127 r sz2 r (o:=0) r r r .mk) (.cg r r r r (fun _=>.conv un2 un125 r r r .mk) (.cg r r r r (fun _=>.load1 ia2 r (.s (.s .z)) r r r .mk) (.cg r r r r (fun _=>.fa un127 r sz2 r (o:=0) r r r .mk) trivial))))))) (.fk 1 r (.g r r r (fun _=>.conv un125 un2 r r r .mk) (.g r r r (fun _=>.build zv127 un127 BI127 (.c r r r (.t .nil) (.c r r r (.s (.t .nil)) .n)) (by exact ⟨⟨_,_,r,r,r⟩,⟨⟨_,_,r,r,r⟩,trivial⟩⟩) r r .mk) (.e2 16 (.storeA sz127 r r .z (.t (.t .nil)) r r (.nilS [4] r r (.drop (.s .z) (.drop (.s .z) (.ret (pret results210 (.w ia127 sz127 r .z r .n) (.refl _) ⟨({ Hi:=w64 (IntKind.wrap .u64 ((IntKind.wrap .u64 ((IntKind.wrap .u64 (a0.Hi))+(IntKind.wrap .u64 (a1.Hi))))+d)),Lo:=IntKind.wrap .u64 (a0.Lo+a1.Lo) }:Wide),r,hd⟩))))))))))
theorem W_ring_Mul {I:IH} {a0:Int} {a1:Int} {a2:Int} {Q:Wide→Prop}  (hd:ring_Mul a0 a1 a2 Q) :
  PFun prog 138 [.int .i64 a0,.int .i64 a1,.int .i64 a2] I (fun _=>o2_ Q):=by
 refine Fun.enter func138 r ntmps138 r (.c (.c (.c .n))) fun w0 M=>?_
 refine .sr (.allocA zv127 r r fun h=>?_)
 refine .nilS [6,2,1,0] r r (.seq (.sr (.ks 1 r (.nilS [8,6,2,1,0] r r (.block (.sr (.ks 2 r (.nilS [9,8,6,2,1,0] r r (.condP r hd (fun E hd=>?_) fun E hd=>?_)))))))))
 · refine .sr (.ks 3 r ?_)
   refine splitP hd (fun d hd=>?_) fun d hd=>?_
   · rw [d]
     refine .ks 3 r ?_
     have F:=W_ring_truth (I:=I) hd
     refine .callP call207 r F r r fun b7 G=>?_
     obtain ⟨a3,rfl,hd⟩:=G
     exact .storeA sz127 r r .z (.t (.t .nil)) r r (.nilS [6] r r (.ret (pret results138 (.w ia127 sz127 r .z r .n) (.refl _) ⟨a3,r,hd⟩)))
   rw [d]
   refine .ks 3 r ?_
   have H:=W_ring_truth (I:=I) hd
   refine .callP call207 r H r r fun b8 J=>?_
   obtain ⟨a4,rfl,hd⟩:=J
   exact .storeA sz127 r r .z (.t (.t .nil)) r r (.nilS [6] r r (.ret (pret results138 (.w ia127 sz127 r .z r .n) (.refl _) ⟨a4,r,hd⟩)))
 refine .sr (.ks 2 r (.nilS [18,6,2,1,0] r r (.condP r hd (fun K hd=>?_) fun K hd=>?_)))
 · refine .sr (.ks 2 r ?_)
   have L:=W_wide_Mul (I:=I) hd
   refine .callP call208 r L r r fun b9 N=>?_
   obtain ⟨a5,rfl,hd⟩:=N
   exact .storeA sz127 r r .z (.t (.t .nil)) r r (.nilS [6] r r (.ret (pret results138 (.w ia127 sz127 r .z r .n) (.refl _) ⟨a5,r,hd⟩)))
 refine .skipS [6,2,1,0] r r (.seq ?_)
 refine Cod.joinQ (σ:=Unit) hd (fun (_:Unit) c w=>∃ I_,IH.le I I_∧Ok ⟨51,[],none⟩ [(0,.int .i64 a0),(1,.int .i64 a1),(2,.int .i64 a2),(6,.pointer (some ⟨h,0,none⟩))] c∧Sym w0 M I I_ [pto h (.cells #[.int .i64 0,.int .u64 0] 127 (0,0))] w) (fun c0 hd=>?_) ?_
 · skip
   refine .sr (.ks 1 r ?_)
   have O:=W_ring_Is (I:=I) hd
   refine .callP call102 r O r r fun c1 P=>?_
   obtain ⟨c2,rfl,hd⟩:=P
   refine .ks 1 r ?_
   refine splitP hd (fun e hd=>?_) fun e hd=>?_
   · rw [e]
     refine .ks 2 r (.gyes r r r (.maxI r r r r (.ks 2 r (.nilS [30,6,2,1,0] r r (.condP r hd (fun R hd=>?_) fun R hd=>?_)))))
     · refine .sr ?_
       have S:=W_wide_Of (I:=I) hd
       refine .callP call149 r S r r fun c3 T=>?_
       obtain ⟨a6,rfl,hd⟩:=T
       exact .storeA sz127 r r .z (.t (.t .nil)) r r (.nilS [6] r r (.ret (pret results138 (.w ia127 sz127 r .z r .n) (.refl _) ⟨a6,r,hd⟩)))
     exact .skip' fun c w ho hs=>⟨(),hd,I,(.refl _),ho.sub ⟨r,r,r,r,trivial⟩,hs.pick (.c .z .n)⟩
   rw [e]
   exact .ks 5 r (.nilS [30,6,2,1,0] r r (.condKF r r (.skip' fun c w ho hs=>⟨(),hd,I,(.refl _),ho.sub ⟨r,r,r,r,trivial⟩,hs.pick (.c .z .n)⟩)))
 rintro ⟨⟩ hd c w hst
 obtain ⟨b,f,hok,hsym⟩:=hst
 refine Cod.at hok hsym (.sr (.build zv127 un127 BI127 .n (by exact trivial) r r (.allocA zv127 r r fun A=>?_)))
 refine .storeA sz127 r r .z (.t (.t .nil)) r r (.nilS [7,6,2,1,0] r r (.seq (.sr (.ks 1 r (.nilS [33,7,6,2,1] r r (.block (.seq (.block (.seq ?_)))))))))
 refine Cod.joinQ (σ:=Int×Int) hd (fun (s:Int×Int) c w=>match s with | (B,C)=>∃ I_,IH.le b I_∧Ok ⟨51,[],none⟩ [(2,.int .i64 a2),(6,.pointer (some ⟨h,0,none⟩)),(7,.pointer (some ⟨A,0,none⟩))] c∧Sym w0 M I I_ [pto h (.cells #[.int .i64 0,.int .u64 0] 127 (0,0)),pto A (.cells #[.int .i64 B,.int .u64 C] 127 (0,0))] w) (fun c4 hd=>?_) ?_
 · skip
   refine .block (.seq (.block (.seq (.seq (.sr (.ks 2 r (.nilS [34,33,7,6,2,1] r r (.condP r hd (fun U hd=>?_) fun U hd=>?_))))))))
   · refine .exitS [7,6,2,1] r r (.region (.ks 1 r ?_))
     have V:=W_wide_Of (I:=b) hd
     refine .callP call149 r V r r fun c5 W=>?_
     obtain ⟨D,rfl,hd⟩:=W
     exact .storeA sz127 r r .z (.t (.t .nil)) r r (.nil' fun c w ho hs=>⟨(D.Hi,D.Lo),hd,b,(.refl _),ho.sub ⟨r,r,r,trivial⟩,hs.pick (.c (.s .z) (.c .z .n))⟩)
   refine .skipS [33,7,6,2,1] r r (.seq (.sr (.ks 2 r (.nilS [36,33,7,6,2,1] r r (.condP r hd (fun X hd=>?_) fun X hd=>?_)))))
   · exact .exit fun c w ho hs=>⟨(0,0),hd,b,(.refl _),ho.sub ⟨r,r,r,trivial⟩,hs.pick (.c (.s .z) (.c .z .n))⟩
   refine .skipS [33,7,6,1] r r (.sr (.ks 2 r (.nilS [38,7,6,1] r r (.condP r hd (fun Y hd=>?_) fun Y hd=>?_))))
   · refine .exitS [6,1] r r (.drop .z (.seq (.sr (.ks 1 r ?_))))
     have i:=W_wide_Of (I:=b) hd
     refine .callP call149 r i r r fun a8 j=>?_
     obtain ⟨a7,rfl,hd⟩:=j
     exact .storeA sz127 r r .z (.t (.t .nil)) r r (.nilS [6] r r (.ret (pret results138 (.w ia127 sz127 r .z r .n) f ⟨a7,r,hd⟩)))
   exact .skipS [7,6] r r (.exitS [7,6] r r (.sr (.loadW ia127 sz127 r .z r r r (.storeA sz127 r r (.s .z) (.t (.t .nil)) r r (.nilS [6] r r (.drop .z (.ret (pret results138 (.w ia127 sz127 r .z r .n) f ⟨({ Hi:=0,Lo:=0 }:Wide),r,hd⟩))))))))
 rintro ⟨B,C⟩ hd c w hst
 obtain ⟨a,k,hok,hsym⟩:=hst
 have l:=IH.le.trans f k
 refine Cod.at hok hsym (.seq (.seq (.dr [1,2,0,3,4,5] 6 (.g r r r (fun _=>.loadW ia127 sz127 r (.s .z) r r r .mk) (.fk 1 r (.ww r fun ex=>?_))))))
 have m:=W_wide_Of (I:=a) hd
 refine .callP call149 r m r r fun a9 o=>?_
 obtain ⟨b0,rfl,hd⟩:=o
 refine .so 2 r r r (.ck 1 r r (.cg r r r r (fun _=>.loadW ia127 sz127 r (.s .z) r r r .mk) trivial)) (.ww r fun ex=>?_)
 have p:=W_wide_Of (I:=a) hd
 refine .callP call149 r p r r fun b1 q=>?_
 obtain ⟨b2,rfl,hd⟩:=q
 refine .so 2 r r r (.cg r r r r (fun _=>.loadW ia127 sz127 r (.s .z) r r r .mk) trivial) (.ww r fun ex=>?_)
 have u:=W_wide_Add (I:=a) hd
 refine .callP call210 r u r r fun b4 v=>?_
 obtain ⟨b5,rfl,hd⟩:=v
 refine .so 2 r r r trivial (.ww r fun ex=>?_)
 have x:=W_ring_lesser (I:=a) hd
 refine .callP call209 r x r r fun b6 y=>?_
 obtain ⟨Z,rfl,hd⟩:=y
 exact .so 2 r r r trivial (.e2 6 (.storeA sz127 r r .z (.t (.t .nil)) r r (.nilS [6] r r (.drop (.s .z) (.ret (pret results138 (.w ia127 sz127 r .z r .n) l ⟨Z,r,hd⟩))))))
theorem W_ring_Add {I:IH} {a0:Int} {a1:Wide} {a2:Wide} {Q:Wide→Prop}  (hd:ring_Add a0 a1 a2 Q) :
  PFun prog 147 [.int .i64 a0,.agg (encWide a1).toArray,.agg (encWide a2).toArray] I (fun _=>o2_ Q):=by
 refine Fun.enter func147 r ntmps147 r (.c (.c (.c .n))) fun w0 M=>?_
 refine .sr (.boxA r r r fun y=>?_)
 refine .boxA r r r fun A=>?_
 refine .allocA zv127 r r fun e=>?_
 refine .nilS [6,5,4,0] r r (.seq (.sr (.ks 1 r (.nilS [7,6,5,4] r r (.block (.seq ?_))))))
 refine Cod.joinQ (σ:=Bool) hd (fun (f:Bool) c w=>∃ I_,IH.le I I_∧Ok ⟨32,[],none⟩ [(4,.pointer (some ⟨y,0,none⟩)),(5,.pointer (some ⟨A,0,none⟩)),(6,.pointer (some ⟨e,0,none⟩)),(7,.int .i64 a0),(8,.bool f)] c∧Sym w0 M I I_ [pto y (.cells #[.int .i64 a1.Hi,.int .u64 a1.Lo] 127 (0,0)),pto A (.cells #[.int .i64 a2.Hi,.int .u64 a2.Lo] 127 (0,0)),pto e (.cells #[.int .i64 0,.int .u64 0] 127 (0,0))] w) (fun F hd=>?_) ?_
 · skip
   refine .sr (.ks 2 r (.nilS [8,7,6,5,4] r r (.condP r hd (fun g hd=>?_) fun g hd=>?_)))
   · exact .skip' fun c w ho hs=>⟨(a0==1),hd,I,(.refl _),ho.sub ⟨r,r,r,r,r,trivial⟩,hs.pick (.c (.s (.s .z)) (.c (.s .z) (.c .z .n)))⟩
   refine .sr (.ks 2 r (.nilS [8,7,6,5,4] r r (.condP r hd (fun h hd=>?_) fun h hd=>?_)))
   · exact .skip' fun c w ho hs=>⟨(a0==3),hd,I,(.refl _),ho.sub ⟨r,r,r,r,r,trivial⟩,hs.pick (.c (.s (.s .z)) (.c (.s .z) (.c .z .n)))⟩
   exact .region (.ks 2 r (.nil' fun c w ho hs=>⟨(a0==4),hd,I,(.refl _),ho.sub ⟨r,r,r,r,r,trivial⟩,hs.pick (.c (.s (.s .z)) (.c (.s .z) (.c .z .n)))⟩))
 rintro f hd c w hst
 obtain ⟨d,a,hok,hsym⟩:=hst
 refine Cod.at hok hsym (.condP r hd (fun i hd=>?_) fun i hd=>?_)
 · refine .sr (.loadW ia127 sz127 r .z r r r (.loadW ia127 sz127 r (.s .z) r r r ?_))
   have j:=W_ring_lesser (I:=d) hd
   refine .callP call209 r j r r fun G k=>?_
   obtain ⟨B,rfl,hd⟩:=k
   exact .storeA sz127 r r (.s (.s .z)) (.t (.t .nil)) r r (.nilS [6] r r (.drop .z (.drop .z (.ret (pret results147 (.w ia127 sz127 r .z r .n) a ⟨B,r,hd⟩)))))
 refine .sr (.ks 2 r (.nilS [15,7,6,5,4] r r (.condP r hd (fun l hd=>?_) fun l hd=>?_)))
 · refine .sr (.loadW ia127 sz127 r .z r r r (.loadW ia127 sz127 r (.s .z) r r r (.neV r r (EQ127 a1 a2) (EG127 _ _ _ _ _) r r r (.ks 1 r ?_))))
   refine splitP hd (fun b hd=>?_) fun b hd=>?_
   · rw [b]
     refine .ks 4 r ?_
     have m:=W_ring_truth (I:=d) hd
     refine .callP call207 r m r r fun H o=>?_
     obtain ⟨C,rfl,hd⟩:=o
     exact .storeA sz127 r r (.s (.s .z)) (.t (.t .nil)) r r (.nilS [6] r r (.drop .z (.drop .z (.ret (pret results147 (.w ia127 sz127 r .z r .n) a ⟨C,r,hd⟩)))))
   rw [b]
   refine .gyes r r r (.loadW ia127 sz127 r .z r r r (.gyes r r r (.build zv127 un127 BI127 .n (by exact trivial) r r (.gyes r r r (.neV r r (EQ127 a1 ({ Hi:=0,Lo:=0 }:Wide)) (EG127 _ _ _ _ _) r r r (.ks 1 r ?_))))))
   have p:=W_ring_truth (I:=d) hd
   refine .callP call207 r p r r fun J q=>?_
   obtain ⟨D,rfl,hd⟩:=q
   exact .storeA sz127 r r (.s (.s .z)) (.t (.t .nil)) r r (.nilS [6] r r (.drop .z (.drop .z (.ret (pret results147 (.w ia127 sz127 r .z r .n) a ⟨D,r,hd⟩)))))
 refine .sr (.ks 2 r (.nilS [26,6,5,4] r r (.condP r hd (fun u hd=>?_) fun u hd=>?_)))
 · refine .sr (.loadW ia127 sz127 r .z r r r (.loadW ia127 sz127 r (.s .z) r r r ?_))
   have v:=W_wide_Add (I:=d) hd
   refine .callP call210 r v r r fun K x=>?_
   obtain ⟨E,rfl,hd⟩:=x
   exact .storeA sz127 r r (.s (.s .z)) (.t (.t .nil)) r r (.nilS [6] r r (.drop .z (.drop .z (.ret (pret results147 (.w ia127 sz127 r .z r .n) a ⟨E,r,hd⟩)))))
 exact .skipS [6] r r (.drop .z (.drop .z (.sr (.build zv127 un127 BI127 .n (by exact trivial) r r (.storeA sz127 r r .z (.t (.t .nil)) r r (.nilS [6] r r (.ret (pret results147 (.w ia127 sz127 r .z r .n) a ⟨({ Hi:=0,Lo:=0 }:Wide),r,hd⟩))))))))
theorem W_ring_Zero {I:IH} {a0:Int} {Q:Int→Prop}  (hd:ring_Zero a0 Q) :
  PFun prog 79 [.int .i64 a0] I (fun _=>o0_ Q):=by
 refine Fun.enter func79 r ntmps79 r (.c .n) fun w0 M=>?_
 refine .sr (.ks 1 r (.nilS [0] r r (.seq (.sr (.ks 1 r (.nilS [3] r r (.block (.seq (.sr ?_)))))))))
 refine .ks 2 r (.nilS [4,3] r r (.condP r hd (fun a hd=>?_) fun a hd=>?_))
 · exact .skipS [4] r r (.condKT r a (.sr (.ks 1 r (.nilS [2] r r (.ret (pret results79 (.t r .n) (.refl _) ⟨4611686018427387904,r,hd⟩))))))
 refine .sr (.ks 2 r (.nilS [4,3] r r (.condP r hd (fun b hd=>?_) fun b hd=>?_)))
 · exact .skipS [4] r r (.condKT r b (.sr (.ks 1 r (.nilS [2] r r (.ret (pret results79 (.t r .n) (.refl _) ⟨4611686018427387904,r,hd⟩))))))
 refine .region (.ks 2 r (.nilS [4] r r (.condP r hd (fun d hd=>?_) fun d hd=>?_)))
 · exact .sr (.ks 1 r (.nilS [2] r r (.ret (pret results79 (.t r .n) (.refl _) ⟨4611686018427387904,r,hd⟩))))
 exact .skipS [] r r (.sr (.ks 1 r (.nilS [2] r r (.ret (pret results79 (.t r .n) (.refl _) ⟨0,r,hd⟩)))))
theorem W_cmp_Compare_int {I:IH} {a0:Int} {a1:Int} {Q:Int→Prop}  (hd:cmp_Compare_int a0 a1 Q) :
  PFun prog 232 [.int .i64 a0,.int .i64 a1] I (fun _=>o0_ Q):=by
 refine Fun.enter func232 r ntmps232 r (.c (.c .n)) fun w0 M=>?_
 refine .sr (.ks 1 r (.nilS [1,0] r r (.sr (.ks 1 r ?_))))
 have i:=W_cmp_isNaN_int (I:=I) hd
 refine .callP call254 r i r r fun m j=>?_
 obtain ⟨o,rfl,hd⟩:=j
 refine .ks 1 r (.nilS [5,1,0] r r (.sr (.ks 1 r ?_)))
 have a:=W_cmp_isNaN_int (I:=I) hd
 refine .callP call254 r a r r fun k b=>?_
 obtain ⟨l,rfl,hd⟩:=b
 refine .ks 1 r (.nilS [6,5,1,0] r r (.seq (.sr (.ks 1 r (.nilS [11,6,1,0] r r (.condP r hd (fun d hd=>?_) fun d hd=>?_))))))
 · refine .seq (.sr (.ks 1 r (.nilS [12] r r (.condP r hd (fun e hd=>?_) fun e hd=>?_))))
   · exact .sr (.ks 1 r (.nilS [4] r r (.ret (pret results232 (.t r .n) (.refl _) ⟨0,r,hd⟩))))
   exact .skipS [] r r (.sr (.ks 1 r (.nilS [4] r r (.ret (pret results232 (.t r .n) (.refl _) ⟨(-1),r,hd⟩)))))
 refine .skipS [6,1,0] r r (.seq (.sr (.ks 1 r (.nilS [13,1,0] r r (.condP r hd (fun f hd=>?_) fun f hd=>?_)))))
 · exact .sr (.ks 1 r (.nilS [4] r r (.ret (pret results232 (.t r .n) (.refl _) ⟨1,r,hd⟩))))
 refine .skipS [1,0] r r (.seq (.sr (.ks 3 r (.nilS [16,1,0] r r (.condP r hd (fun g hd=>?_) fun g hd=>?_)))))
 · exact .sr (.ks 1 r (.nilS [4] r r (.ret (pret results232 (.t r .n) (.refl _) ⟨(-1),r,hd⟩))))
 refine .skipS [1,0] r r (.seq (.sr (.ks 3 r (.nilS [19] r r (.condP r hd (fun h hd=>?_) fun h hd=>?_)))))
 · exact .sr (.ks 1 r (.nilS [4] r r (.ret (pret results232 (.t r .n) (.refl _) ⟨1,r,hd⟩))))
 exact .skipS [] r r (.sr (.ks 1 r (.nilS [4] r r (.ret (pret results232 (.t r .n) (.refl _) ⟨0,r,hd⟩)))))
theorem W_wide_Narrow {I:IH} {a0:Wide} {Q:(Int×Bool)→Prop}  (hd:wide_Narrow a0 Q) :
  PFun prog 78 [.agg (encWide a0).toArray] I (fun _=>o3_ Q):=by
 refine Fun.enter func78 r ntmps78 r (.c .n) fun w0 M=>?_
 refine .sr (.boxA r r r fun f=>?_)
 refine .ks 2 r (.nilS [1] r r (.sr (.fa un127 r sz125 r (o:=1) r r r (.load1 ia125 r .z r r r (.conv un125 un2 r r r (.ks 1 r (.nilS [4,1] r r (.seq (.seq ?_)))))))))
 refine .dr [0,2,1,3] 4 (.fk 1 r (.g r r r (fun _=>.loadW ia127 sz127 r .z r r r .mk) (.ww r fun ex=>?_)))
 have a:=W_wide_Of (I:=I) hd
 refine .callP call149 r a r r fun h b=>?_
 obtain ⟨e,rfl,hd⟩:=b
 refine .so 1 r r r (.cg r r r r (fun _=>.loadW ia127 sz127 r .z r r r .mk) trivial) (.g r r r (fun _=>.neV r r (EQ127 e a0) (EG127 _ _ _ _ _) r r r .mk) (.e2 4 (.nilS [11,4] r r (.drop .z (.condP r hd (fun d hd=>?_) fun d hd=>?_)))))
 · exact .sr (.ks 2 r (.nilS [3,2] r r (.ret (pret results78 (.t r (.t r .n)) (.refl _) ⟨(0,false),r,hd⟩))))
 exact .skipS [4] r r (.sr (.ks 3 r (.nilS [3,2] r r (.ret (pret results78 (.t r (.t r .n)) (.refl _) ⟨(w64 (a0.Lo),true),r,hd⟩)))))
theorem W_ring_Narrow {I:IH} {a0:Int} {a1:Wide} {Q:(Int×Bool)→Prop}  (hd:ring_Narrow a0 a1 Q) :
  PFun prog 110 [.int .i64 a0,.agg (encWide a1).toArray] I (fun _=>o3_ Q):=by
 refine Fun.enter func110 r ntmps110 r (.c (.c .n)) fun w0 M=>?_
 refine .sr (.boxA r r r fun e=>?_)
 refine .ks 2 r (.nilS [3] r r (.sr (.loadW ia127 sz127 r .z r r r ?_)))
 have a:=W_wide_Narrow (I:=I) hd
 refine .callP call78 r a r r fun f b=>?_
 obtain ⟨d,rfl,hd⟩:=b
 exact .ks 4 r (.nilS [5,4] r r (.drop .z (.ret (pret results110 (.t r (.t r .n)) (.refl _) ⟨(d.1,d.2),r,hd⟩))))
theorem W_prog_within {I:IH} {a0:Int} {a1:Int} {Q:Bool→Prop}  (hd:prog_within a0 a1 Q) :
  PFun prog 164 [.int .i64 a0,.int .i64 a1] I (fun _=>o4_ Q):=by
 refine Fun.enter func164 r ntmps164 r (.c (.c .n)) fun w0 M=>?_
 refine .sr (.ks 1 r (.nilS [1,0] r r (.sr (.ks 3 r ?_))))
 refine splitP hd (fun a hd=>?_) fun a hd=>?_
 · rw [a]
   exact .ks 5 r (.nilS [4] r r (.ret (pret results164 (.t r .n) (.refl _) ⟨(decide (a0≤a1)),r,hd⟩)))
 rw [a]
 exact .ks 5 r (.nilS [4] r r (.ret (pret results164 (.t r .n) (.refl _) ⟨false,r,hd⟩)))
theorem W_prog_Right_1_a45 {I:IH} {a0:Int} {Q:Bool→Prop}  (hd:prog_Right_1_a45 a0 Q) :
  Fun prog 166 #[.int .i64 a0] I [] (fun I_ v l=>∃ r,v=.bool r∧l=[]∧Q r):=by
 refine Fun.enter (vs:=[.int .i64 a0]) func166 r ntmps166 r (.c .n) fun w0 M=>?_
 refine .sr (.ks 1 r (.nilS [0] r r (.sr (.ks 3 r ?_))))
 refine splitP hd (fun a hd=>?_) fun a hd=>?_
 · rw [a]
   exact .ks 4 r (.nilS [2] r r (.ret (oret results166 (.t r .n) (.refl _) .n ⟨true,r,r,hd⟩)))
 rw [a]
 exact .ks 4 r (.nilS [2] r r (.ret (oret results166 (.t r .n) (.refl _) .n ⟨(decide (2147483647<a0)),r,r,hd⟩)))
theorem W_slices_IndexFunc_int64_int64_135 {I:IH} {a0:List Int} {p1:Option Addr} {c2:Nat} {Q:Int→Prop} (R3:RepSl eI64 I p1 c2 a0) (hd:slices_IndexFunc_int64_int64_135 a0 Q) :
  Fun prog 225 #[.slice p1 a0.length c2,.func (.func 166) #[] #[]] I [] (fun I_ v l=>∃ r,v=.int .i64 r∧l=[]∧Q r):=by
 refine Fun.enter (vs:=[.slice p1 a0.length c2,.func (.func 166) #[] #[]]) func225 r ntmps225 r (.c (.c .n)) fun w0 M=>?_
 refine .sr (.ks 1 r (.nilS [1,0] r r (.seq (.sr (.ks 1 r (.len un30 r r r r (.ks 1 r (.nilS [8,7,1,0] r r (.block ?_)))))))))
 refine .loop hd (fun (e:Int) c w=>∃ I_,IH.le I I_∧Ok ⟨19,[],none⟩ [(0,.slice p1 a0.length c2),(1,.func (.func 166) #[] #[]),(7,.int .i64 (a0.length:Int)),(8,.int .i64 e)] c∧Sym w0 M I I_ [] w) (fun c w ho hs=>⟨I,(.refl _),ho.sub ⟨r,r,r,r,trivial⟩,hs.pick .n⟩) ?_
 rintro e q hd c w hst
 obtain ⟨s,a,hok,hsym⟩:=hst
 replace R3:=R3.mono a
 refine Cod.at hok hsym (.sr (.ks 1 r (.nilS [9,8,7,1,0] r r (.seq (.condP r hd (fun i hd=>?_) fun i hd=>?_)))))
 · refine .skipS [8,7,1,0] r r (.seq (.block (.sr (.ks 2 r (.nilS [5,8,7,1,0] r r (.sr (.ks 3 r ?_)))))))
   obtain ⟨h,u,f,hd⟩:=hd
   obtain ⟨A,o55,z,x,b,k⟩:=R3.2 _ _ f
   cases k
   refine .ixa un30 sz2 r x r h (idx_lt f h) r r (.ld1 (j:=0) ia2 b r r r r r ?_)
   have m:=W_prog_Right_1_a45 (I:=s) (a0:=u) hd
   refine .callS (.c call166 r r) .n m r r fun B y C d o=>?_
   obtain ⟨D,rfl,rfl,hd⟩:=o
   have g:=IH.le.trans a d
   replace R3:=R3.mono d
   replace b:=b.mono d
   refine .re (m':=[]) r (.nilS [16,5,8,7,1,0] r r (.condP r hd (fun p hd=>?_) fun p hd=>?_))
   · exact .sr (.ks 2 r (.nilS [4,1] r r (.ret (oret results225 (.t r .n) g .n ⟨e,r,r,hd⟩))))
   exact .skipS [8,7,1,0] r r (.region (.ks 2 r (.nil' fun c w ho hs=>⟨(w64 (e+1)),hd,y,g,ho.sub ⟨r,r,r,r,trivial⟩,hs.pick .n⟩)))
 exact .exitS [1] r r (.sr (.ks 1 r (.nilS [4,1] r r (.ret (oret results225 (.t r .n) a .n ⟨(-1),r,r,hd⟩)))))
theorem W_slices_ContainsFunc_int64_int64_80a {I:IH} {a0:List Int} {p1:Option Addr} {c2:Nat} {Q:Bool→Prop} (R3:RepSl eI64 I p1 c2 a0) (hd:slices_ContainsFunc_int64_int64_80a a0 Q) :
  Fun prog 165 #[.slice p1 a0.length c2,.func (.func 166) #[] #[]] I [] (fun I_ v l=>∃ r,v=.bool r∧l=[]∧Q r):=by
 refine Fun.enter (vs:=[.slice p1 a0.length c2,.func (.func 166) #[] #[]]) func165 r ntmps165 r (.c (.c .n)) fun w0 M=>?_
 refine .sr (.ks 1 r (.nilS [1,0] r r (.sr (.ks 2 r ?_))))
 have b:=W_slices_IndexFunc_int64_int64_135 (I:=I) (a0:=a0) R3 hd
 refine .callS (.f call225 r) .n b r r fun g h i a d=>?_
 obtain ⟨e,rfl,rfl,hd⟩:=d
 replace R3:=R3.mono a
 exact .re (m':=[]) r (.ks 2 r (.nilS [4,1] r r (.ret (oret results165 (.t r .n) a .n ⟨(decide (0≤e)),r,r,hd⟩))))
theorem W_prog_Right {I:IH} {a0:Plan} {p1:Option Addr} {c2:Nat} {Q:Int→Prop} (R3:RepSl eI64 I p1 c2 a0.Draws) (hd:prog_Right a0 Q) :
  PFun prog 95 [.agg #[.int .i64 a0.Kind,.int .i64 a0.N,.int .i64 a0.Source,.int .i64 a0.Length,.slice p1 a0.Draws.length c2]] I (fun _=>o0_ Q):=by
 refine Fun.enter func95 r ntmps95 r (.c .n) fun w0 M=>?_
 refine .sr (.boxA r r r fun i=>?_)
 refine .ks 1 r (.nilS [1] r r (.seq (.sr (.fa un49 r sz47 r (o:=0) r r r (.load1 ia47 r .z r r r (.ks 2 r ?_))))))
 refine splitP hd (fun d hd=>?_) fun d hd=>?_
 · rw [d]
   exact .ks 4 r (.nilS [10,1] r r (.condKT r r (.sr (.ks 1 r (.nilS [2] r r (.drop .z (.ret (pret results95 (.t r .n) (.refl _) ⟨8,r,hd⟩))))))))
 rw [d]
 refine .gyes r r r (.fa un49 r sz47 r (o:=0) r r r (.gyes r r r (.load1 ia47 r .z r r r (.ks 2 r (.nilS [10,1] r r (.condP r hd (fun C hd=>?_) fun C hd=>?_))))))
 · exact .sr (.ks 1 r (.nilS [2] r r (.drop .z (.ret (pret results95 (.t r .n) (.refl _) ⟨8,r,hd⟩)))))
 refine .skipS [1] r r (.seq (.sr (.fa un49 r sz3 r (o:=1) r r r (.load1 ia3 r .z r r r ?_))))
 have D:=W_prog_within (I:=I) hd
 refine .callP call164 r D r r fun U E=>?_
 obtain ⟨V,rfl,hd⟩:=E
 refine .ks 1 r (.nilS [14,1] r r (.condP r hd (fun F hd=>?_) fun F hd=>?_))
 · exact .sr (.ks 1 r (.nilS [2] r r (.drop .z (.ret (pret results95 (.t r .n) (.refl _) ⟨3,r,hd⟩)))))
 refine .skipS [1] r r (.seq ?_)
 refine Cod.joinQ (σ:=Unit) hd (fun (_:Unit) c w=>∃ I_,IH.le I I_∧Ok ⟨42,[],none⟩ [(1,.pointer (some ⟨i,0,none⟩))] c∧Sym w0 M I I_ [pto i (.cells #[.int .i64 a0.Kind,.int .i64 a0.N,.int .i64 a0.Source,.int .i64 a0.Length,.slice p1 a0.Draws.length c2] 49 (0,0))] w) (fun W hd=>?_) ?_
 · skip
   refine .sr (.fa un49 r sz47 r (o:=0) r r r (.load1 ia47 r .z r r r (.nilS [16,1] r r (.block (.seq ?_)))))
   refine Cod.joinQ (σ:=Unit) hd (fun (_:Unit) c w=>∃ I_,IH.le I I_∧Ok ⟨42,[],none⟩ [(1,.pointer (some ⟨i,0,none⟩))] c∧Sym w0 M I I_ [pto i (.cells #[.int .i64 a0.Kind,.int .i64 a0.N,.int .i64 a0.Source,.int .i64 a0.Length,.slice p1 a0.Draws.length c2] 49 (0,0))] w) (fun H hd=>?_) ?_
   · skip
     refine .block (.seq (.block (.seq (.seq (.sr (.ks 2 r (.nilS [17,16,1] r r (.condP r hd (fun k hd=>?_) fun k hd=>?_))))))))
     · refine .exitS [1] r r (.sr (.fa un49 r sz3 r (o:=3) r r r (.load1 ia3 r .z r r r ?_)))
       have l:=W_prog_within (I:=I) hd
       refine .callP call164 r l r r fun J m=>?_
       obtain ⟨K,rfl,hd⟩:=m
       refine .ks 1 r (.nilS [25,1] r r (.condP r hd (fun p hd=>?_) fun p hd=>?_))
       · exact .sr (.ks 1 r (.nilS [2] r r (.drop .z (.ret (pret results95 (.t r .n) (.refl _) ⟨3,r,hd⟩)))))
       exact .skip' fun c w ho hs=>⟨(),hd,I,(.refl _),ho.sub ⟨r,trivial⟩,hs.pick (.c .z .n)⟩
     refine .skipS [16,1] r r (.seq (.sr (.ks 2 r (.nilS [19,16,1] r r (.condP r hd (fun e hd=>?_) fun e hd=>?_)))))
     · exact .skipS [19,1] r r (.condKT r e (.exit fun c w ho hs=>⟨(),hd,I,(.refl _),ho.sub ⟨r,trivial⟩,hs.pick (.c .z .n)⟩))
     refine .region (.ks 2 r (.nilS [19,1] r r (.condP r hd (fun q hd=>?_) fun q hd=>?_)))
     · exact .exit fun c w ho hs=>⟨(),hd,I,(.refl _),ho.sub ⟨r,trivial⟩,hs.pick (.c .z .n)⟩
     exact .skipS [1] r r (.exit fun c w ho hs=>⟨(),hd,I,(.refl _),ho.sub ⟨r,trivial⟩,hs.pick (.c .z .n)⟩)
   rintro ⟨⟩ hd c w hst
   obtain ⟨j,a,hok,hsym⟩:=hst
   replace R3:=R3.mono a
   refine Cod.at hok hsym (.seq (.sr (.fa un49 r sz3 r (o:=2) r r r (.load1 ia3 r .z r r r (.fa un49 r sz3 r (o:=1) r r r (.load1 ia3 r .z r r r (.ks 1 r ?_)))))))
   have s:=W_prog_within (I:=j) hd
   refine .callP call164 r s r r fun L u=>?_
   obtain ⟨O,rfl,hd⟩:=u
   refine .ks 1 r (.nilS [32,1] r r (.condP r hd (fun v hd=>?_) fun v hd=>?_))
   · exact .sr (.ks 1 r (.nilS [2] r r (.drop .z (.ret (pret results95 (.t r .n) a ⟨3,r,hd⟩)))))
   exact .skipS [1] r r (.exit fun c w ho hs=>⟨(),hd,j,a,ho.sub ⟨r,trivial⟩,hs.pick (.c .z .n)⟩)
 rintro ⟨⟩ hd c w hst
 obtain ⟨G,b,hok,hsym⟩:=hst
 replace R3:=R3.mono b
 refine Cod.at hok hsym (.seq (.block (.sr (.fa un49 r sz30 r (o:=4) r r r (.load1 ia30 r .z r r r (.len un30 r r r r (.ks 2 r (.nilS [33,1] r r (.condP r hd (fun x hd=>?_) fun x hd=>?_)))))))))
 · exact .sr (.ks 1 r (.nilS [2] r r (.drop .z (.ret (pret results95 (.t r .n) b ⟨5,r,hd⟩)))))
 refine .sr (.fa un49 r sz30 r (o:=4) r r r (.load1 ia30 r .z r r r ?_))
 have y:=W_slices_ContainsFunc_int64_int64_80a (I:=G) (a0:=a0.Draws) R3 hd
 refine .callS (.f call165 r) .n y r r fun P R S g A=>?_
 obtain ⟨T,rfl,rfl,hd⟩:=A
 have h:=IH.le.trans b g
 replace R3:=R3.mono g
 refine .re (m':=[pto i (.cells #[.int .i64 a0.Kind,.int .i64 a0.N,.int .i64 a0.Source,.int .i64 a0.Length,.slice p1 a0.Draws.length c2] 49 (0,0))]) r (.ks 1 r (.nilS [38] r r (.drop .z (.condP r hd (fun B hd=>?_) fun B hd=>?_))))
 · exact .sr (.ks 1 r (.nilS [2] r r (.ret (pret results95 (.t r .n) h ⟨7,r,hd⟩))))
 exact .skipS [] r r (.sr (.ks 1 r (.nilS [2] r r (.ret (pret results95 (.t r .n) h ⟨0,r,hd⟩)))))
theorem W_edges_Right_1_b08 {I:IH} {o0:Graph} {a0:Int} {b2:Nat} {p3:Option Addr} {c4:Nat} {Q:Bool→Prop} (R5:RepSl eEdge I p3 c4 o0.Edges) (hd:edges_Right_1_b08 o0 a0 Q) :
  Fun prog 192 #[.int .i64 a0,.pointer (some ⟨b2,0,none⟩)] I [pto b2 (.cells #[.int .i64 o0.N,.slice p3 o0.Edges.length c4] 24 (0,0))] (fun I_ v l=>∃ r,v=.bool r∧l=[pto b2 (.cells #[.int .i64 o0.N,.slice p3 o0.Edges.length c4] 24 (0,0))]∧Q r):=by
 refine Fun.enter (vs:=[.int .i64 a0,.pointer (some ⟨b2,0,none⟩)]) func192 r ntmps192 r (.c (.c .n)) fun w0 M=>?_
 refine .sr (.ks 1 r (.nilS [1,0] r r (.sr (.ks 3 r ?_))))
 refine splitP hd (fun a hd=>?_) fun a hd=>?_
 · rw [a]
   exact .ks 6 r (.nilS [3,1] r r (.ret (oret results192 (.t r .n) (.refl _) (.c .z .n) ⟨true,r,r,hd⟩)))
 rw [a]
 exact .ks 1 r (.gyes r r r (.fa un24 r sz3 r (o:=0) r r r (.gyes r r r (.load1 ia3 r .z r r r (.ks 3 r (.nilS [3,1] r r (.ret (oret results192 (.t r .n) (.refl _) (.c .z .n) ⟨(decide (o0.N≤a0)),r,r,hd⟩))))))))
theorem W_edges_Right_2_f7d {I:IH} {o1:Graph} {a0:Edge} {b3:Nat} {b4:Nat} {p5:Option Addr} {c6:Nat} {Q:Bool→Prop} (R7:RepSl eEdge I p5 c6 o1.Edges) (hd:edges_Right_2_f7d o1 a0 Q) :
  Fun prog 193 #[.agg (encEdge a0).toArray,.pointer (some ⟨b3,0,none⟩)] I [pto b3 (.cells #[.func (.func 192) #[] #[.pointer (some ⟨b4,0,none⟩)]] 228 (0,0)),pto b4 (.cells #[.int .i64 o1.N,.slice p5 o1.Edges.length c6] 24 (0,0))] (fun I_ v l=>∃ r,v=.bool r∧l=[pto b3 (.cells #[.func (.func 192) #[] #[.pointer (some ⟨b4,0,none⟩)]] 228 (0,0)),pto b4 (.cells #[.int .i64 o1.N,.slice p5 o1.Edges.length c6] 24 (0,0))]∧Q r):=by
 refine Fun.enter (vs:=[.agg (encEdge a0).toArray,.pointer (some ⟨b3,0,none⟩)]) func193 r ntmps193 r (.c (.c .n)) fun w0 M=>?_
 refine .sr (.boxA r r r fun e=>?_)
 refine .ks 1 r (.nilS [2,1] r r (.sr (.load1 isAgg228 r (.s .z) r r r (.fa un27 r sz3 r (o:=0) r r r (.load1 ia3 r .z r r r ?_)))))
 have f:=W_edges_Right_1_b08 (I:=I) (o0:=o1) (a0:=a0.From) (b2:=b4) (p3:=p5) (c4:=c6) R7 hd
 refine .callS (.c call192 r r) (.c (.s (.s .z)) .n) f r r fun p k q a g=>?_
 obtain ⟨u,rfl,rfl,hd⟩:=g
 replace R7:=R7.mono a
 refine .re (m':=[pto b4 (.cells #[.int .i64 o1.N,.slice p5 o1.Edges.length c6] 24 (0,0)),pto e (.cells #[.int .i64 a0.From,.int .i64 a0.To,.int .i64 a0.W] 27 (0,0)),pto b3 (.cells #[.func (.func 192) #[] #[.pointer (some ⟨b4,0,none⟩)]] 228 (0,0))]) r (.ks 1 r ?_)
 refine splitP hd (fun b hd=>?_) fun b hd=>?_
 · rw [b]
   exact .ks 6 r (.nilS [3,1] r r (.drop (.s .z) (.ret (oret results193 (.t r .n) a (.c (.s .z) (.c .z .n)) ⟨true,r,r,hd⟩))))
 rw [b]
 refine .gyes r r r (.load1 isAgg228 r (.s (.s .z)) r r r (.gyes r r r (.fa un27 r sz3 r (o:=1) r r r (.gyes r r r (.load1 ia3 r (.s .z) r r r ?_)))))
 have h:=W_edges_Right_1_b08 (I:=k) (o0:=o1) (a0:=a0.To) (b2:=b4) (p3:=p5) (c4:=c6) R7 hd
 refine .gyes r r r (.callS (.c call192 r r) (.c .z .n) h r r fun w x y d i=>?_)
 obtain ⟨m,rfl,rfl,hd⟩:=i
 have j:=IH.le.trans a d
 replace R7:=R7.mono d
 exact .re (m':=[pto b4 (.cells #[.int .i64 o1.N,.slice p5 o1.Edges.length c6] 24 (0,0)),pto e (.cells #[.int .i64 a0.From,.int .i64 a0.To,.int .i64 a0.W] 27 (0,0)),pto b3 (.cells #[.func (.func 192) #[] #[.pointer (some ⟨b4,0,none⟩)]] 228 (0,0))]) r (.ks 2 r (.nilS [3,1] r r (.drop (.s .z) (.ret (oret results193 (.t r .n) j (.c (.s .z) (.c .z .n)) ⟨m,r,r,hd⟩)))))
theorem W_slices_IndexFunc_api_Edge_api_Edge_a86 {I:IH} {o1:Graph} {a0:List Edge} {b3:Nat} {b4:Nat} {p5:Option Addr} {c6:Nat} {p8:Option Addr} {c9:Nat} {Q:Int→Prop} (R7:RepSl eEdge I p5 c6 o1.Edges) (R10:RepSl eEdge I p8 c9 a0) (hd:slices_IndexFunc_api_Edge_api_Edge_a86 o1 a0 Q) :
  Fun prog 206 #[.slice p8 a0.length c9,.func (.func 193) #[] #[.pointer (some ⟨b3,0,none⟩)]] I [pto b3 (.cells #[.func (.func 192) #[] #[.pointer (some ⟨b4,0,none⟩)]] 228 (0,0)),pto b4 (.cells #[.int .i64 o1.N,.slice p5 o1.Edges.length c6] 24 (0,0))] (fun I_ v l=>∃ r,v=.int .i64 r∧l=[pto b3 (.cells #[.func (.func 192) #[] #[.pointer (some ⟨b4,0,none⟩)]] 228 (0,0)),pto b4 (.cells #[.int .i64 o1.N,.slice p5 o1.Edges.length c6] 24 (0,0))]∧Q r):=by
 refine Fun.enter (vs:=[.slice p8 a0.length c9,.func (.func 193) #[] #[.pointer (some ⟨b3,0,none⟩)]]) func206 r ntmps206 r (.c (.c .n)) fun w0 M=>?_
 refine .sr (.ks 1 r (.nilS [1,0] r r (.seq (.sr (.ks 1 r (.len un22 r r r r (.ks 1 r (.nilS [8,7,1,0] r r (.block ?_)))))))))
 refine .loop hd (fun (e:Int) c w=>∃ I_,IH.le I I_∧Ok ⟨19,[],none⟩ [(0,.slice p8 a0.length c9),(1,.func (.func 193) #[] #[.pointer (some ⟨b3,0,none⟩)]),(7,.int .i64 (a0.length:Int)),(8,.int .i64 e)] c∧Sym w0 M I I_ [pto b3 (.cells #[.func (.func 192) #[] #[.pointer (some ⟨b4,0,none⟩)]] 228 (0,0)),pto b4 (.cells #[.int .i64 o1.N,.slice p5 o1.Edges.length c6] 24 (0,0))] w) (fun c w ho hs=>⟨I,(.refl _),ho.sub ⟨r,r,r,r,trivial⟩,hs.pick (.c .z (.c .z .n))⟩) ?_
 rintro e p hd c w hst
 obtain ⟨q,a,hok,hsym⟩:=hst
 replace R7:=R7.mono a
 replace R10:=R10.mono a
 refine Cod.at hok hsym (.sr (.ks 1 r (.nilS [9,8,7,1,0] r r (.seq (.condP r hd (fun i hd=>?_) fun i hd=>?_)))))
 · refine .skipS [8,7,1,0] r r (.seq (.block (.sr (.ks 2 r (.nilS [5,8,7,1,0] r r (.sr (.ks 3 r ?_)))))))
   obtain ⟨h,s,f,hd⟩:=hd
   obtain ⟨A,o62,y,u,d,j⟩:=R10.2 _ _ f
   cases j
   refine .ixa un22 sz27 r u r h (idx_lt f h) r r (.ldW ia27 sz27 d r r r r ?_)
   have k:=W_edges_Right_2_f7d (I:=q) (o1:=o1) (a0:=s) (b3:=b3) (b4:=b4) (p5:=p5) (c6:=c6) R7 hd
   refine .callS (.c call193 r r) (.c .z (.c .z .n)) k r r fun B x C b m=>?_
   obtain ⟨D,rfl,rfl,hd⟩:=m
   have g:=IH.le.trans a b
   replace R7:=R7.mono b
   replace R10:=R10.mono b
   replace d:=d.mono b
   refine .re (m':=[pto b3 (.cells #[.func (.func 192) #[] #[.pointer (some ⟨b4,0,none⟩)]] 228 (0,0)),pto b4 (.cells #[.int .i64 o1.N,.slice p5 o1.Edges.length c6] 24 (0,0))]) r (.nilS [16,5,8,7,1,0] r r (.condP r hd (fun o hd=>?_) fun o hd=>?_))
   · exact .sr (.ks 2 r (.nilS [4,1] r r (.ret (oret results206 (.t r .n) g (.c .z (.c .z .n)) ⟨e,r,r,hd⟩))))
   exact .skipS [8,7,1,0] r r (.region (.ks 2 r (.nil' fun c w ho hs=>⟨(w64 (e+1)),hd,x,g,ho.sub ⟨r,r,r,r,trivial⟩,hs.pick (.c .z (.c .z .n))⟩)))
 exact .exitS [1] r r (.sr (.ks 1 r (.nilS [4,1] r r (.ret (oret results206 (.t r .n) a (.c .z (.c .z .n)) ⟨(-1),r,r,hd⟩)))))
theorem W_slices_ContainsFunc_api_Edge_api_Edge_87a {I:IH} {o1:Graph} {a0:List Edge} {b3:Nat} {b4:Nat} {p5:Option Addr} {c6:Nat} {p8:Option Addr} {c9:Nat} {Q:Bool→Prop} (R7:RepSl eEdge I p5 c6 o1.Edges) (R10:RepSl eEdge I p8 c9 a0) (hd:slices_ContainsFunc_api_Edge_api_Edge_87a o1 a0 Q) :
  Fun prog 135 #[.slice p8 a0.length c9,.func (.func 193) #[] #[.pointer (some ⟨b3,0,none⟩)]] I [pto b3 (.cells #[.func (.func 192) #[] #[.pointer (some ⟨b4,0,none⟩)]] 228 (0,0)),pto b4 (.cells #[.int .i64 o1.N,.slice p5 o1.Edges.length c6] 24 (0,0))] (fun I_ v l=>∃ r,v=.bool r∧l=[pto b3 (.cells #[.func (.func 192) #[] #[.pointer (some ⟨b4,0,none⟩)]] 228 (0,0)),pto b4 (.cells #[.int .i64 o1.N,.slice p5 o1.Edges.length c6] 24 (0,0))]∧Q r):=by
 refine Fun.enter (vs:=[.slice p8 a0.length c9,.func (.func 193) #[] #[.pointer (some ⟨b3,0,none⟩)]]) func135 r ntmps135 r (.c (.c .n)) fun w0 M=>?_
 refine .sr (.ks 1 r (.nilS [1,0] r r (.sr (.ks 2 r ?_))))
 have b:=W_slices_IndexFunc_api_Edge_api_Edge_a86 (I:=I) (o1:=o1) (a0:=a0) (b3:=b3) (b4:=b4) (p5:=p5) (c6:=c6) R7 R10 hd
 refine .callS (.f call206 r) (.c .z (.c .z .n)) b r r fun g h i a d=>?_
 obtain ⟨e,rfl,rfl,hd⟩:=d
 replace R7:=R7.mono a
 replace R10:=R10.mono a
 exact .re (m':=[pto b3 (.cells #[.func (.func 192) #[] #[.pointer (some ⟨b4,0,none⟩)]] 228 (0,0)),pto b4 (.cells #[.int .i64 o1.N,.slice p5 o1.Edges.length c6] 24 (0,0))]) r (.ks 2 r (.nilS [4,1] r r (.ret (oret results135 (.t r .n) a (.c .z (.c .z .n)) ⟨(decide (0≤e)),r,r,hd⟩))))
theorem W_edges_Right_3_b50 {I:IH} {a0:Edge} {Q:Bool→Prop}  (hd:edges_Right_3_b50 a0 Q) :
  Fun prog 194 #[.agg (encEdge a0).toArray] I [] (fun I_ v l=>∃ r,v=.bool r∧l=[]∧Q r):=by
 refine Fun.enter (vs:=[.agg (encEdge a0).toArray]) func194 r ntmps194 r (.c .n) fun w0 M=>?_
 refine .sr (.boxA r r r fun b=>?_)
 refine .ks 1 r (.nilS [1] r r (.sr (.fa un27 r sz2 r (o:=2) r r r (.load1 ia2 r .z r r r (.ks 2 r ?_)))))
 refine splitP hd (fun a hd=>?_) fun a hd=>?_
 · rw [a]
   exact .ks 5 r (.nilS [2] r r (.drop .z (.ret (oret results194 (.t r .n) (.refl _) .n ⟨true,r,r,hd⟩))))
 rw [a]
 exact .gyes r r r (.fa un27 r sz2 r (o:=2) r r r (.gyes r r r (.load1 ia2 r .z r r r (.ks 3 r (.nilS [2] r r (.drop .z (.ret (oret results194 (.t r .n) (.refl _) .n ⟨(decide (2147483647<a0.W)),r,r,hd⟩))))))))
theorem W_slices_IndexFunc_api_Edge_api_Edge_122 {I:IH} {a0:List Edge} {p1:Option Addr} {c2:Nat} {Q:Int→Prop} (R3:RepSl eEdge I p1 c2 a0) (hd:slices_IndexFunc_api_Edge_api_Edge_122 a0 Q) :
  Fun prog 206 #[.slice p1 a0.length c2,.func (.func 194) #[] #[]] I [] (fun I_ v l=>∃ r,v=.int .i64 r∧l=[]∧Q r):=by
 refine Fun.enter (vs:=[.slice p1 a0.length c2,.func (.func 194) #[] #[]]) func206 r ntmps206 r (.c (.c .n)) fun w0 M=>?_
 refine .sr (.ks 1 r (.nilS [1,0] r r (.seq (.sr (.ks 1 r (.len un22 r r r r (.ks 1 r (.nilS [8,7,1,0] r r (.block ?_)))))))))
 refine .loop hd (fun (e:Int) c w=>∃ I_,IH.le I I_∧Ok ⟨19,[],none⟩ [(0,.slice p1 a0.length c2),(1,.func (.func 194) #[] #[]),(7,.int .i64 (a0.length:Int)),(8,.int .i64 e)] c∧Sym w0 M I I_ [] w) (fun c w ho hs=>⟨I,(.refl _),ho.sub ⟨r,r,r,r,trivial⟩,hs.pick .n⟩) ?_
 rintro e p hd c w hst
 obtain ⟨q,a,hok,hsym⟩:=hst
 replace R3:=R3.mono a
 refine Cod.at hok hsym (.sr (.ks 1 r (.nilS [9,8,7,1,0] r r (.seq (.condP r hd (fun i hd=>?_) fun i hd=>?_)))))
 · refine .skipS [8,7,1,0] r r (.seq (.block (.sr (.ks 2 r (.nilS [5,8,7,1,0] r r (.sr (.ks 3 r ?_)))))))
   obtain ⟨h,s,f,hd⟩:=hd
   obtain ⟨z,o55,y,u,b,j⟩:=R3.2 _ _ f
   cases j
   refine .ixa un22 sz27 r u r h (idx_lt f h) r r (.ldW ia27 sz27 b r r r r ?_)
   have k:=W_edges_Right_3_b50 (I:=q) (a0:=s) hd
   refine .callS (.c call194 r r) .n k r r fun A x B d m=>?_
   obtain ⟨C,rfl,rfl,hd⟩:=m
   have g:=IH.le.trans a d
   replace R3:=R3.mono d
   replace b:=b.mono d
   refine .re (m':=[]) r (.nilS [16,5,8,7,1,0] r r (.condP r hd (fun o hd=>?_) fun o hd=>?_))
   · exact .sr (.ks 2 r (.nilS [4,1] r r (.ret (oret results206 (.t r .n) g .n ⟨e,r,r,hd⟩))))
   exact .skipS [8,7,1,0] r r (.region (.ks 2 r (.nil' fun c w ho hs=>⟨(w64 (e+1)),hd,x,g,ho.sub ⟨r,r,r,r,trivial⟩,hs.pick .n⟩)))
 exact .exitS [1] r r (.sr (.ks 1 r (.nilS [4,1] r r (.ret (oret results206 (.t r .n) a .n ⟨(-1),r,r,hd⟩)))))
theorem W_slices_ContainsFunc_api_Edge_api_Edge_126 {I:IH} {a0:List Edge} {p1:Option Addr} {c2:Nat} {Q:Bool→Prop} (R3:RepSl eEdge I p1 c2 a0) (hd:slices_ContainsFunc_api_Edge_api_Edge_126 a0 Q) :
  Fun prog 135 #[.slice p1 a0.length c2,.func (.func 194) #[] #[]] I [] (fun I_ v l=>∃ r,v=.bool r∧l=[]∧Q r):=by
 refine Fun.enter (vs:=[.slice p1 a0.length c2,.func (.func 194) #[] #[]]) func135 r ntmps135 r (.c (.c .n)) fun w0 M=>?_
 refine .sr (.ks 1 r (.nilS [1,0] r r (.sr (.ks 2 r ?_))))
 have b:=W_slices_IndexFunc_api_Edge_api_Edge_122 (I:=I) (a0:=a0) R3 hd
 refine .callS (.f call206 r) .n b r r fun g h i a d=>?_
 obtain ⟨e,rfl,rfl,hd⟩:=d
 replace R3:=R3.mono a
 exact .re (m':=[]) r (.ks 2 r (.nilS [4,1] r r (.ret (oret results135 (.t r .n) a .n ⟨(decide (0≤e)),r,r,hd⟩))))
theorem W_edges_Right {I:IH} {a0:Graph} {p1:Option Addr} {c2:Nat} {Q:Int→Prop} (R3:RepSl eEdge I p1 c2 a0.Edges) (hd:edges_Right a0 Q) :
  PFun prog 126 [.agg #[.int .i64 a0.N,.slice p1 a0.Edges.length c2]] I (fun _=>o0_ Q):=by
 refine Fun.enter func126 r ntmps126 r (.c .n) fun w0 M=>?_
 refine .sr (.boxA r r r fun a=>?_)
 refine .ks 1 r (.nilS [1] r r (.sr (.mkFn r r r r (.alloc1 zeroValue228 r r r fun d=>?_))))
 refine .store1 sizeOf228 r r .z (.t .nil) r (.nilS [3,1] r r (.seq (.block (.sr (.fa un24 r sz3 r (o:=0) r r r (.load1 ia3 r (.s .z) r r r (.ks 2 r (.nilS [5,3,1] r r (.condP r hd (fun k hd=>?_) fun k hd=>?_)))))))))
 · exact .sr (.ks 1 r (.nilS [2] r r (.drop .z (.drop .z (.ret (pret results126 (.t r .n) (.refl _) ⟨3,r,hd⟩))))))
 refine .seq ?_
 refine Cod.joinQ (σ:=Bool) hd (fun (j:Bool) c w=>∃ I_,IH.le I I_∧Ok ⟨26,[],none⟩ [(1,.pointer (some ⟨a,0,none⟩)),(3,.pointer (some ⟨d,0,none⟩)),(9,.bool j)] c∧Sym w0 M I I_ [pto a (.cells #[.int .i64 a0.N,.slice p1 a0.Edges.length c2] 24 (0,0)),pto d (.cells #[.func (.func 192) #[] #[.pointer (some ⟨a,0,none⟩)]] 228 (0,0))] w) (fun C hd=>?_) ?_
 · skip
   refine .sr (.fa un24 r sz3 r (o:=0) r r r (.load1 ia3 r (.s .z) r r r (.ks 2 r (.nilS [9,3,1] r r (.condP r hd (fun l hd=>?_) fun l hd=>?_)))))
   · exact .skip' fun c w ho hs=>⟨(decide (4096<a0.N)),hd,I,(.refl _),ho.sub ⟨r,r,r,trivial⟩,hs.pick (.c (.s .z) (.c .z .n))⟩
   exact .region (.fa un24 r sz22 r (o:=1) r r r (.load1 ia22 r (.s .z) r r r (.len un22 r r r r (.ks 2 r (.nil' fun c w ho hs=>⟨(decide (65536<(a0.Edges.length:Int))),hd,I,(.refl _),ho.sub ⟨r,r,r,trivial⟩,hs.pick (.c (.s .z) (.c .z .n))⟩)))))
 rintro j hd c w hst
 obtain ⟨A,b,hok,hsym⟩:=hst
 replace R3:=R3.mono b
 refine Cod.at hok hsym (.condP r hd (fun m hd=>?_) fun m hd=>?_)
 · exact .sr (.ks 1 r (.nilS [2] r r (.drop .z (.drop .z (.ret (pret results126 (.t r .n) b ⟨5,r,hd⟩))))))
 refine .sr (.fa un24 r sz22 r (o:=1) r r r (.load1 ia22 r .z r r r (.mkFn r r r r ?_)))
 have p:=W_slices_ContainsFunc_api_Edge_api_Edge_87a (I:=A) (o1:=a0) (a0:=a0.Edges) (b3:=d) (b4:=a) (p5:=p1) (c6:=c2) R3 R3 hd
 refine .callS (.f call135 r) (.c (.s .z) (.c .z .n)) p r r fun D B E e q=>?_
 obtain ⟨F,rfl,rfl,hd⟩:=q
 have g:=IH.le.trans b e
 replace R3:=R3.mono e
 refine .re (m':=[pto d (.cells #[.func (.func 192) #[] #[.pointer (some ⟨a,0,none⟩)]] 228 (0,0)),pto a (.cells #[.int .i64 a0.N,.slice p1 a0.Edges.length c2] 24 (0,0))]) r (.ks 1 r (.nilS [17,1] r r (.drop .z (.condP r hd (fun u hd=>?_) fun u hd=>?_))))
 · exact .sr (.ks 1 r (.nilS [2] r r (.drop .z (.ret (pret results126 (.t r .n) g ⟨3,r,hd⟩)))))
 refine .sr (.fa un24 r sz22 r (o:=1) r r r (.load1 ia22 r .z r r r ?_))
 have v:=W_slices_ContainsFunc_api_Edge_api_Edge_126 (I:=B) (a0:=a0.Edges) R3 hd
 refine .callS (.f call135 r) .n v r r fun G H J h x=>?_
 obtain ⟨K,rfl,rfl,hd⟩:=x
 have i:=IH.le.trans g h
 replace R3:=R3.mono h
 refine .re (m':=[pto a (.cells #[.int .i64 a0.N,.slice p1 a0.Edges.length c2] 24 (0,0))]) r (.ks 1 r (.nilS [22] r r (.drop .z (.condP r hd (fun y hd=>?_) fun y hd=>?_))))
 · exact .sr (.ks 1 r (.nilS [2] r r (.ret (pret results126 (.t r .n) i ⟨7,r,hd⟩))))
 exact .skipS [] r r (.sr (.ks 1 r (.nilS [2] r r (.ret (pret results126 (.t r .n) i ⟨0,r,hd⟩)))))
theorem W_edges_ends {I:IH} {a0:Edge} {a1:Edge} {Q:Int→Prop}  (hd:edges_ends a0 a1 Q) :
  PFun prog 259 [.agg (encEdge a0).toArray,.agg (encEdge a1).toArray] I (fun _=>o0_ Q):=by
 refine Fun.enter func259 r ntmps259 r (.c (.c .n)) fun w0 M=>?_
 refine .sr (.boxA r r r fun y=>?_)
 refine .boxA r r r fun A=>?_
 refine .ks 1 r (.nilS [3,2] r r (.seq (.dr [0,1,2,3,5,6,7,8,4,9,10,11] 12 (.g r r r (fun _=>.fa un27 r sz3 r (o:=0) r r r .mk) (.g r r r (fun _=>.load1 ia3 r (.s .z) r r r .mk) (.g r r r (fun _=>.fa un27 r sz3 r (o:=0) r r r .mk) (.g r r r (fun _=>.load1 ia3 r .z r r r .mk) (.g r r r (fun _=>.fa un27 r sz3 r (o:=1) r r r .mk) (.g r r r (fun _=>.load1 ia3 r (.s .z) r r r .mk) ?_)))))))))
 refine .g r r r (fun _=>.fa un27 r sz3 r (o:=1) r r r .mk) (.g r r r (fun _=>.load1 ia3 r .z r r r .mk) (.ww r fun ex=>?_))
 have b:=W_cmp_Compare_int (I:=I) hd
 refine .callP call232 r b r r fun u d=>?_
 obtain ⟨l,rfl,hd⟩:=d
 refine .so 2 r r r (.cg r r r r (fun _=>.load1 ia3 r .z r r r .mk) (.cg r r r r (fun _=>.fa un27 r sz3 r (o:=1) r r r .mk) (.cg r r r r (fun _=>.load1 ia3 r (.s .z) r r r .mk) (.cg r r r r (fun _=>.fa un27 r sz3 r (o:=1) r r r .mk) trivial)))) (.ww r fun ex=>?_)
 have e:=W_cmp_Compare_int (I:=I) hd
 refine .callP call232 r e r r fun v f=>?_
 obtain ⟨a,rfl,hd⟩:=f
 refine .so 2 r r r trivial (.ww r fun ex=>?_)
 refine .buildSlice 2 un29 sz3 zv3 r r (.c r r r (.c r r r .n)) r r fun w=>?_
 refine .so 3 r r r trivial (.ww r fun ex=>?_)
 refine .pubB (El:=eI64) (ys:=([l,a]:List Int)) (k:=2) .z (RepCs.cons (cs:=[.int .i64 l]) r (RepCs.cons (cs:=[.int .i64 a]) r .nil)) r fun m h p=>?_
 have i:=W_cmp_Or_int (I:=m) p hd
 refine .callP call231 r i r r fun x j=>?_
 obtain ⟨q,rfl,hd⟩:=j
 exact .so 2 r r r trivial (.e2 12 (.ks 1 r (.nilS [4] r r (.drop .z (.drop .z (.ret (pret results259 (.t r .n) h ⟨q,r,hd⟩)))))))
theorem W_edges_order {I:IH} {a0:Edge} {a1:Edge} {Q:Int→Prop}  (hd:edges_order a0 a1 Q) :
  PFun prog 242 [.agg (encEdge a0).toArray,.agg (encEdge a1).toArray] I (fun _=>o0_ Q):=by
 refine Fun.enter func242 r ntmps242 r (.c (.c .n)) fun w0 M=>?_
 refine .sr (.boxA r r r fun y=>?_)
 refine .boxA r r r fun A=>?_
 refine .ks 1 r (.nilS [3,2] r r (.seq (.dr [0,1,3,4,5,6,2,7,8,9] 10 (.g r r r (fun _=>.loadW ia27 sz27 r (.s .z) r r r .mk) (.g r r r (fun _=>.loadW ia27 sz27 r .z r r r .mk) (.g r r r (fun _=>.fa un27 r sz2 r (o:=2) r r r .mk) (.g r r r (fun _=>.load1 ia2 r (.s .z) r r r .mk) (.g r r r (fun _=>.fa un27 r sz2 r (o:=2) r r r .mk) (.g r r r (fun _=>.load1 ia2 r .z r r r .mk) ?_)))))))))
 refine .ww r fun ex=>?_
 have b:=W_edges_ends (I:=I) hd
 refine .callP call259 r b r r fun u d=>?_
 obtain ⟨l,rfl,hd⟩:=d
 refine .so 2 r r r (.cg r r r r (fun _=>.load1 ia2 r .z r r r .mk) (.cg r r r r (fun _=>.fa un27 r sz2 r (o:=2) r r r .mk) (.cg r r r r (fun _=>.load1 ia2 r (.s .z) r r r .mk) (.cg r r r r (fun _=>.fa un27 r sz2 r (o:=2) r r r .mk) trivial)))) (.ww r fun ex=>?_)
 have e:=W_cmp_Compare_int64 (I:=I) hd
 refine .callP call260 r e r r fun v f=>?_
 obtain ⟨a,rfl,hd⟩:=f
 refine .so 2 r r r trivial (.ww r fun ex=>?_)
 refine .buildSlice 2 un29 sz3 zv3 r r (.c r r r (.c r r r .n)) r r fun w=>?_
 refine .so 3 r r r trivial (.ww r fun ex=>?_)
 refine .pubB (El:=eI64) (ys:=([l,a]:List Int)) (k:=2) .z (RepCs.cons (cs:=[.int .i64 l]) r (RepCs.cons (cs:=[.int .i64 a]) r .nil)) r fun m h p=>?_
 have i:=W_cmp_Or_int (I:=m) p hd
 refine .callP call231 r i r r fun x j=>?_
 obtain ⟨q,rfl,hd⟩:=j
 exact .so 2 r r r trivial (.e2 10 (.ks 1 r (.nilS [4] r r (.drop .z (.drop .z (.ret (pret results242 (.t r .n) h ⟨q,r,hd⟩)))))))
theorem W_edges_Combine {I:IH} {a0:Int} {a1:List Edge} {p1:Option Addr} {c2:Nat} {Q:((List Edge)×Int)→Prop} (R3:RepSl eEdge I p1 c2 a1) (hd:edges_Combine a0 a1 Q) :
  PFun prog 200 [.int .i64 a0,.slice p1 a1.length c2] I (fun I_ v=>∃ r p4 c5,v=.tuple #[.slice p4 r.1.length c5,.int .i64 r.2]∧RepSl eEdge I_ p4 c5 r.1∧Q r):=by
 refine Fun.enter func200 r ntmps200 r (.c (.c .n)) fun w0 M=>?_
 refine .sr (.ks 2 r (.nilS [1,0] r r (.seq (.sr (.ks 1 r ?_)))))
 have b7:=W_ring_Is (I:=I) hd
 refine .callP call102 r b7 r r fun f2 b8=>?_
 obtain ⟨f3,rfl,hd⟩:=b8
 refine .ks 1 r (.nilS [20,1,0] r r (.condP r hd (fun b9 hd=>?_) fun b9 hd=>?_))
 · exact .sr (.ks 2 r (.nilS [5,4] r r (.ret (pret results200 (.t r (.t r .n)) (.refl _) ⟨(([]:List Edge),8),_,_,r,(.nil _ _ _),hd⟩))))
 refine .skipS [1,0] r r (.sr (.mkMap kArr2 eWide true r r fun K=>?_))
 refine .ks 1 r (.nilS [6,1,0] r r (.seq (.sr (.ks 1 r (.len un22 r r r r (.ks 1 r (.nilS [24,23,22,6,0] r r (.block (.loop hd (fun (s:(List ((Int×Int)×Wide))×Int) c w=>match s with | (j,m)=>∃ I_,IH.le I I_∧Ok ⟨78,[],none⟩ [(0,.int .i64 a0),(6,.map (some K)),(22,.slice p1 a1.length c2),(23,.int .i64 (a1.length:Int)),(24,.int .i64 m)] c∧Sym w0 M I I_ [OwnMap kArr2 eWide true K j] w) (fun c w ho hs=>⟨I,(.refl _),ho.sub ⟨r,r,r,r,r,trivial⟩,hs.pick (.c .z .n)⟩) ?_)))))))))
 rintro ⟨j,m⟩ c4 hd c w hst
 obtain ⟨d,h,hok,hsym⟩:=hst
 replace R3:=R3.mono h
 refine Cod.at hok hsym (.sr (.ks 1 r (.nilS [25,24,23,22,6,0] r r (.seq (.condP r hd (fun R hd=>?_) fun R hd=>?_)))))
 · refine .skipS [24,23,22,6,0] r r (.seq (.block (.sr ?_)))
   obtain ⟨L,b,E,hd⟩:=hd
   obtain ⟨d1,o325,c7,c0,S,U⟩:=R3.2 _ _ E
   cases U
   refine .ixa un22 sz27 r c0 r L (idx_lt E L) r r (.ldW ia27 sz27 S r r r r (.allocA zv27 r r fun d2=>?_))
   refine .storeA sz27 r r .z (.t (.t (.t .nil))) r r (.nilS [8,24,23,22,6,0] r r (.sr (.fa un27 r sz3 r (o:=0) r r r (.load1 ia3 r .z r r r (.fa un27 r sz3 r (o:=1) r r r (.load1 ia3 r .z r r r (.buildArr zv169 un169 sz3 (.c r r r (.t .nil) (.c r r r (.s (.t .nil)) .n)) r r (.allocA zv169 r r fun d3=>?_))))))))
   refine .storeA sz169 r r .z (.t (.t .nil)) r r (.nilS [9,8,24,23,22,6,0] r r (.sr (.fa un27 r sz2 r (o:=2) r r r (.load1 ia2 r (.s .z) r r r ?_))))
   have V:=W_wide_Of (I:=d) hd
   refine .callP call149 r V r r fun d4 X=>?_
   obtain ⟨p,rfl,hd⟩:=X
   refine .allocA zv127 r r fun d5=>?_
   refine .storeA sz127 r r .z (.t (.t .nil)) r r (.nilS [10,9,24,23,22,6,0] r r (.drop (.s (.s .z)) (.seq (.sr (.ks 1 r (.loadW isAgg169 sz169 r (.s .z) r r r (.lookM2 (k:=(b.From,b.To)) (El:=eWide) (ag:=true) (zv:=.agg #[.int .i64 0,.int .u64 0]) (z:=({ Hi:=0,Lo:=0 }:Wide)) KA169 un247 zv127 ⟨[.int .i64 0,.int .u64 0],r,.a⟩ (.s (.s .z)) r r hd r r fun d6 d7 d8 c8 hd Y Z=>?_)))))))
   cases Y
   cases Z
   refine .ks 3 r (.allocA zv127 r r fun d9=>?_)
   refine .storeA sz127 r r .z (.t (.t .nil)) r r (.ks 1 r (.nilS [12,11,10,9,24,23,22,6,0] r r (.sr (.ks 1 r (.nilS [42,11,10,9,24,23,22,6,0] r r (.condP r hd (fun a2 hd=>?_) fun a2 hd=>?_))))))
   · refine .region (.ks 1 r (.loadW ia127 sz127 r .z r r r (.loadW ia127 sz127 r (.s .z) r r r ?_)))
     have a3:=W_ring_Add (I:=d) hd
     refine .callP call147 r a3 r r fun e0 a4=>?_
     obtain ⟨q,rfl,hd⟩:=a4
     refine .storeA sz127 r r (.s .z) (.t (.t .nil)) r r (.nilS [10,9,24,23,22,6,0] r r (.drop .z (.region (.ks 1 r (.loadW isAgg169 sz169 r (.s .z) r r r (.loadW ia127 sz127 r .z r r r (.updM (k:=(b.From,b.To)) (El:=eWide) (ag:=true) (v:=q) KA169 un247 (.s (.s .z)) r r r ⟨[.int .i64 q.Hi,.int .u64 q.Lo],r,.a⟩ (.nilS [24,23,22,6,0] r r (.drop .z ?_)))))))))
     exact .drop .z (.region (.ks 2 r (.nil' fun c w ho hs=>⟨((mput (b.From,b.To) q j),w64 (m+1)),hd,d,h,ho.sub ⟨r,r,r,r,r,trivial⟩,hs.pick (.c .z .n)⟩)))
   refine .skipS [10,9,24,23,22,6,0] r r (.drop .z (.region (.ks 1 r (.loadW isAgg169 sz169 r (.s .z) r r r (.loadW ia127 sz127 r .z r r r (.updM (k:=(b.From,b.To)) (El:=eWide) (ag:=true) (v:=p) KA169 un247 (.s (.s .z)) r r r ⟨[.int .i64 p.Hi,.int .u64 p.Lo],r,.a⟩ (.nilS [24,23,22,6,0] r r (.drop .z (.drop .z ?_)))))))))
   exact .region (.ks 2 r (.nil' fun c w ho hs=>⟨((mput (b.From,b.To) p j),w64 (m+1)),hd,d,h,ho.sub ⟨r,r,r,r,r,trivial⟩,hs.pick (.c .z .n)⟩))
 refine .exitS [6,0] r r (.sr (.ks 1 r (.nilS [13,6,0] r r (.seq (.sr (.ks 1 r (.rangeM un247 .z r r r fun N=>?_)))))))
 refine .nilS [52,13,0] r r (.block (.own0 eEdge 27 (.loop hd (fun (s:(List Edge)×(List ((Int×Int)×Wide))) c w=>match s with | (u,O)=>∃ I_ e g,IH.le d I_∧Ok ⟨78,[],none⟩ [(0,.int .i64 a0),(13,.slice e u.length g),(52,.pointer (some ⟨N,0,none⟩))] c∧Sym w0 M I I_ [OwnSl eEdge 27 e g u,OwnIt kArr2 eWide true K N j O none] w) (fun c w ho hs=>⟨d,_,_,(.refl _),ho.sub ⟨r,r,r,trivial⟩,hs.pick (.c .z (.c .z .n))⟩) ?_)))
 rintro ⟨u,O⟩ c6 hd c w hst
 obtain ⟨C,e,g,A,hok,hsym⟩:=hst
 have F:=IH.le.trans h A
 refine Cod.at hok hsym (.sr (.nextM (.s .z) r hd r r (fun hd a5=>?_) (fun B c1 e1 c9 hd a6 a7 a5=>?_)))
 · skip
   refine .ks 1 r (.nilS [54,52,13,0] r r (.seq (.condKF r r (.exitS [13] r r (.drop (.s .z) (.sr (.ks 1 r ?_)))))))
   have a8:=Fun.sort (hk:=fun _=>⟨r,r⟩) SL241 ia27 sz27 (fun x y J Q hq=>W_edges_order (I:=J) (a0:=x) (a1:=y) (Q:=Q) hq) call242 (I:=C) (T:=27) (a:=e) (cap:=g) hd
   refine .callS (.f call241 r) (.c .z .n) a8 r r fun e2 e3 e4 G a9=>?_
   obtain ⟨D,rfl,l,rfl,hd⟩:=a9
   have b0:=IH.le.trans F G
   have b1:=IH.le.trans A G
   refine .sub (E':=[(13,.slice e D.length g),(75,.slice e D.length g),(76,_)]) ⟨(by rw [l]; rfl),(by rw [l]; rfl),r,trivial⟩ (.nilS [13] r r (.sr (.ks 3 r (.nilS [5,4] r r (.pub .z fun e5 H c3=>?_)))))
   have b2:=IH.le.trans b0 H
   have d0:=IH.le.trans b1 H
   exact .ret (pret results200 (.t r (.t r .n)) b2 ⟨(D,0),_,_,r,c3,hd⟩)
 cases a6
 cases a7
 refine .ks 1 r (.nilS [54,52,13,0] r r (.seq (.condKT r r (.skipS [52,13,0] r r (.block (.sr (.entryM .z r r r (.ks 2 r (.allocA zv169 r r fun e6=>?_)))))))))
 refine .allocA zv127 r r fun e7=>?_
 refine .storeA sz169 r r (.s .z) (.t (.t .nil)) r r (.storeA sz127 r r .z (.t (.t .nil)) r r (.nilS [15,14,52,13,0] r r (.sr (.ks 1 r (.loadW ia127 sz127 r .z r r r ?_)))))
 have b3:=W_ring_Narrow (I:=C) hd
 refine .callP call110 r b3 r r fun e8 b4=>?_
 obtain ⟨P,rfl,hd⟩:=b4
 refine .ks 5 r (.nilS [17,16,14,52,13,0] r r (.drop .z (.seq (.sr (.ks 2 r (.nilS [65,16,14,52,13,0] r r (.condP r hd (fun b5 hd=>?_) fun b5 hd=>?_)))))))
 · exact .sr (.ks 2 r (.nilS [5,4] r r (.drop .z (.drop .z (.drop .z (.ret (pret results200 (.t r (.t r .n)) F ⟨(([]:List Edge),12),_,_,r,(.nil _ _ _),hd⟩)))))))
 refine .skipS [16,14,52,13,0] r r (.region (.ks 1 r (.ixArr (i:=0) un169 sz3 r r (by decide) (o:=0) r r r (.load1 ia3 r .z r r r (.ixArr (i:=1) un169 sz3 r r (by decide) (o:=1) r r r (.load1 ia3 r .z r r r (.ks 1 r (.build zv27 un27 BI27 (.c r r r (.t .nil) (.c r r r (.s (.t .nil)) (.c r r r (.s (.s (.t .nil))) .n))) (by exact ⟨⟨_,_,r,r,r⟩,⟨⟨_,_,r,r,r⟩,⟨⟨_,_,r,r,r⟩,trivial⟩⟩⟩) r r (.buildSlice 1 un22 sz27 zv27 r r (.c r r r .n) r r fun e9=>?_)))))))))
 obtain ⟨b6,hd⟩:=hd
 refine .append (ys:=[({ From:=B.1.1,To:=B.1.2,W:=P.1 }:Edge)]) 24 (.s (.s (.s .z))) un22 un22 IN27 r r r r r r r r r (.box .z (.one r) r) b6 r r fun f0 f1=>?_
 exact .ks 1 r (.nil' fun c w ho hs=>⟨((u++([({ From:=B.1.1,To:=B.1.2,W:=P.1 }:Edge)])),c1),hd,C,_,_,A,ho.sub ⟨r,r,r,trivial⟩,hs.pick (.c .z (.c (.s (.s .z)) .n))⟩)
theorem W_edges_Canon {I:IH} {a0:Graph} {p1:Option Addr} {c2:Nat} {Q:Graph→Prop} (R3:RepSl eEdge I p1 c2 a0.Edges) (hd:edges_Canon a0 Q) :
  PFun prog 131 [.agg #[.int .i64 a0.N,.slice p1 a0.Edges.length c2]] I (o12_ Q):=by
 refine Fun.enter func131 r ntmps131 r (.c .n) fun w0 M=>?_
 refine .sr (.boxA r r r fun g=>?_)
 refine .allocA zv24 r r fun h=>?_
 refine .nilS [2,1] r r (.sr (.fa un24 r sz22 r (o:=1) r r r (.load1 ia22 r (.s .z) r r r ?_)))
 have b:=W_edges_Combine (I:=I) R3 hd
 refine .call call200 r b r r fun i j a d=>?_
 obtain ⟨e,k,l,rfl,f,hd⟩:=d
 replace R3:=R3.mono a
 refine .ks 5 r (.nilS [3,2,1] r r (.sr (.fa un24 r sz3 r (o:=0) r r r (.load1 ia3 r (.s .z) r r r (.ks 1 r (.build zv24 un24 BI24 (.c r r r (.t .nil) (.c r r r (.s (.t .nil)) .n)) (by exact ⟨⟨_,_,r,r,r⟩,⟨⟨_,_,r,r,r⟩,trivial⟩⟩) r r (.storeA sz24 r r .z (.t (.t .nil)) r r (.nilS [2] r r (.drop (.s .z) ?_)))))))))
 exact .ret (pret results131 (.w ia24 sz24 r .z r .n) a ⟨({ N:=a0.N,Edges:=e.1 }:Graph),_,_,r,f,hd⟩)
theorem W_edges_Simple_1_100 {I:IH} {a0:Edge} {Q:(Edge×Bool)→Prop}  (hd:edges_Simple_1_100 a0 Q) :
  Fun prog 196 #[.agg (encEdge a0).toArray] I [] (fun I_ v l=>∃ r,v=.tuple #[.agg (encEdge r.1).toArray,.bool r.2]∧l=[]∧Q r):=by
 refine Fun.enter (vs:=[.agg (encEdge a0).toArray]) func196 r ntmps196 r (.c .n) fun w0 M=>?_
 refine .sr (.boxA r r r fun a=>?_)
 refine .allocA zv27 r r fun b=>?_
 refine .ks 1 r (.nilS [2,1] r r (.seq (.dr [0,1,2,3,4,5,6] 7 (.g r r r (fun _=>.loadW ia27 sz27 r (.s .z) r r r .mk) (.g r r r (fun _=>.fa un27 r sz3 r (o:=0) r r r .mk) (.g r r r (fun _=>.load1 ia3 r (.s .z) r r r .mk) (.g r r r (fun _=>.fa un27 r sz3 r (o:=1) r r r .mk) (.g r r r (fun _=>.load1 ia3 r (.s .z) r r r .mk) (.fk 1 r ?_)))))))))
 refine .ww r fun ex=>?_
 exact .storeA sz27 r r .z (.t (.t (.t .nil))) r r (.sn 2 r r r (.ck 1 r r (.cg r r r r (fun _=>.load1 ia3 r (.s .z) r r r .mk) (.cg r r r r (fun _=>.fa un27 r sz3 r (o:=1) r r r .mk) (.cg r r r r (fun _=>.load1 ia3 r (.s .z) r r r .mk) (.cg r r r r (fun _=>.fa un27 r sz3 r (o:=0) r r r .mk) trivial))))) (.e2 7 (.ks 1 r (.nilS [3,2] r r (.drop (.s .z) (.ret (oret results196 (.w ia27 sz27 r .z r (.t r .n)) (.refl _) .n ⟨(a0,a0.From != a0.To),r,r,hd⟩)))))))
theorem W_edges_made_71c {I:IH} {a0:Graph} {p1:Option Addr} {c2:Nat} {Q:Graph→Prop} (R3:RepSl eEdge I p1 c2 a0.Edges) (hd:edges_made_71c a0 Q) :
  Fun prog 195 #[.agg #[.int .i64 a0.N,.slice p1 a0.Edges.length c2],.func (.func 196) #[] #[]] I [] (fun I_ v l=>∃ r p4 c5,v=.agg #[.int .i64 r.N,.slice p4 r.Edges.length c5]∧RepSl eEdge I_ p4 c5 r.Edges∧l=[]∧Q r):=by
 refine Fun.enter (vs:=[.agg #[.int .i64 a0.N,.slice p1 a0.Edges.length c2],.func (.func 196) #[] #[]]) func195 r ntmps195 r (.c (.c .n)) fun w0 M=>?_
 refine .sr (.boxA r r r fun O=>?_)
 refine .allocA zv24 r r fun q=>?_
 refine .nilS [4,2,1] r r (.sr (.ks 1 r (.nilS [5,4,2,1] r r (.seq (.sr (.fa un24 r sz22 r (o:=1) r r r (.load1 ia22 r (.s .z) r r r (.len un22 r r r r (.ks 1 r ?_)))))))))
 refine .nilS [13,12,11,5,4,2,1] r r (.block (.own0 eEdge 27 (.loop hd (fun (s:(List Edge)×Int) c w=>match s with | (a,b)=>∃ I_ d e,IH.le I I_∧Ok ⟨34,[],none⟩ [(1,.func (.func 196) #[] #[]),(2,.pointer (some ⟨O,0,none⟩)),(4,.pointer (some ⟨q,0,none⟩)),(5,.slice d a.length e),(11,.slice p1 a0.Edges.length c2),(12,.int .i64 (a0.Edges.length:Int)),(13,.int .i64 b)] c∧Sym w0 M I I_ [pto O (.cells #[.int .i64 a0.N,.slice p1 a0.Edges.length c2] 24 (0,0)),pto q (.cells #[.int .i64 0,.slice none 0 0] 24 (0,0)),OwnSl eEdge 27 d e a] w) (fun c w ho hs=>⟨I,_,_,(.refl _),ho.sub ⟨r,r,r,r,r,r,r,trivial⟩,hs.pick (.c (.s (.s .z)) (.c (.s .z) (.c .z .n)))⟩) ?_)))
 rintro ⟨a,b⟩ X hd c w hst
 obtain ⟨P,d,e,f,hok,hsym⟩:=hst
 replace R3:=R3.mono f
 refine Cod.at hok hsym (.sr (.ks 1 r (.nilS [14,13,12,11,5,4,2,1] r r (.seq (.condP r hd (fun A hd=>?_) fun A hd=>?_)))))
 · refine .skipS [13,12,11,5,4,2,1] r r (.seq (.block (.sr ?_)))
   obtain ⟨u,g,j,hd⟩:=hd
   obtain ⟨Z,o134,Y,R,B,C⟩:=R3.2 _ _ j
   cases C
   refine .ixa un22 sz27 r R r u (idx_lt j u) r r (.ldW ia27 sz27 B r r r r (.allocA zv27 r r fun S=>?_))
   refine .storeA sz27 r r .z (.t (.t (.t .nil))) r r (.nilS [7,13,12,11,5,4,2,1] r r (.sr (.ks 1 r (.loadW ia27 sz27 r .z r r r ?_))))
   have D:=W_edges_Simple_1_100 (I:=P) (a0:=g) hd
   refine .callS (.c call196 r r) .n D r r fun a1 x a2 k E=>?_
   obtain ⟨y,rfl,rfl,hd⟩:=E
   have m:=IH.le.trans f k
   replace R3:=R3.mono k
   refine .re (m':=[pto S (.cells #[.int .i64 g.From,.int .i64 g.To,.int .i64 g.W] 27 (0,0)),pto O (.cells #[.int .i64 a0.N,.slice p1 a0.Edges.length c2] 24 (0,0)),pto q (.cells #[.int .i64 0,.slice none 0 0] 24 (0,0)),OwnSl eEdge 27 d e a]) r (.ks 3 r (.allocA zv27 r r fun a3=>?_))
   refine .storeA sz27 r r .z (.t (.t (.t .nil))) r r (.ks 1 r (.nilS [9,8,13,12,11,5,4,2,1] r r (.drop (.s .z) (.sr (.ks 1 r (.nilS [23,8,13,12,11,5,4,2,1] r r (.condP r hd (fun F hd=>?_) fun F hd=>?_)))))))
   · refine .region (.ks 1 r (.loadW ia27 sz27 r .z r r r (.buildSlice 1 un22 sz27 zv27 r r (.c r r r .n) r r fun a4=>?_)))
     obtain ⟨G,hd⟩:=hd
     refine .append (ys:=[y.1]) 24 (.s (.s (.s (.s .z)))) un22 un22 IN27 r r r r r r r r r (.box .z (.one r) r) G r r fun a5 a6=>?_
     exact .ks 1 r (.nilS [5,13,12,11,4,2,1] r r (.drop (.s .z) (.drop (.s .z) (.region (.ks 2 r (.nil' fun c w ho hs=>⟨((a++([y.1])),w64 (b+1)),hd,x,_,_,m,ho.sub ⟨r,r,r,r,r,r,r,trivial⟩,hs.pick (.c (.s .z) (.c (.s .z) (.c .z .n)))⟩))))))
   exact .skipS [13,12,11,5,4,2,1] r r (.drop .z (.region (.ks 2 r (.nil' fun c w ho hs=>⟨(a,w64 (b+1)),hd,x,_,_,m,ho.sub ⟨r,r,r,r,r,r,r,trivial⟩,hs.pick (.c .z (.c .z (.c .z .n)))⟩))))
 refine .exitS [5,4,2,1] r r (.sr (.fa un24 r sz3 r (o:=0) r r r (.load1 ia3 r .z r r r (.ks 1 r (.build zv24 un24 BI24 (.c r r r (.t .nil) (.c r r r (.s (.t .nil)) .n)) (by exact ⟨⟨_,_,r,r,r⟩,⟨⟨_,_,r,r,r⟩,trivial⟩⟩) r r (.pub (.s (.s .z)) fun T p i=>?_))))))
 have H:=IH.le.trans f p
 replace R3:=R3.mono p
 have J:=W_edges_Canon (I:=T) (a0:=({ N:=a0.N,Edges:=a }:Graph)) i hd
 refine .call call131 r J r r fun a7 a8 h K=>?_
 obtain ⟨U,a9,b0,rfl,V,hd⟩:=K
 have L:=IH.le.trans H h
 replace R3:=R3.mono h
 replace i:=i.mono h
 exact .storeA sz24 r r (.s .z) (.t (.t .nil)) r r (.nilS [4,1] r r (.drop .z (.ret (oret results195 (.w ia24 sz24 r .z r .n) L .n ⟨U,_,_,r,V,r,hd⟩))))
theorem W_edges_Simple {I:IH} {a0:Graph} {p1:Option Addr} {c2:Nat} {Q:Graph→Prop} (R3:RepSl eEdge I p1 c2 a0.Edges) (hd:edges_Simple a0 Q) :
  PFun prog 127 [.agg #[.int .i64 a0.N,.slice p1 a0.Edges.length c2]] I (o12_ Q):=by
 refine Fun.enter func127 r ntmps127 r (.c .n) fun w0 M=>?_
 refine .sr (.boxA r r r fun h=>?_)
 refine .allocA zv24 r r fun i=>?_
 refine .nilS [2,1] r r (.sr (.loadW ia24 sz24 r (.s .z) r r r ?_))
 have b:=W_edges_made_71c (I:=I) (a0:=a0) R3 hd
 refine .callS (.f call195 r) .n b r r fun j k l a d=>?_
 obtain ⟨e,m,o,rfl,g,rfl,hd⟩:=d
 replace R3:=R3.mono a
 exact .re (m':=[pto i (.cells #[.int .i64 0,.slice none 0 0] 24 (0,0)),pto h (.cells #[.int .i64 a0.N,.slice p1 a0.Edges.length c2] 24 (0,0))]) r (.storeA sz24 r r .z (.t (.t .nil)) r r (.nilS [2] r r (.drop (.s .z) (.ret (pret results127 (.w ia24 sz24 r .z r .n) a ⟨e,_,_,r,g,hd⟩)))))
theorem W_slices_Grow_api_Edge_api_Edge {I:IH} {a1:Int} {Q:(List Edge)→Prop}  (hd:slices_Grow_api_Edge_api_Edge a1 Q) :
  OFun prog 239 [.slice none 0 0,.int .i64 a1] I (fun I_ v l=>∃ r p1 c2,v=.slice p1 r.length c2∧l=[OwnSl eEdge 27 p1 c2 r]∧Q r):=by
 refine Fun.enter func239 r ntmps239 r (.c (.c .n)) fun w0 M=>?_
 refine .sr (.ks 1 r (.nilS [1,0] r r (.seq (.sr (.ks 2 r (.nilS [6,1,0] r r (.condP r hd (fun a hd=>?_) fun a hd=>?_)))))))
 · refine .region ?_
   exact hd.elim
 refine .skipS [1,0] r r (.seq (.sr (.ks 2 r (.capOf un22 r r r r (.ks 1 r (.len un22 r r r r (.ks 3 r (.nilS [1,0] r r (.sr ?_)))))))))
 refine .ks 2 r (.nilS [16,1,0] r r (.condP r hd (fun b hd=>?_) fun b hd=>?_))
 · refine .region (.ks 2 r (.capOf un22 r r r r (.slZ un22 sz27 r r (Nat.le_refl _) r r r (.ks 1 r ?_))))
   obtain ⟨e,f,hd⟩:=hd
   refine .growN eEdge 24 un22 un3 IN27 r r r r r r r r e f r r fun h g d=>?_
   exact .ks 1 r (.len un22 r r r r (.slZ un22 sz27 r r d map_add0 r r (.ks 1 r (.nilS [0] r r (.sr (.ks 2 r (.nilS [4] r r (.ret (oret results239 (.t r .n) (.refl _) (.c .z .n) ⟨([]:List Edge),_,_,r,r,hd⟩)))))))))
 exact .skipS [0] r r (.sr (.ks 2 r (.nilS [4] r r (.own0 eEdge 27 (.ret (oret results239 (.t r .n) (.refl _) (.c .z .n) ⟨([]:List Edge),_,_,r,r,hd⟩))))))
theorem W_slices_Concat_api_Edge_api_Edge {I:IH} {a0:List (List Edge)} {p1:Option Addr} {c2:Nat} {Q:(List Edge)→Prop} (R3:RepSl (slEl eEdge) I p1 c2 a0) (hd:slices_Concat_api_Edge_api_Edge a0 Q) :
  PFun prog 197 [.slice p1 a0.length c2] I (fun I_ v=>∃ r p4 c5,v=.slice p4 r.length c5∧RepSl eEdge I_ p4 c5 r∧Q r):=by
 refine Fun.enter func197 r ntmps197 r (.c .n) fun w0 M=>?_
 refine .sr (.ks 1 r (.nilS [0] r r (.sr (.ks 1 r (.nilS [3,0] r r (.seq (.sr (.ks 1 r (.len underlying252 r r r r ?_)))))))))
 refine .ks 1 r (.nilS [11,10,9,3,0] r r (.block (.loop hd (fun (s:Int×Int) c w=>match s with | (e,f)=>∃ I_,IH.le I I_∧Ok ⟨36,[],none⟩ [(0,.slice p1 a0.length c2),(3,.int .i64 e),(9,.slice p1 a0.length c2),(10,.int .i64 (a0.length:Int)),(11,.int .i64 f)] c∧Sym w0 M I I_ [] w) (fun c w ho hs=>⟨I,(.refl _),ho.sub ⟨r,r,r,r,r,trivial⟩,hs.pick .n⟩) ?_)))
 rintro ⟨e,f⟩ W hd c w hst
 obtain ⟨p,d,hok,hsym⟩:=hst
 replace R3:=R3.mono d
 refine Cod.at hok hsym (.sr (.ks 1 r (.nilS [12,11,10,9,3,0] r r (.seq (.condP r hd (fun A hd=>?_) fun A hd=>?_)))))
 · refine .skipS [11,10,9,3,0] r r (.seq (.block (.sr ?_)))
   obtain ⟨q,P,k,hd⟩:=hd
   obtain ⟨a2,o182,Y,R,B,C⟩:=R3.2 _ _ k
   obtain ⟨a3,a4,rfl,a5⟩:=C
   refine .ixa underlying252 sz22 r R r q (idx_lt k q) r r (.ld1 (j:=0) ia22 B r r r r r (.ks 1 r (.nilS [5,11,10,9,3,0] r r (.sr (.ks 2 r (.len un22 r r r r (.ks 2 r (.nilS [3,11,10,9,0] r r (.sr ?_)))))))))
   refine .ks 2 r (.nilS [20,3,11,10,9,0] r r (.condP r hd (fun D hd=>?_) fun D hd=>?_))
   · refine .region ?_
     exact hd.elim
   exact .skipS [3,11,10,9,0] r r (.region (.ks 2 r (.nil' fun c w ho hs=>⟨(w64 (e+(P.length:Int)),w64 (f+1)),hd,p,d,ho.sub ⟨r,r,r,r,r,trivial⟩,hs.pick .n⟩)))
 refine .exitS [3,0] r r (.sr (.ks 1 r ?_))
 have E:=W_slices_Grow_api_Edge_api_Edge (I:=p) hd
 refine .callO call239 r E r r fun a6 u a7 l F=>?_
 obtain ⟨a8,a9,b0,rfl,rfl,hd⟩:=F
 have G:=IH.le.trans d l
 replace R3:=R3.mono l
 refine .ks 1 r (.nilS [6,0] r r (.seq (.sr (.ks 1 r (.len underlying252 r r r r (.ks 1 r (.nilS [27,26,25,6] r r (.block (.loop hd (fun (s:(List Edge)×Int) c w=>match s with | (b,g)=>∃ I_ h i,IH.le u I_∧Ok ⟨36,[],none⟩ [(6,.slice h b.length i),(25,.slice p1 a0.length c2),(26,.int .i64 (a0.length:Int)),(27,.int .i64 g)] c∧Sym w0 M I I_ [OwnSl eEdge 27 h i b] w) (fun c w ho hs=>⟨u,_,_,(.refl _),ho.sub ⟨r,r,r,r,trivial⟩,hs.pick (.c .z .n)⟩) ?_)))))))))
 rintro ⟨b,g⟩ X hd c w hst
 obtain ⟨S,h,i,a,hok,hsym⟩:=hst
 have H:=IH.le.trans G a
 replace R3:=R3.mono a
 refine Cod.at hok hsym (.sr (.ks 1 r (.nilS [28,27,26,25,6] r r (.seq (.condP r hd (fun J hd=>?_) fun J hd=>?_)))))
 · refine .skipS [27,26,25,6] r r (.seq (.block (.sr ?_)))
   obtain ⟨x,y,m,hd⟩:=hd
   obtain ⟨b1,o281,Z,T,K,L⟩:=R3.2 _ _ m
   obtain ⟨b2,b3,rfl,U⟩:=L
   refine .ixa underlying252 sz22 r T r x (idx_lt m x) r r (.ld1 (j:=0) ia22 K r r r r r (.ks 1 r (.nilS [8,27,26,25,6] r r (.region (.ks 2 r ?_)))))
   obtain ⟨N,hd⟩:=hd
   refine .append (ys:=y) 24 .z un22 un22 IN27 r r r r r r r r r (.imm U r) N r r fun b4 b5=>?_
   exact .ks 1 r (.nilS [6,27,26,25] r r (.region (.ks 2 r (.nil' fun c w ho hs=>⟨((b++y),w64 (g+1)),hd,S,_,_,a,ho.sub ⟨r,r,r,r,trivial⟩,hs.pick (.c .z .n)⟩))))
 refine .exitS [6] r r (.sr (.ks 2 r (.nilS [2] r r (.pub .z fun b6 o V=>?_))))
 have O:=IH.le.trans H o
 have a1:=IH.le.trans a o
 exact .ret (pret results197 (.t r .n) O ⟨b,_,_,r,V,hd⟩)
theorem W_edges_turned_87e {I:IH} {a0:Edge} {Q:(Edge×Bool)→Prop}  (hd:edges_turned_87e a0 Q) :
  Fun prog 240 #[.agg (encEdge a0).toArray] I [] (fun I_ v l=>∃ r,v=.tuple #[.agg (encEdge r.1).toArray,.bool r.2]∧l=[]∧Q r):=by
 refine Fun.enter (vs:=[.agg (encEdge a0).toArray]) func240 r ntmps240 r (.c .n) fun w0 M=>?_
 refine .sr (.boxA r r r fun a=>?_)
 refine .allocA zv27 r r fun b=>?_
 refine .ks 1 r (.nilS [2,1] r r (.sr (.fa un27 r sz3 r (o:=1) r r r (.load1 ia3 r (.s .z) r r r (.fa un27 r sz3 r (o:=0) r r r (.load1 ia3 r (.s .z) r r r (.fa un27 r sz2 r (o:=2) r r r (.load1 ia2 r (.s .z) r r r (.build zv27 un27 BI27 (.c r r r (.t .nil) (.c r r r (.s (.t .nil)) (.c r r r (.s (.s (.t .nil))) .n))) (by exact ⟨⟨_,_,r,r,r⟩,⟨⟨_,_,r,r,r⟩,⟨⟨_,_,r,r,r⟩,trivial⟩⟩⟩) r r ?_)))))))))
 exact .storeA sz27 r r .z (.t (.t (.t .nil))) r r (.ks 1 r (.nilS [3,2] r r (.drop (.s .z) (.ret (oret results240 (.w ia27 sz27 r .z r (.t r .n)) (.refl _) .n ⟨(({ From:=a0.To,To:=a0.From,W:=a0.W }:Edge),true),r,r,hd⟩)))))
theorem W_edges_made_7c5 {I:IH} {a0:Graph} {p1:Option Addr} {c2:Nat} {Q:Graph→Prop} (R3:RepSl eEdge I p1 c2 a0.Edges) (hd:edges_made_7c5 a0 Q) :
  Fun prog 195 #[.agg #[.int .i64 a0.N,.slice p1 a0.Edges.length c2],.func (.func 240) #[] #[]] I [] (fun I_ v l=>∃ r p4 c5,v=.agg #[.int .i64 r.N,.slice p4 r.Edges.length c5]∧RepSl eEdge I_ p4 c5 r.Edges∧l=[]∧Q r):=by
 refine Fun.enter (vs:=[.agg #[.int .i64 a0.N,.slice p1 a0.Edges.length c2],.func (.func 240) #[] #[]]) func195 r ntmps195 r (.c (.c .n)) fun w0 M=>?_
 refine .sr (.boxA r r r fun O=>?_)
 refine .allocA zv24 r r fun q=>?_
 refine .nilS [4,2,1] r r (.sr (.ks 1 r (.nilS [5,4,2,1] r r (.seq (.sr (.fa un24 r sz22 r (o:=1) r r r (.load1 ia22 r (.s .z) r r r (.len un22 r r r r (.ks 1 r ?_)))))))))
 refine .nilS [13,12,11,5,4,2,1] r r (.block (.own0 eEdge 27 (.loop hd (fun (s:(List Edge)×Int) c w=>match s with | (a,b)=>∃ I_ d e,IH.le I I_∧Ok ⟨34,[],none⟩ [(1,.func (.func 240) #[] #[]),(2,.pointer (some ⟨O,0,none⟩)),(4,.pointer (some ⟨q,0,none⟩)),(5,.slice d a.length e),(11,.slice p1 a0.Edges.length c2),(12,.int .i64 (a0.Edges.length:Int)),(13,.int .i64 b)] c∧Sym w0 M I I_ [pto O (.cells #[.int .i64 a0.N,.slice p1 a0.Edges.length c2] 24 (0,0)),pto q (.cells #[.int .i64 0,.slice none 0 0] 24 (0,0)),OwnSl eEdge 27 d e a] w) (fun c w ho hs=>⟨I,_,_,(.refl _),ho.sub ⟨r,r,r,r,r,r,r,trivial⟩,hs.pick (.c (.s (.s .z)) (.c (.s .z) (.c .z .n)))⟩) ?_)))
 rintro ⟨a,b⟩ X hd c w hst
 obtain ⟨P,d,e,f,hok,hsym⟩:=hst
 replace R3:=R3.mono f
 refine Cod.at hok hsym (.sr (.ks 1 r (.nilS [14,13,12,11,5,4,2,1] r r (.seq (.condP r hd (fun A hd=>?_) fun A hd=>?_)))))
 · refine .skipS [13,12,11,5,4,2,1] r r (.seq (.block (.sr ?_)))
   obtain ⟨u,g,j,hd⟩:=hd
   obtain ⟨Z,o134,Y,R,B,C⟩:=R3.2 _ _ j
   cases C
   refine .ixa un22 sz27 r R r u (idx_lt j u) r r (.ldW ia27 sz27 B r r r r (.allocA zv27 r r fun S=>?_))
   refine .storeA sz27 r r .z (.t (.t (.t .nil))) r r (.nilS [7,13,12,11,5,4,2,1] r r (.sr (.ks 1 r (.loadW ia27 sz27 r .z r r r ?_))))
   have D:=W_edges_turned_87e (I:=P) (a0:=g) hd
   refine .callS (.c call240 r r) .n D r r fun a1 x a2 k E=>?_
   obtain ⟨y,rfl,rfl,hd⟩:=E
   have m:=IH.le.trans f k
   replace R3:=R3.mono k
   refine .re (m':=[pto S (.cells #[.int .i64 g.From,.int .i64 g.To,.int .i64 g.W] 27 (0,0)),pto O (.cells #[.int .i64 a0.N,.slice p1 a0.Edges.length c2] 24 (0,0)),pto q (.cells #[.int .i64 0,.slice none 0 0] 24 (0,0)),OwnSl eEdge 27 d e a]) r (.ks 3 r (.allocA zv27 r r fun a3=>?_))
   refine .storeA sz27 r r .z (.t (.t (.t .nil))) r r (.ks 1 r (.nilS [9,8,13,12,11,5,4,2,1] r r (.drop (.s .z) (.sr (.ks 1 r (.nilS [23,8,13,12,11,5,4,2,1] r r (.condP r hd (fun F hd=>?_) fun F hd=>?_)))))))
   · refine .region (.ks 1 r (.loadW ia27 sz27 r .z r r r (.buildSlice 1 un22 sz27 zv27 r r (.c r r r .n) r r fun a4=>?_)))
     obtain ⟨G,hd⟩:=hd
     refine .append (ys:=[y.1]) 24 (.s (.s (.s (.s .z)))) un22 un22 IN27 r r r r r r r r r (.box .z (.one r) r) G r r fun a5 a6=>?_
     exact .ks 1 r (.nilS [5,13,12,11,4,2,1] r r (.drop (.s .z) (.drop (.s .z) (.region (.ks 2 r (.nil' fun c w ho hs=>⟨((a++([y.1])),w64 (b+1)),hd,x,_,_,m,ho.sub ⟨r,r,r,r,r,r,r,trivial⟩,hs.pick (.c (.s .z) (.c (.s .z) (.c .z .n)))⟩))))))
   exact .skipS [13,12,11,5,4,2,1] r r (.drop .z (.region (.ks 2 r (.nil' fun c w ho hs=>⟨(a,w64 (b+1)),hd,x,_,_,m,ho.sub ⟨r,r,r,r,r,r,r,trivial⟩,hs.pick (.c .z (.c .z (.c .z .n)))⟩))))
 refine .exitS [5,4,2,1] r r (.sr (.fa un24 r sz3 r (o:=0) r r r (.load1 ia3 r .z r r r (.ks 1 r (.build zv24 un24 BI24 (.c r r r (.t .nil) (.c r r r (.s (.t .nil)) .n)) (by exact ⟨⟨_,_,r,r,r⟩,⟨⟨_,_,r,r,r⟩,trivial⟩⟩) r r (.pub (.s (.s .z)) fun T p i=>?_))))))
 have H:=IH.le.trans f p
 replace R3:=R3.mono p
 have J:=W_edges_Canon (I:=T) (a0:=({ N:=a0.N,Edges:=a }:Graph)) i hd
 refine .call call131 r J r r fun a7 a8 h K=>?_
 obtain ⟨U,a9,b0,rfl,V,hd⟩:=K
 have L:=IH.le.trans H h
 replace R3:=R3.mono h
 replace i:=i.mono h
 exact .storeA sz24 r r (.s .z) (.t (.t .nil)) r r (.nilS [4,1] r r (.drop .z (.ret (oret results195 (.w ia24 sz24 r .z r .n) L .n ⟨U,_,_,r,V,r,hd⟩))))
theorem W_edges_Turn {I:IH} {a0:Graph} {p1:Option Addr} {c2:Nat} {Q:Graph→Prop} (R3:RepSl eEdge I p1 c2 a0.Edges) (hd:edges_Turn a0 Q) :
  PFun prog 198 [.agg #[.int .i64 a0.N,.slice p1 a0.Edges.length c2]] I (o12_ Q):=by
 refine Fun.enter func198 r ntmps198 r (.c .n) fun w0 M=>?_
 refine .sr (.boxA r r r fun h=>?_)
 refine .allocA zv24 r r fun i=>?_
 refine .nilS [2,1] r r (.sr (.loadW ia24 sz24 r (.s .z) r r r ?_))
 have b:=W_edges_made_7c5 (I:=I) (a0:=a0) R3 hd
 refine .callS (.f call195 r) .n b r r fun j k l a d=>?_
 obtain ⟨e,m,o,rfl,g,rfl,hd⟩:=d
 replace R3:=R3.mono a
 exact .re (m':=[pto i (.cells #[.int .i64 0,.slice none 0 0] 24 (0,0)),pto h (.cells #[.int .i64 a0.N,.slice p1 a0.Edges.length c2] 24 (0,0))]) r (.storeA sz24 r r .z (.t (.t .nil)) r r (.nilS [2] r r (.drop (.s .z) (.ret (pret results198 (.w ia24 sz24 r .z r .n) a ⟨e,_,_,r,g,hd⟩)))))
theorem W_edges_Both {I:IH} {a0:Graph} {p1:Option Addr} {c2:Nat} {Q:Graph→Prop} (R3:RepSl eEdge I p1 c2 a0.Edges) (hd:edges_Both a0 Q) :
  PFun prog 128 [.agg #[.int .i64 a0.N,.slice p1 a0.Edges.length c2]] I (o12_ Q):=by
 refine Fun.enter func128 r ntmps128 r (.c .n) fun w0 M=>?_
 refine .sr (.boxA r r r fun J=>?_)
 refine .allocA zv24 r r fun K=>?_
 refine .nilS [2,1] r r (.seq (.dr [0,1,2,3,4,5,6,7,8,9,10] 11 (.g r r r (fun _=>.fa un24 r sz3 r (o:=0) r r r .mk) (.g r r r (fun _=>.load1 ia3 r (.s .z) r r r .mk) (.g r r r (fun _=>.fa un24 r sz22 r (o:=1) r r r .mk) (.g r r r (fun _=>.load1 ia22 r (.s .z) r r r .mk) (.g r r r (fun _=>.loadW ia24 sz24 r (.s .z) r r r .mk) (.ww r fun ex=>?_))))))))
 have l:=W_edges_Turn (I:=I) R3 hd
 refine .call call198 r l r r fun L O h m=>?_
 obtain ⟨j,B,C,rfl,a,hd⟩:=m
 replace R3:=R3.mono h
 refine .so 2 r r r (.cg r r r r (fun _=>.load1 ia22 r (.s .z) r r r .mk) (.cg r r r r (fun _=>.fa un24 r sz22 r (o:=1) r r r .mk) (.cg r r r r (fun _=>.load1 ia3 r (.s .z) r r r .mk) (.cg r r r r (fun _=>.fa un24 r sz3 r (o:=0) r r r .mk) trivial)))) (.g r r r (fun _=>.field1 un24 r ia22 r r r r .mk) (.ww r fun ex=>?_))
 refine .buildSlice 2 underlying252 sz22 zeroValue22 r r (.c r r r (.c r r r .n)) r r fun P=>?_
 refine .so 3 r r r (.cg r r r r (fun _=>.load1 ia3 r (.s (.s .z)) r r r .mk) (.cg r r r r (fun _=>.fa un24 r sz3 r (o:=0) r r r .mk) trivial)) (.ww r fun ex=>?_)
 refine .pubB (El:=(slEl eEdge)) (ys:=([a0.Edges,j.Edges]:List (List Edge))) (k:=2) .z (RepCs.cons (cs:=[.slice p1 a0.Edges.length c2]) ⟨_,_,r,R3⟩ (RepCs.cons (cs:=[.slice B j.Edges.length C]) ⟨_,_,r,a⟩ .nil)) r fun D f e=>?_
 have p:=IH.le.trans h f
 replace R3:=R3.mono f
 replace a:=a.mono f
 have q:=W_slices_Concat_api_Edge_api_Edge (I:=D) e hd
 refine .call call197 r q r r fun R E d u=>?_
 obtain ⟨F,S,T,rfl,i,hd⟩:=u
 have v:=IH.le.trans p d
 replace R3:=R3.mono d
 replace a:=a.mono d
 replace e:=e.mono d
 refine .so 2 r r r (.cg r r r r (fun _=>.load1 ia3 r (.s .z) r r r .mk) (.cg r r r r (fun _=>.fa un24 r sz3 r (o:=0) r r r .mk) trivial)) (.g r r r (fun _=>.build zv24 un24 BI24 (.c r r r (.t .nil) (.c r r r (.s (.t .nil)) .n)) (by exact ⟨⟨_,_,r,r,r⟩,⟨⟨_,_,r,r,r⟩,trivial⟩⟩) r r .mk) (.ww r fun ex=>?_))
 have x:=W_edges_Canon (I:=E) (a0:=({ N:=a0.N,Edges:=F }:Graph)) i hd
 refine .call call131 r x r r fun U V b y=>?_
 obtain ⟨G,W,X,rfl,H,hd⟩:=y
 have A:=IH.le.trans v b
 replace R3:=R3.mono b
 replace a:=a.mono b
 replace e:=e.mono b
 replace i:=i.mono b
 exact .so 2 r r r trivial (.e2 11 (.storeA sz24 r r .z (.t (.t .nil)) r r (.nilS [2] r r (.drop (.s .z) (.ret (pret results128 (.w ia24 sz24 r .z r .n) A ⟨G,_,_,r,H,hd⟩))))))
theorem W_edges_Plain_1_3d5 {I:IH} {a0:Edge} {Q:(Edge×Bool)→Prop}  (hd:edges_Plain_1_3d5 a0 Q) :
  Fun prog 199 #[.agg (encEdge a0).toArray] I [] (fun I_ v l=>∃ r,v=.tuple #[.agg (encEdge r.1).toArray,.bool r.2]∧l=[]∧Q r):=by
 refine Fun.enter (vs:=[.agg (encEdge a0).toArray]) func199 r ntmps199 r (.c .n) fun w0 M=>?_
 refine .sr (.boxA r r r fun a=>?_)
 refine .allocA zv27 r r fun b=>?_
 refine .ks 1 r (.nilS [2,1] r r (.sr (.fa un27 r sz2 r (o:=2) r r r (.store1 sz2 r r (.s .z) (.s (.s (.t .nil))) r (.nilS [2,1] r r (.sr (.loadW ia27 sz27 r (.s .z) r r r (.storeA sz27 r r .z (.t (.t (.t .nil))) r r (.ks 1 r ?_)))))))))
 exact .nilS [3,2] r r (.drop (.s .z) (.ret (oret results199 (.w ia27 sz27 r .z r (.t r .n)) (.refl _) .n ⟨(({ From:=a0.From,To:=a0.To,W:=1 }:Edge),true),r,r,hd⟩)))
theorem W_edges_made_56f {I:IH} {a0:Graph} {p1:Option Addr} {c2:Nat} {Q:Graph→Prop} (R3:RepSl eEdge I p1 c2 a0.Edges) (hd:edges_made_56f a0 Q) :
  Fun prog 195 #[.agg #[.int .i64 a0.N,.slice p1 a0.Edges.length c2],.func (.func 199) #[] #[]] I [] (fun I_ v l=>∃ r p4 c5,v=.agg #[.int .i64 r.N,.slice p4 r.Edges.length c5]∧RepSl eEdge I_ p4 c5 r.Edges∧l=[]∧Q r):=by
 refine Fun.enter (vs:=[.agg #[.int .i64 a0.N,.slice p1 a0.Edges.length c2],.func (.func 199) #[] #[]]) func195 r ntmps195 r (.c (.c .n)) fun w0 M=>?_
 refine .sr (.boxA r r r fun O=>?_)
 refine .allocA zv24 r r fun q=>?_
 refine .nilS [4,2,1] r r (.sr (.ks 1 r (.nilS [5,4,2,1] r r (.seq (.sr (.fa un24 r sz22 r (o:=1) r r r (.load1 ia22 r (.s .z) r r r (.len un22 r r r r (.ks 1 r ?_)))))))))
 refine .nilS [13,12,11,5,4,2,1] r r (.block (.own0 eEdge 27 (.loop hd (fun (s:(List Edge)×Int) c w=>match s with | (a,b)=>∃ I_ d e,IH.le I I_∧Ok ⟨34,[],none⟩ [(1,.func (.func 199) #[] #[]),(2,.pointer (some ⟨O,0,none⟩)),(4,.pointer (some ⟨q,0,none⟩)),(5,.slice d a.length e),(11,.slice p1 a0.Edges.length c2),(12,.int .i64 (a0.Edges.length:Int)),(13,.int .i64 b)] c∧Sym w0 M I I_ [pto O (.cells #[.int .i64 a0.N,.slice p1 a0.Edges.length c2] 24 (0,0)),pto q (.cells #[.int .i64 0,.slice none 0 0] 24 (0,0)),OwnSl eEdge 27 d e a] w) (fun c w ho hs=>⟨I,_,_,(.refl _),ho.sub ⟨r,r,r,r,r,r,r,trivial⟩,hs.pick (.c (.s (.s .z)) (.c (.s .z) (.c .z .n)))⟩) ?_)))
 rintro ⟨a,b⟩ X hd c w hst
 obtain ⟨P,d,e,f,hok,hsym⟩:=hst
 replace R3:=R3.mono f
 refine Cod.at hok hsym (.sr (.ks 1 r (.nilS [14,13,12,11,5,4,2,1] r r (.seq (.condP r hd (fun A hd=>?_) fun A hd=>?_)))))
 · refine .skipS [13,12,11,5,4,2,1] r r (.seq (.block (.sr ?_)))
   obtain ⟨u,g,j,hd⟩:=hd
   obtain ⟨Z,o134,Y,R,B,C⟩:=R3.2 _ _ j
   cases C
   refine .ixa un22 sz27 r R r u (idx_lt j u) r r (.ldW ia27 sz27 B r r r r (.allocA zv27 r r fun S=>?_))
   refine .storeA sz27 r r .z (.t (.t (.t .nil))) r r (.nilS [7,13,12,11,5,4,2,1] r r (.sr (.ks 1 r (.loadW ia27 sz27 r .z r r r ?_))))
   have D:=W_edges_Plain_1_3d5 (I:=P) (a0:=g) hd
   refine .callS (.c call199 r r) .n D r r fun a1 x a2 k E=>?_
   obtain ⟨y,rfl,rfl,hd⟩:=E
   have m:=IH.le.trans f k
   replace R3:=R3.mono k
   refine .re (m':=[pto S (.cells #[.int .i64 g.From,.int .i64 g.To,.int .i64 g.W] 27 (0,0)),pto O (.cells #[.int .i64 a0.N,.slice p1 a0.Edges.length c2] 24 (0,0)),pto q (.cells #[.int .i64 0,.slice none 0 0] 24 (0,0)),OwnSl eEdge 27 d e a]) r (.ks 3 r (.allocA zv27 r r fun a3=>?_))
   refine .storeA sz27 r r .z (.t (.t (.t .nil))) r r (.ks 1 r (.nilS [9,8,13,12,11,5,4,2,1] r r (.drop (.s .z) (.sr (.ks 1 r (.nilS [23,8,13,12,11,5,4,2,1] r r (.condP r hd (fun F hd=>?_) fun F hd=>?_)))))))
   · refine .region (.ks 1 r (.loadW ia27 sz27 r .z r r r (.buildSlice 1 un22 sz27 zv27 r r (.c r r r .n) r r fun a4=>?_)))
     obtain ⟨G,hd⟩:=hd
     refine .append (ys:=[y.1]) 24 (.s (.s (.s (.s .z)))) un22 un22 IN27 r r r r r r r r r (.box .z (.one r) r) G r r fun a5 a6=>?_
     exact .ks 1 r (.nilS [5,13,12,11,4,2,1] r r (.drop (.s .z) (.drop (.s .z) (.region (.ks 2 r (.nil' fun c w ho hs=>⟨((a++([y.1])),w64 (b+1)),hd,x,_,_,m,ho.sub ⟨r,r,r,r,r,r,r,trivial⟩,hs.pick (.c (.s .z) (.c (.s .z) (.c .z .n)))⟩))))))
   exact .skipS [13,12,11,5,4,2,1] r r (.drop .z (.region (.ks 2 r (.nil' fun c w ho hs=>⟨(a,w64 (b+1)),hd,x,_,_,m,ho.sub ⟨r,r,r,r,r,r,r,trivial⟩,hs.pick (.c .z (.c .z (.c .z .n)))⟩))))
 refine .exitS [5,4,2,1] r r (.sr (.fa un24 r sz3 r (o:=0) r r r (.load1 ia3 r .z r r r (.ks 1 r (.build zv24 un24 BI24 (.c r r r (.t .nil) (.c r r r (.s (.t .nil)) .n)) (by exact ⟨⟨_,_,r,r,r⟩,⟨⟨_,_,r,r,r⟩,trivial⟩⟩) r r (.pub (.s (.s .z)) fun T p i=>?_))))))
 have H:=IH.le.trans f p
 replace R3:=R3.mono p
 have J:=W_edges_Canon (I:=T) (a0:=({ N:=a0.N,Edges:=a }:Graph)) i hd
 refine .call call131 r J r r fun a7 a8 h K=>?_
 obtain ⟨U,a9,b0,rfl,V,hd⟩:=K
 have L:=IH.le.trans H h
 replace R3:=R3.mono h
 replace i:=i.mono h
 exact .storeA sz24 r r (.s .z) (.t (.t .nil)) r r (.nilS [4,1] r r (.drop .z (.ret (oret results195 (.w ia24 sz24 r .z r .n) L .n ⟨U,_,_,r,V,r,hd⟩))))
theorem W_edges_Plain {I:IH} {a0:Graph} {p1:Option Addr} {c2:Nat} {Q:Graph→Prop} (R3:RepSl eEdge I p1 c2 a0.Edges) (hd:edges_Plain a0 Q) :
  PFun prog 129 [.agg #[.int .i64 a0.N,.slice p1 a0.Edges.length c2]] I (o12_ Q):=by
 refine Fun.enter func129 r ntmps129 r (.c .n) fun w0 M=>?_
 refine .sr (.boxA r r r fun h=>?_)
 refine .allocA zv24 r r fun i=>?_
 refine .nilS [2,1] r r (.sr (.loadW ia24 sz24 r (.s .z) r r r ?_))
 have b:=W_edges_made_56f (I:=I) (a0:=a0) R3 hd
 refine .callS (.f call195 r) .n b r r fun j k l a d=>?_
 obtain ⟨e,m,o,rfl,g,rfl,hd⟩:=d
 replace R3:=R3.mono a
 exact .re (m':=[pto i (.cells #[.int .i64 0,.slice none 0 0] 24 (0,0)),pto h (.cells #[.int .i64 a0.N,.slice p1 a0.Edges.length c2] 24 (0,0))]) r (.storeA sz24 r r .z (.t (.t .nil)) r r (.nilS [2] r r (.drop (.s .z) (.ret (pret results129 (.w ia24 sz24 r .z r .n) a ⟨e,_,_,r,g,hd⟩)))))
theorem W_csr_Graph {I:IH} {a0:Graph} {p1:Option Addr} {c2:Nat} {Q:(Rows×Int)→Prop} (R3:RepSl eEdge I p1 c2 a0.Edges) (hd:csr_Graph a0 Q) :
  PFun prog 130 [.agg #[.int .i64 a0.N,.slice p1 a0.Edges.length c2]] I (o7_ Q):=by
 refine Fun.enter func130 r ntmps130 r (.c .n) fun w0 M=>?_
 refine .sr (.boxA r r r fun F=>?_)
 refine .allocA zv32 r r fun G=>?_
 refine .ks 1 r (.nilS [2,1] r r (.seq (.sr (.loadW ia24 sz24 r (.s .z) r r r ?_))))
 have K:=W_edges_Right (I:=I) R3 hd
 refine .callP call126 r K r r fun c0 L=>?_
 obtain ⟨a2,rfl,hd⟩:=L
 refine .ks 1 r (.nilS [4,2,1] r r (.sr (.ks 2 r (.nilS [11,4,2,1] r r (.condP r hd (fun O hd=>?_) fun O hd=>?_)))))
 · exact .sr (.build zv32 un32 BI32 .n (by exact trivial) r r (.ks 1 r (.storeA sz32 r r .z (.t (.t (.t (.t (.t .nil))))) r r (.ks 1 r (.nilS [3,2] r r (.drop (.s .z) (.ret (pret results130 (.w ia32 sz32 r .z r (.t r .n)) (.refl _) ⟨(({ Rows:=0,Cols:=0,Start:=([]:List Int),Col:=([]:List Int),Val:=([]:List Int) }:Rows),a2),_,_,_,_,_,_,r,(.nil _ _ _),(.nil _ _ _),(.nil _ _ _),hd⟩))))))))
 refine .skipS [2,1] r r (.sr (.ks 1 r (.nilS [5,2,1] r r (.seq (.sr (.loadW ia24 sz24 r (.s .z) r r r ?_))))))
 have P:=W_edges_Turn (I:=I) R3 hd
 refine .call call198 r P r r fun c1 H l R=>?_
 obtain ⟨J,a3,a4,rfl,m,hd⟩:=R
 replace R3:=R3.mono l
 refine .field1 un24 r ia22 r r r r (.len un22 r r r r (.ks 1 r (.nilS [18,17,16,5,2,1] r r (.block (.own0 eTriple 101 (.loop hd (fun (s:(List Triple)×Int) c w=>match s with | (e,g)=>∃ I_ h i,IH.le H I_∧Ok ⟨39,[],none⟩ [(1,.pointer (some ⟨F,0,none⟩)),(2,.pointer (some ⟨G,0,none⟩)),(5,.slice h e.length i),(16,.slice a3 J.Edges.length a4),(17,.int .i64 (J.Edges.length:Int)),(18,.int .i64 g)] c∧Sym w0 M I I_ [pto F (.cells #[.int .i64 a0.N,.slice p1 a0.Edges.length c2] 24 (0,0)),pto G (.cells #[.int .i64 0,.int .i64 0,.slice none 0 0,.slice none 0 0,.slice none 0 0] 32 (0,0)),OwnSl eTriple 101 h i e] w) (fun c w ho hs=>⟨H,_,_,(.refl _),ho.sub ⟨r,r,r,r,r,r,trivial⟩,hs.pick (.c (.s (.s .z)) (.c (.s .z) (.c .z .n)))⟩) ?_))))))
 rintro ⟨e,g⟩ a1 hd c w hst
 obtain ⟨S,h,i,a,hok,hsym⟩:=hst
 have q:=IH.le.trans l a
 replace R3:=R3.mono a
 replace m:=m.mono a
 refine Cod.at hok hsym (.sr (.ks 1 r (.nilS [19,18,17,16,5,2,1] r r (.seq (.condP r hd (fun u hd=>?_) fun u hd=>?_)))))
 · refine .skipS [18,17,16,5,2,1] r r (.seq (.block (.sr ?_)))
   obtain ⟨p,b,k,hd⟩:=hd
   obtain ⟨a7,o162,a5,T,v,x⟩:=m.2 _ _ k
   cases x
   refine .ixa un22 sz27 r T r p (idx_lt k p) r r (.ldW ia27 sz27 v r r r r (.allocA zv27 r r fun a8=>?_))
   refine .storeA sz27 r r .z (.t (.t (.t .nil))) r r (.nilS [7,18,17,16,5,2,1] r r (.region (.ks 1 r (.fa un27 r sz3 r (o:=0) r r r (.load1 ia3 r .z r r r (.fa un27 r sz3 r (o:=1) r r r (.load1 ia3 r .z r r r (.fa un27 r sz2 r (o:=2) r r r (.load1 ia2 r .z r r r ?_)))))))))
   refine .build zv101 un101 BI101 (.c r r r (.t .nil) (.c r r r (.s (.t .nil)) (.c r r r (.s (.s (.t .nil))) .n))) (by exact ⟨⟨_,_,r,r,r⟩,⟨⟨_,_,r,r,r⟩,⟨⟨_,_,r,r,r⟩,trivial⟩⟩⟩) r r (.buildSlice 1 un99 sz101 zv101 r r (.c r r r .n) r r fun a9=>?_)
   obtain ⟨y,hd⟩:=hd
   refine .append (ys:=[({ Row:=b.From,Col:=b.To,Val:=b.W }:Triple)]) 24 (.s (.s (.s (.s .z)))) un99 un99 IN101 r r r r r r r r r (.box .z (.one r) r) y r r fun b0 b1=>?_
   exact .ks 1 r (.nilS [5,18,17,16,2,1] r r (.drop (.s .z) (.drop (.s .z) (.region (.ks 2 r (.nil' fun c w ho hs=>⟨((e++([({ Row:=b.From,Col:=b.To,Val:=b.W }:Triple)])),w64 (g+1)),hd,S,_,_,a,ho.sub ⟨r,r,r,r,r,r,trivial⟩,hs.pick (.c (.s .z) (.c (.s .z) (.c .z .n)))⟩))))))
 refine .exitS [5,2,1] r r (.sr (.fa un24 r sz3 r (o:=0) r r r (.load1 ia3 r .z r r r (.fa un24 r sz3 r (o:=0) r r r (.load1 ia3 r .z r r r (.ks 1 r (.pub (.s (.s .z)) fun U f j=>?_)))))))
 have A:=IH.le.trans q f
 have B:=IH.le.trans a f
 replace R3:=R3.mono f
 have C:=W_csr_built (I:=U) j hd
 refine .call call176 r C r r fun b2 b3 d D=>?_
 obtain ⟨V,b4,b5,b6,b7,b8,b9,rfl,X,Y,Z,hd⟩:=D
 have E:=IH.le.trans A d
 have a6:=IH.le.trans B d
 replace R3:=R3.mono d
 replace j:=j.mono d
 exact .storeA sz32 r r (.s .z) (.t (.t (.t (.t (.t .nil))))) r r (.ks 1 r (.nilS [3,2] r r (.drop .z (.ret (pret results130 (.w ia32 sz32 r .z r (.t r .n)) E ⟨(V,0),_,_,_,_,_,_,r,X,Y,Z,hd⟩)))))
theorem W_prog_Matrix {I:IH} {a0:Plan} {a1:Graph} {p1:Option Addr} {c2:Nat} {p4:Option Addr} {c5:Nat} {Q:(Rows×Int)→Prop} (R3:RepSl eI64 I p1 c2 a0.Draws) (R6:RepSl eEdge I p4 c5 a1.Edges) (hd:prog_Matrix a0 a1 Q) :
  PFun prog 64 [.agg #[.int .i64 a0.Kind,.int .i64 a0.N,.int .i64 a0.Source,.int .i64 a0.Length,.slice p1 a0.Draws.length c2],.agg #[.int .i64 a1.N,.slice p4 a1.Edges.length c5]] I (o14_ Q):=by
 refine Fun.enter func64 r ntmps64 r (.c (.c .n)) fun w0 M=>?_
 refine .sr (.boxA r r r fun i4=>?_)
 refine .boxA r r r fun i5=>?_
 refine .allocA zv32 r r fun i6=>?_
 refine .ks 1 r (.nilS [4,3,2] r r (.seq (.sr (.loadW ia49 sz49 r (.s (.s .z)) r r r ?_))))
 have a2:=W_prog_Right (I:=I) R3 hd
 refine .callP call95 r a2 r r fun i7 a3=>?_
 obtain ⟨d5,rfl,hd⟩:=a3
 refine .ks 1 r (.nilS [6,4,3,2] r r (.sr (.ks 2 r (.nilS [11,6,4,3,2] r r (.condP r hd (fun a4 hd=>?_) fun a4 hd=>?_)))))
 · exact .sr (.build zv32 un32 BI32 .n (by exact trivial) r r (.ks 1 r (.storeA sz32 r r .z (.t (.t (.t (.t (.t .nil))))) r r (.ks 1 r (.nilS [5,4] r r (.drop (.s .z) (.drop (.s .z) (.ret (pret results64 (.w ia32 sz32 r .z r (.t r .n)) (.refl _) ⟨(({ Rows:=0,Cols:=0,Start:=([]:List Int),Col:=([]:List Int),Val:=([]:List Int) }:Rows),d5),_,_,_,_,_,_,r,(.nil _ _ _),(.nil _ _ _),(.nil _ _ _),hd⟩)))))))))
 refine .skipS [4,3,2] r r (.seq (.sr (.fa un24 r sz3 r (o:=0) r r r (.load1 ia3 r (.s .z) r r r (.fa un49 r sz3 r (o:=1) r r r (.load1 ia3 r (.s (.s .z)) r r r (.ks 1 r (.nilS [18,4,3,2] r r (.condP r hd (fun a5 hd=>?_) fun a5 hd=>?_)))))))))
 · exact .sr (.build zv32 un32 BI32 .n (by exact trivial) r r (.storeA sz32 r r .z (.t (.t (.t (.t (.t .nil))))) r r (.ks 1 r (.nilS [5,4] r r (.drop (.s .z) (.drop (.s .z) (.ret (pret results64 (.w ia32 sz32 r .z r (.t r .n)) (.refl _) ⟨(({ Rows:=0,Cols:=0,Start:=([]:List Int),Col:=([]:List Int),Val:=([]:List Int) }:Rows),4),_,_,_,_,_,_,r,(.nil _ _ _),(.nil _ _ _),(.nil _ _ _),hd⟩))))))))
 refine .skipS [4,3,2] r r (.seq (.sr (.loadW ia24 sz24 r (.s .z) r r r ?_)))
 have a6:=W_edges_Right (I:=I) R6 hd
 refine .callP call126 r a6 r r fun i8 a7=>?_
 obtain ⟨d6,rfl,hd⟩:=a7
 refine .ks 1 r (.nilS [7,4,3,2] r r (.sr (.ks 2 r (.nilS [23,7,4,3,2] r r (.condP r hd (fun a8 hd=>?_) fun a8 hd=>?_)))))
 · exact .sr (.build zv32 un32 BI32 .n (by exact trivial) r r (.ks 1 r (.storeA sz32 r r .z (.t (.t (.t (.t (.t .nil))))) r r (.ks 1 r (.nilS [5,4] r r (.drop (.s .z) (.drop (.s .z) (.ret (pret results64 (.w ia32 sz32 r .z r (.t r .n)) (.refl _) ⟨(({ Rows:=0,Cols:=0,Start:=([]:List Int),Col:=([]:List Int),Val:=([]:List Int) }:Rows),d6),_,_,_,_,_,_,r,(.nil _ _ _),(.nil _ _ _),(.nil _ _ _),hd⟩)))))))))
 refine .skipS [4,3,2] r r (.seq (.sr (.fa un49 r sz47 r (o:=0) r r r (.load1 ia47 r (.s (.s .z)) r r r (.nilS [27,4,3] r r (.drop (.s (.s .z)) (.block (.seq (.block ?_)))))))))
 refine .seq (.block (.seq (.block (.seq (.seq (.sr (.ks 2 r (.nilS [28,27,4,3] r r (.condP r hd (fun a9 hd=>?_) fun a9 hd=>?_)))))))))
 · refine .exitS [4,3] r r (.region (.loadW ia24 sz24 r (.s .z) r r r ?_))
   have b0:=W_edges_Simple (I:=I) R6 hd
   refine .call call127 r b0 r r fun i9 d7 l b1=>?_
   obtain ⟨j0,j1,j2,rfl,m,hd⟩:=b1
   replace R6:=R6.mono l
   refine .storeA sz24 r r (.s .z) (.t (.t .nil)) r r (.nilS [4,3] r r (.region (.loadW ia24 sz24 r (.s .z) r r r ?_)))
   have b2:=W_edges_Both (I:=d7) m hd
   refine .call call128 r b2 r r fun j3 d8 p b3=>?_
   obtain ⟨j4,j5,j6,rfl,q,hd⟩:=b3
   have b4:=IH.le.trans l p
   replace m:=m.mono p
   refine .storeA sz24 r r (.s .z) (.t (.t .nil)) r r (.nilS [4,3] r r (.sr (.loadW ia24 sz24 r (.s .z) r r r ?_)))
   have b5:=W_edges_Plain (I:=d8) q hd
   refine .call call129 r b5 r r fun j7 d9 u b6=>?_
   obtain ⟨j8,j9,k0,rfl,v,hd⟩:=b6
   have b7:=IH.le.trans b4 u
   replace q:=q.mono u
   refine .storeA sz24 r r (.s .z) (.t (.t .nil)) r r (.nilS [4,3] r r (.exitS [4,3] r r (.sr (.loadW ia24 sz24 r (.s .z) r r r ?_))))
   have C:=W_csr_Graph (I:=d9) v hd
   refine .call call130 r C r r fun e0 e1 e D=>?_
   obtain ⟨x,e2,e3,e4,e5,e6,e7,rfl,b8,b9,c0,hd⟩:=D
   have E:=IH.le.trans b7 e
   replace v:=v.mono e
   exact .ks 2 r (.storeA sz32 r r .z (.t (.t (.t (.t (.t .nil))))) r r (.ks 1 r (.nilS [5,4] r r (.drop (.s .z) (.ret (pret results64 (.w ia32 sz32 r .z r (.t r .n)) E ⟨(x.1,x.2),_,_,_,_,_,_,r,b8,b9,c0,hd⟩))))))
 refine .skipS [27,4,3] r r (.seq (.sr (.ks 2 r (.nilS [30,27,4,3] r r (.condP r hd (fun F hd=>?_) fun F hd=>?_)))))
 · refine .exitS [4,3] r r (.region (.loadW ia24 sz24 r (.s .z) r r r ?_))
   have G:=W_edges_Both (I:=I) R6 hd
   refine .call call128 r G r r fun e8 c1 f H=>?_
   obtain ⟨e9,f0,f1,rfl,a,hd⟩:=H
   replace R6:=R6.mono f
   refine .storeA sz24 r r (.s .z) (.t (.t .nil)) r r (.nilS [4,3] r r (.sr (.loadW ia24 sz24 r (.s .z) r r r ?_)))
   have J:=W_edges_Plain (I:=c1) a hd
   refine .call call129 r J r r fun f2 c3 g K=>?_
   obtain ⟨f3,f4,f5,rfl,b,hd⟩:=K
   have L:=IH.le.trans f g
   replace a:=a.mono g
   refine .storeA sz24 r r (.s .z) (.t (.t .nil)) r r (.nilS [4,3] r r (.exitS [4,3] r r (.sr (.loadW ia24 sz24 r (.s .z) r r r ?_))))
   have O:=W_csr_Graph (I:=c3) b hd
   refine .call call130 r O r r fun f6 f7 h P=>?_
   obtain ⟨y,f8,f9,g0,g1,g2,g3,rfl,c4,c6,c7,hd⟩:=P
   have R:=IH.le.trans L h
   replace b:=b.mono h
   exact .ks 2 r (.storeA sz32 r r .z (.t (.t (.t (.t (.t .nil))))) r r (.ks 1 r (.nilS [5,4] r r (.drop (.s .z) (.ret (pret results64 (.w ia32 sz32 r .z r (.t r .n)) R ⟨(y.1,y.2),_,_,_,_,_,_,r,c4,c6,c7,hd⟩))))))
 refine .skipS [27,4,3] r r (.sr (.ks 2 r (.nilS [32,4,3] r r (.condP r hd (fun S hd=>?_) fun S hd=>?_))))
 · refine .exitS [4,3] r r (.sr (.loadW ia24 sz24 r (.s .z) r r r ?_))
   have T:=W_edges_Plain (I:=I) R6 hd
   refine .call call129 r T r r fun g4 c8 i U=>?_
   obtain ⟨g5,g6,g7,rfl,d,hd⟩:=U
   replace R6:=R6.mono i
   refine .storeA sz24 r r (.s .z) (.t (.t .nil)) r r (.nilS [4,3] r r (.exitS [4,3] r r (.sr (.loadW ia24 sz24 r (.s .z) r r r ?_))))
   have V:=W_csr_Graph (I:=c8) d hd
   refine .call call130 r V r r fun g8 g9 j W=>?_
   obtain ⟨A,h0,h1,h2,h3,h4,h5,rfl,c9,d0,d1,hd⟩:=W
   have X:=IH.le.trans i j
   replace d:=d.mono j
   exact .ks 2 r (.storeA sz32 r r .z (.t (.t (.t (.t (.t .nil))))) r r (.ks 1 r (.nilS [5,4] r r (.drop (.s .z) (.ret (pret results64 (.w ia32 sz32 r .z r (.t r .n)) X ⟨(A.1,A.2),_,_,_,_,_,_,r,c9,d0,d1,hd⟩))))))
 refine .skipS [4,3] r r (.exitS [4,3] r r (.sr (.loadW ia24 sz24 r (.s .z) r r r ?_)))
 have Y:=W_csr_Graph (I:=I) R6 hd
 refine .call call130 r Y r r fun h6 h7 k Z=>?_
 obtain ⟨B,h8,h9,i0,i1,i2,i3,rfl,d2,d3,d4,hd⟩:=Z
 replace R6:=R6.mono k
 exact .ks 2 r (.storeA sz32 r r .z (.t (.t (.t (.t (.t .nil))))) r r (.ks 1 r (.nilS [5,4] r r (.drop (.s .z) (.ret (pret results64 (.w ia32 sz32 r .z r (.t r .n)) k ⟨(B.1,B.2),_,_,_,_,_,_,r,d2,d3,d4,hd⟩))))))
theorem W_model_Check {I:IH} {a0:Plan} {a1:Graph} {a2:Int} {p1:Option Addr} {c2:Nat} {p4:Option Addr} {c5:Nat} {Q:Int→Prop} (R3:RepSl eI64 I p1 c2 a0.Draws) (R6:RepSl eEdge I p4 c5 a1.Edges) (hd:model_Check a0 a1 a2 Q) :
  PFun prog 47 [.agg #[.int .i64 a0.Kind,.int .i64 a0.N,.int .i64 a0.Source,.int .i64 a0.Length,.slice p1 a0.Draws.length c2],.agg #[.int .i64 a1.N,.slice p4 a1.Edges.length c5],.int .i64 a2] I (fun _=>o0_ Q):=by
 refine Fun.enter func47 r ntmps47 r (.c (.c (.c .n))) fun w0 M=>?_
 refine .sr (.boxA r r r fun i=>?_)
 refine .boxA r r r fun j=>?_
 refine .ks 1 r (.nilS [4,3,2] r r (.seq (.sr (.loadW ia49 sz49 r (.s .z) r r r (.loadW ia24 sz24 r .z r r r ?_)))))
 have d:=W_prog_Matrix (I:=I) R3 R6 hd
 refine .call call64 r d r r fun k l a e=>?_
 obtain ⟨h,m,o,p,q,u,v,rfl,w,x,y,hd⟩:=e
 replace R3:=R3.mono a
 replace R6:=R6.mono a
 refine .ks 3 r (.allocA zv32 r r fun A=>?_)
 refine .storeA sz32 r r .z (.t (.t (.t (.t (.t .nil))))) r r (.ks 1 r (.nilS [8,2] r r (.drop .z (.drop .z (.drop .z (.sr (.ks 2 r (.nilS [16,8,2] r r (.condP r hd (fun f hd=>?_) fun f hd=>?_)))))))))
 · exact .sr (.ks 2 r (.nilS [6] r r (.ret (pret results47 (.t r .n) a ⟨h.2,r,hd⟩))))
 refine .skipS [2] r r (.seq (.sr (.ks 3 r ?_)))
 refine splitP hd (fun b hd=>?_) fun b hd=>?_
 · rw [b]
   exact .ks 3 r (.nilS [23] r r (.condKT r r (.sr (.ks 1 r (.nilS [6] r r (.ret (pret results47 (.t r .n) a ⟨3,r,hd⟩)))))))
 rw [b]
 refine .ks 3 r (.nilS [23] r r (.condP r hd (fun g hd=>?_) fun g hd=>?_))
 · exact .sr (.ks 1 r (.nilS [6] r r (.ret (pret results47 (.t r .n) a ⟨3,r,hd⟩))))
 exact .skipS [] r r (.sr (.ks 1 r (.nilS [6] r r (.ret (pret results47 (.t r .n) a ⟨0,r,hd⟩)))))
theorem W_flags_within {I:IH} {a0:List Int} {a1:Int} {p1:Option Addr} {c2:Nat} {Q:Bool→Prop} (R3:RepSl eU64 I p1 c2 a0) (hd:flags_within a0 a1 Q) :
  PFun prog 153 [.slice p1 a0.length c2,.int .i64 a1] I (fun _=>o4_ Q):=by
 refine Fun.enter func153 r ntmps153 r (.c (.c .n)) fun w0 M=>?_
 refine .sr (.ks 1 r (.nilS [1,0] r r (.sr (.ks 3 r ?_))))
 refine splitP hd (fun a hd=>?_) fun a hd=>?_
 · rw [a]
   exact .ks 1 r (.gyes r r r (.shr' r r (by decide) r r (.ks 1 r (.gyes r r r (.len un40 r r r r (.ks 3 r (.nilS [4] r r (.ret (pret results153 (.t r .n) (.refl _) ⟨(decide ((shr .i64 a1 6)<(a0.length:Int))),r,hd⟩)))))))))
 rw [a]
 exact .ks 7 r (.nilS [4] r r (.ret (pret results153 (.t r .n) (.refl _) ⟨false,r,hd⟩)))
theorem W_flags_bit {I:IH} {a0:Int} {Q:Int→Prop}  (hd:flags_bit a0 Q) :
  PFun prog 154 [.int .i64 a0] I (fun _=>o11_ Q):=by
 refine Fun.enter func154 r ntmps154 r (.c .n) fun w0 M=>?_
 refine .sr (.ks 1 r (.nilS [0] r r (.sr (.ks 1 r (.conv un3 underlying201 r r r (.ks 1 r ?_))))))
 obtain ⟨a,hd⟩:=hd
 exact .shl' r r a r r (.ks 1 r (.nilS [2] r r (.ret (pret results154 (.t r .n) (.refl _) ⟨(shl .u64 1 (bnd .u64 (IntKind.wrap .u64 (a0)) 63)),r,hd⟩))))
theorem W_flags_Has {I:IH} {a0:List Int} {a1:Int} {p1:Option Addr} {c2:Nat} {Q:Bool→Prop} (R3:RepSl eU64 I p1 c2 a0) (hd:flags_Has a0 a1 Q) :
  PFun prog 84 [.slice p1 a0.length c2,.int .i64 a1] I (fun _=>o4_ Q):=by
 refine Fun.enter func84 r ntmps84 r (.c (.c .n)) fun w0 M=>?_
 refine .sr (.ks 1 r (.nilS [1,0] r r (.seq (.dr [0,1,2,3,4,5,6,7,8,9,10,11,12,13] 14 (.fk 2 r (.ww r fun ex=>?_))))))
 have l:=W_flags_within (I:=I) R3 hd
 refine .callP call153 r l r r fun v m=>?_
 obtain ⟨w,rfl,hd⟩:=m
 refine .so 0 r r r trivial (.fk 1 r ?_)
 refine splitP hd (fun a hd=>?_) fun a hd=>?_
 · refine .g r r r (fun _=>.gyes r r a (.move r r r .mk)) (.g r r r (fun _=>.gyes r r a (.move r r r .mk)) (.g r r r (fun _=>.gyes r r a (.shr' r r (by decide) r r .mk)) ?_))
   obtain ⟨e,o,b,hd⟩:=hd
   obtain ⟨s,o13,q,f,d,h⟩:=R3.2 _ _ b
   cases h
   refine .g r r r (fun _=>.gyes r r a (.ixa un40 sz125 r f r e (idx_lt b e) r r .mk)) (.g r r r (fun _=>.gyes r r a (.ld1 (j:=0) ia125 d r r r r r .mk)) (.g r r r (fun _=>.gyes r r a (.move r r r .mk)) (.ww r fun ex=>?_)))
   have i:=W_flags_bit (I:=I) hd
   refine .gyes r r a (.callP call154 r i r r fun u k=>?_)
   obtain ⟨p,rfl,hd⟩:=k
   exact .so 0 r r r (.cg r r r r (fun _=>.gyes r r a (.ld1 (j:=0) ia125 d r r r r r .mk)) (.cg r r r r (fun _=>.gyes r r a (.ixa un40 sz125 r f r e (idx_lt b e) r r .mk)) (.cg r r r r (fun _=>.gyes r r a (.shr' r r (by decide) r r .mk)) (.cg r r r r (fun _=>.gyes r r a (.move r r r .mk)) (.cg r r r r (fun _=>.gyes r r a (.move r r r .mk)) trivial))))) (.g r r r (fun _=>.gyes r r a (.and r r r r .mk)) (.g r r r (fun _=>.gyes r r a (.ne r r r r .mk)) (.g r r r (fun _=>.pickT r a r r r .mk) (.e2 14 (.ks 1 r (.nilS [4] r r (.ret (pret results84 (.t r .n) (.refl _) ⟨((bnd .u64 o p) != 0),r,hd⟩))))))))
 refine .g r r r (fun _=>.gno r r a r r .mk) (.g r r r (fun _=>.gno r r a r r .mk) (.g r r r (fun _=>.gno r r a r r .mk) (.g r r r (fun _=>.gno r r a r r .mk) (.g r r r (fun _=>.gno r r a r r .mk) (.g r r r (fun _=>.gno r r a r r .mk) (.g r r r (fun _=>.gno r r a r r .mk) (.g r r r (fun _=>.gno r r a r r .mk) (.g r r r (fun _=>.gno r r a r r .mk) (.g r r r (fun _=>.pickF r a r r r .mk) ?_)))))))))
 exact .e2 14 (.ks 1 r (.nilS [4] r r (.ret (pret results84 (.t r .n) (.refl _) ⟨false,r,hd⟩))))
theorem W_flags_words {I:IH} {a0:Int} {Q:Int→Prop}  (hd:flags_words a0 Q) :
  PFun prog 227 [.int .i64 a0] I (fun _=>o0_ Q):=by
 refine Fun.enter func227 r ntmps227 r (.c .n) fun w0 M=>?_
 refine .sr (.ks 1 r (.nilS [0] r r (.sr (.ks 1 r (.maxI r r r r (.minI r r r r (.ks 1 r (.shr' r r (by decide) r r (.ks 1 r ?_)))))))))
 exact .nilS [2] r r (.ret (pret results227 (.t r .n) (.refl _) ⟨(shr .i64 (w64 ((if 4096<(if 0 > a0 then 0 else a0) then 4096 else (if 0 > a0 then 0 else a0))+63)) 6),r,hd⟩))
theorem W_flags_each_555 {I:IH} {a0:List Int} {p1:Option Addr} {c2:Nat} {Q:(List Int)→Prop} (R3:RepSl eU64 I p1 c2 a0) (hd:flags_each_555 a0 Q) :
  Fun prog 255 #[.slice p1 a0.length c2] I [] (fun I_ v l=>∃ r b4 p5 c6,v=.func (.func 264) #[] #[.pointer (some ⟨b4,0,none⟩)]∧RepSl eU64 I_ p5 c6 r∧l=[pto b4 (.cells #[.slice p5 r.length c6] 40 (0,0))]∧Q r):=by
 refine Fun.enter (vs:=[.slice p1 a0.length c2]) func255 r ntmps255 r (.c .n) fun w0 M=>?_
 refine .sr (.box1 r r r r fun b4=>?_)
 exact .ks 1 r (.nilS [1] r r (.sr (.mkFn r r r r (.ks 1 r (.nilS [2] r r (.ret (oret results255 (.t r .n) (.refl _) (.c .z .n) ⟨a0,_,_,_,r,R3,r,hd⟩)))))))
theorem W_flags_each_1_6c7 {I:IH} {o0:Nat} {o1:Int} {o2:Int} {o3:List Int} {Y:Nat→Int→Int→Int→((Bool×Nat×Int)→Prop)→Prop} {b5:Nat} {b6:Nat} {b7:Nat} {p8:Option Addr} {c9:Nat} {lr:Nat} {Rr:Nat→HA} {Q:(Nat×Int)→Prop} (hY:∀ {J_:IH},I.le J_→∀ {y11:Nat} {y12:Int} {y14:Int} {x16:Int} {Qy:(Bool×Nat×Int)→Prop},Y y11 y12 y14 x16 Qy→RFun prog lr [.int .i64 x16] J_ [Rr y11,pto b5 (.cells #[.int .i64 y12] 3 (0,0)),pto b6 (.cells #[.int .i64 y14] 3 (0,0))] (fun I_ v l=>∃ r,v=.bool r.1∧l=[Rr r.2.1,pto b5 (.cells #[.int .i64 y12] 3 (0,0)),pto b6 (.cells #[.int .i64 r.2.2] 3 (0,0))]∧Qy r)) (R10:RepSl eU64 I p8 c9 o3) (hd:flags_each_1_6c7 o0 o1 o2 o3 Y Q) :
  Fun prog 264 #[.func (.yield lr) #[] #[],.pointer (some ⟨b7,0,none⟩)] I [Rr o0,pto b5 (.cells #[.int .i64 o1] 3 (0,0)),pto b6 (.cells #[.int .i64 o2] 3 (0,0)),pto b7 (.cells #[.slice p8 o3.length c9] 40 (0,0))] (fun I_ v l=>∃ r,v=.tuple #[]∧l=[Rr r.1,pto b5 (.cells #[.int .i64 o1] 3 (0,0)),pto b6 (.cells #[.int .i64 r.2] 3 (0,0)),pto b7 (.cells #[.slice p8 o3.length c9] 40 (0,0))]∧Q r):=by
 refine Fun.enter (vs:=[.func (.yield lr) #[] #[],.pointer (some ⟨b7,0,none⟩)]) func264 r ntmps264 r (.c (.c .n)) fun w0 M=>?_
 refine .sr (.load1 ia40 r (.s (.s (.s .z))) r r r (.len un40 r r r r (.ks 1 r (.nilS [8,7,6,1,0] r r (.block (.loop hd (fun (s:Int×Int×Nat) c w=>match s with | (p,g,q)=>∃ I_,IH.le I I_∧Ok ⟨31,[],none⟩ [(0,.func (.yield lr) #[] #[]),(1,.pointer (some ⟨b7,0,none⟩)),(6,.slice p8 o3.length c9),(7,.int .i64 (o3.length:Int)),(8,.int .i64 g)] c∧Sym w0 M I I_ [pto b5 (.cells #[.int .i64 o1] 3 (0,0)),pto b6 (.cells #[.int .i64 p] 3 (0,0)),pto b7 (.cells #[.slice p8 o3.length c9] 40 (0,0)),Rr q] w) (fun c w ho hs=>⟨I,(.refl _),ho.sub ⟨r,r,r,r,r,trivial⟩,hs.pick (.c (.s .z) (.c (.s .z) (.c (.s .z) (.c .z .n))))⟩) ?_))))))
 rintro ⟨p,g,q⟩ N hd c w hst
 obtain ⟨x,h,hok,hsym⟩:=hst
 replace R10:=R10.mono h
 refine Cod.at hok hsym (.sr (.ks 1 r (.nilS [9,8,7,6,1,0] r r (.seq (.condP r hd (fun A hd=>?_) fun A hd=>?_)))))
 · refine .skipS [8,7,6,1,0] r r (.seq (.block (.sr (.ks 1 r ?_))))
   obtain ⟨y,R,u,hd⟩:=hd
   obtain ⟨S,o211,P,K,B,C⟩:=R10.2 _ _ u
   cases C
   refine .ixa un40 sz125 r K r y (idx_lt u y) r r (.ld1 (j:=0) ia125 B r r r r r (.ks 2 r (.nilS [4,3,8,7,6,1,0] r r (.sr (.ks 1 r (.shl' r r (by decide) r r (.ks 1 r (.nilS [5,4,8,7,6,1,0] r r (.block ?_)))))))))
   refine .loop hd (fun (s:Int×Int×Int×Nat) c w=>match s with | (d,i,e,f)=>∃ I_,IH.le x I_∧Ok ⟨31,[],none⟩ [(0,.func (.yield lr) #[] #[]),(1,.pointer (some ⟨b7,0,none⟩)),(4,.int .u64 i),(5,.int .i64 e),(6,.slice p8 o3.length c9),(7,.int .i64 (o3.length:Int)),(8,.int .i64 g)] c∧Sym w0 M I I_ [pto b5 (.cells #[.int .i64 o1] 3 (0,0)),pto b6 (.cells #[.int .i64 d] 3 (0,0)),pto b7 (.cells #[.slice p8 o3.length c9] 40 (0,0)),Rr f] w) (fun c w ho hs=>⟨x,(.refl _),ho.sub ⟨r,r,r,r,r,r,r,trivial⟩,hs.pick (.c .z (.c .z (.c .z (.c .z .n))))⟩) ?_
   rintro ⟨d,i,e,f⟩ O hd c w hst
   obtain ⟨t,b,hok,hsym⟩:=hst
   have k:=IH.le.trans h b
   replace R10:=R10.mono b
   refine Cod.at hok hsym (.seq (.sr (.ks 2 r (.nilS [16,8,7,6,5,4,1,0] r r (.condP r hd (fun D hd=>?_) fun D hd=>?_)))))
   · refine .skipS [8,7,6,5,4,1,0] r r (.seq (.block (.sr (.ks 4 r ?_))))
     refine splitP hd (fun m hd=>?_) fun m hd=>?_
     · rw [m]
       refine .ks 2 r ?_
       have E:=hY (J_:=t) k (y11:=f) (y12:=o1) (y14:=d) (x16:=e) hd
       refine .gyes r r r (.callY r r (.c (.s (.s (.s .z))) (.c .z (.c .z .n))) E r r fun T L U o F=>?_)
       obtain ⟨a,rfl,rfl,hd⟩:=F
       have G:=IH.le.trans k o
       have H:=IH.le.trans b o
       replace R10:=R10.mono o
       refine .re (m':=[Rr a.2.1,pto b5 (.cells #[.int .i64 o1] 3 (0,0)),pto b6 (.cells #[.int .i64 a.2.2] 3 (0,0)),pto b7 (.cells #[.slice p8 o3.length c9] 40 (0,0))]) r (.ks 2 r (.nilS [29,8,7,6,5,4,1,0] r r (.condP r hd (fun J hd=>?_) fun J hd=>?_)))
       · exact .ret (oret results264 .n G (.c .z (.c .z (.c .z (.c .z .n)))) ⟨(a.2.1,a.2.2),r,r,hd⟩)
       exact .skipS [8,7,6,5,4,1,0] r r (.region (.ks 1 r (.shr' r r (by decide) r r (.ks 4 r (.nil' fun c w ho hs=>⟨(a.2.2,shr .u64 i 1,w64 (e+1),a.2.1),hd,L,H,ho.sub ⟨r,r,r,r,r,r,r,trivial⟩,hs.pick (.c (.s .z) (.c (.s .z) (.c (.s .z) (.c .z .n))))⟩)))))
     rw [m]
     exact .ks 5 r (.nilS [29,8,7,6,5,4,1,0] r r (.condKF r r (.skipS [8,7,6,5,4,1,0] r r (.region (.ks 1 r (.shr' r r (by decide) r r (.ks 4 r (.nil' fun c w ho hs=>⟨(d,shr .u64 i 1,w64 (e+1),f),hd,t,b,ho.sub ⟨r,r,r,r,r,r,r,trivial⟩,hs.pick (.c .z (.c .z (.c .z (.c .z .n))))⟩))))))))
   exact .exitS [8,7,6,1,0] r r (.region (.ks 2 r (.nil' fun c w ho hs=>⟨(d,w64 (g+1),f),hd,t,k,ho.sub ⟨r,r,r,r,r,trivial⟩,hs.pick (.c .z (.c .z (.c .z (.c .z .n))))⟩)))
 exact .exit (oretN results264 .n h (.c (.s (.s (.s .z))) (.c .z (.c .z (.c .z .n)))) ⟨(q,p),r,r,hd⟩)
theorem W_flags_Next {I:IH} {a0:List Int} {a1:Int} {p1:Option Addr} {c2:Nat} {Q:Int→Prop} (R3:RepSl eU64 I p1 c2 a0) (hd:flags_Next a0 a1 Q) :
  PFun prog 228 [.slice p1 a0.length c2,.int .i64 a1] I (fun _=>o0_ Q):=by
 refine Fun.enter func228 r ntmps228 r (.c (.c .n)) fun w0 M=>?_
 refine .marks0 (.sr (.box1 r r r r fun o=>?_))
 refine .alloc1 zv3 r r r fun b=>?_
 refine .nilS [4,3,0] r r (.seq (.sr (.ks 1 r ?_)))
 have p:=W_flags_each_555 (I:=I) (a0:=a0) R3 hd
 refine .callS (.f call255 r) .n p r r fun B x C j q=>?_
 obtain ⟨d,e,g,h,rfl,a,rfl,hd⟩:=q
 replace R3:=R3.mono j
 refine .re (m':=[pto e (.cells #[.slice g d.length h] 40 (0,0)),pto b (.cells #[.int .i64 0] 3 (0,0)),pto o (.cells #[.int .i64 a1] 3 (0,0)),Marks ([])]) r (.nilS [7,4,3] r r (.block (.rangeF [.ret] r call264 (.c (.s (.s (.s .z))) (.c (.s (.s .z)) (.c (.s .z) (.c .z .n)))) fun lr D rc hrc=>?_)))
 refine ⟨_,W_flags_each_1_6c7 (I:=x) (lr:=lr) (Rr:=recA lr [.ret] rc) (o0:=0) (o1:=a1) (o2:=0) (o3:=d) (b5:=o) (b6:=b) (b7:=e) (p8:=g) (c9:=h) ?_ a hd,?_⟩
 · skip
   intro I hJ E F y A Qy  hd
   replace a:=a.mono hJ
   obtain ⟨rfl,hd⟩:=hd
   refine RFun.mk hrc r fun w0 M=>?_
   refine .region (.ks 1 r (.nil' fun c w ho hs=>beginR (E':=[(3,_),(4,_),(5,_)]) ho ⟨r,r,r,trivial⟩ hs .z (.block (.sr (.ks 1 r (.load1 ia3 r (.s .z) r r r (.ks 1 r (.nilS [11,5,4] r r (.condP r hd (fun u hd=>?_) fun u hd=>?_)))))))))
   · refine .sr (.ks 1 r (.store1 sz3 r r (.s (.s .z)) (.t .nil) r (.nilS [] r r ?_)))
     exact .ret fun c w ho hs=>endR (js:=[.ret]) 1 (.inr rfl) (.refl _) .z (.c .z (.c .z .n)) ⟨(false,1,A),rfl,rfl,hd⟩ hs
   exact .skip' fun c w ho hs=>endR 0 (.inl rfl) (.refl _) .z (.c .z (.c .z .n)) ⟨(true,0,y),rfl,rfl,hd⟩ hs
 intro G H l' k v
 obtain ⟨l,rfl,rfl,hd⟩:=v
 have m:=IH.le.trans j k
 replace a:=a.mono k
 refine ⟨_,_,r,fun hj=>?_,fun i hj=>?_⟩
 · have hd:=hd.1 (decide_eq_true hj)
   exact .re (m':=[Marks (D :: []),pto o (.cells #[.int .i64 a1] 3 (0,0)),pto b (.cells #[.int .i64 l.2] 3 (0,0)),pto e (.cells #[.slice g d.length h] 40 (0,0))]) r (.mkS [4] r r (.drop (.s .z) (.drop (.s (.s .z)) (.sr (.store1 sz3 r r (.s .z) (.t .nil) r (.nilS [4] r r (.ret (pretM .z results228 (.s ia3 r .z .n) m ⟨(-1),r,hd⟩))))))))
 obtain ⟨hz,hd⟩:=hd.2 (decide_eq_false (by omega))
 obtain rfl:i=0:=by omega
 refine ⟨_,r,?_⟩
 exact .re (m':=[Marks (D :: []),pto o (.cells #[.int .i64 a1] 3 (0,0)),pto b (.cells #[.int .i64 l.2] 3 (0,0)),pto e (.cells #[.slice g d.length h] 40 (0,0))]) r (.ret (pretM .z results228 (.s ia3 r (.s .z) .n) m ⟨l.2,r,hd⟩))
theorem W_flags_Right {I:IH} {a0:List Int} {a1:Int} {p1:Option Addr} {c2:Nat} {Q:Bool→Prop} (R3:RepSl eU64 I p1 c2 a0) (hd:flags_Right a0 a1 Q) :
  PFun prog 170 [.slice p1 a0.length c2,.int .i64 a1] I (fun _=>o4_ Q):=by
 refine Fun.enter func170 r ntmps170 r (.c (.c .n)) fun w0 M=>?_
 refine .sr (.ks 1 r (.nilS [1,0] r r (.sr (.ks 3 r ?_))))
 refine splitP hd (fun b hd=>?_) fun b hd=>?_
 · rw [b]
   refine .ks 4 r ?_
   refine splitP hd (fun d hd=>?_) fun d hd=>?_
   · rw [d]
     refine .ks 1 r (.gyes r r r (.len un40 r r r r (.ks 1 r ?_)))
     have g:=W_flags_words (I:=I) hd
     refine .gyes r r r (.callP call227 r g r r fun k h=>?_)
     obtain ⟨l,rfl,hd⟩:=h
     refine .ks 3 r ?_
     refine splitP hd (fun a hd=>?_) fun a hd=>?_
     · rw [a]
       refine .ks 2 r ?_
       have e:=W_flags_Next (I:=I) R3 hd
       refine .gyes r r r (.callP call228 r e r r fun j f=>?_)
       obtain ⟨i,rfl,hd⟩:=f
       exact .ks 3 r (.nilS [4] r r (.ret (pret results170 (.t r .n) (.refl _) ⟨(decide (i<0)),r,hd⟩)))
     rw [a]
     exact .ks 6 r (.nilS [4] r r (.ret (pret results170 (.t r .n) (.refl _) ⟨false,r,hd⟩)))
   rw [d]
   exact .ks 13 r (.nilS [4] r r (.ret (pret results170 (.t r .n) (.refl _) ⟨false,r,hd⟩)))
 rw [b]
 exact .ks 17 r (.nilS [4] r r (.ret (pret results170 (.t r .n) (.refl _) ⟨false,r,hd⟩)))
theorem W_flags_New {I:IH} {a0:Int} {Q:(List Int)→Prop}  (hd:flags_New a0 Q) :
  OFun prog 188 [.int .i64 a0] I (fun I_ v l=>∃ r p1 c2,v=.slice p1 r.length c2∧l=[OwnSl eU64 125 p1 c2 r]∧Q r):=by
 refine Fun.enter func188 r ntmps188 r (.c .n) fun w0 M=>?_
 refine .sr (.ks 1 r (.nilS [0] r r (.sr (.ks 1 r ?_))))
 have a:=W_flags_words (I:=I) hd
 refine .callP call227 r a r r fun h b=>?_
 obtain ⟨d,rfl,hd⟩:=b
 obtain ⟨e,f,hd⟩:=hd
 refine .make (El:=eU64) (zv:=0) 8 un40 IN125 r r r r r r e f r r r fun g=>?_
 exact .ks 1 r (.nilS [2] r r (.ret (oret results188 (.t r .n) (.refl _) (.c .z .n) ⟨(List.replicate d.toNat 0),_,_,r,r,hd⟩)))
end Go.Proofs.YtaefnmlbnkmahaaGreat
