/- The walks (printed by a program of ours). -/
import Derived.Test.YtaefnmlbnkmahaaGreatSL
namespace Go.Proofs.YtaefnmlbnkmahaaGreat
open Go Go.Fw
set_option linter.unusedVariables false
set_option linter.unusedSimpArgs false
set_option maxRecDepth 8000
set_option maxHeartbeats 1000000
open Tryz
theorem W_csr_within {I:IH} {a0:Int} {a1:Int} {Q:Bool→Prop}  (hd:csr_within a0 a1 Q) :
  PFun prog 167 [.int .i64 a0,.int .i64 a1] I (fun _=>o4_ Q):=by
 refine Fun.enter func167 r ntmps167 r (.c (.c .n)) fun w0 M=>?_
 refine .sr (.ks 1 r (.nilS [1,0] r r (.sr (.ks 3 r ?_))))
 refine splitP hd (fun hb1 hd=>?_) fun hb1 hd=>?_
 · rw [hb1]
   exact .ks 5 r (.nilS [4] r r (.ret (pret results167 (.t r .n) (.refl _) ⟨(decide (a0≤a1)),r,hd⟩)))
 rw [hb1]
 exact .ks 5 r (.nilS [4] r r (.ret (pret results167 (.t r .n) (.refl _) ⟨false,r,hd⟩)))
theorem W_cmp_isNaN_int {I:IH} {a0:Int} {Q:Bool→Prop}  (hd:cmp_isNaN_int a0 Q) :
  PFun prog 254 [.int .i64 a0] I (fun _=>o4_ Q):=by
 refine Fun.enter func254 r ntmps254 r (.c .n) fun w0 M=>?_
 exact .sr (.ks 1 r (.nilS [0] r r (.sr (.ks 4 r (.nilS [2] r r (.ret (pret results254 (.t r .n) (.refl _) ⟨(a0 != a0),r,hd⟩)))))))
theorem W_cmp_Less_int {I:IH} {a0:Int} {a1:Int} {Q:Bool→Prop}  (hd:cmp_Less_int a0 a1 Q) :
  PFun prog 226 [.int .i64 a0,.int .i64 a1] I (fun _=>o4_ Q):=by
 refine Fun.enter func226 r ntmps226 r (.c (.c .n)) fun w0 M=>?_
 refine .sr (.ks 1 r (.nilS [1,0] r r (.sr (.ks 1 r ?_))))
 have hw2:=W_cmp_isNaN_int (I:=I) hd
 refine .callP call254 r hw2 r r fun v3 hv4=>?_
 obtain ⟨r1,rfl,hd⟩:=hv4
 refine .ks 1 r ?_
 refine splitP hd (fun hb5 hd=>?_) fun hb5 hd=>?_
 · rw [hb5]
   refine .ks 1 r ?_
   have hw7:=W_cmp_isNaN_int (I:=I) hd
   refine .gyes r r r (.callP call254 r hw7 r r fun v8 hv9=>?_)
   obtain ⟨r6,rfl,hd⟩:=hv9
   refine .ks 3 r ?_
   refine splitP hd (fun hb10 hd=>?_) fun hb10 hd=>?_
   · rw [hb10]
     exact .ks 5 r (.nilS [4] r r (.ret (pret results226 (.t r .n) (.refl _) ⟨true,r,hd⟩)))
   rw [hb10]
   exact .ks 5 r (.nilS [4] r r (.ret (pret results226 (.t r .n) (.refl _) ⟨(decide (a0<a1)),r,hd⟩)))
 rw [hb5]
 exact .ks 10 r (.nilS [4] r r (.ret (pret results226 (.t r .n) (.refl _) ⟨(decide (a0<a1)),r,hd⟩)))
theorem W_slices_IsSorted_int_int {I:IH} {a0:List Int} {p1:Option Addr} {c2:Nat} {Q:Bool→Prop} (R3:RepSl eI64 I p1 c2 a0) (hd:slices_IsSorted_int_int a0 Q) :
  PFun prog 168 [.slice p1 a0.length c2] I (fun _=>o4_ Q):=by
 refine Fun.enter func168 r ntmps168 r (.c .n) fun w0 M=>?_
 refine .sr (.ks 1 r (.nilS [0] r r (.seq (.sr (.ks 1 r (.len un29 r r r r (.ks 2 r (.nilS [3,0] r r (.block ?_)))))))))
 refine .loop hd (fun (s57:Int) c w=>∃ I_,IH.le I I_∧Ok ⟨21,[],none⟩ [(0,.slice p1 a0.length c2),(3,.int .i64 s57)] c∧Sym w0 M I I_ [] w) (fun c w ho hs=>⟨I,(.refl _),ho.sub ⟨r,r,trivial⟩,hs.pick .n⟩) ?_
 rintro s57 next58 hd c w hst
 obtain ⟨I59,hl60,hok,hsym⟩:=hst
 replace R3:=R3.mono hl60
 refine Cod.at hok hsym (.seq (.sr (.ks 2 r (.nilS [8,3,0] r r (.condP r hd (fun hb62 hd=>?_) fun hb62 hd=>?_)))))
 · refine .skipS [3,0] r r (.seq (.block (.seq (.dr [0,1,2,3,4,5,6,7,8,9] 10 (.fk 2 r ?_)))))
   obtain ⟨h63,x64,hx65,hd⟩:=hd
   obtain ⟨b66,o67,cs68,e69,hC70,hr71⟩:=R3.2 _ _ hx65
   cases hr71
   refine .g r r r (fun _=>.ixa un29 sz3 r e69 r h63 (idx_lt hx65 h63) r r .mk) (.g r r r (fun _=>.ld1 (j:=0) ia3 hC70 r r r r r .mk) (.fk 3 r ?_))
   obtain ⟨h72,x73,hx74,hd⟩:=hd
   obtain ⟨b75,o76,cs77,e78,hC79,hr80⟩:=R3.2 _ _ hx74
   cases hr80
   refine .g r r r (fun _=>.ixa un29 sz3 r e78 r h72 (idx_lt hx74 h72) r r .mk) (.g r r r (fun _=>.ld1 (j:=0) ia3 hC79 r r r r r .mk) (.ww r fun ex=>?_))
   have hw82:=W_cmp_Less_int (I:=I59) hd
   refine .callP call226 r hw82 r r fun v83 hv84=>?_
   obtain ⟨r81,rfl,hd⟩:=hv84
   refine .so 0 r r r trivial (.e2 10 (.nilS [20,3,0] r r (.condP r hd (fun hb85 hd=>?_) fun hb85 hd=>?_)))
   · exact .sr (.ks 1 r (.nilS [2] r r (.ret (pret results168 (.t r .n) hl60 ⟨false,r,hd⟩))))
   exact .skipS [3,0] r r (.region (.ks 3 r (.nil' fun c w ho hs=>⟨(w64 (s57 - 1)),hd,I59,hl60,ho.sub ⟨r,r,trivial⟩,hs.pick .n⟩)))
 exact .exitS [] r r (.sr (.ks 1 r (.nilS [2] r r (.ret (pret results168 (.t r .n) hl60 ⟨true,r,hd⟩)))))
theorem W_csr_row {I:IH} {a0:List Int} {a1:Int} {p1:Option Addr} {c2:Nat} {Q:Bool→Prop} (R3:RepSl eI64 I p1 c2 a0) (hd:csr_row a0 a1 Q) :
  PFun prog 169 [.slice p1 a0.length c2,.int .i64 a1] I (fun _=>o4_ Q):=by
 refine Fun.enter func169 r ntmps169 r (.c (.c .n)) fun w0 M=>?_
 refine .sr (.ks 1 r (.nilS [1,0] r r (.seq (.sr (.ks 1 r (.len un29 r r r r (.ks 1 r (.nilS [9,8,7,1,0] r r (.block ?_)))))))))
 refine .loop hd (fun (s68:Int) c w=>∃ I_,IH.le I I_∧Ok ⟨33,[],none⟩ [(0,.slice p1 a0.length c2),(1,.int .i64 a1),(7,.slice p1 a0.length c2),(8,.int .i64 (a0.length:Int)),(9,.int .i64 s68)] c∧Sym w0 M I I_ [] w) (fun c w ho hs=>⟨I,(.refl _),ho.sub ⟨r,r,r,r,r,trivial⟩,hs.pick .n⟩) ?_
 rintro s68 next69 hd c w hst
 obtain ⟨I70,hl71,hok,hsym⟩:=hst
 replace R3:=R3.mono hl71
 refine Cod.at hok hsym (.sr (.ks 1 r (.nilS [10,9,8,7,1,0] r r (.seq (.condP r hd (fun hb73 hd=>?_) fun hb73 hd=>?_)))))
 · refine .skipS [9,8,7,1,0] r r (.seq (.block (.sr (.ks 1 r ?_))))
   obtain ⟨h83,x84,hx85,hd⟩:=hd
   obtain ⟨b86,o87,cs88,e89,hC90,hr91⟩:=R3.2 _ _ hx85
   cases hr91
   refine .ixa un29 sz3 r e89 r h83 (idx_lt hx85 h83) r r (.ld1 (j:=0) ia3 hC90 r r r r r (.ks 2 r (.nilS [6,5,9,8,7,1,0] r r (.sr (.ks 3 r ?_)))))
   have hw93:=W_csr_within (I:=I70) hd
   refine .callP call167 r hw93 r r fun v94 hv95=>?_
   obtain ⟨r92,rfl,hd⟩:=hv95
   refine .ks 2 r ?_
   refine splitP hd (fun hb96 hd=>?_) fun hb96 hd=>?_
   · rw [hb96]
     exact .ks 12 r (.nilS [31,9,8,7,1,0] r r (.condKT r r (.sr (.ks 1 r (.nilS [4] r r (.ret (pret results169 (.t r .n) hl71 ⟨false,r,hd⟩)))))))
   rw [hb96]
   refine .ks 3 r ?_
   refine splitP hd (fun hb97 hd=>?_) fun hb97 hd=>?_
   · rw [hb97]
     refine .ks 3 r ?_
     obtain ⟨h98,x99,hx100,hd⟩:=hd
     obtain ⟨b101,o102,cs103,e104,hC105,hr106⟩:=R3.2 _ _ hx100
     cases hr106
     refine .gyes r r r (.ixa un29 sz3 r e104 r h98 (idx_lt hx100 h98) r r (.gyes r r r (.ld1 (j:=0) ia3 hC105 r r r r r (.ks 4 r (.nilS [31,9,8,7,1,0] r r (.condP r hd (fun hb107 hd=>?_) fun hb107 hd=>?_))))))
     · exact .sr (.ks 1 r (.nilS [4] r r (.ret (pret results169 (.t r .n) hl71 ⟨false,r,hd⟩))))
     exact .skipS [9,8,7,1,0] r r (.region (.ks 2 r (.nil' fun c w ho hs=>⟨(w64 (s68+1)),hd,I70,hl71,ho.sub ⟨r,r,r,r,r,trivial⟩,hs.pick .n⟩)))
   rw [hb97]
   exact .ks 9 r (.nilS [31,9,8,7,1,0] r r (.condKF r r (.skipS [9,8,7,1,0] r r (.region (.ks 2 r (.nil' fun c w ho hs=>⟨(w64 (s68+1)),hd,I70,hl71,ho.sub ⟨r,r,r,r,r,trivial⟩,hs.pick .n⟩))))))
 exact .exitS [] r r (.sr (.ks 1 r (.nilS [4] r r (.ret (pret results169 (.t r .n) hl71 ⟨true,r,hd⟩)))))
theorem W_csr_Right {I:IH} {a0:Rows} {p1:Option Addr} {c2:Nat} {p4:Option Addr} {c5:Nat} {p7:Option Addr} {c8:Nat} {Q:Bool→Prop} (R3:RepSl eI64 I p1 c2 a0.Start) (R6:RepSl eI64 I p4 c5 a0.Col) (R9:RepSl eI64 I p7 c8 a0.Val) (hd:csr_Right a0 Q) :
  PFun prog 96 [.agg #[.int .i64 a0.Rows,.int .i64 a0.Cols,.slice p1 a0.Start.length c2,.slice p4 a0.Col.length c5,.slice p7 a0.Val.length c8]] I (fun _=>o4_ Q):=by
 refine Fun.enter func96 r ntmps96 r (.c .n) fun w0 M=>?_
 refine .sr (.boxA r r r fun b12=>?_)
 refine .ks 1 r (.nilS [1] r r (.sr (.fa un32 r sz29 r (o:=3) r r r (.load1 ia29 r .z r r r (.len un29 r r r r (.ks 1 r (.nilS [3,1] r r (.seq (.sr ?_)))))))))
 refine .fa un32 r sz3 r (o:=0) r r r (.load1 ia3 r .z r r r ?_)
 have hw28:=W_csr_within (I:=I) hd
 refine .callP call167 r hw28 r r fun v29 hv30=>?_
 obtain ⟨r27,rfl,hd⟩:=hv30
 refine .ks 2 r ?_
 refine splitP hd (fun hb31 hd=>?_) fun hb31 hd=>?_
 · rw [hb31]
   exact .ks 25 r (.nilS [37,3,1] r r (.condKT r r (.sr (.ks 1 r (.nilS [2] r r (.drop .z (.ret (pret results96 (.t r .n) (.refl _) ⟨false,r,hd⟩))))))))
 rw [hb31]
 refine .gyes r r r (.fa un32 r sz3 r (o:=1) r r r (.gyes r r r (.load1 ia3 r .z r r r ?_)))
 have hw33:=W_csr_within (I:=I) hd
 refine .gyes r r r (.callP call167 r hw33 r r fun v34 hv35=>?_)
 obtain ⟨r32,rfl,hd⟩:=hv35
 refine .ks 3 r ?_
 refine splitP hd (fun hb36 hd=>?_) fun hb36 hd=>?_
 · rw [hb36]
   exact .ks 19 r (.nilS [37,3,1] r r (.condKT r r (.sr (.ks 1 r (.nilS [2] r r (.drop .z (.ret (pret results96 (.t r .n) (.refl _) ⟨false,r,hd⟩))))))))
 rw [hb36]
 refine .gyes r r r (.fa un32 r sz29 r (o:=2) r r r (.gyes r r r (.load1 ia29 r .z r r r (.gyes r r r (.len un29 r r r r (.gyes r r r (.fa un32 r sz3 r (o:=0) r r r (.gyes r r r (.load1 ia3 r .z r r r (.ks 4 r ?_))))))))))
 refine splitP hd (fun hb37 hd=>?_) fun hb37 hd=>?_
 · rw [hb37]
   exact .ks 10 r (.nilS [37,3,1] r r (.condKT r r (.sr (.ks 1 r (.nilS [2] r r (.drop .z (.ret (pret results96 (.t r .n) (.refl _) ⟨false,r,hd⟩))))))))
 rw [hb37]
 refine .gyes r r r (.fa un32 r sz30 r (o:=4) r r r (.gyes r r r (.load1 ia30 r .z r r r (.gyes r r r (.len un30 r r r r (.ks 4 r ?_))))))
 refine splitP hd (fun hb38 hd=>?_) fun hb38 hd=>?_
 · rw [hb38]
   exact .ks 3 r (.nilS [37,3,1] r r (.condKT r r (.sr (.ks 1 r (.nilS [2] r r (.drop .z (.ret (pret results96 (.t r .n) (.refl _) ⟨false,r,hd⟩))))))))
 rw [hb38]
 refine .ks 3 r (.nilS [37,3,1] r r (.condP r hd (fun hb39 hd=>?_) fun hb39 hd=>?_))
 · exact .sr (.ks 1 r (.nilS [2] r r (.drop .z (.ret (pret results96 (.t r .n) (.refl _) ⟨false,r,hd⟩)))))
 refine .skipS [3,1] r r (.seq (.sr (.fa un32 r sz29 r (o:=2) r r r (.load1 ia29 r .z r r r ?_))))
 obtain ⟨h65,x66,hx67,hd⟩:=hd
 obtain ⟨b68,o69,cs70,e71,hC72,hr73⟩:=R3.2 _ _ hx67
 cases hr73
 refine .ixa un29 sz3 r e71 r h65 (idx_lt hx67 h65) r r (.ld1 (j:=0) ia3 hC72 r r r r r (.ks 2 r ?_))
 refine splitP hd (fun hb74 hd=>?_) fun hb74 hd=>?_
 · rw [hb74]
   exact .ks 15 r (.nilS [58,1] r r (.condKT r r (.sr (.ks 1 r (.nilS [2] r r (.drop .z (.ret (pret results96 (.t r .n) (.refl _) ⟨false,r,hd⟩))))))))
 rw [hb74]
 refine .gyes r r r (.fa un32 r sz29 r (o:=2) r r r (.gyes r r r (.load1 ia29 r .z r r r (.gyes r r r (.fa un32 r sz3 r (o:=0) r r r (.gyes r r r (.load1 ia3 r .z r r r ?_)))))))
 obtain ⟨h75,x76,hx77,hd⟩:=hd
 obtain ⟨b78,o79,cs80,e81,hC82,hr83⟩:=R3.2 _ _ hx77
 cases hr83
 refine .gyes r r r (.ixa un29 sz3 r e81 r h75 (idx_lt hx77 h75) r r (.gyes r r r (.ld1 (j:=0) ia3 hC82 r r r r r (.ks 4 r ?_))))
 refine splitP hd (fun hb84 hd=>?_) fun hb84 hd=>?_
 · rw [hb84]
   exact .ks 5 r (.nilS [58,1] r r (.condKT r r (.sr (.ks 1 r (.nilS [2] r r (.drop .z (.ret (pret results96 (.t r .n) (.refl _) ⟨false,r,hd⟩))))))))
 rw [hb84]
 refine .gyes r r r (.fa un32 r sz29 r (o:=2) r r r (.gyes r r r (.load1 ia29 r .z r r r ?_)))
 have hw86:=W_slices_IsSorted_int_int (I:=I) R3 hd
 refine .gyes r r r (.callP call168 r hw86 r r fun v87 hv88=>?_)
 obtain ⟨r85,rfl,hd⟩:=hv88
 refine .ks 2 r (.nilS [58,1] r r (.condP r hd (fun hb89 hd=>?_) fun hb89 hd=>?_))
 · exact .sr (.ks 1 r (.nilS [2] r r (.drop .z (.ret (pret results96 (.t r .n) (.refl _) ⟨false,r,hd⟩)))))
 refine .skipS [1] r r (.seq (.sr (.fa un32 r sz3 r (o:=0) r r r (.load1 ia3 r .z r r r (.ks 1 r (.nilS [61,60,1] r r (.block (.loop hd (fun (s163:Int) c w=>∃ I_,IH.le I I_∧Ok ⟨83,[],none⟩ [(1,.pointer (some ⟨b12,0,none⟩)),(60,.int .i64 a0.Rows),(61,.int .i64 s163)] c∧Sym w0 M I I_ [pto b12 (.cells #[.int .i64 a0.Rows,.int .i64 a0.Cols,.slice p1 a0.Start.length c2,.slice p4 a0.Col.length c5,.slice p7 a0.Val.length c8] 32 (0,0))] w) (fun c w ho hs=>⟨I,(.refl _),ho.sub ⟨r,r,r,trivial⟩,hs.pick (.c .z .n)⟩) ?_))))))))
 rintro s163 next164 hd c w hst
 obtain ⟨I165,hl166,hok,hsym⟩:=hst
 replace R3:=R3.mono hl166
 replace R6:=R6.mono hl166
 replace R9:=R9.mono hl166
 refine Cod.at hok hsym (.sr (.ks 1 r (.nilS [62,61,60,1] r r (.seq (.condP r hd (fun hb168 hd=>?_) fun hb168 hd=>?_)))))
 · refine .skipS [61,60,1] r r (.seq (.block (.sr (.ks 2 r (.nilS [4,61,60,1] r r (.seq (.dr [0,1,2,3,4,5,6,7,8,9,10,11,12,13,14,15,16,17] 18 (.g r r r (fun _=>.fa un32 r sz29 r (o:=3) r r r .mk) (.g r r r (fun _=>.load1 ia29 r .z r r r .mk) ?_)))))))))
   refine .g r r r (fun _=>.fa un32 r sz29 r (o:=2) r r r .mk) (.g r r r (fun _=>.load1 ia29 r .z r r r .mk) (.fk 1 r ?_))
   obtain ⟨h169,x170,hx171,hd⟩:=hd
   obtain ⟨b172,o173,cs174,e175,hC176,hr177⟩:=R3.2 _ _ hx171
   cases hr177
   refine .g r r r (fun _=>.ixa un29 sz3 r e175 r h169 (idx_lt hx171 h169) r r .mk) (.g r r r (fun _=>.ld1 (j:=0) ia3 hC176 r r r r r .mk) (.g r r r (fun _=>.fa un32 r sz29 r (o:=2) r r r .mk) (.g r r r (fun _=>.load1 ia29 r .z r r r .mk) (.fk 2 r ?_))))
   obtain ⟨h178,x179,hx180,hd⟩:=hd
   obtain ⟨b181,o182,cs183,e184,hC185,hr186⟩:=R3.2 _ _ hx180
   cases hr186
   refine .g r r r (fun _=>.ixa un29 sz3 r e184 r h178 (idx_lt hx180 h178) r r .mk) (.g r r r (fun _=>.ld1 (j:=0) ia3 hC185 r r r r r .mk) ?_)
   obtain ⟨h187,h188,h189,hd⟩:=hd
   have h195:Int.toNat x170≤Int.toNat x179:=by omega
   have h196:Int.toNat x179≤a0.Col.length:=by omega
   obtain ⟨p190,c191,e193,e194,R192⟩:=RepSl.sliceW R6 (Int.toNat x170) (Int.toNat x179) c5 h195 h196 (.inl rfl)
   refine .g r r r (fun _=>.sliceW (L:=Int.toNat x170) (H:=Int.toNat x179) (cm:=c5) un29 sz3 r r R6.1 r r r (.inr ⟨_,_,r,h187,r⟩) (.inr ⟨_,_,r,(by omega),r⟩) (.inl r) h195 h196 r e193 e194 r r .mk) (.g r r r (fun _=>.fa un32 r sz3 r (o:=1) r r r .mk) (.g r r r (fun _=>.load1 ia3 r .z r r r .mk) (.ww r fun ex=>?_)))
   have hw198:=W_csr_row (I:=I165) R192 hd
   refine .callP call169 r hw198 r r fun v199 hv200=>?_
   obtain ⟨r197,rfl,hd⟩:=hv200
   refine .so 1 r r r trivial (.fk 1 r (.e2 18 (.nilS [81,61,60,1] r r (.condP r hd (fun hb201 hd=>?_) fun hb201 hd=>?_))))
   · exact .sr (.ks 1 r (.nilS [2] r r (.drop .z (.ret (pret results96 (.t r .n) hl166 ⟨false,r,hd⟩)))))
   exact .skipS [61,60,1] r r (.region (.ks 2 r (.nil' fun c w ho hs=>⟨(w64 (s163+1)),hd,I165,hl166,ho.sub ⟨r,r,r,trivial⟩,hs.pick (.c .z .n)⟩)))
 exact .exitS [] r r (.drop .z (.sr (.ks 1 r (.nilS [2] r r (.ret (pret results96 (.t r .n) hl166 ⟨true,r,hd⟩))))))
theorem W_csr_empty {I:IH} {a0:Int} {a1:Int} {Q:Rows→Prop}  (hd:csr_empty a0 a1 Q) :
  OFun prog 229 [.int .i64 a0,.int .i64 a1] I (fun _=>o5_ Q):=by
 refine Fun.enter func229 r ntmps229 r (.c (.c .n)) fun w0 M=>?_
 refine .sr (.allocA zv32 r r fun b10=>?_)
 refine .nilS [4,1,0] r r (.sr (.ks 4 r ?_))
 obtain ⟨h12,h13,hd⟩:=hd
 refine .make (El:=eI64) (zv:=0) 8 un29 IN3 r r r r r r h12 h13 r r r fun b14=>?_
 exact .build zv32 un32 BI32 (.c r r r (.t .nil) (.c r r r (.s (.t .nil)) (.c r r r (.s (.s (.t .nil))) .n))) (by exact ⟨⟨_,_,r,r,r⟩,⟨⟨_,_,r,r,r⟩,⟨⟨_,_,r,r,r⟩,trivial⟩⟩⟩) r r (.storeA sz32 r r (.s .z) (.t (.t (.t (.t (.t .nil))))) r r (.nilS [4] r r (.own0 eI64 3 (.own0 eI64 2 (.ret (oret results229 (.w ia32 sz32 r (.s (.s (.s .z))) r .n) (.refl _) (.c (.s (.s .z)) (.c (.s .z) (.c .z .n))) ⟨({ Rows:=a0,Cols:=a1,Start:=(List.replicate (w64 (a0+1)).toNat 0),Col:=([]:List Int),Val:=([]:List Int) }:Rows),_,_,_,_,_,_,r,r,hd⟩))))))
theorem W_csr_sure {I:IH} {a0:Rows} {p1:Option Addr} {c2:Nat} {p4:Option Addr} {c5:Nat} {p7:Option Addr} {c8:Nat} {Q:Rows→Prop} (R3:RepSl eI64 I p1 c2 a0.Start) (R6:RepSl eI64 I p4 c5 a0.Col) (R9:RepSl eI64 I p7 c8 a0.Val) (hd:csr_sure a0 Q) :
  PFun prog 173 [.agg #[.int .i64 a0.Rows,.int .i64 a0.Cols,.slice p1 a0.Start.length c2,.slice p4 a0.Col.length c5,.slice p7 a0.Val.length c8]] I (o8_ Q):=by
 refine Fun.enter func173 r ntmps173 r (.c .n) fun w0 M=>?_
 refine .sr (.boxA r r r fun b23=>?_)
 refine .allocA zv32 r r fun b25=>?_
 refine .nilS [2,1] r r (.seq (.sr (.loadW ia32 sz32 r (.s .z) r r r ?_)))
 have hw28:=W_csr_Right (I:=I) R3 R6 R9 hd
 refine .callP call96 r hw28 r r fun v29 hv30=>?_
 obtain ⟨r27,rfl,hd⟩:=hv30
 refine .nilS [4,2,1] r r (.condP r hd (fun hb31 hd=>?_) fun hb31 hd=>?_)
 · exact .sr (.loadW ia32 sz32 r (.s .z) r r r (.storeA sz32 r r .z (.t (.t (.t (.t (.t .nil))))) r r (.nilS [2] r r (.drop (.s .z) (.ret (pret results173 (.w ia32 sz32 r .z r .n) (.refl _) ⟨a0,_,_,_,_,_,_,r,R3,R6,R9,hd⟩))))))
 refine .skipS [2] r r (.drop (.s .z) (.sr ?_))
 have hw50:=W_csr_empty (I:=I) hd
 refine .callO call229 r hw50 r r fun v36 I33 l37 hl34 hv35=>?_
 obtain ⟨r32,p38,c39,p41,c42,p44,c45,rfl,rfl,hd⟩:=hv35
 refine .storeA sz32 r r (.s (.s (.s .z))) (.t (.t (.t (.t (.t .nil))))) r r (.nilS [2] r r (.pub .z fun I51 hl52 R53=>?_))
 have le54:=IH.le.trans hl34 hl52
 refine .pub .z fun I55 hl56 R57=>?_
 have le58:=IH.le.trans le54 hl56
 replace R53:=R53.mono hl56
 refine .pub .z fun I59 hl60 R61=>?_
 have le62:=IH.le.trans le58 hl60
 replace R53:=R53.mono hl60
 replace R57:=R57.mono hl60
 exact .ret (pret results173 (.w ia32 sz32 r .z r .n) le62 ⟨r32,_,_,_,_,_,_,r,R53,R57,R61,hd⟩)
theorem W_csr_bounds {I:IH} {a0:Int×Int} {a1:Int} {Q:(Int×Int)→Prop}  (hd:csr_bounds a0 a1 Q) :
  PFun prog 174 [.agg #[.int .i64 a0.1,.int .i64 a0.2],.int .i64 a1] I (fun _=>o9_ Q):=by
 refine Fun.enter func174 r ntmps174 r (.c (.c .n)) fun w0 M=>?_
 refine .sr (.boxA r r r fun b3=>?_)
 refine .ks 2 r (.nilS [2,1] r r (.sr (.ixArr (i:=0) un169 sz3 r r (by decide) (o:=0) r r r (.load1 ia3 r .z r r r (.maxI r r r r (.ks 1 r (.nilS [6,2,1] r r (.sr (.ixArr (i:=1) un169 sz3 r r (by decide) (o:=1) r r r ?_)))))))))
 refine .load1 ia3 r .z r r r (.ks 1 r (.minI r r r r (.ks 1 r (.nilS [7,6] r r (.drop .z (.seq (.sr (.ks 3 r (.nilS [17,7,6] r r ?_)))))))))
 refine .condP r hd (fun hb5 hd=>?_) fun hb5 hd=>?_
 · exact .sr (.ks 3 r (.nilS [5,4] r r (.ret (pret results174 (.t r (.t r .n)) (.refl _) ⟨((if 0 > a0.1 then 0 else a0.1),0),r,hd⟩))))
 exact .skipS [7,6] r r (.sr (.ks 6 r (.nilS [5,4] r r (.ret (pret results174 (.t r (.t r .n)) (.refl _) ⟨((if 0 > a0.1 then 0 else a0.1),w64 ((if a1<a0.2 then a1 else a0.2) - (if 0 > a0.1 then 0 else a0.1))),r,hd⟩)))))
theorem W_csr_part {I:IH} {a0:Rows} {a1:Int} {p1:Option Addr} {c2:Nat} {p4:Option Addr} {c5:Nat} {p7:Option Addr} {c8:Nat} {Q:((List Int)×(List Int))→Prop} (R3:RepSl eI64 I p1 c2 a0.Start) (R6:RepSl eI64 I p4 c5 a0.Col) (R9:RepSl eI64 I p7 c8 a0.Val) (hd:csr_part a0 a1 Q) :
  PFun prog 230 [.agg #[.int .i64 a0.Rows,.int .i64 a0.Cols,.slice p1 a0.Start.length c2,.slice p4 a0.Col.length c5,.slice p7 a0.Val.length c8],.int .i64 a1] I (o10_ Q):=by
 refine Fun.enter func230 r ntmps230 r (.c (.c .n)) fun w0 M=>?_
 refine .sr (.boxA r r r fun b18=>?_)
 refine .ks 2 r (.nilS [2,1] r r (.seq (.dr [0,1,2,3,4,5,6,7,8,9,10,11] 12 (.g r r r (fun _=>.fa un32 r sz29 r (o:=2) r r r .mk) (.g r r r (fun _=>.load1 ia29 r .z r r r .mk) (.fk 1 r ?_))))))
 obtain ⟨h38,x39,hx40,hd⟩:=hd
 obtain ⟨b41,o42,cs43,e44,hC45,hr46⟩:=R3.2 _ _ hx40
 cases hr46
 refine .g r r r (fun _=>.ixa un29 sz3 r e44 r h38 (idx_lt hx40 h38) r r .mk) (.g r r r (fun _=>.ld1 (j:=0) ia3 hC45 r r r r r .mk) (.g r r r (fun _=>.fa un32 r sz29 r (o:=2) r r r .mk) (.g r r r (fun _=>.load1 ia29 r .z r r r .mk) (.fk 2 r ?_))))
 obtain ⟨h47,x48,hx49,hd⟩:=hd
 obtain ⟨b50,o51,cs52,e53,hC54,hr55⟩:=R3.2 _ _ hx49
 cases hr55
 refine .g r r r (fun _=>.ixa un29 sz3 r e53 r h47 (idx_lt hx49 h47) r r .mk) (.g r r r (fun _=>.ld1 (j:=0) ia3 hC54 r r r r r .mk) (.fk 1 r (.e2 12 (.ks 1 r (.nilS [7,6,2] r r (.seq (.dr [0,1,2,3,4,5,6,7,8,9,10,11,12] 13 (.g r r r (fun _=>.fa un32 r sz29 r (o:=3) r r r .mk) (.g r r r (fun _=>.load1 ia29 r .z r r r .mk) ?_)))))))))
 refine .fk 3 r ?_
 obtain ⟨h56,h57,h58,hd⟩:=hd
 have h64:Int.toNat x39≤Int.toNat x48:=by omega
 have h65:Int.toNat x48≤a0.Col.length:=by omega
 obtain ⟨p59,c60,e62,e63,R61⟩:=RepSl.sliceW R6 (Int.toNat x39) (Int.toNat x48) (Int.toNat x48) h64 h65 (.inr rfl)
 refine .g r r r (fun _=>.sliceW (L:=Int.toNat x39) (H:=Int.toNat x48) (cm:=Int.toNat x48) un29 sz3 r r R6.1 r r r (.inr ⟨_,_,r,h56,r⟩) (.inr ⟨_,_,r,(by omega),r⟩) (.inr r) h64 h65 r e62 e63 r r .mk) (.g r r r (fun _=>.fa un32 r sz30 r (o:=4) r r r .mk) (.g r r r (fun _=>.load1 ia30 r .z r r r .mk) (.fk 3 r ?_)))
 obtain ⟨h66,h67,h68,hd⟩:=hd
 have h74:Int.toNat x39≤Int.toNat x48:=by omega
 have h75:Int.toNat x48≤a0.Val.length:=by omega
 obtain ⟨p69,c70,e72,e73,R71⟩:=RepSl.sliceW R9 (Int.toNat x39) (Int.toNat x48) (Int.toNat x48) h74 h75 (.inr rfl)
 exact .g r r r (fun _=>.sliceW (L:=Int.toNat x39) (H:=Int.toNat x48) (cm:=Int.toNat x48) un30 sz2 r r R9.1 r r r (.inr ⟨_,_,r,h66,r⟩) (.inr ⟨_,_,r,(by omega),r⟩) (.inr r) h74 h75 r e72 e73 r r .mk) (.fk 1 r (.e2 13 (.ks 1 r (.nilS [5,4] r r (.drop .z (.ret (pret results230 (.t r (.t r .n)) (.refl _) ⟨(((a0.Col.take x48.toNat).drop x39.toNat),((a0.Val.take x48.toNat).drop x39.toNat)),_,_,_,_,r,R61,R71,hd⟩)))))))
theorem W_csr_Row {I:IH} {a0:Rows} {a1:Int} {p1:Option Addr} {c2:Nat} {p4:Option Addr} {c5:Nat} {p7:Option Addr} {c8:Nat} {Q:(List Item)→Prop} (R3:RepSl eI64 I p1 c2 a0.Start) (R6:RepSl eI64 I p4 c5 a0.Col) (R9:RepSl eI64 I p7 c8 a0.Val) (hd:csr_Row a0 a1 Q) :
  PFun prog 175 [.agg #[.int .i64 a0.Rows,.int .i64 a0.Cols,.slice p1 a0.Start.length c2,.slice p4 a0.Col.length c5,.slice p7 a0.Val.length c8],.int .i64 a1] I (fun I_ v=>∃ r p10 c11,v=.slice p10 r.length c11∧RepSl eItem I_ p10 c11 r∧Q r):=by
 refine Fun.enter func175 r ntmps175 r (.c (.c .n)) fun w0 M=>?_
 refine .sr (.boxA r r r fun b15=>?_)
 refine .ks 1 r (.nilS [2,1] r r (.sr (.loadW ia32 sz32 r .z r r r ?_)))
 have hw48:=W_csr_sure (I:=I) R3 R6 R9 hd
 refine .call call173 r hw48 r r fun v37 I34 hl35 hv36=>?_
 obtain ⟨r33,p39,c40,p42,c43,p45,c46,rfl,R41,R44,R47,hd⟩:=hv36
 replace R3:=R3.mono hl35
 replace R6:=R6.mono hl35
 replace R9:=R9.mono hl35
 refine .storeA sz32 r r .z (.t (.t (.t (.t (.t .nil))))) r r (.nilS [2,1] r r (.seq (.sr (.ks 1 r (.fa un32 r sz3 r (o:=0) r r r (.load1 ia3 r .z r r r (.ks 1 r ?_)))))))
 have hw55:=W_csr_within (I:=I34) hd
 refine .callP call167 r hw55 r r fun v56 hv57=>?_
 obtain ⟨r54,rfl,hd⟩:=hv57
 refine .ks 1 r (.nilS [17,2,1] r r (.condP r hd (fun hb58 hd=>?_) fun hb58 hd=>?_))
 · exact .sr (.ks 1 r (.nilS [4] r r (.drop .z (.ret (pret results175 (.t r .n) hl35 ⟨([]:List Item),_,_,r,(.nil _ _ _),hd⟩)))))
 refine .skipS [2,1] r r (.sr (.ks 1 r (.nilS [5,2,1] r r (.sr (.loadW ia32 sz32 r .z r r r (.ks 1 r ?_))))))
 have hw85:=W_csr_part (I:=I34) R41 R44 R47 hd
 refine .call call230 r hw85 r r fun v77 I74 hl75 hv76=>?_
 obtain ⟨r73,p79,c80,p82,c83,rfl,R81,R84,hd⟩:=hv76
 have le86:=IH.le.trans hl35 hl75
 replace R41:=R41.mono hl75
 replace R44:=R44.mono hl75
 replace R47:=R47.mono hl75
 refine .ks 5 r (.nilS [7,6,5] r r (.drop .z (.seq (.sr (.ks 1 r (.len un29 r r r r (.ks 1 r (.nilS [26,25,24,7,5] r r (.block ?_)))))))))
 refine .own0 eItem 51 (.loop hd (fun (s:(List Item)×Int) c w=>match s with | (s155,s159)=>∃ I_ p156 c157,IH.le I74 I_∧Ok ⟨42,[],none⟩ [(5,.slice p156 s155.length c157),(7,.slice p82 r73.2.length c83),(24,.slice p79 r73.1.length c80),(25,.int .i64 (r73.1.length:Int)),(26,.int .i64 s159)] c∧Sym w0 M I I_ [OwnSl eItem 51 p156 c157 s155] w) (fun c w ho hs=>⟨I74,_,_,(.refl _),ho.sub ⟨r,r,r,r,r,trivial⟩,hs.pick (.c .z .n)⟩) ?_)
 rintro ⟨s155,s159⟩ next161 hd c w hst
 obtain ⟨I162,p156,c157,hl163,hok,hsym⟩:=hst
 have le164:=IH.le.trans le86 hl163
 replace R81:=R81.mono hl163
 replace R84:=R84.mono hl163
 refine Cod.at hok hsym (.sr (.ks 1 r (.nilS [27,26,25,24,7,5] r r (.seq (.condP r hd (fun hb166 hd=>?_) fun hb166 hd=>?_)))))
 · refine .skipS [26,25,24,7,5] r r (.seq (.block (.sr (.ks 1 r ?_))))
   obtain ⟨h167,x168,hx169,hd⟩:=hd
   obtain ⟨b170,o171,cs172,e173,hC174,hr175⟩:=R81.2 _ _ hx169
   cases hr175
   refine .ixa un29 sz3 r e173 r h167 (idx_lt hx169 h167) r r (.ld1 (j:=0) ia3 hC174 r r r r r (.ks 2 r (.nilS [9,8,26,25,24,7,5] r r (.region (.ks 4 r ?_)))))
   obtain ⟨h176,x177,hx178,hd⟩:=hd
   obtain ⟨b179,o180,cs181,e182,hC183,hr184⟩:=R84.2 _ _ hx178
   cases hr184
   refine .ixa un30 sz2 r e182 r h176 (idx_lt hx178 h176) r r (.ld1 (j:=0) ia2 hC183 r r r r r (.build zv51 un51 BI51 (.c r r r (.t .nil) (.c r r r (.s (.t .nil)) .n)) (by exact ⟨⟨_,_,r,r,r⟩,⟨⟨_,_,r,r,r⟩,trivial⟩⟩) r r (.buildSlice 1 un52 sz51 zv51 r r (.c r r r .n) r r fun b185=>?_)))
   obtain ⟨hl187,hd⟩:=hd
   refine .append (ys:=[({ At:=x168,Val:=x177 }:Item)]) 16 (.s .z) un52 un52 IN51 r r r r r r r r r (.box .z (.one r) r) hl187 r r fun p188 c189=>?_
   exact .ks 1 r (.nilS [5,26,25,24,7] r r (.drop (.s .z) (.region (.ks 2 r (.nil' fun c w ho hs=>⟨((s155++([({ At:=x168,Val:=x177 }:Item)])),w64 (s159+1)),hd,I162,_,_,hl163,ho.sub ⟨r,r,r,r,r,trivial⟩,hs.pick (.c .z .n)⟩)))))
 refine .exitS [5] r r (.sr (.ks 2 r (.nilS [4] r r (.pub .z fun I191 hl192 R193=>?_))))
 have le194:=IH.le.trans le164 hl192
 have le195:=IH.le.trans hl163 hl192
 exact .ret (pret results175 (.t r .n) le194 ⟨s155,_,_,r,R193,hd⟩)
theorem W_csr_built {I:IH} {a0:Int} {a1:Int} {a2:List Triple} {p1:Option Addr} {c2:Nat} {Q:Rows→Prop} (R3:RepSl eTriple I p1 c2 a2) (hd:csr_built a0 a1 a2 Q) :
  PFun prog 176 [.int .i64 a0,.int .i64 a1,.slice p1 a2.length c2] I (o6_ Q):=by
 refine Fun.enter func176 r ntmps176 r (.c (.c (.c .n))) fun w0 M=>?_
 refine .sr (.allocA zv32 r r fun b15=>?_)
 refine .nilS [6,2,1,0] r r (.sr (.ks 2 r ?_))
 have hw56:=W_csr_empty (I:=I) hd
 refine .callO call229 r hw56 r r fun v42 I39 l43 hl40 hv41=>?_
 obtain ⟨r38,p44,c45,p47,c48,p50,c51,rfl,rfl,hd⟩:=hv41
 replace R3:=R3.mono hl40
 refine .allocA zv32 r r fun b57=>?_
 refine .storeA sz32 r r .z (.t (.t (.t (.t (.t .nil))))) r r (.nilS [7,6,2,0] r r (.seq (.sr (.ks 1 r (.len un99 r r r r (.ks 1 r (.nilS [16,15,14,7,6,0] r r (.block (.loop hd (fun (s:(List Int)×(List Int)×(List Int)×Int) c w=>match s with | (s414,s418,s422,s426)=>∃ I_ p415 c416 p419 c420 p423 c424,IH.le I39 I_∧Ok ⟨63,[],none⟩ [(0,.int .i64 a0),(6,.pointer (some ⟨b15,0,none⟩)),(7,.pointer (some ⟨b57,0,none⟩)),(14,.slice p1 a2.length c2),(15,.int .i64 (a2.length:Int)),(16,.int .i64 s426)] c∧Sym w0 M I I_ [pto b15 (.cells #[.int .i64 0,.int .i64 0,.slice none 0 0,.slice none 0 0,.slice none 0 0] 32 (0,0)),pto b57 (.cells #[.int .i64 r38.Rows,.int .i64 r38.Cols,.slice p415 s414.length c416,.slice p419 s418.length c420,.slice p423 s422.length c424] 32 (0,0)),OwnSl eI64 3 p415 c416 s414,OwnSl eI64 3 p419 c420 s418,OwnSl eI64 2 p423 c424 s422] w) (fun c w ho hs=>⟨I39,_,_,_,_,_,_,(.refl _),ho.sub ⟨r,r,r,r,r,r,trivial⟩,hs.pick (.c (.s (.s (.s (.s .z)))) (.c .z (.c .z (.c .z (.c .z .n)))))⟩) ?_)))))))))
 rintro ⟨s414,s418,s422,s426⟩ next427 hd c w hst
 obtain ⟨I428,p415,c416,p419,c420,p423,c424,hl429,hok,hsym⟩:=hst
 have le430:=IH.le.trans hl40 hl429
 replace R3:=R3.mono hl429
 refine Cod.at hok hsym (.sr (.ks 1 r (.nilS [17,16,15,14,7,6,0] r r (.seq (.condP r hd (fun hb432 hd=>?_) fun hb432 hd=>?_)))))
 · refine .skipS [16,15,14,7,6,0] r r (.seq (.block (.sr ?_)))
   obtain ⟨h444,x445,hx446,hd⟩:=hd
   obtain ⟨b447,o448,cs449,e450,hC451,hr452⟩:=R3.2 _ _ hx446
   cases hr452
   refine .ixa un99 sz101 r e450 r h444 (idx_lt hx446 h444) r r (.ldW isAgg101 sz101 hC451 r r r r (.allocA zv101 r r fun b453=>?_))
   refine .storeA sz101 r r .z (.t (.t (.t .nil))) r r (.nilS [9,16,15,14,7,6,0] r r (.sr (.fa un32 r sz29 r (o:=2) r r r (.load1 ia29 r (.s (.s .z)) r r r (.fa un101 r sz3 r (o:=0) r r r (.load1 ia3 r .z r r r (.ks 1 r ?_)))))))
   obtain ⟨h463,x464,hx465,hd⟩:=hd
   refine .ownNe (.s (.s (.s .z))) (idx_ne hx465) fun b466 e467=>?_
   cases e467
   refine .ixa0 un29 sz3 r r h463 (idx_lt hx465 h463) r r (.lo1 (j:=0) ia3 (.s (.s (.s .z))) hx465 r r r r r (.ks 1 r ?_))
   obtain ⟨h468,x469,hx470,hd⟩:=hd
   refine .ixa0 un29 sz3 r r h468 (idx_lt hx470 h468) r r (.stO1 (j:=0) (v':=(w64 (x464+1))) sz3 (.s (.s (.s .z))) hx470 r r r (.t .nil) r (.sub (E':=[(0,_),(6,_),(7,_),(14,_),(15,_),(16,_),(9,_),(20,_),(21,.slice (some ⟨b466,0,none⟩) (s414.set ((w64 (x445.Row+1)).toNat) (w64 (x464+1))).length c416),(22,_),(23,_),(24,_),(25,_),(26,_),(27,_),(28,_)]) ⟨r,r,r,r,r,r,r,r,(by simp only [List.length_set]; rfl),r,r,r,r,r,r,r,trivial⟩ (.reat (.s (.s .z)) (B:=pto b57 (.cells #[.int .i64 r38.Rows,.int .i64 r38.Cols,.slice (some ⟨b466,0,none⟩) (s414.set ((w64 (x445.Row+1)).toNat) (w64 (x464+1))).length c416,.slice p419 s418.length c420,.slice p423 s422.length c424] 32 (0,0))) (by simp only [List.length_set]) (.nilS [9,16,15,14,7,6,0] r r (.sr (.fa un32 r sz29 r (o:=3) r r r (.load1 ia29 r (.s (.s .z)) r r r (.fa un101 r sz3 r (o:=1) r r r (.load1 ia3 r .z r r r ?_)))))))))
   refine .buildSlice 1 un29 sz3 zv3 r r (.c r r r .n) r r fun b471=>?_
   obtain ⟨hl473,hd⟩:=hd
   refine .append (ys:=[x445.Col]) 8 (.s (.s (.s (.s (.s .z))))) un29 un29 IN3 r r r r r r r r r (.box .z (.one r) r) hl473 r r fun p474 c475=>?_
   refine .fa un32 r sz29 r (o:=3) r r r (.store1 sz29 r r (.s (.s (.s (.s .z)))) (.s (.s (.s (.t .nil)))) r (.nilS [9,16,15,14,7,6,0] r r (.drop (.s .z) (.region (.fa un32 r sz30 r (o:=4) r r r (.load1 ia30 r (.s (.s (.s .z))) r r r (.fa un101 r sz2 r (o:=2) r r r (.load1 ia2 r (.s .z) r r r (.buildSlice 1 un30 sz2 zv2 r r (.c r r r .n) r r fun b477=>?_)))))))))
   obtain ⟨hl479,hd⟩:=hd
   refine .append (ys:=[x445.Val]) 8 (.s (.s (.s (.s (.s (.s .z)))))) un30 un30 IN2 r r r r r r r r r (.box .z (.one r) r) hl479 r r fun p480 c481=>?_
   exact .fa un32 r sz30 r (o:=4) r r r (.store1 sz30 r r (.s (.s (.s (.s (.s .z))))) (.s (.s (.s (.s (.t .nil))))) r (.nilS [16,15,14,7,6,0] r r (.drop (.s .z) (.drop (.s (.s .z)) (.region (.ks 2 r (.nil' fun c w ho hs=>⟨((s414.set ((w64 (x445.Row+1)).toNat) (w64 (x464+1))),(s418++([x445.Col])),(s422++([x445.Val])),w64 (s426+1)),hd,I428,_,_,_,_,_,_,hl429,ho.sub ⟨r,r,r,r,r,r,trivial⟩,hs.pick (.c (.s (.s .z)) (.c (.s (.s .z)) (.c (.s (.s .z)) (.c (.s .z) (.c .z .n)))))⟩)))))))
 refine .exitS [7,6,0] r r (.seq (.sr (.ks 2 r (.nilS [45,44,7,6] r r (.block (.loop hd (fun (s:(List Int)×Int) c w=>match s with | (s530,s534)=>∃ I_ p531 c532,IH.le I428 I_∧Ok ⟨63,[],none⟩ [(6,.pointer (some ⟨b15,0,none⟩)),(7,.pointer (some ⟨b57,0,none⟩)),(44,.int .i64 a0),(45,.int .i64 s534)] c∧Sym w0 M I I_ [pto b15 (.cells #[.int .i64 0,.int .i64 0,.slice none 0 0,.slice none 0 0,.slice none 0 0] 32 (0,0)),pto b57 (.cells #[.int .i64 r38.Rows,.int .i64 r38.Cols,.slice p531 s530.length c532,.slice p419 s418.length c420,.slice p423 s422.length c424] 32 (0,0)),OwnSl eI64 3 p531 c532 s530,OwnSl eI64 3 p419 c420 s418,OwnSl eI64 2 p423 c424 s422] w) (fun c w ho hs=>⟨I428,_,_,(.refl _),ho.sub ⟨r,r,r,r,trivial⟩,hs.pick (.c .z (.c .z (.c .z (.c .z (.c .z .n)))))⟩) ?_))))))
 rintro ⟨s530,s534⟩ next535 hd c w hst
 obtain ⟨I536,p531,c532,hl537,hok,hsym⟩:=hst
 have le538:=IH.le.trans le430 hl537
 have le539:=IH.le.trans hl429 hl537
 refine Cod.at hok hsym (.sr (.ks 1 r (.nilS [46,45,44,7,6] r r (.seq (.condP r hd (fun hb541 hd=>?_) fun hb541 hd=>?_)))))
 · refine .skipS [45,44,7,6] r r (.seq (.block (.sr (.ks 2 r (.nilS [10,45,44,7,6] r r (.ownF (.s (.s .z)) fun hne542=>?_))))))
   refine .ownF (.s (.s (.s .z))) fun hne543=>?_
   refine .ownF (.s (.s (.s (.s .z)))) fun hne544=>?_
   refine .dr [0,1,2,3,4,5,6,7,8,9,10,11] 12 (.g r r r (fun _=>.fa un32 r sz29 r (o:=2) r r r .mk) (.g r r r (fun _=>.load1 ia29 r (.s .z) r r r .mk) (.fk 2 r ?_)))
   obtain ⟨h545,x546,hx547,hd⟩:=hd
   obtain ⟨b548,e549⟩:=hne542 (idx_ne hx547)
   cases e549
   refine .g r r r (fun _=>.ixa0 un29 sz3 r r h545 (idx_lt hx547 h545) r r .mk) (.g r r r (fun _=>.lo1 (j:=0) ia3 (.s (.s .z)) hx547 r r r r r .mk) (.g r r r (fun _=>.fa un32 r sz29 r (o:=2) r r r .mk) (.g r r r (fun _=>.load1 ia29 r (.s .z) r r r .mk) (.fk 1 r ?_))))
   obtain ⟨h550,x551,hx552,hd⟩:=hd
   refine .g r r r (fun _=>.ixa0 un29 sz3 r r h550 (idx_lt hx552 h550) r r .mk) (.g r r r (fun _=>.lo1 (j:=0) ia3 (.s (.s .z)) hx552 r r r r r .mk) (.fk 1 r (.e2 12 ?_)))
   obtain ⟨h553,x554,hx555,hd⟩:=hd
   exact .ixa0 un29 sz3 r r h553 (idx_lt hx555 h553) r r (.stO1 (j:=0) (v':=(w64 (x546+x551))) sz3 (.s (.s .z)) hx555 r r r (.t .nil) r (.sub (E':=[(6,_),(7,_),(44,_),(45,_),(10,_),(48,_),(49,.slice (some ⟨b548,0,none⟩) (s530.set ((w64 (s534+1)).toNat) (w64 (x546+x551))).length c532),(50,_),(51,_),(52,_),(53,_),(54,_),(55,.slice (some ⟨b548,0,none⟩) (s530.set ((w64 (s534+1)).toNat) (w64 (x546+x551))).length c532),(56,_),(57,_),(58,_),(59,_),(60,_)]) ⟨r,r,r,r,r,r,(by simp only [List.length_set]; rfl),r,r,r,r,r,(by simp only [List.length_set]; rfl),r,r,r,r,r,trivial⟩ (.reat (.s .z) (B:=pto b57 (.cells #[.int .i64 r38.Rows,.int .i64 r38.Cols,.slice (some ⟨b548,0,none⟩) (s530.set ((w64 (s534+1)).toNat) (w64 (x546+x551))).length c532,.slice p419 s418.length c420,.slice p423 s422.length c424] 32 (0,0))) (by simp only [List.length_set]) (.nilS [45,44,7,6] r r (.region (.ks 2 r (.nil' fun c w ho hs=>⟨((s530.set ((w64 (s534+1)).toNat) (w64 (x546+x551))),w64 (s534+1)),hd,I536,_,_,hl537,ho.sub ⟨r,r,r,r,trivial⟩,hs.pick (.c .z (.c .z (.c .z (.c .z (.c .z .n)))))⟩)))))))
 refine .exitS [7,6] r r (.sr (.loadW ia32 sz32 r (.s .z) r r r (.storeA sz32 r r .z (.t (.t (.t (.t (.t .nil))))) r r (.nilS [6] r r (.drop (.s .z) (.pub (.s .z) fun I556 hl557 R558=>?_))))))
 have le559:=IH.le.trans le538 hl557
 have le560:=IH.le.trans le539 hl557
 have le561:=IH.le.trans hl537 hl557
 refine .pub (.s .z) fun I562 hl563 R564=>?_
 have le565:=IH.le.trans le559 hl563
 have le566:=IH.le.trans le560 hl563
 have le567:=IH.le.trans le561 hl563
 replace R558:=R558.mono hl563
 refine .pub (.s .z) fun I568 hl569 R570=>?_
 have le571:=IH.le.trans le565 hl569
 have le572:=IH.le.trans le566 hl569
 have le573:=IH.le.trans le567 hl569
 replace R558:=R558.mono hl569
 replace R564:=R564.mono hl569
 exact .ret (pret results176 (.w ia32 sz32 r .z r .n) le571 ⟨({ Rows:=r38.Rows,Cols:=r38.Cols,Start:=s530,Col:=s418,Val:=s422 }:Rows),_,_,_,_,_,_,r,R558,R564,R570,hd⟩)
theorem W_csr_Cut {I:IH} {a0:Rows} {a1:Int×Int} {a2:Int×Int} {p1:Option Addr} {c2:Nat} {p4:Option Addr} {c5:Nat} {p7:Option Addr} {c8:Nat} {Q:Rows→Prop} (R3:RepSl eI64 I p1 c2 a0.Start) (R6:RepSl eI64 I p4 c5 a0.Col) (R9:RepSl eI64 I p7 c8 a0.Val) (hd:csr_Cut a0 a1 a2 Q) :
  PFun prog 105 [.agg #[.int .i64 a0.Rows,.int .i64 a0.Cols,.slice p1 a0.Start.length c2,.slice p4 a0.Col.length c5,.slice p7 a0.Val.length c8],.agg #[.int .i64 a1.1,.int .i64 a1.2],.agg #[.int .i64 a2.1,.int .i64 a2.2]] I (o8_ Q):=by
 refine Fun.enter func105 r ntmps105 r (.c (.c (.c .n))) fun w0 M=>?_
 refine .sr (.boxA r r r fun b27=>?_)
 refine .boxA r r r fun b29=>?_
 refine .boxA r r r fun b31=>?_
 refine .allocA zv32 r r fun b33=>?_
 refine .nilS [6,5,4,3] r r (.sr (.loadW ia32 sz32 r (.s (.s (.s .z))) r r r ?_))
 have hw66:=W_csr_sure (I:=I) R3 R6 R9 hd
 refine .call call173 r hw66 r r fun v55 I52 hl53 hv54=>?_
 obtain ⟨r51,p57,c58,p60,c61,p63,c64,rfl,R59,R62,R65,hd⟩:=hv54
 replace R3:=R3.mono hl53
 replace R6:=R6.mono hl53
 replace R9:=R9.mono hl53
 refine .storeA sz32 r r (.s (.s (.s .z))) (.t (.t (.t (.t (.t .nil))))) r r (.nilS [6,5,4,3] r r (.sr (.loadW isAgg169 sz169 r (.s (.s .z)) r r r (.fa un32 r sz3 r (o:=0) r r r (.load1 ia3 r (.s (.s (.s .z))) r r r ?_)))))
 have hw72:=W_csr_bounds (I:=I52) hd
 refine .callP call174 r hw72 r r fun v73 hv74=>?_
 obtain ⟨r71,rfl,hd⟩:=hv74
 refine .ks 5 r (.nilS [8,7,6,5,3] r r (.drop (.s (.s .z)) (.sr (.loadW isAgg169 sz169 r (.s .z) r r r (.fa un32 r sz3 r (o:=1) r r r (.load1 ia3 r (.s (.s .z)) r r r ?_))))))
 have hw80:=W_csr_bounds (I:=I52) hd
 refine .callP call174 r hw80 r r fun v81 hv82=>?_
 obtain ⟨r79,rfl,hd⟩:=hv82
 refine .ks 5 r (.nilS [10,9,8,7,6,3] r r (.drop (.s .z) (.sr (.ks 1 r (.nilS [11,10,9,8,7,6,3] r r (.seq (.sr (.ks 2 r (.nilS [32,31,11,10,9,8,7,6,3] r r ?_)))))))))
 refine .block (.own0 eTriple 101 (.loop hd (fun (s:(List Triple)×Int) c w=>match s with | (s440,s444)=>∃ I_ p441 c442,IH.le I52 I_∧Ok ⟨74,[],none⟩ [(3,.pointer (some ⟨b27,0,none⟩)),(6,.pointer (some ⟨b33,0,none⟩)),(7,.int .i64 r71.1),(8,.int .i64 r71.2),(9,.int .i64 r79.1),(10,.int .i64 r79.2),(11,.slice p441 s440.length c442),(31,.int .i64 r71.2),(32,.int .i64 s444)] c∧Sym w0 M I I_ [pto b27 (.cells #[.int .i64 r51.Rows,.int .i64 r51.Cols,.slice p57 r51.Start.length c58,.slice p60 r51.Col.length c61,.slice p63 r51.Val.length c64] 32 (0,0)),pto b33 (.cells #[.int .i64 0,.int .i64 0,.slice none 0 0,.slice none 0 0,.slice none 0 0] 32 (0,0)),OwnSl eTriple 101 p441 c442 s440] w) (fun c w ho hs=>⟨I52,_,_,(.refl _),ho.sub ⟨r,r,r,r,r,r,r,r,r,trivial⟩,hs.pick (.c (.s (.s .z)) (.c (.s .z) (.c .z .n)))⟩) ?_))
 rintro ⟨s440,s444⟩ next446 hd c w hst
 obtain ⟨I447,p441,c442,hl448,hok,hsym⟩:=hst
 have le449:=IH.le.trans hl53 hl448
 replace R59:=R59.mono hl448
 replace R62:=R62.mono hl448
 replace R65:=R65.mono hl448
 refine Cod.at hok hsym (.sr (.ks 1 r (.nilS [33,32,31,11,10,9,8,7,6,3] r r (.seq (.condP r hd (fun hb451 hd=>?_) fun hb451 hd=>?_)))))
 · refine .skipS [32,31,11,10,9,8,7,6,3] r r (.seq (.block (.sr (.ks 2 r (.nilS [12,32,31,11,10,9,8,7,6,3] r r (.sr (.loadW ia32 sz32 r .z r r r (.ks 3 r ?_))))))))
   have hw473:=W_csr_Row (I:=I447) R59 R62 R65 hd
   refine .call call175 r hw473 r r fun v468 I465 hl466 hv467=>?_
   obtain ⟨r464,p470,c471,rfl,R472,hd⟩:=hv467
   have le474:=IH.le.trans le449 hl466
   have le475:=IH.le.trans hl448 hl466
   replace R59:=R59.mono hl466
   replace R62:=R62.mono hl466
   replace R65:=R65.mono hl466
   refine .len un52 r r r r (.ks 1 r (.nilS [41,40,39,12,32,31,11,10,9,8,7,6,3] r r (.block (.loop hd (fun (s:(List Triple)×Int) c w=>match s with | (s571,s575)=>∃ I_ p572 c573,IH.le I465 I_∧Ok ⟨74,[],none⟩ [(3,.pointer (some ⟨b27,0,none⟩)),(6,.pointer (some ⟨b33,0,none⟩)),(7,.int .i64 r71.1),(8,.int .i64 r71.2),(9,.int .i64 r79.1),(10,.int .i64 r79.2),(11,.slice p572 s571.length c573),(12,.int .i64 s444),(31,.int .i64 r71.2),(32,.int .i64 s444),(39,.slice p470 r464.length c471),(40,.int .i64 (r464.length:Int)),(41,.int .i64 s575)] c∧Sym w0 M I I_ [pto b27 (.cells #[.int .i64 r51.Rows,.int .i64 r51.Cols,.slice p57 r51.Start.length c58,.slice p60 r51.Col.length c61,.slice p63 r51.Val.length c64] 32 (0,0)),pto b33 (.cells #[.int .i64 0,.int .i64 0,.slice none 0 0,.slice none 0 0,.slice none 0 0] 32 (0,0)),OwnSl eTriple 101 p572 c573 s571] w) (fun c w ho hs=>⟨I465,_,_,(.refl _),ho.sub ⟨r,r,r,r,r,r,r,r,r,r,r,r,r,trivial⟩,hs.pick (.c .z (.c .z (.c .z .n)))⟩) ?_))))
   rintro ⟨s571,s575⟩ next576 hd c w hst
   obtain ⟨I577,p572,c573,hl578,hok,hsym⟩:=hst
   have le579:=IH.le.trans le474 hl578
   have le580:=IH.le.trans le475 hl578
   replace R59:=R59.mono hl578
   replace R62:=R62.mono hl578
   replace R65:=R65.mono hl578
   replace R472:=R472.mono hl578
   refine Cod.at hok hsym (.sr (.ks 1 r (.nilS [42,41,40,39,32,31,12,11,10,9,8,7,6,3] r r (.seq (.condP r hd (fun hb582 hd=>?_) fun hb582 hd=>?_)))))
   · refine .skipS [41,40,39,32,31,12,11,10,9,8,7,6,3] r r (.seq (.block (.sr ?_)))
     obtain ⟨h594,x595,hx596,hd⟩:=hd
     obtain ⟨b597,o598,cs599,e600,hC601,hr602⟩:=R472.2 _ _ hx596
     cases hr602
     refine .ixa un52 sz51 r e600 r h594 (idx_lt hx596 h594) r r (.ldW isAgg51 sz51 hC601 r r r r (.allocA zv51 r r fun b603=>?_))
     refine .storeA sz51 r r .z (.t (.t .nil)) r r (.nilS [14,41,40,39,32,31,12,11,10,9,8,7,6,3] r r (.seq ?_))
     refine Cod.joinQ (σ:=Bool) hd (fun (s607:Bool) c w=>∃ I_,IH.le I577 I_∧Ok ⟨74,[],none⟩ [(3,.pointer (some ⟨b27,0,none⟩)),(6,.pointer (some ⟨b33,0,none⟩)),(7,.int .i64 r71.1),(8,.int .i64 r71.2),(9,.int .i64 r79.1),(10,.int .i64 r79.2),(11,.slice p572 s571.length c573),(12,.int .i64 s444),(14,.pointer (some ⟨b603,0,none⟩)),(31,.int .i64 r71.2),(32,.int .i64 s444),(39,.slice p470 r464.length c471),(40,.int .i64 (r464.length:Int)),(41,.int .i64 s575),(56,.bool s607)] c∧Sym w0 M I I_ [pto b27 (.cells #[.int .i64 r51.Rows,.int .i64 r51.Cols,.slice p57 r51.Start.length c58,.slice p60 r51.Col.length c61,.slice p63 r51.Val.length c64] 32 (0,0)),pto b33 (.cells #[.int .i64 0,.int .i64 0,.slice none 0 0,.slice none 0 0,.slice none 0 0] 32 (0,0)),OwnSl eTriple 101 p572 c573 s571,pto b603 (.cells #[.int .i64 x595.At,.int .i64 x595.Val] 51 (0,0))] w) (fun k608 hd=>?_) ?_
     · skip
       refine .region (.fa un51 r sz3 r (o:=0) r r r (.load1 ia3 r .z r r r (.ks 3 r ?_)))
       refine splitP hd (fun hb609 hd=>?_) fun hb609 hd=>?_
       · rw [hb609]
         exact .gyes r r r (.fa un51 r sz3 r (o:=0) r r r (.gyes r r r (.load1 ia3 r .z r r r (.ks 5 r (.nil' fun c w ho hs=>⟨(decide ((w64 (x595.At - r79.1))<r79.2)),hd,I577,(.refl _),ho.sub ⟨r,r,r,r,r,r,r,r,r,r,r,r,r,r,r,trivial⟩,hs.pick (.c (.s .z) (.c (.s .z) (.c (.s .z) (.c .z .n))))⟩)))))
       rw [hb609]
       exact .ks 7 r (.nil' fun c w ho hs=>⟨false,hd,I577,(.refl _),ho.sub ⟨r,r,r,r,r,r,r,r,r,r,r,r,r,r,r,trivial⟩,hs.pick (.c (.s .z) (.c (.s .z) (.c (.s .z) (.c .z .n))))⟩)
     rintro s607 hd c w hst
     obtain ⟨I610,hl611,hok,hsym⟩:=hst
     have le612:=IH.le.trans le579 hl611
     have le613:=IH.le.trans le580 hl611
     have le614:=IH.le.trans hl578 hl611
     replace R59:=R59.mono hl611
     replace R62:=R62.mono hl611
     replace R65:=R65.mono hl611
     replace R472:=R472.mono hl611
     refine Cod.at hok hsym (.condP r hd (fun hb615 hd=>?_) fun hb615 hd=>?_)
     · refine .region (.ks 2 r (.fa un51 r sz3 r (o:=0) r r r (.load1 ia3 r (.s (.s (.s .z))) r r r (.ks 2 r (.fa un51 r sz2 r (o:=1) r r r (.load1 ia2 r (.s (.s (.s .z))) r r r (.build zv101 un101 BI101 (.c r r r (.t .nil) (.c r r r (.s (.t .nil)) (.c r r r (.s (.s (.t .nil))) .n))) (by exact ⟨⟨_,_,r,r,r⟩,⟨⟨_,_,r,r,r⟩,⟨⟨_,_,r,r,r⟩,trivial⟩⟩⟩) r r (.buildSlice 1 un99 sz101 zv101 r r (.c r r r .n) r r fun b616=>?_))))))))
       obtain ⟨hl618,hd⟩:=hd
       refine .append (ys:=[({ Row:=s444,Col:=w64 (x595.At - r79.1),Val:=x595.Val }:Triple)]) 24 (.s (.s (.s .z))) un99 un99 IN101 r r r r r r r r r (.box .z (.one r) r) hl618 r r fun p619 c620=>?_
       exact .ks 1 r (.nilS [11,41,40,39,32,31,12,10,9,8,7,6,3] r r (.drop (.s .z) (.drop (.s (.s (.s .z))) (.region (.ks 2 r (.nil' fun c w ho hs=>⟨((s571++([({ Row:=s444,Col:=w64 (x595.At - r79.1),Val:=x595.Val }:Triple)])),w64 (s575+1)),hd,I610,_,_,le614,ho.sub ⟨r,r,r,r,r,r,r,r,r,r,r,r,r,trivial⟩,hs.pick (.c (.s .z) (.c (.s .z) (.c .z .n)))⟩))))))
     exact .skipS [41,40,39,32,31,12,11,10,9,8,7,6,3] r r (.drop (.s (.s (.s .z))) (.region (.ks 2 r (.nil' fun c w ho hs=>⟨(s571,w64 (s575+1)),hd,I610,_,_,le614,ho.sub ⟨r,r,r,r,r,r,r,r,r,r,r,r,r,trivial⟩,hs.pick (.c .z (.c .z (.c .z .n)))⟩))))
   exact .exitS [32,31,11,10,9,8,7,6,3] r r (.region (.ks 2 r (.nil' fun c w ho hs=>⟨(s571,w64 (s444+1)),hd,I577,_,_,le580,ho.sub ⟨r,r,r,r,r,r,r,r,r,trivial⟩,hs.pick (.c .z (.c .z (.c .z .n)))⟩)))
 refine .exitS [11,10,8,6] r r (.drop .z (.sr (.ks 3 r (.pub (.s .z) fun I622 hl623 R624=>?_))))
 have le625:=IH.le.trans le449 hl623
 have le626:=IH.le.trans hl448 hl623
 have hw642:=W_csr_built (I:=I622) R624 hd
 refine .call call176 r hw642 r r fun v631 I628 hl629 hv630=>?_
 obtain ⟨r627,p633,c634,p636,c637,p639,c640,rfl,R635,R638,R641,hd⟩:=hv630
 have le643:=IH.le.trans le625 hl629
 have le644:=IH.le.trans le626 hl629
 replace R624:=R624.mono hl629
 exact .storeA sz32 r r .z (.t (.t (.t (.t (.t .nil))))) r r (.nilS [6] r r (.ret (pret results105 (.w ia32 sz32 r .z r .n) le643 ⟨r627,_,_,_,_,_,_,r,R635,R638,R641,hd⟩)))
theorem W_ring_Is {I:IH} {a0:Int} {Q:Bool→Prop}  (hd:ring_Is a0 Q) :
  PFun prog 102 [.int .i64 a0] I (fun _=>o4_ Q):=by
 refine Fun.enter func102 r ntmps102 r (.c .n) fun w0 M=>?_
 refine .sr (.ks 1 r (.nilS [0] r r (.sr (.ks 3 r ?_))))
 refine splitP hd (fun hb1 hd=>?_) fun hb1 hd=>?_
 · rw [hb1]
   exact .ks 4 r (.nilS [2] r r (.ret (pret results102 (.t r .n) (.refl _) ⟨(decide (a0<6)),r,hd⟩)))
 rw [hb1]
 exact .ks 4 r (.nilS [2] r r (.ret (pret results102 (.t r .n) (.refl _) ⟨false,r,hd⟩)))
theorem W_wide_Of {I:IH} {a0:Int} {Q:Wide→Prop}  (hd:wide_Of a0 Q) :
  PFun prog 149 [.int .i64 a0] I (fun _=>o2_ Q):=by
 refine Fun.enter func149 r ntmps149 r (.c .n) fun w0 M=>?_
 refine .sr (.allocA zv127 r r fun b1=>?_)
 exact .nilS [2,0] r r (.sr (.ks 1 r (.shr' r r (by decide) r r (.ks 1 r (.conv un2 un125 r r r (.build zv127 un127 BI127 (.c r r r (.t .nil) (.c r r r (.s (.t .nil)) .n)) (by exact ⟨⟨_,_,r,r,r⟩,⟨⟨_,_,r,r,r⟩,trivial⟩⟩) r r (.storeA sz127 r r .z (.t (.t .nil)) r r (.nilS [2] r r (.ret (pret results149 (.w ia127 sz127 r .z r .n) (.refl _) ⟨({ Hi:=shr .i64 a0 63,Lo:=IntKind.wrap .u64 (a0) }:Wide),r,hd⟩))))))))))
theorem W_ring_truth {I:IH} {a0:Bool} {Q:Wide→Prop}  (hd:ring_truth a0 Q) :
  PFun prog 207 [.bool a0] I (fun _=>o2_ Q):=by
 refine Fun.enter func207 r ntmps207 r (.c .n) fun w0 M=>?_
 refine .sr (.allocA zv127 r r fun b3=>?_)
 refine .nilS [2,0] r r (.seq (.sr (.ks 1 r (.nilS [3,2] r r (.condP r hd (fun hb5 hd=>?_) fun hb5 hd=>?_)))))
 · refine .sr ?_
   have hw7:=W_wide_Of (I:=I) hd
   refine .callP call149 r hw7 r r fun v8 hv9=>?_
   obtain ⟨r6,rfl,hd⟩:=hv9
   exact .storeA sz127 r r .z (.t (.t .nil)) r r (.nilS [2] r r (.ret (pret results207 (.w ia127 sz127 r .z r .n) (.refl _) ⟨r6,r,hd⟩)))
 exact .skipS [2] r r (.sr (.build zv127 un127 BI127 .n (by exact trivial) r r (.storeA sz127 r r .z (.t (.t .nil)) r r (.nilS [2] r r (.ret (pret results207 (.w ia127 sz127 r .z r .n) (.refl _) ⟨({ Hi:=0,Lo:=0 }:Wide),r,hd⟩))))))
theorem W_wide_halves {I:IH} {a0:Int} {Q:(Int×Int)→Prop}  (hd:wide_halves a0 Q) :
  PFun prog 262 [.int .u64 a0] I (fun I_ v=>∃ r,v=.agg #[.int .u64 r.1,.int .u64 r.2]∧Q r):=by
 refine Fun.enter func262 r ntmps262 r (.c .n) fun w0 M=>?_
 refine .sr (.allocA zv268 r r fun b1=>?_)
 refine .nilS [2,0] r r (.sr (.ks 1 r (.shl' r r (by decide) r r (.shr' r r (by decide) r r (.ks 1 r (.shr' r r (by decide) r r (.buildArr zv268 un268 sz125 (.c r r r (.t .nil) (.c r r r (.s (.t .nil)) .n)) r r (.storeA sizeOf268 r r .z (.t (.t .nil)) r r (.nilS [2] r r ?_)))))))))
 exact .ret (pret results262 (.w isAgg268 sizeOf268 r .z r .n) (.refl _) ⟨(shr .u64 (shl .u64 a0 32) 32,shr .u64 a0 32),r,hd⟩)
theorem W_wide_product {I:IH} {a0:Int} {a1:Int} {Q:Wide→Prop}  (hd:wide_product a0 a1 Q) :
  PFun prog 246 [.int .u64 a0,.int .u64 a1] I (fun _=>o2_ Q):=by
 refine Fun.enter func246 r ntmps246 r (.c (.c .n)) fun w0 M=>?_
 refine .sr (.allocA zv127 r r fun b3=>?_)
 refine .nilS [4,1,0] r r (.sr (.ks 1 r ?_))
 have hw18:=W_wide_halves (I:=I) hd
 refine .callP call262 r hw18 r r fun v19 hv20=>?_
 obtain ⟨r17,rfl,hd⟩:=hv20
 refine .ks 1 r ?_
 have hw22:=W_wide_halves (I:=I) hd
 refine .callP call262 r hw22 r r fun v23 hv24=>?_
 obtain ⟨r21,rfl,hd⟩:=hv24
 refine .allocA zv268 r r fun b25=>?_
 refine .allocA zv268 r r fun b27=>?_
 refine .storeA sizeOf268 r r (.s .z) (.t (.t .nil)) r r (.storeA sizeOf268 r r .z (.t (.t .nil)) r r (.nilS [6,5,4] r r (.sr (.ixArr (i:=0) un268 sz125 r r (by decide) (o:=0) r r r (.load1 ia125 r (.s .z) r r r (.ixArr (i:=0) un268 sz125 r r (by decide) (o:=0) r r r (.load1 ia125 r .z r r r (.ks 2 r (.nilS [7,6,5,4] r r ?_)))))))))
 refine .seq (.dr [0,1,2,3,4,5,10,6,7,8,9,999] 11 (.g r r r (fun _=>.ixArr (i:=1) un268 sz125 r r (by decide) (o:=1) r r r .mk) (.g r r r (fun _=>.load1 ia125 r (.s .z) r r r .mk) (.g r r r (fun _=>.ixArr (i:=0) un268 sz125 r r (by decide) (o:=0) r r r .mk) (.g r r r (fun _=>.load1 ia125 r .z r r r .mk) (.fk 2 r (.a (fun b=>.pointer (some ⟨b,0,none⟩)) (fun b=>pto b (.cells #[.int .u64 0,.int .u64 0] 268 (0,0))) r r r r (fun _ L hL ex=>.allocA zv268 r r fun b=>.mk (val:=fun b=>.pointer (some ⟨b,0,none⟩)) (atom:=fun b=>pto b (.cells #[.int .u64 0,.int .u64 0] 268 (0,0))) hL b) (.ww r fun ex=>?_))))))))
 have hw41:=W_wide_halves (I:=I) hd
 refine .callP call262 r hw41 r r fun v42 hv43=>?_
 obtain ⟨r40,rfl,hd⟩:=hv43
 refine .so 3 r r r (.ck 1 r r (.cg r r r r (fun _=>.load1 ia125 r .z r r r .mk) (.cg r r r r (fun _=>.ixArr (i:=0) un268 sz125 r r (by decide) (o:=0) r r r .mk) (.cg r r r r (fun _=>.load1 ia125 r (.s .z) r r r .mk) (.cg r r r r (fun _=>.ixArr (i:=1) un268 sz125 r r (by decide) (o:=1) r r r .mk) trivial))))) (.g r r r (fun _=>.index1 (i:=1) un268 sz125 ia125 r r (by decide) r r r .mk) (.fk 1 r (.ww r fun ex=>?_)))
 have hw45:=W_wide_halves (I:=I) hd
 refine .callP call262 r hw45 r r fun v46 hv47=>?_
 obtain ⟨r44,rfl,hd⟩:=hv47
 refine .so 3 r r r trivial (.b r fun b48=>DrawD.nop (.e2 11 (.storeA sizeOf268 r r (.s (.s (.s .z))) (.t (.t .nil)) r r (.nilS [8,7,6,5,4] r r (.sr (.ixArr (i:=0) un268 sz125 r r (by decide) (o:=0) r r r (.load1 ia125 r (.s .z) r r r (.ixArr (i:=1) un268 sz125 r r (by decide) (o:=1) r r r (.load1 ia125 r .z r r r ?_)))))))))
 refine .ks 1 r (.ixArr (i:=0) un268 sz125 r r (by decide) (o:=0) r r r (.load1 ia125 r (.s (.s (.s .z))) r r r (.ks 1 r ?_)))
 have hw56:=W_wide_halves (I:=I) hd
 refine .callP call262 r hw56 r r fun v57 hv58=>?_
 obtain ⟨r55,rfl,hd⟩:=hv58
 refine .allocA zv268 r r fun b59=>?_
 refine .storeA sizeOf268 r r .z (.t (.t .nil)) r r (.nilS [9,8,7,6,5,4] r r (.seq (.dr [0,1,2,3,4,5,6,7,8,9,10,11,12,13,14,15,16,17,18,19] 20 (.g r r r (fun _=>.ixArr (i:=1) un268 sz125 r r (by decide) (o:=1) r r r .mk) (.g r r r (fun _=>.load1 ia125 r (.s (.s .z)) r r r .mk) (.g r r r (fun _=>.ixArr (i:=1) un268 sz125 r r (by decide) (o:=1) r r r .mk) (.g r r r (fun _=>.load1 ia125 r (.s .z) r r r .mk) (.fk 1 r (.g r r r (fun _=>.ixArr (i:=1) un268 sz125 r r (by decide) (o:=1) r r r .mk) ?_)))))))))
 refine .g r r r (fun _=>.load1 ia125 r (.s (.s (.s (.s .z)))) r r r .mk) (.fk 1 r (.g r r r (fun _=>.ixArr (i:=1) un268 sz125 r r (by decide) (o:=1) r r r .mk) (.g r r r (fun _=>.load1 ia125 r .z r r r .mk) (.fk 1 r (.g r r r (fun _=>.conv un125 un2 r r r .mk) (.g r r r (fun _=>.ixArr (i:=0) un268 sz125 r r (by decide) (o:=0) r r r .mk) (.g r r r (fun _=>.load1 ia125 r .z r r r .mk) (.g r r r (fun _=>.shl' r r (by decide) r r .mk) (.fk 1 r ?_)))))))))
 refine .ww r fun ex=>?_
 have hw62:=W_wide_halves (I:=I) hd
 refine .callP call262 r hw62 r r fun v63 hv64=>?_
 obtain ⟨r61,rfl,hd⟩:=hv64
 refine .so 5 r r r (.cg r r r r (fun _=>.shl' r r (by decide) r r .mk) (.cg r r r r (fun _=>.load1 ia125 r .z r r r .mk) (.cg r r r r (fun _=>.ixArr (i:=0) un268 sz125 r r (by decide) (o:=0) r r r .mk) (.cg r r r r (fun _=>.conv un125 un2 r r r .mk) (.ck 1 r r (.cg r r r r (fun _=>.load1 ia125 r .z r r r .mk) (.cg r r r r (fun _=>.ixArr (i:=1) un268 sz125 r r (by decide) (o:=1) r r r .mk) (.ck 1 r r (.cg r r r r (fun _=>.load1 ia125 r (.s (.s (.s (.s .z)))) r r r .mk) (.cg r r r r (fun _=>.ixArr (i:=1) un268 sz125 r r (by decide) (o:=1) r r r .mk) (.ck 1 r r (.cg r r r r (fun _=>.load1 ia125 r (.s .z) r r r .mk) (.cg r r r r (fun _=>.ixArr (i:=1) un268 sz125 r r (by decide) (o:=1) r r r .mk) (.cg r r r r (fun _=>.load1 ia125 r (.s (.s .z)) r r r .mk) (.cg r r r r (fun _=>.ixArr (i:=1) un268 sz125 r r (by decide) (o:=1) r r r .mk) trivial))))))))))))))) (.g r r r (fun _=>.index1 (i:=0) un268 sz125 ia125 r r (by decide) r r r .mk) (.fk 1 r (.g r r r (fun _=>.build zv127 un127 BI127 (.c r r r (.t .nil) (.c r r r (.s (.t .nil)) .n)) (by exact ⟨⟨_,_,r,r,r⟩,⟨⟨_,_,r,r,r⟩,trivial⟩⟩) r r .mk) (.e2 20 (.storeA sz127 r r (.s (.s (.s .z))) (.t (.t .nil)) r r (.nilS [4] r r (.drop .z (.drop .z (.drop .z ?_)))))))))
 exact .drop (.s .z) (.ret (pret results246 (.w ia127 sz127 r .z r .n) (.refl _) ⟨({ Hi:=w64 (IntKind.wrap .u64 ((IntKind.wrap .u64 ((IntKind.wrap .u64 (r17.2*r21.2))+r44.2))+r55.2)),Lo:=bor .u64 (shl .u64 r55.1 32) r61.1 }:Wide),r,hd⟩))
theorem W_wide_size {I:IH} {a0:Int} {Q:Int→Prop}  (hd:wide_size a0 Q) :
  PFun prog 247 [.int .i64 a0] I (fun _=>o11_ Q):=by
 refine Fun.enter func247 r ntmps247 r (.c .n) fun w0 M=>?_
 refine .sr (.ks 1 r (.nilS [0] r r (.seq (.sr (.ks 2 r (.nilS [4,0] r r (.condP r hd (fun hb1 hd=>?_) fun hb1 hd=>?_)))))))
 · exact .sr (.ks 1 r (.conv un2 un125 r r r (.neg r r r (.ks 1 r (.nilS [2] r r (.ret (pret results247 (.t r .n) (.refl _) ⟨(IntKind.wrap .u64 (0 - (IntKind.wrap .u64 (a0)))),r,hd⟩)))))))
 exact .skipS [0] r r (.sr (.ks 1 r (.conv un2 un125 r r r (.ks 1 r (.nilS [2] r r (.ret (pret results247 (.t r .n) (.refl _) ⟨(IntKind.wrap .u64 (a0)),r,hd⟩)))))))
theorem W_wide_carry {I:IH} {a0:Bool} {Q:Int→Prop}  (hd:wide_carry a0 Q) :
  PFun prog 250 [.bool a0] I (fun _=>o11_ Q):=by
 refine Fun.enter func250 r ntmps250 r (.c .n) fun w0 M=>?_
 refine .sr (.ks 1 r (.nilS [0] r r (.seq (.sr (.ks 1 r (.nilS [3] r r (.condP r hd (fun hb1 hd=>?_) fun hb1 hd=>?_)))))))
 · exact .sr (.ks 1 r (.nilS [2] r r (.ret (pret results250 (.t r .n) (.refl _) ⟨1,r,hd⟩))))
 exact .skipS [] r r (.sr (.ks 1 r (.nilS [2] r r (.ret (pret results250 (.t r .n) (.refl _) ⟨0,r,hd⟩)))))
theorem W_wide_Sub {I:IH} {a0:Wide} {a1:Wide} {Q:Wide→Prop}  (hd:wide_Sub a0 a1 Q) :
  PFun prog 248 [.agg (encWide a0).toArray,.agg (encWide a1).toArray] I (fun _=>o2_ Q):=by
 refine Fun.enter func248 r ntmps248 r (.c (.c .n)) fun w0 M=>?_
 refine .sr (.boxA r r r fun b7=>?_)
 refine .boxA r r r fun b9=>?_
 refine .allocA zv127 r r fun b11=>?_
 refine .nilS [4,3,2] r r (.seq (.dr [0,1,2,3,4,5,6,7,8,9,10,11,15,16,17,18,19,12,13,14,20] 21 (.g r r r (fun _=>.fa un127 r sz2 r (o:=0) r r r .mk) (.g r r r (fun _=>.load1 ia2 r (.s (.s .z)) r r r .mk) (.g r r r (fun _=>.conv un2 un125 r r r .mk) (.g r r r (fun _=>.fa un127 r sz2 r (o:=0) r r r .mk) (.g r r r (fun _=>.load1 ia2 r (.s .z) r r r .mk) (.g r r r (fun _=>.conv un2 un125 r r r .mk) (.fk 1 r ?_)))))))))
 refine .g r r r (fun _=>.fa un127 r sz125 r (o:=1) r r r .mk) (.g r r r (fun _=>.load1 ia125 r (.s (.s .z)) r r r .mk) (.g r r r (fun _=>.fa un127 r sz125 r (o:=1) r r r .mk) (.g r r r (fun _=>.load1 ia125 r (.s .z) r r r .mk) (.fk 1 r (.g r r r (fun _=>.fa un127 r sz125 r (o:=1) r r r .mk) (.g r r r (fun _=>.load1 ia125 r (.s (.s .z)) r r r .mk) (.g r r r (fun _=>.fa un127 r sz125 r (o:=1) r r r .mk) (.g r r r (fun _=>.load1 ia125 r (.s .z) r r r .mk) (.fk 1 r ?_)))))))))
 refine .ww r fun ex=>?_
 have hw14:=W_wide_carry (I:=I) hd
 refine .callP call250 r hw14 r r fun v15 hv16=>?_
 obtain ⟨r13,rfl,hd⟩:=hv16
 exact .so 3 r r r (.ck 1 r r (.cg r r r r (fun _=>.load1 ia125 r (.s .z) r r r .mk) (.cg r r r r (fun _=>.fa un127 r sz125 r (o:=1) r r r .mk) (.cg r r r r (fun _=>.load1 ia125 r (.s (.s .z)) r r r .mk) (.cg r r r r (fun _=>.fa un127 r sz125 r (o:=1) r r r .mk) (.ck 1 r r (.cg r r r r (fun _=>.conv un2 un125 r r r .mk) (.cg r r r r (fun _=>.load1 ia2 r (.s .z) r r r .mk) (.cg r r r r (fun _=>.fa un127 r sz2 r (o:=0) r r r .mk) (.cg r r r r (fun _=>.conv un2 un125 r r r .mk) (.cg r r r r (fun _=>.load1 ia2 r (.s (.s .z)) r r r .mk) (.cg r r r r (fun _=>.fa un127 r sz2 r (o:=0) r r r .mk) trivial)))))))))))) (.fk 1 r (.g r r r (fun _=>.conv un125 un2 r r r .mk) (.g r r r (fun _=>.build zv127 un127 BI127 (.c r r r (.t .nil) (.c r r r (.s (.t .nil)) .n)) (by exact ⟨⟨_,_,r,r,r⟩,⟨⟨_,_,r,r,r⟩,trivial⟩⟩) r r .mk) (.e2 21 (.storeA sz127 r r .z (.t (.t .nil)) r r (.nilS [4] r r (.drop (.s .z) (.drop (.s .z) (.ret (pret results248 (.w ia127 sz127 r .z r .n) (.refl _) ⟨({ Hi:=w64 (IntKind.wrap .u64 ((IntKind.wrap .u64 ((IntKind.wrap .u64 (a0.Hi)) - (IntKind.wrap .u64 (a1.Hi)))) - r13)),Lo:=IntKind.wrap .u64 (a0.Lo - a1.Lo) }:Wide),r,hd⟩))))))))))
theorem W_wide_Mul {I:IH} {a0:Int} {a1:Int} {Q:Wide→Prop}  (hd:wide_Mul a0 a1 Q) :
  PFun prog 208 [.int .i64 a0,.int .i64 a1] I (fun _=>o2_ Q):=by
 refine Fun.enter func208 r ntmps208 r (.c (.c .n)) fun w0 M=>?_
 refine .sr (.allocA zv127 r r fun b3=>?_)
 refine .nilS [4,1,0] r r (.sr (.ks 1 r ?_))
 have hw20:=W_wide_size (I:=I) hd
 refine .callP call247 r hw20 r r fun v21 hv22=>?_
 obtain ⟨r19,rfl,hd⟩:=hv22
 refine .ks 1 r ?_
 have hw24:=W_wide_size (I:=I) hd
 refine .callP call247 r hw24 r r fun v25 hv26=>?_
 obtain ⟨r23,rfl,hd⟩:=hv26
 have hw28:=W_wide_product (I:=I) hd
 refine .callP call246 r hw28 r r fun v29 hv30=>?_
 obtain ⟨r27,rfl,hd⟩:=hv30
 refine .allocA zv127 r r fun b31=>?_
 refine .storeA sz127 r r .z (.t (.t .nil)) r r (.nilS [5,4,1,0] r r (.seq (.sr (.ks 4 r (.neB underlying4 r r r r (.nilS [15,5,4] r r (.condP r hd (fun hb33 hd=>?_) fun hb33 hd=>?_)))))))
 · refine .sr (.build zv127 un127 BI127 .n (by exact trivial) r r (.loadW ia127 sz127 r .z r r r ?_))
   have hw35:=W_wide_Sub (I:=I) hd
   refine .callP call248 r hw35 r r fun v36 hv37=>?_
   obtain ⟨r34,rfl,hd⟩:=hv37
   exact .storeA sz127 r r (.s .z) (.t (.t .nil)) r r (.nilS [4] r r (.drop .z (.ret (pret results208 (.w ia127 sz127 r .z r .n) (.refl _) ⟨r34,r,hd⟩))))
 exact .skipS [5,4] r r (.sr (.loadW ia127 sz127 r .z r r r (.storeA sz127 r r (.s .z) (.t (.t .nil)) r r (.nilS [4] r r (.drop .z (.ret (pret results208 (.w ia127 sz127 r .z r .n) (.refl _) ⟨r27,r,hd⟩)))))))
theorem W_cmp_Or_int {I:IH} {a0:List Int} {p1:Option Addr} {c2:Nat} {Q:Int→Prop} (R3:RepSl eI64 I p1 c2 a0) (hd:cmp_Or_int a0 Q) :
  PFun prog 231 [.slice p1 a0.length c2] I (fun _=>o0_ Q):=by
 refine Fun.enter func231 r ntmps231 r (.c .n) fun w0 M=>?_
 refine .sr (.ks 1 r (.nilS [0] r r (.sr (.ks 1 r (.nilS [3,0] r r (.seq (.sr (.ks 1 r (.len un29 r r r r ?_)))))))))
 refine .ks 1 r (.nilS [8,7,6,3] r r (.block (.loop hd (fun (s31:Int) c w=>∃ I_,IH.le I I_∧Ok ⟨18,[],none⟩ [(3,.int .i64 0),(6,.slice p1 a0.length c2),(7,.int .i64 (a0.length:Int)),(8,.int .i64 s31)] c∧Sym w0 M I I_ [] w) (fun c w ho hs=>⟨I,(.refl _),ho.sub ⟨r,r,r,r,trivial⟩,hs.pick .n⟩) ?_)))
 rintro s31 next32 hd c w hst
 obtain ⟨I33,hl34,hok,hsym⟩:=hst
 replace R3:=R3.mono hl34
 refine Cod.at hok hsym (.sr (.ks 1 r (.nilS [9,8,7,6,3] r r (.seq (.condP r hd (fun hb36 hd=>?_) fun hb36 hd=>?_)))))
 · refine .skipS [8,7,6,3] r r (.seq (.block (.sr ?_)))
   obtain ⟨h37,x38,hx39,hd⟩:=hd
   obtain ⟨b40,o41,cs42,e43,hC44,hr45⟩:=R3.2 _ _ hx39
   cases hr45
   refine .ixa un29 sz3 r e43 r h37 (idx_lt hx39 h37) r r (.ld1 (j:=0) ia3 hC44 r r r r r (.ks 1 r (.nilS [5,8,7,6,3] r r (.sr (.ks 3 r (.nilS [14,5,8,7,6,3] r r (.condP r hd (fun hb46 hd=>?_) fun hb46 hd=>?_)))))))
   · exact .sr (.ks 2 r (.nilS [2] r r (.ret (pret results231 (.t r .n) hl34 ⟨x38,r,hd⟩))))
   exact .skipS [8,7,6,3] r r (.region (.ks 2 r (.nil' fun c w ho hs=>⟨(w64 (s31+1)),hd,I33,hl34,ho.sub ⟨r,r,r,r,trivial⟩,hs.pick .n⟩)))
 exact .exitS [3] r r (.sr (.ks 2 r (.nilS [2] r r (.ret (pret results231 (.t r .n) hl34 ⟨0,r,hd⟩)))))
theorem W_cmp_isNaN_int64 {I:IH} {a0:Int} {Q:Bool→Prop}  (hd:cmp_isNaN_int64 a0 Q) :
  PFun prog 283 [.int .i64 a0] I (fun _=>o4_ Q):=by
 refine Fun.enter func283 r ntmps283 r (.c .n) fun w0 M=>?_
 exact .sr (.ks 1 r (.nilS [0] r r (.sr (.ks 4 r (.nilS [2] r r (.ret (pret results283 (.t r .n) (.refl _) ⟨(a0 != a0),r,hd⟩)))))))
theorem W_cmp_Compare_int64 {I:IH} {a0:Int} {a1:Int} {Q:Int→Prop}  (hd:cmp_Compare_int64 a0 a1 Q) :
  PFun prog 260 [.int .i64 a0,.int .i64 a1] I (fun _=>o0_ Q):=by
 refine Fun.enter func260 r ntmps260 r (.c (.c .n)) fun w0 M=>?_
 refine .sr (.ks 1 r (.nilS [1,0] r r (.sr (.ks 1 r ?_))))
 have hw6:=W_cmp_isNaN_int64 (I:=I) hd
 refine .callP call283 r hw6 r r fun v7 hv8=>?_
 obtain ⟨r5,rfl,hd⟩:=hv8
 refine .ks 1 r (.nilS [5,1,0] r r (.sr (.ks 1 r ?_)))
 have hw14:=W_cmp_isNaN_int64 (I:=I) hd
 refine .callP call283 r hw14 r r fun v15 hv16=>?_
 obtain ⟨r13,rfl,hd⟩:=hv16
 refine .ks 1 r (.nilS [6,5,1,0] r r (.seq (.sr (.ks 1 r (.nilS [11,6,1,0] r r (.condP r hd (fun hb19 hd=>?_) fun hb19 hd=>?_))))))
 · refine .seq (.sr (.ks 1 r (.nilS [12] r r (.condP r hd (fun hb20 hd=>?_) fun hb20 hd=>?_))))
   · exact .sr (.ks 1 r (.nilS [4] r r (.ret (pret results260 (.t r .n) (.refl _) ⟨0,r,hd⟩))))
   exact .skipS [] r r (.sr (.ks 1 r (.nilS [4] r r (.ret (pret results260 (.t r .n) (.refl _) ⟨(-1),r,hd⟩)))))
 refine .skipS [6,1,0] r r (.seq (.sr (.ks 1 r (.nilS [13,1,0] r r (.condP r hd (fun hb22 hd=>?_) fun hb22 hd=>?_)))))
 · exact .sr (.ks 1 r (.nilS [4] r r (.ret (pret results260 (.t r .n) (.refl _) ⟨1,r,hd⟩))))
 refine .skipS [1,0] r r (.seq (.sr (.ks 3 r (.nilS [16,1,0] r r (.condP r hd (fun hb24 hd=>?_) fun hb24 hd=>?_)))))
 · exact .sr (.ks 1 r (.nilS [4] r r (.ret (pret results260 (.t r .n) (.refl _) ⟨(-1),r,hd⟩))))
 refine .skipS [1,0] r r (.seq (.sr (.ks 3 r (.nilS [19] r r (.condP r hd (fun hb25 hd=>?_) fun hb25 hd=>?_)))))
 · exact .sr (.ks 1 r (.nilS [4] r r (.ret (pret results260 (.t r .n) (.refl _) ⟨1,r,hd⟩))))
 exact .skipS [] r r (.sr (.ks 1 r (.nilS [4] r r (.ret (pret results260 (.t r .n) (.refl _) ⟨0,r,hd⟩)))))
theorem W_cmp_isNaN_uint64 {I:IH} {a0:Int} {Q:Bool→Prop}  (hd:cmp_isNaN_uint64 a0 Q) :
  PFun prog 285 [.int .u64 a0] I (fun _=>o4_ Q):=by
 refine Fun.enter func285 r ntmps285 r (.c .n) fun w0 M=>?_
 exact .sr (.ks 1 r (.nilS [0] r r (.sr (.ks 4 r (.nilS [2] r r (.ret (pret results285 (.t r .n) (.refl _) ⟨(a0 != a0),r,hd⟩)))))))
theorem W_cmp_Compare_uint64 {I:IH} {a0:Int} {a1:Int} {Q:Int→Prop}  (hd:cmp_Compare_uint64 a0 a1 Q) :
  PFun prog 263 [.int .u64 a0,.int .u64 a1] I (fun _=>o0_ Q):=by
 refine Fun.enter func263 r ntmps263 r (.c (.c .n)) fun w0 M=>?_
 refine .sr (.ks 1 r (.nilS [1,0] r r (.sr (.ks 1 r ?_))))
 have hw6:=W_cmp_isNaN_uint64 (I:=I) hd
 refine .callP call285 r hw6 r r fun v7 hv8=>?_
 obtain ⟨r5,rfl,hd⟩:=hv8
 refine .ks 1 r (.nilS [5,1,0] r r (.sr (.ks 1 r ?_)))
 have hw14:=W_cmp_isNaN_uint64 (I:=I) hd
 refine .callP call285 r hw14 r r fun v15 hv16=>?_
 obtain ⟨r13,rfl,hd⟩:=hv16
 refine .ks 1 r (.nilS [6,5,1,0] r r (.seq (.sr (.ks 1 r (.nilS [11,6,1,0] r r (.condP r hd (fun hb19 hd=>?_) fun hb19 hd=>?_))))))
 · refine .seq (.sr (.ks 1 r (.nilS [12] r r (.condP r hd (fun hb20 hd=>?_) fun hb20 hd=>?_))))
   · exact .sr (.ks 1 r (.nilS [4] r r (.ret (pret results263 (.t r .n) (.refl _) ⟨0,r,hd⟩))))
   exact .skipS [] r r (.sr (.ks 1 r (.nilS [4] r r (.ret (pret results263 (.t r .n) (.refl _) ⟨(-1),r,hd⟩)))))
 refine .skipS [6,1,0] r r (.seq (.sr (.ks 1 r (.nilS [13,1,0] r r (.condP r hd (fun hb22 hd=>?_) fun hb22 hd=>?_)))))
 · exact .sr (.ks 1 r (.nilS [4] r r (.ret (pret results263 (.t r .n) (.refl _) ⟨1,r,hd⟩))))
 refine .skipS [1,0] r r (.seq (.sr (.ks 3 r (.nilS [16,1,0] r r (.condP r hd (fun hb24 hd=>?_) fun hb24 hd=>?_)))))
 · exact .sr (.ks 1 r (.nilS [4] r r (.ret (pret results263 (.t r .n) (.refl _) ⟨(-1),r,hd⟩))))
 refine .skipS [1,0] r r (.seq (.sr (.ks 3 r (.nilS [19] r r (.condP r hd (fun hb25 hd=>?_) fun hb25 hd=>?_)))))
 · exact .sr (.ks 1 r (.nilS [4] r r (.ret (pret results263 (.t r .n) (.refl _) ⟨1,r,hd⟩))))
 exact .skipS [] r r (.sr (.ks 1 r (.nilS [4] r r (.ret (pret results263 (.t r .n) (.refl _) ⟨0,r,hd⟩)))))
theorem W_wide_Compare {I:IH} {a0:Wide} {a1:Wide} {Q:Int→Prop}  (hd:wide_Compare a0 a1 Q) :
  PFun prog 249 [.agg (encWide a0).toArray,.agg (encWide a1).toArray] I (fun _=>o0_ Q):=by
 refine Fun.enter func249 r ntmps249 r (.c (.c .n)) fun w0 M=>?_
 refine .sr (.boxA r r r fun b5=>?_)
 refine .boxA r r r fun b7=>?_
 refine .ks 1 r (.nilS [3,2] r r (.seq (.dr [0,1,2,3,5,6,7,8,4,9,10,11] 12 (.g r r r (fun _=>.fa un127 r sz2 r (o:=0) r r r .mk) (.g r r r (fun _=>.load1 ia2 r (.s .z) r r r .mk) (.g r r r (fun _=>.fa un127 r sz2 r (o:=0) r r r .mk) (.g r r r (fun _=>.load1 ia2 r .z r r r .mk) (.g r r r (fun _=>.fa un127 r sz125 r (o:=1) r r r .mk) (.g r r r (fun _=>.load1 ia125 r (.s .z) r r r .mk) ?_)))))))))
 refine .g r r r (fun _=>.fa un127 r sz125 r (o:=1) r r r .mk) (.g r r r (fun _=>.load1 ia125 r .z r r r .mk) (.ww r fun ex=>?_))
 have hw10:=W_cmp_Compare_int64 (I:=I) hd
 refine .callP call260 r hw10 r r fun v11 hv12=>?_
 obtain ⟨r9,rfl,hd⟩:=hv12
 refine .so 2 r r r (.cg r r r r (fun _=>.load1 ia125 r .z r r r .mk) (.cg r r r r (fun _=>.fa un127 r sz125 r (o:=1) r r r .mk) (.cg r r r r (fun _=>.load1 ia125 r (.s .z) r r r .mk) (.cg r r r r (fun _=>.fa un127 r sz125 r (o:=1) r r r .mk) trivial)))) (.ww r fun ex=>?_)
 have hw14:=W_cmp_Compare_uint64 (I:=I) hd
 refine .callP call263 r hw14 r r fun v15 hv16=>?_
 obtain ⟨r13,rfl,hd⟩:=hv16
 refine .so 2 r r r trivial (.ww r fun ex=>?_)
 refine .buildSlice 2 un29 sz3 zv3 r r (.c r r r (.c r r r .n)) r r fun b17=>?_
 refine .so 3 r r r trivial (.ww r fun ex=>?_)
 refine .pubB (El:=eI64) (ys:=([r9,r13]:List Int)) (k:=2) .z (RepCs.cons (cs:=[.int .i64 r9]) r (RepCs.cons (cs:=[.int .i64 r13]) r .nil)) r fun I19 hl20 R21=>?_
 have hw23:=W_cmp_Or_int (I:=I19) R21 hd
 refine .callP call231 r hw23 r r fun v24 hv25=>?_
 obtain ⟨r22,rfl,hd⟩:=hv25
 exact .so 2 r r r trivial (.e2 12 (.ks 1 r (.nilS [4] r r (.drop .z (.drop .z (.ret (pret results249 (.t r .n) hl20 ⟨r22,r,hd⟩)))))))
theorem W_ring_lesser {I:IH} {a0:Wide} {a1:Wide} {Q:Wide→Prop}  (hd:ring_lesser a0 a1 Q) :
  PFun prog 209 [.agg (encWide a0).toArray,.agg (encWide a1).toArray] I (fun _=>o2_ Q):=by
 refine Fun.enter func209 r ntmps209 r (.c (.c .n)) fun w0 M=>?_
 refine .sr (.boxA r r r fun b7=>?_)
 refine .boxA r r r fun b9=>?_
 refine .allocA zv127 r r fun b11=>?_
 refine .nilS [4,3,2] r r (.seq (.sr (.loadW ia127 sz127 r (.s (.s .z)) r r r (.loadW ia127 sz127 r (.s .z) r r r ?_))))
 have hw14:=W_wide_Compare (I:=I) hd
 refine .callP call249 r hw14 r r fun v15 hv16=>?_
 obtain ⟨r13,rfl,hd⟩:=hv16
 refine .ks 1 r (.nilS [8,4,3,2] r r (.condP r hd (fun hb17 hd=>?_) fun hb17 hd=>?_))
 · exact .sr (.loadW ia127 sz127 r (.s (.s .z)) r r r (.storeA sz127 r r .z (.t (.t .nil)) r r (.nilS [4] r r (.drop (.s .z) (.drop (.s .z) (.ret (pret results209 (.w ia127 sz127 r .z r .n) (.refl _) ⟨a0,r,hd⟩)))))))
 exact .skipS [4,3] r r (.drop (.s (.s .z)) (.sr (.loadW ia127 sz127 r (.s .z) r r r (.storeA sz127 r r .z (.t (.t .nil)) r r (.nilS [4] r r (.drop (.s .z) (.ret (pret results209 (.w ia127 sz127 r .z r .n) (.refl _) ⟨a1,r,hd⟩))))))))
theorem W_wide_Add {I:IH} {a0:Wide} {a1:Wide} {Q:Wide→Prop}  (hd:wide_Add a0 a1 Q) :
  PFun prog 210 [.agg (encWide a0).toArray,.agg (encWide a1).toArray] I (fun _=>o2_ Q):=by
 refine Fun.enter func210 r ntmps210 r (.c (.c .n)) fun w0 M=>?_
 refine .sr (.boxA r r r fun b7=>?_)
 refine .boxA r r r fun b9=>?_
 refine .allocA zv127 r r fun b11=>?_
 refine .nilS [4,3,2] r r (.sr (.fa un127 r sz125 r (o:=1) r r r (.load1 ia125 r (.s (.s .z)) r r r (.fa un127 r sz125 r (o:=1) r r r (.load1 ia125 r (.s .z) r r r (.ks 2 r (.nilS [5,4,3,2] r r (.seq (.dr [0,1,2,3,4,5,6,7,8,9,10,14,11,12,13,15] 16 ?_)))))))))
 refine .g r r r (fun _=>.fa un127 r sz2 r (o:=0) r r r .mk) (.g r r r (fun _=>.load1 ia2 r (.s (.s .z)) r r r .mk) (.g r r r (fun _=>.conv un2 un125 r r r .mk) (.g r r r (fun _=>.fa un127 r sz2 r (o:=0) r r r .mk) (.g r r r (fun _=>.load1 ia2 r (.s .z) r r r .mk) (.g r r r (fun _=>.conv un2 un125 r r r .mk) (.fk 2 r (.g r r r (fun _=>.fa un127 r sz125 r (o:=1) r r r .mk) (.g r r r (fun _=>.load1 ia125 r (.s .z) r r r .mk) (.fk 2 r ?_)))))))))
 refine .ww r fun ex=>?_
 have hw14:=W_wide_carry (I:=I) hd
 refine .callP call250 r hw14 r r fun v15 hv16=>?_
 obtain ⟨r13,rfl,hd⟩:=hv16
 exact .so 3 r r r (.ck 2 r r (.cg r r r r (fun _=>.conv un2 un125 r r r .mk) (.cg r r r r (fun _=>.load1 ia2 r (.s .z) r r r .mk) (.cg r r r r (fun _=>.fa un127 r sz2 r (o:=0) r r r .mk) (.cg r r r r (fun _=>.conv un2 un125 r r r .mk) (.cg r r r r (fun _=>.load1 ia2 r (.s (.s .z)) r r r .mk) (.cg r r r r (fun _=>.fa un127 r sz2 r (o:=0) r r r .mk) trivial))))))) (.fk 1 r (.g r r r (fun _=>.conv un125 un2 r r r .mk) (.g r r r (fun _=>.build zv127 un127 BI127 (.c r r r (.t .nil) (.c r r r (.s (.t .nil)) .n)) (by exact ⟨⟨_,_,r,r,r⟩,⟨⟨_,_,r,r,r⟩,trivial⟩⟩) r r .mk) (.e2 16 (.storeA sz127 r r .z (.t (.t .nil)) r r (.nilS [4] r r (.drop (.s .z) (.drop (.s .z) (.ret (pret results210 (.w ia127 sz127 r .z r .n) (.refl _) ⟨({ Hi:=w64 (IntKind.wrap .u64 ((IntKind.wrap .u64 ((IntKind.wrap .u64 (a0.Hi))+(IntKind.wrap .u64 (a1.Hi))))+r13)),Lo:=IntKind.wrap .u64 (a0.Lo+a1.Lo) }:Wide),r,hd⟩))))))))))
theorem W_ring_Mul {I:IH} {a0:Int} {a1:Int} {a2:Int} {Q:Wide→Prop}  (hd:ring_Mul a0 a1 a2 Q) :
  PFun prog 138 [.int .i64 a0,.int .i64 a1,.int .i64 a2] I (fun _=>o2_ Q):=by
 refine Fun.enter func138 r ntmps138 r (.c (.c (.c .n))) fun w0 M=>?_
 refine .sr (.allocA zv127 r r fun b3=>?_)
 refine .nilS [6,2,1,0] r r (.seq (.sr (.ks 1 r (.nilS [8,6,2,1,0] r r (.block (.sr (.ks 2 r (.nilS [9,8,6,2,1,0] r r (.condP r hd (fun hb20 hd=>?_) fun hb20 hd=>?_)))))))))
 · refine .sr (.ks 3 r ?_)
   refine splitP hd (fun hb21 hd=>?_) fun hb21 hd=>?_
   · rw [hb21]
     refine .ks 3 r ?_
     have hw23:=W_ring_truth (I:=I) hd
     refine .callP call207 r hw23 r r fun v24 hv25=>?_
     obtain ⟨r22,rfl,hd⟩:=hv25
     exact .storeA sz127 r r .z (.t (.t .nil)) r r (.nilS [6] r r (.ret (pret results138 (.w ia127 sz127 r .z r .n) (.refl _) ⟨r22,r,hd⟩)))
   rw [hb21]
   refine .ks 3 r ?_
   have hw27:=W_ring_truth (I:=I) hd
   refine .callP call207 r hw27 r r fun v28 hv29=>?_
   obtain ⟨r26,rfl,hd⟩:=hv29
   exact .storeA sz127 r r .z (.t (.t .nil)) r r (.nilS [6] r r (.ret (pret results138 (.w ia127 sz127 r .z r .n) (.refl _) ⟨r26,r,hd⟩)))
 refine .sr (.ks 2 r (.nilS [18,6,2,1,0] r r (.condP r hd (fun hb30 hd=>?_) fun hb30 hd=>?_)))
 · refine .sr (.ks 2 r ?_)
   have hw32:=W_wide_Mul (I:=I) hd
   refine .callP call208 r hw32 r r fun v33 hv34=>?_
   obtain ⟨r31,rfl,hd⟩:=hv34
   exact .storeA sz127 r r .z (.t (.t .nil)) r r (.nilS [6] r r (.ret (pret results138 (.w ia127 sz127 r .z r .n) (.refl _) ⟨r31,r,hd⟩)))
 refine .skipS [6,2,1,0] r r (.seq ?_)
 refine Cod.joinQ (σ:=Unit) hd (fun (_:Unit) c w=>∃ I_,IH.le I I_∧Ok ⟨51,[],none⟩ [(0,.int .i64 a0),(1,.int .i64 a1),(2,.int .i64 a2),(6,.pointer (some ⟨b3,0,none⟩))] c∧Sym w0 M I I_ [pto b3 (.cells #[.int .i64 0,.int .u64 0] 127 (0,0))] w) (fun k55 hd=>?_) ?_
 · skip
   refine .sr (.ks 1 r ?_)
   have hw57:=W_ring_Is (I:=I) hd
   refine .callP call102 r hw57 r r fun v58 hv59=>?_
   obtain ⟨r56,rfl,hd⟩:=hv59
   refine .ks 1 r ?_
   refine splitP hd (fun hb60 hd=>?_) fun hb60 hd=>?_
   · rw [hb60]
     refine .ks 2 r (.gyes r r r (.maxI r r r r (.ks 2 r (.nilS [30,6,2,1,0] r r (.condP r hd (fun hb61 hd=>?_) fun hb61 hd=>?_)))))
     · refine .sr ?_
       have hw63:=W_wide_Of (I:=I) hd
       refine .callP call149 r hw63 r r fun v64 hv65=>?_
       obtain ⟨r62,rfl,hd⟩:=hv65
       exact .storeA sz127 r r .z (.t (.t .nil)) r r (.nilS [6] r r (.ret (pret results138 (.w ia127 sz127 r .z r .n) (.refl _) ⟨r62,r,hd⟩)))
     exact .skip' fun c w ho hs=>⟨(),hd,I,(.refl _),ho.sub ⟨r,r,r,r,trivial⟩,hs.pick (.c .z .n)⟩
   rw [hb60]
   exact .ks 5 r (.nilS [30,6,2,1,0] r r (.condKF r r (.skip' fun c w ho hs=>⟨(),hd,I,(.refl _),ho.sub ⟨r,r,r,r,trivial⟩,hs.pick (.c .z .n)⟩)))
 rintro ⟨⟩ hd c w hst
 obtain ⟨I66,hl67,hok,hsym⟩:=hst
 refine Cod.at hok hsym (.sr (.build zv127 un127 BI127 .n (by exact trivial) r r (.allocA zv127 r r fun b70=>?_)))
 refine .storeA sz127 r r .z (.t (.t .nil)) r r (.nilS [7,6,2,1,0] r r (.seq (.sr (.ks 1 r (.nilS [33,7,6,2,1] r r (.block (.seq (.block (.seq ?_)))))))))
 refine Cod.joinQ (σ:=Int×Int) hd (fun (s:Int×Int) c w=>match s with | (s88,s89)=>∃ I_,IH.le I66 I_∧Ok ⟨51,[],none⟩ [(2,.int .i64 a2),(6,.pointer (some ⟨b3,0,none⟩)),(7,.pointer (some ⟨b70,0,none⟩))] c∧Sym w0 M I I_ [pto b3 (.cells #[.int .i64 0,.int .u64 0] 127 (0,0)),pto b70 (.cells #[.int .i64 s88,.int .u64 s89] 127 (0,0))] w) (fun k90 hd=>?_) ?_
 · skip
   refine .block (.seq (.block (.seq (.seq (.sr (.ks 2 r (.nilS [34,33,7,6,2,1] r r (.condP r hd (fun hb92 hd=>?_) fun hb92 hd=>?_))))))))
   · refine .exitS [7,6,2,1] r r (.region (.ks 1 r ?_))
     have hw94:=W_wide_Of (I:=I66) hd
     refine .callP call149 r hw94 r r fun v95 hv96=>?_
     obtain ⟨r93,rfl,hd⟩:=hv96
     exact .storeA sz127 r r .z (.t (.t .nil)) r r (.nil' fun c w ho hs=>⟨(r93.Hi,r93.Lo),hd,I66,(.refl _),ho.sub ⟨r,r,r,trivial⟩,hs.pick (.c (.s .z) (.c .z .n))⟩)
   refine .skipS [33,7,6,2,1] r r (.seq (.sr (.ks 2 r (.nilS [36,33,7,6,2,1] r r (.condP r hd (fun hb97 hd=>?_) fun hb97 hd=>?_)))))
   · exact .exit fun c w ho hs=>⟨(0,0),hd,I66,(.refl _),ho.sub ⟨r,r,r,trivial⟩,hs.pick (.c (.s .z) (.c .z .n))⟩
   refine .skipS [33,7,6,1] r r (.sr (.ks 2 r (.nilS [38,7,6,1] r r (.condP r hd (fun hb98 hd=>?_) fun hb98 hd=>?_))))
   · refine .exitS [6,1] r r (.drop .z (.seq (.sr (.ks 1 r ?_))))
     have hw100:=W_wide_Of (I:=I66) hd
     refine .callP call149 r hw100 r r fun v101 hv102=>?_
     obtain ⟨r99,rfl,hd⟩:=hv102
     exact .storeA sz127 r r .z (.t (.t .nil)) r r (.nilS [6] r r (.ret (pret results138 (.w ia127 sz127 r .z r .n) hl67 ⟨r99,r,hd⟩)))
   exact .skipS [7,6] r r (.exitS [7,6] r r (.sr (.loadW ia127 sz127 r .z r r r (.storeA sz127 r r (.s .z) (.t (.t .nil)) r r (.nilS [6] r r (.drop .z (.ret (pret results138 (.w ia127 sz127 r .z r .n) hl67 ⟨({ Hi:=0,Lo:=0 }:Wide),r,hd⟩))))))))
 rintro ⟨s88,s89⟩ hd c w hst
 obtain ⟨I103,hl104,hok,hsym⟩:=hst
 have le105:=IH.le.trans hl67 hl104
 refine Cod.at hok hsym (.seq (.seq (.dr [1,2,0,3,4,5] 6 (.g r r r (fun _=>.loadW ia127 sz127 r (.s .z) r r r .mk) (.fk 1 r (.ww r fun ex=>?_))))))
 have hw107:=W_wide_Of (I:=I103) hd
 refine .callP call149 r hw107 r r fun v108 hv109=>?_
 obtain ⟨r106,rfl,hd⟩:=hv109
 refine .so 2 r r r (.ck 1 r r (.cg r r r r (fun _=>.loadW ia127 sz127 r (.s .z) r r r .mk) trivial)) (.ww r fun ex=>?_)
 have hw111:=W_wide_Of (I:=I103) hd
 refine .callP call149 r hw111 r r fun v112 hv113=>?_
 obtain ⟨r110,rfl,hd⟩:=hv113
 refine .so 2 r r r (.cg r r r r (fun _=>.loadW ia127 sz127 r (.s .z) r r r .mk) trivial) (.ww r fun ex=>?_)
 have hw115:=W_wide_Add (I:=I103) hd
 refine .callP call210 r hw115 r r fun v116 hv117=>?_
 obtain ⟨r114,rfl,hd⟩:=hv117
 refine .so 2 r r r trivial (.ww r fun ex=>?_)
 have hw119:=W_ring_lesser (I:=I103) hd
 refine .callP call209 r hw119 r r fun v120 hv121=>?_
 obtain ⟨r118,rfl,hd⟩:=hv121
 exact .so 2 r r r trivial (.e2 6 (.storeA sz127 r r .z (.t (.t .nil)) r r (.nilS [6] r r (.drop (.s .z) (.ret (pret results138 (.w ia127 sz127 r .z r .n) le105 ⟨r118,r,hd⟩))))))
theorem W_ring_Add {I:IH} {a0:Int} {a1:Wide} {a2:Wide} {Q:Wide→Prop}  (hd:ring_Add a0 a1 a2 Q) :
  PFun prog 147 [.int .i64 a0,.agg (encWide a1).toArray,.agg (encWide a2).toArray] I (fun _=>o2_ Q):=by
 refine Fun.enter func147 r ntmps147 r (.c (.c (.c .n))) fun w0 M=>?_
 refine .sr (.boxA r r r fun b7=>?_)
 refine .boxA r r r fun b9=>?_
 refine .allocA zv127 r r fun b11=>?_
 refine .nilS [6,5,4,0] r r (.seq (.sr (.ks 1 r (.nilS [7,6,5,4] r r (.block (.seq ?_))))))
 refine Cod.joinQ (σ:=Bool) hd (fun (s17:Bool) c w=>∃ I_,IH.le I I_∧Ok ⟨32,[],none⟩ [(4,.pointer (some ⟨b7,0,none⟩)),(5,.pointer (some ⟨b9,0,none⟩)),(6,.pointer (some ⟨b11,0,none⟩)),(7,.int .i64 a0),(8,.bool s17)] c∧Sym w0 M I I_ [pto b7 (.cells #[.int .i64 a1.Hi,.int .u64 a1.Lo] 127 (0,0)),pto b9 (.cells #[.int .i64 a2.Hi,.int .u64 a2.Lo] 127 (0,0)),pto b11 (.cells #[.int .i64 0,.int .u64 0] 127 (0,0))] w) (fun k18 hd=>?_) ?_
 · skip
   refine .sr (.ks 2 r (.nilS [8,7,6,5,4] r r (.condP r hd (fun hb19 hd=>?_) fun hb19 hd=>?_)))
   · exact .skip' fun c w ho hs=>⟨(a0==1),hd,I,(.refl _),ho.sub ⟨r,r,r,r,r,trivial⟩,hs.pick (.c (.s (.s .z)) (.c (.s .z) (.c .z .n)))⟩
   refine .sr (.ks 2 r (.nilS [8,7,6,5,4] r r (.condP r hd (fun hb20 hd=>?_) fun hb20 hd=>?_)))
   · exact .skip' fun c w ho hs=>⟨(a0==3),hd,I,(.refl _),ho.sub ⟨r,r,r,r,r,trivial⟩,hs.pick (.c (.s (.s .z)) (.c (.s .z) (.c .z .n)))⟩
   exact .region (.ks 2 r (.nil' fun c w ho hs=>⟨(a0==4),hd,I,(.refl _),ho.sub ⟨r,r,r,r,r,trivial⟩,hs.pick (.c (.s (.s .z)) (.c (.s .z) (.c .z .n)))⟩))
 rintro s17 hd c w hst
 obtain ⟨I21,hl22,hok,hsym⟩:=hst
 refine Cod.at hok hsym (.condP r hd (fun hb23 hd=>?_) fun hb23 hd=>?_)
 · refine .sr (.loadW ia127 sz127 r .z r r r (.loadW ia127 sz127 r (.s .z) r r r ?_))
   have hw25:=W_ring_lesser (I:=I21) hd
   refine .callP call209 r hw25 r r fun v26 hv27=>?_
   obtain ⟨r24,rfl,hd⟩:=hv27
   exact .storeA sz127 r r (.s (.s .z)) (.t (.t .nil)) r r (.nilS [6] r r (.drop .z (.drop .z (.ret (pret results147 (.w ia127 sz127 r .z r .n) hl22 ⟨r24,r,hd⟩)))))
 refine .sr (.ks 2 r (.nilS [15,7,6,5,4] r r (.condP r hd (fun hb28 hd=>?_) fun hb28 hd=>?_)))
 · refine .sr (.loadW ia127 sz127 r .z r r r (.loadW ia127 sz127 r (.s .z) r r r (.neV r r (EQ127 a1 a2) (EG127 _ _ _ _ _) r r r (.ks 1 r ?_))))
   refine splitP hd (fun hb29 hd=>?_) fun hb29 hd=>?_
   · rw [hb29]
     refine .ks 4 r ?_
     have hw31:=W_ring_truth (I:=I21) hd
     refine .callP call207 r hw31 r r fun v32 hv33=>?_
     obtain ⟨r30,rfl,hd⟩:=hv33
     exact .storeA sz127 r r (.s (.s .z)) (.t (.t .nil)) r r (.nilS [6] r r (.drop .z (.drop .z (.ret (pret results147 (.w ia127 sz127 r .z r .n) hl22 ⟨r30,r,hd⟩)))))
   rw [hb29]
   refine .gyes r r r (.loadW ia127 sz127 r .z r r r (.gyes r r r (.build zv127 un127 BI127 .n (by exact trivial) r r (.gyes r r r (.neV r r (EQ127 a1 ({ Hi:=0,Lo:=0 }:Wide)) (EG127 _ _ _ _ _) r r r (.ks 1 r ?_))))))
   have hw35:=W_ring_truth (I:=I21) hd
   refine .callP call207 r hw35 r r fun v36 hv37=>?_
   obtain ⟨r34,rfl,hd⟩:=hv37
   exact .storeA sz127 r r (.s (.s .z)) (.t (.t .nil)) r r (.nilS [6] r r (.drop .z (.drop .z (.ret (pret results147 (.w ia127 sz127 r .z r .n) hl22 ⟨r34,r,hd⟩)))))
 refine .sr (.ks 2 r (.nilS [26,6,5,4] r r (.condP r hd (fun hb38 hd=>?_) fun hb38 hd=>?_)))
 · refine .sr (.loadW ia127 sz127 r .z r r r (.loadW ia127 sz127 r (.s .z) r r r ?_))
   have hw40:=W_wide_Add (I:=I21) hd
   refine .callP call210 r hw40 r r fun v41 hv42=>?_
   obtain ⟨r39,rfl,hd⟩:=hv42
   exact .storeA sz127 r r (.s (.s .z)) (.t (.t .nil)) r r (.nilS [6] r r (.drop .z (.drop .z (.ret (pret results147 (.w ia127 sz127 r .z r .n) hl22 ⟨r39,r,hd⟩)))))
 exact .skipS [6] r r (.drop .z (.drop .z (.sr (.build zv127 un127 BI127 .n (by exact trivial) r r (.storeA sz127 r r .z (.t (.t .nil)) r r (.nilS [6] r r (.ret (pret results147 (.w ia127 sz127 r .z r .n) hl22 ⟨({ Hi:=0,Lo:=0 }:Wide),r,hd⟩))))))))
theorem W_ring_Zero {I:IH} {a0:Int} {Q:Int→Prop}  (hd:ring_Zero a0 Q) :
  PFun prog 79 [.int .i64 a0] I (fun _=>o0_ Q):=by
 refine Fun.enter func79 r ntmps79 r (.c .n) fun w0 M=>?_
 refine .sr (.ks 1 r (.nilS [0] r r (.seq (.sr (.ks 1 r (.nilS [3] r r (.block (.seq (.sr ?_)))))))))
 refine .ks 2 r (.nilS [4,3] r r (.condP r hd (fun hb1 hd=>?_) fun hb1 hd=>?_))
 · exact .skipS [4] r r (.condKT r hb1 (.sr (.ks 1 r (.nilS [2] r r (.ret (pret results79 (.t r .n) (.refl _) ⟨4611686018427387904,r,hd⟩))))))
 refine .sr (.ks 2 r (.nilS [4,3] r r (.condP r hd (fun hb2 hd=>?_) fun hb2 hd=>?_)))
 · exact .skipS [4] r r (.condKT r hb2 (.sr (.ks 1 r (.nilS [2] r r (.ret (pret results79 (.t r .n) (.refl _) ⟨4611686018427387904,r,hd⟩))))))
 refine .region (.ks 2 r (.nilS [4] r r (.condP r hd (fun hb3 hd=>?_) fun hb3 hd=>?_)))
 · exact .sr (.ks 1 r (.nilS [2] r r (.ret (pret results79 (.t r .n) (.refl _) ⟨4611686018427387904,r,hd⟩))))
 exact .skipS [] r r (.sr (.ks 1 r (.nilS [2] r r (.ret (pret results79 (.t r .n) (.refl _) ⟨0,r,hd⟩)))))
theorem W_cmp_Compare_int {I:IH} {a0:Int} {a1:Int} {Q:Int→Prop}  (hd:cmp_Compare_int a0 a1 Q) :
  PFun prog 232 [.int .i64 a0,.int .i64 a1] I (fun _=>o0_ Q):=by
 refine Fun.enter func232 r ntmps232 r (.c (.c .n)) fun w0 M=>?_
 refine .sr (.ks 1 r (.nilS [1,0] r r (.sr (.ks 1 r ?_))))
 have hw6:=W_cmp_isNaN_int (I:=I) hd
 refine .callP call254 r hw6 r r fun v7 hv8=>?_
 obtain ⟨r5,rfl,hd⟩:=hv8
 refine .ks 1 r (.nilS [5,1,0] r r (.sr (.ks 1 r ?_)))
 have hw14:=W_cmp_isNaN_int (I:=I) hd
 refine .callP call254 r hw14 r r fun v15 hv16=>?_
 obtain ⟨r13,rfl,hd⟩:=hv16
 refine .ks 1 r (.nilS [6,5,1,0] r r (.seq (.sr (.ks 1 r (.nilS [11,6,1,0] r r (.condP r hd (fun hb19 hd=>?_) fun hb19 hd=>?_))))))
 · refine .seq (.sr (.ks 1 r (.nilS [12] r r (.condP r hd (fun hb20 hd=>?_) fun hb20 hd=>?_))))
   · exact .sr (.ks 1 r (.nilS [4] r r (.ret (pret results232 (.t r .n) (.refl _) ⟨0,r,hd⟩))))
   exact .skipS [] r r (.sr (.ks 1 r (.nilS [4] r r (.ret (pret results232 (.t r .n) (.refl _) ⟨(-1),r,hd⟩)))))
 refine .skipS [6,1,0] r r (.seq (.sr (.ks 1 r (.nilS [13,1,0] r r (.condP r hd (fun hb22 hd=>?_) fun hb22 hd=>?_)))))
 · exact .sr (.ks 1 r (.nilS [4] r r (.ret (pret results232 (.t r .n) (.refl _) ⟨1,r,hd⟩))))
 refine .skipS [1,0] r r (.seq (.sr (.ks 3 r (.nilS [16,1,0] r r (.condP r hd (fun hb24 hd=>?_) fun hb24 hd=>?_)))))
 · exact .sr (.ks 1 r (.nilS [4] r r (.ret (pret results232 (.t r .n) (.refl _) ⟨(-1),r,hd⟩))))
 refine .skipS [1,0] r r (.seq (.sr (.ks 3 r (.nilS [19] r r (.condP r hd (fun hb25 hd=>?_) fun hb25 hd=>?_)))))
 · exact .sr (.ks 1 r (.nilS [4] r r (.ret (pret results232 (.t r .n) (.refl _) ⟨1,r,hd⟩))))
 exact .skipS [] r r (.sr (.ks 1 r (.nilS [4] r r (.ret (pret results232 (.t r .n) (.refl _) ⟨0,r,hd⟩)))))
theorem W_wide_Narrow {I:IH} {a0:Wide} {Q:(Int×Bool)→Prop}  (hd:wide_Narrow a0 Q) :
  PFun prog 78 [.agg (encWide a0).toArray] I (fun _=>o3_ Q):=by
 refine Fun.enter func78 r ntmps78 r (.c .n) fun w0 M=>?_
 refine .sr (.boxA r r r fun b3=>?_)
 refine .ks 2 r (.nilS [1] r r (.sr (.fa un127 r sz125 r (o:=1) r r r (.load1 ia125 r .z r r r (.conv un125 un2 r r r (.ks 1 r (.nilS [4,1] r r (.seq (.seq ?_)))))))))
 refine .dr [0,2,1,3] 4 (.fk 1 r (.g r r r (fun _=>.loadW ia127 sz127 r .z r r r .mk) (.ww r fun ex=>?_)))
 have hw6:=W_wide_Of (I:=I) hd
 refine .callP call149 r hw6 r r fun v7 hv8=>?_
 obtain ⟨r5,rfl,hd⟩:=hv8
 refine .so 1 r r r (.cg r r r r (fun _=>.loadW ia127 sz127 r .z r r r .mk) trivial) (.g r r r (fun _=>.neV r r (EQ127 r5 a0) (EG127 _ _ _ _ _) r r r .mk) (.e2 4 (.nilS [11,4] r r (.drop .z (.condP r hd (fun hb9 hd=>?_) fun hb9 hd=>?_)))))
 · exact .sr (.ks 2 r (.nilS [3,2] r r (.ret (pret results78 (.t r (.t r .n)) (.refl _) ⟨(0,false),r,hd⟩))))
 exact .skipS [4] r r (.sr (.ks 3 r (.nilS [3,2] r r (.ret (pret results78 (.t r (.t r .n)) (.refl _) ⟨(w64 (a0.Lo),true),r,hd⟩)))))
theorem W_ring_Narrow {I:IH} {a0:Int} {a1:Wide} {Q:(Int×Bool)→Prop}  (hd:ring_Narrow a0 a1 Q) :
  PFun prog 110 [.int .i64 a0,.agg (encWide a1).toArray] I (fun _=>o3_ Q):=by
 refine Fun.enter func110 r ntmps110 r (.c (.c .n)) fun w0 M=>?_
 refine .sr (.boxA r r r fun b1=>?_)
 refine .ks 2 r (.nilS [3] r r (.sr (.loadW ia127 sz127 r .z r r r ?_)))
 have hw4:=W_wide_Narrow (I:=I) hd
 refine .callP call78 r hw4 r r fun v5 hv6=>?_
 obtain ⟨r3,rfl,hd⟩:=hv6
 exact .ks 4 r (.nilS [5,4] r r (.drop .z (.ret (pret results110 (.t r (.t r .n)) (.refl _) ⟨(r3.1,r3.2),r,hd⟩))))
theorem W_prog_within {I:IH} {a0:Int} {a1:Int} {Q:Bool→Prop}  (hd:prog_within a0 a1 Q) :
  PFun prog 164 [.int .i64 a0,.int .i64 a1] I (fun _=>o4_ Q):=by
 refine Fun.enter func164 r ntmps164 r (.c (.c .n)) fun w0 M=>?_
 refine .sr (.ks 1 r (.nilS [1,0] r r (.sr (.ks 3 r ?_))))
 refine splitP hd (fun hb1 hd=>?_) fun hb1 hd=>?_
 · rw [hb1]
   exact .ks 5 r (.nilS [4] r r (.ret (pret results164 (.t r .n) (.refl _) ⟨(decide (a0≤a1)),r,hd⟩)))
 rw [hb1]
 exact .ks 5 r (.nilS [4] r r (.ret (pret results164 (.t r .n) (.refl _) ⟨false,r,hd⟩)))
theorem W_prog_Right_1_a45 {I:IH} {a0:Int} {Q:Bool→Prop}  (hd:prog_Right_1_a45 a0 Q) :
  Fun prog 166 #[.int .i64 a0] I [] (fun I_ v l=>∃ r,v=.bool r∧l=[]∧Q r):=by
 refine Fun.enter (vs:=[.int .i64 a0]) func166 r ntmps166 r (.c .n) fun w0 M=>?_
 refine .sr (.ks 1 r (.nilS [0] r r (.sr (.ks 3 r ?_))))
 refine splitP hd (fun hb1 hd=>?_) fun hb1 hd=>?_
 · rw [hb1]
   exact .ks 4 r (.nilS [2] r r (.ret (oret results166 (.t r .n) (.refl _) .n ⟨true,r,r,hd⟩)))
 rw [hb1]
 exact .ks 4 r (.nilS [2] r r (.ret (oret results166 (.t r .n) (.refl _) .n ⟨(decide (2147483647<a0)),r,r,hd⟩)))
theorem W_slices_IndexFunc_int64_int64_135 {I:IH} {a0:List Int} {p1:Option Addr} {c2:Nat} {Q:Int→Prop} (R3:RepSl eI64 I p1 c2 a0) (hd:slices_IndexFunc_int64_int64_135 a0 Q) :
  Fun prog 225 #[.slice p1 a0.length c2,.func (.func 166) #[] #[]] I [] (fun I_ v l=>∃ r,v=.int .i64 r∧l=[]∧Q r):=by
 refine Fun.enter (vs:=[.slice p1 a0.length c2,.func (.func 166) #[] #[]]) func225 r ntmps225 r (.c (.c .n)) fun w0 M=>?_
 refine .sr (.ks 1 r (.nilS [1,0] r r (.seq (.sr (.ks 1 r (.len un30 r r r r (.ks 1 r (.nilS [8,7,1,0] r r (.block ?_)))))))))
 refine .loop hd (fun (s45:Int) c w=>∃ I_,IH.le I I_∧Ok ⟨19,[],none⟩ [(0,.slice p1 a0.length c2),(1,.func (.func 166) #[] #[]),(7,.int .i64 (a0.length:Int)),(8,.int .i64 s45)] c∧Sym w0 M I I_ [] w) (fun c w ho hs=>⟨I,(.refl _),ho.sub ⟨r,r,r,r,trivial⟩,hs.pick .n⟩) ?_
 rintro s45 next46 hd c w hst
 obtain ⟨I47,hl48,hok,hsym⟩:=hst
 replace R3:=R3.mono hl48
 refine Cod.at hok hsym (.sr (.ks 1 r (.nilS [9,8,7,1,0] r r (.seq (.condP r hd (fun hb50 hd=>?_) fun hb50 hd=>?_)))))
 · refine .skipS [8,7,1,0] r r (.seq (.block (.sr (.ks 2 r (.nilS [5,8,7,1,0] r r (.sr (.ks 3 r ?_)))))))
   obtain ⟨h51,x52,hx53,hd⟩:=hd
   obtain ⟨b54,o55,cs56,e57,hC58,hr59⟩:=R3.2 _ _ hx53
   cases hr59
   refine .ixa un30 sz2 r e57 r h51 (idx_lt hx53 h51) r r (.ld1 (j:=0) ia2 hC58 r r r r r ?_)
   have hw60:=W_prog_Right_1_a45 (I:=I47) (a0:=x52) hd
   refine .callS (.c call166 r r) .n hw60 r r fun v64 I61 l65 hl62 hv63=>?_
   obtain ⟨r66,rfl,rfl,hd⟩:=hv63
   have le67:=IH.le.trans hl48 hl62
   replace R3:=R3.mono hl62
   replace hC58:=hC58.mono hl62
   refine .re (m':=[]) r (.nilS [16,5,8,7,1,0] r r (.condP r hd (fun hb68 hd=>?_) fun hb68 hd=>?_))
   · exact .sr (.ks 2 r (.nilS [4,1] r r (.ret (oret results225 (.t r .n) le67 .n ⟨s45,r,r,hd⟩))))
   exact .skipS [8,7,1,0] r r (.region (.ks 2 r (.nil' fun c w ho hs=>⟨(w64 (s45+1)),hd,I61,le67,ho.sub ⟨r,r,r,r,trivial⟩,hs.pick .n⟩)))
 exact .exitS [1] r r (.sr (.ks 1 r (.nilS [4,1] r r (.ret (oret results225 (.t r .n) hl48 .n ⟨(-1),r,r,hd⟩)))))
theorem W_slices_ContainsFunc_int64_int64_80a {I:IH} {a0:List Int} {p1:Option Addr} {c2:Nat} {Q:Bool→Prop} (R3:RepSl eI64 I p1 c2 a0) (hd:slices_ContainsFunc_int64_int64_80a a0 Q) :
  Fun prog 165 #[.slice p1 a0.length c2,.func (.func 166) #[] #[]] I [] (fun I_ v l=>∃ r,v=.bool r∧l=[]∧Q r):=by
 refine Fun.enter (vs:=[.slice p1 a0.length c2,.func (.func 166) #[] #[]]) func165 r ntmps165 r (.c (.c .n)) fun w0 M=>?_
 refine .sr (.ks 1 r (.nilS [1,0] r r (.sr (.ks 2 r ?_))))
 have hw4:=W_slices_IndexFunc_int64_int64_135 (I:=I) (a0:=a0) R3 hd
 refine .callS (.f call225 r) .n hw4 r r fun v8 I5 l9 hl6 hv7=>?_
 obtain ⟨r10,rfl,rfl,hd⟩:=hv7
 replace R3:=R3.mono hl6
 exact .re (m':=[]) r (.ks 2 r (.nilS [4,1] r r (.ret (oret results165 (.t r .n) hl6 .n ⟨(decide (0≤r10)),r,r,hd⟩))))
theorem W_prog_Right {I:IH} {a0:Plan} {p1:Option Addr} {c2:Nat} {Q:Int→Prop} (R3:RepSl eI64 I p1 c2 a0.Draws) (hd:prog_Right a0 Q) :
  PFun prog 95 [.agg #[.int .i64 a0.Kind,.int .i64 a0.N,.int .i64 a0.Source,.int .i64 a0.Length,.slice p1 a0.Draws.length c2]] I (fun _=>o0_ Q):=by
 refine Fun.enter func95 r ntmps95 r (.c .n) fun w0 M=>?_
 refine .sr (.boxA r r r fun b6=>?_)
 refine .ks 1 r (.nilS [1] r r (.seq (.sr (.fa un49 r sz47 r (o:=0) r r r (.load1 ia47 r .z r r r (.ks 2 r ?_))))))
 refine splitP hd (fun hb10 hd=>?_) fun hb10 hd=>?_
 · rw [hb10]
   exact .ks 4 r (.nilS [10,1] r r (.condKT r r (.sr (.ks 1 r (.nilS [2] r r (.drop .z (.ret (pret results95 (.t r .n) (.refl _) ⟨8,r,hd⟩))))))))
 rw [hb10]
 refine .gyes r r r (.fa un49 r sz47 r (o:=0) r r r (.gyes r r r (.load1 ia47 r .z r r r (.ks 2 r (.nilS [10,1] r r (.condP r hd (fun hb11 hd=>?_) fun hb11 hd=>?_))))))
 · exact .sr (.ks 1 r (.nilS [2] r r (.drop .z (.ret (pret results95 (.t r .n) (.refl _) ⟨8,r,hd⟩)))))
 refine .skipS [1] r r (.seq (.sr (.fa un49 r sz3 r (o:=1) r r r (.load1 ia3 r .z r r r ?_))))
 have hw18:=W_prog_within (I:=I) hd
 refine .callP call164 r hw18 r r fun v19 hv20=>?_
 obtain ⟨r17,rfl,hd⟩:=hv20
 refine .ks 1 r (.nilS [14,1] r r (.condP r hd (fun hb21 hd=>?_) fun hb21 hd=>?_))
 · exact .sr (.ks 1 r (.nilS [2] r r (.drop .z (.ret (pret results95 (.t r .n) (.refl _) ⟨3,r,hd⟩)))))
 refine .skipS [1] r r (.seq ?_)
 refine Cod.joinQ (σ:=Unit) hd (fun (_:Unit) c w=>∃ I_,IH.le I I_∧Ok ⟨42,[],none⟩ [(1,.pointer (some ⟨b6,0,none⟩))] c∧Sym w0 M I I_ [pto b6 (.cells #[.int .i64 a0.Kind,.int .i64 a0.N,.int .i64 a0.Source,.int .i64 a0.Length,.slice p1 a0.Draws.length c2] 49 (0,0))] w) (fun k92 hd=>?_) ?_
 · skip
   refine .sr (.fa un49 r sz47 r (o:=0) r r r (.load1 ia47 r .z r r r (.nilS [16,1] r r (.block (.seq ?_)))))
   refine Cod.joinQ (σ:=Unit) hd (fun (_:Unit) c w=>∃ I_,IH.le I I_∧Ok ⟨42,[],none⟩ [(1,.pointer (some ⟨b6,0,none⟩))] c∧Sym w0 M I I_ [pto b6 (.cells #[.int .i64 a0.Kind,.int .i64 a0.N,.int .i64 a0.Source,.int .i64 a0.Length,.slice p1 a0.Draws.length c2] 49 (0,0))] w) (fun k111 hd=>?_) ?_
   · skip
     refine .block (.seq (.block (.seq (.seq (.sr (.ks 2 r (.nilS [17,16,1] r r (.condP r hd (fun hb113 hd=>?_) fun hb113 hd=>?_))))))))
     · refine .exitS [1] r r (.sr (.fa un49 r sz3 r (o:=3) r r r (.load1 ia3 r .z r r r ?_)))
       have hw115:=W_prog_within (I:=I) hd
       refine .callP call164 r hw115 r r fun v116 hv117=>?_
       obtain ⟨r114,rfl,hd⟩:=hv117
       refine .ks 1 r (.nilS [25,1] r r (.condP r hd (fun hb118 hd=>?_) fun hb118 hd=>?_))
       · exact .sr (.ks 1 r (.nilS [2] r r (.drop .z (.ret (pret results95 (.t r .n) (.refl _) ⟨3,r,hd⟩)))))
       exact .skip' fun c w ho hs=>⟨(),hd,I,(.refl _),ho.sub ⟨r,trivial⟩,hs.pick (.c .z .n)⟩
     refine .skipS [16,1] r r (.seq (.sr (.ks 2 r (.nilS [19,16,1] r r (.condP r hd (fun hb119 hd=>?_) fun hb119 hd=>?_)))))
     · exact .skipS [19,1] r r (.condKT r hb119 (.exit fun c w ho hs=>⟨(),hd,I,(.refl _),ho.sub ⟨r,trivial⟩,hs.pick (.c .z .n)⟩))
     refine .region (.ks 2 r (.nilS [19,1] r r (.condP r hd (fun hb120 hd=>?_) fun hb120 hd=>?_)))
     · exact .exit fun c w ho hs=>⟨(),hd,I,(.refl _),ho.sub ⟨r,trivial⟩,hs.pick (.c .z .n)⟩
     exact .skipS [1] r r (.exit fun c w ho hs=>⟨(),hd,I,(.refl _),ho.sub ⟨r,trivial⟩,hs.pick (.c .z .n)⟩)
   rintro ⟨⟩ hd c w hst
   obtain ⟨I121,hl122,hok,hsym⟩:=hst
   replace R3:=R3.mono hl122
   refine Cod.at hok hsym (.seq (.sr (.fa un49 r sz3 r (o:=2) r r r (.load1 ia3 r .z r r r (.fa un49 r sz3 r (o:=1) r r r (.load1 ia3 r .z r r r (.ks 1 r ?_)))))))
   have hw124:=W_prog_within (I:=I121) hd
   refine .callP call164 r hw124 r r fun v125 hv126=>?_
   obtain ⟨r123,rfl,hd⟩:=hv126
   refine .ks 1 r (.nilS [32,1] r r (.condP r hd (fun hb127 hd=>?_) fun hb127 hd=>?_))
   · exact .sr (.ks 1 r (.nilS [2] r r (.drop .z (.ret (pret results95 (.t r .n) hl122 ⟨3,r,hd⟩)))))
   exact .skipS [1] r r (.exit fun c w ho hs=>⟨(),hd,I121,hl122,ho.sub ⟨r,trivial⟩,hs.pick (.c .z .n)⟩)
 rintro ⟨⟩ hd c w hst
 obtain ⟨I128,hl129,hok,hsym⟩:=hst
 replace R3:=R3.mono hl129
 refine Cod.at hok hsym (.seq (.block (.sr (.fa un49 r sz30 r (o:=4) r r r (.load1 ia30 r .z r r r (.len un30 r r r r (.ks 2 r (.nilS [33,1] r r (.condP r hd (fun hb130 hd=>?_) fun hb130 hd=>?_)))))))))
 · exact .sr (.ks 1 r (.nilS [2] r r (.drop .z (.ret (pret results95 (.t r .n) hl129 ⟨5,r,hd⟩)))))
 refine .sr (.fa un49 r sz30 r (o:=4) r r r (.load1 ia30 r .z r r r ?_))
 have hw131:=W_slices_ContainsFunc_int64_int64_80a (I:=I128) (a0:=a0.Draws) R3 hd
 refine .callS (.f call165 r) .n hw131 r r fun v135 I132 l136 hl133 hv134=>?_
 obtain ⟨r137,rfl,rfl,hd⟩:=hv134
 have le138:=IH.le.trans hl129 hl133
 replace R3:=R3.mono hl133
 refine .re (m':=[pto b6 (.cells #[.int .i64 a0.Kind,.int .i64 a0.N,.int .i64 a0.Source,.int .i64 a0.Length,.slice p1 a0.Draws.length c2] 49 (0,0))]) r (.ks 1 r (.nilS [38] r r (.drop .z (.condP r hd (fun hb139 hd=>?_) fun hb139 hd=>?_))))
 · exact .sr (.ks 1 r (.nilS [2] r r (.ret (pret results95 (.t r .n) le138 ⟨7,r,hd⟩))))
 exact .skipS [] r r (.sr (.ks 1 r (.nilS [2] r r (.ret (pret results95 (.t r .n) le138 ⟨0,r,hd⟩)))))
theorem W_edges_Right_1_b08 {I:IH} {o0:Graph} {a0:Int} {b2:Nat} {p3:Option Addr} {c4:Nat} {Q:Bool→Prop} (R5:RepSl eEdge I p3 c4 o0.Edges) (hd:edges_Right_1_b08 o0 a0 Q) :
  Fun prog 192 #[.int .i64 a0,.pointer (some ⟨b2,0,none⟩)] I [pto b2 (.cells #[.int .i64 o0.N,.slice p3 o0.Edges.length c4] 24 (0,0))] (fun I_ v l=>∃ r,v=.bool r∧l=[pto b2 (.cells #[.int .i64 o0.N,.slice p3 o0.Edges.length c4] 24 (0,0))]∧Q r):=by
 refine Fun.enter (vs:=[.int .i64 a0,.pointer (some ⟨b2,0,none⟩)]) func192 r ntmps192 r (.c (.c .n)) fun w0 M=>?_
 refine .sr (.ks 1 r (.nilS [1,0] r r (.sr (.ks 3 r ?_))))
 refine splitP hd (fun hb6 hd=>?_) fun hb6 hd=>?_
 · rw [hb6]
   exact .ks 6 r (.nilS [3,1] r r (.ret (oret results192 (.t r .n) (.refl _) (.c .z .n) ⟨true,r,r,hd⟩)))
 rw [hb6]
 exact .ks 1 r (.gyes r r r (.fa un24 r sz3 r (o:=0) r r r (.gyes r r r (.load1 ia3 r .z r r r (.ks 3 r (.nilS [3,1] r r (.ret (oret results192 (.t r .n) (.refl _) (.c .z .n) ⟨(decide (o0.N≤a0)),r,r,hd⟩))))))))
theorem W_edges_Right_2_f7d {I:IH} {o1:Graph} {a0:Edge} {b3:Nat} {b4:Nat} {p5:Option Addr} {c6:Nat} {Q:Bool→Prop} (R7:RepSl eEdge I p5 c6 o1.Edges) (hd:edges_Right_2_f7d o1 a0 Q) :
  Fun prog 193 #[.agg (encEdge a0).toArray,.pointer (some ⟨b3,0,none⟩)] I [pto b3 (.cells #[.func (.func 192) #[] #[.pointer (some ⟨b4,0,none⟩)]] 228 (0,0)),pto b4 (.cells #[.int .i64 o1.N,.slice p5 o1.Edges.length c6] 24 (0,0))] (fun I_ v l=>∃ r,v=.bool r∧l=[pto b3 (.cells #[.func (.func 192) #[] #[.pointer (some ⟨b4,0,none⟩)]] 228 (0,0)),pto b4 (.cells #[.int .i64 o1.N,.slice p5 o1.Edges.length c6] 24 (0,0))]∧Q r):=by
 refine Fun.enter (vs:=[.agg (encEdge a0).toArray,.pointer (some ⟨b3,0,none⟩)]) func193 r ntmps193 r (.c (.c .n)) fun w0 M=>?_
 refine .sr (.boxA r r r fun b10=>?_)
 refine .ks 1 r (.nilS [2,1] r r (.sr (.load1 isAgg228 r (.s .z) r r r (.fa un27 r sz3 r (o:=0) r r r (.load1 ia3 r .z r r r ?_)))))
 have hw12:=W_edges_Right_1_b08 (I:=I) (o0:=o1) (a0:=a0.From) (b2:=b4) (p3:=p5) (c4:=c6) R7 hd
 refine .callS (.c call192 r r) (.c (.s (.s .z)) .n) hw12 r r fun v16 I13 l17 hl14 hv15=>?_
 obtain ⟨r18,rfl,rfl,hd⟩:=hv15
 replace R7:=R7.mono hl14
 refine .re (m':=[pto b4 (.cells #[.int .i64 o1.N,.slice p5 o1.Edges.length c6] 24 (0,0)),pto b10 (.cells #[.int .i64 a0.From,.int .i64 a0.To,.int .i64 a0.W] 27 (0,0)),pto b3 (.cells #[.func (.func 192) #[] #[.pointer (some ⟨b4,0,none⟩)]] 228 (0,0))]) r (.ks 1 r ?_)
 refine splitP hd (fun hb19 hd=>?_) fun hb19 hd=>?_
 · rw [hb19]
   exact .ks 6 r (.nilS [3,1] r r (.drop (.s .z) (.ret (oret results193 (.t r .n) hl14 (.c (.s .z) (.c .z .n)) ⟨true,r,r,hd⟩))))
 rw [hb19]
 refine .gyes r r r (.load1 isAgg228 r (.s (.s .z)) r r r (.gyes r r r (.fa un27 r sz3 r (o:=1) r r r (.gyes r r r (.load1 ia3 r (.s .z) r r r ?_)))))
 have hw20:=W_edges_Right_1_b08 (I:=I13) (o0:=o1) (a0:=a0.To) (b2:=b4) (p3:=p5) (c4:=c6) R7 hd
 refine .gyes r r r (.callS (.c call192 r r) (.c .z .n) hw20 r r fun v24 I21 l25 hl22 hv23=>?_)
 obtain ⟨r26,rfl,rfl,hd⟩:=hv23
 have le27:=IH.le.trans hl14 hl22
 replace R7:=R7.mono hl22
 exact .re (m':=[pto b4 (.cells #[.int .i64 o1.N,.slice p5 o1.Edges.length c6] 24 (0,0)),pto b10 (.cells #[.int .i64 a0.From,.int .i64 a0.To,.int .i64 a0.W] 27 (0,0)),pto b3 (.cells #[.func (.func 192) #[] #[.pointer (some ⟨b4,0,none⟩)]] 228 (0,0))]) r (.ks 2 r (.nilS [3,1] r r (.drop (.s .z) (.ret (oret results193 (.t r .n) le27 (.c (.s .z) (.c .z .n)) ⟨r26,r,r,hd⟩)))))
theorem W_slices_IndexFunc_api_Edge_api_Edge_a86 {I:IH} {o1:Graph} {a0:List Edge} {b3:Nat} {b4:Nat} {p5:Option Addr} {c6:Nat} {p8:Option Addr} {c9:Nat} {Q:Int→Prop} (R7:RepSl eEdge I p5 c6 o1.Edges) (R10:RepSl eEdge I p8 c9 a0) (hd:slices_IndexFunc_api_Edge_api_Edge_a86 o1 a0 Q) :
  Fun prog 206 #[.slice p8 a0.length c9,.func (.func 193) #[] #[.pointer (some ⟨b3,0,none⟩)]] I [pto b3 (.cells #[.func (.func 192) #[] #[.pointer (some ⟨b4,0,none⟩)]] 228 (0,0)),pto b4 (.cells #[.int .i64 o1.N,.slice p5 o1.Edges.length c6] 24 (0,0))] (fun I_ v l=>∃ r,v=.int .i64 r∧l=[pto b3 (.cells #[.func (.func 192) #[] #[.pointer (some ⟨b4,0,none⟩)]] 228 (0,0)),pto b4 (.cells #[.int .i64 o1.N,.slice p5 o1.Edges.length c6] 24 (0,0))]∧Q r):=by
 refine Fun.enter (vs:=[.slice p8 a0.length c9,.func (.func 193) #[] #[.pointer (some ⟨b3,0,none⟩)]]) func206 r ntmps206 r (.c (.c .n)) fun w0 M=>?_
 refine .sr (.ks 1 r (.nilS [1,0] r r (.seq (.sr (.ks 1 r (.len un22 r r r r (.ks 1 r (.nilS [8,7,1,0] r r (.block ?_)))))))))
 refine .loop hd (fun (s52:Int) c w=>∃ I_,IH.le I I_∧Ok ⟨19,[],none⟩ [(0,.slice p8 a0.length c9),(1,.func (.func 193) #[] #[.pointer (some ⟨b3,0,none⟩)]),(7,.int .i64 (a0.length:Int)),(8,.int .i64 s52)] c∧Sym w0 M I I_ [pto b3 (.cells #[.func (.func 192) #[] #[.pointer (some ⟨b4,0,none⟩)]] 228 (0,0)),pto b4 (.cells #[.int .i64 o1.N,.slice p5 o1.Edges.length c6] 24 (0,0))] w) (fun c w ho hs=>⟨I,(.refl _),ho.sub ⟨r,r,r,r,trivial⟩,hs.pick (.c .z (.c .z .n))⟩) ?_
 rintro s52 next53 hd c w hst
 obtain ⟨I54,hl55,hok,hsym⟩:=hst
 replace R7:=R7.mono hl55
 replace R10:=R10.mono hl55
 refine Cod.at hok hsym (.sr (.ks 1 r (.nilS [9,8,7,1,0] r r (.seq (.condP r hd (fun hb57 hd=>?_) fun hb57 hd=>?_)))))
 · refine .skipS [8,7,1,0] r r (.seq (.block (.sr (.ks 2 r (.nilS [5,8,7,1,0] r r (.sr (.ks 3 r ?_)))))))
   obtain ⟨h58,x59,hx60,hd⟩:=hd
   obtain ⟨b61,o62,cs63,e64,hC65,hr66⟩:=R10.2 _ _ hx60
   cases hr66
   refine .ixa un22 sz27 r e64 r h58 (idx_lt hx60 h58) r r (.ldW ia27 sz27 hC65 r r r r ?_)
   have hw67:=W_edges_Right_2_f7d (I:=I54) (o1:=o1) (a0:=x59) (b3:=b3) (b4:=b4) (p5:=p5) (c6:=c6) R7 hd
   refine .callS (.c call193 r r) (.c .z (.c .z .n)) hw67 r r fun v71 I68 l72 hl69 hv70=>?_
   obtain ⟨r73,rfl,rfl,hd⟩:=hv70
   have le74:=IH.le.trans hl55 hl69
   replace R7:=R7.mono hl69
   replace R10:=R10.mono hl69
   replace hC65:=hC65.mono hl69
   refine .re (m':=[pto b3 (.cells #[.func (.func 192) #[] #[.pointer (some ⟨b4,0,none⟩)]] 228 (0,0)),pto b4 (.cells #[.int .i64 o1.N,.slice p5 o1.Edges.length c6] 24 (0,0))]) r (.nilS [16,5,8,7,1,0] r r (.condP r hd (fun hb75 hd=>?_) fun hb75 hd=>?_))
   · exact .sr (.ks 2 r (.nilS [4,1] r r (.ret (oret results206 (.t r .n) le74 (.c .z (.c .z .n)) ⟨s52,r,r,hd⟩))))
   exact .skipS [8,7,1,0] r r (.region (.ks 2 r (.nil' fun c w ho hs=>⟨(w64 (s52+1)),hd,I68,le74,ho.sub ⟨r,r,r,r,trivial⟩,hs.pick (.c .z (.c .z .n))⟩)))
 exact .exitS [1] r r (.sr (.ks 1 r (.nilS [4,1] r r (.ret (oret results206 (.t r .n) hl55 (.c .z (.c .z .n)) ⟨(-1),r,r,hd⟩)))))
theorem W_slices_ContainsFunc_api_Edge_api_Edge_87a {I:IH} {o1:Graph} {a0:List Edge} {b3:Nat} {b4:Nat} {p5:Option Addr} {c6:Nat} {p8:Option Addr} {c9:Nat} {Q:Bool→Prop} (R7:RepSl eEdge I p5 c6 o1.Edges) (R10:RepSl eEdge I p8 c9 a0) (hd:slices_ContainsFunc_api_Edge_api_Edge_87a o1 a0 Q) :
  Fun prog 135 #[.slice p8 a0.length c9,.func (.func 193) #[] #[.pointer (some ⟨b3,0,none⟩)]] I [pto b3 (.cells #[.func (.func 192) #[] #[.pointer (some ⟨b4,0,none⟩)]] 228 (0,0)),pto b4 (.cells #[.int .i64 o1.N,.slice p5 o1.Edges.length c6] 24 (0,0))] (fun I_ v l=>∃ r,v=.bool r∧l=[pto b3 (.cells #[.func (.func 192) #[] #[.pointer (some ⟨b4,0,none⟩)]] 228 (0,0)),pto b4 (.cells #[.int .i64 o1.N,.slice p5 o1.Edges.length c6] 24 (0,0))]∧Q r):=by
 refine Fun.enter (vs:=[.slice p8 a0.length c9,.func (.func 193) #[] #[.pointer (some ⟨b3,0,none⟩)]]) func135 r ntmps135 r (.c (.c .n)) fun w0 M=>?_
 refine .sr (.ks 1 r (.nilS [1,0] r r (.sr (.ks 2 r ?_))))
 have hw11:=W_slices_IndexFunc_api_Edge_api_Edge_a86 (I:=I) (o1:=o1) (a0:=a0) (b3:=b3) (b4:=b4) (p5:=p5) (c6:=c6) R7 R10 hd
 refine .callS (.f call206 r) (.c .z (.c .z .n)) hw11 r r fun v15 I12 l16 hl13 hv14=>?_
 obtain ⟨r17,rfl,rfl,hd⟩:=hv14
 replace R7:=R7.mono hl13
 replace R10:=R10.mono hl13
 exact .re (m':=[pto b3 (.cells #[.func (.func 192) #[] #[.pointer (some ⟨b4,0,none⟩)]] 228 (0,0)),pto b4 (.cells #[.int .i64 o1.N,.slice p5 o1.Edges.length c6] 24 (0,0))]) r (.ks 2 r (.nilS [4,1] r r (.ret (oret results135 (.t r .n) hl13 (.c .z (.c .z .n)) ⟨(decide (0≤r17)),r,r,hd⟩))))
theorem W_edges_Right_3_b50 {I:IH} {a0:Edge} {Q:Bool→Prop}  (hd:edges_Right_3_b50 a0 Q) :
  Fun prog 194 #[.agg (encEdge a0).toArray] I [] (fun I_ v l=>∃ r,v=.bool r∧l=[]∧Q r):=by
 refine Fun.enter (vs:=[.agg (encEdge a0).toArray]) func194 r ntmps194 r (.c .n) fun w0 M=>?_
 refine .sr (.boxA r r r fun b3=>?_)
 refine .ks 1 r (.nilS [1] r r (.sr (.fa un27 r sz2 r (o:=2) r r r (.load1 ia2 r .z r r r (.ks 2 r ?_)))))
 refine splitP hd (fun hb5 hd=>?_) fun hb5 hd=>?_
 · rw [hb5]
   exact .ks 5 r (.nilS [2] r r (.drop .z (.ret (oret results194 (.t r .n) (.refl _) .n ⟨true,r,r,hd⟩))))
 rw [hb5]
 exact .gyes r r r (.fa un27 r sz2 r (o:=2) r r r (.gyes r r r (.load1 ia2 r .z r r r (.ks 3 r (.nilS [2] r r (.drop .z (.ret (oret results194 (.t r .n) (.refl _) .n ⟨(decide (2147483647<a0.W)),r,r,hd⟩))))))))
theorem W_slices_IndexFunc_api_Edge_api_Edge_122 {I:IH} {a0:List Edge} {p1:Option Addr} {c2:Nat} {Q:Int→Prop} (R3:RepSl eEdge I p1 c2 a0) (hd:slices_IndexFunc_api_Edge_api_Edge_122 a0 Q) :
  Fun prog 206 #[.slice p1 a0.length c2,.func (.func 194) #[] #[]] I [] (fun I_ v l=>∃ r,v=.int .i64 r∧l=[]∧Q r):=by
 refine Fun.enter (vs:=[.slice p1 a0.length c2,.func (.func 194) #[] #[]]) func206 r ntmps206 r (.c (.c .n)) fun w0 M=>?_
 refine .sr (.ks 1 r (.nilS [1,0] r r (.seq (.sr (.ks 1 r (.len un22 r r r r (.ks 1 r (.nilS [8,7,1,0] r r (.block ?_)))))))))
 refine .loop hd (fun (s45:Int) c w=>∃ I_,IH.le I I_∧Ok ⟨19,[],none⟩ [(0,.slice p1 a0.length c2),(1,.func (.func 194) #[] #[]),(7,.int .i64 (a0.length:Int)),(8,.int .i64 s45)] c∧Sym w0 M I I_ [] w) (fun c w ho hs=>⟨I,(.refl _),ho.sub ⟨r,r,r,r,trivial⟩,hs.pick .n⟩) ?_
 rintro s45 next46 hd c w hst
 obtain ⟨I47,hl48,hok,hsym⟩:=hst
 replace R3:=R3.mono hl48
 refine Cod.at hok hsym (.sr (.ks 1 r (.nilS [9,8,7,1,0] r r (.seq (.condP r hd (fun hb50 hd=>?_) fun hb50 hd=>?_)))))
 · refine .skipS [8,7,1,0] r r (.seq (.block (.sr (.ks 2 r (.nilS [5,8,7,1,0] r r (.sr (.ks 3 r ?_)))))))
   obtain ⟨h51,x52,hx53,hd⟩:=hd
   obtain ⟨b54,o55,cs56,e57,hC58,hr59⟩:=R3.2 _ _ hx53
   cases hr59
   refine .ixa un22 sz27 r e57 r h51 (idx_lt hx53 h51) r r (.ldW ia27 sz27 hC58 r r r r ?_)
   have hw60:=W_edges_Right_3_b50 (I:=I47) (a0:=x52) hd
   refine .callS (.c call194 r r) .n hw60 r r fun v64 I61 l65 hl62 hv63=>?_
   obtain ⟨r66,rfl,rfl,hd⟩:=hv63
   have le67:=IH.le.trans hl48 hl62
   replace R3:=R3.mono hl62
   replace hC58:=hC58.mono hl62
   refine .re (m':=[]) r (.nilS [16,5,8,7,1,0] r r (.condP r hd (fun hb68 hd=>?_) fun hb68 hd=>?_))
   · exact .sr (.ks 2 r (.nilS [4,1] r r (.ret (oret results206 (.t r .n) le67 .n ⟨s45,r,r,hd⟩))))
   exact .skipS [8,7,1,0] r r (.region (.ks 2 r (.nil' fun c w ho hs=>⟨(w64 (s45+1)),hd,I61,le67,ho.sub ⟨r,r,r,r,trivial⟩,hs.pick .n⟩)))
 exact .exitS [1] r r (.sr (.ks 1 r (.nilS [4,1] r r (.ret (oret results206 (.t r .n) hl48 .n ⟨(-1),r,r,hd⟩)))))
theorem W_slices_ContainsFunc_api_Edge_api_Edge_126 {I:IH} {a0:List Edge} {p1:Option Addr} {c2:Nat} {Q:Bool→Prop} (R3:RepSl eEdge I p1 c2 a0) (hd:slices_ContainsFunc_api_Edge_api_Edge_126 a0 Q) :
  Fun prog 135 #[.slice p1 a0.length c2,.func (.func 194) #[] #[]] I [] (fun I_ v l=>∃ r,v=.bool r∧l=[]∧Q r):=by
 refine Fun.enter (vs:=[.slice p1 a0.length c2,.func (.func 194) #[] #[]]) func135 r ntmps135 r (.c (.c .n)) fun w0 M=>?_
 refine .sr (.ks 1 r (.nilS [1,0] r r (.sr (.ks 2 r ?_))))
 have hw4:=W_slices_IndexFunc_api_Edge_api_Edge_122 (I:=I) (a0:=a0) R3 hd
 refine .callS (.f call206 r) .n hw4 r r fun v8 I5 l9 hl6 hv7=>?_
 obtain ⟨r10,rfl,rfl,hd⟩:=hv7
 replace R3:=R3.mono hl6
 exact .re (m':=[]) r (.ks 2 r (.nilS [4,1] r r (.ret (oret results135 (.t r .n) hl6 .n ⟨(decide (0≤r10)),r,r,hd⟩))))
theorem W_edges_Right {I:IH} {a0:Graph} {p1:Option Addr} {c2:Nat} {Q:Int→Prop} (R3:RepSl eEdge I p1 c2 a0.Edges) (hd:edges_Right a0 Q) :
  PFun prog 126 [.agg #[.int .i64 a0.N,.slice p1 a0.Edges.length c2]] I (fun _=>o0_ Q):=by
 refine Fun.enter func126 r ntmps126 r (.c .n) fun w0 M=>?_
 refine .sr (.boxA r r r fun b6=>?_)
 refine .ks 1 r (.nilS [1] r r (.sr (.mkFn r r r r (.alloc1 zeroValue228 r r r fun b10=>?_))))
 refine .store1 sizeOf228 r r .z (.t .nil) r (.nilS [3,1] r r (.seq (.block (.sr (.fa un24 r sz3 r (o:=0) r r r (.load1 ia3 r (.s .z) r r r (.ks 2 r (.nilS [5,3,1] r r (.condP r hd (fun hb12 hd=>?_) fun hb12 hd=>?_)))))))))
 · exact .sr (.ks 1 r (.nilS [2] r r (.drop .z (.drop .z (.ret (pret results126 (.t r .n) (.refl _) ⟨3,r,hd⟩))))))
 refine .seq ?_
 refine Cod.joinQ (σ:=Bool) hd (fun (s15:Bool) c w=>∃ I_,IH.le I I_∧Ok ⟨26,[],none⟩ [(1,.pointer (some ⟨b6,0,none⟩)),(3,.pointer (some ⟨b10,0,none⟩)),(9,.bool s15)] c∧Sym w0 M I I_ [pto b6 (.cells #[.int .i64 a0.N,.slice p1 a0.Edges.length c2] 24 (0,0)),pto b10 (.cells #[.func (.func 192) #[] #[.pointer (some ⟨b6,0,none⟩)]] 228 (0,0))] w) (fun k16 hd=>?_) ?_
 · skip
   refine .sr (.fa un24 r sz3 r (o:=0) r r r (.load1 ia3 r (.s .z) r r r (.ks 2 r (.nilS [9,3,1] r r (.condP r hd (fun hb17 hd=>?_) fun hb17 hd=>?_)))))
   · exact .skip' fun c w ho hs=>⟨(decide (4096<a0.N)),hd,I,(.refl _),ho.sub ⟨r,r,r,trivial⟩,hs.pick (.c (.s .z) (.c .z .n))⟩
   exact .region (.fa un24 r sz22 r (o:=1) r r r (.load1 ia22 r (.s .z) r r r (.len un22 r r r r (.ks 2 r (.nil' fun c w ho hs=>⟨(decide (65536<(a0.Edges.length:Int))),hd,I,(.refl _),ho.sub ⟨r,r,r,trivial⟩,hs.pick (.c (.s .z) (.c .z .n))⟩)))))
 rintro s15 hd c w hst
 obtain ⟨I18,hl19,hok,hsym⟩:=hst
 replace R3:=R3.mono hl19
 refine Cod.at hok hsym (.condP r hd (fun hb20 hd=>?_) fun hb20 hd=>?_)
 · exact .sr (.ks 1 r (.nilS [2] r r (.drop .z (.drop .z (.ret (pret results126 (.t r .n) hl19 ⟨5,r,hd⟩))))))
 refine .sr (.fa un24 r sz22 r (o:=1) r r r (.load1 ia22 r .z r r r (.mkFn r r r r ?_)))
 have hw29:=W_slices_ContainsFunc_api_Edge_api_Edge_87a (I:=I18) (o1:=a0) (a0:=a0.Edges) (b3:=b10) (b4:=b6) (p5:=p1) (c6:=c2) R3 R3 hd
 refine .callS (.f call135 r) (.c (.s .z) (.c .z .n)) hw29 r r fun v33 I30 l34 hl31 hv32=>?_
 obtain ⟨r35,rfl,rfl,hd⟩:=hv32
 have le36:=IH.le.trans hl19 hl31
 replace R3:=R3.mono hl31
 refine .re (m':=[pto b10 (.cells #[.func (.func 192) #[] #[.pointer (some ⟨b6,0,none⟩)]] 228 (0,0)),pto b6 (.cells #[.int .i64 a0.N,.slice p1 a0.Edges.length c2] 24 (0,0))]) r (.ks 1 r (.nilS [17,1] r r (.drop .z (.condP r hd (fun hb37 hd=>?_) fun hb37 hd=>?_))))
 · exact .sr (.ks 1 r (.nilS [2] r r (.drop .z (.ret (pret results126 (.t r .n) le36 ⟨3,r,hd⟩)))))
 refine .sr (.fa un24 r sz22 r (o:=1) r r r (.load1 ia22 r .z r r r ?_))
 have hw38:=W_slices_ContainsFunc_api_Edge_api_Edge_126 (I:=I30) (a0:=a0.Edges) R3 hd
 refine .callS (.f call135 r) .n hw38 r r fun v42 I39 l43 hl40 hv41=>?_
 obtain ⟨r44,rfl,rfl,hd⟩:=hv41
 have le45:=IH.le.trans le36 hl40
 replace R3:=R3.mono hl40
 refine .re (m':=[pto b6 (.cells #[.int .i64 a0.N,.slice p1 a0.Edges.length c2] 24 (0,0))]) r (.ks 1 r (.nilS [22] r r (.drop .z (.condP r hd (fun hb46 hd=>?_) fun hb46 hd=>?_))))
 · exact .sr (.ks 1 r (.nilS [2] r r (.ret (pret results126 (.t r .n) le45 ⟨7,r,hd⟩))))
 exact .skipS [] r r (.sr (.ks 1 r (.nilS [2] r r (.ret (pret results126 (.t r .n) le45 ⟨0,r,hd⟩)))))
theorem W_edges_ends {I:IH} {a0:Edge} {a1:Edge} {Q:Int→Prop}  (hd:edges_ends a0 a1 Q) :
  PFun prog 259 [.agg (encEdge a0).toArray,.agg (encEdge a1).toArray] I (fun _=>o0_ Q):=by
 refine Fun.enter func259 r ntmps259 r (.c (.c .n)) fun w0 M=>?_
 refine .sr (.boxA r r r fun b5=>?_)
 refine .boxA r r r fun b7=>?_
 refine .ks 1 r (.nilS [3,2] r r (.seq (.dr [0,1,2,3,5,6,7,8,4,9,10,11] 12 (.g r r r (fun _=>.fa un27 r sz3 r (o:=0) r r r .mk) (.g r r r (fun _=>.load1 ia3 r (.s .z) r r r .mk) (.g r r r (fun _=>.fa un27 r sz3 r (o:=0) r r r .mk) (.g r r r (fun _=>.load1 ia3 r .z r r r .mk) (.g r r r (fun _=>.fa un27 r sz3 r (o:=1) r r r .mk) (.g r r r (fun _=>.load1 ia3 r (.s .z) r r r .mk) ?_)))))))))
 refine .g r r r (fun _=>.fa un27 r sz3 r (o:=1) r r r .mk) (.g r r r (fun _=>.load1 ia3 r .z r r r .mk) (.ww r fun ex=>?_))
 have hw10:=W_cmp_Compare_int (I:=I) hd
 refine .callP call232 r hw10 r r fun v11 hv12=>?_
 obtain ⟨r9,rfl,hd⟩:=hv12
 refine .so 2 r r r (.cg r r r r (fun _=>.load1 ia3 r .z r r r .mk) (.cg r r r r (fun _=>.fa un27 r sz3 r (o:=1) r r r .mk) (.cg r r r r (fun _=>.load1 ia3 r (.s .z) r r r .mk) (.cg r r r r (fun _=>.fa un27 r sz3 r (o:=1) r r r .mk) trivial)))) (.ww r fun ex=>?_)
 have hw14:=W_cmp_Compare_int (I:=I) hd
 refine .callP call232 r hw14 r r fun v15 hv16=>?_
 obtain ⟨r13,rfl,hd⟩:=hv16
 refine .so 2 r r r trivial (.ww r fun ex=>?_)
 refine .buildSlice 2 un29 sz3 zv3 r r (.c r r r (.c r r r .n)) r r fun b17=>?_
 refine .so 3 r r r trivial (.ww r fun ex=>?_)
 refine .pubB (El:=eI64) (ys:=([r9,r13]:List Int)) (k:=2) .z (RepCs.cons (cs:=[.int .i64 r9]) r (RepCs.cons (cs:=[.int .i64 r13]) r .nil)) r fun I19 hl20 R21=>?_
 have hw23:=W_cmp_Or_int (I:=I19) R21 hd
 refine .callP call231 r hw23 r r fun v24 hv25=>?_
 obtain ⟨r22,rfl,hd⟩:=hv25
 exact .so 2 r r r trivial (.e2 12 (.ks 1 r (.nilS [4] r r (.drop .z (.drop .z (.ret (pret results259 (.t r .n) hl20 ⟨r22,r,hd⟩)))))))
theorem W_edges_order {I:IH} {a0:Edge} {a1:Edge} {Q:Int→Prop}  (hd:edges_order a0 a1 Q) :
  PFun prog 242 [.agg (encEdge a0).toArray,.agg (encEdge a1).toArray] I (fun _=>o0_ Q):=by
 refine Fun.enter func242 r ntmps242 r (.c (.c .n)) fun w0 M=>?_
 refine .sr (.boxA r r r fun b5=>?_)
 refine .boxA r r r fun b7=>?_
 refine .ks 1 r (.nilS [3,2] r r (.seq (.dr [0,1,3,4,5,6,2,7,8,9] 10 (.g r r r (fun _=>.loadW ia27 sz27 r (.s .z) r r r .mk) (.g r r r (fun _=>.loadW ia27 sz27 r .z r r r .mk) (.g r r r (fun _=>.fa un27 r sz2 r (o:=2) r r r .mk) (.g r r r (fun _=>.load1 ia2 r (.s .z) r r r .mk) (.g r r r (fun _=>.fa un27 r sz2 r (o:=2) r r r .mk) (.g r r r (fun _=>.load1 ia2 r .z r r r .mk) ?_)))))))))
 refine .ww r fun ex=>?_
 have hw10:=W_edges_ends (I:=I) hd
 refine .callP call259 r hw10 r r fun v11 hv12=>?_
 obtain ⟨r9,rfl,hd⟩:=hv12
 refine .so 2 r r r (.cg r r r r (fun _=>.load1 ia2 r .z r r r .mk) (.cg r r r r (fun _=>.fa un27 r sz2 r (o:=2) r r r .mk) (.cg r r r r (fun _=>.load1 ia2 r (.s .z) r r r .mk) (.cg r r r r (fun _=>.fa un27 r sz2 r (o:=2) r r r .mk) trivial)))) (.ww r fun ex=>?_)
 have hw14:=W_cmp_Compare_int64 (I:=I) hd
 refine .callP call260 r hw14 r r fun v15 hv16=>?_
 obtain ⟨r13,rfl,hd⟩:=hv16
 refine .so 2 r r r trivial (.ww r fun ex=>?_)
 refine .buildSlice 2 un29 sz3 zv3 r r (.c r r r (.c r r r .n)) r r fun b17=>?_
 refine .so 3 r r r trivial (.ww r fun ex=>?_)
 refine .pubB (El:=eI64) (ys:=([r9,r13]:List Int)) (k:=2) .z (RepCs.cons (cs:=[.int .i64 r9]) r (RepCs.cons (cs:=[.int .i64 r13]) r .nil)) r fun I19 hl20 R21=>?_
 have hw23:=W_cmp_Or_int (I:=I19) R21 hd
 refine .callP call231 r hw23 r r fun v24 hv25=>?_
 obtain ⟨r22,rfl,hd⟩:=hv25
 exact .so 2 r r r trivial (.e2 10 (.ks 1 r (.nilS [4] r r (.drop .z (.drop .z (.ret (pret results242 (.t r .n) hl20 ⟨r22,r,hd⟩)))))))
theorem W_edges_Combine {I:IH} {a0:Int} {a1:List Edge} {p1:Option Addr} {c2:Nat} {Q:((List Edge)×Int)→Prop} (R3:RepSl eEdge I p1 c2 a1) (hd:edges_Combine a0 a1 Q) :
  PFun prog 200 [.int .i64 a0,.slice p1 a1.length c2] I (fun I_ v=>∃ r p4 c5,v=.tuple #[.slice p4 r.1.length c5,.int .i64 r.2]∧RepSl eEdge I_ p4 c5 r.1∧Q r):=by
 refine Fun.enter func200 r ntmps200 r (.c (.c .n)) fun w0 M=>?_
 refine .sr (.ks 2 r (.nilS [1,0] r r (.seq (.sr (.ks 1 r ?_)))))
 have hw13:=W_ring_Is (I:=I) hd
 refine .callP call102 r hw13 r r fun v14 hv15=>?_
 obtain ⟨r12,rfl,hd⟩:=hv15
 refine .ks 1 r (.nilS [20,1,0] r r (.condP r hd (fun hb16 hd=>?_) fun hb16 hd=>?_))
 · exact .sr (.ks 2 r (.nilS [5,4] r r (.ret (pret results200 (.t r (.t r .n)) (.refl _) ⟨(([]:List Edge),8),_,_,r,(.nil _ _ _),hd⟩))))
 refine .skipS [1,0] r r (.sr (.mkMap kArr2 eWide true r r fun b19=>?_))
 refine .ks 1 r (.nilS [6,1,0] r r (.seq (.sr (.ks 1 r (.len un22 r r r r (.ks 1 r (.nilS [24,23,22,6,0] r r (.block (.loop hd (fun (s:(List ((Int×Int)×Wide))×Int) c w=>match s with | (s303,s304)=>∃ I_,IH.le I I_∧Ok ⟨78,[],none⟩ [(0,.int .i64 a0),(6,.map (some b19)),(22,.slice p1 a1.length c2),(23,.int .i64 (a1.length:Int)),(24,.int .i64 s304)] c∧Sym w0 M I I_ [OwnMap kArr2 eWide true b19 s303] w) (fun c w ho hs=>⟨I,(.refl _),ho.sub ⟨r,r,r,r,r,trivial⟩,hs.pick (.c .z .n)⟩) ?_)))))))))
 rintro ⟨s303,s304⟩ next305 hd c w hst
 obtain ⟨I306,hl307,hok,hsym⟩:=hst
 replace R3:=R3.mono hl307
 refine Cod.at hok hsym (.sr (.ks 1 r (.nilS [25,24,23,22,6,0] r r (.seq (.condP r hd (fun hb309 hd=>?_) fun hb309 hd=>?_)))))
 · refine .skipS [24,23,22,6,0] r r (.seq (.block (.sr ?_)))
   obtain ⟨h321,x322,hx323,hd⟩:=hd
   obtain ⟨b324,o325,cs326,e327,hC328,hr329⟩:=R3.2 _ _ hx323
   cases hr329
   refine .ixa un22 sz27 r e327 r h321 (idx_lt hx323 h321) r r (.ldW ia27 sz27 hC328 r r r r (.allocA zv27 r r fun b330=>?_))
   refine .storeA sz27 r r .z (.t (.t (.t .nil))) r r (.nilS [8,24,23,22,6,0] r r (.sr (.fa un27 r sz3 r (o:=0) r r r (.load1 ia3 r .z r r r (.fa un27 r sz3 r (o:=1) r r r (.load1 ia3 r .z r r r (.buildArr zv169 un169 sz3 (.c r r r (.t .nil) (.c r r r (.s (.t .nil)) .n)) r r (.allocA zv169 r r fun b334=>?_))))))))
   refine .storeA sz169 r r .z (.t (.t .nil)) r r (.nilS [9,8,24,23,22,6,0] r r (.sr (.fa un27 r sz2 r (o:=2) r r r (.load1 ia2 r (.s .z) r r r ?_))))
   have hw343:=W_wide_Of (I:=I306) hd
   refine .callP call149 r hw343 r r fun v344 hv345=>?_
   obtain ⟨r342,rfl,hd⟩:=hv345
   refine .allocA zv127 r r fun b346=>?_
   refine .storeA sz127 r r .z (.t (.t .nil)) r r (.nilS [10,9,24,23,22,6,0] r r (.drop (.s (.s .z)) (.seq (.sr (.ks 1 r (.loadW isAgg169 sz169 r (.s .z) r r r (.lookM2 (k:=(x322.From,x322.To)) (El:=eWide) (ag:=true) (zv:=.agg #[.int .i64 0,.int .u64 0]) (z:=({ Hi:=0,Lo:=0 }:Wide)) KA169 un247 zv127 ⟨[.int .i64 0,.int .u64 0],r,.a⟩ (.s (.s .z)) r r hd r r fun v351 r348 t353 cs352 hd hr349 hv350=>?_)))))))
   cases hr349
   cases hv350
   refine .ks 3 r (.allocA zv127 r r fun b354=>?_)
   refine .storeA sz127 r r .z (.t (.t .nil)) r r (.ks 1 r (.nilS [12,11,10,9,24,23,22,6,0] r r (.sr (.ks 1 r (.nilS [42,11,10,9,24,23,22,6,0] r r (.condP r hd (fun hb356 hd=>?_) fun hb356 hd=>?_))))))
   · refine .region (.ks 1 r (.loadW ia127 sz127 r .z r r r (.loadW ia127 sz127 r (.s .z) r r r ?_)))
     have hw358:=W_ring_Add (I:=I306) hd
     refine .callP call147 r hw358 r r fun v359 hv360=>?_
     obtain ⟨r357,rfl,hd⟩:=hv360
     refine .storeA sz127 r r (.s .z) (.t (.t .nil)) r r (.nilS [10,9,24,23,22,6,0] r r (.drop .z (.region (.ks 1 r (.loadW isAgg169 sz169 r (.s .z) r r r (.loadW ia127 sz127 r .z r r r (.updM (k:=(x322.From,x322.To)) (El:=eWide) (ag:=true) (v:=r357) KA169 un247 (.s (.s .z)) r r r ⟨[.int .i64 r357.Hi,.int .u64 r357.Lo],r,.a⟩ (.nilS [24,23,22,6,0] r r (.drop .z ?_)))))))))
     exact .drop .z (.region (.ks 2 r (.nil' fun c w ho hs=>⟨((mput (x322.From,x322.To) r357 s303),w64 (s304+1)),hd,I306,hl307,ho.sub ⟨r,r,r,r,r,trivial⟩,hs.pick (.c .z .n)⟩)))
   refine .skipS [10,9,24,23,22,6,0] r r (.drop .z (.region (.ks 1 r (.loadW isAgg169 sz169 r (.s .z) r r r (.loadW ia127 sz127 r .z r r r (.updM (k:=(x322.From,x322.To)) (El:=eWide) (ag:=true) (v:=r342) KA169 un247 (.s (.s .z)) r r r ⟨[.int .i64 r342.Hi,.int .u64 r342.Lo],r,.a⟩ (.nilS [24,23,22,6,0] r r (.drop .z (.drop .z ?_)))))))))
   exact .region (.ks 2 r (.nil' fun c w ho hs=>⟨((mput (x322.From,x322.To) r342 s303),w64 (s304+1)),hd,I306,hl307,ho.sub ⟨r,r,r,r,r,trivial⟩,hs.pick (.c .z .n)⟩))
 refine .exitS [6,0] r r (.sr (.ks 1 r (.nilS [13,6,0] r r (.seq (.sr (.ks 1 r (.rangeM un247 .z r r r fun b362=>?_)))))))
 refine .nilS [52,13,0] r r (.block (.own0 eEdge 27 (.loop hd (fun (s:(List Edge)×(List ((Int×Int)×Wide))) c w=>match s with | (s467,s471)=>∃ I_ p468 c469,IH.le I306 I_∧Ok ⟨78,[],none⟩ [(0,.int .i64 a0),(13,.slice p468 s467.length c469),(52,.pointer (some ⟨b362,0,none⟩))] c∧Sym w0 M I I_ [OwnSl eEdge 27 p468 c469 s467,OwnIt kArr2 eWide true b19 b362 s303 s471 none] w) (fun c w ho hs=>⟨I306,_,_,(.refl _),ho.sub ⟨r,r,r,trivial⟩,hs.pick (.c .z (.c .z .n))⟩) ?_)))
 rintro ⟨s467,s471⟩ next473 hd c w hst
 obtain ⟨I474,p468,c469,hl475,hok,hsym⟩:=hst
 have le476:=IH.le.trans hl307 hl475
 refine Cod.at hok hsym (.sr (.nextM (.s .z) r hd r r (fun hd hn497=>?_) (fun p491 l492 v493 cs494 hd hr495 hv496 hn497=>?_)))
 · skip
   refine .ks 1 r (.nilS [54,52,13,0] r r (.seq (.condKF r r (.exitS [13] r r (.drop (.s .z) (.sr (.ks 1 r ?_)))))))
   have hw498:=Fun.sort (hk:=fun _=>⟨r,r⟩) SL241 ia27 sz27 (fun x y J Q hq=>W_edges_order (I:=J) (a0:=x) (a1:=y) (Q:=Q) hq) call242 (I:=I474) (T:=27) (a:=p468) (cap:=c469) hd
   refine .callS (.f call241 r) (.c .z .n) hw498 r r fun v499 I500 l501 hl502 hv503=>?_
   obtain ⟨y504,rfl,hlen505,rfl,hd⟩:=hv503
   have le506:=IH.le.trans le476 hl502
   have le507:=IH.le.trans hl475 hl502
   refine .sub (E':=[(13,.slice p468 y504.length c469),(75,.slice p468 y504.length c469),(76,_)]) ⟨(by rw [hlen505]; rfl),(by rw [hlen505]; rfl),r,trivial⟩ (.nilS [13] r r (.sr (.ks 3 r (.nilS [5,4] r r (.pub .z fun I508 hl509 R510=>?_)))))
   have le511:=IH.le.trans le506 hl509
   have le512:=IH.le.trans le507 hl509
   exact .ret (pret results200 (.t r (.t r .n)) le511 ⟨(y504,0),_,_,r,R510,hd⟩)
 cases hr495
 cases hv496
 refine .ks 1 r (.nilS [54,52,13,0] r r (.seq (.condKT r r (.skipS [52,13,0] r r (.block (.sr (.entryM .z r r r (.ks 2 r (.allocA zv169 r r fun b517=>?_)))))))))
 refine .allocA zv127 r r fun b519=>?_
 refine .storeA sz169 r r (.s .z) (.t (.t .nil)) r r (.storeA sz127 r r .z (.t (.t .nil)) r r (.nilS [15,14,52,13,0] r r (.sr (.ks 1 r (.loadW ia127 sz127 r .z r r r ?_)))))
 have hw526:=W_ring_Narrow (I:=I474) hd
 refine .callP call110 r hw526 r r fun v527 hv528=>?_
 obtain ⟨r525,rfl,hd⟩:=hv528
 refine .ks 5 r (.nilS [17,16,14,52,13,0] r r (.drop .z (.seq (.sr (.ks 2 r (.nilS [65,16,14,52,13,0] r r (.condP r hd (fun hb529 hd=>?_) fun hb529 hd=>?_)))))))
 · exact .sr (.ks 2 r (.nilS [5,4] r r (.drop .z (.drop .z (.drop .z (.ret (pret results200 (.t r (.t r .n)) le476 ⟨(([]:List Edge),12),_,_,r,(.nil _ _ _),hd⟩)))))))
 refine .skipS [16,14,52,13,0] r r (.region (.ks 1 r (.ixArr (i:=0) un169 sz3 r r (by decide) (o:=0) r r r (.load1 ia3 r .z r r r (.ixArr (i:=1) un169 sz3 r r (by decide) (o:=1) r r r (.load1 ia3 r .z r r r (.ks 1 r (.build zv27 un27 BI27 (.c r r r (.t .nil) (.c r r r (.s (.t .nil)) (.c r r r (.s (.s (.t .nil))) .n))) (by exact ⟨⟨_,_,r,r,r⟩,⟨⟨_,_,r,r,r⟩,⟨⟨_,_,r,r,r⟩,trivial⟩⟩⟩) r r (.buildSlice 1 un22 sz27 zv27 r r (.c r r r .n) r r fun b530=>?_)))))))))
 obtain ⟨hl532,hd⟩:=hd
 refine .append (ys:=[({ From:=p491.1.1,To:=p491.1.2,W:=r525.1 }:Edge)]) 24 (.s (.s (.s .z))) un22 un22 IN27 r r r r r r r r r (.box .z (.one r) r) hl532 r r fun p533 c534=>?_
 exact .ks 1 r (.nil' fun c w ho hs=>⟨((s467++([({ From:=p491.1.1,To:=p491.1.2,W:=r525.1 }:Edge)])),l492),hd,I474,_,_,hl475,ho.sub ⟨r,r,r,trivial⟩,hs.pick (.c .z (.c (.s (.s .z)) .n))⟩)
theorem W_edges_Canon {I:IH} {a0:Graph} {p1:Option Addr} {c2:Nat} {Q:Graph→Prop} (R3:RepSl eEdge I p1 c2 a0.Edges) (hd:edges_Canon a0 Q) :
  PFun prog 131 [.agg #[.int .i64 a0.N,.slice p1 a0.Edges.length c2]] I (o12_ Q):=by
 refine Fun.enter func131 r ntmps131 r (.c .n) fun w0 M=>?_
 refine .sr (.boxA r r r fun b11=>?_)
 refine .allocA zv24 r r fun b13=>?_
 refine .nilS [2,1] r r (.sr (.fa un24 r sz22 r (o:=1) r r r (.load1 ia22 r (.s .z) r r r ?_)))
 have hw24:=W_edges_Combine (I:=I) R3 hd
 refine .call call200 r hw24 r r fun v19 I16 hl17 hv18=>?_
 obtain ⟨r15,p21,c22,rfl,R23,hd⟩:=hv18
 replace R3:=R3.mono hl17
 refine .ks 5 r (.nilS [3,2,1] r r (.sr (.fa un24 r sz3 r (o:=0) r r r (.load1 ia3 r (.s .z) r r r (.ks 1 r (.build zv24 un24 BI24 (.c r r r (.t .nil) (.c r r r (.s (.t .nil)) .n)) (by exact ⟨⟨_,_,r,r,r⟩,⟨⟨_,_,r,r,r⟩,trivial⟩⟩) r r (.storeA sz24 r r .z (.t (.t .nil)) r r (.nilS [2] r r (.drop (.s .z) ?_)))))))))
 exact .ret (pret results131 (.w ia24 sz24 r .z r .n) hl17 ⟨({ N:=a0.N,Edges:=r15.1 }:Graph),_,_,r,R23,hd⟩)
theorem W_edges_Simple_1_100 {I:IH} {a0:Edge} {Q:(Edge×Bool)→Prop}  (hd:edges_Simple_1_100 a0 Q) :
  Fun prog 196 #[.agg (encEdge a0).toArray] I [] (fun I_ v l=>∃ r,v=.tuple #[.agg (encEdge r.1).toArray,.bool r.2]∧l=[]∧Q r):=by
 refine Fun.enter (vs:=[.agg (encEdge a0).toArray]) func196 r ntmps196 r (.c .n) fun w0 M=>?_
 refine .sr (.boxA r r r fun b1=>?_)
 refine .allocA zv27 r r fun b3=>?_
 refine .ks 1 r (.nilS [2,1] r r (.seq (.dr [0,1,2,3,4,5,6] 7 (.g r r r (fun _=>.loadW ia27 sz27 r (.s .z) r r r .mk) (.g r r r (fun _=>.fa un27 r sz3 r (o:=0) r r r .mk) (.g r r r (fun _=>.load1 ia3 r (.s .z) r r r .mk) (.g r r r (fun _=>.fa un27 r sz3 r (o:=1) r r r .mk) (.g r r r (fun _=>.load1 ia3 r (.s .z) r r r .mk) (.fk 1 r ?_)))))))))
 refine .ww r fun ex=>?_
 exact .storeA sz27 r r .z (.t (.t (.t .nil))) r r (.sn 2 r r r (.ck 1 r r (.cg r r r r (fun _=>.load1 ia3 r (.s .z) r r r .mk) (.cg r r r r (fun _=>.fa un27 r sz3 r (o:=1) r r r .mk) (.cg r r r r (fun _=>.load1 ia3 r (.s .z) r r r .mk) (.cg r r r r (fun _=>.fa un27 r sz3 r (o:=0) r r r .mk) trivial))))) (.e2 7 (.ks 1 r (.nilS [3,2] r r (.drop (.s .z) (.ret (oret results196 (.w ia27 sz27 r .z r (.t r .n)) (.refl _) .n ⟨(a0,a0.From != a0.To),r,r,hd⟩)))))))
theorem W_edges_made_71c {I:IH} {a0:Graph} {p1:Option Addr} {c2:Nat} {Q:Graph→Prop} (R3:RepSl eEdge I p1 c2 a0.Edges) (hd:edges_made_71c a0 Q) :
  Fun prog 195 #[.agg #[.int .i64 a0.N,.slice p1 a0.Edges.length c2],.func (.func 196) #[] #[]] I [] (fun I_ v l=>∃ r p4 c5,v=.agg #[.int .i64 r.N,.slice p4 r.Edges.length c5]∧RepSl eEdge I_ p4 c5 r.Edges∧l=[]∧Q r):=by
 refine Fun.enter (vs:=[.agg #[.int .i64 a0.N,.slice p1 a0.Edges.length c2],.func (.func 196) #[] #[]]) func195 r ntmps195 r (.c (.c .n)) fun w0 M=>?_
 refine .sr (.boxA r r r fun b8=>?_)
 refine .allocA zv24 r r fun b10=>?_
 refine .nilS [4,2,1] r r (.sr (.ks 1 r (.nilS [5,4,2,1] r r (.seq (.sr (.fa un24 r sz22 r (o:=1) r r r (.load1 ia22 r (.s .z) r r r (.len un22 r r r r (.ks 1 r ?_)))))))))
 refine .nilS [13,12,11,5,4,2,1] r r (.block (.own0 eEdge 27 (.loop hd (fun (s:(List Edge)×Int) c w=>match s with | (s108,s112)=>∃ I_ p109 c110,IH.le I I_∧Ok ⟨34,[],none⟩ [(1,.func (.func 196) #[] #[]),(2,.pointer (some ⟨b8,0,none⟩)),(4,.pointer (some ⟨b10,0,none⟩)),(5,.slice p109 s108.length c110),(11,.slice p1 a0.Edges.length c2),(12,.int .i64 (a0.Edges.length:Int)),(13,.int .i64 s112)] c∧Sym w0 M I I_ [pto b8 (.cells #[.int .i64 a0.N,.slice p1 a0.Edges.length c2] 24 (0,0)),pto b10 (.cells #[.int .i64 0,.slice none 0 0] 24 (0,0)),OwnSl eEdge 27 p109 c110 s108] w) (fun c w ho hs=>⟨I,_,_,(.refl _),ho.sub ⟨r,r,r,r,r,r,r,trivial⟩,hs.pick (.c (.s (.s .z)) (.c (.s .z) (.c .z .n)))⟩) ?_)))
 rintro ⟨s108,s112⟩ next114 hd c w hst
 obtain ⟨I115,p109,c110,hl116,hok,hsym⟩:=hst
 replace R3:=R3.mono hl116
 refine Cod.at hok hsym (.sr (.ks 1 r (.nilS [14,13,12,11,5,4,2,1] r r (.seq (.condP r hd (fun hb118 hd=>?_) fun hb118 hd=>?_)))))
 · refine .skipS [13,12,11,5,4,2,1] r r (.seq (.block (.sr ?_)))
   obtain ⟨h130,x131,hx132,hd⟩:=hd
   obtain ⟨b133,o134,cs135,e136,hC137,hr138⟩:=R3.2 _ _ hx132
   cases hr138
   refine .ixa un22 sz27 r e136 r h130 (idx_lt hx132 h130) r r (.ldW ia27 sz27 hC137 r r r r (.allocA zv27 r r fun b139=>?_))
   refine .storeA sz27 r r .z (.t (.t (.t .nil))) r r (.nilS [7,13,12,11,5,4,2,1] r r (.sr (.ks 1 r (.loadW ia27 sz27 r .z r r r ?_))))
   have hw141:=W_edges_Simple_1_100 (I:=I115) (a0:=x131) hd
   refine .callS (.c call196 r r) .n hw141 r r fun v145 I142 l146 hl143 hv144=>?_
   obtain ⟨r147,rfl,rfl,hd⟩:=hv144
   have le148:=IH.le.trans hl116 hl143
   replace R3:=R3.mono hl143
   refine .re (m':=[pto b139 (.cells #[.int .i64 x131.From,.int .i64 x131.To,.int .i64 x131.W] 27 (0,0)),pto b8 (.cells #[.int .i64 a0.N,.slice p1 a0.Edges.length c2] 24 (0,0)),pto b10 (.cells #[.int .i64 0,.slice none 0 0] 24 (0,0)),OwnSl eEdge 27 p109 c110 s108]) r (.ks 3 r (.allocA zv27 r r fun b149=>?_))
   refine .storeA sz27 r r .z (.t (.t (.t .nil))) r r (.ks 1 r (.nilS [9,8,13,12,11,5,4,2,1] r r (.drop (.s .z) (.sr (.ks 1 r (.nilS [23,8,13,12,11,5,4,2,1] r r (.condP r hd (fun hb151 hd=>?_) fun hb151 hd=>?_)))))))
   · refine .region (.ks 1 r (.loadW ia27 sz27 r .z r r r (.buildSlice 1 un22 sz27 zv27 r r (.c r r r .n) r r fun b152=>?_)))
     obtain ⟨hl154,hd⟩:=hd
     refine .append (ys:=[r147.1]) 24 (.s (.s (.s (.s .z)))) un22 un22 IN27 r r r r r r r r r (.box .z (.one r) r) hl154 r r fun p155 c156=>?_
     exact .ks 1 r (.nilS [5,13,12,11,4,2,1] r r (.drop (.s .z) (.drop (.s .z) (.region (.ks 2 r (.nil' fun c w ho hs=>⟨((s108++([r147.1])),w64 (s112+1)),hd,I142,_,_,le148,ho.sub ⟨r,r,r,r,r,r,r,trivial⟩,hs.pick (.c (.s .z) (.c (.s .z) (.c .z .n)))⟩))))))
   exact .skipS [13,12,11,5,4,2,1] r r (.drop .z (.region (.ks 2 r (.nil' fun c w ho hs=>⟨(s108,w64 (s112+1)),hd,I142,_,_,le148,ho.sub ⟨r,r,r,r,r,r,r,trivial⟩,hs.pick (.c .z (.c .z (.c .z .n)))⟩))))
 refine .exitS [5,4,2,1] r r (.sr (.fa un24 r sz3 r (o:=0) r r r (.load1 ia3 r .z r r r (.ks 1 r (.build zv24 un24 BI24 (.c r r r (.t .nil) (.c r r r (.s (.t .nil)) .n)) (by exact ⟨⟨_,_,r,r,r⟩,⟨⟨_,_,r,r,r⟩,trivial⟩⟩) r r (.pub (.s (.s .z)) fun I158 hl159 R160=>?_))))))
 have le161:=IH.le.trans hl116 hl159
 replace R3:=R3.mono hl159
 have hw171:=W_edges_Canon (I:=I158) (a0:=({ N:=a0.N,Edges:=s108 }:Graph)) R160 hd
 refine .call call131 r hw171 r r fun v166 I163 hl164 hv165=>?_
 obtain ⟨r162,p168,c169,rfl,R170,hd⟩:=hv165
 have le172:=IH.le.trans le161 hl164
 replace R3:=R3.mono hl164
 replace R160:=R160.mono hl164
 exact .storeA sz24 r r (.s .z) (.t (.t .nil)) r r (.nilS [4,1] r r (.drop .z (.ret (oret results195 (.w ia24 sz24 r .z r .n) le172 .n ⟨r162,_,_,r,R170,r,hd⟩))))
theorem W_edges_Simple {I:IH} {a0:Graph} {p1:Option Addr} {c2:Nat} {Q:Graph→Prop} (R3:RepSl eEdge I p1 c2 a0.Edges) (hd:edges_Simple a0 Q) :
  PFun prog 127 [.agg #[.int .i64 a0.N,.slice p1 a0.Edges.length c2]] I (o12_ Q):=by
 refine Fun.enter func127 r ntmps127 r (.c .n) fun w0 M=>?_
 refine .sr (.boxA r r r fun b7=>?_)
 refine .allocA zv24 r r fun b9=>?_
 refine .nilS [2,1] r r (.sr (.loadW ia24 sz24 r (.s .z) r r r ?_))
 have hw11:=W_edges_made_71c (I:=I) (a0:=a0) R3 hd
 refine .callS (.f call195 r) .n hw11 r r fun v15 I12 l16 hl13 hv14=>?_
 obtain ⟨r17,p18,c19,rfl,R20,rfl,hd⟩:=hv14
 replace R3:=R3.mono hl13
 exact .re (m':=[pto b9 (.cells #[.int .i64 0,.slice none 0 0] 24 (0,0)),pto b7 (.cells #[.int .i64 a0.N,.slice p1 a0.Edges.length c2] 24 (0,0))]) r (.storeA sz24 r r .z (.t (.t .nil)) r r (.nilS [2] r r (.drop (.s .z) (.ret (pret results127 (.w ia24 sz24 r .z r .n) hl13 ⟨r17,_,_,r,R20,hd⟩)))))
theorem W_slices_Grow_api_Edge_api_Edge {I:IH} {a1:Int} {Q:(List Edge)→Prop}  (hd:slices_Grow_api_Edge_api_Edge a1 Q) :
  OFun prog 239 [.slice none 0 0,.int .i64 a1] I (fun I_ v l=>∃ r p1 c2,v=.slice p1 r.length c2∧l=[OwnSl eEdge 27 p1 c2 r]∧Q r):=by
 refine Fun.enter func239 r ntmps239 r (.c (.c .n)) fun w0 M=>?_
 refine .sr (.ks 1 r (.nilS [1,0] r r (.seq (.sr (.ks 2 r (.nilS [6,1,0] r r (.condP r hd (fun hb5 hd=>?_) fun hb5 hd=>?_)))))))
 · refine .region ?_
   exact hd.elim
 refine .skipS [1,0] r r (.seq (.sr (.ks 2 r (.capOf un22 r r r r (.ks 1 r (.len un22 r r r r (.ks 3 r (.nilS [1,0] r r (.sr ?_)))))))))
 refine .ks 2 r (.nilS [16,1,0] r r (.condP r hd (fun hb6 hd=>?_) fun hb6 hd=>?_))
 · refine .region (.ks 2 r (.capOf un22 r r r r (.slZ un22 sz27 r r (Nat.le_refl _) r r r (.ks 1 r ?_))))
   obtain ⟨h7,h8,hd⟩:=hd
   refine .growN eEdge 24 un22 un3 IN27 r r r r r r r r h7 h8 r r fun b9 c10 h11=>?_
   exact .ks 1 r (.len un22 r r r r (.slZ un22 sz27 r r h11 map_add0 r r (.ks 1 r (.nilS [0] r r (.sr (.ks 2 r (.nilS [4] r r (.ret (oret results239 (.t r .n) (.refl _) (.c .z .n) ⟨([]:List Edge),_,_,r,r,hd⟩)))))))))
 exact .skipS [0] r r (.sr (.ks 2 r (.nilS [4] r r (.own0 eEdge 27 (.ret (oret results239 (.t r .n) (.refl _) (.c .z .n) ⟨([]:List Edge),_,_,r,r,hd⟩))))))
theorem W_slices_Concat_api_Edge_api_Edge {I:IH} {a0:List (List Edge)} {p1:Option Addr} {c2:Nat} {Q:(List Edge)→Prop} (R3:RepSl (slEl eEdge) I p1 c2 a0) (hd:slices_Concat_api_Edge_api_Edge a0 Q) :
  PFun prog 197 [.slice p1 a0.length c2] I (fun I_ v=>∃ r p4 c5,v=.slice p4 r.length c5∧RepSl eEdge I_ p4 c5 r∧Q r):=by
 refine Fun.enter func197 r ntmps197 r (.c .n) fun w0 M=>?_
 refine .sr (.ks 1 r (.nilS [0] r r (.sr (.ks 1 r (.nilS [3,0] r r (.seq (.sr (.ks 1 r (.len underlying252 r r r r ?_)))))))))
 refine .ks 1 r (.nilS [11,10,9,3,0] r r (.block (.loop hd (fun (s:Int×Int) c w=>match s with | (s159,s160)=>∃ I_,IH.le I I_∧Ok ⟨36,[],none⟩ [(0,.slice p1 a0.length c2),(3,.int .i64 s159),(9,.slice p1 a0.length c2),(10,.int .i64 (a0.length:Int)),(11,.int .i64 s160)] c∧Sym w0 M I I_ [] w) (fun c w ho hs=>⟨I,(.refl _),ho.sub ⟨r,r,r,r,r,trivial⟩,hs.pick .n⟩) ?_)))
 rintro ⟨s159,s160⟩ next161 hd c w hst
 obtain ⟨I162,hl163,hok,hsym⟩:=hst
 replace R3:=R3.mono hl163
 refine Cod.at hok hsym (.sr (.ks 1 r (.nilS [12,11,10,9,3,0] r r (.seq (.condP r hd (fun hb165 hd=>?_) fun hb165 hd=>?_)))))
 · refine .skipS [11,10,9,3,0] r r (.seq (.block (.sr ?_)))
   obtain ⟨h178,x179,hx180,hd⟩:=hd
   obtain ⟨b181,o182,cs183,e184,hC185,hr186⟩:=R3.2 _ _ hx180
   obtain ⟨p187,c188,rfl,R189⟩:=hr186
   refine .ixa underlying252 sz22 r e184 r h178 (idx_lt hx180 h178) r r (.ld1 (j:=0) ia22 hC185 r r r r r (.ks 1 r (.nilS [5,11,10,9,3,0] r r (.sr (.ks 2 r (.len un22 r r r r (.ks 2 r (.nilS [3,11,10,9,0] r r (.sr ?_)))))))))
   refine .ks 2 r (.nilS [20,3,11,10,9,0] r r (.condP r hd (fun hb190 hd=>?_) fun hb190 hd=>?_))
   · refine .region ?_
     exact hd.elim
   exact .skipS [3,11,10,9,0] r r (.region (.ks 2 r (.nil' fun c w ho hs=>⟨(w64 (s159+(x179.length:Int)),w64 (s160+1)),hd,I162,hl163,ho.sub ⟨r,r,r,r,r,trivial⟩,hs.pick .n⟩)))
 refine .exitS [3,0] r r (.sr (.ks 1 r ?_))
 have hw213:=W_slices_Grow_api_Edge_api_Edge (I:=I162) hd
 refine .callO call239 r hw213 r r fun v207 I204 l208 hl205 hv206=>?_
 obtain ⟨r203,p209,c210,rfl,rfl,hd⟩:=hv206
 have le214:=IH.le.trans hl163 hl205
 replace R3:=R3.mono hl205
 refine .ks 1 r (.nilS [6,0] r r (.seq (.sr (.ks 1 r (.len underlying252 r r r r (.ks 1 r (.nilS [27,26,25,6] r r (.block (.loop hd (fun (s:(List Edge)×Int) c w=>match s with | (s266,s270)=>∃ I_ p267 c268,IH.le I204 I_∧Ok ⟨36,[],none⟩ [(6,.slice p267 s266.length c268),(25,.slice p1 a0.length c2),(26,.int .i64 (a0.length:Int)),(27,.int .i64 s270)] c∧Sym w0 M I I_ [OwnSl eEdge 27 p267 c268 s266] w) (fun c w ho hs=>⟨I204,_,_,(.refl _),ho.sub ⟨r,r,r,r,trivial⟩,hs.pick (.c .z .n)⟩) ?_)))))))))
 rintro ⟨s266,s270⟩ next271 hd c w hst
 obtain ⟨I272,p267,c268,hl273,hok,hsym⟩:=hst
 have le274:=IH.le.trans le214 hl273
 replace R3:=R3.mono hl273
 refine Cod.at hok hsym (.sr (.ks 1 r (.nilS [28,27,26,25,6] r r (.seq (.condP r hd (fun hb276 hd=>?_) fun hb276 hd=>?_)))))
 · refine .skipS [27,26,25,6] r r (.seq (.block (.sr ?_)))
   obtain ⟨h277,x278,hx279,hd⟩:=hd
   obtain ⟨b280,o281,cs282,e283,hC284,hr285⟩:=R3.2 _ _ hx279
   obtain ⟨p286,c287,rfl,R288⟩:=hr285
   refine .ixa underlying252 sz22 r e283 r h277 (idx_lt hx279 h277) r r (.ld1 (j:=0) ia22 hC284 r r r r r (.ks 1 r (.nilS [8,27,26,25,6] r r (.region (.ks 2 r ?_)))))
   obtain ⟨hl289,hd⟩:=hd
   refine .append (ys:=x278) 24 .z un22 un22 IN27 r r r r r r r r r (.imm R288 r) hl289 r r fun p290 c291=>?_
   exact .ks 1 r (.nilS [6,27,26,25] r r (.region (.ks 2 r (.nil' fun c w ho hs=>⟨((s266++x278),w64 (s270+1)),hd,I272,_,_,hl273,ho.sub ⟨r,r,r,r,trivial⟩,hs.pick (.c .z .n)⟩))))
 refine .exitS [6] r r (.sr (.ks 2 r (.nilS [2] r r (.pub .z fun I293 hl294 R295=>?_))))
 have le296:=IH.le.trans le274 hl294
 have le297:=IH.le.trans hl273 hl294
 exact .ret (pret results197 (.t r .n) le296 ⟨s266,_,_,r,R295,hd⟩)
theorem W_edges_turned_87e {I:IH} {a0:Edge} {Q:(Edge×Bool)→Prop}  (hd:edges_turned_87e a0 Q) :
  Fun prog 240 #[.agg (encEdge a0).toArray] I [] (fun I_ v l=>∃ r,v=.tuple #[.agg (encEdge r.1).toArray,.bool r.2]∧l=[]∧Q r):=by
 refine Fun.enter (vs:=[.agg (encEdge a0).toArray]) func240 r ntmps240 r (.c .n) fun w0 M=>?_
 refine .sr (.boxA r r r fun b5=>?_)
 refine .allocA zv27 r r fun b7=>?_
 refine .ks 1 r (.nilS [2,1] r r (.sr (.fa un27 r sz3 r (o:=1) r r r (.load1 ia3 r (.s .z) r r r (.fa un27 r sz3 r (o:=0) r r r (.load1 ia3 r (.s .z) r r r (.fa un27 r sz2 r (o:=2) r r r (.load1 ia2 r (.s .z) r r r (.build zv27 un27 BI27 (.c r r r (.t .nil) (.c r r r (.s (.t .nil)) (.c r r r (.s (.s (.t .nil))) .n))) (by exact ⟨⟨_,_,r,r,r⟩,⟨⟨_,_,r,r,r⟩,⟨⟨_,_,r,r,r⟩,trivial⟩⟩⟩) r r ?_)))))))))
 exact .storeA sz27 r r .z (.t (.t (.t .nil))) r r (.ks 1 r (.nilS [3,2] r r (.drop (.s .z) (.ret (oret results240 (.w ia27 sz27 r .z r (.t r .n)) (.refl _) .n ⟨(({ From:=a0.To,To:=a0.From,W:=a0.W }:Edge),true),r,r,hd⟩)))))
theorem W_edges_made_7c5 {I:IH} {a0:Graph} {p1:Option Addr} {c2:Nat} {Q:Graph→Prop} (R3:RepSl eEdge I p1 c2 a0.Edges) (hd:edges_made_7c5 a0 Q) :
  Fun prog 195 #[.agg #[.int .i64 a0.N,.slice p1 a0.Edges.length c2],.func (.func 240) #[] #[]] I [] (fun I_ v l=>∃ r p4 c5,v=.agg #[.int .i64 r.N,.slice p4 r.Edges.length c5]∧RepSl eEdge I_ p4 c5 r.Edges∧l=[]∧Q r):=by
 refine Fun.enter (vs:=[.agg #[.int .i64 a0.N,.slice p1 a0.Edges.length c2],.func (.func 240) #[] #[]]) func195 r ntmps195 r (.c (.c .n)) fun w0 M=>?_
 refine .sr (.boxA r r r fun b8=>?_)
 refine .allocA zv24 r r fun b10=>?_
 refine .nilS [4,2,1] r r (.sr (.ks 1 r (.nilS [5,4,2,1] r r (.seq (.sr (.fa un24 r sz22 r (o:=1) r r r (.load1 ia22 r (.s .z) r r r (.len un22 r r r r (.ks 1 r ?_)))))))))
 refine .nilS [13,12,11,5,4,2,1] r r (.block (.own0 eEdge 27 (.loop hd (fun (s:(List Edge)×Int) c w=>match s with | (s108,s112)=>∃ I_ p109 c110,IH.le I I_∧Ok ⟨34,[],none⟩ [(1,.func (.func 240) #[] #[]),(2,.pointer (some ⟨b8,0,none⟩)),(4,.pointer (some ⟨b10,0,none⟩)),(5,.slice p109 s108.length c110),(11,.slice p1 a0.Edges.length c2),(12,.int .i64 (a0.Edges.length:Int)),(13,.int .i64 s112)] c∧Sym w0 M I I_ [pto b8 (.cells #[.int .i64 a0.N,.slice p1 a0.Edges.length c2] 24 (0,0)),pto b10 (.cells #[.int .i64 0,.slice none 0 0] 24 (0,0)),OwnSl eEdge 27 p109 c110 s108] w) (fun c w ho hs=>⟨I,_,_,(.refl _),ho.sub ⟨r,r,r,r,r,r,r,trivial⟩,hs.pick (.c (.s (.s .z)) (.c (.s .z) (.c .z .n)))⟩) ?_)))
 rintro ⟨s108,s112⟩ next114 hd c w hst
 obtain ⟨I115,p109,c110,hl116,hok,hsym⟩:=hst
 replace R3:=R3.mono hl116
 refine Cod.at hok hsym (.sr (.ks 1 r (.nilS [14,13,12,11,5,4,2,1] r r (.seq (.condP r hd (fun hb118 hd=>?_) fun hb118 hd=>?_)))))
 · refine .skipS [13,12,11,5,4,2,1] r r (.seq (.block (.sr ?_)))
   obtain ⟨h130,x131,hx132,hd⟩:=hd
   obtain ⟨b133,o134,cs135,e136,hC137,hr138⟩:=R3.2 _ _ hx132
   cases hr138
   refine .ixa un22 sz27 r e136 r h130 (idx_lt hx132 h130) r r (.ldW ia27 sz27 hC137 r r r r (.allocA zv27 r r fun b139=>?_))
   refine .storeA sz27 r r .z (.t (.t (.t .nil))) r r (.nilS [7,13,12,11,5,4,2,1] r r (.sr (.ks 1 r (.loadW ia27 sz27 r .z r r r ?_))))
   have hw141:=W_edges_turned_87e (I:=I115) (a0:=x131) hd
   refine .callS (.c call240 r r) .n hw141 r r fun v145 I142 l146 hl143 hv144=>?_
   obtain ⟨r147,rfl,rfl,hd⟩:=hv144
   have le148:=IH.le.trans hl116 hl143
   replace R3:=R3.mono hl143
   refine .re (m':=[pto b139 (.cells #[.int .i64 x131.From,.int .i64 x131.To,.int .i64 x131.W] 27 (0,0)),pto b8 (.cells #[.int .i64 a0.N,.slice p1 a0.Edges.length c2] 24 (0,0)),pto b10 (.cells #[.int .i64 0,.slice none 0 0] 24 (0,0)),OwnSl eEdge 27 p109 c110 s108]) r (.ks 3 r (.allocA zv27 r r fun b149=>?_))
   refine .storeA sz27 r r .z (.t (.t (.t .nil))) r r (.ks 1 r (.nilS [9,8,13,12,11,5,4,2,1] r r (.drop (.s .z) (.sr (.ks 1 r (.nilS [23,8,13,12,11,5,4,2,1] r r (.condP r hd (fun hb151 hd=>?_) fun hb151 hd=>?_)))))))
   · refine .region (.ks 1 r (.loadW ia27 sz27 r .z r r r (.buildSlice 1 un22 sz27 zv27 r r (.c r r r .n) r r fun b152=>?_)))
     obtain ⟨hl154,hd⟩:=hd
     refine .append (ys:=[r147.1]) 24 (.s (.s (.s (.s .z)))) un22 un22 IN27 r r r r r r r r r (.box .z (.one r) r) hl154 r r fun p155 c156=>?_
     exact .ks 1 r (.nilS [5,13,12,11,4,2,1] r r (.drop (.s .z) (.drop (.s .z) (.region (.ks 2 r (.nil' fun c w ho hs=>⟨((s108++([r147.1])),w64 (s112+1)),hd,I142,_,_,le148,ho.sub ⟨r,r,r,r,r,r,r,trivial⟩,hs.pick (.c (.s .z) (.c (.s .z) (.c .z .n)))⟩))))))
   exact .skipS [13,12,11,5,4,2,1] r r (.drop .z (.region (.ks 2 r (.nil' fun c w ho hs=>⟨(s108,w64 (s112+1)),hd,I142,_,_,le148,ho.sub ⟨r,r,r,r,r,r,r,trivial⟩,hs.pick (.c .z (.c .z (.c .z .n)))⟩))))
 refine .exitS [5,4,2,1] r r (.sr (.fa un24 r sz3 r (o:=0) r r r (.load1 ia3 r .z r r r (.ks 1 r (.build zv24 un24 BI24 (.c r r r (.t .nil) (.c r r r (.s (.t .nil)) .n)) (by exact ⟨⟨_,_,r,r,r⟩,⟨⟨_,_,r,r,r⟩,trivial⟩⟩) r r (.pub (.s (.s .z)) fun I158 hl159 R160=>?_))))))
 have le161:=IH.le.trans hl116 hl159
 replace R3:=R3.mono hl159
 have hw171:=W_edges_Canon (I:=I158) (a0:=({ N:=a0.N,Edges:=s108 }:Graph)) R160 hd
 refine .call call131 r hw171 r r fun v166 I163 hl164 hv165=>?_
 obtain ⟨r162,p168,c169,rfl,R170,hd⟩:=hv165
 have le172:=IH.le.trans le161 hl164
 replace R3:=R3.mono hl164
 replace R160:=R160.mono hl164
 exact .storeA sz24 r r (.s .z) (.t (.t .nil)) r r (.nilS [4,1] r r (.drop .z (.ret (oret results195 (.w ia24 sz24 r .z r .n) le172 .n ⟨r162,_,_,r,R170,r,hd⟩))))
theorem W_edges_Turn {I:IH} {a0:Graph} {p1:Option Addr} {c2:Nat} {Q:Graph→Prop} (R3:RepSl eEdge I p1 c2 a0.Edges) (hd:edges_Turn a0 Q) :
  PFun prog 198 [.agg #[.int .i64 a0.N,.slice p1 a0.Edges.length c2]] I (o12_ Q):=by
 refine Fun.enter func198 r ntmps198 r (.c .n) fun w0 M=>?_
 refine .sr (.boxA r r r fun b7=>?_)
 refine .allocA zv24 r r fun b9=>?_
 refine .nilS [2,1] r r (.sr (.loadW ia24 sz24 r (.s .z) r r r ?_))
 have hw11:=W_edges_made_7c5 (I:=I) (a0:=a0) R3 hd
 refine .callS (.f call195 r) .n hw11 r r fun v15 I12 l16 hl13 hv14=>?_
 obtain ⟨r17,p18,c19,rfl,R20,rfl,hd⟩:=hv14
 replace R3:=R3.mono hl13
 exact .re (m':=[pto b9 (.cells #[.int .i64 0,.slice none 0 0] 24 (0,0)),pto b7 (.cells #[.int .i64 a0.N,.slice p1 a0.Edges.length c2] 24 (0,0))]) r (.storeA sz24 r r .z (.t (.t .nil)) r r (.nilS [2] r r (.drop (.s .z) (.ret (pret results198 (.w ia24 sz24 r .z r .n) hl13 ⟨r17,_,_,r,R20,hd⟩)))))
theorem W_edges_Both {I:IH} {a0:Graph} {p1:Option Addr} {c2:Nat} {Q:Graph→Prop} (R3:RepSl eEdge I p1 c2 a0.Edges) (hd:edges_Both a0 Q) :
  PFun prog 128 [.agg #[.int .i64 a0.N,.slice p1 a0.Edges.length c2]] I (o12_ Q):=by
 refine Fun.enter func128 r ntmps128 r (.c .n) fun w0 M=>?_
 refine .sr (.boxA r r r fun b11=>?_)
 refine .allocA zv24 r r fun b13=>?_
 refine .nilS [2,1] r r (.seq (.dr [0,1,2,3,4,5,6,7,8,9,10] 11 (.g r r r (fun _=>.fa un24 r sz3 r (o:=0) r r r .mk) (.g r r r (fun _=>.load1 ia3 r (.s .z) r r r .mk) (.g r r r (fun _=>.fa un24 r sz22 r (o:=1) r r r .mk) (.g r r r (fun _=>.load1 ia22 r (.s .z) r r r .mk) (.g r r r (fun _=>.loadW ia24 sz24 r (.s .z) r r r .mk) (.ww r fun ex=>?_))))))))
 have hw24:=W_edges_Turn (I:=I) R3 hd
 refine .call call198 r hw24 r r fun v19 I16 hl17 hv18=>?_
 obtain ⟨r15,p21,c22,rfl,R23,hd⟩:=hv18
 replace R3:=R3.mono hl17
 refine .so 2 r r r (.cg r r r r (fun _=>.load1 ia22 r (.s .z) r r r .mk) (.cg r r r r (fun _=>.fa un24 r sz22 r (o:=1) r r r .mk) (.cg r r r r (fun _=>.load1 ia3 r (.s .z) r r r .mk) (.cg r r r r (fun _=>.fa un24 r sz3 r (o:=0) r r r .mk) trivial)))) (.g r r r (fun _=>.field1 un24 r ia22 r r r r .mk) (.ww r fun ex=>?_))
 refine .buildSlice 2 underlying252 sz22 zeroValue22 r r (.c r r r (.c r r r .n)) r r fun b25=>?_
 refine .so 3 r r r (.cg r r r r (fun _=>.load1 ia3 r (.s (.s .z)) r r r .mk) (.cg r r r r (fun _=>.fa un24 r sz3 r (o:=0) r r r .mk) trivial)) (.ww r fun ex=>?_)
 refine .pubB (El:=(slEl eEdge)) (ys:=([a0.Edges,r15.Edges]:List (List Edge))) (k:=2) .z (RepCs.cons (cs:=[.slice p1 a0.Edges.length c2]) ⟨_,_,r,R3⟩ (RepCs.cons (cs:=[.slice p21 r15.Edges.length c22]) ⟨_,_,r,R23⟩ .nil)) r fun I27 hl28 R29=>?_
 have le30:=IH.le.trans hl17 hl28
 replace R3:=R3.mono hl28
 replace R23:=R23.mono hl28
 have hw40:=W_slices_Concat_api_Edge_api_Edge (I:=I27) R29 hd
 refine .call call197 r hw40 r r fun v35 I32 hl33 hv34=>?_
 obtain ⟨r31,p37,c38,rfl,R39,hd⟩:=hv34
 have le41:=IH.le.trans le30 hl33
 replace R3:=R3.mono hl33
 replace R23:=R23.mono hl33
 replace R29:=R29.mono hl33
 refine .so 2 r r r (.cg r r r r (fun _=>.load1 ia3 r (.s .z) r r r .mk) (.cg r r r r (fun _=>.fa un24 r sz3 r (o:=0) r r r .mk) trivial)) (.g r r r (fun _=>.build zv24 un24 BI24 (.c r r r (.t .nil) (.c r r r (.s (.t .nil)) .n)) (by exact ⟨⟨_,_,r,r,r⟩,⟨⟨_,_,r,r,r⟩,trivial⟩⟩) r r .mk) (.ww r fun ex=>?_))
 have hw51:=W_edges_Canon (I:=I32) (a0:=({ N:=a0.N,Edges:=r31 }:Graph)) R39 hd
 refine .call call131 r hw51 r r fun v46 I43 hl44 hv45=>?_
 obtain ⟨r42,p48,c49,rfl,R50,hd⟩:=hv45
 have le52:=IH.le.trans le41 hl44
 replace R3:=R3.mono hl44
 replace R23:=R23.mono hl44
 replace R29:=R29.mono hl44
 replace R39:=R39.mono hl44
 exact .so 2 r r r trivial (.e2 11 (.storeA sz24 r r .z (.t (.t .nil)) r r (.nilS [2] r r (.drop (.s .z) (.ret (pret results128 (.w ia24 sz24 r .z r .n) le52 ⟨r42,_,_,r,R50,hd⟩))))))
theorem W_edges_Plain_1_3d5 {I:IH} {a0:Edge} {Q:(Edge×Bool)→Prop}  (hd:edges_Plain_1_3d5 a0 Q) :
  Fun prog 199 #[.agg (encEdge a0).toArray] I [] (fun I_ v l=>∃ r,v=.tuple #[.agg (encEdge r.1).toArray,.bool r.2]∧l=[]∧Q r):=by
 refine Fun.enter (vs:=[.agg (encEdge a0).toArray]) func199 r ntmps199 r (.c .n) fun w0 M=>?_
 refine .sr (.boxA r r r fun b1=>?_)
 refine .allocA zv27 r r fun b3=>?_
 refine .ks 1 r (.nilS [2,1] r r (.sr (.fa un27 r sz2 r (o:=2) r r r (.store1 sz2 r r (.s .z) (.s (.s (.t .nil))) r (.nilS [2,1] r r (.sr (.loadW ia27 sz27 r (.s .z) r r r (.storeA sz27 r r .z (.t (.t (.t .nil))) r r (.ks 1 r ?_)))))))))
 exact .nilS [3,2] r r (.drop (.s .z) (.ret (oret results199 (.w ia27 sz27 r .z r (.t r .n)) (.refl _) .n ⟨(({ From:=a0.From,To:=a0.To,W:=1 }:Edge),true),r,r,hd⟩)))
theorem W_edges_made_56f {I:IH} {a0:Graph} {p1:Option Addr} {c2:Nat} {Q:Graph→Prop} (R3:RepSl eEdge I p1 c2 a0.Edges) (hd:edges_made_56f a0 Q) :
  Fun prog 195 #[.agg #[.int .i64 a0.N,.slice p1 a0.Edges.length c2],.func (.func 199) #[] #[]] I [] (fun I_ v l=>∃ r p4 c5,v=.agg #[.int .i64 r.N,.slice p4 r.Edges.length c5]∧RepSl eEdge I_ p4 c5 r.Edges∧l=[]∧Q r):=by
 refine Fun.enter (vs:=[.agg #[.int .i64 a0.N,.slice p1 a0.Edges.length c2],.func (.func 199) #[] #[]]) func195 r ntmps195 r (.c (.c .n)) fun w0 M=>?_
 refine .sr (.boxA r r r fun b8=>?_)
 refine .allocA zv24 r r fun b10=>?_
 refine .nilS [4,2,1] r r (.sr (.ks 1 r (.nilS [5,4,2,1] r r (.seq (.sr (.fa un24 r sz22 r (o:=1) r r r (.load1 ia22 r (.s .z) r r r (.len un22 r r r r (.ks 1 r ?_)))))))))
 refine .nilS [13,12,11,5,4,2,1] r r (.block (.own0 eEdge 27 (.loop hd (fun (s:(List Edge)×Int) c w=>match s with | (s108,s112)=>∃ I_ p109 c110,IH.le I I_∧Ok ⟨34,[],none⟩ [(1,.func (.func 199) #[] #[]),(2,.pointer (some ⟨b8,0,none⟩)),(4,.pointer (some ⟨b10,0,none⟩)),(5,.slice p109 s108.length c110),(11,.slice p1 a0.Edges.length c2),(12,.int .i64 (a0.Edges.length:Int)),(13,.int .i64 s112)] c∧Sym w0 M I I_ [pto b8 (.cells #[.int .i64 a0.N,.slice p1 a0.Edges.length c2] 24 (0,0)),pto b10 (.cells #[.int .i64 0,.slice none 0 0] 24 (0,0)),OwnSl eEdge 27 p109 c110 s108] w) (fun c w ho hs=>⟨I,_,_,(.refl _),ho.sub ⟨r,r,r,r,r,r,r,trivial⟩,hs.pick (.c (.s (.s .z)) (.c (.s .z) (.c .z .n)))⟩) ?_)))
 rintro ⟨s108,s112⟩ next114 hd c w hst
 obtain ⟨I115,p109,c110,hl116,hok,hsym⟩:=hst
 replace R3:=R3.mono hl116
 refine Cod.at hok hsym (.sr (.ks 1 r (.nilS [14,13,12,11,5,4,2,1] r r (.seq (.condP r hd (fun hb118 hd=>?_) fun hb118 hd=>?_)))))
 · refine .skipS [13,12,11,5,4,2,1] r r (.seq (.block (.sr ?_)))
   obtain ⟨h130,x131,hx132,hd⟩:=hd
   obtain ⟨b133,o134,cs135,e136,hC137,hr138⟩:=R3.2 _ _ hx132
   cases hr138
   refine .ixa un22 sz27 r e136 r h130 (idx_lt hx132 h130) r r (.ldW ia27 sz27 hC137 r r r r (.allocA zv27 r r fun b139=>?_))
   refine .storeA sz27 r r .z (.t (.t (.t .nil))) r r (.nilS [7,13,12,11,5,4,2,1] r r (.sr (.ks 1 r (.loadW ia27 sz27 r .z r r r ?_))))
   have hw141:=W_edges_Plain_1_3d5 (I:=I115) (a0:=x131) hd
   refine .callS (.c call199 r r) .n hw141 r r fun v145 I142 l146 hl143 hv144=>?_
   obtain ⟨r147,rfl,rfl,hd⟩:=hv144
   have le148:=IH.le.trans hl116 hl143
   replace R3:=R3.mono hl143
   refine .re (m':=[pto b139 (.cells #[.int .i64 x131.From,.int .i64 x131.To,.int .i64 x131.W] 27 (0,0)),pto b8 (.cells #[.int .i64 a0.N,.slice p1 a0.Edges.length c2] 24 (0,0)),pto b10 (.cells #[.int .i64 0,.slice none 0 0] 24 (0,0)),OwnSl eEdge 27 p109 c110 s108]) r (.ks 3 r (.allocA zv27 r r fun b149=>?_))
   refine .storeA sz27 r r .z (.t (.t (.t .nil))) r r (.ks 1 r (.nilS [9,8,13,12,11,5,4,2,1] r r (.drop (.s .z) (.sr (.ks 1 r (.nilS [23,8,13,12,11,5,4,2,1] r r (.condP r hd (fun hb151 hd=>?_) fun hb151 hd=>?_)))))))
   · refine .region (.ks 1 r (.loadW ia27 sz27 r .z r r r (.buildSlice 1 un22 sz27 zv27 r r (.c r r r .n) r r fun b152=>?_)))
     obtain ⟨hl154,hd⟩:=hd
     refine .append (ys:=[r147.1]) 24 (.s (.s (.s (.s .z)))) un22 un22 IN27 r r r r r r r r r (.box .z (.one r) r) hl154 r r fun p155 c156=>?_
     exact .ks 1 r (.nilS [5,13,12,11,4,2,1] r r (.drop (.s .z) (.drop (.s .z) (.region (.ks 2 r (.nil' fun c w ho hs=>⟨((s108++([r147.1])),w64 (s112+1)),hd,I142,_,_,le148,ho.sub ⟨r,r,r,r,r,r,r,trivial⟩,hs.pick (.c (.s .z) (.c (.s .z) (.c .z .n)))⟩))))))
   exact .skipS [13,12,11,5,4,2,1] r r (.drop .z (.region (.ks 2 r (.nil' fun c w ho hs=>⟨(s108,w64 (s112+1)),hd,I142,_,_,le148,ho.sub ⟨r,r,r,r,r,r,r,trivial⟩,hs.pick (.c .z (.c .z (.c .z .n)))⟩))))
 refine .exitS [5,4,2,1] r r (.sr (.fa un24 r sz3 r (o:=0) r r r (.load1 ia3 r .z r r r (.ks 1 r (.build zv24 un24 BI24 (.c r r r (.t .nil) (.c r r r (.s (.t .nil)) .n)) (by exact ⟨⟨_,_,r,r,r⟩,⟨⟨_,_,r,r,r⟩,trivial⟩⟩) r r (.pub (.s (.s .z)) fun I158 hl159 R160=>?_))))))
 have le161:=IH.le.trans hl116 hl159
 replace R3:=R3.mono hl159
 have hw171:=W_edges_Canon (I:=I158) (a0:=({ N:=a0.N,Edges:=s108 }:Graph)) R160 hd
 refine .call call131 r hw171 r r fun v166 I163 hl164 hv165=>?_
 obtain ⟨r162,p168,c169,rfl,R170,hd⟩:=hv165
 have le172:=IH.le.trans le161 hl164
 replace R3:=R3.mono hl164
 replace R160:=R160.mono hl164
 exact .storeA sz24 r r (.s .z) (.t (.t .nil)) r r (.nilS [4,1] r r (.drop .z (.ret (oret results195 (.w ia24 sz24 r .z r .n) le172 .n ⟨r162,_,_,r,R170,r,hd⟩))))
theorem W_edges_Plain {I:IH} {a0:Graph} {p1:Option Addr} {c2:Nat} {Q:Graph→Prop} (R3:RepSl eEdge I p1 c2 a0.Edges) (hd:edges_Plain a0 Q) :
  PFun prog 129 [.agg #[.int .i64 a0.N,.slice p1 a0.Edges.length c2]] I (o12_ Q):=by
 refine Fun.enter func129 r ntmps129 r (.c .n) fun w0 M=>?_
 refine .sr (.boxA r r r fun b7=>?_)
 refine .allocA zv24 r r fun b9=>?_
 refine .nilS [2,1] r r (.sr (.loadW ia24 sz24 r (.s .z) r r r ?_))
 have hw11:=W_edges_made_56f (I:=I) (a0:=a0) R3 hd
 refine .callS (.f call195 r) .n hw11 r r fun v15 I12 l16 hl13 hv14=>?_
 obtain ⟨r17,p18,c19,rfl,R20,rfl,hd⟩:=hv14
 replace R3:=R3.mono hl13
 exact .re (m':=[pto b9 (.cells #[.int .i64 0,.slice none 0 0] 24 (0,0)),pto b7 (.cells #[.int .i64 a0.N,.slice p1 a0.Edges.length c2] 24 (0,0))]) r (.storeA sz24 r r .z (.t (.t .nil)) r r (.nilS [2] r r (.drop (.s .z) (.ret (pret results129 (.w ia24 sz24 r .z r .n) hl13 ⟨r17,_,_,r,R20,hd⟩)))))
theorem W_csr_Graph {I:IH} {a0:Graph} {p1:Option Addr} {c2:Nat} {Q:(Rows×Int)→Prop} (R3:RepSl eEdge I p1 c2 a0.Edges) (hd:csr_Graph a0 Q) :
  PFun prog 130 [.agg #[.int .i64 a0.N,.slice p1 a0.Edges.length c2]] I (o7_ Q):=by
 refine Fun.enter func130 r ntmps130 r (.c .n) fun w0 M=>?_
 refine .sr (.boxA r r r fun b17=>?_)
 refine .allocA zv32 r r fun b19=>?_
 refine .ks 1 r (.nilS [2,1] r r (.seq (.sr (.loadW ia24 sz24 r (.s .z) r r r ?_))))
 have hw35:=W_edges_Right (I:=I) R3 hd
 refine .callP call126 r hw35 r r fun v36 hv37=>?_
 obtain ⟨r34,rfl,hd⟩:=hv37
 refine .ks 1 r (.nilS [4,2,1] r r (.sr (.ks 2 r (.nilS [11,4,2,1] r r (.condP r hd (fun hb38 hd=>?_) fun hb38 hd=>?_)))))
 · exact .sr (.build zv32 un32 BI32 .n (by exact trivial) r r (.ks 1 r (.storeA sz32 r r .z (.t (.t (.t (.t (.t .nil))))) r r (.ks 1 r (.nilS [3,2] r r (.drop (.s .z) (.ret (pret results130 (.w ia32 sz32 r .z r (.t r .n)) (.refl _) ⟨(({ Rows:=0,Cols:=0,Start:=([]:List Int),Col:=([]:List Int),Val:=([]:List Int) }:Rows),r34),_,_,_,_,_,_,r,(.nil _ _ _),(.nil _ _ _),(.nil _ _ _),hd⟩))))))))
 refine .skipS [2,1] r r (.sr (.ks 1 r (.nilS [5,2,1] r r (.seq (.sr (.loadW ia24 sz24 r (.s .z) r r r ?_))))))
 have hw58:=W_edges_Turn (I:=I) R3 hd
 refine .call call198 r hw58 r r fun v53 I50 hl51 hv52=>?_
 obtain ⟨r49,p55,c56,rfl,R57,hd⟩:=hv52
 replace R3:=R3.mono hl51
 refine .field1 un24 r ia22 r r r r (.len un22 r r r r (.ks 1 r (.nilS [18,17,16,5,2,1] r r (.block (.own0 eTriple 101 (.loop hd (fun (s:(List Triple)×Int) c w=>match s with | (s135,s139)=>∃ I_ p136 c137,IH.le I50 I_∧Ok ⟨39,[],none⟩ [(1,.pointer (some ⟨b17,0,none⟩)),(2,.pointer (some ⟨b19,0,none⟩)),(5,.slice p136 s135.length c137),(16,.slice p55 r49.Edges.length c56),(17,.int .i64 (r49.Edges.length:Int)),(18,.int .i64 s139)] c∧Sym w0 M I I_ [pto b17 (.cells #[.int .i64 a0.N,.slice p1 a0.Edges.length c2] 24 (0,0)),pto b19 (.cells #[.int .i64 0,.int .i64 0,.slice none 0 0,.slice none 0 0,.slice none 0 0] 32 (0,0)),OwnSl eTriple 101 p136 c137 s135] w) (fun c w ho hs=>⟨I50,_,_,(.refl _),ho.sub ⟨r,r,r,r,r,r,trivial⟩,hs.pick (.c (.s (.s .z)) (.c (.s .z) (.c .z .n)))⟩) ?_))))))
 rintro ⟨s135,s139⟩ next141 hd c w hst
 obtain ⟨I142,p136,c137,hl143,hok,hsym⟩:=hst
 have le144:=IH.le.trans hl51 hl143
 replace R3:=R3.mono hl143
 replace R57:=R57.mono hl143
 refine Cod.at hok hsym (.sr (.ks 1 r (.nilS [19,18,17,16,5,2,1] r r (.seq (.condP r hd (fun hb146 hd=>?_) fun hb146 hd=>?_)))))
 · refine .skipS [18,17,16,5,2,1] r r (.seq (.block (.sr ?_)))
   obtain ⟨h158,x159,hx160,hd⟩:=hd
   obtain ⟨b161,o162,cs163,e164,hC165,hr166⟩:=R57.2 _ _ hx160
   cases hr166
   refine .ixa un22 sz27 r e164 r h158 (idx_lt hx160 h158) r r (.ldW ia27 sz27 hC165 r r r r (.allocA zv27 r r fun b167=>?_))
   refine .storeA sz27 r r .z (.t (.t (.t .nil))) r r (.nilS [7,18,17,16,5,2,1] r r (.region (.ks 1 r (.fa un27 r sz3 r (o:=0) r r r (.load1 ia3 r .z r r r (.fa un27 r sz3 r (o:=1) r r r (.load1 ia3 r .z r r r (.fa un27 r sz2 r (o:=2) r r r (.load1 ia2 r .z r r r ?_)))))))))
   refine .build zv101 un101 BI101 (.c r r r (.t .nil) (.c r r r (.s (.t .nil)) (.c r r r (.s (.s (.t .nil))) .n))) (by exact ⟨⟨_,_,r,r,r⟩,⟨⟨_,_,r,r,r⟩,⟨⟨_,_,r,r,r⟩,trivial⟩⟩⟩) r r (.buildSlice 1 un99 sz101 zv101 r r (.c r r r .n) r r fun b169=>?_)
   obtain ⟨hl171,hd⟩:=hd
   refine .append (ys:=[({ Row:=x159.From,Col:=x159.To,Val:=x159.W }:Triple)]) 24 (.s (.s (.s (.s .z)))) un99 un99 IN101 r r r r r r r r r (.box .z (.one r) r) hl171 r r fun p172 c173=>?_
   exact .ks 1 r (.nilS [5,18,17,16,2,1] r r (.drop (.s .z) (.drop (.s .z) (.region (.ks 2 r (.nil' fun c w ho hs=>⟨((s135++([({ Row:=x159.From,Col:=x159.To,Val:=x159.W }:Triple)])),w64 (s139+1)),hd,I142,_,_,hl143,ho.sub ⟨r,r,r,r,r,r,trivial⟩,hs.pick (.c (.s .z) (.c (.s .z) (.c .z .n)))⟩))))))
 refine .exitS [5,2,1] r r (.sr (.fa un24 r sz3 r (o:=0) r r r (.load1 ia3 r .z r r r (.fa un24 r sz3 r (o:=0) r r r (.load1 ia3 r .z r r r (.ks 1 r (.pub (.s (.s .z)) fun I175 hl176 R177=>?_)))))))
 have le178:=IH.le.trans le144 hl176
 have le179:=IH.le.trans hl143 hl176
 replace R3:=R3.mono hl176
 have hw195:=W_csr_built (I:=I175) R177 hd
 refine .call call176 r hw195 r r fun v184 I181 hl182 hv183=>?_
 obtain ⟨r180,p186,c187,p189,c190,p192,c193,rfl,R188,R191,R194,hd⟩:=hv183
 have le196:=IH.le.trans le178 hl182
 have le197:=IH.le.trans le179 hl182
 replace R3:=R3.mono hl182
 replace R177:=R177.mono hl182
 exact .storeA sz32 r r (.s .z) (.t (.t (.t (.t (.t .nil))))) r r (.ks 1 r (.nilS [3,2] r r (.drop .z (.ret (pret results130 (.w ia32 sz32 r .z r (.t r .n)) le196 ⟨(r180,0),_,_,_,_,_,_,r,R188,R191,R194,hd⟩)))))
theorem W_prog_Matrix {I:IH} {a0:Plan} {a1:Graph} {p1:Option Addr} {c2:Nat} {p4:Option Addr} {c5:Nat} {Q:(Rows×Int)→Prop} (R3:RepSl eI64 I p1 c2 a0.Draws) (R6:RepSl eEdge I p4 c5 a1.Edges) (hd:prog_Matrix a0 a1 Q) :
  PFun prog 64 [.agg #[.int .i64 a0.Kind,.int .i64 a0.N,.int .i64 a0.Source,.int .i64 a0.Length,.slice p1 a0.Draws.length c2],.agg #[.int .i64 a1.N,.slice p4 a1.Edges.length c5]] I (o14_ Q):=by
 refine Fun.enter func64 r ntmps64 r (.c (.c .n)) fun w0 M=>?_
 refine .sr (.boxA r r r fun b22=>?_)
 refine .boxA r r r fun b24=>?_
 refine .allocA zv32 r r fun b26=>?_
 refine .ks 1 r (.nilS [4,3,2] r r (.seq (.sr (.loadW ia49 sz49 r (.s (.s .z)) r r r ?_))))
 have hw42:=W_prog_Right (I:=I) R3 hd
 refine .callP call95 r hw42 r r fun v43 hv44=>?_
 obtain ⟨r41,rfl,hd⟩:=hv44
 refine .ks 1 r (.nilS [6,4,3,2] r r (.sr (.ks 2 r (.nilS [11,6,4,3,2] r r (.condP r hd (fun hb45 hd=>?_) fun hb45 hd=>?_)))))
 · exact .sr (.build zv32 un32 BI32 .n (by exact trivial) r r (.ks 1 r (.storeA sz32 r r .z (.t (.t (.t (.t (.t .nil))))) r r (.ks 1 r (.nilS [5,4] r r (.drop (.s .z) (.drop (.s .z) (.ret (pret results64 (.w ia32 sz32 r .z r (.t r .n)) (.refl _) ⟨(({ Rows:=0,Cols:=0,Start:=([]:List Int),Col:=([]:List Int),Val:=([]:List Int) }:Rows),r41),_,_,_,_,_,_,r,(.nil _ _ _),(.nil _ _ _),(.nil _ _ _),hd⟩)))))))))
 refine .skipS [4,3,2] r r (.seq (.sr (.fa un24 r sz3 r (o:=0) r r r (.load1 ia3 r (.s .z) r r r (.fa un49 r sz3 r (o:=1) r r r (.load1 ia3 r (.s (.s .z)) r r r (.ks 1 r (.nilS [18,4,3,2] r r (.condP r hd (fun hb47 hd=>?_) fun hb47 hd=>?_)))))))))
 · exact .sr (.build zv32 un32 BI32 .n (by exact trivial) r r (.storeA sz32 r r .z (.t (.t (.t (.t (.t .nil))))) r r (.ks 1 r (.nilS [5,4] r r (.drop (.s .z) (.drop (.s .z) (.ret (pret results64 (.w ia32 sz32 r .z r (.t r .n)) (.refl _) ⟨(({ Rows:=0,Cols:=0,Start:=([]:List Int),Col:=([]:List Int),Val:=([]:List Int) }:Rows),4),_,_,_,_,_,_,r,(.nil _ _ _),(.nil _ _ _),(.nil _ _ _),hd⟩))))))))
 refine .skipS [4,3,2] r r (.seq (.sr (.loadW ia24 sz24 r (.s .z) r r r ?_)))
 have hw62:=W_edges_Right (I:=I) R6 hd
 refine .callP call126 r hw62 r r fun v63 hv64=>?_
 obtain ⟨r61,rfl,hd⟩:=hv64
 refine .ks 1 r (.nilS [7,4,3,2] r r (.sr (.ks 2 r (.nilS [23,7,4,3,2] r r (.condP r hd (fun hb65 hd=>?_) fun hb65 hd=>?_)))))
 · exact .sr (.build zv32 un32 BI32 .n (by exact trivial) r r (.ks 1 r (.storeA sz32 r r .z (.t (.t (.t (.t (.t .nil))))) r r (.ks 1 r (.nilS [5,4] r r (.drop (.s .z) (.drop (.s .z) (.ret (pret results64 (.w ia32 sz32 r .z r (.t r .n)) (.refl _) ⟨(({ Rows:=0,Cols:=0,Start:=([]:List Int),Col:=([]:List Int),Val:=([]:List Int) }:Rows),r61),_,_,_,_,_,_,r,(.nil _ _ _),(.nil _ _ _),(.nil _ _ _),hd⟩)))))))))
 refine .skipS [4,3,2] r r (.seq (.sr (.fa un49 r sz47 r (o:=0) r r r (.load1 ia47 r (.s (.s .z)) r r r (.nilS [27,4,3] r r (.drop (.s (.s .z)) (.block (.seq (.block ?_)))))))))
 refine .seq (.block (.seq (.block (.seq (.seq (.sr (.ks 2 r (.nilS [28,27,4,3] r r (.condP r hd (fun hb67 hd=>?_) fun hb67 hd=>?_)))))))))
 · refine .exitS [4,3] r r (.region (.loadW ia24 sz24 r (.s .z) r r r ?_))
   have hw77:=W_edges_Simple (I:=I) R6 hd
   refine .call call127 r hw77 r r fun v72 I69 hl70 hv71=>?_
   obtain ⟨r68,p74,c75,rfl,R76,hd⟩:=hv71
   replace R6:=R6.mono hl70
   refine .storeA sz24 r r (.s .z) (.t (.t .nil)) r r (.nilS [4,3] r r (.region (.loadW ia24 sz24 r (.s .z) r r r ?_)))
   have hw87:=W_edges_Both (I:=I69) R76 hd
   refine .call call128 r hw87 r r fun v82 I79 hl80 hv81=>?_
   obtain ⟨r78,p84,c85,rfl,R86,hd⟩:=hv81
   have le88:=IH.le.trans hl70 hl80
   replace R76:=R76.mono hl80
   refine .storeA sz24 r r (.s .z) (.t (.t .nil)) r r (.nilS [4,3] r r (.sr (.loadW ia24 sz24 r (.s .z) r r r ?_)))
   have hw98:=W_edges_Plain (I:=I79) R86 hd
   refine .call call129 r hw98 r r fun v93 I90 hl91 hv92=>?_
   obtain ⟨r89,p95,c96,rfl,R97,hd⟩:=hv92
   have le99:=IH.le.trans le88 hl91
   replace R86:=R86.mono hl91
   refine .storeA sz24 r r (.s .z) (.t (.t .nil)) r r (.nilS [4,3] r r (.exitS [4,3] r r (.sr (.loadW ia24 sz24 r (.s .z) r r r ?_))))
   have hw115:=W_csr_Graph (I:=I90) R97 hd
   refine .call call130 r hw115 r r fun v104 I101 hl102 hv103=>?_
   obtain ⟨r100,p106,c107,p109,c110,p112,c113,rfl,R108,R111,R114,hd⟩:=hv103
   have le116:=IH.le.trans le99 hl102
   replace R97:=R97.mono hl102
   exact .ks 2 r (.storeA sz32 r r .z (.t (.t (.t (.t (.t .nil))))) r r (.ks 1 r (.nilS [5,4] r r (.drop (.s .z) (.ret (pret results64 (.w ia32 sz32 r .z r (.t r .n)) le116 ⟨(r100.1,r100.2),_,_,_,_,_,_,r,R108,R111,R114,hd⟩))))))
 refine .skipS [27,4,3] r r (.seq (.sr (.ks 2 r (.nilS [30,27,4,3] r r (.condP r hd (fun hb117 hd=>?_) fun hb117 hd=>?_)))))
 · refine .exitS [4,3] r r (.region (.loadW ia24 sz24 r (.s .z) r r r ?_))
   have hw127:=W_edges_Both (I:=I) R6 hd
   refine .call call128 r hw127 r r fun v122 I119 hl120 hv121=>?_
   obtain ⟨r118,p124,c125,rfl,R126,hd⟩:=hv121
   replace R6:=R6.mono hl120
   refine .storeA sz24 r r (.s .z) (.t (.t .nil)) r r (.nilS [4,3] r r (.sr (.loadW ia24 sz24 r (.s .z) r r r ?_)))
   have hw137:=W_edges_Plain (I:=I119) R126 hd
   refine .call call129 r hw137 r r fun v132 I129 hl130 hv131=>?_
   obtain ⟨r128,p134,c135,rfl,R136,hd⟩:=hv131
   have le138:=IH.le.trans hl120 hl130
   replace R126:=R126.mono hl130
   refine .storeA sz24 r r (.s .z) (.t (.t .nil)) r r (.nilS [4,3] r r (.exitS [4,3] r r (.sr (.loadW ia24 sz24 r (.s .z) r r r ?_))))
   have hw154:=W_csr_Graph (I:=I129) R136 hd
   refine .call call130 r hw154 r r fun v143 I140 hl141 hv142=>?_
   obtain ⟨r139,p145,c146,p148,c149,p151,c152,rfl,R147,R150,R153,hd⟩:=hv142
   have le155:=IH.le.trans le138 hl141
   replace R136:=R136.mono hl141
   exact .ks 2 r (.storeA sz32 r r .z (.t (.t (.t (.t (.t .nil))))) r r (.ks 1 r (.nilS [5,4] r r (.drop (.s .z) (.ret (pret results64 (.w ia32 sz32 r .z r (.t r .n)) le155 ⟨(r139.1,r139.2),_,_,_,_,_,_,r,R147,R150,R153,hd⟩))))))
 refine .skipS [27,4,3] r r (.sr (.ks 2 r (.nilS [32,4,3] r r (.condP r hd (fun hb156 hd=>?_) fun hb156 hd=>?_))))
 · refine .exitS [4,3] r r (.sr (.loadW ia24 sz24 r (.s .z) r r r ?_))
   have hw166:=W_edges_Plain (I:=I) R6 hd
   refine .call call129 r hw166 r r fun v161 I158 hl159 hv160=>?_
   obtain ⟨r157,p163,c164,rfl,R165,hd⟩:=hv160
   replace R6:=R6.mono hl159
   refine .storeA sz24 r r (.s .z) (.t (.t .nil)) r r (.nilS [4,3] r r (.exitS [4,3] r r (.sr (.loadW ia24 sz24 r (.s .z) r r r ?_))))
   have hw182:=W_csr_Graph (I:=I158) R165 hd
   refine .call call130 r hw182 r r fun v171 I168 hl169 hv170=>?_
   obtain ⟨r167,p173,c174,p176,c177,p179,c180,rfl,R175,R178,R181,hd⟩:=hv170
   have le183:=IH.le.trans hl159 hl169
   replace R165:=R165.mono hl169
   exact .ks 2 r (.storeA sz32 r r .z (.t (.t (.t (.t (.t .nil))))) r r (.ks 1 r (.nilS [5,4] r r (.drop (.s .z) (.ret (pret results64 (.w ia32 sz32 r .z r (.t r .n)) le183 ⟨(r167.1,r167.2),_,_,_,_,_,_,r,R175,R178,R181,hd⟩))))))
 refine .skipS [4,3] r r (.exitS [4,3] r r (.sr (.loadW ia24 sz24 r (.s .z) r r r ?_)))
 have hw199:=W_csr_Graph (I:=I) R6 hd
 refine .call call130 r hw199 r r fun v188 I185 hl186 hv187=>?_
 obtain ⟨r184,p190,c191,p193,c194,p196,c197,rfl,R192,R195,R198,hd⟩:=hv187
 replace R6:=R6.mono hl186
 exact .ks 2 r (.storeA sz32 r r .z (.t (.t (.t (.t (.t .nil))))) r r (.ks 1 r (.nilS [5,4] r r (.drop (.s .z) (.ret (pret results64 (.w ia32 sz32 r .z r (.t r .n)) hl186 ⟨(r184.1,r184.2),_,_,_,_,_,_,r,R192,R195,R198,hd⟩))))))
theorem W_model_Check {I:IH} {a0:Plan} {a1:Graph} {a2:Int} {p1:Option Addr} {c2:Nat} {p4:Option Addr} {c5:Nat} {Q:Int→Prop} (R3:RepSl eI64 I p1 c2 a0.Draws) (R6:RepSl eEdge I p4 c5 a1.Edges) (hd:model_Check a0 a1 a2 Q) :
  PFun prog 47 [.agg #[.int .i64 a0.Kind,.int .i64 a0.N,.int .i64 a0.Source,.int .i64 a0.Length,.slice p1 a0.Draws.length c2],.agg #[.int .i64 a1.N,.slice p4 a1.Edges.length c5],.int .i64 a2] I (fun _=>o0_ Q):=by
 refine Fun.enter func47 r ntmps47 r (.c (.c (.c .n))) fun w0 M=>?_
 refine .sr (.boxA r r r fun b11=>?_)
 refine .boxA r r r fun b13=>?_
 refine .ks 1 r (.nilS [4,3,2] r r (.seq (.sr (.loadW ia49 sz49 r (.s .z) r r r (.loadW ia24 sz24 r .z r r r ?_)))))
 have hw49:=W_prog_Matrix (I:=I) R3 R6 hd
 refine .call call64 r hw49 r r fun v38 I35 hl36 hv37=>?_
 obtain ⟨r34,p40,c41,p43,c44,p46,c47,rfl,R42,R45,R48,hd⟩:=hv37
 replace R3:=R3.mono hl36
 replace R6:=R6.mono hl36
 refine .ks 3 r (.allocA zv32 r r fun b50=>?_)
 refine .storeA sz32 r r .z (.t (.t (.t (.t (.t .nil))))) r r (.ks 1 r (.nilS [8,2] r r (.drop .z (.drop .z (.drop .z (.sr (.ks 2 r (.nilS [16,8,2] r r (.condP r hd (fun hb52 hd=>?_) fun hb52 hd=>?_)))))))))
 · exact .sr (.ks 2 r (.nilS [6] r r (.ret (pret results47 (.t r .n) hl36 ⟨r34.2,r,hd⟩))))
 refine .skipS [2] r r (.seq (.sr (.ks 3 r ?_)))
 refine splitP hd (fun hb53 hd=>?_) fun hb53 hd=>?_
 · rw [hb53]
   exact .ks 3 r (.nilS [23] r r (.condKT r r (.sr (.ks 1 r (.nilS [6] r r (.ret (pret results47 (.t r .n) hl36 ⟨3,r,hd⟩)))))))
 rw [hb53]
 refine .ks 3 r (.nilS [23] r r (.condP r hd (fun hb54 hd=>?_) fun hb54 hd=>?_))
 · exact .sr (.ks 1 r (.nilS [6] r r (.ret (pret results47 (.t r .n) hl36 ⟨3,r,hd⟩))))
 exact .skipS [] r r (.sr (.ks 1 r (.nilS [6] r r (.ret (pret results47 (.t r .n) hl36 ⟨0,r,hd⟩)))))
theorem W_model_states_18b {I:IH} {o0:Result} {a0:Plan} {a1:Graph} {a2:Int} {b2:Nat} {p3:Option Addr} {c4:Nat} {p6:Option Addr} {c7:Nat} {p9:Option Addr} {c10:Nat} {p12:Option Addr} {c13:Nat} {p15:Option Addr} {c16:Nat} {Q:(Plan×Graph×Int)→Prop} (R5:RepSl eI64 I p3 c4 o0.State.A) (R8:RepSl eI64 I p6 c7 o0.State.B) (R11:RepSl eU64 I p9 c10 o0.State.On) (R14:RepSl eI64 I p12 c13 a0.Draws) (R17:RepSl eEdge I p15 c16 a1.Edges) (hd:model_states_18b o0 a0 a1 a2 Q) :
  Fun prog 56 #[.agg #[.int .i64 a0.Kind,.int .i64 a0.N,.int .i64 a0.Source,.int .i64 a0.Length,.slice p12 a0.Draws.length c13],.agg #[.int .i64 a1.N,.slice p15 a1.Edges.length c16],.int .i64 a2,.pointer (some ⟨b2,0,none⟩)] I [pto b2 (.cells #[.int .i64 o0.Status,.int .i64 o0.Rounds,.int .i64 o0.State.Low,.int .i64 o0.State.High,.slice p3 o0.State.A.length c4,.slice p6 o0.State.B.length c7,.slice p9 o0.State.On.length c10] 44 (0,0))] (fun I_ v l=>∃ r b18 p19 c20 b22 p23 c24 b26 b27,v=.func (.func 114) #[] #[.pointer (some ⟨b18,0,none⟩),.pointer (some ⟨b22,0,none⟩),.pointer (some ⟨b26,0,none⟩),.pointer (some ⟨b27,0,none⟩)]∧RepSl eI64 I_ p19 c20 r.1.Draws∧RepSl eEdge I_ p23 c24 r.2.1.Edges∧l=[pto b2 (.cells #[.int .i64 o0.Status,.int .i64 o0.Rounds,.int .i64 o0.State.Low,.int .i64 o0.State.High,.slice p3 o0.State.A.length c4,.slice p6 o0.State.B.length c7,.slice p9 o0.State.On.length c10] 44 (0,0)),pto b18 (.cells #[.int .i64 r.1.Kind,.int .i64 r.1.N,.int .i64 r.1.Source,.int .i64 r.1.Length,.slice p19 r.1.Draws.length c20] 49 (0,0)),pto b22 (.cells #[.int .i64 r.2.1.N,.slice p23 r.2.1.Edges.length c24] 24 (0,0)),pto b26 (.cells #[.pointer (some ⟨b2,0,none⟩)] 113 (0,0)),pto b27 (.cells #[.int .i64 r.2.2] 3 (0,0))]∧Q r):=by
 refine Fun.enter (vs:=[.agg #[.int .i64 a0.Kind,.int .i64 a0.N,.int .i64 a0.Source,.int .i64 a0.Length,.slice p12 a0.Draws.length c13],.agg #[.int .i64 a1.N,.slice p15 a1.Edges.length c16],.int .i64 a2,.pointer (some ⟨b2,0,none⟩)]) func56 r ntmps56 r (.c (.c (.c (.c .n)))) fun w0 M=>?_
 refine .sr (.boxA r r r fun b18=>?_)
 refine .boxA r r r fun b20=>?_
 refine .box1 r r r r fun b22=>?_
 refine .box1 r r r r fun b24=>?_
 exact .ks 1 r (.nilS [7,6,5,4,3] r r (.sr (.mkFn r r r r (.ks 1 r (.nilS [8,3] r r (.ret (oret results56 (.t r .n) (.refl _) (.c (.s (.s (.s (.s .z)))) (.c (.s (.s (.s .z))) (.c (.s (.s .z)) (.c .z (.c .z .n))))) ⟨(a0,a1,a2),_,_,_,_,_,_,_,_,r,R14,R17,r,hd⟩)))))))
theorem W_flags_within {I:IH} {a0:List Int} {a1:Int} {p1:Option Addr} {c2:Nat} {Q:Bool→Prop} (R3:RepSl eU64 I p1 c2 a0) (hd:flags_within a0 a1 Q) :
  PFun prog 153 [.slice p1 a0.length c2,.int .i64 a1] I (fun _=>o4_ Q):=by
 refine Fun.enter func153 r ntmps153 r (.c (.c .n)) fun w0 M=>?_
 refine .sr (.ks 1 r (.nilS [1,0] r r (.sr (.ks 3 r ?_))))
 refine splitP hd (fun hb4 hd=>?_) fun hb4 hd=>?_
 · rw [hb4]
   exact .ks 1 r (.gyes r r r (.shr' r r (by decide) r r (.ks 1 r (.gyes r r r (.len un40 r r r r (.ks 3 r (.nilS [4] r r (.ret (pret results153 (.t r .n) (.refl _) ⟨(decide ((shr .i64 a1 6)<(a0.length:Int))),r,hd⟩)))))))))
 rw [hb4]
 exact .ks 7 r (.nilS [4] r r (.ret (pret results153 (.t r .n) (.refl _) ⟨false,r,hd⟩)))
theorem W_flags_bit {I:IH} {a0:Int} {Q:Int→Prop}  (hd:flags_bit a0 Q) :
  PFun prog 154 [.int .i64 a0] I (fun _=>o11_ Q):=by
 refine Fun.enter func154 r ntmps154 r (.c .n) fun w0 M=>?_
 refine .sr (.ks 1 r (.nilS [0] r r (.sr (.ks 1 r (.conv un3 underlying201 r r r (.ks 1 r ?_))))))
 obtain ⟨hz1,hd⟩:=hd
 exact .shl' r r hz1 r r (.ks 1 r (.nilS [2] r r (.ret (pret results154 (.t r .n) (.refl _) ⟨(shl .u64 1 (bnd .u64 (IntKind.wrap .u64 (a0)) 63)),r,hd⟩))))
theorem W_flags_Has {I:IH} {a0:List Int} {a1:Int} {p1:Option Addr} {c2:Nat} {Q:Bool→Prop} (R3:RepSl eU64 I p1 c2 a0) (hd:flags_Has a0 a1 Q) :
  PFun prog 84 [.slice p1 a0.length c2,.int .i64 a1] I (fun _=>o4_ Q):=by
 refine Fun.enter func84 r ntmps84 r (.c (.c .n)) fun w0 M=>?_
 refine .sr (.ks 1 r (.nilS [1,0] r r (.seq (.dr [0,1,2,3,4,5,6,7,8,9,10,11,12,13] 14 (.fk 2 r (.ww r fun ex=>?_))))))
 have hw5:=W_flags_within (I:=I) R3 hd
 refine .callP call153 r hw5 r r fun v6 hv7=>?_
 obtain ⟨r4,rfl,hd⟩:=hv7
 refine .so 0 r r r trivial (.fk 1 r ?_)
 refine splitP hd (fun hb8 hd=>?_) fun hb8 hd=>?_
 · refine .g r r r (fun _=>.gyes r r hb8 (.move r r r .mk)) (.g r r r (fun _=>.gyes r r hb8 (.move r r r .mk)) (.g r r r (fun _=>.gyes r r hb8 (.shr' r r (by decide) r r .mk)) ?_))
   obtain ⟨h9,x10,hx11,hd⟩:=hd
   obtain ⟨b12,o13,cs14,e15,hC16,hr17⟩:=R3.2 _ _ hx11
   cases hr17
   refine .g r r r (fun _=>.gyes r r hb8 (.ixa un40 sz125 r e15 r h9 (idx_lt hx11 h9) r r .mk)) (.g r r r (fun _=>.gyes r r hb8 (.ld1 (j:=0) ia125 hC16 r r r r r .mk)) (.g r r r (fun _=>.gyes r r hb8 (.move r r r .mk)) (.ww r fun ex=>?_)))
   have hw19:=W_flags_bit (I:=I) hd
   refine .gyes r r hb8 (.callP call154 r hw19 r r fun v20 hv21=>?_)
   obtain ⟨r18,rfl,hd⟩:=hv21
   exact .so 0 r r r (.cg r r r r (fun _=>.gyes r r hb8 (.ld1 (j:=0) ia125 hC16 r r r r r .mk)) (.cg r r r r (fun _=>.gyes r r hb8 (.ixa un40 sz125 r e15 r h9 (idx_lt hx11 h9) r r .mk)) (.cg r r r r (fun _=>.gyes r r hb8 (.shr' r r (by decide) r r .mk)) (.cg r r r r (fun _=>.gyes r r hb8 (.move r r r .mk)) (.cg r r r r (fun _=>.gyes r r hb8 (.move r r r .mk)) trivial))))) (.g r r r (fun _=>.gyes r r hb8 (.and r r r r .mk)) (.g r r r (fun _=>.gyes r r hb8 (.ne r r r r .mk)) (.g r r r (fun _=>.pickT r hb8 r r r .mk) (.e2 14 (.ks 1 r (.nilS [4] r r (.ret (pret results84 (.t r .n) (.refl _) ⟨((bnd .u64 x10 r18) != 0),r,hd⟩))))))))
 refine .g r r r (fun _=>.gno r r hb8 r r .mk) (.g r r r (fun _=>.gno r r hb8 r r .mk) (.g r r r (fun _=>.gno r r hb8 r r .mk) (.g r r r (fun _=>.gno r r hb8 r r .mk) (.g r r r (fun _=>.gno r r hb8 r r .mk) (.g r r r (fun _=>.gno r r hb8 r r .mk) (.g r r r (fun _=>.gno r r hb8 r r .mk) (.g r r r (fun _=>.gno r r hb8 r r .mk) (.g r r r (fun _=>.gno r r hb8 r r .mk) (.g r r r (fun _=>.pickF r hb8 r r r .mk) ?_)))))))))
 exact .e2 14 (.ks 1 r (.nilS [4] r r (.ret (pret results84 (.t r .n) (.refl _) ⟨false,r,hd⟩))))
theorem W_flags_words {I:IH} {a0:Int} {Q:Int→Prop}  (hd:flags_words a0 Q) :
  PFun prog 227 [.int .i64 a0] I (fun _=>o0_ Q):=by
 refine Fun.enter func227 r ntmps227 r (.c .n) fun w0 M=>?_
 refine .sr (.ks 1 r (.nilS [0] r r (.sr (.ks 1 r (.maxI r r r r (.minI r r r r (.ks 1 r (.shr' r r (by decide) r r (.ks 1 r ?_)))))))))
 exact .nilS [2] r r (.ret (pret results227 (.t r .n) (.refl _) ⟨(shr .i64 (w64 ((if 4096<(if 0 > a0 then 0 else a0) then 4096 else (if 0 > a0 then 0 else a0))+63)) 6),r,hd⟩))
theorem W_flags_each_555 {I:IH} {a0:List Int} {p1:Option Addr} {c2:Nat} {Q:(List Int)→Prop} (R3:RepSl eU64 I p1 c2 a0) (hd:flags_each_555 a0 Q) :
  Fun prog 255 #[.slice p1 a0.length c2] I [] (fun I_ v l=>∃ r b4 p5 c6,v=.func (.func 264) #[] #[.pointer (some ⟨b4,0,none⟩)]∧RepSl eU64 I_ p5 c6 r∧l=[pto b4 (.cells #[.slice p5 r.length c6] 40 (0,0))]∧Q r):=by
 refine Fun.enter (vs:=[.slice p1 a0.length c2]) func255 r ntmps255 r (.c .n) fun w0 M=>?_
 refine .sr (.box1 r r r r fun b4=>?_)
 exact .ks 1 r (.nilS [1] r r (.sr (.mkFn r r r r (.ks 1 r (.nilS [2] r r (.ret (oret results255 (.t r .n) (.refl _) (.c .z .n) ⟨a0,_,_,_,r,R3,r,hd⟩)))))))
theorem W_flags_each_1_6c7 {I:IH} {o0:Nat} {o1:Int} {o2:Int} {o3:List Int} {Y:Nat→Int→Int→Int→((Bool×Nat×Int)→Prop)→Prop} {b5:Nat} {b6:Nat} {b7:Nat} {p8:Option Addr} {c9:Nat} {lr:Nat} {Rr:Nat→HA} {Q:(Nat×Int)→Prop} (hY:∀ {J_:IH},I.le J_→∀ {y11:Nat} {y12:Int} {y14:Int} {x16:Int} {Qy:(Bool×Nat×Int)→Prop},Y y11 y12 y14 x16 Qy→RFun prog lr [.int .i64 x16] J_ [Rr y11,pto b5 (.cells #[.int .i64 y12] 3 (0,0)),pto b6 (.cells #[.int .i64 y14] 3 (0,0))] (fun I_ v l=>∃ r,v=.bool r.1∧l=[Rr r.2.1,pto b5 (.cells #[.int .i64 y12] 3 (0,0)),pto b6 (.cells #[.int .i64 r.2.2] 3 (0,0))]∧Qy r)) (R10:RepSl eU64 I p8 c9 o3) (hd:flags_each_1_6c7 o0 o1 o2 o3 Y Q) :
  Fun prog 264 #[.func (.yield lr) #[] #[],.pointer (some ⟨b7,0,none⟩)] I [Rr o0,pto b5 (.cells #[.int .i64 o1] 3 (0,0)),pto b6 (.cells #[.int .i64 o2] 3 (0,0)),pto b7 (.cells #[.slice p8 o3.length c9] 40 (0,0))] (fun I_ v l=>∃ r,v=.tuple #[]∧l=[Rr r.1,pto b5 (.cells #[.int .i64 o1] 3 (0,0)),pto b6 (.cells #[.int .i64 r.2] 3 (0,0)),pto b7 (.cells #[.slice p8 o3.length c9] 40 (0,0))]∧Q r):=by
 refine Fun.enter (vs:=[.func (.yield lr) #[] #[],.pointer (some ⟨b7,0,none⟩)]) func264 r ntmps264 r (.c (.c .n)) fun w0 M=>?_
 refine .sr (.load1 ia40 r (.s (.s (.s .z))) r r r (.len un40 r r r r (.ks 1 r (.nilS [8,7,6,1,0] r r (.block (.loop hd (fun (s:Int×Int×Nat) c w=>match s with | (s190,s191,s192)=>∃ I_,IH.le I I_∧Ok ⟨31,[],none⟩ [(0,.func (.yield lr) #[] #[]),(1,.pointer (some ⟨b7,0,none⟩)),(6,.slice p8 o3.length c9),(7,.int .i64 (o3.length:Int)),(8,.int .i64 s191)] c∧Sym w0 M I I_ [pto b5 (.cells #[.int .i64 o1] 3 (0,0)),pto b6 (.cells #[.int .i64 s190] 3 (0,0)),pto b7 (.cells #[.slice p8 o3.length c9] 40 (0,0)),Rr s192] w) (fun c w ho hs=>⟨I,(.refl _),ho.sub ⟨r,r,r,r,r,trivial⟩,hs.pick (.c (.s .z) (.c (.s .z) (.c (.s .z) (.c .z .n))))⟩) ?_))))))
 rintro ⟨s190,s191,s192⟩ next193 hd c w hst
 obtain ⟨I194,hl195,hok,hsym⟩:=hst
 replace R10:=R10.mono hl195
 refine Cod.at hok hsym (.sr (.ks 1 r (.nilS [9,8,7,6,1,0] r r (.seq (.condP r hd (fun hb197 hd=>?_) fun hb197 hd=>?_)))))
 · refine .skipS [8,7,6,1,0] r r (.seq (.block (.sr (.ks 1 r ?_))))
   obtain ⟨h207,x208,hx209,hd⟩:=hd
   obtain ⟨b210,o211,cs212,e213,hC214,hr215⟩:=R10.2 _ _ hx209
   cases hr215
   refine .ixa un40 sz125 r e213 r h207 (idx_lt hx209 h207) r r (.ld1 (j:=0) ia125 hC214 r r r r r (.ks 2 r (.nilS [4,3,8,7,6,1,0] r r (.sr (.ks 1 r (.shl' r r (by decide) r r (.ks 1 r (.nilS [5,4,8,7,6,1,0] r r (.block ?_)))))))))
   refine .loop hd (fun (s:Int×Int×Int×Nat) c w=>match s with | (s258,s259,s260,s261)=>∃ I_,IH.le I194 I_∧Ok ⟨31,[],none⟩ [(0,.func (.yield lr) #[] #[]),(1,.pointer (some ⟨b7,0,none⟩)),(4,.int .u64 s259),(5,.int .i64 s260),(6,.slice p8 o3.length c9),(7,.int .i64 (o3.length:Int)),(8,.int .i64 s191)] c∧Sym w0 M I I_ [pto b5 (.cells #[.int .i64 o1] 3 (0,0)),pto b6 (.cells #[.int .i64 s258] 3 (0,0)),pto b7 (.cells #[.slice p8 o3.length c9] 40 (0,0)),Rr s261] w) (fun c w ho hs=>⟨I194,(.refl _),ho.sub ⟨r,r,r,r,r,r,r,trivial⟩,hs.pick (.c .z (.c .z (.c .z (.c .z .n))))⟩) ?_
   rintro ⟨s258,s259,s260,s261⟩ next262 hd c w hst
   obtain ⟨I263,hl264,hok,hsym⟩:=hst
   have le265:=IH.le.trans hl195 hl264
   replace R10:=R10.mono hl264
   refine Cod.at hok hsym (.seq (.sr (.ks 2 r (.nilS [16,8,7,6,5,4,1,0] r r (.condP r hd (fun hb267 hd=>?_) fun hb267 hd=>?_)))))
   · refine .skipS [8,7,6,5,4,1,0] r r (.seq (.block (.sr (.ks 4 r ?_))))
     refine splitP hd (fun hb268 hd=>?_) fun hb268 hd=>?_
     · rw [hb268]
       refine .ks 2 r ?_
       have hw269:=hY (J_:=I263) le265 (y11:=s261) (y12:=o1) (y14:=s258) (x16:=s260) hd
       refine .gyes r r r (.callY r r (.c (.s (.s (.s .z))) (.c .z (.c .z .n))) hw269 r r fun v273 I270 l274 hl271 hv272=>?_)
       obtain ⟨r275,rfl,rfl,hd⟩:=hv272
       have le279:=IH.le.trans le265 hl271
       have le280:=IH.le.trans hl264 hl271
       replace R10:=R10.mono hl271
       refine .re (m':=[Rr r275.2.1,pto b5 (.cells #[.int .i64 o1] 3 (0,0)),pto b6 (.cells #[.int .i64 r275.2.2] 3 (0,0)),pto b7 (.cells #[.slice p8 o3.length c9] 40 (0,0))]) r (.ks 2 r (.nilS [29,8,7,6,5,4,1,0] r r (.condP r hd (fun hb281 hd=>?_) fun hb281 hd=>?_)))
       · exact .ret (oret results264 .n le279 (.c .z (.c .z (.c .z (.c .z .n)))) ⟨(r275.2.1,r275.2.2),r,r,hd⟩)
       exact .skipS [8,7,6,5,4,1,0] r r (.region (.ks 1 r (.shr' r r (by decide) r r (.ks 4 r (.nil' fun c w ho hs=>⟨(r275.2.2,shr .u64 s259 1,w64 (s260+1),r275.2.1),hd,I270,le280,ho.sub ⟨r,r,r,r,r,r,r,trivial⟩,hs.pick (.c (.s .z) (.c (.s .z) (.c (.s .z) (.c .z .n))))⟩)))))
     rw [hb268]
     exact .ks 5 r (.nilS [29,8,7,6,5,4,1,0] r r (.condKF r r (.skipS [8,7,6,5,4,1,0] r r (.region (.ks 1 r (.shr' r r (by decide) r r (.ks 4 r (.nil' fun c w ho hs=>⟨(s258,shr .u64 s259 1,w64 (s260+1),s261),hd,I263,hl264,ho.sub ⟨r,r,r,r,r,r,r,trivial⟩,hs.pick (.c .z (.c .z (.c .z (.c .z .n))))⟩))))))))
   exact .exitS [8,7,6,1,0] r r (.region (.ks 2 r (.nil' fun c w ho hs=>⟨(s258,w64 (s191+1),s261),hd,I263,le265,ho.sub ⟨r,r,r,r,r,trivial⟩,hs.pick (.c .z (.c .z (.c .z (.c .z .n))))⟩)))
 exact .exit (oretN results264 .n hl195 (.c (.s (.s (.s .z))) (.c .z (.c .z (.c .z .n)))) ⟨(s192,s190),r,r,hd⟩)
theorem W_flags_Next {I:IH} {a0:List Int} {a1:Int} {p1:Option Addr} {c2:Nat} {Q:Int→Prop} (R3:RepSl eU64 I p1 c2 a0) (hd:flags_Next a0 a1 Q) :
  PFun prog 228 [.slice p1 a0.length c2,.int .i64 a1] I (fun _=>o0_ Q):=by
 refine Fun.enter func228 r ntmps228 r (.c (.c .n)) fun w0 M=>?_
 refine .marks0 (.sr (.box1 r r r r fun b8=>?_))
 refine .alloc1 zv3 r r r fun b10=>?_
 refine .nilS [4,3,0] r r (.seq (.sr (.ks 1 r ?_)))
 have hw24:=W_flags_each_555 (I:=I) (a0:=a0) R3 hd
 refine .callS (.f call255 r) .n hw24 r r fun v28 I25 l29 hl26 hv27=>?_
 obtain ⟨r30,b32,p33,c34,rfl,R35,rfl,hd⟩:=hv27
 replace R3:=R3.mono hl26
 refine .re (m':=[pto b32 (.cells #[.slice p33 r30.length c34] 40 (0,0)),pto b10 (.cells #[.int .i64 0] 3 (0,0)),pto b8 (.cells #[.int .i64 a1] 3 (0,0)),Marks ([])]) r (.nilS [7,4,3] r r (.block (.rangeF [.ret] r call264 (.c (.s (.s (.s .z))) (.c (.s (.s .z)) (.c (.s .z) (.c .z .n)))) fun lr D rc hrc=>?_)))
 refine ⟨_,W_flags_each_1_6c7 (I:=I25) (lr:=lr) (Rr:=recA lr [.ret] rc) (o0:=0) (o1:=a1) (o2:=0) (o3:=r30) (b5:=b8) (b6:=b10) (b7:=b32) (p8:=p33) (c9:=c34) ?_ R35 hd,?_⟩
 · skip
   intro I hJ y51 y52 y54 x56 Qy  hd
   replace R35:=R35.mono hJ
   obtain ⟨rfl,hd⟩:=hd
   refine RFun.mk hrc r fun w0 M=>?_
   refine .region (.ks 1 r (.nil' fun c w ho hs=>beginR (E':=[(3,_),(4,_),(5,_)]) ho ⟨r,r,r,trivial⟩ hs .z (.block (.sr (.ks 1 r (.load1 ia3 r (.s .z) r r r (.ks 1 r (.nilS [11,5,4] r r (.condP r hd (fun hb57 hd=>?_) fun hb57 hd=>?_)))))))))
   · refine .sr (.ks 1 r (.store1 sz3 r r (.s (.s .z)) (.t .nil) r (.nilS [] r r ?_)))
     exact .ret fun c w ho hs=>endR (js:=[.ret]) 1 (.inr rfl) (.refl _) .z (.c .z (.c .z .n)) ⟨(false,1,x56),rfl,rfl,hd⟩ hs
   exact .skip' fun c w ho hs=>endR 0 (.inl rfl) (.refl _) .z (.c .z (.c .z .n)) ⟨(true,0,y54),rfl,rfl,hd⟩ hs
 intro v61 I58 l' hl59 hv60
 obtain ⟨r62,rfl,rfl,hd⟩:=hv60
 have le66:=IH.le.trans hl26 hl59
 replace R35:=R35.mono hl59
 refine ⟨_,_,r,fun hj=>?_,fun i hj=>?_⟩
 · have hd:=hd.1 (decide_eq_true hj)
   exact .re (m':=[Marks (D :: []),pto b8 (.cells #[.int .i64 a1] 3 (0,0)),pto b10 (.cells #[.int .i64 r62.2] 3 (0,0)),pto b32 (.cells #[.slice p33 r30.length c34] 40 (0,0))]) r (.mkS [4] r r (.drop (.s .z) (.drop (.s (.s .z)) (.sr (.store1 sz3 r r (.s .z) (.t .nil) r (.nilS [4] r r (.ret (pretM .z results228 (.s ia3 r .z .n) le66 ⟨(-1),r,hd⟩))))))))
 obtain ⟨hz,hd⟩:=hd.2 (decide_eq_false (by omega))
 obtain rfl:i=0:=by omega
 refine ⟨_,r,?_⟩
 exact .re (m':=[Marks (D :: []),pto b8 (.cells #[.int .i64 a1] 3 (0,0)),pto b10 (.cells #[.int .i64 r62.2] 3 (0,0)),pto b32 (.cells #[.slice p33 r30.length c34] 40 (0,0))]) r (.ret (pretM .z results228 (.s ia3 r (.s .z) .n) le66 ⟨r62.2,r,hd⟩))
theorem W_flags_Right {I:IH} {a0:List Int} {a1:Int} {p1:Option Addr} {c2:Nat} {Q:Bool→Prop} (R3:RepSl eU64 I p1 c2 a0) (hd:flags_Right a0 a1 Q) :
  PFun prog 170 [.slice p1 a0.length c2,.int .i64 a1] I (fun _=>o4_ Q):=by
 refine Fun.enter func170 r ntmps170 r (.c (.c .n)) fun w0 M=>?_
 refine .sr (.ks 1 r (.nilS [1,0] r r (.sr (.ks 3 r ?_))))
 refine splitP hd (fun hb4 hd=>?_) fun hb4 hd=>?_
 · rw [hb4]
   refine .ks 4 r ?_
   refine splitP hd (fun hb5 hd=>?_) fun hb5 hd=>?_
   · rw [hb5]
     refine .ks 1 r (.gyes r r r (.len un40 r r r r (.ks 1 r ?_)))
     have hw7:=W_flags_words (I:=I) hd
     refine .gyes r r r (.callP call227 r hw7 r r fun v8 hv9=>?_)
     obtain ⟨r6,rfl,hd⟩:=hv9
     refine .ks 3 r ?_
     refine splitP hd (fun hb10 hd=>?_) fun hb10 hd=>?_
     · rw [hb10]
       refine .ks 2 r ?_
       have hw12:=W_flags_Next (I:=I) R3 hd
       refine .gyes r r r (.callP call228 r hw12 r r fun v13 hv14=>?_)
       obtain ⟨r11,rfl,hd⟩:=hv14
       exact .ks 3 r (.nilS [4] r r (.ret (pret results170 (.t r .n) (.refl _) ⟨(decide (r11<0)),r,hd⟩)))
     rw [hb10]
     exact .ks 6 r (.nilS [4] r r (.ret (pret results170 (.t r .n) (.refl _) ⟨false,r,hd⟩)))
   rw [hb5]
   exact .ks 13 r (.nilS [4] r r (.ret (pret results170 (.t r .n) (.refl _) ⟨false,r,hd⟩)))
 rw [hb4]
 exact .ks 17 r (.nilS [4] r r (.ret (pret results170 (.t r .n) (.refl _) ⟨false,r,hd⟩)))
theorem W_devec_Right {I:IH} {a0:Dense} {p1:Option Addr} {c2:Nat} {p4:Option Addr} {c5:Nat} {Q:Bool→Prop} (R3:RepSl eU64 I p1 c2 a0.Has) (R6:RepSl eI64 I p4 c5 a0.Vals) (hd:devec_Right a0 Q) :
  PFun prog 119 [.agg #[.int .i64 a0.N,.slice p1 a0.Has.length c2,.slice p4 a0.Vals.length c5]] I (fun _=>o4_ Q):=by
 refine Fun.enter func119 r ntmps119 r (.c .n) fun w0 M=>?_
 refine .sr (.boxA r r r fun b9=>?_)
 refine .ks 1 r (.nilS [1] r r (.seq (.sr (.fa un58 r sz40 r (o:=1) r r r (.load1 ia40 r .z r r r (.fa un58 r sz3 r (o:=0) r r r (.load1 ia3 r .z r r r ?_)))))))
 have hw18:=W_flags_Right (I:=I) R3 hd
 refine .callP call170 r hw18 r r fun v19 hv20=>?_
 obtain ⟨r17,rfl,hd⟩:=hv20
 refine .ks 2 r ?_
 refine splitP hd (fun hb21 hd=>?_) fun hb21 hd=>?_
 · rw [hb21]
   exact .ks 7 r (.nilS [18,1] r r (.condKT r r (.sr (.ks 1 r (.nilS [2] r r (.drop .z (.ret (pret results119 (.t r .n) (.refl _) ⟨false,r,hd⟩))))))))
 rw [hb21]
 refine .gyes r r r (.fa un58 r sz30 r (o:=2) r r r (.gyes r r r (.load1 ia30 r .z r r r (.gyes r r r (.len un30 r r r r (.gyes r r r (.fa un58 r sz3 r (o:=0) r r r (.gyes r r r (.load1 ia3 r .z r r r (.ks 2 r (.nilS [18,1] r r (.condP r hd (fun hb22 hd=>?_) fun hb22 hd=>?_))))))))))))
 · exact .sr (.ks 1 r (.nilS [2] r r (.drop .z (.ret (pret results119 (.t r .n) (.refl _) ⟨false,r,hd⟩)))))
 refine .skipS [1] r r (.seq (.sr (.fa un58 r sz30 r (o:=2) r r r (.load1 ia30 r .z r r r (.len un30 r r r r (.ks 1 r (.nilS [22,21,20,1] r r (.block (.loop hd (fun (s78:Int) c w=>∃ I_,IH.le I I_∧Ok ⟨37,[],none⟩ [(1,.pointer (some ⟨b9,0,none⟩)),(20,.slice p4 a0.Vals.length c5),(21,.int .i64 (a0.Vals.length:Int)),(22,.int .i64 s78)] c∧Sym w0 M I I_ [pto b9 (.cells #[.int .i64 a0.N,.slice p1 a0.Has.length c2,.slice p4 a0.Vals.length c5] 58 (0,0))] w) (fun c w ho hs=>⟨I,(.refl _),ho.sub ⟨r,r,r,r,trivial⟩,hs.pick (.c .z .n)⟩) ?_)))))))))
 rintro s78 next79 hd c w hst
 obtain ⟨I80,hl81,hok,hsym⟩:=hst
 replace R3:=R3.mono hl81
 replace R6:=R6.mono hl81
 refine Cod.at hok hsym (.sr (.ks 1 r (.nilS [23,22,21,20,1] r r (.seq (.condP r hd (fun hb83 hd=>?_) fun hb83 hd=>?_)))))
 · refine .skipS [22,21,20,1] r r (.seq (.block (.sr (.ks 1 r ?_))))
   obtain ⟨h93,x94,hx95,hd⟩:=hd
   obtain ⟨b96,o97,cs98,e99,hC100,hr101⟩:=R6.2 _ _ hx95
   cases hr101
   refine .ixa un30 sz2 r e99 r h93 (idx_lt hx95 h93) r r (.ld1 (j:=0) ia2 hC100 r r r r r (.ks 2 r (.nilS [4,3,22,21,20,1] r r (.sr (.ks 3 r ?_)))))
   refine splitP hd (fun hb102 hd=>?_) fun hb102 hd=>?_
   · rw [hb102]
     refine .gyes r r r (.fa un58 r sz40 r (o:=1) r r r (.gyes r r r (.load1 ia40 r .z r r r (.ks 1 r ?_))))
     have hw104:=W_flags_Has (I:=I80) R3 hd
     refine .gyes r r r (.callP call84 r hw104 r r fun v105 hv106=>?_)
     obtain ⟨r103,rfl,hd⟩:=hv106
     refine .ks 2 r (.nilS [35,22,21,20,1] r r (.condP r hd (fun hb107 hd=>?_) fun hb107 hd=>?_))
     · exact .sr (.ks 1 r (.nilS [2] r r (.drop .z (.ret (pret results119 (.t r .n) hl81 ⟨false,r,hd⟩)))))
     exact .skipS [22,21,20,1] r r (.region (.ks 2 r (.nil' fun c w ho hs=>⟨(w64 (s78+1)),hd,I80,hl81,ho.sub ⟨r,r,r,r,trivial⟩,hs.pick (.c .z .n)⟩)))
   rw [hb102]
   exact .ks 6 r (.nilS [35,22,21,20,1] r r (.condKF r r (.skipS [22,21,20,1] r r (.region (.ks 2 r (.nil' fun c w ho hs=>⟨(w64 (s78+1)),hd,I80,hl81,ho.sub ⟨r,r,r,r,trivial⟩,hs.pick (.c .z .n)⟩))))))
 exact .exitS [] r r (.drop .z (.sr (.ks 1 r (.nilS [2] r r (.ret (pret results119 (.t r .n) hl81 ⟨true,r,hd⟩))))))
theorem W_flags_New {I:IH} {a0:Int} {Q:(List Int)→Prop}  (hd:flags_New a0 Q) :
  OFun prog 188 [.int .i64 a0] I (fun I_ v l=>∃ r p1 c2,v=.slice p1 r.length c2∧l=[OwnSl eU64 125 p1 c2 r]∧Q r):=by
 refine Fun.enter func188 r ntmps188 r (.c .n) fun w0 M=>?_
 refine .sr (.ks 1 r (.nilS [0] r r (.sr (.ks 1 r ?_))))
 have hw5:=W_flags_words (I:=I) hd
 refine .callP call227 r hw5 r r fun v6 hv7=>?_
 obtain ⟨r4,rfl,hd⟩:=hv7
 obtain ⟨h8,h9,hd⟩:=hd
 refine .make (El:=eU64) (zv:=0) 8 un40 IN125 r r r r r r h8 h9 r r r fun b10=>?_
 exact .ks 1 r (.nilS [2] r r (.ret (oret results188 (.t r .n) (.refl _) (.c .z .n) ⟨(List.replicate r4.toNat 0),_,_,r,r,hd⟩)))
theorem W_devec_New {I:IH} {a0:Int} {Q:Dense→Prop}  (hd:devec_New a0 Q) :
  OFun prog 120 [.int .i64 a0] I (o15_ Q):=by
 refine Fun.enter func120 r ntmps120 r (.c .n) fun w0 M=>?_
 refine .sr (.allocA zv58 r r fun b9=>?_)
 refine .nilS [2,0] r r (.seq (.sr (.ks 3 r ?_)))
 refine splitP hd (fun hb11 hd=>?_) fun hb11 hd=>?_
 · rw [hb11]
   refine .ks 3 r (.nilS [8,2,0] r r (.condKT r r (.region (.ks 1 r (.nilS [0,2] r r (.seq (.dr [0,1,3,4,2,999,5] 6 (.fk 3 r ?_))))))))
   obtain ⟨h13,h14,hd⟩:=hd
   refine .a (fun b=>.slice (some ⟨b,0,none⟩) (List.replicate (Int.toNat 0) (0:Int)).length (Int.toNat 0)) (fun b=>OwnSl eI64 2 (some ⟨b,0,none⟩) (Int.toNat 0) (List.replicate (Int.toNat 0) (0:Int))) r r r r (fun _ L hL ex=>.make (El:=eI64) (zv:=0) 8 un30 IN2 r r r r r r h13 h14 r r r fun b=>.mk (val:=fun b=>.slice (some ⟨b,0,none⟩) (List.replicate (Int.toNat 0) (0:Int)).length (Int.toNat 0)) (atom:=fun b=>OwnSl eI64 2 (some ⟨b,0,none⟩) (Int.toNat 0) (List.replicate (Int.toNat 0) (0:Int))) hL b) (.ww r fun ex=>?_)
   have hw25:=W_flags_New (I:=I) hd
   refine .callO call188 r hw25 r r fun v19 I16 l20 hl17 hv18=>?_
   obtain ⟨r15,p21,c22,rfl,rfl,hd⟩:=hv18
   refine .so 2 r r r (.ck 2 r r trivial) (.b r fun b26=>DrawD.nop (.g r r r (fun _=>.build zv58 un58 BI58 (.c r r r (.t .nil) (.c r r r (.s (.t .nil)) (.c r r r (.s (.s (.t .nil))) .n))) (by exact ⟨⟨_,_,r,r,r⟩,⟨⟨_,_,r,r,r⟩,⟨⟨_,_,r,r,r⟩,trivial⟩⟩⟩) r r .mk) (.e2 6 (.storeA sz58 r r (.s .z) (.t (.t (.t .nil))) r r (.nilS [2] r r (.pub .z fun I27 hl28 R29=>?_))))))
   have le30:=IH.le.trans hl17 hl28
   exact .ret (oret results120 (.w ia58 sz58 r .z r .n) le30 (.c (.s .z) .n) ⟨({ N:=0,Has:=r15,Vals:=(List.replicate (Int.toNat 0) (0:Int)) }:Dense),_,_,_,_,r,R29,r,hd⟩)
 rw [hb11]
 refine .ks 3 r (.nilS [8,2,0] r r (.condP r hd (fun hb31 hd=>?_) fun hb31 hd=>?_))
 · refine .region (.ks 1 r (.nilS [0,2] r r (.seq (.dr [0,1,3,4,2,999,5] 6 (.fk 3 r ?_)))))
   obtain ⟨h33,h34,hd⟩:=hd
   refine .a (fun b=>.slice (some ⟨b,0,none⟩) (List.replicate (Int.toNat 0) (0:Int)).length (Int.toNat 0)) (fun b=>OwnSl eI64 2 (some ⟨b,0,none⟩) (Int.toNat 0) (List.replicate (Int.toNat 0) (0:Int))) r r r r (fun _ L hL ex=>.make (El:=eI64) (zv:=0) 8 un30 IN2 r r r r r r h33 h34 r r r fun b=>.mk (val:=fun b=>.slice (some ⟨b,0,none⟩) (List.replicate (Int.toNat 0) (0:Int)).length (Int.toNat 0)) (atom:=fun b=>OwnSl eI64 2 (some ⟨b,0,none⟩) (Int.toNat 0) (List.replicate (Int.toNat 0) (0:Int))) hL b) (.ww r fun ex=>?_)
   have hw45:=W_flags_New (I:=I) hd
   refine .callO call188 r hw45 r r fun v39 I36 l40 hl37 hv38=>?_
   obtain ⟨r35,p41,c42,rfl,rfl,hd⟩:=hv38
   refine .so 2 r r r (.ck 2 r r trivial) (.b r fun b46=>DrawD.nop (.g r r r (fun _=>.build zv58 un58 BI58 (.c r r r (.t .nil) (.c r r r (.s (.t .nil)) (.c r r r (.s (.s (.t .nil))) .n))) (by exact ⟨⟨_,_,r,r,r⟩,⟨⟨_,_,r,r,r⟩,⟨⟨_,_,r,r,r⟩,trivial⟩⟩⟩) r r .mk) (.e2 6 (.storeA sz58 r r (.s .z) (.t (.t (.t .nil))) r r (.nilS [2] r r (.pub .z fun I47 hl48 R49=>?_))))))
   have le50:=IH.le.trans hl37 hl48
   exact .ret (oret results120 (.w ia58 sz58 r .z r .n) le50 (.c (.s .z) .n) ⟨({ N:=0,Has:=r35,Vals:=(List.replicate (Int.toNat 0) (0:Int)) }:Dense),_,_,_,_,r,R49,r,hd⟩)
 refine .skipS [2,0] r r (.seq (.dr [0,1,3,4,2,999,5] 6 (.fk 3 r ?_)))
 obtain ⟨h52,h53,hd⟩:=hd
 refine .a (fun b=>.slice (some ⟨b,0,none⟩) (List.replicate a0.toNat (0:Int)).length a0.toNat) (fun b=>OwnSl eI64 2 (some ⟨b,0,none⟩) a0.toNat (List.replicate a0.toNat (0:Int))) r r r r (fun _ L hL ex=>.make (El:=eI64) (zv:=0) 8 un30 IN2 r r r r r r h52 h53 r r r fun b=>.mk (val:=fun b=>.slice (some ⟨b,0,none⟩) (List.replicate a0.toNat (0:Int)).length a0.toNat) (atom:=fun b=>OwnSl eI64 2 (some ⟨b,0,none⟩) a0.toNat (List.replicate a0.toNat (0:Int))) hL b) (.ww r fun ex=>?_)
 have hw64:=W_flags_New (I:=I) hd
 refine .callO call188 r hw64 r r fun v58 I55 l59 hl56 hv57=>?_
 obtain ⟨r54,p60,c61,rfl,rfl,hd⟩:=hv57
 refine .so 2 r r r (.ck 2 r r trivial) (.b r fun b65=>DrawD.nop (.g r r r (fun _=>.build zv58 un58 BI58 (.c r r r (.t .nil) (.c r r r (.s (.t .nil)) (.c r r r (.s (.s (.t .nil))) .n))) (by exact ⟨⟨_,_,r,r,r⟩,⟨⟨_,_,r,r,r⟩,⟨⟨_,_,r,r,r⟩,trivial⟩⟩⟩) r r .mk) (.e2 6 (.storeA sz58 r r (.s .z) (.t (.t (.t .nil))) r r (.nilS [2] r r (.pub .z fun I66 hl67 R68=>?_))))))
 have le69:=IH.le.trans hl56 hl67
 exact .ret (oret results120 (.w ia58 sz58 r .z r .n) le69 (.c (.s .z) .n) ⟨({ N:=a0,Has:=r54,Vals:=(List.replicate a0.toNat (0:Int)) }:Dense),_,_,_,_,r,R68,r,hd⟩)
theorem W_pull_sure {I:IH} {a0:Rows} {a1:Dense} {p1:Option Addr} {c2:Nat} {p4:Option Addr} {c5:Nat} {p7:Option Addr} {c8:Nat} {p10:Option Addr} {c11:Nat} {p13:Option Addr} {c14:Nat} {Q:(Rows×Dense)→Prop} (R3:RepSl eI64 I p1 c2 a0.Start) (R6:RepSl eI64 I p4 c5 a0.Col) (R9:RepSl eI64 I p7 c8 a0.Val) (R12:RepSl eU64 I p10 c11 a1.Has) (R15:RepSl eI64 I p13 c14 a1.Vals) (hd:pull_sure a0 a1 Q) :
  PFun prog 58 [.agg #[.int .i64 a0.Rows,.int .i64 a0.Cols,.slice p1 a0.Start.length c2,.slice p4 a0.Col.length c5,.slice p7 a0.Val.length c8],.agg #[.int .i64 a1.N,.slice p10 a1.Has.length c11,.slice p13 a1.Vals.length c14]] I (fun I_ v=>∃ r p16 c17 p19 c20 p22 c23 p25 c26 p28 c29,v=.tuple #[.agg #[.int .i64 r.1.Rows,.int .i64 r.1.Cols,.slice p16 r.1.Start.length c17,.slice p19 r.1.Col.length c20,.slice p22 r.1.Val.length c23],.agg #[.int .i64 r.2.N,.slice p25 r.2.Has.length c26,.slice p28 r.2.Vals.length c29]]∧RepSl eI64 I_ p16 c17 r.1.Start∧RepSl eI64 I_ p19 c20 r.1.Col∧RepSl eI64 I_ p22 c23 r.1.Val∧RepSl eU64 I_ p25 c26 r.2.Has∧RepSl eI64 I_ p28 c29 r.2.Vals∧Q r):=by
 refine Fun.enter func58 r ntmps58 r (.c (.c .n)) fun w0 M=>?_
 refine .sr (.boxA r r r fun b39=>?_)
 refine .boxA r r r fun b41=>?_
 refine .allocA zv32 r r fun b43=>?_
 refine .allocA zv58 r r fun b45=>?_
 refine .nilS [5,4,3,2] r r (.seq ?_)
 refine Cod.joinQ (σ:=Int×Int×(List Int)×(List Int)×(List Int)) hd (fun (s:Int×Int×(List Int)×(List Int)×(List Int)) c w=>match s with | (s89,s90,s91,s95,s99)=>∃ I_ p92 c93 p96 c97 p100 c101,IH.le I I_∧RepSl eI64 I_ p92 c93 s91∧RepSl eI64 I_ p96 c97 s95∧RepSl eI64 I_ p100 c101 s99∧Ok ⟨19,[],none⟩ [(2,.pointer (some ⟨b39,0,none⟩)),(3,.pointer (some ⟨b41,0,none⟩)),(4,.pointer (some ⟨b43,0,none⟩)),(5,.pointer (some ⟨b45,0,none⟩))] c∧Sym w0 M I I_ [pto b39 (.cells #[.int .i64 s89,.int .i64 s90,.slice p92 s91.length c93,.slice p96 s95.length c97,.slice p100 s99.length c101] 32 (0,0)),pto b41 (.cells #[.int .i64 a1.N,.slice p10 a1.Has.length c11,.slice p13 a1.Vals.length c14] 58 (0,0)),pto b43 (.cells #[.int .i64 0,.int .i64 0,.slice none 0 0,.slice none 0 0,.slice none 0 0] 32 (0,0)),pto b45 (.cells #[.int .i64 0,.slice none 0 0,.slice none 0 0] 58 (0,0))] w) (fun k103 hd=>?_) ?_
 · skip
   refine .sr (.loadW ia32 sz32 r (.s (.s (.s .z))) r r r ?_)
   have hw105:=W_csr_Right (I:=I) R3 R6 R9 hd
   refine .callP call96 r hw105 r r fun v106 hv107=>?_
   obtain ⟨r104,rfl,hd⟩:=hv107
   refine .ks 1 r (.nilS [8,5,4,3,2] r r (.condP r hd (fun hb108 hd=>?_) fun hb108 hd=>?_))
   · refine .region (.loadW ia32 sz32 r (.s (.s (.s .z))) r r r (.buildArr zv169 un169 sz3 .n r r (.buildArr zv169 un169 sz3 .n r r ?_)))
     have hw124:=W_csr_Cut (I:=I) R3 R6 R9 hd
     refine .call call105 r hw124 r r fun v113 I110 hl111 hv112=>?_
     obtain ⟨r109,p115,c116,p118,c119,p121,c122,rfl,R117,R120,R123,hd⟩:=hv112
     replace R3:=R3.mono hl111
     replace R6:=R6.mono hl111
     replace R9:=R9.mono hl111
     replace R12:=R12.mono hl111
     replace R15:=R15.mono hl111
     exact .storeA sz32 r r (.s (.s (.s .z))) (.t (.t (.t (.t (.t .nil))))) r r (.nil' fun c w ho hs=>⟨(r109.Rows,r109.Cols,r109.Start,r109.Col,r109.Val),hd,I110,_,_,_,_,_,_,hl111,R117,R120,R123,ho.sub ⟨r,r,r,r,trivial⟩,hs.pick (.c (.s (.s (.s .z))) (.c (.s (.s .z)) (.c (.s .z) (.c .z .n))))⟩)
   exact .skip' fun c w ho hs=>⟨(a0.Rows,a0.Cols,a0.Start,a0.Col,a0.Val),hd,I,_,_,_,_,_,_,(.refl _),R3,R6,R9,ho.sub ⟨r,r,r,r,trivial⟩,hs.pick (.c (.s (.s (.s .z))) (.c (.s (.s .z)) (.c (.s .z) (.c .z .n))))⟩
 rintro ⟨s89,s90,s91,s95,s99⟩ hd c w hst
 obtain ⟨I125,p92,c93,p96,c97,p100,c101,hl126,R94,R98,R102,hok,hsym⟩:=hst
 replace R12:=R12.mono hl126
 replace R15:=R15.mono hl126
 refine Cod.at hok hsym (.seq (.sr (.loadW ia58 sz58 r (.s .z) r r r ?_)))
 have hw128:=W_devec_Right (I:=I125) R12 R15 hd
 refine .callP call119 r hw128 r r fun v129 hv130=>?_
 obtain ⟨r127,rfl,hd⟩:=hv130
 refine .ks 1 r (.nilS [15,5,4,3,2] r r (.condP r hd (fun hb131 hd=>?_) fun hb131 hd=>?_))
 · refine .region ?_
   have hw145:=W_devec_New (I:=I125) hd
   refine .callO call120 r hw145 r r fun v136 I133 l137 hl134 hv135=>?_
   obtain ⟨r132,p138,c139,p141,c142,rfl,R140,rfl,hd⟩:=hv135
   have le146:=IH.le.trans hl126 hl134
   replace R12:=R12.mono hl134
   replace R15:=R15.mono hl134
   replace R94:=R94.mono hl134
   replace R98:=R98.mono hl134
   replace R102:=R102.mono hl134
   refine .storeA sz58 r r (.s (.s .z)) (.t (.t (.t .nil))) r r (.nilS [5,4,3,2] r r (.seq (.dr [0,1,2] 3 (.g r r r (fun _=>.loadW ia32 sz32 r (.s .z) r r r .mk) (.g r r r (fun _=>.loadW ia58 sz58 r (.s (.s .z)) r r r .mk) (.ww r fun ex=>?_))))))
   refine .storeA sz32 r r (.s (.s (.s .z))) (.t (.t (.t (.t (.t .nil))))) r r (.sn 5 r r r (.cg r r r r (fun _=>.loadW ia58 sz58 r (.s (.s .z)) r r r .mk) trivial) (.e2 3 (.storeA sz58 r r (.s (.s (.s (.s .z)))) (.t (.t (.t .nil))) r r (.nilS [5,4] r r (.drop (.s .z) (.drop (.s .z) (.pub .z fun I147 hl148 R149=>?_)))))))
   have le150:=IH.le.trans le146 hl148
   replace R94:=R94.mono hl148
   replace R98:=R98.mono hl148
   replace R102:=R102.mono hl148
   replace R140:=R140.mono hl148
   exact .ret (pret results58 (.w ia32 sz32 r .z r (.w ia58 sz58 r (.s .z) r .n)) le150 ⟨(({ Rows:=s89,Cols:=s90,Start:=s91,Col:=s95,Val:=s99 }:Rows),r132),_,_,_,_,_,_,_,_,_,_,r,R94,R98,R102,R140,R149,hd⟩)
 refine .skipS [5,4,3,2] r r (.seq (.dr [0,1,2] 3 (.g r r r (fun _=>.loadW ia32 sz32 r .z r r r .mk) (.g r r r (fun _=>.loadW ia58 sz58 r (.s .z) r r r .mk) (.ww r fun ex=>?_)))))
 exact .storeA sz32 r r (.s (.s .z)) (.t (.t (.t (.t (.t .nil))))) r r (.sn 4 r r r (.cg r r r r (fun _=>.loadW ia58 sz58 r (.s .z) r r r .mk) trivial) (.e2 3 (.storeA sz58 r r (.s (.s (.s .z))) (.t (.t (.t .nil))) r r (.nilS [5,4] r r (.drop .z (.drop .z (.ret (pret results58 (.w ia32 sz32 r .z r (.w ia58 sz58 r (.s .z) r .n)) hl126 ⟨(({ Rows:=s89,Cols:=s90,Start:=s91,Col:=s95,Val:=s99 }:Rows),a1),_,_,_,_,_,_,_,_,_,_,r,R94,R98,R102,R12,R15,hd⟩))))))))
theorem W_pull_adder_6fc {I:IH} {a0:Int} {Q:(Bool×Int×Wide)→Prop}  (hd:pull_adder_6fc a0 Q) :
  Fun prog 187 #[.int .i64 a0] I [] (fun I_ v l=>∃ r b1 b2 b3,v=.tuple #[.func (.func 237) #[] #[.pointer (some ⟨b1,0,none⟩),.pointer (some ⟨b2,0,none⟩),.pointer (some ⟨b3,0,none⟩)],.func (.func 238) #[] #[.pointer (some ⟨b3,0,none⟩),.pointer (some ⟨b1,0,none⟩)]]∧l=[pto b1 (.cells #[.bool r.1] 4 (0,0)),pto b2 (.cells #[.int .i64 r.2.1] 37 (0,0)),pto b3 (.cells #[.int .i64 r.2.2.Hi,.int .u64 r.2.2.Lo] 127 (0,0))]∧Q r):=by
 refine Fun.enter (vs:=[.int .i64 a0]) func187 r ntmps187 r (.c .n) fun w0 M=>?_
 refine .sr (.box1 r r r r fun b3=>?_)
 refine .ks 2 r (.nilS [1] r r (.sr (.allocA zv127 r r fun b7=>?_)))
 refine .nilS [4,1] r r (.sr (.alloc1 zeroValue4 r r r fun b9=>?_))
 refine .store1 sizeOf4 r r .z (.t .nil) r (.nilS [5,4,1] r r (.sr (.mkFn r r r r (.ks 1 r (.nilS [2,5,4] r r (.sr (.ks 1 r (.mkFn r r r r (.ks 2 r ?_)))))))))
 exact .nilS [3,2] r r (.ret (oret results187 (.t r (.t r .n)) (.refl _) (.c .z (.c (.s .z) (.c .z .n))) ⟨(false,a0,({ Hi:=0,Lo:=0 }:Wide)),_,_,_,r,r,hd⟩))
theorem W_pull_adder_1_b72 {I:IH} {o0:Bool} {o1:Int} {o2:Wide} {a0:Wide} {b4:Nat} {b5:Nat} {b6:Nat} {Q:(Bool×Wide)→Prop}  (hd:pull_adder_1_b72 o0 o1 o2 a0 Q) :
  Fun prog 237 #[.agg (encWide a0).toArray,.pointer (some ⟨b4,0,none⟩),.pointer (some ⟨b5,0,none⟩),.pointer (some ⟨b6,0,none⟩)] I [pto b4 (.cells #[.bool o0] 4 (0,0)),pto b5 (.cells #[.int .i64 o1] 37 (0,0)),pto b6 (.cells #[.int .i64 o2.Hi,.int .u64 o2.Lo] 127 (0,0))] (fun I_ v l=>∃ r,v=.tuple #[]∧l=[pto b4 (.cells #[.bool r.1] 4 (0,0)),pto b5 (.cells #[.int .i64 o1] 37 (0,0)),pto b6 (.cells #[.int .i64 r.2.Hi,.int .u64 r.2.Lo] 127 (0,0))]∧Q r):=by
 refine Fun.enter (vs:=[.agg (encWide a0).toArray,.pointer (some ⟨b4,0,none⟩),.pointer (some ⟨b5,0,none⟩),.pointer (some ⟨b6,0,none⟩)]) func237 r ntmps237 r (.c (.c (.c (.c .n)))) fun w0 M=>?_
 refine .sr (.boxA r r r fun b9=>?_)
 refine .nilS [4,3,2,1] r r (.seq (.sr (.load1 isAgg4 r (.s .z) r r r (.nilS [5,4,3,2,1] r r (.condP r hd (fun hb11 hd=>?_) fun hb11 hd=>?_)))))
 · refine .region (.load1 isAgg37 r (.s (.s .z)) r r r (.loadW ia127 sz127 r (.s (.s (.s .z))) r r r (.loadW ia127 sz127 r .z r r r ?_)))
   have hw13:=W_ring_Add (I:=I) hd
   refine .callP call147 r hw13 r r fun v14 hv15=>?_
   obtain ⟨r12,rfl,hd⟩:=hv15
   exact .storeA sz127 r r .z (.t (.t .nil)) r r (.nilS [4,3,1] r r (.region (.loadW ia127 sz127 r .z r r r (.storeA sz127 r r (.s (.s (.s .z))) (.t (.t .nil)) r r (.store1 sizeOf4 r r (.s .z) (.t .nil) r (.nil' (oretN results237 .n (.refl _) (.c (.s .z) (.c (.s .z) (.c (.s .z) .n))) ⟨(true,r12),r,r,hd⟩)))))))
 exact .skipS [4,3,1] r r (.region (.loadW ia127 sz127 r .z r r r (.storeA sz127 r r (.s (.s (.s .z))) (.t (.t .nil)) r r (.store1 sizeOf4 r r (.s .z) (.t .nil) r (.nil' (oretN results237 .n (.refl _) (.c (.s .z) (.c (.s .z) (.c (.s .z) .n))) ⟨(true,a0),r,r,hd⟩))))))
theorem W_pull_adder_2_cdb {I:IH} {o0:Wide} {o1:Bool} {b3:Nat} {b4:Nat} {Q:(Wide×Bool)→Prop}  (hd:pull_adder_2_cdb o0 o1 Q) :
  Fun prog 238 #[.pointer (some ⟨b3,0,none⟩),.pointer (some ⟨b4,0,none⟩)] I [pto b3 (.cells #[.int .i64 o0.Hi,.int .u64 o0.Lo] 127 (0,0)),pto b4 (.cells #[.bool o1] 4 (0,0))] (fun I_ v l=>∃ r,v=.tuple #[.agg (encWide r.1).toArray,.bool r.2]∧l=[pto b3 (.cells #[.int .i64 o0.Hi,.int .u64 o0.Lo] 127 (0,0)),pto b4 (.cells #[.bool o1] 4 (0,0))]∧Q r):=by
 refine Fun.enter (vs:=[.pointer (some ⟨b3,0,none⟩),.pointer (some ⟨b4,0,none⟩)]) func238 r ntmps238 r (.c (.c .n)) fun w0 M=>?_
 refine .sr (.allocA zv127 r r fun b5=>?_)
 refine .ks 1 r (.nilS [2,1,0] r r (.seq (.dr [0,1,2] 3 (.g r r r (fun _=>.loadW ia127 sz127 r (.s .z) r r r .mk) (.g r r r (fun _=>.load1 isAgg4 r (.s (.s .z)) r r r .mk) (.ww r fun ex=>?_))))))
 exact .storeA sz127 r r .z (.t (.t .nil)) r r (.sn 3 r r r (.cg r r r r (fun _=>.load1 isAgg4 r (.s (.s .z)) r r r .mk) trivial) (.e2 3 (.ks 1 r (.nilS [3,2,1,0] r r (.ret (oret results238 (.w ia127 sz127 r .z r (.t r .n)) (.refl _) (.c (.s .z) (.c (.s .z) .n)) ⟨(o0,o1),r,r,hd⟩))))))
theorem W_pull_row {I:IH} {a0:Int} {a1:Rows} {a2:Int} {a3:Dense} {p1:Option Addr} {c2:Nat} {p4:Option Addr} {c5:Nat} {p7:Option Addr} {c8:Nat} {p10:Option Addr} {c11:Nat} {p13:Option Addr} {c14:Nat} {Q:(Wide×Bool)→Prop} (R3:RepSl eI64 I p1 c2 a1.Start) (R6:RepSl eI64 I p4 c5 a1.Col) (R9:RepSl eI64 I p7 c8 a1.Val) (R12:RepSl eU64 I p10 c11 a3.Has) (R15:RepSl eI64 I p13 c14 a3.Vals) (hd:pull_row a0 a1 a2 a3 Q) :
  PFun prog 118 [.int .i64 a0,.agg #[.int .i64 a1.Rows,.int .i64 a1.Cols,.slice p1 a1.Start.length c2,.slice p4 a1.Col.length c5,.slice p7 a1.Val.length c8],.int .i64 a2,.agg #[.int .i64 a3.N,.slice p10 a3.Has.length c11,.slice p13 a3.Vals.length c14]] I (fun I_ v=>∃ r,v=.tuple #[.agg (encWide r.1).toArray,.bool r.2]∧Q r):=by
 refine Fun.enter func118 r ntmps118 r (.c (.c (.c (.c .n)))) fun w0 M=>?_
 refine .sr (.boxA r r r fun b22=>?_)
 refine .boxA r r r fun b24=>?_
 refine .allocA zv127 r r fun b26=>?_
 refine .ks 1 r (.nilS [8,7,5,2,0] r r (.sr (.ks 1 r ?_)))
 have hw41:=W_pull_adder_6fc (I:=I) (a0:=a0) hd
 refine .callS (.f call187 r) .n hw41 r r fun v45 I42 l46 hl43 hv44=>?_
 obtain ⟨r47,b51,b52,b53,rfl,rfl,hd⟩:=hv44
 replace R3:=R3.mono hl43
 replace R6:=R6.mono hl43
 replace R9:=R9.mono hl43
 replace R12:=R12.mono hl43
 replace R15:=R15.mono hl43
 refine .re (m':=[pto b51 (.cells #[.bool r47.1] 4 (0,0)),pto b52 (.cells #[.int .i64 r47.2.1] 37 (0,0)),pto b53 (.cells #[.int .i64 r47.2.2.Hi,.int .u64 r47.2.2.Lo] 127 (0,0)),pto b26 (.cells #[.int .i64 0,.int .u64 0] 127 (0,0)),pto b24 (.cells #[.int .i64 a3.N,.slice p10 a3.Has.length c11,.slice p13 a3.Vals.length c14] 58 (0,0)),pto b22 (.cells #[.int .i64 a1.Rows,.int .i64 a1.Cols,.slice p1 a1.Start.length c2,.slice p4 a1.Col.length c5,.slice p7 a1.Val.length c8] 32 (0,0))]) r (.ks 5 r (.nilS [11,10,8,7,5,2,0] r r (.seq (.sr (.fa un32 r sz29 r (o:=2) r r r (.load1 ia29 r (.s (.s (.s (.s (.s .z))))) r r r (.ks 1 r ?_)))))))
 obtain ⟨h63,x64,hx65,hd⟩:=hd
 obtain ⟨b66,o67,cs68,e69,hC70,hr71⟩:=R3.2 _ _ hx65
 cases hr71
 refine .ixa un29 sz3 r e69 r h63 (idx_lt hx65 h63) r r (.ld1 (j:=0) ia3 hC70 r r r r r (.ks 1 r (.nilS [12,11,10,8,7,5,2,0] r r (.block (.loop hd (fun (s:Bool×Int×Int×Int) c w=>match s with | (s246,s247,s248,s249)=>∃ I_,IH.le I42 I_∧Ok ⟨61,[],none⟩ [(0,.int .i64 a0),(2,.int .i64 a2),(5,.pointer (some ⟨b22,0,none⟩)),(7,.pointer (some ⟨b24,0,none⟩)),(8,.pointer (some ⟨b26,0,none⟩)),(10,.func (.func 237) #[] #[.pointer (some ⟨b51,0,none⟩),.pointer (some ⟨b52,0,none⟩),.pointer (some ⟨b53,0,none⟩)]),(11,.func (.func 238) #[] #[.pointer (some ⟨b53,0,none⟩),.pointer (some ⟨b51,0,none⟩)]),(12,.int .i64 s249)] c∧Sym w0 M I I_ [pto b22 (.cells #[.int .i64 a1.Rows,.int .i64 a1.Cols,.slice p1 a1.Start.length c2,.slice p4 a1.Col.length c5,.slice p7 a1.Val.length c8] 32 (0,0)),pto b24 (.cells #[.int .i64 a3.N,.slice p10 a3.Has.length c11,.slice p13 a3.Vals.length c14] 58 (0,0)),pto b26 (.cells #[.int .i64 0,.int .u64 0] 127 (0,0)),pto b51 (.cells #[.bool s246] 4 (0,0)),pto b52 (.cells #[.int .i64 r47.2.1] 37 (0,0)),pto b53 (.cells #[.int .i64 s247,.int .u64 s248] 127 (0,0))] w) (fun c w ho hs=>⟨I42,(.refl _),ho.sub ⟨r,r,r,r,r,r,r,r,trivial⟩,hs.pick (.c (.s (.s (.s (.s (.s .z))))) (.c (.s (.s (.s (.s .z)))) (.c (.s (.s (.s .z))) (.c .z (.c .z (.c .z .n))))))⟩) ?_)))))
 rintro ⟨s246,s247,s248,s249⟩ next250 hd c w hst
 obtain ⟨I251,hl252,hok,hsym⟩:=hst
 have le253:=IH.le.trans hl43 hl252
 replace R3:=R3.mono hl252
 replace R6:=R6.mono hl252
 replace R9:=R9.mono hl252
 replace R12:=R12.mono hl252
 replace R15:=R15.mono hl252
 refine Cod.at hok hsym (.seq (.sr (.ks 1 r (.fa un32 r sz29 r (o:=2) r r r (.load1 ia29 r .z r r r (.ks 2 r ?_))))))
 obtain ⟨h264,x265,hx266,hd⟩:=hd
 obtain ⟨b267,o268,cs269,e270,hC271,hr272⟩:=R3.2 _ _ hx266
 cases hr272
 refine .ixa un29 sz3 r e270 r h264 (idx_lt hx266 h264) r r (.ld1 (j:=0) ia3 hC271 r r r r r (.ks 1 r (.nilS [31,12,11,10,8,7,5,2,0] r r (.condP r hd (fun hb273 hd=>?_) fun hb273 hd=>?_))))
 · refine .skipS [12,11,10,8,7,5,2,0] r r (.seq (.block (.sr (.fa un32 r sz29 r (o:=3) r r r (.load1 ia29 r .z r r r (.ks 1 r ?_))))))
   obtain ⟨h283,x284,hx285,hd⟩:=hd
   obtain ⟨b286,o287,cs288,e289,hC290,hr291⟩:=R6.2 _ _ hx285
   cases hr291
   refine .ixa un29 sz3 r e289 r h283 (idx_lt hx285 h283) r r (.ld1 (j:=0) ia3 hC290 r r r r r (.ks 1 r (.nilS [13,12,11,10,8,7,5,2,0] r r (.sr (.fa un58 r sz40 r (o:=1) r r r (.load1 ia40 r (.s .z) r r r (.ks 1 r ?_)))))))
   have hw297:=W_flags_Has (I:=I251) R12 hd
   refine .callP call84 r hw297 r r fun v298 hv299=>?_
   obtain ⟨r296,rfl,hd⟩:=hv299
   refine .nilS [42,13,12,11,10,8,7,5,2,0] r r (.condP r hd (fun hb300 hd=>?_) fun hb300 hd=>?_)
   · refine .dr [0,1,2,3,4,5,6,7,8,9,10,11,12,13] 14 (.fk 2 r (.g r r r (fun _=>.fa un32 r sz30 r (o:=4) r r r .mk) (.g r r r (fun _=>.load1 ia30 r .z r r r .mk) (.fk 1 r ?_))))
     obtain ⟨h301,x302,hx303,hd⟩:=hd
     obtain ⟨b304,o305,cs306,e307,hC308,hr309⟩:=R9.2 _ _ hx303
     cases hr309
     refine .g r r r (fun _=>.ixa un30 sz2 r e307 r h301 (idx_lt hx303 h301) r r .mk) (.g r r r (fun _=>.ld1 (j:=0) ia2 hC308 r r r r r .mk) (.g r r r (fun _=>.fa un58 r sz30 r (o:=2) r r r .mk) (.g r r r (fun _=>.load1 ia30 r (.s .z) r r r .mk) (.fk 1 r ?_))))
     obtain ⟨h310,x311,hx312,hd⟩:=hd
     obtain ⟨b313,o314,cs315,e316,hC317,hr318⟩:=R15.2 _ _ hx312
     cases hr318
     refine .g r r r (fun _=>.ixa un30 sz2 r e316 r h310 (idx_lt hx312 h310) r r .mk) (.g r r r (fun _=>.ld1 (j:=0) ia2 hC317 r r r r r .mk) (.ww r fun ex=>?_))
     have hw320:=W_ring_Mul (I:=I251) hd
     refine .callP call138 r hw320 r r fun v321 hv322=>?_
     obtain ⟨r319,rfl,hd⟩:=hv322
     refine .so 6 r r r (.ck 1 r r trivial) (.ww r fun ex=>?_)
     have hw323:=W_pull_adder_1_b72 (I:=I251) (o0:=s246) (o1:=r47.2.1) (o2:=({ Hi:=s247,Lo:=s248 }:Wide)) (a0:=r319) (b4:=b51) (b5:=b52) (b6:=b53) hd
     refine .callS (.c call237 r r) (.c (.s (.s (.s .z))) (.c (.s (.s (.s .z))) (.c (.s (.s (.s .z))) .n))) hw323 r r fun v327 I324 l328 hl325 hv326=>?_
     obtain ⟨r329,rfl,rfl,hd⟩:=hv326
     have le334:=IH.le.trans le253 hl325
     have le335:=IH.le.trans hl252 hl325
     replace R3:=R3.mono hl325
     replace R6:=R6.mono hl325
     replace R9:=R9.mono hl325
     replace R12:=R12.mono hl325
     replace R15:=R15.mono hl325
     replace hC308:=hC308.mono hl325
     replace hC317:=hC317.mono hl325
     exact .re (m':=(pto b51 (.cells #[.bool r329.1] 4 (0,0))) :: (pto b52 (.cells #[.int .i64 r47.2.1] 37 (0,0))) :: (pto b53 (.cells #[.int .i64 r329.2.Hi,.int .u64 r329.2.Lo] 127 (0,0))) :: (pto b22 (.cells #[.int .i64 a1.Rows,.int .i64 a1.Cols,.slice p1 a1.Start.length c2,.slice p4 a1.Col.length c5,.slice p7 a1.Val.length c8] 32 (0,0))) :: (pto b24 (.cells #[.int .i64 a3.N,.slice p10 a3.Has.length c11,.slice p13 a3.Vals.length c14] 58 (0,0))) :: (pto b26 (.cells #[.int .i64 0,.int .u64 0] 127 (0,0))) :: ex) r (.so 6 r r r trivial (.e2 14 (.nilS [12,11,10,8,7,5,2,0] r r (.region (.ks 3 r (.nil' fun c w ho hs=>⟨(r329.1,r329.2.Hi,r329.2.Lo,w64 (s249+1)),hd,I324,le335,ho.sub ⟨r,r,r,r,r,r,r,r,trivial⟩,hs.pick (.c (.s (.s (.s .z))) (.c (.s (.s (.s .z))) (.c (.s (.s (.s .z))) (.c .z (.c .z (.c .z .n))))))⟩))))))
   exact .skipS [12,11,10,8,7,5,2,0] r r (.region (.ks 3 r (.nil' fun c w ho hs=>⟨(s246,s247,s248,w64 (s249+1)),hd,I251,hl252,ho.sub ⟨r,r,r,r,r,r,r,r,trivial⟩,hs.pick (.c .z (.c .z (.c .z (.c .z (.c .z (.c .z .n))))))⟩)))
 refine .exitS [11,8] r r (.drop .z (.drop .z (.drop (.s (.s .z)) (.sr (.ks 1 r ?_)))))
 have hw336:=W_pull_adder_2_cdb (I:=I251) (o0:=({ Hi:=s247,Lo:=s248 }:Wide)) (o1:=s246) (b3:=b53) (b4:=b51) hd
 refine .callS (.c call238 r r) (.c (.s (.s .z)) (.c (.s .z) .n)) hw336 r r fun v340 I337 l341 hl338 hv339=>?_
 obtain ⟨r342,rfl,rfl,hd⟩:=hv339
 have le343:=IH.le.trans le253 hl338
 have le344:=IH.le.trans hl252 hl338
 exact .re (m':=[pto b53 (.cells #[.int .i64 s247,.int .u64 s248] 127 (0,0)),pto b51 (.cells #[.bool s246] 4 (0,0)),pto b26 (.cells #[.int .i64 0,.int .u64 0] 127 (0,0))]) r (.ks 2 r (.storeA sz127 r r (.s (.s .z)) (.t (.t .nil)) r r (.ks 1 r (.nilS [9,8] r r (.drop .z (.drop .z (.ret (pret results118 (.w ia127 sz127 r .z r (.t r .n)) le343 ⟨(r342.1,r342.2),r,hd⟩))))))))
theorem W_pull_asked_064 {I:IH} {a0:Int} {a1:List Int} {a2:Bool} {p1:Option Addr} {c2:Nat} {Q:(Int×(List Int)×Bool)→Prop} (R3:RepSl eU64 I p1 c2 a1) (hd:pull_asked_064 a0 a1 a2 Q) :
  Fun prog 117 #[.int .i64 a0,.slice p1 a1.length c2,.bool a2] I [] (fun I_ v l=>∃ r b4 b5 p6 c7 b9,v=.func (.func 186) #[] #[.pointer (some ⟨b4,0,none⟩),.pointer (some ⟨b5,0,none⟩),.pointer (some ⟨b9,0,none⟩)]∧RepSl eU64 I_ p6 c7 r.2.1∧l=[pto b4 (.cells #[.int .i64 r.1] 3 (0,0)),pto b5 (.cells #[.slice p6 r.2.1.length c7] 40 (0,0)),pto b9 (.cells #[.bool r.2.2] 4 (0,0))]∧Q r):=by
 refine Fun.enter (vs:=[.int .i64 a0,.slice p1 a1.length c2,.bool a2]) func117 r ntmps117 r (.c (.c (.c .n))) fun w0 M=>?_
 refine .sr (.box1 r r r r fun b4=>?_)
 refine .box1 r r r r fun b6=>?_
 refine .box1 r r r r fun b8=>?_
 exact .ks 1 r (.nilS [5,4,3] r r (.sr (.mkFn r r r r (.ks 1 r (.nilS [6] r r (.ret (oret results117 (.t r .n) (.refl _) (.c (.s (.s .z)) (.c (.s .z) (.c .z .n))) ⟨(a0,a1,a2),_,_,_,_,_,r,R3,r,hd⟩)))))))
theorem W_pull_asked_1_839 {I:IH} {o0:Nat} {o1:Int} {o2:Rows} {o3:Dense} {o4:List Sum} {o5:Int} {o6:List Int} {o7:Bool} {Y:Nat→Int→Rows→Dense→(List Sum)→Int→((Bool×Nat×(List Sum))→Prop)→Prop} {b9:Nat} {b10:Nat} {p11:Option Addr} {c12:Nat} {p14:Option Addr} {c15:Nat} {p17:Option Addr} {c18:Nat} {b20:Nat} {p21:Option Addr} {c22:Nat} {p24:Option Addr} {c25:Nat} {b27:Nat} {p28:Option Addr} {c29:Nat} {b32:Nat} {b33:Nat} {p34:Option Addr} {c35:Nat} {b37:Nat} {lr:Nat} {Rr:Nat→HA} {Q:(Nat×(List Sum))→Prop} (hY:∀ {J_:IH},I.le J_→∀ {y38:Nat} {y39:Int} {y41:Rows} {y52:Dense} {y60:List Sum} {x66:Int} {p43:Option Addr} {c44:Nat} {p46:Option Addr} {c47:Nat} {p49:Option Addr} {c50:Nat} {p54:Option Addr} {c55:Nat} {p57:Option Addr} {c58:Nat} {p62:Option Addr} {c63:Nat} {Qy:(Bool×Nat×(List Sum))→Prop},RepSl eI64 J_ p43 c44 y41.Start→RepSl eI64 J_ p46 c47 y41.Col→RepSl eI64 J_ p49 c50 y41.Val→RepSl eU64 J_ p54 c55 y52.Has→RepSl eI64 J_ p57 c58 y52.Vals→Y y38 y39 y41 y52 y60 x66 Qy→RFun prog lr [.int .i64 x66] J_ [Rr y38,pto b9 (.cells #[.int .i64 y39] 37 (0,0)),pto b10 (.cells #[.int .i64 y41.Rows,.int .i64 y41.Cols,.slice p43 y41.Start.length c44,.slice p46 y41.Col.length c47,.slice p49 y41.Val.length c50] 32 (0,0)),pto b20 (.cells #[.int .i64 y52.N,.slice p54 y52.Has.length c55,.slice p57 y52.Vals.length c58] 58 (0,0)),pto b27 (.cells #[.slice p62 y60.length c63] 114 (0,0)),OwnSl eSum 183 p62 c63 y60] (fun I_ v l=>∃ r p68 c69,v=.bool r.1∧l=[Rr r.2.1,pto b9 (.cells #[.int .i64 y39] 37 (0,0)),pto b10 (.cells #[.int .i64 y41.Rows,.int .i64 y41.Cols,.slice p43 y41.Start.length c44,.slice p46 y41.Col.length c47,.slice p49 y41.Val.length c50] 32 (0,0)),pto b20 (.cells #[.int .i64 y52.N,.slice p54 y52.Has.length c55,.slice p57 y52.Vals.length c58] 58 (0,0)),pto b27 (.cells #[.slice p68 r.2.2.length c69] 114 (0,0)),OwnSl eSum 183 p68 c69 r.2.2]∧Qy r)) (R13:RepSl eI64 I p11 c12 o2.Start) (R16:RepSl eI64 I p14 c15 o2.Col) (R19:RepSl eI64 I p17 c18 o2.Val) (R23:RepSl eU64 I p21 c22 o3.Has) (R26:RepSl eI64 I p24 c25 o3.Vals) (R36:RepSl eU64 I p34 c35 o6) (hd:pull_asked_1_839 o0 o1 o2 o3 o4 o5 o6 o7 Y Q) :
  Fun prog 186 #[.func (.yield lr) #[] #[],.pointer (some ⟨b32,0,none⟩),.pointer (some ⟨b33,0,none⟩),.pointer (some ⟨b37,0,none⟩)] I [Rr o0,pto b9 (.cells #[.int .i64 o1] 37 (0,0)),pto b10 (.cells #[.int .i64 o2.Rows,.int .i64 o2.Cols,.slice p11 o2.Start.length c12,.slice p14 o2.Col.length c15,.slice p17 o2.Val.length c18] 32 (0,0)),pto b20 (.cells #[.int .i64 o3.N,.slice p21 o3.Has.length c22,.slice p24 o3.Vals.length c25] 58 (0,0)),pto b27 (.cells #[.slice p28 o4.length c29] 114 (0,0)),OwnSl eSum 183 p28 c29 o4,pto b32 (.cells #[.int .i64 o5] 3 (0,0)),pto b33 (.cells #[.slice p34 o6.length c35] 40 (0,0)),pto b37 (.cells #[.bool o7] 4 (0,0))] (fun I_ v l=>∃ r p39 c40,v=.tuple #[]∧l=[Rr r.1,pto b9 (.cells #[.int .i64 o1] 37 (0,0)),pto b10 (.cells #[.int .i64 o2.Rows,.int .i64 o2.Cols,.slice p11 o2.Start.length c12,.slice p14 o2.Col.length c15,.slice p17 o2.Val.length c18] 32 (0,0)),pto b20 (.cells #[.int .i64 o3.N,.slice p21 o3.Has.length c22,.slice p24 o3.Vals.length c25] 58 (0,0)),pto b27 (.cells #[.slice p39 r.2.length c40] 114 (0,0)),OwnSl eSum 183 p39 c40 r.2,pto b32 (.cells #[.int .i64 o5] 3 (0,0)),pto b33 (.cells #[.slice p34 o6.length c35] 40 (0,0)),pto b37 (.cells #[.bool o7] 4 (0,0))]∧Q r):=by
 refine Fun.enter (vs:=[.func (.yield lr) #[] #[],.pointer (some ⟨b32,0,none⟩),.pointer (some ⟨b33,0,none⟩),.pointer (some ⟨b37,0,none⟩)]) func186 r ntmps186 r (.c (.c (.c (.c .n)))) fun w0 M=>?_
 refine .sr (.load1 ia3 r (.s (.s (.s (.s (.s (.s .z)))))) r r r (.ks 1 r (.nilS [7,6,3,2,1,0] r r (.block (.loop hd (fun (s:(List Sum)×Int×Nat) c w=>match s with | (s129,s133,s134)=>∃ I_ p130 c131,IH.le I I_∧Ok ⟨22,[],none⟩ [(0,.func (.yield lr) #[] #[]),(1,.pointer (some ⟨b32,0,none⟩)),(2,.pointer (some ⟨b33,0,none⟩)),(3,.pointer (some ⟨b37,0,none⟩)),(6,.int .i64 o5),(7,.int .i64 s133)] c∧Sym w0 M I I_ [pto b9 (.cells #[.int .i64 o1] 37 (0,0)),pto b10 (.cells #[.int .i64 o2.Rows,.int .i64 o2.Cols,.slice p11 o2.Start.length c12,.slice p14 o2.Col.length c15,.slice p17 o2.Val.length c18] 32 (0,0)),pto b20 (.cells #[.int .i64 o3.N,.slice p21 o3.Has.length c22,.slice p24 o3.Vals.length c25] 58 (0,0)),pto b27 (.cells #[.slice p130 s129.length c131] 114 (0,0)),OwnSl eSum 183 p130 c131 s129,pto b32 (.cells #[.int .i64 o5] 3 (0,0)),pto b33 (.cells #[.slice p34 o6.length c35] 40 (0,0)),pto b37 (.cells #[.bool o7] 4 (0,0)),Rr s134] w) (fun c w ho hs=>⟨I,_,_,(.refl _),ho.sub ⟨r,r,r,r,r,r,trivial⟩,hs.pick (.c (.s .z) (.c (.s .z) (.c (.s .z) (.c (.s .z) (.c (.s .z) (.c (.s .z) (.c (.s .z) (.c (.s .z) (.c .z .n)))))))))⟩) ?_)))))
 rintro ⟨s129,s133,s134⟩ next135 hd c w hst
 obtain ⟨I136,p130,c131,hl137,hok,hsym⟩:=hst
 replace R13:=R13.mono hl137
 replace R16:=R16.mono hl137
 replace R19:=R19.mono hl137
 replace R23:=R23.mono hl137
 replace R26:=R26.mono hl137
 replace R36:=R36.mono hl137
 refine Cod.at hok hsym (.sr (.ks 1 r (.nilS [8,7,6,3,2,1,0] r r (.seq (.condP r hd (fun hb139 hd=>?_) fun hb139 hd=>?_)))))
 · refine .skipS [7,6,3,2,1,0] r r (.seq (.block (.sr (.ks 2 r (.nilS [5,7,6,3,2,1,0] r r (.seq (.dr [0,1,3,2,4,5,6,7,8,9,10] 11 (.g r r r (fun _=>.load1 ia40 r (.s (.s (.s (.s (.s (.s .z)))))) r r r .mk) (.fk 1 r ?_)))))))))
   refine .g r r r (fun _=>.load1 isAgg4 r (.s (.s (.s (.s (.s (.s (.s .z))))))) r r r .mk) (.ww r fun ex=>?_)
   have hw141:=W_flags_Has (I:=I136) R36 hd
   refine .callP call84 r hw141 r r fun v142 hv143=>?_
   obtain ⟨r140,rfl,hd⟩:=hv143
   refine .so 9 r r r (.cg r r r r (fun _=>.load1 isAgg4 r (.s (.s (.s (.s (.s (.s (.s .z))))))) r r r .mk) trivial) (.g r r r (fun _=>.neB underlying4 r r r r .mk) (.fk 1 r ?_))
   refine splitP hd (fun hb144 hd=>?_) fun hb144 hd=>?_
   · refine .g r r r (fun _=>.gyes r r hb144 (.move r r r .mk)) (.g r r r (fun _=>.gyes r r hb144 (.move r r r .mk)) (.ww r fun ex=>?_))
     have hw145:=hY (J_:=I136) hl137 (y38:=s134) (y39:=o1) (y41:=o2) (y52:=o3) (y60:=s129) (x66:=s133) (p43:=p11) (c44:=c12) (p46:=p14) (c47:=c15) (p49:=p17) (c50:=c18) (p54:=p21) (c55:=c22) (p57:=p24) (c58:=c25) (p62:=p130) (c63:=c131) R13 R16 R19 R23 R26 hd
     refine .gyes r r hb144 (.callY r r (.c (.s (.s (.s (.s (.s (.s (.s (.s .z)))))))) (.c .z (.c .z (.c .z (.c .z (.c .z .n)))))) hw145 r r fun v149 I146 l150 hl147 hv148=>?_)
     obtain ⟨r151,p155,c156,rfl,rfl,hd⟩:=hv148
     have le159:=IH.le.trans hl137 hl147
     replace R13:=R13.mono hl147
     replace R16:=R16.mono hl147
     replace R19:=R19.mono hl147
     replace R23:=R23.mono hl147
     replace R26:=R26.mono hl147
     replace R36:=R36.mono hl147
     refine .re (m':=(Rr r151.2.1) :: (pto b9 (.cells #[.int .i64 o1] 37 (0,0))) :: (pto b10 (.cells #[.int .i64 o2.Rows,.int .i64 o2.Cols,.slice p11 o2.Start.length c12,.slice p14 o2.Col.length c15,.slice p17 o2.Val.length c18] 32 (0,0))) :: (pto b20 (.cells #[.int .i64 o3.N,.slice p21 o3.Has.length c22,.slice p24 o3.Vals.length c25] 58 (0,0))) :: (pto b27 (.cells #[.slice p155 r151.2.2.length c156] 114 (0,0))) :: (OwnSl eSum 183 p155 c156 r151.2.2) :: (pto b32 (.cells #[.int .i64 o5] 3 (0,0))) :: (pto b33 (.cells #[.slice p34 o6.length c35] 40 (0,0))) :: (pto b37 (.cells #[.bool o7] 4 (0,0))) :: ex) r (.so 9 r r r trivial (.g r r r (fun _=>.gyes r r hb144 (.not r r r .mk)) (.g r r r (fun _=>.pickT r hb144 r r r .mk) (.e2 11 (.nilS [20,7,6,3,2,1,0] r r (.condP r hd (fun hb160 hd=>?_) fun hb160 hd=>?_))))))
     · exact .ret (oret results186 .n le159 (.c .z (.c .z (.c .z (.c .z (.c .z (.c .z (.c .z (.c .z (.c .z .n))))))))) ⟨(r151.2.1,r151.2.2),_,_,r,r,hd⟩)
     exact .skipS [7,6,3,2,1,0] r r (.region (.ks 2 r (.nil' fun c w ho hs=>⟨(r151.2.2,w64 (s133+1),r151.2.1),hd,I146,_,_,le159,ho.sub ⟨r,r,r,r,r,r,trivial⟩,hs.pick (.c (.s .z) (.c (.s .z) (.c (.s .z) (.c (.s .z) (.c (.s .z) (.c (.s .z) (.c (.s .z) (.c (.s .z) (.c .z .n)))))))))⟩)))
   refine .g r r r (fun _=>.gno r r hb144 r r .mk) (.g r r r (fun _=>.gno r r hb144 r r .mk) (.g r r r (fun _=>.gno r r hb144 r r .mk) (.g r r r (fun _=>.gno r r hb144 r r .mk) (.g r r r (fun _=>.pickF r hb144 r r r .mk) (.e2 11 (.nilS [20,7,6,3,2,1,0] r r (.condKF r r (.skipS [7,6,3,2,1,0] r r (.region ?_)))))))))
   exact .ks 2 r (.nil' fun c w ho hs=>⟨(s129,w64 (s133+1),s134),hd,I136,_,_,hl137,ho.sub ⟨r,r,r,r,r,r,trivial⟩,hs.pick (.c .z (.c .z (.c .z (.c .z (.c .z (.c .z (.c .z (.c .z (.c .z .n)))))))))⟩)
 exact .exit (oretN results186 .n hl137 (.c (.s (.s (.s (.s (.s (.s (.s (.s .z)))))))) (.c .z (.c .z (.c .z (.c .z (.c .z (.c .z (.c .z (.c .z .n))))))))) ⟨(s134,s129),_,_,r,r,hd⟩)
theorem W_pull_Sums {I:IH} {a0:Int} {a1:Rows} {a2:Dense} {a3:List Int} {a4:Bool} {p1:Option Addr} {c2:Nat} {p4:Option Addr} {c5:Nat} {p7:Option Addr} {c8:Nat} {p10:Option Addr} {c11:Nat} {p13:Option Addr} {c14:Nat} {p16:Option Addr} {c17:Nat} {Q:((List Sum)×Int)→Prop} (R3:RepSl eI64 I p1 c2 a1.Start) (R6:RepSl eI64 I p4 c5 a1.Col) (R9:RepSl eI64 I p7 c8 a1.Val) (R12:RepSl eU64 I p10 c11 a2.Has) (R15:RepSl eI64 I p13 c14 a2.Vals) (R18:RepSl eU64 I p16 c17 a3) (hd:pull_Sums a0 a1 a2 a3 a4 Q) :
  PFun prog 57 [.int .i64 a0,.agg #[.int .i64 a1.Rows,.int .i64 a1.Cols,.slice p1 a1.Start.length c2,.slice p4 a1.Col.length c5,.slice p7 a1.Val.length c8],.agg #[.int .i64 a2.N,.slice p10 a2.Has.length c11,.slice p13 a2.Vals.length c14],.slice p16 a3.length c17,.bool a4] I (o16_ Q):=by
 refine Fun.enter func57 r ntmps57 r (.c (.c (.c (.c (.c .n))))) fun w0 M=>?_
 refine .marks0 (.sr (.box1 r r r r fun b28=>?_))
 refine .boxA r r r fun b30=>?_
 refine .boxA r r r fun b32=>?_
 refine .ks 2 r (.nilS [7,6,5,4,3] r r (.sr (.loadW ia32 sz32 r (.s .z) r r r (.loadW ia58 sz58 r .z r r r ?_))))
 have hw77:=W_pull_sure (I:=I) R3 R6 R9 R12 R15 hd
 refine .call call58 r hw77 r r fun v60 I57 hl58 hv59=>?_
 obtain ⟨r56,p62,c63,p65,c66,p68,c69,p71,c72,p74,c75,rfl,R64,R67,R70,R73,R76,hd⟩:=hv59
 replace R3:=R3.mono hl58
 replace R6:=R6.mono hl58
 replace R9:=R9.mono hl58
 replace R12:=R12.mono hl58
 replace R15:=R15.mono hl58
 replace R18:=R18.mono hl58
 refine .ks 3 r (.storeA sz32 r r (.s .z) (.t (.t (.t (.t (.t .nil))))) r r (.storeA sz58 r r .z (.t (.t (.t .nil))) r r (.nilS [7,6,5,4,3] r r (.seq (.block (.sr (.load1 isAgg37 r (.s (.s .z)) r r r ?_)))))))
 have hw93:=W_ring_Is (I:=I57) hd
 refine .callP call102 r hw93 r r fun v94 hv95=>?_
 obtain ⟨r92,rfl,hd⟩:=hv95
 refine .ks 2 r (.nilS [22,7,6,5,4,3] r r (.condP r hd (fun hb96 hd=>?_) fun hb96 hd=>?_))
 · exact .sr (.ks 2 r (.nilS [11,10] r r (.drop .z (.drop .z (.drop .z (.ret (pretM .z results57 (.t r (.t r .n)) hl58 ⟨(([]:List Sum),8),_,_,r,(.nil _ _ _),hd⟩)))))))
 refine .sr (.fa un58 r sz3 r (o:=0) r r r (.load1 ia3 r .z r r r (.fa un32 r sz3 r (o:=1) r r r (.load1 ia3 r (.s .z) r r r (.ks 2 r (.nilS [26,7,6,5,4,3] r r (.condP r hd (fun hb97 hd=>?_) fun hb97 hd=>?_)))))))
 · exact .sr (.ks 2 r (.nilS [11,10] r r (.drop .z (.drop .z (.drop .z (.ret (pretM .z results57 (.t r (.t r .n)) hl58 ⟨(([]:List Sum),4),_,_,r,(.nil _ _ _),hd⟩)))))))
 refine .skipS [7,6,5,4,3] r r (.sr (.alloc1 zeroValue114 r r r fun b100=>?_))
 refine .nilS [12,7,6,5,4,3] r r (.seq (.sr (.fa un32 r sz3 r (o:=0) r r r (.load1 ia3 r (.s (.s .z)) r r r (.ks 2 r ?_)))))
 have hw119:=W_pull_asked_064 (I:=I57) (a0:=r56.1.Rows) (a1:=a3) (a2:=a4) R18 hd
 refine .callS (.f call117 r) .n hw119 r r fun v123 I120 l124 hl121 hv122=>?_
 obtain ⟨r125,b129,b130,p131,c132,b134,rfl,R133,rfl,hd⟩:=hv122
 have le135:=IH.le.trans hl58 hl121
 replace R18:=R18.mono hl121
 replace R64:=R64.mono hl121
 replace R67:=R67.mono hl121
 replace R70:=R70.mono hl121
 replace R73:=R73.mono hl121
 replace R76:=R76.mono hl121
 refine .re (m':=[pto b129 (.cells #[.int .i64 r125.1] 3 (0,0)),pto b130 (.cells #[.slice p131 r125.2.1.length c132] 40 (0,0)),pto b134 (.cells #[.bool r125.2.2] 4 (0,0)),pto b100 (.cells #[.slice none 0 0] 114 (0,0)),pto b32 (.cells #[.int .i64 r56.2.N,.slice p71 r56.2.Has.length c72,.slice p74 r56.2.Vals.length c75] 58 (0,0)),pto b30 (.cells #[.int .i64 r56.1.Rows,.int .i64 r56.1.Cols,.slice p62 r56.1.Start.length c63,.slice p65 r56.1.Col.length c66,.slice p68 r56.1.Val.length c69] 32 (0,0)),pto b28 (.cells #[.int .i64 a0] 37 (0,0)),Marks ([])]) r (.nilS [36,12,7,6,5] r r (.block (.own0 eSum 183 (.rangeF [] r call186 (.c (.s (.s (.s (.s (.s (.s (.s (.s .z)))))))) (.c (.s (.s (.s (.s (.s (.s (.s .z))))))) (.c (.s (.s (.s (.s (.s (.s .z)))))) (.c (.s (.s (.s (.s (.s .z))))) (.c (.s (.s (.s (.s .z)))) (.c .z (.c .z (.c .z (.c .z .n))))))))) fun lr D rc hrc=>?_))))
 refine ⟨_,W_pull_asked_1_839 (I:=I120) (lr:=lr) (Rr:=recA lr [] rc) (o0:=0) (o1:=a0) (o2:=r56.1) (o3:=r56.2) (o4:=([]:List Sum)) (o5:=r125.1) (o6:=r125.2.1) (o7:=r125.2.2) (b9:=b28) (b10:=b30) (p11:=p62) (c12:=c63) (p14:=p65) (c15:=c66) (p17:=p68) (c18:=c69) (b20:=b32) (p21:=p71) (c22:=c72) (p24:=p74) (c25:=c75) (b27:=b100) (p28:=none) (c29:=0) (b32:=b129) (b33:=b130) (p34:=p131) (c35:=c132) (b37:=b134) ?_ R64 R67 R70 R73 R76 R133 hd,?_⟩
 · skip
   intro I hJ y234 y235 y237 y248 y256 x262 p239 c240 p242 c243 p245 c246 p250 c251 p253 c254 p258 c259 Qy R241 R244 R247 R252 R255 hd
   replace R64:=R64.mono hJ
   replace R67:=R67.mono hJ
   replace R70:=R70.mono hJ
   replace R73:=R73.mono hJ
   replace R76:=R76.mono hJ
   replace R133:=R133.mono hJ
   obtain ⟨rfl,hd⟩:=hd
   refine RFun.mk hrc r fun w0 M=>?_
   refine .region (.ks 1 r (.nil' fun c w ho hs=>beginR (E':=[(5,_),(6,_),(7,_),(12,_),(13,_)]) ho ⟨r,r,r,r,r,trivial⟩ hs .z (.block (.sr (.load1 isAgg37 r (.s .z) r r r (.loadW ia32 sz32 r (.s (.s .z)) r r r (.ks 1 r (.loadW ia58 sz58 r (.s (.s (.s .z))) r r r ?_))))))))
   have hw270:=W_pull_row (I:=I) R241 R244 R247 R252 R255 hd
   refine .callP call118 r hw270 r r fun v271 hv272=>?_
   obtain ⟨r269,rfl,hd⟩:=hv272
   refine .ks 3 r (.allocA zv127 r r fun b273=>?_)
   refine .storeA sz127 r r .z (.t (.t .nil)) r r (.ks 1 r (.nilS [15,14,13,12] r r (.sr (.ks 1 r (.nilS [46,14,13,12] r r (.condP r hd (fun hb275 hd=>?_) fun hb275 hd=>?_))))))
   · refine .region (.load1 isAgg114 r (.s (.s (.s (.s (.s .z))))) r r r (.ks 1 r (.loadW ia127 sz127 r .z r r r (.build zeroValue183 un183 BI183 (.c r r r (.t .nil) (.c r r r (.s (.t (.t .nil))) .n)) (by exact ⟨⟨_,_,r,r,r⟩,⟨⟨_,_,r,r,r⟩,trivial⟩⟩) r r (.buildSlice 1 un114 sz183 zeroValue183 r r (.c r r r .n) r r fun b276=>?_)))))
     obtain ⟨hl278,hd⟩:=hd
     refine .append (ys:=[({ At:=x262,Val:=r269.1 }:Sum)]) 24 (.s (.s (.s (.s (.s (.s (.s .z))))))) un114 un114 IN183 r r r r r r r r r (.box .z (.one r) r) hl278 r r fun p279 c280=>?_
     refine .store1 sizeOf114 r r (.s (.s (.s (.s (.s (.s (.s .z))))))) (.t .nil) r ?_
     exact .nil' fun c w ho hs=>endR 0 (.inl rfl) (.refl _) (.s (.s (.s .z))) (.c (.s (.s (.s .z))) (.c (.s (.s (.s .z))) (.c (.s (.s (.s .z))) (.c (.s (.s (.s .z))) (.c .z .n))))) ⟨(true,0,(y256++([({ At:=x262,Val:=r269.1 }:Sum)]))),_,_,rfl,rfl,hd⟩ hs
   exact .skip' fun c w ho hs=>endR 0 (.inl rfl) (.refl _) (.s .z) (.c (.s .z) (.c (.s .z) (.c (.s .z) (.c (.s .z) (.c (.s .z) .n))))) ⟨(true,0,y256),_,_,rfl,rfl,hd⟩ hs
 intro v285 I282 l' hl283 hv284
 obtain ⟨r286,p290,c291,rfl,rfl,hd⟩:=hv284
 have le294:=IH.le.trans le135 hl283
 replace R64:=R64.mono hl283
 replace R67:=R67.mono hl283
 replace R70:=R70.mono hl283
 replace R73:=R73.mono hl283
 replace R76:=R76.mono hl283
 replace R133:=R133.mono hl283
 obtain ⟨hz,hd⟩:=hd
 refine ⟨_,_,r,fun hj=>?_,fun i hj=>absurd (hz.symm.trans hj) (by simp)⟩
 refine .re (m':=[Marks (D :: []),pto b28 (.cells #[.int .i64 a0] 37 (0,0)),pto b30 (.cells #[.int .i64 r56.1.Rows,.int .i64 r56.1.Cols,.slice p62 r56.1.Start.length c63,.slice p65 r56.1.Col.length c66,.slice p68 r56.1.Val.length c69] 32 (0,0)),pto b32 (.cells #[.int .i64 r56.2.N,.slice p71 r56.2.Has.length c72,.slice p74 r56.2.Vals.length c75] 58 (0,0)),pto b100 (.cells #[.slice p290 r286.2.length c291] 114 (0,0)),OwnSl eSum 183 p290 c291 r286.2,pto b129 (.cells #[.int .i64 r125.1] 3 (0,0)),pto b130 (.cells #[.slice p131 r125.2.1.length c132] 40 (0,0)),pto b134 (.cells #[.bool r125.2.2] 4 (0,0))]) r (.mkS [12] r r (.drop (.s .z) (.drop (.s .z) (.drop (.s .z) (.drop (.s (.s (.s .z))) (.drop (.s (.s (.s .z))) (.drop (.s (.s (.s .z))) (.sr (.load1 isAgg114 r (.s .z) r r r ?_)))))))))
 refine .ks 2 r (.nilS [11,10] r r (.drop (.s .z) (.pub (.s .z) fun I295 hl296 R297=>?_)))
 have le298:=IH.le.trans le294 hl296
 exact .ret (pretM .z results57 (.t r (.t r .n)) le298 ⟨(r286.2,0),_,_,r,R297,hd⟩)
theorem W_pull_Done_1_ac1 {I:IH} {o0:Int} {a0:Sum} {b2:Nat} {Q:Bool→Prop}  (hd:pull_Done_1_ac1 o0 a0 Q) :
  Fun prog 122 #[.agg (encSum a0).toArray,.pointer (some ⟨b2,0,none⟩)] I [pto b2 (.cells #[.int .i64 o0] 3 (0,0))] (fun I_ v l=>∃ r,v=.bool r∧l=[pto b2 (.cells #[.int .i64 o0] 3 (0,0))]∧Q r):=by
 refine Fun.enter (vs:=[.agg (encSum a0).toArray,.pointer (some ⟨b2,0,none⟩)]) func122 r ntmps122 r (.c (.c .n)) fun w0 M=>?_
 refine .sr (.boxA r r r fun b5=>?_)
 refine .ks 1 r (.nilS [2,1] r r (.sr (.fa un183 r sz3 r (o:=0) r r r (.load1 ia3 r .z r r r (.ks 2 r ?_)))))
 refine splitP hd (fun hb7 hd=>?_) fun hb7 hd=>?_
 · rw [hb7]
   exact .ks 6 r (.nilS [3,1] r r (.drop .z (.ret (oret results122 (.t r .n) (.refl _) (.c .z .n) ⟨true,r,r,hd⟩))))
 rw [hb7]
 exact .gyes r r r (.fa un183 r sz3 r (o:=0) r r r (.gyes r r r (.load1 ia3 r .z r r r (.gyes r r r (.load1 ia3 r (.s .z) r r r (.ks 3 r (.nilS [3,1] r r (.drop .z (.ret (oret results122 (.t r .n) (.refl _) (.c .z .n) ⟨(decide (o0≤a0.At)),r,r,hd⟩))))))))))
theorem W_slices_IndexFunc_api_Sum_api_Sum_a5e {I:IH} {o0:Int} {a0:List Sum} {b2:Nat} {p3:Option Addr} {c4:Nat} {Q:Int→Prop} (R5:RepSl eSum I p3 c4 a0) (hd:slices_IndexFunc_api_Sum_api_Sum_a5e o0 a0 Q) :
  Fun prog 189 #[.slice p3 a0.length c4,.func (.func 122) #[] #[.pointer (some ⟨b2,0,none⟩)]] I [pto b2 (.cells #[.int .i64 o0] 3 (0,0))] (fun I_ v l=>∃ r,v=.int .i64 r∧l=[pto b2 (.cells #[.int .i64 o0] 3 (0,0))]∧Q r):=by
 refine Fun.enter (vs:=[.slice p3 a0.length c4,.func (.func 122) #[] #[.pointer (some ⟨b2,0,none⟩)]]) func189 r ntmps189 r (.c (.c .n)) fun w0 M=>?_
 refine .sr (.ks 1 r (.nilS [1,0] r r (.seq (.sr (.ks 1 r (.len un114 r r r r (.ks 1 r (.nilS [8,7,1,0] r r (.block ?_)))))))))
 refine .loop hd (fun (s47:Int) c w=>∃ I_,IH.le I I_∧Ok ⟨19,[],none⟩ [(0,.slice p3 a0.length c4),(1,.func (.func 122) #[] #[.pointer (some ⟨b2,0,none⟩)]),(7,.int .i64 (a0.length:Int)),(8,.int .i64 s47)] c∧Sym w0 M I I_ [pto b2 (.cells #[.int .i64 o0] 3 (0,0))] w) (fun c w ho hs=>⟨I,(.refl _),ho.sub ⟨r,r,r,r,trivial⟩,hs.pick (.c .z .n)⟩) ?_
 rintro s47 next48 hd c w hst
 obtain ⟨I49,hl50,hok,hsym⟩:=hst
 replace R5:=R5.mono hl50
 refine Cod.at hok hsym (.sr (.ks 1 r (.nilS [9,8,7,1,0] r r (.seq (.condP r hd (fun hb52 hd=>?_) fun hb52 hd=>?_)))))
 · refine .skipS [8,7,1,0] r r (.seq (.block (.sr (.ks 2 r (.nilS [5,8,7,1,0] r r (.sr (.ks 3 r ?_)))))))
   obtain ⟨h53,x54,hx55,hd⟩:=hd
   obtain ⟨b56,o57,cs58,e59,hC60,hr61⟩:=R5.2 _ _ hx55
   cases hr61
   refine .ixa un114 sz183 r e59 r h53 (idx_lt hx55 h53) r r (.ldW isAgg183 sz183 hC60 r r r r ?_)
   have hw62:=W_pull_Done_1_ac1 (I:=I49) (o0:=o0) (a0:=x54) (b2:=b2) hd
   refine .callS (.c call122 r r) (.c .z .n) hw62 r r fun v66 I63 l67 hl64 hv65=>?_
   obtain ⟨r68,rfl,rfl,hd⟩:=hv65
   have le69:=IH.le.trans hl50 hl64
   replace R5:=R5.mono hl64
   replace hC60:=hC60.mono hl64
   refine .re (m':=[pto b2 (.cells #[.int .i64 o0] 3 (0,0))]) r (.nilS [16,5,8,7,1,0] r r (.condP r hd (fun hb70 hd=>?_) fun hb70 hd=>?_))
   · exact .sr (.ks 2 r (.nilS [4,1] r r (.ret (oret results189 (.t r .n) le69 (.c .z .n) ⟨s47,r,r,hd⟩))))
   exact .skipS [8,7,1,0] r r (.region (.ks 2 r (.nil' fun c w ho hs=>⟨(w64 (s47+1)),hd,I63,le69,ho.sub ⟨r,r,r,r,trivial⟩,hs.pick (.c .z .n)⟩)))
 exact .exitS [1] r r (.sr (.ks 1 r (.nilS [4,1] r r (.ret (oret results189 (.t r .n) hl50 (.c .z .n) ⟨(-1),r,r,hd⟩)))))
theorem W_slices_ContainsFunc_api_Sum_api_Sum_927 {I:IH} {o0:Int} {a0:List Sum} {b2:Nat} {p3:Option Addr} {c4:Nat} {Q:Bool→Prop} (R5:RepSl eSum I p3 c4 a0) (hd:slices_ContainsFunc_api_Sum_api_Sum_927 o0 a0 Q) :
  Fun prog 121 #[.slice p3 a0.length c4,.func (.func 122) #[] #[.pointer (some ⟨b2,0,none⟩)]] I [pto b2 (.cells #[.int .i64 o0] 3 (0,0))] (fun I_ v l=>∃ r,v=.bool r∧l=[pto b2 (.cells #[.int .i64 o0] 3 (0,0))]∧Q r):=by
 refine Fun.enter (vs:=[.slice p3 a0.length c4,.func (.func 122) #[] #[.pointer (some ⟨b2,0,none⟩)]]) func121 r ntmps121 r (.c (.c .n)) fun w0 M=>?_
 refine .sr (.ks 1 r (.nilS [1,0] r r (.sr (.ks 2 r ?_))))
 have hw6:=W_slices_IndexFunc_api_Sum_api_Sum_a5e (I:=I) (o0:=o0) (a0:=a0) (b2:=b2) R5 hd
 refine .callS (.f call189 r) (.c .z .n) hw6 r r fun v10 I7 l11 hl8 hv9=>?_
 obtain ⟨r12,rfl,rfl,hd⟩:=hv9
 replace R5:=R5.mono hl8
 exact .re (m':=[pto b2 (.cells #[.int .i64 o0] 3 (0,0))]) r (.ks 2 r (.nilS [4,1] r r (.ret (oret results121 (.t r .n) hl8 (.c .z .n) ⟨(decide (0≤r12)),r,r,hd⟩))))
theorem W_pull_Done {I:IH} {a0:Int} {a1:Int} {a2:List Sum} {p1:Option Addr} {c2:Nat} {Q:(Vec×Int)→Prop} (R3:RepSl eSum I p1 c2 a2) (hd:pull_Done a0 a1 a2 Q) :
  PFun prog 59 [.int .i64 a0,.int .i64 a1,.slice p1 a2.length c2] I (o17_ Q):=by
 refine Fun.enter func59 r ntmps59 r (.c (.c (.c .n))) fun w0 M=>?_
 refine .sr (.box1 r r r r fun b11=>?_)
 refine .allocA zv54 r r fun b13=>?_
 refine .ks 1 r (.nilS [6,4,2,0] r r (.seq (.block (.sr (.ks 1 r ?_)))))
 have hw39:=W_ring_Is (I:=I) hd
 refine .callP call102 r hw39 r r fun v40 hv41=>?_
 obtain ⟨r38,rfl,hd⟩:=hv41
 refine .ks 2 r (.nilS [14,6,4,2,0] r r (.condP r hd (fun hb42 hd=>?_) fun hb42 hd=>?_))
 · exact .sr (.build zv54 un54 BI54 .n (by exact trivial) r r (.storeA sz54 r r .z (.t (.t .nil)) r r (.ks 1 r (.nilS [7,6] r r (.drop (.s .z) (.ret (pret results59 (.w ia54 sz54 r .z r (.t r .n)) (.refl _) ⟨(({ N:=0,Items:=([]:List Item) }:Vec),8),_,_,r,(.nil _ _ _),hd⟩)))))))
 refine .seq (.sr (.load1 ia3 r (.s .z) r r r (.ks 2 r ?_)))
 refine splitP hd (fun hb43 hd=>?_) fun hb43 hd=>?_
 · rw [hb43]
   refine .ks 4 r (.nilS [19,6,4,2,0] r r (.condKT r r (.skipS [19,6,4,2,0] r r (.condKT r r (.sr (.build zv54 un54 BI54 .n (by exact trivial) r r (.storeA sz54 r r .z (.t (.t .nil)) r r (.ks 1 r (.nilS [7,6] r r ?_)))))))))
   exact .drop (.s .z) (.ret (pret results59 (.w ia54 sz54 r .z r (.t r .n)) (.refl _) ⟨(({ N:=0,Items:=([]:List Item) }:Vec),3),_,_,r,(.nil _ _ _),hd⟩))
 rw [hb43]
 refine .gyes r r r (.load1 ia3 r (.s .z) r r r (.ks 3 r (.nilS [19,6,4,2,0] r r (.condP r hd (fun hb44 hd=>?_) fun hb44 hd=>?_))))
 · exact .skipS [19,6,4,2,0] r r (.condKT r hb44 (.sr (.build zv54 un54 BI54 .n (by exact trivial) r r (.storeA sz54 r r .z (.t (.t .nil)) r r (.ks 1 r (.nilS [7,6] r r (.drop (.s .z) (.ret (pret results59 (.w ia54 sz54 r .z r (.t r .n)) (.refl _) ⟨(({ N:=0,Items:=([]:List Item) }:Vec),3),_,_,r,(.nil _ _ _),hd⟩)))))))))
 refine .region (.ks 1 r (.mkFn r r r r ?_))
 have hw45:=W_slices_ContainsFunc_api_Sum_api_Sum_927 (I:=I) (o0:=a1) (a0:=a2) (b2:=b11) R3 hd
 refine .callS (.f call121 r) (.c (.s .z) .n) hw45 r r fun v49 I46 l50 hl47 hv48=>?_
 obtain ⟨r51,rfl,rfl,hd⟩:=hv48
 replace R3:=R3.mono hl47
 refine .re (m':=[pto b11 (.cells #[.int .i64 a1] 3 (0,0)),pto b13 (.cells #[.int .i64 0,.slice none 0 0] 54 (0,0))]) r (.ks 1 r (.nilS [19,6,4,2,0] r r (.condP r hd (fun hb52 hd=>?_) fun hb52 hd=>?_)))
 · exact .sr (.build zv54 un54 BI54 .n (by exact trivial) r r (.storeA sz54 r r (.s .z) (.t (.t .nil)) r r (.ks 1 r (.nilS [7,6] r r (.drop .z (.ret (pret results59 (.w ia54 sz54 r .z r (.t r .n)) hl47 ⟨(({ N:=0,Items:=([]:List Item) }:Vec),3),_,_,r,(.nil _ _ _),hd⟩)))))))
 refine .skipS [6,4,2,0] r r (.seq (.sr (.ks 1 r (.len un114 r r r r (.ks 1 r (.nilS [32,31,6,4,2,0] r r (.block (.loop hd (fun (s134:Int) c w=>∃ I_,IH.le I46 I_∧Ok ⟨86,[],none⟩ [(0,.int .i64 a0),(2,.slice p1 a2.length c2),(4,.pointer (some ⟨b11,0,none⟩)),(6,.pointer (some ⟨b13,0,none⟩)),(31,.int .i64 (a2.length:Int)),(32,.int .i64 s134)] c∧Sym w0 M I I_ [pto b11 (.cells #[.int .i64 a1] 3 (0,0)),pto b13 (.cells #[.int .i64 0,.slice none 0 0] 54 (0,0))] w) (fun c w ho hs=>⟨I46,(.refl _),ho.sub ⟨r,r,r,r,r,r,trivial⟩,hs.pick (.c .z (.c .z .n))⟩) ?_))))))))
 rintro s134 next135 hd c w hst
 obtain ⟨I136,hl137,hok,hsym⟩:=hst
 have le138:=IH.le.trans hl47 hl137
 replace R3:=R3.mono hl137
 refine Cod.at hok hsym (.sr (.ks 1 r (.nilS [33,32,31,6,4,2,0] r r (.seq (.condP r hd (fun hb140 hd=>?_) fun hb140 hd=>?_)))))
 · refine .skipS [32,31,6,4,2,0] r r (.seq (.block (.sr (.ks 2 r (.nilS [8,32,31,6,4,2,0] r r (.seq (.dr [0,1,2,3,4,5,6,7,8,9,10,11,12,13,14,15] 16 (.fk 3 r ?_))))))))
   refine splitP hd (fun hb141 hd=>?_) fun hb141 hd=>?_
   · rw [hb141]
     refine .fk 3 r ?_
     obtain ⟨h142,x143,hx144,hd⟩:=hd
     obtain ⟨b145,o146,cs147,e148,hC149,hr150⟩:=R3.2 _ _ hx144
     cases hr150
     refine .g r r r (fun _=>.gyes r r r (.ixa un114 sz183 r e148 r h142 (idx_lt hx144 h142) r r .mk)) (.g r r r (fun _=>.gyes r r r (.fa un183 r sz3 r (o:=o146+(w64 (s134 - 1)).toNat*3) r r r .mk)) (.g r r r (fun _=>.gyes r r r (.ld1 (j:=0) ia3 hC149 r r r r r .mk)) (.fk 2 r ?_)))
     obtain ⟨h151,x152,hx153,hd⟩:=hd
     obtain ⟨b154,o155,cs156,e157,hC158,hr159⟩:=R3.2 _ _ hx153
     cases hr159
     refine .g r r r (fun _=>.gyes r r r (.ixa un114 sz183 r e157 r h151 (idx_lt hx153 h151) r r .mk)) (.g r r r (fun _=>.gyes r r r (.fa un183 r sz3 r (o:=o155+s134.toNat*3) r r r .mk)) (.g r r r (fun _=>.gyes r r r (.ld1 (j:=0) ia3 hC158 r r r r r .mk)) (.fk 2 r (.e2 16 (.nilS [50,32,31,6,4,2,0] r r (.condP r hd (fun hb160 hd=>?_) fun hb160 hd=>?_))))))
     · exact .sr (.build zv54 un54 BI54 .n (by exact trivial) r r (.storeA sz54 r r (.s .z) (.t (.t .nil)) r r (.ks 1 r (.nilS [7,6] r r (.drop .z (.ret (pret results59 (.w ia54 sz54 r .z r (.t r .n)) le138 ⟨(({ N:=0,Items:=([]:List Item) }:Vec),6),_,_,r,(.nil _ _ _),hd⟩)))))))
     exact .skipS [32,31,6,4,2,0] r r (.region (.ks 2 r (.nil' fun c w ho hs=>⟨(w64 (s134+1)),hd,I136,hl137,ho.sub ⟨r,r,r,r,r,r,trivial⟩,hs.pick (.c .z (.c .z .n))⟩)))
   rw [hb141]
   exact .fk 13 r (.e2 16 (.nilS [50,32,31,6,4,2,0] r r (.condKF r r (.skipS [32,31,6,4,2,0] r r (.region (.ks 2 r (.nil' fun c w ho hs=>⟨(w64 (s134+1)),hd,I136,hl137,ho.sub ⟨r,r,r,r,r,r,trivial⟩,hs.pick (.c .z (.c .z .n))⟩)))))))
 refine .exitS [6,4,2,0] r r (.sr (.load1 ia3 r .z r r r (.build zv54 un54 BI54 (.c r r r (.t .nil) .n) (by exact ⟨⟨_,_,r,r,r⟩,trivial⟩) r r (.allocA zv54 r r fun b163=>?_))))
 refine .storeA sz54 r r .z (.t (.t .nil)) r r (.nilS [9,6,2,0] r r (.drop (.s .z) (.seq (.sr (.ks 1 r (.len un114 r r r r (.ks 1 r (.nilS [57,56,55,9,6,0] r r (.block ?_)))))))))
 refine .own0 eItem 51 (.loop hd (fun (s:(List Item)×Int) c w=>match s with | (s279,s283)=>∃ I_ p280 c281,IH.le I136 I_∧Ok ⟨86,[],none⟩ [(0,.int .i64 a0),(6,.pointer (some ⟨b13,0,none⟩)),(9,.pointer (some ⟨b163,0,none⟩)),(55,.slice p1 a2.length c2),(56,.int .i64 (a2.length:Int)),(57,.int .i64 s283)] c∧Sym w0 M I I_ [pto b13 (.cells #[.int .i64 0,.slice none 0 0] 54 (0,0)),pto b163 (.cells #[.int .i64 a1,.slice p280 s279.length c281] 54 (0,0)),OwnSl eItem 51 p280 c281 s279] w) (fun c w ho hs=>⟨I136,_,_,(.refl _),ho.sub ⟨r,r,r,r,r,r,trivial⟩,hs.pick (.c (.s (.s .z)) (.c (.s .z) (.c .z .n)))⟩) ?_)
 rintro ⟨s279,s283⟩ next285 hd c w hst
 obtain ⟨I286,p280,c281,hl287,hok,hsym⟩:=hst
 have le288:=IH.le.trans le138 hl287
 have le289:=IH.le.trans hl137 hl287
 replace R3:=R3.mono hl287
 refine Cod.at hok hsym (.sr (.ks 1 r (.nilS [58,57,56,55,9,6,0] r r (.seq (.condP r hd (fun hb291 hd=>?_) fun hb291 hd=>?_)))))
 · refine .skipS [57,56,55,9,6,0] r r (.seq (.block (.sr ?_)))
   obtain ⟨h303,x304,hx305,hd⟩:=hd
   obtain ⟨b306,o307,cs308,e309,hC310,hr311⟩:=R3.2 _ _ hx305
   cases hr311
   refine .ixa un114 sz183 r e309 r h303 (idx_lt hx305 h303) r r (.ldW isAgg183 sz183 hC310 r r r r (.allocA zeroValue183 r r fun b312=>?_))
   refine .storeA sz183 r r .z (.t (.t (.t .nil))) r r (.nilS [11,57,56,55,9,6,0] r r (.sr (.ks 1 r (.fa un183 r sz127 r (o:=1) r r r (.loadA ia127 sz127 r .z (.s (.t (.t .nil))) r r r ?_)))))
   have hw319:=W_ring_Narrow (I:=I286) hd
   refine .callP call110 r hw319 r r fun v320 hv321=>?_
   obtain ⟨r318,rfl,hd⟩:=hv321
   refine .ks 5 r (.nilS [13,12,11,57,56,55,9,6,0] r r (.seq (.sr (.ks 2 r (.nilS [69,12,11,57,56,55,9,6,0] r r (.condP r hd (fun hb323 hd=>?_) fun hb323 hd=>?_))))))
   · exact .sr (.build zv54 un54 BI54 .n (by exact trivial) r r (.storeA sz54 r r (.s .z) (.t (.t .nil)) r r (.ks 1 r (.nilS [7,6] r r (.drop .z (.drop (.s .z) (.drop (.s .z) (.ret (pret results59 (.w ia54 sz54 r .z r (.t r .n)) le288 ⟨(({ N:=0,Items:=([]:List Item) }:Vec),12),_,_,r,(.nil _ _ _),hd⟩)))))))))
   refine .skipS [12,11,57,56,55,9,6,0] r r (.sr (.ks 2 r ?_))
   have hw329:=W_ring_Zero (I:=I286) hd
   refine .callP call79 r hw329 r r fun v330 hv331=>?_
   obtain ⟨r328,rfl,hd⟩:=hv331
   refine .ks 1 r (.nilS [74,12,11,57,56,55,9,6,0] r r (.condP r hd (fun hb332 hd=>?_) fun hb332 hd=>?_))
   · refine .region (.fa un54 r sz52 r (o:=1) r r r (.load1 ia52 r (.s (.s .z)) r r r (.fa un183 r sz3 r (o:=0) r r r (.load1 ia3 r .z r r r (.ks 1 r (.build zv51 un51 BI51 (.c r r r (.t .nil) (.c r r r (.s (.t .nil)) .n)) (by exact ⟨⟨_,_,r,r,r⟩,⟨⟨_,_,r,r,r⟩,trivial⟩⟩) r r (.buildSlice 1 un52 sz51 zv51 r r (.c r r r .n) r r fun b333=>?_)))))))
     obtain ⟨hl335,hd⟩:=hd
     refine .append (ys:=[({ At:=x304.At,Val:=r318.1 }:Item)]) 16 (.s (.s (.s (.s .z)))) un52 un52 IN51 r r r r r r r r r (.box .z (.one r) r) hl335 r r fun p336 c337=>?_
     exact .fa un54 r sz52 r (o:=1) r r r (.store1 sz52 r r (.s (.s (.s (.s .z)))) (.s (.t .nil)) r (.nilS [57,56,55,9,6,0] r r (.drop (.s .z) (.drop (.s .z) (.region (.ks 2 r (.nil' fun c w ho hs=>⟨((s279++([({ At:=x304.At,Val:=r318.1 }:Item)])),w64 (s283+1)),hd,I286,_,_,hl287,ho.sub ⟨r,r,r,r,r,r,trivial⟩,hs.pick (.c (.s .z) (.c (.s .z) (.c .z .n)))⟩)))))))
   exact .skipS [57,56,55,9,6,0] r r (.drop .z (.region (.ks 2 r (.nil' fun c w ho hs=>⟨(s279,w64 (s283+1)),hd,I286,_,_,hl287,ho.sub ⟨r,r,r,r,r,r,trivial⟩,hs.pick (.c .z (.c .z (.c .z .n)))⟩))))
 refine .exitS [9,6] r r (.sr (.loadW ia54 sz54 r (.s .z) r r r (.storeA sz54 r r .z (.t (.t .nil)) r r (.ks 1 r (.nilS [7,6] r r (.drop (.s .z) (.pub (.s .z) fun I339 hl340 R341=>?_)))))))
 have le342:=IH.le.trans le288 hl340
 have le343:=IH.le.trans le289 hl340
 have le344:=IH.le.trans hl287 hl340
 exact .ret (pret results59 (.w ia54 sz54 r .z r (.t r .n)) le342 ⟨(({ N:=a1,Items:=s279 }:Vec),0),_,_,r,R341,hd⟩)
end Go.Proofs.YtaefnmlbnkmahaaGreat
