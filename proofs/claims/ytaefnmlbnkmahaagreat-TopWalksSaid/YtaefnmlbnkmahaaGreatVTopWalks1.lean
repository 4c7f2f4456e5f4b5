/- The walks (printed by a program of ours). -/
import Derived.Test.YtaefnmlbnkmahaaGreatV2
namespace Go.Proofs.YtaefnmlbnkmahaaGreat
open Go Go.Fw
set_option linter.unusedVariables false
set_option linter.unusedSimpArgs false
set_option maxRecDepth 8000
set_option maxHeartbeats 1000000
open Tryz
theorem W_law21_Within {I:IH} {a0:Int} {a1:Int} {Q:Int→Prop}  (hd:law21_Within a0 a1 Q) :
  PFun prog 16 [.int .i64 a0,.int .i64 a1] I (fun _=>o0_ Q):=by
 refine Fun.enter func16 r ntmps16 r (.c (.c .n)) fun w0 M=>?_
 refine .sr (.ks 1 r (.nilS [1,0] r r (.seq (.sr (.ks 3 r ?_)))))
 refine splitP hd (fun hb1 hd=>?_) fun hb1 hd=>?_
 · rw [hb1]
   exact .ks 3 r (.nilS [10,1,0] r r (.condKT r r (.sr (.ks 1 r (.nilS [4] r r (.ret (pret results16 (.t r .n) (.refl _) ⟨0,r,hd⟩)))))))
 rw [hb1]
 refine .ks 3 r (.nilS [10,1,0] r r (.condP r hd (fun hb2 hd=>?_) fun hb2 hd=>?_))
 · exact .sr (.ks 1 r (.nilS [4] r r (.ret (pret results16 (.t r .n) (.refl _) ⟨0,r,hd⟩))))
 refine .skipS [1,0] r r (.sr (.ks 2 r ?_))
 obtain ⟨hz3,hd⟩:=hd
 exact .rem r r hz3 r r (.ks 1 r (.nilS [4] r r (.ret (pret results16 (.t r .n) (.refl _) ⟨(a0.tmod a1),r,hd⟩))))
theorem W_law21_Graph {I:IH} {a0:Graph} {p1:Option Addr} {c2:Nat} {Q:Graph→Prop} (R3:RepSl eEdge I p1 c2 a0.Edges) (hd:law21_Graph a0 Q) :
  OFun prog 15 [.agg #[.int .i64 a0.N,.slice p1 a0.Edges.length c2]] I (fun _=>o1_ Q):=by
 refine Fun.enter func15 r ntmps15 r (.c .n) fun w0 M=>?_
 refine .sr (.boxA r r r fun b11=>?_)
 refine .allocA zv24 r r fun b13=>?_
 refine .nilS [2,1] r r (.sr (.fa un24 r sz3 r (o:=0) r r r (.load1 ia3 r (.s .z) r r r ?_)))
 have hw22:=W_law21_Within (I:=I) hd
 refine .callP call16 r hw22 r r fun v23 hv24=>?_
 obtain ⟨r21,rfl,hd⟩:=hv24
 refine .build zv24 un24 BI24 (.c r r r (.t .nil) .n) (by exact ⟨⟨_,_,r,r,r⟩,trivial⟩) r r (.allocA zv24 r r fun b25=>?_)
 refine .storeA sz24 r r .z (.t (.t .nil)) r r (.nilS [3,2,1] r r (.seq (.sr (.ks 1 r (.nilS [4,3,2,1] r r (.block (.own0 eEdge 27 (.loop hd (fun (s:(List Edge)×Int) c w=>match s with | (s125,s129)=>∃ I_ p126 c127,IH.le I I_∧Ok ⟨51,[],none⟩ [(1,.pointer (some ⟨b11,0,none⟩)),(2,.pointer (some ⟨b13,0,none⟩)),(3,.pointer (some ⟨b25,0,none⟩)),(4,.int .i64 s129)] c∧Sym w0 M I I_ [pto b11 (.cells #[.int .i64 a0.N,.slice p1 a0.Edges.length c2] 24 (0,0)),pto b13 (.cells #[.int .i64 0,.slice none 0 0] 24 (0,0)),pto b25 (.cells #[.int .i64 r21,.slice p126 s125.length c127] 24 (0,0)),OwnSl eEdge 27 p126 c127 s125] w) (fun c w ho hs=>⟨I,_,_,(.refl _),ho.sub ⟨r,r,r,r,trivial⟩,hs.pick (.c (.s (.s (.s .z))) (.c (.s (.s .z)) (.c (.s .z) (.c .z .n))))⟩) ?_))))))))
 rintro ⟨s125,s129⟩ next131 hd c w hst
 obtain ⟨I132,p126,c127,hl133,hok,hsym⟩:=hst
 replace R3:=R3.mono hl133
 refine Cod.at hok hsym (.seq (.sr (.ks 1 r (.fa un24 r sz22 r (o:=1) r r r (.load1 ia22 r .z r r r (.len un22 r r r r (.ks 2 r ?_)))))))
 refine splitP hd (fun hb137 hd=>?_) fun hb137 hd=>?_
 · rw [hb137]
   refine .ks 4 r ?_
   refine splitP hd (fun hb138 hd=>?_) fun hb138 hd=>?_
   · rw [hb138]
     refine .gyes r r r (.fa un24 r sz3 r (o:=0) r r r (.gyes r r r (.load1 ia3 r (.s (.s .z)) r r r (.ks 2 r (.nilS [23,4,3,2,1] r r (.condP r hd (fun hb139 hd=>?_) fun hb139 hd=>?_))))))
     · refine .skipS [4,3,2,1] r r (.seq (.block (.sr (.fa un24 r sz22 r (o:=1) r r r (.load1 ia22 r .z r r r (.ks 1 r ?_))))))
       obtain ⟨h151,x152,hx153,hd⟩:=hd
       obtain ⟨b154,o155,cs156,e157,hC158,hr159⟩:=R3.2 _ _ hx153
       cases hr159
       refine .ixa un22 sz27 r e157 r h151 (idx_lt hx153 h151) r r (.ldW ia27 sz27 hC158 r r r r (.allocA zv27 r r fun b160=>?_))
       refine .storeA sz27 r r .z (.t (.t (.t .nil))) r r (.nilS [5,4,3,2,1] r r (.dr [0,1,2,3,4,5,7,8,9,10,12,13,14,6,11,15,16,17] 18 (.g r r r (fun _=>.fa un24 r sz22 r (o:=1) r r r .mk) (.g r r r (fun _=>.load1 ia22 r (.s (.s (.s .z))) r r r .mk) (.g r r r (fun _=>.fa un27 r sz3 r (o:=0) r r r .mk) (.g r r r (fun _=>.load1 ia3 r .z r r r .mk) (.g r r r (fun _=>.fa un24 r sz3 r (o:=0) r r r .mk) (.g r r r (fun _=>.load1 ia3 r (.s (.s (.s .z))) r r r .mk) (.g r r r (fun _=>.fa un27 r sz3 r (o:=1) r r r .mk) ?_)))))))))
       refine .g r r r (fun _=>.load1 ia3 r .z r r r .mk) (.g r r r (fun _=>.fa un24 r sz3 r (o:=0) r r r .mk) (.g r r r (fun _=>.load1 ia3 r (.s (.s (.s .z))) r r r .mk) (.g r r r (fun _=>.fa un27 r sz2 r (o:=2) r r r .mk) (.g r r r (fun _=>.load1 ia2 r .z r r r .mk) (.fk 1 r (.ww r fun ex=>?_))))))
       have hw163:=W_law21_Within (I:=I132) hd
       refine .callP call16 r hw163 r r fun v164 hv165=>?_
       obtain ⟨r162,rfl,hd⟩:=hv165
       refine .so 5 r r r (.ck 1 r r (.cg r r r r (fun _=>.load1 ia2 r .z r r r .mk) (.cg r r r r (fun _=>.fa un27 r sz2 r (o:=2) r r r .mk) (.cg r r r r (fun _=>.load1 ia3 r (.s (.s (.s .z))) r r r .mk) (.cg r r r r (fun _=>.fa un24 r sz3 r (o:=0) r r r .mk) (.cg r r r r (fun _=>.load1 ia3 r .z r r r .mk) (.cg r r r r (fun _=>.fa un27 r sz3 r (o:=1) r r r .mk) (.cg r r r r (fun _=>.load1 ia22 r (.s (.s (.s .z))) r r r .mk) (.cg r r r r (fun _=>.fa un24 r sz22 r (o:=1) r r r .mk) trivial))))))))) (.ww r fun ex=>?_)
       have hw167:=W_law21_Within (I:=I132) hd
       refine .callP call16 r hw167 r r fun v168 hv169=>?_
       obtain ⟨r166,rfl,hd⟩:=hv169
       refine .so 5 r r r (.ck 1 r r (.cg r r r r (fun _=>.load1 ia2 r .z r r r .mk) (.cg r r r r (fun _=>.fa un27 r sz2 r (o:=2) r r r .mk) (.cg r r r r (fun _=>.load1 ia22 r (.s (.s (.s .z))) r r r .mk) (.cg r r r r (fun _=>.fa un24 r sz22 r (o:=1) r r r .mk) trivial))))) (.g r r r (fun _=>.build zv27 un27 BI27 (.c r r r (.t .nil) (.c r r r (.s (.t .nil)) (.c r r r (.s (.s (.t .nil))) .n))) (by exact ⟨⟨_,_,r,r,r⟩,⟨⟨_,_,r,r,r⟩,⟨⟨_,_,r,r,r⟩,trivial⟩⟩⟩) r r .mk) (.ww r fun ex=>?_))
       refine .buildSlice 1 un22 sz27 zv27 r r (.c r r r .n) r r fun b170=>?_
       refine .so 6 r r r (.cg r r r r (fun _=>.load1 ia22 r (.s (.s (.s (.s .z)))) r r r .mk) (.cg r r r r (fun _=>.fa un24 r sz22 r (o:=1) r r r .mk) trivial)) (.ww r fun ex=>?_)
       obtain ⟨hl172,hd⟩:=hd
       refine .append (ys:=[({ From:=r162,To:=r166,W:=bnd .i64 x152.W 2147483647 }:Edge)]) 24 (.s (.s (.s (.s (.s .z))))) un22 un22 IN27 r r r r r r r r r (.box .z (.one r) r) hl172 r r fun p173 c174=>?_
       exact .so 6 r r r trivial (.e2 18 (.fa un24 r sz22 r (o:=1) r r r (.store1 sz22 r r (.s (.s (.s (.s (.s .z))))) (.s (.t .nil)) r (.nilS [4,3,2,1] r r (.drop (.s .z) (.drop (.s .z) (.region (.ks 3 r (.nil' fun c w ho hs=>⟨((s125++([({ From:=r162,To:=r166,W:=bnd .i64 x152.W 2147483647 }:Edge)])),w64 (s129+1)),hd,I132,_,_,hl133,ho.sub ⟨r,r,r,r,trivial⟩,hs.pick (.c (.s .z) (.c (.s .z) (.c (.s .z) (.c .z .n))))⟩)))))))))
     exact .exitS [3,2] r r (.drop .z (.sr (.loadW ia24 sz24 r (.s .z) r r r (.storeA sz24 r r .z (.t (.t .nil)) r r (.nilS [2] r r (.drop (.s .z) (.ret (oret results15 (.w ia24 sz24 r .z r .n) hl133 (.c (.s .z) .n) ⟨({ N:=r21,Edges:=s125 }:Graph),_,_,r,r,hd⟩))))))))
   rw [hb138]
   refine .ks 4 r (.nilS [23,4,3,2,1] r r (.condKF r r (.exitS [3,2] r r (.drop .z (.sr (.loadW ia24 sz24 r (.s .z) r r r (.storeA sz24 r r .z (.t (.t .nil)) r r (.nilS [2] r r (.drop (.s .z) ?_)))))))))
   exact .ret (oret results15 (.w ia24 sz24 r .z r .n) hl133 (.c (.s .z) .n) ⟨({ N:=r21,Edges:=s125 }:Graph),_,_,r,r,hd⟩)
 rw [hb137]
 refine .ks 8 r (.nilS [23,4,3,2,1] r r (.condKF r r (.exitS [3,2] r r (.drop .z (.sr (.loadW ia24 sz24 r (.s .z) r r r (.storeA sz24 r r .z (.t (.t .nil)) r r (.nilS [2] r r (.drop (.s .z) ?_)))))))))
 exact .ret (oret results15 (.w ia24 sz24 r .z r .n) hl133 (.c (.s .z) .n) ⟨({ N:=r21,Edges:=s125 }:Graph),_,_,r,r,hd⟩)
theorem W_ref05_Right {I:IH} {a0:Graph} {p1:Option Addr} {c2:Nat} {Q:Int→Prop} (R3:RepSl eEdge I p1 c2 a0.Edges) (hd:ref05_Right a0 Q) :
  PFun prog 49 [.agg #[.int .i64 a0.N,.slice p1 a0.Edges.length c2]] I (fun _=>o0_ Q):=by
 refine Fun.enter func49 r ntmps49 r (.c .n) fun w0 M=>?_
 refine .sr (.boxA r r r fun b6=>?_)
 refine .ks 1 r (.nilS [1] r r (.seq (.sr (.fa un24 r sz3 r (o:=0) r r r (.load1 ia3 r .z r r r (.ks 1 r (.nilS [8,1] r r (.condP r hd (fun hb9 hd=>?_) fun hb9 hd=>?_))))))))
 · exact .sr (.ks 1 r (.nilS [2] r r (.drop .z (.ret (pret results49 (.t r .n) (.refl _) ⟨3,r,hd⟩)))))
 refine .skipS [1] r r (.seq (.sr (.fa un24 r sz3 r (o:=0) r r r (.load1 ia3 r .z r r r (.ks 2 r ?_)))))
 refine splitP hd (fun hb12 hd=>?_) fun hb12 hd=>?_
 · rw [hb12]
   exact .ks 5 r (.nilS [17,1] r r (.condKT r r (.sr (.ks 1 r (.nilS [2] r r (.drop .z (.ret (pret results49 (.t r .n) (.refl _) ⟨5,r,hd⟩))))))))
 rw [hb12]
 refine .gyes r r r (.fa un24 r sz22 r (o:=1) r r r (.gyes r r r (.load1 ia22 r .z r r r (.gyes r r r (.len un22 r r r r (.ks 2 r (.nilS [17,1] r r (.condP r hd (fun hb13 hd=>?_) fun hb13 hd=>?_))))))))
 · exact .sr (.ks 1 r (.nilS [2] r r (.drop .z (.ret (pret results49 (.t r .n) (.refl _) ⟨5,r,hd⟩)))))
 refine .skipS [1] r r (.seq (.sr (.ks 1 r (.nilS [3,1] r r (.block (.loop hd (fun (s164:Int) c w=>∃ I_,IH.le I I_∧Ok ⟨75,[],none⟩ [(1,.pointer (some ⟨b6,0,none⟩)),(3,.int .i64 s164)] c∧Sym w0 M I I_ [pto b6 (.cells #[.int .i64 a0.N,.slice p1 a0.Edges.length c2] 24 (0,0))] w) (fun c w ho hs=>⟨I,(.refl _),ho.sub ⟨r,r,trivial⟩,hs.pick (.c .z .n)⟩) ?_))))))
 rintro s164 next165 hd c w hst
 obtain ⟨I166,hl167,hok,hsym⟩:=hst
 replace R3:=R3.mono hl167
 refine Cod.at hok hsym (.seq (.sr (.ks 1 r (.fa un24 r sz22 r (o:=1) r r r (.load1 ia22 r .z r r r (.len un22 r r r r (.ks 1 r (.nilS [22,3,1] r r (.condP r hd (fun hb169 hd=>?_) fun hb169 hd=>?_)))))))))
 · refine .skipS [3,1] r r (.seq (.block (.sr (.fa un24 r sz22 r (o:=1) r r r (.load1 ia22 r .z r r r (.ks 1 r ?_))))))
   obtain ⟨h181,x182,hx183,hd⟩:=hd
   obtain ⟨b184,o185,cs186,e187,hC188,hr189⟩:=R3.2 _ _ hx183
   cases hr189
   refine .ixa un22 sz27 r e187 r h181 (idx_lt hx183 h181) r r (.ldW ia27 sz27 hC188 r r r r (.allocA zv27 r r fun b190=>?_))
   refine .storeA sz27 r r .z (.t (.t (.t .nil))) r r (.nilS [4,3,1] r r (.sr (.fa un27 r sz3 r (o:=0) r r r (.load1 ia3 r .z r r r (.ks 2 r ?_)))))
   refine splitP hd (fun hb192 hd=>?_) fun hb192 hd=>?_
   · rw [hb192]
     exact .ks 18 r (.nilS [51,3,1] r r (.drop .z (.condKT r r (.sr (.ks 1 r (.nilS [2] r r (.drop .z (.ret (pret results49 (.t r .n) hl167 ⟨3,r,hd⟩)))))))))
   rw [hb192]
   refine .gyes r r r (.fa un27 r sz3 r (o:=0) r r r (.gyes r r r (.load1 ia3 r .z r r r (.gyes r r r (.fa un24 r sz3 r (o:=0) r r r (.gyes r r r (.load1 ia3 r (.s .z) r r r (.ks 3 r ?_))))))))
   refine splitP hd (fun hb193 hd=>?_) fun hb193 hd=>?_
   · rw [hb193]
     exact .ks 11 r (.nilS [51,3,1] r r (.drop .z (.condKT r r (.sr (.ks 1 r (.nilS [2] r r (.drop .z (.ret (pret results49 (.t r .n) hl167 ⟨3,r,hd⟩)))))))))
   rw [hb193]
   refine .gyes r r r (.fa un27 r sz3 r (o:=1) r r r (.gyes r r r (.load1 ia3 r .z r r r (.ks 3 r ?_))))
   refine splitP hd (fun hb194 hd=>?_) fun hb194 hd=>?_
   · rw [hb194]
     exact .ks 6 r (.nilS [51,3,1] r r (.drop .z (.condKT r r (.sr (.ks 1 r (.nilS [2] r r (.drop .z (.ret (pret results49 (.t r .n) hl167 ⟨3,r,hd⟩)))))))))
   rw [hb194]
   refine .gyes r r r (.fa un27 r sz3 r (o:=1) r r r (.gyes r r r (.load1 ia3 r .z r r r (.gyes r r r (.fa un24 r sz3 r (o:=0) r r r (.gyes r r r (.load1 ia3 r (.s .z) r r r (.ks 2 r (.nilS [51,3,1] r r (.drop .z (.condP r hd (fun hb195 hd=>?_) fun hb195 hd=>?_)))))))))))
   · exact .sr (.ks 1 r (.nilS [2] r r (.drop .z (.ret (pret results49 (.t r .n) hl167 ⟨3,r,hd⟩)))))
   exact .skipS [3,1] r r (.region (.ks 3 r (.nil' fun c w ho hs=>⟨(w64 (s164+1)),hd,I166,hl167,ho.sub ⟨r,r,trivial⟩,hs.pick (.c .z .n)⟩)))
 refine .exitS [1] r r (.seq (.sr (.ks 1 r (.nilS [5,1] r r (.block (.loop hd (fun (s243:Int) c w=>∃ I_,IH.le I166 I_∧Ok ⟨75,[],none⟩ [(1,.pointer (some ⟨b6,0,none⟩)),(5,.int .i64 s243)] c∧Sym w0 M I I_ [pto b6 (.cells #[.int .i64 a0.N,.slice p1 a0.Edges.length c2] 24 (0,0))] w) (fun c w ho hs=>⟨I166,(.refl _),ho.sub ⟨r,r,trivial⟩,hs.pick (.c .z .n)⟩) ?_))))))
 rintro s243 next244 hd c w hst
 obtain ⟨I245,hl246,hok,hsym⟩:=hst
 have le247:=IH.le.trans hl167 hl246
 replace R3:=R3.mono hl246
 refine Cod.at hok hsym (.seq (.sr (.ks 1 r (.fa un24 r sz22 r (o:=1) r r r (.load1 ia22 r .z r r r (.len un22 r r r r (.ks 1 r (.nilS [56,5,1] r r (.condP r hd (fun hb249 hd=>?_) fun hb249 hd=>?_)))))))))
 · refine .skipS [5,1] r r (.seq (.block (.sr (.fa un24 r sz22 r (o:=1) r r r (.load1 ia22 r .z r r r (.ks 1 r ?_))))))
   obtain ⟨h250,x251,hx252,hd⟩:=hd
   obtain ⟨b253,o254,cs255,e256,hC257,hr258⟩:=R3.2 _ _ hx252
   cases hr258
   refine .ixa un22 sz27 r e256 r h250 (idx_lt hx252 h250) r r (.fa un27 r sz2 r (o:=o254+s243.toNat*3+2) r r r (.ld1 (j:=2) ia2 hC257 r r r r r (.ks 2 r ?_)))
   refine splitP hd (fun hb259 hd=>?_) fun hb259 hd=>?_
   · rw [hb259]
     exact .ks 8 r (.nilS [74,5,1] r r (.condKT r r (.sr (.ks 1 r (.nilS [2] r r (.drop .z (.ret (pret results49 (.t r .n) le247 ⟨7,r,hd⟩))))))))
   rw [hb259]
   refine .gyes r r r (.fa un24 r sz22 r (o:=1) r r r (.gyes r r r (.load1 ia22 r .z r r r (.ks 1 r ?_))))
   obtain ⟨h260,x261,hx262,hd⟩:=hd
   obtain ⟨b263,o264,cs265,e266,hC267,hr268⟩:=R3.2 _ _ hx262
   cases hr268
   refine .gyes r r r (.ixa un22 sz27 r e266 r h260 (idx_lt hx262 h260) r r (.gyes r r r (.fa un27 r sz2 r (o:=o264+s243.toNat*3+2) r r r (.gyes r r r (.ld1 (j:=2) ia2 hC267 r r r r r (.ks 2 r (.nilS [74,5,1] r r (.condP r hd (fun hb269 hd=>?_) fun hb269 hd=>?_))))))))
   · exact .sr (.ks 1 r (.nilS [2] r r (.drop .z (.ret (pret results49 (.t r .n) le247 ⟨7,r,hd⟩)))))
   exact .skipS [5,1] r r (.region (.ks 3 r (.nil' fun c w ho hs=>⟨(w64 (s243+1)),hd,I245,hl246,ho.sub ⟨r,r,trivial⟩,hs.pick (.c .z .n)⟩)))
 exact .exitS [] r r (.drop .z (.sr (.ks 1 r (.nilS [2] r r (.ret (pret results49 (.t r .n) le247 ⟨0,r,hd⟩))))))
theorem W_ref01_Add {I:IH} {a0:Wide} {a1:Wide} {Q:Wide→Prop}  (hd:ref01_Add a0 a1 Q) :
  PFun prog 141 [.agg (encWide a0).toArray,.agg (encWide a1).toArray] I (fun _=>o2_ Q):=by
 refine Fun.enter func141 r ntmps141 r (.c (.c .n)) fun w0 M=>?_
 refine .sr (.boxA r r r fun b7=>?_)
 refine .boxA r r r fun b9=>?_
 refine .allocA zv127 r r fun b11=>?_
 refine .nilS [4,3,2] r r (.sr (.fa un127 r sz125 r (o:=1) r r r (.load1 ia125 r (.s (.s .z)) r r r (.fa un127 r sz125 r (o:=1) r r r (.load1 ia125 r (.s .z) r r r (.ks 2 r (.nilS [5,4,3,2] r r (.sr (.fa un127 r sz2 r (o:=0) r r r ?_)))))))))
 refine .load1 ia2 r (.s (.s .z)) r r r (.fa un127 r sz2 r (o:=0) r r r (.load1 ia2 r (.s .z) r r r (.ks 2 r (.nilS [6,5,4,2] r r (.drop (.s .z) (.seq (.sr (.ks 1 r (.fa un127 r sz125 r (o:=1) r r r ?_)))))))))
 refine .load1 ia125 r (.s .z) r r r (.ks 1 r (.nilS [20,6,5,4] r r (.drop (.s .z) (.condP r hd (fun hb13 hd=>?_) fun hb13 hd=>?_))))
 · exact .region (.ks 3 r (.nilS [6,5,4] r r (.sr (.ks 2 r (.build zv127 un127 BI127 (.c r r r (.t .nil) (.c r r r (.s (.t .nil)) .n)) (by exact ⟨⟨_,_,r,r,r⟩,⟨⟨_,_,r,r,r⟩,trivial⟩⟩) r r (.storeA sz127 r r .z (.t (.t .nil)) r r (.nilS [4] r r (.ret (pret results141 (.w ia127 sz127 r .z r .n) (.refl _) ⟨({ Hi:=w64 ((w64 (a0.Hi+a1.Hi))+1),Lo:=IntKind.wrap .u64 (a0.Lo+a1.Lo) }:Wide),r,hd⟩)))))))))
 exact .skipS [6,5,4] r r (.sr (.ks 2 r (.build zv127 un127 BI127 (.c r r r (.t .nil) (.c r r r (.s (.t .nil)) .n)) (by exact ⟨⟨_,_,r,r,r⟩,⟨⟨_,_,r,r,r⟩,trivial⟩⟩) r r (.storeA sz127 r r .z (.t (.t .nil)) r r (.nilS [4] r r (.ret (pret results141 (.w ia127 sz127 r .z r .n) (.refl _) ⟨({ Hi:=w64 (a0.Hi+a1.Hi),Lo:=IntKind.wrap .u64 (a0.Lo+a1.Lo) }:Wide),r,hd⟩)))))))
theorem W_ref01_Compare {I:IH} {a0:Wide} {a1:Wide} {Q:Int→Prop}  (hd:ref01_Compare a0 a1 Q) :
  PFun prog 143 [.agg (encWide a0).toArray,.agg (encWide a1).toArray] I (fun _=>o0_ Q):=by
 refine Fun.enter func143 r ntmps143 r (.c (.c .n)) fun w0 M=>?_
 refine .sr (.boxA r r r fun b5=>?_)
 refine .boxA r r r fun b7=>?_
 refine .ks 1 r (.nilS [3,2] r r (.seq ?_))
 refine Cod.joinQ (σ:=Unit) hd (fun (_:Unit) c w=>∃ I_,IH.le I I_∧Ok ⟨27,[],none⟩ [(2,.pointer (some ⟨b5,0,none⟩)),(3,.pointer (some ⟨b7,0,none⟩))] c∧Sym w0 M I I_ [pto b5 (.cells #[.int .i64 a0.Hi,.int .u64 a0.Lo] 127 (0,0)),pto b7 (.cells #[.int .i64 a1.Hi,.int .u64 a1.Lo] 127 (0,0))] w) (fun k15 hd=>?_) ?_
 · skip
   refine .sr (.fa un127 r sz2 r (o:=0) r r r (.load1 ia2 r (.s .z) r r r (.fa un127 r sz2 r (o:=0) r r r (.load1 ia2 r .z r r r (.ks 2 r ?_)))))
   refine splitP hd (fun hb16 hd=>?_) fun hb16 hd=>?_
   · rw [hb16]
     exact .ks 13 r (.nilS [23,3,2] r r (.condKT r r (.sr (.ks 1 r (.nilS [4] r r (.drop .z (.drop .z (.ret (pret results143 (.t r .n) (.refl _) ⟨(-1),r,hd⟩)))))))))
   rw [hb16]
   refine .gyes r r r (.fa un127 r sz2 r (o:=0) r r r (.gyes r r r (.load1 ia2 r (.s .z) r r r (.gyes r r r (.fa un127 r sz2 r (o:=0) r r r (.gyes r r r (.load1 ia2 r .z r r r (.ks 2 r ?_))))))))
   refine splitP hd (fun hb17 hd=>?_) fun hb17 hd=>?_
   · rw [hb17]
     refine .gyes r r r (.fa un127 r sz125 r (o:=1) r r r (.gyes r r r (.load1 ia125 r (.s .z) r r r (.gyes r r r (.fa un127 r sz125 r (o:=1) r r r (.gyes r r r (.load1 ia125 r .z r r r (.ks 3 r (.nilS [23,3,2] r r (.condP r hd (fun hb18 hd=>?_) fun hb18 hd=>?_))))))))))
     · exact .sr (.ks 1 r (.nilS [4] r r (.drop .z (.drop .z (.ret (pret results143 (.t r .n) (.refl _) ⟨(-1),r,hd⟩))))))
     exact .skip' fun c w ho hs=>⟨(),hd,I,(.refl _),ho.sub ⟨r,r,trivial⟩,hs.pick (.c (.s .z) (.c .z .n))⟩
   rw [hb17]
   exact .ks 7 r (.nilS [23,3,2] r r (.condKF r r (.skip' fun c w ho hs=>⟨(),hd,I,(.refl _),ho.sub ⟨r,r,trivial⟩,hs.pick (.c (.s .z) (.c .z .n))⟩)))
 rintro ⟨⟩ hd c w hst
 obtain ⟨I19,hl20,hok,hsym⟩:=hst
 refine Cod.at hok hsym (.seq (.sr (.loadW ia127 sz127 r .z r r r (.loadW ia127 sz127 r (.s .z) r r r (.eqV r r (EQ127 a0 a1) (EG127 _ _ _ _ _) r r r (.nilS [26] r r (.drop .z (.drop .z (.condP r hd (fun hb21 hd=>?_) fun hb21 hd=>?_)))))))))
 · exact .sr (.ks 1 r (.nilS [4] r r (.ret (pret results143 (.t r .n) hl20 ⟨0,r,hd⟩))))
 exact .skipS [] r r (.sr (.ks 1 r (.nilS [4] r r (.ret (pret results143 (.t r .n) hl20 ⟨1,r,hd⟩)))))
theorem W_ref02_truth {I:IH} {a0:Bool} {Q:Wide→Prop}  (hd:ref02_truth a0 Q) :
  PFun prog 144 [.bool a0] I (fun _=>o2_ Q):=by
 refine Fun.enter func144 r ntmps144 r (.c .n) fun w0 M=>?_
 refine .sr (.allocA zv127 r r fun b3=>?_)
 refine .nilS [2,0] r r (.seq (.sr (.ks 1 r (.nilS [3,2] r r (.condP r hd (fun hb5 hd=>?_) fun hb5 hd=>?_)))))
 · exact .sr (.build zv127 un127 BI127 (.c r r r (.s (.t .nil)) .n) (by exact ⟨⟨_,_,r,r,r⟩,trivial⟩) r r (.storeA sz127 r r .z (.t (.t .nil)) r r (.nilS [2] r r (.ret (pret results144 (.w ia127 sz127 r .z r .n) (.refl _) ⟨({ Hi:=0,Lo:=1 }:Wide),r,hd⟩)))))
 exact .skipS [2] r r (.sr (.build zv127 un127 BI127 .n (by exact trivial) r r (.storeA sz127 r r .z (.t (.t .nil)) r r (.nilS [2] r r (.ret (pret results144 (.w ia127 sz127 r .z r .n) (.refl _) ⟨({ Hi:=0,Lo:=0 }:Wide),r,hd⟩))))))
theorem W_ref02_Add {I:IH} {a0:Int} {a1:Wide} {a2:Wide} {Q:Wide→Prop}  (hd:ref02_Add a0 a1 a2 Q) :
  PFun prog 80 [.int .i64 a0,.agg (encWide a1).toArray,.agg (encWide a2).toArray] I (fun _=>o2_ Q):=by
 refine Fun.enter func80 r ntmps80 r (.c (.c (.c .n))) fun w0 M=>?_
 refine .sr (.boxA r r r fun b7=>?_)
 refine .boxA r r r fun b9=>?_
 refine .allocA zv127 r r fun b11=>?_
 refine .nilS [6,5,4,0] r r (.sr (.ks 1 r (.nilS [7,6,5,4] r r (.block (.seq ?_)))))
 refine Cod.joinQ (σ:=Bool) hd (fun (s17:Bool) c w=>∃ I_,IH.le I I_∧Ok ⟨35,[],none⟩ [(4,.pointer (some ⟨b7,0,none⟩)),(5,.pointer (some ⟨b9,0,none⟩)),(6,.pointer (some ⟨b11,0,none⟩)),(7,.int .i64 a0),(9,.bool s17)] c∧Sym w0 M I I_ [pto b7 (.cells #[.int .i64 a1.Hi,.int .u64 a1.Lo] 127 (0,0)),pto b9 (.cells #[.int .i64 a2.Hi,.int .u64 a2.Lo] 127 (0,0)),pto b11 (.cells #[.int .i64 0,.int .u64 0] 127 (0,0))] w) (fun k18 hd=>?_) ?_
 · skip
   refine .sr (.ks 2 r (.nilS [9,7,6,5,4] r r (.condP r hd (fun hb19 hd=>?_) fun hb19 hd=>?_)))
   · exact .skip' fun c w ho hs=>⟨(a0==1),hd,I,(.refl _),ho.sub ⟨r,r,r,r,r,trivial⟩,hs.pick (.c (.s (.s .z)) (.c (.s .z) (.c .z .n)))⟩
   refine .sr (.ks 2 r (.nilS [9,7,6,5,4] r r (.condP r hd (fun hb20 hd=>?_) fun hb20 hd=>?_)))
   · exact .skip' fun c w ho hs=>⟨(a0==3),hd,I,(.refl _),ho.sub ⟨r,r,r,r,r,trivial⟩,hs.pick (.c (.s (.s .z)) (.c (.s .z) (.c .z .n)))⟩
   exact .region (.ks 2 r (.nil' fun c w ho hs=>⟨(a0==4),hd,I,(.refl _),ho.sub ⟨r,r,r,r,r,trivial⟩,hs.pick (.c (.s (.s .z)) (.c (.s .z) (.c .z .n)))⟩))
 rintro s17 hd c w hst
 obtain ⟨I21,hl22,hok,hsym⟩:=hst
 refine Cod.at hok hsym (.condP r hd (fun hb23 hd=>?_) fun hb23 hd=>?_)
 · refine .seq (.sr (.loadW ia127 sz127 r (.s .z) r r r (.loadW ia127 sz127 r .z r r r ?_)))
   have hw25:=W_ref01_Compare (I:=I21) hd
   refine .callP call143 r hw25 r r fun v26 hv27=>?_
   obtain ⟨r24,rfl,hd⟩:=hv27
   refine .ks 1 r (.nilS [16,6,5,4] r r (.condP r hd (fun hb28 hd=>?_) fun hb28 hd=>?_))
   · exact .sr (.loadW ia127 sz127 r (.s .z) r r r (.storeA sz127 r r (.s (.s .z)) (.t (.t .nil)) r r (.nilS [6] r r (.drop .z (.drop .z (.ret (pret results80 (.w ia127 sz127 r .z r .n) hl22 ⟨a2,r,hd⟩)))))))
   exact .skipS [6,4] r r (.drop (.s .z) (.sr (.loadW ia127 sz127 r .z r r r (.storeA sz127 r r (.s .z) (.t (.t .nil)) r r (.nilS [6] r r (.drop .z (.ret (pret results80 (.w ia127 sz127 r .z r .n) hl22 ⟨a1,r,hd⟩))))))))
 refine .sr (.ks 2 r (.nilS [19,7,6,5,4] r r (.condP r hd (fun hb29 hd=>?_) fun hb29 hd=>?_)))
 · refine .sr (.loadW ia127 sz127 r .z r r r (.build zv127 un127 BI127 .n (by exact trivial) r r (.neV r r (EQ127 a1 ({ Hi:=0,Lo:=0 }:Wide)) (EG127 _ _ _ _ _) r r r (.ks 1 r ?_))))
   refine splitP hd (fun hb30 hd=>?_) fun hb30 hd=>?_
   · rw [hb30]
     refine .ks 4 r ?_
     have hw32:=W_ref02_truth (I:=I21) hd
     refine .callP call144 r hw32 r r fun v33 hv34=>?_
     obtain ⟨r31,rfl,hd⟩:=hv34
     exact .storeA sz127 r r (.s (.s .z)) (.t (.t .nil)) r r (.nilS [6] r r (.drop .z (.drop .z (.ret (pret results80 (.w ia127 sz127 r .z r .n) hl22 ⟨r31,r,hd⟩)))))
   rw [hb30]
   refine .gyes r r r (.loadW ia127 sz127 r (.s .z) r r r (.gyes r r r (.build zv127 un127 BI127 .n (by exact trivial) r r (.gyes r r r (.neV r r (EQ127 a2 ({ Hi:=0,Lo:=0 }:Wide)) (EG127 _ _ _ _ _) r r r (.ks 1 r ?_))))))
   have hw36:=W_ref02_truth (I:=I21) hd
   refine .callP call144 r hw36 r r fun v37 hv38=>?_
   obtain ⟨r35,rfl,hd⟩:=hv38
   exact .storeA sz127 r r (.s (.s .z)) (.t (.t .nil)) r r (.nilS [6] r r (.drop .z (.drop .z (.ret (pret results80 (.w ia127 sz127 r .z r .n) hl22 ⟨r35,r,hd⟩)))))
 refine .sr (.ks 2 r (.nilS [30,6,5,4] r r (.condP r hd (fun hb39 hd=>?_) fun hb39 hd=>?_)))
 · refine .sr (.loadW ia127 sz127 r .z r r r (.loadW ia127 sz127 r (.s .z) r r r ?_))
   have hw41:=W_ref01_Add (I:=I21) hd
   refine .callP call141 r hw41 r r fun v42 hv43=>?_
   obtain ⟨r40,rfl,hd⟩:=hv43
   exact .storeA sz127 r r (.s (.s .z)) (.t (.t .nil)) r r (.nilS [6] r r (.drop .z (.drop .z (.ret (pret results80 (.w ia127 sz127 r .z r .n) hl22 ⟨r40,r,hd⟩)))))
 exact .sr (.build zv127 un127 BI127 .n (by exact trivial) r r (.storeA sz127 r r (.s (.s .z)) (.t (.t .nil)) r r (.nilS [6] r r (.drop .z (.drop .z (.ret (pret results80 (.w ia127 sz127 r .z r .n) hl22 ⟨({ Hi:=0,Lo:=0 }:Wide),r,hd⟩)))))))
theorem W_ref01_Narrow {I:IH} {a0:Wide} {Q:(Int×Bool)→Prop}  (hd:ref01_Narrow a0 Q) :
  PFun prog 81 [.agg (encWide a0).toArray] I (fun _=>o3_ Q):=by
 refine Fun.enter func81 r ntmps81 r (.c .n) fun w0 M=>?_
 refine .sr (.boxA r r r fun b3=>?_)
 refine .ks 2 r (.nilS [1] r r (.sr (.fa un127 r sz125 r (o:=1) r r r (.load1 ia125 r .z r r r (.conv un125 un2 r r r (.ks 1 r (.nilS [4,1] r r (.seq (.sr ?_)))))))))
 refine .fa un127 r sz2 r (o:=0) r r r (.load1 ia2 r .z r r r (.ks 2 r ?_))
 refine splitP hd (fun hb5 hd=>?_) fun hb5 hd=>?_
 · rw [hb5]
   refine .ks 4 r ?_
   refine splitP hd (fun hb6 hd=>?_) fun hb6 hd=>?_
   · rw [hb6]
     exact .ks 8 r (.nilS [23,4] r r (.drop .z (.condKT r r (.sr (.ks 3 r (.nilS [3,2] r r (.ret (pret results81 (.t r (.t r .n)) (.refl _) ⟨(w64 (a0.Lo),true),r,hd⟩))))))))
   rw [hb6]
   refine .gyes r r r (.fa un127 r sz2 r (o:=0) r r r (.gyes r r r (.load1 ia2 r .z r r r (.ks 2 r ?_))))
   refine splitP hd (fun hb7 hd=>?_) fun hb7 hd=>?_
   · rw [hb7]
     refine .ks 4 r (.nilS [23,4] r r (.drop .z (.condP r hd (fun hb8 hd=>?_) fun hb8 hd=>?_)))
     · exact .sr (.ks 3 r (.nilS [3,2] r r (.ret (pret results81 (.t r (.t r .n)) (.refl _) ⟨(w64 (a0.Lo),true),r,hd⟩))))
     exact .skipS [] r r (.sr (.ks 2 r (.nilS [3,2] r r (.ret (pret results81 (.t r (.t r .n)) (.refl _) ⟨(0,false),r,hd⟩)))))
   rw [hb7]
   exact .ks 4 r (.nilS [23,4] r r (.drop .z (.condKF r r (.skipS [] r r (.sr (.ks 2 r (.nilS [3,2] r r (.ret (pret results81 (.t r (.t r .n)) (.refl _) ⟨(0,false),r,hd⟩)))))))))
 rw [hb5]
 refine .ks 4 r (.gyes r r r (.fa un127 r sz2 r (o:=0) r r r (.gyes r r r (.load1 ia2 r .z r r r (.ks 2 r ?_)))))
 refine splitP hd (fun hb9 hd=>?_) fun hb9 hd=>?_
 · rw [hb9]
   refine .ks 4 r (.nilS [23,4] r r (.drop .z (.condP r hd (fun hb10 hd=>?_) fun hb10 hd=>?_)))
   · exact .sr (.ks 3 r (.nilS [3,2] r r (.ret (pret results81 (.t r (.t r .n)) (.refl _) ⟨(w64 (a0.Lo),true),r,hd⟩))))
   exact .skipS [] r r (.sr (.ks 2 r (.nilS [3,2] r r (.ret (pret results81 (.t r (.t r .n)) (.refl _) ⟨(0,false),r,hd⟩)))))
 rw [hb9]
 exact .ks 4 r (.nilS [23,4] r r (.drop .z (.condKF r r (.skipS [] r r (.sr (.ks 2 r (.nilS [3,2] r r (.ret (pret results81 (.t r (.t r .n)) (.refl _) ⟨(0,false),r,hd⟩)))))))))
theorem W_ref02_Is {I:IH} {a0:Int} {Q:Bool→Prop}  (hd:ref02_Is a0 Q) :
  PFun prog 112 [.int .i64 a0] I (fun _=>o4_ Q):=by
 refine Fun.enter func112 r ntmps112 r (.c .n) fun w0 M=>?_
 refine .sr (.ks 1 r (.nilS [0] r r (.sr (.ks 3 r ?_))))
 refine splitP hd (fun hb1 hd=>?_) fun hb1 hd=>?_
 · rw [hb1]
   exact .ks 4 r (.nilS [2] r r (.ret (pret results112 (.t r .n) (.refl _) ⟨(decide (a0≤5)),r,hd⟩)))
 rw [hb1]
 exact .ks 4 r (.nilS [2] r r (.ret (pret results112 (.t r .n) (.refl _) ⟨false,r,hd⟩)))
theorem W_ref01_Of {I:IH} {a0:Int} {Q:Wide→Prop}  (hd:ref01_Of a0 Q) :
  PFun prog 142 [.int .i64 a0] I (fun _=>o2_ Q):=by
 refine Fun.enter func142 r ntmps142 r (.c .n) fun w0 M=>?_
 refine .sr (.allocA zv127 r r fun b3=>?_)
 refine .nilS [2,0] r r (.seq (.sr (.ks 2 r (.nilS [4,2,0] r r (.condP r hd (fun hb5 hd=>?_) fun hb5 hd=>?_)))))
 · exact .sr (.ks 1 r (.conv un2 un125 r r r (.build zv127 un127 BI127 (.c r r r (.t .nil) (.c r r r (.s (.t .nil)) .n)) (by exact ⟨⟨_,_,r,r,r⟩,⟨⟨_,_,r,r,r⟩,trivial⟩⟩) r r (.storeA sz127 r r .z (.t (.t .nil)) r r (.nilS [2] r r (.ret (pret results142 (.w ia127 sz127 r .z r .n) (.refl _) ⟨({ Hi:=(-1),Lo:=IntKind.wrap .u64 (a0) }:Wide),r,hd⟩)))))))
 exact .skipS [2,0] r r (.sr (.ks 1 r (.conv un2 un125 r r r (.build zv127 un127 BI127 (.c r r r (.s (.t .nil)) .n) (by exact ⟨⟨_,_,r,r,r⟩,trivial⟩) r r (.storeA sz127 r r .z (.t (.t .nil)) r r (.nilS [2] r r (.ret (pret results142 (.w ia127 sz127 r .z r .n) (.refl _) ⟨({ Hi:=0,Lo:=IntKind.wrap .u64 (a0) }:Wide),r,hd⟩))))))))
theorem W_ref05_below {I:IH} {a0:Edge} {a1:Edge} {Q:Bool→Prop}  (hd:ref05_below a0 a1 Q) :
  PFun prog 182 [.agg (encEdge a0).toArray,.agg (encEdge a1).toArray] I (fun _=>o4_ Q):=by
 refine Fun.enter func182 r ntmps182 r (.c (.c .n)) fun w0 M=>?_
 refine .sr (.boxA r r r fun b5=>?_)
 refine .boxA r r r fun b7=>?_
 refine .ks 1 r (.nilS [3,2] r r (.sr (.fa un27 r sz3 r (o:=0) r r r (.load1 ia3 r (.s .z) r r r (.fa un27 r sz3 r (o:=0) r r r (.load1 ia3 r .z r r r (.ks 2 r ?_)))))))
 refine splitP hd (fun hb9 hd=>?_) fun hb9 hd=>?_
 · rw [hb9]
   exact .ks 14 r (.nilS [4] r r (.drop .z (.drop .z (.ret (pret results182 (.t r .n) (.refl _) ⟨true,r,hd⟩)))))
 rw [hb9]
 refine .gyes r r r (.fa un27 r sz3 r (o:=0) r r r (.gyes r r r (.load1 ia3 r (.s .z) r r r (.gyes r r r (.fa un27 r sz3 r (o:=0) r r r (.gyes r r r (.load1 ia3 r .z r r r (.ks 2 r ?_))))))))
 refine splitP hd (fun hb10 hd=>?_) fun hb10 hd=>?_
 · rw [hb10]
   exact .gyes r r r (.fa un27 r sz3 r (o:=1) r r r (.gyes r r r (.load1 ia3 r (.s .z) r r r (.gyes r r r (.fa un27 r sz3 r (o:=1) r r r (.gyes r r r (.load1 ia3 r .z r r r (.ks 4 r (.nilS [4] r r (.drop .z (.drop .z (.ret (pret results182 (.t r .n) (.refl _) ⟨(decide (a0.To<a1.To)),r,hd⟩)))))))))))))
 rw [hb10]
 exact .ks 8 r (.nilS [4] r r (.drop .z (.drop .z (.ret (pret results182 (.t r .n) (.refl _) ⟨false,r,hd⟩)))))
theorem W_ref05_Combine {I:IH} {a0:Int} {a1:List Edge} {p1:Option Addr} {c2:Nat} {Q:((List Edge)×Int)→Prop} (R3:RepSl eEdge I p1 c2 a1) (hd:ref05_Combine a0 a1 Q) :
  OFun prog 113 [.int .i64 a0,.slice p1 a1.length c2] I (fun I_ v l=>∃ r p4 c5,v=.tuple #[.slice p4 r.1.length c5,.int .i64 r.2]∧l=[OwnSl eEdge 27 p4 c5 r.1]∧Q r):=by
 refine Fun.enter func113 r ntmps113 r (.c (.c .n)) fun w0 M=>?_
 refine .sr (.ks 2 r (.nilS [1,0] r r (.seq (.sr (.ks 1 r ?_)))))
 have hw13:=W_ref02_Is (I:=I) hd
 refine .callP call112 r hw13 r r fun v14 hv15=>?_
 obtain ⟨r12,rfl,hd⟩:=hv15
 refine .ks 1 r (.nilS [17,1,0] r r (.condP r hd (fun hb16 hd=>?_) fun hb16 hd=>?_))
 · exact .sr (.ks 2 r (.nilS [5,4] r r (.own0 eEdge 27 (.ret (oret results113 (.t r (.t r .n)) (.refl _) (.c .z .n) ⟨(([]:List Edge),8),_,_,r,r,hd⟩)))))
 refine .skipS [1,0] r r (.sr (.ks 1 r (.nilS [6,1,0] r r (.sr (.ks 1 r (.nilS [7,6,1,0] r r (.seq (.sr (.ks 1 r ?_)))))))))
 refine .nilS [8,7,6,1,0] r r (.block (.own0 eEdge 27 (.own0 eWide 127 (.loop hd (fun (s:(List Edge)×(List Wide)×Int) c w=>match s with | (s2657,s2661,s2665)=>∃ I_ p2658 c2659 p2662 c2663,IH.le I I_∧Ok ⟨145,[],none⟩ [(0,.int .i64 a0),(1,.slice p1 a1.length c2),(6,.slice p2658 s2657.length c2659),(7,.slice p2662 s2661.length c2663),(8,.int .i64 s2665)] c∧Sym w0 M I I_ [OwnSl eEdge 27 p2658 c2659 s2657,OwnSl eWide 127 p2662 c2663 s2661] w) (fun c w ho hs=>⟨I,_,_,_,_,(.refl _),ho.sub ⟨r,r,r,r,r,trivial⟩,hs.pick (.c (.s .z) (.c .z .n))⟩) ?_))))
 rintro ⟨s2657,s2661,s2665⟩ next2668 hd c w hst
 obtain ⟨I2669,p2658,c2659,p2662,c2663,hl2670,hok,hsym⟩:=hst
 replace R3:=R3.mono hl2670
 refine Cod.at hok hsym (.seq (.sr (.ks 2 r (.len un22 r r r r (.ks 1 r (.nilS [21,8,7,6,1,0] r r (.condP r hd (fun hb2672 hd=>?_) fun hb2672 hd=>?_)))))))
 · refine .skipS [8,7,6,1,0] r r (.seq (.block (.sr (.ks 1 r (.nilS [9,8,7,6,1,0] r r (.seq ?_))))))
   refine Cod.joinQ (σ:=Int) hd (fun (s2821:Int) c w=>∃ I_,IH.le I2669 I_∧Ok ⟨145,[],none⟩ [(0,.int .i64 a0),(1,.slice p1 a1.length c2),(6,.slice p2658 s2657.length c2659),(7,.slice p2662 s2661.length c2663),(8,.int .i64 s2665),(9,.int .i64 s2821)] c∧Sym w0 M I I_ [OwnSl eEdge 27 p2658 c2659 s2657,OwnSl eWide 127 p2662 c2663 s2661] w) (fun k2822 hd=>?_) ?_
   · skip
     refine .block (.loop hd (fun (s2870:Int) c w=>∃ I_,IH.le I2669 I_∧Ok ⟨145,[],none⟩ [(0,.int .i64 a0),(1,.slice p1 a1.length c2),(6,.slice p2658 s2657.length c2659),(7,.slice p2662 s2661.length c2663),(8,.int .i64 s2665),(9,.int .i64 s2870)] c∧Sym w0 M I I_ [OwnSl eEdge 27 p2658 c2659 s2657,OwnSl eWide 127 p2662 c2663 s2661] w) (fun c w ho hs=>⟨I2669,(.refl _),ho.sub ⟨r,r,r,r,r,r,trivial⟩,hs.pick (.c .z (.c .z .n))⟩) ?_)
     rintro s2870 next2871 hd c w hst
     obtain ⟨I2872,hl2873,hok,hsym⟩:=hst
     have le2874:=IH.le.trans hl2670 hl2873
     replace R3:=R3.mono hl2873
     refine Cod.at hok hsym (.seq (.seq (.ownF .z fun hne2875=>?_)))
     refine .ownF (.s .z) fun hne2876=>?_
     refine .dr [0,1,2,3,4,5,6,7,8,9,10,11,12,13,14] 15 (.fk 2 r (.g r r r (fun _=>.len un22 r r r r .mk) (.fk 2 r ?_)))
     refine splitP hd (fun hb2877 hd=>?_) fun hb2877 hd=>?_
     · refine .g r r r (fun _=>.gyes r r hb2877 (.move r r r .mk)) (.g r r r (fun _=>.gyes r r hb2877 (.move r r r .mk)) ?_)
       obtain ⟨h2878,x2879,hx2880,hd⟩:=hd
       obtain ⟨b2881,e2882⟩:=hne2875 (idx_ne hx2880)
       cases e2882
       refine .g r r r (fun _=>.gyes r r hb2877 (.ixa0 un22 sz27 r r h2878 (idx_lt hx2880 h2878) r r .mk)) (.g r r r (fun _=>.gyes r r hb2877 (.loA (j:=0) ia27 sz27 .z hx2880 r r (.t (.t (.t .nil))) r r r .mk)) (.g r r r (fun _=>.gyes r r hb2877 (.move r r r .mk)) (.g r r r (fun _=>.gyes r r hb2877 (.move r r r .mk)) ?_)))
       obtain ⟨h2883,x2884,hx2885,hd⟩:=hd
       obtain ⟨b2886,o2887,cs2888,e2889,hC2890,hr2891⟩:=R3.2 _ _ hx2885
       cases hr2891
       refine .g r r r (fun _=>.gyes r r hb2877 (.ixa un22 sz27 r e2889 r h2883 (idx_lt hx2885 h2883) r r .mk)) (.g r r r (fun _=>.gyes r r hb2877 (.ldW ia27 sz27 hC2890 r r r r .mk)) (.ww r fun ex=>?_))
       have hw2893:=W_ref05_below (I:=I2872) hd
       refine .gyes r r hb2877 (.callP call182 r hw2893 r r fun v2894 hv2895=>?_)
       obtain ⟨r2892,rfl,hd⟩:=hv2895
       refine .so 2 r r r trivial (.g r r r (fun _=>.pickT r hb2877 r r r .mk) (.e2 15 (.nilS [38,9,8,7,6,1,0] r r (.condP r hd (fun hb2896 hd=>?_) fun hb2896 hd=>?_))))
       · exact .skipS [9,8,7,6,1,0] r r (.block (.region (.ks 3 r (.nil' fun c w ho hs=>⟨(w64 (s2870+1)),hd,I2872,hl2873,ho.sub ⟨r,r,r,r,r,r,trivial⟩,hs.pick (.c .z (.c .z .n))⟩))))
       exact .exit fun c w ho hs=>⟨s2870,hd,I2872,hl2873,ho.sub ⟨r,r,r,r,r,r,trivial⟩,hs.pick (.c .z (.c .z .n))⟩
     refine .g r r r (fun _=>.gno r r hb2877 r r .mk) (.g r r r (fun _=>.gno r r hb2877 r r .mk) (.g r r r (fun _=>.gno r r hb2877 r r .mk) (.g r r r (fun _=>.gno r r hb2877 r r .mk) (.g r r r (fun _=>.gno r r hb2877 r r .mk) (.g r r r (fun _=>.gno r r hb2877 r r .mk) (.g r r r (fun _=>.gno r r hb2877 r r .mk) (.g r r r (fun _=>.gno r r hb2877 r r .mk) (.g r r r (fun _=>.gno r r hb2877 r r .mk) (.g r r r (fun _=>.pickF r hb2877 r r r .mk) ?_)))))))))
     exact .e2 15 (.nilS [38,9,8,7,6,1,0] r r (.condKF r r (.exit fun c w ho hs=>⟨s2870,hd,I2872,hl2873,ho.sub ⟨r,r,r,r,r,r,trivial⟩,hs.pick (.c .z (.c .z .n))⟩)))
   rintro s2821 hd c w hst
   obtain ⟨I2897,hl2898,hok,hsym⟩:=hst
   have le2899:=IH.le.trans hl2670 hl2898
   replace R3:=R3.mono hl2898
   refine Cod.at hok hsym (.sr (.ks 2 r ?_))
   obtain ⟨h2915,x2916,hx2917,hd⟩:=hd
   obtain ⟨b2918,o2919,cs2920,e2921,hC2922,hr2923⟩:=R3.2 _ _ hx2917
   cases hr2923
   refine .ixa un22 sz27 r e2921 r h2915 (idx_lt hx2917 h2915) r r (.fa un27 r sz2 r (o:=o2919+s2665.toNat*3+2) r r r (.ld1 (j:=2) ia2 hC2922 r r r r r ?_))
   have hw2925:=W_ref01_Of (I:=I2897) hd
   refine .callP call142 r hw2925 r r fun v2926 hv2927=>?_
   obtain ⟨r2924,rfl,hd⟩:=hv2927
   refine .allocA zv127 r r fun b2928=>?_
   refine .storeA sz127 r r .z (.t (.t .nil)) r r (.nilS [10,9,8,7,6,1,0] r r (.seq (.seq ?_)))
   refine Cod.joinQ (σ:=Bool) hd (fun (s3056:Bool) c w=>∃ I_,IH.le I2897 I_∧Ok ⟨145,[],none⟩ [(0,.int .i64 a0),(1,.slice p1 a1.length c2),(6,.slice p2658 s2657.length c2659),(7,.slice p2662 s2661.length c2663),(8,.int .i64 s2665),(9,.int .i64 s2821),(10,.pointer (some ⟨b2928,0,none⟩)),(62,.bool s3056)] c∧Sym w0 M I I_ [OwnSl eEdge 27 p2658 c2659 s2657,OwnSl eWide 127 p2662 c2663 s2661,pto b2928 (.cells #[.int .i64 r2924.Hi,.int .u64 r2924.Lo] 127 (0,0))] w) (fun k3057 hd=>?_) ?_
   · skip
     refine .ownF (.s .z) fun hne3058=>?_
     refine .ownF (.s (.s .z)) fun hne3059=>?_
     refine .dr [0,1,2,3,4,5,6,7,8,9,10,11,12,13,14,15] 16 (.fk 2 r (.g r r r (fun _=>.len un22 r r r r .mk) (.fk 2 r ?_)))
     refine splitP hd (fun hb3060 hd=>?_) fun hb3060 hd=>?_
     · refine .g r r r (fun _=>.gyes r r hb3060 (.move r r r .mk)) (.g r r r (fun _=>.gyes r r hb3060 (.move r r r .mk)) ?_)
       obtain ⟨h3061,x3062,hx3063,hd⟩:=hd
       obtain ⟨b3064,o3065,cs3066,e3067,hC3068,hr3069⟩:=R3.2 _ _ hx3063
       cases hr3069
       refine .g r r r (fun _=>.gyes r r hb3060 (.ixa un22 sz27 r e3067 r h3061 (idx_lt hx3063 h3061) r r .mk)) (.g r r r (fun _=>.gyes r r hb3060 (.ldW ia27 sz27 hC3068 r r r r .mk)) (.g r r r (fun _=>.gyes r r hb3060 (.move r r r .mk)) (.g r r r (fun _=>.gyes r r hb3060 (.move r r r .mk)) ?_)))
       obtain ⟨h3070,x3071,hx3072,hd⟩:=hd
       obtain ⟨b3073,e3074⟩:=hne3058 (idx_ne hx3072)
       cases e3074
       refine .g r r r (fun _=>.gyes r r hb3060 (.ixa0 un22 sz27 r r h3070 (idx_lt hx3072 h3070) r r .mk)) (.g r r r (fun _=>.gyes r r hb3060 (.loA (j:=0) ia27 sz27 (.s .z) hx3072 r r (.t (.t (.t .nil))) r r r .mk)) (.ww r fun ex=>?_))
       have hw3076:=W_ref05_below (I:=I2897) hd
       refine .gyes r r hb3060 (.callP call182 r hw3076 r r fun v3077 hv3078=>?_)
       obtain ⟨r3075,rfl,hd⟩:=hv3078
       exact .so 3 r r r trivial (.g r r r (fun _=>.gyes r r hb3060 (.not r r r .mk)) (.g r r r (fun _=>.pickT r hb3060 r r r .mk) (.e2 16 (.nil' fun c w ho hs=>⟨(!r3075),hd,I2897,(.refl _),ho.sub ⟨r,r,r,r,r,r,r,r,trivial⟩,hs.pick (.c (.s .z) (.c (.s .z) (.c .z .n)))⟩))))
     refine .g r r r (fun _=>.gno r r hb3060 r r .mk) (.g r r r (fun _=>.gno r r hb3060 r r .mk) (.g r r r (fun _=>.gno r r hb3060 r r .mk) (.g r r r (fun _=>.gno r r hb3060 r r .mk) (.g r r r (fun _=>.gno r r hb3060 r r .mk) (.g r r r (fun _=>.gno r r hb3060 r r .mk) (.g r r r (fun _=>.gno r r hb3060 r r .mk) (.g r r r (fun _=>.gno r r hb3060 r r .mk) (.g r r r (fun _=>.gno r r hb3060 r r .mk) (.g r r r (fun _=>.gno r r hb3060 r r .mk) ?_)))))))))
     exact .g r r r (fun _=>.pickF r hb3060 r r r .mk) (.e2 16 (.nil' fun c w ho hs=>⟨false,hd,I2897,(.refl _),ho.sub ⟨r,r,r,r,r,r,r,r,trivial⟩,hs.pick (.c (.s .z) (.c (.s .z) (.c .z .n)))⟩))
   rintro s3056 hd c w hst
   obtain ⟨I3079,hl3080,hok,hsym⟩:=hst
   have le3081:=IH.le.trans le2899 hl3080
   have le3082:=IH.le.trans hl2898 hl3080
   replace R3:=R3.mono hl3080
   refine Cod.at hok hsym (.condP r hd (fun hb3083 hd=>?_) fun hb3083 hd=>?_)
   · refine .seq (.ownF .z fun hne3084=>?_)
     refine .ownF (.s .z) fun hne3085=>?_
     refine .dr [0,1,2,3,4,5,6,7,8] 9 (.fk 5 r ?_)
     obtain ⟨h3086,x3087,hx3088,hd⟩:=hd
     obtain ⟨b3089,e3090⟩:=hne3085 (idx_ne hx3088)
     cases e3090
     refine .g r r r (fun _=>.ixa0 un78 sz127 r r h3086 (idx_lt hx3088 h3086) r r .mk) (.g r r r (fun _=>.loA (j:=0) ia127 sz127 (.s .z) hx3088 r r (.t (.t .nil)) r r r .mk) (.g r r r (fun _=>.loadW ia127 sz127 r (.s (.s .z)) r r r .mk) (.ww r fun ex=>?_)))
     have hw3092:=W_ref02_Add (I:=I3079) hd
     refine .callP call80 r hw3092 r r fun v3093 hv3094=>?_
     obtain ⟨r3091,rfl,hd⟩:=hv3094
     refine .so 3 r r r (.ck 2 r r trivial) (.e2 9 ?_)
     obtain ⟨h3095,x3096,hx3097,hd⟩:=hd
     exact .ixa0 un78 sz127 r r h3095 (idx_lt hx3097 h3095) r r (.stOA (j:=0) (v':=r3091) sz127 (.s .z) hx3097 r r r (.t (.t .nil)) r r (.sub (E':=[(0,_),(1,_),(6,_),(7,.slice (some ⟨b3089,0,none⟩) (s2661.set s2821.toNat r3091).length c2663),(8,_),(9,_),(10,_),(62,_),(63,.slice (some ⟨b3089,0,none⟩) (s2661.set s2821.toNat r3091).length c2663),(64,_),(65,_),(66,.slice (some ⟨b3089,0,none⟩) (s2661.set s2821.toNat r3091).length c2663),(67,_),(68,_),(69,_),(70,_),(71,_),(72,_)]) ⟨r,r,r,(by simp only [List.length_set]; rfl),r,r,r,r,(by simp only [List.length_set]; rfl),r,r,(by simp only [List.length_set]; rfl),r,r,r,r,r,r,trivial⟩ (.nilS [8,7,6,1,0] r r (.drop (.s (.s .z)) (.exitS [8,7,6,1,0] r r (.region (.ks 3 r (.nil' fun c w ho hs=>⟨(s2657,(s2661.set s2821.toNat r3091),w64 (s2665+1)),hd,I3079,_,_,_,_,le3081,ho.sub ⟨r,r,r,r,r,trivial⟩,hs.pick (.c .z (.c .z .n))⟩))))))))
   refine .skipS [10,9,8,7,6,1,0] r r (.sr (.ks 1 r (.build zv27 un27 BI27 .n (by exact trivial) r r (.buildSlice 1 un22 sz27 zv27 r r (.c r r r .n) r r fun b3104=>?_))))
   obtain ⟨hl3106,hd⟩:=hd
   refine .append (ys:=[({ From:=0,To:=0,W:=0 }:Edge)]) 24 (.s .z) un22 un22 IN27 r r r r r r r r r (.box .z (.one r) r) hl3106 r r fun p3107 c3108=>?_
   refine .ks 1 r (.nilS [6,10,9,8,7,1,0] r r (.drop (.s .z) (.sr (.ks 1 r (.build zv127 un127 BI127 .n (by exact trivial) r r (.buildSlice 1 un78 sz127 zv127 r r (.c r r r .n) r r fun b3116=>?_))))))
   obtain ⟨hl3118,hd⟩:=hd
   refine .append (ys:=[({ Hi:=0,Lo:=0 }:Wide)]) 16 (.s (.s .z)) un78 un78 IN127 r r r r r r r r r (.box .z (.one r) r) hl3118 r r fun p3119 c3120=>?_
   refine .ks 1 r (.nilS [7,6,10,9,8,1,0] r r (.drop (.s .z) (.seq (.sr (.ks 1 r (.len un22 r r r r (.ks 2 r (.nilS [11,7,6,10,9,8,1,0] r r (.block ?_)))))))))
   refine .loop hd (fun (s:(List Edge)×(List Wide)×Int) c w=>match s with | (s3281,s3285,s3289)=>∃ I_ p3282 c3283 p3286 c3287,IH.le I3079 I_∧Ok ⟨145,[],none⟩ [(0,.int .i64 a0),(1,.slice p1 a1.length c2),(6,.slice p3282 s3281.length c3283),(7,.slice p3286 s3285.length c3287),(8,.int .i64 s2665),(9,.int .i64 s2821),(10,.pointer (some ⟨b2928,0,none⟩)),(11,.int .i64 s3289)] c∧Sym w0 M I I_ [OwnSl eEdge 27 p3282 c3283 s3281,OwnSl eWide 127 p3286 c3287 s3285,pto b2928 (.cells #[.int .i64 r2924.Hi,.int .u64 r2924.Lo] 127 (0,0))] w) (fun c w ho hs=>⟨I3079,_,_,_,_,(.refl _),ho.sub ⟨r,r,r,r,r,r,r,r,trivial⟩,hs.pick (.c (.s .z) (.c .z (.c .z .n)))⟩) ?_
   rintro ⟨s3281,s3285,s3289⟩ next3290 hd c w hst
   obtain ⟨I3291,p3282,c3283,p3286,c3287,hl3292,hok,hsym⟩:=hst
   have le3293:=IH.le.trans le3081 hl3292
   have le3294:=IH.le.trans le3082 hl3292
   have le3295:=IH.le.trans hl3080 hl3292
   replace R3:=R3.mono hl3292
   refine Cod.at hok hsym (.seq (.sr (.ks 3 r (.nilS [86,11,10,9,8,7,6,1,0] r r (.condP r hd (fun hb3297 hd=>?_) fun hb3297 hd=>?_)))))
   · refine .skipS [11,10,9,8,7,6,1,0] r r (.seq (.block (.sr (.ks 5 r ?_))))
     obtain ⟨h3298,x3299,hx3300,hd⟩:=hd
     refine .ownNe .z (idx_ne hx3300) fun b3301 e3302=>?_
     cases e3302
     refine .ixa0 un22 sz27 r r h3298 (idx_lt hx3300 h3298) r r (.loA (j:=0) ia27 sz27 .z hx3300 r r (.t (.t (.t .nil))) r r r ?_)
     obtain ⟨h3303,x3304,hx3305,hd⟩:=hd
     refine .ixa0 un22 sz27 r r h3303 (idx_lt hx3305 h3303) r r (.stOA (j:=0) (v':=x3299) sz27 .z hx3305 r r r (.t (.t (.t .nil))) r r (.sub (E':=[(0,_),(1,_),(6,.slice (some ⟨b3301,0,none⟩) (s3281.set s3289.toNat x3299).length c3283),(7,_),(8,_),(9,_),(10,_),(11,_),(89,.slice (some ⟨b3301,0,none⟩) (s3281.set s3289.toNat x3299).length c3283),(90,_),(91,.slice (some ⟨b3301,0,none⟩) (s3281.set s3289.toNat x3299).length c3283),(92,_),(93,_),(94,_),(95,_),(96,_)]) ⟨r,r,(by simp only [List.length_set]; rfl),r,r,r,r,r,(by simp only [List.length_set]; rfl),r,(by simp only [List.length_set]; rfl),r,r,r,r,r,trivial⟩ (.nilS [11,10,9,8,7,6,1,0] r r (.region (.ks 5 r ?_)))))
     obtain ⟨h3306,x3307,hx3308,hd⟩:=hd
     refine .ownNe (.s .z) (idx_ne hx3308) fun b3309 e3310=>?_
     cases e3310
     refine .ixa0 un78 sz127 r r h3306 (idx_lt hx3308 h3306) r r (.loA (j:=0) ia127 sz127 (.s .z) hx3308 r r (.t (.t .nil)) r r r ?_)
     obtain ⟨h3311,x3312,hx3313,hd⟩:=hd
     exact .ixa0 un78 sz127 r r h3311 (idx_lt hx3313 h3311) r r (.stOA (j:=0) (v':=x3307) sz127 (.s .z) hx3313 r r r (.t (.t .nil)) r r (.sub (E':=[(0,_),(1,_),(6,_),(7,.slice (some ⟨b3309,0,none⟩) (s3285.set s3289.toNat x3307).length c3287),(8,_),(9,_),(10,_),(11,_),(97,.slice (some ⟨b3309,0,none⟩) (s3285.set s3289.toNat x3307).length c3287),(98,_),(99,.slice (some ⟨b3309,0,none⟩) (s3285.set s3289.toNat x3307).length c3287),(100,_),(101,_),(102,_),(103,_),(104,_)]) ⟨r,r,r,(by simp only [List.length_set]; rfl),r,r,r,r,(by simp only [List.length_set]; rfl),r,(by simp only [List.length_set]; rfl),r,r,r,r,r,trivial⟩ (.nilS [11,10,9,8,7,6,1,0] r r (.region (.ks 3 r (.nil' fun c w ho hs=>⟨((s3281.set s3289.toNat x3299),(s3285.set s3289.toNat x3307),w64 (s3289 - 1)),hd,I3291,_,_,_,_,hl3292,ho.sub ⟨r,r,r,r,r,r,r,r,trivial⟩,hs.pick (.c .z (.c .z (.c .z .n)))⟩))))))
   refine .exitS [10,9,8,7,6,1,0] r r (.seq (.ownF .z fun hne3314=>?_))
   refine .ownF (.s .z) fun hne3315=>?_
   refine .dr [0,1,2,3,4,5,6,7,8,9,10,11,12] 13 (.fk 4 r ?_)
   obtain ⟨h3316,x3317,hx3318,hd⟩:=hd
   obtain ⟨b3319,o3320,cs3321,e3322,hC3323,hr3324⟩:=R3.2 _ _ hx3318
   cases hr3324
   refine .g r r r (fun _=>.ixa un22 sz27 r e3322 r h3316 (idx_lt hx3318 h3316) r r .mk) (.g r r r (fun _=>.fa un27 r sz3 r (o:=o3320+s2665.toNat*3) r r r .mk) (.g r r r (fun _=>.ld1 (j:=0) ia3 hC3323 r r r r r .mk) (.fk 2 r ?_)))
   obtain ⟨h3325,x3326,hx3327,hd⟩:=hd
   obtain ⟨b3328,o3329,cs3330,e3331,hC3332,hr3333⟩:=R3.2 _ _ hx3327
   cases hr3333
   refine .g r r r (fun _=>.ixa un22 sz27 r e3331 r h3325 (idx_lt hx3327 h3325) r r .mk) (.g r r r (fun _=>.fa un27 r sz3 r (o:=o3329+s2665.toNat*3+1) r r r .mk) (.g r r r (fun _=>.ld1 (j:=1) ia3 hC3332 r r r r r .mk) (.g r r r (fun _=>.build zv27 un27 BI27 (.c r r r (.t .nil) (.c r r r (.s (.t .nil)) .n)) (by exact ⟨⟨_,_,r,r,r⟩,⟨⟨_,_,r,r,r⟩,trivial⟩⟩) r r .mk) (.e2 13 ?_))))
   obtain ⟨h3334,x3335,hx3336,hd⟩:=hd
   obtain ⟨b3337,e3338⟩:=hne3314 (idx_ne hx3336)
   cases e3338
   refine .ixa0 un22 sz27 r r h3334 (idx_lt hx3336 h3334) r r (.stOA (j:=0) (v':=({ From:=x3317.From,To:=x3326.To,W:=0 }:Edge)) sz27 .z hx3336 r r r (.t (.t (.t .nil))) r r (.sub (E':=[(0,_),(1,_),(6,.slice (some ⟨b3337,0,none⟩) (s3281.set s2821.toNat ({ From:=x3317.From,To:=x3326.To,W:=0 }:Edge)).length c3283),(7,_),(8,_),(9,_),(10,_),(105,.slice (some ⟨b3337,0,none⟩) (s3281.set s2821.toNat ({ From:=x3317.From,To:=x3326.To,W:=0 }:Edge)).length c3283),(106,_),(107,_),(108,_),(109,_),(110,_),(111,_),(112,_),(113,_),(114,_),(115,_),(116,_),(117,_),(118,_)]) ⟨r,r,(by simp only [List.length_set]; rfl),r,r,r,r,(by simp only [List.length_set]; rfl),r,r,r,r,r,r,r,r,r,r,r,r,r,trivial⟩ (.nilS [10,9,8,7,6,1,0] r r (.region (.ks 2 r (.loadW ia127 sz127 r (.s (.s .z)) r r r ?_))))))
   obtain ⟨h3339,x3340,hx3341,hd⟩:=hd
   obtain ⟨b3342,e3343⟩:=hne3315 (idx_ne hx3341)
   cases e3343
   exact .ixa0 un78 sz127 r r h3339 (idx_lt hx3341 h3339) r r (.stOA (j:=0) (v':=r2924) sz127 (.s .z) hx3341 r r r (.t (.t .nil)) r r (.sub (E':=[(0,_),(1,_),(6,_),(7,.slice (some ⟨b3342,0,none⟩) (s3285.set s2821.toNat r2924).length c3287),(8,_),(9,_),(10,_),(119,.slice (some ⟨b3342,0,none⟩) (s3285.set s2821.toNat r2924).length c3287),(120,_),(121,_),(122,_)]) ⟨r,r,r,(by simp only [List.length_set]; rfl),r,r,r,(by simp only [List.length_set]; rfl),r,r,r,trivial⟩ (.nilS [8,7,6,1,0] r r (.drop (.s (.s .z)) (.region (.ks 3 r (.nil' fun c w ho hs=>⟨((s3281.set s2821.toNat ({ From:=x3317.From,To:=x3326.To,W:=0 }:Edge)),(s3285.set s2821.toNat r2924),w64 (s2665+1)),hd,I3291,_,_,_,_,le3293,ho.sub ⟨r,r,r,r,r,trivial⟩,hs.pick (.c .z (.c .z .n))⟩)))))))
 refine .exitS [7,6] r r (.seq (.sr (.ks 1 r (.nilS [12,7,6] r r (.block (.loop hd (fun (s:(List Edge)×Int) c w=>match s with | (s3411,s3415)=>∃ I_ p3412 c3413,IH.le I2669 I_∧Ok ⟨145,[],none⟩ [(6,.slice p3412 s3411.length c3413),(7,.slice p2662 s2661.length c2663),(12,.int .i64 s3415)] c∧Sym w0 M I I_ [OwnSl eEdge 27 p3412 c3413 s3411,OwnSl eWide 127 p2662 c2663 s2661] w) (fun c w ho hs=>⟨I2669,_,_,(.refl _),ho.sub ⟨r,r,r,trivial⟩,hs.pick (.c .z (.c .z .n))⟩) ?_))))))
 rintro ⟨s3411,s3415⟩ next3416 hd c w hst
 obtain ⟨I3417,p3412,c3413,hl3418,hok,hsym⟩:=hst
 have le3419:=IH.le.trans hl2670 hl3418
 refine Cod.at hok hsym (.seq (.sr (.ks 2 r (.len un22 r r r r (.ks 1 r (.nilS [126,12,7,6] r r (.condP r hd (fun hb3421 hd=>?_) fun hb3421 hd=>?_)))))))
 · refine .skipS [12,7,6] r r (.seq (.block (.sr (.ks 2 r ?_))))
   obtain ⟨h3431,x3432,hx3433,hd⟩:=hd
   refine .ownNe (.s .z) (idx_ne hx3433) fun b3434 e3435=>?_
   cases e3435
   refine .ixa0 un78 sz127 r r h3431 (idx_lt hx3433 h3431) r r (.loA (j:=0) ia127 sz127 (.s .z) hx3433 r r (.t (.t .nil)) r r r ?_)
   have hw3437:=W_ref01_Narrow (I:=I3417) hd
   refine .callP call81 r hw3437 r r fun v3438 hv3439=>?_
   obtain ⟨r3436,rfl,hd⟩:=hv3439
   refine .ks 5 r (.nilS [14,13,12,7,6] r r (.seq (.sr (.ks 2 r (.nilS [138,13,12,7,6] r r (.condP r hd (fun hb3440 hd=>?_) fun hb3440 hd=>?_))))))
   · exact .sr (.ks 2 r (.nilS [5,4] r r (.drop .z (.drop .z (.own0 eEdge 27 (.ret (oret results113 (.t r (.t r .n)) le3419 (.c .z .n) ⟨(([]:List Edge),12),_,_,r,r,hd⟩)))))))
   refine .skipS [13,12,7,6] r r (.region (.ks 3 r ?_))
   obtain ⟨h3442,x3443,hx3444,hd⟩:=hd
   refine .ownNe .z (idx_ne hx3444) fun b3445 e3446=>?_
   cases e3446
   exact .ixa0 un22 sz27 r r h3442 (idx_lt hx3444 h3442) r r (.fa un27 r sz2 r (o:=s3415.toNat*3+2) r r r (.stO1 (j:=2) (v':=({ From:=x3443.From,To:=x3443.To,W:=r3436.1 }:Edge)) sz2 .z hx3444 r r r (.s (.s (.t .nil))) r (.sub (E':=[(6,.slice (some ⟨b3445,0,none⟩) (s3411.set s3415.toNat ({ From:=x3443.From,To:=x3443.To,W:=r3436.1 }:Edge)).length c3413),(7,_),(12,_),(13,_),(139,.slice (some ⟨b3445,0,none⟩) (s3411.set s3415.toNat ({ From:=x3443.From,To:=x3443.To,W:=r3436.1 }:Edge)).length c3413),(140,_),(141,_),(142,_),(143,_)]) ⟨(by simp only [List.length_set]; rfl),r,r,r,(by simp only [List.length_set]; rfl),r,r,r,r,trivial⟩ (.nilS [12,7,6] r r (.region (.ks 3 r (.nil' fun c w ho hs=>⟨((s3411.set s3415.toNat ({ From:=x3443.From,To:=x3443.To,W:=r3436.1 }:Edge)),w64 (s3415+1)),hd,I3417,_,_,hl3418,ho.sub ⟨r,r,r,trivial⟩,hs.pick (.c .z (.c .z .n))⟩)))))))
 exact .exitS [6] r r (.drop (.s .z) (.sr (.ks 3 r (.nilS [5,4] r r (.ret (oret results113 (.t r (.t r .n)) le3419 (.c .z .n) ⟨(s3411,0),_,_,r,r,hd⟩))))))
theorem W_ref05_Canon {I:IH} {a0:Graph} {p1:Option Addr} {c2:Nat} {Q:Graph→Prop} (R3:RepSl eEdge I p1 c2 a0.Edges) (hd:ref05_Canon a0 Q) :
  OFun prog 100 [.agg #[.int .i64 a0.N,.slice p1 a0.Edges.length c2]] I (fun _=>o1_ Q):=by
 refine Fun.enter func100 r ntmps100 r (.c .n) fun w0 M=>?_
 refine .sr (.boxA r r r fun b11=>?_)
 refine .allocA zv24 r r fun b13=>?_
 refine .nilS [2,1] r r (.sr (.fa un24 r sz22 r (o:=1) r r r (.load1 ia22 r (.s .z) r r r ?_)))
 have hw25:=W_ref05_Combine (I:=I) R3 hd
 refine .callO call113 r hw25 r r fun v19 I16 l20 hl17 hv18=>?_
 obtain ⟨r15,p21,c22,rfl,rfl,hd⟩:=hv18
 replace R3:=R3.mono hl17
 refine .ks 5 r (.nilS [3,2,1] r r (.sr (.fa un24 r sz3 r (o:=0) r r r (.load1 ia3 r (.s (.s .z)) r r r (.ks 1 r (.build zv24 un24 BI24 (.c r r r (.t .nil) (.c r r r (.s (.t .nil)) .n)) (by exact ⟨⟨_,_,r,r,r⟩,⟨⟨_,_,r,r,r⟩,trivial⟩⟩) r r (.storeA sz24 r r (.s .z) (.t (.t .nil)) r r (.nilS [2] r r (.drop (.s (.s .z)) ?_)))))))))
 exact .ret (oret results100 (.w ia24 sz24 r (.s .z) r .n) hl17 (.c .z .n) ⟨({ N:=a0.N,Edges:=r15.1 }:Graph),_,_,r,r,hd⟩)
theorem W_ref05_Turn {I:IH} {a0:Graph} {p1:Option Addr} {c2:Nat} {Q:Graph→Prop} (R3:RepSl eEdge I p1 c2 a0.Edges) (hd:ref05_Turn a0 Q) :
  OFun prog 50 [.agg #[.int .i64 a0.N,.slice p1 a0.Edges.length c2]] I (fun _=>o1_ Q):=by
 refine Fun.enter func50 r ntmps50 r (.c .n) fun w0 M=>?_
 refine .sr (.boxA r r r fun b11=>?_)
 refine .allocA zv24 r r fun b13=>?_
 refine .nilS [2,1] r r (.sr (.fa un24 r sz3 r (o:=0) r r r (.load1 ia3 r (.s .z) r r r (.build zv24 un24 BI24 (.c r r r (.t .nil) .n) (by exact ⟨⟨_,_,r,r,r⟩,trivial⟩) r r (.allocA zv24 r r fun b17=>?_)))))
 refine .storeA sz24 r r .z (.t (.t .nil)) r r (.nilS [3,2,1] r r (.seq (.sr (.ks 1 r (.nilS [4,3,2,1] r r (.block (.own0 eEdge 27 (.loop hd (fun (s:(List Edge)×Int) c w=>match s with | (s95,s99)=>∃ I_ p96 c97,IH.le I I_∧Ok ⟨35,[],none⟩ [(1,.pointer (some ⟨b11,0,none⟩)),(2,.pointer (some ⟨b13,0,none⟩)),(3,.pointer (some ⟨b17,0,none⟩)),(4,.int .i64 s99)] c∧Sym w0 M I I_ [pto b11 (.cells #[.int .i64 a0.N,.slice p1 a0.Edges.length c2] 24 (0,0)),pto b13 (.cells #[.int .i64 0,.slice none 0 0] 24 (0,0)),pto b17 (.cells #[.int .i64 a0.N,.slice p96 s95.length c97] 24 (0,0)),OwnSl eEdge 27 p96 c97 s95] w) (fun c w ho hs=>⟨I,_,_,(.refl _),ho.sub ⟨r,r,r,r,trivial⟩,hs.pick (.c (.s (.s (.s .z))) (.c (.s (.s .z)) (.c (.s .z) (.c .z .n))))⟩) ?_))))))))
 rintro ⟨s95,s99⟩ next101 hd c w hst
 obtain ⟨I102,p96,c97,hl103,hok,hsym⟩:=hst
 replace R3:=R3.mono hl103
 refine Cod.at hok hsym (.seq (.sr (.ks 1 r (.fa un24 r sz22 r (o:=1) r r r (.load1 ia22 r .z r r r (.len un22 r r r r (.ks 1 r (.nilS [13,4,3,2,1] r r (.condP r hd (fun hb105 hd=>?_) fun hb105 hd=>?_)))))))))
 · refine .skipS [4,3,2,1] r r (.seq (.block (.sr (.fa un24 r sz22 r (o:=1) r r r (.load1 ia22 r .z r r r (.ks 1 r ?_))))))
   obtain ⟨h117,x118,hx119,hd⟩:=hd
   obtain ⟨b120,o121,cs122,e123,hC124,hr125⟩:=R3.2 _ _ hx119
   cases hr125
   refine .ixa un22 sz27 r e123 r h117 (idx_lt hx119 h117) r r (.ldW ia27 sz27 hC124 r r r r (.allocA zv27 r r fun b126=>?_))
   refine .storeA sz27 r r .z (.t (.t (.t .nil))) r r (.nilS [5,4,3,2,1] r r (.region (.fa un24 r sz22 r (o:=1) r r r (.load1 ia22 r (.s (.s (.s .z))) r r r (.fa un27 r sz3 r (o:=1) r r r (.load1 ia3 r .z r r r (.fa un27 r sz3 r (o:=0) r r r (.load1 ia3 r .z r r r (.fa un27 r sz2 r (o:=2) r r r ?_)))))))))
   refine .load1 ia2 r .z r r r (.build zv27 un27 BI27 (.c r r r (.t .nil) (.c r r r (.s (.t .nil)) (.c r r r (.s (.s (.t .nil))) .n))) (by exact ⟨⟨_,_,r,r,r⟩,⟨⟨_,_,r,r,r⟩,⟨⟨_,_,r,r,r⟩,trivial⟩⟩⟩) r r (.buildSlice 1 un22 sz27 zv27 r r (.c r r r .n) r r fun b128=>?_))
   obtain ⟨hl130,hd⟩:=hd
   refine .append (ys:=[({ From:=x118.To,To:=x118.From,W:=x118.W }:Edge)]) 24 (.s (.s (.s (.s (.s .z))))) un22 un22 IN27 r r r r r r r r r (.box .z (.one r) r) hl130 r r fun p131 c132=>?_
   exact .fa un24 r sz22 r (o:=1) r r r (.store1 sz22 r r (.s (.s (.s (.s (.s .z))))) (.s (.t .nil)) r (.nilS [4,3,2,1] r r (.drop (.s .z) (.drop (.s .z) (.region (.ks 3 r (.nil' fun c w ho hs=>⟨((s95++([({ From:=x118.To,To:=x118.From,W:=x118.W }:Edge)])),w64 (s99+1)),hd,I102,_,_,hl103,ho.sub ⟨r,r,r,r,trivial⟩,hs.pick (.c (.s .z) (.c (.s .z) (.c (.s .z) (.c .z .n))))⟩)))))))
 refine .exitS [3,2] r r (.drop .z (.sr (.loadW ia24 sz24 r (.s .z) r r r (.pub (.s (.s .z)) fun I134 hl135 R136=>?_))))
 have le137:=IH.le.trans hl103 hl135
 have hw148:=W_ref05_Canon (I:=I134) (a0:=({ N:=a0.N,Edges:=s95 }:Graph)) R136 hd
 refine .callO call100 r hw148 r r fun v142 I139 l143 hl140 hv141=>?_
 obtain ⟨r138,p144,c145,rfl,rfl,hd⟩:=hv141
 have le149:=IH.le.trans le137 hl140
 replace R136:=R136.mono hl140
 exact .storeA sz24 r r (.s .z) (.t (.t .nil)) r r (.nilS [2] r r (.drop (.s (.s .z)) (.ret (oret results50 (.w ia24 sz24 r (.s .z) r .n) le149 (.c .z .n) ⟨r138,_,_,r,r,hd⟩))))
theorem W_ref07_Empty {I:IH} {a0:Int} {a1:Int} {Q:Rows→Prop}  (hd:ref07_Empty a0 a1 Q) :
  OFun prog 101 [.int .i64 a0,.int .i64 a1] I (fun _=>o5_ Q):=by
 refine Fun.enter func101 r ntmps101 r (.c (.c .n)) fun w0 M=>?_
 refine .sr (.allocA zv32 r r fun b10=>?_)
 refine .nilS [4,1,0] r r (.sr (.ks 4 r ?_))
 obtain ⟨h12,h13,hd⟩:=hd
 refine .make (El:=eI64) (zv:=0) 8 un29 IN3 r r r r r r h12 h13 r r r fun b14=>?_
 exact .build zv32 un32 BI32 (.c r r r (.t .nil) (.c r r r (.s (.t .nil)) (.c r r r (.s (.s (.t .nil))) .n))) (by exact ⟨⟨_,_,r,r,r⟩,⟨⟨_,_,r,r,r⟩,⟨⟨_,_,r,r,r⟩,trivial⟩⟩⟩) r r (.storeA sz32 r r (.s .z) (.t (.t (.t (.t (.t .nil))))) r r (.nilS [4] r r (.own0 eI64 3 (.own0 eI64 2 (.ret (oret results101 (.w ia32 sz32 r (.s (.s (.s .z))) r .n) (.refl _) (.c (.s (.s .z)) (.c (.s .z) (.c .z .n))) ⟨({ Rows:=a0,Cols:=a1,Start:=(List.replicate (w64 (a0+1)).toNat 0),Col:=([]:List Int),Val:=([]:List Int) }:Rows),_,_,_,_,_,_,r,r,hd⟩))))))
theorem W_ref07_built {I:IH} {a0:Int} {a1:Int} {a2:List Triple} {p1:Option Addr} {c2:Nat} {Q:Rows→Prop} (R3:RepSl eTriple I p1 c2 a2) (hd:ref07_built a0 a1 a2 Q) :
  PFun prog 51 [.int .i64 a0,.int .i64 a1,.slice p1 a2.length c2] I (o6_ Q):=by
 refine Fun.enter func51 r ntmps51 r (.c (.c (.c .n))) fun w0 M=>?_
 refine .sr (.allocA zv32 r r fun b15=>?_)
 refine .nilS [6,2,1,0] r r (.sr (.ks 2 r ?_))
 have hw56:=W_ref07_Empty (I:=I) hd
 refine .callO call101 r hw56 r r fun v42 I39 l43 hl40 hv41=>?_
 obtain ⟨r38,p44,c45,p47,c48,p50,c51,rfl,rfl,hd⟩:=hv41
 replace R3:=R3.mono hl40
 refine .allocA zv32 r r fun b57=>?_
 refine .storeA sz32 r r .z (.t (.t (.t (.t (.t .nil))))) r r (.nilS [7,6,2,0] r r (.seq (.sr (.ks 1 r (.nilS [8,7,6,2,0] r r (.block (.loop hd (fun (s:(List Int)×(List Int)×(List Int)×Int) c w=>match s with | (s390,s394,s398,s402)=>∃ I_ p391 c392 p395 c396 p399 c400,IH.le I39 I_∧Ok ⟨58,[],none⟩ [(0,.int .i64 a0),(2,.slice p1 a2.length c2),(6,.pointer (some ⟨b15,0,none⟩)),(7,.pointer (some ⟨b57,0,none⟩)),(8,.int .i64 s402)] c∧Sym w0 M I I_ [pto b15 (.cells #[.int .i64 0,.int .i64 0,.slice none 0 0,.slice none 0 0,.slice none 0 0] 32 (0,0)),pto b57 (.cells #[.int .i64 r38.Rows,.int .i64 r38.Cols,.slice p391 s390.length c392,.slice p395 s394.length c396,.slice p399 s398.length c400] 32 (0,0)),OwnSl eI64 3 p391 c392 s390,OwnSl eI64 3 p395 c396 s394,OwnSl eI64 2 p399 c400 s398] w) (fun c w ho hs=>⟨I39,_,_,_,_,_,_,(.refl _),ho.sub ⟨r,r,r,r,r,trivial⟩,hs.pick (.c (.s (.s (.s (.s .z)))) (.c .z (.c .z (.c .z (.c .z .n)))))⟩) ?_)))))))
 rintro ⟨s390,s394,s398,s402⟩ next403 hd c w hst
 obtain ⟨I404,p391,c392,p395,c396,p399,c400,hl405,hok,hsym⟩:=hst
 have le406:=IH.le.trans hl40 hl405
 replace R3:=R3.mono hl405
 refine Cod.at hok hsym (.seq (.sr (.ks 2 r (.len un99 r r r r (.ks 1 r (.nilS [16,8,7,6,2,0] r r (.condP r hd (fun hb408 hd=>?_) fun hb408 hd=>?_)))))))
 · refine .skipS [8,7,6,2,0] r r (.seq (.block (.seq (.ownF (.s (.s .z)) fun hne427=>?_))))
   refine .ownF (.s (.s (.s .z))) fun hne428=>?_
   refine .ownF (.s (.s (.s (.s .z)))) fun hne429=>?_
   refine .dr [0,1,2,3,4,5,6,7,8] 9 (.g r r r (fun _=>.fa un32 r sz29 r (o:=3) r r r .mk) (.g r r r (fun _=>.load1 ia29 r (.s .z) r r r .mk) (.fk 2 r ?_)))
   obtain ⟨h430,x431,hx432,hd⟩:=hd
   obtain ⟨b433,o434,cs435,e436,hC437,hr438⟩:=R3.2 _ _ hx432
   cases hr438
   refine .g r r r (fun _=>.ixa un99 sz101 r e436 r h430 (idx_lt hx432 h430) r r .mk) (.g r r r (fun _=>.fa un101 r sz3 r (o:=o434+s402.toNat*3+1) r r r .mk) (.g r r r (fun _=>.ld1 (j:=1) ia3 hC437 r r r r r .mk) (.ww r fun ex=>?_)))
   refine .buildSlice 1 un29 sz3 zv3 r r (.c r r r .n) r r fun b439=>?_
   refine .so 6 r r r (.cg r r r r (fun _=>.load1 ia29 r (.s (.s .z)) r r r .mk) (.cg r r r r (fun _=>.fa un32 r sz29 r (o:=3) r r r .mk) trivial)) (.ww r fun ex=>?_)
   obtain ⟨hl441,hd⟩:=hd
   refine .append (ys:=[x431.Col]) 8 (.s (.s (.s (.s .z)))) un29 un29 IN3 r r r r r r r r r (.box .z (.one r) r) hl441 r r fun p442 c443=>?_
   refine .so 6 r r r trivial (.e2 9 (.fa un32 r sz29 r (o:=3) r r r (.store1 sz29 r r (.s (.s (.s .z))) (.s (.s (.s (.t .nil)))) r (.nilS [8,7,6,2,0] r r (.drop (.s .z) (.seq (.ownF .z fun hne463=>?_)))))))
   refine .ownF (.s (.s (.s .z))) fun hne464=>?_
   refine .ownF (.s (.s (.s (.s .z)))) fun hne465=>?_
   refine .dr [0,1,2,3,4,5,6,7,8] 9 (.g r r r (fun _=>.fa un32 r sz30 r (o:=4) r r r .mk) (.g r r r (fun _=>.load1 ia30 r (.s (.s .z)) r r r .mk) (.fk 2 r ?_)))
   obtain ⟨h466,x467,hx468,hd⟩:=hd
   obtain ⟨b469,o470,cs471,e472,hC473,hr474⟩:=R3.2 _ _ hx468
   cases hr474
   refine .g r r r (fun _=>.ixa un99 sz101 r e472 r h466 (idx_lt hx468 h466) r r .mk) (.g r r r (fun _=>.fa un101 r sz2 r (o:=o470+s402.toNat*3+2) r r r .mk) (.g r r r (fun _=>.ld1 (j:=2) ia2 hC473 r r r r r .mk) (.ww r fun ex=>?_)))
   refine .buildSlice 1 un30 sz2 zv2 r r (.c r r r .n) r r fun b475=>?_
   refine .so 6 r r r (.cg r r r r (fun _=>.load1 ia30 r (.s (.s (.s .z))) r r r .mk) (.cg r r r r (fun _=>.fa un32 r sz30 r (o:=4) r r r .mk) trivial)) (.ww r fun ex=>?_)
   obtain ⟨hl477,hd⟩:=hd
   refine .append (ys:=[x467.Val]) 8 (.s (.s (.s (.s (.s .z))))) un30 un30 IN2 r r r r r r r r r (.box .z (.one r) r) hl477 r r fun p478 c479=>?_
   refine .so 6 r r r trivial (.e2 9 (.fa un32 r sz30 r (o:=4) r r r (.store1 sz30 r r (.s (.s (.s (.s .z)))) (.s (.s (.s (.s (.t .nil))))) r (.nilS [8,7,6,2,0] r r (.drop (.s .z) (.sr (.ks 2 r ?_)))))))
   obtain ⟨h490,x491,hx492,hd⟩:=hd
   obtain ⟨b493,o494,cs495,e496,hC497,hr498⟩:=R3.2 _ _ hx492
   cases hr498
   refine .ixa un99 sz101 r e496 r h490 (idx_lt hx492 h490) r r (.fa un101 r sz3 r (o:=o494+s402.toNat*3) r r r (.ld1 (j:=0) ia3 hC497 r r r r r (.ks 2 r (.nilS [9,8,7,6,2,0] r r (.block (.loop hd (fun (s:(List Int)×Int) c w=>match s with | (s534,s538)=>∃ I_ p535 c536,IH.le I404 I_∧Ok ⟨58,[],none⟩ [(0,.int .i64 a0),(2,.slice p1 a2.length c2),(6,.pointer (some ⟨b15,0,none⟩)),(7,.pointer (some ⟨b57,0,none⟩)),(8,.int .i64 s402),(9,.int .i64 s538)] c∧Sym w0 M I I_ [pto b15 (.cells #[.int .i64 0,.int .i64 0,.slice none 0 0,.slice none 0 0,.slice none 0 0] 32 (0,0)),pto b57 (.cells #[.int .i64 r38.Rows,.int .i64 r38.Cols,.slice p535 s534.length c536,.slice p442 (s394++([x431.Col])).length c443,.slice p478 (s398++([x467.Val])).length c479] 32 (0,0)),OwnSl eI64 3 p535 c536 s534,OwnSl eI64 3 p442 c443 (s394++([x431.Col])),OwnSl eI64 2 p478 c479 (s398++([x467.Val]))] w) (fun c w ho hs=>⟨I404,_,_,(.refl _),ho.sub ⟨r,r,r,r,r,r,trivial⟩,hs.pick (.c (.s (.s .z)) (.c (.s (.s .z)) (.c (.s (.s .z)) (.c (.s .z) (.c .z .n)))))⟩) ?_))))))
   rintro ⟨s534,s538⟩ next539 hd c w hst
   obtain ⟨I540,p535,c536,hl541,hok,hsym⟩:=hst
   have le542:=IH.le.trans le406 hl541
   have le543:=IH.le.trans hl405 hl541
   replace R3:=R3.mono hl541
   refine Cod.at hok hsym (.seq (.sr (.ks 3 r (.nilS [47,9,8,7,6,2,0] r r (.condP r hd (fun hb545 hd=>?_) fun hb545 hd=>?_)))))
   · refine .skipS [9,8,7,6,2,0] r r (.seq (.block (.region (.fa un32 r sz29 r (o:=2) r r r (.load1 ia29 r (.s .z) r r r (.ks 1 r ?_))))))
     obtain ⟨h546,x547,hx548,hd⟩:=hd
     refine .ownNe (.s (.s .z)) (idx_ne hx548) fun b549 e550=>?_
     cases e550
     refine .ixa0 un29 sz3 r r h546 (idx_lt hx548 h546) r r (.lo1 (j:=0) ia3 (.s (.s .z)) hx548 r r r r r (.ks 1 r ?_))
     obtain ⟨h551,x552,hx553,hd⟩:=hd
     exact .ixa0 un29 sz3 r r h551 (idx_lt hx553 h551) r r (.stO1 (j:=0) (v':=(w64 (x547+1))) sz3 (.s (.s .z)) hx553 r r r (.t .nil) r (.sub (E':=[(0,_),(2,_),(6,_),(7,_),(8,_),(9,_),(50,_),(51,.slice (some ⟨b549,0,none⟩) (s534.set s538.toNat (w64 (x547+1))).length c536),(52,_),(53,_),(54,_),(55,_),(56,_)]) ⟨r,r,r,r,r,r,r,(by simp only [List.length_set]; rfl),r,r,r,r,r,trivial⟩ (.reat (.s .z) (B:=pto b57 (.cells #[.int .i64 r38.Rows,.int .i64 r38.Cols,.slice (some ⟨b549,0,none⟩) (s534.set s538.toNat (w64 (x547+1))).length c536,.slice p442 (s394++([x431.Col])).length c443,.slice p478 (s398++([x467.Val])).length c479] 32 (0,0))) (by simp only [List.length_set]) (.nilS [9,8,7,6,2,0] r r (.region (.ks 3 r (.nil' fun c w ho hs=>⟨((s534.set s538.toNat (w64 (x547+1))),w64 (s538+1)),hd,I540,_,_,hl541,ho.sub ⟨r,r,r,r,r,r,trivial⟩,hs.pick (.c .z (.c .z (.c .z (.c .z (.c .z .n)))))⟩)))))))
   exact .exitS [8,7,6,2,0] r r (.region (.ks 3 r (.nil' fun c w ho hs=>⟨(s534,(s394++([x431.Col])),(s398++([x467.Val])),w64 (s402+1)),hd,I540,_,_,_,_,_,_,le543,ho.sub ⟨r,r,r,r,r,trivial⟩,hs.pick (.c .z (.c .z (.c .z (.c .z (.c .z .n)))))⟩)))
 refine .exitS [7,6] r r (.sr (.loadW ia32 sz32 r (.s .z) r r r (.storeA sz32 r r .z (.t (.t (.t (.t (.t .nil))))) r r (.nilS [6] r r (.drop (.s .z) (.pub (.s .z) fun I554 hl555 R556=>?_))))))
 have le557:=IH.le.trans le406 hl555
 have le558:=IH.le.trans hl405 hl555
 refine .pub (.s .z) fun I559 hl560 R561=>?_
 have le562:=IH.le.trans le557 hl560
 have le563:=IH.le.trans le558 hl560
 replace R556:=R556.mono hl560
 refine .pub (.s .z) fun I564 hl565 R566=>?_
 have le567:=IH.le.trans le562 hl565
 have le568:=IH.le.trans le563 hl565
 replace R556:=R556.mono hl565
 replace R561:=R561.mono hl565
 exact .ret (pret results51 (.w ia32 sz32 r .z r .n) le567 ⟨({ Rows:=r38.Rows,Cols:=r38.Cols,Start:=s390,Col:=s394,Val:=s398 }:Rows),_,_,_,_,_,_,r,R556,R561,R566,hd⟩)
theorem W_ref07_Graph {I:IH} {a0:Graph} {p1:Option Addr} {c2:Nat} {Q:(Rows×Int)→Prop} (R3:RepSl eEdge I p1 c2 a0.Edges) (hd:ref07_Graph a0 Q) :
  PFun prog 17 [.agg #[.int .i64 a0.N,.slice p1 a0.Edges.length c2]] I (o7_ Q):=by
 refine Fun.enter func17 r ntmps17 r (.c .n) fun w0 M=>?_
 refine .sr (.boxA r r r fun b17=>?_)
 refine .allocA zv32 r r fun b19=>?_
 refine .ks 1 r (.nilS [2,1] r r (.seq (.sr (.loadW ia24 sz24 r (.s .z) r r r ?_))))
 have hw35:=W_ref05_Right (I:=I) R3 hd
 refine .callP call49 r hw35 r r fun v36 hv37=>?_
 obtain ⟨r34,rfl,hd⟩:=hv37
 refine .ks 1 r (.nilS [4,2,1] r r (.sr (.ks 2 r (.nilS [11,4,2,1] r r (.condP r hd (fun hb38 hd=>?_) fun hb38 hd=>?_)))))
 · exact .sr (.build zv32 un32 BI32 .n (by exact trivial) r r (.ks 1 r (.storeA sz32 r r .z (.t (.t (.t (.t (.t .nil))))) r r (.ks 1 r (.nilS [3,2] r r (.drop (.s .z) (.ret (pret results17 (.w ia32 sz32 r .z r (.t r .n)) (.refl _) ⟨(({ Rows:=0,Cols:=0,Start:=([]:List Int),Col:=([]:List Int),Val:=([]:List Int) }:Rows),r34),_,_,_,_,_,_,r,(.nil _ _ _),(.nil _ _ _),(.nil _ _ _),hd⟩))))))))
 refine .skipS [2,1] r r (.sr (.loadW ia24 sz24 r (.s .z) r r r ?_))
 have hw62:=W_ref05_Turn (I:=I) R3 hd
 refine .callO call50 r hw62 r r fun v56 I53 l57 hl54 hv55=>?_
 obtain ⟨r52,p58,c59,rfl,rfl,hd⟩:=hv55
 replace R3:=R3.mono hl54
 refine .allocA zv24 r r fun b63=>?_
 refine .storeA sz24 r r .z (.t (.t .nil)) r r (.nilS [5,2,1] r r (.sr (.ks 1 r (.nilS [6,5,2,1] r r (.seq (.sr (.ks 1 r (.nilS [7,6,5,2,1] r r (.block ?_)))))))))
 refine .own0 eTriple 101 (.loop hd (fun (s:(List Triple)×Int) c w=>match s with | (s122,s126)=>∃ I_ p123 c124,IH.le I53 I_∧Ok ⟨51,[],none⟩ [(1,.pointer (some ⟨b17,0,none⟩)),(2,.pointer (some ⟨b19,0,none⟩)),(5,.pointer (some ⟨b63,0,none⟩)),(6,.slice p123 s122.length c124),(7,.int .i64 s126)] c∧Sym w0 M I I_ [pto b17 (.cells #[.int .i64 a0.N,.slice p1 a0.Edges.length c2] 24 (0,0)),pto b19 (.cells #[.int .i64 0,.int .i64 0,.slice none 0 0,.slice none 0 0,.slice none 0 0] 32 (0,0)),pto b63 (.cells #[.int .i64 r52.N,.slice p58 r52.Edges.length c59] 24 (0,0)),OwnSl eEdge 27 p58 c59 r52.Edges,OwnSl eTriple 101 p123 c124 s122] w) (fun c w ho hs=>⟨I53,_,_,(.refl _),ho.sub ⟨r,r,r,r,r,trivial⟩,hs.pick (.c (.s (.s (.s (.s .z)))) (.c (.s (.s (.s .z))) (.c (.s .z) (.c (.s .z) (.c .z .n)))))⟩) ?_)
 rintro ⟨s122,s126⟩ next128 hd c w hst
 obtain ⟨I129,p123,c124,hl130,hok,hsym⟩:=hst
 have le131:=IH.le.trans hl54 hl130
 replace R3:=R3.mono hl130
 refine Cod.at hok hsym (.seq (.sr (.ks 1 r (.fa un24 r sz22 r (o:=1) r r r (.load1 ia22 r (.s (.s .z)) r r r (.len un22 r r r r (.ks 1 r (.nilS [20,7,6,5,2,1] r r (.condP r hd (fun hb133 hd=>?_) fun hb133 hd=>?_)))))))))
 · refine .skipS [7,6,5,2,1] r r (.seq (.block (.ownF (.s (.s (.s .z))) fun hne134=>?_)))
   refine .ownF (.s (.s (.s (.s .z)))) fun hne135=>?_
   refine .dr [0,1,2,3,4,5,6,7,8,9,10,11,12,13,14,15,16,17,18,19,20,21] 22 (.fk 1 r (.g r r r (fun _=>.fa un24 r sz22 r (o:=1) r r r .mk) (.g r r r (fun _=>.load1 ia22 r (.s (.s .z)) r r r .mk) (.fk 1 r ?_))))
   obtain ⟨h136,x137,hx138,hd⟩:=hd
   obtain ⟨b139,e140⟩:=hne134 (idx_ne hx138)
   cases e140
   refine .g r r r (fun _=>.ixa0 un22 sz27 r r h136 (idx_lt hx138 h136) r r .mk) (.g r r r (fun _=>.fa un27 r sz3 r (o:=s126.toNat*3) r r r .mk) (.g r r r (fun _=>.lo1 (j:=0) ia3 (.s (.s (.s .z))) hx138 r r r r r .mk) (.g r r r (fun _=>.fa un24 r sz22 r (o:=1) r r r .mk) (.g r r r (fun _=>.load1 ia22 r (.s (.s .z)) r r r .mk) (.fk 1 r ?_)))))
   obtain ⟨h141,x142,hx143,hd⟩:=hd
   refine .g r r r (fun _=>.ixa0 un22 sz27 r r h141 (idx_lt hx143 h141) r r .mk) (.g r r r (fun _=>.fa un27 r sz3 r (o:=s126.toNat*3+1) r r r .mk) (.g r r r (fun _=>.lo1 (j:=1) ia3 (.s (.s (.s .z))) hx143 r r r r r .mk) (.g r r r (fun _=>.fa un24 r sz22 r (o:=1) r r r .mk) (.g r r r (fun _=>.load1 ia22 r (.s (.s .z)) r r r .mk) (.fk 1 r ?_)))))
   obtain ⟨h144,x145,hx146,hd⟩:=hd
   refine .g r r r (fun _=>.ixa0 un22 sz27 r r h144 (idx_lt hx146 h144) r r .mk) (.g r r r (fun _=>.fa un27 r sz2 r (o:=s126.toNat*3+2) r r r .mk) (.g r r r (fun _=>.lo1 (j:=2) ia2 (.s (.s (.s .z))) hx146 r r r r r .mk) (.g r r r (fun _=>.build zv101 un101 BI101 (.c r r r (.t .nil) (.c r r r (.s (.t .nil)) (.c r r r (.s (.s (.t .nil))) .n))) (by exact ⟨⟨_,_,r,r,r⟩,⟨⟨_,_,r,r,r⟩,⟨⟨_,_,r,r,r⟩,trivial⟩⟩⟩) r r .mk) (.ww r fun ex=>?_))))
   refine .buildSlice 1 un99 sz101 zv101 r r (.c r r r .n) r r fun b147=>?_
   refine .so 6 r r r (.ck 1 r r trivial) (.ww r fun ex=>?_)
   obtain ⟨hl149,hd⟩:=hd
   refine .append (ys:=[({ Row:=x137.From,Col:=x142.To,Val:=x145.W }:Triple)]) 24 (.s (.s (.s (.s (.s .z))))) un99 un99 IN101 r r r r r r r r r (.box .z (.one r) r) hl149 r r fun p150 c151=>?_
   exact .so 6 r r r trivial (.e2 22 (.ks 1 r (.nilS [6,7,5,2,1] r r (.drop (.s .z) (.region (.ks 3 r (.nil' fun c w ho hs=>⟨((s122++([({ Row:=x137.From,Col:=x142.To,Val:=x145.W }:Triple)])),w64 (s126+1)),hd,I129,_,_,hl130,ho.sub ⟨r,r,r,r,r,trivial⟩,hs.pick (.c (.s .z) (.c (.s .z) (.c (.s .z) (.c (.s .z) (.c .z .n)))))⟩)))))))
 refine .exitS [6,2,1] r r (.drop (.s (.s .z)) (.drop (.s (.s .z)) (.sr (.fa un24 r sz3 r (o:=0) r r r (.load1 ia3 r .z r r r (.fa un24 r sz3 r (o:=0) r r r (.load1 ia3 r .z r r r (.ks 1 r (.pub (.s (.s .z)) fun I153 hl154 R155=>?_)))))))))
 have le156:=IH.le.trans le131 hl154
 have le157:=IH.le.trans hl130 hl154
 replace R3:=R3.mono hl154
 have hw173:=W_ref07_built (I:=I153) R155 hd
 refine .call call51 r hw173 r r fun v162 I159 hl160 hv161=>?_
 obtain ⟨r158,p164,c165,p167,c168,p170,c171,rfl,R166,R169,R172,hd⟩:=hv161
 have le174:=IH.le.trans le156 hl160
 have le175:=IH.le.trans le157 hl160
 replace R3:=R3.mono hl160
 replace R155:=R155.mono hl160
 exact .storeA sz32 r r (.s .z) (.t (.t (.t (.t (.t .nil))))) r r (.ks 1 r (.nilS [3,2] r r (.drop .z (.ret (pret results17 (.w ia32 sz32 r .z r (.t r .n)) le174 ⟨(r158,0),_,_,_,_,_,_,r,R166,R169,R172,hd⟩)))))
theorem W_gemm_sure {I:IH} {a0:List Rows} {p1:Option Addr} {c2:Nat} {Q:(List Rows)→Prop} (R3:RepSl eRows I p1 c2 a0) (hd:gemm_sure a0 Q) :
  PFun prog 53 [.slice p1 a0.length c2] I (fun I_ v=>∃ r p4 c5,v=.slice p4 r.length c5∧RepSl eRows I_ p4 c5 r∧Q r):=by
 refine Fun.enter func53 r ntmps53 r (.c .n) fun w0 M=>?_
 refine .sr (.ks 1 r (.nilS [0] r r (.sr (.ks 1 r (.nilS [3,0] r r (.seq (.sr (.ks 1 r (.len un106 r r r r ?_)))))))))
 refine .ks 1 r (.nilS [8,7,6,3] r r (.block (.own0 eRows 32 (.loop hd (fun (s:(List Rows)×Int) c w=>match s with | (s174,s178)=>∃ I_ p175 c176,IH.le I I_∧Ok ⟨25,[],none⟩ [(3,.slice p175 s174.length c176),(6,.slice p1 a0.length c2),(7,.int .i64 (a0.length:Int)),(8,.int .i64 s178)] c∧Sym w0 M I I_ [OwnSl eRows 32 p175 c176 s174] w) (fun c w ho hs=>⟨I,_,_,(.refl _),ho.sub ⟨r,r,r,r,trivial⟩,hs.pick (.c .z .n)⟩) ?_))))
 rintro ⟨s174,s178⟩ next180 hd c w hst
 obtain ⟨I181,p175,c176,hl182,hok,hsym⟩:=hst
 replace R3:=R3.mono hl182
 refine Cod.at hok hsym (.sr (.ks 1 r (.nilS [9,8,7,6,3] r r (.seq (.condP r hd (fun hb184 hd=>?_) fun hb184 hd=>?_)))))
 · refine .skipS [8,7,6,3] r r (.seq (.block (.sr ?_)))
   obtain ⟨h205,x206,hx207,hd⟩:=hd
   obtain ⟨b208,o209,cs210,e211,hC212,hr213⟩:=R3.2 _ _ hx207
   obtain ⟨p214,c215,p217,c218,p220,c221,rfl,R216,R219,R222⟩:=hr213
   refine .ixa un106 sz32 r e211 r h205 (idx_lt hx207 h205) r r (.ldW ia32 sz32 hC212 r r r r (.allocA zv32 r r fun b223=>?_))
   refine .storeA sz32 r r .z (.t (.t (.t (.t (.t .nil))))) r r (.nilS [5,8,7,6,3] r r (.seq (.sr (.loadW ia32 sz32 r .z r r r ?_))))
   have hw226:=W_csr_Right (I:=I181) R216 R219 R222 hd
   refine .callP call96 r hw226 r r fun v227 hv228=>?_
   obtain ⟨r225,rfl,hd⟩:=hv228
   refine .ks 1 r (.nilS [14,5,8,7,6,3] r r (.condP r hd (fun hb229 hd=>?_) fun hb229 hd=>?_))
   · refine .region (.loadW ia32 sz32 r .z r r r (.buildArr zv169 un169 sz3 .n r r (.buildArr zv169 un169 sz3 .n r r ?_)))
     have hw245:=W_csr_Cut (I:=I181) R216 R219 R222 hd
     refine .call call105 r hw245 r r fun v234 I231 hl232 hv233=>?_
     obtain ⟨r230,p236,c237,p239,c240,p242,c243,rfl,R238,R241,R244,hd⟩:=hv233
     have le246:=IH.le.trans hl182 hl232
     replace R3:=R3.mono hl232
     replace R216:=R216.mono hl232
     replace R219:=R219.mono hl232
     replace R222:=R222.mono hl232
     refine .storeA sz32 r r .z (.t (.t (.t (.t (.t .nil))))) r r (.nilS [5,8,7,6,3] r r (.region (.ks 1 r (.loadW ia32 sz32 r .z r r r (.buildSlice 1 un106 sz32 zv32 r r (.c r r r .n) r r fun b247=>?_)))))
     obtain ⟨hl249,hd⟩:=hd
     refine .append (ys:=[r230]) 88 (.s (.s .z)) un106 un106 IN32 r r r r r r r r r (.box .z (.one ⟨_,_,_,_,_,_,r,R238,R241,R244⟩) r) hl249 r r fun p250 c251=>?_
     exact .ks 1 r (.nilS [3,8,7,6] r r (.drop (.s .z) (.drop (.s .z) (.region (.ks 2 r (.nil' fun c w ho hs=>⟨((s174++([r230])),w64 (s178+1)),hd,I231,_,_,le246,ho.sub ⟨r,r,r,r,trivial⟩,hs.pick (.c .z .n)⟩))))))
   refine .skipS [5,8,7,6,3] r r (.region (.ks 1 r (.loadW ia32 sz32 r .z r r r (.buildSlice 1 un106 sz32 zv32 r r (.c r r r .n) r r fun b253=>?_))))
   obtain ⟨hl255,hd⟩:=hd
   refine .append (ys:=[x206]) 88 (.s (.s .z)) un106 un106 IN32 r r r r r r r r r (.box .z (.one ⟨_,_,_,_,_,_,r,R216,R219,R222⟩) r) hl255 r r fun p256 c257=>?_
   exact .ks 1 r (.nilS [3,8,7,6] r r (.drop (.s .z) (.drop (.s .z) (.region (.ks 2 r (.nil' fun c w ho hs=>⟨((s174++([x206])),w64 (s178+1)),hd,I181,_,_,hl182,ho.sub ⟨r,r,r,r,trivial⟩,hs.pick (.c .z .n)⟩))))))
 refine .exitS [3] r r (.sr (.ks 2 r (.nilS [2] r r (.pub .z fun I259 hl260 R261=>?_))))
 have le262:=IH.le.trans hl182 hl260
 exact .ret (pret results53 (.t r .n) le262 ⟨s174,_,_,r,R261,hd⟩)
theorem W_gemm_part {I:IH} {a0:Rows} {a1:Int} {p1:Option Addr} {c2:Nat} {p4:Option Addr} {c5:Nat} {p7:Option Addr} {c8:Nat} {Q:((List Int)×(List Int))→Prop} (R3:RepSl eI64 I p1 c2 a0.Start) (R6:RepSl eI64 I p4 c5 a0.Col) (R9:RepSl eI64 I p7 c8 a0.Val) (hd:gemm_part a0 a1 Q) :
  PFun prog 103 [.agg #[.int .i64 a0.Rows,.int .i64 a0.Cols,.slice p1 a0.Start.length c2,.slice p4 a0.Col.length c5,.slice p7 a0.Val.length c8],.int .i64 a1] I (o10_ Q):=by
 refine Fun.enter func103 r ntmps103 r (.c (.c .n)) fun w0 M=>?_
 refine .sr (.boxA r r r fun b18=>?_)
 refine .ks 2 r (.nilS [2,1] r r (.seq (.dr [0,1,2,3,4,5,6,7,8,9,10,11] 12 (.g r r r (fun _=>.fa un32 r sz29 r (o:=2) r r r .mk) (.g r r r (fun _=>.load1 ia29 r .z r r r .mk) (.fk 1 r ?_))))))
 obtain ⟨h38,x39,hx40,hd⟩:=hd
 obtain ⟨b41,o42,cs43,e44,hC45,hr46⟩:=R3.2 _ _ hx40
 cases hr46
 refine .g r r r (fun _=>.ixa un29 sz3 r e44 r h38 (idx_lt hx40 h38) r r .mk) (.g r r r (fun _=>.ld1 (j:=0) ia3 hC45 r r r r r .mk) (.g r r r (fun _=>.fa un32 r sz29 r (o:=2) r r r .mk) (.g r r r (fun _=>.load1 ia29 r .z r r r .mk) (.fk 2 r ?_))))
 obtain ⟨h47,x48,hx49,hd⟩:=hd
 obtain ⟨b50,o51,cs52,e53,hC54,hr55⟩:=R3.2 _ _ hx49
 cases hr55
 refine .g r r r (fun _=>.ixa un29 sz3 r e53 r h47 (idx_lt hx49 h47) r r .mk) (.g r r r (fun _=>.ld1 (j:=0) ia3 hC54 r r r r r .mk) (.fk 1 r (.e2 12 (.ks 1 r (.nilS [7,6,2] r r (.seq (.dr [0,1,2,3,4,5,6,7,8,9,10,11,12] 13 (.g r r r (fun _=>.fa un32 r sz29 r (o:=3) r r r .mk) (.g r r r (fun _=>.load1 ia29 r .z r r r .mk) ?_)))))))))
 refine .fk 3 r ?_
 obtain ⟨h56,h57,h58,hd⟩:=hd
 have h64:Int.toNat x39≤Int.toNat x48:=by omega
 have h65:Int.toNat x48≤a0.Col.length:=by omega
 obtain ⟨p59,c60,e62,e63,R61⟩:=RepSl.sliceW R6 (Int.toNat x39) (Int.toNat x48) (Int.toNat x48) h64 h65 (.inr rfl)
 refine .g r r r (fun _=>.sliceW (L:=Int.toNat x39) (H:=Int.toNat x48) (cm:=Int.toNat x48) un29 sz3 r r R6.1 r r r (.inr ⟨_,_,r,h56,r⟩) (.inr ⟨_,_,r,(by omega),r⟩) (.inr r) h64 h65 r e62 e63 r r .mk) (.g r r r (fun _=>.fa un32 r sz30 r (o:=4) r r r .mk) (.g r r r (fun _=>.load1 ia30 r .z r r r .mk) (.fk 3 r ?_)))
 obtain ⟨h66,h67,h68,hd⟩:=hd
 have h74:Int.toNat x39≤Int.toNat x48:=by omega
 have h75:Int.toNat x48≤a0.Val.length:=by omega
 obtain ⟨p69,c70,e72,e73,R71⟩:=RepSl.sliceW R9 (Int.toNat x39) (Int.toNat x48) (Int.toNat x48) h74 h75 (.inr rfl)
 exact .g r r r (fun _=>.sliceW (L:=Int.toNat x39) (H:=Int.toNat x48) (cm:=Int.toNat x48) un30 sz2 r r R9.1 r r r (.inr ⟨_,_,r,h66,r⟩) (.inr ⟨_,_,r,(by omega),r⟩) (.inr r) h74 h75 r e72 e73 r r .mk) (.fk 1 r (.e2 13 (.ks 1 r (.nilS [5,4] r r (.drop .z (.ret (pret results103 (.t r (.t r .n)) (.refl _) ⟨(((a0.Col.take x48.toNat).drop x39.toNat),((a0.Val.take x48.toNat).drop x39.toNat)),_,_,_,_,r,R61,R71,hd⟩)))))))
theorem W_gemm_row_3a1 {I:IH} {o0:List (Int×Bool)} {a0:Int} {a1:Rows} {a2:Rows} {a3:Int} {b2:Nat} {p3:Option Addr} {c4:Nat} {p6:Option Addr} {c7:Nat} {p9:Option Addr} {c10:Nat} {p12:Option Addr} {c13:Nat} {p15:Option Addr} {c16:Nat} {p18:Option Addr} {c19:Nat} {Q:(List (Int×Wide))→Prop} (R5:RepSl eI64 I p3 c4 a1.Start) (R8:RepSl eI64 I p6 c7 a1.Col) (R11:RepSl eI64 I p9 c10 a1.Val) (R14:RepSl eI64 I p12 c13 a2.Start) (R17:RepSl eI64 I p15 c16 a2.Col) (R20:RepSl eI64 I p18 c19 a2.Val) (hd:gemm_row_3a1 o0 a0 a1 a2 a3 Q) :
  Fun prog 104 #[.int .i64 a0,.agg #[.int .i64 a1.Rows,.int .i64 a1.Cols,.slice p3 a1.Start.length c4,.slice p6 a1.Col.length c7,.slice p9 a1.Val.length c10],.agg #[.int .i64 a2.Rows,.int .i64 a2.Cols,.slice p12 a2.Start.length c13,.slice p15 a2.Col.length c16,.slice p18 a2.Val.length c19],.int .i64 a3,.map (some b2)] I [OwnMap (Value.int .i64) eB false b2 o0] (fun I_ v l=>∃ r b21,v=.map (some b21)∧l=[OwnMap (Value.int .i64) eB false b2 o0,OwnMap (Value.int .i64) eWide true b21 r]∧Q r):=by
 refine Fun.enter (vs:=[.int .i64 a0,.agg #[.int .i64 a1.Rows,.int .i64 a1.Cols,.slice p3 a1.Start.length c4,.slice p6 a1.Col.length c7,.slice p9 a1.Val.length c10],.agg #[.int .i64 a2.Rows,.int .i64 a2.Cols,.slice p12 a2.Start.length c13,.slice p15 a2.Col.length c16,.slice p18 a2.Val.length c19],.int .i64 a3,.map (some b2)]) func104 r ntmps104 r (.c (.c (.c (.c (.c .n))))) fun w0 M=>?_
 refine .sr (.boxA r r r fun b25=>?_)
 refine .boxA r r r fun b27=>?_
 refine .ks 1 r (.nilS [7,6,4,3,0] r r (.sr (.mkMap (Value.int .i64) eWide true r r fun b31=>?_)))
 refine .ks 1 r (.nilS [11,7,6,4,3,0] r r (.sr (.loadW ia32 sz32 r (.s (.s .z)) r r r (.ks 1 r ?_))))
 have hw58:=W_gemm_part (I:=I) R5 R8 R11 hd
 refine .call call103 r hw58 r r fun v50 I47 hl48 hv49=>?_
 obtain ⟨r46,p52,c53,p55,c56,rfl,R54,R57,hd⟩:=hv49
 replace R5:=R5.mono hl48
 replace R8:=R8.mono hl48
 replace R11:=R11.mono hl48
 replace R14:=R14.mono hl48
 replace R17:=R17.mono hl48
 replace R20:=R20.mono hl48
 refine .ks 5 r (.nilS [13,12,11,7,4,0] r r (.drop (.s (.s .z)) (.seq (.sr (.ks 1 r (.len un29 r r r r (.ks 1 r (.nilS [32,31,30,13,11,7,4,0] r r (.block ?_)))))))))
 refine .loop hd (fun (s:(List (Int×Wide))×Int) c w=>match s with | (s757,s758)=>∃ I_,IH.le I47 I_∧Ok ⟨81,[],none⟩ [(0,.int .i64 a0),(4,.map (some b2)),(7,.pointer (some ⟨b27,0,none⟩)),(11,.map (some b31)),(13,.slice p55 r46.2.length c56),(30,.slice p52 r46.1.length c53),(31,.int .i64 (r46.1.length:Int)),(32,.int .i64 s758)] c∧Sym w0 M I I_ [OwnMap (Value.int .i64) eB false b2 o0,pto b27 (.cells #[.int .i64 a2.Rows,.int .i64 a2.Cols,.slice p12 a2.Start.length c13,.slice p15 a2.Col.length c16,.slice p18 a2.Val.length c19] 32 (0,0)),OwnMap (Value.int .i64) eWide true b31 s757] w) (fun c w ho hs=>⟨I47,(.refl _),ho.sub ⟨r,r,r,r,r,r,r,r,trivial⟩,hs.pick (.c (.s (.s .z)) (.c (.s .z) (.c .z .n)))⟩) ?_
 rintro ⟨s757,s758⟩ next759 hd c w hst
 obtain ⟨I760,hl761,hok,hsym⟩:=hst
 have le762:=IH.le.trans hl48 hl761
 replace R14:=R14.mono hl761
 replace R17:=R17.mono hl761
 replace R20:=R20.mono hl761
 replace R54:=R54.mono hl761
 replace R57:=R57.mono hl761
 refine Cod.at hok hsym (.sr (.ks 1 r (.nilS [33,32,31,30,13,11,7,4,0] r r (.seq (.condP r hd (fun hb764 hd=>?_) fun hb764 hd=>?_)))))
 · refine .skipS [32,31,30,13,11,7,4,0] r r (.seq (.block (.sr (.ks 1 r ?_))))
   obtain ⟨h774,x775,hx776,hd⟩:=hd
   obtain ⟨b777,o778,cs779,e780,hC781,hr782⟩:=R54.2 _ _ hx776
   cases hr782
   refine .ixa un29 sz3 r e780 r h774 (idx_lt hx776 h774) r r (.ld1 (j:=0) ia3 hC781 r r r r r (.ks 2 r (.nilS [15,14,32,31,30,13,11,7,4,0] r r (.sr (.loadW ia32 sz32 r (.s .z) r r r (.ks 1 r ?_))))))
   have hw810:=W_gemm_part (I:=I760) R14 R17 R20 hd
   refine .call call103 r hw810 r r fun v802 I799 hl800 hv801=>?_
   obtain ⟨r798,p804,c805,p807,c808,rfl,R806,R809,hd⟩:=hv801
   have le811:=IH.le.trans le762 hl800
   have le812:=IH.le.trans hl761 hl800
   replace R14:=R14.mono hl800
   replace R17:=R17.mono hl800
   replace R20:=R20.mono hl800
   replace R54:=R54.mono hl800
   replace R57:=R57.mono hl800
   refine .ks 5 r (.nilS [17,16,14,32,31,30,13,11,7,4,0] r r (.sr (.ks 1 r (.len un29 r r r r (.ks 1 r (.nilS [45,44,43,17,14,32,31,30,13,11,7,4,0] r r (.block (.loop hd (fun (s:(List (Int×Wide))×Int) c w=>match s with | (s1009,s1010)=>∃ I_,IH.le I799 I_∧Ok ⟨81,[],none⟩ [(0,.int .i64 a0),(4,.map (some b2)),(7,.pointer (some ⟨b27,0,none⟩)),(11,.map (some b31)),(13,.slice p55 r46.2.length c56),(14,.int .i64 s758),(17,.slice p807 r798.2.length c808),(30,.slice p52 r46.1.length c53),(31,.int .i64 (r46.1.length:Int)),(32,.int .i64 s758),(43,.slice p804 r798.1.length c805),(44,.int .i64 (r798.1.length:Int)),(45,.int .i64 s1010)] c∧Sym w0 M I I_ [OwnMap (Value.int .i64) eB false b2 o0,pto b27 (.cells #[.int .i64 a2.Rows,.int .i64 a2.Cols,.slice p12 a2.Start.length c13,.slice p15 a2.Col.length c16,.slice p18 a2.Val.length c19] 32 (0,0)),OwnMap (Value.int .i64) eWide true b31 s1009] w) (fun c w ho hs=>⟨I799,(.refl _),ho.sub ⟨r,r,r,r,r,r,r,r,r,r,r,r,r,trivial⟩,hs.pick (.c .z (.c .z (.c .z .n)))⟩) ?_))))))))
   rintro ⟨s1009,s1010⟩ next1011 hd c w hst
   obtain ⟨I1012,hl1013,hok,hsym⟩:=hst
   have le1014:=IH.le.trans le811 hl1013
   have le1015:=IH.le.trans le812 hl1013
   replace R14:=R14.mono hl1013
   replace R17:=R17.mono hl1013
   replace R20:=R20.mono hl1013
   replace R54:=R54.mono hl1013
   replace R57:=R57.mono hl1013
   replace R806:=R806.mono hl1013
   replace R809:=R809.mono hl1013
   refine Cod.at hok hsym (.sr (.ks 1 r (.nilS [46,45,44,43,32,31,30,17,14,13,11,7,4,0] r r (.seq (.condP r hd (fun hb1017 hd=>?_) fun hb1017 hd=>?_)))))
   · refine .skipS [45,44,43,32,31,30,17,14,13,11,7,4,0] r r (.seq (.block (.sr (.ks 1 r ?_))))
     obtain ⟨h1027,x1028,hx1029,hd⟩:=hd
     obtain ⟨b1030,o1031,cs1032,e1033,hC1034,hr1035⟩:=R806.2 _ _ hx1029
     cases hr1035
     refine .ixa un29 sz3 r e1033 r h1027 (idx_lt hx1029 h1027) r r (.ld1 (j:=0) ia3 hC1034 r r r r r (.ks 2 r (.nilS [19,18,45,44,43,32,31,30,17,14,13,11,7,4,0] r r (.seq (.sr (.ks 2 r (.lookM (k:=x1028) (El:=eB) (ag:=false) (zv:=.bool false) (z:=false) (keyInt un3) underlying163 zeroValue4 ⟨[.bool false],r,.s⟩ .z r r hd r r fun v1046 r1043 cs1047 hd hr1044 hv1045=>?_)))))))
     cases hr1044
     cases hv1045
     refine .ks 1 r (.nilS [53,19,18,45,44,43,32,31,30,17,14,13,11,7,4,0] r r (.condP r hd (fun hb1049 hd=>?_) fun hb1049 hd=>?_))
     · exact .exitS [45,44,43,32,31,30,17,14,13,11,7,4,0] r r (.region (.ks 2 r (.nil' fun c w ho hs=>⟨(s1009,w64 (s1010+1)),hd,I1012,hl1013,ho.sub ⟨r,r,r,r,r,r,r,r,r,r,r,r,r,trivial⟩,hs.pick (.c .z (.c .z (.c .z .n)))⟩)))
     refine .skipS [19,18,45,44,43,32,31,30,17,14,13,11,7,4,0] r r (.seq (.dr [0,1,2,3,4,5,6,7,8,10,9,999] 11 (.fk 3 r ?_)))
     obtain ⟨h1074,x1075,hx1076,hd⟩:=hd
     obtain ⟨b1077,o1078,cs1079,e1080,hC1081,hr1082⟩:=R57.2 _ _ hx1076
     cases hr1082
     refine .g r r r (fun _=>.ixa un30 sz2 r e1080 r h1074 (idx_lt hx1076 h1074) r r .mk) (.g r r r (fun _=>.ld1 (j:=0) ia2 hC1081 r r r r r .mk) (.fk 2 r ?_))
     obtain ⟨h1083,x1084,hx1085,hd⟩:=hd
     obtain ⟨b1086,o1087,cs1088,e1089,hC1090,hr1091⟩:=R809.2 _ _ hx1085
     cases hr1091
     refine .g r r r (fun _=>.ixa un30 sz2 r e1089 r h1083 (idx_lt hx1085 h1083) r r .mk) (.g r r r (fun _=>.ld1 (j:=0) ia2 hC1090 r r r r r .mk) (.a (fun b=>.pointer (some ⟨b,0,none⟩)) (fun b=>pto b (.cells #[.int .i64 0,.int .u64 0] 127 (0,0))) r r r r (fun _ L hL ex=>.allocA zv127 r r fun b=>.mk (val:=fun b=>.pointer (some ⟨b,0,none⟩)) (atom:=fun b=>pto b (.cells #[.int .i64 0,.int .u64 0] 127 (0,0))) hL b) (.ww r fun ex=>?_)))
     have hw1094:=W_ring_Mul (I:=I1012) hd
     refine .callP call138 r hw1094 r r fun v1095 hv1096=>?_
     obtain ⟨r1093,rfl,hd⟩:=hv1096
     refine .so 3 r r r trivial (.b r fun b1097=>DrawD.nop (.e2 11 (.storeA sz127 r r (.s (.s (.s .z))) (.t (.t .nil)) r r (.nilS [20,19,45,44,43,32,31,30,17,14,13,11,7,4,0] r r (.seq (.sr (.ks 2 r (.lookM2 (k:=x1028) (El:=eWide) (ag:=true) (zv:=.agg #[.int .i64 0,.int .u64 0]) (z:=({ Hi:=0,Lo:=0 }:Wide)) (keyInt un3) underlying164 zv127 ⟨[.int .i64 0,.int .u64 0],r,.a⟩ (.s (.s .z)) r r hd r r fun v1101 r1098 t1103 cs1102 hd hr1099 hv1100=>?_))))))))
     cases hr1099
     cases hv1100
     refine .ks 3 r (.allocA zv127 r r fun b1104=>?_)
     refine .storeA sz127 r r .z (.t (.t .nil)) r r (.ks 1 r (.nilS [22,21,20,19,45,44,43,32,31,30,17,14,13,11,7,4,0] r r (.sr (.ks 1 r (.nilS [70,21,20,19,45,44,43,32,31,30,17,14,13,11,7,4,0] r r (.condP r hd (fun hb1106 hd=>?_) fun hb1106 hd=>?_))))))
     · refine .region (.ks 1 r (.loadW ia127 sz127 r .z r r r (.loadW ia127 sz127 r (.s (.s (.s (.s .z)))) r r r ?_)))
       have hw1108:=W_ring_Add (I:=I1012) hd
       refine .callP call147 r hw1108 r r fun v1109 hv1110=>?_
       obtain ⟨r1107,rfl,hd⟩:=hv1110
       refine .storeA sz127 r r (.s (.s (.s (.s .z)))) (.t (.t .nil)) r r (.nilS [20,19,45,44,43,32,31,30,17,14,13,11,7,4,0] r r (.drop .z (.region (.ks 2 r (.loadW ia127 sz127 r (.s (.s (.s .z))) r r r (.updM (k:=x1028) (El:=eWide) (ag:=true) (v:=r1107) (keyInt un3) underlying164 (.s (.s .z)) r r r ⟨[.int .i64 r1107.Hi,.int .u64 r1107.Lo],r,.a⟩ (.nilS [45,44,43,32,31,30,17,14,13,11,7,4,0] r r (.drop (.s (.s (.s .z))) (.region ?_)))))))))
       exact .ks 2 r (.nil' fun c w ho hs=>⟨((mput x1028 r1107 s1009),w64 (s1010+1)),hd,I1012,hl1013,ho.sub ⟨r,r,r,r,r,r,r,r,r,r,r,r,r,trivial⟩,hs.pick (.c .z (.c .z (.c .z .n)))⟩)
     refine .skipS [20,19,45,44,43,32,31,30,17,14,13,11,7,4,0] r r (.drop .z (.region (.ks 2 r (.loadW ia127 sz127 r (.s (.s (.s .z))) r r r (.updM (k:=x1028) (El:=eWide) (ag:=true) (v:=r1093) (keyInt un3) underlying164 (.s (.s .z)) r r r ⟨[.int .i64 r1093.Hi,.int .u64 r1093.Lo],r,.a⟩ (.nilS [45,44,43,32,31,30,17,14,13,11,7,4,0] r r (.drop (.s (.s (.s .z))) (.region (.ks 2 r ?_)))))))))
     exact .nil' fun c w ho hs=>⟨((mput x1028 r1093 s1009),w64 (s1010+1)),hd,I1012,hl1013,ho.sub ⟨r,r,r,r,r,r,r,r,r,r,r,r,r,trivial⟩,hs.pick (.c .z (.c .z (.c .z .n)))⟩
   exact .exitS [32,31,30,13,11,7,4,0] r r (.region (.ks 2 r (.nil' fun c w ho hs=>⟨(s1009,w64 (s758+1)),hd,I1012,le1015,ho.sub ⟨r,r,r,r,r,r,r,r,trivial⟩,hs.pick (.c .z (.c .z (.c .z .n)))⟩)))
 exact .exitS [11,4] r r (.drop (.s .z) (.sr (.ks 2 r (.nilS [10,4] r r (.ret (oret results104 (.t r .n) le762 (.c .z (.c .z .n)) ⟨s757,_,r,r,hd⟩))))))
theorem W_gemm_Cells {I:IH} {a0:Int} {a1:Rows} {a2:Rows} {a3:Rows} {p1:Option Addr} {c2:Nat} {p4:Option Addr} {c5:Nat} {p7:Option Addr} {c8:Nat} {p10:Option Addr} {c11:Nat} {p13:Option Addr} {c14:Nat} {p16:Option Addr} {c17:Nat} {p19:Option Addr} {c20:Nat} {p22:Option Addr} {c23:Nat} {p25:Option Addr} {c26:Nat} {Q:((List Cell)×Int)→Prop} (R3:RepSl eI64 I p1 c2 a1.Start) (R6:RepSl eI64 I p4 c5 a1.Col) (R9:RepSl eI64 I p7 c8 a1.Val) (R12:RepSl eI64 I p10 c11 a2.Start) (R15:RepSl eI64 I p13 c14 a2.Col) (R18:RepSl eI64 I p16 c17 a2.Val) (R21:RepSl eI64 I p19 c20 a3.Start) (R24:RepSl eI64 I p22 c23 a3.Col) (R27:RepSl eI64 I p25 c26 a3.Val) (hd:gemm_Cells a0 a1 a2 a3 Q) :
  PFun prog 52 [.int .i64 a0,.agg #[.int .i64 a1.Rows,.int .i64 a1.Cols,.slice p1 a1.Start.length c2,.slice p4 a1.Col.length c5,.slice p7 a1.Val.length c8],.agg #[.int .i64 a2.Rows,.int .i64 a2.Cols,.slice p10 a2.Start.length c11,.slice p13 a2.Col.length c14,.slice p16 a2.Val.length c17],.agg #[.int .i64 a3.Rows,.int .i64 a3.Cols,.slice p19 a3.Start.length c20,.slice p22 a3.Col.length c23,.slice p25 a3.Val.length c26]] I (fun I_ v=>∃ r p28 c29,v=.tuple #[.slice p28 r.1.length c29,.int .i64 r.2]∧RepSl eCell I_ p28 c29 r.1∧Q r):=by
 refine Fun.enter func52 r ntmps52 r (.c (.c (.c (.c .n)))) fun w0 M=>?_
 refine .sr (.boxA r r r fun b37=>?_)
 refine .boxA r r r fun b39=>?_
 refine .boxA r r r fun b41=>?_
 refine .ks 2 r (.nilS [7,6,5,0] r r (.sr (.loadW ia32 sz32 r (.s (.s .z)) r r r (.loadW ia32 sz32 r (.s .z) r r r (.loadW ia32 sz32 r .z r r r (.buildSlice 3 un106 sz32 zv32 r r (.c r r r (.c r r r (.c r r r .n))) r r fun b59=>?_))))))
 refine .pubB (El:=eRows) (ys:=([a1,a2,a3]:List Rows)) (k:=3) .z (RepCs.cons (cs:=[.int .i64 a1.Rows,.int .i64 a1.Cols,.slice p1 a1.Start.length c2,.slice p4 a1.Col.length c5,.slice p7 a1.Val.length c8]) ⟨_,_,_,_,_,_,r,R3,R6,R9⟩ (RepCs.cons (cs:=[.int .i64 a2.Rows,.int .i64 a2.Cols,.slice p10 a2.Start.length c11,.slice p13 a2.Col.length c14,.slice p16 a2.Val.length c17]) ⟨_,_,_,_,_,_,r,R12,R15,R18⟩ (RepCs.cons (cs:=[.int .i64 a3.Rows,.int .i64 a3.Cols,.slice p19 a3.Start.length c20,.slice p22 a3.Col.length c23,.slice p25 a3.Val.length c26]) ⟨_,_,_,_,_,_,r,R21,R24,R27⟩ .nil))) r fun I61 hl62 R63=>?_
 replace R3:=R3.mono hl62
 replace R6:=R6.mono hl62
 replace R9:=R9.mono hl62
 replace R12:=R12.mono hl62
 replace R15:=R15.mono hl62
 replace R18:=R18.mono hl62
 replace R21:=R21.mono hl62
 replace R24:=R24.mono hl62
 replace R27:=R27.mono hl62
 have hw73:=W_gemm_sure (I:=I61) R63 hd
 refine .call call53 r hw73 r r fun v68 I65 hl66 hv67=>?_
 obtain ⟨r64,p70,c71,rfl,R72,hd⟩:=hv67
 have le74:=IH.le.trans hl62 hl66
 replace R3:=R3.mono hl66
 replace R6:=R6.mono hl66
 replace R9:=R9.mono hl66
 replace R12:=R12.mono hl66
 replace R15:=R15.mono hl66
 replace R18:=R18.mono hl66
 replace R21:=R21.mono hl66
 replace R24:=R24.mono hl66
 replace R27:=R27.mono hl66
 replace R63:=R63.mono hl66
 refine .ks 1 r (.nilS [10,7,6,5,0] r r (.seq (.dr [0,1,2,3,4,5,6,7,8,9,10] 11 (.fk 1 r ?_))))
 obtain ⟨h129,x130,hx131,hd⟩:=hd
 obtain ⟨b132,o133,cs134,e135,hC136,hr137⟩:=R72.2 _ _ hx131
 obtain ⟨p138,c139,p141,c142,p144,c145,rfl,R140,R143,R146⟩:=hr137
 refine .g r r r (fun _=>.ixa un106 sz32 r e135 r h129 (idx_lt hx131 h129) r r .mk) (.g r r r (fun _=>.ldW ia32 sz32 hC136 r r r r .mk) (.fk 1 r ?_))
 obtain ⟨h147,x148,hx149,hd⟩:=hd
 obtain ⟨b150,o151,cs152,e153,hC154,hr155⟩:=R72.2 _ _ hx149
 obtain ⟨p156,c157,p159,c160,p162,c163,rfl,R158,R161,R164⟩:=hr155
 refine .g r r r (fun _=>.ixa un106 sz32 r e153 r h147 (idx_lt hx149 h147) r r .mk) (.g r r r (fun _=>.ldW ia32 sz32 hC154 r r r r .mk) (.fk 1 r ?_))
 obtain ⟨h165,x166,hx167,hd⟩:=hd
 obtain ⟨b168,o169,cs170,e171,hC172,hr173⟩:=R72.2 _ _ hx167
 obtain ⟨p174,c175,p177,c178,p180,c181,rfl,R176,R179,R182⟩:=hr173
 refine .g r r r (fun _=>.ixa un106 sz32 r e171 r h165 (idx_lt hx167 h165) r r .mk) (.g r r r (fun _=>.ldW ia32 sz32 hC172 r r r r .mk) (.ww r fun ex=>?_))
 refine .storeA sz32 r r (.s (.s .z)) (.t (.t (.t (.t (.t .nil))))) r r (.sn 3 r r r (.cg r r r r (fun _=>.ldW ia32 sz32 hC172 r r r r .mk) (.cg r r r r (fun _=>.ixa un106 sz32 r e171 r h165 (idx_lt hx167 h165) r r .mk) (.ck 1 r r (.cg r r r r (fun _=>.ldW ia32 sz32 hC154 r r r r .mk) (.cg r r r r (fun _=>.ixa un106 sz32 r e153 r h147 (idx_lt hx149 h147) r r .mk) (.ck 1 r r trivial)))))) (.ww r fun ex=>?_))
 refine .storeA sz32 r r (.s .z) (.t (.t (.t (.t (.t .nil))))) r r (.sn 3 r r r (.cg r r r r (fun _=>.ldW ia32 sz32 hC172 r r r r .mk) (.cg r r r r (fun _=>.ixa un106 sz32 r e171 r h165 (idx_lt hx167 h165) r r .mk) (.ck 1 r r trivial))) (.e2 11 (.storeA sz32 r r .z (.t (.t (.t (.t (.t .nil))))) r r (.nilS [7,6,5,0] r r (.seq (.block (.sr (.ks 1 r ?_))))))))
 have hw200:=W_ring_Is (I:=I65) hd
 refine .callP call102 r hw200 r r fun v201 hv202=>?_
 obtain ⟨r199,rfl,hd⟩:=hv202
 refine .ks 2 r (.nilS [37,7,6,5,0] r r (.condP r hd (fun hb203 hd=>?_) fun hb203 hd=>?_))
 · exact .sr (.ks 2 r (.nilS [9,8] r r (.drop .z (.drop .z (.drop .z (.ret (pret results52 (.t r (.t r .n)) le74 ⟨(([]:List Cell),8),_,_,r,(.nil _ _ _),hd⟩)))))))
 refine .seq (.sr (.fa un32 r sz3 r (o:=1) r r r (.load1 ia3 r (.s (.s .z)) r r r (.fa un32 r sz3 r (o:=0) r r r (.load1 ia3 r (.s .z) r r r (.ks 2 r (.nilS [41,7,6,5,0] r r (.condP r hd (fun hb204 hd=>?_) fun hb204 hd=>?_))))))))
 · exact .skipS [41,7,6,5,0] r r (.condKT r hb204 (.sr (.ks 2 r (.nilS [9,8] r r (.drop .z (.drop .z (.drop .z (.ret (pret results52 (.t r (.t r .n)) le74 ⟨(([]:List Cell),4),_,_,r,(.nil _ _ _),hd⟩)))))))))
 refine .sr (.fa un32 r sz3 r (o:=0) r r r (.load1 ia3 r .z r r r (.fa un32 r sz3 r (o:=0) r r r (.load1 ia3 r (.s (.s .z)) r r r (.ks 2 r (.nilS [41,7,6,5,0] r r (.condP r hd (fun hb205 hd=>?_) fun hb205 hd=>?_)))))))
 · exact .skipS [41,7,6,5,0] r r (.condKT r hb205 (.sr (.ks 2 r (.nilS [9,8] r r (.drop .z (.drop .z (.drop .z (.ret (pret results52 (.t r (.t r .n)) le74 ⟨(([]:List Cell),4),_,_,r,(.nil _ _ _),hd⟩)))))))))
 refine .region (.fa un32 r sz3 r (o:=1) r r r (.load1 ia3 r .z r r r (.fa un32 r sz3 r (o:=1) r r r (.load1 ia3 r (.s .z) r r r (.ks 2 r (.nilS [41,7,6,5,0] r r (.condP r hd (fun hb206 hd=>?_) fun hb206 hd=>?_)))))))
 · exact .sr (.ks 2 r (.nilS [9,8] r r (.drop .z (.drop .z (.drop .z (.ret (pret results52 (.t r (.t r .n)) le74 ⟨(([]:List Cell),4),_,_,r,(.nil _ _ _),hd⟩)))))))
 refine .skipS [7,6,5,0] r r (.sr (.ks 1 r (.nilS [11,7,6,5,0] r r (.seq (.sr (.fa un32 r sz3 r (o:=0) r r r (.load1 ia3 r .z r r r (.ks 1 r (.nilS [59,58,11,7,6,5,0] r r ?_)))))))))
 refine .block (.own0 eCell 167 (.loop hd (fun (s:(List Cell)×Int) c w=>match s with | (s834,s838)=>∃ I_ p835 c836,IH.le I65 I_∧Ok ⟨107,[],none⟩ [(0,.int .i64 a0),(5,.pointer (some ⟨b37,0,none⟩)),(6,.pointer (some ⟨b39,0,none⟩)),(7,.pointer (some ⟨b41,0,none⟩)),(11,.slice p835 s834.length c836),(58,.int .i64 x166.Rows),(59,.int .i64 s838)] c∧Sym w0 M I I_ [pto b37 (.cells #[.int .i64 x130.Rows,.int .i64 x130.Cols,.slice p138 x130.Start.length c139,.slice p141 x130.Col.length c142,.slice p144 x130.Val.length c145] 32 (0,0)),pto b39 (.cells #[.int .i64 x148.Rows,.int .i64 x148.Cols,.slice p156 x148.Start.length c157,.slice p159 x148.Col.length c160,.slice p162 x148.Val.length c163] 32 (0,0)),pto b41 (.cells #[.int .i64 x166.Rows,.int .i64 x166.Cols,.slice p174 x166.Start.length c175,.slice p177 x166.Col.length c178,.slice p180 x166.Val.length c181] 32 (0,0)),OwnSl eCell 167 p835 c836 s834] w) (fun c w ho hs=>⟨I65,_,_,(.refl _),ho.sub ⟨r,r,r,r,r,r,r,trivial⟩,hs.pick (.c (.s (.s (.s .z))) (.c (.s (.s .z)) (.c (.s .z) (.c .z .n))))⟩) ?_))
 rintro ⟨s834,s838⟩ next840 hd c w hst
 obtain ⟨I841,p835,c836,hl842,hok,hsym⟩:=hst
 have le843:=IH.le.trans le74 hl842
 replace R140:=R140.mono hl842
 replace R143:=R143.mono hl842
 replace R146:=R146.mono hl842
 replace R158:=R158.mono hl842
 replace R161:=R161.mono hl842
 replace R164:=R164.mono hl842
 replace R176:=R176.mono hl842
 replace R179:=R179.mono hl842
 replace R182:=R182.mono hl842
 refine Cod.at hok hsym (.sr (.ks 1 r (.nilS [60,59,58,11,7,6,5,0] r r (.seq (.condP r hd (fun hb845 hd=>?_) fun hb845 hd=>?_)))))
 · refine .skipS [59,58,11,7,6,5,0] r r (.seq (.block (.sr (.ks 2 r (.nilS [12,59,58,11,7,6,5,0] r r (.sr (.loadW ia32 sz32 r (.s (.s .z)) r r r (.ks 1 r ?_))))))))
   have hw873:=W_gemm_part (I:=I841) R176 R179 R182 hd
   refine .call call103 r hw873 r r fun v865 I862 hl863 hv864=>?_
   obtain ⟨r861,p867,c868,p870,c871,rfl,R869,R872,hd⟩:=hv864
   have le874:=IH.le.trans le843 hl863
   have le875:=IH.le.trans hl842 hl863
   replace R140:=R140.mono hl863
   replace R143:=R143.mono hl863
   replace R146:=R146.mono hl863
   replace R158:=R158.mono hl863
   replace R161:=R161.mono hl863
   replace R164:=R164.mono hl863
   replace R176:=R176.mono hl863
   replace R179:=R179.mono hl863
   replace R182:=R182.mono hl863
   refine .ks 5 r (.nilS [13,12,59,58,11,7,6,5,0] r r (.sr (.mkMap (Value.int .i64) eB false r r fun b878=>?_)))
   refine .ks 1 r (.nilS [15,13,12,59,58,11,7,6,5,0] r r (.seq (.sr (.ks 1 r (.len un29 r r r r (.ks 1 r (.nilS [71,70,69,15,13,12,59,58,11,7,6,5,0] r r (.block (.loop hd (fun (s:(List (Int×Bool))×Int) c w=>match s with | (s954,s955)=>∃ I_,IH.le I862 I_∧Ok ⟨107,[],none⟩ [(0,.int .i64 a0),(5,.pointer (some ⟨b37,0,none⟩)),(6,.pointer (some ⟨b39,0,none⟩)),(7,.pointer (some ⟨b41,0,none⟩)),(11,.slice p835 s834.length c836),(12,.int .i64 s838),(13,.slice p867 r861.1.length c868),(15,.map (some b878)),(58,.int .i64 x166.Rows),(59,.int .i64 s838),(69,.slice p867 r861.1.length c868),(70,.int .i64 (r861.1.length:Int)),(71,.int .i64 s955)] c∧Sym w0 M I I_ [pto b37 (.cells #[.int .i64 x130.Rows,.int .i64 x130.Cols,.slice p138 x130.Start.length c139,.slice p141 x130.Col.length c142,.slice p144 x130.Val.length c145] 32 (0,0)),pto b39 (.cells #[.int .i64 x148.Rows,.int .i64 x148.Cols,.slice p156 x148.Start.length c157,.slice p159 x148.Col.length c160,.slice p162 x148.Val.length c163] 32 (0,0)),pto b41 (.cells #[.int .i64 x166.Rows,.int .i64 x166.Cols,.slice p174 x166.Start.length c175,.slice p177 x166.Col.length c178,.slice p180 x166.Val.length c181] 32 (0,0)),OwnSl eCell 167 p835 c836 s834,OwnMap (Value.int .i64) eB false b878 s954] w) (fun c w ho hs=>⟨I862,(.refl _),ho.sub ⟨r,r,r,r,r,r,r,r,r,r,r,r,r,trivial⟩,hs.pick (.c (.s .z) (.c (.s .z) (.c (.s .z) (.c (.s .z) (.c .z .n)))))⟩) ?_)))))))))
   rintro ⟨s954,s955⟩ next956 hd c w hst
   obtain ⟨I957,hl958,hok,hsym⟩:=hst
   have le959:=IH.le.trans le874 hl958
   have le960:=IH.le.trans le875 hl958
   replace R140:=R140.mono hl958
   replace R143:=R143.mono hl958
   replace R146:=R146.mono hl958
   replace R158:=R158.mono hl958
   replace R161:=R161.mono hl958
   replace R164:=R164.mono hl958
   replace R176:=R176.mono hl958
   replace R179:=R179.mono hl958
   replace R182:=R182.mono hl958
   replace R869:=R869.mono hl958
   refine Cod.at hok hsym (.sr (.ks 1 r (.nilS [72,71,70,69,59,58,15,13,12,11,7,6,5,0] r r (.seq (.condP r hd (fun hb962 hd=>?_) fun hb962 hd=>?_)))))
   · refine .skipS [71,70,69,59,58,15,13,12,11,7,6,5,0] r r (.seq (.block (.sr ?_)))
     obtain ⟨h963,x964,hx965,hd⟩:=hd
     obtain ⟨b966,o967,cs968,e969,hC970,hr971⟩:=R869.2 _ _ hx965
     cases hr971
     refine .ixa un29 sz3 r e969 r h963 (idx_lt hx965 h963) r r (.ld1 (j:=0) ia3 hC970 r r r r r (.ks 1 r (.nilS [17,71,70,69,59,58,15,13,12,11,7,6,5,0] r r (.region (.ks 2 r (.updM (k:=x964) (El:=eB) (ag:=false) (v:=true) (keyInt un3) underlying163 (.s (.s (.s (.s .z)))) r r r ⟨[.bool true],r,.s⟩ (.nilS [71,70,69,59,58,15,13,12,11,7,6,5,0] r r (.region (.ks 2 r ?_)))))))))
     exact .nil' fun c w ho hs=>⟨((mput x964 true s954),w64 (s955+1)),hd,I957,hl958,ho.sub ⟨r,r,r,r,r,r,r,r,r,r,r,r,r,trivial⟩,hs.pick (.c .z (.c .z (.c .z (.c .z (.c .z .n)))))⟩
   refine .exitS [59,58,15,13,12,11,7,6,5,0] r r (.sr (.ks 1 r (.loadW ia32 sz32 r .z r r r (.loadW ia32 sz32 r (.s .z) r r r (.ks 2 r ?_)))))
   have hw984:=W_gemm_row_3a1 (I:=I957) (o0:=s954) (a0:=a0) (a1:=x130) (a2:=x148) (a3:=s838) (b2:=b878) R140 R143 R146 R158 R161 R164 hd
   refine .callS (.f call104 r) (.c (.s (.s (.s (.s .z)))) .n) hw984 r r fun v988 I985 l989 hl986 hv987=>?_
   obtain ⟨r990,b992,rfl,rfl,hd⟩:=hv987
   have le993:=IH.le.trans le959 hl986
   have le994:=IH.le.trans le960 hl986
   have le995:=IH.le.trans hl958 hl986
   replace R140:=R140.mono hl986
   replace R143:=R143.mono hl986
   replace R146:=R146.mono hl986
   replace R158:=R158.mono hl986
   replace R161:=R161.mono hl986
   replace R164:=R164.mono hl986
   replace R176:=R176.mono hl986
   replace R179:=R179.mono hl986
   replace R182:=R182.mono hl986
   replace R869:=R869.mono hl986
   refine .re (m':=[OwnMap (Value.int .i64) eB false b878 s954,OwnMap (Value.int .i64) eWide true b992 r990,pto b37 (.cells #[.int .i64 x130.Rows,.int .i64 x130.Cols,.slice p138 x130.Start.length c139,.slice p141 x130.Col.length c142,.slice p144 x130.Val.length c145] 32 (0,0)),pto b39 (.cells #[.int .i64 x148.Rows,.int .i64 x148.Cols,.slice p156 x148.Start.length c157,.slice p159 x148.Col.length c160,.slice p162 x148.Val.length c163] 32 (0,0)),pto b41 (.cells #[.int .i64 x166.Rows,.int .i64 x166.Cols,.slice p174 x166.Start.length c175,.slice p177 x166.Col.length c178,.slice p180 x166.Val.length c181] 32 (0,0)),OwnSl eCell 167 p835 c836 s834]) r (.ks 1 r (.nilS [18,59,58,13,12,11,7,6,5,0] r r (.drop .z (.sr (.ks 1 r (.len un29 r r r r (.ks 1 r (.nilS [86,85,84,18,59,58,12,11,7,6,5,0] r r (.block ?_)))))))))
   refine .loop hd (fun (s:(List Cell)×Int) c w=>match s with | (s1097,s1101)=>∃ I_ p1098 c1099,IH.le I985 I_∧Ok ⟨107,[],none⟩ [(0,.int .i64 a0),(5,.pointer (some ⟨b37,0,none⟩)),(6,.pointer (some ⟨b39,0,none⟩)),(7,.pointer (some ⟨b41,0,none⟩)),(11,.slice p1098 s1097.length c1099),(12,.int .i64 s838),(18,.map (some b992)),(58,.int .i64 x166.Rows),(59,.int .i64 s838),(84,.slice p867 r861.1.length c868),(85,.int .i64 (r861.1.length:Int)),(86,.int .i64 s1101)] c∧Sym w0 M I I_ [pto b37 (.cells #[.int .i64 x130.Rows,.int .i64 x130.Cols,.slice p138 x130.Start.length c139,.slice p141 x130.Col.length c142,.slice p144 x130.Val.length c145] 32 (0,0)),pto b39 (.cells #[.int .i64 x148.Rows,.int .i64 x148.Cols,.slice p156 x148.Start.length c157,.slice p159 x148.Col.length c160,.slice p162 x148.Val.length c163] 32 (0,0)),pto b41 (.cells #[.int .i64 x166.Rows,.int .i64 x166.Cols,.slice p174 x166.Start.length c175,.slice p177 x166.Col.length c178,.slice p180 x166.Val.length c181] 32 (0,0)),OwnSl eCell 167 p1098 c1099 s1097,OwnMap (Value.int .i64) eWide true b992 r990] w) (fun c w ho hs=>⟨I985,_,_,(.refl _),ho.sub ⟨r,r,r,r,r,r,r,r,r,r,r,r,trivial⟩,hs.pick (.c (.s .z) (.c (.s .z) (.c (.s .z) (.c (.s .z) (.c .z .n)))))⟩) ?_
   rintro ⟨s1097,s1101⟩ next1102 hd c w hst
   obtain ⟨I1103,p1098,c1099,hl1104,hok,hsym⟩:=hst
   have le1105:=IH.le.trans le993 hl1104
   have le1106:=IH.le.trans le994 hl1104
   have le1107:=IH.le.trans le995 hl1104
   replace R140:=R140.mono hl1104
   replace R143:=R143.mono hl1104
   replace R146:=R146.mono hl1104
   replace R158:=R158.mono hl1104
   replace R161:=R161.mono hl1104
   replace R164:=R164.mono hl1104
   replace R176:=R176.mono hl1104
   replace R179:=R179.mono hl1104
   replace R182:=R182.mono hl1104
   replace R869:=R869.mono hl1104
   refine Cod.at hok hsym (.sr (.ks 1 r (.nilS [87,86,85,84,59,58,18,12,11,7,6,5,0] r r (.seq (.condP r hd (fun hb1109 hd=>?_) fun hb1109 hd=>?_)))))
   · refine .skipS [86,85,84,59,58,18,12,11,7,6,5,0] r r (.seq (.block (.sr ?_)))
     obtain ⟨h1119,x1120,hx1121,hd⟩:=hd
     obtain ⟨b1122,o1123,cs1124,e1125,hC1126,hr1127⟩:=R869.2 _ _ hx1121
     cases hr1127
     refine .ixa un29 sz3 r e1125 r h1119 (idx_lt hx1121 h1119) r r (.ld1 (j:=0) ia3 hC1126 r r r r r (.ks 1 r (.nilS [20,86,85,84,59,58,18,12,11,7,6,5,0] r r (.sr (.ks 2 r (.lookM2 (k:=x1120) (El:=eWide) (ag:=true) (zv:=.agg #[.int .i64 0,.int .u64 0]) (z:=({ Hi:=0,Lo:=0 }:Wide)) (keyInt un3) underlying164 zv127 ⟨[.int .i64 0,.int .u64 0],r,.a⟩ (.s (.s (.s (.s .z)))) r r hd r r fun v1139 r1136 t1141 cs1140 hd hr1137 hv1138=>?_))))))
     cases hr1137
     cases hv1138
     refine .ks 3 r (.allocA zv127 r r fun b1142=>?_)
     refine .storeA sz127 r r .z (.t (.t .nil)) r r (.ks 1 r (.nilS [22,21,20,86,85,84,59,58,18,12,11,7,6,5,0] r r (.sr (.ks 1 r (.nilS [96,21,20,86,85,84,59,58,18,12,11,7,6,5,0] r r (.condP r hd (fun hb1144 hd=>?_) fun hb1144 hd=>?_))))))
     · refine .region (.ks 3 r (.loadW ia127 sz127 r .z r r r (.build zeroValue167 un167 BI167 (.c r r r (.t .nil) (.c r r r (.s (.t .nil)) (.c r r r (.s (.s (.t (.t .nil)))) .n))) (by exact ⟨⟨_,_,r,r,r⟩,⟨⟨_,_,r,r,r⟩,⟨⟨_,_,r,r,r⟩,trivial⟩⟩⟩) r r (.buildSlice 1 un103 sizeOf167 zeroValue167 r r (.c r r r .n) r r fun b1145=>?_))))
       obtain ⟨hl1147,hd⟩:=hd
       refine .append (ys:=[({ Row:=s838,Col:=x1120,Val:=r1136 }:Cell)]) 32 (.s (.s (.s (.s (.s .z))))) un103 un103 IN167 r r r r r r r r r (.box .z (.one r) r) hl1147 r r fun p1148 c1149=>?_
       exact .ks 1 r (.nilS [11,86,85,84,59,58,18,12,7,6,5,0] r r (.drop (.s .z) (.drop (.s .z) (.region (.ks 2 r (.nil' fun c w ho hs=>⟨((s1097++([({ Row:=s838,Col:=x1120,Val:=r1136 }:Cell)])),w64 (s1101+1)),hd,I1103,_,_,hl1104,ho.sub ⟨r,r,r,r,r,r,r,r,r,r,r,r,trivial⟩,hs.pick (.c (.s .z) (.c (.s .z) (.c (.s .z) (.c .z (.c .z .n)))))⟩))))))
     exact .skipS [86,85,84,59,58,18,12,11,7,6,5,0] r r (.drop .z (.region (.ks 2 r (.nil' fun c w ho hs=>⟨(s1097,w64 (s1101+1)),hd,I1103,_,_,hl1104,ho.sub ⟨r,r,r,r,r,r,r,r,r,r,r,r,trivial⟩,hs.pick (.c .z (.c .z (.c .z (.c .z (.c .z .n)))))⟩))))
   exact .exitS [59,58,11,7,6,5,0] r r (.drop (.s (.s (.s (.s .z)))) (.region (.ks 2 r (.nil' fun c w ho hs=>⟨(s1097,w64 (s838+1)),hd,I1103,_,_,le1106,ho.sub ⟨r,r,r,r,r,r,r,trivial⟩,hs.pick (.c .z (.c .z (.c .z (.c .z .n))))⟩))))
 refine .exitS [11] r r (.drop .z (.drop .z (.drop .z (.sr (.ks 3 r (.nilS [9,8] r r (.pub .z fun I1151 hl1152 R1153=>?_)))))))
 have le1154:=IH.le.trans le843 hl1152
 have le1155:=IH.le.trans hl842 hl1152
 exact .ret (pret results52 (.t r (.t r .n)) le1154 ⟨(s834,0),_,_,r,R1153,hd⟩)
theorem W_gemm_within {I:IH} {a0:Int} {a1:Int} {Q:Bool→Prop}  (hd:gemm_within a0 a1 Q) :
  PFun prog 106 [.int .i64 a0,.int .i64 a1] I (fun _=>o4_ Q):=by
 refine Fun.enter func106 r ntmps106 r (.c (.c .n)) fun w0 M=>?_
 refine .sr (.ks 1 r (.nilS [1,0] r r (.sr (.ks 3 r ?_))))
 refine splitP hd (fun hb1 hd=>?_) fun hb1 hd=>?_
 · rw [hb1]
   exact .ks 5 r (.nilS [4] r r (.ret (pret results106 (.t r .n) (.refl _) ⟨(decide (a0≤a1)),r,hd⟩)))
 rw [hb1]
 exact .ks 5 r (.nilS [4] r r (.ret (pret results106 (.t r .n) (.refl _) ⟨false,r,hd⟩)))
theorem W_gemm_order {I:IH} {a0:Cell} {a1:Cell} {Q:Int→Prop}  (hd:gemm_order a0 a1 Q) :
  PFun prog 178 [.agg (encCell a0).toArray,.agg (encCell a1).toArray] I (fun _=>o0_ Q):=by
 refine Fun.enter func178 r ntmps178 r (.c (.c .n)) fun w0 M=>?_
 refine .sr (.boxA r r r fun b5=>?_)
 refine .boxA r r r fun b7=>?_
 refine .ks 1 r (.nilS [3,2] r r (.seq (.dr [0,1,2,3,5,6,7,8,4,9,10,11] 12 (.g r r r (fun _=>.fa un167 r sz3 r (o:=0) r r r .mk) (.g r r r (fun _=>.load1 ia3 r (.s .z) r r r .mk) (.g r r r (fun _=>.fa un167 r sz3 r (o:=0) r r r .mk) (.g r r r (fun _=>.load1 ia3 r .z r r r .mk) (.g r r r (fun _=>.fa un167 r sz3 r (o:=1) r r r .mk) (.g r r r (fun _=>.load1 ia3 r (.s .z) r r r .mk) ?_)))))))))
 refine .g r r r (fun _=>.fa un167 r sz3 r (o:=1) r r r .mk) (.g r r r (fun _=>.load1 ia3 r .z r r r .mk) (.ww r fun ex=>?_))
 have hw10:=W_cmp_Compare_int (I:=I) hd
 refine .callP call232 r hw10 r r fun v11 hv12=>?_
 obtain ⟨r9,rfl,hd⟩:=hv12
 refine .so 2 r r r (.cg r r r r (fun _=>.load1 ia3 r .z r r r .mk) (.cg r r r r (fun _=>.fa un167 r sz3 r (o:=1) r r r .mk) (.cg r r r r (fun _=>.load1 ia3 r (.s .z) r r r .mk) (.cg r r r r (fun _=>.fa un167 r sz3 r (o:=1) r r r .mk) trivial)))) (.ww r fun ex=>?_)
 have hw14:=W_cmp_Compare_int (I:=I) hd
 refine .callP call232 r hw14 r r fun v15 hv16=>?_
 obtain ⟨r13,rfl,hd⟩:=hv16
 refine .so 2 r r r trivial (.ww r fun ex=>?_)
 refine .buildSlice 2 un29 sz3 zv3 r r (.c r r r (.c r r r .n)) r r fun b17=>?_
 refine .so 3 r r r trivial (.ww r fun ex=>?_)
 refine .pubB (El:=eI64) (ys:=([r9,r13]:List Int)) (k:=2) .z (RepCs.cons (cs:=[.int .i64 r9]) r (RepCs.cons (cs:=[.int .i64 r13]) r .nil)) r fun I19 hl20 R21=>?_
 have hw23:=W_cmp_Or_int (I:=I19) R21 hd
 refine .callP call231 r hw23 r r fun v24 hv25=>?_
 obtain ⟨r22,rfl,hd⟩:=hv25
 exact .so 2 r r r trivial (.e2 12 (.ks 1 r (.nilS [4] r r (.drop .z (.drop .z (.ret (pret results178 (.t r .n) hl20 ⟨r22,r,hd⟩)))))))
theorem W_gemm_rises {I:IH} {a0:List Cell} {p1:Option Addr} {c2:Nat} {Q:Bool→Prop} (R3:RepSl eCell I p1 c2 a0) (hd:gemm_rises a0 Q) :
  PFun prog 109 [.slice p1 a0.length c2] I (fun _=>o4_ Q):=by
 refine Fun.enter func109 r ntmps109 r (.c .n) fun w0 M=>?_
 refine .sr (.ks 1 r (.nilS [0] r r (.seq (.sr (.ks 1 r (.len un103 r r r r (.ks 1 r (.nilS [6,5,0] r r (.block ?_)))))))))
 refine .loop hd (fun (s35:Int) c w=>∃ I_,IH.le I I_∧Ok ⟨25,[],none⟩ [(0,.slice p1 a0.length c2),(5,.int .i64 (a0.length:Int)),(6,.int .i64 s35)] c∧Sym w0 M I I_ [] w) (fun c w ho hs=>⟨I,(.refl _),ho.sub ⟨r,r,r,trivial⟩,hs.pick .n⟩) ?_
 rintro s35 next36 hd c w hst
 obtain ⟨I37,hl38,hok,hsym⟩:=hst
 replace R3:=R3.mono hl38
 refine Cod.at hok hsym (.sr (.ks 1 r (.nilS [7,6,5,0] r r (.seq (.condP r hd (fun hb40 hd=>?_) fun hb40 hd=>?_)))))
 · refine .skipS [6,5,0] r r (.seq (.block (.sr (.ks 2 r (.nilS [3,6,5,0] r r (.seq (.dr [0,1,2,3,4,5,6,7,8,9,10,11,12,13,14] 15 (.fk 3 r ?_))))))))
   refine splitP hd (fun hb41 hd=>?_) fun hb41 hd=>?_
   · refine .g r r r (fun _=>.gyes r r hb41 (.move r r r .mk)) (.g r r r (fun _=>.gyes r r hb41 (.move r r r .mk)) (.g r r r (fun _=>.gyes r r hb41 (.sub' r r r r .mk)) ?_))
     obtain ⟨h42,x43,hx44,hd⟩:=hd
     obtain ⟨b45,o46,cs47,e48,hC49,hr50⟩:=R3.2 _ _ hx44
     cases hr50
     refine .g r r r (fun _=>.gyes r r hb41 (.ixa un103 sizeOf167 r e48 r h42 (idx_lt hx44 h42) r r .mk)) (.g r r r (fun _=>.gyes r r hb41 (.ldW isAgg167 sizeOf167 hC49 r r r r .mk)) (.g r r r (fun _=>.gyes r r hb41 (.move r r r .mk)) (.g r r r (fun _=>.gyes r r hb41 (.move r r r .mk)) ?_)))
     obtain ⟨h51,x52,hx53,hd⟩:=hd
     obtain ⟨b54,o55,cs56,e57,hC58,hr59⟩:=R3.2 _ _ hx53
     cases hr59
     refine .g r r r (fun _=>.gyes r r hb41 (.ixa un103 sizeOf167 r e57 r h51 (idx_lt hx53 h51) r r .mk)) (.g r r r (fun _=>.gyes r r hb41 (.ldW isAgg167 sizeOf167 hC58 r r r r .mk)) (.ww r fun ex=>?_))
     have hw61:=W_gemm_order (I:=I37) hd
     refine .gyes r r hb41 (.callP call178 r hw61 r r fun v62 hv63=>?_)
     obtain ⟨r60,rfl,hd⟩:=hv63
     refine .so 0 r r r trivial (.g r r r (fun _=>.gyes r r hb41 (.ge r r r r .mk)) (.g r r r (fun _=>.pickT r hb41 r r r .mk) (.e2 15 (.nilS [23,6,5,0] r r (.condP r hd (fun hb64 hd=>?_) fun hb64 hd=>?_)))))
     · exact .sr (.ks 1 r (.nilS [2] r r (.ret (pret results109 (.t r .n) hl38 ⟨false,r,hd⟩))))
     exact .skipS [6,5,0] r r (.region (.ks 2 r (.nil' fun c w ho hs=>⟨(w64 (s35+1)),hd,I37,hl38,ho.sub ⟨r,r,r,trivial⟩,hs.pick .n⟩)))
   refine .g r r r (fun _=>.gno r r hb41 r r .mk) (.g r r r (fun _=>.gno r r hb41 r r .mk) (.g r r r (fun _=>.gno r r hb41 r r .mk) (.g r r r (fun _=>.gno r r hb41 r r .mk) (.g r r r (fun _=>.gno r r hb41 r r .mk) (.g r r r (fun _=>.gno r r hb41 r r .mk) (.g r r r (fun _=>.gno r r hb41 r r .mk) (.g r r r (fun _=>.gno r r hb41 r r .mk) (.g r r r (fun _=>.gno r r hb41 r r .mk) (.g r r r (fun _=>.gno r r hb41 r r .mk) ?_)))))))))
   exact .g r r r (fun _=>.gno r r hb41 r r .mk) (.g r r r (fun _=>.pickF r hb41 r r r .mk) (.e2 15 (.nilS [23,6,5,0] r r (.condKF r r (.skipS [6,5,0] r r (.region (.ks 2 r (.nil' fun c w ho hs=>⟨(w64 (s35+1)),hd,I37,hl38,ho.sub ⟨r,r,r,trivial⟩,hs.pick .n⟩))))))))
 exact .exitS [] r r (.sr (.ks 1 r (.nilS [2] r r (.ret (pret results109 (.t r .n) hl38 ⟨true,r,hd⟩)))))
theorem W_csr_order {I:IH} {a0:Triple} {a1:Triple} {Q:Int→Prop}  (hd:csr_order a0 a1 Q) :
  PFun prog 235 [.agg (encTriple a0).toArray,.agg (encTriple a1).toArray] I (fun _=>o0_ Q):=by
 refine Fun.enter func235 r ntmps235 r (.c (.c .n)) fun w0 M=>?_
 refine .sr (.boxA r r r fun b5=>?_)
 refine .boxA r r r fun b7=>?_
 refine .ks 1 r (.nilS [3,2] r r (.seq (.dr [0,1,2,3,5,6,7,8,4,9,10,11] 12 (.g r r r (fun _=>.fa un101 r sz3 r (o:=0) r r r .mk) (.g r r r (fun _=>.load1 ia3 r (.s .z) r r r .mk) (.g r r r (fun _=>.fa un101 r sz3 r (o:=0) r r r .mk) (.g r r r (fun _=>.load1 ia3 r .z r r r .mk) (.g r r r (fun _=>.fa un101 r sz3 r (o:=1) r r r .mk) (.g r r r (fun _=>.load1 ia3 r (.s .z) r r r .mk) ?_)))))))))
 refine .g r r r (fun _=>.fa un101 r sz3 r (o:=1) r r r .mk) (.g r r r (fun _=>.load1 ia3 r .z r r r .mk) (.ww r fun ex=>?_))
 have hw10:=W_cmp_Compare_int (I:=I) hd
 refine .callP call232 r hw10 r r fun v11 hv12=>?_
 obtain ⟨r9,rfl,hd⟩:=hv12
 refine .so 2 r r r (.cg r r r r (fun _=>.load1 ia3 r .z r r r .mk) (.cg r r r r (fun _=>.fa un101 r sz3 r (o:=1) r r r .mk) (.cg r r r r (fun _=>.load1 ia3 r (.s .z) r r r .mk) (.cg r r r r (fun _=>.fa un101 r sz3 r (o:=1) r r r .mk) trivial)))) (.ww r fun ex=>?_)
 have hw14:=W_cmp_Compare_int (I:=I) hd
 refine .callP call232 r hw14 r r fun v15 hv16=>?_
 obtain ⟨r13,rfl,hd⟩:=hv16
 refine .so 2 r r r trivial (.ww r fun ex=>?_)
 refine .buildSlice 2 un29 sz3 zv3 r r (.c r r r (.c r r r .n)) r r fun b17=>?_
 refine .so 3 r r r trivial (.ww r fun ex=>?_)
 refine .pubB (El:=eI64) (ys:=([r9,r13]:List Int)) (k:=2) .z (RepCs.cons (cs:=[.int .i64 r9]) r (RepCs.cons (cs:=[.int .i64 r13]) r .nil)) r fun I19 hl20 R21=>?_
 have hw23:=W_cmp_Or_int (I:=I19) R21 hd
 refine .callP call231 r hw23 r r fun v24 hv25=>?_
 obtain ⟨r22,rfl,hd⟩:=hv25
 exact .so 2 r r r trivial (.e2 12 (.ks 1 r (.nilS [4] r r (.drop .z (.drop .z (.ret (pret results235 (.t r .n) hl20 ⟨r22,r,hd⟩)))))))
theorem W_csr_summed {I:IH} {a0:Int} {a1:List Triple} {p1:Option Addr} {c2:Nat} {Q:((List Triple)×Int)→Prop} (R3:RepSl eTriple I p1 c2 a1) (hd:csr_summed a0 a1 Q) :
  PFun prog 181 [.int .i64 a0,.slice p1 a1.length c2] I (fun I_ v=>∃ r p4 c5,v=.tuple #[.slice p4 r.1.length c5,.int .i64 r.2]∧RepSl eTriple I_ p4 c5 r.1∧Q r):=by
 refine Fun.enter func181 r ntmps181 r (.c (.c .n)) fun w0 M=>?_
 refine .sr (.ks 2 r (.nilS [1,0] r r (.sr (.mkMap kArr2 eWide true r r fun b9=>?_))))
 refine .ks 1 r (.nilS [6,1,0] r r (.seq (.sr (.ks 1 r (.len un99 r r r r (.ks 1 r (.nilS [21,20,19,6,0] r r (.block (.loop hd (fun (s:(List ((Int×Int)×Wide))×Int) c w=>match s with | (s293,s294)=>∃ I_,IH.le I I_∧Ok ⟨75,[],none⟩ [(0,.int .i64 a0),(6,.map (some b9)),(19,.slice p1 a1.length c2),(20,.int .i64 (a1.length:Int)),(21,.int .i64 s294)] c∧Sym w0 M I I_ [OwnMap kArr2 eWide true b9 s293] w) (fun c w ho hs=>⟨I,(.refl _),ho.sub ⟨r,r,r,r,r,trivial⟩,hs.pick (.c .z .n)⟩) ?_)))))))))
 rintro ⟨s293,s294⟩ next295 hd c w hst
 obtain ⟨I296,hl297,hok,hsym⟩:=hst
 replace R3:=R3.mono hl297
 refine Cod.at hok hsym (.sr (.ks 1 r (.nilS [22,21,20,19,6,0] r r (.seq (.condP r hd (fun hb299 hd=>?_) fun hb299 hd=>?_)))))
 · refine .skipS [21,20,19,6,0] r r (.seq (.block (.sr ?_)))
   obtain ⟨h311,x312,hx313,hd⟩:=hd
   obtain ⟨b314,o315,cs316,e317,hC318,hr319⟩:=R3.2 _ _ hx313
   cases hr319
   refine .ixa un99 sz101 r e317 r h311 (idx_lt hx313 h311) r r (.ldW isAgg101 sz101 hC318 r r r r (.allocA zv101 r r fun b320=>?_))
   refine .storeA sz101 r r .z (.t (.t (.t .nil))) r r (.nilS [8,21,20,19,6,0] r r (.sr (.fa un101 r sz3 r (o:=0) r r r (.load1 ia3 r .z r r r (.fa un101 r sz3 r (o:=1) r r r (.load1 ia3 r .z r r r (.buildArr zv169 un169 sz3 (.c r r r (.t .nil) (.c r r r (.s (.t .nil)) .n)) r r (.allocA zv169 r r fun b324=>?_))))))))
   refine .storeA sz169 r r .z (.t (.t .nil)) r r (.nilS [9,8,21,20,19,6,0] r r (.sr (.fa un101 r sz2 r (o:=2) r r r (.load1 ia2 r (.s .z) r r r ?_))))
   have hw333:=W_wide_Of (I:=I296) hd
   refine .callP call149 r hw333 r r fun v334 hv335=>?_
   obtain ⟨r332,rfl,hd⟩:=hv335
   refine .allocA zv127 r r fun b336=>?_
   refine .storeA sz127 r r .z (.t (.t .nil)) r r (.nilS [10,9,21,20,19,6,0] r r (.drop (.s (.s .z)) (.seq (.sr (.ks 1 r (.loadW isAgg169 sz169 r (.s .z) r r r (.lookM2 (k:=(x312.Row,x312.Col)) (El:=eWide) (ag:=true) (zv:=.agg #[.int .i64 0,.int .u64 0]) (z:=({ Hi:=0,Lo:=0 }:Wide)) KA169 un247 zv127 ⟨[.int .i64 0,.int .u64 0],r,.a⟩ (.s (.s .z)) r r hd r r fun v341 r338 t343 cs342 hd hr339 hv340=>?_)))))))
   cases hr339
   cases hv340
   refine .ks 3 r (.allocA zv127 r r fun b344=>?_)
   refine .storeA sz127 r r .z (.t (.t .nil)) r r (.ks 1 r (.nilS [12,11,10,9,21,20,19,6,0] r r (.sr (.ks 1 r (.nilS [39,11,10,9,21,20,19,6,0] r r (.condP r hd (fun hb346 hd=>?_) fun hb346 hd=>?_))))))
   · refine .region (.ks 1 r (.loadW ia127 sz127 r .z r r r (.loadW ia127 sz127 r (.s .z) r r r ?_)))
     have hw348:=W_ring_Add (I:=I296) hd
     refine .callP call147 r hw348 r r fun v349 hv350=>?_
     obtain ⟨r347,rfl,hd⟩:=hv350
     refine .storeA sz127 r r (.s .z) (.t (.t .nil)) r r (.nilS [10,9,21,20,19,6,0] r r (.drop .z (.region (.ks 1 r (.loadW isAgg169 sz169 r (.s .z) r r r (.loadW ia127 sz127 r .z r r r (.updM (k:=(x312.Row,x312.Col)) (El:=eWide) (ag:=true) (v:=r347) KA169 un247 (.s (.s .z)) r r r ⟨[.int .i64 r347.Hi,.int .u64 r347.Lo],r,.a⟩ (.nilS [21,20,19,6,0] r r (.drop .z ?_)))))))))
     exact .drop .z (.region (.ks 2 r (.nil' fun c w ho hs=>⟨((mput (x312.Row,x312.Col) r347 s293),w64 (s294+1)),hd,I296,hl297,ho.sub ⟨r,r,r,r,r,trivial⟩,hs.pick (.c .z .n)⟩)))
   refine .skipS [10,9,21,20,19,6,0] r r (.drop .z (.region (.ks 1 r (.loadW isAgg169 sz169 r (.s .z) r r r (.loadW ia127 sz127 r .z r r r (.updM (k:=(x312.Row,x312.Col)) (El:=eWide) (ag:=true) (v:=r332) KA169 un247 (.s (.s .z)) r r r ⟨[.int .i64 r332.Hi,.int .u64 r332.Lo],r,.a⟩ (.nilS [21,20,19,6,0] r r (.drop .z (.drop .z ?_)))))))))
   exact .region (.ks 2 r (.nil' fun c w ho hs=>⟨((mput (x312.Row,x312.Col) r332 s293),w64 (s294+1)),hd,I296,hl297,ho.sub ⟨r,r,r,r,r,trivial⟩,hs.pick (.c .z .n)⟩))
 refine .exitS [6,0] r r (.sr (.ks 1 r (.nilS [13,6,0] r r (.seq (.sr (.ks 1 r (.rangeM un247 .z r r r fun b352=>?_)))))))
 refine .nilS [49,13,0] r r (.block (.own0 eTriple 101 (.loop hd (fun (s:(List Triple)×(List ((Int×Int)×Wide))) c w=>match s with | (s457,s461)=>∃ I_ p458 c459,IH.le I296 I_∧Ok ⟨75,[],none⟩ [(0,.int .i64 a0),(13,.slice p458 s457.length c459),(49,.pointer (some ⟨b352,0,none⟩))] c∧Sym w0 M I I_ [OwnSl eTriple 101 p458 c459 s457,OwnIt kArr2 eWide true b9 b352 s293 s461 none] w) (fun c w ho hs=>⟨I296,_,_,(.refl _),ho.sub ⟨r,r,r,trivial⟩,hs.pick (.c .z (.c .z .n))⟩) ?_)))
 rintro ⟨s457,s461⟩ next463 hd c w hst
 obtain ⟨I464,p458,c459,hl465,hok,hsym⟩:=hst
 have le466:=IH.le.trans hl297 hl465
 refine Cod.at hok hsym (.sr (.nextM (.s .z) r hd r r (fun hd hn487=>?_) (fun p481 l482 v483 cs484 hd hr485 hv486 hn487=>?_)))
 · skip
   refine .ks 1 r (.nilS [51,49,13,0] r r (.seq (.condKF r r (.exitS [13] r r (.drop (.s .z) (.sr (.ks 1 r ?_)))))))
   have hw488:=Fun.sort (hk:=fun _=>⟨r,r⟩) SL234 isAgg101 sz101 (fun x y J Q hq=>W_csr_order (I:=J) (a0:=x) (a1:=y) (Q:=Q) hq) call235 (I:=I464) (T:=101) (a:=p458) (cap:=c459) hd
   refine .callS (.f call234 r) (.c .z .n) hw488 r r fun v489 I490 l491 hl492 hv493=>?_
   obtain ⟨y494,rfl,hlen495,rfl,hd⟩:=hv493
   have le496:=IH.le.trans le466 hl492
   have le497:=IH.le.trans hl465 hl492
   refine .sub (E':=[(13,.slice p458 y494.length c459),(72,.slice p458 y494.length c459),(73,_)]) ⟨(by rw [hlen495]; rfl),(by rw [hlen495]; rfl),r,trivial⟩ (.nilS [13] r r (.sr (.ks 3 r (.nilS [5,4] r r (.pub .z fun I498 hl499 R500=>?_)))))
   have le501:=IH.le.trans le496 hl499
   have le502:=IH.le.trans le497 hl499
   exact .ret (pret results181 (.t r (.t r .n)) le501 ⟨(y494,0),_,_,r,R500,hd⟩)
 cases hr485
 cases hv486
 refine .ks 1 r (.nilS [51,49,13,0] r r (.seq (.condKT r r (.skipS [49,13,0] r r (.block (.sr (.entryM .z r r r (.ks 2 r (.allocA zv169 r r fun b507=>?_)))))))))
 refine .allocA zv127 r r fun b509=>?_
 refine .storeA sz169 r r (.s .z) (.t (.t .nil)) r r (.storeA sz127 r r .z (.t (.t .nil)) r r (.nilS [15,14,49,13,0] r r (.sr (.ks 1 r (.loadW ia127 sz127 r .z r r r ?_)))))
 have hw516:=W_ring_Narrow (I:=I464) hd
 refine .callP call110 r hw516 r r fun v517 hv518=>?_
 obtain ⟨r515,rfl,hd⟩:=hv518
 refine .ks 5 r (.nilS [17,16,14,49,13,0] r r (.drop .z (.seq (.sr (.ks 2 r (.nilS [62,16,14,49,13,0] r r (.condP r hd (fun hb519 hd=>?_) fun hb519 hd=>?_)))))))
 · exact .sr (.ks 2 r (.nilS [5,4] r r (.drop .z (.drop .z (.drop .z (.ret (pret results181 (.t r (.t r .n)) le466 ⟨(([]:List Triple),12),_,_,r,(.nil _ _ _),hd⟩)))))))
 refine .skipS [16,14,49,13,0] r r (.region (.ks 1 r (.ixArr (i:=0) un169 sz3 r r (by decide) (o:=0) r r r (.load1 ia3 r .z r r r (.ixArr (i:=1) un169 sz3 r r (by decide) (o:=1) r r r (.load1 ia3 r .z r r r (.ks 1 r (.build zv101 un101 BI101 (.c r r r (.t .nil) (.c r r r (.s (.t .nil)) (.c r r r (.s (.s (.t .nil))) .n))) (by exact ⟨⟨_,_,r,r,r⟩,⟨⟨_,_,r,r,r⟩,⟨⟨_,_,r,r,r⟩,trivial⟩⟩⟩) r r (.buildSlice 1 un99 sz101 zv101 r r (.c r r r .n) r r fun b520=>?_)))))))))
 obtain ⟨hl522,hd⟩:=hd
 refine .append (ys:=[({ Row:=p481.1.1,Col:=p481.1.2,Val:=r515.1 }:Triple)]) 24 (.s (.s (.s .z))) un99 un99 IN101 r r r r r r r r r (.box .z (.one r) r) hl522 r r fun p523 c524=>?_
 exact .ks 1 r (.nil' fun c w ho hs=>⟨((s457++([({ Row:=p481.1.1,Col:=p481.1.2,Val:=r515.1 }:Triple)])),l482),hd,I464,_,_,hl465,ho.sub ⟨r,r,r,trivial⟩,hs.pick (.c .z (.c (.s (.s .z)) .n))⟩)
theorem W_csr_Of_1_fca {I:IH} {o0:Int} {o1:Int} {a0:Triple} {b3:Nat} {b4:Nat} {Q:Bool→Prop}  (hd:csr_Of_1_fca o0 o1 a0 Q) :
  Fun prog 180 #[.agg (encTriple a0).toArray,.pointer (some ⟨b3,0,none⟩),.pointer (some ⟨b4,0,none⟩)] I [pto b3 (.cells #[.int .i64 o0] 3 (0,0)),pto b4 (.cells #[.int .i64 o1] 3 (0,0))] (fun I_ v l=>∃ r,v=.bool r∧l=[pto b3 (.cells #[.int .i64 o0] 3 (0,0)),pto b4 (.cells #[.int .i64 o1] 3 (0,0))]∧Q r):=by
 refine Fun.enter (vs:=[.agg (encTriple a0).toArray,.pointer (some ⟨b3,0,none⟩),.pointer (some ⟨b4,0,none⟩)]) func180 r ntmps180 r (.c (.c (.c .n))) fun w0 M=>?_
 refine .sr (.boxA r r r fun b7=>?_)
 refine .ks 1 r (.nilS [3,2,1] r r (.sr (.fa un101 r sz3 r (o:=0) r r r (.load1 ia3 r .z r r r (.load1 ia3 r (.s .z) r r r (.ks 1 r ?_))))))
 have hw10:=W_csr_within (I:=I) hd
 refine .callP call167 r hw10 r r fun v11 hv12=>?_
 obtain ⟨r9,rfl,hd⟩:=hv12
 refine .ks 2 r ?_
 refine splitP hd (fun hb13 hd=>?_) fun hb13 hd=>?_
 · rw [hb13]
   exact .ks 8 r (.nilS [4,2,1] r r (.drop .z (.ret (oret results180 (.t r .n) (.refl _) (.c .z (.c .z .n)) ⟨true,r,r,hd⟩))))
 rw [hb13]
 refine .gyes r r r (.fa un101 r sz3 r (o:=1) r r r (.gyes r r r (.load1 ia3 r .z r r r (.gyes r r r (.load1 ia3 r (.s (.s .z)) r r r (.ks 1 r ?_))))))
 have hw15:=W_csr_within (I:=I) hd
 refine .gyes r r r (.callP call167 r hw15 r r fun v16 hv17=>?_)
 obtain ⟨r14,rfl,hd⟩:=hv17
 exact .ks 3 r (.nilS [4,2,1] r r (.drop .z (.ret (oret results180 (.t r .n) (.refl _) (.c .z (.c .z .n)) ⟨(!r14),r,r,hd⟩))))
theorem W_slices_IndexFunc_api_Triple_api_Triple_77e {I:IH} {o0:Int} {o1:Int} {a0:List Triple} {b3:Nat} {b4:Nat} {p5:Option Addr} {c6:Nat} {Q:Int→Prop} (R7:RepSl eTriple I p5 c6 a0) (hd:slices_IndexFunc_api_Triple_api_Triple_77e o0 o1 a0 Q) :
  Fun prog 233 #[.slice p5 a0.length c6,.func (.func 180) #[] #[.pointer (some ⟨b3,0,none⟩),.pointer (some ⟨b4,0,none⟩)]] I [pto b3 (.cells #[.int .i64 o0] 3 (0,0)),pto b4 (.cells #[.int .i64 o1] 3 (0,0))] (fun I_ v l=>∃ r,v=.int .i64 r∧l=[pto b3 (.cells #[.int .i64 o0] 3 (0,0)),pto b4 (.cells #[.int .i64 o1] 3 (0,0))]∧Q r):=by
 refine Fun.enter (vs:=[.slice p5 a0.length c6,.func (.func 180) #[] #[.pointer (some ⟨b3,0,none⟩),.pointer (some ⟨b4,0,none⟩)]]) func233 r ntmps233 r (.c (.c .n)) fun w0 M=>?_
 refine .sr (.ks 1 r (.nilS [1,0] r r (.seq (.sr (.ks 1 r (.len un99 r r r r (.ks 1 r (.nilS [8,7,1,0] r r (.block ?_)))))))))
 refine .loop hd (fun (s49:Int) c w=>∃ I_,IH.le I I_∧Ok ⟨19,[],none⟩ [(0,.slice p5 a0.length c6),(1,.func (.func 180) #[] #[.pointer (some ⟨b3,0,none⟩),.pointer (some ⟨b4,0,none⟩)]),(7,.int .i64 (a0.length:Int)),(8,.int .i64 s49)] c∧Sym w0 M I I_ [pto b3 (.cells #[.int .i64 o0] 3 (0,0)),pto b4 (.cells #[.int .i64 o1] 3 (0,0))] w) (fun c w ho hs=>⟨I,(.refl _),ho.sub ⟨r,r,r,r,trivial⟩,hs.pick (.c .z (.c .z .n))⟩) ?_
 rintro s49 next50 hd c w hst
 obtain ⟨I51,hl52,hok,hsym⟩:=hst
 replace R7:=R7.mono hl52
 refine Cod.at hok hsym (.sr (.ks 1 r (.nilS [9,8,7,1,0] r r (.seq (.condP r hd (fun hb54 hd=>?_) fun hb54 hd=>?_)))))
 · refine .skipS [8,7,1,0] r r (.seq (.block (.sr (.ks 2 r (.nilS [5,8,7,1,0] r r (.sr (.ks 3 r ?_)))))))
   obtain ⟨h55,x56,hx57,hd⟩:=hd
   obtain ⟨b58,o59,cs60,e61,hC62,hr63⟩:=R7.2 _ _ hx57
   cases hr63
   refine .ixa un99 sz101 r e61 r h55 (idx_lt hx57 h55) r r (.ldW isAgg101 sz101 hC62 r r r r ?_)
   have hw64:=W_csr_Of_1_fca (I:=I51) (o0:=o0) (o1:=o1) (a0:=x56) (b3:=b3) (b4:=b4) hd
   refine .callS (.c call180 r r) (.c .z (.c .z .n)) hw64 r r fun v68 I65 l69 hl66 hv67=>?_
   obtain ⟨r70,rfl,rfl,hd⟩:=hv67
   have le71:=IH.le.trans hl52 hl66
   replace R7:=R7.mono hl66
   replace hC62:=hC62.mono hl66
   refine .re (m':=[pto b3 (.cells #[.int .i64 o0] 3 (0,0)),pto b4 (.cells #[.int .i64 o1] 3 (0,0))]) r (.nilS [16,5,8,7,1,0] r r (.condP r hd (fun hb72 hd=>?_) fun hb72 hd=>?_))
   · exact .sr (.ks 2 r (.nilS [4,1] r r (.ret (oret results233 (.t r .n) le71 (.c .z (.c .z .n)) ⟨s49,r,r,hd⟩))))
   exact .skipS [8,7,1,0] r r (.region (.ks 2 r (.nil' fun c w ho hs=>⟨(w64 (s49+1)),hd,I65,le71,ho.sub ⟨r,r,r,r,trivial⟩,hs.pick (.c .z (.c .z .n))⟩)))
 exact .exitS [1] r r (.sr (.ks 1 r (.nilS [4,1] r r (.ret (oret results233 (.t r .n) hl52 (.c .z (.c .z .n)) ⟨(-1),r,r,hd⟩)))))
theorem W_slices_ContainsFunc_api_Triple_api_Triple_988 {I:IH} {o0:Int} {o1:Int} {a0:List Triple} {b3:Nat} {b4:Nat} {p5:Option Addr} {c6:Nat} {Q:Bool→Prop} (R7:RepSl eTriple I p5 c6 a0) (hd:slices_ContainsFunc_api_Triple_api_Triple_988 o0 o1 a0 Q) :
  Fun prog 179 #[.slice p5 a0.length c6,.func (.func 180) #[] #[.pointer (some ⟨b3,0,none⟩),.pointer (some ⟨b4,0,none⟩)]] I [pto b3 (.cells #[.int .i64 o0] 3 (0,0)),pto b4 (.cells #[.int .i64 o1] 3 (0,0))] (fun I_ v l=>∃ r,v=.bool r∧l=[pto b3 (.cells #[.int .i64 o0] 3 (0,0)),pto b4 (.cells #[.int .i64 o1] 3 (0,0))]∧Q r):=by
 refine Fun.enter (vs:=[.slice p5 a0.length c6,.func (.func 180) #[] #[.pointer (some ⟨b3,0,none⟩),.pointer (some ⟨b4,0,none⟩)]]) func179 r ntmps179 r (.c (.c .n)) fun w0 M=>?_
 refine .sr (.ks 1 r (.nilS [1,0] r r (.sr (.ks 2 r ?_))))
 have hw8:=W_slices_IndexFunc_api_Triple_api_Triple_77e (I:=I) (o0:=o0) (o1:=o1) (a0:=a0) (b3:=b3) (b4:=b4) R7 hd
 refine .callS (.f call233 r) (.c .z (.c .z .n)) hw8 r r fun v12 I9 l13 hl10 hv11=>?_
 obtain ⟨r14,rfl,rfl,hd⟩:=hv11
 replace R7:=R7.mono hl10
 exact .re (m':=[pto b3 (.cells #[.int .i64 o0] 3 (0,0)),pto b4 (.cells #[.int .i64 o1] 3 (0,0))]) r (.ks 2 r (.nilS [4,1] r r (.ret (oret results179 (.t r .n) hl10 (.c .z (.c .z .n)) ⟨(decide (0≤r14)),r,r,hd⟩))))
theorem W_csr_Of {I:IH} {a0:Int} {a1:Int} {a2:Int} {a3:List Triple} {p1:Option Addr} {c2:Nat} {Q:(Rows×Int)→Prop} (R3:RepSl eTriple I p1 c2 a3) (hd:csr_Of a0 a1 a2 a3 Q) :
  PFun prog 111 [.int .i64 a0,.int .i64 a1,.int .i64 a2,.slice p1 a3.length c2] I (o7_ Q):=by
 refine Fun.enter func111 r ntmps111 r (.c (.c (.c (.c .n)))) fun w0 M=>?_
 refine .sr (.box1 r r r r fun b19=>?_)
 refine .box1 r r r r fun b21=>?_
 refine .allocA zv32 r r fun b23=>?_
 refine .ks 1 r (.nilS [8,6,5,3,0] r r (.seq (.block (.sr (.ks 1 r ?_)))))
 have hw81:=W_ring_Is (I:=I) hd
 refine .callP call102 r hw81 r r fun v82 hv83=>?_
 obtain ⟨r80,rfl,hd⟩:=hv83
 refine .ks 2 r (.nilS [12,8,6,5,3,0] r r (.condP r hd (fun hb84 hd=>?_) fun hb84 hd=>?_))
 · exact .sr (.build zv32 un32 BI32 .n (by exact trivial) r r (.storeA sz32 r r .z (.t (.t (.t (.t (.t .nil))))) r r (.ks 1 r (.nilS [9,8] r r (.drop (.s .z) (.drop (.s .z) (.ret (pret results111 (.w ia32 sz32 r .z r (.t r .n)) (.refl _) ⟨(({ Rows:=0,Cols:=0,Start:=([]:List Int),Col:=([]:List Int),Val:=([]:List Int) }:Rows),8),_,_,_,_,_,_,r,(.nil _ _ _),(.nil _ _ _),(.nil _ _ _),hd⟩))))))))
 refine .seq ?_
 refine Cod.joinQ (σ:=Bool) hd (fun (s103:Bool) c w=>∃ I_,IH.le I I_∧Ok ⟨51,[],none⟩ [(0,.int .i64 a0),(3,.slice p1 a3.length c2),(5,.pointer (some ⟨b19,0,none⟩)),(6,.pointer (some ⟨b21,0,none⟩)),(8,.pointer (some ⟨b23,0,none⟩)),(17,.bool s103)] c∧Sym w0 M I I_ [pto b19 (.cells #[.int .i64 a1] 3 (0,0)),pto b21 (.cells #[.int .i64 a2] 3 (0,0)),pto b23 (.cells #[.int .i64 0,.int .i64 0,.slice none 0 0,.slice none 0 0,.slice none 0 0] 32 (0,0))] w) (fun k104 hd=>?_) ?_
 · skip
   refine .region (.load1 ia3 r (.s (.s .z)) r r r ?_)
   have hw106:=W_csr_within (I:=I) hd
   refine .callP call167 r hw106 r r fun v107 hv108=>?_
   obtain ⟨r105,rfl,hd⟩:=hv108
   refine .ks 2 r ?_
   refine splitP hd (fun hb109 hd=>?_) fun hb109 hd=>?_
   · rw [hb109]
     exact .ks 5 r (.nil' fun c w ho hs=>⟨true,hd,I,(.refl _),ho.sub ⟨r,r,r,r,r,r,trivial⟩,hs.pick (.c (.s (.s .z)) (.c (.s .z) (.c .z .n)))⟩)
   rw [hb109]
   refine .gyes r r r (.load1 ia3 r (.s .z) r r r ?_)
   have hw111:=W_csr_within (I:=I) hd
   refine .gyes r r r (.callP call167 r hw111 r r fun v112 hv113=>?_)
   obtain ⟨r110,rfl,hd⟩:=hv113
   exact .ks 3 r (.nil' fun c w ho hs=>⟨(!r110),hd,I,(.refl _),ho.sub ⟨r,r,r,r,r,r,trivial⟩,hs.pick (.c (.s (.s .z)) (.c (.s .z) (.c .z .n)))⟩)
 rintro s103 hd c w hst
 obtain ⟨I114,hl115,hok,hsym⟩:=hst
 replace R3:=R3.mono hl115
 refine Cod.at hok hsym (.condP r hd (fun hb116 hd=>?_) fun hb116 hd=>?_)
 · exact .sr (.build zv32 un32 BI32 .n (by exact trivial) r r (.storeA sz32 r r (.s (.s .z)) (.t (.t (.t (.t (.t .nil))))) r r (.ks 1 r (.nilS [9,8] r r (.drop .z (.drop .z (.ret (pret results111 (.w ia32 sz32 r .z r (.t r .n)) hl115 ⟨(({ Rows:=0,Cols:=0,Start:=([]:List Int),Col:=([]:List Int),Val:=([]:List Int) }:Rows),3),_,_,_,_,_,_,r,(.nil _ _ _),(.nil _ _ _),(.nil _ _ _),hd⟩))))))))
 refine .sr (.ks 1 r (.len un99 r r r r (.ks 2 r (.nilS [27,8,6,5,3,0] r r (.condP r hd (fun hb117 hd=>?_) fun hb117 hd=>?_)))))
 · exact .sr (.build zv32 un32 BI32 .n (by exact trivial) r r (.storeA sz32 r r (.s (.s .z)) (.t (.t (.t (.t (.t .nil))))) r r (.ks 1 r (.nilS [9,8] r r (.drop .z (.drop .z (.ret (pret results111 (.w ia32 sz32 r .z r (.t r .n)) hl115 ⟨(({ Rows:=0,Cols:=0,Start:=([]:List Int),Col:=([]:List Int),Val:=([]:List Int) }:Rows),5),_,_,_,_,_,_,r,(.nil _ _ _),(.nil _ _ _),(.nil _ _ _),hd⟩))))))))
 refine .sr (.ks 1 r (.mkFn r r r r ?_))
 have hw118:=W_slices_ContainsFunc_api_Triple_api_Triple_988 (I:=I114) (o0:=a1) (o1:=a2) (a0:=a3) (b3:=b19) (b4:=b21) R3 hd
 refine .callS (.f call179 r) (.c .z (.c .z .n)) hw118 r r fun v122 I119 l123 hl120 hv121=>?_
 obtain ⟨r124,rfl,rfl,hd⟩:=hv121
 have le125:=IH.le.trans hl115 hl120
 replace R3:=R3.mono hl120
 refine .re (m':=[pto b19 (.cells #[.int .i64 a1] 3 (0,0)),pto b21 (.cells #[.int .i64 a2] 3 (0,0)),pto b23 (.cells #[.int .i64 0,.int .i64 0,.slice none 0 0,.slice none 0 0,.slice none 0 0] 32 (0,0))]) r (.ks 1 r (.nilS [32,8,6,5,3,0] r r (.condP r hd (fun hb126 hd=>?_) fun hb126 hd=>?_)))
 · exact .sr (.build zv32 un32 BI32 .n (by exact trivial) r r (.storeA sz32 r r (.s (.s .z)) (.t (.t (.t (.t (.t .nil))))) r r (.ks 1 r (.nilS [9,8] r r (.drop .z (.drop .z (.ret (pret results111 (.w ia32 sz32 r .z r (.t r .n)) le125 ⟨(({ Rows:=0,Cols:=0,Start:=([]:List Int),Col:=([]:List Int),Val:=([]:List Int) }:Rows),3),_,_,_,_,_,_,r,(.nil _ _ _),(.nil _ _ _),(.nil _ _ _),hd⟩))))))))
 refine .skipS [8,6,5,3,0] r r (.sr (.ks 2 r ?_))
 have hw147:=W_csr_summed (I:=I119) R3 hd
 refine .call call181 r hw147 r r fun v142 I139 hl140 hv141=>?_
 obtain ⟨r138,p144,c145,rfl,R146,hd⟩:=hv141
 have le148:=IH.le.trans le125 hl140
 replace R3:=R3.mono hl140
 refine .ks 5 r (.nilS [11,10,8,6,5] r r (.seq (.sr (.ks 2 r (.nilS [44,11,10,8,6,5] r r (.condP r hd (fun hb149 hd=>?_) fun hb149 hd=>?_))))))
 · exact .sr (.build zv32 un32 BI32 .n (by exact trivial) r r (.ks 1 r (.storeA sz32 r r (.s (.s .z)) (.t (.t (.t (.t (.t .nil))))) r r (.ks 1 r (.nilS [9,8] r r (.drop .z (.drop .z (.ret (pret results111 (.w ia32 sz32 r .z r (.t r .n)) le148 ⟨(({ Rows:=0,Cols:=0,Start:=([]:List Int),Col:=([]:List Int),Val:=([]:List Int) }:Rows),r138.2),_,_,_,_,_,_,r,(.nil _ _ _),(.nil _ _ _),(.nil _ _ _),hd⟩)))))))))
 refine .skipS [10,8,6,5] r r (.sr (.load1 ia3 r .z r r r (.load1 ia3 r (.s .z) r r r (.ks 1 r ?_))))
 have hw165:=W_csr_built (I:=I139) R146 hd
 refine .call call176 r hw165 r r fun v154 I151 hl152 hv153=>?_
 obtain ⟨r150,p156,c157,p159,c160,p162,c163,rfl,R158,R161,R164,hd⟩:=hv153
 have le166:=IH.le.trans le148 hl152
 replace R146:=R146.mono hl152
 exact .storeA sz32 r r (.s (.s .z)) (.t (.t (.t (.t (.t .nil))))) r r (.ks 1 r (.nilS [9,8] r r (.drop .z (.drop .z (.ret (pret results111 (.w ia32 sz32 r .z r (.t r .n)) le166 ⟨(r150,0),_,_,_,_,_,_,r,R158,R161,R164,hd⟩))))))
theorem W_gemm_Done_1_bab {I:IH} {o0:Int} {o1:Int} {a0:Cell} {b3:Nat} {b4:Nat} {Q:Bool→Prop}  (hd:gemm_Done_1_bab o0 o1 a0 Q) :
  Fun prog 108 #[.agg (encCell a0).toArray,.pointer (some ⟨b3,0,none⟩),.pointer (some ⟨b4,0,none⟩)] I [pto b3 (.cells #[.int .i64 o0] 3 (0,0)),pto b4 (.cells #[.int .i64 o1] 3 (0,0))] (fun I_ v l=>∃ r,v=.bool r∧l=[pto b3 (.cells #[.int .i64 o0] 3 (0,0)),pto b4 (.cells #[.int .i64 o1] 3 (0,0))]∧Q r):=by
 refine Fun.enter (vs:=[.agg (encCell a0).toArray,.pointer (some ⟨b3,0,none⟩),.pointer (some ⟨b4,0,none⟩)]) func108 r ntmps108 r (.c (.c (.c .n))) fun w0 M=>?_
 refine .sr (.boxA r r r fun b7=>?_)
 refine .ks 1 r (.nilS [3,2,1] r r (.sr (.fa un167 r sz3 r (o:=0) r r r (.load1 ia3 r .z r r r (.load1 ia3 r (.s .z) r r r (.ks 1 r ?_))))))
 have hw10:=W_gemm_within (I:=I) hd
 refine .callP call106 r hw10 r r fun v11 hv12=>?_
 obtain ⟨r9,rfl,hd⟩:=hv12
 refine .ks 2 r ?_
 refine splitP hd (fun hb13 hd=>?_) fun hb13 hd=>?_
 · rw [hb13]
   exact .ks 8 r (.nilS [4,2,1] r r (.drop .z (.ret (oret results108 (.t r .n) (.refl _) (.c .z (.c .z .n)) ⟨true,r,r,hd⟩))))
 rw [hb13]
 refine .gyes r r r (.fa un167 r sz3 r (o:=1) r r r (.gyes r r r (.load1 ia3 r .z r r r (.gyes r r r (.load1 ia3 r (.s (.s .z)) r r r (.ks 1 r ?_))))))
 have hw15:=W_gemm_within (I:=I) hd
 refine .gyes r r r (.callP call106 r hw15 r r fun v16 hv17=>?_)
 obtain ⟨r14,rfl,hd⟩:=hv17
 exact .ks 3 r (.nilS [4,2,1] r r (.drop .z (.ret (oret results108 (.t r .n) (.refl _) (.c .z (.c .z .n)) ⟨(!r14),r,r,hd⟩))))
theorem W_slices_IndexFunc_api_Cell_api_Cell_05b {I:IH} {o0:Int} {o1:Int} {a0:List Cell} {b3:Nat} {b4:Nat} {p5:Option Addr} {c6:Nat} {Q:Int→Prop} (R7:RepSl eCell I p5 c6 a0) (hd:slices_IndexFunc_api_Cell_api_Cell_05b o0 o1 a0 Q) :
  Fun prog 177 #[.slice p5 a0.length c6,.func (.func 108) #[] #[.pointer (some ⟨b3,0,none⟩),.pointer (some ⟨b4,0,none⟩)]] I [pto b3 (.cells #[.int .i64 o0] 3 (0,0)),pto b4 (.cells #[.int .i64 o1] 3 (0,0))] (fun I_ v l=>∃ r,v=.int .i64 r∧l=[pto b3 (.cells #[.int .i64 o0] 3 (0,0)),pto b4 (.cells #[.int .i64 o1] 3 (0,0))]∧Q r):=by
 refine Fun.enter (vs:=[.slice p5 a0.length c6,.func (.func 108) #[] #[.pointer (some ⟨b3,0,none⟩),.pointer (some ⟨b4,0,none⟩)]]) func177 r ntmps177 r (.c (.c .n)) fun w0 M=>?_
 refine .sr (.ks 1 r (.nilS [1,0] r r (.seq (.sr (.ks 1 r (.len un103 r r r r (.ks 1 r (.nilS [8,7,1,0] r r (.block ?_)))))))))
 refine .loop hd (fun (s49:Int) c w=>∃ I_,IH.le I I_∧Ok ⟨19,[],none⟩ [(0,.slice p5 a0.length c6),(1,.func (.func 108) #[] #[.pointer (some ⟨b3,0,none⟩),.pointer (some ⟨b4,0,none⟩)]),(7,.int .i64 (a0.length:Int)),(8,.int .i64 s49)] c∧Sym w0 M I I_ [pto b3 (.cells #[.int .i64 o0] 3 (0,0)),pto b4 (.cells #[.int .i64 o1] 3 (0,0))] w) (fun c w ho hs=>⟨I,(.refl _),ho.sub ⟨r,r,r,r,trivial⟩,hs.pick (.c .z (.c .z .n))⟩) ?_
 rintro s49 next50 hd c w hst
 obtain ⟨I51,hl52,hok,hsym⟩:=hst
 replace R7:=R7.mono hl52
 refine Cod.at hok hsym (.sr (.ks 1 r (.nilS [9,8,7,1,0] r r (.seq (.condP r hd (fun hb54 hd=>?_) fun hb54 hd=>?_)))))
 · refine .skipS [8,7,1,0] r r (.seq (.block (.sr (.ks 2 r (.nilS [5,8,7,1,0] r r (.sr (.ks 3 r ?_)))))))
   obtain ⟨h55,x56,hx57,hd⟩:=hd
   obtain ⟨b58,o59,cs60,e61,hC62,hr63⟩:=R7.2 _ _ hx57
   cases hr63
   refine .ixa un103 sizeOf167 r e61 r h55 (idx_lt hx57 h55) r r (.ldW isAgg167 sizeOf167 hC62 r r r r ?_)
   have hw64:=W_gemm_Done_1_bab (I:=I51) (o0:=o0) (o1:=o1) (a0:=x56) (b3:=b3) (b4:=b4) hd
   refine .callS (.c call108 r r) (.c .z (.c .z .n)) hw64 r r fun v68 I65 l69 hl66 hv67=>?_
   obtain ⟨r70,rfl,rfl,hd⟩:=hv67
   have le71:=IH.le.trans hl52 hl66
   replace R7:=R7.mono hl66
   replace hC62:=hC62.mono hl66
   refine .re (m':=[pto b3 (.cells #[.int .i64 o0] 3 (0,0)),pto b4 (.cells #[.int .i64 o1] 3 (0,0))]) r (.nilS [16,5,8,7,1,0] r r (.condP r hd (fun hb72 hd=>?_) fun hb72 hd=>?_))
   · exact .sr (.ks 2 r (.nilS [4,1] r r (.ret (oret results177 (.t r .n) le71 (.c .z (.c .z .n)) ⟨s49,r,r,hd⟩))))
   exact .skipS [8,7,1,0] r r (.region (.ks 2 r (.nil' fun c w ho hs=>⟨(w64 (s49+1)),hd,I65,le71,ho.sub ⟨r,r,r,r,trivial⟩,hs.pick (.c .z (.c .z .n))⟩)))
 exact .exitS [1] r r (.sr (.ks 1 r (.nilS [4,1] r r (.ret (oret results177 (.t r .n) hl52 (.c .z (.c .z .n)) ⟨(-1),r,r,hd⟩)))))
theorem W_slices_ContainsFunc_api_Cell_api_Cell_72c {I:IH} {o0:Int} {o1:Int} {a0:List Cell} {b3:Nat} {b4:Nat} {p5:Option Addr} {c6:Nat} {Q:Bool→Prop} (R7:RepSl eCell I p5 c6 a0) (hd:slices_ContainsFunc_api_Cell_api_Cell_72c o0 o1 a0 Q) :
  Fun prog 107 #[.slice p5 a0.length c6,.func (.func 108) #[] #[.pointer (some ⟨b3,0,none⟩),.pointer (some ⟨b4,0,none⟩)]] I [pto b3 (.cells #[.int .i64 o0] 3 (0,0)),pto b4 (.cells #[.int .i64 o1] 3 (0,0))] (fun I_ v l=>∃ r,v=.bool r∧l=[pto b3 (.cells #[.int .i64 o0] 3 (0,0)),pto b4 (.cells #[.int .i64 o1] 3 (0,0))]∧Q r):=by
 refine Fun.enter (vs:=[.slice p5 a0.length c6,.func (.func 108) #[] #[.pointer (some ⟨b3,0,none⟩),.pointer (some ⟨b4,0,none⟩)]]) func107 r ntmps107 r (.c (.c .n)) fun w0 M=>?_
 refine .sr (.ks 1 r (.nilS [1,0] r r (.sr (.ks 2 r ?_))))
 have hw8:=W_slices_IndexFunc_api_Cell_api_Cell_05b (I:=I) (o0:=o0) (o1:=o1) (a0:=a0) (b3:=b3) (b4:=b4) R7 hd
 refine .callS (.f call177 r) (.c .z (.c .z .n)) hw8 r r fun v12 I9 l13 hl10 hv11=>?_
 obtain ⟨r14,rfl,rfl,hd⟩:=hv11
 replace R7:=R7.mono hl10
 exact .re (m':=[pto b3 (.cells #[.int .i64 o0] 3 (0,0)),pto b4 (.cells #[.int .i64 o1] 3 (0,0))]) r (.ks 2 r (.nilS [4,1] r r (.ret (oret results107 (.t r .n) hl10 (.c .z (.c .z .n)) ⟨(decide (0≤r14)),r,r,hd⟩))))
theorem W_gemm_Done {I:IH} {a0:Int} {a1:Int} {a2:Int} {a3:List Cell} {p1:Option Addr} {c2:Nat} {Q:(Rows×Int)→Prop} (R3:RepSl eCell I p1 c2 a3) (hd:gemm_Done a0 a1 a2 a3 Q) :
  PFun prog 54 [.int .i64 a0,.int .i64 a1,.int .i64 a2,.slice p1 a3.length c2] I (o7_ Q):=by
 refine Fun.enter func54 r ntmps54 r (.c (.c (.c (.c .n)))) fun w0 M=>?_
 refine .sr (.box1 r r r r fun b19=>?_)
 refine .box1 r r r r fun b21=>?_
 refine .allocA zv32 r r fun b23=>?_
 refine .ks 1 r (.nilS [8,6,5,3,0] r r (.seq (.block (.sr (.ks 1 r ?_)))))
 have hw98:=W_ring_Is (I:=I) hd
 refine .callP call102 r hw98 r r fun v99 hv100=>?_
 obtain ⟨r97,rfl,hd⟩:=hv100
 refine .ks 2 r (.nilS [15,8,6,5,3,0] r r (.condP r hd (fun hb101 hd=>?_) fun hb101 hd=>?_))
 · exact .sr (.build zv32 un32 BI32 .n (by exact trivial) r r (.storeA sz32 r r .z (.t (.t (.t (.t (.t .nil))))) r r (.ks 1 r (.nilS [9,8] r r (.drop (.s .z) (.drop (.s .z) (.ret (pret results54 (.w ia32 sz32 r .z r (.t r .n)) (.refl _) ⟨(({ Rows:=0,Cols:=0,Start:=([]:List Int),Col:=([]:List Int),Val:=([]:List Int) }:Rows),8),_,_,_,_,_,_,r,(.nil _ _ _),(.nil _ _ _),(.nil _ _ _),hd⟩))))))))
 refine .seq ?_
 refine Cod.joinQ (σ:=Bool) hd (fun (s120:Bool) c w=>∃ I_,IH.le I I_∧Ok ⟨82,[],none⟩ [(0,.int .i64 a0),(3,.slice p1 a3.length c2),(5,.pointer (some ⟨b19,0,none⟩)),(6,.pointer (some ⟨b21,0,none⟩)),(8,.pointer (some ⟨b23,0,none⟩)),(20,.bool s120)] c∧Sym w0 M I I_ [pto b19 (.cells #[.int .i64 a1] 3 (0,0)),pto b21 (.cells #[.int .i64 a2] 3 (0,0)),pto b23 (.cells #[.int .i64 0,.int .i64 0,.slice none 0 0,.slice none 0 0,.slice none 0 0] 32 (0,0))] w) (fun k121 hd=>?_) ?_
 · skip
   refine .region (.load1 ia3 r (.s (.s .z)) r r r ?_)
   have hw123:=W_gemm_within (I:=I) hd
   refine .callP call106 r hw123 r r fun v124 hv125=>?_
   obtain ⟨r122,rfl,hd⟩:=hv125
   refine .ks 2 r ?_
   refine splitP hd (fun hb126 hd=>?_) fun hb126 hd=>?_
   · rw [hb126]
     exact .ks 5 r (.nil' fun c w ho hs=>⟨true,hd,I,(.refl _),ho.sub ⟨r,r,r,r,r,r,trivial⟩,hs.pick (.c (.s (.s .z)) (.c (.s .z) (.c .z .n)))⟩)
   rw [hb126]
   refine .gyes r r r (.load1 ia3 r (.s .z) r r r ?_)
   have hw128:=W_gemm_within (I:=I) hd
   refine .gyes r r r (.callP call106 r hw128 r r fun v129 hv130=>?_)
   obtain ⟨r127,rfl,hd⟩:=hv130
   exact .ks 3 r (.nil' fun c w ho hs=>⟨(!r127),hd,I,(.refl _),ho.sub ⟨r,r,r,r,r,r,trivial⟩,hs.pick (.c (.s (.s .z)) (.c (.s .z) (.c .z .n)))⟩)
 rintro s120 hd c w hst
 obtain ⟨I131,hl132,hok,hsym⟩:=hst
 replace R3:=R3.mono hl132
 refine Cod.at hok hsym (.condP r hd (fun hb133 hd=>?_) fun hb133 hd=>?_)
 · exact .sr (.build zv32 un32 BI32 .n (by exact trivial) r r (.storeA sz32 r r (.s (.s .z)) (.t (.t (.t (.t (.t .nil))))) r r (.ks 1 r (.nilS [9,8] r r (.drop .z (.drop .z (.ret (pret results54 (.w ia32 sz32 r .z r (.t r .n)) hl132 ⟨(({ Rows:=0,Cols:=0,Start:=([]:List Int),Col:=([]:List Int),Val:=([]:List Int) }:Rows),3),_,_,_,_,_,_,r,(.nil _ _ _),(.nil _ _ _),(.nil _ _ _),hd⟩))))))))
 refine .sr (.ks 1 r (.mkFn r r r r ?_))
 have hw142:=W_slices_ContainsFunc_api_Cell_api_Cell_72c (I:=I131) (o0:=a1) (o1:=a2) (a0:=a3) (b3:=b19) (b4:=b21) R3 hd
 refine .callS (.f call107 r) (.c .z (.c .z .n)) hw142 r r fun v146 I143 l147 hl144 hv145=>?_
 obtain ⟨r148,rfl,rfl,hd⟩:=hv145
 have le149:=IH.le.trans hl132 hl144
 replace R3:=R3.mono hl144
 refine .re (m':=[pto b19 (.cells #[.int .i64 a1] 3 (0,0)),pto b21 (.cells #[.int .i64 a2] 3 (0,0)),pto b23 (.cells #[.int .i64 0,.int .i64 0,.slice none 0 0,.slice none 0 0,.slice none 0 0] 32 (0,0))]) r (.ks 1 r (.nilS [30,8,6,5,3,0] r r (.condP r hd (fun hb150 hd=>?_) fun hb150 hd=>?_)))
 · exact .sr (.build zv32 un32 BI32 .n (by exact trivial) r r (.storeA sz32 r r (.s (.s .z)) (.t (.t (.t (.t (.t .nil))))) r r (.ks 1 r (.nilS [9,8] r r (.drop .z (.drop .z (.ret (pret results54 (.w ia32 sz32 r .z r (.t r .n)) le149 ⟨(({ Rows:=0,Cols:=0,Start:=([]:List Int),Col:=([]:List Int),Val:=([]:List Int) }:Rows),3),_,_,_,_,_,_,r,(.nil _ _ _),(.nil _ _ _),(.nil _ _ _),hd⟩))))))))
 refine .sr (.ks 1 r ?_)
 have hw156:=W_gemm_rises (I:=I143) R3 hd
 refine .callP call109 r hw156 r r fun v157 hv158=>?_
 obtain ⟨r155,rfl,hd⟩:=hv158
 refine .ks 2 r (.nilS [35,8,6,5,3,0] r r (.condP r hd (fun hb159 hd=>?_) fun hb159 hd=>?_))
 · exact .sr (.build zv32 un32 BI32 .n (by exact trivial) r r (.storeA sz32 r r (.s (.s .z)) (.t (.t (.t (.t (.t .nil))))) r r (.ks 1 r (.nilS [9,8] r r (.drop .z (.drop .z (.ret (pret results54 (.w ia32 sz32 r .z r (.t r .n)) le149 ⟨(({ Rows:=0,Cols:=0,Start:=([]:List Int),Col:=([]:List Int),Val:=([]:List Int) }:Rows),6),_,_,_,_,_,_,r,(.nil _ _ _),(.nil _ _ _),(.nil _ _ _),hd⟩))))))))
 refine .sr (.ks 1 r (.len un103 r r r r (.ks 2 r (.nilS [40,8,6,5,3,0] r r (.condP r hd (fun hb160 hd=>?_) fun hb160 hd=>?_)))))
 · exact .sr (.build zv32 un32 BI32 .n (by exact trivial) r r (.storeA sz32 r r (.s (.s .z)) (.t (.t (.t (.t (.t .nil))))) r r (.ks 1 r (.nilS [9,8] r r (.drop .z (.drop .z (.ret (pret results54 (.w ia32 sz32 r .z r (.t r .n)) le149 ⟨(({ Rows:=0,Cols:=0,Start:=([]:List Int),Col:=([]:List Int),Val:=([]:List Int) }:Rows),5),_,_,_,_,_,_,r,(.nil _ _ _),(.nil _ _ _),(.nil _ _ _),hd⟩))))))))
 refine .skipS [8,6,5,3,0] r r (.sr (.ks 1 r (.nilS [10,8,6,5,3,0] r r (.seq (.sr (.ks 1 r (.len un103 r r r r (.ks 1 r (.nilS [47,46,45,10,8,6,5,0] r r ?_)))))))))
 refine .block (.own0 eTriple 101 (.loop hd (fun (s:(List Triple)×Int) c w=>match s with | (s448,s452)=>∃ I_ p449 c450,IH.le I143 I_∧Ok ⟨82,[],none⟩ [(0,.int .i64 a0),(5,.pointer (some ⟨b19,0,none⟩)),(6,.pointer (some ⟨b21,0,none⟩)),(8,.pointer (some ⟨b23,0,none⟩)),(10,.slice p449 s448.length c450),(45,.slice p1 a3.length c2),(46,.int .i64 (a3.length:Int)),(47,.int .i64 s452)] c∧Sym w0 M I I_ [pto b19 (.cells #[.int .i64 a1] 3 (0,0)),pto b21 (.cells #[.int .i64 a2] 3 (0,0)),pto b23 (.cells #[.int .i64 0,.int .i64 0,.slice none 0 0,.slice none 0 0,.slice none 0 0] 32 (0,0)),OwnSl eTriple 101 p449 c450 s448] w) (fun c w ho hs=>⟨I143,_,_,(.refl _),ho.sub ⟨r,r,r,r,r,r,r,r,trivial⟩,hs.pick (.c (.s .z) (.c (.s .z) (.c (.s .z) (.c .z .n))))⟩) ?_))
 rintro ⟨s448,s452⟩ next454 hd c w hst
 obtain ⟨I455,p449,c450,hl456,hok,hsym⟩:=hst
 have le457:=IH.le.trans le149 hl456
 replace R3:=R3.mono hl456
 refine Cod.at hok hsym (.sr (.ks 1 r (.nilS [48,47,46,45,10,8,6,5,0] r r (.seq (.condP r hd (fun hb459 hd=>?_) fun hb459 hd=>?_)))))
 · refine .skipS [47,46,45,10,8,6,5,0] r r (.seq (.block (.sr ?_)))
   obtain ⟨h471,x472,hx473,hd⟩:=hd
   obtain ⟨b474,o475,cs476,e477,hC478,hr479⟩:=R3.2 _ _ hx473
   cases hr479
   refine .ixa un103 sizeOf167 r e477 r h471 (idx_lt hx473 h471) r r (.ldW isAgg167 sizeOf167 hC478 r r r r (.allocA zeroValue167 r r fun b480=>?_))
   refine .storeA sizeOf167 r r .z (.t (.t (.t (.t .nil)))) r r (.nilS [12,47,46,45,10,8,6,5,0] r r (.sr (.ks 1 r (.fa un167 r sz127 r (o:=2) r r r (.loadA ia127 sz127 r .z (.s (.s (.t (.t .nil)))) r r r ?_)))))
   have hw487:=W_ring_Narrow (I:=I455) hd
   refine .callP call110 r hw487 r r fun v488 hv489=>?_
   obtain ⟨r486,rfl,hd⟩:=hv489
   refine .ks 5 r (.nilS [14,13,12,47,46,45,10,8,6,5,0] r r (.seq (.sr (.ks 2 r (.nilS [59,13,12,47,46,45,10,8,6,5,0] r r (.condP r hd (fun hb491 hd=>?_) fun hb491 hd=>?_))))))
   · exact .sr (.build zv32 un32 BI32 .n (by exact trivial) r r (.storeA sz32 r r (.s (.s (.s .z))) (.t (.t (.t (.t (.t .nil))))) r r (.ks 1 r (.nilS [9,8] r r (.drop .z (.drop .z (.drop .z (.drop (.s .z) (.ret (pret results54 (.w ia32 sz32 r .z r (.t r .n)) le457 ⟨(({ Rows:=0,Cols:=0,Start:=([]:List Int),Col:=([]:List Int),Val:=([]:List Int) }:Rows),12),_,_,_,_,_,_,r,(.nil _ _ _),(.nil _ _ _),(.nil _ _ _),hd⟩))))))))))
   refine .skipS [13,12,47,46,45,10,8,6,5,0] r r (.sr (.ks 2 r ?_))
   have hw497:=W_ring_Zero (I:=I455) hd
   refine .callP call79 r hw497 r r fun v498 hv499=>?_
   obtain ⟨r496,rfl,hd⟩:=hv499
   refine .ks 1 r (.nilS [64,13,12,47,46,45,10,8,6,5,0] r r (.condP r hd (fun hb500 hd=>?_) fun hb500 hd=>?_))
   · refine .region (.ks 1 r (.fa un167 r sz3 r (o:=0) r r r (.load1 ia3 r .z r r r (.fa un167 r sz3 r (o:=1) r r r (.load1 ia3 r .z r r r (.ks 1 r (.build zv101 un101 BI101 (.c r r r (.t .nil) (.c r r r (.s (.t .nil)) (.c r r r (.s (.s (.t .nil))) .n))) (by exact ⟨⟨_,_,r,r,r⟩,⟨⟨_,_,r,r,r⟩,⟨⟨_,_,r,r,r⟩,trivial⟩⟩⟩) r r (.buildSlice 1 un99 sz101 zv101 r r (.c r r r .n) r r fun b501=>?_))))))))
     obtain ⟨hl503,hd⟩:=hd
     refine .append (ys:=[({ Row:=x472.Row,Col:=x472.Col,Val:=r486.1 }:Triple)]) 24 (.s (.s (.s (.s (.s .z))))) un99 un99 IN101 r r r r r r r r r (.box .z (.one r) r) hl503 r r fun p504 c505=>?_
     exact .ks 1 r (.nilS [10,47,46,45,8,6,5,0] r r (.drop (.s .z) (.drop (.s .z) (.region (.ks 2 r (.nil' fun c w ho hs=>⟨((s448++([({ Row:=x472.Row,Col:=x472.Col,Val:=r486.1 }:Triple)])),w64 (s452+1)),hd,I455,_,_,hl456,ho.sub ⟨r,r,r,r,r,r,r,r,trivial⟩,hs.pick (.c (.s .z) (.c (.s .z) (.c (.s .z) (.c .z .n))))⟩))))))
   exact .skipS [47,46,45,10,8,6,5,0] r r (.drop .z (.region (.ks 2 r (.nil' fun c w ho hs=>⟨(s448,w64 (s452+1)),hd,I455,_,_,hl456,ho.sub ⟨r,r,r,r,r,r,r,r,trivial⟩,hs.pick (.c .z (.c .z (.c .z (.c .z .n))))⟩))))
 refine .exitS [10,8,6,5,0] r r (.sr (.ks 1 r (.load1 ia3 r .z r r r (.load1 ia3 r (.s .z) r r r (.ks 1 r (.pub (.s (.s (.s .z))) fun I507 hl508 R509=>?_))))))
 have le510:=IH.le.trans le457 hl508
 have le511:=IH.le.trans hl456 hl508
 have hw527:=W_csr_Of (I:=I507) R509 hd
 refine .call call111 r hw527 r r fun v516 I513 hl514 hv515=>?_
 obtain ⟨r512,p518,c519,p521,c522,p524,c525,rfl,R520,R523,R526,hd⟩:=hv515
 have le528:=IH.le.trans le510 hl514
 have le529:=IH.le.trans le511 hl514
 replace R509:=R509.mono hl514
 exact .ks 2 r (.storeA sz32 r r (.s (.s .z)) (.t (.t (.t (.t (.t .nil))))) r r (.ks 1 r (.nilS [9,8] r r (.drop .z (.drop .z (.ret (pret results54 (.w ia32 sz32 r .z r (.t r .n)) le528 ⟨(r512.1,r512.2),_,_,_,_,_,_,r,R520,R523,R526,hd⟩)))))))
theorem W_gemm_Times {I:IH} {a0:Int} {a1:Rows} {a2:Rows} {a3:Rows} {p1:Option Addr} {c2:Nat} {p4:Option Addr} {c5:Nat} {p7:Option Addr} {c8:Nat} {p10:Option Addr} {c11:Nat} {p13:Option Addr} {c14:Nat} {p16:Option Addr} {c17:Nat} {p19:Option Addr} {c20:Nat} {p22:Option Addr} {c23:Nat} {p25:Option Addr} {c26:Nat} {Q:(Rows×Int)→Prop} (R3:RepSl eI64 I p1 c2 a1.Start) (R6:RepSl eI64 I p4 c5 a1.Col) (R9:RepSl eI64 I p7 c8 a1.Val) (R12:RepSl eI64 I p10 c11 a2.Start) (R15:RepSl eI64 I p13 c14 a2.Col) (R18:RepSl eI64 I p16 c17 a2.Val) (R21:RepSl eI64 I p19 c20 a3.Start) (R24:RepSl eI64 I p22 c23 a3.Col) (R27:RepSl eI64 I p25 c26 a3.Val) (hd:gemm_Times a0 a1 a2 a3 Q) :
  PFun prog 18 [.int .i64 a0,.agg #[.int .i64 a1.Rows,.int .i64 a1.Cols,.slice p1 a1.Start.length c2,.slice p4 a1.Col.length c5,.slice p7 a1.Val.length c8],.agg #[.int .i64 a2.Rows,.int .i64 a2.Cols,.slice p10 a2.Start.length c11,.slice p13 a2.Col.length c14,.slice p16 a2.Val.length c17],.agg #[.int .i64 a3.Rows,.int .i64 a3.Cols,.slice p19 a3.Start.length c20,.slice p22 a3.Col.length c23,.slice p25 a3.Val.length c26]] I (fun I_ v=>∃ r p28 c29 p31 c32 p34 c35,v=.tuple #[.agg #[.int .i64 r.1.Rows,.int .i64 r.1.Cols,.slice p28 r.1.Start.length c29,.slice p31 r.1.Col.length c32,.slice p34 r.1.Val.length c35],.int .i64 r.2]∧RepSl eI64 I_ p28 c29 r.1.Start∧RepSl eI64 I_ p31 c32 r.1.Col∧RepSl eI64 I_ p34 c35 r.1.Val∧Q r):=by
 refine Fun.enter func18 r ntmps18 r (.c (.c (.c (.c .n)))) fun w0 M=>?_
 refine .sr (.boxA r r r fun b45=>?_)
 refine .boxA r r r fun b47=>?_
 refine .boxA r r r fun b49=>?_
 refine .allocA zv32 r r fun b51=>?_
 refine .ks 1 r (.nilS [8,7,6,5,0] r r (.sr (.ks 1 r (.loadW ia32 sz32 r (.s (.s (.s .z))) r r r (.loadW ia32 sz32 r (.s (.s .z)) r r r (.loadW ia32 sz32 r (.s .z) r r r ?_))))))
 have hw72:=W_gemm_Cells (I:=I) R3 R6 R9 R12 R15 R18 R21 R24 R27 hd
 refine .call call52 r hw72 r r fun v67 I64 hl65 hv66=>?_
 obtain ⟨r63,p69,c70,rfl,R71,hd⟩:=hv66
 replace R3:=R3.mono hl65
 replace R6:=R6.mono hl65
 replace R9:=R9.mono hl65
 replace R12:=R12.mono hl65
 replace R15:=R15.mono hl65
 replace R18:=R18.mono hl65
 replace R21:=R21.mono hl65
 replace R24:=R24.mono hl65
 replace R27:=R27.mono hl65
 refine .ks 5 r (.nilS [11,10,8,6,5,0] r r (.drop (.s .z) (.seq (.sr (.ks 2 r (.nilS [22,11,10,8,6,5,0] r r (.condP r hd (fun hb74 hd=>?_) fun hb74 hd=>?_)))))))
 · exact .sr (.build zv32 un32 BI32 .n (by exact trivial) r r (.ks 1 r (.storeA sz32 r r .z (.t (.t (.t (.t (.t .nil))))) r r (.ks 1 r (.nilS [9,8] r r (.drop (.s .z) (.drop (.s .z) (.ret (pret results18 (.w ia32 sz32 r .z r (.t r .n)) hl65 ⟨(({ Rows:=0,Cols:=0,Start:=([]:List Int),Col:=([]:List Int),Val:=([]:List Int) }:Rows),r63.2),_,_,_,_,_,_,r,(.nil _ _ _),(.nil _ _ _),(.nil _ _ _),hd⟩)))))))))
 refine .skipS [10,8,6,5,0] r r (.sr (.loadW ia32 sz32 r (.s (.s .z)) r r r (.loadW ia32 sz32 r (.s .z) r r r (.buildSlice 2 un106 sz32 zv32 r r (.c r r r (.c r r r .n)) r r fun b92=>?_))))
 refine .pubB (El:=eRows) (ys:=([a1,a2]:List Rows)) (k:=2) .z (RepCs.cons (cs:=[.int .i64 a1.Rows,.int .i64 a1.Cols,.slice p1 a1.Start.length c2,.slice p4 a1.Col.length c5,.slice p7 a1.Val.length c8]) ⟨_,_,_,_,_,_,r,R3,R6,R9⟩ (RepCs.cons (cs:=[.int .i64 a2.Rows,.int .i64 a2.Cols,.slice p10 a2.Start.length c11,.slice p13 a2.Col.length c14,.slice p16 a2.Val.length c17]) ⟨_,_,_,_,_,_,r,R12,R15,R18⟩ .nil)) r fun I94 hl95 R96=>?_
 have le97:=IH.le.trans hl65 hl95
 replace R3:=R3.mono hl95
 replace R6:=R6.mono hl95
 replace R9:=R9.mono hl95
 replace R12:=R12.mono hl95
 replace R15:=R15.mono hl95
 replace R18:=R18.mono hl95
 replace R71:=R71.mono hl95
 have hw107:=W_gemm_sure (I:=I94) R96 hd
 refine .call call53 r hw107 r r fun v102 I99 hl100 hv101=>?_
 obtain ⟨r98,p104,c105,rfl,R106,hd⟩:=hv101
 have le108:=IH.le.trans le97 hl100
 replace R3:=R3.mono hl100
 replace R6:=R6.mono hl100
 replace R9:=R9.mono hl100
 replace R12:=R12.mono hl100
 replace R15:=R15.mono hl100
 replace R18:=R18.mono hl100
 replace R71:=R71.mono hl100
 replace R96:=R96.mono hl100
 refine .ks 1 r (.nilS [12,10,8,0] r r (.drop (.s .z) (.drop (.s .z) (.seq (.dr [0,1,2,3,4,5,6,7,8,9,10,11,12] 13 (.fk 2 r ?_))))))
 obtain ⟨h109,x110,hx111,hd⟩:=hd
 obtain ⟨b112,o113,cs114,e115,hC116,hr117⟩:=R106.2 _ _ hx111
 obtain ⟨p118,c119,p121,c122,p124,c125,rfl,R120,R123,R126⟩:=hr117
 refine .g r r r (fun _=>.ixa un106 sz32 r e115 r h109 (idx_lt hx111 h109) r r .mk) (.g r r r (fun _=>.fa un32 r sz3 r (o:=o113+(Int.toNat 0)*5) r r r .mk) (.g r r r (fun _=>.ld1 (j:=0) ia3 hC116 r r r r r .mk) (.fk 1 r ?_)))
 obtain ⟨h127,x128,hx129,hd⟩:=hd
 obtain ⟨b130,o131,cs132,e133,hC134,hr135⟩:=R106.2 _ _ hx129
 obtain ⟨p136,c137,p139,c140,p142,c143,rfl,R138,R141,R144⟩:=hr135
 refine .g r r r (fun _=>.ixa un106 sz32 r e133 r h127 (idx_lt hx129 h127) r r .mk) (.g r r r (fun _=>.fa un32 r sz3 r (o:=o131+(Int.toNat 1)*5+1) r r r .mk) (.g r r r (fun _=>.ld1 (j:=1) ia3 hC134 r r r r r .mk) (.fk 1 r (.ww r fun ex=>?_))))
 have hw160:=W_gemm_Done (I:=I99) R71 hd
 refine .call call54 r hw160 r r fun v149 I146 hl147 hv148=>?_
 obtain ⟨r145,p151,c152,p154,c155,p157,c158,rfl,R153,R156,R159,hd⟩:=hv148
 have le161:=IH.le.trans le108 hl147
 replace R71:=R71.mono hl147
 replace R106:=R106.mono hl147
 replace R120:=R120.mono hl147
 replace R123:=R123.mono hl147
 replace R126:=R126.mono hl147
 replace hC116:=hC116.mono hl147
 replace R138:=R138.mono hl147
 replace R141:=R141.mono hl147
 replace R144:=R144.mono hl147
 replace hC134:=hC134.mono hl147
 exact .so 1 r r r trivial (.fk 2 r (.e2 13 (.storeA sz32 r r .z (.t (.t (.t (.t (.t .nil))))) r r (.ks 1 r (.nilS [9,8] r r (.ret (pret results18 (.w ia32 sz32 r .z r (.t r .n)) le161 ⟨(r145.1,r145.2),_,_,_,_,_,_,r,R153,R156,R159,hd⟩)))))))
theorem W_ref07_Of {I:IH} {a0:Int} {a1:Int} {a2:Int} {a3:List Triple} {p1:Option Addr} {c2:Nat} {Q:(Rows×Int)→Prop} (R3:RepSl eTriple I p1 c2 a3) (hd:ref07_Of a0 a1 a2 a3 Q) :
  PFun prog 55 [.int .i64 a0,.int .i64 a1,.int .i64 a2,.slice p1 a3.length c2] I (o7_ Q):=by
 refine Fun.enter func55 r ntmps55 r (.c (.c (.c (.c .n)))) fun w0 M=>?_
 refine .sr (.allocA zv32 r r fun b15=>?_)
 refine .ks 1 r (.nilS [8,3,2,1,0] r r (.seq (.sr (.ks 1 r ?_))))
 have hw23:=W_ref02_Is (I:=I) hd
 refine .callP call112 r hw23 r r fun v24 hv25=>?_
 obtain ⟨r22,rfl,hd⟩:=hv25
 refine .ks 1 r (.nilS [17,8,3,2,1,0] r r (.condP r hd (fun hb26 hd=>?_) fun hb26 hd=>?_))
 · exact .sr (.build zv32 un32 BI32 .n (by exact trivial) r r (.storeA sz32 r r .z (.t (.t (.t (.t (.t .nil))))) r r (.ks 1 r (.nilS [9,8] r r (.ret (pret results55 (.w ia32 sz32 r .z r (.t r .n)) (.refl _) ⟨(({ Rows:=0,Cols:=0,Start:=([]:List Int),Col:=([]:List Int),Val:=([]:List Int) }:Rows),8),_,_,_,_,_,_,r,(.nil _ _ _),(.nil _ _ _),(.nil _ _ _),hd⟩))))))
 refine .skipS [8,3,2,1,0] r r (.seq (.sr (.ks 3 r ?_)))
 refine splitP hd (fun hb31 hd=>?_) fun hb31 hd=>?_
 · rw [hb31]
   exact .ks 11 r (.nilS [32,8,3,2,1,0] r r (.condKT r r (.sr (.build zv32 un32 BI32 .n (by exact trivial) r r (.storeA sz32 r r .z (.t (.t (.t (.t (.t .nil))))) r r (.ks 1 r (.nilS [9,8] r r (.ret (pret results55 (.w ia32 sz32 r .z r (.t r .n)) (.refl _) ⟨(({ Rows:=0,Cols:=0,Start:=([]:List Int),Col:=([]:List Int),Val:=([]:List Int) }:Rows),3),_,_,_,_,_,_,r,(.nil _ _ _),(.nil _ _ _),(.nil _ _ _),hd⟩)))))))))
 rw [hb31]
 refine .ks 4 r ?_
 refine splitP hd (fun hb32 hd=>?_) fun hb32 hd=>?_
 · rw [hb32]
   exact .ks 7 r (.nilS [32,8,3,2,1,0] r r (.condKT r r (.sr (.build zv32 un32 BI32 .n (by exact trivial) r r (.storeA sz32 r r .z (.t (.t (.t (.t (.t .nil))))) r r (.ks 1 r (.nilS [9,8] r r (.ret (pret results55 (.w ia32 sz32 r .z r (.t r .n)) (.refl _) ⟨(({ Rows:=0,Cols:=0,Start:=([]:List Int),Col:=([]:List Int),Val:=([]:List Int) }:Rows),3),_,_,_,_,_,_,r,(.nil _ _ _),(.nil _ _ _),(.nil _ _ _),hd⟩)))))))))
 rw [hb32]
 refine .ks 4 r ?_
 refine splitP hd (fun hb33 hd=>?_) fun hb33 hd=>?_
 · rw [hb33]
   exact .ks 3 r (.nilS [32,8,3,2,1,0] r r (.condKT r r (.sr (.build zv32 un32 BI32 .n (by exact trivial) r r (.storeA sz32 r r .z (.t (.t (.t (.t (.t .nil))))) r r (.ks 1 r (.nilS [9,8] r r (.ret (pret results55 (.w ia32 sz32 r .z r (.t r .n)) (.refl _) ⟨(({ Rows:=0,Cols:=0,Start:=([]:List Int),Col:=([]:List Int),Val:=([]:List Int) }:Rows),3),_,_,_,_,_,_,r,(.nil _ _ _),(.nil _ _ _),(.nil _ _ _),hd⟩)))))))))
 rw [hb33]
 refine .ks 3 r (.nilS [32,8,3,2,1,0] r r (.condP r hd (fun hb34 hd=>?_) fun hb34 hd=>?_))
 · exact .sr (.build zv32 un32 BI32 .n (by exact trivial) r r (.storeA sz32 r r .z (.t (.t (.t (.t (.t .nil))))) r r (.ks 1 r (.nilS [9,8] r r (.ret (pret results55 (.w ia32 sz32 r .z r (.t r .n)) (.refl _) ⟨(({ Rows:=0,Cols:=0,Start:=([]:List Int),Col:=([]:List Int),Val:=([]:List Int) }:Rows),3),_,_,_,_,_,_,r,(.nil _ _ _),(.nil _ _ _),(.nil _ _ _),hd⟩))))))
 refine .skipS [8,3,2,1,0] r r (.seq (.sr (.ks 1 r (.len un99 r r r r (.ks 1 r (.nilS [36,8,3,2,1,0] r r (.condP r hd (fun hb36 hd=>?_) fun hb36 hd=>?_)))))))
 · exact .sr (.build zv32 un32 BI32 .n (by exact trivial) r r (.storeA sz32 r r .z (.t (.t (.t (.t (.t .nil))))) r r (.ks 1 r (.nilS [9,8] r r (.ret (pret results55 (.w ia32 sz32 r .z r (.t r .n)) (.refl _) ⟨(({ Rows:=0,Cols:=0,Start:=([]:List Int),Col:=([]:List Int),Val:=([]:List Int) }:Rows),5),_,_,_,_,_,_,r,(.nil _ _ _),(.nil _ _ _),(.nil _ _ _),hd⟩))))))
 refine .skipS [8,3,2,1,0] r r (.sr (.ks 1 r (.nilS [10,8,3,2,1,0] r r (.seq (.sr (.ks 1 r (.nilS [11,10,8,3,2,1,0] r r (.block (.own0 eEdge 27 ?_)))))))))
 refine .loop hd (fun (s:(List Edge)×Int) c w=>match s with | (s656,s660)=>∃ I_ p657 c658,IH.le I I_∧Ok ⟨135,[],none⟩ [(0,.int .i64 a0),(1,.int .i64 a1),(2,.int .i64 a2),(3,.slice p1 a3.length c2),(8,.pointer (some ⟨b15,0,none⟩)),(10,.slice p657 s656.length c658),(11,.int .i64 s660)] c∧Sym w0 M I I_ [pto b15 (.cells #[.int .i64 0,.int .i64 0,.slice none 0 0,.slice none 0 0,.slice none 0 0] 32 (0,0)),OwnSl eEdge 27 p657 c658 s656] w) (fun c w ho hs=>⟨I,_,_,(.refl _),ho.sub ⟨r,r,r,r,r,r,r,trivial⟩,hs.pick (.c (.s .z) (.c .z .n))⟩) ?_
 rintro ⟨s656,s660⟩ next662 hd c w hst
 obtain ⟨I663,p657,c658,hl664,hok,hsym⟩:=hst
 replace R3:=R3.mono hl664
 refine Cod.at hok hsym (.seq (.sr (.ks 2 r (.len un99 r r r r (.ks 1 r (.nilS [41,11,10,8,3,2,1,0] r r (.condP r hd (fun hb666 hd=>?_) fun hb666 hd=>?_)))))))
 · refine .skipS [11,10,8,3,2,1,0] r r (.seq (.block (.seq (.sr (.ks 2 r ?_)))))
   obtain ⟨h707,x708,hx709,hd⟩:=hd
   obtain ⟨b710,o711,cs712,e713,hC714,hr715⟩:=R3.2 _ _ hx709
   cases hr715
   refine .ixa un99 sz101 r e713 r h707 (idx_lt hx709 h707) r r (.fa un101 r sz3 r (o:=o711+s660.toNat*3) r r r (.ld1 (j:=0) ia3 hC714 r r r r r (.ks 2 r ?_)))
   refine splitP hd (fun hb716 hd=>?_) fun hb716 hd=>?_
   · rw [hb716]
     exact .ks 25 r (.nilS [75,11,10,8,3,2,1,0] r r (.condKT r r (.sr (.build zv32 un32 BI32 .n (by exact trivial) r r (.storeA sz32 r r .z (.t (.t (.t (.t (.t .nil))))) r r (.ks 1 r (.nilS [9,8] r r (.drop (.s .z) (.ret (pret results55 (.w ia32 sz32 r .z r (.t r .n)) hl664 ⟨(({ Rows:=0,Cols:=0,Start:=([]:List Int),Col:=([]:List Int),Val:=([]:List Int) }:Rows),3),_,_,_,_,_,_,r,(.nil _ _ _),(.nil _ _ _),(.nil _ _ _),hd⟩))))))))))
   rw [hb716]
   refine .ks 2 r ?_
   obtain ⟨h717,x718,hx719,hd⟩:=hd
   obtain ⟨b720,o721,cs722,e723,hC724,hr725⟩:=R3.2 _ _ hx719
   cases hr725
   refine .gyes r r r (.ixa un99 sz101 r e723 r h717 (idx_lt hx719 h717) r r (.gyes r r r (.fa un101 r sz3 r (o:=o721+s660.toNat*3) r r r (.gyes r r r (.ld1 (j:=0) ia3 hC724 r r r r r (.ks 4 r ?_))))))
   refine splitP hd (fun hb726 hd=>?_) fun hb726 hd=>?_
   · rw [hb726]
     exact .ks 16 r (.nilS [75,11,10,8,3,2,1,0] r r (.condKT r r (.sr (.build zv32 un32 BI32 .n (by exact trivial) r r (.storeA sz32 r r .z (.t (.t (.t (.t (.t .nil))))) r r (.ks 1 r (.nilS [9,8] r r (.drop (.s .z) (.ret (pret results55 (.w ia32 sz32 r .z r (.t r .n)) hl664 ⟨(({ Rows:=0,Cols:=0,Start:=([]:List Int),Col:=([]:List Int),Val:=([]:List Int) }:Rows),3),_,_,_,_,_,_,r,(.nil _ _ _),(.nil _ _ _),(.nil _ _ _),hd⟩))))))))))
   rw [hb726]
   refine .ks 2 r ?_
   obtain ⟨h727,x728,hx729,hd⟩:=hd
   obtain ⟨b730,o731,cs732,e733,hC734,hr735⟩:=R3.2 _ _ hx729
   cases hr735
   refine .gyes r r r (.ixa un99 sz101 r e733 r h727 (idx_lt hx729 h727) r r (.gyes r r r (.fa un101 r sz3 r (o:=o731+s660.toNat*3+1) r r r (.gyes r r r (.ld1 (j:=1) ia3 hC734 r r r r r (.ks 3 r ?_))))))
   refine splitP hd (fun hb736 hd=>?_) fun hb736 hd=>?_
   · rw [hb736]
     exact .ks 8 r (.nilS [75,11,10,8,3,2,1,0] r r (.condKT r r (.sr (.build zv32 un32 BI32 .n (by exact trivial) r r (.storeA sz32 r r .z (.t (.t (.t (.t (.t .nil))))) r r (.ks 1 r (.nilS [9,8] r r (.drop (.s .z) (.ret (pret results55 (.w ia32 sz32 r .z r (.t r .n)) hl664 ⟨(({ Rows:=0,Cols:=0,Start:=([]:List Int),Col:=([]:List Int),Val:=([]:List Int) }:Rows),3),_,_,_,_,_,_,r,(.nil _ _ _),(.nil _ _ _),(.nil _ _ _),hd⟩))))))))))
   rw [hb736]
   refine .ks 2 r ?_
   obtain ⟨h737,x738,hx739,hd⟩:=hd
   obtain ⟨b740,o741,cs742,e743,hC744,hr745⟩:=R3.2 _ _ hx739
   cases hr745
   refine .gyes r r r (.ixa un99 sz101 r e743 r h737 (idx_lt hx739 h737) r r (.gyes r r r (.fa un101 r sz3 r (o:=o741+s660.toNat*3+1) r r r (.gyes r r r (.ld1 (j:=1) ia3 hC744 r r r r r (.ks 3 r (.nilS [75,11,10,8,3,2,1,0] r r (.condP r hd (fun hb746 hd=>?_) fun hb746 hd=>?_))))))))
   · exact .sr (.build zv32 un32 BI32 .n (by exact trivial) r r (.storeA sz32 r r .z (.t (.t (.t (.t (.t .nil))))) r r (.ks 1 r (.nilS [9,8] r r (.drop (.s .z) (.ret (pret results55 (.w ia32 sz32 r .z r (.t r .n)) hl664 ⟨(({ Rows:=0,Cols:=0,Start:=([]:List Int),Col:=([]:List Int),Val:=([]:List Int) }:Rows),3),_,_,_,_,_,_,r,(.nil _ _ _),(.nil _ _ _),(.nil _ _ _),hd⟩)))))))
   refine .skipS [11,10,8,3,2,1,0] r r (.ownF (.s .z) fun hne747=>?_)
   refine .dr [0,1,2,3,4,5,6,7,8,9,10,11,12,13,14,15,16,17,18] 19 (.fk 3 r ?_)
   obtain ⟨h748,x749,hx750,hd⟩:=hd
   obtain ⟨b751,o752,cs753,e754,hC755,hr756⟩:=R3.2 _ _ hx750
   cases hr756
   refine .g r r r (fun _=>.ixa un99 sz101 r e754 r h748 (idx_lt hx750 h748) r r .mk) (.g r r r (fun _=>.fa un101 r sz3 r (o:=o752+s660.toNat*3) r r r .mk) (.g r r r (fun _=>.ld1 (j:=0) ia3 hC755 r r r r r .mk) (.fk 2 r ?_)))
   obtain ⟨h757,x758,hx759,hd⟩:=hd
   obtain ⟨b760,o761,cs762,e763,hC764,hr765⟩:=R3.2 _ _ hx759
   cases hr765
   refine .g r r r (fun _=>.ixa un99 sz101 r e763 r h757 (idx_lt hx759 h757) r r .mk) (.g r r r (fun _=>.fa un101 r sz3 r (o:=o761+s660.toNat*3+1) r r r .mk) (.g r r r (fun _=>.ld1 (j:=1) ia3 hC764 r r r r r .mk) (.fk 2 r ?_)))
   obtain ⟨h766,x767,hx768,hd⟩:=hd
   obtain ⟨b769,o770,cs771,e772,hC773,hr774⟩:=R3.2 _ _ hx768
   cases hr774
   refine .g r r r (fun _=>.ixa un99 sz101 r e772 r h766 (idx_lt hx768 h766) r r .mk) (.g r r r (fun _=>.fa un101 r sz2 r (o:=o770+s660.toNat*3+2) r r r .mk) (.g r r r (fun _=>.ld1 (j:=2) ia2 hC773 r r r r r .mk) (.g r r r (fun _=>.build zv27 un27 BI27 (.c r r r (.t .nil) (.c r r r (.s (.t .nil)) (.c r r r (.s (.s (.t .nil))) .n))) (by exact ⟨⟨_,_,r,r,r⟩,⟨⟨_,_,r,r,r⟩,⟨⟨_,_,r,r,r⟩,trivial⟩⟩⟩) r r .mk) (.ww r fun ex=>?_))))
   refine .buildSlice 1 un22 sz27 zv27 r r (.c r r r .n) r r fun b775=>?_
   refine .so 3 r r r (.ck 1 r r trivial) (.ww r fun ex=>?_)
   obtain ⟨hl777,hd⟩:=hd
   refine .append (ys:=[({ From:=x749.Row,To:=x758.Col,W:=x767.Val }:Edge)]) 24 (.s (.s .z)) un22 un22 IN27 r r r r r r r r r (.box .z (.one r) r) hl777 r r fun p778 c779=>?_
   exact .so 3 r r r trivial (.e2 19 (.ks 1 r (.nilS [10,11,8,3,2,1,0] r r (.drop (.s .z) (.region (.ks 3 r (.nil' fun c w ho hs=>⟨((s656++([({ From:=x749.Row,To:=x758.Col,W:=x767.Val }:Edge)])),w64 (s660+1)),hd,I663,_,_,hl664,ho.sub ⟨r,r,r,r,r,r,r,trivial⟩,hs.pick (.c (.s .z) (.c .z .n))⟩)))))))
 refine .exitS [10,8,2,1,0] r r (.sr (.ks 2 r (.pub (.s .z) fun I797 hl798 R799=>?_)))
 have le800:=IH.le.trans hl664 hl798
 have hw811:=W_ref05_Combine (I:=I797) R799 hd
 refine .callO call113 r hw811 r r fun v805 I802 l806 hl803 hv804=>?_
 obtain ⟨r801,p807,c808,rfl,rfl,hd⟩:=hv804
 have le812:=IH.le.trans le800 hl803
 replace R799:=R799.mono hl803
 refine .ks 5 r (.nilS [12,10,8,2,1] r r (.seq (.sr (.ks 2 r (.nilS [103,12,10,8,2,1] r r (.condP r hd (fun hb814 hd=>?_) fun hb814 hd=>?_))))))
 · exact .sr (.build zv32 un32 BI32 .n (by exact trivial) r r (.ks 1 r (.storeA sz32 r r (.s .z) (.t (.t (.t (.t (.t .nil))))) r r (.ks 1 r (.nilS [9,8] r r (.drop .z (.ret (pret results55 (.w ia32 sz32 r .z r (.t r .n)) le812 ⟨(({ Rows:=0,Cols:=0,Start:=([]:List Int),Col:=([]:List Int),Val:=([]:List Int) }:Rows),r801.2),_,_,_,_,_,_,r,(.nil _ _ _),(.nil _ _ _),(.nil _ _ _),hd⟩))))))))
 refine .skipS [10,8,2,1] r r (.sr (.ks 1 r (.nilS [13,10,8,2,1] r r (.seq (.sr (.ks 1 r (.nilS [14,13,10,8,2,1] r r (.block (.own0 eTriple 101 ?_)))))))))
 refine .loop hd (fun (s:(List Triple)×Int) c w=>match s with | (s872,s876)=>∃ I_ p873 c874,IH.le I802 I_∧Ok ⟨135,[],none⟩ [(1,.int .i64 a1),(2,.int .i64 a2),(8,.pointer (some ⟨b15,0,none⟩)),(10,.slice p807 r801.1.length c808),(13,.slice p873 s872.length c874),(14,.int .i64 s876)] c∧Sym w0 M I I_ [pto b15 (.cells #[.int .i64 0,.int .i64 0,.slice none 0 0,.slice none 0 0,.slice none 0 0] 32 (0,0)),OwnSl eEdge 27 p807 c808 r801.1,OwnSl eTriple 101 p873 c874 s872] w) (fun c w ho hs=>⟨I802,_,_,(.refl _),ho.sub ⟨r,r,r,r,r,r,trivial⟩,hs.pick (.c (.s (.s .z)) (.c (.s .z) (.c .z .n)))⟩) ?_
 rintro ⟨s872,s876⟩ next878 hd c w hst
 obtain ⟨I879,p873,c874,hl880,hok,hsym⟩:=hst
 have le881:=IH.le.trans le812 hl880
 refine Cod.at hok hsym (.seq (.sr (.ks 2 r (.len un22 r r r r (.ks 1 r (.nilS [109,14,13,10,8,2,1] r r (.condP r hd (fun hb883 hd=>?_) fun hb883 hd=>?_)))))))
 · refine .skipS [14,13,10,8,2,1] r r (.seq (.block (.ownF (.s .z) fun hne884=>?_)))
   refine .ownF (.s (.s .z)) fun hne885=>?_
   refine .dr [0,1,2,3,4,5,6,7,8,9,10,11,12,13,14,15,16,17,18] 19 (.fk 3 r ?_)
   obtain ⟨h886,x887,hx888,hd⟩:=hd
   obtain ⟨b889,e890⟩:=hne884 (idx_ne hx888)
   cases e890
   refine .g r r r (fun _=>.ixa0 un22 sz27 r r h886 (idx_lt hx888 h886) r r .mk) (.g r r r (fun _=>.fa un27 r sz3 r (o:=s876.toNat*3) r r r .mk) (.g r r r (fun _=>.lo1 (j:=0) ia3 (.s .z) hx888 r r r r r .mk) (.fk 2 r ?_)))
   obtain ⟨h891,x892,hx893,hd⟩:=hd
   refine .g r r r (fun _=>.ixa0 un22 sz27 r r h891 (idx_lt hx893 h891) r r .mk) (.g r r r (fun _=>.fa un27 r sz3 r (o:=s876.toNat*3+1) r r r .mk) (.g r r r (fun _=>.lo1 (j:=1) ia3 (.s .z) hx893 r r r r r .mk) (.fk 2 r ?_)))
   obtain ⟨h894,x895,hx896,hd⟩:=hd
   refine .g r r r (fun _=>.ixa0 un22 sz27 r r h894 (idx_lt hx896 h894) r r .mk) (.g r r r (fun _=>.fa un27 r sz2 r (o:=s876.toNat*3+2) r r r .mk) (.g r r r (fun _=>.lo1 (j:=2) ia2 (.s .z) hx896 r r r r r .mk) (.g r r r (fun _=>.build zv101 un101 BI101 (.c r r r (.t .nil) (.c r r r (.s (.t .nil)) (.c r r r (.s (.s (.t .nil))) .n))) (by exact ⟨⟨_,_,r,r,r⟩,⟨⟨_,_,r,r,r⟩,⟨⟨_,_,r,r,r⟩,trivial⟩⟩⟩) r r .mk) (.ww r fun ex=>?_))))
   refine .buildSlice 1 un99 sz101 zv101 r r (.c r r r .n) r r fun b897=>?_
   refine .so 4 r r r (.ck 1 r r trivial) (.ww r fun ex=>?_)
   obtain ⟨hl899,hd⟩:=hd
   refine .append (ys:=[({ Row:=x887.From,Col:=x892.To,Val:=x895.W }:Triple)]) 24 (.s (.s (.s .z))) un99 un99 IN101 r r r r r r r r r (.box .z (.one r) r) hl899 r r fun p900 c901=>?_
   exact .so 4 r r r trivial (.e2 19 (.ks 1 r (.nilS [13,14,10,8,2,1] r r (.drop (.s .z) (.region (.ks 3 r (.nil' fun c w ho hs=>⟨((s872++([({ Row:=x887.From,Col:=x892.To,Val:=x895.W }:Triple)])),w64 (s876+1)),hd,I879,_,_,hl880,ho.sub ⟨r,r,r,r,r,r,trivial⟩,hs.pick (.c (.s .z) (.c (.s .z) (.c .z .n)))⟩)))))))
 refine .exitS [13,8,2,1] r r (.drop (.s .z) (.sr (.ks 3 r (.pub (.s .z) fun I903 hl904 R905=>?_))))
 have le906:=IH.le.trans le881 hl904
 have le907:=IH.le.trans hl880 hl904
 have hw923:=W_ref07_built (I:=I903) R905 hd
 refine .call call51 r hw923 r r fun v912 I909 hl910 hv911=>?_
 obtain ⟨r908,p914,c915,p917,c918,p920,c921,rfl,R916,R919,R922,hd⟩:=hv911
 have le924:=IH.le.trans le906 hl910
 have le925:=IH.le.trans le907 hl910
 replace R905:=R905.mono hl910
 exact .storeA sz32 r r .z (.t (.t (.t (.t (.t .nil))))) r r (.ks 1 r (.nilS [9,8] r r (.ret (pret results55 (.w ia32 sz32 r .z r (.t r .n)) le924 ⟨(r908,0),_,_,_,_,_,_,r,R916,R919,R922,hd⟩))))
theorem W_top_ones {I:IH} {a0:Int} {a1:Int} {Q:Rows→Prop}  (hd:top_ones a0 a1 Q) :
  PFun prog 19 [.int .i64 a0,.int .i64 a1] I (fun I_ v=>∃ r p1 c2 p4 c5 p7 c8,v=.agg #[.int .i64 r.Rows,.int .i64 r.Cols,.slice p1 r.Start.length c2,.slice p4 r.Col.length c5,.slice p7 r.Val.length c8]∧RepSl eI64 I_ p1 c2 r.Start∧RepSl eI64 I_ p4 c5 r.Col∧RepSl eI64 I_ p7 c8 r.Val∧Q r):=by
 refine Fun.enter func19 r ntmps19 r (.c (.c .n)) fun w0 M=>?_
 refine .sr (.allocA zv32 r r fun b12=>?_)
 refine .nilS [4,1,0] r r (.sr (.ks 1 r (.nilS [5,4,1,0] r r (.seq (.sr (.ks 1 r (.nilS [6,5,4,1,0] r r (.block (.own0 eTriple 101 ?_)))))))))
 refine .loop hd (fun (s:(List Triple)×Int) c w=>match s with | (s303,s307)=>∃ I_ p304 c305,IH.le I I_∧Ok ⟨34,[],none⟩ [(0,.int .i64 a0),(1,.int .i64 a1),(4,.pointer (some ⟨b12,0,none⟩)),(5,.slice p304 s303.length c305),(6,.int .i64 s307)] c∧Sym w0 M I I_ [pto b12 (.cells #[.int .i64 0,.int .i64 0,.slice none 0 0,.slice none 0 0,.slice none 0 0] 32 (0,0)),OwnSl eTriple 101 p304 c305 s303] w) (fun c w ho hs=>⟨I,_,_,(.refl _),ho.sub ⟨r,r,r,r,r,trivial⟩,hs.pick (.c (.s .z) (.c .z .n))⟩) ?_
 rintro ⟨s303,s307⟩ next309 hd c w hst
 obtain ⟨I310,p304,c305,hl311,hok,hsym⟩:=hst
 refine Cod.at hok hsym (.seq (.sr (.ks 3 r (.nilS [12,6,5,4,1,0] r r (.condP r hd (fun hb313 hd=>?_) fun hb313 hd=>?_)))))
 · refine .skipS [6,5,4,1,0] r r (.seq (.block (.sr (.ks 1 r (.nilS [7,6,5,4,1,0] r r (.block (.loop hd (fun (s:(List Triple)×Int) c w=>match s with | (s345,s349)=>∃ I_ p346 c347,IH.le I310 I_∧Ok ⟨34,[],none⟩ [(0,.int .i64 a0),(1,.int .i64 a1),(4,.pointer (some ⟨b12,0,none⟩)),(5,.slice p346 s345.length c347),(6,.int .i64 s307),(7,.int .i64 s349)] c∧Sym w0 M I I_ [pto b12 (.cells #[.int .i64 0,.int .i64 0,.slice none 0 0,.slice none 0 0,.slice none 0 0] 32 (0,0)),OwnSl eTriple 101 p346 c347 s345] w) (fun c w ho hs=>⟨I310,_,_,(.refl _),ho.sub ⟨r,r,r,r,r,r,trivial⟩,hs.pick (.c .z (.c .z .n))⟩) ?_)))))))
   rintro ⟨s345,s349⟩ next350 hd c w hst
   obtain ⟨I351,p346,c347,hl352,hok,hsym⟩:=hst
   have le353:=IH.le.trans hl311 hl352
   refine Cod.at hok hsym (.seq (.sr (.ks 3 r (.nilS [17,7,6,5,4,1,0] r r (.condP r hd (fun hb355 hd=>?_) fun hb355 hd=>?_)))))
   · refine .skipS [7,6,5,4,1,0] r r (.seq (.block (.region (.ks 3 r (.build zv101 un101 BI101 (.c r r r (.t .nil) (.c r r r (.s (.t .nil)) (.c r r r (.s (.s (.t .nil))) .n))) (by exact ⟨⟨_,_,r,r,r⟩,⟨⟨_,_,r,r,r⟩,⟨⟨_,_,r,r,r⟩,trivial⟩⟩⟩) r r (.buildSlice 1 un99 sz101 zv101 r r (.c r r r .n) r r fun b356=>?_))))))
     obtain ⟨hl358,hd⟩:=hd
     refine .append (ys:=[({ Row:=s307,Col:=s349,Val:=1 }:Triple)]) 24 (.s (.s .z)) un99 un99 IN101 r r r r r r r r r (.box .z (.one r) r) hl358 r r fun p359 c360=>?_
     exact .ks 1 r (.nilS [5,7,6,4,1,0] r r (.drop (.s .z) (.region (.ks 3 r (.nil' fun c w ho hs=>⟨((s345++([({ Row:=s307,Col:=s349,Val:=1 }:Triple)])),w64 (s349+1)),hd,I351,_,_,hl352,ho.sub ⟨r,r,r,r,r,r,trivial⟩,hs.pick (.c (.s .z) (.c .z .n))⟩)))))
   exact .exitS [6,5,4,1,0] r r (.region (.ks 3 r (.nil' fun c w ho hs=>⟨(s345,w64 (s307+1)),hd,I351,_,_,le353,ho.sub ⟨r,r,r,r,r,trivial⟩,hs.pick (.c .z (.c .z .n))⟩)))
 refine .exitS [5,4,1,0] r r (.sr (.ks 3 r (.pub (.s .z) fun I362 hl363 R364=>?_)))
 have le365:=IH.le.trans hl311 hl363
 have hw381:=W_ref07_Of (I:=I362) R364 hd
 refine .call call55 r hw381 r r fun v370 I367 hl368 hv369=>?_
 obtain ⟨r366,p372,c373,p375,c376,p378,c379,rfl,R374,R377,R380,hd⟩:=hv369
 have le382:=IH.le.trans le365 hl368
 replace R364:=R364.mono hl368
 refine .ks 3 r (.allocA zv32 r r fun b383=>?_)
 exact .storeA sz32 r r .z (.t (.t (.t (.t (.t .nil))))) r r (.ks 1 r (.nilS [8,4] r r (.sr (.loadW ia32 sz32 r .z r r r (.storeA sz32 r r (.s .z) (.t (.t (.t (.t (.t .nil))))) r r (.nilS [4] r r (.drop .z (.ret (pret results19 (.w ia32 sz32 r .z r .n) le382 ⟨r366.1,_,_,_,_,_,_,r,R374,R377,R380,hd⟩)))))))))
theorem W_ref09_Right {I:IH} {a0:Vec} {p1:Option Addr} {c2:Nat} {Q:Bool→Prop} (R3:RepSl eItem I p1 c2 a0.Items) (hd:ref09_Right a0 Q) :
  PFun prog 123 [.agg #[.int .i64 a0.N,.slice p1 a0.Items.length c2]] I (fun _=>o4_ Q):=by
 refine Fun.enter func123 r ntmps123 r (.c .n) fun w0 M=>?_
 refine .sr (.boxA r r r fun b6=>?_)
 refine .ks 1 r (.nilS [1] r r (.seq (.sr (.fa un54 r sz3 r (o:=0) r r r (.load1 ia3 r .z r r r (.ks 2 r ?_))))))
 refine splitP hd (fun hb10 hd=>?_) fun hb10 hd=>?_
 · rw [hb10]
   exact .ks 4 r (.nilS [11,1] r r (.condKT r r (.sr (.ks 1 r (.nilS [2] r r (.drop .z (.ret (pret results123 (.t r .n) (.refl _) ⟨false,r,hd⟩))))))))
 rw [hb10]
 refine .gyes r r r (.fa un54 r sz3 r (o:=0) r r r (.gyes r r r (.load1 ia3 r .z r r r (.ks 2 r (.nilS [11,1] r r (.condP r hd (fun hb11 hd=>?_) fun hb11 hd=>?_))))))
 · exact .sr (.ks 1 r (.nilS [2] r r (.drop .z (.ret (pret results123 (.t r .n) (.refl _) ⟨false,r,hd⟩)))))
 refine .skipS [1] r r (.seq (.sr (.ks 1 r (.nilS [3,1] r r (.block (.loop hd (fun (s79:Int) c w=>∃ I_,IH.le I I_∧Ok ⟨57,[],none⟩ [(1,.pointer (some ⟨b6,0,none⟩)),(3,.int .i64 s79)] c∧Sym w0 M I I_ [pto b6 (.cells #[.int .i64 a0.N,.slice p1 a0.Items.length c2] 54 (0,0))] w) (fun c w ho hs=>⟨I,(.refl _),ho.sub ⟨r,r,trivial⟩,hs.pick (.c .z .n)⟩) ?_))))))
 rintro s79 next80 hd c w hst
 obtain ⟨I81,hl82,hok,hsym⟩:=hst
 replace R3:=R3.mono hl82
 refine Cod.at hok hsym (.seq (.sr (.ks 1 r (.fa un54 r sz52 r (o:=1) r r r (.load1 ia52 r .z r r r (.len un52 r r r r (.ks 1 r (.nilS [16,3,1] r r (.condP r hd (fun hb84 hd=>?_) fun hb84 hd=>?_)))))))))
 · refine .skipS [3,1] r r (.seq (.block (.seq (.dr [0,1,2,3,4,5,6,7,8,9,10,11,12,13,14,15,16,17,18,19,20,21,22,23,24,25,26,27,28,29,30,31,32,33,34,35,36,37] 38 (.g r r r (fun _=>.fa un54 r sz52 r (o:=1) r r r .mk) (.g r r r (fun _=>.load1 ia52 r .z r r r .mk) (.fk 1 r ?_)))))))
   obtain ⟨h85,x86,hx87,hd⟩:=hd
   obtain ⟨b88,o89,cs90,e91,hC92,hr93⟩:=R3.2 _ _ hx87
   cases hr93
   refine .g r r r (fun _=>.ixa un52 sz51 r e91 r h85 (idx_lt hx87 h85) r r .mk) (.g r r r (fun _=>.fa un51 r sz3 r (o:=o89+s79.toNat*2) r r r .mk) (.g r r r (fun _=>.ld1 (j:=0) ia3 hC92 r r r r r .mk) (.fk 2 r ?_)))
   refine splitP hd (fun hb94 hd=>?_) fun hb94 hd=>?_
   · rw [hb94]
     exact .fk 30 r (.e2 38 (.nilS [56,3,1] r r (.condKT r r (.sr (.ks 1 r (.nilS [2] r r (.drop .z (.ret (pret results123 (.t r .n) hl82 ⟨false,r,hd⟩)))))))))
   rw [hb94]
   refine .g r r r (fun _=>.gyes r r r (.fa un54 r sz52 r (o:=1) r r r .mk)) (.g r r r (fun _=>.gyes r r r (.load1 ia52 r .z r r r .mk)) (.fk 1 r ?_))
   obtain ⟨h95,x96,hx97,hd⟩:=hd
   obtain ⟨b98,o99,cs100,e101,hC102,hr103⟩:=R3.2 _ _ hx97
   cases hr103
   refine .g r r r (fun _=>.gyes r r r (.ixa un52 sz51 r e101 r h95 (idx_lt hx97 h95) r r .mk)) (.g r r r (fun _=>.gyes r r r (.fa un51 r sz3 r (o:=o99+s79.toNat*2) r r r .mk)) (.g r r r (fun _=>.gyes r r r (.ld1 (j:=0) ia3 hC102 r r r r r .mk)) (.g r r r (fun _=>.gyes r r r (.fa un54 r sz3 r (o:=0) r r r .mk)) (.g r r r (fun _=>.gyes r r r (.load1 ia3 r .z r r r .mk)) (.fk 3 r ?_)))))
   refine splitP hd (fun hb104 hd=>?_) fun hb104 hd=>?_
   · rw [hb104]
     exact .fk 19 r (.e2 38 (.nilS [56,3,1] r r (.condKT r r (.sr (.ks 1 r (.nilS [2] r r (.drop .z (.ret (pret results123 (.t r .n) hl82 ⟨false,r,hd⟩)))))))))
   rw [hb104]
   refine .fk 3 r ?_
   refine splitP hd (fun hb105 hd=>?_) fun hb105 hd=>?_
   · rw [hb105]
     refine .g r r r (fun _=>.gyes r r r (.fa un54 r sz52 r (o:=1) r r r .mk)) (.g r r r (fun _=>.gyes r r r (.load1 ia52 r .z r r r .mk)) (.fk 1 r ?_))
     obtain ⟨h106,x107,hx108,hd⟩:=hd
     obtain ⟨b109,o110,cs111,e112,hC113,hr114⟩:=R3.2 _ _ hx108
     cases hr114
     refine .g r r r (fun _=>.gyes r r r (.ixa un52 sz51 r e112 r h106 (idx_lt hx108 h106) r r .mk)) (.g r r r (fun _=>.gyes r r r (.fa un51 r sz3 r (o:=o110+s79.toNat*2) r r r .mk)) (.g r r r (fun _=>.gyes r r r (.ld1 (j:=0) ia3 hC113 r r r r r .mk)) (.g r r r (fun _=>.gyes r r r (.fa un54 r sz52 r (o:=1) r r r .mk)) (.g r r r (fun _=>.gyes r r r (.load1 ia52 r .z r r r .mk)) (.fk 2 r ?_)))))
     obtain ⟨h115,x116,hx117,hd⟩:=hd
     obtain ⟨b118,o119,cs120,e121,hC122,hr123⟩:=R3.2 _ _ hx117
     cases hr123
     refine .g r r r (fun _=>.gyes r r r (.ixa un52 sz51 r e121 r h115 (idx_lt hx117 h115) r r .mk)) (.g r r r (fun _=>.gyes r r r (.fa un51 r sz3 r (o:=o119+(w64 (s79 - 1)).toNat*2) r r r .mk)) (.g r r r (fun _=>.gyes r r r (.ld1 (j:=0) ia3 hC122 r r r r r .mk)) (.fk 3 r (.e2 38 (.nilS [56,3,1] r r (.condP r hd (fun hb124 hd=>?_) fun hb124 hd=>?_))))))
     · exact .sr (.ks 1 r (.nilS [2] r r (.drop .z (.ret (pret results123 (.t r .n) hl82 ⟨false,r,hd⟩)))))
     exact .skipS [3,1] r r (.region (.ks 3 r (.nil' fun c w ho hs=>⟨(w64 (s79+1)),hd,I81,hl82,ho.sub ⟨r,r,trivial⟩,hs.pick (.c .z .n)⟩)))
   rw [hb105]
   exact .fk 16 r (.e2 38 (.nilS [56,3,1] r r (.condKF r r (.skipS [3,1] r r (.region (.ks 3 r (.nil' fun c w ho hs=>⟨(w64 (s79+1)),hd,I81,hl82,ho.sub ⟨r,r,trivial⟩,hs.pick (.c .z .n)⟩)))))))
 exact .exitS [] r r (.drop .z (.sr (.ks 1 r (.nilS [2] r r (.ret (pret results123 (.t r .n) hl82 ⟨true,r,hd⟩))))))
theorem W_ref09_Sure {I:IH} {a0:Vec} {p1:Option Addr} {c2:Nat} {Q:Vec→Prop} (R3:RepSl eItem I p1 c2 a0.Items) (hd:ref09_Sure a0 Q) :
  PFun prog 60 [.agg #[.int .i64 a0.N,.slice p1 a0.Items.length c2]] I (o19_ Q):=by
 refine Fun.enter func60 r ntmps60 r (.c .n) fun w0 M=>?_
 refine .sr (.boxA r r r fun b11=>?_)
 refine .allocA zv54 r r fun b13=>?_
 refine .nilS [2,1] r r (.seq (.sr (.loadW ia54 sz54 r (.s .z) r r r ?_)))
 have hw16:=W_ref09_Right (I:=I) R3 hd
 refine .callP call123 r hw16 r r fun v17 hv18=>?_
 obtain ⟨r15,rfl,hd⟩:=hv18
 refine .nilS [4,2,1] r r (.condP r hd (fun hb19 hd=>?_) fun hb19 hd=>?_)
 · exact .sr (.loadW ia54 sz54 r (.s .z) r r r (.storeA sz54 r r .z (.t (.t .nil)) r r (.nilS [2] r r (.drop (.s .z) (.ret (pret results60 (.w ia54 sz54 r .z r .n) (.refl _) ⟨a0,_,_,r,R3,hd⟩))))))
 exact .skipS [2] r r (.drop (.s .z) (.sr (.build zv54 un54 BI54 .n (by exact trivial) r r (.storeA sz54 r r .z (.t (.t .nil)) r r (.nilS [2] r r (.ret (pret results60 (.w ia54 sz54 r .z r .n) (.refl _) ⟨({ N:=0,Items:=([]:List Item) }:Vec),_,_,r,(.nil _ _ _),hd⟩)))))))
theorem W_ref03_words {I:IH} {a0:Int} {Q:Int→Prop}  (hd:ref03_words a0 Q) :
  PFun prog 190 [.int .i64 a0] I (fun _=>o0_ Q):=by
 refine Fun.enter func190 r ntmps190 r (.c .n) fun w0 M=>?_
 refine .sr (.ks 1 r (.nilS [0] r r (.seq ?_)))
 refine Cod.joinQ (σ:=Int) hd (fun (s3:Int) c w=>∃ I_,IH.le I I_∧Ok ⟨10,[],none⟩ [(0,.int .i64 s3)] c∧Sym w0 M I I_ [] w) (fun k4 hd=>?_) ?_
 · skip
   refine .sr (.ks 2 r (.nilS [4,0] r r (.condP r hd (fun hb5 hd=>?_) fun hb5 hd=>?_)))
   · exact .region (.ks 1 r (.nil' fun c w ho hs=>⟨4096,hd,I,(.refl _),ho.sub ⟨r,trivial⟩,hs.pick .n⟩))
   exact .skip' fun c w ho hs=>⟨a0,hd,I,(.refl _),ho.sub ⟨r,trivial⟩,hs.pick .n⟩
 rintro s3 hd c w hst
 obtain ⟨I6,hl7,hok,hsym⟩:=hst
 refine Cod.at hok hsym (.seq (.sr (.ks 2 r (.nilS [6,0] r r (.condP r hd (fun hb8 hd=>?_) fun hb8 hd=>?_)))))
 · exact .sr (.ks 1 r (.nilS [2] r r (.ret (pret results190 (.t r .n) hl7 ⟨0,r,hd⟩))))
 exact .skipS [0] r r (.sr (.ks 2 r (.quo r r (by decide) r r (.ks 1 r (.nilS [2] r r (.ret (pret results190 (.t r .n) hl7 ⟨(w64 ((w64 (s3+63)).tdiv 64)),r,hd⟩)))))))
theorem W_ref03_New {I:IH} {a0:Int} {Q:(List Int)→Prop}  (hd:ref03_New a0 Q) :
  PFun prog 124 [.int .i64 a0] I (fun I_ v=>∃ r p1 c2,v=.slice p1 r.length c2∧RepSl eU64 I_ p1 c2 r∧Q r):=by
 refine Fun.enter func124 r ntmps124 r (.c .n) fun w0 M=>?_
 refine .sr (.ks 1 r (.nilS [0] r r (.sr (.ks 1 r ?_))))
 have hw5:=W_ref03_words (I:=I) hd
 refine .callP call190 r hw5 r r fun v6 hv7=>?_
 obtain ⟨r4,rfl,hd⟩:=hv7
 obtain ⟨h8,h9,hd⟩:=hd
 refine .make (El:=eU64) (zv:=0) 8 un40 IN125 r r r r r r h8 h9 r r r fun b10=>?_
 refine .ks 1 r (.nilS [2] r r (.pub .z fun I13 hl14 R15=>?_))
 exact .ret (pret results124 (.t r .n) hl14 ⟨(List.replicate r4.toNat 0),_,_,r,R15,hd⟩)
theorem W_ref10_New {I:IH} {a0:Int} {Q:Dense→Prop}  (hd:ref10_New a0 Q) :
  OFun prog 61 [.int .i64 a0] I (o15_ Q):=by
 refine Fun.enter func61 r ntmps61 r (.c .n) fun w0 M=>?_
 refine .sr (.allocA zv58 r r fun b9=>?_)
 refine .nilS [2,0] r r (.seq (.sr (.ks 3 r ?_)))
 refine splitP hd (fun hb11 hd=>?_) fun hb11 hd=>?_
 · rw [hb11]
   refine .ks 3 r (.nilS [8,2,0] r r (.condKT r r (.region (.ks 1 r (.nilS [0,2] r r (.seq (.dr [0,1,3,4,2,999,5] 6 (.fk 3 r ?_))))))))
   obtain ⟨h13,h14,hd⟩:=hd
   refine .a (fun b=>.slice (some ⟨b,0,none⟩) (List.replicate (Int.toNat 0) (0:Int)).length (Int.toNat 0)) (fun b=>OwnSl eI64 2 (some ⟨b,0,none⟩) (Int.toNat 0) (List.replicate (Int.toNat 0) (0:Int))) r r r r (fun _ L hL ex=>.make (El:=eI64) (zv:=0) 8 un30 IN2 r r r r r r h13 h14 r r r fun b=>.mk (val:=fun b=>.slice (some ⟨b,0,none⟩) (List.replicate (Int.toNat 0) (0:Int)).length (Int.toNat 0)) (atom:=fun b=>OwnSl eI64 2 (some ⟨b,0,none⟩) (Int.toNat 0) (List.replicate (Int.toNat 0) (0:Int))) hL b) (.ww r fun ex=>?_)
   have hw24:=W_ref03_New (I:=I) hd
   refine .call call124 r hw24 r r fun v19 I16 hl17 hv18=>?_
   obtain ⟨r15,p21,c22,rfl,R23,hd⟩:=hv18
   exact .so 1 r r r (.ck 2 r r trivial) (.b r fun b25=>DrawD.nop (.g r r r (fun _=>.build zv58 un58 BI58 (.c r r r (.t .nil) (.c r r r (.s (.t .nil)) (.c r r r (.s (.s (.t .nil))) .n))) (by exact ⟨⟨_,_,r,r,r⟩,⟨⟨_,_,r,r,r⟩,⟨⟨_,_,r,r,r⟩,trivial⟩⟩⟩) r r .mk) (.e2 6 (.storeA sz58 r r .z (.t (.t (.t .nil))) r r (.nilS [2] r r (.ret (oret results61 (.w ia58 sz58 r .z r .n) hl17 (.c (.s .z) .n) ⟨({ N:=0,Has:=r15,Vals:=(List.replicate (Int.toNat 0) (0:Int)) }:Dense),_,_,_,_,r,R23,r,hd⟩)))))))
 rw [hb11]
 refine .ks 3 r (.nilS [8,2,0] r r (.condP r hd (fun hb26 hd=>?_) fun hb26 hd=>?_))
 · refine .region (.ks 1 r (.nilS [0,2] r r (.seq (.dr [0,1,3,4,2,999,5] 6 (.fk 3 r ?_)))))
   obtain ⟨h28,h29,hd⟩:=hd
   refine .a (fun b=>.slice (some ⟨b,0,none⟩) (List.replicate (Int.toNat 0) (0:Int)).length (Int.toNat 0)) (fun b=>OwnSl eI64 2 (some ⟨b,0,none⟩) (Int.toNat 0) (List.replicate (Int.toNat 0) (0:Int))) r r r r (fun _ L hL ex=>.make (El:=eI64) (zv:=0) 8 un30 IN2 r r r r r r h28 h29 r r r fun b=>.mk (val:=fun b=>.slice (some ⟨b,0,none⟩) (List.replicate (Int.toNat 0) (0:Int)).length (Int.toNat 0)) (atom:=fun b=>OwnSl eI64 2 (some ⟨b,0,none⟩) (Int.toNat 0) (List.replicate (Int.toNat 0) (0:Int))) hL b) (.ww r fun ex=>?_)
   have hw39:=W_ref03_New (I:=I) hd
   refine .call call124 r hw39 r r fun v34 I31 hl32 hv33=>?_
   obtain ⟨r30,p36,c37,rfl,R38,hd⟩:=hv33
   exact .so 1 r r r (.ck 2 r r trivial) (.b r fun b40=>DrawD.nop (.g r r r (fun _=>.build zv58 un58 BI58 (.c r r r (.t .nil) (.c r r r (.s (.t .nil)) (.c r r r (.s (.s (.t .nil))) .n))) (by exact ⟨⟨_,_,r,r,r⟩,⟨⟨_,_,r,r,r⟩,⟨⟨_,_,r,r,r⟩,trivial⟩⟩⟩) r r .mk) (.e2 6 (.storeA sz58 r r .z (.t (.t (.t .nil))) r r (.nilS [2] r r (.ret (oret results61 (.w ia58 sz58 r .z r .n) hl32 (.c (.s .z) .n) ⟨({ N:=0,Has:=r30,Vals:=(List.replicate (Int.toNat 0) (0:Int)) }:Dense),_,_,_,_,r,R38,r,hd⟩)))))))
 refine .skipS [2,0] r r (.seq (.dr [0,1,3,4,2,999,5] 6 (.fk 3 r ?_)))
 obtain ⟨h42,h43,hd⟩:=hd
 refine .a (fun b=>.slice (some ⟨b,0,none⟩) (List.replicate a0.toNat (0:Int)).length a0.toNat) (fun b=>OwnSl eI64 2 (some ⟨b,0,none⟩) a0.toNat (List.replicate a0.toNat (0:Int))) r r r r (fun _ L hL ex=>.make (El:=eI64) (zv:=0) 8 un30 IN2 r r r r r r h42 h43 r r r fun b=>.mk (val:=fun b=>.slice (some ⟨b,0,none⟩) (List.replicate a0.toNat (0:Int)).length a0.toNat) (atom:=fun b=>OwnSl eI64 2 (some ⟨b,0,none⟩) a0.toNat (List.replicate a0.toNat (0:Int))) hL b) (.ww r fun ex=>?_)
 have hw53:=W_ref03_New (I:=I) hd
 refine .call call124 r hw53 r r fun v48 I45 hl46 hv47=>?_
 obtain ⟨r44,p50,c51,rfl,R52,hd⟩:=hv47
 exact .so 1 r r r (.ck 2 r r trivial) (.b r fun b54=>DrawD.nop (.g r r r (fun _=>.build zv58 un58 BI58 (.c r r r (.t .nil) (.c r r r (.s (.t .nil)) (.c r r r (.s (.s (.t .nil))) .n))) (by exact ⟨⟨_,_,r,r,r⟩,⟨⟨_,_,r,r,r⟩,⟨⟨_,_,r,r,r⟩,trivial⟩⟩⟩) r r .mk) (.e2 6 (.storeA sz58 r r .z (.t (.t (.t .nil))) r r (.nilS [2] r r (.ret (oret results61 (.w ia58 sz58 r .z r .n) hl46 (.c (.s .z) .n) ⟨({ N:=a0,Has:=r44,Vals:=(List.replicate a0.toNat (0:Int)) }:Dense),_,_,_,_,r,R52,r,hd⟩)))))))
theorem W_ref03_set {I:IH} {a0:List Int} {a1:Int} {a2:Bool} {p1:Option Addr} {c2:Nat} {Q:(List Int)→Prop} (R3:RepSl eU64 I p1 c2 a0) (hd:ref03_set a0 a1 a2 Q) :
  PFun prog 191 [.slice p1 a0.length c2,.int .i64 a1,.bool a2] I (o20_ Q):=by
 refine Fun.enter func191 r ntmps191 r (.c (.c (.c .n))) fun w0 M=>?_
 refine .sr (.ks 1 r (.nilS [2,1,0] r r (.sr (.ks 1 r (.nilS [7,2,1,0] r r (.sr (.ks 2 r (.own0 eU64 125 ?_))))))))
 obtain ⟨hl13,hd⟩:=hd
 refine .append (ys:=a0) 8 .z un40 un40 IN125 r r r r r r r r r (.imm R3 r) hl13 r r fun p14 c15=>?_
 refine .ks 1 r (.nilS [7,2,1,0] r r (.seq (.sr (.ks 3 r ?_))))
 refine splitP hd (fun hb19 hd=>?_) fun hb19 hd=>?_
 · rw [hb19]
   refine .ks 6 r (.nilS [20,7,2,1] r r (.condKT r r (.sr (.ks 2 r (.nilS [6] r r (.pub .z fun I20 hl21 R22=>?_))))))
   exact .ret (pret results191 (.t r .n) hl21 ⟨(([]:List Int)++a0),_,_,r,R22,hd⟩)
 rw [hb19]
 refine .ks 1 r (.gyes r r r (.quo r r (by decide) r r (.ks 1 r (.gyes r r r (.len un40 r r r r (.ks 2 r (.nilS [20,7,2,1] r r (.condP r hd (fun hb23 hd=>?_) fun hb23 hd=>?_))))))))
 · refine .sr (.ks 2 r (.nilS [6] r r (.pub .z fun I24 hl25 R26=>?_)))
   exact .ret (pret results191 (.t r .n) hl25 ⟨(([]:List Int)++a0),_,_,r,R26,hd⟩)
 refine .skipS [7,2,1] r r (.sr (.ks 1 r (.rem r r (by decide) r r (.conv un3 underlying201 r r r ?_))))
 obtain ⟨hz28,hd⟩:=hd
 refine .shl' r r hz28 r r (.ks 1 r (.nilS [8,7,2,1] r r (.seq (.sr (.ks 1 r (.nilS [26,8,7,1] r r (.condP r hd (fun hb29 hd=>?_) fun hb29 hd=>?_)))))))
 · refine .region (.ks 2 r (.quo r r (by decide) r r (.ks 2 r (.quo r r (by decide) r r ?_))))
   obtain ⟨h30,x31,hx32,hd⟩:=hd
   refine .ownNe .z (idx_ne hx32) fun b33 e34=>?_
   cases e34
   refine .ixa0 un40 sz125 r r h30 (idx_lt hx32 h30) r r (.lo1 (j:=0) ia125 .z hx32 r r r r r (.ks 2 r ?_))
   obtain ⟨h35,x36,hx37,hd⟩:=hd
   refine .ixa0 un40 sz125 r r h35 (idx_lt hx37 h35) r r (.stO1 (j:=0) (v':=(bor .u64 x31 (shl .u64 1 (IntKind.wrap .u64 (a1.tmod 64))))) sz125 .z hx37 r r r (.t .nil) r (.sub (E':=[(1,_),(7,.slice (some ⟨b33,0,none⟩) ((([]:List Int)++a0).set ((w64 (a1.tdiv 64)).toNat) (bor .u64 x31 (shl .u64 1 (IntKind.wrap .u64 (a1.tmod 64))))).length c15),(8,_),(26,_),(27,.slice (some ⟨b33,0,none⟩) ((([]:List Int)++a0).set ((w64 (a1.tdiv 64)).toNat) (bor .u64 x31 (shl .u64 1 (IntKind.wrap .u64 (a1.tmod 64))))).length c15),(28,_),(29,_),(30,.slice (some ⟨b33,0,none⟩) ((([]:List Int)++a0).set ((w64 (a1.tdiv 64)).toNat) (bor .u64 x31 (shl .u64 1 (IntKind.wrap .u64 (a1.tmod 64))))).length c15),(31,_),(32,_),(33,_),(34,_),(35,_),(36,_),(37,_)]) ⟨r,(by simp only [List.length_set]; rfl),r,r,(by simp only [List.length_set]; rfl),r,r,(by simp only [List.length_set]; rfl),r,r,r,r,r,r,r,trivial⟩ (.nilS [7] r r (.sr (.ks 2 r (.nilS [6] r r (.pub .z fun I38 hl39 R40=>?_)))))))
   exact .ret (pret results191 (.t r .n) hl39 ⟨((([]:List Int)++a0).set ((w64 (a1.tdiv 64)).toNat) (bor .u64 x31 (shl .u64 1 (IntKind.wrap .u64 (a1.tmod 64))))),_,_,r,R40,hd⟩)
 refine .region (.ks 2 r (.quo r r (by decide) r r (.ks 2 r (.quo r r (by decide) r r ?_))))
 obtain ⟨h41,x42,hx43,hd⟩:=hd
 refine .ownNe .z (idx_ne hx43) fun b44 e45=>?_
 cases e45
 refine .ixa0 un40 sz125 r r h41 (idx_lt hx43 h41) r r (.lo1 (j:=0) ia125 .z hx43 r r r r r (.ks 2 r ?_))
 obtain ⟨h46,x47,hx48,hd⟩:=hd
 refine .ixa0 un40 sz125 r r h46 (idx_lt hx48 h46) r r (.stO1 (j:=0) (v':=(bandn .u64 x42 (shl .u64 1 (IntKind.wrap .u64 (a1.tmod 64))))) sz125 .z hx48 r r r (.t .nil) r (.sub (E':=[(1,_),(7,.slice (some ⟨b44,0,none⟩) ((([]:List Int)++a0).set ((w64 (a1.tdiv 64)).toNat) (bandn .u64 x42 (shl .u64 1 (IntKind.wrap .u64 (a1.tmod 64))))).length c15),(8,_),(26,_),(38,.slice (some ⟨b44,0,none⟩) ((([]:List Int)++a0).set ((w64 (a1.tdiv 64)).toNat) (bandn .u64 x42 (shl .u64 1 (IntKind.wrap .u64 (a1.tmod 64))))).length c15),(39,_),(40,_),(41,.slice (some ⟨b44,0,none⟩) ((([]:List Int)++a0).set ((w64 (a1.tdiv 64)).toNat) (bandn .u64 x42 (shl .u64 1 (IntKind.wrap .u64 (a1.tmod 64))))).length c15),(42,_),(43,_),(44,_),(45,_),(46,_),(47,_),(48,_)]) ⟨r,(by simp only [List.length_set]; rfl),r,r,(by simp only [List.length_set]; rfl),r,r,(by simp only [List.length_set]; rfl),r,r,r,r,r,r,r,trivial⟩ (.nilS [7] r r (.sr (.ks 2 r (.nilS [6] r r (.pub .z fun I49 hl50 R51=>?_)))))))
 exact .ret (pret results191 (.t r .n) hl50 ⟨((([]:List Int)++a0).set ((w64 (a1.tdiv 64)).toNat) (bandn .u64 x42 (shl .u64 1 (IntKind.wrap .u64 (a1.tmod 64))))),_,_,r,R51,hd⟩)
theorem W_ref03_Put {I:IH} {a0:List Int} {a1:Int} {p1:Option Addr} {c2:Nat} {Q:(List Int)→Prop} (R3:RepSl eU64 I p1 c2 a0) (hd:ref03_Put a0 a1 Q) :
  PFun prog 125 [.slice p1 a0.length c2,.int .i64 a1] I (o20_ Q):=by
 refine Fun.enter func125 r ntmps125 r (.c (.c .n)) fun w0 M=>?_
 refine .sr (.ks 1 r (.nilS [1,0] r r (.sr (.ks 2 r ?_))))
 have hw16:=W_ref03_set (I:=I) R3 hd
 refine .call call191 r hw16 r r fun v11 I8 hl9 hv10=>?_
 obtain ⟨r7,p13,c14,rfl,R15,hd⟩:=hv10
 replace R3:=R3.mono hl9
 exact .ks 1 r (.nilS [4] r r (.ret (pret results125 (.t r .n) hl9 ⟨r7,_,_,r,R15,hd⟩)))
theorem W_ref03_Of {I:IH} {a0:Int} {a1:List Int} {p1:Option Addr} {c2:Nat} {Q:(List Int)→Prop} (R3:RepSl eI64 I p1 c2 a1) (hd:ref03_Of a0 a1 Q) :
  PFun prog 62 [.int .i64 a0,.slice p1 a1.length c2] I (o20_ Q):=by
 refine Fun.enter func62 r ntmps62 r (.c (.c .n)) fun w0 M=>?_
 refine .sr (.ks 1 r (.nilS [1,0] r r (.sr (.ks 1 r ?_))))
 have hw26:=W_ref03_New (I:=I) hd
 refine .call call124 r hw26 r r fun v21 I18 hl19 hv20=>?_
 obtain ⟨r17,p23,c24,rfl,R25,hd⟩:=hv20
 replace R3:=R3.mono hl19
 refine .ks 1 r (.nilS [5,1,0] r r (.seq (.sr (.ks 1 r (.nilS [6,5,1,0] r r (.block (.loop hd (fun (s:(List Int)×Int) c w=>match s with | (s146,s150)=>∃ I_ p147 c148,IH.le I18 I_∧RepSl eU64 I_ p147 c148 s146∧Ok ⟨42,[],none⟩ [(0,.int .i64 a0),(1,.slice p1 a1.length c2),(5,.slice p147 s146.length c148),(6,.int .i64 s150)] c∧Sym w0 M I I_ [] w) (fun c w ho hs=>⟨I18,_,_,(.refl _),R25,ho.sub ⟨r,r,r,r,trivial⟩,hs.pick .n⟩) ?_)))))))
 rintro ⟨s146,s150⟩ next151 hd c w hst
 obtain ⟨I152,p147,c148,hl153,R149,hok,hsym⟩:=hst
 have le154:=IH.le.trans hl19 hl153
 replace R3:=R3.mono hl153
 refine Cod.at hok hsym (.seq (.sr (.ks 2 r (.len un29 r r r r (.ks 1 r (.nilS [12,6,5,1,0] r r (.condP r hd (fun hb156 hd=>?_) fun hb156 hd=>?_)))))))
 · refine .skipS [6,5,1,0] r r (.seq (.block (.sr (.ks 2 r ?_))))
   obtain ⟨h157,x158,hx159,hd⟩:=hd
   obtain ⟨b160,o161,cs162,e163,hC164,hr165⟩:=R3.2 _ _ hx159
   cases hr165
   refine .ixa un29 sz3 r e163 r h157 (idx_lt hx159 h157) r r (.ld1 (j:=0) ia3 hC164 r r r r r (.ks 2 r ?_))
   refine splitP hd (fun hb166 hd=>?_) fun hb166 hd=>?_
   · rw [hb166]
     refine .ks 2 r ?_
     obtain ⟨h167,x168,hx169,hd⟩:=hd
     obtain ⟨b170,o171,cs172,e173,hC174,hr175⟩:=R3.2 _ _ hx169
     cases hr175
     refine .gyes r r r (.ixa un29 sz3 r e173 r h167 (idx_lt hx169 h167) r r (.gyes r r r (.ld1 (j:=0) ia3 hC174 r r r r r (.ks 4 r ?_))))
     refine splitP hd (fun hb176 hd=>?_) fun hb176 hd=>?_
     · rw [hb176]
       refine .ks 2 r ?_
       obtain ⟨h177,x178,hx179,hd⟩:=hd
       obtain ⟨b180,o181,cs182,e183,hC184,hr185⟩:=R3.2 _ _ hx179
       cases hr185
       refine .gyes r r r (.ixa un29 sz3 r e183 r h177 (idx_lt hx179 h177) r r (.gyes r r r (.ld1 (j:=0) ia3 hC184 r r r r r (.ks 2 r (.nilS [34,6,5,1,0] r r (.condP r hd (fun hb186 hd=>?_) fun hb186 hd=>?_))))))
       · refine .region (.ks 3 r ?_)
         obtain ⟨h187,x188,hx189,hd⟩:=hd
         obtain ⟨b190,o191,cs192,e193,hC194,hr195⟩:=R3.2 _ _ hx189
         cases hr195
         refine .ixa un29 sz3 r e193 r h187 (idx_lt hx189 h187) r r (.ld1 (j:=0) ia3 hC194 r r r r r ?_)
         have hw205:=W_ref03_Put (I:=I152) R149 hd
         refine .call call125 r hw205 r r fun v200 I197 hl198 hv199=>?_
         obtain ⟨r196,p202,c203,rfl,R204,hd⟩:=hv199
         have le206:=IH.le.trans le154 hl198
         have le207:=IH.le.trans hl153 hl198
         replace R3:=R3.mono hl198
         replace R149:=R149.mono hl198
         replace hC194:=hC194.mono hl198
         exact .ks 1 r (.nilS [5,6,1,0] r r (.region (.ks 3 r (.nil' fun c w ho hs=>⟨(r196,w64 (s150+1)),hd,I197,_,_,le207,R204,ho.sub ⟨r,r,r,r,trivial⟩,hs.pick .n⟩))))
       exact .skipS [6,5,1,0] r r (.region (.ks 3 r (.nil' fun c w ho hs=>⟨(s146,w64 (s150+1)),hd,I152,_,_,hl153,R149,ho.sub ⟨r,r,r,r,trivial⟩,hs.pick .n⟩)))
     rw [hb176]
     exact .ks 6 r (.nilS [34,6,5,1,0] r r (.condKF r r (.skipS [6,5,1,0] r r (.region (.ks 3 r (.nil' fun c w ho hs=>⟨(s146,w64 (s150+1)),hd,I152,_,_,hl153,R149,ho.sub ⟨r,r,r,r,trivial⟩,hs.pick .n⟩))))))
   rw [hb166]
   exact .ks 14 r (.nilS [34,6,5,1,0] r r (.condKF r r (.skipS [6,5,1,0] r r (.region (.ks 3 r (.nil' fun c w ho hs=>⟨(s146,w64 (s150+1)),hd,I152,_,_,hl153,R149,ho.sub ⟨r,r,r,r,trivial⟩,hs.pick .n⟩))))))
 exact .exitS [5] r r (.sr (.ks 2 r (.nilS [4] r r (.ret (pret results62 (.t r .n) le154 ⟨s146,_,_,r,R149,hd⟩)))))
theorem W_ref10_Of {I:IH} {a0:Vec} {p1:Option Addr} {c2:Nat} {Q:Dense→Prop} (R3:RepSl eItem I p1 c2 a0.Items) (hd:ref10_Of a0 Q) :
  PFun prog 22 [.agg #[.int .i64 a0.N,.slice p1 a0.Items.length c2]] I (o21_ Q):=by
 refine Fun.enter func22 r ntmps22 r (.c .n) fun w0 M=>?_
 refine .sr (.boxA r r r fun b14=>?_)
 refine .allocA zv58 r r fun b16=>?_
 refine .nilS [2,1] r r (.sr (.loadW ia54 sz54 r (.s .z) r r r ?_))
 have hw37:=W_ref09_Sure (I:=I) R3 hd
 refine .call call60 r hw37 r r fun v32 I29 hl30 hv31=>?_
 obtain ⟨r28,p34,c35,rfl,R36,hd⟩:=hv31
 replace R3:=R3.mono hl30
 refine .storeA sz54 r r (.s .z) (.t (.t .nil)) r r (.nilS [2,1] r r (.sr (.fa un54 r sz3 r (o:=0) r r r (.load1 ia3 r (.s .z) r r r ?_))))
 have hw68:=W_ref10_New (I:=I29) hd
 refine .callO call61 r hw68 r r fun v59 I56 l60 hl57 hv58=>?_
 obtain ⟨r55,p61,c62,p64,c65,rfl,R63,rfl,hd⟩:=hv58
 have le69:=IH.le.trans hl30 hl57
 replace R36:=R36.mono hl57
 refine .allocA zv58 r r fun b70=>?_
 refine .storeA sz58 r r .z (.t (.t (.t .nil))) r r (.nilS [3,2,1] r r (.sr (.ks 1 r (.nilS [4,3,2,1] r r (.seq (.sr (.ks 1 r (.nilS [5,4,3,2,1] r r (.block ?_)))))))))
 refine .own0 eI64 3 (.loop hd (fun (s:(List Int)×(List Int)×Int) c w=>match s with | (s429,s433,s437)=>∃ I_ p430 c431 p434 c435,IH.le I56 I_∧Ok ⟨48,[],none⟩ [(1,.pointer (some ⟨b14,0,none⟩)),(2,.pointer (some ⟨b16,0,none⟩)),(3,.pointer (some ⟨b70,0,none⟩)),(4,.slice p434 s433.length c435),(5,.int .i64 s437)] c∧Sym w0 M I I_ [pto b14 (.cells #[.int .i64 r28.N,.slice p34 r28.Items.length c35] 54 (0,0)),pto b16 (.cells #[.int .i64 0,.slice none 0 0,.slice none 0 0] 58 (0,0)),pto b70 (.cells #[.int .i64 r55.N,.slice p61 r55.Has.length c62,.slice p430 s429.length c431] 58 (0,0)),OwnSl eI64 2 p430 c431 s429,OwnSl eI64 3 p434 c435 s433] w) (fun c w ho hs=>⟨I56,_,_,_,_,(.refl _),ho.sub ⟨r,r,r,r,r,trivial⟩,hs.pick (.c (.s (.s (.s (.s .z)))) (.c (.s (.s (.s .z))) (.c (.s .z) (.c (.s .z) (.c .z .n)))))⟩) ?_)
 rintro ⟨s429,s433,s437⟩ next439 hd c w hst
 obtain ⟨I440,p430,c431,p434,c435,hl441,hok,hsym⟩:=hst
 have le442:=IH.le.trans le69 hl441
 replace R36:=R36.mono hl441
 replace R63:=R63.mono hl441
 refine Cod.at hok hsym (.seq (.sr (.ks 1 r (.fa un54 r sz52 r (o:=1) r r r (.load1 ia52 r .z r r r (.len un52 r r r r (.ks 1 r (.nilS [15,5,4,3,2,1] r r (.condP r hd (fun hb444 hd=>?_) fun hb444 hd=>?_)))))))))
 · refine .skipS [5,4,3,2,1] r r (.seq (.block (.sr (.ks 1 r (.fa un54 r sz52 r (o:=1) r r r (.load1 ia52 r .z r r r (.ks 1 r ?_)))))))
   obtain ⟨h460,x461,hx462,hd⟩:=hd
   obtain ⟨b463,o464,cs465,e466,hC467,hr468⟩:=R36.2 _ _ hx462
   cases hr468
   refine .ixa un52 sz51 r e466 r h460 (idx_lt hx462 h460) r r (.fa un51 r sz3 r (o:=o464+s437.toNat*2) r r r (.ld1 (j:=0) ia3 hC467 r r r r r (.buildSlice 1 un29 sz3 zv3 r r (.c r r r .n) r r fun b469=>?_)))
   obtain ⟨hl471,hd⟩:=hd
   refine .append (ys:=[x461.At]) 8 (.s (.s (.s (.s (.s .z))))) un29 un29 IN3 r r r r r r r r r (.box .z (.one r) r) hl471 r r fun p472 c473=>?_
   refine .ks 1 r (.nilS [4,5,3,2,1] r r (.drop (.s .z) (.ownF .z fun hne475=>?_)))
   refine .ownF (.s (.s (.s (.s .z)))) fun hne476=>?_
   refine .dr [0,1,2,3,4,5,6,7,8,9,10,11,12,13] 14 (.g r r r (fun _=>.fa un58 r sz30 r (o:=2) r r r .mk) (.g r r r (fun _=>.load1 ia30 r (.s (.s (.s .z))) r r r .mk) (.g r r r (fun _=>.fa un54 r sz52 r (o:=1) r r r .mk) (.g r r r (fun _=>.load1 ia52 r (.s .z) r r r .mk) (.fk 1 r ?_)))))
   obtain ⟨h477,x478,hx479,hd⟩:=hd
   obtain ⟨b480,o481,cs482,e483,hC484,hr485⟩:=R36.2 _ _ hx479
   cases hr485
   refine .g r r r (fun _=>.ixa un52 sz51 r e483 r h477 (idx_lt hx479 h477) r r .mk) (.g r r r (fun _=>.fa un51 r sz3 r (o:=o481+s437.toNat*2) r r r .mk) (.g r r r (fun _=>.ld1 (j:=0) ia3 hC484 r r r r r .mk) (.g r r r (fun _=>.fa un54 r sz52 r (o:=1) r r r .mk) (.g r r r (fun _=>.load1 ia52 r (.s .z) r r r .mk) (.fk 1 r ?_)))))
   obtain ⟨h486,x487,hx488,hd⟩:=hd
   obtain ⟨b489,o490,cs491,e492,hC493,hr494⟩:=R36.2 _ _ hx488
   cases hr494
   refine .g r r r (fun _=>.ixa un52 sz51 r e492 r h486 (idx_lt hx488 h486) r r .mk) (.g r r r (fun _=>.fa un51 r sz2 r (o:=o490+s437.toNat*2+1) r r r .mk) (.g r r r (fun _=>.ld1 (j:=1) ia2 hC493 r r r r r .mk) (.e2 14 ?_)))
   obtain ⟨h495,x496,hx497,hd⟩:=hd
   obtain ⟨b498,e499⟩:=hne476 (idx_ne hx497)
   cases e499
   exact .ixa0 un30 sz2 r r h495 (idx_lt hx497 h495) r r (.stO1 (j:=0) (v':=x487.Val) sz2 (.s (.s (.s (.s .z)))) hx497 r r r (.t .nil) r (.sub (E':=[(1,_),(2,_),(3,_),(5,_),(4,_),(27,_),(28,.slice (some ⟨b498,0,none⟩) (s429.set x478.At.toNat x487.Val).length c431),(29,_),(30,_),(31,_),(32,_),(33,_),(34,_),(35,_),(36,_),(37,_),(38,_),(39,_),(40,_),(41,_)]) ⟨r,r,r,r,r,r,(by simp only [List.length_set]; rfl),r,r,r,r,r,r,r,r,r,r,r,r,r,trivial⟩ (.reat (.s (.s (.s .z))) (B:=pto b70 (.cells #[.int .i64 r55.N,.slice p61 r55.Has.length c62,.slice (some ⟨b498,0,none⟩) (s429.set x478.At.toNat x487.Val).length c431] 58 (0,0))) (by simp only [List.length_set]) (.nilS [4,5,3,2,1] r r (.region (.ks 3 r (.nil' fun c w ho hs=>⟨((s429.set x478.At.toNat x487.Val),(s433++([x461.At])),w64 (s437+1)),hd,I440,_,_,_,_,hl441,ho.sub ⟨r,r,r,r,r,trivial⟩,hs.pick (.c (.s .z) (.c (.s .z) (.c (.s .z) (.c (.s .z) (.c .z .n)))))⟩)))))))
 refine .exitS [4,3,2,1] r r (.sr (.fa un54 r sz3 r (o:=0) r r r (.load1 ia3 r .z r r r (.ks 1 r (.pub (.s (.s (.s (.s .z)))) fun I500 hl501 R502=>?_)))))
 have le503:=IH.le.trans le442 hl501
 have le504:=IH.le.trans hl441 hl501
 replace R36:=R36.mono hl501
 replace R63:=R63.mono hl501
 have hw514:=W_ref03_Of (I:=I500) R502 hd
 refine .call call62 r hw514 r r fun v509 I506 hl507 hv508=>?_
 obtain ⟨r505,p511,c512,rfl,R513,hd⟩:=hv508
 have le515:=IH.le.trans le503 hl507
 have le516:=IH.le.trans le504 hl507
 replace R36:=R36.mono hl507
 replace R63:=R63.mono hl507
 replace R502:=R502.mono hl507
 refine .fa un58 r sz40 r (o:=1) r r r (.store1 sz40 r r (.s (.s .z)) (.s (.t .nil)) r (.nilS [3,2] r r (.drop .z (.sr (.loadW ia58 sz58 r (.s .z) r r r (.storeA sz58 r r .z (.t (.t (.t .nil))) r r (.nilS [2] r r (.drop (.s .z) (.pub (.s .z) fun I517 hl518 R519=>?_)))))))))
 have le520:=IH.le.trans le515 hl518
 have le521:=IH.le.trans le516 hl518
 replace R513:=R513.mono hl518
 exact .ret (pret results22 (.w ia58 sz58 r .z r .n) le520 ⟨({ N:=r55.N,Has:=r505,Vals:=s429 }:Dense),_,_,_,_,r,R513,R519,hd⟩)
theorem W_ref09_Get {I:IH} {a0:Vec} {a1:Int} {p1:Option Addr} {c2:Nat} {Q:(Int×Bool)→Prop} (R3:RepSl eItem I p1 c2 a0.Items) (hd:ref09_Get a0 a1 Q) :
  PFun prog 23 [.agg #[.int .i64 a0.N,.slice p1 a0.Items.length c2],.int .i64 a1] I (fun _=>o3_ Q):=by
 refine Fun.enter func23 r ntmps23 r (.c (.c .n)) fun w0 M=>?_
 refine .sr (.boxA r r r fun b6=>?_)
 refine .ks 2 r (.nilS [2,1] r r (.sr (.loadW ia54 sz54 r .z r r r ?_)))
 have hw27:=W_ref09_Sure (I:=I) R3 hd
 refine .call call60 r hw27 r r fun v22 I19 hl20 hv21=>?_
 obtain ⟨r18,p24,c25,rfl,R26,hd⟩:=hv21
 replace R3:=R3.mono hl20
 refine .storeA sz54 r r .z (.t (.t .nil)) r r (.nilS [2,1] r r (.seq (.sr (.ks 1 r (.nilS [6,2,1] r r (.block (.loop hd (fun (s91:Int) c w=>∃ I_,IH.le I19 I_∧Ok ⟨30,[],none⟩ [(1,.int .i64 a1),(2,.pointer (some ⟨b6,0,none⟩)),(6,.int .i64 s91)] c∧Sym w0 M I I_ [pto b6 (.cells #[.int .i64 r18.N,.slice p24 r18.Items.length c25] 54 (0,0))] w) (fun c w ho hs=>⟨I19,(.refl _),ho.sub ⟨r,r,r,trivial⟩,hs.pick (.c .z .n)⟩) ?_)))))))
 rintro s91 next92 hd c w hst
 obtain ⟨I93,hl94,hok,hsym⟩:=hst
 have le95:=IH.le.trans hl20 hl94
 replace R26:=R26.mono hl94
 refine Cod.at hok hsym (.seq (.sr (.ks 1 r (.fa un54 r sz52 r (o:=1) r r r (.load1 ia52 r .z r r r (.len un52 r r r r (.ks 1 r (.nilS [13,6,2,1] r r (.condP r hd (fun hb97 hd=>?_) fun hb97 hd=>?_)))))))))
 · refine .skipS [6,2,1] r r (.seq (.block (.sr (.fa un54 r sz52 r (o:=1) r r r (.load1 ia52 r .z r r r (.ks 1 r ?_))))))
   obtain ⟨h107,x108,hx109,hd⟩:=hd
   obtain ⟨b110,o111,cs112,e113,hC114,hr115⟩:=R26.2 _ _ hx109
   cases hr115
   refine .ixa un52 sz51 r e113 r h107 (idx_lt hx109 h107) r r (.fa un51 r sz3 r (o:=o111+s91.toNat*2) r r r (.ld1 (j:=0) ia3 hC114 r r r r r (.ks 2 r (.nilS [23,6,2,1] r r (.condP r hd (fun hb116 hd=>?_) fun hb116 hd=>?_)))))
   · refine .sr (.fa un54 r sz52 r (o:=1) r r r (.load1 ia52 r .z r r r (.ks 1 r ?_)))
     obtain ⟨h117,x118,hx119,hd⟩:=hd
     obtain ⟨b120,o121,cs122,e123,hC124,hr125⟩:=R26.2 _ _ hx119
     cases hr125
     exact .ixa un52 sz51 r e123 r h117 (idx_lt hx119 h117) r r (.fa un51 r sz2 r (o:=o121+s91.toNat*2+1) r r r (.ld1 (j:=1) ia2 hC124 r r r r r (.ks 2 r (.nilS [5,4] r r (.drop .z (.ret (pret results23 (.t r (.t r .n)) le95 ⟨(x118.Val,true),r,hd⟩)))))))
   exact .skipS [6,2,1] r r (.region (.ks 3 r (.nil' fun c w ho hs=>⟨(w64 (s91+1)),hd,I93,hl94,ho.sub ⟨r,r,r,trivial⟩,hs.pick (.c .z .n)⟩)))
 exact .exitS [] r r (.drop .z (.sr (.ks 2 r (.nilS [5,4] r r (.ret (pret results23 (.t r (.t r .n)) le95 ⟨(0,false),r,hd⟩))))))
theorem W_top_TopWalks {I:IH} {a0:Graph} {a1:Int} {p1:Option Addr} {c2:Nat} {Q:Bool→Prop} (R3:RepSl eEdge I p1 c2 a0.Edges) (hd:top_TopWalks a0 a1 Q) :
  PFun prog 3 [.agg #[.int .i64 a0.N,.slice p1 a0.Edges.length c2],.int .i64 a1] I (fun _=>o4_ Q):=by
 refine Fun.enter func3 r ntmps3 r (.c (.c .n)) fun w0 M=>?_
 refine .sr (.boxA r r r fun b6=>?_)
 refine .ks 1 r (.nilS [2,1] r r (.sr (.loadW ia24 sz24 r .z r r r ?_)))
 have hw29:=W_law21_Graph (I:=I) R3 hd
 refine .callO call15 r hw29 r r fun v23 I20 l24 hl21 hv22=>?_
 obtain ⟨r19,p25,c26,rfl,rfl,hd⟩:=hv22
 replace R3:=R3.mono hl21
 refine .storeA sz24 r r (.s .z) (.t (.t .nil)) r r (.nilS [2,1] r r (.seq ?_))
 refine Cod.joinQ (σ:=Int) hd (fun (s32:Int) c w=>∃ I_,IH.le I20 I_∧Ok ⟨139,[],none⟩ [(1,.int .i64 a1),(2,.pointer (some ⟨b6,0,none⟩))] c∧Sym w0 M I I_ [pto b6 (.cells #[.int .i64 s32,.slice p25 r19.Edges.length c26] 24 (0,0)),OwnSl eEdge 27 p25 c26 r19.Edges] w) (fun k33 hd=>?_) ?_
 · skip
   refine .sr (.fa un24 r sz3 r (o:=0) r r r (.load1 ia3 r (.s .z) r r r (.ks 1 r (.nilS [22,2,1] r r (.condP r hd (fun hb34 hd=>?_) fun hb34 hd=>?_)))))
   · exact .region (.fa un24 r sz3 r (o:=0) r r r (.store1 sz3 r r (.s .z) (.t .nil) r (.nil' fun c w ho hs=>⟨1,hd,I20,(.refl _),ho.sub ⟨r,r,trivial⟩,hs.pick (.c (.s .z) (.c .z .n))⟩)))
   exact .skip' fun c w ho hs=>⟨r19.N,hd,I20,(.refl _),ho.sub ⟨r,r,trivial⟩,hs.pick (.c (.s .z) (.c .z .n))⟩
 rintro s32 hd c w hst
 obtain ⟨I35,hl36,hok,hsym⟩:=hst
 have le37:=IH.le.trans hl21 hl36
 refine Cod.at hok hsym (.seq (.sr (.ks 1 r (.nilS [5,2,1] r r (.block (.loop hd (fun (s:(List Edge)×Int) c w=>match s with | (s133,s137)=>∃ I_ p134 c135,IH.le I35 I_∧Ok ⟨139,[],none⟩ [(1,.int .i64 a1),(2,.pointer (some ⟨b6,0,none⟩)),(5,.int .i64 s137)] c∧Sym w0 M I I_ [pto b6 (.cells #[.int .i64 s32,.slice p134 s133.length c135] 24 (0,0)),OwnSl eEdge 27 p134 c135 s133] w) (fun c w ho hs=>⟨I35,_,_,(.refl _),ho.sub ⟨r,r,r,trivial⟩,hs.pick (.c .z (.c .z .n))⟩) ?_))))))
 rintro ⟨s133,s137⟩ next138 hd c w hst
 obtain ⟨I139,p134,c135,hl140,hok,hsym⟩:=hst
 have le141:=IH.le.trans le37 hl140
 have le142:=IH.le.trans hl36 hl140
 refine Cod.at hok hsym (.seq (.sr (.ks 1 r (.fa un24 r sz22 r (o:=1) r r r (.load1 ia22 r .z r r r (.len un22 r r r r (.ks 1 r (.nilS [28,5,2,1] r r (.condP r hd (fun hb144 hd=>?_) fun hb144 hd=>?_)))))))))
 · refine .skipS [5,2,1] r r (.seq (.block (.ownF (.s .z) fun hne145=>?_)))
   refine .dr [0,1,2,3,4,5,6,7,8,9,10,11,12] 13 (.g r r r (fun _=>.fa un24 r sz22 r (o:=1) r r r .mk) (.g r r r (fun _=>.load1 ia22 r .z r r r .mk) (.fk 1 r (.g r r r (fun _=>.fa un24 r sz22 r (o:=1) r r r .mk) (.g r r r (fun _=>.load1 ia22 r .z r r r .mk) (.fk 1 r ?_))))))
   obtain ⟨h146,x147,hx148,hd⟩:=hd
   obtain ⟨b149,e150⟩:=hne145 (idx_ne hx148)
   cases e150
   refine .g r r r (fun _=>.ixa0 un22 sz27 r r h146 (idx_lt hx148 h146) r r .mk) (.g r r r (fun _=>.fa un27 r sz2 r (o:=s137.toNat*3+2) r r r .mk) (.g r r r (fun _=>.lo1 (j:=2) ia2 (.s .z) hx148 r r r r r .mk) (.fk 1 r ?_)))
   obtain ⟨h151,x152,hx153,hd⟩:=hd
   refine .g r r r (fun _=>.ixa0 un22 sz27 r r h151 (idx_lt hx153 h151) r r .mk) (.g r r r (fun _=>.fa un27 r sz2 r (o:=s137.toNat*3+2) r r r .mk) (.ww r fun ex=>?_))
   exact .stO1 (j:=2) (v':=({ From:=x152.From,To:=x152.To,W:=bnd .i64 x147.W 7 }:Edge)) sz2 (.s .z) hx153 r r r (.s (.s (.t .nil))) r (.reat .z (B:=pto b6 (.cells #[.int .i64 s32,.slice (some ⟨b149,0,none⟩) (s133.set s137.toNat ({ From:=x152.From,To:=x152.To,W:=bnd .i64 x147.W 7 }:Edge)).length c135] 24 (0,0))) (by simp only [List.length_set]) (.sn 2 r r r trivial (.e2 13 (.sub (E':=[(1,_),(2,_),(5,_),(31,_),(32,.slice (some ⟨b149,0,none⟩) (s133.set s137.toNat ({ From:=x152.From,To:=x152.To,W:=bnd .i64 x147.W 7 }:Edge)).length c135),(33,_),(34,_),(35,.slice (some ⟨b149,0,none⟩) (s133.set s137.toNat ({ From:=x152.From,To:=x152.To,W:=bnd .i64 x147.W 7 }:Edge)).length c135),(36,_),(37,_),(38,_),(39,_),(40,_),(41,_),(42,_)]) ⟨r,r,r,r,(by simp only [List.length_set]; rfl),r,r,(by simp only [List.length_set]; rfl),r,r,r,r,r,r,r,trivial⟩ (.reat .z (B:=pto b6 (.cells #[.int .i64 s32,.slice (some ⟨b149,0,none⟩) (s133.set s137.toNat ({ From:=x152.From,To:=x152.To,W:=bnd .i64 x147.W 7 }:Edge)).length c135] 24 (0,0))) (by simp only [List.length_set]) (.nilS [5,2,1] r r (.region (.ks 3 r (.nil' fun c w ho hs=>⟨((s133.set s137.toNat ({ From:=x152.From,To:=x152.To,W:=bnd .i64 x147.W 7 }:Edge)),w64 (s137+1)),hd,I139,_,_,hl140,ho.sub ⟨r,r,r,trivial⟩,hs.pick (.c .z (.c .z .n))⟩)))))))))
 refine .exitS [2,1] r r (.sr (.ks 1 r (.fa un24 r sz3 r (o:=0) r r r (.load1 ia3 r .z r r r ?_))))
 have hw159:=W_law21_Within (I:=I139) hd
 refine .callP call16 r hw159 r r fun v160 hv161=>?_
 obtain ⟨r158,rfl,hd⟩:=hv161
 refine .ks 1 r (.nilS [1,2] r r (.sr (.loadW ia24 sz24 r .z r r r (.pub (.s .z) fun I189 hl190 R191=>?_))))
 have le192:=IH.le.trans le141 hl190
 have le193:=IH.le.trans le142 hl190
 have le194:=IH.le.trans hl140 hl190
 have hw210:=W_ref07_Graph (I:=I189) (a0:=({ N:=s32,Edges:=s133 }:Graph)) R191 hd
 refine .call call17 r hw210 r r fun v199 I196 hl197 hv198=>?_
 obtain ⟨r195,p201,c202,p204,c205,p207,c208,rfl,R203,R206,R209,hd⟩:=hv198
 have le211:=IH.le.trans le192 hl197
 have le212:=IH.le.trans le193 hl197
 have le213:=IH.le.trans le194 hl197
 replace R191:=R191.mono hl197
 refine .ks 3 r (.allocA zv32 r r fun b214=>?_)
 refine .storeA sz32 r r .z (.t (.t (.t (.t (.t .nil))))) r r (.ks 1 r (.nilS [6,1,2] r r (.seq (.dr [0,1,2,3,4,5,11,6,7,8,9,10,999,12] 13 (.g r r r (fun _=>.loadW ia32 sz32 r .z r r r .mk) (.g r r r (fun _=>.loadW ia32 sz32 r .z r r r .mk) (.g r r r (fun _=>.fa un24 r sz3 r (o:=0) r r r .mk) (.g r r r (fun _=>.load1 ia3 r (.s .z) r r r .mk) (.g r r r (fun _=>.fa un24 r sz3 r (o:=0) r r r .mk) ?_)))))))))
 refine .g r r r (fun _=>.load1 ia3 r (.s .z) r r r .mk) (.a (fun b=>.pointer (some ⟨b,0,none⟩)) (fun b=>pto b (.cells #[.int .i64 0,.int .i64 0,.slice none 0 0,.slice none 0 0,.slice none 0 0] 32 (0,0))) r r r r (fun _ L hL ex=>.allocA zv32 r r fun b=>.mk (val:=fun b=>.pointer (some ⟨b,0,none⟩)) (atom:=fun b=>pto b (.cells #[.int .i64 0,.int .i64 0,.slice none 0 0,.slice none 0 0,.slice none 0 0] 32 (0,0))) hL b) (.ww r fun ex=>?_))
 have hw272:=W_top_ones (I:=I196) hd
 refine .call call19 r hw272 r r fun v261 I258 hl259 hv260=>?_
 obtain ⟨r257,p263,c264,p266,c267,p269,c270,rfl,R265,R268,R271,hd⟩:=hv260
 have le273:=IH.le.trans le211 hl259
 have le274:=IH.le.trans le212 hl259
 have le275:=IH.le.trans le213 hl259
 replace R191:=R191.mono hl259
 replace R203:=R203.mono hl259
 replace R206:=R206.mono hl259
 replace R209:=R209.mono hl259
 refine .so 2 r r r (.cg r r r r (fun _=>.loadW ia32 sz32 r .z r r r .mk) (.cg r r r r (fun _=>.loadW ia32 sz32 r .z r r r .mk) trivial)) (.ww r fun ex=>?_)
 have hw291:=W_gemm_Times (I:=I258) R203 R206 R209 R203 R206 R209 R265 R268 R271 hd
 refine .call call18 r hw291 r r fun v280 I277 hl278 hv279=>?_
 obtain ⟨r276,p282,c283,p285,c286,p288,c289,rfl,R284,R287,R290,hd⟩:=hv279
 have le292:=IH.le.trans le273 hl278
 have le293:=IH.le.trans le274 hl278
 have le294:=IH.le.trans le275 hl278
 replace R191:=R191.mono hl278
 replace R203:=R203.mono hl278
 replace R206:=R206.mono hl278
 replace R209:=R209.mono hl278
 replace R265:=R265.mono hl278
 replace R268:=R268.mono hl278
 replace R271:=R271.mono hl278
 refine .so 2 r r r trivial (.fk 3 r (.b r fun b295=>DrawD.nop (.ww r fun ex=>?_)))
 refine .storeA sz32 r r (.s (.s .z)) (.t (.t (.t (.t (.t .nil))))) r r (.sn 3 r r r (.ck 1 r r trivial) (.e2 13 (.ks 1 r (.nilS [9,8,1,2] r r (.drop .z (.sr (.fa un24 r sz3 r (o:=0) r r r (.load1 ia3 r .z r r r (.ks 1 r ?_)))))))))
 refine .build zv49 un49 BI49 (.c r r r (.t .nil) (.c r r r (.s (.t .nil)) (.c r r r (.s (.s (.t .nil))) (.c r r r (.s (.s (.s (.t .nil)))) .n)))) (by exact ⟨⟨_,_,r,r,r⟩,⟨⟨_,_,r,r,r⟩,⟨⟨_,_,r,r,r⟩,⟨⟨_,_,r,r,r⟩,trivial⟩⟩⟩⟩) r r (.loadW ia24 sz24 r .z r r r ?_)
 have hw332:=W_model_Run (I:=I277) (a0:=({ Kind:=4,N:=s32,Source:=r158,Length:=2,Draws:=([]:List Int) }:Plan)) (a1:=({ N:=s32,Edges:=s133 }:Graph)) (.nil _ none 0) R191 hd
 refine .call call20 r hw332 r r fun v321 I318 hl319 hv320=>?_
 obtain ⟨r317,p323,c324,p326,c327,p329,c330,rfl,R325,R328,R331,hd⟩:=hv320
 have le333:=IH.le.trans le292 hl319
 have le334:=IH.le.trans le293 hl319
 have le335:=IH.le.trans le294 hl319
 replace R191:=R191.mono hl319
 replace R284:=R284.mono hl319
 replace R287:=R287.mono hl319
 replace R290:=R290.mono hl319
 refine .ks 3 r (.allocA zv44 r r fun b336=>?_)
 refine .storeA sz44 r r .z (.t (.t (.t (.t (.t (.t (.t .nil))))))) r r (.ks 1 r (.nilS [11,10,9,8,1,2] r r (.sr (.fa un24 r sz3 r (o:=0) r r r (.load1 ia3 r (.s .z) r r r (.ks 1 r (.build zv51 un51 BI51 (.c r r r (.t .nil) (.c r r r (.s (.t .nil)) .n)) (by exact ⟨⟨_,_,r,r,r⟩,⟨⟨_,_,r,r,r⟩,trivial⟩⟩) r r (.buildSlice 1 un52 sz51 zv51 r r (.c r r r .n) r r fun b343=>?_))))))))
 refine .ownB (El:=eItem) (ys:=([({ At:=r158,Val:=1 }:Item)]:List Item)) .z (.one r) r (.build zv54 un54 BI54 (.c r r r (.t .nil) (.c r r r (.s (.t .nil)) .n)) (by exact ⟨⟨_,_,r,r,r⟩,⟨⟨_,_,r,r,r⟩,trivial⟩⟩) r r (.allocA zv54 r r fun b346=>?_))
 refine .storeA sz54 r r .z (.t (.t .nil)) r r (.nilS [12,11,10,9,8,2] r r (.seq (.dr [0,1,7,2,3,4,5,6,999,8] 9 (.g r r r (fun _=>.loadW ia32 sz32 r (.s (.s (.s (.s .z)))) r r r .mk) (.g r r r (fun _=>.loadW ia54 sz54 r .z r r r .mk) (.a (fun b=>.pointer (some ⟨b,0,none⟩)) (fun b=>pto b (.cells #[.int .i64 0,.slice none 0 0] 54 (0,0))) r r r r (fun _ L hL ex=>.allocA zv54 r r fun b=>.mk (val:=fun b=>.pointer (some ⟨b,0,none⟩)) (atom:=fun b=>pto b (.cells #[.int .i64 0,.slice none 0 0] 54 (0,0))) hL b) (.ww r fun ex=>?_)))))))
 refine .pub (.s .z) fun I386 hl387 R388=>?_
 have le389:=IH.le.trans le333 hl387
 have le390:=IH.le.trans le334 hl387
 have le391:=IH.le.trans le335 hl387
 replace R191:=R191.mono hl387
 replace R284:=R284.mono hl387
 replace R287:=R287.mono hl387
 replace R290:=R290.mono hl387
 replace R325:=R325.mono hl387
 replace R328:=R328.mono hl387
 replace R331:=R331.mono hl387
 have hw404:=W_ref10_Of (I:=I386) (a0:=({ N:=s32,Items:=([({ At:=r158,Val:=1 }:Item)]:List Item) }:Vec)) R388 hd
 refine .call call22 r hw404 r r fun v396 I393 hl394 hv395=>?_
 obtain ⟨r392,p398,c399,p401,c402,rfl,R400,R403,hd⟩:=hv395
 have le405:=IH.le.trans le389 hl394
 have le406:=IH.le.trans le390 hl394
 have le407:=IH.le.trans le391 hl394
 replace R191:=R191.mono hl394
 replace R284:=R284.mono hl394
 replace R287:=R287.mono hl394
 replace R290:=R290.mono hl394
 replace R325:=R325.mono hl394
 replace R328:=R328.mono hl394
 replace R331:=R331.mono hl394
 replace R388:=R388.mono hl394
 refine .so 4 r r r (.cg r r r r (fun _=>.loadW ia32 sz32 r (.s (.s (.s .z))) r r r .mk) trivial) (.ww r fun ex=>?_)
 have hw417:=W_pull_Times (I:=I393) R284 R287 R290 R400 R403 (.nil _ none 0) hd
 refine .call call21 r hw417 r r fun v412 I409 hl410 hv411=>?_
 obtain ⟨r408,p414,c415,rfl,R416,hd⟩:=hv411
 have le418:=IH.le.trans le405 hl410
 have le419:=IH.le.trans le406 hl410
 have le420:=IH.le.trans le407 hl410
 replace R191:=R191.mono hl410
 replace R284:=R284.mono hl410
 replace R287:=R287.mono hl410
 replace R290:=R290.mono hl410
 replace R325:=R325.mono hl410
 replace R328:=R328.mono hl410
 replace R331:=R331.mono hl410
 replace R388:=R388.mono hl410
 replace R400:=R400.mono hl410
 replace R403:=R403.mono hl410
 refine .so 4 r r r trivial (.fk 3 r (.b r fun b421=>DrawD.nop (.ww r fun ex=>?_)))
 refine .storeA sz54 r r (.s (.s (.s (.s .z)))) (.t (.t .nil)) r r (.sn 5 r r r (.ck 1 r r trivial) (.e2 9 (.ks 1 r (.nilS [14,13,11,10,9,2] r r (.drop .z (.drop (.s (.s .z)) (.seq (.sr (.ks 3 r ?_)))))))))
 refine splitP hd (fun hb426 hd=>?_) fun hb426 hd=>?_
 · rw [hb426]
   exact .ks 16 r (.nilS [103,13,10,2] r r (.condKT r r (.sr (.ks 1 r (.nilS [4] r r (.drop .z (.drop .z (.drop .z (.ret (pret results3 (.t r .n) le418 ⟨false,r,hd⟩))))))))))
 rw [hb426]
 refine .ks 4 r ?_
 refine splitP hd (fun hb427 hd=>?_) fun hb427 hd=>?_
 · rw [hb427]
   exact .ks 12 r (.nilS [103,13,10,2] r r (.condKT r r (.sr (.ks 1 r (.nilS [4] r r (.drop .z (.drop .z (.drop .z (.ret (pret results3 (.t r .n) le418 ⟨false,r,hd⟩))))))))))
 rw [hb427]
 refine .ks 4 r ?_
 refine splitP hd (fun hb428 hd=>?_) fun hb428 hd=>?_
 · rw [hb428]
   exact .ks 8 r (.nilS [103,13,10,2] r r (.condKT r r (.sr (.ks 1 r (.nilS [4] r r (.drop .z (.drop .z (.drop .z (.ret (pret results3 (.t r .n) le418 ⟨false,r,hd⟩))))))))))
 rw [hb428]
 refine .gyes r r r (.fa un44 r sz42 r (o:=2) r r r (.gyes r r r (.fa un42 r sz30 r (o:=4) r r r (.gyes r r r (.load1 ia30 r .z r r r (.gyes r r r (.len un30 r r r r (.gyes r r r (.fa un24 r sz3 r (o:=0) r r r (.gyes r r r (.load1 ia3 r (.s .z) r r r (.ks 2 r (.nilS [103,13,10,2] r r (.condP r hd (fun hb429 hd=>?_) fun hb429 hd=>?_))))))))))))))
 · exact .sr (.ks 1 r (.nilS [4] r r (.drop .z (.drop .z (.drop .z (.ret (pret results3 (.t r .n) le418 ⟨false,r,hd⟩)))))))
 refine .skipS [13,10,2] r r (.seq (.sr (.fa un44 r sz3 r (o:=1) r r r (.load1 ia3 r .z r r r (.ks 1 r (.nilS [106,13,10,2] r r (.condP r hd (fun hb432 hd=>?_) fun hb432 hd=>?_)))))))
 · refine .sr (.fa un44 r sz39 r (o:=0) r r r (.load1 isAgg39 r .z r r r (.ks 2 r ?_)))
   refine splitP hd (fun hb433 hd=>?_) fun hb433 hd=>?_
   · rw [hb433]
     exact .gyes r r r (.fa un54 r sz52 r (o:=1) r r r (.gyes r r r (.load1 ia52 r (.s (.s .z)) r r r (.gyes r r r (.len un52 r r r r (.ks 3 r (.nilS [4] r r (.drop .z (.drop .z (.drop .z (.ret (pret results3 (.t r .n) le418 ⟨((r408.1.Items.length:Int)==0),r,hd⟩))))))))))))
   rw [hb433]
   exact .ks 6 r (.nilS [4] r r (.drop .z (.drop .z (.drop .z (.ret (pret results3 (.t r .n) le418 ⟨false,r,hd⟩))))))
 refine .skipS [13,10,2] r r (.seq (.sr (.ks 1 r (.nilS [15,13,10,2] r r (.block (.loop hd (fun (s477:Int) c w=>∃ I_,IH.le I409 I_∧Ok ⟨139,[],none⟩ [(2,.pointer (some ⟨b6,0,none⟩)),(10,.pointer (some ⟨b336,0,none⟩)),(13,.pointer (some ⟨b421,0,none⟩)),(15,.int .i64 s477)] c∧Sym w0 M I I_ [pto b6 (.cells #[.int .i64 s32,.slice p134 s133.length c135] 24 (0,0)),pto b336 (.cells #[.int .i64 r317.1.Status,.int .i64 r317.1.Rounds,.int .i64 r317.1.State.Low,.int .i64 r317.1.State.High,.slice p323 r317.1.State.A.length c324,.slice p326 r317.1.State.B.length c327,.slice p329 r317.1.State.On.length c330] 44 (0,0)),pto b421 (.cells #[.int .i64 r408.1.N,.slice p414 r408.1.Items.length c415] 54 (0,0))] w) (fun c w ho hs=>⟨I409,(.refl _),ho.sub ⟨r,r,r,r,trivial⟩,hs.pick (.c (.s .z) (.c .z (.c .z .n)))⟩) ?_))))))
 rintro s477 next478 hd c w hst
 obtain ⟨I479,hl480,hok,hsym⟩:=hst
 have le481:=IH.le.trans le418 hl480
 have le482:=IH.le.trans le419 hl480
 have le483:=IH.le.trans le420 hl480
 replace R191:=R191.mono hl480
 replace R325:=R325.mono hl480
 replace R328:=R328.mono hl480
 replace R331:=R331.mono hl480
 replace R416:=R416.mono hl480
 refine Cod.at hok hsym (.seq (.sr (.ks 1 r (.fa un24 r sz3 r (o:=0) r r r (.load1 ia3 r .z r r r (.ks 1 r (.nilS [119,15,13,10,2] r r (.condP r hd (fun hb485 hd=>?_) fun hb485 hd=>?_))))))))
 · refine .skipS [15,13,10,2] r r (.seq (.block (.sr (.loadW ia54 sz54 r (.s (.s .z)) r r r (.ks 1 r ?_)))))
   have hw491:=W_ref09_Get (I:=I479) R416 hd
   refine .callP call23 r hw491 r r fun v492 hv493=>?_
   obtain ⟨r490,rfl,hd⟩:=hv493
   refine .ks 5 r (.nilS [16,15,13,10,2] r r (.sr (.fa un44 r sz42 r (o:=2) r r r (.fa un42 r sz30 r (o:=4) r r r (.load1 ia30 r (.s .z) r r r (.ks 1 r ?_))))))
   obtain ⟨h494,x495,hx496,hd⟩:=hd
   obtain ⟨b497,o498,cs499,e500,hC501,hr502⟩:=R325.2 _ _ hx496
   cases hr502
   refine .ixa un30 sz2 r e500 r h494 (idx_lt hx496 h494) r r (.ld1 (j:=0) ia2 hC501 r r r r r (.ks 2 r (.nilS [135,15,13,10,2] r r (.condP r hd (fun hb503 hd=>?_) fun hb503 hd=>?_))))
   · exact .sr (.ks 1 r (.nilS [4] r r (.drop .z (.drop .z (.drop .z (.ret (pret results3 (.t r .n) le481 ⟨false,r,hd⟩)))))))
   exact .skipS [15,13,10,2] r r (.region (.ks 3 r (.nil' fun c w ho hs=>⟨(w64 (s477+1)),hd,I479,hl480,ho.sub ⟨r,r,r,r,trivial⟩,hs.pick (.c .z (.c .z (.c .z .n)))⟩)))
 exact .exitS [10] r r (.drop .z (.drop (.s .z) (.sr (.fa un44 r sz39 r (o:=0) r r r (.load1 isAgg39 r .z r r r (.ks 2 r (.nilS [4] r r (.drop .z (.ret (pret results3 (.t r .n) le481 ⟨(r317.1.Status==1),r,hd⟩))))))))))
end Go.Proofs.YtaefnmlbnkmahaaGreat
