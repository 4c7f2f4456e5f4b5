import Derived.Test.YtbohadngdkjljaaGreatOK
import Derived.Test.YtbohadngdkjljaaGreatSumL
namespace Go.Proofs.YtbohadngdkjljaaGreat
open Go Go.Fw
set_option linter.unusedVariables false
set_option linter.unusedSimpArgs false
variable {d:Data}
def UA (d:Data):MS:={ w:=fun k=>⟨UO d k d.S.length,fun _=>false,fun _=>false,0⟩,bx:=fun _ _=>⟨d.room,[],[],0⟩ }
theorem AbX (h:WO d) {adr:Nat→Nat} (hinj:∀ i j,i<d.R*d.C→j<d.R*d.C→adr i=adr j→i=j):bS (d.ctx adr):=by
  have hR:=h.R
  have hC:=h.C
  have hl:=h.seg.len
  exact ⟨Nat.mul_le_mul hR.2 hC.2,rfl,h.room.1,h.room.2,by show d.S.length≤64; omega,hinj⟩
theorem TA {C i j:Nat} (hj:j<C):(i*C+j) / C=i∧(i*C+j) % C=j:=by
  have hC:0<C:=by omega
  constructor
  · rw [Nat.mul_comm,Nat.mul_add_div hC,Nat.div_eq_of_lt hj]; omega
  · rw [Nat.mul_comm,Nat.mul_add_mod,Nat.mod_eq_of_lt hj]
theorem Z8 {R C i j:Nat} (hi:i<R) (hj:j<C):i*C+j<R*C:=by
  have:(i+1)*C≤R*C:=Nat.mul_le_mul_right _ (by omega)
  rw [Nat.succ_mul] at this; omega
theorem AaJ {w t:Nat} {f:BI} (h:f∈UO d w t):∃ s,s<t∧(((d.S.getD s default).Col=((w % d.C:Nat):Int)∧∃ j,j<d.C∧f=frL d w s j)∨(d.S.getD s default).Row=((w / d.C:Nat):Int)∧∃ i,i<d.R∧f=frR d w s i):=by
  unfold UO at h
  obtain ⟨s,hs,hf⟩:=List.mem_flatMap.1 h
  refine ⟨s,List.mem_range.1 hs,?_⟩
  rcases List.mem_append.1 hf with hf | hf
  · unfold OM at hf
    split at hf
    · rename_i e
      obtain ⟨j,hj,rfl⟩:=List.mem_map.1 hf
      exact .inl ⟨e,j,List.mem_range.1 hj,rfl⟩
    · exact absurd hf (List.not_mem_nil)
  · unfold NY at hf
    split at hf
    · rename_i e
      obtain ⟨j,hj,rfl⟩:=List.mem_map.1 hf
      exact .inr ⟨e,j,List.mem_range.1 hj,rfl⟩
    · exact absurd hf (List.not_mem_nil)
theorem AaK (h:WO d) (i:Nat) (a b:Int):(bT d i a b).length≤65536:=by
  have:=h.cA.len
  unfold bT JZ
  rw [List.length_map]
  have:=List.length_filter_le (fun t:AC=>decide ((d.rl i≤t.Row∧t.Row<d.rl (i+1))∧(a≤t.Col∧t.Col<b))) d.A
  omega
theorem AaL (h:WO d) (i:Nat) (a b:Int):(eN d i a b).length≤65536:=by
  have:=h.cB.len
  unfold eN JZ
  rw [List.length_map]
  have:=List.length_filter_le (fun t:AC=>decide ((a≤t.Row∧t.Row<b)∧(d.cl i≤t.Col∧t.Col<d.cl (i+1)))) d.B
  omega
theorem iK (h:WO d) (adr:Nat→Nat):Good (d.ctx adr) (UA d):=by
  have hR:=h.R
  have hC:=h.C
  have hl:=h.seg.len
  refine ⟨fun k hk f hf=>?_,fun f t _ _ g hg=>absurd hg (List.not_mem_nil),fun f t _ _=>?_,fun f t _ _=>⟨rfl,Nat.zero_le _⟩⟩
  · have hi:k / d.C<d.R:=Nat.div_lt_of_lt_mul (by rw [Nat.mul_comm]; exact hk)
    have hj:k % d.C<d.C:=Nat.mod_lt _ (by omega)
    obtain ⟨s,hs,⟨_,j,hj',rfl⟩ | ⟨_,i,hi',rfl⟩⟩:=AaJ hf
    · have hp:=TA (i:=k / d.C) hj'
      refine ⟨k / d.C*d.C+j,s,Z8 hi hj',hs,rfl,rfl,⟨rfl,rfl,?_⟩,.inl ⟨rfl,?_⟩⟩
      · have:=AaK h (k / d.C) (CS d.S s) (CS d.S (s+1)); show (bT d _ _ _).length≤_; omega
      · show bT d (k / d.C) _ _=bT d ((k / d.C*d.C+j) / d.C) _ _
        rw [hp.1]
    · have hp:=TA (i:=i) hj
      refine ⟨i*d.C+k % d.C,s,Z8 hi' hj,hs,rfl,rfl,⟨rfl,rfl,?_⟩,.inr ⟨rfl,?_⟩⟩
      · have:=AaL h (k % d.C) (CS d.S s) (CS d.S (s+1)); show (eN d _ _ _).length≤_; omega
      · show eN d (k % d.C) _ _=eN d ((i*d.C+k % d.C) % d.C) _ _
        rw [hp.2]
  · have:=eQ h f d.S.length
    show 0+(UO d f d.S.length).length≤_
    omega
theorem iL (h:WO d) (adr:Nat→Nat):Live (d.ctx adr) (QM (d.ctx adr) (UA d)) (UA d):=by
  have hR:=h.R
  have hC:=h.C
  refine ⟨fun f t _ _=>BInv.empty (d.ctx adr),fun k s hk hs=>?_,fun k hk=>⟨Nat.zero_le _,fun hh=>by have:=hh.2.1; cases this⟩,?_⟩
  · have hi:k / d.C<d.R:=Nat.div_lt_of_lt_mul (by rw [Nat.mul_comm]; exact hk)
    have hj:k % d.C<d.C:=Nat.mod_lt _ (by omega)
    have hs':s<d.S.length:=hs
    have hgd:d.S.getD s default=d.S[s]:=by simp [List.getD_eq_getElem?_getD,hs']
    have hrow:=h.seg.row s hs'
    have hcol:=h.seg.col s hs'
    have hmem:∀ {w:Nat} {f:BI},f∈OM d w s++NY d w s→f∈UO d w d.S.length:=fun {w f} hf=>List.mem_flatMap.2 ⟨s,List.mem_range.2 hs',hf⟩
    constructor
    · right
      have hp:=TA (i:=k / d.C) (j:=d.S[s].Col.toNat) (C:=d.C) (by omega)
      refine ⟨k / d.C*d.C+d.S[s].Col.toNat,Z8 hi (by omega),.inl ⟨frL d (k / d.C*d.C+d.S[s].Col.toNat) s (k % d.C),hmem (List.mem_append.2 (.inl ?_)),rfl,?_,rfl⟩⟩
      · unfold OM
        rw [hgd,hp.2,if_pos (by omega)]
        exact List.mem_map.2 ⟨k % d.C,List.mem_range.2 hj,rfl⟩
      · show (((k / d.C*d.C+d.S[s].Col.toNat) / d.C*d.C+k % d.C:Nat):Int)=_
        rw [hp.1,Nat.mul_comm (k / d.C) d.C,Nat.div_add_mod]
    · right
      have hp:=TA (i:=d.S[s].Row.toNat) (j:=k % d.C) (C:=d.C) hj
      refine ⟨d.S[s].Row.toNat*d.C+k % d.C,Z8 (by omega) hj,.inl ⟨frR d (d.S[s].Row.toNat*d.C+k % d.C) s (k / d.C),hmem (List.mem_append.2 (.inr ?_)),rfl,?_,rfl⟩⟩
      · unfold NY
        rw [hgd,hp.1,if_pos (by omega)]
        exact List.mem_map.2 ⟨k / d.C,List.mem_range.2 hi,rfl⟩
      · show ((k / d.C*d.C+(d.S[s].Row.toNat*d.C+k % d.C) % d.C:Nat):Int)=_
        rw [hp.2,Nat.mul_comm (k / d.C) d.C,Nat.div_add_mod]
  · have e:Z7 (d.ctx adr) (UA d)=0:=by
      unfold Z7
      have e1:JT (fun f=>JT (fun t=>((UA d).bx f t).fs.length) (d.ctx adr).n) (d.ctx adr).n=JT (fun _=>0) (d.ctx adr).n:=DR fun i hi=>by
        have:JT (fun t=>((UA d).bx i t).fs.length) (d.ctx adr).n=JT (fun _=>0) (d.ctx adr).n:=DR fun j hj=>rfl
        rw [this,FP]; simp
      rw [e1,FP]; simp
    omega
theorem yN (h:WO d) {ads:List Nat} {bk:List (Nat×AA)} (hl:ads.length=d.R*d.C) (hw:∀ k (hk:k<ads.length),BM ads[k] bk=some (w0 d k (UO d k d.S.length))) :
    Rep (d.ctx fun i=>ads.getD i 0) (UA d) { p:=d.p,stages:=d.S,workers:=ads.map some,boxes:=[] } bk []:=by
  refine ⟨rfl,rfl,?_,fun k hk=>?_,fun f t _=>rfl,fun q hq=>(by cases hq),fun f t b hb=>(by cases hb),fun q q' b hq _=>(by cases hq),List.nodup_nil,fun q hq=>(by cases hq)⟩
  · refine List.ext_getElem (by simp [Data.ctx,hl]) fun i h1 h2=>?_
    simp only [List.length_map] at h1
    simp [Data.ctx,List.getD_eq_getElem?_getD,h1]
  · have hk':k<ads.length:=by rw [hl]; exact hk
    have e:ads.getD k 0=ads[k]:=by simp [List.getD_eq_getElem?_getD,hk']
    refine ⟨w0 d k (UO d k d.S.length),?_,?_⟩
    · show BM (ads.getD k 0) bk=some _
      rw [e]; exact hw k hk'
    · have hz:QY d (k / d.C) (k % d.C) 0=[]:=by
        unfold QY EJ
        rw [List.filterMap_eq_nil_iff]
        intro t ht
        have b1:=nU h (k / d.C)
        have b2:=nV h (k % d.C)
        obtain ⟨_,cA0,_⟩:=FN h.cA (l:=d.rl (k / d.C)) (u:=d.rl (k / d.C+1)) (c:=0) (d:=0) b1.1 b1.2.1 b1.2.2 (by omega) (by omega) h.cA.c0
        obtain ⟨_,cM0,_⟩:=FN h.cM (l:=d.rl (k / d.C)) (u:=d.rl (k / d.C+1)) (c:=d.cl (k % d.C)) (d:=d.cl (k % d.C+1)) b1.1 b1.2.1 b1.2.2 b2.1 b2.2.1 b2.2.2
        have hin:=cM0.inn t ht
        unfold SD at hin
        unfold JE
        show (KA d.r (bT d (k / d.C) 0 0) _ _ _).map _=none
        unfold bT
        rw [QK cA0 hin.1]
        rfl
      exact ⟨rfl,rfl,rfl,rfl,rfl,Nat.zero_le _,hz.symm,fun s _=>rfl,fun s _=>rfl⟩
theorem yO (h:WO d) {i j:Nat} (hi:i<d.R) (hj:j<d.C) {Q:Rows→Prop} (hQ:Q (BJ (d.rl (i+1) - d.rl i) (d.cl (j+1) - d.cl j) (vG d i j))):PI (BJ d.n d.q d.M) (d.R:Int) (d.C:Int) (i:Int) (j:Int) Q:=by
  have hR:=h.R
  have hC:=h.C
  have hg:iC (d.R:Int) (d.C:Int) (i:Int) (j:Int):=⟨⟨⟨by omega,by omega⟩,by omega,by omega⟩,⟨by omega,by omega⟩,by omega,by omega⟩
  refine kK h.cM ?_
  have b1:=nU h i
  have b2:=nV h j
  obtain ⟨eM,_,_⟩:=FN h.cM (l:=d.rl i) (u:=d.rl (i+1)) (c:=d.cl j) (d:=d.cl (j+1)) b1.1 b1.2.1 b1.2.2 b2.1 b2.2.1 b2.2.2
  unfold AbR
  rw [if_pos hg]
  have e1:CR d.n (d.R:Int) ((i:Int)+1)=d.rl (i+1):=by unfold Data.rl; simp
  have e2:CR d.q (d.C:Int) ((j:Int)+1)=d.cl (j+1):=by unfold Data.cl; simp
  rw [e1,e2]
  show Q (jW d.n d.q d.M (d.rl i,d.rl (i+1)) (d.cl j,d.cl (j+1)))
  rw [eM]
  exact hQ
theorem AaM (h0:DOk0 d) {o2:List (Nat×AF)} {Q0:(Int×List (Nat×AA))→Prop} {Q1:(Int×List (Nat×AA)×AD)→Prop}
    (hQ:∀ (S:List BC) (ads:List Nat) bk,SegSp d.k d.R d.C d.k S→WO (d.wS S)→bS ((d.wS S).ctx fun i=>ads.getD i 0)→Rep ((d.wS S).ctx fun i=>ads.getD i 0) (UA (d.wS S)) { p:=d.p,stages:=S,workers:=ads.map some,boxes:=[] } bk []→Q1 (0,bk,{ p:=d.p,stages:=S,workers:=ads.map some,boxes:=[] })) :
    NB [] o2 d.p Q0 Q1:=by
  have hR:=h0.R
  have hC:=h0.C
  have hn:d.R*d.C≤64:=Nat.mul_le_mul hR.2 hC.2
  unfold NB
  refine yL h0 (AR rfl ?_)
  show JW d.k (d.R:Int) (d.C:Int) _
  refine nY ⟨h0.cA.c0,h0.cA.c1⟩ hR hC fun S hS hSl=>?_
  have h:WO (d.wS S):=h0.seg (hS.ok hSl)
  have ern:((d.R:Int)*(d.C:Int))=((d.R*d.C:Nat):Int):=by simp
  have ewn:AJ ((d.R:Int)*(d.C:Int))=((d.R*d.C:Nat):Int):=by rw [ern,AW (by omega) (by omega)]
  refine FI (fun j (x:List (Option Nat)×Int×List (Nat×AA))=>∃ (ads:List Nat) (bk:List (Nat×AA)),x=(ads.map some,(ads.length:Int),bk)∧ads.length+j=d.R*d.C∧ads.Nodup∧∀ k (hk:k<ads.length),BM ads[k] bk=some (w0 (d.wS S) k (UO (d.wS S) k S.length))) (m0:=d.R*d.C) ⟨[],[],rfl,by simp,List.nodup_nil,fun k hk=>by simp at hk⟩ ?_
  rintro j _ next ⟨ads,bk,rfl,hj,hnd,hw⟩ hnext
  show AP (decide ((ads.length:Int)<AJ ((d.R:Int)*(d.C:Int)))) _ _
  rw [ewn]
  refine AB (fun hk=>?_) (fun hk=>?_)
  · have hk':ads.length<d.R*d.C:=by omega
    generalize hkk:ads.length=k at hk' hj hk
    have hi:k / d.C<d.R:=Nat.div_lt_of_lt_mul (by rw [Nat.mul_comm]; exact hk')
    have hjc:k % d.C<d.C:=Nat.mod_lt _ (by omega)
    have hsC:QL (d.C:Int):=⟨by omega,by omega⟩
    have hk8:k<8*d.C:=Nat.lt_of_lt_of_le hk' (Nat.mul_le_mul_right _ hR.2)
    show SP (d.C:Int) (k:Int) _
    refine bI hsC hk8 ?_
    show V9 (d.C:Int) (k:Int) _
    refine nJ hsC hk8 ?_
    show PI (BJ d.n d.q d.M) (d.R:Int) (d.C:Int) ((k / d.C:Nat):Int) ((k % d.C:Nat):Int) _
    refine yO (d:=d.wS S) h hi hjc ?_
    refine FI (fun j (t:Int×Int×Int×Int×(List Int)×(List Int)×(List Int)×(List BI)×(List (AX×(List AC)))×Int×(List AK)×Int)=>∃ s:Nat,t=pk (w0 (d.wS S) k (UO (d.wS S) k s)) (s:Int)∧s+j=S.length) (m0:=S.length) ⟨0,rfl,by omega⟩ ?_
    rintro j2 _ next2 ⟨s,rfl,hsj⟩ hnext2
    show AP (decide ((s:Int)<(S.length:Int))) _ _
    refine AB (fun hs=>?_) (fun hs=>?_)
    · have hs':s<S.length:=by omega
      refine AV hs' ?_
      have hlen:=eQ h k s
      refine AaI (d:=d.wS S) h (w:=k) (s:=s) hk' hs' (out:=UO (d.wS S) k s) (by omega) ?_
      have ew:AJ ((s:Int)+1)=((s+1:Nat):Int):=by rw [AW (by omega) (by omega)]; simp
      rw [ew,←aM]
      exact hnext2 (j2 - 1) _ (by omega) ⟨s+1,rfl,by omega⟩
    · have hse:s=S.length:=by omega
      subst hse
      intro b hb
      refine BE (by simp; omega) ?_
      have ew:AJ ((k:Int)+1)=(((ads++[b]).length:Nat):Int):=by rw [AW (by omega) (by omega)]; simp [hkk]
      rw [ew]
      have hnew:∀ i (hi:i<ads.length),ads[i]≠b:=fun i hi e=>by have:=hw i hi; rw [e,hb] at this; cases this
      refine hnext (j - 1) _ (by omega) ⟨ads++[b],_,by rw [List.map_append]; rfl,by simp; omega,?_,fun i hi=>?_⟩
      · rw [List.nodup_append]
        refine ⟨hnd,(by simp),fun a ha c hc e=>?_⟩
        rw [List.mem_singleton] at hc
        obtain ⟨i,hi,rfl⟩:=List.getElem_of_mem ha
        exact hnew i hi (e.trans hc)
      · simp only [List.length_append,List.length_singleton] at hi
        by_cases e:i<ads.length
        · rw [List.getElem_append_left e,bJ (hnew i e)]
          exact hw i e
        · have ei:i=k:=by omega
          subst ei
          have:(ads++[b])[i]'(by simp; omega)=b:=by rw [List.getElem_append_right (by omega)]; simp
          rw [this,TV]
  · have hl:ads.length=d.R*d.C:=by omega
    have hinj:∀ i j,i<d.R*d.C→j<d.R*d.C→ads.getD i 0=ads.getD j 0→i=j:=fun i j hi hj e=>by
      have e1:ads.getD i 0=ads[i]'(by omega):=by simp [List.getD_eq_getElem?_getD,show i<ads.length by omega]
      have e2:ads.getD j 0=ads[j]'(by omega):=by simp [List.getD_eq_getElem?_getD,show j<ads.length by omega]
      rw [e1,e2] at e
      exact (List.getElem_inj hnd).1 e
    exact hQ S ads bk hS h (AbX h hinj) (yN (d:=d.wS S) h hl hw)
variable {d:Data} {c:TW} {m:MS} {N:Nat}
def fX (c:TW) (l:List GH) (m:MS):MS:=l.foldl (fun m x=>(m.act c x).2) m
theorem uS (c:TW) (l:List GH) (x:GH) (m:MS):fX c (l++[x]) m=((fX c l m).act c x).2:=by simp [fX]
theorem aN (hc:bS c):∀ (l:List GH) {m:MS},Live c N m→Good c m→Live c N (fX c l m)∧Good c (fX c l m)
  | [],_,h,g=>⟨h,g⟩
  | x :: l,m,h,g=>aN hc l (h.acted hc g x) (g.acted hc x)
abbrev Ab2 (o0:AD) (k:Int) (o1:List (Nat×AA)) (o2:List (Nat×AF)):Int×Int×Int×(List Int)×(List Int)×(List Int)×Int×Int×(List Int)×(List Int)×(List Int)×Int×Int×(List Int)×(List Int)×(List Int)×Int×Int×Int×(List BC)×(List (Option Nat))×(List ((Int×Int)×(Option Nat)))×Int×(List (Nat×AA))×(List (Nat×AF)):=
  (o0.p.Ring,o0.p.A.Rows,o0.p.A.Cols,o0.p.A.Start,o0.p.A.Col,o0.p.A.Val,o0.p.B.Rows,o0.p.B.Cols,o0.p.B.Start,o0.p.B.Col,o0.p.B.Val,o0.p.Mask.Rows,o0.p.Mask.Cols,o0.p.Mask.Start,o0.p.Mask.Col,o0.p.Mask.Val,o0.p.R,o0.p.C,o0.p.Room,o0.stages,o0.workers,o0.boxes,k,o1,o2)
theorem nZ {l:List GH} (hl:l.length≤1048576) (h:∀ x∈l,qF x=true) {Q:Bool→Prop} (hQ:Q false):BR l Q:=by
  unfold BR DJ
  refine DF l.length (by omega) (fun _=>True) trivial (fun i next hi _ hnext=>?_) (fun next _=>?_)
  · refine CD (by simp; omega) (AV hi ?_)
    unfold OD
    refine TZ ?_
    rw [h _ (List.getElem_mem hi)]
    exact AR rfl (hnext trivial)
  · exact AR (by simp) hQ
theorem AbY (h0:DOk0 d) {l:List GH} {w:Nat} (hl:l.length≤1048576) (hmv:∀ x∈l,qF x=true) (hw:w≤1048576)
    (hE:∀ (S:List BC) (ads:List Nat),WO (d.wS S)→bS ((d.wS S).ctx fun i=>ads.getD i 0)→(kO ((d.wS S).ctx fun i=>ads.getD i 0) w (fX ((d.wS S).ctx fun i=>ads.getD i 0) l (UA (d.wS S)))).ended ((d.wS S).ctx fun i=>ads.getD i 0)=true)
    {Q:(Rows×Bool×Int)→Prop} (hQ:Q ((X1 d.r d.n d.q (fW d)).1,true,(X1 d.r d.n d.q (fW d)).2)):SV d.p l (w:Int) Q:=by
  unfold SV
  refine AaM h0 fun S ads bk hS h hc hrep=>?_
  generalize hcc:((d.wS S).ctx fun i=>ads.getD i 0)=c at hc hrep
  have hrk:Rk c:=by rw [←hcc]; exact AcW h _
  have hg:Good c (UA (d.wS S)):=by rw [←hcc]; exact iK h _
  have hli:Live c (QM c (UA (d.wS S))) (UA (d.wS S)):=by rw [←hcc]; exact iL h _
  have hend:=hE S ads h (by rw [hcc]; exact hc)
  rw [hcc] at hend
  refine AR rfl (AR (by simp; omega) (nZ hl hmv (AR rfl (AR (by simp) (AR (by simp; omega) ?_)))))
  refine FI (fun j x=>∃ (i:Nat) (a0:AD) (a1:List (Nat×AA)) (a2:List (Nat×AF)),x=Ab2 a0 (i:Int) a1 a2∧i+j=l.length∧Rep c (fX c (l.take i) (UA (d.wS S))) a0 a1 a2) (m0:=l.length) ⟨0,_,bk,[],rfl,by omega,hrep⟩ ?_
  rintro j _ next ⟨i,a0,a1,a2,rfl,hij,hr⟩ hnext
  show AP (decide ((i:Int)<(l.length:Int))) _ _
  obtain ⟨hlv,hgd⟩:=aN hc (l.take i) hli hg
  refine AB (fun hi=>?_) (fun hi=>?_)
  · have hi':i<l.length:=by omega
    refine AV hi' ?_
    refine AbV hc hrk hr hgd (x:=l[i]) fun b0 b1 b2 hb _=>?_
    have ew:AJ ((i:Int)+1)=((i+1:Nat):Int):=by rw [AW (by omega) (by omega)]; simp
    rw [ew]
    exact hnext (j - 1) _ (by omega) ⟨i+1,b0,b1,b2,rfl,by omega,by rw [List.take_succ_eq_append_getElem hi',uS]; exact hb⟩
  · have hil:i=l.length:=by omega
    subst hil
    rw [List.take_length] at hr hlv hgd
    unfold FR
    refine FI (fun j x=>∃ (i:Nat) (mm:MS) (a0:AD) (a1:List (Nat×AA)) (a2:List (Nat×AF)),x=Ab2 a0 (i:Int) a1 a2∧i+j=w∧Rep c mm a0 a1 a2∧Live c (QM c (UA (d.wS S))) mm∧Good c mm∧kO c j mm=kO c w (fX c l (UA (d.wS S)))) (m0:=w) ⟨0,_,_,a1,a2,rfl,by omega,hr,hlv,hgd,rfl⟩ ?_
    rintro j2 _ next2 ⟨i,mm,b0,b1,b2,rfl,hij2,hrm,hlm,hgm,hrun⟩ hnext2
    have fin:mm.ended c=true→DU b0 b1 fun r2731=>DD b0 b1 fun r2752=>Q (r2731.1,r2752,r2731.2):=fun he=>by
      rw [←hcc] at he hrm hc
      refine kT h hrm he (nT hc hrm ?_)
      rw [he]
      exact hQ
    show AP (decide ((i:Int)<(w:Int))) _ _
    refine AB (fun hi=>?_) (fun hi=>?_)
    · obtain ⟨j3,rfl⟩:∃ j3,j2=j3+1:=⟨j2 - 1,by omega⟩
      refine nT hc hrm ?_
      cases he:mm.ended c with
      | true=>exact AR rfl (fin he)
      | false=>
        refine CD rfl ?_
        refine iG hc hrk hrm hgm fun e0 e1 e2 hre _=>?_
        have ew:AJ ((i:Int)+1)=((i+1:Nat):Int):=by rw [AW (by omega) (by omega)]; simp
        rw [ew]
        refine hnext2 j3 _ (by omega) ⟨i+1,_,e0,e1,e2,rfl,by omega,hre,hlm.window hc hgm,hgm.window hc,?_⟩
        rw [←hrun]
        show _=if mm.ended c=true then mm else kO c j3 (mm.window c).2
        rw [he]
        rfl
    · have:j2=0:=by omega
      subst this
      refine fin ?_
      have:mm=kO c w (fX c l (UA (d.wS S))):=hrun
      rw [this]; exact hend
variable {d:Data} {c:TW} {m:MS} {N:Nat} {o0:AD} {o1:List (Nat×AA)} {o2:List (Nat×AF)}
theorem sX {x:Int} (h:jA .u8 x):∃ n:Nat,1≤n∧n≤4∧AJ (((AJ x).tmod 4)+1)=(n:Int):=by
  have hb:=bounds_u8 h
  rw [AW (x:=x) (by omega) (by omega),Int.tmod_eq_emod_of_nonneg (by omega),AW (by omega) (by omega)]
  exact ⟨(x % 4+1).toNat,by omega,by omega,by omega⟩
theorem qM {d:Data} (h:DOk0 d):kE d.r d.n d.k d.k d.q d.n d.q d.A d.B d.M=X1 d.r d.n d.q (fW d):=by
  have hr:=h.r
  have e:SE d.r d.n d.k d.k d.q d.n d.q d.A d.B d.M=(EJ d.r d.A d.B d.M,0):=by unfold SE; rw [if_neg (by omega),if_neg (by omega)]
  unfold kE
  rw [e]
  rfl
variable {d:Data}
theorem Z9 (g g':Nat→Nat):∀ n,JT (fun i=>g i+g' i) n=JT g n+JT g' n
  | 0=>rfl
  | n+1=>by unfold JT; rw [Z9 g g' n]; omega
theorem iM (g:Nat→Nat) (a:Nat):∀ b,JT g (a+b)=JT g a+JT (fun i=>g (a+i)) b
  | 0=>rfl
  | b+1=>by show JT g (a+b)+g (a+b)=_; rw [iM g a b]; show _=_+(_+g (a+b)); omega
theorem oA {C:Nat} (F:Nat→Nat→Nat) (hC:0<C):∀ R,JT (fun k=>F (k / C) (k % C)) (R*C)=JT (fun i=>JT (fun j=>F i j) C) R
  | 0=>by simp [JT]
  | R+1=>by
    rw [Nat.succ_mul,iM,oA F hC R]
    show _=_+_
    congr 1
    refine DR fun j hj=>?_
    have:=TA (i:=R) hj
    rw [this.1,this.2]
theorem cR {a:Nat} (b:Nat):∀ {n:Nat},a<n→JT (fun i=>if i=a then b else 0) n=b
  | 0,h=>by omega
  | n+1,h=>by
    unfold JT
    by_cases e:a=n
    · subst e
      rw [DR (g:=fun _=>0) fun i hi=>if_neg (by omega),FP,if_pos rfl]; simp
    · rw [cR b (n:=n) (by omega),if_neg (by omega)]; rfl
theorem yP (h:WO d) {s:Nat} (hs:s<d.S.length):JT (fun w=>(OM d w s++NY d w s).length) (d.R*d.C)=2*(d.R*d.C):=by
  have hR:=h.R
  have hC:=h.C
  have hgd:d.S.getD s default=d.S[s]:=by simp [List.getD_eq_getElem?_getD,hs]
  have hrow:=h.seg.row s hs
  have hcol:=h.seg.col s hs
  have e:JT (fun w=>(OM d w s++NY d w s).length) (d.R*d.C)=JT (fun w=>(if w % d.C=d.S[s].Col.toNat then d.C else 0)+(if w / d.C=d.S[s].Row.toNat then d.R else 0)) (d.R*d.C):=DR fun w _=>by
    rw [List.length_append]
    congr 1
    · unfold OM
      rw [hgd]
      by_cases e:w % d.C=d.S[s].Col.toNat
      · rw [if_pos e,if_pos (by omega)]; simp
      · rw [if_neg e,if_neg (by omega)]; rfl
    · unfold NY
      rw [hgd]
      by_cases e:w / d.C=d.S[s].Row.toNat
      · rw [if_pos e,if_pos (by omega)]; simp
      · rw [if_neg e,if_neg (by omega)]; rfl
  rw [e,oA (fun i j=>(if j=d.S[s].Col.toNat then d.C else 0)+(if i=d.S[s].Row.toNat then d.R else 0)) (by omega)]
  have e2:JT (fun i=>JT (fun j=>(if j=d.S[s].Col.toNat then d.C else 0)+(if i=d.S[s].Row.toNat then d.R else 0)) d.C) d.R=JT (fun i=>d.C+(if i=d.S[s].Row.toNat then d.C*d.R else 0)) d.R:=DR fun i _=>by
    rw [Z9,cR d.C (by omega),FP]
    split
    · rfl
    · simp
  rw [e2,Z9,FP,cR (d.C*d.R) (by omega),Nat.mul_comm d.C d.R]
  omega
theorem uT (h:WO d) (adr:Nat→Nat):QM (d.ctx adr) (UA d)=2*(d.R*d.C)*d.S.length:=by
  have key:∀ t,t≤d.S.length→JT (fun w=>(UO d w t).length) (d.R*d.C)=2*(d.R*d.C)*t:=by
    intro t
    induction t with
    | zero=>
      intro _
      have e:JT (fun w=>(UO d w 0).length) (d.R*d.C)=JT (fun _=>0) (d.R*d.C):=DR fun _ _=>rfl
      rw [e,FP]; simp
    | succ t ih=>
      intro ht
      rw [DR (g:=fun w=>(UO d w t).length+(OM d w t++NY d w t).length) fun i _=>by rw [aM,List.length_append],Z9,ih (by omega),yP h (by omega)]
      rw [Nat.mul_succ]
  exact key d.S.length (Nat.le_refl _)
theorem yQ (h:WO d) {adr:Nat→Nat} {m:MS} (hl:Live (d.ctx adr) (QM (d.ctx adr) (UA d)) m) (g:Good (d.ctx adr) m):eK (d.ctx adr) m≤4*(d.R*d.C)*d.S.length+(d.R*d.C)*((d.R*d.C)*d.room):=by
  have h1:=hl.totN
  rw [uT h adr] at h1
  have h2:HN (d.ctx adr) m≤(d.R*d.C)*((d.R*d.C)*d.room):=by
    unfold HN
    refine Nat.le_trans (qG (g:=fun _=>(d.R*d.C)*d.room) fun i hi=>?_) (by rw [FP]; exact Nat.le_refl _)
    refine Nat.le_trans (qG (g:=fun _=>d.room) fun j hj=>(g.room i j hi hj).2) (by rw [FP]; exact Nat.le_refl _)
  unfold eK
  have:4*(d.R*d.C)*d.S.length=2*(2*(d.R*d.C)*d.S.length):=by rw [Nat.mul_assoc 4 (d.R*d.C) d.S.length,Nat.mul_assoc 2 (d.R*d.C) d.S.length]; omega
  omega
theorem UB {x n:Int} (hn:1≤n) {Q:Int→Prop} (hQ:∀ y,0≤y→y<n→Q y):DV x n Q:=by
  unfold DV
  refine AB (fun h=>by omega) fun _=>AB (fun _=>hQ 0 (by omega) (by omega)) fun h=>⟨by omega,?_⟩
  rw [Int.tmod_eq_emod_of_nonneg (by omega)]
  exact hQ _ (Int.emod_nonneg _ (by omega)) (Int.emod_lt_of_pos _ (by omega))
structure Ab3 (n:Int) (l:List GH):Prop where
  len:l.length≤120
  mv:∀ x∈l,qF x=true
  ab:∀ x∈l,(0≤x.A∧x.A<n)∧(0≤x.B∧x.B<n)
theorem uU {a:GI} {n:Int} (hn:1≤n∧n≤64) {Q:List GH→Prop} (hQ:∀ l,Ab3 n l→Q l):HS a n Q:=by
  unfold HS
  refine FI (fun j (x:List GH×Int)=>∃ i:Nat,x.2=(i:Int)∧x.1.length=i∧i+j=120∧Ab3 n x.1) (m0:=120) ⟨0,rfl,rfl,rfl,by decide,fun x hx=>absurd hx (List.not_mem_nil),fun x hx=>absurd hx (List.not_mem_nil)⟩ ?_
  rintro j ⟨l,ix⟩ next ⟨i,hi,hl,hj,hs⟩ hnext
  simp only at hi hl hs
  subst hi
  show AP (decide ((i:Int)<(a.L.length:Int))) _ _
  refine AB (fun h1=>AB (fun h2=>?_) (fun _=>hQ l hs)) (fun _=>hQ l hs)
  refine AV (by omega) (UB (by omega) fun k k0 k1=>UB hn.1 fun A a0 a1=>UB hn.1 fun B b0 b1=>UB (by omega) fun K q0 q1=>BE (by simp; omega) ?_)
  have e1:AJ ((i:Int)+1)=((i+1:Nat):Int):=by rw [AW (by omega) (by omega)]; simp
  have e2:AJ (k+1)=k+1:=AW (by omega) (by omega)
  rw [e1,e2]
  refine hnext (j - 1) _ (by omega) ⟨i+1,rfl,by simp [hl],by omega,⟨by simp; omega,fun x hx=>?_,fun x hx=>?_⟩⟩
  · rcases List.mem_append.1 hx with hx | hx
    · exact hs.mv x hx
    · rw [List.mem_singleton] at hx; subst hx
      unfold qF
      exact decide_eq_true ⟨a0,by dsimp only; omega,b0,by dsimp only; omega,q0,by dsimp only; omega,by dsimp only; omega,by dsimp only; omega⟩
  · rcases List.mem_append.1 hx with hx | hx
    · exact hs.ab x hx
    · rw [List.mem_singleton] at hx; subst hx
      exact ⟨⟨a0,a1⟩,b0,b1⟩
def QN (E:List BN) (a b:Int):Nat:=E.countP fun e=>decide (e.From=a∧e.To=b)
theorem iN (e:BN) (E:List BN) (a b:Int):QN (e :: E) a b=QN E a b+if e.From=a∧e.To=b then 1 else 0:=by
  unfold QN
  rw [List.countP_cons]
  simp
theorem grp (n:Nat) (a:Int) (f:Nat→Nat):∀ (E:List BN),(∀ e∈E,0≤e.To∧e.To<n) →
    (E.map fun e=>if e.From=a then f e.To.toNat else 0).sum=JT (fun j=>QN E a (j:Int)*f j) n
  | [],_=>by
    have e:JT (fun j=>QN [] a (j:Int)*f j) n=JT (fun _=>0) n:=DR fun j _=>by simp [QN]
    rw [e,FP]; simp
  | e :: E,h=>by
    have he:=h e List.mem_cons_self
    have ih:=grp n a f E fun x hx=>h x (List.mem_cons_of_mem _ hx)
    have e2:JT (fun j=>QN (e :: E) a (j:Int)*f j) n=JT (fun j=>QN E a (j:Int)*f j+if j=e.To.toNat then (if e.From=a then f e.To.toNat else 0) else 0) n:=DR fun j _=>by
      rw [iN,Nat.add_mul]
      congr 1
      by_cases ej:j=e.To.toNat
      · subst ej
        rw [if_pos rfl]
        by_cases ea:e.From=a
        · rw [if_pos ⟨ea,by omega⟩,if_pos ea]; simp
        · rw [if_neg (fun h=>ea h.1),if_neg ea]; simp
      · rw [if_neg ej,if_neg (fun h=>ej (by omega))]; simp
    rw [e2,Z9,←ih,cR _ (by omega),List.map_cons,List.sum_cons]
    omega
theorem uV (n:Nat) (a b:Int) (E:List BN) (h:∀ e∈E,0≤e.To∧e.To<n) :
    (E.map fun e=>if e.From=a then QN E e.To b else 0).sum=JT (fun j=>QN E a (j:Int)*QN E (j:Int) b) n:=by
  rw [←grp n a (fun j=>QN E (j:Int) b) E h]
  congr 1
  refine List.map_congr_left fun e he=>?_
  have:=h e he
  rw [Int.toNat_of_nonneg this.1]
def KR (es:List BN):List BN:=(LM (SC 1 (es.map jQ)) vF).1
theorem uW {es:List BN} (h:∀ e∈es,GS e.W):(KR es).length≤es.length:=by
  have:=(RP 1 (es.map jQ) (fun t ht=>by obtain ⟨e,he,rfl⟩:=List.mem_map.1 ht; exact h e he)).1
  unfold KR LM
  split
  · simpa using this
  · simp
theorem ZA {g:CA} {Q:CA→Prop} (hl:g.Edges.length≤1000000) (hv:∀ e∈g.Edges,GS e.W) (hQ:Q ⟨g.N,KR g.Edges⟩):NK g Q:=by
  unfold NK; exact VJ (by omega) hl hv hQ
def yR (e:BN):BN:=⟨e.From,e.To,1⟩
def XT (g:CA):CA:=⟨g.N,KR (g.Edges.map yR)⟩
def Ab4 (g:CA):CA:=⟨g.N,KR (g.Edges.map wQ)⟩
theorem kU {g:CA} {Q:CA→Prop} (hl:g.Edges.length≤1000000) (hQ:Q (XT g)):RH g Q:=by
  unfold RH
  refine BA (fun (s:List BN) i=>(s,i)) 0 g.Edges.length (by omega) (fun i s=>s=(g.Edges.take i).map yR) (by omega) rfl (fun i s next _ hi hm hn=>?_) (fun s next hm=>?_)
  · subst hm
    refine AB (fun _=>AV hi (AV hi (BE (by simp; omega) (hn _ ?_)))) (fun h=>by omega)
    rw [EY hi]; rfl
  · subst hm
    refine AB (fun h=>by omega) (fun _=>?_)
    rw [List.take_length]
    exact ZA (by simpa using hl) (fun e he=>by obtain ⟨x,_,rfl⟩:=List.mem_map.1 he; unfold GS yR; simp) hQ
theorem kV {g:CA} {Q:CA→Prop} (hl:g.Edges.length≤1000000) (hv:∀ e∈g.Edges,GS e.W) (hQ:Q (Ab4 g)):TK g Q:=by
  unfold TK
  refine BA (fun (s:List BN) i=>(s,i)) 0 g.Edges.length (by omega) (fun i s=>s=(g.Edges.take i).map wQ) (by omega) rfl (fun i s next _ hi hm hn=>?_) (fun s next hm=>?_)
  · subst hm
    refine AB (fun _=>AV hi (BE (by simp; omega) (hn _ ?_))) (fun h=>by omega)
    rw [EY hi]; rfl
  · subst hm
    refine AB (fun h=>by omega) (fun _=>?_)
    rw [List.take_length]
    exact ZA (by simpa using hl) (fun e he=>by obtain ⟨x,hx,rfl⟩:=List.mem_map.1 he; exact hv x hx) hQ
theorem kW {g:CA} {Q:Rows×Int→Prop} (hQ:Q (pT g)):RL g Q:=by
  unfold RL
  unfold pT at hQ
  refine XN (EO (fun h=>?_) (fun h=>?_))
  · rwa [if_neg h] at hQ
  rw [if_pos h] at hQ
  have hcan:=bF h
  obtain ⟨h1,h2,h3,h4,h5⟩:=RQ h
  have hv:∀ t∈g.Edges,GS t.W:=fun e he=>by
    have:=h5 e he
    unfold pS at this
    unfold GS
    omega
  refine kV (by omega) hv ?_
  have hkv:(g.Edges.map wQ).map jQ=g.Edges.map kvF:=by rw [List.map_map]; rfl
  unfold Ab4 KR
  rw [hkv]
  have hf1:=(AbJ (SC 1 (g.Edges.map kvF))).1
  have hgl:=hcan.len
  have hgi:=hcan.inn
  unfold FG at hQ hgl hgi
  rw [hf1] at hQ hgl hgi
  generalize (LM (SC 1 (g.Edges.map kvF)) vF).1=es at hQ hgl hgi
  have hel:es.length≤65536:=by simpa using hgl
  refine BA (fun (s:List AC) i=>(s,i)) 0 es.length (by omega) (fun i s=>s=(es.take i).map e2t) (by omega) rfl (fun i s next _ hi hm hn=>?_) (fun s next hm=>?_)
  · subst hm
    dsimp only
    refine AB (fun _=>?_) (fun h=>by omega)
    refine AV hi (AV hi (AV hi (BE ?_ (hn _ ?_))))
    · simp; omega
    · rw [EY hi]; rfl
  · subst hm
    dsimp only
    refine AB (fun h=>by omega) (fun _=>?_)
    rw [List.take_length]
    refine YT h1 (by omega) (by simp; omega) (fun t ht=>?_) hQ
    have:=hgi t ht
    unfold SD at this
    exact ⟨this.1,this.2.1⟩
theorem AbZ (x:Int) {m:Nat} (hm:m<9223372036854775808):0≤qX .i64 x m∧qX .i64 x m≤m:=by
  have h:(BitVec.ofInt 64 x &&& BitVec.ofInt 64 (m:Int)).toNat≤m:=by
    rw [BitVec.toNat_and,BitVec.toNat_ofInt (n:=64) (i:=(m:Int))]
    have hp:((2 ^ 64:Nat):Int)=18446744073709551616:=by decide
    rw [hp,show ((m:Int) % 18446744073709551616).toNat=m by omega]
    exact Nat.and_le_right
  unfold qX
  rw [show IntKind.i64.bits=64 from rfl]
  generalize (BitVec.ofInt 64 x &&& BitVec.ofInt 64 (m:Int)).toNat=k at h
  have e:IntKind.i64.wrap (k:Int)=k:=AW (by omega) (by omega)
  rw [e]; omega
theorem aO {k n:Int} {Q:Int→Prop} (h0:n<1→Q 0) (h1:1≤n→∀ r,0≤r→r<n→Q r):DV k n Q:=by
  unfold DV
  refine AB (fun h=>h0 h) (fun h=>AB (fun h2=>h1 (by omega) 0 (by omega) (by omega)) (fun h2=>⟨by omega,?_⟩))
  rw [Int.tmod_eq_emod_of_nonneg (by omega)]
  exact h1 (by omega) _ (Int.emod_nonneg _ (by omega)) (Int.emod_lt_of_pos _ (by omega))
theorem eR {z:Int} (h:GS z):KP (NT z)=(z,true):=by
  unfold KP NT
  unfold GS at h
  simp only [HG]
  rw [if_pos (by omega)]
  rw [Prod.mk.injEq]
  exact ⟨by omega,rfl⟩
theorem oB {k:EX} {v:AL}:∀ {l:List (EX×AL)} {p:EX×AL},p∈ins 1 k v l→p=(k,v)∨p∈l
  | [],p,h=>by simp [ins] at h; exact .inl h
  | q :: l,p,h=>by
    unfold ins at h
    split at h
    · rcases List.mem_cons.1 h with rfl | h
      · exact .inr (by simp)
      · rcases oB h with h | h
        · exact .inl h
        · exact .inr (by simp [h])
    · split at h
      · rename_i hk
        rcases List.mem_cons.1 h with rfl | h
        · unfold FM
          rw [if_pos (.inl rfl)]
          split
          · right
            obtain ⟨q1,q2⟩:=q
            simp only at hk
            subst hk; simp
          · exact .inl rfl
        · exact .inr (by simp [h])
      · rcases List.mem_cons.1 h with rfl | h
        · exact .inl rfl
        · exact .inr h
theorem AaN:∀ {ts:List (EX×Int)} {p:EX×AL},p∈SC 1 ts→∃ t∈ts,p=(t.1,QH t.2):=by
  suffices ∀ (ts:List (EX×Int)) (l:List (EX×AL)) p,p∈ts.foldl (fun l t=>ins 1 t.1 (QH t.2) l) l→(∃ t∈ts,p=(t.1,QH t.2))∨p∈l from fun {ts p} h=>by
    rcases this ts [] p h with h | h
    · exact h
    · simp at h
  intro ts
  induction ts with
  | nil=>intro l p h; exact .inr h
  | cons t ts ih=>
    intro l p h
    rcases ih _ _ h with ⟨x,hx,e⟩ | hq
    · exact .inl ⟨x,by simp [hx],e⟩
    · rcases oB hq with e2 | h2
      · exact .inl ⟨t,by simp,e2⟩
      · exact .inr h2
theorem aP {es:List BN} (hv:∀ e∈es,GS e.W) {e:BN} (he:e∈KR es):e∈es:=by
  unfold KR LM at he
  split at he
  · obtain ⟨p,hp,rfl⟩:=List.mem_map.1 he
    obtain ⟨t,ht,rfl⟩:=AaN hp
    obtain ⟨x,hx,rfl⟩:=List.mem_map.1 ht
    simp only [jQ]
    rw [jY (hv x hx)]
    exact hx
  · cases he
def TB (n:Int) (es:List BN):Prop:=∀ e∈es,pR n e∧pS e
theorem QO {n:Int} {es:List BN} (h:TB n es):∀ e∈es,GS e.W:=fun e he=>by have:=(h e he).2; unfold pS at this; unfold GS; omega
theorem oC {n:Int} {es:List BN} (h:TB n es):TB n (KR es):=fun e he=>h e (aP (QO h) he)
theorem TC {n:Int} {es:List BN} (h:TB n es):TB n (es.map yR):=fun e he=>by
  obtain ⟨x,hx,rfl⟩:=List.mem_map.1 he
  exact ⟨(h x hx).1,by unfold pS yR; simp⟩
theorem eS {g:CA} (h:OG g=0):TB g.N g.Edges:=fun e he=>⟨(RQ h).2.2.2.1 e he,(RQ h).2.2.2.2 e he⟩
theorem eT {g:CA} (h0:0≤g.N∧g.N≤4096) (hl:g.Edges.length≤65536) (h:TB g.N g.Edges):OG g=0:=by
  unfold OG
  rw [if_neg (by omega),if_neg (by omega),if_neg (fun h'=>h' fun e he=>(h e he).1),if_neg (fun h'=>h' fun e he=>(h e he).2)]
def noL (es:List BN):Prop:=∀ e∈es,e.From≠e.To
theorem eU {g:CA} (h:TB g.N g.Edges):TB (XT g).N (XT g).Edges∧(XT g).Edges.length≤g.Edges.length∧(noL g.Edges→noL (XT g).Edges):=by
  refine ⟨oC (TC h),?_,fun hn e he=>?_⟩
  · have:=uW (QO (TC h)); rwa [List.length_map] at this
  · have:=aP (QO (TC h)) he
    obtain ⟨x,hx,rfl⟩:=List.mem_map.1 this
    exact hn x hx
theorem yS {a:CA} {Q:CA→Prop} (hQ:∀ g:CA,0≤g.N∧g.N≤23→g.Edges.length≤60→OG g=0→Q g):RJ a Q:=by
  unfold RJ
  refine aO (fun h=>by omega) (fun _ n h0 h1=>?_)
  have hend:∀ es:List BN,es.length≤60→TB n es→Q ⟨n,es⟩:=fun es he hg=>hQ _ ⟨h0,by simp only; omega⟩ he (eT (by simp only; omega) (by simp only; omega) hg)
  refine BA (fun (s:List BN) i=>(s,i)) 0 (min a.Edges.length 60) (by omega) (fun i s=>s.length≤i∧TB n s) (by omega) (s0:=[]) ⟨by simp,by intro e he; simp at he⟩ (fun i s next _ hi hm hn=>?_) (fun s next hm=>?_)
  · dsimp only
    refine AB (fun _=>AB (fun _=>AB (fun hn0=>AV (by omega) ?_) (fun _=>hend s (by omega) hm.2)) (fun h=>by omega)) (fun h=>by omega)
    refine aO (fun h=>by omega) fun _ u u0 u1=>aO (fun h=>by omega) fun _ v v0 v1=>BE (by simp; omega) (hn _ ⟨by simp; omega,fun e he=>?_⟩)
    rcases List.mem_append.1 he with h | h
    · exact hm.2 e h
    · rw [List.mem_singleton.1 h]
      have:=AbZ (a.Edges[i]'(by omega)).W (m:=2147483647) (by omega)
      refine ⟨⟨⟨u0,u1⟩,v0,v1⟩,?_⟩
      unfold pS
      simp only; omega
  · dsimp only
    exact AB (fun _=>AB (fun _=>by omega) (fun _=>hend s (by omega) hm.2)) (fun _=>hend s (by omega) hm.2)
def ltE (a b:BN):Prop:=MO (a.From,a.To) (b.From,b.To)
theorem uX {es:List BN} (h:∀ e∈es,GS e.W):(KR es).Pairwise ltE:=by
  unfold KR
  rw [cK (fun t ht=>by obtain ⟨e,he,rfl⟩:=List.mem_map.1 ht; exact h e he)]
  simp only
  rw [List.pairwise_map]
  exact (XL 1 (es.map jQ)).imp fun {a b} hab=>hab
theorem qN {es:List BN} (h:∀ e∈es,GS e.W) (hs:es.Pairwise ltE):KR es=es:=by
  have e1:es.map jQ=(es.map e2t).map cJ:=by rw [List.map_map]; rfl
  have hs':Srt (es.map e2t):=by
    unfold Srt
    rw [List.pairwise_map]
    exact hs.imp fun {a b} hab=>hab
  unfold KR
  rw [cK (fun t ht=>by obtain ⟨e,he,rfl⟩:=List.mem_map.1 ht; exact h e he)]
  simp only
  rw [e1,sF hs',List.map_map,List.map_map]
  conv=>rhs; rw [←List.map_id es]
  refine List.map_congr_left fun e he=>?_
  simp only [Function.comp_apply,e2t,key,id_eq]
  rw [jY (h e he)]
  rfl
theorem uY {g:CA} (h:∀ e∈g.Edges,GS e.W) {t:AC}:t∈FG g↔(⟨t.Col,t.Row,t.Val⟩:BN)∈KR g.Edges:=by
  have hv1:∀ t∈g.Edges.map jQ,GS t.2:=fun t ht=>by obtain ⟨e,he,rfl⟩:=List.mem_map.1 ht; exact h e he
  have hv2:∀ t∈g.Edges.map kvF,GS t.2:=fun t ht=>by obtain ⟨e,he,rfl⟩:=List.mem_map.1 ht; exact h e he
  unfold FG KR
  rw [cK hv1,cK hv2]
  simp only
  rw [List.mem_map,List.mem_map]
  constructor
  · rintro ⟨p,hp,rfl⟩
    obtain ⟨q,hq,rfl⟩:=List.mem_map.1 ((sE g.Edges).mem_iff.2 hp)
    exact ⟨q,hq,rfl⟩
  · rintro ⟨q,hq,he⟩
    refine ⟨sw q,(sE g.Edges).mem_iff.1 (List.mem_map_of_mem hq),?_⟩
    obtain ⟨tr,tc,tv⟩:=t
    unfold vF at he
    simp only [BN.mk.injEq] at he
    obtain ⟨h1,h2,h3⟩:=he
    unfold mL sw
    simp only [AC.mk.injEq]
    exact ⟨h2,h1,h3⟩
end Go.Proofs.YtbohadngdkjljaaGreat
