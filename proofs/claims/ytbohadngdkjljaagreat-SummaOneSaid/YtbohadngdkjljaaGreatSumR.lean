import Derived.Test.YtbohadngdkjljaaGreatSumL
namespace Go.Proofs.YtbohadngdkjljaaGreat
open Go Go.Fw
set_option linter.unusedVariables false
set_option linter.unusedSimpArgs false
variable {d:Data}
def IV (d:Data):MS:={ w:=fun k=>⟨UE d k d.S.length,fun _=>false,fun _=>false,0⟩,bx:=fun _ _=>⟨d.room,[],[],0⟩ }
theorem AdU (h:Z2 d) {adr:Nat→Nat} (hinj:∀ i j,i<d.R*d.C→j<d.R*d.C→adr i=adr j→i=j):dD (d.ctx adr):=by
  have hR:=h.R
  have hC:=h.C
  have hl:=h.seg.len
  exact ⟨Nat.mul_le_mul hR.2 hC.2,rfl,h.room.1,h.room.2,by show d.S.length≤64; omega,hinj⟩
theorem VH {C i j:Nat} (hj:j<C):(i*C+j) / C=i∧(i*C+j) % C=j:=by
  have hC:0<C:=by omega
  constructor
  · rw [Nat.mul_comm,Nat.mul_add_div hC,Nat.div_eq_of_lt hj]; omega
  · rw [Nat.mul_comm,Nat.mul_add_mod,Nat.mod_eq_of_lt hj]
theorem cP {R C i j:Nat} (hi:i<R) (hj:j<C):i*C+j<R*C:=by
  have:(i+1)*C≤R*C:=Nat.mul_le_mul_right _ (by omega)
  rw [Nat.succ_mul] at this; omega
theorem AcN {w t:Nat} {f:BN} (h:f∈UE d w t):∃ s,s<t∧(((d.S.getD s default).Col=((w % d.C:Nat):Int)∧∃ j,j<d.C∧f=tY d w s j)∨(d.S.getD s default).Row=((w / d.C:Nat):Int)∧∃ i,i<d.R∧f=tZ d w s i):=by
  unfold UE at h
  obtain ⟨s,hs,hf⟩:=List.mem_flatMap.1 h
  refine ⟨s,List.mem_range.1 hs,?_⟩
  rcases List.mem_append.1 hf with hf | hf
  · unfold OG at hf
    split at hf
    · rename_i e
      obtain ⟨j,hj,rfl⟩:=List.mem_map.1 hf
      exact .inl ⟨e,j,List.mem_range.1 hj,rfl⟩
    · exact absurd hf (List.not_mem_nil)
  · unfold NP at hf
    split at hf
    · rename_i e
      obtain ⟨j,hj,rfl⟩:=List.mem_map.1 hf
      exact .inr ⟨e,j,List.mem_range.1 hj,rfl⟩
    · exact absurd hf (List.not_mem_nil)
theorem AcO (h:Z2 d) (i:Nat) (a b:Int):(fR d i a b).length≤65536:=by
  have:=h.cA.len
  unfold fR LM
  rw [List.length_map]
  have:=List.length_filter_le (fun t:AC=>decide ((d.rl i≤t.Row∧t.Row<d.rl (i+1))∧(a≤t.Col∧t.Col<b))) d.A
  omega
theorem AcP (h:Z2 d) (i:Nat) (a b:Int):(jC d i a b).length≤65536:=by
  have:=h.cB.len
  unfold jC LM
  rw [List.length_map]
  have:=List.length_filter_le (fun t:AC=>decide ((a≤t.Row∧t.Row<b)∧(d.cl i≤t.Col∧t.Col<d.cl (i+1)))) d.B
  omega
theorem YW (h:Z2 d) (adr:Nat→Nat):Good (d.ctx adr) (IV d):=by
  have hR:=h.R
  have hC:=h.C
  have hl:=h.seg.len
  refine ⟨fun k hk f hf=>?_,fun f t _ _ g hg=>absurd hg (List.not_mem_nil),fun f t _ _=>?_,fun f t _ _=>⟨rfl,Nat.zero_le _⟩⟩
  · have hi:k / d.C<d.R:=Nat.div_lt_of_lt_mul (by rw [Nat.mul_comm]; exact hk)
    have hj:k % d.C<d.C:=Nat.mod_lt _ (by omega)
    obtain ⟨s,hs,⟨_,j,hj',rfl⟩ | ⟨_,i,hi',rfl⟩⟩:=AcN hf
    · have hp:=VH (i:=k / d.C) hj'
      refine ⟨k / d.C*d.C+j,s,cP hi hj',hs,rfl,rfl,⟨rfl,rfl,?_⟩,.inl ⟨rfl,?_⟩⟩
      · have:=AcO h (k / d.C) (CV d.S s) (CV d.S (s+1)); show (fR d _ _ _).length≤_; omega
      · show fR d (k / d.C) _ _=fR d ((k / d.C*d.C+j) / d.C) _ _
        rw [hp.1]
    · have hp:=VH (i:=i) hj
      refine ⟨i*d.C+k % d.C,s,cP hi' hj,hs,rfl,rfl,⟨rfl,rfl,?_⟩,.inr ⟨rfl,?_⟩⟩
      · have:=AcP h (k % d.C) (CV d.S s) (CV d.S (s+1)); show (jC d _ _ _).length≤_; omega
      · show jC d (k % d.C) _ _=jC d ((i*d.C+k % d.C) % d.C) _ _
        rw [hp.2]
  · have:=jG h f d.S.length
    show 0+(UE d f d.S.length).length≤_
    omega
theorem eI (h:Z2 d) (adr:Nat→Nat):Live (d.ctx adr) (OX (d.ctx adr) (IV d)) (IV d):=by
  have hR:=h.R
  have hC:=h.C
  refine ⟨fun f t _ _=>BInv.empty (d.ctx adr),fun k s hk hs=>?_,fun k hk=>⟨Nat.zero_le _,fun hh=>by have:=hh.2.1; cases this⟩,?_⟩
  · have hi:k / d.C<d.R:=Nat.div_lt_of_lt_mul (by rw [Nat.mul_comm]; exact hk)
    have hj:k % d.C<d.C:=Nat.mod_lt _ (by omega)
    have hs':s<d.S.length:=hs
    have hgd:d.S.getD s default=d.S[s]:=by simp [List.getD_eq_getElem?_getD,hs']
    have hrow:=h.seg.row s hs'
    have hcol:=h.seg.col s hs'
    have hmem:∀ {w:Nat} {f:BN},f∈OG d w s++NP d w s→f∈UE d w d.S.length:=fun {w f} hf=>List.mem_flatMap.2 ⟨s,List.mem_range.2 hs',hf⟩
    constructor
    · right
      have hp:=VH (i:=k / d.C) (j:=d.S[s].Col.toNat) (C:=d.C) (by omega)
      refine ⟨k / d.C*d.C+d.S[s].Col.toNat,cP hi (by omega),.inl ⟨tY d (k / d.C*d.C+d.S[s].Col.toNat) s (k % d.C),hmem (List.mem_append.2 (.inl ?_)),rfl,?_,rfl⟩⟩
      · unfold OG
        rw [hgd,hp.2,if_pos (by omega)]
        exact List.mem_map.2 ⟨k % d.C,List.mem_range.2 hj,rfl⟩
      · show (((k / d.C*d.C+d.S[s].Col.toNat) / d.C*d.C+k % d.C:Nat):Int)=_
        rw [hp.1,Nat.mul_comm (k / d.C) d.C,Nat.div_add_mod]
    · right
      have hp:=VH (i:=d.S[s].Row.toNat) (j:=k % d.C) (C:=d.C) hj
      refine ⟨d.S[s].Row.toNat*d.C+k % d.C,cP (by omega) hj,.inl ⟨tZ d (d.S[s].Row.toNat*d.C+k % d.C) s (k / d.C),hmem (List.mem_append.2 (.inr ?_)),rfl,?_,rfl⟩⟩
      · unfold NP
        rw [hgd,hp.1,if_pos (by omega)]
        exact List.mem_map.2 ⟨k / d.C,List.mem_range.2 hi,rfl⟩
      · show ((k / d.C*d.C+(d.S[s].Row.toNat*d.C+k % d.C) % d.C:Nat):Int)=_
        rw [hp.2,Nat.mul_comm (k / d.C) d.C,Nat.div_add_mod]
  · have e:PZ (d.ctx adr) (IV d)=0:=by
      unfold PZ
      have e1:LD (fun f=>LD (fun t=>((IV d).bx f t).fs.length) (d.ctx adr).n) (d.ctx adr).n=LD (fun _=>0) (d.ctx adr).n:=CP fun i hi=>by
        have:LD (fun t=>((IV d).bx i t).fs.length) (d.ctx adr).n=LD (fun _=>0) (d.ctx adr).n:=CP fun j hj=>rfl
        rw [this,EG]; simp
      rw [e1,EG]; simp
    omega
theorem Ab4 (h:Z2 d) {ads:List Nat} {bk:List (Nat×AA)} (hl:ads.length=d.R*d.C) (hw:∀ k (hk:k<ads.length),BS ads[k] bk=some (w0 d k (UE d k d.S.length))) :
    Rep (d.ctx fun i=>ads.getD i 0) (IV d) { p:=d.p,stages:=d.S,workers:=ads.map some,boxes:=[] } bk []:=by
  refine ⟨rfl,rfl,?_,fun k hk=>?_,fun f t _=>rfl,fun q hq=>(by cases hq),fun f t b hb=>(by cases hb),fun q q' b hq _=>(by cases hq),List.nodup_nil,fun q hq=>(by cases hq)⟩
  · refine List.ext_getElem (by simp [Data.ctx,hl]) fun i h1 h2=>?_
    simp only [List.length_map] at h1
    simp [Data.ctx,List.getD_eq_getElem?_getD,h1]
  · have hk':k<ads.length:=by rw [hl]; exact hk
    have e:ads.getD k 0=ads[k]:=by simp [List.getD_eq_getElem?_getD,hk']
    refine ⟨w0 d k (UE d k d.S.length),?_,?_⟩
    · show BS (ads.getD k 0) bk=some _
      rw [e]; exact hw k hk'
    · have hz:TE d (k / d.C) (k % d.C) 0=[]:=by
        unfold TE GO
        rw [List.filterMap_eq_nil_iff]
        intro t ht
        have b1:=rA h (k / d.C)
        have b2:=rB h (k % d.C)
        obtain ⟨_,cA0,_⟩:=GA h.cA (l:=d.rl (k / d.C)) (u:=d.rl (k / d.C+1)) (c:=0) (d:=0) b1.1 b1.2.1 b1.2.2 (by omega) (by omega) h.cA.c0
        obtain ⟨_,cM0,_⟩:=GA h.cM (l:=d.rl (k / d.C)) (u:=d.rl (k / d.C+1)) (c:=d.cl (k % d.C)) (d:=d.cl (k % d.C+1)) b1.1 b1.2.1 b1.2.2 b2.1 b2.2.1 b2.2.2
        have hin:=cM0.inn t ht
        unfold UM at hin
        unfold HF
        show (MV d.r (fR d (k / d.C) 0 0) _ _ _).map _=none
        unfold fR
        rw [VE cA0 hin.1]
        rfl
      exact ⟨rfl,rfl,rfl,rfl,rfl,Nat.zero_le _,hz.symm,fun s _=>rfl,fun s _=>rfl⟩
theorem Ab5 (h:Z2 d) {i j:Nat} (hi:i<d.R) (hj:j<d.C) {Q:Rows→Prop} (hQ:Q (AZ (d.rl (i+1) - d.rl i) (d.cl (j+1) - d.cl j) (yC d i j))):RJ (AZ d.n d.q d.M) (d.R:Int) (d.C:Int) (i:Int) (j:Int) Q:=by
  have hR:=h.R
  have hC:=h.C
  have hg:lK (d.R:Int) (d.C:Int) (i:Int) (j:Int):=⟨⟨⟨by omega,by omega⟩,by omega,by omega⟩,⟨by omega,by omega⟩,by omega,by omega⟩
  refine nQ h.cM ?_
  have b1:=rA h i
  have b2:=rB h j
  obtain ⟨eM,_,_⟩:=GA h.cM (l:=d.rl i) (u:=d.rl (i+1)) (c:=d.cl j) (d:=d.cl (j+1)) b1.1 b1.2.1 b1.2.2 b2.1 b2.2.1 b2.2.2
  unfold AdP
  rw [if_pos hg]
  have e1:CT d.n (d.R:Int) ((i:Int)+1)=d.rl (i+1):=by unfold Data.rl; simp
  have e2:CT d.q (d.C:Int) ((j:Int)+1)=d.cl (j+1):=by unfold Data.cl; simp
  rw [e1,e2]
  show Q (mZ d.n d.q d.M (d.rl i,d.rl (i+1)) (d.cl j,d.cl (j+1)))
  rw [eM]
  exact hQ
theorem oC (h0:DOk0 d) {o2:List (Nat×AF)} {Q0:(Int×List (Nat×AA))→Prop} {Q1:(Int×List (Nat×AA)×AB)→Prop}
    (hQ:∀ (S:List AY) (ads:List Nat) bk,SegSp d.k d.R d.C d.k S→Z2 (d.wS S)→dD ((d.wS S).ctx fun i=>ads.getD i 0)→Rep ((d.wS S).ctx fun i=>ads.getD i 0) (IV (d.wS S)) { p:=d.p,stages:=S,workers:=ads.map some,boxes:=[] } bk []→Q1 (0,bk,{ p:=d.p,stages:=S,workers:=ads.map some,boxes:=[] })) :
    EM [] o2 d.p Q0 Q1:=by
  have hR:=h0.R
  have hC:=h0.C
  have hn:d.R*d.C≤64:=Nat.mul_le_mul hR.2 hC.2
  unfold EM
  refine jF h0 (AV rfl ?_)
  show LH d.k (d.R:Int) (d.C:Int) _
  refine rD ⟨h0.cA.c0,h0.cA.c1⟩ hR hC fun S hS hSl=>?_
  have h:Z2 (d.wS S):=h0.seg (hS.ok hSl)
  have ern:((d.R:Int)*(d.C:Int))=((d.R*d.C:Nat):Int):=by simp
  have ewn:AJ ((d.R:Int)*(d.C:Int))=((d.R*d.C:Nat):Int):=by rw [ern,AX (by omega) (by omega)]
  refine ET (fun j (x:List (Option Nat)×Int×List (Nat×AA))=>∃ (ads:List Nat) (bk:List (Nat×AA)),x=(ads.map some,(ads.length:Int),bk)∧ads.length+j=d.R*d.C∧ads.Nodup∧∀ k (hk:k<ads.length),BS ads[k] bk=some (w0 (d.wS S) k (UE (d.wS S) k S.length))) (m0:=d.R*d.C) ⟨[],[],rfl,by simp,List.nodup_nil,fun k hk=>by simp at hk⟩ ?_
  rintro j _ next ⟨ads,bk,rfl,hj,hnd,hw⟩ hnext
  show AR (decide ((ads.length:Int)<AJ ((d.R:Int)*(d.C:Int)))) _ _
  rw [ewn]
  refine AD (fun hk=>?_) (fun hk=>?_)
  · have hk':ads.length<d.R*d.C:=by omega
    generalize hkk:ads.length=k at hk' hj hk
    have hi:k / d.C<d.R:=Nat.div_lt_of_lt_mul (by rw [Nat.mul_comm]; exact hk')
    have hjc:k % d.C<d.C:=Nat.mod_lt _ (by omega)
    have hsC:ST (d.C:Int):=⟨by omega,by omega⟩
    have hk8:k<8*d.C:=Nat.lt_of_lt_of_le hk' (Nat.mul_le_mul_right _ hR.2)
    show UU (d.C:Int) (k:Int) _
    refine eZ hsC hk8 ?_
    show XM (d.C:Int) (k:Int) _
    refine qP hsC hk8 ?_
    show RJ (AZ d.n d.q d.M) (d.R:Int) (d.C:Int) ((k / d.C:Nat):Int) ((k % d.C:Nat):Int) _
    refine Ab5 (d:=d.wS S) h hi hjc ?_
    refine ET (fun j (t:Int×Int×Int×Int×(List Int)×(List Int)×(List Int)×(List BN)×(List (BB×(List AC)))×Int×(List AK)×Int)=>∃ s:Nat,t=pk (w0 (d.wS S) k (UE (d.wS S) k s)) (s:Int)∧s+j=S.length) (m0:=S.length) ⟨0,rfl,by omega⟩ ?_
    rintro j2 _ next2 ⟨s,rfl,hsj⟩ hnext2
    show AR (decide ((s:Int)<(S.length:Int))) _ _
    refine AD (fun hs=>?_) (fun hs=>?_)
    · have hs':s<S.length:=by omega
      refine BH hs' ?_
      have hlen:=jG h k s
      refine AcM (d:=d.wS S) h (w:=k) (s:=s) hk' hs' (out:=UE (d.wS S) k s) (by omega) ?_
      have ew:AJ ((s:Int)+1)=((s+1:Nat):Int):=by rw [AX (by omega) (by omega)]; simp
      rw [ew,←YV]
      exact hnext2 (j2 - 1) _ (by omega) ⟨s+1,rfl,by omega⟩
    · have hse:s=S.length:=by omega
      subst hse
      intro b hb
      refine BJ (by simp; omega) ?_
      have ew:AJ ((k:Int)+1)=(((ads++[b]).length:Nat):Int):=by rw [AX (by omega) (by omega)]; simp [hkk]
      rw [ew]
      have hnew:∀ i (hi:i<ads.length),ads[i]≠b:=fun i hi e=>by have:=hw i hi; rw [e,hb] at this; cases this
      refine hnext (j - 1) _ (by omega) ⟨ads++[b],_,by rw [List.map_append]; rfl,by simp; omega,?_,fun i hi=>?_⟩
      · rw [List.nodup_append]
        refine ⟨hnd,(by simp),fun a ha c hc e=>?_⟩
        rw [List.mem_singleton] at hc
        obtain ⟨i,hi,rfl⟩:=List.getElem_of_mem ha
        exact hnew i hi (e.trans hc)
      · simp only [List.length_append,List.length_singleton] at hi
        by_cases e:i<ads.length
        · rw [List.getElem_append_left e,fA (hnew i e)]
          exact hw i e
        · have ei:i=k:=by omega
          subst ei
          have:(ads++[b])[i]'(by simp; omega)=b:=by rw [List.getElem_append_right (by omega)]; simp
          rw [this,WK]
  · have hl:ads.length=d.R*d.C:=by omega
    have hinj:∀ i j,i<d.R*d.C→j<d.R*d.C→ads.getD i 0=ads.getD j 0→i=j:=fun i j hi hj e=>by
      have e1:ads.getD i 0=ads[i]'(by omega):=by simp [List.getD_eq_getElem?_getD,show i<ads.length by omega]
      have e2:ads.getD j 0=ads[j]'(by omega):=by simp [List.getD_eq_getElem?_getD,show j<ads.length by omega]
      rw [e1,e2] at e
      exact (List.getElem_inj hnd).1 e
    exact hQ S ads bk hS h (AdU h hinj) (Ab4 (d:=d.wS S) h hl hw)
variable {d:Data} {c:VQ} {m:MS} {N:Nat}
def oD (c:VQ) (l:List FU) (m:MS):MS:=l.foldl (fun m x=>(m.act c x).2) m
theorem xS (c:VQ) (l:List FU) (x:FU) (m:MS):oD c (l++[x]) m=((oD c l m).act c x).2:=by simp [oD]
theorem lT (hc:dD c):∀ (l:List FU) {m:MS},Live c N m→Good c m→Live c N (oD c l m)∧Good c (oD c l m)
  | [],_,h,g=>⟨h,g⟩
  | x :: l,m,h,g=>lT hc l (h.acted hc g x) (g.acted hc x)
abbrev rE (o0:AB) (k:Int) (o1:List (Nat×AA)) (o2:List (Nat×AF)):Int×Int×Int×(List Int)×(List Int)×(List Int)×Int×Int×(List Int)×(List Int)×(List Int)×Int×Int×(List Int)×(List Int)×(List Int)×Int×Int×Int×(List AY)×(List (Option Nat))×(List ((Int×Int)×(Option Nat)))×Int×(List (Nat×AA))×(List (Nat×AF)):=
  (o0.p.Ring,o0.p.A.Rows,o0.p.A.Cols,o0.p.A.Start,o0.p.A.Col,o0.p.A.Val,o0.p.B.Rows,o0.p.B.Cols,o0.p.B.Start,o0.p.B.Col,o0.p.B.Val,o0.p.Mask.Rows,o0.p.Mask.Cols,o0.p.Mask.Start,o0.p.Mask.Col,o0.p.Mask.Val,o0.p.R,o0.p.C,o0.p.Room,o0.stages,o0.workers,o0.boxes,k,o1,o2)
theorem rF {l:List FU} (hl:l.length≤1048576) (h:∀ x∈l,tP x=true) {Q:Bool→Prop} (hQ:Q false):BW l Q:=by
  unfold BW DL
  refine EO l.length (by omega) (fun _=>True) trivial (fun i next hi _ hnext=>?_) (fun next _=>?_)
  · refine BM (by simp; omega) (BH hi ?_)
    unfold QD
    refine cN ?_
    rw [h _ (List.getElem_mem hi)]
    exact AV rfl (hnext trivial)
  · exact AV (by simp) hQ
theorem AdV (h0:DOk0 d) {l:List FU} {w:Nat} (hl:l.length≤1048576) (hmv:∀ x∈l,tP x=true) (hw:w≤1048576)
    (hE:∀ (S:List AY) (ads:List Nat),Z2 (d.wS S)→dD ((d.wS S).ctx fun i=>ads.getD i 0)→(nW ((d.wS S).ctx fun i=>ads.getD i 0) w (oD ((d.wS S).ctx fun i=>ads.getD i 0) l (IV (d.wS S)))).ended ((d.wS S).ctx fun i=>ads.getD i 0)=true)
    {Q:(Rows×Bool×Int)→Prop} (hQ:Q ((ZJ d.r d.n d.q (Z3 d)).1,true,(ZJ d.r d.n d.q (Z3 d)).2)):OQ d.p l (w:Int) Q:=by
  unfold OQ
  refine oC h0 fun S ads bk hS h hc hrep=>?_
  generalize hcc:((d.wS S).ctx fun i=>ads.getD i 0)=c at hc hrep
  have hrk:Rk c:=by rw [←hcc]; exact Ab1 h _
  have hg:Good c (IV (d.wS S)):=by rw [←hcc]; exact YW h _
  have hli:Live c (OX c (IV (d.wS S))) (IV (d.wS S)):=by rw [←hcc]; exact eI h _
  have hend:=hE S ads h (by rw [hcc]; exact hc)
  rw [hcc] at hend
  refine AV rfl (AV (by simp; omega) (rF hl hmv (AV rfl (AV (by simp) (AV (by simp; omega) ?_)))))
  refine ET (fun j x=>∃ (i:Nat) (a0:AB) (a1:List (Nat×AA)) (a2:List (Nat×AF)),x=rE a0 (i:Int) a1 a2∧i+j=l.length∧Rep c (oD c (l.take i) (IV (d.wS S))) a0 a1 a2) (m0:=l.length) ⟨0,_,bk,[],rfl,by omega,hrep⟩ ?_
  rintro j _ next ⟨i,a0,a1,a2,rfl,hij,hr⟩ hnext
  show AR (decide ((i:Int)<(l.length:Int))) _ _
  obtain ⟨hlv,hgd⟩:=lT hc (l.take i) hli hg
  refine AD (fun hi=>?_) (fun hi=>?_)
  · have hi':i<l.length:=by omega
    refine BH hi' ?_
    refine nU hc hrk hr hgd (x:=l[i]) fun b0 b1 b2 hb _=>?_
    have ew:AJ ((i:Int)+1)=((i+1:Nat):Int):=by rw [AX (by omega) (by omega)]; simp
    rw [ew]
    exact hnext (j - 1) _ (by omega) ⟨i+1,b0,b1,b2,rfl,by omega,by rw [List.take_succ_eq_append_getElem hi',xS]; exact hb⟩
  · have hil:i=l.length:=by omega
    subst hil
    rw [List.take_length] at hr hlv hgd
    unfold EV
    refine ET (fun j x=>∃ (i:Nat) (mm:MS) (a0:AB) (a1:List (Nat×AA)) (a2:List (Nat×AF)),x=rE a0 (i:Int) a1 a2∧i+j=w∧Rep c mm a0 a1 a2∧Live c (OX c (IV (d.wS S))) mm∧Good c mm∧nW c j mm=nW c w (oD c l (IV (d.wS S)))) (m0:=w) ⟨0,_,_,a1,a2,rfl,by omega,hr,hlv,hgd,rfl⟩ ?_
    rintro j2 _ next2 ⟨i,mm,b0,b1,b2,rfl,hij2,hrm,hlm,hgm,hrun⟩ hnext2
    have fin:mm.ended c=true→DZ b0 b1 fun r2731=>CB b0 b1 fun r2752=>Q (r2731.1,r2752,r2731.2):=fun he=>by
      rw [←hcc] at he hrm hc
      refine oB h hrm he (Y2 hc hrm ?_)
      rw [he]
      exact hQ
    show AR (decide ((i:Int)<(w:Int))) _ _
    refine AD (fun hi=>?_) (fun hi=>?_)
    · obtain ⟨j3,rfl⟩:∃ j3,j2=j3+1:=⟨j2 - 1,by omega⟩
      refine Y2 hc hrm ?_
      cases he:mm.ended c with
      | true=>exact AV rfl (fin he)
      | false=>
        refine BM rfl ?_
        refine lO hc hrk hrm hgm fun e0 e1 e2 hre _=>?_
        have ew:AJ ((i:Int)+1)=((i+1:Nat):Int):=by rw [AX (by omega) (by omega)]; simp
        rw [ew]
        refine hnext2 j3 _ (by omega) ⟨i+1,_,e0,e1,e2,rfl,by omega,hre,hlm.window hc hgm,hgm.window hc,?_⟩
        rw [←hrun]
        show _=if mm.ended c=true then mm else nW c j3 (mm.window c).2
        rw [he]
        rfl
    · have:j2=0:=by omega
      subst this
      refine fin ?_
      have:mm=nW c w (oD c l (IV (d.wS S))):=hrun
      rw [this]; exact hend
variable {d:Data} {c:VQ} {m:MS} {N:Nat} {o0:AB} {o1:List (Nat×AA)} {o2:List (Nat×AF)}
theorem oE {x:Int} (h:WS .u8 x):∃ n:Nat,1≤n∧n≤4∧AJ (((AJ x).tmod 4)+1)=(n:Int):=by
  have hb:=bounds_u8 h
  rw [AX (x:=x) (by omega) (by omega),Int.tmod_eq_emod_of_nonneg (by omega),AX (by omega) (by omega)]
  exact ⟨(x % 4+1).toNat,by omega,by omega,by omega⟩
theorem AcQ {a:KC} (h:WC a) {Q:BD→Prop} (hQ:∀ d:Data,DOk0 d→d.R≤4→d.C≤4→d.room≤4→Q d.p):LY a Q:=by
  unfold LY
  obtain ⟨h0,hR,hC,hm⟩:=h
  refine AaB h0.2.1 h0.2.2.1.1 h0.2.2.2.1.1 h0.2.2.2.2.1 fun n k q A B M hn hk hq hA hB hM vA vB vM=>pZ ?_
  obtain ⟨R,r1,r2,re⟩:=oE hR
  obtain ⟨C,c1,c2,ce⟩:=oE hC
  obtain ⟨rm,m1,m2,me⟩:=oE hm
  rw [re,ce,me]
  exact hQ ⟨eX a.T.Ring,n,k,q,A,B,M,R,C,rm,[]⟩ ⟨Ac0 _,hA,hB,hM,vA,vB,vM,by show 1≤R∧R≤8; omega,by show 1≤C∧C≤8; omega,by show 1≤rm∧rm≤64; omega⟩ r2 c2 m2
def rG (R C:Nat):Nat:=(R+C)*(R+C)+2
theorem rH (h:DOk0 d) {Q:Int→Prop} (hQ:Q ((rG d.R d.C:Nat):Int)):HC d.p Q:=by
  have hR:=h.R
  have hC:=h.C
  unfold HC
  refine jF h (AV rfl ?_)
  show Q (AJ ((AJ ((AJ ((d.R:Int)+(d.C:Int)))*(AJ ((d.R:Int)+(d.C:Int)))))+2))
  have e1:AJ ((d.R:Int)+(d.C:Int))=((d.R+d.C:Nat):Int):=by rw [AX (by omega) (by omega)]; simp
  have hle:(d.R+d.C)*(d.R+d.C)≤16*16:=Nat.mul_le_mul (by omega) (by omega)
  have e2:((d.R+d.C:Nat):Int)*((d.R+d.C:Nat):Int)=(((d.R+d.C)*(d.R+d.C):Nat):Int):=by simp
  rw [e1,e2,AX (x:=(((d.R+d.C)*(d.R+d.C):Nat):Int)) (by omega) (by omega),AX (by omega) (by omega)]
  unfold rG at hQ
  rw [Int.natCast_add] at hQ
  exact hQ
theorem AcR (h:DOk0 d):rG d.R d.C≤258:=by
  have hle:(d.R+d.C)*(d.R+d.C)≤16*16:=Nat.mul_le_mul (by have:=h.R; have:=h.C; omega) (by have:=h.R; have:=h.C; omega)
  unfold rG; omega
theorem lU (w:Nat):∀ t,(UE d w t).length≤t*(d.R+d.C)
  | 0=>by simp [UE]
  | t+1=>by
    rw [YV,List.length_append]
    have:=lU w t
    have h2:(OG d w t++NP d w t).length≤d.R+d.C:=by
      rw [List.length_append]; unfold OG NP; split <;> split <;> simp <;> omega
    rw [Nat.succ_mul]; omega
theorem Ab6 (h:Z2 d) {adr:Nat→Nat} (hc:dD (d.ctx adr)):(nW (d.ctx adr) (rG d.R d.C) (IV d)).ended (d.ctx adr)=true:=by
  refine lQ hc _ (eI h adr) (YW h adr) (fun _ _ _ _=>rfl) fun k hk=>?_
  have h1:=lU (d:=d) k d.S.length
  have h2:d.S.length*(d.R+d.C)≤(d.R+d.C)*(d.R+d.C):=Nat.mul_le_mul_right _ (by have:=h.seg.len; omega)
  show (UE d k d.S.length).length≤_
  unfold rG; omega
theorem uA (h:DOk0 d) {Q:(Rows×Bool×Int)→Prop} (hQ:Q ((ZJ d.r d.n d.q (Z3 d)).1,true,(ZJ d.r d.n d.q (Z3 d)).2)):OQ d.p [] ((rG d.R d.C:Nat):Int) Q:=
  AdV h (by simp) (fun x hx=>absurd hx (List.not_mem_nil)) (by have:=AcR h; omega) (fun S ads hd hc=>Ab6 hd hc) hQ
theorem rI {n:Nat} (g:Nat→Nat→Nat):∀ (L:List (Int×Int)),L.Nodup→(∀ q∈L,∃ f t:Nat,f<n∧t<n∧q=((f:Int),(t:Int))) →
    (L.map fun q=>g q.1.toNat q.2.toNat).sum=LD (fun f=>LD (fun t=>if ((f:Int),(t:Int))∈L then g f t else 0) n) n
  | [],_,_=>by
    have e:LD (fun f:Nat=>LD (fun t:Nat=>if ((f:Int),(t:Int))∈([]:List (Int×Int)) then g f t else 0) n) n=LD (fun _=>0) n:=CP fun i hi=>by
      have:LD (fun t:Nat=>if ((i:Int),(t:Int))∈([]:List (Int×Int)) then g i t else 0) n=LD (fun _=>0) n:=CP fun j hj=>by simp
      rw [this,EG]; simp
    rw [e,EG]; simp
  | q :: L,hn,hk=>by
    rw [List.nodup_cons] at hn
    obtain ⟨f,t,hf,ht,rfl⟩:=hk q List.mem_cons_self
    have ih:=rI g L hn.2 fun q hq=>hk q (List.mem_cons_of_mem _ hq)
    have h1:=TV (g:=fun j:Nat=>if ((f:Int),(j:Int))∈L then g f j else 0) (g':=fun j:Nat=>if ((f:Int),(j:Int))∈((f:Int),(t:Int)) :: L then g f j else 0) ht (fun i hi=>by
      have:¬((f:Int),(i:Int))=((f:Int),(t:Int)):=by simp; omega
      simp only [List.mem_cons,this,false_or])
    have h2:=TV (g:=fun i:Nat=>LD (fun j:Nat=>if ((i:Int),(j:Int))∈L then g i j else 0) n) (g':=fun i:Nat=>LD (fun j:Nat=>if ((i:Int),(j:Int))∈((f:Int),(t:Int)) :: L then g i j else 0) n) hf (fun i hi=>CP fun j hj=>by
      have:¬((i:Int),(j:Int))=((f:Int),(t:Int)):=by simp; omega
      simp only [List.mem_cons,this,false_or])
    rw [if_neg hn.1] at h1
    rw [if_pos List.mem_cons_self] at h1
    rw [List.map_cons,List.sum_cons,ih]
    simp only [Int.toNat_natCast]
    omega
theorem Ab7 (h:Rep c m o0 o1 o2) (hb:PZ c m≤1000000000) {Q:Int→Prop} (hQ:Q (PZ c m:Int)):FZ o0 o2 Q:=by
  have htot:(o0.boxes.map fun p=>(m.bx p.1.1.toNat p.1.2.toNat).fs.length).sum=PZ c m:=by
    have:=rI (n:=c.n) (fun f t=>(m.bx f t).fs.length) (o0.boxes.map fun p:(Int×Int)×Option Nat=>p.1) h.ks h.kr
    rw [List.map_map] at this
    rw [show (o0.boxes.map fun p=>(m.bx p.1.1.toNat p.1.2.toNat).fs.length)=o0.boxes.map ((fun q:Int×Int=>(m.bx q.1.toNat q.2.toNat).fs.length)∘(·.1)) from rfl,this]
    unfold PZ
    refine CP fun f hf=>CP fun t ht=>?_
    split
    · rfl
    · rename_i hno
      rw [h.no f t (YG hno)]; rfl
  unfold FZ
  refine ET (fun j (x:(List ((Int×Int)×(Option Nat)))×Int)=>∃ dn:List ((Int×Int)×(Option Nat)),o0.boxes.Perm (dn++x.1)∧x.2=((dn.map fun p=>(m.bx p.1.1.toNat p.1.2.toNat).fs.length).sum:Nat)∧x.1.length=j) (m0:=o0.boxes.length) ⟨[],by simp,by simp,rfl⟩ ?_
  rintro j ⟨rest,acc⟩ next ⟨dn,hp,hacc,hj⟩ hnext
  simp only at hp hacc hj
  refine eS (fun hr=>?_) (fun p r hpr=>?_)
  · subst hr
    rw [List.append_nil] at hp
    rw [hacc,← (hp.map _).sum_nat,htot]
    exact hQ
  · have hp2:o0.boxes.Perm ((dn++[p])++r):=hp.trans (by rw [List.append_assoc]; exact (List.Perm.refl dn).append hpr)
    have hmem:p∈o0.boxes:=hp2.mem_iff.2 (by simp)
    obtain ⟨f,t,hf,ht,hq⟩:=h.kr p.1 (List.mem_map_of_mem hmem)
    have hget:BS ((f:Int),(t:Int)) o0.boxes=some p.2:=(HW h.ks).2 (by rw [←hq]; exact hmem)
    have hsum:((dn++[p]).map fun p=>(m.bx p.1.1.toNat p.1.2.toNat).fs.length).sum=(dn.map fun p=>(m.bx p.1.1.toNat p.1.2.toNat).fs.length).sum+(m.bx f t).fs.length:=by
      rw [List.map_append,List.sum_append,List.map_singleton,hq]; simp
    have hle:((dn++[p]).map fun p=>(m.bx p.1.1.toNat p.1.2.toNat).fs.length).sum≤PZ c m:=by
      have e3:=(hp2.map fun p=>(m.bx p.1.1.toNat p.1.2.toNat).fs.length).sum_nat
      rw [htot,List.map_append (l₁:=dn++[p]) (l₂:=r),List.sum_append] at e3
      omega
    unfold OR
    cases hv:p.2 with
    | none=>rw [hv] at hget; exact absurd hget (h.nn _)
    | some b=>
      rw [hv] at hget
      obtain ⟨pb,g1,g2⟩:=h.bx f t b hget
      rw [MW,TU g1]
      refine AcF g2 ?_
      refine hnext r.length _ ?_ ⟨dn++[p],hp2,?_,rfl⟩
      · have:=hpr.length_eq; simp at this; omega
      · simp only
        rw [hsum,hacc,AX (by omega) (by omega)]; simp
def xT:List AC:=[⟨0,1,3⟩,⟨1,0,5⟩]
def AcS:List AC:=[⟨0,0,15⟩,⟨1,1,15⟩]
def Y3:List AY:=[⟨0,1,0,0⟩,⟨1,2,1,0⟩]
def VJ:Data:=⟨5,2,2,2,xT,xT,VF 2 2,2,1,1,[]⟩
theorem aK:Canon 2 2 xT:=⟨by decide,by decide,by decide,by decide,by decide,by unfold Srt; decide,by decide⟩
theorem aL:Canon 2 2 AcS:=⟨by decide,by decide,by decide,by decide,by decide,by unfold Srt; decide,by decide⟩
theorem YX:∀ t∈xT,HJ t.Val:=fun t ht=>by
  unfold xT at ht
  simp only [List.mem_cons,List.not_mem_nil,or_false] at ht
  rcases ht with rfl | rfl <;> (unfold HJ; decide)
theorem AdW:DOk0 VJ:=⟨by decide,aK,aK,eY (n:=2) (m:=2) (by decide) (by decide),YX,YX,fun t ht=>by rw [(dR ht).2]; unfold HJ; omega,by decide,by decide,by decide⟩
theorem AdX {S:List AY} (h:SegSp 2 2 1 2 S) (hl:S.length+1≤3):S=Y3:=by
  have l0:CT 2 ((2:Nat):Int) 0=0:=by decide
  have l1:CT 2 ((2:Nat):Int) 1=1:=by decide
  have l1':CT 2 ((2:Nat):Int) (0+1)=1:=by decide
  match S,h,hl with
  | [],h,_=>exact absurd h.top (by decide)
  | [x],h,_=>
    exfalso
    have t:x.To=2:=h.top
    have r:=h.row 0 (by simp)
    have lo:=(h.lo 0 (by simp)).1
    simp only [List.getElem_cons_zero] at r lo
    have lo:x.From=0:=lo
    rcases (by omega:x.Row=0∨x.Row=1) with e | e
    · rw [e,l1'] at r; omega
    · rw [e,l1] at r; omega
  | [x,y],h,_=>
    have t:y.To=2:=h.top
    have r:=h.row 0 (by simp)
    have r':=h.row 1 (by simp)
    have q:=h.col 0 (by simp)
    have q':=h.col 1 (by simp)
    have lo:=h.lo 0 (by simp)
    have lo':=h.lo 1 (by simp)
    simp only [List.getElem_cons_zero,List.getElem_cons_succ] at r r' q q' lo lo'
    have f1:x.From=0:=lo.1
    have f2:y.From=x.To:=lo'.1
    have e1:x.Row=0:=by
      rcases (by omega:x.Row=0∨x.Row=1) with e | e
      · exact e
      · rw [e,l1] at r; omega
    have e2:y.Row=1:=by
      rcases (by omega:y.Row=0∨y.Row=1) with e | e
      · rw [e,l1'] at r'; omega
      · exact e
    rw [e1,l1'] at r
    obtain ⟨xf,xt,xr,xc⟩:=x
    obtain ⟨yf,yt,yr,yc⟩:=y
    simp only at *
    unfold Y3
    simp only [List.cons.injEq,AY.mk.injEq,and_true]
    omega
  | x :: y :: z :: r,_,hl=>simp at hl
theorem AdY:ZJ 5 2 2 (Z3 VJ)=(AZ 2 2 AcS,0):=by decide
theorem xU {n m:Nat} {Q:Rows→Prop} (hn:n≤13) (hm:m≤13) (hQ:Q (AZ n m (VF n m))):VY n m Q:=by
  unfold VY
  have hv:∀ t∈VF n m,HJ t.Val:=fun t ht=>by rw [(dR ht).2]; unfold HJ; omega
  have hc:=eY (show n≤200 by omega) (show m≤200 by omega)
  refine BE (fun (s:List AC) i=>(s,i)) 0 n (by omega) (fun i s=>s=VF i m) (by omega) rfl (fun i s next _ hi hs hx=>?_) (fun s next hs=>?_)
  · subst hs
    refine AD (fun _=>?_) (fun h=>by omega)
    refine BE (fun (s:List AC) i=>(s,i)) 0 m (by omega) (fun j s=>s=VF i m++ZK i j) (by omega) (by simp [ZK]) (fun j s nx _ hj hs hy=>?_) (fun s nx hs=>?_)
    · subst hs
      refine AD (fun _=>BJ ?_ (hy _ ?_)) (fun h=>by omega)
      · have h1:=Nat.mul_le_mul (show i≤13 by omega) hm
        rw [List.length_append,dQ,ZK,List.length_map,List.length_range,List.length_singleton]
        omega
      · rw [tI,List.append_assoc]
    · subst hs
      refine AD (fun h=>by omega) (fun _=>hx _ ?_)
      rw [iR]
  · subst hs
    refine AD (fun h=>by omega) (fun _=>dM (by have:=hc.len; omega) hv ?_)
    rw [gG hc hv (by omega)]
    exact hQ
theorem xV {Q:Bool→Prop} (hQ:Q true):VZ Q:=by
  unfold VZ
  refine dM (by decide) YX ?_
  rw [show ([({ Row:=0,Col:=1,Val:=3 }:AC),({ Row:=1,Col:=0,Val:=5 }:AC)]:List AC)=xT from rfl,gG aK YX (by decide)]
  refine xU (n:=2) (m:=2) (by decide) (by decide) ?_
  have h0:=AdW
  show EM [] [] VJ.p _ _
  refine oC h0 fun S ads bk hS h hc hrep=>?_
  have hSe:S=Y3:=AdX hS (by have:=h.seg.len; exact this)
  subst hSe
  generalize hcc:((VJ.wS Y3).ctx fun i=>ads.getD i 0)=c at hc hrep
  have hrk:Rk c:=by rw [←hcc]; exact Ab1 h _
  have hg:Good c (IV (VJ.wS Y3)):=by rw [←hcc]; exact YW h _
  have hcn:c.n=2:=by rw [←hcc]; rfl
  have hcs:c.S=Y3:=by rw [←hcc]; rfl
  refine nU hc hrk hrep hg fun b0 b1 b2 hb _=>?_
  have hact:(IV (VJ.wS Y3)).act c { Kind:=1,A:=0,B:=0,K:=0 }=(IV (VJ.wS Y3)).send c 0:=by
    unfold MS.act
    rw [if_neg (by decide),if_pos rfl,if_pos ⟨by decide,by rw [hcn]; decide⟩]
    rfl
  have hg2:=hg.acted hc { Kind:=1,A:=0,B:=0,K:=0 }
  rw [hact] at hb hg2 ⊢
  have hs:=WN (c:=c) (m:=IV (VJ.wS Y3)) (k:=0) (t:=0) (f:=tY (VJ.wS Y3) 0 0 0) (r:=[tZ (VJ.wS Y3) 0 0 0,tZ (VJ.wS Y3) 0 0 1,tY (VJ.wS Y3) 0 1 0]) (by decide) (by decide) (by decide)
  rw [hs] at hb hg2 ⊢
  refine AcJ hc hb (f:=0) (t:=0) (by rw [hcn]; decide) (by rw [hcn]; decide) fun e0 e2 hre _=>?_
  show HC VJ.p _
  refine rH h0 ?_
  show OQ VJ.p [] ((rG 2 1:Nat):Int) _
  refine uA h0 ?_
  have hd:ZJ VJ.r VJ.n VJ.q (Z3 VJ)=(AZ 2 2 AcS,0):=AdY
  rw [hd]
  refine iL aL.sml (FT aL) aL ?_
  have hget:pV AcS 0 0=(15,true):=by decide
  rw [hget]
  unfold EV
  unfold EM GZ
  refine MG (BM rfl (BM rfl ?_))
  unfold DX
  refine BM rfl (BM rfl (BM rfl ?_))
  unfold HN
  rw [hre.S,hcs]
  refine BM rfl ?_
  refine Ab7 hre (by unfold PZ; rw [hcn]; decide) ?_
  have e1:PZ c (DP (CJ (IV (VJ.wS Y3)) 0 0 { (IV (VJ.wS Y3)).bx 0 0 with row:=((IV (VJ.wS Y3)).bx 0 0).row++[((IV (VJ.wS Y3)).bx 0 0).fs.length],fs:=((IV (VJ.wS Y3)).bx 0 0).fs++[{ tY (VJ.wS Y3) 0 0 0 with Seq:=((IV (VJ.wS Y3)).bx 0 0).fs.length }] }) 0 { (IV (VJ.wS Y3)).w 0 with out:=[tZ (VJ.wS Y3) 0 0 0,tZ (VJ.wS Y3) 0 0 1,tY (VJ.wS Y3) 0 1 0] })=1:=by unfold PZ; rw [hcn]; decide
  dsimp only at e1 hre ⊢
  rw [e1]
  refine BM rfl ?_
  refine Y2 hc hre ?_
  have e2:MS.ended c (DP (CJ (IV (VJ.wS Y3)) 0 0 { (IV (VJ.wS Y3)).bx 0 0 with row:=((IV (VJ.wS Y3)).bx 0 0).row++[((IV (VJ.wS Y3)).bx 0 0).fs.length],fs:=((IV (VJ.wS Y3)).bx 0 0).fs++[{ tY (VJ.wS Y3) 0 0 0 with Seq:=((IV (VJ.wS Y3)).bx 0 0).fs.length }] }) 0 { (IV (VJ.wS Y3)).w 0 with out:=[tZ (VJ.wS Y3) 0 0 0,tZ (VJ.wS Y3) 0 0 1,tY (VJ.wS Y3) 0 1 0] })=false:=by unfold MS.ended; rw [hcn,hcs]; decide
  dsimp only at e2
  rw [e2]
  refine BM rfl (BM rfl (BM rfl (BM rfl (BM rfl (BM rfl (BM rfl ?_))))))
  show HC VJ.p _
  refine rH h0 (BM rfl ?_)
  refine nT hre ?_
  rw [if_pos ⟨by decide,by rw [hcn]; decide⟩]
  refine BM (by decide) ?_
  refine AaZ hre (k:=0) (by rw [hcn]; decide) ?_
  refine BM (by decide) ?_
  have hfin:=jF h0 (Q:=fun r=>Q (r==0)) hQ
  unfold GZ at hfin
  exact hfin
variable {d:Data}
theorem gI (g g':Nat→Nat):∀ n,LD (fun i=>g i+g' i) n=LD g n+LD g' n
  | 0=>rfl
  | n+1=>by unfold LD; rw [gI g g' n]; omega
theorem lV (g:Nat→Nat) (a:Nat):∀ b,LD g (a+b)=LD g a+LD (fun i=>g (a+i)) b
  | 0=>rfl
  | b+1=>by show LD g (a+b)+g (a+b)=_; rw [lV g a b]; show _=_+(_+g (a+b)); omega
theorem rJ {C:Nat} (F:Nat→Nat→Nat) (hC:0<C):∀ R,LD (fun k=>F (k / C) (k % C)) (R*C)=LD (fun i=>LD (fun j=>F i j) C) R
  | 0=>by simp [LD]
  | R+1=>by
    rw [Nat.succ_mul,lV,rJ F hC R]
    show _=_+_
    congr 1
    refine CP fun j hj=>?_
    have:=VH (i:=R) hj
    rw [this.1,this.2]
theorem oF {a:Nat} (b:Nat):∀ {n:Nat},a<n→LD (fun i=>if i=a then b else 0) n=b
  | 0,h=>by omega
  | n+1,h=>by
    unfold LD
    by_cases e:a=n
    · subst e
      rw [CP (g:=fun _=>0) fun i hi=>if_neg (by omega),EG,if_pos rfl]; simp
    · rw [oF b (n:=n) (by omega),if_neg (by omega)]; rfl
theorem Ab8 (h:Z2 d) {s:Nat} (hs:s<d.S.length):LD (fun w=>(OG d w s++NP d w s).length) (d.R*d.C)=2*(d.R*d.C):=by
  have hR:=h.R
  have hC:=h.C
  have hgd:d.S.getD s default=d.S[s]:=by simp [List.getD_eq_getElem?_getD,hs]
  have hrow:=h.seg.row s hs
  have hcol:=h.seg.col s hs
  have e:LD (fun w=>(OG d w s++NP d w s).length) (d.R*d.C)=LD (fun w=>(if w % d.C=d.S[s].Col.toNat then d.C else 0)+(if w / d.C=d.S[s].Row.toNat then d.R else 0)) (d.R*d.C):=CP fun w _=>by
    rw [List.length_append]
    congr 1
    · unfold OG
      rw [hgd]
      by_cases e:w % d.C=d.S[s].Col.toNat
      · rw [if_pos e,if_pos (by omega)]; simp
      · rw [if_neg e,if_neg (by omega)]; rfl
    · unfold NP
      rw [hgd]
      by_cases e:w / d.C=d.S[s].Row.toNat
      · rw [if_pos e,if_pos (by omega)]; simp
      · rw [if_neg e,if_neg (by omega)]; rfl
  rw [e,rJ (fun i j=>(if j=d.S[s].Col.toNat then d.C else 0)+(if i=d.S[s].Row.toNat then d.R else 0)) (by omega)]
  have e2:LD (fun i=>LD (fun j=>(if j=d.S[s].Col.toNat then d.C else 0)+(if i=d.S[s].Row.toNat then d.R else 0)) d.C) d.R=LD (fun i=>d.C+(if i=d.S[s].Row.toNat then d.C*d.R else 0)) d.R:=CP fun i _=>by
    rw [gI,oF d.C (by omega),EG]
    split
    · rfl
    · simp
  rw [e2,gI,EG,oF (d.C*d.R) (by omega),Nat.mul_comm d.C d.R]
  omega
theorem xW (h:Z2 d) (adr:Nat→Nat):OX (d.ctx adr) (IV d)=2*(d.R*d.C)*d.S.length:=by
  have key:∀ t,t≤d.S.length→LD (fun w=>(UE d w t).length) (d.R*d.C)=2*(d.R*d.C)*t:=by
    intro t
    induction t with
    | zero=>
      intro _
      have e:LD (fun w=>(UE d w 0).length) (d.R*d.C)=LD (fun _=>0) (d.R*d.C):=CP fun _ _=>rfl
      rw [e,EG]; simp
    | succ t ih=>
      intro ht
      rw [CP (g:=fun w=>(UE d w t).length+(OG d w t++NP d w t).length) fun i _=>by rw [YV,List.length_append],gI,ih (by omega),Ab8 h (by omega)]
      rw [Nat.mul_succ]
  exact key d.S.length (Nat.le_refl _)
theorem Ab9 (h:Z2 d) {adr:Nat→Nat} {m:MS} (hl:Live (d.ctx adr) (OX (d.ctx adr) (IV d)) m) (g:Good (d.ctx adr) m):fB (d.ctx adr) m≤4*(d.R*d.C)*d.S.length+(d.R*d.C)*((d.R*d.C)*d.room):=by
  have h1:=hl.totN
  rw [xW h adr] at h1
  have h2:HQ (d.ctx adr) m≤(d.R*d.C)*((d.R*d.C)*d.room):=by
    unfold HQ
    refine Nat.le_trans (tQ (g:=fun _=>(d.R*d.C)*d.room) fun i hi=>?_) (by rw [EG]; exact Nat.le_refl _)
    refine Nat.le_trans (tQ (g:=fun _=>d.room) fun j hj=>(g.room i j hi hj).2) (by rw [EG]; exact Nat.le_refl _)
  unfold fB
  have:4*(d.R*d.C)*d.S.length=2*(2*(d.R*d.C)*d.S.length):=by rw [Nat.mul_assoc 4 (d.R*d.C) d.S.length,Nat.mul_assoc 2 (d.R*d.C) d.S.length]; omega
  omega
theorem WP {x n:Int} (hn:1≤n) {Q:Int→Prop} (hQ:∀ y,0≤y→y<n→Q y):IJ x n Q:=by
  unfold IJ
  refine AD (fun h=>by omega) fun _=>AD (fun _=>hQ 0 (by omega) (by omega)) fun h=>⟨by omega,?_⟩
  rw [Int.tmod_eq_emod_of_nonneg (by omega)]
  exact hQ _ (Int.emod_nonneg _ (by omega)) (Int.emod_lt_of_pos _ (by omega))
structure Ad2 (n:Int) (l:List FU):Prop where
  len:l.length≤120
  mv:∀ x∈l,tP x=true
  ab:∀ x∈l,(0≤x.A∧x.A<n)∧(0≤x.B∧x.B<n)
theorem xX {a:GX} {n:Int} (hn:1≤n∧n≤64) {Q:List FU→Prop} (hQ:∀ l,Ad2 n l→Q l):IP a n Q:=by
  unfold IP
  refine ET (fun j (x:List FU×Int)=>∃ i:Nat,x.2=(i:Int)∧x.1.length=i∧i+j=120∧Ad2 n x.1) (m0:=120) ⟨0,rfl,rfl,rfl,by decide,fun x hx=>absurd hx (List.not_mem_nil),fun x hx=>absurd hx (List.not_mem_nil)⟩ ?_
  rintro j ⟨l,ix⟩ next ⟨i,hi,hl,hj,hs⟩ hnext
  simp only at hi hl hs
  subst hi
  show AR (decide ((i:Int)<(a.L.length:Int))) _ _
  refine AD (fun h1=>AD (fun h2=>?_) (fun _=>hQ l hs)) (fun _=>hQ l hs)
  refine BH (by omega) (WP (by omega) fun k k0 k1=>WP hn.1 fun A a0 a1=>WP hn.1 fun B b0 b1=>WP (by omega) fun K q0 q1=>BJ (by simp; omega) ?_)
  have e1:AJ ((i:Int)+1)=((i+1:Nat):Int):=by rw [AX (by omega) (by omega)]; simp
  have e2:AJ (k+1)=k+1:=AX (by omega) (by omega)
  rw [e1,e2]
  refine hnext (j - 1) _ (by omega) ⟨i+1,rfl,by simp [hl],by omega,⟨by simp; omega,fun x hx=>?_,fun x hx=>?_⟩⟩
  · rcases List.mem_append.1 hx with hx | hx
    · exact hs.mv x hx
    · rw [List.mem_singleton] at hx; subst hx
      unfold tP
      exact decide_eq_true ⟨a0,by dsimp only; omega,b0,by dsimp only; omega,q0,by dsimp only; omega,by dsimp only; omega,by dsimp only; omega⟩
  · rcases List.mem_append.1 hx with hx | hx
    · exact hs.ab x hx
    · rw [List.mem_singleton] at hx; subst hx
      exact ⟨⟨a0,a1⟩,b0,b1⟩
end Go.Proofs.YtbohadngdkjljaaGreat
