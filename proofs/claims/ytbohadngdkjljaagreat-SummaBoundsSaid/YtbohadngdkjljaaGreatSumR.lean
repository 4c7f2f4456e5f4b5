import Derived.Test.YtbohadngdkjljaaGreatSumL
namespace Go.Proofs.YtbohadngdkjljaaGreat
open Go Go.Fw
set_option linter.unusedVariables false
set_option linter.unusedSimpArgs false
variable {d:Data}
def JA (d:Data):MS:={ w:=fun k=>⟨TH d k d.S.length,fun _=>false,fun _=>false,0⟩,bx:=fun _ _=>⟨d.room,[],[],0⟩ }
theorem AcV (h:YS d) {adr:Nat→Nat} (hinj:∀ i j,i<d.R*d.C→j<d.R*d.C→adr i=adr j→i=j):dQ (d.ctx adr):=by
  have hR:=h.R
  have hC:=h.C
  have hl:=h.seg.len
  exact ⟨Nat.mul_le_mul hR.2 hC.2,rfl,h.room.1,h.room.2,by show d.S.length≤64; omega,hinj⟩
theorem UJ {C i j:Nat} (hj:j<C):(i*C+j) / C=i∧(i*C+j) % C=j:=by
  have hC:0<C:=by omega
  constructor
  · rw [Nat.mul_comm,Nat.mul_add_div hC,Nat.div_eq_of_lt hj]; omega
  · rw [Nat.mul_comm,Nat.mul_add_mod,Nat.mod_eq_of_lt hj]
theorem bD {R C i j:Nat} (hi:i<R) (hj:j<C):i*C+j<R*C:=by
  have:(i+1)*C≤R*C:=Nat.mul_le_mul_right _ (by omega)
  rw [Nat.succ_mul] at this; omega
theorem AbO {w t:Nat} {f:BL} (h:f∈TH d w t):∃ s,s<t∧(((d.S.getD s default).Col=((w % d.C:Nat):Int)∧∃ j,j<d.C∧f=sJ d w s j)∨(d.S.getD s default).Row=((w / d.C:Nat):Int)∧∃ i,i<d.R∧f=sK d w s i):=by
  unfold TH at h
  obtain ⟨s,hs,hf⟩:=List.mem_flatMap.1 h
  refine ⟨s,List.mem_range.1 hs,?_⟩
  rcases List.mem_append.1 hf with hf | hf
  · unfold NN at hf
    split at hf
    · rename_i e
      obtain ⟨j,hj,rfl⟩:=List.mem_map.1 hf
      exact .inl ⟨e,j,List.mem_range.1 hj,rfl⟩
    · exact absurd hf (List.not_mem_nil)
  · unfold MW at hf
    split at hf
    · rename_i e
      obtain ⟨j,hj,rfl⟩:=List.mem_map.1 hf
      exact .inr ⟨e,j,List.mem_range.1 hj,rfl⟩
    · exact absurd hf (List.not_mem_nil)
theorem AbP (h:YS d) (i:Nat) (a b:Int):(eG d i a b).length≤65536:=by
  have:=h.cA.len
  unfold eG KT
  rw [List.length_map]
  have:=List.length_filter_le (fun t:AC=>decide ((d.rl i≤t.Row∧t.Row<d.rl (i+1))∧(a≤t.Col∧t.Col<b))) d.A
  omega
theorem AbQ (h:YS d) (i:Nat) (a b:Int):(gY d i a b).length≤65536:=by
  have:=h.cB.len
  unfold gY KT
  rw [List.length_map]
  have:=List.length_filter_le (fun t:AC=>decide ((a≤t.Row∧t.Row<b)∧(d.cl i≤t.Col∧t.Col<d.cl (i+1)))) d.B
  omega
theorem Y4 (h:YS d) (adr:Nat→Nat):Good (d.ctx adr) (JA d):=by
  have hR:=h.R
  have hC:=h.C
  have hl:=h.seg.len
  refine ⟨fun k hk f hf=>?_,fun f t _ _ g hg=>absurd hg (List.not_mem_nil),fun f t _ _=>?_,fun f t _ _=>⟨rfl,Nat.zero_le _⟩⟩
  · have hi:k / d.C<d.R:=Nat.div_lt_of_lt_mul (by rw [Nat.mul_comm]; exact hk)
    have hj:k % d.C<d.C:=Nat.mod_lt _ (by omega)
    obtain ⟨s,hs,⟨_,j,hj',rfl⟩ | ⟨_,i,hi',rfl⟩⟩:=AbO hf
    · have hp:=UJ (i:=k / d.C) hj'
      refine ⟨k / d.C*d.C+j,s,bD hi hj',hs,rfl,rfl,⟨rfl,rfl,?_⟩,.inl ⟨rfl,?_⟩⟩
      · have:=AbP h (k / d.C) (CT d.S s) (CT d.S (s+1)); show (eG d _ _ _).length≤_; omega
      · show eG d (k / d.C) _ _=eG d ((k / d.C*d.C+j) / d.C) _ _
        rw [hp.1]
    · have hp:=UJ (i:=i) hj
      refine ⟨i*d.C+k % d.C,s,bD hi' hj,hs,rfl,rfl,⟨rfl,rfl,?_⟩,.inr ⟨rfl,?_⟩⟩
      · have:=AbQ h (k % d.C) (CT d.S s) (CT d.S (s+1)); show (gY d _ _ _).length≤_; omega
      · show gY d (k % d.C) _ _=gY d ((i*d.C+k % d.C) % d.C) _ _
        rw [hp.2]
  · have:=hZ h f d.S.length
    show 0+(TH d f d.S.length).length≤_
    omega
theorem cT (h:YS d) (adr:Nat→Nat):Live (d.ctx adr) (UI (d.ctx adr) (JA d)) (JA d):=by
  have hR:=h.R
  have hC:=h.C
  refine ⟨fun f t _ _=>BInv.empty (d.ctx adr),fun k s hk hs=>?_,fun k hk=>⟨Nat.zero_le _,fun hh=>by have:=hh.2.1; cases this⟩,?_⟩
  · have hi:k / d.C<d.R:=Nat.div_lt_of_lt_mul (by rw [Nat.mul_comm]; exact hk)
    have hj:k % d.C<d.C:=Nat.mod_lt _ (by omega)
    have hs':s<d.S.length:=hs
    have hgd:d.S.getD s default=d.S[s]:=by simp [List.getD_eq_getElem?_getD,hs']
    have hrow:=h.seg.row s hs'
    have hcol:=h.seg.col s hs'
    have hmem:∀ {w:Nat} {f:BL},f∈NN d w s++MW d w s→f∈TH d w d.S.length:=fun {w f} hf=>List.mem_flatMap.2 ⟨s,List.mem_range.2 hs',hf⟩
    constructor
    · right
      have hp:=UJ (i:=k / d.C) (j:=d.S[s].Col.toNat) (C:=d.C) (by omega)
      refine ⟨k / d.C*d.C+d.S[s].Col.toNat,bD hi (by omega),.inl ⟨sJ d (k / d.C*d.C+d.S[s].Col.toNat) s (k % d.C),hmem (List.mem_append.2 (.inl ?_)),rfl,?_,rfl⟩⟩
      · unfold NN
        rw [hgd,hp.2,if_pos (by omega)]
        exact List.mem_map.2 ⟨k % d.C,List.mem_range.2 hj,rfl⟩
      · show (((k / d.C*d.C+d.S[s].Col.toNat) / d.C*d.C+k % d.C:Nat):Int)=_
        rw [hp.1,Nat.mul_comm (k / d.C) d.C,Nat.div_add_mod]
    · right
      have hp:=UJ (i:=d.S[s].Row.toNat) (j:=k % d.C) (C:=d.C) hj
      refine ⟨d.S[s].Row.toNat*d.C+k % d.C,bD (by omega) hj,.inl ⟨sK d (d.S[s].Row.toNat*d.C+k % d.C) s (k / d.C),hmem (List.mem_append.2 (.inr ?_)),rfl,?_,rfl⟩⟩
      · unfold MW
        rw [hgd,hp.1,if_pos (by omega)]
        exact List.mem_map.2 ⟨k / d.C,List.mem_range.2 hi,rfl⟩
      · show ((k / d.C*d.C+(d.S[s].Row.toNat*d.C+k % d.C) % d.C:Nat):Int)=_
        rw [hp.2,Nat.mul_comm (k / d.C) d.C,Nat.div_add_mod]
  · have e:MV (d.ctx adr) (JA d)=0:=by
      unfold MV
      have e1:LG (fun f=>LG (fun t=>((JA d).bx f t).fs.length) (d.ctx adr).n) (d.ctx adr).n=LG (fun _=>0) (d.ctx adr).n:=DT fun i hi=>by
        have:LG (fun t=>((JA d).bx i t).fs.length) (d.ctx adr).n=LG (fun _=>0) (d.ctx adr).n:=DT fun j hj=>rfl
        rw [this,GM]; simp
      rw [e1,GM]; simp
    omega
theorem Aa6 (h:YS d) {ads:List Nat} {bk:List (Nat×AA)} (hl:ads.length=d.R*d.C) (hw:∀ k (hk:k<ads.length),BP ads[k] bk=some (w0 d k (TH d k d.S.length))) :
    Rep (d.ctx fun i=>ads.getD i 0) (JA d) { p:=d.p,stages:=d.S,workers:=ads.map some,boxes:=[] } bk []:=by
  refine ⟨rfl,rfl,?_,fun k hk=>?_,fun f t _=>rfl,fun q hq=>(by cases hq),fun f t b hb=>(by cases hb),fun q q' b hq _=>(by cases hq),List.nodup_nil,fun q hq=>(by cases hq)⟩
  · refine List.ext_getElem (by simp [Data.ctx,hl]) fun i h1 h2=>?_
    simp only [List.length_map] at h1
    simp [Data.ctx,List.getD_eq_getElem?_getD,h1]
  · have hk':k<ads.length:=by rw [hl]; exact hk
    have e:ads.getD k 0=ads[k]:=by simp [List.getD_eq_getElem?_getD,hk']
    refine ⟨w0 d k (TH d k d.S.length),?_,?_⟩
    · show BP (ads.getD k 0) bk=some _
      rw [e]; exact hw k hk'
    · have hz:SG d (k / d.C) (k % d.C) 0=[]:=by
        unfold SG GH
        rw [List.filterMap_eq_nil_iff]
        intro t ht
        have b1:=pS h (k / d.C)
        have b2:=pT h (k % d.C)
        obtain ⟨_,cA0,_⟩:=FX h.cA (l:=d.rl (k / d.C)) (u:=d.rl (k / d.C+1)) (c:=0) (d:=0) b1.1 b1.2.1 b1.2.2 (by omega) (by omega) h.cA.c0
        obtain ⟨_,cM0,_⟩:=FX h.cM (l:=d.rl (k / d.C)) (u:=d.rl (k / d.C+1)) (c:=d.cl (k % d.C)) (d:=d.cl (k % d.C+1)) b1.1 b1.2.1 b1.2.2 b2.1 b2.2.1 b2.2.2
        have hin:=cM0.inn t ht
        unfold UD at hin
        unfold KU
        show (NL d.r (eG d (k / d.C) 0 0) _ _ _).map _=none
        unfold eG
        rw [UG cA0 hin.1]
        rfl
      exact ⟨rfl,rfl,rfl,rfl,rfl,Nat.zero_le _,hz.symm,fun s _=>rfl,fun s _=>rfl⟩
theorem Aa7 (h:YS d) {i j:Nat} (hi:i<d.R) (hj:j<d.C) {Q:Rows→Prop} (hQ:Q (BF (d.rl (i+1) - d.rl i) (d.cl (j+1) - d.cl j) (wV d i j))):QN (BF d.n d.q d.M) (d.R:Int) (d.C:Int) (i:Int) (j:Int) Q:=by
  have hR:=h.R
  have hC:=h.C
  have hg:kF (d.R:Int) (d.C:Int) (i:Int) (j:Int):=⟨⟨⟨by omega,by omega⟩,by omega,by omega⟩,⟨by omega,by omega⟩,by omega,by omega⟩
  refine mK h.cM ?_
  have b1:=pS h i
  have b2:=pT h j
  obtain ⟨eM,_,_⟩:=FX h.cM (l:=d.rl i) (u:=d.rl (i+1)) (c:=d.cl j) (d:=d.cl (j+1)) b1.1 b1.2.1 b1.2.2 b2.1 b2.2.1 b2.2.2
  unfold AcQ
  rw [if_pos hg]
  have e1:CP d.n (d.R:Int) ((i:Int)+1)=d.rl (i+1):=by unfold Data.rl; simp
  have e2:CP d.q (d.C:Int) ((j:Int)+1)=d.cl (j+1):=by unfold Data.cl; simp
  rw [e1,e2]
  show Q (lW d.n d.q d.M (d.rl i,d.rl (i+1)) (d.cl j,d.cl (j+1)))
  rw [eM]
  exact hQ
theorem mU (h0:DOk0 d) {o2:List (Nat×AF)} {Q0:(Int×List (Nat×AA))→Prop} {Q1:(Int×List (Nat×AA)×AB)→Prop}
    (hQ:∀ (S:List AY) (ads:List Nat) bk,SegSp d.k d.R d.C d.k S→YS (d.wS S)→dQ ((d.wS S).ctx fun i=>ads.getD i 0)→Rep ((d.wS S).ctx fun i=>ads.getD i 0) (JA (d.wS S)) { p:=d.p,stages:=S,workers:=ads.map some,boxes:=[] } bk []→Q1 (0,bk,{ p:=d.p,stages:=S,workers:=ads.map some,boxes:=[] })) :
    EJ [] o2 d.p Q0 Q1:=by
  have hR:=h0.R
  have hC:=h0.C
  have hn:d.R*d.C≤64:=Nat.mul_le_mul hR.2 hC.2
  unfold EJ
  refine hU h0 (AW rfl ?_)
  show KP d.k (d.R:Int) (d.C:Int) _
  refine pW ⟨h0.cA.c0,h0.cA.c1⟩ hR hC fun S hS hSl=>?_
  have h:YS (d.wS S):=h0.seg (hS.ok hSl)
  have ern:((d.R:Int)*(d.C:Int))=((d.R*d.C:Nat):Int):=by simp
  have ewn:AJ ((d.R:Int)*(d.C:Int))=((d.R*d.C:Nat):Int):=by rw [ern,AV (by omega) (by omega)]
  refine EP (fun j (x:List (Option Nat)×Int×List (Nat×AA))=>∃ (ads:List Nat) (bk:List (Nat×AA)),x=(ads.map some,(ads.length:Int),bk)∧ads.length+j=d.R*d.C∧ads.Nodup∧∀ k (hk:k<ads.length),BP ads[k] bk=some (w0 (d.wS S) k (TH (d.wS S) k S.length))) (m0:=d.R*d.C) ⟨[],[],rfl,by simp,List.nodup_nil,fun k hk=>by simp at hk⟩ ?_
  rintro j _ next ⟨ads,bk,rfl,hj,hnd,hw⟩ hnext
  show AQ (decide ((ads.length:Int)<AJ ((d.R:Int)*(d.C:Int)))) _ _
  rw [ewn]
  refine AD (fun hk=>?_) (fun hk=>?_)
  · have hk':ads.length<d.R*d.C:=by omega
    generalize hkk:ads.length=k at hk' hj hk
    have hi:k / d.C<d.R:=Nat.div_lt_of_lt_mul (by rw [Nat.mul_comm]; exact hk')
    have hjc:k % d.C<d.C:=Nat.mod_lt _ (by omega)
    have hsC:RW (d.C:Int):=⟨by omega,by omega⟩
    have hk8:k<8*d.C:=Nat.lt_of_lt_of_le hk' (Nat.mul_le_mul_right _ hR.2)
    show TT (d.C:Int) (k:Int) _
    refine dO hsC hk8 ?_
    show WL (d.C:Int) (k:Int) _
    refine pJ hsC hk8 ?_
    show QN (BF d.n d.q d.M) (d.R:Int) (d.C:Int) ((k / d.C:Nat):Int) ((k % d.C:Nat):Int) _
    refine Aa7 (d:=d.wS S) h hi hjc ?_
    refine EP (fun j (t:Int×Int×Int×Int×(List Int)×(List Int)×(List Int)×(List BL)×(List (AZ×(List AC)))×Int×(List AK)×Int)=>∃ s:Nat,t=pk (w0 (d.wS S) k (TH (d.wS S) k s)) (s:Int)∧s+j=S.length) (m0:=S.length) ⟨0,rfl,by omega⟩ ?_
    rintro j2 _ next2 ⟨s,rfl,hsj⟩ hnext2
    show AQ (decide ((s:Int)<(S.length:Int))) _ _
    refine AD (fun hs=>?_) (fun hs=>?_)
    · have hs':s<S.length:=by omega
      refine BG hs' ?_
      have hlen:=hZ h k s
      refine AbN (d:=d.wS S) h (w:=k) (s:=s) hk' hs' (out:=TH (d.wS S) k s) (by omega) ?_
      have ew:AJ ((s:Int)+1)=((s+1:Nat):Int):=by rw [AV (by omega) (by omega)]; simp
      rw [ew,←Y3]
      exact hnext2 (j2 - 1) _ (by omega) ⟨s+1,rfl,by omega⟩
    · have hse:s=S.length:=by omega
      subst hse
      intro b hb
      refine BI (by simp; omega) ?_
      have ew:AJ ((k:Int)+1)=(((ads++[b]).length:Nat):Int):=by rw [AV (by omega) (by omega)]; simp [hkk]
      rw [ew]
      have hnew:∀ i (hi:i<ads.length),ads[i]≠b:=fun i hi e=>by have:=hw i hi; rw [e,hb] at this; cases this
      refine hnext (j - 1) _ (by omega) ⟨ads++[b],_,by rw [List.map_append]; rfl,by simp; omega,?_,fun i hi=>?_⟩
      · rw [List.nodup_append]
        refine ⟨hnd,(by simp),fun a ha c hc e=>?_⟩
        rw [List.mem_singleton] at hc
        obtain ⟨i,hi,rfl⟩:=List.getElem_of_mem ha
        exact hnew i hi (e.trans hc)
      · simp only [List.length_append,List.length_singleton] at hi
        by_cases e:i<ads.length
        · rw [List.getElem_append_left e,dP (hnew i e)]
          exact hw i e
        · have ei:i=k:=by omega
          subst ei
          have:(ads++[b])[i]'(by simp; omega)=b:=by rw [List.getElem_append_right (by omega)]; simp
          rw [this,VK]
  · have hl:ads.length=d.R*d.C:=by omega
    have hinj:∀ i j,i<d.R*d.C→j<d.R*d.C→ads.getD i 0=ads.getD j 0→i=j:=fun i j hi hj e=>by
      have e1:ads.getD i 0=ads[i]'(by omega):=by simp [List.getD_eq_getElem?_getD,show i<ads.length by omega]
      have e2:ads.getD j 0=ads[j]'(by omega):=by simp [List.getD_eq_getElem?_getD,show j<ads.length by omega]
      rw [e1,e2] at e
      exact (List.getElem_inj hnd).1 e
    exact hQ S ads bk hS h (AcV h hinj) (Aa6 (d:=d.wS S) h hl hw)
variable {d:Data} {c:VL} {m:MS} {N:Nat}
def mV (c:VL) (l:List FY) (m:MS):MS:=l.foldl (fun m x=>(m.act c x).2) m
theorem wJ (c:VL) (l:List FY) (x:FY) (m:MS):mV c (l++[x]) m=((mV c l m).act c x).2:=by simp [mV]
theorem kO (hc:dQ c):∀ (l:List FY) {m:MS},Live c N m→Good c m→Live c N (mV c l m)∧Good c (mV c l m)
  | [],_,h,g=>⟨h,g⟩
  | x :: l,m,h,g=>kO hc l (h.acted hc g x) (g.acted hc x)
abbrev Aa8 (o0:AB) (k:Int) (o1:List (Nat×AA)) (o2:List (Nat×AF)):Int×Int×Int×(List Int)×(List Int)×(List Int)×Int×Int×(List Int)×(List Int)×(List Int)×Int×Int×(List Int)×(List Int)×(List Int)×Int×Int×Int×(List AY)×(List (Option Nat))×(List ((Int×Int)×(Option Nat)))×Int×(List (Nat×AA))×(List (Nat×AF)):=
  (o0.p.Ring,o0.p.A.Rows,o0.p.A.Cols,o0.p.A.Start,o0.p.A.Col,o0.p.A.Val,o0.p.B.Rows,o0.p.B.Cols,o0.p.B.Start,o0.p.B.Col,o0.p.B.Val,o0.p.Mask.Rows,o0.p.Mask.Cols,o0.p.Mask.Start,o0.p.Mask.Col,o0.p.Mask.Val,o0.p.R,o0.p.C,o0.p.Room,o0.stages,o0.workers,o0.boxes,k,o1,o2)
theorem pX {l:List FY} (hl:l.length≤1048576) (h:∀ x∈l,sE x=true) {Q:Bool→Prop} (hQ:Q false):BU l Q:=by
  unfold BU DJ
  refine EX l.length (by omega) (fun _=>True) trivial (fun i next hi _ hnext=>?_) (fun next _=>?_)
  · refine BN (by simp; omega) (BG hi ?_)
    unfold PL
    refine bB ?_
    rw [h _ (List.getElem_mem hi)]
    exact AW rfl (hnext trivial)
  · exact AW (by simp) hQ
theorem AcW (h0:DOk0 d) {l:List FY} {w:Nat} (hl:l.length≤1048576) (hmv:∀ x∈l,sE x=true) (hw:w≤1048576)
    (hE:∀ (S:List AY) (ads:List Nat),YS (d.wS S)→dQ ((d.wS S).ctx fun i=>ads.getD i 0)→(mN ((d.wS S).ctx fun i=>ads.getD i 0) w (mV ((d.wS S).ctx fun i=>ads.getD i 0) l (JA (d.wS S)))).ended ((d.wS S).ctx fun i=>ads.getD i 0)=true)
    {Q:(Rows×Bool×Int)→Prop} (hQ:Q ((YP d.r d.n d.q (eH d)).1,true,(YP d.r d.n d.q (eH d)).2)):NW d.p l (w:Int) Q:=by
  unfold NW
  refine mU h0 fun S ads bk hS h hc hrep=>?_
  generalize hcc:((d.wS S).ctx fun i=>ads.getD i 0)=c at hc hrep
  have hrk:Rk c:=by rw [←hcc]; exact Aa2 h _
  have hg:Good c (JA (d.wS S)):=by rw [←hcc]; exact Y4 h _
  have hli:Live c (UI c (JA (d.wS S))) (JA (d.wS S)):=by rw [←hcc]; exact cT h _
  have hend:=hE S ads h (by rw [hcc]; exact hc)
  rw [hcc] at hend
  refine AW rfl (AW (by simp; omega) (pX hl hmv (AW rfl (AW (by simp) (AW (by simp; omega) ?_)))))
  refine EP (fun j x=>∃ (i:Nat) (a0:AB) (a1:List (Nat×AA)) (a2:List (Nat×AF)),x=Aa8 a0 (i:Int) a1 a2∧i+j=l.length∧Rep c (mV c (l.take i) (JA (d.wS S))) a0 a1 a2) (m0:=l.length) ⟨0,_,bk,[],rfl,by omega,hrep⟩ ?_
  rintro j _ next ⟨i,a0,a1,a2,rfl,hij,hr⟩ hnext
  show AQ (decide ((i:Int)<(l.length:Int))) _ _
  obtain ⟨hlv,hgd⟩:=kO hc (l.take i) hli hg
  refine AD (fun hi=>?_) (fun hi=>?_)
  · have hi':i<l.length:=by omega
    refine BG hi' ?_
    refine sF hc hrk hr hgd (x:=l[i]) fun b0 b1 b2 hb _=>?_
    have ew:AJ ((i:Int)+1)=((i+1:Nat):Int):=by rw [AV (by omega) (by omega)]; simp
    rw [ew]
    exact hnext (j - 1) _ (by omega) ⟨i+1,b0,b1,b2,rfl,by omega,by rw [List.take_succ_eq_append_getElem hi',wJ]; exact hb⟩
  · have hil:i=l.length:=by omega
    subst hil
    rw [List.take_length] at hr hlv hgd
    unfold FF
    refine EP (fun j x=>∃ (i:Nat) (mm:MS) (a0:AB) (a1:List (Nat×AA)) (a2:List (Nat×AF)),x=Aa8 a0 (i:Int) a1 a2∧i+j=w∧Rep c mm a0 a1 a2∧Live c (UI c (JA (d.wS S))) mm∧Good c mm∧mN c j mm=mN c w (mV c l (JA (d.wS S)))) (m0:=w) ⟨0,_,_,a1,a2,rfl,by omega,hr,hlv,hgd,rfl⟩ ?_
    rintro j2 _ next2 ⟨i,mm,b0,b1,b2,rfl,hij2,hrm,hlm,hgm,hrun⟩ hnext2
    have fin:mm.ended c=true→DX b0 b1 fun r2731=>CO b0 b1 fun r2752=>Q (r2731.1,r2752,r2731.2):=fun he=>by
      rw [←hcc] at he hrm hc
      refine mT h hrm he (gW hc hrm ?_)
      rw [he]
      exact hQ
    show AQ (decide ((i:Int)<(w:Int))) _ _
    refine AD (fun hi=>?_) (fun hi=>?_)
    · obtain ⟨j3,rfl⟩:∃ j3,j2=j3+1:=⟨j2 - 1,by omega⟩
      refine gW hc hrm ?_
      cases he:mm.ended c with
      | true=>exact AW rfl (fin he)
      | false=>
        refine BN rfl ?_
        refine kJ hc hrk hrm hgm fun e0 e1 e2 hre _=>?_
        have ew:AJ ((i:Int)+1)=((i+1:Nat):Int):=by rw [AV (by omega) (by omega)]; simp
        rw [ew]
        refine hnext2 j3 _ (by omega) ⟨i+1,_,e0,e1,e2,rfl,by omega,hre,hlm.window hc hgm,hgm.window hc,?_⟩
        rw [←hrun]
        show _=if mm.ended c=true then mm else mN c j3 (mm.window c).2
        rw [he]
        rfl
    · have:j2=0:=by omega
      subst this
      refine fin ?_
      have:mm=mN c w (mV c l (JA (d.wS S))):=hrun
      rw [this]; exact hend
variable {d:Data} {c:VL} {m:MS} {N:Nat} {o0:AB} {o1:List (Nat×AA)} {o2:List (Nat×AF)}
theorem mW {x:Int} (h:VS .u8 x):∃ n:Nat,1≤n∧n≤4∧AJ (((AJ x).tmod 4)+1)=(n:Int):=by
  have hb:=bounds_u8 h
  rw [AV (x:=x) (by omega) (by omega),Int.tmod_eq_emod_of_nonneg (by omega),AV (by omega) (by omega)]
  exact ⟨(x % 4+1).toNat,by omega,by omega,by omega⟩
theorem AbR {a:JT} (h:VB a) {Q:BB→Prop} (hQ:∀ d:Data,DOk0 d→d.R≤4→d.C≤4→d.room≤4→Q d.p):LF a Q:=by
  unfold LF
  obtain ⟨h0,hR,hC,hm⟩:=h
  refine zA h0.2.1 h0.2.2.1.1 h0.2.2.2.1.1 h0.2.2.2.2.1 fun n k q A B M hn hk hq hA hB hM vA vB vM=>oT ?_
  obtain ⟨R,r1,r2,re⟩:=mW hR
  obtain ⟨C,c1,c2,ce⟩:=mW hC
  obtain ⟨rm,m1,m2,me⟩:=mW hm
  rw [re,ce,me]
  exact hQ ⟨dM a.T.Ring,n,k,q,A,B,M,R,C,rm,[]⟩ ⟨Ab2 _,hA,hB,hM,vA,vB,vM,by show 1≤R∧R≤8; omega,by show 1≤C∧C≤8; omega,by show 1≤rm∧rm≤64; omega⟩ r2 c2 m2
def pY (R C:Nat):Nat:=(R+C)*(R+C)+2
theorem pZ (h:DOk0 d) {Q:Int→Prop} (hQ:Q ((pY d.R d.C:Nat):Int)):GU d.p Q:=by
  have hR:=h.R
  have hC:=h.C
  unfold GU
  refine hU h (AW rfl ?_)
  show Q (AJ ((AJ ((AJ ((d.R:Int)+(d.C:Int)))*(AJ ((d.R:Int)+(d.C:Int)))))+2))
  have e1:AJ ((d.R:Int)+(d.C:Int))=((d.R+d.C:Nat):Int):=by rw [AV (by omega) (by omega)]; simp
  have hle:(d.R+d.C)*(d.R+d.C)≤16*16:=Nat.mul_le_mul (by omega) (by omega)
  have e2:((d.R+d.C:Nat):Int)*((d.R+d.C:Nat):Int)=(((d.R+d.C)*(d.R+d.C):Nat):Int):=by simp
  rw [e1,e2,AV (x:=(((d.R+d.C)*(d.R+d.C):Nat):Int)) (by omega) (by omega),AV (by omega) (by omega)]
  unfold pY at hQ
  rw [Int.natCast_add] at hQ
  exact hQ
theorem AbS (h:DOk0 d):pY d.R d.C≤258:=by
  have hle:(d.R+d.C)*(d.R+d.C)≤16*16:=Nat.mul_le_mul (by have:=h.R; have:=h.C; omega) (by have:=h.R; have:=h.C; omega)
  unfold pY; omega
theorem kP (w:Nat):∀ t,(TH d w t).length≤t*(d.R+d.C)
  | 0=>by simp [TH]
  | t+1=>by
    rw [Y3,List.length_append]
    have:=kP w t
    have h2:(NN d w t++MW d w t).length≤d.R+d.C:=by
      rw [List.length_append]; unfold NN MW; split <;> split <;> simp <;> omega
    rw [Nat.succ_mul]; omega
theorem Aa9 (h:YS d) {adr:Nat→Nat} (hc:dQ (d.ctx adr)):(mN (d.ctx adr) (pY d.R d.C) (JA d)).ended (d.ctx adr)=true:=by
  refine kL hc _ (cT h adr) (Y4 h adr) (fun _ _ _ _=>rfl) fun k hk=>?_
  have h1:=kP (d:=d) k d.S.length
  have h2:d.S.length*(d.R+d.C)≤(d.R+d.C)*(d.R+d.C):=Nat.mul_le_mul_right _ (by have:=h.seg.len; omega)
  show (TH d k d.S.length).length≤_
  unfold pY; omega
theorem sL (h:DOk0 d) {Q:(Rows×Bool×Int)→Prop} (hQ:Q ((YP d.r d.n d.q (eH d)).1,true,(YP d.r d.n d.q (eH d)).2)):NW d.p [] ((pY d.R d.C:Nat):Int) Q:=
  AcW h (by simp) (fun x hx=>absurd hx (List.not_mem_nil)) (by have:=AbS h; omega) (fun S ads hd hc=>Aa9 hd hc) hQ
theorem qA {n:Nat} (g:Nat→Nat→Nat):∀ (L:List (Int×Int)),L.Nodup→(∀ q∈L,∃ f t:Nat,f<n∧t<n∧q=((f:Int),(t:Int))) →
    (L.map fun q=>g q.1.toNat q.2.toNat).sum=LG (fun f=>LG (fun t=>if ((f:Int),(t:Int))∈L then g f t else 0) n) n
  | [],_,_=>by
    have e:LG (fun f:Nat=>LG (fun t:Nat=>if ((f:Int),(t:Int))∈([]:List (Int×Int)) then g f t else 0) n) n=LG (fun _=>0) n:=DT fun i hi=>by
      have:LG (fun t:Nat=>if ((i:Int),(t:Int))∈([]:List (Int×Int)) then g i t else 0) n=LG (fun _=>0) n:=DT fun j hj=>by simp
      rw [this,GM]; simp
    rw [e,GM]; simp
  | q :: L,hn,hk=>by
    rw [List.nodup_cons] at hn
    obtain ⟨f,t,hf,ht,rfl⟩:=hk q List.mem_cons_self
    have ih:=qA g L hn.2 fun q hq=>hk q (List.mem_cons_of_mem _ hq)
    have h1:=Y1 (g:=fun j:Nat=>if ((f:Int),(j:Int))∈L then g f j else 0) (g':=fun j:Nat=>if ((f:Int),(j:Int))∈((f:Int),(t:Int)) :: L then g f j else 0) ht (fun i hi=>by
      have:¬((f:Int),(i:Int))=((f:Int),(t:Int)):=by simp; omega
      simp only [List.mem_cons,this,false_or])
    have h2:=Y1 (g:=fun i:Nat=>LG (fun j:Nat=>if ((i:Int),(j:Int))∈L then g i j else 0) n) (g':=fun i:Nat=>LG (fun j:Nat=>if ((i:Int),(j:Int))∈((f:Int),(t:Int)) :: L then g i j else 0) n) hf (fun i hi=>DT fun j hj=>by
      have:¬((i:Int),(j:Int))=((f:Int),(t:Int)):=by simp; omega
      simp only [List.mem_cons,this,false_or])
    rw [if_neg hn.1] at h1
    rw [if_pos List.mem_cons_self] at h1
    rw [List.map_cons,List.sum_cons,ih]
    simp only [Int.toNat_natCast]
    omega
theorem qB (h:Rep c m o0 o1 o2) (hb:MV c m≤1000000000) {Q:Int→Prop} (hQ:Q (MV c m:Int)):EO o0 o2 Q:=by
  have htot:(o0.boxes.map fun p=>(m.bx p.1.1.toNat p.1.2.toNat).fs.length).sum=MV c m:=by
    have:=qA (n:=c.n) (fun f t=>(m.bx f t).fs.length) (o0.boxes.map fun p:(Int×Int)×Option Nat=>p.1) h.ks h.kr
    rw [List.map_map] at this
    rw [show (o0.boxes.map fun p=>(m.bx p.1.1.toNat p.1.2.toNat).fs.length)=o0.boxes.map ((fun q:Int×Int=>(m.bx q.1.toNat q.2.toNat).fs.length)∘(·.1)) from rfl,this]
    unfold MV
    refine DT fun f hf=>DT fun t ht=>?_
    split
    · rfl
    · rename_i hno
      rw [h.no f t (XO hno)]; rfl
  unfold EO
  refine EP (fun j (x:(List ((Int×Int)×(Option Nat)))×Int)=>∃ dn:List ((Int×Int)×(Option Nat)),o0.boxes.Perm (dn++x.1)∧x.2=((dn.map fun p=>(m.bx p.1.1.toNat p.1.2.toNat).fs.length).sum:Nat)∧x.1.length=j) (m0:=o0.boxes.length) ⟨[],by simp,by simp,rfl⟩ ?_
  rintro j ⟨rest,acc⟩ next ⟨dn,hp,hacc,hj⟩ hnext
  simp only at hp hacc hj
  refine dC (fun hr=>?_) (fun p r hpr=>?_)
  · subst hr
    rw [List.append_nil] at hp
    rw [hacc,← (hp.map _).sum_nat,htot]
    exact hQ
  · have hp2:o0.boxes.Perm ((dn++[p])++r):=hp.trans (by rw [List.append_assoc]; exact (List.Perm.refl dn).append hpr)
    have hmem:p∈o0.boxes:=hp2.mem_iff.2 (by simp)
    obtain ⟨f,t,hf,ht,hq⟩:=h.kr p.1 (List.mem_map_of_mem hmem)
    have hget:BP ((f:Int),(t:Int)) o0.boxes=some p.2:=(HK h.ks).2 (by rw [←hq]; exact hmem)
    have hsum:((dn++[p]).map fun p=>(m.bx p.1.1.toNat p.1.2.toNat).fs.length).sum=(dn.map fun p=>(m.bx p.1.1.toNat p.1.2.toNat).fs.length).sum+(m.bx f t).fs.length:=by
      rw [List.map_append,List.sum_append,List.map_singleton,hq]; simp
    have hle:((dn++[p]).map fun p=>(m.bx p.1.1.toNat p.1.2.toNat).fs.length).sum≤MV c m:=by
      have e3:=(hp2.map fun p=>(m.bx p.1.1.toNat p.1.2.toNat).fs.length).sum_nat
      rw [htot,List.map_append (l₁:=dn++[p]) (l₂:=r),List.sum_append] at e3
      omega
    unfold NX
    cases hv:p.2 with
    | none=>rw [hv] at hget; exact absurd hget (h.nn _)
    | some b=>
      rw [hv] at hget
      obtain ⟨pb,g1,g2⟩:=h.bx f t b hget
      rw [MC,SW g1]
      refine AbG g2 ?_
      refine hnext r.length _ ?_ ⟨dn++[p],hp2,?_,rfl⟩
      · have:=hpr.length_eq; simp at this; omega
      · simp only
        rw [hsum,hacc,AV (by omega) (by omega)]; simp
def wK:List AC:=[⟨0,1,3⟩,⟨1,0,5⟩]
def AbT:List AC:=[⟨0,0,15⟩,⟨1,1,15⟩]
def XC:List AY:=[⟨0,1,0,0⟩,⟨1,2,1,0⟩]
def UK:Data:=⟨5,2,2,2,wK,wK,UH 2 2,2,1,1,[]⟩
theorem ZD:Canon 2 2 wK:=⟨by decide,by decide,by decide,by decide,by decide,by unfold Srt; decide,by decide⟩
theorem ZE:Canon 2 2 AbT:=⟨by decide,by decide,by decide,by decide,by decide,by unfold Srt; decide,by decide⟩
theorem Y5:∀ t∈wK,JO t.Val:=fun t ht=>by
  unfold wK at ht
  simp only [List.mem_cons,List.not_mem_nil,or_false] at ht
  rcases ht with rfl | rfl <;> (unfold JO; decide)
theorem AcX:DOk0 UK:=⟨by decide,ZD,ZD,dN (n:=2) (m:=2) (by decide) (by decide),Y5,Y5,fun t ht=>by rw [(cG ht).2]; unfold JO; omega,by decide,by decide,by decide⟩
theorem AcY {S:List AY} (h:SegSp 2 2 1 2 S) (hl:S.length+1≤3):S=XC:=by
  have l0:CP 2 ((2:Nat):Int) 0=0:=by decide
  have l1:CP 2 ((2:Nat):Int) 1=1:=by decide
  have l1':CP 2 ((2:Nat):Int) (0+1)=1:=by decide
  match S,h,hl with
  | [],h,_=>exact absurd h.top (by decide)
  | [x],h,_=>
    exfalso
    have t:x.To=2:=h.top
    have r:=h.row 0 (by simp)
    have lo:=(h.lo 0 (by simp)).1
    simp only [List.getElem_cons_zero] at r lo
    have lo:x.From=0:=lo
    rcases (by omega:x.Row=0∨x.Row=1) with e | e
    · rw [e,l1'] at r; omega
    · rw [e,l1] at r; omega
  | [x,y],h,_=>
    have t:y.To=2:=h.top
    have r:=h.row 0 (by simp)
    have r':=h.row 1 (by simp)
    have q:=h.col 0 (by simp)
    have q':=h.col 1 (by simp)
    have lo:=h.lo 0 (by simp)
    have lo':=h.lo 1 (by simp)
    simp only [List.getElem_cons_zero,List.getElem_cons_succ] at r r' q q' lo lo'
    have f1:x.From=0:=lo.1
    have f2:y.From=x.To:=lo'.1
    have e1:x.Row=0:=by
      rcases (by omega:x.Row=0∨x.Row=1) with e | e
      · exact e
      · rw [e,l1] at r; omega
    have e2:y.Row=1:=by
      rcases (by omega:y.Row=0∨y.Row=1) with e | e
      · rw [e,l1'] at r'; omega
      · exact e
    rw [e1,l1'] at r
    obtain ⟨xf,xt,xr,xc⟩:=x
    obtain ⟨yf,yt,yr,yc⟩:=y
    simp only at *
    unfold XC
    simp only [List.cons.injEq,AY.mk.injEq,and_true]
    omega
  | x :: y :: z :: r,_,hl=>simp at hl
theorem AcZ:YP 5 2 2 (eH UK)=(BF 2 2 AbT,0):=by decide
theorem wL {n m:Nat} {Q:Rows→Prop} (hn:n≤13) (hm:m≤13) (hQ:Q (BF n m (UH n m))):UY n m Q:=by
  unfold UY
  have hv:∀ t∈UH n m,JO t.Val:=fun t ht=>by rw [(cG ht).2]; unfold JO; omega
  have hc:=dN (show n≤200 by omega) (show m≤200 by omega)
  refine BH (fun (s:List AC) i=>(s,i)) 0 n (by omega) (fun i s=>s=UH i m) (by omega) rfl (fun i s next _ hi hs hx=>?_) (fun s next hs=>?_)
  · subst hs
    refine AD (fun _=>?_) (fun h=>by omega)
    refine BH (fun (s:List AC) i=>(s,i)) 0 m (by omega) (fun j s=>s=UH i m++YQ i j) (by omega) (by simp [YQ]) (fun j s nx _ hj hs hy=>?_) (fun s nx hs=>?_)
    · subst hs
      refine AD (fun _=>BI ?_ (hy _ ?_)) (fun h=>by omega)
      · have h1:=Nat.mul_le_mul (show i≤13 by omega) hm
        rw [List.length_append,cF,YQ,List.length_map,List.length_range,List.length_singleton]
        omega
      · rw [rT,List.append_assoc]
    · subst hs
      refine AD (fun h=>by omega) (fun _=>hx _ ?_)
      rw [gM]
  · subst hs
    refine AD (fun h=>by omega) (fun _=>cC (by have:=hc.len; omega) hv ?_)
    rw [eV hc hv (by omega)]
    exact hQ
theorem wM {Q:Bool→Prop} (hQ:Q true):UZ Q:=by
  unfold UZ
  refine cC (by decide) Y5 ?_
  rw [show ([({ Row:=0,Col:=1,Val:=3 }:AC),({ Row:=1,Col:=0,Val:=5 }:AC)]:List AC)=wK from rfl,eV ZD Y5 (by decide)]
  refine wL (n:=2) (m:=2) (by decide) (by decide) ?_
  have h0:=AcX
  show EJ [] [] UK.p _ _
  refine mU h0 fun S ads bk hS h hc hrep=>?_
  have hSe:S=XC:=AcY hS (by have:=h.seg.len; exact this)
  subst hSe
  generalize hcc:((UK.wS XC).ctx fun i=>ads.getD i 0)=c at hc hrep
  have hrk:Rk c:=by rw [←hcc]; exact Aa2 h _
  have hg:Good c (JA (UK.wS XC)):=by rw [←hcc]; exact Y4 h _
  have hcn:c.n=2:=by rw [←hcc]; rfl
  have hcs:c.S=XC:=by rw [←hcc]; rfl
  refine sF hc hrk hrep hg fun b0 b1 b2 hb _=>?_
  have hact:(JA (UK.wS XC)).act c { Kind:=1,A:=0,B:=0,K:=0 }=(JA (UK.wS XC)).send c 0:=by
    unfold MS.act
    rw [if_neg (by decide),if_pos rfl,if_pos ⟨by decide,by rw [hcn]; decide⟩]
    rfl
  have hg2:=hg.acted hc { Kind:=1,A:=0,B:=0,K:=0 }
  rw [hact] at hb hg2 ⊢
  have hs:=eZ (c:=c) (m:=JA (UK.wS XC)) (k:=0) (t:=0) (f:=sJ (UK.wS XC) 0 0 0) (r:=[sK (UK.wS XC) 0 0 0,sK (UK.wS XC) 0 0 1,sJ (UK.wS XC) 0 1 0]) (by decide) (by decide) (by decide)
  rw [hs] at hb hg2 ⊢
  refine mO hc hb (f:=0) (t:=0) (by rw [hcn]; decide) (by rw [hcn]; decide) fun e0 e2 hre _=>?_
  show GU UK.p _
  refine pZ h0 ?_
  show NW UK.p [] ((pY 2 1:Nat):Int) _
  refine sL h0 ?_
  have hd:YP UK.r UK.n UK.q (eH UK)=(BF 2 2 AbT,0):=AcZ
  rw [hd]
  refine rL ZE.sml (LP ZE) ZE ?_
  have hget:vJ AbT 0 0=(15,true):=by decide
  rw [hget]
  unfold FF
  unfold EJ GR
  refine LN (BN rfl (BN rfl ?_))
  unfold DV
  refine BN rfl (BN rfl (BN rfl ?_))
  unfold CM
  rw [hre.S,hcs]
  refine BN rfl ?_
  refine qB hre (by unfold MV; rw [hcn]; decide) ?_
  have e1:MV c (DQ (CQ (JA (UK.wS XC)) 0 0 { (JA (UK.wS XC)).bx 0 0 with row:=((JA (UK.wS XC)).bx 0 0).row++[((JA (UK.wS XC)).bx 0 0).fs.length],fs:=((JA (UK.wS XC)).bx 0 0).fs++[{ sJ (UK.wS XC) 0 0 0 with Seq:=((JA (UK.wS XC)).bx 0 0).fs.length }] }) 0 { (JA (UK.wS XC)).w 0 with out:=[sK (UK.wS XC) 0 0 0,sK (UK.wS XC) 0 0 1,sJ (UK.wS XC) 0 1 0] })=1:=by unfold MV; rw [hcn]; decide
  dsimp only at e1 hre ⊢
  rw [e1]
  refine BN rfl ?_
  refine gW hc hre ?_
  have e2:MS.ended c (DQ (CQ (JA (UK.wS XC)) 0 0 { (JA (UK.wS XC)).bx 0 0 with row:=((JA (UK.wS XC)).bx 0 0).row++[((JA (UK.wS XC)).bx 0 0).fs.length],fs:=((JA (UK.wS XC)).bx 0 0).fs++[{ sJ (UK.wS XC) 0 0 0 with Seq:=((JA (UK.wS XC)).bx 0 0).fs.length }] }) 0 { (JA (UK.wS XC)).w 0 with out:=[sK (UK.wS XC) 0 0 0,sK (UK.wS XC) 0 0 1,sJ (UK.wS XC) 0 1 0] })=false:=by unfold MS.ended; rw [hcn,hcs]; decide
  dsimp only at e2
  rw [e2]
  refine BN rfl (BN rfl (BN rfl (BN rfl (BN rfl (BN rfl (BN rfl ?_))))))
  show GU UK.p _
  refine pZ h0 (BN rfl ?_)
  refine eY hre ?_
  rw [if_pos ⟨by decide,by rw [hcn]; decide⟩]
  refine BN (by decide) ?_
  refine pR hre (k:=0) (by rw [hcn]; decide) ?_
  refine BN (by decide) ?_
  have hfin:=hU h0 (Q:=fun r=>Q (r==0)) hQ
  unfold GR at hfin
  exact hfin
variable {d:Data}
theorem fA (g g':Nat→Nat):∀ n,LG (fun i=>g i+g' i) n=LG g n+LG g' n
  | 0=>rfl
  | n+1=>by unfold LG; rw [fA g g' n]; omega
theorem cU (g:Nat→Nat) (a:Nat):∀ b,LG g (a+b)=LG g a+LG (fun i=>g (a+i)) b
  | 0=>rfl
  | b+1=>by show LG g (a+b)+g (a+b)=_; rw [cU g a b]; show _=_+(_+g (a+b)); omega
theorem qC {C:Nat} (F:Nat→Nat→Nat) (hC:0<C):∀ R,LG (fun k=>F (k / C) (k % C)) (R*C)=LG (fun i=>LG (fun j=>F i j) C) R
  | 0=>by simp [LG]
  | R+1=>by
    rw [Nat.succ_mul,cU,qC F hC R]
    show _=_+_
    congr 1
    refine DT fun j hj=>?_
    have:=UJ (i:=R) hj
    rw [this.1,this.2]
theorem mX {a:Nat} (b:Nat):∀ {n:Nat},a<n→LG (fun i=>if i=a then b else 0) n=b
  | 0,h=>by omega
  | n+1,h=>by
    unfold LG
    by_cases e:a=n
    · subst e
      rw [DT (g:=fun _=>0) fun i hi=>if_neg (by omega),GM,if_pos rfl]; simp
    · rw [mX b (n:=n) (by omega),if_neg (by omega)]; rfl
theorem AaA (h:YS d) {s:Nat} (hs:s<d.S.length):LG (fun w=>(NN d w s++MW d w s).length) (d.R*d.C)=2*(d.R*d.C):=by
  have hR:=h.R
  have hC:=h.C
  have hgd:d.S.getD s default=d.S[s]:=by simp [List.getD_eq_getElem?_getD,hs]
  have hrow:=h.seg.row s hs
  have hcol:=h.seg.col s hs
  have e:LG (fun w=>(NN d w s++MW d w s).length) (d.R*d.C)=LG (fun w=>(if w % d.C=d.S[s].Col.toNat then d.C else 0)+(if w / d.C=d.S[s].Row.toNat then d.R else 0)) (d.R*d.C):=DT fun w _=>by
    rw [List.length_append]
    congr 1
    · unfold NN
      rw [hgd]
      by_cases e:w % d.C=d.S[s].Col.toNat
      · rw [if_pos e,if_pos (by omega)]; simp
      · rw [if_neg e,if_neg (by omega)]; rfl
    · unfold MW
      rw [hgd]
      by_cases e:w / d.C=d.S[s].Row.toNat
      · rw [if_pos e,if_pos (by omega)]; simp
      · rw [if_neg e,if_neg (by omega)]; rfl
  rw [e,qC (fun i j=>(if j=d.S[s].Col.toNat then d.C else 0)+(if i=d.S[s].Row.toNat then d.R else 0)) (by omega)]
  have e2:LG (fun i=>LG (fun j=>(if j=d.S[s].Col.toNat then d.C else 0)+(if i=d.S[s].Row.toNat then d.R else 0)) d.C) d.R=LG (fun i=>d.C+(if i=d.S[s].Row.toNat then d.C*d.R else 0)) d.R:=DT fun i _=>by
    rw [fA,mX d.C (by omega),GM]
    split
    · rfl
    · simp
  rw [e2,fA,GM,mX (d.C*d.R) (by omega),Nat.mul_comm d.C d.R]
  omega
theorem wN (h:YS d) (adr:Nat→Nat):UI (d.ctx adr) (JA d)=2*(d.R*d.C)*d.S.length:=by
  have key:∀ t,t≤d.S.length→LG (fun w=>(TH d w t).length) (d.R*d.C)=2*(d.R*d.C)*t:=by
    intro t
    induction t with
    | zero=>
      intro _
      have e:LG (fun w=>(TH d w 0).length) (d.R*d.C)=LG (fun _=>0) (d.R*d.C):=DT fun _ _=>rfl
      rw [e,GM]; simp
    | succ t ih=>
      intro ht
      rw [DT (g:=fun w=>(TH d w t).length+(NN d w t++MW d w t).length) fun i _=>by rw [Y3,List.length_append],fA,ih (by omega),AaA h (by omega)]
      rw [Nat.mul_succ]
  exact key d.S.length (Nat.le_refl _)
theorem VP {x n:Int} (hn:1≤n) {Q:Int→Prop} (hQ:∀ y,0≤y→y<n→Q y):IA x n Q:=by
  unfold IA
  refine AD (fun h=>by omega) fun _=>AD (fun _=>hQ 0 (by omega) (by omega)) fun h=>⟨by omega,?_⟩
  rw [Int.tmod_eq_emod_of_nonneg (by omega)]
  exact hQ _ (Int.emod_nonneg _ (by omega)) (Int.emod_lt_of_pos _ (by omega))
structure Ac4 (n:Int) (l:List FY):Prop where
  len:l.length≤120
  mv:∀ x∈l,sE x=true
  ab:∀ x∈l,(0≤x.A∧x.A<n)∧(0≤x.B∧x.B<n)
theorem wO {a:GQ} {n:Int} (hn:1≤n∧n≤64) {Q:List FY→Prop} (hQ:∀ l,Ac4 n l→Q l):IE a n Q:=by
  unfold IE
  refine EP (fun j (x:List FY×Int)=>∃ i:Nat,x.2=(i:Int)∧x.1.length=i∧i+j=120∧Ac4 n x.1) (m0:=120) ⟨0,rfl,rfl,rfl,by decide,fun x hx=>absurd hx (List.not_mem_nil),fun x hx=>absurd hx (List.not_mem_nil)⟩ ?_
  rintro j ⟨l,ix⟩ next ⟨i,hi,hl,hj,hs⟩ hnext
  simp only at hi hl hs
  subst hi
  show AQ (decide ((i:Int)<(a.L.length:Int))) _ _
  refine AD (fun h1=>AD (fun h2=>?_) (fun _=>hQ l hs)) (fun _=>hQ l hs)
  refine BG (by omega) (VP (by omega) fun k k0 k1=>VP hn.1 fun A a0 a1=>VP hn.1 fun B b0 b1=>VP (by omega) fun K q0 q1=>BI (by simp; omega) ?_)
  have e1:AJ ((i:Int)+1)=((i+1:Nat):Int):=by rw [AV (by omega) (by omega)]; simp
  have e2:AJ (k+1)=k+1:=AV (by omega) (by omega)
  rw [e1,e2]
  refine hnext (j - 1) _ (by omega) ⟨i+1,rfl,by simp [hl],by omega,⟨by simp; omega,fun x hx=>?_,fun x hx=>?_⟩⟩
  · rcases List.mem_append.1 hx with hx | hx
    · exact hs.mv x hx
    · rw [List.mem_singleton] at hx; subst hx
      unfold sE
      exact decide_eq_true ⟨a0,by dsimp only; omega,b0,by dsimp only; omega,q0,by dsimp only; omega,by dsimp only; omega,by dsimp only; omega⟩
  · rcases List.mem_append.1 hx with hx | hx
    · exact hs.ab x hx
    · rw [List.mem_singleton] at hx; subst hx
      exact ⟨⟨a0,a1⟩,b0,b1⟩
end Go.Proofs.YtbohadngdkjljaaGreat
