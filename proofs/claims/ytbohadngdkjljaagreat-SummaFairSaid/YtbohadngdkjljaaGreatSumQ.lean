import Derived.Test.YtbohadngdkjljaaGreatSumL
namespace Go.Proofs.YtbohadngdkjljaaGreat
open Go Go.Fw
set_option linter.unusedVariables false
set_option linter.unusedSimpArgs false
variable {d:Data}
def KJ (d:Data):MS:={ w:=fun k=>⟨WV d k d.S.length,fun _=>false,fun _=>false,0⟩,bx:=fun _ _=>⟨d.room,[],[],0⟩ }
theorem AdP (h:aT d) {adr:Nat→Nat} (hinj:∀ i j,i<d.R*d.C→j<d.R*d.C→adr i=adr j→i=j):fD (d.ctx adr):=by
  have hR:=h.R
  have hC:=h.C
  have hl:=h.seg.len
  exact ⟨Nat.mul_le_mul hR.2 hC.2,rfl,h.room.1,h.room.2,by show d.S.length≤64; omega,hinj⟩
theorem YU {C i j:Nat} (hj:j<C):(i*C+j) / C=i∧(i*C+j) % C=j:=by
  have hC:0<C:=by omega
  constructor
  · rw [Nat.mul_comm,Nat.mul_add_div hC,Nat.div_eq_of_lt hj]; omega
  · rw [Nat.mul_comm,Nat.mul_add_mod,Nat.mod_eq_of_lt hj]
theorem cK {R C i j:Nat} (hi:i<R) (hj:j<C):i*C+j<R*C:=by
  have:(i+1)*C≤R*C:=Nat.mul_le_mul_right _ (by omega)
  rw [Nat.succ_mul] at this; omega
theorem AcJ {w t:Nat} {f:BP} (h:f∈WV d w t):∃ s,s<t∧(((d.S.getD s default).Col=((w % d.C:Nat):Int)∧∃ j,j<d.C∧f=tY d w s j)∨(d.S.getD s default).Row=((w / d.C:Nat):Int)∧∃ i,i<d.R∧f=tZ d w s i):=by
  unfold WV at h
  obtain ⟨s,hs,hf⟩:=List.mem_flatMap.1 h
  refine ⟨s,List.mem_range.1 hs,?_⟩
  rcases List.mem_append.1 hf with hf | hf
  · unfold TV at hf
    split at hf
    · rename_i e
      obtain ⟨j,hj,rfl⟩:=List.mem_map.1 hf
      exact .inl ⟨e,j,List.mem_range.1 hj,rfl⟩
    · exact absurd hf (List.not_mem_nil)
  · unfold SR at hf
    split at hf
    · rename_i e
      obtain ⟨j,hj,rfl⟩:=List.mem_map.1 hf
      exact .inr ⟨e,j,List.mem_range.1 hj,rfl⟩
    · exact absurd hf (List.not_mem_nil)
theorem AcK (h:aT d) (i:Nat) (a b:Int):(fQ d i a b).length≤65536:=by
  have:=h.cA.len
  unfold fQ LI
  rw [List.length_map]
  have:=List.length_filter_le (fun t:AC=>decide ((d.rl i≤t.Row∧t.Row<d.rl (i+1))∧(a≤t.Col∧t.Col<b))) d.A
  omega
theorem AcL (h:aT d) (i:Nat) (a b:Int):(iZ d i a b).length≤65536:=by
  have:=h.cB.len
  unfold iZ LI
  rw [List.length_map]
  have:=List.length_filter_le (fun t:AC=>decide ((a≤t.Row∧t.Row<b)∧(d.cl i≤t.Col∧t.Col<d.cl (i+1)))) d.B
  omega
theorem eJ (h:aT d) (adr:Nat→Nat):Good (d.ctx adr) (KJ d):=by
  have hR:=h.R
  have hC:=h.C
  have hl:=h.seg.len
  refine ⟨fun k hk f hf=>?_,fun f t _ _ g hg=>absurd hg (List.not_mem_nil),fun f t _ _=>?_,fun f t _ _=>⟨rfl,Nat.zero_le _⟩⟩
  · have hi:k / d.C<d.R:=Nat.div_lt_of_lt_mul (by rw [Nat.mul_comm]; exact hk)
    have hj:k % d.C<d.C:=Nat.mod_lt _ (by omega)
    obtain ⟨s,hs,⟨_,j,hj',rfl⟩ | ⟨_,i,hi',rfl⟩⟩:=AcJ hf
    · have hp:=YU (i:=k / d.C) hj'
      refine ⟨k / d.C*d.C+j,s,cK hi hj',hs,rfl,rfl,⟨rfl,rfl,?_⟩,.inl ⟨rfl,?_⟩⟩
      · have:=AcK h (k / d.C) (CU d.S s) (CU d.S (s+1)); show (fQ d _ _ _).length≤_; omega
      · show fQ d (k / d.C) _ _=fQ d ((k / d.C*d.C+j) / d.C) _ _
        rw [hp.1]
    · have hp:=YU (i:=i) hj
      refine ⟨i*d.C+k % d.C,s,cK hi' hj,hs,rfl,rfl,⟨rfl,rfl,?_⟩,.inr ⟨rfl,?_⟩⟩
      · have:=AcL h (k % d.C) (CU d.S s) (CU d.S (s+1)); show (iZ d _ _ _).length≤_; omega
      · show iZ d (k % d.C) _ _=iZ d ((i*d.C+k % d.C) % d.C) _ _
        rw [hp.2]
  · have:=jD h f d.S.length
    show 0+(WV d f d.S.length).length≤_
    omega
theorem lW (h:aT d) (adr:Nat→Nat):Live (d.ctx adr) (cJ (d.ctx adr) (KJ d)) (KJ d):=by
  have hR:=h.R
  have hC:=h.C
  refine ⟨fun f t _ _=>BInv.empty (d.ctx adr),fun k s hk hs=>?_,fun k hk=>⟨Nat.zero_le _,fun hh=>by have:=hh.2.1; cases this⟩,?_⟩
  · have hi:k / d.C<d.R:=Nat.div_lt_of_lt_mul (by rw [Nat.mul_comm]; exact hk)
    have hj:k % d.C<d.C:=Nat.mod_lt _ (by omega)
    have hs':s<d.S.length:=hs
    have hgd:d.S.getD s default=d.S[s]:=by simp [List.getD_eq_getElem?_getD,hs']
    have hrow:=h.seg.row s hs'
    have hcol:=h.seg.col s hs'
    have hmem:∀ {w:Nat} {f:BP},f∈TV d w s++SR d w s→f∈WV d w d.S.length:=fun {w f} hf=>List.mem_flatMap.2 ⟨s,List.mem_range.2 hs',hf⟩
    constructor
    · right
      have hp:=YU (i:=k / d.C) (j:=d.S[s].Col.toNat) (C:=d.C) (by omega)
      refine ⟨k / d.C*d.C+d.S[s].Col.toNat,cK hi (by omega),.inl ⟨tY d (k / d.C*d.C+d.S[s].Col.toNat) s (k % d.C),hmem (List.mem_append.2 (.inl ?_)),rfl,?_,rfl⟩⟩
      · unfold TV
        rw [hgd,hp.2,if_pos (by omega)]
        exact List.mem_map.2 ⟨k % d.C,List.mem_range.2 hj,rfl⟩
      · show (((k / d.C*d.C+d.S[s].Col.toNat) / d.C*d.C+k % d.C:Nat):Int)=_
        rw [hp.1,Nat.mul_comm (k / d.C) d.C,Nat.div_add_mod]
    · right
      have hp:=YU (i:=d.S[s].Row.toNat) (j:=k % d.C) (C:=d.C) hj
      refine ⟨d.S[s].Row.toNat*d.C+k % d.C,cK (by omega) hj,.inl ⟨tZ d (d.S[s].Row.toNat*d.C+k % d.C) s (k / d.C),hmem (List.mem_append.2 (.inr ?_)),rfl,?_,rfl⟩⟩
      · unfold SR
        rw [hgd,hp.1,if_pos (by omega)]
        exact List.mem_map.2 ⟨k / d.C,List.mem_range.2 hi,rfl⟩
      · show ((k / d.C*d.C+(d.S[s].Row.toNat*d.C+k % d.C) % d.C:Nat):Int)=_
        rw [hp.2,Nat.mul_comm (k / d.C) d.C,Nat.div_add_mod]
  · have e:PV (d.ctx adr) (KJ d)=0:=by
      unfold PV
      have e1:Z1 (fun f=>Z1 (fun t=>((KJ d).bx f t).fs.length) (d.ctx adr).n) (d.ctx adr).n=Z1 (fun _=>0) (d.ctx adr).n:=GS fun i hi=>by
        have:Z1 (fun t=>((KJ d).bx i t).fs.length) (d.ctx adr).n=Z1 (fun _=>0) (d.ctx adr).n:=GS fun j hj=>rfl
        rw [this,MU]; simp
      rw [e1,MU]; simp
    omega
theorem Ab2 (h:aT d) {ads:List Nat} {bk:List (Nat×AA)} (hl:ads.length=d.R*d.C) (hw:∀ k (hk:k<ads.length),BT ads[k] bk=some (w0 d k (WV d k d.S.length))) :
    Rep (d.ctx fun i=>ads.getD i 0) (KJ d) { p:=d.p,stages:=d.S,workers:=ads.map some,boxes:=[] } bk []:=by
  refine ⟨rfl,rfl,?_,fun k hk=>?_,fun f t _=>rfl,fun q hq=>(by cases hq),fun f t b hb=>(by cases hb),fun q q' b hq _=>(by cases hq),List.nodup_nil,fun q hq=>(by cases hq)⟩
  · refine List.ext_getElem (by simp [Data.ctx,hl]) fun i h1 h2=>?_
    simp only [List.length_map] at h1
    simp [Data.ctx,List.getD_eq_getElem?_getD,h1]
  · have hk':k<ads.length:=by rw [hl]; exact hk
    have e:ads.getD k 0=ads[k]:=by simp [List.getD_eq_getElem?_getD,hk']
    refine ⟨w0 d k (WV d k d.S.length),?_,?_⟩
    · show BT (ads.getD k 0) bk=some _
      rw [e]; exact hw k hk'
    · have hz:TA d (k / d.C) (k % d.C) 0=[]:=by
        unfold TA GD
        rw [List.filterMap_eq_nil_iff]
        intro t ht
        have b1:=rI h (k / d.C)
        have b2:=rJ h (k % d.C)
        obtain ⟨_,cA0,_⟩:=FZ h.cA (l:=d.rl (k / d.C)) (u:=d.rl (k / d.C+1)) (c:=0) (d:=0) b1.1 b1.2.1 b1.2.2 (by omega) (by omega) h.cA.c0
        obtain ⟨_,cM0,_⟩:=FZ h.cM (l:=d.rl (k / d.C)) (u:=d.rl (k / d.C+1)) (c:=d.cl (k % d.C)) (d:=d.cl (k % d.C+1)) b1.1 b1.2.1 b1.2.2 b2.1 b2.2.1 b2.2.2
        have hin:=cM0.inn t ht
        unfold UM at hin
        unfold HD
        show (MR d.r (fQ d (k / d.C) 0 0) _ _ _).map _=none
        unfold fQ
        rw [VC cA0 hin.1]
        rfl
      exact ⟨rfl,rfl,rfl,rfl,rfl,Nat.zero_le _,hz.symm,fun s _=>rfl,fun s _=>rfl⟩
theorem Ab3 (h:aT d) {i j:Nat} (hi:i<d.R) (hj:j<d.C) {Q:Rows→Prop} (hQ:Q (AX (d.rl (i+1) - d.rl i) (d.cl (j+1) - d.cl j) (yB d i j))):RE (AX d.n d.q d.M) (d.R:Int) (d.C:Int) (i:Int) (j:Int) Q:=by
  have hR:=h.R
  have hC:=h.C
  have hg:lN (d.R:Int) (d.C:Int) (i:Int) (j:Int):=⟨⟨⟨by omega,by omega⟩,by omega,by omega⟩,⟨by omega,by omega⟩,by omega,by omega⟩
  refine nX h.cM ?_
  have b1:=rI h i
  have b2:=rJ h j
  obtain ⟨eM,_,_⟩:=FZ h.cM (l:=d.rl i) (u:=d.rl (i+1)) (c:=d.cl j) (d:=d.cl (j+1)) b1.1 b1.2.1 b1.2.2 b2.1 b2.2.1 b2.2.2
  unfold AdJ
  rw [if_pos hg]
  have e1:CR d.n (d.R:Int) ((i:Int)+1)=d.rl (i+1):=by unfold Data.rl; simp
  have e2:CR d.q (d.C:Int) ((j:Int)+1)=d.cl (j+1):=by unfold Data.cl; simp
  rw [e1,e2]
  show Q (nE d.n d.q d.M (d.rl i,d.rl (i+1)) (d.cl j,d.cl (j+1)))
  rw [eM]
  exact hQ
theorem wA (h0:DOk0 d) {o2:List (Nat×AF)} {Q0:(Int×List (Nat×AA))→Prop} {Q1:(Int×List (Nat×AA)×AD)→Prop}
    (hQ:∀ (S:List BE) (ads:List Nat) bk,SegSp d.k d.R d.C d.k S→aT (d.wS S)→fD ((d.wS S).ctx fun i=>ads.getD i 0)→Rep ((d.wS S).ctx fun i=>ads.getD i 0) (KJ (d.wS S)) { p:=d.p,stages:=S,workers:=ads.map some,boxes:=[] } bk []→Q1 (0,bk,{ p:=d.p,stages:=S,workers:=ads.map some,boxes:=[] })) :
    FA [] o2 d.p Q0 Q1:=by
  have hR:=h0.R
  have hC:=h0.C
  have hn:d.R*d.C≤64:=Nat.mul_le_mul hR.2 hC.2
  unfold FA
  refine jC h0 (AV rfl ?_)
  show LC d.k (d.R:Int) (d.C:Int) _
  refine rM ⟨h0.cA.c0,h0.cA.c1⟩ hR hC fun S hS hSl=>?_
  have h:aT (d.wS S):=h0.seg (hS.ok hSl)
  have ern:((d.R:Int)*(d.C:Int))=((d.R*d.C:Nat):Int):=by simp
  have ewn:AJ ((d.R:Int)*(d.C:Int))=((d.R*d.C:Nat):Int):=by rw [ern,AZ (by omega) (by omega)]
  refine FU (fun j (x:List (Option Nat)×Int×List (Nat×AA))=>∃ (ads:List Nat) (bk:List (Nat×AA)),x=(ads.map some,(ads.length:Int),bk)∧ads.length+j=d.R*d.C∧ads.Nodup∧∀ k (hk:k<ads.length),BT ads[k] bk=some (w0 (d.wS S) k (WV (d.wS S) k S.length))) (m0:=d.R*d.C) ⟨[],[],rfl,by simp,List.nodup_nil,fun k hk=>by simp at hk⟩ ?_
  rintro j _ next ⟨ads,bk,rfl,hj,hnd,hw⟩ hnext
  show AQ (decide ((ads.length:Int)<AJ ((d.R:Int)*(d.C:Int)))) _ _
  rw [ewn]
  refine AB (fun hk=>?_) (fun hk=>?_)
  · have hk':ads.length<d.R*d.C:=by omega
    generalize hkk:ads.length=k at hk' hj hk
    have hi:k / d.C<d.R:=Nat.div_lt_of_lt_mul (by rw [Nat.mul_comm]; exact hk')
    have hjc:k % d.C<d.C:=Nat.mod_lt _ (by omega)
    have hsC:SQ (d.C:Int):=⟨by omega,by omega⟩
    have hk8:k<8*d.C:=Nat.lt_of_lt_of_le hk' (Nat.mul_le_mul_right _ hR.2)
    show US (d.C:Int) (k:Int) _
    refine fB hsC hk8 ?_
    show XI (d.C:Int) (k:Int) _
    refine rA hsC hk8 ?_
    show RE (AX d.n d.q d.M) (d.R:Int) (d.C:Int) ((k / d.C:Nat):Int) ((k % d.C:Nat):Int) _
    refine Ab3 (d:=d.wS S) h hi hjc ?_
    refine FU (fun j (t:Int×Int×Int×Int×(List Int)×(List Int)×(List Int)×(List BP)×(List (BC×(List AC)))×Int×(List AK)×Int)=>∃ s:Nat,t=pk (w0 (d.wS S) k (WV (d.wS S) k s)) (s:Int)∧s+j=S.length) (m0:=S.length) ⟨0,rfl,by omega⟩ ?_
    rintro j2 _ next2 ⟨s,rfl,hsj⟩ hnext2
    show AQ (decide ((s:Int)<(S.length:Int))) _ _
    refine AB (fun hs=>?_) (fun hs=>?_)
    · have hs':s<S.length:=by omega
      refine BA hs' ?_
      have hlen:=jD h k s
      refine AcI (d:=d.wS S) h (w:=k) (s:=s) hk' hs' (out:=WV (d.wS S) k s) (by omega) ?_
      have ew:AJ ((s:Int)+1)=((s+1:Nat):Int):=by rw [AZ (by omega) (by omega)]; simp
      rw [ew,←eI]
      exact hnext2 (j2 - 1) _ (by omega) ⟨s+1,rfl,by omega⟩
    · have hse:s=S.length:=by omega
      subst hse
      intro b hb
      refine BK (by simp; omega) ?_
      have ew:AJ ((k:Int)+1)=(((ads++[b]).length:Nat):Int):=by rw [AZ (by omega) (by omega)]; simp [hkk]
      rw [ew]
      have hnew:∀ i (hi:i<ads.length),ads[i]≠b:=fun i hi e=>by have:=hw i hi; rw [e,hb] at this; cases this
      refine hnext (j - 1) _ (by omega) ⟨ads++[b],_,by rw [List.map_append]; rfl,by simp; omega,?_,fun i hi=>?_⟩
      · rw [List.nodup_append]
        refine ⟨hnd,(by simp),fun a ha c hc e=>?_⟩
        rw [List.mem_singleton] at hc
        obtain ⟨i,hi,rfl⟩:=List.getElem_of_mem ha
        exact hnew i hi (e.trans hc)
      · simp only [List.length_append,List.length_singleton] at hi
        by_cases e:i<ads.length
        · rw [List.getElem_append_left e,fC (hnew i e)]
          exact hw i e
        · have ei:i=k:=by omega
          subst ei
          have:(ads++[b])[i]'(by simp; omega)=b:=by rw [List.getElem_append_right (by omega)]; simp
          rw [this,WG]
  · have hl:ads.length=d.R*d.C:=by omega
    have hinj:∀ i j,i<d.R*d.C→j<d.R*d.C→ads.getD i 0=ads.getD j 0→i=j:=fun i j hi hj e=>by
      have e1:ads.getD i 0=ads[i]'(by omega):=by simp [List.getD_eq_getElem?_getD,show i<ads.length by omega]
      have e2:ads.getD j 0=ads[j]'(by omega):=by simp [List.getD_eq_getElem?_getD,show j<ads.length by omega]
      rw [e1,e2] at e
      exact (List.getElem_inj hnd).1 e
    exact hQ S ads bk hS h (AdP h hinj) (Ab2 (d:=d.wS S) h hl hw)
variable {d:Data} {c:WH} {m:MS} {N:Nat}
def oH (c:WH) (l:List JV) (m:MS):MS:=l.foldl (fun m x=>(m.act c x).2) m
theorem xS (c:WH) (l:List JV) (x:JV) (m:MS):oH c (l++[x]) m=((oH c l m).act c x).2:=by simp [oH]
theorem lX (hc:fD c):∀ (l:List JV) {m:MS},Live c N m→Good c m→Live c N (oH c l m)∧Good c (oH c l m)
  | [],_,h,g=>⟨h,g⟩
  | x :: l,m,h,g=>lX hc l (h.acted hc g x) (g.acted hc x)
abbrev AcY (o0:AD) (k:Int) (o1:List (Nat×AA)) (o2:List (Nat×AF)):Int×Int×Int×(List Int)×(List Int)×(List Int)×Int×Int×(List Int)×(List Int)×(List Int)×Int×Int×(List Int)×(List Int)×(List Int)×Int×Int×Int×(List BE)×(List (Option Nat))×(List ((Int×Int)×(Option Nat)))×Int×(List (Nat×AA))×(List (Nat×AF)):=
  (o0.p.Ring,o0.p.A.Rows,o0.p.A.Cols,o0.p.A.Start,o0.p.A.Col,o0.p.A.Val,o0.p.B.Rows,o0.p.B.Cols,o0.p.B.Start,o0.p.B.Col,o0.p.B.Val,o0.p.Mask.Rows,o0.p.Mask.Cols,o0.p.Mask.Start,o0.p.Mask.Col,o0.p.Mask.Val,o0.p.R,o0.p.C,o0.p.Room,o0.stages,o0.workers,o0.boxes,k,o1,o2)
theorem rN {l:List JV} (hl:l.length≤1048576) (h:∀ x∈l,AaS x=true) {Q:Bool→Prop} (hQ:Q false):BZ l Q:=by
  unfold BZ DL
  refine EB l.length (by omega) (fun _=>True) trivial (fun i next hi _ hnext=>?_) (fun next _=>?_)
  · refine BJ (by simp; omega) (BA hi ?_)
    unfold PZ
    refine cH ?_
    rw [h _ (List.getElem_mem hi)]
    exact AV rfl (hnext trivial)
  · exact AV (by simp) hQ
theorem AdQ (h0:DOk0 d) {l:List JV} {w:Nat} (hl:l.length≤1048576) (hmv:∀ x∈l,AaS x=true) (hw:w≤1048576)
    (hE:∀ (S:List BE) (ads:List Nat),aT (d.wS S)→fD ((d.wS S).ctx fun i=>ads.getD i 0)→(oB ((d.wS S).ctx fun i=>ads.getD i 0) w (oH ((d.wS S).ctx fun i=>ads.getD i 0) l (KJ (d.wS S)))).ended ((d.wS S).ctx fun i=>ads.getD i 0)=true)
    {Q:(Rows×Bool×Int)→Prop} (hQ:Q ((NP d.r d.n d.q (Z2 d)).1,true,(NP d.r d.n d.q (Z2 d)).2)):IX d.p l (w:Int) Q:=by
  unfold IX
  refine wA h0 fun S ads bk hS h hc hrep=>?_
  generalize hcc:((d.wS S).ctx fun i=>ads.getD i 0)=c at hc hrep
  have hrk:Rk c:=by rw [←hcc]; exact AcX h _
  have hg:Good c (KJ (d.wS S)):=by rw [←hcc]; exact eJ h _
  have hli:Live c (cJ c (KJ (d.wS S))) (KJ (d.wS S)):=by rw [←hcc]; exact lW h _
  have hend:=hE S ads h (by rw [hcc]; exact hc)
  rw [hcc] at hend
  refine AV rfl (AV (by simp; omega) (rN hl hmv (AV rfl (AV (by simp) (AV (by simp; omega) ?_)))))
  refine FU (fun j x=>∃ (i:Nat) (a0:AD) (a1:List (Nat×AA)) (a2:List (Nat×AF)),x=AcY a0 (i:Int) a1 a2∧i+j=l.length∧Rep c (oH c (l.take i) (KJ (d.wS S))) a0 a1 a2) (m0:=l.length) ⟨0,_,bk,[],rfl,by omega,hrep⟩ ?_
  rintro j _ next ⟨i,a0,a1,a2,rfl,hij,hr⟩ hnext
  show AQ (decide ((i:Int)<(l.length:Int))) _ _
  obtain ⟨hlv,hgd⟩:=lX hc (l.take i) hli hg
  refine AB (fun hi=>?_) (fun hi=>?_)
  · have hi':i<l.length:=by omega
    refine BA hi' ?_
    refine AaT hc hrk hr hgd (x:=l[i]) fun b0 b1 b2 hb _=>?_
    have ew:AJ ((i:Int)+1)=((i+1:Nat):Int):=by rw [AZ (by omega) (by omega)]; simp
    rw [ew]
    exact hnext (j - 1) _ (by omega) ⟨i+1,b0,b1,b2,rfl,by omega,by rw [List.take_succ_eq_append_getElem hi',xS]; exact hb⟩
  · have hil:i=l.length:=by omega
    subst hil
    rw [List.take_length] at hr hlv hgd
    unfold EY
    refine FU (fun j x=>∃ (i:Nat) (mm:MS) (a0:AD) (a1:List (Nat×AA)) (a2:List (Nat×AF)),x=AcY a0 (i:Int) a1 a2∧i+j=w∧Rep c mm a0 a1 a2∧Live c (cJ c (KJ (d.wS S))) mm∧Good c mm∧oB c j mm=oB c w (oH c l (KJ (d.wS S)))) (m0:=w) ⟨0,_,_,a1,a2,rfl,by omega,hr,hlv,hgd,rfl⟩ ?_
    rintro j2 _ next2 ⟨i,mm,b0,b1,b2,rfl,hij2,hrm,hlm,hgm,hrun⟩ hnext2
    have fin:mm.ended c=true→DV b0 b1 fun r2731=>CQ b0 b1 fun r2752=>Q (r2731.1,r2752,r2731.2):=fun he=>by
      rw [←hcc] at he hrm hc
      refine oG h hrm he (iX hc hrm ?_)
      rw [he]
      exact hQ
    show AQ (decide ((i:Int)<(w:Int))) _ _
    refine AB (fun hi=>?_) (fun hi=>?_)
    · obtain ⟨j3,rfl⟩:∃ j3,j2=j3+1:=⟨j2 - 1,by omega⟩
      refine iX hc hrm ?_
      cases he:mm.ended c with
      | true=>exact AV rfl (fin he)
      | false=>
        refine BJ rfl ?_
        refine lR hc hrk hrm hgm fun e0 e1 e2 hre _=>?_
        have ew:AJ ((i:Int)+1)=((i+1:Nat):Int):=by rw [AZ (by omega) (by omega)]; simp
        rw [ew]
        refine hnext2 j3 _ (by omega) ⟨i+1,_,e0,e1,e2,rfl,by omega,hre,hlm.window hc hgm,hgm.window hc,?_⟩
        rw [←hrun]
        show _=if mm.ended c=true then mm else oB c j3 (mm.window c).2
        rw [he]
        rfl
    · have:j2=0:=by omega
      subst this
      refine fin ?_
      have:mm=oB c w (oH c l (KJ (d.wS S))):=hrun
      rw [this]; exact hend
variable {d:Data} {c:WH} {m:MS} {N:Nat} {o0:AD} {o1:List (Nat×AA)} {o2:List (Nat×AF)}
theorem cL {x:Int} (h:YC .u8 x):∃ n:Nat,1≤n∧n≤4∧AJ (((AJ x).tmod 4)+1)=(n:Int):=by
  have hb:=bounds_u8 h
  rw [AZ (x:=x) (by omega) (by omega),Int.tmod_eq_emod_of_nonneg (by omega),AZ (by omega) (by omega)]
  exact ⟨(x % 4+1).toNat,by omega,by omega,by omega⟩
theorem AcM {a:JX} (h:VY a) {Q:BL→Prop} (hQ:∀ d:Data,DOk0 d→d.R≤4→d.C≤4→d.room≤4→Q d.p):LU a Q:=by
  unfold LU
  obtain ⟨h0,hR,hC,hm⟩:=h
  refine Aa8 h0.2.1 h0.2.2.1.1 h0.2.2.2.1.1 h0.2.2.2.2.1 fun n k q A B M hn hk hq hA hB hM vA vB vM=>qG ?_
  obtain ⟨R,r1,r2,re⟩:=cL hR
  obtain ⟨C,c1,c2,ce⟩:=cL hC
  obtain ⟨rm,m1,m2,me⟩:=cL hm
  rw [re,ce,me]
  exact hQ ⟨eZ a.T.Ring,n,k,q,A,B,M,R,C,rm,[]⟩ ⟨AbW _,hA,hB,hM,vA,vB,vM,by show 1≤R∧R≤8; omega,by show 1≤C∧C≤8; omega,by show 1≤rm∧rm≤64; omega⟩ r2 c2 m2
def rO (R C:Nat):Nat:=(R+C)*(R+C)+2
theorem cN (h:DOk0 d) {Q:Int→Prop} (hQ:Q ((rO d.R d.C:Nat):Int)):ER d.p Q:=by
  have hR:=h.R
  have hC:=h.C
  unfold ER
  refine jC h (AV rfl ?_)
  show Q (AJ ((AJ ((AJ ((d.R:Int)+(d.C:Int)))*(AJ ((d.R:Int)+(d.C:Int)))))+2))
  have e1:AJ ((d.R:Int)+(d.C:Int))=((d.R+d.C:Nat):Int):=by rw [AZ (by omega) (by omega)]; simp
  have hle:(d.R+d.C)*(d.R+d.C)≤16*16:=Nat.mul_le_mul (by omega) (by omega)
  have e2:((d.R+d.C:Nat):Int)*((d.R+d.C:Nat):Int)=(((d.R+d.C)*(d.R+d.C):Nat):Int):=by simp
  rw [e1,e2,AZ (x:=(((d.R+d.C)*(d.R+d.C):Nat):Int)) (by omega) (by omega),AZ (by omega) (by omega)]
  unfold rO at hQ
  rw [Int.natCast_add] at hQ
  exact hQ
theorem AcN (h:DOk0 d):rO d.R d.C≤258:=by
  have hle:(d.R+d.C)*(d.R+d.C)≤16*16:=Nat.mul_le_mul (by have:=h.R; have:=h.C; omega) (by have:=h.R; have:=h.C; omega)
  unfold rO; omega
theorem lY (w:Nat):∀ t,(WV d w t).length≤t*(d.R+d.C)
  | 0=>by simp [WV]
  | t+1=>by
    rw [eI,List.length_append]
    have:=lY w t
    have h2:(TV d w t++SR d w t).length≤d.R+d.C:=by
      rw [List.length_append]; unfold TV SR; split <;> split <;> simp <;> omega
    rw [Nat.succ_mul]; omega
theorem Ab4 (h:aT d) {adr:Nat→Nat} (hc:fD (d.ctx adr)):(oB (d.ctx adr) (rO d.R d.C) (KJ d)).ended (d.ctx adr)=true:=by
  refine lT hc _ (lW h adr) (eJ h adr) (fun _ _ _ _=>rfl) fun k hk=>?_
  have h1:=lY (d:=d) k d.S.length
  have h2:d.S.length*(d.R+d.C)≤(d.R+d.C)*(d.R+d.C):=Nat.mul_le_mul_right _ (by have:=h.seg.len; omega)
  show (WV d k d.S.length).length≤_
  unfold rO; omega
theorem aG (h:DOk0 d) {Q:(Rows×Bool×Int)→Prop} (hQ:Q ((NP d.r d.n d.q (Z2 d)).1,true,(NP d.r d.n d.q (Z2 d)).2)):IX d.p [] ((rO d.R d.C:Nat):Int) Q:=
  AdQ h (by simp) (fun x hx=>absurd hx (List.not_mem_nil)) (by have:=AcN h; omega) (fun S ads hd hc=>Ab4 hd hc) hQ
theorem rP {n:Nat} (g:Nat→Nat→Nat):∀ (L:List (Int×Int)),L.Nodup→(∀ q∈L,∃ f t:Nat,f<n∧t<n∧q=((f:Int),(t:Int))) →
    (L.map fun q=>g q.1.toNat q.2.toNat).sum=Z1 (fun f=>Z1 (fun t=>if ((f:Int),(t:Int))∈L then g f t else 0) n) n
  | [],_,_=>by
    have e:Z1 (fun f:Nat=>Z1 (fun t:Nat=>if ((f:Int),(t:Int))∈([]:List (Int×Int)) then g f t else 0) n) n=Z1 (fun _=>0) n:=GS fun i hi=>by
      have:Z1 (fun t:Nat=>if ((i:Int),(t:Int))∈([]:List (Int×Int)) then g i t else 0) n=Z1 (fun _=>0) n:=GS fun j hj=>by simp
      rw [this,MU]; simp
    rw [e,MU]; simp
  | q :: L,hn,hk=>by
    rw [List.nodup_cons] at hn
    obtain ⟨f,t,hf,ht,rfl⟩:=hk q List.mem_cons_self
    have ih:=rP g L hn.2 fun q hq=>hk q (List.mem_cons_of_mem _ hq)
    have h1:=YS (g:=fun j:Nat=>if ((f:Int),(j:Int))∈L then g f j else 0) (g':=fun j:Nat=>if ((f:Int),(j:Int))∈((f:Int),(t:Int)) :: L then g f j else 0) ht (fun i hi=>by
      have:¬((f:Int),(i:Int))=((f:Int),(t:Int)):=by simp; omega
      simp only [List.mem_cons,this,false_or])
    have h2:=YS (g:=fun i:Nat=>Z1 (fun j:Nat=>if ((i:Int),(j:Int))∈L then g i j else 0) n) (g':=fun i:Nat=>Z1 (fun j:Nat=>if ((i:Int),(j:Int))∈((f:Int),(t:Int)) :: L then g i j else 0) n) hf (fun i hi=>GS fun j hj=>by
      have:¬((i:Int),(j:Int))=((f:Int),(t:Int)):=by simp; omega
      simp only [List.mem_cons,this,false_or])
    rw [if_neg hn.1] at h1
    rw [if_pos List.mem_cons_self] at h1
    rw [List.map_cons,List.sum_cons,ih]
    simp only [Int.toNat_natCast]
    omega
theorem Ab5 (h:Rep c m o0 o1 o2) (hb:PV c m≤1000000000) {Q:Int→Prop} (hQ:Q (PV c m:Int)):FY o0 o2 Q:=by
  have htot:(o0.boxes.map fun p=>(m.bx p.1.1.toNat p.1.2.toNat).fs.length).sum=PV c m:=by
    have:=rP (n:=c.n) (fun f t=>(m.bx f t).fs.length) (o0.boxes.map fun p:(Int×Int)×Option Nat=>p.1) h.ks h.kr
    rw [List.map_map] at this
    rw [show (o0.boxes.map fun p=>(m.bx p.1.1.toNat p.1.2.toNat).fs.length)=o0.boxes.map ((fun q:Int×Int=>(m.bx q.1.toNat q.2.toNat).fs.length)∘(·.1)) from rfl,this]
    unfold PV
    refine GS fun f hf=>GS fun t ht=>?_
    split
    · rfl
    · rename_i hno
      rw [h.no f t (YD hno)]; rfl
  unfold FY
  refine FU (fun j (x:(List ((Int×Int)×(Option Nat)))×Int)=>∃ dn:List ((Int×Int)×(Option Nat)),o0.boxes.Perm (dn++x.1)∧x.2=((dn.map fun p=>(m.bx p.1.1.toNat p.1.2.toNat).fs.length).sum:Nat)∧x.1.length=j) (m0:=o0.boxes.length) ⟨[],by simp,by simp,rfl⟩ ?_
  rintro j ⟨rest,acc⟩ next ⟨dn,hp,hacc,hj⟩ hnext
  simp only at hp hacc hj
  refine eT (fun hr=>?_) (fun p r hpr=>?_)
  · subst hr
    rw [List.append_nil] at hp
    rw [hacc,← (hp.map _).sum_nat,htot]
    exact hQ
  · have hp2:o0.boxes.Perm ((dn++[p])++r):=hp.trans (by rw [List.append_assoc]; exact (List.Perm.refl dn).append hpr)
    have hmem:p∈o0.boxes:=hp2.mem_iff.2 (by simp)
    obtain ⟨f,t,hf,ht,hq⟩:=h.kr p.1 (List.mem_map_of_mem hmem)
    have hget:BT ((f:Int),(t:Int)) o0.boxes=some p.2:=(HT h.ks).2 (by rw [←hq]; exact hmem)
    have hsum:((dn++[p]).map fun p=>(m.bx p.1.1.toNat p.1.2.toNat).fs.length).sum=(dn.map fun p=>(m.bx p.1.1.toNat p.1.2.toNat).fs.length).sum+(m.bx f t).fs.length:=by
      rw [List.map_append,List.sum_append,List.map_singleton,hq]; simp
    have hle:((dn++[p]).map fun p=>(m.bx p.1.1.toNat p.1.2.toNat).fs.length).sum≤PV c m:=by
      have e3:=(hp2.map fun p=>(m.bx p.1.1.toNat p.1.2.toNat).fs.length).sum_nat
      rw [htot,List.map_append (l₁:=dn++[p]) (l₂:=r),List.sum_append] at e3
      omega
    unfold OQ
    cases hv:p.2 with
    | none=>rw [hv] at hget; exact absurd hget (h.nn _)
    | some b=>
      rw [hv] at hget
      obtain ⟨pb,g1,g2⟩:=h.bx f t b hget
      rw [MT,TU g1]
      refine AcA g2 ?_
      refine hnext r.length _ ?_ ⟨dn++[p],hp2,?_,rfl⟩
      · have:=hpr.length_eq; simp at this; omega
      · simp only
        rw [hsum,hacc,AZ (by omega) (by omega)]; simp
def xT:List AC:=[⟨0,1,3⟩,⟨1,0,5⟩]
def AcO:List AC:=[⟨0,0,15⟩,⟨1,1,15⟩]
def XZ:List BE:=[⟨0,1,0,0⟩,⟨1,2,1,0⟩]
def VE:Data:=⟨5,2,2,2,xT,xT,VD 2 2,2,1,1,[]⟩
theorem aH:Canon 2 2 xT:=⟨by decide,by decide,by decide,by decide,by decide,by unfold Srt; decide,by decide⟩
theorem aI:Canon 2 2 AcO:=⟨by decide,by decide,by decide,by decide,by decide,by unfold Srt; decide,by decide⟩
theorem YV:∀ t∈xT,GL t.Val:=fun t ht=>by
  unfold xT at ht
  simp only [List.mem_cons,List.not_mem_nil,or_false] at ht
  rcases ht with rfl | rfl <;> (unfold GL; decide)
theorem AdR:DOk0 VE:=⟨by decide,aH,aH,fA (n:=2) (m:=2) (by decide) (by decide),YV,YV,fun t ht=>by rw [(dS ht).2]; unfold GL; omega,by decide,by decide,by decide⟩
theorem AdS {S:List BE} (h:SegSp 2 2 1 2 S) (hl:S.length+1≤3):S=XZ:=by
  have l0:CR 2 ((2:Nat):Int) 0=0:=by decide
  have l1:CR 2 ((2:Nat):Int) 1=1:=by decide
  have l1':CR 2 ((2:Nat):Int) (0+1)=1:=by decide
  match S,h,hl with
  | [],h,_=>exact absurd h.top (by decide)
  | [x],h,_=>
    exfalso
    have t:x.To=2:=h.top
    have r:=h.row 0 (by simp)
    have lo:=(h.lo 0 (by simp)).1
    simp only [List.getElem_cons_zero] at r lo
    have lo:x.From=0:=lo
    rcases (by omega:x.Row=0∨x.Row=1) with e | e
    · rw [e,l1'] at r; omega
    · rw [e,l1] at r; omega
  | [x,y],h,_=>
    have t:y.To=2:=h.top
    have r:=h.row 0 (by simp)
    have r':=h.row 1 (by simp)
    have q:=h.col 0 (by simp)
    have q':=h.col 1 (by simp)
    have lo:=h.lo 0 (by simp)
    have lo':=h.lo 1 (by simp)
    simp only [List.getElem_cons_zero,List.getElem_cons_succ] at r r' q q' lo lo'
    have f1:x.From=0:=lo.1
    have f2:y.From=x.To:=lo'.1
    have e1:x.Row=0:=by
      rcases (by omega:x.Row=0∨x.Row=1) with e | e
      · exact e
      · rw [e,l1] at r; omega
    have e2:y.Row=1:=by
      rcases (by omega:y.Row=0∨y.Row=1) with e | e
      · rw [e,l1'] at r'; omega
      · exact e
    rw [e1,l1'] at r
    obtain ⟨xf,xt,xr,xc⟩:=x
    obtain ⟨yf,yt,yr,yc⟩:=y
    simp only at *
    unfold XZ
    simp only [List.cons.injEq,BE.mk.injEq,and_true]
    omega
  | x :: y :: z :: r,_,hl=>simp at hl
theorem AdT:NP 5 2 2 (Z2 VE)=(AX 2 2 AcO,0):=by decide
theorem xU {n m:Nat} {Q:Rows→Prop} (hn:n≤13) (hm:m≤13) (hQ:Q (AX n m (VD n m))):VW n m Q:=by
  unfold VW
  have hv:∀ t∈VD n m,GL t.Val:=fun t ht=>by rw [(dS ht).2]; unfold GL; omega
  have hc:=fA (show n≤200 by omega) (show m≤200 by omega)
  refine BB (fun (s:List AC) i=>(s,i)) 0 n (by omega) (fun i s=>s=VD i m) (by omega) rfl (fun i s next _ hi hs hx=>?_) (fun s next hs=>?_)
  · subst hs
    refine AB (fun _=>?_) (fun h=>by omega)
    refine BB (fun (s:List AC) i=>(s,i)) 0 m (by omega) (fun j s=>s=VD i m++ZM i j) (by omega) (by simp [ZM]) (fun j s nx _ hj hs hy=>?_) (fun s nx hs=>?_)
    · subst hs
      refine AB (fun _=>BK ?_ (hy _ ?_)) (fun h=>by omega)
      · have h1:=Nat.mul_le_mul (show i≤13 by omega) hm
        rw [List.length_append,dR,ZM,List.length_map,List.length_range,List.length_singleton]
        omega
      · rw [tO,List.append_assoc]
    · subst hs
      refine AB (fun h=>by omega) (fun _=>hx _ ?_)
      rw [iN]
  · subst hs
    refine AB (fun h=>by omega) (fun _=>YN (by have:=hc.len; omega) hv ?_)
    rw [gD hc hv (by omega)]
    exact hQ
theorem xV {Q:Bool→Prop} (hQ:Q true):VX Q:=by
  unfold VX
  refine YN (by decide) YV ?_
  rw [show ([({ Row:=0,Col:=1,Val:=3 }:AC),({ Row:=1,Col:=0,Val:=5 }:AC)]:List AC)=xT from rfl,gD aH YV (by decide)]
  refine xU (n:=2) (m:=2) (by decide) (by decide) ?_
  have h0:=AdR
  show FA [] [] VE.p _ _
  refine wA h0 fun S ads bk hS h hc hrep=>?_
  have hSe:S=XZ:=AdS hS (by have:=h.seg.len; exact this)
  subst hSe
  generalize hcc:((VE.wS XZ).ctx fun i=>ads.getD i 0)=c at hc hrep
  have hrk:Rk c:=by rw [←hcc]; exact AcX h _
  have hg:Good c (KJ (VE.wS XZ)):=by rw [←hcc]; exact eJ h _
  have hcn:c.n=2:=by rw [←hcc]; rfl
  have hcs:c.S=XZ:=by rw [←hcc]; rfl
  refine AaT hc hrk hrep hg fun b0 b1 b2 hb _=>?_
  have hact:(KJ (VE.wS XZ)).act c { Kind:=1,A:=0,B:=0,K:=0 }=(KJ (VE.wS XZ)).send c 0:=by
    unfold MS.act
    rw [if_neg (by decide),if_pos rfl,if_pos ⟨by decide,by rw [hcn]; decide⟩]
    rfl
  have hg2:=hg.acted hc { Kind:=1,A:=0,B:=0,K:=0 }
  rw [hact] at hb hg2 ⊢
  have hs:=gF (c:=c) (m:=KJ (VE.wS XZ)) (k:=0) (t:=0) (f:=tY (VE.wS XZ) 0 0 0) (r:=[tZ (VE.wS XZ) 0 0 0,tZ (VE.wS XZ) 0 0 1,tY (VE.wS XZ) 0 1 0]) (by decide) (by decide) (by decide)
  rw [hs] at hb hg2 ⊢
  refine AcF hc hb (f:=0) (t:=0) (by rw [hcn]; decide) (by rw [hcn]; decide) fun e0 e2 hre _=>?_
  show ER VE.p _
  refine cN h0 ?_
  show IX VE.p [] ((rO 2 1:Nat):Int) _
  refine aG h0 ?_
  have hd:NP VE.r VE.n VE.q (Z2 VE)=(AX 2 2 AcO,0):=AdT
  rw [hd]
  refine iH aI.sml (EO aI) aI ?_
  have hget:qA AcO 0 0=(15,true):=by decide
  rw [hget]
  unfold EY
  unfold FA GY
  refine MD (BJ rfl (BJ rfl ?_))
  unfold DT
  refine BJ rfl (BJ rfl (BJ rfl ?_))
  unfold HL
  rw [hre.S,hcs]
  refine BJ rfl ?_
  refine Ab5 hre (by unfold PV; rw [hcn]; decide) ?_
  have e1:PV c (DQ (CS (KJ (VE.wS XZ)) 0 0 { (KJ (VE.wS XZ)).bx 0 0 with row:=((KJ (VE.wS XZ)).bx 0 0).row++[((KJ (VE.wS XZ)).bx 0 0).fs.length],fs:=((KJ (VE.wS XZ)).bx 0 0).fs++[{ tY (VE.wS XZ) 0 0 0 with Seq:=((KJ (VE.wS XZ)).bx 0 0).fs.length }] }) 0 { (KJ (VE.wS XZ)).w 0 with out:=[tZ (VE.wS XZ) 0 0 0,tZ (VE.wS XZ) 0 0 1,tY (VE.wS XZ) 0 1 0] })=1:=by unfold PV; rw [hcn]; decide
  dsimp only at e1 hre ⊢
  rw [e1]
  refine BJ rfl ?_
  refine iX hc hre ?_
  have e2:MS.ended c (DQ (CS (KJ (VE.wS XZ)) 0 0 { (KJ (VE.wS XZ)).bx 0 0 with row:=((KJ (VE.wS XZ)).bx 0 0).row++[((KJ (VE.wS XZ)).bx 0 0).fs.length],fs:=((KJ (VE.wS XZ)).bx 0 0).fs++[{ tY (VE.wS XZ) 0 0 0 with Seq:=((KJ (VE.wS XZ)).bx 0 0).fs.length }] }) 0 { (KJ (VE.wS XZ)).w 0 with out:=[tZ (VE.wS XZ) 0 0 0,tZ (VE.wS XZ) 0 0 1,tY (VE.wS XZ) 0 1 0] })=false:=by unfold MS.ended; rw [hcn,hcs]; decide
  dsimp only at e2
  rw [e2]
  refine BJ rfl (BJ rfl (BJ rfl (BJ rfl (BJ rfl (BJ rfl (BJ rfl ?_))))))
  show ER VE.p _
  refine cN h0 (BJ rfl ?_)
  refine oA hre ?_
  rw [if_pos ⟨by decide,by rw [hcn]; decide⟩]
  refine BJ (by decide) ?_
  refine AaX hre (k:=0) (by rw [hcn]; decide) ?_
  refine BJ (by decide) ?_
  have hfin:=jC h0 (Q:=fun r=>Q (r==0)) hQ
  unfold GY at hfin
  exact hfin
theorem jE {d:Data} (h:DOk0 d):dQ d.r d.n d.k d.k d.q d.n d.q d.A d.B d.M=NP d.r d.n d.q (Z2 d):=by
  have hr:=h.r
  have e:OV d.r d.n d.k d.k d.q d.n d.q d.A d.B d.M=(GD d.r d.A d.B d.M,0):=by unfold OV; rw [if_neg (by omega),if_neg (by omega)]
  unfold dQ
  rw [e]
  rfl
theorem oI (a0:JX) (a1 a2:Int) (h0:VY a0) (h1:YC .u8 a1) (h2:YC .u8 a2):QA a0 a1 a2 (fun r=>r=true):=by
  unfold QA
  refine AcM h0 fun d hd hR hC hm=>?_
  obtain ⟨R,r1,r2,re⟩:=cL h1
  obtain ⟨C,c1,c2,ce⟩:=cL h2
  rw [re,ce]
  have hd2:DOk0 { d with R:=R,C:=C }:=⟨hd.r,hd.cA,hd.cB,hd.cM,hd.vA,hd.vB,hd.vM,by show 1≤R∧R≤8; omega,by show 1≤C∧C≤8; omega,hd.room⟩
  refine cN hd (aG hd ?_)
  show ER ({ d with R:=R,C:=C }:Data).p _
  refine cN hd2 ?_
  show IX ({ d with R:=R,C:=C }:Data).p [] _ _
  refine aG hd2 ?_
  show PP d.r (AX d.n d.k d.A) (AX d.k d.q d.B) (AX d.n d.q d.M) _
  refine nR hd.cA hd.cB hd.cM hd.vA hd.vB ?_
  rw [jE hd]
  have e2:NP ({ d with R:=R,C:=C }:Data).r ({ d with R:=R,C:=C }:Data).n ({ d with R:=R,C:=C }:Data).q (Z2 ({ d with R:=R,C:=C }:Data))=NP d.r d.n d.q (Z2 d):=rfl
  rw [e2]
  have hsm:KY (NP d.r d.n d.q (Z2 d)).1:=by rw [←jE hd]; exact qM
  refine xV (BJ rfl (BJ rfl (BJ rfl (BJ (by simp) (BJ (by simp) ?_)))))
  refine eY hsm (BJ (by simp) (eY hsm ?_))
  simp
end Go.Proofs.YtbohadngdkjljaaGreat
