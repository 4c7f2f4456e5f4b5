import Derived.Test.YtbohadngdkjljaaGreatSumI
namespace Go.Proofs.YtbohadngdkjljaaGreat
open Go Go.Fw Go.Sort
set_option linter.unusedVariables false
set_option linter.unusedSimpArgs false
variable {d:Data}
def shC (a b:Int) (x:AK):AK:=⟨x.Row+a,x.Col+b,x.Val⟩
def bkC (d:Data) (i j:Nat):List AK:=(TE d i j d.S.length).map (shC (d.rl i) (d.cl j))
def Z3 (d:Data):List AK:=GO d.r d.A d.B d.M
theorem tV (h:Z2 d) (i j:Nat) {t:AC} (ht:t∈yC d i j):MV d.r (fR d i 0 d.k) (jC d j 0 d.k) t.Row t.Col=MV d.r d.A d.B (t.Row+d.rl i) (t.Col+d.cl j):=by
  have hr:=rA h i
  have hc:=rB h j
  obtain ⟨_,cA0,lA0⟩:=GA h.cA (l:=d.rl i) (u:=d.rl (i+1)) (c:=0) (d:=d.k) hr.1 hr.2.1 hr.2.2 (by omega) h.cA.c0 (by omega)
  obtain ⟨_,cB0,lB0⟩:=GA h.cB (l:=0) (u:=d.k) (c:=d.cl j) (d:=d.cl (j+1)) (by omega) h.cA.c0 (by omega) hc.1 hc.2.1 hc.2.2
  obtain ⟨_,cM0,_⟩:=GA h.cM (l:=d.rl i) (u:=d.rl (i+1)) (c:=d.cl j) (d:=d.cl (j+1)) hr.1 hr.2.1 hr.2.2 hc.1 hc.2.1 hc.2.2
  simp only [Int.sub_zero,Int.add_zero] at cA0 lA0 cB0 lB0
  have hin:=cM0.inn t ht
  unfold UM at hin
  unfold fR jC
  rw [VE cA0 hin.1,VE h.cA (by omega)]
  refine aF (fun x hx=>?_) (fun x hx=>?_)
  · rw [lA0 _ _ hin.1 hin.2.1 (by omega) (by omega)]
  · unfold jZ
    rw [lB0 _ _ (by omega) (by omega) hin.2.2.1 hin.2.2.2]
theorem AdT (h:Z2 d) (i j:Nat):bkC d i j=((yC d i j).map (shT (d.rl i) (d.cl j))).filterMap (HF d.r d.A d.B):=by
  unfold bkC TE GO
  rw [h.seg.top,List.map_filterMap,List.filterMap_map]
  refine XY fun t ht=>?_
  have:=tV h i j ht
  simp only [Function.comp_apply,HF,shT]
  rw [this]
  cases MV d.r d.A d.B (t.Row+d.rl i) (t.Col+d.cl j) <;> simp [shC]
theorem nY (h:Z2 d):((List.range (d.R*d.C)).flatMap fun k=>bkC d (k / d.C) (k % d.C)).Perm (Z3 d):=by
  have hC:=h.C
  rw [lJ (by omega) (fun i j=>bkC d i j)]
  have e:((List.range d.R).flatMap fun i=>(List.range d.C).flatMap fun j=>bkC d i j)=(((List.range d.R).flatMap fun i:Nat=>(List.range d.C).flatMap fun j:Nat=>(yC d i j).map (shT (d.rl i) (d.cl j))).filterMap (HF d.r d.A d.B)):=by
    rw [List.filterMap_flatMap]
    refine NO fun i _=>?_
    rw [List.filterMap_flatMap]
    exact NO fun j _=>AdT h i j
  rw [e]
  refine List.Perm.filterMap _ ?_
  have hp:WX d.n (d.R:Int):=⟨⟨h.cM.r0,h.cM.r1⟩,by have:=h.R; omega⟩
  have hq:WX d.q (d.C:Int):=⟨⟨h.cM.c0,h.cM.c1⟩,by have:=h.C; omega⟩
  exact qO h.cM hp hq
def cfC (x y:AK):Int:=wR (SQ x.Row y.Row) (SQ x.Col y.Col)
theorem nZ (x y:AK):cfC x y<0↔PV (x.Row,x.Col) (y.Row,y.Col):=TR x y
theorem AcK:SWO (ltOf cfC) where
  irrefl x:=by unfold ltOf; simp only [nZ]; simp [PV]
  trans x y z h1 h2:=by unfold ltOf at *; simp only [nZ,decide_eq_true_eq] at *; exact MT h1 h2
  ntrans x y z h1 h2:=by unfold ltOf at *; simp only [nZ,decide_eq_false_iff_not,PV] at *; omega
variable {adr:Nat→Nat} {m:MS} {o0:AB} {o1:List (Nat×AA)} {o2:List (Nat×AF)}
theorem tW (h:Z2 d):Aa9 d.n d.q (Z3 d):=nJ (r:=d.r) (ra:=0) (ca:=0) (rb:=0) (cb:=0) (A:=d.A) (B:=d.B) h.cM
theorem xQ {x y:AK} {Q:Int→Prop} (h:Q (cfC x y)):GJ x y Q:=by
  unfold GJ
  exact HO (HO (lB h))
def oA (d:Data) (m:MS) (n:Nat):List AK:=(List.range n).flatMap fun k=>(TE d (k / d.C) (k % d.C) (m.w k).at_).map (shC (d.rl (k / d.C)) (d.cl (k % d.C)))
theorem rC (h:Z2 d) (i j t:Nat):(TE d i j t).length≤65536∧∀ x∈TE d i j t,0≤x.Row∧x.Row≤4096∧0≤x.Col∧x.Col≤4096:=by
  have hr:=rA h i
  have hc:=rB h j
  obtain ⟨_,cM0,_⟩:=GA h.cM (l:=d.rl i) (u:=d.rl (i+1)) (c:=d.cl j) (d:=d.cl (j+1)) hr.1 hr.2.1 hr.2.2 hc.1 hc.2.1 hc.2.2
  have hP:=nJ (r:=d.r) (ra:=0) (ca:=0) (rb:=0) (cb:=0) (A:=fR d i 0 (CV d.S t)) (B:=jC d j 0 (CV d.S t)) cM0
  refine ⟨hP.len,fun x hx=>?_⟩
  have:=hP.inn x hx
  have h1:=h.cM.r1
  have h2:=h.cM.c1
  omega
theorem jD (h:Z2 d) (m:MS):∀ n:Nat,(oA d m n).length≤n*65536
  | 0=>by simp [oA]
  | n+1=>by
    have:=jD h m n
    have:=(rC h (n / d.C) (n % d.C) (m.w n).at_).1
    unfold oA at *
    rw [List.range_succ,List.flatMap_append,List.length_append,List.flatMap_singleton,List.length_map]
    omega
theorem Ab2 (h:Z2 d) {adr:Nat→Nat} (he:m.ended (d.ctx adr)=true):(oA d m (d.R*d.C)).Perm (Z3 d):=by
  have:oA d m (d.R*d.C)=(List.range (d.R*d.C)).flatMap fun k=>bkC d (k / d.C) (k % d.C):=NO fun k hk=>by
    rw [VG.1 he k (List.mem_range.1 hk)]; rfl
  rw [this]
  exact nY h
theorem xR (h:Z2 d) (hr:Rep (d.ctx adr) m o0 o1 o2) (zs:List AK) (hp:(oA d m (d.R*d.C)).Perm zs) (hz:zs.Pairwise gH) {Q:List AK→Prop} (hQ:Q zs):CL o0 o1 Q:=by
  have hR:=h.R
  have hC:=h.C
  have hn:d.R*d.C≤64:=Nat.mul_le_mul hR.2 hC.2
  have hn1:=h.cM.r1
  have hq1:=h.cM.c1
  unfold CL
  have hlen:o0.workers.length=d.R*d.C:=hr.len
  refine ET (fun j (x:List AK×Int)=>∃ k:Nat,x=(oA d m k,(k:Int))∧k+j=d.R*d.C) (m0:=d.R*d.C) ⟨0,rfl,by omega⟩ ?_
  rintro j _ next ⟨k,rfl,hkj⟩ hnext
  show AR (decide ((k:Int)<(o0.workers.length:Int))) _ _
  rw [hlen]
  refine AD (fun hk=>?_) (fun hk=>?_)
  · have hk':k<(d.ctx adr).n:=by show k<d.R*d.C; omega
    obtain ⟨x,hx,hw⟩:=hr.wk k hk'
    refine AO (by omega) (hr.get hk') (KM hx ?_)
    rw [hr.p,hw.i,hw.j]
    show FV d.n (d.R:Int) ((k / d.C:Nat):Int) _
    refine IF ?_
    show FV d.q (d.C:Int) ((k % d.C:Nat):Int) _
    refine IF (KM hx ?_)
    have hhas:x.has=TE d (k / d.C) (k % d.C) (m.w k).at_:=hw.has
    rw [hhas]
    obtain ⟨hl,hin⟩:=rC h (k / d.C) (k % d.C) (m.w k).at_
    have hbase:=jD h m k
    have b1:=rA h (k / d.C)
    have b2:=rB h (k % d.C)
    refine ET (fun j (y:List AK×Int)=>∃ i:Nat,y=(oA d m k++((TE d (k / d.C) (k % d.C) (m.w k).at_).take i).map (shC (d.rl (k / d.C)) (d.cl (k % d.C))),(i:Int))∧i+j=(TE d (k / d.C) (k % d.C) (m.w k).at_).length) (m0:=(TE d (k / d.C) (k % d.C) (m.w k).at_).length) ⟨0,by simp,by omega⟩ ?_
    rintro j2 _ next2 ⟨i,rfl,hij⟩ hnext2
    show AR (decide ((i:Int)<((TE d (k / d.C) (k % d.C) (m.w k).at_).length:Int))) _ _
    refine AD (fun hi=>?_) (fun hi=>?_)
    · have hi':i<(TE d (k / d.C) (k % d.C) (m.w k).at_).length:=by omega
      refine BH hi' (BJ ?_ ?_)
      · simp only [List.length_append,List.length_map,List.length_take,List.length_singleton]; omega
      · have hx':=hin _ (List.getElem_mem hi')
        have e1:AJ ((TE d (k / d.C) (k % d.C) (m.w k).at_)[i].Row+CT d.n (d.R:Int) ((k / d.C:Nat):Int))=(TE d (k / d.C) (k % d.C) (m.w k).at_)[i].Row+d.rl (k / d.C):=by
          show AJ (_+d.rl (k / d.C))=_
          rw [AX (by omega) (by omega)]
        have e2:AJ ((TE d (k / d.C) (k % d.C) (m.w k).at_)[i].Col+CT d.q (d.C:Int) ((k % d.C:Nat):Int))=(TE d (k / d.C) (k % d.C) (m.w k).at_)[i].Col+d.cl (k % d.C):=by
          show AJ (_+d.cl (k % d.C))=_
          rw [AX (by omega) (by omega)]
        rw [e1,e2]
        refine hnext2 (j2 - 1) _ (by omega) ⟨i+1,?_,by omega⟩
        rw [AX (by omega) (by omega),List.take_succ_eq_append_getElem hi',List.map_append,List.append_assoc]
        simp [shC]
    · have hie:i=(TE d (k / d.C) (k % d.C) (m.w k).at_).length:=by omega
      subst hie
      refine hnext (j - 1) _ (by omega) ⟨k+1,?_,by omega⟩
      rw [AX (by omega) (by omega),List.take_length]
      unfold oA
      rw [List.range_succ,List.flatMap_append,List.flatMap_singleton]
      simp
  · have hke:k=d.R*d.C:=by omega
    subst hke
    have hlen:=jD h m (d.R*d.C)
    refine vF cfC (fun x y Q hq=>xQ hq) AcK (by have:d.R*d.C*65536≤64*65536:=Nat.mul_le_mul_right _ hn; omega) hp (hz.imp fun {a b} hab=>(nZ a b).2 hab) hQ
theorem fD (h:Z2 d) (hr:Rep (d.ctx adr) m o0 o1 o2) (he:m.ended (d.ctx adr)=true) {Q:List AK→Prop} (hQ:Q (Z3 d)):CL o0 o1 Q:=
  xR h hr (Z3 d) (Ab2 h he) (tW h).inc hQ
theorem oB (h:Z2 d) (hr:Rep (d.ctx adr) m o0 o1 o2) (he:m.ended (d.ctx adr)=true) {Q:Rows×Int→Prop} (hQ:Q (ZJ d.r d.n d.q (Z3 d))):DZ o0 o1 Q:=by
  unfold DZ
  refine fD h hr he ?_
  rw [hr.p]
  exact nK h.r ⟨⟨h.cM.r0,h.cM.r1⟩,h.cM.c0,h.cM.c1⟩ (tW h) hQ
open Go Go.Fw
theorem AcL {n k i:Int} (h:WX n k) (h0:0≤i) (h1:i≤k):CT n k i=i*n / k:=by
  unfold CT qM
  rw [if_pos h,if_neg (by omega),if_neg (by omega)]
theorem jE {n k a:Int} {Q:Int→Prop} (h:WX n k) (h0:0≤a) (h1:a<n) (hQ:∀ i,0≤i→i<k→CT n k i≤a→a<CT n k (i+1)→Q i):bK n k a Q:=by
  have hb:=h
  unfold WX at hb
  unfold bK
  refine TT (AV (by rw [decide_eq_true h]; rfl) (AV (by simp; omega) (AV (by simp; omega) ⟨by omega,?_⟩)))
  have hk8:a*k≤a*8:=Int.mul_le_mul_of_nonneg_left hb.2.2 h0
  have hak0:0≤a*k:=Int.mul_nonneg h0 (by omega)
  have e1:AJ (a*k)=a*k:=AX (by omega) (by omega)
  have hq0:0≤a*k / n:=Int.ediv_nonneg hak0 (by omega)
  have hlt:a*k / n<k:=by
    refine Int.ediv_lt_of_lt_mul (by omega) ?_
    rw [Int.mul_comm k n]
    exact Int.mul_lt_mul_of_pos_right h1 (by omega)
  have hle:CT n k (a*k / n)≤a:=by
    rw [AcL h hq0 (by omega)]
    refine Int.ediv_le_of_le_mul (by omega) ?_
    exact Int.ediv_mul_le _ (by omega)
  rw [e1,Int.tdiv_eq_ediv_of_nonneg hak0,AX (x:=a*k / n) (by omega) (by omega)]
  refine ET (fun j (i:Int)=>0≤i∧i<k∧CT n k i≤a∧(k - i).toNat=j) (m0:=(k - a*k / n).toNat) ⟨hq0,hlt,hle,rfl⟩ ?_
  rintro j i next ⟨i0,i1,i2,i3⟩ hnext
  have ew:AJ (i+1)=i+1:=AX (by omega) (by omega)
  show FV n k (AJ (i+1)) _
  rw [ew]
  refine IF (AD (fun hh=>?_) (fun hh=>hQ i i0 i1 i2 (by omega)))
  refine hnext (j - 1) _ (by omega) ⟨by omega,?_,hh,by omega⟩
  rcases Int.lt_or_le (i+1) k with h' | h'
  · exact h'
  · have:i+1=k:=by omega
    rw [this,YT h] at hh
    omega
structure SegSp (n:Int) (R C:Nat) (top:Int) (S:List AY):Prop where
  row:∀ s (h:s<S.length),(0≤S[s].Row∧S[s].Row<R)∧CT n R S[s].Row≤S[s].From∧S[s].To≤CT n R (S[s].Row+1)
  col:∀ s (h:s<S.length),(0≤S[s].Col∧S[s].Col<C)∧CT n C S[s].Col≤S[s].From∧S[s].To≤CT n C (S[s].Col+1)
  lo:∀ s (h:s<S.length),S[s].From=CV S s∧S[s].From<S[s].To∧S[s].To≤n
  top:CV S S.length=top
theorem lR (S:List AY) (x:AY):∀ s,s≤S.length→CV (S++[x]) s=CV S s
  | 0,_=>rfl
  | s+1,h=>by
    show ((S++[x]).getD s default).To=(S.getD s default).To
    simp [List.getD_eq_getElem?_getD,List.getElem?_append_left (show s<S.length by omega)]
theorem SegSp.snoc {n:Int} {R C:Nat} {top:Int} {S:List AY} (h:SegSp n R C top S) {t i j:Int} (h1:top<t) (h2:t≤n) (hi:(0≤i∧i<R)∧CT n R i≤top∧t≤CT n R (i+1)) (hj:(0≤j∧j<C)∧CT n C j≤top∧t≤CT n C (j+1)) :
    SegSp n R C t (S++[⟨top,t,i,j⟩]):=by
  have hcase:∀ {P:AY→Nat→Prop},(∀ s (h:s<S.length),P S[s] s)→P ⟨top,t,i,j⟩ S.length→∀ s (h:s<(S++[(⟨top,t,i,j⟩:AY)]).length),P (S++[(⟨top,t,i,j⟩:AY)])[s] s:=by
    intro P ha hb s hs
    simp only [List.length_append,List.length_singleton] at hs
    by_cases e:s<S.length
    · rw [List.getElem_append_left e]; exact ha s e
    · have:s=S.length:=by omega
      subst this
      simpa using hb
  refine ⟨hcase (P:=fun x _=>(0≤x.Row∧x.Row<R)∧CT n R x.Row≤x.From∧x.To≤CT n R (x.Row+1)) h.row hi,hcase (P:=fun x _=>(0≤x.Col∧x.Col<C)∧CT n C x.Col≤x.From∧x.To≤CT n C (x.Col+1)) h.col hj,hcase (P:=fun x s=>x.From=CV (S++[(⟨top,t,i,j⟩:AY)]) s∧x.From<x.To∧x.To≤n) (fun s hs=>?_) ⟨?_,h1,h2⟩,?_⟩
  · rw [lR S _ s (by omega)]; exact h.lo s hs
  · rw [lR S _ _ (Nat.le_refl _)]; exact h.top.symm
  · simp only [List.length_append,List.length_singleton]
    show ((S++[(⟨top,t,i,j⟩:AY)]).getD S.length default).To=t
    simp [List.getD_eq_getElem?_getD]
def OE (n:Int) (k:Nat) (i:Nat):List Int:=(List.range i).map fun x:Nat=>CT n k ((x:Int)+1)
theorem tX (n:Int) (k i:Nat):OE n k (i+1)=OE n k i++[CT n k ((i:Int)+1)]:=by unfold OE; rw [List.range_succ,List.map_append]; rfl
theorem lS {n:Int} {k:Nat} (hk:k≤8) {pre:List Int} (hp:pre.length≤100) {body:List Int×Int→(List Int×Int→Prop)→Prop}
    (hs:∀ (l:List Int) (i:Nat) next,l.length≤200→i<k→next (l++[CT n k ((i:Int)+1)],AJ ((i:Int)+1))→body (l,(i:Int)) next)
    (he:∀ next,body (pre++OE n k k,(k:Int)) next):BK body (pre,0):=by
  refine ET (fun j (x:List Int×Int)=>∃ i:Nat,x=(pre++OE n k i,(i:Int))∧i+j=k) (m0:=k) ⟨0,by simp [OE],by omega⟩ ?_
  rintro j _ next ⟨i,rfl,hij⟩ hnext
  by_cases hi:i<k
  · refine hs _ i next (by simp [OE]; omega) hi ?_
    have ew:AJ ((i:Int)+1)=(i:Int)+1:=AX (by omega) (by omega)
    rw [ew]
    exact hnext (j - 1) _ (by omega) ⟨i+1,by rw [tX,List.append_assoc]; simp,by omega⟩
  · have:i=k:=by omega
    subst this
    exact he next
theorem vZ {n:Int} {k i:Nat} {l:List Int} {K:List Int→Prop} (hl:l.length≤200) (hi:i<k) (hk:k≤8) (h:K (l++[CT n k ((i:Int)+1)])):FV n (k:Int) (AJ ((i:Int)+1)) fun r=>HV 8 l ([r]) fun _=>K (l++[r]):=by
  rw [AX (by omega) (by omega)]
  exact IF (BJ (by simp; omega) h)
theorem rD {n:Int} {R C:Nat} (hn:0≤n∧n≤4096) (hR:1≤R∧R≤8) (hC:1≤C∧C≤8) {Q:List AY→Prop} (hQ:∀ S,SegSp n R C n S→S.length+1≤R+C→Q S):LH n (R:Int) (C:Int) Q:=by
  have hmR:WX n (R:Int):=⟨hn,by omega⟩
  have hmC:WX n (C:Int):=⟨hn,by omega⟩
  unfold LH
  refine TT (AV (by rw [decide_eq_true hmR]; rfl) (TT (AV (by rw [decide_eq_true hmC]; rfl) ?_)))
  unfold UB QB
  refine lS (n:=n) hR.2 (pre:=[]) (by simp) (fun l i next hl hi hnext=>BM (by simp; omega) (vZ (K:=fun z=>next (z,AJ ((i:Int)+1))) hl hi hR.2 hnext)) fun next=>AV (by simp) ?_
  refine lS (n:=n) hC.2 (by simp [OE]; omega) (fun l i next hl hi hnext=>BM (by simp; omega) (vZ (K:=fun z=>next (z,AJ ((i:Int)+1))) hl hi hC.2 hnext)) fun next=>AV (by simp) ?_
  rw [List.nil_append]
  refine ⟨by simp [OE]; omega,?_⟩
  generalize hys:(OE n R R++OE n C C).mergeSort (fun x y=>decide (x≤y))=ys
  have hperm:ys.Perm (OE n R R++OE n C C):=by rw [←hys]; exact List.mergeSort_perm _ _
  have hlen:ys.length=R+C:=by rw [hperm.length_eq]; simp [OE]
  have hsort:ys.Pairwise (· ≤ ·):=by
    rw [←hys]
    have:=List.pairwise_mergeSort (le:=fun (x y:Int)=>decide (x≤y)) (fun a b c h1 h2=>by simp only [decide_eq_true_eq] at *; omega) (fun a b=>by simp only [Bool.or_eq_true,decide_eq_true_eq]; omega) (OE n R R++OE n C C)
    exact this.imp fun h=>by simpa using h
  have hle:∀ (a b:Nat) (ha:a<ys.length) (hb:b<ys.length),a≤b→ys[a]≤ys[b]:=fun a b ha hb hab=>by
    rcases Nat.lt_or_ge a b with h' | h'
    · exact List.pairwise_iff_getElem.1 hsort a b ha hb h'
    · have:a=b:=by omega
      subst this; omega
  have hmemR:∀ i:Int,0≤i→i<R→CT n R (i+1)∈ys:=fun i h0 h1=>by
    rw [hperm.mem_iff]
    refine List.mem_append.2 (.inl (List.mem_map.2 ⟨i.toNat,List.mem_range.2 (by omega),by rw [Int.toNat_of_nonneg h0]⟩))
  have hmemC:∀ i:Int,0≤i→i<C→CT n C (i+1)∈ys:=fun i h0 h1=>by
    rw [hperm.mem_iff]
    refine List.mem_append.2 (.inr (List.mem_map.2 ⟨i.toNat,List.mem_range.2 (by omega),by rw [Int.toNat_of_nonneg h0]⟩))
  have hb:∀ y∈ys,0≤y∧y≤n:=fun y hy=>by
    rw [hperm.mem_iff] at hy
    rcases List.mem_append.1 hy with hy | hy <;>
      (obtain ⟨x,_,rfl⟩:=List.mem_map.1 hy; exact ⟨lI.1,lI.2 hn.1⟩)
  -- the two last MB are n
  have hcount:2≤ys.count n:=by
    rw [hperm.count_eq,List.count_append]
    have e1:CT n R (((R - 1:Nat):Int)+1)=n:=by rw [show (((R - 1:Nat):Int)+1)=(R:Int) by omega]; exact YT hmR
    have e2:CT n C (((C - 1:Nat):Int)+1)=n:=by rw [show (((C - 1:Nat):Int)+1)=(C:Int) by omega]; exact YT hmC
    have h1:n∈OE n R R:=List.mem_map.2 ⟨R - 1,List.mem_range.2 (by omega),e1⟩
    have h2:n∈OE n C C:=List.mem_map.2 ⟨C - 1,List.mem_range.2 (by omega),e2⟩
    have:=List.count_pos_iff.2 h1
    have:=List.count_pos_iff.2 h2
    omega
  have hlast:∀ (i:Nat) (hi:i<ys.length),R+C≤i+2→ys[i]=n:=by
    intro i hi hri
    have h1:=(hb _ (List.getElem_mem hi)).2
    rcases Int.lt_or_le ys[i] n with hlt | hge
    · exfalso
      have:(ys.drop (i+1)).length≤1:=by rw [List.length_drop]; omega
      have hc:ys.count n=(ys.take (i+1)).count n+(ys.drop (i+1)).count n:=by rw [←List.count_append,List.take_append_drop]
      have hz:(ys.take (i+1)).count n=0:=by
        rw [List.count_eq_zero]
        intro hm
        obtain ⟨a,ha,hae⟩:=List.getElem_of_mem hm
        rw [List.length_take] at ha
        rw [List.getElem_take] at hae
        have:=hle a i (by omega) hi (by omega)
        omega
      have:(ys.drop (i+1)).count n≤(ys.drop (i+1)).length:=List.count_le_length
      omega
    · omega
  refine ET (fun j (x:List AY×Int×Int×Int×Nat)=>∃ (i:Nat) (S:List AY) (l:Int),x=(S,l,l,(i:Int),0)∧i+j=R+C∧SegSp n R C l S∧S.length≤i∧S.length+1≤R+C∧(∀ (a:Nat) (ha:a<ys.length),a<i→ys[a]≤l)∧(0≤l∧l≤n)∧(∀ (a:Nat) (ha:a<ys.length),a+1=i→ys[a]=l)) (m0:=R+C)
    ⟨0,[],0,rfl,by omega,⟨fun s h=>by simp at h,fun s h=>by simp at h,fun s h=>by simp at h,rfl⟩,by simp,by simp; omega,fun a _ h=>by omega,by omega,fun a _ h=>by omega⟩ ?_
  rintro j _ next ⟨i,S,l,rfl,hij,hS,hSl,hSl2,hbef,hl,hpre⟩ hnext
  show AR (decide ((i:Int)<(ys.length:Int))) _ _
  rw [hlen]
  refine AD (fun hi=>?_) (fun hi=>?_)
  · have hi':i<ys.length:=by omega
    have ew:AJ ((i:Int)+1)=((i+1:Nat):Int):=by rw [AX (by omega) (by omega)]; simp
    refine BH hi' (AD (fun hgt=>?_) (fun hle'=>?_))
    · have hyn:=(hb _ (List.getElem_mem hi')).2
      refine ⟨rfl,?_⟩
      have hin:i+1<R+C:=by
        rcases Nat.lt_or_ge (i+1) (R+C) with h' | h'
        · exact h'
        · exfalso
          have h1:1≤i:=by omega
          have e2:=hpre (i - 1) (by omega) (by omega)
          have e3:=hlast (i - 1) (by omega) (by omega)
          omega
      have up:∀ y,y∈ys→l<y→ys[i]≤y:=fun y hy hly=>by
        obtain ⟨a,ha,rfl⟩:=List.getElem_of_mem hy
        rcases Nat.lt_or_ge a i with h' | h'
        · have:=hbef a ha h'; omega
        · exact hle i a hi' ha h'
      refine jE hmR hl.1 (by omega) fun r r0 r1 r2 r3=>jE hmC hl.1 (by omega) fun q q0 q1 q2 q3=>BJ (by simp; omega) ?_
      refine AV rfl ?_
      rw [ew]
      refine hnext (j - 1) _ (by omega) ⟨i+1,S++[⟨l,ys[i],r,q⟩],ys[i],rfl,by omega,?_,by simp; omega,by simp; omega,fun a ha hai=>hle a i ha hi' (by omega),hb _ (List.getElem_mem hi'),fun a ha hai=>by simp only [show a=i by omega]⟩
      exact hS.snoc hgt hyn ⟨⟨r0,r1⟩,r2,up _ (hmemR r r0 r1) r3⟩ ⟨⟨q0,q1⟩,q2,up _ (hmemC q q0 q1) q3⟩
    · rw [ew]
      have hy0:=(hb _ (List.getElem_mem hi')).1
      have heq:ys[i]=l:=by
        rcases Nat.eq_zero_or_pos i with h0 | h0
        · subst h0
          have hl0:l=0:=by
            have:S=[]:=List.length_eq_zero_iff.1 (by omega)
            subst this
            exact hS.top.symm
          omega
        · have e1:=hpre (i - 1) (by omega) (by omega)
          have:=hle (i - 1) i (by omega) hi' (by omega)
          omega
      refine hnext (j - 1) _ (by omega) ⟨i+1,S,l,by rw [heq],by omega,hS,by omega,hSl2,fun a ha hai=>?_,hl,fun a ha hai=>?_⟩
      · by_cases e:a=i
        · subst e; omega
        · exact hbef a ha (by omega)
      · simp only [show a=i by omega]; exact heq
  · have hie:i=R+C:=by omega
    have e:=hpre (R+C - 1) (by omega) (by omega)
    have e2:=hlast (R+C - 1) (by omega) (by omega)
    refine ⟨rfl,hQ S ?_ hSl2⟩
    rw [←e,e2] at hS
    exact hS
structure DOk0 (d:Data):Prop where
  r:1≤d.r∧d.r≤5
  cA:Canon d.n d.k d.A
  cB:Canon d.k d.q d.B
  cM:Canon d.n d.q d.M
  vA:∀ t∈d.A,HJ t.Val
  vB:∀ t∈d.B,HJ t.Val
  vM:∀ t∈d.M,HJ t.Val
  R:1≤d.R∧d.R≤8
  C:1≤d.C∧d.C≤8
  room:1≤d.room∧d.room≤64
def Data.wS (d:Data) (S:List AY):Data:={ d with S:=S }
theorem SegSp.ok {d:Data} {S:List AY} (h:SegSp d.k d.R d.C d.k S) (hl:S.length+1≤d.R+d.C):Ab0 (d.wS S):=
  ⟨hl,fun s hs=>(h.row s hs).1,fun s hs=>(h.col s hs).1,fun s hs=>⟨(h.lo s hs).1,by have:=(h.lo s hs).2.1; show S[s].From≤S[s].To; omega,(h.lo s hs).2.2⟩,h.top⟩
theorem DOk0.seg {d:Data} (h:DOk0 d) {S:List AY} (hs:Ab0 (d.wS S)):Z2 (d.wS S):=⟨h.r,h.cA,h.cB,h.cM,h.vA,h.vB,h.vM,h.R,h.C,h.room,hs⟩
variable {d:Data}
theorem jF (h:DOk0 d) {Q:Int→Prop} (hQ:Q 0):GZ d.p Q:=by
  have hR:=h.R
  have hC:=h.C
  have hr:=h.r
  have hm:=h.room
  unfold GZ Data.p EV
  refine MG (AV (by simp; omega) ?_)
  refine dX ⟨h.cA.sml.1,h.cA.sml.2.1⟩ (AV (by rw [decide_eq_true h.cA.right]; rfl) ?_)
  refine dX ⟨h.cB.sml.1,h.cB.sml.2.1⟩ (AV (by rw [decide_eq_true h.cB.right]; rfl) ?_)
  refine dX ⟨h.cM.sml.1,h.cM.sml.2.1⟩ ?_
  rw [decide_eq_true h.cM.right]
  refine AV rfl (DW (fun e=>absurd rfl e) fun _=>DW (fun e=>absurd rfl e) fun _=>?_)
  show AR (d.q != d.q) _ _
  refine AV (by simp) ?_
  have side:∀ (a m:Int) {Q:Bool→Prop},1≤a→a≤m→Q true→JD a m Q:=fun a m Q h1 h2 hq=>by
    unfold JD
    exact BM (by simpa using h1) (by rw [decide_eq_true h2]; exact hq)
  exact side _ _ (by show (1:Int)≤(d.R:Int); omega) (by show (d.R:Int)≤8; omega) (AV rfl (side _ _ (by show (1:Int)≤(d.C:Int); omega) (by show (d.C:Int)≤8; omega) (AV rfl (side _ _ (by show (1:Int)≤(d.room:Int); omega) (by show (d.room:Int)≤64; omega) (AV rfl hQ)))))
theorem QZ {c i j:Nat} {Q:Int→Prop} (hc:1≤c∧c≤8) (hi:i<8) (hj:j<c) (hQ:Q ((i*c+j:Nat):Int)):IQ (c:Int) (i:Int) (j:Int) Q:=by
  unfold IQ
  have hb:i*c≤8*8:=Nat.mul_le_mul (by omega) hc.2
  have e:((i:Int)*(c:Int))=((i*c:Nat):Int):=by simp
  refine cJ (AV (by rw [decide_eq_true (show ST (c:Int) from ⟨by omega,by omega⟩)]; rfl) (AV (by simp) (AV (by simp; omega) (AV (by simp) (AV (by simp; omega) ?_)))))
  rw [e,AX (x:=((i*c:Nat):Int)) (by omega) (by omega),AX (by omega) (by omega)]
  simpa using hQ
def tY (d:Data) (w s j:Nat):BN:={ Kind:=6,From:=((w / d.C*d.C+w % d.C:Nat):Int),To:=((w / d.C*d.C+j:Nat):Int),Seq:=0,Round:=(s:Int),Vec:={ N:=0,Items:=[] },Sums:=[],Triples:=fR d (w / d.C) (CV d.S s) (CV d.S (s+1)),N:=0,Over:=false }
def tZ (d:Data) (w s i:Nat):BN:={ Kind:=7,From:=((w / d.C*d.C+w % d.C:Nat):Int),To:=((i*d.C+w % d.C:Nat):Int),Seq:=0,Round:=(s:Int),Vec:={ N:=0,Items:=[] },Sums:=[],Triples:=jC d (w % d.C) (CV d.S s) (CV d.S (s+1)),N:=0,Over:=false }
def OG (d:Data) (w s:Nat):List BN:=if (d.S.getD s default).Col=((w % d.C:Nat):Int) then (List.range d.C).map (tY d w s) else []
def NP (d:Data) (w s:Nat):List BN:=if (d.S.getD s default).Row=((w / d.C:Nat):Int) then (List.range d.R).map (tZ d w s) else []
def UE (d:Data) (w t:Nat):List BN:=(List.range t).flatMap fun s=>OG d w s++NP d w s
theorem YV (d:Data) (w t:Nat):UE d w (t+1)=UE d w t++(OG d w t++NP d w t):=by unfold UE; rw [List.range_succ,List.flatMap_append,List.flatMap_singleton]
theorem Ab3 (h:Z2 d) (w s:Nat):(OG d w s++NP d w s).length≤16:=by
  have hR:=h.R
  have hC:=h.C
  rw [List.length_append]
  unfold OG NP
  split <;> split <;> simp <;> omega
theorem jG (h:Z2 d) (w:Nat):∀ t,(UE d w t).length≤t*16
  | 0=>by simp [UE]
  | t+1=>by rw [YV,List.length_append]; have:=jG h w t; have:=Ab3 h w t; omega
def w0 (d:Data) (w:Nat) (out:List BN):AA:={ i:=((w / d.C:Nat):Int),j:=((w % d.C:Nat):Int),mask:=AZ (d.rl (w / d.C+1) - d.rl (w / d.C)) (d.cl (w % d.C+1) - d.cl (w % d.C)) (yC d (w / d.C) (w % d.C)),out:=out,parts:=[],at_:=0,has:=[] }
abbrev pk (x:AA) (k:Int):Int×Int×Int×Int×(List Int)×(List Int)×(List Int)×(List BN)×(List (BB×(List AC)))×Int×(List AK)×Int:=
  (x.i,x.j,x.mask.Rows,x.mask.Cols,x.mask.Start,x.mask.Col,x.mask.Val,x.out,x.parts,x.at_,x.has,k)
theorem AcM (h:Z2 d) {w s:Nat} (hw:w<d.R*d.C) (hs:s<d.S.length) {ws:List (Option Nat)} {bs:List ((Int×Int)×Option Nat)} {bk:List (Nat×AA)} {out:List BN} (hl:out.length≤10000) {Q:AA→Prop}
    (hQ:Q (w0 d w (out++(OG d w s++NP d w s)))):FY { p:=d.p,stages:=d.S,workers:=ws,boxes:=bs } (w0 d w out) bk (s:Int) d.S[s] Q:=by
  have hR:=h.R
  have hC:=h.C
  have hi:w / d.C<d.R:=Nat.div_lt_of_lt_mul (by rw [Nat.mul_comm]; exact hw)
  have hj:w % d.C<d.C:=Nat.mod_lt _ (by omega)
  have b1:=rA h (w / d.C)
  have b2:=rB h (w % d.C)
  have hlo:=h.seg.lo s hs
  have hb:=nX h s (by omega)
  have he:=jB (d:=d) hs
  have hgd:d.S.getD s default=d.S[s]:=by simp [List.getD_eq_getElem?_getD,hs]
  obtain ⟨eA,cA2,_⟩:=GA h.cA (l:=d.rl (w / d.C)) (u:=d.rl (w / d.C+1)) (c:=d.S[s].From) (d:=d.S[s].To) b1.1 b1.2.1 b1.2.2 (by omega) (by omega) (by omega)
  obtain ⟨eB,cB2,_⟩:=GA h.cB (l:=d.S[s].From) (u:=d.S[s].To) (c:=d.cl (w % d.C)) (d:=d.cl (w % d.C+1)) (by omega) (by omega) (by omega) b2.1 b2.2.1 b2.2.2
  have oP:∀ {n:Int} {k i:Nat} {Q:Int×Int→Prop},k≤8→i<k→Q (CT n k i,CT n k ((i+1:Nat):Int))→IK n (k:Int) (i:Int) Q:=fun {n k i Q} hk hi hq=>by
    unfold IK
    refine IF ?_
    rw [AX (by omega) (by omega)]
    exact IF (by simpa using hq)
  unfold FY
  -- the second half
  have second:∀ (out2:List BN),out2.length≤10100→Q (w0 d w (out2++NP d w s))→∀ {X:Prop},True→(AR (d.S[s].Row==((w / d.C:Nat):Int)) (IK d.q (d.C:Int) ((w % d.C:Nat):Int) fun r950=>LW (AZ d.k d.q d.B) (d.S[s].From,d.S[s].To) r950 fun r954=>MK r954 fun r971=>
      BK (fun (t:Int×Int×Int×Int×(List Int)×(List Int)×(List Int)×(List BN)×(List (BB×(List AC)))×Int×(List AK)×Int) (next:(Int×Int×Int×Int×(List Int)×(List Int)×(List Int)×(List BN)×(List (BB×(List AC)))×Int×(List AK)×Int)→Prop)=>match t with | (s1125,s1126,s1127,s1128,s1129,s1133,s1137,s1141,s1145,s1146,s1147,s1151)=>AR (decide (s1151<(d.R:Int))) (CH d.p (s:Int) bk ({ i:=s1125,j:=s1126,mask:=({ Rows:=s1127,Cols:=s1128,Start:=s1129,Col:=s1133,Val:=s1137 }:Rows),out:=s1141,parts:=s1145,at_:=s1146,has:=s1147 }:AA) 7 s1151 s1126 r971 fun r1164=>next (r1164.i,r1164.j,r1164.mask.Rows,r1164.mask.Cols,r1164.mask.Start,r1164.mask.Col,r1164.mask.Val,r1164.out,r1164.parts,r1164.at_,r1164.has,AJ (s1151+1))) (Q ({ i:=s1125,j:=s1126,mask:=({ Rows:=s1127,Cols:=s1128,Start:=s1129,Col:=s1133,Val:=s1137 }:Rows),out:=s1141,parts:=s1145,at_:=s1146,has:=s1147 }:AA))) (pk (w0 d w out2) 0)) (Q (w0 d w out2))):=by
    intro out2 hl2 hq X _
    refine BU (fun e=>?_) (fun e=>?_)
    · refine oP hC.2 hj ?_
      refine WG h.cB.sml (FT h.cB) h.cB ?_
      have eB':mZ d.k d.q d.B (d.S[s].From,d.S[s].To) (CT d.q d.C ((w % d.C:Nat):Int),CT d.q d.C ((w % d.C+1:Nat):Int))=_:=eB
      rw [eB']
      refine XX cB2.sml (FT cB2) cB2 ?_
      have hfr:NP d w s=(List.range d.R).map (tZ d w s):=by unfold NP; rw [hgd,if_pos e]
      rw [hfr] at hq
      refine ET (fun j (t:Int×Int×Int×Int×(List Int)×(List Int)×(List Int)×(List BN)×(List (BB×(List AC)))×Int×(List AK)×Int)=>∃ a:Nat,t=pk (w0 d w (out2++(List.range a).map (tZ d w s))) (a:Int)∧a+j=d.R) (m0:=d.R) ⟨0,by simp,by omega⟩ ?_
      rintro j _ next ⟨a,rfl,haj⟩ hnext
      show AR (decide ((a:Int)<(d.R:Int))) _ _
      refine AD (fun ha=>?_) (fun ha=>?_)
      · show CH d.p (s:Int) bk (w0 d w (out2++(List.range a).map (tZ d w s))) 7 (a:Int) ((w % d.C:Nat):Int) _ _
        unfold CH
        show IQ (d.C:Int) ((w / d.C:Nat):Int) ((w % d.C:Nat):Int) _
        refine QZ hC (by omega) hj ?_
        show IQ (d.C:Int) (a:Int) ((w % d.C:Nat):Int) _
        refine QZ hC (by omega) hj (BJ (by show ((out2++(List.range a).map (tZ d w s)).length+1)*136≤_; simp; omega) ?_)
        refine hnext (j - 1) _ (by omega) ⟨a+1,?_,by omega⟩
        have ew:AJ ((a:Int)+1)=((a+1:Nat):Int):=by rw [AX (by omega) (by omega)]; simp
        rw [ew,List.range_succ,List.map_append,←List.append_assoc]
        have ef:([tZ d w s a]:List BN)=[{ Kind:=7,From:=((w / d.C*d.C+w % d.C:Nat):Int),To:=((a*d.C+w % d.C:Nat):Int),Seq:=0,Round:=(s:Int),Vec:={ N:=0,Items:=[] },Sums:=[],Triples:=LM d.S[s].From d.S[s].To (d.cl (w % d.C)) (d.cl (w % d.C+1)) d.B,N:=0,Over:=false }]:=by
          unfold tZ jC; rw [he,hlo.1]
        rw [List.map_singleton,ef]
        rfl
      · have:a=d.R:=by omega
        subst this
        exact hq
    · have hfr:NP d w s=[]:=by unfold NP; rw [hgd,if_neg e]
      rw [hfr,List.append_nil] at hq
      exact hq
  unfold EV
  refine BU (fun e=>?_) (fun e=>?_)
  · have e:d.S[s].Col=((w % d.C:Nat):Int):=e
    show IK d.n (d.R:Int) ((w / d.C:Nat):Int) _
    refine oP hR.2 hi ?_
    show LW (AZ d.n d.k d.A) _ _ _
    refine WG h.cA.sml (FT h.cA) h.cA ?_
    have eA':mZ d.n d.k d.A (CT d.n d.R ((w / d.C:Nat):Int),CT d.n d.R ((w / d.C+1:Nat):Int)) (d.S[s].From,d.S[s].To)=_:=eA
    rw [eA']
    refine XX cA2.sml (FT cA2) cA2 ?_
    have hfl:OG d w s=(List.range d.C).map (tY d w s):=by unfold OG; rw [hgd,if_pos e]
    rw [hfl,←List.append_assoc] at hQ
    refine ET (fun j (t:Int×Int×Int×Int×(List Int)×(List Int)×(List Int)×(List BN)×(List (BB×(List AC)))×Int×(List AK)×Int)=>∃ a:Nat,t=pk (w0 d w (out++(List.range a).map (tY d w s))) (a:Int)∧a+j=d.C) (m0:=d.C) ⟨0,by simp,by omega⟩ ?_
    rintro j _ next ⟨a,rfl,haj⟩ hnext
    show AR (decide ((a:Int)<(d.C:Int))) _ _
    refine AD (fun ha=>?_) (fun ha=>?_)
    · show CH d.p (s:Int) bk (w0 d w (out++(List.range a).map (tY d w s))) 6 ((w / d.C:Nat):Int) (a:Int) _ _
      unfold CH
      show IQ (d.C:Int) ((w / d.C:Nat):Int) ((w % d.C:Nat):Int) _
      refine QZ hC (by omega) hj ?_
      show IQ (d.C:Int) ((w / d.C:Nat):Int) (a:Int) _
      refine QZ hC (by omega) (by omega) (BJ (by show ((out++(List.range a).map (tY d w s)).length+1)*136≤_; simp; omega) ?_)
      refine hnext (j - 1) _ (by omega) ⟨a+1,?_,by omega⟩
      have ew:AJ ((a:Int)+1)=((a+1:Nat):Int):=by rw [AX (by omega) (by omega)]; simp
      rw [ew,List.range_succ,List.map_append,←List.append_assoc]
      have ef:([tY d w s a]:List BN)=[{ Kind:=6,From:=((w / d.C*d.C+w % d.C:Nat):Int),To:=((w / d.C*d.C+a:Nat):Int),Seq:=0,Round:=(s:Int),Vec:={ N:=0,Items:=[] },Sums:=[],Triples:=LM (d.rl (w / d.C)) (d.rl (w / d.C+1)) d.S[s].From d.S[s].To d.A,N:=0,Over:=false }]:=by
        unfold tY fR; rw [he,hlo.1]
      rw [List.map_singleton,ef]
      rfl
    · have:a=d.C:=by omega
      subst this
      exact second _ (by simp; omega) hQ (X:=True) trivial
  · have e:¬d.S[s].Col=((w % d.C:Nat):Int):=e
    have hfl:OG d w s=[]:=by unfold OG; rw [hgd,if_neg e]
    rw [hfl,List.nil_append] at hQ
    exact second _ (by omega) hQ (X:=True) trivial
end Go.Proofs.YtbohadngdkjljaaGreat
