import Derived.Test.YtbohadngdkjljaaGreatSumJ
namespace Go.Proofs.YtbohadngdkjljaaGreat
open Go Go.Fw
set_option linter.unusedVariables false
set_option linter.unusedSimpArgs false
theorem AfB {n k i:Int} (h:WW n k) (h0:0≤i) (h1:i≤k):CV n k i=i*n / k:=by
  unfold CV sU
  rw [if_pos h,if_neg (by omega),if_neg (by omega)]
theorem jT {n k a:Int} {Q:Int→Prop} (h:WW n k) (h0:0≤a) (h1:a<n) (hQ:∀ i,0≤i→i<k→CV n k i≤a→a<CV n k (i+1)→Q i):aZ n k a Q:=by
  have hb:=h
  unfold WW at hb
  unfold aZ
  refine UN (AN (by rw [decide_eq_true h]; rfl) (AN (by simp; omega) (AN (by simp; omega) ⟨by omega,?_⟩)))
  have hk8:a*k≤a*8:=Int.mul_le_mul_of_nonneg_left hb.2.2 h0
  have hak0:0≤a*k:=Int.mul_nonneg h0 (by omega)
  have e1:AH (a*k)=a*k:=AX (by omega) (by omega)
  have hq0:0≤a*k / n:=Int.ediv_nonneg hak0 (by omega)
  have hlt:a*k / n<k:=by
    refine Int.ediv_lt_of_lt_mul (by omega) ?_
    rw [Int.mul_comm k n]
    exact Int.mul_lt_mul_of_pos_right h1 (by omega)
  have hle:CV n k (a*k / n)≤a:=by
    rw [AfB h hq0 (by omega)]
    refine Int.ediv_le_of_le_mul (by omega) ?_
    exact Int.ediv_mul_le _ (by omega)
  rw [e1,Int.tdiv_eq_ediv_of_nonneg hak0,AX (x:=a*k / n) (by omega) (by omega)]
  refine GI (fun j (i:Int)=>0≤i∧i<k∧CV n k i≤a∧(k - i).toNat=j) (m0:=(k - a*k / n).toNat) ⟨hq0,hlt,hle,rfl⟩ ?_
  rintro j i next ⟨i0,i1,i2,i3⟩ hnext
  have ew:AH (i+1)=i+1:=AX (by omega) (by omega)
  show FN n k (AH (i+1)) _
  rw [ew]
  refine IG (AC (fun hh=>?_) (fun hh=>hQ i i0 i1 i2 (by omega)))
  refine hnext (j - 1) _ (by omega) ⟨by omega,?_,hh,by omega⟩
  rcases Int.lt_or_le (i+1) k with h' | h'
  · exact h'
  · have:i+1=k:=by omega
    rw [this,YM h] at hh
    omega
structure SegSp (n:Int) (R C:Nat) (top:Int) (S:List BC):Prop where
  row:∀ s (h:s<S.length),(0≤S[s].Row∧S[s].Row<R)∧CV n R S[s].Row≤S[s].From∧S[s].To≤CV n R (S[s].Row+1)
  col:∀ s (h:s<S.length),(0≤S[s].Col∧S[s].Col<C)∧CV n C S[s].Col≤S[s].From∧S[s].To≤CV n C (S[s].Col+1)
  lo:∀ s (h:s<S.length),S[s].From=CX S s∧S[s].From<S[s].To∧S[s].To≤n
  top:CX S S.length=top
theorem mW (S:List BC) (x:BC):∀ s,s≤S.length→CX (S++[x]) s=CX S s
  | 0,_=>rfl
  | s+1,h=>by
    show ((S++[x]).getD s default).To=(S.getD s default).To
    simp [List.getD_eq_getElem?_getD,List.getElem?_append_left (show s<S.length by omega)]
theorem SegSp.snoc {n:Int} {R C:Nat} {top:Int} {S:List BC} (h:SegSp n R C top S) {t i j:Int} (h1:top<t) (h2:t≤n) (hi:(0≤i∧i<R)∧CV n R i≤top∧t≤CV n R (i+1)) (hj:(0≤j∧j<C)∧CV n C j≤top∧t≤CV n C (j+1)) :
    SegSp n R C t (S++[⟨top,t,i,j⟩]):=by
  have hcase:∀ {P:BC→Nat→Prop},(∀ s (h:s<S.length),P S[s] s)→P ⟨top,t,i,j⟩ S.length→∀ s (h:s<(S++[(⟨top,t,i,j⟩:BC)]).length),P (S++[(⟨top,t,i,j⟩:BC)])[s] s:=by
    intro P ha hb s hs
    simp only [List.length_append,List.length_singleton] at hs
    by_cases e:s<S.length
    · rw [List.getElem_append_left e]; exact ha s e
    · have:s=S.length:=by omega
      subst this
      simpa using hb
  refine ⟨hcase (P:=fun x _=>(0≤x.Row∧x.Row<R)∧CV n R x.Row≤x.From∧x.To≤CV n R (x.Row+1)) h.row hi,hcase (P:=fun x _=>(0≤x.Col∧x.Col<C)∧CV n C x.Col≤x.From∧x.To≤CV n C (x.Col+1)) h.col hj,hcase (P:=fun x s=>x.From=CX (S++[(⟨top,t,i,j⟩:BC)]) s∧x.From<x.To∧x.To≤n) (fun s hs=>?_) ⟨?_,h1,h2⟩,?_⟩
  · rw [mW S _ s (by omega)]; exact h.lo s hs
  · rw [mW S _ _ (Nat.le_refl _)]; exact h.top.symm
  · simp only [List.length_append,List.length_singleton]
    show ((S++[(⟨top,t,i,j⟩:BC)]).getD S.length default).To=t
    simp [List.getD_eq_getElem?_getD]
def NY (n:Int) (k:Nat) (i:Nat):List Int:=(List.range i).map fun x:Nat=>CV n k ((x:Int)+1)
theorem wL (n:Int) (k i:Nat):NY n k (i+1)=NY n k i++[CV n k ((i:Int)+1)]:=by unfold NY; rw [List.range_succ,List.map_append]; rfl
theorem mX {n:Int} {k:Nat} (hk:k≤8) {pre:List Int} (hp:pre.length≤100) {body:List Int×Int→(List Int×Int→Prop)→Prop}
    (hs:∀ (l:List Int) (i:Nat) next,l.length≤200→i<k→next (l++[CV n k ((i:Int)+1)],AH ((i:Int)+1))→body (l,(i:Int)) next)
    (he:∀ next,body (pre++NY n k k,(k:Int)) next):BD body (pre,0):=by
  refine GI (fun j (x:List Int×Int)=>∃ i:Nat,x=(pre++NY n k i,(i:Int))∧i+j=k) (m0:=k) ⟨0,by simp [NY],by omega⟩ ?_
  rintro j _ next ⟨i,rfl,hij⟩ hnext
  by_cases hi:i<k
  · refine hs _ i next (by simp [NY]; omega) hi ?_
    have ew:AH ((i:Int)+1)=(i:Int)+1:=AX (by omega) (by omega)
    rw [ew]
    exact hnext (j - 1) _ (by omega) ⟨i+1,by rw [wL,List.append_assoc]; simp,by omega⟩
  · have:i=k:=by omega
    subst this
    exact he next
theorem yZ {n:Int} {k i:Nat} {l:List Int} {K:List Int→Prop} (hl:l.length≤200) (hi:i<k) (hk:k≤8) (h:K (l++[CV n k ((i:Int)+1)])):FN n (k:Int) (AH ((i:Int)+1)) fun r=>HN 8 l ([r]) fun _=>K (l++[r]):=by
  rw [AX (by omega) (by omega)]
  exact IG (BG (by simp; omega) h)
theorem tM {n:Int} {R C:Nat} (hn:0≤n∧n≤4096) (hR:1≤R∧R≤8) (hC:1≤C∧C≤8) {Q:List BC→Prop} (hQ:∀ S,SegSp n R C n S→S.length+1≤R+C→Q S):KY n (R:Int) (C:Int) Q:=by
  have hmR:WW n (R:Int):=⟨hn,by omega⟩
  have hmC:WW n (C:Int):=⟨hn,by omega⟩
  unfold KY
  refine UN (AN (by rw [decide_eq_true hmR]; rfl) (UN (AN (by rw [decide_eq_true hmC]; rfl) ?_)))
  unfold UV PY
  refine mX (n:=n) hR.2 (pre:=[]) (by simp) (fun l i next hl hi hnext=>BF (by simp; omega) (yZ (K:=fun z=>next (z,AH ((i:Int)+1))) hl hi hR.2 hnext)) fun next=>AN (by simp) ?_
  refine mX (n:=n) hC.2 (by simp [NY]; omega) (fun l i next hl hi hnext=>BF (by simp; omega) (yZ (K:=fun z=>next (z,AH ((i:Int)+1))) hl hi hC.2 hnext)) fun next=>AN (by simp) ?_
  rw [List.nil_append]
  refine ⟨by simp [NY]; omega,?_⟩
  generalize hys:(NY n R R++NY n C C).mergeSort (fun x y=>decide (x≤y))=ys
  have hperm:ys.Perm (NY n R R++NY n C C):=by rw [←hys]; exact List.mergeSort_perm _ _
  have hlen:ys.length=R+C:=by rw [hperm.length_eq]; simp [NY]
  have hsort:ys.Pairwise (· ≤ ·):=by
    rw [←hys]
    have:=List.pairwise_mergeSort (le:=fun (x y:Int)=>decide (x≤y)) (fun a b c h1 h2=>by simp only [decide_eq_true_eq] at *; omega) (fun a b=>by simp only [Bool.or_eq_true,decide_eq_true_eq]; omega) (NY n R R++NY n C C)
    exact this.imp fun h=>by simpa using h
  have hle:∀ (a b:Nat) (ha:a<ys.length) (hb:b<ys.length),a≤b→ys[a]≤ys[b]:=fun a b ha hb hab=>by
    rcases Nat.lt_or_ge a b with h' | h'
    · exact List.pairwise_iff_getElem.1 hsort a b ha hb h'
    · have:a=b:=by omega
      subst this; omega
  have hmemR:∀ i:Int,0≤i→i<R→CV n R (i+1)∈ys:=fun i h0 h1=>by
    rw [hperm.mem_iff]
    refine List.mem_append.2 (.inl (List.mem_map.2 ⟨i.toNat,List.mem_range.2 (by omega),by rw [Int.toNat_of_nonneg h0]⟩))
  have hmemC:∀ i:Int,0≤i→i<C→CV n C (i+1)∈ys:=fun i h0 h1=>by
    rw [hperm.mem_iff]
    refine List.mem_append.2 (.inr (List.mem_map.2 ⟨i.toNat,List.mem_range.2 (by omega),by rw [Int.toNat_of_nonneg h0]⟩))
  have hb:∀ y∈ys,0≤y∧y≤n:=fun y hy=>by
    rw [hperm.mem_iff] at hy
    rcases List.mem_append.1 hy with hy | hy <;>
      (obtain ⟨x,_,rfl⟩:=List.mem_map.1 hy; exact ⟨mM.1,mM.2 hn.1⟩)
  -- the two last LU are n
  have hcount:2≤ys.count n:=by
    rw [hperm.count_eq,List.count_append]
    have e1:CV n R (((R - 1:Nat):Int)+1)=n:=by rw [show (((R - 1:Nat):Int)+1)=(R:Int) by omega]; exact YM hmR
    have e2:CV n C (((C - 1:Nat):Int)+1)=n:=by rw [show (((C - 1:Nat):Int)+1)=(C:Int) by omega]; exact YM hmC
    have h1:n∈NY n R R:=List.mem_map.2 ⟨R - 1,List.mem_range.2 (by omega),e1⟩
    have h2:n∈NY n C C:=List.mem_map.2 ⟨C - 1,List.mem_range.2 (by omega),e2⟩
    have:=List.count_pos_iff.2 h1
    have:=List.count_pos_iff.2 h2
    omega
  have hlast:∀ (i:Nat) (hi:i<ys.length),R+C≤i+2→ys[i]=n:=by
    intro i hi hri
    have h1:=(hb _ (List.getElem_mem hi)).2
    rcases Int.lt_or_le ys[i] n with hlt | hge
    · exfalso
      have:(ys.drop (i+1)).length≤1:=by rw [List.length_drop]; omega
      have hc:ys.count n=(ys.take (i+1)).count n+(ys.drop (i+1)).count n:=by rw [←List.count_append,List.take_append_drop]
      have hz:(ys.take (i+1)).count n=0:=by
        rw [List.count_eq_zero]
        intro hm
        obtain ⟨a,ha,hae⟩:=List.getElem_of_mem hm
        rw [List.length_take] at ha
        rw [List.getElem_take] at hae
        have:=hle a i (by omega) hi (by omega)
        omega
      have:(ys.drop (i+1)).count n≤(ys.drop (i+1)).length:=List.count_le_length
      omega
    · omega
  refine GI (fun j (x:List BC×Int×Int×Int×Nat)=>∃ (i:Nat) (S:List BC) (l:Int),x=(S,l,l,(i:Int),0)∧i+j=R+C∧SegSp n R C l S∧S.length≤i∧S.length+1≤R+C∧(∀ (a:Nat) (ha:a<ys.length),a<i→ys[a]≤l)∧(0≤l∧l≤n)∧(∀ (a:Nat) (ha:a<ys.length),a+1=i→ys[a]=l)) (m0:=R+C)
    ⟨0,[],0,rfl,by omega,⟨fun s h=>by simp at h,fun s h=>by simp at h,fun s h=>by simp at h,rfl⟩,by simp,by simp; omega,fun a _ h=>by omega,by omega,fun a _ h=>by omega⟩ ?_
  rintro j _ next ⟨i,S,l,rfl,hij,hS,hSl,hSl2,hbef,hl,hpre⟩ hnext
  show AQ (decide ((i:Int)<(ys.length:Int))) _ _
  rw [hlen]
  refine AC (fun hi=>?_) (fun hi=>?_)
  · have hi':i<ys.length:=by omega
    have ew:AH ((i:Int)+1)=((i+1:Nat):Int):=by rw [AX (by omega) (by omega)]; simp
    refine AV hi' (AC (fun hgt=>?_) (fun hle'=>?_))
    · have hyn:=(hb _ (List.getElem_mem hi')).2
      refine ⟨rfl,?_⟩
      have hin:i+1<R+C:=by
        rcases Nat.lt_or_ge (i+1) (R+C) with h' | h'
        · exact h'
        · exfalso
          have h1:1≤i:=by omega
          have e2:=hpre (i - 1) (by omega) (by omega)
          have e3:=hlast (i - 1) (by omega) (by omega)
          omega
      have up:∀ y,y∈ys→l<y→ys[i]≤y:=fun y hy hly=>by
        obtain ⟨a,ha,rfl⟩:=List.getElem_of_mem hy
        rcases Nat.lt_or_ge a i with h' | h'
        · have:=hbef a ha h'; omega
        · exact hle i a hi' ha h'
      refine jT hmR hl.1 (by omega) fun r r0 r1 r2 r3=>jT hmC hl.1 (by omega) fun q q0 q1 q2 q3=>BG (by simp; omega) ?_
      refine AN rfl ?_
      rw [ew]
      refine hnext (j - 1) _ (by omega) ⟨i+1,S++[⟨l,ys[i],r,q⟩],ys[i],rfl,by omega,?_,by simp; omega,by simp; omega,fun a ha hai=>hle a i ha hi' (by omega),hb _ (List.getElem_mem hi'),fun a ha hai=>by simp only [show a=i by omega]⟩
      exact hS.snoc hgt hyn ⟨⟨r0,r1⟩,r2,up _ (hmemR r r0 r1) r3⟩ ⟨⟨q0,q1⟩,q2,up _ (hmemC q q0 q1) q3⟩
    · rw [ew]
      have hy0:=(hb _ (List.getElem_mem hi')).1
      have heq:ys[i]=l:=by
        rcases Nat.eq_zero_or_pos i with h0 | h0
        · subst h0
          have hl0:l=0:=by
            have:S=[]:=List.length_eq_zero_iff.1 (by omega)
            subst this
            exact hS.top.symm
          omega
        · have e1:=hpre (i - 1) (by omega) (by omega)
          have:=hle (i - 1) i (by omega) hi' (by omega)
          omega
      refine hnext (j - 1) _ (by omega) ⟨i+1,S,l,by rw [heq],by omega,hS,by omega,hSl2,fun a ha hai=>?_,hl,fun a ha hai=>?_⟩
      · by_cases e:a=i
        · subst e; omega
        · exact hbef a ha (by omega)
      · simp only [show a=i by omega]; exact heq
  · have hie:i=R+C:=by omega
    have e:=hpre (R+C - 1) (by omega) (by omega)
    have e2:=hlast (R+C - 1) (by omega) (by omega)
    refine ⟨rfl,hQ S ?_ hSl2⟩
    rw [←e,e2] at hS
    exact hS
structure DOk0 (d:Data):Prop where
  r:1≤d.r∧d.r≤5
  cA:Canon d.n d.k d.A
  cB:Canon d.k d.q d.B
  cM:Canon d.n d.q d.M
  vA:∀ t∈d.A,FP t.Val
  vB:∀ t∈d.B,FP t.Val
  vM:∀ t∈d.M,FP t.Val
  R:1≤d.R∧d.R≤8
  C:1≤d.C∧d.C≤8
  room:1≤d.room∧d.room≤64
def Data.wS (d:Data) (S:List BC):Data:={ d with S:=S }
theorem SegSp.ok {d:Data} {S:List BC} (h:SegSp d.k d.R d.C d.k S) (hl:S.length+1≤d.R+d.C):AdE (d.wS S):=
  ⟨hl,fun s hs=>(h.row s hs).1,fun s hs=>(h.col s hs).1,fun s hs=>⟨(h.lo s hs).1,by have:=(h.lo s hs).2.1; show S[s].From≤S[s].To; omega,(h.lo s hs).2.2⟩,h.top⟩
theorem DOk0.seg {d:Data} (h:DOk0 d) {S:List BC} (hs:AdE (d.wS S)):aK (d.wS S):=⟨h.r,h.cA,h.cB,h.cM,h.vA,h.vB,h.vM,h.R,h.C,h.room,hs⟩
variable {d:Data}
theorem tN (h:DOk0 d) {Q:Int→Prop} (hQ:Q 0):PI d.p Q:=by
  have hR:=h.R
  have hC:=h.C
  have hr:=h.r
  have hm:=h.room
  unfold PI Data.p FW
  refine KG (AN (by simp; omega) ?_)
  refine dY ⟨h.cA.sml.1,h.cA.sml.2.1⟩ (AN (by rw [decide_eq_true h.cA.right]; rfl) ?_)
  refine dY ⟨h.cB.sml.1,h.cB.sml.2.1⟩ (AN (by rw [decide_eq_true h.cB.right]; rfl) ?_)
  refine dY ⟨h.cM.sml.1,h.cM.sml.2.1⟩ ?_
  rw [decide_eq_true h.cM.right]
  refine AN rfl (FR (fun e=>absurd rfl e) fun _=>FR (fun e=>absurd rfl e) fun _=>?_)
  show AQ (d.q != d.q) _ _
  refine AN (by simp) ?_
  have side:∀ (a m:Int) {Q:Bool→Prop},1≤a→a≤m→Q true→JD a m Q:=fun a m Q h1 h2 hq=>by
    unfold JD
    exact BF (by simpa using h1) (by rw [decide_eq_true h2]; exact hq)
  exact side _ _ (by show (1:Int)≤(d.R:Int); omega) (by show (d.R:Int)≤8; omega) (AN rfl (side _ _ (by show (1:Int)≤(d.C:Int); omega) (by show (d.C:Int)≤8; omega) (AN rfl (side _ _ (by show (1:Int)≤(d.room:Int); omega) (by show (d.room:Int)≤64; omega) (AN rfl hQ)))))
theorem RE {c i j:Nat} {Q:Int→Prop} (hc:1≤c∧c≤8) (hi:i<8) (hj:j<c) (hQ:Q ((i*c+j:Nat):Int)):IR (c:Int) (i:Int) (j:Int) Q:=by
  unfold IR
  have hb:i*c≤8*8:=Nat.mul_le_mul (by omega) hc.2
  have e:((i:Int)*(c:Int))=((i*c:Nat):Int):=by simp
  refine cF (AN (by rw [decide_eq_true (show TD (c:Int) from ⟨by omega,by omega⟩)]; rfl) (AN (by simp) (AN (by simp; omega) (AN (by simp) (AN (by simp; omega) ?_)))))
  rw [e,AX (x:=((i*c:Nat):Int)) (by omega) (by omega),AX (by omega) (by omega)]
  simpa using hQ
def frL (d:Data) (w s j:Nat):BL:={ Kind:=6,From:=((w / d.C*d.C+w % d.C:Nat):Int),To:=((w / d.C*d.C+j:Nat):Int),Seq:=0,Round:=(s:Int),Vec:={ N:=0,Items:=[] },Sums:=[],Triples:=fZ d (w / d.C) (CX d.S s) (CX d.S (s+1)),N:=0,Over:=false }
def frR (d:Data) (w s i:Nat):BL:={ Kind:=7,From:=((w / d.C*d.C+w % d.C:Nat):Int),To:=((i*d.C+w % d.C:Nat):Int),Seq:=0,Round:=(s:Int),Vec:={ N:=0,Items:=[] },Sums:=[],Triples:=jR d (w % d.C) (CX d.S s) (CX d.S (s+1)),N:=0,Over:=false }
def UO (d:Data) (w s:Nat):List BL:=if (d.S.getD s default).Col=((w % d.C:Nat):Int) then (List.range d.C).map (frL d w s) else []
def TE (d:Data) (w s:Nat):List BL:=if (d.S.getD s default).Row=((w / d.C:Nat):Int) then (List.range d.R).map (frR d w s) else []
def WY (d:Data) (w t:Nat):List BL:=(List.range t).flatMap fun s=>UO d w s++TE d w s
theorem eI (d:Data) (w t:Nat):WY d w (t+1)=WY d w t++(UO d w t++TE d w t):=by unfold WY; rw [List.range_succ,List.flatMap_append,List.flatMap_singleton]
theorem AdH (h:aK d) (w s:Nat):(UO d w s++TE d w s).length≤16:=by
  have hR:=h.R
  have hC:=h.C
  rw [List.length_append]
  unfold UO TE
  split <;> split <;> simp <;> omega
theorem jU (h:aK d) (w:Nat):∀ t,(WY d w t).length≤t*16
  | 0=>by simp [WY]
  | t+1=>by rw [eI,List.length_append]; have:=jU h w t; have:=AdH h w t; omega
def w0 (d:Data) (w:Nat) (out:List BL):AA:={ i:=((w / d.C:Nat):Int),j:=((w % d.C:Nat):Int),mask:=BO (d.rl (w / d.C+1) - d.rl (w / d.C)) (d.cl (w % d.C+1) - d.cl (w % d.C)) (bkM d (w / d.C) (w % d.C)),out:=out,parts:=[],at_:=0,has:=[] }
abbrev pk (x:AA) (k:Int):Int×Int×Int×Int×(List Int)×(List Int)×(List Int)×(List BL)×(List (AY×(List AD)))×Int×(List AK)×Int:=
  (x.i,x.j,x.mask.Rows,x.mask.Cols,x.mask.Start,x.mask.Col,x.mask.Val,x.out,x.parts,x.at_,x.has,k)
theorem AfC (h:aK d) {w s:Nat} (hw:w<d.R*d.C) (hs:s<d.S.length) {ws:List (Option Nat)} {bs:List ((Int×Int)×Option Nat)} {bk:List (Nat×AA)} {out:List BL} (hl:out.length≤10000) {Q:AA→Prop}
    (hQ:Q (w0 d w (out++(UO d w s++TE d w s)))):FS { p:=d.p,stages:=d.S,workers:=ws,boxes:=bs } (w0 d w out) bk (s:Int) d.S[s] Q:=by
  have hR:=h.R
  have hC:=h.C
  have hi:w / d.C<d.R:=Nat.div_lt_of_lt_mul (by rw [Nat.mul_comm]; exact hw)
  have hj:w % d.C<d.C:=Nat.mod_lt _ (by omega)
  have b1:=tI h (w / d.C)
  have b2:=tJ h (w % d.C)
  have hlo:=h.seg.lo s hs
  have hb:=pO h s (by omega)
  have he:=jQ (d:=d) hs
  have hgd:d.S.getD s default=d.S[s]:=by simp [List.getD_eq_getElem?_getD,hs]
  obtain ⟨eA,cA2,_⟩:=FU h.cA (l:=d.rl (w / d.C)) (u:=d.rl (w / d.C+1)) (c:=d.S[s].From) (d:=d.S[s].To) b1.1 b1.2.1 b1.2.2 (by omega) (by omega) (by omega)
  obtain ⟨eB,cB2,_⟩:=FU h.cB (l:=d.S[s].From) (u:=d.S[s].To) (c:=d.cl (w % d.C)) (d:=d.cl (w % d.C+1)) (by omega) (by omega) (by omega) b2.1 b2.2.1 b2.2.2
  have fU:∀ {n:Int} {k i:Nat} {Q:Int×Int→Prop},k≤8→i<k→Q (CV n k i,CV n k ((i+1:Nat):Int))→IM n (k:Int) (i:Int) Q:=fun {n k i Q} hk hi hq=>by
    unfold IM
    refine IG ?_
    rw [AX (by omega) (by omega)]
    exact IG (by simpa using hq)
  unfold FS
  -- the second half
  have second:∀ (out2:List BL),out2.length≤10100→Q (w0 d w (out2++TE d w s))→∀ {X:Prop},True→(AQ (d.S[s].Row==((w / d.C:Nat):Int)) (IM d.q (d.C:Int) ((w % d.C:Nat):Int) fun r950=>LP (BO d.k d.q d.B) (d.S[s].From,d.S[s].To) r950 fun r954=>KC r954 fun r971=>
      BD (fun (t:Int×Int×Int×Int×(List Int)×(List Int)×(List Int)×(List BL)×(List (AY×(List AD)))×Int×(List AK)×Int) (next:(Int×Int×Int×Int×(List Int)×(List Int)×(List Int)×(List BL)×(List (AY×(List AD)))×Int×(List AK)×Int)→Prop)=>match t with | (s1125,s1126,s1127,s1128,s1129,s1133,s1137,s1141,s1145,s1146,s1147,s1151)=>AQ (decide (s1151<(d.R:Int))) (CC d.p (s:Int) bk ({ i:=s1125,j:=s1126,mask:=({ Rows:=s1127,Cols:=s1128,Start:=s1129,Col:=s1133,Val:=s1137 }:Rows),out:=s1141,parts:=s1145,at_:=s1146,has:=s1147 }:AA) 7 s1151 s1126 r971 fun r1164=>next (r1164.i,r1164.j,r1164.mask.Rows,r1164.mask.Cols,r1164.mask.Start,r1164.mask.Col,r1164.mask.Val,r1164.out,r1164.parts,r1164.at_,r1164.has,AH (s1151+1))) (Q ({ i:=s1125,j:=s1126,mask:=({ Rows:=s1127,Cols:=s1128,Start:=s1129,Col:=s1133,Val:=s1137 }:Rows),out:=s1141,parts:=s1145,at_:=s1146,has:=s1147 }:AA))) (pk (w0 d w out2) 0)) (Q (w0 d w out2))):=by
    intro out2 hl2 hq X _
    refine CU (fun e=>?_) (fun e=>?_)
    · refine fU hC.2 hj ?_
      refine WF h.cB.sml (MA h.cB) h.cB ?_
      have eB':oO d.k d.q d.B (d.S[s].From,d.S[s].To) (CV d.q d.C ((w % d.C:Nat):Int),CV d.q d.C ((w % d.C+1:Nat):Int))=_:=eB
      rw [eB']
      refine SZ cB2.sml (MA cB2) cB2 ?_
      have hfr:TE d w s=(List.range d.R).map (frR d w s):=by unfold TE; rw [hgd,if_pos e]
      rw [hfr] at hq
      refine GI (fun j (t:Int×Int×Int×Int×(List Int)×(List Int)×(List Int)×(List BL)×(List (AY×(List AD)))×Int×(List AK)×Int)=>∃ a:Nat,t=pk (w0 d w (out2++(List.range a).map (frR d w s))) (a:Int)∧a+j=d.R) (m0:=d.R) ⟨0,by simp,by omega⟩ ?_
      rintro j _ next ⟨a,rfl,haj⟩ hnext
      show AQ (decide ((a:Int)<(d.R:Int))) _ _
      refine AC (fun ha=>?_) (fun ha=>?_)
      · show CC d.p (s:Int) bk (w0 d w (out2++(List.range a).map (frR d w s))) 7 (a:Int) ((w % d.C:Nat):Int) _ _
        unfold CC
        show IR (d.C:Int) ((w / d.C:Nat):Int) ((w % d.C:Nat):Int) _
        refine RE hC (by omega) hj ?_
        show IR (d.C:Int) (a:Int) ((w % d.C:Nat):Int) _
        refine RE hC (by omega) hj (BG (by show ((out2++(List.range a).map (frR d w s)).length+1)*136≤_; simp; omega) ?_)
        refine hnext (j - 1) _ (by omega) ⟨a+1,?_,by omega⟩
        have ew:AH ((a:Int)+1)=((a+1:Nat):Int):=by rw [AX (by omega) (by omega)]; simp
        rw [ew,List.range_succ,List.map_append,←List.append_assoc]
        have ef:([frR d w s a]:List BL)=[{ Kind:=7,From:=((w / d.C*d.C+w % d.C:Nat):Int),To:=((a*d.C+w % d.C:Nat):Int),Seq:=0,Round:=(s:Int),Vec:={ N:=0,Items:=[] },Sums:=[],Triples:=LG d.S[s].From d.S[s].To (d.cl (w % d.C)) (d.cl (w % d.C+1)) d.B,N:=0,Over:=false }]:=by
          unfold frR jR; rw [he,hlo.1]
        rw [List.map_singleton,ef]
        rfl
      · have:a=d.R:=by omega
        subst this
        exact hq
    · have hfr:TE d w s=[]:=by unfold TE; rw [hgd,if_neg e]
      rw [hfr,List.append_nil] at hq
      exact hq
  unfold FW
  refine CU (fun e=>?_) (fun e=>?_)
  · have e:d.S[s].Col=((w % d.C:Nat):Int):=e
    show IM d.n (d.R:Int) ((w / d.C:Nat):Int) _
    refine fU hR.2 hi ?_
    show LP (BO d.n d.k d.A) _ _ _
    refine WF h.cA.sml (MA h.cA) h.cA ?_
    have eA':oO d.n d.k d.A (CV d.n d.R ((w / d.C:Nat):Int),CV d.n d.R ((w / d.C+1:Nat):Int)) (d.S[s].From,d.S[s].To)=_:=eA
    rw [eA']
    refine SZ cA2.sml (MA cA2) cA2 ?_
    have hfl:UO d w s=(List.range d.C).map (frL d w s):=by unfold UO; rw [hgd,if_pos e]
    rw [hfl,←List.append_assoc] at hQ
    refine GI (fun j (t:Int×Int×Int×Int×(List Int)×(List Int)×(List Int)×(List BL)×(List (AY×(List AD)))×Int×(List AK)×Int)=>∃ a:Nat,t=pk (w0 d w (out++(List.range a).map (frL d w s))) (a:Int)∧a+j=d.C) (m0:=d.C) ⟨0,by simp,by omega⟩ ?_
    rintro j _ next ⟨a,rfl,haj⟩ hnext
    show AQ (decide ((a:Int)<(d.C:Int))) _ _
    refine AC (fun ha=>?_) (fun ha=>?_)
    · show CC d.p (s:Int) bk (w0 d w (out++(List.range a).map (frL d w s))) 6 ((w / d.C:Nat):Int) (a:Int) _ _
      unfold CC
      show IR (d.C:Int) ((w / d.C:Nat):Int) ((w % d.C:Nat):Int) _
      refine RE hC (by omega) hj ?_
      show IR (d.C:Int) ((w / d.C:Nat):Int) (a:Int) _
      refine RE hC (by omega) (by omega) (BG (by show ((out++(List.range a).map (frL d w s)).length+1)*136≤_; simp; omega) ?_)
      refine hnext (j - 1) _ (by omega) ⟨a+1,?_,by omega⟩
      have ew:AH ((a:Int)+1)=((a+1:Nat):Int):=by rw [AX (by omega) (by omega)]; simp
      rw [ew,List.range_succ,List.map_append,←List.append_assoc]
      have ef:([frL d w s a]:List BL)=[{ Kind:=6,From:=((w / d.C*d.C+w % d.C:Nat):Int),To:=((w / d.C*d.C+a:Nat):Int),Seq:=0,Round:=(s:Int),Vec:={ N:=0,Items:=[] },Sums:=[],Triples:=LG (d.rl (w / d.C)) (d.rl (w / d.C+1)) d.S[s].From d.S[s].To d.A,N:=0,Over:=false }]:=by
        unfold frL fZ; rw [he,hlo.1]
      rw [List.map_singleton,ef]
      rfl
    · have:a=d.C:=by omega
      subst this
      exact second _ (by simp; omega) hQ (X:=True) trivial
  · have e:¬d.S[s].Col=((w % d.C:Nat):Int):=e
    have hfl:UO d w s=[]:=by unfold UO; rw [hgd,if_neg e]
    rw [hfl,List.nil_append] at hQ
    exact second _ (by omega) hQ (X:=True) trivial
variable {d:Data}
def XQ (d:Data):MS:={ w:=fun k=>⟨WY d k d.S.length,fun _=>false,fun _=>false,0⟩,bx:=fun _ _=>⟨d.room,[],[],0⟩ }
theorem Ah1 (h:aK d) {adr:Nat→Nat} (hinj:∀ i j,i<d.R*d.C→j<d.R*d.C→adr i=adr j→i=j):fY (d.ctx adr):=by
  have hR:=h.R
  have hC:=h.C
  have hl:=h.seg.len
  exact ⟨Nat.mul_le_mul hR.2 hC.2,rfl,h.room.1,h.room.2,by show d.S.length≤64; omega,hinj⟩
theorem YQ {C i j:Nat} (hj:j<C):(i*C+j) / C=i∧(i*C+j) % C=j:=by
  have hC:0<C:=by omega
  constructor
  · rw [Nat.mul_comm,Nat.mul_add_div hC,Nat.div_eq_of_lt hj]; omega
  · rw [Nat.mul_comm,Nat.mul_add_mod,Nat.mod_eq_of_lt hj]
theorem cN {R C i j:Nat} (hi:i<R) (hj:j<C):i*C+j<R*C:=by
  have:(i+1)*C≤R*C:=Nat.mul_le_mul_right _ (by omega)
  rw [Nat.succ_mul] at this; omega
theorem AfD {w t:Nat} {f:BL} (h:f∈WY d w t):∃ s,s<t∧(((d.S.getD s default).Col=((w % d.C:Nat):Int)∧∃ j,j<d.C∧f=frL d w s j)∨(d.S.getD s default).Row=((w / d.C:Nat):Int)∧∃ i,i<d.R∧f=frR d w s i):=by
  unfold WY at h
  obtain ⟨s,hs,hf⟩:=List.mem_flatMap.1 h
  refine ⟨s,List.mem_range.1 hs,?_⟩
  rcases List.mem_append.1 hf with hf | hf
  · unfold UO at hf
    split at hf
    · rename_i e
      obtain ⟨j,hj,rfl⟩:=List.mem_map.1 hf
      exact .inl ⟨e,j,List.mem_range.1 hj,rfl⟩
    · exact absurd hf (List.not_mem_nil)
  · unfold TE at hf
    split at hf
    · rename_i e
      obtain ⟨j,hj,rfl⟩:=List.mem_map.1 hf
      exact .inr ⟨e,j,List.mem_range.1 hj,rfl⟩
    · exact absurd hf (List.not_mem_nil)
theorem AfE (h:aK d) (i:Nat) (a b:Int):(fZ d i a b).length≤65536:=by
  have:=h.cA.len
  unfold fZ LG
  rw [List.length_map]
  have:=List.length_filter_le (fun t:AD=>decide ((d.rl i≤t.Row∧t.Row<d.rl (i+1))∧(a≤t.Col∧t.Col<b))) d.A
  omega
theorem AfF (h:aK d) (i:Nat) (a b:Int):(jR d i a b).length≤65536:=by
  have:=h.cB.len
  unfold jR LG
  rw [List.length_map]
  have:=List.length_filter_le (fun t:AD=>decide ((a≤t.Row∧t.Row<b)∧(d.cl i≤t.Col∧t.Col<d.cl (i+1)))) d.B
  omega
theorem mY (h:aK d) (adr:Nat→Nat):Good (d.ctx adr) (XQ d):=by
  have hR:=h.R
  have hC:=h.C
  have hl:=h.seg.len
  refine ⟨fun k hk f hf=>?_,fun f t _ _ g hg=>absurd hg (List.not_mem_nil),fun f t _ _=>?_,fun f t _ _=>⟨rfl,Nat.zero_le _⟩⟩
  · have hi:k / d.C<d.R:=Nat.div_lt_of_lt_mul (by rw [Nat.mul_comm]; exact hk)
    have hj:k % d.C<d.C:=Nat.mod_lt _ (by omega)
    obtain ⟨s,hs,⟨_,j,hj',rfl⟩ | ⟨_,i,hi',rfl⟩⟩:=AfD hf
    · have hp:=YQ (i:=k / d.C) hj'
      refine ⟨k / d.C*d.C+j,s,cN hi hj',hs,rfl,rfl,⟨rfl,rfl,?_⟩,.inl ⟨rfl,?_⟩⟩
      · have:=AfE h (k / d.C) (CX d.S s) (CX d.S (s+1)); show (fZ d _ _ _).length≤_; omega
      · show fZ d (k / d.C) _ _=fZ d ((k / d.C*d.C+j) / d.C) _ _
        rw [hp.1]
    · have hp:=YQ (i:=i) hj
      refine ⟨i*d.C+k % d.C,s,cN hi' hj,hs,rfl,rfl,⟨rfl,rfl,?_⟩,.inr ⟨rfl,?_⟩⟩
      · have:=AfF h (k % d.C) (CX d.S s) (CX d.S (s+1)); show (jR d _ _ _).length≤_; omega
      · show jR d (k % d.C) _ _=jR d ((i*d.C+k % d.C) % d.C) _ _
        rw [hp.2]
  · have:=jU h f d.S.length
    show 0+(WY d f d.S.length).length≤_
    omega
theorem mZ (h:aK d) (adr:Nat→Nat):Live (d.ctx adr) (cK (d.ctx adr) (XQ d)) (XQ d):=by
  have hR:=h.R
  have hC:=h.C
  refine ⟨fun f t _ _=>BInv.empty (d.ctx adr),fun k s hk hs=>?_,fun k hk=>⟨Nat.zero_le _,fun hh=>by have:=hh.2.1; cases this⟩,?_⟩
  · have hi:k / d.C<d.R:=Nat.div_lt_of_lt_mul (by rw [Nat.mul_comm]; exact hk)
    have hj:k % d.C<d.C:=Nat.mod_lt _ (by omega)
    have hs':s<d.S.length:=hs
    have hgd:d.S.getD s default=d.S[s]:=by simp [List.getD_eq_getElem?_getD,hs']
    have hrow:=h.seg.row s hs'
    have hcol:=h.seg.col s hs'
    have hmem:∀ {w:Nat} {f:BL},f∈UO d w s++TE d w s→f∈WY d w d.S.length:=fun {w f} hf=>List.mem_flatMap.2 ⟨s,List.mem_range.2 hs',hf⟩
    constructor
    · right
      have hp:=YQ (i:=k / d.C) (j:=d.S[s].Col.toNat) (C:=d.C) (by omega)
      refine ⟨k / d.C*d.C+d.S[s].Col.toNat,cN hi (by omega),.inl ⟨frL d (k / d.C*d.C+d.S[s].Col.toNat) s (k % d.C),hmem (List.mem_append.2 (.inl ?_)),rfl,?_,rfl⟩⟩
      · unfold UO
        rw [hgd,hp.2,if_pos (by omega)]
        exact List.mem_map.2 ⟨k % d.C,List.mem_range.2 hj,rfl⟩
      · show (((k / d.C*d.C+d.S[s].Col.toNat) / d.C*d.C+k % d.C:Nat):Int)=_
        rw [hp.1,Nat.mul_comm (k / d.C) d.C,Nat.div_add_mod]
    · right
      have hp:=YQ (i:=d.S[s].Row.toNat) (j:=k % d.C) (C:=d.C) hj
      refine ⟨d.S[s].Row.toNat*d.C+k % d.C,cN (by omega) hj,.inl ⟨frR d (d.S[s].Row.toNat*d.C+k % d.C) s (k / d.C),hmem (List.mem_append.2 (.inr ?_)),rfl,?_,rfl⟩⟩
      · unfold TE
        rw [hgd,hp.1,if_pos (by omega)]
        exact List.mem_map.2 ⟨k / d.C,List.mem_range.2 hi,rfl⟩
      · show ((k / d.C*d.C+(d.S[s].Row.toNat*d.C+k % d.C) % d.C:Nat):Int)=_
        rw [hp.2,Nat.mul_comm (k / d.C) d.C,Nat.div_add_mod]
  · have e:cL (d.ctx adr) (XQ d)=0:=by
      unfold cL
      have e1:LH (fun f=>LH (fun t=>((XQ d).bx f t).fs.length) (d.ctx adr).n) (d.ctx adr).n=LH (fun _=>0) (d.ctx adr).n:=EG fun i hi=>by
        have:LH (fun t=>((XQ d).bx i t).fs.length) (d.ctx adr).n=LH (fun _=>0) (d.ctx adr).n:=EG fun j hj=>rfl
        rw [this,JG]; simp
      rw [e1,JG]; simp
    omega
theorem AdI (h:aK d) {ads:List Nat} {bk:List (Nat×AA)} (hl:ads.length=d.R*d.C) (hw:∀ k (hk:k<ads.length),BM ads[k] bk=some (w0 d k (WY d k d.S.length))) :
    Rep (d.ctx fun i=>ads.getD i 0) (XQ d) { p:=d.p,stages:=d.S,workers:=ads.map some,boxes:=[] } bk []:=by
  refine ⟨rfl,rfl,?_,fun k hk=>?_,fun f t _=>rfl,fun q hq=>(by cases hq),fun f t b hb=>(by cases hb),fun q q' b hq _=>(by cases hq),List.nodup_nil,fun q hq=>(by cases hq)⟩
  · refine List.ext_getElem (by simp [Data.ctx,hl]) fun i h1 h2=>?_
    simp only [List.length_map] at h1
    simp [Data.ctx,List.getD_eq_getElem?_getD,h1]
  · have hk':k<ads.length:=by rw [hl]; exact hk
    have e:ads.getD k 0=ads[k]:=by simp [List.getD_eq_getElem?_getD,hk']
    refine ⟨w0 d k (WY d k d.S.length),?_,?_⟩
    · show BM (ads.getD k 0) bk=some _
      rw [e]; exact hw k hk'
    · have hz:TV d (k / d.C) (k % d.C) 0=[]:=by
        unfold TV FC
        rw [List.filterMap_eq_nil_iff]
        intro t ht
        have b1:=tI h (k / d.C)
        have b2:=tJ h (k % d.C)
        obtain ⟨_,cA0,_⟩:=FU h.cA (l:=d.rl (k / d.C)) (u:=d.rl (k / d.C+1)) (c:=0) (d:=0) b1.1 b1.2.1 b1.2.2 (by omega) (by omega) h.cA.c0
        obtain ⟨_,cM0,_⟩:=FU h.cM (l:=d.rl (k / d.C)) (u:=d.rl (k / d.C+1)) (c:=d.cl (k % d.C)) (d:=d.cl (k % d.C+1)) b1.1 b1.2.1 b1.2.2 b2.1 b2.2.1 b2.2.2
        have hin:=cM0.inn t ht
        unfold ZB at hin
        unfold HU
        show (MM d.r (fZ d (k / d.C) 0 0) _ _ _).map _=none
        unfold fZ
        rw [TC cA0 hin.1]
        rfl
      exact ⟨rfl,rfl,rfl,rfl,rfl,Nat.zero_le _,hz.symm,fun s _=>rfl,fun s _=>rfl⟩
theorem AdJ (h:aK d) {i j:Nat} (hi:i<d.R) (hj:j<d.C) {Q:Rows→Prop} (hQ:Q (BO (d.rl (i+1) - d.rl i) (d.cl (j+1) - d.cl j) (bkM d i j))):RL (BO d.n d.q d.M) (d.R:Int) (d.C:Int) (i:Int) (j:Int) Q:=by
  have hR:=h.R
  have hC:=h.C
  have hg:mP (d.R:Int) (d.C:Int) (i:Int) (j:Int):=⟨⟨⟨by omega,by omega⟩,by omega,by omega⟩,⟨by omega,by omega⟩,by omega,by omega⟩
  refine pI h.cM ?_
  have b1:=tI h i
  have b2:=tJ h j
  obtain ⟨eM,_,_⟩:=FU h.cM (l:=d.rl i) (u:=d.rl (i+1)) (c:=d.cl j) (d:=d.cl (j+1)) b1.1 b1.2.1 b1.2.2 b2.1 b2.2.1 b2.2.2
  unfold AgV
  rw [if_pos hg]
  have e1:CV d.n (d.R:Int) ((i:Int)+1)=d.rl (i+1):=by unfold Data.rl; simp
  have e2:CV d.q (d.C:Int) ((j:Int)+1)=d.cl (j+1):=by unfold Data.cl; simp
  rw [e1,e2]
  show Q (oO d.n d.q d.M (d.rl i,d.rl (i+1)) (d.cl j,d.cl (j+1)))
  rw [eM]
  exact hQ
theorem AfG (h0:DOk0 d) {o2:List (Nat×AF)} {Q0:(Int×List (Nat×AA))→Prop} {Q1:(Int×List (Nat×AA)×AB)→Prop}
    (hQ:∀ (S:List BC) (ads:List Nat) bk,SegSp d.k d.R d.C d.k S→aK (d.wS S)→fY ((d.wS S).ctx fun i=>ads.getD i 0)→Rep ((d.wS S).ctx fun i=>ads.getD i 0) (XQ (d.wS S)) { p:=d.p,stages:=S,workers:=ads.map some,boxes:=[] } bk []→Q1 (0,bk,{ p:=d.p,stages:=S,workers:=ads.map some,boxes:=[] })) :
    OY [] o2 d.p Q0 Q1:=by
  have hR:=h0.R
  have hC:=h0.C
  have hn:d.R*d.C≤64:=Nat.mul_le_mul hR.2 hC.2
  unfold OY
  refine tN h0 (AN rfl ?_)
  show KY d.k (d.R:Int) (d.C:Int) _
  refine tM ⟨h0.cA.c0,h0.cA.c1⟩ hR hC fun S hS hSl=>?_
  have h:aK (d.wS S):=h0.seg (hS.ok hSl)
  have ern:((d.R:Int)*(d.C:Int))=((d.R*d.C:Nat):Int):=by simp
  have ewn:AH ((d.R:Int)*(d.C:Int))=((d.R*d.C:Nat):Int):=by rw [ern,AX (by omega) (by omega)]
  refine GI (fun j (x:List (Option Nat)×Int×List (Nat×AA))=>∃ (ads:List Nat) (bk:List (Nat×AA)),x=(ads.map some,(ads.length:Int),bk)∧ads.length+j=d.R*d.C∧ads.Nodup∧∀ k (hk:k<ads.length),BM ads[k] bk=some (w0 (d.wS S) k (WY (d.wS S) k S.length))) (m0:=d.R*d.C) ⟨[],[],rfl,by simp,List.nodup_nil,fun k hk=>by simp at hk⟩ ?_
  rintro j _ next ⟨ads,bk,rfl,hj,hnd,hw⟩ hnext
  show AQ (decide ((ads.length:Int)<AH ((d.R:Int)*(d.C:Int)))) _ _
  rw [ewn]
  refine AC (fun hk=>?_) (fun hk=>?_)
  · have hk':ads.length<d.R*d.C:=by omega
    generalize hkk:ads.length=k at hk' hj hk
    have hi:k / d.C<d.R:=Nat.div_lt_of_lt_mul (by rw [Nat.mul_comm]; exact hk')
    have hjc:k % d.C<d.C:=Nat.mod_lt _ (by omega)
    have hsC:TD (d.C:Int):=⟨by omega,by omega⟩
    have hk8:k<8*d.C:=Nat.lt_of_lt_of_le hk' (Nat.mul_le_mul_right _ hR.2)
    show VF (d.C:Int) (k:Int) _
    refine fK hsC hk8 ?_
    show XC (d.C:Int) (k:Int) _
    refine sX hsC hk8 ?_
    show RL (BO d.n d.q d.M) (d.R:Int) (d.C:Int) ((k / d.C:Nat):Int) ((k % d.C:Nat):Int) _
    refine AdJ (d:=d.wS S) h hi hjc ?_
    refine GI (fun j (t:Int×Int×Int×Int×(List Int)×(List Int)×(List Int)×(List BL)×(List (AY×(List AD)))×Int×(List AK)×Int)=>∃ s:Nat,t=pk (w0 (d.wS S) k (WY (d.wS S) k s)) (s:Int)∧s+j=S.length) (m0:=S.length) ⟨0,rfl,by omega⟩ ?_
    rintro j2 _ next2 ⟨s,rfl,hsj⟩ hnext2
    show AQ (decide ((s:Int)<(S.length:Int))) _ _
    refine AC (fun hs=>?_) (fun hs=>?_)
    · have hs':s<S.length:=by omega
      refine AV hs' ?_
      have hlen:=jU h k s
      refine AfC (d:=d.wS S) h (w:=k) (s:=s) hk' hs' (out:=WY (d.wS S) k s) (by omega) ?_
      have ew:AH ((s:Int)+1)=((s+1:Nat):Int):=by rw [AX (by omega) (by omega)]; simp
      rw [ew,←eI]
      exact hnext2 (j2 - 1) _ (by omega) ⟨s+1,rfl,by omega⟩
    · have hse:s=S.length:=by omega
      subst hse
      intro b hb
      refine BG (by simp; omega) ?_
      have ew:AH ((k:Int)+1)=(((ads++[b]).length:Nat):Int):=by rw [AX (by omega) (by omega)]; simp [hkk]
      rw [ew]
      have hnew:∀ i (hi:i<ads.length),ads[i]≠b:=fun i hi e=>by have:=hw i hi; rw [e,hb] at this; cases this
      refine hnext (j - 1) _ (by omega) ⟨ads++[b],_,by rw [List.map_append]; rfl,by simp; omega,?_,fun i hi=>?_⟩
      · rw [List.nodup_append]
        refine ⟨hnd,(by simp),fun a ha c hc e=>?_⟩
        rw [List.mem_singleton] at hc
        obtain ⟨i,hi,rfl⟩:=List.getElem_of_mem ha
        exact hnew i hi (e.trans hc)
      · simp only [List.length_append,List.length_singleton] at hi
        by_cases e:i<ads.length
        · rw [List.getElem_append_left e,fL (hnew i e)]
          exact hw i e
        · have ei:i=k:=by omega
          subst ei
          have:(ads++[b])[i]'(by simp; omega)=b:=by rw [List.getElem_append_right (by omega)]; simp
          rw [this,WK]
  · have hl:ads.length=d.R*d.C:=by omega
    have hinj:∀ i j,i<d.R*d.C→j<d.R*d.C→ads.getD i 0=ads.getD j 0→i=j:=fun i j hi hj e=>by
      have e1:ads.getD i 0=ads[i]'(by omega):=by simp [List.getD_eq_getElem?_getD,show i<ads.length by omega]
      have e2:ads.getD j 0=ads[j]'(by omega):=by simp [List.getD_eq_getElem?_getD,show j<ads.length by omega]
      rw [e1,e2] at e
      exact (List.getElem_inj hnd).1 e
    exact hQ S ads bk hS h (Ah1 h hinj) (AdI (d:=d.wS S) h hl hw)
end Go.Proofs.YtbohadngdkjljaaGreat
