import Derived.Test.YtbohadngdkjljaaGreatSumJ
namespace Go.Proofs.YtbohadngdkjljaaGreat
open Go Go.Fw
set_option linter.unusedVariables false
set_option linter.unusedSimpArgs false
theorem AgT {n k i:Int} (h:XT n k) (h0:0≤i) (h1:i≤k):CY n k i=i*n / k:=by
  unfold CY vS
  rw [if_pos h,if_neg (by omega),if_neg (by omega)]
theorem lX {n k a:Int} {Q:Int→Prop} (h:XT n k) (W:0≤a) (h1:a<n) (hQ:∀ i,0≤i→i<k→CY n k i≤a→a<CY n k (i+1)→Q i):cV n k a Q:=by
  have Y:=h
  unfold XT at Y
  unfold cV
  refine VO (AO (by rw [decide_eq_true h]; rfl) (AO (by simp; omega) (AO (by simp; omega) ⟨by omega,?_⟩)))
  have hk8:a*k≤a*8:=Int.mul_le_mul_of_nonneg_left Y.2.2 W
  have D:0≤a*k:=Int.mul_nonneg W (by omega)
  have e1:AJ (a*k)=a*k:=BE (by omega) (by omega)
  have G:0≤a*k / n:=Int.ediv_nonneg D (by omega)
  have O:a*k / n<k:=by
    refine Int.ediv_lt_of_lt_mul (by omega) ?_
    rw [Int.mul_comm k n]
    exact Int.mul_lt_mul_of_pos_right h1 (by omega)
  have U:CY n k (a*k / n)≤a:=by
    rw [AgT h G (by omega)]
    refine Int.ediv_le_of_le_mul (by omega) ?_
    exact Int.ediv_mul_le _ (by omega)
  rw [e1,Int.tdiv_eq_ediv_of_nonneg D,BE (x:=a*k / n) (by omega) (by omega)]
  refine GQ (fun j (i:Int)=>0≤i∧i<k∧CY n k i≤a∧(k - i).toNat=j) (m0:=(k - a*k / n).toNat) ⟨G,O,U,rfl⟩ ?_
  rintro j i next ⟨i0,i1,Z,i3⟩ hnext
  have ew:AJ (i+1)=i+1:=BE (by omega) (by omega)
  show GC n k (AJ (i+1)) _
  rw [ew]
  refine IM (AB (fun J=>?_) (fun J=>hQ i i0 i1 Z (by omega)))
  refine hnext (j - 1) _ (by omega) ⟨by omega,?_,J,by omega⟩
  rcases Int.lt_or_le (i+1) k with V | V
  · exact V
  · have:i+1=k:=by omega
    rw [this,ZS h] at J
    omega
structure SegSp (n:Int) (R C:Nat) (top:Int) (S:List BJ):Prop where
  row:∀ s (h:s<S.length),(0≤S[s].Row∧S[s].Row<R)∧CY n R S[s].Row≤S[s].From∧S[s].To≤CY n R (S[s].Row+1)
  col:∀ s (h:s<S.length),(0≤S[s].Col∧S[s].Col<C)∧CY n C S[s].Col≤S[s].From∧S[s].To≤CY n C (S[s].Col+1)
  lo:∀ s (h:s<S.length),S[s].From=DA S s∧S[s].From<S[s].To∧S[s].To≤n
  top:DA S S.length=top
theorem pQ (S:List BJ) (x:BJ):∀ s,s≤S.length→DA (S++[x]) s=DA S s
  | 0,_=>rfl
  | s+1,h=>by
    show ((S++[x]).getD s default).To=(S.getD s default).To
    simp [List.getD_eq_getElem?_getD,List.getElem?_append_left (show s<S.length by omega)]
theorem SegSp.snoc {n:Int} {R C:Nat} {D:Int} {S:List BJ} (h:SegSp n R C D S) {t i j:Int} (U:D<t) (Y:t≤n) (hi:(0≤i∧i<R)∧CY n R i≤D∧t≤CY n R (i+1)) (W:(0≤j∧j<C)∧CY n C j≤D∧t≤CY n C (j+1)) :
    SegSp n R C t (S++[⟨D,t,i,j⟩]):=by
  have G:∀ {P:BJ→Nat→Prop},(∀ s (h:s<S.length),P S[s] s)→P ⟨D,t,i,j⟩ S.length→∀ s (h:s<(S++[(⟨D,t,i,j⟩:BJ)]).length),P (S++[(⟨D,t,i,j⟩:BJ)])[s] s:=by
    intro P V O s J
    simp only [List.length_append,List.length_singleton] at J
    by_cases e:s<S.length
    · rw [List.getElem_append_left e]; exact V s e
    · have:s=S.length:=by omega
      subst this
      simpa using O
  refine ⟨G (P:=fun x _=>(0≤x.Row∧x.Row<R)∧CY n R x.Row≤x.From∧x.To≤CY n R (x.Row+1)) h.row hi,G (P:=fun x _=>(0≤x.Col∧x.Col<C)∧CY n C x.Col≤x.From∧x.To≤CY n C (x.Col+1)) h.col W,G (P:=fun x s=>x.From=DA (S++[(⟨D,t,i,j⟩:BJ)]) s∧x.From<x.To∧x.To≤n) (fun s J=>?_) ⟨?_,U,Y⟩,?_⟩
  · rw [pQ S _ s (by omega)]; exact h.lo s J
  · rw [pQ S _ _ (Nat.le_refl _)]; exact h.top.symm
  · simp only [List.length_append,List.length_singleton]
    show ((S++[(⟨D,t,i,j⟩:BJ)]).getD S.length default).To=t
    simp [List.getD_eq_getElem?_getD]
def OW (n:Int) (k:Nat) (i:Nat):List Int:=(List.range i).map fun x:Nat=>CY n k ((x:Int)+1)
theorem zD (n:Int) (k i:Nat):OW n k (i+1)=OW n k i++[CY n k ((i:Int)+1)]:=by unfold OW; rw [List.range_succ,List.map_append]; rfl
theorem pR {n:Int} {k:Nat} (hk:k≤8) {pre:List Int} (hp:pre.length≤100) {h:List Int×Int→(List Int×Int→Prop)→Prop}
    (J:∀ (l:List Int) (i:Nat) next,l.length≤200→i<k→next (l++[CY n k ((i:Int)+1)],AJ ((i:Int)+1))→h (l,(i:Int)) next)
    (he:∀ next,h (pre++OW n k k,(k:Int)) next):BB h (pre,0):=by
  refine GQ (fun j (x:List Int×Int)=>∃ i:Nat,x=(pre++OW n k i,(i:Int))∧i+j=k) (m0:=k) ⟨0,by simp [OW],by omega⟩ ?_
  rintro j _ next ⟨i,rfl,G⟩ hnext
  by_cases hi:i<k
  · refine J _ i next (by simp [OW]; omega) hi ?_
    have D:AJ ((i:Int)+1)=(i:Int)+1:=BE (by omega) (by omega)
    rw [D]
    exact hnext (j - 1) _ (by omega) ⟨i+1,by rw [zD,List.append_assoc]; simp,by omega⟩
  · have:i=k:=by omega
    subst this
    exact he next
theorem AbC {n:Int} {k i:Nat} {l:List Int} {K:List Int→Prop} (hl:l.length≤200) (hi:i<k) (hk:k≤8) (h:K (l++[CY n k ((i:Int)+1)])):GC n (k:Int) (AJ ((i:Int)+1)) fun r=>FX 8 l ([r]) fun _=>K (l++[r]):=by
  rw [BE (by omega) (by omega)]
  exact IM (BA (by simp; omega) h)
theorem wJ {n:Int} {R C:Nat} (hn:0≤n∧n≤4096) (hR:1≤R∧R≤8) (hC:1≤C∧C≤8) {Q:List BJ→Prop} (hQ:∀ S,SegSp n R C n S→S.length+1≤R+C→Q S):LR n (R:Int) (C:Int) Q:=by
  have hmR:XT n (R:Int):=⟨hn,by omega⟩
  have hmC:XT n (C:Int):=⟨hn,by omega⟩
  unfold LR
  refine VO (AO (by rw [decide_eq_true hmR]; rfl) (VO (AO (by rw [decide_eq_true hmC]; rfl) ?_)))
  unfold VW QX
  refine pR (n:=n) hR.2 (pre:=[]) (by simp) (fun l i next hl hi D=>AX (by simp; omega) (AbC (K:=fun z=>next (z,AJ ((i:Int)+1))) hl hi hR.2 D)) fun next=>AO (by simp) ?_
  refine pR (n:=n) hC.2 (by simp [OW]; omega) (fun l i next hl hi D=>AX (by simp; omega) (AbC (K:=fun z=>next (z,AJ ((i:Int)+1))) hl hi hC.2 D)) fun next=>AO (by simp) ?_
  rw [List.nil_append]
  refine ⟨by simp [OW]; omega,?_⟩
  generalize hys:(OW n R R++OW n C C).mergeSort (fun x y=>decide (x≤y))=ys
  have G:ys.Perm (OW n R R++OW n C C):=by rw [←hys]; exact List.mergeSort_perm _ _
  have hlen:ys.length=R+C:=by rw [G.length_eq]; simp [OW]
  have hsort:ys.Pairwise (· ≤ ·):=by
    rw [←hys]
    have:=List.pairwise_mergeSort (le:=fun (x y:Int)=>decide (x≤y)) (fun a b c h1 h2=>by simp only [decide_eq_true_eq] at *; omega) (fun a b=>by simp only [Bool.or_eq_true,decide_eq_true_eq]; omega) (OW n R R++OW n C C)
    exact this.imp fun h=>by simpa using h
  have Y:∀ (a b:Nat) (O:a<ys.length) (hb:b<ys.length),a≤b→ys[a]≤ys[b]:=fun a b O hb hab=>by
    rcases Nat.lt_or_ge a b with W | W
    · exact List.pairwise_iff_getElem.1 hsort a b O hb W
    · have:a=b:=by omega
      subst this; omega
  have hmemR:∀ i:Int,0≤i→i<R→CY n R (i+1)∈ys:=fun i h0 h1=>by
    rw [G.mem_iff]
    refine List.mem_append.2 (.inl (List.mem_map.2 ⟨i.toNat,List.mem_range.2 (by omega),by rw [Int.toNat_of_nonneg h0]⟩))
  have hmemC:∀ i:Int,0≤i→i<C→CY n C (i+1)∈ys:=fun i h0 h1=>by
    rw [G.mem_iff]
    refine List.mem_append.2 (.inr (List.mem_map.2 ⟨i.toNat,List.mem_range.2 (by omega),by rw [Int.toNat_of_nonneg h0]⟩))
  have hb:∀ y∈ys,0≤y∧y≤n:=fun y hy=>by
    rw [G.mem_iff] at hy
    rcases List.mem_append.1 hy with hy | hy <;>
      (obtain ⟨x,_,rfl⟩:=List.mem_map.1 hy; exact ⟨pH.1,pH.2 hn.1⟩)
  -- the two last NL are n
  have hcount:2≤ys.count n:=by
    rw [G.count_eq,List.count_append]
    have e1:CY n R (((R - 1:Nat):Int)+1)=n:=by rw [show (((R - 1:Nat):Int)+1)=(R:Int) by omega]; exact ZS hmR
    have e2:CY n C (((C - 1:Nat):Int)+1)=n:=by rw [show (((C - 1:Nat):Int)+1)=(C:Int) by omega]; exact ZS hmC
    have h1:n∈OW n R R:=List.mem_map.2 ⟨R - 1,List.mem_range.2 (by omega),e1⟩
    have h2:n∈OW n C C:=List.mem_map.2 ⟨C - 1,List.mem_range.2 (by omega),e2⟩
    have:=List.count_pos_iff.2 h1
    have:=List.count_pos_iff.2 h2
    omega
  have U:∀ (i:Nat) (hi:i<ys.length),R+C≤i+2→ys[i]=n:=by
    intro i hi hri
    have h1:=(hb _ (List.getElem_mem hi)).2
    rcases Int.lt_or_le ys[i] n with hlt | hge
    · exfalso
      have:(ys.drop (i+1)).length≤1:=by rw [List.length_drop]; omega
      have hc:ys.count n=(ys.take (i+1)).count n+(ys.drop (i+1)).count n:=by rw [←List.count_append,List.take_append_drop]
      have hz:(ys.take (i+1)).count n=0:=by
        rw [List.count_eq_zero]
        intro hm
        obtain ⟨a,O,hae⟩:=List.getElem_of_mem hm
        rw [List.length_take] at O
        rw [List.getElem_take] at hae
        have:=Y a i (by omega) hi (by omega)
        omega
      have:(ys.drop (i+1)).count n≤(ys.drop (i+1)).length:=List.count_le_length
      omega
    · omega
  refine GQ (fun j (x:List BJ×Int×Int×Int×Nat)=>∃ (i:Nat) (S:List BJ) (l:Int),x=(S,l,l,(i:Int),0)∧i+j=R+C∧SegSp n R C l S∧S.length≤i∧S.length+1≤R+C∧(∀ (a:Nat) (O:a<ys.length),a<i→ys[a]≤l)∧(0≤l∧l≤n)∧(∀ (a:Nat) (O:a<ys.length),a+1=i→ys[a]=l)) (m0:=R+C)
    ⟨0,[],0,rfl,by omega,⟨fun s h=>by simp at h,fun s h=>by simp at h,fun s h=>by simp at h,rfl⟩,by simp,by simp; omega,fun a _ h=>by omega,by omega,fun a _ h=>by omega⟩ ?_
  rintro j _ next ⟨i,S,l,rfl,hij,hS,hSl,hSl2,Z,hl,V⟩ D
  show AR (decide ((i:Int)<(ys.length:Int))) _ _
  rw [hlen]
  refine AB (fun hi=>?_) (fun hi=>?_)
  · have J:i<ys.length:=by omega
    have ew:AJ ((i:Int)+1)=((i+1:Nat):Int):=by rw [BE (by omega) (by omega)]; simp
    refine AW J (AB (fun hgt=>?_) (fun hle'=>?_))
    · have hyn:=(hb _ (List.getElem_mem J)).2
      refine ⟨rfl,?_⟩
      have hin:i+1<R+C:=by
        rcases Nat.lt_or_ge (i+1) (R+C) with W | W
        · exact W
        · exfalso
          have h1:1≤i:=by omega
          have e2:=V (i - 1) (by omega) (by omega)
          have e3:=U (i - 1) (by omega) (by omega)
          omega
      have up:∀ y,y∈ys→l<y→ys[i]≤y:=fun y hy hly=>by
        obtain ⟨a,O,rfl⟩:=List.getElem_of_mem hy
        rcases Nat.lt_or_ge a i with W | W
        · have:=Z a O W; omega
        · exact Y i a J O W
      refine lX hmR hl.1 (by omega) fun r r0 r1 r2 r3=>lX hmC hl.1 (by omega) fun q q0 q1 q2 q3=>BA (by simp; omega) ?_
      refine AO rfl ?_
      rw [ew]
      refine D (j - 1) _ (by omega) ⟨i+1,S++[⟨l,ys[i],r,q⟩],ys[i],rfl,by omega,?_,by simp; omega,by simp; omega,fun a O hai=>Y a i O J (by omega),hb _ (List.getElem_mem J),fun a O hai=>by simp only [show a=i by omega]⟩
      exact hS.snoc hgt hyn ⟨⟨r0,r1⟩,r2,up _ (hmemR r r0 r1) r3⟩ ⟨⟨q0,q1⟩,q2,up _ (hmemC q q0 q1) q3⟩
    · rw [ew]
      have hy0:=(hb _ (List.getElem_mem J)).1
      have heq:ys[i]=l:=by
        rcases Nat.eq_zero_or_pos i with h0 | h0
        · subst h0
          have hl0:l=0:=by
            have:S=[]:=List.length_eq_zero_iff.1 (by omega)
            subst this
            exact hS.top.symm
          omega
        · have e1:=V (i - 1) (by omega) (by omega)
          have:=Y (i - 1) i (by omega) J (by omega)
          omega
      refine D (j - 1) _ (by omega) ⟨i+1,S,l,by rw [heq],by omega,hS,by omega,hSl2,fun a O hai=>?_,hl,fun a O hai=>?_⟩
      · by_cases e:a=i
        · subst e; omega
        · exact Z a O (by omega)
      · simp only [show a=i by omega]; exact heq
  · have hie:i=R+C:=by omega
    have e:=V (R+C - 1) (by omega) (by omega)
    have e2:=U (R+C - 1) (by omega) (by omega)
    refine ⟨rfl,hQ S ?_ hSl2⟩
    rw [←e,e2] at hS
    exact hS
structure DOk0 (d:Data):Prop where
  r:1≤d.r∧d.r≤5
  cA:Canon d.n d.k d.A
  cB:Canon d.k d.q d.B
  cM:Canon d.n d.q d.M
  vA:∀ t∈d.A,FL t.Val
  vB:∀ t∈d.B,FL t.Val
  vM:∀ t∈d.M,FL t.Val
  R:1≤d.R∧d.R≤8
  C:1≤d.C∧d.C≤8
  room:1≤d.room∧d.room≤64
def Data.wS (d:Data) (S:List BJ):Data:={ d with S:=S }
theorem SegSp.ok {d:Data} {S:List BJ} (h:SegSp d.k d.R d.C d.k S) (G:S.length+1≤d.R+d.C):AeY (d.wS S):=
  ⟨G,fun s D=>(h.row s D).1,fun s D=>(h.col s D).1,fun s D=>⟨(h.lo s D).1,by have:=(h.lo s D).2.1; show S[s].From≤S[s].To; omega,(h.lo s D).2.2⟩,h.top⟩
theorem DOk0.seg {d:Data} (h:DOk0 d) {S:List BJ} (D:AeY (d.wS S)):cE (d.wS S):=⟨h.r,h.cA,h.cB,h.cM,h.vA,h.vB,h.vM,h.R,h.C,h.room,D⟩
variable {d:Data}
theorem wK (h:DOk0 d) {Q:Int→Prop} (G:Q 0):QL d.p Q:=by
  have hR:=h.R
  have hC:=h.C
  have hr:=h.r
  have hm:=h.room
  unfold QL Data.p FM
  refine KQ (AO (by simp; omega) ?_)
  refine fQ ⟨h.cA.sml.1,h.cA.sml.2.1⟩ (AO (by rw [decide_eq_true h.cA.right]; rfl) ?_)
  refine fQ ⟨h.cB.sml.1,h.cB.sml.2.1⟩ (AO (by rw [decide_eq_true h.cB.right]; rfl) ?_)
  refine fQ ⟨h.cM.sml.1,h.cM.sml.2.1⟩ ?_
  rw [decide_eq_true h.cM.right]
  refine AO rfl (FF (fun e=>absurd rfl e) fun _=>FF (fun e=>absurd rfl e) fun _=>?_)
  show AR (d.q != d.q) _ _
  refine AO (by simp) ?_
  have D:∀ (a m:Int) {Q:Bool→Prop},1≤a→a≤m→Q true→JK a m Q:=fun a m Q O U J=>by
    unfold JK
    exact AX (by simpa using O) (by rw [decide_eq_true U]; exact J)
  exact D _ _ (by show (1:Int)≤(d.R:Int); omega) (by show (d.R:Int)≤8; omega) (AO rfl (D _ _ (by show (1:Int)≤(d.C:Int); omega) (by show (d.C:Int)≤8; omega) (AO rfl (D _ _ (by show (1:Int)≤(d.room:Int); omega) (by show (d.room:Int)≤64; omega) (AO rfl G)))))
theorem SF {c i j:Nat} {Q:Int→Prop} (h:1≤c∧c≤8) (hi:i<8) (hj:j<c) (D:Q ((i*c+j:Nat):Int)):IY (c:Int) (i:Int) (j:Int) Q:=by
  unfold IY
  have hb:i*c≤8*8:=Nat.mul_le_mul (by omega) h.2
  have e:((i:Int)*(c:Int))=((i*c:Nat):Int):=by simp
  refine dV (AO (by rw [decide_eq_true (show UF (c:Int) from ⟨by omega,by omega⟩)]; rfl) (AO (by simp) (AO (by simp; omega) (AO (by simp) (AO (by simp; omega) ?_)))))
  rw [e,BE (x:=((i*c:Nat):Int)) (by omega) (by omega),BE (by omega) (by omega)]
  simpa using D
def frL (d:Data) (w s j:Nat):BL:={ Kind:=6,From:=((w / d.C*d.C+w % d.C:Nat):Int),To:=((w / d.C*d.C+j:Nat):Int),Seq:=0,Round:=(s:Int),Vec:={ N:=0,Items:=[] },Sums:=[],Triples:=iT d (w / d.C) (DA d.S s) (DA d.S (s+1)),N:=0,Over:=false }
def frR (d:Data) (w s i:Nat):BL:={ Kind:=7,From:=((w / d.C*d.C+w % d.C:Nat):Int),To:=((i*d.C+w % d.C:Nat):Int),Seq:=0,Round:=(s:Int),Vec:={ N:=0,Items:=[] },Sums:=[],Triples:=lV d (w % d.C) (DA d.S s) (DA d.S (s+1)),N:=0,Over:=false }
def VP (d:Data) (w s:Nat):List BL:=if (d.S.getD s default).Col=((w % d.C:Nat):Int) then (List.range d.C).map (frL d w s) else []
def UG (d:Data) (w s:Nat):List BL:=if (d.S.getD s default).Row=((w / d.C:Nat):Int) then (List.range d.R).map (frR d w s) else []
def XV (d:Data) (w t:Nat):List BL:=(List.range t).flatMap fun s=>VP d w s++UG d w s
theorem fW (d:Data) (w t:Nat):XV d w (t+1)=XV d w t++(VP d w t++UG d w t):=by unfold XV; rw [List.range_succ,List.flatMap_append,List.flatMap_singleton]
theorem Af1 (h:cE d) (w s:Nat):(VP d w s++UG d w s).length≤16:=by
  have hR:=h.R
  have hC:=h.C
  rw [List.length_append]
  unfold VP UG
  split <;> split <;> simp <;> omega
theorem lY (h:cE d) (w:Nat):∀ t,(XV d w t).length≤t*16
  | 0=>by simp [XV]
  | t+1=>by rw [fW,List.length_append]; have:=lY h w t; have:=Af1 h w t; omega
def w0 (d:Data) (w:Nat) (out:List BL):AA:={ i:=((w / d.C:Nat):Int),j:=((w % d.C:Nat):Int),mask:=BM (d.rl (w / d.C+1) - d.rl (w / d.C)) (d.cl (w % d.C+1) - d.cl (w % d.C)) (bkM d (w / d.C) (w % d.C)),out:=out,parts:=[],at_:=0,has:=[] }
abbrev pk (x:AA) (k:Int):Int×Int×Int×Int×(List Int)×(List Int)×(List Int)×(List BL)×(List (BC×(List AD)))×Int×(List AM)×Int:=
  (x.i,x.j,x.mask.Rows,x.mask.Cols,x.mask.Start,x.mask.Col,x.mask.Val,x.out,x.parts,x.at_,x.has,k)
theorem AgU (h:cE d) {w s:Nat} (hw:w<d.R*d.C) (hs:s<d.S.length) {ws:List (Option Nat)} {bs:List ((Int×Int)×Option Nat)} {bk:List (Nat×AA)} {out:List BL} (hl:out.length≤10000) {Q:AA→Prop}
    (hQ:Q (w0 d w (out++(VP d w s++UG d w s)))):GG { p:=d.p,stages:=d.S,workers:=ws,boxes:=bs } (w0 d w out) bk (s:Int) d.S[s] Q:=by
  have hR:=h.R
  have hC:=h.C
  have hi:w / d.C<d.R:=Nat.div_lt_of_lt_mul (by rw [Nat.mul_comm]; exact hw)
  have hj:w % d.C<d.C:=Nat.mod_lt _ (by omega)
  have b1:=wF h (w / d.C)
  have b2:=wG h (w % d.C)
  have hlo:=h.seg.lo s hs
  have hb:=sG h s (by omega)
  have he:=lU (d:=d) hs
  have O:d.S.getD s default=d.S[s]:=by simp [List.getD_eq_getElem?_getD,hs]
  obtain ⟨eA,U,_⟩:=GI h.cA (l:=d.rl (w / d.C)) (u:=d.rl (w / d.C+1)) (c:=d.S[s].From) (d:=d.S[s].To) b1.1 b1.2.1 b1.2.2 (by omega) (by omega) (by omega)
  obtain ⟨eB,W,_⟩:=GI h.cB (l:=d.S[s].From) (u:=d.S[s].To) (c:=d.cl (w % d.C)) (d:=d.cl (w % d.C+1)) (by omega) (by omega) (by omega) b2.1 b2.2.1 b2.2.2
  have xR:∀ {n:Int} {k i:Nat} {Q:Int×Int→Prop},k≤8→i<k→Q (CY n k i,CY n k ((i+1:Nat):Int))→IU n (k:Int) (i:Int) Q:=fun {n k i Q} hk hi Z=>by
    unfold IU
    refine IM ?_
    rw [BE (by omega) (by omega)]
    exact IM (by simpa using Z)
  unfold GG
  -- the J half
  have J:∀ (G:List BL),G.length≤10100→Q (w0 d w (G++UG d w s))→∀ {X:Prop},True→(AR (d.S[s].Row==((w / d.C:Nat):Int)) (IU d.q (d.C:Int) ((w % d.C:Nat):Int) fun r950=>MH (BM d.k d.q d.B) (d.S[s].From,d.S[s].To) r950 fun r954=>KM r954 fun r971=>
      BB (fun (t:Int×Int×Int×Int×(List Int)×(List Int)×(List Int)×(List BL)×(List (BC×(List AD)))×Int×(List AM)×Int) (next:(Int×Int×Int×Int×(List Int)×(List Int)×(List Int)×(List BL)×(List (BC×(List AD)))×Int×(List AM)×Int)→Prop)=>match t with | (s1125,s1126,s1127,s1128,s1129,s1133,s1137,s1141,s1145,s1146,s1147,s1151)=>AR (decide (s1151<(d.R:Int))) (CG d.p (s:Int) bk ({ i:=s1125,j:=s1126,mask:=({ Rows:=s1127,Cols:=s1128,Start:=s1129,Col:=s1133,Val:=s1137 }:Rows),out:=s1141,parts:=s1145,at_:=s1146,has:=s1147 }:AA) 7 s1151 s1126 r971 fun D=>next (D.i,D.j,D.mask.Rows,D.mask.Cols,D.mask.Start,D.mask.Col,D.mask.Val,D.out,D.parts,D.at_,D.has,AJ (s1151+1))) (Q ({ i:=s1125,j:=s1126,mask:=({ Rows:=s1127,Cols:=s1128,Start:=s1129,Col:=s1133,Val:=s1137 }:Rows),out:=s1141,parts:=s1145,at_:=s1146,has:=s1147 }:AA))) (pk (w0 d w G) 0)) (Q (w0 d w G))):=by
    intro G hl2 Z X _
    refine CC (fun e=>?_) (fun e=>?_)
    · refine xR hC.2 hj ?_
      refine X5 h.cB.sml (MU h.cB) h.cB ?_
      have eB':rD d.k d.q d.B (d.S[s].From,d.S[s].To) (CY d.q d.C ((w % d.C:Nat):Int),CY d.q d.C ((w % d.C+1:Nat):Int))=_:=eB
      rw [eB']
      refine UC W.sml (MU W) W ?_
      have V:UG d w s=(List.range d.R).map (frR d w s):=by unfold UG; rw [O,if_pos e]
      rw [V] at Z
      refine GQ (fun j (t:Int×Int×Int×Int×(List Int)×(List Int)×(List Int)×(List BL)×(List (BC×(List AD)))×Int×(List AM)×Int)=>∃ a:Nat,t=pk (w0 d w (G++(List.range a).map (frR d w s))) (a:Int)∧a+j=d.R) (m0:=d.R) ⟨0,by simp,by omega⟩ ?_
      rintro j _ next ⟨a,rfl,haj⟩ hnext
      show AR (decide ((a:Int)<(d.R:Int))) _ _
      refine AB (fun ha=>?_) (fun ha=>?_)
      · show CG d.p (s:Int) bk (w0 d w (G++(List.range a).map (frR d w s))) 7 (a:Int) ((w % d.C:Nat):Int) _ _
        unfold CG
        show IY (d.C:Int) ((w / d.C:Nat):Int) ((w % d.C:Nat):Int) _
        refine SF hC (by omega) hj ?_
        show IY (d.C:Int) (a:Int) ((w % d.C:Nat):Int) _
        refine SF hC (by omega) hj (BA (by show ((G++(List.range a).map (frR d w s)).length+1)*136≤_; simp; omega) ?_)
        refine hnext (j - 1) _ (by omega) ⟨a+1,?_,by omega⟩
        have ew:AJ ((a:Int)+1)=((a+1:Nat):Int):=by rw [BE (by omega) (by omega)]; simp
        rw [ew,List.range_succ,List.map_append,←List.append_assoc]
        have ef:([frR d w s a]:List BL)=[{ Kind:=7,From:=((w / d.C*d.C+w % d.C:Nat):Int),To:=((a*d.C+w % d.C:Nat):Int),Seq:=0,Round:=(s:Int),Vec:={ N:=0,Items:=[] },Sums:=[],Triples:=LZ d.S[s].From d.S[s].To (d.cl (w % d.C)) (d.cl (w % d.C+1)) d.B,N:=0,Over:=false }]:=by
          unfold frR lV; rw [he,hlo.1]
        rw [List.map_singleton,ef]
        rfl
      · have:a=d.R:=by omega
        subst this
        exact Z
    · have V:UG d w s=[]:=by unfold UG; rw [O,if_neg e]
      rw [V,List.append_nil] at Z
      exact Z
  unfold FM
  refine CC (fun e=>?_) (fun e=>?_)
  · have e:d.S[s].Col=((w % d.C:Nat):Int):=e
    show IU d.n (d.R:Int) ((w / d.C:Nat):Int) _
    refine xR hR.2 hi ?_
    show MH (BM d.n d.k d.A) _ _ _
    refine X5 h.cA.sml (MU h.cA) h.cA ?_
    have eA':rD d.n d.k d.A (CY d.n d.R ((w / d.C:Nat):Int),CY d.n d.R ((w / d.C+1:Nat):Int)) (d.S[s].From,d.S[s].To)=_:=eA
    rw [eA']
    refine UC U.sml (MU U) U ?_
    have Y:VP d w s=(List.range d.C).map (frL d w s):=by unfold VP; rw [O,if_pos e]
    rw [Y,←List.append_assoc] at hQ
    refine GQ (fun j (t:Int×Int×Int×Int×(List Int)×(List Int)×(List Int)×(List BL)×(List (BC×(List AD)))×Int×(List AM)×Int)=>∃ a:Nat,t=pk (w0 d w (out++(List.range a).map (frL d w s))) (a:Int)∧a+j=d.C) (m0:=d.C) ⟨0,by simp,by omega⟩ ?_
    rintro j _ next ⟨a,rfl,haj⟩ hnext
    show AR (decide ((a:Int)<(d.C:Int))) _ _
    refine AB (fun ha=>?_) (fun ha=>?_)
    · show CG d.p (s:Int) bk (w0 d w (out++(List.range a).map (frL d w s))) 6 ((w / d.C:Nat):Int) (a:Int) _ _
      unfold CG
      show IY (d.C:Int) ((w / d.C:Nat):Int) ((w % d.C:Nat):Int) _
      refine SF hC (by omega) hj ?_
      show IY (d.C:Int) ((w / d.C:Nat):Int) (a:Int) _
      refine SF hC (by omega) (by omega) (BA (by show ((out++(List.range a).map (frL d w s)).length+1)*136≤_; simp; omega) ?_)
      refine hnext (j - 1) _ (by omega) ⟨a+1,?_,by omega⟩
      have ew:AJ ((a:Int)+1)=((a+1:Nat):Int):=by rw [BE (by omega) (by omega)]; simp
      rw [ew,List.range_succ,List.map_append,←List.append_assoc]
      have ef:([frL d w s a]:List BL)=[{ Kind:=6,From:=((w / d.C*d.C+w % d.C:Nat):Int),To:=((w / d.C*d.C+a:Nat):Int),Seq:=0,Round:=(s:Int),Vec:={ N:=0,Items:=[] },Sums:=[],Triples:=LZ (d.rl (w / d.C)) (d.rl (w / d.C+1)) d.S[s].From d.S[s].To d.A,N:=0,Over:=false }]:=by
        unfold frL iT; rw [he,hlo.1]
      rw [List.map_singleton,ef]
      rfl
    · have:a=d.C:=by omega
      subst this
      exact J _ (by simp; omega) hQ (X:=True) trivial
  · have e:¬d.S[s].Col=((w % d.C:Nat):Int):=e
    have Y:VP d w s=[]:=by unfold VP; rw [O,if_neg e]
    rw [Y,List.nil_append] at hQ
    exact J _ (by omega) hQ (X:=True) trivial
variable {d:Data}
def YR (d:Data):MS:={ w:=fun k=>⟨XV d k d.S.length,fun _=>false,fun _=>false,0⟩,bx:=fun _ _=>⟨d.room,[],[],0⟩ }
theorem AiN (h:cE d) {D:Nat→Nat} (G:∀ i j,i<d.R*d.C→j<d.R*d.C→D i=D j→i=j):iS (d.ctx D):=by
  have O:=h.R
  have J:=h.C
  have hl:=h.seg.len
  exact ⟨Nat.mul_le_mul O.2 J.2,rfl,h.room.1,h.room.2,by show d.S.length≤64; omega,G⟩
theorem ZW {C i j:Nat} (h:j<C):(i*C+j) / C=i∧(i*C+j) % C=j:=by
  have D:0<C:=by omega
  constructor
  · rw [Nat.mul_comm,Nat.mul_add_div D,Nat.div_eq_of_lt h]; omega
  · rw [Nat.mul_comm,Nat.mul_add_mod,Nat.mod_eq_of_lt h]
theorem eG {R C i j:Nat} (hi:i<R) (hj:j<C):i*C+j<R*C:=by
  have:(i+1)*C≤R*C:=Nat.mul_le_mul_right _ (by omega)
  rw [Nat.succ_mul] at this; omega
theorem AgV {w t:Nat} {f:BL} (h:f∈XV d w t):∃ s,s<t∧(((d.S.getD s default).Col=((w % d.C:Nat):Int)∧∃ j,j<d.C∧f=frL d w s j)∨(d.S.getD s default).Row=((w / d.C:Nat):Int)∧∃ i,i<d.R∧f=frR d w s i):=by
  unfold XV at h
  obtain ⟨s,J,D⟩:=List.mem_flatMap.1 h
  refine ⟨s,List.mem_range.1 J,?_⟩
  rcases List.mem_append.1 D with D | D
  · unfold VP at D
    split at D
    · rename_i e
      obtain ⟨j,G,rfl⟩:=List.mem_map.1 D
      exact .inl ⟨e,j,List.mem_range.1 G,rfl⟩
    · exact absurd D (List.not_mem_nil)
  · unfold UG at D
    split at D
    · rename_i e
      obtain ⟨j,G,rfl⟩:=List.mem_map.1 D
      exact .inr ⟨e,j,List.mem_range.1 G,rfl⟩
    · exact absurd D (List.not_mem_nil)
theorem AgW (h:cE d) (i:Nat) (a b:Int):(iT d i a b).length≤65536:=by
  have:=h.cA.len
  unfold iT LZ
  rw [List.length_map]
  have:=List.length_filter_le (fun t:AD=>decide ((d.rl i≤t.Row∧t.Row<d.rl (i+1))∧(a≤t.Col∧t.Col<b))) d.A
  omega
theorem AgX (h:cE d) (i:Nat) (a b:Int):(lV d i a b).length≤65536:=by
  have:=h.cB.len
  unfold lV LZ
  rw [List.length_map]
  have:=List.length_filter_le (fun t:AD=>decide ((a≤t.Row∧t.Row<b)∧(d.cl i≤t.Col∧t.Col<d.cl (i+1)))) d.B
  omega
theorem pS (h:cE d) (D:Nat→Nat):Good (d.ctx D) (YR d):=by
  have hR:=h.R
  have hC:=h.C
  have hl:=h.seg.len
  refine ⟨fun k hk f V=>?_,fun f t _ _ g U=>absurd U (List.not_mem_nil),fun f t _ _=>?_,fun f t _ _=>⟨rfl,Nat.zero_le _⟩⟩
  · have hi:k / d.C<d.R:=Nat.div_lt_of_lt_mul (by rw [Nat.mul_comm]; exact hk)
    have J:k % d.C<d.C:=Nat.mod_lt _ (by omega)
    obtain ⟨s,O,⟨_,j,hj',rfl⟩ | ⟨_,i,G,rfl⟩⟩:=AgV V
    · have hp:=ZW (i:=k / d.C) hj'
      refine ⟨k / d.C*d.C+j,s,eG hi hj',O,rfl,rfl,⟨rfl,rfl,?_⟩,.inl ⟨rfl,?_⟩⟩
      · have:=AgW h (k / d.C) (DA d.S s) (DA d.S (s+1)); show (iT d _ _ _).length≤_; omega
      · show iT d (k / d.C) _ _=iT d ((k / d.C*d.C+j) / d.C) _ _
        rw [hp.1]
    · have hp:=ZW (i:=i) J
      refine ⟨i*d.C+k % d.C,s,eG G J,O,rfl,rfl,⟨rfl,rfl,?_⟩,.inr ⟨rfl,?_⟩⟩
      · have:=AgX h (k % d.C) (DA d.S s) (DA d.S (s+1)); show (lV d _ _ _).length≤_; omega
      · show lV d (k % d.C) _ _=lV d ((i*d.C+k % d.C) % d.C) _ _
        rw [hp.2]
  · have:=lY h f d.S.length
    show 0+(XV d f d.S.length).length≤_
    omega
theorem pT (h:cE d) (D:Nat→Nat):Live (d.ctx D) (eC (d.ctx D) (YR d)) (YR d):=by
  have hR:=h.R
  have hC:=h.C
  refine ⟨fun f t _ _=>BInv.empty (d.ctx D),fun k s hk Z=>?_,fun k hk=>⟨Nat.zero_le _,fun Y=>by have:=Y.2.1; cases this⟩,?_⟩
  · have hi:k / d.C<d.R:=Nat.div_lt_of_lt_mul (by rw [Nat.mul_comm]; exact hk)
    have U:k % d.C<d.C:=Nat.mod_lt _ (by omega)
    have G:s<d.S.length:=Z
    have O:d.S.getD s default=d.S[s]:=by simp [List.getD_eq_getElem?_getD,G]
    have W:=h.seg.row s G
    have V:=h.seg.col s G
    have J:∀ {w:Nat} {f:BL},f∈VP d w s++UG d w s→f∈XV d w d.S.length:=fun {w f} hf=>List.mem_flatMap.2 ⟨s,List.mem_range.2 G,hf⟩
    constructor
    · right
      have hp:=ZW (i:=k / d.C) (j:=d.S[s].Col.toNat) (C:=d.C) (by omega)
      refine ⟨k / d.C*d.C+d.S[s].Col.toNat,eG hi (by omega),.inl ⟨frL d (k / d.C*d.C+d.S[s].Col.toNat) s (k % d.C),J (List.mem_append.2 (.inl ?_)),rfl,?_,rfl⟩⟩
      · unfold VP
        rw [O,hp.2,if_pos (by omega)]
        exact List.mem_map.2 ⟨k % d.C,List.mem_range.2 U,rfl⟩
      · show (((k / d.C*d.C+d.S[s].Col.toNat) / d.C*d.C+k % d.C:Nat):Int)=_
        rw [hp.1,Nat.mul_comm (k / d.C) d.C,Nat.div_add_mod]
    · right
      have hp:=ZW (i:=d.S[s].Row.toNat) (j:=k % d.C) (C:=d.C) U
      refine ⟨d.S[s].Row.toNat*d.C+k % d.C,eG (by omega) U,.inl ⟨frR d (d.S[s].Row.toNat*d.C+k % d.C) s (k / d.C),J (List.mem_append.2 (.inr ?_)),rfl,?_,rfl⟩⟩
      · unfold UG
        rw [O,hp.1,if_pos (by omega)]
        exact List.mem_map.2 ⟨k / d.C,List.mem_range.2 hi,rfl⟩
      · show ((k / d.C*d.C+(d.S[s].Row.toNat*d.C+k % d.C) % d.C:Nat):Int)=_
        rw [hp.2,Nat.mul_comm (k / d.C) d.C,Nat.div_add_mod]
  · have e:eD (d.ctx D) (YR d)=0:=by
      unfold eD
      have e1:MA (fun f=>MA (fun t=>((YR d).bx f t).fs.length) (d.ctx D).n) (d.ctx D).n=MA (fun _=>0) (d.ctx D).n:=ER fun i hi=>by
        have:MA (fun t=>((YR d).bx i t).fs.length) (d.ctx D).n=MA (fun _=>0) (d.ctx D).n:=ER fun j U=>rfl
        rw [this,JO]; simp
      rw [e1,JO]; simp
    omega
theorem Af2 (h:cE d) {D:List Nat} {W:List (Nat×AA)} (hl:D.length=d.R*d.C) (hw:∀ k (hk:k<D.length),BN D[k] W=some (w0 d k (XV d k d.S.length))) :
    Rep (d.ctx fun i=>D.getD i 0) (YR d) { p:=d.p,stages:=d.S,workers:=D.map some,boxes:=[] } W []:=by
  refine ⟨rfl,rfl,?_,fun k hk=>?_,fun f t _=>rfl,fun q J=>(by cases J),fun f t b hb=>(by cases hb),fun q q' b J _=>(by cases J),List.nodup_nil,fun q J=>(by cases J)⟩
  · refine List.ext_getElem (by simp [Data.ctx,hl]) fun i Z h2=>?_
    simp only [List.length_map] at Z
    simp [Data.ctx,List.getD_eq_getElem?_getD,Z]
  · have U:k<D.length:=by rw [hl]; exact hk
    have e:D.getD k 0=D[k]:=by simp [List.getD_eq_getElem?_getD,U]
    refine ⟨w0 d k (XV d k d.S.length),?_,?_⟩
    · show BN (D.getD k 0) W=some _
      rw [e]; exact hw k U
    · have hz:UV d (k / d.C) (k % d.C) 0=[]:=by
        unfold UV FS
        rw [List.filterMap_eq_nil_iff]
        intro t ht
        have G:=wF h (k / d.C)
        have b2:=wG h (k % d.C)
        obtain ⟨_,Y,_⟩:=GI h.cA (l:=d.rl (k / d.C)) (u:=d.rl (k / d.C+1)) (c:=0) (d:=0) G.1 G.2.1 G.2.2 (by omega) (by omega) h.cA.c0
        obtain ⟨_,V,_⟩:=GI h.cM (l:=d.rl (k / d.C)) (u:=d.rl (k / d.C+1)) (c:=d.cl (k % d.C)) (d:=d.cl (k % d.C+1)) G.1 G.2.1 G.2.2 b2.1 b2.2.1 b2.2.2
        have O:=V.inn t ht
        unfold ZZ at O
        unfold IA
        show (NB d.r (iT d (k / d.C) 0 0) _ _ _).map _=none
        unfold iT
        rw [UE Y O.1]
        rfl
      exact ⟨rfl,rfl,rfl,rfl,rfl,Nat.zero_le _,hz.symm,fun s _=>rfl,fun s _=>rfl⟩
theorem Af3 (h:cE d) {i j:Nat} (hi:i<d.R) (hj:j<d.C) {Q:Rows→Prop} (O:Q (BM (d.rl (i+1) - d.rl i) (d.cl (j+1) - d.cl j) (bkM d i j))):SN (BM d.n d.q d.M) (d.R:Int) (d.C:Int) (i:Int) (j:Int) Q:=by
  have hR:=h.R
  have hC:=h.C
  have G:pJ (d.R:Int) (d.C:Int) (i:Int) (j:Int):=⟨⟨⟨by omega,by omega⟩,by omega,by omega⟩,⟨by omega,by omega⟩,by omega,by omega⟩
  refine rW h.cM ?_
  have D:=wF h i
  have b2:=wG h j
  obtain ⟨J,_,_⟩:=GI h.cM (l:=d.rl i) (u:=d.rl (i+1)) (c:=d.cl j) (d:=d.cl (j+1)) D.1 D.2.1 D.2.2 b2.1 b2.2.1 b2.2.2
  unfold AiH
  rw [if_pos G]
  have V:CY d.n (d.R:Int) ((i:Int)+1)=d.rl (i+1):=by unfold Data.rl; simp
  have U:CY d.q (d.C:Int) ((j:Int)+1)=d.cl (j+1):=by unfold Data.cl; simp
  rw [V,U]
  show Q (rD d.n d.q d.M (d.rl i,d.rl (i+1)) (d.cl j,d.cl (j+1)))
  rw [J]
  exact O
theorem AgY (U:DOk0 d) {o2:List (Nat×AF)} {Q0:(Int×List (Nat×AA))→Prop} {Q1:(Int×List (Nat×AA)×AC)→Prop}
    (hQ:∀ (S:List BJ) (D:List Nat) O,SegSp d.k d.R d.C d.k S→cE (d.wS S)→iS ((d.wS S).ctx fun i=>D.getD i 0)→Rep ((d.wS S).ctx fun i=>D.getD i 0) (YR (d.wS S)) { p:=d.p,stages:=S,workers:=D.map some,boxes:=[] } O []→Q1 (0,O,{ p:=d.p,stages:=S,workers:=D.map some,boxes:=[] })) :
    PY [] o2 d.p Q0 Q1:=by
  have hR:=U.R
  have hC:=U.C
  have hn:d.R*d.C≤64:=Nat.mul_le_mul hR.2 hC.2
  unfold PY
  refine wK U (AO rfl ?_)
  show LR d.k (d.R:Int) (d.C:Int) _
  refine wJ ⟨U.cA.c0,U.cA.c1⟩ hR hC fun S hS hSl=>?_
  have h:cE (d.wS S):=U.seg (hS.ok hSl)
  have ern:((d.R:Int)*(d.C:Int))=((d.R*d.C:Nat):Int):=by simp
  have ewn:AJ ((d.R:Int)*(d.C:Int))=((d.R*d.C:Nat):Int):=by rw [ern,BE (by omega) (by omega)]
  refine GQ (fun j (x:List (Option Nat)×Int×List (Nat×AA))=>∃ (D:List Nat) (O:List (Nat×AA)),x=(D.map some,(D.length:Int),O)∧D.length+j=d.R*d.C∧D.Nodup∧∀ k (hk:k<D.length),BN D[k] O=some (w0 (d.wS S) k (XV (d.wS S) k S.length))) (m0:=d.R*d.C) ⟨[],[],rfl,by simp,List.nodup_nil,fun k hk=>by simp at hk⟩ ?_
  rintro j _ next ⟨D,O,rfl,hj,hnd,hw⟩ hnext
  show AR (decide ((D.length:Int)<AJ ((d.R:Int)*(d.C:Int)))) _ _
  rw [ewn]
  refine AB (fun hk=>?_) (fun hk=>?_)
  · have G:D.length<d.R*d.C:=by omega
    generalize hkk:D.length=k at G hj hk
    have hi:k / d.C<d.R:=Nat.div_lt_of_lt_mul (by rw [Nat.mul_comm]; exact G)
    have hjc:k % d.C<d.C:=Nat.mod_lt _ (by omega)
    have V:UF (d.C:Int):=⟨by omega,by omega⟩
    have Z:k<8*d.C:=Nat.lt_of_lt_of_le G (Nat.mul_le_mul_right _ hR.2)
    show WA (d.C:Int) (k:Int) _
    refine iC V Z ?_
    show Y8 (d.C:Int) (k:Int) _
    refine vV V Z ?_
    show SN (BM d.n d.q d.M) (d.R:Int) (d.C:Int) ((k / d.C:Nat):Int) ((k % d.C:Nat):Int) _
    refine Af3 (d:=d.wS S) h hi hjc ?_
    refine GQ (fun j (t:Int×Int×Int×Int×(List Int)×(List Int)×(List Int)×(List BL)×(List (BC×(List AD)))×Int×(List AM)×Int)=>∃ s:Nat,t=pk (w0 (d.wS S) k (XV (d.wS S) k s)) (s:Int)∧s+j=S.length) (m0:=S.length) ⟨0,rfl,by omega⟩ ?_
    rintro j2 _ next2 ⟨s,rfl,hsj⟩ hnext2
    show AR (decide ((s:Int)<(S.length:Int))) _ _
    refine AB (fun hs=>?_) (fun hs=>?_)
    · have W:s<S.length:=by omega
      refine AW W ?_
      have hlen:=lY h k s
      refine AgU (d:=d.wS S) h (w:=k) (s:=s) G W (out:=XV (d.wS S) k s) (by omega) ?_
      have ew:AJ ((s:Int)+1)=((s+1:Nat):Int):=by rw [BE (by omega) (by omega)]; simp
      rw [ew,←fW]
      exact hnext2 (j2 - 1) _ (by omega) ⟨s+1,rfl,by omega⟩
    · have hse:s=S.length:=by omega
      subst hse
      intro b hb
      refine BA (by simp; omega) ?_
      have ew:AJ ((k:Int)+1)=(((D++[b]).length:Nat):Int):=by rw [BE (by omega) (by omega)]; simp [hkk]
      rw [ew]
      have J:∀ i (hi:i<D.length),D[i]≠b:=fun i hi e=>by have:=hw i hi; rw [e,hb] at this; cases this
      refine hnext (j - 1) _ (by omega) ⟨D++[b],_,by rw [List.map_append]; rfl,by simp; omega,?_,fun i hi=>?_⟩
      · rw [List.nodup_append]
        refine ⟨hnd,(by simp),fun a ha c hc e=>?_⟩
        rw [List.mem_singleton] at hc
        obtain ⟨i,hi,rfl⟩:=List.getElem_of_mem ha
        exact J i hi (e.trans hc)
      · simp only [List.length_append,List.length_singleton] at hi
        by_cases e:i<D.length
        · rw [List.getElem_append_left e,iD (J i e)]
          exact hw i e
        · have ei:i=k:=by omega
          subst ei
          have:(D++[b])[i]'(by simp; omega)=b:=by rw [List.getElem_append_right (by omega)]; simp
          rw [this,XB]
  · have hl:D.length=d.R*d.C:=by omega
    have Y:∀ i j,i<d.R*d.C→j<d.R*d.C→D.getD i 0=D.getD j 0→i=j:=fun i j hi hj e=>by
      have e1:D.getD i 0=D[i]'(by omega):=by simp [List.getD_eq_getElem?_getD,show i<D.length by omega]
      have e2:D.getD j 0=D[j]'(by omega):=by simp [List.getD_eq_getElem?_getD,show j<D.length by omega]
      rw [e1,e2] at e
      exact (List.getElem_inj hnd).1 e
    exact hQ S D O hS h (AiN h Y) (Af2 (d:=d.wS S) h hl hw)
end Go.Proofs.YtbohadngdkjljaaGreat
