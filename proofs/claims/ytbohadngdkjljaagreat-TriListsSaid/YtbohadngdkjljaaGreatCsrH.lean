import Derived.Test.YtbohadngdkjljaaGreatCsrC
namespace Go.Proofs.YtbohadngdkjljaaGreat
open Go Go.Fw
set_option linter.unusedVariables false
set_option linter.unusedSimpArgs false
theorem PM {f:Nat→Int} {n j:Nat} (h:j<n):((List.range n).map f)[j]? = some (f j):=by simp [h]
theorem yM {f:Nat→Int} {n j:Nat} {v:Int}:((List.range n).map f).set j v=(List.range n).map (fun i=>if i=j then v else f i):=by
  apply List.ext_getElem?
  intro i
  rw [List.getElem?_set]
  simp only [List.length_map,List.length_range]
  by_cases e:j=i
  · subst e
    by_cases h:j<n
    · rw [if_pos rfl,if_pos h,PM h,if_pos rfl]
    · rw [if_pos rfl,if_neg h,List.getElem?_eq_none (by simp; omega)]
  · rw [if_neg e]
    by_cases h:i<n
    · rw [PM h,PM h,if_neg (fun h=>e h.symm)]
    · rw [List.getElem?_eq_none (by simp; omega),List.getElem?_eq_none (by simp; omega)]
theorem UA {f g:Nat→Int} {n:Nat} (h:∀ j,j<n→f j=g j):(List.range n).map f=(List.range n).map g:=List.map_congr_left fun j D=>h j (by simpa using D)
def FJ (h:List AD) (j:Nat):Int:=((h.countP (fun t:AD=>decide (t.Row<(j:Int))):Nat):Int)
def WJ (h:List AD) (j:Nat):Int:=((h.countP (fun t:AD=>decide (t.Row+1=(j:Int))):Nat):Int)
theorem yN (h:List AD) (t:AD) (j:Nat):FJ (h++[t]) j=FJ h j+if t.Row<j then 1 else 0:=by
  unfold FJ; rw [List.countP_append,List.countP_singleton]; simp only [decide_eq_true_eq]; split <;> simp
theorem yO (h:List AD) (t:AD) (j:Nat):WJ (h++[t]) j=WJ h j+if t.Row+1=j then 1 else 0:=by
  unfold WJ; rw [List.countP_append,List.countP_singleton]; simp only [decide_eq_true_eq]; split <;> simp
theorem YH (h:List AD) (j:Nat):0≤FJ h j∧FJ h j≤h.length:=by
  unfold FJ; have:=List.countP_le_length (p:=fun t:AD=>decide (t.Row<(j:Int))) (l:=h); omega
theorem dL (h:List AD) (j:Nat):0≤WJ h j∧WJ h j≤h.length:=by
  unfold WJ; have:=List.countP_le_length (p:=fun t:AD=>decide (t.Row+1=(j:Int))) (l:=h); omega
theorem X3 (j:Nat):∀ (D:List AD),(∀ t∈D,0≤t.Row)→FJ D (j+1)=FJ D j+WJ D (j+1)
  | [],_=>rfl
  | t :: D,h=>by
    have:=X3 j D fun x O=>h x (by simp [O])
    unfold FJ WJ at *
    simp only [List.countP_cons]
    have h0:=h t (by simp)
    by_cases h1:t.Row<j
    · have G:t.Row<(j+1:Nat):=by omega
      have J:¬t.Row+1=((j+1:Nat):Int):=by omega
      simp only [h1,G,J,decide_true,decide_false,if_true,if_false]; simp only [Bool.false_eq_true,if_false]; omega
    · by_cases h4:t.Row+1=((j+1:Nat):Int)
      · have G:t.Row<(j+1:Nat):=by omega
        simp only [h1,G,h4,decide_true,decide_false,if_true,if_false]; simp only [Bool.false_eq_true,if_false]; omega
      · have G:¬t.Row<(j+1:Nat):=by omega
        simp only [h1,G,h4,decide_true,decide_false,if_true,if_false]; simp only [Bool.false_eq_true,if_false]; omega
def BM (h D:Int) (G:List AD):Rows:=⟨h,D,(List.range (h.toNat+1)).map (FJ G),G.map (·.Col),G.map (·.Val)⟩
theorem oZ (n:Nat):List.replicate n (0:Int)=(List.range n).map fun _=>0:=by
  apply List.ext_getElem?
  intro i
  by_cases h:i<n
  · rw [PM h]; simp [h]
  · rw [List.getElem?_eq_none (by simp; omega),List.getElem?_eq_none (by simp; omega)]
theorem kY {G J:Int} {D:List AD} {Q:Rows→Prop} (h0:0≤G) (h1:G≤1000000) (hl:D.length≤1000000) (U:∀ t∈D,0≤t.Row∧t.Row<G) (Z:Q (BM G J D)):PA G J D Q:=by
  unfold PA WB
  obtain ⟨n,rfl⟩:∃ n:Nat,G=n:=⟨G.toNat,by omega⟩
  have e:AJ ((n:Int)+1)=(n+1:Nat):=by rw [BE (by omega) (by omega)]; omega
  rw [e]
  refine ⟨by omega,by omega,?_⟩
  simp only [Int.toNat_natCast]
  rw [oZ]
  refine AV (fun (s:List Int×List Int×List Int) i=>(s.1,s.2.1,s.2.2,i)) 0 D.length (s0:=((List.range (n+1)).map fun _=>0,[],[])) (by omega) (fun i s=>s=((List.range (n+1)).map (WJ (D.take i)),(D.take i).map (·.Col),(D.take i).map (·.Val))) (by omega) (by simp [WJ]) (fun i s next _ hi O V=>?_) (fun s next O=>?_)
  · subst O
    dsimp only
    have hr:=U _ (List.getElem_mem hi)
    refine AB (fun _=>?_) (fun h=>by omega)
    refine AW hi ?_
    obtain ⟨q,hq⟩:∃ q:Nat,D[i].Row=q:=⟨D[i].Row.toNat,by omega⟩
    have W:AJ (D[i].Row+1)=(q+1:Nat):=by rw [BE (by omega) (by omega)]; omega
    rw [W]
    have hc:=dL (D.take i) (q+1)
    have htl:(D.take i).length≤D.length:=by simp; omega
    refine AP (by omega) (PM (by omega)) (AP (by omega) (PM (by omega)) (BA (by simp; omega) (BA (by simp; omega) (V ((List.range (n+1)).map (WJ (D.take (i+1))),(D.take (i+1)).map (·.Col),(D.take (i+1)).map (·.Val)) rfl |> cast ?_))))
    congr 1
    simp only [Int.toNat_natCast]
    rw [yM,EQ hi,EQ hi]
    refine Prod.ext (UA fun j Y=>?_) rfl
    rw [List.take_succ_eq_append_getElem hi,yO]
    by_cases ej:j=q+1
    · subst ej; rw [if_pos (by omega),if_pos rfl,BE (by omega) (by omega)]
    · rw [if_neg (by omega),if_neg ej]; omega
  · subst O
    dsimp only
    refine AB (fun h=>by omega) (fun _=>?_)
    simp only [List.take_length]
    refine AV (fun (s:List Int) i=>(s,i)) 0 n (by omega) (fun i s=>s=(List.range (n+1)).map fun j=>if j≤i then FJ D j else WJ D j) (by omega) (UA fun j Y=>?_) (fun i s next _ hi O V=>?_) (fun s next O=>?_)
    · by_cases ej:j≤0
      · rw [if_pos ej,show j=0 by omega]
        have:∀ t∈D,¬t.Row<((0:Nat):Int):=fun t h=>by have:=U t h; omega
        have h2:∀ t∈D,¬t.Row+1=((0:Nat):Int):=fun t h=>by have:=U t h; omega
        unfold WJ FJ
        rw [List.countP_eq_zero.2 (by simpa using h2),List.countP_eq_zero.2 (by simpa using this)]
      · rw [if_neg ej]
    · subst O
      refine AB (fun _=>?_) (fun h=>by omega)
      have W:AJ ((i:Int)+1)=(i+1:Nat):=by rw [BE (by omega) (by omega)]; omega
      rw [W] at V ⊢
      refine AP (by omega) (PM (by omega)) (AP (by omega) (PM (by omega)) (AP (by omega) (PM (by omega)) (V _ ?_)))
      simp only [Int.toNat_natCast]
      rw [yM]
      refine UA fun j Y=>?_
      have hb1:=YH D i
      have hb2:=dL D (i+1)
      rw [if_neg (show ¬i+1≤i by omega),if_pos (Nat.le_refl i),BE (by omega) (by omega)]
      by_cases ej:j=i+1
      · subst ej; rw [if_pos rfl,if_pos (Nat.le_refl _),X3 i D fun t h=>(U t h).1]; omega
      · rw [if_neg ej]
        by_cases h:j≤i
        · rw [if_pos h,if_pos (by omega)]
        · rw [if_neg h,if_neg (by omega)]
    · subst O
      refine AB (fun h=>by omega) (fun _=>?_)
      rw [UA (g:=FJ D) fun j Y=>if_pos (by omega)]
      exact Z
theorem rB {D J:Int} {G:List AD} {Q:Rows→Prop} (h0:0≤D) (h1:D≤1000000) (hl:G.length≤1000000) (V:∀ t∈G,0≤t.Row∧t.Row<D) (W:Q (BM D J G)):VA D J G Q:=by
  unfold VA Y7
  obtain ⟨n,rfl⟩:∃ n:Nat,D=n:=⟨D.toNat,by omega⟩
  have e:AJ ((n:Int)+1)=(n+1:Nat):=by rw [BE (by omega) (by omega)]; omega
  rw [e]
  refine ⟨by omega,by omega,?_⟩
  simp only [Int.toNat_natCast]
  rw [oZ]
  refine AV (fun (s:List Int×List Int×List Int) i=>(s.1,s.2.1,s.2.2,i)) 0 G.length (s0:=((List.range (n+1)).map fun _=>0,[],[])) (by omega) (fun i s=>s=((List.range (n+1)).map (FJ (G.take i)),(G.take i).map (·.Col),(G.take i).map (·.Val))) (by omega) (by simp [FJ]) (fun i s next _ hi O Z=>?_) (fun s next O=>?_)
  · subst O
    dsimp only
    have hr:=V _ (List.getElem_mem hi)
    refine AB (fun _=>?_) (fun h=>by omega)
    refine AW hi (BA (by simp; omega) (AW hi (BA (by simp; omega) (AW hi ?_))))
    obtain ⟨q,hq⟩:∃ q:Nat,G[i].Row=q:=⟨G[i].Row.toNat,by omega⟩
    have Y:AJ (G[i].Row+1)=(q+1:Nat):=by rw [BE (by omega) (by omega)]; omega
    rw [Y]
    have htl:(G.take i).length≤G.length:=by simp; omega
    refine AV (fun (s:List Int) j=>(s,j)) (q+1) (n+1) (by omega) (fun j s=>s=(List.range (n+1)).map fun p=>FJ (G.take i) p+if q+1≤p∧p<j then 1 else 0) (by omega) (UA fun j hj=>by rw [if_neg (by omega)]; omega) (fun j s next hj1 hj2 O U=>?_) (fun s next O=>?_)
    · subst O
      refine AB (fun _=>?_) (fun h=>by omega)
      have hb:=YH (G.take i) j
      refine AP (by omega) (PM (by omega)) (AP (by omega) (PM (by omega)) (U _ ?_))
      simp only [Int.toNat_natCast]
      rw [yM]
      refine UA fun p hp=>?_
      rw [if_neg (show ¬(q+1≤j∧j<j) by omega),BE (by omega) (by omega)]
      by_cases ep:p=j
      · subst ep; rw [if_pos rfl,if_pos (by omega)]; omega
      · rw [if_neg ep]
        by_cases h:q+1≤p∧p<j
        · rw [if_pos h,if_pos (by omega)]
        · rw [if_neg h,if_neg (by omega)]
    · subst O
      refine AB (fun h=>by omega) (fun _=>?_)
      refine Z ((List.range (n+1)).map (FJ (G.take (i+1))),(G.take (i+1)).map (·.Col),(G.take (i+1)).map (·.Val)) rfl |> cast ?_
      congr 1
      simp only
      rw [EQ hi,EQ hi]
      refine Prod.ext (UA fun p hp=>?_) rfl
      rw [List.take_succ_eq_append_getElem hi,yN]
      by_cases h:q+1≤p
      · rw [if_pos (by omega),if_pos (by omega)]
      · rw [if_neg (by omega),if_neg (by omega)]
  · subst O
    dsimp only
    refine AB (fun h=>by omega) (fun _=>?_)
    simp only [List.take_length]
    exact W
def zR:Rows:=⟨0,0,[],[],[]⟩
def ZZ (h D:Int) (t:AD):Prop:=0≤t.Row∧t.Row<h∧0≤t.Col∧t.Col<D
instance (h D:Int) (t:AD):Decidable (ZZ h D t):=by unfold ZZ; infer_instance
def ofS (r h D:Int) (G:List AD):Rows×Int:=
  if ¬(1≤r∧r≤5) then (zR,8)
  else if ¬(0≤h∧h≤4096∧0≤D∧D≤4096) then (zR,3)
  else if 65536<G.length then (zR,5)
  else if ¬ ∀ t∈G,ZZ h D t then (zR,3)
  else if (MT (SC r (G.map uO)) uP).2≠0 then (zR,(MT (SC r (G.map uO)) uP).2)
  else (BM h D (MT (SC r (G.map uO)) uP).1,0)
theorem AaS {r:Int}:∀ {D:List (FI×Int)} {p:FI×AN},p∈SC r D→∃ t∈D,t.1=p.1:=by
  suffices ∀ (D:List (FI×Int)) (l:List (FI×AN)) p,p∈D.foldl (fun l t=>ins r t.1 (LI t.2) l) l→(∃ t∈D,t.1=p.1)∨∃ q∈l,q.1=p.1 from fun {D p} h=>by
    rcases this D [] p h with h | ⟨q,J,_⟩
    · exact h
    · simp at J
  intro D
  induction D with
  | nil=>intro l p h; exact .inr ⟨p,h,rfl⟩
  | cons t D V=>
    intro l p h
    rcases V _ _ h with ⟨x,U,e⟩ | ⟨q,J,e⟩
    · exact .inl ⟨x,by simp [U],e⟩
    · rcases kV J with G | ⟨y,O,G⟩
      · exact .inl ⟨t,by simp,by rw [←e,G]⟩
      · exact .inr ⟨y,O,by rw [G,e]⟩
theorem Ai5 {r D G:Int} {O:List AD} (h:∀ t∈O,ZZ D G t):∀ t∈(MT (SC r (O.map uO)) uP).1,ZZ D G t:=by
  intro t J
  unfold MT at J
  split at J
  · obtain ⟨p,hp,rfl⟩:=List.mem_map.1 J
    obtain ⟨x,V,e⟩:=AaS hp
    obtain ⟨y,U,rfl⟩:=List.mem_map.1 V
    have:=h y U
    unfold ZZ uP at *
    rw [←e]
    exact this
  · simp at J
theorem AaT {α:Type} {mk:FI→Int→α} (l:List (FI×AN)):(MT l mk).1.length≤l.length:=by
  unfold MT; split <;> simp
theorem JM {x y:Int} {Q:Bool→Prop} (D:Q (decide (0≤x∧x≤y))):GM x y Q:=by
  unfold GM
  refine AB (fun h=>?_) (fun h=>?_)
  · rwa [show decide (x≤y)=decide (0≤x∧x≤y) by apply decide_eq_decide.2; omega]
  · rwa [show decide (0≤x∧x≤y)=false by apply decide_eq_false; omega] at D
theorem AdP {r G D:Int} {O:List AD} {Q:Rows×Int→Prop} (hl:O.length≤1000000000000) (hv:∀ t∈O,FL t.Val) (J:Q (ofS r G D O)):TM r G D O Q:=by
  unfold TM
  unfold ofS at J
  refine KQ (CP (fun h=>?_) (fun h=>?_))
  · rw [if_pos (by simpa using h)] at J; exact J
  have hr:1≤r∧r≤5:=by simpa using h
  rw [if_neg (by simpa using hr)] at J
  refine DP (fun b=>b=decide (¬(0≤G∧G≤4096∧0≤D∧D≤4096))) ?_ fun k hk=>?_
  · rintro _ rfl
    refine AB (fun h=>?_) (fun h=>?_)
    · rw [if_pos h] at J; exact J
    have hrc:0≤G∧G≤4096∧0≤D∧D≤4096:=by simpa using h
    rw [if_neg h] at J
    refine AB (fun h=>?_) (fun h=>?_)
    · rw [if_pos (by omega)] at J; exact J
    rw [if_neg (by omega)] at J
    have e1:AJ (G - 1)=G - 1:=BE (by omega) (by omega)
    have e2:AJ (D - 1)=D - 1:=BE (by omega) (by omega)
    unfold CS DD
    refine DC O.length (by omega) (fun i=>∀ (j:Nat) (Z:j<O.length),j<i→ZZ G D O[j]) (by simp) (fun i next hi hR hn=>?_) (fun next hR=>?_)
    · refine AB (fun _=>?_) (fun h=>by omega)
      refine AW hi ?_
      unfold WZ
      rw [e1,e2]
      have hbad (h:¬ZZ G D O[i]):AR (decide (0≤(i:Int))) (Q (zR,3)) (TL r O fun U=>AR (U.2 != 0) (Q (zR,U.2)) (PA G D U.1 fun W=>Q (W,0))):=by
        refine AB (fun _=>?_) (fun h=>by omega)
        rw [if_pos (fun h'=>h (h' _ (List.getElem_mem hi)))] at J; exact J
      refine JM (CP (fun h=>AX rfl (hbad ?_)) (fun h=>JM (CP (fun h2=>hbad ?_) (fun h2=>hn fun j Z hji=>?_))))
      · unfold ZZ; simp at h; omega
      · unfold ZZ; simp at h2; omega
      · by_cases e:j=i
        · subst e; unfold ZZ; simp at h h2; omega
        · exact hR j Z (by omega)
    · refine AB (fun h=>by omega) (fun _=>AO (by decide) ?_)
      have V:∀ t∈O,ZZ G D t:=by
        intro t Y
        obtain ⟨j,Z,rfl⟩:=List.getElem_of_mem Y
        exact hR j Z Z
      rw [if_neg (by simpa using V)] at J
      have hlen:(SC r (O.map uO)).length≤65536:=by
        have:=(RZ r (O.map uO) (fun t Y=>by obtain ⟨x,hx,rfl⟩:=List.mem_map.1 Y; exact hv x hx)).1
        simp at this; omega
      refine AbW (by omega) hv (FF (fun h=>?_) (fun h=>kY (by omega) (by omega) ?_ ?_ ?_))
      · rw [if_pos h] at J; exact J
      · exact Nat.le_trans (AaT _) (by omega)
      · intro t Y
        have:=Ai5 V t Y
        unfold ZZ at this; omega
      · rw [if_neg (by simpa using h)] at J; exact J
  · refine JM (CP (fun h=>hk _ ?_) (fun h=>JM (hk _ ?_)))
    · symm; apply decide_eq_true; simp at h; omega
    · simp at h
      by_cases h2:0≤D∧D≤4096 <;> simp [h2,h]
def e2t (e:AL):AD:=⟨e.From,e.To,e.W⟩
theorem AjT (l:List (FI×AN)):(MT l uP).1=(MT l yL).1.map e2t∧(MT l uP).2=(MT l yL).2:=by
  unfold MT
  split
  · exact ⟨by simp only [List.map_map]; rfl,rfl⟩
  · exact ⟨rfl,rfl⟩
theorem pA {α:Type} [BEq α] [LawfulBEq α] [DecidableEq α] {xs ys:List α} {Q:Bool→Prop} (W:xs.length≤1000000000000) (O:Q (decide (xs=ys))) :
    AR ((xs.length:Int) != (ys.length:Int)) (Q false) (BB (fun (s:Int) (next:Int→Prop)=>AR (decide (s<(xs.length:Int))) (AY xs s fun x=>AY ys s fun y=>AR (x != y) (Q false) (next (AJ (s+1)))) (Q true)) 0):=by
  refine FF (fun h=>?_) (fun h=>?_)
  · rwa [decide_eq_false (fun e=>h (by rw [e]))] at O
  have h:xs.length=ys.length:=by omega
  refine DC xs.length W (fun i=>∀ (j:Nat) (D:j<xs.length) (G:j<ys.length),j<i→xs[j]=ys[j]) (by simp) (fun i next hi J U=>?_) (fun next J=>?_)
  · refine AB (fun _=>?_) (fun h=>by omega)
    refine AW hi (AW (by omega) (FF (fun e=>?_) (fun e=>U fun j D G hj=>?_)))
    · rwa [decide_eq_false (fun V=>e (by subst V; rfl))] at O
    · by_cases ej:j=i
      · subst ej; exact e
      · exact J j D G (by omega)
  · refine AB (fun h=>by omega) (fun _=>?_)
    rwa [decide_eq_true (List.ext_getElem h fun j D G=>J j D G D)] at O
theorem AdQ {xs ys:List Int} {Q:Bool→Prop} (D:xs.length≤1000000000000) (h:Q (decide (xs=ys))):FB xs ys Q:=by unfold FB; exact pA D h
theorem Ai6 {xs ys:List Int} {Q:Bool→Prop} (D:xs.length≤1000000000000) (h:Q (decide (xs=ys))):NS xs ys Q:=by unfold NS; exact pA D h
def small (a:Rows):Prop:=a.Start.length≤1000000000000∧a.Col.length≤1000000000000∧a.Val.length≤1000000000000
theorem AaU (a b:Rows):a=b↔a.Rows=b.Rows∧a.Cols=b.Cols∧a.Start=b.Start∧a.Col=b.Col∧a.Val=b.Val:=by
  cases a; cases b; simp
theorem YI {a b:Rows} {Q:Bool→Prop} (Y:small a) (O:Q (decide (a=b))):IX a b Q:=by
  unfold IX
  obtain ⟨W,V,Z⟩:=Y
  have hno (h:¬a=b):Q false:=by rwa [decide_eq_false h] at O
  simp only [AaU] at hno
  refine CC (fun G=>CC (fun U=>AdQ W (AB (fun D=>AdQ V (AB (fun J=>Ai6 Z ?_) (fun h=>?_))) (fun h=>?_))) (fun h=>?_)) (fun h=>?_)
  · rwa [show decide (a.Val=b.Val)=decide (a=b) by apply decide_eq_decide.2; rw [AaU]; simp [G,U,D,J]]
  all_goals exact hno (by simp_all)
def AjU (a:Rows) (i:Nat):Prop:=∀ j:Nat,FG a.Start i≤j→(j:Int)<FG a.Start ((i:Int)+1)→0≤FG a.Col j∧FG a.Col j<a.Cols∧(FG a.Start i<j→FG a.Col ((j:Int) - 1)<FG a.Col j)
structure X4 (a:Rows):Prop where
  r0:0≤a.Rows
  r1:a.Rows≤4096
  c0:0≤a.Cols
  c1:a.Cols≤4096
  sl:(a.Start.length:Int)=a.Rows+1
  vl:a.Val.length=a.Col.length
  cl:a.Col.length≤65536
  s0:FG a.Start 0=0
  sn:FG a.Start a.Rows=a.Col.length
  up:∀ i:Nat,(i:Int)<a.Rows→FG a.Start i≤FG a.Start ((i:Int)+1)
  row:∀ i:Nat,(i:Int)<a.Rows→AjU a i
noncomputable instance (a:Rows):Decidable (X4 a):=Classical.propDecidable _
theorem AhH {a:Rows} {n:Nat} (h:∀ i:Nat,i<n→FG a.Start i≤FG a.Start ((i:Int)+1)) {i j:Nat} (h1:i≤j) (h2:j≤n):FG a.Start i≤FG a.Start j:=by
  induction j with
  | zero => have : i = 0 := by omega
            subst this; exact Int.le_refl _
  | succ j D=>
    by_cases e:i=j+1
    · subst e; exact Int.le_refl _
    · have:=D (by omega) (by omega)
      have h3:=h j (by omega)
      have:((j+1:Nat):Int)=(j:Int)+1:=by omega
      rw [this]; omega
theorem Ag1 {x y:Int} {Q:Bool→Prop} (h:Q (decide (x<y))):RS x y Q:=by
  unfold RS HN
  exact AO (by simp) h
theorem uR {xs:List Int} {Q:Bool→Prop} (hl:xs.length≤1000000000) (J:(∀ i:Nat,i+1<xs.length→FG xs i≤FG xs ((i:Int)+1))→Q true) (U:(∃ i:Nat,i+1<xs.length∧¬FG xs i≤FG xs ((i:Int)+1))→Q false):FU xs Q:=by
  unfold FU
  rw [BE (by omega) (by omega)]
  by_cases h0:xs.length=0
  · refine EB (fun s:Int=>s = -1) (fun _=>0) (by omega) (fun s next V O=>?_)
    subst V
    exact AB (fun h=>by omega) (fun _=>J fun i hi=>by omega)
  refine EB (fun s:Int=>∃ j:Nat,s=j∧j<xs.length∧∀ i:Nat,j≤i→i+1<xs.length→FG xs i≤FG xs ((i:Int)+1)) (fun s=>s.toNat) ⟨xs.length - 1,by omega,by omega,fun i hi h=>by omega⟩ ?_
  rintro _ next ⟨j,rfl,hj,G⟩ O
  refine AB (fun h=>?_) (fun h=>J fun i hi=>G i (by omega) hi)
  obtain ⟨j,rfl⟩:∃ q,j=q+1:=⟨j - 1,by omega⟩
  have e:AJ (((j+1:Nat):Int) - 1)=(j:Int):=by rw [BE (by omega) (by omega)]; omega
  rw [e]
  refine EF (by omega) (by omega) (EF (by omega) (by omega) (Ag1 (AB (fun D=>U ⟨j,by omega,?_⟩) (fun D=>O _ ⟨j,rfl,by omega,fun i hi h=>?_⟩ (by omega)))))
  · have:((j+1:Nat):Int)=(j:Int)+1:=by omega
    rw [this] at D; omega
  · by_cases e:i=j
    · subst e
      have:((i+1:Nat):Int)=(i:Int)+1:=by omega
      rw [this] at D; omega
    · exact G i (by omega) h
theorem Ag2 {xs:List Int} {lo hi:Int} {j:Nat} (h0:0≤lo) (h1:lo≤hi) (h2:hi≤xs.length) (hj:lo+j<hi):FG ((xs.take hi.toNat).drop lo.toNat) j=FG xs (lo+j):=by
  unfold FG
  simp only [List.getD_eq_getElem?_getD,List.getElem?_drop,Int.toNat_natCast]
  rw [List.getElem?_take_of_lt (by omega)]
  congr 2; omega
theorem Ag3 {α:Type} {xs:List α} {lo hi:Int} (h0:0≤lo) (h1:lo≤hi) (h2:hi≤xs.length):((xs.take hi.toNat).drop lo.toNat).length=(hi - lo).toNat:=by
  simp only [List.length_drop,List.length_take]; omega
theorem Ai7 {xs:List Int} {D:Int} {Q:Bool→Prop} (Z:0≤D) (hc1:D≤4096) (hl:xs.length≤1000000000)
    (h1:(∀ j:Nat,j<xs.length→0≤FG xs j∧FG xs j<D∧(0<j→FG xs ((j:Int) - 1)<FG xs j))→Q true) (W:(∃ j:Nat,j<xs.length∧¬(0≤FG xs j∧FG xs j<D∧(0<j→FG xs ((j:Int) - 1)<FG xs j)))→Q false):jJ xs D Q:=by
  unfold jJ
  rw [BE (by omega) (by omega)]
  refine DC xs.length (by omega) (fun i=>∀ j:Nat,j<i→j<xs.length→0≤FG xs j∧FG xs j<D∧(0<j→FG xs ((j:Int) - 1)<FG xs j)) (by simp) (fun i next hi G hn=>?_) (fun next G=>?_)
  · refine AB (fun _=>?_) (fun h=>by omega)
    refine EF (by omega) (by omega) (JM (CP (fun h=>W ⟨i,hi,fun V=>?_⟩) (fun h=>?_)))
    · simp at h; omega
    have h:0≤FG xs i∧FG xs i≤D - 1:=by simpa using h
    have hstep (hx:0<i→FG xs ((i:Int) - 1)<FG xs i):next (AJ ((i:Int)+1)):=hn fun j O J=>by
      by_cases e:j=i
      · subst e; exact ⟨h.1,by omega,hx⟩
      · exact G j (by omega) J
    refine AB (fun Y=>?_) (fun Y=>hstep fun h=>by omega)
    rw [BE (by omega) (by omega)]
    refine EF (by omega) (by omega) (AB (fun U=>W ⟨i,hi,fun V=>?_⟩) (fun U=>hstep fun _=>by omega))
    have:=V.2.2 (by omega); omega
  · exact AB (fun h=>by omega) (fun _=>h1 fun j O=>G j O O)
theorem dM {a:Rows} {Q:Bool→Prop} (hl:small a) (hQ:Q (decide (X4 a))):HV a Q:=by
  unfold HV
  have hno (h:¬X4 a):Q false:=by rwa [decide_eq_false h] at hQ
  have hyes (h:X4 a):Q true:=by rwa [decide_eq_true h] at hQ
  unfold small at hl
  refine JM (CP (fun h=>hno fun D=>?_) (fun h=>?_))
  · have:=D.r0; have:=D.r1; simp at h; omega
  have h1:0≤a.Rows∧a.Rows≤4096:=by simpa using h
  refine JM (CP (fun h=>hno fun D=>?_) (fun h=>?_))
  · have:=D.c0; have:=D.c1; simp at h; omega
  have h2:0≤a.Cols∧a.Cols≤4096:=by simpa using h
  rw [BE (by omega) (by omega)]
  refine FF (fun h=>hno fun D=>h D.sl) (fun h3=>?_)
  refine FF (fun h=>hno fun D=>h (by rw [D.vl])) (fun h4=>?_)
  refine AB (fun h=>hno fun D=>by have:=D.cl; omega) (fun h5=>?_)
  refine EF (by omega) (by omega) (FF (fun h=>hno fun D=>h D.s0) (fun h6=>?_))
  refine EF (by omega) (by omega) (FF (fun h=>hno fun D=>h D.sn) (fun h7=>?_))
  obtain ⟨n,hn⟩:∃ n:Nat,a.Rows=n:=⟨a.Rows.toNat,by omega⟩
  have hsl:a.Start.length=n+1:=by omega
  refine uR (by omega) (fun hup=>AO rfl ?_) (fun hb=>AX rfl (hno fun D=>?_))
  rotate_left
  · obtain ⟨i,hi,J⟩:=hb
    exact J (D.up i (by omega))
  have G:∀ i:Nat,i<n→FG a.Start i≤FG a.Start ((i:Int)+1):=fun i hi=>hup i (by omega)
  rw [hn] at h7 ⊢
  refine DC n (by omega) (fun i=>∀ j:Nat,j<i→AjU a j) (by simp) (fun i next hi hR Z=>?_) (fun next hR=>?_)
  · refine AB (fun _=>?_) (fun h=>by omega)
    have e1:AJ ((i:Int)+1)=(i:Int)+1:=BE (by omega) (by omega)
    rw [e1] at Z ⊢
    have W:0≤FG a.Start i:=by have:=AhH G (i:=0) (j:=i) (by omega) (by omega); rw [show ((0:Nat):Int)=0 from rfl,h6] at this; exact this
    have Y:FG a.Start ((i:Int)+1)≤a.Col.length:=by
      have:=AhH G (i:=i+1) (j:=n) (by omega) (by omega)
      rw [h7,show ((i+1:Nat):Int)=(i:Int)+1 by omega] at this; exact this
    have hm:=G i hi
    refine EF (by omega) (by omega) (EF (by omega) (by omega) ⟨W,hm,Y,?_⟩)
    have O:=Ag3 W hm Y
    have U:∀ j:Nat,FG a.Start i+j<FG a.Start ((i:Int)+1)→FG ((a.Col.take (FG a.Start ((i:Int)+1)).toNat).drop (FG a.Start i).toNat) j=FG a.Col (FG a.Start i+j):=fun j hj=>Ag2 W hm Y hj
    refine Ai7 (by omega) (by omega) (by rw [O]; omega) (fun hall=>AO rfl (Z fun j hj=>?_)) (fun hb=>AX rfl (hno fun D=>?_))
    · by_cases e:j=i
      · subst e
        intro p hp1 hp2
        obtain ⟨q,hq⟩:∃ q:Nat,(p:Int)=FG a.Start j+q:=⟨(p - FG a.Start j).toNat,by omega⟩
        have V:=hall q (by rw [O]; omega)
        rw [U q (by omega),←hq] at V
        refine ⟨V.1,V.2.1,fun hlt=>?_⟩
        have:=V.2.2 (by omega)
        rw [show (q:Int) - 1=((q - 1:Nat):Int) by omega,U (q - 1) (by omega),show FG a.Start j+((q - 1:Nat):Int)=(p:Int) - 1 by omega] at this
        exact this
      · exact hR j (by omega)
    · obtain ⟨q,hq,J⟩:=hb
      rw [O] at hq
      apply J
      have V:=D.row i (by omega) (FG a.Start i+q).toNat (by omega) (by omega)
      have ep:(((FG a.Start i+q).toNat:Nat):Int)=FG a.Start i+q:=by omega
      rw [ep] at V
      rw [U q (by omega)]
      refine ⟨V.1,V.2.1,fun h0=>?_⟩
      have:=V.2.2 (by omega)
      rw [show (q:Int) - 1=((q - 1:Nat):Int) by omega,U (q - 1) (by omega),show FG a.Start i+((q - 1:Nat):Int)=FG a.Start i+q - 1 by omega]
      exact this
  · refine AB (fun h=>by omega) (fun _=>hyes ⟨h1.1,h1.2,h2.1,h2.2,h3,by omega,by omega,h6,by rw [hn]; exact h7,fun i hi=>G i (by omega),fun i hi=>hR i (by omega)⟩)
def key (t:AD):FI:=(t.Row,t.Col)
def Srt (h:List AD):Prop:=h.Pairwise fun a b=>NK (key a) (key b)
structure Canon (rows cols:Int) (ts:List AD):Prop where
  r0:0≤rows
  r1:rows≤4096
  c0:0≤cols
  c1:cols≤4096
  len:ts.length≤65536
  srt:Srt ts
  inn:∀ t∈ts,ZZ rows cols t
theorem kZ {α:Type} {q:α→Bool}:∀ {l:List α},l.Pairwise (fun a b=>q b=true→q a=true)→∀ (i:Nat) (h:i<l.length),(q l[i]=true↔i<l.countP q)
  | [],_,i,h=>by simp at h
  | a :: l,hp,i,h=>by
    rw [List.pairwise_cons] at hp
    rw [List.countP_cons]
    by_cases ha:q a=true
    · rw [if_pos ha]
      cases i with
      | zero=>simp [ha]
      | succ i=>
        have:=kZ hp.2 i (by simpa using h)
        simp only [List.getElem_cons_succ]
        rw [this]; omega
    · rw [if_neg ha]
      have G:l.countP q=0:=List.countP_eq_zero.2 fun b J D=>ha (hp.1 b J D)
      rw [G]
      refine ⟨fun D=>absurd ?_ ha,fun h=>by omega⟩
      cases i with
      | zero=>exact D
      | succ i=>exact hp.1 _ (List.getElem_mem _) D
theorem Srt.row {D:List AD} (h:Srt D) (v:Nat) (p:Nat) (hp:p<D.length):D[p].Row<v↔(p:Int)<FJ D v:=by
  have:=kZ (q:=fun t:AD=>decide (t.Row<(v:Int))) (l:=D) (List.Pairwise.imp (fun {a b} G=>by
    simp only [decide_eq_true_eq]
    unfold NK key at G
    simp only at G
    omega) h) p hp
  simp only [decide_eq_true_eq] at this
  rw [this]; unfold FJ; omega
theorem Ai8 {f:Nat→Int} {n:Nat} {i:Int} (h0:0≤i) (h:i<n):FG ((List.range n).map f) i=f i.toNat:=by
  unfold FG
  rw [List.getD_eq_getElem?_getD,PM (by omega)]; rfl
theorem AaV {α:Type} {f:α→Int} {xs:List α} {i:Int} (h0:0≤i) (h:i<xs.length):FG (xs.map f) i=f (xs[i.toNat]'(by omega)):=by
  unfold FG
  simp [List.getD_eq_getElem?_getD,show i.toNat<xs.length by omega]
theorem YJ {D G:Int} {J:List AD} {i:Int} (O:0≤i) (h:i≤D):FG (BM D G J).Start i=FJ J i.toNat:=Ai8 O (by omega)
theorem fI {D G:Int} {J:List AD} (h:Canon D G J):FJ J D.toNat=J.length:=by
  have h0:=h.r0
  unfold FJ
  rw [List.countP_eq_length.2]
  intro t O
  have:=h.inn t O
  unfold ZZ at this
  simp; omega
theorem bL {D:List AD} (h:∀ t∈D,0≤t.Row):FJ D 0=0:=by
  unfold FJ
  rw [List.countP_eq_zero.2]; · rfl
  intro t G
  have:=h t G
  simp; omega
theorem Srt.at {D:List AD} (h:Srt D) {i p:Nat} (hp:p<D.length):D[p].Row=i↔FJ D i≤p∧(p:Int)<FJ D (i+1):=by
  have h1:=h.row i p hp
  have h2:=h.row (i+1) p hp
  omega
theorem Canon.right {rows cols:Int} {ts:List AD} (h:Canon rows cols ts):X4 (BM rows cols ts) where
  r0:=h.r0
  r1:=h.r1
  c0:=h.c0
  c1:=h.c1
  sl:=by have:=h.r0; simp [BM]; omega
  vl:=by simp [BM]
  cl:=by simpa [BM] using h.len
  s0:=by
    have:=h.r0
    rw [YJ (by omega) (by omega)]
    exact bL fun t ht=>(h.inn t ht).1
  sn:=by
    have:=h.r0
    show FG (BM rows cols ts).Start rows=_
    rw [YJ (by omega) (by omega),fI h]; simp [BM]
  up i hi:=by
    have hi:(i:Int)<rows:=hi
    rw [YJ (by omega) (by omega),YJ (by omega) (by omega)]
    have e1:((i:Int)).toNat=i:=by omega
    have e2:((i:Int)+1).toNat=i+1:=by omega
    rw [e1,e2,X3 i ts fun t ht=>(h.inn t ht).1]
    have:=dL ts (i+1)
    omega
  row i hi:=by
    have hi:(i:Int)<rows:=hi
    intro j hj1 hj2
    rw [YJ (by omega) (by omega)] at hj1 hj2 ⊢
    have e1:((i:Int)).toNat=i:=by omega
    have e2:((i:Int)+1).toNat=i+1:=by omega
    rw [e1] at hj1 ⊢
    rw [e2] at hj2
    have hb:=YH ts (i+1)
    have hjl:j<ts.length:=by omega
    have hc:FG (BM rows cols ts).Col j=ts[j].Col:=by
      show FG (ts.map (·.Col)) j=_
      rw [AaV (by omega) (by omega)]; rfl
    have hin:=h.inn _ (List.getElem_mem hjl)
    have hr:=(h.srt.at hjl (i:=i)).2 ⟨hj1,hj2⟩
    unfold ZZ at hin
    refine ⟨by rw [hc]; omega,by rw [hc]; exact hin.2.2.2,fun hlt=>?_⟩
    obtain ⟨q,rfl⟩:∃ q,j=q+1:=⟨j - 1,by have:=YH ts i; omega⟩
    have hc2:FG (BM rows cols ts).Col (((q+1:Nat):Int) - 1)=ts[q].Col:=by
      show FG (ts.map (·.Col)) _=_
      rw [AaV (by omega) (by omega)]
      simp
    have hr2:=(h.srt.at (show q<ts.length by omega) (i:=i)).2 ⟨by omega,by omega⟩
    have hs:=List.pairwise_iff_getElem.1 h.srt q (q+1) (by omega) hjl (by omega)
    unfold NK key at hs
    simp only at hs
    rw [hc,hc2]; omega
theorem uS:Canon 0 0 []:=⟨by omega,by omega,by omega,by omega,by simp,.nil,by simp⟩
noncomputable def iA (a:Rows):Rows:=if X4 a then a else BM 0 0 []
theorem rC {a:Rows} {Q:Rows→Prop} (G:small a) (D:Q (iA a)):WC a Q:=by
  unfold WC WB
  unfold iA at D
  refine dM G (AB (fun h=>?_) (fun h=>?_))
  · rwa [if_pos h] at D
  · rw [if_neg h] at D
    exact ⟨by decide,by decide,D⟩
def LC (h:List AD) (i:Nat):List AD:=h.filter fun t=>decide (t.Row=i)
theorem Ai9 {D:List AD} (h:Srt D) (i:Nat) {lo hi:Nat} (V:FJ D i=lo) (W:FJ D (i+1)=hi) (U:lo≤hi) (hl:hi≤D.length):(D.take hi).drop lo=LC D i:=by
  have e:D=D.take lo++((D.take hi).drop lo++D.drop hi):=by
    have Y:D.take lo=(D.take hi).take lo:=by rw [List.take_take,Nat.min_eq_left U]
    rw [←List.append_assoc,Y,List.take_append_drop,List.take_append_drop]
  have O:∀ (p:Nat) (hp:p<D.length),D[p].Row=i↔lo≤p∧p<hi:=fun p hp=>by have:=h.at (i:=i) hp; omega
  unfold LC
  conv=>rhs; rw [e]
  rw [List.filter_append,List.filter_append,List.filter_eq_nil_iff.2,List.filter_eq_self.2,List.filter_eq_nil_iff.2]
  · simp
  · intro t G
    obtain ⟨j,J,rfl⟩:=List.getElem_of_mem G
    simp only [List.getElem_drop,decide_eq_true_eq]
    rw [O]; omega
  · intro t G
    obtain ⟨j,J,rfl⟩:=List.getElem_of_mem G
    simp only [List.getElem_drop,List.getElem_take,decide_eq_true_eq]
    simp only [List.length_drop,List.length_take] at J
    rw [O]; omega
  · intro t G
    obtain ⟨j,J,rfl⟩:=List.getElem_of_mem G
    simp only [List.getElem_take,decide_eq_true_eq]
    simp only [List.length_take] at J
    rw [O]; omega
structure Seg (ts:List AD) (i l u:Nat):Prop where
  lo:FJ ts i=l
  hi:FJ ts (i+1)=u
  le:l≤u
  len:u≤ts.length
  eq:(ts.take u).drop l=LC ts i
  row:∀ (p:Nat) (hp:p<ts.length),l≤p→p<u→ts[p].Row=i
theorem Canon.seg {G O:Int} {D:List AD} (h:Canon G O D) (i:Nat):∃ lo hi,Seg D i lo hi:=by
  have hs:=X3 i D fun t V=>(h.inn t V).1
  have ha:=dL D (i+1)
  have hb:=YH D (i+1)
  obtain ⟨lo,J⟩:∃ lo:Nat,FJ D i=lo:=⟨_,rfl⟩
  obtain ⟨hi,U⟩:∃ hi:Nat,FJ D (i+1)=hi:=⟨_,rfl⟩
  exact ⟨lo,hi,J,U,by omega,by omega,Ai9 h.srt i J U (by omega) (by omega),fun p hp h1 h2=>by have:=h.srt.at (i:=i) hp; omega⟩
theorem Canon.sml {D G:Int} {J:List AD} (h:Canon D G J):small (BM D G J):=by
  have:=h.r0; have:=h.r1; have:=h.len
  unfold small BM; simp; omega
theorem ZO {D G:Int} {J:List AD} {i:Nat} {K:Int→Prop} (h:(i:Int)≤D) (hk:K (FJ J i)):AY (BM D G J).Start (i:Int) K:=
  AP (by omega) (PM (by simp; omega)) hk
theorem AaW {D G:Int} {J:List AD} {i:Nat} {Q:List Int×List Int→Prop} (h:Canon D G J) (hi:(i:Int)<D) (O:Q ((LC J i).map (·.Col),(LC J i).map (·.Val))):Y9 (BM D G J) i Q:=by
  unfold Y9
  have hr:=h.r1
  obtain ⟨lo,U,s⟩:=h.seg i
  have V:AJ ((i:Int)+1)=(i+1:Nat):=by rw [BE (by omega) (by omega)]; omega
  rw [V]
  refine ZO (by omega) (ZO (by omega) ?_)
  rw [s.lo,s.hi]
  have h1:=s.le; have h2:=s.len
  have hc:(BM D G J).Col.length=J.length:=by simp [BM]
  have hv:(BM D G J).Val.length=J.length:=by simp [BM]
  refine ⟨by omega,by omega,by omega,by omega,by omega,by omega,?_⟩
  simp only [Int.toNat_natCast,BM,←List.map_take,←List.map_drop,s.eq]
  exact O
def XM (t:AD):EC:=⟨t.Col,t.Val⟩
def Ag4 (h:Int) (D:List AD) (i:Int):List EC:=if 0≤i∧i<h then (LC D i.toNat).map XM else []
theorem UB (h:List AD) (i:Nat):(LC h i).length≤h.length:=List.length_filter_le _ _
theorem yP {a:Rows} {D G i:Int} {O:List AD} {Q:List EC→Prop} (hl:small a) (ha:iA a=BM D G O) (h:Canon D G O) (J:Q (Ag4 D O i)):jK a i Q:=by
  unfold jK
  have hr0:=h.r0; have Z:=h.r1; have W:=h.len
  refine rC hl ?_
  rw [ha]
  have e:AJ ((BM D G O).Rows - 1)=D - 1:=BE (by show -9223372036854775808≤D - 1; omega) (by show D - 1≤9223372036854775807; omega)
  rw [e]
  unfold Ag4 at J
  refine JM (CP (fun U=>?_) (fun Y=>?_))
  · have U:¬(0≤i∧i≤D - 1):=by simpa using U
    rw [if_neg (by omega)] at J; exact J
  have Y:0≤i∧i≤D - 1:=by simpa using Y
  rw [if_pos (by omega)] at J
  obtain ⟨n,rfl⟩:∃ n:Nat,i=n:=⟨i.toNat,by omega⟩
  rw [Int.toNat_natCast] at J
  refine AaW h (by omega) ?_
  have hs:=UB O n
  generalize LC O n=xs at J hs
  refine AV (fun (s:List EC) i=>(s,i)) 0 xs.length (by omega) (fun i s=>s=(xs.take i).map XM) (by omega) rfl (fun i s next _ hi V U=>?_) (fun s next V=>?_)
  · subst V
    dsimp only
    refine AB (fun _=>?_) (fun h=>by simp at h; omega)
    refine AP (by omega) (x:=xs[i].Col) (by simp [hi]) (AP (by omega) (x:=xs[i].Val) (by simp [hi]) (BA ?_ (U _ ?_)))
    · simp; omega
    · rw [EQ hi]; rfl
  · subst V
    dsimp only
    refine AB (fun h=>by simp at h) (fun _=>?_)
    rw [List.take_length]; exact J
theorem UC {a:Rows} {D J:Int} {G:List AD} {Q:List AD→Prop} (hl:small a) (ha:iA a=BM D J G) (h:Canon D J G) (hQ:Q G):KM a Q:=by
  unfold KM
  have hr0:=h.r0; have hr1:=h.r1; have hlen:=h.len
  refine rC hl ?_
  rw [ha]
  obtain ⟨n,hn⟩:∃ n:Nat,D=n:=⟨D.toNat,by omega⟩
  have hrw:(BM D J G).Rows=n:=hn
  rw [hrw]
  refine AV (fun (s:List AD) i=>(s,i)) 0 n (by omega) (fun i s=>s=G.take (FJ G i).toNat) (by omega) (s0:=[]) (by rw [bL fun t ht=>(h.inn t ht).1]; rfl) (fun i s next _ hi O hnx=>?_) (fun s next O=>?_)
  · subst O
    dsimp only
    refine AB (fun _=>?_) (fun h=>by omega)
    refine AaW h (by omega) ?_
    obtain ⟨lo,Z,s⟩:=h.seg i
    have g1:=s.le; have g2:=s.len
    rw [s.lo,Int.toNat_natCast]
    have hsl:(LC G i).length=Z - lo:=by rw [←s.eq]; simp; omega
    have V:∀ (j:Nat) (W:j<(LC G i).length),(LC G i)[j]=G[lo+j]'(by omega):=fun j W=>by simp [←s.eq]
    refine AV (fun (s:List AD) i=>(s,i)) 0 (LC G i).length (by omega) (fun j st=>st=G.take (lo+j)) (by omega) (by simp) (fun j st nx _ W O Y=>?_) (fun st nx O=>?_)
    · subst O
      dsimp only
      refine AB (fun _=>?_) (fun h=>by simp at h; omega)
      have U:lo+j<G.length:=by omega
      refine AP (by omega) (x:=G[lo+j].Col) (by simp [W,V]) (AP (by omega) (x:=G[lo+j].Val) (by simp [W,V]) (BA ?_ (Y _ ?_)))
      · simp; omega
      · rw [show lo+(j+1)=lo+j+1 by omega,List.take_succ_eq_append_getElem U]
        congr 2
        have:=s.row (lo+j) U (by omega) (by omega)
        rw [←this]
    · subst O
      dsimp only
      refine AB (fun h=>by simp at h) (fun _=>hnx _ ?_)
      rw [s.hi,hsl,Int.toNat_natCast]; congr 1; omega
  · subst O
    dsimp only
    refine AB (fun h=>by omega) (fun _=>?_)
    have hb:=fI h
    rw [hn,Int.toNat_natCast] at hb
    rw [hb,Int.toNat_natCast,List.take_length]; exact hQ
end Go.Proofs.YtbohadngdkjljaaGreat
