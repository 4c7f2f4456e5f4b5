import Derived.Test.YtbohadngdkjljaaGreatCsrC
namespace Go.Proofs.YtbohadngdkjljaaGreat
open Go Go.Fw
set_option linter.unusedVariables false
set_option linter.unusedSimpArgs false
theorem OU {f:Nat→Int} {n j:Nat} (h:j<n):((List.range n).map f)[j]? = some (f j):=by simp [h]
theorem sV {f:Nat→Int} {n j:Nat} {v:Int}:((List.range n).map f).set j v=(List.range n).map (fun i=>if i=j then v else f i):=by
  apply List.ext_getElem?
  intro i
  rw [List.getElem?_set]
  simp only [List.length_map,List.length_range]
  by_cases e:j=i
  · subst e
    by_cases h:j<n
    · rw [if_pos rfl,if_pos h,OU h,if_pos rfl]
    · rw [if_pos rfl,if_neg h,List.getElem?_eq_none (by simp; omega)]
  · rw [if_neg e]
    by_cases h:i<n
    · rw [OU h,OU h,if_neg (fun h=>e h.symm)]
    · rw [List.getElem?_eq_none (by simp; omega),List.getElem?_eq_none (by simp; omega)]
theorem SR {f g:Nat→Int} {n:Nat} (h:∀ j,j<n→f j=g j):(List.range n).map f=(List.range n).map g:=List.map_congr_left fun j hj=>h j (by simpa using hj)
def EF (ts:List AC) (j:Nat):Int:=((ts.countP (fun t:AC=>decide (t.Row<(j:Int))):Nat):Int)
def VB (ts:List AC) (j:Nat):Int:=((ts.countP (fun t:AC=>decide (t.Row+1=(j:Int))):Nat):Int)
theorem sW (ts:List AC) (t:AC) (j:Nat):EF (ts++[t]) j=EF ts j+if t.Row<j then 1 else 0:=by
  unfold EF; rw [List.countP_append,List.countP_singleton]; simp only [decide_eq_true_eq]; split <;> simp
theorem sX (ts:List AC) (t:AC) (j:Nat):VB (ts++[t]) j=VB ts j+if t.Row+1=j then 1 else 0:=by
  unfold VB; rw [List.countP_append,List.countP_singleton]; simp only [decide_eq_true_eq]; split <;> simp
theorem XU (ts:List AC) (j:Nat):0≤EF ts j∧EF ts j≤ts.length:=by
  unfold EF; have:=List.countP_le_length (p:=fun t:AC=>decide (t.Row<(j:Int))) (l:=ts); omega
theorem bY (ts:List AC) (j:Nat):0≤VB ts j∧VB ts j≤ts.length:=by
  unfold VB; have:=List.countP_le_length (p:=fun t:AC=>decide (t.Row+1=(j:Int))) (l:=ts); omega
theorem WE (j:Nat):∀ (ts:List AC),(∀ t∈ts,0≤t.Row)→EF ts (j+1)=EF ts j+VB ts (j+1)
  | [],_=>rfl
  | t :: ts,h=>by
    have:=WE j ts fun x hx=>h x (by simp [hx])
    unfold EF VB at *
    simp only [List.countP_cons]
    have h0:=h t (by simp)
    by_cases h1:t.Row<j
    · have h2:t.Row<(j+1:Nat):=by omega
      have h3:¬t.Row+1=((j+1:Nat):Int):=by omega
      simp only [h1,h2,h3,decide_true,decide_false,if_true,if_false]; simp only [Bool.false_eq_true,if_false]; omega
    · by_cases h4:t.Row+1=((j+1:Nat):Int)
      · have h2:t.Row<(j+1:Nat):=by omega
        simp only [h1,h2,h4,decide_true,decide_false,if_true,if_false]; simp only [Bool.false_eq_true,if_false]; omega
      · have h2:¬t.Row<(j+1:Nat):=by omega
        simp only [h1,h2,h4,decide_true,decide_false,if_true,if_false]; simp only [Bool.false_eq_true,if_false]; omega
def AZ (rows cols:Int) (ts:List AC):Rows:=⟨rows,cols,(List.range (rows.toNat+1)).map (EF ts),ts.map (·.Col),ts.map (·.Val)⟩
theorem dL (n:Nat):List.replicate n (0:Int)=(List.range n).map fun _=>0:=by
  apply List.ext_getElem?
  intro i
  by_cases h:i<n
  · rw [OU h]; simp [h]
  · rw [List.getElem?_eq_none (by simp; omega),List.getElem?_eq_none (by simp; omega)]
theorem pR {rows cols:Int} {ts:List AC} {Q:Rows→Prop} (h0:0≤rows) (h1:rows≤1000000) (hl:ts.length≤1000000) (ht:∀ t∈ts,0≤t.Row∧t.Row<rows) (hQ:Q (AZ rows cols ts)):RH rows cols ts Q:=by
  unfold RH UV
  obtain ⟨n,rfl⟩:∃ n:Nat,rows=n:=⟨rows.toNat,by omega⟩
  have e:AJ ((n:Int)+1)=(n+1:Nat):=by rw [AX (by omega) (by omega)]; omega
  rw [e]
  refine ⟨by omega,by omega,?_⟩
  simp only [Int.toNat_natCast]
  rw [dL]
  refine BE (fun (s:List Int×List Int×List Int) i=>(s.1,s.2.1,s.2.2,i)) 0 ts.length (s0:=((List.range (n+1)).map fun _=>0,[],[])) (by omega) (fun i s=>s=((List.range (n+1)).map (VB (ts.take i)),(ts.take i).map (·.Col),(ts.take i).map (·.Val))) (by omega) (by simp [VB]) (fun i s next _ hi hm hn=>?_) (fun s next hm=>?_)
  · subst hm
    dsimp only
    have hr:=ht _ (List.getElem_mem hi)
    refine AD (fun _=>?_) (fun h=>by omega)
    refine BH hi ?_
    obtain ⟨q,hq⟩:∃ q:Nat,ts[i].Row=q:=⟨ts[i].Row.toNat,by omega⟩
    have e2:AJ (ts[i].Row+1)=(q+1:Nat):=by rw [AX (by omega) (by omega)]; omega
    rw [e2]
    have hc:=bY (ts.take i) (q+1)
    have htl:(ts.take i).length≤ts.length:=by simp; omega
    refine AO (by omega) (OU (by omega)) (AO (by omega) (OU (by omega)) (BJ (by simp; omega) (BJ (by simp; omega) (hn ((List.range (n+1)).map (VB (ts.take (i+1))),(ts.take (i+1)).map (·.Col),(ts.take (i+1)).map (·.Val)) rfl |> cast ?_))))
    congr 1
    simp only [Int.toNat_natCast]
    rw [sV,HE hi,HE hi]
    refine Prod.ext (SR fun j hj=>?_) rfl
    rw [List.take_succ_eq_append_getElem hi,sX]
    by_cases ej:j=q+1
    · subst ej; rw [if_pos (by omega),if_pos rfl,AX (by omega) (by omega)]
    · rw [if_neg (by omega),if_neg ej]; omega
  · subst hm
    dsimp only
    refine AD (fun h=>by omega) (fun _=>?_)
    simp only [List.take_length]
    refine BE (fun (s:List Int) i=>(s,i)) 0 n (by omega) (fun i s=>s=(List.range (n+1)).map fun j=>if j≤i then EF ts j else VB ts j) (by omega) (SR fun j hj=>?_) (fun i s next _ hi hm hn=>?_) (fun s next hm=>?_)
    · by_cases ej:j≤0
      · rw [if_pos ej,show j=0 by omega]
        have:∀ t∈ts,¬t.Row<((0:Nat):Int):=fun t h=>by have:=ht t h; omega
        have h2:∀ t∈ts,¬t.Row+1=((0:Nat):Int):=fun t h=>by have:=ht t h; omega
        unfold VB EF
        rw [List.countP_eq_zero.2 (by simpa using h2),List.countP_eq_zero.2 (by simpa using this)]
      · rw [if_neg ej]
    · subst hm
      refine AD (fun _=>?_) (fun h=>by omega)
      have e2:AJ ((i:Int)+1)=(i+1:Nat):=by rw [AX (by omega) (by omega)]; omega
      rw [e2] at hn ⊢
      refine AO (by omega) (OU (by omega)) (AO (by omega) (OU (by omega)) (AO (by omega) (OU (by omega)) (hn _ ?_)))
      simp only [Int.toNat_natCast]
      rw [sV]
      refine SR fun j hj=>?_
      have hb1:=XU ts i
      have hb2:=bY ts (i+1)
      rw [if_neg (show ¬i+1≤i by omega),if_pos (Nat.le_refl i),AX (by omega) (by omega)]
      by_cases ej:j=i+1
      · subst ej; rw [if_pos rfl,if_pos (Nat.le_refl _),WE i ts fun t h=>(ht t h).1]; omega
      · rw [if_neg ej]
        by_cases h:j≤i
        · rw [if_pos h,if_pos (by omega)]
        · rw [if_neg h,if_neg (by omega)]
    · subst hm
      refine AD (fun h=>by omega) (fun _=>?_)
      rw [SR (g:=EF ts) fun j hj=>if_pos (by omega)]
      exact hQ
theorem mV {rows cols:Int} {ts:List AC} {Q:Rows→Prop} (h0:0≤rows) (h1:rows≤1000000) (hl:ts.length≤1000000) (ht:∀ t∈ts,0≤t.Row∧t.Row<rows) (hQ:Q (AZ rows cols ts)):TL rows cols ts Q:=by
  unfold TL KE
  obtain ⟨n,rfl⟩:∃ n:Nat,rows=n:=⟨rows.toNat,by omega⟩
  have e:AJ ((n:Int)+1)=(n+1:Nat):=by rw [AX (by omega) (by omega)]; omega
  rw [e]
  refine ⟨by omega,by omega,?_⟩
  simp only [Int.toNat_natCast]
  rw [dL]
  refine BE (fun (s:List Int×List Int×List Int) i=>(s.1,s.2.1,s.2.2,i)) 0 ts.length (s0:=((List.range (n+1)).map fun _=>0,[],[])) (by omega) (fun i s=>s=((List.range (n+1)).map (EF (ts.take i)),(ts.take i).map (·.Col),(ts.take i).map (·.Val))) (by omega) (by simp [EF]) (fun i s next _ hi hm hn=>?_) (fun s next hm=>?_)
  · subst hm
    dsimp only
    have hr:=ht _ (List.getElem_mem hi)
    refine AD (fun _=>?_) (fun h=>by omega)
    refine BH hi (BJ (by simp; omega) (BH hi (BJ (by simp; omega) (BH hi ?_))))
    obtain ⟨q,hq⟩:∃ q:Nat,ts[i].Row=q:=⟨ts[i].Row.toNat,by omega⟩
    have e2:AJ (ts[i].Row+1)=(q+1:Nat):=by rw [AX (by omega) (by omega)]; omega
    rw [e2]
    have htl:(ts.take i).length≤ts.length:=by simp; omega
    refine BE (fun (s:List Int) j=>(s,j)) (q+1) (n+1) (by omega) (fun j s=>s=(List.range (n+1)).map fun p=>EF (ts.take i) p+if q+1≤p∧p<j then 1 else 0) (by omega) (SR fun j hj=>by rw [if_neg (by omega)]; omega) (fun j s next hj1 hj2 hm hnx=>?_) (fun s next hm=>?_)
    · subst hm
      refine AD (fun _=>?_) (fun h=>by omega)
      have hb:=XU (ts.take i) j
      refine AO (by omega) (OU (by omega)) (AO (by omega) (OU (by omega)) (hnx _ ?_))
      simp only [Int.toNat_natCast]
      rw [sV]
      refine SR fun p hp=>?_
      rw [if_neg (show ¬(q+1≤j∧j<j) by omega),AX (by omega) (by omega)]
      by_cases ep:p=j
      · subst ep; rw [if_pos rfl,if_pos (by omega)]; omega
      · rw [if_neg ep]
        by_cases h:q+1≤p∧p<j
        · rw [if_pos h,if_pos (by omega)]
        · rw [if_neg h,if_neg (by omega)]
    · subst hm
      refine AD (fun h=>by omega) (fun _=>?_)
      refine hn ((List.range (n+1)).map (EF (ts.take (i+1))),(ts.take (i+1)).map (·.Col),(ts.take (i+1)).map (·.Val)) rfl |> cast ?_
      congr 1
      simp only
      rw [HE hi,HE hi]
      refine Prod.ext (SR fun p hp=>?_) rfl
      rw [List.take_succ_eq_append_getElem hi,sW]
      by_cases h:q+1≤p
      · rw [if_pos (by omega),if_pos (by omega)]
      · rw [if_neg (by omega),if_neg (by omega)]
  · subst hm
    dsimp only
    refine AD (fun h=>by omega) (fun _=>?_)
    simp only [List.take_length]
    exact hQ
def zR:Rows:=⟨0,0,[],[],[]⟩
def UM (rows cols:Int) (t:AC):Prop:=0≤t.Row∧t.Row<rows∧0≤t.Col∧t.Col<cols
instance (rows cols:Int) (t:AC):Decidable (UM rows cols t):=by unfold UM; infer_instance
def zI (r rows cols:Int) (ts:List AC):Rows×Int:=
  if ¬(1≤r∧r≤5) then (zR,8)
  else if ¬(0≤rows∧rows≤4096∧0≤cols∧cols≤4096) then (zR,3)
  else if 65536<ts.length then (zR,5)
  else if ¬ ∀ t∈ts,UM rows cols t then (zR,3)
  else if (PW (SC r (ts.map fN)) rX).2≠0 then (zR,(PW (SC r (ts.map fN)) rX).2)
  else (AZ rows cols (PW (SC r (ts.map fN)) rX).1,0)
theorem vI {r:Int}:∀ {ts:List (IC×Int)} {p:IC×AN},p∈SC r ts→∃ t∈ts,t.1=p.1:=by
  suffices ∀ (ts:List (IC×Int)) (l:List (IC×AN)) p,p∈ts.foldl (fun l t=>ins r t.1 (aX t.2) l) l→(∃ t∈ts,t.1=p.1)∨∃ q∈l,q.1=p.1 from fun {ts p} h=>by
    rcases this ts [] p h with h | ⟨q,hq,_⟩
    · exact h
    · simp at hq
  intro ts
  induction ts with
  | nil=>intro l p h; exact .inr ⟨p,h,rfl⟩
  | cons t ts ih=>
    intro l p h
    rcases ih _ _ h with ⟨x,hx,e⟩ | ⟨q,hq,e⟩
    · exact .inl ⟨x,by simp [hx],e⟩
    · rcases iF hq with e2 | ⟨y,hy,e2⟩
      · exact .inl ⟨t,by simp,by rw [←e,e2]⟩
      · exact .inr ⟨y,hy,by rw [e2,e]⟩
theorem zJ {r rows cols:Int} {ts:List AC} (h:∀ t∈ts,UM rows cols t):∀ t∈(PW (SC r (ts.map fN)) rX).1,UM rows cols t:=by
  intro t ht
  unfold PW at ht
  split at ht
  · obtain ⟨p,hp,rfl⟩:=List.mem_map.1 ht
    obtain ⟨x,hx,e⟩:=vI hp
    obtain ⟨y,hy,rfl⟩:=List.mem_map.1 hx
    have:=h y hy
    unfold UM rX at *
    rw [←e]
    exact this
  · simp at ht
theorem mW {α:Type} {mk:IC→Int→α} (l:List (IC×AN)):(PW l mk).1.length≤l.length:=by
  unfold PW; split <;> simp
theorem JE {x y:Int} {Q:Bool→Prop} (hQ:Q (decide (0≤x∧x≤y))):GF x y Q:=by
  unfold GF
  refine AD (fun h=>?_) (fun h=>?_)
  · rwa [show decide (x≤y)=decide (0≤x∧x≤y) by apply decide_eq_decide.2; omega]
  · rwa [show decide (0≤x∧x≤y)=false by apply decide_eq_false; omega] at hQ
theorem zK {r rows cols:Int} {ts:List AC} {Q:Rows×Int→Prop} (hl:ts.length≤1000000000000) (hv:∀ t∈ts,HJ t.Val) (hQ:Q (zI r rows cols ts)):SF r rows cols ts Q:=by
  unfold SF
  unfold zI at hQ
  refine MG (CS (fun h=>?_) (fun h=>?_))
  · rw [if_pos (by simpa using h)] at hQ; exact hQ
  have hr:1≤r∧r≤5:=by simpa using h
  rw [if_neg (by simpa using hr)] at hQ
  refine ED (fun b=>b=decide (¬(0≤rows∧rows≤4096∧0≤cols∧cols≤4096))) ?_ fun k hk=>?_
  · rintro _ rfl
    refine AD (fun h=>?_) (fun h=>?_)
    · rw [if_pos h] at hQ; exact hQ
    have hrc:0≤rows∧rows≤4096∧0≤cols∧cols≤4096:=by simpa using h
    rw [if_neg h] at hQ
    refine AD (fun h=>?_) (fun h=>?_)
    · rw [if_pos (by omega)] at hQ; exact hQ
    rw [if_neg (by omega)] at hQ
    have e1:AJ (rows - 1)=rows - 1:=AX (by omega) (by omega)
    have e2:AJ (cols - 1)=cols - 1:=AX (by omega) (by omega)
    unfold CQ CX
    refine EO ts.length (by omega) (fun i=>∀ (j:Nat) (hj:j<ts.length),j<i→UM rows cols ts[j]) (by simp) (fun i next hi hR hn=>?_) (fun next hR=>?_)
    · refine AD (fun _=>?_) (fun h=>by omega)
      refine BH hi ?_
      unfold VW
      rw [e1,e2]
      have hbad (h:¬UM rows cols ts[i]):AR (decide (0≤(i:Int))) (Q (zR,3)) (SE r ts fun r213=>AR (r213.2 != 0) (Q (zR,r213.2)) (RH rows cols r213.1 fun r226=>Q (r226,0))):=by
        refine AD (fun _=>?_) (fun h=>by omega)
        rw [if_pos (fun h'=>h (h' _ (List.getElem_mem hi)))] at hQ; exact hQ
      refine JE (CS (fun h=>BM rfl (hbad ?_)) (fun h=>JE (CS (fun h2=>hbad ?_) (fun h2=>hn fun j hj hji=>?_))))
      · unfold UM; simp at h; omega
      · unfold UM; simp at h2; omega
      · by_cases e:j=i
        · subst e; unfold UM; simp at h h2; omega
        · exact hR j hj (by omega)
    · refine AD (fun h=>by omega) (fun _=>AV (by decide) ?_)
      have hall:∀ t∈ts,UM rows cols t:=by
        intro t ht
        obtain ⟨j,hj,rfl⟩:=List.getElem_of_mem ht
        exact hR j hj hj
      rw [if_neg (by simpa using hall)] at hQ
      have hlen:(SC r (ts.map fN)).length≤65536:=by
        have:=(WD r (ts.map fN) (fun t ht=>by obtain ⟨x,hx,rfl⟩:=List.mem_map.1 ht; exact hv x hx)).1
        simp at this; omega
      refine wT (by omega) hv (DW (fun h=>?_) (fun h=>pR (by omega) (by omega) ?_ ?_ ?_))
      · rw [if_pos h] at hQ; exact hQ
      · exact Nat.le_trans (mW _) (by omega)
      · intro t ht
        have:=zJ hall t ht
        unfold UM at this; omega
      · rw [if_neg (by simpa using h)] at hQ; exact hQ
  · refine JE (CS (fun h=>hk _ ?_) (fun h=>JE (hk _ ?_)))
    · symm; apply decide_eq_true; simp at h; omega
    · simp at h
      by_cases h2:0≤cols∧cols≤4096 <;> simp [h2,h]
def t2e (t:AC):DO:=⟨t.Row,t.Col,t.Val⟩
def e2t (e:DO):AC:=⟨e.From,e.To,e.W⟩
theorem AeW (l:List (IC×AN)):(PW l rX).1=(PW l mkE).1.map e2t∧(PW l rX).2=(PW l mkE).2:=by
  unfold PW
  split
  · exact ⟨by simp only [List.map_map]; rfl,rfl⟩
  · exact ⟨rfl,rfl⟩
theorem dM {r rows cols:Int} {ts:List AC} {Q:Rows×Int→Prop} (hl:ts.length≤1000000000000) (hv:∀ t∈ts,HJ t.Val) (hQ:Q (zI r rows cols ts)):UT r rows cols ts Q:=by
  unfold UT
  unfold zI at hQ
  refine XT (CS (fun h=>?_) (fun h=>?_))
  · rw [if_pos (by simpa using h)] at hQ; exact hQ
  have hr:1≤r∧r≤5:=by simpa using h
  rw [if_neg (by simpa using hr)] at hQ
  have h3 (h:¬(0≤rows∧rows≤4096∧0≤cols∧cols≤4096)):Q (zR,3):=by rw [if_pos h] at hQ; exact hQ
  refine AD (fun h=>h3 (by omega)) (fun h1=>AD (fun h=>h3 (by omega)) (fun h2=>AD (fun h=>h3 (by omega)) (fun h4=>AD (fun h=>h3 (by omega)) (fun h5=>?_))))
  rw [if_neg (by omega)] at hQ
  refine AD (fun h=>?_) (fun h=>?_)
  · rw [if_pos (by omega)] at hQ; exact hQ
  rw [if_neg (by omega)] at hQ
  refine BE (fun (s:List DO) i=>(s,i)) 0 ts.length (by omega) (fun i s=>s=(ts.take i).map t2e∧∀ (j:Nat) (hj:j<ts.length),j<i→UM rows cols ts[j]) (by omega) ⟨rfl,by simp⟩ (fun i s next _ hi hm hn=>?_) (fun s next hm=>?_)
  · obtain ⟨rfl,hR⟩:=hm
    dsimp only
    refine AD (fun _=>?_) (fun h=>by omega)
    have hbad (h:¬UM rows cols ts[i]):Q (zR,3):=by
      rw [if_pos (fun h'=>h (h' _ (List.getElem_mem hi)))] at hQ; exact hQ
    refine BH hi (AD (fun h=>hbad fun h'=>by unfold UM at h'; omega) (fun h6=>?_))
    refine BH hi (AD (fun h=>hbad fun h'=>by unfold UM at h'; omega) (fun h7=>?_))
    refine BH hi (AD (fun h=>hbad fun h'=>by unfold UM at h'; omega) (fun h8=>?_))
    refine BH hi (AD (fun h=>hbad fun h'=>by unfold UM at h'; omega) (fun h9=>?_))
    refine BH hi (BH hi (BH hi (BJ ?_ (hn _ ⟨?_,?_⟩))))
    · simp; omega
    · rw [HE hi]; rfl
    · intro j hj hji
      by_cases e:j=i
      · subst e; unfold UM; omega
      · exact hR j hj (by omega)
  · obtain ⟨rfl,hR⟩:=hm
    dsimp only
    refine AD (fun h=>by omega) (fun _=>?_)
    rw [List.take_length]
    have hall:∀ t∈ts,UM rows cols t:=by
      intro t ht
      obtain ⟨j,hj,rfl⟩:=List.getElem_of_mem ht
      exact hR j hj hj
    rw [if_neg (by simpa using hall)] at hQ
    have hkv:(ts.map t2e).map kvE=ts.map fN:=by rw [List.map_map]; rfl
    have hlen:(SC r (ts.map fN)).length≤65536:=by
      have:=(WD r (ts.map fN) (fun t ht=>by obtain ⟨x,hx,rfl⟩:=List.mem_map.1 ht; exact hv x hx)).1
      simp at this; omega
    have hfi:=zJ (r:=r) hall
    refine iI hr (by simp; omega) (fun t ht=>by obtain ⟨x,hx,rfl⟩:=List.mem_map.1 ht; exact hv x hx) ?_
    rw [hkv]
    have hf1:=(AeW (SC r (ts.map fN))).1
    have hf2:=(AeW (SC r (ts.map fN))).2
    have hfl:=mW (mk:=mkE) (SC r (ts.map fN))
    rw [hf1] at hfi
    rw [hf1,hf2] at hQ
    generalize PW (SC r (ts.map fN)) mkE=c at hQ hfl hfi
    obtain ⟨es,er⟩:=c
    dsimp only at *
    refine DW (fun h=>?_) (fun h=>?_)
    · rw [if_pos h] at hQ; exact hQ
    rw [if_neg (by simpa using h)] at hQ
    refine BE (fun (s:List AC) i=>(s,i)) 0 es.length (by omega) (fun i s=>s=(es.take i).map e2t) (by omega) rfl (fun i s next _ hi hm hn=>?_) (fun s next hm=>?_)
    · subst hm
      dsimp only
      refine AD (fun _=>?_) (fun h=>by omega)
      refine BH hi (BH hi (BH hi (BJ ?_ (hn _ ?_))))
      · simp; omega
      · rw [HE hi]; rfl
    · subst hm
      dsimp only
      refine AD (fun h=>by omega) (fun _=>mV (by omega) (by omega) ?_ ?_ ?_)
      · simp; omega
      · intro t ht
        have:=hfi t (by simpa using ht)
        unfold UM at this; omega
      · rw [List.take_length]; exact hQ
def QJ (a:Rows):Prop:=a.Start.length≤1000000000000∧a.Col.length≤1000000000000∧a.Val.length≤1000000000000
def AdI (a:Rows) (i:Nat):Prop:=∀ j:Nat,HI a.Start i≤j→(j:Int)<HI a.Start ((i:Int)+1)→0≤HI a.Col j∧HI a.Col j<a.Cols∧(HI a.Start i<j→HI a.Col ((j:Int) - 1)<HI a.Col j)
structure QE (a:Rows):Prop where
  r0:0≤a.Rows
  r1:a.Rows≤4096
  c0:0≤a.Cols
  c1:a.Cols≤4096
  sl:(a.Start.length:Int)=a.Rows+1
  vl:a.Val.length=a.Col.length
  cl:a.Col.length≤65536
  s0:HI a.Start 0=0
  sn:HI a.Start a.Rows=a.Col.length
  up:∀ i:Nat,(i:Int)<a.Rows→HI a.Start i≤HI a.Start ((i:Int)+1)
  row:∀ i:Nat,(i:Int)<a.Rows→AdI a i
noncomputable instance (a:Rows):Decidable (QE a):=Classical.propDecidable _
theorem vJ {a:Rows} {n:Nat} (h:∀ i:Nat,i<n→HI a.Start i≤HI a.Start ((i:Int)+1)) {i j:Nat} (h1:i≤j) (h2:j≤n):HI a.Start i≤HI a.Start j:=by
  induction j with
  | zero => have : i = 0 := by omega
            subst this; exact Int.le_refl _
  | succ j ih=>
    by_cases e:i=j+1
    · subst e; exact Int.le_refl _
    · have:=ih (by omega) (by omega)
      have h3:=h j (by omega)
      have:((j+1:Nat):Int)=(j:Int)+1:=by omega
      rw [this]; omega
theorem AbQ {x y:Int} {Q:Bool→Prop} (h:Q (decide (x<y))):QQ x y Q:=by
  unfold QQ HM
  exact AV (by simp) h
theorem pS {xs:List Int} {Q:Bool→Prop} (hl:xs.length≤1000000000) (h1:(∀ i:Nat,i+1<xs.length→HI xs i≤HI xs ((i:Int)+1))→Q true) (h2:(∃ i:Nat,i+1<xs.length∧¬HI xs i≤HI xs ((i:Int)+1))→Q false):FJ xs Q:=by
  unfold FJ
  rw [AX (by omega) (by omega)]
  by_cases h0:xs.length=0
  · refine EC (fun s:Int=>s = -1) (fun _=>0) (by omega) (fun s next hs hn=>?_)
    subst hs
    exact AD (fun h=>by omega) (fun _=>h1 fun i hi=>by omega)
  refine EC (fun s:Int=>∃ j:Nat,s=j∧j<xs.length∧∀ i:Nat,j≤i→i+1<xs.length→HI xs i≤HI xs ((i:Int)+1)) (fun s=>s.toNat) ⟨xs.length - 1,by omega,by omega,fun i hi h=>by omega⟩ ?_
  rintro _ next ⟨j,rfl,hj,hR⟩ hn
  refine AD (fun h=>?_) (fun h=>h1 fun i hi=>hR i (by omega) hi)
  obtain ⟨j,rfl⟩:∃ q,j=q+1:=⟨j - 1,by omega⟩
  have e:AJ (((j+1:Nat):Int) - 1)=(j:Int):=by rw [AX (by omega) (by omega)]; omega
  rw [e]
  refine DQ (by omega) (by omega) (DQ (by omega) (by omega) (AbQ (AD (fun hlt=>h2 ⟨j,by omega,?_⟩) (fun hlt=>hn _ ⟨j,rfl,by omega,fun i hi h=>?_⟩ (by omega)))))
  · have:((j+1:Nat):Int)=(j:Int)+1:=by omega
    rw [this] at hlt; omega
  · by_cases e:i=j
    · subst e
      have:((i+1:Nat):Int)=(i:Int)+1:=by omega
      rw [this] at hlt; omega
    · exact hR i (by omega) h
theorem AbR {xs:List Int} {lo hi:Int} {j:Nat} (h0:0≤lo) (h1:lo≤hi) (h2:hi≤xs.length) (hj:lo+j<hi):HI ((xs.take hi.toNat).drop lo.toNat) j=HI xs (lo+j):=by
  unfold HI
  simp only [List.getD_eq_getElem?_getD,List.getElem?_drop,Int.toNat_natCast]
  rw [List.getElem?_take_of_lt (by omega)]
  congr 2; omega
theorem AbS {α:Type} {xs:List α} {lo hi:Int} (h0:0≤lo) (h1:lo≤hi) (h2:hi≤xs.length):((xs.take hi.toNat).drop lo.toNat).length=(hi - lo).toNat:=by
  simp only [List.length_drop,List.length_take]; omega
theorem AdJ {xs:List Int} {cols:Int} {Q:Bool→Prop} (hc0:0≤cols) (hc1:cols≤4096) (hl:xs.length≤1000000000)
    (h1:(∀ j:Nat,j<xs.length→0≤HI xs j∧HI xs j<cols∧(0<j→HI xs ((j:Int) - 1)<HI xs j))→Q true) (h2:(∃ j:Nat,j<xs.length∧¬(0≤HI xs j∧HI xs j<cols∧(0<j→HI xs ((j:Int) - 1)<HI xs j)))→Q false):gB xs cols Q:=by
  unfold gB
  rw [AX (by omega) (by omega)]
  refine EO xs.length (by omega) (fun i=>∀ j:Nat,j<i→j<xs.length→0≤HI xs j∧HI xs j<cols∧(0<j→HI xs ((j:Int) - 1)<HI xs j)) (by simp) (fun i next hi hR hn=>?_) (fun next hR=>?_)
  · refine AD (fun _=>?_) (fun h=>by omega)
    refine DQ (by omega) (by omega) (JE (CS (fun h=>h2 ⟨i,hi,fun hh=>?_⟩) (fun h=>?_)))
    · simp at h; omega
    have h:0≤HI xs i∧HI xs i≤cols - 1:=by simpa using h
    have hstep (hx:0<i→HI xs ((i:Int) - 1)<HI xs i):next (AJ ((i:Int)+1)):=hn fun j hj hjl=>by
      by_cases e:j=i
      · subst e; exact ⟨h.1,by omega,hx⟩
      · exact hR j (by omega) hjl
    refine AD (fun h0=>?_) (fun h0=>hstep fun h=>by omega)
    rw [AX (by omega) (by omega)]
    refine DQ (by omega) (by omega) (AD (fun hle=>h2 ⟨i,hi,fun hh=>?_⟩) (fun hle=>hstep fun _=>by omega))
    have:=hh.2.2 (by omega); omega
  · exact AD (fun h=>by omega) (fun _=>h1 fun j hj=>hR j hj hj)
theorem bZ {a:Rows} {Q:Bool→Prop} (hl:QJ a) (hQ:Q (decide (QE a))):HX a Q:=by
  unfold HX
  have hno (h:¬QE a):Q false:=by rwa [decide_eq_false h] at hQ
  have hyes (h:QE a):Q true:=by rwa [decide_eq_true h] at hQ
  unfold QJ at hl
  refine JE (CS (fun h=>hno fun hh=>?_) (fun h=>?_))
  · have:=hh.r0; have:=hh.r1; simp at h; omega
  have h1:0≤a.Rows∧a.Rows≤4096:=by simpa using h
  refine JE (CS (fun h=>hno fun hh=>?_) (fun h=>?_))
  · have:=hh.c0; have:=hh.c1; simp at h; omega
  have h2:0≤a.Cols∧a.Cols≤4096:=by simpa using h
  rw [AX (by omega) (by omega)]
  refine DW (fun h=>hno fun hh=>h hh.sl) (fun h3=>?_)
  refine DW (fun h=>hno fun hh=>h (by rw [hh.vl])) (fun h4=>?_)
  refine AD (fun h=>hno fun hh=>by have:=hh.cl; omega) (fun h5=>?_)
  refine DQ (by omega) (by omega) (DW (fun h=>hno fun hh=>h hh.s0) (fun h6=>?_))
  refine DQ (by omega) (by omega) (DW (fun h=>hno fun hh=>h hh.sn) (fun h7=>?_))
  obtain ⟨n,hn⟩:∃ n:Nat,a.Rows=n:=⟨a.Rows.toNat,by omega⟩
  have hsl:a.Start.length=n+1:=by omega
  refine pS (by omega) (fun hup=>AV rfl ?_) (fun hb=>BM rfl (hno fun hh=>?_))
  rotate_left
  · obtain ⟨i,hi,hbad⟩:=hb
    exact hbad (hh.up i (by omega))
  have hup':∀ i:Nat,i<n→HI a.Start i≤HI a.Start ((i:Int)+1):=fun i hi=>hup i (by omega)
  rw [hn] at h7 ⊢
  refine EO n (by omega) (fun i=>∀ j:Nat,j<i→AdI a j) (by simp) (fun i next hi hR hnx=>?_) (fun next hR=>?_)
  · refine AD (fun _=>?_) (fun h=>by omega)
    have e1:AJ ((i:Int)+1)=(i:Int)+1:=AX (by omega) (by omega)
    rw [e1] at hnx ⊢
    have hlo:0≤HI a.Start i:=by have:=vJ hup' (i:=0) (j:=i) (by omega) (by omega); rw [show ((0:Nat):Int)=0 from rfl,h6] at this; exact this
    have hhi:HI a.Start ((i:Int)+1)≤a.Col.length:=by
      have:=vJ hup' (i:=i+1) (j:=n) (by omega) (by omega)
      rw [h7,show ((i+1:Nat):Int)=(i:Int)+1 by omega] at this; exact this
    have hm:=hup' i hi
    refine DQ (by omega) (by omega) (DQ (by omega) (by omega) ⟨hlo,hm,hhi,?_⟩)
    have hsl2:=AbS hlo hm hhi
    have heq:∀ j:Nat,HI a.Start i+j<HI a.Start ((i:Int)+1)→HI ((a.Col.take (HI a.Start ((i:Int)+1)).toNat).drop (HI a.Start i).toNat) j=HI a.Col (HI a.Start i+j):=fun j hj=>AbR hlo hm hhi hj
    refine AdJ (by omega) (by omega) (by rw [hsl2]; omega) (fun hall=>AV rfl (hnx fun j hj=>?_)) (fun hb=>BM rfl (hno fun hh=>?_))
    · by_cases e:j=i
      · subst e
        intro p hp1 hp2
        obtain ⟨q,hq⟩:∃ q:Nat,(p:Int)=HI a.Start j+q:=⟨(p - HI a.Start j).toNat,by omega⟩
        have hr:=hall q (by rw [hsl2]; omega)
        rw [heq q (by omega),←hq] at hr
        refine ⟨hr.1,hr.2.1,fun hlt=>?_⟩
        have:=hr.2.2 (by omega)
        rw [show (q:Int) - 1=((q - 1:Nat):Int) by omega,heq (q - 1) (by omega),show HI a.Start j+((q - 1:Nat):Int)=(p:Int) - 1 by omega] at this
        exact this
      · exact hR j (by omega)
    · obtain ⟨q,hq,hbad⟩:=hb
      rw [hsl2] at hq
      apply hbad
      have hr:=hh.row i (by omega) (HI a.Start i+q).toNat (by omega) (by omega)
      have ep:(((HI a.Start i+q).toNat:Nat):Int)=HI a.Start i+q:=by omega
      rw [ep] at hr
      rw [heq q (by omega)]
      refine ⟨hr.1,hr.2.1,fun h0=>?_⟩
      have:=hr.2.2 (by omega)
      rw [show (q:Int) - 1=((q - 1:Nat):Int) by omega,heq (q - 1) (by omega),show HI a.Start i+((q - 1:Nat):Int)=HI a.Start i+q - 1 by omega]
      exact this
  · refine AD (fun h=>by omega) (fun _=>hyes ⟨h1.1,h1.2,h2.1,h2.2,h3,by omega,by omega,h6,by rw [hn]; exact h7,fun i hi=>hup' i (by omega),fun i hi=>hR i (by omega)⟩)
theorem mX {a:Rows} {Q:Bool→Prop} (hl:QJ a) (hQ:Q (decide (QE a))):TM a Q:=by
  unfold TM
  have hno (h:¬QE a):Q false:=by rwa [decide_eq_false h] at hQ
  have hyes (h:QE a):Q true:=by rwa [decide_eq_true h] at hQ
  unfold QJ at hl
  refine AD (fun h=>hno fun hh=>by have:=hh.r0; omega) (fun h1=>?_)
  refine AD (fun h=>hno fun hh=>by have:=hh.r1; omega) (fun h2=>?_)
  refine AD (fun h=>hno fun hh=>by have:=hh.c0; omega) (fun h1'=>?_)
  refine AD (fun h=>hno fun hh=>by have:=hh.c1; omega) (fun h2'=>?_)
  rw [AX (by omega) (by omega)]
  refine DW (fun h=>hno fun hh=>h hh.sl) (fun h3=>?_)
  refine DW (fun h=>hno fun hh=>h (by rw [hh.vl])) (fun h4=>?_)
  refine AD (fun h=>hno fun hh=>by have:=hh.cl; omega) (fun h5=>?_)
  refine DQ (by omega) (by omega) (DW (fun h=>hno fun hh=>h hh.s0) (fun h6=>?_))
  refine DQ (by omega) (by omega) (DW (fun h=>hno fun hh=>h hh.sn) (fun h7=>?_))
  obtain ⟨n,hn⟩:∃ n:Nat,a.Rows=n:=⟨a.Rows.toNat,by omega⟩
  have hsl:a.Start.length=n+1:=by omega
  rw [hn] at h7 ⊢
  refine EO n (by omega) (fun i=>(∀ j:Nat,j<i→HI a.Start j≤HI a.Start ((j:Int)+1))∧∀ j:Nat,j<i→AdI a j) ⟨by simp,by simp⟩ (fun i next hi hR hnx=>?_) (fun next hR=>?_)
  · refine AD (fun _=>?_) (fun h=>by omega)
    have e1:AJ ((i:Int)+1)=(i:Int)+1:=AX (by omega) (by omega)
    rw [e1] at hnx ⊢
    refine DQ (by omega) (by omega) (DQ (by omega) (by omega) (AD (fun h=>hno fun hh=>by have:=hh.up i (by omega); omega) (fun hm=>?_)))
    have hlo:0≤HI a.Start i:=by have:=vJ hR.1 (i:=0) (j:=i) (by omega) (by omega); rw [show ((0:Nat):Int)=0 from rfl,h6] at this; exact this
    refine DQ (by omega) (by omega) (AD (fun h=>by omega) (fun _=>DQ (by omega) (by omega) (AD (fun h=>hno fun hh=>?_) (fun hhi=>?_))))
    · have:=vJ (n:=n) (fun j hj=>hh.up j (by omega)) (i:=i+1) (j:=n) (by omega) (by omega)
      rw [h7,show ((i+1:Nat):Int)=(i:Int)+1 by omega] at this; omega
    refine DQ (by omega) (by omega) ?_
    obtain ⟨lo,elo⟩:∃ lo:Nat,HI a.Start i=lo:=⟨(HI a.Start i).toNat,by omega⟩
    obtain ⟨hi',ehi⟩:∃ hi:Nat,HI a.Start ((i:Int)+1)=hi:=⟨(HI a.Start ((i:Int)+1)).toNat,by omega⟩
    rw [elo]
    refine BE (σ:=Unit) (fun _ j=>j) lo hi' (by omega) (fun j _=>∀ p:Nat,lo≤p→p<j→0≤HI a.Col p∧HI a.Col p<a.Cols∧(lo<p→HI a.Col ((p:Int) - 1)<HI a.Col p)) (by omega) (s0:=()) (fun p h1 h2=>by omega) (fun j _ nx hj1 hj2 hI hnj=>?_) (fun _ nx hI=>?_)
    · refine DQ (by omega) (by omega) (AD (fun _=>?_) (fun h=>by omega))
      have hbad (h:¬(0≤HI a.Col j∧HI a.Col j<a.Cols∧(lo<j→HI a.Col ((j:Int) - 1)<HI a.Col j))):Q false:=hno fun hh=>h (by
        have:=hh.row i (by omega) j (by omega) (by omega)
        rw [elo] at this
        exact ⟨this.1,this.2.1,fun h=>this.2.2 (by omega)⟩)
      refine DQ (by omega) (by omega) (AD (fun h=>hbad fun hh=>by omega) (fun g1=>?_))
      refine DQ (by omega) (by omega) (AD (fun h=>hbad fun hh=>by omega) (fun g2=>?_))
      have hstep (hx:lo<j→HI a.Col ((j:Int) - 1)<HI a.Col j):nx (AJ ((j:Int)+1)):=hnj () fun p hp1 hp2=>by
        by_cases e:p=j
        · subst e; exact ⟨by omega,by omega,hx⟩
        · exact hI p hp1 (by omega)
      refine DQ (by omega) (by omega) (AD (fun h=>?_) (fun h=>hstep fun h'=>by omega))
      rw [AX (by omega) (by omega)]
      refine DQ (by omega) (by omega) (DQ (by omega) (by omega) (AD (fun h=>hbad fun hh=>by have:=hh.2.2 (by omega); omega) (fun g3=>hstep fun _=>by omega)))
    · refine DQ (by omega) (by omega) (AD (fun h=>by omega) (fun _=>?_))
      refine hnx ⟨fun j hj=>?_,fun j hj=>?_⟩
      · by_cases e:j=i
        · subst e; omega
        · exact hR.1 j (by omega)
      · by_cases e:j=i
        · subst e
          intro p hp1 hp2
          have:=hI p (by omega) (by omega)
          exact ⟨this.1,this.2.1,fun h=>this.2.2 (by omega)⟩
        · exact hR.2 j (by omega)
  · refine AD (fun h=>by omega) (fun _=>hyes ⟨by omega,by omega,by omega,by omega,h3,by omega,by omega,h6,by rw [hn]; exact h7,fun i hi=>hR.1 i (by omega),fun i hi=>hR.2 i (by omega)⟩)
def key (t:AC):IC:=(t.Row,t.Col)
def Srt (ts:List AC):Prop:=ts.Pairwise fun a b=>PV (key a) (key b)
structure Canon (rows cols:Int) (ts:List AC):Prop where
  r0:0≤rows
  r1:rows≤4096
  c0:0≤cols
  c1:cols≤4096
  len:ts.length≤65536
  srt:Srt ts
  inn:∀ t∈ts,UM rows cols t
theorem iJ {α:Type} {q:α→Bool}:∀ {l:List α},l.Pairwise (fun a b=>q b=true→q a=true)→∀ (i:Nat) (h:i<l.length),(q l[i]=true↔i<l.countP q)
  | [],_,i,h=>by simp at h
  | a :: l,hp,i,h=>by
    rw [List.pairwise_cons] at hp
    rw [List.countP_cons]
    by_cases ha:q a=true
    · rw [if_pos ha]
      cases i with
      | zero=>simp [ha]
      | succ i=>
        have:=iJ hp.2 i (by simpa using h)
        simp only [List.getElem_cons_succ]
        rw [this]; omega
    · rw [if_neg ha]
      have hz:l.countP q=0:=List.countP_eq_zero.2 fun b hb h'=>ha (hp.1 b hb h')
      rw [hz]
      refine ⟨fun h'=>absurd ?_ ha,fun h=>by omega⟩
      cases i with
      | zero=>exact h'
      | succ i=>exact hp.1 _ (List.getElem_mem _) h'
theorem Srt.row {ts:List AC} (h:Srt ts) (v:Nat) (p:Nat) (hp:p<ts.length):ts[p].Row<v↔(p:Int)<EF ts v:=by
  have:=iJ (q:=fun t:AC=>decide (t.Row<(v:Int))) (l:=ts) (List.Pairwise.imp (fun {a b} hab=>by
    simp only [decide_eq_true_eq]
    unfold PV key at hab
    simp only at hab
    omega) h) p hp
  simp only [decide_eq_true_eq] at this
  rw [this]; unfold EF; omega
theorem AdK {f:Nat→Int} {n:Nat} {i:Int} (h0:0≤i) (h:i<n):HI ((List.range n).map f) i=f i.toNat:=by
  unfold HI
  rw [List.getD_eq_getElem?_getD,OU (by omega)]; rfl
theorem vK {α:Type} {f:α→Int} {xs:List α} {i:Int} (h0:0≤i) (h:i<xs.length):HI (xs.map f) i=f (xs[i.toNat]'(by omega)):=by
  unfold HI
  simp [List.getD_eq_getElem?_getD,show i.toNat<xs.length by omega]
theorem XV {rows cols:Int} {ts:List AC} {i:Int} (h0:0≤i) (h:i≤rows):HI (AZ rows cols ts).Start i=EF ts i.toNat:=AdK h0 (by omega)
theorem YQ {rows cols:Int} {ts:List AC} (h:Canon rows cols ts):EF ts rows.toNat=ts.length:=by
  have h0:=h.r0
  unfold EF
  rw [List.countP_eq_length.2]
  intro t ht
  have:=h.inn t ht
  unfold UM at this
  simp; omega
theorem WF {ts:List AC} (h:∀ t∈ts,0≤t.Row):EF ts 0=0:=by
  unfold EF
  rw [List.countP_eq_zero.2]; · rfl
  intro t ht
  have:=h t ht
  simp; omega
theorem Srt.at {ts:List AC} (h:Srt ts) {i p:Nat} (hp:p<ts.length):ts[p].Row=i↔EF ts i≤p∧(p:Int)<EF ts (i+1):=by
  have h1:=h.row i p hp
  have h2:=h.row (i+1) p hp
  omega
theorem Canon.right {rows cols:Int} {ts:List AC} (h:Canon rows cols ts):QE (AZ rows cols ts) where
  r0:=h.r0
  r1:=h.r1
  c0:=h.c0
  c1:=h.c1
  sl:=by have:=h.r0; simp [AZ]; omega
  vl:=by simp [AZ]
  cl:=by simpa [AZ] using h.len
  s0:=by
    have:=h.r0
    rw [XV (by omega) (by omega)]
    exact WF fun t ht=>(h.inn t ht).1
  sn:=by
    have:=h.r0
    show HI (AZ rows cols ts).Start rows=_
    rw [XV (by omega) (by omega),YQ h]; simp [AZ]
  up i hi:=by
    have hi:(i:Int)<rows:=hi
    rw [XV (by omega) (by omega),XV (by omega) (by omega)]
    have e1:((i:Int)).toNat=i:=by omega
    have e2:((i:Int)+1).toNat=i+1:=by omega
    rw [e1,e2,WE i ts fun t ht=>(h.inn t ht).1]
    have:=bY ts (i+1)
    omega
  row i hi:=by
    have hi:(i:Int)<rows:=hi
    intro j hj1 hj2
    rw [XV (by omega) (by omega)] at hj1 hj2 ⊢
    have e1:((i:Int)).toNat=i:=by omega
    have e2:((i:Int)+1).toNat=i+1:=by omega
    rw [e1] at hj1 ⊢
    rw [e2] at hj2
    have hb:=XU ts (i+1)
    have hjl:j<ts.length:=by omega
    have hc:HI (AZ rows cols ts).Col j=ts[j].Col:=by
      show HI (ts.map (·.Col)) j=_
      rw [vK (by omega) (by omega)]; rfl
    have hin:=h.inn _ (List.getElem_mem hjl)
    have hr:=(h.srt.at hjl (i:=i)).2 ⟨hj1,hj2⟩
    unfold UM at hin
    refine ⟨by rw [hc]; omega,by rw [hc]; exact hin.2.2.2,fun hlt=>?_⟩
    obtain ⟨q,rfl⟩:∃ q,j=q+1:=⟨j - 1,by have:=XU ts i; omega⟩
    have hc2:HI (AZ rows cols ts).Col (((q+1:Nat):Int) - 1)=ts[q].Col:=by
      show HI (ts.map (·.Col)) _=_
      rw [vK (by omega) (by omega)]
      simp
    have hr2:=(h.srt.at (show q<ts.length by omega) (i:=i)).2 ⟨by omega,by omega⟩
    have hs:=List.pairwise_iff_getElem.1 h.srt q (q+1) (by omega) hjl (by omega)
    unfold PV key at hs
    simp only at hs
    rw [hc,hc2]; omega
theorem pT:Canon 0 0 []:=⟨by omega,by omega,by omega,by omega,by simp,.nil,by simp⟩
noncomputable def VC (a:Rows):Rows:=if QE a then a else AZ 0 0 []
theorem mY {a:Rows} {Q:Rows→Prop} (hl:QJ a) (hQ:Q (VC a)):UW a Q:=by
  unfold UW UV
  unfold VC at hQ
  refine bZ hl (AD (fun h=>?_) (fun h=>?_))
  · rwa [if_pos h] at hQ
  · rw [if_neg h] at hQ
    exact ⟨by decide,by decide,hQ⟩
theorem PX {a:Rows} {Q:Rows→Prop} (hl:QJ a) (hQ:Q (VC a)):KI a Q:=by
  unfold KI KE
  unfold VC at hQ
  refine mX hl (AD (fun h=>?_) (fun h=>?_))
  · rwa [if_pos h] at hQ
  · rw [if_neg h] at hQ
    exact ⟨by decide,by decide,hQ⟩
end Go.Proofs.YtbohadngdkjljaaGreat
