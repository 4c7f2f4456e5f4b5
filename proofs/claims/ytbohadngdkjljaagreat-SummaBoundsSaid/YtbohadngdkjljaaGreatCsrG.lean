import Derived.Test.YtbohadngdkjljaaGreatCsrC
namespace Go.Proofs.YtbohadngdkjljaaGreat
open Go Go.Fw
set_option linter.unusedVariables false
set_option linter.unusedSimpArgs false
theorem NZ {f:Nat→Int} {n j:Nat} (h:j<n):((List.range n).map f)[j]? = some (f j):=by simp [h]
theorem rG {f:Nat→Int} {n j:Nat} {v:Int}:((List.range n).map f).set j v=(List.range n).map (fun i=>if i=j then v else f i):=by
  apply List.ext_getElem?
  intro i
  rw [List.getElem?_set]
  simp only [List.length_map,List.length_range]
  by_cases e:j=i
  · subst e
    by_cases h:j<n
    · rw [if_pos rfl,if_pos h,NZ h,if_pos rfl]
    · rw [if_pos rfl,if_neg h,List.getElem?_eq_none (by simp; omega)]
  · rw [if_neg e]
    by_cases h:i<n
    · rw [NZ h,NZ h,if_neg (fun h=>e h.symm)]
    · rw [List.getElem?_eq_none (by simp; omega),List.getElem?_eq_none (by simp; omega)]
theorem RT {f g:Nat→Int} {n:Nat} (h:∀ j,j<n→f j=g j):(List.range n).map f=(List.range n).map g:=List.map_congr_left fun j hj=>h j (by simpa using hj)
def EG (ts:List AC) (j:Nat):Int:=((ts.countP (fun t:AC=>decide (t.Row<(j:Int))):Nat):Int)
def UC (ts:List AC) (j:Nat):Int:=((ts.countP (fun t:AC=>decide (t.Row+1=(j:Int))):Nat):Int)
theorem rH (ts:List AC) (t:AC) (j:Nat):EG (ts++[t]) j=EG ts j+if t.Row<j then 1 else 0:=by
  unfold EG; rw [List.countP_append,List.countP_singleton]; simp only [decide_eq_true_eq]; split <;> simp
theorem rI (ts:List AC) (t:AC) (j:Nat):UC (ts++[t]) j=UC ts j+if t.Row+1=j then 1 else 0:=by
  unfold UC; rw [List.countP_append,List.countP_singleton]; simp only [decide_eq_true_eq]; split <;> simp
theorem WU (ts:List AC) (j:Nat):0≤EG ts j∧EG ts j≤ts.length:=by
  unfold EG; have:=List.countP_le_length (p:=fun t:AC=>decide (t.Row<(j:Int))) (l:=ts); omega
theorem aP (ts:List AC) (j:Nat):0≤UC ts j∧UC ts j≤ts.length:=by
  unfold UC; have:=List.countP_le_length (p:=fun t:AC=>decide (t.Row+1=(j:Int))) (l:=ts); omega
theorem VD (j:Nat):∀ (ts:List AC),(∀ t∈ts,0≤t.Row)→EG ts (j+1)=EG ts j+UC ts (j+1)
  | [],_=>rfl
  | t :: ts,h=>by
    have:=VD j ts fun x hx=>h x (by simp [hx])
    unfold EG UC at *
    simp only [List.countP_cons]
    have h0:=h t (by simp)
    by_cases h1:t.Row<j
    · have h2:t.Row<(j+1:Nat):=by omega
      have h3:¬t.Row+1=((j+1:Nat):Int):=by omega
      simp only [h1,h2,h3,decide_true,decide_false,if_true,if_false]; simp only [Bool.false_eq_true,if_false]; omega
    · by_cases h4:t.Row+1=((j+1:Nat):Int)
      · have h2:t.Row<(j+1:Nat):=by omega
        simp only [h1,h2,h4,decide_true,decide_false,if_true,if_false]; simp only [Bool.false_eq_true,if_false]; omega
      · have h2:¬t.Row<(j+1:Nat):=by omega
        simp only [h1,h2,h4,decide_true,decide_false,if_true,if_false]; simp only [Bool.false_eq_true,if_false]; omega
def BF (rows cols:Int) (ts:List AC):Rows:=⟨rows,cols,(List.range (rows.toNat+1)).map (EG ts),ts.map (·.Col),ts.map (·.Val)⟩
theorem bZ (n:Nat):List.replicate n (0:Int)=(List.range n).map fun _=>0:=by
  apply List.ext_getElem?
  intro i
  by_cases h:i<n
  · rw [NZ h]; simp [h]
  · rw [List.getElem?_eq_none (by simp; omega),List.getElem?_eq_none (by simp; omega)]
theorem oM {rows cols:Int} {ts:List AC} {Q:Rows→Prop} (h0:0≤rows) (h1:rows≤1000000) (hl:ts.length≤1000000) (ht:∀ t∈ts,0≤t.Row∧t.Row<rows) (hQ:Q (BF rows cols ts)):QM rows cols ts Q:=by
  unfold QM TU
  obtain ⟨n,rfl⟩:∃ n:Nat,rows=n:=⟨rows.toNat,by omega⟩
  have e:AJ ((n:Int)+1)=(n+1:Nat):=by rw [AV (by omega) (by omega)]; omega
  rw [e]
  refine ⟨by omega,by omega,?_⟩
  simp only [Int.toNat_natCast]
  rw [bZ]
  refine BH (fun (s:List Int×List Int×List Int) i=>(s.1,s.2.1,s.2.2,i)) 0 ts.length (s0:=((List.range (n+1)).map fun _=>0,[],[])) (by omega) (fun i s=>s=((List.range (n+1)).map (UC (ts.take i)),(ts.take i).map (·.Col),(ts.take i).map (·.Val))) (by omega) (by simp [UC]) (fun i s next _ hi hm hn=>?_) (fun s next hm=>?_)
  · subst hm
    dsimp only
    have hr:=ht _ (List.getElem_mem hi)
    refine AD (fun _=>?_) (fun h=>by omega)
    refine BG hi ?_
    obtain ⟨q,hq⟩:∃ q:Nat,ts[i].Row=q:=⟨ts[i].Row.toNat,by omega⟩
    have e2:AJ (ts[i].Row+1)=(q+1:Nat):=by rw [AV (by omega) (by omega)]; omega
    rw [e2]
    have hc:=aP (ts.take i) (q+1)
    have htl:(ts.take i).length≤ts.length:=by simp; omega
    refine AM (by omega) (NZ (by omega)) (AM (by omega) (NZ (by omega)) (BI (by simp; omega) (BI (by simp; omega) (hn ((List.range (n+1)).map (UC (ts.take (i+1))),(ts.take (i+1)).map (·.Col),(ts.take (i+1)).map (·.Val)) rfl |> cast ?_))))
    congr 1
    simp only [Int.toNat_natCast]
    rw [rG,GX hi,GX hi]
    refine Prod.ext (RT fun j hj=>?_) rfl
    rw [List.take_succ_eq_append_getElem hi,rI]
    by_cases ej:j=q+1
    · subst ej; rw [if_pos (by omega),if_pos rfl,AV (by omega) (by omega)]
    · rw [if_neg (by omega),if_neg ej]; omega
  · subst hm
    dsimp only
    refine AD (fun h=>by omega) (fun _=>?_)
    simp only [List.take_length]
    refine BH (fun (s:List Int) i=>(s,i)) 0 n (by omega) (fun i s=>s=(List.range (n+1)).map fun j=>if j≤i then EG ts j else UC ts j) (by omega) (RT fun j hj=>?_) (fun i s next _ hi hm hn=>?_) (fun s next hm=>?_)
    · by_cases ej:j≤0
      · rw [if_pos ej,show j=0 by omega]
        have:∀ t∈ts,¬t.Row<((0:Nat):Int):=fun t h=>by have:=ht t h; omega
        have h2:∀ t∈ts,¬t.Row+1=((0:Nat):Int):=fun t h=>by have:=ht t h; omega
        unfold UC EG
        rw [List.countP_eq_zero.2 (by simpa using h2),List.countP_eq_zero.2 (by simpa using this)]
      · rw [if_neg ej]
    · subst hm
      refine AD (fun _=>?_) (fun h=>by omega)
      have e2:AJ ((i:Int)+1)=(i+1:Nat):=by rw [AV (by omega) (by omega)]; omega
      rw [e2] at hn ⊢
      refine AM (by omega) (NZ (by omega)) (AM (by omega) (NZ (by omega)) (AM (by omega) (NZ (by omega)) (hn _ ?_)))
      simp only [Int.toNat_natCast]
      rw [rG]
      refine RT fun j hj=>?_
      have hb1:=WU ts i
      have hb2:=aP ts (i+1)
      rw [if_neg (show ¬i+1≤i by omega),if_pos (Nat.le_refl i),AV (by omega) (by omega)]
      by_cases ej:j=i+1
      · subst ej; rw [if_pos rfl,if_pos (Nat.le_refl _),VD i ts fun t h=>(ht t h).1]; omega
      · rw [if_neg ej]
        by_cases h:j≤i
        · rw [if_pos h,if_pos (by omega)]
        · rw [if_neg h,if_neg (by omega)]
    · subst hm
      refine AD (fun h=>by omega) (fun _=>?_)
      rw [RT (g:=EG ts) fun j hj=>if_pos (by omega)]
      exact hQ
theorem lS {rows cols:Int} {ts:List AC} {Q:Rows→Prop} (h0:0≤rows) (h1:rows≤1000000) (hl:ts.length≤1000000) (ht:∀ t∈ts,0≤t.Row∧t.Row<rows) (hQ:Q (BF rows cols ts)):SO rows cols ts Q:=by
  unfold SO JU
  obtain ⟨n,rfl⟩:∃ n:Nat,rows=n:=⟨rows.toNat,by omega⟩
  have e:AJ ((n:Int)+1)=(n+1:Nat):=by rw [AV (by omega) (by omega)]; omega
  rw [e]
  refine ⟨by omega,by omega,?_⟩
  simp only [Int.toNat_natCast]
  rw [bZ]
  refine BH (fun (s:List Int×List Int×List Int) i=>(s.1,s.2.1,s.2.2,i)) 0 ts.length (s0:=((List.range (n+1)).map fun _=>0,[],[])) (by omega) (fun i s=>s=((List.range (n+1)).map (EG (ts.take i)),(ts.take i).map (·.Col),(ts.take i).map (·.Val))) (by omega) (by simp [EG]) (fun i s next _ hi hm hn=>?_) (fun s next hm=>?_)
  · subst hm
    dsimp only
    have hr:=ht _ (List.getElem_mem hi)
    refine AD (fun _=>?_) (fun h=>by omega)
    refine BG hi (BI (by simp; omega) (BG hi (BI (by simp; omega) (BG hi ?_))))
    obtain ⟨q,hq⟩:∃ q:Nat,ts[i].Row=q:=⟨ts[i].Row.toNat,by omega⟩
    have e2:AJ (ts[i].Row+1)=(q+1:Nat):=by rw [AV (by omega) (by omega)]; omega
    rw [e2]
    have htl:(ts.take i).length≤ts.length:=by simp; omega
    refine BH (fun (s:List Int) j=>(s,j)) (q+1) (n+1) (by omega) (fun j s=>s=(List.range (n+1)).map fun p=>EG (ts.take i) p+if q+1≤p∧p<j then 1 else 0) (by omega) (RT fun j hj=>by rw [if_neg (by omega)]; omega) (fun j s next hj1 hj2 hm hnx=>?_) (fun s next hm=>?_)
    · subst hm
      refine AD (fun _=>?_) (fun h=>by omega)
      have hb:=WU (ts.take i) j
      refine AM (by omega) (NZ (by omega)) (AM (by omega) (NZ (by omega)) (hnx _ ?_))
      simp only [Int.toNat_natCast]
      rw [rG]
      refine RT fun p hp=>?_
      rw [if_neg (show ¬(q+1≤j∧j<j) by omega),AV (by omega) (by omega)]
      by_cases ep:p=j
      · subst ep; rw [if_pos rfl,if_pos (by omega)]; omega
      · rw [if_neg ep]
        by_cases h:q+1≤p∧p<j
        · rw [if_pos h,if_pos (by omega)]
        · rw [if_neg h,if_neg (by omega)]
    · subst hm
      refine AD (fun h=>by omega) (fun _=>?_)
      refine hn ((List.range (n+1)).map (EG (ts.take (i+1))),(ts.take (i+1)).map (·.Col),(ts.take (i+1)).map (·.Val)) rfl |> cast ?_
      congr 1
      simp only
      rw [GX hi,GX hi]
      refine Prod.ext (RT fun p hp=>?_) rfl
      rw [List.take_succ_eq_append_getElem hi,rH]
      by_cases h:q+1≤p
      · rw [if_pos (by omega),if_pos (by omega)]
      · rw [if_neg (by omega),if_neg (by omega)]
  · subst hm
    dsimp only
    refine AD (fun h=>by omega) (fun _=>?_)
    simp only [List.take_length]
    exact hQ
def zR:Rows:=⟨0,0,[],[],[]⟩
def UD (rows cols:Int) (t:AC):Prop:=0≤t.Row∧t.Row<rows∧0≤t.Col∧t.Col<cols
instance (rows cols:Int) (t:AC):Decidable (UD rows cols t):=by unfold UD; infer_instance
def xZ (r rows cols:Int) (ts:List AC):Rows×Int:=
  if ¬(1≤r∧r≤5) then (zR,8)
  else if ¬(0≤rows∧rows≤4096∧0≤cols∧cols≤4096) then (zR,3)
  else if 65536<ts.length then (zR,5)
  else if ¬ ∀ t∈ts,UD rows cols t then (zR,3)
  else if (PE (SC r (ts.map eC)) qO).2≠0 then (zR,(PE (SC r (ts.map eC)) qO).2)
  else (BF rows cols (PE (SC r (ts.map eC)) qO).1,0)
theorem tS {r:Int}:∀ {ts:List (HS×Int)} {p:HS×AP},p∈SC r ts→∃ t∈ts,t.1=p.1:=by
  suffices ∀ (ts:List (HS×Int)) (l:List (HS×AP)) p,p∈ts.foldl (fun l t=>ins r t.1 (ZQ t.2) l) l→(∃ t∈ts,t.1=p.1)∨∃ q∈l,q.1=p.1 from fun {ts p} h=>by
    rcases this ts [] p h with h | ⟨q,hq,_⟩
    · exact h
    · simp at hq
  intro ts
  induction ts with
  | nil=>intro l p h; exact .inr ⟨p,h,rfl⟩
  | cons t ts ih=>
    intro l p h
    rcases ih _ _ h with ⟨x,hx,e⟩ | ⟨q,hq,e⟩
    · exact .inl ⟨x,by simp [hx],e⟩
    · rcases gB hq with e2 | ⟨y,hy,e2⟩
      · exact .inl ⟨t,by simp,by rw [←e,e2]⟩
      · exact .inr ⟨y,hy,by rw [e2,e]⟩
theorem yA {r rows cols:Int} {ts:List AC} (h:∀ t∈ts,UD rows cols t):∀ t∈(PE (SC r (ts.map eC)) qO).1,UD rows cols t:=by
  intro t ht
  unfold PE at ht
  split at ht
  · obtain ⟨p,hp,rfl⟩:=List.mem_map.1 ht
    obtain ⟨x,hx,e⟩:=tS hp
    obtain ⟨y,hy,rfl⟩:=List.mem_map.1 hx
    have:=h y hy
    unfold UD qO at *
    rw [←e]
    exact this
  · simp at ht
theorem lT {α:Type} {mk:HS→Int→α} (l:List (HS×AP)):(PE l mk).1.length≤l.length:=by
  unfold PE; split <;> simp
theorem IU {x y:Int} {Q:Bool→Prop} (hQ:Q (decide (0≤x∧x≤y))):GA x y Q:=by
  unfold GA
  refine AD (fun h=>?_) (fun h=>?_)
  · rwa [show decide (x≤y)=decide (0≤x∧x≤y) by apply decide_eq_decide.2; omega]
  · rwa [show decide (0≤x∧x≤y)=false by apply decide_eq_false; omega] at hQ
theorem yB {r rows cols:Int} {ts:List AC} {Q:Rows×Int→Prop} (hl:ts.length≤1000000000000) (hv:∀ t∈ts,JO t.Val) (hQ:Q (xZ r rows cols ts)):RJ r rows cols ts Q:=by
  unfold RJ
  unfold xZ at hQ
  refine LN (CR (fun h=>?_) (fun h=>?_))
  · rw [if_pos (by simpa using h)] at hQ; exact hQ
  have hr:1≤r∧r≤5:=by simpa using h
  rw [if_neg (by simpa using hr)] at hQ
  refine FM (fun b=>b=decide (¬(0≤rows∧rows≤4096∧0≤cols∧cols≤4096))) ?_ fun k hk=>?_
  · rintro _ rfl
    refine AD (fun h=>?_) (fun h=>?_)
    · rw [if_pos h] at hQ; exact hQ
    have hrc:0≤rows∧rows≤4096∧0≤cols∧cols≤4096:=by simpa using h
    rw [if_neg h] at hQ
    refine AD (fun h=>?_) (fun h=>?_)
    · rw [if_pos (by omega)] at hQ; exact hQ
    rw [if_neg (by omega)] at hQ
    have e1:AJ (rows - 1)=rows - 1:=AV (by omega) (by omega)
    have e2:AJ (cols - 1)=cols - 1:=AV (by omega) (by omega)
    unfold CN CV
    refine EX ts.length (by omega) (fun i=>∀ (j:Nat) (hj:j<ts.length),j<i→UD rows cols ts[j]) (by simp) (fun i next hi hR hn=>?_) (fun next hR=>?_)
    · refine AD (fun _=>?_) (fun h=>by omega)
      refine BG hi ?_
      unfold UV
      rw [e1,e2]
      have hbad (h:¬UD rows cols ts[i]):AQ (decide (0≤(i:Int))) (Q (zR,3)) (RH r ts fun r213=>AQ (r213.2 != 0) (Q (zR,r213.2)) (QM rows cols r213.1 fun r226=>Q (r226,0))):=by
        refine AD (fun _=>?_) (fun h=>by omega)
        rw [if_pos (fun h'=>h (h' _ (List.getElem_mem hi)))] at hQ; exact hQ
      refine IU (CR (fun h=>BN rfl (hbad ?_)) (fun h=>IU (CR (fun h2=>hbad ?_) (fun h2=>hn fun j hj hji=>?_))))
      · unfold UD; simp at h; omega
      · unfold UD; simp at h2; omega
      · by_cases e:j=i
        · subst e; unfold UD; simp at h h2; omega
        · exact hR j hj (by omega)
    · refine AD (fun h=>by omega) (fun _=>AW (by decide) ?_)
      have hall:∀ t∈ts,UD rows cols t:=by
        intro t ht
        obtain ⟨j,hj,rfl⟩:=List.getElem_of_mem ht
        exact hR j hj hj
      rw [if_neg (by simpa using hall)] at hQ
      have hlen:(SC r (ts.map eC)).length≤65536:=by
        have:=(VC r (ts.map eC) (fun t ht=>by obtain ⟨x,hx,rfl⟩:=List.mem_map.1 ht; exact hv x hx)).1
        simp at this; omega
      refine vI (by omega) hv (EW (fun h=>?_) (fun h=>oM (by omega) (by omega) ?_ ?_ ?_))
      · rw [if_pos h] at hQ; exact hQ
      · exact Nat.le_trans (lT _) (by omega)
      · intro t ht
        have:=yA hall t ht
        unfold UD at this; omega
      · rw [if_neg (by simpa using h)] at hQ; exact hQ
  · refine IU (CR (fun h=>hk _ ?_) (fun h=>IU (hk _ ?_)))
    · symm; apply decide_eq_true; simp at h; omega
    · simp at h
      by_cases h2:0≤cols∧cols≤4096 <;> simp [h2,h]
def t2e (t:AC):DL:=⟨t.Row,t.Col,t.Val⟩
def e2t (e:DL):AC:=⟨e.From,e.To,e.W⟩
theorem AdU (l:List (HS×AP)):(PE l qO).1=(PE l mkE).1.map e2t∧(PE l qO).2=(PE l mkE).2:=by
  unfold PE
  split
  · exact ⟨by simp only [List.map_map]; rfl,rfl⟩
  · exact ⟨rfl,rfl⟩
theorem cC {r rows cols:Int} {ts:List AC} {Q:Rows×Int→Prop} (hl:ts.length≤1000000000000) (hv:∀ t∈ts,JO t.Val) (hQ:Q (xZ r rows cols ts)):TS r rows cols ts Q:=by
  unfold TS
  unfold xZ at hQ
  refine dL (CR (fun h=>?_) (fun h=>?_))
  · rw [if_pos (by simpa using h)] at hQ; exact hQ
  have hr:1≤r∧r≤5:=by simpa using h
  rw [if_neg (by simpa using hr)] at hQ
  have h3 (h:¬(0≤rows∧rows≤4096∧0≤cols∧cols≤4096)):Q (zR,3):=by rw [if_pos h] at hQ; exact hQ
  refine AD (fun h=>h3 (by omega)) (fun h1=>AD (fun h=>h3 (by omega)) (fun h2=>AD (fun h=>h3 (by omega)) (fun h4=>AD (fun h=>h3 (by omega)) (fun h5=>?_))))
  rw [if_neg (by omega)] at hQ
  refine AD (fun h=>?_) (fun h=>?_)
  · rw [if_pos (by omega)] at hQ; exact hQ
  rw [if_neg (by omega)] at hQ
  refine BH (fun (s:List DL) i=>(s,i)) 0 ts.length (by omega) (fun i s=>s=(ts.take i).map t2e∧∀ (j:Nat) (hj:j<ts.length),j<i→UD rows cols ts[j]) (by omega) ⟨rfl,by simp⟩ (fun i s next _ hi hm hn=>?_) (fun s next hm=>?_)
  · obtain ⟨rfl,hR⟩:=hm
    dsimp only
    refine AD (fun _=>?_) (fun h=>by omega)
    have hbad (h:¬UD rows cols ts[i]):Q (zR,3):=by
      rw [if_pos (fun h'=>h (h' _ (List.getElem_mem hi)))] at hQ; exact hQ
    refine BG hi (AD (fun h=>hbad fun h'=>by unfold UD at h'; omega) (fun h6=>?_))
    refine BG hi (AD (fun h=>hbad fun h'=>by unfold UD at h'; omega) (fun h7=>?_))
    refine BG hi (AD (fun h=>hbad fun h'=>by unfold UD at h'; omega) (fun h8=>?_))
    refine BG hi (AD (fun h=>hbad fun h'=>by unfold UD at h'; omega) (fun h9=>?_))
    refine BG hi (BG hi (BG hi (BI ?_ (hn _ ⟨?_,?_⟩))))
    · simp; omega
    · rw [GX hi]; rfl
    · intro j hj hji
      by_cases e:j=i
      · subst e; unfold UD; omega
      · exact hR j hj (by omega)
  · obtain ⟨rfl,hR⟩:=hm
    dsimp only
    refine AD (fun h=>by omega) (fun _=>?_)
    rw [List.take_length]
    have hall:∀ t∈ts,UD rows cols t:=by
      intro t ht
      obtain ⟨j,hj,rfl⟩:=List.getElem_of_mem ht
      exact hR j hj hj
    rw [if_neg (by simpa using hall)] at hQ
    have hkv:(ts.map t2e).map kvE=ts.map eC:=by rw [List.map_map]; rfl
    have hlen:(SC r (ts.map eC)).length≤65536:=by
      have:=(VC r (ts.map eC) (fun t ht=>by obtain ⟨x,hx,rfl⟩:=List.mem_map.1 ht; exact hv x hx)).1
      simp at this; omega
    have hfi:=yA (r:=r) hall
    refine gF hr (by simp; omega) (fun t ht=>by obtain ⟨x,hx,rfl⟩:=List.mem_map.1 ht; exact hv x hx) ?_
    rw [hkv]
    have hf1:=(AdU (SC r (ts.map eC))).1
    have hf2:=(AdU (SC r (ts.map eC))).2
    have hfl:=lT (mk:=mkE) (SC r (ts.map eC))
    rw [hf1] at hfi
    rw [hf1,hf2] at hQ
    generalize PE (SC r (ts.map eC)) mkE=c at hQ hfl hfi
    obtain ⟨es,er⟩:=c
    dsimp only at *
    refine EW (fun h=>?_) (fun h=>?_)
    · rw [if_pos h] at hQ; exact hQ
    rw [if_neg (by simpa using h)] at hQ
    refine BH (fun (s:List AC) i=>(s,i)) 0 es.length (by omega) (fun i s=>s=(es.take i).map e2t) (by omega) rfl (fun i s next _ hi hm hn=>?_) (fun s next hm=>?_)
    · subst hm
      dsimp only
      refine AD (fun _=>?_) (fun h=>by omega)
      refine BG hi (BG hi (BG hi (BI ?_ (hn _ ?_))))
      · simp; omega
      · rw [GX hi]; rfl
    · subst hm
      dsimp only
      refine AD (fun h=>by omega) (fun _=>lS (by omega) (by omega) ?_ ?_ ?_)
      · simp; omega
      · intro t ht
        have:=hfi t (by simpa using ht)
        unfold UD at this; omega
      · rw [List.take_length]; exact hQ
def RU (a:Rows):Prop:=a.Start.length≤1000000000000∧a.Col.length≤1000000000000∧a.Val.length≤1000000000000
def AcJ (a:Rows) (i:Nat):Prop:=∀ j:Nat,HB a.Start i≤j→(j:Int)<HB a.Start ((i:Int)+1)→0≤HB a.Col j∧HB a.Col j<a.Cols∧(HB a.Start i<j→HB a.Col ((j:Int) - 1)<HB a.Col j)
structure PM (a:Rows):Prop where
  r0:0≤a.Rows
  r1:a.Rows≤4096
  c0:0≤a.Cols
  c1:a.Cols≤4096
  sl:(a.Start.length:Int)=a.Rows+1
  vl:a.Val.length=a.Col.length
  cl:a.Col.length≤65536
  s0:HB a.Start 0=0
  sn:HB a.Start a.Rows=a.Col.length
  up:∀ i:Nat,(i:Int)<a.Rows→HB a.Start i≤HB a.Start ((i:Int)+1)
  row:∀ i:Nat,(i:Int)<a.Rows→AcJ a i
noncomputable instance (a:Rows):Decidable (PM a):=Classical.propDecidable _
theorem tT {a:Rows} {n:Nat} (h:∀ i:Nat,i<n→HB a.Start i≤HB a.Start ((i:Int)+1)) {i j:Nat} (h1:i≤j) (h2:j≤n):HB a.Start i≤HB a.Start j:=by
  induction j with
  | zero => have : i = 0 := by omega
            subst this; exact Int.le_refl _
  | succ j ih=>
    by_cases e:i=j+1
    · subst e; exact Int.le_refl _
    · have:=ih (by omega) (by omega)
      have h3:=h j (by omega)
      have:((j+1:Nat):Int)=(j:Int)+1:=by omega
      rw [this]; omega
theorem AaR {x y:Int} {Q:Bool→Prop} (h:Q (decide (x<y))):PX x y Q:=by
  unfold PX HD
  exact AW (by simp) h
theorem oN {xs:List Int} {Q:Bool→Prop} (hl:xs.length≤1000000000) (h1:(∀ i:Nat,i+1<xs.length→HB xs i≤HB xs ((i:Int)+1))→Q true) (h2:(∃ i:Nat,i+1<xs.length∧¬HB xs i≤HB xs ((i:Int)+1))→Q false):FG xs Q:=by
  unfold FG
  rw [AV (by omega) (by omega)]
  by_cases h0:xs.length=0
  · refine EL (fun s:Int=>s = -1) (fun _=>0) (by omega) (fun s next hs hn=>?_)
    subst hs
    exact AD (fun h=>by omega) (fun _=>h1 fun i hi=>by omega)
  refine EL (fun s:Int=>∃ j:Nat,s=j∧j<xs.length∧∀ i:Nat,j≤i→i+1<xs.length→HB xs i≤HB xs ((i:Int)+1)) (fun s=>s.toNat) ⟨xs.length - 1,by omega,by omega,fun i hi h=>by omega⟩ ?_
  rintro _ next ⟨j,rfl,hj,hR⟩ hn
  refine AD (fun h=>?_) (fun h=>h1 fun i hi=>hR i (by omega) hi)
  obtain ⟨j,rfl⟩:∃ q,j=q+1:=⟨j - 1,by omega⟩
  have e:AJ (((j+1:Nat):Int) - 1)=(j:Int):=by rw [AV (by omega) (by omega)]; omega
  rw [e]
  refine DN (by omega) (by omega) (DN (by omega) (by omega) (AaR (AD (fun hlt=>h2 ⟨j,by omega,?_⟩) (fun hlt=>hn _ ⟨j,rfl,by omega,fun i hi h=>?_⟩ (by omega)))))
  · have:((j+1:Nat):Int)=(j:Int)+1:=by omega
    rw [this] at hlt; omega
  · by_cases e:i=j
    · subst e
      have:((i+1:Nat):Int)=(i:Int)+1:=by omega
      rw [this] at hlt; omega
    · exact hR i (by omega) h
theorem AaS {xs:List Int} {lo hi:Int} {j:Nat} (h0:0≤lo) (h1:lo≤hi) (h2:hi≤xs.length) (hj:lo+j<hi):HB ((xs.take hi.toNat).drop lo.toNat) j=HB xs (lo+j):=by
  unfold HB
  simp only [List.getD_eq_getElem?_getD,List.getElem?_drop,Int.toNat_natCast]
  rw [List.getElem?_take_of_lt (by omega)]
  congr 2; omega
theorem AaT {α:Type} {xs:List α} {lo hi:Int} (h0:0≤lo) (h1:lo≤hi) (h2:hi≤xs.length):((xs.take hi.toNat).drop lo.toNat).length=(hi - lo).toNat:=by
  simp only [List.length_drop,List.length_take]; omega
theorem AcK {xs:List Int} {cols:Int} {Q:Bool→Prop} (hc0:0≤cols) (hc1:cols≤4096) (hl:xs.length≤1000000000)
    (h1:(∀ j:Nat,j<xs.length→0≤HB xs j∧HB xs j<cols∧(0<j→HB xs ((j:Int) - 1)<HB xs j))→Q true) (h2:(∃ j:Nat,j<xs.length∧¬(0≤HB xs j∧HB xs j<cols∧(0<j→HB xs ((j:Int) - 1)<HB xs j)))→Q false):eS xs cols Q:=by
  unfold eS
  rw [AV (by omega) (by omega)]
  refine EX xs.length (by omega) (fun i=>∀ j:Nat,j<i→j<xs.length→0≤HB xs j∧HB xs j<cols∧(0<j→HB xs ((j:Int) - 1)<HB xs j)) (by simp) (fun i next hi hR hn=>?_) (fun next hR=>?_)
  · refine AD (fun _=>?_) (fun h=>by omega)
    refine DN (by omega) (by omega) (IU (CR (fun h=>h2 ⟨i,hi,fun hh=>?_⟩) (fun h=>?_)))
    · simp at h; omega
    have h:0≤HB xs i∧HB xs i≤cols - 1:=by simpa using h
    have hstep (hx:0<i→HB xs ((i:Int) - 1)<HB xs i):next (AJ ((i:Int)+1)):=hn fun j hj hjl=>by
      by_cases e:j=i
      · subst e; exact ⟨h.1,by omega,hx⟩
      · exact hR j (by omega) hjl
    refine AD (fun h0=>?_) (fun h0=>hstep fun h=>by omega)
    rw [AV (by omega) (by omega)]
    refine DN (by omega) (by omega) (AD (fun hle=>h2 ⟨i,hi,fun hh=>?_⟩) (fun hle=>hstep fun _=>by omega))
    have:=hh.2.2 (by omega); omega
  · exact AD (fun h=>by omega) (fun _=>h1 fun j hj=>hR j hj hj)
theorem aQ {a:Rows} {Q:Bool→Prop} (hl:RU a) (hQ:Q (decide (PM a))):HL a Q:=by
  unfold HL
  have hno (h:¬PM a):Q false:=by rwa [decide_eq_false h] at hQ
  have hyes (h:PM a):Q true:=by rwa [decide_eq_true h] at hQ
  unfold RU at hl
  refine IU (CR (fun h=>hno fun hh=>?_) (fun h=>?_))
  · have:=hh.r0; have:=hh.r1; simp at h; omega
  have h1:0≤a.Rows∧a.Rows≤4096:=by simpa using h
  refine IU (CR (fun h=>hno fun hh=>?_) (fun h=>?_))
  · have:=hh.c0; have:=hh.c1; simp at h; omega
  have h2:0≤a.Cols∧a.Cols≤4096:=by simpa using h
  rw [AV (by omega) (by omega)]
  refine EW (fun h=>hno fun hh=>h hh.sl) (fun h3=>?_)
  refine EW (fun h=>hno fun hh=>h (by rw [hh.vl])) (fun h4=>?_)
  refine AD (fun h=>hno fun hh=>by have:=hh.cl; omega) (fun h5=>?_)
  refine DN (by omega) (by omega) (EW (fun h=>hno fun hh=>h hh.s0) (fun h6=>?_))
  refine DN (by omega) (by omega) (EW (fun h=>hno fun hh=>h hh.sn) (fun h7=>?_))
  obtain ⟨n,hn⟩:∃ n:Nat,a.Rows=n:=⟨a.Rows.toNat,by omega⟩
  have hsl:a.Start.length=n+1:=by omega
  refine oN (by omega) (fun hup=>AW rfl ?_) (fun hb=>BN rfl (hno fun hh=>?_))
  rotate_left
  · obtain ⟨i,hi,hbad⟩:=hb
    exact hbad (hh.up i (by omega))
  have hup':∀ i:Nat,i<n→HB a.Start i≤HB a.Start ((i:Int)+1):=fun i hi=>hup i (by omega)
  rw [hn] at h7 ⊢
  refine EX n (by omega) (fun i=>∀ j:Nat,j<i→AcJ a j) (by simp) (fun i next hi hR hnx=>?_) (fun next hR=>?_)
  · refine AD (fun _=>?_) (fun h=>by omega)
    have e1:AJ ((i:Int)+1)=(i:Int)+1:=AV (by omega) (by omega)
    rw [e1] at hnx ⊢
    have hlo:0≤HB a.Start i:=by have:=tT hup' (i:=0) (j:=i) (by omega) (by omega); rw [show ((0:Nat):Int)=0 from rfl,h6] at this; exact this
    have hhi:HB a.Start ((i:Int)+1)≤a.Col.length:=by
      have:=tT hup' (i:=i+1) (j:=n) (by omega) (by omega)
      rw [h7,show ((i+1:Nat):Int)=(i:Int)+1 by omega] at this; exact this
    have hm:=hup' i hi
    refine DN (by omega) (by omega) (DN (by omega) (by omega) ⟨hlo,hm,hhi,?_⟩)
    have hsl2:=AaT hlo hm hhi
    have heq:∀ j:Nat,HB a.Start i+j<HB a.Start ((i:Int)+1)→HB ((a.Col.take (HB a.Start ((i:Int)+1)).toNat).drop (HB a.Start i).toNat) j=HB a.Col (HB a.Start i+j):=fun j hj=>AaS hlo hm hhi hj
    refine AcK (by omega) (by omega) (by rw [hsl2]; omega) (fun hall=>AW rfl (hnx fun j hj=>?_)) (fun hb=>BN rfl (hno fun hh=>?_))
    · by_cases e:j=i
      · subst e
        intro p hp1 hp2
        obtain ⟨q,hq⟩:∃ q:Nat,(p:Int)=HB a.Start j+q:=⟨(p - HB a.Start j).toNat,by omega⟩
        have hr:=hall q (by rw [hsl2]; omega)
        rw [heq q (by omega),←hq] at hr
        refine ⟨hr.1,hr.2.1,fun hlt=>?_⟩
        have:=hr.2.2 (by omega)
        rw [show (q:Int) - 1=((q - 1:Nat):Int) by omega,heq (q - 1) (by omega),show HB a.Start j+((q - 1:Nat):Int)=(p:Int) - 1 by omega] at this
        exact this
      · exact hR j (by omega)
    · obtain ⟨q,hq,hbad⟩:=hb
      rw [hsl2] at hq
      apply hbad
      have hr:=hh.row i (by omega) (HB a.Start i+q).toNat (by omega) (by omega)
      have ep:(((HB a.Start i+q).toNat:Nat):Int)=HB a.Start i+q:=by omega
      rw [ep] at hr
      rw [heq q (by omega)]
      refine ⟨hr.1,hr.2.1,fun h0=>?_⟩
      have:=hr.2.2 (by omega)
      rw [show (q:Int) - 1=((q - 1:Nat):Int) by omega,heq (q - 1) (by omega),show HB a.Start i+((q - 1:Nat):Int)=HB a.Start i+q - 1 by omega]
      exact this
  · refine AD (fun h=>by omega) (fun _=>hyes ⟨h1.1,h1.2,h2.1,h2.2,h3,by omega,by omega,h6,by rw [hn]; exact h7,fun i hi=>hup' i (by omega),fun i hi=>hR i (by omega)⟩)
theorem lU {a:Rows} {Q:Bool→Prop} (hl:RU a) (hQ:Q (decide (PM a))):SP a Q:=by
  unfold SP
  have hno (h:¬PM a):Q false:=by rwa [decide_eq_false h] at hQ
  have hyes (h:PM a):Q true:=by rwa [decide_eq_true h] at hQ
  unfold RU at hl
  refine AD (fun h=>hno fun hh=>by have:=hh.r0; omega) (fun h1=>?_)
  refine AD (fun h=>hno fun hh=>by have:=hh.r1; omega) (fun h2=>?_)
  refine AD (fun h=>hno fun hh=>by have:=hh.c0; omega) (fun h1'=>?_)
  refine AD (fun h=>hno fun hh=>by have:=hh.c1; omega) (fun h2'=>?_)
  rw [AV (by omega) (by omega)]
  refine EW (fun h=>hno fun hh=>h hh.sl) (fun h3=>?_)
  refine EW (fun h=>hno fun hh=>h (by rw [hh.vl])) (fun h4=>?_)
  refine AD (fun h=>hno fun hh=>by have:=hh.cl; omega) (fun h5=>?_)
  refine DN (by omega) (by omega) (EW (fun h=>hno fun hh=>h hh.s0) (fun h6=>?_))
  refine DN (by omega) (by omega) (EW (fun h=>hno fun hh=>h hh.sn) (fun h7=>?_))
  obtain ⟨n,hn⟩:∃ n:Nat,a.Rows=n:=⟨a.Rows.toNat,by omega⟩
  have hsl:a.Start.length=n+1:=by omega
  rw [hn] at h7 ⊢
  refine EX n (by omega) (fun i=>(∀ j:Nat,j<i→HB a.Start j≤HB a.Start ((j:Int)+1))∧∀ j:Nat,j<i→AcJ a j) ⟨by simp,by simp⟩ (fun i next hi hR hnx=>?_) (fun next hR=>?_)
  · refine AD (fun _=>?_) (fun h=>by omega)
    have e1:AJ ((i:Int)+1)=(i:Int)+1:=AV (by omega) (by omega)
    rw [e1] at hnx ⊢
    refine DN (by omega) (by omega) (DN (by omega) (by omega) (AD (fun h=>hno fun hh=>by have:=hh.up i (by omega); omega) (fun hm=>?_)))
    have hlo:0≤HB a.Start i:=by have:=tT hR.1 (i:=0) (j:=i) (by omega) (by omega); rw [show ((0:Nat):Int)=0 from rfl,h6] at this; exact this
    refine DN (by omega) (by omega) (AD (fun h=>by omega) (fun _=>DN (by omega) (by omega) (AD (fun h=>hno fun hh=>?_) (fun hhi=>?_))))
    · have:=tT (n:=n) (fun j hj=>hh.up j (by omega)) (i:=i+1) (j:=n) (by omega) (by omega)
      rw [h7,show ((i+1:Nat):Int)=(i:Int)+1 by omega] at this; omega
    refine DN (by omega) (by omega) ?_
    obtain ⟨lo,elo⟩:∃ lo:Nat,HB a.Start i=lo:=⟨(HB a.Start i).toNat,by omega⟩
    obtain ⟨hi',ehi⟩:∃ hi:Nat,HB a.Start ((i:Int)+1)=hi:=⟨(HB a.Start ((i:Int)+1)).toNat,by omega⟩
    rw [elo]
    refine BH (σ:=Unit) (fun _ j=>j) lo hi' (by omega) (fun j _=>∀ p:Nat,lo≤p→p<j→0≤HB a.Col p∧HB a.Col p<a.Cols∧(lo<p→HB a.Col ((p:Int) - 1)<HB a.Col p)) (by omega) (s0:=()) (fun p h1 h2=>by omega) (fun j _ nx hj1 hj2 hI hnj=>?_) (fun _ nx hI=>?_)
    · refine DN (by omega) (by omega) (AD (fun _=>?_) (fun h=>by omega))
      have hbad (h:¬(0≤HB a.Col j∧HB a.Col j<a.Cols∧(lo<j→HB a.Col ((j:Int) - 1)<HB a.Col j))):Q false:=hno fun hh=>h (by
        have:=hh.row i (by omega) j (by omega) (by omega)
        rw [elo] at this
        exact ⟨this.1,this.2.1,fun h=>this.2.2 (by omega)⟩)
      refine DN (by omega) (by omega) (AD (fun h=>hbad fun hh=>by omega) (fun g1=>?_))
      refine DN (by omega) (by omega) (AD (fun h=>hbad fun hh=>by omega) (fun g2=>?_))
      have hstep (hx:lo<j→HB a.Col ((j:Int) - 1)<HB a.Col j):nx (AJ ((j:Int)+1)):=hnj () fun p hp1 hp2=>by
        by_cases e:p=j
        · subst e; exact ⟨by omega,by omega,hx⟩
        · exact hI p hp1 (by omega)
      refine DN (by omega) (by omega) (AD (fun h=>?_) (fun h=>hstep fun h'=>by omega))
      rw [AV (by omega) (by omega)]
      refine DN (by omega) (by omega) (DN (by omega) (by omega) (AD (fun h=>hbad fun hh=>by have:=hh.2.2 (by omega); omega) (fun g3=>hstep fun _=>by omega)))
    · refine DN (by omega) (by omega) (AD (fun h=>by omega) (fun _=>?_))
      refine hnx ⟨fun j hj=>?_,fun j hj=>?_⟩
      · by_cases e:j=i
        · subst e; omega
        · exact hR.1 j (by omega)
      · by_cases e:j=i
        · subst e
          intro p hp1 hp2
          have:=hI p (by omega) (by omega)
          exact ⟨this.1,this.2.1,fun h=>this.2.2 (by omega)⟩
        · exact hR.2 j (by omega)
  · refine AD (fun h=>by omega) (fun _=>hyes ⟨by omega,by omega,by omega,by omega,h3,by omega,by omega,h6,by rw [hn]; exact h7,fun i hi=>hR.1 i (by omega),fun i hi=>hR.2 i (by omega)⟩)
def key (t:AC):HS:=(t.Row,t.Col)
def Srt (ts:List AC):Prop:=ts.Pairwise fun a b=>PD (key a) (key b)
structure Canon (rows cols:Int) (ts:List AC):Prop where
  r0:0≤rows
  r1:rows≤4096
  c0:0≤cols
  c1:cols≤4096
  len:ts.length≤65536
  srt:Srt ts
  inn:∀ t∈ts,UD rows cols t
theorem gG {α:Type} {q:α→Bool}:∀ {l:List α},l.Pairwise (fun a b=>q b=true→q a=true)→∀ (i:Nat) (h:i<l.length),(q l[i]=true↔i<l.countP q)
  | [],_,i,h=>by simp at h
  | a :: l,hp,i,h=>by
    rw [List.pairwise_cons] at hp
    rw [List.countP_cons]
    by_cases ha:q a=true
    · rw [if_pos ha]
      cases i with
      | zero=>simp [ha]
      | succ i=>
        have:=gG hp.2 i (by simpa using h)
        simp only [List.getElem_cons_succ]
        rw [this]; omega
    · rw [if_neg ha]
      have hz:l.countP q=0:=List.countP_eq_zero.2 fun b hb h'=>ha (hp.1 b hb h')
      rw [hz]
      refine ⟨fun h'=>absurd ?_ ha,fun h=>by omega⟩
      cases i with
      | zero=>exact h'
      | succ i=>exact hp.1 _ (List.getElem_mem _) h'
theorem Srt.row {ts:List AC} (h:Srt ts) (v:Nat) (p:Nat) (hp:p<ts.length):ts[p].Row<v↔(p:Int)<EG ts v:=by
  have:=gG (q:=fun t:AC=>decide (t.Row<(v:Int))) (l:=ts) (List.Pairwise.imp (fun {a b} hab=>by
    simp only [decide_eq_true_eq]
    unfold PD key at hab
    simp only at hab
    omega) h) p hp
  simp only [decide_eq_true_eq] at this
  rw [this]; unfold EG; omega
theorem AcL {f:Nat→Int} {n:Nat} {i:Int} (h0:0≤i) (h:i<n):HB ((List.range n).map f) i=f i.toNat:=by
  unfold HB
  rw [List.getD_eq_getElem?_getD,NZ (by omega)]; rfl
theorem tU {α:Type} {f:α→Int} {xs:List α} {i:Int} (h0:0≤i) (h:i<xs.length):HB (xs.map f) i=f (xs[i.toNat]'(by omega)):=by
  unfold HB
  simp [List.getD_eq_getElem?_getD,show i.toNat<xs.length by omega]
theorem WV {rows cols:Int} {ts:List AC} {i:Int} (h0:0≤i) (h:i≤rows):HB (BF rows cols ts).Start i=EG ts i.toNat:=AcL h0 (by omega)
theorem cD {rows cols:Int} {ts:List AC} (h:Canon rows cols ts):EG ts rows.toNat=ts.length:=by
  have h0:=h.r0
  unfold EG
  rw [List.countP_eq_length.2]
  intro t ht
  have:=h.inn t ht
  unfold UD at this
  simp; omega
theorem Z7 {ts:List AC} (h:∀ t∈ts,0≤t.Row):EG ts 0=0:=by
  unfold EG
  rw [List.countP_eq_zero.2]; · rfl
  intro t ht
  have:=h t ht
  simp; omega
theorem Srt.at {ts:List AC} (h:Srt ts) {i p:Nat} (hp:p<ts.length):ts[p].Row=i↔EG ts i≤p∧(p:Int)<EG ts (i+1):=by
  have h1:=h.row i p hp
  have h2:=h.row (i+1) p hp
  omega
theorem Canon.right {rows cols:Int} {ts:List AC} (h:Canon rows cols ts):PM (BF rows cols ts) where
  r0:=h.r0
  r1:=h.r1
  c0:=h.c0
  c1:=h.c1
  sl:=by have:=h.r0; simp [BF]; omega
  vl:=by simp [BF]
  cl:=by simpa [BF] using h.len
  s0:=by
    have:=h.r0
    rw [WV (by omega) (by omega)]
    exact Z7 fun t ht=>(h.inn t ht).1
  sn:=by
    have:=h.r0
    show HB (BF rows cols ts).Start rows=_
    rw [WV (by omega) (by omega),cD h]; simp [BF]
  up i hi:=by
    have hi:(i:Int)<rows:=hi
    rw [WV (by omega) (by omega),WV (by omega) (by omega)]
    have e1:((i:Int)).toNat=i:=by omega
    have e2:((i:Int)+1).toNat=i+1:=by omega
    rw [e1,e2,VD i ts fun t ht=>(h.inn t ht).1]
    have:=aP ts (i+1)
    omega
  row i hi:=by
    have hi:(i:Int)<rows:=hi
    intro j hj1 hj2
    rw [WV (by omega) (by omega)] at hj1 hj2 ⊢
    have e1:((i:Int)).toNat=i:=by omega
    have e2:((i:Int)+1).toNat=i+1:=by omega
    rw [e1] at hj1 ⊢
    rw [e2] at hj2
    have hb:=WU ts (i+1)
    have hjl:j<ts.length:=by omega
    have hc:HB (BF rows cols ts).Col j=ts[j].Col:=by
      show HB (ts.map (·.Col)) j=_
      rw [tU (by omega) (by omega)]; rfl
    have hin:=h.inn _ (List.getElem_mem hjl)
    have hr:=(h.srt.at hjl (i:=i)).2 ⟨hj1,hj2⟩
    unfold UD at hin
    refine ⟨by rw [hc]; omega,by rw [hc]; exact hin.2.2.2,fun hlt=>?_⟩
    obtain ⟨q,rfl⟩:∃ q,j=q+1:=⟨j - 1,by have:=WU ts i; omega⟩
    have hc2:HB (BF rows cols ts).Col (((q+1:Nat):Int) - 1)=ts[q].Col:=by
      show HB (ts.map (·.Col)) _=_
      rw [tU (by omega) (by omega)]
      simp
    have hr2:=(h.srt.at (show q<ts.length by omega) (i:=i)).2 ⟨by omega,by omega⟩
    have hs:=List.pairwise_iff_getElem.1 h.srt q (q+1) (by omega) hjl (by omega)
    unfold PD key at hs
    simp only at hs
    rw [hc,hc2]; omega
theorem oO:Canon 0 0 []:=⟨by omega,by omega,by omega,by omega,by simp,.nil,by simp⟩
noncomputable def VU (a:Rows):Rows:=if PM a then a else BF 0 0 []
theorem lV {a:Rows} {Q:Rows→Prop} (hl:RU a) (hQ:Q (VU a)):TV a Q:=by
  unfold TV TU
  unfold VU at hQ
  refine aQ hl (AD (fun h=>?_) (fun h=>?_))
  · rwa [if_pos h] at hQ
  · rw [if_neg h] at hQ
    exact ⟨by decide,by decide,hQ⟩
theorem oP {a:Rows} {Q:Rows→Prop} (hl:RU a) (hQ:Q (VU a)):UW a Q:=by
  unfold UW JU
  unfold VU at hQ
  refine lU hl (AD (fun h=>?_) (fun h=>?_))
  · rwa [if_pos h] at hQ
  · rw [if_neg h] at hQ
    exact ⟨by decide,by decide,hQ⟩
end Go.Proofs.YtbohadngdkjljaaGreat
