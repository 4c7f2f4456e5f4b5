import Derived.Test.YtbohadngdkjljaaGreatCsrC
namespace Go.Proofs.YtbohadngdkjljaaGreat
open Go Go.Fw
set_option linter.unusedVariables false
set_option linter.unusedSimpArgs false
variable {ts:List A3} {α:Type}
theorem NS {f:Nat→Int} {n j:Nat} (h:j<n):((List.range n).map f)[j]? = some (f j):=by simp [h]
theorem qW {f:Nat→Int} {n j:Nat} {v:Int}:((List.range n).map f).set j v=(List.range n).map (fun i=>if i=j then v else f i):=by
 apply List.ext_getElem?
 intro i
 rw [List.getElem?_set]
 simp only [List.length_map,List.length_range]
 by_cases e:j=i
 · subst e
   by_cases h:j<n
   · rw [if_pos rfl,if_pos h,NS h,if_pos rfl]
   · rw [if_pos rfl,if_neg h,List.getElem?_eq_none (by simp; omega)]
 · rw [if_neg e]
   by_cases h:i<n
   · rw [NS h,NS h,if_neg (fun h=>e h.symm)]
   · rw [List.getElem?_eq_none (by simp; omega),List.getElem?_eq_none (by simp; omega)]
theorem QL {f g:Nat→Int} {n:Nat} (h:∀ j,j<n→f j=g j):(List.range n).map f=(List.range n).map g:=List.map_congr_left fun j D=>h j (by simpa using D)
def E6 (ts:List A3) (j:Nat):Int:=((ts.countP (fun t:A3=>decide (t.Row<(j:Int))):Nat):Int)
def SX (ts:List A3) (j:Nat):Int:=((ts.countP (fun t:A3=>decide (t.Row+1=(j:Int))):Nat):Int)
theorem qX (ts:List A3) (t:A3) (j:Nat):E6 (ts++[t]) j=E6 ts j+if t.Row<j then 1 else 0:=by
 unfold E6; rw [List.countP_append,List.countP_singleton]; simp only [decide_eq_true_eq]; split <;> simp
theorem qY (ts:List A3) (t:A3) (j:Nat):SX (ts++[t]) j=SX ts j+if t.Row+1=j then 1 else 0:=by
 unfold SX; rw [List.countP_append,List.countP_singleton]; simp only [decide_eq_true_eq]; split <;> simp
theorem V5 (ts:List A3) (j:Nat):0≤E6 ts j∧E6 ts j≤ts.length:=by
 unfold E6; have:=List.countP_le_length (p:=fun t:A3=>decide (t.Row<(j:Int))) (l:=ts); omega
theorem ZF (ts:List A3) (j:Nat):0≤SX ts j∧SX ts j≤ts.length:=by
 unfold SX; have:=List.countP_le_length (p:=fun t:A3=>decide (t.Row+1=(j:Int))) (l:=ts); omega
theorem TN (j:Nat):∀ (ts:List A3),(∀ t∈ts,0≤t.Row)→E6 ts (j+1)=E6 ts j+SX ts (j+1)
 | [],_=>rfl
 | t :: ts,h=>by
  have:=TN j ts fun x G=>h x (by simp [G])
  unfold E6 SX at *
  simp only [List.countP_cons]
  have h0:=h t (by simp)
  by_cases h1:t.Row<j
  · have D:t.Row<(j+1:Nat):=by omega
    have J:¬t.Row+1=((j+1:Nat):Int):=by omega
    simp only [h1,D,J,decide_true,decide_false,if_true,if_false]; simp only [Bool.false_eq_true,if_false]; omega
  · by_cases h4:t.Row+1=((j+1:Nat):Int)
    · have D:t.Row<(j+1:Nat):=by omega
      simp only [h1,D,h4,decide_true,decide_false,if_true,if_false]; simp only [Bool.false_eq_true,if_false]; omega
    · have D:¬t.Row<(j+1:Nat):=by omega
      simp only [h1,D,h4,decide_true,decide_false,if_true,if_false]; simp only [Bool.false_eq_true,if_false]; omega
def B0 (rows cols:Int) (ts:List A3):Rows:=⟨rows,cols,(List.range (rows.toNat+1)).map (E6 ts),ts.map (·.Col),ts.map (·.Val)⟩
theorem bH (n:Nat):List.replicate n (0:Int)=(List.range n).map fun _=>0:=by
 apply List.ext_getElem?
 intro i
 by_cases h:i<n
 · rw [NS h]; simp [h]
 · rw [List.getElem?_eq_none (by simp; omega),List.getElem?_eq_none (by simp; omega)]
theorem nV {rows cols:Int} {Q:Rows→Prop} (h0:0≤rows) (h1:rows≤1000000) (hl:ts.length≤1000000) (J:∀ t∈ts,0≤t.Row∧t.Row<rows) (Z:Q (B0 rows cols ts)):PO rows cols ts Q:=by
 unfold PO SQ
 obtain ⟨n,rfl⟩:∃ n:Nat,rows=n:=⟨rows.toNat,by omega⟩
 have e:A7 ((n:Int)+1)=(n+1:Nat):=by rw [AJ (by omega) (by omega)]; omega
 rw [e]
 refine ⟨by omega,by omega,?_⟩
 simp only [Int.toNat_natCast]
 rw [bH]
 refine B2 (fun (s:List Int×List Int×List Int) i=>(s.1,s.2.1,s.2.2,i)) 0 ts.length (s0:=((List.range (n+1)).map fun _=>0,[],[])) (by omega) (fun i s=>s=((List.range (n+1)).map (SX (ts.take i)),(ts.take i).map (·.Col),(ts.take i).map (·.Val))) (by omega) (by simp [SX]) (fun i s next _ hi D G=>?_) (fun s next D=>?_)
 · subst D
   dsimp only
   have hr:=J _ (List.getElem_mem hi)
   refine A0 (fun _=>?_) (fun h=>by omega)
   refine AK hi ?_
   obtain ⟨q,hq⟩:∃ q:Nat,ts[i].Row=q:=⟨ts[i].Row.toNat,by omega⟩
   have U:A7 (ts[i].Row+1)=(q+1:Nat):=by rw [AJ (by omega) (by omega)]; omega
   rw [U]
   have hc:=ZF (ts.take i) (q+1)
   have Y:(ts.take i).length≤ts.length:=by simp; omega
   refine A9 (by omega) (NS (by omega)) (A9 (by omega) (NS (by omega)) (AR (by simp; omega) (AR (by simp; omega) (G ((List.range (n+1)).map (SX (ts.take (i+1))),(ts.take (i+1)).map (·.Col),(ts.take (i+1)).map (·.Val)) rfl |> cast ?_))))
   congr 1
   simp only [Int.toNat_natCast]
   rw [qW,GO hi,GO hi]
   refine Prod.ext (QL fun j O=>?_) rfl
   rw [List.take_succ_eq_append_getElem hi,qY]
   by_cases ej:j=q+1
   · subst ej; rw [if_pos (by omega),if_pos rfl,AJ (by omega) (by omega)]
   · rw [if_neg (by omega),if_neg ej]; omega
 · subst D
   dsimp only
   refine A0 (fun h=>by omega) (fun _=>?_)
   simp only [List.take_length]
   refine B2 (fun (s:List Int) i=>(s,i)) 0 n (by omega) (fun i s=>s=(List.range (n+1)).map fun j=>if j≤i then E6 ts j else SX ts j) (by omega) (QL fun j O=>?_) (fun i s next _ hi D G=>?_) (fun s next D=>?_)
   · by_cases ej:j≤0
     · rw [if_pos ej,show j=0 by omega]
       have:∀ t∈ts,¬t.Row<((0:Nat):Int):=fun t h=>by have:=J t h; omega
       have W:∀ t∈ts,¬t.Row+1=((0:Nat):Int):=fun t h=>by have:=J t h; omega
       unfold SX E6
       rw [List.countP_eq_zero.2 (by simpa using W),List.countP_eq_zero.2 (by simpa using this)]
     · rw [if_neg ej]
   · subst D
     refine A0 (fun _=>?_) (fun h=>by omega)
     have U:A7 ((i:Int)+1)=(i+1:Nat):=by rw [AJ (by omega) (by omega)]; omega
     rw [U] at G ⊢
     refine A9 (by omega) (NS (by omega)) (A9 (by omega) (NS (by omega)) (A9 (by omega) (NS (by omega)) (G _ ?_)))
     simp only [Int.toNat_natCast]
     rw [qW]
     refine QL fun j O=>?_
     have hb1:=V5 ts i
     have V:=ZF ts (i+1)
     rw [if_neg (show ¬i+1≤i by omega),if_pos (Nat.le_refl i),AJ (by omega) (by omega)]
     by_cases ej:j=i+1
     · subst ej; rw [if_pos rfl,if_pos (Nat.le_refl _),TN i ts fun t h=>(J t h).1]; omega
     · rw [if_neg ej]
       by_cases h:j≤i
       · rw [if_pos h,if_pos (by omega)]
       · rw [if_neg h,if_neg (by omega)]
   · subst D
     refine A0 (fun h=>by omega) (fun _=>?_)
     rw [QL (g:=E6 ts) fun j O=>if_pos (by omega)]
     exact Z
theorem ZG {rows cols:Int} {Q:Rows→Prop} (h0:0≤rows) (h1:rows≤1000000) (hl:ts.length≤1000000) (O:∀ t∈ts,0≤t.Row∧t.Row<rows) (Y:Q (B0 rows cols ts)):HS rows cols ts Q:=by
 unfold HS DF
 obtain ⟨n,rfl⟩:∃ n:Nat,rows=n:=⟨rows.toNat,by omega⟩
 have e:A7 ((n:Int)+1)=(n+1:Nat):=by rw [AJ (by omega) (by omega)]; omega
 rw [e]
 refine ⟨by omega,by omega,?_⟩
 simp only [Int.toNat_natCast]
 rw [bH]
 refine B2 (fun (s:List Int×List Int×List Int) i=>(s.1,s.2.1,s.2.2,i)) 0 ts.length (s0:=((List.range (n+1)).map fun _=>0,[],[])) (by omega) (fun i s=>s=((List.range (n+1)).map (E6 (ts.take i)),(ts.take i).map (·.Col),(ts.take i).map (·.Val))) (by omega) (by simp [E6]) (fun i s next _ hi D J=>?_) (fun s next D=>?_)
 · subst D
   dsimp only
   have hr:=O _ (List.getElem_mem hi)
   refine A0 (fun _=>?_) (fun h=>by omega)
   refine AK hi (AR (by simp; omega) (AK hi (AR (by simp; omega) (AK hi ?_))))
   obtain ⟨q,hq⟩:∃ q:Nat,ts[i].Row=q:=⟨ts[i].Row.toNat,by omega⟩
   have Z:A7 (ts[i].Row+1)=(q+1:Nat):=by rw [AJ (by omega) (by omega)]; omega
   rw [Z]
   have U:(ts.take i).length≤ts.length:=by simp; omega
   refine B2 (fun (s:List Int) j=>(s,j)) (q+1) (n+1) (by omega) (fun j s=>s=(List.range (n+1)).map fun p=>E6 (ts.take i) p+if q+1≤p∧p<j then 1 else 0) (by omega) (QL fun j hj=>by rw [if_neg (by omega)]; omega) (fun j s next V W D G=>?_) (fun s next D=>?_)
   · subst D
     refine A0 (fun _=>?_) (fun h=>by omega)
     have hb:=V5 (ts.take i) j
     refine A9 (by omega) (NS (by omega)) (A9 (by omega) (NS (by omega)) (G _ ?_))
     simp only [Int.toNat_natCast]
     rw [qW]
     refine QL fun p hp=>?_
     rw [if_neg (show ¬(q+1≤j∧j<j) by omega),AJ (by omega) (by omega)]
     by_cases ep:p=j
     · subst ep; rw [if_pos rfl,if_pos (by omega)]; omega
     · rw [if_neg ep]
       by_cases h:q+1≤p∧p<j
       · rw [if_pos h,if_pos (by omega)]
       · rw [if_neg h,if_neg (by omega)]
   · subst D
     refine A0 (fun h=>by omega) (fun _=>?_)
     refine J ((List.range (n+1)).map (E6 (ts.take (i+1))),(ts.take (i+1)).map (·.Col),(ts.take (i+1)).map (·.Val)) rfl |> cast ?_
     congr 1
     simp only
     rw [GO hi,GO hi]
     refine Prod.ext (QL fun p hp=>?_) rfl
     rw [List.take_succ_eq_append_getElem hi,qX]
     by_cases h:q+1≤p
     · rw [if_pos (by omega),if_pos (by omega)]
     · rw [if_neg (by omega),if_neg (by omega)]
 · subst D
   dsimp only
   refine A0 (fun h=>by omega) (fun _=>?_)
   simp only [List.take_length]
   exact Y
def zR:Rows:=⟨0,0,[],[],[]⟩
def RC (rows cols:Int) (t:A3):Prop:=0≤t.Row∧t.Row<rows∧0≤t.Col∧t.Col<cols
instance (rows cols:Int) (t:A3):Decidable (RC rows cols t):=by unfold RC; infer_instance
def wO (r rows cols:Int) (ts:List A3):Rows×Int:=
 if ¬(1≤r∧r≤5) then (zR,8)
 else if ¬(0≤rows∧rows≤4096∧0≤cols∧cols≤4096) then (zR,3)
 else if 65536<ts.length then (zR,5)
 else if ¬ ∀ t∈ts,RC rows cols t then (zR,3)
 else if (ON (SC r (ts.map dI)) qF).2≠0 then (zR,(ON (SC r (ts.map dI)) qF).2)
 else (B0 rows cols (ON (SC r (ts.map dI)) qF).1,0)
theorem tE {r:Int}:∀ {ts:List (HO×Int)} {p:HO×AL},p∈SC r ts→∃ t∈ts,t.1=p.1:=by
 suffices ∀ (ts:List (HO×Int)) (l:List (HO×AL)) p,p∈ts.foldl (fun l t=>ins r t.1 (YS t.2) l) l→(∃ t∈ts,t.1=p.1)∨∃ q∈l,q.1=p.1 from fun {ts p} h=>by
  rcases this ts [] p h with h | ⟨q,G,_⟩
  · exact h
  · simp at G
 intro ts
 induction ts with
 | nil=>intro l p h; exact .inr ⟨p,h,rfl⟩
 | cons t ts U=>
  intro l p h
  rcases U _ _ h with ⟨x,J,e⟩ | ⟨q,G,e⟩
  · exact .inl ⟨x,by simp [J],e⟩
  · rcases eU G with D | ⟨y,O,D⟩
    · exact .inl ⟨t,by simp,by rw [←e,D]⟩
    · exact .inr ⟨y,O,by rw [D,e]⟩
theorem xR {r rows cols:Int} (h:∀ t∈ts,RC rows cols t):∀ t∈(ON (SC r (ts.map dI)) qF).1,RC rows cols t:=by
 intro t D
 unfold ON at D
 split at D
 · obtain ⟨p,hp,rfl⟩:=List.mem_map.1 D
   obtain ⟨x,G,e⟩:=tE hp
   obtain ⟨y,J,rfl⟩:=List.mem_map.1 G
   have:=h y J
   unfold RC qF at *
   rw [←e]
   exact this
 · simp at D
theorem kZ {mk:HO→Int→α} (l:List (HO×AL)):(ON l mk).1.length≤l.length:=by
 unfold ON; split <;> simp
theorem IP {x y:Int} {Q:Bool→Prop} (D:Q (decide (0≤x∧x≤y))):G0 x y Q:=by
 unfold G0
 refine A0 (fun h=>?_) (fun h=>?_)
 · rwa [show decide (x≤y)=decide (0≤x∧x≤y) by apply decide_eq_decide.2; omega]
 · rwa [show decide (0≤x∧x≤y)=false by apply decide_eq_false; omega] at D
theorem xS {r rows cols:Int} {Q:Rows×Int→Prop} (hl:ts.length≤1000000000000) (Z:∀ t∈ts,GN t.Val) (D:Q (wO r rows cols ts)):QC r rows cols ts Q:=by
 unfold QC
 unfold wO at D
 refine LW (CF (fun h=>?_) (fun h=>?_))
 · rw [if_pos (by simpa using h)] at D; exact D
 have hr:1≤r∧r≤5:=by simpa using h
 rw [if_neg (by simpa using hr)] at D
 refine CJ (fun b=>b=decide (¬(0≤rows∧rows≤4096∧0≤cols∧cols≤4096))) ?_ fun k hk=>?_
 · rintro _ rfl
   refine A0 (fun h=>?_) (fun h=>?_)
   · rw [if_pos h] at D; exact D
   have hrc:0≤rows∧rows≤4096∧0≤cols∧cols≤4096:=by simpa using h
   rw [if_neg h] at D
   refine A0 (fun h=>?_) (fun h=>?_)
   · rw [if_pos (by omega)] at D; exact D
   rw [if_neg (by omega)] at D
   have e1:A7 (rows - 1)=rows - 1:=AJ (by omega) (by omega)
   have e2:A7 (cols - 1)=cols - 1:=AJ (by omega) (by omega)
   unfold CP CV
   refine D7 ts.length (by omega) (fun i=>∀ (j:Nat) (W:j<ts.length),j<i→RC rows cols ts[j]) (by simp) (fun i next hi Y hn=>?_) (fun next Y=>?_)
   · refine A0 (fun _=>?_) (fun h=>by omega)
     refine AK hi ?_
     unfold TD
     rw [e1,e2]
     have hbad (h:¬RC rows cols ts[i]):AD (decide (0≤(i:Int))) (Q (zR,3)) (QB r ts fun G=>AD (G.2 != 0) (Q (zR,G.2)) (PO rows cols G.1 fun O=>Q (O,0))):=by
       refine A0 (fun _=>?_) (fun h=>by omega)
       rw [if_pos (fun h'=>h (h' _ (List.getElem_mem hi)))] at D; exact D
     refine IP (CF (fun h=>AY rfl (hbad ?_)) (fun h=>IP (CF (fun U=>hbad ?_) (fun U=>hn fun j W hji=>?_))))
     · unfold RC; simp at h; omega
     · unfold RC; simp at U; omega
     · by_cases e:j=i
       · subst e; unfold RC; simp at h U; omega
       · exact Y j W (by omega)
   · refine A0 (fun h=>by omega) (fun _=>AC (by decide) ?_)
     have J:∀ t∈ts,RC rows cols t:=by
       intro t V
       obtain ⟨j,W,rfl⟩:=List.getElem_of_mem V
       exact Y j W W
     rw [if_neg (by simpa using J)] at D
     have hlen:(SC r (ts.map dI)).length≤65536:=by
       have:=(TM r (ts.map dI) (fun t V=>by obtain ⟨x,hx,rfl⟩:=List.mem_map.1 V; exact Z x hx)).1
       simp at this; omega
     refine uW (by omega) Z (CK (fun h=>?_) (fun h=>nV (by omega) (by omega) ?_ ?_ ?_))
     · rw [if_pos h] at D; exact D
     · exact Nat.le_trans (kZ _) (by omega)
     · intro t V
       have:=xR J t V
       unfold RC at this; omega
     · rw [if_neg (by simpa using h)] at D; exact D
 · refine IP (CF (fun h=>hk _ ?_) (fun h=>IP (hk _ ?_)))
   · symm; apply decide_eq_true; simp at h; omega
   · simp at h
     by_cases U:0≤cols∧cols≤4096 <;> simp [U,h]
def t2e (t:A3):DX:=⟨t.Row,t.Col,t.Val⟩
def e2t (e:DX):A3:=⟨e.From,e.To,e.W⟩
theorem AdM (l:List (HO×AL)):(ON l qF).1=(ON l mkE).1.map e2t∧(ON l qF).2=(ON l mkE).2:=by
 unfold ON
 split
 · exact ⟨by simp only [List.map_map]; rfl,rfl⟩
 · exact ⟨rfl,rfl⟩
theorem PT {r rows cols:Int} {Q:Rows×Int→Prop} (hl:ts.length≤1000000000000) (hv:∀ t∈ts,GN t.Val) (D:Q (wO r rows cols ts)):HC r rows cols ts Q:=by
 unfold HC
 unfold wO at D
 refine M5 (CF (fun h=>?_) (fun h=>?_))
 · rw [if_pos (by simpa using h)] at D; exact D
 have hr:1≤r∧r≤5:=by simpa using h
 rw [if_neg (by simpa using hr)] at D
 have h3 (h:¬(0≤rows∧rows≤4096∧0≤cols∧cols≤4096)):Q (zR,3):=by rw [if_pos h] at D; exact D
 refine A0 (fun h=>h3 (by omega)) (fun h1=>A0 (fun h=>h3 (by omega)) (fun h2=>A0 (fun h=>h3 (by omega)) (fun h4=>A0 (fun h=>h3 (by omega)) (fun h5=>?_))))
 rw [if_neg (by omega)] at D
 refine A0 (fun h=>?_) (fun h=>?_)
 · rw [if_pos (by omega)] at D; exact D
 rw [if_neg (by omega)] at D
 refine B2 (fun (s:List DX) i=>(s,i)) 0 ts.length (by omega) (fun i s=>s=(ts.take i).map t2e∧∀ (j:Nat) (Y:j<ts.length),j<i→RC rows cols ts[j]) (by omega) ⟨rfl,by simp⟩ (fun i s next _ hi O Z=>?_) (fun s next O=>?_)
 · obtain ⟨rfl,hR⟩:=O
   dsimp only
   refine A0 (fun _=>?_) (fun h=>by omega)
   have hbad (h:¬RC rows cols ts[i]):Q (zR,3):=by
     rw [if_pos (fun G=>h (G _ (List.getElem_mem hi)))] at D; exact D
   refine AK hi (A0 (fun h=>hbad fun G=>by unfold RC at G; omega) (fun h6=>?_))
   refine AK hi (A0 (fun h=>hbad fun G=>by unfold RC at G; omega) (fun h7=>?_))
   refine AK hi (A0 (fun h=>hbad fun G=>by unfold RC at G; omega) (fun h8=>?_))
   refine AK hi (A0 (fun h=>hbad fun G=>by unfold RC at G; omega) (fun h9=>?_))
   refine AK hi (AK hi (AK hi (AR ?_ (Z _ ⟨?_,?_⟩))))
   · simp; omega
   · rw [GO hi]; rfl
   · intro j Y hji
     by_cases e:j=i
     · subst e; unfold RC; omega
     · exact hR j Y (by omega)
 · obtain ⟨rfl,hR⟩:=O
   dsimp only
   refine A0 (fun h=>by omega) (fun _=>?_)
   rw [List.take_length]
   have J:∀ t∈ts,RC rows cols t:=by
     intro t U
     obtain ⟨j,Y,rfl⟩:=List.getElem_of_mem U
     exact hR j Y Y
   rw [if_neg (by simpa using J)] at D
   have hkv:(ts.map t2e).map kvE=ts.map dI:=by rw [List.map_map]; rfl
   have hlen:(SC r (ts.map dI)).length≤65536:=by
     have:=(TM r (ts.map dI) (fun t U=>by obtain ⟨x,hx,rfl⟩:=List.mem_map.1 U; exact hv x hx)).1
     simp at this; omega
   have V:=xR (r:=r) J
   refine eX hr (by simp; omega) (fun t U=>by obtain ⟨x,hx,rfl⟩:=List.mem_map.1 U; exact hv x hx) ?_
   rw [hkv]
   have W:=(AdM (SC r (ts.map dI))).1
   have hf2:=(AdM (SC r (ts.map dI))).2
   have hfl:=kZ (mk:=mkE) (SC r (ts.map dI))
   rw [W] at V
   rw [W,hf2] at D
   generalize ON (SC r (ts.map dI)) mkE=c at D hfl V
   obtain ⟨es,er⟩:=c
   dsimp only at *
   refine CK (fun h=>?_) (fun h=>?_)
   · rw [if_pos h] at D; exact D
   rw [if_neg (by simpa using h)] at D
   refine B2 (fun (s:List A3) i=>(s,i)) 0 es.length (by omega) (fun i s=>s=(es.take i).map e2t) (by omega) rfl (fun i s next _ hi O Z=>?_) (fun s next O=>?_)
   · subst O
     dsimp only
     refine A0 (fun _=>?_) (fun h=>by omega)
     refine AK hi (AK hi (AK hi (AR ?_ (Z _ ?_))))
     · simp; omega
     · rw [GO hi]; rfl
   · subst O
     dsimp only
     refine A0 (fun h=>by omega) (fun _=>ZG (by omega) (by omega) ?_ ?_ ?_)
     · simp; omega
     · intro t U
       have:=V t (by simpa using U)
       unfold RC at this; omega
     · rw [List.take_length]; exact D
theorem iV [BEq α] [LawfulBEq α] [DecidableEq α] {xs ys:List α} {Q:Bool→Prop} (V:xs.length≤1000000000000) (O:Q (decide (xs=ys))) :
   AD ((xs.length:Int) != (ys.length:Int)) (Q false) (B1 (fun (s:Int) (next:Int→Prop)=>AD (decide (s<(xs.length:Int))) (AN xs s fun x=>AN ys s fun y=>AD (x != y) (Q false) (next (A7 (s+1)))) (Q true)) 0):=by
 refine CK (fun h=>?_) (fun h=>?_)
 · rwa [decide_eq_false (fun e=>h (by rw [e]))] at O
 have h:xs.length=ys.length:=by omega
 refine D7 xs.length V (fun i=>∀ (j:Nat) (D:j<xs.length) (G:j<ys.length),j<i→xs[j]=ys[j]) (by simp) (fun i next hi J U=>?_) (fun next J=>?_)
 · refine A0 (fun _=>?_) (fun h=>by omega)
   refine AK hi (AK (by omega) (CK (fun e=>?_) (fun e=>U fun j D G hj=>?_)))
   · rwa [decide_eq_false (fun W=>e (by subst W; rfl))] at O
   · by_cases ej:j=i
     · subst ej; exact e
     · exact J j D G (by omega)
 · refine A0 (fun h=>by omega) (fun _=>?_)
   rwa [decide_eq_true (List.ext_getElem h fun j D G=>J j D G D)] at O
theorem xT {xs ys:List Int} {Q:Bool→Prop} (D:xs.length≤1000000000000) (h:Q (decide (xs=ys))):JR xs ys Q:=by unfold JR; exact iV D h
theorem AcN {xs ys:List Int} {Q:Bool→Prop} (D:xs.length≤1000000000000) (h:Q (decide (xs=ys))):MN xs ys Q:=by unfold MN; exact iV D h
def KV (a:Rows):Prop:=a.Start.length≤1000000000000∧a.Col.length≤1000000000000∧a.Val.length≤1000000000000
theorem tF (a b:Rows):a=b↔a.Rows=b.Rows∧a.Cols=b.Cols∧a.Start=b.Start∧a.Col=b.Col∧a.Val=b.Val:=by
 cases a; cases b; simp
theorem nW {a b:Rows} {Q:Bool→Prop} (O:KV a) (G:Q (decide (a=b))):TF a b Q:=by
 unfold TF
 obtain ⟨J,Y,Z⟩:=O
 have hno (h:¬a=b):Q false:=by rwa [decide_eq_false h] at G
 simp only [tF] at hno
 refine BA (fun U=>BA (fun D=>xT J (A0 (fun V=>xT Y (A0 (fun W=>AcN Z ?_) (fun h=>?_))) (fun h=>?_))) (fun h=>?_)) (fun h=>?_)
 · rwa [show decide (a.Val=b.Val)=decide (a=b) by apply decide_eq_decide.2; rw [tF]; simp [U,D,V,W]]
 all_goals exact hno (by simp_all)
def AcO (a:Rows) (i:Nat):Prop:=∀ j:Nat,GU a.Start i≤j→(j:Int)<GU a.Start ((i:Int)+1)→0≤GU a.Col j∧GU a.Col j<a.Cols∧(GU a.Start i<j→GU a.Col ((j:Int) - 1)<GU a.Col j)
structure NT (a:Rows):Prop where
 r0:0≤a.Rows
 r1:a.Rows≤4096
 c0:0≤a.Cols
 c1:a.Cols≤4096
 sl:(a.Start.length:Int)=a.Rows+1
 vl:a.Val.length=a.Col.length
 cl:a.Col.length≤65536
 s0:GU a.Start 0=0
 sn:GU a.Start a.Rows=a.Col.length
 up:∀ i:Nat,(i:Int)<a.Rows→GU a.Start i≤GU a.Start ((i:Int)+1)
 row:∀ i:Nat,(i:Int)<a.Rows→AcO a i
noncomputable instance (a:Rows):Decidable (NT a):=Classical.propDecidable _
theorem tG {a:Rows} {n:Nat} (h:∀ i:Nat,i<n→GU a.Start i≤GU a.Start ((i:Int)+1)) {i j:Nat} (h1:i≤j) (h2:j≤n):GU a.Start i≤GU a.Start j:=by
  induction j with
  | zero => have : i = 0 := by omega
            subst this; exact Int.le_refl _
  | succ j ih=>
    by_cases e:i=j+1
    · subst e; exact Int.le_refl _
    · have:=ih (by omega) (by omega)
      have h3:=h j (by omega)
      have:((j+1:Nat):Int)=(j:Int)+1:=by omega
      rw [this]; omega
theorem AaS {x y:Int} {Q:Bool→Prop} (h:Q (decide (x<y))):P8 x y Q:=by
 unfold P8 GX
 exact AC (by simp) h
theorem nX {xs:List Int} {Q:Bool→Prop} (hl:xs.length≤1000000000) (O:(∀ i:Nat,i+1<xs.length→GU xs i≤GU xs ((i:Int)+1))→Q true) (V:(∃ i:Nat,i+1<xs.length∧¬GU xs i≤GU xs ((i:Int)+1))→Q false):F7 xs Q:=by
 unfold F7
 rw [AJ (by omega) (by omega)]
 by_cases h0:xs.length=0
 · refine DE (fun s:Int=>s = -1) (fun _=>0) (by omega) (fun s next U G=>?_)
   subst U
   exact A0 (fun h=>by omega) (fun _=>O fun i hi=>by omega)
 refine DE (fun s:Int=>∃ j:Nat,s=j∧j<xs.length∧∀ i:Nat,j≤i→i+1<xs.length→GU xs i≤GU xs ((i:Int)+1)) (fun s=>s.toNat) ⟨xs.length - 1,by omega,by omega,fun i hi h=>by omega⟩ ?_
 rintro _ next ⟨j,rfl,hj,J⟩ G
 refine A0 (fun h=>?_) (fun h=>O fun i hi=>J i (by omega) hi)
 obtain ⟨j,rfl⟩:∃ q,j=q+1:=⟨j - 1,by omega⟩
 have e:A7 (((j+1:Nat):Int) - 1)=(j:Int):=by rw [AJ (by omega) (by omega)]; omega
 rw [e]
 refine DR (by omega) (by omega) (DR (by omega) (by omega) (AaS (A0 (fun D=>V ⟨j,by omega,?_⟩) (fun D=>G _ ⟨j,rfl,by omega,fun i hi h=>?_⟩ (by omega)))))
 · have:((j+1:Nat):Int)=(j:Int)+1:=by omega
   rw [this] at D; omega
 · by_cases e:i=j
   · subst e
     have:((i+1:Nat):Int)=(i:Int)+1:=by omega
     rw [this] at D; omega
   · exact J i (by omega) h
theorem AaT {xs:List Int} {lo hi:Int} {j:Nat} (h0:0≤lo) (h1:lo≤hi) (h2:hi≤xs.length) (hj:lo+j<hi):GU ((xs.take hi.toNat).drop lo.toNat) j=GU xs (lo+j):=by
 unfold GU
 simp only [List.getD_eq_getElem?_getD,List.getElem?_drop,Int.toNat_natCast]
 rw [List.getElem?_take_of_lt (by omega)]
 congr 2; omega
theorem AaU {xs:List α} {lo hi:Int} (h0:0≤lo) (h1:lo≤hi) (h2:hi≤xs.length):((xs.take hi.toNat).drop lo.toNat).length=(hi - lo).toNat:=by
 simp only [List.length_drop,List.length_take]; omega
theorem AcP {xs:List Int} {cols:Int} {Q:Bool→Prop} (hc0:0≤cols) (Z:cols≤4096) (hl:xs.length≤1000000000)
   (h1:(∀ j:Nat,j<xs.length→0≤GU xs j∧GU xs j<cols∧(0<j→GU xs ((j:Int) - 1)<GU xs j))→Q true) (V:(∃ j:Nat,j<xs.length∧¬(0≤GU xs j∧GU xs j<cols∧(0<j→GU xs ((j:Int) - 1)<GU xs j)))→Q false):dU xs cols Q:=by
 unfold dU
 rw [AJ (by omega) (by omega)]
 refine D7 xs.length (by omega) (fun i=>∀ j:Nat,j<i→j<xs.length→0≤GU xs j∧GU xs j<cols∧(0<j→GU xs ((j:Int) - 1)<GU xs j)) (by simp) (fun i next hi G W=>?_) (fun next G=>?_)
 · refine A0 (fun _=>?_) (fun h=>by omega)
   refine DR (by omega) (by omega) (IP (CF (fun h=>V ⟨i,hi,fun U=>?_⟩) (fun h=>?_)))
   · simp at h; omega
   have h:0≤GU xs i∧GU xs i≤cols - 1:=by simpa using h
   have hstep (hx:0<i→GU xs ((i:Int) - 1)<GU xs i):next (A7 ((i:Int)+1)):=W fun j J D=>by
     by_cases e:j=i
     · subst e; exact ⟨h.1,by omega,hx⟩
     · exact G j (by omega) D
   refine A0 (fun Y=>?_) (fun Y=>hstep fun h=>by omega)
   rw [AJ (by omega) (by omega)]
   refine DR (by omega) (by omega) (A0 (fun O=>V ⟨i,hi,fun U=>?_⟩) (fun O=>hstep fun _=>by omega))
   have:=U.2.2 (by omega); omega
 · exact A0 (fun h=>by omega) (fun _=>h1 fun j J=>G j J J)
theorem ZH {a:Rows} {Q:Bool→Prop} (hl:KV a) (hQ:Q (decide (NT a))):HD a Q:=by
 unfold HD
 have hno (h:¬NT a):Q false:=by rwa [decide_eq_false h] at hQ
 have hyes (h:NT a):Q true:=by rwa [decide_eq_true h] at hQ
 unfold KV at hl
 refine IP (CF (fun h=>hno fun D=>?_) (fun h=>?_))
 · have:=D.r0; have:=D.r1; simp at h; omega
 have h1:0≤a.Rows∧a.Rows≤4096:=by simpa using h
 refine IP (CF (fun h=>hno fun D=>?_) (fun h=>?_))
 · have:=D.c0; have:=D.c1; simp at h; omega
 have h2:0≤a.Cols∧a.Cols≤4096:=by simpa using h
 rw [AJ (by omega) (by omega)]
 refine CK (fun h=>hno fun D=>h D.sl) (fun h3=>?_)
 refine CK (fun h=>hno fun D=>h (by rw [D.vl])) (fun h4=>?_)
 refine A0 (fun h=>hno fun D=>by have:=D.cl; omega) (fun h5=>?_)
 refine DR (by omega) (by omega) (CK (fun h=>hno fun D=>h D.s0) (fun h6=>?_))
 refine DR (by omega) (by omega) (CK (fun h=>hno fun D=>h D.sn) (fun h7=>?_))
 obtain ⟨n,hn⟩:∃ n:Nat,a.Rows=n:=⟨a.Rows.toNat,by omega⟩
 have hsl:a.Start.length=n+1:=by omega
 refine nX (by omega) (fun hup=>AC rfl ?_) (fun hb=>AY rfl (hno fun D=>?_))
 rotate_left
 · obtain ⟨i,hi,O⟩:=hb
   exact O (D.up i (by omega))
 have G:∀ i:Nat,i<n→GU a.Start i≤GU a.Start ((i:Int)+1):=fun i hi=>hup i (by omega)
 rw [hn] at h7 ⊢
 refine D7 n (by omega) (fun i=>∀ j:Nat,j<i→AcO a j) (by simp) (fun i next hi hR Z=>?_) (fun next hR=>?_)
 · refine A0 (fun _=>?_) (fun h=>by omega)
   have e1:A7 ((i:Int)+1)=(i:Int)+1:=AJ (by omega) (by omega)
   rw [e1] at Z ⊢
   have W:0≤GU a.Start i:=by have:=tG G (i:=0) (j:=i) (by omega) (by omega); rw [show ((0:Nat):Int)=0 from rfl,h6] at this; exact this
   have Y:GU a.Start ((i:Int)+1)≤a.Col.length:=by
     have:=tG G (i:=i+1) (j:=n) (by omega) (by omega)
     rw [h7,show ((i+1:Nat):Int)=(i:Int)+1 by omega] at this; exact this
   have hm:=G i hi
   refine DR (by omega) (by omega) (DR (by omega) (by omega) ⟨W,hm,Y,?_⟩)
   have J:=AaU W hm Y
   have V:∀ j:Nat,GU a.Start i+j<GU a.Start ((i:Int)+1)→GU ((a.Col.take (GU a.Start ((i:Int)+1)).toNat).drop (GU a.Start i).toNat) j=GU a.Col (GU a.Start i+j):=fun j hj=>AaT W hm Y hj
   refine AcP (by omega) (by omega) (by rw [J]; omega) (fun hall=>AC rfl (Z fun j hj=>?_)) (fun hb=>AY rfl (hno fun D=>?_))
   · by_cases e:j=i
     · subst e
       intro p hp1 hp2
       obtain ⟨q,hq⟩:∃ q:Nat,(p:Int)=GU a.Start j+q:=⟨(p - GU a.Start j).toNat,by omega⟩
       have U:=hall q (by rw [J]; omega)
       rw [V q (by omega),←hq] at U
       refine ⟨U.1,U.2.1,fun hlt=>?_⟩
       have:=U.2.2 (by omega)
       rw [show (q:Int) - 1=((q - 1:Nat):Int) by omega,V (q - 1) (by omega),show GU a.Start j+((q - 1:Nat):Int)=(p:Int) - 1 by omega] at this
       exact this
     · exact hR j (by omega)
   · obtain ⟨q,hq,O⟩:=hb
     rw [J] at hq
     apply O
     have U:=D.row i (by omega) (GU a.Start i+q).toNat (by omega) (by omega)
     have ep:(((GU a.Start i+q).toNat:Nat):Int)=GU a.Start i+q:=by omega
     rw [ep] at U
     rw [V q (by omega)]
     refine ⟨U.1,U.2.1,fun h0=>?_⟩
     have:=U.2.2 (by omega)
     rw [show (q:Int) - 1=((q - 1:Nat):Int) by omega,V (q - 1) (by omega),show GU a.Start i+((q - 1:Nat):Int)=GU a.Start i+q - 1 by omega]
     exact this
 · refine A0 (fun h=>by omega) (fun _=>hyes ⟨h1.1,h1.2,h2.1,h2.2,h3,by omega,by omega,h6,by rw [hn]; exact h7,fun i hi=>G i (by omega),fun i hi=>hR i (by omega)⟩)
theorem TO {a:Rows} {Q:Bool→Prop} (hl:KV a) (hQ:Q (decide (NT a))):FV a Q:=by
 unfold FV
 have hno (h:¬NT a):Q false:=by rwa [decide_eq_false h] at hQ
 have hyes (h:NT a):Q true:=by rwa [decide_eq_true h] at hQ
 unfold KV at hl
 refine A0 (fun h=>hno fun D=>by have:=D.r0; omega) (fun h1=>?_)
 refine A0 (fun h=>hno fun D=>by have:=D.r1; omega) (fun h2=>?_)
 refine A0 (fun h=>hno fun D=>by have:=D.c0; omega) (fun h1'=>?_)
 refine A0 (fun h=>hno fun D=>by have:=D.c1; omega) (fun h2'=>?_)
 rw [AJ (by omega) (by omega)]
 refine CK (fun h=>hno fun D=>h D.sl) (fun h3=>?_)
 refine CK (fun h=>hno fun D=>h (by rw [D.vl])) (fun h4=>?_)
 refine A0 (fun h=>hno fun D=>by have:=D.cl; omega) (fun h5=>?_)
 refine DR (by omega) (by omega) (CK (fun h=>hno fun D=>h D.s0) (fun h6=>?_))
 refine DR (by omega) (by omega) (CK (fun h=>hno fun D=>h D.sn) (fun Z=>?_))
 obtain ⟨n,hn⟩:∃ n:Nat,a.Rows=n:=⟨a.Rows.toNat,by omega⟩
 have hsl:a.Start.length=n+1:=by omega
 rw [hn] at Z ⊢
 refine D7 n (by omega) (fun i=>(∀ j:Nat,j<i→GU a.Start j≤GU a.Start ((j:Int)+1))∧∀ j:Nat,j<i→AcO a j) ⟨by simp,by simp⟩ (fun i next hi G J=>?_) (fun next G=>?_)
 · refine A0 (fun _=>?_) (fun h=>by omega)
   have e1:A7 ((i:Int)+1)=(i:Int)+1:=AJ (by omega) (by omega)
   rw [e1] at J ⊢
   refine DR (by omega) (by omega) (DR (by omega) (by omega) (A0 (fun h=>hno fun D=>by have:=D.up i (by omega); omega) (fun hm=>?_)))
   have hlo:0≤GU a.Start i:=by have:=tG G.1 (i:=0) (j:=i) (by omega) (by omega); rw [show ((0:Nat):Int)=0 from rfl,h6] at this; exact this
   refine DR (by omega) (by omega) (A0 (fun h=>by omega) (fun _=>DR (by omega) (by omega) (A0 (fun h=>hno fun D=>?_) (fun hhi=>?_))))
   · have:=tG (n:=n) (fun j hj=>D.up j (by omega)) (i:=i+1) (j:=n) (by omega) (by omega)
     rw [Z,show ((i+1:Nat):Int)=(i:Int)+1 by omega] at this; omega
   refine DR (by omega) (by omega) ?_
   obtain ⟨lo,U⟩:∃ lo:Nat,GU a.Start i=lo:=⟨(GU a.Start i).toNat,by omega⟩
   obtain ⟨W,ehi⟩:∃ hi:Nat,GU a.Start ((i:Int)+1)=hi:=⟨(GU a.Start ((i:Int)+1)).toNat,by omega⟩
   rw [U]
   refine B2 (σ:=Unit) (fun _ j=>j) lo W (by omega) (fun j _=>∀ p:Nat,lo≤p→p<j→0≤GU a.Col p∧GU a.Col p<a.Cols∧(lo<p→GU a.Col ((p:Int) - 1)<GU a.Col p)) (by omega) (s0:=()) (fun p h1 h2=>by omega) (fun j _ nx hj1 hj2 Y V=>?_) (fun _ nx Y=>?_)
   · refine DR (by omega) (by omega) (A0 (fun _=>?_) (fun h=>by omega))
     have hbad (h:¬(0≤GU a.Col j∧GU a.Col j<a.Cols∧(lo<j→GU a.Col ((j:Int) - 1)<GU a.Col j))):Q false:=hno fun D=>h (by
       have:=D.row i (by omega) j (by omega) (by omega)
       rw [U] at this
       exact ⟨this.1,this.2.1,fun h=>this.2.2 (by omega)⟩)
     refine DR (by omega) (by omega) (A0 (fun h=>hbad fun D=>by omega) (fun g1=>?_))
     refine DR (by omega) (by omega) (A0 (fun h=>hbad fun D=>by omega) (fun g2=>?_))
     have hstep (hx:lo<j→GU a.Col ((j:Int) - 1)<GU a.Col j):nx (A7 ((j:Int)+1)):=V () fun p O hp2=>by
       by_cases e:p=j
       · subst e; exact ⟨by omega,by omega,hx⟩
       · exact Y p O (by omega)
     refine DR (by omega) (by omega) (A0 (fun h=>?_) (fun h=>hstep fun h'=>by omega))
     rw [AJ (by omega) (by omega)]
     refine DR (by omega) (by omega) (DR (by omega) (by omega) (A0 (fun h=>hbad fun D=>by have:=D.2.2 (by omega); omega) (fun g3=>hstep fun _=>by omega)))
   · refine DR (by omega) (by omega) (A0 (fun h=>by omega) (fun _=>?_))
     refine J ⟨fun j hj=>?_,fun j hj=>?_⟩
     · by_cases e:j=i
       · subst e; omega
       · exact G.1 j (by omega)
     · by_cases e:j=i
       · subst e
         intro p O hp2
         have:=Y p (by omega) (by omega)
         exact ⟨this.1,this.2.1,fun h=>this.2.2 (by omega)⟩
       · exact G.2 j (by omega)
 · refine A0 (fun h=>by omega) (fun _=>hyes ⟨by omega,by omega,by omega,by omega,h3,by omega,by omega,h6,by rw [hn]; exact Z,fun i hi=>G.1 i (by omega),fun i hi=>G.2 i (by omega)⟩)
def key (t:A3):HO:=(t.Row,t.Col)
def Srt (ts:List A3):Prop:=ts.Pairwise fun a b=>MF (key a) (key b)
structure Canon (rows cols:Int) (ts:List A3):Prop where
 r0:0≤rows
 r1:rows≤4096
 c0:0≤cols
 c1:cols≤4096
 len:ts.length≤65536
 srt:Srt ts
 inn:∀ t∈ts,RC rows cols t
theorem eY {q:α→Bool}:∀ {l:List α},l.Pairwise (fun a b=>q b=true→q a=true)→∀ (i:Nat) (h:i<l.length),(q l[i]=true↔i<l.countP q)
 | [],_,i,h=>by simp at h
 | a :: l,hp,i,h=>by
  rw [List.pairwise_cons] at hp
  rw [List.countP_cons]
  by_cases ha:q a=true
  · rw [if_pos ha]
    cases i with
    | zero=>simp [ha]
    | succ i=>
     have:=eY hp.2 i (by simpa using h)
     simp only [List.getElem_cons_succ]
     rw [this]; omega
  · rw [if_neg ha]
    have J:l.countP q=0:=List.countP_eq_zero.2 fun b G D=>ha (hp.1 b G D)
    rw [J]
    refine ⟨fun D=>absurd ?_ ha,fun h=>by omega⟩
    cases i with
    | zero=>exact D
    | succ i=>exact hp.1 _ (List.getElem_mem _) D
theorem Srt.row (h:Srt ts) (v:Nat) (p:Nat) (hp:p<ts.length):ts[p].Row<v↔(p:Int)<E6 ts v:=by
 have:=eY (q:=fun t:A3=>decide (t.Row<(v:Int))) (l:=ts) (List.Pairwise.imp (fun {a b} D=>by
  simp only [decide_eq_true_eq]
  unfold MF key at D
  simp only at D
  omega) h) p hp
 simp only [decide_eq_true_eq] at this
 rw [this]; unfold E6; omega
theorem AcQ {f:Nat→Int} {n:Nat} {i:Int} (h0:0≤i) (h:i<n):GU ((List.range n).map f) i=f i.toNat:=by
 unfold GU
 rw [List.getD_eq_getElem?_getD,NS (by omega)]; rfl
theorem tH {f:α→Int} {xs:List α} {i:Int} (h0:0≤i) (h:i<xs.length):GU (xs.map f) i=f (xs[i.toNat]'(by omega)):=by
 unfold GU
 simp [List.getD_eq_getElem?_getD,show i.toNat<xs.length by omega]
theorem V6 {rows cols:Int} {i:Int} (D:0≤i) (h:i≤rows):GU (B0 rows cols ts).Start i=E6 ts i.toNat:=AcQ D (by omega)
theorem WO {rows cols:Int} (h:Canon rows cols ts):E6 ts rows.toNat=ts.length:=by
 have h0:=h.r0
 unfold E6
 rw [List.countP_eq_length.2]
 intro t D
 have:=h.inn t D
 unfold RC at this
 simp; omega
theorem TP (h:∀ t∈ts,0≤t.Row):E6 ts 0=0:=by
 unfold E6
 rw [List.countP_eq_zero.2]; · rfl
 intro t D
 have:=h t D
 simp; omega
theorem Srt.at (h:Srt ts) {i p:Nat} (hp:p<ts.length):ts[p].Row=i↔E6 ts i≤p∧(p:Int)<E6 ts (i+1):=by
 have h1:=h.row i p hp
 have h2:=h.row (i+1) p hp
 omega
theorem Canon.right {rows cols:Int} (h:Canon rows cols ts):NT (B0 rows cols ts) where
 r0:=h.r0
 r1:=h.r1
 c0:=h.c0
 c1:=h.c1
 sl:=by have:=h.r0; simp [B0]; omega
 vl:=by simp [B0]
 cl:=by simpa [B0] using h.len
 s0:=by
  have:=h.r0
  rw [V6 (by omega) (by omega)]
  exact TP fun t ht=>(h.inn t ht).1
 sn:=by
  have:=h.r0
  show GU (B0 rows cols ts).Start rows=_
  rw [V6 (by omega) (by omega),WO h]; simp [B0]
 up i hi:=by
  have hi:(i:Int)<rows:=hi
  rw [V6 (by omega) (by omega),V6 (by omega) (by omega)]
  have e1:((i:Int)).toNat=i:=by omega
  have e2:((i:Int)+1).toNat=i+1:=by omega
  rw [e1,e2,TN i ts fun t ht=>(h.inn t ht).1]
  have:=ZF ts (i+1)
  omega
 row i hi:=by
  have hi:(i:Int)<rows:=hi
  intro j hj1 hj2
  rw [V6 (by omega) (by omega)] at hj1 hj2 ⊢
  have e1:((i:Int)).toNat=i:=by omega
  have e2:((i:Int)+1).toNat=i+1:=by omega
  rw [e1] at hj1 ⊢
  rw [e2] at hj2
  have hb:=V5 ts (i+1)
  have hjl:j<ts.length:=by omega
  have hc:GU (B0 rows cols ts).Col j=ts[j].Col:=by
   show GU (ts.map (·.Col)) j=_
   rw [tH (by omega) (by omega)]; rfl
  have hin:=h.inn _ (List.getElem_mem hjl)
  have hr:=(h.srt.at hjl (i:=i)).2 ⟨hj1,hj2⟩
  unfold RC at hin
  refine ⟨by rw [hc]; omega,by rw [hc]; exact hin.2.2.2,fun hlt=>?_⟩
  obtain ⟨q,rfl⟩:∃ q,j=q+1:=⟨j - 1,by have:=V5 ts i; omega⟩
  have hc2:GU (B0 rows cols ts).Col (((q+1:Nat):Int) - 1)=ts[q].Col:=by
   show GU (ts.map (·.Col)) _=_
   rw [tH (by omega) (by omega)]
   simp
  have hr2:=(h.srt.at (show q<ts.length by omega) (i:=i)).2 ⟨by omega,by omega⟩
  have hs:=List.pairwise_iff_getElem.1 h.srt q (q+1) (by omega) hjl (by omega)
  unfold MF key at hs
  simp only at hs
  rw [hc,hc2]; omega
theorem nY:Canon 0 0 []:=⟨by omega,by omega,by omega,by omega,by simp,.nil,by simp⟩
noncomputable def RU (a:Rows):Rows:=if NT a then a else B0 0 0 []
theorem lA {a:Rows} {Q:Rows→Prop} (G:KV a) (D:Q (RU a)):SR a Q:=by
 unfold SR SQ
 unfold RU at D
 refine ZH G (A0 (fun h=>?_) (fun h=>?_))
 · rwa [if_pos h] at D
 · rw [if_neg h] at D
   exact ⟨by decide,by decide,D⟩
theorem M6 {a:Rows} {Q:Rows→Prop} (G:KV a) (D:Q (RU a)):I6 a Q:=by
 unfold I6 DF
 unfold RU at D
 refine TO G (A0 (fun h=>?_) (fun h=>?_))
 · rwa [if_pos h] at D
 · rw [if_neg h] at D
   exact ⟨by decide,by decide,D⟩
end Go.Proofs.YtbohadngdkjljaaGreat
