import Derived.Test.YtbohadngdkjljaaGreatCsrC
namespace Go.Proofs.YtbohadngdkjljaaGreat
open Go Go.Fw
set_option linter.unusedVariables false
set_option linter.unusedSimpArgs false
variable {ts:List A1} {α:Type}
theorem NN {f:Nat→Int} {n j:Nat} (h:j<n):((List.range n).map f)[j]? = some (f j):=by simp [h]
theorem qW {f:Nat→Int} {n j:Nat} {v:Int}:((List.range n).map f).set j v=(List.range n).map (fun i=>if i=j then v else f i):=by
 apply List.ext_getElem?
 intro i
 rw [List.getElem?_set]
 simp only [List.length_map,List.length_range]
 by_cases e:j=i
 · subst e
   by_cases h:j<n
   · rw [if_pos rfl,if_pos h,NN h,if_pos rfl]
   · rw [if_pos rfl,if_neg h,List.getElem?_eq_none (by simp; omega)]
 · rw [if_neg e]
   by_cases h:i<n
   · rw [NN h,NN h,if_neg (fun h=>e h.symm)]
   · rw [List.getElem?_eq_none (by simp; omega),List.getElem?_eq_none (by simp; omega)]
theorem QM {f g:Nat→Int} {n:Nat} (h:∀ j,j<n→f j=g j):(List.range n).map f=(List.range n).map g:=List.map_congr_left fun j D=>h j (by simpa using D)
def E5 (ts:List A1) (j:Nat):Int:=((ts.countP (fun t:A1=>decide (t.Row<(j:Int))):Nat):Int)
def T3 (ts:List A1) (j:Nat):Int:=((ts.countP (fun t:A1=>decide (t.Row+1=(j:Int))):Nat):Int)
theorem qX (ts:List A1) (t:A1) (j:Nat):E5 (ts++[t]) j=E5 ts j+if t.Row<j then 1 else 0:=by
 unfold E5; rw [List.countP_append,List.countP_singleton]; simp only [decide_eq_true_eq]; split <;> simp
theorem qY (ts:List A1) (t:A1) (j:Nat):T3 (ts++[t]) j=T3 ts j+if t.Row+1=j then 1 else 0:=by
 unfold T3; rw [List.countP_append,List.countP_singleton]; simp only [decide_eq_true_eq]; split <;> simp
theorem VH (ts:List A1) (j:Nat):0≤E5 ts j∧E5 ts j≤ts.length:=by
 unfold E5; have:=List.countP_le_length (p:=fun t:A1=>decide (t.Row<(j:Int))) (l:=ts); omega
theorem ZP (ts:List A1) (j:Nat):0≤T3 ts j∧T3 ts j≤ts.length:=by
 unfold T3; have:=List.countP_le_length (p:=fun t:A1=>decide (t.Row+1=(j:Int))) (l:=ts); omega
theorem TW (j:Nat):∀ (ts:List A1),(∀ t∈ts,0≤t.Row)→E5 ts (j+1)=E5 ts j+T3 ts (j+1)
 | [],_=>rfl
 | t :: ts,h=>by
  have:=TW j ts fun x G=>h x (by simp [G])
  unfold E5 T3 at *
  simp only [List.countP_cons]
  have h0:=h t (by simp)
  by_cases h1:t.Row<j
  · have D:t.Row<(j+1:Nat):=by omega
    have J:¬t.Row+1=((j+1:Nat):Int):=by omega
    simp only [h1,D,J,decide_true,decide_false,if_true,if_false]; simp only [Bool.false_eq_true,if_false]; omega
  · by_cases h4:t.Row+1=((j+1:Nat):Int)
    · have D:t.Row<(j+1:Nat):=by omega
      simp only [h1,D,h4,decide_true,decide_false,if_true,if_false]; simp only [Bool.false_eq_true,if_false]; omega
    · have D:¬t.Row<(j+1:Nat):=by omega
      simp only [h1,D,h4,decide_true,decide_false,if_true,if_false]; simp only [Bool.false_eq_true,if_false]; omega
def B0 (rows cols:Int) (ts:List A1):Rows:=⟨rows,cols,(List.range (rows.toNat+1)).map (E5 ts),ts.map (·.Col),ts.map (·.Val)⟩
theorem bR (n:Nat):List.replicate n (0:Int)=(List.range n).map fun _=>0:=by
 apply List.ext_getElem?
 intro i
 by_cases h:i<n
 · rw [NN h]; simp [h]
 · rw [List.getElem?_eq_none (by simp; omega),List.getElem?_eq_none (by simp; omega)]
theorem oB {rows cols:Int} {Q:Rows→Prop} (h0:0≤rows) (h1:rows≤1000000) (hl:ts.length≤1000000) (J:∀ t∈ts,0≤t.Row∧t.Row<rows) (V:Q (B0 rows cols ts)):PQ rows cols ts Q:=by
 unfold PQ SV
 obtain ⟨n,rfl⟩:∃ n:Nat,rows=n:=⟨rows.toNat,by omega⟩
 have e:A7 ((n:Int)+1)=(n+1:Nat):=by rw [AH (by omega) (by omega)]; omega
 rw [e]
 refine ⟨by omega,by omega,?_⟩
 simp only [Int.toNat_natCast]
 rw [bR]
 refine B3 (fun (s:List Int×List Int×List Int) i=>(s.1,s.2.1,s.2.2,i)) 0 ts.length (s0:=((List.range (n+1)).map fun _=>0,[],[])) (by omega) (fun i s=>s=((List.range (n+1)).map (T3 (ts.take i)),(ts.take i).map (·.Col),(ts.take i).map (·.Val))) (by omega) (by simp [T3]) (fun i s next _ hi D G=>?_) (fun s next D=>?_)
 · subst D
   dsimp only
   have hr:=J _ (List.getElem_mem hi)
   refine A0 (fun _=>?_) (fun h=>by omega)
   refine AJ hi ?_
   obtain ⟨q,hq⟩:∃ q:Nat,ts[i].Row=q:=⟨ts[i].Row.toNat,by omega⟩
   have U:A7 (ts[i].Row+1)=(q+1:Nat):=by rw [AH (by omega) (by omega)]; omega
   rw [U]
   have hc:=ZP (ts.take i) (q+1)
   have Z:(ts.take i).length≤ts.length:=by simp; omega
   refine AA (by omega) (NN (by omega)) (AA (by omega) (NN (by omega)) (AQ (by simp; omega) (AQ (by simp; omega) (G ((List.range (n+1)).map (T3 (ts.take (i+1))),(ts.take (i+1)).map (·.Col),(ts.take (i+1)).map (·.Val)) rfl |> cast ?_))))
   congr 1
   simp only [Int.toNat_natCast]
   rw [qW,GN hi,GN hi]
   refine Prod.ext (QM fun j O=>?_) rfl
   rw [List.take_succ_eq_append_getElem hi,qY]
   by_cases ej:j=q+1
   · subst ej; rw [if_pos (by omega),if_pos rfl,AH (by omega) (by omega)]
   · rw [if_neg (by omega),if_neg ej]; omega
 · subst D
   dsimp only
   refine A0 (fun h=>by omega) (fun _=>?_)
   simp only [List.take_length]
   refine B3 (fun (s:List Int) i=>(s,i)) 0 n (by omega) (fun i s=>s=(List.range (n+1)).map fun j=>if j≤i then E5 ts j else T3 ts j) (by omega) (QM fun j O=>?_) (fun i s next _ hi D G=>?_) (fun s next D=>?_)
   · by_cases ej:j≤0
     · rw [if_pos ej,show j=0 by omega]
       have:∀ t∈ts,¬t.Row<((0:Nat):Int):=fun t h=>by have:=J t h; omega
       have W:∀ t∈ts,¬t.Row+1=((0:Nat):Int):=fun t h=>by have:=J t h; omega
       unfold T3 E5
       rw [List.countP_eq_zero.2 (by simpa using W),List.countP_eq_zero.2 (by simpa using this)]
     · rw [if_neg ej]
   · subst D
     refine A0 (fun _=>?_) (fun h=>by omega)
     have U:A7 ((i:Int)+1)=(i+1:Nat):=by rw [AH (by omega) (by omega)]; omega
     rw [U] at G ⊢
     refine AA (by omega) (NN (by omega)) (AA (by omega) (NN (by omega)) (AA (by omega) (NN (by omega)) (G _ ?_)))
     simp only [Int.toNat_natCast]
     rw [qW]
     refine QM fun j O=>?_
     have Y:=VH ts i
     have hb2:=ZP ts (i+1)
     rw [if_neg (show ¬i+1≤i by omega),if_pos (Nat.le_refl i),AH (by omega) (by omega)]
     by_cases ej:j=i+1
     · subst ej; rw [if_pos rfl,if_pos (Nat.le_refl _),TW i ts fun t h=>(J t h).1]; omega
     · rw [if_neg ej]
       by_cases h:j≤i
       · rw [if_pos h,if_pos (by omega)]
       · rw [if_neg h,if_neg (by omega)]
   · subst D
     refine A0 (fun h=>by omega) (fun _=>?_)
     rw [QM (g:=E5 ts) fun j O=>if_pos (by omega)]
     exact V
theorem ZQ {rows cols:Int} {Q:Rows→Prop} (h0:0≤rows) (h1:rows≤1000000) (hl:ts.length≤1000000) (V:∀ t∈ts,0≤t.Row∧t.Row<rows) (O:Q (B0 rows cols ts)):HR rows cols ts Q:=by
 unfold HR DB
 obtain ⟨n,rfl⟩:∃ n:Nat,rows=n:=⟨rows.toNat,by omega⟩
 have e:A7 ((n:Int)+1)=(n+1:Nat):=by rw [AH (by omega) (by omega)]; omega
 rw [e]
 refine ⟨by omega,by omega,?_⟩
 simp only [Int.toNat_natCast]
 rw [bR]
 refine B3 (fun (s:List Int×List Int×List Int) i=>(s.1,s.2.1,s.2.2,i)) 0 ts.length (s0:=((List.range (n+1)).map fun _=>0,[],[])) (by omega) (fun i s=>s=((List.range (n+1)).map (E5 (ts.take i)),(ts.take i).map (·.Col),(ts.take i).map (·.Val))) (by omega) (by simp [E5]) (fun i s next _ hi D U=>?_) (fun s next D=>?_)
 · subst D
   dsimp only
   have hr:=V _ (List.getElem_mem hi)
   refine A0 (fun _=>?_) (fun h=>by omega)
   refine AJ hi (AQ (by simp; omega) (AJ hi (AQ (by simp; omega) (AJ hi ?_))))
   obtain ⟨q,hq⟩:∃ q:Nat,ts[i].Row=q:=⟨ts[i].Row.toNat,by omega⟩
   have W:A7 (ts[i].Row+1)=(q+1:Nat):=by rw [AH (by omega) (by omega)]; omega
   rw [W]
   have Z:(ts.take i).length≤ts.length:=by simp; omega
   refine B3 (fun (s:List Int) j=>(s,j)) (q+1) (n+1) (by omega) (fun j s=>s=(List.range (n+1)).map fun p=>E5 (ts.take i) p+if q+1≤p∧p<j then 1 else 0) (by omega) (QM fun j hj=>by rw [if_neg (by omega)]; omega) (fun j s next Y J D G=>?_) (fun s next D=>?_)
   · subst D
     refine A0 (fun _=>?_) (fun h=>by omega)
     have hb:=VH (ts.take i) j
     refine AA (by omega) (NN (by omega)) (AA (by omega) (NN (by omega)) (G _ ?_))
     simp only [Int.toNat_natCast]
     rw [qW]
     refine QM fun p hp=>?_
     rw [if_neg (show ¬(q+1≤j∧j<j) by omega),AH (by omega) (by omega)]
     by_cases ep:p=j
     · subst ep; rw [if_pos rfl,if_pos (by omega)]; omega
     · rw [if_neg ep]
       by_cases h:q+1≤p∧p<j
       · rw [if_pos h,if_pos (by omega)]
       · rw [if_neg h,if_neg (by omega)]
   · subst D
     refine A0 (fun h=>by omega) (fun _=>?_)
     refine U ((List.range (n+1)).map (E5 (ts.take (i+1))),(ts.take (i+1)).map (·.Col),(ts.take (i+1)).map (·.Val)) rfl |> cast ?_
     congr 1
     simp only
     rw [GN hi,GN hi]
     refine Prod.ext (QM fun p hp=>?_) rfl
     rw [List.take_succ_eq_append_getElem hi,qX]
     by_cases h:q+1≤p
     · rw [if_pos (by omega),if_pos (by omega)]
     · rw [if_neg (by omega),if_neg (by omega)]
 · subst D
   dsimp only
   refine A0 (fun h=>by omega) (fun _=>?_)
   simp only [List.take_length]
   exact O
def zR:Rows:=⟨0,0,[],[],[]⟩
def RK (rows cols:Int) (t:A1):Prop:=0≤t.Row∧t.Row<rows∧0≤t.Col∧t.Col<cols
instance (rows cols:Int) (t:A1):Decidable (RK rows cols t):=by unfold RK; infer_instance
def wL (r rows cols:Int) (ts:List A1):Rows×Int:=
 if ¬(1≤r∧r≤5) then (zR,8)
 else if ¬(0≤rows∧rows≤4096∧0≤cols∧cols≤4096) then (zR,3)
 else if 65536<ts.length then (zR,5)
 else if ¬ ∀ t∈ts,RK rows cols t then (zR,3)
 else if (OM (SC r (ts.map dT)) qF).2≠0 then (zR,(OM (SC r (ts.map dT)) qF).2)
 else (B0 rows cols (OM (SC r (ts.map dT)) qF).1,0)
theorem tC {r:Int}:∀ {ts:List (HN×Int)} {p:HN×AL},p∈SC r ts→∃ t∈ts,t.1=p.1:=by
 suffices ∀ (ts:List (HN×Int)) (l:List (HN×AL)) p,p∈ts.foldl (fun l t=>ins r t.1 (Z2 t.2) l) l→(∃ t∈ts,t.1=p.1)∨∃ q∈l,q.1=p.1 from fun {ts p} h=>by
  rcases this ts [] p h with h | ⟨q,G,_⟩
  · exact h
  · simp at G
 intro ts
 induction ts with
 | nil=>intro l p h; exact .inr ⟨p,h,rfl⟩
 | cons t ts O=>
  intro l p h
  rcases O _ _ h with ⟨x,U,e⟩ | ⟨q,G,e⟩
  · exact .inl ⟨x,by simp [U],e⟩
  · rcases fE G with D | ⟨y,J,D⟩
    · exact .inl ⟨t,by simp,by rw [←e,D]⟩
    · exact .inr ⟨y,J,by rw [D,e]⟩
theorem xO {r rows cols:Int} (h:∀ t∈ts,RK rows cols t):∀ t∈(OM (SC r (ts.map dT)) qF).1,RK rows cols t:=by
 intro t D
 unfold OM at D
 split at D
 · obtain ⟨p,hp,rfl⟩:=List.mem_map.1 D
   obtain ⟨x,J,e⟩:=tC hp
   obtain ⟨y,G,rfl⟩:=List.mem_map.1 J
   have:=h y G
   unfold RK qF at *
   rw [←e]
   exact this
 · simp at D
theorem lD {mk:HN→Int→α} (l:List (HN×AL)):(OM l mk).1.length≤l.length:=by
 unfold OM; split <;> simp
theorem IM {x y:Int} {Q:Bool→Prop} (D:Q (decide (0≤x∧x≤y))):FW x y Q:=by
 unfold FW
 refine A0 (fun h=>?_) (fun h=>?_)
 · rwa [show decide (x≤y)=decide (0≤x∧x≤y) by apply decide_eq_decide.2; omega]
 · rwa [show decide (0≤x∧x≤y)=false by apply decide_eq_false; omega] at D
theorem xP {r rows cols:Int} {Q:Rows×Int→Prop} (hl:ts.length≤1000000000000) (Z:∀ t∈ts,GM t.Val) (D:Q (wL r rows cols ts)):QD r rows cols ts Q:=by
 unfold QD
 unfold wL at D
 refine JX (BN (fun h=>?_) (fun h=>?_))
 · rw [if_pos (by simpa using h)] at D; exact D
 have hr:1≤r∧r≤5:=by simpa using h
 rw [if_neg (by simpa using hr)] at D
 refine CA (fun b=>b=decide (¬(0≤rows∧rows≤4096∧0≤cols∧cols≤4096))) ?_ fun k hk=>?_
 · rintro _ rfl
   refine A0 (fun h=>?_) (fun h=>?_)
   · rw [if_pos h] at D; exact D
   have hrc:0≤rows∧rows≤4096∧0≤cols∧cols≤4096:=by simpa using h
   rw [if_neg h] at D
   refine A0 (fun h=>?_) (fun h=>?_)
   · rw [if_pos (by omega)] at D; exact D
   rw [if_neg (by omega)] at D
   have e1:A7 (rows - 1)=rows - 1:=AH (by omega) (by omega)
   have e2:A7 (cols - 1)=cols - 1:=AH (by omega) (by omega)
   unfold CQ CU
   refine DF ts.length (by omega) (fun i=>∀ (j:Nat) (W:j<ts.length),j<i→RK rows cols ts[j]) (by simp) (fun i next hi Y hn=>?_) (fun next Y=>?_)
   · refine A0 (fun _=>?_) (fun h=>by omega)
     refine AJ hi ?_
     unfold TM
     rw [e1,e2]
     have hbad (h:¬RK rows cols ts[i]):AD (decide (0≤(i:Int))) (Q (zR,3)) (QC r ts fun G=>AD (G.2 != 0) (Q (zR,G.2)) (PQ rows cols G.1 fun V=>Q (V,0))):=by
       refine A0 (fun _=>?_) (fun h=>by omega)
       rw [if_pos (fun h'=>h (h' _ (List.getElem_mem hi)))] at D; exact D
     refine IM (BN (fun h=>AU rfl (hbad ?_)) (fun h=>IM (BN (fun O=>hbad ?_) (fun O=>hn fun j W hji=>?_))))
     · unfold RK; simp at h; omega
     · unfold RK; simp at O; omega
     · by_cases e:j=i
       · subst e; unfold RK; simp at h O; omega
       · exact Y j W (by omega)
   · refine A0 (fun h=>by omega) (fun _=>AC (by decide) ?_)
     have J:∀ t∈ts,RK rows cols t:=by
       intro t U
       obtain ⟨j,W,rfl⟩:=List.getElem_of_mem U
       exact Y j W W
     rw [if_neg (by simpa using J)] at D
     have hlen:(SC r (ts.map dT)).length≤65536:=by
       have:=(TV r (ts.map dT) (fun t U=>by obtain ⟨x,hx,rfl⟩:=List.mem_map.1 U; exact Z x hx)).1
       simp at this; omega
     refine uV (by omega) Z (CB (fun h=>?_) (fun h=>oB (by omega) (by omega) ?_ ?_ ?_))
     · rw [if_pos h] at D; exact D
     · exact Nat.le_trans (lD _) (by omega)
     · intro t U
       have:=xO J t U
       unfold RK at this; omega
     · rw [if_neg (by simpa using h)] at D; exact D
 · refine IM (BN (fun h=>hk _ ?_) (fun h=>IM (hk _ ?_)))
   · symm; apply decide_eq_true; simp at h; omega
   · simp at h
     by_cases O:0≤cols∧cols≤4096 <;> simp [O,h]
def t2e (t:A1):DW:=⟨t.Row,t.Col,t.Val⟩
def e2t (e:DW):A1:=⟨e.From,e.To,e.W⟩
theorem AdM (l:List (HN×AL)):(OM l qF).1=(OM l mkE).1.map e2t∧(OM l qF).2=(OM l mkE).2:=by
 unfold OM
 split
 · exact ⟨by simp only [List.map_map]; rfl,rfl⟩
 · exact ⟨rfl,rfl⟩
theorem PU {r rows cols:Int} {Q:Rows×Int→Prop} (hl:ts.length≤1000000000000) (hv:∀ t∈ts,GM t.Val) (D:Q (wL r rows cols ts)):HB r rows cols ts Q:=by
 unfold HB
 unfold wL at D
 refine JY (BN (fun h=>?_) (fun h=>?_))
 · rw [if_pos (by simpa using h)] at D; exact D
 have hr:1≤r∧r≤5:=by simpa using h
 rw [if_neg (by simpa using hr)] at D
 have h3 (h:¬(0≤rows∧rows≤4096∧0≤cols∧cols≤4096)):Q (zR,3):=by rw [if_pos h] at D; exact D
 refine A0 (fun h=>h3 (by omega)) (fun h1=>A0 (fun h=>h3 (by omega)) (fun h2=>A0 (fun h=>h3 (by omega)) (fun h4=>A0 (fun h=>h3 (by omega)) (fun h5=>?_))))
 rw [if_neg (by omega)] at D
 refine A0 (fun h=>?_) (fun h=>?_)
 · rw [if_pos (by omega)] at D; exact D
 rw [if_neg (by omega)] at D
 refine B3 (fun (s:List DW) i=>(s,i)) 0 ts.length (by omega) (fun i s=>s=(ts.take i).map t2e∧∀ (j:Nat) (Y:j<ts.length),j<i→RK rows cols ts[j]) (by omega) ⟨rfl,by simp⟩ (fun i s next _ hi V Z=>?_) (fun s next V=>?_)
 · obtain ⟨rfl,hR⟩:=V
   dsimp only
   refine A0 (fun _=>?_) (fun h=>by omega)
   have hbad (h:¬RK rows cols ts[i]):Q (zR,3):=by
     rw [if_pos (fun G=>h (G _ (List.getElem_mem hi)))] at D; exact D
   refine AJ hi (A0 (fun h=>hbad fun G=>by unfold RK at G; omega) (fun h6=>?_))
   refine AJ hi (A0 (fun h=>hbad fun G=>by unfold RK at G; omega) (fun h7=>?_))
   refine AJ hi (A0 (fun h=>hbad fun G=>by unfold RK at G; omega) (fun h8=>?_))
   refine AJ hi (A0 (fun h=>hbad fun G=>by unfold RK at G; omega) (fun h9=>?_))
   refine AJ hi (AJ hi (AJ hi (AQ ?_ (Z _ ⟨?_,?_⟩))))
   · simp; omega
   · rw [GN hi]; rfl
   · intro j Y hji
     by_cases e:j=i
     · subst e; unfold RK; omega
     · exact hR j Y (by omega)
 · obtain ⟨rfl,hR⟩:=V
   dsimp only
   refine A0 (fun h=>by omega) (fun _=>?_)
   rw [List.take_length]
   have J:∀ t∈ts,RK rows cols t:=by
     intro t U
     obtain ⟨j,Y,rfl⟩:=List.getElem_of_mem U
     exact hR j Y Y
   rw [if_neg (by simpa using J)] at D
   have hkv:(ts.map t2e).map kvE=ts.map dT:=by rw [List.map_map]; rfl
   have hlen:(SC r (ts.map dT)).length≤65536:=by
     have:=(TV r (ts.map dT) (fun t U=>by obtain ⟨x,hx,rfl⟩:=List.mem_map.1 U; exact hv x hx)).1
     simp at this; omega
   have O:=xO (r:=r) J
   refine fH hr (by simp; omega) (fun t U=>by obtain ⟨x,hx,rfl⟩:=List.mem_map.1 U; exact hv x hx) ?_
   rw [hkv]
   have W:=(AdM (SC r (ts.map dT))).1
   have hf2:=(AdM (SC r (ts.map dT))).2
   have hfl:=lD (mk:=mkE) (SC r (ts.map dT))
   rw [W] at O
   rw [W,hf2] at D
   generalize OM (SC r (ts.map dT)) mkE=c at D hfl O
   obtain ⟨es,er⟩:=c
   dsimp only at *
   refine CB (fun h=>?_) (fun h=>?_)
   · rw [if_pos h] at D; exact D
   rw [if_neg (by simpa using h)] at D
   refine B3 (fun (s:List A1) i=>(s,i)) 0 es.length (by omega) (fun i s=>s=(es.take i).map e2t) (by omega) rfl (fun i s next _ hi V Z=>?_) (fun s next V=>?_)
   · subst V
     dsimp only
     refine A0 (fun _=>?_) (fun h=>by omega)
     refine AJ hi (AJ hi (AJ hi (AQ ?_ (Z _ ?_))))
     · simp; omega
     · rw [GN hi]; rfl
   · subst V
     dsimp only
     refine A0 (fun h=>by omega) (fun _=>ZQ (by omega) (by omega) ?_ ?_ ?_)
     · simp; omega
     · intro t U
       have:=O t (by simpa using U)
       unfold RK at this; omega
     · rw [List.take_length]; exact D
theorem iZ [BEq α] [LawfulBEq α] [DecidableEq α] {xs ys:List α} {Q:Bool→Prop} (V:xs.length≤1000000000000) (O:Q (decide (xs=ys))) :
   AD ((xs.length:Int) != (ys.length:Int)) (Q false) (B2 (fun (s:Int) (next:Int→Prop)=>AD (decide (s<(xs.length:Int))) (AN xs s fun x=>AN ys s fun y=>AD (x != y) (Q false) (next (A7 (s+1)))) (Q true)) 0):=by
 refine CB (fun h=>?_) (fun h=>?_)
 · rwa [decide_eq_false (fun e=>h (by rw [e]))] at O
 have h:xs.length=ys.length:=by omega
 refine DF xs.length V (fun i=>∀ (j:Nat) (D:j<xs.length) (G:j<ys.length),j<i→xs[j]=ys[j]) (by simp) (fun i next hi J W=>?_) (fun next J=>?_)
 · refine A0 (fun _=>?_) (fun h=>by omega)
   refine AJ hi (AJ (by omega) (CB (fun e=>?_) (fun e=>W fun j D G hj=>?_)))
   · rwa [decide_eq_false (fun U=>e (by subst U; rfl))] at O
   · by_cases ej:j=i
     · subst ej; exact e
     · exact J j D G (by omega)
 · refine A0 (fun h=>by omega) (fun _=>?_)
   rwa [decide_eq_true (List.ext_getElem h fun j D G=>J j D G D)] at O
theorem xQ {xs ys:List Int} {Q:Bool→Prop} (h:xs.length≤1000000000000) (D:Q (decide (xs=ys))):JR xs ys Q:=by unfold JR; exact iZ h D
theorem AcN {xs ys:List Int} {Q:Bool→Prop} (h:xs.length≤1000000000000) (D:Q (decide (xs=ys))):MH xs ys Q:=by unfold MH; exact iZ h D
def II (a:Rows):Prop:=a.Start.length≤1000000000000∧a.Col.length≤1000000000000∧a.Val.length≤1000000000000
theorem tD (a b:Rows):a=b↔a.Rows=b.Rows∧a.Cols=b.Cols∧a.Start=b.Start∧a.Col=b.Col∧a.Val=b.Val:=by
 cases a; cases b; simp
theorem oC {a b:Rows} {Q:Bool→Prop} (U:II a) (O:Q (decide (a=b))):TO a b Q:=by
 unfold TO
 obtain ⟨Z,J,G⟩:=U
 have hno (h:¬a=b):Q false:=by rwa [decide_eq_false h] at O
 simp only [tD] at hno
 refine BB (fun Y=>BB (fun V=>xQ Z (A0 (fun W=>xQ J (A0 (fun D=>AcN G ?_) (fun h=>?_))) (fun h=>?_))) (fun h=>?_)) (fun h=>?_)
 · rwa [show decide (a.Val=b.Val)=decide (a=b) by apply decide_eq_decide.2; rw [tD]; simp [Y,V,W,D]]
 all_goals exact hno (by simp_all)
def AcO (a:Rows) (i:Nat):Prop:=∀ j:Nat,GR a.Start i≤j→(j:Int)<GR a.Start ((i:Int)+1)→0≤GR a.Col j∧GR a.Col j<a.Cols∧(GR a.Start i<j→GR a.Col ((j:Int) - 1)<GR a.Col j)
structure G4 (a:Rows):Prop where
 r0:0≤a.Rows
 r1:a.Rows≤4096
 c0:0≤a.Cols
 c1:a.Cols≤4096
 sl:(a.Start.length:Int)=a.Rows+1
 vl:a.Val.length=a.Col.length
 cl:a.Col.length≤65536
 s0:GR a.Start 0=0
 sn:GR a.Start a.Rows=a.Col.length
 up:∀ i:Nat,(i:Int)<a.Rows→GR a.Start i≤GR a.Start ((i:Int)+1)
 row:∀ i:Nat,(i:Int)<a.Rows→AcO a i
noncomputable instance (a:Rows):Decidable (G4 a):=Classical.propDecidable _
theorem tE {a:Rows} {n:Nat} (h:∀ i:Nat,i<n→GR a.Start i≤GR a.Start ((i:Int)+1)) {i j:Nat} (h1:i≤j) (h2:j≤n):GR a.Start i≤GR a.Start j:=by
  induction j with
  | zero => have : i = 0 := by omega
            subst this; exact Int.le_refl _
  | succ j ih=>
    by_cases e:i=j+1
    · subst e; exact Int.le_refl _
    · have:=ih (by omega) (by omega)
      have h3:=h j (by omega)
      have:((j+1:Nat):Int)=(j:Int)+1:=by omega
      rw [this]; omega
theorem AaM {x y:Int} {Q:Bool→Prop} (h:Q (decide (x<y))):PB x y Q:=by
 unfold PB GV
 exact AC (by simp) h
theorem oD {xs:List Int} {Q:Bool→Prop} (hl:xs.length≤1000000000) (J:(∀ i:Nat,i+1<xs.length→GR xs i≤GR xs ((i:Int)+1))→Q true) (V:(∃ i:Nat,i+1<xs.length∧¬GR xs i≤GR xs ((i:Int)+1))→Q false):F2 xs Q:=by
 unfold F2
 rw [AH (by omega) (by omega)]
 by_cases h0:xs.length=0
 · refine DA (fun s:Int=>s = -1) (fun _=>0) (by omega) (fun s next U O=>?_)
   subst U
   exact A0 (fun h=>by omega) (fun _=>J fun i hi=>by omega)
 refine DA (fun s:Int=>∃ j:Nat,s=j∧j<xs.length∧∀ i:Nat,j≤i→i+1<xs.length→GR xs i≤GR xs ((i:Int)+1)) (fun s=>s.toNat) ⟨xs.length - 1,by omega,by omega,fun i hi h=>by omega⟩ ?_
 rintro _ next ⟨j,rfl,hj,G⟩ O
 refine A0 (fun h=>?_) (fun h=>J fun i hi=>G i (by omega) hi)
 obtain ⟨j,rfl⟩:∃ q,j=q+1:=⟨j - 1,by omega⟩
 have e:A7 (((j+1:Nat):Int) - 1)=(j:Int):=by rw [AH (by omega) (by omega)]; omega
 rw [e]
 refine DM (by omega) (by omega) (DM (by omega) (by omega) (AaM (A0 (fun D=>V ⟨j,by omega,?_⟩) (fun D=>O _ ⟨j,rfl,by omega,fun i hi h=>?_⟩ (by omega)))))
 · have:((j+1:Nat):Int)=(j:Int)+1:=by omega
   rw [this] at D; omega
 · by_cases e:i=j
   · subst e
     have:((i+1:Nat):Int)=(i:Int)+1:=by omega
     rw [this] at D; omega
   · exact G i (by omega) h
theorem AaN {xs:List Int} {lo hi:Int} {j:Nat} (h0:0≤lo) (h1:lo≤hi) (h2:hi≤xs.length) (hj:lo+j<hi):GR ((xs.take hi.toNat).drop lo.toNat) j=GR xs (lo+j):=by
 unfold GR
 simp only [List.getD_eq_getElem?_getD,List.getElem?_drop,Int.toNat_natCast]
 rw [List.getElem?_take_of_lt (by omega)]
 congr 2; omega
theorem AaO {xs:List α} {lo hi:Int} (h0:0≤lo) (h1:lo≤hi) (h2:hi≤xs.length):((xs.take hi.toNat).drop lo.toNat).length=(hi - lo).toNat:=by
 simp only [List.length_drop,List.length_take]; omega
theorem AcP {xs:List Int} {cols:Int} {Q:Bool→Prop} (W:0≤cols) (hc1:cols≤4096) (hl:xs.length≤1000000000)
   (Y:(∀ j:Nat,j<xs.length→0≤GR xs j∧GR xs j<cols∧(0<j→GR xs ((j:Int) - 1)<GR xs j))→Q true) (V:(∃ j:Nat,j<xs.length∧¬(0≤GR xs j∧GR xs j<cols∧(0<j→GR xs ((j:Int) - 1)<GR xs j)))→Q false):eK xs cols Q:=by
 unfold eK
 rw [AH (by omega) (by omega)]
 refine DF xs.length (by omega) (fun i=>∀ j:Nat,j<i→j<xs.length→0≤GR xs j∧GR xs j<cols∧(0<j→GR xs ((j:Int) - 1)<GR xs j)) (by simp) (fun i next hi D Z=>?_) (fun next D=>?_)
 · refine A0 (fun _=>?_) (fun h=>by omega)
   refine DM (by omega) (by omega) (IM (BN (fun h=>V ⟨i,hi,fun U=>?_⟩) (fun h=>?_)))
   · simp at h; omega
   have h:0≤GR xs i∧GR xs i≤cols - 1:=by simpa using h
   have hstep (hx:0<i→GR xs ((i:Int) - 1)<GR xs i):next (A7 ((i:Int)+1)):=Z fun j G J=>by
     by_cases e:j=i
     · subst e; exact ⟨h.1,by omega,hx⟩
     · exact D j (by omega) J
   refine A0 (fun h0=>?_) (fun h0=>hstep fun h=>by omega)
   rw [AH (by omega) (by omega)]
   refine DM (by omega) (by omega) (A0 (fun O=>V ⟨i,hi,fun U=>?_⟩) (fun O=>hstep fun _=>by omega))
   have:=U.2.2 (by omega); omega
 · exact A0 (fun h=>by omega) (fun _=>Y fun j G=>D j G G)
theorem ZR {a:Rows} {Q:Bool→Prop} (hl:II a) (hQ:Q (decide (G4 a))):HC a Q:=by
 unfold HC
 have hno (h:¬G4 a):Q false:=by rwa [decide_eq_false h] at hQ
 have hyes (h:G4 a):Q true:=by rwa [decide_eq_true h] at hQ
 unfold II at hl
 refine IM (BN (fun h=>hno fun D=>?_) (fun h=>?_))
 · have:=D.r0; have:=D.r1; simp at h; omega
 have h1:0≤a.Rows∧a.Rows≤4096:=by simpa using h
 refine IM (BN (fun h=>hno fun D=>?_) (fun h=>?_))
 · have:=D.c0; have:=D.c1; simp at h; omega
 have h2:0≤a.Cols∧a.Cols≤4096:=by simpa using h
 rw [AH (by omega) (by omega)]
 refine CB (fun h=>hno fun D=>h D.sl) (fun h3=>?_)
 refine CB (fun h=>hno fun D=>h (by rw [D.vl])) (fun h4=>?_)
 refine A0 (fun h=>hno fun D=>by have:=D.cl; omega) (fun h5=>?_)
 refine DM (by omega) (by omega) (CB (fun h=>hno fun D=>h D.s0) (fun h6=>?_))
 refine DM (by omega) (by omega) (CB (fun h=>hno fun D=>h D.sn) (fun h7=>?_))
 obtain ⟨n,hn⟩:∃ n:Nat,a.Rows=n:=⟨a.Rows.toNat,by omega⟩
 have hsl:a.Start.length=n+1:=by omega
 refine oD (by omega) (fun hup=>AC rfl ?_) (fun hb=>AU rfl (hno fun D=>?_))
 rotate_left
 · obtain ⟨i,hi,O⟩:=hb
   exact O (D.up i (by omega))
 have G:∀ i:Nat,i<n→GR a.Start i≤GR a.Start ((i:Int)+1):=fun i hi=>hup i (by omega)
 rw [hn] at h7 ⊢
 refine DF n (by omega) (fun i=>∀ j:Nat,j<i→AcO a j) (by simp) (fun i next hi hR Z=>?_) (fun next hR=>?_)
 · refine A0 (fun _=>?_) (fun h=>by omega)
   have e1:A7 ((i:Int)+1)=(i:Int)+1:=AH (by omega) (by omega)
   rw [e1] at Z ⊢
   have Y:0≤GR a.Start i:=by have:=tE G (i:=0) (j:=i) (by omega) (by omega); rw [show ((0:Nat):Int)=0 from rfl,h6] at this; exact this
   have W:GR a.Start ((i:Int)+1)≤a.Col.length:=by
     have:=tE G (i:=i+1) (j:=n) (by omega) (by omega)
     rw [h7,show ((i+1:Nat):Int)=(i:Int)+1 by omega] at this; exact this
   have hm:=G i hi
   refine DM (by omega) (by omega) (DM (by omega) (by omega) ⟨Y,hm,W,?_⟩)
   have J:=AaO Y hm W
   have V:∀ j:Nat,GR a.Start i+j<GR a.Start ((i:Int)+1)→GR ((a.Col.take (GR a.Start ((i:Int)+1)).toNat).drop (GR a.Start i).toNat) j=GR a.Col (GR a.Start i+j):=fun j hj=>AaN Y hm W hj
   refine AcP (by omega) (by omega) (by rw [J]; omega) (fun hall=>AC rfl (Z fun j hj=>?_)) (fun hb=>AU rfl (hno fun D=>?_))
   · by_cases e:j=i
     · subst e
       intro p hp1 hp2
       obtain ⟨q,hq⟩:∃ q:Nat,(p:Int)=GR a.Start j+q:=⟨(p - GR a.Start j).toNat,by omega⟩
       have U:=hall q (by rw [J]; omega)
       rw [V q (by omega),←hq] at U
       refine ⟨U.1,U.2.1,fun hlt=>?_⟩
       have:=U.2.2 (by omega)
       rw [show (q:Int) - 1=((q - 1:Nat):Int) by omega,V (q - 1) (by omega),show GR a.Start j+((q - 1:Nat):Int)=(p:Int) - 1 by omega] at this
       exact this
     · exact hR j (by omega)
   · obtain ⟨q,hq,O⟩:=hb
     rw [J] at hq
     apply O
     have U:=D.row i (by omega) (GR a.Start i+q).toNat (by omega) (by omega)
     have ep:(((GR a.Start i+q).toNat:Nat):Int)=GR a.Start i+q:=by omega
     rw [ep] at U
     rw [V q (by omega)]
     refine ⟨U.1,U.2.1,fun h0=>?_⟩
     have:=U.2.2 (by omega)
     rw [show (q:Int) - 1=((q - 1:Nat):Int) by omega,V (q - 1) (by omega),show GR a.Start i+((q - 1:Nat):Int)=GR a.Start i+q - 1 by omega]
     exact this
 · refine A0 (fun h=>by omega) (fun _=>hyes ⟨h1.1,h1.2,h2.1,h2.2,h3,by omega,by omega,h6,by rw [hn]; exact h7,fun i hi=>G i (by omega),fun i hi=>hR i (by omega)⟩)
theorem TX {a:Rows} {Q:Bool→Prop} (hl:II a) (hQ:Q (decide (G4 a))):FS a Q:=by
 unfold FS
 have hno (h:¬G4 a):Q false:=by rwa [decide_eq_false h] at hQ
 have hyes (h:G4 a):Q true:=by rwa [decide_eq_true h] at hQ
 unfold II at hl
 refine A0 (fun h=>hno fun D=>by have:=D.r0; omega) (fun h1=>?_)
 refine A0 (fun h=>hno fun D=>by have:=D.r1; omega) (fun h2=>?_)
 refine A0 (fun h=>hno fun D=>by have:=D.c0; omega) (fun h1'=>?_)
 refine A0 (fun h=>hno fun D=>by have:=D.c1; omega) (fun h2'=>?_)
 rw [AH (by omega) (by omega)]
 refine CB (fun h=>hno fun D=>h D.sl) (fun h3=>?_)
 refine CB (fun h=>hno fun D=>h (by rw [D.vl])) (fun h4=>?_)
 refine A0 (fun h=>hno fun D=>by have:=D.cl; omega) (fun h5=>?_)
 refine DM (by omega) (by omega) (CB (fun h=>hno fun D=>h D.s0) (fun h6=>?_))
 refine DM (by omega) (by omega) (CB (fun h=>hno fun D=>h D.sn) (fun Z=>?_))
 obtain ⟨n,hn⟩:∃ n:Nat,a.Rows=n:=⟨a.Rows.toNat,by omega⟩
 have hsl:a.Start.length=n+1:=by omega
 rw [hn] at Z ⊢
 refine DF n (by omega) (fun i=>(∀ j:Nat,j<i→GR a.Start j≤GR a.Start ((j:Int)+1))∧∀ j:Nat,j<i→AcO a j) ⟨by simp,by simp⟩ (fun i next hi G J=>?_) (fun next G=>?_)
 · refine A0 (fun _=>?_) (fun h=>by omega)
   have e1:A7 ((i:Int)+1)=(i:Int)+1:=AH (by omega) (by omega)
   rw [e1] at J ⊢
   refine DM (by omega) (by omega) (DM (by omega) (by omega) (A0 (fun h=>hno fun D=>by have:=D.up i (by omega); omega) (fun hm=>?_)))
   have hlo:0≤GR a.Start i:=by have:=tE G.1 (i:=0) (j:=i) (by omega) (by omega); rw [show ((0:Nat):Int)=0 from rfl,h6] at this; exact this
   refine DM (by omega) (by omega) (A0 (fun h=>by omega) (fun _=>DM (by omega) (by omega) (A0 (fun h=>hno fun D=>?_) (fun hhi=>?_))))
   · have:=tE (n:=n) (fun j hj=>D.up j (by omega)) (i:=i+1) (j:=n) (by omega) (by omega)
     rw [Z,show ((i+1:Nat):Int)=(i:Int)+1 by omega] at this; omega
   refine DM (by omega) (by omega) ?_
   obtain ⟨lo,U⟩:∃ lo:Nat,GR a.Start i=lo:=⟨(GR a.Start i).toNat,by omega⟩
   obtain ⟨V,ehi⟩:∃ hi:Nat,GR a.Start ((i:Int)+1)=hi:=⟨(GR a.Start ((i:Int)+1)).toNat,by omega⟩
   rw [U]
   refine B3 (σ:=Unit) (fun _ j=>j) lo V (by omega) (fun j _=>∀ p:Nat,lo≤p→p<j→0≤GR a.Col p∧GR a.Col p<a.Cols∧(lo<p→GR a.Col ((p:Int) - 1)<GR a.Col p)) (by omega) (s0:=()) (fun p h1 h2=>by omega) (fun j _ nx hj1 hj2 W Y=>?_) (fun _ nx W=>?_)
   · refine DM (by omega) (by omega) (A0 (fun _=>?_) (fun h=>by omega))
     have hbad (h:¬(0≤GR a.Col j∧GR a.Col j<a.Cols∧(lo<j→GR a.Col ((j:Int) - 1)<GR a.Col j))):Q false:=hno fun D=>h (by
       have:=D.row i (by omega) j (by omega) (by omega)
       rw [U] at this
       exact ⟨this.1,this.2.1,fun h=>this.2.2 (by omega)⟩)
     refine DM (by omega) (by omega) (A0 (fun h=>hbad fun D=>by omega) (fun g1=>?_))
     refine DM (by omega) (by omega) (A0 (fun h=>hbad fun D=>by omega) (fun g2=>?_))
     have hstep (hx:lo<j→GR a.Col ((j:Int) - 1)<GR a.Col j):nx (A7 ((j:Int)+1)):=Y () fun p O hp2=>by
       by_cases e:p=j
       · subst e; exact ⟨by omega,by omega,hx⟩
       · exact W p O (by omega)
     refine DM (by omega) (by omega) (A0 (fun h=>?_) (fun h=>hstep fun h'=>by omega))
     rw [AH (by omega) (by omega)]
     refine DM (by omega) (by omega) (DM (by omega) (by omega) (A0 (fun h=>hbad fun D=>by have:=D.2.2 (by omega); omega) (fun g3=>hstep fun _=>by omega)))
   · refine DM (by omega) (by omega) (A0 (fun h=>by omega) (fun _=>?_))
     refine J ⟨fun j hj=>?_,fun j hj=>?_⟩
     · by_cases e:j=i
       · subst e; omega
       · exact G.1 j (by omega)
     · by_cases e:j=i
       · subst e
         intro p O hp2
         have:=W p (by omega) (by omega)
         exact ⟨this.1,this.2.1,fun h=>this.2.2 (by omega)⟩
       · exact G.2 j (by omega)
 · refine A0 (fun h=>by omega) (fun _=>hyes ⟨by omega,by omega,by omega,by omega,h3,by omega,by omega,h6,by rw [hn]; exact Z,fun i hi=>G.1 i (by omega),fun i hi=>G.2 i (by omega)⟩)
def key (t:A1):HN:=(t.Row,t.Col)
def Srt (ts:List A1):Prop:=ts.Pairwise fun a b=>MA (key a) (key b)
structure Canon (rows cols:Int) (ts:List A1):Prop where
 r0:0≤rows
 r1:rows≤4096
 c0:0≤cols
 c1:cols≤4096
 len:ts.length≤65536
 srt:Srt ts
 inn:∀ t∈ts,RK rows cols t
theorem fI {q:α→Bool}:∀ {l:List α},l.Pairwise (fun a b=>q b=true→q a=true)→∀ (i:Nat) (h:i<l.length),(q l[i]=true↔i<l.countP q)
 | [],_,i,h=>by simp at h
 | a :: l,hp,i,h=>by
  rw [List.pairwise_cons] at hp
  rw [List.countP_cons]
  by_cases ha:q a=true
  · rw [if_pos ha]
    cases i with
    | zero=>simp [ha]
    | succ i=>
     have:=fI hp.2 i (by simpa using h)
     simp only [List.getElem_cons_succ]
     rw [this]; omega
  · rw [if_neg ha]
    have J:l.countP q=0:=List.countP_eq_zero.2 fun b G D=>ha (hp.1 b G D)
    rw [J]
    refine ⟨fun D=>absurd ?_ ha,fun h=>by omega⟩
    cases i with
    | zero=>exact D
    | succ i=>exact hp.1 _ (List.getElem_mem _) D
theorem Srt.row (h:Srt ts) (v:Nat) (p:Nat) (hp:p<ts.length):ts[p].Row<v↔(p:Int)<E5 ts v:=by
 have:=fI (q:=fun t:A1=>decide (t.Row<(v:Int))) (l:=ts) (List.Pairwise.imp (fun {a b} D=>by
  simp only [decide_eq_true_eq]
  unfold MA key at D
  simp only at D
  omega) h) p hp
 simp only [decide_eq_true_eq] at this
 rw [this]; unfold E5; omega
theorem AcQ {f:Nat→Int} {n:Nat} {i:Int} (h0:0≤i) (h:i<n):GR ((List.range n).map f) i=f i.toNat:=by
 unfold GR
 rw [List.getD_eq_getElem?_getD,NN (by omega)]; rfl
theorem tF {f:α→Int} {xs:List α} {i:Int} (h0:0≤i) (h:i<xs.length):GR (xs.map f) i=f (xs[i.toNat]'(by omega)):=by
 unfold GR
 simp [List.getD_eq_getElem?_getD,show i.toNat<xs.length by omega]
theorem VJ {rows cols:Int} {i:Int} (D:0≤i) (h:i≤rows):GR (B0 rows cols ts).Start i=E5 ts i.toNat:=AcQ D (by omega)
theorem WZ {rows cols:Int} (h:Canon rows cols ts):E5 ts rows.toNat=ts.length:=by
 have h0:=h.r0
 unfold E5
 rw [List.countP_eq_length.2]
 intro t D
 have:=h.inn t D
 unfold RK at this
 simp; omega
theorem TY (h:∀ t∈ts,0≤t.Row):E5 ts 0=0:=by
 unfold E5
 rw [List.countP_eq_zero.2]; · rfl
 intro t D
 have:=h t D
 simp; omega
theorem Srt.at (h:Srt ts) {i p:Nat} (hp:p<ts.length):ts[p].Row=i↔E5 ts i≤p∧(p:Int)<E5 ts (i+1):=by
 have h1:=h.row i p hp
 have h2:=h.row (i+1) p hp
 omega
theorem Canon.right {rows cols:Int} (h:Canon rows cols ts):G4 (B0 rows cols ts) where
 r0:=h.r0
 r1:=h.r1
 c0:=h.c0
 c1:=h.c1
 sl:=by have:=h.r0; simp [B0]; omega
 vl:=by simp [B0]
 cl:=by simpa [B0] using h.len
 s0:=by
  have:=h.r0
  rw [VJ (by omega) (by omega)]
  exact TY fun t ht=>(h.inn t ht).1
 sn:=by
  have:=h.r0
  show GR (B0 rows cols ts).Start rows=_
  rw [VJ (by omega) (by omega),WZ h]; simp [B0]
 up i hi:=by
  have hi:(i:Int)<rows:=hi
  rw [VJ (by omega) (by omega),VJ (by omega) (by omega)]
  have e1:((i:Int)).toNat=i:=by omega
  have e2:((i:Int)+1).toNat=i+1:=by omega
  rw [e1,e2,TW i ts fun t ht=>(h.inn t ht).1]
  have:=ZP ts (i+1)
  omega
 row i hi:=by
  have hi:(i:Int)<rows:=hi
  intro j hj1 hj2
  rw [VJ (by omega) (by omega)] at hj1 hj2 ⊢
  have e1:((i:Int)).toNat=i:=by omega
  have e2:((i:Int)+1).toNat=i+1:=by omega
  rw [e1] at hj1 ⊢
  rw [e2] at hj2
  have hb:=VH ts (i+1)
  have hjl:j<ts.length:=by omega
  have hc:GR (B0 rows cols ts).Col j=ts[j].Col:=by
   show GR (ts.map (·.Col)) j=_
   rw [tF (by omega) (by omega)]; rfl
  have hin:=h.inn _ (List.getElem_mem hjl)
  have hr:=(h.srt.at hjl (i:=i)).2 ⟨hj1,hj2⟩
  unfold RK at hin
  refine ⟨by rw [hc]; omega,by rw [hc]; exact hin.2.2.2,fun hlt=>?_⟩
  obtain ⟨q,rfl⟩:∃ q,j=q+1:=⟨j - 1,by have:=VH ts i; omega⟩
  have hc2:GR (B0 rows cols ts).Col (((q+1:Nat):Int) - 1)=ts[q].Col:=by
   show GR (ts.map (·.Col)) _=_
   rw [tF (by omega) (by omega)]
   simp
  have hr2:=(h.srt.at (show q<ts.length by omega) (i:=i)).2 ⟨by omega,by omega⟩
  have hs:=List.pairwise_iff_getElem.1 h.srt q (q+1) (by omega) hjl (by omega)
  unfold MA key at hs
  simp only at hs
  rw [hc,hc2]; omega
theorem oE:Canon 0 0 []:=⟨by omega,by omega,by omega,by omega,by simp,.nil,by simp⟩
noncomputable def S0 (a:Rows):Rows:=if G4 a then a else B0 0 0 []
theorem lE {a:Rows} {Q:Rows→Prop} (G:II a) (D:Q (S0 a)):SW a Q:=by
 unfold SW SV
 unfold S0 at D
 refine ZR G (A0 (fun h=>?_) (fun h=>?_))
 · rwa [if_pos h] at D
 · rw [if_neg h] at D
   exact ⟨by decide,by decide,D⟩
theorem M1 {a:Rows} {Q:Rows→Prop} (G:II a) (D:Q (S0 a)):I4 a Q:=by
 unfold I4 DB
 unfold S0 at D
 refine TX G (A0 (fun h=>?_) (fun h=>?_))
 · rwa [if_pos h] at D
 · rw [if_neg h] at D
   exact ⟨by decide,by decide,D⟩
end Go.Proofs.YtbohadngdkjljaaGreat
