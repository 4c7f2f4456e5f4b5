import Derived.Test.YtaefnmlbnkmahaaGreatCsrC
namespace Go.Proofs.YtaefnmlbnkmahaaGreat
open Go Go.Fw
set_option linter.unusedVariables false
set_option linter.unusedSimpArgs false
theorem rm_get {f:Nat→Int} {n j:Nat} (h:j<n):((List.range n).map f)[j]? = some (f j):=by simp [h]
theorem rm_set {f:Nat→Int} {n j:Nat} {v:Int}:((List.range n).map f).set j v=(List.range n).map (fun i=>if i=j then v else f i):=by
  apply List.ext_getElem?
  intro i
  rw [List.getElem?_set]
  simp only [List.length_map,List.length_range]
  by_cases e:j=i
  · subst e
    by_cases h:j<n
    · rw [if_pos rfl,if_pos h,rm_get h,if_pos rfl]
    · rw [if_pos rfl,if_neg h,List.getElem?_eq_none (by simp; omega)]
  · rw [if_neg e]
    by_cases h:i<n
    · rw [rm_get h,rm_get h,if_neg (fun h=>e h.symm)]
    · rw [List.getElem?_eq_none (by simp; omega),List.getElem?_eq_none (by simp; omega)]
theorem rm_congr {f g:Nat→Int} {n:Nat} (h:∀ j,j<n→f j=g j):(List.range n).map f=(List.range n).map g:=List.map_congr_left fun j hj=>h j (by simpa using hj)
def below (ts:List Triple) (j:Nat):Int:=((ts.countP (fun t:Triple=>decide (t.Row<(j:Int))):Nat):Int)
def atRow (ts:List Triple) (j:Nat):Int:=((ts.countP (fun t:Triple=>decide (t.Row+1=(j:Int))):Nat):Int)
theorem below_snoc (ts:List Triple) (t:Triple) (j:Nat):below (ts++[t]) j=below ts j+if t.Row<j then 1 else 0:=by
  unfold below; rw [List.countP_append,List.countP_singleton]; simp only [decide_eq_true_eq]; split <;> simp
theorem atRow_snoc (ts:List Triple) (t:Triple) (j:Nat):atRow (ts++[t]) j=atRow ts j+if t.Row+1=j then 1 else 0:=by
  unfold atRow; rw [List.countP_append,List.countP_singleton]; simp only [decide_eq_true_eq]; split <;> simp
theorem below_le (ts:List Triple) (j:Nat):0≤below ts j∧below ts j≤ts.length:=by
  unfold below; have:=List.countP_le_length (p:=fun t:Triple=>decide (t.Row<(j:Int))) (l:=ts); omega
theorem atRow_le (ts:List Triple) (j:Nat):0≤atRow ts j∧atRow ts j≤ts.length:=by
  unfold atRow; have:=List.countP_le_length (p:=fun t:Triple=>decide (t.Row+1=(j:Int))) (l:=ts); omega
theorem below_succ (j:Nat):∀ (ts:List Triple),(∀ t∈ts,0≤t.Row)→below ts (j+1)=below ts j+atRow ts (j+1)
  | [],_=>rfl
  | t :: ts,h=>by
    have:=below_succ j ts fun x hx=>h x (by simp [hx])
    unfold below atRow at *
    simp only [List.countP_cons]
    have h0:=h t (by simp)
    by_cases h1:t.Row<j
    · have h2:t.Row<(j+1:Nat):=by omega
      have h3:¬t.Row+1=((j+1:Nat):Int):=by omega
      simp only [h1,h2,h3,decide_true,decide_false,if_true,if_false]; simp only [Bool.false_eq_true,if_false]; omega
    · by_cases h4:t.Row+1=((j+1:Nat):Int)
      · have h2:t.Row<(j+1:Nat):=by omega
        simp only [h1,h2,h4,decide_true,decide_false,if_true,if_false]; simp only [Bool.false_eq_true,if_false]; omega
      · have h2:¬t.Row<(j+1:Nat):=by omega
        simp only [h1,h2,h4,decide_true,decide_false,if_true,if_false]; simp only [Bool.false_eq_true,if_false]; omega
def builtS (rows cols:Int) (ts:List Triple):Rows:=⟨rows,cols,(List.range (rows.toNat+1)).map (below ts),ts.map (·.Col),ts.map (·.Val)⟩
theorem rep_range (n:Nat):List.replicate n (0:Int)=(List.range n).map fun _=>0:=by
  apply List.ext_getElem?
  intro i
  by_cases h:i<n
  · rw [rm_get h]; simp [h]
  · rw [List.getElem?_eq_none (by simp; omega),List.getElem?_eq_none (by simp; omega)]
theorem built_ok {rows cols:Int} {ts:List Triple} {Q:Rows→Prop} (h0:0≤rows) (h1:rows≤1000000) (hl:ts.length≤1000000) (ht:∀ t∈ts,0≤t.Row∧t.Row<rows) (hQ:Q (builtS rows cols ts)):csr_built rows cols ts Q:=by
  unfold csr_built csr_empty
  obtain ⟨n,rfl⟩:∃ n:Nat,rows=n:=⟨rows.toNat,by omega⟩
  have e:w64 ((n:Int)+1)=(n+1:Nat):=by rw [w64_id (by omega) (by omega)]; omega
  rw [e]
  refine ⟨by omega,by omega,?_⟩
  simp only [Int.toNat_natCast]
  rw [rep_range]
  refine range_intro (fun (s:List Int×List Int×List Int) i=>(s.1,s.2.1,s.2.2,i)) 0 ts.length (s0:=((List.range (n+1)).map fun _=>0,[],[])) (by omega) (fun i s=>s=((List.range (n+1)).map (atRow (ts.take i)),(ts.take i).map (·.Col),(ts.take i).map (·.Val))) (by omega) (by simp [atRow]) (fun i s next _ hi hm hn=>?_) (fun s next hm=>?_)
  · subst hm
    dsimp only
    have hr:=ht _ (List.getElem_mem hi)
    refine ifP_dec (fun _=>?_) (fun h=>by omega)
    refine idxP_nat hi ?_
    obtain ⟨q,hq⟩:∃ q:Nat,ts[i].Row=q:=⟨ts[i].Row.toNat,by omega⟩
    have e2:w64 (ts[i].Row+1)=(q+1:Nat):=by rw [w64_id (by omega) (by omega)]; omega
    rw [e2]
    have hc:=atRow_le (ts.take i) (q+1)
    have htl:(ts.take i).length≤ts.length:=by simp; omega
    refine idxP_intro (by omega) (rm_get (by omega)) (idxP_intro (by omega) (rm_get (by omega)) (appP_intro (by simp; omega) (appP_intro (by simp; omega) (hn ((List.range (n+1)).map (atRow (ts.take (i+1))),(ts.take (i+1)).map (·.Col),(ts.take (i+1)).map (·.Val)) rfl |> cast ?_))))
    congr 1
    simp only [Int.toNat_natCast]
    rw [rm_set,take_map hi,take_map hi]
    refine Prod.ext (rm_congr fun j hj=>?_) rfl
    rw [List.take_succ_eq_append_getElem hi,atRow_snoc]
    by_cases ej:j=q+1
    · subst ej; rw [if_pos (by omega),if_pos rfl,w64_id (by omega) (by omega)]
    · rw [if_neg (by omega),if_neg ej]; omega
  · subst hm
    dsimp only
    refine ifP_dec (fun h=>by omega) (fun _=>?_)
    simp only [List.take_length]
    refine range_intro (fun (s:List Int) i=>(s,i)) 0 n (by omega) (fun i s=>s=(List.range (n+1)).map fun j=>if j≤i then below ts j else atRow ts j) (by omega) (rm_congr fun j hj=>?_) (fun i s next _ hi hm hn=>?_) (fun s next hm=>?_)
    · by_cases ej:j≤0
      · rw [if_pos ej,show j=0 by omega]
        have:∀ t∈ts,¬t.Row<((0:Nat):Int):=fun t h=>by have:=ht t h; omega
        have h2:∀ t∈ts,¬t.Row+1=((0:Nat):Int):=fun t h=>by have:=ht t h; omega
        unfold atRow below
        rw [List.countP_eq_zero.2 (by simpa using h2),List.countP_eq_zero.2 (by simpa using this)]
      · rw [if_neg ej]
    · subst hm
      refine ifP_dec (fun _=>?_) (fun h=>by omega)
      have e2:w64 ((i:Int)+1)=(i+1:Nat):=by rw [w64_id (by omega) (by omega)]; omega
      rw [e2] at hn ⊢
      refine idxP_intro (by omega) (rm_get (by omega)) (idxP_intro (by omega) (rm_get (by omega)) (idxP_intro (by omega) (rm_get (by omega)) (hn _ ?_)))
      simp only [Int.toNat_natCast]
      rw [rm_set]
      refine rm_congr fun j hj=>?_
      have hb1:=below_le ts i
      have hb2:=atRow_le ts (i+1)
      rw [if_neg (show ¬i+1≤i by omega),if_pos (Nat.le_refl i),w64_id (by omega) (by omega)]
      by_cases ej:j=i+1
      · subst ej; rw [if_pos rfl,if_pos (Nat.le_refl _),below_succ i ts fun t h=>(ht t h).1]; omega
      · rw [if_neg ej]
        by_cases h:j≤i
        · rw [if_pos h,if_pos (by omega)]
        · rw [if_neg h,if_neg (by omega)]
    · subst hm
      refine ifP_dec (fun h=>by omega) (fun _=>?_)
      rw [rm_congr (g:=below ts) fun j hj=>if_pos (by omega)]
      exact hQ
theorem ref_built_ok {rows cols:Int} {ts:List Triple} {Q:Rows→Prop} (h0:0≤rows) (h1:rows≤1000000) (hl:ts.length≤1000000) (ht:∀ t∈ts,0≤t.Row∧t.Row<rows) (hQ:Q (builtS rows cols ts)):ref07_built rows cols ts Q:=by
  unfold ref07_built ref07_Empty
  obtain ⟨n,rfl⟩:∃ n:Nat,rows=n:=⟨rows.toNat,by omega⟩
  have e:w64 ((n:Int)+1)=(n+1:Nat):=by rw [w64_id (by omega) (by omega)]; omega
  rw [e]
  refine ⟨by omega,by omega,?_⟩
  simp only [Int.toNat_natCast]
  rw [rep_range]
  refine range_intro (fun (s:List Int×List Int×List Int) i=>(s.1,s.2.1,s.2.2,i)) 0 ts.length (s0:=((List.range (n+1)).map fun _=>0,[],[])) (by omega) (fun i s=>s=((List.range (n+1)).map (below (ts.take i)),(ts.take i).map (·.Col),(ts.take i).map (·.Val))) (by omega) (by simp [below]) (fun i s next _ hi hm hn=>?_) (fun s next hm=>?_)
  · subst hm
    dsimp only
    have hr:=ht _ (List.getElem_mem hi)
    refine ifP_dec (fun _=>?_) (fun h=>by omega)
    refine idxP_nat hi (appP_intro (by simp; omega) (idxP_nat hi (appP_intro (by simp; omega) (idxP_nat hi ?_))))
    obtain ⟨q,hq⟩:∃ q:Nat,ts[i].Row=q:=⟨ts[i].Row.toNat,by omega⟩
    have e2:w64 (ts[i].Row+1)=(q+1:Nat):=by rw [w64_id (by omega) (by omega)]; omega
    rw [e2]
    have htl:(ts.take i).length≤ts.length:=by simp; omega
    refine range_intro (fun (s:List Int) j=>(s,j)) (q+1) (n+1) (by omega) (fun j s=>s=(List.range (n+1)).map fun p=>below (ts.take i) p+if q+1≤p∧p<j then 1 else 0) (by omega) (rm_congr fun j hj=>by rw [if_neg (by omega)]; omega) (fun j s next hj1 hj2 hm hnx=>?_) (fun s next hm=>?_)
    · subst hm
      refine ifP_dec (fun _=>?_) (fun h=>by omega)
      have hb:=below_le (ts.take i) j
      refine idxP_intro (by omega) (rm_get (by omega)) (idxP_intro (by omega) (rm_get (by omega)) (hnx _ ?_))
      simp only [Int.toNat_natCast]
      rw [rm_set]
      refine rm_congr fun p hp=>?_
      rw [if_neg (show ¬(q+1≤j∧j<j) by omega),w64_id (by omega) (by omega)]
      by_cases ep:p=j
      · subst ep; rw [if_pos rfl,if_pos (by omega)]; omega
      · rw [if_neg ep]
        by_cases h:q+1≤p∧p<j
        · rw [if_pos h,if_pos (by omega)]
        · rw [if_neg h,if_neg (by omega)]
    · subst hm
      refine ifP_dec (fun h=>by omega) (fun _=>?_)
      refine hn ((List.range (n+1)).map (below (ts.take (i+1))),(ts.take (i+1)).map (·.Col),(ts.take (i+1)).map (·.Val)) rfl |> cast ?_
      congr 1
      simp only
      rw [take_map hi,take_map hi]
      refine Prod.ext (rm_congr fun p hp=>?_) rfl
      rw [List.take_succ_eq_append_getElem hi,below_snoc]
      by_cases h:q+1≤p
      · rw [if_pos (by omega),if_pos (by omega)]
      · rw [if_neg (by omega),if_neg (by omega)]
  · subst hm
    dsimp only
    refine ifP_dec (fun h=>by omega) (fun _=>?_)
    simp only [List.take_length]
    exact hQ
def zR:Rows:=⟨0,0,[],[],[]⟩
def inT (rows cols:Int) (t:Triple):Prop:=0≤t.Row∧t.Row<rows∧0≤t.Col∧t.Col<cols
instance (rows cols:Int) (t:Triple):Decidable (inT rows cols t):=by unfold inT; infer_instance
theorem SC_keys {r:Int}:∀ {ts:List (Key×Int)} {p:Key×Wide},p∈SC r ts→∃ t∈ts,t.1=p.1:=by
  suffices ∀ (ts:List (Key×Int)) (l:List (Key×Wide)) p,p∈ts.foldl (fun l t=>ins r t.1 (ofI t.2) l) l→(∃ t∈ts,t.1=p.1)∨∃ q∈l,q.1=p.1 from fun {ts p} h=>by
    rcases this ts [] p h with h | ⟨q,hq,_⟩
    · exact h
    · simp at hq
  intro ts
  induction ts with
  | nil=>intro l p h; exact .inr ⟨p,h,rfl⟩
  | cons t ts ih=>
    intro l p h
    rcases ih _ _ h with ⟨x,hx,e⟩ | ⟨q,hq,e⟩
    · exact .inl ⟨x,by simp [hx],e⟩
    · rcases ins_keys hq with e2 | ⟨y,hy,e2⟩
      · exact .inl ⟨t,by simp,by rw [←e,e2]⟩
      · exact .inr ⟨y,hy,by rw [e2,e]⟩
theorem fin_len {α:Type} {mk:Key→Int→α} (l:List (Key×Wide)):(finS l mk).1.length≤l.length:=by
  unfold finS; split <;> simp
def e2t (e:Edge):Triple:=⟨e.From,e.To,e.W⟩
theorem finT (l:List (Key×Wide)):(finS l mkT).1=(finS l mkE).1.map e2t∧(finS l mkT).2=(finS l mkE).2:=by
  unfold finS
  split
  · exact ⟨by simp only [List.map_map]; rfl,rfl⟩
  · exact ⟨rfl,rfl⟩
theorem same_loop {α:Type} [BEq α] [LawfulBEq α] [DecidableEq α] {xs ys:List α} {Q:Bool→Prop} (hl:xs.length≤1000000000000) (hQ:Q (decide (xs=ys))) :
    ifP ((xs.length:Int) != (ys.length:Int)) (Q false) (loopP (fun (s:Int) (next:Int→Prop)=>ifP (decide (s<(xs.length:Int))) (idxP xs s fun x=>idxP ys s fun y=>ifP (x != y) (Q false) (next (w64 (s+1)))) (Q true)) 0):=by
  refine ifP_ne (fun h=>?_) (fun h=>?_)
  · rwa [decide_eq_false (fun e=>h (by rw [e]))] at hQ
  have h:xs.length=ys.length:=by omega
  refine scan_intro xs.length hl (fun i=>∀ (j:Nat) (h1:j<xs.length) (h2:j<ys.length),j<i→xs[j]=ys[j]) (by simp) (fun i next hi hR hn=>?_) (fun next hR=>?_)
  · refine ifP_dec (fun _=>?_) (fun h=>by omega)
    refine idxP_nat hi (idxP_nat (by omega) (ifP_ne (fun e=>?_) (fun e=>hn fun j h1 h2 hj=>?_)))
    · rwa [decide_eq_false (fun e'=>e (by subst e'; rfl))] at hQ
    · by_cases ej:j=i
      · subst ej; exact e
      · exact hR j h1 h2 (by omega)
  · refine ifP_dec (fun h=>by omega) (fun _=>?_)
    rwa [decide_eq_true (List.ext_getElem h fun j h1 h2=>hR j h1 h2 h1)] at hQ
theorem eqV_ok {xs ys:List Int} {Q:Bool→Prop} (hl:xs.length≤1000000000000) (hQ:Q (decide (xs=ys))):ref07_SameVals xs ys Q:=by unfold ref07_SameVals; exact same_loop hl hQ
def RowP (a:Rows) (i:Nat):Prop:=∀ j:Nat,at0 a.Start i≤j→(j:Int)<at0 a.Start ((i:Int)+1)→0≤at0 a.Col j∧at0 a.Col j<a.Cols∧(at0 a.Start i<j→at0 a.Col ((j:Int) - 1)<at0 a.Col j)
structure RightP (a:Rows):Prop where
  r0:0≤a.Rows
  r1:a.Rows≤4096
  c0:0≤a.Cols
  c1:a.Cols≤4096
  sl:(a.Start.length:Int)=a.Rows+1
  vl:a.Val.length=a.Col.length
  cl:a.Col.length≤65536
  s0:at0 a.Start 0=0
  sn:at0 a.Start a.Rows=a.Col.length
  up:∀ i:Nat,(i:Int)<a.Rows→at0 a.Start i≤at0 a.Start ((i:Int)+1)
  row:∀ i:Nat,(i:Int)<a.Rows→RowP a i
noncomputable instance (a:Rows):Decidable (RightP a):=Classical.propDecidable _
def key (t:Triple):Key:=(t.Row,t.Col)
def Srt (ts:List Triple):Prop:=ts.Pairwise fun a b=>ltK (key a) (key b)
structure Canon (rows cols:Int) (ts:List Triple):Prop where
  r0:0≤rows
  r1:rows≤4096
  c0:0≤cols
  c1:cols≤4096
  len:ts.length≤65536
  srt:Srt ts
  inn:∀ t∈ts,inT rows cols t
def segS (ts:List Triple) (i:Nat):List Triple:=ts.filter fun t=>decide (t.Row=i)
def itS (t:Triple):Item:=⟨t.Col,t.Val⟩
theorem fin_canon {r rows cols:Int} {kvs:List (Key×Int)} (h:0≤rows∧rows≤4096∧0≤cols∧cols≤4096) (hl:kvs.length≤65536) (hk:∀ t∈kvs,inT rows cols (mkT t.1 0)) (hv:∀ t∈kvs,inI t.2):Canon rows cols (finS (SC r kvs) mkT).1:=by
  refine ⟨h.1,h.2.1,h.2.2.1,h.2.2.2,?_,?_,?_⟩
  · exact Nat.le_trans (fin_len _) (by have:=(SC_prop r kvs hv).1; omega)
  · unfold finS
    split
    · unfold Srt
      rw [List.pairwise_map]
      exact SC_srt r kvs
    · exact .nil
  · intro t ht
    unfold finS at ht
    split at ht
    · obtain ⟨p,hp,rfl⟩:=List.mem_map.1 ht
      obtain ⟨x,hx,e⟩:=SC_keys hp
      have:=hk x hx
      unfold inT mkT at *
      rw [←e]
      exact this
    · simp at ht
def inE (n:Int) (e:Edge):Prop:=(0≤e.From∧e.From<n)∧(0≤e.To∧e.To<n)
instance (n:Int) (e:Edge):Decidable (inE n e):=by unfold inE; infer_instance
def wOk (e:Edge):Prop:=0≤e.W∧e.W≤2147483647
instance (e:Edge):Decidable (wOk e):=by unfold wOk; infer_instance
def rightG (g:Graph):Int:=
  if g.N<0 then 3 else if 4096<g.N∨65536<g.Edges.length then 5 else if ¬ ∀ e∈g.Edges,inE g.N e then 3 else if ¬ ∀ e∈g.Edges,wOk e then 7 else 0
theorem rightG_zero {g:Graph} (h:rightG g=0):0≤g.N∧g.N≤4096∧g.Edges.length≤65536∧(∀ e∈g.Edges,inE g.N e)∧∀ e∈g.Edges,wOk e:=by
  unfold rightG at h
  split at h
  · omega
  · split at h
    · omega
    · split at h
      · omega
      · split at h
        · omega
        · rename_i h1 h2 h3 h4
          exact ⟨by omega,by omega,by omega,Decidable.of_not_not h3,Decidable.of_not_not h4⟩
theorem graph_right_ok {g:Graph} {Q:Int→Prop} (hQ:Q (rightG g)):edges_Right g Q:=by
  unfold edges_Right
  unfold rightG at hQ
  refine ifP_dec (fun h=>?_) (fun h=>?_)
  · rwa [if_pos h] at hQ
  rw [if_neg h] at hQ
  refine join_intro (fun b=>b=decide (4096<g.N∨65536<g.Edges.length)) ?_ fun k hk=>?_
  · rintro _ rfl
    refine ifP_dec (fun h5=>?_) (fun h5=>?_)
    · rwa [if_pos h5] at hQ
    rw [if_neg h5] at hQ
    unfold slices_ContainsFunc_api_Edge_api_Edge_87a slices_IndexFunc_api_Edge_api_Edge_a86 edges_Right_2_f7d edges_Right_1_b08
    refine scan_intro g.Edges.length (by omega) (fun i=>∀ (j:Nat) (hj:j<g.Edges.length),j<i→inE g.N g.Edges[j]) (by simp) (fun i next hi hR hn=>?_) (fun next hR=>?_)
    · refine ifP_dec (fun _=>?_) (fun h=>by omega)
      have hbad (hb:¬inE g.N g.Edges[i]):ifP (decide (0≤(i:Int))) (Q 3) (slices_ContainsFunc_api_Edge_api_Edge_126 g.Edges fun r45=>ifP r45 (Q 7) (Q 0)):=by
        refine ifP_dec (fun _=>?_) (fun h=>by omega)
        rwa [if_pos (fun h'=>hb (h' _ (List.getElem_mem hi)))] at hQ
      refine idxP_nat hi ?_
      refine ifP_dec (fun h1=>ifP_pos rfl (ifP_pos rfl (hbad fun hh=>by unfold inE at hh; omega))) (fun h1=>?_)
      refine ifP_dec (fun h2=>ifP_pos rfl (hbad fun hh=>by unfold inE at hh; omega)) (fun h2=>?_)
      refine ifP_dec (fun h3=>ifP_pos rfl (hbad fun hh=>by unfold inE at hh; omega)) (fun h3=>?_)
      refine ifP_dec (fun h4=>hbad fun hh=>by unfold inE at hh; omega) (fun h4=>hn fun j hj hji=>?_)
      by_cases e:j=i
      · subst e; unfold inE; omega
      · exact hR j hj (by omega)
    · refine ifP_dec (fun h=>by omega) (fun _=>ifP_neg (by decide) ?_)
      have hall:∀ e∈g.Edges,inE g.N e:=fun e he=>by
        obtain ⟨j,hj,rfl⟩:=List.getElem_of_mem he
        exact hR j hj hj
      rw [if_neg (fun h=>h hall)] at hQ
      unfold slices_ContainsFunc_api_Edge_api_Edge_126 slices_IndexFunc_api_Edge_api_Edge_122 edges_Right_3_b50
      refine scan_intro g.Edges.length (by omega) (fun i=>∀ (j:Nat) (hj:j<g.Edges.length),j<i→wOk g.Edges[j]) (by simp) (fun i next hi hR hn=>?_) (fun next hR=>?_)
      · refine ifP_dec (fun _=>?_) (fun h=>by omega)
        have hbad (hb:¬wOk g.Edges[i]):ifP (decide (0≤(i:Int))) (Q 7) (Q 0):=by
          refine ifP_dec (fun _=>?_) (fun h=>by omega)
          rwa [if_pos (fun h'=>hb (h' _ (List.getElem_mem hi)))] at hQ
        refine idxP_nat hi (ifP_dec (fun h1=>ifP_pos rfl (hbad fun hh=>by unfold wOk at hh; omega)) (fun h1=>ifP_dec (fun h2=>hbad fun hh=>by unfold wOk at hh; omega) (fun h2=>hn fun j hj hji=>?_)))
        by_cases e:j=i
        · subst e; unfold wOk; omega
        · exact hR j hj (by omega)
      · refine ifP_dec (fun h=>by omega) (fun _=>ifP_neg (by decide) ?_)
        rwa [if_neg (fun h=>h fun e he=>by
          obtain ⟨j,hj,rfl⟩:=List.getElem_of_mem he
          exact hR j hj hj)] at hQ
  · refine ifP_dec (fun h1=>hk _ ?_) (fun h1=>hk _ ?_)
    · rw [decide_eq_true h1,decide_eq_true (.inl h1)]
    · apply decide_eq_decide.2; omega
theorem ref_graph_right_ok {g:Graph} {Q:Int→Prop} (hQ:Q (rightG g)):ref05_Right g Q:=by
  unfold ref05_Right
  unfold rightG at hQ
  refine ifP_dec (fun h=>?_) (fun h=>?_)
  · rwa [if_pos h] at hQ
  rw [if_neg h] at hQ
  have h5 (h:4096<g.N∨65536<g.Edges.length):Q 5:=by rwa [if_pos h] at hQ
  refine ifP_dec (fun h=>h5 (.inl h)) (fun h1=>ifP_dec (fun h=>h5 (.inr (by omega))) (fun h2=>?_))
  rw [if_neg (by omega)] at hQ
  refine scan_intro g.Edges.length (by omega) (fun i=>∀ (j:Nat) (hj:j<g.Edges.length),j<i→inE g.N g.Edges[j]) (by simp) (fun i next hi hR hn=>?_) (fun next hR=>?_)
  · refine ifP_dec (fun _=>?_) (fun h=>by omega)
    have hbad (hb:¬inE g.N g.Edges[i]):Q 3:=by rwa [if_pos (fun h'=>hb (h' _ (List.getElem_mem hi)))] at hQ
    refine idxP_nat hi ?_
    refine ifP_dec (fun h1=>hbad fun hh=>by unfold inE at hh; omega) (fun h1=>?_)
    refine ifP_dec (fun h2=>hbad fun hh=>by unfold inE at hh; omega) (fun h2=>?_)
    refine ifP_dec (fun h3=>hbad fun hh=>by unfold inE at hh; omega) (fun h3=>?_)
    refine ifP_dec (fun h4=>hbad fun hh=>by unfold inE at hh; omega) (fun h4=>hn fun j hj hji=>?_)
    by_cases e:j=i
    · subst e; unfold inE; omega
    · exact hR j hj (by omega)
  · refine ifP_dec (fun h=>by omega) (fun _=>?_)
    have hall:∀ e∈g.Edges,inE g.N e:=fun e he=>by
      obtain ⟨j,hj,rfl⟩:=List.getElem_of_mem he
      exact hR j hj hj
    rw [if_neg (fun h=>h hall)] at hQ
    refine scan_intro g.Edges.length (by omega) (fun i=>∀ (j:Nat) (hj:j<g.Edges.length),j<i→wOk g.Edges[j]) (by simp) (fun i next hi hR hn=>?_) (fun next hR=>?_)
    · refine ifP_dec (fun _=>?_) (fun h=>by omega)
      have hbad (hb:¬wOk g.Edges[i]):Q 7:=by rwa [if_pos (fun h'=>hb (h' _ (List.getElem_mem hi)))] at hQ
      refine idxP_nat hi (ifP_dec (fun h1=>hbad fun hh=>by unfold wOk at hh; omega) (fun h1=>idxP_nat hi (ifP_dec (fun h2=>hbad fun hh=>by unfold wOk at hh; omega) (fun h2=>hn fun j hj hji=>?_))))
      by_cases e:j=i
      · subst e; unfold wOk; omega
      · exact hR j hj (by omega)
    · refine ifP_dec (fun h=>by omega) (fun _=>?_)
      rwa [if_neg (fun h=>h fun e he=>by
        obtain ⟨j,hj,rfl⟩:=List.getElem_of_mem he
        exact hR j hj hj)] at hQ
def kvF (e:Edge):Key×Int:=((e.To,e.From),e.W)
def flipE (e:Edge):Edge:=⟨e.To,e.From,e.W⟩
def graphT (g:Graph):List Triple:=(finS (SC 1 (g.Edges.map kvF)) mkT).1
theorem graph_canon {g:Graph} (h:rightG g=0):Canon g.N g.N (graphT g):=by
  obtain ⟨h1,h2,h3,h4,h5⟩:=rightG_zero h
  refine fin_canon ⟨h1,h2,h1,h2⟩ (by simpa using h3) (fun t ht=>?_) (fun t ht=>?_)
  · obtain ⟨e,he,rfl⟩:=List.mem_map.1 ht
    have:=h4 e he
    unfold inE at this
    unfold inT mkT kvF
    simp only
    omega
  · obtain ⟨e,he,rfl⟩:=List.mem_map.1 ht
    have:=h5 e he
    unfold wOk at this
    unfold inI kvF
    simp only
    omega
def graphS (g:Graph):Rows×Int:=if rightG g=0 then (builtS g.N g.N (graphT g),0) else (zR,rightG g)
theorem graph_ok {g:Graph} {Q:Rows×Int→Prop} (hQ:Q (graphS g)):csr_Graph g Q:=by
  unfold csr_Graph
  unfold graphS at hQ
  refine graph_right_ok (ifP_ne (fun h=>?_) (fun h=>?_))
  · rwa [if_neg h] at hQ
  rw [if_pos h] at hQ
  have hcan:=graph_canon h
  obtain ⟨h1,h2,h3,h4,h5⟩:=rightG_zero h
  have hv:∀ t∈g.Edges.map flipE,inI t.W:=fun t ht=>by
    obtain ⟨e,he,rfl⟩:=List.mem_map.1 ht
    have:=h5 e he
    unfold wOk at this
    unfold inI flipE
    simp only
    omega
  unfold edges_Turn edges_made_7c5 edges_turned_87e
  refine range_intro (fun (s:List Edge) i=>(s,i)) 0 g.Edges.length (by omega) (fun i s=>s=(g.Edges.take i).map flipE) (by omega) rfl (fun i s next _ hi hm hn=>?_) (fun s next hm=>?_)
  · subst hm
    dsimp only
    refine ifP_dec (fun _=>?_) (fun h=>by omega)
    refine idxP_nat hi (ifP_pos rfl (appP_intro ?_ (hn _ ?_)))
    · simp; omega
    · rw [take_map hi]; rfl
  · subst hm
    dsimp only
    refine ifP_dec (fun h=>by omega) (fun _=>?_)
    rw [List.take_length]
    unfold edges_Canon
    refine combine_ok (by omega) (by simp; omega) hv ?_
    dsimp only
    have hkv:(g.Edges.map flipE).map kvE=g.Edges.map kvF:=by rw [List.map_map]; rfl
    rw [hkv]
    have hf1:=(finT (SC 1 (g.Edges.map kvF))).1
    have hgl:=hcan.len
    have hgi:=hcan.inn
    unfold graphT at hQ hgl hgi
    rw [hf1] at hQ hgl hgi
    generalize (finS (SC 1 (g.Edges.map kvF)) mkE).1=es at hQ hgl hgi
    have hel:es.length≤65536:=by simpa using hgl
    refine range_intro (fun (s:List Triple) i=>(s,i)) 0 es.length (by omega) (fun i s=>s=(es.take i).map e2t) (by omega) rfl (fun i s next _ hi hm hn=>?_) (fun s next hm=>?_)
    · subst hm
      dsimp only
      refine ifP_dec (fun _=>?_) (fun h=>by omega)
      refine idxP_nat hi (appP_intro ?_ (hn _ ?_))
      · simp; omega
      · rw [take_map hi]; rfl
    · subst hm
      dsimp only
      refine ifP_dec (fun h=>by omega) (fun _=>?_)
      rw [List.take_length]
      refine built_ok h1 (by omega) (by simp; omega) (fun t ht=>?_) hQ
      have:=hgi t ht
      unfold inT at this
      exact ⟨this.1,this.2.1⟩
def endK (r:Int) (k:Key) (ts:List (Key×Int)):Option Wide:=ts.foldl (fun o t=>if k=t.1 then some (match o with | some w=>addW r w (ofI t.2) | none=>ofI t.2) else o) none
theorem SC_get (r:Int) (k:Key) (ts:List (Key×Int)):mget k (SC r ts)=endK r k ts:=by
  suffices ∀ (ts:List (Key×Int)) (l:List (Key×Wide)),srt l→mget k (ts.foldl (fun l t=>ins r t.1 (ofI t.2) l) l)=ts.foldl (fun o t=>if k=t.1 then some (match o with | some w=>addW r w (ofI t.2) | none=>ofI t.2) else o) (mget k l) from this ts [] .nil
  intro ts
  induction ts with
  | nil=>intro l _; rfl
  | cons t ts ih=>
    intro l h
    simp only [List.foldl_cons]
    rw [ih _ (ins_srt h),ins_get k h]
    congr 1
    by_cases e:k=t.1
    · subst e; rfl
    · rw [if_neg e,if_neg e]
def sw (p:Key×Wide):Key×Wide:=((p.1.2,p.1.1),p.2)
theorem sw_get (k:Key):∀ l:List (Key×Wide),mget k (l.map sw)=mget (k.2,k.1) l
  | []=>rfl
  | p :: l=>by
    obtain ⟨⟨a,b⟩,w⟩:=p
    obtain ⟨c,d⟩:=k
    simp only [List.map_cons,mget,sw,sw_get (c,d) l,Prod.mk.injEq]
    by_cases e:c=b∧d=a
    · rw [if_pos e,if_pos ⟨e.2,e.1⟩]
    · rw [if_neg e,if_neg fun h=>e ⟨h.2,h.1⟩]
theorem sw_keys {l:List (Key×Wide)} (h:keysOk l):keysOk (l.map sw):=by
  unfold keysOk at *
  rw [List.nodup_iff_pairwise_ne,List.pairwise_map] at h
  rw [List.nodup_iff_pairwise_ne,List.pairwise_map,List.pairwise_map]
  refine List.Pairwise.imp (fun {a b} hab e=>hab ?_) h
  obtain ⟨⟨a1,a2⟩,w⟩:=a
  obtain ⟨⟨b1,b2⟩,v⟩:=b
  simp only [sw,Prod.mk.injEq] at *
  exact ⟨e.2,e.1⟩
theorem sw_perm (es:List Edge):((SC 1 (es.map kvE)).map sw).Perm (SC 1 (es.map kvF)):=by
  refine maps_perm (sw_keys (srt_keys (SC_srt _ _))) (srt_keys (SC_srt _ _)) fun k=>?_
  rw [sw_get,SC_get,SC_get]
  unfold endK
  rw [List.foldl_map,List.foldl_map]
  congr 1
  funext o e
  obtain ⟨c,d⟩:=k
  simp only [kvE,kvF,Prod.mk.injEq]
  by_cases h:d=e.From∧c=e.To
  · rw [if_pos h,if_pos ⟨h.2,h.1⟩]
  · rw [if_neg h,if_neg fun h'=>h ⟨h'.2,h'.1⟩]
theorem nar_ofI {v:Int} (h:inI v):narS (ofI v)=(v,true):=by
  unfold narS ofI
  unfold inI at h
  simp only
  rw [if_pos]
  · rw [w64_eq]; congr 1; omega
  · split <;> omega
theorem SC_one (ts:List (Key×Int)) (hv:∀ t∈ts,inI t.2):∀ p∈SC 1 ts,∃ v,inI v∧p.2=ofI v:=by
  suffices ∀ (ts:List (Key×Int)) (l:List (Key×Wide)),(∀ t∈ts,inI t.2)→(∀ p∈l,∃ v,inI v∧p.2=ofI v)→∀ p∈ts.foldl (fun l t=>ins 1 t.1 (ofI t.2) l) l,∃ v,inI v∧p.2=ofI v from this ts [] hv (by simp)
  have hins:∀ (k:Key) (v:Int),inI v→∀ l:List (Key×Wide),(∀ p∈l,∃ v,inI v∧p.2=ofI v)→∀ p∈ins 1 k (ofI v) l,∃ v,inI v∧p.2=ofI v:=by
    intro k v hv l
    induction l with
    | nil=>intro _ p hp; simp [ins] at hp; exact ⟨v,hv,by rw [hp]⟩
    | cons q l ih=>
      intro h p hp
      unfold ins at hp
      split at hp
      · rcases List.mem_cons.1 hp with rfl | hp
        · exact h _ (by simp)
        · exact ih (fun x hx=>h x (by simp [hx])) p hp
      · split at hp
        · rcases List.mem_cons.1 hp with rfl | hp
          · obtain ⟨u,hu,e⟩:=h q (by simp)
            unfold addW
            simp only [true_or,if_true]
            split
            · exact ⟨u,hu,e⟩
            · exact ⟨v,hv,rfl⟩
          · exact h p (by simp [hp])
        · rcases List.mem_cons.1 hp with rfl | hp
          · exact ⟨v,hv,rfl⟩
          · exact h p hp
  intro ts
  induction ts with
  | nil=>intro l _ h; exact h
  | cons t ts ih=>intro l ht h; exact ih _ (fun x hx=>ht x (by simp [hx])) (hins _ _ (ht t (by simp)) l h)
theorem fin_one {α:Type} {mk:Key→Int→α} {ts:List (Key×Int)} (hv:∀ t∈ts,inI t.2):finS (SC 1 ts) mk=((SC 1 ts).map (fun p=>mk p.1 (narS p.2).1),0):=by
  refine fin_perm (m:=[]) (.refl _) fun p hp=>?_
  obtain ⟨v,h1,h2⟩:=SC_one ts hv p hp
  rw [h2,nar_ofI h1]
theorem nar_inI (a:Wide):inI (narS a).1:=by
  unfold narS inI
  split
  · simp only [w64_eq]; omega
  · simp
theorem ins_last {r:Int} {k:Key} {v:Wide} {l:List (Key×Wide)} (h:∀ p∈l,ltK p.1 k):ins r k v l=l++[(k,v)]:=by
  induction l with
  | nil=>rfl
  | cons p l ih=>unfold ins; rw [if_pos (h p (by simp)),ih fun q hq=>h q (by simp [hq])]; rfl
theorem SC_self {r:Int} {T:List Triple} (h:Srt T):SC r (T.map kvT)=T.map fun t=>(key t,ofI t.Val):=by
  suffices ∀ i,i≤T.length→SC r ((T.take i).map kvT)=(T.take i).map fun t=>(key t,ofI t.Val) by
    have:=this T.length (Nat.le_refl _)
    rwa [List.take_length] at this
  intro i
  induction i with
  | zero=>intro _; rfl
  | succ i ih=>
    intro hi
    rw [take_map (show i<T.length by omega),take_map (show i<T.length by omega),SC_snoc,ih (by omega),ins_last]
    · rfl
    · intro p hp
      obtain ⟨t,ht,rfl⟩:=List.mem_map.1 hp
      obtain ⟨j,hj,rfl⟩:=List.getElem_of_mem ht
      simp only [List.length_take] at hj
      rw [List.getElem_take]
      exact List.pairwise_iff_getElem.1 h j i (by omega) (by omega) (by omega)
def kvM (s:Sum):Int×Wide:=(s.At,s.Val)
def lk (l:List Sum) (i:Int):Option Wide:=mget i (l.map kvM)
def Rise (l:List Sum):Prop:=l.Pairwise fun a b=>a.At<b.At
instance (l:List Sum):Decidable (Rise l):=by unfold Rise; infer_instance
def okS (l:List Sum):Prop:=∀ s∈l,okW s.Val
theorem lk_nil (i:Int):lk [] i=none:=rfl
theorem lk_cons (s:Sum) (l:List Sum) (i:Int):lk (s :: l) i=if i=s.At then some s.Val else lk l i:=rfl
theorem lk_none:∀ {l:List Sum} {i:Int},(∀ s∈l,s.At≠i)→lk l i=none
  | [],_,_=>rfl
  | s :: l,i,h=>by rw [lk_cons,if_neg (fun e=>h s (by simp) e.symm)]; exact lk_none fun x hx=>h x (by simp [hx])
theorem lk_mem:∀ {l:List Sum} {i:Int} {v:Wide},lk l i=some v→⟨i,v⟩∈l
  | s :: l,i,v,h=>by
    rw [lk_cons] at h
    split at h
    · rename_i e; cases h; subst e; simp
    · exact List.mem_cons_of_mem _ (lk_mem h)
theorem mem_lk:∀ {l:List Sum} (h:Rise l) {s:Sum},s∈l→lk l s.At=some s.Val
  | x :: l,h,s,hs=>by
    unfold Rise at h
    rw [List.pairwise_cons] at h
    rw [lk_cons]
    rcases List.mem_cons.1 hs with e | hs
    · subst e; rw [if_pos rfl]
    · have:=h.1 s hs
      rw [if_neg (by omega)]; exact mem_lk h.2 hs
theorem lk_append:∀ (l:List Sum) (m:List Sum) (i:Int),lk (l++m) i=match lk l i with | some v=>some v | none=>lk m i
  | [],m,i=>rfl
  | s :: l,m,i=>by
    rw [List.cons_append,lk_cons,lk_cons]
    split
    · rfl
    · exact lk_append l m i
def cmb (r:Int):Option Wide→Option Wide→Option Wide
  | none,y=>y
  | some a,none=>some a
  | some a,some b=>some (addW r a b)
end Go.Proofs.YtaefnmlbnkmahaaGreat
