import Derived.Test.YtaefnmlbnkmahaaGreatOK
import Derived.Test.YtaefnmlbnkmahaaGreatCsrC
namespace Go.Proofs.YtaefnmlbnkmahaaGreat
open Go Go.Fw
set_option linter.unusedVariables false
set_option linter.unusedSimpArgs false
theorem rm_get {f:Nat→Int} {n j:Nat} (h:j<n):((List.range n).map f)[j]? = some (f j):=by simp [h]
theorem rm_set {f:Nat→Int} {n j:Nat} {v:Int}:((List.range n).map f).set j v=(List.range n).map (fun i=>if i=j then v else f i):=by
  apply List.ext_getElem?
  intro i
  rw [List.getElem?_set]
  simp only [List.length_map,List.length_range]
  by_cases e:j=i
  · subst e
    by_cases h:j<n
    · rw [if_pos rfl,if_pos h,rm_get h,if_pos rfl]
    · rw [if_pos rfl,if_neg h,List.getElem?_eq_none (by simp; omega)]
  · rw [if_neg e]
    by_cases h:i<n
    · rw [rm_get h,rm_get h,if_neg (fun h=>e h.symm)]
    · rw [List.getElem?_eq_none (by simp; omega),List.getElem?_eq_none (by simp; omega)]
theorem rm_congr {f g:Nat→Int} {n:Nat} (h:∀ j,j<n→f j=g j):(List.range n).map f=(List.range n).map g:=List.map_congr_left fun j hj=>h j (by simpa using hj)
def below (ts:List Triple) (j:Nat):Int:=((ts.countP (fun t:Triple=>decide (t.Row<(j:Int))):Nat):Int)
def atRow (ts:List Triple) (j:Nat):Int:=((ts.countP (fun t:Triple=>decide (t.Row+1=(j:Int))):Nat):Int)
theorem below_snoc (ts:List Triple) (t:Triple) (j:Nat):below (ts++[t]) j=below ts j+if t.Row<j then 1 else 0:=by
  unfold below; rw [List.countP_append,List.countP_singleton]; simp only [decide_eq_true_eq]; split <;> simp
theorem atRow_snoc (ts:List Triple) (t:Triple) (j:Nat):atRow (ts++[t]) j=atRow ts j+if t.Row+1=j then 1 else 0:=by
  unfold atRow; rw [List.countP_append,List.countP_singleton]; simp only [decide_eq_true_eq]; split <;> simp
theorem below_le (ts:List Triple) (j:Nat):0≤below ts j∧below ts j≤ts.length:=by
  unfold below; have:=List.countP_le_length (p:=fun t:Triple=>decide (t.Row<(j:Int))) (l:=ts); omega
theorem atRow_le (ts:List Triple) (j:Nat):0≤atRow ts j∧atRow ts j≤ts.length:=by
  unfold atRow; have:=List.countP_le_length (p:=fun t:Triple=>decide (t.Row+1=(j:Int))) (l:=ts); omega
theorem below_succ (j:Nat):∀ (ts:List Triple),(∀ t∈ts,0≤t.Row)→below ts (j+1)=below ts j+atRow ts (j+1)
  | [],_=>rfl
  | t :: ts,h=>by
    have:=below_succ j ts fun x hx=>h x (by simp [hx])
    unfold below atRow at *
    simp only [List.countP_cons]
    have h0:=h t (by simp)
    by_cases h1:t.Row<j
    · have h2:t.Row<(j+1:Nat):=by omega
      have h3:¬t.Row+1=((j+1:Nat):Int):=by omega
      simp only [h1,h2,h3,decide_true,decide_false,if_true,if_false]; simp only [Bool.false_eq_true,if_false]; omega
    · by_cases h4:t.Row+1=((j+1:Nat):Int)
      · have h2:t.Row<(j+1:Nat):=by omega
        simp only [h1,h2,h4,decide_true,decide_false,if_true,if_false]; simp only [Bool.false_eq_true,if_false]; omega
      · have h2:¬t.Row<(j+1:Nat):=by omega
        simp only [h1,h2,h4,decide_true,decide_false,if_true,if_false]; simp only [Bool.false_eq_true,if_false]; omega
def builtS (rows cols:Int) (ts:List Triple):Rows:=⟨rows,cols,(List.range (rows.toNat+1)).map (below ts),ts.map (·.Col),ts.map (·.Val)⟩
theorem rep_range (n:Nat):List.replicate n (0:Int)=(List.range n).map fun _=>0:=by
  apply List.ext_getElem?
  intro i
  by_cases h:i<n
  · rw [rm_get h]; simp [h]
  · rw [List.getElem?_eq_none (by simp; omega),List.getElem?_eq_none (by simp; omega)]
theorem built_ok {rows cols:Int} {ts:List Triple} {Q:Rows→Prop} (h0:0≤rows) (h1:rows≤1000000) (hl:ts.length≤1000000) (ht:∀ t∈ts,0≤t.Row∧t.Row<rows) (hQ:Q (builtS rows cols ts)):csr_built rows cols ts Q:=by
  unfold csr_built csr_empty
  obtain ⟨n,rfl⟩:∃ n:Nat,rows=n:=⟨rows.toNat,by omega⟩
  have e:w64 ((n:Int)+1)=(n+1:Nat):=by rw [w64_id (by omega) (by omega)]; omega
  rw [e]
  refine ⟨by omega,by omega,?_⟩
  simp only [Int.toNat_natCast]
  rw [rep_range]
  refine range_intro (fun (s:List Int×List Int×List Int) i=>(s.1,s.2.1,s.2.2,i)) 0 ts.length (s0:=((List.range (n+1)).map fun _=>0,[],[])) (by omega) (fun i s=>s=((List.range (n+1)).map (atRow (ts.take i)),(ts.take i).map (·.Col),(ts.take i).map (·.Val))) (by omega) (by simp [atRow]) (fun i s next _ hi hm hn=>?_) (fun s next hm=>?_)
  · subst hm
    dsimp only
    have hr:=ht _ (List.getElem_mem hi)
    refine ifP_dec (fun _=>?_) (fun h=>by omega)
    refine idxP_nat hi ?_
    obtain ⟨q,hq⟩:∃ q:Nat,ts[i].Row=q:=⟨ts[i].Row.toNat,by omega⟩
    have e2:w64 (ts[i].Row+1)=(q+1:Nat):=by rw [w64_id (by omega) (by omega)]; omega
    rw [e2]
    have hc:=atRow_le (ts.take i) (q+1)
    have htl:(ts.take i).length≤ts.length:=by simp; omega
    refine idxP_intro (by omega) (rm_get (by omega)) (idxP_intro (by omega) (rm_get (by omega)) (appP_intro (by simp; omega) (appP_intro (by simp; omega) (hn ((List.range (n+1)).map (atRow (ts.take (i+1))),(ts.take (i+1)).map (·.Col),(ts.take (i+1)).map (·.Val)) rfl |> cast ?_))))
    congr 1
    simp only [Int.toNat_natCast]
    rw [rm_set,take_map hi,take_map hi]
    refine Prod.ext (rm_congr fun j hj=>?_) rfl
    rw [List.take_succ_eq_append_getElem hi,atRow_snoc]
    by_cases ej:j=q+1
    · subst ej; rw [if_pos (by omega),if_pos rfl,w64_id (by omega) (by omega)]
    · rw [if_neg (by omega),if_neg ej]; omega
  · subst hm
    dsimp only
    refine ifP_dec (fun h=>by omega) (fun _=>?_)
    simp only [List.take_length]
    refine range_intro (fun (s:List Int) i=>(s,i)) 0 n (by omega) (fun i s=>s=(List.range (n+1)).map fun j=>if j≤i then below ts j else atRow ts j) (by omega) (rm_congr fun j hj=>?_) (fun i s next _ hi hm hn=>?_) (fun s next hm=>?_)
    · by_cases ej:j≤0
      · rw [if_pos ej,show j=0 by omega]
        have:∀ t∈ts,¬t.Row<((0:Nat):Int):=fun t h=>by have:=ht t h; omega
        have h2:∀ t∈ts,¬t.Row+1=((0:Nat):Int):=fun t h=>by have:=ht t h; omega
        unfold atRow below
        rw [List.countP_eq_zero.2 (by simpa using h2),List.countP_eq_zero.2 (by simpa using this)]
      · rw [if_neg ej]
    · subst hm
      refine ifP_dec (fun _=>?_) (fun h=>by omega)
      have e2:w64 ((i:Int)+1)=(i+1:Nat):=by rw [w64_id (by omega) (by omega)]; omega
      rw [e2] at hn ⊢
      refine idxP_intro (by omega) (rm_get (by omega)) (idxP_intro (by omega) (rm_get (by omega)) (idxP_intro (by omega) (rm_get (by omega)) (hn _ ?_)))
      simp only [Int.toNat_natCast]
      rw [rm_set]
      refine rm_congr fun j hj=>?_
      have hb1:=below_le ts i
      have hb2:=atRow_le ts (i+1)
      rw [if_neg (show ¬i+1≤i by omega),if_pos (Nat.le_refl i),w64_id (by omega) (by omega)]
      by_cases ej:j=i+1
      · subst ej; rw [if_pos rfl,if_pos (Nat.le_refl _),below_succ i ts fun t h=>(ht t h).1]; omega
      · rw [if_neg ej]
        by_cases h:j≤i
        · rw [if_pos h,if_pos (by omega)]
        · rw [if_neg h,if_neg (by omega)]
    · subst hm
      refine ifP_dec (fun h=>by omega) (fun _=>?_)
      rw [rm_congr (g:=below ts) fun j hj=>if_pos (by omega)]
      exact hQ
theorem ref_built_ok {rows cols:Int} {ts:List Triple} {Q:Rows→Prop} (h0:0≤rows) (h1:rows≤1000000) (hl:ts.length≤1000000) (ht:∀ t∈ts,0≤t.Row∧t.Row<rows) (hQ:Q (builtS rows cols ts)):ref07_built rows cols ts Q:=by
  unfold ref07_built ref07_Empty
  obtain ⟨n,rfl⟩:∃ n:Nat,rows=n:=⟨rows.toNat,by omega⟩
  have e:w64 ((n:Int)+1)=(n+1:Nat):=by rw [w64_id (by omega) (by omega)]; omega
  rw [e]
  refine ⟨by omega,by omega,?_⟩
  simp only [Int.toNat_natCast]
  rw [rep_range]
  refine range_intro (fun (s:List Int×List Int×List Int) i=>(s.1,s.2.1,s.2.2,i)) 0 ts.length (s0:=((List.range (n+1)).map fun _=>0,[],[])) (by omega) (fun i s=>s=((List.range (n+1)).map (below (ts.take i)),(ts.take i).map (·.Col),(ts.take i).map (·.Val))) (by omega) (by simp [below]) (fun i s next _ hi hm hn=>?_) (fun s next hm=>?_)
  · subst hm
    dsimp only
    have hr:=ht _ (List.getElem_mem hi)
    refine ifP_dec (fun _=>?_) (fun h=>by omega)
    refine idxP_nat hi (appP_intro (by simp; omega) (idxP_nat hi (appP_intro (by simp; omega) (idxP_nat hi ?_))))
    obtain ⟨q,hq⟩:∃ q:Nat,ts[i].Row=q:=⟨ts[i].Row.toNat,by omega⟩
    have e2:w64 (ts[i].Row+1)=(q+1:Nat):=by rw [w64_id (by omega) (by omega)]; omega
    rw [e2]
    have htl:(ts.take i).length≤ts.length:=by simp; omega
    refine range_intro (fun (s:List Int) j=>(s,j)) (q+1) (n+1) (by omega) (fun j s=>s=(List.range (n+1)).map fun p=>below (ts.take i) p+if q+1≤p∧p<j then 1 else 0) (by omega) (rm_congr fun j hj=>by rw [if_neg (by omega)]; omega) (fun j s next hj1 hj2 hm hnx=>?_) (fun s next hm=>?_)
    · subst hm
      refine ifP_dec (fun _=>?_) (fun h=>by omega)
      have hb:=below_le (ts.take i) j
      refine idxP_intro (by omega) (rm_get (by omega)) (idxP_intro (by omega) (rm_get (by omega)) (hnx _ ?_))
      simp only [Int.toNat_natCast]
      rw [rm_set]
      refine rm_congr fun p hp=>?_
      rw [if_neg (show ¬(q+1≤j∧j<j) by omega),w64_id (by omega) (by omega)]
      by_cases ep:p=j
      · subst ep; rw [if_pos rfl,if_pos (by omega)]; omega
      · rw [if_neg ep]
        by_cases h:q+1≤p∧p<j
        · rw [if_pos h,if_pos (by omega)]
        · rw [if_neg h,if_neg (by omega)]
    · subst hm
      refine ifP_dec (fun h=>by omega) (fun _=>?_)
      refine hn ((List.range (n+1)).map (below (ts.take (i+1))),(ts.take (i+1)).map (·.Col),(ts.take (i+1)).map (·.Val)) rfl |> cast ?_
      congr 1
      simp only
      rw [take_map hi,take_map hi]
      refine Prod.ext (rm_congr fun p hp=>?_) rfl
      rw [List.take_succ_eq_append_getElem hi,below_snoc]
      by_cases h:q+1≤p
      · rw [if_pos (by omega),if_pos (by omega)]
      · rw [if_neg (by omega),if_neg (by omega)]
  · subst hm
    dsimp only
    refine ifP_dec (fun h=>by omega) (fun _=>?_)
    simp only [List.take_length]
    exact hQ
def zR:Rows:=⟨0,0,[],[],[]⟩
def inT (rows cols:Int) (t:Triple):Prop:=0≤t.Row∧t.Row<rows∧0≤t.Col∧t.Col<cols
instance (rows cols:Int) (t:Triple):Decidable (inT rows cols t):=by unfold inT; infer_instance
theorem SC_keys {r:Int}:∀ {ts:List (Key×Int)} {p:Key×Wide},p∈SC r ts→∃ t∈ts,t.1=p.1:=by
  suffices ∀ (ts:List (Key×Int)) (l:List (Key×Wide)) p,p∈ts.foldl (fun l t=>ins r t.1 (ofI t.2) l) l→(∃ t∈ts,t.1=p.1)∨∃ q∈l,q.1=p.1 from fun {ts p} h=>by
    rcases this ts [] p h with h | ⟨q,hq,_⟩
    · exact h
    · simp at hq
  intro ts
  induction ts with
  | nil=>intro l p h; exact .inr ⟨p,h,rfl⟩
  | cons t ts ih=>
    intro l p h
    rcases ih _ _ h with ⟨x,hx,e⟩ | ⟨q,hq,e⟩
    · exact .inl ⟨x,by simp [hx],e⟩
    · rcases ins_keys hq with e2 | ⟨y,hy,e2⟩
      · exact .inl ⟨t,by simp,by rw [←e,e2]⟩
      · exact .inr ⟨y,hy,by rw [e2,e]⟩
theorem fin_len {α:Type} {mk:Key→Int→α} (l:List (Key×Wide)):(finS l mk).1.length≤l.length:=by
  unfold finS; split <;> simp
def e2t (e:Edge):Triple:=⟨e.From,e.To,e.W⟩
theorem finT (l:List (Key×Wide)):(finS l mkT).1=(finS l mkE).1.map e2t∧(finS l mkT).2=(finS l mkE).2:=by
  unfold finS
  split
  · exact ⟨by simp only [List.map_map]; rfl,rfl⟩
  · exact ⟨rfl,rfl⟩
theorem same_loop {α:Type} [BEq α] [LawfulBEq α] [DecidableEq α] {xs ys:List α} {Q:Bool→Prop} (hl:xs.length≤1000000000000) (hQ:Q (decide (xs=ys))) :
    ifP ((xs.length:Int) != (ys.length:Int)) (Q false) (loopP (fun (s:Int) (next:Int→Prop)=>ifP (decide (s<(xs.length:Int))) (idxP xs s fun x=>idxP ys s fun y=>ifP (x != y) (Q false) (next (w64 (s+1)))) (Q true)) 0):=by
  refine ifP_ne (fun h=>?_) (fun h=>?_)
  · rwa [decide_eq_false (fun e=>h (by rw [e]))] at hQ
  have h:xs.length=ys.length:=by omega
  refine scan_intro xs.length hl (fun i=>∀ (j:Nat) (h1:j<xs.length) (h2:j<ys.length),j<i→xs[j]=ys[j]) (by simp) (fun i next hi hR hn=>?_) (fun next hR=>?_)
  · refine ifP_dec (fun _=>?_) (fun h=>by omega)
    refine idxP_nat hi (idxP_nat (by omega) (ifP_ne (fun e=>?_) (fun e=>hn fun j h1 h2 hj=>?_)))
    · rwa [decide_eq_false (fun e'=>e (by subst e'; rfl))] at hQ
    · by_cases ej:j=i
      · subst ej; exact e
      · exact hR j h1 h2 (by omega)
  · refine ifP_dec (fun h=>by omega) (fun _=>?_)
    rwa [decide_eq_true (List.ext_getElem h fun j h1 h2=>hR j h1 h2 h1)] at hQ
theorem eqV_ok {xs ys:List Int} {Q:Bool→Prop} (hl:xs.length≤1000000000000) (hQ:Q (decide (xs=ys))):ref07_SameVals xs ys Q:=by unfold ref07_SameVals; exact same_loop hl hQ
def small (a:Rows):Prop:=a.Start.length≤1000000000000∧a.Col.length≤1000000000000∧a.Val.length≤1000000000000
def RowP (a:Rows) (i:Nat):Prop:=∀ j:Nat,at0 a.Start i≤j→(j:Int)<at0 a.Start ((i:Int)+1)→0≤at0 a.Col j∧at0 a.Col j<a.Cols∧(at0 a.Start i<j→at0 a.Col ((j:Int) - 1)<at0 a.Col j)
structure RightP (a:Rows):Prop where
  r0:0≤a.Rows
  r1:a.Rows≤4096
  c0:0≤a.Cols
  c1:a.Cols≤4096
  sl:(a.Start.length:Int)=a.Rows+1
  vl:a.Val.length=a.Col.length
  cl:a.Col.length≤65536
  s0:at0 a.Start 0=0
  sn:at0 a.Start a.Rows=a.Col.length
  up:∀ i:Nat,(i:Int)<a.Rows→at0 a.Start i≤at0 a.Start ((i:Int)+1)
  row:∀ i:Nat,(i:Int)<a.Rows→RowP a i
noncomputable instance (a:Rows):Decidable (RightP a):=Classical.propDecidable _
theorem up_le {a:Rows} {n:Nat} (h:∀ i:Nat,i<n→at0 a.Start i≤at0 a.Start ((i:Int)+1)) {i j:Nat} (h1:i≤j) (h2:j≤n):at0 a.Start i≤at0 a.Start j:=by
  induction j with
  | zero => have : i = 0 := by omega
            subst this; exact Int.le_refl _
  | succ j ih=>
    by_cases e:i=j+1
    · subst e; exact Int.le_refl _
    · have:=ih (by omega) (by omega)
      have h3:=h j (by omega)
      have:((j+1:Nat):Int)=(j:Int)+1:=by omega
      rw [this]; omega
theorem ref_right_ok {a:Rows} {Q:Bool→Prop} (hl:small a) (hQ:Q (decide (RightP a))):ref07_Right a Q:=by
  unfold ref07_Right
  have hno (h:¬RightP a):Q false:=by rwa [decide_eq_false h] at hQ
  have hyes (h:RightP a):Q true:=by rwa [decide_eq_true h] at hQ
  unfold small at hl
  refine ifP_dec (fun h=>hno fun hh=>by have:=hh.r0; omega) (fun h1=>?_)
  refine ifP_dec (fun h=>hno fun hh=>by have:=hh.r1; omega) (fun h2=>?_)
  refine ifP_dec (fun h=>hno fun hh=>by have:=hh.c0; omega) (fun h1'=>?_)
  refine ifP_dec (fun h=>hno fun hh=>by have:=hh.c1; omega) (fun h2'=>?_)
  rw [w64_id (by omega) (by omega)]
  refine ifP_ne (fun h=>hno fun hh=>h hh.sl) (fun h3=>?_)
  refine ifP_ne (fun h=>hno fun hh=>h (by rw [hh.vl])) (fun h4=>?_)
  refine ifP_dec (fun h=>hno fun hh=>by have:=hh.cl; omega) (fun h5=>?_)
  refine idxP_at0 (by omega) (by omega) (ifP_ne (fun h=>hno fun hh=>h hh.s0) (fun h6=>?_))
  refine idxP_at0 (by omega) (by omega) (ifP_ne (fun h=>hno fun hh=>h hh.sn) (fun h7=>?_))
  obtain ⟨n,hn⟩:∃ n:Nat,a.Rows=n:=⟨a.Rows.toNat,by omega⟩
  have hsl:a.Start.length=n+1:=by omega
  rw [hn] at h7 ⊢
  refine scan_intro n (by omega) (fun i=>(∀ j:Nat,j<i→at0 a.Start j≤at0 a.Start ((j:Int)+1))∧∀ j:Nat,j<i→RowP a j) ⟨by simp,by simp⟩ (fun i next hi hR hnx=>?_) (fun next hR=>?_)
  · refine ifP_dec (fun _=>?_) (fun h=>by omega)
    have e1:w64 ((i:Int)+1)=(i:Int)+1:=w64_id (by omega) (by omega)
    rw [e1] at hnx ⊢
    refine idxP_at0 (by omega) (by omega) (idxP_at0 (by omega) (by omega) (ifP_dec (fun h=>hno fun hh=>by have:=hh.up i (by omega); omega) (fun hm=>?_)))
    have hlo:0≤at0 a.Start i:=by have:=up_le hR.1 (i:=0) (j:=i) (by omega) (by omega); rw [show ((0:Nat):Int)=0 from rfl,h6] at this; exact this
    refine idxP_at0 (by omega) (by omega) (ifP_dec (fun h=>by omega) (fun _=>idxP_at0 (by omega) (by omega) (ifP_dec (fun h=>hno fun hh=>?_) (fun hhi=>?_))))
    · have:=up_le (n:=n) (fun j hj=>hh.up j (by omega)) (i:=i+1) (j:=n) (by omega) (by omega)
      rw [h7,show ((i+1:Nat):Int)=(i:Int)+1 by omega] at this; omega
    refine idxP_at0 (by omega) (by omega) ?_
    obtain ⟨lo,elo⟩:∃ lo:Nat,at0 a.Start i=lo:=⟨(at0 a.Start i).toNat,by omega⟩
    obtain ⟨hi',ehi⟩:∃ hi:Nat,at0 a.Start ((i:Int)+1)=hi:=⟨(at0 a.Start ((i:Int)+1)).toNat,by omega⟩
    rw [elo]
    refine range_intro (σ:=Unit) (fun _ j=>j) lo hi' (by omega) (fun j _=>∀ p:Nat,lo≤p→p<j→0≤at0 a.Col p∧at0 a.Col p<a.Cols∧(lo<p→at0 a.Col ((p:Int) - 1)<at0 a.Col p)) (by omega) (s0:=()) (fun p h1 h2=>by omega) (fun j _ nx hj1 hj2 hI hnj=>?_) (fun _ nx hI=>?_)
    · refine idxP_at0 (by omega) (by omega) (ifP_dec (fun _=>?_) (fun h=>by omega))
      have hbad (h:¬(0≤at0 a.Col j∧at0 a.Col j<a.Cols∧(lo<j→at0 a.Col ((j:Int) - 1)<at0 a.Col j))):Q false:=hno fun hh=>h (by
        have:=hh.row i (by omega) j (by omega) (by omega)
        rw [elo] at this
        exact ⟨this.1,this.2.1,fun h=>this.2.2 (by omega)⟩)
      refine idxP_at0 (by omega) (by omega) (ifP_dec (fun h=>hbad fun hh=>by omega) (fun g1=>?_))
      refine idxP_at0 (by omega) (by omega) (ifP_dec (fun h=>hbad fun hh=>by omega) (fun g2=>?_))
      have hstep (hx:lo<j→at0 a.Col ((j:Int) - 1)<at0 a.Col j):nx (w64 ((j:Int)+1)):=hnj () fun p hp1 hp2=>by
        by_cases e:p=j
        · subst e; exact ⟨by omega,by omega,hx⟩
        · exact hI p hp1 (by omega)
      refine idxP_at0 (by omega) (by omega) (ifP_dec (fun h=>?_) (fun h=>hstep fun h'=>by omega))
      rw [w64_id (by omega) (by omega)]
      refine idxP_at0 (by omega) (by omega) (idxP_at0 (by omega) (by omega) (ifP_dec (fun h=>hbad fun hh=>by have:=hh.2.2 (by omega); omega) (fun g3=>hstep fun _=>by omega)))
    · refine idxP_at0 (by omega) (by omega) (ifP_dec (fun h=>by omega) (fun _=>?_))
      refine hnx ⟨fun j hj=>?_,fun j hj=>?_⟩
      · by_cases e:j=i
        · subst e; omega
        · exact hR.1 j (by omega)
      · by_cases e:j=i
        · subst e
          intro p hp1 hp2
          have:=hI p (by omega) (by omega)
          exact ⟨this.1,this.2.1,fun h=>this.2.2 (by omega)⟩
        · exact hR.2 j (by omega)
  · refine ifP_dec (fun h=>by omega) (fun _=>hyes ⟨by omega,by omega,by omega,by omega,h3,by omega,by omega,h6,by rw [hn]; exact h7,fun i hi=>hR.1 i (by omega),fun i hi=>hR.2 i (by omega)⟩)
def key (t:Triple):Key:=(t.Row,t.Col)
def Srt (ts:List Triple):Prop:=ts.Pairwise fun a b=>ltK (key a) (key b)
structure Canon (rows cols:Int) (ts:List Triple):Prop where
  r0:0≤rows
  r1:rows≤4096
  c0:0≤cols
  c1:cols≤4096
  len:ts.length≤65536
  srt:Srt ts
  inn:∀ t∈ts,inT rows cols t
theorem mono_count {α:Type} {q:α→Bool}:∀ {l:List α},l.Pairwise (fun a b=>q b=true→q a=true)→∀ (i:Nat) (h:i<l.length),(q l[i]=true↔i<l.countP q)
  | [],_,i,h=>by simp at h
  | a :: l,hp,i,h=>by
    rw [List.pairwise_cons] at hp
    rw [List.countP_cons]
    by_cases ha:q a=true
    · rw [if_pos ha]
      cases i with
      | zero=>simp [ha]
      | succ i=>
        have:=mono_count hp.2 i (by simpa using h)
        simp only [List.getElem_cons_succ]
        rw [this]; omega
    · rw [if_neg ha]
      have hz:l.countP q=0:=List.countP_eq_zero.2 fun b hb h'=>ha (hp.1 b hb h')
      rw [hz]
      refine ⟨fun h'=>absurd ?_ ha,fun h=>by omega⟩
      cases i with
      | zero=>exact h'
      | succ i=>exact hp.1 _ (List.getElem_mem _) h'
theorem Srt.row {ts:List Triple} (h:Srt ts) (v:Nat) (p:Nat) (hp:p<ts.length):ts[p].Row<v↔(p:Int)<below ts v:=by
  have:=mono_count (q:=fun t:Triple=>decide (t.Row<(v:Int))) (l:=ts) (List.Pairwise.imp (fun {a b} hab=>by
    simp only [decide_eq_true_eq]
    unfold ltK key at hab
    simp only at hab
    omega) h) p hp
  simp only [decide_eq_true_eq] at this
  rw [this]; unfold below; omega
theorem at0_rm {f:Nat→Int} {n:Nat} {i:Int} (h0:0≤i) (h:i<n):at0 ((List.range n).map f) i=f i.toNat:=by
  unfold at0
  rw [List.getD_eq_getElem?_getD,rm_get (by omega)]; rfl
theorem at0_map {α:Type} {f:α→Int} {xs:List α} {i:Int} (h0:0≤i) (h:i<xs.length):at0 (xs.map f) i=f (xs[i.toNat]'(by omega)):=by
  unfold at0
  simp [List.getD_eq_getElem?_getD,show i.toNat<xs.length by omega]
theorem start_at {rows cols:Int} {ts:List Triple} {i:Int} (h0:0≤i) (h:i≤rows):at0 (builtS rows cols ts).Start i=below ts i.toNat:=at0_rm h0 (by omega)
theorem below_all {rows cols:Int} {ts:List Triple} (h:Canon rows cols ts):below ts rows.toNat=ts.length:=by
  have h0:=h.r0
  unfold below
  rw [List.countP_eq_length.2]
  intro t ht
  have:=h.inn t ht
  unfold inT at this
  simp; omega
theorem below_zero {ts:List Triple} (h:∀ t∈ts,0≤t.Row):below ts 0=0:=by
  unfold below
  rw [List.countP_eq_zero.2]; · rfl
  intro t ht
  have:=h t ht
  simp; omega
theorem Srt.at {ts:List Triple} (h:Srt ts) {i p:Nat} (hp:p<ts.length):ts[p].Row=i↔below ts i≤p∧(p:Int)<below ts (i+1):=by
  have h1:=h.row i p hp
  have h2:=h.row (i+1) p hp
  omega
theorem Canon.right {rows cols:Int} {ts:List Triple} (h:Canon rows cols ts):RightP (builtS rows cols ts) where
  r0:=h.r0
  r1:=h.r1
  c0:=h.c0
  c1:=h.c1
  sl:=by have:=h.r0; simp [builtS]; omega
  vl:=by simp [builtS]
  cl:=by simpa [builtS] using h.len
  s0:=by
    have:=h.r0
    rw [start_at (by omega) (by omega)]
    exact below_zero fun t ht=>(h.inn t ht).1
  sn:=by
    have:=h.r0
    show at0 (builtS rows cols ts).Start rows=_
    rw [start_at (by omega) (by omega),below_all h]; simp [builtS]
  up i hi:=by
    have hi:(i:Int)<rows:=hi
    rw [start_at (by omega) (by omega),start_at (by omega) (by omega)]
    have e1:((i:Int)).toNat=i:=by omega
    have e2:((i:Int)+1).toNat=i+1:=by omega
    rw [e1,e2,below_succ i ts fun t ht=>(h.inn t ht).1]
    have:=atRow_le ts (i+1)
    omega
  row i hi:=by
    have hi:(i:Int)<rows:=hi
    intro j hj1 hj2
    rw [start_at (by omega) (by omega)] at hj1 hj2 ⊢
    have e1:((i:Int)).toNat=i:=by omega
    have e2:((i:Int)+1).toNat=i+1:=by omega
    rw [e1] at hj1 ⊢
    rw [e2] at hj2
    have hb:=below_le ts (i+1)
    have hjl:j<ts.length:=by omega
    have hc:at0 (builtS rows cols ts).Col j=ts[j].Col:=by
      show at0 (ts.map (·.Col)) j=_
      rw [at0_map (by omega) (by omega)]; rfl
    have hin:=h.inn _ (List.getElem_mem hjl)
    have hr:=(h.srt.at hjl (i:=i)).2 ⟨hj1,hj2⟩
    unfold inT at hin
    refine ⟨by rw [hc]; omega,by rw [hc]; exact hin.2.2.2,fun hlt=>?_⟩
    obtain ⟨q,rfl⟩:∃ q,j=q+1:=⟨j - 1,by have:=below_le ts i; omega⟩
    have hc2:at0 (builtS rows cols ts).Col (((q+1:Nat):Int) - 1)=ts[q].Col:=by
      show at0 (ts.map (·.Col)) _=_
      rw [at0_map (by omega) (by omega)]
      simp
    have hr2:=(h.srt.at (show q<ts.length by omega) (i:=i)).2 ⟨by omega,by omega⟩
    have hs:=List.pairwise_iff_getElem.1 h.srt q (q+1) (by omega) hjl (by omega)
    unfold ltK key at hs
    simp only at hs
    rw [hc,hc2]; omega
noncomputable def sureS (a:Rows):Rows:=if RightP a then a else builtS 0 0 []
theorem ref_sure_ok {a:Rows} {Q:Rows→Prop} (hl:small a) (hQ:Q (sureS a)):ref07_Sure a Q:=by
  unfold ref07_Sure ref07_Empty
  unfold sureS at hQ
  refine ref_right_ok hl (ifP_dec (fun h=>?_) (fun h=>?_))
  · rwa [if_pos h] at hQ
  · rw [if_neg h] at hQ
    exact ⟨by decide,by decide,hQ⟩
def segS (ts:List Triple) (i:Nat):List Triple:=ts.filter fun t=>decide (t.Row=i)
theorem seg_eq {ts:List Triple} (h:Srt ts) (i:Nat) {lo hi:Nat} (hlo:below ts i=lo) (hhi:below ts (i+1)=hi) (hle:lo≤hi) (hl:hi≤ts.length):(ts.take hi).drop lo=segS ts i:=by
  have e:ts=ts.take lo++((ts.take hi).drop lo++ts.drop hi):=by
    have h1:ts.take lo=(ts.take hi).take lo:=by rw [List.take_take,Nat.min_eq_left hle]
    rw [←List.append_assoc,h1,List.take_append_drop,List.take_append_drop]
  have hr:∀ (p:Nat) (hp:p<ts.length),ts[p].Row=i↔lo≤p∧p<hi:=fun p hp=>by have:=h.at (i:=i) hp; omega
  unfold segS
  conv=>rhs; rw [e]
  rw [List.filter_append,List.filter_append,List.filter_eq_nil_iff.2,List.filter_eq_self.2,List.filter_eq_nil_iff.2]
  · simp
  · intro t ht
    obtain ⟨j,hj,rfl⟩:=List.getElem_of_mem ht
    simp only [List.getElem_drop,decide_eq_true_eq]
    rw [hr]; omega
  · intro t ht
    obtain ⟨j,hj,rfl⟩:=List.getElem_of_mem ht
    simp only [List.getElem_drop,List.getElem_take,decide_eq_true_eq]
    simp only [List.length_drop,List.length_take] at hj
    rw [hr]; omega
  · intro t ht
    obtain ⟨j,hj,rfl⟩:=List.getElem_of_mem ht
    simp only [List.getElem_take,decide_eq_true_eq]
    simp only [List.length_take] at hj
    rw [hr]; omega
structure Seg (ts:List Triple) (i l u:Nat):Prop where
  lo:below ts i=l
  hi:below ts (i+1)=u
  le:l≤u
  len:u≤ts.length
  eq:(ts.take u).drop l=segS ts i
  row:∀ (p:Nat) (hp:p<ts.length),l≤p→p<u→ts[p].Row=i
theorem Canon.seg {rows cols:Int} {ts:List Triple} (h:Canon rows cols ts) (i:Nat):∃ lo hi,Seg ts i lo hi:=by
  have hs:=below_succ i ts fun t ht=>(h.inn t ht).1
  have ha:=atRow_le ts (i+1)
  have hb:=below_le ts (i+1)
  obtain ⟨lo,hlo⟩:∃ lo:Nat,below ts i=lo:=⟨_,rfl⟩
  obtain ⟨hi,hhi⟩:∃ hi:Nat,below ts (i+1)=hi:=⟨_,rfl⟩
  exact ⟨lo,hi,hlo,hhi,by omega,by omega,seg_eq h.srt i hlo hhi (by omega) (by omega),fun p hp h1 h2=>by have:=h.srt.at (i:=i) hp; omega⟩
theorem Canon.sml {rows cols:Int} {ts:List Triple} (h:Canon rows cols ts):small (builtS rows cols ts):=by
  have:=h.r0; have:=h.r1; have:=h.len
  unfold small builtS; simp; omega
theorem start_idx {rows cols:Int} {ts:List Triple} {i:Nat} {K:Int→Prop} (h:(i:Int)≤rows) (hk:K (below ts i)):idxP (builtS rows cols ts).Start (i:Int) K:=
  idxP_intro (by omega) (rm_get (by simp; omega)) hk
def itS (t:Triple):Item:=⟨t.Col,t.Val⟩
theorem ext_step {ts:List Triple} {lo p:Nat} (h1:lo≤p) (h2:p<ts.length):(ts.take (p+1)).drop lo=(ts.take p).drop lo++[ts[p]]:=by
  rw [List.take_succ_eq_append_getElem h2,List.drop_append_of_le_length (by simp; omega)]
theorem sure_built {rows cols:Int} {ts:List Triple} (h:Canon rows cols ts):sureS (builtS rows cols ts)=builtS rows cols ts:=by
  unfold sureS; rw [if_pos h.right]
theorem fin_canon {r rows cols:Int} {kvs:List (Key×Int)} (h:0≤rows∧rows≤4096∧0≤cols∧cols≤4096) (hl:kvs.length≤65536) (hk:∀ t∈kvs,inT rows cols (mkT t.1 0)) (hv:∀ t∈kvs,inI t.2):Canon rows cols (finS (SC r kvs) mkT).1:=by
  refine ⟨h.1,h.2.1,h.2.2.1,h.2.2.2,?_,?_,?_⟩
  · exact Nat.le_trans (fin_len _) (by have:=(SC_prop r kvs hv).1; omega)
  · unfold finS
    split
    · unfold Srt
      rw [List.pairwise_map]
      exact SC_srt r kvs
    · exact .nil
  · intro t ht
    unfold finS at ht
    split at ht
    · obtain ⟨p,hp,rfl⟩:=List.mem_map.1 ht
      obtain ⟨x,hx,e⟩:=SC_keys hp
      have:=hk x hx
      unfold inT mkT at *
      rw [←e]
      exact this
    · simp at ht
def inE (n:Int) (e:Edge):Prop:=(0≤e.From∧e.From<n)∧(0≤e.To∧e.To<n)
instance (n:Int) (e:Edge):Decidable (inE n e):=by unfold inE; infer_instance
def wOk (e:Edge):Prop:=0≤e.W∧e.W≤2147483647
instance (e:Edge):Decidable (wOk e):=by unfold wOk; infer_instance
def rightG (g:Graph):Int:=
  if g.N<0 then 3 else if 4096<g.N∨65536<g.Edges.length then 5 else if ¬ ∀ e∈g.Edges,inE g.N e then 3 else if ¬ ∀ e∈g.Edges,wOk e then 7 else 0
theorem rightG_zero {g:Graph} (h:rightG g=0):0≤g.N∧g.N≤4096∧g.Edges.length≤65536∧(∀ e∈g.Edges,inE g.N e)∧∀ e∈g.Edges,wOk e:=by
  unfold rightG at h
  split at h
  · omega
  · split at h
    · omega
    · split at h
      · omega
      · split at h
        · omega
        · rename_i h1 h2 h3 h4
          exact ⟨by omega,by omega,by omega,Decidable.of_not_not h3,Decidable.of_not_not h4⟩
theorem graph_right_ok {g:Graph} {Q:Int→Prop} (hQ:Q (rightG g)):edges_Right g Q:=by
  unfold edges_Right
  unfold rightG at hQ
  refine ifP_dec (fun h=>?_) (fun h=>?_)
  · rwa [if_pos h] at hQ
  rw [if_neg h] at hQ
  refine join_intro (fun b=>b=decide (4096<g.N∨65536<g.Edges.length)) ?_ fun k hk=>?_
  · rintro _ rfl
    refine ifP_dec (fun h5=>?_) (fun h5=>?_)
    · rwa [if_pos h5] at hQ
    rw [if_neg h5] at hQ
    unfold slices_ContainsFunc_api_Edge_api_Edge_87a slices_IndexFunc_api_Edge_api_Edge_a86 edges_Right_2_f7d edges_Right_1_b08
    refine scan_intro g.Edges.length (by omega) (fun i=>∀ (j:Nat) (hj:j<g.Edges.length),j<i→inE g.N g.Edges[j]) (by simp) (fun i next hi hR hn=>?_) (fun next hR=>?_)
    · refine ifP_dec (fun _=>?_) (fun h=>by omega)
      have hbad (hb:¬inE g.N g.Edges[i]):ifP (decide (0≤(i:Int))) (Q 3) (slices_ContainsFunc_api_Edge_api_Edge_126 g.Edges fun r45=>ifP r45 (Q 7) (Q 0)):=by
        refine ifP_dec (fun _=>?_) (fun h=>by omega)
        rwa [if_pos (fun h'=>hb (h' _ (List.getElem_mem hi)))] at hQ
      refine idxP_nat hi ?_
      refine ifP_dec (fun h1=>ifP_pos rfl (ifP_pos rfl (hbad fun hh=>by unfold inE at hh; omega))) (fun h1=>?_)
      refine ifP_dec (fun h2=>ifP_pos rfl (hbad fun hh=>by unfold inE at hh; omega)) (fun h2=>?_)
      refine ifP_dec (fun h3=>ifP_pos rfl (hbad fun hh=>by unfold inE at hh; omega)) (fun h3=>?_)
      refine ifP_dec (fun h4=>hbad fun hh=>by unfold inE at hh; omega) (fun h4=>hn fun j hj hji=>?_)
      by_cases e:j=i
      · subst e; unfold inE; omega
      · exact hR j hj (by omega)
    · refine ifP_dec (fun h=>by omega) (fun _=>ifP_neg (by decide) ?_)
      have hall:∀ e∈g.Edges,inE g.N e:=fun e he=>by
        obtain ⟨j,hj,rfl⟩:=List.getElem_of_mem he
        exact hR j hj hj
      rw [if_neg (fun h=>h hall)] at hQ
      unfold slices_ContainsFunc_api_Edge_api_Edge_126 slices_IndexFunc_api_Edge_api_Edge_122 edges_Right_3_b50
      refine scan_intro g.Edges.length (by omega) (fun i=>∀ (j:Nat) (hj:j<g.Edges.length),j<i→wOk g.Edges[j]) (by simp) (fun i next hi hR hn=>?_) (fun next hR=>?_)
      · refine ifP_dec (fun _=>?_) (fun h=>by omega)
        have hbad (hb:¬wOk g.Edges[i]):ifP (decide (0≤(i:Int))) (Q 7) (Q 0):=by
          refine ifP_dec (fun _=>?_) (fun h=>by omega)
          rwa [if_pos (fun h'=>hb (h' _ (List.getElem_mem hi)))] at hQ
        refine idxP_nat hi (ifP_dec (fun h1=>ifP_pos rfl (hbad fun hh=>by unfold wOk at hh; omega)) (fun h1=>ifP_dec (fun h2=>hbad fun hh=>by unfold wOk at hh; omega) (fun h2=>hn fun j hj hji=>?_)))
        by_cases e:j=i
        · subst e; unfold wOk; omega
        · exact hR j hj (by omega)
      · refine ifP_dec (fun h=>by omega) (fun _=>ifP_neg (by decide) ?_)
        rwa [if_neg (fun h=>h fun e he=>by
          obtain ⟨j,hj,rfl⟩:=List.getElem_of_mem he
          exact hR j hj hj)] at hQ
  · refine ifP_dec (fun h1=>hk _ ?_) (fun h1=>hk _ ?_)
    · rw [decide_eq_true h1,decide_eq_true (.inl h1)]
    · apply decide_eq_decide.2; omega
theorem ref_graph_right_ok {g:Graph} {Q:Int→Prop} (hQ:Q (rightG g)):ref05_Right g Q:=by
  unfold ref05_Right
  unfold rightG at hQ
  refine ifP_dec (fun h=>?_) (fun h=>?_)
  · rwa [if_pos h] at hQ
  rw [if_neg h] at hQ
  have h5 (h:4096<g.N∨65536<g.Edges.length):Q 5:=by rwa [if_pos h] at hQ
  refine ifP_dec (fun h=>h5 (.inl h)) (fun h1=>ifP_dec (fun h=>h5 (.inr (by omega))) (fun h2=>?_))
  rw [if_neg (by omega)] at hQ
  refine scan_intro g.Edges.length (by omega) (fun i=>∀ (j:Nat) (hj:j<g.Edges.length),j<i→inE g.N g.Edges[j]) (by simp) (fun i next hi hR hn=>?_) (fun next hR=>?_)
  · refine ifP_dec (fun _=>?_) (fun h=>by omega)
    have hbad (hb:¬inE g.N g.Edges[i]):Q 3:=by rwa [if_pos (fun h'=>hb (h' _ (List.getElem_mem hi)))] at hQ
    refine idxP_nat hi ?_
    refine ifP_dec (fun h1=>hbad fun hh=>by unfold inE at hh; omega) (fun h1=>?_)
    refine ifP_dec (fun h2=>hbad fun hh=>by unfold inE at hh; omega) (fun h2=>?_)
    refine ifP_dec (fun h3=>hbad fun hh=>by unfold inE at hh; omega) (fun h3=>?_)
    refine ifP_dec (fun h4=>hbad fun hh=>by unfold inE at hh; omega) (fun h4=>hn fun j hj hji=>?_)
    by_cases e:j=i
    · subst e; unfold inE; omega
    · exact hR j hj (by omega)
  · refine ifP_dec (fun h=>by omega) (fun _=>?_)
    have hall:∀ e∈g.Edges,inE g.N e:=fun e he=>by
      obtain ⟨j,hj,rfl⟩:=List.getElem_of_mem he
      exact hR j hj hj
    rw [if_neg (fun h=>h hall)] at hQ
    refine scan_intro g.Edges.length (by omega) (fun i=>∀ (j:Nat) (hj:j<g.Edges.length),j<i→wOk g.Edges[j]) (by simp) (fun i next hi hR hn=>?_) (fun next hR=>?_)
    · refine ifP_dec (fun _=>?_) (fun h=>by omega)
      have hbad (hb:¬wOk g.Edges[i]):Q 7:=by rwa [if_pos (fun h'=>hb (h' _ (List.getElem_mem hi)))] at hQ
      refine idxP_nat hi (ifP_dec (fun h1=>hbad fun hh=>by unfold wOk at hh; omega) (fun h1=>idxP_nat hi (ifP_dec (fun h2=>hbad fun hh=>by unfold wOk at hh; omega) (fun h2=>hn fun j hj hji=>?_))))
      by_cases e:j=i
      · subst e; unfold wOk; omega
      · exact hR j hj (by omega)
    · refine ifP_dec (fun h=>by omega) (fun _=>?_)
      rwa [if_neg (fun h=>h fun e he=>by
        obtain ⟨j,hj,rfl⟩:=List.getElem_of_mem he
        exact hR j hj hj)] at hQ
def kvF (e:Edge):Key×Int:=((e.To,e.From),e.W)
def flipE (e:Edge):Edge:=⟨e.To,e.From,e.W⟩
def graphT (g:Graph):List Triple:=(finS (SC 1 (g.Edges.map kvF)) mkT).1
theorem graph_canon {g:Graph} (h:rightG g=0):Canon g.N g.N (graphT g):=by
  obtain ⟨h1,h2,h3,h4,h5⟩:=rightG_zero h
  refine fin_canon ⟨h1,h2,h1,h2⟩ (by simpa using h3) (fun t ht=>?_) (fun t ht=>?_)
  · obtain ⟨e,he,rfl⟩:=List.mem_map.1 ht
    have:=h4 e he
    unfold inE at this
    unfold inT mkT kvF
    simp only
    omega
  · obtain ⟨e,he,rfl⟩:=List.mem_map.1 ht
    have:=h5 e he
    unfold wOk at this
    unfold inI kvF
    simp only
    omega
def graphS (g:Graph):Rows×Int:=if rightG g=0 then (builtS g.N g.N (graphT g),0) else (zR,rightG g)
theorem graph_ok {g:Graph} {Q:Rows×Int→Prop} (hQ:Q (graphS g)):csr_Graph g Q:=by
  unfold csr_Graph
  unfold graphS at hQ
  refine graph_right_ok (ifP_ne (fun h=>?_) (fun h=>?_))
  · rwa [if_neg h] at hQ
  rw [if_pos h] at hQ
  have hcan:=graph_canon h
  obtain ⟨h1,h2,h3,h4,h5⟩:=rightG_zero h
  have hv:∀ t∈g.Edges.map flipE,inI t.W:=fun t ht=>by
    obtain ⟨e,he,rfl⟩:=List.mem_map.1 ht
    have:=h5 e he
    unfold wOk at this
    unfold inI flipE
    simp only
    omega
  unfold edges_Turn edges_made_7c5 edges_turned_87e
  refine range_intro (fun (s:List Edge) i=>(s,i)) 0 g.Edges.length (by omega) (fun i s=>s=(g.Edges.take i).map flipE) (by omega) rfl (fun i s next _ hi hm hn=>?_) (fun s next hm=>?_)
  · subst hm
    dsimp only
    refine ifP_dec (fun _=>?_) (fun h=>by omega)
    refine idxP_nat hi (ifP_pos rfl (appP_intro ?_ (hn _ ?_)))
    · simp; omega
    · rw [take_map hi]; rfl
  · subst hm
    dsimp only
    refine ifP_dec (fun h=>by omega) (fun _=>?_)
    rw [List.take_length]
    unfold edges_Canon
    refine combine_ok (by omega) (by simp; omega) hv ?_
    dsimp only
    have hkv:(g.Edges.map flipE).map kvE=g.Edges.map kvF:=by rw [List.map_map]; rfl
    rw [hkv]
    have hf1:=(finT (SC 1 (g.Edges.map kvF))).1
    have hgl:=hcan.len
    have hgi:=hcan.inn
    unfold graphT at hQ hgl hgi
    rw [hf1] at hQ hgl hgi
    generalize (finS (SC 1 (g.Edges.map kvF)) mkE).1=es at hQ hgl hgi
    have hel:es.length≤65536:=by simpa using hgl
    refine range_intro (fun (s:List Triple) i=>(s,i)) 0 es.length (by omega) (fun i s=>s=(es.take i).map e2t) (by omega) rfl (fun i s next _ hi hm hn=>?_) (fun s next hm=>?_)
    · subst hm
      dsimp only
      refine ifP_dec (fun _=>?_) (fun h=>by omega)
      refine idxP_nat hi (appP_intro ?_ (hn _ ?_))
      · simp; omega
      · rw [take_map hi]; rfl
    · subst hm
      dsimp only
      refine ifP_dec (fun h=>by omega) (fun _=>?_)
      rw [List.take_length]
      refine built_ok h1 (by omega) (by simp; omega) (fun t ht=>?_) hQ
      have:=hgi t ht
      unfold inT at this
      exact ⟨this.1,this.2.1⟩
theorem inR_i64 {x:Int} (h:inR .i64 x):inI x:=by have:=bounds_i64 h; unfold inI; omega
end Go.Proofs.YtaefnmlbnkmahaaGreat
