import Derived.Test.YtccpfgdefibdnaaGreatOK
import Derived.Test.YtccpfgdefibdnaaGreatPlnG
namespace Go.Proofs.YtccpfgdefibdnaaGreat
open Go Go.Fw
set_option linter.unusedVariables false
set_option linter.unusedSimpArgs false
theorem outI_in {n:Nat} {f:Nat→Int×Bool} {x:Item} (h:x∈outI n f):0≤x.At∧x.At<n:=by
  unfold outI at h
  obtain ⟨i,hi,he⟩:=List.mem_filterMap.1 h
  have:=List.mem_range.1 hi
  split at he
  · cases he; simp only; omega
  · cases he
theorem outI_inc (n:Nat) (f:Nat→Int×Bool):IncI (outI n f):=by
  induction n with
  | zero=>exact List.Pairwise.nil
  | succ n ih=>
    rw [outI_succ]
    split
    · unfold IncI
      rw [List.pairwise_append]
      refine ⟨ih,by simp,fun x hx y hy=>?_⟩
      simp only [List.mem_singleton] at hy
      subst hy
      exact (outI_in hx).2
    · exact ih
theorem out_vecP {n:Nat} (hn:n≤4096) (f:Nat→Int×Bool):VecP ⟨n,outI n f⟩:=⟨by simp only; omega,by simp only; omega,outI_inc n f,fun x hx=>outI_in hx⟩
def stepX (p:Plan) (T:List Triple) (s:State) (round:Int):List Sum×Int:=sumsR (ringPl p.Kind round) p.N p.N T (outVS p s round) (askS p s).1 (askS p s).2
def stepY (p:Plan) (T:List Triple) (s:State) (round:Int):Vec×Int:=if (stepX p T s round).2≠0 then (zV,(stepX p T s round).2) else doneS (ringPl p.Kind round) p.N (stepX p T s round).1
def stepS (p:Plan) (T:List Triple) (s:State) (round:Int):State×Int:=if (stepY p T s round).2≠0 then (zSt,(stepY p T s round).2) else (updS p s round (stepY p T s round).1,0)
structure Whole (p:Plan) (s:State):Prop where
  st:StP p s
  ok:okSt s
  lo:s.Low=0
  hi:s.High=p.N
  va:∀ x∈s.A,inI x
theorem Whole.sure {p:Plan} {s:State} (h:Whole p s):sureSt p s=s:=if_pos h.st
theorem begin_whole {p:Plan} (hp:rightPl p=0):Whole p (beginS p 0 p.N):=by
  have hn:=(rightPl_zero hp).2.1
  have h:=begin_St (p:=p) (low:=0) (high:=p.N) hp (by omega) (by omega) (by omega)
  refine ⟨h.1,h.2,?_,?_,?_⟩
  · unfold beginS; rw [if_pos ⟨hp,by omega,by omega,by omega⟩]; rfl
  · unfold beginS; rw [if_pos ⟨hp,by omega,by omega,by omega⟩]; rfl
  · unfold beginS; rw [if_pos ⟨hp,by omega,by omega,by omega⟩]
    intro x hx
    obtain ⟨i,hi,rfl⟩:=List.mem_map.1 (show x∈mapN _ _ from hx)
    have hi:=List.mem_range.1 hi
    simp only
    unfold firstS infI inI
    repeat' split
    all_goals (simp only; omega)
theorem getO_inI {o:Option Int} (h:∀ y,o=some y→inI y):inI (getO o).1:=by
  cases o with
  | none=>unfold inI getO; simp
  | some y=>exact h y rfl
theorem Whole.upd {p:Plan} {s:State} (h:Whole p s) {round:Int} (hr:0≤round∧round≤1000000) {y:Vec} (hy:∀ x∈y.Items,inI x.Val):Whole p (updS p s round y):=by
  have hu:=upd_St (round:=round) (y:=y) h.st h.ok
  refine ⟨hu.1,hu.2.1,hu.2.2.1.trans h.lo,hu.2.2.2.trans h.hi,?_⟩
  unfold updS
  rw [h.sure]
  split
  · intro x hx
    obtain ⟨i,hi,rfl⟩:=List.mem_map.1 (show x∈mapN _ _ from hx)
    have hi:=List.mem_range.1 hi
    have ha:inI (at0 s.A i):=by
      have hl:i<s.A.length:=by have:=h.st.2.2.2.2.1; omega
      have:at0 s.A i=s.A[i]:=by unfold at0; simp [hl]
      rw [this]; exact h.va _ (List.getElem_mem hl)
    have hg:inI (getO (lkI y.Items i)).1:=getO_inI fun z hz=>hy _ (lkI_mem hz)
    have hrd:inI round:=by unfold inI; omega
    show inI (behS p s round i (lkI y.Items i)).1
    unfold behS
    simp only
    repeat' split
    all_goals first | assumption | (unfold inI; omega)
  · exact h.va
theorem done_inI {r n:Int} {l:List Sum}:∀ x∈(doneS r n l).1.Items,inI x.Val:=by
  unfold doneS
  repeat' split
  all_goals first | (intro x hx; cases hx; done) | skip
  intro x hx
  obtain ⟨s,hs,he⟩:=List.mem_filterMap.1 hx
  unfold nzI at he
  split at he
  · cases he; exact nar_inI _
  · cases he
theorem stepY_inI {p:Plan} {T:List Triple} {s:State} {round:Int}:∀ x∈(stepY p T s round).1.Items,inI x.Val:=by
  unfold stepY
  split
  · intro x hx; cases hx
  · exact done_inI
def seqS (p:Plan) (T:List Triple):Nat→State
  | 0=>beginS p 0 p.N
  | k+1=>(stepS p T (seqS p T k) ((k:Int)+1)).1
def stopS (p:Plan) (T:List Triple) (limit:Int) (k:Nat):Int:=if liveS p (seqS p T k) k=0 then 1 else if (k:Int)=limit then 2 else if (stepS p T (seqS p T k) ((k:Int)+1)).2≠0 then 3 else 0
theorem first_ex {P:Nat→Prop}:∀ m:Nat,P m→∃ n,n≤m∧(∀ k,k<n→¬P k)∧P n
  | 0,h=>⟨0,Nat.le_refl _,fun k hk=>by omega,h⟩
  | m+1,h=>by
    by_cases h':∃ j,j≤m∧P j
    · obtain ⟨j,hj,hp⟩:=h'
      obtain ⟨n,h1,h2,h3⟩:=first_ex j hp
      exact ⟨n,by omega,h2,h3⟩
    · exact ⟨m+1,Nat.le_refl _,fun k hk hp=>h' ⟨k,by omega,hp⟩,h⟩
termination_by m=>m
decreasing_by omega
structure Ends (p:Plan) (T:List Triple) (limit:Int) (n:Nat) (st:Int):Prop where
  le:(n:Int)≤limit
  lt:∀ k,k<n→stopS p T limit k=0
  at_:stopS p T limit n=st
  ne:st≠0
theorem ends_ex (p:Plan) (T:List Triple) {limit:Int} (h:0≤limit):∃ n st,Ends p T limit n st:=by
  obtain ⟨n,h1,h2,h3⟩:=first_ex (P:=fun k=>stopS p T limit k≠0) limit.toNat (by
    unfold stopS
    split
    · simp
    · rw [if_pos (by omega)]; simp)
  exact ⟨n,_,by omega,fun k hk=>Decidable.of_not_not (h2 k hk),rfl,h3⟩
theorem stop_go {p:Plan} {T:List Triple} {limit:Int} {k:Nat} (h:stopS p T limit k=0):liveS p (seqS p T k) k≠0∧(k:Int)≠limit∧(stepS p T (seqS p T k) ((k:Int)+1)).2=0:=by
  unfold stopS at h
  split at h
  · cases h
  · split at h
    · cases h
    · split at h
      · cases h
      · rename_i h1 h2 h3
        exact ⟨h1,h2,Decidable.of_not_not h3⟩
theorem step_zero {p:Plan} {T:List Triple} {s:State} {round:Int} (h:(stepS p T s round).2=0):(stepY p T s round).2=0∧stepS p T s round=(updS p s round (stepY p T s round).1,0):=by
  unfold stepS at h ⊢
  by_cases h0:(stepY p T s round).2≠0
  · rw [if_pos h0] at h; exact absurd h h0
  · rw [if_neg h0]; exact ⟨Decidable.of_not_not h0,rfl⟩
theorem seq_le {p:Plan} {T:List Triple} {limit:Int} (hl:0≤limit):∀ {k:Nat},(∀ j,j<k→stopS p T limit j=0)→(k:Int)≤limit
  | 0,_=>hl
  | k+1,h=>by
    have ih:=seq_le (k:=k) hl fun j hj=>h j (by omega)
    have:=stop_go (h k (by omega))
    omega
theorem seq_whole {p:Plan} {T:List Triple} {limit:Int} (hp:rightPl p=0) (hl:0≤limit∧limit≤8192):∀ {k:Nat},(∀ j,j<k→stopS p T limit j=0)→Whole p (seqS p T k)
  | 0,_=>begin_whole hp
  | k+1,h=>by
    have ih:=seq_whole (k:=k) hp hl fun j hj=>h j (by omega)
    have hk:=seq_le hl.1 h
    have:=stop_go (h k (by omega))
    have e:=(step_zero this.2.2).2
    show Whole p (stepS p T (seqS p T k) ((k:Int)+1)).1
    rw [e]
    exact ih.upd (by omega) stepY_inI
structure MatP (p:Plan) (n:Nat) (T:List Triple):Prop where
  can:Canon n n T
  pos:∀ t∈T,0≤t.Val
  ini:∀ t∈T,inI t.Val
  loop:p.Kind=5→∀ t∈T,t.Row≠t.Col
theorem ins1_src {k:Key} {v:Wide}:∀ {l:List (Key×Wide)} {p:Key×Wide},p∈ins 1 k v l→p=(k,v)∨p∈l
  | [],p,h=>by simp [ins] at h; exact .inl h
  | q :: l,p,h=>by
    unfold ins at h
    split at h
    · rcases List.mem_cons.1 h with rfl | h
      · exact .inr (by simp)
      · rcases ins1_src h with h | h
        · exact .inl h
        · exact .inr (by simp [h])
    · split at h
      · rename_i hk
        rcases List.mem_cons.1 h with rfl | h
        · unfold addW
          rw [if_pos (.inl rfl)]
          split
          · right
            obtain ⟨q1,q2⟩:=q
            simp only at hk
            subst hk; simp
          · exact .inl rfl
        · exact .inr (by simp [h])
      · rcases List.mem_cons.1 h with rfl | h
        · exact .inl rfl
        · exact .inr h
theorem SC1_src:∀ {ts:List (Key×Int)} {p:Key×Wide},p∈SC 1 ts→∃ t∈ts,p=(t.1,ofI t.2):=by
  suffices ∀ (ts:List (Key×Int)) (l:List (Key×Wide)) p,p∈ts.foldl (fun l t=>ins 1 t.1 (ofI t.2) l) l→(∃ t∈ts,p=(t.1,ofI t.2))∨p∈l from fun {ts p} h=>by
    rcases this ts [] p h with h | h
    · exact h
    · simp at h
  intro ts
  induction ts with
  | nil=>intro l p h; exact .inr h
  | cons t ts ih=>
    intro l p h
    rcases ih _ _ h with ⟨x,hx,e⟩ | hq
    · exact .inl ⟨x,by simp [hx],e⟩
    · rcases ins1_src hq with e2 | h2
      · exact .inl ⟨t,by simp,e2⟩
      · exact .inr h2
theorem canon_src {es:List Edge} (hv:∀ e∈es,inI e.W) {e:Edge} (he:e∈canonS es):e∈es:=by
  unfold canonS finS at he
  split at he
  · obtain ⟨p,hp,rfl⟩:=List.mem_map.1 he
    obtain ⟨t,ht,rfl⟩:=SC1_src hp
    obtain ⟨x,hx,rfl⟩:=List.mem_map.1 ht
    simp only [kvE]
    rw [nar_ofI (hv x hx)]
    exact hx
  · cases he
theorem graph_src {g:Graph} (hv:∀ e∈g.Edges,inI e.W) {t:Triple} (ht:t∈graphT g):∃ e∈g.Edges,t=⟨e.To,e.From,e.W⟩:=by
  unfold graphT finS at ht
  split at ht
  · obtain ⟨p,hp,rfl⟩:=List.mem_map.1 ht
    obtain ⟨q,hq,rfl⟩:=SC1_src hp
    obtain ⟨x,hx,rfl⟩:=List.mem_map.1 hq
    refine ⟨x,hx,?_⟩
    simp only [kvF]
    rw [nar_ofI (hv x hx)]
    rfl
  · cases ht
def goodE (n:Int) (es:List Edge):Prop:=∀ e∈es,inE n e∧wOk e
theorem goodE_in {n:Int} {es:List Edge} (h:goodE n es):∀ e∈es,inI e.W:=fun e he=>by have:=(h e he).2; unfold wOk at this; unfold inI; omega
theorem goodE_canon {n:Int} {es:List Edge} (h:goodE n es):goodE n (canonS es):=fun e he=>h e (canon_src (goodE_in h) he)
theorem goodE_one {n:Int} {es:List Edge} (h:goodE n es):goodE n (es.map oneE):=fun e he=>by
  obtain ⟨x,hx,rfl⟩:=List.mem_map.1 he
  exact ⟨(h x hx).1,by unfold wOk oneE; simp⟩
theorem goodE_flip {n:Int} {es:List Edge} (h:goodE n es):goodE n (es.map flipE):=fun e he=>by
  obtain ⟨x,hx,rfl⟩:=List.mem_map.1 he
  have:=h x hx
  exact ⟨⟨this.1.2,this.1.1⟩,this.2⟩
theorem goodE_app {n:Int} {xs ys:List Edge} (h:goodE n xs) (h':goodE n ys):goodE n (xs++ys):=fun e he=>by
  rcases List.mem_append.1 he with h1 | h1
  · exact h e h1
  · exact h' e h1
theorem right_good {g:Graph} (h:rightG g=0):goodE g.N g.Edges:=fun e he=>⟨(rightG_zero h).2.2.2.1 e he,(rightG_zero h).2.2.2.2 e he⟩
theorem good_right {g:Graph} (h0:0≤g.N∧g.N≤4096) (hl:g.Edges.length≤65536) (h:goodE g.N g.Edges):rightG g=0:=by
  unfold rightG
  rw [if_neg (by omega),if_neg (by omega),if_neg (fun h'=>h' fun e he=>(h e he).1),if_neg (fun h'=>h' fun e he=>(h e he).2)]
def noL (es:List Edge):Prop:=∀ e∈es,e.From≠e.To
def namG (p:Plan) (g:Graph):Graph:=if p.Kind=5 then plainG (bothG (simpG g)) else if p.Kind=3 then plainG (bothG g) else if p.Kind=1 then plainG g else g
theorem plain_good {g:Graph} (h:goodE g.N g.Edges):goodE (plainG g).N (plainG g).Edges∧(plainG g).Edges.length≤g.Edges.length∧(noL g.Edges→noL (plainG g).Edges):=by
  refine ⟨goodE_canon (goodE_one h),?_,fun hn e he=>?_⟩
  · have:=canon_len (goodE_in (goodE_one h)); rwa [List.length_map] at this
  · have:=canon_src (goodE_in (goodE_one h)) he
    obtain ⟨x,hx,rfl⟩:=List.mem_map.1 this
    exact hn x hx
theorem both_good {g:Graph} (h:goodE g.N g.Edges):goodE (bothG g).N (bothG g).Edges∧(bothG g).Edges.length≤2*g.Edges.length∧(noL g.Edges→noL (bothG g).Edges):=by
  have ht:goodE g.N (turnG g).Edges:=goodE_canon (goodE_flip h)
  have ha:=goodE_app h ht
  refine ⟨goodE_canon ha,?_,fun hn e he=>?_⟩
  · have h1:=canon_len (goodE_in ha)
    have h2:=canon_len (goodE_in (goodE_flip h))
    rw [List.length_append] at h1
    rw [List.length_map] at h2
    have:(turnG g).Edges.length≤g.Edges.length:=h2
    show (canonS _).length≤_
    omega
  · rcases List.mem_append.1 (canon_src (goodE_in ha) he) with h1 | h1
    · exact hn e h1
    · obtain ⟨x,hx,rfl⟩:=List.mem_map.1 (canon_src (goodE_in (goodE_flip h)) h1)
      exact fun e=>hn x hx e.symm
theorem simp_good {g:Graph} (h:goodE g.N g.Edges):goodE (simpG g).N (simpG g).Edges∧(simpG g).Edges.length≤g.Edges.length∧noL (simpG g).Edges:=by
  have hf:goodE g.N (g.Edges.filter notLoop):=fun e he=>h e (List.mem_filter.1 he).1
  refine ⟨goodE_canon hf,?_,fun e he=>?_⟩
  · have h1:=canon_len (goodE_in hf)
    have h2:=List.length_filter_le notLoop g.Edges
    show (canonS _).length≤_
    omega
  · have:=(List.mem_filter.1 (canon_src (goodE_in hf) he)).2
    unfold notLoop at this
    simpa using this
theorem nam_good {p:Plan} {g:Graph} (h:goodE g.N g.Edges):(namG p g).N=g.N∧goodE g.N (namG p g).Edges∧(namG p g).Edges.length≤2*g.Edges.length∧(p.Kind=5→noL (namG p g).Edges):=by
  unfold namG
  have hs:=simp_good h
  have hb:=both_good h
  have hsb:=both_good hs.1
  have hp:=plain_good h
  have hbp:=plain_good hb.1
  have hsp:=plain_good hsb.1
  by_cases h5:p.Kind=5
  · rw [if_pos h5]
    exact ⟨rfl,hsp.1,by have:=hsp.2.1; have:=hsb.2.1; have:=hs.2.1; omega,fun _=>hsp.2.2 (hsb.2.2 hs.2.2)⟩
  · rw [if_neg h5]
    by_cases h3:p.Kind=3
    · rw [if_pos h3]; exact ⟨rfl,hbp.1,by have:=hbp.2.1; have:=hb.2.1; omega,fun h=>absurd h h5⟩
    · rw [if_neg h3]
      by_cases h1:p.Kind=1
      · rw [if_pos h1]; exact ⟨rfl,hp.1,by have:=hp.2.1; omega,fun h=>absurd h h5⟩
      · rw [if_neg h1]; exact ⟨rfl,h,by omega,fun h=>absurd h h5⟩
theorem mat_is {p:Plan} {g:Graph} (hp:rightPl p=0) (hn:g.N=p.N) (hg:rightG g=0) (hl:g.Edges.length≤30000):matS p g=(builtS p.N p.N (graphT (namG p g)),0)∧rightG (namG p g)=0:=by
  have hz:=rightG_zero hg
  have hgd:=nam_good (p:=p) (right_good hg)
  have hr:rightG (namG p g)=0:=good_right (by omega) (by omega) (by rw [hgd.1]; exact hgd.2.1)
  refine ⟨?_,hr⟩
  unfold matS
  rw [if_neg (fun h=>h hp),if_neg (fun h=>h hn),if_neg (fun h=>h hg)]
  show graphS (namG p g)=_
  unfold graphS
  rw [if_pos hr,hgd.1,hn]
theorem mat_P {p:Plan} {g:Graph} {n:Nat} (hp:rightPl p=0) (hn:g.N=p.N) (hN:p.N=n) (hg:rightG g=0) (hl:g.Edges.length≤30000):MatP p n (graphT (namG p g)):=by
  have hgd:=nam_good (p:=p) (right_good hg)
  have hr:=(mat_is hp hn hg hl).2
  have hc:=graph_canon hr
  rw [hgd.1,hn,hN] at hc
  refine ⟨hc,fun t ht=>?_,fun t ht=>?_,fun hk t ht=>?_⟩
  · obtain ⟨e,he,rfl⟩:=graph_src (goodE_in hgd.2.1) ht
    exact (hgd.2.1 e he).2.1
  · obtain ⟨e,he,rfl⟩:=graph_src (goodE_in hgd.2.1) ht
    exact goodE_in hgd.2.1 e he
  · obtain ⟨e,he,rfl⟩:=graph_src (goodE_in hgd.2.1) ht
    exact fun h=>hgd.2.2.2 hk e he h.symm
theorem sumsR_P {r rows cols:Int} {T:List Triple} {v:Vec} {f:List Int} {o:Bool} (h:rows≤4096):(sumsR r rows cols T v f o).1.length≤4096∧okS (sumsR r rows cols T v f o).1:=by
  unfold sumsR
  repeat' split
  · exact ⟨by simp,by simp [okS]⟩
  · exact ⟨by simp,by simp [okS]⟩
  · have hp:=sumsS_prop r cols.toNat f o (fun i=>lkI (rowI T i)) (lkI v.Items) rows.toNat
    exact ⟨by have:=hp.2.1; simp only; omega,hp.2.2.1⟩
theorem pull_Times_ok {r rows cols:Int} {T:List Triple} {v:Vec} {f:List Int} {o:Bool} {Q:Vec×Int→Prop} (h:Canon rows cols T) (hT:∀ t∈T,inI t.Val) (hv:VecP v) (hvv:∀ y∈v.Items,inI y.Val)
    (hf:okF f) (hQ:Q (if (sumsR r rows cols T v f o).2≠0 then (zV,(sumsR r rows cols T v f o).2) else doneS r rows (sumsR r rows cols T v f o).1)):pull_Times r (builtS rows cols T) (denS v) f o Q:=by
  unfold pull_Times
  have hp:=sumsR_P (r:=r) (cols:=cols) (T:=T) (v:=v) (f:=f) (o:=o) h.r1
  refine pull_Sums_ok h hT hv hvv hf (ifP_ne (fun hne=>?_) (fun he=>?_))
  · rw [if_pos hne] at hQ; exact hQ
  · rw [if_neg (fun h=>h he)] at hQ
    exact pull_sure_ok h hv (pull_Done_ok (by omega) hp.2 hQ)
theorem ask_okF (p:Plan) (s:State):okF (askS p s).1:=by
  unfold askS
  repeat' split
  · exact (ofF_prop _ _).1
  · exact (ofF_prop _ _).1
  · simp [okF]
theorem at0_inI {l:List Int} (h:∀ x∈l,inI x) (i:Nat):inI (at0 l i):=by
  by_cases hl:i<l.length
  · have:at0 l i=l[i]:=by unfold at0; simp [hl]
    rw [this]; exact h _ (List.getElem_mem hl)
  · rw [at0_over (by omega)]; unfold inI; omega
theorem Whole.out {p:Plan} {s:State} (h:Whole p s) (round:Int):VecP (outVS p s round)∧(∀ y∈(outVS p s round).Items,inI y.Val)∧(outVS p s round).N=p.N:=by
  have hz:=rightPl_zero h.st.1
  have e:((sizN s:Nat):Int)=s.High - s.Low:=by unfold sizN; have:=h.lo; have:=h.hi; omega
  have hlo:=h.lo; have hhi:=h.hi
  unfold outVS
  rw [h.sure]
  refine ⟨?_,fun y hy=>?_,by simp only; omega⟩
  · have:=out_vecP (n:=sizN s) (by omega) (tellsS p s round)
    rw [e] at this; exact this
  · obtain ⟨i,hi,he⟩:=List.mem_filterMap.1 (show y∈outI _ _ from hy)
    have hi:=List.mem_range.1 hi
    split at he
    · cases he
      have ha:=at0_inI h.va i
      show inI (tellsS p s round i).1
      unfold tellsS
      repeat' split
      · unfold inI; simp only; omega
      · unfold inI; simp only; omega
      · have hd:0≤dnum p round (s.Low+i)∧dnum p round (s.Low+i)≤17592186044416:=by
          unfold dnum numS
          split
          · have:=dv_in hz.2.2.2.2.2 ((round - 1) / 2*p.N+(s.Low+i)); omega
          · omega
        unfold inI; simp only; omega
      · exact ha
    · cases he
theorem Whole.ask {p:Plan} {s:State} {round:Int} {Q:List Int×Bool→Prop} (h:Whole p s) (hQ:Q (askS p s)):prog_Asked p s round Q:=prog_Asked_ok h.ok (by rw [h.sure]; exact hQ)
theorem whole_ok {p:Plan} {s:State} {Q:Bool→Prop} (h:Whole p s) (hQ:Q true):model_whole p s Q:=by
  unfold model_whole
  have ho:=h.out 1
  have hz:=rightPl_zero h.st.1
  have e:sizN s=p.N.toNat:=by unfold sizN; have:=h.lo; have:=h.hi; omega
  have hal:=h.st.2.2.2.2.1; have hbl:=h.st.2.2.2.2.2.1; have hr:=h.st.2.2.2.2.2.2
  rw [h.hi,h.lo,Int.sub_zero] at hr
  refine ifP_pos (by simp [h.lo]) (ifP_pos (by simp [h.hi]) (prog_Out_ok h.ok (by omega) (ifP_pos (by simpa using ho.2.2) (ifP_pos ?_ (ifP_pos ?_ (flags_Right_ok h.ok.1 h.ok.2 ?_))))))
  · simp only [beq_iff_eq]; omega
  · simp only [beq_iff_eq]; omega
  · rw [decide_eq_true hr]; exact hQ
theorem model_Step_ok {p:Plan} {T:List Triple} {s:State} {round:Int} {Q:State×Int→Prop} (hp:rightPl p=0) (h:Canon p.N p.N T) (hT:∀ t∈T,inI t.Val) (hs:Whole p s) (hr:0≤round∧round≤1000000) (hQ:Q (stepS p T s round)):model_Step p (builtS p.N p.N T) s round Q:=by
  unfold model_Step
  have ho:=hs.out round
  refine prog_Right_ok (ifP_neg (by simp [hp]) ?_)
  refine join_intro (fun t=>(⟨t.1,t.2.1,t.2.2.1,t.2.2.2.1,t.2.2.2.2⟩:Rows)=builtS p.N p.N T) ?_ ?_
  · rintro ⟨t1,t2,t3,t4,t5⟩ ht
    simp only at ht ⊢
    have e1:t1=p.N:=congrArg Rows.Rows ht
    have e2:t2=p.N:=congrArg Rows.Cols ht
    rw [ht]
    refine ifP_neg (by simp [e1]) (ifP_neg (by simp [e2]) (whole_ok hs (ifP_neg rfl (hs.ask (prog_Ring_ok (prog_Out_ok hs.ok hr (devec_Of_ok (by have:=ho.1.len; omega) ?_)))))))
    rw [sureV_id ho.1]
    refine pull_Times_ok h hT ho.1 ho.2.1 (ask_okF p s) ?_
    unfold stepS at hQ
    change Q (if (stepY p T s round).2≠0 then _ else _) at hQ
    have hyl:(stepY p T s round).1.Items.length≤1000000:=by
      unfold stepY
      have hsp:=sumsR_P (r:=ringPl p.Kind round) (cols:=p.N) (T:=T) (v:=outVS p s round) (f:=(askS p s).1) (o:=(askS p s).2) h.r1
      split
      · simp [zV]
      · unfold doneS
        repeat' split
        · simp [zV]
        · simp [zV]
        · simp [zV]
        · simp [zV]
        · have:=List.length_filterMap_le (nzI (ringPl p.Kind round)) (stepX p T s round).1
          unfold stepX at this ⊢
          simp only; omega
    show ifP ((stepY p T s round).2 != 0) _ _
    refine ifP_ne (fun hne=>?_) (fun he=>?_)
    · rw [if_pos hne] at hQ; exact hQ
    · rw [if_neg (fun h=>h he)] at hQ
      exact prog_Update_ok hs.ok hr hyl hQ
  · intro k hk
    refine right_ok h.sml ?_
    rw [decide_eq_true h.right]
    exact ifP_neg rfl (hk _ rfl)
def checkS (p:Plan) (g:Graph) (limit:Int):Int:=if (matS p g).2≠0 then (matS p g).2 else if limit<0∨8192<limit then 3 else 0
theorem model_Check_ok {p:Plan} {g:Graph} {limit:Int} {Q:Int→Prop} (hQ:Q (checkS p g limit)):model_Check p g limit Q:=by
  unfold model_Check
  unfold checkS at hQ
  refine prog_Matrix_ok (ifP_ne (fun h=>by rwa [if_pos h] at hQ) (fun h=>?_))
  rw [if_neg (fun h'=>h' h)] at hQ
  exact ifP_dec (fun h1=>by rwa [if_pos (.inl h1)] at hQ) (fun h1=>ifP_dec (fun h2=>by rwa [if_pos (.inr h2)] at hQ) (fun h2=>by rwa [if_neg (by omega)] at hQ))
theorem ends_loop {S:Type} {p:Plan} {T:List Triple} {limit:Int} {n:Nat} {st:Int} (hp:rightPl p=0) (hl:0≤limit∧limit≤8192) (E:Ends p T limit n st) {body:S→(S→Prop)→Prop} {enc:Nat→S}
    (hgo:∀ k next,k<n→Whole p (seqS p T k)→liveS p (seqS p T k) k≠0→(k:Int)≠limit→stepS p T (seqS p T k) ((k:Int)+1)=(seqS p T (k+1),0)→next (enc (k+1))→body (enc k) next)
    (hend:∀ next,Whole p (seqS p T n)→stopS p T limit n=st→body (enc n) next):loopP body (enc 0):=by
  refine range_intro (fun (s:Unit) i=>enc i.toNat) 0 n (by have:=E.le; omega) (fun _ _=>True) (by omega) (s0:=()) trivial (fun i s next _ hi _ hn=>?_) (fun s next _=>?_)
  · have hg:=stop_go (E.lt i hi)
    have hw:=seq_whole hp hl (k:=i) fun j hj=>E.lt j (by omega)
    have hn:=hn () trivial
    have e:(w64 ((i:Int)+1)).toNat=i+1:=by rw [w64_id (by omega) (by have:=E.le; omega)]; omega
    simp only [e] at hn
    simp only [Int.toNat_natCast]
    refine hgo i next hi hw hg.1 hg.2.1 ?_ hn
    have:(stepS p T (seqS p T i) ((i:Int)+1)).1=seqS p T (i+1):=rfl
    rw [←this,←hg.2.2]
  · simp only [Int.toNat_natCast]
    exact hend next (seq_whole hp hl (k:=n) fun j hj=>E.lt j hj) E.at_
def lastS (p:Plan) (T:List Triple) (n:Nat) (st:Int):Result:=⟨st,n,seqS p T n⟩
def listS (p:Plan) (T:List Triple) (n:Nat):List State:=(List.range (n+1)).map (seqS p T)
theorem listS_len (p:Plan) (T:List Triple) (n:Nat):(listS p T n).length=n+1:=by simp [listS]
theorem listS_at {p:Plan} {T:List Triple} {n k:Nat} (h:k<(listS p T n).length):(listS p T n)[k]=seqS p T k:=by simp [listS]
theorem stop_is {p:Plan} {T:List Triple} {limit:Int} {k:Nat} {st:Int} (hs:st≠0) (h:stopS p T limit k=st):(liveS p (seqS p T k) k=0∧st=1)∨(liveS p (seqS p T k) k≠0∧(k:Int)=limit∧st=2)∨(liveS p (seqS p T k) k≠0∧(k:Int)≠limit∧(stepS p T (seqS p T k) ((k:Int)+1)).2≠0∧st=3):=by
  unfold stopS at h
  split at h
  · rename_i h1; exact .inl ⟨h1,h.symm⟩
  · split at h
    · rename_i h1 h2; exact .inr (.inl ⟨h1,h2,h.symm⟩)
    · split at h
      · rename_i h1 h2 h3; exact .inr (.inr ⟨h1,h2,h3,h.symm⟩)
      · exact absurd h.symm hs
structure MRun (p:Plan) (g:Graph) (limit:Int) (T:List Triple) (n:Nat) (st:Int):Prop where
  rp:rightPl p=0
  cn:Canon p.N p.N T
  vs:∀ t∈T,inI t.Val
  mt:matS p g=(builtS p.N p.N T,0)
  lm:0≤limit∧limit≤8192
  en:Ends p T limit n st
theorem MRun.check {p:Plan} {g:Graph} {limit:Int} {T:List Triple} {n:Nat} {st:Int} (R:MRun p g limit T n st):checkS p g limit=0:=by
  unfold checkS
  rw [R.mt,if_neg (by simp),if_neg (by have:=R.lm; omega)]
theorem model_Run_bad {p:Plan} {g:Graph} {limit:Int} {Q:Result×Int→Prop} (h:checkS p g limit≠0) (hQ:Q (⟨0,0,zSt⟩,checkS p g limit)):model_Run p g limit Q:=by
  unfold model_Run
  exact model_Check_ok (ifP_pos (by simpa using h) hQ)
theorem model_Run_ok {p:Plan} {g:Graph} {limit:Int} {T:List Triple} {n:Nat} {st:Int} {Q:Result×Int→Prop} (R:MRun p g limit T n st) (hQ:Q (lastS p T n st,0)):model_Run p g limit Q:=by
  unfold model_Run
  refine model_Check_ok (ifP_neg (by simp [R.check]) ?_)
  obtain ⟨hp,hc,hT,hm,hl,E⟩:=R
  unfold model_states_18b model_states_1_e9c
  refine prog_Matrix_ok ?_
  rw [hm]
  refine prog_Begin_ok ?_
  show loopP _ ((0:Int),(-1:Int),(0:Int),(0:Int),([]:List Int),([]:List Int),([]:List Int),(seqS p T 0).Low,(seqS p T 0).High,(seqS p T 0).A,(seqS p T 0).B,(seqS p T 0).On,(0:Int),(0:Nat))
  let prev:Nat→State:=fun k=>match k with | 0=>zSt | k+1=>seqS p T k
  refine ends_loop (S:=Int×Int×Int×Int×List Int×List Int×List Int×Int×Int×List Int×List Int×List Int×Int×Nat) hp hl E (enc:=fun k=>(0,(k:Int) - 1,(prev k).Low,(prev k).High,(prev k).A,(prev k).B,(prev k).On,(seqS p T k).Low,(seqS p T k).High,(seqS p T k).A,(seqS p T k).B,(seqS p T k).On,(k:Int),0)) (fun k next hk hw hv hl' hst hn=>?_) (fun next hw hst=>?_)
  · have hkl:(k:Int)≤8192:=by have:=E.le; omega
    have ew:w64 ((k:Int) - 1+1)=k:=by rw [w64_id (by omega) (by omega)]; omega
    have ew2:w64 ((k:Int)+1)=(k+1:Nat):=by rw [w64_id (by omega) (by omega)]; omega
    dsimp only
    refine ⟨rfl,ifP_pos rfl (prog_Live_ok hw.ok (ifP_neg (by simpa using hv) (ifP_neg (by simpa using hl') ?_)))⟩
    rw [ew2]
    refine model_Step_ok hp hc hT hw (by omega) ?_
    have:((k+1:Nat):Int)=(k:Int)+1:=by omega
    rw [this,hst]
    refine ifP_neg rfl ?_
    have hn':=hn
    simp only [this] at hn'
    rw [ew]
    simpa [prev] using hn'
  · have hkl:(n:Int)≤8192:=by have:=E.le; omega
    have ew:w64 ((n:Int) - 1+1)=n:=by rw [w64_id (by omega) (by omega)]; omega
    have ew2:w64 ((n:Int)+1)=(n:Int)+1:=w64_id (by omega) (by omega)
    dsimp only
    rw [ew,ew2]
    refine ⟨rfl,ifP_pos rfl (prog_Live_ok hw.ok ?_)⟩
    rcases stop_is E.ne hst with ⟨h1,rfl⟩ | ⟨h1,h2,rfl⟩ | ⟨h1,h2,h3,rfl⟩
    · exact ifP_pos (by simpa using h1) ⟨rfl,hQ⟩
    · exact ifP_neg (by simpa using h1) (ifP_pos (by simpa using h2) ⟨rfl,hQ⟩)
    · exact ifP_neg (by simpa using h1) (ifP_neg (by simpa using h2) (model_Step_ok hp hc hT hw (by omega) (ifP_pos (by simpa using h3) ⟨rfl,hQ⟩)))
theorem model_Trace_ok {p:Plan} {g:Graph} {limit:Int} {T:List Triple} {n:Nat} {st:Int} {Q:List State×Int→Prop} (R:MRun p g limit T n st) (hQ:Q (listS p T n,0)):model_Trace p g limit Q:=by
  unfold model_Trace
  refine model_Check_ok (ifP_neg (by simp [R.check]) ?_)
  obtain ⟨hp,hc,hT,hm,hl,E⟩:=R
  unfold model_states_5ef slices_Collect_api_State_f8c slices_AppendSeq_api_State_api_State_f00 model_states_1_589
  refine prog_Matrix_ok ?_
  rw [hm]
  refine prog_Begin_ok ?_
  show loopP _ (([]:List State),(seqS p T 0).Low,(seqS p T 0).High,(seqS p T 0).A,(seqS p T 0).B,(seqS p T 0).On,(0:Int),(0:Nat))
  refine ends_loop (S:=List State×Int×Int×List Int×List Int×List Int×Int×Nat) hp hl E (enc:=fun k=>((List.range k).map (seqS p T),(seqS p T k).Low,(seqS p T k).High,(seqS p T k).A,(seqS p T k).B,(seqS p T k).On,(k:Int),0)) (fun k next hk hw hv hl' hst hn=>?_) (fun next hw hst=>?_)
  · have hkl:(k:Int)≤8192:=by have:=E.le; omega
    have ew2:w64 ((k:Int)+1)=(k+1:Nat):=by rw [w64_id (by omega) (by omega)]; omega
    dsimp only
    refine ⟨rfl,appP_intro (by simp; omega) (ifP_pos rfl (prog_Live_ok hw.ok (ifP_neg (by simpa using hv) (ifP_neg (by simpa using hl') ?_))))⟩
    rw [ew2]
    refine model_Step_ok hp hc hT hw (by omega) ?_
    have:((k+1:Nat):Int)=(k:Int)+1:=by omega
    rw [this,hst]
    refine ifP_neg rfl ?_
    have hn':=hn
    rw [List.range_succ,List.map_append,this] at hn'
    exact hn'
  · have hkl:(n:Int)≤8192:=by have:=E.le; omega
    have ew2:w64 ((n:Int)+1)=(n:Int)+1:=w64_id (by omega) (by omega)
    have el:(List.range n).map (seqS p T)++[seqS p T n]=listS p T n:=by unfold listS; rw [List.range_succ,List.map_append]; rfl
    dsimp only
    rw [ew2]
    refine ⟨rfl,appP_intro (by simp; omega) (ifP_pos rfl (prog_Live_ok hw.ok ?_))⟩
    show ifP (liveS p (seqS p T n) n==0) _ _
    simp only [show ({ Low:=(seqS p T n).Low,High:=(seqS p T n).High,A:=(seqS p T n).A,B:=(seqS p T n).B,On:=(seqS p T n).On }:State)=seqS p T n from rfl,el]
    rcases stop_is E.ne hst with ⟨h1,rfl⟩ | ⟨h1,h2,rfl⟩ | ⟨h1,h2,h3,rfl⟩
    · exact ifP_pos (by simpa using h1) ⟨rfl,hQ⟩
    · exact ifP_neg (by simpa using h1) (ifP_pos (by simpa using h2) ⟨rfl,hQ⟩)
    · exact ifP_neg (by simpa using h1) (ifP_neg (by simpa using h2) (model_Step_ok hp hc hT hw (by omega) (ifP_pos (by simpa using h3) ⟨rfl,hQ⟩)))
theorem MRun.whole {p:Plan} {g:Graph} {limit:Int} {T:List Triple} {n:Nat} {st:Int} (R:MRun p g limit T n st) {k:Nat} (h:k≤n):Whole p (seqS p T k):=seq_whole R.rp R.lm fun j hj=>R.en.lt j (by omega)
theorem MRun.lens {p:Plan} {g:Graph} {limit:Int} {T:List Triple} {n:Nat} {st:Int} (R:MRun p g limit T n st) {k:Nat} (h:k≤n):lenSt (seqS p T k):=lenSt_of (R.whole h).st (R.whole h).ok
theorem model_Same_ok {a b:Result} {Q:Bool→Prop} (hl:lenSt a.State) (hQ:Q (decide (a=b))):model_Same a b Q:=by
  unfold model_Same
  have hno:a≠b→Q false:=fun h=>by rwa [decide_eq_false h] at hQ
  refine ifP_eq (fun h1=>ifP_eq (fun h2=>prog_Same_ok hl ?_) (fun h2=>hno fun h=>h2 (by rw [h]))) (fun h1=>hno fun h=>h1 (by rw [h]))
  by_cases h3:a.State=b.State
  · have:a=b:=by cases a; cases b; simp only at h1 h2 h3; subst h1 h2 h3; rfl
    rw [decide_eq_true this] at hQ
    rw [decide_eq_true h3]; exact hQ
  · rw [decide_eq_false h3]; exact hno fun h=>h3 (by rw [h])
def PL:Plan:=⟨1,3,0,0,[]⟩
def GL:Graph:=⟨3,[⟨0,1,1⟩,⟨1,2,1⟩]⟩
def TL:List Triple:=[⟨1,0,1⟩,⟨2,1,1⟩]
def SL0:State:=⟨0,3,[0,-1,-1],[-1,-1,-1],[1]⟩
def SL1:State:=⟨0,3,[0,1,-1],[-1,0,-1],[2]⟩
def SL2:State:=⟨0,3,[0,1,2],[-1,0,1],[4]⟩
def SL3:State:=⟨0,3,[0,1,2],[-1,0,1],[0]⟩
theorem PL_right:rightPl PL=0:=by decide
theorem TL_canon:Canon 3 3 TL:=⟨by decide,by decide,by decide,by decide,by decide,by unfold Srt; decide,by decide⟩
theorem TL_vals:∀ t∈TL,inI t.Val:=by unfold inI; decide
theorem PL_mat:matS PL GL=(builtS 3 3 TL,0):=by decide
theorem seqL0:seqS PL TL 0=SL0:=by show beginS PL 0 3=SL0; decide
theorem step_of {p:Plan} {T:List Triple} {s s':State} {round:Int} {x y:Vec} {l:List Sum} (ho:outVS p s round=x) (hx:sumsR (ringPl p.Kind round) p.N p.N T x (askS p s).1 (askS p s).2=(l,0)) (hy:doneS (ringPl p.Kind round) p.N l=(y,0)) (hu:updS p s round y=s'):stepS p T s round=(s',0):=by
  have e1:stepX p T s round=(l,0):=by unfold stepX; rw [ho]; exact hx
  have e2:stepY p T s round=(y,0):=by unfold stepY; rw [e1,if_neg (by simp)]; exact hy
  unfold stepS
  rw [e2,if_neg (by simp),hu]
theorem beginL:StP PL SL0∧okSt SL0:=by
  have h:=begin_St (p:=PL) (low:=0) (high:=3) PL_right (by decide) (by decide) (by decide)
  rw [show beginS PL 0 3=SL0 by decide] at h
  exact h
theorem updL {s s':State} {round:Int} {y:Vec} (h:StP PL s∧okSt s) (hu:updS PL s round y=s'):StP PL s'∧okSt s':=by
  have:=upd_St (round:=round) (y:=y) h.1 h.2
  rw [hu] at this
  exact ⟨this.1,this.2.1⟩
theorem up1:updS PL SL0 1 ⟨3,[⟨1,0⟩]⟩=SL1:=by
  unfold updS; rw [show sureSt PL SL0=SL0 from if_pos beginL.1]; decide
theorem st1:StP PL SL1∧okSt SL1:=updL beginL up1
theorem up2:updS PL SL1 2 ⟨3,[⟨2,1⟩]⟩=SL2:=by
  unfold updS; rw [show sureSt PL SL1=SL1 from if_pos st1.1]; decide
theorem st2:StP PL SL2∧okSt SL2:=updL st1 up2
theorem up3:updS PL SL2 3 ⟨3,[]⟩=SL3:=by
  unfold updS; rw [show sureSt PL SL2=SL2 from if_pos st2.1]; decide
theorem st3:StP PL SL3∧okSt SL3:=updL st2 up3
theorem go1:stepS PL TL SL0 1=(SL1,0):=step_of (x:=⟨3,[⟨0,0⟩]⟩) (l:=[⟨1,⟨0,0⟩⟩]) (y:=⟨3,[⟨1,0⟩]⟩) (by unfold outVS; rw [show sureSt PL SL0=SL0 from if_pos beginL.1]; decide) (by decide) (by decide) up1
theorem go2:stepS PL TL SL1 2=(SL2,0):=step_of (x:=⟨3,[⟨1,1⟩]⟩) (l:=[⟨2,⟨0,1⟩⟩]) (y:=⟨3,[⟨2,1⟩]⟩) (by unfold outVS; rw [show sureSt PL SL1=SL1 from if_pos st1.1]; decide) (by decide) (by decide) up2
theorem go3:stepS PL TL SL2 3=(SL3,0):=step_of (x:=⟨3,[⟨2,2⟩]⟩) (l:=[]) (y:=⟨3,[]⟩) (by unfold outVS; rw [show sureSt PL SL2=SL2 from if_pos st2.1]; decide) (by decide) (by decide) up3
theorem seqL1:seqS PL TL 1=SL1:=by show (stepS PL TL (seqS PL TL 0) 1).1=_; rw [seqL0,go1]
theorem seqL2:seqS PL TL 2=SL2:=by show (stepS PL TL (seqS PL TL 1) 2).1=_; rw [seqL1,go2]
theorem seqL3:seqS PL TL 3=SL3:=by show (stepS PL TL (seqS PL TL 2) 3).1=_; rw [seqL2,go3]
theorem lvL0:liveS PL SL0 0=1:=by unfold liveS; rw [show sureSt PL SL0=SL0 from if_pos beginL.1]; decide
theorem lvL1:liveS PL SL1 1=1:=by unfold liveS; rw [show sureSt PL SL1=SL1 from if_pos st1.1]; decide
theorem lvL2:liveS PL SL2 2=1:=by unfold liveS; rw [show sureSt PL SL2=SL2 from if_pos st2.1]; decide
theorem lvL3:liveS PL SL3 3=0:=by unfold liveS; rw [show sureSt PL SL3=SL3 from if_pos st3.1]; decide
theorem stop0 {limit:Int} (h:limit≠0):stopS PL TL limit 0=0:=by
  unfold stopS
  rw [seqL0,if_neg (by rw [show ((0:Nat):Int)=0 from rfl,lvL0]; decide),if_neg (fun h'=>h h'.symm),if_neg (by rw [show ((0:Nat):Int)+1=1 from rfl,go1]; simp)]
theorem stop1 {limit:Int} (h:limit≠1):stopS PL TL limit 1=0:=by
  unfold stopS
  rw [seqL1,if_neg (by rw [show ((1:Nat):Int)=1 from rfl,lvL1]; decide),if_neg (fun h'=>h h'.symm),if_neg (by rw [show ((1:Nat):Int)+1=2 from rfl,go2]; simp)]
theorem stop2 {limit:Int} (h:limit≠2):stopS PL TL limit 2=0:=by
  unfold stopS
  rw [seqL2,if_neg (by rw [show ((2:Nat):Int)=2 from rfl,lvL2]; decide),if_neg (fun h'=>h h'.symm),if_neg (by rw [show ((2:Nat):Int)+1=3 from rfl,go3]; simp)]
theorem runL9:MRun PL GL 9 TL 3 1:=⟨PL_right,TL_canon,TL_vals,PL_mat,by decide,by decide,fun k hk=>by
    rcases (show k=0∨k=1∨k=2 by omega) with rfl | rfl | rfl
    · exact stop0 (by decide)
    · exact stop1 (by decide)
    · exact stop2 (by decide),by
    unfold stopS
    rw [seqL3,if_pos (by rw [show ((3:Nat):Int)=3 from rfl,lvL3])],by decide⟩
theorem runL1:MRun PL GL 1 TL 1 2:=⟨PL_right,TL_canon,TL_vals,PL_mat,by decide,by decide,fun k hk=>by
    rcases (show k=0 by omega) with rfl
    exact stop0 (by decide),by
    unfold stopS
    rw [seqL1,if_neg (by rw [show ((1:Nat):Int)=1 from rfl,lvL1]; decide),if_pos (show ((1:Nat):Int)=1 from rfl)],by decide⟩
theorem live22_ok {Q:Bool→Prop} (hQ:Q true):law22_live Q:=by
  unfold law22_live
  refine model_Run_ok (p:=PL) (g:=GL) runL9 (model_Trace_ok (p:=PL) (g:=GL) runL1 (model_Run_bad (p:=PL) (g:=GL) (by decide) ?_))
  rw [show checkS PL GL (-1)=3 by decide]
  have e3:(lastS PL TL 3 1).State=SL3:=seqL3
  have hls:lenSt (lastS PL TL 3 1).State:=by rw [e3]; unfold lenSt; decide
  refine ifP_pos rfl (ifP_pos rfl (ifP_pos rfl ?_))
  rw [e3]
  refine eqV_ok (by decide) (ifP_pos (by decide) (ifP_pos rfl (ifP_pos (by simp [listS_len]) (ifP_pos rfl (model_Check_ok (p:=PL) (g:=GL) ?_)))))
  rw [show checkS PL GL 0=0 by decide]
  refine ifP_pos rfl (model_Check_ok (p:=PL) ?_)
  rw [show checkS PL ({ N:=0,Edges:=([]:List Edge) }:Graph) 0=4 by decide]
  refine ifP_pos rfl (model_Same_ok hls (ifP_pos (by simp) (model_Same_ok hls ?_)))
  rw [decide_eq_false (by intro h; cases h)]
  exact hQ
theorem Graph_ok {a:Graph} {Q:Graph→Prop} (hQ:∀ g:Graph,0≤g.N∧g.N≤23→g.Edges.length≤60→rightG g=0→Q g):law21_Graph a Q:=by
  unfold law21_Graph
  refine Within_ok (fun h=>by omega) (fun _ n h0 h1=>?_)
  have hend:∀ es:List Edge,es.length≤60→goodE n es→Q ⟨n,es⟩:=fun es he hg=>hQ _ ⟨h0,by simp only; omega⟩ he (good_right (by simp only; omega) (by simp only; omega) hg)
  refine range_intro (fun (s:List Edge) i=>(s,i)) 0 (min a.Edges.length 60) (by omega) (fun i s=>s.length≤i∧goodE n s) (by omega) (s0:=[]) ⟨by simp,by intro e he; simp at he⟩ (fun i s next _ hi hm hn=>?_) (fun s next hm=>?_)
  · dsimp only
    refine ifP_dec (fun _=>ifP_dec (fun _=>ifP_dec (fun hn0=>idxP_nat (by omega) ?_) (fun _=>hend s (by omega) hm.2)) (fun h=>by omega)) (fun h=>by omega)
    refine Within_ok (fun h=>by omega) fun _ u u0 u1=>Within_ok (fun h=>by omega) fun _ v v0 v1=>appP_intro (by simp; omega) (hn _ ⟨by simp; omega,fun e he=>?_⟩)
    rcases List.mem_append.1 he with h | h
    · exact hm.2 e h
    · rw [List.mem_singleton.1 h]
      have:=bnd_le (a.Edges[i]'(by omega)).W (m:=2147483647) (by omega)
      refine ⟨⟨⟨u0,u1⟩,v0,v1⟩,?_⟩
      unfold wOk
      simp only; omega
  · dsimp only
    exact ifP_dec (fun _=>ifP_dec (fun _=>by omega) (fun _=>hend s (by omega) hm.2)) (fun _=>hend s (by omega) hm.2)
theorem case_ok {a:Law22_Case} {Q:Plan×Graph×Int→Prop} (h:okLaw22_Case a) (hQ:∀ p g lim,rightPl p=0→g.N=p.N→0≤g.N∧g.N≤23→g.Edges.length≤60→rightG g=0→0≤lim∧lim≤39→Q (p,g,lim)):law22_Case_Make a Q:=by
  unfold law22_Case_Make
  have hb:=bounds_u8 h.2.2
  refine Graph_ok fun g hg hl hr=>plan_ok (by omega) fun p hp hN=>?_
  have e:(w64 a.Limit).tmod 40=a.Limit % 40:=by rw [w64_id (by omega) (by omega),Int.tmod_eq_emod_of_nonneg (by omega)]
  rw [e]
  exact hQ p g _ hp hN.symm hg hl hr (by omega)
theorem case_T {p:Plan} {g:Graph} {lim:Int} (hp:rightPl p=0) (hn:g.N=p.N) (hl:g.Edges.length≤60) (hg:rightG g=0) (hlim:0≤lim∧lim≤8192):∃ n st,MRun p g lim (graphT (namG p g)) n st:=by
  obtain ⟨N,hN⟩:∃ N:Nat,p.N=N:=⟨p.N.toNat,by have:=(rightPl_zero hp).2.1; omega⟩
  have hP:=mat_P (n:=N) hp hn hN hg (by omega)
  obtain ⟨n,st,E⟩:=ends_ex p (graphT (namG p g)) hlim.1
  exact ⟨n,st,hp,by rw [hN]; exact hP.can,hP.ini,(mat_is hp hn hg (by omega)).1,hlim,E⟩
theorem ModelLess_ok (a0:Law22_Case) (a1:Int) (h0:okLaw22_Case a0):law22_ModelLess a0 a1 (fun r=>r=true):=by
  unfold law22_ModelLess
  refine case_ok h0 fun p g lim hp hn hN hl hg hlim=>?_
  dsimp only
  rw [show w64 (lim+1)=lim+1 from w64_id (by omega) (by omega)]
  refine Within_ok (fun h=>by omega) (fun _ m m0 m1=>?_)
  obtain ⟨n,st,R⟩:=case_T hp hn hl hg (by omega:0≤lim∧lim≤8192)
  obtain ⟨n',st',R'⟩:=case_T hp hn hl hg (by omega:0≤m∧m≤8192)
  have hle:=R.en.le
  have hle':=R'.en.le
  have hnn:n'≤n:=by
    refine Nat.le_of_not_lt fun hlt=>?_
    have hg':=stop_go (R'.en.lt n hlt)
    have:=R.en.at_
    rcases stop_is R.en.ne this with ⟨h1,_⟩ | ⟨_,h2,_⟩ | ⟨_,_,h3,_⟩
    · exact hg'.1 h1
    · omega
    · exact h3 hg'.2.2
  refine model_Trace_ok R (model_Run_ok R' (ifP_neg (by simp) (ifP_neg (by simp) (ifP_dec (fun h=>?_) (fun _=>live22_ok (ifP_pos rfl (ifP_dec (fun _=>?_) (fun h=>?_))))))))
  · rw [listS_len] at h
    have:(lastS p (graphT (namG p g)) n' st').Rounds=n':=rfl
    simp only at h
    omega
  · show idxP (listS p (graphT (namG p g)) n) (n':Int) _
    refine idxP_nat (by rw [listS_len]; omega) ?_
    rw [listS_at]
    refine ref_Same_ok (R'.lens (Nat.le_refl _)) (ifP_pos (by simp [lastS]) (ifP_ne (fun _=>rfl) (fun h2=>?_)))
    have h2':st'=2:=h2
    rcases stop_is R'.en.ne R'.en.at_ with ⟨_,h⟩ | ⟨_,h,_⟩ | ⟨_,_,_,h⟩
    · omega
    · show ((n':Int)==m)=true
      simpa using h
    · omega
  · have:(lastS p (graphT (namG p g)) n' st').Rounds=n':=rfl
    simp only at h
    omega
end Go.Proofs.YtccpfgdefibdnaaGreat
