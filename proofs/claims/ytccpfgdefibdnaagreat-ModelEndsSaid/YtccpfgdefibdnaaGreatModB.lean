import Derived.Test.YtccpfgdefibdnaaGreatModC
namespace Go.Proofs.YtccpfgdefibdnaaGreat
open Go Go.Fw
set_option linter.unusedVariables false
set_option linter.unusedSimpArgs false
structure MatP (p:Plan) (n:Nat) (T:List Triple):Prop where
  can:Canon n n T
  pos:∀ t∈T,0≤t.Val
  ini:∀ t∈T,inI t.Val
  loop:p.Kind=5→∀ t∈T,t.Row≠t.Col
theorem ring_k {p:Plan} (hk:1≤p.Kind∧p.Kind≤5) (h4:p.Kind≠4) (round:Int):ringPl p.Kind round=1∨ringPl p.Kind round=4∨ringPl p.Kind round=2:=by
  unfold ringPl
  repeat' split
  all_goals omega
theorem dnum_b {p:Plan} (hp:rightPl p=0) (round v:Int):0≤dnum p round v∧dnum p round v≤17592186044416:=by
  have hz:=rightPl_zero hp
  unfold dnum numS
  split
  · have:=dv_in hz.2.2.2.2.2 ((round - 1) / 2*p.N+v); omega
  · omega
theorem dnum_ne {p:Plan} (hp:rightPl p=0) {round u v:Int} (hr:1≤round∧round≤16000) (hu:0≤u∧u<p.N) (hv:0≤v∧v<p.N) (h:u≠v):dnum p round u≠dnum p round v:=by
  have hz:=rightPl_zero hp
  unfold dnum numS
  rw [if_pos (by omega),if_pos (by omega)]
  omega
def valG (p:Plan) (n:Nat) (G:GV):Prop:=∀ v,v<n→(p.Kind=2∨p.Kind=3→0≤(G v).1∧(G v).1≤4611686018427387904)∧(p.Kind=1→(G v).2.2=true→(G v).1 ≠ -1)
theorem val_tell {p:Plan} {n:Nat} {G:GV} (hp:rightPl p=0) (hn:p.N=n) (h4:p.Kind≠4) (h:valG p n G) (round:Int):tellOk p n round G:=by
  intro u hu
  have hz:=rightPl_zero hp
  unfold tellG
  by_cases h1:p.Kind=1
  · rw [if_pos h1]; simp only; omega
  · rw [if_neg h1]
    by_cases h5:p.Kind=5
    · rw [if_pos h5]
      split
      · simp
      · have:=dnum_b hp round u; simp only; omega
    · rw [if_neg h5]
      exact (h u hu).1 (by omega)
theorem val_begin {p:Plan} {n:Nat} (hp:rightPl p=0) (hn:p.N=n):valG p n (gV0 p):=by
  intro v hv
  have hz:=rightPl_zero hp
  unfold gV0 firstS infI
  simp only
  refine ⟨fun hk=>?_,fun hk ho=>?_⟩
  · repeat' split
    all_goals first | omega | (simp only; omega)
  · revert ho
    repeat' split
    all_goals first | omega | simp
theorem val_next {p:Plan} {T:List Triple} {n:Nat} {G:GV} {k:Nat} (hp:rightPl p=0) (hn:p.N=n) (hT:MatP p n T) (h4:p.Kind≠4) (h:valG p n G):valG p n (nextG p ((k:Int)+1) G (hearG p T n ((k:Int)+1) G)):=by
  intro v hv
  have hz:=rightPl_zero hp
  have ht:=val_tell hp hn h4 h ((k:Int)+1)
  have hg:=h v hv
  unfold nextG behG
  refine ⟨fun hk=>?_,fun hk=>?_⟩
  · have hgv:=hg.1 hk
    rw [if_neg (by omega),if_pos hk]
    cases hy:hearG p T n ((k:Int)+1) G v with
    | none=>simpa [getO] using hgv
    | some y=>
      have hr:ringPl p.Kind ((k:Int)+1)=1∨ringPl p.Kind ((k:Int)+1)=4:=by unfold ringPl; repeat' split <;> omega
      obtain ⟨u,a,hu,hm,ho,ha,e4,e1⟩:=hear_src hT.can hT.pos hr ht hy
      have htu:=ht u hu
      simp only [getO]
      split
      · rename_i hc
        simp only
        refine ⟨?_,by have:=hc.2; omega⟩
        rcases hr with e | e
        · have:=e1 e; omega
        · have:=e4 e; omega
      · exact hgv
  · rw [if_pos hk]
    split
    · intro _; simp only; omega
    · simp
theorem val_GS {p:Plan} {T:List Triple} {n:Nat} (hp:rightPl p=0) (hn:p.N=n) (hT:MatP p n T) (h4:p.Kind≠4):∀ k,valG p n (GS p T n k)
  | 0=>val_begin hp hn
  | k+1=>val_next hp hn hT h4 (val_GS hp hn hT h4 k)
theorem step_fine {p:Plan} {T:List Triple} {n:Nat} {k:Nat} (hp:rightPl p=0) (hn:p.N=n) (hT:MatP p n T) (h4:p.Kind≠4):stepS p T (segV 0 n (GS p T n k)) ((k:Int)+1)=(segV 0 n (GS p T n (k+1)),0):=by
  refine (step_seg (T:=T) hp hn).2 fun v w hv ha hw=>?_
  exact row_nar hT.can hT.pos (ring_k (rightPl_zero hp).1 h4 _) (val_tell hp hn h4 (val_GS hp hn hT h4 k) _) hw
def keyG (p:Plan) (g:Int×Int×Bool):Int:=if p.Kind=1 then (if g.1 = -1 then 1 else 0) else g.1
theorem key_mono {p:Plan} {G:GV} {Y:Nat→Option Int} {k:Nat} (hk:p.Kind=1∨p.Kind=2∨p.Kind=3) (v:Nat):keyG p (nextG p ((k:Int)+1) G Y v)≤keyG p (G v)∧((nextG p ((k:Int)+1) G Y v).2.2=true→keyG p (nextG p ((k:Int)+1) G Y v)<keyG p (G v)∧∃ y,Y v=some y∧(p.Kind≠1→(nextG p ((k:Int)+1) G Y v).1=y)∧(p.Kind=1→keyG p (nextG p ((k:Int)+1) G Y v)=0)):=by
  unfold nextG behG
  cases hy:Y v with
  | none=>
    by_cases h1:p.Kind=1
    · rw [if_pos h1]; simp [getO,keyG,h1]
    · rw [if_neg h1,if_pos (by omega)]; simp [getO,keyG,h1]
  | some y=>
    by_cases h1:p.Kind=1
    · rw [if_pos h1]
      unfold keyG
      rw [if_pos h1,if_pos h1]
      simp only [getO,true_and]
      by_cases ha:(G v).1 = -1
      · rw [if_pos ha]
        simp only
        rw [if_neg (by omega),if_pos ha]
        exact ⟨by omega,fun _=>⟨by omega,y,rfl,fun h=>absurd h1 h,fun _=>rfl⟩⟩
      · rw [if_neg ha]
        simp only
        exact ⟨Int.le_refl _,fun h=>by cases h⟩
    · rw [if_neg h1,if_pos (by omega)]
      unfold keyG
      rw [if_neg h1,if_neg h1]
      simp only [getO,true_and]
      by_cases ha:y<(G v).1
      · rw [if_pos ha]
        simp only
        exact ⟨by omega,fun _=>⟨ha,y,rfl,fun _=>rfl,fun h=>absurd h h1⟩⟩
      · rw [if_neg ha]
        simp only
        exact ⟨Int.le_refl _,fun h=>by cases h⟩
theorem on_le {p:Plan} {T:List Triple} {n:Nat} (hp:rightPl p=0) (hn:p.N=n) (hT:MatP p n T) (hk:p.Kind=1∨p.Kind=2∨p.Kind=3) {t v:Nat} (hv:v<n) (ho:(GS p T n t v).2.2=true):t+1≤n:=by
  refine chain_le (n:=n) (on:=fun i v=>(GS p T n i v).2.2=true) (K:=fun i v=>keyG p (GS p T n i v)) (fun i v=>(key_mono hk v).1) (fun i v _ ho=>((key_mono hk v).2 ho).1) (fun i v hv ho=>?_) hv ho
  obtain ⟨y,hy,hne,h1⟩:=((key_mono hk v).2 ho).2
  have ht:=val_tell hp hn (by omega) (val_GS hp hn hT (by omega) i) ((i:Int)+1)
  have hr:ringPl p.Kind ((i:Int)+1)=1∨ringPl p.Kind ((i:Int)+1)=4:=by unfold ringPl; repeat' split <;> omega
  obtain ⟨u,a,hu,hm,hou,ha,e4,e1⟩:=hear_src hT.can hT.pos hr ht hy
  unfold tellG at hou e4 e1
  by_cases hk1:p.Kind=1
  · rw [if_pos hk1] at hou
    refine ⟨u,hu,hou,?_⟩
    have h0:=h1 hk1
    have:=(val_GS hp hn hT (by omega) i u hu).2 hk1 hou
    show keyG p (GS p T n i u)≤keyG p (nextG p ((i:Int)+1) (GS p T n i) (hearG p T n ((i:Int)+1) (GS p T n i)) v)
    rw [h0]
    unfold keyG
    rw [if_pos hk1,if_neg this]
    exact Int.le_refl _
  · rw [if_neg hk1,if_neg (by omega)] at hou e4 e1
    refine ⟨u,hu,hou,?_⟩
    show keyG p (GS p T n i u)≤keyG p (nextG p ((i:Int)+1) (GS p T n i) (hearG p T n ((i:Int)+1) (GS p T n i)) v)
    have h2:=hne hk1
    unfold keyG
    rw [if_neg hk1,if_neg hk1,h2]
    rcases hr with e | e
    · have:=e1 e; omega
    · have:=e4 e; omega
def freeG (G:GV):Nat→Bool:=fun v=>(G v).1==0
theorem free_mono {p:Plan} {G:GV} {Y:Nat→Option Int} {round:Int} (hk:p.Kind=5) (v:Nat) (h:freeG (nextG p round G Y) v=true):freeG G v=true:=by
  unfold freeG nextG behG at *
  rw [if_neg (by omega),if_neg (by omega),if_neg (by omega)] at h
  by_cases h0:(G v).1=0
  · simpa using h0
  · rw [if_pos h0] at h; exact h
theorem free_less {p:Plan} {T:List Triple} {n:Nat} {G:GV} {k:Nat} (hp:rightPl p=0) (hn:p.N=n) (hT:MatP p n T) (hk:p.Kind=5) (hodd:k % 2=0) (hkl:k≤15000) (h:cntN n (freeG G)≠0) (hG:valG p n G) :
    cntN n (freeG (nextG p ((k:Int)+1) G (hearG p T n ((k:Int)+1) G)))<cntN n (freeG G):=by
  obtain ⟨v,hv,hf,hmin⟩:=min_ex (P:=fun v=>freeG G v=true) (μ:=fun v=>dnum p ((k:Int)+1) v) n (cntN_some h)
  refine cntN_lt (fun i _=>free_mono hk i) hv hf ?_
  have hA:(G v).1=0:=by simpa [freeG] using hf
  have hround:¬((k:Int)+1) % 2=0:=by omega
  have hr:ringPl p.Kind ((k:Int)+1)=4:=by
    unfold ringPl
    rw [if_neg (by omega),if_neg (by omega),if_neg (by omega),if_pos hk,if_neg hround]
  unfold freeG nextG behG
  rw [if_neg (by omega),if_neg (by omega),if_neg (by omega),if_neg (fun h=>h hA),if_neg hround,if_pos]
  · rfl
  cases hy:hearG p T n ((k:Int)+1) G v with
  | none=>left; rfl
  | some y=>
    right
    obtain ⟨u,a,hu,hm,hou,ha,e4,_⟩:=hear_src hT.can hT.pos (.inr hr) (val_tell hp hn (by omega) hG _) hy
    have hy4:=e4 hr
    unfold tellG at hou hy4
    rw [if_neg (by omega),if_pos hk,if_neg hround] at hou hy4
    simp only at hou hy4
    have hlu:=hmin u hu hou
    have hne:(v:Int)≠u:=hT.loop hk _ hm
    have:=dnum_ne hp (round:=(k:Int)+1) (u:=(v:Int)) (v:=(u:Int)) (by omega) (by omega) (by omega) hne
    simp only [getO]
    rw [hy4]
    omega
theorem free_le {p:Plan} {T:List Triple} {n:Nat} (hp:rightPl p=0) (hn:p.N=n) (hT:MatP p n T) (hk:p.Kind=5) {m:Nat} (hm:m≤15000) (hgo:∀ k,k<m→cntN n (freeG (GS p T n k))≠0):∀ j,2*j≤m→cntN n (freeG (GS p T n (2*j)))+j≤n
  | 0,_=>by rw [Nat.add_zero]; exact cntN_le _ _
  | j+1,h=>by
    have ih:=free_le hp hn hT hk hm hgo j (by omega)
    have h1:=free_less (G:=GS p T n (2*j)) (k:=2*j) hp hn hT hk (by omega) (by omega) (hgo (2*j) (by omega)) (val_GS hp hn hT (by omega) _)
    have h2:cntN n (freeG (GS p T n (2*(j+1))))≤cntN n (freeG (GS p T n (2*j+1))):=cntN_le2 fun i _ hf=>free_mono hk i hf
    have h1':cntN n (freeG (GS p T n (2*j+1)))<cntN n (freeG (GS p T n (2*j))):=h1
    omega
def mostS (p:Plan) (n:Nat):Int:=if p.Kind=4 then p.Length else if p.Kind=5 then 2*n else n+1
theorem live_GS {p:Plan} {T:List Triple} {limit:Int} {n k:Nat} (hp:rightPl p=0) (hn:p.N=n) (h:∀ j,j<k→stopS p T limit j=0):liveS p (seqS p T k) k=if p.Kind=4∧p.Length≤k then 0 else ((cntN n fun i=>if p.Kind=5 then freeG (GS p T n k) i else (GS p T n k i).2.2:Nat):Int):=by
  rw [seq_seg hp hn h,live_seg hp (by omega)]
  have:(fun i=>if p.Kind=5 then (GS p T n k (0+i)).1==0 else (GS p T n k (0+i)).2.2)=fun i=>if p.Kind=5 then freeG (GS p T n k) i else (GS p T n k i).2.2:=by
    funext i
    rw [Nat.zero_add]; rfl
  rw [this]
theorem ends_done {p:Plan} {T:List Triple} {n m:Nat} {st:Int} (hp:rightPl p=0) (hn:p.N=n) (hn4:n≤1000) (hT:MatP p n T) (E:Ends p T (mostS p n) m st):st=1∨(p.Kind=4∧st=3):=by
  have hz:=rightPl_zero hp
  have hl:∀ k,k≤m→liveS p (seqS p T k) k=if p.Kind=4∧p.Length≤k then 0 else ((cntN n fun i=>if p.Kind=5 then freeG (GS p T n k) i else (GS p T n k i).2.2:Nat):Int):=fun k hk=>live_GS hp hn fun j hj=>E.lt j (by omega)
  have hgo:∀ k,k<m→(cntN n fun i=>if p.Kind=5 then freeG (GS p T n k) i else (GS p T n k i).2.2)≠0:=fun k hk h0=>by
    have:=(stop_go (E.lt k hk)).1
    rw [hl k (by omega)] at this
    split at this
    · exact this rfl
    · rw [h0] at this; exact this rfl
  have hat:=E.at_
  have hle:=E.le
  unfold stopS at hat
  by_cases hL:liveS p (seqS p T m) m=0
  · rw [if_pos hL] at hat; exact .inl hat.symm
  rw [if_neg hL] at hat
  have h0:=hl m (Nat.le_refl _)
  by_cases hm:(m:Int)=mostS p n
  · exfalso
    by_cases h4:p.Kind=4
    · have hmost:mostS p n=p.Length:=if_pos h4
      rw [if_pos ⟨h4,by omega⟩] at h0
      exact hL h0
    · rw [if_neg (fun h=>h4 h.1)] at h0
      by_cases h5:p.Kind=5
      · have hmost:mostS p n=2*n:=by unfold mostS; rw [if_neg h4,if_pos h5]
        have hm2:m=2*n:=by omega
        have hf:=free_le (m:=m) hp hn hT h5 (by omega) (fun k hk=>by have:=hgo k hk; simpa [h5] using this) n (by omega)
        apply hL
        have e:(cntN n fun i=>if p.Kind=5 then freeG (GS p T n m) i else (GS p T n m i).2.2)=cntN n (freeG (GS p T n m)):=cntN_congr fun i _=>if_pos h5
        rw [h0,e,hm2]; omega
      · have hmost:mostS p n=n+1:=by unfold mostS; rw [if_neg h4,if_neg h5]
        obtain ⟨v,hv,ho⟩:=cntN_some (hgo n (by omega))
        rw [if_neg h5] at ho
        have:=on_le hp hn hT (by omega) hv ho
        omega
  rw [if_neg hm] at hat
  by_cases hs:(stepS p T (seqS p T m) ((m:Int)+1)).2≠0
  · rw [if_pos hs] at hat
    by_cases h4:p.Kind=4
    · exact .inr ⟨h4,hat.symm⟩
    · exfalso
      apply hs
      rw [seq_seg hp hn fun j hj=>E.lt j hj,step_fine hp hn hT h4]
  · rw [if_neg hs] at hat; exact absurd hat.symm E.ne
theorem ins1_src {k:Key} {v:Wide}:∀ {l:List (Key×Wide)} {p:Key×Wide},p∈ins 1 k v l→p=(k,v)∨p∈l
  | [],p,h=>by simp [ins] at h; exact .inl h
  | q :: l,p,h=>by
    unfold ins at h
    split at h
    · rcases List.mem_cons.1 h with rfl | h
      · exact .inr (by simp)
      · rcases ins1_src h with h | h
        · exact .inl h
        · exact .inr (by simp [h])
    · split at h
      · rename_i hk
        rcases List.mem_cons.1 h with rfl | h
        · unfold addW
          rw [if_pos (.inl rfl)]
          split
          · right
            obtain ⟨q1,q2⟩:=q
            simp only at hk
            subst hk; simp
          · exact .inl rfl
        · exact .inr (by simp [h])
      · rcases List.mem_cons.1 h with rfl | h
        · exact .inl rfl
        · exact .inr h
theorem SC1_src:∀ {ts:List (Key×Int)} {p:Key×Wide},p∈SC 1 ts→∃ t∈ts,p=(t.1,ofI t.2):=by
  suffices ∀ (ts:List (Key×Int)) (l:List (Key×Wide)) p,p∈ts.foldl (fun l t=>ins 1 t.1 (ofI t.2) l) l→(∃ t∈ts,p=(t.1,ofI t.2))∨p∈l from fun {ts p} h=>by
    rcases this ts [] p h with h | h
    · exact h
    · simp at h
  intro ts
  induction ts with
  | nil=>intro l p h; exact .inr h
  | cons t ts ih=>
    intro l p h
    rcases ih _ _ h with ⟨x,hx,e⟩ | hq
    · exact .inl ⟨x,by simp [hx],e⟩
    · rcases ins1_src hq with e2 | h2
      · exact .inl ⟨t,by simp,e2⟩
      · exact .inr h2
theorem canon_src {es:List Edge} (hv:∀ e∈es,inI e.W) {e:Edge} (he:e∈canonS es):e∈es:=by
  unfold canonS finS at he
  split at he
  · obtain ⟨p,hp,rfl⟩:=List.mem_map.1 he
    obtain ⟨t,ht,rfl⟩:=SC1_src hp
    obtain ⟨x,hx,rfl⟩:=List.mem_map.1 ht
    simp only [kvE]
    rw [nar_ofI (hv x hx)]
    exact hx
  · cases he
theorem graph_src {g:Graph} (hv:∀ e∈g.Edges,inI e.W) {t:Triple} (ht:t∈graphT g):∃ e∈g.Edges,t=⟨e.To,e.From,e.W⟩:=by
  unfold graphT finS at ht
  split at ht
  · obtain ⟨p,hp,rfl⟩:=List.mem_map.1 ht
    obtain ⟨q,hq,rfl⟩:=SC1_src hp
    obtain ⟨x,hx,rfl⟩:=List.mem_map.1 hq
    refine ⟨x,hx,?_⟩
    simp only [kvF]
    rw [nar_ofI (hv x hx)]
    rfl
  · cases ht
def goodE (n:Int) (es:List Edge):Prop:=∀ e∈es,inE n e∧wOk e
theorem goodE_in {n:Int} {es:List Edge} (h:goodE n es):∀ e∈es,inI e.W:=fun e he=>by have:=(h e he).2; unfold wOk at this; unfold inI; omega
theorem goodE_canon {n:Int} {es:List Edge} (h:goodE n es):goodE n (canonS es):=fun e he=>h e (canon_src (goodE_in h) he)
theorem goodE_one {n:Int} {es:List Edge} (h:goodE n es):goodE n (es.map oneE):=fun e he=>by
  obtain ⟨x,hx,rfl⟩:=List.mem_map.1 he
  exact ⟨(h x hx).1,by unfold wOk oneE; simp⟩
theorem goodE_flip {n:Int} {es:List Edge} (h:goodE n es):goodE n (es.map flipE):=fun e he=>by
  obtain ⟨x,hx,rfl⟩:=List.mem_map.1 he
  have:=h x hx
  exact ⟨⟨this.1.2,this.1.1⟩,this.2⟩
theorem goodE_app {n:Int} {xs ys:List Edge} (h:goodE n xs) (h':goodE n ys):goodE n (xs++ys):=fun e he=>by
  rcases List.mem_append.1 he with h1 | h1
  · exact h e h1
  · exact h' e h1
theorem right_good {g:Graph} (h:rightG g=0):goodE g.N g.Edges:=fun e he=>⟨(rightG_zero h).2.2.2.1 e he,(rightG_zero h).2.2.2.2 e he⟩
theorem good_right {g:Graph} (h0:0≤g.N∧g.N≤4096) (hl:g.Edges.length≤65536) (h:goodE g.N g.Edges):rightG g=0:=by
  unfold rightG
  rw [if_neg (by omega),if_neg (by omega),if_neg (fun h'=>h' fun e he=>(h e he).1),if_neg (fun h'=>h' fun e he=>(h e he).2)]
def noL (es:List Edge):Prop:=∀ e∈es,e.From≠e.To
def namG (p:Plan) (g:Graph):Graph:=if p.Kind=5 then plainG (bothG (simpG g)) else if p.Kind=3 then plainG (bothG g) else if p.Kind=1 then plainG g else g
theorem plain_good {g:Graph} (h:goodE g.N g.Edges):goodE (plainG g).N (plainG g).Edges∧(plainG g).Edges.length≤g.Edges.length∧(noL g.Edges→noL (plainG g).Edges):=by
  refine ⟨goodE_canon (goodE_one h),?_,fun hn e he=>?_⟩
  · have:=canon_len (goodE_in (goodE_one h)); rwa [List.length_map] at this
  · have:=canon_src (goodE_in (goodE_one h)) he
    obtain ⟨x,hx,rfl⟩:=List.mem_map.1 this
    exact hn x hx
theorem both_good {g:Graph} (h:goodE g.N g.Edges):goodE (bothG g).N (bothG g).Edges∧(bothG g).Edges.length≤2*g.Edges.length∧(noL g.Edges→noL (bothG g).Edges):=by
  have ht:goodE g.N (turnG g).Edges:=goodE_canon (goodE_flip h)
  have ha:=goodE_app h ht
  refine ⟨goodE_canon ha,?_,fun hn e he=>?_⟩
  · have h1:=canon_len (goodE_in ha)
    have h2:=canon_len (goodE_in (goodE_flip h))
    rw [List.length_append] at h1
    rw [List.length_map] at h2
    have:(turnG g).Edges.length≤g.Edges.length:=h2
    show (canonS _).length≤_
    omega
  · rcases List.mem_append.1 (canon_src (goodE_in ha) he) with h1 | h1
    · exact hn e h1
    · obtain ⟨x,hx,rfl⟩:=List.mem_map.1 (canon_src (goodE_in (goodE_flip h)) h1)
      exact fun e=>hn x hx e.symm
theorem simp_good {g:Graph} (h:goodE g.N g.Edges):goodE (simpG g).N (simpG g).Edges∧(simpG g).Edges.length≤g.Edges.length∧noL (simpG g).Edges:=by
  have hf:goodE g.N (g.Edges.filter notLoop):=fun e he=>h e (List.mem_filter.1 he).1
  refine ⟨goodE_canon hf,?_,fun e he=>?_⟩
  · have h1:=canon_len (goodE_in hf)
    have h2:=List.length_filter_le notLoop g.Edges
    show (canonS _).length≤_
    omega
  · have:=(List.mem_filter.1 (canon_src (goodE_in hf) he)).2
    unfold notLoop at this
    simpa using this
theorem nam_good {p:Plan} {g:Graph} (h:goodE g.N g.Edges):(namG p g).N=g.N∧goodE g.N (namG p g).Edges∧(namG p g).Edges.length≤2*g.Edges.length∧(p.Kind=5→noL (namG p g).Edges):=by
  unfold namG
  have hs:=simp_good h
  have hb:=both_good h
  have hsb:=both_good hs.1
  have hp:=plain_good h
  have hbp:=plain_good hb.1
  have hsp:=plain_good hsb.1
  by_cases h5:p.Kind=5
  · rw [if_pos h5]
    exact ⟨rfl,hsp.1,by have:=hsp.2.1; have:=hsb.2.1; have:=hs.2.1; omega,fun _=>hsp.2.2 (hsb.2.2 hs.2.2)⟩
  · rw [if_neg h5]
    by_cases h3:p.Kind=3
    · rw [if_pos h3]; exact ⟨rfl,hbp.1,by have:=hbp.2.1; have:=hb.2.1; omega,fun h=>absurd h h5⟩
    · rw [if_neg h3]
      by_cases h1:p.Kind=1
      · rw [if_pos h1]; exact ⟨rfl,hp.1,by have:=hp.2.1; omega,fun h=>absurd h h5⟩
      · rw [if_neg h1]; exact ⟨rfl,h,by omega,fun h=>absurd h h5⟩
theorem mat_is {p:Plan} {g:Graph} (hp:rightPl p=0) (hn:g.N=p.N) (hg:rightG g=0) (hl:g.Edges.length≤30000):matS p g=(builtS p.N p.N (graphT (namG p g)),0)∧rightG (namG p g)=0:=by
  have hz:=rightG_zero hg
  have hgd:=nam_good (p:=p) (right_good hg)
  have hr:rightG (namG p g)=0:=good_right (by omega) (by omega) (by rw [hgd.1]; exact hgd.2.1)
  refine ⟨?_,hr⟩
  unfold matS
  rw [if_neg (fun h=>h hp),if_neg (fun h=>h hn),if_neg (fun h=>h hg)]
  show graphS (namG p g)=_
  unfold graphS
  rw [if_pos hr,hgd.1,hn]
theorem mat_P {p:Plan} {g:Graph} {n:Nat} (hp:rightPl p=0) (hn:g.N=p.N) (hN:p.N=n) (hg:rightG g=0) (hl:g.Edges.length≤30000):MatP p n (graphT (namG p g)):=by
  have hgd:=nam_good (p:=p) (right_good hg)
  have hr:=(mat_is hp hn hg hl).2
  have hc:=graph_canon hr
  rw [hgd.1,hn,hN] at hc
  refine ⟨hc,fun t ht=>?_,fun t ht=>?_,fun hk t ht=>?_⟩
  · obtain ⟨e,he,rfl⟩:=graph_src (goodE_in hgd.2.1) ht
    exact (hgd.2.1 e he).2.1
  · obtain ⟨e,he,rfl⟩:=graph_src (goodE_in hgd.2.1) ht
    exact goodE_in hgd.2.1 e he
  · obtain ⟨e,he,rfl⟩:=graph_src (goodE_in hgd.2.1) ht
    exact fun h=>hgd.2.2.2 hk e he h.symm
theorem sumsR_P {r rows cols:Int} {T:List Triple} {v:Vec} {f:List Int} {o:Bool} (h:rows≤4096):(sumsR r rows cols T v f o).1.length≤4096∧okS (sumsR r rows cols T v f o).1:=by
  unfold sumsR
  repeat' split
  · exact ⟨by simp,by simp [okS]⟩
  · exact ⟨by simp,by simp [okS]⟩
  · have hp:=sumsS_prop r cols.toNat f o (fun i=>lkI (rowI T i)) (lkI v.Items) rows.toNat
    exact ⟨by have:=hp.2.1; simp only; omega,hp.2.2.1⟩
theorem pull_Times_ok {r rows cols:Int} {T:List Triple} {v:Vec} {f:List Int} {o:Bool} {Q:Vec×Int→Prop} (h:Canon rows cols T) (hT:∀ t∈T,inI t.Val) (hv:VecP v) (hvv:∀ y∈v.Items,inI y.Val)
    (hf:okF f) (hQ:Q (if (sumsR r rows cols T v f o).2≠0 then (zV,(sumsR r rows cols T v f o).2) else doneS r rows (sumsR r rows cols T v f o).1)):pull_Times r (builtS rows cols T) (denS v) f o Q:=by
  unfold pull_Times
  have hp:=sumsR_P (r:=r) (cols:=cols) (T:=T) (v:=v) (f:=f) (o:=o) h.r1
  refine pull_Sums_ok h hT hv hvv hf (ifP_ne (fun hne=>?_) (fun he=>?_))
  · rw [if_pos hne] at hQ; exact hQ
  · rw [if_neg (fun h=>h he)] at hQ
    exact pull_sure_ok h hv (pull_Done_ok (by omega) hp.2 hQ)
theorem ask_okF (p:Plan) (s:State):okF (askS p s).1:=by
  unfold askS
  repeat' split
  · exact (ofF_prop _ _).1
  · exact (ofF_prop _ _).1
  · simp [okF]
theorem at0_inI {l:List Int} (h:∀ x∈l,inI x) (i:Nat):inI (at0 l i):=by
  by_cases hl:i<l.length
  · have:at0 l i=l[i]:=by unfold at0; simp [hl]
    rw [this]; exact h _ (List.getElem_mem hl)
  · rw [at0_over (by omega)]; unfold inI; omega
theorem Whole.out {p:Plan} {s:State} (h:Whole p s) (round:Int):VecP (outVS p s round)∧(∀ y∈(outVS p s round).Items,inI y.Val)∧(outVS p s round).N=p.N:=by
  have hz:=rightPl_zero h.st.1
  have e:((sizN s:Nat):Int)=s.High - s.Low:=by unfold sizN; have:=h.lo; have:=h.hi; omega
  have hlo:=h.lo; have hhi:=h.hi
  unfold outVS
  rw [h.sure]
  refine ⟨?_,fun y hy=>?_,by simp only; omega⟩
  · have:=out_vecP (n:=sizN s) (by omega) (tellsS p s round)
    rw [e] at this; exact this
  · obtain ⟨i,hi,he⟩:=List.mem_filterMap.1 (show y∈outI _ _ from hy)
    have hi:=List.mem_range.1 hi
    split at he
    · cases he
      have ha:=at0_inI h.va i
      show inI (tellsS p s round i).1
      unfold tellsS
      repeat' split
      · unfold inI; simp only; omega
      · unfold inI; simp only; omega
      · have hd:0≤dnum p round (s.Low+i)∧dnum p round (s.Low+i)≤17592186044416:=by
          unfold dnum numS
          split
          · have:=dv_in hz.2.2.2.2.2 ((round - 1) / 2*p.N+(s.Low+i)); omega
          · omega
        unfold inI; simp only; omega
      · exact ha
    · cases he
theorem Whole.ask {p:Plan} {s:State} {round:Int} {Q:List Int×Bool→Prop} (h:Whole p s) (hQ:Q (askS p s)):prog_Asked p s round Q:=prog_Asked_ok h.ok (by rw [h.sure]; exact hQ)
theorem whole_ok {p:Plan} {s:State} {Q:Bool→Prop} (h:Whole p s) (hQ:Q true):model_whole p s Q:=by
  unfold model_whole
  have ho:=h.out 1
  have hz:=rightPl_zero h.st.1
  have e:sizN s=p.N.toNat:=by unfold sizN; have:=h.lo; have:=h.hi; omega
  have hal:=h.st.2.2.2.2.1; have hbl:=h.st.2.2.2.2.2.1; have hr:=h.st.2.2.2.2.2.2
  rw [h.hi,h.lo,Int.sub_zero] at hr
  refine ifP_pos (by simp [h.lo]) (ifP_pos (by simp [h.hi]) (prog_Out_ok h.ok (by omega) (ifP_pos (by simpa using ho.2.2) (ifP_pos ?_ (ifP_pos ?_ (flags_Right_ok h.ok.1 h.ok.2 ?_))))))
  · simp only [beq_iff_eq]; omega
  · simp only [beq_iff_eq]; omega
  · rw [decide_eq_true hr]; exact hQ
theorem model_Step_ok {p:Plan} {T:List Triple} {s:State} {round:Int} {Q:State×Int→Prop} (hp:rightPl p=0) (h:Canon p.N p.N T) (hT:∀ t∈T,inI t.Val) (hs:Whole p s) (hr:0≤round∧round≤1000000) (hQ:Q (stepS p T s round)):model_Step p (builtS p.N p.N T) s round Q:=by
  unfold model_Step
  have ho:=hs.out round
  refine prog_Right_ok (ifP_neg (by simp [hp]) ?_)
  refine join_intro (fun t=>(⟨t.1,t.2.1,t.2.2.1,t.2.2.2.1,t.2.2.2.2⟩:Rows)=builtS p.N p.N T) ?_ ?_
  · rintro ⟨t1,t2,t3,t4,t5⟩ ht
    simp only at ht ⊢
    have e1:t1=p.N:=congrArg Rows.Rows ht
    have e2:t2=p.N:=congrArg Rows.Cols ht
    rw [ht]
    refine ifP_neg (by simp [e1]) (ifP_neg (by simp [e2]) (whole_ok hs (ifP_neg rfl (hs.ask (prog_Ring_ok (prog_Out_ok hs.ok hr (devec_Of_ok (by have:=ho.1.len; omega) ?_)))))))
    rw [sureV_id ho.1]
    refine pull_Times_ok h hT ho.1 ho.2.1 (ask_okF p s) ?_
    unfold stepS at hQ
    change Q (if (stepY p T s round).2≠0 then _ else _) at hQ
    have hyl:(stepY p T s round).1.Items.length≤1000000:=by
      unfold stepY
      have hsp:=sumsR_P (r:=ringPl p.Kind round) (cols:=p.N) (T:=T) (v:=outVS p s round) (f:=(askS p s).1) (o:=(askS p s).2) h.r1
      split
      · simp [zV]
      · unfold doneS
        repeat' split
        · simp [zV]
        · simp [zV]
        · simp [zV]
        · simp [zV]
        · have:=List.length_filterMap_le (nzI (ringPl p.Kind round)) (stepX p T s round).1
          unfold stepX at this ⊢
          simp only; omega
    show ifP ((stepY p T s round).2 != 0) _ _
    refine ifP_ne (fun hne=>?_) (fun he=>?_)
    · rw [if_pos hne] at hQ; exact hQ
    · rw [if_neg (fun h=>h he)] at hQ
      exact prog_Update_ok hs.ok hr hyl hQ
  · intro k hk
    refine right_ok h.sml ?_
    rw [decide_eq_true h.right]
    exact ifP_neg rfl (hk _ rfl)
def checkS (p:Plan) (g:Graph) (limit:Int):Int:=if (matS p g).2≠0 then (matS p g).2 else if limit<0∨8192<limit then 3 else 0
theorem model_Check_ok {p:Plan} {g:Graph} {limit:Int} {Q:Int→Prop} (hQ:Q (checkS p g limit)):model_Check p g limit Q:=by
  unfold model_Check
  unfold checkS at hQ
  refine prog_Matrix_ok (ifP_ne (fun h=>by rwa [if_pos h] at hQ) (fun h=>?_))
  rw [if_neg (fun h'=>h' h)] at hQ
  exact ifP_dec (fun h1=>by rwa [if_pos (.inl h1)] at hQ) (fun h1=>ifP_dec (fun h2=>by rwa [if_pos (.inr h2)] at hQ) (fun h2=>by rwa [if_neg (by omega)] at hQ))
theorem ends_loop {S:Type} {p:Plan} {T:List Triple} {limit:Int} {n:Nat} {st:Int} (hp:rightPl p=0) (hl:0≤limit∧limit≤8192) (E:Ends p T limit n st) {body:S→(S→Prop)→Prop} {enc:Nat→S}
    (hgo:∀ k next,k<n→Whole p (seqS p T k)→liveS p (seqS p T k) k≠0→(k:Int)≠limit→stepS p T (seqS p T k) ((k:Int)+1)=(seqS p T (k+1),0)→next (enc (k+1))→body (enc k) next)
    (hend:∀ next,Whole p (seqS p T n)→stopS p T limit n=st→body (enc n) next):loopP body (enc 0):=by
  refine range_intro (fun (s:Unit) i=>enc i.toNat) 0 n (by have:=E.le; omega) (fun _ _=>True) (by omega) (s0:=()) trivial (fun i s next _ hi _ hn=>?_) (fun s next _=>?_)
  · have hg:=stop_go (E.lt i hi)
    have hw:=seq_whole hp hl (k:=i) fun j hj=>E.lt j (by omega)
    have hn:=hn () trivial
    have e:(w64 ((i:Int)+1)).toNat=i+1:=by rw [w64_id (by omega) (by have:=E.le; omega)]; omega
    simp only [e] at hn
    simp only [Int.toNat_natCast]
    refine hgo i next hi hw hg.1 hg.2.1 ?_ hn
    have:(stepS p T (seqS p T i) ((i:Int)+1)).1=seqS p T (i+1):=rfl
    rw [←this,←hg.2.2]
  · simp only [Int.toNat_natCast]
    exact hend next (seq_whole hp hl (k:=n) fun j hj=>E.lt j hj) E.at_
def lastS (p:Plan) (T:List Triple) (n:Nat) (st:Int):Result:=⟨st,n,seqS p T n⟩
def listS (p:Plan) (T:List Triple) (n:Nat):List State:=(List.range (n+1)).map (seqS p T)
theorem listS_len (p:Plan) (T:List Triple) (n:Nat):(listS p T n).length=n+1:=by simp [listS]
theorem stop_is {p:Plan} {T:List Triple} {limit:Int} {k:Nat} {st:Int} (hs:st≠0) (h:stopS p T limit k=st):(liveS p (seqS p T k) k=0∧st=1)∨(liveS p (seqS p T k) k≠0∧(k:Int)=limit∧st=2)∨(liveS p (seqS p T k) k≠0∧(k:Int)≠limit∧(stepS p T (seqS p T k) ((k:Int)+1)).2≠0∧st=3):=by
  unfold stopS at h
  split at h
  · rename_i h1; exact .inl ⟨h1,h.symm⟩
  · split at h
    · rename_i h1 h2; exact .inr (.inl ⟨h1,h2,h.symm⟩)
    · split at h
      · rename_i h1 h2 h3; exact .inr (.inr ⟨h1,h2,h3,h.symm⟩)
      · exact absurd h.symm hs
structure MRun (p:Plan) (g:Graph) (limit:Int) (T:List Triple) (n:Nat) (st:Int):Prop where
  rp:rightPl p=0
  cn:Canon p.N p.N T
  vs:∀ t∈T,inI t.Val
  mt:matS p g=(builtS p.N p.N T,0)
  lm:0≤limit∧limit≤8192
  en:Ends p T limit n st
theorem MRun.check {p:Plan} {g:Graph} {limit:Int} {T:List Triple} {n:Nat} {st:Int} (R:MRun p g limit T n st):checkS p g limit=0:=by
  unfold checkS
  rw [R.mt,if_neg (by simp),if_neg (by have:=R.lm; omega)]
theorem model_Run_bad {p:Plan} {g:Graph} {limit:Int} {Q:Result×Int→Prop} (h:checkS p g limit≠0) (hQ:Q (⟨0,0,zSt⟩,checkS p g limit)):model_Run p g limit Q:=by
  unfold model_Run
  exact model_Check_ok (ifP_pos (by simpa using h) hQ)
theorem model_Run_ok {p:Plan} {g:Graph} {limit:Int} {T:List Triple} {n:Nat} {st:Int} {Q:Result×Int→Prop} (R:MRun p g limit T n st) (hQ:Q (lastS p T n st,0)):model_Run p g limit Q:=by
  unfold model_Run
  refine model_Check_ok (ifP_neg (by simp [R.check]) ?_)
  obtain ⟨hp,hc,hT,hm,hl,E⟩:=R
  unfold model_states_18b model_states_1_e9c
  refine prog_Matrix_ok ?_
  rw [hm]
  refine prog_Begin_ok ?_
  show loopP _ ((0:Int),(-1:Int),(0:Int),(0:Int),([]:List Int),([]:List Int),([]:List Int),(seqS p T 0).Low,(seqS p T 0).High,(seqS p T 0).A,(seqS p T 0).B,(seqS p T 0).On,(0:Int),(0:Nat))
  let prev:Nat→State:=fun k=>match k with | 0=>zSt | k+1=>seqS p T k
  refine ends_loop (S:=Int×Int×Int×Int×List Int×List Int×List Int×Int×Int×List Int×List Int×List Int×Int×Nat) hp hl E (enc:=fun k=>(0,(k:Int) - 1,(prev k).Low,(prev k).High,(prev k).A,(prev k).B,(prev k).On,(seqS p T k).Low,(seqS p T k).High,(seqS p T k).A,(seqS p T k).B,(seqS p T k).On,(k:Int),0)) (fun k next hk hw hv hl' hst hn=>?_) (fun next hw hst=>?_)
  · have hkl:(k:Int)≤8192:=by have:=E.le; omega
    have ew:w64 ((k:Int) - 1+1)=k:=by rw [w64_id (by omega) (by omega)]; omega
    have ew2:w64 ((k:Int)+1)=(k+1:Nat):=by rw [w64_id (by omega) (by omega)]; omega
    dsimp only
    refine ⟨rfl,ifP_pos rfl (prog_Live_ok hw.ok (ifP_neg (by simpa using hv) (ifP_neg (by simpa using hl') ?_)))⟩
    rw [ew2]
    refine model_Step_ok hp hc hT hw (by omega) ?_
    have:((k+1:Nat):Int)=(k:Int)+1:=by omega
    rw [this,hst]
    refine ifP_neg rfl ?_
    have hn':=hn
    simp only [this] at hn'
    rw [ew]
    simpa [prev] using hn'
  · have hkl:(n:Int)≤8192:=by have:=E.le; omega
    have ew:w64 ((n:Int) - 1+1)=n:=by rw [w64_id (by omega) (by omega)]; omega
    have ew2:w64 ((n:Int)+1)=(n:Int)+1:=w64_id (by omega) (by omega)
    dsimp only
    rw [ew,ew2]
    refine ⟨rfl,ifP_pos rfl (prog_Live_ok hw.ok ?_)⟩
    rcases stop_is E.ne hst with ⟨h1,rfl⟩ | ⟨h1,h2,rfl⟩ | ⟨h1,h2,h3,rfl⟩
    · exact ifP_pos (by simpa using h1) ⟨rfl,hQ⟩
    · exact ifP_neg (by simpa using h1) (ifP_pos (by simpa using h2) ⟨rfl,hQ⟩)
    · exact ifP_neg (by simpa using h1) (ifP_neg (by simpa using h2) (model_Step_ok hp hc hT hw (by omega) (ifP_pos (by simpa using h3) ⟨rfl,hQ⟩)))
theorem model_Trace_ok {p:Plan} {g:Graph} {limit:Int} {T:List Triple} {n:Nat} {st:Int} {Q:List State×Int→Prop} (R:MRun p g limit T n st) (hQ:Q (listS p T n,0)):model_Trace p g limit Q:=by
  unfold model_Trace
  refine model_Check_ok (ifP_neg (by simp [R.check]) ?_)
  obtain ⟨hp,hc,hT,hm,hl,E⟩:=R
  unfold model_states_5ef slices_Collect_api_State_f8c slices_AppendSeq_api_State_api_State_f00 model_states_1_589
  refine prog_Matrix_ok ?_
  rw [hm]
  refine prog_Begin_ok ?_
  show loopP _ (([]:List State),(seqS p T 0).Low,(seqS p T 0).High,(seqS p T 0).A,(seqS p T 0).B,(seqS p T 0).On,(0:Int),(0:Nat))
  refine ends_loop (S:=List State×Int×Int×List Int×List Int×List Int×Int×Nat) hp hl E (enc:=fun k=>((List.range k).map (seqS p T),(seqS p T k).Low,(seqS p T k).High,(seqS p T k).A,(seqS p T k).B,(seqS p T k).On,(k:Int),0)) (fun k next hk hw hv hl' hst hn=>?_) (fun next hw hst=>?_)
  · have hkl:(k:Int)≤8192:=by have:=E.le; omega
    have ew2:w64 ((k:Int)+1)=(k+1:Nat):=by rw [w64_id (by omega) (by omega)]; omega
    dsimp only
    refine ⟨rfl,appP_intro (by simp; omega) (ifP_pos rfl (prog_Live_ok hw.ok (ifP_neg (by simpa using hv) (ifP_neg (by simpa using hl') ?_))))⟩
    rw [ew2]
    refine model_Step_ok hp hc hT hw (by omega) ?_
    have:((k+1:Nat):Int)=(k:Int)+1:=by omega
    rw [this,hst]
    refine ifP_neg rfl ?_
    have hn':=hn
    rw [List.range_succ,List.map_append,this] at hn'
    exact hn'
  · have hkl:(n:Int)≤8192:=by have:=E.le; omega
    have ew2:w64 ((n:Int)+1)=(n:Int)+1:=w64_id (by omega) (by omega)
    have el:(List.range n).map (seqS p T)++[seqS p T n]=listS p T n:=by unfold listS; rw [List.range_succ,List.map_append]; rfl
    dsimp only
    rw [ew2]
    refine ⟨rfl,appP_intro (by simp; omega) (ifP_pos rfl (prog_Live_ok hw.ok ?_))⟩
    show ifP (liveS p (seqS p T n) n==0) _ _
    simp only [show ({ Low:=(seqS p T n).Low,High:=(seqS p T n).High,A:=(seqS p T n).A,B:=(seqS p T n).B,On:=(seqS p T n).On }:State)=seqS p T n from rfl,el]
    rcases stop_is E.ne hst with ⟨h1,rfl⟩ | ⟨h1,h2,rfl⟩ | ⟨h1,h2,h3,rfl⟩
    · exact ifP_pos (by simpa using h1) ⟨rfl,hQ⟩
    · exact ifP_neg (by simpa using h1) (ifP_pos (by simpa using h2) ⟨rfl,hQ⟩)
    · exact ifP_neg (by simpa using h1) (ifP_neg (by simpa using h2) (model_Step_ok hp hc hT hw (by omega) (ifP_pos (by simpa using h3) ⟨rfl,hQ⟩)))
end Go.Proofs.YtccpfgdefibdnaaGreat
