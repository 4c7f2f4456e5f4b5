import Derived.Test.YtaefnmlbnkmahaaGreatPlnH
namespace Go.Proofs.YtaefnmlbnkmahaaGreat
open Go Go.Fw
set_option linter.unusedVariables false
set_option linter.unusedSimpArgs false
def stepX (p:Plan) (T:List Triple) (s:State) (round:Int):List Sum×Int:=sumsR (ringPl p.Kind round) p.N p.N T (outVS p s round) (askS p s).1 (askS p s).2
def stepY (p:Plan) (T:List Triple) (s:State) (round:Int):Vec×Int:=if (stepX p T s round).2≠0 then (zV,(stepX p T s round).2) else doneS (ringPl p.Kind round) p.N (stepX p T s round).1
def stepS (p:Plan) (T:List Triple) (s:State) (round:Int):State×Int:=if (stepY p T s round).2≠0 then (zSt,(stepY p T s round).2) else (updS p s round (stepY p T s round).1,0)
structure Whole (p:Plan) (s:State):Prop where
  st:StP p s
  ok:okSt s
  lo:s.Low=0
  hi:s.High=p.N
  va:∀ x∈s.A,inI x
theorem Whole.sure {p:Plan} {s:State} (h:Whole p s):sureSt p s=s:=if_pos h.st
theorem begin_whole {p:Plan} (hp:rightPl p=0):Whole p (beginS p 0 p.N):=by
  have hn:=(rightPl_zero hp).2.1
  have h:=begin_St (p:=p) (low:=0) (high:=p.N) hp (by omega) (by omega) (by omega)
  refine ⟨h.1,h.2,?_,?_,?_⟩
  · unfold beginS; rw [if_pos ⟨hp,by omega,by omega,by omega⟩]; rfl
  · unfold beginS; rw [if_pos ⟨hp,by omega,by omega,by omega⟩]; rfl
  · unfold beginS; rw [if_pos ⟨hp,by omega,by omega,by omega⟩]
    intro x hx
    obtain ⟨i,hi,rfl⟩:=List.mem_map.1 (show x∈mapN _ _ from hx)
    have hi:=List.mem_range.1 hi
    simp only
    unfold firstS infI inI
    repeat' split
    all_goals (simp only; omega)
theorem getO_inI {o:Option Int} (h:∀ y,o=some y→inI y):inI (getO o).1:=by
  cases o with
  | none=>unfold inI getO; simp
  | some y=>exact h y rfl
theorem Whole.upd {p:Plan} {s:State} (h:Whole p s) {round:Int} (hr:0≤round∧round≤1000000) {y:Vec} (hy:∀ x∈y.Items,inI x.Val):Whole p (updS p s round y):=by
  have hu:=upd_St (round:=round) (y:=y) h.st h.ok
  refine ⟨hu.1,hu.2.1,hu.2.2.1.trans h.lo,hu.2.2.2.trans h.hi,?_⟩
  unfold updS
  rw [h.sure]
  split
  · intro x hx
    obtain ⟨i,hi,rfl⟩:=List.mem_map.1 (show x∈mapN _ _ from hx)
    have hi:=List.mem_range.1 hi
    have ha:inI (at0 s.A i):=by
      have hl:i<s.A.length:=by have:=h.st.2.2.2.2.1; omega
      have:at0 s.A i=s.A[i]:=by unfold at0; simp [hl]
      rw [this]; exact h.va _ (List.getElem_mem hl)
    have hg:inI (getO (lkI y.Items i)).1:=getO_inI fun z hz=>hy _ (lkI_mem hz)
    have hrd:inI round:=by unfold inI; omega
    show inI (behS p s round i (lkI y.Items i)).1
    unfold behS
    simp only
    repeat' split
    all_goals first | assumption | (unfold inI; omega)
  · exact h.va
theorem done_inI {r n:Int} {l:List Sum}:∀ x∈(doneS r n l).1.Items,inI x.Val:=by
  unfold doneS
  repeat' split
  all_goals first | (intro x hx; cases hx; done) | skip
  intro x hx
  obtain ⟨s,hs,he⟩:=List.mem_filterMap.1 hx
  unfold nzI at he
  split at he
  · cases he; exact nar_inI _
  · cases he
theorem stepY_inI {p:Plan} {T:List Triple} {s:State} {round:Int}:∀ x∈(stepY p T s round).1.Items,inI x.Val:=by
  unfold stepY
  split
  · intro x hx; cases hx
  · exact done_inI
def seqS (p:Plan) (T:List Triple):Nat→State
  | 0=>beginS p 0 p.N
  | k+1=>(stepS p T (seqS p T k) ((k:Int)+1)).1
def stopS (p:Plan) (T:List Triple) (limit:Int) (k:Nat):Int:=if liveS p (seqS p T k) k=0 then 1 else if (k:Int)=limit then 2 else if (stepS p T (seqS p T k) ((k:Int)+1)).2≠0 then 3 else 0
theorem first_ex {P:Nat→Prop}:∀ m:Nat,P m→∃ n,n≤m∧(∀ k,k<n→¬P k)∧P n
  | 0,h=>⟨0,Nat.le_refl _,fun k hk=>by omega,h⟩
  | m+1,h=>by
    by_cases h':∃ j,j≤m∧P j
    · obtain ⟨j,hj,hp⟩:=h'
      obtain ⟨n,h1,h2,h3⟩:=first_ex j hp
      exact ⟨n,by omega,h2,h3⟩
    · exact ⟨m+1,Nat.le_refl _,fun k hk hp=>h' ⟨k,by omega,hp⟩,h⟩
termination_by m=>m
decreasing_by omega
structure Ends (p:Plan) (T:List Triple) (limit:Int) (n:Nat) (st:Int):Prop where
  le:(n:Int)≤limit
  lt:∀ k,k<n→stopS p T limit k=0
  at_:stopS p T limit n=st
  ne:st≠0
theorem ends_ex (p:Plan) (T:List Triple) {limit:Int} (h:0≤limit):∃ n st,Ends p T limit n st:=by
  obtain ⟨n,h1,h2,h3⟩:=first_ex (P:=fun k=>stopS p T limit k≠0) limit.toNat (by
    unfold stopS
    split
    · simp
    · rw [if_pos (by omega)]; simp)
  exact ⟨n,_,by omega,fun k hk=>Decidable.of_not_not (h2 k hk),rfl,h3⟩
theorem stop_go {p:Plan} {T:List Triple} {limit:Int} {k:Nat} (h:stopS p T limit k=0):liveS p (seqS p T k) k≠0∧(k:Int)≠limit∧(stepS p T (seqS p T k) ((k:Int)+1)).2=0:=by
  unfold stopS at h
  split at h
  · cases h
  · split at h
    · cases h
    · split at h
      · cases h
      · rename_i h1 h2 h3
        exact ⟨h1,h2,Decidable.of_not_not h3⟩
theorem step_zero {p:Plan} {T:List Triple} {s:State} {round:Int} (h:(stepS p T s round).2=0):(stepY p T s round).2=0∧stepS p T s round=(updS p s round (stepY p T s round).1,0):=by
  unfold stepS at h ⊢
  by_cases h0:(stepY p T s round).2≠0
  · rw [if_pos h0] at h; exact absurd h h0
  · rw [if_neg h0]; exact ⟨Decidable.of_not_not h0,rfl⟩
theorem seq_le {p:Plan} {T:List Triple} {limit:Int} (hl:0≤limit):∀ {k:Nat},(∀ j,j<k→stopS p T limit j=0)→(k:Int)≤limit
  | 0,_=>hl
  | k+1,h=>by
    have ih:=seq_le (k:=k) hl fun j hj=>h j (by omega)
    have:=stop_go (h k (by omega))
    omega
theorem seq_whole {p:Plan} {T:List Triple} {limit:Int} (hp:rightPl p=0) (hl:0≤limit∧limit≤8192):∀ {k:Nat},(∀ j,j<k→stopS p T limit j=0)→Whole p (seqS p T k)
  | 0,_=>begin_whole hp
  | k+1,h=>by
    have ih:=seq_whole (k:=k) hp hl fun j hj=>h j (by omega)
    have hk:=seq_le hl.1 h
    have:=stop_go (h k (by omega))
    have e:=(step_zero this.2.2).2
    show Whole p (stepS p T (seqS p T k) ((k:Int)+1)).1
    rw [e]
    exact ih.upd (by omega) stepY_inI
def nzW (r:Int) (w:Wide):Option Int:=if (narS w).1≠zS r then some (narS w).1 else none
def askG (p:Plan) (g:Int×Int×Bool):Bool:=if p.Kind=1 then g.1 == -1 else if p.Kind=5 then g.1==0 else true
def rowG (p:Plan) (T:List Triple) (n:Nat) (round:Int) (G:GV) (v:Nat):Option Wide:=rowW (ringPl p.Kind round) n (lkI (rowI T v)) (lkI (outI n fun i=>tellG p round i (G i)))
def hearG (p:Plan) (T:List Triple) (n:Nat) (round:Int) (G:GV) (v:Nat):Option Int:=if askG p (G v)=true then (rowG p T n round G v).bind (nzW (ringPl p.Kind round)) else none
theorem nz_at {r:Int} {s:Sum} {x:Item} (h:nzI r s=some x):x.At=s.At:=by
  unfold nzI at h
  split at h
  · cases h; rfl
  · cases h
theorem nz_lk {r:Int}:∀ {l:List Sum},Rise l→∀ i:Int,lkI (l.filterMap (nzI r)) i=(lk l i).bind (nzW r)
  | [],_,i=>rfl
  | s :: l,h,i=>by
    have hr:Rise l:=(List.pairwise_cons.1 h).2
    have hlt:=(List.pairwise_cons.1 h).1
    have ih:=nz_lk (r:=r) hr i
    rw [List.filterMap_cons,lk_cons]
    cases hn:nzI r s with
    | none=>
      rw [ih]
      by_cases e:i=s.At
      · rw [if_pos e,lk_none fun x hx=>by have:=hlt x hx; omega]
        simp only [Option.bind_none,Option.bind_some]
        unfold nzI at hn; unfold nzW
        split at hn
        · cases hn
        · rename_i h0; rw [if_neg h0]
      · rw [if_neg e]
    | some x=>
      rw [lkI_cons,nz_at hn,ih]
      by_cases e:i=s.At
      · rw [if_pos e,if_pos e]
        unfold nzI at hn; unfold nzW
        split at hn
        · rename_i h0; cases hn; simp only [Option.bind_some]; rw [if_pos h0]
        · cases hn
      · rw [if_neg e,if_neg e]
theorem nz_vecP {r n:Int} {l:List Sum} (hn:0≤n∧n≤4096) (h:Rise l) (hi:∀ s∈l,0≤s.At∧s.At<n):VecP ⟨n,l.filterMap (nzI r)⟩:=by
  refine ⟨hn.1,hn.2,?_,fun x hx=>?_⟩
  · refine List.Pairwise.filterMap _ (fun a b hab c hc d hd=>?_) h
    rw [nz_at hc,nz_at hd]; exact hab
  · obtain ⟨s,hs,he⟩:=List.mem_filterMap.1 hx
    rw [nz_at he]; exact hi s hs
theorem ringPl_b {p:Plan} (h:1≤p.Kind∧p.Kind≤5) (round:Int):1≤ringPl p.Kind round∧ringPl p.Kind round≤5:=by
  unfold ringPl
  repeat' split
  all_goals omega
theorem ask_seg {p:Plan} {n:Nat} {G:GV} (hn4:n≤4096) {i:Nat} (hi:i<n):askF (askS p (segV 0 n G)).1 (askS p (segV 0 n G)).2 i=askG p (G i):=by
  have e2:sizN (segV 0 n G)=n:=by show ((((0+n:Nat):Int)) - ((0:Nat):Int)).toNat=n; omega
  have e1:∀ j,j<n→at0 (segV 0 n G).A j=(G j).1:=fun j hj=>by
    have:at0 (segV 0 n G).A j=(G (0+j)).1:=mapN_at hj
    rwa [Nat.zero_add] at this
  unfold askS askG askF
  rw [e2]
  by_cases h1:p.Kind=1
  · rw [if_pos h1,if_pos h1]
    simp only
    rw [of_ons hi hn4,e1 i hi]
    simp
  · rw [if_neg h1,if_neg h1]
    by_cases h5:p.Kind=5
    · rw [if_pos h5,if_pos h5]
      simp only
      rw [of_ons hi hn4,e1 i hi]
      simp
    · rw [if_neg h5,if_neg h5]
      simp only
      rw [hasF_over (by simp)]
      rfl
theorem step_seg {p:Plan} {T:List Triple} {n:Nat} {G:GV} {round:Int} (hp:rightPl p=0) (hn:p.N=n) :
    ((∃ v w,v<n∧askG p (G v)=true∧rowG p T n round G v=some w∧(narS w).2=false)→stepS p T (segV 0 n G) round=(zSt,12)) ∧
    ((∀ v w,v<n→askG p (G v)=true→rowG p T n round G v=some w→(narS w).2=true)→stepS p T (segV 0 n G) round=(segV 0 n (nextG p round G (hearG p T n round G)),0)):=by
  have hpz:=rightPl_zero hp
  have hn4:n≤4096:=by have:=hpz.2.1; omega
  have hr:=ringPl_b hpz.1 round
  have hout:outVS p (segV 0 n G) round=⟨n,outI n fun i=>tellG p round i (G i)⟩:=by
    rw [out_seg hp (by omega)]
    congr 1
    exact outI_congr fun i _=>by rw [Nat.zero_add]
  have hx:stepX p T (segV 0 n G) round=(sumsS (ringPl p.Kind round) n n (askS p (segV 0 n G)).1 (askS p (segV 0 n G)).2 (fun i=>lkI (rowI T i)) (lkI (outI n fun i=>tellG p round i (G i))),0):=by
    unfold stepX sumsR
    rw [hout,if_neg (fun h=>h hr),if_neg (fun h=>h hn.symm),hn]
    simp
  have hsp:=sumsS_prop (ringPl p.Kind round) n (askS p (segV 0 n G)).1 (askS p (segV 0 n G)).2 (fun i=>lkI (rowI T i)) (lkI (outI n fun i=>tellG p round i (G i))) n
  generalize sumsS (ringPl p.Kind round) n n (askS p (segV 0 n G)).1 (askS p (segV 0 n G)).2 (fun i=>lkI (rowI T i)) (lkI (outI n fun i=>tellG p round i (G i)))=l at hx hsp
  obtain ⟨q1,q2,q3,q4,q5⟩:=hsp
  have hlk:∀ i:Nat,i<n→lk l i=if askG p (G i)=true then rowG p T n round G i else none:=by
    intro i hi
    rw [q5,ask_seg hn4 hi]
    by_cases ha:askG p (G i)=true
    · rw [if_pos ⟨by omega,by omega,ha⟩,if_pos ha]; rfl
    · rw [if_neg (fun h=>ha h.2.2),if_neg ha]
  have hy:stepY p T (segV 0 n G) round=if ∃ s∈l,(narS s.Val).2=false then (zV,12) else (⟨n,l.filterMap (nzI (ringPl p.Kind round))⟩,0):=by
    unfold stepY doneS
    rw [hx]
    simp only
    rw [if_neg (fun h=>h rfl),if_neg (fun h=>h hr),if_neg,if_neg (fun h=>h q1),hn]
    rintro (h | ⟨s,hs,h⟩)
    · exact h (by omega)
    · have:=q4 s hs; exact h (by omega)
  constructor
  · rintro ⟨v,w,hv,ha,hw,hb⟩
    have hm:(⟨(v:Int),w⟩:Sum)∈l:=lk_mem (by rw [hlk v hv,if_pos ha,hw])
    have:stepY p T (segV 0 n G) round=(zV,12):=by rw [hy,if_pos ⟨_,hm,hb⟩]
    unfold stepS
    rw [this,if_pos (by simp)]
  · intro hall
    have:stepY p T (segV 0 n G) round=(⟨n,l.filterMap (nzI (ringPl p.Kind round))⟩,0):=by
      rw [hy,if_neg]
      rintro ⟨s,hs,hb⟩
      have hin:=q4 s hs
      obtain ⟨v,hv⟩:∃ v:Nat,s.At=v:=⟨s.At.toNat,by omega⟩
      have h1:lk l v=some s.Val:=by rw [←hv]; exact mem_lk q1 hs
      have hv':v<n:=by omega
      rw [hlk v hv'] at h1
      split at h1
      · rename_i ha
        have:=hall v s.Val hv' ha h1
        rw [hb] at this; cases this
      · cases h1
    unfold stepS
    rw [this]
    simp only
    rw [if_neg (fun h=>h rfl),upd_seg (Y:=hearG p T n round G) hp (by omega) (nz_vecP ⟨by omega,by omega⟩ q1 q4) rfl]
    intro i hi
    simp only
    rw [nz_lk q1,hlk i hi,Nat.zero_add]
    unfold hearG
    split <;> rfl
theorem step_ok_iff {p:Plan} {T:List Triple} {n:Nat} {G:GV} {round:Int} (hp:rightPl p=0) (hn:p.N=n) (h:(stepS p T (segV 0 n G) round).2=0) :
    (∀ v w,v<n→askG p (G v)=true→rowG p T n round G v=some w→(narS w).2=true)∧stepS p T (segV 0 n G) round=(segV 0 n (nextG p round G (hearG p T n round G)),0):=by
  have hs:=step_seg (T:=T) (G:=G) (round:=round) hp hn
  have hall:∀ v w,v<n→askG p (G v)=true→rowG p T n round G v=some w→(narS w).2=true:=by
    intro v w hv ha hw
    cases hb:(narS w).2 with
    | true=>rfl
    | false=>rw [hs.1 ⟨v,w,hv,ha,hw,hb⟩] at h; cases h
  exact ⟨hall,hs.2 hall⟩
def GS (p:Plan) (T:List Triple) (n:Nat):Nat→GV
  | 0=>gV0 p
  | k+1=>nextG p ((k:Int)+1) (GS p T n k) (hearG p T n ((k:Int)+1) (GS p T n k))
theorem seq_seg {p:Plan} {T:List Triple} {limit:Int} {n:Nat} (hp:rightPl p=0) (hn:p.N=n):∀ {k:Nat},(∀ j,j<k→stopS p T limit j=0)→seqS p T k=segV 0 n (GS p T n k)
  | 0,_=>by
    show beginS p 0 p.N=segV 0 n (gV0 p)
    exact begin_seg hp rfl (by rw [hn]; omega) (by omega)
  | k+1,h=>by
    have ih:=seq_seg (k:=k) hp hn fun j hj=>h j (by omega)
    have:=(stop_go (h k (by omega))).2.2
    show (stepS p T (seqS p T k) ((k:Int)+1)).1=_
    rw [ih] at this ⊢
    rw [(step_ok_iff hp hn this).2]
    rfl
theorem outI_lk (f:Nat→Int×Bool) (j:Nat):∀ n:Nat,lkI (outI n f) (j:Int)=if j<n∧(f j).2=true then some (f j).1 else none
  | 0=>by rw [if_neg (by omega)]; rfl
  | n+1=>by
    rw [outI_succ]
    by_cases hn:(f n).2=true
    · rw [if_pos hn,lkI_append,outI_lk f j n,lkI_cons]
      by_cases e:j=n
      · subst e
        rw [if_neg (fun h=>by omega),if_pos rfl,if_pos ⟨by omega,hn⟩]
      · rw [if_neg (show ¬(j:Int)=(n:Int) by omega)]
        by_cases h:j<n∧(f j).2=true
        · rw [if_pos h,if_pos ⟨by omega,h.2⟩]
        · rw [if_neg h,if_neg (fun h'=>h ⟨by omega,h'.2⟩)]; rfl
    · rw [if_neg hn,outI_lk f j n]
      by_cases h:j<n∧(f j).2=true
      · rw [if_pos h,if_pos ⟨by omega,h.2⟩]
      · rw [if_neg h,if_neg]
        rintro ⟨h1,h2⟩
        by_cases e:j=n
        · subst e; exact hn h2
        · exact h ⟨by omega,h2⟩
theorem rowT_look {rows cols:Int} {T:List Triple} (h:Canon rows cols T) {i j a:Int} (hi:0≤i):lkI (rowI T i) j=some a↔(⟨i,j,a⟩:Triple)∈T:=by
  have hinc:IncI ((segS T i.toNat).map itS):=by
    unfold IncI segS
    rw [List.pairwise_map]
    refine List.Pairwise.imp_of_mem ?_ (List.Pairwise.filter _ h.srt)
    intro a b ha hb hab
    have h1:=of_decide_eq_true (List.mem_filter.1 ha).2
    have h2:=of_decide_eq_true (List.mem_filter.1 hb).2
    unfold ltK key at hab
    simp only [itS]
    simp only at hab
    omega
  unfold rowI
  rw [lkI_iff hinc,List.mem_map]
  unfold segS
  constructor
  · rintro ⟨t,ht,he⟩
    obtain ⟨h1,h2⟩:=List.mem_filter.1 ht
    have h3:=of_decide_eq_true h2
    unfold itS at he
    obtain ⟨tr,tc,tv⟩:=t
    simp only [Item.mk.injEq] at he h3
    obtain ⟨rfl,rfl⟩:=he
    rw [show i=tr by omega]
    exact h1
  · intro ht
    exact ⟨_,List.mem_filter.2 ⟨ht,by simp; omega⟩,rfl⟩
structure MatP (p:Plan) (n:Nat) (T:List Triple):Prop where
  can:Canon n n T
  pos:∀ t∈T,0≤t.Val
  ini:∀ t∈T,inI t.Val
  loop:p.Kind=5→∀ t∈T,t.Row≠t.Col
theorem ins1_src {k:Key} {v:Wide}:∀ {l:List (Key×Wide)} {p:Key×Wide},p∈ins 1 k v l→p=(k,v)∨p∈l
  | [],p,h=>by simp [ins] at h; exact .inl h
  | q :: l,p,h=>by
    unfold ins at h
    split at h
    · rcases List.mem_cons.1 h with rfl | h
      · exact .inr (by simp)
      · rcases ins1_src h with h | h
        · exact .inl h
        · exact .inr (by simp [h])
    · split at h
      · rename_i hk
        rcases List.mem_cons.1 h with rfl | h
        · unfold addW
          rw [if_pos (.inl rfl)]
          split
          · right
            obtain ⟨q1,q2⟩:=q
            simp only at hk
            subst hk; simp
          · exact .inl rfl
        · exact .inr (by simp [h])
      · rcases List.mem_cons.1 h with rfl | h
        · exact .inl rfl
        · exact .inr h
theorem SC1_src:∀ {ts:List (Key×Int)} {p:Key×Wide},p∈SC 1 ts→∃ t∈ts,p=(t.1,ofI t.2):=by
  suffices ∀ (ts:List (Key×Int)) (l:List (Key×Wide)) p,p∈ts.foldl (fun l t=>ins 1 t.1 (ofI t.2) l) l→(∃ t∈ts,p=(t.1,ofI t.2))∨p∈l from fun {ts p} h=>by
    rcases this ts [] p h with h | h
    · exact h
    · simp at h
  intro ts
  induction ts with
  | nil=>intro l p h; exact .inr h
  | cons t ts ih=>
    intro l p h
    rcases ih _ _ h with ⟨x,hx,e⟩ | hq
    · exact .inl ⟨x,by simp [hx],e⟩
    · rcases ins1_src hq with e2 | h2
      · exact .inl ⟨t,by simp,e2⟩
      · exact .inr h2
theorem canon_src {es:List Edge} (hv:∀ e∈es,inI e.W) {e:Edge} (he:e∈canonS es):e∈es:=by
  unfold canonS finS at he
  split at he
  · obtain ⟨p,hp,rfl⟩:=List.mem_map.1 he
    obtain ⟨t,ht,rfl⟩:=SC1_src hp
    obtain ⟨x,hx,rfl⟩:=List.mem_map.1 ht
    simp only [kvE]
    rw [nar_ofI (hv x hx)]
    exact hx
  · cases he
theorem graph_src {g:Graph} (hv:∀ e∈g.Edges,inI e.W) {t:Triple} (ht:t∈graphT g):∃ e∈g.Edges,t=⟨e.To,e.From,e.W⟩:=by
  unfold graphT finS at ht
  split at ht
  · obtain ⟨p,hp,rfl⟩:=List.mem_map.1 ht
    obtain ⟨q,hq,rfl⟩:=SC1_src hp
    obtain ⟨x,hx,rfl⟩:=List.mem_map.1 hq
    refine ⟨x,hx,?_⟩
    simp only [kvF]
    rw [nar_ofI (hv x hx)]
    rfl
  · cases ht
def goodE (n:Int) (es:List Edge):Prop:=∀ e∈es,inE n e∧wOk e
theorem goodE_in {n:Int} {es:List Edge} (h:goodE n es):∀ e∈es,inI e.W:=fun e he=>by have:=(h e he).2; unfold wOk at this; unfold inI; omega
theorem goodE_canon {n:Int} {es:List Edge} (h:goodE n es):goodE n (canonS es):=fun e he=>h e (canon_src (goodE_in h) he)
theorem goodE_one {n:Int} {es:List Edge} (h:goodE n es):goodE n (es.map oneE):=fun e he=>by
  obtain ⟨x,hx,rfl⟩:=List.mem_map.1 he
  exact ⟨(h x hx).1,by unfold wOk oneE; simp⟩
theorem goodE_flip {n:Int} {es:List Edge} (h:goodE n es):goodE n (es.map flipE):=fun e he=>by
  obtain ⟨x,hx,rfl⟩:=List.mem_map.1 he
  have:=h x hx
  exact ⟨⟨this.1.2,this.1.1⟩,this.2⟩
theorem goodE_app {n:Int} {xs ys:List Edge} (h:goodE n xs) (h':goodE n ys):goodE n (xs++ys):=fun e he=>by
  rcases List.mem_append.1 he with h1 | h1
  · exact h e h1
  · exact h' e h1
theorem right_good {g:Graph} (h:rightG g=0):goodE g.N g.Edges:=fun e he=>⟨(rightG_zero h).2.2.2.1 e he,(rightG_zero h).2.2.2.2 e he⟩
theorem good_right {g:Graph} (h0:0≤g.N∧g.N≤4096) (hl:g.Edges.length≤65536) (h:goodE g.N g.Edges):rightG g=0:=by
  unfold rightG
  rw [if_neg (by omega),if_neg (by omega),if_neg (fun h'=>h' fun e he=>(h e he).1),if_neg (fun h'=>h' fun e he=>(h e he).2)]
def noL (es:List Edge):Prop:=∀ e∈es,e.From≠e.To
def namG (p:Plan) (g:Graph):Graph:=if p.Kind=5 then plainG (bothG (simpG g)) else if p.Kind=3 then plainG (bothG g) else if p.Kind=1 then plainG g else g
theorem plain_good {g:Graph} (h:goodE g.N g.Edges):goodE (plainG g).N (plainG g).Edges∧(plainG g).Edges.length≤g.Edges.length∧(noL g.Edges→noL (plainG g).Edges):=by
  refine ⟨goodE_canon (goodE_one h),?_,fun hn e he=>?_⟩
  · have:=canon_len (goodE_in (goodE_one h)); rwa [List.length_map] at this
  · have:=canon_src (goodE_in (goodE_one h)) he
    obtain ⟨x,hx,rfl⟩:=List.mem_map.1 this
    exact hn x hx
theorem both_good {g:Graph} (h:goodE g.N g.Edges):goodE (bothG g).N (bothG g).Edges∧(bothG g).Edges.length≤2*g.Edges.length∧(noL g.Edges→noL (bothG g).Edges):=by
  have ht:goodE g.N (turnG g).Edges:=goodE_canon (goodE_flip h)
  have ha:=goodE_app h ht
  refine ⟨goodE_canon ha,?_,fun hn e he=>?_⟩
  · have h1:=canon_len (goodE_in ha)
    have h2:=canon_len (goodE_in (goodE_flip h))
    rw [List.length_append] at h1
    rw [List.length_map] at h2
    have:(turnG g).Edges.length≤g.Edges.length:=h2
    show (canonS _).length≤_
    omega
  · rcases List.mem_append.1 (canon_src (goodE_in ha) he) with h1 | h1
    · exact hn e h1
    · obtain ⟨x,hx,rfl⟩:=List.mem_map.1 (canon_src (goodE_in (goodE_flip h)) h1)
      exact fun e=>hn x hx e.symm
theorem simp_good {g:Graph} (h:goodE g.N g.Edges):goodE (simpG g).N (simpG g).Edges∧(simpG g).Edges.length≤g.Edges.length∧noL (simpG g).Edges:=by
  have hf:goodE g.N (g.Edges.filter notLoop):=fun e he=>h e (List.mem_filter.1 he).1
  refine ⟨goodE_canon hf,?_,fun e he=>?_⟩
  · have h1:=canon_len (goodE_in hf)
    have h2:=List.length_filter_le notLoop g.Edges
    show (canonS _).length≤_
    omega
  · have:=(List.mem_filter.1 (canon_src (goodE_in hf) he)).2
    unfold notLoop at this
    simpa using this
theorem nam_good {p:Plan} {g:Graph} (h:goodE g.N g.Edges):(namG p g).N=g.N∧goodE g.N (namG p g).Edges∧(namG p g).Edges.length≤2*g.Edges.length∧(p.Kind=5→noL (namG p g).Edges):=by
  unfold namG
  have hs:=simp_good h
  have hb:=both_good h
  have hsb:=both_good hs.1
  have hp:=plain_good h
  have hbp:=plain_good hb.1
  have hsp:=plain_good hsb.1
  by_cases h5:p.Kind=5
  · rw [if_pos h5]
    exact ⟨rfl,hsp.1,by have:=hsp.2.1; have:=hsb.2.1; have:=hs.2.1; omega,fun _=>hsp.2.2 (hsb.2.2 hs.2.2)⟩
  · rw [if_neg h5]
    by_cases h3:p.Kind=3
    · rw [if_pos h3]; exact ⟨rfl,hbp.1,by have:=hbp.2.1; have:=hb.2.1; omega,fun h=>absurd h h5⟩
    · rw [if_neg h3]
      by_cases h1:p.Kind=1
      · rw [if_pos h1]; exact ⟨rfl,hp.1,by have:=hp.2.1; omega,fun h=>absurd h h5⟩
      · rw [if_neg h1]; exact ⟨rfl,h,by omega,fun h=>absurd h h5⟩
theorem mat_is {p:Plan} {g:Graph} (hp:rightPl p=0) (hn:g.N=p.N) (hg:rightG g=0) (hl:g.Edges.length≤30000):matS p g=(builtS p.N p.N (graphT (namG p g)),0)∧rightG (namG p g)=0:=by
  have hz:=rightG_zero hg
  have hgd:=nam_good (p:=p) (right_good hg)
  have hr:rightG (namG p g)=0:=good_right (by omega) (by omega) (by rw [hgd.1]; exact hgd.2.1)
  refine ⟨?_,hr⟩
  unfold matS
  rw [if_neg (fun h=>h hp),if_neg (fun h=>h hn),if_neg (fun h=>h hg)]
  show graphS (namG p g)=_
  unfold graphS
  rw [if_pos hr,hgd.1,hn]
theorem mat_P {p:Plan} {g:Graph} {n:Nat} (hp:rightPl p=0) (hn:g.N=p.N) (hN:p.N=n) (hg:rightG g=0) (hl:g.Edges.length≤30000):MatP p n (graphT (namG p g)):=by
  have hgd:=nam_good (p:=p) (right_good hg)
  have hr:=(mat_is hp hn hg hl).2
  have hc:=graph_canon hr
  rw [hgd.1,hn,hN] at hc
  refine ⟨hc,fun t ht=>?_,fun t ht=>?_,fun hk t ht=>?_⟩
  · obtain ⟨e,he,rfl⟩:=graph_src (goodE_in hgd.2.1) ht
    exact (hgd.2.1 e he).2.1
  · obtain ⟨e,he,rfl⟩:=graph_src (goodE_in hgd.2.1) ht
    exact goodE_in hgd.2.1 e he
  · obtain ⟨e,he,rfl⟩:=graph_src (goodE_in hgd.2.1) ht
    exact fun h=>hgd.2.2.2 hk e he h.symm
theorem sumsR_P {r rows cols:Int} {T:List Triple} {v:Vec} {f:List Int} {o:Bool} (h:rows≤4096):(sumsR r rows cols T v f o).1.length≤4096∧okS (sumsR r rows cols T v f o).1:=by
  unfold sumsR
  repeat' split
  · exact ⟨by simp,by simp [okS]⟩
  · exact ⟨by simp,by simp [okS]⟩
  · have hp:=sumsS_prop r cols.toNat f o (fun i=>lkI (rowI T i)) (lkI v.Items) rows.toNat
    exact ⟨by have:=hp.2.1; simp only; omega,hp.2.2.1⟩
theorem ref13_TimesR_ok {r rows cols:Int} {T:List Triple} {v:Vec} {f:List Int} {o:Bool} {Q:Vec×Int→Prop} (h:Canon rows cols T) (hT:∀ t∈T,inI t.Val) (hv:VecP v) (hvv:∀ y∈v.Items,inI y.Val)
    (hf:okF f) (hQ:Q (if (sumsR r rows cols T v f o).2≠0 then (zV,(sumsR r rows cols T v f o).2) else doneS r rows (sumsR r rows cols T v f o).1)):ref13_Times r (builtS rows cols T) (denS v) f o Q:=by
  unfold ref13_Times
  have hp:=sumsR_P (r:=r) (cols:=cols) (T:=T) (v:=v) (f:=f) (o:=o) h.r1
  refine ref13_Sums_ok h.sml (sure_built h) h hT hv hvv hf (ifP_ne (fun hne=>?_) (fun he=>?_))
  · rw [if_pos hne] at hQ; exact hQ
  · rw [if_neg (fun h=>h he)] at hQ
    refine ref_sure_ok h.sml ?_
    rw [sure_built h]
    exact ref13_Done_ok (by omega) hp.2 hQ
theorem ref_Asked_ok {p:Plan} {s:State} {round:Int} {Q:List Int×Bool→Prop} (ho:okSt s) (hQ:Q (askS p (sureSt p s))):ref21_Asked p s round Q:=by
  unfold ref21_Asked
  refine ref_Sure_ok ho ?_
  have h:=sureSt_Q (p:=p) ho
  unfold askS at hQ
  generalize sureSt p s=u at h hQ ⊢
  have hs:=h.siz
  have hal:=h.al
  have hend (want:Int) (hq:Q (ofF (sizN u) (onsN (sizN u) fun i=>at0 u.A i==want),false)):ref03_Of (sizN u:Int) (onsN (sizN u) fun i=>at0 u.A i==want) fun r448=>Q (r448,false):=by
    have hol:=onsN_len (sizN u) fun i=>at0 u.A i==want
    exact ref03_Of_ok (by omega) (fun x hx=>by have:=onsN_in hx; unfold inI; omega) hq
  unfold joinP
  by_cases h1:p.Kind=1
  · rw [if_pos h1] at hQ
    refine ifP_neg (by simp [h1]) ?_
    rw [h.w,hal]
    refine range_intro (fun (s:List Int) i=>(s,i)) 0 (sizN u) (by omega) (fun i s=>s=onsN i fun i=>at0 u.A i == -1) (by omega) rfl (fun i s next _ hi hm hnx=>?_) (fun s next hm=>?_)
    · subst hm
      have hol:=onsN_len i fun i=>at0 u.A i == -1
      have hons:=onsN_succ i fun i=>at0 u.A i == -1
      refine ifP_dec (fun _=>ifP_pos (by simp [h1]) (idxP_at0 (by omega) (by omega) ?_)) (fun h=>by omega)
      refine ifP_eq (fun ha=>appP_intro (by simp; omega) (hnx _ ?_)) (fun ha=>ifP_neg (by simp [h1]) (hnx _ ?_))
      · rw [hons,if_pos (by simpa using ha)]
      · rw [hons,if_neg (by simpa using ha)]
    · subst hm
      exact ifP_dec (fun h=>by omega) (fun _=>hend _ hQ)
  · rw [if_neg h1] at hQ
    refine ifP_pos (by simpa using h1) ?_
    by_cases h5:p.Kind=5
    · rw [if_pos h5] at hQ
      refine ifP_neg (by simp [h5]) ?_
      rw [h.w,hal]
      refine range_intro (fun (s:List Int) i=>(s,i)) 0 (sizN u) (by omega) (fun i s=>s=onsN i fun i=>at0 u.A i==0) (by omega) rfl (fun i s next _ hi hm hnx=>?_) (fun s next hm=>?_)
      · subst hm
        have hol:=onsN_len i fun i=>at0 u.A i==0
        have hons:=onsN_succ i fun i=>at0 u.A i==0
        refine ifP_dec (fun _=>ifP_neg (by simpa using h1) (ifP_pos (by simp [h5]) (idxP_at0 (by omega) (by omega) ?_))) (fun h=>by omega)
        refine ifP_eq (fun ha=>appP_intro (by simp; omega) (hnx _ ?_)) (fun ha=>hnx _ ?_)
        · rw [hons,if_pos (by simpa using ha)]
        · rw [hons,if_neg (by simpa using ha)]
      · subst hm
        exact ifP_dec (fun h=>by omega) (fun _=>hend _ hQ)
    · rw [if_neg h5] at hQ
      exact ifP_pos (by simpa using h5) hQ
theorem ask_okF (p:Plan) (s:State):okF (askS p s).1:=by
  unfold askS
  repeat' split
  · exact (ofF_prop _ _).1
  · exact (ofF_prop _ _).1
  · simp [okF]
theorem at0_inI {l:List Int} (h:∀ x∈l,inI x) (i:Nat):inI (at0 l i):=by
  by_cases hl:i<l.length
  · have:at0 l i=l[i]:=by unfold at0; simp [hl]
    rw [this]; exact h _ (List.getElem_mem hl)
  · rw [at0_over (by omega)]; unfold inI; omega
theorem Whole.out {p:Plan} {s:State} (h:Whole p s) (round:Int):VecP (outVS p s round)∧(∀ y∈(outVS p s round).Items,inI y.Val)∧(outVS p s round).N=p.N:=by
  have hz:=rightPl_zero h.st.1
  have e:((sizN s:Nat):Int)=s.High - s.Low:=by unfold sizN; have:=h.lo; have:=h.hi; omega
  have hlo:=h.lo; have hhi:=h.hi
  unfold outVS
  rw [h.sure]
  refine ⟨?_,fun y hy=>?_,by simp only; omega⟩
  · have:=out_vecP (n:=sizN s) (by omega) (tellsS p s round)
    rw [e] at this; exact this
  · obtain ⟨i,hi,he⟩:=List.mem_filterMap.1 (show y∈outI _ _ from hy)
    have hi:=List.mem_range.1 hi
    split at he
    · cases he
      have ha:=at0_inI h.va i
      show inI (tellsS p s round i).1
      unfold tellsS
      repeat' split
      · unfold inI; simp only; omega
      · unfold inI; simp only; omega
      · have hd:0≤dnum p round (s.Low+i)∧dnum p round (s.Low+i)≤17592186044416:=by
          unfold dnum numS
          split
          · have:=dv_in hz.2.2.2.2.2 ((round - 1) / 2*p.N+(s.Low+i)); omega
          · omega
        unfold inI; simp only; omega
      · exact ha
    · cases he
theorem Whole.ask {p:Plan} {s:State} {round:Int} {Q:List Int×Bool→Prop} (h:Whole p s) (hQ:Q (askS p s)):prog_Asked p s round Q:=prog_Asked_ok h.ok (by rw [h.sure]; exact hQ)
theorem Whole.rask {p:Plan} {s:State} {round:Int} {Q:List Int×Bool→Prop} (h:Whole p s) (hQ:Q (askS p s)):ref21_Asked p s round Q:=ref_Asked_ok h.ok (by rw [h.sure]; exact hQ)
theorem ref22_Step_ok {p:Plan} {T:List Triple} {s:State} {round:Int} {Q:State×Int→Prop} (hp:rightPl p=0) (h:Canon p.N p.N T) (hT:∀ t∈T,inI t.Val) (hs:Whole p s) (hr:0≤round∧round≤1000000) (hQ:Q (stepS p T s round)):ref22_Step p (builtS p.N p.N T) s round Q:=by
  unfold ref22_Step
  have ho:=hs.out round
  refine ref_Right_ok (ifP_neg (by simp [hp]) (ref_sure_ok h.sml ?_))
  rw [sure_built h]
  refine ref_Sure_ok hs.ok ?_
  rw [hs.sure]
  refine ifP_neg (by simp [builtS]) (ifP_neg (by simp [builtS]) (ref_Same_ok (lenSt_of hs.st hs.ok) (ifP_neg (by simp) (ifP_neg (by simp [hs.lo]) (ifP_neg (by simp [hs.hi]) (hs.rask (ref_Ring_ok (ref_Out_ok hs.ok hr (ref10_Of_ok (by have:=ho.1.len; omega) ?_)))))))))
  rw [sureV_id ho.1]
  refine ref13_TimesR_ok h hT ho.1 ho.2.1 (ask_okF p s) ?_
  unfold stepS at hQ
  change Q (if (stepY p T s round).2≠0 then _ else _) at hQ
  have hyl:(stepY p T s round).1.Items.length≤1000000:=by
    unfold stepY
    have hsp:=sumsR_P (r:=ringPl p.Kind round) (cols:=p.N) (T:=T) (v:=outVS p s round) (f:=(askS p s).1) (o:=(askS p s).2) h.r1
    split
    · simp [zV]
    · unfold doneS
      repeat' split
      · simp [zV]
      · simp [zV]
      · simp [zV]
      · simp [zV]
      · have:=List.length_filterMap_le (nzI (ringPl p.Kind round)) (stepX p T s round).1
        unfold stepX at this ⊢
        simp only; omega
  show ifP ((stepY p T s round).2 != 0) _ _
  refine ifP_ne (fun hne=>?_) (fun he=>?_)
  · rw [if_pos hne] at hQ; exact hQ
  · rw [if_neg (fun h=>h he)] at hQ
    exact ref_Update_ok hs.ok hr hyl hQ
theorem mat_T {p:Plan} {g:Graph} (h:(matS p g).2=0):rightPl p=0∧g.N=p.N∧rightG g=0∧∃ T,Canon p.N p.N T∧(∀ t∈T,inI t.Val)∧matS p g=(builtS p.N p.N T,0):=by
  unfold matS at h ⊢
  by_cases h1:rightPl p≠0
  · rw [if_pos h1] at h; exact absurd h h1
  rw [if_neg h1] at h ⊢
  by_cases h2:g.N≠p.N
  · rw [if_pos h2] at h; cases h
  rw [if_neg h2] at h ⊢
  by_cases h3:rightG g≠0
  · rw [if_pos h3] at h; exact absurd h h3
  rw [if_neg h3] at h ⊢
  have h1:=Decidable.of_not_not h1; have h2:=Decidable.of_not_not h2; have h3:=Decidable.of_not_not h3
  refine ⟨h1,h2,h3,?_⟩
  have hN:(if p.Kind=5 then plainG (bothG (simpG g)) else if p.Kind=3 then plainG (bothG g) else if p.Kind=1 then plainG g else g).N=p.N:=by
    repeat' split
    all_goals exact h2
  generalize (if p.Kind=5 then plainG (bothG (simpG g)) else if p.Kind=3 then plainG (bothG g) else if p.Kind=1 then plainG g else g)=G at h hN ⊢
  unfold graphS at h ⊢
  by_cases hG:rightG G=0
  · rw [if_pos hG]
    have hc:=graph_canon hG
    rw [hN] at hc ⊢
    refine ⟨_,hc,fun t ht=>?_,rfl⟩
    unfold graphT finS at ht
    split at ht
    · obtain ⟨p,_,rfl⟩:=List.mem_map.1 ht
      exact nar_inI p.2
    · cases ht
  · rw [if_neg hG] at h; exact absurd h hG
def checkS (p:Plan) (g:Graph) (limit:Int):Int:=if (matS p g).2≠0 then (matS p g).2 else if limit<0∨8192<limit then 3 else 0
theorem model_Check_ok {p:Plan} {g:Graph} {limit:Int} {Q:Int→Prop} (hQ:Q (checkS p g limit)):model_Check p g limit Q:=by
  unfold model_Check
  unfold checkS at hQ
  refine prog_Matrix_ok (ifP_ne (fun h=>by rwa [if_pos h] at hQ) (fun h=>?_))
  rw [if_neg (fun h'=>h' h)] at hQ
  exact ifP_dec (fun h1=>by rwa [if_pos (.inl h1)] at hQ) (fun h1=>ifP_dec (fun h2=>by rwa [if_pos (.inr h2)] at hQ) (fun h2=>by rwa [if_neg (by omega)] at hQ))
theorem ref22_Check_ok {p:Plan} {g:Graph} {limit:Int} {Q:Int→Prop} (hQ:Q (checkS p g limit)):ref22_Check p g limit Q:=by
  unfold ref22_Check
  unfold checkS at hQ
  refine ref_Matrix_ok (ifP_ne (fun h=>by rwa [if_pos h] at hQ) (fun h=>?_))
  rw [if_neg (fun h'=>h' h)] at hQ
  exact ifP_dec (fun h1=>by rwa [if_pos (.inl h1)] at hQ) (fun h1=>ifP_dec (fun h2=>by rwa [if_pos (.inr h2)] at hQ) (fun h2=>by rwa [if_neg (by omega)] at hQ))
theorem ends_loop {S:Type} {p:Plan} {T:List Triple} {limit:Int} {n:Nat} {st:Int} (hp:rightPl p=0) (hl:0≤limit∧limit≤8192) (E:Ends p T limit n st) {body:S→(S→Prop)→Prop} {enc:Nat→S}
    (hgo:∀ k next,k<n→Whole p (seqS p T k)→liveS p (seqS p T k) k≠0→(k:Int)≠limit→stepS p T (seqS p T k) ((k:Int)+1)=(seqS p T (k+1),0)→next (enc (k+1))→body (enc k) next)
    (hend:∀ next,Whole p (seqS p T n)→stopS p T limit n=st→body (enc n) next):loopP body (enc 0):=by
  refine range_intro (fun (s:Unit) i=>enc i.toNat) 0 n (by have:=E.le; omega) (fun _ _=>True) (by omega) (s0:=()) trivial (fun i s next _ hi _ hn=>?_) (fun s next _=>?_)
  · have hg:=stop_go (E.lt i hi)
    have hw:=seq_whole hp hl (k:=i) fun j hj=>E.lt j (by omega)
    have hn:=hn () trivial
    have e:(w64 ((i:Int)+1)).toNat=i+1:=by rw [w64_id (by omega) (by have:=E.le; omega)]; omega
    simp only [e] at hn
    simp only [Int.toNat_natCast]
    refine hgo i next hi hw hg.1 hg.2.1 ?_ hn
    have:(stepS p T (seqS p T i) ((i:Int)+1)).1=seqS p T (i+1):=rfl
    rw [←this,←hg.2.2]
  · simp only [Int.toNat_natCast]
    exact hend next (seq_whole hp hl (k:=n) fun j hj=>E.lt j hj) E.at_
def lastS (p:Plan) (T:List Triple) (n:Nat) (st:Int):Result:=⟨st,n,seqS p T n⟩
def listS (p:Plan) (T:List Triple) (n:Nat):List State:=(List.range (n+1)).map (seqS p T)
theorem listS_len (p:Plan) (T:List Triple) (n:Nat):(listS p T n).length=n+1:=by simp [listS]
theorem listS_at {p:Plan} {T:List Triple} {n k:Nat} (h:k<(listS p T n).length):(listS p T n)[k]=seqS p T k:=by simp [listS]
theorem listS_succ (p:Plan) (T:List Triple) (n:Nat):listS p T (n+1)=listS p T n++[seqS p T (n+1)]:=by
  unfold listS; rw [List.range_succ,List.map_append]; rfl
theorem stop_is {p:Plan} {T:List Triple} {limit:Int} {k:Nat} {st:Int} (hs:st≠0) (h:stopS p T limit k=st):(liveS p (seqS p T k) k=0∧st=1)∨(liveS p (seqS p T k) k≠0∧(k:Int)=limit∧st=2)∨(liveS p (seqS p T k) k≠0∧(k:Int)≠limit∧(stepS p T (seqS p T k) ((k:Int)+1)).2≠0∧st=3):=by
  unfold stopS at h
  split at h
  · rename_i h1; exact .inl ⟨h1,h.symm⟩
  · split at h
    · rename_i h1 h2; exact .inr (.inl ⟨h1,h2,h.symm⟩)
    · split at h
      · rename_i h1 h2 h3; exact .inr (.inr ⟨h1,h2,h3,h.symm⟩)
      · exact absurd h.symm hs
structure MRun (p:Plan) (g:Graph) (limit:Int) (T:List Triple) (n:Nat) (st:Int):Prop where
  rp:rightPl p=0
  cn:Canon p.N p.N T
  vs:∀ t∈T,inI t.Val
  mt:matS p g=(builtS p.N p.N T,0)
  lm:0≤limit∧limit≤8192
  en:Ends p T limit n st
theorem MRun.check {p:Plan} {g:Graph} {limit:Int} {T:List Triple} {n:Nat} {st:Int} (R:MRun p g limit T n st):checkS p g limit=0:=by
  unfold checkS
  rw [R.mt,if_neg (by simp),if_neg (by have:=R.lm; omega)]
theorem ref22_all_ok {p:Plan} {g:Graph} {limit:Int} {T:List Triple} {n:Nat} {st:Int} {Q:List State×Int→Prop} (hp:rightPl p=0) (hc:Canon p.N p.N T) (hT:∀ t∈T,inI t.Val) (hm:matS p g=(builtS p.N p.N T,0)) (hl:0≤limit∧limit≤8192) (E:Ends p T limit n st)
    (hQ:Q (listS p T n,st)):ref22_all p g limit Q:=by
  unfold ref22_all
  refine ref_Matrix_ok ?_
  rw [hm]
  refine ref_Begin_ok ?_
  show loopP _ ((seqS p T 0).Low,(seqS p T 0).High,(seqS p T 0).A,(seqS p T 0).B,(seqS p T 0).On,([seqS p T 0]:List State),(0:Int))
  refine ends_loop (S:=Int×Int×List Int×List Int×List Int×List State×Int) hp hl E (enc:=fun k=>((seqS p T k).Low,(seqS p T k).High,(seqS p T k).A,(seqS p T k).B,(seqS p T k).On,listS p T k,(k:Int))) (fun k next hk hw hv hl' hst hn=>?_) (fun next hw hst=>?_)
  · have hkl:(k:Int)≤8192:=by have:=E.le; omega
    have ew2:w64 ((k:Int)+1)=(k+1:Nat):=by rw [w64_id (by omega) (by omega)]; omega
    dsimp only
    refine ref_Live_ok hw.ok (ifP_neg (by simpa using hv) (ifP_neg (by simpa using hl') ?_))
    rw [ew2]
    refine ref22_Step_ok hp hc hT hw (by omega) ?_
    have:((k+1:Nat):Int)=(k:Int)+1:=by omega
    rw [this,hst]
    refine ifP_neg rfl (appP_intro (by rw [listS_len]; simp; omega) ?_)
    have hn':=hn
    rw [listS_succ,this] at hn'
    exact hn'
  · have hkl:(n:Int)≤8192:=by have:=E.le; omega
    have ew2:w64 ((n:Int)+1)=(n:Int)+1:=w64_id (by omega) (by omega)
    dsimp only
    rw [ew2]
    refine ref_Live_ok hw.ok ?_
    rcases stop_is E.ne hst with ⟨h1,rfl⟩ | ⟨h1,h2,rfl⟩ | ⟨h1,h2,h3,rfl⟩
    · exact ifP_pos (by simpa using h1) hQ
    · exact ifP_neg (by simpa using h1) (ifP_pos (by simpa using h2) hQ)
    · exact ifP_neg (by simpa using h1) (ifP_neg (by simpa using h2) (ref22_Step_ok hp hc hT hw (by omega) (ifP_pos (by simpa using h3) hQ)))
theorem ref22_Trace_ok {p:Plan} {g:Graph} {limit:Int} {T:List Triple} {n:Nat} {st:Int} {Q:List State×Int→Prop} (R:MRun p g limit T n st) (hQ:Q (listS p T n,0)):ref22_Trace p g limit Q:=by
  unfold ref22_Trace
  refine ref22_Check_ok (ifP_neg (by simp [R.check]) (ref22_all_ok R.rp R.cn R.vs R.mt R.lm R.en hQ))
end Go.Proofs.YtaefnmlbnkmahaaGreat
