import Derived.Test.YtaefnmlbnkmahaaGreatOK
import Derived.Test.YtaefnmlbnkmahaaGreatPlnH
namespace Go.Proofs.YtaefnmlbnkmahaaGreat
open Go Go.Fw
set_option linter.unusedVariables false
set_option linter.unusedSimpArgs false
def stepX (p:Plan) (T:List Triple) (s:State) (round:Int):List Sum×Int:=sumsR (ringPl p.Kind round) p.N p.N T (outVS p s round) (askS p s).1 (askS p s).2
def stepY (p:Plan) (T:List Triple) (s:State) (round:Int):Vec×Int:=if (stepX p T s round).2≠0 then (zV,(stepX p T s round).2) else doneS (ringPl p.Kind round) p.N (stepX p T s round).1
def stepS (p:Plan) (T:List Triple) (s:State) (round:Int):State×Int:=if (stepY p T s round).2≠0 then (zSt,(stepY p T s round).2) else (updS p s round (stepY p T s round).1,0)
structure Whole (p:Plan) (s:State):Prop where
  st:StP p s
  ok:okSt s
  lo:s.Low=0
  hi:s.High=p.N
  va:∀ x∈s.A,inI x
theorem Whole.sure {p:Plan} {s:State} (h:Whole p s):sureSt p s=s:=if_pos h.st
theorem begin_whole {p:Plan} (hp:rightPl p=0):Whole p (beginS p 0 p.N):=by
  have hn:=(rightPl_zero hp).2.1
  have h:=begin_St (p:=p) (low:=0) (high:=p.N) hp (by omega) (by omega) (by omega)
  refine ⟨h.1,h.2,?_,?_,?_⟩
  · unfold beginS; rw [if_pos ⟨hp,by omega,by omega,by omega⟩]; rfl
  · unfold beginS; rw [if_pos ⟨hp,by omega,by omega,by omega⟩]; rfl
  · unfold beginS; rw [if_pos ⟨hp,by omega,by omega,by omega⟩]
    intro x hx
    obtain ⟨i,hi,rfl⟩:=List.mem_map.1 (show x∈mapN _ _ from hx)
    have hi:=List.mem_range.1 hi
    simp only
    unfold firstS infI inI
    repeat' split
    all_goals (simp only; omega)
theorem getO_inI {o:Option Int} (h:∀ y,o=some y→inI y):inI (getO o).1:=by
  cases o with
  | none=>unfold inI getO; simp
  | some y=>exact h y rfl
theorem Whole.upd {p:Plan} {s:State} (h:Whole p s) {round:Int} (hr:0≤round∧round≤1000000) {y:Vec} (hy:∀ x∈y.Items,inI x.Val):Whole p (updS p s round y):=by
  have hu:=upd_St (round:=round) (y:=y) h.st h.ok
  refine ⟨hu.1,hu.2.1,hu.2.2.1.trans h.lo,hu.2.2.2.trans h.hi,?_⟩
  unfold updS
  rw [h.sure]
  split
  · intro x hx
    obtain ⟨i,hi,rfl⟩:=List.mem_map.1 (show x∈mapN _ _ from hx)
    have hi:=List.mem_range.1 hi
    have ha:inI (at0 s.A i):=by
      have hl:i<s.A.length:=by have:=h.st.2.2.2.2.1; omega
      have:at0 s.A i=s.A[i]:=by unfold at0; simp [hl]
      rw [this]; exact h.va _ (List.getElem_mem hl)
    have hg:inI (getO (lkI y.Items i)).1:=getO_inI fun z hz=>hy _ (lkI_mem hz)
    have hrd:inI round:=by unfold inI; omega
    show inI (behS p s round i (lkI y.Items i)).1
    unfold behS
    simp only
    repeat' split
    all_goals first | assumption | (unfold inI; omega)
  · exact h.va
theorem done_inI {r n:Int} {l:List Sum}:∀ x∈(doneS r n l).1.Items,inI x.Val:=by
  unfold doneS
  repeat' split
  all_goals first | (intro x hx; cases hx; done) | skip
  intro x hx
  obtain ⟨s,hs,he⟩:=List.mem_filterMap.1 hx
  unfold nzI at he
  split at he
  · cases he; exact nar_inI _
  · cases he
theorem stepY_inI {p:Plan} {T:List Triple} {s:State} {round:Int}:∀ x∈(stepY p T s round).1.Items,inI x.Val:=by
  unfold stepY
  split
  · intro x hx; cases hx
  · exact done_inI
def seqS (p:Plan) (T:List Triple):Nat→State
  | 0=>beginS p 0 p.N
  | k+1=>(stepS p T (seqS p T k) ((k:Int)+1)).1
def stopS (p:Plan) (T:List Triple) (limit:Int) (k:Nat):Int:=if liveS p (seqS p T k) k=0 then 1 else if (k:Int)=limit then 2 else if (stepS p T (seqS p T k) ((k:Int)+1)).2≠0 then 3 else 0
structure Ends (p:Plan) (T:List Triple) (limit:Int) (n:Nat) (st:Int):Prop where
  le:(n:Int)≤limit
  lt:∀ k,k<n→stopS p T limit k=0
  at_:stopS p T limit n=st
  ne:st≠0
theorem stop_go {p:Plan} {T:List Triple} {limit:Int} {k:Nat} (h:stopS p T limit k=0):liveS p (seqS p T k) k≠0∧(k:Int)≠limit∧(stepS p T (seqS p T k) ((k:Int)+1)).2=0:=by
  unfold stopS at h
  split at h
  · cases h
  · split at h
    · cases h
    · split at h
      · cases h
      · rename_i h1 h2 h3
        exact ⟨h1,h2,Decidable.of_not_not h3⟩
theorem step_zero {p:Plan} {T:List Triple} {s:State} {round:Int} (h:(stepS p T s round).2=0):(stepY p T s round).2=0∧stepS p T s round=(updS p s round (stepY p T s round).1,0):=by
  unfold stepS at h ⊢
  by_cases h0:(stepY p T s round).2≠0
  · rw [if_pos h0] at h; exact absurd h h0
  · rw [if_neg h0]; exact ⟨Decidable.of_not_not h0,rfl⟩
theorem seq_le {p:Plan} {T:List Triple} {limit:Int} (hl:0≤limit):∀ {k:Nat},(∀ j,j<k→stopS p T limit j=0)→(k:Int)≤limit
  | 0,_=>hl
  | k+1,h=>by
    have ih:=seq_le (k:=k) hl fun j hj=>h j (by omega)
    have:=stop_go (h k (by omega))
    omega
theorem seq_whole {p:Plan} {T:List Triple} {limit:Int} (hp:rightPl p=0) (hl:0≤limit∧limit≤8192):∀ {k:Nat},(∀ j,j<k→stopS p T limit j=0)→Whole p (seqS p T k)
  | 0,_=>begin_whole hp
  | k+1,h=>by
    have ih:=seq_whole (k:=k) hp hl fun j hj=>h j (by omega)
    have hk:=seq_le hl.1 h
    have:=stop_go (h k (by omega))
    have e:=(step_zero this.2.2).2
    show Whole p (stepS p T (seqS p T k) ((k:Int)+1)).1
    rw [e]
    exact ih.upd (by omega) stepY_inI
def nzW (r:Int) (w:Wide):Option Int:=if (narS w).1≠zS r then some (narS w).1 else none
def askG (p:Plan) (g:Int×Int×Bool):Bool:=if p.Kind=1 then g.1 == -1 else if p.Kind=5 then g.1==0 else true
def rowG (p:Plan) (T:List Triple) (n:Nat) (round:Int) (G:GV) (v:Nat):Option Wide:=rowW (ringPl p.Kind round) n (lkI (rowI T v)) (lkI (outI n fun i=>tellG p round i (G i)))
def hearG (p:Plan) (T:List Triple) (n:Nat) (round:Int) (G:GV) (v:Nat):Option Int:=if askG p (G v)=true then (rowG p T n round G v).bind (nzW (ringPl p.Kind round)) else none
theorem nz_at {r:Int} {s:Sum} {x:Item} (h:nzI r s=some x):x.At=s.At:=by
  unfold nzI at h
  split at h
  · cases h; rfl
  · cases h
theorem nz_lk {r:Int}:∀ {l:List Sum},Rise l→∀ i:Int,lkI (l.filterMap (nzI r)) i=(lk l i).bind (nzW r)
  | [],_,i=>rfl
  | s :: l,h,i=>by
    have hr:Rise l:=(List.pairwise_cons.1 h).2
    have hlt:=(List.pairwise_cons.1 h).1
    have ih:=nz_lk (r:=r) hr i
    rw [List.filterMap_cons,lk_cons]
    cases hn:nzI r s with
    | none=>
      rw [ih]
      by_cases e:i=s.At
      · rw [if_pos e,lk_none fun x hx=>by have:=hlt x hx; omega]
        simp only [Option.bind_none,Option.bind_some]
        unfold nzI at hn; unfold nzW
        split at hn
        · cases hn
        · rename_i h0; rw [if_neg h0]
      · rw [if_neg e]
    | some x=>
      rw [lkI_cons,nz_at hn,ih]
      by_cases e:i=s.At
      · rw [if_pos e,if_pos e]
        unfold nzI at hn; unfold nzW
        split at hn
        · rename_i h0; cases hn; simp only [Option.bind_some]; rw [if_pos h0]
        · cases hn
      · rw [if_neg e,if_neg e]
theorem nz_vecP {r n:Int} {l:List Sum} (hn:0≤n∧n≤4096) (h:Rise l) (hi:∀ s∈l,0≤s.At∧s.At<n):VecP ⟨n,l.filterMap (nzI r)⟩:=by
  refine ⟨hn.1,hn.2,?_,fun x hx=>?_⟩
  · refine List.Pairwise.filterMap _ (fun a b hab c hc d hd=>?_) h
    rw [nz_at hc,nz_at hd]; exact hab
  · obtain ⟨s,hs,he⟩:=List.mem_filterMap.1 hx
    rw [nz_at he]; exact hi s hs
theorem ringPl_b {p:Plan} (h:1≤p.Kind∧p.Kind≤5) (round:Int):1≤ringPl p.Kind round∧ringPl p.Kind round≤5:=by
  unfold ringPl
  repeat' split
  all_goals omega
theorem ask_seg {p:Plan} {n:Nat} {G:GV} (hn4:n≤4096) {i:Nat} (hi:i<n):askF (askS p (segV 0 n G)).1 (askS p (segV 0 n G)).2 i=askG p (G i):=by
  have e2:sizN (segV 0 n G)=n:=by show ((((0+n:Nat):Int)) - ((0:Nat):Int)).toNat=n; omega
  have e1:∀ j,j<n→at0 (segV 0 n G).A j=(G j).1:=fun j hj=>by
    have:at0 (segV 0 n G).A j=(G (0+j)).1:=mapN_at hj
    rwa [Nat.zero_add] at this
  unfold askS askG askF
  rw [e2]
  by_cases h1:p.Kind=1
  · rw [if_pos h1,if_pos h1]
    simp only
    rw [of_ons hi hn4,e1 i hi]
    simp
  · rw [if_neg h1,if_neg h1]
    by_cases h5:p.Kind=5
    · rw [if_pos h5,if_pos h5]
      simp only
      rw [of_ons hi hn4,e1 i hi]
      simp
    · rw [if_neg h5,if_neg h5]
      simp only
      rw [hasF_over (by simp)]
      rfl
theorem step_seg {p:Plan} {T:List Triple} {n:Nat} {G:GV} {round:Int} (hp:rightPl p=0) (hn:p.N=n) :
    ((∃ v w,v<n∧askG p (G v)=true∧rowG p T n round G v=some w∧(narS w).2=false)→stepS p T (segV 0 n G) round=(zSt,12)) ∧
    ((∀ v w,v<n→askG p (G v)=true→rowG p T n round G v=some w→(narS w).2=true)→stepS p T (segV 0 n G) round=(segV 0 n (nextG p round G (hearG p T n round G)),0)):=by
  have hpz:=rightPl_zero hp
  have hn4:n≤4096:=by have:=hpz.2.1; omega
  have hr:=ringPl_b hpz.1 round
  have hout:outVS p (segV 0 n G) round=⟨n,outI n fun i=>tellG p round i (G i)⟩:=by
    rw [out_seg hp (by omega)]
    congr 1
    exact outI_congr fun i _=>by rw [Nat.zero_add]
  have hx:stepX p T (segV 0 n G) round=(sumsS (ringPl p.Kind round) n n (askS p (segV 0 n G)).1 (askS p (segV 0 n G)).2 (fun i=>lkI (rowI T i)) (lkI (outI n fun i=>tellG p round i (G i))),0):=by
    unfold stepX sumsR
    rw [hout,if_neg (fun h=>h hr),if_neg (fun h=>h hn.symm),hn]
    simp
  have hsp:=sumsS_prop (ringPl p.Kind round) n (askS p (segV 0 n G)).1 (askS p (segV 0 n G)).2 (fun i=>lkI (rowI T i)) (lkI (outI n fun i=>tellG p round i (G i))) n
  generalize sumsS (ringPl p.Kind round) n n (askS p (segV 0 n G)).1 (askS p (segV 0 n G)).2 (fun i=>lkI (rowI T i)) (lkI (outI n fun i=>tellG p round i (G i)))=l at hx hsp
  obtain ⟨q1,q2,q3,q4,q5⟩:=hsp
  have hlk:∀ i:Nat,i<n→lk l i=if askG p (G i)=true then rowG p T n round G i else none:=by
    intro i hi
    rw [q5,ask_seg hn4 hi]
    by_cases ha:askG p (G i)=true
    · rw [if_pos ⟨by omega,by omega,ha⟩,if_pos ha]; rfl
    · rw [if_neg (fun h=>ha h.2.2),if_neg ha]
  have hy:stepY p T (segV 0 n G) round=if ∃ s∈l,(narS s.Val).2=false then (zV,12) else (⟨n,l.filterMap (nzI (ringPl p.Kind round))⟩,0):=by
    unfold stepY doneS
    rw [hx]
    simp only
    rw [if_neg (fun h=>h rfl),if_neg (fun h=>h hr),if_neg,if_neg (fun h=>h q1),hn]
    rintro (h | ⟨s,hs,h⟩)
    · exact h (by omega)
    · have:=q4 s hs; exact h (by omega)
  constructor
  · rintro ⟨v,w,hv,ha,hw,hb⟩
    have hm:(⟨(v:Int),w⟩:Sum)∈l:=lk_mem (by rw [hlk v hv,if_pos ha,hw])
    have:stepY p T (segV 0 n G) round=(zV,12):=by rw [hy,if_pos ⟨_,hm,hb⟩]
    unfold stepS
    rw [this,if_pos (by simp)]
  · intro hall
    have:stepY p T (segV 0 n G) round=(⟨n,l.filterMap (nzI (ringPl p.Kind round))⟩,0):=by
      rw [hy,if_neg]
      rintro ⟨s,hs,hb⟩
      have hin:=q4 s hs
      obtain ⟨v,hv⟩:∃ v:Nat,s.At=v:=⟨s.At.toNat,by omega⟩
      have h1:lk l v=some s.Val:=by rw [←hv]; exact mem_lk q1 hs
      have hv':v<n:=by omega
      rw [hlk v hv'] at h1
      split at h1
      · rename_i ha
        have:=hall v s.Val hv' ha h1
        rw [hb] at this; cases this
      · cases h1
    unfold stepS
    rw [this]
    simp only
    rw [if_neg (fun h=>h rfl),upd_seg (Y:=hearG p T n round G) hp (by omega) (nz_vecP ⟨by omega,by omega⟩ q1 q4) rfl]
    intro i hi
    simp only
    rw [nz_lk q1,hlk i hi,Nat.zero_add]
    unfold hearG
    split <;> rfl
theorem step_ok_iff {p:Plan} {T:List Triple} {n:Nat} {G:GV} {round:Int} (hp:rightPl p=0) (hn:p.N=n) (h:(stepS p T (segV 0 n G) round).2=0) :
    (∀ v w,v<n→askG p (G v)=true→rowG p T n round G v=some w→(narS w).2=true)∧stepS p T (segV 0 n G) round=(segV 0 n (nextG p round G (hearG p T n round G)),0):=by
  have hs:=step_seg (T:=T) (G:=G) (round:=round) hp hn
  have hall:∀ v w,v<n→askG p (G v)=true→rowG p T n round G v=some w→(narS w).2=true:=by
    intro v w hv ha hw
    cases hb:(narS w).2 with
    | true=>rfl
    | false=>rw [hs.1 ⟨v,w,hv,ha,hw,hb⟩] at h; cases h
  exact ⟨hall,hs.2 hall⟩
def GS (p:Plan) (T:List Triple) (n:Nat):Nat→GV
  | 0=>gV0 p
  | k+1=>nextG p ((k:Int)+1) (GS p T n k) (hearG p T n ((k:Int)+1) (GS p T n k))
theorem seq_seg {p:Plan} {T:List Triple} {limit:Int} {n:Nat} (hp:rightPl p=0) (hn:p.N=n):∀ {k:Nat},(∀ j,j<k→stopS p T limit j=0)→seqS p T k=segV 0 n (GS p T n k)
  | 0,_=>by
    show beginS p 0 p.N=segV 0 n (gV0 p)
    exact begin_seg hp rfl (by rw [hn]; omega) (by omega)
  | k+1,h=>by
    have ih:=seq_seg (k:=k) hp hn fun j hj=>h j (by omega)
    have:=(stop_go (h k (by omega))).2.2
    show (stepS p T (seqS p T k) ((k:Int)+1)).1=_
    rw [ih] at this ⊢
    rw [(step_ok_iff hp hn this).2]
    rfl
theorem outI_lk (f:Nat→Int×Bool) (j:Nat):∀ n:Nat,lkI (outI n f) (j:Int)=if j<n∧(f j).2=true then some (f j).1 else none
  | 0=>by rw [if_neg (by omega)]; rfl
  | n+1=>by
    rw [outI_succ]
    by_cases hn:(f n).2=true
    · rw [if_pos hn,lkI_append,outI_lk f j n,lkI_cons]
      by_cases e:j=n
      · subst e
        rw [if_neg (fun h=>by omega),if_pos rfl,if_pos ⟨by omega,hn⟩]
      · rw [if_neg (show ¬(j:Int)=(n:Int) by omega)]
        by_cases h:j<n∧(f j).2=true
        · rw [if_pos h,if_pos ⟨by omega,h.2⟩]
        · rw [if_neg h,if_neg (fun h'=>h ⟨by omega,h'.2⟩)]; rfl
    · rw [if_neg hn,outI_lk f j n]
      by_cases h:j<n∧(f j).2=true
      · rw [if_pos h,if_pos ⟨by omega,h.2⟩]
      · rw [if_neg h,if_neg]
        rintro ⟨h1,h2⟩
        by_cases e:j=n
        · subst e; exact hn h2
        · exact h ⟨by omega,h2⟩
theorem rowT_look {rows cols:Int} {T:List Triple} (h:Canon rows cols T) {i j a:Int} (hi:0≤i):lkI (rowI T i) j=some a↔(⟨i,j,a⟩:Triple)∈T:=by
  have hinc:IncI ((segS T i.toNat).map itS):=by
    unfold IncI segS
    rw [List.pairwise_map]
    refine List.Pairwise.imp_of_mem ?_ (List.Pairwise.filter _ h.srt)
    intro a b ha hb hab
    have h1:=of_decide_eq_true (List.mem_filter.1 ha).2
    have h2:=of_decide_eq_true (List.mem_filter.1 hb).2
    unfold ltK key at hab
    simp only [itS]
    simp only at hab
    omega
  unfold rowI
  rw [lkI_iff hinc,List.mem_map]
  unfold segS
  constructor
  · rintro ⟨t,ht,he⟩
    obtain ⟨h1,h2⟩:=List.mem_filter.1 ht
    have h3:=of_decide_eq_true h2
    unfold itS at he
    obtain ⟨tr,tc,tv⟩:=t
    simp only [Item.mk.injEq] at he h3
    obtain ⟨rfl,rfl⟩:=he
    rw [show i=tr by omega]
    exact h1
  · intro ht
    exact ⟨_,List.mem_filter.2 ⟨ht,by simp; omega⟩,rfl⟩
structure MatP (p:Plan) (n:Nat) (T:List Triple):Prop where
  can:Canon n n T
  pos:∀ t∈T,0≤t.Val
  ini:∀ t∈T,inI t.Val
  loop:p.Kind=5→∀ t∈T,t.Row≠t.Col
theorem ins1_src {k:Key} {v:Wide}:∀ {l:List (Key×Wide)} {p:Key×Wide},p∈ins 1 k v l→p=(k,v)∨p∈l
  | [],p,h=>by simp [ins] at h; exact .inl h
  | q :: l,p,h=>by
    unfold ins at h
    split at h
    · rcases List.mem_cons.1 h with rfl | h
      · exact .inr (by simp)
      · rcases ins1_src h with h | h
        · exact .inl h
        · exact .inr (by simp [h])
    · split at h
      · rename_i hk
        rcases List.mem_cons.1 h with rfl | h
        · unfold addW
          rw [if_pos (.inl rfl)]
          split
          · right
            obtain ⟨q1,q2⟩:=q
            simp only at hk
            subst hk; simp
          · exact .inl rfl
        · exact .inr (by simp [h])
      · rcases List.mem_cons.1 h with rfl | h
        · exact .inl rfl
        · exact .inr h
theorem SC1_src:∀ {ts:List (Key×Int)} {p:Key×Wide},p∈SC 1 ts→∃ t∈ts,p=(t.1,ofI t.2):=by
  suffices ∀ (ts:List (Key×Int)) (l:List (Key×Wide)) p,p∈ts.foldl (fun l t=>ins 1 t.1 (ofI t.2) l) l→(∃ t∈ts,p=(t.1,ofI t.2))∨p∈l from fun {ts p} h=>by
    rcases this ts [] p h with h | h
    · exact h
    · simp at h
  intro ts
  induction ts with
  | nil=>intro l p h; exact .inr h
  | cons t ts ih=>
    intro l p h
    rcases ih _ _ h with ⟨x,hx,e⟩ | hq
    · exact .inl ⟨x,by simp [hx],e⟩
    · rcases ins1_src hq with e2 | h2
      · exact .inl ⟨t,by simp,e2⟩
      · exact .inr h2
theorem canon_src {es:List Edge} (hv:∀ e∈es,inI e.W) {e:Edge} (he:e∈canonS es):e∈es:=by
  unfold canonS finS at he
  split at he
  · obtain ⟨p,hp,rfl⟩:=List.mem_map.1 he
    obtain ⟨t,ht,rfl⟩:=SC1_src hp
    obtain ⟨x,hx,rfl⟩:=List.mem_map.1 ht
    simp only [kvE]
    rw [nar_ofI (hv x hx)]
    exact hx
  · cases he
theorem graph_src {g:Graph} (hv:∀ e∈g.Edges,inI e.W) {t:Triple} (ht:t∈graphT g):∃ e∈g.Edges,t=⟨e.To,e.From,e.W⟩:=by
  unfold graphT finS at ht
  split at ht
  · obtain ⟨p,hp,rfl⟩:=List.mem_map.1 ht
    obtain ⟨q,hq,rfl⟩:=SC1_src hp
    obtain ⟨x,hx,rfl⟩:=List.mem_map.1 hq
    refine ⟨x,hx,?_⟩
    simp only [kvF]
    rw [nar_ofI (hv x hx)]
    rfl
  · cases ht
def goodE (n:Int) (es:List Edge):Prop:=∀ e∈es,inE n e∧wOk e
theorem goodE_in {n:Int} {es:List Edge} (h:goodE n es):∀ e∈es,inI e.W:=fun e he=>by have:=(h e he).2; unfold wOk at this; unfold inI; omega
theorem goodE_canon {n:Int} {es:List Edge} (h:goodE n es):goodE n (canonS es):=fun e he=>h e (canon_src (goodE_in h) he)
theorem goodE_one {n:Int} {es:List Edge} (h:goodE n es):goodE n (es.map oneE):=fun e he=>by
  obtain ⟨x,hx,rfl⟩:=List.mem_map.1 he
  exact ⟨(h x hx).1,by unfold wOk oneE; simp⟩
theorem goodE_flip {n:Int} {es:List Edge} (h:goodE n es):goodE n (es.map flipE):=fun e he=>by
  obtain ⟨x,hx,rfl⟩:=List.mem_map.1 he
  have:=h x hx
  exact ⟨⟨this.1.2,this.1.1⟩,this.2⟩
theorem goodE_app {n:Int} {xs ys:List Edge} (h:goodE n xs) (h':goodE n ys):goodE n (xs++ys):=fun e he=>by
  rcases List.mem_append.1 he with h1 | h1
  · exact h e h1
  · exact h' e h1
theorem right_good {g:Graph} (h:rightG g=0):goodE g.N g.Edges:=fun e he=>⟨(rightG_zero h).2.2.2.1 e he,(rightG_zero h).2.2.2.2 e he⟩
theorem good_right {g:Graph} (h0:0≤g.N∧g.N≤4096) (hl:g.Edges.length≤65536) (h:goodE g.N g.Edges):rightG g=0:=by
  unfold rightG
  rw [if_neg (by omega),if_neg (by omega),if_neg (fun h'=>h' fun e he=>(h e he).1),if_neg (fun h'=>h' fun e he=>(h e he).2)]
def noL (es:List Edge):Prop:=∀ e∈es,e.From≠e.To
def namG (p:Plan) (g:Graph):Graph:=if p.Kind=5 then plainG (bothG (simpG g)) else if p.Kind=3 then plainG (bothG g) else if p.Kind=1 then plainG g else g
theorem plain_good {g:Graph} (h:goodE g.N g.Edges):goodE (plainG g).N (plainG g).Edges∧(plainG g).Edges.length≤g.Edges.length∧(noL g.Edges→noL (plainG g).Edges):=by
  refine ⟨goodE_canon (goodE_one h),?_,fun hn e he=>?_⟩
  · have:=canon_len (goodE_in (goodE_one h)); rwa [List.length_map] at this
  · have:=canon_src (goodE_in (goodE_one h)) he
    obtain ⟨x,hx,rfl⟩:=List.mem_map.1 this
    exact hn x hx
theorem both_good {g:Graph} (h:goodE g.N g.Edges):goodE (bothG g).N (bothG g).Edges∧(bothG g).Edges.length≤2*g.Edges.length∧(noL g.Edges→noL (bothG g).Edges):=by
  have ht:goodE g.N (turnG g).Edges:=goodE_canon (goodE_flip h)
  have ha:=goodE_app h ht
  refine ⟨goodE_canon ha,?_,fun hn e he=>?_⟩
  · have h1:=canon_len (goodE_in ha)
    have h2:=canon_len (goodE_in (goodE_flip h))
    rw [List.length_append] at h1
    rw [List.length_map] at h2
    have:(turnG g).Edges.length≤g.Edges.length:=h2
    show (canonS _).length≤_
    omega
  · rcases List.mem_append.1 (canon_src (goodE_in ha) he) with h1 | h1
    · exact hn e h1
    · obtain ⟨x,hx,rfl⟩:=List.mem_map.1 (canon_src (goodE_in (goodE_flip h)) h1)
      exact fun e=>hn x hx e.symm
theorem simp_good {g:Graph} (h:goodE g.N g.Edges):goodE (simpG g).N (simpG g).Edges∧(simpG g).Edges.length≤g.Edges.length∧noL (simpG g).Edges:=by
  have hf:goodE g.N (g.Edges.filter notLoop):=fun e he=>h e (List.mem_filter.1 he).1
  refine ⟨goodE_canon hf,?_,fun e he=>?_⟩
  · have h1:=canon_len (goodE_in hf)
    have h2:=List.length_filter_le notLoop g.Edges
    show (canonS _).length≤_
    omega
  · have:=(List.mem_filter.1 (canon_src (goodE_in hf) he)).2
    unfold notLoop at this
    simpa using this
theorem nam_good {p:Plan} {g:Graph} (h:goodE g.N g.Edges):(namG p g).N=g.N∧goodE g.N (namG p g).Edges∧(namG p g).Edges.length≤2*g.Edges.length∧(p.Kind=5→noL (namG p g).Edges):=by
  unfold namG
  have hs:=simp_good h
  have hb:=both_good h
  have hsb:=both_good hs.1
  have hp:=plain_good h
  have hbp:=plain_good hb.1
  have hsp:=plain_good hsb.1
  by_cases h5:p.Kind=5
  · rw [if_pos h5]
    exact ⟨rfl,hsp.1,by have:=hsp.2.1; have:=hsb.2.1; have:=hs.2.1; omega,fun _=>hsp.2.2 (hsb.2.2 hs.2.2)⟩
  · rw [if_neg h5]
    by_cases h3:p.Kind=3
    · rw [if_pos h3]; exact ⟨rfl,hbp.1,by have:=hbp.2.1; have:=hb.2.1; omega,fun h=>absurd h h5⟩
    · rw [if_neg h3]
      by_cases h1:p.Kind=1
      · rw [if_pos h1]; exact ⟨rfl,hp.1,by have:=hp.2.1; omega,fun h=>absurd h h5⟩
      · rw [if_neg h1]; exact ⟨rfl,h,by omega,fun h=>absurd h h5⟩
theorem mat_is {p:Plan} {g:Graph} (hp:rightPl p=0) (hn:g.N=p.N) (hg:rightG g=0) (hl:g.Edges.length≤30000):matS p g=(builtS p.N p.N (graphT (namG p g)),0)∧rightG (namG p g)=0:=by
  have hz:=rightG_zero hg
  have hgd:=nam_good (p:=p) (right_good hg)
  have hr:rightG (namG p g)=0:=good_right (by omega) (by omega) (by rw [hgd.1]; exact hgd.2.1)
  refine ⟨?_,hr⟩
  unfold matS
  rw [if_neg (fun h=>h hp),if_neg (fun h=>h hn),if_neg (fun h=>h hg)]
  show graphS (namG p g)=_
  unfold graphS
  rw [if_pos hr,hgd.1,hn]
theorem mat_P {p:Plan} {g:Graph} {n:Nat} (hp:rightPl p=0) (hn:g.N=p.N) (hN:p.N=n) (hg:rightG g=0) (hl:g.Edges.length≤30000):MatP p n (graphT (namG p g)):=by
  have hgd:=nam_good (p:=p) (right_good hg)
  have hr:=(mat_is hp hn hg hl).2
  have hc:=graph_canon hr
  rw [hgd.1,hn,hN] at hc
  refine ⟨hc,fun t ht=>?_,fun t ht=>?_,fun hk t ht=>?_⟩
  · obtain ⟨e,he,rfl⟩:=graph_src (goodE_in hgd.2.1) ht
    exact (hgd.2.1 e he).2.1
  · obtain ⟨e,he,rfl⟩:=graph_src (goodE_in hgd.2.1) ht
    exact goodE_in hgd.2.1 e he
  · obtain ⟨e,he,rfl⟩:=graph_src (goodE_in hgd.2.1) ht
    exact fun h=>hgd.2.2.2 hk e he h.symm
theorem ask_okF (p:Plan) (s:State):okF (askS p s).1:=by
  unfold askS
  repeat' split
  · exact (ofF_prop _ _).1
  · exact (ofF_prop _ _).1
  · simp [okF]
theorem at0_inI {l:List Int} (h:∀ x∈l,inI x) (i:Nat):inI (at0 l i):=by
  by_cases hl:i<l.length
  · have:at0 l i=l[i]:=by unfold at0; simp [hl]
    rw [this]; exact h _ (List.getElem_mem hl)
  · rw [at0_over (by omega)]; unfold inI; omega
theorem Whole.out {p:Plan} {s:State} (h:Whole p s) (round:Int):VecP (outVS p s round)∧(∀ y∈(outVS p s round).Items,inI y.Val)∧(outVS p s round).N=p.N:=by
  have hz:=rightPl_zero h.st.1
  have e:((sizN s:Nat):Int)=s.High - s.Low:=by unfold sizN; have:=h.lo; have:=h.hi; omega
  have hlo:=h.lo; have hhi:=h.hi
  unfold outVS
  rw [h.sure]
  refine ⟨?_,fun y hy=>?_,by simp only; omega⟩
  · have:=out_vecP (n:=sizN s) (by omega) (tellsS p s round)
    rw [e] at this; exact this
  · obtain ⟨i,hi,he⟩:=List.mem_filterMap.1 (show y∈outI _ _ from hy)
    have hi:=List.mem_range.1 hi
    split at he
    · cases he
      have ha:=at0_inI h.va i
      show inI (tellsS p s round i).1
      unfold tellsS
      repeat' split
      · unfold inI; simp only; omega
      · unfold inI; simp only; omega
      · have hd:0≤dnum p round (s.Low+i)∧dnum p round (s.Low+i)≤17592186044416:=by
          unfold dnum numS
          split
          · have:=dv_in hz.2.2.2.2.2 ((round - 1) / 2*p.N+(s.Low+i)); omega
          · omega
        unfold inI; simp only; omega
      · exact ha
    · cases he
theorem Whole.ask {p:Plan} {s:State} {round:Int} {Q:List Int×Bool→Prop} (h:Whole p s) (hQ:Q (askS p s)):prog_Asked p s round Q:=prog_Asked_ok h.ok (by rw [h.sure]; exact hQ)
theorem mat_T {p:Plan} {g:Graph} (h:(matS p g).2=0):rightPl p=0∧g.N=p.N∧rightG g=0∧∃ T,Canon p.N p.N T∧(∀ t∈T,inI t.Val)∧matS p g=(builtS p.N p.N T,0):=by
  unfold matS at h ⊢
  by_cases h1:rightPl p≠0
  · rw [if_pos h1] at h; exact absurd h h1
  rw [if_neg h1] at h ⊢
  by_cases h2:g.N≠p.N
  · rw [if_pos h2] at h; cases h
  rw [if_neg h2] at h ⊢
  by_cases h3:rightG g≠0
  · rw [if_pos h3] at h; exact absurd h h3
  rw [if_neg h3] at h ⊢
  have h1:=Decidable.of_not_not h1; have h2:=Decidable.of_not_not h2; have h3:=Decidable.of_not_not h3
  refine ⟨h1,h2,h3,?_⟩
  have hN:(if p.Kind=5 then plainG (bothG (simpG g)) else if p.Kind=3 then plainG (bothG g) else if p.Kind=1 then plainG g else g).N=p.N:=by
    repeat' split
    all_goals exact h2
  generalize (if p.Kind=5 then plainG (bothG (simpG g)) else if p.Kind=3 then plainG (bothG g) else if p.Kind=1 then plainG g else g)=G at h hN ⊢
  unfold graphS at h ⊢
  by_cases hG:rightG G=0
  · rw [if_pos hG]
    have hc:=graph_canon hG
    rw [hN] at hc ⊢
    refine ⟨_,hc,fun t ht=>?_,rfl⟩
    unfold graphT finS at ht
    split at ht
    · obtain ⟨p,_,rfl⟩:=List.mem_map.1 ht
      exact nar_inI p.2
    · cases ht
  · rw [if_neg hG] at h; exact absurd h hG
def checkS (p:Plan) (g:Graph) (limit:Int):Int:=if (matS p g).2≠0 then (matS p g).2 else if limit<0∨8192<limit then 3 else 0
theorem model_Check_ok {p:Plan} {g:Graph} {limit:Int} {Q:Int→Prop} (hQ:Q (checkS p g limit)):model_Check p g limit Q:=by
  unfold model_Check
  unfold checkS at hQ
  refine prog_Matrix_ok (ifP_ne (fun h=>by rwa [if_pos h] at hQ) (fun h=>?_))
  rw [if_neg (fun h'=>h' h)] at hQ
  exact ifP_dec (fun h1=>by rwa [if_pos (.inl h1)] at hQ) (fun h1=>ifP_dec (fun h2=>by rwa [if_pos (.inr h2)] at hQ) (fun h2=>by rwa [if_neg (by omega)] at hQ))
theorem ends_loop {S:Type} {p:Plan} {T:List Triple} {limit:Int} {n:Nat} {st:Int} (hp:rightPl p=0) (hl:0≤limit∧limit≤8192) (E:Ends p T limit n st) {body:S→(S→Prop)→Prop} {enc:Nat→S}
    (hgo:∀ k next,k<n→Whole p (seqS p T k)→liveS p (seqS p T k) k≠0→(k:Int)≠limit→stepS p T (seqS p T k) ((k:Int)+1)=(seqS p T (k+1),0)→next (enc (k+1))→body (enc k) next)
    (hend:∀ next,Whole p (seqS p T n)→stopS p T limit n=st→body (enc n) next):loopP body (enc 0):=by
  refine range_intro (fun (s:Unit) i=>enc i.toNat) 0 n (by have:=E.le; omega) (fun _ _=>True) (by omega) (s0:=()) trivial (fun i s next _ hi _ hn=>?_) (fun s next _=>?_)
  · have hg:=stop_go (E.lt i hi)
    have hw:=seq_whole hp hl (k:=i) fun j hj=>E.lt j (by omega)
    have hn:=hn () trivial
    have e:(w64 ((i:Int)+1)).toNat=i+1:=by rw [w64_id (by omega) (by have:=E.le; omega)]; omega
    simp only [e] at hn
    simp only [Int.toNat_natCast]
    refine hgo i next hi hw hg.1 hg.2.1 ?_ hn
    have:(stepS p T (seqS p T i) ((i:Int)+1)).1=seqS p T (i+1):=rfl
    rw [←this,←hg.2.2]
  · simp only [Int.toNat_natCast]
    exact hend next (seq_whole hp hl (k:=n) fun j hj=>E.lt j hj) E.at_
def lastS (p:Plan) (T:List Triple) (n:Nat) (st:Int):Result:=⟨st,n,seqS p T n⟩
theorem stop_is {p:Plan} {T:List Triple} {limit:Int} {k:Nat} {st:Int} (hs:st≠0) (h:stopS p T limit k=st):(liveS p (seqS p T k) k=0∧st=1)∨(liveS p (seqS p T k) k≠0∧(k:Int)=limit∧st=2)∨(liveS p (seqS p T k) k≠0∧(k:Int)≠limit∧(stepS p T (seqS p T k) ((k:Int)+1)).2≠0∧st=3):=by
  unfold stopS at h
  split at h
  · rename_i h1; exact .inl ⟨h1,h.symm⟩
  · split at h
    · rename_i h1 h2; exact .inr (.inl ⟨h1,h2,h.symm⟩)
    · split at h
      · rename_i h1 h2 h3; exact .inr (.inr ⟨h1,h2,h3,h.symm⟩)
      · exact absurd h.symm hs
structure MRun (p:Plan) (g:Graph) (limit:Int) (T:List Triple) (n:Nat) (st:Int):Prop where
  rp:rightPl p=0
  cn:Canon p.N p.N T
  vs:∀ t∈T,inI t.Val
  mt:matS p g=(builtS p.N p.N T,0)
  lm:0≤limit∧limit≤8192
  en:Ends p T limit n st
theorem MRun.check {p:Plan} {g:Graph} {limit:Int} {T:List Triple} {n:Nat} {st:Int} (R:MRun p g limit T n st):checkS p g limit=0:=by
  unfold checkS
  rw [R.mt,if_neg (by simp),if_neg (by have:=R.lm; omega)]
theorem step_of {p:Plan} {T:List Triple} {s s':State} {round:Int} {x y:Vec} {l:List Sum} (ho:outVS p s round=x) (hx:sumsR (ringPl p.Kind round) p.N p.N T x (askS p s).1 (askS p s).2=(l,0)) (hy:doneS (ringPl p.Kind round) p.N l=(y,0)) (hu:updS p s round y=s'):stepS p T s round=(s',0):=by
  have e1:stepX p T s round=(l,0):=by unfold stepX; rw [ho]; exact hx
  have e2:stepY p T s round=(y,0):=by unfold stepY; rw [e1,if_neg (by simp)]; exact hy
  unfold stepS
  rw [e2,if_neg (by simp),hu]
def ltE (a b:Edge):Prop:=ltK (a.From,a.To) (b.From,b.To)
theorem canon_srt {es:List Edge} (h:∀ e∈es,inI e.W):(canonS es).Pairwise ltE:=by
  unfold canonS
  rw [fin_one (fun t ht=>by obtain ⟨e,he,rfl⟩:=List.mem_map.1 ht; exact h e he)]
  simp only
  rw [List.pairwise_map]
  exact (SC_srt 1 (es.map kvE)).imp fun {a b} hab=>hab
theorem canon_self {es:List Edge} (h:∀ e∈es,inI e.W) (hs:es.Pairwise ltE):canonS es=es:=by
  have e1:es.map kvE=(es.map e2t).map kvT:=by rw [List.map_map]; rfl
  have hs':Srt (es.map e2t):=by
    unfold Srt
    rw [List.pairwise_map]
    exact hs.imp fun {a b} hab=>hab
  unfold canonS
  rw [fin_one (fun t ht=>by obtain ⟨e,he,rfl⟩:=List.mem_map.1 ht; exact h e he)]
  simp only
  rw [e1,SC_self hs',List.map_map,List.map_map]
  conv=>rhs; rw [←List.map_id es]
  refine List.map_congr_left fun e he=>?_
  simp only [Function.comp_apply,e2t,key,id_eq]
  rw [nar_ofI (h e he)]
  rfl
theorem graph_mem {g:Graph} (h:∀ e∈g.Edges,inI e.W) {t:Triple}:t∈graphT g↔(⟨t.Col,t.Row,t.Val⟩:Edge)∈canonS g.Edges:=by
  have hv1:∀ t∈g.Edges.map kvE,inI t.2:=fun t ht=>by obtain ⟨e,he,rfl⟩:=List.mem_map.1 ht; exact h e he
  have hv2:∀ t∈g.Edges.map kvF,inI t.2:=fun t ht=>by obtain ⟨e,he,rfl⟩:=List.mem_map.1 ht; exact h e he
  unfold graphT canonS
  rw [fin_one hv1,fin_one hv2]
  simp only
  rw [List.mem_map,List.mem_map]
  constructor
  · rintro ⟨p,hp,rfl⟩
    obtain ⟨q,hq,rfl⟩:=List.mem_map.1 ((sw_perm g.Edges).mem_iff.2 hp)
    exact ⟨q,hq,rfl⟩
  · rintro ⟨q,hq,he⟩
    refine ⟨sw q,(sw_perm g.Edges).mem_iff.1 (List.mem_map_of_mem hq),?_⟩
    obtain ⟨tr,tc,tv⟩:=t
    unfold mkE at he
    simp only [Edge.mk.injEq] at he
    obtain ⟨h1,h2,h3⟩:=he
    unfold mkT sw
    simp only [Triple.mk.injEq]
    exact ⟨h2,h1,h3⟩
def linkS (p:Plan) (g:Graph):List Edge:=if p.Kind=5∨p.Kind=3∨p.Kind=1 then (namG p g).Edges else canonS g.Edges
structure LinkP (n:Nat) (l:List Edge) (T:List Triple):Prop where
  good:goodE n l
  srt:l.Pairwise ltE
  mem:∀ t:Triple,t∈T↔(⟨t.Col,t.Row,t.Val⟩:Edge)∈l
theorem nam_edges {p:Plan} {g:Graph}:(p.Kind=5∨p.Kind=3∨p.Kind=1)→goodE g.N g.Edges→∃ es,goodE g.N es∧(namG p g).Edges=canonS es:=by
  intro hk h
  unfold namG
  by_cases h5:p.Kind=5
  · rw [if_pos h5]; exact ⟨_,goodE_one (both_good (simp_good h).1).1,rfl⟩
  · rw [if_neg h5]
    by_cases h3:p.Kind=3
    · rw [if_pos h3]; exact ⟨_,goodE_one (both_good h).1,rfl⟩
    · rw [if_neg h3,if_pos (by omega)]; exact ⟨_,goodE_one h,rfl⟩
theorem link_P {p:Plan} {g:Graph} {n:Nat} (hn:g.N=n) (hg:goodE g.N g.Edges):LinkP n (linkS p g) (graphT (namG p g)):=by
  have hgd:=nam_good (p:=p) hg
  by_cases hk:p.Kind=5∨p.Kind=3∨p.Kind=1
  · obtain ⟨es,h1,h2⟩:=nam_edges hk hg
    have hl:linkS p g=canonS es:=by unfold linkS; rw [if_pos hk,h2]
    have hs:=canon_srt (goodE_in h1)
    rw [hl]
    refine ⟨hn▸goodE_canon h1,hs,fun t=>?_⟩
    rw [graph_mem (goodE_in hgd.2.1),h2,canon_self (goodE_in (goodE_canon h1)) hs]
  · have hl:linkS p g=canonS g.Edges:=if_neg hk
    have hnm:namG p g=g:=by unfold namG; rw [if_neg (by omega),if_neg (by omega),if_neg (by omega)]
    rw [hl,hnm]
    exact ⟨hn▸goodE_canon hg,canon_srt (goodE_in hg),fun t=>graph_mem (goodE_in hg)⟩
def letS (r:Int) (x:List Item) (e:Edge):Option Wide:=(lkI x e.From).map (mulW r e.W)
def mailS (r:Int) (x:List Item) (l:List Edge) (v:Int):List Wide:=(l.filter fun e=>decide (e.To=v)).filterMap (letS r x)
def sumW (r:Int) (l:List Wide):Option Wide:=l.foldl (fun acc w=>cmb r acc (some w)) none
theorem row_links {n:Nat} {l:List Edge} {T:List Triple} (hT:Canon n n T) (h:LinkP n l T) {v:Nat}:rowI T v=(l.filter fun e=>decide (e.To=(v:Int))).map fun e=>(⟨e.From,e.W⟩:Item):=by
  have h1:IncI (rowI T (v:Int)):=by
    unfold IncI rowI segS
    rw [List.pairwise_map]
    refine List.Pairwise.imp_of_mem ?_ (List.Pairwise.filter _ hT.srt)
    intro a b ha hb hab
    have h1:=of_decide_eq_true (List.mem_filter.1 ha).2
    have h2:=of_decide_eq_true (List.mem_filter.1 hb).2
    unfold ltK key at hab
    simp only [itS]
    simp only at hab
    omega
  have h2:IncI ((l.filter fun e=>decide (e.To=(v:Int))).map fun e=>(⟨e.From,e.W⟩:Item)):=by
    unfold IncI
    rw [List.pairwise_map]
    refine List.Pairwise.imp_of_mem ?_ (List.Pairwise.filter _ h.srt)
    intro a b ha hb hab
    have h1:=of_decide_eq_true (List.mem_filter.1 ha).2
    have h2:=of_decide_eq_true (List.mem_filter.1 hb).2
    unfold ltE ltK at hab
    simp only at hab ⊢
    omega
  refine inc_ext h1 h2 fun i=>opt_ext fun a=>?_
  rw [rowT_look hT (by omega),lkI_iff h2,h.mem,List.mem_map]
  constructor
  · intro he
    exact ⟨_,List.mem_filter.2 ⟨he,by simp⟩,rfl⟩
  · rintro ⟨e,he,hx⟩
    obtain ⟨h3,h4⟩:=List.mem_filter.1 he
    have h5:=of_decide_eq_true h4
    obtain ⟨ef,et,ew⟩:=e
    simp only [Item.mk.injEq] at hx h5
    obtain ⟨rfl,rfl⟩:=hx
    subst h5
    exact h3
theorem fold_letters (r:Int) (x:List Item):∀ (l:List Edge) (acc:Option Wide),(l.map fun e=>(⟨e.From,e.W⟩:Item)).foldl (stepI r (lkI x)) acc=(l.filterMap (letS r x)).foldl (fun acc w=>cmb r acc (some w)) acc
  | [],_=>rfl
  | e :: l,acc=>by
    rw [List.map_cons,List.foldl_cons,fold_letters r x l,List.filterMap_cons]
    unfold letS stepI
    simp only
    cases lkI x e.From with
    | none=>rfl
    | some y=>rfl
theorem row_mail {p:Plan} {n:Nat} {l:List Edge} {T:List Triple} {round:Int} {G:GV} (hT:Canon n n T) (h:LinkP n l T) (v:Nat) :
    rowG p T n round G v=sumW (ringPl p.Kind round) (mailS (ringPl p.Kind round) (outI n fun i=>tellG p round i (G i)) l v):=by
  have hrl:=row_links hT h (v:=v)
  unfold rowG
  rw [←row_fold (n:=n) (l:=rowI T v) (by
    rw [hrl]
    unfold IncI
    rw [List.pairwise_map]
    refine List.Pairwise.imp_of_mem ?_ (List.Pairwise.filter _ h.srt)
    intro a b ha hb hab
    have h1:=of_decide_eq_true (List.mem_filter.1 ha).2
    have h2:=of_decide_eq_true (List.mem_filter.1 hb).2
    unfold ltE ltK at hab
    simp only at hab ⊢
    omega) (fun x hx=>by
      rw [hrl] at hx
      obtain ⟨e,he,rfl⟩:=List.mem_map.1 hx
      exact (h.good e (List.mem_filter.1 he).1).1.1),hrl,fold_letters]
  rfl
theorem sum_okO {r:Int}:∀ {l:List Wide} {acc:Option Wide},(∀ w∈l,okW w)→okO acc→okO (l.foldl (fun acc w=>cmb r acc (some w)) acc)
  | [],_,_,h=>h
  | w :: l,acc,hl,h=>by
    rw [List.foldl_cons]
    refine sum_okO (l:=l) (fun x hx=>hl x (List.mem_cons_of_mem _ hx)) ?_
    have hw:=hl w List.mem_cons_self
    intro x hx
    cases acc with
    | none=>cases hx; exact hw
    | some a=>cases hx; exact addW_okW (h a rfl) hw
theorem mail_okW {r:Int} {x:List Item} {l:List Edge} {v:Int}:∀ w∈mailS r x l v,okW w:=fun w hw=>by
  obtain ⟨e,_,he⟩:=List.mem_filterMap.1 hw
  unfold letS at he
  cases hx:lkI x e.From with
  | none=>rw [hx] at he; cases he
  | some y=>rw [hx] at he; cases he; exact mulW_okW _ _ _
end Go.Proofs.YtaefnmlbnkmahaaGreat
