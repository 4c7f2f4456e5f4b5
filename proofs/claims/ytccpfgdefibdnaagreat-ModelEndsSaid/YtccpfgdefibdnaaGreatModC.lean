import Derived.Test.YtccpfgdefibdnaaGreatPlnG
namespace Go.Proofs.YtccpfgdefibdnaaGreat
open Go Go.Fw
set_option linter.unusedVariables false
set_option linter.unusedSimpArgs false
abbrev GV:=Nat→Int×Int×Bool
def segV (l n:Nat) (G:GV):State:=chS (l:Int) ((l+n:Nat):Int) n fun i=>G (l+i)
theorem seg_StP {p:Plan} {l n:Nat} {G:GV} (hp:rightPl p=0) (h:((l+n:Nat):Int)≤p.N):StP p (segV l n G)∧okSt (segV l n G)∧lenSt (segV l n G):=by
  have h1:=chS_StP (p:=p) (low:=(l:Int)) (high:=((l+n:Nat):Int)) (g:=fun i=>G (l+i)) hp (by omega) (by omega) h
  rw [show (((l+n:Nat):Int) - (l:Int)).toNat=n by omega] at h1
  have h2:=chS_ok (l:Int) ((l+n:Nat):Int) n fun i=>G (l+i)
  exact ⟨h1,h2,lenSt_of h1 h2⟩
def gV0 (p:Plan):GV:=fun v=>((firstS p v).1,-1,(firstS p v).2)
theorem begin_seg {p:Plan} {l n:Nat} {a b:Int} (hp:rightPl p=0) (ha:a=l) (hb:b=((l+n:Nat):Int)) (h:b≤p.N):beginS p a b=segV l n (gV0 p):=by
  subst ha hb
  unfold beginS segV
  rw [if_pos ⟨hp,by omega,by omega,h⟩,show (((l+n:Nat):Int) - (l:Int)).toNat=n by omega]
  refine congrArg _ (funext fun i=>?_)
  unfold gV0
  rw [show ((l+i:Nat):Int)=(l:Int)+i by omega]
def behG (p:Plan) (round:Int) (v:Nat) (g:Int×Int×Bool) (o:Option Int):Int×Int×Bool:=
  if p.Kind=1 then (if (getO o).2=true∧g.1 = -1 then (round,(getO o).1,true) else (g.1,g.2.1,false))
  else if p.Kind=2∨p.Kind=3 then (if (getO o).2=true∧(getO o).1<g.1 then ((getO o).1,g.2.1,true) else (g.1,g.2.1,false))
  else if p.Kind=4 then ((getO o).1,g.2.1,(getO o).1 != 0)
  else if g.1≠0 then (g.1,g.2.1,false)
  else if round % 2=0 then (if (getO o).2=true then (2,g.2.1,false) else (g.1,g.2.1,false))
  else if (getO o).2=false∨dnum p round v<(getO o).1 then (1,g.2.1,true) else (g.1,g.2.1,false)
theorem beh_seg {p:Plan} {l n i:Nat} {G:GV} {round:Int} {o:Option Int} (hi:i<n):behS p (segV l n G) round i o=behG p round (l+i) (G (l+i)) o:=by
  have e1:at0 (segV l n G).A i=(G (l+i)).1:=mapN_at hi
  have e2:at0 (segV l n G).B i=(G (l+i)).2.1:=mapN_at hi
  have e3:(segV l n G).Low+(i:Int)=((l+i:Nat):Int):=by show (l:Int)+i=_; omega
  unfold behS behG
  simp only [e1,e2,e3]
def nextG (p:Plan) (round:Int) (G:GV) (Y:Nat→Option Int):GV:=fun v=>behG p round v (G v) (Y v)
theorem chS_congr {low high:Int} {n:Nat} {g g':Nat→Int×Int×Bool} (h:∀ i,i<n→g i=g' i):chS low high n g=chS low high n g':=by
  unfold chS
  rw [mapN_congr fun i hi=>congrArg (·.1) (h i hi),mapN_congr fun i hi=>congrArg (·.2.1) (h i hi),onsN_congr fun i hi=>congrArg (·.2.2) (h i hi)]
theorem upd_seg {p:Plan} {l n:Nat} {G:GV} {round:Int} {y:Vec} {Y:Nat→Option Int} (hp:rightPl p=0) (h:((l+n:Nat):Int)≤p.N) (hy:VecP y) (hn:y.N=n) (hY:∀ i,i<n→lkI y.Items i=Y (l+i)) :
    updS p (segV l n G) round y=segV l n (nextG p round G Y):=by
  have hs:sureSt p (segV l n G)=segV l n G:=if_pos (seg_StP hp h).1
  have e:(segV l n G).High - (segV l n G).Low=(n:Int):=by show ((l+n:Nat):Int) - (l:Int)=n; omega
  have e2:sizN (segV l n G)=n:=by unfold sizN; rw [e]; omega
  unfold updS
  rw [hs,if_pos ⟨hy,by rw [hn,e]⟩,e2]
  have hg:∀ i,i<n→newS p (segV l n G) round y i=nextG p round G Y (l+i):=fun i hi=>by
    unfold newS nextG
    rw [beh_seg hi,hY i hi]
  show chS (l:Int) ((l+n:Nat):Int) n _=chS (l:Int) ((l+n:Nat):Int) n _
  exact chS_congr hg
theorem onsN_mem {n i:Nat} {f:Nat→Bool}:(i:Int)∈onsN n f↔i<n∧f i=true:=by
  unfold onsN
  simp only [List.mem_map,List.mem_filter,List.mem_range]
  constructor
  · rintro ⟨j,⟨h1,h2⟩,h3⟩
    have:j=i:=by omega
    subst this; exact ⟨h1,h2⟩
  · rintro ⟨h1,h2⟩; exact ⟨i,⟨h1,h2⟩,rfl⟩
theorem of_ons {n i:Nat} {f:Nat→Bool} (hi:i<n) (hn:n≤4096):hasF (ofF n (onsN n f)) i=f i:=by
  rw [(ofF_prop _ _).2.2]
  cases hb:f i with
  | true=>exact decide_eq_true ⟨onsN_mem.2 ⟨hi,hb⟩,by omega,by omega,by omega⟩
  | false=>exact decide_eq_false fun h=>by have:=(onsN_mem.1 h.1).2; rw [hb] at this; cases this
def tellG (p:Plan) (round:Int) (v:Nat) (g:Int×Int×Bool):Int×Bool:=
  if p.Kind=1 then ((v:Int),g.2.2) else if p.Kind=5 then (if round % 2=0 then (1,g.2.2) else (dnum p round v,g.1==0)) else (g.1,g.2.2)
theorem outI_congr {n:Nat} {f g:Nat→Int×Bool} (h:∀ i,i<n→f i=g i):outI n f=outI n g:=by
  induction n with
  | zero=>rfl
  | succ n ih=>rw [outI_succ,outI_succ,ih fun i hi=>h i (by omega),h n (by omega)]
theorem out_seg {p:Plan} {l n:Nat} {G:GV} {round:Int} (hp:rightPl p=0) (h:((l+n:Nat):Int)≤p.N):outVS p (segV l n G) round=⟨n,outI n fun i=>tellG p round (l+i) (G (l+i))⟩:=by
  have hs:sureSt p (segV l n G)=segV l n G:=if_pos (seg_StP hp h).1
  have hn:=(rightPl_zero hp).2.1
  have e:(segV l n G).High - (segV l n G).Low=(n:Int):=by show ((l+n:Nat):Int) - (l:Int)=n; omega
  have e2:sizN (segV l n G)=n:=by unfold sizN; rw [e]; omega
  unfold outVS
  rw [hs,e,e2]
  congr 1
  refine outI_congr fun i hi=>?_
  have e1:at0 (segV l n G).A i=(G (l+i)).1:=mapN_at hi
  have e3:(segV l n G).Low+(i:Int)=((l+i:Nat):Int):=by show (l:Int)+i=_; omega
  have e4:hasF (segV l n G).On i=(G (l+i)).2.2:=of_ons hi (by omega)
  unfold tellsS tellG
  rw [e1,e3,e4]
theorem live_seg {p:Plan} {l n:Nat} {G:GV} {round:Int} (hp:rightPl p=0) (h:((l+n:Nat):Int)≤p.N) :
    liveS p (segV l n G) round=if p.Kind=4∧p.Length≤round then 0 else ((cntN n fun i=>if p.Kind=5 then (G (l+i)).1==0 else (G (l+i)).2.2:Nat):Int):=by
  have hs:sureSt p (segV l n G)=segV l n G:=if_pos (seg_StP hp h).1
  have hn:=(rightPl_zero hp).2.1
  have e:(segV l n G).High - (segV l n G).Low=(n:Int):=by show ((l+n:Nat):Int) - (l:Int)=n; omega
  have e2:sizN (segV l n G)=n:=by unfold sizN; rw [e]; omega
  unfold liveS liveN
  rw [hs,e2]
  have:cntN n (goesS p (segV l n G))=cntN n fun i=>if p.Kind=5 then (G (l+i)).1==0 else (G (l+i)).2.2:=cntN_congr fun i hi=>by
    have e1:at0 (segV l n G).A i=(G (l+i)).1:=mapN_at hi
    have e4:hasF (segV l n G).On i=(G (l+i)).2.2:=of_ons hi (by omega)
    unfold goesS
    rw [e1,e4]
  rw [this]
theorem outI_in {n:Nat} {f:Nat→Int×Bool} {x:Item} (h:x∈outI n f):0≤x.At∧x.At<n:=by
  unfold outI at h
  obtain ⟨i,hi,he⟩:=List.mem_filterMap.1 h
  have:=List.mem_range.1 hi
  split at he
  · cases he; simp only; omega
  · cases he
theorem outI_inc (n:Nat) (f:Nat→Int×Bool):IncI (outI n f):=by
  induction n with
  | zero=>exact List.Pairwise.nil
  | succ n ih=>
    rw [outI_succ]
    split
    · unfold IncI
      rw [List.pairwise_append]
      refine ⟨ih,by simp,fun x hx y hy=>?_⟩
      simp only [List.mem_singleton] at hy
      subst hy
      exact (outI_in hx).2
    · exact ih
theorem out_vecP {n:Nat} (hn:n≤4096) (f:Nat→Int×Bool):VecP ⟨n,outI n f⟩:=⟨by simp only; omega,by simp only; omega,outI_inc n f,fun x hx=>outI_in hx⟩
def stepX (p:Plan) (T:List Triple) (s:State) (round:Int):List Sum×Int:=sumsR (ringPl p.Kind round) p.N p.N T (outVS p s round) (askS p s).1 (askS p s).2
def stepY (p:Plan) (T:List Triple) (s:State) (round:Int):Vec×Int:=if (stepX p T s round).2≠0 then (zV,(stepX p T s round).2) else doneS (ringPl p.Kind round) p.N (stepX p T s round).1
def stepS (p:Plan) (T:List Triple) (s:State) (round:Int):State×Int:=if (stepY p T s round).2≠0 then (zSt,(stepY p T s round).2) else (updS p s round (stepY p T s round).1,0)
structure Whole (p:Plan) (s:State):Prop where
  st:StP p s
  ok:okSt s
  lo:s.Low=0
  hi:s.High=p.N
  va:∀ x∈s.A,inI x
theorem Whole.sure {p:Plan} {s:State} (h:Whole p s):sureSt p s=s:=if_pos h.st
theorem begin_whole {p:Plan} (hp:rightPl p=0):Whole p (beginS p 0 p.N):=by
  have hn:=(rightPl_zero hp).2.1
  have h:=begin_St (p:=p) (low:=0) (high:=p.N) hp (by omega) (by omega) (by omega)
  refine ⟨h.1,h.2,?_,?_,?_⟩
  · unfold beginS; rw [if_pos ⟨hp,by omega,by omega,by omega⟩]; rfl
  · unfold beginS; rw [if_pos ⟨hp,by omega,by omega,by omega⟩]; rfl
  · unfold beginS; rw [if_pos ⟨hp,by omega,by omega,by omega⟩]
    intro x hx
    obtain ⟨i,hi,rfl⟩:=List.mem_map.1 (show x∈mapN _ _ from hx)
    have hi:=List.mem_range.1 hi
    simp only
    unfold firstS infI inI
    repeat' split
    all_goals (simp only; omega)
theorem getO_inI {o:Option Int} (h:∀ y,o=some y→inI y):inI (getO o).1:=by
  cases o with
  | none=>unfold inI getO; simp
  | some y=>exact h y rfl
theorem Whole.upd {p:Plan} {s:State} (h:Whole p s) {round:Int} (hr:0≤round∧round≤1000000) {y:Vec} (hy:∀ x∈y.Items,inI x.Val):Whole p (updS p s round y):=by
  have hu:=upd_St (round:=round) (y:=y) h.st h.ok
  refine ⟨hu.1,hu.2.1,hu.2.2.1.trans h.lo,hu.2.2.2.trans h.hi,?_⟩
  unfold updS
  rw [h.sure]
  split
  · intro x hx
    obtain ⟨i,hi,rfl⟩:=List.mem_map.1 (show x∈mapN _ _ from hx)
    have hi:=List.mem_range.1 hi
    have ha:inI (at0 s.A i):=by
      have hl:i<s.A.length:=by have:=h.st.2.2.2.2.1; omega
      have:at0 s.A i=s.A[i]:=by unfold at0; simp [hl]
      rw [this]; exact h.va _ (List.getElem_mem hl)
    have hg:inI (getO (lkI y.Items i)).1:=getO_inI fun z hz=>hy _ (lkI_mem hz)
    have hrd:inI round:=by unfold inI; omega
    show inI (behS p s round i (lkI y.Items i)).1
    unfold behS
    simp only
    repeat' split
    all_goals first | assumption | (unfold inI; omega)
  · exact h.va
theorem done_inI {r n:Int} {l:List Sum}:∀ x∈(doneS r n l).1.Items,inI x.Val:=by
  unfold doneS
  repeat' split
  all_goals first | (intro x hx; cases hx; done) | skip
  intro x hx
  obtain ⟨s,hs,he⟩:=List.mem_filterMap.1 hx
  unfold nzI at he
  split at he
  · cases he; exact nar_inI _
  · cases he
theorem stepY_inI {p:Plan} {T:List Triple} {s:State} {round:Int}:∀ x∈(stepY p T s round).1.Items,inI x.Val:=by
  unfold stepY
  split
  · intro x hx; cases hx
  · exact done_inI
def seqS (p:Plan) (T:List Triple):Nat→State
  | 0=>beginS p 0 p.N
  | k+1=>(stepS p T (seqS p T k) ((k:Int)+1)).1
def stopS (p:Plan) (T:List Triple) (limit:Int) (k:Nat):Int:=if liveS p (seqS p T k) k=0 then 1 else if (k:Int)=limit then 2 else if (stepS p T (seqS p T k) ((k:Int)+1)).2≠0 then 3 else 0
theorem first_ex {P:Nat→Prop}:∀ m:Nat,P m→∃ n,n≤m∧(∀ k,k<n→¬P k)∧P n
  | 0,h=>⟨0,Nat.le_refl _,fun k hk=>by omega,h⟩
  | m+1,h=>by
    by_cases h':∃ j,j≤m∧P j
    · obtain ⟨j,hj,hp⟩:=h'
      obtain ⟨n,h1,h2,h3⟩:=first_ex j hp
      exact ⟨n,by omega,h2,h3⟩
    · exact ⟨m+1,Nat.le_refl _,fun k hk hp=>h' ⟨k,by omega,hp⟩,h⟩
termination_by m=>m
decreasing_by omega
structure Ends (p:Plan) (T:List Triple) (limit:Int) (n:Nat) (st:Int):Prop where
  le:(n:Int)≤limit
  lt:∀ k,k<n→stopS p T limit k=0
  at_:stopS p T limit n=st
  ne:st≠0
theorem ends_ex (p:Plan) (T:List Triple) {limit:Int} (h:0≤limit):∃ n st,Ends p T limit n st:=by
  obtain ⟨n,h1,h2,h3⟩:=first_ex (P:=fun k=>stopS p T limit k≠0) limit.toNat (by
    unfold stopS
    split
    · simp
    · rw [if_pos (by omega)]; simp)
  exact ⟨n,_,by omega,fun k hk=>Decidable.of_not_not (h2 k hk),rfl,h3⟩
theorem stop_go {p:Plan} {T:List Triple} {limit:Int} {k:Nat} (h:stopS p T limit k=0):liveS p (seqS p T k) k≠0∧(k:Int)≠limit∧(stepS p T (seqS p T k) ((k:Int)+1)).2=0:=by
  unfold stopS at h
  split at h
  · cases h
  · split at h
    · cases h
    · split at h
      · cases h
      · rename_i h1 h2 h3
        exact ⟨h1,h2,Decidable.of_not_not h3⟩
theorem step_zero {p:Plan} {T:List Triple} {s:State} {round:Int} (h:(stepS p T s round).2=0):(stepY p T s round).2=0∧stepS p T s round=(updS p s round (stepY p T s round).1,0):=by
  unfold stepS at h ⊢
  by_cases h0:(stepY p T s round).2≠0
  · rw [if_pos h0] at h; exact absurd h h0
  · rw [if_neg h0]; exact ⟨Decidable.of_not_not h0,rfl⟩
theorem seq_le {p:Plan} {T:List Triple} {limit:Int} (hl:0≤limit):∀ {k:Nat},(∀ j,j<k→stopS p T limit j=0)→(k:Int)≤limit
  | 0,_=>hl
  | k+1,h=>by
    have ih:=seq_le (k:=k) hl fun j hj=>h j (by omega)
    have:=stop_go (h k (by omega))
    omega
theorem seq_whole {p:Plan} {T:List Triple} {limit:Int} (hp:rightPl p=0) (hl:0≤limit∧limit≤8192):∀ {k:Nat},(∀ j,j<k→stopS p T limit j=0)→Whole p (seqS p T k)
  | 0,_=>begin_whole hp
  | k+1,h=>by
    have ih:=seq_whole (k:=k) hp hl fun j hj=>h j (by omega)
    have hk:=seq_le hl.1 h
    have:=stop_go (h k (by omega))
    have e:=(step_zero this.2.2).2
    show Whole p (stepS p T (seqS p T k) ((k:Int)+1)).1
    rw [e]
    exact ih.upd (by omega) stepY_inI
def nzW (r:Int) (w:Wide):Option Int:=if (narS w).1≠zS r then some (narS w).1 else none
def askG (p:Plan) (g:Int×Int×Bool):Bool:=if p.Kind=1 then g.1 == -1 else if p.Kind=5 then g.1==0 else true
def rowG (p:Plan) (T:List Triple) (n:Nat) (round:Int) (G:GV) (v:Nat):Option Wide:=rowW (ringPl p.Kind round) n (lkI (rowI T v)) (lkI (outI n fun i=>tellG p round i (G i)))
def hearG (p:Plan) (T:List Triple) (n:Nat) (round:Int) (G:GV) (v:Nat):Option Int:=if askG p (G v)=true then (rowG p T n round G v).bind (nzW (ringPl p.Kind round)) else none
theorem nz_at {r:Int} {s:Sum} {x:Item} (h:nzI r s=some x):x.At=s.At:=by
  unfold nzI at h
  split at h
  · cases h; rfl
  · cases h
theorem nz_lk {r:Int}:∀ {l:List Sum},Rise l→∀ i:Int,lkI (l.filterMap (nzI r)) i=(lk l i).bind (nzW r)
  | [],_,i=>rfl
  | s :: l,h,i=>by
    have hr:Rise l:=(List.pairwise_cons.1 h).2
    have hlt:=(List.pairwise_cons.1 h).1
    have ih:=nz_lk (r:=r) hr i
    rw [List.filterMap_cons,lk_cons]
    cases hn:nzI r s with
    | none=>
      rw [ih]
      by_cases e:i=s.At
      · rw [if_pos e,lk_none fun x hx=>by have:=hlt x hx; omega]
        simp only [Option.bind_none,Option.bind_some]
        unfold nzI at hn; unfold nzW
        split at hn
        · cases hn
        · rename_i h0; rw [if_neg h0]
      · rw [if_neg e]
    | some x=>
      rw [lkI_cons,nz_at hn,ih]
      by_cases e:i=s.At
      · rw [if_pos e,if_pos e]
        unfold nzI at hn; unfold nzW
        split at hn
        · rename_i h0; cases hn; simp only [Option.bind_some]; rw [if_pos h0]
        · cases hn
      · rw [if_neg e,if_neg e]
theorem nz_vecP {r n:Int} {l:List Sum} (hn:0≤n∧n≤4096) (h:Rise l) (hi:∀ s∈l,0≤s.At∧s.At<n):VecP ⟨n,l.filterMap (nzI r)⟩:=by
  refine ⟨hn.1,hn.2,?_,fun x hx=>?_⟩
  · refine List.Pairwise.filterMap _ (fun a b hab c hc d hd=>?_) h
    rw [nz_at hc,nz_at hd]; exact hab
  · obtain ⟨s,hs,he⟩:=List.mem_filterMap.1 hx
    rw [nz_at he]; exact hi s hs
theorem ringPl_b {p:Plan} (h:1≤p.Kind∧p.Kind≤5) (round:Int):1≤ringPl p.Kind round∧ringPl p.Kind round≤5:=by
  unfold ringPl
  repeat' split
  all_goals omega
theorem ask_seg {p:Plan} {n:Nat} {G:GV} (hn4:n≤4096) {i:Nat} (hi:i<n):askF (askS p (segV 0 n G)).1 (askS p (segV 0 n G)).2 i=askG p (G i):=by
  have e2:sizN (segV 0 n G)=n:=by show ((((0+n:Nat):Int)) - ((0:Nat):Int)).toNat=n; omega
  have e1:∀ j,j<n→at0 (segV 0 n G).A j=(G j).1:=fun j hj=>by
    have:at0 (segV 0 n G).A j=(G (0+j)).1:=mapN_at hj
    rwa [Nat.zero_add] at this
  unfold askS askG askF
  rw [e2]
  by_cases h1:p.Kind=1
  · rw [if_pos h1,if_pos h1]
    simp only
    rw [of_ons hi hn4,e1 i hi]
    simp
  · rw [if_neg h1,if_neg h1]
    by_cases h5:p.Kind=5
    · rw [if_pos h5,if_pos h5]
      simp only
      rw [of_ons hi hn4,e1 i hi]
      simp
    · rw [if_neg h5,if_neg h5]
      simp only
      rw [hasF_over (by simp)]
      rfl
theorem step_seg {p:Plan} {T:List Triple} {n:Nat} {G:GV} {round:Int} (hp:rightPl p=0) (hn:p.N=n) :
    ((∃ v w,v<n∧askG p (G v)=true∧rowG p T n round G v=some w∧(narS w).2=false)→stepS p T (segV 0 n G) round=(zSt,12)) ∧
    ((∀ v w,v<n→askG p (G v)=true→rowG p T n round G v=some w→(narS w).2=true)→stepS p T (segV 0 n G) round=(segV 0 n (nextG p round G (hearG p T n round G)),0)):=by
  have hpz:=rightPl_zero hp
  have hn4:n≤4096:=by have:=hpz.2.1; omega
  have hr:=ringPl_b hpz.1 round
  have hout:outVS p (segV 0 n G) round=⟨n,outI n fun i=>tellG p round i (G i)⟩:=by
    rw [out_seg hp (by omega)]
    congr 1
    exact outI_congr fun i _=>by rw [Nat.zero_add]
  have hx:stepX p T (segV 0 n G) round=(sumsS (ringPl p.Kind round) n n (askS p (segV 0 n G)).1 (askS p (segV 0 n G)).2 (fun i=>lkI (rowI T i)) (lkI (outI n fun i=>tellG p round i (G i))),0):=by
    unfold stepX sumsR
    rw [hout,if_neg (fun h=>h hr),if_neg (fun h=>h hn.symm),hn]
    simp
  have hsp:=sumsS_prop (ringPl p.Kind round) n (askS p (segV 0 n G)).1 (askS p (segV 0 n G)).2 (fun i=>lkI (rowI T i)) (lkI (outI n fun i=>tellG p round i (G i))) n
  generalize sumsS (ringPl p.Kind round) n n (askS p (segV 0 n G)).1 (askS p (segV 0 n G)).2 (fun i=>lkI (rowI T i)) (lkI (outI n fun i=>tellG p round i (G i)))=l at hx hsp
  obtain ⟨q1,q2,q3,q4,q5⟩:=hsp
  have hlk:∀ i:Nat,i<n→lk l i=if askG p (G i)=true then rowG p T n round G i else none:=by
    intro i hi
    rw [q5,ask_seg hn4 hi]
    by_cases ha:askG p (G i)=true
    · rw [if_pos ⟨by omega,by omega,ha⟩,if_pos ha]; rfl
    · rw [if_neg (fun h=>ha h.2.2),if_neg ha]
  have hy:stepY p T (segV 0 n G) round=if ∃ s∈l,(narS s.Val).2=false then (zV,12) else (⟨n,l.filterMap (nzI (ringPl p.Kind round))⟩,0):=by
    unfold stepY doneS
    rw [hx]
    simp only
    rw [if_neg (fun h=>h rfl),if_neg (fun h=>h hr),if_neg,if_neg (fun h=>h q1),hn]
    rintro (h | ⟨s,hs,h⟩)
    · exact h (by omega)
    · have:=q4 s hs; exact h (by omega)
  constructor
  · rintro ⟨v,w,hv,ha,hw,hb⟩
    have hm:(⟨(v:Int),w⟩:Sum)∈l:=lk_mem (by rw [hlk v hv,if_pos ha,hw])
    have:stepY p T (segV 0 n G) round=(zV,12):=by rw [hy,if_pos ⟨_,hm,hb⟩]
    unfold stepS
    rw [this,if_pos (by simp)]
  · intro hall
    have:stepY p T (segV 0 n G) round=(⟨n,l.filterMap (nzI (ringPl p.Kind round))⟩,0):=by
      rw [hy,if_neg]
      rintro ⟨s,hs,hb⟩
      have hin:=q4 s hs
      obtain ⟨v,hv⟩:∃ v:Nat,s.At=v:=⟨s.At.toNat,by omega⟩
      have h1:lk l v=some s.Val:=by rw [←hv]; exact mem_lk q1 hs
      have hv':v<n:=by omega
      rw [hlk v hv'] at h1
      split at h1
      · rename_i ha
        have:=hall v s.Val hv' ha h1
        rw [hb] at this; cases this
      · cases h1
    unfold stepS
    rw [this]
    simp only
    rw [if_neg (fun h=>h rfl),upd_seg (Y:=hearG p T n round G) hp (by omega) (nz_vecP ⟨by omega,by omega⟩ q1 q4) rfl]
    intro i hi
    simp only
    rw [nz_lk q1,hlk i hi,Nat.zero_add]
    unfold hearG
    split <;> rfl
theorem step_ok_iff {p:Plan} {T:List Triple} {n:Nat} {G:GV} {round:Int} (hp:rightPl p=0) (hn:p.N=n) (h:(stepS p T (segV 0 n G) round).2=0) :
    (∀ v w,v<n→askG p (G v)=true→rowG p T n round G v=some w→(narS w).2=true)∧stepS p T (segV 0 n G) round=(segV 0 n (nextG p round G (hearG p T n round G)),0):=by
  have hs:=step_seg (T:=T) (G:=G) (round:=round) hp hn
  have hall:∀ v w,v<n→askG p (G v)=true→rowG p T n round G v=some w→(narS w).2=true:=by
    intro v w hv ha hw
    cases hb:(narS w).2 with
    | true=>rfl
    | false=>rw [hs.1 ⟨v,w,hv,ha,hw,hb⟩] at h; cases h
  exact ⟨hall,hs.2 hall⟩
def GS (p:Plan) (T:List Triple) (n:Nat):Nat→GV
  | 0=>gV0 p
  | k+1=>nextG p ((k:Int)+1) (GS p T n k) (hearG p T n ((k:Int)+1) (GS p T n k))
theorem seq_seg {p:Plan} {T:List Triple} {limit:Int} {n:Nat} (hp:rightPl p=0) (hn:p.N=n):∀ {k:Nat},(∀ j,j<k→stopS p T limit j=0)→seqS p T k=segV 0 n (GS p T n k)
  | 0,_=>by
    show beginS p 0 p.N=segV 0 n (gV0 p)
    exact begin_seg hp rfl (by rw [hn]; omega) (by omega)
  | k+1,h=>by
    have ih:=seq_seg (k:=k) hp hn fun j hj=>h j (by omega)
    have:=(stop_go (h k (by omega))).2.2
    show (stepS p T (seqS p T k) ((k:Int)+1)).1=_
    rw [ih] at this ⊢
    rw [(step_ok_iff hp hn this).2]
    rfl
theorem nodup_lt:∀ (n:Nat) (L:List Nat),L.Nodup→(∀ x∈L,x<n)→L.length≤n
  | 0,[],_,_=>Nat.le_refl _
  | 0,x :: L,_,h=>absurd (h x (by simp)) (by omega)
  | n+1,L,hd,h=>by
    by_cases hm:n∈L
    · have h1:=nodup_lt n (L.erase n) (hd.erase n) (fun x hx=>by
        have h2:=(List.Nodup.mem_erase_iff hd).1 hx
        have:=h x h2.2
        have:=h2.1
        omega)
      rw [List.length_erase_of_mem hm] at h1
      omega
    · have:=nodup_lt n L hd fun x hx=>by
        have h1:=h x hx
        have h2:x≠n:=fun e=>hm (e▸hx)
        omega
      omega
theorem mono_le {K:Nat→Nat→Int} (hm:∀ i v,K (i+1) v≤K i v) (v:Nat) {i j:Nat} (h:i≤j):K j v≤K i v:=by
  induction h with
  | refl=>exact Int.le_refl _
  | step _ ih=>exact Int.le_trans (hm _ v) ih
theorem chain {n:Nat} {on:Nat→Nat→Prop} {K:Nat→Nat→Int} (hm:∀ i v,K (i+1) v≤K i v) (hs:∀ i v,v<n→on (i+1) v→K (i+1) v<K i v)
    (hp:∀ i v,v<n→on (i+1) v→∃ u,u<n∧on i u∧K i u≤K (i+1) v):∀ t v,v<n→on t v→∃ L:List Nat,L.length=t+1∧L.Nodup∧(∀ x∈L,x<n)∧∀ x∈L,∃ i,i≤t∧K i x≤K t v
  | 0,v,hv,_=>⟨[v],rfl,by simp,by simpa using hv,fun x hx=>by rw [List.mem_singleton] at hx; subst hx; exact ⟨0,Nat.le_refl _,Int.le_refl _⟩⟩
  | t+1,v,hv,ho=>by
    obtain ⟨u,hu,hou,hku⟩:=hp t v hv ho
    obtain ⟨L,h1,h2,h3,h4⟩:=chain hm hs hp t u hu hou
    refine ⟨v :: L,by simp [h1],List.nodup_cons.2 ⟨fun hvL=>?_,h2⟩,fun x hx=>?_,fun x hx=>?_⟩
    · obtain ⟨i,hi,hk⟩:=h4 v hvL
      have a1:=hs t v hv ho
      have a2:=mono_le hm v hi
      omega
    · rcases List.mem_cons.1 hx with rfl | h
      · exact hv
      · exact h3 x h
    · rcases List.mem_cons.1 hx with rfl | h
      · exact ⟨t+1,Nat.le_refl _,Int.le_refl _⟩
      · obtain ⟨i,hi,hk⟩:=h4 x h
        exact ⟨i,by omega,by omega⟩
theorem chain_le {n:Nat} {on:Nat→Nat→Prop} {K:Nat→Nat→Int} (hm:∀ i v,K (i+1) v≤K i v) (hs:∀ i v,v<n→on (i+1) v→K (i+1) v<K i v)
    (hp:∀ i v,v<n→on (i+1) v→∃ u,u<n∧on i u∧K i u≤K (i+1) v) {t v:Nat} (hv:v<n) (ho:on t v):t+1≤n:=by
  obtain ⟨L,h1,h2,h3,_⟩:=chain hm hs hp t v hv ho
  have:=nodup_lt n L h2 h3
  omega
theorem min_ex {P:Nat→Prop} {μ:Nat→Int}:∀ n:Nat,(∃ v,v<n∧P v)→∃ v,v<n∧P v∧∀ u,u<n→P u→μ v≤μ u
  | 0,⟨v,hv,_⟩=>by omega
  | n+1,⟨v,hv,hp⟩=>by
    by_cases h:∃ v,v<n∧P v
    · obtain ⟨a,ha,hpa,hmin⟩:=min_ex (μ:=μ) n h
      by_cases hn:P n∧μ n<μ a
      · refine ⟨n,by omega,hn.1,fun u hu hpu=>?_⟩
        by_cases e:u=n
        · subst e; exact Int.le_refl _
        · have:=hmin u (by omega) hpu; omega
      · refine ⟨a,by omega,hpa,fun u hu hpu=>?_⟩
        by_cases e:u=n
        · subst e
          by_cases hl:μ u<μ a
          · exact absurd ⟨hpu,hl⟩ hn
          · omega
        · exact hmin u (by omega) hpu
    · have e:v=n:=by
        by_cases hvn:v<n
        · exact absurd ⟨v,hvn,hp⟩ h
        · omega
      subst e
      refine ⟨v,hv,hp,fun u hu hpu=>?_⟩
      by_cases e:u=v
      · subst e; exact Int.le_refl _
      · exact absurd ⟨u,by omega,hpu⟩ h
theorem cntN_le2 {n:Nat} {f g:Nat→Bool} (h:∀ i,i<n→g i=true→f i=true):cntN n g≤cntN n f:=by
  induction n with
  | zero=>exact Nat.le_refl _
  | succ n ih=>
    rw [cntN_succ,cntN_succ]
    have h1:=ih fun i hi=>h i (by omega)
    have h2:=h n (by omega)
    cases hg:g n with
    | false=>simp only [Bool.false_eq_true,if_false]; split <;> omega
    | true=>rw [h2 hg]; simp only [if_true]; omega
theorem cntN_lt {n:Nat} {f g:Nat→Bool} (h:∀ i,i<n→g i=true→f i=true) {v:Nat} (hv:v<n) (hf:f v=true) (hg:g v=false):cntN n g<cntN n f:=by
  induction n with
  | zero=>omega
  | succ n ih=>
    rw [cntN_succ,cntN_succ]
    by_cases e:v=n
    · subst e
      rw [hf,hg]
      have:=cntN_le2 (n:=v) fun i hi=>h i (by omega)
      simp only [Bool.false_eq_true,if_false,if_true]; omega
    · have h1:=ih (fun i hi=>h i (by omega)) (by omega)
      have h2:=h n (by omega)
      cases hg:g n with
      | false=>simp only [Bool.false_eq_true,if_false]; split <;> omega
      | true=>rw [h2 hg]; simp only [if_true]; omega
theorem cntN_some {n:Nat} {f:Nat→Bool} (h:cntN n f≠0):∃ i,i<n∧f i=true:=by
  by_cases h':∃ i,i<n∧f i=true
  · exact h'
  · refine absurd (cntN_zero fun i hi=>?_) h
    cases hb:f i with
    | false=>rfl
    | true=>exact absurd ⟨i,hi,hb⟩ h'
theorem outI_lk (f:Nat→Int×Bool) (j:Nat):∀ n:Nat,lkI (outI n f) (j:Int)=if j<n∧(f j).2=true then some (f j).1 else none
  | 0=>by rw [if_neg (by omega)]; rfl
  | n+1=>by
    rw [outI_succ]
    by_cases hn:(f n).2=true
    · rw [if_pos hn,lkI_append,outI_lk f j n,lkI_cons]
      by_cases e:j=n
      · subst e
        rw [if_neg (fun h=>by omega),if_pos rfl,if_pos ⟨by omega,hn⟩]
      · rw [if_neg (show ¬(j:Int)=(n:Int) by omega)]
        by_cases h:j<n∧(f j).2=true
        · rw [if_pos h,if_pos ⟨by omega,h.2⟩]
        · rw [if_neg h,if_neg (fun h'=>h ⟨by omega,h'.2⟩)]; rfl
    · rw [if_neg hn,outI_lk f j n]
      by_cases h:j<n∧(f j).2=true
      · rw [if_pos h,if_pos ⟨by omega,h.2⟩]
      · rw [if_neg h,if_neg]
        rintro ⟨h1,h2⟩
        by_cases e:j=n
        · subst e; exact hn h2
        · exact h ⟨by omega,h2⟩
theorem rowW_min {r:Int} (hr:r=1∨r=3∨r=4) {A B:Int→Option Int}:∀ {n:Nat} {w:Wide},rowW r n A B=some w→∃ j:Nat,j<n∧∃ a x,A j=some a∧B j=some x∧w=mulW r a x
  | 0,w,h=>by cases h
  | n+1,w,h=>by
    rw [rowW_succ] at h
    unfold stepW at h
    have old:rowW r n A B=some w→∃ j:Nat,j<n+1∧∃ a x,A j=some a∧B j=some x∧w=mulW r a x:=fun h'=>by
      obtain ⟨j,hj,hx⟩:=rowW_min hr h'
      exact ⟨j,by omega,hx⟩
    cases hA:A n with
    | none=>rw [hA] at h; exact old h
    | some a=>
      cases hB:B n with
      | none=>rw [hA,hB] at h; exact old h
      | some x=>
        rw [hA,hB] at h
        simp only at h
        cases hw:rowW r n A B with
        | none=>rw [hw] at h; exact ⟨n,by omega,a,x,hA,hB,(Option.some.inj h).symm⟩
        | some u=>
          rw [hw] at h old
          have h:=Option.some.inj h
          unfold addW at h
          rw [if_pos hr] at h
          split at h
          · exact old (by rw [h])
          · exact ⟨n,by omega,a,x,hA,hB,h.symm⟩
theorem rowW_or {A B:Int→Option Int}:∀ {n:Nat} {w:Wide},rowW 2 n A B=some w→w=⟨0,1⟩∨w=⟨0,0⟩
  | 0,w,h=>by cases h
  | n+1,w,h=>by
    rw [rowW_succ] at h
    unfold stepW at h
    have hm:∀ a x,mulW 2 a x=⟨0,1⟩∨mulW 2 a x=⟨0,0⟩:=fun a x=>by
      unfold mulW
      rw [if_pos rfl]
      split
      · exact .inl rfl
      · exact .inr rfl
    cases hA:A n with
    | none=>rw [hA] at h; exact rowW_or h
    | some a=>
      cases hB:B n with
      | none=>rw [hA,hB] at h; exact rowW_or h
      | some x=>
        rw [hA,hB] at h
        simp only at h
        cases hw:rowW 2 n A B with
        | none=>rw [hw] at h; have h:=Option.some.inj h; rw [←h]; exact hm a x
        | some u=>
          rw [hw] at h
          have h:=Option.some.inj h
          unfold addW at h
          rw [if_neg (by omega),if_pos rfl] at h
          split at h
          · exact .inr h.symm
          · exact .inl h.symm
theorem narS_ofZ {z:Int} (h:inI z):narS (ofZ z)=(z,true):=by
  unfold narS ofZ
  unfold inI at h
  simp only [w64_eq]
  rw [if_pos (by omega)]
  rw [Prod.mk.injEq]
  exact ⟨by omega,rfl⟩
theorem rowT_look {rows cols:Int} {T:List Triple} (h:Canon rows cols T) {i j a:Int} (hi:0≤i):lkI (rowI T i) j=some a↔(⟨i,j,a⟩:Triple)∈T:=by
  have hinc:IncI ((segS T i.toNat).map itS):=by
    unfold IncI segS
    rw [List.pairwise_map]
    refine List.Pairwise.imp_of_mem ?_ (List.Pairwise.filter _ h.srt)
    intro a b ha hb hab
    have h1:=of_decide_eq_true (List.mem_filter.1 ha).2
    have h2:=of_decide_eq_true (List.mem_filter.1 hb).2
    unfold ltK key at hab
    simp only [itS]
    simp only at hab
    omega
  unfold rowI
  rw [lkI_iff hinc,List.mem_map]
  unfold segS
  constructor
  · rintro ⟨t,ht,he⟩
    obtain ⟨h1,h2⟩:=List.mem_filter.1 ht
    have h3:=of_decide_eq_true h2
    unfold itS at he
    obtain ⟨tr,tc,tv⟩:=t
    simp only [Item.mk.injEq] at he h3
    obtain ⟨rfl,rfl⟩:=he
    rw [show i=tr by omega]
    exact h1
  · intro ht
    exact ⟨_,List.mem_filter.2 ⟨ht,by simp; omega⟩,rfl⟩
def tellOk (p:Plan) (n:Nat) (round:Int) (G:GV):Prop:=∀ u,u<n→0≤(tellG p round u (G u)).1∧(tellG p round u (G u)).1≤4611686018427387904
theorem row_src {p:Plan} {T:List Triple} {n:Nat} {round:Int} {G:GV} {v:Nat} {w:Wide} (hT:Canon n n T) (hr:ringPl p.Kind round=1∨ringPl p.Kind round=4) (h:rowG p T n round G v=some w) :
    ∃ u a,u<n∧(⟨v,u,a⟩:Triple)∈T∧(tellG p round u (G u)).2=true∧w=mulW (ringPl p.Kind round) a (tellG p round u (G u)).1:=by
  unfold rowG at h
  obtain ⟨j,hj,a,x,hA,hB,hw⟩:=rowW_min (by omega) h
  rw [outI_lk] at hB
  split at hB
  · rename_i hc
    have:=Option.some.inj hB
    subst this
    exact ⟨j,a,hj,(rowT_look hT (by omega)).1 hA,hc.2,hw⟩
  · cases hB
theorem mul_nar {r a x:Int} (hr:r=1∨r=4) (ha:0≤a) (hx:0≤x∧x≤4611686018427387904):(narS (mulW r a x)).2=true∧((narS (mulW r a x)).1≠4611686018427387904→(r=4→(narS (mulW r a x)).1=x)∧(r=1→(narS (mulW r a x)).1=a+x)):=by
  have hinf:narS (ofZ 4611686018427387904)=(4611686018427387904,true):=narS_ofZ (by unfold inI; omega)
  unfold mulW
  rw [if_neg (by omega),if_neg (by omega),if_pos (by omega)]
  by_cases hc:4611686018427387904≤a∨4611686018427387904≤x
  · rw [if_pos hc,hinf]
    exact ⟨rfl,fun h=>absurd rfl h⟩
  · rw [if_neg hc]
    have h3:¬r=3:=by omega
    rw [if_neg h3]
    by_cases h4:r=4
    · rw [if_pos h4,narS_ofZ (by unfold inI; omega)]
      exact ⟨rfl,fun _=>⟨fun _=>rfl,fun h=>by omega⟩⟩
    · rw [if_neg h4]
      by_cases hl:leW (ofZ 4611686018427387904) (ofZ (a+x))
      · rw [if_pos hl,hinf]
        exact ⟨rfl,fun h=>absurd rfl h⟩
      · rw [if_neg hl,narS_ofZ (by unfold inI; omega)]
        exact ⟨rfl,fun _=>⟨fun h=>absurd h h4,fun _=>rfl⟩⟩
theorem hear_src {p:Plan} {T:List Triple} {n:Nat} {round:Int} {G:GV} {v:Nat} {y:Int} (hT:Canon n n T) (hv:∀ t∈T,0≤t.Val) (hr:ringPl p.Kind round=1∨ringPl p.Kind round=4) (ho:tellOk p n round G)
    (h:hearG p T n round G v=some y):∃ u a,u<n∧(⟨v,u,a⟩:Triple)∈T∧(tellG p round u (G u)).2=true∧0≤a∧(ringPl p.Kind round=4→y=(tellG p round u (G u)).1)∧(ringPl p.Kind round=1→y=a+(tellG p round u (G u)).1):=by
  unfold hearG at h
  split at h
  · cases hw:rowG p T n round G v with
    | none=>rw [hw] at h; cases h
    | some w=>
      rw [hw] at h
      simp only [Option.bind_some] at h
      obtain ⟨u,a,h1,h2,h3,h4⟩:=row_src hT hr hw
      have ha:=hv _ h2
      have hm:=(mul_nar hr ha (ho u h1)).2
      rw [←h4] at hm
      have hz:zS (ringPl p.Kind round)=4611686018427387904:=by unfold zS; rw [if_pos (by omega)]
      unfold nzW at h
      rw [hz] at h
      split at h
      · rename_i hne
        have:=Option.some.inj h
        subst this
        exact ⟨u,a,h1,h2,h3,ha,(hm hne).1,(hm hne).2⟩
      · cases h
  · cases h
theorem row_nar {p:Plan} {T:List Triple} {n:Nat} {round:Int} {G:GV} {v:Nat} {w:Wide} (hT:Canon n n T) (hv:∀ t∈T,0≤t.Val) (hr:ringPl p.Kind round=1∨ringPl p.Kind round=4∨ringPl p.Kind round=2) (ho:tellOk p n round G)
    (h:rowG p T n round G v=some w):(narS w).2=true:=by
  by_cases h2:ringPl p.Kind round=2
  · unfold rowG at h
    rw [h2] at h
    rcases rowW_or h with rfl | rfl <;> decide
  · have hr':ringPl p.Kind round=1∨ringPl p.Kind round=4:=by omega
    obtain ⟨u,a,h1,h2,h3,h4⟩:=row_src hT hr' h
    rw [h4]
    exact (mul_nar hr' (hv _ h2) (ho u h1)).1
end Go.Proofs.YtccpfgdefibdnaaGreat
