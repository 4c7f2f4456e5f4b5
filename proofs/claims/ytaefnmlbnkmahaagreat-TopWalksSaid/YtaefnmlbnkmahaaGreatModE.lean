import Derived.Test.YtaefnmlbnkmahaaGreatPlnE
namespace Go.Proofs.YtaefnmlbnkmahaaGreat
open Go Go.Fw
set_option linter.unusedVariables false
set_option linter.unusedSimpArgs false
theorem cntN_more {n m:Nat} {f:Nat→Bool} (h:n≤m) (hf:∀ i,n≤i→i<m→f i=false):cntN m f=cntN n f:=by
  obtain ⟨k,rfl⟩:∃ k,m=n+k:=⟨m - n,by omega⟩
  rw [cntN_add,cntN_zero (fun i hi=>hf (n+i) (by omega) (by omega)),Nat.add_zero]
def onIn (s:State):Prop:=(∀ i,hasF s.On i=true→i<(sizN s:Int))∧sizN s≤64*s.On.length
theorem sureSt_on {p:Plan} {s:State}:onIn (sureSt p s):=by
  rcases sure_cases p s with ⟨h,e⟩ | e
  · rw [e]
    obtain ⟨h1,h2,h3,h4,h5,h6,h7,h8,h9⟩:=h
    have hn:=(rightPl_zero h1).2.1
    refine ⟨fun i hi=>?_,?_⟩
    · have:=h9 i (listF_mem.2 hi); unfold sizN; omega
    · rw [h8]; unfold sizN wordsS; split <;> split <;> omega
  · rw [e]; exact ⟨fun i hi=>by have:=hasF_in hi; simp [zSt] at this; omega,by decide⟩
theorem on_count {s:State} (h:onIn s):allF s.On=cntN (sizN s) fun i=>hasF s.On i:=
  cntN_more h.2 fun i h1 h2=>by
    cases hb:hasF s.On i with
    | false=>rfl
    | true=>have:=h.1 i hb; omega
def goesS (p:Plan) (s:State) (i:Nat):Bool:=if p.Kind=5 then at0 s.A i==0 else hasF s.On i
def liveN (p:Plan) (s:State):Nat:=cntN (sizN s) (goesS p s)
def liveS (p:Plan) (s:State) (round:Int):Int:=if p.Kind=4∧p.Length≤round then 0 else (liveN p (sureSt p s):Nat)
theorem prog_Live_ok {p:Plan} {s:State} {round:Int} {Q:Int→Prop} (ho:okSt s) (hQ:Q (liveS p s round)):prog_Live p s round Q:=by
  unfold prog_Live
  refine prog_sure_ok ho ?_
  have h:=sureSt_Q (p:=p) ho
  have hon:=sureSt_on (p:=p) (s:=s)
  unfold liveS at hQ
  generalize sureSt p s=u at h hon hQ ⊢
  have hs:=h.siz
  have hal:=h.al
  have hol:=h.ol
  have hc (h5:p.Kind≠5):liveN p u=allF u.On:=by
    rw [on_count hon]
    exact cntN_congr fun i hi=>if_neg h5
  refine ifP_eq (fun h4=>ifP_dec (fun hl=>by rwa [if_pos ⟨h4,hl⟩] at hQ) (fun hl=>?_)) (fun h4=>?_)
  · rw [if_neg (fun h=>hl h.2),hc (by omega)] at hQ
    exact flags_Count_ok h.ok hol hQ
  rw [if_neg (fun h=>h4 h.1)] at hQ
  refine ifP_eq (fun h5=>?_) (fun h5=>by rw [hc h5] at hQ; exact flags_Count_ok h.ok hol hQ)
  rw [hal]
  refine range_intro (fun (s:Int) i=>(s,i)) 0 (sizN u) (by omega) (fun i s=>s=(cntN i (goesS p u):Nat)) (by omega) rfl (fun i s next _ hi hm hnx=>?_) (fun s next hm=>?_)
  · subst hm
    have hcl:=cntN_le i (goesS p u)
    have hsc:=cntN_succ i (goesS p u)
    refine ifP_dec (fun _=>idxP_at0 (by omega) (by omega) ?_) (fun h=>by omega)
    refine ifP_eq (fun ha=>hnx _ ?_) (fun ha=>hnx _ ?_)
    · rw [w64_id (by omega) (by omega),hsc,if_pos (by unfold goesS; rw [if_pos h5]; simpa using ha)]; omega
    · rw [hsc,if_neg (by unfold goesS; rw [if_pos h5]; simpa using ha)]; rfl
  · subst hm
    exact ifP_dec (fun h=>by omega) (fun _=>hQ)
def askS (p:Plan) (s:State):List Int×Bool:=
  if p.Kind=1 then (ofF (sizN s) (onsN (sizN s) fun i=>at0 s.A i == -1),false) else if p.Kind=5 then (ofF (sizN s) (onsN (sizN s) fun i=>at0 s.A i==0),false) else ([],true)
theorem prog_Asked_ok {p:Plan} {s:State} {round:Int} {Q:List Int×Bool→Prop} (ho:okSt s) (hQ:Q (askS p (sureSt p s))):prog_Asked p s round Q:=by
  unfold prog_Asked
  refine prog_sure_ok ho ?_
  have h:=sureSt_Q (p:=p) ho
  unfold askS at hQ
  generalize sureSt p s=u at h hQ ⊢
  have hs:=h.siz
  have hal:=h.al
  have hk (want:Int) (hq:Q (ofF (sizN u) (onsN (sizN u) fun i=>at0 u.A i==want),false)):loopP (fun (s:(List Int)×Int) (next255:((List Int)×Int)→Prop)=>match s with | (s249,s253)=>ifP (decide (s253<(u.A.length:Int))) (idxP u.A s253 fun x273=>ifP (x273==want) (appP 8 s249 ([s253]) fun _=>next255 ((s249++([s253])),w64 (s253+1))) (next255 (s249,w64 (s253+1)))) (flags_Of (w64 (u.High - u.Low)) s249 fun r294=>Q (r294,false))) (([]:List Int),0):=by
    rw [h.w,hal]
    refine range_intro (fun (s:List Int) i=>(s,i)) 0 (sizN u) (by omega) (fun i s=>s=onsN i fun i=>at0 u.A i==want) (by omega) rfl (fun i s next _ hi hm hnx=>?_) (fun s next hm=>?_)
    · subst hm
      have hol:=onsN_len i fun i=>at0 u.A i==want
      have hons:=onsN_succ i fun i=>at0 u.A i==want
      refine ifP_dec (fun _=>idxP_at0 (by omega) (by omega) ?_) (fun h=>by omega)
      refine ifP_eq (fun ha=>appP_intro (by simp; omega) (hnx _ ?_)) (fun ha=>hnx _ ?_)
      · rw [hons,if_pos (by simpa using ha)]
      · rw [hons,if_neg (by simpa using ha)]
    · subst hm
      have hol:=onsN_len (sizN u) fun i=>at0 u.A i==want
      exact ifP_dec (fun h=>by omega) (fun _=>flags_Of_ok (by omega) (fun x hx=>by have:=onsN_in hx; unfold inI; omega) hq)
  unfold joinP
  refine ifP_eq (fun h1=>hk _ (by rwa [if_pos h1] at hQ)) (fun h1=>?_)
  rw [if_neg h1] at hQ
  exact ifP_eq (fun h5=>hk _ (by rwa [if_pos h5] at hQ)) (fun h5=>by rwa [if_neg h5] at hQ)
theorem chS_ok (low high:Int) (n:Nat) (g:Nat→Int×Int×Bool):okSt (chS low high n g):=by
  have h:=ofF_prop n (onsN n fun i=>(g i).2.2)
  exact ⟨h.1,by show (ofF _ _).length≤_; rw [h.2.1]; have:=words_le (n:Int); omega⟩
theorem chS_StP {p:Plan} {low high:Int} {g:Nat→Int×Int×Bool} (hp:rightPl p=0) (h0:0≤low) (h1:low≤high) (h2:high≤p.N):StP p (chS low high (high - low).toNat g):=by
  have hn:=(rightPl_zero hp).2.1
  refine ⟨hp,h0,h1,h2,by simp [chS,mapN_len,sizN],by simp [chS,mapN_len,sizN],?_⟩
  have:=ofF_right (n:=((high - low).toNat:Int)) ⟨by omega,by omega⟩ (onsN (high - low).toNat fun i=>(g i).2.2)
  rw [show (((high - low).toNat:Nat):Int)=high - low by omega] at this
  unfold chS
  simp only
  rw [show (((high - low).toNat:Nat):Int)=high - low by omega]
  exact this
theorem begin_St {p:Plan} {low high:Int} (hp:rightPl p=0) (h0:0≤low) (h1:low≤high) (h2:high≤p.N):StP p (beginS p low high)∧okSt (beginS p low high):=by
  unfold beginS
  rw [if_pos ⟨hp,h0,h1,h2⟩]
  exact ⟨chS_StP hp h0 h1 h2,chS_ok _ _ _ _⟩
theorem upd_St {p:Plan} {s:State} {round:Int} {y:Vec} (h:StP p s) (ho:okSt s):StP p (updS p s round y)∧okSt (updS p s round y)∧(updS p s round y).Low=s.Low∧(updS p s round y).High=s.High:=by
  have e:sureSt p s=s:=if_pos h
  unfold updS
  rw [e]
  split
  · exact ⟨chS_StP h.1 h.2.1 h.2.2.1 h.2.2.2.1,chS_ok _ _ _ _,rfl,rfl⟩
  · exact ⟨h,ho,rfl,rfl⟩
theorem lenSt_of {p:Plan} {s:State} (h:StP p s) (ho:okSt s):lenSt s:=by
  have hn:=(rightPl_zero h.1).2.1
  have:=h.2.2.2.2.1; have:=h.2.2.2.2.2.1; have:=h.2.1; have:=h.2.2.1; have:=h.2.2.2.1
  unfold sizN at *
  exact ⟨by omega,by omega,ho.2⟩
theorem bnd_le (x:Int) {m:Nat} (hm:m<9223372036854775808):0≤bnd .i64 x m∧bnd .i64 x m≤m:=by
  have h:(BitVec.ofInt 64 x &&& BitVec.ofInt 64 (m:Int)).toNat≤m:=by
    rw [BitVec.toNat_and,BitVec.toNat_ofInt (n:=64) (i:=(m:Int))]
    have hp:((2 ^ 64:Nat):Int)=18446744073709551616:=by decide
    rw [hp,show ((m:Int) % 18446744073709551616).toNat=m by omega]
    exact Nat.and_le_right
  unfold bnd
  rw [show IntKind.i64.bits=64 from rfl]
  generalize (BitVec.ofInt 64 x &&& BitVec.ofInt 64 (m:Int)).toNat=k at h
  have e:IntKind.i64.wrap (k:Int)=k:=w64_id (by omega) (by omega)
  rw [e]; omega
theorem Within_ok {k n:Int} {Q:Int→Prop} (h0:n<1→Q 0) (h1:1≤n→∀ r,0≤r→r<n→Q r):law21_Within k n Q:=by
  unfold law21_Within
  refine ifP_dec (fun h=>h0 h) (fun h=>ifP_dec (fun h2=>h1 (by omega) 0 (by omega) (by omega)) (fun h2=>⟨by omega,?_⟩))
  rw [Int.tmod_eq_emod_of_nonneg (by omega)]
  exact h1 (by omega) _ (Int.emod_nonneg _ (by omega)) (Int.emod_lt_of_pos _ (by omega))
abbrev GV:=Nat→Int×Int×Bool
def segV (l n:Nat) (G:GV):State:=chS (l:Int) ((l+n:Nat):Int) n fun i=>G (l+i)
theorem seg_StP {p:Plan} {l n:Nat} {G:GV} (hp:rightPl p=0) (h:((l+n:Nat):Int)≤p.N):StP p (segV l n G)∧okSt (segV l n G)∧lenSt (segV l n G):=by
  have h1:=chS_StP (p:=p) (low:=(l:Int)) (high:=((l+n:Nat):Int)) (g:=fun i=>G (l+i)) hp (by omega) (by omega) h
  rw [show (((l+n:Nat):Int) - (l:Int)).toNat=n by omega] at h1
  have h2:=chS_ok (l:Int) ((l+n:Nat):Int) n fun i=>G (l+i)
  exact ⟨h1,h2,lenSt_of h1 h2⟩
def gV0 (p:Plan):GV:=fun v=>((firstS p v).1,-1,(firstS p v).2)
theorem begin_seg {p:Plan} {l n:Nat} {a b:Int} (hp:rightPl p=0) (ha:a=l) (hb:b=((l+n:Nat):Int)) (h:b≤p.N):beginS p a b=segV l n (gV0 p):=by
  subst ha hb
  unfold beginS segV
  rw [if_pos ⟨hp,by omega,by omega,h⟩,show (((l+n:Nat):Int) - (l:Int)).toNat=n by omega]
  refine congrArg _ (funext fun i=>?_)
  unfold gV0
  rw [show ((l+i:Nat):Int)=(l:Int)+i by omega]
def behG (p:Plan) (round:Int) (v:Nat) (g:Int×Int×Bool) (o:Option Int):Int×Int×Bool:=
  if p.Kind=1 then (if (getO o).2=true∧g.1 = -1 then (round,(getO o).1,true) else (g.1,g.2.1,false))
  else if p.Kind=2∨p.Kind=3 then (if (getO o).2=true∧(getO o).1<g.1 then ((getO o).1,g.2.1,true) else (g.1,g.2.1,false))
  else if p.Kind=4 then ((getO o).1,g.2.1,(getO o).1 != 0)
  else if g.1≠0 then (g.1,g.2.1,false)
  else if round % 2=0 then (if (getO o).2=true then (2,g.2.1,false) else (g.1,g.2.1,false))
  else if (getO o).2=false∨dnum p round v<(getO o).1 then (1,g.2.1,true) else (g.1,g.2.1,false)
theorem beh_seg {p:Plan} {l n i:Nat} {G:GV} {round:Int} {o:Option Int} (hi:i<n):behS p (segV l n G) round i o=behG p round (l+i) (G (l+i)) o:=by
  have e1:at0 (segV l n G).A i=(G (l+i)).1:=mapN_at hi
  have e2:at0 (segV l n G).B i=(G (l+i)).2.1:=mapN_at hi
  have e3:(segV l n G).Low+(i:Int)=((l+i:Nat):Int):=by show (l:Int)+i=_; omega
  unfold behS behG
  simp only [e1,e2,e3]
def nextG (p:Plan) (round:Int) (G:GV) (Y:Nat→Option Int):GV:=fun v=>behG p round v (G v) (Y v)
theorem chS_congr {low high:Int} {n:Nat} {g g':Nat→Int×Int×Bool} (h:∀ i,i<n→g i=g' i):chS low high n g=chS low high n g':=by
  unfold chS
  rw [mapN_congr fun i hi=>congrArg (·.1) (h i hi),mapN_congr fun i hi=>congrArg (·.2.1) (h i hi),onsN_congr fun i hi=>congrArg (·.2.2) (h i hi)]
theorem upd_seg {p:Plan} {l n:Nat} {G:GV} {round:Int} {y:Vec} {Y:Nat→Option Int} (hp:rightPl p=0) (h:((l+n:Nat):Int)≤p.N) (hy:VecP y) (hn:y.N=n) (hY:∀ i,i<n→lkI y.Items i=Y (l+i)) :
    updS p (segV l n G) round y=segV l n (nextG p round G Y):=by
  have hs:sureSt p (segV l n G)=segV l n G:=if_pos (seg_StP hp h).1
  have e:(segV l n G).High - (segV l n G).Low=(n:Int):=by show ((l+n:Nat):Int) - (l:Int)=n; omega
  have e2:sizN (segV l n G)=n:=by unfold sizN; rw [e]; omega
  unfold updS
  rw [hs,if_pos ⟨hy,by rw [hn,e]⟩,e2]
  have hg:∀ i,i<n→newS p (segV l n G) round y i=nextG p round G Y (l+i):=fun i hi=>by
    unfold newS nextG
    rw [beh_seg hi,hY i hi]
  show chS (l:Int) ((l+n:Nat):Int) n _=chS (l:Int) ((l+n:Nat):Int) n _
  exact chS_congr hg
theorem onsN_mem {n i:Nat} {f:Nat→Bool}:(i:Int)∈onsN n f↔i<n∧f i=true:=by
  unfold onsN
  simp only [List.mem_map,List.mem_filter,List.mem_range]
  constructor
  · rintro ⟨j,⟨h1,h2⟩,h3⟩
    have:j=i:=by omega
    subst this; exact ⟨h1,h2⟩
  · rintro ⟨h1,h2⟩; exact ⟨i,⟨h1,h2⟩,rfl⟩
theorem of_ons {n i:Nat} {f:Nat→Bool} (hi:i<n) (hn:n≤4096):hasF (ofF n (onsN n f)) i=f i:=by
  rw [(ofF_prop _ _).2.2]
  cases hb:f i with
  | true=>exact decide_eq_true ⟨onsN_mem.2 ⟨hi,hb⟩,by omega,by omega,by omega⟩
  | false=>exact decide_eq_false fun h=>by have:=(onsN_mem.1 h.1).2; rw [hb] at this; cases this
def tellG (p:Plan) (round:Int) (v:Nat) (g:Int×Int×Bool):Int×Bool:=
  if p.Kind=1 then ((v:Int),g.2.2) else if p.Kind=5 then (if round % 2=0 then (1,g.2.2) else (dnum p round v,g.1==0)) else (g.1,g.2.2)
theorem outI_congr {n:Nat} {f g:Nat→Int×Bool} (h:∀ i,i<n→f i=g i):outI n f=outI n g:=by
  induction n with
  | zero=>rfl
  | succ n ih=>rw [outI_succ,outI_succ,ih fun i hi=>h i (by omega),h n (by omega)]
theorem out_seg {p:Plan} {l n:Nat} {G:GV} {round:Int} (hp:rightPl p=0) (h:((l+n:Nat):Int)≤p.N):outVS p (segV l n G) round=⟨n,outI n fun i=>tellG p round (l+i) (G (l+i))⟩:=by
  have hs:sureSt p (segV l n G)=segV l n G:=if_pos (seg_StP hp h).1
  have hn:=(rightPl_zero hp).2.1
  have e:(segV l n G).High - (segV l n G).Low=(n:Int):=by show ((l+n:Nat):Int) - (l:Int)=n; omega
  have e2:sizN (segV l n G)=n:=by unfold sizN; rw [e]; omega
  unfold outVS
  rw [hs,e,e2]
  congr 1
  refine outI_congr fun i hi=>?_
  have e1:at0 (segV l n G).A i=(G (l+i)).1:=mapN_at hi
  have e3:(segV l n G).Low+(i:Int)=((l+i:Nat):Int):=by show (l:Int)+i=_; omega
  have e4:hasF (segV l n G).On i=(G (l+i)).2.2:=of_ons hi (by omega)
  unfold tellsS tellG
  rw [e1,e3,e4]
theorem live_seg {p:Plan} {l n:Nat} {G:GV} {round:Int} (hp:rightPl p=0) (h:((l+n:Nat):Int)≤p.N) :
    liveS p (segV l n G) round=if p.Kind=4∧p.Length≤round then 0 else ((cntN n fun i=>if p.Kind=5 then (G (l+i)).1==0 else (G (l+i)).2.2:Nat):Int):=by
  have hs:sureSt p (segV l n G)=segV l n G:=if_pos (seg_StP hp h).1
  have hn:=(rightPl_zero hp).2.1
  have e:(segV l n G).High - (segV l n G).Low=(n:Int):=by show ((l+n:Nat):Int) - (l:Int)=n; omega
  have e2:sizN (segV l n G)=n:=by unfold sizN; rw [e]; omega
  unfold liveS liveN
  rw [hs,e2]
  have:cntN n (goesS p (segV l n G))=cntN n fun i=>if p.Kind=5 then (G (l+i)).1==0 else (G (l+i)).2.2:=cntN_congr fun i hi=>by
    have e1:at0 (segV l n G).A i=(G (l+i)).1:=mapN_at hi
    have e4:hasF (segV l n G).On i=(G (l+i)).2.2:=of_ons hi (by omega)
    unfold goesS
    rw [e1,e4]
  rw [this]
theorem outI_in {n:Nat} {f:Nat→Int×Bool} {x:Item} (h:x∈outI n f):0≤x.At∧x.At<n:=by
  unfold outI at h
  obtain ⟨i,hi,he⟩:=List.mem_filterMap.1 h
  have:=List.mem_range.1 hi
  split at he
  · cases he; simp only; omega
  · cases he
theorem outI_inc (n:Nat) (f:Nat→Int×Bool):IncI (outI n f):=by
  induction n with
  | zero=>exact List.Pairwise.nil
  | succ n ih=>
    rw [outI_succ]
    split
    · unfold IncI
      rw [List.pairwise_append]
      refine ⟨ih,by simp,fun x hx y hy=>?_⟩
      simp only [List.mem_singleton] at hy
      subst hy
      exact (outI_in hx).2
    · exact ih
theorem out_vecP {n:Nat} (hn:n≤4096) (f:Nat→Int×Bool):VecP ⟨n,outI n f⟩:=⟨by simp only; omega,by simp only; omega,outI_inc n f,fun x hx=>outI_in hx⟩
def stepX (p:Plan) (T:List Triple) (s:State) (round:Int):List Sum×Int:=sumsR (ringPl p.Kind round) p.N p.N T (outVS p s round) (askS p s).1 (askS p s).2
def stepY (p:Plan) (T:List Triple) (s:State) (round:Int):Vec×Int:=if (stepX p T s round).2≠0 then (zV,(stepX p T s round).2) else doneS (ringPl p.Kind round) p.N (stepX p T s round).1
def stepS (p:Plan) (T:List Triple) (s:State) (round:Int):State×Int:=if (stepY p T s round).2≠0 then (zSt,(stepY p T s round).2) else (updS p s round (stepY p T s round).1,0)
structure Whole (p:Plan) (s:State):Prop where
  st:StP p s
  ok:okSt s
  lo:s.Low=0
  hi:s.High=p.N
  va:∀ x∈s.A,inI x
theorem Whole.sure {p:Plan} {s:State} (h:Whole p s):sureSt p s=s:=if_pos h.st
theorem begin_whole {p:Plan} (hp:rightPl p=0):Whole p (beginS p 0 p.N):=by
  have hn:=(rightPl_zero hp).2.1
  have h:=begin_St (p:=p) (low:=0) (high:=p.N) hp (by omega) (by omega) (by omega)
  refine ⟨h.1,h.2,?_,?_,?_⟩
  · unfold beginS; rw [if_pos ⟨hp,by omega,by omega,by omega⟩]; rfl
  · unfold beginS; rw [if_pos ⟨hp,by omega,by omega,by omega⟩]; rfl
  · unfold beginS; rw [if_pos ⟨hp,by omega,by omega,by omega⟩]
    intro x hx
    obtain ⟨i,hi,rfl⟩:=List.mem_map.1 (show x∈mapN _ _ from hx)
    have hi:=List.mem_range.1 hi
    simp only
    unfold firstS infI inI
    repeat' split
    all_goals (simp only; omega)
theorem getO_inI {o:Option Int} (h:∀ y,o=some y→inI y):inI (getO o).1:=by
  cases o with
  | none=>unfold inI getO; simp
  | some y=>exact h y rfl
theorem Whole.upd {p:Plan} {s:State} (h:Whole p s) {round:Int} (hr:0≤round∧round≤1000000) {y:Vec} (hy:∀ x∈y.Items,inI x.Val):Whole p (updS p s round y):=by
  have hu:=upd_St (round:=round) (y:=y) h.st h.ok
  refine ⟨hu.1,hu.2.1,hu.2.2.1.trans h.lo,hu.2.2.2.trans h.hi,?_⟩
  unfold updS
  rw [h.sure]
  split
  · intro x hx
    obtain ⟨i,hi,rfl⟩:=List.mem_map.1 (show x∈mapN _ _ from hx)
    have hi:=List.mem_range.1 hi
    have ha:inI (at0 s.A i):=by
      have hl:i<s.A.length:=by have:=h.st.2.2.2.2.1; omega
      have:at0 s.A i=s.A[i]:=by unfold at0; simp [hl]
      rw [this]; exact h.va _ (List.getElem_mem hl)
    have hg:inI (getO (lkI y.Items i)).1:=getO_inI fun z hz=>hy _ (lkI_mem hz)
    have hrd:inI round:=by unfold inI; omega
    show inI (behS p s round i (lkI y.Items i)).1
    unfold behS
    simp only
    repeat' split
    all_goals first | assumption | (unfold inI; omega)
  · exact h.va
theorem done_inI {r n:Int} {l:List Sum}:∀ x∈(doneS r n l).1.Items,inI x.Val:=by
  unfold doneS
  repeat' split
  all_goals first | (intro x hx; cases hx; done) | skip
  intro x hx
  obtain ⟨s,hs,he⟩:=List.mem_filterMap.1 hx
  unfold nzI at he
  split at he
  · cases he; exact nar_inI _
  · cases he
theorem stepY_inI {p:Plan} {T:List Triple} {s:State} {round:Int}:∀ x∈(stepY p T s round).1.Items,inI x.Val:=by
  unfold stepY
  split
  · intro x hx; cases hx
  · exact done_inI
def seqS (p:Plan) (T:List Triple):Nat→State
  | 0=>beginS p 0 p.N
  | k+1=>(stepS p T (seqS p T k) ((k:Int)+1)).1
def stopS (p:Plan) (T:List Triple) (limit:Int) (k:Nat):Int:=if liveS p (seqS p T k) k=0 then 1 else if (k:Int)=limit then 2 else if (stepS p T (seqS p T k) ((k:Int)+1)).2≠0 then 3 else 0
structure Ends (p:Plan) (T:List Triple) (limit:Int) (n:Nat) (st:Int):Prop where
  le:(n:Int)≤limit
  lt:∀ k,k<n→stopS p T limit k=0
  at_:stopS p T limit n=st
  ne:st≠0
theorem stop_go {p:Plan} {T:List Triple} {limit:Int} {k:Nat} (h:stopS p T limit k=0):liveS p (seqS p T k) k≠0∧(k:Int)≠limit∧(stepS p T (seqS p T k) ((k:Int)+1)).2=0:=by
  unfold stopS at h
  split at h
  · cases h
  · split at h
    · cases h
    · split at h
      · cases h
      · rename_i h1 h2 h3
        exact ⟨h1,h2,Decidable.of_not_not h3⟩
theorem step_zero {p:Plan} {T:List Triple} {s:State} {round:Int} (h:(stepS p T s round).2=0):(stepY p T s round).2=0∧stepS p T s round=(updS p s round (stepY p T s round).1,0):=by
  unfold stepS at h ⊢
  by_cases h0:(stepY p T s round).2≠0
  · rw [if_pos h0] at h; exact absurd h h0
  · rw [if_neg h0]; exact ⟨Decidable.of_not_not h0,rfl⟩
theorem seq_le {p:Plan} {T:List Triple} {limit:Int} (hl:0≤limit):∀ {k:Nat},(∀ j,j<k→stopS p T limit j=0)→(k:Int)≤limit
  | 0,_=>hl
  | k+1,h=>by
    have ih:=seq_le (k:=k) hl fun j hj=>h j (by omega)
    have:=stop_go (h k (by omega))
    omega
theorem seq_whole {p:Plan} {T:List Triple} {limit:Int} (hp:rightPl p=0) (hl:0≤limit∧limit≤8192):∀ {k:Nat},(∀ j,j<k→stopS p T limit j=0)→Whole p (seqS p T k)
  | 0,_=>begin_whole hp
  | k+1,h=>by
    have ih:=seq_whole (k:=k) hp hl fun j hj=>h j (by omega)
    have hk:=seq_le hl.1 h
    have:=stop_go (h k (by omega))
    have e:=(step_zero this.2.2).2
    show Whole p (stepS p T (seqS p T k) ((k:Int)+1)).1
    rw [e]
    exact ih.upd (by omega) stepY_inI
def nzW (r:Int) (w:Wide):Option Int:=if (narS w).1≠zS r then some (narS w).1 else none
def askG (p:Plan) (g:Int×Int×Bool):Bool:=if p.Kind=1 then g.1 == -1 else if p.Kind=5 then g.1==0 else true
def rowG (p:Plan) (T:List Triple) (n:Nat) (round:Int) (G:GV) (v:Nat):Option Wide:=rowW (ringPl p.Kind round) n (lkI (rowI T v)) (lkI (outI n fun i=>tellG p round i (G i)))
def hearG (p:Plan) (T:List Triple) (n:Nat) (round:Int) (G:GV) (v:Nat):Option Int:=if askG p (G v)=true then (rowG p T n round G v).bind (nzW (ringPl p.Kind round)) else none
theorem nz_at {r:Int} {s:Sum} {x:Item} (h:nzI r s=some x):x.At=s.At:=by
  unfold nzI at h
  split at h
  · cases h; rfl
  · cases h
theorem nz_lk {r:Int}:∀ {l:List Sum},Rise l→∀ i:Int,lkI (l.filterMap (nzI r)) i=(lk l i).bind (nzW r)
  | [],_,i=>rfl
  | s :: l,h,i=>by
    have hr:Rise l:=(List.pairwise_cons.1 h).2
    have hlt:=(List.pairwise_cons.1 h).1
    have ih:=nz_lk (r:=r) hr i
    rw [List.filterMap_cons,lk_cons]
    cases hn:nzI r s with
    | none=>
      rw [ih]
      by_cases e:i=s.At
      · rw [if_pos e,lk_none fun x hx=>by have:=hlt x hx; omega]
        simp only [Option.bind_none,Option.bind_some]
        unfold nzI at hn; unfold nzW
        split at hn
        · cases hn
        · rename_i h0; rw [if_neg h0]
      · rw [if_neg e]
    | some x=>
      rw [lkI_cons,nz_at hn,ih]
      by_cases e:i=s.At
      · rw [if_pos e,if_pos e]
        unfold nzI at hn; unfold nzW
        split at hn
        · rename_i h0; cases hn; simp only [Option.bind_some]; rw [if_pos h0]
        · cases hn
      · rw [if_neg e,if_neg e]
theorem nz_vecP {r n:Int} {l:List Sum} (hn:0≤n∧n≤4096) (h:Rise l) (hi:∀ s∈l,0≤s.At∧s.At<n):VecP ⟨n,l.filterMap (nzI r)⟩:=by
  refine ⟨hn.1,hn.2,?_,fun x hx=>?_⟩
  · refine List.Pairwise.filterMap _ (fun a b hab c hc d hd=>?_) h
    rw [nz_at hc,nz_at hd]; exact hab
  · obtain ⟨s,hs,he⟩:=List.mem_filterMap.1 hx
    rw [nz_at he]; exact hi s hs
theorem ringPl_b {p:Plan} (h:1≤p.Kind∧p.Kind≤5) (round:Int):1≤ringPl p.Kind round∧ringPl p.Kind round≤5:=by
  unfold ringPl
  repeat' split
  all_goals omega
theorem ask_seg {p:Plan} {n:Nat} {G:GV} (hn4:n≤4096) {i:Nat} (hi:i<n):askF (askS p (segV 0 n G)).1 (askS p (segV 0 n G)).2 i=askG p (G i):=by
  have e2:sizN (segV 0 n G)=n:=by show ((((0+n:Nat):Int)) - ((0:Nat):Int)).toNat=n; omega
  have e1:∀ j,j<n→at0 (segV 0 n G).A j=(G j).1:=fun j hj=>by
    have:at0 (segV 0 n G).A j=(G (0+j)).1:=mapN_at hj
    rwa [Nat.zero_add] at this
  unfold askS askG askF
  rw [e2]
  by_cases h1:p.Kind=1
  · rw [if_pos h1,if_pos h1]
    simp only
    rw [of_ons hi hn4,e1 i hi]
    simp
  · rw [if_neg h1,if_neg h1]
    by_cases h5:p.Kind=5
    · rw [if_pos h5,if_pos h5]
      simp only
      rw [of_ons hi hn4,e1 i hi]
      simp
    · rw [if_neg h5,if_neg h5]
      simp only
      rw [hasF_over (by simp)]
      rfl
theorem step_seg {p:Plan} {T:List Triple} {n:Nat} {G:GV} {round:Int} (hp:rightPl p=0) (hn:p.N=n) :
    ((∃ v w,v<n∧askG p (G v)=true∧rowG p T n round G v=some w∧(narS w).2=false)→stepS p T (segV 0 n G) round=(zSt,12)) ∧
    ((∀ v w,v<n→askG p (G v)=true→rowG p T n round G v=some w→(narS w).2=true)→stepS p T (segV 0 n G) round=(segV 0 n (nextG p round G (hearG p T n round G)),0)):=by
  have hpz:=rightPl_zero hp
  have hn4:n≤4096:=by have:=hpz.2.1; omega
  have hr:=ringPl_b hpz.1 round
  have hout:outVS p (segV 0 n G) round=⟨n,outI n fun i=>tellG p round i (G i)⟩:=by
    rw [out_seg hp (by omega)]
    congr 1
    exact outI_congr fun i _=>by rw [Nat.zero_add]
  have hx:stepX p T (segV 0 n G) round=(sumsS (ringPl p.Kind round) n n (askS p (segV 0 n G)).1 (askS p (segV 0 n G)).2 (fun i=>lkI (rowI T i)) (lkI (outI n fun i=>tellG p round i (G i))),0):=by
    unfold stepX sumsR
    rw [hout,if_neg (fun h=>h hr),if_neg (fun h=>h hn.symm),hn]
    simp
  have hsp:=sumsS_prop (ringPl p.Kind round) n (askS p (segV 0 n G)).1 (askS p (segV 0 n G)).2 (fun i=>lkI (rowI T i)) (lkI (outI n fun i=>tellG p round i (G i))) n
  generalize sumsS (ringPl p.Kind round) n n (askS p (segV 0 n G)).1 (askS p (segV 0 n G)).2 (fun i=>lkI (rowI T i)) (lkI (outI n fun i=>tellG p round i (G i)))=l at hx hsp
  obtain ⟨q1,q2,q3,q4,q5⟩:=hsp
  have hlk:∀ i:Nat,i<n→lk l i=if askG p (G i)=true then rowG p T n round G i else none:=by
    intro i hi
    rw [q5,ask_seg hn4 hi]
    by_cases ha:askG p (G i)=true
    · rw [if_pos ⟨by omega,by omega,ha⟩,if_pos ha]; rfl
    · rw [if_neg (fun h=>ha h.2.2),if_neg ha]
  have hy:stepY p T (segV 0 n G) round=if ∃ s∈l,(narS s.Val).2=false then (zV,12) else (⟨n,l.filterMap (nzI (ringPl p.Kind round))⟩,0):=by
    unfold stepY doneS
    rw [hx]
    simp only
    rw [if_neg (fun h=>h rfl),if_neg (fun h=>h hr),if_neg,if_neg (fun h=>h q1),hn]
    rintro (h | ⟨s,hs,h⟩)
    · exact h (by omega)
    · have:=q4 s hs; exact h (by omega)
  constructor
  · rintro ⟨v,w,hv,ha,hw,hb⟩
    have hm:(⟨(v:Int),w⟩:Sum)∈l:=lk_mem (by rw [hlk v hv,if_pos ha,hw])
    have:stepY p T (segV 0 n G) round=(zV,12):=by rw [hy,if_pos ⟨_,hm,hb⟩]
    unfold stepS
    rw [this,if_pos (by simp)]
  · intro hall
    have:stepY p T (segV 0 n G) round=(⟨n,l.filterMap (nzI (ringPl p.Kind round))⟩,0):=by
      rw [hy,if_neg]
      rintro ⟨s,hs,hb⟩
      have hin:=q4 s hs
      obtain ⟨v,hv⟩:∃ v:Nat,s.At=v:=⟨s.At.toNat,by omega⟩
      have h1:lk l v=some s.Val:=by rw [←hv]; exact mem_lk q1 hs
      have hv':v<n:=by omega
      rw [hlk v hv'] at h1
      split at h1
      · rename_i ha
        have:=hall v s.Val hv' ha h1
        rw [hb] at this; cases this
      · cases h1
    unfold stepS
    rw [this]
    simp only
    rw [if_neg (fun h=>h rfl),upd_seg (Y:=hearG p T n round G) hp (by omega) (nz_vecP ⟨by omega,by omega⟩ q1 q4) rfl]
    intro i hi
    simp only
    rw [nz_lk q1,hlk i hi,Nat.zero_add]
    unfold hearG
    split <;> rfl
theorem cntN_le2 {n:Nat} {f g:Nat→Bool} (h:∀ i,i<n→g i=true→f i=true):cntN n g≤cntN n f:=by
  induction n with
  | zero=>exact Nat.le_refl _
  | succ n ih=>
    rw [cntN_succ,cntN_succ]
    have h1:=ih fun i hi=>h i (by omega)
    have h2:=h n (by omega)
    cases hg:g n with
    | false=>simp only [Bool.false_eq_true,if_false]; split <;> omega
    | true=>rw [h2 hg]; simp only [if_true]; omega
theorem cntN_lt {n:Nat} {f g:Nat→Bool} (h:∀ i,i<n→g i=true→f i=true) {v:Nat} (hv:v<n) (hf:f v=true) (hg:g v=false):cntN n g<cntN n f:=by
  induction n with
  | zero=>omega
  | succ n ih=>
    rw [cntN_succ,cntN_succ]
    by_cases e:v=n
    · subst e
      rw [hf,hg]
      have:=cntN_le2 (n:=v) fun i hi=>h i (by omega)
      simp only [Bool.false_eq_true,if_false,if_true]; omega
    · have h1:=ih (fun i hi=>h i (by omega)) (by omega)
      have h2:=h n (by omega)
      cases hg:g n with
      | false=>simp only [Bool.false_eq_true,if_false]; split <;> omega
      | true=>rw [h2 hg]; simp only [if_true]; omega
theorem outI_lk (f:Nat→Int×Bool) (j:Nat):∀ n:Nat,lkI (outI n f) (j:Int)=if j<n∧(f j).2=true then some (f j).1 else none
  | 0=>by rw [if_neg (by omega)]; rfl
  | n+1=>by
    rw [outI_succ]
    by_cases hn:(f n).2=true
    · rw [if_pos hn,lkI_append,outI_lk f j n,lkI_cons]
      by_cases e:j=n
      · subst e
        rw [if_neg (fun h=>by omega),if_pos rfl,if_pos ⟨by omega,hn⟩]
      · rw [if_neg (show ¬(j:Int)=(n:Int) by omega)]
        by_cases h:j<n∧(f j).2=true
        · rw [if_pos h,if_pos ⟨by omega,h.2⟩]
        · rw [if_neg h,if_neg (fun h'=>h ⟨by omega,h'.2⟩)]; rfl
    · rw [if_neg hn,outI_lk f j n]
      by_cases h:j<n∧(f j).2=true
      · rw [if_pos h,if_pos ⟨by omega,h.2⟩]
      · rw [if_neg h,if_neg]
        rintro ⟨h1,h2⟩
        by_cases e:j=n
        · subst e; exact hn h2
        · exact h ⟨by omega,h2⟩
theorem narS_ofZ {z:Int} (h:inI z):narS (ofZ z)=(z,true):=by
  unfold narS ofZ
  unfold inI at h
  simp only [w64_eq]
  rw [if_pos (by omega)]
  rw [Prod.mk.injEq]
  exact ⟨by omega,rfl⟩
theorem ins1_src {k:Key} {v:Wide}:∀ {l:List (Key×Wide)} {p:Key×Wide},p∈ins 1 k v l→p=(k,v)∨p∈l
  | [],p,h=>by simp [ins] at h; exact .inl h
  | q :: l,p,h=>by
    unfold ins at h
    split at h
    · rcases List.mem_cons.1 h with rfl | h
      · exact .inr (by simp)
      · rcases ins1_src h with h | h
        · exact .inl h
        · exact .inr (by simp [h])
    · split at h
      · rename_i hk
        rcases List.mem_cons.1 h with rfl | h
        · unfold addW
          rw [if_pos (.inl rfl)]
          split
          · right
            obtain ⟨q1,q2⟩:=q
            simp only at hk
            subst hk; simp
          · exact .inl rfl
        · exact .inr (by simp [h])
      · rcases List.mem_cons.1 h with rfl | h
        · exact .inl rfl
        · exact .inr h
theorem SC1_src:∀ {ts:List (Key×Int)} {p:Key×Wide},p∈SC 1 ts→∃ t∈ts,p=(t.1,ofI t.2):=by
  suffices ∀ (ts:List (Key×Int)) (l:List (Key×Wide)) p,p∈ts.foldl (fun l t=>ins 1 t.1 (ofI t.2) l) l→(∃ t∈ts,p=(t.1,ofI t.2))∨p∈l from fun {ts p} h=>by
    rcases this ts [] p h with h | h
    · exact h
    · simp at h
  intro ts
  induction ts with
  | nil=>intro l p h; exact .inr h
  | cons t ts ih=>
    intro l p h
    rcases ih _ _ h with ⟨x,hx,e⟩ | hq
    · exact .inl ⟨x,by simp [hx],e⟩
    · rcases ins1_src hq with e2 | h2
      · exact .inl ⟨t,by simp,e2⟩
      · exact .inr h2
theorem canon_src {es:List Edge} (hv:∀ e∈es,inI e.W) {e:Edge} (he:e∈canonS es):e∈es:=by
  unfold canonS finS at he
  split at he
  · obtain ⟨p,hp,rfl⟩:=List.mem_map.1 he
    obtain ⟨t,ht,rfl⟩:=SC1_src hp
    obtain ⟨x,hx,rfl⟩:=List.mem_map.1 ht
    simp only [kvE]
    rw [nar_ofI (hv x hx)]
    exact hx
  · cases he
theorem graph_src {g:Graph} (hv:∀ e∈g.Edges,inI e.W) {t:Triple} (ht:t∈graphT g):∃ e∈g.Edges,t=⟨e.To,e.From,e.W⟩:=by
  unfold graphT finS at ht
  split at ht
  · obtain ⟨p,hp,rfl⟩:=List.mem_map.1 ht
    obtain ⟨q,hq,rfl⟩:=SC1_src hp
    obtain ⟨x,hx,rfl⟩:=List.mem_map.1 hq
    refine ⟨x,hx,?_⟩
    simp only [kvF]
    rw [nar_ofI (hv x hx)]
    rfl
  · cases ht
def goodE (n:Int) (es:List Edge):Prop:=∀ e∈es,inE n e∧wOk e
theorem goodE_in {n:Int} {es:List Edge} (h:goodE n es):∀ e∈es,inI e.W:=fun e he=>by have:=(h e he).2; unfold wOk at this; unfold inI; omega
theorem goodE_canon {n:Int} {es:List Edge} (h:goodE n es):goodE n (canonS es):=fun e he=>h e (canon_src (goodE_in h) he)
theorem goodE_one {n:Int} {es:List Edge} (h:goodE n es):goodE n (es.map oneE):=fun e he=>by
  obtain ⟨x,hx,rfl⟩:=List.mem_map.1 he
  exact ⟨(h x hx).1,by unfold wOk oneE; simp⟩
theorem goodE_flip {n:Int} {es:List Edge} (h:goodE n es):goodE n (es.map flipE):=fun e he=>by
  obtain ⟨x,hx,rfl⟩:=List.mem_map.1 he
  have:=h x hx
  exact ⟨⟨this.1.2,this.1.1⟩,this.2⟩
theorem goodE_app {n:Int} {xs ys:List Edge} (h:goodE n xs) (h':goodE n ys):goodE n (xs++ys):=fun e he=>by
  rcases List.mem_append.1 he with h1 | h1
  · exact h e h1
  · exact h' e h1
theorem right_good {g:Graph} (h:rightG g=0):goodE g.N g.Edges:=fun e he=>⟨(rightG_zero h).2.2.2.1 e he,(rightG_zero h).2.2.2.2 e he⟩
theorem good_right {g:Graph} (h0:0≤g.N∧g.N≤4096) (hl:g.Edges.length≤65536) (h:goodE g.N g.Edges):rightG g=0:=by
  unfold rightG
  rw [if_neg (by omega),if_neg (by omega),if_neg (fun h'=>h' fun e he=>(h e he).1),if_neg (fun h'=>h' fun e he=>(h e he).2)]
def noL (es:List Edge):Prop:=∀ e∈es,e.From≠e.To
def namG (p:Plan) (g:Graph):Graph:=if p.Kind=5 then plainG (bothG (simpG g)) else if p.Kind=3 then plainG (bothG g) else if p.Kind=1 then plainG g else g
theorem plain_good {g:Graph} (h:goodE g.N g.Edges):goodE (plainG g).N (plainG g).Edges∧(plainG g).Edges.length≤g.Edges.length∧(noL g.Edges→noL (plainG g).Edges):=by
  refine ⟨goodE_canon (goodE_one h),?_,fun hn e he=>?_⟩
  · have:=canon_len (goodE_in (goodE_one h)); rwa [List.length_map] at this
  · have:=canon_src (goodE_in (goodE_one h)) he
    obtain ⟨x,hx,rfl⟩:=List.mem_map.1 this
    exact hn x hx
theorem both_good {g:Graph} (h:goodE g.N g.Edges):goodE (bothG g).N (bothG g).Edges∧(bothG g).Edges.length≤2*g.Edges.length∧(noL g.Edges→noL (bothG g).Edges):=by
  have ht:goodE g.N (turnG g).Edges:=goodE_canon (goodE_flip h)
  have ha:=goodE_app h ht
  refine ⟨goodE_canon ha,?_,fun hn e he=>?_⟩
  · have h1:=canon_len (goodE_in ha)
    have h2:=canon_len (goodE_in (goodE_flip h))
    rw [List.length_append] at h1
    rw [List.length_map] at h2
    have:(turnG g).Edges.length≤g.Edges.length:=h2
    show (canonS _).length≤_
    omega
  · rcases List.mem_append.1 (canon_src (goodE_in ha) he) with h1 | h1
    · exact hn e h1
    · obtain ⟨x,hx,rfl⟩:=List.mem_map.1 (canon_src (goodE_in (goodE_flip h)) h1)
      exact fun e=>hn x hx e.symm
theorem simp_good {g:Graph} (h:goodE g.N g.Edges):goodE (simpG g).N (simpG g).Edges∧(simpG g).Edges.length≤g.Edges.length∧noL (simpG g).Edges:=by
  have hf:goodE g.N (g.Edges.filter notLoop):=fun e he=>h e (List.mem_filter.1 he).1
  refine ⟨goodE_canon hf,?_,fun e he=>?_⟩
  · have h1:=canon_len (goodE_in hf)
    have h2:=List.length_filter_le notLoop g.Edges
    show (canonS _).length≤_
    omega
  · have:=(List.mem_filter.1 (canon_src (goodE_in hf) he)).2
    unfold notLoop at this
    simpa using this
theorem nam_good {p:Plan} {g:Graph} (h:goodE g.N g.Edges):(namG p g).N=g.N∧goodE g.N (namG p g).Edges∧(namG p g).Edges.length≤2*g.Edges.length∧(p.Kind=5→noL (namG p g).Edges):=by
  unfold namG
  have hs:=simp_good h
  have hb:=both_good h
  have hsb:=both_good hs.1
  have hp:=plain_good h
  have hbp:=plain_good hb.1
  have hsp:=plain_good hsb.1
  by_cases h5:p.Kind=5
  · rw [if_pos h5]
    exact ⟨rfl,hsp.1,by have:=hsp.2.1; have:=hsb.2.1; have:=hs.2.1; omega,fun _=>hsp.2.2 (hsb.2.2 hs.2.2)⟩
  · rw [if_neg h5]
    by_cases h3:p.Kind=3
    · rw [if_pos h3]; exact ⟨rfl,hbp.1,by have:=hbp.2.1; have:=hb.2.1; omega,fun h=>absurd h h5⟩
    · rw [if_neg h3]
      by_cases h1:p.Kind=1
      · rw [if_pos h1]; exact ⟨rfl,hp.1,by have:=hp.2.1; omega,fun h=>absurd h h5⟩
      · rw [if_neg h1]; exact ⟨rfl,h,by omega,fun h=>absurd h h5⟩
theorem mat_is {p:Plan} {g:Graph} (hp:rightPl p=0) (hn:g.N=p.N) (hg:rightG g=0) (hl:g.Edges.length≤30000):matS p g=(builtS p.N p.N (graphT (namG p g)),0)∧rightG (namG p g)=0:=by
  have hz:=rightG_zero hg
  have hgd:=nam_good (p:=p) (right_good hg)
  have hr:rightG (namG p g)=0:=good_right (by omega) (by omega) (by rw [hgd.1]; exact hgd.2.1)
  refine ⟨?_,hr⟩
  unfold matS
  rw [if_neg (fun h=>h hp),if_neg (fun h=>h hn),if_neg (fun h=>h hg)]
  show graphS (namG p g)=_
  unfold graphS
  rw [if_pos hr,hgd.1,hn]
end Go.Proofs.YtaefnmlbnkmahaaGreat
