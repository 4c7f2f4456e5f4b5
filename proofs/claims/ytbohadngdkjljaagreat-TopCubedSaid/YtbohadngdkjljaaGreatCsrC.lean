import Derived.Test.YtbohadngdkjljaaGreatT
import Derived.Test.YtbohadngdkjljaaGreatFwQ
namespace Go.Proofs.YtbohadngdkjljaaGreat
open Go Go.Fw
set_option linter.unusedVariables false
set_option linter.unusedSimpArgs false
def QG (x y:Int):Int:=if x<y then -1 else if y<x then 1 else 0
theorem GR {x y:Int} {Q:Int→Prop} (h:Q (QG x y)):CY x y Q:=by
  unfold CY GQ
  unfold QG at h
  refine AR (by simp) (AR (by simp) (AB (fun h1=>?_) (fun h1=>AB (fun h2=>?_) (fun h2=>?_))))
  · rwa [if_pos h1] at h
  · rwa [if_neg h1,if_pos h2] at h
  · rwa [if_neg h1,if_neg h2] at h
theorem jJ {x y:Int} {Q:Int→Prop} (h:Q (QG x y)):IK x y Q:=by
  unfold IK KH
  unfold QG at h
  refine AR (by simp) (AR (by simp) (AB (fun h1=>?_) (fun h1=>AB (fun h2=>?_) (fun h2=>?_))))
  · rwa [if_pos h1] at h
  · rwa [if_neg h1,if_pos h2] at h
  · rwa [if_neg h1,if_neg h2] at h
theorem fP {x y:Int} {Q:Int→Prop} (h:Q (QG x y)):HQ x y Q:=by
  unfold HQ JJ
  unfold QG at h
  refine AR (by simp) (AR (by simp) (AB (fun h1=>?_) (fun h1=>AB (fun h2=>?_) (fun h2=>?_))))
  · rwa [if_pos h1] at h
  · rwa [if_neg h1,if_pos h2] at h
  · rwa [if_neg h1,if_neg h2] at h
def tT (x y:Int):Int:=if x=0 then y else x
theorem gU {x y:Int} {Q:Int→Prop} (h:Q (tT x y)):IZ [x,y] Q:=by
  unfold IZ
  unfold tT at h
  refine DF 2 (by omega) (fun i=>(0<i→x=0)∧(1<i→y=0)) ⟨by omega,by omega⟩ (fun i next hi hR hn=>?_) (fun next hR=>?_)
  · refine AB (fun _=>?_) (fun h=>by simp at h; omega)
    match i,hi with
    | 0,_=>exact AM (by omega) (x:=x) rfl (EO (fun e=>by rwa [if_neg e] at h) (fun e=>hn ⟨fun _=>e,by omega⟩))
    | 1,_=>exact AM (by omega) (x:=y) rfl (EO (fun e=>by rwa [if_pos (hR.1 (by omega))] at h) (fun e=>hn ⟨fun _=>hR.1 (by omega),fun _=>e⟩))
  · refine AB (fun h=>by simp at h) (fun _=>?_)
    rwa [if_pos (hR.1 (by omega)),hR.2 (by omega)] at h
def LX (a:AL):Prop:=-9223372036854775808≤a.Hi∧a.Hi≤9223372036854775807∧0≤a.Lo∧a.Lo≤18446744073709551615
def GS (x:Int):Prop:=-9223372036854775808≤x∧x≤9223372036854775807
def Y1 (a b:AL):Prop:=a.Hi<b.Hi∨(a.Hi=b.Hi∧a.Lo≤b.Lo)
instance (a b:AL):Decidable (Y1 a b):=by unfold Y1; infer_instance
theorem SB (x:Int):IntKind.wrap .u64 x=x % 18446744073709551616:=by
  simp [IntKind.wrap,IntKind.bits,IntKind.signed]
theorem HG (x:Int):AJ x=(x+9223372036854775808) % 18446744073709551616 - 9223372036854775808:=by
  show IntKind.wrap .i64 x=_
  rw [IntKind.wrap_i64]
def QH (v:Int):AL:=⟨if v<0 then -1 else 0,v % 18446744073709551616⟩
theorem jK {v:Int} (h:GS v):LX (QH v):=by unfold QH LX; unfold GS at h; simp only; split <;> omega
theorem AcQ {v:Int} (h:GS v):shr .i64 v 63=if v<0 then -1 else 0:=by
  unfold GS at h
  show v.fdiv (2 ^ 63)=_
  rw [Int.fdiv_eq_ediv_of_nonneg _ (by decide)]
  split
  · rw [show (2:Int) ^ 63=9223372036854775808 from rfl]; omega
  · rw [show (2:Int) ^ 63=9223372036854775808 from rfl]; omega
theorem JD {v:Int} {Q:AL→Prop} (h:GS v) (hQ:Q (QH v)):LH v Q:=by
  unfold LH; rw [AcQ h,SB]; exact hQ
theorem mJ {v:Int} {Q:AL→Prop} (h:GS v) (hQ:Q (QH v)):YE v Q:=by
  unfold YE; unfold QH at hQ
  refine AB (fun h1=>?_) (fun h1=>?_)
  · rw [if_pos h1] at hQ; rwa [SB]
  · rw [if_neg h1] at hQ; rwa [SB]
theorem mK {a b:AL} {Q:Int→Prop} (hQ:Q (tT (QG a.Hi b.Hi) (QG a.Lo b.Lo))):OU a b Q:=by
  unfold OU
  exact jJ (fP (gU hQ))
theorem gV {a b:AL} {Q:AL→Prop} (hQ:Q (if Y1 a b then a else b)):NN a b Q:=by
  unfold NN
  refine mK (AB (fun h=>?_) (fun h=>?_))
  · rwa [if_pos] at hQ
    unfold Y1; unfold tT QG at h
    (repeat' split at h) <;> omega
  · rwa [if_neg] at hQ
    unfold Y1; unfold tT QG at h
    (repeat' split at h) <;> omega
theorem NS {a b:AL} (h1:a.Hi=b.Hi) (h2:a.Lo=b.Lo):a=b:=by cases a; cases b; simp_all
theorem jL {a b:AL} {Q:Int→Prop} (h1:¬Y1 b a→Q (-1)) (h2:Y1 b a→∀ x:Int,0≤x→Q x):NA a b Q:=by
  unfold NA
  refine FD (fun _=>Y1 b a) (fun _ hb=>CC (fun _=>h2 hb 0 (by omega)) (fun _=>h2 hb 1 (by omega))) fun k hk=>?_
  refine AB (fun h=>h1 ?_) (fun h=>CC (fun e=>AB (fun h'=>h1 ?_) (fun h'=>hk () ?_)) (fun e=>hk () ?_))
  all_goals (unfold Y1; omega)
def FM (r:Int) (a b:AL):AL:=
  if r=1∨r=3∨r=4 then (if Y1 a b then a else b)
  else if r=2 then (if a=⟨0,0⟩∧b=⟨0,0⟩ then ⟨0,0⟩ else ⟨0,1⟩)
  else if r=5 then ⟨AJ (a.Hi+b.Hi+(if 18446744073709551616≤a.Lo+b.Lo then 1 else 0)),(a.Lo+b.Lo) % 18446744073709551616⟩
  else ⟨0,0⟩
theorem SW {r:Int} {a b:AL} (ha:LX a) (hb:LX b):LX (FM r a b):=by
  unfold FM
  split
  · split <;> assumption
  · split
    · split <;> (unfold LX; simp)
    · split
      · unfold LX at *; simp only [HG]; omega
      · unfold LX; simp
theorem YQ {b:Bool} {Q:AL→Prop} (hQ:Q (if b then ⟨0,1⟩ else ⟨0,0⟩)):KM b Q:=by
  unfold KM
  refine ⟨fun h=>JD (by unfold GS; omega) ?_,fun h=>?_⟩
  · subst h; exact hQ
  · subst h; exact hQ
theorem VF {b:Bool} {Q:AL→Prop} (hQ:Q (if b then ⟨0,1⟩ else ⟨0,0⟩)):NI b Q:=by
  unfold NI
  refine ⟨fun h=>?_,fun h=>?_⟩
  · subst h; exact hQ
  · subst h; exact hQ
theorem bD {a b:AL} {Q:AL→Prop} (ha:LX a) (hb:LX b) (hQ:Q (FM 5 a b)):VC a b Q:=by
  unfold VC PX
  have e:FM 5 a b=⟨AJ (a.Hi+b.Hi+(if 18446744073709551616≤a.Lo+b.Lo then 1 else 0)),(a.Lo+b.Lo) % 18446744073709551616⟩:=rfl
  rw [e] at hQ
  unfold LX at ha hb
  simp only [SB,HG] at hQ ⊢
  refine AB (fun h=>?_) (fun h=>?_)
  · rw [if_pos (by omega)] at hQ
    have:((a.Hi % 18446744073709551616+b.Hi % 18446744073709551616) % 18446744073709551616+1) % 18446744073709551616=(a.Hi+b.Hi+1) % 18446744073709551616:=by omega
    rw [this]
    have:((a.Hi+b.Hi+1) % 18446744073709551616+9223372036854775808) % 18446744073709551616=(a.Hi+b.Hi+1+9223372036854775808) % 18446744073709551616:=by omega
    rw [this]; exact hQ
  · rw [if_neg (by omega)] at hQ
    have:((a.Hi % 18446744073709551616+b.Hi % 18446744073709551616) % 18446744073709551616+0) % 18446744073709551616=(a.Hi+b.Hi+0) % 18446744073709551616:=by omega
    rw [this]
    have:((a.Hi+b.Hi+0) % 18446744073709551616+9223372036854775808) % 18446744073709551616=(a.Hi+b.Hi+0+9223372036854775808) % 18446744073709551616:=by omega
    rw [this]; exact hQ
theorem jM {a b:AL} {Q:AL→Prop} (ha:LX a) (hb:LX b) (hQ:Q (FM 5 a b)):W8 a b Q:=by
  unfold W8
  have e:FM 5 a b=⟨AJ (a.Hi+b.Hi+(if 18446744073709551616≤a.Lo+b.Lo then 1 else 0)),(a.Lo+b.Lo) % 18446744073709551616⟩:=rfl
  rw [e] at hQ
  unfold LX at ha hb
  simp only [SB,HG] at hQ ⊢
  refine AB (fun h=>?_) (fun h=>?_)
  · rw [if_pos (by omega)] at hQ
    have:((a.Hi+b.Hi+9223372036854775808) % 18446744073709551616 - 9223372036854775808+1+9223372036854775808) % 18446744073709551616=(a.Hi+b.Hi+1+9223372036854775808) % 18446744073709551616:=by omega
    rw [this]; exact hQ
  · rw [if_neg (by omega)] at hQ
    rwa [show a.Hi+b.Hi+0=a.Hi+b.Hi by omega] at hQ
theorem VG {r:Int} {a b:AL} {Q:AL→Prop} (ha:LX a) (hb:LX b) (hQ:Q (FM r a b)):SS r a b Q:=by
  unfold SS
  refine FD (fun t=>t=decide (r=1∨r=3∨r=4)) (fun t ht=>?_) fun k hk=>?_
  · subst ht
    refine AB (fun h=>gV ?_) (fun h=>CC (fun h2=>?_) (fun h2=>CC (fun h5=>bD ha hb ?_) (fun h5=>?_)))
    · unfold FM at hQ; rwa [if_pos h] at hQ
    · subst h2
      unfold FM at hQ
      rw [if_neg h,if_pos rfl] at hQ
      refine CP (fun hne=>YQ ?_) (fun he=>YQ ?_)
      · rw [if_neg] at hQ
        · exact hQ
        · rintro ⟨e1,e2⟩; subst e1 e2; simp at hne
      · have he:a=b:=by simpa using he
        subst he
        by_cases e:a=⟨0,0⟩
        · rw [if_pos ⟨e,e⟩] at hQ; simpa [e] using hQ
        · rw [if_neg (fun h=>e h.1)] at hQ; simpa [e] using hQ
    · subst h5; exact hQ
    · unfold FM at hQ; rwa [if_neg h,if_neg h2,if_neg h5] at hQ
  · refine CC (fun h=>hk _ ?_) (fun h=>CC (fun h3=>hk _ ?_) (fun h3=>hk _ ?_))
    · simp [h]
    · simp [h3]
    · by_cases h4:r=4 <;> simp [h,h3,h4]
theorem jN {r:Int} {a b:AL} {Q:AL→Prop} (ha:LX a) (hb:LX b) (hQ:Q (FM r a b)):W9 r a b Q:=by
  unfold W9
  refine FD (fun t=>t=decide (r=1∨r=3∨r=4)) (fun t ht=>?_) fun k hk=>?_
  · subst ht
    refine AB (fun h=>jL (fun h1=>AB (fun _=>?_) (fun h=>by omega)) (fun h1 x hx=>AB (fun h=>by omega) (fun _=>?_))) (fun h=>CC (fun h2=>?_) (fun h2=>CC (fun h5=>jM ha hb ?_) (fun h5=>?_)))
    · unfold FM at hQ; rwa [if_pos h,if_neg h1] at hQ
    · unfold FM at hQ; rwa [if_pos h,if_pos h1] at hQ
    · subst h2
      unfold FM at hQ
      rw [if_neg h,if_pos rfl] at hQ
      refine CP (fun hne=>VF ?_) (fun he=>VF ?_)
      · rw [if_neg] at hQ
        · exact hQ
        · rintro ⟨e1,e2⟩; subst e1; simp at hne
      · have he:a=⟨0,0⟩:=by simpa using he
        subst he
        by_cases e:b=⟨0,0⟩
        · rw [if_pos ⟨rfl,e⟩] at hQ; simpa [e] using hQ
        · rw [if_neg (fun h=>e h.2)] at hQ; simpa [e] using hQ
    · subst h5; exact hQ
    · unfold FM at hQ; rwa [if_neg h,if_neg h2,if_neg h5] at hQ
  · refine CC (fun h=>hk _ ?_) (fun h=>CC (fun h3=>hk _ ?_) (fun h3=>hk _ ?_))
    · simp [h]
    · simp [h3]
    · by_cases h4:r=4 <;> simp [h,h3,h4]
def KP (a:AL):Int×Bool:=if (a.Hi=0∧a.Lo≤9223372036854775807)∨(a.Hi = -1∧9223372036854775808≤a.Lo) then (AJ a.Lo,true) else (0,false)
theorem gW {r:Int} {a:AL} {Q:Int×Bool→Prop} (ha:LX a) (hQ:Q (KP a)):KW r a Q:=by
  unfold KW VD
  unfold LX at ha
  unfold KP at hQ
  refine JD (by unfold GS; rw [HG]; omega) (CP (fun h=>?_) (fun h=>?_))
  · rw [if_neg] at hQ
    · exact hQ
    · intro h'
      simp only [beq_eq_false_iff_ne,ne_eq] at h
      apply h
      apply NS <;> simp only [QH,HG] <;> (try split) <;> omega
  · have h:QH (AJ a.Lo)=a:=by simpa using h
    rw [if_pos] at hQ
    · exact hQ
    · rw [←h]
      simp only [QH,HG]
      split <;> omega
theorem bQ {a:AL} {Q:Int×Bool→Prop} (ha:LX a) (hQ:Q (KP a)):OR a Q:=by
  unfold OR
  unfold LX at ha
  have hy (h:(a.Hi=0∧a.Lo≤9223372036854775807)∨(a.Hi = -1∧9223372036854775808≤a.Lo)):Q (AJ a.Lo,true):=by unfold KP at hQ; rwa [if_pos h] at hQ
  have hn (h:¬((a.Hi=0∧a.Lo≤9223372036854775807)∨(a.Hi = -1∧9223372036854775808≤a.Lo))):Q (0,false):=by unfold KP at hQ; rwa [if_neg h] at hQ
  refine CC (fun h=>AB (fun h1=>hy ?_) (fun h1=>CC (fun h2=>by omega) (fun h2=>hn ?_))) (fun h=>CC (fun h1=>AB (fun h2=>hy ?_) (fun h2=>hn ?_)) (fun h1=>hn ?_))
  all_goals (try rw [HG] at h1); (try rw [HG] at h2); omega
theorem MN {r:Int} {Q:Bool→Prop} (hQ:Q (decide (1≤r∧r≤5))):OS r Q:=by
  unfold OS
  refine AB (fun h=>?_) (fun h=>?_)
  · rwa [show decide (r<6)=decide (1≤r∧r≤5) by apply decide_eq_decide.2; omega]
  · rwa [show decide (1≤r∧r≤5)=false by apply decide_eq_false; omega] at hQ
theorem bE {r:Int} {Q:Bool→Prop} (hQ:Q (decide (1≤r∧r≤5))):V8 r Q:=by
  unfold V8
  refine AB (fun h=>?_) (fun h=>?_)
  · rwa [show decide (r≤5)=decide (1≤r∧r≤5) by apply decide_eq_decide.2; omega]
  · rwa [show decide (1≤r∧r≤5)=false by apply decide_eq_false; omega] at hQ
open Go Go.Fw Go.Sort Go.Shelf
abbrev EX:=Int×Int
def MO (a b:EX):Prop:=a.1<b.1∨(a.1=b.1∧a.2<b.2)
instance (a b:EX):Decidable (MO a b):=by unfold MO; infer_instance
theorem KX {a b c:EX} (h1:MO a b) (h2:MO b c):MO a c:=by unfold MO at *; omega
theorem EI (a:EX):¬MO a a:=by unfold MO; omega
theorem cH {a b:EX} (h1:¬MO a b) (h2:a≠b):MO b a:=by
  obtain ⟨a1,a2⟩:=a; obtain ⟨b1,b2⟩:=b
  unfold MO at *
  simp only [ne_eq,Prod.mk.injEq] at *
  omega
def ins (r:Int) (k:EX) (v:AL):List (EX×AL)→List (EX×AL)
  | []=>[(k,v)]
  | p :: l=>if MO p.1 k then p :: ins r k v l else if p.1=k then (k,FM r p.2 v) :: l else (k,v) :: p :: l
def SC (r:Int) (ts:List (EX×Int)):List (EX×AL):=ts.foldl (fun l t=>ins r t.1 (QH t.2) l) []
theorem jO (r:Int) (ts:List (EX×Int)) (t:EX×Int):SC r (ts++[t])=ins r t.1 (QH t.2) (SC r ts):=by simp [SC]
def srt (l:List (EX×AL)):Prop:=l.Pairwise fun a b=>MO a.1 b.1
theorem dT {r:Int} {k:EX} {v:AL}:∀ {l:List (EX×AL)} {p:EX×AL},p∈ins r k v l→p.1=k∨∃ q∈l,q.1=p.1
  | [],p,h=>by simp [ins] at h; simp [h]
  | q :: l,p,h=>by
    unfold ins at h
    split at h
    · rcases List.mem_cons.1 h with rfl | h
      · exact .inr ⟨p,by simp,rfl⟩
      · rcases dT h with h | ⟨x,hx,e⟩
        · exact .inl h
        · exact .inr ⟨x,by simp [hx],e⟩
    · split at h
      · rcases List.mem_cons.1 h with rfl | h
        · exact .inl rfl
        · exact .inr ⟨p,by simp [h],rfl⟩
      · rcases List.mem_cons.1 h with rfl | h
        · exact .inl rfl
        · exact .inr ⟨p,h,rfl⟩
theorem cI {r:Int} {k:EX} {v:AL}:∀ {l:List (EX×AL)},srt l→srt (ins r k v l)
  | [],_=>by simp [ins,srt]
  | p :: l,h=>by
    unfold srt at h
    rw [List.pairwise_cons] at h
    unfold ins
    split
    · rename_i hk
      refine List.pairwise_cons.2 ⟨fun q hq=>?_,cI h.2⟩
      rcases dT hq with e | ⟨x,hx,e⟩
      · rw [e]; exact hk
      · rw [←e]; exact h.1 x hx
    · rename_i hk
      split
      · rename_i e
        subst e
        exact List.pairwise_cons.2 ⟨fun q hq=>h.1 q hq,h.2⟩
      · rename_i e
        have:=cH hk e
        exact List.pairwise_cons.2 ⟨fun q hq=>by
          rcases List.mem_cons.1 hq with rfl | hq
          · exact this
          · exact KX this (h.1 q hq),List.pairwise_cons.2 h⟩
theorem XL (r:Int) (ts:List (EX×Int)):srt (SC r ts):=by
  unfold SC
  suffices ∀ (ts:List (EX×Int)) (l:List (EX×AL)),srt l→srt (ts.foldl (fun l t=>ins r t.1 (QH t.2) l) l) from this ts [] .nil
  intro ts
  induction ts with
  | nil=>intro l h; exact h
  | cons t ts ih=>intro l h; exact ih _ (cI h)
theorem VH {l:List (EX×AL)} (h:srt l):EP l:=by
  unfold EP
  rw [List.nodup_iff_pairwise_ne,List.pairwise_map]
  exact List.Pairwise.imp (R:=fun a b:EX×AL=>MO a.1 b.1) (fun {a b} hab (e:a.1=b.1)=>EI b.1 (by rw [e] at hab; exact hab)) h
theorem rQ (r:Int) (k:EX) (v:AL):∀ l:List (EX×AL),(ins r k v l).length≤l.length+1
  | []=>by simp [ins]
  | p :: l=>by
    unfold ins
    have:=rQ r k v l
    split
    · simp; omega
    · split <;> simp
theorem rR {r:Int} {k:EX} {v:AL} (hv:LX v):∀ {l:List (EX×AL)},(∀ p∈l,LX p.2)→∀ p∈ins r k v l,LX p.2
  | [],_,p,h=>by simp [ins] at h; rw [h]; exact hv
  | q :: l,hl,p,h=>by
    unfold ins at h
    split at h
    · rcases List.mem_cons.1 h with rfl | h
      · exact hl _ (by simp)
      · exact rR hv (fun x hx=>hl x (by simp [hx])) p h
    · split at h
      · rcases List.mem_cons.1 h with rfl | h
        · exact SW (hl q (by simp)) hv
        · exact hl p (by simp [h])
      · rcases List.mem_cons.1 h with rfl | h
        · exact hv
        · exact hl p h
theorem RP (r:Int):∀ (ts:List (EX×Int)),(∀ t∈ts,GS t.2)→(SC r ts).length≤ts.length∧∀ p∈SC r ts,LX p.2:=by
  suffices ∀ (ts:List (EX×Int)) (l:List (EX×AL)),(∀ t∈ts,GS t.2)→(∀ p∈l,LX p.2)→(ts.foldl (fun l t=>ins r t.1 (QH t.2) l) l).length≤l.length+ts.length∧∀ p∈ts.foldl (fun l t=>ins r t.1 (QH t.2) l) l,LX p.2 from
    fun ts h=>by simpa [SC] using this ts [] h (by simp)
  intro ts
  induction ts with
  | nil=>intro l _ h; exact ⟨by simp,h⟩
  | cons t ts ih=>
    intro l ht h
    have:=ih (ins r t.1 (QH t.2) l) (fun x hx=>ht x (by simp [hx])) (rR (jK (ht t (by simp))) h)
    have h2:=rQ r t.1 (QH t.2) l
    exact ⟨by simp only [List.foldl_cons,List.length_cons]; omega,this.2⟩
theorem wK {p:EX×AL} {l:List (EX×AL)} {k:EX} (h:srt (p :: l)) (hk:MO k p.1):BM k (p :: l)=none:=by
  apply ZQ
  intro hm
  obtain ⟨q,hq,e⟩:=List.mem_map.1 hm
  rcases List.mem_cons.1 hq with rfl | hq
  · exact EI k (e▸hk)
  · have h1:=KX hk ((List.pairwise_cons.1 h).1 q hq)
    rw [e] at h1; exact EI k h1
theorem jP {r:Int} {k:EX} {v:AL} (k':EX):∀ {l:List (EX×AL)},srt l→BM k' (ins r k v l)=if k'=k then some (match BM k l with | some w=>FM r w v | none=>v) else BM k' l
  | [],_=>by simp only [ins,BM]
  | p :: l,h=>by
    have ih:=jP (r:=r) (k:=k) (v:=v) k' (List.pairwise_cons.1 h).2
    unfold ins
    split
    · rename_i hk
      have hne:¬k=p.1:=fun e=>EI k (by rw [←e] at hk; exact hk)
      simp only [BM,ih,if_neg hne]
      by_cases e:k'=k
      · subst e; simp [hne]
      · simp [e]
    · rename_i hk
      split
      · rename_i e
        subst e
        simp only [BM,if_true]
        by_cases e:k'=p.1 <;> simp [e]
      · rename_i e
        have hlt:=cH hk e
        rw [wK h hlt]
        simp only [BM]
theorem wL {r:Int} {k:EX} {v:AL} {l:List (EX×AL)} (h:srt l):(ins r k v l).Perm (EN k (match BM k l with | some w=>FM r w v | none=>v) l):=by
  refine ZS (VH (cI h)) (GG (VH h) _ _) fun k'=>?_
  rw [jP k' h]
  by_cases e:k'=k
  · subst e; simp [BK]
  · simp [e,BD e]
def LM {α:Type} (l:List (EX×AL)) (mk:EX→Int→α):List α×Int:=if l.all (fun p=>(KP p.2).2) then (l.map (fun p=>mk p.1 (KP p.2).1),0) else ([],12)
def cJ (t:AC):EX×Int:=((t.Row,t.Col),t.Val)
def mL (k:EX) (v:Int):AC:=⟨k.1,k.2,v⟩
def jQ (t:BN):EX×Int:=((t.From,t.To),t.W)
def vF (k:EX) (v:Int):BN:=⟨k.1,k.2,v⟩
theorem rS {α:Type} {ord:α→α→(Int→Prop)→Prop} (cf:α→α→Int) (hc:∀ x y Q,Q (cf x y)→ord x y Q) (hO:SWO (ltOf cf)) {xs zs:List α} {K:List α→Prop} (hl:xs.length≤1000000000000) (hp:xs.Perm zs) (hz:zs.Pairwise fun x y=>cf x y<0) (hK:K zs):rL ord xs K:=by
  refine ⟨cf,fun x y Q=>hc x y Q,hO,by omega,fun ys hys hsorted=>?_⟩
  have hasym:∀ x y,cf x y<0→0≤cf y x:=by
    intro x y h
    rcases Int.lt_or_le (cf y x) 0 with h' | h'
    · have:=hO.trans x y x (by simpa [ltOf] using h) (by simpa [ltOf] using h')
      rw [hO.irrefl] at this; cases this
    · exact h'
  have:ys=zs:=ZT (hys.trans hp) hsorted (hz.imp fun {a b} h=>hasym a b h) fun a b ha hb h1 h2=>by
    have ha:=(hys.trans hp).mem_iff.1 ha
    have hb:=(hys.trans hp).mem_iff.1 hb
    obtain ⟨i,hi,rfl⟩:=List.getElem_of_mem ha
    obtain ⟨j,hj,rfl⟩:=List.getElem_of_mem hb
    rw [List.pairwise_iff_getElem] at hz
    rcases Nat.lt_trichotomy i j with h | h | h
    · have:=hz i j hi hj h; omega
    · subst h; rfl
    · have:=hz j i hj hi h; omega
  rw [this]; exact hK
def cfT (x y:AC):Int:=tT (QG x.Row y.Row) (QG x.Col y.Col)
theorem jR (x y:AC):cfT x y<0↔MO (x.Row,x.Col) (y.Row,y.Col):=by
  unfold cfT tT QG MO
  (repeat' split) <;> simp only <;> omega
theorem AbI {x y:AC} {Q:Int→Prop} (h:Q (cfT x y)):WA x y Q:=by
  unfold WA
  exact GR (GR (gU h))
theorem zV:SWO (ltOf cfT) where
  irrefl x:=by unfold ltOf; simp only [jR]; simp [MO]
  trans x y z h1 h2:=by unfold ltOf at *; simp only [jR,decide_eq_true_eq] at *; exact KX h1 h2
  ntrans x y z h1 h2:=by unfold ltOf at *; simp only [jR,decide_eq_false_iff_not,MO] at *; omega
theorem YR {m d:List (EX×AL)} {l:List (EX×AL)} {α:Type} {mk:EX→Int→α} (hp:d.Perm l) (hd:∀ p∈d,(KP p.2).2=true):LM l mk=(l.map (fun p=>mk p.1 (KP p.2).1),0):=by
  unfold LM
  rw [if_pos]
  rw [List.all_eq_true]
  exact fun p hpm=>hd p (hp.mem_iff.2 hpm)
theorem rT {l:List (EX×AL)} {α:Type} {mk:EX→Int→α} {p:EX×AL} (hp:p∈l) (hd:(KP p.2).2=false):LM l mk=([],12):=by
  unfold LM
  rw [if_neg]
  rw [List.all_eq_true]
  intro h
  rw [h p hp] at hd; cases hd
theorem EY {α β:Type} {f:α→β} {xs:List α} {i:Nat} (h:i<xs.length):(xs.take (i+1)).map f=(xs.take i).map f++[f xs[i]]:=by
  rw [List.take_succ_eq_append_getElem h,List.map_append]; rfl
theorem tU {r:Int} {ts:List AC} {Q:List AC×Int→Prop} (hl:ts.length≤1000000) (hv:∀ t∈ts,GS t.Val) (hQ:Q (LM (SC r (ts.map cJ)) mL)):PY r ts Q:=by
  unfold PY
  have hvk:∀ (i:Nat) t,t∈(ts.take i).map cJ→GS t.2:=by
    intro i t ht
    obtain ⟨x,hx,rfl⟩:=List.mem_map.1 ht
    exact hv x (List.mem_of_mem_take hx)
  refine BA (fun (s:List (EX×AL)) i=>(s,i)) 0 ts.length (by omega) (fun i m=>m.Perm (SC r ((ts.take i).map cJ))) (by omega) .nil (fun i m next _ hi hm hn=>?_) (fun m next hm=>?_)
  · have hx:GS ts[i].Val:=hv _ (List.getElem_mem hi)
    have hk:EP m:=List.Perm.nodup (hm.symm.map Prod.fst) (VH (XL _ _))
    have hok:=(RP r _ (hvk i)).2
    have hfin:∀ w,(match BM (ts[i].Row,ts[i].Col) m with | some w=>FM r w (QH ts[i].Val) | none=>QH ts[i].Val)=w→(EN (ts[i].Row,ts[i].Col) w m).Perm (SC r ((ts.take (i+1)).map cJ)):=by
      intro w hw
      rw [EY hi,jO,←hw,tN hk hm]
      exact (tM hk hm _ _).trans (wL (XL _ _)).symm
    refine AB (fun _=>?_) (fun h=>by omega)
    refine AV hi (JD hx (XI (fun w hw=>CD rfl (VG ?_ (jK hx) (hn _ ?_))) (fun hw=>AR rfl (hn _ ?_))))
    · exact hok _ (hm.mem_iff.1 ((HW hk).1 hw))
    · exact hfin _ (by rw [hw])
    · exact hfin _ (by rw [hw])
  · refine AB (fun h=>by omega) (fun _=>?_)
    rw [List.take_length] at hm
    have hpr:=RP r (ts.map cJ) (by simpa using hvk ts.length)
    have hsrt:=XL r (ts.map cJ)
    generalize SC r (ts.map cJ)=l at hm hpr hsrt hQ
    have hll:l.length≤1000000:=by simp at hpr; omega
    refine EF (fun s:List AC×List (EX×AL)=>∃ d,(d++s.2).Perm l∧s.1=d.map (fun p=>mL p.1 (KP p.2).1)∧∀ p∈d,(KP p.2).2=true) (fun s=>s.2.length) ⟨[],by simpa using hm,rfl,by simp⟩ ?_
    rintro ⟨acc,rest⟩ next ⟨d,hd,rfl,hnar⟩ hn
    simp only at hd
    refine lZ (fun e=>?_) (fun p rr hp=>?_)
    · subst e
      simp only [List.append_nil] at hd
      refine rS cfT (fun _ _ _=>AbI) zV (by have:=hd.length_eq; simp; omega) (hd.map _) ?_ ?_
      · rw [List.pairwise_map]
        exact List.Pairwise.imp (R:=fun a b:EX×AL=>MO a.1 b.1) (fun {a b} h=>(jR _ _).2 h) hsrt
      · rw [YR (m:=[]) hd hnar] at hQ; exact hQ
    · have hd2:(d++p :: rr).Perm l:=(List.Perm.append_left d hp.symm).trans hd
      have hpl:p∈l:=hd2.mem_iff.1 (by simp)
      refine gW (hpr.2 p hpl) (CP (fun h=>?_) (fun h=>?_))
      · rw [rT hpl h] at hQ; exact hQ
      · refine BE ?_ (hn _ ⟨d++[p],by simpa using hd2,by simp [mL],?_⟩ ?_)
        · have:=hd2.length_eq; simp at this ⊢; omega
        · intro q hq
          rcases List.mem_append.1 hq with hq | hq
          · exact hnar q hq
          · simp at hq; subst hq; exact h
        · have:=hp.length_eq; simp at this ⊢; omega
theorem jS {r:Int} {k:EX} {v:AL}:∀ {l:List (EX×AL)} {n:Nat} (hn:n<l.length),(∀ j (hj:j<n),MO (l[j]'(by omega)).1 k)→l[n].1=k→ins r k v l=l.set n (k,FM r l[n].2 v)
  | [],n,hn,_,_=>by simp at hn
  | p :: l,0,hn,_,he=>by
    have he:p.1=k:=he
    subst he
    simp [ins,EI]
  | p :: l,n+1,hn,hl,he=>by
    have h0:MO p.1 k:=hl 0 (by omega)
    have:=jS (r:=r) (v:=v) (l:=l) (n:=n) (by simpa using hn) (fun j hj=>hl (j+1) (by omega)) he
    simp [ins,h0,this]
theorem rU {r:Int} {k:EX} {v:AL}:∀ {l:List (EX×AL)} {n:Nat} (hn:n≤l.length),(∀ j (hj:j<n),MO (l[j]'(by omega)).1 k)→(∀ h:n<l.length,¬MO l[n].1 k∧l[n].1≠k)→ins r k v l=l.take n++(k,v) :: l.drop n
  | [],n,hn,_,_=>by simp [ins]
  | p :: l,0,hn,_,he=>by
    have:=he (by simp)
    simp only [List.getElem_cons_zero] at this
    simp [ins,this.1,this.2]
  | p :: l,n+1,hn,hl,he=>by
    have h0:MO p.1 k:=hl 0 (by omega)
    have:=rU (r:=r) (v:=v) (l:=l) (n:=n) (by simpa using hn) (fun j hj=>hl (j+1) (by omega)) (fun h=>he (by simpa using h))
    simp [ins,h0,this]
theorem mM {a b:BN} {Q:Bool→Prop} (h:Q (decide (MO (a.From,a.To) (b.From,b.To)))):NJ a b Q:=by
  unfold NJ
  refine AB (fun h1=>?_) (fun h1=>CC (fun h2=>?_) (fun h2=>?_))
  · rwa [decide_eq_true (by unfold MO; exact .inl h1)] at h
  · rwa [show decide (MO (a.From,a.To) (b.From,b.To))=decide (a.To<b.To) by apply decide_eq_decide.2; simp only [MO]; omega] at h
  · rwa [decide_eq_false (by simp only [MO]; omega)] at h
def e0 (p:EX×AL):BN:=vF p.1 0
theorem VJ {r:Int} {ts:List BN} {Q:List BN×Int→Prop} (hr:1≤r∧r≤5) (hl:ts.length≤1000000) (hv:∀ t∈ts,GS t.W) (hQ:Q (LM (SC r (ts.map jQ)) vF)):JV r ts Q:=by
  unfold JV
  refine bE (AR (by simp [hr]) ?_)
  have hvk:∀ (i:Nat) t,t∈(ts.take i).map jQ→GS t.2:=by
    intro i t ht
    obtain ⟨x,hx,rfl⟩:=List.mem_map.1 ht
    exact hv x (List.mem_of_mem_take hx)
  refine BA (fun (s:List BN×List AL) i=>(s.1,s.2,i)) 0 ts.length (by omega) (fun i s=>s.1=(SC r ((ts.take i).map jQ)).map e0∧s.2=(SC r ((ts.take i).map jQ)).map (·.2)) (s0:=([],[])) (by omega) ⟨rfl,rfl⟩ (fun i s next _ hi hm hn=>?_) (fun s next hm=>?_)
  · obtain ⟨es,ws⟩:=s
    obtain ⟨he,hw⟩:=hm
    simp only at he hw
    have hx:GS ts[i].W:=hv _ (List.getElem_mem hi)
    have hpr:=RP r _ (hvk i)
    have hstep:SC r ((ts.take (i+1)).map jQ)=ins r (ts[i].From,ts[i].To) (QH ts[i].W) (SC r ((ts.take i).map jQ)):=by rw [EY hi,jO]; rfl
    simp only [hstep] at hn
    generalize SC r ((ts.take i).map jQ)=l at he hw hpr hn
    subst he hw
    have hll:l.length≤1000000:=by have:=hpr.1; simp at this; omega
    refine AB (fun _=>?_) (fun h=>by omega)
    have hel:∀ (j:Nat) (h:j<l.length),(l.map e0)[j]? = some (e0 l[j]):=fun j h=>by simp [h]
    -- where it goes
    refine FD (fun a:Int=>∃ n:Nat,a=n∧n≤l.length∧(∀ (j:Nat) (hj:j<n) (hjl:j<l.length),MO l[j].1 (ts[i].From,ts[i].To))∧∀ h:n<l.length,¬MO l[n].1 (ts[i].From,ts[i].To)) ?_ fun k hk=>?_
    · rintro _ ⟨n,rfl,hnl,hlt,hge⟩
      have hlt':∀ j (hj:j<n),MO (l[j]'(by omega)).1 (ts[i].From,ts[i].To):=fun j hj=>hlt j hj (by omega)
      refine AV hi (mJ hx ?_)
      refine FD (fun b=>b=decide (∃ h:n<l.length,l[n].1=(ts[i].From,ts[i].To))) ?_ fun k hk=>?_
      · rintro _ rfl
        refine AB (fun hb=>?_) (fun hb=>?_)
        · obtain ⟨h,hb⟩:=hb
          refine AM (by omega) (x:=l[n].2) (by simp [h]) (jN (hpr.2 _ (List.getElem_mem h)) (jK hx) (AM (by omega) (x:=l[n].2) (by simp [h]) (hn (l.map e0,(l.map (·.2)).set n (FM r l[n].2 (QH ts[i].W))) ⟨?_,?_⟩)))
          · rw [jS h hlt' hb,List.map_set]
            apply List.ext_getElem?
            intro j
            rw [List.getElem?_set]
            split
            · rename_i e; subst e; simp [h,e0,hb]
            · rfl
          · rw [jS h hlt' hb,List.map_set]
        · have hins:=rU (r:=r) (v:=QH ts[i].W) hnl hlt' (fun h=>⟨hge h,fun e=>hb ⟨h,e⟩⟩)
          rw [hins] at hn
          refine BE (by simp; omega) (BE (by simp; omega) ?_)
          refine EF (fun s:List BN×List AL×Int=>∃ j:Nat,s.2.2=j∧n≤j∧j≤l.length∧s.1.length=l.length+1∧s.2.1.length=l.length+1∧(∀ q,q<j→s.1[q]? = (l.map e0)[q]?∧s.2.1[q]? = (l.map (·.2))[q]?)∧∀ q,j≤q→q<l.length→s.1[q+1]? = (l.map e0)[q]?∧s.2.1[q+1]? = (l.map (·.2))[q]?)
            (fun s=>s.2.2.toNat) ⟨l.length,?_,hnl,Nat.le_refl _,by simp,by simp,fun q hq=>?_,fun q h1 h2=>by omega⟩ ?_
          · simp only; rw [AW (by simp <;> omega) (by simp <;> omega)]; simp
          · simp only; rw [List.getElem?_append_left (by simpa using hq),List.getElem?_append_left (by simpa using hq)]; exact ⟨rfl,rfl⟩
          rintro ⟨s1,s2,s3⟩ next ⟨j,hj,hnj,hjl,hl1,hl2,hlo,hhi⟩ hnx
          simp only at hj hl1 hl2 hlo hhi
          subst hj
          refine AB (fun h=>?_) (fun h=>?_)
          · obtain ⟨j,rfl⟩:∃ m,j=m+1:=⟨j - 1,by omega⟩
            have hjm:j<l.length:=by omega
            have ej:AJ (((j+1:Nat):Int) - 1)=(j:Int):=by rw [AW (by omega) (by omega)]; omega
            rw [ej]
            refine AM (by omega) (x:=e0 l[j]) (by simp only [Int.toNat_natCast]; rw [(hlo j (by omega)).1,hel j hjm]) (AV (i:=j+1) (by omega) (AM (by omega) (x:=l[j].2) (by simp only [Int.toNat_natCast]; rw [(hlo j (by omega)).2]; simp [hjm]) (AV (i:=j+1) (by omega) (hnx _ ⟨j,rfl,by omega,by omega,by simp [hl1],by simp [hl2],fun q hq=>?_,fun q h1 h2=>?_⟩ ?_))))
            · simp only [Int.toNat_natCast]
              rw [List.getElem?_set_ne (by omega),List.getElem?_set_ne (by omega)]
              exact hlo q (by omega)
            · simp only [Int.toNat_natCast]
              rw [List.getElem?_set,List.getElem?_set]
              by_cases e:q=j
              · subst e; rw [if_pos rfl,if_pos (by omega),if_pos rfl,if_pos (by omega)]; simp [hjm]
              · rw [if_neg (by omega),if_neg (by omega)]; exact hhi q (by omega) h2
            · simp only; omega
          · have hjn:j=n:=by omega
            subst hjn
            refine AV hi (AV hi (AV (by omega) (AV (by omega) (hn (s1.set j (vF (ts[i].From,ts[i].To) 0),s2.set j (QH ts[i].W)) ⟨?_,?_⟩))))
            · simp only [Int.toNat_natCast,List.map_append,List.map_cons]
              have:=dI (pre:=(l.take j).map e0) (post:=(l.drop j).map e0) (s:=s1) (x:=e0 ((ts[i].From,ts[i].To),QH ts[i].W)) (by simp [hl1]; omega) (fun q hq=>?_) (fun q hq=>?_)
              · simp only [List.length_map,List.length_take,Nat.min_eq_left hnl] at this; exact this
              · simp only [List.length_map,List.length_take,Nat.min_eq_left hnl] at hq
                rw [(hlo q hq).1]; simp [hq]
              · simp only [List.length_map,List.length_take,List.length_drop,Nat.min_eq_left hnl] at hq ⊢
                rw [show j+1+q=j+q+1 by omega,(hhi (j+q) (by omega) (by omega)).1]; simp
            · simp only [Int.toNat_natCast,List.map_append,List.map_cons]
              have:=dI (pre:=(l.take j).map (·.2)) (post:=(l.drop j).map (·.2)) (s:=s2) (x:=QH ts[i].W) (by simp [hl2]; omega) (fun q hq=>?_) (fun q hq=>?_)
              · simp only [List.length_map,List.length_take,Nat.min_eq_left hnl] at this; exact this
              · simp only [List.length_map,List.length_take,Nat.min_eq_left hnl] at hq
                rw [(hlo q hq).2]; simp [hq]
              · simp only [List.length_map,List.length_take,List.length_drop,Nat.min_eq_left hnl] at hq ⊢
                rw [show j+1+q=j+q+1 by omega,(hhi (j+q) (by omega) (by omega)).2]; simp
      · refine AB (fun h=>?_) (fun h=>hk _ ?_)
        · have h:n<l.length:=by simpa using h
          refine AV hi (AM (by omega) (x:=e0 l[n]) (by simpa using hel n h) (mM (hk _ ?_)))
          have hg:=hge h
          have e1:((e0 l[n]).From,(e0 l[n]).To)=l[n].1:=rfl
          rw [e1]
          by_cases e:l[n].1=(ts[i].From,ts[i].To)
          · rw [decide_eq_true (p:=∃ h:n<l.length,l[n].1=_) ⟨h,e⟩,e,decide_eq_false (EI _)]; rfl
          · rw [decide_eq_false (p:=∃ h:n<l.length,l[n].1=_) (fun ⟨_,e'⟩=>e e'),decide_eq_true (cH hg e)]; rfl
        · rw [decide_eq_false]
          rintro ⟨h',_⟩
          simp at h; omega
    · refine DF l.length (by omega) (fun n=>∀ (j:Nat) (hj:j<n) (hjl:j<l.length),MO l[j].1 (ts[i].From,ts[i].To)) (by simp) (fun j next hj hR hnx=>?_) (fun next hR=>?_)
      · refine AB (fun _=>?_) (fun h=>by simp at h; omega)
        refine AM (by omega) (x:=e0 l[j]) (by simpa using hel j hj) (AV hi (mM (AB (fun h=>hnx fun q hq hql=>?_) (fun h=>hk _ ⟨j,rfl,by omega,hR,fun _=>h⟩))))
        by_cases e:q=j
        · subst e; exact h
        · exact hR q (by omega) hql
      · refine AB (fun h=>by simp at h) (fun _=>hk _ ⟨l.length,rfl,Nat.le_refl _,hR,fun h=>by omega⟩)
  · obtain ⟨es,ws⟩:=s
    obtain ⟨he,hw⟩:=hm
    simp only at he hw
    rw [List.take_length] at he hw
    refine AB (fun h=>by omega) (fun _=>?_)
    have hpr:=RP r (ts.map jQ) (by simpa using hvk ts.length)
    generalize SC r (ts.map jQ)=l at he hw hpr hQ
    subst he hw
    have hll:l.length≤1000000:=by have:=hpr.1; simp at this; omega
    refine BA (fun (s:List BN) i=>(s,i)) 0 l.length (by omega) (fun i s=>s=(l.take i).map (fun p=>vF p.1 (KP p.2).1)++(l.drop i).map e0∧∀ p∈l.take i,(KP p.2).2=true) (by omega) ⟨by simp,by simp⟩ (fun i s next _ hi hm hn=>?_) (fun s next hm=>?_)
    · obtain ⟨rfl,hnar⟩:=hm
      refine AB (fun _=>?_) (fun h=>by simp at h; omega)
      refine AM (by omega) (x:=l[i].2) (by simp [hi]) (bQ (hpr.2 _ (List.getElem_mem hi)) (CP (fun h=>?_) (fun h=>?_)))
      · rw [rT (List.getElem_mem hi) h] at hQ; exact hQ
      · have hdr:l.drop i=l[i] :: l.drop (i+1):=by rw [List.drop_eq_getElem_cons hi]
        have hlen:((l.take i).map (fun p=>vF p.1 (KP p.2).1)).length=i:=by simp; omega
        refine AM (by omega) (x:=e0 l[i]) ?_ (hn _ ⟨?_,?_⟩)
        · rw [hdr,Int.toNat_natCast,List.getElem?_append_right (by omega),hlen,Nat.sub_self]; rfl
        · rw [hdr,Int.toNat_natCast,List.set_append,if_neg (by omega),hlen,EY hi,Nat.sub_self,List.append_assoc]; rfl
        · intro p hp
          rw [List.take_succ_eq_append_getElem hi] at hp
          rcases List.mem_append.1 hp with hp | hp
          · exact hnar p hp
          · simp at hp; subst hp; exact h
    · obtain ⟨rfl,hnar⟩:=hm
      refine AB (fun h=>by simp at h) (fun _=>?_)
      rw [YR (m:=[]) (.refl l) (by simpa using hnar)] at hQ
      simpa using hQ
end Go.Proofs.YtbohadngdkjljaaGreat
