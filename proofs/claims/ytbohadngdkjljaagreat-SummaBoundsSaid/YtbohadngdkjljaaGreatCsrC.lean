import Derived.Test.YtbohadngdkjljaaGreatT
import Derived.Test.YtbohadngdkjljaaGreatFwQ
namespace Go.Proofs.YtbohadngdkjljaaGreat
open Go Go.Fw
set_option linter.unusedVariables false
set_option linter.unusedSimpArgs false
def RS (x y:Int):Int:=if x<y then -1 else if y<x then 1 else 0
theorem HE {x y:Int} {Q:Int→Prop} (h:Q (RS x y)):CY x y Q:=by
  unfold CY HD
  unfold RS at h
  refine AW (by simp) (AW (by simp) (AD (fun h1=>?_) (fun h1=>AD (fun h2=>?_) (fun h2=>?_))))
  · rwa [if_pos h1] at h
  · rwa [if_neg h1,if_pos h2] at h
  · rwa [if_neg h1,if_neg h2] at h
theorem lI {x y:Int} {Q:Int→Prop} (h:Q (RS x y)):JE x y Q:=by
  unfold JE LD
  unfold RS at h
  refine AW (by simp) (AW (by simp) (AD (fun h1=>?_) (fun h1=>AD (fun h2=>?_) (fun h2=>?_))))
  · rwa [if_pos h1] at h
  · rwa [if_neg h1,if_pos h2] at h
  · rwa [if_neg h1,if_neg h2] at h
theorem iT {x y:Int} {Q:Int→Prop} (h:Q (RS x y)):IC x y Q:=by
  unfold IC KE
  unfold RS at h
  refine AW (by simp) (AW (by simp) (AD (fun h1=>?_) (fun h1=>AD (fun h2=>?_) (fun h2=>?_))))
  · rwa [if_pos h1] at h
  · rwa [if_neg h1,if_pos h2] at h
  · rwa [if_neg h1,if_neg h2] at h
def vH (x y:Int):Int:=if x=0 then y else x
theorem jU {x y:Int} {Q:Int→Prop} (h:Q (vH x y)):JV [x,y] Q:=by
  unfold JV
  unfold vH at h
  refine EX 2 (by omega) (fun i=>(0<i→x=0)∧(1<i→y=0)) ⟨by omega,by omega⟩ (fun i next hi hR hn=>?_) (fun next hR=>?_)
  · refine AD (fun _=>?_) (fun h=>by simp at h; omega)
    match i,hi with
    | 0,_=>exact AM (by omega) (x:=x) rfl (EW (fun e=>by rwa [if_neg e] at h) (fun e=>hn ⟨fun _=>e,by omega⟩))
    | 1,_=>exact AM (by omega) (x:=y) rfl (EW (fun e=>by rwa [if_pos (hR.1 (by omega))] at h) (fun e=>hn ⟨fun _=>hR.1 (by omega),fun _=>e⟩))
  · refine AD (fun h=>by simp at h) (fun _=>?_)
    rwa [if_pos (hR.1 (by omega)),hR.2 (by omega)] at h
def NF (a:AP):Prop:=-9223372036854775808≤a.Hi∧a.Hi≤9223372036854775807∧0≤a.Lo∧a.Lo≤18446744073709551615
def JO (x:Int):Prop:=-9223372036854775808≤x∧x≤9223372036854775807
def ZP (a b:AP):Prop:=a.Hi<b.Hi∨(a.Hi=b.Hi∧a.Lo≤b.Lo)
instance (a b:AP):Decidable (ZP a b):=by unfold ZP; infer_instance
theorem TD (x:Int):IntKind.wrap .u64 x=x % 18446744073709551616:=by
  simp [IntKind.wrap,IntKind.bits,IntKind.signed]
theorem HP (x:Int):AJ x=(x+9223372036854775808) % 18446744073709551616 - 9223372036854775808:=by
  show IntKind.wrap .i64 x=_
  rw [IntKind.wrap_i64]
def ZQ (v:Int):AP:=⟨if v<0 then -1 else 0,v % 18446744073709551616⟩
theorem lJ {v:Int} (h:JO v):NF (ZQ v):=by unfold ZQ NF; unfold JO at h; simp only; split <;> omega
theorem AdT {v:Int} (h:JO v):shr .i64 v 63=if v<0 then -1 else 0:=by
  unfold JO at h
  show v.fdiv (2 ^ 63)=_
  rw [Int.fdiv_eq_ediv_of_nonneg _ (by decide)]
  split
  · rw [show (2:Int) ^ 63=9223372036854775808 from rfl]; omega
  · rw [show (2:Int) ^ 63=9223372036854775808 from rfl]; omega
theorem JZ {v:Int} {Q:AP→Prop} (h:JO v) (hQ:Q (ZQ v)):MJ v Q:=by
  unfold MJ; rw [AdT h,TD]; exact hQ
theorem oJ {v:Int} {Q:AP→Prop} (h:JO v) (hQ:Q (ZQ v)):aD v Q:=by
  unfold aD; unfold ZQ at hQ
  refine AD (fun h1=>?_) (fun h1=>?_)
  · rw [if_pos h1] at hQ; rwa [TD]
  · rw [if_neg h1] at hQ; rwa [TD]
theorem oK {a b:AP} {Q:Int→Prop} (hQ:Q (vH (RS a.Hi b.Hi) (RS a.Lo b.Lo))):PY a b Q:=by
  unfold PY
  exact lI (iT (jU hQ))
theorem jV {a b:AP} {Q:AP→Prop} (hQ:Q (if ZP a b then a else b)):OX a b Q:=by
  unfold OX
  refine oK (AD (fun h=>?_) (fun h=>?_))
  · rwa [if_pos] at hQ
    unfold ZP; unfold vH RS at h
    (repeat' split at h) <;> omega
  · rwa [if_neg] at hQ
    unfold ZP; unfold vH RS at h
    (repeat' split at h) <;> omega
theorem PC {a b:AP} (h1:a.Hi=b.Hi) (h2:a.Lo=b.Lo):a=b:=by cases a; cases b; simp_all
theorem lK {a b:AP} {Q:Int→Prop} (h1:¬ZP b a→Q (-1)) (h2:ZP b a→∀ x:Int,0≤x→Q x):OJ a b Q:=by
  unfold OJ
  refine FM (fun _=>ZP b a) (fun _ hb=>CB (fun _=>h2 hb 0 (by omega)) (fun _=>h2 hb 1 (by omega))) fun k hk=>?_
  refine AD (fun h=>h1 ?_) (fun h=>CB (fun e=>AD (fun h'=>h1 ?_) (fun h'=>hk () ?_)) (fun e=>hk () ?_))
  all_goals (unfold ZP; omega)
def GW (r:Int) (a b:AP):AP:=
  if r=1∨r=3∨r=4 then (if ZP a b then a else b)
  else if r=2 then (if a=⟨0,0⟩∧b=⟨0,0⟩ then ⟨0,0⟩ else ⟨0,1⟩)
  else if r=5 then ⟨AJ (a.Hi+b.Hi+(if 18446744073709551616≤a.Lo+b.Lo then 1 else 0)),(a.Lo+b.Lo) % 18446744073709551616⟩
  else ⟨0,0⟩
theorem UB {r:Int} {a b:AP} (ha:NF a) (hb:NF b):NF (GW r a b):=by
  unfold GW
  split
  · split <;> assumption
  · split
    · split <;> (unfold NF; simp)
    · split
      · unfold NF at *; simp only [HP]; omega
      · unfold NF; simp
theorem aO {b:Bool} {Q:AP→Prop} (hQ:Q (if b then ⟨0,1⟩ else ⟨0,0⟩)):LL b Q:=by
  unfold LL
  refine ⟨fun h=>JZ (by unfold JO; omega) ?_,fun h=>?_⟩
  · subst h; exact hQ
  · subst h; exact hQ
theorem WS {b:Bool} {Q:AP→Prop} (hQ:Q (if b then ⟨0,1⟩ else ⟨0,0⟩)):OV b Q:=by
  unfold OV
  refine ⟨fun h=>?_,fun h=>?_⟩
  · subst h; exact hQ
  · subst h; exact hQ
theorem dK {a b:AP} {Q:AP→Prop} (ha:NF a) (hb:NF b) (hQ:Q (GW 5 a b)):WO a b Q:=by
  unfold WO RG
  have e:GW 5 a b=⟨AJ (a.Hi+b.Hi+(if 18446744073709551616≤a.Lo+b.Lo then 1 else 0)),(a.Lo+b.Lo) % 18446744073709551616⟩:=rfl
  rw [e] at hQ
  unfold NF at ha hb
  simp only [TD,HP] at hQ ⊢
  refine AD (fun h=>?_) (fun h=>?_)
  · rw [if_pos (by omega)] at hQ
    have:((a.Hi % 18446744073709551616+b.Hi % 18446744073709551616) % 18446744073709551616+1) % 18446744073709551616=(a.Hi+b.Hi+1) % 18446744073709551616:=by omega
    rw [this]
    have:((a.Hi+b.Hi+1) % 18446744073709551616+9223372036854775808) % 18446744073709551616=(a.Hi+b.Hi+1+9223372036854775808) % 18446744073709551616:=by omega
    rw [this]; exact hQ
  · rw [if_neg (by omega)] at hQ
    have:((a.Hi % 18446744073709551616+b.Hi % 18446744073709551616) % 18446744073709551616+0) % 18446744073709551616=(a.Hi+b.Hi+0) % 18446744073709551616:=by omega
    rw [this]
    have:((a.Hi+b.Hi+0) % 18446744073709551616+9223372036854775808) % 18446744073709551616=(a.Hi+b.Hi+0+9223372036854775808) % 18446744073709551616:=by omega
    rw [this]; exact hQ
theorem lL {a b:AP} {Q:AP→Prop} (ha:NF a) (hb:NF b) (hQ:Q (GW 5 a b)):XR a b Q:=by
  unfold XR
  have e:GW 5 a b=⟨AJ (a.Hi+b.Hi+(if 18446744073709551616≤a.Lo+b.Lo then 1 else 0)),(a.Lo+b.Lo) % 18446744073709551616⟩:=rfl
  rw [e] at hQ
  unfold NF at ha hb
  simp only [TD,HP] at hQ ⊢
  refine AD (fun h=>?_) (fun h=>?_)
  · rw [if_pos (by omega)] at hQ
    have:((a.Hi+b.Hi+9223372036854775808) % 18446744073709551616 - 9223372036854775808+1+9223372036854775808) % 18446744073709551616=(a.Hi+b.Hi+1+9223372036854775808) % 18446744073709551616:=by omega
    rw [this]; exact hQ
  · rw [if_neg (by omega)] at hQ
    rwa [show a.Hi+b.Hi+0=a.Hi+b.Hi by omega] at hQ
theorem WT {r:Int} {a b:AP} {Q:AP→Prop} (ha:NF a) (hb:NF b) (hQ:Q (GW r a b)):TW r a b Q:=by
  unfold TW
  refine FM (fun t=>t=decide (r=1∨r=3∨r=4)) (fun t ht=>?_) fun k hk=>?_
  · subst ht
    refine AD (fun h=>jV ?_) (fun h=>CB (fun h2=>?_) (fun h2=>CB (fun h5=>dK ha hb ?_) (fun h5=>?_)))
    · unfold GW at hQ; rwa [if_pos h] at hQ
    · subst h2
      unfold GW at hQ
      rw [if_neg h,if_pos rfl] at hQ
      refine CR (fun hne=>aO ?_) (fun he=>aO ?_)
      · rw [if_neg] at hQ
        · exact hQ
        · rintro ⟨e1,e2⟩; subst e1 e2; simp at hne
      · have he:a=b:=by simpa using he
        subst he
        by_cases e:a=⟨0,0⟩
        · rw [if_pos ⟨e,e⟩] at hQ; simpa [e] using hQ
        · rw [if_neg (fun h=>e h.1)] at hQ; simpa [e] using hQ
    · subst h5; exact hQ
    · unfold GW at hQ; rwa [if_neg h,if_neg h2,if_neg h5] at hQ
  · refine CB (fun h=>hk _ ?_) (fun h=>CB (fun h3=>hk _ ?_) (fun h3=>hk _ ?_))
    · simp [h]
    · simp [h3]
    · by_cases h4:r=4 <;> simp [h,h3,h4]
theorem lM {r:Int} {a b:AP} {Q:AP→Prop} (ha:NF a) (hb:NF b) (hQ:Q (GW r a b)):XS r a b Q:=by
  unfold XS
  refine FM (fun t=>t=decide (r=1∨r=3∨r=4)) (fun t ht=>?_) fun k hk=>?_
  · subst ht
    refine AD (fun h=>lK (fun h1=>AD (fun _=>?_) (fun h=>by omega)) (fun h1 x hx=>AD (fun h=>by omega) (fun _=>?_))) (fun h=>CB (fun h2=>?_) (fun h2=>CB (fun h5=>lL ha hb ?_) (fun h5=>?_)))
    · unfold GW at hQ; rwa [if_pos h,if_neg h1] at hQ
    · unfold GW at hQ; rwa [if_pos h,if_pos h1] at hQ
    · subst h2
      unfold GW at hQ
      rw [if_neg h,if_pos rfl] at hQ
      refine CR (fun hne=>WS ?_) (fun he=>WS ?_)
      · rw [if_neg] at hQ
        · exact hQ
        · rintro ⟨e1,e2⟩; subst e1; simp at hne
      · have he:a=⟨0,0⟩:=by simpa using he
        subst he
        by_cases e:b=⟨0,0⟩
        · rw [if_pos ⟨rfl,e⟩] at hQ; simpa [e] using hQ
        · rw [if_neg (fun h=>e h.2)] at hQ; simpa [e] using hQ
    · subst h5; exact hQ
    · unfold GW at hQ; rwa [if_neg h,if_neg h2,if_neg h5] at hQ
  · refine CB (fun h=>hk _ ?_) (fun h=>CB (fun h3=>hk _ ?_) (fun h3=>hk _ ?_))
    · simp [h]
    · simp [h3]
    · by_cases h4:r=4 <;> simp [h,h3,h4]
def NY (a:AP):Int×Bool:=if (a.Hi=0∧a.Lo≤9223372036854775807)∨(a.Hi = -1∧9223372036854775808≤a.Lo) then (AJ a.Lo,true) else (0,false)
theorem jW {r:Int} {a:AP} {Q:Int×Bool→Prop} (ha:NF a) (hQ:Q (NY a)):LW r a Q:=by
  unfold LW WP
  unfold NF at ha
  unfold NY at hQ
  refine JZ (by unfold JO; rw [HP]; omega) (CR (fun h=>?_) (fun h=>?_))
  · rw [if_neg] at hQ
    · exact hQ
    · intro h'
      simp only [beq_eq_false_iff_ne,ne_eq] at h
      apply h
      apply PC <;> simp only [ZQ,HP] <;> (try split) <;> omega
  · have h:ZQ (AJ a.Lo)=a:=by simpa using h
    rw [if_pos] at hQ
    · exact hQ
    · rw [←h]
      simp only [ZQ,HP]
      split <;> omega
theorem dZ {a:AP} {Q:Int×Bool→Prop} (ha:NF a) (hQ:Q (NY a)):PV a Q:=by
  unfold PV
  unfold NF at ha
  have hy (h:(a.Hi=0∧a.Lo≤9223372036854775807)∨(a.Hi = -1∧9223372036854775808≤a.Lo)):Q (AJ a.Lo,true):=by unfold NY at hQ; rwa [if_pos h] at hQ
  have hn (h:¬((a.Hi=0∧a.Lo≤9223372036854775807)∨(a.Hi = -1∧9223372036854775808≤a.Lo))):Q (0,false):=by unfold NY at hQ; rwa [if_neg h] at hQ
  refine CB (fun h=>AD (fun h1=>hy ?_) (fun h1=>CB (fun h2=>by omega) (fun h2=>hn ?_))) (fun h=>CB (fun h1=>AD (fun h2=>hy ?_) (fun h2=>hn ?_)) (fun h1=>hn ?_))
  all_goals (try rw [HP] at h1); (try rw [HP] at h2); omega
theorem LN {r:Int} {Q:Bool→Prop} (hQ:Q (decide (1≤r∧r≤5))):PW r Q:=by
  unfold PW
  refine AD (fun h=>?_) (fun h=>?_)
  · rwa [show decide (r<6)=decide (1≤r∧r≤5) by apply decide_eq_decide.2; omega]
  · rwa [show decide (1≤r∧r≤5)=false by apply decide_eq_false; omega] at hQ
theorem dL {r:Int} {Q:Bool→Prop} (hQ:Q (decide (1≤r∧r≤5))):WK r Q:=by
  unfold WK
  refine AD (fun h=>?_) (fun h=>?_)
  · rwa [show decide (r≤5)=decide (1≤r∧r≤5) by apply decide_eq_decide.2; omega]
  · rwa [show decide (1≤r∧r≤5)=false by apply decide_eq_false; omega] at hQ
open Go Go.Fw Go.Sort Go.Shelf
abbrev HS:=Int×Int
def PD (a b:HS):Prop:=a.1<b.1∨(a.1=b.1∧a.2<b.2)
instance (a b:HS):Decidable (PD a b):=by unfold PD; infer_instance
theorem MB {a b c:HS} (h1:PD a b) (h2:PD b c):PD a c:=by unfold PD at *; omega
theorem EZ (a:HS):¬PD a a:=by unfold PD; omega
theorem eU {a b:HS} (h1:¬PD a b) (h2:a≠b):PD b a:=by
  obtain ⟨a1,a2⟩:=a; obtain ⟨b1,b2⟩:=b
  unfold PD at *
  simp only [ne_eq,Prod.mk.injEq] at *
  omega
def ins (r:Int) (k:HS) (v:AP):List (HS×AP)→List (HS×AP)
  | []=>[(k,v)]
  | p :: l=>if PD p.1 k then p :: ins r k v l else if p.1=k then (k,GW r p.2 v) :: l else (k,v) :: p :: l
def SC (r:Int) (ts:List (HS×Int)):List (HS×AP):=ts.foldl (fun l t=>ins r t.1 (ZQ t.2) l) []
theorem lN (r:Int) (ts:List (HS×Int)) (t:HS×Int):SC r (ts++[t])=ins r t.1 (ZQ t.2) (SC r ts):=by simp [SC]
def srt (l:List (HS×AP)):Prop:=l.Pairwise fun a b=>PD a.1 b.1
theorem gB {r:Int} {k:HS} {v:AP}:∀ {l:List (HS×AP)} {p:HS×AP},p∈ins r k v l→p.1=k∨∃ q∈l,q.1=p.1
  | [],p,h=>by simp [ins] at h; simp [h]
  | q :: l,p,h=>by
    unfold ins at h
    split at h
    · rcases List.mem_cons.1 h with rfl | h
      · exact .inr ⟨p,by simp,rfl⟩
      · rcases gB h with h | ⟨x,hx,e⟩
        · exact .inl h
        · exact .inr ⟨x,by simp [hx],e⟩
    · split at h
      · rcases List.mem_cons.1 h with rfl | h
        · exact .inl rfl
        · exact .inr ⟨p,by simp [h],rfl⟩
      · rcases List.mem_cons.1 h with rfl | h
        · exact .inl rfl
        · exact .inr ⟨p,h,rfl⟩
theorem lO {r:Int} {k:HS} {v:AP}:∀ {l:List (HS×AP)},srt l→srt (ins r k v l)
  | [],_=>by simp [ins,srt]
  | p :: l,h=>by
    unfold srt at h
    rw [List.pairwise_cons] at h
    unfold ins
    split
    · rename_i hk
      refine List.pairwise_cons.2 ⟨fun q hq=>?_,lO h.2⟩
      rcases gB hq with e | ⟨x,hx,e⟩
      · rw [e]; exact hk
      · rw [←e]; exact h.1 x hx
    · rename_i hk
      split
      · rename_i e
        subst e
        exact List.pairwise_cons.2 ⟨fun q hq=>h.1 q hq,h.2⟩
      · rename_i e
        have:=eU hk e
        exact List.pairwise_cons.2 ⟨fun q hq=>by
          rcases List.mem_cons.1 hq with rfl | hq
          · exact this
          · exact MB this (h.1 q hq),List.pairwise_cons.2 h⟩
theorem lP (r:Int) (ts:List (HS×Int)):srt (SC r ts):=by
  unfold SC
  suffices ∀ (ts:List (HS×Int)) (l:List (HS×AP)),srt l→srt (ts.foldl (fun l t=>ins r t.1 (ZQ t.2) l) l) from this ts [] .nil
  intro ts
  induction ts with
  | nil=>intro l h; exact h
  | cons t ts ih=>intro l h; exact ih _ (lO h)
theorem gD {l:List (HS×AP)} (h:srt l):FN l:=by
  unfold FN
  rw [List.nodup_iff_pairwise_ne,List.pairwise_map]
  exact List.Pairwise.imp (R:=fun a b:HS×AP=>PD a.1 b.1) (fun {a b} hab (e:a.1=b.1)=>EZ b.1 (by rw [e] at hab; exact hab)) h
theorem tM (r:Int) (k:HS) (v:AP):∀ l:List (HS×AP),(ins r k v l).length≤l.length+1
  | []=>by simp [ins]
  | p :: l=>by
    unfold ins
    have:=tM r k v l
    split
    · simp; omega
    · split <;> simp
theorem tN {r:Int} {k:HS} {v:AP} (hv:NF v):∀ {l:List (HS×AP)},(∀ p∈l,NF p.2)→∀ p∈ins r k v l,NF p.2
  | [],_,p,h=>by simp [ins] at h; rw [h]; exact hv
  | q :: l,hl,p,h=>by
    unfold ins at h
    split at h
    · rcases List.mem_cons.1 h with rfl | h
      · exact hl _ (by simp)
      · exact tN hv (fun x hx=>hl x (by simp [hx])) p h
    · split at h
      · rcases List.mem_cons.1 h with rfl | h
        · exact UB (hl q (by simp)) hv
        · exact hl p (by simp [h])
      · rcases List.mem_cons.1 h with rfl | h
        · exact hv
        · exact hl p h
theorem VC (r:Int):∀ (ts:List (HS×Int)),(∀ t∈ts,JO t.2)→(SC r ts).length≤ts.length∧∀ p∈SC r ts,NF p.2:=by
  suffices ∀ (ts:List (HS×Int)) (l:List (HS×AP)),(∀ t∈ts,JO t.2)→(∀ p∈l,NF p.2)→(ts.foldl (fun l t=>ins r t.1 (ZQ t.2) l) l).length≤l.length+ts.length∧∀ p∈ts.foldl (fun l t=>ins r t.1 (ZQ t.2) l) l,NF p.2 from
    fun ts h=>by simpa [SC] using this ts [] h (by simp)
  intro ts
  induction ts with
  | nil=>intro l _ h; exact ⟨by simp,h⟩
  | cons t ts ih=>
    intro l ht h
    have:=ih (ins r t.1 (ZQ t.2) l) (fun x hx=>ht x (by simp [hx])) (tN (lJ (ht t (by simp))) h)
    have h2:=tM r t.1 (ZQ t.2) l
    exact ⟨by simp only [List.foldl_cons,List.length_cons]; omega,this.2⟩
theorem xX {p:HS×AP} {l:List (HS×AP)} {k:HS} (h:srt (p :: l)) (hk:PD k p.1):BP k (p :: l)=none:=by
  apply XO
  intro hm
  obtain ⟨q,hq,e⟩:=List.mem_map.1 hm
  rcases List.mem_cons.1 hq with rfl | hq
  · exact EZ k (e▸hk)
  · have h1:=MB hk ((List.pairwise_cons.1 h).1 q hq)
    rw [e] at h1; exact EZ k h1
theorem tO {r:Int} {k:HS} {v:AP} (k':HS):∀ {l:List (HS×AP)},srt l→BP k' (ins r k v l)=if k'=k then some (match BP k l with | some w=>GW r w v | none=>v) else BP k' l
  | [],_=>by simp only [ins,BP]
  | p :: l,h=>by
    have ih:=tO (r:=r) (k:=k) (v:=v) k' (List.pairwise_cons.1 h).2
    unfold ins
    split
    · rename_i hk
      have hne:¬k=p.1:=fun e=>EZ k (by rw [←e] at hk; exact hk)
      simp only [BP,ih,if_neg hne]
      by_cases e:k'=k
      · subst e; simp [hne]
      · simp [e]
    · rename_i hk
      split
      · rename_i e
        subst e
        simp only [BP,if_true]
        by_cases e:k'=p.1 <;> simp [e]
      · rename_i e
        have hlt:=eU hk e
        rw [xX h hlt]
        simp only [BP]
theorem xY {r:Int} {k:HS} {v:AP} {l:List (HS×AP)} (h:srt l):(ins r k v l).Perm (ET k (match BP k l with | some w=>GW r w v | none=>v) l):=by
  refine jK (gD (lO h)) (GP (gD h) _ _) fun k'=>?_
  rw [tO k' h]
  by_cases e:k'=k
  · subst e; simp [BM]
  · simp [e,BE e]
def PE {α:Type} (l:List (HS×AP)) (mk:HS→Int→α):List α×Int:=if l.all (fun p=>(NY p.2).2) then (l.map (fun p=>mk p.1 (NY p.2).1),0) else ([],12)
def eC (t:AC):HS×Int:=((t.Row,t.Col),t.Val)
def qO (k:HS) (v:Int):AC:=⟨k.1,k.2,v⟩
def kvE (t:DL):HS×Int:=((t.From,t.To),t.W)
def mkE (k:HS) (v:Int):DL:=⟨k.1,k.2,v⟩
theorem tP {α:Type} {ord:α→α→(Int→Prop)→Prop} (cf:α→α→Int) (hc:∀ x y Q,Q (cf x y)→ord x y Q) (hO:SWO (ltOf cf)) {xs zs:List α} {K:List α→Prop} (hl:xs.length≤1000000000000) (hp:xs.Perm zs) (hz:zs.Pairwise fun x y=>cf x y<0) (hK:K zs):tG ord xs K:=by
  refine ⟨cf,fun x y Q=>hc x y Q,hO,by omega,fun ys hys hsorted=>?_⟩
  have hasym:∀ x y,cf x y<0→0≤cf y x:=by
    intro x y h
    rcases Int.lt_or_le (cf y x) 0 with h' | h'
    · have:=hO.trans x y x (by simpa [ltOf] using h) (by simpa [ltOf] using h')
      rw [hO.irrefl] at this; cases this
    · exact h'
  have:ys=zs:=bW (hys.trans hp) hsorted (hz.imp fun {a b} h=>hasym a b h) fun a b ha hb h1 h2=>by
    have ha:=(hys.trans hp).mem_iff.1 ha
    have hb:=(hys.trans hp).mem_iff.1 hb
    obtain ⟨i,hi,rfl⟩:=List.getElem_of_mem ha
    obtain ⟨j,hj,rfl⟩:=List.getElem_of_mem hb
    rw [List.pairwise_iff_getElem] at hz
    rcases Nat.lt_trichotomy i j with h | h | h
    · have:=hz i j hi hj h; omega
    · subst h; rfl
    · have:=hz j i hj hi h; omega
  rw [this]; exact hK
def cfT (x y:AC):Int:=vH (RS x.Row y.Row) (RS x.Col y.Col)
theorem lQ (x y:AC):cfT x y<0↔PD (x.Row,x.Col) (y.Row,y.Col):=by
  unfold cfT vH RS PD
  (repeat' split) <;> simp only <;> omega
theorem AcI {x y:AC} {Q:Int→Prop} (h:Q (cfT x y)):XT x y Q:=by
  unfold XT
  exact HE (HE (jU h))
theorem AaQ:SWO (ltOf cfT) where
  irrefl x:=by unfold ltOf; simp only [lQ]; simp [PD]
  trans x y z h1 h2:=by unfold ltOf at *; simp only [lQ,decide_eq_true_eq] at *; exact MB h1 h2
  ntrans x y z h1 h2:=by unfold ltOf at *; simp only [lQ,decide_eq_false_iff_not,PD] at *; omega
theorem gE {m d:List (HS×AP)} {l:List (HS×AP)} {α:Type} {mk:HS→Int→α} (hp:d.Perm l) (hd:∀ p∈d,(NY p.2).2=true):PE l mk=(l.map (fun p=>mk p.1 (NY p.2).1),0):=by
  unfold PE
  rw [if_pos]
  rw [List.all_eq_true]
  exact fun p hpm=>hd p (hp.mem_iff.2 hpm)
theorem tQ {l:List (HS×AP)} {α:Type} {mk:HS→Int→α} {p:HS×AP} (hp:p∈l) (hd:(NY p.2).2=false):PE l mk=([],12):=by
  unfold PE
  rw [if_neg]
  rw [List.all_eq_true]
  intro h
  rw [h p hp] at hd; cases hd
theorem GX {α β:Type} {f:α→β} {xs:List α} {i:Nat} (h:i<xs.length):(xs.take (i+1)).map f=(xs.take i).map f++[f xs[i]]:=by
  rw [List.take_succ_eq_append_getElem h,List.map_append]; rfl
theorem vI {r:Int} {ts:List AC} {Q:List AC×Int→Prop} (hl:ts.length≤1000000) (hv:∀ t∈ts,JO t.Val) (hQ:Q (PE (SC r (ts.map eC)) qO)):RH r ts Q:=by
  unfold RH
  have hvk:∀ (i:Nat) t,t∈(ts.take i).map eC→JO t.2:=by
    intro i t ht
    obtain ⟨x,hx,rfl⟩:=List.mem_map.1 ht
    exact hv x (List.mem_of_mem_take hx)
  refine BH (fun (s:List (HS×AP)) i=>(s,i)) 0 ts.length (by omega) (fun i m=>m.Perm (SC r ((ts.take i).map eC))) (by omega) .nil (fun i m next _ hi hm hn=>?_) (fun m next hm=>?_)
  · have hx:JO ts[i].Val:=hv _ (List.getElem_mem hi)
    have hk:FN m:=List.Perm.nodup (hm.symm.map Prod.fst) (gD (lP _ _))
    have hok:=(VC r _ (hvk i)).2
    have hfin:∀ w,(match BP (ts[i].Row,ts[i].Col) m with | some w=>GW r w (ZQ ts[i].Val) | none=>ZQ ts[i].Val)=w→(ET (ts[i].Row,ts[i].Col) w m).Perm (SC r ((ts.take (i+1)).map eC)):=by
      intro w hw
      rw [GX hi,lN,←hw,uX hk hm]
      exact (uW hk hm _ _).trans (xY (lP _ _)).symm
    refine AD (fun _=>?_) (fun h=>by omega)
    refine BG hi (JZ hx (Z4 (fun w hw=>BN rfl (WT ?_ (lJ hx) (hn _ ?_))) (fun hw=>AW rfl (hn _ ?_))))
    · exact hok _ (hm.mem_iff.1 ((HK hk).1 hw))
    · exact hfin _ (by rw [hw])
    · exact hfin _ (by rw [hw])
  · refine AD (fun h=>by omega) (fun _=>?_)
    rw [List.take_length] at hm
    have hpr:=VC r (ts.map eC) (by simpa using hvk ts.length)
    have hsrt:=lP r (ts.map eC)
    generalize SC r (ts.map eC)=l at hm hpr hsrt hQ
    have hll:l.length≤1000000:=by simp at hpr; omega
    refine EL (fun s:List AC×List (HS×AP)=>∃ d,(d++s.2).Perm l∧s.1=d.map (fun p=>qO p.1 (NY p.2).1)∧∀ p∈d,(NY p.2).2=true) (fun s=>s.2.length) ⟨[],by simpa using hm,rfl,by simp⟩ ?_
    rintro ⟨acc,rest⟩ next ⟨d,hd,rfl,hnar⟩ hn
    simp only at hd
    refine dC (fun e=>?_) (fun p rr hp=>?_)
    · subst e
      simp only [List.append_nil] at hd
      refine tP cfT (fun _ _ _=>AcI) AaQ (by have:=hd.length_eq; simp; omega) (hd.map _) ?_ ?_
      · rw [List.pairwise_map]
        exact List.Pairwise.imp (R:=fun a b:HS×AP=>PD a.1 b.1) (fun {a b} h=>(lQ _ _).2 h) hsrt
      · rw [gE (m:=[]) hd hnar] at hQ; exact hQ
    · have hd2:(d++p :: rr).Perm l:=(List.Perm.append_left d hp.symm).trans hd
      have hpl:p∈l:=hd2.mem_iff.1 (by simp)
      refine jW (hpr.2 p hpl) (CR (fun h=>?_) (fun h=>?_))
      · rw [tQ hpl h] at hQ; exact hQ
      · refine BI ?_ (hn _ ⟨d++[p],by simpa using hd2,by simp [qO],?_⟩ ?_)
        · have:=hd2.length_eq; simp at this ⊢; omega
        · intro q hq
          rcases List.mem_append.1 hq with hq | hq
          · exact hnar q hq
          · simp at hq; subst hq; exact h
        · have:=hp.length_eq; simp at this ⊢; omega
theorem lR {r:Int} {k:HS} {v:AP}:∀ {l:List (HS×AP)} {n:Nat} (hn:n<l.length),(∀ j (hj:j<n),PD (l[j]'(by omega)).1 k)→l[n].1=k→ins r k v l=l.set n (k,GW r l[n].2 v)
  | [],n,hn,_,_=>by simp at hn
  | p :: l,0,hn,_,he=>by
    have he:p.1=k:=he
    subst he
    simp [ins,EZ]
  | p :: l,n+1,hn,hl,he=>by
    have h0:PD p.1 k:=hl 0 (by omega)
    have:=lR (r:=r) (v:=v) (l:=l) (n:=n) (by simpa using hn) (fun j hj=>hl (j+1) (by omega)) he
    simp [ins,h0,this]
theorem tR {r:Int} {k:HS} {v:AP}:∀ {l:List (HS×AP)} {n:Nat} (hn:n≤l.length),(∀ j (hj:j<n),PD (l[j]'(by omega)).1 k)→(∀ h:n<l.length,¬PD l[n].1 k∧l[n].1≠k)→ins r k v l=l.take n++(k,v) :: l.drop n
  | [],n,hn,_,_=>by simp [ins]
  | p :: l,0,hn,_,he=>by
    have:=he (by simp)
    simp only [List.getElem_cons_zero] at this
    simp [ins,this.1,this.2]
  | p :: l,n+1,hn,hl,he=>by
    have h0:PD p.1 k:=hl 0 (by omega)
    have:=tR (r:=r) (v:=v) (l:=l) (n:=n) (by simpa using hn) (fun j hj=>hl (j+1) (by omega)) (fun h=>he (by simpa using h))
    simp [ins,h0,this]
theorem oL {a b:DL} {Q:Bool→Prop} (h:Q (decide (PD (a.From,a.To) (b.From,b.To)))):OW a b Q:=by
  unfold OW
  refine AD (fun h1=>?_) (fun h1=>CB (fun h2=>?_) (fun h2=>?_))
  · rwa [decide_eq_true (by unfold PD; exact .inl h1)] at h
  · rwa [show decide (PD (a.From,a.To) (b.From,b.To))=decide (a.To<b.To) by apply decide_eq_decide.2; simp only [PD]; omega] at h
  · rwa [decide_eq_false (by simp only [PD]; omega)] at h
def e0 (p:HS×AP):DL:=mkE p.1 0
theorem gF {r:Int} {ts:List DL} {Q:List DL×Int→Prop} (hr:1≤r∧r≤5) (hl:ts.length≤1000000) (hv:∀ t∈ts,JO t.W) (hQ:Q (PE (SC r (ts.map kvE)) mkE)):OL r ts Q:=by
  unfold OL
  refine dL (AW (by simp [hr]) ?_)
  have hvk:∀ (i:Nat) t,t∈(ts.take i).map kvE→JO t.2:=by
    intro i t ht
    obtain ⟨x,hx,rfl⟩:=List.mem_map.1 ht
    exact hv x (List.mem_of_mem_take hx)
  refine BH (fun (s:List DL×List AP) i=>(s.1,s.2,i)) 0 ts.length (by omega) (fun i s=>s.1=(SC r ((ts.take i).map kvE)).map e0∧s.2=(SC r ((ts.take i).map kvE)).map (·.2)) (s0:=([],[])) (by omega) ⟨rfl,rfl⟩ (fun i s next _ hi hm hn=>?_) (fun s next hm=>?_)
  · obtain ⟨es,ws⟩:=s
    obtain ⟨he,hw⟩:=hm
    simp only at he hw
    have hx:JO ts[i].W:=hv _ (List.getElem_mem hi)
    have hpr:=VC r _ (hvk i)
    have hstep:SC r ((ts.take (i+1)).map kvE)=ins r (ts[i].From,ts[i].To) (ZQ ts[i].W) (SC r ((ts.take i).map kvE)):=by rw [GX hi,lN]; rfl
    simp only [hstep] at hn
    generalize SC r ((ts.take i).map kvE)=l at he hw hpr hn
    subst he hw
    have hll:l.length≤1000000:=by have:=hpr.1; simp at this; omega
    refine AD (fun _=>?_) (fun h=>by omega)
    have hel:∀ (j:Nat) (h:j<l.length),(l.map e0)[j]? = some (e0 l[j]):=fun j h=>by simp [h]
    -- where it goes
    refine FM (fun a:Int=>∃ n:Nat,a=n∧n≤l.length∧(∀ (j:Nat) (hj:j<n) (hjl:j<l.length),PD l[j].1 (ts[i].From,ts[i].To))∧∀ h:n<l.length,¬PD l[n].1 (ts[i].From,ts[i].To)) ?_ fun k hk=>?_
    · rintro _ ⟨n,rfl,hnl,hlt,hge⟩
      have hlt':∀ j (hj:j<n),PD (l[j]'(by omega)).1 (ts[i].From,ts[i].To):=fun j hj=>hlt j hj (by omega)
      refine BG hi (oJ hx ?_)
      refine FM (fun b=>b=decide (∃ h:n<l.length,l[n].1=(ts[i].From,ts[i].To))) ?_ fun k hk=>?_
      · rintro _ rfl
        refine AD (fun hb=>?_) (fun hb=>?_)
        · obtain ⟨h,hb⟩:=hb
          refine AM (by omega) (x:=l[n].2) (by simp [h]) (lM (hpr.2 _ (List.getElem_mem h)) (lJ hx) (AM (by omega) (x:=l[n].2) (by simp [h]) (hn (l.map e0,(l.map (·.2)).set n (GW r l[n].2 (ZQ ts[i].W))) ⟨?_,?_⟩)))
          · rw [lR h hlt' hb,List.map_set]
            apply List.ext_getElem?
            intro j
            rw [List.getElem?_set]
            split
            · rename_i e; subst e; simp [h,e0,hb]
            · rfl
          · rw [lR h hlt' hb,List.map_set]
        · have hins:=tR (r:=r) (v:=ZQ ts[i].W) hnl hlt' (fun h=>⟨hge h,fun e=>hb ⟨h,e⟩⟩)
          rw [hins] at hn
          refine BI (by simp; omega) (BI (by simp; omega) ?_)
          refine EL (fun s:List DL×List AP×Int=>∃ j:Nat,s.2.2=j∧n≤j∧j≤l.length∧s.1.length=l.length+1∧s.2.1.length=l.length+1∧(∀ q,q<j→s.1[q]? = (l.map e0)[q]?∧s.2.1[q]? = (l.map (·.2))[q]?)∧∀ q,j≤q→q<l.length→s.1[q+1]? = (l.map e0)[q]?∧s.2.1[q+1]? = (l.map (·.2))[q]?)
            (fun s=>s.2.2.toNat) ⟨l.length,?_,hnl,Nat.le_refl _,by simp,by simp,fun q hq=>?_,fun q h1 h2=>by omega⟩ ?_
          · simp only; rw [AV (by simp <;> omega) (by simp <;> omega)]; simp
          · simp only; rw [List.getElem?_append_left (by simpa using hq),List.getElem?_append_left (by simpa using hq)]; exact ⟨rfl,rfl⟩
          rintro ⟨s1,s2,s3⟩ next ⟨j,hj,hnj,hjl,hl1,hl2,hlo,hhi⟩ hnx
          simp only at hj hl1 hl2 hlo hhi
          subst hj
          refine AD (fun h=>?_) (fun h=>?_)
          · obtain ⟨j,rfl⟩:∃ m,j=m+1:=⟨j - 1,by omega⟩
            have hjm:j<l.length:=by omega
            have ej:AJ (((j+1:Nat):Int) - 1)=(j:Int):=by rw [AV (by omega) (by omega)]; omega
            rw [ej]
            refine AM (by omega) (x:=e0 l[j]) (by simp only [Int.toNat_natCast]; rw [(hlo j (by omega)).1,hel j hjm]) (BG (i:=j+1) (by omega) (AM (by omega) (x:=l[j].2) (by simp only [Int.toNat_natCast]; rw [(hlo j (by omega)).2]; simp [hjm]) (BG (i:=j+1) (by omega) (hnx _ ⟨j,rfl,by omega,by omega,by simp [hl1],by simp [hl2],fun q hq=>?_,fun q h1 h2=>?_⟩ ?_))))
            · simp only [Int.toNat_natCast]
              rw [List.getElem?_set_ne (by omega),List.getElem?_set_ne (by omega)]
              exact hlo q (by omega)
            · simp only [Int.toNat_natCast]
              rw [List.getElem?_set,List.getElem?_set]
              by_cases e:q=j
              · subst e; rw [if_pos rfl,if_pos (by omega),if_pos rfl,if_pos (by omega)]; simp [hjm]
              · rw [if_neg (by omega),if_neg (by omega)]; exact hhi q (by omega) h2
            · simp only; omega
          · have hjn:j=n:=by omega
            subst hjn
            refine BG hi (BG hi (BG (by omega) (BG (by omega) (hn (s1.set j (mkE (ts[i].From,ts[i].To) 0),s2.set j (ZQ ts[i].W)) ⟨?_,?_⟩))))
            · simp only [Int.toNat_natCast,List.map_append,List.map_cons]
              have:=fR (pre:=(l.take j).map e0) (post:=(l.drop j).map e0) (s:=s1) (x:=e0 ((ts[i].From,ts[i].To),ZQ ts[i].W)) (by simp [hl1]; omega) (fun q hq=>?_) (fun q hq=>?_)
              · simp only [List.length_map,List.length_take,Nat.min_eq_left hnl] at this; exact this
              · simp only [List.length_map,List.length_take,Nat.min_eq_left hnl] at hq
                rw [(hlo q hq).1]; simp [hq]
              · simp only [List.length_map,List.length_take,List.length_drop,Nat.min_eq_left hnl] at hq ⊢
                rw [show j+1+q=j+q+1 by omega,(hhi (j+q) (by omega) (by omega)).1]; simp
            · simp only [Int.toNat_natCast,List.map_append,List.map_cons]
              have:=fR (pre:=(l.take j).map (·.2)) (post:=(l.drop j).map (·.2)) (s:=s2) (x:=ZQ ts[i].W) (by simp [hl2]; omega) (fun q hq=>?_) (fun q hq=>?_)
              · simp only [List.length_map,List.length_take,Nat.min_eq_left hnl] at this; exact this
              · simp only [List.length_map,List.length_take,Nat.min_eq_left hnl] at hq
                rw [(hlo q hq).2]; simp [hq]
              · simp only [List.length_map,List.length_take,List.length_drop,Nat.min_eq_left hnl] at hq ⊢
                rw [show j+1+q=j+q+1 by omega,(hhi (j+q) (by omega) (by omega)).2]; simp
      · refine AD (fun h=>?_) (fun h=>hk _ ?_)
        · have h:n<l.length:=by simpa using h
          refine BG hi (AM (by omega) (x:=e0 l[n]) (by simpa using hel n h) (oL (hk _ ?_)))
          have hg:=hge h
          have e1:((e0 l[n]).From,(e0 l[n]).To)=l[n].1:=rfl
          rw [e1]
          by_cases e:l[n].1=(ts[i].From,ts[i].To)
          · rw [decide_eq_true (p:=∃ h:n<l.length,l[n].1=_) ⟨h,e⟩,e,decide_eq_false (EZ _)]; rfl
          · rw [decide_eq_false (p:=∃ h:n<l.length,l[n].1=_) (fun ⟨_,e'⟩=>e e'),decide_eq_true (eU hg e)]; rfl
        · rw [decide_eq_false]
          rintro ⟨h',_⟩
          simp at h; omega
    · refine EX l.length (by omega) (fun n=>∀ (j:Nat) (hj:j<n) (hjl:j<l.length),PD l[j].1 (ts[i].From,ts[i].To)) (by simp) (fun j next hj hR hnx=>?_) (fun next hR=>?_)
      · refine AD (fun _=>?_) (fun h=>by simp at h; omega)
        refine AM (by omega) (x:=e0 l[j]) (by simpa using hel j hj) (BG hi (oL (AD (fun h=>hnx fun q hq hql=>?_) (fun h=>hk _ ⟨j,rfl,by omega,hR,fun _=>h⟩))))
        by_cases e:q=j
        · subst e; exact h
        · exact hR q (by omega) hql
      · refine AD (fun h=>by simp at h) (fun _=>hk _ ⟨l.length,rfl,Nat.le_refl _,hR,fun h=>by omega⟩)
  · obtain ⟨es,ws⟩:=s
    obtain ⟨he,hw⟩:=hm
    simp only at he hw
    rw [List.take_length] at he hw
    refine AD (fun h=>by omega) (fun _=>?_)
    have hpr:=VC r (ts.map kvE) (by simpa using hvk ts.length)
    generalize SC r (ts.map kvE)=l at he hw hpr hQ
    subst he hw
    have hll:l.length≤1000000:=by have:=hpr.1; simp at this; omega
    refine BH (fun (s:List DL) i=>(s,i)) 0 l.length (by omega) (fun i s=>s=(l.take i).map (fun p=>mkE p.1 (NY p.2).1)++(l.drop i).map e0∧∀ p∈l.take i,(NY p.2).2=true) (by omega) ⟨by simp,by simp⟩ (fun i s next _ hi hm hn=>?_) (fun s next hm=>?_)
    · obtain ⟨rfl,hnar⟩:=hm
      refine AD (fun _=>?_) (fun h=>by simp at h; omega)
      refine AM (by omega) (x:=l[i].2) (by simp [hi]) (dZ (hpr.2 _ (List.getElem_mem hi)) (CR (fun h=>?_) (fun h=>?_)))
      · rw [tQ (List.getElem_mem hi) h] at hQ; exact hQ
      · have hdr:l.drop i=l[i] :: l.drop (i+1):=by rw [List.drop_eq_getElem_cons hi]
        have hlen:((l.take i).map (fun p=>mkE p.1 (NY p.2).1)).length=i:=by simp; omega
        refine AM (by omega) (x:=e0 l[i]) ?_ (hn _ ⟨?_,?_⟩)
        · rw [hdr,Int.toNat_natCast,List.getElem?_append_right (by omega),hlen,Nat.sub_self]; rfl
        · rw [hdr,Int.toNat_natCast,List.set_append,if_neg (by omega),hlen,GX hi,Nat.sub_self,List.append_assoc]; rfl
        · intro p hp
          rw [List.take_succ_eq_append_getElem hi] at hp
          rcases List.mem_append.1 hp with hp | hp
          · exact hnar p hp
          · simp at hp; subst hp; exact h
    · obtain ⟨rfl,hnar⟩:=hm
      refine AD (fun h=>by simp at h) (fun _=>?_)
      rw [gE (m:=[]) (.refl l) (by simpa using hnar)] at hQ
      simpa using hQ
end Go.Proofs.YtbohadngdkjljaaGreat
