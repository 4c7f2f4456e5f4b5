import Derived.Test.YtbohadngdkjljaaGreatT
import Derived.Test.YtbohadngdkjljaaGreatFwQ
namespace Go.Proofs.YtbohadngdkjljaaGreat
open Go Go.Fw
set_option linter.unusedVariables false
set_option linter.unusedSimpArgs false
def SQ (x y:Int):Int:=if x<y then -1 else if y<x then 1 else 0
theorem HO {x y:Int} {Q:Int→Prop} (h:Q (SQ x y)):DA x y Q:=by
  unfold DA HM
  unfold SQ at h
  refine AV (by simp) (AV (by simp) (AD (fun h1=>?_) (fun h1=>AD (fun h2=>?_) (fun h2=>?_))))
  · rwa [if_pos h1] at h
  · rwa [if_neg h1,if_pos h2] at h
  · rwa [if_neg h1,if_neg h2] at h
theorem mN {x y:Int} {Q:Int→Prop} (h:Q (SQ x y)):JP x y Q:=by
  unfold JP LX
  unfold SQ at h
  refine AV (by simp) (AV (by simp) (AD (fun h1=>?_) (fun h1=>AD (fun h2=>?_) (fun h2=>?_))))
  · rwa [if_pos h1] at h
  · rwa [if_neg h1,if_pos h2] at h
  · rwa [if_neg h1,if_neg h2] at h
theorem jX {x y:Int} {Q:Int→Prop} (h:Q (SQ x y)):IL x y Q:=by
  unfold IL KR
  unfold SQ at h
  refine AV (by simp) (AV (by simp) (AD (fun h1=>?_) (fun h1=>AD (fun h2=>?_) (fun h2=>?_))))
  · rwa [if_pos h1] at h
  · rwa [if_neg h1,if_pos h2] at h
  · rwa [if_neg h1,if_neg h2] at h
def wR (x y:Int):Int:=if x=0 then y else x
theorem lB {x y:Int} {Q:Int→Prop} (h:Q (wR x y)):KF [x,y] Q:=by
  unfold KF
  unfold wR at h
  refine EO 2 (by omega) (fun i=>(0<i→x=0)∧(1<i→y=0)) ⟨by omega,by omega⟩ (fun i next hi hR hn=>?_) (fun next hR=>?_)
  · refine AD (fun _=>?_) (fun h=>by simp at h; omega)
    match i,hi with
    | 0,_=>exact AO (by omega) (x:=x) rfl (DW (fun e=>by rwa [if_neg e] at h) (fun e=>hn ⟨fun _=>e,by omega⟩))
    | 1,_=>exact AO (by omega) (x:=y) rfl (DW (fun e=>by rwa [if_pos (hR.1 (by omega))] at h) (fun e=>hn ⟨fun _=>hR.1 (by omega),fun _=>e⟩))
  · refine AD (fun h=>by simp at h) (fun _=>?_)
    rwa [if_pos (hR.1 (by omega)),hR.2 (by omega)] at h
def NJ (a:AN):Prop:=-9223372036854775808≤a.Hi∧a.Hi≤9223372036854775807∧0≤a.Lo∧a.Lo≤18446744073709551615
def HJ (x:Int):Prop:=-9223372036854775808≤x∧x≤9223372036854775807
def WU (a b:AN):Prop:=a.Hi<b.Hi∨(a.Hi=b.Hi∧a.Lo≤b.Lo)
instance (a b:AN):Decidable (WU a b):=by unfold WU; infer_instance
theorem OS (x:Int):IntKind.wrap .u64 x=x % 18446744073709551616:=by
  simp [IntKind.wrap,IntKind.bits,IntKind.signed]
theorem GM (x:Int):AJ x=(x+9223372036854775808) % 18446744073709551616 - 9223372036854775808:=by
  show IntKind.wrap .i64 x=_
  rw [IntKind.wrap_i64]
def aX (v:Int):AN:=⟨if v<0 then -1 else 0,v % 18446744073709551616⟩
theorem mO {v:Int} (h:HJ v):NJ (aX v):=by unfold aX NJ; unfold HJ at h; simp only; split <;> omega
theorem AeV {v:Int} (h:HJ v):shr .i64 v 63=if v<0 then -1 else 0:=by
  unfold HJ at h
  show v.fdiv (2 ^ 63)=_
  rw [Int.fdiv_eq_ediv_of_nonneg _ (by decide)]
  split
  · rw [show (2:Int) ^ 63=9223372036854775808 from rfl]; omega
  · rw [show (2:Int) ^ 63=9223372036854775808 from rfl]; omega
theorem KK {v:Int} {Q:AN→Prop} (h:HJ v) (hQ:Q (aX v)):NF v Q:=by
  unfold NF; rw [AeV h,OS]; exact hQ
theorem FH {v:Int} {Q:AN→Prop} (h:HJ v) (hQ:Q (aX v)):GY v Q:=by
  unfold GY; unfold aX at hQ
  refine AD (fun h1=>?_) (fun h1=>?_)
  · rw [if_pos h1] at hQ; rwa [OS]
  · rw [if_neg h1] at hQ; rwa [OS]
theorem pP {a b:AN} {Q:Int→Prop} (hQ:Q (wR (SQ a.Hi b.Hi) (SQ a.Lo b.Lo))):QR a b Q:=by
  unfold QR
  exact mN (jX (lB hQ))
theorem lC {a b:AN} {Q:AN→Prop} (hQ:Q (if WU a b then a else b)):PQ a b Q:=by
  unfold PQ
  refine pP (AD (fun h=>?_) (fun h=>?_))
  · rwa [if_pos] at hQ
    unfold WU; unfold wR SQ at h
    (repeat' split at h) <;> omega
  · rwa [if_neg] at hQ
    unfold WU; unfold wR SQ at h
    (repeat' split at h) <;> omega
theorem LL {a b:AN} (h1:a.Hi=b.Hi) (h2:a.Lo=b.Lo):a=b:=by cases a; cases b; simp_all
theorem mP {a b:AN} {Q:Int→Prop} (h1:¬WU b a→Q (-1)) (h2:WU b a→∀ x:Int,0≤x→Q x):HL a b Q:=by
  unfold HL
  refine ED (fun _=>WU b a) (fun _ hb=>BU (fun _=>h2 hb 0 (by omega)) (fun _=>h2 hb 1 (by omega))) fun k hk=>?_
  refine AD (fun h=>h1 ?_) (fun h=>BU (fun e=>AD (fun h'=>h1 ?_) (fun h'=>hk () ?_)) (fun e=>hk () ?_))
  all_goals (unfold WU; omega)
def GN (r:Int) (a b:AN):AN:=
  if r=1∨r=3∨r=4 then (if WU a b then a else b)
  else if r=2 then (if a=⟨0,0⟩∧b=⟨0,0⟩ then ⟨0,0⟩ else ⟨0,1⟩)
  else if r=5 then ⟨AJ (a.Hi+b.Hi+(if 18446744073709551616≤a.Lo+b.Lo then 1 else 0)),(a.Lo+b.Lo) % 18446744073709551616⟩
  else ⟨0,0⟩
theorem VA {r:Int} {a b:AN} (ha:NJ a) (hb:NJ b):NJ (GN r a b):=by
  unfold GN
  split
  · split <;> assumption
  · split
    · split <;> (unfold NJ; simp)
    · split
      · unfold NJ at *; simp only [GM]; omega
      · unfold NJ; simp
theorem bW {b:Bool} {Q:AN→Prop} (hQ:Q (if b then ⟨0,1⟩ else ⟨0,0⟩)):ME b Q:=by
  unfold ME
  refine ⟨fun h=>KK (by unfold HJ; omega) ?_,fun h=>?_⟩
  · subst h; exact hQ
  · subst h; exact hQ
theorem NK {b:Bool} {Q:AN→Prop} (hQ:Q (if b then ⟨0,1⟩ else ⟨0,0⟩)):KD b Q:=by
  unfold KD
  refine ⟨fun h=>?_,fun h=>?_⟩
  · subst h; exact hQ
  · subst h; exact hQ
theorem eW {a b:AN} {Q:AN→Prop} (ha:NJ a) (hb:NJ b) (hQ:Q (GN 5 a b)):XP a b Q:=by
  unfold XP SD
  have e:GN 5 a b=⟨AJ (a.Hi+b.Hi+(if 18446744073709551616≤a.Lo+b.Lo then 1 else 0)),(a.Lo+b.Lo) % 18446744073709551616⟩:=rfl
  rw [e] at hQ
  unfold NJ at ha hb
  simp only [OS,GM] at hQ ⊢
  refine AD (fun h=>?_) (fun h=>?_)
  · rw [if_pos (by omega)] at hQ
    have:((a.Hi % 18446744073709551616+b.Hi % 18446744073709551616) % 18446744073709551616+1) % 18446744073709551616=(a.Hi+b.Hi+1) % 18446744073709551616:=by omega
    rw [this]
    have:((a.Hi+b.Hi+1) % 18446744073709551616+9223372036854775808) % 18446744073709551616=(a.Hi+b.Hi+1+9223372036854775808) % 18446744073709551616:=by omega
    rw [this]; exact hQ
  · rw [if_neg (by omega)] at hQ
    have:((a.Hi % 18446744073709551616+b.Hi % 18446744073709551616) % 18446744073709551616+0) % 18446744073709551616=(a.Hi+b.Hi+0) % 18446744073709551616:=by omega
    rw [this]
    have:((a.Hi+b.Hi+0) % 18446744073709551616+9223372036854775808) % 18446744073709551616=(a.Hi+b.Hi+0+9223372036854775808) % 18446744073709551616:=by omega
    rw [this]; exact hQ
theorem KU {a b:AN} {Q:AN→Prop} (ha:NJ a) (hb:NJ b) (hQ:Q (GN 5 a b)):KQ a b Q:=by
  unfold KQ
  have e:GN 5 a b=⟨AJ (a.Hi+b.Hi+(if 18446744073709551616≤a.Lo+b.Lo then 1 else 0)),(a.Lo+b.Lo) % 18446744073709551616⟩:=rfl
  rw [e] at hQ
  unfold NJ at ha hb
  simp only [OS,GM] at hQ ⊢
  refine AD (fun h=>?_) (fun h=>?_)
  · rw [if_pos (by omega)] at hQ
    have:((a.Hi+b.Hi+9223372036854775808) % 18446744073709551616 - 9223372036854775808+1+9223372036854775808) % 18446744073709551616=(a.Hi+b.Hi+1+9223372036854775808) % 18446744073709551616:=by omega
    rw [this]; exact hQ
  · rw [if_neg (by omega)] at hQ
    rwa [show a.Hi+b.Hi+0=a.Hi+b.Hi by omega] at hQ
theorem XS {r:Int} {a b:AN} {Q:AN→Prop} (ha:NJ a) (hb:NJ b) (hQ:Q (GN r a b)):UX r a b Q:=by
  unfold UX
  refine ED (fun t=>t=decide (r=1∨r=3∨r=4)) (fun t ht=>?_) fun k hk=>?_
  · subst ht
    refine AD (fun h=>lC ?_) (fun h=>BU (fun h2=>?_) (fun h2=>BU (fun h5=>eW ha hb ?_) (fun h5=>?_)))
    · unfold GN at hQ; rwa [if_pos h] at hQ
    · subst h2
      unfold GN at hQ
      rw [if_neg h,if_pos rfl] at hQ
      refine CS (fun hne=>bW ?_) (fun he=>bW ?_)
      · rw [if_neg] at hQ
        · exact hQ
        · rintro ⟨e1,e2⟩; subst e1 e2; simp at hne
      · have he:a=b:=by simpa using he
        subst he
        by_cases e:a=⟨0,0⟩
        · rw [if_pos ⟨e,e⟩] at hQ; simpa [e] using hQ
        · rw [if_neg (fun h=>e h.1)] at hQ; simpa [e] using hQ
    · subst h5; exact hQ
    · unfold GN at hQ; rwa [if_neg h,if_neg h2,if_neg h5] at hQ
  · refine BU (fun h=>hk _ ?_) (fun h=>BU (fun h3=>hk _ ?_) (fun h3=>hk _ ?_))
    · simp [h]
    · simp [h3]
    · by_cases h4:r=4 <;> simp [h,h3,h4]
theorem bX {r:Int} {a b:AN} {Q:AN→Prop} (ha:NJ a) (hb:NJ b) (hQ:Q (GN r a b)):US r a b Q:=by
  unfold US
  refine ED (fun t=>t=decide (r=1∨r=3∨r=4)) (fun t ht=>?_) fun k hk=>?_
  · subst ht
    refine AD (fun h=>mP (fun h1=>AD (fun _=>?_) (fun h=>by omega)) (fun h1 x hx=>AD (fun h=>by omega) (fun _=>?_))) (fun h=>BU (fun h2=>?_) (fun h2=>BU (fun h5=>KU ha hb ?_) (fun h5=>?_)))
    · unfold GN at hQ; rwa [if_pos h,if_neg h1] at hQ
    · unfold GN at hQ; rwa [if_pos h,if_pos h1] at hQ
    · subst h2
      unfold GN at hQ
      rw [if_neg h,if_pos rfl] at hQ
      refine CS (fun hne=>NK ?_) (fun he=>NK ?_)
      · rw [if_neg] at hQ
        · exact hQ
        · rintro ⟨e1,e2⟩; subst e1; simp at hne
      · have he:a=⟨0,0⟩:=by simpa using he
        subst he
        by_cases e:b=⟨0,0⟩
        · rw [if_pos ⟨rfl,e⟩] at hQ; simpa [e] using hQ
        · rw [if_neg (fun h=>e h.2)] at hQ; simpa [e] using hQ
    · subst h5; exact hQ
    · unfold GN at hQ; rwa [if_neg h,if_neg h2,if_neg h5] at hQ
  · refine BU (fun h=>hk _ ?_) (fun h=>BU (fun h3=>hk _ ?_) (fun h3=>hk _ ?_))
    · simp [h]
    · simp [h3]
    · by_cases h4:r=4 <;> simp [h,h3,h4]
def OT (a:AN):Int×Bool:=if (a.Hi=0∧a.Lo≤9223372036854775807)∨(a.Hi = -1∧9223372036854775808≤a.Lo) then (AJ a.Lo,true) else (0,false)
theorem lD {r:Int} {a:AN} {Q:Int×Bool→Prop} (ha:NJ a) (hQ:Q (OT a)):MM r a Q:=by
  unfold MM XQ
  unfold NJ at ha
  unfold OT at hQ
  refine KK (by unfold HJ; rw [GM]; omega) (CS (fun h=>?_) (fun h=>?_))
  · rw [if_neg] at hQ
    · exact hQ
    · intro h'
      simp only [beq_eq_false_iff_ne,ne_eq] at h
      apply h
      apply LL <;> simp only [aX,GM] <;> (try split) <;> omega
  · have h:aX (AJ a.Lo)=a:=by simpa using h
    rw [if_pos] at hQ
    · exact hQ
    · rw [←h]
      simp only [aX,GM]
      split <;> omega
theorem fM {a:AN} {Q:Int×Bool→Prop} (ha:NJ a) (hQ:Q (OT a)):QO a Q:=by
  unfold QO
  unfold NJ at ha
  have hy (h:(a.Hi=0∧a.Lo≤9223372036854775807)∨(a.Hi = -1∧9223372036854775808≤a.Lo)):Q (AJ a.Lo,true):=by unfold OT at hQ; rwa [if_pos h] at hQ
  have hn (h:¬((a.Hi=0∧a.Lo≤9223372036854775807)∨(a.Hi = -1∧9223372036854775808≤a.Lo))):Q (0,false):=by unfold OT at hQ; rwa [if_neg h] at hQ
  refine BU (fun h=>AD (fun h1=>hy ?_) (fun h1=>BU (fun h2=>by omega) (fun h2=>hn ?_))) (fun h=>BU (fun h1=>AD (fun h2=>hy ?_) (fun h2=>hn ?_)) (fun h1=>hn ?_))
  all_goals (try rw [GM] at h1); (try rw [GM] at h2); omega
theorem MG {r:Int} {Q:Bool→Prop} (hQ:Q (decide (1≤r∧r≤5))):QP r Q:=by
  unfold QP
  refine AD (fun h=>?_) (fun h=>?_)
  · rwa [show decide (r<6)=decide (1≤r∧r≤5) by apply decide_eq_decide.2; omega]
  · rwa [show decide (1≤r∧r≤5)=false by apply decide_eq_false; omega] at hQ
theorem XT {r:Int} {Q:Bool→Prop} (hQ:Q (decide (1≤r∧r≤5))):UR r Q:=by
  unfold UR
  refine AD (fun h=>?_) (fun h=>?_)
  · rwa [show decide (r≤5)=decide (1≤r∧r≤5) by apply decide_eq_decide.2; omega]
  · rwa [show decide (1≤r∧r≤5)=false by apply decide_eq_false; omega] at hQ
open Go Go.Fw Go.Sort Go.Shelf
abbrev IC:=Int×Int
def PV (a b:IC):Prop:=a.1<b.1∨(a.1=b.1∧a.2<b.2)
instance (a b:IC):Decidable (PV a b):=by unfold PV; infer_instance
theorem MT {a b c:IC} (h1:PV a b) (h2:PV b c):PV a c:=by unfold PV at *; omega
theorem FC (a:IC):¬PV a a:=by unfold PV; omega
theorem gF {a b:IC} (h1:¬PV a b) (h2:a≠b):PV b a:=by
  obtain ⟨a1,a2⟩:=a; obtain ⟨b1,b2⟩:=b
  unfold PV at *
  simp only [ne_eq,Prod.mk.injEq] at *
  omega
def ins (r:Int) (k:IC) (v:AN):List (IC×AN)→List (IC×AN)
  | []=>[(k,v)]
  | p :: l=>if PV p.1 k then p :: ins r k v l else if p.1=k then (k,GN r p.2 v) :: l else (k,v) :: p :: l
def SC (r:Int) (ts:List (IC×Int)):List (IC×AN):=ts.foldl (fun l t=>ins r t.1 (aX t.2) l) []
theorem mQ (r:Int) (ts:List (IC×Int)) (t:IC×Int):SC r (ts++[t])=ins r t.1 (aX t.2) (SC r ts):=by simp [SC]
def srt (l:List (IC×AN)):Prop:=l.Pairwise fun a b=>PV a.1 b.1
theorem iF {r:Int} {k:IC} {v:AN}:∀ {l:List (IC×AN)} {p:IC×AN},p∈ins r k v l→p.1=k∨∃ q∈l,q.1=p.1
  | [],p,h=>by simp [ins] at h; simp [h]
  | q :: l,p,h=>by
    unfold ins at h
    split at h
    · rcases List.mem_cons.1 h with rfl | h
      · exact .inr ⟨p,by simp,rfl⟩
      · rcases iF h with h | ⟨x,hx,e⟩
        · exact .inl h
        · exact .inr ⟨x,by simp [hx],e⟩
    · split at h
      · rcases List.mem_cons.1 h with rfl | h
        · exact .inl rfl
        · exact .inr ⟨p,by simp [h],rfl⟩
      · rcases List.mem_cons.1 h with rfl | h
        · exact .inl rfl
        · exact .inr ⟨p,h,rfl⟩
theorem mR {r:Int} {k:IC} {v:AN}:∀ {l:List (IC×AN)},srt l→srt (ins r k v l)
  | [],_=>by simp [ins,srt]
  | p :: l,h=>by
    unfold srt at h
    rw [List.pairwise_cons] at h
    unfold ins
    split
    · rename_i hk
      refine List.pairwise_cons.2 ⟨fun q hq=>?_,mR h.2⟩
      rcases iF hq with e | ⟨x,hx,e⟩
      · rw [e]; exact hk
      · rw [←e]; exact h.1 x hx
    · rename_i hk
      split
      · rename_i e
        subst e
        exact List.pairwise_cons.2 ⟨fun q hq=>h.1 q hq,h.2⟩
      · rename_i e
        have:=gF hk e
        exact List.pairwise_cons.2 ⟨fun q hq=>by
          rcases List.mem_cons.1 hq with rfl | hq
          · exact this
          · exact MT this (h.1 q hq),List.pairwise_cons.2 h⟩
theorem mS (r:Int) (ts:List (IC×Int)):srt (SC r ts):=by
  unfold SC
  suffices ∀ (ts:List (IC×Int)) (l:List (IC×AN)),srt l→srt (ts.foldl (fun l t=>ins r t.1 (aX t.2) l) l) from this ts [] .nil
  intro ts
  induction ts with
  | nil=>intro l h; exact h
  | cons t ts ih=>intro l h; exact ih _ (mR h)
theorem iG {l:List (IC×AN)} (h:srt l):FQ l:=by
  unfold FQ
  rw [List.nodup_iff_pairwise_ne,List.pairwise_map]
  exact List.Pairwise.imp (R:=fun a b:IC×AN=>PV a.1 b.1) (fun {a b} hab (e:a.1=b.1)=>FC b.1 (by rw [e] at hab; exact hab)) h
theorem vC (r:Int) (k:IC) (v:AN):∀ l:List (IC×AN),(ins r k v l).length≤l.length+1
  | []=>by simp [ins]
  | p :: l=>by
    unfold ins
    have:=vC r k v l
    split
    · simp; omega
    · split <;> simp
theorem vD {r:Int} {k:IC} {v:AN} (hv:NJ v):∀ {l:List (IC×AN)},(∀ p∈l,NJ p.2)→∀ p∈ins r k v l,NJ p.2
  | [],_,p,h=>by simp [ins] at h; rw [h]; exact hv
  | q :: l,hl,p,h=>by
    unfold ins at h
    split at h
    · rcases List.mem_cons.1 h with rfl | h
      · exact hl _ (by simp)
      · exact vD hv (fun x hx=>hl x (by simp [hx])) p h
    · split at h
      · rcases List.mem_cons.1 h with rfl | h
        · exact VA (hl q (by simp)) hv
        · exact hl p (by simp [h])
      · rcases List.mem_cons.1 h with rfl | h
        · exact hv
        · exact hl p h
theorem WD (r:Int):∀ (ts:List (IC×Int)),(∀ t∈ts,HJ t.2)→(SC r ts).length≤ts.length∧∀ p∈SC r ts,NJ p.2:=by
  suffices ∀ (ts:List (IC×Int)) (l:List (IC×AN)),(∀ t∈ts,HJ t.2)→(∀ p∈l,NJ p.2)→(ts.foldl (fun l t=>ins r t.1 (aX t.2) l) l).length≤l.length+ts.length∧∀ p∈ts.foldl (fun l t=>ins r t.1 (aX t.2) l) l,NJ p.2 from
    fun ts h=>by simpa [SC] using this ts [] h (by simp)
  intro ts
  induction ts with
  | nil=>intro l _ h; exact ⟨by simp,h⟩
  | cons t ts ih=>
    intro l ht h
    have:=ih (ins r t.1 (aX t.2) l) (fun x hx=>ht x (by simp [hx])) (vD (mO (ht t (by simp))) h)
    have h2:=vC r t.1 (aX t.2) l
    exact ⟨by simp only [List.foldl_cons,List.length_cons]; omega,this.2⟩
theorem zG {p:IC×AN} {l:List (IC×AN)} {k:IC} (h:srt (p :: l)) (hk:PV k p.1):BS k (p :: l)=none:=by
  apply YG
  intro hm
  obtain ⟨q,hq,e⟩:=List.mem_map.1 hm
  rcases List.mem_cons.1 hq with rfl | hq
  · exact FC k (e▸hk)
  · have h1:=MT hk ((List.pairwise_cons.1 h).1 q hq)
    rw [e] at h1; exact FC k h1
theorem vE {r:Int} {k:IC} {v:AN} (k':IC):∀ {l:List (IC×AN)},srt l→BS k' (ins r k v l)=if k'=k then some (match BS k l with | some w=>GN r w v | none=>v) else BS k' l
  | [],_=>by simp only [ins,BS]
  | p :: l,h=>by
    have ih:=vE (r:=r) (k:=k) (v:=v) k' (List.pairwise_cons.1 h).2
    unfold ins
    split
    · rename_i hk
      have hne:¬k=p.1:=fun e=>FC k (by rw [←e] at hk; exact hk)
      simp only [BS,ih,if_neg hne]
      by_cases e:k'=k
      · subst e; simp [hne]
      · simp [e]
    · rename_i hk
      split
      · rename_i e
        subst e
        simp only [BS,if_true]
        by_cases e:k'=p.1 <;> simp [e]
      · rename_i e
        have hlt:=gF hk e
        rw [zG h hlt]
        simp only [BS]
theorem zH {r:Int} {k:IC} {v:AN} {l:List (IC×AN)} (h:srt l):(ins r k v l).Perm (EY k (match BS k l with | some w=>GN r w v | none=>v) l):=by
  refine kP (iG (mR h)) (GW (iG h) _ _) fun k'=>?_
  rw [vE k' h]
  by_cases e:k'=k
  · subst e; simp [BP]
  · simp [e,BI e]
def PW {α:Type} (l:List (IC×AN)) (mk:IC→Int→α):List α×Int:=if l.all (fun p=>(OT p.2).2) then (l.map (fun p=>mk p.1 (OT p.2).1),0) else ([],12)
def fN (t:AC):IC×Int:=((t.Row,t.Col),t.Val)
def rX (k:IC) (v:Int):AC:=⟨k.1,k.2,v⟩
def kvE (t:DO):IC×Int:=((t.From,t.To),t.W)
def mkE (k:IC) (v:Int):DO:=⟨k.1,k.2,v⟩
theorem vF {α:Type} {ord:α→α→(Int→Prop)→Prop} (cf:α→α→Int) (hc:∀ x y Q,Q (cf x y)→ord x y Q) (hO:SWO (ltOf cf)) {xs zs:List α} {K:List α→Prop} (hl:xs.length≤1000000000000) (hp:xs.Perm zs) (hz:zs.Pairwise fun x y=>cf x y<0) (hK:K zs):uT ord xs K:=by
  refine ⟨cf,fun x y Q=>hc x y Q,hO,by omega,fun ys hys hsorted=>?_⟩
  have hasym:∀ x y,cf x y<0→0≤cf y x:=by
    intro x y h
    rcases Int.lt_or_le (cf y x) 0 with h' | h'
    · have:=hO.trans x y x (by simpa [ltOf] using h) (by simpa [ltOf] using h')
      rw [hO.irrefl] at this; cases this
    · exact h'
  have:ys=zs:=dJ (hys.trans hp) hsorted (hz.imp fun {a b} h=>hasym a b h) fun a b ha hb h1 h2=>by
    have ha:=(hys.trans hp).mem_iff.1 ha
    have hb:=(hys.trans hp).mem_iff.1 hb
    obtain ⟨i,hi,rfl⟩:=List.getElem_of_mem ha
    obtain ⟨j,hj,rfl⟩:=List.getElem_of_mem hb
    rw [List.pairwise_iff_getElem] at hz
    rcases Nat.lt_trichotomy i j with h | h | h
    · have:=hz i j hi hj h; omega
    · subst h; rfl
    · have:=hz j i hj hi h; omega
  rw [this]; exact hK
def cfT (x y:AC):Int:=wR (SQ x.Row y.Row) (SQ x.Col y.Col)
theorem mT (x y:AC):cfT x y<0↔PV (x.Row,x.Col) (y.Row,y.Col):=by
  unfold cfT wR SQ PV
  (repeat' split) <;> simp only <;> omega
theorem AdH {x y:AC} {Q:Int→Prop} (h:Q (cfT x y)):YJ x y Q:=by
  unfold YJ
  exact HO (HO (lB h))
theorem AbP:SWO (ltOf cfT) where
  irrefl x:=by unfold ltOf; simp only [mT]; simp [PV]
  trans x y z h1 h2:=by unfold ltOf at *; simp only [mT,decide_eq_true_eq] at *; exact MT h1 h2
  ntrans x y z h1 h2:=by unfold ltOf at *; simp only [mT,decide_eq_false_iff_not,PV] at *; omega
theorem iH {m d:List (IC×AN)} {l:List (IC×AN)} {α:Type} {mk:IC→Int→α} (hp:d.Perm l) (hd:∀ p∈d,(OT p.2).2=true):PW l mk=(l.map (fun p=>mk p.1 (OT p.2).1),0):=by
  unfold PW
  rw [if_pos]
  rw [List.all_eq_true]
  exact fun p hpm=>hd p (hp.mem_iff.2 hpm)
theorem vG {l:List (IC×AN)} {α:Type} {mk:IC→Int→α} {p:IC×AN} (hp:p∈l) (hd:(OT p.2).2=false):PW l mk=([],12):=by
  unfold PW
  rw [if_neg]
  rw [List.all_eq_true]
  intro h
  rw [h p hp] at hd; cases hd
theorem HE {α β:Type} {f:α→β} {xs:List α} {i:Nat} (h:i<xs.length):(xs.take (i+1)).map f=(xs.take i).map f++[f xs[i]]:=by
  rw [List.take_succ_eq_append_getElem h,List.map_append]; rfl
theorem wT {r:Int} {ts:List AC} {Q:List AC×Int→Prop} (hl:ts.length≤1000000) (hv:∀ t∈ts,HJ t.Val) (hQ:Q (PW (SC r (ts.map fN)) rX)):SE r ts Q:=by
  unfold SE
  have hvk:∀ (i:Nat) t,t∈(ts.take i).map fN→HJ t.2:=by
    intro i t ht
    obtain ⟨x,hx,rfl⟩:=List.mem_map.1 ht
    exact hv x (List.mem_of_mem_take hx)
  refine BE (fun (s:List (IC×AN)) i=>(s,i)) 0 ts.length (by omega) (fun i m=>m.Perm (SC r ((ts.take i).map fN))) (by omega) .nil (fun i m next _ hi hm hn=>?_) (fun m next hm=>?_)
  · have hx:HJ ts[i].Val:=hv _ (List.getElem_mem hi)
    have hk:FQ m:=List.Perm.nodup (hm.symm.map Prod.fst) (iG (mS _ _))
    have hok:=(WD r _ (hvk i)).2
    have hfin:∀ w,(match BS (ts[i].Row,ts[i].Col) m with | some w=>GN r w (aX ts[i].Val) | none=>aX ts[i].Val)=w→(EY (ts[i].Row,ts[i].Col) w m).Perm (SC r ((ts.take (i+1)).map fN)):=by
      intro w hw
      rw [HE hi,mQ,←hw,wM hk hm]
      exact (wL hk hm _ _).trans (zH (mS _ _)).symm
    refine AD (fun _=>?_) (fun h=>by omega)
    refine BH hi (KK hx (ZX (fun w hw=>BM rfl (XS ?_ (mO hx) (hn _ ?_))) (fun hw=>AV rfl (hn _ ?_))))
    · exact hok _ (hm.mem_iff.1 ((HW hk).1 hw))
    · exact hfin _ (by rw [hw])
    · exact hfin _ (by rw [hw])
  · refine AD (fun h=>by omega) (fun _=>?_)
    rw [List.take_length] at hm
    have hpr:=WD r (ts.map fN) (by simpa using hvk ts.length)
    have hsrt:=mS r (ts.map fN)
    generalize SC r (ts.map fN)=l at hm hpr hsrt hQ
    have hll:l.length≤1000000:=by simp at hpr; omega
    refine EC (fun s:List AC×List (IC×AN)=>∃ d,(d++s.2).Perm l∧s.1=d.map (fun p=>rX p.1 (OT p.2).1)∧∀ p∈d,(OT p.2).2=true) (fun s=>s.2.length) ⟨[],by simpa using hm,rfl,by simp⟩ ?_
    rintro ⟨acc,rest⟩ next ⟨d,hd,rfl,hnar⟩ hn
    simp only at hd
    refine eS (fun e=>?_) (fun p rr hp=>?_)
    · subst e
      simp only [List.append_nil] at hd
      refine vF cfT (fun _ _ _=>AdH) AbP (by have:=hd.length_eq; simp; omega) (hd.map _) ?_ ?_
      · rw [List.pairwise_map]
        exact List.Pairwise.imp (R:=fun a b:IC×AN=>PV a.1 b.1) (fun {a b} h=>(mT _ _).2 h) hsrt
      · rw [iH (m:=[]) hd hnar] at hQ; exact hQ
    · have hd2:(d++p :: rr).Perm l:=(List.Perm.append_left d hp.symm).trans hd
      have hpl:p∈l:=hd2.mem_iff.1 (by simp)
      refine lD (hpr.2 p hpl) (CS (fun h=>?_) (fun h=>?_))
      · rw [vG hpl h] at hQ; exact hQ
      · refine BJ ?_ (hn _ ⟨d++[p],by simpa using hd2,by simp [rX],?_⟩ ?_)
        · have:=hd2.length_eq; simp at this ⊢; omega
        · intro q hq
          rcases List.mem_append.1 hq with hq | hq
          · exact hnar q hq
          · simp at hq; subst hq; exact h
        · have:=hp.length_eq; simp at this ⊢; omega
theorem mU {r:Int} {k:IC} {v:AN}:∀ {l:List (IC×AN)} {n:Nat} (hn:n<l.length),(∀ j (hj:j<n),PV (l[j]'(by omega)).1 k)→l[n].1=k→ins r k v l=l.set n (k,GN r l[n].2 v)
  | [],n,hn,_,_=>by simp at hn
  | p :: l,0,hn,_,he=>by
    have he:p.1=k:=he
    subst he
    simp [ins,FC]
  | p :: l,n+1,hn,hl,he=>by
    have h0:PV p.1 k:=hl 0 (by omega)
    have:=mU (r:=r) (v:=v) (l:=l) (n:=n) (by simpa using hn) (fun j hj=>hl (j+1) (by omega)) he
    simp [ins,h0,this]
theorem vH {r:Int} {k:IC} {v:AN}:∀ {l:List (IC×AN)} {n:Nat} (hn:n≤l.length),(∀ j (hj:j<n),PV (l[j]'(by omega)).1 k)→(∀ h:n<l.length,¬PV l[n].1 k∧l[n].1≠k)→ins r k v l=l.take n++(k,v) :: l.drop n
  | [],n,hn,_,_=>by simp [ins]
  | p :: l,0,hn,_,he=>by
    have:=he (by simp)
    simp only [List.getElem_cons_zero] at this
    simp [ins,this.1,this.2]
  | p :: l,n+1,hn,hl,he=>by
    have h0:PV p.1 k:=hl 0 (by omega)
    have:=vH (r:=r) (v:=v) (l:=l) (n:=n) (by simpa using hn) (fun j hj=>hl (j+1) (by omega)) (fun h=>he (by simpa using h))
    simp [ins,h0,this]
theorem pQ {a b:DO} {Q:Bool→Prop} (h:Q (decide (PV (a.From,a.To) (b.From,b.To)))):PP a b Q:=by
  unfold PP
  refine AD (fun h1=>?_) (fun h1=>BU (fun h2=>?_) (fun h2=>?_))
  · rwa [decide_eq_true (by unfold PV; exact .inl h1)] at h
  · rwa [show decide (PV (a.From,a.To) (b.From,b.To))=decide (a.To<b.To) by apply decide_eq_decide.2; simp only [PV]; omega] at h
  · rwa [decide_eq_false (by simp only [PV]; omega)] at h
def e0 (p:IC×AN):DO:=mkE p.1 0
theorem iI {r:Int} {ts:List DO} {Q:List DO×Int→Prop} (hr:1≤r∧r≤5) (hl:ts.length≤1000000) (hv:∀ t∈ts,HJ t.W) (hQ:Q (PW (SC r (ts.map kvE)) mkE)):PD r ts Q:=by
  unfold PD
  refine XT (AV (by simp [hr]) ?_)
  have hvk:∀ (i:Nat) t,t∈(ts.take i).map kvE→HJ t.2:=by
    intro i t ht
    obtain ⟨x,hx,rfl⟩:=List.mem_map.1 ht
    exact hv x (List.mem_of_mem_take hx)
  refine BE (fun (s:List DO×List AN) i=>(s.1,s.2,i)) 0 ts.length (by omega) (fun i s=>s.1=(SC r ((ts.take i).map kvE)).map e0∧s.2=(SC r ((ts.take i).map kvE)).map (·.2)) (s0:=([],[])) (by omega) ⟨rfl,rfl⟩ (fun i s next _ hi hm hn=>?_) (fun s next hm=>?_)
  · obtain ⟨es,ws⟩:=s
    obtain ⟨he,hw⟩:=hm
    simp only at he hw
    have hx:HJ ts[i].W:=hv _ (List.getElem_mem hi)
    have hpr:=WD r _ (hvk i)
    have hstep:SC r ((ts.take (i+1)).map kvE)=ins r (ts[i].From,ts[i].To) (aX ts[i].W) (SC r ((ts.take i).map kvE)):=by rw [HE hi,mQ]; rfl
    simp only [hstep] at hn
    generalize SC r ((ts.take i).map kvE)=l at he hw hpr hn
    subst he hw
    have hll:l.length≤1000000:=by have:=hpr.1; simp at this; omega
    refine AD (fun _=>?_) (fun h=>by omega)
    have hel:∀ (j:Nat) (h:j<l.length),(l.map e0)[j]? = some (e0 l[j]):=fun j h=>by simp [h]
    -- where it goes
    refine ED (fun a:Int=>∃ n:Nat,a=n∧n≤l.length∧(∀ (j:Nat) (hj:j<n) (hjl:j<l.length),PV l[j].1 (ts[i].From,ts[i].To))∧∀ h:n<l.length,¬PV l[n].1 (ts[i].From,ts[i].To)) ?_ fun k hk=>?_
    · rintro _ ⟨n,rfl,hnl,hlt,hge⟩
      have hlt':∀ j (hj:j<n),PV (l[j]'(by omega)).1 (ts[i].From,ts[i].To):=fun j hj=>hlt j hj (by omega)
      refine BH hi (FH hx ?_)
      refine ED (fun b=>b=decide (∃ h:n<l.length,l[n].1=(ts[i].From,ts[i].To))) ?_ fun k hk=>?_
      · rintro _ rfl
        refine AD (fun hb=>?_) (fun hb=>?_)
        · obtain ⟨h,hb⟩:=hb
          refine AO (by omega) (x:=l[n].2) (by simp [h]) (bX (hpr.2 _ (List.getElem_mem h)) (mO hx) (AO (by omega) (x:=l[n].2) (by simp [h]) (hn (l.map e0,(l.map (·.2)).set n (GN r l[n].2 (aX ts[i].W))) ⟨?_,?_⟩)))
          · rw [mU h hlt' hb,List.map_set]
            apply List.ext_getElem?
            intro j
            rw [List.getElem?_set]
            split
            · rename_i e; subst e; simp [h,e0,hb]
            · rfl
          · rw [mU h hlt' hb,List.map_set]
        · have hins:=vH (r:=r) (v:=aX ts[i].W) hnl hlt' (fun h=>⟨hge h,fun e=>hb ⟨h,e⟩⟩)
          rw [hins] at hn
          refine BJ (by simp; omega) (BJ (by simp; omega) ?_)
          refine EC (fun s:List DO×List AN×Int=>∃ j:Nat,s.2.2=j∧n≤j∧j≤l.length∧s.1.length=l.length+1∧s.2.1.length=l.length+1∧(∀ q,q<j→s.1[q]? = (l.map e0)[q]?∧s.2.1[q]? = (l.map (·.2))[q]?)∧∀ q,j≤q→q<l.length→s.1[q+1]? = (l.map e0)[q]?∧s.2.1[q+1]? = (l.map (·.2))[q]?)
            (fun s=>s.2.2.toNat) ⟨l.length,?_,hnl,Nat.le_refl _,by simp,by simp,fun q hq=>?_,fun q h1 h2=>by omega⟩ ?_
          · simp only; rw [AX (by simp <;> omega) (by simp <;> omega)]; simp
          · simp only; rw [List.getElem?_append_left (by simpa using hq),List.getElem?_append_left (by simpa using hq)]; exact ⟨rfl,rfl⟩
          rintro ⟨s1,s2,s3⟩ next ⟨j,hj,hnj,hjl,hl1,hl2,hlo,hhi⟩ hnx
          simp only at hj hl1 hl2 hlo hhi
          subst hj
          refine AD (fun h=>?_) (fun h=>?_)
          · obtain ⟨j,rfl⟩:∃ m,j=m+1:=⟨j - 1,by omega⟩
            have hjm:j<l.length:=by omega
            have ej:AJ (((j+1:Nat):Int) - 1)=(j:Int):=by rw [AX (by omega) (by omega)]; omega
            rw [ej]
            refine AO (by omega) (x:=e0 l[j]) (by simp only [Int.toNat_natCast]; rw [(hlo j (by omega)).1,hel j hjm]) (BH (i:=j+1) (by omega) (AO (by omega) (x:=l[j].2) (by simp only [Int.toNat_natCast]; rw [(hlo j (by omega)).2]; simp [hjm]) (BH (i:=j+1) (by omega) (hnx _ ⟨j,rfl,by omega,by omega,by simp [hl1],by simp [hl2],fun q hq=>?_,fun q h1 h2=>?_⟩ ?_))))
            · simp only [Int.toNat_natCast]
              rw [List.getElem?_set_ne (by omega),List.getElem?_set_ne (by omega)]
              exact hlo q (by omega)
            · simp only [Int.toNat_natCast]
              rw [List.getElem?_set,List.getElem?_set]
              by_cases e:q=j
              · subst e; rw [if_pos rfl,if_pos (by omega),if_pos rfl,if_pos (by omega)]; simp [hjm]
              · rw [if_neg (by omega),if_neg (by omega)]; exact hhi q (by omega) h2
            · simp only; omega
          · have hjn:j=n:=by omega
            subst hjn
            refine BH hi (BH hi (BH (by omega) (BH (by omega) (hn (s1.set j (mkE (ts[i].From,ts[i].To) 0),s2.set j (aX ts[i].W)) ⟨?_,?_⟩))))
            · simp only [Int.toNat_natCast,List.map_append,List.map_cons]
              have:=gZ (pre:=(l.take j).map e0) (post:=(l.drop j).map e0) (s:=s1) (x:=e0 ((ts[i].From,ts[i].To),aX ts[i].W)) (by simp [hl1]; omega) (fun q hq=>?_) (fun q hq=>?_)
              · simp only [List.length_map,List.length_take,Nat.min_eq_left hnl] at this; exact this
              · simp only [List.length_map,List.length_take,Nat.min_eq_left hnl] at hq
                rw [(hlo q hq).1]; simp [hq]
              · simp only [List.length_map,List.length_take,List.length_drop,Nat.min_eq_left hnl] at hq ⊢
                rw [show j+1+q=j+q+1 by omega,(hhi (j+q) (by omega) (by omega)).1]; simp
            · simp only [Int.toNat_natCast,List.map_append,List.map_cons]
              have:=gZ (pre:=(l.take j).map (·.2)) (post:=(l.drop j).map (·.2)) (s:=s2) (x:=aX ts[i].W) (by simp [hl2]; omega) (fun q hq=>?_) (fun q hq=>?_)
              · simp only [List.length_map,List.length_take,Nat.min_eq_left hnl] at this; exact this
              · simp only [List.length_map,List.length_take,Nat.min_eq_left hnl] at hq
                rw [(hlo q hq).2]; simp [hq]
              · simp only [List.length_map,List.length_take,List.length_drop,Nat.min_eq_left hnl] at hq ⊢
                rw [show j+1+q=j+q+1 by omega,(hhi (j+q) (by omega) (by omega)).2]; simp
      · refine AD (fun h=>?_) (fun h=>hk _ ?_)
        · have h:n<l.length:=by simpa using h
          refine BH hi (AO (by omega) (x:=e0 l[n]) (by simpa using hel n h) (pQ (hk _ ?_)))
          have hg:=hge h
          have e1:((e0 l[n]).From,(e0 l[n]).To)=l[n].1:=rfl
          rw [e1]
          by_cases e:l[n].1=(ts[i].From,ts[i].To)
          · rw [decide_eq_true (p:=∃ h:n<l.length,l[n].1=_) ⟨h,e⟩,e,decide_eq_false (FC _)]; rfl
          · rw [decide_eq_false (p:=∃ h:n<l.length,l[n].1=_) (fun ⟨_,e'⟩=>e e'),decide_eq_true (gF hg e)]; rfl
        · rw [decide_eq_false]
          rintro ⟨h',_⟩
          simp at h; omega
    · refine EO l.length (by omega) (fun n=>∀ (j:Nat) (hj:j<n) (hjl:j<l.length),PV l[j].1 (ts[i].From,ts[i].To)) (by simp) (fun j next hj hR hnx=>?_) (fun next hR=>?_)
      · refine AD (fun _=>?_) (fun h=>by simp at h; omega)
        refine AO (by omega) (x:=e0 l[j]) (by simpa using hel j hj) (BH hi (pQ (AD (fun h=>hnx fun q hq hql=>?_) (fun h=>hk _ ⟨j,rfl,by omega,hR,fun _=>h⟩))))
        by_cases e:q=j
        · subst e; exact h
        · exact hR q (by omega) hql
      · refine AD (fun h=>by simp at h) (fun _=>hk _ ⟨l.length,rfl,Nat.le_refl _,hR,fun h=>by omega⟩)
  · obtain ⟨es,ws⟩:=s
    obtain ⟨he,hw⟩:=hm
    simp only at he hw
    rw [List.take_length] at he hw
    refine AD (fun h=>by omega) (fun _=>?_)
    have hpr:=WD r (ts.map kvE) (by simpa using hvk ts.length)
    generalize SC r (ts.map kvE)=l at he hw hpr hQ
    subst he hw
    have hll:l.length≤1000000:=by have:=hpr.1; simp at this; omega
    refine BE (fun (s:List DO) i=>(s,i)) 0 l.length (by omega) (fun i s=>s=(l.take i).map (fun p=>mkE p.1 (OT p.2).1)++(l.drop i).map e0∧∀ p∈l.take i,(OT p.2).2=true) (by omega) ⟨by simp,by simp⟩ (fun i s next _ hi hm hn=>?_) (fun s next hm=>?_)
    · obtain ⟨rfl,hnar⟩:=hm
      refine AD (fun _=>?_) (fun h=>by simp at h; omega)
      refine AO (by omega) (x:=l[i].2) (by simp [hi]) (fM (hpr.2 _ (List.getElem_mem hi)) (CS (fun h=>?_) (fun h=>?_)))
      · rw [vG (List.getElem_mem hi) h] at hQ; exact hQ
      · have hdr:l.drop i=l[i] :: l.drop (i+1):=by rw [List.drop_eq_getElem_cons hi]
        have hlen:((l.take i).map (fun p=>mkE p.1 (OT p.2).1)).length=i:=by simp; omega
        refine AO (by omega) (x:=e0 l[i]) ?_ (hn _ ⟨?_,?_⟩)
        · rw [hdr,Int.toNat_natCast,List.getElem?_append_right (by omega),hlen,Nat.sub_self]; rfl
        · rw [hdr,Int.toNat_natCast,List.set_append,if_neg (by omega),hlen,HE hi,Nat.sub_self,List.append_assoc]; rfl
        · intro p hp
          rw [List.take_succ_eq_append_getElem hi] at hp
          rcases List.mem_append.1 hp with hp | hp
          · exact hnar p hp
          · simp at hp; subst hp; exact h
    · obtain ⟨rfl,hnar⟩:=hm
      refine AD (fun h=>by simp at h) (fun _=>?_)
      rw [iH (m:=[]) (.refl l) (by simpa using hnar)] at hQ
      simpa using hQ
end Go.Proofs.YtbohadngdkjljaaGreat
