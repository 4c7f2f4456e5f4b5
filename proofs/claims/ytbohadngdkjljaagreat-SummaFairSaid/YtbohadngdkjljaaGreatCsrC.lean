import Derived.Test.YtbohadngdkjljaaGreatT
import Derived.Test.YtbohadngdkjljaaGreatFwQ
namespace Go.Proofs.YtbohadngdkjljaaGreat
open Go Go.Fw
set_option linter.unusedVariables false
set_option linter.unusedSimpArgs false
def SN (x y:Int):Int:=if x<y then -1 else if y<x then 1 else 0
theorem HM {x y:Int} {Q:Int→Prop} (h:Q (SN x y)):CZ x y Q:=by
  unfold CZ HJ
  unfold SN at h
  refine AV (by simp) (AV (by simp) (AB (fun h1=>?_) (fun h1=>AB (fun h2=>?_) (fun h2=>?_))))
  · rwa [if_pos h1] at h
  · rwa [if_neg h1,if_pos h2] at h
  · rwa [if_neg h1,if_neg h2] at h
theorem mS {x y:Int} {Q:Int→Prop} (h:Q (SN x y)):JG x y Q:=by
  unfold JG LS
  unfold SN at h
  refine AV (by simp) (AV (by simp) (AB (fun h1=>?_) (fun h1=>AB (fun h2=>?_) (fun h2=>?_))))
  · rwa [if_pos h1] at h
  · rwa [if_neg h1,if_pos h2] at h
  · rwa [if_neg h1,if_neg h2] at h
theorem jS {x y:Int} {Q:Int→Prop} (h:Q (SN x y)):IG x y Q:=by
  unfold IG KO
  unfold SN at h
  refine AV (by simp) (AV (by simp) (AB (fun h1=>?_) (fun h1=>AB (fun h2=>?_) (fun h2=>?_))))
  · rwa [if_pos h1] at h
  · rwa [if_neg h1,if_pos h2] at h
  · rwa [if_neg h1,if_neg h2] at h
def wT (x y:Int):Int:=if x=0 then y else x
theorem lC {x y:Int} {Q:Int→Prop} (h:Q (wT x y)):KA [x,y] Q:=by
  unfold KA
  unfold wT at h
  refine EB 2 (by omega) (fun i=>(0<i→x=0)∧(1<i→y=0)) ⟨by omega,by omega⟩ (fun i next hi hR hn=>?_) (fun next hR=>?_)
  · refine AB (fun _=>?_) (fun h=>by simp at h; omega)
    match i,hi with
    | 0,_=>exact AP (by omega) (x:=x) rfl (DI (fun e=>by rwa [if_neg e] at h) (fun e=>hn ⟨fun _=>e,by omega⟩))
    | 1,_=>exact AP (by omega) (x:=y) rfl (DI (fun e=>by rwa [if_pos (hR.1 (by omega))] at h) (fun e=>hn ⟨fun _=>hR.1 (by omega),fun _=>e⟩))
  · refine AB (fun h=>by simp at h) (fun _=>?_)
    rwa [if_pos (hR.1 (by omega)),hR.2 (by omega)] at h
def NL (a:AN):Prop:=-9223372036854775808≤a.Hi∧a.Hi≤9223372036854775807∧0≤a.Lo∧a.Lo≤18446744073709551615
def GL (x:Int):Prop:=-9223372036854775808≤x∧x≤9223372036854775807
def WP (a b:AN):Prop:=a.Hi<b.Hi∨(a.Hi=b.Hi∧a.Lo≤b.Lo)
instance (a b:AN):Decidable (WP a b):=by unfold WP; infer_instance
theorem OS (x:Int):IntKind.wrap .u64 x=x % 18446744073709551616:=by
  simp [IntKind.wrap,IntKind.bits,IntKind.signed]
theorem GM (x:Int):AJ x=(x+9223372036854775808) % 18446744073709551616 - 9223372036854775808:=by
  show IntKind.wrap .i64 x=_
  rw [IntKind.wrap_i64]
def aS (v:Int):AN:=⟨if v<0 then -1 else 0,v % 18446744073709551616⟩
theorem mT {v:Int} (h:GL v):NL (aS v):=by unfold aS NL; unfold GL at h; simp only; split <;> omega
theorem AeP {v:Int} (h:GL v):shr .i64 v 63=if v<0 then -1 else 0:=by
  unfold GL at h
  show v.fdiv (2 ^ 63)=_
  rw [Int.fdiv_eq_ediv_of_nonneg _ (by decide)]
  split
  · rw [show (2:Int) ^ 63=9223372036854775808 from rfl]; omega
  · rw [show (2:Int) ^ 63=9223372036854775808 from rfl]; omega
theorem KF {v:Int} {Q:AN→Prop} (h:GL v) (hQ:Q (aS v)):NG v Q:=by
  unfold NG; rw [AeP h,OS]; exact hQ
theorem FH {v:Int} {Q:AN→Prop} (h:GL v) (hQ:Q (aS v)):GX v Q:=by
  unfold GX; unfold aS at hQ
  refine AB (fun h1=>?_) (fun h1=>?_)
  · rw [if_pos h1] at hQ; rwa [OS]
  · rw [if_neg h1] at hQ; rwa [OS]
theorem pU {a b:AN} {Q:Int→Prop} (hQ:Q (wT (SN a.Hi b.Hi) (SN a.Lo b.Lo))):QN a b Q:=by
  unfold QN
  exact mS (jS (lC hQ))
theorem lD {a b:AN} {Q:AN→Prop} (hQ:Q (if WP a b then a else b)):PN a b Q:=by
  unfold PN
  refine pU (AB (fun h=>?_) (fun h=>?_))
  · rwa [if_pos] at hQ
    unfold WP; unfold wT SN at h
    (repeat' split at h) <;> omega
  · rwa [if_neg] at hQ
    unfold WP; unfold wT SN at h
    (repeat' split at h) <;> omega
theorem LH {a b:AN} (h1:a.Hi=b.Hi) (h2:a.Lo=b.Lo):a=b:=by cases a; cases b; simp_all
theorem mU {a b:AN} {Q:Int→Prop} (h1:¬WP b a→Q (-1)) (h2:WP b a→∀ x:Int,0≤x→Q x):HI a b Q:=by
  unfold HI
  refine EA (fun _=>WP b a) (fun _ hb=>BR (fun _=>h2 hb 0 (by omega)) (fun _=>h2 hb 1 (by omega))) fun k hk=>?_
  refine AB (fun h=>h1 ?_) (fun h=>BR (fun e=>AB (fun h'=>h1 ?_) (fun h'=>hk () ?_)) (fun e=>hk () ?_))
  all_goals (unfold WP; omega)
def GN (r:Int) (a b:AN):AN:=
  if r=1∨r=3∨r=4 then (if WP a b then a else b)
  else if r=2 then (if a=⟨0,0⟩∧b=⟨0,0⟩ then ⟨0,0⟩ else ⟨0,1⟩)
  else if r=5 then ⟨AJ (a.Hi+b.Hi+(if 18446744073709551616≤a.Lo+b.Lo then 1 else 0)),(a.Lo+b.Lo) % 18446744073709551616⟩
  else ⟨0,0⟩
theorem UY {r:Int} {a b:AN} (ha:NL a) (hb:NL b):NL (GN r a b):=by
  unfold GN
  split
  · split <;> assumption
  · split
    · split <;> (unfold NL; simp)
    · split
      · unfold NL at *; simp only [GM]; omega
      · unfold NL; simp
theorem bS {b:Bool} {Q:AN→Prop} (hQ:Q (if b then ⟨0,1⟩ else ⟨0,0⟩)):MB b Q:=by
  unfold MB
  refine ⟨fun h=>KF (by unfold GL; omega) ?_,fun h=>?_⟩
  · subst h; exact hQ
  · subst h; exact hQ
theorem NM {b:Bool} {Q:AN→Prop} (hQ:Q (if b then ⟨0,1⟩ else ⟨0,0⟩)):JY b Q:=by
  unfold JY
  refine ⟨fun h=>?_,fun h=>?_⟩
  · subst h; exact hQ
  · subst h; exact hQ
theorem eX {a b:AN} {Q:AN→Prop} (ha:NL a) (hb:NL b) (hQ:Q (GN 5 a b)):XL a b Q:=by
  unfold XL SA
  have e:GN 5 a b=⟨AJ (a.Hi+b.Hi+(if 18446744073709551616≤a.Lo+b.Lo then 1 else 0)),(a.Lo+b.Lo) % 18446744073709551616⟩:=rfl
  rw [e] at hQ
  unfold NL at ha hb
  simp only [OS,GM] at hQ ⊢
  refine AB (fun h=>?_) (fun h=>?_)
  · rw [if_pos (by omega)] at hQ
    have:((a.Hi % 18446744073709551616+b.Hi % 18446744073709551616) % 18446744073709551616+1) % 18446744073709551616=(a.Hi+b.Hi+1) % 18446744073709551616:=by omega
    rw [this]
    have:((a.Hi+b.Hi+1) % 18446744073709551616+9223372036854775808) % 18446744073709551616=(a.Hi+b.Hi+1+9223372036854775808) % 18446744073709551616:=by omega
    rw [this]; exact hQ
  · rw [if_neg (by omega)] at hQ
    have:((a.Hi % 18446744073709551616+b.Hi % 18446744073709551616) % 18446744073709551616+0) % 18446744073709551616=(a.Hi+b.Hi+0) % 18446744073709551616:=by omega
    rw [this]
    have:((a.Hi+b.Hi+0) % 18446744073709551616+9223372036854775808) % 18446744073709551616=(a.Hi+b.Hi+0+9223372036854775808) % 18446744073709551616:=by omega
    rw [this]; exact hQ
theorem KR {a b:AN} {Q:AN→Prop} (ha:NL a) (hb:NL b) (hQ:Q (GN 5 a b)):KN a b Q:=by
  unfold KN
  have e:GN 5 a b=⟨AJ (a.Hi+b.Hi+(if 18446744073709551616≤a.Lo+b.Lo then 1 else 0)),(a.Lo+b.Lo) % 18446744073709551616⟩:=rfl
  rw [e] at hQ
  unfold NL at ha hb
  simp only [OS,GM] at hQ ⊢
  refine AB (fun h=>?_) (fun h=>?_)
  · rw [if_pos (by omega)] at hQ
    have:((a.Hi+b.Hi+9223372036854775808) % 18446744073709551616 - 9223372036854775808+1+9223372036854775808) % 18446744073709551616=(a.Hi+b.Hi+1+9223372036854775808) % 18446744073709551616:=by omega
    rw [this]; exact hQ
  · rw [if_neg (by omega)] at hQ
    rwa [show a.Hi+b.Hi+0=a.Hi+b.Hi by omega] at hQ
theorem XQ {r:Int} {a b:AN} {Q:AN→Prop} (ha:NL a) (hb:NL b) (hQ:Q (GN r a b)):UV r a b Q:=by
  unfold UV
  refine EA (fun t=>t=decide (r=1∨r=3∨r=4)) (fun t ht=>?_) fun k hk=>?_
  · subst ht
    refine AB (fun h=>lD ?_) (fun h=>BR (fun h2=>?_) (fun h2=>BR (fun h5=>eX ha hb ?_) (fun h5=>?_)))
    · unfold GN at hQ; rwa [if_pos h] at hQ
    · subst h2
      unfold GN at hQ
      rw [if_neg h,if_pos rfl] at hQ
      refine CN (fun hne=>bS ?_) (fun he=>bS ?_)
      · rw [if_neg] at hQ
        · exact hQ
        · rintro ⟨e1,e2⟩; subst e1 e2; simp at hne
      · have he:a=b:=by simpa using he
        subst he
        by_cases e:a=⟨0,0⟩
        · rw [if_pos ⟨e,e⟩] at hQ; simpa [e] using hQ
        · rw [if_neg (fun h=>e h.1)] at hQ; simpa [e] using hQ
    · subst h5; exact hQ
    · unfold GN at hQ; rwa [if_neg h,if_neg h2,if_neg h5] at hQ
  · refine BR (fun h=>hk _ ?_) (fun h=>BR (fun h3=>hk _ ?_) (fun h3=>hk _ ?_))
    · simp [h]
    · simp [h3]
    · by_cases h4:r=4 <;> simp [h,h3,h4]
theorem bT {r:Int} {a b:AN} {Q:AN→Prop} (ha:NL a) (hb:NL b) (hQ:Q (GN r a b)):UR r a b Q:=by
  unfold UR
  refine EA (fun t=>t=decide (r=1∨r=3∨r=4)) (fun t ht=>?_) fun k hk=>?_
  · subst ht
    refine AB (fun h=>mU (fun h1=>AB (fun _=>?_) (fun h=>by omega)) (fun h1 x hx=>AB (fun h=>by omega) (fun _=>?_))) (fun h=>BR (fun h2=>?_) (fun h2=>BR (fun h5=>KR ha hb ?_) (fun h5=>?_)))
    · unfold GN at hQ; rwa [if_pos h,if_neg h1] at hQ
    · unfold GN at hQ; rwa [if_pos h,if_pos h1] at hQ
    · subst h2
      unfold GN at hQ
      rw [if_neg h,if_pos rfl] at hQ
      refine CN (fun hne=>NM ?_) (fun he=>NM ?_)
      · rw [if_neg] at hQ
        · exact hQ
        · rintro ⟨e1,e2⟩; subst e1; simp at hne
      · have he:a=⟨0,0⟩:=by simpa using he
        subst he
        by_cases e:b=⟨0,0⟩
        · rw [if_pos ⟨rfl,e⟩] at hQ; simpa [e] using hQ
        · rw [if_neg (fun h=>e h.2)] at hQ; simpa [e] using hQ
    · subst h5; exact hQ
    · unfold GN at hQ; rwa [if_neg h,if_neg h2,if_neg h5] at hQ
  · refine BR (fun h=>hk _ ?_) (fun h=>BR (fun h3=>hk _ ?_) (fun h3=>hk _ ?_))
    · simp [h]
    · simp [h3]
    · by_cases h4:r=4 <;> simp [h,h3,h4]
def NA (a:AN):Int×Bool:=if (a.Hi=0∧a.Lo≤9223372036854775807)∨(a.Hi = -1∧9223372036854775808≤a.Lo) then (AJ a.Lo,true) else (0,false)
theorem lE {r:Int} {a:AN} {Q:Int×Bool→Prop} (ha:NL a) (hQ:Q (NA a)):MK r a Q:=by
  unfold MK XM
  unfold NL at ha
  unfold NA at hQ
  refine KF (by unfold GL; rw [GM]; omega) (CN (fun h=>?_) (fun h=>?_))
  · rw [if_neg] at hQ
    · exact hQ
    · intro h'
      simp only [beq_eq_false_iff_ne,ne_eq] at h
      apply h
      apply LH <;> simp only [aS,GM] <;> (try split) <;> omega
  · have h:aS (AJ a.Lo)=a:=by simpa using h
    rw [if_pos] at hQ
    · exact hQ
    · rw [←h]
      simp only [aS,GM]
      split <;> omega
theorem WQ {a:AN} {Q:Int×Bool→Prop} (ha:NL a) (hQ:Q (NA a)):NE a Q:=by
  unfold NE
  unfold NL at ha
  have hy (h:(a.Hi=0∧a.Lo≤9223372036854775807)∨(a.Hi = -1∧9223372036854775808≤a.Lo)):Q (AJ a.Lo,true):=by unfold NA at hQ; rwa [if_pos h] at hQ
  have hn (h:¬((a.Hi=0∧a.Lo≤9223372036854775807)∨(a.Hi = -1∧9223372036854775808≤a.Lo))):Q (0,false):=by unfold NA at hQ; rwa [if_neg h] at hQ
  refine BR (fun h=>AB (fun h1=>hy ?_) (fun h1=>BR (fun h2=>by omega) (fun h2=>hn ?_))) (fun h=>BR (fun h1=>AB (fun h2=>hy ?_) (fun h2=>hn ?_)) (fun h1=>hn ?_))
  all_goals (try rw [GM] at h1); (try rw [GM] at h2); omega
theorem MD {r:Int} {Q:Bool→Prop} (hQ:Q (decide (1≤r∧r≤5))):QL r Q:=by
  unfold QL
  refine AB (fun h=>?_) (fun h=>?_)
  · rwa [show decide (r<6)=decide (1≤r∧r≤5) by apply decide_eq_decide.2; omega]
  · rwa [show decide (1≤r∧r≤5)=false by apply decide_eq_false; omega] at hQ
theorem TQ {r:Int} {Q:Bool→Prop} (hQ:Q (decide (1≤r∧r≤5))):RU r Q:=by
  unfold RU
  refine AB (fun h=>?_) (fun h=>?_)
  · rwa [show decide (r≤5)=decide (1≤r∧r≤5) by apply decide_eq_decide.2; omega]
  · rwa [show decide (1≤r∧r≤5)=false by apply decide_eq_false; omega] at hQ
open Go Go.Fw Go.Sort Go.Shelf
abbrev HZ:=Int×Int
def PF (a b:HZ):Prop:=a.1<b.1∨(a.1=b.1∧a.2<b.2)
instance (a b:HZ):Decidable (PF a b):=by unfold PF; infer_instance
theorem MP {a b c:HZ} (h1:PF a b) (h2:PF b c):PF a c:=by unfold PF at *; omega
theorem EX (a:HZ):¬PF a a:=by unfold PF; omega
theorem gB {a b:HZ} (h1:¬PF a b) (h2:a≠b):PF b a:=by
  obtain ⟨a1,a2⟩:=a; obtain ⟨b1,b2⟩:=b
  unfold PF at *
  simp only [ne_eq,Prod.mk.injEq] at *
  omega
def ins (r:Int) (k:HZ) (v:AN):List (HZ×AN)→List (HZ×AN)
  | []=>[(k,v)]
  | p :: l=>if PF p.1 k then p :: ins r k v l else if p.1=k then (k,GN r p.2 v) :: l else (k,v) :: p :: l
def SC (r:Int) (ts:List (HZ×Int)):List (HZ×AN):=ts.foldl (fun l t=>ins r t.1 (aS t.2) l) []
theorem mV (r:Int) (ts:List (HZ×Int)) (t:HZ×Int):SC r (ts++[t])=ins r t.1 (aS t.2) (SC r ts):=by simp [SC]
def srt (l:List (HZ×AN)):Prop:=l.Pairwise fun a b=>PF a.1 b.1
theorem iB {r:Int} {k:HZ} {v:AN}:∀ {l:List (HZ×AN)} {p:HZ×AN},p∈ins r k v l→p.1=k∨∃ q∈l,q.1=p.1
  | [],p,h=>by simp [ins] at h; simp [h]
  | q :: l,p,h=>by
    unfold ins at h
    split at h
    · rcases List.mem_cons.1 h with rfl | h
      · exact .inr ⟨p,by simp,rfl⟩
      · rcases iB h with h | ⟨x,hx,e⟩
        · exact .inl h
        · exact .inr ⟨x,by simp [hx],e⟩
    · split at h
      · rcases List.mem_cons.1 h with rfl | h
        · exact .inl rfl
        · exact .inr ⟨p,by simp [h],rfl⟩
      · rcases List.mem_cons.1 h with rfl | h
        · exact .inl rfl
        · exact .inr ⟨p,h,rfl⟩
theorem mW {r:Int} {k:HZ} {v:AN}:∀ {l:List (HZ×AN)},srt l→srt (ins r k v l)
  | [],_=>by simp [ins,srt]
  | p :: l,h=>by
    unfold srt at h
    rw [List.pairwise_cons] at h
    unfold ins
    split
    · rename_i hk
      refine List.pairwise_cons.2 ⟨fun q hq=>?_,mW h.2⟩
      rcases iB hq with e | ⟨x,hx,e⟩
      · rw [e]; exact hk
      · rw [←e]; exact h.1 x hx
    · rename_i hk
      split
      · rename_i e
        subst e
        exact List.pairwise_cons.2 ⟨fun q hq=>h.1 q hq,h.2⟩
      · rename_i e
        have:=gB hk e
        exact List.pairwise_cons.2 ⟨fun q hq=>by
          rcases List.mem_cons.1 hq with rfl | hq
          · exact this
          · exact MP this (h.1 q hq),List.pairwise_cons.2 h⟩
theorem mX (r:Int) (ts:List (HZ×Int)):srt (SC r ts):=by
  unfold SC
  suffices ∀ (ts:List (HZ×Int)) (l:List (HZ×AN)),srt l→srt (ts.foldl (fun l t=>ins r t.1 (aS t.2) l) l) from this ts [] .nil
  intro ts
  induction ts with
  | nil=>intro l h; exact h
  | cons t ts ih=>intro l h; exact ih _ (mW h)
theorem iC {l:List (HZ×AN)} (h:srt l):FP l:=by
  unfold FP
  rw [List.nodup_iff_pairwise_ne,List.pairwise_map]
  exact List.Pairwise.imp (R:=fun a b:HZ×AN=>PF a.1 b.1) (fun {a b} hab (e:a.1=b.1)=>EX b.1 (by rw [e] at hab; exact hab)) h
theorem uY (r:Int) (k:HZ) (v:AN):∀ l:List (HZ×AN),(ins r k v l).length≤l.length+1
  | []=>by simp [ins]
  | p :: l=>by
    unfold ins
    have:=uY r k v l
    split
    · simp; omega
    · split <;> simp
theorem uZ {r:Int} {k:HZ} {v:AN} (hv:NL v):∀ {l:List (HZ×AN)},(∀ p∈l,NL p.2)→∀ p∈ins r k v l,NL p.2
  | [],_,p,h=>by simp [ins] at h; rw [h]; exact hv
  | q :: l,hl,p,h=>by
    unfold ins at h
    split at h
    · rcases List.mem_cons.1 h with rfl | h
      · exact hl _ (by simp)
      · exact uZ hv (fun x hx=>hl x (by simp [hx])) p h
    · split at h
      · rcases List.mem_cons.1 h with rfl | h
        · exact UY (hl q (by simp)) hv
        · exact hl p (by simp [h])
      · rcases List.mem_cons.1 h with rfl | h
        · exact hv
        · exact hl p h
theorem VZ (r:Int):∀ (ts:List (HZ×Int)),(∀ t∈ts,GL t.2)→(SC r ts).length≤ts.length∧∀ p∈SC r ts,NL p.2:=by
  suffices ∀ (ts:List (HZ×Int)) (l:List (HZ×AN)),(∀ t∈ts,GL t.2)→(∀ p∈l,NL p.2)→(ts.foldl (fun l t=>ins r t.1 (aS t.2) l) l).length≤l.length+ts.length∧∀ p∈ts.foldl (fun l t=>ins r t.1 (aS t.2) l) l,NL p.2 from
    fun ts h=>by simpa [SC] using this ts [] h (by simp)
  intro ts
  induction ts with
  | nil=>intro l _ h; exact ⟨by simp,h⟩
  | cons t ts ih=>
    intro l ht h
    have:=ih (ins r t.1 (aS t.2) l) (fun x hx=>ht x (by simp [hx])) (uZ (mT (ht t (by simp))) h)
    have h2:=uY r t.1 (aS t.2) l
    exact ⟨by simp only [List.foldl_cons,List.length_cons]; omega,this.2⟩
theorem zG {p:HZ×AN} {l:List (HZ×AN)} {k:HZ} (h:srt (p :: l)) (hk:PF k p.1):BT k (p :: l)=none:=by
  apply YD
  intro hm
  obtain ⟨q,hq,e⟩:=List.mem_map.1 hm
  rcases List.mem_cons.1 hq with rfl | hq
  · exact EX k (e▸hk)
  · have h1:=MP hk ((List.pairwise_cons.1 h).1 q hq)
    rw [e] at h1; exact EX k h1
theorem vC {r:Int} {k:HZ} {v:AN} (k':HZ):∀ {l:List (HZ×AN)},srt l→BT k' (ins r k v l)=if k'=k then some (match BT k l with | some w=>GN r w v | none=>v) else BT k' l
  | [],_=>by simp only [ins,BT]
  | p :: l,h=>by
    have ih:=vC (r:=r) (k:=k) (v:=v) k' (List.pairwise_cons.1 h).2
    unfold ins
    split
    · rename_i hk
      have hne:¬k=p.1:=fun e=>EX k (by rw [←e] at hk; exact hk)
      simp only [BT,ih,if_neg hne]
      by_cases e:k'=k
      · subst e; simp [hne]
      · simp [e]
    · rename_i hk
      split
      · rename_i e
        subst e
        simp only [BT,if_true]
        by_cases e:k'=p.1 <;> simp [e]
      · rename_i e
        have hlt:=gB hk e
        rw [zG h hlt]
        simp only [BT]
theorem zH {r:Int} {k:HZ} {v:AN} {l:List (HZ×AN)} (h:srt l):(ins r k v l).Perm (ET k (match BT k l with | some w=>GN r w v | none=>v) l):=by
  refine kQ (iC (mW h)) (GW (iC h) _ _) fun k'=>?_
  rw [vC k' h]
  by_cases e:k'=k
  · subst e; simp [BQ]
  · simp [e,BH e]
def PT {α:Type} (l:List (HZ×AN)) (mk:HZ→Int→α):List α×Int:=if l.all (fun p=>(NA p.2).2) then (l.map (fun p=>mk p.1 (NA p.2).1),0) else ([],12)
def fM (t:AC):HZ×Int:=((t.Row,t.Col),t.Val)
def sH (k:HZ) (v:Int):AC:=⟨k.1,k.2,v⟩
def kvE (t:DO):HZ×Int:=((t.From,t.To),t.W)
def mkE (k:HZ) (v:Int):DO:=⟨k.1,k.2,v⟩
theorem vD {α:Type} {ord:α→α→(Int→Prop)→Prop} (cf:α→α→Int) (hc:∀ x y Q,Q (cf x y)→ord x y Q) (hO:SWO (ltOf cf)) {xs zs:List α} {K:List α→Prop} (hl:xs.length≤1000000000000) (hp:xs.Perm zs) (hz:zs.Pairwise fun x y=>cf x y<0) (hK:K zs):uS ord xs K:=by
  refine ⟨cf,fun x y Q=>hc x y Q,hO,by omega,fun ys hys hsorted=>?_⟩
  have hasym:∀ x y,cf x y<0→0≤cf y x:=by
    intro x y h
    rcases Int.lt_or_le (cf y x) 0 with h' | h'
    · have:=hO.trans x y x (by simpa [ltOf] using h) (by simpa [ltOf] using h')
      rw [hO.irrefl] at this; cases this
    · exact h'
  have:ys=zs:=dI (hys.trans hp) hsorted (hz.imp fun {a b} h=>hasym a b h) fun a b ha hb h1 h2=>by
    have ha:=(hys.trans hp).mem_iff.1 ha
    have hb:=(hys.trans hp).mem_iff.1 hb
    obtain ⟨i,hi,rfl⟩:=List.getElem_of_mem ha
    obtain ⟨j,hj,rfl⟩:=List.getElem_of_mem hb
    rw [List.pairwise_iff_getElem] at hz
    rcases Nat.lt_trichotomy i j with h | h | h
    · have:=hz i j hi hj h; omega
    · subst h; rfl
    · have:=hz j i hj hi h; omega
  rw [this]; exact hK
def cfT (x y:AC):Int:=wT (SN x.Row y.Row) (SN x.Col y.Col)
theorem mY (x y:AC):cfT x y<0↔PF (x.Row,x.Col) (y.Row,y.Col):=by
  unfold cfT wT SN PF
  (repeat' split) <;> simp only <;> omega
theorem AdA {x y:AC} {Q:Int→Prop} (h:Q (cfT x y)):YG x y Q:=by
  unfold YG
  exact HM (HM (lC h))
theorem AbL:SWO (ltOf cfT) where
  irrefl x:=by unfold ltOf; simp only [mY]; simp [PF]
  trans x y z h1 h2:=by unfold ltOf at *; simp only [mY,decide_eq_true_eq] at *; exact MP h1 h2
  ntrans x y z h1 h2:=by unfold ltOf at *; simp only [mY,decide_eq_false_iff_not,PF] at *; omega
theorem iD {m d:List (HZ×AN)} {l:List (HZ×AN)} {α:Type} {mk:HZ→Int→α} (hp:d.Perm l) (hd:∀ p∈d,(NA p.2).2=true):PT l mk=(l.map (fun p=>mk p.1 (NA p.2).1),0):=by
  unfold PT
  rw [if_pos]
  rw [List.all_eq_true]
  exact fun p hpm=>hd p (hp.mem_iff.2 hpm)
theorem vE {l:List (HZ×AN)} {α:Type} {mk:HZ→Int→α} {p:HZ×AN} (hp:p∈l) (hd:(NA p.2).2=false):PT l mk=([],12):=by
  unfold PT
  rw [if_neg]
  rw [List.all_eq_true]
  intro h
  rw [h p hp] at hd; cases hd
theorem HC {α β:Type} {f:α→β} {xs:List α} {i:Nat} (h:i<xs.length):(xs.take (i+1)).map f=(xs.take i).map f++[f xs[i]]:=by
  rw [List.take_succ_eq_append_getElem h,List.map_append]; rfl
theorem wU {r:Int} {ts:List AC} {Q:List AC×Int→Prop} (hl:ts.length≤1000000) (hv:∀ t∈ts,GL t.Val) (hQ:Q (PT (SC r (ts.map fM)) sH)):SB r ts Q:=by
  unfold SB
  have hvk:∀ (i:Nat) t,t∈(ts.take i).map fM→GL t.2:=by
    intro i t ht
    obtain ⟨x,hx,rfl⟩:=List.mem_map.1 ht
    exact hv x (List.mem_of_mem_take hx)
  refine BB (fun (s:List (HZ×AN)) i=>(s,i)) 0 ts.length (by omega) (fun i m=>m.Perm (SC r ((ts.take i).map fM))) (by omega) .nil (fun i m next _ hi hm hn=>?_) (fun m next hm=>?_)
  · have hx:GL ts[i].Val:=hv _ (List.getElem_mem hi)
    have hk:FP m:=List.Perm.nodup (hm.symm.map Prod.fst) (iC (mX _ _))
    have hok:=(VZ r _ (hvk i)).2
    have hfin:∀ w,(match BT (ts[i].Row,ts[i].Col) m with | some w=>GN r w (aS ts[i].Val) | none=>aS ts[i].Val)=w→(ET (ts[i].Row,ts[i].Col) w m).Perm (SC r ((ts.take (i+1)).map fM)):=by
      intro w hw
      rw [HC hi,mV,←hw,wN hk hm]
      exact (wM hk hm _ _).trans (zH (mX _ _)).symm
    refine AB (fun _=>?_) (fun h=>by omega)
    refine BA hi (KF hx (ZY (fun w hw=>BJ rfl (XQ ?_ (mT hx) (hn _ ?_))) (fun hw=>AV rfl (hn _ ?_))))
    · exact hok _ (hm.mem_iff.1 ((HT hk).1 hw))
    · exact hfin _ (by rw [hw])
    · exact hfin _ (by rw [hw])
  · refine AB (fun h=>by omega) (fun _=>?_)
    rw [List.take_length] at hm
    have hpr:=VZ r (ts.map fM) (by simpa using hvk ts.length)
    have hsrt:=mX r (ts.map fM)
    generalize SC r (ts.map fM)=l at hm hpr hsrt hQ
    have hll:l.length≤1000000:=by simp at hpr; omega
    refine DZ (fun s:List AC×List (HZ×AN)=>∃ d,(d++s.2).Perm l∧s.1=d.map (fun p=>sH p.1 (NA p.2).1)∧∀ p∈d,(NA p.2).2=true) (fun s=>s.2.length) ⟨[],by simpa using hm,rfl,by simp⟩ ?_
    rintro ⟨acc,rest⟩ next ⟨d,hd,rfl,hnar⟩ hn
    simp only at hd
    refine eT (fun e=>?_) (fun p rr hp=>?_)
    · subst e
      simp only [List.append_nil] at hd
      refine vD cfT (fun _ _ _=>AdA) AbL (by have:=hd.length_eq; simp; omega) (hd.map _) ?_ ?_
      · rw [List.pairwise_map]
        exact List.Pairwise.imp (R:=fun a b:HZ×AN=>PF a.1 b.1) (fun {a b} h=>(mY _ _).2 h) hsrt
      · rw [iD (m:=[]) hd hnar] at hQ; exact hQ
    · have hd2:(d++p :: rr).Perm l:=(List.Perm.append_left d hp.symm).trans hd
      have hpl:p∈l:=hd2.mem_iff.1 (by simp)
      refine lE (hpr.2 p hpl) (CN (fun h=>?_) (fun h=>?_))
      · rw [vE hpl h] at hQ; exact hQ
      · refine BK ?_ (hn _ ⟨d++[p],by simpa using hd2,by simp [sH],?_⟩ ?_)
        · have:=hd2.length_eq; simp at this ⊢; omega
        · intro q hq
          rcases List.mem_append.1 hq with hq | hq
          · exact hnar q hq
          · simp at hq; subst hq; exact h
        · have:=hp.length_eq; simp at this ⊢; omega
theorem mZ {r:Int} {k:HZ} {v:AN}:∀ {l:List (HZ×AN)} {n:Nat} (hn:n<l.length),(∀ j (hj:j<n),PF (l[j]'(by omega)).1 k)→l[n].1=k→ins r k v l=l.set n (k,GN r l[n].2 v)
  | [],n,hn,_,_=>by simp at hn
  | p :: l,0,hn,_,he=>by
    have he:p.1=k:=he
    subst he
    simp [ins,EX]
  | p :: l,n+1,hn,hl,he=>by
    have h0:PF p.1 k:=hl 0 (by omega)
    have:=mZ (r:=r) (v:=v) (l:=l) (n:=n) (by simpa using hn) (fun j hj=>hl (j+1) (by omega)) he
    simp [ins,h0,this]
theorem vF {r:Int} {k:HZ} {v:AN}:∀ {l:List (HZ×AN)} {n:Nat} (hn:n≤l.length),(∀ j (hj:j<n),PF (l[j]'(by omega)).1 k)→(∀ h:n<l.length,¬PF l[n].1 k∧l[n].1≠k)→ins r k v l=l.take n++(k,v) :: l.drop n
  | [],n,hn,_,_=>by simp [ins]
  | p :: l,0,hn,_,he=>by
    have:=he (by simp)
    simp only [List.getElem_cons_zero] at this
    simp [ins,this.1,this.2]
  | p :: l,n+1,hn,hl,he=>by
    have h0:PF p.1 k:=hl 0 (by omega)
    have:=vF (r:=r) (v:=v) (l:=l) (n:=n) (by simpa using hn) (fun j hj=>hl (j+1) (by omega)) (fun h=>he (by simpa using h))
    simp [ins,h0,this]
theorem pV {a b:DO} {Q:Bool→Prop} (h:Q (decide (PF (a.From,a.To) (b.From,b.To)))):PM a b Q:=by
  unfold PM
  refine AB (fun h1=>?_) (fun h1=>BR (fun h2=>?_) (fun h2=>?_))
  · rwa [decide_eq_true (by unfold PF; exact .inl h1)] at h
  · rwa [show decide (PF (a.From,a.To) (b.From,b.To))=decide (a.To<b.To) by apply decide_eq_decide.2; simp only [PF]; omega] at h
  · rwa [decide_eq_false (by simp only [PF]; omega)] at h
def e0 (p:HZ×AN):DO:=mkE p.1 0
theorem iE {r:Int} {ts:List DO} {Q:List DO×Int→Prop} (hr:1≤r∧r≤5) (hl:ts.length≤1000000) (hv:∀ t∈ts,GL t.W) (hQ:Q (PT (SC r (ts.map kvE)) mkE)):PC r ts Q:=by
  unfold PC
  refine TQ (AV (by simp [hr]) ?_)
  have hvk:∀ (i:Nat) t,t∈(ts.take i).map kvE→GL t.2:=by
    intro i t ht
    obtain ⟨x,hx,rfl⟩:=List.mem_map.1 ht
    exact hv x (List.mem_of_mem_take hx)
  refine BB (fun (s:List DO×List AN) i=>(s.1,s.2,i)) 0 ts.length (by omega) (fun i s=>s.1=(SC r ((ts.take i).map kvE)).map e0∧s.2=(SC r ((ts.take i).map kvE)).map (·.2)) (s0:=([],[])) (by omega) ⟨rfl,rfl⟩ (fun i s next _ hi hm hn=>?_) (fun s next hm=>?_)
  · obtain ⟨es,ws⟩:=s
    obtain ⟨he,hw⟩:=hm
    simp only at he hw
    have hx:GL ts[i].W:=hv _ (List.getElem_mem hi)
    have hpr:=VZ r _ (hvk i)
    have hstep:SC r ((ts.take (i+1)).map kvE)=ins r (ts[i].From,ts[i].To) (aS ts[i].W) (SC r ((ts.take i).map kvE)):=by rw [HC hi,mV]; rfl
    simp only [hstep] at hn
    generalize SC r ((ts.take i).map kvE)=l at he hw hpr hn
    subst he hw
    have hll:l.length≤1000000:=by have:=hpr.1; simp at this; omega
    refine AB (fun _=>?_) (fun h=>by omega)
    have hel:∀ (j:Nat) (h:j<l.length),(l.map e0)[j]? = some (e0 l[j]):=fun j h=>by simp [h]
    -- where it goes
    refine EA (fun a:Int=>∃ n:Nat,a=n∧n≤l.length∧(∀ (j:Nat) (hj:j<n) (hjl:j<l.length),PF l[j].1 (ts[i].From,ts[i].To))∧∀ h:n<l.length,¬PF l[n].1 (ts[i].From,ts[i].To)) ?_ fun k hk=>?_
    · rintro _ ⟨n,rfl,hnl,hlt,hge⟩
      have hlt':∀ j (hj:j<n),PF (l[j]'(by omega)).1 (ts[i].From,ts[i].To):=fun j hj=>hlt j hj (by omega)
      refine BA hi (FH hx ?_)
      refine EA (fun b=>b=decide (∃ h:n<l.length,l[n].1=(ts[i].From,ts[i].To))) ?_ fun k hk=>?_
      · rintro _ rfl
        refine AB (fun hb=>?_) (fun hb=>?_)
        · obtain ⟨h,hb⟩:=hb
          refine AP (by omega) (x:=l[n].2) (by simp [h]) (bT (hpr.2 _ (List.getElem_mem h)) (mT hx) (AP (by omega) (x:=l[n].2) (by simp [h]) (hn (l.map e0,(l.map (·.2)).set n (GN r l[n].2 (aS ts[i].W))) ⟨?_,?_⟩)))
          · rw [mZ h hlt' hb,List.map_set]
            apply List.ext_getElem?
            intro j
            rw [List.getElem?_set]
            split
            · rename_i e; subst e; simp [h,e0,hb]
            · rfl
          · rw [mZ h hlt' hb,List.map_set]
        · have hins:=vF (r:=r) (v:=aS ts[i].W) hnl hlt' (fun h=>⟨hge h,fun e=>hb ⟨h,e⟩⟩)
          rw [hins] at hn
          refine BK (by simp; omega) (BK (by simp; omega) ?_)
          refine DZ (fun s:List DO×List AN×Int=>∃ j:Nat,s.2.2=j∧n≤j∧j≤l.length∧s.1.length=l.length+1∧s.2.1.length=l.length+1∧(∀ q,q<j→s.1[q]? = (l.map e0)[q]?∧s.2.1[q]? = (l.map (·.2))[q]?)∧∀ q,j≤q→q<l.length→s.1[q+1]? = (l.map e0)[q]?∧s.2.1[q+1]? = (l.map (·.2))[q]?)
            (fun s=>s.2.2.toNat) ⟨l.length,?_,hnl,Nat.le_refl _,by simp,by simp,fun q hq=>?_,fun q h1 h2=>by omega⟩ ?_
          · simp only; rw [AZ (by simp <;> omega) (by simp <;> omega)]; simp
          · simp only; rw [List.getElem?_append_left (by simpa using hq),List.getElem?_append_left (by simpa using hq)]; exact ⟨rfl,rfl⟩
          rintro ⟨s1,s2,s3⟩ next ⟨j,hj,hnj,hjl,hl1,hl2,hlo,hhi⟩ hnx
          simp only at hj hl1 hl2 hlo hhi
          subst hj
          refine AB (fun h=>?_) (fun h=>?_)
          · obtain ⟨j,rfl⟩:∃ m,j=m+1:=⟨j - 1,by omega⟩
            have hjm:j<l.length:=by omega
            have ej:AJ (((j+1:Nat):Int) - 1)=(j:Int):=by rw [AZ (by omega) (by omega)]; omega
            rw [ej]
            refine AP (by omega) (x:=e0 l[j]) (by simp only [Int.toNat_natCast]; rw [(hlo j (by omega)).1,hel j hjm]) (BA (i:=j+1) (by omega) (AP (by omega) (x:=l[j].2) (by simp only [Int.toNat_natCast]; rw [(hlo j (by omega)).2]; simp [hjm]) (BA (i:=j+1) (by omega) (hnx _ ⟨j,rfl,by omega,by omega,by simp [hl1],by simp [hl2],fun q hq=>?_,fun q h1 h2=>?_⟩ ?_))))
            · simp only [Int.toNat_natCast]
              rw [List.getElem?_set_ne (by omega),List.getElem?_set_ne (by omega)]
              exact hlo q (by omega)
            · simp only [Int.toNat_natCast]
              rw [List.getElem?_set,List.getElem?_set]
              by_cases e:q=j
              · subst e; rw [if_pos rfl,if_pos (by omega),if_pos rfl,if_pos (by omega)]; simp [hjm]
              · rw [if_neg (by omega),if_neg (by omega)]; exact hhi q (by omega) h2
            · simp only; omega
          · have hjn:j=n:=by omega
            subst hjn
            refine BA hi (BA hi (BA (by omega) (BA (by omega) (hn (s1.set j (mkE (ts[i].From,ts[i].To) 0),s2.set j (aS ts[i].W)) ⟨?_,?_⟩))))
            · simp only [Int.toNat_natCast,List.map_append,List.map_cons]
              have:=gW (pre:=(l.take j).map e0) (post:=(l.drop j).map e0) (s:=s1) (x:=e0 ((ts[i].From,ts[i].To),aS ts[i].W)) (by simp [hl1]; omega) (fun q hq=>?_) (fun q hq=>?_)
              · simp only [List.length_map,List.length_take,Nat.min_eq_left hnl] at this; exact this
              · simp only [List.length_map,List.length_take,Nat.min_eq_left hnl] at hq
                rw [(hlo q hq).1]; simp [hq]
              · simp only [List.length_map,List.length_take,List.length_drop,Nat.min_eq_left hnl] at hq ⊢
                rw [show j+1+q=j+q+1 by omega,(hhi (j+q) (by omega) (by omega)).1]; simp
            · simp only [Int.toNat_natCast,List.map_append,List.map_cons]
              have:=gW (pre:=(l.take j).map (·.2)) (post:=(l.drop j).map (·.2)) (s:=s2) (x:=aS ts[i].W) (by simp [hl2]; omega) (fun q hq=>?_) (fun q hq=>?_)
              · simp only [List.length_map,List.length_take,Nat.min_eq_left hnl] at this; exact this
              · simp only [List.length_map,List.length_take,Nat.min_eq_left hnl] at hq
                rw [(hlo q hq).2]; simp [hq]
              · simp only [List.length_map,List.length_take,List.length_drop,Nat.min_eq_left hnl] at hq ⊢
                rw [show j+1+q=j+q+1 by omega,(hhi (j+q) (by omega) (by omega)).2]; simp
      · refine AB (fun h=>?_) (fun h=>hk _ ?_)
        · have h:n<l.length:=by simpa using h
          refine BA hi (AP (by omega) (x:=e0 l[n]) (by simpa using hel n h) (pV (hk _ ?_)))
          have hg:=hge h
          have e1:((e0 l[n]).From,(e0 l[n]).To)=l[n].1:=rfl
          rw [e1]
          by_cases e:l[n].1=(ts[i].From,ts[i].To)
          · rw [decide_eq_true (p:=∃ h:n<l.length,l[n].1=_) ⟨h,e⟩,e,decide_eq_false (EX _)]; rfl
          · rw [decide_eq_false (p:=∃ h:n<l.length,l[n].1=_) (fun ⟨_,e'⟩=>e e'),decide_eq_true (gB hg e)]; rfl
        · rw [decide_eq_false]
          rintro ⟨h',_⟩
          simp at h; omega
    · refine EB l.length (by omega) (fun n=>∀ (j:Nat) (hj:j<n) (hjl:j<l.length),PF l[j].1 (ts[i].From,ts[i].To)) (by simp) (fun j next hj hR hnx=>?_) (fun next hR=>?_)
      · refine AB (fun _=>?_) (fun h=>by simp at h; omega)
        refine AP (by omega) (x:=e0 l[j]) (by simpa using hel j hj) (BA hi (pV (AB (fun h=>hnx fun q hq hql=>?_) (fun h=>hk _ ⟨j,rfl,by omega,hR,fun _=>h⟩))))
        by_cases e:q=j
        · subst e; exact h
        · exact hR q (by omega) hql
      · refine AB (fun h=>by simp at h) (fun _=>hk _ ⟨l.length,rfl,Nat.le_refl _,hR,fun h=>by omega⟩)
  · obtain ⟨es,ws⟩:=s
    obtain ⟨he,hw⟩:=hm
    simp only at he hw
    rw [List.take_length] at he hw
    refine AB (fun h=>by omega) (fun _=>?_)
    have hpr:=VZ r (ts.map kvE) (by simpa using hvk ts.length)
    generalize SC r (ts.map kvE)=l at he hw hpr hQ
    subst he hw
    have hll:l.length≤1000000:=by have:=hpr.1; simp at this; omega
    refine BB (fun (s:List DO) i=>(s,i)) 0 l.length (by omega) (fun i s=>s=(l.take i).map (fun p=>mkE p.1 (NA p.2).1)++(l.drop i).map e0∧∀ p∈l.take i,(NA p.2).2=true) (by omega) ⟨by simp,by simp⟩ (fun i s next _ hi hm hn=>?_) (fun s next hm=>?_)
    · obtain ⟨rfl,hnar⟩:=hm
      refine AB (fun _=>?_) (fun h=>by simp at h; omega)
      refine AP (by omega) (x:=l[i].2) (by simp [hi]) (WQ (hpr.2 _ (List.getElem_mem hi)) (CN (fun h=>?_) (fun h=>?_)))
      · rw [vE (List.getElem_mem hi) h] at hQ; exact hQ
      · have hdr:l.drop i=l[i] :: l.drop (i+1):=by rw [List.drop_eq_getElem_cons hi]
        have hlen:((l.take i).map (fun p=>mkE p.1 (NA p.2).1)).length=i:=by simp; omega
        refine AP (by omega) (x:=e0 l[i]) ?_ (hn _ ⟨?_,?_⟩)
        · rw [hdr,Int.toNat_natCast,List.getElem?_append_right (by omega),hlen,Nat.sub_self]; rfl
        · rw [hdr,Int.toNat_natCast,List.set_append,if_neg (by omega),hlen,HC hi,Nat.sub_self,List.append_assoc]; rfl
        · intro p hp
          rw [List.take_succ_eq_append_getElem hi] at hp
          rcases List.mem_append.1 hp with hp | hp
          · exact hnar p hp
          · simp at hp; subst hp; exact h
    · obtain ⟨rfl,hnar⟩:=hm
      refine AB (fun h=>by simp at h) (fun _=>?_)
      rw [iD (m:=[]) (.refl l) (by simpa using hnar)] at hQ
      simpa using hQ
end Go.Proofs.YtbohadngdkjljaaGreat
