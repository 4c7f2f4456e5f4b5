import Derived.Test.YtaefnmlbnkmahaaGreatT
import Derived.Test.YtaefnmlbnkmahaaGreatFwQ
namespace Go.Proofs.YtaefnmlbnkmahaaGreat
open Go Go.Fw
set_option linter.unusedVariables false
set_option linter.unusedSimpArgs false
def cmpc (x y:Int):Int:=if x<y then -1 else if y<x then 1 else 0
theorem cmp_int_ok {x y:Int} {Q:Int→Prop} (h:Q (cmpc x y)):cmp_Compare_int x y Q:=by
  unfold cmp_Compare_int cmp_isNaN_int
  unfold cmpc at h
  refine ifP_neg (by simp) (ifP_neg (by simp) (ifP_dec (fun h1=>?_) (fun h1=>ifP_dec (fun h2=>?_) (fun h2=>?_))))
  · rwa [if_pos h1] at h
  · rwa [if_neg h1,if_pos h2] at h
  · rwa [if_neg h1,if_neg h2] at h
theorem cmp_int64_ok {x y:Int} {Q:Int→Prop} (h:Q (cmpc x y)):cmp_Compare_int64 x y Q:=by
  unfold cmp_Compare_int64 cmp_isNaN_int64
  unfold cmpc at h
  refine ifP_neg (by simp) (ifP_neg (by simp) (ifP_dec (fun h1=>?_) (fun h1=>ifP_dec (fun h2=>?_) (fun h2=>?_))))
  · rwa [if_pos h1] at h
  · rwa [if_neg h1,if_pos h2] at h
  · rwa [if_neg h1,if_neg h2] at h
theorem cmp_uint64_ok {x y:Int} {Q:Int→Prop} (h:Q (cmpc x y)):cmp_Compare_uint64 x y Q:=by
  unfold cmp_Compare_uint64 cmp_isNaN_uint64
  unfold cmpc at h
  refine ifP_neg (by simp) (ifP_neg (by simp) (ifP_dec (fun h1=>?_) (fun h1=>ifP_dec (fun h2=>?_) (fun h2=>?_))))
  · rwa [if_pos h1] at h
  · rwa [if_neg h1,if_pos h2] at h
  · rwa [if_neg h1,if_neg h2] at h
def or2 (x y:Int):Int:=if x=0 then y else x
theorem or_ok {x y:Int} {Q:Int→Prop} (h:Q (or2 x y)):cmp_Or_int [x,y] Q:=by
  unfold cmp_Or_int
  unfold or2 at h
  refine scan_intro 2 (by omega) (fun i=>(0<i→x=0)∧(1<i→y=0)) ⟨by omega,by omega⟩ (fun i next hi hR hn=>?_) (fun next hR=>?_)
  · refine ifP_dec (fun _=>?_) (fun h=>by simp at h; omega)
    match i,hi with
    | 0,_=>exact idxP_intro (by omega) (x:=x) rfl (ifP_ne (fun e=>by rwa [if_neg e] at h) (fun e=>hn ⟨fun _=>e,by omega⟩))
    | 1,_=>exact idxP_intro (by omega) (x:=y) rfl (ifP_ne (fun e=>by rwa [if_pos (hR.1 (by omega))] at h) (fun e=>hn ⟨fun _=>hR.1 (by omega),fun _=>e⟩))
  · refine ifP_dec (fun h=>by simp at h) (fun _=>?_)
    rwa [if_pos (hR.1 (by omega)),hR.2 (by omega)] at h
def okW (a:Wide):Prop:=-9223372036854775808≤a.Hi∧a.Hi≤9223372036854775807∧0≤a.Lo∧a.Lo≤18446744073709551615
def inI (x:Int):Prop:=-9223372036854775808≤x∧x≤9223372036854775807
def leW (a b:Wide):Prop:=a.Hi<b.Hi∨(a.Hi=b.Hi∧a.Lo≤b.Lo)
instance (a b:Wide):Decidable (leW a b):=by unfold leW; infer_instance
theorem u64_eq (x:Int):IntKind.wrap .u64 x=x % 18446744073709551616:=by
  simp [IntKind.wrap,IntKind.bits,IntKind.signed]
theorem w64_eq (x:Int):w64 x=(x+9223372036854775808) % 18446744073709551616 - 9223372036854775808:=by
  show IntKind.wrap .i64 x=_
  rw [IntKind.wrap_i64]
def ofI (v:Int):Wide:=⟨if v<0 then -1 else 0,v % 18446744073709551616⟩
theorem ofI_okW {v:Int} (h:inI v):okW (ofI v):=by unfold ofI okW; unfold inI at h; simp only; split <;> omega
theorem shr63 {v:Int} (h:inI v):shr .i64 v 63=if v<0 then -1 else 0:=by
  unfold inI at h
  show v.fdiv (2 ^ 63)=_
  rw [Int.fdiv_eq_ediv_of_nonneg _ (by decide)]
  split
  · rw [show (2:Int) ^ 63=9223372036854775808 from rfl]; omega
  · rw [show (2:Int) ^ 63=9223372036854775808 from rfl]; omega
theorem wide_Of_ok {v:Int} {Q:Wide→Prop} (h:inI v) (hQ:Q (ofI v)):wide_Of v Q:=by
  unfold wide_Of; rw [shr63 h,u64_eq]; exact hQ
theorem wide_cmp_ok {a b:Wide} {Q:Int→Prop} (hQ:Q (or2 (cmpc a.Hi b.Hi) (cmpc a.Lo b.Lo))):wide_Compare a b Q:=by
  unfold wide_Compare
  exact cmp_int64_ok (cmp_uint64_ok (or_ok hQ))
theorem lesser_ok {a b:Wide} {Q:Wide→Prop} (hQ:Q (if leW a b then a else b)):ring_lesser a b Q:=by
  unfold ring_lesser
  refine wide_cmp_ok (ifP_dec (fun h=>?_) (fun h=>?_))
  · rwa [if_pos] at hQ
    unfold leW; unfold or2 cmpc at h
    (repeat' split at h) <;> omega
  · rwa [if_neg] at hQ
    unfold leW; unfold or2 cmpc at h
    (repeat' split at h) <;> omega
theorem wide_eta {a b:Wide} (h1:a.Hi=b.Hi) (h2:a.Lo=b.Lo):a=b:=by cases a; cases b; simp_all
theorem ref01_cmp_ok {a b:Wide} {Q:Int→Prop} (h1:¬leW b a→Q (-1)) (h2:leW b a→∀ x:Int,0≤x→Q x):ref01_Compare a b Q:=by
  unfold ref01_Compare
  refine join_intro (fun _=>leW b a) (fun _ hb=>ifP_eq (fun _=>h2 hb 0 (by omega)) (fun _=>h2 hb 1 (by omega))) fun k hk=>?_
  refine ifP_dec (fun h=>h1 ?_) (fun h=>ifP_eq (fun e=>ifP_dec (fun h'=>h1 ?_) (fun h'=>hk () ?_)) (fun e=>hk () ?_))
  all_goals (unfold leW; omega)
def addW (r:Int) (a b:Wide):Wide:=
  if r=1∨r=3∨r=4 then (if leW a b then a else b)
  else if r=2 then (if a=⟨0,0⟩∧b=⟨0,0⟩ then ⟨0,0⟩ else ⟨0,1⟩)
  else if r=5 then ⟨w64 (a.Hi+b.Hi+(if 18446744073709551616≤a.Lo+b.Lo then 1 else 0)),(a.Lo+b.Lo) % 18446744073709551616⟩
  else ⟨0,0⟩
theorem addW_okW {r:Int} {a b:Wide} (ha:okW a) (hb:okW b):okW (addW r a b):=by
  unfold addW
  split
  · split <;> assumption
  · split
    · split <;> (unfold okW; simp)
    · split
      · unfold okW at *; simp only [w64_eq]; omega
      · unfold okW; simp
theorem truth_ok {b:Bool} {Q:Wide→Prop} (hQ:Q (if b then ⟨0,1⟩ else ⟨0,0⟩)):ring_truth b Q:=by
  unfold ring_truth
  refine ⟨fun h=>wide_Of_ok (by unfold inI; omega) ?_,fun h=>?_⟩
  · subst h; exact hQ
  · subst h; exact hQ
theorem ref02_truth_ok {b:Bool} {Q:Wide→Prop} (hQ:Q (if b then ⟨0,1⟩ else ⟨0,0⟩)):ref02_truth b Q:=by
  unfold ref02_truth
  refine ⟨fun h=>?_,fun h=>?_⟩
  · subst h; exact hQ
  · subst h; exact hQ
theorem wide_Add_ok {a b:Wide} {Q:Wide→Prop} (ha:okW a) (hb:okW b) (hQ:Q (addW 5 a b)):wide_Add a b Q:=by
  unfold wide_Add wide_carry
  have e:addW 5 a b=⟨w64 (a.Hi+b.Hi+(if 18446744073709551616≤a.Lo+b.Lo then 1 else 0)),(a.Lo+b.Lo) % 18446744073709551616⟩:=rfl
  rw [e] at hQ
  unfold okW at ha hb
  simp only [u64_eq,w64_eq] at hQ ⊢
  refine ifP_dec (fun h=>?_) (fun h=>?_)
  · rw [if_pos (by omega)] at hQ
    have:((a.Hi % 18446744073709551616+b.Hi % 18446744073709551616) % 18446744073709551616+1) % 18446744073709551616=(a.Hi+b.Hi+1) % 18446744073709551616:=by omega
    rw [this]
    have:((a.Hi+b.Hi+1) % 18446744073709551616+9223372036854775808) % 18446744073709551616=(a.Hi+b.Hi+1+9223372036854775808) % 18446744073709551616:=by omega
    rw [this]; exact hQ
  · rw [if_neg (by omega)] at hQ
    have:((a.Hi % 18446744073709551616+b.Hi % 18446744073709551616) % 18446744073709551616+0) % 18446744073709551616=(a.Hi+b.Hi+0) % 18446744073709551616:=by omega
    rw [this]
    have:((a.Hi+b.Hi+0) % 18446744073709551616+9223372036854775808) % 18446744073709551616=(a.Hi+b.Hi+0+9223372036854775808) % 18446744073709551616:=by omega
    rw [this]; exact hQ
theorem ref01_Add_ok {a b:Wide} {Q:Wide→Prop} (ha:okW a) (hb:okW b) (hQ:Q (addW 5 a b)):ref01_Add a b Q:=by
  unfold ref01_Add
  have e:addW 5 a b=⟨w64 (a.Hi+b.Hi+(if 18446744073709551616≤a.Lo+b.Lo then 1 else 0)),(a.Lo+b.Lo) % 18446744073709551616⟩:=rfl
  rw [e] at hQ
  unfold okW at ha hb
  simp only [u64_eq,w64_eq] at hQ ⊢
  refine ifP_dec (fun h=>?_) (fun h=>?_)
  · rw [if_pos (by omega)] at hQ
    have:((a.Hi+b.Hi+9223372036854775808) % 18446744073709551616 - 9223372036854775808+1+9223372036854775808) % 18446744073709551616=(a.Hi+b.Hi+1+9223372036854775808) % 18446744073709551616:=by omega
    rw [this]; exact hQ
  · rw [if_neg (by omega)] at hQ
    rwa [show a.Hi+b.Hi+0=a.Hi+b.Hi by omega] at hQ
theorem ring_Add_ok {r:Int} {a b:Wide} {Q:Wide→Prop} (ha:okW a) (hb:okW b) (hQ:Q (addW r a b)):ring_Add r a b Q:=by
  unfold ring_Add
  refine join_intro (fun t=>t=decide (r=1∨r=3∨r=4)) (fun t ht=>?_) fun k hk=>?_
  · subst ht
    refine ifP_dec (fun h=>lesser_ok ?_) (fun h=>ifP_eq (fun h2=>?_) (fun h2=>ifP_eq (fun h5=>wide_Add_ok ha hb ?_) (fun h5=>?_)))
    · unfold addW at hQ; rwa [if_pos h] at hQ
    · subst h2
      unfold addW at hQ
      rw [if_neg h,if_pos rfl] at hQ
      refine ifP_not (fun hne=>truth_ok ?_) (fun he=>truth_ok ?_)
      · rw [if_neg] at hQ
        · exact hQ
        · rintro ⟨e1,e2⟩; subst e1 e2; simp at hne
      · have he:a=b:=by simpa using he
        subst he
        by_cases e:a=⟨0,0⟩
        · rw [if_pos ⟨e,e⟩] at hQ; simpa [e] using hQ
        · rw [if_neg (fun h=>e h.1)] at hQ; simpa [e] using hQ
    · subst h5; exact hQ
    · unfold addW at hQ; rwa [if_neg h,if_neg h2,if_neg h5] at hQ
  · refine ifP_eq (fun h=>hk _ ?_) (fun h=>ifP_eq (fun h3=>hk _ ?_) (fun h3=>hk _ ?_))
    · simp [h]
    · simp [h3]
    · by_cases h4:r=4 <;> simp [h,h3,h4]
theorem ref02_Add_ok {r:Int} {a b:Wide} {Q:Wide→Prop} (ha:okW a) (hb:okW b) (hQ:Q (addW r a b)):ref02_Add r a b Q:=by
  unfold ref02_Add
  refine join_intro (fun t=>t=decide (r=1∨r=3∨r=4)) (fun t ht=>?_) fun k hk=>?_
  · subst ht
    refine ifP_dec (fun h=>ref01_cmp_ok (fun h1=>ifP_dec (fun _=>?_) (fun h=>by omega)) (fun h1 x hx=>ifP_dec (fun h=>by omega) (fun _=>?_))) (fun h=>ifP_eq (fun h2=>?_) (fun h2=>ifP_eq (fun h5=>ref01_Add_ok ha hb ?_) (fun h5=>?_)))
    · unfold addW at hQ; rwa [if_pos h,if_neg h1] at hQ
    · unfold addW at hQ; rwa [if_pos h,if_pos h1] at hQ
    · subst h2
      unfold addW at hQ
      rw [if_neg h,if_pos rfl] at hQ
      refine ifP_not (fun hne=>ref02_truth_ok ?_) (fun he=>ref02_truth_ok ?_)
      · rw [if_neg] at hQ
        · exact hQ
        · rintro ⟨e1,e2⟩; subst e1; simp at hne
      · have he:a=⟨0,0⟩:=by simpa using he
        subst he
        by_cases e:b=⟨0,0⟩
        · rw [if_pos ⟨rfl,e⟩] at hQ; simpa [e] using hQ
        · rw [if_neg (fun h=>e h.2)] at hQ; simpa [e] using hQ
    · subst h5; exact hQ
    · unfold addW at hQ; rwa [if_neg h,if_neg h2,if_neg h5] at hQ
  · refine ifP_eq (fun h=>hk _ ?_) (fun h=>ifP_eq (fun h3=>hk _ ?_) (fun h3=>hk _ ?_))
    · simp [h]
    · simp [h3]
    · by_cases h4:r=4 <;> simp [h,h3,h4]
def narS (a:Wide):Int×Bool:=if (a.Hi=0∧a.Lo≤9223372036854775807)∨(a.Hi = -1∧9223372036854775808≤a.Lo) then (w64 a.Lo,true) else (0,false)
theorem narrow_ok {r:Int} {a:Wide} {Q:Int×Bool→Prop} (ha:okW a) (hQ:Q (narS a)):ring_Narrow r a Q:=by
  unfold ring_Narrow wide_Narrow
  unfold okW at ha
  unfold narS at hQ
  refine wide_Of_ok (by unfold inI; rw [w64_eq]; omega) (ifP_not (fun h=>?_) (fun h=>?_))
  · rw [if_neg] at hQ
    · exact hQ
    · intro h'
      simp only [beq_eq_false_iff_ne,ne_eq] at h
      apply h
      apply wide_eta <;> simp only [ofI,w64_eq] <;> (try split) <;> omega
  · have h:ofI (w64 a.Lo)=a:=by simpa using h
    rw [if_pos] at hQ
    · exact hQ
    · rw [←h]
      simp only [ofI,w64_eq]
      split <;> omega
theorem ref01_narrow_ok {a:Wide} {Q:Int×Bool→Prop} (ha:okW a) (hQ:Q (narS a)):ref01_Narrow a Q:=by
  unfold ref01_Narrow
  unfold okW at ha
  have hy (h:(a.Hi=0∧a.Lo≤9223372036854775807)∨(a.Hi = -1∧9223372036854775808≤a.Lo)):Q (w64 a.Lo,true):=by unfold narS at hQ; rwa [if_pos h] at hQ
  have hn (h:¬((a.Hi=0∧a.Lo≤9223372036854775807)∨(a.Hi = -1∧9223372036854775808≤a.Lo))):Q (0,false):=by unfold narS at hQ; rwa [if_neg h] at hQ
  refine ifP_eq (fun h=>ifP_dec (fun h1=>hy ?_) (fun h1=>ifP_eq (fun h2=>by omega) (fun h2=>hn ?_))) (fun h=>ifP_eq (fun h1=>ifP_dec (fun h2=>hy ?_) (fun h2=>hn ?_)) (fun h1=>hn ?_))
  all_goals (try rw [w64_eq] at h1); (try rw [w64_eq] at h2); omega
theorem ring_Is_ok {r:Int} {Q:Bool→Prop} (hQ:Q (decide (1≤r∧r≤5))):ring_Is r Q:=by
  unfold ring_Is
  refine ifP_dec (fun h=>?_) (fun h=>?_)
  · rwa [show decide (r<6)=decide (1≤r∧r≤5) by apply decide_eq_decide.2; omega]
  · rwa [show decide (1≤r∧r≤5)=false by apply decide_eq_false; omega] at hQ
open Go Go.Fw Go.Sort Go.Shelf
abbrev Key:=Int×Int
def ltK (a b:Key):Prop:=a.1<b.1∨(a.1=b.1∧a.2<b.2)
instance (a b:Key):Decidable (ltK a b):=by unfold ltK; infer_instance
theorem ltK_trans {a b c:Key} (h1:ltK a b) (h2:ltK b c):ltK a c:=by unfold ltK at *; omega
theorem ltK_irrefl (a:Key):¬ltK a a:=by unfold ltK; omega
theorem ltK_tri {a b:Key} (h1:¬ltK a b) (h2:a≠b):ltK b a:=by
  obtain ⟨a1,a2⟩:=a; obtain ⟨b1,b2⟩:=b
  unfold ltK at *
  simp only [ne_eq,Prod.mk.injEq] at *
  omega
def ins (r:Int) (k:Key) (v:Wide):List (Key×Wide)→List (Key×Wide)
  | []=>[(k,v)]
  | p :: l=>if ltK p.1 k then p :: ins r k v l else if p.1=k then (k,addW r p.2 v) :: l else (k,v) :: p :: l
def SC (r:Int) (ts:List (Key×Int)):List (Key×Wide):=ts.foldl (fun l t=>ins r t.1 (ofI t.2) l) []
theorem SC_snoc (r:Int) (ts:List (Key×Int)) (t:Key×Int):SC r (ts++[t])=ins r t.1 (ofI t.2) (SC r ts):=by simp [SC]
def srt (l:List (Key×Wide)):Prop:=l.Pairwise fun a b=>ltK a.1 b.1
theorem ins_keys {r:Int} {k:Key} {v:Wide}:∀ {l:List (Key×Wide)} {p:Key×Wide},p∈ins r k v l→p.1=k∨∃ q∈l,q.1=p.1
  | [],p,h=>by simp [ins] at h; simp [h]
  | q :: l,p,h=>by
    unfold ins at h
    split at h
    · rcases List.mem_cons.1 h with rfl | h
      · exact .inr ⟨p,by simp,rfl⟩
      · rcases ins_keys h with h | ⟨x,hx,e⟩
        · exact .inl h
        · exact .inr ⟨x,by simp [hx],e⟩
    · split at h
      · rcases List.mem_cons.1 h with rfl | h
        · exact .inl rfl
        · exact .inr ⟨p,by simp [h],rfl⟩
      · rcases List.mem_cons.1 h with rfl | h
        · exact .inl rfl
        · exact .inr ⟨p,h,rfl⟩
theorem ins_srt {r:Int} {k:Key} {v:Wide}:∀ {l:List (Key×Wide)},srt l→srt (ins r k v l)
  | [],_=>by simp [ins,srt]
  | p :: l,h=>by
    unfold srt at h
    rw [List.pairwise_cons] at h
    unfold ins
    split
    · rename_i hk
      refine List.pairwise_cons.2 ⟨fun q hq=>?_,ins_srt h.2⟩
      rcases ins_keys hq with e | ⟨x,hx,e⟩
      · rw [e]; exact hk
      · rw [←e]; exact h.1 x hx
    · rename_i hk
      split
      · rename_i e
        subst e
        exact List.pairwise_cons.2 ⟨fun q hq=>h.1 q hq,h.2⟩
      · rename_i e
        have:=ltK_tri hk e
        exact List.pairwise_cons.2 ⟨fun q hq=>by
          rcases List.mem_cons.1 hq with rfl | hq
          · exact this
          · exact ltK_trans this (h.1 q hq),List.pairwise_cons.2 h⟩
theorem SC_srt (r:Int) (ts:List (Key×Int)):srt (SC r ts):=by
  unfold SC
  suffices ∀ (ts:List (Key×Int)) (l:List (Key×Wide)),srt l→srt (ts.foldl (fun l t=>ins r t.1 (ofI t.2) l) l) from this ts [] .nil
  intro ts
  induction ts with
  | nil=>intro l h; exact h
  | cons t ts ih=>intro l h; exact ih _ (ins_srt h)
theorem srt_keys {l:List (Key×Wide)} (h:srt l):keysOk l:=by
  unfold keysOk
  rw [List.nodup_iff_pairwise_ne,List.pairwise_map]
  exact List.Pairwise.imp (R:=fun a b:Key×Wide=>ltK a.1 b.1) (fun {a b} hab (e:a.1=b.1)=>ltK_irrefl b.1 (by rw [e] at hab; exact hab)) h
theorem ins_len (r:Int) (k:Key) (v:Wide):∀ l:List (Key×Wide),(ins r k v l).length≤l.length+1
  | []=>by simp [ins]
  | p :: l=>by
    unfold ins
    have:=ins_len r k v l
    split
    · simp; omega
    · split <;> simp
theorem ins_okW {r:Int} {k:Key} {v:Wide} (hv:okW v):∀ {l:List (Key×Wide)},(∀ p∈l,okW p.2)→∀ p∈ins r k v l,okW p.2
  | [],_,p,h=>by simp [ins] at h; rw [h]; exact hv
  | q :: l,hl,p,h=>by
    unfold ins at h
    split at h
    · rcases List.mem_cons.1 h with rfl | h
      · exact hl _ (by simp)
      · exact ins_okW hv (fun x hx=>hl x (by simp [hx])) p h
    · split at h
      · rcases List.mem_cons.1 h with rfl | h
        · exact addW_okW (hl q (by simp)) hv
        · exact hl p (by simp [h])
      · rcases List.mem_cons.1 h with rfl | h
        · exact hv
        · exact hl p h
theorem SC_prop (r:Int):∀ (ts:List (Key×Int)),(∀ t∈ts,inI t.2)→(SC r ts).length≤ts.length∧∀ p∈SC r ts,okW p.2:=by
  suffices ∀ (ts:List (Key×Int)) (l:List (Key×Wide)),(∀ t∈ts,inI t.2)→(∀ p∈l,okW p.2)→(ts.foldl (fun l t=>ins r t.1 (ofI t.2) l) l).length≤l.length+ts.length∧∀ p∈ts.foldl (fun l t=>ins r t.1 (ofI t.2) l) l,okW p.2 from
    fun ts h=>by simpa [SC] using this ts [] h (by simp)
  intro ts
  induction ts with
  | nil=>intro l _ h; exact ⟨by simp,h⟩
  | cons t ts ih=>
    intro l ht h
    have:=ih (ins r t.1 (ofI t.2) l) (fun x hx=>ht x (by simp [hx])) (ins_okW (ofI_okW (ht t (by simp))) h)
    have h2:=ins_len r t.1 (ofI t.2) l
    exact ⟨by simp only [List.foldl_cons,List.length_cons]; omega,this.2⟩
theorem srt_none {p:Key×Wide} {l:List (Key×Wide)} {k:Key} (h:srt (p :: l)) (hk:ltK k p.1):mget k (p :: l)=none:=by
  apply mget_none
  intro hm
  obtain ⟨q,hq,e⟩:=List.mem_map.1 hm
  rcases List.mem_cons.1 hq with rfl | hq
  · exact ltK_irrefl k (e▸hk)
  · have h1:=ltK_trans hk ((List.pairwise_cons.1 h).1 q hq)
    rw [e] at h1; exact ltK_irrefl k h1
theorem ins_get {r:Int} {k:Key} {v:Wide} (k':Key):∀ {l:List (Key×Wide)},srt l→mget k' (ins r k v l)=if k'=k then some (match mget k l with | some w=>addW r w v | none=>v) else mget k' l
  | [],_=>by simp only [ins,mget]
  | p :: l,h=>by
    have ih:=ins_get (r:=r) (k:=k) (v:=v) k' (List.pairwise_cons.1 h).2
    unfold ins
    split
    · rename_i hk
      have hne:¬k=p.1:=fun e=>ltK_irrefl k (by rw [←e] at hk; exact hk)
      simp only [mget,ih,if_neg hne]
      by_cases e:k'=k
      · subst e; simp [hne]
      · simp [e]
    · rename_i hk
      split
      · rename_i e
        subst e
        simp only [mget,if_true]
        by_cases e:k'=p.1 <;> simp [e]
      · rename_i e
        have hlt:=ltK_tri hk e
        rw [srt_none h hlt]
        simp only [mget]
theorem ins_perm {r:Int} {k:Key} {v:Wide} {l:List (Key×Wide)} (h:srt l):(ins r k v l).Perm (mput k (match mget k l with | some w=>addW r w v | none=>v) l):=by
  refine maps_perm (srt_keys (ins_srt h)) (keysOk_mput (srt_keys h) _ _) fun k'=>?_
  rw [ins_get k' h]
  by_cases e:k'=k
  · subst e; simp [mget_mput_same]
  · simp [e,mget_mput_other e]
def finS {α:Type} (l:List (Key×Wide)) (mk:Key→Int→α):List α×Int:=if l.all (fun p=>(narS p.2).2) then (l.map (fun p=>mk p.1 (narS p.2).1),0) else ([],12)
def kvT (t:Triple):Key×Int:=((t.Row,t.Col),t.Val)
def mkT (k:Key) (v:Int):Triple:=⟨k.1,k.2,v⟩
def kvE (t:Edge):Key×Int:=((t.From,t.To),t.W)
def mkE (k:Key) (v:Int):Edge:=⟨k.1,k.2,v⟩
theorem sort_ok {α:Type} {ord:α→α→(Int→Prop)→Prop} (cf:α→α→Int) (hc:∀ x y Q,Q (cf x y)→ord x y Q) (hO:SWO (ltOf cf)) {xs zs:List α} {K:List α→Prop} (hl:xs.length≤1000000000000) (hp:xs.Perm zs) (hz:zs.Pairwise fun x y=>cf x y<0) (hK:K zs):sortP ord xs K:=by
  refine ⟨cf,fun x y Q=>hc x y Q,hO,by omega,fun ys hys hsorted=>?_⟩
  have hasym:∀ x y,cf x y<0→0≤cf y x:=by
    intro x y h
    rcases Int.lt_or_le (cf y x) 0 with h' | h'
    · have:=hO.trans x y x (by simpa [ltOf] using h) (by simpa [ltOf] using h')
      rw [hO.irrefl] at this; cases this
    · exact h'
  have:ys=zs:=sorted_eq (hys.trans hp) hsorted (hz.imp fun {a b} h=>hasym a b h) fun a b ha hb h1 h2=>by
    have ha:=(hys.trans hp).mem_iff.1 ha
    have hb:=(hys.trans hp).mem_iff.1 hb
    obtain ⟨i,hi,rfl⟩:=List.getElem_of_mem ha
    obtain ⟨j,hj,rfl⟩:=List.getElem_of_mem hb
    rw [List.pairwise_iff_getElem] at hz
    rcases Nat.lt_trichotomy i j with h | h | h
    · have:=hz i j hi hj h; omega
    · subst h; rfl
    · have:=hz j i hj hi h; omega
  rw [this]; exact hK
def cfE (x y:Edge):Int:=or2 (or2 (cmpc x.From y.From) (cmpc x.To y.To)) (cmpc x.W y.W)
theorem cfE_lt (x y:Edge):cfE x y<0↔ltK (x.From,x.To) (y.From,y.To)∨(x.From=y.From∧x.To=y.To∧x.W<y.W):=by
  unfold cfE or2 cmpc ltK
  (repeat' split) <;> simp only <;> omega
theorem cfE_ok {x y:Edge} {Q:Int→Prop} (h:Q (cfE x y)):edges_order x y Q:=by
  unfold edges_order edges_ends
  exact cmp_int_ok (cmp_int_ok (or_ok (cmp_int64_ok (or_ok h))))
theorem cfE_SWO:SWO (ltOf cfE) where
  irrefl x:=by unfold ltOf; simp only [cfE_lt]; simp [ltK]
  trans x y z h1 h2:=by unfold ltOf at *; simp only [cfE_lt,decide_eq_true_eq,ltK] at *; omega
  ntrans x y z h1 h2:=by unfold ltOf at *; simp only [cfE_lt,decide_eq_false_iff_not,ltK] at *; omega
theorem fin_perm {m d:List (Key×Wide)} {l:List (Key×Wide)} {α:Type} {mk:Key→Int→α} (hp:d.Perm l) (hd:∀ p∈d,(narS p.2).2=true):finS l mk=(l.map (fun p=>mk p.1 (narS p.2).1),0):=by
  unfold finS
  rw [if_pos]
  rw [List.all_eq_true]
  exact fun p hpm=>hd p (hp.mem_iff.2 hpm)
theorem fin_bad {l:List (Key×Wide)} {α:Type} {mk:Key→Int→α} {p:Key×Wide} (hp:p∈l) (hd:(narS p.2).2=false):finS l mk=([],12):=by
  unfold finS
  rw [if_neg]
  rw [List.all_eq_true]
  intro h
  rw [h p hp] at hd; cases hd
theorem take_map {α β:Type} {f:α→β} {xs:List α} {i:Nat} (h:i<xs.length):(xs.take (i+1)).map f=(xs.take i).map f++[f xs[i]]:=by
  rw [List.take_succ_eq_append_getElem h,List.map_append]; rfl
theorem combine_ok {r:Int} {ts:List Edge} {Q:List Edge×Int→Prop} (hr:1≤r∧r≤5) (hl:ts.length≤1000000) (hv:∀ t∈ts,inI t.W) (hQ:Q (finS (SC r (ts.map kvE)) mkE)):edges_Combine r ts Q:=by
  unfold edges_Combine
  refine ring_Is_ok (ifP_neg (by simp [hr]) ?_)
  have hvk:∀ (i:Nat) t,t∈(ts.take i).map kvE→inI t.2:=by
    intro i t ht
    obtain ⟨x,hx,rfl⟩:=List.mem_map.1 ht
    exact hv x (List.mem_of_mem_take hx)
  refine range_intro (fun (s:List (Key×Wide)) i=>(s,i)) 0 ts.length (by omega) (fun i m=>m.Perm (SC r ((ts.take i).map kvE))) (by omega) .nil (fun i m next _ hi hm hn=>?_) (fun m next hm=>?_)
  · have hx:inI ts[i].W:=hv _ (List.getElem_mem hi)
    have hk:keysOk m:=List.Perm.nodup (hm.symm.map Prod.fst) (srt_keys (SC_srt _ _))
    have hok:=(SC_prop r _ (hvk i)).2
    have hfin:∀ w,(match mget (ts[i].From,ts[i].To) m with | some w=>addW r w (ofI ts[i].W) | none=>ofI ts[i].W)=w→(mput (ts[i].From,ts[i].To) w m).Perm (SC r ((ts.take (i+1)).map kvE)):=by
      intro w hw
      rw [take_map hi,SC_snoc,←hw,mget_perm hk hm]
      exact (mput_perm hk hm _ _).trans (ins_perm (SC_srt _ _)).symm
    refine ifP_dec (fun _=>?_) (fun h=>by omega)
    refine idxP_nat hi (wide_Of_ok hx (lk2P_intro (fun w hw=>ifP_pos rfl (ring_Add_ok ?_ (ofI_okW hx) (hn _ ?_))) (fun hw=>ifP_neg rfl (hn _ ?_))))
    · exact hok _ (hm.mem_iff.1 ((mget_iff hk).1 hw))
    · exact hfin _ (by rw [hw])
    · exact hfin _ (by rw [hw])
  · refine ifP_dec (fun h=>by omega) (fun _=>?_)
    rw [List.take_length] at hm
    have hpr:=SC_prop r (ts.map kvE) (by simpa using hvk ts.length)
    have hsrt:=SC_srt r (ts.map kvE)
    generalize SC r (ts.map kvE)=l at hm hpr hsrt hQ
    have hll:l.length≤1000000:=by simp at hpr; omega
    refine loop_intro (fun s:List Edge×List (Key×Wide)=>∃ d,(d++s.2).Perm l∧s.1=d.map (fun p=>mkE p.1 (narS p.2).1)∧∀ p∈d,(narS p.2).2=true) (fun s=>s.2.length) ⟨[],by simpa using hm,rfl,by simp⟩ ?_
    rintro ⟨acc,rest⟩ next ⟨d,hd,rfl,hnar⟩ hn
    simp only at hd
    refine nextP_intro (fun e=>?_) (fun p rr hp=>?_)
    · subst e
      simp only [List.append_nil] at hd
      refine sort_ok cfE (fun _ _ _=>cfE_ok) cfE_SWO (by have:=hd.length_eq; simp; omega) (hd.map _) ?_ ?_
      · rw [List.pairwise_map]
        exact List.Pairwise.imp (R:=fun a b:Key×Wide=>ltK a.1 b.1) (fun {a b} h=>(cfE_lt _ _).2 (.inl h)) hsrt
      · rw [fin_perm (m:=[]) hd hnar] at hQ; exact hQ
    · have hd2:(d++p :: rr).Perm l:=(List.Perm.append_left d hp.symm).trans hd
      have hpl:p∈l:=hd2.mem_iff.1 (by simp)
      refine narrow_ok (hpr.2 p hpl) (ifP_not (fun h=>?_) (fun h=>?_))
      · rw [fin_bad hpl h] at hQ; exact hQ
      · refine appP_intro ?_ (hn _ ⟨d++[p],by simpa using hd2,by simp [mkE],?_⟩ ?_)
        · have:=hd2.length_eq; simp at this ⊢; omega
        · intro q hq
          rcases List.mem_append.1 hq with hq | hq
          · exact hnar q hq
          · simp at hq; subst hq; exact h
        · have:=hp.length_eq; simp at this ⊢; omega
theorem rm_get {f:Nat→Int} {n j:Nat} (h:j<n):((List.range n).map f)[j]? = some (f j):=by simp [h]
theorem rm_set {f:Nat→Int} {n j:Nat} {v:Int}:((List.range n).map f).set j v=(List.range n).map (fun i=>if i=j then v else f i):=by
  apply List.ext_getElem?
  intro i
  rw [List.getElem?_set]
  simp only [List.length_map,List.length_range]
  by_cases e:j=i
  · subst e
    by_cases h:j<n
    · rw [if_pos rfl,if_pos h,rm_get h,if_pos rfl]
    · rw [if_pos rfl,if_neg h,List.getElem?_eq_none (by simp; omega)]
  · rw [if_neg e]
    by_cases h:i<n
    · rw [rm_get h,rm_get h,if_neg (fun h=>e h.symm)]
    · rw [List.getElem?_eq_none (by simp; omega),List.getElem?_eq_none (by simp; omega)]
theorem rm_congr {f g:Nat→Int} {n:Nat} (h:∀ j,j<n→f j=g j):(List.range n).map f=(List.range n).map g:=List.map_congr_left fun j hj=>h j (by simpa using hj)
def below (ts:List Triple) (j:Nat):Int:=((ts.countP (fun t:Triple=>decide (t.Row<(j:Int))):Nat):Int)
def atRow (ts:List Triple) (j:Nat):Int:=((ts.countP (fun t:Triple=>decide (t.Row+1=(j:Int))):Nat):Int)
theorem atRow_snoc (ts:List Triple) (t:Triple) (j:Nat):atRow (ts++[t]) j=atRow ts j+if t.Row+1=j then 1 else 0:=by
  unfold atRow; rw [List.countP_append,List.countP_singleton]; simp only [decide_eq_true_eq]; split <;> simp
theorem below_le (ts:List Triple) (j:Nat):0≤below ts j∧below ts j≤ts.length:=by
  unfold below; have:=List.countP_le_length (p:=fun t:Triple=>decide (t.Row<(j:Int))) (l:=ts); omega
theorem atRow_le (ts:List Triple) (j:Nat):0≤atRow ts j∧atRow ts j≤ts.length:=by
  unfold atRow; have:=List.countP_le_length (p:=fun t:Triple=>decide (t.Row+1=(j:Int))) (l:=ts); omega
theorem below_succ (j:Nat):∀ (ts:List Triple),(∀ t∈ts,0≤t.Row)→below ts (j+1)=below ts j+atRow ts (j+1)
  | [],_=>rfl
  | t :: ts,h=>by
    have:=below_succ j ts fun x hx=>h x (by simp [hx])
    unfold below atRow at *
    simp only [List.countP_cons]
    have h0:=h t (by simp)
    by_cases h1:t.Row<j
    · have h2:t.Row<(j+1:Nat):=by omega
      have h3:¬t.Row+1=((j+1:Nat):Int):=by omega
      simp only [h1,h2,h3,decide_true,decide_false,if_true,if_false]; simp only [Bool.false_eq_true,if_false]; omega
    · by_cases h4:t.Row+1=((j+1:Nat):Int)
      · have h2:t.Row<(j+1:Nat):=by omega
        simp only [h1,h2,h4,decide_true,decide_false,if_true,if_false]; simp only [Bool.false_eq_true,if_false]; omega
      · have h2:¬t.Row<(j+1:Nat):=by omega
        simp only [h1,h2,h4,decide_true,decide_false,if_true,if_false]; simp only [Bool.false_eq_true,if_false]; omega
def builtS (rows cols:Int) (ts:List Triple):Rows:=⟨rows,cols,(List.range (rows.toNat+1)).map (below ts),ts.map (·.Col),ts.map (·.Val)⟩
theorem rep_range (n:Nat):List.replicate n (0:Int)=(List.range n).map fun _=>0:=by
  apply List.ext_getElem?
  intro i
  by_cases h:i<n
  · rw [rm_get h]; simp [h]
  · rw [List.getElem?_eq_none (by simp; omega),List.getElem?_eq_none (by simp; omega)]
theorem built_ok {rows cols:Int} {ts:List Triple} {Q:Rows→Prop} (h0:0≤rows) (h1:rows≤1000000) (hl:ts.length≤1000000) (ht:∀ t∈ts,0≤t.Row∧t.Row<rows) (hQ:Q (builtS rows cols ts)):csr_built rows cols ts Q:=by
  unfold csr_built csr_empty
  obtain ⟨n,rfl⟩:∃ n:Nat,rows=n:=⟨rows.toNat,by omega⟩
  have e:w64 ((n:Int)+1)=(n+1:Nat):=by rw [w64_id (by omega) (by omega)]; omega
  rw [e]
  refine ⟨by omega,by omega,?_⟩
  simp only [Int.toNat_natCast]
  rw [rep_range]
  refine range_intro (fun (s:List Int×List Int×List Int) i=>(s.1,s.2.1,s.2.2,i)) 0 ts.length (s0:=((List.range (n+1)).map fun _=>0,[],[])) (by omega) (fun i s=>s=((List.range (n+1)).map (atRow (ts.take i)),(ts.take i).map (·.Col),(ts.take i).map (·.Val))) (by omega) (by simp [atRow]) (fun i s next _ hi hm hn=>?_) (fun s next hm=>?_)
  · subst hm
    dsimp only
    have hr:=ht _ (List.getElem_mem hi)
    refine ifP_dec (fun _=>?_) (fun h=>by omega)
    refine idxP_nat hi ?_
    obtain ⟨q,hq⟩:∃ q:Nat,ts[i].Row=q:=⟨ts[i].Row.toNat,by omega⟩
    have e2:w64 (ts[i].Row+1)=(q+1:Nat):=by rw [w64_id (by omega) (by omega)]; omega
    rw [e2]
    have hc:=atRow_le (ts.take i) (q+1)
    have htl:(ts.take i).length≤ts.length:=by simp; omega
    refine idxP_intro (by omega) (rm_get (by omega)) (idxP_intro (by omega) (rm_get (by omega)) (appP_intro (by simp; omega) (appP_intro (by simp; omega) (hn ((List.range (n+1)).map (atRow (ts.take (i+1))),(ts.take (i+1)).map (·.Col),(ts.take (i+1)).map (·.Val)) rfl |> cast ?_))))
    congr 1
    simp only [Int.toNat_natCast]
    rw [rm_set,take_map hi,take_map hi]
    refine Prod.ext (rm_congr fun j hj=>?_) rfl
    rw [List.take_succ_eq_append_getElem hi,atRow_snoc]
    by_cases ej:j=q+1
    · subst ej; rw [if_pos (by omega),if_pos rfl,w64_id (by omega) (by omega)]
    · rw [if_neg (by omega),if_neg ej]; omega
  · subst hm
    dsimp only
    refine ifP_dec (fun h=>by omega) (fun _=>?_)
    simp only [List.take_length]
    refine range_intro (fun (s:List Int) i=>(s,i)) 0 n (by omega) (fun i s=>s=(List.range (n+1)).map fun j=>if j≤i then below ts j else atRow ts j) (by omega) (rm_congr fun j hj=>?_) (fun i s next _ hi hm hn=>?_) (fun s next hm=>?_)
    · by_cases ej:j≤0
      · rw [if_pos ej,show j=0 by omega]
        have:∀ t∈ts,¬t.Row<((0:Nat):Int):=fun t h=>by have:=ht t h; omega
        have h2:∀ t∈ts,¬t.Row+1=((0:Nat):Int):=fun t h=>by have:=ht t h; omega
        unfold atRow below
        rw [List.countP_eq_zero.2 (by simpa using h2),List.countP_eq_zero.2 (by simpa using this)]
      · rw [if_neg ej]
    · subst hm
      refine ifP_dec (fun _=>?_) (fun h=>by omega)
      have e2:w64 ((i:Int)+1)=(i+1:Nat):=by rw [w64_id (by omega) (by omega)]; omega
      rw [e2] at hn ⊢
      refine idxP_intro (by omega) (rm_get (by omega)) (idxP_intro (by omega) (rm_get (by omega)) (idxP_intro (by omega) (rm_get (by omega)) (hn _ ?_)))
      simp only [Int.toNat_natCast]
      rw [rm_set]
      refine rm_congr fun j hj=>?_
      have hb1:=below_le ts i
      have hb2:=atRow_le ts (i+1)
      rw [if_neg (show ¬i+1≤i by omega),if_pos (Nat.le_refl i),w64_id (by omega) (by omega)]
      by_cases ej:j=i+1
      · subst ej; rw [if_pos rfl,if_pos (Nat.le_refl _),below_succ i ts fun t h=>(ht t h).1]; omega
      · rw [if_neg ej]
        by_cases h:j≤i
        · rw [if_pos h,if_pos (by omega)]
        · rw [if_neg h,if_neg (by omega)]
    · subst hm
      refine ifP_dec (fun h=>by omega) (fun _=>?_)
      rw [rm_congr (g:=below ts) fun j hj=>if_pos (by omega)]
      exact hQ
def zR:Rows:=⟨0,0,[],[],[]⟩
def inT (rows cols:Int) (t:Triple):Prop:=0≤t.Row∧t.Row<rows∧0≤t.Col∧t.Col<cols
instance (rows cols:Int) (t:Triple):Decidable (inT rows cols t):=by unfold inT; infer_instance
theorem SC_keys {r:Int}:∀ {ts:List (Key×Int)} {p:Key×Wide},p∈SC r ts→∃ t∈ts,t.1=p.1:=by
  suffices ∀ (ts:List (Key×Int)) (l:List (Key×Wide)) p,p∈ts.foldl (fun l t=>ins r t.1 (ofI t.2) l) l→(∃ t∈ts,t.1=p.1)∨∃ q∈l,q.1=p.1 from fun {ts p} h=>by
    rcases this ts [] p h with h | ⟨q,hq,_⟩
    · exact h
    · simp at hq
  intro ts
  induction ts with
  | nil=>intro l p h; exact .inr ⟨p,h,rfl⟩
  | cons t ts ih=>
    intro l p h
    rcases ih _ _ h with ⟨x,hx,e⟩ | ⟨q,hq,e⟩
    · exact .inl ⟨x,by simp [hx],e⟩
    · rcases ins_keys hq with e2 | ⟨y,hy,e2⟩
      · exact .inl ⟨t,by simp,by rw [←e,e2]⟩
      · exact .inr ⟨y,hy,by rw [e2,e]⟩
theorem fin_len {α:Type} {mk:Key→Int→α} (l:List (Key×Wide)):(finS l mk).1.length≤l.length:=by
  unfold finS; split <;> simp
def e2t (e:Edge):Triple:=⟨e.From,e.To,e.W⟩
theorem finT (l:List (Key×Wide)):(finS l mkT).1=(finS l mkE).1.map e2t∧(finS l mkT).2=(finS l mkE).2:=by
  unfold finS
  split
  · exact ⟨by simp only [List.map_map]; rfl,rfl⟩
  · exact ⟨rfl,rfl⟩
theorem same_loop {α:Type} [BEq α] [LawfulBEq α] [DecidableEq α] {xs ys:List α} {Q:Bool→Prop} (hl:xs.length≤1000000000000) (hQ:Q (decide (xs=ys))) :
    ifP ((xs.length:Int) != (ys.length:Int)) (Q false) (loopP (fun (s:Int) (next:Int→Prop)=>ifP (decide (s<(xs.length:Int))) (idxP xs s fun x=>idxP ys s fun y=>ifP (x != y) (Q false) (next (w64 (s+1)))) (Q true)) 0):=by
  refine ifP_ne (fun h=>?_) (fun h=>?_)
  · rwa [decide_eq_false (fun e=>h (by rw [e]))] at hQ
  have h:xs.length=ys.length:=by omega
  refine scan_intro xs.length hl (fun i=>∀ (j:Nat) (h1:j<xs.length) (h2:j<ys.length),j<i→xs[j]=ys[j]) (by simp) (fun i next hi hR hn=>?_) (fun next hR=>?_)
  · refine ifP_dec (fun _=>?_) (fun h=>by omega)
    refine idxP_nat hi (idxP_nat (by omega) (ifP_ne (fun e=>?_) (fun e=>hn fun j h1 h2 hj=>?_)))
    · rwa [decide_eq_false (fun e'=>e (by subst e'; rfl))] at hQ
    · by_cases ej:j=i
      · subst ej; exact e
      · exact hR j h1 h2 (by omega)
  · refine ifP_dec (fun h=>by omega) (fun _=>?_)
    rwa [decide_eq_true (List.ext_getElem h fun j h1 h2=>hR j h1 h2 h1)] at hQ
theorem eqV_ok {xs ys:List Int} {Q:Bool→Prop} (hl:xs.length≤1000000000000) (hQ:Q (decide (xs=ys))):ref07_SameVals xs ys Q:=by unfold ref07_SameVals; exact same_loop hl hQ
def RowP (a:Rows) (i:Nat):Prop:=∀ j:Nat,at0 a.Start i≤j→(j:Int)<at0 a.Start ((i:Int)+1)→0≤at0 a.Col j∧at0 a.Col j<a.Cols∧(at0 a.Start i<j→at0 a.Col ((j:Int) - 1)<at0 a.Col j)
structure RightP (a:Rows):Prop where
  r0:0≤a.Rows
  r1:a.Rows≤4096
  c0:0≤a.Cols
  c1:a.Cols≤4096
  sl:(a.Start.length:Int)=a.Rows+1
  vl:a.Val.length=a.Col.length
  cl:a.Col.length≤65536
  s0:at0 a.Start 0=0
  sn:at0 a.Start a.Rows=a.Col.length
  up:∀ i:Nat,(i:Int)<a.Rows→at0 a.Start i≤at0 a.Start ((i:Int)+1)
  row:∀ i:Nat,(i:Int)<a.Rows→RowP a i
noncomputable instance (a:Rows):Decidable (RightP a):=Classical.propDecidable _
def key (t:Triple):Key:=(t.Row,t.Col)
def Srt (ts:List Triple):Prop:=ts.Pairwise fun a b=>ltK (key a) (key b)
structure Canon (rows cols:Int) (ts:List Triple):Prop where
  r0:0≤rows
  r1:rows≤4096
  c0:0≤cols
  c1:cols≤4096
  len:ts.length≤65536
  srt:Srt ts
  inn:∀ t∈ts,inT rows cols t
def segS (ts:List Triple) (i:Nat):List Triple:=ts.filter fun t=>decide (t.Row=i)
def itS (t:Triple):Item:=⟨t.Col,t.Val⟩
end Go.Proofs.YtaefnmlbnkmahaaGreat
