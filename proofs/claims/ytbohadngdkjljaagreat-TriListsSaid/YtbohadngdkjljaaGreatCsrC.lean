import Derived.Test.YtbohadngdkjljaaGreatT
import Derived.Test.YtbohadngdkjljaaGreatFwQ
namespace Go.Proofs.YtbohadngdkjljaaGreat
open Go Go.Fw
set_option linter.unusedVariables false
set_option linter.unusedSimpArgs false
def PL (x y:Int):Int:=if x<y then -1 else if y<x then 1 else 0
theorem GB {x y:Int} {Q:Int→Prop} (h:Q (PL x y)):CO x y Q:=by
  unfold CO HN
  unfold PL at h
  refine AO (by simp) (AO (by simp) (AB (fun D=>?_) (fun D=>AB (fun G=>?_) (fun G=>?_))))
  · rwa [if_pos D] at h
  · rwa [if_neg D,if_pos G] at h
  · rwa [if_neg D,if_neg G] at h
theorem dJ {x y:Int} {Q:Int→Prop} (h:Q (PL x y)):HD x y Q:=by
  unfold HD MI
  unfold PL at h
  refine AO (by simp) (AO (by simp) (AB (fun D=>?_) (fun D=>AB (fun G=>?_) (fun G=>?_))))
  · rwa [if_pos D] at h
  · rwa [if_neg D,if_pos G] at h
  · rwa [if_neg D,if_neg G] at h
theorem nM {x y:Int} {Q:Int→Prop} (h:Q (PL x y)):IV x y Q:=by
  unfold IV KV
  unfold PL at h
  refine AO (by simp) (AO (by simp) (AB (fun D=>?_) (fun D=>AB (fun G=>?_) (fun G=>?_))))
  · rwa [if_pos D] at h
  · rwa [if_neg D,if_pos G] at h
  · rwa [if_neg D,if_neg G] at h
def xU (x y:Int):Int:=if x=0 then y else x
theorem hG {x y:Int} {Q:Int→Prop} (h:Q (xU x y)):HO [x,y] Q:=by
  unfold HO
  unfold xU at h
  refine DC 2 (by omega) (fun i=>(0<i→x=0)∧(1<i→y=0)) ⟨by omega,by omega⟩ (fun i next hi D G=>?_) (fun next D=>?_)
  · refine AB (fun _=>?_) (fun h=>by simp at h; omega)
    match i,hi with
    | 0,_=>exact AP (by omega) (x:=x) rfl (FF (fun e=>by rwa [if_neg e] at h) (fun e=>G ⟨fun _=>e,by omega⟩))
    | 1,_=>exact AP (by omega) (x:=y) rfl (FF (fun e=>by rwa [if_pos (D.1 (by omega))] at h) (fun e=>G ⟨fun _=>D.1 (by omega),fun _=>e⟩))
  · refine AB (fun h=>by simp at h) (fun _=>?_)
    rwa [if_pos (D.1 (by omega)),D.2 (by omega)] at h
def NH (a:AN):Prop:=-9223372036854775808≤a.Hi∧a.Hi≤9223372036854775807∧0≤a.Lo∧a.Lo≤18446744073709551615
def FL (x:Int):Prop:=-9223372036854775808≤x∧x≤9223372036854775807
def SS (a b:AN):Prop:=a.Hi<b.Hi∨(a.Hi=b.Hi∧a.Lo≤b.Lo)
instance (a b:AN):Decidable (SS a b):=by unfold SS; infer_instance
theorem RA (x:Int):IntKind.wrap .u64 x=x % 18446744073709551616:=by
  simp [IntKind.wrap,IntKind.bits,IntKind.signed]
theorem GW (x:Int):AJ x=(x+9223372036854775808) % 18446744073709551616 - 9223372036854775808:=by
  show IntKind.wrap .i64 x=_
  rw [IntKind.wrap_i64]
def LI (v:Int):AN:=⟨if v<0 then -1 else 0,v % 18446744073709551616⟩
theorem VK {v:Int} (h:FL v):NH (LI v):=by unfold LI NH; unfold FL at h; simp only; split <;> omega
theorem AjS {v:Int} (h:FL v):shr .i64 v 63=if v<0 then -1 else 0:=by
  unfold FL at h
  show v.fdiv (2 ^ 63)=_
  rw [Int.fdiv_eq_ediv_of_nonneg _ (by decide)]
  split
  · rw [show (2:Int) ^ 63=9223372036854775808 from rfl]; omega
  · rw [show (2:Int) ^ 63=9223372036854775808 from rfl]; omega
theorem GN {v:Int} {Q:AN→Prop} (h:FL v) (D:Q (LI v)):JW v Q:=by
  unfold JW; rw [AjS h,RA]; exact D
theorem uK {v:Int} {Q:AN→Prop} (h:FL v) (G:Q (LI v)):cU v Q:=by
  unfold cU; unfold LI at G
  refine AB (fun D=>?_) (fun D=>?_)
  · rw [if_pos D] at G; rwa [RA]
  · rw [if_neg D] at G; rwa [RA]
theorem uL {a b:AN} {Q:Int→Prop} (h:Q (xU (PL a.Hi b.Hi) (PL a.Lo b.Lo))):RT a b Q:=by
  unfold RT
  exact dJ (nM (hG h))
theorem oY {a b:AN} {Q:AN→Prop} (D:Q (if SS a b then a else b)):QM a b Q:=by
  unfold QM
  refine uL (AB (fun h=>?_) (fun h=>?_))
  · rwa [if_pos] at D
    unfold SS; unfold xU PL at h
    (repeat' split at h) <;> omega
  · rwa [if_neg] at D
    unfold SS; unfold xU PL at h
    (repeat' split at h) <;> omega
theorem LY {a b:AN} (h1:a.Hi=b.Hi) (h2:a.Lo=b.Lo):a=b:=by cases a; cases b; simp_all
theorem qS {a b:AN} {Q:Int→Prop} (D:¬SS b a→Q (-1)) (J:SS b a→∀ x:Int,0≤x→Q x):PV a b Q:=by
  unfold PV
  refine DP (fun _=>SS b a) (fun _ G=>CC (fun _=>J G 0 (by omega)) (fun _=>J G 1 (by omega))) fun k hk=>?_
  refine AB (fun h=>D ?_) (fun h=>CC (fun e=>AB (fun O=>D ?_) (fun O=>hk () ?_)) (fun e=>hk () ?_))
  all_goals (unfold SS; omega)
def EK (r:Int) (a b:AN):AN:=
  if r=1∨r=3∨r=4 then (if SS a b then a else b)
  else if r=2 then (if a=⟨0,0⟩∧b=⟨0,0⟩ then ⟨0,0⟩ else ⟨0,1⟩)
  else if r=5 then ⟨AJ (a.Hi+b.Hi+(if 18446744073709551616≤a.Lo+b.Lo then 1 else 0)),(a.Lo+b.Lo) % 18446744073709551616⟩
  else ⟨0,0⟩
theorem TZ {r:Int} {a b:AN} (ha:NH a) (hb:NH b):NH (EK r a b):=by
  unfold EK
  split
  · split <;> assumption
  · split
    · split <;> (unfold NH; simp)
    · split
      · unfold NH at *; simp only [GW]; omega
      · unfold NH; simp
theorem dK {b:Bool} {Q:AN→Prop} (D:Q (if b then ⟨0,1⟩ else ⟨0,0⟩)):MM b Q:=by
  unfold MM
  refine ⟨fun h=>GN (by unfold FL; omega) ?_,fun h=>?_⟩
  · subst h; exact D
  · subst h; exact D
theorem YF {b:Bool} {Q:AN→Prop} (D:Q (if b then ⟨0,1⟩ else ⟨0,0⟩)):QJ b Q:=by
  unfold QJ
  refine ⟨fun h=>?_,fun h=>?_⟩
  · subst h; exact D
  · subst h; exact D
theorem hZ {a b:AN} {Q:AN→Prop} (G:NH a) (J:NH b) (D:Q (EK 5 a b)):YB a b Q:=by
  unfold YB TK
  have e:EK 5 a b=⟨AJ (a.Hi+b.Hi+(if 18446744073709551616≤a.Lo+b.Lo then 1 else 0)),(a.Lo+b.Lo) % 18446744073709551616⟩:=rfl
  rw [e] at D
  unfold NH at G J
  simp only [RA,GW] at D ⊢
  refine AB (fun h=>?_) (fun h=>?_)
  · rw [if_pos (by omega)] at D
    have:((a.Hi % 18446744073709551616+b.Hi % 18446744073709551616) % 18446744073709551616+1) % 18446744073709551616=(a.Hi+b.Hi+1) % 18446744073709551616:=by omega
    rw [this]
    have:((a.Hi+b.Hi+1) % 18446744073709551616+9223372036854775808) % 18446744073709551616=(a.Hi+b.Hi+1+9223372036854775808) % 18446744073709551616:=by omega
    rw [this]; exact D
  · rw [if_neg (by omega)] at D
    have:((a.Hi % 18446744073709551616+b.Hi % 18446744073709551616) % 18446744073709551616+0) % 18446744073709551616=(a.Hi+b.Hi+0) % 18446744073709551616:=by omega
    rw [this]
    have:((a.Hi+b.Hi+0) % 18446744073709551616+9223372036854775808) % 18446744073709551616=(a.Hi+b.Hi+0+9223372036854775808) % 18446744073709551616:=by omega
    rw [this]; exact D
theorem qT {a b:AN} {Q:AN→Prop} (G:NH a) (J:NH b) (D:Q (EK 5 a b)):ZF a b Q:=by
  unfold ZF
  have e:EK 5 a b=⟨AJ (a.Hi+b.Hi+(if 18446744073709551616≤a.Lo+b.Lo then 1 else 0)),(a.Lo+b.Lo) % 18446744073709551616⟩:=rfl
  rw [e] at D
  unfold NH at G J
  simp only [RA,GW] at D ⊢
  refine AB (fun h=>?_) (fun h=>?_)
  · rw [if_pos (by omega)] at D
    have:((a.Hi+b.Hi+9223372036854775808) % 18446744073709551616 - 9223372036854775808+1+9223372036854775808) % 18446744073709551616=(a.Hi+b.Hi+1+9223372036854775808) % 18446744073709551616:=by omega
    rw [this]; exact D
  · rw [if_neg (by omega)] at D
    rwa [show a.Hi+b.Hi+0=a.Hi+b.Hi by omega] at D
theorem QR {r:Int} {a b:AN} {Q:AN→Prop} (Z:NH a) (W:NH b) (D:Q (EK r a b)):QN r a b Q:=by
  unfold QN
  refine DP (fun t=>t=decide (r=1∨r=3∨r=4)) (fun t V=>?_) fun k hk=>?_
  · subst V
    refine AB (fun h=>oY ?_) (fun h=>CC (fun O=>?_) (fun O=>CC (fun U=>hZ Z W ?_) (fun U=>?_)))
    · unfold EK at D; rwa [if_pos h] at D
    · subst O
      unfold EK at D
      rw [if_neg h,if_pos rfl] at D
      refine CP (fun G=>dK ?_) (fun he=>dK ?_)
      · rw [if_neg] at D
        · exact D
        · rintro ⟨e1,Y⟩; subst e1 Y; simp at G
      · have he:a=b:=by simpa using he
        subst he
        by_cases e:a=⟨0,0⟩
        · rw [if_pos ⟨e,e⟩] at D; simpa [e] using D
        · rw [if_neg (fun h=>e h.1)] at D; simpa [e] using D
    · subst U; exact D
    · unfold EK at D; rwa [if_neg h,if_neg O,if_neg U] at D
  · refine CC (fun h=>hk _ ?_) (fun h=>CC (fun J=>hk _ ?_) (fun J=>hk _ ?_))
    · simp [h]
    · simp [J]
    · by_cases h4:r=4 <;> simp [h,J,h4]
theorem qU {r:Int} {a b:AN} {Q:AN→Prop} (Z:NH a) (Y:NH b) (D:Q (EK r a b)):ZG r a b Q:=by
  unfold ZG
  refine DP (fun t=>t=decide (r=1∨r=3∨r=4)) (fun t W=>?_) fun k hk=>?_
  · subst W
    refine AB (fun h=>qS (fun O=>AB (fun _=>?_) (fun h=>by omega)) (fun O x hx=>AB (fun h=>by omega) (fun _=>?_))) (fun h=>CC (fun U=>?_) (fun U=>CC (fun V=>qT Z Y ?_) (fun V=>?_)))
    · unfold EK at D; rwa [if_pos h,if_neg O] at D
    · unfold EK at D; rwa [if_pos h,if_pos O] at D
    · subst U
      unfold EK at D
      rw [if_neg h,if_pos rfl] at D
      refine CP (fun G=>YF ?_) (fun he=>YF ?_)
      · rw [if_neg] at D
        · exact D
        · rintro ⟨e1,e2⟩; subst e1; simp at G
      · have he:a=⟨0,0⟩:=by simpa using he
        subst he
        by_cases e:b=⟨0,0⟩
        · rw [if_pos ⟨rfl,e⟩] at D; simpa [e] using D
        · rw [if_neg (fun h=>e h.2)] at D; simpa [e] using D
    · subst V; exact D
    · unfold EK at D; rwa [if_neg h,if_neg U,if_neg V] at D
  · refine CC (fun h=>hk _ ?_) (fun h=>CC (fun J=>hk _ ?_) (fun J=>hk _ ?_))
    · simp [h]
    · simp [J]
    · by_cases h4:r=4 <;> simp [h,J,h4]
def JC (a:AN):Int×Bool:=if (a.Hi=0∧a.Lo≤9223372036854775807)∨(a.Hi = -1∧9223372036854775808≤a.Lo) then (AJ a.Lo,true) else (0,false)
theorem ZN {r:Int} {a:AN} {Q:Int×Bool→Prop} (G:NH a) (D:Q (JC a)):IJ r a Q:=by
  unfold IJ YC
  unfold NH at G
  unfold JC at D
  refine GN (by unfold FL; rw [GW]; omega) (CP (fun h=>?_) (fun h=>?_))
  · rw [if_neg] at D
    · exact D
    · intro h'
      simp only [beq_eq_false_iff_ne,ne_eq] at h
      apply h
      apply LY <;> simp only [LI,GW] <;> (try split) <;> omega
  · have h:LI (AJ a.Lo)=a:=by simpa using h
    rw [if_pos] at D
    · exact D
    · rw [←h]
      simp only [LI,GW]
      split <;> omega
theorem iQ {a:AN} {Q:Int×Bool→Prop} (O:NH a) (J:Q (JC a)):RR a Q:=by
  unfold RR
  unfold NH at O
  have hy (h:(a.Hi=0∧a.Lo≤9223372036854775807)∨(a.Hi = -1∧9223372036854775808≤a.Lo)):Q (AJ a.Lo,true):=by unfold JC at J; rwa [if_pos h] at J
  have hn (h:¬((a.Hi=0∧a.Lo≤9223372036854775807)∨(a.Hi = -1∧9223372036854775808≤a.Lo))):Q (0,false):=by unfold JC at J; rwa [if_neg h] at J
  refine CC (fun h=>AB (fun D=>hy ?_) (fun D=>CC (fun G=>by omega) (fun G=>hn ?_))) (fun h=>CC (fun D=>AB (fun G=>hy ?_) (fun G=>hn ?_)) (fun D=>hn ?_))
  all_goals (try rw [GW] at D); (try rw [GW] at G); omega
theorem KQ {r:Int} {Q:Bool→Prop} (D:Q (decide (1≤r∧r≤5))):NQ r Q:=by
  unfold NQ
  refine AB (fun h=>?_) (fun h=>?_)
  · rwa [show decide (r<6)=decide (1≤r∧r≤5) by apply decide_eq_decide.2; omega]
  · rwa [show decide (1≤r∧r≤5)=false by apply decide_eq_false; omega] at D
theorem uM {r:Int} {Q:Bool→Prop} (D:Q (decide (1≤r∧r≤5))):cT r Q:=by
  unfold cT
  refine AB (fun h=>?_) (fun h=>?_)
  · rwa [show decide (r≤5)=decide (1≤r∧r≤5) by apply decide_eq_decide.2; omega]
  · rwa [show decide (1≤r∧r≤5)=false by apply decide_eq_false; omega] at D
open Go Go.Fw Go.Sort Go.Shelf
abbrev FI:=Int×Int
def NK (a b:FI):Prop:=a.1<b.1∨(a.1=b.1∧a.2<b.2)
instance (a b:FI):Decidable (NK a b):=by unfold NK; infer_instance
theorem LB {a b c:FI} (h1:NK a b) (h2:NK b c):NK a c:=by unfold NK at *; omega
theorem FC (a:FI):¬NK a a:=by unfold NK; omega
theorem jL {a b:FI} (h1:¬NK a b) (h2:a≠b):NK b a:=by
  obtain ⟨a1,a2⟩:=a; obtain ⟨b1,b2⟩:=b
  unfold NK at *
  simp only [ne_eq,Prod.mk.injEq] at *
  omega
def ins (r:Int) (k:FI) (v:AN):List (FI×AN)→List (FI×AN)
  | []=>[(k,v)]
  | p :: l=>if NK p.1 k then p :: ins r k v l else if p.1=k then (k,EK r p.2 v) :: l else (k,v) :: p :: l
def SC (r:Int) (h:List (FI×Int)):List (FI×AN):=h.foldl (fun l t=>ins r t.1 (LI t.2) l) []
theorem jM (r:Int) (h:List (FI×Int)) (t:FI×Int):SC r (h++[t])=ins r t.1 (LI t.2) (SC r h):=by simp [SC]
def srt (l:List (FI×AN)):Prop:=l.Pairwise fun a b=>NK a.1 b.1
theorem kV {r:Int} {k:FI} {v:AN}:∀ {l:List (FI×AN)} {p:FI×AN},p∈ins r k v l→p.1=k∨∃ q∈l,q.1=p.1
  | [],p,h=>by simp [ins] at h; simp [h]
  | q :: l,p,h=>by
    unfold ins at h
    split at h
    · rcases List.mem_cons.1 h with rfl | h
      · exact .inr ⟨p,by simp,rfl⟩
      · rcases kV h with h | ⟨x,hx,e⟩
        · exact .inl h
        · exact .inr ⟨x,by simp [hx],e⟩
    · split at h
      · rcases List.mem_cons.1 h with rfl | h
        · exact .inl rfl
        · exact .inr ⟨p,by simp [h],rfl⟩
      · rcases List.mem_cons.1 h with rfl | h
        · exact .inl rfl
        · exact .inr ⟨p,h,rfl⟩
theorem jN {r:Int} {k:FI} {v:AN}:∀ {l:List (FI×AN)},srt l→srt (ins r k v l)
  | [],_=>by simp [ins,srt]
  | p :: l,h=>by
    unfold srt at h
    rw [List.pairwise_cons] at h
    unfold ins
    split
    · rename_i hk
      refine List.pairwise_cons.2 ⟨fun q D=>?_,jN h.2⟩
      rcases kV D with e | ⟨x,hx,e⟩
      · rw [e]; exact hk
      · rw [←e]; exact h.1 x hx
    · rename_i hk
      split
      · rename_i e
        subst e
        exact List.pairwise_cons.2 ⟨fun q D=>h.1 q D,h.2⟩
      · rename_i e
        have:=jL hk e
        exact List.pairwise_cons.2 ⟨fun q D=>by
          rcases List.mem_cons.1 D with rfl | D
          · exact this
          · exact LB this (h.1 q D),List.pairwise_cons.2 h⟩
theorem OD (r:Int) (D:List (FI×Int)):srt (SC r D):=by
  unfold SC
  suffices ∀ (D:List (FI×Int)) (l:List (FI×AN)),srt l→srt (D.foldl (fun l t=>ins r t.1 (LI t.2) l) l) from this D [] .nil
  intro D
  induction D with
  | nil=>intro l h; exact h
  | cons t D G=>intro l h; exact G _ (jN h)
theorem QS {l:List (FI×AN)} (h:srt l):EY l:=by
  unfold EY
  rw [List.nodup_iff_pairwise_ne,List.pairwise_map]
  exact List.Pairwise.imp (R:=fun a b:FI×AN=>NK a.1 b.1) (fun {a b} D (e:a.1=b.1)=>FC b.1 (by rw [e] at D; exact D)) h
theorem AaP (r:Int) (k:FI) (v:AN):∀ l:List (FI×AN),(ins r k v l).length≤l.length+1
  | []=>by simp [ins]
  | p :: l=>by
    unfold ins
    have:=AaP r k v l
    split
    · simp; omega
    · split <;> simp
theorem AaQ {r:Int} {k:FI} {v:AN} (D:NH v):∀ {l:List (FI×AN)},(∀ p∈l,NH p.2)→∀ p∈ins r k v l,NH p.2
  | [],_,p,h=>by simp [ins] at h; rw [h]; exact D
  | q :: l,hl,p,h=>by
    unfold ins at h
    split at h
    · rcases List.mem_cons.1 h with rfl | h
      · exact hl _ (by simp)
      · exact AaQ D (fun x G=>hl x (by simp [G])) p h
    · split at h
      · rcases List.mem_cons.1 h with rfl | h
        · exact TZ (hl q (by simp)) D
        · exact hl p (by simp [h])
      · rcases List.mem_cons.1 h with rfl | h
        · exact D
        · exact hl p h
theorem RZ (r:Int):∀ (D:List (FI×Int)),(∀ t∈D,FL t.2)→(SC r D).length≤D.length∧∀ p∈SC r D,NH p.2:=by
  suffices ∀ (D:List (FI×Int)) (l:List (FI×AN)),(∀ t∈D,FL t.2)→(∀ p∈l,NH p.2)→(D.foldl (fun l t=>ins r t.1 (LI t.2) l) l).length≤l.length+D.length∧∀ p∈D.foldl (fun l t=>ins r t.1 (LI t.2) l) l,NH p.2 from
    fun D h=>by simpa [SC] using this D [] h (by simp)
  intro D
  induction D with
  | nil=>intro l _ h; exact ⟨by simp,h⟩
  | cons t D O=>
    intro l G h
    have:=O (ins r t.1 (LI t.2) l) (fun x J=>G x (by simp [J])) (AaQ (VK (G t (by simp))) h)
    have h2:=AaP r t.1 (LI t.2) l
    exact ⟨by simp only [List.foldl_cons,List.length_cons]; omega,this.2⟩
theorem AdO {p:FI×AN} {l:List (FI×AN)} {k:FI} (h:srt (p :: l)) (hk:NK k p.1):BN k (p :: l)=none:=by
  apply fE
  intro J
  obtain ⟨q,D,e⟩:=List.mem_map.1 J
  rcases List.mem_cons.1 D with rfl | D
  · exact FC k (e▸hk)
  · have G:=LB hk ((List.pairwise_cons.1 h).1 q D)
    rw [e] at G; exact FC k G
theorem qV {r:Int} {k:FI} {v:AN} (D:FI):∀ {l:List (FI×AN)},srt l→BN D (ins r k v l)=if D=k then some (match BN k l with | some w=>EK r w v | none=>v) else BN D l
  | [],_=>by simp only [ins,BN]
  | p :: l,h=>by
    have ih:=qV (r:=r) (k:=k) (v:=v) D (List.pairwise_cons.1 h).2
    unfold ins
    split
    · rename_i hk
      have G:¬k=p.1:=fun e=>FC k (by rw [←e] at hk; exact hk)
      simp only [BN,ih,if_neg G]
      by_cases e:D=k
      · subst e; simp [G]
      · simp [e]
    · rename_i hk
      split
      · rename_i e
        subst e
        simp only [BN,if_true]
        by_cases e:D=p.1 <;> simp [e]
      · rename_i e
        have J:=jL hk e
        rw [AdO h J]
        simp only [BN]
theorem uN {r:Int} {k:FI} {v:AN} {l:List (FI×AN)} (h:srt l):(ins r k v l).Perm (EO k (match BN k l with | some w=>EK r w v | none=>v) l):=by
  refine ZC (QS (jN h)) (HC (QS h) _ _) fun D=>?_
  rw [qV D h]
  by_cases e:D=k
  · subst e; simp [BO]
  · simp [e,BK e]
def MT {α:Type} (l:List (FI×AN)) (mk:FI→Int→α):List α×Int:=if l.all (fun p=>(JC p.2).2) then (l.map (fun p=>mk p.1 (JC p.2).1),0) else ([],12)
def uO (t:AD):FI×Int:=((t.Row,t.Col),t.Val)
def uP (k:FI) (v:Int):AD:=⟨k.1,k.2,v⟩
def cD (t:AL):FI×Int:=((t.From,t.To),t.W)
def yL (k:FI) (v:Int):AL:=⟨k.1,k.2,v⟩
theorem qW {α:Type} {U:α→α→(Int→Prop)→Prop} (G:α→α→Int) (hc:∀ x y Q,Q (G x y)→U x y Q) (hO:SWO (ltOf G)) {xs V:List α} {K:List α→Prop} (hl:xs.length≤1000000000000) (hp:xs.Perm V) (W:V.Pairwise fun x y=>G x y<0) (hK:K V):tZ U xs K:=by
  refine ⟨G,fun x y Q=>hc x y Q,hO,by omega,fun ys J D=>?_⟩
  have O:∀ x y,G x y<0→0≤G y x:=by
    intro x y h
    rcases Int.lt_or_le (G y x) 0 with Y | Y
    · have:=hO.trans x y x (by simpa [ltOf] using h) (by simpa [ltOf] using Y)
      rw [hO.irrefl] at this; cases this
    · exact Y
  have:ys=V:=ZD (J.trans hp) D (W.imp fun {a b} h=>O a b h) fun a b ha Z h1 h2=>by
    have ha:=(J.trans hp).mem_iff.1 ha
    have Z:=(J.trans hp).mem_iff.1 Z
    obtain ⟨i,hi,rfl⟩:=List.getElem_of_mem ha
    obtain ⟨j,hj,rfl⟩:=List.getElem_of_mem Z
    rw [List.pairwise_iff_getElem] at W
    rcases Nat.lt_trichotomy i j with h | h | h
    · have:=W i j hi hj h; omega
    · subst h; rfl
    · have:=W j i hj hi h; omega
  rw [this]; exact hK
def cfT (x y:AD):Int:=xU (PL x.Row y.Row) (PL x.Col y.Col)
theorem qX (x y:AD):cfT x y<0↔NK (x.Row,x.Col) (y.Row,y.Col):=by
  unfold cfT xU PL NK
  (repeat' split) <;> simp only <;> omega
theorem Ai3 {x y:AD} {Q:Int→Prop} (h:Q (cfT x y)):ZH x y Q:=by
  unfold ZH
  exact GB (GB (hG h))
theorem AfZ:SWO (ltOf cfT) where
  irrefl x:=by unfold ltOf; simp only [qX]; simp [NK]
  trans x y z h1 h2:=by unfold ltOf at *; simp only [qX,decide_eq_true_eq] at *; exact LB h1 h2
  ntrans x y z h1 h2:=by unfold ltOf at *; simp only [qX,decide_eq_false_iff_not,NK] at *; omega
def cfE (x y:AL):Int:=xU (xU (PL x.From y.From) (PL x.To y.To)) (PL x.W y.W)
theorem qY (x y:AL):cfE x y<0↔NK (x.From,x.To) (y.From,y.To)∨(x.From=y.From∧x.To=y.To∧x.W<y.W):=by
  unfold cfE xU PL NK
  (repeat' split) <;> simp only <;> omega
theorem Ai4 {x y:AL} {Q:Int→Prop} (h:Q (cfE x y)):VC x y Q:=by
  unfold VC bK
  exact GB (GB (hG (dJ (hG h))))
theorem Ag0:SWO (ltOf cfE) where
  irrefl x:=by unfold ltOf; simp only [qY]; simp [NK]
  trans x y z h1 h2:=by unfold ltOf at *; simp only [qY,decide_eq_true_eq,NK] at *; omega
  ntrans x y z h1 h2:=by unfold ltOf at *; simp only [qY,decide_eq_false_iff_not,NK] at *; omega
theorem YG {m d:List (FI×AN)} {l:List (FI×AN)} {α:Type} {mk:FI→Int→α} (hp:d.Perm l) (D:∀ p∈d,(JC p.2).2=true):MT l mk=(l.map (fun p=>mk p.1 (JC p.2).1),0):=by
  unfold MT
  rw [if_pos]
  rw [List.all_eq_true]
  exact fun p h=>D p (hp.mem_iff.2 h)
theorem qZ {l:List (FI×AN)} {α:Type} {mk:FI→Int→α} {p:FI×AN} (hp:p∈l) (D:(JC p.2).2=false):MT l mk=([],12):=by
  unfold MT
  rw [if_neg]
  rw [List.all_eq_true]
  intro h
  rw [h p hp] at D; cases D
theorem EQ {α β:Type} {f:α→β} {xs:List α} {i:Nat} (h:i<xs.length):(xs.take (i+1)).map f=(xs.take i).map f++[f xs[i]]:=by
  rw [List.take_succ_eq_append_getElem h,List.map_append]; rfl
theorem AbW {r:Int} {D:List AD} {Q:List AD×Int→Prop} (hl:D.length≤1000000) (hv:∀ t∈D,FL t.Val) (hQ:Q (MT (SC r (D.map uO)) uP)):TL r D Q:=by
  unfold TL
  have hvk:∀ (i:Nat) t,t∈(D.take i).map uO→FL t.2:=by
    intro i t ht
    obtain ⟨x,hx,rfl⟩:=List.mem_map.1 ht
    exact hv x (List.mem_of_mem_take hx)
  refine AV (fun (s:List (FI×AN)) i=>(s,i)) 0 D.length (by omega) (fun i m=>m.Perm (SC r ((D.take i).map uO))) (by omega) .nil (fun i m next _ hi U hn=>?_) (fun m next U=>?_)
  · have hx:FL D[i].Val:=hv _ (List.getElem_mem hi)
    have hk:EY m:=List.Perm.nodup (U.symm.map Prod.fst) (QS (OD _ _))
    have hok:=(RZ r _ (hvk i)).2
    have J:∀ w,(match BN (D[i].Row,D[i].Col) m with | some w=>EK r w (LI D[i].Val) | none=>LI D[i].Val)=w→(EO (D[i].Row,D[i].Col) w m).Perm (SC r ((D.take (i+1)).map uO)):=by
      intro w Y
      rw [EQ hi,jM,←Y,oN hk U]
      exact (oM hk U _ _).trans (uN (OD _ _)).symm
    refine AB (fun _=>?_) (fun h=>by omega)
    refine AW hi (GN hx (WX (fun w Y=>AX rfl (QR ?_ (VK hx) (hn _ ?_))) (fun Y=>AO rfl (hn _ ?_))))
    · exact hok _ (U.mem_iff.1 ((HU hk).1 Y))
    · exact J _ (by rw [Y])
    · exact J _ (by rw [Y])
  · refine AB (fun h=>by omega) (fun _=>?_)
    rw [List.take_length] at U
    have V:=RZ r (D.map uO) (by simpa using hvk D.length)
    have O:=OD r (D.map uO)
    generalize SC r (D.map uO)=l at U V O hQ
    have hll:l.length≤1000000:=by simp at V; omega
    refine EB (fun s:List AD×List (FI×AN)=>∃ d,(d++s.2).Perm l∧s.1=d.map (fun p=>uP p.1 (JC p.2).1)∧∀ p∈d,(JC p.2).2=true) (fun s=>s.2.length) ⟨[],by simpa using U,rfl,by simp⟩ ?_
    rintro ⟨acc,rest⟩ next ⟨d,Z,rfl,G⟩ hn
    simp only at Z
    refine gU (fun e=>?_) (fun p rr hp=>?_)
    · subst e
      simp only [List.append_nil] at Z
      refine qW cfT (fun _ _ _=>Ai3) AfZ (by have:=Z.length_eq; simp; omega) (Z.map _) ?_ ?_
      · rw [List.pairwise_map]
        exact List.Pairwise.imp (R:=fun a b:FI×AN=>NK a.1 b.1) (fun {a b} h=>(qX _ _).2 h) O
      · rw [YG (m:=[]) Z G] at hQ; exact hQ
    · have W:(d++p :: rr).Perm l:=(List.Perm.append_left d hp.symm).trans Z
      have hpl:p∈l:=W.mem_iff.1 (by simp)
      refine ZN (V.2 p hpl) (CP (fun h=>?_) (fun h=>?_))
      · rw [qZ hpl h] at hQ; exact hQ
      · refine BA ?_ (hn _ ⟨d++[p],by simpa using W,by simp [uP],?_⟩ ?_)
        · have:=W.length_eq; simp at this ⊢; omega
        · intro q hq
          rcases List.mem_append.1 hq with hq | hq
          · exact G q hq
          · simp at hq; subst hq; exact h
        · have:=hp.length_eq; simp at this ⊢; omega
theorem kW {r:Int} {D:List AL} {Q:List AL×Int→Prop} (hr:1≤r∧r≤5) (hl:D.length≤1000000) (hv:∀ t∈D,FL t.W) (hQ:Q (MT (SC r (D.map cD)) yL)):PX r D Q:=by
  unfold PX
  refine KQ (AO (by simp [hr]) ?_)
  have hvk:∀ (i:Nat) t,t∈(D.take i).map cD→FL t.2:=by
    intro i t ht
    obtain ⟨x,hx,rfl⟩:=List.mem_map.1 ht
    exact hv x (List.mem_of_mem_take hx)
  refine AV (fun (s:List (FI×AN)) i=>(s,i)) 0 D.length (by omega) (fun i m=>m.Perm (SC r ((D.take i).map cD))) (by omega) .nil (fun i m next _ hi U hn=>?_) (fun m next U=>?_)
  · have hx:FL D[i].W:=hv _ (List.getElem_mem hi)
    have hk:EY m:=List.Perm.nodup (U.symm.map Prod.fst) (QS (OD _ _))
    have hok:=(RZ r _ (hvk i)).2
    have J:∀ w,(match BN (D[i].From,D[i].To) m with | some w=>EK r w (LI D[i].W) | none=>LI D[i].W)=w→(EO (D[i].From,D[i].To) w m).Perm (SC r ((D.take (i+1)).map cD)):=by
      intro w Z
      rw [EQ hi,jM,←Z,oN hk U]
      exact (oM hk U _ _).trans (uN (OD _ _)).symm
    refine AB (fun _=>?_) (fun h=>by omega)
    refine AW hi (GN hx (WX (fun w Z=>AX rfl (QR ?_ (VK hx) (hn _ ?_))) (fun Z=>AO rfl (hn _ ?_))))
    · exact hok _ (U.mem_iff.1 ((HU hk).1 Z))
    · exact J _ (by rw [Z])
    · exact J _ (by rw [Z])
  · refine AB (fun h=>by omega) (fun _=>?_)
    rw [List.take_length] at U
    have V:=RZ r (D.map cD) (by simpa using hvk D.length)
    have O:=OD r (D.map cD)
    generalize SC r (D.map cD)=l at U V O hQ
    have hll:l.length≤1000000:=by simp at V; omega
    refine EB (fun s:List AL×List (FI×AN)=>∃ d,(d++s.2).Perm l∧s.1=d.map (fun p=>yL p.1 (JC p.2).1)∧∀ p∈d,(JC p.2).2=true) (fun s=>s.2.length) ⟨[],by simpa using U,rfl,by simp⟩ ?_
    rintro ⟨acc,rest⟩ next ⟨d,hd,rfl,G⟩ hn
    simp only at hd
    refine gU (fun e=>?_) (fun p rr hp=>?_)
    · subst e
      simp only [List.append_nil] at hd
      refine qW cfE (fun _ _ _=>Ai4) Ag0 (by have:=hd.length_eq; simp; omega) (hd.map _) ?_ ?_
      · rw [List.pairwise_map]
        exact List.Pairwise.imp (R:=fun a b:FI×AN=>NK a.1 b.1) (fun {a b} h=>(qY _ _).2 (.inl h)) O
      · rw [YG (m:=[]) hd G] at hQ; exact hQ
    · have Y:(d++p :: rr).Perm l:=(List.Perm.append_left d hp.symm).trans hd
      have hpl:p∈l:=Y.mem_iff.1 (by simp)
      refine ZN (V.2 p hpl) (CP (fun h=>?_) (fun h=>?_))
      · rw [qZ hpl h] at hQ; exact hQ
      · refine BA ?_ (hn _ ⟨d++[p],by simpa using Y,by simp [yL],?_⟩ ?_)
        · have:=Y.length_eq; simp at this ⊢; omega
        · intro q hq
          rcases List.mem_append.1 hq with hq | hq
          · exact G q hq
          · simp at hq; subst hq; exact h
        · have:=hp.length_eq; simp at this ⊢; omega
theorem rA {r:Int} {k:FI} {v:AN}:∀ {l:List (FI×AN)} {n:Nat} (h:n<l.length),(∀ j (D:j<n),NK (l[j]'(by omega)).1 k)→l[n].1=k→ins r k v l=l.set n (k,EK r l[n].2 v)
  | [],n,h,_,_=>by simp at h
  | p :: l,0,h,_,he=>by
    have he:p.1=k:=he
    subst he
    simp [ins,FC]
  | p :: l,n+1,h,hl,he=>by
    have G:NK p.1 k:=hl 0 (by omega)
    have:=rA (r:=r) (v:=v) (l:=l) (n:=n) (by simpa using h) (fun j D=>hl (j+1) (by omega)) he
    simp [ins,G,this]
theorem AaR {r:Int} {k:FI} {v:AN}:∀ {l:List (FI×AN)} {n:Nat} (D:n≤l.length),(∀ j (G:j<n),NK (l[j]'(by omega)).1 k)→(∀ h:n<l.length,¬NK l[n].1 k∧l[n].1≠k)→ins r k v l=l.take n++(k,v) :: l.drop n
  | [],n,D,_,_=>by simp [ins]
  | p :: l,0,D,_,he=>by
    have:=he (by simp)
    simp only [List.getElem_cons_zero] at this
    simp [ins,this.1,this.2]
  | p :: l,n+1,D,hl,he=>by
    have J:NK p.1 k:=hl 0 (by omega)
    have:=AaR (r:=r) (v:=v) (l:=l) (n:=n) (by simpa using D) (fun j G=>hl (j+1) (by omega)) (fun h=>he (by simpa using h))
    simp [ins,J,this]
theorem uQ {a b:AL} {Q:Bool→Prop} (h:Q (decide (NK (a.From,a.To) (b.From,b.To)))):QK a b Q:=by
  unfold QK
  refine AB (fun D=>?_) (fun D=>CC (fun G=>?_) (fun G=>?_))
  · rwa [decide_eq_true (by unfold NK; exact .inl D)] at h
  · rwa [show decide (NK (a.From,a.To) (b.From,b.To))=decide (a.To<b.To) by apply decide_eq_decide.2; simp only [NK]; omega] at h
  · rwa [decide_eq_false (by simp only [NK]; omega)] at h
def e0 (p:FI×AN):AL:=yL p.1 0
theorem kX {r:Int} {D:List AL} {Q:List AL×Int→Prop} (hr:1≤r∧r≤5) (hl:D.length≤1000000) (hv:∀ t∈D,FL t.W) (hQ:Q (MT (SC r (D.map cD)) yL)):PW r D Q:=by
  unfold PW
  refine uM (AO (by simp [hr]) ?_)
  have hvk:∀ (i:Nat) t,t∈(D.take i).map cD→FL t.2:=by
    intro i t ht
    obtain ⟨x,hx,rfl⟩:=List.mem_map.1 ht
    exact hv x (List.mem_of_mem_take hx)
  refine AV (fun (s:List AL×List AN) i=>(s.1,s.2,i)) 0 D.length (by omega) (fun i s=>s.1=(SC r ((D.take i).map cD)).map e0∧s.2=(SC r ((D.take i).map cD)).map (·.2)) (s0:=([],[])) (by omega) ⟨rfl,rfl⟩ (fun i s next _ hi hm hn=>?_) (fun s next hm=>?_)
  · obtain ⟨es,ws⟩:=s
    obtain ⟨he,hw⟩:=hm
    simp only at he hw
    have hx:FL D[i].W:=hv _ (List.getElem_mem hi)
    have O:=RZ r _ (hvk i)
    have hstep:SC r ((D.take (i+1)).map cD)=ins r (D[i].From,D[i].To) (LI D[i].W) (SC r ((D.take i).map cD)):=by rw [EQ hi,jM]; rfl
    simp only [hstep] at hn
    generalize SC r ((D.take i).map cD)=l at he hw O hn
    subst he hw
    have hll:l.length≤1000000:=by have:=O.1; simp at this; omega
    refine AB (fun _=>?_) (fun h=>by omega)
    have hel:∀ (j:Nat) (h:j<l.length),(l.map e0)[j]? = some (e0 l[j]):=fun j h=>by simp [h]
    -- where it goes
    refine DP (fun a:Int=>∃ n:Nat,a=n∧n≤l.length∧(∀ (j:Nat) (hj:j<n) (hjl:j<l.length),NK l[j].1 (D[i].From,D[i].To))∧∀ h:n<l.length,¬NK l[n].1 (D[i].From,D[i].To)) ?_ fun k hk=>?_
    · rintro _ ⟨n,rfl,G,hlt,hge⟩
      have Y:∀ j (hj:j<n),NK (l[j]'(by omega)).1 (D[i].From,D[i].To):=fun j hj=>hlt j hj (by omega)
      refine AW hi (uK hx ?_)
      refine DP (fun b=>b=decide (∃ h:n<l.length,l[n].1=(D[i].From,D[i].To))) ?_ fun k hk=>?_
      · rintro _ rfl
        refine AB (fun hb=>?_) (fun hb=>?_)
        · obtain ⟨h,hb⟩:=hb
          refine AP (by omega) (x:=l[n].2) (by simp [h]) (qU (O.2 _ (List.getElem_mem h)) (VK hx) (AP (by omega) (x:=l[n].2) (by simp [h]) (hn (l.map e0,(l.map (·.2)).set n (EK r l[n].2 (LI D[i].W))) ⟨?_,?_⟩)))
          · rw [rA h Y hb,List.map_set]
            apply List.ext_getElem?
            intro j
            rw [List.getElem?_set]
            split
            · rename_i e; subst e; simp [h,e0,hb]
            · rfl
          · rw [rA h Y hb,List.map_set]
        · have hins:=AaR (r:=r) (v:=LI D[i].W) G Y (fun h=>⟨hge h,fun e=>hb ⟨h,e⟩⟩)
          rw [hins] at hn
          refine BA (by simp; omega) (BA (by simp; omega) ?_)
          refine EB (fun s:List AL×List AN×Int=>∃ j:Nat,s.2.2=j∧n≤j∧j≤l.length∧s.1.length=l.length+1∧s.2.1.length=l.length+1∧(∀ q,q<j→s.1[q]? = (l.map e0)[q]?∧s.2.1[q]? = (l.map (·.2))[q]?)∧∀ q,j≤q→q<l.length→s.1[q+1]? = (l.map e0)[q]?∧s.2.1[q+1]? = (l.map (·.2))[q]?)
            (fun s=>s.2.2.toNat) ⟨l.length,?_,G,Nat.le_refl _,by simp,by simp,fun q J=>?_,fun q h1 h2=>by omega⟩ ?_
          · simp only; rw [BE (by simp <;> omega) (by simp <;> omega)]; simp
          · simp only; rw [List.getElem?_append_left (by simpa using J),List.getElem?_append_left (by simpa using J)]; exact ⟨rfl,rfl⟩
          rintro ⟨s1,s2,s3⟩ next ⟨j,hj,hnj,hjl,hl1,hl2,U,Z⟩ hnx
          simp only at hj hl1 hl2 U Z
          subst hj
          refine AB (fun h=>?_) (fun h=>?_)
          · obtain ⟨j,rfl⟩:∃ m,j=m+1:=⟨j - 1,by omega⟩
            have hjm:j<l.length:=by omega
            have ej:AJ (((j+1:Nat):Int) - 1)=(j:Int):=by rw [BE (by omega) (by omega)]; omega
            rw [ej]
            refine AP (by omega) (x:=e0 l[j]) (by simp only [Int.toNat_natCast]; rw [(U j (by omega)).1,hel j hjm]) (AW (i:=j+1) (by omega) (AP (by omega) (x:=l[j].2) (by simp only [Int.toNat_natCast]; rw [(U j (by omega)).2]; simp [hjm]) (AW (i:=j+1) (by omega) (hnx _ ⟨j,rfl,by omega,by omega,by simp [hl1],by simp [hl2],fun q J=>?_,fun q h1 h2=>?_⟩ ?_))))
            · simp only [Int.toNat_natCast]
              rw [List.getElem?_set_ne (by omega),List.getElem?_set_ne (by omega)]
              exact U q (by omega)
            · simp only [Int.toNat_natCast]
              rw [List.getElem?_set,List.getElem?_set]
              by_cases e:q=j
              · subst e; rw [if_pos rfl,if_pos (by omega),if_pos rfl,if_pos (by omega)]; simp [hjm]
              · rw [if_neg (by omega),if_neg (by omega)]; exact Z q (by omega) h2
            · simp only; omega
          · have hjn:j=n:=by omega
            subst hjn
            refine AW hi (AW hi (AW (by omega) (AW (by omega) (hn (s1.set j (yL (D[i].From,D[i].To) 0),s2.set j (LI D[i].W)) ⟨?_,?_⟩))))
            · simp only [Int.toNat_natCast,List.map_append,List.map_cons]
              have:=kJ (pre:=(l.take j).map e0) (post:=(l.drop j).map e0) (s:=s1) (x:=e0 ((D[i].From,D[i].To),LI D[i].W)) (by simp [hl1]; omega) (fun q J=>?_) (fun q J=>?_)
              · simp only [List.length_map,List.length_take,Nat.min_eq_left G] at this; exact this
              · simp only [List.length_map,List.length_take,Nat.min_eq_left G] at J
                rw [(U q J).1]; simp [J]
              · simp only [List.length_map,List.length_take,List.length_drop,Nat.min_eq_left G] at J ⊢
                rw [show j+1+q=j+q+1 by omega,(Z (j+q) (by omega) (by omega)).1]; simp
            · simp only [Int.toNat_natCast,List.map_append,List.map_cons]
              have:=kJ (pre:=(l.take j).map (·.2)) (post:=(l.drop j).map (·.2)) (s:=s2) (x:=LI D[i].W) (by simp [hl2]; omega) (fun q J=>?_) (fun q J=>?_)
              · simp only [List.length_map,List.length_take,Nat.min_eq_left G] at this; exact this
              · simp only [List.length_map,List.length_take,Nat.min_eq_left G] at J
                rw [(U q J).2]; simp [J]
              · simp only [List.length_map,List.length_take,List.length_drop,Nat.min_eq_left G] at J ⊢
                rw [show j+1+q=j+q+1 by omega,(Z (j+q) (by omega) (by omega)).2]; simp
      · refine AB (fun h=>?_) (fun h=>hk _ ?_)
        · have h:n<l.length:=by simpa using h
          refine AW hi (AP (by omega) (x:=e0 l[n]) (by simpa using hel n h) (uQ (hk _ ?_)))
          have hg:=hge h
          have e1:((e0 l[n]).From,(e0 l[n]).To)=l[n].1:=rfl
          rw [e1]
          by_cases e:l[n].1=(D[i].From,D[i].To)
          · rw [decide_eq_true (p:=∃ h:n<l.length,l[n].1=_) ⟨h,e⟩,e,decide_eq_false (FC _)]; rfl
          · rw [decide_eq_false (p:=∃ h:n<l.length,l[n].1=_) (fun ⟨_,e'⟩=>e e'),decide_eq_true (jL hg e)]; rfl
        · rw [decide_eq_false]
          rintro ⟨h',_⟩
          simp at h; omega
    · refine DC l.length (by omega) (fun n=>∀ (j:Nat) (hj:j<n) (hjl:j<l.length),NK l[j].1 (D[i].From,D[i].To)) (by simp) (fun j next hj hR hnx=>?_) (fun next hR=>?_)
      · refine AB (fun _=>?_) (fun h=>by simp at h; omega)
        refine AP (by omega) (x:=e0 l[j]) (by simpa using hel j hj) (AW hi (uQ (AB (fun h=>hnx fun q J hql=>?_) (fun h=>hk _ ⟨j,rfl,by omega,hR,fun _=>h⟩))))
        by_cases e:q=j
        · subst e; exact h
        · exact hR q (by omega) hql
      · refine AB (fun h=>by simp at h) (fun _=>hk _ ⟨l.length,rfl,Nat.le_refl _,hR,fun h=>by omega⟩)
  · obtain ⟨es,ws⟩:=s
    obtain ⟨he,hw⟩:=hm
    simp only at he hw
    rw [List.take_length] at he hw
    refine AB (fun h=>by omega) (fun _=>?_)
    have O:=RZ r (D.map cD) (by simpa using hvk D.length)
    generalize SC r (D.map cD)=l at he hw O hQ
    subst he hw
    have hll:l.length≤1000000:=by have:=O.1; simp at this; omega
    refine AV (fun (s:List AL) i=>(s,i)) 0 l.length (by omega) (fun i s=>s=(l.take i).map (fun p=>yL p.1 (JC p.2).1)++(l.drop i).map e0∧∀ p∈l.take i,(JC p.2).2=true) (by omega) ⟨by simp,by simp⟩ (fun i s next _ hi hm hn=>?_) (fun s next hm=>?_)
    · obtain ⟨rfl,V⟩:=hm
      refine AB (fun _=>?_) (fun h=>by simp at h; omega)
      refine AP (by omega) (x:=l[i].2) (by simp [hi]) (iQ (O.2 _ (List.getElem_mem hi)) (CP (fun h=>?_) (fun h=>?_)))
      · rw [qZ (List.getElem_mem hi) h] at hQ; exact hQ
      · have hdr:l.drop i=l[i] :: l.drop (i+1):=by rw [List.drop_eq_getElem_cons hi]
        have hlen:((l.take i).map (fun p=>yL p.1 (JC p.2).1)).length=i:=by simp; omega
        refine AP (by omega) (x:=e0 l[i]) ?_ (hn _ ⟨?_,?_⟩)
        · rw [hdr,Int.toNat_natCast,List.getElem?_append_right (by omega),hlen,Nat.sub_self]; rfl
        · rw [hdr,Int.toNat_natCast,List.set_append,if_neg (by omega),hlen,EQ hi,Nat.sub_self,List.append_assoc]; rfl
        · intro p hp
          rw [List.take_succ_eq_append_getElem hi] at hp
          rcases List.mem_append.1 hp with hp | hp
          · exact V p hp
          · simp at hp; subst hp; exact h
    · obtain ⟨rfl,V⟩:=hm
      refine AB (fun h=>by simp at h) (fun _=>?_)
      rw [YG (m:=[]) (.refl l) (by simpa using V)] at hQ
      simpa using hQ
end Go.Proofs.YtbohadngdkjljaaGreat
