import Derived.Test.YtbohadngdkjljaaGreatT
import Derived.Test.YtbohadngdkjljaaGreatFwQ
namespace Go.Proofs.YtbohadngdkjljaaGreat
open Go Go.Fw
set_option linter.unusedVariables false
set_option linter.unusedSimpArgs false
variable {α:Type}
def QK (x y:Int):Int:=if x<y then -1 else if y<x then 1 else 0
theorem GZ {x y:Int} {Q:Int→Prop} (h:Q (QK x y)):CY x y Q:=by
 unfold CY GV
 unfold QK at h
 refine AC (by simp) (AC (by simp) (A0 (fun D=>?_) (fun D=>A0 (fun G=>?_) (fun G=>?_))))
 · rwa [if_pos D] at h
 · rwa [if_neg D,if_pos G] at h
 · rwa [if_neg D,if_neg G] at h
theorem kV {x y:Int} {Q:Int→Prop} (h:Q (QK x y)):IZ x y Q:=by
 unfold IZ LD
 unfold QK at h
 refine AC (by simp) (AC (by simp) (A0 (fun D=>?_) (fun D=>A0 (fun G=>?_) (fun G=>?_))))
 · rwa [if_pos D] at h
 · rwa [if_neg D,if_pos G] at h
 · rwa [if_neg D,if_neg G] at h
theorem hP {x y:Int} {Q:Int→Prop} (h:Q (QK x y)):HY x y Q:=by
 unfold HY K7
 unfold QK at h
 refine AC (by simp) (AC (by simp) (A0 (fun D=>?_) (fun D=>A0 (fun G=>?_) (fun G=>?_))))
 · rwa [if_pos D] at h
 · rwa [if_neg D,if_pos G] at h
 · rwa [if_neg D,if_neg G] at h
def uU (x y:Int):Int:=if x=0 then y else x
theorem iW {x y:Int} {Q:Int→Prop} (h:Q (uU x y)):JM [x,y] Q:=by
 unfold JM
 unfold uU at h
 refine DF 2 (by omega) (fun i=>(0<i→x=0)∧(1<i→y=0)) ⟨by omega,by omega⟩ (fun i next hi D G=>?_) (fun next D=>?_)
 · refine A0 (fun _=>?_) (fun h=>by simp at h; omega)
   match i,hi with
   | 0,_=>exact AA (by omega) (x:=x) rfl (CB (fun e=>by rwa [if_neg e] at h) (fun e=>G ⟨fun _=>e,by omega⟩))
   | 1,_=>exact AA (by omega) (x:=y) rfl (CB (fun e=>by rwa [if_pos (D.1 (by omega))] at h) (fun e=>G ⟨fun _=>D.1 (by omega),fun _=>e⟩))
 · refine A0 (fun h=>by simp at h) (fun _=>?_)
   rwa [if_pos (D.1 (by omega)),D.2 (by omega)] at h
def LG (a:AL):Prop:=-9223372036854775808≤a.Hi∧a.Hi≤9223372036854775807∧0≤a.Lo∧a.Lo≤18446744073709551615
def GM (x:Int):Prop:=-9223372036854775808≤x∧x≤9223372036854775807
def UN (a b:AL):Prop:=a.Hi<b.Hi∨(a.Hi=b.Hi∧a.Lo≤b.Lo)
instance (a b:AL):Decidable (UN a b):=by unfold UN; infer_instance
theorem NM (x:Int):IntKind.wrap .u64 x=x % 18446744073709551616:=by
 simp [IntKind.wrap,IntKind.bits,IntKind.signed]
theorem G3 (x:Int):A7 x=(x+9223372036854775808) % 18446744073709551616 - 9223372036854775808:=by
 show IntKind.wrap .i64 x=_
 rw [IntKind.wrap_i64]
def Z2 (v:Int):AL:=⟨if v<0 then -1 else 0,v % 18446744073709551616⟩
theorem kW {v:Int} (h:GM v):LG (Z2 v):=by unfold Z2 LG; unfold GM at h; simp only; split <;> omega
theorem AdL {v:Int} (h:GM v):shr .i64 v 63=if v<0 then -1 else 0:=by
 unfold GM at h
 show v.fdiv (2 ^ 63)=_
 rw [Int.fdiv_eq_ediv_of_nonneg _ (by decide)]
 split
 · rw [show (2:Int) ^ 63=9223372036854775808 from rfl]; omega
 · rw [show (2:Int) ^ 63=9223372036854775808 from rfl]; omega
theorem JW {v:Int} {Q:AL→Prop} (h:GM v) (D:Q (Z2 v)):MG v Q:=by
 unfold MG; rw [AdL h,NM]; exact D
theorem EZ {v:Int} {Q:AL→Prop} (h:GM v) (D:Q (Z2 v)):GC v Q:=by
 unfold GC; unfold Z2 at D
 refine A0 (fun G=>?_) (fun G=>?_)
 · rw [if_pos G] at D; rwa [NM]
 · rw [if_neg G] at D; rwa [NM]
theorem nZ {a b:AL} {Q:Int→Prop} (h:Q (uU (QK a.Hi b.Hi) (QK a.Lo b.Lo))):PC a b Q:=by
 unfold PC
 exact kV (hP (iW h))
theorem iX {a b:AL} {Q:AL→Prop} (D:Q (if UN a b then a else b)):OC a b Q:=by
 unfold OC
 refine nZ (A0 (fun h=>?_) (fun h=>?_))
 · rwa [if_pos] at D
   unfold UN; unfold uU QK at h
   (repeat' split at h) <;> omega
 · rwa [if_neg] at D
   unfold UN; unfold uU QK at h
   (repeat' split at h) <;> omega
theorem KV {a b:AL} (h1:a.Hi=b.Hi) (h2:a.Lo=b.Lo):a=b:=by cases a; cases b; simp_all
theorem kX {a b:AL} {Q:Int→Prop} (J:¬UN b a→Q (-1)) (G:UN b a→∀ x:Int,0≤x→Q x):GU a b Q:=by
 unfold GU
 refine CA (fun _=>UN b a) (fun _ D=>BB (fun _=>G D 0 (by omega)) (fun _=>G D 1 (by omega))) fun k hk=>?_
 refine A0 (fun h=>J ?_) (fun h=>BB (fun e=>A0 (fun O=>J ?_) (fun O=>hk () ?_)) (fun e=>hk () ?_))
 all_goals (unfold UN; omega)
def F1 (r:Int) (a b:AL):AL:=
 if r=1∨r=3∨r=4 then (if UN a b then a else b)
 else if r=2 then (if a=⟨0,0⟩∧b=⟨0,0⟩ then ⟨0,0⟩ else ⟨0,1⟩)
 else if r=5 then ⟨A7 (a.Hi+b.Hi+(if 18446744073709551616≤a.Lo+b.Lo then 1 else 0)),(a.Lo+b.Lo) % 18446744073709551616⟩
 else ⟨0,0⟩
theorem QL {r:Int} {a b:AL} (ha:LG a) (hb:LG b):LG (F1 r a b):=by
 unfold F1
 split
 · split <;> assumption
 · split
   · split <;> (unfold LG; simp)
   · split
     · unfold LG at *; simp only [G3]; omega
     · unfold LG; simp
theorem ZN {b:Bool} {Q:AL→Prop} (D:Q (if b then ⟨0,1⟩ else ⟨0,0⟩)):LQ b Q:=by
 unfold LQ
 refine ⟨fun h=>JW (by unfold GM; omega) ?_,fun h=>?_⟩
 · subst h; exact D
 · subst h; exact D
theorem MM {b:Bool} {Q:AL→Prop} (D:Q (if b then ⟨0,1⟩ else ⟨0,0⟩)):JL b Q:=by
 unfold JL
 refine ⟨fun h=>?_,fun h=>?_⟩
 · subst h; exact D
 · subst h; exact D
theorem cZ {a b:AL} {Q:AL→Prop} (J:LG a) (G:LG b) (D:Q (F1 5 a b)):VA a b Q:=by
 unfold VA QB
 have e:F1 5 a b=⟨A7 (a.Hi+b.Hi+(if 18446744073709551616≤a.Lo+b.Lo then 1 else 0)),(a.Lo+b.Lo) % 18446744073709551616⟩:=rfl
 rw [e] at D
 unfold LG at J G
 simp only [NM,G3] at D ⊢
 refine A0 (fun h=>?_) (fun h=>?_)
 · rw [if_pos (by omega)] at D
   have:((a.Hi % 18446744073709551616+b.Hi % 18446744073709551616) % 18446744073709551616+1) % 18446744073709551616=(a.Hi+b.Hi+1) % 18446744073709551616:=by omega
   rw [this]
   have:((a.Hi+b.Hi+1) % 18446744073709551616+9223372036854775808) % 18446744073709551616=(a.Hi+b.Hi+1+9223372036854775808) % 18446744073709551616:=by omega
   rw [this]; exact D
 · rw [if_neg (by omega)] at D
   have:((a.Hi % 18446744073709551616+b.Hi % 18446744073709551616) % 18446744073709551616+0) % 18446744073709551616=(a.Hi+b.Hi+0) % 18446744073709551616:=by omega
   rw [this]
   have:((a.Hi+b.Hi+0) % 18446744073709551616+9223372036854775808) % 18446744073709551616=(a.Hi+b.Hi+0+9223372036854775808) % 18446744073709551616:=by omega
   rw [this]; exact D
theorem KB {a b:AL} {Q:AL→Prop} (J:LG a) (G:LG b) (D:Q (F1 5 a b)):K6 a b Q:=by
 unfold K6
 have e:F1 5 a b=⟨A7 (a.Hi+b.Hi+(if 18446744073709551616≤a.Lo+b.Lo then 1 else 0)),(a.Lo+b.Lo) % 18446744073709551616⟩:=rfl
 rw [e] at D
 unfold LG at J G
 simp only [NM,G3] at D ⊢
 refine A0 (fun h=>?_) (fun h=>?_)
 · rw [if_pos (by omega)] at D
   have:((a.Hi+b.Hi+9223372036854775808) % 18446744073709551616 - 9223372036854775808+1+9223372036854775808) % 18446744073709551616=(a.Hi+b.Hi+1+9223372036854775808) % 18446744073709551616:=by omega
   rw [this]; exact D
 · rw [if_neg (by omega)] at D
   rwa [show a.Hi+b.Hi+0=a.Hi+b.Hi by omega] at D
theorem VG {r:Int} {a b:AL} {Q:AL→Prop} (ha:LG a) (W:LG b) (D:Q (F1 r a b)):SX r a b Q:=by
 unfold SX
 refine CA (fun t=>t=decide (r=1∨r=3∨r=4)) (fun t V=>?_) fun k hk=>?_
 · subst V
   refine A0 (fun h=>iX ?_) (fun h=>BB (fun O=>?_) (fun O=>BB (fun G=>cZ ha W ?_) (fun G=>?_)))
   · unfold F1 at D; rwa [if_pos h] at D
   · subst O
     unfold F1 at D
     rw [if_neg h,if_pos rfl] at D
     refine BN (fun J=>ZN ?_) (fun he=>ZN ?_)
     · rw [if_neg] at D
       · exact D
       · rintro ⟨Y,Z⟩; subst Y Z; simp at J
     · have he:a=b:=by simpa using he
       subst he
       by_cases e:a=⟨0,0⟩
       · rw [if_pos ⟨e,e⟩] at D; simpa [e] using D
       · rw [if_neg (fun h=>e h.1)] at D; simpa [e] using D
   · subst G; exact D
   · unfold F1 at D; rwa [if_neg h,if_neg O,if_neg G] at D
 · refine BB (fun h=>hk _ ?_) (fun h=>BB (fun U=>hk _ ?_) (fun U=>hk _ ?_))
   · simp [h]
   · simp [U]
   · by_cases h4:r=4 <;> simp [h,U,h4]
theorem TU {r:Int} {a b:AL} {Q:AL→Prop} (ha:LG a) (Y:LG b) (D:Q (F1 r a b)):PP r a b Q:=by
 unfold PP
 refine CA (fun t=>t=decide (r=1∨r=3∨r=4)) (fun t W=>?_) fun k hk=>?_
 · subst W
   refine A0 (fun h=>kX (fun O=>A0 (fun _=>?_) (fun h=>by omega)) (fun O x hx=>A0 (fun h=>by omega) (fun _=>?_))) (fun h=>BB (fun V=>?_) (fun V=>BB (fun G=>KB ha Y ?_) (fun G=>?_)))
   · unfold F1 at D; rwa [if_pos h,if_neg O] at D
   · unfold F1 at D; rwa [if_pos h,if_pos O] at D
   · subst V
     unfold F1 at D
     rw [if_neg h,if_pos rfl] at D
     refine BN (fun J=>MM ?_) (fun he=>MM ?_)
     · rw [if_neg] at D
       · exact D
       · rintro ⟨Z,e2⟩; subst Z; simp at J
     · have he:a=⟨0,0⟩:=by simpa using he
       subst he
       by_cases e:b=⟨0,0⟩
       · rw [if_pos ⟨rfl,e⟩] at D; simpa [e] using D
       · rw [if_neg (fun h=>e h.2)] at D; simpa [e] using D
   · subst G; exact D
   · unfold F1 at D; rwa [if_neg h,if_neg V,if_neg G] at D
 · refine BB (fun h=>hk _ ?_) (fun h=>BB (fun U=>hk _ ?_) (fun U=>hk _ ?_))
   · simp [h]
   · simp [U]
   · by_cases h4:r=4 <;> simp [h,U,h4]
def M9 (a:AL):Int×Bool:=if (a.Hi=0∧a.Lo≤9223372036854775807)∨(a.Hi = -1∧9223372036854775808≤a.Lo) then (A7 a.Lo,true) else (0,false)
theorem iY {r:Int} {a:AL} {Q:Int×Bool→Prop} (G:LG a) (D:Q (M9 a)):LY r a Q:=by
 unfold LY VB
 unfold LG at G
 unfold M9 at D
 refine JW (by unfold GM; rw [G3]; omega) (BN (fun h=>?_) (fun h=>?_))
 · rw [if_neg] at D
   · exact D
   · intro h'
     simp only [beq_eq_false_iff_ne,ne_eq] at h
     apply h
     apply KV <;> simp only [Z2,G3] <;> (try split) <;> omega
 · have h:Z2 (A7 a.Lo)=a:=by simpa using h
   rw [if_pos] at D
   · exact D
   · rw [←h]
     simp only [Z2,G3]
     split <;> omega
theorem UO {a:AL} {Q:Int×Bool→Prop} (O:LG a) (D:Q (M9 a)):ME a Q:=by
 unfold ME
 unfold LG at O
 have hy (h:(a.Hi=0∧a.Lo≤9223372036854775807)∨(a.Hi = -1∧9223372036854775808≤a.Lo)):Q (A7 a.Lo,true):=by unfold M9 at D; rwa [if_pos h] at D
 have hn (h:¬((a.Hi=0∧a.Lo≤9223372036854775807)∨(a.Hi = -1∧9223372036854775808≤a.Lo))):Q (0,false):=by unfold M9 at D; rwa [if_neg h] at D
 refine BB (fun h=>A0 (fun J=>hy ?_) (fun J=>BB (fun G=>by omega) (fun G=>hn ?_))) (fun h=>BB (fun J=>A0 (fun G=>hy ?_) (fun G=>hn ?_)) (fun J=>hn ?_))
 all_goals (try rw [G3] at J); (try rw [G3] at G); omega
theorem JX {r:Int} {Q:Bool→Prop} (D:Q (decide (1≤r∧r≤5))):PA r Q:=by
 unfold PA
 refine A0 (fun h=>?_) (fun h=>?_)
 · rwa [show decide (r<6)=decide (1≤r∧r≤5) by apply decide_eq_decide.2; omega]
 · rwa [show decide (1≤r∧r≤5)=false by apply decide_eq_false; omega] at D
theorem JY {r:Int} {Q:Bool→Prop} (D:Q (decide (1≤r∧r≤5))):MD r Q:=by
 unfold MD
 refine A0 (fun h=>?_) (fun h=>?_)
 · rwa [show decide (r≤5)=decide (1≤r∧r≤5) by apply decide_eq_decide.2; omega]
 · rwa [show decide (1≤r∧r≤5)=false by apply decide_eq_false; omega] at D
open Go Go.Fw Go.Sort Go.Shelf
abbrev HN:=Int×Int
def MA (a b:HN):Prop:=a.1<b.1∨(a.1=b.1∧a.2<b.2)
instance (a b:HN):Decidable (MA a b):=by unfold MA; infer_instance
theorem IL {a b c:HN} (h1:MA a b) (h2:MA b c):MA a c:=by unfold MA at *; omega
theorem EE (a:HN):¬MA a a:=by unfold MA; omega
theorem ZO {a b:HN} (h1:¬MA a b) (h2:a≠b):MA b a:=by
 obtain ⟨a1,a2⟩:=a; obtain ⟨b1,b2⟩:=b
 unfold MA at *
 simp only [ne_eq,Prod.mk.injEq] at *
 omega
def ins (r:Int) (k:HN) (v:AL):List (HN×AL)→List (HN×AL)
 | []=>[(k,v)]
 | p :: l=>if MA p.1 k then p :: ins r k v l else if p.1=k then (k,F1 r p.2 v) :: l else (k,v) :: p :: l
def SC (r:Int) (h:List (HN×Int)):List (HN×AL):=h.foldl (fun l t=>ins r t.1 (Z2 t.2) l) []
theorem kY (r:Int) (h:List (HN×Int)) (t:HN×Int):SC r (h++[t])=ins r t.1 (Z2 t.2) (SC r h):=by simp [SC]
def srt (l:List (HN×AL)):Prop:=l.Pairwise fun a b=>MA a.1 b.1
theorem fE {r:Int} {k:HN} {v:AL}:∀ {l:List (HN×AL)} {p:HN×AL},p∈ins r k v l→p.1=k∨∃ q∈l,q.1=p.1
 | [],p,h=>by simp [ins] at h; simp [h]
 | q :: l,p,h=>by
  unfold ins at h
  split at h
  · rcases List.mem_cons.1 h with rfl | h
    · exact .inr ⟨p,by simp,rfl⟩
    · rcases fE h with h | ⟨x,hx,e⟩
      · exact .inl h
      · exact .inr ⟨x,by simp [hx],e⟩
  · split at h
    · rcases List.mem_cons.1 h with rfl | h
      · exact .inl rfl
      · exact .inr ⟨p,by simp [h],rfl⟩
    · rcases List.mem_cons.1 h with rfl | h
      · exact .inl rfl
      · exact .inr ⟨p,h,rfl⟩
theorem kZ {r:Int} {k:HN} {v:AL}:∀ {l:List (HN×AL)},srt l→srt (ins r k v l)
 | [],_=>by simp [ins,srt]
 | p :: l,h=>by
  unfold srt at h
  rw [List.pairwise_cons] at h
  unfold ins
  split
  · rename_i hk
    refine List.pairwise_cons.2 ⟨fun q D=>?_,kZ h.2⟩
    rcases fE D with e | ⟨x,hx,e⟩
    · rw [e]; exact hk
    · rw [←e]; exact h.1 x hx
  · rename_i hk
    split
    · rename_i e
      subst e
      exact List.pairwise_cons.2 ⟨fun q D=>h.1 q D,h.2⟩
    · rename_i e
      have:=ZO hk e
      exact List.pairwise_cons.2 ⟨fun q D=>by
       rcases List.mem_cons.1 D with rfl | D
       · exact this
       · exact IL this (h.1 q D),List.pairwise_cons.2 h⟩
theorem lA (r:Int) (D:List (HN×Int)):srt (SC r D):=by
 unfold SC
 suffices ∀ (D:List (HN×Int)) (l:List (HN×AL)),srt l→srt (D.foldl (fun l t=>ins r t.1 (Z2 t.2) l) l) from this D [] .nil
 intro D
 induction D with
 | nil=>intro l h; exact h
 | cons t D G=>intro l h; exact G _ (kZ h)
theorem fF {l:List (HN×AL)} (h:srt l):FD l:=by
 unfold FD
 rw [List.nodup_iff_pairwise_ne,List.pairwise_map]
 exact List.Pairwise.imp (R:=fun a b:HN×AL=>MA a.1 b.1) (fun {a b} D (e:a.1=b.1)=>EE b.1 (by rw [e] at D; exact D)) h
theorem sW (r:Int) (k:HN) (v:AL):∀ l:List (HN×AL),(ins r k v l).length≤l.length+1
 | []=>by simp [ins]
 | p :: l=>by
  unfold ins
  have:=sW r k v l
  split
  · simp; omega
  · split <;> simp
theorem sX {r:Int} {k:HN} {v:AL} (D:LG v):∀ {l:List (HN×AL)},(∀ p∈l,LG p.2)→∀ p∈ins r k v l,LG p.2
 | [],_,p,h=>by simp [ins] at h; rw [h]; exact D
 | q :: l,hl,p,h=>by
  unfold ins at h
  split at h
  · rcases List.mem_cons.1 h with rfl | h
    · exact hl _ (by simp)
    · exact sX D (fun x G=>hl x (by simp [G])) p h
  · split at h
    · rcases List.mem_cons.1 h with rfl | h
      · exact QL (hl q (by simp)) D
      · exact hl p (by simp [h])
    · rcases List.mem_cons.1 h with rfl | h
      · exact D
      · exact hl p h
theorem TV (r:Int):∀ (D:List (HN×Int)),(∀ t∈D,GM t.2)→(SC r D).length≤D.length∧∀ p∈SC r D,LG p.2:=by
 suffices ∀ (D:List (HN×Int)) (l:List (HN×AL)),(∀ t∈D,GM t.2)→(∀ p∈l,LG p.2)→(D.foldl (fun l t=>ins r t.1 (Z2 t.2) l) l).length≤l.length+D.length∧∀ p∈D.foldl (fun l t=>ins r t.1 (Z2 t.2) l) l,LG p.2 from
  fun D h=>by simpa [SC] using this D [] h (by simp)
 intro D
 induction D with
 | nil=>intro l _ h; exact ⟨by simp,h⟩
 | cons t D J=>
  intro l G h
  have:=J (ins r t.1 (Z2 t.2) l) (fun x O=>G x (by simp [O])) (sX (kW (G t (by simp))) h)
  have h2:=sW r t.1 (Z2 t.2) l
  exact ⟨by simp only [List.foldl_cons,List.length_cons]; omega,this.2⟩
theorem xM {p:HN×AL} {l:List (HN×AL)} {k:HN} (h:srt (p :: l)) (hk:MA k p.1):BK k (p :: l)=none:=by
 apply WP
 intro J
 obtain ⟨q,D,e⟩:=List.mem_map.1 J
 rcases List.mem_cons.1 D with rfl | D
 · exact EE k (e▸hk)
 · have G:=IL hk ((List.pairwise_cons.1 h).1 q D)
   rw [e] at G; exact EE k G
theorem sY {r:Int} {k:HN} {v:AL} (D:HN):∀ {l:List (HN×AL)},srt l→BK D (ins r k v l)=if D=k then some (match BK k l with | some w=>F1 r w v | none=>v) else BK D l
 | [],_=>by simp only [ins,BK]
 | p :: l,h=>by
  have ih:=sY (r:=r) (k:=k) (v:=v) D (List.pairwise_cons.1 h).2
  unfold ins
  split
  · rename_i hk
    have G:¬k=p.1:=fun e=>EE k (by rw [←e] at hk; exact hk)
    simp only [BK,ih,if_neg G]
    by_cases e:D=k
    · subst e; simp [G]
    · simp [e]
  · rename_i hk
    split
    · rename_i e
      subst e
      simp only [BK,if_true]
      by_cases e:D=p.1 <;> simp [e]
    · rename_i e
      have J:=ZO hk e
      rw [xM h J]
      simp only [BK]
theorem xN {r:Int} {k:HN} {v:AL} {l:List (HN×AL)} (h:srt l):(ins r k v l).Perm (FC k (match BK k l with | some w=>F1 r w v | none=>v) l):=by
 refine iV (fF (kZ h)) (GA (fF h) _ _) fun D=>?_
 rw [sY D h]
 by_cases e:D=k
 · subst e; simp [BG]
 · simp [e,BC e]
def OM (l:List (HN×AL)) (mk:HN→Int→α):List α×Int:=if l.all (fun p=>(M9 p.2).2) then (l.map (fun p=>mk p.1 (M9 p.2).1),0) else ([],12)
def dT (t:A1):HN×Int:=((t.Row,t.Col),t.Val)
def qF (k:HN) (v:Int):A1:=⟨k.1,k.2,v⟩
def kvE (t:DW):HN×Int:=((t.From,t.To),t.W)
def mkE (k:HN) (v:Int):DW:=⟨k.1,k.2,v⟩
theorem sZ {U:α→α→(Int→Prop)→Prop} (G:α→α→Int) (hc:∀ x y Q,Q (G x y)→U x y Q) (Y:SWO (ltOf G)) {xs V:List α} {K:List α→Prop} (hl:xs.length≤1000000000000) (hp:xs.Perm V) (W:V.Pairwise fun x y=>G x y<0) (hK:K V):sP U xs K:=by
 refine ⟨G,fun x y Q=>hc x y Q,Y,by omega,fun ys J D=>?_⟩
 have O:∀ x y,G x y<0→0≤G y x:=by
  intro x y h
  rcases Int.lt_or_le (G y x) 0 with h' | h'
  · have:=Y.trans x y x (by simpa [ltOf] using h) (by simpa [ltOf] using h')
    rw [Y.irrefl] at this; cases this
  · exact h'
 have:ys=V:=bQ (J.trans hp) D (W.imp fun {a b} h=>O a b h) fun a b ha Z h1 h2=>by
  have ha:=(J.trans hp).mem_iff.1 ha
  have Z:=(J.trans hp).mem_iff.1 Z
  obtain ⟨i,hi,rfl⟩:=List.getElem_of_mem ha
  obtain ⟨j,hj,rfl⟩:=List.getElem_of_mem Z
  rw [List.pairwise_iff_getElem] at W
  rcases Nat.lt_trichotomy i j with h | h | h
  · have:=W i j hi hj h; omega
  · subst h; rfl
  · have:=W j i hj hi h; omega
 rw [this]; exact hK
def cfT (x y:A1):Int:=uU (QK x.Row y.Row) (QK x.Col y.Col)
theorem lB (x y:A1):cfT x y<0↔MA (x.Row,x.Col) (y.Row,y.Col):=by
 unfold cfT uU QK MA
 (repeat' split) <;> simp only <;> omega
theorem AcM {x y:A1} {Q:Int→Prop} (h:Q (cfT x y)):WS x y Q:=by
 unfold WS
 exact GZ (GZ (iW h))
theorem AaL:SWO (ltOf cfT) where
 irrefl x:=by unfold ltOf; simp only [lB]; simp [MA]
 trans x y z h1 h2:=by unfold ltOf at *; simp only [lB,decide_eq_true_eq] at *; exact IL h1 h2
 ntrans x y z h1 h2:=by unfold ltOf at *; simp only [lB,decide_eq_false_iff_not,MA] at *; omega
theorem fG {m d:List (HN×AL)} {l:List (HN×AL)} {mk:HN→Int→α} (hp:d.Perm l) (D:∀ p∈d,(M9 p.2).2=true):OM l mk=(l.map (fun p=>mk p.1 (M9 p.2).1),0):=by
 unfold OM
 rw [if_pos]
 rw [List.all_eq_true]
 exact fun p h=>D p (hp.mem_iff.2 h)
theorem tA {l:List (HN×AL)} {mk:HN→Int→α} {p:HN×AL} (hp:p∈l) (D:(M9 p.2).2=false):OM l mk=([],12):=by
 unfold OM
 rw [if_neg]
 rw [List.all_eq_true]
 intro h
 rw [h p hp] at D; cases D
theorem GN {β:Type} {f:α→β} {xs:List α} {i:Nat} (h:i<xs.length):(xs.take (i+1)).map f=(xs.take i).map f++[f xs[i]]:=by
 rw [List.take_succ_eq_append_getElem h,List.map_append]; rfl
theorem uV {r:Int} {D:List A1} {Q:List A1×Int→Prop} (hl:D.length≤1000000) (hv:∀ t∈D,GM t.Val) (hQ:Q (OM (SC r (D.map dT)) qF)):QC r D Q:=by
 unfold QC
 have hvk:∀ (i:Nat) t,t∈(D.take i).map dT→GM t.2:=by
   intro i t ht
   obtain ⟨x,hx,rfl⟩:=List.mem_map.1 ht
   exact hv x (List.mem_of_mem_take hx)
 refine B3 (fun (s:List (HN×AL)) i=>(s,i)) 0 D.length (by omega) (fun i m=>m.Perm (SC r ((D.take i).map dT))) (by omega) .nil (fun i m next _ hi U hn=>?_) (fun m next U=>?_)
 · have hx:GM D[i].Val:=hv _ (List.getElem_mem hi)
   have hk:FD m:=List.Perm.nodup (U.symm.map Prod.fst) (fF (lA _ _))
   have hok:=(TV r _ (hvk i)).2
   have G:∀ w,(match BK (D[i].Row,D[i].Col) m with | some w=>F1 r w (Z2 D[i].Val) | none=>Z2 D[i].Val)=w→(FC (D[i].Row,D[i].Col) w m).Perm (SC r ((D.take (i+1)).map dT)):=by
     intro w hw
     rw [GN hi,kY,←hw,uT hk U]
     exact (uS hk U _ _).trans (xN (lA _ _)).symm
   refine A0 (fun _=>?_) (fun h=>by omega)
   refine AJ hi (JW hx (YG (fun w hw=>AU rfl (VG ?_ (kW hx) (hn _ ?_))) (fun hw=>AC rfl (hn _ ?_))))
   · exact hok _ (U.mem_iff.1 ((HH hk).1 hw))
   · exact G _ (by rw [hw])
   · exact G _ (by rw [hw])
 · refine A0 (fun h=>by omega) (fun _=>?_)
   rw [List.take_length] at U
   have W:=TV r (D.map dT) (by simpa using hvk D.length)
   have J:=lA r (D.map dT)
   generalize SC r (D.map dT)=l at U W J hQ
   have hll:l.length≤1000000:=by simp at W; omega
   refine DA (fun s:List A1×List (HN×AL)=>∃ d,(d++s.2).Perm l∧s.1=d.map (fun p=>qF p.1 (M9 p.2).1)∧∀ p∈d,(M9 p.2).2=true) (fun s=>s.2.length) ⟨[],by simpa using U,rfl,by simp⟩ ?_
   rintro ⟨acc,rest⟩ next ⟨d,Z,rfl,O⟩ hn
   simp only at Z
   refine cY (fun e=>?_) (fun p rr hp=>?_)
   · subst e
     simp only [List.append_nil] at Z
     refine sZ cfT (fun _ _ _=>AcM) AaL (by have:=Z.length_eq; simp; omega) (Z.map _) ?_ ?_
     · rw [List.pairwise_map]
       exact List.Pairwise.imp (R:=fun a b:HN×AL=>MA a.1 b.1) (fun {a b} h=>(lB _ _).2 h) J
     · rw [fG (m:=[]) Z O] at hQ; exact hQ
   · have V:(d++p :: rr).Perm l:=(List.Perm.append_left d hp.symm).trans Z
     have hpl:p∈l:=V.mem_iff.1 (by simp)
     refine iY (W.2 p hpl) (BN (fun h=>?_) (fun h=>?_))
     · rw [tA hpl h] at hQ; exact hQ
     · refine AQ ?_ (hn _ ⟨d++[p],by simpa using V,by simp [qF],?_⟩ ?_)
       · have:=V.length_eq; simp at this ⊢; omega
       · intro q Y
         rcases List.mem_append.1 Y with Y | Y
         · exact O q Y
         · simp at Y; subst Y; exact h
       · have:=hp.length_eq; simp at this ⊢; omega
theorem lC {r:Int} {k:HN} {v:AL}:∀ {l:List (HN×AL)} {n:Nat} (h:n<l.length),(∀ j (D:j<n),MA (l[j]'(by omega)).1 k)→l[n].1=k→ins r k v l=l.set n (k,F1 r l[n].2 v)
 | [],n,h,_,_=>by simp at h
 | p :: l,0,h,_,he=>by
  have he:p.1=k:=he
  subst he
  simp [ins,EE]
 | p :: l,n+1,h,hl,he=>by
  have G:MA p.1 k:=hl 0 (by omega)
  have:=lC (r:=r) (v:=v) (l:=l) (n:=n) (by simpa using h) (fun j D=>hl (j+1) (by omega)) he
  simp [ins,G,this]
theorem tB {r:Int} {k:HN} {v:AL}:∀ {l:List (HN×AL)} {n:Nat} (D:n≤l.length),(∀ j (G:j<n),MA (l[j]'(by omega)).1 k)→(∀ h:n<l.length,¬MA l[n].1 k∧l[n].1≠k)→ins r k v l=l.take n++(k,v) :: l.drop n
 | [],n,D,_,_=>by simp [ins]
 | p :: l,0,D,_,he=>by
  have:=he (by simp)
  simp only [List.getElem_cons_zero] at this
  simp [ins,this.1,this.2]
 | p :: l,n+1,D,hl,he=>by
  have J:MA p.1 k:=hl 0 (by omega)
  have:=tB (r:=r) (v:=v) (l:=l) (n:=n) (by simpa using D) (fun j G=>hl (j+1) (by omega)) (fun h=>he (by simpa using h))
  simp [ins,J,this]
theorem oA {a b:DW} {Q:Bool→Prop} (h:Q (decide (MA (a.From,a.To) (b.From,b.To)))):OB a b Q:=by
 unfold OB
 refine A0 (fun D=>?_) (fun D=>BB (fun G=>?_) (fun G=>?_))
 · rwa [decide_eq_true (by unfold MA; exact .inl D)] at h
 · rwa [show decide (MA (a.From,a.To) (b.From,b.To))=decide (a.To<b.To) by apply decide_eq_decide.2; simp only [MA]; omega] at h
 · rwa [decide_eq_false (by simp only [MA]; omega)] at h
def e0 (p:HN×AL):DW:=mkE p.1 0
theorem fH {r:Int} {D:List DW} {Q:List DW×Int→Prop} (hr:1≤r∧r≤5) (hl:D.length≤1000000) (hv:∀ t∈D,GM t.W) (hQ:Q (OM (SC r (D.map kvE)) mkE)):NZ r D Q:=by
 unfold NZ
 refine JY (AC (by simp [hr]) ?_)
 have hvk:∀ (i:Nat) t,t∈(D.take i).map kvE→GM t.2:=by
   intro i t ht
   obtain ⟨x,hx,rfl⟩:=List.mem_map.1 ht
   exact hv x (List.mem_of_mem_take hx)
 refine B3 (fun (s:List DW×List AL) i=>(s.1,s.2,i)) 0 D.length (by omega) (fun i s=>s.1=(SC r ((D.take i).map kvE)).map e0∧s.2=(SC r ((D.take i).map kvE)).map (·.2)) (s0:=([],[])) (by omega) ⟨rfl,rfl⟩ (fun i s next _ hi hm hn=>?_) (fun s next hm=>?_)
 · obtain ⟨es,ws⟩:=s
   obtain ⟨he,hw⟩:=hm
   simp only at he hw
   have hx:GM D[i].W:=hv _ (List.getElem_mem hi)
   have O:=TV r _ (hvk i)
   have hstep:SC r ((D.take (i+1)).map kvE)=ins r (D[i].From,D[i].To) (Z2 D[i].W) (SC r ((D.take i).map kvE)):=by rw [GN hi,kY]; rfl
   simp only [hstep] at hn
   generalize SC r ((D.take i).map kvE)=l at he hw O hn
   subst he hw
   have hll:l.length≤1000000:=by have:=O.1; simp at this; omega
   refine A0 (fun _=>?_) (fun h=>by omega)
   have hel:∀ (j:Nat) (h:j<l.length),(l.map e0)[j]? = some (e0 l[j]):=fun j h=>by simp [h]
   -- where it goes
   refine CA (fun a:Int=>∃ n:Nat,a=n∧n≤l.length∧(∀ (j:Nat) (hj:j<n) (hjl:j<l.length),MA l[j].1 (D[i].From,D[i].To))∧∀ h:n<l.length,¬MA l[n].1 (D[i].From,D[i].To)) ?_ fun k hk=>?_
   · rintro _ ⟨n,rfl,G,hlt,hge⟩
     have V:∀ j (hj:j<n),MA (l[j]'(by omega)).1 (D[i].From,D[i].To):=fun j hj=>hlt j hj (by omega)
     refine AJ hi (EZ hx ?_)
     refine CA (fun b=>b=decide (∃ h:n<l.length,l[n].1=(D[i].From,D[i].To))) ?_ fun k hk=>?_
     · rintro _ rfl
       refine A0 (fun hb=>?_) (fun hb=>?_)
       · obtain ⟨h,hb⟩:=hb
         refine AA (by omega) (x:=l[n].2) (by simp [h]) (TU (O.2 _ (List.getElem_mem h)) (kW hx) (AA (by omega) (x:=l[n].2) (by simp [h]) (hn (l.map e0,(l.map (·.2)).set n (F1 r l[n].2 (Z2 D[i].W))) ⟨?_,?_⟩)))
         · rw [lC h V hb,List.map_set]
           apply List.ext_getElem?
           intro j
           rw [List.getElem?_set]
           split
           · rename_i e; subst e; simp [h,e0,hb]
           · rfl
         · rw [lC h V hb,List.map_set]
       · have hins:=tB (r:=r) (v:=Z2 D[i].W) G V (fun h=>⟨hge h,fun e=>hb ⟨h,e⟩⟩)
         rw [hins] at hn
         refine AQ (by simp; omega) (AQ (by simp; omega) ?_)
         refine DA (fun s:List DW×List AL×Int=>∃ j:Nat,s.2.2=j∧n≤j∧j≤l.length∧s.1.length=l.length+1∧s.2.1.length=l.length+1∧(∀ q,q<j→s.1[q]? = (l.map e0)[q]?∧s.2.1[q]? = (l.map (·.2))[q]?)∧∀ q,j≤q→q<l.length→s.1[q+1]? = (l.map e0)[q]?∧s.2.1[q+1]? = (l.map (·.2))[q]?)
           (fun s=>s.2.2.toNat) ⟨l.length,?_,G,Nat.le_refl _,by simp,by simp,fun q J=>?_,fun q h1 h2=>by omega⟩ ?_
         · simp only; rw [AH (by simp <;> omega) (by simp <;> omega)]; simp
         · simp only; rw [List.getElem?_append_left (by simpa using J),List.getElem?_append_left (by simpa using J)]; exact ⟨rfl,rfl⟩
         rintro ⟨s1,s2,s3⟩ next ⟨j,hj,hnj,hjl,hl1,hl2,U,Z⟩ hnx
         simp only at hj hl1 hl2 U Z
         subst hj
         refine A0 (fun h=>?_) (fun h=>?_)
         · obtain ⟨j,rfl⟩:∃ m,j=m+1:=⟨j - 1,by omega⟩
           have hjm:j<l.length:=by omega
           have ej:A7 (((j+1:Nat):Int) - 1)=(j:Int):=by rw [AH (by omega) (by omega)]; omega
           rw [ej]
           refine AA (by omega) (x:=e0 l[j]) (by simp only [Int.toNat_natCast]; rw [(U j (by omega)).1,hel j hjm]) (AJ (i:=j+1) (by omega) (AA (by omega) (x:=l[j].2) (by simp only [Int.toNat_natCast]; rw [(U j (by omega)).2]; simp [hjm]) (AJ (i:=j+1) (by omega) (hnx _ ⟨j,rfl,by omega,by omega,by simp [hl1],by simp [hl2],fun q J=>?_,fun q h1 h2=>?_⟩ ?_))))
           · simp only [Int.toNat_natCast]
             rw [List.getElem?_set_ne (by omega),List.getElem?_set_ne (by omega)]
             exact U q (by omega)
           · simp only [Int.toNat_natCast]
             rw [List.getElem?_set,List.getElem?_set]
             by_cases e:q=j
             · subst e; rw [if_pos rfl,if_pos (by omega),if_pos rfl,if_pos (by omega)]; simp [hjm]
             · rw [if_neg (by omega),if_neg (by omega)]; exact Z q (by omega) h2
           · simp only; omega
         · have hjn:j=n:=by omega
           subst hjn
           refine AJ hi (AJ hi (AJ (by omega) (AJ (by omega) (hn (s1.set j (mkE (D[i].From,D[i].To) 0),s2.set j (Z2 D[i].W)) ⟨?_,?_⟩))))
           · simp only [Int.toNat_natCast,List.map_append,List.map_cons]
             have:=YH (pre:=(l.take j).map e0) (post:=(l.drop j).map e0) (s:=s1) (x:=e0 ((D[i].From,D[i].To),Z2 D[i].W)) (by simp [hl1]; omega) (fun q J=>?_) (fun q J=>?_)
             · simp only [List.length_map,List.length_take,Nat.min_eq_left G] at this; exact this
             · simp only [List.length_map,List.length_take,Nat.min_eq_left G] at J
               rw [(U q J).1]; simp [J]
             · simp only [List.length_map,List.length_take,List.length_drop,Nat.min_eq_left G] at J ⊢
               rw [show j+1+q=j+q+1 by omega,(Z (j+q) (by omega) (by omega)).1]; simp
           · simp only [Int.toNat_natCast,List.map_append,List.map_cons]
             have:=YH (pre:=(l.take j).map (·.2)) (post:=(l.drop j).map (·.2)) (s:=s2) (x:=Z2 D[i].W) (by simp [hl2]; omega) (fun q J=>?_) (fun q J=>?_)
             · simp only [List.length_map,List.length_take,Nat.min_eq_left G] at this; exact this
             · simp only [List.length_map,List.length_take,Nat.min_eq_left G] at J
               rw [(U q J).2]; simp [J]
             · simp only [List.length_map,List.length_take,List.length_drop,Nat.min_eq_left G] at J ⊢
               rw [show j+1+q=j+q+1 by omega,(Z (j+q) (by omega) (by omega)).2]; simp
     · refine A0 (fun h=>?_) (fun h=>hk _ ?_)
       · have h:n<l.length:=by simpa using h
         refine AJ hi (AA (by omega) (x:=e0 l[n]) (by simpa using hel n h) (oA (hk _ ?_)))
         have hg:=hge h
         have e1:((e0 l[n]).From,(e0 l[n]).To)=l[n].1:=rfl
         rw [e1]
         by_cases e:l[n].1=(D[i].From,D[i].To)
         · rw [decide_eq_true (p:=∃ h:n<l.length,l[n].1=_) ⟨h,e⟩,e,decide_eq_false (EE _)]; rfl
         · rw [decide_eq_false (p:=∃ h:n<l.length,l[n].1=_) (fun ⟨_,e'⟩=>e e'),decide_eq_true (ZO hg e)]; rfl
       · rw [decide_eq_false]
         rintro ⟨h',_⟩
         simp at h; omega
   · refine DF l.length (by omega) (fun n=>∀ (j:Nat) (hj:j<n) (hjl:j<l.length),MA l[j].1 (D[i].From,D[i].To)) (by simp) (fun j next hj hR hnx=>?_) (fun next hR=>?_)
     · refine A0 (fun _=>?_) (fun h=>by simp at h; omega)
       refine AA (by omega) (x:=e0 l[j]) (by simpa using hel j hj) (AJ hi (oA (A0 (fun h=>hnx fun q J hql=>?_) (fun h=>hk _ ⟨j,rfl,by omega,hR,fun _=>h⟩))))
       by_cases e:q=j
       · subst e; exact h
       · exact hR q (by omega) hql
     · refine A0 (fun h=>by simp at h) (fun _=>hk _ ⟨l.length,rfl,Nat.le_refl _,hR,fun h=>by omega⟩)
 · obtain ⟨es,ws⟩:=s
   obtain ⟨he,hw⟩:=hm
   simp only at he hw
   rw [List.take_length] at he hw
   refine A0 (fun h=>by omega) (fun _=>?_)
   have O:=TV r (D.map kvE) (by simpa using hvk D.length)
   generalize SC r (D.map kvE)=l at he hw O hQ
   subst he hw
   have hll:l.length≤1000000:=by have:=O.1; simp at this; omega
   refine B3 (fun (s:List DW) i=>(s,i)) 0 l.length (by omega) (fun i s=>s=(l.take i).map (fun p=>mkE p.1 (M9 p.2).1)++(l.drop i).map e0∧∀ p∈l.take i,(M9 p.2).2=true) (by omega) ⟨by simp,by simp⟩ (fun i s next _ hi hm hn=>?_) (fun s next hm=>?_)
   · obtain ⟨rfl,Y⟩:=hm
     refine A0 (fun _=>?_) (fun h=>by simp at h; omega)
     refine AA (by omega) (x:=l[i].2) (by simp [hi]) (UO (O.2 _ (List.getElem_mem hi)) (BN (fun h=>?_) (fun h=>?_)))
     · rw [tA (List.getElem_mem hi) h] at hQ; exact hQ
     · have hdr:l.drop i=l[i] :: l.drop (i+1):=by rw [List.drop_eq_getElem_cons hi]
       have hlen:((l.take i).map (fun p=>mkE p.1 (M9 p.2).1)).length=i:=by simp; omega
       refine AA (by omega) (x:=e0 l[i]) ?_ (hn _ ⟨?_,?_⟩)
       · rw [hdr,Int.toNat_natCast,List.getElem?_append_right (by omega),hlen,Nat.sub_self]; rfl
       · rw [hdr,Int.toNat_natCast,List.set_append,if_neg (by omega),hlen,GN hi,Nat.sub_self,List.append_assoc]; rfl
       · intro p hp
         rw [List.take_succ_eq_append_getElem hi] at hp
         rcases List.mem_append.1 hp with hp | hp
         · exact Y p hp
         · simp at hp; subst hp; exact h
   · obtain ⟨rfl,Y⟩:=hm
     refine A0 (fun h=>by simp at h) (fun _=>?_)
     rw [fG (m:=[]) (.refl l) (by simpa using Y)] at hQ
     simpa using hQ
end Go.Proofs.YtbohadngdkjljaaGreat
