import Derived.Test.YtbohadngdkjljaaGreatT
import Derived.Test.YtbohadngdkjljaaGreatFwQ
namespace Go.Proofs.YtbohadngdkjljaaGreat
open Go Go.Fw
set_option linter.unusedVariables false
set_option linter.unusedSimpArgs false
variable {α:Type}
def QJ (x y:Int):Int:=if x<y then -1 else if y<x then 1 else 0
theorem H0 {x y:Int} {Q:Int→Prop} (h:Q (QJ x y)):D0 x y Q:=by
 unfold D0 GX
 unfold QJ at h
 refine AC (by simp) (AC (by simp) (A0 (fun D=>?_) (fun D=>A0 (fun G=>?_) (fun G=>?_))))
 · rwa [if_pos D] at h
 · rwa [if_neg D,if_pos G] at h
 · rwa [if_neg D,if_neg G] at h
theorem kR {x y:Int} {Q:Int→Prop} (h:Q (QJ x y)):IZ x y Q:=by
 unfold IZ LF
 unfold QJ at h
 refine AC (by simp) (AC (by simp) (A0 (fun D=>?_) (fun D=>A0 (fun G=>?_) (fun G=>?_))))
 · rwa [if_pos D] at h
 · rwa [if_neg D,if_pos G] at h
 · rwa [if_neg D,if_neg G] at h
theorem gS {x y:Int} {Q:Int→Prop} (h:Q (QJ x y)):I3 x y Q:=by
 unfold I3 K8
 unfold QJ at h
 refine AC (by simp) (AC (by simp) (A0 (fun D=>?_) (fun D=>A0 (fun G=>?_) (fun G=>?_))))
 · rwa [if_pos D] at h
 · rwa [if_neg D,if_pos G] at h
 · rwa [if_neg D,if_neg G] at h
def uV (x y:Int):Int:=if x=0 then y else x
theorem iS {x y:Int} {Q:Int→Prop} (h:Q (uV x y)):JM [x,y] Q:=by
 unfold JM
 unfold uV at h
 refine D7 2 (by omega) (fun i=>(0<i→x=0)∧(1<i→y=0)) ⟨by omega,by omega⟩ (fun i next hi D G=>?_) (fun next D=>?_)
 · refine A0 (fun _=>?_) (fun h=>by simp at h; omega)
   match i,hi with
   | 0,_=>exact A9 (by omega) (x:=x) rfl (CK (fun e=>by rwa [if_neg e] at h) (fun e=>G ⟨fun _=>e,by omega⟩))
   | 1,_=>exact A9 (by omega) (x:=y) rfl (CK (fun e=>by rwa [if_pos (D.1 (by omega))] at h) (fun e=>G ⟨fun _=>D.1 (by omega),fun _=>e⟩))
 · refine A0 (fun h=>by simp at h) (fun _=>?_)
   rwa [if_pos (D.1 (by omega)),D.2 (by omega)] at h
def LI (a:AL):Prop:=-9223372036854775808≤a.Hi∧a.Hi≤9223372036854775807∧0≤a.Lo∧a.Lo≤18446744073709551615
def GN (x:Int):Prop:=-9223372036854775808≤x∧x≤9223372036854775807
def UE (a b:AL):Prop:=a.Hi<b.Hi∨(a.Hi=b.Hi∧a.Lo≤b.Lo)
instance (a b:AL):Decidable (UE a b):=by unfold UE; infer_instance
theorem NR (x:Int):IntKind.wrap .u64 x=x % 18446744073709551616:=by
 simp [IntKind.wrap,IntKind.bits,IntKind.signed]
theorem G6 (x:Int):A7 x=(x+9223372036854775808) % 18446744073709551616 - 9223372036854775808:=by
 show IntKind.wrap .i64 x=_
 rw [IntKind.wrap_i64]
def YS (v:Int):AL:=⟨if v<0 then -1 else 0,v % 18446744073709551616⟩
theorem kS {v:Int} (h:GN v):LI (YS v):=by unfold YS LI; unfold GN at h; simp only; split <;> omega
theorem AdL {v:Int} (h:GN v):shr .i64 v 63=if v<0 then -1 else 0:=by
 unfold GN at h
 show v.fdiv (2 ^ 63)=_
 rw [Int.fdiv_eq_ediv_of_nonneg _ (by decide)]
 split
 · rw [show (2:Int) ^ 63=9223372036854775808 from rfl]; omega
 · rw [show (2:Int) ^ 63=9223372036854775808 from rfl]; omega
theorem JX {v:Int} {Q:AL→Prop} (h:GN v) (D:Q (YS v)):MM v Q:=by
 unfold MM; rw [AdL h,NR]; exact D
theorem F4 {v:Int} {Q:AL→Prop} (h:GN v) (D:Q (YS v)):GG v Q:=by
 unfold GG; unfold YS at D
 refine A0 (fun G=>?_) (fun G=>?_)
 · rw [if_pos G] at D; rwa [NR]
 · rw [if_neg G] at D; rwa [NR]
theorem nT {a b:AL} {Q:Int→Prop} (h:Q (uV (QJ a.Hi b.Hi) (QJ a.Lo b.Lo))):P9 a b Q:=by
 unfold P9
 exact kR (gS (iS h))
theorem iT {a b:AL} {Q:AL→Prop} (D:Q (if UE a b then a else b)):OG a b Q:=by
 unfold OG
 refine nT (A0 (fun h=>?_) (fun h=>?_))
 · rwa [if_pos] at D
   unfold UE; unfold uV QJ at h
   (repeat' split at h) <;> omega
 · rwa [if_neg] at D
   unfold UE; unfold uV QJ at h
   (repeat' split at h) <;> omega
theorem KU {a b:AL} (h1:a.Hi=b.Hi) (h2:a.Lo=b.Lo):a=b:=by cases a; cases b; simp_all
theorem kT {a b:AL} {Q:Int→Prop} (J:¬UE b a→Q (-1)) (D:UE b a→∀ x:Int,0≤x→Q x):GW a b Q:=by
 unfold GW
 refine CJ (fun _=>UE b a) (fun _ G=>BA (fun _=>D G 0 (by omega)) (fun _=>D G 1 (by omega))) fun k hk=>?_
 refine A0 (fun h=>J ?_) (fun h=>BA (fun e=>A0 (fun O=>J ?_) (fun O=>hk () ?_)) (fun e=>hk () ?_))
 all_goals (unfold UE; omega)
def F6 (r:Int) (a b:AL):AL:=
 if r=1∨r=3∨r=4 then (if UE a b then a else b)
 else if r=2 then (if a=⟨0,0⟩∧b=⟨0,0⟩ then ⟨0,0⟩ else ⟨0,1⟩)
 else if r=5 then ⟨A7 (a.Hi+b.Hi+(if 18446744073709551616≤a.Lo+b.Lo then 1 else 0)),(a.Lo+b.Lo) % 18446744073709551616⟩
 else ⟨0,0⟩
theorem QK {r:Int} {a b:AL} (ha:LI a) (hb:LI b):LI (F6 r a b):=by
 unfold F6
 split
 · split <;> assumption
 · split
   · split <;> (unfold LI; simp)
   · split
     · unfold LI at *; simp only [G6]; omega
     · unfold LI; simp
theorem ZD {b:Bool} {Q:AL→Prop} (D:Q (if b then ⟨0,1⟩ else ⟨0,0⟩)):LU b Q:=by
 unfold LU
 refine ⟨fun h=>JX (by unfold GN; omega) ?_,fun h=>?_⟩
 · subst h; exact D
 · subst h; exact D
theorem MU {b:Bool} {Q:AL→Prop} (D:Q (if b then ⟨0,1⟩ else ⟨0,0⟩)):JL b Q:=by
 unfold JL
 refine ⟨fun h=>?_,fun h=>?_⟩
 · subst h; exact D
 · subst h; exact D
theorem cO {a b:AL} {Q:AL→Prop} (J:LI a) (G:LI b) (D:Q (F6 5 a b)):UY a b Q:=by
 unfold UY QA
 have e:F6 5 a b=⟨A7 (a.Hi+b.Hi+(if 18446744073709551616≤a.Lo+b.Lo then 1 else 0)),(a.Lo+b.Lo) % 18446744073709551616⟩:=rfl
 rw [e] at D
 unfold LI at J G
 simp only [NR,G6] at D ⊢
 refine A0 (fun h=>?_) (fun h=>?_)
 · rw [if_pos (by omega)] at D
   have:((a.Hi % 18446744073709551616+b.Hi % 18446744073709551616) % 18446744073709551616+1) % 18446744073709551616=(a.Hi+b.Hi+1) % 18446744073709551616:=by omega
   rw [this]
   have:((a.Hi+b.Hi+1) % 18446744073709551616+9223372036854775808) % 18446744073709551616=(a.Hi+b.Hi+1+9223372036854775808) % 18446744073709551616:=by omega
   rw [this]; exact D
 · rw [if_neg (by omega)] at D
   have:((a.Hi % 18446744073709551616+b.Hi % 18446744073709551616) % 18446744073709551616+0) % 18446744073709551616=(a.Hi+b.Hi+0) % 18446744073709551616:=by omega
   rw [this]
   have:((a.Hi+b.Hi+0) % 18446744073709551616+9223372036854775808) % 18446744073709551616=(a.Hi+b.Hi+0+9223372036854775808) % 18446744073709551616:=by omega
   rw [this]; exact D
theorem KB {a b:AL} {Q:AL→Prop} (J:LI a) (G:LI b) (D:Q (F6 5 a b)):K7 a b Q:=by
 unfold K7
 have e:F6 5 a b=⟨A7 (a.Hi+b.Hi+(if 18446744073709551616≤a.Lo+b.Lo then 1 else 0)),(a.Lo+b.Lo) % 18446744073709551616⟩:=rfl
 rw [e] at D
 unfold LI at J G
 simp only [NR,G6] at D ⊢
 refine A0 (fun h=>?_) (fun h=>?_)
 · rw [if_pos (by omega)] at D
   have:((a.Hi+b.Hi+9223372036854775808) % 18446744073709551616 - 9223372036854775808+1+9223372036854775808) % 18446744073709551616=(a.Hi+b.Hi+1+9223372036854775808) % 18446744073709551616:=by omega
   rw [this]; exact D
 · rw [if_neg (by omega)] at D
   rwa [show a.Hi+b.Hi+0=a.Hi+b.Hi by omega] at D
theorem V4 {r:Int} {a b:AL} {Q:AL→Prop} (W:LI a) (V:LI b) (D:Q (F6 r a b)):SS r a b Q:=by
 unfold SS
 refine CJ (fun t=>t=decide (r=1∨r=3∨r=4)) (fun t Y=>?_) fun k hk=>?_
 · subst Y
   refine A0 (fun h=>iT ?_) (fun h=>BA (fun O=>?_) (fun O=>BA (fun G=>cO W V ?_) (fun G=>?_)))
   · unfold F6 at D; rwa [if_pos h] at D
   · subst O
     unfold F6 at D
     rw [if_neg h,if_pos rfl] at D
     refine CF (fun J=>ZD ?_) (fun he=>ZD ?_)
     · rw [if_neg] at D
       · exact D
       · rintro ⟨e1,Z⟩; subst e1 Z; simp at J
     · have he:a=b:=by simpa using he
       subst he
       by_cases e:a=⟨0,0⟩
       · rw [if_pos ⟨e,e⟩] at D; simpa [e] using D
       · rw [if_neg (fun h=>e h.1)] at D; simpa [e] using D
   · subst G; exact D
   · unfold F6 at D; rwa [if_neg h,if_neg O,if_neg G] at D
 · refine BA (fun h=>hk _ ?_) (fun h=>BA (fun U=>hk _ ?_) (fun U=>hk _ ?_))
   · simp [h]
   · simp [U]
   · by_cases h4:r=4 <;> simp [h,U,h4]
theorem TL {r:Int} {a b:AL} {Q:AL→Prop} (Y:LI a) (W:LI b) (D:Q (F6 r a b)):PN r a b Q:=by
 unfold PN
 refine CJ (fun t=>t=decide (r=1∨r=3∨r=4)) (fun t Z=>?_) fun k hk=>?_
 · subst Z
   refine A0 (fun h=>kT (fun U=>A0 (fun _=>?_) (fun h=>by omega)) (fun U x hx=>A0 (fun h=>by omega) (fun _=>?_))) (fun h=>BA (fun O=>?_) (fun O=>BA (fun G=>KB Y W ?_) (fun G=>?_)))
   · unfold F6 at D; rwa [if_pos h,if_neg U] at D
   · unfold F6 at D; rwa [if_pos h,if_pos U] at D
   · subst O
     unfold F6 at D
     rw [if_neg h,if_pos rfl] at D
     refine CF (fun J=>MU ?_) (fun he=>MU ?_)
     · rw [if_neg] at D
       · exact D
       · rintro ⟨e1,e2⟩; subst e1; simp at J
     · have he:a=⟨0,0⟩:=by simpa using he
       subst he
       by_cases e:b=⟨0,0⟩
       · rw [if_pos ⟨rfl,e⟩] at D; simpa [e] using D
       · rw [if_neg (fun h=>e h.2)] at D; simpa [e] using D
   · subst G; exact D
   · unfold F6 at D; rwa [if_neg h,if_neg O,if_neg G] at D
 · refine BA (fun h=>hk _ ?_) (fun h=>BA (fun V=>hk _ ?_) (fun V=>hk _ ?_))
   · simp [h]
   · simp [V]
   · by_cases h4:r=4 <;> simp [h,V,h4]
def ME (a:AL):Int×Bool:=if (a.Hi=0∧a.Lo≤9223372036854775807)∨(a.Hi = -1∧9223372036854775808≤a.Lo) then (A7 a.Lo,true) else (0,false)
theorem iU {r:Int} {a:AL} {Q:Int×Bool→Prop} (G:LI a) (D:Q (ME a)):M2 r a Q:=by
 unfold M2 UZ
 unfold LI at G
 unfold ME at D
 refine JX (by unfold GN; rw [G6]; omega) (CF (fun h=>?_) (fun h=>?_))
 · rw [if_neg] at D
   · exact D
   · intro h'
     simp only [beq_eq_false_iff_ne,ne_eq] at h
     apply h
     apply KU <;> simp only [YS,G6] <;> (try split) <;> omega
 · have h:YS (A7 a.Lo)=a:=by simpa using h
   rw [if_pos] at D
   · exact D
   · rw [←h]
     simp only [YS,G6]
     split <;> omega
theorem UF {a:AL} {Q:Int×Bool→Prop} (O:LI a) (G:Q (ME a)):MK a Q:=by
 unfold MK
 unfold LI at O
 have hy (h:(a.Hi=0∧a.Lo≤9223372036854775807)∨(a.Hi = -1∧9223372036854775808≤a.Lo)):Q (A7 a.Lo,true):=by unfold ME at G; rwa [if_pos h] at G
 have hn (h:¬((a.Hi=0∧a.Lo≤9223372036854775807)∨(a.Hi = -1∧9223372036854775808≤a.Lo))):Q (0,false):=by unfold ME at G; rwa [if_neg h] at G
 refine BA (fun h=>A0 (fun J=>hy ?_) (fun J=>BA (fun D=>by omega) (fun D=>hn ?_))) (fun h=>BA (fun J=>A0 (fun D=>hy ?_) (fun D=>hn ?_)) (fun J=>hn ?_))
 all_goals (try rw [G6] at J); (try rw [G6] at D); omega
theorem LW {r:Int} {Q:Bool→Prop} (D:Q (decide (1≤r∧r≤5))):P7 r Q:=by
 unfold P7
 refine A0 (fun h=>?_) (fun h=>?_)
 · rwa [show decide (r<6)=decide (1≤r∧r≤5) by apply decide_eq_decide.2; omega]
 · rwa [show decide (1≤r∧r≤5)=false by apply decide_eq_false; omega] at D
theorem M5 {r:Int} {Q:Bool→Prop} (D:Q (decide (1≤r∧r≤5))):MJ r Q:=by
 unfold MJ
 refine A0 (fun h=>?_) (fun h=>?_)
 · rwa [show decide (r≤5)=decide (1≤r∧r≤5) by apply decide_eq_decide.2; omega]
 · rwa [show decide (1≤r∧r≤5)=false by apply decide_eq_false; omega] at D
open Go Go.Fw Go.Sort Go.Shelf
abbrev HO:=Int×Int
def MF (a b:HO):Prop:=a.1<b.1∨(a.1=b.1∧a.2<b.2)
instance (a b:HO):Decidable (MF a b):=by unfold MF; infer_instance
theorem IM {a b c:HO} (h1:MF a b) (h2:MF b c):MF a c:=by unfold MF at *; omega
theorem EH (a:HO):¬MF a a:=by unfold MF; omega
theorem ZE {a b:HO} (h1:¬MF a b) (h2:a≠b):MF b a:=by
 obtain ⟨a1,a2⟩:=a; obtain ⟨b1,b2⟩:=b
 unfold MF at *
 simp only [ne_eq,Prod.mk.injEq] at *
 omega
def ins (r:Int) (k:HO) (v:AL):List (HO×AL)→List (HO×AL)
 | []=>[(k,v)]
 | p :: l=>if MF p.1 k then p :: ins r k v l else if p.1=k then (k,F6 r p.2 v) :: l else (k,v) :: p :: l
def SC (r:Int) (h:List (HO×Int)):List (HO×AL):=h.foldl (fun l t=>ins r t.1 (YS t.2) l) []
theorem kU (r:Int) (h:List (HO×Int)) (t:HO×Int):SC r (h++[t])=ins r t.1 (YS t.2) (SC r h):=by simp [SC]
def srt (l:List (HO×AL)):Prop:=l.Pairwise fun a b=>MF a.1 b.1
theorem eU {r:Int} {k:HO} {v:AL}:∀ {l:List (HO×AL)} {p:HO×AL},p∈ins r k v l→p.1=k∨∃ q∈l,q.1=p.1
 | [],p,h=>by simp [ins] at h; simp [h]
 | q :: l,p,h=>by
  unfold ins at h
  split at h
  · rcases List.mem_cons.1 h with rfl | h
    · exact .inr ⟨p,by simp,rfl⟩
    · rcases eU h with h | ⟨x,hx,e⟩
      · exact .inl h
      · exact .inr ⟨x,by simp [hx],e⟩
  · split at h
    · rcases List.mem_cons.1 h with rfl | h
      · exact .inl rfl
      · exact .inr ⟨p,by simp [h],rfl⟩
    · rcases List.mem_cons.1 h with rfl | h
      · exact .inl rfl
      · exact .inr ⟨p,h,rfl⟩
theorem kV {r:Int} {k:HO} {v:AL}:∀ {l:List (HO×AL)},srt l→srt (ins r k v l)
 | [],_=>by simp [ins,srt]
 | p :: l,h=>by
  unfold srt at h
  rw [List.pairwise_cons] at h
  unfold ins
  split
  · rename_i hk
    refine List.pairwise_cons.2 ⟨fun q D=>?_,kV h.2⟩
    rcases eU D with e | ⟨x,hx,e⟩
    · rw [e]; exact hk
    · rw [←e]; exact h.1 x hx
  · rename_i hk
    split
    · rename_i e
      subst e
      exact List.pairwise_cons.2 ⟨fun q D=>h.1 q D,h.2⟩
    · rename_i e
      have:=ZE hk e
      exact List.pairwise_cons.2 ⟨fun q D=>by
       rcases List.mem_cons.1 D with rfl | D
       · exact this
       · exact IM this (h.1 q D),List.pairwise_cons.2 h⟩
theorem kW (r:Int) (D:List (HO×Int)):srt (SC r D):=by
 unfold SC
 suffices ∀ (D:List (HO×Int)) (l:List (HO×AL)),srt l→srt (D.foldl (fun l t=>ins r t.1 (YS t.2) l) l) from this D [] .nil
 intro D
 induction D with
 | nil=>intro l h; exact h
 | cons t D G=>intro l h; exact G _ (kV h)
theorem eV {l:List (HO×AL)} (h:srt l):FG l:=by
 unfold FG
 rw [List.nodup_iff_pairwise_ne,List.pairwise_map]
 exact List.Pairwise.imp (R:=fun a b:HO×AL=>MF a.1 b.1) (fun {a b} D (e:a.1=b.1)=>EH b.1 (by rw [e] at D; exact D)) h
theorem sY (r:Int) (k:HO) (v:AL):∀ l:List (HO×AL),(ins r k v l).length≤l.length+1
 | []=>by simp [ins]
 | p :: l=>by
  unfold ins
  have:=sY r k v l
  split
  · simp; omega
  · split <;> simp
theorem sZ {r:Int} {k:HO} {v:AL} (D:LI v):∀ {l:List (HO×AL)},(∀ p∈l,LI p.2)→∀ p∈ins r k v l,LI p.2
 | [],_,p,h=>by simp [ins] at h; rw [h]; exact D
 | q :: l,hl,p,h=>by
  unfold ins at h
  split at h
  · rcases List.mem_cons.1 h with rfl | h
    · exact hl _ (by simp)
    · exact sZ D (fun x G=>hl x (by simp [G])) p h
  · split at h
    · rcases List.mem_cons.1 h with rfl | h
      · exact QK (hl q (by simp)) D
      · exact hl p (by simp [h])
    · rcases List.mem_cons.1 h with rfl | h
      · exact D
      · exact hl p h
theorem TM (r:Int):∀ (D:List (HO×Int)),(∀ t∈D,GN t.2)→(SC r D).length≤D.length∧∀ p∈SC r D,LI p.2:=by
 suffices ∀ (D:List (HO×Int)) (l:List (HO×AL)),(∀ t∈D,GN t.2)→(∀ p∈l,LI p.2)→(D.foldl (fun l t=>ins r t.1 (YS t.2) l) l).length≤l.length+D.length∧∀ p∈D.foldl (fun l t=>ins r t.1 (YS t.2) l) l,LI p.2 from
  fun D h=>by simpa [SC] using this D [] h (by simp)
 intro D
 induction D with
 | nil=>intro l _ h; exact ⟨by simp,h⟩
 | cons t D O=>
  intro l G h
  have:=O (ins r t.1 (YS t.2) l) (fun x J=>G x (by simp [J])) (sZ (kS (G t (by simp))) h)
  have h2:=sY r t.1 (YS t.2) l
  exact ⟨by simp only [List.foldl_cons,List.length_cons]; omega,this.2⟩
theorem xP {p:HO×AL} {l:List (HO×AL)} {k:HO} (h:srt (p :: l)) (hk:MF k p.1):BK k (p :: l)=none:=by
 apply WD
 intro J
 obtain ⟨q,D,e⟩:=List.mem_map.1 J
 rcases List.mem_cons.1 D with rfl | D
 · exact EH k (e▸hk)
 · have G:=IM hk ((List.pairwise_cons.1 h).1 q D)
   rw [e] at G; exact EH k G
theorem tA {r:Int} {k:HO} {v:AL} (D:HO):∀ {l:List (HO×AL)},srt l→BK D (ins r k v l)=if D=k then some (match BK k l with | some w=>F6 r w v | none=>v) else BK D l
 | [],_=>by simp only [ins,BK]
 | p :: l,h=>by
  have ih:=tA (r:=r) (k:=k) (v:=v) D (List.pairwise_cons.1 h).2
  unfold ins
  split
  · rename_i hk
    have G:¬k=p.1:=fun e=>EH k (by rw [←e] at hk; exact hk)
    simp only [BK,ih,if_neg G]
    by_cases e:D=k
    · subst e; simp [G]
    · simp [e]
  · rename_i hk
    split
    · rename_i e
      subst e
      simp only [BK,if_true]
      by_cases e:D=p.1 <;> simp [e]
    · rename_i e
      have J:=ZE hk e
      rw [xP h J]
      simp only [BK]
theorem xQ {r:Int} {k:HO} {v:AL} {l:List (HO×AL)} (h:srt l):(ins r k v l).Perm (FF k (match BK k l with | some w=>F6 r w v | none=>v) l):=by
 refine iR (eV (kV h)) (GD (eV h) _ _) fun D=>?_
 rw [tA D h]
 by_cases e:D=k
 · subst e; simp [BG]
 · simp [e,BB e]
def ON (l:List (HO×AL)) (mk:HO→Int→α):List α×Int:=if l.all (fun p=>(ME p.2).2) then (l.map (fun p=>mk p.1 (ME p.2).1),0) else ([],12)
def dI (t:A3):HO×Int:=((t.Row,t.Col),t.Val)
def qF (k:HO) (v:Int):A3:=⟨k.1,k.2,v⟩
def kvE (t:DX):HO×Int:=((t.From,t.To),t.W)
def mkE (k:HO) (v:Int):DX:=⟨k.1,k.2,v⟩
theorem tB {U:α→α→(Int→Prop)→Prop} (G:α→α→Int) (hc:∀ x y Q,Q (G x y)→U x y Q) (hO:SWO (ltOf G)) {xs V:List α} {K:List α→Prop} (hl:xs.length≤1000000000000) (hp:xs.Perm V) (W:V.Pairwise fun x y=>G x y<0) (hK:K V):sS U xs K:=by
 refine ⟨G,fun x y Q=>hc x y Q,hO,by omega,fun ys O D=>?_⟩
 have J:∀ x y,G x y<0→0≤G y x:=by
  intro x y h
  rcases Int.lt_or_le (G y x) 0 with h' | h'
  · have:=hO.trans x y x (by simpa [ltOf] using h) (by simpa [ltOf] using h')
    rw [hO.irrefl] at this; cases this
  · exact h'
 have:ys=V:=bG (O.trans hp) D (W.imp fun {a b} h=>J a b h) fun a b Z Y h1 h2=>by
  have Z:=(O.trans hp).mem_iff.1 Z
  have Y:=(O.trans hp).mem_iff.1 Y
  obtain ⟨i,hi,rfl⟩:=List.getElem_of_mem Z
  obtain ⟨j,hj,rfl⟩:=List.getElem_of_mem Y
  rw [List.pairwise_iff_getElem] at W
  rcases Nat.lt_trichotomy i j with h | h | h
  · have:=W i j hi hj h; omega
  · subst h; rfl
  · have:=W j i hj hi h; omega
 rw [this]; exact hK
def cfT (x y:A3):Int:=uV (QJ x.Row y.Row) (QJ x.Col y.Col)
theorem kX (x y:A3):cfT x y<0↔MF (x.Row,x.Col) (y.Row,y.Col):=by
 unfold cfT uV QJ MF
 (repeat' split) <;> simp only <;> omega
theorem AcM {x y:A3} {Q:Int→Prop} (h:Q (cfT x y)):WH x y Q:=by
 unfold WH
 exact H0 (H0 (iS h))
theorem AaR:SWO (ltOf cfT) where
 irrefl x:=by unfold ltOf; simp only [kX]; simp [MF]
 trans x y z h1 h2:=by unfold ltOf at *; simp only [kX,decide_eq_true_eq] at *; exact IM h1 h2
 ntrans x y z h1 h2:=by unfold ltOf at *; simp only [kX,decide_eq_false_iff_not,MF] at *; omega
theorem eW {m d:List (HO×AL)} {l:List (HO×AL)} {mk:HO→Int→α} (hp:d.Perm l) (D:∀ p∈d,(ME p.2).2=true):ON l mk=(l.map (fun p=>mk p.1 (ME p.2).1),0):=by
 unfold ON
 rw [if_pos]
 rw [List.all_eq_true]
 exact fun p h=>D p (hp.mem_iff.2 h)
theorem tC {l:List (HO×AL)} {mk:HO→Int→α} {p:HO×AL} (hp:p∈l) (D:(ME p.2).2=false):ON l mk=([],12):=by
 unfold ON
 rw [if_neg]
 rw [List.all_eq_true]
 intro h
 rw [h p hp] at D; cases D
theorem GO {β:Type} {f:α→β} {xs:List α} {i:Nat} (h:i<xs.length):(xs.take (i+1)).map f=(xs.take i).map f++[f xs[i]]:=by
 rw [List.take_succ_eq_append_getElem h,List.map_append]; rfl
theorem uW {r:Int} {D:List A3} {Q:List A3×Int→Prop} (hl:D.length≤1000000) (hv:∀ t∈D,GN t.Val) (hQ:Q (ON (SC r (D.map dI)) qF)):QB r D Q:=by
 unfold QB
 have hvk:∀ (i:Nat) t,t∈(D.take i).map dI→GN t.2:=by
   intro i t ht
   obtain ⟨x,hx,rfl⟩:=List.mem_map.1 ht
   exact hv x (List.mem_of_mem_take hx)
 refine B2 (fun (s:List (HO×AL)) i=>(s,i)) 0 D.length (by omega) (fun i m=>m.Perm (SC r ((D.take i).map dI))) (by omega) .nil (fun i m next _ hi O hn=>?_) (fun m next O=>?_)
 · have hx:GN D[i].Val:=hv _ (List.getElem_mem hi)
   have hk:FG m:=List.Perm.nodup (O.symm.map Prod.fst) (eV (kW _ _))
   have hok:=(TM r _ (hvk i)).2
   have J:∀ w,(match BK (D[i].Row,D[i].Col) m with | some w=>F6 r w (YS D[i].Val) | none=>YS D[i].Val)=w→(FF (D[i].Row,D[i].Col) w m).Perm (SC r ((D.take (i+1)).map dI)):=by
     intro w hw
     rw [GO hi,kU,←hw,uU hk O]
     exact (uT hk O _ _).trans (xQ (kW _ _)).symm
   refine A0 (fun _=>?_) (fun h=>by omega)
   refine AK hi (JX hx (Y3 (fun w hw=>AY rfl (V4 ?_ (kS hx) (hn _ ?_))) (fun hw=>AC rfl (hn _ ?_))))
   · exact hok _ (O.mem_iff.1 ((HH hk).1 hw))
   · exact J _ (by rw [hw])
   · exact J _ (by rw [hw])
 · refine A0 (fun h=>by omega) (fun _=>?_)
   rw [List.take_length] at O
   have W:=TM r (D.map dI) (by simpa using hvk D.length)
   have U:=kW r (D.map dI)
   generalize SC r (D.map dI)=l at O W U hQ
   have hll:l.length≤1000000:=by simp at W; omega
   refine DE (fun s:List A3×List (HO×AL)=>∃ d,(d++s.2).Perm l∧s.1=d.map (fun p=>qF p.1 (ME p.2).1)∧∀ p∈d,(ME p.2).2=true) (fun s=>s.2.length) ⟨[],by simpa using O,rfl,by simp⟩ ?_
   rintro ⟨acc,rest⟩ next ⟨d,Z,rfl,G⟩ hn
   simp only at Z
   refine cN (fun e=>?_) (fun p rr hp=>?_)
   · subst e
     simp only [List.append_nil] at Z
     refine tB cfT (fun _ _ _=>AcM) AaR (by have:=Z.length_eq; simp; omega) (Z.map _) ?_ ?_
     · rw [List.pairwise_map]
       exact List.Pairwise.imp (R:=fun a b:HO×AL=>MF a.1 b.1) (fun {a b} h=>(kX _ _).2 h) U
     · rw [eW (m:=[]) Z G] at hQ; exact hQ
   · have V:(d++p :: rr).Perm l:=(List.Perm.append_left d hp.symm).trans Z
     have hpl:p∈l:=V.mem_iff.1 (by simp)
     refine iU (W.2 p hpl) (CF (fun h=>?_) (fun h=>?_))
     · rw [tC hpl h] at hQ; exact hQ
     · refine AR ?_ (hn _ ⟨d++[p],by simpa using V,by simp [qF],?_⟩ ?_)
       · have:=V.length_eq; simp at this ⊢; omega
       · intro q Y
         rcases List.mem_append.1 Y with Y | Y
         · exact G q Y
         · simp at Y; subst Y; exact h
       · have:=hp.length_eq; simp at this ⊢; omega
theorem kY {r:Int} {k:HO} {v:AL}:∀ {l:List (HO×AL)} {n:Nat} (h:n<l.length),(∀ j (D:j<n),MF (l[j]'(by omega)).1 k)→l[n].1=k→ins r k v l=l.set n (k,F6 r l[n].2 v)
 | [],n,h,_,_=>by simp at h
 | p :: l,0,h,_,he=>by
  have he:p.1=k:=he
  subst he
  simp [ins,EH]
 | p :: l,n+1,h,hl,he=>by
  have G:MF p.1 k:=hl 0 (by omega)
  have:=kY (r:=r) (v:=v) (l:=l) (n:=n) (by simpa using h) (fun j D=>hl (j+1) (by omega)) he
  simp [ins,G,this]
theorem tD {r:Int} {k:HO} {v:AL}:∀ {l:List (HO×AL)} {n:Nat} (D:n≤l.length),(∀ j (G:j<n),MF (l[j]'(by omega)).1 k)→(∀ h:n<l.length,¬MF l[n].1 k∧l[n].1≠k)→ins r k v l=l.take n++(k,v) :: l.drop n
 | [],n,D,_,_=>by simp [ins]
 | p :: l,0,D,_,he=>by
  have:=he (by simp)
  simp only [List.getElem_cons_zero] at this
  simp [ins,this.1,this.2]
 | p :: l,n+1,D,hl,he=>by
  have J:MF p.1 k:=hl 0 (by omega)
  have:=tD (r:=r) (v:=v) (l:=l) (n:=n) (by simpa using D) (fun j G=>hl (j+1) (by omega)) (fun h=>he (by simpa using h))
  simp [ins,J,this]
theorem nU {a b:DX} {Q:Bool→Prop} (h:Q (decide (MF (a.From,a.To) (b.From,b.To)))):OE a b Q:=by
 unfold OE
 refine A0 (fun D=>?_) (fun D=>BA (fun G=>?_) (fun G=>?_))
 · rwa [decide_eq_true (by unfold MF; exact .inl D)] at h
 · rwa [show decide (MF (a.From,a.To) (b.From,b.To))=decide (a.To<b.To) by apply decide_eq_decide.2; simp only [MF]; omega] at h
 · rwa [decide_eq_false (by simp only [MF]; omega)] at h
def e0 (p:HO×AL):DX:=mkE p.1 0
theorem eX {r:Int} {D:List DX} {Q:List DX×Int→Prop} (hr:1≤r∧r≤5) (hl:D.length≤1000000) (hv:∀ t∈D,GN t.W) (hQ:Q (ON (SC r (D.map kvE)) mkE)):O3 r D Q:=by
 unfold O3
 refine M5 (AC (by simp [hr]) ?_)
 have hvk:∀ (i:Nat) t,t∈(D.take i).map kvE→GN t.2:=by
   intro i t ht
   obtain ⟨x,hx,rfl⟩:=List.mem_map.1 ht
   exact hv x (List.mem_of_mem_take hx)
 refine B2 (fun (s:List DX×List AL) i=>(s.1,s.2,i)) 0 D.length (by omega) (fun i s=>s.1=(SC r ((D.take i).map kvE)).map e0∧s.2=(SC r ((D.take i).map kvE)).map (·.2)) (s0:=([],[])) (by omega) ⟨rfl,rfl⟩ (fun i s next _ hi hm hn=>?_) (fun s next hm=>?_)
 · obtain ⟨es,ws⟩:=s
   obtain ⟨he,hw⟩:=hm
   simp only at he hw
   have hx:GN D[i].W:=hv _ (List.getElem_mem hi)
   have O:=TM r _ (hvk i)
   have hstep:SC r ((D.take (i+1)).map kvE)=ins r (D[i].From,D[i].To) (YS D[i].W) (SC r ((D.take i).map kvE)):=by rw [GO hi,kU]; rfl
   simp only [hstep] at hn
   generalize SC r ((D.take i).map kvE)=l at he hw O hn
   subst he hw
   have hll:l.length≤1000000:=by have:=O.1; simp at this; omega
   refine A0 (fun _=>?_) (fun h=>by omega)
   have hel:∀ (j:Nat) (h:j<l.length),(l.map e0)[j]? = some (e0 l[j]):=fun j h=>by simp [h]
   -- where it goes
   refine CJ (fun a:Int=>∃ n:Nat,a=n∧n≤l.length∧(∀ (j:Nat) (Z:j<n) (hjl:j<l.length),MF l[j].1 (D[i].From,D[i].To))∧∀ h:n<l.length,¬MF l[n].1 (D[i].From,D[i].To)) ?_ fun k hk=>?_
   · rintro _ ⟨n,rfl,G,hlt,hge⟩
     have Y:∀ j (Z:j<n),MF (l[j]'(by omega)).1 (D[i].From,D[i].To):=fun j Z=>hlt j Z (by omega)
     refine AK hi (F4 hx ?_)
     refine CJ (fun b=>b=decide (∃ h:n<l.length,l[n].1=(D[i].From,D[i].To))) ?_ fun k hk=>?_
     · rintro _ rfl
       refine A0 (fun hb=>?_) (fun hb=>?_)
       · obtain ⟨h,hb⟩:=hb
         refine A9 (by omega) (x:=l[n].2) (by simp [h]) (TL (O.2 _ (List.getElem_mem h)) (kS hx) (A9 (by omega) (x:=l[n].2) (by simp [h]) (hn (l.map e0,(l.map (·.2)).set n (F6 r l[n].2 (YS D[i].W))) ⟨?_,?_⟩)))
         · rw [kY h Y hb,List.map_set]
           apply List.ext_getElem?
           intro j
           rw [List.getElem?_set]
           split
           · rename_i e; subst e; simp [h,e0,hb]
           · rfl
         · rw [kY h Y hb,List.map_set]
       · have hins:=tD (r:=r) (v:=YS D[i].W) G Y (fun h=>⟨hge h,fun e=>hb ⟨h,e⟩⟩)
         rw [hins] at hn
         refine AR (by simp; omega) (AR (by simp; omega) ?_)
         refine DE (fun s:List DX×List AL×Int=>∃ j:Nat,s.2.2=j∧n≤j∧j≤l.length∧s.1.length=l.length+1∧s.2.1.length=l.length+1∧(∀ q,q<j→s.1[q]? = (l.map e0)[q]?∧s.2.1[q]? = (l.map (·.2))[q]?)∧∀ q,j≤q→q<l.length→s.1[q+1]? = (l.map e0)[q]?∧s.2.1[q+1]? = (l.map (·.2))[q]?)
           (fun s=>s.2.2.toNat) ⟨l.length,?_,G,Nat.le_refl _,by simp,by simp,fun q J=>?_,fun q h1 h2=>by omega⟩ ?_
         · simp only; rw [AJ (by simp <;> omega) (by simp <;> omega)]; simp
         · simp only; rw [List.getElem?_append_left (by simpa using J),List.getElem?_append_left (by simpa using J)]; exact ⟨rfl,rfl⟩
         rintro ⟨s1,s2,s3⟩ next ⟨j,Z,hnj,hjl,hl1,hl2,U,hhi⟩ hnx
         simp only at Z hl1 hl2 U hhi
         subst Z
         refine A0 (fun h=>?_) (fun h=>?_)
         · obtain ⟨j,rfl⟩:∃ m,j=m+1:=⟨j - 1,by omega⟩
           have hjm:j<l.length:=by omega
           have ej:A7 (((j+1:Nat):Int) - 1)=(j:Int):=by rw [AJ (by omega) (by omega)]; omega
           rw [ej]
           refine A9 (by omega) (x:=e0 l[j]) (by simp only [Int.toNat_natCast]; rw [(U j (by omega)).1,hel j hjm]) (AK (i:=j+1) (by omega) (A9 (by omega) (x:=l[j].2) (by simp only [Int.toNat_natCast]; rw [(U j (by omega)).2]; simp [hjm]) (AK (i:=j+1) (by omega) (hnx _ ⟨j,rfl,by omega,by omega,by simp [hl1],by simp [hl2],fun q J=>?_,fun q h1 h2=>?_⟩ ?_))))
           · simp only [Int.toNat_natCast]
             rw [List.getElem?_set_ne (by omega),List.getElem?_set_ne (by omega)]
             exact U q (by omega)
           · simp only [Int.toNat_natCast]
             rw [List.getElem?_set,List.getElem?_set]
             by_cases e:q=j
             · subst e; rw [if_pos rfl,if_pos (by omega),if_pos rfl,if_pos (by omega)]; simp [hjm]
             · rw [if_neg (by omega),if_neg (by omega)]; exact hhi q (by omega) h2
           · simp only; omega
         · have hjn:j=n:=by omega
           subst hjn
           refine AK hi (AK hi (AK (by omega) (AK (by omega) (hn (s1.set j (mkE (D[i].From,D[i].To) 0),s2.set j (YS D[i].W)) ⟨?_,?_⟩))))
           · simp only [Int.toNat_natCast,List.map_append,List.map_cons]
             have:=Y4 (pre:=(l.take j).map e0) (post:=(l.drop j).map e0) (s:=s1) (x:=e0 ((D[i].From,D[i].To),YS D[i].W)) (by simp [hl1]; omega) (fun q J=>?_) (fun q J=>?_)
             · simp only [List.length_map,List.length_take,Nat.min_eq_left G] at this; exact this
             · simp only [List.length_map,List.length_take,Nat.min_eq_left G] at J
               rw [(U q J).1]; simp [J]
             · simp only [List.length_map,List.length_take,List.length_drop,Nat.min_eq_left G] at J ⊢
               rw [show j+1+q=j+q+1 by omega,(hhi (j+q) (by omega) (by omega)).1]; simp
           · simp only [Int.toNat_natCast,List.map_append,List.map_cons]
             have:=Y4 (pre:=(l.take j).map (·.2)) (post:=(l.drop j).map (·.2)) (s:=s2) (x:=YS D[i].W) (by simp [hl2]; omega) (fun q J=>?_) (fun q J=>?_)
             · simp only [List.length_map,List.length_take,Nat.min_eq_left G] at this; exact this
             · simp only [List.length_map,List.length_take,Nat.min_eq_left G] at J
               rw [(U q J).2]; simp [J]
             · simp only [List.length_map,List.length_take,List.length_drop,Nat.min_eq_left G] at J ⊢
               rw [show j+1+q=j+q+1 by omega,(hhi (j+q) (by omega) (by omega)).2]; simp
     · refine A0 (fun h=>?_) (fun h=>hk _ ?_)
       · have h:n<l.length:=by simpa using h
         refine AK hi (A9 (by omega) (x:=e0 l[n]) (by simpa using hel n h) (nU (hk _ ?_)))
         have hg:=hge h
         have e1:((e0 l[n]).From,(e0 l[n]).To)=l[n].1:=rfl
         rw [e1]
         by_cases e:l[n].1=(D[i].From,D[i].To)
         · rw [decide_eq_true (p:=∃ h:n<l.length,l[n].1=_) ⟨h,e⟩,e,decide_eq_false (EH _)]; rfl
         · rw [decide_eq_false (p:=∃ h:n<l.length,l[n].1=_) (fun ⟨_,e'⟩=>e e'),decide_eq_true (ZE hg e)]; rfl
       · rw [decide_eq_false]
         rintro ⟨h',_⟩
         simp at h; omega
   · refine D7 l.length (by omega) (fun n=>∀ (j:Nat) (Z:j<n) (hjl:j<l.length),MF l[j].1 (D[i].From,D[i].To)) (by simp) (fun j next Z hR hnx=>?_) (fun next hR=>?_)
     · refine A0 (fun _=>?_) (fun h=>by simp at h; omega)
       refine A9 (by omega) (x:=e0 l[j]) (by simpa using hel j Z) (AK hi (nU (A0 (fun h=>hnx fun q J hql=>?_) (fun h=>hk _ ⟨j,rfl,by omega,hR,fun _=>h⟩))))
       by_cases e:q=j
       · subst e; exact h
       · exact hR q (by omega) hql
     · refine A0 (fun h=>by simp at h) (fun _=>hk _ ⟨l.length,rfl,Nat.le_refl _,hR,fun h=>by omega⟩)
 · obtain ⟨es,ws⟩:=s
   obtain ⟨he,hw⟩:=hm
   simp only at he hw
   rw [List.take_length] at he hw
   refine A0 (fun h=>by omega) (fun _=>?_)
   have O:=TM r (D.map kvE) (by simpa using hvk D.length)
   generalize SC r (D.map kvE)=l at he hw O hQ
   subst he hw
   have hll:l.length≤1000000:=by have:=O.1; simp at this; omega
   refine B2 (fun (s:List DX) i=>(s,i)) 0 l.length (by omega) (fun i s=>s=(l.take i).map (fun p=>mkE p.1 (ME p.2).1)++(l.drop i).map e0∧∀ p∈l.take i,(ME p.2).2=true) (by omega) ⟨by simp,by simp⟩ (fun i s next _ hi hm hn=>?_) (fun s next hm=>?_)
   · obtain ⟨rfl,V⟩:=hm
     refine A0 (fun _=>?_) (fun h=>by simp at h; omega)
     refine A9 (by omega) (x:=l[i].2) (by simp [hi]) (UF (O.2 _ (List.getElem_mem hi)) (CF (fun h=>?_) (fun h=>?_)))
     · rw [tC (List.getElem_mem hi) h] at hQ; exact hQ
     · have hdr:l.drop i=l[i] :: l.drop (i+1):=by rw [List.drop_eq_getElem_cons hi]
       have hlen:((l.take i).map (fun p=>mkE p.1 (ME p.2).1)).length=i:=by simp; omega
       refine A9 (by omega) (x:=e0 l[i]) ?_ (hn _ ⟨?_,?_⟩)
       · rw [hdr,Int.toNat_natCast,List.getElem?_append_right (by omega),hlen,Nat.sub_self]; rfl
       · rw [hdr,Int.toNat_natCast,List.set_append,if_neg (by omega),hlen,GO hi,Nat.sub_self,List.append_assoc]; rfl
       · intro p hp
         rw [List.take_succ_eq_append_getElem hi] at hp
         rcases List.mem_append.1 hp with hp | hp
         · exact V p hp
         · simp at hp; subst hp; exact h
   · obtain ⟨rfl,V⟩:=hm
     refine A0 (fun h=>by simp at h) (fun _=>?_)
     rw [eW (m:=[]) (.refl l) (by simpa using V)] at hQ
     simpa using hQ
end Go.Proofs.YtbohadngdkjljaaGreat
