import Derived.Test.YtkbkaodgfedfmaaGreatT
import Derived.Test.YtkbkaodgfedfmaaGreatFwQ
namespace Go.Proofs.YtkbkaodgfedfmaaGreat
open Go Go.Fw
set_option linter.unusedVariables false
set_option linter.unusedSimpArgs false
variable {α:Type}
def O5 (x y:Int):Int:=if x<y then -1 else if y<x then 1 else 0
theorem FR {x y:Int} {Q:Int->Prop} (h:Q (O5 x y)):CI x y Q:=by
 unfold CI H6;unfold O5 at h;refine AC (by simp) (AC (by simp) (A1 (λd=>?_) (λd=>A1 (λD=>?_) (λD=>?_))))
 . rwa [if_pos d] at h
 . rwa [if_neg d,if_pos D] at h
 . rwa [if_neg d,if_neg D] at h
theorem fR {x y:Int} {Q:Int->Prop} (h:Q (O5 x y)):GR x y Q:=by
 unfold GR LY;unfold O5 at h;refine AC (by simp) (AC (by simp) (A1 (λd=>?_) (λd=>A1 (λD=>?_) (λD=>?_))))
 . rwa [if_pos d] at h
 . rwa [if_neg d,if_pos D] at h
 . rwa [if_neg d,if_neg D] at h
theorem qU {x y:Int} {Q:Int->Prop} (h:Q (O5 x y)):IF x y Q:=by
 unfold IF KM;unfold O5 at h;refine AC (by simp) (AC (by simp) (A1 (λd=>?_) (λd=>A1 (λD=>?_) (λD=>?_))))
 . rwa [if_pos d] at h
 . rwa [if_neg d,if_pos D] at h
 . rwa [if_neg d,if_neg D] at h
def or2 (x y:Int):Int:=if x=0 then y else x
theorem sH {x y:Int} {Q:Int->Prop} (h:Q (or2 x y)):IE [x,y] Q:=by
 unfold IE;unfold or2 at h;refine CM 2 (by omega) (λi=>(0<i->x=0)∧(1<i->y=0)) ⟨by omega,by omega⟩ (λi next hi d D=>?_) (λnext d=>?_)
 . refine A1 (λ_=>?_) (λh=>by simp at h; omega)
   match i,hi with
   | 0,_=>exact AK (by omega) (x:=x) rfl (BI (λe=>by rwa [if_neg e] at h) (λe=>D ⟨λ_=>e,by omega⟩))
   | 1,_=>exact AK (by omega) (x:=y) rfl (BI (λe=>by rwa [if_pos (d.1 (by omega))] at h) (λe=>D ⟨λ_=>d.1 (by omega),λ_=>e⟩))
 . refine A1 (λh=>by simp at h) (λ_=>?_)
   rwa [if_pos (d.1 (by omega)),d.2 (by omega)] at h
def Q6 (a:AL):Prop:=-9223372036854775808<=a.Hi∧a.Hi<=9223372036854775807∧0<=a.Lo∧a.Lo<=18446744073709551615
def EZ (x:Int):Prop:=-9223372036854775808<=x∧x<=9223372036854775807
def lE (a b:AL):Prop:=a.Hi<b.Hi∨(a.Hi=b.Hi∧a.Lo<=b.Lo)
instance (a b:AL):Decidable (lE a b):=by unfold lE; infer_instance
theorem X0 (x:Int):IntKind.wrap .u64 x=x % 18446744073709551616:=by simp[IntKind.wrap,IntKind.bits,IntKind.signed]
theorem KA (x:Int):A6 x=(x+9223372036854775808) % 18446744073709551616 - 9223372036854775808:=by show IntKind.wrap .i64 x=_;rw[IntKind.wrap_i64]
def nT (v:Int):AL:=⟨if v<0 then -1 else 0,v % 18446744073709551616⟩
theorem AcZ {v:Int} (h:EZ v):Q6 (nT v):=by unfold nT Q6; unfold EZ at h; simp only; split <;> omega
theorem AmZ {v:Int} (h:EZ v):shr .i64 v 63=if v<0 then -1 else 0:=by
 unfold EZ at h;show v.fdiv (2 ^ 63)=_;rw[Int.fdiv_eq_ediv_of_nonneg _ (by decide)];split
 . rw[show(2:Int) ^ 63=9223372036854775808 from rfl]; omega
 . rw[show(2:Int) ^ 63=9223372036854775808 from rfl]; omega
theorem KB {v:Int} {Q:AL->Prop} (h:EZ v) (d:Q (nT v)):N5 v Q:=by unfold N5; rw[AmZ h,X0]; exact d
theorem yB {a b:AL} {Q:Int->Prop} (d:Q (or2 (O5 a.Hi b.Hi) (O5 a.Lo b.Lo))):RA a b Q:=by unfold RA;exact fR (qU (sH d))
theorem sI {a b:AL} {Q:AL->Prop} (d:Q (if lE a b then a else b)):PS a b Q:=by
 unfold PS;refine yB (A1 (λh=>?_) (λh=>?_))
 . rwa [if_pos] at d
   unfold lE; unfold or2 O5 at h
   (repeat' split at h) <;> omega
 . rwa [if_neg] at d
   unfold lE; unfold or2 O5 at h
   (repeat' split at h) <;> omega
theorem Q7 {a b:AL} (h1:a.Hi=b.Hi) (h2:a.Lo=b.Lo):a=b:=by cases a; cases b; simp_all
def KC (r:Int) (a b:AL):AL:=
 if r=1∨r=3∨r=4 then (if lE a b then a else b)
 else if r=2 then (if a=⟨0,0⟩∧b=⟨0,0⟩ then ⟨0,0⟩ else ⟨0,1⟩)
 else if r=5 then ⟨A6 (a.Hi+b.Hi+(if 18446744073709551616<=a.Lo+b.Lo then 1 else 0)),(a.Lo+b.Lo) % 18446744073709551616⟩
 else ⟨0,0⟩
theorem VR {r:Int} {a b:AL} (ha:Q6 a) (hb:Q6 b):Q6 (KC r a b):=by
 unfold KC;split
 . split <;> assumption
 . split
   . split <;> (unfold Q6; simp)
   . split
     . unfold Q6 at *; simp only[KA]; omega
     . unfold Q6; simp
theorem fS {b:Bool} {Q:AL->Prop} (d:Q (if b then ⟨0,1⟩ else ⟨0,0⟩)):M4 b Q:=by
 unfold M4;refine⟨λh=>KB (by unfold EZ; omega) ?_,λh=>?_⟩
 . subst h; exact d
 . subst h; exact d
theorem lF {a b:AL} {Q:AL->Prop} (J:Q6 a) (D:Q6 b) (d:Q (KC 5 a b)):YG a b Q:=by
 unfold YG S8;have e:KC 5 a b=⟨A6 (a.Hi+b.Hi+(if 18446744073709551616<=a.Lo+b.Lo then 1 else 0)),(a.Lo+b.Lo) % 18446744073709551616⟩:=rfl;rw[e] at d;unfold Q6 at J D;simp only[X0,KA] at d ⊢;refine A1 (λh=>?_) (λh=>?_)
 . rw[if_pos (by omega)] at d;have:((a.Hi % 18446744073709551616+b.Hi % 18446744073709551616) % 18446744073709551616+1) % 18446744073709551616=(a.Hi+b.Hi+1) % 18446744073709551616:=by omega
   rw[this];have:((a.Hi+b.Hi+1) % 18446744073709551616+9223372036854775808) % 18446744073709551616=(a.Hi+b.Hi+1+9223372036854775808) % 18446744073709551616:=by omega
   rw[this]; exact d
 . rw[if_neg (by omega)] at d;have:((a.Hi % 18446744073709551616+b.Hi % 18446744073709551616) % 18446744073709551616+0) % 18446744073709551616=(a.Hi+b.Hi+0) % 18446744073709551616:=by omega
   rw[this];have:((a.Hi+b.Hi+0) % 18446744073709551616+9223372036854775808) % 18446744073709551616=(a.Hi+b.Hi+0+9223372036854775808) % 18446744073709551616:=by omega
   rw[this]; exact d
theorem YN {r:Int} {a b:AL} {Q:AL->Prop} (ha:Q6 a) (W:Q6 b) (d:Q (KC r a b)):S9 r a b Q:=by
 unfold S9;refine BP (λt=>t=decide (r=1∨r=3∨r=4)) (λt V=>?_) λk hk=>?_
 . subst V;refine A1 (λh=>sI ?_) (λh=>AV (λU=>?_) (λU=>AV (λK=>lF ha W ?_) (λK=>?_)))
   . unfold KC at d; rwa [if_pos h] at d
   . subst U;unfold KC at d;rw[if_neg h,if_pos rfl] at d;refine BK (λO=>fS ?_) (λD=>fS ?_)
     . rw[if_neg] at d
       . exact d
       . rintro⟨e1,Z⟩; subst e1 Z; simp at O
     . have D:a=b:=by simpa using D
       subst D;by_cases e:a=⟨0,0⟩
       . rw[if_pos ⟨e,e⟩] at d; simpa[e] using d
       . rw[if_neg (λh=>e h.1)] at d; simpa[e] using d
   . subst K; exact d
   . unfold KC at d; rwa [if_neg h,if_neg U,if_neg K] at d
 . refine AV (λh=>hk _ ?_) (λh=>AV (λJ=>hk _ ?_) (λJ=>hk _ ?_))
   . simp[h]
   . simp[J]
   . by_cases h4:r=4 <;> simp[h,J,h4]
def LJ (a:AL):Int×Bool:=if (a.Hi=0∧a.Lo<=9223372036854775807)∨(a.Hi = -1∧9223372036854775808<=a.Lo) then (A6 a.Lo,true) else (0,false)
theorem sJ {r:Int} {a:AL} {Q:Int×Bool->Prop} (D:Q6 a) (d:Q (LJ a)):PT r a Q:=by
 unfold PT YH;unfold Q6 at D;unfold LJ at d;refine KB (by unfold EZ; rw[KA]; omega) (BK (λh=>?_) (λh=>?_))
 . rw[if_neg] at d
   . exact d
   . intro h';simp only[beq_eq_false_iff_ne,ne_eq] at h;apply h;apply Q7 <;> simp only[nT,KA] <;> (try split) <;> omega
 . have h:nT (A6 a.Lo)=a:=by simpa using h
   rw[if_pos] at d
   . exact d
   . rw[<-h];simp only[nT,KA];split <;> omega
theorem P4 {r:Int} {Q:Bool->Prop} (d:Q (decide (1<=r∧r<=5))):QZ r Q:=by
 unfold QZ;refine A1 (λh=>?_) (λh=>?_)
 . rwa [show decide (r<6)=decide (1<=r∧r<=5) by apply decide_eq_decide.2; omega]
 . rwa [show decide (1<=r∧r<=5)=false by apply decide_eq_false; omega] at d
open Go Go.Fw Go.Sort Go.Shelf
abbrev JX:=Int×Int
def MB (a b:JX):Prop:=a.1<b.1∨(a.1=b.1∧a.2<b.2)
instance (a b:JX):Decidable (MB a b):=by unfold MB; infer_instance
theorem aQ {a b c:JX} (h1:MB a b) (h2:MB b c):MB a c:=by unfold MB at *; omega
theorem GD (a:JX):¬MB a a:=by unfold MB; omega
theorem Ad0 {a b:JX} (h1:¬MB a b) (h2:a≠b):MB b a:=by obtain⟨a1,a2⟩:=a; obtain⟨b1,b2⟩:=b;unfold MB at *;simp only[ne_eq,Prod.mk.injEq] at *;omega
def ins (r:Int) (k:JX) (v:AL):List (JX×AL)->List (JX×AL)
 | []=>[(k,v)]
 | p :: l=>if MB p.1 k then p :: ins r k v l else if p.1=k then (k,KC r p.2 v) :: l else (k,v) :: p :: l
def SC (r:Int) (ts:List (JX×Int)):List (JX×AL):=ts.foldl (λl t=>ins r t.1 (nT t.2) l) []
theorem AjM (r:Int) (ts:List (JX×Int)) (t:JX×Int):SC r (ts++[t])=ins r t.1 (nT t.2) (SC r ts):=by simp[SC]
def srt (l:List (JX×AL)):Prop:=l.Pairwise λa b=>MB a.1 b.1
theorem nU {r:Int} {k:JX} {v:AL}:∀ {l:List (JX×AL)} {p:JX×AL},p∈ins r k v l->p.1=k∨∃ q∈l,q.1=p.1
 | [],p,h=>by simp[ins] at h; simp[h]
 | q :: l,p,h=>by
  unfold ins at h;split at h
  . rcases List.mem_cons.1 h with rfl | h
    . exact .inr ⟨p,by simp,rfl⟩
    . rcases nU h with h | ⟨x,hx,e⟩
      . exact .inl h
      . exact .inr ⟨x,by simp[hx],e⟩
  . split at h
    . rcases List.mem_cons.1 h with rfl | h
      . exact .inl rfl
      . exact .inr ⟨p,by simp[h],rfl⟩
    . rcases List.mem_cons.1 h with rfl | h
      . exact .inl rfl
      . exact .inr ⟨p,h,rfl⟩
theorem uP {r:Int} {k:JX} {v:AL}:∀ {l:List (JX×AL)},srt l->srt (ins r k v l)
 | [],_=>by simp[ins,srt]
 | p :: l,h=>by
  unfold srt at h;rw[List.pairwise_cons] at h;unfold ins;split
  . rename_i hk;refine List.pairwise_cons.2 ⟨λq d=>?_,uP h.2⟩;rcases nU d with e | ⟨x,hx,e⟩
    . rw[e]; exact hk
    . rw[<-e]; exact h.1 x hx
  . rename_i hk;split
    . rename_i e;subst e;exact List.pairwise_cons.2 ⟨λq d=>h.1 q d,h.2⟩
    . rename_i e;have:=Ad0 hk e
      exact List.pairwise_cons.2 ⟨λq d=>by
       rcases List.mem_cons.1 d with rfl | d
       . exact this
       . exact aQ this (h.1 q d),List.pairwise_cons.2 h⟩
theorem uQ (r:Int) (ts:List (JX×Int)):srt (SC r ts):=by
 unfold SC
 suffices ∀ (ts:List (JX×Int)) (l:List (JX×AL)),srt l->srt (ts.foldl (λl t=>ins r t.1 (nT t.2) l) l) from this ts [] .nil
 intro ts
 induction ts with
 | nil=>intro l h; exact h
 | cons t ts d=>intro l h; exact d _ (uP h)
theorem nV {l:List (JX×AL)} (h:srt l):F0 l:=by unfold F0;rw[List.nodup_iff_pairwise_ne,List.pairwise_map];exact List.Pairwise.imp (R:=λa b:JX×AL=>MB a.1 b.1) (λ{a b} d (e:a.1=b.1)=>GD b.1 (by rw[e] at d; exact d)) h
theorem Ad1 (r:Int) (k:JX) (v:AL):∀ l:List (JX×AL),(ins r k v l).length<=l.length+1
 | []=>by simp[ins]
 | p :: l=>by
  unfold ins;have:=Ad1 r k v l;split
  . simp; omega
  . split <;> simp
theorem Ad2 {r:Int} {k:JX} {v:AL} (d:Q6 v):∀ {l:List (JX×AL)},(∀ p∈l,Q6 p.2)->∀ p∈ins r k v l,Q6 p.2
 | [],_,p,h=>by simp[ins] at h; rw[h]; exact d
 | q :: l,hl,p,h=>by
  unfold ins at h;split at h
  . rcases List.mem_cons.1 h with rfl | h
    . exact hl _ (by simp)
    . exact Ad2 d (λx D=>hl x (by simp[D])) p h
  . split at h
    . rcases List.mem_cons.1 h with rfl | h
      . exact VR (hl q (by simp)) d
      . exact hl p (by simp[h])
    . rcases List.mem_cons.1 h with rfl | h
      . exact d
      . exact hl p h
theorem mR (r:Int):∀ (ts:List (JX×Int)),(∀ t∈ts,EZ t.2)->(SC r ts).length<=ts.length∧∀ p∈SC r ts,Q6 p.2:=by
 suffices ∀ (ts:List (JX×Int)) (l:List (JX×AL)),(∀ t∈ts,EZ t.2)->(∀ p∈l,Q6 p.2)->(ts.foldl (λl t=>ins r t.1 (nT t.2) l) l).length<=l.length+ts.length∧∀ p∈ts.foldl (λl t=>ins r t.1 (nT t.2) l) l,Q6 p.2 from
  λts h=>by simpa[SC] using this ts [] h (by simp)
 intro ts
 induction ts with
 | nil=>intro l _ h; exact⟨by simp,h⟩
 | cons t ts D=>
  intro l d h;have:=D (ins r t.1 (nT t.2) l) (λx J=>d x (by simp[J])) (Ad2 (AcZ (d t (by simp))) h);have h2:=Ad1 r t.1 (nT t.2) l;exact⟨by simp only[List.foldl_cons,List.length_cons]; omega,this.2⟩
theorem AgX {p:JX×AL} {l:List (JX×AL)} {k:JX} (h:srt (p :: l)) (hk:MB k p.1):B9 k (p :: l)=none:=by
 apply ZX;intro J;obtain⟨q,d,e⟩:=List.mem_map.1 J;rcases List.mem_cons.1 d with rfl | d
 . exact GD k (e▸hk)
 . have D:=aQ hk ((List.pairwise_cons.1 h).1 q d);rw[e] at D; exact GD k D
theorem Ad3 {r:Int} {k:JX} {v:AL} (d:JX):∀ {l:List (JX×AL)},srt l->B9 d (ins r k v l)=if d=k then some (match B9 k l with | some w=>KC r w v | none=>v) else B9 d l
 | [],_=>by simp only[ins,B9]
 | p :: l,h=>by
  have ih:=Ad3 (r:=r) (k:=k) (v:=v) d (List.pairwise_cons.1 h).2;unfold ins;split
  . rename_i hk;have D:¬k=p.1:=λe=>GD k (by rw[<-e] at hk; exact hk);simp only[B9,ih,if_neg D];by_cases e:d=k
    . subst e; simp[D]
    . simp[e]
  . rename_i hk;split
    . rename_i e;subst e;simp only[B9,if_true];by_cases e:d=p.1 <;> simp[e]
    . rename_i e;have J:=Ad0 hk e;rw[AgX h J];simp only[B9]
theorem AgY {r:Int} {k:JX} {v:AL} {l:List (JX×AL)} (h:srt l):(ins r k v l).Perm (DK k (match B9 k l with | some w=>KC r w v | none=>v) l):=by
 refine sG (nV (uP h)) (GQ (nV h) _ _) λd=>?_;rw[Ad3 d h];by_cases e:d=k
 . subst e; simp[CO]
 . simp[e,DJ e]
def TL (l:List (JX×AL)) (mk:JX->Int->α):List α×Int:=if l.all (λp=>(LJ p.2).2) then (l.map (λp=>mk p.1 (LJ p.2).1),0) else ([],12)
def mkT (k:JX) (v:Int):A3:=⟨k.1,k.2,v⟩
def kvE (t:B5):JX×Int:=((t.From,t.To),t.W)
def mkE (k:JX) (v:Int):B5:=⟨k.1,k.2,v⟩
theorem Ad4 {U:α->α->(Int->Prop)->Prop} (D:α->α->Int) (hc:∀ x y Q,Q (D x y)->U x y Q) (hO:SWO (ltOf D)) {xs V:List α} {K:List α->Prop} (hl:xs.length<=1000000000000) (hp:xs.Perm V) (W:V.Pairwise λx y=>D x y<0) (hK:K V):xU U xs K:=by
 refine⟨D,λx y Q=>hc x y Q,hO,by omega,λys O d=>?_⟩
 have J:∀ x y,D x y<0->0<=D y x:=by
  intro x y h;rcases Int.lt_or_le (D y x) 0 with h' | h'
  . have:=hO.trans x y x (by simpa[ltOf] using h) (by simpa[ltOf] using h');rw[hO.irrefl] at this; cases this
  . exact h'
 have:ys=V:=aO (O.trans hp) d (W.imp λ{a b} h=>J a b h) λa b ha Z h1 h2=>by
  have ha:=(O.trans hp).mem_iff.1 ha;have Z:=(O.trans hp).mem_iff.1 Z;obtain⟨i,hi,rfl⟩:=List.getElem_of_mem ha;obtain⟨j,hj,rfl⟩:=List.getElem_of_mem Z;rw[List.pairwise_iff_getElem] at W;rcases Nat.lt_trichotomy i j with h | h | h
  . have:=W i j hi hj h; omega
  . subst h; rfl
  . have:=W j i hj hi h; omega
 rw[this]; exact hK
def cfT (x y:A3):Int:=or2 (O5 x.Row y.Row) (O5 x.Col y.Col)
theorem uR (x y:A3):cfT x y<0↔MB (x.Row,x.Col) (y.Row,y.Col):=by
 unfold cfT or2 O5 MB
 (repeat' split) <;> simp only <;> omega
theorem AlN {x y:A3} {Q:Int->Prop} (h:Q (cfT x y)):aA x y Q:=by unfold aA;exact FR (FR (sH h))
theorem mS:SWO (ltOf cfT) where
 irrefl x:=by unfold ltOf; simp only[uR]; simp[MB]
 trans x y z h1 h2:=by unfold ltOf at *; simp only[uR,decide_eq_true_eq] at *; exact aQ h1 h2
 ntrans x y z h1 h2:=by unfold ltOf at *; simp only[uR,decide_eq_false_iff_not,MB] at *; omega
def cfE (x y:B5):Int:=or2 (or2 (O5 x.From y.From) (O5 x.To y.To)) (O5 x.W y.W)
theorem uS (x y:B5):cfE x y<0↔MB (x.From,x.To) (y.From,y.To)∨(x.From=y.From∧x.To=y.To∧x.W<y.W):=by
 unfold cfE or2 O5 MB
 (repeat' split) <;> simp only <;> omega
theorem AlO {x y:B5} {Q:Int->Prop} (h:Q (cfE x y)):U4 x y Q:=by unfold U4 dA;exact FR (FR (sH (fR (sH h))))
theorem AjN:SWO (ltOf cfE) where
 irrefl x:=by unfold ltOf; simp only[uS]; simp[MB]
 trans x y z h1 h2:=by unfold ltOf at *; simp only[uS,decide_eq_true_eq,MB] at *; omega
 ntrans x y z h1 h2:=by unfold ltOf at *; simp only[uS,decide_eq_false_iff_not,MB] at *; omega
theorem AgZ {m d:List (JX×AL)} {l:List (JX×AL)} {mk:JX->Int->α} (hp:d.Perm l) (D:∀ p∈d,(LJ p.2).2=true):TL l mk=(l.map (λp=>mk p.1 (LJ p.2).1),0):=by unfold TL;rw[if_pos];rw[List.all_eq_true];exact λp h=>D p (hp.mem_iff.2 h)
theorem AjO {l:List (JX×AL)} {mk:JX->Int->α} {p:JX×AL} (hp:p∈l) (d:(LJ p.2).2=false):TL l mk=([],12):=by unfold TL;rw[if_neg];rw[List.all_eq_true];intro h;rw[h p hp] at d; cases d
theorem NR {β:Type} {f:α->β} {xs:List α} {i:Nat} (h:i<xs.length):(xs.take (i+1)).map f=(xs.take i).map f++[f xs[i]]:=by rw[List.take_succ_eq_append_getElem h,List.map_append]; rfl
theorem nW {r:Int} {ts:List B5} {Q:List B5×Int->Prop} (hr:1<=r∧r<=5) (hl:ts.length<=1000000) (hv:∀ t∈ts,EZ t.W) (hQ:Q (TL (SC r (ts.map kvE)) mkE)):PJ r ts Q:=by
 unfold PJ;refine P4 (AC (by simp[hr]) ?_)
 have hvk:∀ (i:Nat) t,t∈(ts.take i).map kvE->EZ t.2:=by intro i t ht;obtain⟨x,hx,rfl⟩:=List.mem_map.1 ht;exact hv x (List.mem_of_mem_take hx)
 refine AD (λ(s:List (JX×AL)) i=>(s,i)) 0 ts.length (by omega) (λi m=>m.Perm (SC r ((ts.take i).map kvE))) (by omega) .nil (λi m next _ hi O hn=>?_) (λm next O=>?_)
 . have hx:EZ ts[i].W:=hv _ (List.getElem_mem hi);have hk:F0 m:=List.Perm.nodup (O.symm.map Prod.fst) (nV (uQ _ _));have hok:=(mR r _ (hvk i)).2
   have K:∀ w,(match B9 (ts[i].From,ts[i].To) m with | some w=>KC r w (nT ts[i].W) | none=>nT ts[i].W)=w->(DK (ts[i].From,ts[i].To) w m).Perm (SC r ((ts.take (i+1)).map kvE)):=by intro w Z;rw[NR hi,AjM,<-Z,AeU hk O];exact(AeT hk O _ _).trans (AgY (uQ _ _)).symm
   refine A1 (λ_=>?_) (λh=>by omega);refine B3 hi (KB hx (dD (λw Z=>AU rfl (YN ?_ (AcZ hx) (hn _ ?_))) (λZ=>AC rfl (hn _ ?_))))
   . exact hok _ (O.mem_iff.1 ((GX hk).1 Z))
   . exact K _ (by rw[Z])
   . exact K _ (by rw[Z])
 . refine A1 (λh=>by omega) (λ_=>?_);rw[List.take_length] at O;have V:=mR r (ts.map kvE) (by simpa using hvk ts.length);have J:=uQ r (ts.map kvE);generalize SC r (ts.map kvE)=l at O V J hQ;have hll:l.length<=1000000:=by simp at V; omega
   refine DC (λs:List B5×List (JX×AL)=>∃ d,(d++s.2).Perm l∧s.1=d.map (λp=>mkE p.1 (LJ p.2).1)∧∀ p∈d,(LJ p.2).2=true) (λs=>s.2.length) ⟨[],by simpa using O,rfl,by simp⟩ ?_;rintro⟨acc,rest⟩ next ⟨d,hd,rfl,D⟩ hn;simp only at hd;refine YM (λe=>?_) (λp rr hp=>?_)
   . subst e;simp only[List.append_nil] at hd;refine Ad4 cfE (λ_ _ _=>AlO) AjN (by have:=hd.length_eq; simp; omega) (hd.map _) ?_ ?_
     . rw[List.pairwise_map];exact List.Pairwise.imp (R:=λa b:JX×AL=>MB a.1 b.1) (λ{a b} h=>(uS _ _).2 (.inl h)) J
     . rw[AgZ (m:=[]) hd D] at hQ; exact hQ
   . have U:(d++p :: rr).Perm l:=(List.Perm.append_left d hp.symm).trans hd;have hpl:p∈l:=U.mem_iff.1 (by simp);refine sJ (V.2 p hpl) (BK (λh=>?_) (λh=>?_))
     . rw[AjO hpl h] at hQ; exact hQ
     . refine AH ?_ (hn _ ⟨d++[p],by simpa using U,by simp[mkE],?_⟩ ?_)
       . have:=U.length_eq; simp at this ⊢; omega
       . intro q hq;rcases List.mem_append.1 hq with hq | hq
         . exact D q hq
         . simp at hq; subst hq; exact h
       . have:=hp.length_eq; simp at this ⊢; omega
def e0 (p:JX×AL):B5:=mkE p.1 0
theorem SS {f:Nat->Int} {n j:Nat} (h:j<n):((List.range n).map f)[j]? = some (f j):=by simp[h]
theorem AbD {f:Nat->Int} {n j:Nat} {v:Int}:((List.range n).map f).set j v=(List.range n).map (λi=>if i=j then v else f i):=by
 apply List.ext_getElem?;intro i;rw[List.getElem?_set];simp only[List.length_map,List.length_range];by_cases e:j=i
 . subst e;by_cases h:j<n
   . rw[if_pos rfl,if_pos h,SS h,if_pos rfl]
   . rw[if_pos rfl,if_neg h,List.getElem?_eq_none (by simp; omega)]
 . rw[if_neg e];by_cases h:i<n
   . rw[SS h,SS h,if_neg (λh=>e h.symm)]
   . rw[List.getElem?_eq_none (by simp; omega),List.getElem?_eq_none (by simp; omega)]
theorem fT {f g:Nat->Int} {n:Nat} (h:∀ j,j<n->f j=g j):(List.range n).map f=(List.range n).map g:=List.map_congr_left λj d=>h j (by simpa using d)
def EO (ts:List A3) (j:Nat):Int:=((ts.countP (λt:A3=>decide (t.Row<(j:Int))):Nat):Int)
def VS (ts:List A3) (j:Nat):Int:=((ts.countP (λt:A3=>decide (t.Row+1=(j:Int))):Nat):Int)
theorem nX (ts:List A3) (t:A3) (j:Nat):EO (ts++[t]) j=EO ts j+if t.Row<j then 1 else 0:=by unfold EO; rw[List.countP_append,List.countP_singleton]; simp only[decide_eq_true_eq]; split <;> simp
theorem AbE (ts:List A3) (t:A3) (j:Nat):VS (ts++[t]) j=VS ts j+if t.Row+1=j then 1 else 0:=by unfold VS; rw[List.countP_append,List.countP_singleton]; simp only[decide_eq_true_eq]; split <;> simp
theorem fU (ts:List A3) (j:Nat):0<=EO ts j∧EO ts j<=ts.length:=by unfold EO; have:=List.countP_le_length (p:=λt:A3=>decide (t.Row<(j:Int))) (l:=ts); omega
theorem fV (ts:List A3) (j:Nat):0<=VS ts j∧VS ts j<=ts.length:=by unfold VS; have:=List.countP_le_length (p:=λt:A3=>decide (t.Row+1=(j:Int))) (l:=ts); omega
theorem X1 (j:Nat):∀ (ts:List A3),(∀ t∈ts,0<=t.Row)->EO ts (j+1)=EO ts j+VS ts (j+1)
 | [],_=>rfl
 | t :: ts,h=>by
  have:=X1 j ts λx J=>h x (by simp[J]);unfold EO VS at *;simp only[List.countP_cons];have h0:=h t (by simp);by_cases h1:t.Row<j
  . have d:t.Row<(j+1:Nat):=by omega
    have D:¬t.Row+1=((j+1:Nat):Int):=by omega
    simp only[h1,d,D,decide_true,decide_false,if_true,if_false]; simp only[Bool.false_eq_true,if_false]; omega
  . by_cases h4:t.Row+1=((j+1:Nat):Int)
    . have d:t.Row<(j+1:Nat):=by omega
      simp only[h1,d,h4,decide_true,decide_false,if_true,if_false]; simp only[Bool.false_eq_true,if_false]; omega
    . have d:¬t.Row<(j+1:Nat):=by omega
      simp only[h1,d,h4,decide_true,decide_false,if_true,if_false]; simp only[Bool.false_eq_true,if_false]; omega
def BH (rows cols:Int) (ts:List A3):Rows:=⟨rows,cols,(List.range (rows.toNat+1)).map (EO ts),ts.map (·.Col),ts.map (·.Val)⟩
theorem AeV (n:Nat):List.replicate n (0:Int)=(List.range n).map λ_=>0:=by
 apply List.ext_getElem?;intro i;by_cases h:i<n
 . rw[SS h]; simp[h]
 . rw[List.getElem?_eq_none (by simp; omega),List.getElem?_eq_none (by simp; omega)]
theorem nY {rows cols:Int} {ts:List A3} {Q:Rows->Prop} (h0:0<=rows) (h1:rows<=1000000) (hl:ts.length<=1000000) (D:∀ t∈ts,0<=t.Row∧t.Row<rows) (U:Q (BH rows cols ts)):RX rows cols ts Q:=by
 unfold RX VK;obtain⟨n,rfl⟩:∃ n:Nat,rows=n:=⟨rows.toNat,by omega⟩;have e:A6 ((n:Int)+1)=(n+1:Nat):=by rw[AB (by omega) (by omega)]; omega
 rw[e];refine⟨by omega,by omega,?_⟩;simp only[Int.toNat_natCast];rw[AeV];refine AD (λ(s:List Int×List Int×List Int) i=>(s.1,s.2.1,s.2.2,i)) 0 ts.length (s0:=((List.range (n+1)).map λ_=>0,[],[])) (by omega) (λi s=>s=((List.range (n+1)).map (VS (ts.take i)),(ts.take i).map (·.Col),(ts.take i).map (·.Val))) (by omega) (by simp[VS]) (λi s next _ hi d J=>?_) (λs next d=>?_)
 . subst d;dsimp only;have hr:=D _ (List.getElem_mem hi);refine A1 (λ_=>?_) (λh=>by omega);refine B3 hi ?_;obtain⟨q,hq⟩:∃ q:Nat,ts[i].Row=q:=⟨ts[i].Row.toNat,by omega⟩;have O:A6 (ts[i].Row+1)=(q+1:Nat):=by rw[AB (by omega) (by omega)]; omega
   rw[O];have hc:=fV (ts.take i) (q+1);have V:(ts.take i).length<=ts.length:=by simp; omega
   refine AK (by omega) (SS (by omega)) (AK (by omega) (SS (by omega)) (AH (by simp; omega) (AH (by simp; omega) (J ((List.range (n+1)).map (VS (ts.take (i+1))),(ts.take (i+1)).map (·.Col),(ts.take (i+1)).map (·.Val)) rfl |> cast ?_))));congr 1;simp only[Int.toNat_natCast];rw[AbD,NR hi,NR hi];refine Prod.ext (fT λj K=>?_) rfl;rw[List.take_succ_eq_append_getElem hi,AbE];by_cases ej:j=q+1
   . subst ej; rw[if_pos (by omega),if_pos rfl,AB (by omega) (by omega)]
   . rw[if_neg (by omega),if_neg ej]; omega
 . subst d;dsimp only;refine A1 (λh=>by omega) (λ_=>?_);simp only[List.take_length];refine AD (λ(s:List Int) i=>(s,i)) 0 n (by omega) (λi s=>s=(List.range (n+1)).map λj=>if j<=i then EO ts j else VS ts j) (by omega) (fT λj K=>?_) (λi s next _ hi d J=>?_) (λs next d=>?_)
   . by_cases ej:j<=0
     . rw[if_pos ej,show j=0 by omega];have:∀ t∈ts,¬t.Row<((0:Nat):Int):=λt h=>by have:=D t h; omega
       have h2:∀ t∈ts,¬t.Row+1=((0:Nat):Int):=λt h=>by have:=D t h; omega
       unfold VS EO;rw[List.countP_eq_zero.2 (by simpa using h2),List.countP_eq_zero.2 (by simpa using this)]
     . rw[if_neg ej]
   . subst d;refine A1 (λ_=>?_) (λh=>by omega);have O:A6 ((i:Int)+1)=(i+1:Nat):=by rw[AB (by omega) (by omega)]; omega
     rw[O] at J ⊢;refine AK (by omega) (SS (by omega)) (AK (by omega) (SS (by omega)) (AK (by omega) (SS (by omega)) (J _ ?_)));simp only[Int.toNat_natCast];rw[AbD];refine fT λj K=>?_;have W:=fU ts i;have Z:=fV ts (i+1);rw[if_neg (show ¬i+1<=i by omega),if_pos (Nat.le_refl i),AB (by omega) (by omega)];by_cases ej:j=i+1
     . subst ej; rw[if_pos rfl,if_pos (Nat.le_refl _),X1 i ts λt h=>(D t h).1]; omega
     . rw[if_neg ej];by_cases h:j<=i
       . rw[if_pos h,if_pos (by omega)]
       . rw[if_neg h,if_neg (by omega)]
   . subst d;refine A1 (λh=>by omega) (λ_=>?_);rw[fT (g:=EO ts) λj K=>if_pos (by omega)];exact U
def zR:Rows:=⟨0,0,[],[],[]⟩
def mT (rows cols:Int) (t:A3):Prop:=0<=t.Row∧t.Row<rows∧0<=t.Col∧t.Col<cols
instance (rows cols:Int) (t:A3):Decidable (mT rows cols t):=by unfold mT; infer_instance
theorem AjP {r:Int}:∀ {ts:List (JX×Int)} {p:JX×AL},p∈SC r ts->∃ t∈ts,t.1=p.1:=by
 suffices ∀ (ts:List (JX×Int)) (l:List (JX×AL)) p,p∈ts.foldl (λl t=>ins r t.1 (nT t.2) l) l->(∃ t∈ts,t.1=p.1)∨∃ q∈l,q.1=p.1 from λ{ts p} h=>by
  rcases this ts [] p h with h | ⟨q,D,_⟩
  . exact h
  . simp at D
 intro ts
 induction ts with
 | nil=>intro l p h; exact .inr ⟨p,h,rfl⟩
 | cons t ts J=>
  intro l p h;rcases J _ _ h with⟨x,O,e⟩ | ⟨q,D,e⟩
  . exact .inl ⟨x,by simp[O],e⟩
  . rcases nU D with d | ⟨y,K,d⟩
    . exact .inl ⟨t,by simp,by rw[<-e,d]⟩
    . exact .inr ⟨y,K,by rw[d,e]⟩
theorem AjQ {mk:JX->Int->α} (l:List (JX×AL)):(TL l mk).1.length<=l.length:=by unfold TL; split <;> simp
theorem aR {x y:Int} {Q:Bool->Prop} (d:Q (decide (0<=x∧x<=y))):M6 x y Q:=by
 unfold M6;refine A1 (λh=>?_) (λh=>?_)
 . rwa [show decide (x<=y)=decide (0<=x∧x<=y) by apply decide_eq_decide.2; omega]
 . rwa [show decide (0<=x∧x<=y)=false by apply decide_eq_false; omega] at d
def e2t (e:B5):A3:=⟨e.From,e.To,e.W⟩
theorem Ao4 (l:List (JX×AL)):(TL l mkT).1=(TL l mkE).1.map e2t∧(TL l mkT).2=(TL l mkE).2:=by
 unfold TL;split
 . exact⟨by simp only[List.map_map]; rfl,rfl⟩
 . exact⟨rfl,rfl⟩
theorem sK [BEq α] [LawfulBEq α] [DecidableEq α] {xs ys:List α} {Q:Bool->Prop} (U:xs.length<=1000000000000) (K:Q (decide (xs=ys))) :
   A8 ((xs.length:Int) != (ys.length:Int)) (Q false) (AW (λ(s:Int) (next:Int->Prop)=>A8 (decide (s<(xs.length:Int))) (AZ xs s λx=>AZ ys s λy=>A8 (x != y) (Q false) (next (A6 (s+1)))) (Q true)) 0):=by
 refine BI (λh=>?_) (λh=>?_)
 . rwa [decide_eq_false (λe=>h (by rw[e]))] at K
 have h:xs.length=ys.length:=by omega
 refine CM xs.length U (λi=>∀ (j:Nat) (d:j<xs.length) (D:j<ys.length),j<i->xs[j]=ys[j]) (by simp) (λi next hi J V=>?_) (λnext J=>?_)
 . refine A1 (λ_=>?_) (λh=>by omega);refine B3 hi (B3 (by omega) (BI (λe=>?_) (λe=>V λj d D hj=>?_)))
   . rwa [decide_eq_false (λO=>e (by subst O; rfl))] at K
   . by_cases ej:j=i
     . subst ej; exact e
     . exact J j d D (by omega)
 . refine A1 (λh=>by omega) (λ_=>?_)
   rwa [decide_eq_true (List.ext_getElem h λj d D=>J j d D d)] at K
theorem Ah0 {xs ys:List Int} {Q:Bool->Prop} (d:xs.length<=1000000000000) (h:Q (decide (xs=ys))):K4 xs ys Q:=by unfold K4; exact sK d h
def XT (a:Rows):Prop:=a.Start.length<=1000000000000∧a.Col.length<=1000000000000∧a.Val.length<=1000000000000
def An0 (a:Rows) (i:Nat):Prop:=∀ j:Nat,BD a.Start i<=j->(j:Int)<BD a.Start ((i:Int)+1)->0<=BD a.Col j∧BD a.Col j<a.Cols∧(BD a.Start i<j->BD a.Col ((j:Int) - 1)<BD a.Col j)
structure ST (a:Rows):Prop where
 r0:0≤a.Rows
 r1:a.Rows≤4096
 c0:0≤a.Cols
 c1:a.Cols≤4096
 sl:(a.Start.length:Int)=a.Rows+1
 vl:a.Val.length=a.Col.length
 cl:a.Col.length≤65536
 s0:BD a.Start 0=0
 sn:BD a.Start a.Rows=a.Col.length
 up:∀ i:Nat,(i:Int)<a.Rows→BD a.Start i≤BD a.Start ((i:Int)+1)
 row:∀ i:Nat,(i:Int)<a.Rows→An0 a i
noncomputable instance (a:Rows):Decidable (ST a):=Classical.propDecidable _
theorem Al6 {a:Rows} {n:Nat} (h:∀ i:Nat,i<n->BD a.Start i<=BD a.Start ((i:Int)+1)) {i j:Nat} (h1:i<=j) (h2:j<=n):BD a.Start i<=BD a.Start j:=by
  induction j with
  | zero =>
    have : i = 0 := by omega
    subst this; exact Int.le_refl _
  | succ j ih=>
    by_cases e:i=j+1
    . subst e; exact Int.le_refl _
    . have:=ih (by omega) (by omega);have h3:=h j (by omega);have:((j+1:Nat):Int)=(j:Int)+1:=by omega
      rw[this]; omega
theorem AjR {x y:Int} {Q:Bool->Prop} (h:Q (decide (x<y))):RF x y Q:=by unfold RF H6;exact AC (by simp) h
theorem yC {xs:List Int} {Q:Bool->Prop} (hl:xs.length<=1000000000) (K:(∀ i:Nat,i+1<xs.length->BD xs i<=BD xs ((i:Int)+1))->Q true) (U:(∃ i:Nat,i+1<xs.length∧¬BD xs i<=BD xs ((i:Int)+1))->Q false):FI xs Q:=by
 unfold FI;rw[AB (by omega) (by omega)];by_cases h0:xs.length=0
 . refine DC (λs:Int=>s = -1) (λ_=>0) (by omega) (λs next O J=>?_);subst O;exact A1 (λh=>by omega) (λ_=>K λi hi=>by omega)
 refine DC (λs:Int=>∃ j:Nat,s=j∧j<xs.length∧∀ i:Nat,j<=i->i+1<xs.length->BD xs i<=BD xs ((i:Int)+1)) (λs=>s.toNat) ⟨xs.length - 1,by omega,by omega,λi hi h=>by omega⟩ ?_;rintro _ next ⟨j,rfl,hj,D⟩ J;refine A1 (λh=>?_) (λh=>K λi hi=>D i (by omega) hi);obtain⟨j,rfl⟩:∃ q,j=q+1:=⟨j - 1,by omega⟩;have e:A6 (((j+1:Nat):Int) - 1)=(j:Int):=by rw[AB (by omega) (by omega)]; omega
 rw[e];refine BE (by omega) (by omega) (BE (by omega) (by omega) (AjR (A1 (λd=>U ⟨j,by omega,?_⟩) (λd=>J _ ⟨j,rfl,by omega,λi hi h=>?_⟩ (by omega)))))
 . have:((j+1:Nat):Int)=(j:Int)+1:=by omega
   rw[this] at d; omega
 . by_cases e:i=j
   . subst e;have:((i+1:Nat):Int)=(i:Int)+1:=by omega
     rw[this] at d; omega
   . exact D i (by omega) h
theorem Ad5 {xs:List Int} {lo hi:Int} {j:Nat} (h0:0<=lo) (h1:lo<=hi) (h2:hi<=xs.length) (hj:lo+j<hi):BD ((xs.take hi.toNat).drop lo.toNat) j=BD xs (lo+j):=by unfold BD;simp only[List.getD_eq_getElem?_getD,List.getElem?_drop,Int.toNat_natCast];rw[List.getElem?_take_of_lt (by omega)];congr 2; omega
theorem Ad6 {xs:List α} {lo hi:Int} (h0:0<=lo) (h1:lo<=hi) (h2:hi<=xs.length):((xs.take hi.toNat).drop lo.toNat).length=(hi - lo).toNat:=by simp only[List.length_drop,List.length_take]; omega
theorem AlP {xs:List Int} {cols:Int} {Q:Bool->Prop} (W:0<=cols) (V:cols<=4096) (hl:xs.length<=1000000000)
   (Z:(∀ j:Nat,j<xs.length->0<=BD xs j∧BD xs j<cols∧(0<j->BD xs ((j:Int) - 1)<BD xs j))->Q true) (U:(∃ j:Nat,j<xs.length∧¬(0<=BD xs j∧BD xs j<cols∧(0<j->BD xs ((j:Int) - 1)<BD xs j)))->Q false):mN xs cols Q:=by
 unfold mN;rw[AB (by omega) (by omega)];refine CM xs.length (by omega) (λi=>∀ j:Nat,j<i->j<xs.length->0<=BD xs j∧BD xs j<cols∧(0<j->BD xs ((j:Int) - 1)<BD xs j)) (by simp) (λi next hi K hn=>?_) (λnext K=>?_)
 . refine A1 (λ_=>?_) (λh=>by omega);refine BE (by omega) (by omega) (aR (BK (λh=>U ⟨i,hi,λO=>?_⟩) (λh=>?_)))
   . simp at h; omega
   have h:0<=BD xs i∧BD xs i<=cols - 1:=by simpa using h
   have hstep (hx:0<i->BD xs ((i:Int) - 1)<BD xs i):next (A6 ((i:Int)+1)):=hn λj D J=>by
     by_cases e:j=i
     . subst e; exact⟨h.1,by omega,hx⟩
     . exact K j (by omega) J
   refine A1 (λh0=>?_) (λh0=>hstep λh=>by omega);rw[AB (by omega) (by omega)];refine BE (by omega) (by omega) (A1 (λd=>U ⟨i,hi,λO=>?_⟩) (λd=>hstep λ_=>by omega));have:=O.2.2 (by omega); omega
 . exact A1 (λh=>by omega) (λ_=>Z λj D=>K j D D)
theorem fW {a:Rows} {Q:Bool->Prop} (hl:XT a) (hQ:Q (decide (ST a))):OE a Q:=by
 unfold OE;have hno (h:¬ST a):Q false:=by rwa [decide_eq_false h] at hQ
 have hyes (h:ST a):Q true:=by rwa [decide_eq_true h] at hQ
 unfold XT at hl;refine aR (BK (λh=>hno λd=>?_) (λh=>?_))
 . have:=d.r0; have:=d.r1; simp at h; omega
 have h1:0<=a.Rows∧a.Rows<=4096:=by simpa using h
 refine aR (BK (λh=>hno λd=>?_) (λh=>?_))
 . have:=d.c0; have:=d.c1; simp at h; omega
 have h2:0<=a.Cols∧a.Cols<=4096:=by simpa using h
 rw[AB (by omega) (by omega)];refine BI (λh=>hno λd=>h d.sl) (λh3=>?_);refine BI (λh=>hno λd=>h (by rw[d.vl])) (λh4=>?_);refine A1 (λh=>hno λd=>by have:=d.cl; omega) (λh5=>?_);refine BE (by omega) (by omega) (BI (λh=>hno λd=>h d.s0) (λh6=>?_));refine BE (by omega) (by omega) (BI (λh=>hno λd=>h d.sn) (λh7=>?_));obtain⟨n,hn⟩:∃ n:Nat,a.Rows=n:=⟨a.Rows.toNat,by omega⟩;have hsl:a.Start.length=n+1:=by omega
 refine yC (by omega) (λhup=>AC rfl ?_) (λhb=>AU rfl (hno λd=>?_));rotate_left
 . obtain⟨i,hi,K⟩:=hb;exact K (d.up i (by omega))
 have D:∀ i:Nat,i<n->BD a.Start i<=BD a.Start ((i:Int)+1):=λi hi=>hup i (by omega);rw[hn] at h7 ⊢;refine CM n (by omega) (λi=>∀ j:Nat,j<i->An0 a j) (by simp) (λi next hi hR hnx=>?_) (λnext hR=>?_)
 . refine A1 (λ_=>?_) (λh=>by omega);have e1:A6 ((i:Int)+1)=(i:Int)+1:=AB (by omega) (by omega);rw[e1] at hnx ⊢;have V:0<=BD a.Start i:=by have:=Al6 D (i:=0) (j:=i) (by omega) (by omega); rw[show((0:Nat):Int)=0 from rfl,h6] at this; exact this
   have W:BD a.Start ((i:Int)+1)<=a.Col.length:=by have:=Al6 D (i:=i+1) (j:=n) (by omega) (by omega);rw[h7,show((i+1:Nat):Int)=(i:Int)+1 by omega] at this; exact this
   have hm:=D i hi;refine BE (by omega) (by omega) (BE (by omega) (by omega) ⟨V,hm,W,?_⟩);have J:=Ad6 V hm W;have U:∀ j:Nat,BD a.Start i+j<BD a.Start ((i:Int)+1)->BD ((a.Col.take (BD a.Start ((i:Int)+1)).toNat).drop (BD a.Start i).toNat) j=BD a.Col (BD a.Start i+j):=λj hj=>Ad5 V hm W hj;refine AlP (by omega) (by omega) (by rw[J]; omega) (λZ=>AC rfl (hnx λj hj=>?_)) (λhb=>AU rfl (hno λd=>?_))
   . by_cases e:j=i
     . subst e;intro p hp1 hp2;obtain⟨q,hq⟩:∃ q:Nat,(p:Int)=BD a.Start j+q:=⟨(p - BD a.Start j).toNat,by omega⟩;have O:=Z q (by rw[J]; omega);rw[U q (by omega),<-hq] at O;refine⟨O.1,O.2.1,λhlt=>?_⟩;have:=O.2.2 (by omega);rw[show(q:Int) - 1=((q - 1:Nat):Int) by omega,U (q - 1) (by omega),show BD a.Start j+((q - 1:Nat):Int)=(p:Int) - 1 by omega] at this;exact this
     . exact hR j (by omega)
   . obtain⟨q,hq,K⟩:=hb;rw[J] at hq;apply K;have O:=d.row i (by omega) (BD a.Start i+q).toNat (by omega) (by omega);have ep:(((BD a.Start i+q).toNat:Nat):Int)=BD a.Start i+q:=by omega
     rw[ep] at O;rw[U q (by omega)];refine⟨O.1,O.2.1,λh0=>?_⟩;have:=O.2.2 (by omega);rw[show(q:Int) - 1=((q - 1:Nat):Int) by omega,U (q - 1) (by omega),show BD a.Start i+((q - 1:Nat):Int)=BD a.Start i+q - 1 by omega];exact this
 . refine A1 (λh=>by omega) (λ_=>hyes ⟨h1.1,h1.2,h2.1,h2.2,h3,by omega,by omega,h6,by rw[hn]; exact h7,λi hi=>D i (by omega),λi hi=>hR i (by omega)⟩)
end Go.Proofs.YtkbkaodgfedfmaaGreat
