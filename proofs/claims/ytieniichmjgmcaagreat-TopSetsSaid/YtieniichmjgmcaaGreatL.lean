import Derived.Test.YtieniichmjgmcaaGreatT
set_option linter.unusedVariables false
set_option linter.unusedSimpArgs false
namespace Go.Proofs.YtieniichmjgmcaaGreat
open Go Go.Fw
section
variable {α:Type}
def PY (x y:Int):Int:=if x<y then -1 else if y<x then 1 else 0
theorem G8 {x y:Int} {Q:Int->Prop} (h:Q (PY x y)):CR x y Q:=by
 unfold CR HS;unfold PY at h;refine AH (by simp) (AH (by simp) (A0 (λd=>?_) (λd=>A0 (λD=>?_) (λD=>?_))))
 all_goals grind
theorem lD {x y:Int} {Q:Int->Prop} (h:Q (PY x y)):HH x y Q:=by
 unfold HH MG;unfold PY at h;refine AH (by simp) (AH (by simp) (A0 (λd=>?_) (λd=>A0 (λD=>?_) (λD=>?_))))
 all_goals grind
theorem xF {x y:Int} {Q:Int->Prop} (h:Q (PY x y)):JA x y Q:=by
 unfold JA LG;unfold PY at h;refine AH (by simp) (AH (by simp) (A0 (λd=>?_) (λd=>A0 (λD=>?_) (λD=>?_))))
 all_goals grind
def or2 (x y:Int):Int:=if x=0 then y else x
theorem zI {x y:Int} {Q:Int->Prop} (h:Q (or2 x y)):J9 [x,y] Q:=by
 unfold J9;unfold or2 at h;refine CM 2 (by omega) (λi=>(0<i->x=0)∧(1<i->y=0)) ⟨by omega,by omega⟩ (λi next hi d D=>?_) (λnext d=>?_)
 . refine A0 (λ_=>?_) (λh=>by simp at h; omega)
   match i,hi with
   | 0,_=>exact A9 (by omega) (x:=x) rfl (BU (λe=>by rwa [if_neg e] at h) (λe=>D ⟨λ_=>e,by omega⟩))
   | 1,_=>exact A9 (by omega) (x:=y) rfl (BU (λe=>by rwa [if_pos (d.1 (by omega))] at h) (λe=>D ⟨λ_=>d.1 (by omega),λ_=>e⟩))
 . refine A0 (λh=>by simp at h) (λ_=>?_);grind
def OZ (a:AP):Prop:=-9223372036854775808<=a.Hi∧a.Hi<=9223372036854775807∧0<=a.Lo∧a.Lo<=18446744073709551615
def DH (x:Int):Prop:=-9223372036854775808<=x∧x<=9223372036854775807
def eH (a b:AP):Prop:=a.Hi<b.Hi∨(a.Hi=b.Hi∧a.Lo<=b.Lo)
instance (a b:AP):Decidable (eH a b):=by unfold eH; infer_instance
theorem OA (x:Int):IntKind.wrap .u64 x=x % 18446744073709551616:=by simp[IntKind.wrap,IntKind.bits,IntKind.signed]
theorem HU (x:Int):A5 x=(x+9223372036854775808) % 18446744073709551616 - 9223372036854775808:=by show IntKind.wrap .i64 x=_;rw[IntKind.wrap_i64]
def US (v:Int):AP:=⟨if v<0 then -1 else 0,v % 18446744073709551616⟩
theorem Ab7 {v:Int} (h:DH v):OZ (US v):=by grind[US,OZ,DH]
theorem AxN {v:Int} (h:DH v):shr .i64 v 63=if v<0 then -1 else 0:=by unfold DH at h;show v.fdiv (2 ^ 63)=_;grind
theorem L0 {v:Int} {Q:AP->Prop} (h:DH v) (d:Q (US v)):NS v Q:=by unfold NS; rw[AxN h,OA]; exact d
theorem AeK {v:Int} {Q:AP->Prop} (h:DH v) (d:Q (US v)):kW v Q:=by
 unfold kW; unfold US at d;refine A0 (λD=>?_) (λD=>?_)
 . rw[if_pos D] at d; rwa [OA]
 . rw[if_neg D] at d; rwa [OA]
theorem AeL {a b:AP} {Q:Int->Prop} (d:Q (or2 (PY a.Hi b.Hi) (PY a.Lo b.Lo))):SK a b Q:=by unfold SK;exact lD (xF (zI d))
theorem zJ {a b:AP} {Q:AP->Prop} (d:Q (if eH a b then a else b)):R8 a b Q:=by
 unfold R8;refine AeL (A0 (λh=>?_) (λh=>?_))
 all_goals grind[eH,or2,PY]
theorem RN {a b:AP} (d:a.Hi=b.Hi) (h:a.Lo=b.Lo):a=b:=by cases a; simp_all
theorem Ab8 {a b:AP} {Q:Int->Prop} (d:¬eH b a->Q (-1)) (D:eH b a->∀ x:Int,0<=x->Q x):QQ a b Q:=by
 unfold QQ;refine BH (λ_=>eH b a) (λ_ J=>AZ (λ_=>D J 0 (by omega)) (λ_=>D J 1 (by omega))) λ_ hk=>?_;refine A0 (λh=>d ?_) (λh=>AZ (λe=>A0 (λO=>d ?_) (λO=>hk () ?_)) (λe=>hk () ?_))
 all_goals (unfold eH; omega)
def FE (r:Int) (a b:AP):AP:=
 if r=1∨r=3∨r=4 then (if eH a b then a else b)
 else if r=2 then (if a=⟨0,0⟩∧b=⟨0,0⟩ then ⟨0,0⟩ else ⟨0,1⟩)
 else if r=5 then ⟨A5 (a.Hi+b.Hi+(if 18446744073709551616<=a.Lo+b.Lo then 1 else 0)),(a.Lo+b.Lo) % 18446744073709551616⟩
 else ⟨0,0⟩
theorem XC {r:Int} {a b:AP} (d:OZ a) (h:OZ b):OZ (FE r a b):=by grind[FE,OZ,HU]
theorem lE {b:Bool} {Q:AP->Prop} (d:Q (if b then ⟨0,1⟩ else ⟨0,0⟩)):MO b Q:=by
 unfold MO;refine⟨λh=>L0 (by unfold DH; omega) ?_,λh=>?_⟩
 . subst h; exact d
 . grind
theorem bF {b:Bool} {Q:AP->Prop} (d:Q (if b then ⟨0,1⟩ else ⟨0,0⟩)):RK b Q:=by
 unfold RK;refine⟨λh=>?_,λh=>?_⟩
 . subst h; exact d
 . subst h; exact d
theorem qK {a b:AP} {Q:AP->Prop} (D:OZ a) (J:OZ b) (d:Q (FE 5 a b)):aW a b Q:=by
 unfold aW TH;have e:FE 5 a b=⟨A5 (a.Hi+b.Hi+(if 18446744073709551616<=a.Lo+b.Lo then 1 else 0)),(a.Lo+b.Lo) % 18446744073709551616⟩:=rfl;rw[e] at d;unfold OZ at D J;simp only[OA,HU] at d ⊢;refine A0 (λh=>?_) (λh=>?_)
 all_goals grind
theorem Ab9 {a b:AP} {Q:AP->Prop} (D:OZ a) (J:OZ b) (d:Q (FE 5 a b)):dS a b Q:=by
 unfold dS;have e:FE 5 a b=⟨A5 (a.Hi+b.Hi+(if 18446744073709551616<=a.Lo+b.Lo then 1 else 0)),(a.Lo+b.Lo) % 18446744073709551616⟩:=rfl;rw[e] at d;unfold OZ at D J;simp only[OA,HU] at d ⊢;refine A0 (λh=>?_) (λh=>?_)
 . rw[if_pos (by omega)] at d;have:((a.Hi+b.Hi+9223372036854775808) % 18446744073709551616 - 9223372036854775808+1+9223372036854775808) % 18446744073709551616=(a.Hi+b.Hi+1+9223372036854775808) % 18446744073709551616:=by omega
   rw[this]; exact d
 . rw[if_neg (by omega)] at d
   rwa [show a.Hi+b.Hi+0=a.Hi+b.Hi by omega] at d
theorem bG {r:Int} {a b:AP} {Q:AP->Prop} (W:OZ a) (O:OZ b) (d:Q (FE r a b)):TI r a b Q:=by
 unfold TI;refine BH (λt=>t=decide (r=1∨r=3∨r=4)) (λt U=>?_) λ_ hk=>?_
 . subst U;refine A0 (λh=>zJ ?_) (λh=>AZ (λJ=>?_) (λJ=>AZ (λD=>qK W O ?_) (λD=>?_)))
   . grind[FE]
   . subst J;unfold FE at d;rw[if_neg h,if_pos rfl] at d;refine BZ (λ_=>lE ?_) (λ_=>lE ?_)
     all_goals grind
   . subst D; exact d
   . unfold FE at d; rwa [if_neg h,if_neg J,if_neg D] at d
 . refine AZ (λh=>hk _ ?_) (λh=>AZ (λZ=>hk _ ?_) (λZ=>hk _ ?_))
   all_goals grind
theorem AbA {r:Int} {a b:AP} {Q:AP->Prop} (ha:OZ a) (hb:OZ b) (d:Q (FE r a b)):dT r a b Q:=by
 unfold dT;refine BH (λt=>t=decide (r=1∨r=3∨r=4)) (λt ht=>?_) λ_ hk=>?_
 . subst ht;refine A0 (λh=>Ab8 (λJ=>A0 (λ_=>?_) (λh=>by omega)) (λJ _ _=>A0 (λh=>by omega) (λ_=>?_))) (λh=>AZ (λU=>?_) (λU=>AZ (λD=>Ab9 ha hb ?_) (λD=>?_)))
   . unfold FE at d; rwa [if_pos h,if_neg J] at d
   . unfold FE at d; rwa [if_pos h,if_pos J] at d
   . subst U;unfold FE at d;rw[if_neg h,if_pos rfl] at d;refine BZ (λW=>bF ?_) (λO=>bF ?_)
     . rw[if_neg] at d
       . exact d
       . rintro⟨Z,_⟩; subst Z; simp at W
     . have O:a=⟨0,0⟩:=by simpa using O
       subst O;by_cases e:b=⟨0,0⟩
       . rw[if_pos ⟨rfl,e⟩] at d; simpa[e] using d
       . rw[if_neg (λh=>e h.2)] at d; simpa[e] using d
   . subst D; exact d
   . unfold FE at d; rwa [if_neg h,if_neg U,if_neg D] at d
 . refine AZ (λh=>hk _ ?_) (λh=>AZ (λV=>hk _ ?_) (λV=>hk _ ?_))
   . simp[h]
   . simp[V]
   . by_cases h4:r=4 <;> simp[h,V,h4]
def GY (a:AP):Int×Bool:=if (a.Hi=0∧a.Lo<=9223372036854775807)∨(a.Hi = -1∧9223372036854775808<=a.Lo) then (A5 a.Lo,true) else (0,false)
theorem zK {r:Int} {a:AP} {Q:Int×Bool->Prop} (D:OZ a) (d:Q (GY a)):RA r a Q:=by
 unfold RA aX;unfold OZ at D;unfold GY at d;refine L0 (by unfold DH; rw[HU]; omega) (BZ (λh=>?_) (λh=>?_))
 . rw[if_neg] at d
   . exact d
   . intro J;simp only[beq_eq_false_iff_ne,ne_eq] at h;apply h;apply RN <;> simp only[US,HU] <;> (try split) <;> omega
 grind[US,HU]
theorem rH {a:AP} {Q:Int×Bool->Prop} (O:OZ a) (D:Q (GY a)):SP a Q:=by
 unfold SP;unfold OZ at O;have hy (h:(a.Hi=0∧a.Lo<=9223372036854775807)∨(a.Hi = -1∧9223372036854775808<=a.Lo)):Q (A5 a.Lo,true):=by unfold GY at D; rwa [if_pos h] at D
 have hn (h:¬((a.Hi=0∧a.Lo<=9223372036854775807)∨(a.Hi = -1∧9223372036854775808<=a.Lo))):Q (0,false):=by unfold GY at D; rwa [if_neg h] at D
 refine AZ (λh=>A0 (λd=>hy ?_) (λd=>AZ (λJ=>by omega) (λJ=>hn ?_))) (λh=>AZ (λd=>A0 (λJ=>hy ?_) (λJ=>hn ?_)) (λd=>hn ?_))
 all_goals (try rw[HU] at d); (try rw[HU] at J); omega
theorem PZ {r:Int} {Q:Bool->Prop} (d:Q (decide (1<=r∧r<=5))):SJ r Q:=by
 unfold SJ;refine A0 (λh=>?_) (λh=>?_)
 all_goals grind
theorem AeM {r:Int} {Q:Bool->Prop} (d:Q (decide (1<=r∧r<=5))):kV r Q:=by
 unfold kV;refine A0 (λh=>?_) (λh=>?_)
 . rwa [show decide (r<=5)=decide (1<=r∧r<=5) by apply decide_eq_decide.2; omega]
 . rwa [show decide (1<=r∧r<=5)=false by apply decide_eq_false; omega] at d
open Go Go.Fw Go.Sort Go.Shelf
abbrev GN:=Int×Int
def IY (a b:GN):Prop:=a.1<b.1∨(a.1=b.1∧a.2<b.2)
instance (a b:GN):Decidable (IY a b):=by unfold IY; infer_instance
theorem XD {a b c:GN} (d:IY a b) (h:IY b c):IY a c:=by grind[IY]
theorem EZ (a:GN):¬IY a a:=by unfold IY; omega
theorem AbB {a b:GN} (d:¬IY a b) (h:a≠b):IY b a:=by grind[IY]
def ins (r:Int) (k:GN) (v:AP):List (GN×AP)->List (GN×AP)
 | []=>[(k,v)]
 | p :: l=>if IY p.1 k then p :: ins r k v l else if p.1=k then (k,FE r p.2 v) :: l else (k,v) :: p :: l
def SC (r:Int) (ts:List (GN×Int)):List (GN×AP):=ts.foldl (λl t=>ins r t.1 (US t.2) l) []
theorem AbC (r:Int) (ts:List (GN×Int)) (t:GN×Int):SC r (ts++[t])=ins r t.1 (US t.2) (SC r ts):=by simp[SC]
def srt (l:List (GN×AP)):Prop:=l.Pairwise λa b=>IY a.1 b.1
theorem tP {r:Int} {k:GN} {v:AP}:∀ {l:List (GN×AP)} {p:GN×AP},p∈ins r k v l->p.1=k∨∃ q∈l,q.1=p.1
 | [],p,h=>by simp[ins] at h; simp[h]
 | q :: l,p,h=>by
  unfold ins at h;split at h
  . rcases List.mem_cons.1 h with rfl | h
    . exact .inr ⟨p,by simp,rfl⟩
    . rcases tP h with h | ⟨x,hx,e⟩
      . exact .inl h
      . exact .inr ⟨x,by simp[hx],e⟩
  . split at h
    . rcases List.mem_cons.1 h with rfl | h
      . exact .inl rfl
      . exact .inr ⟨p,by simp[h],rfl⟩
    . rcases List.mem_cons.1 h with rfl | h
      . exact .inl rfl
      . exact .inr ⟨p,h,rfl⟩
theorem rZ {r:Int} {k:GN} {v:AP}:∀ {l:List (GN×AP)},srt l->srt (ins r k v l)
 | [],_=>by simp[ins,srt]
 | p :: l,h=>by
  unfold srt at h;rw[AdQ] at h;unfold ins;split
  . rename_i hk;refine List.pairwise_cons.2 ⟨λq d=>?_,rZ h.2⟩;rcases tP d with e | ⟨x,hx,e⟩
    . rw[e]; exact hk
    . rw[<-e]; exact h.1 x hx
  . rename_i hk;split
    . rename_i e;subst e;exact List.pairwise_cons.2 ⟨λq d=>h.1 q d,h.2⟩
    . rename_i e;have:=AbB hk e
      exact List.pairwise_cons.2 ⟨λq d=>by
       rcases List.mem_cons.1 d with rfl | d
       . exact this
       . exact XD this (h.1 q d),List.pairwise_cons.2 h⟩
theorem bH (r:Int) (ts:List (GN×Int)):srt (SC r ts):=by
 unfold SC
 suffices ∀ (ts:List (GN×Int)) (l:List (GN×AP)),srt l->srt (ts.foldl (λl t=>ins r t.1 (US t.2) l) l) from this ts [] .nil
 intro ts
 induction ts with
 | nil=>grind
 | cons t ts d=>grind[rZ]
theorem XE {l:List (GN×AP)} (h:srt l):ES l:=by unfold ES;rw[AoW,gU];exact sR (R:=λa b:GN×AP=>IY a.1 b.1) (λ{a b} d (e:a.1=b.1)=>EZ b.1 (by rw[e] at d; exact d)) h
theorem AkD (r:Int) (k:GN) (v:AP):∀ l:List (GN×AP),(ins r k v l).length<=l.length+1
 | []=>by simp[ins]
 | p :: l=>by unfold ins;have:=AkD r k v l;grind
theorem AkE {r:Int} {k:GN} {v:AP} (d:OZ v):∀ {l:List (GN×AP)},(∀ p∈l,OZ p.2)->∀ p∈ins r k v l,OZ p.2
 | [],_,p,h=>by simp[ins] at h; rw[h]; exact d
 | q :: l,hl,p,h=>by
  unfold ins at h;split at h
  . rcases List.mem_cons.1 h with rfl | h
    . exact hl _ (by simp)
    . exact AkE d (λx D=>hl x (by simp[D])) p h
  . split at h
    . rcases List.mem_cons.1 h with rfl | h
      . exact XC (hl q (by simp)) d
      . exact hl p (by simp[h])
    . rcases List.mem_cons.1 h with rfl | h
      . exact d
      . exact hl p h
theorem eI (r:Int):∀ (ts:List (GN×Int)),(∀ t∈ts,DH t.2)->(SC r ts).length<=ts.length∧∀ p∈SC r ts,OZ p.2:=by
 suffices ∀ (ts:List (GN×Int)) (l:List (GN×AP)),(∀ t∈ts,DH t.2)->(∀ p∈l,OZ p.2)->(ts.foldl (λl t=>ins r t.1 (US t.2) l) l).length<=l.length+ts.length∧∀ p∈ts.foldl (λl t=>ins r t.1 (US t.2) l) l,OZ p.2 from
  λts h=>by simpa[SC] using this ts [] h (by simp)
 intro ts
 induction ts with
 | nil=>grind
 | cons t ts J=>
  intro l d h;have:=J (ins r t.1 (US t.2) l) (λx D=>d x (by simp[D])) (AkE (Ab7 (d t (by simp))) h);grind[AkD]
theorem Aq3 {p:GN×AP} {l:List (GN×AP)} {k:GN} (h:srt (p :: l)) (hk:IY k p.1):BA k (p :: l)=none:=by
 apply dF;intro D;have⟨q,d,_⟩:=List.mem_map.1 D;rcases List.mem_cons.1 d with rfl | d
 . grind[EZ]
 . have J:=XD hk ((List.pairwise_cons.1 h).1 q d);grind[EZ]
theorem AbD {r:Int} {k:GN} {v:AP} (d:GN):∀ {l:List (GN×AP)},srt l->BA d (ins r k v l)=if d=k then some (match BA k l with | some w=>FE r w v | none=>v) else BA d l
 | [],_=>by simp only[ins,BA]
 | p :: l,h=>by
  have ih:=AbD (r:=r) (k:=k) (v:=v) d (List.pairwise_cons.1 h).2;unfold ins;split
  . rename_i hk;have J:¬k=p.1:=λe=>EZ k (by rw[<-e] at hk; exact hk);simp only[BA,ih,if_neg J];grind
  . rename_i hk;split
    . rename_i e;subst e;simp only[BA,if_true];grind
    . rename_i e;have D:=AbB hk e;rw[Aq3 h D];simp only[BA]
theorem Aq4 {r:Int} {k:GN} {v:AP} {l:List (GN×AP)} (h:srt l):(ins r k v l).Perm (DY k (match BA k l with | some w=>FE r w v | none=>v) l):=by
 refine oH (XE (rZ h)) (HF (XE h) _ _) λd=>?_;rw[AbD d h];by_cases e:d=k
 . subst e; simp[CT]
 . simp[e,D4 e]
def SV (l:List (GN×AP)) (mk:GN->Int->α):List α×Int:=if l.all (λp=>(GY p.2).2) then (l.map (λp=>mk p.1 (GY p.2).1),0) else ([],12)
def kvT (t:A2):GN×Int:=((t.Row,t.Col),t.Val)
def mkT (k:GN) (v:Int):A2:=⟨k.1,k.2,v⟩
def oI (t:B2):GN×Int:=((t.From,t.To),t.W)
def mkE (k:GN) (v:Int):B2:=⟨k.1,k.2,v⟩
theorem AkF {U:α->α->(Int->Prop)->Prop} (O:α->α->Int) (hc:∀ x y Q,Q (O x y)->U x y Q) (W:SWO (ltOf O)) {xs V:List α} {K:List α->Prop} (hl:xs.length<=1000000000000) (hp:xs.Perm V) (hz:V.Pairwise λx y=>O x y<0) (hK:K V):AeE U xs K:=by
 refine⟨O,λx y Q=>hc x y Q,W,by omega,λys J a3=>?_⟩
 have a2:∀ x y,O x y<0->0<=O y x:=by
  intro x y h;rcases Ah8 (O y x) 0 with Z | Z
  . have:=W.trans x y x (by simpa[ltOf] using h) (by simpa[ltOf] using Z);rw[W.irrefl] at this; cases this
  . exact Z
 have:ys=V:=eG (J.trans hp) a3 (hz.imp λ{a b} h=>a2 a b h) λa b d D _ _=>by have d:=(J.trans hp).mem_iff.1 d;have D:=(J.trans hp).mem_iff.1 D;obtain⟨_,_,rfl⟩:=WA d;obtain⟨_,_,rfl⟩:=WA D;rw[AmA] at hz;grind
 grind
def cfT (x y:A2):Int:=or2 (PY x.Row y.Row) (PY x.Col y.Col)
theorem AbE (x y:A2):cfT x y<0↔IY (x.Row,x.Col) (y.Row,y.Col):=by unfold cfT or2 PY IY;omega
theorem Aw2 {x y:A2} {Q:Int->Prop} (h:Q (cfT x y)):dK x y Q:=by unfold dK;exact G8 (G8 (zI h))
theorem sA:SWO (ltOf cfT) where
 irrefl x:=by unfold ltOf; simp only[AbE]; simp[IY]
 trans x y z h1 h2:=by unfold ltOf at *; simp only[AbE,decide_eq_true_eq] at *; exact XD h1 h2
 ntrans x y z h1 h2:=by unfold ltOf at *; grind[AbE,IY]
def cfE (x y:B2):Int:=or2 (or2 (PY x.From y.From) (PY x.To y.To)) (PY x.W y.W)
theorem AbF (x y:B2):cfE x y<0↔IY (x.From,x.To) (y.From,y.To)∨(x.From=y.From∧x.To=y.To∧x.W<y.W):=by unfold cfE or2 PY IY;omega
theorem Aw3 {x y:B2} {Q:Int->Prop} (h:Q (cfE x y)):VB x y Q:=by unfold VB iD;exact G8 (G8 (zI (lD (zI h))))
theorem AtH:SWO (ltOf cfE) where
 irrefl x:=by unfold ltOf; simp only[AbF]; simp[IY]
 trans x y z h1 h2:=by unfold ltOf at *; simp only[AbF,decide_eq_true_eq,IY] at *; omega
 ntrans x y z h1 h2:=by unfold ltOf at *; grind[AbF,IY]
theorem tQ {m d:List (GN×AP)} {l:List (GN×AP)} {mk:GN->Int->α} (hp:d.Perm l) (h:∀ p∈d,(GY p.2).2=true):SV l mk=(l.map (λp=>mk p.1 (GY p.2).1),0):=by grind[SV]
theorem AkG {l:List (GN×AP)} {mk:GN->Int->α} {p:GN×AP} (hp:p∈l) (d:(GY p.2).2=false):SV l mk=([],12):=by grind[SV]
theorem HM {β:Type} {f:α->β} {xs:List α} {i:Nat} (h:i<xs.length):(xs.take (i+1)).map f=(xs.take i).map f++[f xs[i]]:=by rw[cZ h,dA]; rfl
theorem tR {r:Int} {ts:List B2} {Q:List B2×Int->Prop} (hr:1<=r∧r<=5) (hl:ts.length<=1000000) (hv:∀ t∈ts,DH t.W) (hQ:Q (SV (SC r (ts.map oI)) mkE)):QP r ts Q:=by
 unfold QP;refine PZ (AH (by simp[hr]) ?_)
 have a3:∀ (i:Nat) t,t∈(ts.take i).map oI->DH t.2:=by intro i t ht;obtain⟨x,Z,rfl⟩:=List.mem_map.1 ht;exact hv x (List.mem_of_mem_take Z)
 refine A6 (λ(s:List (GN×AP)) i=>(s,i)) 0 ts.length (by omega) (λi m=>m.Perm (SC r ((ts.take i).map oI))) (by omega) .nil (λi m next _ hi D J=>?_) (λm next D=>?_)
 . have Z:DH ts[i].W:=hv _ (RY hi);have hk:ES m:=ApD (D.symm.map Prod.fst) (XE (bH _ _));have a6:=(eI r _ (a3 i)).2
   have a9:∀ w,(match BA (ts[i].From,ts[i].To) m with | some w=>FE r w (US ts[i].W) | none=>US ts[i].W)=w->(DY (ts[i].From,ts[i].To) w m).Perm (SC r ((ts.take (i+1)).map oI)):=by intro w V;rw[HM hi,AbC,<-V,AmP hk D];exact(AmO hk D _ _).trans (Aq4 (bH _ _)).symm
   refine A0 (λ_=>?_) (λh=>by omega);refine AN hi (L0 Z (YR (λw V=>B7 rfl (bG ?_ (Ab7 Z) (J _ ?_))) (λV=>AH rfl (J _ ?_))))
   . exact a6 _ (D.mem_iff.1 ((JV hk).1 V))
   all_goals grind
 . refine A0 (λh=>by omega) (λ_=>?_);rw[nM] at D;have a4:=eI r (ts.map oI) (by simpa using a3 ts.length);have a2:=bH r (ts.map oI);generalize SC r (ts.map oI)=l at D a4 a2 hQ;have a8:l.length<=1000000:=by grind
   refine CN (λs:List B2×List (GN×AP)=>∃ d,(d++s.2).Perm l∧s.1=d.map (λp=>mkE p.1 (GY p.2).1)∧∀ p∈d,(GY p.2).2=true) (λs=>s.2.length) ⟨[],by simpa using D,rfl,by simp⟩ ?_;rintro⟨_,_⟩ next ⟨d,U,rfl,a5⟩ J;simp only at U;refine VO (λe=>?_) (λp rr hp=>?_)
   . subst e;simp only[kD] at U;refine AkF cfE (λ_ _ _=>Aw3) AtH (by have:=U.length_eq; simp; omega) (U.map _) ?_ ?_
     . rw[gU];exact sR (R:=λa b:GN×AP=>IY a.1 b.1) (λ{a b} h=>(AbF _ _).2 (.inl h)) a2
     . rw[tQ (m:=[]) U a5] at hQ; exact hQ
   . have O:(d++p :: rr).Perm l:=(AoR d hp.symm).trans U;have a7:p∈l:=O.mem_iff.1 (by simp);refine zK (a4.2 p a7) (BZ (λh=>?_) (λh=>?_))
     . grind[AkG]
     . refine AK ?_ (J _ ⟨d++[p],by simpa using O,by simp[mkE],?_⟩ ?_)
       . have:=O.length_eq; grind
       . grind
       . have:=hp.length_eq; grind
theorem AbG {r:Int} {k:GN} {v:AP}:∀ {l:List (GN×AP)} {n:Nat} (d:n<l.length),(∀ j (D:j<n),IY (l[j]'(by omega)).1 k)->l[n].1=k->ins r k v l=l.set n (k,FE r l[n].2 v)
 | [],n,d,_,_=>by simp at d
 | p :: l,0,d,_,he=>by
  have he:p.1=k:=he;subst he;simp[ins,EZ]
 | p :: l,n+1,d,hl,he=>by have h:IY p.1 k:=hl 0 (by omega);have:=AbG (r:=r) (v:=v) (l:=l) (n:=n) (by simpa using d) (λj D=>hl (j+1) (by omega)) he;simp[ins,h,this]
theorem AkH {r:Int} {k:GN} {v:AP}:∀ {l:List (GN×AP)} {n:Nat} (d:n<=l.length),(∀ j (J:j<n),IY (l[j]'(by omega)).1 k)->(∀ h:n<l.length,¬IY l[n].1 k∧l[n].1≠k)->ins r k v l=l.take n++(k,v) :: l.drop n
 | [],n,d,_,_=>by simp[ins]
 | p :: l,0,d,_,he=>by
  have:=he (by simp);simp only[List.getElem_cons_zero] at this;simp[ins,this.1,this.2]
 | p :: l,n+1,d,hl,he=>by have D:IY p.1 k:=hl 0 (by omega);have:=AkH (r:=r) (v:=v) (l:=l) (n:=n) (by simpa using d) (λj J=>hl (j+1) (by omega)) (λh=>he (by simpa using h));simp[ins,D,this]
theorem AeN {a b:B2} {Q:Bool->Prop} (h:Q (decide (IY (a.From,a.To) (b.From,b.To)))):RJ a b Q:=by
 unfold RJ;refine A0 (λd=>?_) (λd=>AZ (λD=>?_) (λD=>?_))
 . rwa [decide_eq_true (by unfold IY; exact .inl d)] at h
 . rwa [show decide (IY (a.From,a.To) (b.From,b.To))=decide (a.To<b.To) by apply decide_eq_decide.2; simp only[IY]; omega] at h
 . rwa [decide_eq_false (by simp only[IY]; omega)] at h
def e0 (p:GN×AP):B2:=mkE p.1 0
theorem tS {r:Int} {ts:List B2} {Q:List B2×Int->Prop} (hr:1<=r∧r<=5) (hl:ts.length<=1000000) (hv:∀ t∈ts,DH t.W) (hQ:Q (SV (SC r (ts.map oI)) mkE)):QR r ts Q:=by
 unfold QR;refine AeM (AH (by simp[hr]) ?_)
 have c2:∀ (i:Nat) t,t∈(ts.take i).map oI->DH t.2:=by intro i t ht;obtain⟨x,hx,rfl⟩:=List.mem_map.1 ht;exact hv x (List.mem_of_mem_take hx)
 refine A6 (λ(s:List B2×List AP) i=>(s.1,s.2,i)) 0 ts.length (by omega) (λi s=>s.1=(SC r ((ts.take i).map oI)).map e0∧s.2=(SC r ((ts.take i).map oI)).map (·.2)) (s0:=([],[])) (by omega) ⟨rfl,rfl⟩ (λi s next _ hi hm hn=>?_) (λs next hm=>?_)
 . have⟨es,ws⟩:=s;have⟨O,U⟩:=hm;simp only at O U;have hx:DH ts[i].W:=hv _ (RY hi);have J:=eI r _ (c2 i);have d6:SC r ((ts.take (i+1)).map oI)=ins r (ts[i].From,ts[i].To) (US ts[i].W) (SC r ((ts.take i).map oI)):=by rw[HM hi,AbC]; rfl
   simp only[d6] at hn;generalize SC r ((ts.take i).map oI)=l at O U J hn;subst O U;have d2:l.length<=1000000:=by have:=J.1; simp at this; omega
   refine A0 (λ_=>?_) (λh=>by omega);have a6:∀ (j:Nat) (h:j<l.length),(l.map e0)[j]? = some (e0 l[j]):=λj h=>by simp[h]
   -- where it goes
   refine BH (λa:Int=>∃ n:Nat,a=n∧n<=l.length∧(∀ (j:Nat) (Z:j<n) (c1:j<l.length),IY l[j].1 (ts[i].From,ts[i].To))∧∀ h:n<l.length,¬IY l[n].1 (ts[i].From,ts[i].To)) ?_ λk hk=>?_
   . rintro _ ⟨n,rfl,d,d3,c0⟩;have a5:∀ j (Z:j<n),IY (l[j]'(by omega)).1 (ts[i].From,ts[i].To):=λj Z=>d3 j Z (by omega);refine AN hi (AeK hx ?_);refine BH (λb=>b=decide (∃ h:n<l.length,l[n].1=(ts[i].From,ts[i].To))) ?_ λk hk=>?_
     . rintro _ rfl;refine A0 (λV=>?_) (λV=>?_)
       . have⟨h,V⟩:=V;refine A9 (by omega) (x:=l[n].2) (by simp[h]) (AbA (J.2 _ (RY h)) (Ab7 hx) (A9 (by omega) (x:=l[n].2) (by simp[h]) (hn (l.map e0,(l.map (·.2)).set n (FE r l[n].2 (US ts[i].W))) ⟨?_,?_⟩)))
         . rw[AbG h a5 V,List.map_set];apply Ah3;intro j;rw[AaV];split
           . rename_i e; subst e; simp[h,e0,V]
           . rfl
         . rw[AbG h a5 V,List.map_set]
       . have d5:=AkH (r:=r) (v:=US ts[i].W) d a5 (λh=>⟨c0 h,λe=>V ⟨h,e⟩⟩);rw[d5] at hn;refine AK (by simp; omega) (AK (by simp; omega) ?_)
         refine CN (λs:List B2×List AP×Int=>∃ j:Nat,s.2.2=j∧n<=j∧j<=l.length∧s.1.length=l.length+1∧s.2.1.length=l.length+1∧(∀ q,q<j->s.1[q]? = (l.map e0)[q]?∧s.2.1[q]? = (l.map (·.2))[q]?)∧∀ q,j<=q->q<l.length->s.1[q+1]? = (l.map e0)[q]?∧s.2.1[q+1]? = (l.map (·.2))[q]?)
           (λs=>s.2.2.toNat) ⟨l.length,?_,d,Y3 _,by simp,by simp,λq D=>?_,λq h1 h2=>by omega⟩ ?_
         . simp only; rw[A7 (by simp <;> omega) (by simp <;> omega)]; simp
         . simp only; rw[kA (by simpa using D),kA (by simpa using D)]; exact⟨rfl,rfl⟩
         rintro⟨s1,s2,_⟩ next ⟨j,Z,_,c1,a8,a9,a2,a3⟩ b0;simp only at Z a8 a9 a2 a3;subst Z;refine A0 (λh=>?_) (λh=>?_)
         . obtain⟨j,rfl⟩:∃ m,j=m+1:=⟨j - 1,by omega⟩;have a7:j<l.length:=by omega
           have ej:A5 (((j+1:Nat):Int) - 1)=(j:Int):=by rw[A7 (by omega) (by omega)]; omega
           rw[ej];refine A9 (by omega) (x:=e0 l[j]) (by simp only[SH]; rw[(a2 j (by omega)).1,a6 j a7]) (AN (i:=j+1) (by omega) (A9 (by omega) (x:=l[j].2) (by simp only[SH]; rw[(a2 j (by omega)).2]; simp[a7]) (AN (i:=j+1) (by omega) (b0 _ ⟨j,rfl,by omega,by omega,by simp[a8],by simp[a9],λq D=>?_,λq h1 h2=>?_⟩ ?_))))
           . simp only[SH];rw[AaS (by omega),AaS (by omega)];exact a2 q (by omega)
           . simp only[SH];rw[AaV,AaV];by_cases e:q=j
             . subst e; rw[if_pos rfl,if_pos (by omega),if_pos rfl,if_pos (by omega)]; simp[a7]
             . rw[if_neg (by omega),if_neg (by omega)]; exact a3 q (by omega) h2
           . simp only; omega
         . have d1:j=n:=by omega
           subst d1;refine AN hi (AN hi (AN (by omega) (AN (by omega) (hn (s1.set j (mkE (ts[i].From,ts[i].To) 0),s2.set j (US ts[i].W)) ⟨?_,?_⟩))))
           . simp only[SH,dA,NM];have:=tO (pre:=(l.take j).map e0) (post:=(l.drop j).map e0) (s:=s1) (x:=e0 ((ts[i].From,ts[i].To),US ts[i].W)) (by simp[a8]; omega) (λq D=>?_) (λq D=>?_)
             . simp only[ZY,QY,Ah6 d] at this; exact this
             . simp only[ZY,QY,Ah6 d] at D;rw[(a2 q D).1]; simp[D]
             . simp only[ZY,QY,AdT,Ah6 d] at D ⊢;rw[show j+1+q=j+q+1 by omega,(a3 (j+q) (by omega) (by omega)).1]; simp
           . simp only[SH,dA,NM];have:=tO (pre:=(l.take j).map (·.2)) (post:=(l.drop j).map (·.2)) (s:=s2) (x:=US ts[i].W) (by simp[a9]; omega) (λq D=>?_) (λq D=>?_)
             . simp only[ZY,QY,Ah6 d] at this; exact this
             . simp only[ZY,QY,Ah6 d] at D;rw[(a2 q D).2]; simp[D]
             . simp only[ZY,QY,AdT,Ah6 d] at D ⊢;rw[show j+1+q=j+q+1 by omega,(a3 (j+q) (by omega) (by omega)).2]; simp
     . refine A0 (λh=>?_) (λh=>hk _ ?_)
       . have h:n<l.length:=by simpa using h
         refine AN hi (A9 (by omega) (x:=e0 l[n]) (by simpa using a6 n h) (AeN (hk _ ?_)));have hg:=c0 h;have e1:((e0 l[n]).From,(e0 l[n]).To)=l[n].1:=rfl;rw[e1];by_cases e:l[n].1=(ts[i].From,ts[i].To)
         . rw[decide_eq_true (p:=∃ h:n<l.length,l[n].1=_) ⟨h,e⟩,e,decide_eq_false (EZ _)]; rfl
         . rw[decide_eq_false (p:=∃ h:n<l.length,l[n].1=_) (λ⟨_,e'⟩=>e e'),decide_eq_true (AbB hg e)]; rfl
       . rw[decide_eq_false];rintro⟨_,_⟩;simp at h; omega
   . refine CM l.length (by omega) (λn=>∀ (j:Nat) (Z:j<n) (c1:j<l.length),IY l[j].1 (ts[i].From,ts[i].To)) (by simp) (λj next Z hR b0=>?_) (λnext hR=>?_)
     . refine A0 (λ_=>?_) (λh=>by simp at h; omega);refine A9 (by omega) (x:=e0 l[j]) (by simpa using a6 j Z) (AN hi (AeN (A0 (λh=>b0 λq D d4=>?_) (λh=>hk _ ⟨j,rfl,by omega,hR,λ_=>h⟩))));by_cases e:q=j
       . subst e; exact h
       . exact hR q (by omega) d4
     . refine A0 (λh=>by simp at h) (λ_=>hk _ ⟨l.length,rfl,Y3 _,hR,λh=>by omega⟩)
 . have⟨es,ws⟩:=s;have⟨O,U⟩:=hm;simp only at O U;rw[nM] at O U;refine A0 (λh=>by omega) (λ_=>?_);have J:=eI r (ts.map oI) (by simpa using c2 ts.length);generalize SC r (ts.map oI)=l at O U J hQ;subst O U;have d2:l.length<=1000000:=by have:=J.1; simp at this; omega
   refine A6 (λ(s:List B2) i=>(s,i)) 0 l.length (by omega) (λi s=>s=(l.take i).map (λp=>mkE p.1 (GY p.2).1)++(l.drop i).map e0∧∀ p∈l.take i,(GY p.2).2=true) (by omega) ⟨by simp,by simp⟩ (λi s next _ hi hm hn=>?_) (λs next hm=>?_)
   . obtain⟨rfl,a4⟩:=hm;refine A0 (λ_=>?_) (λh=>by simp at h; omega);refine A9 (by omega) (x:=l[i].2) (by simp[hi]) (rH (J.2 _ (RY hi)) (BZ (λh=>?_) (λh=>?_)))
     . rw[AkG (RY hi) h] at hQ; exact hQ
     . have b1:l.drop i=l[i] :: l.drop (i+1):=by rw[AoP hi]
       have d0:((l.take i).map (λp=>mkE p.1 (GY p.2).1)).length=i:=by simp; omega
       refine A9 (by omega) (x:=e0 l[i]) ?_ (hn _ ⟨?_,?_⟩)
       . rw[b1,SH,wW (by omega),d0,AjZ]; rfl
       . rw[b1,SH,List.set_append,if_neg (by omega),d0,HM hi,AjZ,nL]; rfl
       . intro p hp;rw[cZ hi] at hp;rcases List.mem_append.1 hp with hp | hp
         . exact a4 p hp
         . simp at hp; subst hp; exact h
   . obtain⟨rfl,a4⟩:=hm;refine A0 (λh=>by simp at h) (λ_=>?_);rw[tQ (m:=[]) (.refl l) (by simpa using a4)] at hQ;simpa using hQ
theorem oJ {f:Nat->Int} {n j:Nat} (h:j<n):((List.range n).map f)[j]? = some (f j):=by simp[h]
theorem AhP {f:Nat->Int} {n j:Nat} {v:Int}:((List.range n).map f).set j v=(List.range n).map (λi=>if i=j then v else f i):=by apply Ah3;grind
theorem lF {f g:Nat->Int} {n:Nat} (h:∀ j,j<n->f j=g j):(List.range n).map f=(List.range n).map g:=wY λj d=>h j (by simpa using d)
def F8 (ts:List A2) (j:Nat):Int:=((ts.countP (λt:A2=>decide (t.Row<(j:Int))):Nat):Int)
def XF (ts:List A2) (j:Nat):Int:=((ts.countP (λt:A2=>decide (t.Row+1=(j:Int))):Nat):Int)
theorem tT (ts:List A2) (t:A2) (j:Nat):F8 (ts++[t]) j=F8 ts j+if t.Row<j then 1 else 0:=by grind[F8]
theorem AhQ (ts:List A2) (t:A2) (j:Nat):XF (ts++[t]) j=XF ts j+if t.Row+1=j then 1 else 0:=by grind[XF]
theorem lG (ts:List A2) (j:Nat):0<=F8 ts j∧F8 ts j<=ts.length:=by grind[F8]
theorem lH (ts:List A2) (j:Nat):0<=XF ts j∧XF ts j<=ts.length:=by grind[XF]
theorem YS (j:Nat):∀ (ts:List A2),(∀ t∈ts,0<=t.Row)->F8 ts (j+1)=F8 ts j+XF ts (j+1)
 | [],_=>rfl
 | t :: ts,h=>by have:=YS j ts λx d=>h x (by simp[d]);grind[F8,XF]
def BT (rows cols:Int) (ts:List A2):Rows:=⟨rows,cols,(List.range (rows.toNat+1)).map (F8 ts),ts.map (·.Col),ts.map (·.Val)⟩
theorem AmQ (n:Nat):List.replicate n (0:Int)=(List.range n).map λ_=>0:=by apply Ah3;grind
theorem tU {rows cols:Int} {ts:List A2} {Q:Rows->Prop} (h0:0<=rows) (h1:rows<=1000000) (hl:ts.length<=1000000) (J:∀ t∈ts,0<=t.Row∧t.Row<rows) (Z:Q (BT rows cols ts)):T6 rows cols ts Q:=by
 unfold T6 X3;obtain⟨n,rfl⟩:∃ n:Nat,rows=n:=⟨rows.toNat,by omega⟩;have e:A5 ((n:Int)+1)=(n+1:Nat):=by rw[A7 (by omega) (by omega)]; omega
 rw[e];refine⟨by omega,by omega,?_⟩;simp only[SH];rw[AmQ];refine A6 (λ(s:List Int×List Int×List Int) i=>(s.1,s.2.1,s.2.2,i)) 0 ts.length (s0:=((List.range (n+1)).map λ_=>0,[],[])) (by omega) (λi s=>s=((List.range (n+1)).map (XF (ts.take i)),(ts.take i).map (·.Col),(ts.take i).map (·.Val))) (by omega) (by simp[XF]) (λi s next _ hi d D=>?_) (λs next d=>?_)
 . subst d;dsimp only;have hr:=J _ (RY hi);refine A0 (λ_=>?_) (λh=>by omega);refine AN hi ?_;obtain⟨q,hq⟩:∃ q:Nat,ts[i].Row=q:=⟨ts[i].Row.toNat,by omega⟩;have U:A5 (ts[i].Row+1)=(q+1:Nat):=by rw[A7 (by omega) (by omega)]; omega
   rw[U];have hc:=lH (ts.take i) (q+1);have W:(ts.take i).length<=ts.length:=by simp; omega
   refine A9 (by omega) (oJ (by omega)) (A9 (by omega) (oJ (by omega)) (AK (by simp; omega) (AK (by simp; omega) (D ((List.range (n+1)).map (XF (ts.take (i+1))),(ts.take (i+1)).map (·.Col),(ts.take (i+1)).map (·.Val)) rfl |> cast ?_))));congr 1;simp only[SH];rw[AhP,HM hi,HM hi];refine Prod.ext (lF λj O=>?_) rfl;rw[cZ hi,AhQ];by_cases ej:j=q+1
   . subst ej; rw[if_pos (by omega),if_pos rfl,A7 (by omega) (by omega)]
   omega
 . subst d;dsimp only;refine A0 (λh=>by omega) (λ_=>?_);simp only[nM];refine A6 (λ(s:List Int) i=>(s,i)) 0 n (by omega) (λi s=>s=(List.range (n+1)).map λj=>if j<=i then F8 ts j else XF ts j) (by omega) (lF λj O=>?_) (λi s next _ hi d D=>?_) (λs next d=>?_)
   . by_cases ej:j<=0
     . rw[if_pos ej,show j=0 by omega];have:∀ t∈ts,¬t.Row<((0:Nat):Int):=λt h=>by have:=J t h; omega
       have V:∀ t∈ts,¬t.Row+1=((0:Nat):Int):=λt h=>by have:=J t h; omega
       unfold XF F8;rw[List.countP_eq_zero.2 (by simpa using V),List.countP_eq_zero.2 (by simpa using this)]
     . omega
   . subst d;refine A0 (λ_=>?_) (λh=>by omega);have U:A5 ((i:Int)+1)=(i+1:Nat):=by rw[A7 (by omega) (by omega)]; omega
     rw[U] at D ⊢;refine A9 (by omega) (oJ (by omega)) (A9 (by omega) (oJ (by omega)) (A9 (by omega) (oJ (by omega)) (D _ ?_)));simp only[SH];rw[AhP];refine lF λj O=>?_;have a3:=lG ts i;have a2:=lH ts (i+1);rw[if_neg (show ¬i+1<=i by omega),if_pos (Y3 i),A7 (by omega) (by omega)];grind[YS]
   . subst d;refine A0 (λh=>by omega) (λ_=>?_);rw[lF (g:=F8 ts) λj O=>if_pos (by omega)];exact Z
def zR:Rows:=⟨0,0,[],[],[]⟩
def sB (rows cols:Int) (t:A2):Prop:=0<=t.Row∧t.Row<rows∧0<=t.Col∧t.Col<cols
instance (rows cols:Int) (t:A2):Decidable (sB rows cols t):=by unfold sB; infer_instance
theorem AtI {r:Int}:∀ {ts:List (GN×Int)} {p:GN×AP},p∈SC r ts->∃ t∈ts,t.1=p.1:=by
 suffices ∀ (ts:List (GN×Int)) (l:List (GN×AP)) p,p∈ts.foldl (λl t=>ins r t.1 (US t.2) l) l->(∃ t∈ts,t.1=p.1)∨∃ q∈l,q.1=p.1 from λ{ts p} h=>by
  rcases this ts [] p h with h | ⟨q,d,_⟩
  . exact h
  . simp at d
 intro ts
 induction ts with
 | nil=>grind
 | cons t ts J=>
  intro l p h;rcases J _ _ h with⟨x,O,e⟩ | ⟨q,d,e⟩
  . grind
  . rcases tP d with D | ⟨y,U,D⟩
    all_goals grind
theorem AtJ {mk:GN->Int->α} (l:List (GN×AP)):(SV l mk).1.length<=l.length:=by unfold SV; grind
theorem eJ {x y:Int} {Q:Bool->Prop} (d:Q (decide (0<=x∧x<=y))):MQ x y Q:=by
 unfold MQ;refine A0 (λh=>?_) (λh=>?_)
 all_goals grind
def e2t (e:B2):A2:=⟨e.From,e.To,e.W⟩
theorem AyX (l:List (GN×AP)):(SV l mkT).1=(SV l mkE).1.map e2t∧(SV l mkT).2=(SV l mkE).2:=by
 unfold SV;split
 . exact⟨by simp only[AdV]; rfl,rfl⟩
 . exact⟨rfl,rfl⟩
theorem AmR [BEq α] [LawfulBEq α] [DecidableEq α] {xs ys:List α} {Q:Bool->Prop} (W:xs.length<=1000000000000) (J:Q (decide (xs=ys))) :
   A4 ((xs.length:Int) != (ys.length:Int)) (Q false) (AY (λ(s:Int) (next:Int->Prop)=>A4 (decide (s<(xs.length:Int))) (AU xs s λx=>AU ys s λy=>A4 (x != y) (Q false) (next (A5 (s+1)))) (Q true)) 0):=by
 refine BU (λh=>?_) (λh=>?_)
 . rwa [decide_eq_false (λe=>h (by rw[e]))] at J
 have h:xs.length=ys.length:=by omega
 refine CM xs.length W (λi=>∀ (j:Nat) (d:j<xs.length) (D:j<ys.length),j<i->xs[j]=ys[j]) (by simp) (λi next hi O V=>?_) (λnext O=>?_)
 . refine A0 (λ_=>?_) (λh=>by omega);refine AN hi (AN (by omega) (BU (λe=>?_) (λe=>V λj d D _=>?_)))
   . rwa [decide_eq_false (λU=>e (by subst U; rfl))] at J
   grind
 . refine A0 (λh=>by omega) (λ_=>?_)
   rwa [decide_eq_true (List.ext_getElem h λj d D=>O j d D d)] at J
theorem Aw4 {xs ys:List Int} {Q:Bool->Prop} (h:xs.length<=1000000000000) (d:Q (decide (xs=ys))):O5 xs ys Q:=by unfold O5; exact AmR h d
def ZN (a:Rows):Prop:=a.Start.length<=1000000000000∧a.Col.length<=1000000000000∧a.Val.length<=1000000000000
end
section
variable {α:Type}
def AxO (a:Rows) (i:Nat):Prop:=∀ j:Nat,BD a.Start i<=j->(j:Int)<BD a.Start ((i:Int)+1)->0<=BD a.Col j∧BD a.Col j<a.Cols∧(BD a.Start i<j->BD a.Col ((j:Int) - 1)<BD a.Col j)
structure TZ (a:Rows):Prop where
 r0:0≤a.Rows
 r1:a.Rows≤4096
 c0:0≤a.Cols
 c1:a.Cols≤4096
 sl:(a.Start.length:Int)=a.Rows+1
 vl:a.Val.length=a.Col.length
 cl:a.Col.length≤65536
 s0:BD a.Start 0=0
 sn:BD a.Start a.Rows=a.Col.length
 up:∀ i:Nat,(i:Int)<a.Rows→BD a.Start i≤BD a.Start ((i:Int)+1)
 row:∀ i:Nat,(i:Int)<a.Rows→AxO a i
noncomputable instance (a:Rows):Decidable (TZ a):=Classical.propDecidable _
theorem AvG {a:Rows} {n:Nat} (h:∀ i:Nat,i<n->BD a.Start i<=BD a.Start ((i:Int)+1)) {i j:Nat} (d:i<=j) (D:j<=n):BD a.Start i<=BD a.Start j:=by
 induction j with
 | zero=>grind
 | succ j J=>
  grind
theorem AtK {x y:Int} {Q:Bool->Prop} (h:Q (decide (x<y))):SM x y Q:=by unfold SM HS;exact AH (by simp) h
theorem AeO {xs:List Int} {Q:Bool->Prop} (W:xs.length<=1000000000) (D:(∀ i:Nat,i+1<xs.length->BD xs i<=BD xs ((i:Int)+1))->Q true) (U:(∃ i:Nat,i+1<xs.length∧¬BD xs i<=BD xs ((i:Int)+1))->Q false):FZ xs Q:=by
 unfold FZ;rw[A7 (by omega) (by omega)];by_cases h0:xs.length=0
 . refine CN (λs:Int=>s = -1) (λ_=>0) (by omega) (λs next V J=>?_);subst V;exact A0 (λh=>by omega) (λ_=>D λi hi=>by omega)
 refine CN (λs:Int=>∃ j:Nat,s=j∧j<xs.length∧∀ i:Nat,j<=i->i+1<xs.length->BD xs i<=BD xs ((i:Int)+1)) (λs=>s.toNat) ⟨xs.length - 1,by omega,by omega,λi hi h=>by omega⟩ ?_;rintro _ next ⟨j,rfl,_,O⟩ J;refine A0 (λh=>?_) (λh=>D λi hi=>O i (by omega) hi);obtain⟨j,rfl⟩:∃ q,j=q+1:=⟨j - 1,by omega⟩;have e:A5 (((j+1:Nat):Int) - 1)=(j:Int):=by rw[A7 (by omega) (by omega)]; omega
 rw[e];refine BC (by omega) (by omega) (BC (by omega) (by omega) (AtK (A0 (λd=>U ⟨j,by omega,?_⟩) (λd=>J _ ⟨j,rfl,by omega,λi hi h=>?_⟩ (by omega)))))
 all_goals grind
theorem AkI {xs:List Int} {lo hi:Int} {j:Nat} (d:0<=lo) (h:lo<=hi) (D:hi<=xs.length) (J:lo+j<hi):BD ((xs.take hi.toNat).drop lo.toNat) j=BD xs (lo+j):=by unfold BD;grind
theorem AkJ {xs:List α} {lo hi:Int} (d:0<=lo) (h:lo<=hi) (D:hi<=xs.length):((xs.take hi.toNat).drop lo.toNat).length=(hi - lo).toNat:=by grind
theorem Aw5 {xs:List Int} {cols:Int} {Q:Bool->Prop} (a2:0<=cols) (a3:cols<=4096) (hl:xs.length<=1000000000)
   (V:(∀ j:Nat,j<xs.length->0<=BD xs j∧BD xs j<cols∧(0<j->BD xs ((j:Int) - 1)<BD xs j))->Q true) (O:(∃ j:Nat,j<xs.length∧¬(0<=BD xs j∧BD xs j<cols∧(0<j->BD xs ((j:Int) - 1)<BD xs j)))->Q false):rV xs cols Q:=by
 unfold rV;rw[A7 (by omega) (by omega)];refine CM xs.length (by omega) (λi=>∀ j:Nat,j<i->j<xs.length->0<=BD xs j∧BD xs j<cols∧(0<j->BD xs ((j:Int) - 1)<BD xs j)) (by simp) (λi next hi J W=>?_) (λnext J=>?_)
 . refine A0 (λ_=>?_) (λh=>by omega);refine BC (by omega) (by omega) (eJ (BZ (λh=>O ⟨i,hi,λZ=>?_⟩) (λh=>?_)))
   . grind
   have h:0<=BD xs i∧BD xs i<=cols - 1:=by simpa using h
   have hstep (hx:0<i->BD xs ((i:Int) - 1)<BD xs i):next (A5 ((i:Int)+1)):=W λj d _=>by grind
   refine A0 (λU=>?_) (λU=>hstep λh=>by omega);rw[A7 (by omega) (by omega)];refine BC (by omega) (by omega) (A0 (λD=>O ⟨i,hi,λZ=>?_⟩) (λD=>hstep λ_=>by omega));omega
 . exact A0 (λh=>by omega) (λ_=>V λj d=>J j d d)
theorem lI {a:Rows} {Q:Bool->Prop} (hl:ZN a) (hQ:Q (decide (TZ a))):PC a Q:=by
 unfold PC;have hno (h:¬TZ a):Q false:=by grind
 have hyes (h:TZ a):Q true:=by grind
 unfold ZN at hl;refine eJ (BZ (λh=>hno λd=>?_) (λh=>?_))
 . have:=d.r0; have:=d.r1; grind
 have h1:0<=a.Rows∧a.Rows<=4096:=by simpa using h
 refine eJ (BZ (λh=>hno λd=>?_) (λh=>?_))
 . have:=d.c0; have:=d.c1; grind
 have h2:0<=a.Cols∧a.Cols<=4096:=by simpa using h
 rw[A7 (by omega) (by omega)];refine BU (λh=>hno λd=>h d.sl) (λh3=>?_);refine BU (λh=>hno λd=>h (by rw[d.vl])) (λ_=>?_);refine A0 (λh=>hno λd=>by have:=d.cl; omega) (λ_=>?_);refine BC (by omega) (by omega) (BU (λh=>hno λd=>h d.s0) (λh6=>?_));refine BC (by omega) (by omega) (BU (λh=>hno λd=>h d.sn) (λh7=>?_));obtain⟨n,hn⟩:∃ n:Nat,a.Rows=n:=⟨a.Rows.toNat,by omega⟩;have a7:a.Start.length=n+1:=by omega
 refine AeO (by omega) (λa3=>AH rfl ?_) (λhb=>B7 rfl (hno λd=>?_));rotate_left
 . have⟨i,hi,O⟩:=hb;exact O (d.up i (by omega))
 have D:∀ i:Nat,i<n->BD a.Start i<=BD a.Start ((i:Int)+1):=λi hi=>a3 i (by omega);rw[hn] at h7 ⊢;refine CM n (by omega) (λi=>∀ j:Nat,j<i->AxO a j) (by simp) (λi next hi hR a2=>?_) (λnext hR=>?_)
 . refine A0 (λ_=>?_) (λh=>by omega);have e1:A5 ((i:Int)+1)=(i:Int)+1:=A7 (by omega) (by omega);rw[e1] at a2 ⊢;have W:0<=BD a.Start i:=by have:=AvG D (i:=0) (j:=i) (by omega) (by omega); grind
   have Z:BD a.Start ((i:Int)+1)<=a.Col.length:=by have:=AvG D (i:=i+1) (j:=n) (by omega) (by omega);grind
   have hm:=D i hi;refine BC (by omega) (by omega) (BC (by omega) (by omega) ⟨W,hm,Z,?_⟩);have J:=AkJ W hm Z;have V:∀ j:Nat,BD a.Start i+j<BD a.Start ((i:Int)+1)->BD ((a.Col.take (BD a.Start ((i:Int)+1)).toNat).drop (BD a.Start i).toNat) j=BD a.Col (BD a.Start i+j):=λj hj=>AkI W hm Z hj;refine Aw5 (by omega) (by omega) (by rw[J]; omega) (λa4=>AH rfl (a2 λj hj=>?_)) (λhb=>B7 rfl (hno λd=>?_))
   . by_cases e:j=i
     . subst e;intro p a5 a6;obtain⟨q,hq⟩:∃ q:Nat,(p:Int)=BD a.Start j+q:=⟨(p - BD a.Start j).toNat,by omega⟩;have U:=a4 q (by rw[J]; omega);rw[V q (by omega),<-hq] at U;refine⟨U.1,U.2.1,λ_=>?_⟩;have:=U.2.2 (by omega);rw[show(q:Int) - 1=((q - 1:Nat):Int) by omega,V (q - 1) (by omega),show BD a.Start j+((q - 1:Nat):Int)=(p:Int) - 1 by omega] at this;exact this
     all_goals grind
   . have⟨q,hq,O⟩:=hb;rw[J] at hq;apply O;have U:=d.row i (by omega) (BD a.Start i+q).toNat (by omega) (by omega);have ep:(((BD a.Start i+q).toNat:Nat):Int)=BD a.Start i+q:=by omega
     rw[ep] at U;rw[V q (by omega)];refine⟨U.1,U.2.1,λ_=>?_⟩;have:=U.2.2 (by omega);rw[show(q:Int) - 1=((q - 1:Nat):Int) by omega,V (q - 1) (by omega),show BD a.Start i+((q - 1:Nat):Int)=BD a.Start i+q - 1 by omega];exact this
 . refine A0 (λh=>by omega) (λ_=>hyes ⟨h1.1,h1.2,h2.1,h2.2,h3,by omega,by omega,h6,by rw[hn]; exact h7,λi hi=>D i (by omega),λi hi=>hR i (by omega)⟩)
def key (t:A2):GN:=(t.Row,t.Col)
def Srt (ts:List A2):Prop:=ts.Pairwise λa b=>IY (key a) (key b)
structure Canon (rows cols:Int) (ts:List A2):Prop where
 r0:0≤rows
 r1:rows≤4096
 c0:0≤cols
 c1:cols≤4096
 len:ts.length≤65536
 srt:Srt ts
 inn:∀ t∈ts,sB rows cols t
theorem tW {q:α->Bool}:∀ {l:List α},l.Pairwise (λa b=>q b=true->q a=true)->∀ (i:Nat) (h:i<l.length),(q l[i]=true↔i<l.countP q)
 | [],_,i,h=>by simp at h
 | a :: l,hp,i,h=>by
  rw[AdQ] at hp;rw[List.countP_cons];by_cases ha:q a=true
  . rw[if_pos ha]
    cases i with
    | zero=>simp[ha]
    | succ i=>
     have:=tW hp.2 i (by simpa using h);grind
  . rw[if_neg ha];have J:l.countP q=0:=List.countP_eq_zero.2 λb D d=>ha (hp.1 b D d);grind
theorem Srt.row {ts:List A2} (h:Srt ts) (v:Nat) (p:Nat) (hp:p<ts.length):ts[p].Row<v↔(p:Int)<F8 ts v:=by
 have:=tW (q:=λt:A2=>decide (t.Row<(v:Int))) (l:=ts) (sR (λ{a b} d=>by simp only[decide_eq_true_eq];unfold IY key at d;simp only at d;omega) h) p hp
 simp only[decide_eq_true_eq] at this;rw[this]; unfold F8; omega
theorem AhR {f:Nat->Int} {n:Nat} {i:Int} (d:0<=i) (h:i<n):BD ((List.range n).map f) i=f i.toNat:=by unfold BD;grind
theorem sC {f:α->Int} {xs:List α} {i:Int} (d:0<=i) (h:i<xs.length):BD (xs.map f) i=f (xs[i.toNat]'(by omega)):=by unfold BD;grind
theorem bI {rows cols:Int} {ts:List A2} {i:Int} (d:0<=i) (h:i<=rows):BD (BT rows cols ts).Start i=F8 ts i.toNat:=AhR d (by omega)
theorem zL {rows cols:Int} {ts:List A2} (h:Canon rows cols ts):F8 ts rows.toNat=ts.length:=by have D:=h.r0;unfold F8;rw[List.countP_eq_length.2];intro t d;have:=h.inn t d;unfold sB at this;simp; omega
theorem tX {ts:List A2} (h:∀ t∈ts,0<=t.Row):F8 ts 0=0:=by unfold F8;simp_all
theorem Srt.at {ts:List A2} (h:Srt ts) {i p:Nat} (hp:p<ts.length):ts[p].Row=i↔F8 ts i<=p∧(p:Int)<F8 ts (i+1):=by have d:=h.row i p hp;have D:=h.row (i+1) p hp;omega
theorem Canon.right {rows cols:Int} {ts:List A2} (h:Canon rows cols ts):TZ (BT rows cols ts) where
 r0:=h.r0
 r1:=h.r1
 c0:=h.c0
 c1:=h.c1
 sl:=by have:=h.r0; simp[BT]; omega
 vl:=by simp[BT]
 cl:=by simpa[BT] using h.len
 s0:=by have:=h.r0;rw[bI (by omega) (by omega)];exact tX λt ht=>(h.inn t ht).1
 sn:=by have:=h.r0;show BD (BT rows cols ts).Start rows=_;rw[bI (by omega) (by omega),zL h]; simp[BT]
 up i hi:=by
  have hi:(i:Int)<rows:=hi;rw[bI (by omega) (by omega),bI (by omega) (by omega)];have e1:((i:Int)).toNat=i:=by omega
  have e2:((i:Int)+1).toNat=i+1:=by omega
  rw[e1,e2,YS i ts λt ht=>(h.inn t ht).1];have:=lH ts (i+1);omega
 row i hi:=by
  have hi:(i:Int)<rows:=hi;intro j hj1 hj2;rw[bI (by omega) (by omega)] at hj1 hj2 ⊢;have e1:((i:Int)).toNat=i:=by omega
  have e2:((i:Int)+1).toNat=i+1:=by omega
  rw[e1] at hj1 ⊢;rw[e2] at hj2;have hb:=lG ts (i+1);have hjl:j<ts.length:=by omega
  have hc:BD (BT rows cols ts).Col j=ts[j].Col:=by show BD (ts.map (·.Col)) j=_;grind[sC]
  have hin:=h.inn _ (RY hjl);have hr:=(h.srt.at hjl (i:=i)).2 ⟨hj1,hj2⟩;unfold sB at hin;refine⟨by rw[hc]; omega,by rw[hc]; exact hin.2.2.2,λhlt=>?_⟩;obtain⟨q,rfl⟩:∃ q,j=q+1:=⟨j - 1,by have:=lG ts i; omega⟩
  have hc2:BD (BT rows cols ts).Col (((q+1:Nat):Int) - 1)=ts[q].Col:=by show BD (ts.map (·.Col)) _=_;grind[sC]
  have hr2:=(h.srt.at (show q<ts.length by omega) (i:=i)).2 ⟨by omega,by omega⟩;have hs:=List.pairwise_iff_getElem.1 h.srt q (q+1) (by omega) hjl (by omega);unfold IY key at hs;omega
theorem rise {a:Rows} (h:TZ a) {i p q:Nat} (hi:(i:Int)<a.Rows) (J:BD a.Start i<=p) (D:(q:Int)<BD a.Start ((i:Int)+1)) (d:p<q):BD a.Col p<BD a.Col q:=by
 induction q with
 | zero=>omega
 | succ q O=>
  have:=(h.row i hi (q+1) (by omega) D).2.2 (by omega);grind
theorem AeP:Canon 0 0 []:=⟨by omega,by omega,by omega,by omega,by simp,.nil,by simp⟩
noncomputable def bJ (a:Rows):Rows:=if TZ a then a else BT 0 0 []
theorem lJ {a:Rows} {Q:Rows->Prop} (D:ZN a) (d:Q (bJ a)):RC a Q:=by
 unfold RC X3;unfold bJ at d;refine lI D (A0 (λh=>?_) (λh=>?_))
 . grind
 . rw[if_neg h] at d;exact⟨by decide,by decide,d⟩
def Q3 (ts:List A2) (i:Nat):List A2:=ts.filter λt=>decide (t.Row=i)
theorem Aw6 {ts:List A2} (h:Srt ts) (i:Nat) {lo hi:Nat} (U:F8 ts i=lo) (W:F8 ts (i+1)=hi) (V:lo<=hi) (Z:hi<=ts.length):(ts.take hi).drop lo=Q3 ts i:=by
 have e:ts=ts.take lo++((ts.take hi).drop lo++ts.drop hi):=by
   have O:ts.take lo=(ts.take hi).take lo:=by grind
   rw[<-nL,O,At1,At1]
 have J:∀ (p:Nat) (hp:p<ts.length),ts[p].Row=i↔lo<=p∧p<hi:=λp hp=>by have:=h.at (i:=i) hp; omega
 unfold Q3
 conv=>rhs; rw[e]
 rw[gT,gT,List.filter_eq_nil_iff.2,List.filter_eq_self.2,List.filter_eq_nil_iff.2]
 . simp
 . intro t d;obtain⟨j,D,rfl⟩:=WA d;simp only[AjN,decide_eq_true_eq];rw[J]; omega
 . intro t d;obtain⟨j,D,rfl⟩:=WA d;simp only[AjN,Ah4,decide_eq_true_eq];simp only[AdT,QY] at D;rw[J]; omega
 . intro t d;obtain⟨j,D,rfl⟩:=WA d;simp only[Ah4,decide_eq_true_eq];simp only[QY] at D;rw[J]; omega
structure Seg (ts:List A2) (i l u:Nat):Prop where
 lo:F8 ts i=l
 hi:F8 ts (i+1)=u
 le:l≤u
 len:u≤ts.length
 eq:(ts.take u).drop l=Q3 ts i
 row:∀ (p:Nat) (hp:p<ts.length),l≤p→p<u→ts[p].Row=i
theorem Canon.seg {rows cols:Int} {ts:List A2} (h:Canon rows cols ts) (i:Nat):∃ lo hi,Seg ts i lo hi:=by have V:=YS i ts λt J=>(h.inn t J).1;have O:=lH ts (i+1);have U:=lG ts (i+1);obtain⟨lo,d⟩:∃ lo:Nat,F8 ts i=lo:=⟨_,rfl⟩;obtain⟨hi,D⟩:∃ hi:Nat,F8 ts (i+1)=hi:=⟨_,rfl⟩;exact⟨lo,hi,d,D,by omega,by omega,Aw6 h.srt i d D (by omega) (by omega),λ_ hp _ _=>by have:=h.srt.at (i:=i) hp; omega⟩
theorem Canon.sml {rows cols:Int} {ts:List A2} (h:Canon rows cols ts):ZN (BT rows cols ts):=by have:=h.r0; have:=h.r1; have:=h.len;unfold ZN BT; simp; omega
theorem XG {rows cols:Int} {ts:List A2} {i:Nat} {K:Int->Prop} (h:(i:Int)<=rows) (hk:K (F8 ts i)):AU (BT rows cols ts).Start (i:Int) K:=
 A9 (by omega) (oJ (by simp; omega)) hk
theorem AkK {rows cols:Int} {ts:List A2} {i:Nat} {Q:List Int×List Int->Prop} (h:Canon rows cols ts) (hi:(i:Int)<rows) (D:Q ((Q3 ts i).map (·.Col),(Q3 ts i).map (·.Val))):aY (BT rows cols ts) i Q:=by
 unfold aY;have V:=h.r1;have⟨_,_,s⟩:=h.seg i;have J:A5 ((i:Int)+1)=(i+1:Nat):=by rw[A7 (by omega) (by omega)]; omega
 rw[J];refine XG (by omega) (XG (by omega) ?_);rw[s.lo,s.hi];have d:=s.le; have O:=s.len;have U:(BT rows cols ts).Col.length=ts.length:=by simp[BT]
 have W:(BT rows cols ts).Val.length=ts.length:=by simp[BT]
 refine⟨by omega,by omega,by omega,by omega,by omega,by omega,?_⟩;simp only[SH,BT,<-List.map_take,<-List.map_drop,s.eq];exact D
def sD (t:A2):B9:=⟨t.Col,t.Val⟩
def AtL (rows:Int) (ts:List A2) (i:Int):List B9:=if 0<=i∧i<rows then (Q3 ts i.toNat).map sD else []
theorem tY (ts:List A2) (i:Nat):(Q3 ts i).length<=ts.length:=wX _ _
theorem AhS {a:Rows} {rows cols i:Int} {ts:List A2} {Q:List B9->Prop} (U:ZN a) (W:bJ a=BT rows cols ts) (h:Canon rows cols ts) (d:Q (AtL rows ts i)):rW a i Q:=by
 unfold rW;have a3:=h.r0; have a2:=h.r1; have J:=h.len;refine lJ U ?_;rw[W];have e:A5 ((BT rows cols ts).Rows - 1)=rows - 1:=A7 (by show -9223372036854775808<=rows - 1; omega) (by show rows - 1<=9223372036854775807; omega);rw[e];unfold AtL at d;refine eJ (BZ (λO=>?_) (λV=>?_))
 . grind
 have V:0<=i∧i<=rows - 1:=by grind
 rw[if_pos (by omega)] at d;obtain⟨n,rfl⟩:∃ n:Nat,i=n:=⟨i.toNat,by omega⟩;rw[SH] at d;refine AkK h (by omega) ?_;have Z:=tY ts n;generalize Q3 ts n=xs at d Z;refine A6 (λ(s:List B9) i=>(s,i)) 0 xs.length (by omega) (λi s=>s=(xs.take i).map sD) (by omega) rfl (λi s next _ hi D O=>?_) (λs next D=>?_)
 . subst D;dsimp only;refine A0 (λ_=>?_) (λh=>by simp at h; omega);refine A9 (by omega) (x:=xs[i].Col) (by simp[hi]) (A9 (by omega) (x:=xs[i].Val) (by simp[hi]) (AK ?_ (O _ ?_)))
   . simp; omega
   . rw[HM hi]; rfl
 . subst D;dsimp only;refine A0 (λh=>by simp at h) (λ_=>?_);grind
theorem AeQ {ts:List A2} {lo p:Nat} (h:lo<=p) (d:p<ts.length):(ts.take (p+1)).drop lo=(ts.take p).drop lo++[ts[p]]:=by rw[cZ d,List.drop_append_of_le_length (by simp; omega)]
theorem bK {a:Rows} {rows cols:Int} {ts:List A2} {Q:List A2->Prop} (hl:ZN a) (ha:bJ a=BT rows cols ts) (h:Canon rows cols ts) (hQ:Q ts):RE a Q:=by
 unfold RE;have a4:=h.r0; have a5:=h.r1; have a6:=h.len;refine lJ hl ?_;rw[ha];obtain⟨n,hn⟩:∃ n:Nat,rows=n:=⟨rows.toNat,by omega⟩;have Z:(BT rows cols ts).Rows=n:=hn;rw[Z];refine A6 (λ(s:List A2) i=>(s,i)) 0 n (by omega) (λi s=>s=ts.take (F8 ts i).toNat) (by omega) (s0:=[]) (by rw[tX λt ht=>(h.inn t ht).1]; rfl) (λi s next _ _ d U=>?_) (λs next d=>?_)
 . subst d;dsimp only;refine A0 (λ_=>?_) (λh=>by omega);refine AkK h (by omega) ?_;have⟨lo,a2,s⟩:=h.seg i;have g1:=s.le; have g2:=s.len;rw[s.lo,SH];have W:(Q3 ts i).length=a2 - lo:=by rw[<-s.eq]; simp; omega
   have J:∀ (j:Nat) (O:j<(Q3 ts i).length),(Q3 ts i)[j]=ts[lo+j]'(by omega):=λj O=>by simp[<-s.eq]
   refine A6 (λ(s:List A2) i=>(s,i)) 0 (Q3 ts i).length (by omega) (λj V=>V=ts.take (lo+j)) (by omega) (by simp) (λj V nx _ O d a3=>?_) (λV nx d=>?_)
   . subst d;dsimp only;refine A0 (λ_=>?_) (λh=>by simp at h; omega);have D:lo+j<ts.length:=by omega
     refine A9 (by omega) (x:=ts[lo+j].Col) (by simp[O,J]) (A9 (by omega) (x:=ts[lo+j].Val) (by simp[O,J]) (AK ?_ (a3 _ ?_)))
     . simp; omega
     . rw[show lo+(j+1)=lo+j+1 by omega,cZ D];congr 2;have:=s.row (lo+j) D (by omega) (by omega);rw[<-this]
   . subst d;dsimp only;refine A0 (λh=>by simp at h) (λ_=>U _ ?_);rw[s.hi,W,SH]; congr 1; omega
 . subst d;dsimp only;refine A0 (λh=>by omega) (λ_=>?_);have hb:=zL h;simp_all
theorem AbH {a:Rows} {rows cols:Int} {ts:List A2} {Q:Int->Prop} (d:ZN a) (h:bJ a=BT rows cols ts) (D:Q ts.length):dO a Q:=by unfold dO;refine lJ d ?_;rw[h]; simpa[BT] using D
theorem Srt.nodup {l:List A2} (h:Srt l):l.Nodup:=by rw[AoW];exact sR (R:=λa b=>IY (key a) (key b)) (λ{a b} d (e:a=b)=>EZ (key b) (by rw[e] at d; exact d)) h
theorem AkL {l d:List A2} (h:Srt l) (D:Srt d) (O:∀ t,t∈l↔t∈d):l=d:=
 eG ((AdN h.nodup D.nodup).2 O) h D λ_ _ _ _ J U=>absurd (XD J U) (EZ _)
theorem Q4 {rows cols:Int} {ts:List A2} (h:Canon rows cols ts):bJ (BT rows cols ts)=BT rows cols ts:=by unfold bJ; rw[if_pos h.right]
def iI (t:A2):A2:=⟨t.Col,t.Row,t.Val⟩
def N7 (cols:Int) (ts:List A2):List A2:=(List.range cols.toNat).flatMap λc:Nat=>(ts.filter λt:A2=>decide (t.Col=(c:Int))).map iI
theorem XH {rows cols:Int} {ts:List A2} (h:Canon rows cols ts) (t:A2):t∈N7 cols ts↔iI t∈ts:=by
 unfold N7;simp only[List.mem_flatMap,AjU,gW,AmF,decide_eq_true_eq];constructor
 . rintro⟨_,_,_,⟨hu,_⟩,rfl⟩; exact hu
 . intro d;have:=h.inn _ d;unfold sB iI at this;simp only at this;exact⟨t.Row.toNat,by omega,iI t,⟨d,by show t.Row=_; omega⟩,rfl⟩
theorem bL {ts:List A2} (cols:Int) (h:Srt ts):Srt (N7 cols ts):=by
 unfold Srt N7;rw[List.pairwise_flatMap];refine⟨λc _=>?_,?_⟩
 . rw[gU];refine AsY (λ{a b} Z hb J=>?_) (gS (R:=λa b=>IY (key a) (key b)) (λt=>decide (t.Col=(c:Int))) h);have d:=(List.mem_filter.1 Z).2;have D:=(List.mem_filter.1 hb).2;simp only[decide_eq_true_eq] at d D;unfold IY key at *;grind[iI]
 . refine sR (λ{a b} J x V y U=>?_) (AoZ (n:=cols.toNat));obtain⟨_,O,rfl⟩:=List.mem_map.1 V;obtain⟨_,W,rfl⟩:=List.mem_map.1 U;have d:=(List.mem_filter.1 O).2;have D:=(List.mem_filter.1 W).2;simp only[decide_eq_true_eq] at d D;unfold IY key iI;grind
theorem AhT {ts:List A2} (h:Srt ts):(ts.map iI).Nodup:=by
 rw[AoW,gU];refine sR (R:=λa b=>IY (key a) (key b)) (λ{a b} d e=>?_) h
 have:a=b:=by cases a; cases b;grind[iI]
 subst this; exact EZ _ d
theorem zM {rows cols:Int} {ts:List A2} (h:Canon rows cols ts):(ts.map iI).Perm (N7 cols ts):=by refine(AdN (AhT h.srt) (bL cols h.srt).nodup).2 λt=>?_;rw[XH h,gW];exact⟨by rintro⟨_,d,rfl⟩; exact d,λD=>⟨iI t,D,rfl⟩⟩
theorem YT {rows cols:Int} {ts:List A2} (h:Canon rows cols ts):Canon cols rows (N7 cols ts) where
 r0:=h.c0
 r1:=h.c1
 c0:=h.r0
 c1:=h.r1
 len:=by have:=(zM h).length_eq; have:=h.len; simp at *; omega
 srt:=bL cols h.srt
 inn t ht:=by have:=h.inn _ ((XH h t).1 ht);unfold sB iI at *;grind
theorem AeR {a:Rows} {rows cols:Int} {ts:List A2} {Q:Rows->Prop} (hl:ZN a) (Z:bJ a=BT rows cols ts) (h:Canon rows cols ts) (V:Q (BT cols rows (N7 cols ts))):kT a Q:=by
 unfold kT;have a2:=h.len;have a4:=h.c1; have a3:=h.c0;refine lJ hl ?_;rw[Z];refine bK h.sml (Q4 h) h ?_;refine A6 (λ(s:List A2) i=>(s,i)) 0 ts.length (by omega) (λi s=>s=(ts.take i).map iI++ts.drop i) (by omega) (by simp) (λi s next _ hi J hn=>?_) (λs next J=>?_)
 . subst J;dsimp only;have U:ts.drop i=ts[i] :: ts.drop (i+1):=AoP hi;have d:((ts.take i).map iI).length=i:=by simp; omega
   have W:((ts.take i).map iI++ts.drop i)[i]? = some ts[i]:=by grind
   refine A0 (λ_=>?_) (λh=>by omega);refine A9 (by omega) (by simpa using W) (A9 (by omega) (by simpa using W) (hn _ ?_));rw[SH,List.set_append,if_neg (by omega),d,AjZ,U,HM hi,nL]; rfl
 . subst J;dsimp only;refine A0 (λh=>by omega) (λ_=>?_);rw[nM,List.drop_length,kD];have D:=YT h;refine AkF cfT (λ_ _ _=>Aw2) sA (by simp; omega) (zM h) ?_ ?_
   . exact sR (R:=λa b=>IY (key a) (key b)) (λ{a b} O=>(AbE _ _).2 O) D.srt
   . refine tU (show 0<=cols by omega) (show cols<=1000000 by omega) (by have:=D.len; omega) (λt ht=>?_) V;have:=D.inn t ht;unfold sB at this;exact⟨this.1,this.2.1⟩
def zN (l:Int):Int:=if 0 > l then 0 else l
def cHi (h n:Int):Int:=if n<h then n else h
def ext (l h n:Int):Int:=if zN l<cHi h n then cHi h n - zN l else 0
def WG (l h c d:Int) (ts:List A2):List A2:=(ts.filter λt=>decide ((l<=t.Row∧t.Row<h)∧(c<=t.Col∧t.Col<d))).map λt=>⟨t.Row - l,t.Col - c,t.Val⟩
def Aq5 (rows cols:Int) (ts:List A2) (p q:Int×Int):Rows:=BT (ext p.1 p.2 rows) (ext q.1 q.2 cols) (WG (zN p.1) (cHi p.2 rows) (zN q.1) (cHi q.2 cols) ts)
theorem tZ (l h n:Int) (D:0<=n) (d:n<=4096):0<=ext l h n∧ext l h n<=n∧0<=zN l∧cHi h n<=n:=by unfold ext zN cHi; (repeat' split) <;> omega
theorem zP {rows cols:Int} {ts:List A2} (h:Canon rows cols ts) (p q:Int×Int):Canon (ext p.1 p.2 rows) (ext q.1 q.2 cols) (WG (zN p.1) (cHi p.2 rows) (zN q.1) (cHi q.2 cols) ts):=by
 have W:=tZ p.1 p.2 rows h.r0 h.r1;have Z:=tZ q.1 q.2 cols h.c0 h.c1;have h3:=h.r1; have h4:=h.c1;refine⟨by omega,by omega,by omega,by omega,?_,?_,?_⟩
 . have:=h.len;unfold WG;rw[ZY];exact gV (wX _ _) this
 . unfold Srt WG;rw[gU];refine sR (λ{a b} D=>?_) (gS (R:=λa b=>IY (key a) (key b)) _ h.srt);unfold IY key at *;simp only at *;omega
 . intro t O;obtain⟨_,d,rfl⟩:=List.mem_map.1 O;have J:=(List.mem_filter.1 d).2;simp only[decide_eq_true_eq] at J;have U:ext p.1 p.2 rows=cHi p.2 rows - zN p.1:=by unfold ext; rw[if_pos (by omega)]
   have V:ext q.1 q.2 cols=cHi q.2 cols - zN q.1:=by unfold ext; rw[if_pos (by omega)]
   unfold sB;simp only;omega
theorem zQ {p:Int×Int} {n:Int} {Q:Int×Int->Prop} (J:0<=n) (D:n<=4096) (d:Q (zN p.1,ext p.1 p.2 n)):TM p n Q:=by
 unfold TM;show A4 (decide (cHi p.2 n<=zN p.1)) (Q (zN p.1,0)) (Q (zN p.1,A5 (cHi p.2 n - zN p.1)));have O:=tZ p.1 p.2 n J D;unfold ext at d;refine A0 (λh=>?_) (λh=>?_)
 . rwa [if_neg (by omega)] at d
 . rw[if_pos (by omega)] at d
   rwa [A7 (by omega) (by omega)]
def xG (c d:Int) (t:A2):Bool:=decide (c<=t.Col∧t.Col<d)
def shf (l c:Int) (t:A2):A2:=⟨t.Row - l,t.Col - c,t.Val⟩
theorem Aq6 {ts:List A2} (h:Srt ts) (l c d:Int) (v:Nat) (V:l<=v):WG l ((v:Int)+1) c d ts=WG l v c d ts++((Q3 ts v).filter (xG c d)).map (shf l c):=by
 unfold WG;rw[show(λt:A2=>(⟨t.Row - l,t.Col - c,t.Val⟩:A2))=shf l c from rfl,<-dA];congr 1;refine AkL (gS _ h) (List.pairwise_append.2 ⟨gS _ h,gS _ (gS _ h),λ_ U _ J=>?_⟩) λt=>?_
 . have D:=(List.mem_filter.1 U).2;have O:=(List.mem_filter.1 (List.mem_filter.1 J).1).2;simp only[decide_eq_true_eq] at D O;unfold IY key;omega
 . unfold Q3 xG;grind
theorem AkM {ts:List A2} {l h c d:Int} (D:h<=l):WG l h c d ts=[]:=by unfold WG;rw[List.filter_eq_nil_iff.2]; all_goals grind
theorem uA {a:Rows} {rows cols:Int} {ts:List A2} {p q:Int×Int} {Q:Rows->Prop} (hl:ZN a) (ha:bJ a=BT rows cols ts) (h:Canon rows cols ts) (V:Q (Aq5 rows cols ts p q)):VD a p q Q:=by
 unfold VD;have d8:=h.len;have d6:=h.r1; have d5:=h.c1;have b1:=tZ p.1 p.2 rows h.r0 h.r1;have b2:=tZ q.1 q.2 cols h.c0 h.c1;refine lJ hl ?_;rw[ha];refine zQ h.r0 h.r1 (zQ h.c0 h.c1 ?_);show AY _ _;have d:=zP h p q;unfold Aq5 at V;have c2:(BT rows cols ts).Rows=rows:=rfl;have a8:(BT rows cols ts).Cols=cols:=rfl;rw[a8,c2];generalize hL:zN p.1=L at *;generalize hH:cHi p.2 rows=H at *;generalize hC:zN q.1=C at *;generalize hD:cHi q.2 cols=D at *;have eE:ext p.1 p.2 rows=if L<H then H - L else 0:=by unfold ext; rw[hL,hH]
 have eF:ext q.1 q.2 cols=if C<D then D - C else 0:=by unfold ext; rw[hC,hD]
 generalize ext p.1 p.2 rows=E at *;generalize ext q.1 q.2 cols=F at *;dsimp only;obtain⟨n,hn⟩:∃ n:Nat,E=n:=⟨E.toNat,by omega⟩;rw[hn];refine A6 (λ(s:List A2) i=>(s,i)) 0 n (by omega) (λi s=>s=WG L (L+(i:Nat)) C D ts) (by omega) (s0:=[]) (by rw[AkM (by omega)]) (λi s next _ _ J U=>?_) (λs next J=>?_)
 . subst J;dsimp only
   have d3:L<H∧E=H - L:=by omega
   obtain⟨v,hv⟩:∃ v:Nat,L+(i:Int)=v:=⟨(L+i).toNat,by omega⟩;have e1:A5 (L+(i:Int))=v:=by rw[A7 (by omega) (by omega)]; exact hv
   rw[e1];refine A0 (λ_=>?_) (λh=>by omega);refine AhS h.sml (Q4 h) h ?_;have d2:AtL rows ts v=(Q3 ts v).map sD:=by unfold AtL; grind
   rw[d2];have d7:=tY ts v;have a5:∀ t∈Q3 ts v,t.Row=v:=λt Z=>by simpa using (List.mem_filter.1 Z).2
   have b0:∀ t∈Q3 ts v,sB rows cols t:=λt Z=>h.inn t (List.mem_filter.1 Z).1;have a2:=Aq6 h.srt L C D v (by omega);rw[show(v:Int)+1=L+((i+1:Nat):Int) by omega] at a2;rw[a2] at U
   have a4:(WG L v C D ts).length<=ts.length:=by unfold WG;grind
   rw[hv];generalize WG L v C D ts=a6 at U a4;generalize Q3 ts v=xs at *;refine A6 (λ(s:List A2) i=>(s,i)) 0 xs.length (by omega) (λj s=>s=a6++((xs.take j).filter (xG C D)).map (shf L C)) (by omega) (by simp) (λj s nx _ W J a3=>?_) (λs nx J=>?_)
   . subst J;dsimp only;refine A0 (λ_=>?_) (λh=>by simp at h; omega);have J:=RY W;have a9:=b0 _ J;have hr:=a5 _ J;unfold sB at a9
     have d0:(xs.take (j+1)).filter (xG C D)=(xs.take j).filter (xG C D)++if xG C D xs[j]=true then [xs[j]] else []:=by rw[cZ W,gT,AoV,List.filter_nil]
     refine A9 (by omega) (x:=sD xs[j]) (by simp[W]) ?_;have a7:(sD xs[j]).At=xs[j].Col:=rfl;have d1:(sD xs[j]).Val=xs[j].Val:=rfl;rw[a7,d1];refine BH (λb=>b=xG C D xs[j]) ?_ λ_ hk=>?_
     . rintro _ rfl;refine⟨λO=>AK ?_ (a3 _ ?_),λO=>a3 _ ?_⟩
       . grind
       . have d4:C<=xs[j].Col∧xs[j].Col<D:=by grind[xG]
         rw[d0,if_pos O,dA,nL,A7 (x:=xs[j].Col - C) (by omega) (by omega)];grind[shf]
       grind
     . refine A0 (λO=>hk _ ?_) (λO=>hk _ ?_)
       . unfold xG;apply decide_eq_decide.2;rw[eF,A7 (x:=xs[j].Col - C) (by omega) (by omega)];omega
       grind[xG]
   . subst J;dsimp only;refine A0 (λh=>by simp at h) (λ_=>U _ ?_);grind
 . subst J;dsimp only;refine A0 (λh=>by omega) (λ_=>?_)
   have e:WG L (L+(n:Int)) C D ts=WG L H C D ts:=by grind[AkM]
   rw[e];rw[hn] at d V;refine tU (by omega) (by omega) (by have:=d.len; omega) (λt Z=>?_) V;have:=d.inn t Z;unfold sB at this;omega
theorem AmS {r rows cols:Int} {kvs:List (GN×Int)} (h:0<=rows∧rows<=4096∧0<=cols∧cols<=4096) (O:kvs.length<=65536) (hk:∀ t∈kvs,sB rows cols (mkT t.1 0)) (J:∀ t∈kvs,DH t.2):Canon rows cols (SV (SC r kvs) mkT).1:=by
 refine⟨h.1,h.2.1,h.2.2.1,h.2.2.2,?_,?_,?_⟩
 . exact gV (AtJ _) (by have:=(eI r kvs J).1; omega)
 . unfold SV;split
   . unfold Srt;rw[gU];exact bH r kvs
   . exact .nil
 . intro t d;unfold SV at d;split at d
   . obtain⟨_,hp,rfl⟩:=List.mem_map.1 d;have⟨x,D,_⟩:=AtI hp;have:=hk x D;unfold sB mkT at *;grind
   . simp at d
def rI (n:Int) (e:B2):Prop:=(0<=e.From∧e.From<n)∧(0<=e.To∧e.To<n)
instance (n:Int) (e:B2):Decidable (rI n e):=by unfold rI; infer_instance
def wOk (e:B2):Prop:=0<=e.W∧e.W<=2147483647
instance (e:B2):Decidable (wOk e):=by unfold wOk; infer_instance
def GO (g:Graph):Int:=
 if g.N<0 then 3 else if 4096<g.N∨65536<g.Edges.length then 5 else if ¬ ∀ e∈g.Edges,rI g.N e then 3 else if ¬ ∀ e∈g.Edges,wOk e then 7 else 0
theorem N8 {g:Graph} (h:GO g=0):0<=g.N∧g.N<=4096∧g.Edges.length<=65536∧(∀ e∈g.Edges,rI g.N e)∧∀ e∈g.Edges,wOk e:=by grind[GO]
theorem U0 {g:Graph} {Q:Int->Prop} (U:Q (GO g)):N1 g Q:=by
 unfold N1;unfold GO at U;refine A0 (λh=>?_) (λh=>?_)
 . grind
 rw[if_neg h] at U;refine BH (λb=>b=decide (4096<g.N∨65536<g.Edges.length)) ?_ λ_ hk=>?_
 . rintro _ rfl;refine A0 (λh5=>?_) (λh5=>?_)
   . grind
   rw[if_neg h5] at U;unfold D6 DP NQ KF;refine CM g.Edges.length (by omega) (λi=>∀ (j:Nat) (D:j<g.Edges.length),j<i->rI g.N g.Edges[j]) (by simp) (λi next hi V W=>?_) (λnext V=>?_)
   . refine A0 (λ_=>?_) (λh=>by omega)
     have hbad (hb:¬rI g.N g.Edges[i]):A4 (decide (0<=(i:Int))) (Q 3) (CG g.Edges λa3=>A4 a3 (Q 7) (Q 0)):=by refine A0 (λ_=>?_) (λh=>by omega);grind
     refine AN hi ?_;refine A0 (λO=>B7 rfl (B7 rfl (hbad λd=>by unfold rI at d; omega))) (λO=>?_);refine A0 (λJ=>B7 rfl (hbad λd=>by unfold rI at d; omega)) (λJ=>?_);refine A0 (λh3=>B7 rfl (hbad λd=>by unfold rI at d; omega)) (λh3=>?_);refine A0 (λh4=>hbad λd=>by unfold rI at d; omega) (λh4=>W λj D a4=>?_);grind[rI]
   . refine A0 (λh=>by omega) (λ_=>AH (by decide) ?_)
     have a2:∀ e∈g.Edges,rI g.N e:=λe Z=>by obtain⟨j,D,rfl⟩:=WA Z;grind
     rw[if_neg (λh=>h a2)] at U;unfold CG DQ NR;refine CM g.Edges.length (by omega) (λi=>∀ (j:Nat) (D:j<g.Edges.length),j<i->wOk g.Edges[j]) (by simp) (λi next hi V W=>?_) (λnext V=>?_)
     . refine A0 (λ_=>?_) (λh=>by omega)
       have hbad (hb:¬wOk g.Edges[i]):A4 (decide (0<=(i:Int))) (Q 7) (Q 0):=by refine A0 (λ_=>?_) (λh=>by omega);grind
       refine AN hi (A0 (λO=>B7 rfl (hbad λd=>by unfold wOk at d; omega)) (λO=>A0 (λJ=>hbad λd=>by unfold wOk at d; omega) (λJ=>W λj D a4=>?_)));grind[wOk]
     . refine A0 (λh=>by omega) (λ_=>AH (by decide) ?_)
       rwa [if_neg (λh=>h λe Z=>by obtain⟨j,D,rfl⟩:=WA Z;exact V j D D)] at U
 . refine A0 (λO=>hk _ ?_) (λO=>hk _ ?_)
   all_goals grind
def kvF (e:B2):GN×Int:=((e.To,e.From),e.W)
def fV (e:B2):B2:=⟨e.To,e.From,e.W⟩
def L1 (g:Graph):List A2:=(SV (SC 1 (g.Edges.map kvF)) mkT).1
theorem qL {g:Graph} (h:GO g=0):Canon g.N g.N (L1 g):=by
 have⟨J,O,W,V,U⟩:=N8 h;refine AmS ⟨J,O,J,O⟩ (by simpa using W) (λt d=>?_) (λt d=>?_)
 . obtain⟨e,D,rfl⟩:=List.mem_map.1 d;have:=V e D;unfold rI at this;unfold sB mkT kvF;grind
 . obtain⟨e,D,rfl⟩:=List.mem_map.1 d;have:=U e D;unfold wOk at this;unfold DH kvF;omega
def uB (g:Graph):Rows×Int:=if GO g=0 then (BT g.N g.N (L1 g),0) else (zR,GO g)
theorem lK {g:Graph} {Q:Rows×Int->Prop} (U:Q (uB g)):PB g Q:=by
 unfold PB;unfold uB at U;refine U0 (BU (λh=>?_) (λh=>?_))
 . rwa [if_neg h] at U
 rw[if_pos h] at U;have D:=qL h;have⟨h1,_,_,_,h5⟩:=N8 h
 have hv:∀ t∈g.Edges.map fV,DH t.W:=λt Z=>by obtain⟨e,he,rfl⟩:=List.mem_map.1 Z;have:=h5 e he;unfold wOk at this;unfold DH fV;grind
 unfold P7 NT LH;refine A6 (λ(s:List B2) i=>(s,i)) 0 g.Edges.length (by omega) (λi s=>s=(g.Edges.take i).map fV) (by omega) rfl (λi s next _ hi J V=>?_) (λs next J=>?_)
 . subst J;dsimp only;refine A0 (λ_=>?_) (λh=>by omega);refine AN hi (B7 rfl (AK ?_ (V _ ?_)))
   . simp; omega
   . rw[HM hi]; rfl
 . subst J;dsimp only;refine A0 (λh=>by omega) (λ_=>?_);rw[nM];unfold IV;refine tR (by omega) (by simp; omega) hv ?_;dsimp only;have a3:(g.Edges.map fV).map oI=g.Edges.map kvF:=by rw[AdV]; rfl
   rw[a3];have a2:=(AyX (SC 1 (g.Edges.map kvF))).1;have O:=D.len;have d:=D.inn;unfold L1 at U O d;rw[a2] at U O d;generalize (SV (SC 1 (g.Edges.map kvF)) mkE).1=es at U O d;have a4:es.length<=65536:=by grind
   refine A6 (λ(s:List A2) i=>(s,i)) 0 es.length (by omega) (λi s=>s=(es.take i).map e2t) (by omega) rfl (λi s next _ hi J V=>?_) (λs next J=>?_)
   . subst J;dsimp only;refine A0 (λ_=>?_) (λh=>by omega);refine AN hi (AK ?_ (V _ ?_))
     . simp; omega
     . rw[HM hi]; rfl
   . subst J;dsimp only;refine A0 (λh=>by omega) (λ_=>?_);rw[nM];refine tU h1 (by omega) (by simp; omega) (λt Z=>?_) U;have:=d t Z;unfold sB at this;omega
theorem Aq7:ZN zR:=⟨by decide,by decide,by decide⟩
theorem Aq8:¬TZ zR:=λh=>by have:=h.sl; simp[zR] at this
end
def AxP (r:Int) (k:GN) (ts:List (GN×Int)):Option AP:=ts.foldl (λo t=>if k=t.1 then some (match o with | some w=>FE r w (US t.2) | none=>US t.2) else o) none
theorem AhU (r:Int) (k:GN) (ts:List (GN×Int)):BA k (SC r ts)=AxP r k ts:=by
 suffices ∀ (ts:List (GN×Int)) (l:List (GN×AP)),srt l->BA k (ts.foldl (λl t=>ins r t.1 (US t.2) l) l)=ts.foldl (λo t=>if k=t.1 then some (match o with | some w=>FE r w (US t.2) | none=>US t.2) else o) (BA k l) from this ts [] .nil
 intro ts
 induction ts with
 | nil=>intro l _; rfl
 | cons t ts d=>
  intro l h;simp only[aN];rw[d _ (rZ h),AbD k h];grind
def sw (p:GN×AP):GN×AP:=((p.1.2,p.1.1),p.2)
theorem Aq9 (k:GN):∀ l:List (GN×AP),BA k (l.map sw)=BA (k.2,k.1) l
 | []=>rfl
 | p :: l=>by have⟨⟨_,_⟩,_⟩:=p;have⟨c,d⟩:=k;simp only[NM,BA,sw,Aq9 (c,d) l,yS];grind
theorem AtM {l:List (GN×AP)} (h:ES l):ES (l.map sw):=by unfold ES at *;grind[sw]
theorem AkN (es:List B2):((SC 1 (es.map oI)).map sw).Perm (SC 1 (es.map kvF)):=by refine oH (AtM (XE (bH _ _))) (XE (bH _ _)) λk=>?_;rw[Aq9,AhU,AhU];unfold AxP;rw[AjT,AjT];congr 1;funext o e;have⟨_,_⟩:=k;simp only[oI,kvF,yS];grind
theorem sE {v:Int} (h:DH v):GY (US v)=(v,true):=by
 unfold GY US;unfold DH at h;simp only;rw[if_pos]
 . rw[HU]; congr 1; omega
 . omega
theorem Aw7 (ts:List (GN×Int)) (D:∀ t∈ts,DH t.2):∀ p∈SC 1 ts,∃ v,DH v∧p.2=US v:=by
 suffices ∀ (ts:List (GN×Int)) (l:List (GN×AP)),(∀ t∈ts,DH t.2)->(∀ p∈l,∃ v,DH v∧p.2=US v)->∀ p∈ts.foldl (λl t=>ins 1 t.1 (US t.2) l) l,∃ v,DH v∧p.2=US v from this ts [] D (by simp)
 have d:∀ (k:GN) (v:Int),DH v->∀ l:List (GN×AP),(∀ p∈l,∃ v,DH v∧p.2=US v)->∀ p∈ins 1 k (US v) l,∃ v,DH v∧p.2=US v:=by
  intro k v D l
  induction l with
  | nil=>intro _ p hp; simp[ins] at hp; exact⟨v,D,by rw[hp]⟩
  | cons q l J=>
   intro h p hp;unfold ins at hp;split at hp
   . rcases List.mem_cons.1 hp with rfl | hp
     . simp_all
     grind
   . split at hp
     . rcases List.mem_cons.1 hp with rfl | hp
       . have⟨u,U,e⟩:=h q (by simp);unfold FE;simp only[true_or,if_true];split
         . exact⟨u,U,e⟩
         . exact⟨v,D,rfl⟩
       . exact h p (by simp[hp])
     . rcases List.mem_cons.1 hp with rfl | hp
       . exact⟨v,D,rfl⟩
       . exact h p hp
 intro ts
 induction ts with
 | nil=>intro l _ h; exact h
 | cons t ts J=>intro l O h; exact J _ (λx V=>O x (by simp[V])) (d _ _ (O t (by simp)) l h)
theorem lL {α:Type} {mk:GN->Int->α} {ts:List (GN×Int)} (d:∀ t∈ts,DH t.2):SV (SC 1 ts) mk=((SC 1 ts).map (λp=>mk p.1 (GY p.2).1),0):=by refine tQ (m:=[]) (.refl _) λp _=>?_;grind[Aw7,sE]
theorem AtN (a:AP):DH (GY a).1:=by
 unfold GY DH;split
 . simp only[HU]; omega
 . simp
theorem AqA {r:Int} {k:GN} {v:AP} {l:List (GN×AP)} (h:∀ p∈l,IY p.1 k):ins r k v l=l++[(k,v)]:=by
 induction l with
 | nil=>rfl
 | cons p l d=>unfold ins; grind
theorem AtO {r:Int} {T:List A2} (h:Srt T):SC r (T.map kvT)=T.map λt=>(key t,US t.Val):=by
 suffices ∀ i,i<=T.length->SC r ((T.take i).map kvT)=(T.take i).map λt=>(key t,US t.Val) by have:=this T.length (Y3 _);grind
 intro i
 induction i with
 | zero=>intro _; rfl
 | succ i J=>
  intro hi;rw[HM (show i<T.length by omega),HM (show i<T.length by omega),AbC,J (by omega),AqA]
  . rfl
  . intro p hp;obtain⟨t,d,rfl⟩:=List.mem_map.1 hp;obtain⟨j,D,rfl⟩:=WA d;simp only[QY] at D;rw[Ah4];exact List.pairwise_iff_getElem.1 h j i (by omega) (by omega) (by omega)
theorem AmT {rows cols:Int} {T:List A2} (h:Canon rows cols T):N7 rows (N7 cols T)=T:=by refine AkL (bL _ (bL _ h.srt)) h.srt λ_=>?_;rw[XH (YT h),XH h]; rfl
theorem AkO {l h c d:Int} {T:List A2} (t:A2):t∈WG l h c d T↔(⟨t.Row+l,t.Col+c,t.Val⟩:A2)∈T∧(0<=t.Row∧t.Row+l<h)∧0<=t.Col∧t.Col+c<d:=by
 unfold WG;simp only[gW,AmF,decide_eq_true_eq];constructor
 . rintro⟨_,⟨_,_⟩,rfl⟩;simp_all
 grind
theorem AeS {l d:List Int} (h:l.Pairwise (· < ·)) (J:d.Pairwise (· < ·)) (U:∀ x,x∈l↔x∈d):l=d:=by have D:∀ {l:List Int},l.Pairwise (· < ·)->l.Nodup:=λh=>List.nodup_iff_pairwise_ne.2 (h.imp λ_=>by omega);have hp:=(AdN (D h) (D J)).2 U;exact hp.eq_of_pairwise (λ_ _ _ _ _ _=>by omega) h J
theorem QT {l:List Int} (h:l.Pairwise (· < ·)) {i j:Nat} (d:i<j) (D:j<l.length):BD l i<BD l j:=by unfold BD;have:=List.pairwise_iff_getElem.1 h i j (by omega) D d;grind
theorem AbI {l:List Int} {x:Int} (h:x∈l):∃ i:Nat,i<l.length∧BD l i=x:=by obtain⟨i,hi,rfl⟩:=WA h;exact⟨i,hi,by unfold BD; simp[eX,hi]⟩
def Aw8 (T:List A2) (c:Nat):Bool:=T.any λt=>decide (t.Row=(c:Int))
def LV (n:Nat) (T:List A2):List Int:=((List.range n).filter (Aw8 T)).map λc:Nat=>(c:Int)
theorem JW (n:Nat) (T:List A2):(LV n T).Pairwise (· < ·):=by unfold LV;rw[gU];exact sR (λ{a b} h=>by omega) ((AoZ (n:=n)).filter _)
theorem KI {n:Nat} {T:List A2} {x:Int}:x∈LV n T↔(0<=x∧x<n)∧∃ t∈T,t.Row=x:=by
 unfold LV Aw8;simp only[gW,AmF,AjU,AoU,decide_eq_true_eq];constructor
 . grind
 . rintro⟨⟨_,_⟩,t,ht,_⟩; exact⟨x.toNat,⟨by omega,t,ht,by omega⟩,by omega⟩
theorem lM (n:Nat) (T:List A2):(LV n T).length<=n:=by grind[LV]
def iJ (n:Nat) (T:List A2):List Int:=0 :: (LV n T).map λx=>F8 T (x.toNat+1)
def U1 (rows cols:Int) (T:List A2):BF:=⟨rows,cols,LV cols.toNat T,iJ cols.toNat T,T.map (·.Col),T.map (·.Val)⟩
theorem bM (n:Nat) (T:List A2):(iJ n T).length=(LV n T).length+1:=by simp[iJ]
theorem AqB {n:Nat} {T:List A2} {j:Nat} (d:j<(LV n T).length):BD (iJ n T) ((j:Int)+1)=F8 T ((BD (LV n T) j).toNat+1):=by unfold iJ BD;grind
theorem zT {n:Nat} {T:List A2} {j:Nat} (d:j<(LV n T).length):(0<=BD (LV n T) j∧BD (LV n T) j<n)∧∃ t∈T,t.Row=BD (LV n T) j:=
 KI.1 (rY (by omega) (by omega))
theorem AbJ {rows cols:Int} {T:List A2} (h:Canon cols rows T) {t:A2} (D:t∈T):∃ q:Nat,q<(LV cols.toNat T).length∧BD (LV cols.toNat T) q=t.Row:=by have d:=h.inn t D;unfold sB at d;exact AbI (KI.2 ⟨⟨by omega,by omega⟩,t,D,rfl⟩)
theorem AxQ {rows cols:Int} {T:List A2} (h:Canon cols rows T) {j:Nat} (U:j<(LV cols.toNat T).length):BD (iJ cols.toNat T) j=F8 T (BD (LV cols.toNat T) j).toNat:=by
 have d:=JW cols.toNat T
 have Z:=(zT U).1
 cases j with
 | zero=>
  rw[show BD (iJ cols.toNat T) ((0:Nat):Int)=0 from rfl]
  unfold F8
  rw[List.countP_eq_zero.2]; · rfl
  intro t O
  have⟨q,J,e⟩:=AbJ h O
  simp only[decide_eq_true_eq]
  rw[<-e]
  by_cases e0:q=0
  . subst e0; omega
  . have:=QT d (show 0<q by omega) J; omega
 | succ i=>
  rw[show((i+1:Nat):Int)=(i:Int)+1 by omega,AqB (show i<(LV cols.toNat T).length by omega)]
  unfold F8
  congr 1
  apply List.countP_congr
  intro t O
  simp only[decide_eq_true_eq]
  have D:=QT d (show i<i+1 by omega) U
  rw[show((i+1:Nat):Int)=(i:Int)+1 by omega] at D Z
  have h1:=(zT (show i<(LV cols.toNat T).length by omega)).1
  constructor
  . intro W; omega
  . intro W
    have⟨q,J,e⟩:=AbJ h O
    have a2:q<=i:=by
      rcases ZZ i q with V | V
      . exfalso
        by_cases e1:q=i+1
        . grind
        . have:=QT d (show i+1<q by omega) J
          grind
      . exact V
    by_cases e1:q=i
    . subst e1; omega
    . have:=QT d (show q<i by omega) (by omega); omega
theorem Canon.colseg {rows cols:Int} {T:List A2} (h:Canon cols rows T) {j:Nat} (D:j<(LV cols.toNat T).length) :
  ∃ x lo hi:Nat,BD (LV cols.toNat T) j=x∧(x:Int)<cols∧BD (iJ cols.toNat T) j=lo∧BD (iJ cols.toNat T) ((j:Int)+1)=hi∧lo<hi∧Seg T x lo hi:=by
 have⟨⟨_,U⟩,_,ht,_⟩:=zT D;obtain⟨x,d⟩:∃ x:Nat,BD (LV cols.toNat T) j=x:=⟨(BD (LV cols.toNat T) j).toNat,by omega⟩;have⟨lo,hi,s⟩:=h.seg x;have W:=h.r0;have J:BD (iJ cols.toNat T) j=lo:=by rw[AxQ h D,d,SH,s.lo]
 have O:BD (iJ cols.toNat T) ((j:Int)+1)=hi:=by rw[AqB D,d,SH,s.hi]
 refine⟨x,lo,hi,d,by omega,J,O,?_,s⟩;obtain⟨_,hp,rfl⟩:=WA ht;have:=(h.srt.at hp (i:=x)).1 (by omega);have U:=s.lo; have V:=s.hi;omega
def AxR (c:BF) (i:Nat):Prop:=∀ j:Nat,BD c.Start i<=j->(j:Int)<BD c.Start ((i:Int)+1)->0<=BD c.Row j∧BD c.Row j<c.Rows∧(BD c.Start i<j->BD c.Row ((j:Int) - 1)<BD c.Row j)
structure AmU (c:BF):Prop where
 r0:0≤c.Rows
 r1:c.Rows≤4096
 c0:0≤c.Cols
 c1:c.Cols≤4096
 sl:(c.Start.length:Int)=(c.At.length:Int)+1
 vl:c.Val.length=c.Row.length
 cl:c.Row.length≤65536
 s0:BD c.Start 0=0
 sn:BD c.Start c.At.length=c.Row.length
 at_:∀ i:Nat,i<c.At.length→0≤BD c.At i∧BD c.At i<c.Cols∧(0<i→BD c.At ((i:Int) - 1)<BD c.At i)
 up:∀ i:Nat,i<c.At.length→BD c.Start i<BD c.Start ((i:Int)+1)
 row:∀ i:Nat,i<c.At.length→AxR c i
noncomputable instance (c:BF):Decidable (AmU c):=Classical.propDecidable _
def WH (c:BF):Prop:=c.At.length<=1000000000∧c.Start.length<=1000000000∧c.Row.length<=1000000000000
theorem U2 {x y:Int} {Q:Bool->Prop} (d:Q (decide (0<=x∧x<=y))):N4 x y Q:=by
 unfold N4;refine A0 (λh=>?_) (λh=>?_)
 all_goals grind
theorem oK {xs:List Int} {cols:Int} {Q:Bool->Prop} (a2:0<=cols) (a3:cols<=1000000000) (hl:xs.length<=1000000000)
   (V:(∀ j:Nat,j<xs.length->0<=BD xs j∧BD xs j<cols∧(0<j->BD xs ((j:Int) - 1)<BD xs j))->Q true) (O:(∃ j:Nat,j<xs.length∧¬(0<=BD xs j∧BD xs j<cols∧(0<j->BD xs ((j:Int) - 1)<BD xs j)))->Q false):N5 xs cols Q:=by
 unfold N5;rw[A7 (by omega) (by omega)];refine CM xs.length (by omega) (λi=>∀ j:Nat,j<i->j<xs.length->0<=BD xs j∧BD xs j<cols∧(0<j->BD xs ((j:Int) - 1)<BD xs j)) (by simp) (λi next hi J W=>?_) (λnext J=>?_)
 . refine A0 (λ_=>?_) (λh=>by omega);refine BC (by omega) (by omega) (U2 (BZ (λh=>O ⟨i,hi,λZ=>?_⟩) (λh=>?_)))
   . simp at h; omega
   have h:0<=BD xs i∧BD xs i<=cols - 1:=by simpa using h
   have hstep (hx:0<i->BD xs ((i:Int) - 1)<BD xs i):next (A5 ((i:Int)+1)):=W λj d _=>by grind
   refine A0 (λU=>?_) (λU=>hstep λh=>by omega);rw[A7 (by omega) (by omega)];refine BC (by omega) (by omega) (A0 (λD=>O ⟨i,hi,λZ=>?_⟩) (λD=>hstep λ_=>by omega));omega
 . exact A0 (λh=>by omega) (λ_=>V λj d=>J j d d)
theorem AvH {xs:List Int} {n:Nat} (h:∀ i:Nat,i<n->BD xs i<BD xs ((i:Int)+1)) {i j:Nat} (d:i<=j) (D:j<=n):BD xs i<=BD xs j:=by
 induction j with
 | zero=>grind
 | succ j J=>
  grind
theorem fW {c:BF} {Q:Bool->Prop} (hl:WH c) (hQ:Q (decide (AmU c))):TO c Q:=by
 unfold TO;have hno (h:¬AmU c):Q false:=by grind
 have hyes (h:AmU c):Q true:=by grind
 unfold WH at hl;refine U2 (BZ (λh=>hno λd=>?_) (λh=>?_))
 . have:=d.r0; have:=d.r1; simp at h; omega
 have h1:0<=c.Rows∧c.Rows<=4096:=by simpa using h
 refine U2 (BZ (λh=>hno λd=>?_) (λh=>?_))
 . have:=d.c0; have:=d.c1; simp at h; omega
 have h2:0<=c.Cols∧c.Cols<=4096:=by simpa using h
 rw[A7 (by omega) (by omega)];refine BU (λh=>hno λd=>h d.sl) (λh3=>?_);refine BU (λh=>hno λd=>h (by rw[d.vl])) (λ_=>?_);refine A0 (λh=>hno λd=>by have:=d.cl; omega) (λ_=>?_);have a9:c.Start.length=c.At.length+1:=by omega
 refine oK h2.1 (by omega) (by omega) (λa5=>AH rfl ?_) (λZ=>B7 rfl (hno λd=>?_));rotate_left
 . have⟨i,hi,D⟩:=Z;exact D (d.at_ i hi)
 rw[A7 (by omega) (by omega)];refine oK (by omega) (by omega) (by omega) (λW=>AH rfl ?_) (λZ=>B7 rfl (hno λd=>?_));rotate_left
 . have⟨i,hi,D⟩:=Z;have g0:=AvH d.up (i:=0) (j:=i) (by omega) (by omega);have g1:=AvH d.up (i:=i) (j:=c.At.length) (by omega) (by omega);have e0:=d.s0; have en:=d.sn;rw[show((0:Nat):Int)=0 from rfl] at g0;refine D ⟨by omega,by omega,λ_=>?_⟩;have:=d.up (i - 1) (by omega);grind
 refine BC (by omega) (by omega) (BU (λh=>hno λd=>h d.s0) (λh6=>?_));refine BC (by omega) (by omega) (BU (λh=>hno λd=>h d.sn) (λh7=>?_))
 have a4:∀ i:Nat,i<c.At.length->BD c.Start i<BD c.Start ((i:Int)+1):=λi hi=>by have:=(W (i+1) (by omega)).2.2 (by omega);grind
 refine CM c.At.length (by omega) (λi=>∀ j:Nat,j<i->AxR c j) (by simp) (λi next hi hR a3=>?_) (λnext hR=>?_)
 . refine A0 (λ_=>?_) (λh=>by omega);have e1:A5 ((i:Int)+1)=(i:Int)+1:=A7 (by omega) (by omega);rw[e1] at a3 ⊢;have V:0<=BD c.Start i:=(W i (by omega)).1
   have a2:BD c.Start ((i:Int)+1)<=c.Row.length:=by have:=(W (i+1) (by omega)).2.1;grind
   have hm:=a4 i hi;refine BC (by omega) (by omega) (BC (by omega) (by omega) ⟨V,by omega,a2,?_⟩);have J:=AkJ V (yW hm) a2;have U:∀ j:Nat,BD c.Start i+j<BD c.Start ((i:Int)+1)->BD ((c.Row.take (BD c.Start ((i:Int)+1)).toNat).drop (BD c.Start i).toNat) j=BD c.Row (BD c.Start i+j):=λj hj=>AkI V (yW hm) a2 hj;refine oK (by omega) (by omega) (by rw[J]; omega) (λa6=>AH rfl (a3 λj hj=>?_)) (λZ=>B7 rfl (hno λd=>?_))
   . by_cases e:j=i
     . subst e;intro p a7 a8;obtain⟨q,hq⟩:∃ q:Nat,(p:Int)=BD c.Start j+q:=⟨(p - BD c.Start j).toNat,by omega⟩;have O:=a6 q (by rw[J]; omega);rw[U q (by omega),<-hq] at O;refine⟨O.1,O.2.1,λ_=>?_⟩;have:=O.2.2 (by omega);rw[show(q:Int) - 1=((q - 1:Nat):Int) by omega,U (q - 1) (by omega),show BD c.Start j+((q - 1:Nat):Int)=(p:Int) - 1 by omega] at this;exact this
     . exact hR j (by omega)
   . have⟨q,hq,D⟩:=Z;rw[J] at hq;apply D;have O:=d.row i hi (BD c.Start i+q).toNat (by omega) (by omega);have ep:(((BD c.Start i+q).toNat:Nat):Int)=BD c.Start i+q:=by omega
     rw[ep] at O;rw[U q (by omega)];refine⟨O.1,O.2.1,λ_=>?_⟩;have:=O.2.2 (by omega);rw[show(q:Int) - 1=((q - 1:Nat):Int) by omega,U (q - 1) (by omega),show BD c.Start i+((q - 1:Nat):Int)=BD c.Start i+q - 1 by omega];exact this
 . refine A0 (λh=>by omega) (λ_=>hyes ⟨h1.1,h1.2,h2.1,h2.2,h3,by omega,by omega,h6,h7,a5,a4,λi hi=>hR i (by omega)⟩)
theorem Canon.colp {rows cols:Int} {T:List A2} (h:Canon cols rows T):AmU (U1 rows cols T) where
 r0:=h.c0
 r1:=h.c1
 c0:=h.r0
 c1:=h.r1
 sl:=by simp[U1,bM]
 vl:=by simp[U1]
 cl:=by simpa[U1] using h.len
 s0:=rfl
 sn:=by
  show BD (iJ cols.toNat T) (LV cols.toNat T).length=((T.map (·.Col)).length:Int);rw[ZY]
  cases hl:(LV cols.toNat T).length with
  | zero=>
   have hn:T=[]:=by
     rcases T with _ | ⟨t,T⟩
     . rfl
     . have⟨q,hq,_⟩:=AbJ h (t:=t) (by simp);omega
   subst hn; rfl
  | succ n=>
   have hj:n<(LV cols.toNat T).length:=by omega
   rw[show((n+1:Nat):Int)=(n:Int)+1 by omega,AqB hj];unfold F8;rw[List.countP_eq_length.2];intro t ht;have⟨q,hq,e⟩:=AbJ h ht;simp only[decide_eq_true_eq];rw[<-e];have h0:=(zT hj).1;by_cases e1:q=n
   . subst e1; omega
   . have:=QT (JW cols.toNat T) (show q<n by omega) hj; omega
 at_ i hi:=by have h0:=(zT (T:=T) (n:=cols.toNat) hi).1;refine⟨h0.1,by have:=h.r0; show BD (LV cols.toNat T) i<cols; omega,λhp=>?_⟩;have:=QT (JW cols.toNat T) (show i - 1<i by omega) hi;rw[show((i - 1:Nat):Int)=(i:Int) - 1 by omega] at this;exact this
 up i hi:=by have⟨x,lo,hi',h1,h2,h3,h4,h5,s⟩:=h.colseg hi;show BD (iJ cols.toNat T) i<BD (iJ cols.toNat T) ((i:Int)+1);omega
 row i hi:=by
  have⟨x,lo,hi',h1,h2,h3,h4,h5,s⟩:=h.colseg hi;intro j hj1 hj2;have hj1:BD (iJ cols.toNat T) i<=j:=hj1;have hj2:(j:Int)<BD (iJ cols.toNat T) ((i:Int)+1):=hj2;show 0<=BD (T.map (·.Col)) j∧BD (T.map (·.Col)) j<rows∧(BD (iJ cols.toNat T) i<j->BD (T.map (·.Col)) ((j:Int) - 1)<BD (T.map (·.Col)) j);have hl:=s.len;have hjl:j<T.length:=by omega
  have hc:BD (T.map (·.Col)) j=T[j].Col:=by rw[sC (by omega) (by omega)]; rfl
  have hin:=h.inn _ (RY hjl);unfold sB at hin;refine⟨by rw[hc]; omega,by rw[hc]; omega,λhlt=>?_⟩;obtain⟨q,rfl⟩:∃ q,j=q+1:=⟨j - 1,by omega⟩;have hc2:BD (T.map (·.Col)) (((q+1:Nat):Int) - 1)=T[q].Col:=by rw[sC (by omega) (by simp; omega)]; simp
  have r1:=s.row q (by omega) (by omega) (by omega);have r2:=s.row (q+1) hjl (by omega) (by omega);have hs:=List.pairwise_iff_getElem.1 h.srt q (q+1) (by omega) hjl (by omega);unfold IY key at hs;simp only at hs;rw[hc,hc2]; omega
theorem uC:U1 0 0 []=⟨0,0,[],[0],[],[]⟩:=by simp[U1,LV,iJ]
noncomputable def ZO (c:BF):BF:=if AmU c then c else U1 0 0 []
theorem oM {rows cols:Int} {T:List A2} (h:Canon cols rows T):ZO (U1 rows cols T)=U1 rows cols T:=by unfold ZO; rw[if_pos h.colp]
theorem lN {c:BF} {Q:BF->Prop} (D:WH c) (d:Q (ZO c)):X8 c Q:=by
 unfold X8 X5;unfold ZO at d;refine fW D (A0 (λh=>?_) (λh=>?_))
 . rwa [if_pos h] at d
 . rwa [if_neg h,uC] at d
theorem Canon.smlC {rows cols:Int} {T:List A2} (h:Canon cols rows T):WH (U1 rows cols T):=by have:=h.r1; have:=h.len; have:=lM cols.toNat T;unfold WH U1;simp only[ZY,bM];omega
theorem AkP {n:Nat} {T:List A2} {t:A2} (h:∃ u∈T,u.Row=t.Row):LV n (T++[t])=LV n T:=by refine AeS (JW _ _) (JW _ _) λ_=>?_;rw[KI,KI];grind
theorem AkQ {n:Nat} {T:List A2} {t:A2} (O:0<=t.Row) (U:t.Row<n) (h:∀ u∈T,u.Row<t.Row):LV n (T++[t])=LV n T++[t.Row]:=by
 refine AeS (JW _ _) ?_ λ_=>?_
 . rw[At5];refine⟨JW _ _,by simp,λ_ J _ d=>?_⟩;simp at d; subst d;obtain⟨_,u,D,rfl⟩:=KI.1 J;exact h u D
 . rw[nT,KI,KI];grind
theorem AkR (n:Nat):LV n []=[]:=by unfold LV; rw[List.filter_eq_nil_iff.2 (by simp[Aw8])]; rfl
theorem AtP (n:Nat):iJ n []=[0]:=by unfold iJ; rw[AkR]; rfl
theorem uD {T:List A2} {x:Nat} (h:∀ u∈T,u.Row<(x:Int)):F8 T x=T.length:=by unfold F8; rw[List.countP_eq_length.2]; grind
theorem AtQ {n:Nat} {T:List A2} {t:A2} (J:0<=t.Row) (d:t.Row<n) (h:∀ u∈T,u.Row<t.Row):iJ n (T++[t])=iJ n T++[(T.length:Int)+1]:=by
 unfold iJ;rw[AkQ J d h,dA,nS];congr 2
 . refine wY λ_ O=>?_;have⟨_,u,D,_⟩:=KI.1 O;have:=h u D;rw[tT,if_neg (by omega)]; omega
 . simp only[NM,AjX];grind[uD]
theorem AkS {l:List Int} (J:l.Pairwise (· < ·)) {x:Int} (D:x∈l) (d:∀ y∈l,y<=x):BD l ((l.length:Int) - 1)=x:=by
 have⟨q,_,_⟩:=AbI D;by_cases h:q=l.length - 1
 . grind
 . have O:=QT J (show q<l.length - 1 by omega) (by omega);have U:=d _ (rY (xs:=l) (i:=((l.length - 1:Nat):Int)) (by omega) (by omega));omega
theorem AtR {n:Nat} {T:List A2} {t:A2} (h0:0<=t.Row) (h1:t.Row<n) (h:∃ u∈T,u.Row=t.Row) (hm:∀ u∈T,u.Row<=t.Row):iJ n (T++[t])=(iJ n T).set (LV n T).length ((T.length:Int)+1):=by
 have⟨u,V,Z⟩:=h;have D:t.Row∈LV n T:=KI.2 ⟨⟨h0,h1⟩,u,V,Z⟩;have J:∀ y∈LV n T,y<=t.Row:=λy hy=>by obtain⟨_,v,hv,rfl⟩:=KI.1 hy; exact hm v hv
 have d:=AkS (JW n T) D J;have a2:0<(LV n T).length:=List.length_pos_of_mem D;unfold iJ;rw[AkP ⟨u,V,Z⟩];obtain⟨m,O⟩:∃ m,(LV n T).length=m+1:=⟨(LV n T).length - 1,by omega⟩;rw[O,Ap2];congr 1;apply Ah3;intro i;by_cases hi:i<m+1
 . have U:i<(LV n T).length:=by omega
   have W:(LV n T)[i]=BD (LV n T) i:=by unfold BD; grind
   by_cases e:m=i
   . grind[uD]
   . rw[AaS e];simp only[List.getElem?_map,yQ U,Ah5,W];have h2:=QT (JW n T) (show i<m by omega) (by omega);rw[O,show((m+1:Nat):Int) - 1=(m:Int) by omega] at d;rw[d] at h2;have h3:=(zT U).1;rw[tT,if_neg (by omega)]; simp
 all_goals grind
theorem Aw9 {T:List A2} (h:Srt T) {i:Nat} (hi:i<T.length):∀ u∈T.take i,u.Row<=T[i].Row:=by intro u d;obtain⟨j,D,rfl⟩:=WA d;simp only[QY] at D;rw[Ah4];have:=List.pairwise_iff_getElem.1 h j i (by omega) hi (by omega);unfold IY key at this;simp only at this; omega
theorem oN {T:List A2} {i:Nat} (hi:i<T.length):T.take (i+1)=T.take i++[T[i]]:=cZ hi
theorem AhV {a:Rows} {rows cols:Int} {ts:List A2} {Q:BF->Prop} (hl:ZN a) (W:bJ a=BT rows cols ts) (hR:TZ a->a=BT rows cols ts) (hN:¬TZ a->rows=0∧cols=0∧ts=[]) (h:Canon rows cols ts) (hQ:Q (U1 rows cols (N7 cols ts))):rX a Q:=by
 unfold rX X5;refine lI hl (BZ (λZ=>?_) (λZ=>?_))
 . obtain⟨rfl,rfl,rfl⟩:=hN (by simpa using Z);rw[show N7 0 ([]:List A2)=[] from rfl,uC] at hQ;exact hQ
 have Z:TZ a:=by simpa using Z
 have J:=YT h;refine AeR hl W h (bK J.sml (Q4 J) J ?_);generalize N7 cols ts=T at J hQ;have c2:=J.len; have b1:=J.r0; have c0:=J.r1;have a8:=λi=>lM cols.toNat (T.take i);refine A6 (λ(s:List Int×List Int×List Int×List Int) (i:Int)=>(s.1,s.2.1,s.2.2.1,s.2.2.2,i)) 0 T.length (by omega) (λi s=>s=(LV cols.toNat (T.take i),iJ cols.toNat (T.take i),(T.take i).map (·.Col),(T.take i).map (·.Val))) (by omega) (s0:=([],[0],[],[])) (by simp[AkR,AtP]) (λi s next _ hi hm hn=>?_) (λs next hm=>?_)
 . subst hm;dsimp only;have a9:=J.inn _ (RY hi);unfold sB at a9;have a4:=Aw9 J.srt hi;refine A0 (λ_=>?_) (λh=>by omega);refine AN hi ?_;have a5:(T.take i).length=i:=by simp; omega
   have c1:=a8 i
   have a7:∀ (d D:List Int),d=LV cols.toNat (T.take (i+1))->D.set d.length ((i:Int)+1)=iJ cols.toNat (T.take (i+1))->d.length<D.length ->
       DA 8 ((T.take i).map (·.Col)) [T[i].Col] λ_=>DA 8 ((T.take i).map (·.Val)) [T[i].Val] λ_=>AU D (d.length:Int) λ_=>next (d,D.set (d.length:Int).toNat (((T.take i).map (·.Col)++[T[i].Col]).length:Int),(T.take i).map (·.Col)++[T[i].Col],(T.take i).map (·.Val)++[T[i].Val],A5 ((i:Int)+1)):=λd D V O e3=>by
     refine AK (by simp; omega) (AK (by simp; omega) (AN e3 (hn (d,D.set _ _,_,_) ?_)));have e4:(((T.take i).map (·.Col)++[T[i].Col]).length:Int)=(i:Int)+1:=by simp; omega
     rw[e4,SH,O,V,oN hi,dA,dA]; rfl
   refine BH (λs:List Int×List Int=>s.1=LV cols.toNat (T.take (i+1))∧s.2.set s.1.length ((i:Int)+1)=iJ cols.toNat (T.take (i+1))∧s.1.length<s.2.length) (λs hs=>a7 s.1 s.2 hs.1 hs.2.1 hs.2.2) (λ_ hk=>?_);by_cases hnew:∃ u∈T.take i,u.Row=T[i].Row
   . have V:=AkP (n:=cols.toNat) hnew;have O:=AtR (n:=cols.toNat) (by omega) (by omega) hnew a4;rw[<-oN hi] at V O;rw[a5] at O;have⟨u,hu,eu⟩:=hnew;have a2:T[i].Row∈LV cols.toNat (T.take i):=KI.2 ⟨⟨by omega,by omega⟩,u,hu,eu⟩;have d0:=List.length_pos_of_mem a2;have a6:=AkS (JW _ _) a2 (λ_ hy=>by obtain⟨_,v,hv,rfl⟩:=KI.1 hy; exact a4 v hv);refine BH (λb=>b=false) (λb W=>by subst W; exact AH rfl (hk _ ⟨V.symm,O.symm,by rw[bM]; exact Nat.lt_succ_self _⟩)) (λk2 U=>?_);refine AZ (λh=>by omega) (λ_=>?_);rw[A7 (by omega) (by omega)];refine BC (by omega) (by omega) (U _ ?_);rw[a6]; simp
   . have a3:∀ u∈T.take i,u.Row<T[i].Row:=λu hu=>by grind
     have V:=AkQ (n:=cols.toNat) (by omega) (by omega) a3;have O:=AtQ (n:=cols.toNat) (by omega) (by omega) a3;rw[<-oN hi] at V O;rw[a5] at O;refine BH (λb=>b=true) (λb W=>?_) (λk2 U=>?_)
     . subst W;refine B7 rfl (AK (by simp; omega) (AK (by simp[bM]; omega) (hk _ ⟨V.symm,?_,?_⟩)))
       . rw[O,kC,At4,<-bM,List.set_append_right _ _ (Y3 _)]; simp
       . simp[bM]
     . refine AZ (λ_=>U _ rfl) (λ_=>?_);rw[A7 (by omega) (by omega)];refine BC (by omega) (by omega) (U _ ?_)
       have b0:BD (LV cols.toNat (T.take i)) (((LV cols.toNat (T.take i)).length:Int) - 1)≠T[i].Row:=λ_=>by have⟨_,u,hu,_⟩:=KI.1 (rY (xs:=LV cols.toNat (T.take i)) (i:=((LV cols.toNat (T.take i)).length:Int) - 1) (by omega) (by omega));grind
       simpa using b0
 . subst hm;dsimp only;refine A0 (λh=>by omega) (λ_=>?_);rw[nM,hR Z];exact hQ
theorem AeT {c:BF} {k:Int} {Q:Int->Prop} (U:c.At.Pairwise (· < ·)) (hl:c.At.length<=1000000000) (h1:∀ j:Nat,j<c.At.length->BD c.At j=k->Q j) (h2:(∀ j:Nat,j<c.At.length->BD c.At j≠k)->Q (-1)):TP c k Q:=by
 unfold TP;refine BH (λs:Int×Int=>(s.1<s.2∧∃ j:Nat,s.1=j∧j<c.At.length∧BD c.At j=k)∨(¬s.1<s.2∧∀ j:Nat,j<c.At.length->BD c.At j≠k)) (λs U=>?_) (λ_ J=>?_)
 . have⟨_,_⟩:=s;dsimp only;rcases U with⟨d,j,rfl,O,e⟩ | ⟨D,W⟩
   . exact A0 (λ_=>h1 j O e) (λh=>absurd d h)
   . exact A0 (λh=>absurd h D) (λ_=>h2 W)
 refine CN (λs:Int×Int=>∃ lo hi:Nat,s=((lo:Int),(hi:Int))∧lo<=hi∧hi<=c.At.length∧(∀ j:Nat,j<lo->BD c.At j<k)∧∀ j:Nat,hi<=j->j<c.At.length->k<BD c.At j) (λs=>(s.2 - s.1).toNat) ⟨0,c.At.length,rfl,by omega,by omega,by omega,by omega⟩ ?_;rintro _ next ⟨lo,hi,rfl,_,V,hL,hH⟩ hn;dsimp only;refine A0 (λh=>?_) (λh=>J _ (.inr ⟨h,λj O e=>?_⟩))
 . obtain⟨m,hm⟩:∃ m:Nat,m=lo+(hi - lo) / 2:=⟨_,rfl⟩
   have em:A5 ((lo:Int)+(A5 ((A5 ((hi:Int) - lo)).tdiv 2)))=(m:Int):=by rw[A7 (x:=(hi:Int) - lo) (by omega) (by omega),Am9 (by omega),A7 (x:=((hi:Int) - lo) / 2) (by omega) (by omega),A7 (by omega) (by omega)];omega
   rw[em];have e2:A5 ((m:Int)+1)=((m+1:Nat):Int):=by rw[A7 (by omega) (by omega)]; omega
   rw[e2];refine BC (by omega) (by omega) (AZ (λe=>J _ (.inl ⟨by dsimp only; omega,m,rfl,by omega,e⟩)) (λe=>?_));refine BC (by omega) (by omega) (A0 (λd=>hn _ ⟨m+1,hi,rfl,by omega,V,λj O=>?_,hH⟩ (by simp only; omega)) (λD=>hn _ ⟨lo,m,rfl,by omega,by omega,hL,λj O Z=>?_⟩ (by simp only; omega)))
   . by_cases e':j=m
     . subst e'; exact d
     . have:=QT U (show j<m by omega) (by omega); omega
   . by_cases e':j=m
     . subst e'; omega
     . have:=QT U (show m<j by omega) Z; omega
 all_goals grind
def LM (T:List A2) (k:Int):List B9:=(T.filter λt=>decide (t.Row=k)).map sD
theorem AeU (T:List A2) (k:Nat):LM T k=(Q3 T k).map sD:=rfl
theorem zU {T:List A2} {n:Nat} {k:Int} (h:∀ t∈T,0<=t.Row∧t.Row<n) (hk:∀ j:Nat,j<(LV n T).length->BD (LV n T) j≠k):LM T k=[]:=by
 unfold LM
 rw[List.filter_eq_nil_iff.2]; · rfl
 intro t d
 simp only[decide_eq_true_eq]
 intro e
 have:=h t d
 have⟨j,_,_⟩:=AbI (l:=LV n T) (x:=k) (KI.2 ⟨⟨by omega,by omega⟩,t,d,e⟩)
 grind
theorem Canon.rowIn {rows cols:Int} {T:List A2} (h:Canon cols rows T):∀ t∈T,0<=t.Row∧t.Row<(cols.toNat:Int):=λt d=>by have:=h.inn t d; unfold sB at this; omega
theorem AhW {rows cols:Int} {T:List A2} (h:Canon cols rows T) {j:Nat} (hj:j<(LV cols.toNat T).length) {Q:List B9->Prop} (Z:Q (LM T (BD (LV cols.toNat T) j))):ER (U1 rows cols T) j Q:=by
 unfold ER DT PO;have⟨x,lo,hi,h1,_,h3,W,_,s⟩:=h.colseg hj;have hs:=bM cols.toNat T;have a2:=h.len; have a4:=s.len; have hc:=h.r1; have a3:=lM cols.toNat T;have V:A5 ((j:Int)+1)=(j:Int)+1:=A7 (by omega) (by omega);have U:(U1 rows cols T).Start=iJ cols.toNat T:=rfl;rw[h1,AeU,<-s.eq] at Z;rw[U,V];refine BC (by omega) (by omega) ?_;rw[h3];refine A6 (λ(D:List B9) (i:Int)=>(D,i,0)) lo hi (by omega) (λp D=>D=((T.take p).drop lo).map sD) (by omega) (s0:=[]) (by simp) (λp D next O _ J hn=>?_) (λD next J=>?_)
 . subst J;dsimp only;refine BC (by omega) (by omega) ?_;rw[W];have d:p<T.length:=by omega
   refine A0 (λ_=>?_) (λh=>by omega);refine A9 (by omega) (x:=T[p].Col) (by simp[U1,d]) (A9 (by omega) (x:=T[p].Val) (by simp[U1,d]) ⟨rfl,AK (by simp; omega) (AH rfl (hn _ ?_))⟩);rw[AeQ O d,dA]; rfl
 . subst J;dsimp only;refine BC (by omega) (by omega) ?_;rw[W];exact A0 (λh=>by omega) (λ_=>⟨rfl,Z⟩)
theorem uE {c:BF} {rows cols k:Int} {T:List A2} {Q:List B9->Prop} (U:WH c) (J:ZO c=U1 rows cols T) (h:Canon cols rows T) (D:Q (LM T k)):VL c k Q:=by
 unfold VL;refine lN U ?_;rw[J];have V:=lM cols.toNat T; have W:=h.r1;refine AeT (JW _ _) (show(LV cols.toNat T).length<=1000000000 by omega) (λj (O:j<(LV cols.toNat T).length) (e:BD (LV cols.toNat T) j=k)=>?_) (λ(d:∀ j:Nat,j<(LV cols.toNat T).length->BD (LV cols.toNat T) j≠k)=>?_)
 . refine A0 (λh=>by omega) (λ_=>?_);unfold TV;exact AhW h O (by rw[e]; exact D)
 . refine B7 rfl ?_
   rwa [zU h.rowIn d] at D
def S9 (T:List A2) (d:List Int):Int:=(d.map λk=>((LM T k).length:Int)).sum
theorem uF (T:List A2) (l:List Int) (k:Int):S9 T (l++[k])=S9 T l+(LM T k).length:=by simp[S9]
theorem bN (T:List A2) (k:Int):(LM T k).length<=T.length:=by grind[LM]
theorem AeV (T:List A2):∀ l:List Int,0<=S9 T l∧S9 T l<=l.length*T.length
 | []=>by simp[S9]
 | k :: l=>by
  have:=AeV T l;have d:=bN T k;have e:S9 T (k :: l)=(LM T k).length+S9 T l:=by simp[S9]
  rw[e,nR];grind
theorem AbK {c:BF} {rows cols:Int} {T:List A2} {d:List Int} {Q:Int->Prop} (hl:WH c) (a4:d.length<=1000000) (hc:ZO c=U1 rows cols T) (h:Canon cols rows T) (hQ:Q (S9 T d)):dM c d Q:=by
 unfold dM;refine lN hl ?_;rw[hc];have a3:=lM cols.toNat T; have hr:=h.r1; have a2:=h.len; have hs:=bM cols.toNat T;refine A6 (λ(s:Int) i=>(s,i)) 0 d.length (by omega) (λi s=>s=S9 T (d.take i)) (by omega) (by simp[S9]) (λi s next _ hi D U=>?_) (λs next D=>?_)
 . subst D;dsimp only;refine A0 (λ_=>?_) (λh=>by omega);refine AN hi ?_;have hb:=AeV T (d.take i)
   have a5:((d.take i).length:Int)*(T.length:Int)<=1000000*65536:=by exact AjS (by simp; omega) (by omega) (by omega) (by omega)
   have hstep (v:Int) (hv:v=(LM T d[i]).length):next (A5 (S9 T (d.take i)+A5 v),A5 ((i:Int)+1)):=by have a6:=bN T d[i];rw[A7 (x:=v) (by omega) (by omega),A7 (by omega) (by omega)];refine U _ ?_;rw[cZ hi,uF,hv]
   have hzero (hz:LM T d[i]=[]):next (S9 T (d.take i),A5 ((i:Int)+1)):=by refine U _ ?_;rw[cZ hi,uF,hz]; simp
   refine AeT (JW _ _) (show(LV cols.toNat T).length<=1000000000 by omega) (λj (hj:j<(LV cols.toNat T).length) (e:BD (LV cols.toNat T) j=d[i])=>?_) (λ(J:∀ j:Nat,j<(LV cols.toNat T).length->BD (LV cols.toNat T) j≠d[i])=>?_)
   . have⟨x,_,_,W,_,V,Z,_,s⟩:=h.colseg hj;refine A0 (λ_=>?_) (λh=>by omega);have O:(U1 rows cols T).Start=iJ cols.toNat T:=rfl;rw[O,A7 (x:=(j:Int)+1) (by omega) (by omega)];refine BC (by omega) (by omega) (BC (by omega) (by omega) (hstep _ ?_));rw[V,Z,<-e,W,AeU,<-s.eq];have:=s.len;simp; omega
   . exact A0 (λh=>by omega) (λ_=>hzero (zU h.rowIn J))
 . subst D;dsimp only;refine A0 (λh=>by omega) (λ_=>?_);grind
theorem AhX {cols:Int} {T:List A2} {rows:Int} (h:Canon rows cols T) (d:∀ t∈T,DH t.Val):∀ t∈N7 cols T,DH t.Val:=λt D=>d (iI t) ((XH h t).1 D)
def D1:List A2:=[⟨700,1,4⟩]
def xH (h:AX):GN:=((h.l.head?.map (·.At)).getD 0,h.which)
def gH (H:List AX) (i:Nat):AX:=H.getD i default
theorem OB {H:List AX} {i:Nat} (h:i<H.length):H[i]? = some (gH H i):=by simp[gH,eX,h]
theorem AhY {H:List AX} {i:Nat} (h:i<H.length):gH H i∈H:=At6 (OB h)
def IF (H:List AX) (i:Nat):GN:=xH (gH H i)
def full (H:List AX):Prop:=∀ h∈H,h.l≠[]
theorem XI {H d:List AX} (h:full H) (hp:d.Perm H):full d:=λx D=>h x (hp.mem_iff.1 D)
theorem uG {H:List AX} {i k:Nat} {Q:Bool->Prop} (J:full H) (hi:i<H.length) (hk:k<H.length) (O:Q (decide (IY (IF H i) (IF H k)))):F5 H i k Q:=by
 unfold F5;obtain⟨s,t,h⟩:∃ s t,(gH H i).l=s :: t:=AsW (J _ (AhY hi));obtain⟨d,W,D⟩:∃ s t,(gH H k).l=s :: t:=AsW (J _ (AhY hk));have V:IF H i=(s.At,(gH H i).which):=by simp[IF,xH,h]
 have U:IF H k=(d.At,(gH H k).which):=by simp[IF,xH,D]
 refine A9 (x:=gH H i) (by omega) (OB hi) (A9 (by omega) (x:=s) (by rw[h]; rfl) (A9 (x:=gH H k) (by omega) (OB hk) (A9 (by omega) (x:=d) (by rw[D]; rfl) (A9 (x:=gH H i) (by omega) (OB hi) (A9 (x:=gH H k) (by omega) (OB hk) ?_)))));refine G8 (G8 (zI ?_));rw[V,U] at O
 have:(or2 (PY s.At d.At) (PY (gH H i).which (gH H k).which)<0)↔IY (s.At,(gH H i).which) (d.At,(gH H k).which):=by unfold or2 PY IY; simp only; split <;> split <;> (try split) <;> (try split) <;> omega
 simpa only[this] using O
def swp (H:List AX) (i k:Nat):List AX:=(H.set i (gH H k)).set k (gH H i)
theorem eK (H:List AX) (i k:Nat):(swp H i k).length=H.length:=by simp[swp]
theorem AbL {H:List AX} {i k:Nat} (hi:i<H.length) (hk:k<H.length) (j:Nat):gH (swp H i k) j=if j=k then gH H i else if j=i then gH H k else gH H j:=by
 unfold swp gH;simp only[eX];by_cases e1:j=k
 . subst e1; rw[if_pos rfl,AmB (by simpa using hk)]; simp
 . rw[if_neg e1,AaS (Ne.symm e1)];by_cases e2:j=i
   . subst e2; rw[if_pos rfl,AmB hi]; simp
   . rw[if_neg e2,AaS (Ne.symm e2)]
theorem QU {H:List AX} {i k:Nat} (hi:i<H.length) (hk:k<H.length) (j:Nat):IF (swp H i k) j=if j=k then IF H i else if j=i then IF H k else IF H j:=by
 unfold IF; rw[AbL hi hk]; split
 . rfl
 . split <;> rfl
theorem uH {α:Type}:∀ (l:List α) (i:Nat) (h:i<l.length) (y:α),(l[i] :: l.set i y).Perm (y :: l)
 | a :: l,0,_,y=>by simpa using List.Perm.swap y a l
 | a :: l,i+1,h,y=>by have:=uH l i (by simpa using h) y;simp only[List.getElem_cons_succ,Ap2];exact(List.Perm.swap _ _ _).trans ((this.cons a).trans (List.Perm.swap _ _ _))
theorem uI {H:List AX} {i k:Nat} (hi:i<H.length) (hk:k<H.length):(swp H i k).Perm H:=by
 have O:H[i]=gH H i:=by have:=OB hi; rw[yQ hi] at this; exact QZ this
 have J:H[k]=gH H k:=by have:=OB hk; rw[yQ hk] at this; exact QZ this
 have d:=uH H i hi (gH H k);have h:=uH (H.set i (gH H k)) k (by simpa using hk) (gH H i)
 have D:(H.set i (gH H k))[k]'(by simpa using hk)=gH H k:=by
  rw[List.getElem_set]; split
  . rfl
  . exact J
 rw[D] at h; rw[O] at d;exact List.Perm.cons_inv (h.trans d)
theorem AbM {H:List AX} {i k:Nat} {Q:List AX->Prop} (hi:i<H.length) (hk:k<H.length) (d:Q (swp H i k)):F6 H i k Q:=by unfold F6;refine A9 (x:=gH H k) (by omega) (OB hk) (A9 (x:=gH H i) (by omega) (OB hi) (A9 (x:=gH H i) (by omega) (OB hi) ?_));refine A9 (x:=(H.set i (gH H k))[k]'(by simpa using hk)) (by omega) (by simp only[SH]; exact yQ (by simpa using hk)) ?_;simp only[SH];exact d
def oO (H:List AX) (n:Nat):Prop:=∀ j,0<j->j<n->¬IY (IF H j) (IF H ((j - 1) / 2))
theorem AmV {H:List AX} {n:Nat} (h:oO H n):∀ j,j<n->¬IY (IF H j) (IF H 0):=by
 intro j
 induction j using Nat.strongRecOn with
 | _ j D=>
  intro d;rcases aL j with e | hp
  . subst e; exact EZ _
  . have J:=h j hp d;have O:=D ((j - 1) / 2) (by omega) (by omega);unfold IY at *; omega
theorem AxS {o:AJ} {j:Nat} {Q:AJ->Prop} (hl:o.heads.length<=1000000000000) (hf:full o.heads) (h:j<o.heads.length)
   (h1:∀ c,0<c->c<o.heads.length->c≠j->¬IY (IF o.heads c) (IF o.heads ((c - 1) / 2))) (h2:∀ c,0<c->c<o.heads.length->(c - 1) / 2=j->0<j->¬IY (IF o.heads c) (IF o.heads ((j - 1) / 2)))
   (Z:∀ H,H.Perm o.heads->oO H H.length->Q ⟨H,o.r,o.out⟩):FC o j Q:=by
 unfold FC
 refine CN (λs:List AX×Int=>∃ j:Nat,s.2=j∧s.1.Perm o.heads∧j<s.1.length∧(∀ c,0<c->c<s.1.length->c≠j->¬IY (IF s.1 c) (IF s.1 ((c - 1) / 2)))∧(∀ c,0<c->c<s.1.length->(c - 1) / 2=j->0<j->¬IY (IF s.1 c) (IF s.1 ((j - 1) / 2)))) (λs=>s.2.toNat)
   ⟨j,rfl,.refl _,h,h1,h2⟩ ?_
 rintro⟨H,_⟩ next ⟨j,e,hp,h,O,W⟩ hn;simp only at e hp h O W ⊢;subst e;have a5:=hp.length_eq
 have ei:A5 ((A5 ((j:Int) - 1)).tdiv 2)=((if j=0 then 0 else (j - 1) / 2:Nat):Int):=by
   rw[A7 (x:=(j:Int) - 1) (by omega) (by omega)];split
   . rename_i e; subst e; decide
   . rw[Am9 (by omega),A7 (by omega) (by omega)]; omega
 rw[ei];refine AZ (λe=>?_) (λe=>?_)
 . refine Z H hp λc J d=>O c J d ?_;split at e <;> omega
 . have V:0<j:=by
     rcases aL j with z | z
     . subst z; simp at e
     . exact z
   simp only[show j≠0 by omega,if_false];have a2:=XI hf hp;refine uG a2 h (by omega) (BZ (λD=>?_) (λD=>?_))
   . refine Z H hp λc J d=>?_;by_cases ec:c=j
     . subst ec; exact of_decide_eq_false D
     . exact O c J d ec
   . have D:=of_decide_eq_true D;refine AbM (by omega) h (hn _ ⟨(j - 1) / 2,rfl,(uI (by omega) h).trans hp,by rw[eK]; omega,?_,?_⟩ (by simp only[SH]; omega))
     . intro c J d a4;rw[eK] at d;rw[QU (by omega) h,QU (by omega) h];by_cases e1:c=j
       . subst e1;rw[if_pos rfl,if_neg (by omega),if_pos rfl];unfold IY at *; omega
       . rw[if_neg e1,if_neg a4];by_cases e2:(c - 1) / 2=j
         . rw[if_pos e2];exact W c J d e2 V
         . rw[if_neg e2];by_cases e3:(c - 1) / 2=(j - 1) / 2
           . rw[if_pos e3];have:=O c J d e1;rw[e3] at this;unfold IY at *; omega
           . rw[if_neg e3]; exact O c J d e1
     . intro c J d he a3;rw[eK] at d;rw[QU (by omega) h,QU (by omega) h];have U:=O ((j - 1) / 2) a3 (by omega) (by omega);rw[if_neg (show((j - 1) / 2 - 1) / 2≠j by omega),if_neg (show((j - 1) / 2 - 1) / 2≠(j - 1) / 2 by omega)];by_cases e1:c=j
       . subst e1; rw[if_pos rfl]; exact U
       . rw[if_neg e1,if_neg (by omega)];have:=O c J d e1;rw[he] at this;unfold IY at *; omega
theorem AqC {o:AJ} {l:List BM} {w:Int} {Q:AJ->Prop} (hl:o.heads.length<=1000000000) (hf:full o.heads) (Z:oO o.heads o.heads.length)
   (W:∀ H,H.Perm (if l=[] then o.heads else ⟨l,w⟩ :: o.heads)->oO H H.length->Q ⟨H,o.r,o.out⟩):GD o l w Q:=by
 unfold GD IA M0 GX;refine A0 (λh=>?_) (λh=>?_)
 . have O:l≠[]:=by intro e; subst e; simp at h
   rw[if_neg O] at W;refine AK (by simp; omega) ?_;show FC ⟨o.heads++[⟨l,w⟩],o.r,o.out⟩ (A5 (((o.heads++[(⟨l,w⟩:AX)]).length:Int) - 1)) _;have d:(o.heads++[(⟨l,w⟩:AX)]).length=o.heads.length+1:=by simp
   have el:A5 (((o.heads++[(⟨l,w⟩:AX)]).length:Int) - 1)=(o.heads.length:Int):=by rw[d,A7 (x:=((o.heads.length+1:Nat):Int) - 1) (by omega) (by omega)]; omega
   rw[el]
   have hk:∀ c,c<o.heads.length->IF (o.heads++[(⟨l,w⟩:AX)]) c=IF o.heads c:=by intro c V; simp[IF,gH,eX,kA V]
   refine AxS (o:=⟨o.heads++[⟨l,w⟩],o.r,o.out⟩) (j:=o.heads.length) (by simp only[d]; omega) ?_ (by simp only[d]; omega) ?_ ?_ ?_
   . intro x hx;rcases List.mem_append.1 hx with U | U
     . exact hf x U
     . simp only[kB] at U; subst U; exact O
   . intro c V D J;simp only[d] at D J ⊢;rw[hk c (by omega),hk _ (by omega)];exact Z c V (by omega)
   . intro c V D he hp;simp only[d] at D;omega
   . intro H hp hH;exact W H (hp.trans AmC) hH
 . have:l=[]:=by
     cases l with
     | nil=>rfl
     | cons a b=>simp at h
   subst this;rw[if_pos rfl] at W;exact W o.heads (.refl _) Z
theorem AtS {o:AJ} {n:Nat} {Q:Bool×AJ->Prop} (hl:o.heads.length<=1000000000000) (hf:full o.heads) (hn:n<=o.heads.length)
   (h1:∀ c,0<c->c<n->(c - 1) / 2≠0->¬IY (IF o.heads c) (IF o.heads ((c - 1) / 2)))
   (hQ:∀ b H,H.Perm o.heads->oO H n->(∀ j,n<=j->gH H j=gH o.heads j)->Q (b,⟨H,o.r,o.out⟩)):G0 o 0 n Q:=by
 unfold G0
 refine CN (λs:List AX×Int=>∃ j:Nat,s.2=j∧s.1.Perm o.heads∧(∀ j,n<=j->gH s.1 j=gH o.heads j)∧(j<n∨j=0)∧(∀ c,0<c->c<n->(c - 1) / 2≠j->¬IY (IF s.1 c) (IF s.1 ((c - 1) / 2)))∧(∀ c,0<c->c<n->(c - 1) / 2=j->0<j->¬IY (IF s.1 c) (IF s.1 ((j - 1) / 2)))) (λs=>n - s.2.toNat)
   ⟨0,rfl,.refl _,λ_ _=>rfl,.inr rfl,h1,λc _ _ _ h=>absurd h (by omega)⟩ ?_
 rintro⟨H,_⟩ next ⟨i,e,hp,W,hi,Z,g2⟩ hn';simp only at e hp hi W Z g2 ⊢;subst e;have a7:=hp.length_eq;have e1:A5 (A5 (2*(i:Int))+1)=((2*i+1:Nat):Int):=by rw[A7 (x:=2*(i:Int)) (by omega) (by omega),A7 (by omega) (by omega)]; omega
 have e2:A5 (((2*i+1:Nat):Int)+1)=((2*i+2:Nat):Int):=by rw[A7 (by omega) (by omega)]; omega
 simp only[e1,e2];refine A0 (λh=>?_) (λh=>A0 (λ_=>by omega) (λ_=>?_))
 . exact hQ _ H hp (λc J d=>Z c J d (by omega)) W
 . have a4:=XI hf hp;refine BH (λt:Int=>∃ j:Nat,t=j∧j<n∧(j - 1) / 2=i∧0<j∧∀ c,0<c->c<n->(c - 1) / 2=i->¬IY (IF H c) (IF H j)) ?_ ?_
   . rintro t ⟨j,rfl,a5,U,a6,a2⟩;refine uG a4 (by omega) (by omega) (BZ (λD=>?_) (λD=>?_))
     . refine hQ _ H hp (λc J d=>?_) W;by_cases ec:(c - 1) / 2=i
       . have q1:=a2 c J d ec;have q2:=of_decide_eq_false D;rw[ec];unfold IY at *; omega
       . exact Z c J d ec
     . have D:=of_decide_eq_true D;refine AbM (by omega) (by omega) (hn' _ ⟨j,rfl,(uI (by omega) (by omega)).trans hp,?_,.inl a5,?_,?_⟩ (by simp only[SH]; omega))
       . intro q hq;rw[AbL (by omega) (by omega),if_neg (by omega),if_neg (by omega)];exact W q hq
       . intro c J d a3;rw[QU (by omega) (by omega),QU (by omega) (by omega)];by_cases ec:c=j
         . subst ec;rw[if_pos rfl,if_neg (by omega),if_pos U];unfold IY at *; omega
         . rw[if_neg ec];by_cases ei:c=i
           . subst ei;rw[if_pos rfl,if_neg a3,if_neg (by omega)];exact g2 j a6 a5 U J
           . rw[if_neg ei,if_neg a3];by_cases ep:(c - 1) / 2=i
             . rw[if_pos ep]; exact a2 c J d ep
             . rw[if_neg ep]; exact Z c J d ep
       . intro c J d O _;rw[QU (by omega) (by omega),QU (by omega) (by omega),if_neg (by omega),if_neg (by omega),if_neg (by omega),if_pos U];have:=Z c J d (by omega)
         rwa [O] at this
   . intro k' V;refine A0 (λh2=>uG a4 (by omega) (by omega) ⟨λD=>?_,λD=>?_⟩) (λh2=>?_)
     . refine V _ ⟨2*i+2,rfl,by omega,by omega,by omega,λc J d O=>?_⟩;have D:=of_decide_eq_true D;rcases(show c=2*i+1∨c=2*i+2 by omega) with e | e
       . subst e; unfold IY at *; omega
       . subst e; exact EZ _
     . refine V _ ⟨2*i+1,rfl,by omega,by omega,by omega,λc J d O=>?_⟩;have D:=of_decide_eq_false D;rcases(show c=2*i+1∨c=2*i+2 by omega) with e | e
       . subst e; exact EZ _
       . subst e; exact D
     . refine V _ ⟨2*i+1,rfl,by omega,by omega,by omega,λc J d O=>?_⟩;rcases(show c=2*i+1∨c=2*i+2 by omega) with e | e
       . subst e; exact EZ _
       . omega
theorem AwA {o:AJ} {Q:AX×AJ->Prop} (hl:o.heads.length<=1000000000) (hf:full o.heads) (hh:oO o.heads o.heads.length) (h0:o.heads≠[])
   (hQ:∀ x H,(gH o.heads 0 :: H).Perm o.heads->oO H H.length->Q (x,⟨H,o.r,o.out⟩)):GK o Q:=by
 unfold GK GX;have d:0<o.heads.length:=List.length_pos_iff.2 h0;have e:A5 ((o.heads.length:Int) - 1)=((o.heads.length - 1:Nat):Int):=by rw[A7 (by omega) (by omega)]; omega
 simp only[e];have a3:0<o.heads.length:=d;refine AbM (i:=0) d (by omega) ?_;have D:=uI (H:=o.heads) (i:=0) (k:=o.heads.length - 1) d (by omega);refine AtS (o:=⟨swp o.heads 0 (o.heads.length - 1),o.r,o.out⟩) (n:=o.heads.length - 1) (by simp only[eK]; omega) (XI hf D) (by simp only[eK]; omega) ?_ ?_
 . intro c O a2 V;simp only;rw[QU d (by omega),QU d (by omega),if_neg (by omega),if_neg (by omega),if_neg (by omega),if_neg V];exact hh c O (by omega)
 . intro b H hp hH W;simp only at hp W;have U:H.length=o.heads.length:=hp.length_eq.trans (eK _ _ _);unfold MR;have Z:A5 ((H.length:Int) - 1)=((o.heads.length - 1:Nat):Int):=by rw[U]; exact e
   simp only[Z];refine A9 (by omega) (OB (by simp only[SH]; omega)) ⟨by omega,by omega,by omega,?_⟩;simp only[SH];refine hQ _ _ ?_ ?_
   . have h:=W (o.heads.length - 1) (by omega);rw[AbL d (by omega),if_pos rfl] at h;rw[<-h]
     have h3:H=H.take (o.heads.length - 1)++[gH H (o.heads.length - 1)]:=by
      have h4:H[o.heads.length - 1]'(by omega)=gH H (o.heads.length - 1):=by have:=OB (H:=H) (i:=o.heads.length - 1) (by omega); rw[yQ (by omega)] at this; exact QZ this
      rw[<-h4,List.take_append_getElem (by omega),AoY (by omega)]
     exact(AmC (l₁:=[gH H (o.heads.length - 1)])).trans ((h3▸.refl _:(H.take (o.heads.length - 1)++[gH H (o.heads.length - 1)]).Perm H).trans (hp.trans D))
   . intro j hj J;rw[QY] at J
     have hk:∀ c,c<o.heads.length - 1->IF (H.take (o.heads.length - 1)) c=IF H c:=by intro c O; simp[IF,gH,eX,wZ,O]
     rw[hk j (by omega),hk _ (by omega)];exact hH j hj (by omega)
def kvM (s:BM):Int×AP:=(s.At,s.Val)
def lk (l:List BM) (i:Int):Option AP:=BA i (l.map kvM)
def Rise (l:List BM):Prop:=l.Pairwise λa b=>a.At<b.At
instance (l:List BM):Decidable (Rise l):=by unfold Rise; infer_instance
def wV (l:List BM):Prop:=∀ s∈l,OZ s.Val
theorem uJ (i:Int):lk [] i=none:=rfl
theorem EA (s:BM) (l:List BM) (i:Int):lk (s :: l) i=if i=s.At then some s.Val else lk l i:=rfl
theorem VP:∀ {l:List BM} {i:Int},(∀ s∈l,s.At≠i)->lk l i=none
 | [],_,_=>rfl
 | s :: l,i,h=>by rw[EA,if_neg (λe=>h s (by simp) e.symm)]; exact VP λx d=>h x (by simp[d])
theorem oP:∀ {l:List BM} {i:Int} {v:AP},lk l i=some v->⟨i,v⟩∈l
 | s :: l,i,v,h=>by
  rw[EA] at h;split at h
  . rename_i e; cases h; subst e; simp
  . exact jY _ (oP h)
theorem uK:∀ {l:List BM} (h:Rise l) {s:BM},s∈l->lk l s.At=some s.Val
 | x :: l,h,s,hs=>by
  unfold Rise at h;rw[AdQ] at h;rw[EA];rcases List.mem_cons.1 hs with e | hs
  . subst e; rw[if_pos rfl]
  . have:=h.1 s hs;rw[if_neg (by omega)]; exact uK h.2 hs
theorem XJ:∀ (l:List BM) (m:List BM) (i:Int),lk (l++m) i=match lk l i with | some v=>some v | none=>lk m i
 | [],m,i=>rfl
 | s :: l,m,i=>by
  rw[nS,EA,EA];split
  . rfl
  . exact XJ l m i
theorem AeW {l m:List BM} (h:Rise l) (D:Rise m) (O:∀ i,lk l i=lk m i):l=m:=by
 have J:∀ {l:List BM},Rise l->l.Nodup:=λh=>h.imp λ_ e=>by subst e; omega
 have hp:l.Perm m:=(AdN (J h) (J D)).2 λ_=>⟨λd=>by
  have:=uK h d; rw[O] at this; exact oP this,λd=>by
  have:=uK D d; rw[<-O] at this; exact oP this⟩
 exact eG hp h D λ_ _ _ _ _ _=>by omega
theorem AeX {l:List BM} (h:∀ (i:Nat) (hi:i+1<l.length),l[i].At<l[i+1].At):Rise l:=by
 unfold Rise;rw[AmA];intro i j hi J D;obtain⟨d,rfl⟩:∃ d,j=i+1+d:=⟨j - i - 1,by omega⟩
 induction d with
 | zero=>grind
 | succ d O=>grind
theorem Rise.adj {l:List BM} (h:Rise l) {i j:Nat} (D:j<l.length) (d:i<j):(l[i]'(by omega)).At<l[j].At:=by unfold Rise at h; rw[AmA] at h; grind
def nP (r:Int):Option AP->Option AP->Option AP
 | none,y=>y
 | some a,none=>some a
 | some a,some b=>some (FE r a b)
theorem U3 (r:Int) (a:Option AP):nP r a none=a:=by cases a <;> rfl
def LW (r:Int) (a b:List BM):List BM:=
 match a,b with
 | [],b=>b
 | x :: a,[]=>x :: a
 | x :: a,y :: b=>if x.At<y.At then x :: LW r a (y :: b) else if y.At<x.At then y :: LW r (x :: a) b else ⟨x.At,FE r x.Val y.Val⟩ :: LW r a b
termination_by a.length+b.length
theorem AqD (r:Int) (a:List BM):LW r a []=a:=by cases a <;> simp[LW]
theorem YU (r:Int):∀ (a b:List BM) (s:BM),s∈LW r a b->(∃ x∈a,x.At=s.At)∨∃ x∈b,x.At=s.At
 | [],b,s,h=>.inr ⟨s,by simpa[LW] using h,rfl⟩
 | x :: a,[],s,h=>.inl ⟨s,by simpa[LW] using h,rfl⟩
 | x :: a,y :: b,s,h=>by
  rw[LW] at h;split at h
  . rcases List.mem_cons.1 h with e | h
    . exact .inl ⟨x,by simp,by rw[e]⟩
    . rcases YU r a (y :: b) s h with⟨z,hz,e⟩ | ⟨z,hz,e⟩
      . exact .inl ⟨z,by simp[hz],e⟩
      . exact .inr ⟨z,hz,e⟩
  . split at h
    . rcases List.mem_cons.1 h with e | h
      . exact .inr ⟨y,by simp,by rw[e]⟩
      . rcases YU r (x :: a) b s h with⟨z,hz,e⟩ | ⟨z,hz,e⟩
        . exact .inl ⟨z,hz,e⟩
        . exact .inr ⟨z,by simp[hz],e⟩
    . rcases List.mem_cons.1 h with e | h
      . exact .inl ⟨x,by simp,by rw[e]⟩
      . rcases YU r a b s h with⟨z,hz,e⟩ | ⟨z,hz,e⟩
        . exact .inl ⟨z,by simp[hz],e⟩
        . exact .inr ⟨z,by simp[hz],e⟩
termination_by a b=>a.length+b.length
theorem XK (r:Int):∀ (a b:List BM),Rise a->Rise b->Rise (LW r a b)∧(LW r a b).length<=a.length+b.length∧(wV a->wV b->wV (LW r a b))∧∀ i,lk (LW r a b) i=nP r (lk a i) (lk b i)
  | [],b,_,hb=>by simp only[LW]; exact⟨hb,by simp,λ_ h=>h,λi=>rfl⟩
  | x :: a,[],ha,_=>by rw[AqD]; exact⟨ha,by simp,λh _=>h,λi=>by rw[uJ,U3]⟩
  | x :: a,y :: b,ha,hb=>by
    have ha':=ha; have Z:=hb;unfold Rise at ha' Z;rw[AdQ] at ha' Z;rw[LW];split
    . rename_i a3;have⟨O,U,V,W⟩:=XK r a (y :: b) ha'.2 hb;refine⟨List.pairwise_cons.2 ⟨λs d=>?_,O⟩,by simp at U ⊢; omega,λD J s d=>?_,λi=>?_⟩
      . grind[YU]
      . rcases List.mem_cons.1 d with e | d
        . subst e; exact D _ (by simp)
        . exact V (λs d=>D s (by simp[d])) J s d
      . rw[EA,EA x a];split
        . rename_i e; subst e
          rw[VP (l := y :: b) (λs d => by
            rcases List.mem_cons.1 d with e | d
            . subst e; omega
            . have:=Z.1 s d; omega)]
          rfl
        . exact W i
    . rename_i a3;split
      . rename_i a4;have⟨O,U,V,W⟩:=XK r (x :: a) b ha Z.2;refine⟨List.pairwise_cons.2 ⟨λs d=>?_,O⟩,by simp at U ⊢; omega,λD J s d=>?_,λi=>?_⟩
        . grind[YU]
        . rcases List.mem_cons.1 d with e | d
          . subst e; exact J _ (by simp)
          . exact V D (λs d=>J s (by simp[d])) s d
        . rw[EA,EA y b];split
          . rename_i e; subst e
            rw[VP (l := x :: a) (λs d => by
              rcases List.mem_cons.1 d with e | d
              . subst e; omega
              . have:=ha'.1 s d; omega)]
            rfl
          . exact W i
      . rename_i a4;have a2:x.At=y.At:=by omega
        have⟨O,U,V,W⟩:=XK r a b ha'.2 Z.2;refine⟨List.pairwise_cons.2 ⟨λs d=>?_,O⟩,by simp at U ⊢; omega,λD J s d=>?_,λi=>?_⟩
        . grind[YU]
        . rcases List.mem_cons.1 d with e | d
          . subst e; exact XC (D _ (by simp)) (J _ (by simp))
          . exact V (λs d=>D s (by simp[d])) (λs d=>J s (by simp[d])) s d
        . rw[EA,EA x a,EA y b,<-a2];split
          . rfl
          . exact W i
termination_by a b=>a.length+b.length
def OC (r:Int) (R:Nat->List BM) (i:Int):Nat->Option AP->Option AP
 | 0,a=>a
 | n+1,a=>nP r (OC r R i n a) (lk (R n) i)
def Q5 (r:Int) (L:List (List BM)):List BM:=L.foldl (LW r) []
def total (L:List (List BM)):Nat:=(L.map List.length).foldr (· + ·) 0
theorem uL (r:Int):∀ (L:List (List BM)),(∀ l∈L,Rise l)->∀ n,n<=L.length ->
  Rise (Q5 r (L.take n))∧(Q5 r (L.take n)).length<=total (L.take n)∧((∀ l∈L,wV l)->wV (Q5 r (L.take n)))∧∀ i,lk (Q5 r (L.take n)) i=OC r (λw=>L.getD w []) i n none:=by
 intro L J n
 induction n with
 | zero=>intro _; simp[Q5,Rise,total,wV,uJ,OC]
 | succ n d=>
  intro O;have⟨_,_,_,_⟩:=d (by omega);have e:L.take (n+1)=L.take n++[L[n]]:=cZ (by omega);have h:Q5 r (L.take (n+1))=LW r (Q5 r (L.take n)) L[n]:=by grind[Q5]
  have D:total (L.take (n+1))=total (L.take n)+L[n].length:=by
   rw[e]; unfold total
   induction (L.take n) with
   | nil=>simp
   | cons a l d=>grind
  grind[XK,Q5,OC]
theorem YV {r:Int} {R:Nat->List BM} {i:Int} {a:Option AP}:∀ {n:Nat},(∀ w,w<n->lk (R w) i=none)->OC r R i n a=a
 | 0,_=>rfl
 | n+1,h=>by rw[OC,YV (λw _=>h w (by omega)),h n (by omega),U3]
theorem qM {r:Int} {R d:Nat->List BM} {i:Int} {a:Option AP}:∀ {n:Nat},(∀ w,w<n->lk (R w) i=lk (d w) i)->OC r R i n a=OC r d i n a
 | 0,_=>rfl
 | n+1,h=>by rw[OC,OC,qM (λw _=>h w (by omega)),h n (by omega)]
def upd (R:Nat->List BM) (w:Nat) (l:List BM):Nat->List BM:=λk=>if k=w then l else R k
theorem uM {r:Int} {R:Nat->List BM} {i:Int} {a:Option AP} {w:Nat} {v:AP} {t:List BM} (d:∀ k,k<w->lk (R k) i=none) (D:lk (R w) i=some v) (J:lk t i=none) :
  ∀ {n:Nat},w<n->OC r (upd R w t) i n (nP r a (some v))=OC r R i n a
 | 0,h=>by omega
 | n+1,h=>by
  rw[OC,OC];by_cases e:n=w
  . subst e;rw[YV (λk hk=>by rw[upd,if_neg (by omega)]; exact d k hk),YV d,upd,if_pos rfl,D,J,U3]
  . rw[uM d D J (by omega),upd,if_neg e]
def EF (R:Nat->List BM):Nat->List AX
 | 0=>[]
 | n+1=>if R n=[] then EF R n else ⟨R n,n⟩ :: EF R n
theorem oQ {R:Nat->List BM} {h:AX}:∀ {n:Nat},h∈EF R n↔∃ w,w<n∧R w≠[]∧h=⟨R w,w⟩
 | 0=>by simp[EF]
 | n+1=>by
  rw[EF];split
  . rename_i e; rw[oQ (n:=n)];grind
  . rename_i e; rw[SI,oQ (n:=n)];grind
theorem AeY {R d:Nat->List BM}:∀ {n:Nat},(∀ w,w<n->R w=d w)->EF R n=EF d n
 | 0,_=>rfl
 | n+1,h=>by rw[EF,EF,h n (by omega),AeY λw _=>h w (by omega)]
theorem AhZ (R:Nat->List BM):∀ n,(EF R n).length<=n
 | 0=>by simp[EF]
 | n+1=>by rw[EF]; have:=AhZ R n; split <;> simp <;> omega
theorem Ai0 {R:Nat->List BM} {w:Nat} {l:List BM}:∀ {n:Nat},w<n->(EF (upd R w l) n).Perm (if l=[] then EF (upd R w []) n else ⟨l,w⟩ :: EF (upd R w []) n)
 | 0,h=>by omega
 | n+1,h=>by
  by_cases e:n=w
  . subst e;rw[EF,EF];have D:EF (upd R n l) n=EF (upd R n []) n:=AeY λ_ _=>by rw[upd,upd,if_neg (by omega),if_neg (by omega)]
    simp only[upd,if_true,D];split
    . exact .refl _
    . rw[<-D]
  . have d:=Ai0 (R:=R) (l:=l) (n:=n) (w:=w) (by omega);rw[EF,EF];have D:upd R w l n=R n:=by rw[upd,if_neg e]
    have O:upd R w [] n=R n:=by rw[upd,if_neg e]
    rw[D,O];split
    . exact d
    . split at d
      . rename_i J; rw[if_pos J]; exact d.cons _
      . rename_i J; rw[if_neg J]; exact(d.cons _).trans (List.Perm.swap _ _ _)
theorem AqE (R:Nat->List BM) (w:Nat):upd R w (R w)=R:=by grind[upd]
def iK (R:Nat->List BM):Nat->Nat
 | 0=>0
 | n+1=>iK R n+(R n).length
theorem AeZ {R:Nat->List BM} {w:Nat} {s:BM} {t:List BM} (h:R w=s :: t):∀ {n:Nat},w<n->iK R n=iK (upd R w t) n+1
 | 0,h'=>by omega
 | n+1,h'=>by
  rw[iK,iK];by_cases e:n=w
  . subst e
    have e1:∀ k,k<=n->iK (upd R n t) k=iK R k:=by
     intro k
     induction k with
     | zero=>intro _; rfl
     | succ k d=>grind[iK,upd]
    grind[upd]
  . rw[AeZ h (n:=n) (by omega),upd,if_neg e]; omega
def la (out:List BM):BM:=out.getD (out.length - 1) default
def rJ (r:Int) (out:List BM) (s:BM):List BM:=if 0<out.length∧(la out).At=s.At then out.set (out.length - 1) ⟨(la out).At,FE r (la out).Val s.Val⟩ else out++[s]
theorem AmW (p:List BM) (y:BM):la (p++[y])=y:=by simp[la]
theorem Af0 (r:Int) (p:List BM) (y s:BM):rJ r (p++[y]) s=if y.At=s.At then p++[⟨y.At,FE r y.Val s.Val⟩] else p++[y]++[s]:=by unfold rJ;rw[AmW];simp_all
theorem AbN (l:List BM):l=[]∨∃ p y,l=p++[y]:=by
 rcases List.eq_nil_or_concat l with h | ⟨p,y,h⟩
 all_goals grind
theorem AmX {r:Int} {out:List BM} {s:BM} (h:Rise out) (V:wV out) (W:OZ s.Val) (a2:∀ o∈out,o.At<=s.At) :
   Rise (rJ r out s)∧wV (rJ r out s)∧(rJ r out s).length<=out.length+1∧(∀ o∈rJ r out s,o.At<=s.At)∧(∀ i,lk (rJ r out s) i=if i=s.At then nP r (lk out i) (some s.Val) else lk out i):=by
 rcases AbN out with e | ⟨p,y,e⟩
 . subst e;have:rJ r [] s=[s]:=by simp[rJ]
   rw[this];exact⟨by simp[Rise],by simpa[wV] using W,by simp,by simp,λi=>by rw[EA]; rfl⟩
 . subst e;rw[Af0]
   have hp:∀ x∈p,x.At<y.At:=by intro x d;unfold Rise at h; grind
   have O:Rise p:=by unfold Rise at h; rw[At5] at h; exact h.1
   have a3:y.At<=s.At:=a2 y (by simp);split
   . rename_i e;refine⟨List.pairwise_append.2 ⟨O,by simp,λa U b D=>by simp only[kB] at D; subst D; exact hp a U⟩,?_,by simp,?_,λi=>?_⟩
     . intro x d;rcases List.mem_append.1 d with d | d
       . exact V x (by simp[d])
       . simp only[kB] at d; subst d; exact XC (V y (by simp)) W
     . grind
     . rw[XJ,XJ,EA,EA,<-e];simp only;split
       . rename_i v Z;rw[if_neg];intro e'; subst e';rw[VP (λx d=>by have:=hp x d; omega)] at Z; cases Z
       . split <;> rfl
   . rename_i e
     have J:∀ x∈p++[y],x.At<s.At:=by grind
     refine⟨List.pairwise_append.2 ⟨h,by simp,λa U b D=>by simp only[kB] at D; subst D; exact J a U⟩,?_,by simp,?_,λi=>?_⟩
     . intro x d;rcases List.mem_append.1 d with d | d
       . exact V x d
       grind
     . grind
     . rw[XJ _ [s],EA];by_cases ei:i=s.At
       . subst ei;rw[if_pos rfl,if_pos rfl,VP (λx d=>by have:=J x d; omega)]; rfl
       . rw[if_neg ei,if_neg ei,uJ];grind
theorem next_ok {o:AJ} {s:BM} {t:List BM} {Q:AJ->Prop} (hl:o.heads.length<=1000000000) (V:full o.heads) (hh:oO o.heads o.heads.length) (U:o.heads≠[]) (b0:o.out.length<=1000000000)
   (ho:wV o.out) (hs:OZ s.Val) (hx:(gH o.heads 0).l=s :: t)
   (hQ:∀ H d,(gH o.heads 0 :: d).Perm o.heads->H.Perm (if t=[] then d else ⟨t,(gH o.heads 0).which⟩ :: d)->oO H H.length->Q ⟨H,o.r,rJ o.r o.out s⟩):FS o Q:=by
 unfold FS;have a2:0<o.heads.length:=List.length_pos_iff.2 U;refine A9 (x:=gH o.heads 0) (by omega) (OB a2) (AwA hl V hh U λx d hp hH=>?_);rw[hx];refine A9 (x:=s) (by omega) rfl ⟨by omega,by simp; omega,by omega,?_⟩;have et:((s :: t).take (((s :: t).length:Nat):Int).toNat).drop (Int.toNat 1)=t:=by simp
 rw[et];have a5:full d:=λy hy=>V y (hp.mem_iff.1 (jY _ hy));have a9:d.length<=o.heads.length:=by have:=hp.length_eq; grind
 refine AqC (o:=⟨d,o.r,o.out⟩) (by simp only; omega) a5 hH λH a7 a4=>?_;have a8:=hQ H d hp a7 a4;simp only
 have key:∀ b,(b=true↔(0<o.out.length∧(la o.out).At=s.At))->(λJ=>A4 J (AU o.out (A5 ((o.out.length:Int) - 1)) λD=>TI o.r D.Val s.Val λa3=>AU o.out (A5 ((o.out.length:Int) - 1)) λO=>Q ({ heads:=H,r:=o.r,out:=(o.out.set ((A5 ((o.out.length:Int) - 1)).toNat) ({ At:=O.At,Val:=a3 }:BM)) }:AJ)) (DA 24 o.out ([s]) λ_=>Q ({ heads:=H,r:=o.r,out:=(o.out++([s])) }:AJ))) b:=by
   intro b Z;refine⟨λh=>?_,λh=>?_⟩
   . have hc:=Z.1 h;have e:A5 ((o.out.length:Int) - 1)=((o.out.length - 1:Nat):Int):=by rw[A7 (by omega) (by omega)]; omega
     have W:o.out[((o.out.length - 1:Nat):Int).toNat]? = some (la o.out):=by grind[la]
     rw[e];refine A9 (by omega) W (bG (ho _ (At6 W)) hs (A9 (by omega) W ?_));grind[rJ]
   . have hc:¬(0<o.out.length∧(la o.out).At=s.At):=λh'=>by rw[Z.2 h'] at h; cases h
     refine AK (by simp; omega) ?_;grind[rJ]
 refine BH (λb:Bool=>b=true↔(0<o.out.length∧(la o.out).At=s.At)) (λb Z=>key b Z) λ_ a6=>?_;refine A0 (λh=>?_) (λh=>?_)
 . have e:A5 ((o.out.length:Int) - 1)=((o.out.length - 1:Nat):Int):=by rw[A7 (by omega) (by omega)]; omega
   have W:o.out[((o.out.length - 1:Nat):Int).toNat]? = some (la o.out):=by grind[la]
   rw[e];exact A9 (by omega) W (a6 _ (by simp; omega))
 grind
theorem AqF {l:List BM} {Q:Bool->Prop} (V:l.length<=1000000000) (D:Q (decide (Rise l))):YG l Q:=by
 unfold YG;refine CM l.length (by omega) (λn=>∀ (i:Nat) (hi:i+1<l.length),i+1<n->l[i].At<l[i+1].At) (λi hi h=>by omega) (λi next hi d J=>?_) (λnext d=>?_)
 . refine A0 (λ_=>A0 (λh=>?_) (λh=>?_)) (λh=>by omega)
   . have e:A5 ((i:Int) - 1)=((i - 1:Nat):Int):=by rw[A7 (by omega) (by omega)]; omega
     rw[e];refine AN (by omega) (AN hi (A0 (λO=>?_) (λO=>J λ_ _ _=>?_)))
     . have:¬Rise l:=λU=>by have:=U.adj hi (i:=i - 1) (by omega); omega
       grind
     grind
   grind
 . refine A0 (λh=>by omega) (λ_=>?_);rw[decide_eq_true (AeX λi hi=>d i hi (by omega))] at D; exact D
theorem AqG {L:List (List BM)} {Q:Bool->Prop} (W:L.length<=1000000000) (U:∀ l∈L,l.length<=1000000000) (V:Q (decide (∃ l∈L,¬Rise l))):CK L Q:=by
 unfold CK E7;refine CM L.length (by omega) (λn=>∀ i (hi:i<L.length),i<n->Rise L[i]) (λi hi h=>by omega) (λi next hi J O=>?_) (λnext J=>?_)
 . refine A0 (λ_=>AN hi ?_) (λh=>by omega);unfold PM;refine AqF (U _ (RY hi)) (BZ (λh=>?_) (λh=>?_))
   . have d:=of_decide_eq_false h;rw[decide_eq_true ⟨_,RY hi,d⟩] at V;simp_all
   grind
 . refine A0 (λh=>by omega) (λ_=>?_)
   have:¬ ∃ l∈L,¬Rise l:=by rintro⟨l,D,O⟩;obtain⟨i,hi,rfl⟩:=List.mem_iff_getElem.1 D;grind
   simp_all
def tot (H:List AX):Nat:=(H.map λh=>h.l.length).sum
theorem AqH {H d:List AX} (h:H.Perm d):tot H=tot d:=(h.map _).sum_nat
theorem Ai1 (R:Nat->List BM):∀ n,tot (EF R n)=iK R n
 | 0=>rfl
 | n+1=>by
  rw[EF,iK];split
  . rename_i e; rw[Ai1 R n,e]; simp
  . have:=Ai1 R n; grind[tot]
theorem AkT (R:Nat->List BM) (n:Nat):full (EF R n):=by intro h D;obtain⟨_,_,d,rfl⟩:=oQ.1 D;exact d
theorem AqI:oO [] 0:=λ_ _ _=>by omega
theorem AqJ {r:Int} {n:Nat} {R0:Nat->List BM} {V:List AX} {Q:List BM×Int->Prop} {out:List BM} (hr:1<=r∧r<=5) (hn:n<=1000000000) (hN:iK R0 n<=1000000000)
   (d1:V.Perm (EF R0 n)) (b1:oO V V.length) (a5:∀ w,w<n->Rise (R0 w)∧wV (R0 w)) (c2:Rise out) (d0:∀ i,lk out i=OC r R0 i n none) (hQ:Q (out,0)) :
   AY (λ(s:(List AX)×Int×(List BM)) (b0:((List AX)×Int×(List BM))->Prop)=>match s with | (s412,s416,s417)=>O1 s412 λe1=>A4 (decide (0<e1)) (FS ({ heads:=s412,r:=s416,out:=s417 }:AJ) λO=>b0 (O.heads,O.r,O.out)) (Q (s417,0))) (V,r,[]):=by
 refine CN (λs:List AX×Int×List BM=>∃ R,s.1.Perm (EF R n)∧oO s.1 s.1.length∧s.2.1=r∧Rise s.2.2∧wV s.2.2∧s.2.2.length+iK R n<=1000000000∧(∀ w,w<n->Rise (R w)∧wV (R w)∧∀ x∈R w,∀ o∈s.2.2,o.At<=x.At)∧∀ i,OC r R i n (lk s.2.2 i)=OC r R0 i n none) (λs=>tot s.1)
   ⟨R0,d1,b1,rfl,by simp[Rise],by simp[wV],by simpa using hN,λw h=>⟨(a5 w h).1,(a5 w h).2,by simp⟩,λi=>rfl⟩ ?_
 rintro⟨H,r',o⟩ next ⟨R,hp,hH,e,h1,h2,h3,h4,h5⟩ hnx;simp only at hp hH e h1 h2 h3 h4 h5 ⊢;subst e;unfold O1;refine A0 (λ_=>?_) (λ_=>?_)
 . have hne:H≠[]:=by grind
   have d7:0<H.length:=List.length_pos_iff.2 hne;have e3:H.length<=n:=hp.length_eq▸AhZ R n;have⟨w,h,a7,U⟩:=oQ.1 (hp.mem_iff.1 (AhY d7));have⟨s,t,d⟩:=AsW a7;have hf:full H:=XI (AkT R n) hp;have⟨D,q2,q3⟩:=h4 w h;have a3:OZ s.Val:=q2 s (by rw[d]; simp)
   -- the least one
   have e5:∀ k,k<n->∀ x∈R k,s.At<=x.At∧(k<w->s.At<x.At):=by
     intro k hk x d3;have a2:R k≠[]:=by grind
     have d8:(⟨R k,k⟩:AX)∈H:=hp.mem_iff.2 (oQ.2 ⟨k,hk,a2,rfl⟩);have⟨j,hj,_⟩:=List.mem_iff_getElem.1 d8;have J:=AmV hH j hj;have⟨y,_,a4⟩:=AsW a2
     have k1:IF H j=(y.At,(k:Int)):=by
       have:gH H j=⟨R k,k⟩:=by have:=OB hj; grind
       simp[IF,xH,this,a4]
     have k0:IF H 0=(s.At,(w:Int)):=by simp[IF,xH,U,d]
     rw[k1,k0] at J
     have e4:y.At<=x.At:=by have Z:=(h4 k hk).1;rw[a4] at d3 Z;unfold Rise at Z; rw[AdQ] at Z;grind
     unfold IY at J;omega
   have a6:Rise t∧∀ x∈t,s.At<x.At:=by rw[d] at D; unfold Rise at D; rw[AdQ] at D; exact⟨D.2,D.1⟩
   have d9:∀ x∈o,x.At<=s.At:=λx d4=>q3 s (by rw[d]; simp) x d4;refine next_ok (o:=⟨H,r',o⟩) (s:=s) (t:=t) (by simp only; omega) hf hH hne (by simp only; omega) h2 a3 (by simp only; rw[U]; exact d) λH2 H' a8 a9 c0=>?_;simp only at a8 a9;have d2:(gH H 0).which=(w:Int):=by rw[U]
   rw[d2,U] at *
   have e2:H'.Perm (EF (upd R w []) n):=by
     have h6:(EF R n).Perm (⟨R w,w⟩ :: EF (upd R w []) n):=by
       have:=Ai0 (R:=R) (w:=w) (l:=R w) h
       rwa [AqE,if_neg a7] at this
     exact List.Perm.cons_inv (a8.trans (hp.trans h6))
   have d6:H2.Perm (EF (upd R w t) n):=by refine a9.trans (List.Perm.trans ?_ (Ai0 (R:=R) (l:=t) h).symm);grind
   have⟨p1,p2,_,p4,p5⟩:=AmX (r:=r') h1 h2 a3 d9;have e6:=AeZ d h;refine hnx _ ⟨upd R w t,d6,c0,rfl,p1,p2,by simp only; omega,λk hk=>?_,λi=>?_⟩ ?_
   . unfold upd;split
     . exact⟨a6.1,λx U=>q2 x (by rw[d]; simp[U]),λx U y hy=>by have:=a6.2 x U; have:=p4 y hy; omega⟩
     grind
   . simp only;rw[p5,<-h5];split
     . rename_i W; subst W;refine uM (λk hk=>VP λx U=>?_) (by rw[d,EA,if_pos rfl]) (VP λx U=>?_) h
       all_goals grind
     . rename_i W;refine qM λk hk=>?_;unfold upd;split
       . rename_i e; subst e; rw[d,EA,if_neg W]
       . rfl
   grind[tot,AqH,Ai1]
 . have d5:H=[]:=by simp_all
   subst d5
   have c1:∀ w,w<n->R w=[]:=by
     intro w h;by_cases e:R w=[]
     . exact e
     . have:=hp.mem_iff.2 (oQ.2 ⟨w,h,e,rfl⟩); simp at this
   have:o=out:=AeW h1 c2 λi=>by rw[d0,<-h5,YV];intro w h; rw[c1 w h]; rfl
   grind
theorem Ai2 (L:List (List BM)):∀ n,n<=L.length->iK (λw=>L.getD w []) n=total (L.take n):=by
 intro n
 induction n with
 | zero=>intro _; simp[iK,total]
 | succ n d=>
  intro h;rw[iK,d (by omega),cZ (by omega)]
  have:∀ (a:List (List BM)) (b:List BM),total (a++[b])=total a+b.length:=by
   intro a b; unfold total
   induction a with
   | nil=>simp
   | cons x a d=>grind
  grind
def uN (r:Int) (L:List (List BM)):List BM×Int:=if ¬(1<=r∧r<=5) then ([],8) else if ∃ l∈L,¬Rise l then ([],6) else (Q5 r L,0)
theorem fX {r:Int} {L:List (List BM)} {Q:List BM×Int->Prop} (hL:L.length<=1000000) (a4:∀ l∈L,l.length<=1000000000) (hT:total L<=1000000000) (a6:∀ l∈L,wV l) (Z:Q (uN r L)):TQ r L Q:=by
 unfold TQ;unfold uN at Z;refine PZ (BZ (λh=>?_) (λh=>?_))
 . grind
 . have hr:=of_decide_eq_true h;rw[if_neg (by omega)] at Z;refine AqG (by omega) a4 ⟨λh=>?_,λh=>?_⟩
   . grind
   . have a2:∀ l∈L,Rise l:=by grind
     rw[if_neg (of_decide_eq_false h)] at Z;refine A6 (s0:=(([]:List AX),r,([]:List BM))) (λ(s:List AX×Int×List BM) i=>(s.1,s.2.1,s.2.2,i)) 0 L.length (by omega) (λi s=>s.1.Perm (EF (λw=>L.getD w []) i)∧oO s.1 s.1.length∧s.2.1=r∧s.2.2=[]) (by omega) ⟨.refl _,AqI,rfl,rfl⟩ (λi s next _ hi D hn=>?_) (λs next D=>?_)
     . have⟨H,V,o⟩:=s;have⟨J,O,U,W⟩:=D;simp only at J O U W ⊢;subst U; subst W;refine A0 (λ_=>?_) (λh=>by omega);have a5:H.length<=i:=J.length_eq▸AhZ _ i;refine AN hi (AqC (o:=⟨H,V,[]⟩) (by simp only; omega) (XI (AkT _ i) J) O λH2 hp a3=>?_);refine hn (H2,V,[]) ⟨hp.trans ?_,a3,rfl,rfl⟩;have e:L.getD i []=L[i]:=by grind
       simp only[EF,e];grind
     . have⟨H,V,o⟩:=s;have⟨J,O,U,W⟩:=D;simp only at J O U W ⊢;subst U; subst W;refine A0 (λh=>by omega) (λ_=>?_);have d:=uL V L a2 L.length (by omega);rw[nM] at d;refine AqJ (out:=Q5 V L) (R0:=λw=>L.getD w []) hr (n:=L.length) (by omega) (by rw[Ai2 L _ (by omega),nM]; exact hT) J O (λw _=>?_) d.1 d.2.2.2 Z;grind
def SA (z:Int):AP:=⟨A5 (z / 18446744073709551616),z % 18446744073709551616⟩
theorem AbO (z:Int):OZ (SA z):=by unfold OZ SA; simp only[HU]; omega
theorem YW (x y:Int):FE 5 (SA x) (SA y)=SA (x+y):=by
 have e:FE 5 (SA x) (SA y)=⟨A5 ((SA x).Hi+(SA y).Hi+(if 18446744073709551616<=(SA x).Lo+(SA y).Lo then 1 else 0)),((SA x).Lo+(SA y).Lo) % 18446744073709551616⟩:=rfl;rw[e];unfold SA;apply RN
 . simp only[HU]; split <;> omega
 . simp only; omega
theorem lO {v:Int} (h:DH v):US v=SA v:=by
 unfold US SA DH at *;apply RN
 . simp only[HU]; split <;> omega
 . rfl
theorem AkU {hi lo:Int} (d:0<=lo) (h:lo<18446744073709551616):(⟨A5 hi,lo⟩:AP)=SA (hi*18446744073709551616+lo):=by
 unfold SA;apply RN
 . simp only[HU]; omega
 . simp only; omega
theorem AkV {x:Int} (k:Nat) (hk:k<=64):shr .u64 x k=x / 2 ^ k:=by
 unfold shr;rw[AsX _ (yW (Ak0 (by omega)))];have:min (Int.toNat (k:Int)) (IntKind.bits .u64)=k:=by simp[IntKind.bits]; omega
 rw[this]
theorem AqK {x:Int} (k:Nat) (hk:k<=64):shl .u64 x k=(x*2 ^ k) % 18446744073709551616:=by
 unfold shl;rw[OA];have:min (Int.toNat (k:Int)) (IntKind.bits .u64)=k:=by simp[IntKind.bits]; omega
 rw[this]
theorem eM (x:Int) (d:0<=x) (h:x<18446744073709551616):(BitVec.ofInt 64 x).toNat=x.toNat:=by rw[BitVec.toNat_ofInt];congr 1;exact Int.emod_eq_of_lt d (by simpa using h)
theorem sF {x y:Int} (d:0<=x) (h:x<18446744073709551616) (J:0<=y) (D:y<18446744073709551616):yX .u64 x y=((x.toNat ||| y.toNat:Nat):Int):=by
 unfold yX
 have e:(BitVec.ofInt (IntKind.bits .u64) x ||| BitVec.ofInt (IntKind.bits .u64) y).toNat=x.toNat ||| y.toNat:=by show(BitVec.ofInt 64 x ||| BitVec.ofInt 64 y).toNat=_;rw[BitVec.toNat_or,eM x d h,eM y J D]
 rw[e,OA];have:x.toNat ||| y.toNat<2 ^ 64:=Ap4 (by omega) (by omega);omega
theorem lP {x y:Int} (d:0<=x) (h:x<18446744073709551616) (J:0<=y) (D:y<18446744073709551616):Y4 .u64 x y=((x.toNat &&& y.toNat:Nat):Int):=by
 unfold Y4
 have e:(BitVec.ofInt (IntKind.bits .u64) x &&& BitVec.ofInt (IntKind.bits .u64) y).toNat=x.toNat &&& y.toNat:=by show(BitVec.ofInt 64 x &&& BitVec.ofInt 64 y).toNat=_;rw[BitVec.toNat_and,eM x d h,eM y J D]
 rw[e,OA];have:x.toNat &&& y.toNat<2 ^ 64:=Nat.and_lt_two_pow _ (by omega);omega
theorem Ai3 {h l:Int} (J:0<=h) (O:h<4294967296) (d:0<=l) (D:l<4294967296):yX .u64 (h*4294967296) l=h*4294967296+l:=by
 rw[sF (by omega) (by omega) d (by omega)];have e:(h*4294967296).toNat=h.toNat <<< 32:=by rw[Nat.shiftLeft_eq]; omega
 rw[e,<-Nat.shiftLeft_add_eq_or_of_lt (by omega),Nat.shiftLeft_eq];omega
theorem T8 {x:Int} {Q:Int×Int->Prop} (D:0<=x) (J:x<18446744073709551616) (O:Q (x % 4294967296,x / 4294967296)):HJ x Q:=by
 unfold HJ;have h:shl .u64 x 32=(x*4294967296) % 18446744073709551616:=AqK 32 (by omega);have d:∀ y,shr .u64 y 32=y / 4294967296:=λy=>AkV 32 (by omega);rw[h,d,d]
 rwa [show x*4294967296 % 18446744073709551616 / 4294967296=x % 4294967296 by omega]
theorem Ai4 {a b:Int} {Q:AP->Prop} (a3:0<=a) (a4:a<18446744073709551616) (a6:0<=b) (a7:b<18446744073709551616) (hQ:Q (SA (a*b))):SS a b Q:=by
 unfold SS
 have U:∀ x y:Int,0<=x->x<4294967296->0<=y->y<4294967296->0<=x*y∧x*y<=18446744065119617025:=by intro x y h1 h2 W h4;refine⟨AjV h1 W,?_⟩;have:=AjS (show x<=4294967295 by omega) (show y<=4294967295 by omega) W (by omega);omega
 refine T8 a3 a4 (T8 a6 a7 ?_);simp only;obtain⟨J,a8⟩:∃ J,J=a % 4294967296:=⟨_,rfl⟩;obtain⟨d,a9⟩:∃ d,d=a / 4294967296:=⟨_,rfl⟩;obtain⟨D,b0⟩:∃ D,D=b % 4294967296:=⟨_,rfl⟩;obtain⟨h,b1⟩:∃ h,h=b / 4294967296:=⟨_,rfl⟩;rw[<-a8,<-a9,<-b0,<-b1]
 have a5:a*b=d*h*18446744073709551616+(d*D+J*h)*4294967296+J*D:=by
  have e1:a=d*4294967296+J:=by omega
  have e2:b=h*4294967296+D:=by omega
  rw[e1,e2,Int.add_mul,Int.mul_add,Int.mul_add];have q1:d*4294967296*(h*4294967296)=d*h*18446744073709551616:=by rw[Int.mul_assoc,Int.mul_left_comm 4294967296 h,<-Int.mul_assoc d]; rfl
  have q2:d*4294967296*D=d*D*4294967296:=Int.mul_right_comm _ _ _;have q3:J*(h*4294967296)=J*h*4294967296:=(Int.mul_assoc _ _ _).symm;rw[q1,q2,q3]; omega
 have⟨_,_⟩:=U J D (by omega) (by omega) (by omega) (by omega);have⟨_,_⟩:=U J h (by omega) (by omega) (by omega) (by omega);have⟨_,_⟩:=U d D (by omega) (by omega) (by omega) (by omega);have⟨_,_⟩:=U d h (by omega) (by omega) (by omega) (by omega);generalize J*D=O at *;generalize J*h=V at *;generalize d*D=p10 at *;generalize d*h=Z at *;simp only[OA];refine T8 (by omega) (by omega) ?_;simp only;refine T8 (by omega) (by omega) ?_;simp only;refine T8 (by omega) (by omega) (T8 (by omega) (by omega) ?_);simp only;have e3:∀ y,shl .u64 y 32=(y*4294967296) % 18446744073709551616:=λy=>AqK 32 (by omega);rw[e3];have e4:∀ y:Int,(y % 4294967296*4294967296) % 18446744073709551616=y % 4294967296*4294967296:=λy=>by omega
 rw[e4,Ai3 (by omega) (by omega) (by omega) (by omega),AkU (by omega) (by omega)];rw[a5] at hQ
 have a2:SA (((((Z % 18446744073709551616+(p10 % 18446744073709551616+O % 18446744073709551616 / 4294967296) % 18446744073709551616 / 4294967296) % 18446744073709551616+(V % 18446744073709551616+(p10 % 18446744073709551616+O % 18446744073709551616 / 4294967296) % 18446744073709551616 % 4294967296) % 18446744073709551616 / 4294967296) % 18446744073709551616)*18446744073709551616+((V % 18446744073709551616+(p10 % 18446744073709551616+O % 18446744073709551616 / 4294967296) % 18446744073709551616 % 4294967296) % 18446744073709551616 % 4294967296*4294967296+O % 18446744073709551616 % 4294967296)))=SA (Z*18446744073709551616+(p10+V)*4294967296+O):=by
  unfold SA;apply RN
  . simp only[HU]; omega
  . simp only; omega
 rw[a2]; exact hQ
theorem lQ {a:AP} (h:OZ a):a=SA (a.Hi*18446744073709551616+a.Lo):=by
 unfold OZ at h;rw[<-AkU (by omega) (by omega)];apply RN
 . simp only[HU]; omega
 . rfl
theorem AqL {x:Int} {Q:AP->Prop} (d:Q (SA (-x))):kY ⟨0,0⟩ (SA x) Q:=by
 unfold kY TH
 have key:∀ c:Int,(c=if 0<(SA x).Lo then 1 else 0)->(⟨A5 ((((0 % 18446744073709551616) - ((SA x).Hi % 18446744073709551616)) % 18446744073709551616 - c) % 18446744073709551616),(0 - (SA x).Lo) % 18446744073709551616⟩:AP)=SA (-x):=by
   intro c D;unfold SA at *;subst D;apply RN
   . simp only[HU]; split <;> omega
   . simp only; omega
 simp only[OA];refine A0 (λh=>?_) (λh=>?_)
 . rw[key 1 (by rw[if_pos h])]; exact d
 . rw[key 0 (by rw[if_neg h])]; exact d
theorem Af1 {a b:Int} {Q:AP->Prop} (d:DH a) (D:DH b) (U:Q (SA (a*b))):kZ a b Q:=by
 unfold kZ;unfold DH at d D
 have O:∀ {x:Int} {K:Int->Prop},-9223372036854775808<=x∧x<=9223372036854775807->K (if x<0 then -x else x)->X9 x K:=by
   intro x K hx J;unfold X9;simp only[OA];refine A0 (λh=>?_) (λh=>?_)
   . rw[if_pos h] at J; rwa [show(0 - x % 18446744073709551616) % 18446744073709551616 = -x by omega]
   . rw[if_neg h] at J; rwa [show x % 18446744073709551616=x by omega]
 refine O d (O D ?_);have Z : -a*b = -(a*b):=Int.neg_mul _ _;have W:a * -b = -(a*b):=Int.mul_neg _ _;have V : -a * -b=a*b:=Int.neg_mul_neg _ _;refine Ai4 (by split <;> omega) (by split <;> omega) (by split <;> omega) (by split <;> omega) ?_;by_cases h1:a<0 <;> by_cases h2:b<0
 . rw[if_pos h1,if_pos h2,V];exact AH (by simp[h1,h2]) U
 . rw[if_pos h1,if_neg h2,Z];exact B7 (by simp[h1,h2]) (AqL (by rwa [Int.neg_neg]))
 . rw[if_neg h1,if_pos h2,W];exact B7 (by simp[h1,h2]) (AqL (by rwa [Int.neg_neg]))
 . rw[if_neg h1,if_neg h2];exact AH (by simp[h1,h2]) U
def L3 (r a x:Int):AP:=
 if r=2 then (if a≠0∧x≠0 then ⟨0,1⟩ else ⟨0,0⟩)
 else if r=5 then SA (a*x)
 else if r=1∨r=3∨r=4 then
  (if 4611686018427387904<=a∨4611686018427387904<=x then SA 4611686018427387904
   else if r=3 then SA a else if r=4 then SA x else if eH (SA 4611686018427387904) (SA (a+x)) then SA 4611686018427387904 else SA (a+x))
 else ⟨0,0⟩
theorem U4 (r a x:Int):OZ (L3 r a x):=by
 have h:OZ ⟨0,0⟩:=by unfold OZ; simp
 have d:OZ ⟨0,1⟩:=by unfold OZ; simp
 unfold L3
 repeat' split
 all_goals first | exact AbO _ | exact h | exact d
theorem AkW {x y:Int} (D : -170141183460469231731687303715884105728<=x∧x<170141183460469231731687303715884105728) (d : -170141183460469231731687303715884105728<=y∧y<170141183460469231731687303715884105728):eH (SA x) (SA y)↔x<=y:=by
 have h:∀ z:Int,-170141183460469231731687303715884105728<=z∧z<170141183460469231731687303715884105728->A5 (z / 18446744073709551616)=z / 18446744073709551616:=by intro z J; rw[HU]; omega
 unfold eH SA;simp only[h x D,h y d];omega
theorem qN {r a x:Int} {Q:AP->Prop} (O:DH a) (V:DH x) (d:Q (L3 r a x)):bB r a x Q:=by
 unfold bB;unfold L3 at d;have W:DH 4611686018427387904:=by unfold DH; omega
 refine AZ (λh=>?_) (λh=>AZ (λZ=>?_) (λZ=>?_))
 . rw[if_pos h] at d;refine BU (λD=>lE ?_) (λD=>lE ?_)
   . simpa[D] using d
   . simpa[D] using d
 . rw[if_neg h,if_pos Z] at d;exact Af1 O V d
 . rw[if_neg h,if_neg Z] at d;have a2:(if x > a then x else a)>=4611686018427387904↔4611686018427387904<=a∨4611686018427387904<=x:=by split <;> omega
   refine BH (λ_=>¬((1<=r∧r<=5)∧(4611686018427387904<=a∨4611686018427387904<=x))) ?_ ?_
   . rintro _ _;refine BH (λp:Int×Int=>(⟨p.1,p.2⟩:AP)=SA (if r=1 then a else 0)∧(r=1∨r=4)) ?_ ?_
     . rintro⟨_,_⟩ ⟨hp,U⟩;simp only at hp ⊢;refine L0 W (L0 V ?_);rw[hp,lO W,lO V];refine qK (AbO _) (AbO _) (zJ ?_);rw[YW];rw[if_pos (by omega),if_neg (by omega),if_neg (by omega)] at d;rcases U with U | U
       . rw[if_pos U]; rwa [if_neg (by omega)] at d
       . rw[if_neg (show ¬r=1 by omega),show(0:Int)+x=x by omega];rw[if_pos U] at d;unfold DH at V
         rwa [if_neg (by rw[AkW (by omega) (by omega)]; omega)]
     . intro k hk;refine AZ (λD=>L0 O (hk _ ⟨?_,.inl D⟩)) (λD=>AZ (λh4=>hk _ ⟨?_,.inr h4⟩) (λh4=>AZ (λh3=>L0 O ?_) (λh3=>?_)))
       . rw[if_pos D]; exact lO O
       . rw[if_neg D]; decide
       . rw[if_pos (by omega),if_neg (by omega),if_pos h3] at d;rw[lO O]; exact d
       . rw[if_neg (by omega)] at d; exact d
   . intro k hk;refine PZ ⟨λD=>A0 (λh2=>L0 W ?_) (λh2=>hk _ ?_),λD=>hk _ ?_⟩
     . have D:=of_decide_eq_true D;rw[if_pos (by omega),if_pos (a2.1 h2)] at d;rw[lO W]; exact d
     . exact λJ=>h2 (a2.2 J.2)
     . exact λJ=>of_decide_eq_false D J.1
def VQ (f:List Int):Prop:=∀ x∈f,0<=x∧x<18446744073709551616
def CY (f:List Int) (i:Int):Bool:=decide (0<=i) && (BD f (i / 64)).toNat.testBit (i % 64).toNat
theorem OD {f:List Int} {i:Int} (h:(f.length:Int)<=i):BD f i=0:=by unfold BD;rw[eX,AdP (by omega)]; rfl
theorem OE {f:List Int} (h:VQ f) (i:Int):0<=BD f i∧BD f i<18446744073709551616:=by
 by_cases e:i.toNat<f.length
 . have:BD f i=f[i.toNat]:=by simp[BD,eX,e]
   rw[this]; exact h _ (RY e)
 . have:BD f i=0:=by unfold BD; rw[eX,AdP (by omega)]; rfl
   rw[this]; omega
theorem Q6 {f:List Int} {i:Int} (h:64*(f.length:Int)<=i):CY f i=false:=by unfold CY; rw[OD (by omega)]; simp
theorem U5 {f:List Int} {i:Int} (h:i<0):CY f i=false:=by unfold CY; simp[show ¬0<=i by omega]
theorem AkX {f:List Int} {i:Int} (h:CY f i=true):0<=i∧i<64*(f.length:Int):=by
 rcases Ah8 i 0 with d | d
 . rw[U5 d] at h; cases h
 . rcases Ah8 i (64*(f.length:Int)) with D | D
   . exact⟨d,D⟩
   . rw[Q6 D] at h; cases h
theorem AtT (i:Int):shr .i64 i 6=i / 64:=by unfold shr;rw[AsX _ (by decide)]; rfl
theorem qO {f:List Int} {i:Int} {Q:Bool->Prop} (d:Q (decide (0<=i∧i / 64<f.length))):NW f i Q:=by
 unfold NW;rw[AtT];refine A0 (λh=>?_) (λh=>?_)
 . simpa[h] using d
 . simpa[h] using d
theorem AwB (k:Nat):(2:Int) ^ k=((2 ^ k:Nat):Int):=by rw[Int.natCast_pow]; rfl
theorem AkY {k:Nat} (hk:k<64):(2:Nat) ^ k<18446744073709551616:=Nat.pow_lt_pow_right (n:=64) (a:=2) (by omega) hk
theorem AkZ {k:Nat} (hk:k<64):shl .u64 1 k=((2 ^ k:Nat):Int):=by rw[AqK _ (by omega),Int.one_mul,AwB];have hp:=AkY hk;generalize 2 ^ k=p at *;omega
theorem AwC (x k:Nat):x &&& 2 ^ k=if x.testBit k then 2 ^ k else 0:=by
 apply Nat.eq_of_testBit_eq;intro j;rw[Nat.testBit_and,AjI];by_cases e:k=j
 . subst e;cases h:x.testBit k
   . simp
   . simp[AjI]
 . cases h:x.testBit k
   . simp[e]
   . simp[e,AjI]
theorem AqM {i:Int} {Q:Int->Prop} (h:0<=i) (d:i<18446744073709551616) (D:Q ((2 ^ (i % 64).toNat:Nat):Int)):X6 i Q:=by
 unfold X6
 have e:Y4 .u64 (IntKind.wrap .u64 i) 63=(((i % 64).toNat:Nat):Int):=by rw[OA,show i % 18446744073709551616=i by omega,lP h d (by omega) (by omega)];congr 1;rw[show Int.toNat 63=2 ^ 6 - 1 from rfl,Nat.and_two_pow_sub_one_eq_mod];omega
 rw[e];refine⟨by omega,?_⟩;rw[AkZ (by omega)]; exact D
theorem LN {f:List Int} {i:Int} {Q:Bool->Prop} (V:VQ f) (hi:DH i) (d:Q (CY f i)):LJ f i Q:=by
 unfold LJ;unfold DH at hi;refine qO ⟨λh=>?_,λh=>?_⟩
 . have h:=of_decide_eq_true h;rw[AtT];have D:=OE V (i / 64);refine BC (by omega) h.2 (AqM h.1 (by omega) ?_);have hp:=AkY (k:=(i % 64).toNat) (by omega);have e:CY f i=(BD f (i / 64)).toNat.testBit (i % 64).toNat:=by unfold CY; simp[h.1]
   rw[e] at d;have O:0<(2:Nat) ^ (i % 64).toNat:=Nat.pow_pos (by omega);have U:=AwC (BD f (i / 64)).toNat (i % 64).toNat;generalize (i % 64).toNat=k at *;rw[lP D.1 D.2 (AjL _) (by generalize 2 ^ k=p at *; omega),SH,U]
   cases Z:(BD f (i / 64)).toNat.testBit k with
   | false=>rw[Z] at d; simpa using d
   | true=>
    rw[Z] at d
    have W:(((if (true:Bool)=true then 2 ^ k else 0:Nat):Int) != 0)=true:=by rw[if_pos rfl,bne_iff_ne];generalize 2 ^ k=p at *; omega
    rw[W]; exact d
 . have h:=of_decide_eq_false h
   have e:CY f i=false:=by
    rcases Ah8 i 0 with J | J
    . exact U5 J
    . exact Q6 (by omega)
   rw[e] at d; exact d
theorem AqN {i:Int} (h:0<=i):i.tdiv 64=i / 64∧i.tmod 64=i % 64:=⟨Am9 h,AoO h⟩
theorem AbP {f:List Int} {i:Int} {Q:Bool->Prop} (Z:VQ f) (hi:DH i) (d:Q (CY f i)):dW f i Q:=by
 unfold dW;unfold DH at hi;refine A0 (λh=>?_) (λh=>?_)
 . have⟨J,O⟩:=AqN h;rw[J,O,A7 (by omega) (by omega),OA,show i % 64 % 18446744073709551616=(((i % 64).toNat:Nat):Int) by omega];refine A0 (λD=>?_) (λD=>?_)
   . have V:=OE Z (i / 64);refine BC (by omega) D ⟨by omega,?_⟩;rw[AkV _ (by omega)]
     have U:BD f (i / 64) / 2 ^ (i % 64).toNat=(((BD f (i / 64)).toNat / 2 ^ (i % 64).toNat:Nat):Int):=by rw[Int.natCast_ediv,Int.natCast_pow,AmD V.1]; rfl
     have a2:(BD f (i / 64)).toNat / 2 ^ (i % 64).toNat<=(BD f (i / 64)).toNat:=Nat.div_le_self _ _;have e:CY f i=decide ((BD f (i / 64)).toNat / 2 ^ (i % 64).toNat % 2=1):=by unfold CY; rw[Nat.testBit_eq_decide_div_mod_eq]; simp[h]
     rw[e] at d;rw[U];generalize (BD f (i / 64)).toNat / 2 ^ (i % 64).toNat=m at *;rw[lP (by omega) (by omega) (by omega) (by omega),SH,show Int.toNat 1=1 from rfl,Nat.and_one_is_mod]
     have W:(((m % 2:Nat):Int)==1)=decide (m % 2=1):=by
      generalize m % 2=m;by_cases hm:m=1
      . subst hm; rfl
      . rw[decide_eq_false hm]; exact beq_eq_false_iff_ne.2 (by omega)
     rw[W]; exact d
   . rw[Q6 (by omega)] at d; exact d
 . rw[U5 (by omega)] at d; exact d
def F0 (n:Int):Nat:=((if 4096<(if n<0 then 0 else n) then 4096 else (if n<0 then 0 else n))+63).toNat / 64
def oR (n:Int):List Int:=List.replicate (F0 n) 0
theorem OG (n:Int):F0 n<=64:=by unfold F0; split <;> split <;> omega
theorem uO {n i:Int} (d:0<=i) (D:i<n) (h:i<4096):i / 64<F0 n:=by unfold F0; split <;> split <;> omega
theorem AmY {n i:Int} (d:i / 64<F0 n):i<4096:=by unfold F0 at d; split at d <;> split at d <;> omega
theorem Al0 (n:Int):VQ (oR n):=by intro x d; rw[oR,List.mem_replicate] at d; omega
theorem Af2 (n i:Int):CY (oR n) i=false:=by
 have:∀ k,BD (oR n) k=0:=by intro k; unfold BD oR;rw[eX,List.getElem?_replicate]; split <;> rfl
 unfold CY; rw[this]; simp
theorem bO {n:Int} {Q:Int->Prop} (d:Q (F0 n)):RF n Q:=by
 unfold RF;rw[AtT]
 have e:A5 ((if 4096<(if 0 > n then 0 else n) then 4096 else (if 0 > n then 0 else n))+63) / 64=(F0 n:Int):=by unfold F0;rw[HU];split <;> split <;> omega
 rw[e]; exact d
theorem uP {n:Int} {Q:Int->Prop} (D:Q (F0 n)):VJ n Q:=by
 unfold VJ;refine BH (λt=>t=if 4096<n then 4096 else n) ?_ ?_
 . rintro t d;refine A0 (λh=>?_) (λh=>?_)
   . have J:n<1:=by
      subst d;split at h
      . omega
      . exact h
     have:F0 n=0:=by
      unfold F0
      repeat' split
      all_goals omega
     rw[this] at D; exact D
   . have:A5 ((A5 (t+63)).tdiv 64)=(F0 n:Int):=by
      unfold F0;have O:1<=t∧t<=4096:=by subst d; split at h <;> split <;> omega
      rw[A7 (x:=t+63) (by omega) (by omega),Am9 (by omega),A7 (by omega) (by omega)];subst d; split <;> split <;> omega
     rw[this]; exact D
 . intro k hk;exact A0 (λh=>hk _ (by rw[if_pos h])) (λh=>hk _ (by rw[if_neg h]))
theorem YX {n:Int} {Q:List Int->Prop} (d:Q (oR n)):N3 n Q:=by unfold N3;refine bO ⟨by omega,by have:=OG n; omega,?_⟩;simpa[oR] using d
theorem AbQ {n:Int} {Q:List Int->Prop} (d:Q (oR n)):dU n Q:=by unfold dU;refine uP ⟨by omega,by have:=OG n; omega,?_⟩;simpa[oR] using d
def uQ (f:List Int) (i:Int):List Int:=if 0<=i∧i / 64<f.length then f.set (i / 64).toNat (((BD f (i / 64)).toNat ||| 2 ^ (i % 64).toNat:Nat):Int) else f
theorem AqO (f:List Int) (i:Int):(uQ f i).length=f.length:=by unfold uQ; split <;> simp
theorem AtU {f:List Int} (h:VQ f) (i:Int):VQ (uQ f i):=by
 unfold uQ;split
 . intro x d;rcases List.mem_or_eq_of_mem_set d with d | d
   . exact h x d
   . have D:=OE h (i / 64);have hp:(2:Nat) ^ (i % 64).toNat<2 ^ 64:=Nat.pow_lt_pow_right (by omega) (by omega);have:=Ap4 (x:=(BD f (i / 64)).toNat) (y:=2 ^ (i % 64).toNat) (n:=64) (by omega) hp;omega
 . exact h
theorem AqP {f:List Int} (i j:Int):CY (uQ f i) j=if j=i∧0<=i∧i / 64<f.length then true else CY f j:=by
 unfold uQ;by_cases hc:0<=i∧i / 64<f.length
 . rw[if_pos hc];rcases Ah8 j 0 with D | D
   . rw[U5 D,if_neg (by omega),U5 D]
   . have d:∀ v:Int,BD (f.set (i / 64).toNat v) (j / 64)=if j / 64=i / 64 then v else BD f (j / 64):=by
       intro v;unfold BD;rw[eX,eX];by_cases e:j / 64=i / 64
       . rw[if_pos e,e,AmB (by omega)]; rfl
       . rw[if_neg e,AaS (by omega)]
     unfold CY;rw[d];by_cases e:j / 64=i / 64
     . rw[if_pos e,SH,Nat.testBit_or,AjI,e];by_cases e2:j=i
       . subst e2; simp[hc,D]
       . have:¬(i % 64).toNat=(j % 64).toNat:=by omega
         simp[e2,this]
     . rw[if_neg e,if_neg (by intro h; exact e (by rw[h.1]))]
 . rw[if_neg hc,if_neg (λh=>hc h.2)]
theorem AbR {f:List Int} {i:Int} {Q:List Int->Prop} (U:VQ f) (W:f.length<=1000000) (hi:DH i) (d:Q (uQ f i)):dV f i Q:=by
 unfold dV oF;unfold DH at hi;refine AK (by simp; omega) ?_;simp only[AdY];unfold uQ at d;refine A0 (λh=>?_) (λh=>?_)
 . rw[if_neg (by omega)] at d; exact d
 . have⟨J,V⟩:=AqN (i:=i) (by omega);rw[J,V,A7 (by omega) (by omega),OA,show i % 64 % 18446744073709551616=(((i % 64).toNat:Nat):Int) by omega];refine A0 (λO=>?_) (λO=>?_)
   . rw[if_neg (by omega)] at d; exact d
   . refine⟨by omega,B7 rfl (BC (by omega) (by omega) (BC (by omega) (by omega) ?_))⟩;rw[if_pos (by omega)] at d;have hp:=AkY (k:=(i % 64).toNat) (by omega);have D:=OE U (i / 64);rw[AkZ (by omega),sF D.1 D.2 (AjL _) (by generalize 2 ^ (i % 64).toNat=p at *; omega),SH];exact d
def Y5 (n:Int) (l:List Int):List Int:=l.foldl (λf i=>if 0<=i∧i<n∧i<4096 then uQ f i else f) (oR n)
theorem uR (n:Int) (l:List Int) (i:Int):Y5 n (l++[i])=if 0<=i∧i<n∧i<4096 then uQ (Y5 n l) i else Y5 n l:=by simp[Y5]
theorem FF (n:Int) (l:List Int):VQ (Y5 n l)∧(Y5 n l).length=F0 n∧∀ j,CY (Y5 n l) j=decide (j∈l∧0<=j∧j<n∧j<4096):=by
 suffices H:∀ k,k<=l.length->VQ (Y5 n (l.take k))∧(Y5 n (l.take k)).length=F0 n∧∀ j,CY (Y5 n (l.take k)) j=decide (j∈l.take k∧0<=j∧j<n∧j<4096) by have:=H l.length (by omega); rwa [nM] at this
 intro k
 induction k with
 | zero=>intro _; exact⟨Al0 n,by simp[Y5,oR],λj=>by simp[Y5,Af2]⟩
 | succ k W=>
  intro hk;have⟨O,J,U⟩:=W (by omega);rw[cZ (by omega),uR];split
  . rename_i d;refine⟨AtU O _,by rw[AqO,J],λj=>?_⟩;rw[AqP,J,U];have Z:=uO d.1 d.2.1 d.2.2;by_cases e:j=l[k]
    . subst e;rw[if_pos ⟨rfl,d.1,Z⟩];exact(decide_eq_true ⟨List.mem_append.2 (.inr (by simp)),d⟩).symm
    . rw[if_neg (λh=>e h.1)];refine decide_eq_decide.2 ?_;rw[nT,kB];simp only[e,or_false]
  . rename_i d;refine⟨O,J,λj=>?_⟩;rw[U];refine decide_eq_decide.2 ?_;rw[nT,kB];by_cases e:j=l[k]
    . subst e;constructor
      . rintro⟨V,D⟩; exact⟨.inl V,D⟩
      . rintro⟨_,D⟩; exact absurd D d
    . simp only[e,or_false]
theorem Af3 {n:Int} {l:List Int} {Q:List Int->Prop} (hl:l.length<=1000000000) (hi:∀ x∈l,DH x) (Z:Q (Y5 n l)):kX n l Q:=by
 unfold kX;refine AbQ (A6 (λ(s:List Int) i=>(s,i)) 0 l.length (by omega) (λk s=>s=Y5 n (l.take k)) (by omega) (by simp[Y5]) (λk s next _ hk J D=>?_) (λs next J=>?_))
 . subst J;have d:=uR n (l.take k) l[k];rw[<-cZ hk] at d;have⟨W,_,_⟩:=FF n (l.take k);refine A0 (λ_=>AN hk (A0 (λO=>AN hk (A0 (λU=>AN hk (A0 (λV=>AN hk ?_) (λV=>D _ ?_))) (λU=>D _ ?_))) (λO=>D _ ?_))) (λh=>by omega)
   . refine AbR W (by have:=OG n; omega) (hi _ (RY hk)) (D _ ?_);rw[d,if_pos ⟨O,U,V⟩]
   . rw[d,if_neg (by omega)]
   . rw[d,if_neg (by omega)]
   . rw[d,if_neg (by omega)]
 . subst J;refine A0 (λh=>by omega) (λ_=>?_);rw[nM]; exact Z
theorem N9 {n:Int} {l:List Int} {Q:List Int->Prop} (hl:l.length<=1000000000) (hi:∀ x∈l,DH x) (hQ:Q (Y5 n l)):JT n l Q:=by
 unfold JT;refine YX (A6 (λ(s:List Int) i=>(s,i)) 0 l.length (by omega) (λk s=>s=Y5 n (l.take k)) (by omega) (by simp[Y5]) (λk s next _ hk U V=>?_) (λs next U=>?_))
 . subst U;have d:=uR n (l.take k) l[k];rw[<-cZ hk] at d;have⟨Z,p2,_⟩:=FF n (l.take k);have O:=hi _ (RY hk);unfold DH at O;refine A0 (λ_=>AN hk ?_) (λh=>by omega);refine BH (λb=>b=decide (l[k]<n∧0<=l[k]∧l[k] / 64<F0 n)) ?_ ?_
   . rintro b rfl;refine A0 (λh=>?_) (λh=>V _ ?_)
     . rw[AtT];refine BC (by omega) (by rw[p2]; omega) (AqM h.2.1 (by omega) (BC (by omega) (by rw[p2]; omega) (V _ ?_)));have W:=OE Z (l[k] / 64);have hp:=AkY (k:=(l[k] % 64).toNat) (by omega);rw[d,if_pos ⟨h.2.1,h.1,AmY h.2.2⟩,uQ,if_pos ⟨h.2.1,by rw[p2]; exact h.2.2⟩,sF W.1 W.2 (AjL _) (by generalize 2 ^ (l[k] % 64).toNat=p at *; omega),SH]
     . rw[d,if_neg];intro J;exact h ⟨J.2.1,J.1,uO J.1 J.2.1 J.2.2⟩
   . intro k' D;refine A0 (λh=>qO (D _ ?_)) (λh=>D _ ?_)
     . rw[p2]; simp[h]
     . simp[h]
 . subst U;refine A0 (λh=>by omega) (λ_=>?_);rw[nM]; exact hQ
def VR (f:List Int):List Int:=((List.range (64*f.length)).filter λi:Nat=>CY f i).map λi:Nat=>(i:Int)
theorem T9 {f:List Int} {i:Int}:i∈VR f↔CY f i=true:=by
 unfold VR;simp only[gW,AmF,AjU];constructor
 . rintro⟨_,⟨_,h⟩,rfl⟩; exact h
 . intro h;have⟨d,_⟩:=AkX h;exact⟨i.toNat,⟨by omega,by rw[AmD d]; exact h⟩,by omega⟩
theorem uS (f:List Int):(VR f).Pairwise (· < ·):=by unfold VR;rw[gU];exact sR (λ_=>by omega) (gS _ AoZ)
def bP (f:List Int) (n:Int):Prop:=(0<=n∧n<=4096)∧f.length=F0 n∧∀ i∈VR f,i<n
instance (f:List Int) (n:Int):Decidable (bP f n):=by unfold bP; infer_instance
theorem zW {n:Int} (h:0<=n∧n<=4096) (l:List Int):bP (Y5 n l) n:=by have⟨_,d,D⟩:=FF n l;refine⟨h,d,λ_ hi=>?_⟩;rw[T9,D] at hi;exact(of_decide_eq_true hi).2.2.1
theorem AqQ {n:Int} {l:List Int} (h:n<=4096) (V:l.Pairwise (· < ·)) (hi:∀ i∈l,0<=i∧i<n):VR (Y5 n l)=l:=by
 have d:∀ {l O:List Int} (h:l.Pairwise (· < ·)) (J:O.Pairwise (· < ·)) (U:∀ x,x∈l↔x∈O),l=O:=λh J U=>
   eG ((AdN (h.imp λh e=>by omega) (J.imp λh e=>by omega)).2 U) h J λ_ _ _ _ _ _=>by omega
 refine d (uS _) V λx=>?_;rw[T9,(FF n l).2.2];constructor
 . intro D; exact(of_decide_eq_true D).1
 . intro D; have:=hi x D; exact decide_eq_true ⟨D,this.1,this.2,by omega⟩
def IncI (l:List B9):Prop:=l.Pairwise λa b=>a.At<b.At
instance (l:List B9):Decidable (IncI l):=by unfold IncI; infer_instance
structure VecP (v:Vec):Prop where
 n0:0≤v.N
 n1:v.N≤4096
 inc:IncI v.Items
 ins:∀ x∈v.Items,0≤x.At∧x.At<v.N
instance (v:Vec):Decidable (VecP v):=decidable_of_iff (0<=v.N∧v.N<=4096∧IncI v.Items∧∀ x∈v.Items,0<=x.At∧x.At<v.N) ⟨λ⟨a,b,c,d⟩=>⟨a,b,c,d⟩,λ⟨a,b,c,d⟩=>⟨a,b,c,d⟩⟩
def zV:Vec:=⟨0,[]⟩
theorem AxT:VecP zV:=⟨by decide,by decide,.nil,by simp[zV]⟩
def FV (v:Vec):Vec:=if VecP v then v else zV
theorem RO (v:Vec):VecP (FV v):=by grind[FV,AxT]
theorem IG {v:Vec} (h:VecP v):FV v=v:=if_pos h
theorem AtV {l:List B9} (h:∀ (i:Nat) (hi:i+1<l.length),l[i].At<l[i+1].At):IncI l:=by
 unfold IncI;rw[AmA];intro i j hi J D;obtain⟨d,rfl⟩:∃ d,j=i+1+d:=⟨j - i - 1,by omega⟩
 induction d with
 | zero=>grind
 | succ d O=>grind
theorem IncI.at {l:List B9} (h:IncI l) {i j:Nat} (D:j<l.length) (d:i<j):(l[i]'(by omega)).At<l[j].At:=by unfold IncI at h; rw[AmA] at h; grind
theorem AqR {l:List B9} (h:IncI l) {n:Int} (J:0<=n) (hi:∀ x∈l,0<=x.At∧x.At<n):(l.length:Int)<=n:=by
 have:∀ k (hk:k<l.length),(k:Int)<=l[k].At:=by
   intro k
   induction k with
   | zero=>grind
   | succ k d=>intro hk; have:=d (by omega); have:=h.at hk (i:=k) (by omega); omega
 rcases aL l.length with e | e
 . omega
 . have D:=this (l.length - 1) (by omega);grind
theorem VecP.len {v:Vec} (h:VecP v):v.Items.length<=4096:=by have:=AqR h.inc h.n0 h.ins; have:=h.n1; omega
theorem rK {x y:Int} {Q:Bool->Prop} (d:Q (decide (0<=x∧x<=y))):SN x y Q:=by
 unfold SN;refine A0 (λh=>?_) (λh=>?_)
 all_goals grind
theorem F3 {v:Vec} {Q:Bool→Prop} (hl:v.Items.length≤1000000000) (hQ:Q (decide (VecP v))):F7 v Q:=by
 unfold F7
 have D:¬VecP v→Q false:=fun h=>by rwa [decide_eq_false h] at hQ
 have a2:VecP v→Q true:=fun h=>by rwa [decide_eq_true h] at hQ
 refine rK (BZ (fun h=>D fun W=>of_decide_eq_false h ⟨W.n0,W.n1⟩) (fun h=>?_))
 have h:=of_decide_eq_true h
 unfold D8 DS
 refine A6 (s0:=(-1:Int)) (fun (s:Int) i=>(s,i)) 0 v.Items.length (by omega) (fun k s=>(∀ (i:Nat) (hi:i+1<v.Items.length),i+1<k→v.Items[i].At<v.Items[i+1].At)∧(∀ i (hi:i<v.Items.length),i<k→0≤v.Items[i].At∧v.Items[i].At<v.N)∧(k=0→s = -1)∧(∀ (hk:0<k) (hl:k≤v.Items.length),s=(v.Items[k - 1]'(by omega)).At)) (by omega) ⟨fun i _ h=>by omega,fun i _ h=>by omega,fun _=>rfl,fun h=>by omega⟩ (fun k s next _ hk Z hn=>?_) (fun s next Z=>?_)
 · obtain ⟨h1,h2,h3,h4⟩:=Z
   refine A0 (fun _=>AN hk ?_) (fun h=>by omega)
   unfold NX
   have a4:¬VecP v→(fun d:Bool×Int=>A4 d.1 ((fun O:Int×Int=>(fun a3:Bool×Int=>Q (!a3.1)) (decide (0≤O.1),O.2)) ((k:Int),d.2)) (next (d.2,A5 ((k:Int)+1)))) (true,v.Items[k].At):=by
     intro a6
     refine B7 rfl ?_
     grind
   refine A0 (fun V=>a4 fun U=>?_) (fun V=>?_)
   · rcases aL k with e | e
     · subst e
       rw [h3 rfl] at V
       have:=(U.ins _ (RY hk)).1; omega
     · rw [h4 e (by omega)] at V
       have:=U.inc.at hk (i:=k - 1) (by omega); omega
   · refine ⟨fun J=>?_,fun J=>hn _ ⟨fun i hi a5=>?_,fun i hi a5=>?_,fun h=>by omega,fun _ _=>by simp⟩⟩
     · have J:=of_decide_eq_true J
       simp only [show decide ((0:Int)≤(k:Int))=true by simp]
       exact D fun U=>by have:=(U.ins _ (RY hk)).2; omega
     all_goals grind
 · obtain ⟨h1,h2,h3,h4⟩:=Z
   refine A0 (fun h=>by omega) (fun _=>?_)
   simp only [show decide ((0:Int) ≤ -1)=false by decide]
   refine a2 ⟨h.1,h.2,AtV fun i hi=>h1 i hi (by omega),fun _ hx=>?_⟩
   obtain ⟨i,hi,rfl⟩:=List.mem_iff_getElem.1 hx
   grind
theorem M6 {v:Vec} {Q:Vec->Prop} (D:v.Items.length<=1000000000) (d:Q (FV v)):KU v Q:=by
 unfold KU;unfold FV at d;refine F3 D (A0 (λh=>?_) (λh=>?_))
 . grind
 . rwa [if_neg h] at d
theorem Af4 {α β:Type} {xs:List α} {f:α->β} {d:List β×Int->(List β×Int->Prop)->Prop} (U:xs.length<=1000000000)
   (J:∀ (i:Nat) (s:List β) (next:List β×Int->Prop) (hi:i<xs.length),s.length=i->(next (s++[f xs[i]],A5 ((i:Int)+1)))->d (s,(i:Int)) next)
   (O:∀ (next:List β×Int->Prop) s,s=xs.map f->d (s,(xs.length:Int)) next):AY d ([],0):=by
 refine A6 (λ(s:List β) i=>(s,i)) 0 xs.length (by omega) (λk s=>s=(xs.take k).map f) (by omega) (by simp) (λk s next _ hk h D=>?_) (λs next h=>?_)
 . refine J k s next hk (by subst h; simp; omega) (D _ ?_);subst h;rw[cZ hk,dA]; rfl
 grind
def VS (v:Vec):List Int:=(FV v).Items.map (·.At)
theorem ZP {v:Vec} {Q:List Int->Prop} (O:v.Items.length<=1000000000) (U:Q (VS v)):O0 v Q:=by unfold O0;have D:=(RO v).len;refine M6 O (Af4 (xs:=(FV v).Items) (f:=(·.At)) (by omega) (λ_ s next hi d J=>A0 (λ_=>AN hi (AK (by simp; omega) J)) (λh=>by omega)) (λnext s d=>A0 (λh=>by omega) (λ_=>?_)));subst d; exact U
def kvI (x:B9):Int×Int:=(x.At,x.Val)
def G3 (l:List B9) (i:Int):Option Int:=BA i (l.map kvI)
theorem L4 (s:B9) (l:List B9) (i:Int):G3 (s :: l) i=if i=s.At then some s.Val else G3 l i:=rfl
theorem RP:∀ {l:List B9} {i:Int},(∀ s∈l,s.At≠i)->G3 l i=none
 | [],_,_=>rfl
 | s :: l,i,h=>by rw[L4,if_neg (λe=>h s (by simp) e.symm)]; exact RP λx d=>h x (by simp[d])
theorem YY:∀ {l:List B9} {i:Int} {v:Int},G3 l i=some v->⟨i,v⟩∈l
 | s :: l,i,v,h=>by
  rw[L4] at h;split at h
  . rename_i e; cases h; subst e; simp
  . exact jY _ (YY h)
theorem VT:∀ {l:List B9} (h:IncI l) {s:B9},s∈l->G3 l s.At=some s.Val
 | x :: l,h,s,hs=>by
  unfold IncI at h;rw[AdQ] at h;rw[L4];rcases List.mem_cons.1 hs with e | hs
  . subst e; rw[if_pos rfl]
  . have:=h.1 s hs;rw[if_neg (by omega)]; exact VT h.2 hs
theorem U6:∀ (l:List B9) (m:List B9) (i:Int),G3 (l++m) i=match G3 l i with | some v=>some v | none=>G3 m i
 | [],m,i=>rfl
 | s :: l,m,i=>by
  rw[nS,L4,L4];split
  . rfl
  . exact U6 l m i
def MU (o:Option Int):Int×Bool:=match o with | some v=>(v,true) | none=>(0,false)
def XL (n:Nat) (l:List B9):List Int:=(List.range n).map λi:Nat=>(G3 l i).getD 0
def OH (v:Vec):Dense:=⟨v.N,Y5 v.N (v.Items.map (·.At)),XL v.N.toNat v.Items⟩
theorem AmZ (n:Nat):XL n []=List.replicate n 0:=by
 unfold XL;apply List.ext_getElem
 . simp
 . intro i d h; simp[G3,BA]
theorem Ai5 {n:Nat} {l:List B9} {x:B9} (h:∀ s∈l,s.At<x.At) (d:0<=x.At):XL n (l++[x])=(XL n l).set x.At.toNat x.Val:=by unfold XL;rw[AhP];grind[U6,L4,RP]
theorem IncI.before {l:List B9} (h:IncI l) {k:Nat} (hk:k<l.length):∀ s∈l.take k,s.At<l[k].At:=by intro s D;obtain⟨_,d,rfl⟩:=List.mem_iff_getElem.1 D;rw[QY] at d;rw[Ah4];exact h.at hk (by omega)
theorem oS {n:Nat} {l:List B9} {i:Int} (d:0<=i) (h:i<n):BD (XL n l) i=(G3 l i).getD 0:=by unfold XL BD;grind
theorem lR {n:Int} {Q:Dense->Prop} (h:0<=n∧n<=4096) (d:Q ⟨n,oR n,List.replicate n.toNat 0⟩):PK n Q:=by unfold PK;exact A0 (λD=>by omega) (λ_=>A0 (λD=>by omega) (λ_=>⟨by omega,by omega,YX d⟩))
theorem qP {v:Vec} {Q:Dense->Prop} (V:v.Items.length<=1000000000) (J:Q (OH (FV v))):bA v Q:=by
 unfold bA;refine F3 V (BZ (λh=>?_) (λh=>?_))
 . have h:=of_decide_eq_false h;rw[FV,if_neg h] at J;exact lR ⟨by omega,by omega⟩ J
 . have d:=of_decide_eq_true h;rw[IG d] at J;have a2:=d.len;have:=d.n0; have:=d.n1;refine lR ⟨by omega,by omega⟩ (A6 (s0:=List.replicate v.N.toNat (0:Int)) (λ(s:List Int) i=>(s,i)) 0 v.Items.length (by omega) (λk s=>s=XL v.N.toNat (v.Items.take k)) (by omega) (by simp[AmZ]) (λk s next _ hk D W=>?_) (λs next D=>?_))
   . have O:=d.ins _ (RY hk);refine A0 (λ_=>AN hk (BC (by omega) (by subst D; simp[XL]; omega) (W _ ?_))) (λh=>by omega);rw[cZ hk,Ai5 (d.inc.before hk) O.1,D]
   . rw[nM] at D;subst D;refine A0 (λh=>by omega) (λ_=>ZP V (N9 ?_ (λ_ U=>?_) ?_))
     . grind[VS,IG]
     . rw[VS,IG d] at U;obtain⟨y,Z,rfl⟩:=List.mem_map.1 U;have:=d.ins y Z; unfold DH; omega
     . rw[VS,IG d]; exact J
theorem lS {v:Vec} (h:VecP v) (i:Int):CY (OH v).Has i=(G3 v.Items i).isSome:=by
 have U:=h.n1;have e:=(FF v.N (v.Items.map (·.At))).2.2 i;show CY (Y5 v.N (v.Items.map (·.At))) i=_;rw[e]
 cases O:G3 v.Items i with
 | none=>
  refine decide_eq_false λJ=>?_;have⟨_,D,e⟩:=List.mem_map.1 J.1;have:=VT h.inc D;grind
 | some y=>
  have d:=YY O;have:=h.ins _ d;grind
theorem lT (v:Vec):VQ (OH v).Has:=(FF _ _).1
theorem Al1 (v:Vec):(OH v).Has.length<=64:=by rw[show(OH v).Has.length=F0 v.N from(FF _ _).2.1]; exact OG _
def H8 (f:List Int) (o:Bool) (i:Int):Bool:=CY f i != o
def VU (r:Int) (A B:Int->Option Int) (d:Option AP) (k:Int):Option AP:=match A k,B k with | some a,some x=>nP r d (some (L3 r a x)) | _,_=>d
def JM (r:Int) (n:Nat) (A B:Int->Option Int):Option AP:=(List.range n).foldl (λd (k:Nat)=>VU r A B d k) none
def L5 (r:Int) (m n:Nat) (f:List Int) (o:Bool) (A:Int->Int->Option Int) (B:Int->Option Int):List BM:=
 (List.range m).filterMap λi:Nat=>if H8 f o i then (JM r n (A i) B).map λw=>(⟨i,w⟩:BM) else none
theorem YZ (r:Int) (m n:Nat) (f:List Int) (o:Bool) (A:Int->Int->Option Int) (B:Int->Option Int) :
  L5 r (m+1) n f o A B=L5 r m n f o A B++(if H8 f o m then (JM r n (A m) B).map λw=>(⟨m,w⟩:BM) else none).toList:=by
 unfold L5;rw[ZX,At2];congr 1
theorem An0 {r:Int} {A B:Int->Option Int} {d:Option AP} (h:∀ w,d=some w->OZ w) (k:Int):∀ w,VU r A B d k=some w->OZ w:=by
 intro w D;unfold VU at D;split at D
 . cases d with
   | none=>cases D; exact U4 _ _ _
   | some b=>cases D; exact XC (h b rfl) (U4 _ _ _)
 . exact h w D
theorem uT (r:Int) (n:Nat) (A B:Int->Option Int):∀ w,JM r n A B=some w->OZ w:=by
 unfold JM
 induction n with
 | zero=>grind
 | succ n d=>rw[ZX,AdS]; exact An0 d n
theorem U7 (r:Int) (n:Nat) (f:List Int) (o:Bool) (A:Int->Int->Option Int) (B:Int->Option Int):∀ m:Nat,
  Rise (L5 r m n f o A B)∧(L5 r m n f o A B).length<=m∧wV (L5 r m n f o A B)∧(∀ s∈L5 r m n f o A B,0<=s.At∧s.At<m)∧∀ i:Int,lk (L5 r m n f o A B) i=if 0<=i∧i<m∧H8 f o i=true then JM r n (A i) B else none:=by
 intro m
 induction m with
 | zero=>
  refine⟨.nil,by simp[L5],by simp[L5,wV],by simp[L5],λi=>?_⟩;rw[if_neg (by omega)]; rfl
 | succ m O=>
  have⟨D,_,U,_,h⟩:=O;rw[YZ];by_cases ha:H8 f o m=true
  . rw[if_pos ha]
    cases J:JM r n (A m) B with
    | none=>
     grind
    | some w=>
     simp only[Ah5,Option.toList_some];refine⟨List.pairwise_append.2 ⟨D,by simp,λ_ _ _ _=>?_⟩,by simp; omega,λs d=>?_,λs d=>?_,λi=>?_⟩
     . grind
     . rcases List.mem_append.1 d with d | d
       . exact U s d
       grind[uT]
     . grind
     . rw[XJ,h,EA,uJ];grind
  grind
theorem Q7 {β γ:Type} {f g:β->γ->β}:∀ {l:List γ} {a:β},(∀ d k,k∈l->f d k=g d k)->l.foldl f a=l.foldl g a
 | [],_,_=>rfl
 | x :: l,a,h=>by rw[aN,aN,h a x (by simp)]; exact Q7 λd k hk=>h d k (by simp[hk])
theorem bQ {β:Type} {step:β->Int->Int->β} {a:β}:∀ {n:Nat} {l:List B9},IncI l->(∀ x∈l,0<=x.At∧x.At<n) ->
  l.foldl (λD x=>step D x.At x.Val) a=(List.range n).foldl (λD (k:Nat)=>match G3 l k with | some v=>step D k v | none=>D) a
 | 0,l,h,hi=>by
  cases l with
  | nil=>rfl
  | cons x l=>have:=hi x (by simp); omega
 | n+1,l,h,hi=>by
  rw[ZX,AdS];simp only[aN,ApH]
  have W:l=[]∨∃ p y,l=p++[y]:=by
    rcases List.eq_nil_or_concat l with h | ⟨p,y,h⟩
    . exact .inl h
    . exact .inr ⟨p,y,by rw[h,List.concat_eq_append]⟩
  have old:∀ {l:List B9},IncI l->(∀ x∈l,0<=x.At∧x.At<n)->G3 l n=none:=λ_ hi=>RP λs Z=>by have:=hi s Z; omega
  rcases W with e | ⟨p,y,e⟩
  . subst e;rw[<-bQ (n:=n) (l:=[]) h (by simp)]; rfl
  . subst e;have hp:IncI p:=(List.pairwise_append.1 h).1;have U:∀ x∈p,x.At<y.At:=λx d=>(List.pairwise_append.1 h).2.2 x d y (by simp);by_cases ey:y.At=n
    . have J:∀ x∈p,0<=x.At∧x.At<n:=λx d=>⟨(hi x (by simp[d])).1,by have:=U x d; omega⟩;have e1:G3 (p++[y]) n=some y.Val:=by rw[U6,old hp J,L4,if_pos ey.symm]
      rw[e1,AdS,bQ hp J];simp only[aN,ApH,ey];congr 1;refine Q7 λD k hk=>?_;have hk:=List.mem_range.1 hk;have:G3 (p++[y]) k=G3 p k:=by rw[U6,L4,if_neg (by omega)]; cases G3 p k <;> rfl
      rw[this]
    . have O:∀ x∈p++[y],0<=x.At∧x.At<n:=by
       intro x d;have V:=hi x d;refine⟨V.1,?_⟩;have hy:=hi y (by simp);rcases List.mem_append.1 d with d | d
       . have:=U x d; omega
       . simp only[kB] at d; subst d; omega
      rw[old h O,bQ h O]
def oT (r:Int) (T:List A2) (f:List Int) (o:Bool) (x:B9):List BM:=((LM T x.At).filter λy=>H8 f o y.At).map λy=>⟨y.At,L3 r y.Val x.Val⟩
theorem lU {T:List A2} (h:Srt T) (k:Int):IncI (LM T k):=by unfold LM IncI;rw[gU];have O:(T.filter λt=>decide (t.Row=k)).Pairwise λa b=>IY (key a) (key b):=gS _ h;refine AsY (λ{a b} D J d=>?_) O;have D:=of_decide_eq_true (List.mem_filter.1 D).2;have J:=of_decide_eq_true (List.mem_filter.1 J).2;unfold IY key at d;simp only[sD] at d ⊢; omega
theorem U8 {T:List A2} {k:Int} {x:B9}:x∈LM T k↔(⟨k,x.At,x.Val⟩:A2)∈T:=by
 unfold LM;simp only[gW,AmF,decide_eq_true_eq];constructor
 . rintro⟨_,⟨ht,e⟩,rfl⟩; subst e; exact ht
 . intro h; exact⟨_,⟨h,rfl⟩,rfl⟩
theorem XM {r:Int} {T:List A2} (h:Srt T) (f:List Int) (o:Bool) (x:B9):Rise (oT r T f o x)∧wV (oT r T f o x)∧∀ i,lk (oT r T f o x) i=if H8 f o i=true then (G3 (LM T x.At) i).map λa=>L3 r a x.Val else none:=by
 have d:=lU h x.At;unfold oT;generalize LM T x.At=l at d;refine⟨?_,?_,λi=>?_⟩
 . unfold Rise; rw[gU]; exact gS _ d
 . intro s D;obtain⟨y,_,rfl⟩:=List.mem_map.1 D;exact U4 _ _ _
 . clear d
   induction l with
   | nil=>simp[lk,G3,BA]
   | cons y l J=>
    rw[L4];by_cases ha:H8 f o y.At=true
    . rw[List.filter_cons_of_pos (by simpa using ha),NM,EA];grind
    grind
theorem Ai6 (r:Int) (i:Int):∀ (L:List (List BM)) (n:Nat),n<=L.length->OC r (λw=>L.getD w []) i n none=(L.take n).foldl (λd l=>nP r d (lk l i)) none:=by
 intro L n
 induction n with
 | zero=>intro _; rfl
 | succ n h=>
  intro D;rw[OC,h (by omega),cZ (by omega),AdS];grind
theorem Ai7 {r:Int} {rows cols:Int} {T:List A2} {v:Vec} (h:Canon cols rows T) (W:VecP v) (hn:v.N=cols) (f:List Int) (o:Bool) :
   Q5 r (v.Items.map (oT r T f o))=L5 r rows.toNat cols.toNat f o (λi k=>G3 (LM T k) i) (G3 v.Items):=by
 have D:∀ l∈v.Items.map (oT r T f o),Rise l:=by intro l hl; obtain⟨x,_,rfl⟩:=List.mem_map.1 hl; exact(XM h.srt f o x).1
 have O:=uL r _ D _ (Y3 _);rw[nM] at O;have⟨s1,_,_,_,s5⟩:=U7 r cols.toNat f o (λi k=>G3 (LM T k) i) (G3 v.Items) rows.toNat;refine AeW O.1 s1 λi=>?_;rw[O.2.2.2,s5,Ai6 r i _ _ (Y3 _),nM,AjT];by_cases ha:H8 f o i=true
 . have V:∀ x:B9,lk (oT r T f o x) i=(G3 (LM T x.At) i).map λa=>L3 r a x.Val:=λx=>by rw[(XM h.srt f o x).2.2,if_pos ha]
   simp only[V];rw[bQ (step:=λd k xv=>nP r d ((G3 (LM T k) i).map λa=>L3 r a xv)) (n:=cols.toNat) W.inc (λx Z=>by have:=W.ins x Z; omega)];by_cases hi:0<=i∧i<rows
   . rw[if_pos ⟨hi.1,by omega,ha⟩];unfold JM;refine Q7 λd k _=>?_;unfold VU;simp only;cases G3 v.Items (k:Int) <;> cases G3 (LM T (k:Int)) i <;> simp[U3]
   . rw[if_neg (by omega)]
     have J:∀ k,G3 (LM T k) i=none:=λk=>RP λ_ hs=>by have:=h.inn _ (U8.1 hs); unfold sB at this; grind
     have:∀ (l:List Nat),l.foldl (λd (k:Nat)=>match G3 v.Items k with | some x=>nP r d ((G3 (LM T k) i).map λa=>L3 r a x) | none=>d) none=none:=by
      intro l
      induction l with
      | nil=>rfl
      | cons k l U=>
       rw[aN,J];cases G3 v.Items (k:Int) <;> exact U
     exact this _
 . rw[if_neg (λh=>ha h.2.2)];have V:∀ x:B9,lk (oT r T f o x) i=none:=λx=>by rw[(XM h.srt f o x).2.2,if_neg ha]
   simp only[V,U3];generalize v.Items=l
   induction l with
   | nil=>rfl
   | cons x l U=>exact U
theorem An1 {r:Int} {l:List B9} {val:Int} {f:List Int} {o:Bool} {Q:List BM->Prop} (hl:l.length<=1000000) (W:VQ f) (hi:∀ x∈l,DH x.At∧DH x.Val) (U:DH val) (Z:Q ((l.filter λy=>H8 f o y.At).map λy=>⟨y.At,L3 r y.Val val⟩)):VK r l val f o Q:=by
 unfold VK;refine A6 (λ(s:List BM) i=>(s,i)) 0 l.length (by omega) (λk s=>s=((l.take k).filter λy=>H8 f o y.At).map λy=>⟨y.At,L3 r y.Val val⟩) (by omega) (by simp) (λk s next _ hk d J=>?_) (λs next d=>?_)
 . have O:=hi _ (RY hk)
   have V:s.length<=k:=by grind
   refine A0 (λ_=>AN hk (LN W O.1 ⟨λh=>?_,λh=>J _ ?_⟩)) (λh=>by omega)
   . refine qN O.2 U (AK (by simp; omega) (J _ ?_));have D:H8 f o l[k].At=true:=by grind[H8]
     rw[cZ hk,gT,dA,d,List.filter_cons_of_pos (by simpa using D)]; rfl
   . have D:¬H8 f o l[k].At=true:=by grind[H8]
     rw[cZ hk,gT,dA,d,List.filter_cons_of_neg (by simpa using D)]; simp
 . rw[nM] at d;subst d;exact A0 (λh=>by omega) (λ_=>Z)
theorem AbS {c:BF} {x:Vec} {Q:BF×Vec->Prop} (D:WH c) (J:x.Items.length<=1000000000) (d:Q (ZO c,FV x)):dX c x Q:=by
 unfold dX;refine BH (λt=>(⟨t.1,t.2.1,t.2.2.1,t.2.2.2.1,t.2.2.2.2.1,t.2.2.2.2.2⟩:BF)=ZO c) ?_ ?_
 . rintro⟨_,_,_,_,_,_⟩ ht;simp only at ht ⊢;rw[ht];unfold FV at d;refine F3 J (BZ (λh=>?_) (λh=>?_))
   . rw[if_neg (of_decide_eq_false h)] at d; exact d
   grind
 . intro k hk;refine fW D (BZ (λh=>hk _ ?_) (λh=>hk _ ?_))
   . rw[ZO,if_neg (of_decide_eq_false h),uC]
   . rw[ZO,if_pos (of_decide_eq_true h)]
def Al2 (r rows cols:Int) (T:List A2) (v:Vec) (f:List Int) (o:Bool):List BM×Int:=
 if ¬(1<=r∧r<=5) then ([],8) else if v.N≠cols then ([],4) else (L5 r rows.toNat cols.toNat f o (λi k=>G3 (LM T k) i) (G3 v.Items),0)
theorem AbT {r rows cols:Int} {c:BF} {x:Vec} {T:List A2} {f:List Int} {o:Bool} {Q:List BM×Int->Prop} (hc:WH c) (hs:ZO c=U1 rows cols T) (h:Canon cols rows T) (hT:∀ t∈T,DH t.Val)
   (hx:x.Items.length<=1000000000) (a2:∀ y∈(FV x).Items,DH y.Val) (hf:VQ f) (D:Q (Al2 r rows cols T (FV x) f o)):dY r c x f o Q:=by
 unfold dY;unfold Al2 at D;have Z:=RO x;refine AbS hc hx ?_;rw[hs];generalize FV x=v at Z a2 D;simp only;have a7:=Z.len;refine PZ (BZ (λJ=>?_) (λJ=>BU (λa4=>?_) (λO=>?_)))
 . grind
 . rw[if_neg (by have:=of_decide_eq_true J; omega),if_pos (show v.N≠cols from a4)] at D; exact D
 . have hr:=of_decide_eq_true J;have O:v.N=cols:=O;rw[if_neg (by omega),if_neg (by omega)] at D;have a5:=h.len;refine Af4 (xs:=v.Items) (f:=oT r T f o) (by omega) (λi s next hi d W=>?_) (λnext s d=>?_)
   . refine A0 (λ_=>AN hi (uE h.smlC (oM h) h (An1 (by have:=bN T v.Items[i].At; omega) hf (λy hy=>?_) (a2 _ (RY hi)) (AK (by simp; omega) W)))) (λh=>by omega);have hm:=U8.1 hy;have V:=h.inn _ hm; have h2:=hT _ hm;have:=h.c1;unfold sB at V; simp only at V h2;exact⟨by unfold DH; omega,h2⟩
   . have a6:s.length=v.Items.length:=by subst d; simp
     have a3:∀ (l:List B9),total (l.map (oT r T f o))<=l.length*65536:=by
       intro l
       induction l with
       | nil=>simp[total]
       | cons y l ih=>
        have V:(oT r T f o y).length<=65536:=by unfold oT; rw[ZY];have:=wX (λy:B9=>H8 f o y.At) (LM T y.At);have:=bN T y.At; omega
        unfold total at ih ⊢;simp only[NM,List.foldr_cons,nR]; omega
     refine A0 (λh=>by omega) (λ_=>fX (by simp only; omega) (λl U=>?_) (by subst d; have:=a3 v.Items; simp only; omega) (λl U=>?_) ?_)
     . subst d;obtain⟨y,_,rfl⟩:=List.mem_map.1 U;unfold oT; rw[ZY];have:=wX (λy:B9=>H8 f o y.At) (LM T y.At);have:=bN T y.At; omega
     . subst d;obtain⟨y,_,rfl⟩:=List.mem_map.1 U;exact(XM h.srt f o y).2.1
     . unfold uN
       rw[if_neg (by omega),if_neg (by rintro⟨l,U,W⟩;subst d;obtain⟨y,_,rfl⟩:=List.mem_map.1 U;exact W (XM h.srt f o y).1),d,Ai7 h Z O]
       exact D
def fY (r:Int) (B:Int->Option Int) (d:Option AP) (y:B9):Option AP:=match B y.At with | some x=>nP r d (some (L3 r y.Val x)) | none=>d
theorem An2 {r:Int} {B:Int->Option Int} {d:Option AP} (h:∀ w,d=some w->OZ w) (y:B9):∀ w,fY r B d y=some w->OZ w:=by
 intro w D;unfold fY at D;split at D
 . cases d with
   | none=>cases D; exact U4 _ _ _
   | some b=>cases D; exact XC (h b rfl) (U4 _ _ _)
 . exact h w D
theorem zX (r:Int) (B:Int->Option Int):∀ (l:List B9) (d:Option AP),(∀ w,d=some w->OZ w)->∀ w,l.foldl (fY r B) d=some w->OZ w
 | [],d,h=>h
 | y :: l,d,h=>zX r B l _ (An2 h y)
theorem AqS {r:Int} {B:Int->Option Int} {n:Nat} {l:List B9} (h:IncI l) (hi:∀ x∈l,0<=x.At∧x.At<n):l.foldl (fY r B) none=JM r n (G3 l) B:=by have:=bQ (step:=λd k a=>match B k with | some x=>nP r d (some (L3 r a x)) | none=>d) (a:=none) h hi;refine this.trans (Q7 λd k _=>?_);unfold VU;grind
def NJ (ts:List A2) (i:Int):List B9:=(Q3 ts i.toNat).map sD
theorem zY (ts:List A2) {i:Int} (h:0<=i):NJ ts i=LM ts i:=by unfold NJ LM Q3;grind
def lV (r rows cols:Int) (ts:List A2) (v:Vec) (f:List Int) (o:Bool):List BM×Int:=
 if ¬(1<=r∧r<=5) then ([],8) else if v.N≠cols then ([],4) else (L5 r rows.toNat cols.toNat f o (λi=>G3 (NJ ts i)) (G3 v.Items),0)
theorem qQ {r:Int} {n:Nat} {f:List Int} {o:Bool} {A d:Int->Int->Option Int} {B:Int->Option Int}:∀ {m:Nat},(∀ (i k:Nat),i<m->k<n->A i k=d i k)->L5 r m n f o A B=L5 r m n f o d B
 | 0,_=>rfl
 | m+1,h=>by
  rw[YZ,YZ,qQ (m:=m) λi k _ hk=>h i k (by omega) hk]
  have:JM r n (A m) B=JM r n (d m) B:=by unfold JM;refine Q7 λ_ k hk=>?_;unfold VU;rw[h m k (by omega) (List.mem_range.1 hk)]
  rw[this]
theorem An3 {r rows cols:Int} {T:List A2} (h:Canon cols rows T) (v:Vec) (f:List Int) (o:Bool):lV r rows cols (N7 rows T) v f o=Al2 r rows cols T v f o:=by
 unfold lV Al2
 have e:L5 r rows.toNat cols.toNat f o (λi=>G3 (NJ (N7 rows T) i)) (G3 v.Items)=L5 r rows.toNat cols.toNat f o (λi k=>G3 (LM T k) i) (G3 v.Items):=by
  refine qQ λi k _ _=>?_;rw[zY _ (by omega)];have D:=bL rows h.srt;have d:∀ a:Int,(⟨(i:Int),(k:Int),a⟩:A2)∈N7 rows T↔(⟨(k:Int),(i:Int),a⟩:A2)∈T:=λa=>XH h _
  cases J:G3 (LM (N7 rows T) i) k with
  | some a=>
   have:=(d a).1 (U8.1 (YY J));exact(VT (lU h.srt k) ((U8 (x:=⟨i,a⟩)).2 this)).symm
  | none=>
   cases O:G3 (LM T k) i with
   | none=>rfl
   | some a=>
    have:=(d a).2 (U8.1 (YY O));have:=VT (lU D i) ((U8 (x:=⟨k,a⟩)).2 this);grind
 rw[e]
def zS (r:Int):Int:=if r=1∨r=3∨r=4 then 4611686018427387904 else 0
theorem AbU {r:Int} {Q:Int->Prop} (d:Q (zS r)):dP r Q:=by
 unfold dP; unfold zS at d;refine AZ (λh=>?_) (λh=>AZ (λJ=>?_) (λJ=>AZ (λD=>?_) (λD=>?_)))
 all_goals grind
def nzI (r:Int) (s:BM):Option B9:=if (GY s.Val).1≠zS r then some ⟨s.At,(GY s.Val).1⟩ else none
def fZ (r n:Int) (l:List BM):Vec×Int:=
 if ¬(1<=r∧r<=5) then (zV,8) else if ¬(0<=n∧n<=4096)∨∃ s∈l,¬(0<=s.At∧s.At<n) then (zV,3) else if ¬Rise l then (zV,6)
 else if ∃ s∈l,(GY s.Val).2=false then (zV,12) else (⟨n,l.filterMap (nzI r)⟩,0)
theorem AwD {n:Int} {l:List BM} {Q:Bool->Prop} (hl:l.length<=1000000000) (U:Q (decide (∃ s∈l,¬(0<=s.At∧s.At<n)))):CL n l Q:=by
 unfold CL E8;refine CM l.length (by omega) (λk=>∀ i (hi:i<l.length),i<k->0<=l[i].At∧l[i].At<n) (λi hi h=>by omega) (λk next hk V J=>?_) (λnext V=>?_)
 . refine A0 (λ_=>AN hk ?_) (λh=>by omega);unfold S2
   have d:¬(0<=l[k].At∧l[k].At<n)->(λD:Int=>Q (decide (0<=D))) (k:Int):=by intro Z;rw[decide_eq_true ⟨_,RY hk,Z⟩] at U;simp_all
   refine A0 (λh=>B7 rfl (d (by omega))) (λh=>⟨λO=>d (by have:=of_decide_eq_true O; omega),λO=>J λi hi _=>?_⟩);grind
 . refine A0 (λh=>by omega) (λ_=>?_)
   have:¬ ∃ s∈l,¬(0<=s.At∧s.At<n):=by rintro⟨s,W,J⟩;obtain⟨i,hi,rfl⟩:=List.mem_iff_getElem.1 W;grind
   rw[decide_eq_false this] at U;grind
theorem AbV {r n:Int} {l:List BM} {Q:Vec×Int->Prop} (hl:l.length<=1000000000) (ho:wV l) (d:Q (fZ r n l)):dQ r n l Q:=by
 unfold dQ;unfold fZ at d;refine PZ (BZ (λh=>?_) (λh=>?_))
 . rw[if_pos (of_decide_eq_false h)] at d; exact d
 have Z:=of_decide_eq_true h;rw[if_neg (by omega)] at d;refine A0 (λh=>?_) (λ_=>A0 (λh=>?_) (λ_=>AwD hl ⟨λh=>?_,λh=>?_⟩))
 . rw[if_pos (.inl (by omega))] at d; exact d
 . rw[if_pos (.inl (by omega))] at d; exact d
 . rw[if_pos (.inr (of_decide_eq_true h))] at d; exact d
 have a3:=of_decide_eq_false h
 rw[if_neg (by
   rintro(V | V)
   . omega
   . exact a3 V)] at d
 refine CM l.length (by omega) (λn=>∀ (i:Nat) (hi:i+1<l.length),i+1<n->l[i].At<l[i+1].At) (λi hi h=>by omega) (λi next hi U O=>?_) (λnext U=>?_)
 . refine A0 (λ_=>A0 (λh=>?_) (λh=>?_)) (λh=>by omega)
   . have e:A5 ((i:Int) - 1)=((i - 1:Nat):Int):=by rw[A7 (by omega) (by omega)]; omega
     rw[e];refine AN (by omega) (AN hi (A0 (λV=>?_) (λV=>O λ_ _ _=>?_)))
     . have:¬Rise l:=λZ=>by have:=Z.adj hi (i:=i - 1) (by omega); omega
       rw[if_pos this] at d; exact d
     grind
   grind
 . refine A0 (λh=>by omega) (λ_=>?_);rw[if_neg (λO=>O (AeX λi hi=>U i hi (by omega)))] at d;refine A6 (s0:=([]:List B9)) (λ(s:List B9) i=>(s,i)) 0 l.length (by omega) (λk s=>s=(l.take k).filterMap (nzI r)∧∀ i (hi:i<l.length),i<k->(GY l[i].Val).2=true) (by omega) ⟨by simp,λi hi h=>by omega⟩ (λk s J _ hk D O=>?_) (λs J D=>?_)
   . have⟨D,a2⟩:=D
     have a5:s.length<=k:=by grind
     refine A0 (λ_=>AN hk (zK (ho _ (RY hk)) (BZ (λW=>?_) (λW=>AbU (BU (λa4=>AK (by simp; omega) (O _ ⟨?_,?_⟩)) (λhe=>O _ ⟨?_,?_⟩)))))) (λh=>by omega)
     . rw[if_pos ⟨_,RY hk,W⟩] at d; exact d
     . rw[cZ hk,At2,<-D];simp[nzI,a4]
     . grind
     . rw[cZ hk,At2,<-D];simp[nzI,he]
     grind
   . have⟨D,a2⟩:=D;rw[nM] at D;subst D;refine A0 (λh=>by omega) (λ_=>?_);rw[if_neg] at d
     . exact d
     . rintro⟨s,D,W⟩;obtain⟨i,hi,rfl⟩:=List.mem_iff_getElem.1 D;grind
theorem Ai8 (v:Vec):(VS v).length<=4096:=by unfold VS; rw[ZY]; exact(RO v).len
theorem AbW {c:BF} {x:Vec} {rows cols:Int} {T:List A2} {Q:Int->Prop} (O:WH c) (D:x.Items.length<=1000000000) (d:ZO c=U1 rows cols T) (h:Canon cols rows T) (J:Q (S9 T (VS x))):dN c x Q:=by unfold dN;exact ZP D (AbK O (by have:=Ai8 x; omega) d h J)
def lW (f:List Int) (n:Int):Int:=((VR f).find? λi=>decide (n<=i)).getD (-1)
theorem uU {f:List Int} {n p:Int} (h:CY f p=true) (U:n<=p) (O:∀ q,q<p->n<=q->CY f q=false):lW f n=p:=by
 have hp:=T9.2 h;have d:=uS f;have D:∀ q∈VR f,CY f q=true:=λq J=>T9.1 J;unfold lW;generalize VR f=l at hp d D
 induction l with
 | nil=>simp at hp
 | cons x l V=>
  rw[AdQ] at d;grind
theorem uV {f:List Int} {n:Int} (h:∀ q,n<=q->CY f q=false):lW f n = -1:=by
 unfold lW;rw[List.find?_eq_none.2]
 . rfl
 . intro q D d;have:=h q (of_decide_eq_true d);rw[T9.1 D] at this; cases this
theorem Al3 {x:Int} (d:0<=x) (h:x<18446744073709551616):Y4 .u64 x 1=x % 2:=by rw[lP d h (by omega) (by omega),show Int.toNat 1=1 from rfl,Nat.and_one_is_mod]; omega
theorem Al4 (x:Int):shr .u64 x 1=x / 2:=AkV 1 (by omega)
theorem Af5 {f:List Int} (d:VQ f) {i j:Nat} (D:j<64) {w:Int} (J:w=BD f i / 2 ^ j):(CY f (64*i+j)=true↔w % 2=1):=by have h:=OE d i;unfold CY;grind
theorem zZ {f:List Int} (D:VQ f) {i j k:Nat} (h:j<=k) (hk:k<64) {w:Int} (V:w=BD f i / 2 ^ j) (O:w=0):CY f (64*i+k)=false:=by
 have U:=OE D i;unfold CY;rw[show(64*(i:Int)+k) / 64=i by omega,show((64*(i:Int)+k) % 64).toNat=k by omega]
 have e:w=(((BD f i).toNat / 2 ^ j:Nat):Int):=by grind
 have d:(BD f i).toNat<2 ^ j:=by
  have J:(BD f i).toNat / 2 ^ j=0:=by omega
  simp_all
 rw[Nat.testBit_lt_two_pow (AjJ d (Nat.pow_le_pow_right (by omega) h))];simp
theorem eN {f:List Int} {i j:Nat} {w:Int} (d:w=BD f i / 2 ^ j):w / 2=BD f i / 2 ^ (j+1):=by rw[d,Int.ediv_ediv_of_nonneg (by exact yW (Ak0 (by omega))),Int.pow_succ]
theorem WI {f:List Int} {n:Int} {Q:Int->Prop} (Z:VQ f) (hl:f.length<=1000000) (hQ:Q (lW f n)):PG f n Q:=by
 unfold PG KT PF;refine A6 (s0:=((0:Int),(0:Nat))) (λ(s:Int×Nat) i=>(s.1,i,s.2)) 0 f.length (by omega) (λk s=>s.2=0∧∀ q,q<64*(k:Int)->n<=q->CY f q=false) (by omega) ⟨rfl,λq U _=>U5 (by omega)⟩ (λk s next _ _ V hn=>?_) (λs next V=>?_)
 . have⟨s1,s2⟩:=s;have⟨d,W⟩:=V;simp only at d W ⊢;subst d;have J:=OE Z k;refine A0 (λ_=>BC (by omega) (by omega) ?_) (λh=>by omega)
   have a5:shl .i64 (k:Int) 6=64*(k:Int):=by show A5 ((k:Int)*2 ^ 6)=_;rw[A7 (by omega) (by omega)]; omega
   rw[a5];refine CN (λs:Int×Int×Int×Nat=>∃ j:Nat,j<=64∧s.2.2.1=64*k+j∧s.2.1=BD f k / 2 ^ j∧s.2.2.2=0∧∀ q,q<64*(k:Int)+j->n<=q->CY f q=false) (λs=>s.2.1.toNat) ⟨0,by omega,by simp,by simp,rfl,λq U=>W q (by omega)⟩ ?_;rintro⟨_,w,a4,_⟩ _ ⟨j,_,ha,D,h4,h5⟩ hnx;simp only at ha D h4 h5 ⊢;subst h4
   have O:0<=w∧w<18446744073709551616:=by rw[D];have hp:(0:Int)<2 ^ j:=Ak0 (by omega);exact⟨AjR J.1 (yW hp),Int.lt_of_le_of_lt (Ap8 _ J.1) J.2⟩
   have e1:A5 (a4+1)=64*(k:Int)+((j+1:Nat):Int):=by rw[ha,A7 (by omega) (by omega)]; omega
   refine BU (λ_=>?_) (λhe=>?_)
   . have a3:j<64:=by grind
     have a6:=Af5 Z a3 D;rw[Al3 O.1 O.2,Al4,e1];refine AZ (λd=>⟨rfl,A0 (λ_=>?_) (λ_=>?_)⟩) (λd=>?_)
     . refine B7 rfl (AH (by simp) ⟨rfl,?_⟩);grind[uU]
     . refine AH rfl (hnx _ ⟨j+1,by omega,rfl,eN D,rfl,λq U a2=>?_⟩ (by simp only; omega));omega
     . refine hnx _ ⟨j+1,by omega,rfl,eN D,rfl,λq U a2=>?_⟩ (by simp only; omega);grind
   . refine hn (_,0) ⟨rfl,λq U a2=>?_⟩;rcases Ah8 q (64*(k:Int)+j) with h | h
     . grind
     . obtain⟨m,rfl⟩:∃ m:Nat,q=64*(k:Int)+m:=⟨(q - 64*k).toNat,by omega⟩;exact zZ Z (j:=j) (by omega) (by omega) D he
 . have⟨s1,s2⟩:=s;have⟨d,W⟩:=V;simp only at d W ⊢;subst d;refine A0 (λh=>by omega) (λ_=>B7 rfl ?_);rw[uV] at hQ
   . exact hQ
   . intro q U;rcases Ah8 q (64*(f.length:Int)) with h | h
     . grind
     . exact Q6 h
theorem An4 {f:List Int} {n:Int} (d:0<=n):lW f n<0↔∀ i∈VR f,i<n:=by
 unfold lW
 cases h:(VR f).find? λi=>decide (n<=i) with
 | none=>
  grind
 | some q=>
  grind
theorem bS {f:List Int} {n:Int} {Q:Bool->Prop} (U:VQ f) (V:f.length<=1000000) (W:Q (decide (bP f n))):RG f n Q:=by
 unfold RG;have d:¬bP f n->Q false:=λh=>by rwa [decide_eq_false h] at W
 refine A0 (λD=>A0 (λJ=>bO (AZ (λO=>WI U V ?_) (λO=>d λh=>O (by rw[h.2.1])))) (λJ=>d λh=>J h.1.2)) (λD=>d λh=>D h.1.1)
 have:decide (lW f n<0)=decide (bP f n):=decide_eq_decide.2 (by rw[An4 D];exact⟨λh=>⟨⟨D,J⟩,by omega,h⟩,λh=>h.2.2⟩)
 grind
theorem bT {v:Vec} {Q:Bool->Prop} (h:VecP v) (W:Q true):RH (OH v) Q:=by
 unfold RH;have V:=h.n0; have O:=h.n1;have Z:(OH v).N=v.N:=rfl;have D:((OH v).Vals.length:Int)=v.N:=by simp[OH,XL]; omega
 refine bS (lT v) (by have:=Al1 v; omega) ?_;rw[show decide (bP (OH v).Has (OH v).N)=true from decide_eq_true (zW ⟨V,O⟩ _)];refine AH rfl (BU (λd=>absurd D d) (λ_=>?_));refine CM (OH v).Vals.length (by omega) (λ_=>True) trivial (λk next _ _ J=>?_) (λnext _=>?_)
 . refine A0 (λ_=>BC (by omega) (by omega) (BU (λd=>LN (lT v) (by unfold DH; omega) (BZ (λU=>?_) (λ_=>J trivial))) (λ_=>J trivial))) (λd=>by omega);rw[lS h] at U;have:BD (OH v).Vals (k:Int)=(G3 v.Items k).getD 0:=oS (by omega) (by omega);simp_all
 . exact A0 (λd=>by omega) (λ_=>W)
theorem AbX {rows cols:Int} {ts:List A2} {v:Vec} {Q:Rows×Dense->Prop} (h:Canon rows cols ts) (d:VecP v) (D:Q (BT rows cols ts,OH v)):dZ (BT rows cols ts) (OH v) Q:=by
 unfold dZ;refine BH (λt=>t=BT rows cols ts) ?_ ?_
 . rintro t rfl;exact bT d (AH rfl D)
 . intro k hk;refine lI h.sml ?_;rw[decide_eq_true h.right];exact AH rfl (hk _ rfl)
theorem Af6 {r rows cols:Int} {ts:List A2} {v:Vec} {i:Nat} {Q:AP×Bool->Prop} (h:Canon rows cols ts) (ht:∀ t∈ts,DH t.Val) (hv:VecP v) (hn:v.N=cols) (a8:∀ y∈v.Items,DH y.Val) (hi:(i:Int)<rows)
   (hQ:Q (((JM r cols.toNat (G3 (NJ ts i)) (G3 v.Items)).getD ⟨0,0⟩),(JM r cols.toNat (G3 (NJ ts i)) (G3 v.Items)).isSome)):lC r (BT rows cols ts) i (OH v) Q:=by
 unfold lC TW PQ;have b1:=h.r1; have b0:=h.c1; have c0:=h.len;have⟨lo,a2,Z⟩:=h.seg i;have e1:A5 ((i:Int)+1)=(i+1:Nat):=by rw[A7 (by omega) (by omega)]; omega
 rw[e1];refine XG (by omega) ?_;rw[Z.lo];have g1:=Z.le; have g2:=Z.len;have c2:NJ ts i=((ts.take a2).drop lo).map sD:=by rw[Z.eq]; simp[NJ]
 have a3:IncI (NJ ts i)∧∀ x∈NJ ts i,0<=x.At∧x.At<cols.toNat:=by rw[zY ts (by omega)];refine⟨lU h.srt _,λx hx=>?_⟩;have:=h.inn _ (U8.1 hx); unfold sB at this; grind
 have d0:=AqS (r:=r) (B:=G3 v.Items) a3.1 a3.2;refine A6 (s0:=(none:Option AP)) (λ(s:Option AP) k=>(s.isSome,(s.getD ⟨0,0⟩).Hi,(s.getD ⟨0,0⟩).Lo,k)) lo a2 (by omega) (λp d=>d=(((ts.take p).drop lo).map sD).foldl (fY r (G3 v.Items)) none) (by omega) (by simp) (λp d a5 a7 _ O W=>?_) (λd a5 O=>?_)
 . dsimp only;have U:p<ts.length:=by omega
   have a6:∀ w,d=some w->OZ w:=by subst O; exact zX r _ _ none (λw hw=>by cases hw)
   have D:(((ts.take (p+1)).drop lo).map sD).foldl (fY r (G3 v.Items)) none=fY r (G3 v.Items) d (sD ts[p]):=by rw[AeQ a7 U,dA,AdS,<-O]; rfl
   have J:=h.inn _ (RY U);unfold sB at J;refine XG (by omega) ?_;rw[Z.hi];refine A0 (λ_=>?_) (λh=>by omega);refine A9 (by omega) (x:=ts[p].Col) (by simp[BT,U]) (LN (lT v) (by unfold DH; omega) ?_);rw[lS hv];have V:BD (OH v).Vals ts[p].Col=(G3 v.Items ts[p].Col).getD 0:=oS J.2.2.1 (by omega);have a9:((OH v).Vals.length:Int)=v.N:=by have:=hv.n0; simp[OH,XL]; omega
   cases hB':G3 v.Items ts[p].Col with
   | none=>
    refine AH rfl (W d ?_);rw[D]; unfold fY; simp only[sD,hB']
   | some x=>
    rw[hB'] at V;refine B7 rfl (A9 (by omega) (x:=ts[p].Val) (by simp[BT,U]) (BC J.2.2.1 (by omega) ?_));rw[V];refine qN (ht _ (RY U)) (a8 _ (YY hB')) ?_;have a4:fY r (G3 v.Items) d (sD ts[p])=nP r d (some (L3 r ts[p].Val x)):=by unfold fY; simp only[sD,hB']
    unfold PP
    cases d with
    | none=>exact AH rfl (W (some (L3 r ts[p].Val x)) (by rw[D,a4]; rfl))
    | some w=>exact B7 rfl (bG (a6 w rfl) (U4 _ _ _) (W (some (FE r w (L3 r ts[p].Val x))) (by rw[D,a4]; rfl)))
 . dsimp only;refine XG (by omega) ?_;rw[Z.hi];refine A0 (λh=>by omega) (λ_=>?_);simp_all
theorem AbY {r rows cols:Int} {ts:List A2} {v:Vec} {f:List Int} {o:Bool} {Q:List BM×Int→Prop} (h:Canon rows cols ts) (ht:∀ t∈ts,DH t.Val) (hv:VecP v) (a4:∀ y∈v.Items,DH y.Val)
   (hf:VQ f) (V:Q (lV r rows cols ts v f o)):eA r (BT rows cols ts) (OH v) f o Q:=by
 unfold eA
 unfold lV at V
 have a6:=h.r0; have a7:=h.r1
 refine AbX h hv (PZ (BZ (fun J=>?_) (fun J=>BU (fun a3=>?_) (fun U=>?_))))
 · grind
 · rw [if_neg (by have:=of_decide_eq_true J; omega),if_pos (show v.N≠cols from a3)] at V; exact V
 have hr:=of_decide_eq_true J
 have U:v.N=cols:=U
 rw [if_neg (by omega),if_neg (by omega)] at V
 unfold TX PR
 have Z:(BT rows cols ts).Rows=rows:=rfl
 refine A6 (s0:=(([]:List BM),(0:Nat))) (fun (s:List BM×Nat) i=>(s.1,i,s.2)) 0 rows.toNat (by omega) (fun m s=>s.2=0∧s.1=L5 r m cols.toNat f o (fun i=>G3 (NJ ts i)) (G3 v.Items)) (by omega) ⟨rfl,by simp [L5]⟩ (fun i s next _ _ D W=>?_) (fun s next D=>?_)
 · obtain ⟨s,s2⟩:=s
   obtain ⟨O,D⟩:=D
   simp only at O D ⊢
   subst O
   have a8:s.length≤i:=by subst D; exact (U7 r cols.toNat f o (fun i=>G3 (NJ ts i)) (G3 v.Items) i).2.1
   have d:=YZ r i cols.toNat f o (fun i=>G3 (NJ ts i)) (G3 v.Items)
   rw [←D] at d
   refine A0 (fun _=>LN hf (by unfold DH; omega) (BZ (fun hb=>⟨rfl,?_⟩) (fun hb=>W (s,0) ⟨rfl,?_⟩))) (fun J=>by rw [Z] at J; omega)
   · have a2:H8 f o i=true:=by unfold H8; grind
     rw [if_pos a2] at d
     refine Af6 h ht hv U a4 (by omega) ?_
     cases hw:JM r cols.toNat (G3 (NJ ts i)) (G3 v.Items) with
     | none=>
      refine AH rfl (AH rfl (W (s,0) ⟨rfl,?_⟩))
      grind
     | some w=>
      refine B7 rfl (AK (by simp; omega) (AH rfl (W (s++[⟨i,w⟩],0) ⟨rfl,?_⟩)))
      grind
   · have a5:¬H8 f o i=true:=by unfold H8; grind
     grind
 · obtain ⟨s,s2⟩:=s
   obtain ⟨O,D⟩:=D
   simp only at O D ⊢
   subst O
   refine A0 (fun J=>by rw [Z] at J; omega) (fun _=>⟨rfl,?_⟩)
   grind
theorem An5 (a b:AP):eH a b∨eH b a:=by unfold eH; omega
theorem AqT {a b:AP} (h:eH a b) (d:eH b a):a=b:=by unfold eH at *; exact RN (by omega) (by omega)
theorem An6 {a b c:AP} (h:eH a b) (d:eH b c):eH a c:=by unfold eH at *; omega
def rL (a b:AP):AP:=if eH a b then a else b
theorem An7 (a b:AP):rL a b=rL b a:=by
 unfold rL;by_cases h:eH a b <;> by_cases h':eH b a
 . rw[if_pos h,if_pos h']; exact AqT h h'
 . rw[if_pos h,if_neg h']
 . rw[if_neg h,if_pos h']
 . rcases An5 a b with e | e
   . exact absurd e h
   . exact absurd e h'
theorem Ai9 (a b c:AP):rL (rL a b) c=rL a (rL b c):=by
 unfold rL;by_cases h1:eH a b <;> by_cases h2:eH b c <;> by_cases h3:eH a c <;> simp only[h1,h2,h3,if_true,if_false]
 . exact absurd (An6 h1 h2) h3
 . exfalso; unfold eH at *; omega
theorem An8 {r:Int} {a b:AP} (d:OZ a) (D:OZ b):FE r a b=FE r b a:=by
 by_cases h:r=1∨r=3∨r=4
 . have e:∀ a b,FE r a b=rL a b:=λa b=>by unfold FE rL; rw[if_pos h]
   rw[e,e]; exact An7 a b
 . by_cases h2:r=2
   . unfold FE;rw[if_neg h,if_pos h2,if_neg h,if_pos h2];by_cases e1:a=⟨0,0⟩ <;> by_cases e2:b=⟨0,0⟩ <;> simp[e1,e2]
   . by_cases h5:r=5
     . subst h5;rw[lQ d,lQ D,YW,YW,Int.add_comm]
     . unfold FE; rw[if_neg h,if_neg h2,if_neg h5,if_neg h,if_neg h2,if_neg h5]
theorem AiA {r:Int} {a b c:AP} (d:OZ a) (D:OZ b) (J:OZ c):FE r (FE r a b) c=FE r a (FE r b c):=by
 by_cases h:r=1∨r=3∨r=4
 . have e:∀ a b,FE r a b=rL a b:=λa b=>by unfold FE rL; rw[if_pos h]
   simp only[e]; exact Ai9 a b c
 . by_cases h2:r=2
   . have e:∀ a b,FE r a b=if a=⟨0,0⟩∧b=⟨0,0⟩ then ⟨0,0⟩ else ⟨0,1⟩:=λa b=>by unfold FE; rw[if_neg h,if_pos h2]
     have O:(⟨0,1⟩:AP)≠⟨0,0⟩:=by decide
     simp only[e];by_cases e1:a=⟨0,0⟩ <;> by_cases e2:b=⟨0,0⟩ <;> by_cases e3:c=⟨0,0⟩ <;> simp[e1,e2,e3]
   . by_cases h5:r=5
     . subst h5;rw[lQ d,lQ D,lQ J,YW,YW,YW,YW,Int.add_assoc]
     . unfold FE;simp only[if_neg h,if_neg h2,if_neg h5]
def okO (o:Option AP):Prop:=∀ w,o=some w->OZ w
theorem AqU {r:Int} {a b:Option AP} (d:okO a) (h:okO b):nP r a b=nP r b a:=by
 cases a with
 | none=>cases b <;> rfl
 | some x=>cases b with
  | none=>rfl
  | some y=>simp only[nP]; rw[An8 (d x rfl) (h y rfl)]
theorem oU {r:Int} {a b c:Option AP} (h:okO a) (D:okO b) (d:okO c):nP r (nP r a b) c=nP r a (nP r b c):=by
 cases a with
 | none=>cases b <;> rfl
 | some x=>cases b with
  | none=>cases c <;> rfl
  | some y=>cases c with
   | none=>rfl
   | some z=>simp only[nP]; rw[AiA (h x rfl) (D y rfl) (d z rfl)]
theorem Q8 (r:Int) (n:Nat) (A B:Int->Option Int):JM r (n+1) A B=VU r A B (JM r n A B) n:=by unfold JM; rw[ZX,AdS]; rfl
theorem Af7 (r:Int) (k:Nat) (A B:Int->Option Int):∀ m:Nat,JM r (k+m) A B=nP r (JM r k A B) (JM r m (λj=>A (j+k)) (λj=>B (j+k)))
 | 0=>by rw[eY,show JM r 0 (λj=>A (j+k)) (λj=>B (j+k))=none from rfl,U3]
 | m+1=>by
  rw[<-yT,Q8,Q8,Af7 r k A B m];have ho:=uT r m (λj=>A (j+k)) (λj=>B (j+k));generalize JM r m (λj=>A (j+k)) (λj=>B (j+k))=o at ho ⊢;unfold VU;rw[show(((k+m:Nat):Int))=(m:Int)+k by omega];simp only
  cases D:A ((m:Int)+k) with
  | none=>rfl
  | some a=>cases J:B ((m:Int)+k) with
   | none=>rfl
   | some x=>
    have d:okO (some (L3 r a x)):=λ_ h=>by have:=QZ h;subst this; exact U4 _ _ _
    exact oU (uT r k A B) ho d
theorem AiB {r:Int} {n:Nat} {A d B h:Int->Option Int} (D:∀ j:Nat,j<n->A j=d j) (O:∀ j:Nat,j<n->B j=h j):JM r n A B=JM r n d h:=by unfold JM;refine Q7 λ_ k hk=>?_;have hk:=List.mem_range.1 hk;unfold VU;rw[D k hk,O k hk]
theorem sG {l:List B9} (h:IncI l) {i a:Int}:G3 l i=some a↔(⟨i,a⟩:B9)∈l:=⟨YY,λd=>VT h d⟩
theorem Al5 {x y:Option Int} (h:∀ a,x=some a↔y=some a):x=y:=by
 cases x with
 | none=>cases y with
  | none=>rfl
  | some b=>have:=(h b).2 rfl; cases this
 | some a=>exact((h a).1 rfl).symm
def RQ (u:Vec) (a b:Int):Vec:=
 if (if u.N<b then u.N else b)<=(if 0 > a then 0 else a) then zV
 else ⟨(if u.N<b then u.N else b) - (if 0 > a then 0 else a),(u.Items.filter λx=>decide ((if 0 > a then 0 else a)<=x.At∧x.At<(if u.N<b then u.N else b))).map λx=>⟨x.At - (if 0 > a then 0 else a),x.Val⟩⟩
theorem AbZ {u:Vec} (h:VecP u) {a b:Int} (J:0<=a) (O:a<=b) (U:b<=u.N):RQ u a b=⟨b - a,(u.Items.filter λx=>decide (a<=x.At∧x.At<b)).map λx=>⟨x.At - a,x.Val⟩⟩:=by
 unfold RQ;have D:(if 0 > a then 0 else a)=a:=if_neg (by omega);have d:(if u.N<b then u.N else b)=b:=if_neg (by omega);rw[D,d];split
 . have:b=a:=by omega
   subst this;rw[List.filter_eq_nil_iff.2 (λx _=>by simp only[decide_eq_true_eq]; omega)];simp[zV]
 . rfl
theorem Aa0 {u:Vec} (h:VecP u) {a b:Int} (h0:0<=a) (V:a<=b) (W:b<=u.N):VecP (RQ u a b)∧(RQ u a b).N=b - a∧(∀ j,0<=j->j<b - a->G3 (RQ u a b).Items j=G3 u.Items (j+a))∧((∀ x∈u.Items,DH x.Val)->∀ x∈(RQ u a b).Items,DH x.Val):=by
 rw[AbZ h h0 V W];have a2:=h.n1
 have d:∀ x:B9,x∈((u.Items.filter λx=>decide (a<=x.At∧x.At<b)).map λx=>(⟨x.At - a,x.Val⟩:B9))↔(⟨x.At+a,x.Val⟩:B9)∈u.Items∧0<=x.At∧x.At+a<b:=by
   intro x;simp only[gW,AmF,decide_eq_true_eq];constructor
   . rintro⟨y,⟨J,hc⟩,rfl⟩;simp only;rw[show y.At - a+a=y.At by omega];exact⟨J,by omega,by omega⟩
   . rintro⟨J,hc⟩;refine⟨_,⟨J,by simp only; omega⟩,?_⟩;cases x; simp only[B9.mk.injEq]; exact⟨by omega,trivial⟩
 have D:IncI ((u.Items.filter λx=>decide (a<=x.At∧x.At<b)).map λx=>(⟨x.At - a,x.Val⟩:B9)):=by unfold IncI;rw[gU];exact sR (λ{x y} a3=>by simp only; omega) (gS _ h.inc)
 refine⟨⟨by simp only; omega,by simp only; omega,D,λx O=>by have:=(d x).1 O; simp only; omega⟩,rfl,λj _ _=>Al5 λ_=>?_,λZ x O=>?_⟩
 . rw[sG D,sG h.inc,d];exact⟨λU=>U.1,λU=>⟨U,by simp only; omega⟩⟩
 . have:=Z _ ((d x).1 O).1;exact this
def uW (n k:Int):Prop:=(0<=n∧n<=4096)∧(1<=k∧k<=8)
instance (n k:Int):Decidable (uW n k):=by unfold uW; infer_instance
def clI (i k:Int):Int:=if i<0 then 0 else if k<i then k else i
def AW (n k i:Int):Int:=if uW n k then clI i k*n / k else 0
theorem AvI {i k:Int} (h:1<=k):0<=clI i k∧clI i k<=k:=by grind[clI]
theorem AqV {i j k:Int} (h:i<=j) (hk:1<=k):clI i k<=clI j k:=by grind[clI]
theorem AxU {i k n:Int} (hk:1<=k∧k<=8) (d:0<=n∧n<=4096) (hi:0<=i∧i<=k):0<=i*n∧i*n<=32768:=by refine⟨AjV hi.1 d.1,?_⟩;have:=AjS (show i<=8 by omega) d.2 d.1 (by omega);omega
theorem II {n k i j:Int} (h:i<=j):AW n k i<=AW n k j:=by
 unfold AW;by_cases hm:uW n k
 . rw[if_pos hm,if_pos hm];exact Int.ediv_le_ediv (by have:=hm.2; omega) (Int.mul_le_mul_of_nonneg_right (AqV h hm.2.1) hm.1.1)
 grind
theorem Af8 (n k:Int):AW n k 0=0:=by
 unfold AW clI; split
 . rename_i d;have h:=d.2.1;rw[if_neg (by omega),if_neg (by omega),Int.zero_mul,Int.zero_ediv]
 . rfl
theorem Al6 {n k:Int} (h:uW n k):AW n k k=n:=by unfold AW clI;have d:=h.2.1;rw[if_pos h,if_neg (by omega),if_neg (by omega),Int.mul_comm,Int.mul_ediv_cancel _ (by omega)]
theorem U9 {n k i:Int}:0<=AW n k i∧(0<=n->AW n k i<=n):=by
 by_cases hm:uW n k
 . have d:=AvI (i:=i) hm.2.1;refine⟨?_,λ_=>?_⟩
   . unfold AW; rw[if_pos hm]; exact AjR (AjV d.1 hm.1.1) (by have:=hm.2; omega)
   . by_cases hi:i<=k
     . have:=II (n:=n) hi (k:=k); grind[Al6]
     . have h:=hm.2.1
       have e:AW n k i=n:=by unfold AW clI;rw[if_pos hm,if_neg (by omega),if_pos (by omega),Int.mul_comm,Int.mul_ediv_cancel _ (by omega)]
       omega
 grind[AW]
theorem toQ {P:Prop} [Decidable P] {b:Bool} {Q:Bool->Prop} (d:Q (decide P)) (h:b=true↔P):Q b:=by grind
theorem Af9 {n k:Int} {Q:Bool->Prop} (d:Q (decide (uW n k))):kS n k Q:=by unfold kS PE;refine A0 (λa=>A0 (λb=>A0 (λc=>toQ d ?_) (λc=>toQ d ?_)) (λb=>toQ d ?_)) (λa=>toQ d ?_) <;> (unfold uW; simp; omega)
theorem HN {n k i:Int} {Q:Int->Prop} (J:Q (AW n k i)):I9 n k i Q:=by
 unfold I9;unfold AW at J;refine Af9 (BZ (λh=>?_) (λh=>?_))
 . grind
 . have d:=of_decide_eq_true h;rw[if_pos d] at J
   have e:(if k<(if 0 > i then 0 else i) then k else (if 0 > i then 0 else i))=clI i k:=by unfold clI; have:=d.2; omega
   rw[e];have D:=AxU d.2 d.1 (AvI (i:=i) d.2.1);have hk:=d.2;refine⟨by omega,?_⟩;rw[A7 (x:=clI i k*n) (by omega) (by omega),Am9 D.1];have O:0<=clI i k*n / k:=AjR D.1 (by omega);have U:clI i k*n / k<=clI i k*n:=Ap8 _ D.1
   rwa [A7 (by omega) (by omega)]
theorem Q9 (n k i:Int):0<=AW n k i∧AW n k i<=4096:=by
 by_cases hm:uW n k
 . have h:=U9 (n:=n) (k:=k) (i:=i);have:=h.2 hm.1.1;have:=hm.1.2;omega
 . unfold AW; grind
def JO (n k i:Int):Int:=if 0<=i∧i<k then AW n k (i+1) - AW n k i else 0
theorem AvJ {n k i:Int} (d:0<=i) (h:i<k):AW n k (A5 (i+1))=AW n k (i+1):=by
 by_cases hm:uW n k
 . have:=hm.2;rw[A7 (by omega) (by omega)]
 . unfold AW; grind
theorem Ac0 {n k i:Int} {Q:Int->Prop} (d:Q (JO n k i)):dR n k i Q:=by
 unfold dR;unfold JO at d;refine A0 (λh=>?_) (λh=>A0 (λD=>?_) (λD=>HN (HN ?_)))
 . grind
 . grind
 . rw[if_pos (by omega)] at d;have J:=Q9 n k (i+1); have O:=Q9 n k i;rw[AvJ (by omega) (by omega),A7 (by omega) (by omega)]; exact d
def IZ (k:Int):Prop:=1<=k∧k<=8
instance (k:Int):Decidable (IZ k):=by unfold IZ; infer_instance
def XN (r c i j:Int):Prop:=(IZ r∧IZ c)∧(0<=i∧i<r)∧0<=j∧j<c
instance (r c i j:Int):Decidable (XN r c i j):=by unfold XN; infer_instance
theorem gA {k:Int} {Q:Bool->Prop} (d:Q (decide (IZ k))):TL k Q:=by unfold TL;refine A0 (λa=>toQ d ?_) (λa=>toQ d ?_) <;> (unfold IZ; simp; omega)
theorem WJ {r c i j:Int} {Q:Bool->Prop} (h:Q (decide (XN r c i j))):PD r c i j Q:=by unfold PD;refine gA (A0 (λa=>gA (A0 (λb=>A0 (λd=>A0 (λe=>A0 (λf=>toQ h ?_) (λf=>toQ h ?_)) (λe=>toQ h ?_)) (λd=>toQ h ?_)) (λb=>toQ h ?_))) (λa=>toQ h ?_)) <;> (unfold XN; unfold IZ at *; simp only[AaU,decide_eq_true_eq,false_iff]; omega)
theorem ZQ {n:Int} {Q:Bool->Prop} (d:Q (decide (0<=n∧n<=4096))):NY n Q:=by unfold NY;refine A0 (λa=>toQ d ?_) (λa=>toQ d ?_) <;> (simp; omega)
theorem HC {n k i:Int} {Q:Int×Int->Prop} (d:0<=i) (h:i<k) (D:Q (AW n k i,AW n k (i+1))):GJ n k i Q:=by unfold GJ;grind[HN,AvJ]
def AtW (rows cols:Int) (T:List A2) (r c i j:Int):Rows:=if XN r c i j then Aq5 rows cols T (AW rows r i,AW rows r (i+1)) (AW cols c j,AW cols c (j+1)) else BT 0 0 []
theorem AtX:bJ zR=BT 0 0 []:=if_neg Aq8
theorem AqW:Aq5 0 0 [] (0,0) (0,0)=BT 0 0 []:=by decide
theorem Ac1 {Q:Rows->Prop} (d:Q (BT 0 0 [])):VD zR (0,0) (0,0) Q:=by refine uA Aq7 AtX AeP ?_;grind[AqW]
theorem Ac2 {rows cols r c i j:Int} {T:List A2} {Q:Rows->Prop} (h:Canon rows cols T) (D:Q (AtW rows cols T r c i j)):dJ (BT rows cols T) r c i j Q:=by
 unfold dJ;unfold AtW at D;refine lI h.sml ?_;rw[decide_eq_true h.right];refine AH rfl (WJ (BZ (λd=>?_) (λd=>?_)))
 . rw[if_neg (of_decide_eq_false d)] at D;exact Ac1 D
 . have d:=of_decide_eq_true d;rw[if_pos d] at D;exact HC d.2.1.1 d.2.1.2 (HC d.2.2.1 d.2.2.2 (uA h.sml (Q4 h) h D))
theorem iL {rows cols r c i j:Int} {T:List A2} (h:Canon rows cols T) (d:XN r c i j):AtW rows cols T r c i j=BT (JO rows r i) (JO cols c j) (WG (AW rows r i) (AW rows r (i+1)) (AW cols c j) (AW cols c (j+1)) T)∧Canon (JO rows r i) (JO cols c j) (WG (AW rows r i) (AW rows r (i+1)) (AW cols c j) (AW cols c (j+1)) T):=by
 have D:=zP h (AW rows r i,AW rows r (i+1)) (AW cols c j,AW cols c (j+1))
 have e:∀ {n k x:Int},0<=n->0<=x∧x<k->zN (AW n k x)=AW n k x∧cHi (AW n k (x+1)) n=AW n k (x+1)∧ext (AW n k x) (AW n k (x+1)) n=JO n k x:=by
  intro n k x J hx;have h1:=U9 (n:=n) (k:=k) (i:=x); have O:=U9 (n:=n) (k:=k) (i:=x+1);have h3:=II (n:=n) (k:=k) (show x<=x+1 by omega);have h4:=O.2 J;have V:zN (AW n k x)=AW n k x:=by unfold zN; omega
  have e2:cHi (AW n k (x+1)) n=AW n k (x+1):=by unfold cHi; omega
  refine⟨V,e2,?_⟩;unfold ext JO;omega
 have⟨a1,U,W⟩:=e h.r0 d.2.1;have⟨Z,b2,b3⟩:=e h.c0 d.2.2;simp only[a1,U,W,Z,b2,b3] at D;refine⟨?_,D⟩;unfold AtW;rw[if_pos d];unfold Aq5;grind
theorem AtY {a b:Int} (d:0<=a) (h:0<=b) (D:a<=1000000) (J:b<=1000000):A5 (shr .u64 (IntKind.wrap .u64 (A5 (a+b))) 1)=(a+b) / 2:=by have e:∀ i:Int,shr .u64 i 1=i / 2:=λi=>AkV 1 (by omega);rw[A7 (x:=a+b) (by omega) (by omega),V8 (by omega) (by omega),e,A7 (by omega) (by omega)]
theorem Aa1 (x y:Int):PY x y<0↔x<y:=by unfold PY; omega
theorem gB {w:Vec} {i:Int} {Q:Int×Bool->Prop} (hP:VecP w) (hQ:∀ (m:Nat) b,m<=w.Items.length->(∀ (k:Nat) (hk:k<w.Items.length),k<m->(w.Items[k]).At<i)->(∀ (k:Nat) (hk:k<w.Items.length),m<=k->¬(w.Items[k]).At<i)->Q (m,b)):MS w i Q:=by
 have hi:=hP.inc;have a4:=hP.len;unfold MS BQ JU;refine CN (λs:Int×Int=>0<=s.1∧s.1<=s.2∧s.2<=w.Items.length∧(∀ (k:Nat) (hk:k<w.Items.length),(k:Int)<s.1->(w.Items[k]).At<i)∧(∀ (k:Nat) (hk:k<w.Items.length),s.2<=(k:Int)->¬(w.Items[k]).At<i)) (λs=>(s.2 - s.1).toNat) ⟨by simp,by simp,by simp,λk hk h=>by simp at h; omega,λk hk h=>by simp at h; omega⟩ ?_;rintro⟨a,b⟩ next ⟨J,h1,h2,W,V⟩ hn;simp only at J h1 h2 W V;refine A0 (λa3=>?_) (λa3=>?_)
 . rw[AtY J (by omega) (by omega) (by omega)];obtain⟨m,U⟩:∃ m:Nat,(a+b) / 2=(m:Int):=⟨((a+b) / 2).toNat,by omega⟩;rw[U];have O:m<w.Items.length:=by omega
   refine AN O (G8 (A0 (λZ=>?_) (λZ=>?_)))
   . rw[Aa1] at Z;rw[A7 (by omega) (by omega)];refine hn _ ⟨by simp only; omega,by simp only; omega,h2,λk hk D=>?_,V⟩ (by simp only; omega);simp only at D;by_cases e:k=m
     . grind
     . have:=hi.at O (by omega:k<m); omega
   . rw[Aa1] at Z;refine hn _ ⟨J,by simp only; omega,by simp only; omega,W,λk hk D=>?_⟩ (by simp only; omega);simp only at D;by_cases e:k=m
     . grind
     . have:=hi.at hk (by omega:m<k); omega
 . have a2:a=b:=by omega
   subst a2;obtain⟨m,rfl⟩:∃ m:Nat,a=(m:Int):=⟨a.toNat,by omega⟩;have d:∀ b,Q ((m:Int),b):=λb=>hQ m b (by omega) (λk hk h=>W k hk (by omega)) (λk hk h=>V k hk (by omega));exact A0 (λU=>AN (by omega) (G8 (d _))) (λU=>d _)
theorem Aa2 {l:List B9} {Q:List B9->Prop} (h:l.length<=1000000) (d:Q l):B6 l Q:=by unfold B6;refine MM (λe=>by subst e; exact d) (AK (by simp; omega) ?_);exact d
theorem AfA {α:Type} {xs:List α} {g:α->α} {d:List α×Int->(List α×Int->Prop)->Prop} (W:xs.length<=1000000000)
   (U:∀ (i:Nat) (s:List α) (next:List α×Int->Prop) (hi:i<xs.length) (D:s.length=xs.length),s[i]'(by omega)=xs[i]->next (s.set i (g xs[i]),A5 ((i:Int)+1))->d (s,(i:Int)) next)
   (V:∀ (next:List α×Int->Prop) s,s=xs.map g->d (s,(xs.length:Int)) next):AY d (xs,0):=by
 refine A6 (λ(s:List α) i=>(s,i)) 0 xs.length (by omega) (λk s=>s=(xs.take k).map g++xs.drop k) (by omega) (by simp) (λk s next _ hk h O=>?_) (λs next h=>?_)
 . have D:s.length=xs.length:=by grind
   have J:((xs.take k).map g).length=k:=by simp; omega
   refine U k s next hk D ?_ (O _ ?_)
   . grind
   . subst h;rw[List.set_append_right _ _ (by omega),J,AjZ,AoP hk,List.set_cons_zero,cZ hk,dA,nL];rfl
 grind
theorem Ac3 {f:Int} {v:Vec} {Q:Vec->Prop} (J:VecP v) (U:0<=f) (hi:∀ x∈v.Items,f<=x.At) (W:Q ⟨v.N,v.Items.map λx=>⟨x.At - f,x.Val⟩⟩):O3 f v Q:=by
 unfold O3 PN;have hl:=J.len; have:=J.n1;refine M6 (by omega) ?_;rw[IG J];refine Aa2 (by omega) (AfA (g:=λx:B9=>(⟨x.At - f,x.Val⟩:B9)) (by omega) (λi s next D _ d O=>?_) (λnext s V=>?_))
 . have hx:=J.ins _ (RY D); have Z:=hi _ (RY D);refine A0 (λ_=>AN (by omega) ?_) (λh=>by omega);rw[d,A7 (x:=(v.Items[i]).At - f) (by omega) (by omega)];exact AN (by omega) O
 . subst V;exact A0 (λh=>by omega) (λ_=>W)
theorem AiC {l:List B9} (h:IncI l) {f t:Int} {m n:Nat} (V:m<=n) (W:n<=l.length) (D:∀ (k:Nat) (hk:k<l.length),k<m->(l[k]).At<f) (J:∀ (k:Nat) (hk:k<l.length),m<=k->¬(l[k]).At<f)
   (U:∀ (k:Nat) (hk:k<l.length),k<n->(l[k]).At<t) (O:∀ (k:Nat) (hk:k<l.length),n<=k->¬(l[k]).At<t):(l.take n).drop m=l.filter λx=>decide (f<=x.At∧x.At<t):=by
 have e:l=l.take m++((l.take n).drop m++l.drop n):=by
   conv=>lhs; rw[<-At1 n l]
   rw[<-nL];congr 1
   conv=>lhs; rw[<-At1 m (l.take n)]
   grind
 conv=>rhs; rw[e]
 rw[gT,gT,List.filter_eq_nil_iff.2,List.filter_eq_self.2,List.filter_eq_nil_iff.2]
 . simp
 . intro x d;obtain⟨k,hk,rfl⟩:=WA d;rw[AdT] at hk;rw[AjN];have:=O (n+k) (by omega) (by omega);simp only[decide_eq_true_eq]; omega
 . intro x d;obtain⟨k,hk,rfl⟩:=WA d;rw[AdT,QY] at hk;rw[AjN,Ah4];have a:=J (m+k) (by omega) (by omega); have b:=U (m+k) (by omega) (by omega);simp only[decide_eq_true_eq]; omega
 . intro x d;obtain⟨k,hk,rfl⟩:=WA d;rw[QY] at hk;rw[Ah4];have:=D k (by omega) (by omega);simp only[decide_eq_true_eq]; omega
theorem xI {v:Vec} {a b:Int} {Q:Vec->Prop} (hl:v.Items.length<=1000000000) (J:Q (RQ (FV v) a b)):YI v a b Q:=by
 unfold YI;have d:=RO v;refine M6 hl ?_;generalize FV v=u at d J;have a3:=d.len; have:=d.n0; have:=d.n1;unfold RQ at J;generalize hf:(if 0 > a then 0 else a)=f at *;generalize ht:(if u.N<b then u.N else b)=t at *;have W:0<=f:=by omega
 have a2:t<=u.N:=by omega
 refine A0 (λh=>?_) (λh=>?_)
 . rw[if_pos h] at J; exact J
 . rw[if_neg h] at J;refine gB d λm _ _ m1 m2=>gB d λn _ Z n1 n2=>?_
   have U:m<=n:=by grind
   have O:=AiC d.inc U Z m1 m2 n1 n2;refine AtA U Z ?_;rw[SH,SH,O]
   have D:∀ x∈u.Items.filter λx=>decide (f<=x.At∧x.At<t),x∈u.Items∧f<=x.At∧x.At<t:=λx V=>by grind
   refine Ac3 (v:=⟨u.N,u.Items.filter λx=>decide (f<=x.At∧x.At<t)⟩) ⟨d.n0,d.n1,gS _ d.inc,λx V=>d.ins x (D x V).1⟩ W (λx V=>(D x V).2.1) ?_;rw[A7 (by omega) (by omega)];exact J
def FW (v:Vec) (k i:Int):Vec:=if IZ k∧0<=i∧i<k then RQ v (AW v.N k i) (AW v.N k (i+1)) else zV
def mx (a b:Int):Int:=if b > a then b else a
def mn (a b:Int):Int:=if b<a then b else a
def XO (n r c i j:Int):Int:=mx (AW n r i) (AW n c j)
def iM (n r c i j:Int):Int:=mx (XO n r c i j) (mn (AW n r (i+1)) (AW n c (j+1)))
def S5 (v:Vec) (n r c i j:Int):Vec:=
 if (0<=n∧n<=4096)∧XN r c i j∧VecP v∧v.N=JO n r i then RQ v (XO n r c i j - AW n r i) (iM n r c i j - AW n r i) else zV
theorem AqX (n r c i j:Int):0<=XO n r c i j∧XO n r c i j<=iM n r c i j∧iM n r c i j<=4096:=by have d:=Q9 n r i; have h:=Q9 n c j; have D:=Q9 n r (i+1); grind[Q9,iM,XO,mx,mn]
theorem uX {v:Vec} {n r c i j:Int} {Q:Vec->Prop} (W:v.Items.length<=1000000000) (U:Q (S5 v n r c i j)):VF v n r c i j Q:=by
 unfold VF;unfold S5 at U;have d:¬((0<=n∧n<=4096)∧XN r c i j∧VecP v∧v.N=JO n r i)->Q zV:=λD=>by rwa [if_neg D] at U
 refine ZQ (BZ (λh=>d λD=>of_decide_eq_false h D.1) (λV=>WJ (BZ (λh=>d λD=>of_decide_eq_false h D.2.1) (λJ=>F3 W (BZ (λh=>d λD=>of_decide_eq_false h D.2.2.1) (λO=>Ac0 (BU (λh=>d λD=>h D.2.2.2) (λh4=>?_))))))));have V:=of_decide_eq_true V; have J:=of_decide_eq_true J; have O:=of_decide_eq_true O;rw[if_pos ⟨V,J,O,h4⟩] at U;refine HC J.2.1.1 J.2.1.2 (HC J.2.2.1 J.2.2.2 ?_);unfold O2;refine xI W ?_;have hc:=AqX n r c i j; have hb:=Q9 n r i;have ea:(if (AW n c j) > (AW n r i) then AW n c j else AW n r i)=XO n r c i j:=rfl;have Z:(if (if (AW n c (j+1))<(AW n r (i+1)) then AW n c (j+1) else AW n r (i+1)) > XO n r c i j then (if (AW n c (j+1))<(AW n r (i+1)) then AW n c (j+1) else AW n r (i+1)) else XO n r c i j)=iM n r c i j:=rfl;simp only;rw[ea,Z,A7 (by omega) (by omega),A7 (by omega) (by omega),IG O];exact U
def shI (n:Int) (x:B9):B9:=⟨n+x.At,x.Val⟩
def lX:List Vec->Vec->Vec×Int
 | [],o=>(o,0)
 | v :: l,o=>if 4096<o.N+(FV v).N then (zV,5) else lX l ⟨o.N+(FV v).N,o.Items++(FV v).Items.map (shI o.N)⟩
theorem Ac4 {f:Int} {v:Vec} {Q:Vec->Prop} (O:v.Items.length<=1000000000) (W:0<=f∧f<=4096) (U:Q ⟨(FV v).N,(FV v).Items.map (shI f)⟩):NZ f v Q:=by
 unfold NZ PJ;have D:=RO v;refine M6 O ?_;generalize FV v=u at D U;have O:=D.len; have:=D.n1;refine Aa2 (by omega) (AfA (g:=shI f) (by omega) (λi s next J _ d V=>?_) (λnext s Z=>?_))
 . have hx:=D.ins _ (RY J);refine A0 (λ_=>AN (by omega) ?_) (λh=>by omega);rw[d,A7 (x:=f+(u.Items[i]).At) (by omega) (by omega)];exact AN (by omega) V
 . subst Z;exact A0 (λh=>by omega) (λ_=>U)
theorem xJ {l:List Vec} {Q:Vec×Int->Prop} (Z:l.length<=1000) (W:∀ v∈l,v.Items.length<=1000000000) (O:Q (lX l zV)):YE l Q:=by
 unfold YE;refine A6 (s0:=zV) (λ(s:Vec) i=>(s.N,s.Items,i)) 0 l.length (by omega) (λi s=>lX (l.drop i) s=lX l zV∧(0<=s.N∧s.N<=4096)∧s.Items.length<=i*4096) (by omega) ⟨rfl,by decide,by decide⟩ (λi s next _ hi J U=>?_) (λs next J=>?_)
 . have⟨d,V,_⟩:=J;rw[AoP hi,lX] at d;have D:=RO l[i];refine A0 (λ_=>AN hi (Ac4 (W _ (RY hi)) V ?_)) (λh=>by omega);generalize FV l[i]=u at D d;have:=D.n0; have:=D.n1; have:=D.len;rw[A7 (x:=4096 - s.N) (by omega) (by omega)];refine A0 (λh=>?_) (λh=>AK (by rw[ZY]; omega) ?_)
   . rw[if_pos (by simp only at h; omega)] at d;rw[<-d] at O; exact O
   . rw[if_neg (by simp only at h; omega)] at d;refine U ⟨A5 (s.N+u.N),s.Items++u.Items.map (shI s.N)⟩ ⟨?_,?_,?_⟩
     . rw[A7 (by omega) (by omega)]; exact d
     . simp only at h; rw[A7 (by omega) (by omega)]; grind
     grind
 . have⟨d,_,_⟩:=J;refine A0 (λh=>by omega) (λ_=>?_);rw[List.drop_length,lX] at d;simp_all
noncomputable def AiD (d:Nat->Int) (l:List Vec):Vec×Int:=if ∀ (i:Nat) (h:i<l.length),VecP l[i]∧l[i].N=d i then lX l zV else (zV,4)
noncomputable def AtZ (n r c j:Int) (l:List Vec):Vec×Int:=if ¬((0<=n∧n<=4096)∧XN r c 0 j) then (zV,3) else if (l.length:Int)≠r then (zV,4) else AiD (λi=>iM n r c i j - XO n r c i j) l
theorem AqY {n r c i j:Int} {Q:Int->Prop} (d:0<=i∧i<r) (h:0<=j∧j<c) (O:Q (iM n r c i j - XO n r c i j)):MH n r c j i Q:=by unfold MH O2;refine HC d.1 d.2 (HC h.1 h.2 ?_);have U:=AqX n r c i j;have J:(if (AW n c j) > (AW n r i) then AW n c j else AW n r i)=XO n r c i j:=rfl;have D:(if (if (AW n c (j+1))<(AW n r (i+1)) then AW n c (j+1) else AW n r (i+1)) > XO n r c i j then (if (AW n c (j+1))<(AW n r (i+1)) then AW n c (j+1) else AW n r (i+1)) else XO n r c i j)=iM n r c i j:=rfl;simp only;rw[J,D,A7 (by omega) (by omega)];exact O
theorem Ac5 {n r c j:Int} {l:List Vec} {Q:Vec×Int->Prop} (hl:l.length<=1000) (hs:∀ v∈l,v.Items.length<=1000000000) (d:Q (AtZ n r c j l)):eD n r c j l Q:=by
 unfold eD S3;unfold AtZ at d;refine ZQ (BZ (λh=>?_) (λO=>WJ (BZ (λh=>?_) (λV=>BU (λh=>?_) (λh3=>?_)))))
 . rwa [if_pos (λD=>of_decide_eq_false h D.1)] at d
 . rwa [if_pos (λD=>of_decide_eq_false h D.2)] at d
 . rwa [if_neg (λD=>D ⟨of_decide_eq_true O,of_decide_eq_true V⟩),if_pos h] at d
 have Z:=of_decide_eq_true V;rw[if_neg (λD=>D ⟨of_decide_eq_true O,Z⟩),if_neg (λh=>h h3)] at d;unfold AiD at d;refine CM l.length (by omega) (λi=>∀ (q:Nat) (W:q<l.length),q<i->VecP l[q]∧l[q].N=iM n r c q j - XO n r c q j) (λq W h=>by omega) (λi next hi U hn=>?_) (λnext U=>?_)
 . refine A0 (λ_=>AN hi (F3 (hs _ (RY hi)) (BZ (λh=>?_) (λh=>AqY (by omega) Z.2.2 (BU (λD=>?_) (λD=>hn λq W _=>?_)))))) (λh=>by omega)
   . rw[if_neg (λJ=>of_decide_eq_false h (J i hi).1)] at d; exact d
   . rw[if_neg (λJ=>D (J i hi).2)] at d; exact d
   grind
 . rw[if_pos (λi hi=>U i hi hi)] at d;exact A0 (λh=>by omega) (λ_=>xJ hl hs d)
theorem lY {k:Int} {Q:Bool->Prop} (d:Q (decide (IZ k))):PE k Q:=by unfold PE;refine A0 (λa=>toQ d ?_) (λa=>toQ d ?_) <;> (unfold IZ; simp; omega)
theorem bU {c k:Nat} {Q:Int->Prop} (D:IZ c) (hk:k<8*c) (O:Q ((k / c:Nat):Int)):X7 c k Q:=by
 unfold X7;refine lY ?_;rw[decide_eq_true D];have d:=D;unfold IZ at d;refine AH rfl (A0 (λh=>by omega) (λ_=>?_));rw[A7 (x:=(c:Int)*8) (by omega) (by omega)];refine A0 (λh=>by omega) (λ_=>⟨by omega,?_⟩);rw[Am9 (by omega),<-Int.natCast_ediv];have J:k / c<=k:=Nat.div_le_self _ _;generalize k / c=q at J O ⊢
 rwa [A7 (by omega) (by omega)]
theorem VV {c k:Nat} {Q:Int->Prop} (D:IZ c) (hk:k<8*c) (J:Q ((k % c:Nat):Int)):TN c k Q:=by unfold TN;have d:=D;unfold IZ at d;refine bU D hk (A0 (λh=>absurd h (Int.not_lt.2 (AjL _))) (λ_=>⟨by omega,?_⟩));grind
def shS (a:Int) (s:BM):BM:=⟨s.At+a,s.Val⟩
def Tb (rows cols:Int) (T:List A2) (p q i j:Int):List A2:=WG (AW rows p i) (AW rows p (i+1)) (AW cols q j) (AW cols q (j+1)) T
def AwE (r rows cols:Int) (T:List A2) (v:Vec) (p q i j:Int):List BM:=L5 r (JO rows p i).toNat (JO cols q j).toNat [] true (λa=>G3 (NJ (Tb rows cols T p q i j) a)) (G3 (FW v q j).Items)
def AfB (r rows cols:Int) (T:List A2) (v:Vec) (p q i j:Int):List BM:=(AwE r rows cols T v p q i j).map (shS (AW rows p i))
def AqZ (r rows cols:Int) (T:List A2) (v:Vec) (p q:Int) (i:Nat) (n:Nat):List (List BM):=(List.range n).map λj:Nat=>AfB r rows cols T v p q i j
theorem lZ {v:Vec} (d:VecP v) {q j:Int} (U:IZ q) (O:0<=j∧j<q):VecP (FW v q j)∧(FW v q j).N=JO v.N q j∧(∀ k,0<=k->k<JO v.N q j->G3 (FW v q j).Items k=G3 v.Items (k+AW v.N q j))∧((∀ x∈v.Items,DH x.Val)->∀ x∈(FW v q j).Items,DH x.Val):=by have h:=U9 (n:=v.N) (k:=q) (i:=j); have D:=U9 (n:=v.N) (k:=q) (i:=j+1);have J:=II (n:=v.N) (k:=q) (show j<=j+1 by omega);have:=Aa0 d h.1 J (D.2 d.n0);unfold FW JO;grind
theorem Au0 {rows cols:Int} {T:List A2} {p q i j:Int} (h:∀ t∈T,DH t.Val):∀ t∈Tb rows cols T p q i j,DH t.Val:=λt d=>by have:=h _ ((AkO t).1 d).1;exact this
theorem Au1 {a:Int} {l:List BM} (h:Rise l):Rise (l.map (shS a)):=by unfold Rise at *;grind[shS]
theorem Ar0 {a:Int}:∀ (l:List BM) (i:Int),lk (l.map (shS a)) i=lk l (i - a)
 | [],_=>rfl
 | s :: l,i=>by
  rw[NM,EA,EA,Ar0 l i];unfold shS;simp only;by_cases e:i=s.At+a
  . rw[if_pos e,if_pos (by omega)]
  . rw[if_neg e,if_neg (by omega)]
theorem Ar1 {x:Int}:CY [] x=false:=by
 by_cases hx:x<0
 . exact U5 hx
 . exact Q6 (by simp; omega)
theorem blk_prop (r rows cols:Int) (T:List A2) (v:Vec) (p q i j:Int):Rise (AfB r rows cols T v p q i j)∧(AfB r rows cols T v p q i j).length<=(JO rows p i).toNat∧wV (AfB r rows cols T v p q i j) ∧
   ∀ x:Int,lk (AfB r rows cols T v p q i j) x=if 0<=x - AW rows p i∧x - AW rows p i<((JO rows p i).toNat:Nat) then JM r (JO cols q j).toNat (G3 (NJ (Tb rows cols T p q i j) (x - AW rows p i))) (G3 (FW v q j).Items) else none:=by
 have h:=U7 r (JO cols q j).toNat [] true (λa=>G3 (NJ (Tb rows cols T p q i j) a)) (G3 (FW v q j).Items) (JO rows p i).toNat;unfold AfB AwE;refine⟨Au1 h.1,by rw[ZY]; exact h.2.1,λ_ D=>?_,λx=>?_⟩
 . obtain⟨u,d,rfl⟩:=List.mem_map.1 D;exact h.2.2.1 u d
 . rw[Ar0,h.2.2.2.2];have J:H8 [] true (x - AW rows p i)=true:=by unfold H8; rw[Ar1]; rfl
   grind
theorem Aa3 {rows cols:Int} {T:List A2} (h:Canon rows cols T) {i j a:Int} (hi:0<=i):G3 (NJ T i) j=some a↔(⟨i,j,a⟩:A2)∈T:=by
 have d:IncI ((Q3 T i.toNat).map sD):=by unfold IncI Q3;rw[gU];refine AsY ?_ (gS _ h.srt);intro a b W Z D;have U:=of_decide_eq_true (List.mem_filter.1 W).2;have O:=of_decide_eq_true (List.mem_filter.1 Z).2;unfold IY key at D;simp only[sD];omega
 unfold NJ;rw[sG d,gW];unfold Q3;constructor
 . rintro⟨t,J,V⟩;have⟨U,O⟩:=List.mem_filter.1 J;have h3:=of_decide_eq_true O;unfold sD at V;have⟨_,_,_⟩:=t;grind
 . intro J;exact⟨_,List.mem_filter.2 ⟨J,by simp; omega⟩,rfl⟩
theorem Aa4 {r rows cols:Int} {T:List A2} {v:Vec} {p q:Nat} (h:Canon rows cols T) (W:VecP v) (V:v.N=cols) (hp:IZ p) (J:IZ q) {i:Nat} (hi:i<p) {x:Int} (h0:AW rows p i<=x) (Z:x<AW rows p ((i:Int)+1)) :
  ∀ n:Nat,n<=q->(AqZ r rows cols T v p q i n).foldl (λD l=>nP r D (lk l x)) none=JM r (AW cols q n).toNat (G3 (NJ T x)) (G3 v.Items)
 | 0,_=>by rw[Int.natCast_zero,Af8]; rfl
 | n+1,hnq=>by
  have ih:=Aa4 (r:=r) h W V hp J hi h0 Z n (by omega);have a3:=Q9 rows p i;have e:AqZ r rows cols T v p q i (n+1)=AqZ r rows cols T v p q i n++[AfB r rows cols T v p q i n]:=by unfold AqZ; rw[ZX,dA]; rfl
  rw[e,AdS,ih,aN,ApH];have hg:XN (p:Int) (q:Int) (i:Int) (n:Int):=⟨⟨hp,J⟩,by omega,by omega⟩;have⟨_,hc⟩:=iL h hg;have a6:JO rows p i=AW rows p ((i:Int)+1) - AW rows p i:=by unfold JO; omega
  have a5:JO cols q n=AW cols q ((n:Int)+1) - AW cols q n:=by unfold JO; omega
  have a4:=Q9 cols q n; have a2:=II (n:=cols) (k:=q) (show(n:Int)<=(n:Int)+1 by omega);rw[(blk_prop r rows cols T v p q i n).2.2.2,if_pos (by omega)]
  have d:(AW cols q ((n+1:Nat):Int)).toNat=(AW cols q n).toNat+(JO cols q n).toNat:=by grind
  rw[d,Af7];congr 1;have U:=lZ W J (j:=n) (by omega);rw[V] at U;refine AiB (λj hj=>?_) (λj hj=>?_)
  . refine Al5 λ_=>?_;have O:(Tb rows cols T p q i n)=WG (AW rows p i) (AW rows p ((i:Int)+1)) (AW cols q n) (AW cols q ((n:Int)+1)) T:=rfl;rw[O,Aa3 hc (by omega),Aa3 h (by omega),AkO];grind
  grind
theorem Aa5 (u:Vec) (a b:Int):(RQ u a b).Items.length<=u.Items.length:=by
 unfold RQ;by_cases h:(if u.N<b then u.N else b)<=(if 0 > a then 0 else a)
 . rw[if_pos h]; simp[zV]
 grind
theorem oV (v:Vec) (k i:Int):(FW v k i).Items.length<=v.Items.length:=by
 unfold FW; split
 . exact Aa5 _ _ _
 . simp[zV]
theorem An9 (v:Vec) (n r c i j:Int):(S5 v n r c i j).Items.length<=v.Items.length:=by
 unfold S5; split
 . exact Aa5 _ _ _
 . simp[zV]
def M1 (v:Vec) (x y:Int):Vec:=⟨y - x,(v.Items.filter λt=>decide (x<=t.At∧t.At<y)).map λt=>⟨t.At - x,t.Val⟩⟩
theorem Au2 {v:Vec} (D:VecP v) {a x y:Int} (J:a<=x) (O:x<=y):(M1 v a y).Items=(M1 v a x).Items++((M1 v x y).Items.map (shI (x - a))):=by
 unfold M1;simp only
 have key:∀ l:List B9,IncI l->l.filter (λt=>decide (a<=t.At∧t.At<y))=l.filter (λt=>decide (a<=t.At∧t.At<x))++l.filter (λt=>decide (x<=t.At∧t.At<y)):=by
  intro l
  induction l with
  | nil=>intro _; rfl
  | cons t l h=>
   intro hi;have d:=List.pairwise_cons.1 hi;have h:=h d.2;by_cases c1:a<=t.At∧t.At<x
   . grind
   . by_cases c2:x<=t.At∧t.At<y
     . have U:l.filter (λt=>decide (a<=t.At∧t.At<x))=[]:=List.filter_eq_nil_iff.2 λ_ _=>by grind
       grind
     grind
 rw[key _ D.inc,dA,AdV];congr 1;refine wY λt _=>?_;unfold shI;grind
theorem AfC {v:Vec} (D:VecP v) {u:Nat->Vec} {cl:Nat->Int} (d:∀ i,0<=cl i∧cl i<=v.N) (h:∀ i,cl i<=cl (i+1)):∀ (n i:Nat),(∀ k,k<i+n->FV (u k)=M1 v (cl k) (cl (k+1))) ->
  lX ((List.range' i n).map u) (M1 v (cl 0) (cl i))=(M1 v (cl 0) (cl (i+n)),0)
 | 0,i,_=>rfl
 | n+1,i,hu=>by
  have h1:=hu i (by omega)
  have Z:cl 0<=cl i:=by
   clear hu h1
   induction i with
   | zero=>omega
   | succ i ih=>grind
  have hi:=h i;have V:=d 0; have W:=d (i+1);have:=D.n1;rw[List.range'_succ,NM,lX,h1];have U:(M1 v (cl 0) (cl i)).N=cl i - cl 0:=rfl;have O:(M1 v (cl i) (cl (i+1))).N=cl (i+1) - cl i:=rfl;rw[if_neg (by rw[U,O]; omega)]
  have J:(⟨(M1 v (cl 0) (cl i)).N+(M1 v (cl i) (cl (i+1))).N,(M1 v (cl 0) (cl i)).Items++(M1 v (cl i) (cl (i+1))).Items.map (shI (M1 v (cl 0) (cl i)).N)⟩:Vec)=M1 v (cl 0) (cl (i+1)):=by grind[Au2,M1]
  rw[J,AfC D d h n (i+1) (λk _=>hu k (by omega)),show i+1+n=i+(n+1) by omega]
theorem mA (v:Vec) (x:Int):M1 v x x=zV:=by unfold M1 zV;simp_all
theorem AfD {v:Vec} (d:VecP v) {a b:Int} (D:0<=a) (h:a<=b) (J:b<=v.N):RQ v a b=M1 v a b:=AbZ d D h J
theorem Al7 {v:Vec} (d:VecP v) {a b:Int} (D:0<=a) (h:a<=b) (J:b<=v.N):VecP (M1 v a b):=by rw[<-AfD d D h J]; exact(Aa0 d D h J).1
theorem oW {v:Vec} (d:VecP v) {k i:Int} (hk:IZ k) (hi:0<=i∧i<k):FW v k i=M1 v (AW v.N k i) (AW v.N k (i+1)):=by have h:=U9 (n:=v.N) (k:=k) (i:=i); have D:=U9 (n:=v.N) (k:=k) (i:=i+1); have J:=II (n:=v.N) (k:=k) (show i<=i+1 by omega);unfold FW;rw[if_pos ⟨hk,hi⟩,AfD d h.1 J (D.2 d.n0)]
end Go.Proofs.YtieniichmjgmcaaGreat
