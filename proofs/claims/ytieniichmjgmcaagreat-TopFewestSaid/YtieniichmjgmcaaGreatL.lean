import Derived.Test.YtieniichmjgmcaaGreatT
set_option linter.unusedVariables false
set_option linter.unusedSimpArgs false
namespace Go.Proofs.YtieniichmjgmcaaGreat
open Go Go.Fw
section
variable {α:Type}
def Q6 (x y:Int):Int:=if x<y then -1 else if y<x then 1 else 0
theorem GG {x y:Int} {Q:Int->Prop} (h:Q (Q6 x y)):CX x y Q:=by
 unfold CX HZ;unfold Q6 at h;refine A8 (by simp) (A8 (by simp) (A0 (λD=>?_) (λD=>A0 (λd=>?_) (λd=>?_))))
 all_goals grind
theorem kW {x y:Int} {Q:Int->Prop} (h:Q (Q6 x y)):HP x y Q:=by
 unfold HP N6;unfold Q6 at h;refine A8 (by simp) (A8 (by simp) (A0 (λD=>?_) (λD=>A0 (λd=>?_) (λd=>?_))))
 all_goals grind
theorem wY {x y:Int} {Q:Int->Prop} (h:Q (Q6 x y)):JL x y Q:=by
 unfold JL LX;unfold Q6 at h;refine A8 (by simp) (A8 (by simp) (A0 (λD=>?_) (λD=>A0 (λd=>?_) (λd=>?_))))
 all_goals grind
def or2 (x y:Int):Int:=if x=0 then y else x
theorem yU {x y:Int} {Q:Int->Prop} (h:Q (or2 x y)):JK [x,y] Q:=by
 unfold JK;unfold or2 at h;refine D7 2 (by omega) (λi=>(0<i->x=0)∧(1<i->y=0)) ⟨by omega,by omega⟩ (λi next hi d D=>?_) (λnext d=>?_)
 . refine A0 (λ_=>?_) (λh=>by simp at h; omega)
   match i,hi with
   | 0,_=>exact AG (by omega) (x:=x) rfl (BT (λe=>by rwa [if_neg e] at h) (λe=>D ⟨λ_=>e,by omega⟩))
   | 1,_=>exact AG (by omega) (x:=y) rfl (BT (λe=>by rwa [if_pos (d.1 (by omega))] at h) (λe=>D ⟨λ_=>d.1 (by omega),λ_=>e⟩))
 . refine A0 (λh=>by simp at h) (λ_=>?_);grind
def S5 (a:AZ):Prop:=-9223372036854775808<=a.Hi∧a.Hi<=9223372036854775807∧0<=a.Lo∧a.Lo<=18446744073709551615
def EC (x:Int):Prop:=-9223372036854775808<=x∧x<=9223372036854775807
def jX (a b:AZ):Prop:=a.Hi<b.Hi∨(a.Hi=b.Hi∧a.Lo<=b.Lo)
instance (a b:AZ):Decidable (jX a b):=by unfold jX; infer_instance
theorem YY (x:Int):IntKind.wrap .u64 x=x % 18446744073709551616:=by simp[IntKind.wrap,IntKind.bits,IntKind.signed]
theorem KJ (x:Int):A4 x=(x+9223372036854775808) % 18446744073709551616 - 9223372036854775808:=by show IntKind.wrap .i64 x=_;rw[IntKind.wrap_i64]
def bJ (v:Int):AZ:=⟨if v<0 then -1 else 0,v % 18446744073709551616⟩
theorem Aj4 {v:Int} (h:EC v):S5 (bJ v):=by grind[bJ,S5,EC]
theorem Ax4 {v:Int} (h:EC v):shr .i64 v 63=if v<0 then -1 else 0:=by unfold EC at h;show v.fdiv (2 ^ 63)=_;grind
theorem LI {v:Int} {Q:AZ->Prop} (h:EC v) (d:Q (bJ v)):OA v Q:=by unfold OA; rw[Ax4 h,YY]; exact d
theorem AdN {a b:AZ} {Q:Int->Prop} (d:Q (or2 (Q6 a.Hi b.Hi) (Q6 a.Lo b.Lo))):SO a b Q:=by unfold SO;exact kW (wY (yU d))
theorem yV {a b:AZ} {Q:AZ->Prop} (d:Q (if jX a b then a else b)):RA a b Q:=by
 unfold RA;refine AdN (A0 (λh=>?_) (λh=>?_))
 all_goals grind[jX,or2,Q6]
theorem RN {a b:AZ} (d:a.Hi=b.Hi) (h:a.Lo=b.Lo):a=b:=by cases a; simp_all
def I4 (r:Int) (a b:AZ):AZ:=
 if r=1∨r=3∨r=4 then (if jX a b then a else b)
 else if r=2 then (if a=⟨0,0⟩∧b=⟨0,0⟩ then ⟨0,0⟩ else ⟨0,1⟩)
 else if r=5 then ⟨A4 (a.Hi+b.Hi+(if 18446744073709551616<=a.Lo+b.Lo then 1 else 0)),(a.Lo+b.Lo) % 18446744073709551616⟩
 else ⟨0,0⟩
theorem XL {r:Int} {a b:AZ} (d:S5 a) (h:S5 b):S5 (I4 r a b):=by grind[I4,S5,KJ]
theorem kX {b:Bool} {Q:AZ->Prop} (d:Q (if b then ⟨0,1⟩ else ⟨0,0⟩)):ND b Q:=by
 unfold ND;refine⟨λh=>LI (by unfold EC; omega) ?_,λh=>?_⟩
 . subst h; exact d
 . grind
theorem qC {a b:AZ} {Q:AZ->Prop} (J:S5 a) (D:S5 b) (d:Q (I4 5 a b)):aZ a b Q:=by
 unfold aZ TP;have e:I4 5 a b=⟨A4 (a.Hi+b.Hi+(if 18446744073709551616<=a.Lo+b.Lo then 1 else 0)),(a.Lo+b.Lo) % 18446744073709551616⟩:=rfl;rw[e] at d;unfold S5 at J D;simp only[YY,KJ] at d ⊢;refine A0 (λh=>?_) (λh=>?_)
 all_goals grind
theorem bK {r:Int} {a b:AZ} {Q:AZ->Prop} (Z:S5 a) (U:S5 b) (d:Q (I4 r a b)):TQ r a b Q:=by
 unfold TQ;refine CE (λt=>t=decide (r=1∨r=3∨r=4)) (λt W=>?_) λ_ hk=>?_
 . subst W;refine A0 (λh=>yV ?_) (λh=>B5 (λJ=>?_) (λJ=>B5 (λD=>qC Z U ?_) (λD=>?_)))
   . grind[I4]
   . subst J;unfold I4 at d;rw[if_neg h,if_pos rfl] at d;refine CB (λ_=>kX ?_) (λ_=>kX ?_)
     all_goals grind
   . subst D; exact d
   . unfold I4 at d; rwa [if_neg h,if_neg J,if_neg D] at d
 . refine B5 (λh=>hk _ ?_) (λh=>B5 (λO=>hk _ ?_) (λO=>hk _ ?_))
   all_goals grind
def IQ (a:AZ):Int×Bool:=if (a.Hi=0∧a.Lo<=9223372036854775807)∨(a.Hi = -1∧9223372036854775808<=a.Lo) then (A4 a.Lo,true) else (0,false)
theorem yW {r:Int} {a:AZ} {Q:Int×Bool->Prop} (D:S5 a) (d:Q (IQ a)):RB r a Q:=by
 unfold RB bA;unfold S5 at D;unfold IQ at d;refine LI (by unfold EC; rw[KJ]; omega) (CB (λh=>?_) (λh=>?_))
 . rw[if_neg] at d
   . exact d
   . intro J;simp only[beq_eq_false_iff_ne,ne_eq] at h;apply h;apply RN <;> simp only[bJ,KJ] <;> (try split) <;> omega
 grind[bJ,KJ]
theorem Q7 {r:Int} {Q:Bool->Prop} (d:Q (decide (1<=r∧r<=5))):SN r Q:=by
 unfold SN;refine A0 (λh=>?_) (λh=>?_)
 all_goals grind
open Go Go.Fw Go.Sort Go.Shelf
abbrev HH:=Int×Int
def NA (a b:HH):Prop:=a.1<b.1∨(a.1=b.1∧a.2<b.2)
instance (a b:HH):Decidable (NA a b):=by unfold NA; infer_instance
theorem eK {a b c:HH} (d:NA a b) (h:NA b c):NA a c:=by grind[NA]
theorem H5 (a:HH):¬NA a a:=by unfold NA; omega
theorem Aj5 {a b:HH} (d:¬NA a b) (h:a≠b):NA b a:=by grind[NA]
def ins (r:Int) (k:HH) (v:AZ):List (HH×AZ)->List (HH×AZ)
 | []=>[(k,v)]
 | p :: l=>if NA p.1 k then p :: ins r k v l else if p.1=k then (k,I4 r p.2 v) :: l else (k,v) :: p :: l
def SC (r:Int) (ts:List (HH×Int)):List (HH×AZ):=ts.foldl (λl t=>ins r t.1 (bJ t.2) l) []
theorem AsF (r:Int) (ts:List (HH×Int)) (t:HH×Int):SC r (ts++[t])=ins r t.1 (bJ t.2) (SC r ts):=by simp[SC]
def srt (l:List (HH×AZ)):Prop:=l.Pairwise λa b=>NA a.1 b.1
theorem tM {r:Int} {k:HH} {v:AZ}:∀ {l:List (HH×AZ)} {p:HH×AZ},p∈ins r k v l->p.1=k∨∃ q∈l,q.1=p.1
 | [],p,h=>by simp[ins] at h; simp[h]
 | q :: l,p,h=>by
  unfold ins at h;split at h
  . rcases List.mem_cons.1 h with rfl | h
    . exact .inr ⟨p,by simp,rfl⟩
    . rcases tM h with h | ⟨x,hx,e⟩
      . exact .inl h
      . exact .inr ⟨x,by simp[hx],e⟩
  . split at h
    . rcases List.mem_cons.1 h with rfl | h
      . exact .inl rfl
      . exact .inr ⟨p,by simp[h],rfl⟩
    . rcases List.mem_cons.1 h with rfl | h
      . exact .inl rfl
      . exact .inr ⟨p,h,rfl⟩
theorem rY {r:Int} {k:HH} {v:AZ}:∀ {l:List (HH×AZ)},srt l->srt (ins r k v l)
 | [],_=>by simp[ins,srt]
 | p :: l,h=>by
  unfold srt at h;rw[AcZ] at h;unfold ins;split
  . rename_i hk;refine List.pairwise_cons.2 ⟨λq d=>?_,rY h.2⟩;rcases tM d with e | ⟨x,hx,e⟩
    . rw[e]; exact hk
    . rw[<-e]; exact h.1 x hx
  . rename_i hk;split
    . rename_i e;subst e;exact List.pairwise_cons.2 ⟨λq d=>h.1 q d,h.2⟩
    . rename_i e;have:=Aj5 hk e
      exact List.pairwise_cons.2 ⟨λq d=>by
       rcases List.mem_cons.1 d with rfl | d
       . exact this
       . exact eK this (h.1 q d),List.pairwise_cons.2 h⟩
theorem iK (r:Int) (ts:List (HH×Int)):srt (SC r ts):=by
 unfold SC
 suffices ∀ (ts:List (HH×Int)) (l:List (HH×AZ)),srt l->srt (ts.foldl (λl t=>ins r t.1 (bJ t.2) l) l) from this ts [] .nil
 intro ts
 induction ts with
 | nil=>grind
 | cons t ts d=>grind[rY]
theorem XM {l:List (HH×AZ)} (h:srt l):EU l:=by unfold EU;rw[AnM,nU];exact sP (R:=λa b:HH×AZ=>NA a.1 b.1) (λ{a b} d (e:a.1=b.1)=>H5 b.1 (by rw[e] at d; exact d)) h
theorem Aj6 (r:Int) (k:HH) (v:AZ):∀ l:List (HH×AZ),(ins r k v l).length<=l.length+1
 | []=>by simp[ins]
 | p :: l=>by unfold ins;have:=Aj6 r k v l;grind
theorem Aj7 {r:Int} {k:HH} {v:AZ} (d:S5 v):∀ {l:List (HH×AZ)},(∀ p∈l,S5 p.2)->∀ p∈ins r k v l,S5 p.2
 | [],_,p,h=>by simp[ins] at h; rw[h]; exact d
 | q :: l,hl,p,h=>by
  unfold ins at h;split at h
  . rcases List.mem_cons.1 h with rfl | h
    . exact hl _ (by simp)
    . exact Aj7 d (λx D=>hl x (by simp[D])) p h
  . split at h
    . rcases List.mem_cons.1 h with rfl | h
      . exact XL (hl q (by simp)) d
      . exact hl p (by simp[h])
    . rcases List.mem_cons.1 h with rfl | h
      . exact d
      . exact hl p h
theorem rZ (r:Int):∀ (ts:List (HH×Int)),(∀ t∈ts,EC t.2)->(SC r ts).length<=ts.length∧∀ p∈SC r ts,S5 p.2:=by
 suffices ∀ (ts:List (HH×Int)) (l:List (HH×AZ)),(∀ t∈ts,EC t.2)->(∀ p∈l,S5 p.2)->(ts.foldl (λl t=>ins r t.1 (bJ t.2) l) l).length<=l.length+ts.length∧∀ p∈ts.foldl (λl t=>ins r t.1 (bJ t.2) l) l,S5 p.2 from
  λts h=>by simpa[SC] using this ts [] h (by simp)
 intro ts
 induction ts with
 | nil=>grind
 | cons t ts D=>
  intro l d h;have:=D (ins r t.1 (bJ t.2) l) (λx J=>d x (by simp[J])) (Aj7 (Aj4 (d t (by simp))) h);grind[Aj6]
theorem AoU {p:HH×AZ} {l:List (HH×AZ)} {k:HH} (h:srt (p :: l)) (hk:NA k p.1):BC k (p :: l)=none:=by
 apply dJ;intro D;have⟨q,d,_⟩:=List.mem_map.1 D;rcases List.mem_cons.1 d with rfl | d
 . grind[H5]
 . have J:=eK hk ((List.pairwise_cons.1 h).1 q d);grind[H5]
theorem AaX {r:Int} {k:HH} {v:AZ} (d:HH):∀ {l:List (HH×AZ)},srt l->BC d (ins r k v l)=if d=k then some (match BC k l with | some w=>I4 r w v | none=>v) else BC d l
 | [],_=>by simp only[ins,BC]
 | p :: l,h=>by
  have ih:=AaX (r:=r) (k:=k) (v:=v) d (List.pairwise_cons.1 h).2;unfold ins;split
  . rename_i hk;have D:¬k=p.1:=λe=>H5 k (by rw[<-e] at hk; exact hk);simp only[BC,ih,if_neg D];grind
  . rename_i hk;split
    . rename_i e;subst e;simp only[BC,if_true];grind
    . rename_i e;have J:=Aj5 hk e;rw[AoU h J];simp only[BC]
theorem AoV {r:Int} {k:HH} {v:AZ} {l:List (HH×AZ)} (h:srt l):(ins r k v l).Perm (DV k (match BC k l with | some w=>I4 r w v | none=>v) l):=by
 refine oJ (XM (rY h)) (HO (XM h) _ _) λd=>?_;rw[AaX d h];by_cases e:d=k
 . subst e; simp[CO]
 . simp[e,CW e]
def U9 (l:List (HH×AZ)) (mk:HH->Int->α):List α×Int:=if l.all (λp=>(IQ p.2).2) then (l.map (λp=>mk p.1 (IQ p.2).1),0) else ([],12)
def mkT (k:HH) (v:Int):A2:=⟨k.1,k.2,v⟩
def kvE (t:B0):HH×Int:=((t.From,t.To),t.W)
def mkE (k:HH) (v:Int):B0:=⟨k.1,k.2,v⟩
theorem Aj8 {U:α->α->(Int->Prop)->Prop} (D:α->α->Int) (hc:∀ x y Q,Q (D x y)->U x y Q) (W:SWO (ltOf D)) {xs V:List α} {K:List α->Prop} (hl:xs.length<=1000000000000) (hp:xs.Perm V) (hz:V.Pairwise λx y=>D x y<0) (hK:K V):AdG U xs K:=by
 refine⟨D,λx y Q=>hc x y Q,W,by omega,λys J a3=>?_⟩
 have a2:∀ x y,D x y<0->0<=D y x:=by
  intro x y h;rcases Ag6 (D y x) 0 with d | d
  . have:=W.trans x y x (by simpa[ltOf] using h) (by simpa[ltOf] using d);rw[W.irrefl] at this; cases this
  . exact d
 have:ys=V:=eJ (J.trans hp) a3 (hz.imp λ{a b} h=>a2 a b h) λa b O Z _ _=>by have O:=(J.trans hp).mem_iff.1 O;have Z:=(J.trans hp).mem_iff.1 Z;obtain⟨_,_,rfl⟩:=WK O;obtain⟨_,_,rfl⟩:=WK Z;rw[AkW] at hz;grind
 grind
def cfT (x y:A2):Int:=or2 (Q6 x.Row y.Row) (Q6 x.Col y.Col)
theorem AaY (x y:A2):cfT x y<0↔NA (x.Row,x.Col) (y.Row,y.Col):=by unfold cfT or2 Q6 NA;omega
theorem AvD {x y:A2} {Q:Int->Prop} (h:Q (cfT x y)):dP x y Q:=by unfold dP;exact GG (GG (yU h))
theorem sA:SWO (ltOf cfT) where
 irrefl x:=by unfold ltOf; simp only[AaY]; simp[NA]
 trans x y z h1 h2:=by unfold ltOf at *; simp only[AaY,decide_eq_true_eq] at *; exact eK h1 h2
 ntrans x y z h1 h2:=by unfold ltOf at *; grind[AaY,NA]
def cfE (x y:B0):Int:=or2 (or2 (Q6 x.From y.From) (Q6 x.To y.To)) (Q6 x.W y.W)
theorem AaZ (x y:B0):cfE x y<0↔NA (x.From,x.To) (y.From,y.To)∨(x.From=y.From∧x.To=y.To∧x.W<y.W):=by unfold cfE or2 Q6 NA;omega
theorem AvE {x y:B0} {Q:Int->Prop} (h:Q (cfE x y)):VP x y Q:=by unfold VP iG;exact GG (GG (yU (kW (yU h))))
theorem AsG:SWO (ltOf cfE) where
 irrefl x:=by unfold ltOf; simp only[AaZ]; simp[NA]
 trans x y z h1 h2:=by unfold ltOf at *; simp only[AaZ,decide_eq_true_eq,NA] at *; omega
 ntrans x y z h1 h2:=by unfold ltOf at *; grind[AaZ,NA]
theorem AdO {m d:List (HH×AZ)} {l:List (HH×AZ)} {mk:HH->Int->α} (hp:d.Perm l) (h:∀ p∈d,(IQ p.2).2=true):U9 l mk=(l.map (λp=>mk p.1 (IQ p.2).1),0):=by grind[U9]
theorem AsH {l:List (HH×AZ)} {mk:HH->Int->α} {p:HH×AZ} (hp:p∈l) (d:(IQ p.2).2=false):U9 l mk=([],12):=by grind[U9]
theorem OS {β:Type} {f:α->β} {xs:List α} {i:Nat} (h:i<xs.length):(xs.take (i+1)).map f=(xs.take i).map f++[f xs[i]]:=by rw[eZ h,gW]; rfl
theorem tN {r:Int} {ts:List B0} {Q:List B0×Int->Prop} (hr:1<=r∧r<=5) (hl:ts.length<=1000000) (hv:∀ t∈ts,EC t.W) (hQ:Q (U9 (SC r (ts.map kvE)) mkE)):QP r ts Q:=by
 unfold QP;refine Q7 (A8 (by simp[hr]) ?_)
 have a4:∀ (i:Nat) t,t∈(ts.take i).map kvE->EC t.2:=by intro i t ht;obtain⟨x,Z,rfl⟩:=List.mem_map.1 ht;exact hv x (AnR Z)
 refine A9 (λ(s:List (HH×AZ)) i=>(s,i)) 0 ts.length (by omega) (λi m=>m.Perm (SC r ((ts.take i).map kvE))) (by omega) .nil (λi m next _ hi J D=>?_) (λm next J=>?_)
 . have Z:EC ts[i].W:=hv _ (TF hi);have hk:EU m:=Ao3 (J.symm.map Prod.fst) (XM (iK _ _));have a6:=(rZ r _ (a4 i)).2
   have a9:∀ w,(match BC (ts[i].From,ts[i].To) m with | some w=>I4 r w (bJ ts[i].W) | none=>bJ ts[i].W)=w->(DV (ts[i].From,ts[i].To) w m).Perm (SC r ((ts.take (i+1)).map kvE)):=by intro w V;rw[OS hi,AsF,<-V,AlD hk J];exact(AlC hk J _ _).trans (AoV (iK _ _)).symm
   refine A0 (λ_=>?_) (λh=>by omega);refine AW hi (LI Z (YX (λw V=>B2 rfl (bK ?_ (Aj4 Z) (D _ ?_))) (λV=>A8 rfl (D _ ?_))))
   . exact a6 _ (J.mem_iff.1 ((K4 hk).1 V))
   all_goals grind
 . refine A0 (λh=>by omega) (λ_=>?_);rw[QW] at J;have a3:=rZ r (ts.map kvE) (by simpa using a4 ts.length);have a2:=iK r (ts.map kvE);generalize SC r (ts.map kvE)=l at J a3 a2 hQ;have a8:l.length<=1000000:=by grind
   refine BV (λs:List B0×List (HH×AZ)=>∃ d,(d++s.2).Perm l∧s.1=d.map (λp=>mkE p.1 (IQ p.2).1)∧∀ p∈d,(IQ p.2).2=true) (λs=>s.2.length) ⟨[],by simpa using J,rfl,by simp⟩ ?_;rintro⟨_,_⟩ next ⟨d,U,rfl,a5⟩ D;simp only at U;refine W3 (λe=>?_) (λp rr hp=>?_)
   . subst e;simp only[kA] at U;refine Aj8 cfE (λ_ _ _=>AvE) AsG (by have:=U.length_eq; simp; omega) (U.map _) ?_ ?_
     . rw[nU];exact sP (R:=λa b:HH×AZ=>NA a.1 b.1) (λ{a b} h=>(AaZ _ _).2 (.inl h)) a2
     . rw[AdO (m:=[]) U a5] at hQ; exact hQ
   . have O:(d++p :: rr).Perm l:=(AnG d hp.symm).trans U;have a7:p∈l:=O.mem_iff.1 (by simp);refine yW (a3.2 p a7) (CB (λh=>?_) (λh=>?_))
     . grind[AsH]
     . refine AL ?_ (D _ ⟨d++[p],by simpa using O,by simp[mkE],?_⟩ ?_)
       . have:=O.length_eq; grind
       . grind
       . have:=hp.length_eq; grind
def e0 (p:HH×AZ):B0:=mkE p.1 0
theorem oK {f:Nat->Int} {n j:Nat} (h:j<n):((List.range n).map f)[j]? = some (f j):=by simp[h]
theorem AgN {f:Nat->Int} {n j:Nat} {v:Int}:((List.range n).map f).set j v=(List.range n).map (λi=>if i=j then v else f i):=by apply AnI;grind
theorem kY {f g:Nat->Int} {n:Nat} (h:∀ j,j<n->f j=g j):(List.range n).map f=(List.range n).map g:=AaI λj d=>h j (by simpa using d)
def FB (ts:List A2) (j:Nat):Int:=((ts.countP (λt:A2=>decide (t.Row<(j:Int))):Nat):Int)
def XN (ts:List A2) (j:Nat):Int:=((ts.countP (λt:A2=>decide (t.Row+1=(j:Int))):Nat):Int)
theorem tO (ts:List A2) (t:A2) (j:Nat):FB (ts++[t]) j=FB ts j+if t.Row<j then 1 else 0:=by grind[FB]
theorem AgO (ts:List A2) (t:A2) (j:Nat):XN (ts++[t]) j=XN ts j+if t.Row+1=j then 1 else 0:=by grind[XN]
theorem kZ (ts:List A2) (j:Nat):0<=FB ts j∧FB ts j<=ts.length:=by grind[FB]
theorem lC (ts:List A2) (j:Nat):0<=XN ts j∧XN ts j<=ts.length:=by grind[XN]
theorem YZ (j:Nat):∀ (ts:List A2),(∀ t∈ts,0<=t.Row)->FB ts (j+1)=FB ts j+XN ts (j+1)
 | [],_=>rfl
 | t :: ts,h=>by have:=YZ j ts λx d=>h x (by simp[d]);grind[FB,XN]
def BW (rows cols:Int) (ts:List A2):Rows:=⟨rows,cols,(List.range (rows.toNat+1)).map (FB ts),ts.map (·.Col),ts.map (·.Val)⟩
theorem AlE (n:Nat):List.replicate n (0:Int)=(List.range n).map λ_=>0:=by apply AnI;grind
theorem tP {rows cols:Int} {ts:List A2} {Q:Rows->Prop} (h0:0<=rows) (h1:rows<=1000000) (hl:ts.length<=1000000) (O:∀ t∈ts,0<=t.Row∧t.Row<rows) (Z:Q (BW rows cols ts)):T8 rows cols ts Q:=by
 unfold T8 XD;obtain⟨n,rfl⟩:∃ n:Nat,rows=n:=⟨rows.toNat,by omega⟩;have e:A4 ((n:Int)+1)=(n+1:Nat):=by rw[A6 (by omega) (by omega)]; omega
 rw[e];refine⟨by omega,by omega,?_⟩;simp only[VK];rw[AlE];refine A9 (λ(s:List Int×List Int×List Int) i=>(s.1,s.2.1,s.2.2,i)) 0 ts.length (s0:=((List.range (n+1)).map λ_=>0,[],[])) (by omega) (λi s=>s=((List.range (n+1)).map (XN (ts.take i)),(ts.take i).map (·.Col),(ts.take i).map (·.Val))) (by omega) (by simp[XN]) (λi s next _ hi d D=>?_) (λs next d=>?_)
 . subst d;dsimp only;have hr:=O _ (TF hi);refine A0 (λ_=>?_) (λh=>by omega);refine AW hi ?_;obtain⟨q,hq⟩:∃ q:Nat,ts[i].Row=q:=⟨ts[i].Row.toNat,by omega⟩;have J:A4 (ts[i].Row+1)=(q+1:Nat):=by rw[A6 (by omega) (by omega)]; omega
   rw[J];have hc:=lC (ts.take i) (q+1);have a3:(ts.take i).length<=ts.length:=by simp; omega
   refine AG (by omega) (oK (by omega)) (AG (by omega) (oK (by omega)) (AL (by simp; omega) (AL (by simp; omega) (D ((List.range (n+1)).map (XN (ts.take (i+1))),(ts.take (i+1)).map (·.Col),(ts.take (i+1)).map (·.Val)) rfl |> cast ?_))));congr 1;simp only[VK];rw[AgN,OS hi,OS hi];refine Prod.ext (kY λj U=>?_) rfl;rw[eZ hi,AgO];by_cases ej:j=q+1
   . subst ej; rw[if_pos (by omega),if_pos rfl,A6 (by omega) (by omega)]
   omega
 . subst d;dsimp only;refine A0 (λh=>by omega) (λ_=>?_);simp only[QW];refine A9 (λ(s:List Int) i=>(s,i)) 0 n (by omega) (λi s=>s=(List.range (n+1)).map λj=>if j<=i then FB ts j else XN ts j) (by omega) (kY λj U=>?_) (λi s next _ hi d D=>?_) (λs next d=>?_)
   . by_cases ej:j<=0
     . rw[if_pos ej,show j=0 by omega];have:∀ t∈ts,¬t.Row<((0:Nat):Int):=λt h=>by have:=O t h; omega
       have V:∀ t∈ts,¬t.Row+1=((0:Nat):Int):=λt h=>by have:=O t h; omega
       unfold XN FB;rw[List.countP_eq_zero.2 (by simpa using V),List.countP_eq_zero.2 (by simpa using this)]
     . omega
   . subst d;refine A0 (λ_=>?_) (λh=>by omega);have J:A4 ((i:Int)+1)=(i+1:Nat):=by rw[A6 (by omega) (by omega)]; omega
     rw[J] at D ⊢;refine AG (by omega) (oK (by omega)) (AG (by omega) (oK (by omega)) (AG (by omega) (oK (by omega)) (D _ ?_)));simp only[VK];rw[AgN];refine kY λj U=>?_;have a2:=kZ ts i;have W:=lC ts (i+1);rw[if_neg (show ¬i+1<=i by omega),if_pos (YG i),A6 (by omega) (by omega)];grind[YZ]
   . subst d;refine A0 (λh=>by omega) (λ_=>?_);rw[kY (g:=FB ts) λj U=>if_pos (by omega)];exact Z
def zR:Rows:=⟨0,0,[],[],[]⟩
def sB (rows cols:Int) (t:A2):Prop:=0<=t.Row∧t.Row<rows∧0<=t.Col∧t.Col<cols
instance (rows cols:Int) (t:A2):Decidable (sB rows cols t):=by unfold sB; infer_instance
theorem AsI {r:Int}:∀ {ts:List (HH×Int)} {p:HH×AZ},p∈SC r ts->∃ t∈ts,t.1=p.1:=by
 suffices ∀ (ts:List (HH×Int)) (l:List (HH×AZ)) p,p∈ts.foldl (λl t=>ins r t.1 (bJ t.2) l) l->(∃ t∈ts,t.1=p.1)∨∃ q∈l,q.1=p.1 from λ{ts p} h=>by
  rcases this ts [] p h with h | ⟨q,d,_⟩
  . exact h
  . simp at d
 intro ts
 induction ts with
 | nil=>grind
 | cons t ts D=>
  intro l p h;rcases D _ _ h with⟨x,O,e⟩ | ⟨q,d,e⟩
  . grind
  . rcases tM d with J | ⟨y,U,J⟩
    all_goals grind
theorem AsJ {mk:HH->Int->α} (l:List (HH×AZ)):(U9 l mk).1.length<=l.length:=by unfold U9; grind
theorem eL {x y:Int} {Q:Bool->Prop} (d:Q (decide (0<=x∧x<=y))):NG x y Q:=by
 unfold NG;refine A0 (λh=>?_) (λh=>?_)
 all_goals grind
def e2t (e:B0):A2:=⟨e.From,e.To,e.W⟩
theorem AyC (l:List (HH×AZ)):(U9 l mkT).1=(U9 l mkE).1.map e2t∧(U9 l mkT).2=(U9 l mkE).2:=by
 unfold U9;split
 . exact⟨by simp only[Ad2]; rfl,rfl⟩
 . exact⟨rfl,rfl⟩
theorem AlF [BEq α] [LawfulBEq α] [DecidableEq α] {xs ys:List α} {Q:Bool->Prop} (W:xs.length<=1000000000000) (D:Q (decide (xs=ys))) :
   A5 ((xs.length:Int) != (ys.length:Int)) (Q false) (B4 (λ(s:Int) (next:Int->Prop)=>A5 (decide (s<(xs.length:Int))) (AR xs s λx=>AR ys s λy=>A5 (x != y) (Q false) (next (A4 (s+1)))) (Q true)) 0):=by
 refine BT (λh=>?_) (λh=>?_)
 . rwa [decide_eq_false (λe=>h (by rw[e]))] at D
 have h:xs.length=ys.length:=by omega
 refine D7 xs.length W (λi=>∀ (j:Nat) (d:j<xs.length) (J:j<ys.length),j<i->xs[j]=ys[j]) (by simp) (λi next hi O U=>?_) (λnext O=>?_)
 . refine A0 (λ_=>?_) (λh=>by omega);refine AW hi (AW (by omega) (BT (λe=>?_) (λe=>U λj d J _=>?_)))
   . rwa [decide_eq_false (λV=>e (by subst V; rfl))] at D
   grind
 . refine A0 (λh=>by omega) (λ_=>?_)
   rwa [decide_eq_true (Ao0 h λj d J=>O j d J d)] at D
theorem AoW {xs ys:List Int} {Q:Bool->Prop} (h:xs.length<=1000000000000) (d:Q (decide (xs=ys))):FN xs ys Q:=by unfold FN; exact AlF h d
def ZQ (a:Rows):Prop:=a.Start.length<=1000000000000∧a.Col.length<=1000000000000∧a.Val.length<=1000000000000
def Ax5 (a:Rows) (i:Nat):Prop:=∀ j:Nat,AY a.Start i<=j->(j:Int)<AY a.Start ((i:Int)+1)->0<=AY a.Col j∧AY a.Col j<a.Cols∧(AY a.Start i<j->AY a.Col ((j:Int) - 1)<AY a.Col j)
structure UA (a:Rows):Prop where
 r0:0≤a.Rows
 r1:a.Rows≤4096
 c0:0≤a.Cols
 c1:a.Cols≤4096
 sl:(a.Start.length:Int)=a.Rows+1
 vl:a.Val.length=a.Col.length
 cl:a.Col.length≤65536
 s0:AY a.Start 0=0
 sn:AY a.Start a.Rows=a.Col.length
 up:∀ i:Nat,(i:Int)<a.Rows→AY a.Start i≤AY a.Start ((i:Int)+1)
 row:∀ i:Nat,(i:Int)<a.Rows→Ax5 a i
noncomputable instance (a:Rows):Decidable (UA a):=Classical.propDecidable _
theorem AuO {a:Rows} {n:Nat} (h:∀ i:Nat,i<n->AY a.Start i<=AY a.Start ((i:Int)+1)) {i j:Nat} (d:i<=j) (D:j<=n):AY a.Start i<=AY a.Start j:=by
 induction j with
 | zero=>grind
 | succ j J=>
  grind
theorem AsK {x y:Int} {Q:Bool->Prop} (h:Q (decide (x<y))):SQ x y Q:=by unfold SQ HZ;exact A8 (by simp) h
theorem AdP {xs:List Int} {Q:Bool->Prop} (W:xs.length<=1000000000) (J:(∀ i:Nat,i+1<xs.length->AY xs i<=AY xs ((i:Int)+1))->Q true) (V:(∃ i:Nat,i+1<xs.length∧¬AY xs i<=AY xs ((i:Int)+1))->Q false):G4 xs Q:=by
 unfold G4;rw[A6 (by omega) (by omega)];by_cases h0:xs.length=0
 . refine BV (λs:Int=>s = -1) (λ_=>0) (by omega) (λs next U D=>?_);subst U;exact A0 (λh=>by omega) (λ_=>J λi hi=>by omega)
 refine BV (λs:Int=>∃ j:Nat,s=j∧j<xs.length∧∀ i:Nat,j<=i->i+1<xs.length->AY xs i<=AY xs ((i:Int)+1)) (λs=>s.toNat) ⟨xs.length - 1,by omega,by omega,λi hi h=>by omega⟩ ?_;rintro _ next ⟨j,rfl,_,O⟩ D;refine A0 (λh=>?_) (λh=>J λi hi=>O i (by omega) hi);obtain⟨j,rfl⟩:∃ q,j=q+1:=⟨j - 1,by omega⟩;have e:A4 (((j+1:Nat):Int) - 1)=(j:Int):=by rw[A6 (by omega) (by omega)]; omega
 rw[e];refine AX (by omega) (by omega) (AX (by omega) (by omega) (AsK (A0 (λd=>V ⟨j,by omega,?_⟩) (λd=>D _ ⟨j,rfl,by omega,λi hi h=>?_⟩ (by omega)))))
 all_goals grind
theorem Aj9 {xs:List Int} {lo hi:Int} {j:Nat} (d:0<=lo) (h:lo<=hi) (D:hi<=xs.length) (J:lo+j<hi):AY ((xs.take hi.toNat).drop lo.toNat) j=AY xs (lo+j):=by unfold AY;grind
theorem AjA {xs:List α} {lo hi:Int} (d:0<=lo) (h:lo<=hi) (D:hi<=xs.length):((xs.take hi.toNat).drop lo.toNat).length=(hi - lo).toNat:=by grind
theorem AvF {xs:List Int} {cols:Int} {Q:Bool->Prop} (a2:0<=cols) (a3:cols<=4096) (hl:xs.length<=1000000000)
   (U:(∀ j:Nat,j<xs.length->0<=AY xs j∧AY xs j<cols∧(0<j->AY xs ((j:Int) - 1)<AY xs j))->Q true) (O:(∃ j:Nat,j<xs.length∧¬(0<=AY xs j∧AY xs j<cols∧(0<j->AY xs ((j:Int) - 1)<AY xs j)))->Q false):rU xs cols Q:=by
 unfold rU;rw[A6 (by omega) (by omega)];refine D7 xs.length (by omega) (λi=>∀ j:Nat,j<i->j<xs.length->0<=AY xs j∧AY xs j<cols∧(0<j->AY xs ((j:Int) - 1)<AY xs j)) (by simp) (λi next hi J Z=>?_) (λnext J=>?_)
 . refine A0 (λ_=>?_) (λh=>by omega);refine AX (by omega) (by omega) (eL (CB (λh=>O ⟨i,hi,λW=>?_⟩) (λh=>?_)))
   . grind
   have h:0<=AY xs i∧AY xs i<=cols - 1:=by simpa using h
   have hstep (hx:0<i->AY xs ((i:Int) - 1)<AY xs i):next (A4 ((i:Int)+1)):=Z λj D _=>by grind
   refine A0 (λV=>?_) (λV=>hstep λh=>by omega);rw[A6 (by omega) (by omega)];refine AX (by omega) (by omega) (A0 (λd=>O ⟨i,hi,λW=>?_⟩) (λd=>hstep λ_=>by omega));omega
 . exact A0 (λh=>by omega) (λ_=>U λj D=>J j D D)
theorem lD {a:Rows} {Q:Bool->Prop} (hl:ZQ a) (hQ:Q (decide (UA a))):PG a Q:=by
 unfold PG;have hno (h:¬UA a):Q false:=by grind
 have hyes (h:UA a):Q true:=by grind
 unfold ZQ at hl;refine eL (CB (λh=>hno λd=>?_) (λh=>?_))
 . have:=d.r0; have:=d.r1; grind
 have h1:0<=a.Rows∧a.Rows<=4096:=by simpa using h
 refine eL (CB (λh=>hno λd=>?_) (λh=>?_))
 . have:=d.c0; have:=d.c1; grind
 have h2:0<=a.Cols∧a.Cols<=4096:=by simpa using h
 rw[A6 (by omega) (by omega)];refine BT (λh=>hno λd=>h d.sl) (λh3=>?_);refine BT (λh=>hno λd=>h (by rw[d.vl])) (λ_=>?_);refine A0 (λh=>hno λd=>by have:=d.cl; omega) (λ_=>?_);refine AX (by omega) (by omega) (BT (λh=>hno λd=>h d.s0) (λh6=>?_));refine AX (by omega) (by omega) (BT (λh=>hno λd=>h d.sn) (λh7=>?_));obtain⟨n,hn⟩:∃ n:Nat,a.Rows=n:=⟨a.Rows.toNat,by omega⟩;have a7:a.Start.length=n+1:=by omega
 refine AdP (by omega) (λa3=>A8 rfl ?_) (λhb=>B2 rfl (hno λd=>?_));rotate_left
 . have⟨i,hi,J⟩:=hb;exact J (d.up i (by omega))
 have D:∀ i:Nat,i<n->AY a.Start i<=AY a.Start ((i:Int)+1):=λi hi=>a3 i (by omega);rw[hn] at h7 ⊢;refine D7 n (by omega) (λi=>∀ j:Nat,j<i->Ax5 a j) (by simp) (λi next hi hR a2=>?_) (λnext hR=>?_)
 . refine A0 (λ_=>?_) (λh=>by omega);have e1:A4 ((i:Int)+1)=(i:Int)+1:=A6 (by omega) (by omega);rw[e1] at a2 ⊢;have Z:0<=AY a.Start i:=by have:=AuO D (i:=0) (j:=i) (by omega) (by omega); grind
   have W:AY a.Start ((i:Int)+1)<=a.Col.length:=by have:=AuO D (i:=i+1) (j:=n) (by omega) (by omega);grind
   have hm:=D i hi;refine AX (by omega) (by omega) (AX (by omega) (by omega) ⟨Z,hm,W,?_⟩);have O:=AjA Z hm W;have U:∀ j:Nat,AY a.Start i+j<AY a.Start ((i:Int)+1)->AY ((a.Col.take (AY a.Start ((i:Int)+1)).toNat).drop (AY a.Start i).toNat) j=AY a.Col (AY a.Start i+j):=λj hj=>Aj9 Z hm W hj;refine AvF (by omega) (by omega) (by rw[O]; omega) (λa4=>A8 rfl (a2 λj hj=>?_)) (λhb=>B2 rfl (hno λd=>?_))
   . by_cases e:j=i
     . subst e;intro p a5 a6;obtain⟨q,hq⟩:∃ q:Nat,(p:Int)=AY a.Start j+q:=⟨(p - AY a.Start j).toNat,by omega⟩;have V:=a4 q (by rw[O]; omega);rw[U q (by omega),<-hq] at V;refine⟨V.1,V.2.1,λ_=>?_⟩;have:=V.2.2 (by omega);rw[show(q:Int) - 1=((q - 1:Nat):Int) by omega,U (q - 1) (by omega),show AY a.Start j+((q - 1:Nat):Int)=(p:Int) - 1 by omega] at this;exact this
     all_goals grind
   . have⟨q,hq,J⟩:=hb;rw[O] at hq;apply J;have V:=d.row i (by omega) (AY a.Start i+q).toNat (by omega) (by omega);have ep:(((AY a.Start i+q).toNat:Nat):Int)=AY a.Start i+q:=by omega
     rw[ep] at V;rw[U q (by omega)];refine⟨V.1,V.2.1,λ_=>?_⟩;have:=V.2.2 (by omega);rw[show(q:Int) - 1=((q - 1:Nat):Int) by omega,U (q - 1) (by omega),show AY a.Start i+((q - 1:Nat):Int)=AY a.Start i+q - 1 by omega];exact this
 . refine A0 (λh=>by omega) (λ_=>hyes ⟨h1.1,h1.2,h2.1,h2.2,h3,by omega,by omega,h6,by rw[hn]; exact h7,λi hi=>D i (by omega),λi hi=>hR i (by omega)⟩)
def key (t:A2):HH:=(t.Row,t.Col)
def Srt (ts:List A2):Prop:=ts.Pairwise λa b=>NA (key a) (key b)
structure Canon (rows cols:Int) (ts:List A2):Prop where
 r0:0≤rows
 r1:rows≤4096
 c0:0≤cols
 c1:cols≤4096
 len:ts.length≤65536
 srt:Srt ts
 inn:∀ t∈ts,sB rows cols t
theorem tQ {q:α->Bool}:∀ {l:List α},l.Pairwise (λa b=>q b=true->q a=true)->∀ (i:Nat) (h:i<l.length),(q l[i]=true↔i<l.countP q)
 | [],_,i,h=>by simp at h
 | a :: l,hp,i,h=>by
  rw[AcZ] at hp;rw[List.countP_cons];by_cases ha:q a=true
  . rw[if_pos ha]
    cases i with
    | zero=>simp[ha]
    | succ i=>
     have:=tQ hp.2 i (by simpa using h);grind
  . rw[if_neg ha];have J:l.countP q=0:=List.countP_eq_zero.2 λb D d=>ha (hp.1 b D d);grind
theorem Srt.row {ts:List A2} (h:Srt ts) (v:Nat) (p:Nat) (hp:p<ts.length):ts[p].Row<v↔(p:Int)<FB ts v:=by
 have:=tQ (q:=λt:A2=>decide (t.Row<(v:Int))) (l:=ts) (sP (λ{a b} d=>by simp only[decide_eq_true_eq];unfold NA key at d;simp only at d;omega) h) p hp
 simp only[decide_eq_true_eq] at this;rw[this]; unfold FB; omega
theorem AvG {f:Nat->Int} {n:Nat} {i:Int} (d:0<=i) (h:i<n):AY ((List.range n).map f) i=f i.toNat:=by unfold AY;grind
theorem sC {f:α->Int} {xs:List α} {i:Int} (d:0<=i) (h:i<xs.length):AY (xs.map f) i=f (xs[i.toNat]'(by omega)):=by unfold AY;grind
theorem bL {rows cols:Int} {ts:List A2} {i:Int} (d:0<=i) (h:i<=rows):AY (BW rows cols ts).Start i=FB ts i.toNat:=AvG d (by omega)
theorem yX {rows cols:Int} {ts:List A2} (h:Canon rows cols ts):FB ts rows.toNat=ts.length:=by have D:=h.r0;unfold FB;rw[List.countP_eq_length.2];intro t d;have:=h.inn t d;unfold sB at this;simp; omega
theorem tR {ts:List A2} (h:∀ t∈ts,0<=t.Row):FB ts 0=0:=by unfold FB;simp_all
theorem Srt.at {ts:List A2} (h:Srt ts) {i p:Nat} (hp:p<ts.length):ts[p].Row=i↔FB ts i<=p∧(p:Int)<FB ts (i+1):=by have d:=h.row i p hp;have D:=h.row (i+1) p hp;omega
theorem Canon.right {rows cols:Int} {ts:List A2} (h:Canon rows cols ts):UA (BW rows cols ts) where
 r0:=h.r0
 r1:=h.r1
 c0:=h.c0
 c1:=h.c1
 sl:=by have:=h.r0; simp[BW]; omega
 vl:=by simp[BW]
 cl:=by simpa[BW] using h.len
 s0:=by have:=h.r0;rw[bL (by omega) (by omega)];exact tR λt ht=>(h.inn t ht).1
 sn:=by have:=h.r0;show AY (BW rows cols ts).Start rows=_;rw[bL (by omega) (by omega),yX h]; simp[BW]
 up i hi:=by
  have hi:(i:Int)<rows:=hi;rw[bL (by omega) (by omega),bL (by omega) (by omega)];have e1:((i:Int)).toNat=i:=by omega
  have e2:((i:Int)+1).toNat=i+1:=by omega
  rw[e1,e2,YZ i ts λt ht=>(h.inn t ht).1];have:=lC ts (i+1);omega
 row i hi:=by
  have hi:(i:Int)<rows:=hi;intro j hj1 hj2;rw[bL (by omega) (by omega)] at hj1 hj2 ⊢;have e1:((i:Int)).toNat=i:=by omega
  have e2:((i:Int)+1).toNat=i+1:=by omega
  rw[e1] at hj1 ⊢;rw[e2] at hj2;have hb:=kZ ts (i+1);have hjl:j<ts.length:=by omega
  have hc:AY (BW rows cols ts).Col j=ts[j].Col:=by show AY (ts.map (·.Col)) j=_;grind[sC]
  have hin:=h.inn _ (TF hjl);have hr:=(h.srt.at hjl (i:=i)).2 ⟨hj1,hj2⟩;unfold sB at hin;refine⟨by rw[hc]; omega,by rw[hc]; exact hin.2.2.2,λhlt=>?_⟩;obtain⟨q,rfl⟩:∃ q,j=q+1:=⟨j - 1,by have:=kZ ts i; omega⟩
  have hc2:AY (BW rows cols ts).Col (((q+1:Nat):Int) - 1)=ts[q].Col:=by show AY (ts.map (·.Col)) _=_;grind[sC]
  have hr2:=(h.srt.at (show q<ts.length by omega) (i:=i)).2 ⟨by omega,by omega⟩;have hs:=List.pairwise_iff_getElem.1 h.srt q (q+1) (by omega) hjl (by omega);unfold NA key at hs;omega
theorem rise {a:Rows} (h:UA a) {i p q:Nat} (hi:(i:Int)<a.Rows) (J:AY a.Start i<=p) (D:(q:Int)<AY a.Start ((i:Int)+1)) (d:p<q):AY a.Col p<AY a.Col q:=by
 induction q with
 | zero=>omega
 | succ q O=>
  have:=(h.row i hi (q+1) (by omega) D).2.2 (by omega);grind
theorem AdQ:Canon 0 0 []:=⟨by omega,by omega,by omega,by omega,by simp,.nil,by simp⟩
noncomputable def bM (a:Rows):Rows:=if UA a then a else BW 0 0 []
theorem lE {a:Rows} {Q:Rows->Prop} (D:ZQ a) (d:Q (bM a)):RE a Q:=by
 unfold RE XD;unfold bM at d;refine lD D (A0 (λh=>?_) (λh=>?_))
 . grind
 . rw[if_neg h] at d;exact⟨by decide,by decide,d⟩
end
def Q8 (ts:List A2) (i:Nat):List A2:=ts.filter λt=>decide (t.Row=i)
theorem AvH {ts:List A2} (h:Srt ts) (i:Nat) {lo hi:Nat} (W:FB ts i=lo) (U:FB ts (i+1)=hi) (O:lo<=hi) (Z:hi<=ts.length):(ts.take hi).drop lo=Q8 ts i:=by
 have e:ts=ts.take lo++((ts.take hi).drop lo++ts.drop hi):=by
   have V:ts.take lo=(ts.take hi).take lo:=by grind
   rw[<-nP,V,As2,As2]
 have J:∀ (p:Nat) (hp:p<ts.length),ts[p].Row=i↔lo<=p∧p<hi:=λp hp=>by have:=h.at (i:=i) hp; omega
 unfold Q8
 conv=>rhs; rw[e]
 rw[fA,fA,List.filter_eq_nil_iff.2,List.filter_eq_self.2,List.filter_eq_nil_iff.2]
 . simp
 . intro t d;obtain⟨j,D,rfl⟩:=WK d;simp only[AiE,decide_eq_true_eq];rw[J]; omega
 . intro t d;obtain⟨j,D,rfl⟩:=WK d;simp only[AiE,Al0,decide_eq_true_eq];simp only[Ag2,QX] at D;rw[J]; omega
 . intro t d;obtain⟨j,D,rfl⟩:=WK d;simp only[Al0,decide_eq_true_eq];simp only[QX] at D;rw[J]; omega
structure Seg (ts:List A2) (i l u:Nat):Prop where
 lo:FB ts i=l
 hi:FB ts (i+1)=u
 le:l≤u
 len:u≤ts.length
 eq:(ts.take u).drop l=Q8 ts i
 row:∀ (p:Nat) (hp:p<ts.length),l≤p→p<u→ts[p].Row=i
theorem Canon.seg {rows cols:Int} {ts:List A2} (h:Canon rows cols ts) (i:Nat):∃ lo hi,Seg ts i lo hi:=by have V:=YZ i ts λt J=>(h.inn t J).1;have O:=lC ts (i+1);have U:=kZ ts (i+1);obtain⟨lo,D⟩:∃ lo:Nat,FB ts i=lo:=⟨_,rfl⟩;obtain⟨hi,d⟩:∃ hi:Nat,FB ts (i+1)=hi:=⟨_,rfl⟩;exact⟨lo,hi,D,d,by omega,by omega,AvH h.srt i D d (by omega) (by omega),λ_ hp _ _=>by have:=h.srt.at (i:=i) hp; omega⟩
theorem Canon.sml {rows cols:Int} {ts:List A2} (h:Canon rows cols ts):ZQ (BW rows cols ts):=by have:=h.r0; have:=h.r1; have:=h.len;unfold ZQ BW; simp; omega
theorem XO {rows cols:Int} {ts:List A2} {i:Nat} {K:Int->Prop} (h:(i:Int)<=rows) (hk:K (FB ts i)):AR (BW rows cols ts).Start (i:Int) K:=
 AG (by omega) (oK (by simp; omega)) hk
theorem AjB {rows cols:Int} {ts:List A2} {i:Nat} {Q:List Int×List Int->Prop} (h:Canon rows cols ts) (hi:(i:Int)<rows) (D:Q ((Q8 ts i).map (·.Col),(Q8 ts i).map (·.Val))):bB (BW rows cols ts) i Q:=by
 unfold bB;have V:=h.r1;have⟨_,_,s⟩:=h.seg i;have J:A4 ((i:Int)+1)=(i+1:Nat):=by rw[A6 (by omega) (by omega)]; omega
 rw[J];refine XO (by omega) (XO (by omega) ?_);rw[s.lo,s.hi];have d:=s.le; have O:=s.len;have U:(BW rows cols ts).Col.length=ts.length:=by simp[BW]
 have W:(BW rows cols ts).Val.length=ts.length:=by simp[BW]
 refine⟨by omega,by omega,by omega,by omega,by omega,by omega,?_⟩;simp only[VK,BW,<-List.map_take,<-List.map_drop,s.eq];exact D
def sD (t:A2):B9:=⟨t.Col,t.Val⟩
def AsL (rows:Int) (ts:List A2) (i:Int):List B9:=if 0<=i∧i<rows then (Q8 ts i.toNat).map sD else []
theorem tS (ts:List A2) (i:Nat):(Q8 ts i).length<=ts.length:=rE _ _
theorem AgP {a:Rows} {rows cols i:Int} {ts:List A2} {Q:List B9->Prop} (V:ZQ a) (W:bM a=BW rows cols ts) (h:Canon rows cols ts) (d:Q (AsL rows ts i)):rV a i Q:=by
 unfold rV;have a2:=h.r0; have a3:=h.r1; have O:=h.len;refine lE V ?_;rw[W];have e:A4 ((BW rows cols ts).Rows - 1)=rows - 1:=A6 (by show -9223372036854775808<=rows - 1; omega) (by show rows - 1<=9223372036854775807; omega);rw[e];unfold AsL at d;refine eL (CB (λJ=>?_) (λZ=>?_))
 . grind
 have Z:0<=i∧i<=rows - 1:=by grind
 rw[if_pos (by omega)] at d;obtain⟨n,rfl⟩:∃ n:Nat,i=n:=⟨i.toNat,by omega⟩;rw[VK] at d;refine AjB h (by omega) ?_;have U:=tS ts n;generalize Q8 ts n=xs at d U;refine A9 (λ(s:List B9) i=>(s,i)) 0 xs.length (by omega) (λi s=>s=(xs.take i).map sD) (by omega) rfl (λi s next _ hi D J=>?_) (λs next D=>?_)
 . subst D;dsimp only;refine A0 (λ_=>?_) (λh=>by simp at h; omega);refine AG (by omega) (x:=xs[i].Col) (by simp[hi]) (AG (by omega) (x:=xs[i].Val) (by simp[hi]) (AL ?_ (J _ ?_)))
   . simp; omega
   . rw[OS hi]; rfl
 . subst D;dsimp only;refine A0 (λh=>by simp at h) (λ_=>?_);grind
theorem AdR {ts:List A2} {lo p:Nat} (h:lo<=p) (d:p<ts.length):(ts.take (p+1)).drop lo=(ts.take p).drop lo++[ts[p]]:=by rw[eZ d,List.drop_append_of_le_length (by simp; omega)]
theorem bN {a:Rows} {rows cols:Int} {ts:List A2} {Q:List A2->Prop} (hl:ZQ a) (ha:bM a=BW rows cols ts) (h:Canon rows cols ts) (hQ:Q ts):RF a Q:=by
 unfold RF;have a4:=h.r0; have a5:=h.r1; have a6:=h.len;refine lE hl ?_;rw[ha];obtain⟨n,hn⟩:∃ n:Nat,rows=n:=⟨rows.toNat,by omega⟩;have a3:(BW rows cols ts).Rows=n:=hn;rw[a3];refine A9 (λ(s:List A2) i=>(s,i)) 0 n (by omega) (λi s=>s=ts.take (FB ts i).toNat) (by omega) (s0:=[]) (by rw[tR λt ht=>(h.inn t ht).1]; rfl) (λi s next _ _ d W=>?_) (λs next d=>?_)
 . subst d;dsimp only;refine A0 (λ_=>?_) (λh=>by omega);refine AjB h (by omega) ?_;have⟨lo,a2,s⟩:=h.seg i;have g1:=s.le; have g2:=s.len;rw[s.lo,VK];have U:(Q8 ts i).length=a2 - lo:=by rw[<-s.eq]; simp; omega
   have D:∀ (j:Nat) (O:j<(Q8 ts i).length),(Q8 ts i)[j]=ts[lo+j]'(by omega):=λj O=>by simp[<-s.eq]
   refine A9 (λ(s:List A2) i=>(s,i)) 0 (Q8 ts i).length (by omega) (λj Z=>Z=ts.take (lo+j)) (by omega) (by simp) (λj Z nx _ O d V=>?_) (λZ nx d=>?_)
   . subst d;dsimp only;refine A0 (λ_=>?_) (λh=>by simp at h; omega);have J:lo+j<ts.length:=by omega
     refine AG (by omega) (x:=ts[lo+j].Col) (by simp[O,D]) (AG (by omega) (x:=ts[lo+j].Val) (by simp[O,D]) (AL ?_ (V _ ?_)))
     . simp; omega
     . rw[show lo+(j+1)=lo+j+1 by omega,eZ J];congr 2;have:=s.row (lo+j) J (by omega) (by omega);rw[<-this]
   . subst d;dsimp only;refine A0 (λh=>by simp at h) (λ_=>W _ ?_);rw[s.hi,U,VK]; congr 1; omega
 . subst d;dsimp only;refine A0 (λh=>by omega) (λ_=>?_);have hb:=yX h;simp_all
theorem Ab0 {a:Rows} {rows cols:Int} {ts:List A2} {Q:Int->Prop} (D:ZQ a) (h:bM a=BW rows cols ts) (d:Q ts.length):dU a Q:=by unfold dU;refine lE D ?_;rw[h]; simpa[BW] using d
theorem Srt.nodup {l:List A2} (h:Srt l):l.Nodup:=by rw[AnM];exact sP (R:=λa b=>NA (key a) (key b)) (λ{a b} d (e:a=b)=>H5 (key b) (by rw[e] at d; exact d)) h
theorem AjC {l d:List A2} (h:Srt l) (D:Srt d) (J:∀ t,t∈l↔t∈d):l=d:=
 eJ ((AcX h.nodup D.nodup).2 J) h D λ_ _ _ _ U O=>absurd (eK U O) (H5 _)
theorem Q9 {rows cols:Int} {ts:List A2} (h:Canon rows cols ts):bM (BW rows cols ts)=BW rows cols ts:=by unfold bM; rw[if_pos h.right]
def iL (t:A2):A2:=⟨t.Col,t.Row,t.Val⟩
def NV (cols:Int) (ts:List A2):List A2:=(List.range cols.toNat).flatMap λc:Nat=>(ts.filter λt:A2=>decide (t.Col=(c:Int))).map iL
theorem XP {rows cols:Int} {ts:List A2} (h:Canon rows cols ts) (t:A2):t∈NV cols ts↔iL t∈ts:=by
 unfold NV;simp only[List.mem_flatMap,AiL,hM,Ag4,decide_eq_true_eq];constructor
 . rintro⟨_,_,_,⟨hu,_⟩,rfl⟩; exact hu
 . intro d;have:=h.inn _ d;unfold sB iL at this;simp only at this;exact⟨t.Row.toNat,by omega,iL t,⟨d,by show t.Row=_; omega⟩,rfl⟩
theorem bO {ts:List A2} (cols:Int) (h:Srt ts):Srt (NV cols ts):=by
 unfold Srt NV;rw[List.pairwise_flatMap];refine⟨λc _=>?_,?_⟩
 . rw[nU];refine ArY (λ{a b} ha U d=>?_) (gX (R:=λa b=>NA (key a) (key b)) (λt=>decide (t.Col=(c:Int))) h);have J:=(List.mem_filter.1 ha).2;have D:=(List.mem_filter.1 U).2;simp only[decide_eq_true_eq] at J D;unfold NA key at *;grind[iL]
 . refine sP (λ{a b} d x Z y W=>?_) (AnO (n:=cols.toNat));obtain⟨_,V,rfl⟩:=List.mem_map.1 Z;obtain⟨_,O,rfl⟩:=List.mem_map.1 W;have J:=(List.mem_filter.1 V).2;have D:=(List.mem_filter.1 O).2;simp only[decide_eq_true_eq] at J D;unfold NA key iL;grind
theorem AgQ {ts:List A2} (h:Srt ts):(ts.map iL).Nodup:=by
 rw[AnM,nU];refine sP (R:=λa b=>NA (key a) (key b)) (λ{a b} d e=>?_) h
 have:a=b:=by cases a; cases b;grind[iL]
 subst this; exact H5 _ d
theorem yY {rows cols:Int} {ts:List A2} (h:Canon rows cols ts):(ts.map iL).Perm (NV cols ts):=by refine(AcX (AgQ h.srt) (bO cols h.srt).nodup).2 λt=>?_;rw[XP h,hM];exact⟨by rintro⟨_,d,rfl⟩; exact d,λD=>⟨iL t,D,rfl⟩⟩
theorem Z0 {rows cols:Int} {ts:List A2} (h:Canon rows cols ts):Canon cols rows (NV cols ts) where
 r0:=h.c0
 r1:=h.c1
 c0:=h.r0
 c1:=h.r1
 len:=by have:=(yY h).length_eq; have:=h.len; simp at *; omega
 srt:=bO cols h.srt
 inn t ht:=by have:=h.inn _ ((XP h t).1 ht);unfold sB iL at *;grind
theorem AdS {a:Rows} {rows cols:Int} {ts:List A2} {Q:Rows->Prop} (hl:ZQ a) (Z:bM a=BW rows cols ts) (h:Canon rows cols ts) (V:Q (BW cols rows (NV cols ts))):kQ a Q:=by
 unfold kQ;have a2:=h.len;have a4:=h.c1; have a3:=h.c0;refine lE hl ?_;rw[Z];refine bN h.sml (Q9 h) h ?_;refine A9 (λ(s:List A2) i=>(s,i)) 0 ts.length (by omega) (λi s=>s=(ts.take i).map iL++ts.drop i) (by omega) (by simp) (λi s next _ hi J hn=>?_) (λs next J=>?_)
 . subst J;dsimp only;have D:ts.drop i=ts[i] :: ts.drop (i+1):=ArX hi;have d:((ts.take i).map iL).length=i:=by simp; omega
   have W:((ts.take i).map iL++ts.drop i)[i]? = some ts[i]:=by grind
   refine A0 (λ_=>?_) (λh=>by omega);refine AG (by omega) (by simpa using W) (AG (by omega) (by simpa using W) (hn _ ?_));rw[VK,List.set_append,if_neg (by omega),d,Nat.sub_self,D,OS hi,nP]; rfl
 . subst J;dsimp only;refine A0 (λh=>by omega) (λ_=>?_);rw[QW,List.drop_length,kA];have U:=Z0 h;refine Aj8 cfT (λ_ _ _=>AvD) sA (by simp; omega) (yY h) ?_ ?_
   . exact sP (R:=λa b=>NA (key a) (key b)) (λ{a b} O=>(AaY _ _).2 O) U.srt
   . refine tP (show 0<=cols by omega) (show cols<=1000000 by omega) (by have:=U.len; omega) (λt ht=>?_) V;have:=U.inn t ht;unfold sB at this;exact⟨this.1,this.2.1⟩
def yZ (l:Int):Int:=if 0 > l then 0 else l
def cHi (h n:Int):Int:=if n<h then n else h
def ext (l h n:Int):Int:=if yZ l<cHi h n then cHi h n - yZ l else 0
def WS (l h c d:Int) (ts:List A2):List A2:=(ts.filter λt=>decide ((l<=t.Row∧t.Row<h)∧(c<=t.Col∧t.Col<d))).map λt=>⟨t.Row - l,t.Col - c,t.Val⟩
def AoX (rows cols:Int) (ts:List A2) (p q:Int×Int):Rows:=BW (ext p.1 p.2 rows) (ext q.1 q.2 cols) (WS (yZ p.1) (cHi p.2 rows) (yZ q.1) (cHi q.2 cols) ts)
theorem tT (l h n:Int) (D:0<=n) (d:n<=4096):0<=ext l h n∧ext l h n<=n∧0<=yZ l∧cHi h n<=n:=by unfold ext yZ cHi; (repeat' split) <;> omega
theorem zB {rows cols:Int} {ts:List A2} (h:Canon rows cols ts) (p q:Int×Int):Canon (ext p.1 p.2 rows) (ext q.1 q.2 cols) (WS (yZ p.1) (cHi p.2 rows) (yZ q.1) (cHi q.2 cols) ts):=by
 have W:=tT p.1 p.2 rows h.r0 h.r1;have Z:=tT q.1 q.2 cols h.c0 h.c1;have h3:=h.r1; have h4:=h.c1;refine⟨by omega,by omega,by omega,by omega,?_,?_,?_⟩
 . have:=h.len;unfold WS;rw[nW];exact gZ (rE _ _) this
 . unfold Srt WS;rw[nU];refine sP (λ{a b} O=>?_) (gX (R:=λa b=>NA (key a) (key b)) _ h.srt);unfold NA key at *;simp only at *;omega
 . intro t d;obtain⟨_,D,rfl⟩:=List.mem_map.1 d;have J:=(List.mem_filter.1 D).2;simp only[decide_eq_true_eq] at J;have U:ext p.1 p.2 rows=cHi p.2 rows - yZ p.1:=by unfold ext; rw[if_pos (by omega)]
   have V:ext q.1 q.2 cols=cHi q.2 cols - yZ q.1:=by unfold ext; rw[if_pos (by omega)]
   unfold sB;simp only;omega
theorem zC {p:Int×Int} {n:Int} {Q:Int×Int->Prop} (J:0<=n) (D:n<=4096) (d:Q (yZ p.1,ext p.1 p.2 n)):TV p n Q:=by
 unfold TV;show A5 (decide (cHi p.2 n<=yZ p.1)) (Q (yZ p.1,0)) (Q (yZ p.1,A4 (cHi p.2 n - yZ p.1)));have O:=tT p.1 p.2 n J D;unfold ext at d;refine A0 (λh=>?_) (λh=>?_)
 . rwa [if_neg (by omega)] at d
 . rw[if_pos (by omega)] at d
   rwa [A6 (by omega) (by omega)]
def wZ (c d:Int) (t:A2):Bool:=decide (c<=t.Col∧t.Col<d)
def shf (l c:Int) (t:A2):A2:=⟨t.Row - l,t.Col - c,t.Val⟩
theorem AoY {ts:List A2} (h:Srt ts) (l c d:Int) (v:Nat) (V:l<=v):WS l ((v:Int)+1) c d ts=WS l v c d ts++((Q8 ts v).filter (wZ c d)).map (shf l c):=by
 unfold WS;rw[show(λt:A2=>(⟨t.Row - l,t.Col - c,t.Val⟩:A2))=shf l c from rfl,<-gW];congr 1;refine AjC (gX _ h) (List.pairwise_append.2 ⟨gX _ h,gX _ (gX _ h),λ_ D _ O=>?_⟩) λt=>?_
 . have U:=(List.mem_filter.1 D).2;have J:=(List.mem_filter.1 (List.mem_filter.1 O).1).2;simp only[decide_eq_true_eq] at U J;unfold NA key;omega
 . unfold Q8 wZ;grind
theorem AjD {ts:List A2} {l h c d:Int} (D:h<=l):WS l h c d ts=[]:=by unfold WS;rw[List.filter_eq_nil_iff.2]; all_goals grind
theorem tU {a:Rows} {rows cols:Int} {ts:List A2} {p q:Int×Int} {Q:Rows->Prop} (hl:ZQ a) (ha:bM a=BW rows cols ts) (h:Canon rows cols ts) (V:Q (AoX rows cols ts p q)):VR a p q Q:=by
 unfold VR;have d8:=h.len;have d6:=h.r1; have d5:=h.c1;have b1:=tT p.1 p.2 rows h.r0 h.r1;have b2:=tT q.1 q.2 cols h.c0 h.c1;refine lE hl ?_;rw[ha];refine zC h.r0 h.r1 (zC h.c0 h.c1 ?_);show B4 _ _;have d:=zB h p q;unfold AoX at V;have c2:(BW rows cols ts).Rows=rows:=rfl;have a8:(BW rows cols ts).Cols=cols:=rfl;rw[a8,c2];generalize hL:yZ p.1=L at *;generalize hH:cHi p.2 rows=H at *;generalize hC:yZ q.1=C at *;generalize hD:cHi q.2 cols=D at *;have eE:ext p.1 p.2 rows=if L<H then H - L else 0:=by unfold ext; rw[hL,hH]
 have eF:ext q.1 q.2 cols=if C<D then D - C else 0:=by unfold ext; rw[hC,hD]
 generalize ext p.1 p.2 rows=E at *;generalize ext q.1 q.2 cols=F at *;dsimp only;obtain⟨n,hn⟩:∃ n:Nat,E=n:=⟨E.toNat,by omega⟩;rw[hn];refine A9 (λ(s:List A2) i=>(s,i)) 0 n (by omega) (λi s=>s=WS L (L+(i:Nat)) C D ts) (by omega) (s0:=[]) (by rw[AjD (by omega)]) (λi s next _ _ J U=>?_) (λs next J=>?_)
 . subst J;dsimp only
   have d3:L<H∧E=H - L:=by omega
   obtain⟨v,hv⟩:∃ v:Nat,L+(i:Int)=v:=⟨(L+i).toNat,by omega⟩;have e1:A4 (L+(i:Int))=v:=by rw[A6 (by omega) (by omega)]; exact hv
   rw[e1];refine A0 (λ_=>?_) (λh=>by omega);refine AgP h.sml (Q9 h) h ?_;have d1:AsL rows ts v=(Q8 ts v).map sD:=by unfold AsL; grind
   rw[d1];have d7:=tS ts v;have d2:∀ t∈Q8 ts v,t.Row=v:=λt Z=>by simpa using (List.mem_filter.1 Z).2
   have b0:∀ t∈Q8 ts v,sB rows cols t:=λt Z=>h.inn t (List.mem_filter.1 Z).1;have a2:=AoY h.srt L C D v (by omega);rw[show(v:Int)+1=L+((i+1:Nat):Int) by omega] at a2;rw[a2] at U
   have a5:(WS L v C D ts).length<=ts.length:=by unfold WS;grind
   rw[hv];generalize WS L v C D ts=a6 at U a5;generalize Q8 ts v=xs at *;refine A9 (λ(s:List A2) i=>(s,i)) 0 xs.length (by omega) (λj s=>s=a6++((xs.take j).filter (wZ C D)).map (shf L C)) (by omega) (by simp) (λj s nx _ W J a3=>?_) (λs nx J=>?_)
   . subst J;dsimp only;refine A0 (λ_=>?_) (λh=>by simp at h; omega);have J:=TF W;have a9:=b0 _ J;have hr:=d2 _ J;unfold sB at a9
     have d0:(xs.take (j+1)).filter (wZ C D)=(xs.take j).filter (wZ C D)++if wZ C D xs[j]=true then [xs[j]] else []:=by rw[eZ W,fA,AnL,List.filter_nil]
     refine AG (by omega) (x:=sD xs[j]) (by simp[W]) ?_;have a7:(sD xs[j]).At=xs[j].Col:=rfl;have a4:(sD xs[j]).Val=xs[j].Val:=rfl;rw[a7,a4];refine CE (λb=>b=wZ C D xs[j]) ?_ λ_ hk=>?_
     . rintro _ rfl;refine⟨λO=>AL ?_ (a3 _ ?_),λO=>a3 _ ?_⟩
       . grind
       . have d4:C<=xs[j].Col∧xs[j].Col<D:=by grind[wZ]
         rw[d0,if_pos O,gW,nP,A6 (x:=xs[j].Col - C) (by omega) (by omega)];grind[shf]
       grind
     . refine A0 (λO=>hk _ ?_) (λO=>hk _ ?_)
       . unfold wZ;apply decide_eq_decide.2;rw[eF,A6 (x:=xs[j].Col - C) (by omega) (by omega)];omega
       grind[wZ]
   . subst J;dsimp only;refine A0 (λh=>by simp at h) (λ_=>U _ ?_);grind
 . subst J;dsimp only;refine A0 (λh=>by omega) (λ_=>?_)
   have e:WS L (L+(n:Int)) C D ts=WS L H C D ts:=by grind[AjD]
   rw[e];rw[hn] at d V;refine tP (by omega) (by omega) (by have:=d.len; omega) (λt Z=>?_) V;have:=d.inn t Z;unfold sB at this;omega
theorem AlG {r rows cols:Int} {kvs:List (HH×Int)} (h:0<=rows∧rows<=4096∧0<=cols∧cols<=4096) (O:kvs.length<=65536) (hk:∀ t∈kvs,sB rows cols (mkT t.1 0)) (D:∀ t∈kvs,EC t.2):Canon rows cols (U9 (SC r kvs) mkT).1:=by
 refine⟨h.1,h.2.1,h.2.2.1,h.2.2.2,?_,?_,?_⟩
 . exact gZ (AsJ _) (by have:=(rZ r kvs D).1; omega)
 . unfold U9;split
   . unfold Srt;rw[nU];exact iK r kvs
   . exact .nil
 . intro t d;unfold U9 at d;split at d
   . obtain⟨_,hp,rfl⟩:=List.mem_map.1 d;have⟨x,J,_⟩:=AsI hp;have:=hk x J;unfold sB mkT at *;grind
   . simp at d
def inE (n:Int) (e:B0):Prop:=(0<=e.From∧e.From<n)∧(0<=e.To∧e.To<n)
instance (n:Int) (e:B0):Decidable (inE n e):=by unfold inE; infer_instance
def wOk (e:B0):Prop:=0<=e.W∧e.W<=2147483647
instance (e:B0):Decidable (wOk e):=by unfold wOk; infer_instance
def F3 (g:Graph):Int:=
 if g.N<0 then 3 else if 4096<g.N∨65536<g.Edges.length then 5 else if ¬ ∀ e∈g.Edges,inE g.N e then 3 else if ¬ ∀ e∈g.Edges,wOk e then 7 else 0
theorem NW {g:Graph} (h:F3 g=0):0<=g.N∧g.N<=4096∧g.Edges.length<=65536∧(∀ e∈g.Edges,inE g.N e)∧∀ e∈g.Edges,wOk e:=by grind[F3]
theorem OT {g:Graph} {Q:Int->Prop} (J:Q (F3 g)):L8 g Q:=by
 unfold L8;unfold F3 at J;refine A0 (λh=>?_) (λh=>?_)
 . grind
 rw[if_neg h] at J;refine CE (λb=>b=decide (4096<g.N∨65536<g.Edges.length)) ?_ λ_ hk=>?_
 . rintro _ rfl;refine A0 (λh5=>?_) (λh5=>?_)
   . grind
   rw[if_neg h5] at J;unfold D8 DN O8 KU;refine D7 g.Edges.length (by omega) (λi=>∀ (j:Nat) (D:j<g.Edges.length),j<i->inE g.N g.Edges[j]) (by simp) (λi next hi V Z=>?_) (λnext V=>?_)
   . refine A0 (λ_=>?_) (λh=>by omega)
     have hbad (hb:¬inE g.N g.Edges[i]):A5 (decide (0<=(i:Int))) (Q 3) (CJ g.Edges λa4=>A5 a4 (Q 7) (Q 0)):=by refine A0 (λ_=>?_) (λh=>by omega);grind
     refine AW hi ?_;refine A0 (λU=>B2 rfl (B2 rfl (hbad λd=>by unfold inE at d; omega))) (λU=>?_);refine A0 (λO=>B2 rfl (hbad λd=>by unfold inE at d; omega)) (λO=>?_);refine A0 (λh3=>B2 rfl (hbad λd=>by unfold inE at d; omega)) (λh3=>?_);refine A0 (λh4=>hbad λd=>by unfold inE at d; omega) (λh4=>Z λj D a3=>?_);grind[inE]
   . refine A0 (λh=>by omega) (λ_=>A8 (by decide) ?_)
     have a2:∀ e∈g.Edges,inE g.N e:=λe W=>by obtain⟨j,D,rfl⟩:=WK W;grind
     rw[if_neg (λh=>h a2)] at J;unfold CJ DO O9;refine D7 g.Edges.length (by omega) (λi=>∀ (j:Nat) (D:j<g.Edges.length),j<i->wOk g.Edges[j]) (by simp) (λi next hi V Z=>?_) (λnext V=>?_)
     . refine A0 (λ_=>?_) (λh=>by omega)
       have hbad (hb:¬wOk g.Edges[i]):A5 (decide (0<=(i:Int))) (Q 7) (Q 0):=by refine A0 (λ_=>?_) (λh=>by omega);grind
       refine AW hi (A0 (λU=>B2 rfl (hbad λd=>by unfold wOk at d; omega)) (λU=>A0 (λO=>hbad λd=>by unfold wOk at d; omega) (λO=>Z λj D a3=>?_)));grind[wOk]
     . refine A0 (λh=>by omega) (λ_=>A8 (by decide) ?_)
       rwa [if_neg (λh=>h λe W=>by obtain⟨j,D,rfl⟩:=WK W;exact V j D D)] at J
 . refine A0 (λU=>hk _ ?_) (λU=>hk _ ?_)
   all_goals grind
def kvF (e:B0):HH×Int:=((e.To,e.From),e.W)
def qD (e:B0):B0:=⟨e.To,e.From,e.W⟩
def KK (g:Graph):List A2:=(U9 (SC 1 (g.Edges.map kvF)) mkT).1
theorem qE {g:Graph} (h:F3 g=0):Canon g.N g.N (KK g):=by
 have⟨J,O,U,W,V⟩:=NW h;refine AlG ⟨J,O,J,O⟩ (by simpa using U) (λt D=>?_) (λt D=>?_)
 . obtain⟨e,d,rfl⟩:=List.mem_map.1 D;have:=W e d;unfold inE at this;unfold sB mkT kvF;grind
 . obtain⟨e,d,rfl⟩:=List.mem_map.1 D;have:=V e d;unfold wOk at this;unfold EC kvF;omega
def tW (g:Graph):Rows×Int:=if F3 g=0 then (BW g.N g.N (KK g),0) else (zR,F3 g)
theorem lF {g:Graph} {Q:Rows×Int->Prop} (O:Q (tW g)):PF g Q:=by
 unfold PF;unfold tW at O;refine OT (BT (λh=>?_) (λh=>?_))
 . rwa [if_neg h] at O
 rw[if_pos h] at O;have D:=qE h;have⟨h1,_,_,_,h5⟩:=NW h
 have hv:∀ t∈g.Edges.map qD,EC t.W:=λt Z=>by obtain⟨e,he,rfl⟩:=List.mem_map.1 Z;have:=h5 e he;unfold wOk at this;unfold EC qD;grind
 unfold PC OB LY;refine A9 (λ(s:List B0) i=>(s,i)) 0 g.Edges.length (by omega) (λi s=>s=(g.Edges.take i).map qD) (by omega) rfl (λi s next _ hi U V=>?_) (λs next U=>?_)
 . subst U;dsimp only;refine A0 (λ_=>?_) (λh=>by omega);refine AW hi (B2 rfl (AL ?_ (V _ ?_)))
   . simp; omega
   . rw[OS hi]; rfl
 . subst U;dsimp only;refine A0 (λh=>by omega) (λ_=>?_);rw[QW];unfold FT;refine tN (by omega) (by simp; omega) hv ?_;dsimp only;have a3:(g.Edges.map qD).map kvE=g.Edges.map kvF:=by rw[Ad2]; rfl
   rw[a3];have a2:=(AyC (SC 1 (g.Edges.map kvF))).1;have J:=D.len;have d:=D.inn;unfold KK at O J d;rw[a2] at O J d;generalize (U9 (SC 1 (g.Edges.map kvF)) mkE).1=es at O J d;have a4:es.length<=65536:=by grind
   refine A9 (λ(s:List A2) i=>(s,i)) 0 es.length (by omega) (λi s=>s=(es.take i).map e2t) (by omega) rfl (λi s next _ hi U V=>?_) (λs next U=>?_)
   . subst U;dsimp only;refine A0 (λ_=>?_) (λh=>by omega);refine AW hi (AL ?_ (V _ ?_))
     . simp; omega
     . rw[OS hi]; rfl
   . subst U;dsimp only;refine A0 (λh=>by omega) (λ_=>?_);rw[QW];refine tP h1 (by omega) (by simp; omega) (λt Z=>?_) O;have:=d t Z;unfold sB at this;omega
theorem AoZ:ZQ zR:=⟨by decide,by decide,by decide⟩
theorem Ap0:¬UA zR:=λh=>by have:=h.sl; simp[zR] at this
def Ax6 (r:Int) (k:HH) (ts:List (HH×Int)):Option AZ:=ts.foldl (λo t=>if k=t.1 then some (match o with | some w=>I4 r w (bJ t.2) | none=>bJ t.2) else o) none
theorem AgR (r:Int) (k:HH) (ts:List (HH×Int)):BC k (SC r ts)=Ax6 r k ts:=by
 suffices ∀ (ts:List (HH×Int)) (l:List (HH×AZ)),srt l->BC k (ts.foldl (λl t=>ins r t.1 (bJ t.2) l) l)=ts.foldl (λo t=>if k=t.1 then some (match o with | some w=>I4 r w (bJ t.2) | none=>bJ t.2) else o) (BC k l) from this ts [] .nil
 intro ts
 induction ts with
 | nil=>intro l _; rfl
 | cons t ts d=>
  intro l h;simp only[aS];rw[d _ (rY h),AaX k h];grind
def sw (p:HH×AZ):HH×AZ:=((p.1.2,p.1.1),p.2)
theorem Ap1 (k:HH):∀ l:List (HH×AZ),BC k (l.map sw)=BC (k.2,k.1) l
 | []=>rfl
 | p :: l=>by have⟨⟨_,_⟩,_⟩:=p;have⟨c,d⟩:=k;simp only[P9,BC,sw,Ap1 (c,d) l,yG];grind
theorem AsM {l:List (HH×AZ)} (h:EU l):EU (l.map sw):=by unfold EU at *;grind[sw]
theorem AjE (es:List B0):((SC 1 (es.map kvE)).map sw).Perm (SC 1 (es.map kvF)):=by refine oJ (AsM (XM (iK _ _))) (XM (iK _ _)) λk=>?_;rw[Ap1,AgR,AgR];unfold Ax6;rw[AiM,AiM];congr 1;funext o e;have⟨_,_⟩:=k;simp only[kvE,kvF,yG];grind
theorem Ab1 {v:Int} (h:EC v):IQ (bJ v)=(v,true):=by
 unfold IQ bJ;unfold EC at h;simp only;rw[if_pos]
 . rw[KJ]; congr 1; omega
 . omega
theorem AvI (ts:List (HH×Int)) (d:∀ t∈ts,EC t.2):∀ p∈SC 1 ts,∃ v,EC v∧p.2=bJ v:=by
 suffices ∀ (ts:List (HH×Int)) (l:List (HH×AZ)),(∀ t∈ts,EC t.2)->(∀ p∈l,∃ v,EC v∧p.2=bJ v)->∀ p∈ts.foldl (λl t=>ins 1 t.1 (bJ t.2) l) l,∃ v,EC v∧p.2=bJ v from this ts [] d (by simp)
 have D:∀ (k:HH) (v:Int),EC v->∀ l:List (HH×AZ),(∀ p∈l,∃ v,EC v∧p.2=bJ v)->∀ p∈ins 1 k (bJ v) l,∃ v,EC v∧p.2=bJ v:=by
  intro k v d l
  induction l with
  | nil=>intro _ p hp; simp[ins] at hp; exact⟨v,d,by rw[hp]⟩
  | cons q l J=>
   intro h p hp;unfold ins at hp;split at hp
   . rcases List.mem_cons.1 hp with rfl | hp
     . simp_all
     grind
   . split at hp
     . rcases List.mem_cons.1 hp with rfl | hp
       . have⟨u,U,e⟩:=h q (by simp);unfold I4;simp only[true_or,if_true];split
         . exact⟨u,U,e⟩
         . exact⟨v,d,rfl⟩
       . exact h p (by simp[hp])
     . rcases List.mem_cons.1 hp with rfl | hp
       . exact⟨v,d,rfl⟩
       . exact h p hp
 intro ts
 induction ts with
 | nil=>intro l _ h; exact h
 | cons t ts J=>intro l O h; exact J _ (λx V=>O x (by simp[V])) (D _ _ (O t (by simp)) l h)
theorem Ab2 {α:Type} {mk:HH->Int->α} {ts:List (HH×Int)} (d:∀ t∈ts,EC t.2):U9 (SC 1 ts) mk=((SC 1 ts).map (λp=>mk p.1 (IQ p.2).1),0):=by refine AdO (m:=[]) (.refl _) λp _=>?_;grind[AvI,Ab1]
theorem AsN (a:AZ):EC (IQ a).1:=by
 unfold IQ EC;split
 . simp only[KJ]; omega
 . simp
theorem AlH {rows cols:Int} {T:List A2} (h:Canon rows cols T):NV rows (NV cols T)=T:=by refine AjC (bO _ (bO _ h.srt)) h.srt λ_=>?_;rw[XP (Z0 h),XP h]; rfl
theorem AjF {l h c d:Int} {T:List A2} (t:A2):t∈WS l h c d T↔(⟨t.Row+l,t.Col+c,t.Val⟩:A2)∈T∧(0<=t.Row∧t.Row+l<h)∧0<=t.Col∧t.Col+c<d:=by
 unfold WS;simp only[hM,Ag4,decide_eq_true_eq];constructor
 . rintro⟨_,⟨_,_⟩,rfl⟩;simp_all
 grind
theorem AdT {l d:List Int} (h:l.Pairwise (· < ·)) (J:d.Pairwise (· < ·)) (U:∀ x,x∈l↔x∈d):l=d:=by have D:∀ {l:List Int},l.Pairwise (· < ·)->l.Nodup:=λh=>List.nodup_iff_pairwise_ne.2 (h.imp λ_=>by omega);have hp:=(AcX (D h) (D J)).2 U;exact hp.eq_of_pairwise (λ_ _ _ _ _ _=>by omega) h J
theorem QQ {l:List Int} (h:l.Pairwise (· < ·)) {i j:Nat} (d:i<j) (D:j<l.length):AY l i<AY l j:=by unfold AY;have:=List.pairwise_iff_getElem.1 h i j (by omega) D d;grind
theorem Ab3 {l:List Int} {x:Int} (h:x∈l):∃ i:Nat,i<l.length∧AY l i=x:=by obtain⟨i,hi,rfl⟩:=WK h;exact⟨i,hi,by unfold AY; simp[rC,hi]⟩
def AvJ (T:List A2) (c:Nat):Bool:=T.any λt=>decide (t.Row=(c:Int))
def MA (n:Nat) (T:List A2):List Int:=((List.range n).filter (AvJ T)).map λc:Nat=>(c:Int)
theorem K5 (n:Nat) (T:List A2):(MA n T).Pairwise (· < ·):=by unfold MA;rw[nU];exact sP (λ{a b} h=>by omega) ((AnO (n:=n)).filter _)
theorem KX {n:Nat} {T:List A2} {x:Int}:x∈MA n T↔(0<=x∧x<n)∧∃ t∈T,t.Row=x:=by
 unfold MA AvJ;simp only[hM,Ag4,AiL,AnK,decide_eq_true_eq];constructor
 . grind
 . rintro⟨⟨_,_⟩,t,ht,_⟩; exact⟨x.toNat,⟨by omega,t,ht,by omega⟩,by omega⟩
theorem lG (n:Nat) (T:List A2):(MA n T).length<=n:=by grind[MA]
def iM (n:Nat) (T:List A2):List Int:=0 :: (MA n T).map λx=>FB T (x.toNat+1)
def UB (rows cols:Int) (T:List A2):BB:=⟨rows,cols,MA cols.toNat T,iM cols.toNat T,T.map (·.Col),T.map (·.Val)⟩
theorem bP (n:Nat) (T:List A2):(iM n T).length=(MA n T).length+1:=by simp[iM]
theorem Ap2 {n:Nat} {T:List A2} {j:Nat} (d:j<(MA n T).length):AY (iM n T) ((j:Int)+1)=FB T ((AY (MA n T) j).toNat+1):=by unfold iM AY;grind
theorem zD {n:Nat} {T:List A2} {j:Nat} (d:j<(MA n T).length):(0<=AY (MA n T) j∧AY (MA n T) j<n)∧∃ t∈T,t.Row=AY (MA n T) j:=
 KX.1 (rX (by omega) (by omega))
theorem Ab4 {rows cols:Int} {T:List A2} (h:Canon cols rows T) {t:A2} (D:t∈T):∃ q:Nat,q<(MA cols.toNat T).length∧AY (MA cols.toNat T) q=t.Row:=by have d:=h.inn t D;unfold sB at d;exact Ab3 (KX.2 ⟨⟨by omega,by omega⟩,t,D,rfl⟩)
theorem Ax7 {rows cols:Int} {T:List A2} (h:Canon cols rows T) {j:Nat} (U:j<(MA cols.toNat T).length):AY (iM cols.toNat T) j=FB T (AY (MA cols.toNat T) j).toNat:=by
 have d:=K5 cols.toNat T
 have Z:=(zD U).1
 cases j with
 | zero=>
  rw[show AY (iM cols.toNat T) ((0:Nat):Int)=0 from rfl]
  unfold FB
  rw[List.countP_eq_zero.2]; · rfl
  intro t J
  have⟨q,D,e⟩:=Ab4 h J
  simp only[decide_eq_true_eq]
  rw[<-e]
  by_cases e0:q=0
  . subst e0; omega
  . have:=QQ d (show 0<q by omega) D; omega
 | succ i=>
  rw[show((i+1:Nat):Int)=(i:Int)+1 by omega,Ap2 (show i<(MA cols.toNat T).length by omega)]
  unfold FB
  congr 1
  apply List.countP_congr
  intro t J
  simp only[decide_eq_true_eq]
  have O:=QQ d (show i<i+1 by omega) U
  rw[show((i+1:Nat):Int)=(i:Int)+1 by omega] at O Z
  have h1:=(zD (show i<(MA cols.toNat T).length by omega)).1
  constructor
  . intro W; omega
  . intro W
    have⟨q,D,e⟩:=Ab4 h J
    have a2:q<=i:=by
      rcases aG i q with V | V
      . exfalso
        by_cases e1:q=i+1
        . grind
        . have:=QQ d (show i+1<q by omega) D
          grind
      . exact V
    by_cases e1:q=i
    . subst e1; omega
    . have:=QQ d (show q<i by omega) (by omega); omega
theorem Canon.colseg {rows cols:Int} {T:List A2} (h:Canon cols rows T) {j:Nat} (D:j<(MA cols.toNat T).length) :
  ∃ x lo hi:Nat,AY (MA cols.toNat T) j=x∧(x:Int)<cols∧AY (iM cols.toNat T) j=lo∧AY (iM cols.toNat T) ((j:Int)+1)=hi∧lo<hi∧Seg T x lo hi:=by
 have⟨⟨_,U⟩,_,ht,_⟩:=zD D;obtain⟨x,J⟩:∃ x:Nat,AY (MA cols.toNat T) j=x:=⟨(AY (MA cols.toNat T) j).toNat,by omega⟩;have⟨lo,hi,s⟩:=h.seg x;have W:=h.r0;have O:AY (iM cols.toNat T) j=lo:=by rw[Ax7 h D,J,VK,s.lo]
 have d:AY (iM cols.toNat T) ((j:Int)+1)=hi:=by rw[Ap2 D,J,VK,s.hi]
 refine⟨x,lo,hi,J,by omega,O,d,?_,s⟩;obtain⟨_,hp,rfl⟩:=WK ht;have:=(h.srt.at hp (i:=x)).1 (by omega);have U:=s.lo; have V:=s.hi;omega
def Ax8 (c:BB) (i:Nat):Prop:=∀ j:Nat,AY c.Start i<=j->(j:Int)<AY c.Start ((i:Int)+1)->0<=AY c.Row j∧AY c.Row j<c.Rows∧(AY c.Start i<j->AY c.Row ((j:Int) - 1)<AY c.Row j)
structure AlI (c:BB):Prop where
 r0:0≤c.Rows
 r1:c.Rows≤4096
 c0:0≤c.Cols
 c1:c.Cols≤4096
 sl:(c.Start.length:Int)=(c.At.length:Int)+1
 vl:c.Val.length=c.Row.length
 cl:c.Row.length≤65536
 s0:AY c.Start 0=0
 sn:AY c.Start c.At.length=c.Row.length
 at_:∀ i:Nat,i<c.At.length→0≤AY c.At i∧AY c.At i<c.Cols∧(0<i→AY c.At ((i:Int) - 1)<AY c.At i)
 up:∀ i:Nat,i<c.At.length→AY c.Start i<AY c.Start ((i:Int)+1)
 row:∀ i:Nat,i<c.At.length→Ax8 c i
noncomputable instance (c:BB):Decidable (AlI c):=Classical.propDecidable _
def WT (c:BB):Prop:=c.At.length<=1000000000∧c.Start.length<=1000000000∧c.Row.length<=1000000000000
theorem UC {x y:Int} {Q:Bool->Prop} (d:Q (decide (0<=x∧x<=y))):NS x y Q:=by
 unfold NS;refine A0 (λh=>?_) (λh=>?_)
 all_goals grind
theorem oL {xs:List Int} {cols:Int} {Q:Bool->Prop} (a2:0<=cols) (a3:cols<=1000000000) (hl:xs.length<=1000000000)
   (U:(∀ j:Nat,j<xs.length->0<=AY xs j∧AY xs j<cols∧(0<j->AY xs ((j:Int) - 1)<AY xs j))->Q true) (O:(∃ j:Nat,j<xs.length∧¬(0<=AY xs j∧AY xs j<cols∧(0<j->AY xs ((j:Int) - 1)<AY xs j)))->Q false):NT xs cols Q:=by
 unfold NT;rw[A6 (by omega) (by omega)];refine D7 xs.length (by omega) (λi=>∀ j:Nat,j<i->j<xs.length->0<=AY xs j∧AY xs j<cols∧(0<j->AY xs ((j:Int) - 1)<AY xs j)) (by simp) (λi next hi J Z=>?_) (λnext J=>?_)
 . refine A0 (λ_=>?_) (λh=>by omega);refine AX (by omega) (by omega) (UC (CB (λh=>O ⟨i,hi,λW=>?_⟩) (λh=>?_)))
   . simp at h; omega
   have h:0<=AY xs i∧AY xs i<=cols - 1:=by simpa using h
   have hstep (hx:0<i->AY xs ((i:Int) - 1)<AY xs i):next (A4 ((i:Int)+1)):=Z λj D _=>by grind
   refine A0 (λV=>?_) (λV=>hstep λh=>by omega);rw[A6 (by omega) (by omega)];refine AX (by omega) (by omega) (A0 (λd=>O ⟨i,hi,λW=>?_⟩) (λd=>hstep λ_=>by omega));omega
 . exact A0 (λh=>by omega) (λ_=>U λj D=>J j D D)
theorem AuP {xs:List Int} {n:Nat} (h:∀ i:Nat,i<n->AY xs i<AY xs ((i:Int)+1)) {i j:Nat} (d:i<=j) (D:j<=n):AY xs i<=AY xs j:=by
 induction j with
 | zero=>grind
 | succ j J=>
  grind
theorem fX {c:BB} {Q:Bool->Prop} (hl:WT c) (hQ:Q (decide (AlI c))):TY c Q:=by
 unfold TY;have hno (h:¬AlI c):Q false:=by grind
 have hyes (h:AlI c):Q true:=by grind
 unfold WT at hl;refine UC (CB (λh=>hno λd=>?_) (λh=>?_))
 . have:=d.r0; have:=d.r1; simp at h; omega
 have h1:0<=c.Rows∧c.Rows<=4096:=by simpa using h
 refine UC (CB (λh=>hno λd=>?_) (λh=>?_))
 . have:=d.c0; have:=d.c1; simp at h; omega
 have h2:0<=c.Cols∧c.Cols<=4096:=by simpa using h
 rw[A6 (by omega) (by omega)];refine BT (λh=>hno λd=>h d.sl) (λh3=>?_);refine BT (λh=>hno λd=>h (by rw[d.vl])) (λ_=>?_);refine A0 (λh=>hno λd=>by have:=d.cl; omega) (λ_=>?_);have a9:c.Start.length=c.At.length+1:=by omega
 refine oL h2.1 (by omega) (by omega) (λa5=>A8 rfl ?_) (λZ=>B2 rfl (hno λd=>?_));rotate_left
 . have⟨i,hi,D⟩:=Z;exact D (d.at_ i hi)
 rw[A6 (by omega) (by omega)];refine oL (by omega) (by omega) (by omega) (λa2=>A8 rfl ?_) (λZ=>B2 rfl (hno λd=>?_));rotate_left
 . have⟨i,hi,D⟩:=Z;have g0:=AuP d.up (i:=0) (j:=i) (by omega) (by omega);have g1:=AuP d.up (i:=i) (j:=c.At.length) (by omega) (by omega);have e0:=d.s0; have en:=d.sn;rw[show((0:Nat):Int)=0 from rfl] at g0;refine D ⟨by omega,by omega,λ_=>?_⟩;have:=d.up (i - 1) (by omega);grind
 refine AX (by omega) (by omega) (BT (λh=>hno λd=>h d.s0) (λh6=>?_));refine AX (by omega) (by omega) (BT (λh=>hno λd=>h d.sn) (λh7=>?_))
 have a4:∀ i:Nat,i<c.At.length->AY c.Start i<AY c.Start ((i:Int)+1):=λi hi=>by have:=(a2 (i+1) (by omega)).2.2 (by omega);grind
 refine D7 c.At.length (by omega) (λi=>∀ j:Nat,j<i->Ax8 c j) (by simp) (λi next hi hR a3=>?_) (λnext hR=>?_)
 . refine A0 (λ_=>?_) (λh=>by omega);have e1:A4 ((i:Int)+1)=(i:Int)+1:=A6 (by omega) (by omega);rw[e1] at a3 ⊢;have W:0<=AY c.Start i:=(a2 i (by omega)).1
   have V:AY c.Start ((i:Int)+1)<=c.Row.length:=by have:=(a2 (i+1) (by omega)).2.1;grind
   have hm:=a4 i hi;refine AX (by omega) (by omega) (AX (by omega) (by omega) ⟨W,by omega,V,?_⟩);have J:=AjA W (yJ hm) V;have O:∀ j:Nat,AY c.Start i+j<AY c.Start ((i:Int)+1)->AY ((c.Row.take (AY c.Start ((i:Int)+1)).toNat).drop (AY c.Start i).toNat) j=AY c.Row (AY c.Start i+j):=λj hj=>Aj9 W (yJ hm) V hj;refine oL (by omega) (by omega) (by rw[J]; omega) (λa6=>A8 rfl (a3 λj hj=>?_)) (λZ=>B2 rfl (hno λd=>?_))
   . by_cases e:j=i
     . subst e;intro p a7 a8;obtain⟨q,hq⟩:∃ q:Nat,(p:Int)=AY c.Start j+q:=⟨(p - AY c.Start j).toNat,by omega⟩;have U:=a6 q (by rw[J]; omega);rw[O q (by omega),<-hq] at U;refine⟨U.1,U.2.1,λ_=>?_⟩;have:=U.2.2 (by omega);rw[show(q:Int) - 1=((q - 1:Nat):Int) by omega,O (q - 1) (by omega),show AY c.Start j+((q - 1:Nat):Int)=(p:Int) - 1 by omega] at this;exact this
     . exact hR j (by omega)
   . have⟨q,hq,D⟩:=Z;rw[J] at hq;apply D;have U:=d.row i hi (AY c.Start i+q).toNat (by omega) (by omega);have ep:(((AY c.Start i+q).toNat:Nat):Int)=AY c.Start i+q:=by omega
     rw[ep] at U;rw[O q (by omega)];refine⟨U.1,U.2.1,λ_=>?_⟩;have:=U.2.2 (by omega);rw[show(q:Int) - 1=((q - 1:Nat):Int) by omega,O (q - 1) (by omega),show AY c.Start i+((q - 1:Nat):Int)=AY c.Start i+q - 1 by omega];exact this
 . refine A0 (λh=>by omega) (λ_=>hyes ⟨h1.1,h1.2,h2.1,h2.2,h3,by omega,by omega,h6,h7,a5,a4,λi hi=>hR i (by omega)⟩)
theorem Canon.colp {rows cols:Int} {T:List A2} (h:Canon cols rows T):AlI (UB rows cols T) where
 r0:=h.c0
 r1:=h.c1
 c0:=h.r0
 c1:=h.r1
 sl:=by simp[UB,bP]
 vl:=by simp[UB]
 cl:=by simpa[UB] using h.len
 s0:=rfl
 sn:=by
  show AY (iM cols.toNat T) (MA cols.toNat T).length=((T.map (·.Col)).length:Int);rw[nW]
  cases hl:(MA cols.toNat T).length with
  | zero=>
   have hn:T=[]:=by
     rcases T with _ | ⟨t,T⟩
     . rfl
     . have⟨q,hq,_⟩:=Ab4 h (t:=t) (by simp);omega
   subst hn; rfl
  | succ n=>
   have hj:n<(MA cols.toNat T).length:=by omega
   rw[show((n+1:Nat):Int)=(n:Int)+1 by omega,Ap2 hj];unfold FB;rw[List.countP_eq_length.2];intro t ht;have⟨q,hq,e⟩:=Ab4 h ht;simp only[decide_eq_true_eq];rw[<-e];have h0:=(zD hj).1;by_cases e1:q=n
   . subst e1; omega
   . have:=QQ (K5 cols.toNat T) (show q<n by omega) hj; omega
 at_ i hi:=by have h0:=(zD (T:=T) (n:=cols.toNat) hi).1;refine⟨h0.1,by have:=h.r0; show AY (MA cols.toNat T) i<cols; omega,λhp=>?_⟩;have:=QQ (K5 cols.toNat T) (show i - 1<i by omega) hi;rw[show((i - 1:Nat):Int)=(i:Int) - 1 by omega] at this;exact this
 up i hi:=by have⟨x,lo,hi',h1,h2,h3,h4,h5,s⟩:=h.colseg hi;show AY (iM cols.toNat T) i<AY (iM cols.toNat T) ((i:Int)+1);omega
 row i hi:=by
  have⟨x,lo,hi',h1,h2,h3,h4,h5,s⟩:=h.colseg hi;intro j hj1 hj2;have hj1:AY (iM cols.toNat T) i<=j:=hj1;have hj2:(j:Int)<AY (iM cols.toNat T) ((i:Int)+1):=hj2;show 0<=AY (T.map (·.Col)) j∧AY (T.map (·.Col)) j<rows∧(AY (iM cols.toNat T) i<j->AY (T.map (·.Col)) ((j:Int) - 1)<AY (T.map (·.Col)) j);have hl:=s.len;have hjl:j<T.length:=by omega
  have hc:AY (T.map (·.Col)) j=T[j].Col:=by rw[sC (by omega) (by omega)]; rfl
  have hin:=h.inn _ (TF hjl);unfold sB at hin;refine⟨by rw[hc]; omega,by rw[hc]; omega,λhlt=>?_⟩;obtain⟨q,rfl⟩:∃ q,j=q+1:=⟨j - 1,by omega⟩;have hc2:AY (T.map (·.Col)) (((q+1:Nat):Int) - 1)=T[q].Col:=by rw[sC (by omega) (by simp; omega)]; simp
  have r1:=s.row q (by omega) (by omega) (by omega);have r2:=s.row (q+1) hjl (by omega) (by omega);have hs:=List.pairwise_iff_getElem.1 h.srt q (q+1) (by omega) hjl (by omega);unfold NA key at hs;simp only at hs;rw[hc,hc2]; omega
theorem tX:UB 0 0 []=⟨0,0,[],[0],[],[]⟩:=by simp[UB,MA,iM]
noncomputable def ZR (c:BB):BB:=if AlI c then c else UB 0 0 []
theorem oM {rows cols:Int} {T:List A2} (h:Canon cols rows T):ZR (UB rows cols T)=UB rows cols T:=by unfold ZR; rw[if_pos h.colp]
theorem lH {c:BB} {Q:BB->Prop} (D:WT c) (d:Q (ZR c)):XI c Q:=by
 unfold XI XF;unfold ZR at d;refine fX D (A0 (λh=>?_) (λh=>?_))
 . rwa [if_pos h] at d
 . rwa [if_neg h,tX] at d
theorem Canon.smlC {rows cols:Int} {T:List A2} (h:Canon cols rows T):WT (UB rows cols T):=by have:=h.r1; have:=h.len; have:=lG cols.toNat T;unfold WT UB;simp only[nW,bP];omega
theorem AjG {n:Nat} {T:List A2} {t:A2} (h:∃ u∈T,u.Row=t.Row):MA n (T++[t])=MA n T:=by refine AdT (K5 _ _) (K5 _ _) λ_=>?_;rw[KX,KX];grind
theorem AjH {n:Nat} {T:List A2} {t:A2} (O:0<=t.Row) (U:t.Row<n) (h:∀ u∈T,u.Row<t.Row):MA n (T++[t])=MA n T++[t.Row]:=by
 refine AdT (K5 _ _) ?_ λ_=>?_
 . rw[As4];refine⟨K5 _ _,by simp,λ_ J _ d=>?_⟩;simp at d; subst d;obtain⟨_,u,D,rfl⟩:=KX.1 J;exact h u D
 . rw[rG,KX,KX];grind
theorem AjI (n:Nat):MA n []=[]:=by unfold MA; rw[List.filter_eq_nil_iff.2 (by simp[AvJ])]; rfl
theorem AsO (n:Nat):iM n []=[0]:=by unfold iM; rw[AjI]; rfl
theorem tY {T:List A2} {x:Nat} (h:∀ u∈T,u.Row<(x:Int)):FB T x=T.length:=by unfold FB; rw[List.countP_eq_length.2]; grind
theorem AsP {n:Nat} {T:List A2} {t:A2} (d:0<=t.Row) (J:t.Row<n) (h:∀ u∈T,u.Row<t.Row):iM n (T++[t])=iM n T++[(T.length:Int)+1]:=by
 unfold iM;rw[AjH d J h,gW,nV];congr 2
 . refine AaI λ_ O=>?_;have⟨_,u,D,_⟩:=KX.1 O;have:=h u D;rw[tO,if_neg (by omega)]; omega
 . simp only[P9,AiP];grind[tY]
theorem AjJ {l:List Int} (D:l.Pairwise (· < ·)) {x:Int} (J:x∈l) (d:∀ y∈l,y<=x):AY l ((l.length:Int) - 1)=x:=by
 have⟨q,_,_⟩:=Ab3 J;by_cases h:q=l.length - 1
 . grind
 . have O:=QQ D (show q<l.length - 1 by omega) (by omega);have U:=d _ (rX (xs:=l) (i:=((l.length - 1:Nat):Int)) (by omega) (by omega));omega
theorem AsQ {n:Nat} {T:List A2} {t:A2} (h0:0<=t.Row) (h1:t.Row<n) (h:∃ u∈T,u.Row=t.Row) (hm:∀ u∈T,u.Row<=t.Row):iM n (T++[t])=(iM n T).set (MA n T).length ((T.length:Int)+1):=by
 have⟨u,V,W⟩:=h;have D:t.Row∈MA n T:=KX.2 ⟨⟨h0,h1⟩,u,V,W⟩;have J:∀ y∈MA n T,y<=t.Row:=λy hy=>by obtain⟨_,v,hv,rfl⟩:=KX.1 hy; exact hm v hv
 have d:=AjJ (K5 n T) D J;have a2:0<(MA n T).length:=List.length_pos_of_mem D;unfold iM;rw[AjG ⟨u,V,W⟩];obtain⟨m,O⟩:∃ m,(MA n T).length=m+1:=⟨(MA n T).length - 1,by omega⟩;rw[O,AnU];congr 1;apply AnI;intro i;by_cases hi:i<m+1
 . have U:i<(MA n T).length:=by omega
   have Z:(MA n T)[i]=AY (MA n T) i:=by unfold AY; grind
   by_cases e:m=i
   . grind[tY]
   . rw[AfZ e];simp only[AaK,zL8 U,Ag3,Z];have h2:=QQ (K5 n T) (show i<m by omega) (by omega);rw[O,show((m+1:Nat):Int) - 1=(m:Int) by omega] at d;rw[d] at h2;have h3:=(zD U).1;rw[tO,if_neg (by omega)]; simp
 all_goals grind
theorem AvK {T:List A2} (h:Srt T) {i:Nat} (hi:i<T.length):∀ u∈T.take i,u.Row<=T[i].Row:=by intro u D;obtain⟨j,d,rfl⟩:=WK D;simp only[QX] at d;rw[Al0];have:=List.pairwise_iff_getElem.1 h j i (by omega) hi (by omega);unfold NA key at this;simp only at this; omega
theorem oN {T:List A2} {i:Nat} (hi:i<T.length):T.take (i+1)=T.take i++[T[i]]:=eZ hi
theorem AgS {a:Rows} {rows cols:Int} {ts:List A2} {Q:BB->Prop} (hl:ZQ a) (V:bM a=BW rows cols ts) (hR:UA a->a=BW rows cols ts) (hN:¬UA a->rows=0∧cols=0∧ts=[]) (h:Canon rows cols ts) (hQ:Q (UB rows cols (NV cols ts))):rW a Q:=by
 unfold rW XF;refine lD hl (CB (λW=>?_) (λW=>?_))
 . obtain⟨rfl,rfl,rfl⟩:=hN (by simpa using W);rw[show NV 0 ([]:List A2)=[] from rfl,tX] at hQ;exact hQ
 have W:UA a:=by simpa using W
 have U:=Z0 h;refine AdS hl V h (bN U.sml (Q9 U) U ?_);generalize NV cols ts=T at U hQ;have c2:=U.len; have b1:=U.r0; have c0:=U.r1;have a7:=λi=>lG cols.toNat (T.take i);refine A9 (λ(s:List Int×List Int×List Int×List Int) (i:Int)=>(s.1,s.2.1,s.2.2.1,s.2.2.2,i)) 0 T.length (by omega) (λi s=>s=(MA cols.toNat (T.take i),iM cols.toNat (T.take i),(T.take i).map (·.Col),(T.take i).map (·.Val))) (by omega) (s0:=([],[0],[],[])) (by simp[AjI,AsO]) (λi s next _ hi hm hn=>?_) (λs next hm=>?_)
 . subst hm;dsimp only;have a8:=U.inn _ (TF hi);unfold sB at a8;have a4:=AvK U.srt hi;refine A0 (λ_=>?_) (λh=>by omega);refine AW hi ?_;have a5:(T.take i).length=i:=by simp; omega
   have c1:=a7 i
   have a6:∀ (d D:List Int),d=MA cols.toNat (T.take (i+1))->D.set d.length ((i:Int)+1)=iM cols.toNat (T.take (i+1))->d.length<D.length ->
       DW 8 ((T.take i).map (·.Col)) [T[i].Col] λ_=>DW 8 ((T.take i).map (·.Val)) [T[i].Val] λ_=>AR D (d.length:Int) λ_=>next (d,D.set (d.length:Int).toNat (((T.take i).map (·.Col)++[T[i].Col]).length:Int),(T.take i).map (·.Col)++[T[i].Col],(T.take i).map (·.Val)++[T[i].Val],A4 ((i:Int)+1)):=λd D Z J e3=>by
     refine AL (by simp; omega) (AL (by simp; omega) (AW e3 (hn (d,D.set _ _,_,_) ?_)));have e4:(((T.take i).map (·.Col)++[T[i].Col]).length:Int)=(i:Int)+1:=by simp; omega
     rw[e4,VK,J,Z,oN hi,gW,gW]; rfl
   refine CE (λs:List Int×List Int=>s.1=MA cols.toNat (T.take (i+1))∧s.2.set s.1.length ((i:Int)+1)=iM cols.toNat (T.take (i+1))∧s.1.length<s.2.length) (λs hs=>a6 s.1 s.2 hs.1 hs.2.1 hs.2.2) (λ_ hk=>?_);by_cases hnew:∃ u∈T.take i,u.Row=T[i].Row
   . have Z:=AjG (n:=cols.toNat) hnew;have J:=AsQ (n:=cols.toNat) (by omega) (by omega) hnew a4;rw[<-oN hi] at Z J;rw[a5] at J;have⟨u,hu,eu⟩:=hnew;have a3:T[i].Row∈MA cols.toNat (T.take i):=KX.2 ⟨⟨by omega,by omega⟩,u,hu,eu⟩;have d0:=List.length_pos_of_mem a3;have b0:=AjJ (K5 _ _) a3 (λ_ hy=>by obtain⟨_,v,hv,rfl⟩:=KX.1 hy; exact a4 v hv);refine CE (λb=>b=false) (λb V=>by subst V; exact A8 rfl (hk _ ⟨Z.symm,J.symm,by rw[bP]; exact Nat.lt_succ_self _⟩)) (λk2 O=>?_);refine B5 (λh=>by omega) (λ_=>?_);rw[A6 (by omega) (by omega)];refine AX (by omega) (by omega) (O _ ?_);rw[b0]; simp
   . have a2:∀ u∈T.take i,u.Row<T[i].Row:=λu hu=>by grind
     have Z:=AjH (n:=cols.toNat) (by omega) (by omega) a2;have J:=AsP (n:=cols.toNat) (by omega) (by omega) a2;rw[<-oN hi] at Z J;rw[a5] at J;refine CE (λb=>b=true) (λb V=>?_) (λk2 O=>?_)
     . subst V;refine B2 rfl (AL (by simp; omega) (AL (by simp[bP]; omega) (hk _ ⟨Z.symm,?_,?_⟩)))
       . rw[J,fC,AfX,<-bP,List.set_append_right _ _ (YG _)]; simp
       . simp[bP]
     . refine B5 (λ_=>O _ rfl) (λ_=>?_);rw[A6 (by omega) (by omega)];refine AX (by omega) (by omega) (O _ ?_)
       have a9:AY (MA cols.toNat (T.take i)) (((MA cols.toNat (T.take i)).length:Int) - 1)≠T[i].Row:=λ_=>by have⟨_,u,hu,_⟩:=KX.1 (rX (xs:=MA cols.toNat (T.take i)) (i:=((MA cols.toNat (T.take i)).length:Int) - 1) (by omega) (by omega));grind
       simpa using a9
 . subst hm;dsimp only;refine A0 (λh=>by omega) (λ_=>?_);rw[QW,hR W];exact hQ
theorem AdU {c:BB} {k:Int} {Q:Int->Prop} (U:c.At.Pairwise (· < ·)) (hl:c.At.length<=1000000000) (h1:∀ j:Nat,j<c.At.length->AY c.At j=k->Q j) (h2:(∀ j:Nat,j<c.At.length->AY c.At j≠k)->Q (-1)):TZ c k Q:=by
 unfold TZ;refine CE (λs:Int×Int=>(s.1<s.2∧∃ j:Nat,s.1=j∧j<c.At.length∧AY c.At j=k)∨(¬s.1<s.2∧∀ j:Nat,j<c.At.length->AY c.At j≠k)) (λs U=>?_) (λ_ D=>?_)
 . have⟨_,_⟩:=s;dsimp only;rcases U with⟨d,j,rfl,O,e⟩ | ⟨J,V⟩
   . exact A0 (λ_=>h1 j O e) (λh=>absurd d h)
   . exact A0 (λh=>absurd h J) (λ_=>h2 V)
 refine BV (λs:Int×Int=>∃ lo hi:Nat,s=((lo:Int),(hi:Int))∧lo<=hi∧hi<=c.At.length∧(∀ j:Nat,j<lo->AY c.At j<k)∧∀ j:Nat,hi<=j->j<c.At.length->k<AY c.At j) (λs=>(s.2 - s.1).toNat) ⟨0,c.At.length,rfl,by omega,by omega,by omega,by omega⟩ ?_;rintro _ next ⟨lo,hi,rfl,_,W,hL,hH⟩ hn;dsimp only;refine A0 (λh=>?_) (λh=>D _ (.inr ⟨h,λj O e=>?_⟩))
 . obtain⟨m,hm⟩:∃ m:Nat,m=lo+(hi - lo) / 2:=⟨_,rfl⟩
   have em:A4 ((lo:Int)+(A4 ((A4 ((hi:Int) - lo)).tdiv 2)))=(m:Int):=by rw[A6 (x:=(hi:Int) - lo) (by omega) (by omega),AnD (by omega),A6 (x:=((hi:Int) - lo) / 2) (by omega) (by omega),A6 (by omega) (by omega)];omega
   rw[em];have e2:A4 ((m:Int)+1)=((m+1:Nat):Int):=by rw[A6 (by omega) (by omega)]; omega
   rw[e2];refine AX (by omega) (by omega) (B5 (λe=>D _ (.inl ⟨by dsimp only; omega,m,rfl,by omega,e⟩)) (λe=>?_));refine AX (by omega) (by omega) (A0 (λd=>hn _ ⟨m+1,hi,rfl,by omega,W,λj O=>?_,hH⟩ (by simp only; omega)) (λJ=>hn _ ⟨lo,m,rfl,by omega,by omega,hL,λj O Z=>?_⟩ (by simp only; omega)))
   . by_cases e':j=m
     . subst e'; exact d
     . have:=QQ U (show j<m by omega) (by omega); omega
   . by_cases e':j=m
     . subst e'; omega
     . have:=QQ U (show m<j by omega) Z; omega
 all_goals grind
def M3 (T:List A2) (k:Int):List B9:=(T.filter λt=>decide (t.Row=k)).map sD
theorem AdV (T:List A2) (k:Nat):M3 T k=(Q8 T k).map sD:=rfl
theorem zF {T:List A2} {n:Nat} {k:Int} (h:∀ t∈T,0<=t.Row∧t.Row<n) (hk:∀ j:Nat,j<(MA n T).length->AY (MA n T) j≠k):M3 T k=[]:=by
 unfold M3
 rw[List.filter_eq_nil_iff.2]; · rfl
 intro t d
 simp only[decide_eq_true_eq]
 intro e
 have:=h t d
 have⟨j,_,_⟩:=Ab3 (l:=MA n T) (x:=k) (KX.2 ⟨⟨by omega,by omega⟩,t,d,e⟩)
 grind
theorem Canon.rowIn {rows cols:Int} {T:List A2} (h:Canon cols rows T):∀ t∈T,0<=t.Row∧t.Row<(cols.toNat:Int):=λt d=>by have:=h.inn t d; unfold sB at this; omega
theorem AgT {rows cols:Int} {T:List A2} (h:Canon cols rows T) {j:Nat} (hj:j<(MA cols.toNat T).length) {Q:List B9->Prop} (W:Q (M3 T (AY (MA cols.toNat T) j))):ET (UB rows cols T) j Q:=by
 unfold ET DR PT;have⟨x,lo,hi,h1,_,h3,V,_,s⟩:=h.colseg hj;have hs:=bP cols.toNat T;have a2:=h.len; have a4:=s.len; have hc:=h.r1; have a3:=lG cols.toNat T;have Z:A4 ((j:Int)+1)=(j:Int)+1:=A6 (by omega) (by omega);have O:(UB rows cols T).Start=iM cols.toNat T:=rfl;rw[h1,AdV,<-s.eq] at W;rw[O,Z];refine AX (by omega) (by omega) ?_;rw[h3];refine A9 (λ(D:List B9) (i:Int)=>(D,i,0)) lo hi (by omega) (λp D=>D=((T.take p).drop lo).map sD) (by omega) (s0:=[]) (by simp) (λp D next J _ U hn=>?_) (λD next U=>?_)
 . subst U;dsimp only;refine AX (by omega) (by omega) ?_;rw[V];have d:p<T.length:=by omega
   refine A0 (λ_=>?_) (λh=>by omega);refine AG (by omega) (x:=T[p].Col) (by simp[UB,d]) (AG (by omega) (x:=T[p].Val) (by simp[UB,d]) ⟨rfl,AL (by simp; omega) (A8 rfl (hn _ ?_))⟩);rw[AdR J d,gW]; rfl
 . subst U;dsimp only;refine AX (by omega) (by omega) ?_;rw[V];exact A0 (λh=>by omega) (λ_=>⟨rfl,W⟩)
theorem tZ {c:BB} {rows cols k:Int} {T:List A2} {Q:List B9->Prop} (O:WT c) (J:ZR c=UB rows cols T) (h:Canon cols rows T) (D:Q (M3 T k)):VY c k Q:=by
 unfold VY;refine lH O ?_;rw[J];have V:=lG cols.toNat T; have W:=h.r1;refine AdU (K5 _ _) (show(MA cols.toNat T).length<=1000000000 by omega) (λj (U:j<(MA cols.toNat T).length) (e:AY (MA cols.toNat T) j=k)=>?_) (λ(d:∀ j:Nat,j<(MA cols.toNat T).length->AY (MA cols.toNat T) j≠k)=>?_)
 . refine A0 (λh=>by omega) (λ_=>?_);unfold U4;exact AgT h U (by rw[e]; exact D)
 . refine B2 rfl ?_
   rwa [zF h.rowIn d] at D
def SD (T:List A2) (d:List Int):Int:=(d.map λk=>((M3 T k).length:Int)).sum
theorem uA (T:List A2) (l:List Int) (k:Int):SD T (l++[k])=SD T l+(M3 T k).length:=by simp[SD]
theorem bQ (T:List A2) (k:Int):(M3 T k).length<=T.length:=by grind[M3]
theorem AdW (T:List A2):∀ l:List Int,0<=SD T l∧SD T l<=l.length*T.length
 | []=>by simp[SD]
 | k :: l=>by
  have:=AdW T l;have d:=bQ T k;have e:SD T (k :: l)=(M3 T k).length+SD T l:=by simp[SD]
  rw[e,gY];grind
theorem Ab5 {c:BB} {rows cols:Int} {T:List A2} {d:List Int} {Q:Int->Prop} (hl:WT c) (a3:d.length<=1000000) (W:ZR c=UB rows cols T) (h:Canon cols rows T) (hQ:Q (SD T d)):dR c d Q:=by
 unfold dR;refine lH hl ?_;rw[W];have a6:=lG cols.toNat T; have hr:=h.r1; have a2:=h.len; have hs:=bP cols.toNat T;refine A9 (λ(s:Int) i=>(s,i)) 0 d.length (by omega) (λi s=>s=SD T (d.take i)) (by omega) (by simp[SD]) (λi s next _ hi O U=>?_) (λs next O=>?_)
 . subst O;dsimp only;refine A0 (λ_=>?_) (λh=>by omega);refine AW hi ?_;have hb:=AdW T (d.take i)
   have a4:((d.take i).length:Int)*(T.length:Int)<=1000000*65536:=by exact AiN (by simp; omega) (by omega) (by omega) (by omega)
   have hstep (v:Int) (hv:v=(M3 T d[i]).length):next (A4 (SD T (d.take i)+A4 v),A4 ((i:Int)+1)):=by have a5:=bQ T d[i];rw[A6 (x:=v) (by omega) (by omega),A6 (by omega) (by omega)];refine U _ ?_;rw[eZ hi,uA,hv]
   have hzero (hz:M3 T d[i]=[]):next (SD T (d.take i),A4 ((i:Int)+1)):=by refine U _ ?_;rw[eZ hi,uA,hz]; simp
   refine AdU (K5 _ _) (show(MA cols.toNat T).length<=1000000000 by omega) (λj (hj:j<(MA cols.toNat T).length) (e:AY (MA cols.toNat T) j=d[i])=>?_) (λ(D:∀ j:Nat,j<(MA cols.toNat T).length->AY (MA cols.toNat T) j≠d[i])=>?_)
   . have⟨x,_,_,V,_,Z,h4,_,s⟩:=h.colseg hj;refine A0 (λ_=>?_) (λh=>by omega);have J:(UB rows cols T).Start=iM cols.toNat T:=rfl;rw[J,A6 (x:=(j:Int)+1) (by omega) (by omega)];refine AX (by omega) (by omega) (AX (by omega) (by omega) (hstep _ ?_));rw[Z,h4,<-e,V,AdV,<-s.eq];have:=s.len;simp; omega
   . exact A0 (λh=>by omega) (λ_=>hzero (zF h.rowIn D))
 . subst O;dsimp only;refine A0 (λh=>by omega) (λ_=>?_);grind
theorem AgU {cols:Int} {T:List A2} {rows:Int} (h:Canon rows cols T) (D:∀ t∈T,EC t.Val):∀ t∈NV cols T,EC t.Val:=λt d=>D (iL t) ((XP h t).1 d)
def D1:List A2:=[⟨700,1,4⟩]
section
def xA (h:B8):HH:=((h.l.head?.map (·.At)).getD 0,h.which)
variable {α:Type} [Inhabited α]
def gH (H:List α) (i:Nat):α:=H.getD i default
theorem IR {H:List α} {i:Nat} (h:i<H.length):H[i]? = some (gH H i):=by simp[gH,rC,h]
theorem AgV {H:List α} {i:Nat} (h:i<H.length):gH H i∈H:=As3 (IR h)
def IU (H:List B8) (i:Nat):HH:=xA (gH H i)
def full (H:List B8):Prop:=∀ h∈H,h.l≠[]
theorem XQ {H d:List B8} (h:full H) (hp:d.Perm H):full d:=λx D=>h x (hp.mem_iff.1 D)
theorem uB {H:List B8} {i k:Nat} {Q:Bool->Prop} (J:full H) (hi:i<H.length) (hk:k<H.length) (D:Q (decide (NA (IU H i) (IU H k)))):F6 H i k Q:=by
 unfold F6;obtain⟨s,t,O⟩:∃ s t,(gH H i).l=s :: t:=ArU (J _ (AgV hi));obtain⟨d,W,h⟩:∃ s t,(gH H k).l=s :: t:=ArU (J _ (AgV hk));have U:IU H i=(s.At,(gH H i).which):=by simp[IU,xA,O]
 have V:IU H k=(d.At,(gH H k).which):=by simp[IU,xA,h]
 refine AG (x:=gH H i) (by omega) (IR hi) (AG (by omega) (x:=s) (by rw[O]; rfl) (AG (x:=gH H k) (by omega) (IR hk) (AG (by omega) (x:=d) (by rw[h]; rfl) (AG (x:=gH H i) (by omega) (IR hi) (AG (x:=gH H k) (by omega) (IR hk) ?_)))));refine GG (GG (yU ?_));rw[U,V] at D
 have:(or2 (Q6 s.At d.At) (Q6 (gH H i).which (gH H k).which)<0)↔NA (s.At,(gH H i).which) (d.At,(gH H k).which):=by unfold or2 Q6 NA; simp only; split <;> split <;> (try split) <;> (try split) <;> omega
 simpa only[this] using D
def swp (H:List α) (i k:Nat):List α:=(H.set i (gH H k)).set k (gH H i)
theorem QR (H:List α) (i k:Nat):(swp H i k).length=H.length:=by simp[swp]
theorem lI {H:List α} {i k:Nat} (hi:i<H.length) (hk:k<H.length) (j:Nat):gH (swp H i k) j=if j=k then gH H i else if j=i then gH H k else gH H j:=by
 unfold swp gH;simp only[rC];by_cases e1:j=k
 . subst e1; rw[if_pos rfl,AkX (by simpa using hk)]; simp
 . rw[if_neg e1,AfZ (Ne.symm e1)];by_cases e2:j=i
   . subst e2; rw[if_pos rfl,AkX hi]; simp
   . rw[if_neg e2,AfZ (Ne.symm e2)]
theorem QS {H:List B8} {i k:Nat} (hi:i<H.length) (hk:k<H.length) (j:Nat):IU (swp H i k) j=if j=k then IU H i else if j=i then IU H k else IU H j:=by
 unfold IU; rw[lI hi hk]; split
 . rfl
 . split <;> rfl
theorem uC {α:Type}:∀ (l:List α) (i:Nat) (h:i<l.length) (y:α),(l[i] :: l.set i y).Perm (y :: l)
 | a :: l,0,_,y=>by simpa using List.Perm.swap y a l
 | a :: l,i+1,h,y=>by have:=uC l i (by simpa using h) y;simp only[List.getElem_cons_succ,AnU];exact(List.Perm.swap _ _ _).trans ((this.cons a).trans (List.Perm.swap _ _ _))
theorem XR {H:List α} {i k:Nat} (hi:i<H.length) (hk:k<H.length):(swp H i k).Perm H:=by
 have O:H[i]=gH H i:=by have:=IR hi; rw[zL8 hi] at this; exact TG this
 have D:H[k]=gH H k:=by have:=IR hk; rw[zL8 hk] at this; exact TG this
 have h:=uC H i hi (gH H k);have d:=uC (H.set i (gH H k)) k (by simpa using hk) (gH H i)
 have J:(H.set i (gH H k))[k]'(by simpa using hk)=gH H k:=by
  rw[List.getElem_set]; split
  . rfl
  . exact D
 rw[J] at d; rw[O] at h;exact List.Perm.cons_inv (d.trans h)
theorem Ab6 {H:List B8} {i k:Nat} {Q:List B8->Prop} (hi:i<H.length) (hk:k<H.length) (d:Q (swp H i k)):F7 H i k Q:=by unfold F7;refine AG (x:=gH H k) (by omega) (IR hk) (AG (x:=gH H i) (by omega) (IR hi) (AG (x:=gH H i) (by omega) (IR hi) ?_));refine AG (x:=(H.set i (gH H k))[k]'(by simpa using hk)) (by omega) (by simp only[VK]; exact zL8 (by simpa using hk)) ?_;simp only[VK];exact d
def oO (H:List B8) (n:Nat):Prop:=∀ j,0<j->j<n->¬NA (IU H j) (IU H ((j - 1) / 2))
theorem AlJ {H:List B8} {n:Nat} (h:oO H n):∀ j,j<n->¬NA (IU H j) (IU H 0):=by
 intro j
 induction j using Nat.strongRecOn with
 | _ j D=>
  intro d;rcases aD j with e | hp
  . subst e; exact H5 _
  . have J:=h j hp d;have O:=D ((j - 1) / 2) (by omega) (by omega);unfold NA at *; omega
theorem Ax9 {o:AF} {j:Nat} {Q:AF->Prop} (hl:o.heads.length<=1000000000000) (hf:full o.heads) (h:j<o.heads.length)
   (h1:∀ c,0<c->c<o.heads.length->c≠j->¬NA (IU o.heads c) (IU o.heads ((c - 1) / 2))) (h2:∀ c,0<c->c<o.heads.length->(c - 1) / 2=j->0<j->¬NA (IU o.heads c) (IU o.heads ((j - 1) / 2)))
   (Z:∀ H,H.Perm o.heads->oO H H.length->Q ⟨H,o.r,o.out⟩):FF o j Q:=by
 unfold FF
 refine BV (λs:List B8×Int=>∃ j:Nat,s.2=j∧s.1.Perm o.heads∧j<s.1.length∧(∀ c,0<c->c<s.1.length->c≠j->¬NA (IU s.1 c) (IU s.1 ((c - 1) / 2)))∧(∀ c,0<c->c<s.1.length->(c - 1) / 2=j->0<j->¬NA (IU s.1 c) (IU s.1 ((j - 1) / 2)))) (λs=>s.2.toNat)
   ⟨j,rfl,.refl _,h,h1,h2⟩ ?_
 rintro⟨H,_⟩ next ⟨j,e,hp,h,O,W⟩ hn;simp only at e hp h O W ⊢;subst e;have a5:=hp.length_eq
 have ei:A4 ((A4 ((j:Int) - 1)).tdiv 2)=((if j=0 then 0 else (j - 1) / 2:Nat):Int):=by
   rw[A6 (x:=(j:Int) - 1) (by omega) (by omega)];split
   . rename_i e; subst e; decide
   . rw[AnD (by omega),A6 (by omega) (by omega)]; omega
 rw[ei];refine B5 (λe=>?_) (λe=>?_)
 . refine Z H hp λc J d=>O c J d ?_;split at e <;> omega
 . have a4:0<j:=by
     rcases aD j with z | z
     . subst z; simp at e
     . exact z
   simp only[show j≠0 by omega,if_false];have V:=XQ hf hp;refine uB V h (by omega) (CB (λD=>?_) (λD=>?_))
   . refine Z H hp λc J d=>?_;by_cases ec:c=j
     . subst ec; exact of_decide_eq_false D
     . exact O c J d ec
   . have D:=of_decide_eq_true D;refine Ab6 (by omega) h (hn _ ⟨(j - 1) / 2,rfl,(XR (by omega) h).trans hp,by rw[QR]; omega,?_,?_⟩ (by simp only[VK]; omega))
     . intro c J d a2;rw[QR] at d;rw[QS (by omega) h,QS (by omega) h];by_cases e1:c=j
       . subst e1;rw[if_pos rfl,if_neg (by omega),if_pos rfl];unfold NA at *; omega
       . rw[if_neg e1,if_neg a2];by_cases e2:(c - 1) / 2=j
         . rw[if_pos e2];exact W c J d e2 a4
         . rw[if_neg e2];by_cases e3:(c - 1) / 2=(j - 1) / 2
           . rw[if_pos e3];have:=O c J d e1;rw[e3] at this;unfold NA at *; omega
           . rw[if_neg e3]; exact O c J d e1
     . intro c J d he a3;rw[QR] at d;rw[QS (by omega) h,QS (by omega) h];have U:=O ((j - 1) / 2) a3 (by omega) (by omega);rw[if_neg (show((j - 1) / 2 - 1) / 2≠j by omega),if_neg (show((j - 1) / 2 - 1) / 2≠(j - 1) / 2 by omega)];by_cases e1:c=j
       . subst e1; rw[if_pos rfl]; exact U
       . rw[if_neg e1,if_neg (by omega)];have:=O c J d e1;rw[he] at this;unfold NA at *; omega
theorem Ap3 {o:AF} {l:List BM} {w:Int} {Q:AF->Prop} (hl:o.heads.length<=1000000000) (hf:full o.heads) (Z:oO o.heads o.heads.length)
   (W:∀ H,H.Perm (if l=[] then o.heads else ⟨l,w⟩ :: o.heads)->oO H H.length->Q ⟨H,o.r,o.out⟩):GJ o l w Q:=by
 unfold GJ IK MI H4;refine A0 (λh=>?_) (λh=>?_)
 . have J:l≠[]:=by intro e; subst e; simp at h
   rw[if_neg J] at W;refine AL (by simp; omega) ?_;show FF ⟨o.heads++[⟨l,w⟩],o.r,o.out⟩ (A4 (((o.heads++[(⟨l,w⟩:B8)]).length:Int) - 1)) _;have d:(o.heads++[(⟨l,w⟩:B8)]).length=o.heads.length+1:=by simp
   have el:A4 (((o.heads++[(⟨l,w⟩:B8)]).length:Int) - 1)=(o.heads.length:Int):=by rw[d,A6 (x:=((o.heads.length+1:Nat):Int) - 1) (by omega) (by omega)]; omega
   rw[el]
   have hk:∀ c,c<o.heads.length->IU (o.heads++[(⟨l,w⟩:B8)]) c=IU o.heads c:=by intro c V; simp[IU,gH,rC,rD V]
   refine Ax9 (o:=⟨o.heads++[⟨l,w⟩],o.r,o.out⟩) (j:=o.heads.length) (by simp only[d]; omega) ?_ (by simp only[d]; omega) ?_ ?_ ?_
   . intro x hx;rcases List.mem_append.1 hx with U | U
     . exact hf x U
     . simp only[jZ] at U; subst U; exact J
   . intro c V D O;simp only[d] at D O ⊢;rw[hk c (by omega),hk _ (by omega)];exact Z c V (by omega)
   . intro c V D he hp;simp only[d] at D;omega
   . intro H hp hH;exact W H (hp.trans AkY) hH
 . have:l=[]:=by
     cases l with
     | nil=>rfl
     | cons a b=>simp at h
   subst this;rw[if_pos rfl] at W;exact W o.heads (.refl _) Z
theorem AsR {o:AF} {n:Nat} {Q:Bool×AF->Prop} (hl:o.heads.length<=1000000000000) (hf:full o.heads) (hn:n<=o.heads.length)
   (h1:∀ c,0<c->c<n->(c - 1) / 2≠0->¬NA (IU o.heads c) (IU o.heads ((c - 1) / 2)))
   (hQ:∀ b H,H.Perm o.heads->oO H n->(∀ j,n<=j->gH H j=gH o.heads j)->Q (b,⟨H,o.r,o.out⟩)):G5 o 0 n Q:=by
 unfold G5
 refine BV (λs:List B8×Int=>∃ j:Nat,s.2=j∧s.1.Perm o.heads∧(∀ j,n<=j->gH s.1 j=gH o.heads j)∧(j<n∨j=0)∧(∀ c,0<c->c<n->(c - 1) / 2≠j->¬NA (IU s.1 c) (IU s.1 ((c - 1) / 2)))∧(∀ c,0<c->c<n->(c - 1) / 2=j->0<j->¬NA (IU s.1 c) (IU s.1 ((j - 1) / 2)))) (λs=>n - s.2.toNat)
   ⟨0,rfl,.refl _,λ_ _=>rfl,.inr rfl,h1,λc _ _ _ h=>absurd h (by omega)⟩ ?_
 rintro⟨H,_⟩ next ⟨i,e,hp,Z,hi,W,g2⟩ hn';simp only at e hp hi Z W g2 ⊢;subst e;have a7:=hp.length_eq;have e1:A4 (A4 (2*(i:Int))+1)=((2*i+1:Nat):Int):=by rw[A6 (x:=2*(i:Int)) (by omega) (by omega),A6 (by omega) (by omega)]; omega
 have e2:A4 (((2*i+1:Nat):Int)+1)=((2*i+2:Nat):Int):=by rw[A6 (by omega) (by omega)]; omega
 simp only[e1,e2];refine A0 (λh=>?_) (λh=>A0 (λ_=>by omega) (λ_=>?_))
 . exact hQ _ H hp (λc J d=>W c J d (by omega)) Z
 . have a3:=XQ hf hp;refine CE (λt:Int=>∃ j:Nat,t=j∧j<n∧(j - 1) / 2=i∧0<j∧∀ c,0<c->c<n->(c - 1) / 2=i->¬NA (IU H c) (IU H j)) ?_ ?_
   . rintro t ⟨j,rfl,a4,U,a6,a2⟩;refine uB a3 (by omega) (by omega) (CB (λD=>?_) (λD=>?_))
     . refine hQ _ H hp (λc J d=>?_) Z;by_cases ec:(c - 1) / 2=i
       . have q1:=a2 c J d ec;have q2:=of_decide_eq_false D;rw[ec];unfold NA at *; omega
       . exact W c J d ec
     . have D:=of_decide_eq_true D;refine Ab6 (by omega) (by omega) (hn' _ ⟨j,rfl,(XR (by omega) (by omega)).trans hp,?_,.inl a4,?_,?_⟩ (by simp only[VK]; omega))
       . intro q hq;rw[lI (by omega) (by omega),if_neg (by omega),if_neg (by omega)];exact Z q hq
       . intro c J d a5;rw[QS (by omega) (by omega),QS (by omega) (by omega)];by_cases ec:c=j
         . subst ec;rw[if_pos rfl,if_neg (by omega),if_pos U];unfold NA at *; omega
         . rw[if_neg ec];by_cases ei:c=i
           . subst ei;rw[if_pos rfl,if_neg a5,if_neg (by omega)];exact g2 j a6 a4 U J
           . rw[if_neg ei,if_neg a5];by_cases ep:(c - 1) / 2=i
             . rw[if_pos ep]; exact a2 c J d ep
             . rw[if_neg ep]; exact W c J d ep
       . intro c J d O _;rw[QS (by omega) (by omega),QS (by omega) (by omega),if_neg (by omega),if_neg (by omega),if_neg (by omega),if_pos U];have:=W c J d (by omega)
         rwa [O] at this
   . intro k' V;refine A0 (λh2=>uB a3 (by omega) (by omega) ⟨λD=>?_,λD=>?_⟩) (λh2=>?_)
     . refine V _ ⟨2*i+2,rfl,by omega,by omega,by omega,λc J d O=>?_⟩;have D:=of_decide_eq_true D;rcases(show c=2*i+1∨c=2*i+2 by omega) with e | e
       . subst e; unfold NA at *; omega
       . subst e; exact H5 _
     . refine V _ ⟨2*i+1,rfl,by omega,by omega,by omega,λc J d O=>?_⟩;have D:=of_decide_eq_false D;rcases(show c=2*i+1∨c=2*i+2 by omega) with e | e
       . subst e; exact H5 _
       . subst e; exact D
     . refine V _ ⟨2*i+1,rfl,by omega,by omega,by omega,λc J d O=>?_⟩;rcases(show c=2*i+1∨c=2*i+2 by omega) with e | e
       . subst e; exact H5 _
       . omega
theorem AvL {o:AF} {Q:B8×AF->Prop} (hl:o.heads.length<=1000000000) (hf:full o.heads) (hh:oO o.heads o.heads.length) (h0:o.heads≠[])
   (hQ:∀ x H,(gH o.heads 0 :: H).Perm o.heads->oO H H.length->Q (x,⟨H,o.r,o.out⟩)):GQ o Q:=by
 unfold GQ H4;have d:0<o.heads.length:=List.length_pos_iff.2 h0;have e:A4 ((o.heads.length:Int) - 1)=((o.heads.length - 1:Nat):Int):=by rw[A6 (by omega) (by omega)]; omega
 simp only[e];have a3:0<o.heads.length:=d;refine Ab6 (i:=0) d (by omega) ?_;have D:=XR (H:=o.heads) (i:=0) (k:=o.heads.length - 1) d (by omega);refine AsR (o:=⟨swp o.heads 0 (o.heads.length - 1),o.r,o.out⟩) (n:=o.heads.length - 1) (by simp only[QR]; omega) (XQ hf D) (by simp only[QR]; omega) ?_ ?_
 . intro c U a2 O;simp only;rw[QS d (by omega),QS d (by omega),if_neg (by omega),if_neg (by omega),if_neg (by omega),if_neg O];exact hh c U (by omega)
 . intro b H hp hH W;simp only at hp W;have J:H.length=o.heads.length:=hp.length_eq.trans (QR _ _ _);unfold NH;have e':A4 ((H.length:Int) - 1)=((o.heads.length - 1:Nat):Int):=by rw[J]; exact e
   simp only[e'];refine AG (by omega) (IR (by simp only[VK]; omega)) ⟨by omega,by omega,by omega,?_⟩;simp only[VK];refine hQ _ _ ?_ ?_
   . have h:=W (o.heads.length - 1) (by omega);rw[lI d (by omega),if_pos rfl] at h;rw[<-h]
     have h3:H=H.take (o.heads.length - 1)++[gH H (o.heads.length - 1)]:=by
      have h4:H[o.heads.length - 1]'(by omega)=gH H (o.heads.length - 1):=by have:=IR (H:=H) (i:=o.heads.length - 1) (by omega); rw[zL8 (by omega)] at this; exact TG this
      rw[<-h4,List.take_append_getElem (by omega),AnF (by omega)]
     exact(AkY (l₁:=[gH H (o.heads.length - 1)])).trans ((h3▸.refl _:(H.take (o.heads.length - 1)++[gH H (o.heads.length - 1)]).Perm H).trans (hp.trans D))
   . intro j Z V;rw[QX] at V
     have hk:∀ c,c<o.heads.length - 1->IU (H.take (o.heads.length - 1)) c=IU H c:=by intro c U; simp[IU,gH,rC,rF,U]
     rw[hk j (by omega),hk _ (by omega)];exact hH j Z (by omega)
def kvM (s:BM):Int×AZ:=(s.At,s.Val)
def lk (l:List BM) (i:Int):Option AZ:=BC i (l.map kvM)
def Rise (l:List BM):Prop:=l.Pairwise λa b=>a.At<b.At
instance (l:List BM):Decidable (Rise l):=by unfold Rise; infer_instance
def wR (l:List BM):Prop:=∀ s∈l,S5 s.Val
theorem uD (i:Int):lk [] i=none:=rfl
theorem EA (s:BM) (l:List BM) (i:Int):lk (s :: l) i=if i=s.At then some s.Val else lk l i:=rfl
theorem W4:∀ {l:List BM} {i:Int},(∀ s∈l,s.At≠i)->lk l i=none
 | [],_,_=>rfl
 | s :: l,i,h=>by rw[EA,if_neg (λe=>h s (by simp) e.symm)]; exact W4 λx d=>h x (by simp[d])
theorem oP:∀ {l:List BM} {i:Int} {v:AZ},lk l i=some v->⟨i,v⟩∈l
 | s :: l,i,v,h=>by
  rw[EA] at h;split at h
  . rename_i e; cases h; subst e; simp
  . exact gV _ (oP h)
theorem uE:∀ {l:List BM} (h:Rise l) {s:BM},s∈l->lk l s.At=some s.Val
 | x :: l,h,s,hs=>by
  unfold Rise at h;rw[AcZ] at h;rw[EA];rcases List.mem_cons.1 hs with e | hs
  . subst e; rw[if_pos rfl]
  . have:=h.1 s hs;rw[if_neg (by omega)]; exact uE h.2 hs
theorem XS:∀ (l:List BM) (m:List BM) (i:Int),lk (l++m) i=match lk l i with | some v=>some v | none=>lk m i
 | [],m,i=>rfl
 | s :: l,m,i=>by
  rw[nV,EA,EA];split
  . rfl
  . exact XS l m i
theorem AdX {l m:List BM} (h:Rise l) (D:Rise m) (J:∀ i,lk l i=lk m i):l=m:=by
 have O:∀ {l:List BM},Rise l->l.Nodup:=λh=>h.imp λ_ e=>by subst e; omega
 have hp:l.Perm m:=(AcX (O h) (O D)).2 λ_=>⟨λd=>by
  have:=uE h d; rw[J] at this; exact oP this,λd=>by
  have:=uE D d; rw[<-J] at this; exact oP this⟩
 exact eJ hp h D λ_ _ _ _ _ _=>by omega
theorem AdY {l:List BM} (h:∀ (i:Nat) (hi:i+1<l.length),l[i].At<l[i+1].At):Rise l:=by
 unfold Rise;rw[AkW];intro i j hi J D;obtain⟨d,rfl⟩:∃ d,j=i+1+d:=⟨j - i - 1,by omega⟩
 induction d with
 | zero=>grind
 | succ d O=>grind
theorem Rise.adj {l:List BM} (h:Rise l) {i j:Nat} (D:j<l.length) (d:i<j):(l[i]'(by omega)).At<l[j].At:=by unfold Rise at h; rw[AkW] at h; grind
def nS (r:Int):Option AZ->Option AZ->Option AZ
 | none,y=>y
 | some a,none=>some a
 | some a,some b=>some (I4 r a b)
theorem UD (r:Int) (a:Option AZ):nS r a none=a:=by cases a <;> rfl
def MB (r:Int) (a b:List BM):List BM:=
 match a,b with
 | [],b=>b
 | x :: a,[]=>x :: a
 | x :: a,y :: b=>if x.At<y.At then x :: MB r a (y :: b) else if y.At<x.At then y :: MB r (x :: a) b else ⟨x.At,I4 r x.Val y.Val⟩ :: MB r a b
termination_by a.length+b.length
theorem Ap4 (r:Int) (a:List BM):MB r a []=a:=by cases a <;> simp[MB]
theorem Z1 (r:Int):∀ (a b:List BM) (s:BM),s∈MB r a b->(∃ x∈a,x.At=s.At)∨∃ x∈b,x.At=s.At
 | [],b,s,h=>.inr ⟨s,by simpa[MB] using h,rfl⟩
 | x :: a,[],s,h=>.inl ⟨s,by simpa[MB] using h,rfl⟩
 | x :: a,y :: b,s,h=>by
  rw[MB] at h;split at h
  . rcases List.mem_cons.1 h with e | h
    . exact .inl ⟨x,by simp,by rw[e]⟩
    . rcases Z1 r a (y :: b) s h with⟨z,hz,e⟩ | ⟨z,hz,e⟩
      . exact .inl ⟨z,by simp[hz],e⟩
      . exact .inr ⟨z,hz,e⟩
  . split at h
    . rcases List.mem_cons.1 h with e | h
      . exact .inr ⟨y,by simp,by rw[e]⟩
      . rcases Z1 r (x :: a) b s h with⟨z,hz,e⟩ | ⟨z,hz,e⟩
        . exact .inl ⟨z,hz,e⟩
        . exact .inr ⟨z,by simp[hz],e⟩
    . rcases List.mem_cons.1 h with e | h
      . exact .inl ⟨x,by simp,by rw[e]⟩
      . rcases Z1 r a b s h with⟨z,hz,e⟩ | ⟨z,hz,e⟩
        . exact .inl ⟨z,by simp[hz],e⟩
        . exact .inr ⟨z,by simp[hz],e⟩
termination_by a b=>a.length+b.length
theorem XT (r:Int):∀ (a b:List BM),Rise a->Rise b->Rise (MB r a b)∧(MB r a b).length<=a.length+b.length∧(wR a->wR b->wR (MB r a b))∧∀ i,lk (MB r a b) i=nS r (lk a i) (lk b i)
  | [],b,_,hb=>by simp only[MB]; exact⟨hb,by simp,λ_ h=>h,λi=>rfl⟩
  | x :: a,[],ha,_=>by rw[Ap4]; exact⟨ha,by simp,λh _=>h,λi=>by rw[uD,UD]⟩
  | x :: a,y :: b,ha,hb=>by
    have ha':=ha; have Z:=hb;unfold Rise at ha' Z;rw[AcZ] at ha' Z;rw[MB];split
    . rename_i a3;have⟨O,U,V,W⟩:=XT r a (y :: b) ha'.2 hb;refine⟨List.pairwise_cons.2 ⟨λs d=>?_,O⟩,by simp at U ⊢; omega,λD J s d=>?_,λi=>?_⟩
      . grind[Z1]
      . rcases List.mem_cons.1 d with e | d
        . subst e; exact D _ (by simp)
        . exact V (λs d=>D s (by simp[d])) J s d
      . rw[EA,EA x a];split
        . rename_i e; subst e
          rw[W4 (l := y :: b) (λs d => by
            rcases List.mem_cons.1 d with e | d
            . subst e; omega
            . have:=Z.1 s d; omega)]
          rfl
        . exact W i
    . rename_i a3;split
      . rename_i a4;have⟨O,U,V,W⟩:=XT r (x :: a) b ha Z.2;refine⟨List.pairwise_cons.2 ⟨λs d=>?_,O⟩,by simp at U ⊢; omega,λD J s d=>?_,λi=>?_⟩
        . grind[Z1]
        . rcases List.mem_cons.1 d with e | d
          . subst e; exact J _ (by simp)
          . exact V D (λs d=>J s (by simp[d])) s d
        . rw[EA,EA y b];split
          . rename_i e; subst e
            rw[W4 (l := x :: a) (λs d => by
              rcases List.mem_cons.1 d with e | d
              . subst e; omega
              . have:=ha'.1 s d; omega)]
            rfl
          . exact W i
      . rename_i a4;have a2:x.At=y.At:=by omega
        have⟨O,U,V,W⟩:=XT r a b ha'.2 Z.2;refine⟨List.pairwise_cons.2 ⟨λs d=>?_,O⟩,by simp at U ⊢; omega,λD J s d=>?_,λi=>?_⟩
        . grind[Z1]
        . rcases List.mem_cons.1 d with e | d
          . subst e; exact XL (D _ (by simp)) (J _ (by simp))
          . exact V (λs d=>D s (by simp[d])) (λs d=>J s (by simp[d])) s d
        . rw[EA,EA x a,EA y b,<-a2];split
          . rfl
          . exact W i
termination_by a b=>a.length+b.length
def OU (r:Int) (R:Nat->List BM) (i:Int):Nat->Option AZ->Option AZ
 | 0,a=>a
 | n+1,a=>nS r (OU r R i n a) (lk (R n) i)
def QA (r:Int) (L:List (List BM)):List BM:=L.foldl (MB r) []
def total (L:List (List BM)):Nat:=(L.map List.length).foldr (· + ·) 0
theorem uF (r:Int):∀ (L:List (List BM)),(∀ l∈L,Rise l)->∀ n,n<=L.length ->
  Rise (QA r (L.take n))∧(QA r (L.take n)).length<=total (L.take n)∧((∀ l∈L,wR l)->wR (QA r (L.take n)))∧∀ i,lk (QA r (L.take n)) i=OU r (λw=>L.getD w []) i n none:=by
 intro L J n
 induction n with
 | zero=>intro _; simp[QA,Rise,total,wR,uD,OU]
 | succ n d=>
  intro O;have⟨_,_,_,_⟩:=d (by omega);have e:L.take (n+1)=L.take n++[L[n]]:=eZ (by omega);have h:QA r (L.take (n+1))=MB r (QA r (L.take n)) L[n]:=by grind[QA]
  have D:total (L.take (n+1))=total (L.take n)+L[n].length:=by
   rw[e]; unfold total
   induction (L.take n) with
   | nil=>simp
   | cons a l d=>grind
  grind[XT,QA,OU]
theorem Z2 {r:Int} {R:Nat->List BM} {i:Int} {a:Option AZ}:∀ {n:Nat},(∀ w,w<n->lk (R w) i=none)->OU r R i n a=a
 | 0,_=>rfl
 | n+1,h=>by rw[OU,Z2 (λw _=>h w (by omega)),h n (by omega),UD]
theorem qF {r:Int} {R d:Nat->List BM} {i:Int} {a:Option AZ}:∀ {n:Nat},(∀ w,w<n->lk (R w) i=lk (d w) i)->OU r R i n a=OU r d i n a
 | 0,_=>rfl
 | n+1,h=>by rw[OU,OU,qF (λw _=>h w (by omega)),h n (by omega)]
def upd (R:Nat->List BM) (w:Nat) (l:List BM):Nat->List BM:=λk=>if k=w then l else R k
theorem uG {r:Int} {R:Nat->List BM} {i:Int} {a:Option AZ} {w:Nat} {v:AZ} {t:List BM} (d:∀ k,k<w->lk (R k) i=none) (J:lk (R w) i=some v) (D:lk t i=none) :
  ∀ {n:Nat},w<n->OU r (upd R w t) i n (nS r a (some v))=OU r R i n a
 | 0,h=>by omega
 | n+1,h=>by
  rw[OU,OU];by_cases e:n=w
  . subst e;rw[Z2 (λk hk=>by rw[upd,if_neg (by omega)]; exact d k hk),Z2 d,upd,if_pos rfl,J,D,UD]
  . rw[uG d J D (by omega),upd,if_neg e]
def EF (R:Nat->List BM):Nat->List B8
 | 0=>[]
 | n+1=>if R n=[] then EF R n else ⟨R n,n⟩ :: EF R n
theorem oQ {R:Nat->List BM} {h:B8}:∀ {n:Nat},h∈EF R n↔∃ w,w<n∧R w≠[]∧h=⟨R w,w⟩
 | 0=>by simp[EF]
 | n+1=>by
  rw[EF];split
  . rename_i e; rw[oQ (n:=n)];grind
  . rename_i e; rw[SK,oQ (n:=n)];grind
theorem AdZ {R d:Nat->List BM}:∀ {n:Nat},(∀ w,w<n->R w=d w)->EF R n=EF d n
 | 0,_=>rfl
 | n+1,h=>by rw[EF,EF,h n (by omega),AdZ λw _=>h w (by omega)]
theorem AgW (R:Nat->List BM):∀ n,(EF R n).length<=n
 | 0=>by simp[EF]
 | n+1=>by rw[EF]; have:=AgW R n; split <;> simp <;> omega
theorem AgX {R:Nat->List BM} {w:Nat} {l:List BM}:∀ {n:Nat},w<n->(EF (upd R w l) n).Perm (if l=[] then EF (upd R w []) n else ⟨l,w⟩ :: EF (upd R w []) n)
 | 0,h=>by omega
 | n+1,h=>by
  by_cases e:n=w
  . subst e;rw[EF,EF];have d:EF (upd R n l) n=EF (upd R n []) n:=AdZ λ_ _=>by rw[upd,upd,if_neg (by omega),if_neg (by omega)]
    simp only[upd,if_true,d];split
    . exact .refl _
    . rw[<-d]
  . have D:=AgX (R:=R) (l:=l) (n:=n) (w:=w) (by omega);rw[EF,EF];have d:upd R w l n=R n:=by rw[upd,if_neg e]
    have O:upd R w [] n=R n:=by rw[upd,if_neg e]
    rw[d,O];split
    . exact D
    . split at D
      . rename_i J; rw[if_pos J]; exact D.cons _
      . rename_i J; rw[if_neg J]; exact(D.cons _).trans (List.Perm.swap _ _ _)
theorem Ap5 (R:Nat->List BM) (w:Nat):upd R w (R w)=R:=by grind[upd]
def iN (R:Nat->List BM):Nat->Nat
 | 0=>0
 | n+1=>iN R n+(R n).length
theorem Ae0 {R:Nat->List BM} {w:Nat} {s:BM} {t:List BM} (h:R w=s :: t):∀ {n:Nat},w<n->iN R n=iN (upd R w t) n+1
 | 0,h'=>by omega
 | n+1,h'=>by
  rw[iN,iN];by_cases e:n=w
  . subst e
    have e1:∀ k,k<=n->iN (upd R n t) k=iN R k:=by
     intro k
     induction k with
     | zero=>intro _; rfl
     | succ k d=>grind[iN,upd]
    grind[upd]
  . rw[Ae0 h (n:=n) (by omega),upd,if_neg e]; omega
end
def la (out:List BM):BM:=out.getD (out.length - 1) default
def rI (r:Int) (out:List BM) (s:BM):List BM:=if 0<out.length∧(la out).At=s.At then out.set (out.length - 1) ⟨(la out).At,I4 r (la out).Val s.Val⟩ else out++[s]
theorem AlK (p:List BM) (y:BM):la (p++[y])=y:=by simp[la]
theorem Ae1 (r:Int) (p:List BM) (y s:BM):rI r (p++[y]) s=if y.At=s.At then p++[⟨y.At,I4 r y.Val s.Val⟩] else p++[y]++[s]:=by unfold rI;rw[AlK];simp_all
theorem Ab7 (l:List BM):l=[]∨∃ p y,l=p++[y]:=by
 rcases List.eq_nil_or_concat l with h | ⟨p,y,h⟩
 all_goals grind
theorem AlL {r:Int} {out:List BM} {s:BM} (h:Rise out) (U:wR out) (V:S5 s.Val) (O:∀ o∈out,o.At<=s.At) :
   Rise (rI r out s)∧wR (rI r out s)∧(rI r out s).length<=out.length+1∧(∀ o∈rI r out s,o.At<=s.At)∧(∀ i,lk (rI r out s) i=if i=s.At then nS r (lk out i) (some s.Val) else lk out i):=by
 rcases Ab7 out with e | ⟨p,y,e⟩
 . subst e;have:rI r [] s=[s]:=by simp[rI]
   rw[this];exact⟨by simp[Rise],by simpa[wR] using V,by simp,by simp,λi=>by rw[EA]; rfl⟩
 . subst e;rw[Ae1]
   have hp:∀ x∈p,x.At<y.At:=by intro x d;unfold Rise at h; grind
   have a2:Rise p:=by unfold Rise at h; rw[As4] at h; exact h.1
   have a3:y.At<=s.At:=O y (by simp);split
   . rename_i e;refine⟨List.pairwise_append.2 ⟨a2,by simp,λa W b D=>by simp only[jZ] at D; subst D; exact hp a W⟩,?_,by simp,?_,λi=>?_⟩
     . intro x d;rcases List.mem_append.1 d with d | d
       . exact U x (by simp[d])
       . simp only[jZ] at d; subst d; exact XL (U y (by simp)) V
     . grind
     . rw[XS,XS,EA,EA,<-e];simp only;split
       . rename_i v Z;rw[if_neg];intro e'; subst e';rw[W4 (λx d=>by have:=hp x d; omega)] at Z; cases Z
       . split <;> rfl
   . rename_i e
     have J:∀ x∈p++[y],x.At<s.At:=by grind
     refine⟨List.pairwise_append.2 ⟨h,by simp,λa W b D=>by simp only[jZ] at D; subst D; exact J a W⟩,?_,by simp,?_,λi=>?_⟩
     . intro x d;rcases List.mem_append.1 d with d | d
       . exact U x d
       grind
     . grind
     . rw[XS _ [s],EA];by_cases ei:i=s.At
       . subst ei;rw[if_pos rfl,if_pos rfl,W4 (λx d=>by have:=J x d; omega)]; rfl
       . rw[if_neg ei,if_neg ei,uD];grind
theorem next_ok {o:AF} {s:BM} {t:List BM} {Q:AF->Prop} (hl:o.heads.length<=1000000000) (W:full o.heads) (hh:oO o.heads o.heads.length) (V:o.heads≠[]) (b0:o.out.length<=1000000000)
   (ho:wR o.out) (hs:S5 s.Val) (hx:(gH o.heads 0).l=s :: t)
   (hQ:∀ H d,(gH o.heads 0 :: d).Perm o.heads->H.Perm (if t=[] then d else ⟨t,(gH o.heads 0).which⟩ :: d)->oO H H.length->Q ⟨H,o.r,rI o.r o.out s⟩):FV o Q:=by
 unfold FV;have a2:0<o.heads.length:=List.length_pos_iff.2 V;refine AG (x:=gH o.heads 0) (by omega) (IR a2) (AvL hl W hh V λx d hp hH=>?_);rw[hx];refine AG (x:=s) (by omega) rfl ⟨by omega,by simp; omega,by omega,?_⟩;have et:((s :: t).take (((s :: t).length:Nat):Int).toNat).drop (Int.toNat 1)=t:=by simp
 rw[et];have a5:full d:=λy hy=>W y (hp.mem_iff.1 (gV _ hy));have a9:d.length<=o.heads.length:=by have:=hp.length_eq; grind
 refine Ap3 (o:=⟨d,o.r,o.out⟩) (by simp only; omega) a5 hH λH a7 a4=>?_;have a8:=hQ H d hp a7 a4;simp only
 have key:∀ b,(b=true↔(0<o.out.length∧(la o.out).At=s.At))->(λO=>A5 O (AR o.out (A4 ((o.out.length:Int) - 1)) λD=>TQ o.r D.Val s.Val λa3=>AR o.out (A4 ((o.out.length:Int) - 1)) λU=>Q ({ heads:=H,r:=o.r,out:=(o.out.set ((A4 ((o.out.length:Int) - 1)).toNat) ({ At:=U.At,Val:=a3 }:BM)) }:AF)) (DW 24 o.out ([s]) λ_=>Q ({ heads:=H,r:=o.r,out:=(o.out++([s])) }:AF))) b:=by
   intro b Z;refine⟨λh=>?_,λh=>?_⟩
   . have hc:=Z.1 h;have e:A4 ((o.out.length:Int) - 1)=((o.out.length - 1:Nat):Int):=by rw[A6 (by omega) (by omega)]; omega
     have J:o.out[((o.out.length - 1:Nat):Int).toNat]? = some (la o.out):=by grind[la]
     rw[e];refine AG (by omega) J (bK (ho _ (As3 J)) hs (AG (by omega) J ?_));grind[rI]
   . have hc:¬(0<o.out.length∧(la o.out).At=s.At):=λh'=>by rw[Z.2 h'] at h; cases h
     refine AL (by simp; omega) ?_;grind[rI]
 refine CE (λb:Bool=>b=true↔(0<o.out.length∧(la o.out).At=s.At)) (λb Z=>key b Z) λ_ a6=>?_;refine A0 (λh=>?_) (λh=>?_)
 . have e:A4 ((o.out.length:Int) - 1)=((o.out.length - 1:Nat):Int):=by rw[A6 (by omega) (by omega)]; omega
   have J:o.out[((o.out.length - 1:Nat):Int).toNat]? = some (la o.out):=by grind[la]
   rw[e];exact AG (by omega) J (a6 _ (by simp; omega))
 grind
theorem Ap6 {l:List BM} {Q:Bool->Prop} (O:l.length<=1000000000) (D:Q (decide (Rise l))):YQ l Q:=by
 unfold YQ;refine D7 l.length (by omega) (λn=>∀ (i:Nat) (hi:i+1<l.length),i+1<n->l[i].At<l[i+1].At) (λi hi h=>by omega) (λi next hi d J=>?_) (λnext d=>?_)
 . refine A0 (λ_=>A0 (λh=>?_) (λh=>?_)) (λh=>by omega)
   . have e:A4 ((i:Int) - 1)=((i - 1:Nat):Int):=by rw[A6 (by omega) (by omega)]; omega
     rw[e];refine AW (by omega) (AW hi (A0 (λU=>?_) (λU=>J λ_ _ _=>?_)))
     . have:¬Rise l:=λV=>by have:=V.adj hi (i:=i - 1) (by omega); omega
       grind
     grind
   grind
 . refine A0 (λh=>by omega) (λ_=>?_);rw[decide_eq_true (AdY λi hi=>d i hi (by omega))] at D; exact D
theorem Ap7 {L:List (List BM)} {Q:Bool->Prop} (W:L.length<=1000000000) (V:∀ l∈L,l.length<=1000000000) (U:Q (decide (∃ l∈L,¬Rise l))):CM L Q:=by
 unfold CM E7;refine D7 L.length (by omega) (λn=>∀ i (hi:i<L.length),i<n->Rise L[i]) (λi hi h=>by omega) (λi next hi J O=>?_) (λnext J=>?_)
 . refine A0 (λ_=>AW hi ?_) (λh=>by omega);unfold PR;refine Ap6 (V _ (TF hi)) (CB (λh=>?_) (λh=>?_))
   . have d:=of_decide_eq_false h;rw[decide_eq_true ⟨_,TF hi,d⟩] at U;simp_all
   grind
 . refine A0 (λh=>by omega) (λ_=>?_)
   have:¬ ∃ l∈L,¬Rise l:=by rintro⟨l,D,O⟩;obtain⟨i,hi,rfl⟩:=List.mem_iff_getElem.1 D;grind
   simp_all
def tot (H:List B8):Nat:=(H.map λh=>h.l.length).sum
theorem Ap8 {H d:List B8} (h:H.Perm d):tot H=tot d:=(h.map _).sum_nat
theorem AgY (R:Nat->List BM):∀ n,tot (EF R n)=iN R n
 | 0=>rfl
 | n+1=>by
  rw[EF,iN];split
  . rename_i e; rw[AgY R n,e]; simp
  . have:=AgY R n; grind[tot]
theorem AjK (R:Nat->List BM) (n:Nat):full (EF R n):=by intro h d;obtain⟨_,_,D,rfl⟩:=oQ.1 d;exact D
theorem Ap9:oO [] 0:=λ_ _ _=>by omega
theorem ApA {r:Int} {n:Nat} {R0:Nat->List BM} {V:List B8} {Q:List BM×Int->Prop} {out:List BM} (hr:1<=r∧r<=5) (hn:n<=1000000000) (hN:iN R0 n<=1000000000)
   (d1:V.Perm (EF R0 n)) (b1:oO V V.length) (a5:∀ w,w<n->Rise (R0 w)∧wR (R0 w)) (c2:Rise out) (d0:∀ i,lk out i=OU r R0 i n none) (hQ:Q (out,0)) :
   B4 (λ(s:(List B8)×Int×(List BM)) (b0:((List B8)×Int×(List BM))->Prop)=>match s with | (s412,s416,s417)=>OJ s412 λe1=>A5 (decide (0<e1)) (FV ({ heads:=s412,r:=s416,out:=s417 }:AF) λJ=>b0 (J.heads,J.r,J.out)) (Q (s417,0))) (V,r,[]):=by
 refine BV (λs:List B8×Int×List BM=>∃ R,s.1.Perm (EF R n)∧oO s.1 s.1.length∧s.2.1=r∧Rise s.2.2∧wR s.2.2∧s.2.2.length+iN R n<=1000000000∧(∀ w,w<n->Rise (R w)∧wR (R w)∧∀ x∈R w,∀ o∈s.2.2,o.At<=x.At)∧∀ i,OU r R i n (lk s.2.2 i)=OU r R0 i n none) (λs=>tot s.1)
   ⟨R0,d1,b1,rfl,by simp[Rise],by simp[wR],by simpa using hN,λw h=>⟨(a5 w h).1,(a5 w h).2,by simp⟩,λi=>rfl⟩ ?_
 rintro⟨H,r',o⟩ next ⟨R,hp,hH,e,h1,h2,h3,h4,h5⟩ hnx;simp only at hp hH e h1 h2 h3 h4 h5 ⊢;subst e;unfold OJ;refine A0 (λ_=>?_) (λ_=>?_)
 . have hne:H≠[]:=by grind
   have d7:0<H.length:=List.length_pos_iff.2 hne;have e3:H.length<=n:=hp.length_eq▸AgW R n;have⟨w,h,a7,U⟩:=oQ.1 (hp.mem_iff.1 (AgV d7));have⟨s,t,d⟩:=ArU a7;have hf:full H:=XQ (AjK R n) hp;have⟨O,q2,q3⟩:=h4 w h;have a3:S5 s.Val:=q2 s (by rw[d]; simp)
   -- the least one
   have e5:∀ k,k<n->∀ x∈R k,s.At<=x.At∧(k<w->s.At<x.At):=by
     intro k hk x d3;have a2:R k≠[]:=by grind
     have d8:(⟨R k,k⟩:B8)∈H:=hp.mem_iff.2 (oQ.2 ⟨k,hk,a2,rfl⟩);have⟨j,hj,_⟩:=List.mem_iff_getElem.1 d8;have D:=AlJ hH j hj;have⟨y,_,a4⟩:=ArU a2
     have k1:IU H j=(y.At,(k:Int)):=by
       have:gH H j=⟨R k,k⟩:=by have:=IR hj; grind
       simp[IU,xA,this,a4]
     have k0:IU H 0=(s.At,(w:Int)):=by simp[IU,xA,U,d]
     rw[k1,k0] at D
     have e4:y.At<=x.At:=by have Z:=(h4 k hk).1;rw[a4] at d3 Z;unfold Rise at Z; rw[AcZ] at Z;grind
     unfold NA at D;omega
   have a6:Rise t∧∀ x∈t,s.At<x.At:=by rw[d] at O; unfold Rise at O; rw[AcZ] at O; exact⟨O.2,O.1⟩
   have d9:∀ x∈o,x.At<=s.At:=λx d4=>q3 s (by rw[d]; simp) x d4;refine next_ok (o:=⟨H,r',o⟩) (s:=s) (t:=t) (by simp only; omega) hf hH hne (by simp only; omega) h2 a3 (by simp only; rw[U]; exact d) λH2 H' a8 a9 c0=>?_;simp only at a8 a9;have d2:(gH H 0).which=(w:Int):=by rw[U]
   rw[d2,U] at *
   have e2:H'.Perm (EF (upd R w []) n):=by
     have h6:(EF R n).Perm (⟨R w,w⟩ :: EF (upd R w []) n):=by
       have:=AgX (R:=R) (w:=w) (l:=R w) h
       rwa [Ap5,if_neg a7] at this
     exact List.Perm.cons_inv (a8.trans (hp.trans h6))
   have d6:H2.Perm (EF (upd R w t) n):=by refine a9.trans (List.Perm.trans ?_ (AgX (R:=R) (l:=t) h).symm);grind
   have⟨p1,p2,_,p4,p5⟩:=AlL (r:=r') h1 h2 a3 d9;have e6:=Ae0 d h;refine hnx _ ⟨upd R w t,d6,c0,rfl,p1,p2,by simp only; omega,λk hk=>?_,λi=>?_⟩ ?_
   . unfold upd;split
     . exact⟨a6.1,λx U=>q2 x (by rw[d]; simp[U]),λx U y hy=>by have:=a6.2 x U; have:=p4 y hy; omega⟩
     grind
   . simp only;rw[p5,<-h5];split
     . rename_i W; subst W;refine uG (λk hk=>W4 λx U=>?_) (by rw[d,EA,if_pos rfl]) (W4 λx U=>?_) h
       all_goals grind
     . rename_i W;refine qF λk hk=>?_;unfold upd;split
       . rename_i e; subst e; rw[d,EA,if_neg W]
       . rfl
   grind[tot,Ap8,AgY]
 . have d5:H=[]:=by simp_all
   subst d5
   have c1:∀ w,w<n->R w=[]:=by
     intro w h;by_cases e:R w=[]
     . exact e
     . have:=hp.mem_iff.2 (oQ.2 ⟨w,h,e,rfl⟩); simp at this
   have:o=out:=AdX h1 c2 λi=>by rw[d0,<-h5,Z2];intro w h; rw[c1 w h]; rfl
   grind
theorem AgZ (L:List (List BM)):∀ n,n<=L.length->iN (λw=>L.getD w []) n=total (L.take n):=by
 intro n
 induction n with
 | zero=>intro _; simp[iN,total]
 | succ n d=>
  intro h;rw[iN,d (by omega),eZ (by omega)]
  have:∀ (a:List (List BM)) (b:List BM),total (a++[b])=total a+b.length:=by
   intro a b; unfold total
   induction a with
   | nil=>simp
   | cons x a d=>grind
  grind
def uH (r:Int) (L:List (List BM)):List BM×Int:=if ¬(1<=r∧r<=5) then ([],8) else if ∃ l∈L,¬Rise l then ([],6) else (QA r L,0)
theorem fY {r:Int} {L:List (List BM)} {Q:List BM×Int->Prop} (hL:L.length<=1000000) (a4:∀ l∈L,l.length<=1000000000) (hT:total L<=1000000000) (a6:∀ l∈L,wR l) (Z:Q (uH r L)):U0 r L Q:=by
 unfold U0;unfold uH at Z;refine Q7 (CB (λh=>?_) (λh=>?_))
 . grind
 . have hr:=of_decide_eq_true h;rw[if_neg (by omega)] at Z;refine Ap7 (by omega) a4 ⟨λh=>?_,λh=>?_⟩
   . grind
   . have a2:∀ l∈L,Rise l:=by grind
     rw[if_neg (of_decide_eq_false h)] at Z;refine A9 (s0:=(([]:List B8),r,([]:List BM))) (λ(s:List B8×Int×List BM) i=>(s.1,s.2.1,s.2.2,i)) 0 L.length (by omega) (λi s=>s.1.Perm (EF (λw=>L.getD w []) i)∧oO s.1 s.1.length∧s.2.1=r∧s.2.2=[]) (by omega) ⟨.refl _,Ap9,rfl,rfl⟩ (λi s next _ hi d hn=>?_) (λs next d=>?_)
     . have⟨H,W,o⟩:=s;have⟨J,U,O,V⟩:=d;simp only at J U O V ⊢;subst O; subst V;refine A0 (λ_=>?_) (λh=>by omega);have a5:H.length<=i:=J.length_eq▸AgW _ i;refine AW hi (Ap3 (o:=⟨H,W,[]⟩) (by simp only; omega) (XQ (AjK _ i) J) U λH2 hp a3=>?_);refine hn (H2,W,[]) ⟨hp.trans ?_,a3,rfl,rfl⟩;have e:L.getD i []=L[i]:=by grind
       simp only[EF,e];grind
     . have⟨H,W,o⟩:=s;have⟨J,U,O,V⟩:=d;simp only at J U O V ⊢;subst O; subst V;refine A0 (λh=>by omega) (λ_=>?_);have D:=uF W L a2 L.length (by omega);rw[QW] at D;refine ApA (out:=QA W L) (R0:=λw=>L.getD w []) hr (n:=L.length) (by omega) (by rw[AgZ L _ (by omega),QW]; exact hT) J U (λw _=>?_) D.1 D.2.2.2 Z;grind
def SE (z:Int):AZ:=⟨A4 (z / 18446744073709551616),z % 18446744073709551616⟩
theorem Ab8 (z:Int):S5 (SE z):=by unfold S5 SE; simp only[KJ]; omega
theorem Z3 (x y:Int):I4 5 (SE x) (SE y)=SE (x+y):=by
 have e:I4 5 (SE x) (SE y)=⟨A4 ((SE x).Hi+(SE y).Hi+(if 18446744073709551616<=(SE x).Lo+(SE y).Lo then 1 else 0)),((SE x).Lo+(SE y).Lo) % 18446744073709551616⟩:=rfl;rw[e];unfold SE;apply RN
 . simp only[KJ]; split <;> omega
 . simp only; omega
theorem lJ {v:Int} (h:EC v):bJ v=SE v:=by
 unfold bJ SE EC at *;apply RN
 . simp only[KJ]; split <;> omega
 . rfl
theorem AjL {hi lo:Int} (d:0<=lo) (h:lo<18446744073709551616):(⟨A4 hi,lo⟩:AZ)=SE (hi*18446744073709551616+lo):=by
 unfold SE;apply RN
 . simp only[KJ]; omega
 . simp only; omega
theorem ApB {x:Int} (k:Nat) (hk:k<=64):shr .u64 x k=x / 2 ^ k:=by
 unfold shr;rw[ArW _ (yJ (AiS (by omega)))];have:min (Int.toNat (k:Int)) (IntKind.bits .u64)=k:=by simp[IntKind.bits]; omega
 rw[this]
theorem ApC {x:Int} (k:Nat) (hk:k<=64):shl .u64 x k=(x*2 ^ k) % 18446744073709551616:=by
 unfold shl;rw[YY];have:min (Int.toNat (k:Int)) (IntKind.bits .u64)=k:=by simp[IntKind.bits]; omega
 rw[this]
theorem eM (x:Int) (h:0<=x) (d:x<18446744073709551616):(BitVec.ofInt 64 x).toNat=x.toNat:=by rw[BitVec.toNat_ofInt];congr 1;exact Int.emod_eq_of_lt h (by simpa using d)
theorem AjM {x y:Int} (J:0<=x) (D:x<18446744073709551616) (d:0<=y) (h:y<18446744073709551616):bor .u64 x y=((x.toNat ||| y.toNat:Nat):Int):=by
 unfold bor
 have e:(BitVec.ofInt (IntKind.bits .u64) x ||| BitVec.ofInt (IntKind.bits .u64) y).toNat=x.toNat ||| y.toNat:=by show(BitVec.ofInt 64 x ||| BitVec.ofInt 64 y).toNat=_;rw[BitVec.toNat_or,eM x J D,eM y d h]
 rw[e,YY];have:x.toNat ||| y.toNat<2 ^ 64:=Nat.or_lt_two_pow (by omega) (by omega);omega
theorem Ab9 {x y:Int} (J:0<=x) (D:x<18446744073709551616) (d:0<=y) (h:y<18446744073709551616):TI .u64 x y=((x.toNat &&& y.toNat:Nat):Int):=by
 unfold TI
 have e:(BitVec.ofInt (IntKind.bits .u64) x &&& BitVec.ofInt (IntKind.bits .u64) y).toNat=x.toNat &&& y.toNat:=by show(BitVec.ofInt 64 x &&& BitVec.ofInt 64 y).toNat=_;rw[BitVec.toNat_and,eM x J D,eM y d h]
 rw[e,YY];have:x.toNat &&& y.toNat<2 ^ 64:=Nat.and_lt_two_pow _ (by omega);omega
theorem Ah0 {h l:Int} (D:0<=h) (O:h<4294967296) (d:0<=l) (J:l<4294967296):bor .u64 (h*4294967296) l=h*4294967296+l:=by
 rw[AjM (by omega) (by omega) d (by omega)];have e:(h*4294967296).toNat=h.toNat <<< 32:=by rw[Nat.shiftLeft_eq]; omega
 rw[e,<-Nat.shiftLeft_add_eq_or_of_lt (by omega),Nat.shiftLeft_eq];omega
theorem TA {x:Int} {Q:Int×Int->Prop} (D:0<=x) (J:x<18446744073709551616) (O:Q (x % 4294967296,x / 4294967296)):HQ x Q:=by
 unfold HQ;have h:shl .u64 x 32=(x*4294967296) % 18446744073709551616:=ApC 32 (by omega);have d:∀ y,shr .u64 y 32=y / 4294967296:=λy=>ApB 32 (by omega);rw[h,d,d]
 rwa [show x*4294967296 % 18446744073709551616 / 4294967296=x % 4294967296 by omega]
theorem Ah1 {a b:Int} {Q:AZ->Prop} (a3:0<=a) (a4:a<18446744073709551616) (a6:0<=b) (a7:b<18446744073709551616) (hQ:Q (SE (a*b))):SU a b Q:=by
 unfold SU
 have U:∀ x y:Int,0<=x->x<4294967296->0<=y->y<4294967296->0<=x*y∧x*y<=18446744065119617025:=by intro x y h1 h2 W h4;refine⟨AiO h1 W,?_⟩;have:=AiN (show x<=4294967295 by omega) (show y<=4294967295 by omega) W (by omega);omega
 refine TA a3 a4 (TA a6 a7 ?_);simp only;obtain⟨O,a8⟩:∃ O,O=a % 4294967296:=⟨_,rfl⟩;obtain⟨d,a9⟩:∃ d,d=a / 4294967296:=⟨_,rfl⟩;obtain⟨J,b0⟩:∃ J,J=b % 4294967296:=⟨_,rfl⟩;obtain⟨h,b1⟩:∃ h,h=b / 4294967296:=⟨_,rfl⟩;rw[<-a8,<-a9,<-b0,<-b1]
 have a5:a*b=d*h*18446744073709551616+(d*J+O*h)*4294967296+O*J:=by
  have e1:a=d*4294967296+O:=by omega
  have e2:b=h*4294967296+J:=by omega
  rw[e1,e2,Int.add_mul,Int.mul_add,Int.mul_add];have q1:d*4294967296*(h*4294967296)=d*h*18446744073709551616:=by rw[Int.mul_assoc,Int.mul_left_comm 4294967296 h,<-Int.mul_assoc d]; rfl
  have q2:d*4294967296*J=d*J*4294967296:=Int.mul_right_comm _ _ _;have q3:O*(h*4294967296)=O*h*4294967296:=(Int.mul_assoc _ _ _).symm;rw[q1,q2,q3]; omega
 have⟨_,_⟩:=U O J (by omega) (by omega) (by omega) (by omega);have⟨_,_⟩:=U O h (by omega) (by omega) (by omega) (by omega);have⟨_,_⟩:=U d J (by omega) (by omega) (by omega) (by omega);have⟨_,_⟩:=U d h (by omega) (by omega) (by omega) (by omega);generalize O*J=D at *;generalize O*h=V at *;generalize d*J=p10 at *;generalize d*h=Z at *;simp only[YY];refine TA (by omega) (by omega) ?_;simp only;refine TA (by omega) (by omega) ?_;simp only;refine TA (by omega) (by omega) (TA (by omega) (by omega) ?_);simp only;have e3:∀ y,shl .u64 y 32=(y*4294967296) % 18446744073709551616:=λy=>ApC 32 (by omega);rw[e3];have e4:∀ y:Int,(y % 4294967296*4294967296) % 18446744073709551616=y % 4294967296*4294967296:=λy=>by omega
 rw[e4,Ah0 (by omega) (by omega) (by omega) (by omega),AjL (by omega) (by omega)];rw[a5] at hQ
 have a2:SE (((((Z % 18446744073709551616+(p10 % 18446744073709551616+D % 18446744073709551616 / 4294967296) % 18446744073709551616 / 4294967296) % 18446744073709551616+(V % 18446744073709551616+(p10 % 18446744073709551616+D % 18446744073709551616 / 4294967296) % 18446744073709551616 % 4294967296) % 18446744073709551616 / 4294967296) % 18446744073709551616)*18446744073709551616+((V % 18446744073709551616+(p10 % 18446744073709551616+D % 18446744073709551616 / 4294967296) % 18446744073709551616 % 4294967296) % 18446744073709551616 % 4294967296*4294967296+D % 18446744073709551616 % 4294967296)))=SE (Z*18446744073709551616+(p10+V)*4294967296+D):=by
  unfold SE;apply RN
  . simp only[KJ]; omega
  . simp only; omega
 rw[a2]; exact hQ
theorem lK {a:AZ} (h:S5 a):a=SE (a.Hi*18446744073709551616+a.Lo):=by
 unfold S5 at h;rw[<-AjL (by omega) (by omega)];apply RN
 . simp only[KJ]; omega
 . rfl
theorem ApD {x:Int} {Q:AZ->Prop} (d:Q (SE (-x))):kS ⟨0,0⟩ (SE x) Q:=by
 unfold kS TP
 have key:∀ c:Int,(c=if 0<(SE x).Lo then 1 else 0)->(⟨A4 ((((0 % 18446744073709551616) - ((SE x).Hi % 18446744073709551616)) % 18446744073709551616 - c) % 18446744073709551616),(0 - (SE x).Lo) % 18446744073709551616⟩:AZ)=SE (-x):=by
   intro c D;unfold SE at *;subst D;apply RN
   . simp only[KJ]; split <;> omega
   . simp only; omega
 simp only[YY];refine A0 (λh=>?_) (λh=>?_)
 . rw[key 1 (by rw[if_pos h])]; exact d
 . rw[key 0 (by rw[if_neg h])]; exact d
theorem Ae2 {a b:Int} {Q:AZ->Prop} (U:EC a) (d:EC b) (J:Q (SE (a*b))):kT a b Q:=by
 unfold kT;unfold EC at U d
 have O:∀ {x:Int} {K:Int->Prop},-9223372036854775808<=x∧x<=9223372036854775807->K (if x<0 then -x else x)->XJ x K:=by
   intro x K hx D;unfold XJ;simp only[YY];refine A0 (λh=>?_) (λh=>?_)
   . rw[if_pos h] at D; rwa [show(0 - x % 18446744073709551616) % 18446744073709551616 = -x by omega]
   . rw[if_neg h] at D; rwa [show x % 18446744073709551616=x by omega]
 refine O U (O d ?_);have Z : -a*b = -(a*b):=Int.neg_mul _ _;have V:a * -b = -(a*b):=Int.mul_neg _ _;have W : -a * -b=a*b:=Int.neg_mul_neg _ _;refine Ah1 (by split <;> omega) (by split <;> omega) (by split <;> omega) (by split <;> omega) ?_;by_cases h1:a<0 <;> by_cases h2:b<0
 . rw[if_pos h1,if_pos h2,W];exact A8 (by simp[h1,h2]) J
 . rw[if_pos h1,if_neg h2,Z];exact B2 (by simp[h1,h2]) (ApD (by rwa [Int.neg_neg]))
 . rw[if_neg h1,if_pos h2,V];exact B2 (by simp[h1,h2]) (ApD (by rwa [Int.neg_neg]))
 . rw[if_neg h1,if_neg h2];exact A8 (by simp[h1,h2]) J
def M4 (r a x:Int):AZ:=
 if r=2 then (if a≠0∧x≠0 then ⟨0,1⟩ else ⟨0,0⟩)
 else if r=5 then SE (a*x)
 else if r=1∨r=3∨r=4 then
  (if 4611686018427387904<=a∨4611686018427387904<=x then SE 4611686018427387904
   else if r=3 then SE a else if r=4 then SE x else if jX (SE 4611686018427387904) (SE (a+x)) then SE 4611686018427387904 else SE (a+x))
 else ⟨0,0⟩
theorem UE (r a x:Int):S5 (M4 r a x):=by
 have h:S5 ⟨0,0⟩:=by unfold S5; simp
 have d:S5 ⟨0,1⟩:=by unfold S5; simp
 unfold M4
 repeat' split
 all_goals first | exact Ab8 _ | exact h | exact d
theorem lL {x y:Int} (d : -170141183460469231731687303715884105728<=x∧x<170141183460469231731687303715884105728) (D : -170141183460469231731687303715884105728<=y∧y<170141183460469231731687303715884105728):jX (SE x) (SE y)↔x<=y:=by
 have h:∀ z:Int,-170141183460469231731687303715884105728<=z∧z<170141183460469231731687303715884105728->A4 (z / 18446744073709551616)=z / 18446744073709551616:=by intro z J; rw[KJ]; omega
 unfold jX SE;simp only[h x d,h y D];omega
theorem qG {r a x:Int} {Q:AZ->Prop} (U:EC a) (W:EC x) (d:Q (M4 r a x)):bH r a x Q:=by
 unfold bH;unfold M4 at d;have V:EC 4611686018427387904:=by unfold EC; omega
 refine B5 (λh=>?_) (λh=>B5 (λh5=>?_) (λh5=>?_))
 . rw[if_pos h] at d;refine BT (λD=>kX ?_) (λD=>kX ?_)
   . simpa[D] using d
   . simpa[D] using d
 . rw[if_neg h,if_pos h5] at d;exact Ae2 U W d
 . rw[if_neg h,if_neg h5] at d;have a2:(if x > a then x else a)>=4611686018427387904↔4611686018427387904<=a∨4611686018427387904<=x:=by split <;> omega
   refine CE (λ_=>¬((1<=r∧r<=5)∧(4611686018427387904<=a∨4611686018427387904<=x))) ?_ ?_
   . rintro _ _;refine CE (λp:Int×Int=>(⟨p.1,p.2⟩:AZ)=SE (if r=1 then a else 0)∧(r=1∨r=4)) ?_ ?_
     . rintro⟨_,_⟩ ⟨hp,O⟩;simp only at hp ⊢;refine LI V (LI W ?_);rw[hp,lJ V,lJ W];refine qC (Ab8 _) (Ab8 _) (yV ?_);rw[Z3];rw[if_pos (by omega),if_neg (by omega),if_neg (by omega)] at d;rcases O with O | O
       . rw[if_pos O]; rwa [if_neg (by omega)] at d
       . rw[if_neg (show ¬r=1 by omega),show(0:Int)+x=x by omega];rw[if_pos O] at d;unfold EC at W
         rwa [if_neg (by rw[lL (by omega) (by omega)]; omega)]
     . intro k hk;refine B5 (λD=>LI U (hk _ ⟨?_,.inl D⟩)) (λD=>B5 (λh4=>hk _ ⟨?_,.inr h4⟩) (λh4=>B5 (λh3=>LI U ?_) (λh3=>?_)))
       . rw[if_pos D]; exact lJ U
       . rw[if_neg D]; decide
       . rw[if_pos (by omega),if_neg (by omega),if_pos h3] at d;rw[lJ U]; exact d
       . rw[if_neg (by omega)] at d; exact d
   . intro k hk;refine Q7 ⟨λD=>A0 (λJ=>LI V ?_) (λJ=>hk _ ?_),λD=>hk _ ?_⟩
     . have D:=of_decide_eq_true D;rw[if_pos (by omega),if_pos (a2.1 J)] at d;rw[lJ V]; exact d
     . exact λZ=>J (a2.2 Z.2)
     . exact λZ=>of_decide_eq_false D Z.1
def qH (f:List Int):Prop:=∀ x∈f,0<=x∧x<18446744073709551616
def G2 (f:List Int) (i:Int):Bool:=decide (0<=i) && (AY f (i / 64)).toNat.testBit (i % 64).toNat
theorem Ae3 {f:List Int} {i:Int} (h:(f.length:Int)<=i):AY f i=0:=by unfold AY;rw[rC,As1 (by omega)]; rfl
theorem bS {f:List Int} (h:qH f) (i:Int):0<=AY f i∧AY f i<18446744073709551616:=by
 by_cases e:i.toNat<f.length
 . have:AY f i=f[i.toNat]:=by simp[AY,rC,e]
   rw[this]; exact h _ (TF e)
 . have:AY f i=0:=by unfold AY; rw[rC,As1 (by omega)]; rfl
   rw[this]; omega
theorem TB {f:List Int} {i:Int} (h:64*(f.length:Int)<=i):G2 f i=false:=by unfold G2; rw[Ae3 (by omega)]; simp
theorem XU {f:List Int} {i:Int} (h:i<0):G2 f i=false:=by unfold G2; simp[show ¬0<=i by omega]
theorem AjN {f:List Int} {i:Int} (h:G2 f i=true):0<=i∧i<64*(f.length:Int):=by
 rcases Ag6 i 0 with D | D
 . rw[XU D] at h; cases h
 . rcases Ag6 i (64*(f.length:Int)) with d | d
   . exact⟨D,d⟩
   . rw[TB d] at h; cases h
theorem AsS (i:Int):shr .i64 i 6=i / 64:=by unfold shr;rw[ArW _ (by decide)]; rfl
theorem qI {f:List Int} {i:Int} {Q:Bool->Prop} (d:Q (decide (0<=i∧i / 64<f.length))):OD f i Q:=by
 unfold OD;rw[AsS];refine A0 (λh=>?_) (λh=>?_)
 . simpa[h] using d
 . simpa[h] using d
theorem AvM (k:Nat):(2:Int) ^ k=((2 ^ k:Nat):Int):=by rw[Int.natCast_pow]; rfl
theorem ApE {k:Nat} (hk:k<64):(2:Nat) ^ k<18446744073709551616:=Nat.pow_lt_pow_right (n:=64) (a:=2) (by omega) hk
theorem AsT {k:Nat} (hk:k<64):shl .u64 1 k=((2 ^ k:Nat):Int):=by rw[ApC _ (by omega),Int.one_mul,AvM];have hp:=ApE hk;generalize 2 ^ k=p at *;omega
theorem AvN (x k:Nat):x &&& 2 ^ k=if x.testBit k then 2 ^ k else 0:=by
 apply Nat.eq_of_testBit_eq;intro j;rw[Nat.testBit_and,AiA];by_cases e:k=j
 . subst e;cases h:x.testBit k
   . simp
   . simp[AiA]
 . cases h:x.testBit k
   . simp[e]
   . simp[e,AiA]
theorem ApF {i:Int} {Q:Int->Prop} (D:0<=i) (h:i<18446744073709551616) (d:Q ((2 ^ (i % 64).toNat:Nat):Int)):XG i Q:=by
 unfold XG
 have e:TI .u64 (IntKind.wrap .u64 i) 63=(((i % 64).toNat:Nat):Int):=by rw[YY,show i % 18446744073709551616=i by omega,Ab9 D h (by omega) (by omega)];congr 1;rw[show Int.toNat 63=2 ^ 6 - 1 from rfl,Nat.and_two_pow_sub_one_eq_mod];omega
 rw[e];refine⟨by omega,?_⟩;rw[AsT (by omega)]; exact d
theorem M5 {f:List Int} {i:Int} {Q:Bool->Prop} (V:qH f) (hi:EC i) (d:Q (G2 f i)):M0 f i Q:=by
 unfold M0;unfold EC at hi;refine qI ⟨λh=>?_,λh=>?_⟩
 . have h:=of_decide_eq_true h;rw[AsS];have O:=bS V (i / 64);refine AX (by omega) h.2 (ApF h.1 (by omega) ?_);have hp:=ApE (k:=(i % 64).toNat) (by omega);have e:G2 f i=(AY f (i / 64)).toNat.testBit (i % 64).toNat:=by unfold G2; simp[h.1]
   rw[e] at d;have J:0<(2:Nat) ^ (i % 64).toNat:=Nat.pow_pos (by omega);have W:=AvN (AY f (i / 64)).toNat (i % 64).toNat;generalize (i % 64).toNat=k at *;rw[Ab9 O.1 O.2 (AnV _) (by generalize 2 ^ k=p at *; omega),VK,W]
   cases Z:(AY f (i / 64)).toNat.testBit k with
   | false=>rw[Z] at d; simpa using d
   | true=>
    rw[Z] at d
    have U:(((if (true:Bool)=true then 2 ^ k else 0:Nat):Int) != 0)=true:=by rw[if_pos rfl,bne_iff_ne];generalize 2 ^ k=p at *; omega
    rw[U]; exact d
 . have h:=of_decide_eq_false h
   have e:G2 f i=false:=by
    rcases Ag6 i 0 with D | D
    . exact XU D
    . exact TB (by omega)
   rw[e] at d; exact d
def KL (n:Int):Nat:=((if 4096<(if n<0 then 0 else n) then 4096 else (if n<0 then 0 else n))+63).toNat / 64
def xB (n:Int):List Int:=List.replicate (KL n) 0
theorem bT (n:Int):KL n<=64:=by unfold KL; split <;> split <;> omega
theorem Ae4 {n i:Int} (d:0<=i) (D:i<n) (h:i<4096):i / 64<KL n:=by unfold KL; split <;> split <;> omega
theorem AlM {n i:Int} (d:i / 64<KL n):i<4096:=by unfold KL at d; split at d <;> split at d <;> omega
theorem AsU (n:Int):qH (xB n):=by intro x d; rw[xB,List.mem_replicate] at d; omega
theorem ApG (n i:Int):G2 (xB n) i=false:=by
 have:∀ k,AY (xB n) k=0:=by intro k; unfold AY xB;rw[rC,List.getElem?_replicate]; split <;> rfl
 unfold G2; rw[this]; simp
theorem bU {n:Int} {Q:Int->Prop} (d:Q (KL n)):RG n Q:=by
 unfold RG;rw[AsS]
 have e:A4 ((if 4096<(if 0 > n then 0 else n) then 4096 else (if 0 > n then 0 else n))+63) / 64=(KL n:Int):=by unfold KL;rw[KJ];split <;> split <;> omega
 rw[e]; exact d
theorem lM {n:Int} {Q:List Int->Prop} (d:Q (xB n)):PJ n Q:=by unfold PJ;refine bU ⟨by omega,by have:=bT n; omega,?_⟩;simpa[xB] using d
def AbA (f:List Int) (i:Int):List Int:=if 0<=i∧i / 64<f.length then f.set (i / 64).toNat (((AY f (i / 64)).toNat ||| 2 ^ (i % 64).toNat:Nat):Int) else f
theorem ApH (f:List Int) (i:Int):(AbA f i).length=f.length:=by unfold AbA; split <;> simp
theorem AsV {f:List Int} (h:qH f) (i:Int):qH (AbA f i):=by
 unfold AbA;split
 . intro x d;rcases List.mem_or_eq_of_mem_set d with d | d
   . exact h x d
   . have D:=bS h (i / 64);have hp:(2:Nat) ^ (i % 64).toNat<2 ^ 64:=Nat.pow_lt_pow_right (by omega) (by omega);have:=Nat.or_lt_two_pow (x:=(AY f (i / 64)).toNat) (y:=2 ^ (i % 64).toNat) (n:=64) (by omega) hp;omega
 . exact h
theorem ApI {f:List Int} (i j:Int):G2 (AbA f i) j=if j=i∧0<=i∧i / 64<f.length then true else G2 f j:=by
 unfold AbA;by_cases hc:0<=i∧i / 64<f.length
 . rw[if_pos hc];rcases Ag6 j 0 with D | D
   . rw[XU D,if_neg (by omega),XU D]
   . have d:∀ v:Int,AY (f.set (i / 64).toNat v) (j / 64)=if j / 64=i / 64 then v else AY f (j / 64):=by
       intro v;unfold AY;rw[rC,rC];by_cases e:j / 64=i / 64
       . rw[if_pos e,e,AkX (by omega)]; rfl
       . rw[if_neg e,AfZ (by omega)]
     unfold G2;rw[d];by_cases e:j / 64=i / 64
     . rw[if_pos e,VK,Nat.testBit_or,AiA,e];by_cases e2:j=i
       . subst e2; simp[hc,D]
       . have:¬(i % 64).toNat=(j % 64).toNat:=by omega
         simp[e2,this]
     . rw[if_neg e,if_neg (by intro h; exact e (by rw[h.1]))]
 . rw[if_neg hc,if_neg (λh=>hc h.2)]
def qJ (n:Int) (l:List Int):List Int:=l.foldl (λf i=>if 0<=i∧i<n∧i<4096 then AbA f i else f) (xB n)
theorem Ae5 (n:Int) (l:List Int) (i:Int):qJ n (l++[i])=if 0<=i∧i<n∧i<4096 then AbA (qJ n l) i else qJ n l:=by simp[qJ]
theorem IV (n:Int) (l:List Int):qH (qJ n l)∧(qJ n l).length=KL n∧∀ j,G2 (qJ n l) j=decide (j∈l∧0<=j∧j<n∧j<4096):=by
 suffices H:∀ k,k<=l.length->qH (qJ n (l.take k))∧(qJ n (l.take k)).length=KL n∧∀ j,G2 (qJ n (l.take k)) j=decide (j∈l.take k∧0<=j∧j<n∧j<4096) by have:=H l.length (by omega); rwa [QW] at this
 intro k
 induction k with
 | zero=>intro _; exact⟨AsU n,by simp[qJ,xB],λj=>by simp[qJ,ApG]⟩
 | succ k Z=>
  intro hk;have⟨U,J,O⟩:=Z (by omega);rw[eZ (by omega),Ae5];split
  . rename_i d;refine⟨AsV U _,by rw[ApH,J],λj=>?_⟩;rw[ApI,J,O];have V:=Ae4 d.1 d.2.1 d.2.2;by_cases e:j=l[k]
    . subst e;rw[if_pos ⟨rfl,d.1,V⟩];exact(decide_eq_true ⟨List.mem_append.2 (.inr (by simp)),d⟩).symm
    . rw[if_neg (λh=>e h.1)];refine decide_eq_decide.2 ?_;rw[rG,jZ];simp only[e,or_false]
  . rename_i d;refine⟨U,J,λj=>?_⟩;rw[O];refine decide_eq_decide.2 ?_;rw[rG,jZ];by_cases e:j=l[k]
    . subst e;constructor
      . rintro⟨W,D⟩; exact⟨.inl W,D⟩
      . rintro⟨_,D⟩; exact absurd D d
    . simp only[e,or_false]
theorem W5 {n:Int} {l:List Int} {Q:List Int->Prop} (hl:l.length<=1000000000) (hi:∀ x∈l,EC x) (Z:Q (qJ n l)):MQ n l Q:=by
 unfold MQ;refine lM (A9 (λ(s:List Int) i=>(s,i)) 0 l.length (by omega) (λk s=>s=qJ n (l.take k)) (by omega) (by simp[qJ]) (λk s next _ hk O V=>?_) (λs next O=>?_))
 . subst O;have d:=Ae5 n (l.take k) l[k];rw[<-eZ hk] at d;have⟨p1,p2,_⟩:=IV n (l.take k);have U:=hi _ (TF hk);unfold EC at U;refine A0 (λ_=>AW hk ?_) (λh=>by omega);refine CE (λb=>b=decide (l[k]<n∧0<=l[k]∧l[k] / 64<KL n)) ?_ ?_
   . rintro b rfl;refine A0 (λh=>?_) (λh=>V _ ?_)
     . rw[AsS];refine AX (by omega) (by rw[p2]; omega) (ApF h.2.1 (by omega) (AX (by omega) (by rw[p2]; omega) (V _ ?_)));have W:=bS p1 (l[k] / 64);have hp:=ApE (k:=(l[k] % 64).toNat) (by omega);rw[d,if_pos ⟨h.2.1,h.1,AlM h.2.2⟩,AbA,if_pos ⟨h.2.1,by rw[p2]; exact h.2.2⟩,AjM W.1 W.2 (AnV _) (by generalize 2 ^ (l[k] % 64).toNat=p at *; omega),VK]
     . rw[d,if_neg];intro D;exact h ⟨D.2.1,D.1,Ae4 D.1 D.2.1 D.2.2⟩
   . intro k' J;refine A0 (λh=>qI (J _ ?_)) (λh=>J _ ?_)
     . rw[p2]; simp[h]
     . simp[h]
 . subst O;refine A0 (λh=>by omega) (λ_=>?_);rw[QW]; exact Z
def W6 (f:List Int):List Int:=((List.range (64*f.length)).filter λi:Nat=>G2 f i).map λi:Nat=>(i:Int)
theorem TC {f:List Int} {i:Int}:i∈W6 f↔G2 f i=true:=by
 unfold W6;simp only[hM,Ag4,AiL];constructor
 . rintro⟨_,⟨_,h⟩,rfl⟩; exact h
 . intro h;have⟨d,_⟩:=AjN h;exact⟨i.toNat,⟨by omega,by rw[AnT d]; exact h⟩,by omega⟩
theorem uI (f:List Int):(W6 f).Pairwise (· < ·):=by unfold W6;rw[nU];exact sP (λ_=>by omega) (gX _ AnO)
def bV (f:List Int) (n:Int):Prop:=(0<=n∧n<=4096)∧f.length=KL n∧∀ i∈W6 f,i<n
instance (f:List Int) (n:Int):Decidable (bV f n):=by unfold bV; infer_instance
theorem zG {n:Int} (h:0<=n∧n<=4096) (l:List Int):bV (qJ n l) n:=by have⟨_,D,d⟩:=IV n l;refine⟨h,D,λ_ hi=>?_⟩;rw[TC,d] at hi;exact(of_decide_eq_true hi).2.2.1
theorem ApJ {n:Int} {l:List Int} (h:n<=4096) (V:l.Pairwise (· < ·)) (hi:∀ i∈l,0<=i∧i<n):W6 (qJ n l)=l:=by
 have d:∀ {l O:List Int} (h:l.Pairwise (· < ·)) (J:O.Pairwise (· < ·)) (U:∀ x,x∈l↔x∈O),l=O:=λh J U=>
   eJ ((AcX (h.imp λh e=>by omega) (J.imp λh e=>by omega)).2 U) h J λ_ _ _ _ _ _=>by omega
 refine d (uI _) V λx=>?_;rw[TC,(IV n l).2.2];constructor
 . intro D; exact(of_decide_eq_true D).1
 . intro D; have:=hi x D; exact decide_eq_true ⟨D,this.1,this.2,by omega⟩
def IncI (l:List B9):Prop:=l.Pairwise λa b=>a.At<b.At
instance (l:List B9):Decidable (IncI l):=by unfold IncI; infer_instance
structure VecP (v:Vec):Prop where
 n0:0≤v.N
 n1:v.N≤4096
 inc:IncI v.Items
 ins:∀ x∈v.Items,0≤x.At∧x.At<v.N
instance (v:Vec):Decidable (VecP v):=decidable_of_iff (0<=v.N∧v.N<=4096∧IncI v.Items∧∀ x∈v.Items,0<=x.At∧x.At<v.N) ⟨λ⟨a,b,c,d⟩=>⟨a,b,c,d⟩,λ⟨a,b,c,d⟩=>⟨a,b,c,d⟩⟩
def zV:Vec:=⟨0,[]⟩
theorem AxA:VecP zV:=⟨by decide,by decide,.nil,by simp[zV]⟩
def FY (v:Vec):Vec:=if VecP v then v else zV
theorem RO (v:Vec):VecP (FY v):=by grind[FY,AxA]
theorem IW {v:Vec} (h:VecP v):FY v=v:=if_pos h
theorem AsW {l:List B9} (h:∀ (i:Nat) (hi:i+1<l.length),l[i].At<l[i+1].At):IncI l:=by
 unfold IncI;rw[AkW];intro i j hi J D;obtain⟨d,rfl⟩:∃ d,j=i+1+d:=⟨j - i - 1,by omega⟩
 induction d with
 | zero=>grind
 | succ d O=>grind
theorem IncI.at {l:List B9} (h:IncI l) {i j:Nat} (D:j<l.length) (d:i<j):(l[i]'(by omega)).At<l[j].At:=by unfold IncI at h; rw[AkW] at h; grind
theorem ApK {l:List B9} (h:IncI l) {n:Int} (J:0<=n) (hi:∀ x∈l,0<=x.At∧x.At<n):(l.length:Int)<=n:=by
 have:∀ k (hk:k<l.length),(k:Int)<=l[k].At:=by
   intro k
   induction k with
   | zero=>grind
   | succ k d=>intro hk; have:=d (by omega); have:=h.at hk (i:=k) (by omega); omega
 rcases aD l.length with e | e
 . omega
 . have D:=this (l.length - 1) (by omega);grind
theorem VecP.len {v:Vec} (h:VecP v):v.Items.length<=4096:=by have:=ApK h.inc h.n0 h.ins; have:=h.n1; omega
theorem rJ {x y:Int} {Q:Bool->Prop} (d:Q (decide (0<=x∧x<=y))):SR x y Q:=by
 unfold SR;refine A0 (λh=>?_) (λh=>?_)
 all_goals grind
theorem F4 {v:Vec} {Q:Bool→Prop} (hl:v.Items.length≤1000000000) (hQ:Q (decide (VecP v))):FA v Q:=by
 unfold FA
 have O:¬VecP v→Q false:=fun h=>by rwa [decide_eq_false h] at hQ
 have a2:VecP v→Q true:=fun h=>by rwa [decide_eq_true h] at hQ
 refine rJ (CB (fun h=>O fun Z=>of_decide_eq_false h ⟨Z.n0,Z.n1⟩) (fun h=>?_))
 have h:=of_decide_eq_true h
 unfold DA DQ
 refine A9 (s0:=(-1:Int)) (fun (s:Int) i=>(s,i)) 0 v.Items.length (by omega) (fun k s=>(∀ (i:Nat) (hi:i+1<v.Items.length),i+1<k→v.Items[i].At<v.Items[i+1].At)∧(∀ i (hi:i<v.Items.length),i<k→0≤v.Items[i].At∧v.Items[i].At<v.N)∧(k=0→s = -1)∧(∀ (hk:0<k) (hl:k≤v.Items.length),s=(v.Items[k - 1]'(by omega)).At)) (by omega) ⟨fun i _ h=>by omega,fun i _ h=>by omega,fun _=>rfl,fun h=>by omega⟩ (fun k s next _ hk V hn=>?_) (fun s next V=>?_)
 · obtain ⟨h1,h2,h3,h4⟩:=V
   refine A0 (fun _=>AW hk ?_) (fun h=>by omega)
   unfold OE
   have a5:¬VecP v→(fun d:Bool×Int=>A5 d.1 ((fun D:Int×Int=>(fun a4:Bool×Int=>Q (!a4.1)) (decide (0≤D.1),D.2)) ((k:Int),d.2)) (next (d.2,A4 ((k:Int)+1)))) (true,v.Items[k].At):=by
     intro a6
     refine B2 rfl ?_
     grind
   refine A0 (fun J=>a5 fun U=>?_) (fun J=>?_)
   · rcases aD k with e | e
     · subst e
       rw [h3 rfl] at J
       have:=(U.ins _ (TF hk)).1; omega
     · rw [h4 e (by omega)] at J
       have:=U.inc.at hk (i:=k - 1) (by omega); omega
   · refine ⟨fun W=>?_,fun W=>hn _ ⟨fun i hi a3=>?_,fun i hi a3=>?_,fun h=>by omega,fun _ _=>by simp⟩⟩
     · have W:=of_decide_eq_true W
       simp only [show decide ((0:Int)≤(k:Int))=true by simp]
       exact O fun U=>by have:=(U.ins _ (TF hk)).2; omega
     all_goals grind
 · obtain ⟨h1,h2,h3,h4⟩:=V
   refine A0 (fun h=>by omega) (fun _=>?_)
   simp only [show decide ((0:Int) ≤ -1)=false by decide]
   refine a2 ⟨h.1,h.2,AsW fun i hi=>h1 i hi (by omega),fun _ hx=>?_⟩
   obtain ⟨i,hi,rfl⟩:=List.mem_iff_getElem.1 hx
   grind
theorem MT {v:Vec} {Q:Vec->Prop} (D:v.Items.length<=1000000000) (d:Q (FY v)):LA v Q:=by
 unfold LA;unfold FY at d;refine F4 D (A0 (λh=>?_) (λh=>?_))
 . grind
 . rwa [if_neg h] at d
theorem Ae6 {α β:Type} {xs:List α} {f:α->β} {d:List β×Int->(List β×Int->Prop)->Prop} (U:xs.length<=1000000000)
   (D:∀ (i:Nat) (s:List β) (next:List β×Int->Prop) (hi:i<xs.length),s.length=i->(next (s++[f xs[i]],A4 ((i:Int)+1)))->d (s,(i:Int)) next)
   (O:∀ (next:List β×Int->Prop) s,s=xs.map f->d (s,(xs.length:Int)) next):B4 d ([],0):=by
 refine A9 (λ(s:List β) i=>(s,i)) 0 xs.length (by omega) (λk s=>s=(xs.take k).map f) (by omega) (by simp) (λk s next _ hk h J=>?_) (λs next h=>?_)
 . refine D k s next hk (by subst h; simp; omega) (J _ ?_);subst h;rw[eZ hk,gW]; rfl
 grind
def W7 (v:Vec):List Int:=(FY v).Items.map (·.At)
theorem ZS {v:Vec} {Q:List Int->Prop} (O:v.Items.length<=1000000000) (D:Q (W7 v)):OI v Q:=by unfold OI;have J:=(RO v).len;refine MT O (Ae6 (xs:=(FY v).Items) (f:=(·.At)) (by omega) (λ_ s next hi d U=>A0 (λ_=>AW hi (AL (by simp; omega) U)) (λh=>by omega)) (λnext s d=>A0 (λh=>by omega) (λ_=>?_)));subst d; exact D
def kvI (x:B9):Int×Int:=(x.At,x.Val)
def GI (l:List B9) (i:Int):Option Int:=BC i (l.map kvI)
theorem LJ (s:B9) (l:List B9) (i:Int):GI (s :: l) i=if i=s.At then some s.Val else GI l i:=rfl
theorem RQ:∀ {l:List B9} {i:Int},(∀ s∈l,s.At≠i)->GI l i=none
 | [],_,_=>rfl
 | s :: l,i,h=>by rw[LJ,if_neg (λe=>h s (by simp) e.symm)]; exact RQ λx d=>h x (by simp[d])
theorem Z4:∀ {l:List B9} {i:Int} {v:Int},GI l i=some v->⟨i,v⟩∈l
 | s :: l,i,v,h=>by
  rw[LJ] at h;split at h
  . rename_i e; cases h; subst e; simp
  . exact gV _ (Z4 h)
theorem W8:∀ {l:List B9} (h:IncI l) {s:B9},s∈l->GI l s.At=some s.Val
 | x :: l,h,s,hs=>by
  unfold IncI at h;rw[AcZ] at h;rw[LJ];rcases List.mem_cons.1 hs with e | hs
  . subst e; rw[if_pos rfl]
  . have:=h.1 s hs;rw[if_neg (by omega)]; exact W8 h.2 hs
theorem UF:∀ (l:List B9) (m:List B9) (i:Int),GI (l++m) i=match GI l i with | some v=>some v | none=>GI m i
 | [],m,i=>rfl
 | s :: l,m,i=>by
  rw[nV,LJ,LJ];split
  . rfl
  . exact UF l m i
def MU (o:Option Int):Int×Bool:=match o with | some v=>(v,true) | none=>(0,false)
def XV (n:Nat) (l:List B9):List Int:=(List.range n).map λi:Nat=>(GI l i).getD 0
def OV (v:Vec):Dense:=⟨v.N,qJ v.N (v.Items.map (·.At)),XV v.N.toNat v.Items⟩
theorem AlN (n:Nat):XV n []=List.replicate n 0:=by
 unfold XV;apply Ao0
 . simp
 . intro i d h; simp[GI,BC]
theorem Ah2 {n:Nat} {l:List B9} {x:B9} (h:∀ s∈l,s.At<x.At) (d:0<=x.At):XV n (l++[x])=(XV n l).set x.At.toNat x.Val:=by unfold XV;rw[AgN];grind[UF,LJ,RQ]
theorem IncI.before {l:List B9} (h:IncI l) {k:Nat} (hk:k<l.length):∀ s∈l.take k,s.At<l[k].At:=by intro s d;obtain⟨_,D,rfl⟩:=List.mem_iff_getElem.1 d;rw[QX] at D;rw[Al0];exact h.at hk (by omega)
theorem oR {n:Nat} {l:List B9} {i:Int} (d:0<=i) (h:i<n):AY (XV n l) i=(GI l i).getD 0:=by unfold XV AY;grind
theorem lN {n:Int} {Q:Dense->Prop} (h:0<=n∧n<=4096) (d:Q ⟨n,xB n,List.replicate n.toNat 0⟩):PP n Q:=by unfold PP;exact A0 (λD=>by omega) (λ_=>A0 (λD=>by omega) (λ_=>⟨by omega,by omega,lM d⟩))
theorem qK {v:Vec} {Q:Dense->Prop} (U:v.Items.length<=1000000000) (J:Q (OV (FY v))):bE v Q:=by
 unfold bE;refine F4 U (CB (λh=>?_) (λh=>?_))
 . have h:=of_decide_eq_false h;rw[FY,if_neg h] at J;exact lN ⟨by omega,by omega⟩ J
 . have d:=of_decide_eq_true h;rw[IW d] at J;have a2:=d.len;have:=d.n0; have:=d.n1;refine lN ⟨by omega,by omega⟩ (A9 (s0:=List.replicate v.N.toNat (0:Int)) (λ(s:List Int) i=>(s,i)) 0 v.Items.length (by omega) (λk s=>s=XV v.N.toNat (v.Items.take k)) (by omega) (by simp[AlN]) (λk s next _ hk D Z=>?_) (λs next D=>?_))
   . have O:=d.ins _ (TF hk);refine A0 (λ_=>AW hk (AX (by omega) (by subst D; simp[XV]; omega) (Z _ ?_))) (λh=>by omega);rw[eZ hk,Ah2 (d.inc.before hk) O.1,D]
   . rw[QW] at D;subst D;refine A0 (λh=>by omega) (λ_=>ZS U (W5 ?_ (λ_ V=>?_) ?_))
     . grind[W7,IW]
     . rw[W7,IW d] at V;obtain⟨y,W,rfl⟩:=List.mem_map.1 V;have:=d.ins y W; unfold EC; omega
     . rw[W7,IW d]; exact J
theorem lO {v:Vec} (h:VecP v) (i:Int):G2 (OV v).Has i=(GI v.Items i).isSome:=by
 have U:=h.n1;have e:=(IV v.N (v.Items.map (·.At))).2.2 i;show G2 (qJ v.N (v.Items.map (·.At))) i=_;rw[e]
 cases O:GI v.Items i with
 | none=>
  refine decide_eq_false λJ=>?_;have⟨_,D,e⟩:=List.mem_map.1 J.1;have:=W8 h.inc D;grind
 | some y=>
  have d:=Z4 O;have:=h.ins _ d;grind
theorem lP (v:Vec):qH (OV v).Has:=(IV _ _).1
theorem AjO (v:Vec):(OV v).Has.length<=64:=by rw[show(OV v).Has.length=KL v.N from(IV _ _).2.1]; exact bT _
def HG (f:List Int) (o:Bool) (i:Int):Bool:=G2 f i != o
def ZT (r:Int) (A B:Int->Option Int) (d:Option AZ) (k:Int):Option AZ:=match A k,B k with | some a,some x=>nS r d (some (M4 r a x)) | _,_=>d
def L0 (r:Int) (n:Nat) (A B:Int->Option Int):Option AZ:=(List.range n).foldl (λd (k:Nat)=>ZT r A B d k) none
def LK (r:Int) (m n:Nat) (f:List Int) (o:Bool) (A:Int->Int->Option Int) (B:Int->Option Int):List BM:=
 (List.range m).filterMap λi:Nat=>if HG f o i then (L0 r n (A i) B).map λw=>(⟨i,w⟩:BM) else none
theorem Z5 (r:Int) (m n:Nat) (f:List Int) (o:Bool) (A:Int->Int->Option Int) (B:Int->Option Int) :
  LK r (m+1) n f o A B=LK r m n f o A B++(if HG f o m then (L0 r n (A m) B).map λw=>(⟨m,w⟩:BM) else none).toList:=by
 unfold LK;rw[aF,As0];congr 1
theorem AlO {r:Int} {A B:Int->Option Int} {d:Option AZ} (h:∀ w,d=some w->S5 w) (k:Int):∀ w,ZT r A B d k=some w->S5 w:=by
 intro w D;unfold ZT at D;split at D
 . cases d with
   | none=>cases D; exact UE _ _ _
   | some b=>cases D; exact XL (h b rfl) (UE _ _ _)
 . exact h w D
theorem uJ (r:Int) (n:Nat) (A B:Int->Option Int):∀ w,L0 r n A B=some w->S5 w:=by
 unfold L0
 induction n with
 | zero=>grind
 | succ n d=>rw[aF,Ag1]; exact AlO d n
theorem UG (r:Int) (n:Nat) (f:List Int) (o:Bool) (A:Int->Int->Option Int) (B:Int->Option Int):∀ m:Nat,
  Rise (LK r m n f o A B)∧(LK r m n f o A B).length<=m∧wR (LK r m n f o A B)∧(∀ s∈LK r m n f o A B,0<=s.At∧s.At<m)∧∀ i:Int,lk (LK r m n f o A B) i=if 0<=i∧i<m∧HG f o i=true then L0 r n (A i) B else none:=by
 intro m
 induction m with
 | zero=>
  refine⟨.nil,by simp[LK],by simp[LK,wR],by simp[LK],λi=>?_⟩;rw[if_neg (by omega)]; rfl
 | succ m D=>
  have⟨U,_,J,_,O⟩:=D;rw[Z5];by_cases ha:HG f o m=true
  . rw[if_pos ha]
    cases h:L0 r n (A m) B with
    | none=>
     grind
    | some w=>
     simp only[Ag3,Option.toList_some];refine⟨List.pairwise_append.2 ⟨U,by simp,λ_ _ _ _=>?_⟩,by simp; omega,λs d=>?_,λs d=>?_,λi=>?_⟩
     . grind
     . rcases List.mem_append.1 d with d | d
       . exact J s d
       grind[uJ]
     . grind
     . rw[XS,O,EA,uD];grind
  grind
theorem QB {β γ:Type} {f g:β->γ->β}:∀ {l:List γ} {a:β},(∀ d k,k∈l->f d k=g d k)->l.foldl f a=l.foldl g a
 | [],_,_=>rfl
 | x :: l,a,h=>by rw[aS,aS,h a x (by simp)]; exact QB λd k hk=>h d k (by simp[hk])
theorem bW {β:Type} {step:β->Int->Int->β} {a:β}:∀ {n:Nat} {l:List B9},IncI l->(∀ x∈l,0<=x.At∧x.At<n) ->
  l.foldl (λD x=>step D x.At x.Val) a=(List.range n).foldl (λD (k:Nat)=>match GI l k with | some v=>step D k v | none=>D) a
 | 0,l,h,hi=>by
  cases l with
  | nil=>rfl
  | cons x l=>have:=hi x (by simp); omega
 | n+1,l,h,hi=>by
  rw[aF,Ag1];simp only[aS,Ao5]
  have V:l=[]∨∃ p y,l=p++[y]:=by
    rcases List.eq_nil_or_concat l with h | ⟨p,y,h⟩
    . exact .inl h
    . exact .inr ⟨p,y,by rw[h,List.concat_eq_append]⟩
  have old:∀ {l:List B9},IncI l->(∀ x∈l,0<=x.At∧x.At<n)->GI l n=none:=λ_ hi=>RQ λs W=>by have:=hi s W; omega
  rcases V with e | ⟨p,y,e⟩
  . subst e;rw[<-bW (n:=n) (l:=[]) h (by simp)]; rfl
  . subst e;have hp:IncI p:=(List.pairwise_append.1 h).1;have U:∀ x∈p,x.At<y.At:=λx d=>(List.pairwise_append.1 h).2.2 x d y (by simp);by_cases ey:y.At=n
    . have J:∀ x∈p,0<=x.At∧x.At<n:=λx d=>⟨(hi x (by simp[d])).1,by have:=U x d; omega⟩;have Z:GI (p++[y]) n=some y.Val:=by rw[UF,old hp J,LJ,if_pos ey.symm]
      rw[Z,Ag1,bW hp J];simp only[aS,Ao5,ey];congr 1;refine QB λD k hk=>?_;have hk:=List.mem_range.1 hk;have:GI (p++[y]) k=GI p k:=by rw[UF,LJ,if_neg (by omega)]; cases GI p k <;> rfl
      rw[this]
    . have O:∀ x∈p++[y],0<=x.At∧x.At<n:=by
       intro x d;have h1:=hi x d;refine⟨h1.1,?_⟩;have hy:=hi y (by simp);rcases List.mem_append.1 d with d | d
       . have:=U x d; omega
       . simp only[jZ] at d; subst d; omega
      rw[old h O,bW h O]
def oS (r:Int) (T:List A2) (f:List Int) (o:Bool) (x:B9):List BM:=((M3 T x.At).filter λy=>HG f o y.At).map λy=>⟨y.At,M4 r y.Val x.Val⟩
theorem lQ {T:List A2} (h:Srt T) (k:Int):IncI (M3 T k):=by unfold M3 IncI;rw[nU];have O:(T.filter λt=>decide (t.Row=k)).Pairwise λa b=>NA (key a) (key b):=gX _ h;refine ArY (λ{a b} J D d=>?_) O;have J:=of_decide_eq_true (List.mem_filter.1 J).2;have D:=of_decide_eq_true (List.mem_filter.1 D).2;unfold NA key at d;simp only[sD] at d ⊢; omega
theorem UH {T:List A2} {k:Int} {x:B9}:x∈M3 T k↔(⟨k,x.At,x.Val⟩:A2)∈T:=by
 unfold M3;simp only[hM,Ag4,decide_eq_true_eq];constructor
 . rintro⟨_,⟨ht,e⟩,rfl⟩; subst e; exact ht
 . intro h; exact⟨_,⟨h,rfl⟩,rfl⟩
theorem XW {r:Int} {T:List A2} (h:Srt T) (f:List Int) (o:Bool) (x:B9):Rise (oS r T f o x)∧wR (oS r T f o x)∧∀ i,lk (oS r T f o x) i=if HG f o i=true then (GI (M3 T x.At) i).map λa=>M4 r a x.Val else none:=by
 have d:=lQ h x.At;unfold oS;generalize M3 T x.At=l at d;refine⟨?_,?_,λi=>?_⟩
 . unfold Rise; rw[nU]; exact gX _ d
 . intro s D;obtain⟨y,_,rfl⟩:=List.mem_map.1 D;exact UE _ _ _
 . clear d
   induction l with
   | nil=>simp[lk,GI,BC]
   | cons y l J=>
    rw[LJ];by_cases ha:HG f o y.At=true
    . rw[List.filter_cons_of_pos (by simpa using ha),P9,EA];grind
    grind
theorem Ah3 (r:Int) (i:Int):∀ (L:List (List BM)) (n:Nat),n<=L.length->OU r (λw=>L.getD w []) i n none=(L.take n).foldl (λd l=>nS r d (lk l i)) none:=by
 intro L n
 induction n with
 | zero=>intro _; rfl
 | succ n h=>
  intro D;rw[OU,h (by omega),eZ (by omega),Ag1];grind
theorem Ah4 {r:Int} {rows cols:Int} {T:List A2} {v:Vec} (h:Canon cols rows T) (W:VecP v) (hn:v.N=cols) (f:List Int) (o:Bool) :
   QA r (v.Items.map (oS r T f o))=LK r rows.toNat cols.toNat f o (λi k=>GI (M3 T k) i) (GI v.Items):=by
 have D:∀ l∈v.Items.map (oS r T f o),Rise l:=by intro l hl; obtain⟨x,_,rfl⟩:=List.mem_map.1 hl; exact(XW h.srt f o x).1
 have U:=uF r _ D _ (YG _);rw[QW] at U;have⟨s1,_,_,_,Z⟩:=UG r cols.toNat f o (λi k=>GI (M3 T k) i) (GI v.Items) rows.toNat;refine AdX U.1 s1 λi=>?_;rw[U.2.2.2,Z,Ah3 r i _ _ (YG _),QW,AiM];by_cases ha:HG f o i=true
 . have V:∀ x:B9,lk (oS r T f o x) i=(GI (M3 T x.At) i).map λa=>M4 r a x.Val:=λx=>by rw[(XW h.srt f o x).2.2,if_pos ha]
   simp only[V];rw[bW (step:=λd k xv=>nS r d ((GI (M3 T k) i).map λa=>M4 r a xv)) (n:=cols.toNat) W.inc (λx hx=>by have:=W.ins x hx; omega)];by_cases hi:0<=i∧i<rows
   . rw[if_pos ⟨hi.1,by omega,ha⟩];unfold L0;refine QB λd k _=>?_;unfold ZT;simp only;cases GI v.Items (k:Int) <;> cases GI (M3 T (k:Int)) i <;> simp[UD]
   . rw[if_neg (by omega)]
     have J:∀ k,GI (M3 T k) i=none:=λk=>RQ λ_ hs=>by have:=h.inn _ (UH.1 hs); unfold sB at this; grind
     have:∀ (l:List Nat),l.foldl (λd (k:Nat)=>match GI v.Items k with | some x=>nS r d ((GI (M3 T k) i).map λa=>M4 r a x) | none=>d) none=none:=by
      intro l
      induction l with
      | nil=>rfl
      | cons k l O=>
       rw[aS,J];cases GI v.Items (k:Int) <;> exact O
     exact this _
 . rw[if_neg (λh=>ha h.2.2)];have V:∀ x:B9,lk (oS r T f o x) i=none:=λx=>by rw[(XW h.srt f o x).2.2,if_neg ha]
   simp only[V,UD];generalize v.Items=l
   induction l with
   | nil=>rfl
   | cons x l O=>exact O
theorem AlP {r:Int} {l:List B9} {val:Int} {f:List Int} {o:Bool} {Q:List BM->Prop} (hl:l.length<=1000000) (Z:qH f) (hi:∀ x∈l,EC x.At∧EC x.Val) (V:EC val) (W:Q ((l.filter λy=>HG f o y.At).map λy=>⟨y.At,M4 r y.Val val⟩)):VX r l val f o Q:=by
 unfold VX;refine A9 (λ(s:List BM) i=>(s,i)) 0 l.length (by omega) (λk s=>s=((l.take k).filter λy=>HG f o y.At).map λy=>⟨y.At,M4 r y.Val val⟩) (by omega) (by simp) (λk s next _ hk d J=>?_) (λs next d=>?_)
 . have O:=hi _ (TF hk)
   have U:s.length<=k:=by grind
   refine A0 (λ_=>AW hk (M5 Z O.1 ⟨λh=>?_,λh=>J _ ?_⟩)) (λh=>by omega)
   . refine qG O.2 V (AL (by simp; omega) (J _ ?_));have D:HG f o l[k].At=true:=by grind[HG]
     rw[eZ hk,fA,gW,d,List.filter_cons_of_pos (by simpa using D)]; rfl
   . have D:¬HG f o l[k].At=true:=by grind[HG]
     rw[eZ hk,fA,gW,d,List.filter_cons_of_neg (by simpa using D)]; simp
 . rw[QW] at d;subst d;exact A0 (λh=>by omega) (λ_=>W)
theorem AbB {c:BB} {x:Vec} {Q:BB×Vec->Prop} (D:WT c) (J:x.Items.length<=1000000000) (d:Q (ZR c,FY x)):dZ c x Q:=by
 unfold dZ;refine CE (λt=>(⟨t.1,t.2.1,t.2.2.1,t.2.2.2.1,t.2.2.2.2.1,t.2.2.2.2.2⟩:BB)=ZR c) ?_ ?_
 . rintro⟨_,_,_,_,_,_⟩ ht;simp only at ht ⊢;rw[ht];unfold FY at d;refine F4 J (CB (λh=>?_) (λh=>?_))
   . rw[if_neg (of_decide_eq_false h)] at d; exact d
   grind
 . intro k hk;refine fX D (CB (λh=>hk _ ?_) (λh=>hk _ ?_))
   . rw[ZR,if_neg (of_decide_eq_false h),tX]
   . rw[ZR,if_pos (of_decide_eq_true h)]
def AjP (r rows cols:Int) (T:List A2) (v:Vec) (f:List Int) (o:Bool):List BM×Int:=
 if ¬(1<=r∧r<=5) then ([],8) else if v.N≠cols then ([],4) else (LK r rows.toNat cols.toNat f o (λi k=>GI (M3 T k) i) (GI v.Items),0)
theorem AbC {r rows cols:Int} {c:BB} {x:Vec} {T:List A2} {f:List Int} {o:Bool} {Q:List BM×Int->Prop} (hc:WT c) (hs:ZR c=UB rows cols T) (h:Canon cols rows T) (hT:∀ t∈T,EC t.Val)
   (hx:x.Items.length<=1000000000) (a2:∀ y∈(FY x).Items,EC y.Val) (hf:qH f) (D:Q (AjP r rows cols T (FY x) f o)):eA r c x f o Q:=by
 unfold eA;unfold AjP at D;have O:=RO x;refine AbB hc hx ?_;rw[hs];generalize FY x=v at O a2 D;simp only;have a7:=O.len;refine Q7 (CB (λW=>?_) (λW=>BT (λa4=>?_) (λZ=>?_)))
 . grind
 . rw[if_neg (by have:=of_decide_eq_true W; omega),if_pos (show v.N≠cols from a4)] at D; exact D
 . have hr:=of_decide_eq_true W;have Z:v.N=cols:=Z;rw[if_neg (by omega),if_neg (by omega)] at D;have a5:=h.len;refine Ae6 (xs:=v.Items) (f:=oS r T f o) (by omega) (λi s next hi d V=>?_) (λnext s d=>?_)
   . refine A0 (λ_=>AW hi (tZ h.smlC (oM h) h (AlP (by have:=bQ T v.Items[i].At; omega) hf (λy hy=>?_) (a2 _ (TF hi)) (AL (by simp; omega) V)))) (λh=>by omega);have hm:=UH.1 hy;have J:=h.inn _ hm; have h2:=hT _ hm;have:=h.c1;unfold sB at J; simp only at J h2;exact⟨by unfold EC; omega,h2⟩
   . have a6:s.length=v.Items.length:=by subst d; simp
     have a3:∀ (l:List B9),total (l.map (oS r T f o))<=l.length*65536:=by
       intro l
       induction l with
       | nil=>simp[total]
       | cons y l ih=>
        have J:(oS r T f o y).length<=65536:=by unfold oS; rw[nW];have:=rE (λy:B9=>HG f o y.At) (M3 T y.At);have:=bQ T y.At; omega
        unfold total at ih ⊢;simp only[P9,List.foldr_cons,gY]; omega
     refine A0 (λh=>by omega) (λ_=>fY (by simp only; omega) (λl U=>?_) (by subst d; have:=a3 v.Items; simp only; omega) (λl U=>?_) ?_)
     . subst d;obtain⟨y,_,rfl⟩:=List.mem_map.1 U;unfold oS; rw[nW];have:=rE (λy:B9=>HG f o y.At) (M3 T y.At);have:=bQ T y.At; omega
     . subst d;obtain⟨y,_,rfl⟩:=List.mem_map.1 U;exact(XW h.srt f o y).2.1
     . unfold uH
       rw[if_neg (by omega),if_neg (by rintro⟨l,U,V⟩;subst d;obtain⟨y,_,rfl⟩:=List.mem_map.1 U;exact V (XW h.srt f o y).1),d,Ah4 h O Z]
       exact D
def fZ (r:Int) (B:Int->Option Int) (d:Option AZ) (y:B9):Option AZ:=match B y.At with | some x=>nS r d (some (M4 r y.Val x)) | none=>d
theorem AlQ {r:Int} {B:Int->Option Int} {d:Option AZ} (h:∀ w,d=some w->S5 w) (y:B9):∀ w,fZ r B d y=some w->S5 w:=by
 intro w D;unfold fZ at D;split at D
 . cases d with
   | none=>cases D; exact UE _ _ _
   | some b=>cases D; exact XL (h b rfl) (UE _ _ _)
 . exact h w D
theorem zH (r:Int) (B:Int->Option Int):∀ (l:List B9) (d:Option AZ),(∀ w,d=some w->S5 w)->∀ w,l.foldl (fZ r B) d=some w->S5 w
 | [],d,h=>h
 | y :: l,d,h=>zH r B l _ (AlQ h y)
theorem ApL {r:Int} {B:Int->Option Int} {n:Nat} {l:List B9} (h:IncI l) (hi:∀ x∈l,0<=x.At∧x.At<n):l.foldl (fZ r B) none=L0 r n (GI l) B:=by have:=bW (step:=λd k a=>match B k with | some x=>nS r d (some (M4 r a x)) | none=>d) (a:=none) h hi;refine this.trans (QB λd k _=>?_);unfold ZT;grind
def OW (ts:List A2) (i:Int):List B9:=(Q8 ts i.toNat).map sD
theorem zI (ts:List A2) {i:Int} (h:0<=i):OW ts i=M3 ts i:=by unfold OW M3 Q8;grind
def lR (r rows cols:Int) (ts:List A2) (v:Vec) (f:List Int) (o:Bool):List BM×Int:=
 if ¬(1<=r∧r<=5) then ([],8) else if v.N≠cols then ([],4) else (LK r rows.toNat cols.toNat f o (λi=>GI (OW ts i)) (GI v.Items),0)
theorem qL {r:Int} {n:Nat} {f:List Int} {o:Bool} {A d:Int->Int->Option Int} {B:Int->Option Int}:∀ {m:Nat},(∀ (i k:Nat),i<m->k<n->A i k=d i k)->LK r m n f o A B=LK r m n f o d B
 | 0,_=>rfl
 | m+1,h=>by
  rw[Z5,Z5,qL (m:=m) λi k _ hk=>h i k (by omega) hk]
  have:L0 r n (A m) B=L0 r n (d m) B:=by unfold L0;refine QB λ_ k hk=>?_;unfold ZT;rw[h m k (by omega) (List.mem_range.1 hk)]
  rw[this]
theorem AlR {r rows cols:Int} {T:List A2} (h:Canon cols rows T) (v:Vec) (f:List Int) (o:Bool):lR r rows cols (NV rows T) v f o=AjP r rows cols T v f o:=by
 unfold lR AjP
 have e:LK r rows.toNat cols.toNat f o (λi=>GI (OW (NV rows T) i)) (GI v.Items)=LK r rows.toNat cols.toNat f o (λi k=>GI (M3 T k) i) (GI v.Items):=by
  refine qL λi k _ _=>?_;rw[zI _ (by omega)];have D:=bO rows h.srt;have d:∀ a:Int,(⟨(i:Int),(k:Int),a⟩:A2)∈NV rows T↔(⟨(k:Int),(i:Int),a⟩:A2)∈T:=λa=>XP h _
  cases J:GI (M3 (NV rows T) i) k with
  | some a=>
   have:=(d a).1 (UH.1 (Z4 J));exact(W8 (lQ h.srt k) ((UH (x:=⟨i,a⟩)).2 this)).symm
  | none=>
   cases O:GI (M3 T k) i with
   | none=>rfl
   | some a=>
    have:=(d a).2 (UH.1 (Z4 O));have:=W8 (lQ D i) ((UH (x:=⟨k,a⟩)).2 this);grind
 rw[e]
def zS (r:Int):Int:=if r=1∨r=3∨r=4 then 4611686018427387904 else 0
theorem AbD {r:Int} {Q:Int->Prop} (d:Q (zS r)):dV r Q:=by
 unfold dV; unfold zS at d;refine B5 (λh=>?_) (λh=>B5 (λJ=>?_) (λJ=>B5 (λD=>?_) (λD=>?_)))
 all_goals grind
def nzI (r:Int) (s:BM):Option B9:=if (IQ s.Val).1≠zS r then some ⟨s.At,(IQ s.Val).1⟩ else none
def gA (r n:Int) (l:List BM):Vec×Int:=
 if ¬(1<=r∧r<=5) then (zV,8) else if ¬(0<=n∧n<=4096)∨∃ s∈l,¬(0<=s.At∧s.At<n) then (zV,3) else if ¬Rise l then (zV,6)
 else if ∃ s∈l,(IQ s.Val).2=false then (zV,12) else (⟨n,l.filterMap (nzI r)⟩,0)
theorem AvO {n:Int} {l:List BM} {Q:Bool->Prop} (hl:l.length<=1000000000) (U:Q (decide (∃ s∈l,¬(0<=s.At∧s.At<n)))):CN n l Q:=by
 unfold CN E8;refine D7 l.length (by omega) (λk=>∀ i (hi:i<l.length),i<k->0<=l[i].At∧l[i].At<n) (λi hi h=>by omega) (λk next hk V J=>?_) (λnext V=>?_)
 . refine A0 (λ_=>AW hk ?_) (λh=>by omega);unfold S1
   have d:¬(0<=l[k].At∧l[k].At<n)->(λD:Int=>Q (decide (0<=D))) (k:Int):=by intro W;rw[decide_eq_true ⟨_,TF hk,W⟩] at U;simp_all
   refine A0 (λh=>B2 rfl (d (by omega))) (λh=>⟨λO=>d (by have:=of_decide_eq_true O; omega),λO=>J λi hi _=>?_⟩);grind
 . refine A0 (λh=>by omega) (λ_=>?_)
   have:¬ ∃ s∈l,¬(0<=s.At∧s.At<n):=by rintro⟨s,Z,J⟩;obtain⟨i,hi,rfl⟩:=List.mem_iff_getElem.1 Z;grind
   rw[decide_eq_false this] at U;grind
theorem AbE {r n:Int} {l:List BM} {Q:Vec×Int->Prop} (hl:l.length<=1000000000) (ho:wR l) (d:Q (gA r n l)):dW r n l Q:=by
 unfold dW;unfold gA at d;refine Q7 (CB (λh=>?_) (λh=>?_))
 . rw[if_pos (of_decide_eq_false h)] at d; exact d
 have W:=of_decide_eq_true h;rw[if_neg (by omega)] at d;refine A0 (λh=>?_) (λ_=>A0 (λh=>?_) (λ_=>AvO hl ⟨λh=>?_,λh=>?_⟩))
 . rw[if_pos (.inl (by omega))] at d; exact d
 . rw[if_pos (.inl (by omega))] at d; exact d
 . rw[if_pos (.inr (of_decide_eq_true h))] at d; exact d
 have a3:=of_decide_eq_false h
 rw[if_neg (by
   rintro(V | V)
   . omega
   . exact a3 V)] at d
 refine D7 l.length (by omega) (λn=>∀ (i:Nat) (hi:i+1<l.length),i+1<n->l[i].At<l[i+1].At) (λi hi h=>by omega) (λi next hi U O=>?_) (λnext U=>?_)
 . refine A0 (λ_=>A0 (λh=>?_) (λh=>?_)) (λh=>by omega)
   . have e:A4 ((i:Int) - 1)=((i - 1:Nat):Int):=by rw[A6 (by omega) (by omega)]; omega
     rw[e];refine AW (by omega) (AW hi (A0 (λV=>?_) (λV=>O λ_ _ _=>?_)))
     . have:¬Rise l:=λW=>by have:=W.adj hi (i:=i - 1) (by omega); omega
       rw[if_pos this] at d; exact d
     grind
   grind
 . refine A0 (λh=>by omega) (λ_=>?_);rw[if_neg (λO=>O (AdY λi hi=>U i hi (by omega)))] at d;refine A9 (s0:=([]:List B9)) (λ(s:List B9) i=>(s,i)) 0 l.length (by omega) (λk s=>s=(l.take k).filterMap (nzI r)∧∀ i (hi:i<l.length),i<k->(IQ l[i].Val).2=true) (by omega) ⟨by simp,λi hi h=>by omega⟩ (λk s J _ hk D O=>?_) (λs J D=>?_)
   . have⟨D,a2⟩:=D
     have a5:s.length<=k:=by grind
     refine A0 (λ_=>AW hk (yW (ho _ (TF hk)) (CB (λZ=>?_) (λZ=>AbD (BT (λa4=>AL (by simp; omega) (O _ ⟨?_,?_⟩)) (λhe=>O _ ⟨?_,?_⟩)))))) (λh=>by omega)
     . rw[if_pos ⟨_,TF hk,Z⟩] at d; exact d
     . rw[eZ hk,As0,<-D];simp[nzI,a4]
     . grind
     . rw[eZ hk,As0,<-D];simp[nzI,he]
     grind
   . have⟨D,a2⟩:=D;rw[QW] at D;subst D;refine A0 (λh=>by omega) (λ_=>?_);rw[if_neg] at d
     . exact d
     . rintro⟨s,D,Z⟩;obtain⟨i,hi,rfl⟩:=List.mem_iff_getElem.1 D;grind
theorem Ah5 (v:Vec):(W7 v).length<=4096:=by unfold W7; rw[nW]; exact(RO v).len
theorem AbF {c:BB} {x:Vec} {rows cols:Int} {T:List A2} {Q:Int->Prop} (J:WT c) (O:x.Items.length<=1000000000) (d:ZR c=UB rows cols T) (h:Canon cols rows T) (D:Q (SD T (W7 x))):dS c x Q:=by unfold dS;exact ZS O (Ab5 J (by have:=Ah5 x; omega) d h D)
def lS (f:List Int) (n:Int):Int:=((W6 f).find? λi=>decide (n<=i)).getD (-1)
theorem uK {f:List Int} {n p:Int} (h:G2 f p=true) (U:n<=p) (O:∀ q,q<p->n<=q->G2 f q=false):lS f n=p:=by
 have hp:=TC.2 h;have d:=uI f;have D:∀ q∈W6 f,G2 f q=true:=λq J=>TC.1 J;unfold lS;generalize W6 f=l at hp d D
 induction l with
 | nil=>simp at hp
 | cons x l V=>
  rw[AcZ] at d;grind
theorem uL {f:List Int} {n:Int} (h:∀ q,n<=q->G2 f q=false):lS f n = -1:=by
 unfold lS;rw[List.find?_eq_none.2]
 . rfl
 . intro q D d;have:=h q (of_decide_eq_true d);rw[TC.1 D] at this; cases this
theorem AjQ {x:Int} (h:0<=x) (d:x<18446744073709551616):TI .u64 x 1=x % 2:=by rw[Ab9 h d (by omega) (by omega),show Int.toNat 1=1 from rfl,Nat.and_one_is_mod]; omega
theorem AjR (x:Int):shr .u64 x 1=x / 2:=ApB 1 (by omega)
theorem Ae7 {f:List Int} (d:qH f) {i j:Nat} (D:j<64) {w:Int} (J:w=AY f i / 2 ^ j):(G2 f (64*i+j)=true↔w % 2=1):=by have h:=bS d i;unfold G2;grind
theorem zJ {f:List Int} (J:qH f) {i j k:Nat} (d:j<=k) (hk:k<64) {w:Int} (V:w=AY f i / 2 ^ j) (O:w=0):G2 f (64*i+k)=false:=by
 have U:=bS J i;unfold G2;rw[show(64*(i:Int)+k) / 64=i by omega,show((64*(i:Int)+k) % 64).toNat=k by omega]
 have e:w=(((AY f i).toNat / 2 ^ j:Nat):Int):=by grind
 have h:(AY f i).toNat<2 ^ j:=by
  have D:(AY f i).toNat / 2 ^ j=0:=by omega
  simp_all
 rw[Nat.testBit_lt_two_pow (AiB h (Nat.pow_le_pow_right (by omega) d))];simp
theorem eN {f:List Int} {i j:Nat} {w:Int} (d:w=AY f i / 2 ^ j):w / 2=AY f i / 2 ^ (j+1):=by rw[d,Int.ediv_ediv_of_nonneg (by exact yJ (AiS (by omega))),Int.pow_succ]
theorem WU {f:List Int} {n:Int} {Q:Int->Prop} (V:qH f) (hl:f.length<=1000000) (hQ:Q (lS f n)):PL f n Q:=by
 unfold PL L9 PK;refine A9 (s0:=((0:Int),(0:Nat))) (λ(s:Int×Nat) i=>(s.1,i,s.2)) 0 f.length (by omega) (λk s=>s.2=0∧∀ q,q<64*(k:Int)->n<=q->G2 f q=false) (by omega) ⟨rfl,λq J _=>XU (by omega)⟩ (λk s next _ _ Z hn=>?_) (λs next Z=>?_)
 . have⟨s1,s2⟩:=s;have⟨d,W⟩:=Z;simp only at d W ⊢;subst d;have U:=bS V k;refine A0 (λ_=>AX (by omega) (by omega) ?_) (λh=>by omega)
   have a5:shl .i64 (k:Int) 6=64*(k:Int):=by show A4 ((k:Int)*2 ^ 6)=_;rw[A6 (by omega) (by omega)]; omega
   rw[a5];refine BV (λs:Int×Int×Int×Nat=>∃ j:Nat,j<=64∧s.2.2.1=64*k+j∧s.2.1=AY f k / 2 ^ j∧s.2.2.2=0∧∀ q,q<64*(k:Int)+j->n<=q->G2 f q=false) (λs=>s.2.1.toNat) ⟨0,by omega,by simp,by simp,rfl,λq J=>W q (by omega)⟩ ?_;rintro⟨_,w,a4,_⟩ _ ⟨j,_,ha,D,h4,h5⟩ hnx;simp only at ha D h4 h5 ⊢;subst h4
   have a2:0<=w∧w<18446744073709551616:=by rw[D];have hp:(0:Int)<2 ^ j:=AiS (by omega);exact⟨AiH U.1 (yJ hp),Int.lt_of_le_of_lt (Ao1 _ U.1) U.2⟩
   have e1:A4 (a4+1)=64*(k:Int)+((j+1:Nat):Int):=by rw[ha,A6 (by omega) (by omega)]; omega
   refine BT (λ_=>?_) (λhe=>?_)
   . have a3:j<64:=by grind
     have a6:=Ae7 V a3 D;rw[AjQ a2.1 a2.2,AjR,e1];refine B5 (λd=>⟨rfl,A0 (λ_=>?_) (λ_=>?_)⟩) (λd=>?_)
     . refine B2 rfl (A8 (by simp) ⟨rfl,?_⟩);grind[uK]
     . refine A8 rfl (hnx _ ⟨j+1,by omega,rfl,eN D,rfl,λq J O=>?_⟩ (by simp only; omega));omega
     . refine hnx _ ⟨j+1,by omega,rfl,eN D,rfl,λq J O=>?_⟩ (by simp only; omega);grind
   . refine hn (_,0) ⟨rfl,λq J O=>?_⟩;rcases Ag6 q (64*(k:Int)+j) with h | h
     . grind
     . obtain⟨m,rfl⟩:∃ m:Nat,q=64*(k:Int)+m:=⟨(q - 64*k).toNat,by omega⟩;exact zJ V (j:=j) (by omega) (by omega) D he
 . have⟨s1,s2⟩:=s;have⟨d,W⟩:=Z;simp only at d W ⊢;subst d;refine A0 (λh=>by omega) (λ_=>B2 rfl ?_);rw[uL] at hQ
   . exact hQ
   . intro q J;rcases Ag6 q (64*(f.length:Int)) with h | h
     . grind
     . exact TB h
theorem AlS {f:List Int} {n:Int} (d:0<=n):lS f n<0↔∀ i∈W6 f,i<n:=by
 unfold lS
 cases h:(W6 f).find? λi=>decide (n<=i) with
 | none=>
  grind
 | some q=>
  grind
theorem bX {f:List Int} {n:Int} {Q:Bool->Prop} (W:qH f) (V:f.length<=1000000) (U:Q (decide (bV f n))):RJ f n Q:=by
 unfold RJ;have d:¬bV f n->Q false:=λh=>by rwa [decide_eq_false h] at U
 refine A0 (λD=>A0 (λJ=>bU (B5 (λO=>WU W V ?_) (λO=>d λh=>O (by rw[h.2.1])))) (λJ=>d λh=>J h.1.2)) (λD=>d λh=>D h.1.1)
 have:decide (lS f n<0)=decide (bV f n):=decide_eq_decide.2 (by rw[AlS D];exact⟨λh=>⟨⟨D,J⟩,by omega,h⟩,λh=>h.2.2⟩)
 grind
theorem bY {v:Vec} {Q:Bool->Prop} (h:VecP v) (U:Q true):RK (OV v) Q:=by
 unfold RK;have W:=h.n0; have V:=h.n1;have Z:(OV v).N=v.N:=rfl;have D:((OV v).Vals.length:Int)=v.N:=by simp[OV,XV]; omega
 refine bX (lP v) (by have:=AjO v; omega) ?_;rw[show decide (bV (OV v).Has (OV v).N)=true from decide_eq_true (zG ⟨W,V⟩ _)];refine A8 rfl (BT (λd=>absurd D d) (λ_=>?_));refine D7 (OV v).Vals.length (by omega) (λ_=>True) trivial (λk next _ _ J=>?_) (λnext _=>?_)
 . refine A0 (λ_=>AX (by omega) (by omega) (BT (λd=>M5 (lP v) (by unfold EC; omega) (CB (λO=>?_) (λ_=>J trivial))) (λ_=>J trivial))) (λd=>by omega);rw[lO h] at O;have:AY (OV v).Vals (k:Int)=(GI v.Items k).getD 0:=oR (by omega) (by omega);simp_all
 . exact A0 (λd=>by omega) (λ_=>U)
theorem AbG {rows cols:Int} {ts:List A2} {v:Vec} {Q:Rows×Dense->Prop} (h:Canon rows cols ts) (D:VecP v) (d:Q (BW rows cols ts,OV v)):eD (BW rows cols ts) (OV v) Q:=by
 unfold eD;refine CE (λt=>t=BW rows cols ts) ?_ ?_
 . rintro t rfl;exact bY D (A8 rfl d)
 . intro k hk;refine lD h.sml ?_;rw[decide_eq_true h.right];exact A8 rfl (hk _ rfl)
theorem Ae8 {r rows cols:Int} {ts:List A2} {v:Vec} {i:Nat} {Q:AZ×Bool->Prop} (h:Canon rows cols ts) (ht:∀ t∈ts,EC t.Val) (hv:VecP v) (hn:v.N=cols) (a8:∀ y∈v.Items,EC y.Val) (hi:(i:Int)<rows)
   (hQ:Q (((L0 r cols.toNat (GI (OW ts i)) (GI v.Items)).getD ⟨0,0⟩),(L0 r cols.toNat (GI (OW ts i)) (GI v.Items)).isSome)):kU r (BW rows cols ts) i (OV v) Q:=by
 unfold kU U5 PV;have b1:=h.r1; have b0:=h.c1; have c0:=h.len;have⟨lo,a2,Z⟩:=h.seg i;have e1:A4 ((i:Int)+1)=(i+1:Nat):=by rw[A6 (by omega) (by omega)]; omega
 rw[e1];refine XO (by omega) ?_;rw[Z.lo];have g1:=Z.le; have g2:=Z.len;have c2:OW ts i=((ts.take a2).drop lo).map sD:=by rw[Z.eq]; simp[OW]
 have a3:IncI (OW ts i)∧∀ x∈OW ts i,0<=x.At∧x.At<cols.toNat:=by rw[zI ts (by omega)];refine⟨lQ h.srt _,λx hx=>?_⟩;have:=h.inn _ (UH.1 hx); unfold sB at this; grind
 have d0:=ApL (r:=r) (B:=GI v.Items) a3.1 a3.2;refine A9 (s0:=(none:Option AZ)) (λ(s:Option AZ) k=>(s.isSome,(s.getD ⟨0,0⟩).Hi,(s.getD ⟨0,0⟩).Lo,k)) lo a2 (by omega) (λp d=>d=(((ts.take p).drop lo).map sD).foldl (fZ r (GI v.Items)) none) (by omega) (by simp) (λp d a5 a7 _ O W=>?_) (λd a5 O=>?_)
 . dsimp only;have U:p<ts.length:=by omega
   have a6:∀ w,d=some w->S5 w:=by subst O; exact zH r _ _ none (λw hw=>by cases hw)
   have D:(((ts.take (p+1)).drop lo).map sD).foldl (fZ r (GI v.Items)) none=fZ r (GI v.Items) d (sD ts[p]):=by rw[AdR a7 U,gW,Ag1,<-O]; rfl
   have J:=h.inn _ (TF U);unfold sB at J;refine XO (by omega) ?_;rw[Z.hi];refine A0 (λ_=>?_) (λh=>by omega);refine AG (by omega) (x:=ts[p].Col) (by simp[BW,U]) (M5 (lP v) (by unfold EC; omega) ?_);rw[lO hv];have V:AY (OV v).Vals ts[p].Col=(GI v.Items ts[p].Col).getD 0:=oR J.2.2.1 (by omega);have a9:((OV v).Vals.length:Int)=v.N:=by have:=hv.n0; simp[OV,XV]; omega
   cases hB':GI v.Items ts[p].Col with
   | none=>
    refine A8 rfl (W d ?_);rw[D]; unfold fZ; simp only[sD,hB']
   | some x=>
    rw[hB'] at V;refine B2 rfl (AG (by omega) (x:=ts[p].Val) (by simp[BW,U]) (AX J.2.2.1 (by omega) ?_));rw[V];refine qG (ht _ (TF U)) (a8 _ (Z4 hB')) ?_;have a4:fZ r (GI v.Items) d (sD ts[p])=nS r d (some (M4 r ts[p].Val x)):=by unfold fZ; simp only[sD,hB']
    unfold PU
    cases d with
    | none=>exact A8 rfl (W (some (M4 r ts[p].Val x)) (by rw[D,a4]; rfl))
    | some w=>exact B2 rfl (bK (a6 w rfl) (UE _ _ _) (W (some (I4 r w (M4 r ts[p].Val x))) (by rw[D,a4]; rfl)))
 . dsimp only;refine XO (by omega) ?_;rw[Z.hi];refine A0 (λh=>by omega) (λ_=>?_);simp_all
theorem AbH {r rows cols:Int} {ts:List A2} {v:Vec} {f:List Int} {o:Bool} {Q:List BM×Int→Prop} (h:Canon rows cols ts) (ht:∀ t∈ts,EC t.Val) (hv:VecP v) (a4:∀ y∈v.Items,EC y.Val)
   (hf:qH f) (V:Q (lR r rows cols ts v f o)):eG r (BW rows cols ts) (OV v) f o Q:=by
 unfold eG
 unfold lR at V
 have a6:=h.r0; have a7:=h.r1
 refine AbG h hv (Q7 (CB (fun J=>?_) (fun J=>BT (fun a3=>?_) (fun Z=>?_))))
 · grind
 · rw [if_neg (by have:=of_decide_eq_true J; omega),if_pos (show v.N≠cols from a3)] at V; exact V
 have hr:=of_decide_eq_true J
 have Z:v.N=cols:=Z
 rw [if_neg (by omega),if_neg (by omega)] at V
 unfold U6 PW
 have O:(BW rows cols ts).Rows=rows:=rfl
 refine A9 (s0:=(([]:List BM),(0:Nat))) (fun (s:List BM×Nat) i=>(s.1,i,s.2)) 0 rows.toNat (by omega) (fun m s=>s.2=0∧s.1=LK r m cols.toNat f o (fun i=>GI (OW ts i)) (GI v.Items)) (by omega) ⟨rfl,by simp [LK]⟩ (fun i s next _ _ D W=>?_) (fun s next D=>?_)
 · obtain ⟨s,s2⟩:=s
   obtain ⟨U,D⟩:=D
   simp only at U D ⊢
   subst U
   have a8:s.length≤i:=by subst D; exact (UG r cols.toNat f o (fun i=>GI (OW ts i)) (GI v.Items) i).2.1
   have d:=Z5 r i cols.toNat f o (fun i=>GI (OW ts i)) (GI v.Items)
   rw [←D] at d
   refine A0 (fun _=>M5 hf (by unfold EC; omega) (CB (fun hb=>⟨rfl,?_⟩) (fun hb=>W (s,0) ⟨rfl,?_⟩))) (fun J=>by rw [O] at J; omega)
   · have a2:HG f o i=true:=by unfold HG; grind
     rw [if_pos a2] at d
     refine Ae8 h ht hv Z a4 (by omega) ?_
     cases hw:L0 r cols.toNat (GI (OW ts i)) (GI v.Items) with
     | none=>
      refine A8 rfl (A8 rfl (W (s,0) ⟨rfl,?_⟩))
      grind
     | some w=>
      refine B2 rfl (AL (by simp; omega) (A8 rfl (W (s++[⟨i,w⟩],0) ⟨rfl,?_⟩)))
      grind
   · have a5:¬HG f o i=true:=by unfold HG; grind
     grind
 · obtain ⟨s,s2⟩:=s
   obtain ⟨U,D⟩:=D
   simp only at U D ⊢
   subst U
   refine A0 (fun J=>by rw [O] at J; omega) (fun _=>⟨rfl,?_⟩)
   grind
theorem AlT (a b:AZ):jX a b∨jX b a:=by unfold jX; omega
theorem ApM {a b:AZ} (h:jX a b) (d:jX b a):a=b:=by unfold jX at *; exact RN (by omega) (by omega)
theorem AlU {a b c:AZ} (h:jX a b) (d:jX b c):jX a c:=by unfold jX at *; omega
def rK (a b:AZ):AZ:=if jX a b then a else b
theorem AlV (a b:AZ):rK a b=rK b a:=by
 unfold rK;by_cases h:jX a b <;> by_cases h':jX b a
 . rw[if_pos h,if_pos h']; exact ApM h h'
 . rw[if_pos h,if_neg h']
 . rw[if_neg h,if_pos h']
 . rcases AlT a b with e | e
   . exact absurd e h
   . exact absurd e h'
theorem Ah6 (a b c:AZ):rK (rK a b) c=rK a (rK b c):=by
 unfold rK;by_cases h1:jX a b <;> by_cases h2:jX b c <;> by_cases h3:jX a c <;> simp only[h1,h2,h3,if_true,if_false]
 . exact absurd (AlU h1 h2) h3
 . exfalso; unfold jX at *; omega
theorem AlW {r:Int} {a b:AZ} (D:S5 a) (d:S5 b):I4 r a b=I4 r b a:=by
 by_cases h:r=1∨r=3∨r=4
 . have e:∀ a b,I4 r a b=rK a b:=λa b=>by unfold I4 rK; rw[if_pos h]
   rw[e,e]; exact AlV a b
 . by_cases h2:r=2
   . unfold I4;rw[if_neg h,if_pos h2,if_neg h,if_pos h2];by_cases e1:a=⟨0,0⟩ <;> by_cases e2:b=⟨0,0⟩ <;> simp[e1,e2]
   . by_cases h5:r=5
     . subst h5;rw[lK D,lK d,Z3,Z3,Int.add_comm]
     . unfold I4; rw[if_neg h,if_neg h2,if_neg h5,if_neg h,if_neg h2,if_neg h5]
theorem Ah7 {r:Int} {a b c:AZ} (J:S5 a) (d:S5 b) (D:S5 c):I4 r (I4 r a b) c=I4 r a (I4 r b c):=by
 by_cases h:r=1∨r=3∨r=4
 . have e:∀ a b,I4 r a b=rK a b:=λa b=>by unfold I4 rK; rw[if_pos h]
   simp only[e]; exact Ah6 a b c
 . by_cases h2:r=2
   . have e:∀ a b,I4 r a b=if a=⟨0,0⟩∧b=⟨0,0⟩ then ⟨0,0⟩ else ⟨0,1⟩:=λa b=>by unfold I4; rw[if_neg h,if_pos h2]
     have O:(⟨0,1⟩:AZ)≠⟨0,0⟩:=by decide
     simp only[e];by_cases e1:a=⟨0,0⟩ <;> by_cases e2:b=⟨0,0⟩ <;> by_cases e3:c=⟨0,0⟩ <;> simp[e1,e2,e3]
   . by_cases h5:r=5
     . subst h5;rw[lK J,lK d,lK D,Z3,Z3,Z3,Z3,Int.add_assoc]
     . unfold I4;simp only[if_neg h,if_neg h2,if_neg h5]
def okO (o:Option AZ):Prop:=∀ w,o=some w->S5 w
theorem ApN {r:Int} {a b:Option AZ} (h:okO a) (d:okO b):nS r a b=nS r b a:=by
 cases a with
 | none=>cases b <;> rfl
 | some x=>cases b with
  | none=>rfl
  | some y=>simp only[nS]; rw[AlW (h x rfl) (d y rfl)]
theorem oT {r:Int} {a b c:Option AZ} (D:okO a) (h:okO b) (d:okO c):nS r (nS r a b) c=nS r a (nS r b c):=by
 cases a with
 | none=>cases b <;> rfl
 | some x=>cases b with
  | none=>cases c <;> rfl
  | some y=>cases c with
   | none=>rfl
   | some z=>simp only[nS]; rw[Ah7 (D x rfl) (h y rfl) (d z rfl)]
theorem XX (r:Int) (n:Nat) (A B:Int->Option Int):L0 r (n+1) A B=ZT r A B (L0 r n A B) n:=by unfold L0; rw[aF,Ag1]; rfl
theorem Ae9 (r:Int) (k:Nat) (A B:Int->Option Int):∀ m:Nat,L0 r (k+m) A B=nS r (L0 r k A B) (L0 r m (λj=>A (j+k)) (λj=>B (j+k)))
 | 0=>by rw[YH,show L0 r 0 (λj=>A (j+k)) (λj=>B (j+k))=none from rfl,UD]
 | m+1=>by
  rw[<-yH,XX,XX,Ae9 r k A B m];have ho:=uJ r m (λj=>A (j+k)) (λj=>B (j+k));generalize L0 r m (λj=>A (j+k)) (λj=>B (j+k))=o at ho ⊢;unfold ZT;rw[show(((k+m:Nat):Int))=(m:Int)+k by omega];simp only
  cases D:A ((m:Int)+k) with
  | none=>rfl
  | some a=>cases J:B ((m:Int)+k) with
   | none=>rfl
   | some x=>
    have d:okO (some (M4 r a x)):=λ_ h=>by have:=TG h;subst this; exact UE _ _ _
    exact oT (uJ r k A B) ho d
theorem Ah8 {r:Int} {n:Nat} {A h B d:Int->Option Int} (O:∀ j:Nat,j<n->A j=h j) (J:∀ j:Nat,j<n->B j=d j):L0 r n A B=L0 r n h d:=by unfold L0;refine QB λ_ k hk=>?_;have hk:=List.mem_range.1 hk;unfold ZT;rw[O k hk,J k hk]
theorem sE {l:List B9} (h:IncI l) {i a:Int}:GI l i=some a↔(⟨i,a⟩:B9)∈l:=⟨Z4,λd=>W8 h d⟩
theorem AjS {x y:Option Int} (h:∀ a,x=some a↔y=some a):x=y:=by
 cases x with
 | none=>cases y with
  | none=>rfl
  | some b=>have:=(h b).2 rfl; cases this
 | some a=>exact((h a).1 rfl).symm
def RR (u:Vec) (a b:Int):Vec:=
 if (if u.N<b then u.N else b)<=(if 0 > a then 0 else a) then zV
 else ⟨(if u.N<b then u.N else b) - (if 0 > a then 0 else a),(u.Items.filter λx=>decide ((if 0 > a then 0 else a)<=x.At∧x.At<(if u.N<b then u.N else b))).map λx=>⟨x.At - (if 0 > a then 0 else a),x.Val⟩⟩
theorem AbI {u:Vec} (h:VecP u) {a b:Int} (J:0<=a) (O:a<=b) (U:b<=u.N):RR u a b=⟨b - a,(u.Items.filter λx=>decide (a<=x.At∧x.At<b)).map λx=>⟨x.At - a,x.Val⟩⟩:=by
 unfold RR;have D:(if 0 > a then 0 else a)=a:=if_neg (by omega);have d:(if u.N<b then u.N else b)=b:=if_neg (by omega);rw[D,d];split
 . have:b=a:=by omega
   subst this;rw[List.filter_eq_nil_iff.2 (λx _=>by simp only[decide_eq_true_eq]; omega)];simp[zV]
 . rfl
theorem zK {u:Vec} (h:VecP u) {a b:Int} (V:0<=a) (W:a<=b) (h2:b<=u.N):VecP (RR u a b)∧(RR u a b).N=b - a∧(∀ j,0<=j->j<b - a->GI (RR u a b).Items j=GI u.Items (j+a))∧((∀ x∈u.Items,EC x.Val)->∀ x∈(RR u a b).Items,EC x.Val):=by
 rw[AbI h V W h2];have a2:=h.n1
 have d:∀ x:B9,x∈((u.Items.filter λx=>decide (a<=x.At∧x.At<b)).map λx=>(⟨x.At - a,x.Val⟩:B9))↔(⟨x.At+a,x.Val⟩:B9)∈u.Items∧0<=x.At∧x.At+a<b:=by
   intro x;simp only[hM,Ag4,decide_eq_true_eq];constructor
   . rintro⟨y,⟨O,hc⟩,rfl⟩;simp only;rw[show y.At - a+a=y.At by omega];exact⟨O,by omega,by omega⟩
   . rintro⟨O,hc⟩;refine⟨_,⟨O,by simp only; omega⟩,?_⟩;cases x; simp only[B9.mk.injEq]; exact⟨by omega,trivial⟩
 have D:IncI ((u.Items.filter λx=>decide (a<=x.At∧x.At<b)).map λx=>(⟨x.At - a,x.Val⟩:B9)):=by unfold IncI;rw[nU];exact sP (λ{x y} a3=>by simp only; omega) (gX _ h.inc)
 refine⟨⟨by simp only; omega,by simp only; omega,D,λx U=>by have:=(d x).1 U; simp only; omega⟩,rfl,λj _ _=>AjS λ_=>?_,λZ x U=>?_⟩
 . rw[sE D,sE h.inc,d];exact⟨λJ=>J.1,λJ=>⟨J,by simp only; omega⟩⟩
 . have:=Z _ ((d x).1 U).1;exact this
def uM (n k:Int):Prop:=(0<=n∧n<=4096)∧(1<=k∧k<=8)
instance (n k:Int):Decidable (uM n k):=by unfold uM; infer_instance
def clI (i k:Int):Int:=if i<0 then 0 else if k<i then k else i
def AQ (n k i:Int):Int:=if uM n k then clI i k*n / k else 0
theorem AuQ {i k:Int} (h:1<=k):0<=clI i k∧clI i k<=k:=by grind[clI]
theorem ApO {i j k:Int} (h:i<=j) (hk:1<=k):clI i k<=clI j k:=by grind[clI]
theorem AxB {i k n:Int} (hk:1<=k∧k<=8) (d:0<=n∧n<=4096) (hi:0<=i∧i<=k):0<=i*n∧i*n<=32768:=by refine⟨AiO hi.1 d.1,?_⟩;have:=AiN (show i<=8 by omega) d.2 d.1 (by omega);omega
theorem IX {n k i j:Int} (h:i<=j):AQ n k i<=AQ n k j:=by
 unfold AQ;by_cases hm:uM n k
 . rw[if_pos hm,if_pos hm];exact Int.ediv_le_ediv (by have:=hm.2; omega) (Int.mul_le_mul_of_nonneg_right (ApO h hm.2.1) hm.1.1)
 grind
theorem AeA (n k:Int):AQ n k 0=0:=by
 unfold AQ clI; split
 . rename_i d;have h:=d.2.1;rw[if_neg (by omega),if_neg (by omega),Int.zero_mul,Int.zero_ediv]
 . rfl
theorem AjT {n k:Int} (h:uM n k):AQ n k k=n:=by unfold AQ clI;have d:=h.2.1;rw[if_pos h,if_neg (by omega),if_neg (by omega),Int.mul_comm,Int.mul_ediv_cancel _ (by omega)]
theorem UI {n k i:Int}:0<=AQ n k i∧(0<=n->AQ n k i<=n):=by
 by_cases hm:uM n k
 . have d:=AuQ (i:=i) hm.2.1;refine⟨?_,λ_=>?_⟩
   . unfold AQ; rw[if_pos hm]; exact AiH (AiO d.1 hm.1.1) (by have:=hm.2; omega)
   . by_cases hi:i<=k
     . have:=IX (n:=n) hi (k:=k); grind[AjT]
     . have h:=hm.2.1
       have e:AQ n k i=n:=by unfold AQ clI;rw[if_pos hm,if_neg (by omega),if_pos (by omega),Int.mul_comm,Int.mul_ediv_cancel _ (by omega)]
       omega
 grind[AQ]
theorem toQ {P:Prop} [Decidable P] {b:Bool} {Q:Bool->Prop} (d:Q (decide P)) (h:b=true↔P):Q b:=by grind
theorem AeB {n k:Int} {Q:Bool->Prop} (d:Q (decide (uM n k))):kP n k Q:=by unfold kP PI;refine A0 (λa=>A0 (λb=>A0 (λc=>toQ d ?_) (λc=>toQ d ?_)) (λb=>toQ d ?_)) (λa=>toQ d ?_) <;> (unfold uM; simp; omega)
theorem HT {n k i:Int} {Q:Int->Prop} (J:Q (AQ n k i)):IJ n k i Q:=by
 unfold IJ;unfold AQ at J;refine AeB (CB (λh=>?_) (λh=>?_))
 . grind
 . have d:=of_decide_eq_true h;rw[if_pos d] at J
   have e:(if k<(if 0 > i then 0 else i) then k else (if 0 > i then 0 else i))=clI i k:=by unfold clI; have:=d.2; omega
   rw[e];have D:=AxB d.2 d.1 (AuQ (i:=i) d.2.1);have hk:=d.2;refine⟨by omega,?_⟩;rw[A6 (x:=clI i k*n) (by omega) (by omega),AnD D.1];have O:0<=clI i k*n / k:=AiH D.1 (by omega);have U:clI i k*n / k<=clI i k*n:=Ao1 _ D.1
   rwa [A6 (by omega) (by omega)]
theorem QC (n k i:Int):0<=AQ n k i∧AQ n k i<=4096:=by
 by_cases hm:uM n k
 . have h:=UI (n:=n) (k:=k) (i:=i);have:=h.2 hm.1.1;have:=hm.1.2;omega
 . unfold AQ; grind
def JX (n k i:Int):Int:=if 0<=i∧i<k then AQ n k (i+1) - AQ n k i else 0
theorem AuR {n k i:Int} (d:0<=i) (h:i<k):AQ n k (A4 (i+1))=AQ n k (i+1):=by
 by_cases hm:uM n k
 . have:=hm.2;rw[A6 (by omega) (by omega)]
 . unfold AQ; grind
theorem AbJ {n k i:Int} {Q:Int->Prop} (d:Q (JX n k i)):dX n k i Q:=by
 unfold dX;unfold JX at d;refine A0 (λh=>?_) (λh=>A0 (λD=>?_) (λD=>HT (HT ?_)))
 . grind
 . grind
 . rw[if_pos (by omega)] at d;have J:=QC n k (i+1); have O:=QC n k i;rw[AuR (by omega) (by omega),A6 (by omega) (by omega)]; exact d
def JG (k:Int):Prop:=1<=k∧k<=8
instance (k:Int):Decidable (JG k):=by unfold JG; infer_instance
def XY (r c i j:Int):Prop:=(JG r∧JG c)∧(0<=i∧i<r)∧0<=j∧j<c
instance (r c i j:Int):Decidable (XY r c i j):=by unfold XY; infer_instance
theorem gB {k:Int} {Q:Bool->Prop} (d:Q (decide (JG k))):TU k Q:=by unfold TU;refine A0 (λa=>toQ d ?_) (λa=>toQ d ?_) <;> (unfold JG; simp; omega)
theorem WV {r c i j:Int} {Q:Bool->Prop} (h:Q (decide (XY r c i j))):PH r c i j Q:=by unfold PH;refine gB (A0 (λa=>gB (A0 (λb=>A0 (λd=>A0 (λe=>A0 (λf=>toQ h ?_) (λf=>toQ h ?_)) (λe=>toQ h ?_)) (λd=>toQ h ?_)) (λb=>toQ h ?_))) (λa=>toQ h ?_)) <;> (unfold XY; unfold JG at *; simp only[AaJ,decide_eq_true_eq,false_iff]; omega)
theorem ZU {n:Int} {Q:Bool->Prop} (d:Q (decide (0<=n∧n<=4096))):OG n Q:=by unfold OG;refine A0 (λa=>toQ d ?_) (λa=>toQ d ?_) <;> (simp; omega)
theorem HM {n k i:Int} {Q:Int×Int->Prop} (d:0<=i) (h:i<k) (D:Q (AQ n k i,AQ n k (i+1))):GP n k i Q:=by unfold GP;grind[HT,AuR]
def AsX (rows cols:Int) (T:List A2) (r c i j:Int):Rows:=if XY r c i j then AoX rows cols T (AQ rows r i,AQ rows r (i+1)) (AQ cols c j,AQ cols c (j+1)) else BW 0 0 []
theorem AsY:bM zR=BW 0 0 []:=if_neg Ap0
theorem ApP:AoX 0 0 [] (0,0) (0,0)=BW 0 0 []:=by decide
theorem AbK {Q:Rows->Prop} (d:Q (BW 0 0 [])):VR zR (0,0) (0,0) Q:=by refine tU AoZ AsY AdQ ?_;grind[ApP]
theorem AbL {rows cols r c i j:Int} {T:List A2} {Q:Rows->Prop} (h:Canon rows cols T) (D:Q (AsX rows cols T r c i j)):dO (BW rows cols T) r c i j Q:=by
 unfold dO;unfold AsX at D;refine lD h.sml ?_;rw[decide_eq_true h.right];refine A8 rfl (WV (CB (λd=>?_) (λd=>?_)))
 . rw[if_neg (of_decide_eq_false d)] at D;exact AbK D
 . have d:=of_decide_eq_true d;rw[if_pos d] at D;exact HM d.2.1.1 d.2.1.2 (HM d.2.2.1 d.2.2.2 (tU h.sml (Q9 h) h D))
theorem iO {rows cols r c i j:Int} {T:List A2} (h:Canon rows cols T) (d:XY r c i j):AsX rows cols T r c i j=BW (JX rows r i) (JX cols c j) (WS (AQ rows r i) (AQ rows r (i+1)) (AQ cols c j) (AQ cols c (j+1)) T)∧Canon (JX rows r i) (JX cols c j) (WS (AQ rows r i) (AQ rows r (i+1)) (AQ cols c j) (AQ cols c (j+1)) T):=by
 have D:=zB h (AQ rows r i,AQ rows r (i+1)) (AQ cols c j,AQ cols c (j+1))
 have e:∀ {n k x:Int},0<=n->0<=x∧x<k->yZ (AQ n k x)=AQ n k x∧cHi (AQ n k (x+1)) n=AQ n k (x+1)∧ext (AQ n k x) (AQ n k (x+1)) n=JX n k x:=by
  intro n k x J hx;have h1:=UI (n:=n) (k:=k) (i:=x); have U:=UI (n:=n) (k:=k) (i:=x+1);have h3:=IX (n:=n) (k:=k) (show x<=x+1 by omega);have h4:=U.2 J;have V:yZ (AQ n k x)=AQ n k x:=by unfold yZ; omega
  have O:cHi (AQ n k (x+1)) n=AQ n k (x+1):=by unfold cHi; omega
  refine⟨V,O,?_⟩;unfold ext JX;omega
 have⟨a1,Z,W⟩:=e h.r0 d.2.1;have⟨b1,b2,b3⟩:=e h.c0 d.2.2;simp only[a1,Z,W,b1,b2,b3] at D;refine⟨?_,D⟩;unfold AsX;rw[if_pos d];unfold AoX;grind
theorem AsZ {a b:Int} (d:0<=a) (h:0<=b) (D:a<=1000000) (J:b<=1000000):A4 (shr .u64 (IntKind.wrap .u64 (A4 (a+b))) 1)=(a+b) / 2:=by have e:∀ i:Int,shr .u64 i 1=i / 2:=λi=>ApB 1 (by omega);rw[A6 (x:=a+b) (by omega) (by omega),NQ (by omega) (by omega),e,A6 (by omega) (by omega)]
theorem zL (x y:Int):Q6 x y<0↔x<y:=by unfold Q6; omega
theorem gC {w:Vec} {i:Int} {Q:Int×Bool->Prop} (hP:VecP w) (hQ:∀ (m:Nat) b,m<=w.Items.length->(∀ (k:Nat) (hk:k<w.Items.length),k<m->(w.Items[k]).At<i)->(∀ (k:Nat) (hk:k<w.Items.length),m<=k->¬(w.Items[k]).At<i)->Q (m,b)):NI w i Q:=by
 have hi:=hP.inc;have a4:=hP.len;unfold NI BQ K3;refine BV (λs:Int×Int=>0<=s.1∧s.1<=s.2∧s.2<=w.Items.length∧(∀ (k:Nat) (hk:k<w.Items.length),(k:Int)<s.1->(w.Items[k]).At<i)∧(∀ (k:Nat) (hk:k<w.Items.length),s.2<=(k:Int)->¬(w.Items[k]).At<i)) (λs=>(s.2 - s.1).toNat) ⟨by simp,by simp,by simp,λk hk h=>by simp at h; omega,λk hk h=>by simp at h; omega⟩ ?_;rintro⟨a,b⟩ next ⟨J,h1,h2,Z,W⟩ hn;simp only at J h1 h2 Z W;refine A0 (λa3=>?_) (λa3=>?_)
 . rw[AsZ J (by omega) (by omega) (by omega)];obtain⟨m,V⟩:∃ m:Nat,(a+b) / 2=(m:Int):=⟨((a+b) / 2).toNat,by omega⟩;rw[V];have O:m<w.Items.length:=by omega
   refine AW O (GG (A0 (λU=>?_) (λU=>?_)))
   . rw[zL] at U;rw[A6 (by omega) (by omega)];refine hn _ ⟨by simp only; omega,by simp only; omega,h2,λk hk D=>?_,W⟩ (by simp only; omega);simp only at D;by_cases e:k=m
     . grind
     . have:=hi.at O (by omega:k<m); omega
   . rw[zL] at U;refine hn _ ⟨J,by simp only; omega,by simp only; omega,Z,λk hk D=>?_⟩ (by simp only; omega);simp only at D;by_cases e:k=m
     . grind
     . have:=hi.at hk (by omega:m<k); omega
 . have a2:a=b:=by omega
   subst a2;obtain⟨m,rfl⟩:∃ m:Nat,a=(m:Int):=⟨a.toNat,by omega⟩;have d:∀ b,Q ((m:Int),b):=λb=>hQ m b (by omega) (λk hk h=>Z k hk (by omega)) (λk hk h=>W k hk (by omega));exact A0 (λV=>AW (by omega) (GG (d _))) (λV=>d _)
theorem zM {l:List B9} {Q:List B9->Prop} (h:l.length<=1000000) (d:Q l):B3 l Q:=by unfold B3;refine L7 (λe=>by subst e; exact d) (AL (by simp; omega) ?_);exact d
theorem AeC {α:Type} {xs:List α} {g:α->α} {d:List α×Int->(List α×Int->Prop)->Prop} (W:xs.length<=1000000000)
   (U:∀ (i:Nat) (s:List α) (next:List α×Int->Prop) (hi:i<xs.length) (h:s.length=xs.length),s[i]'(by omega)=xs[i]->next (s.set i (g xs[i]),A4 ((i:Int)+1))->d (s,(i:Int)) next)
   (V:∀ (next:List α×Int->Prop) s,s=xs.map g->d (s,(xs.length:Int)) next):B4 d (xs,0):=by
 refine A9 (λ(s:List α) i=>(s,i)) 0 xs.length (by omega) (λk s=>s=(xs.take k).map g++xs.drop k) (by omega) (by simp) (λk s next _ hk D O=>?_) (λs next D=>?_)
 . have h:s.length=xs.length:=by grind
   have J:((xs.take k).map g).length=k:=by simp; omega
   refine U k s next hk h ?_ (O _ ?_)
   . grind
   . subst D;rw[List.set_append_right _ _ (by omega),J,Nat.sub_self,ArX hk,List.set_cons_zero,eZ hk,gW,nP];rfl
 grind
theorem AbM {f:Int} {v:Vec} {Q:Vec->Prop} (J:VecP v) (O:0<=f) (hi:∀ x∈v.Items,f<=x.At) (V:Q ⟨v.N,v.Items.map λx=>⟨x.At - f,x.Val⟩⟩):OM f v Q:=by
 unfold OM PS;have hl:=J.len; have:=J.n1;refine MT (by omega) ?_;rw[IW J];refine zM (by omega) (AeC (g:=λx:B9=>(⟨x.At - f,x.Val⟩:B9)) (by omega) (λi s next d _ D U=>?_) (λnext s Z=>?_))
 . have hx:=J.ins _ (TF d); have W:=hi _ (TF d);refine A0 (λ_=>AW (by omega) ?_) (λh=>by omega);rw[D,A6 (x:=(v.Items[i]).At - f) (by omega) (by omega)];exact AW (by omega) U
 . subst Z;exact A0 (λh=>by omega) (λ_=>V)
theorem Ah9 {l:List B9} (h:IncI l) {f t:Int} {m n:Nat} (D:m<=n) (W:n<=l.length) (V:∀ (k:Nat) (hk:k<l.length),k<m->(l[k]).At<f) (O:∀ (k:Nat) (hk:k<l.length),m<=k->¬(l[k]).At<f)
   (J:∀ (k:Nat) (hk:k<l.length),k<n->(l[k]).At<t) (U:∀ (k:Nat) (hk:k<l.length),n<=k->¬(l[k]).At<t):(l.take n).drop m=l.filter λx=>decide (f<=x.At∧x.At<t):=by
 have e:l=l.take m++((l.take n).drop m++l.drop n):=by
   conv=>lhs; rw[<-As2 n l]
   rw[<-nP];congr 1
   conv=>lhs; rw[<-As2 m (l.take n)]
   grind
 conv=>rhs; rw[e]
 rw[fA,fA,List.filter_eq_nil_iff.2,List.filter_eq_self.2,List.filter_eq_nil_iff.2]
 . simp
 . intro x d;obtain⟨k,hk,rfl⟩:=WK d;rw[Ag2] at hk;rw[AiE];have:=U (n+k) (by omega) (by omega);simp only[decide_eq_true_eq]; omega
 . intro x d;obtain⟨k,hk,rfl⟩:=WK d;rw[Ag2,QX] at hk;rw[AiE,Al0];have a:=O (m+k) (by omega) (by omega); have b:=J (m+k) (by omega) (by omega);simp only[decide_eq_true_eq]; omega
 . intro x d;obtain⟨k,hk,rfl⟩:=WK d;rw[QX] at hk;rw[Al0];have:=V k (by omega) (by omega);simp only[decide_eq_true_eq]; omega
theorem xC {v:Vec} {a b:Int} {Q:Vec->Prop} (hl:v.Items.length<=1000000000) (J:Q (RR (FY v) a b)):YS v a b Q:=by
 unfold YS;have d:=RO v;refine MT hl ?_;generalize FY v=u at d J;have a3:=d.len; have:=d.n0; have:=d.n1;unfold RR at J;generalize hf:(if 0 > a then 0 else a)=f at *;generalize ht:(if u.N<b then u.N else b)=t at *;have W:0<=f:=by omega
 have a2:t<=u.N:=by omega
 refine A0 (λh=>?_) (λh=>?_)
 . rw[if_pos h] at J; exact J
 . rw[if_neg h] at J;refine gC d λm _ _ m1 m2=>gC d λn _ Z n1 n2=>?_
   have O:m<=n:=by grind
   have U:=Ah9 d.inc O Z m1 m2 n1 n2;refine As8 O Z ?_;rw[VK,VK,U]
   have D:∀ x∈u.Items.filter λx=>decide (f<=x.At∧x.At<t),x∈u.Items∧f<=x.At∧x.At<t:=λx V=>by grind
   refine AbM (v:=⟨u.N,u.Items.filter λx=>decide (f<=x.At∧x.At<t)⟩) ⟨d.n0,d.n1,gX _ d.inc,λx V=>d.ins x (D x V).1⟩ W (λx V=>(D x V).2.1) ?_;rw[A6 (by omega) (by omega)];exact J
def FZ (v:Vec) (k i:Int):Vec:=if JG k∧0<=i∧i<k then RR v (AQ v.N k i) (AQ v.N k (i+1)) else zV
def mx (a b:Int):Int:=if b > a then b else a
def mn (a b:Int):Int:=if b<a then b else a
def XZ (n r c i j:Int):Int:=mx (AQ n r i) (AQ n c j)
def iP (n r c i j:Int):Int:=mx (XZ n r c i j) (mn (AQ n r (i+1)) (AQ n c (j+1)))
def S6 (v:Vec) (n r c i j:Int):Vec:=
 if (0<=n∧n<=4096)∧XY r c i j∧VecP v∧v.N=JX n r i then RR v (XZ n r c i j - AQ n r i) (iP n r c i j - AQ n r i) else zV
theorem ApQ (n r c i j:Int):0<=XZ n r c i j∧XZ n r c i j<=iP n r c i j∧iP n r c i j<=4096:=by have d:=QC n r i; have h:=QC n c j; have D:=QC n r (i+1); grind[QC,iP,XZ,mx,mn]
theorem uN {v:Vec} {n r c i j:Int} {Q:Vec->Prop} (W:v.Items.length<=1000000000) (O:Q (S6 v n r c i j)):VT v n r c i j Q:=by
 unfold VT;unfold S6 at O;have d:¬((0<=n∧n<=4096)∧XY r c i j∧VecP v∧v.N=JX n r i)->Q zV:=λD=>by rwa [if_neg D] at O
 refine ZU (CB (λh=>d λD=>of_decide_eq_false h D.1) (λV=>WV (CB (λh=>d λD=>of_decide_eq_false h D.2.1) (λJ=>F4 W (CB (λh=>d λD=>of_decide_eq_false h D.2.2.1) (λU=>AbJ (BT (λh=>d λD=>h D.2.2.2) (λh4=>?_))))))));have V:=of_decide_eq_true V; have J:=of_decide_eq_true J; have U:=of_decide_eq_true U;rw[if_pos ⟨V,J,U,h4⟩] at O;refine HM J.2.1.1 J.2.1.2 (HM J.2.2.1 J.2.2.2 ?_);unfold OL;refine xC W ?_;have hc:=ApQ n r c i j; have hb:=QC n r i;have Z:(if (AQ n c j) > (AQ n r i) then AQ n c j else AQ n r i)=XZ n r c i j:=rfl;have eb:(if (if (AQ n c (j+1))<(AQ n r (i+1)) then AQ n c (j+1) else AQ n r (i+1)) > XZ n r c i j then (if (AQ n c (j+1))<(AQ n r (i+1)) then AQ n c (j+1) else AQ n r (i+1)) else XZ n r c i j)=iP n r c i j:=rfl;simp only;rw[Z,eb,A6 (by omega) (by omega),A6 (by omega) (by omega),IW U];exact O
def shI (n:Int) (x:B9):B9:=⟨n+x.At,x.Val⟩
def mB:List Vec->Vec->Vec×Int
 | [],o=>(o,0)
 | v :: l,o=>if 4096<o.N+(FY v).N then (zV,5) else mB l ⟨o.N+(FY v).N,o.Items++(FY v).Items.map (shI o.N)⟩
theorem AbR {f:Int} {v:Vec} {Q:Vec->Prop} (U:v.Items.length<=1000000000) (V:0<=f∧f<=4096) (O:Q ⟨(FY v).N,(FY v).Items.map (shI f)⟩):OH f v Q:=by
 unfold OH PO;have D:=RO v;refine MT U ?_;generalize FY v=u at D O;have U:=D.len; have:=D.n1;refine zM (by omega) (AeC (g:=shI f) (by omega) (λi s next J _ d W=>?_) (λnext s Z=>?_))
 . have hx:=D.ins _ (TF J);refine A0 (λ_=>AW (by omega) ?_) (λh=>by omega);rw[d,A6 (x:=f+(u.Items[i]).At) (by omega) (by omega)];exact AW (by omega) W
 . subst Z;exact A0 (λh=>by omega) (λ_=>O)
theorem xE {l:List Vec} {Q:Vec×Int->Prop} (Z:l.length<=1000) (W:∀ v∈l,v.Items.length<=1000000000) (O:Q (mB l zV)):YO l Q:=by
 unfold YO;refine A9 (s0:=zV) (λ(s:Vec) i=>(s.N,s.Items,i)) 0 l.length (by omega) (λi s=>mB (l.drop i) s=mB l zV∧(0<=s.N∧s.N<=4096)∧s.Items.length<=i*4096) (by omega) ⟨rfl,by decide,by decide⟩ (λi s next _ hi J U=>?_) (λs next J=>?_)
 . have⟨d,V,_⟩:=J;rw[ArX hi,mB] at d;have D:=RO l[i];refine A0 (λ_=>AW hi (AbR (W _ (TF hi)) V ?_)) (λh=>by omega);generalize FY l[i]=u at D d;have:=D.n0; have:=D.n1; have:=D.len;rw[A6 (x:=4096 - s.N) (by omega) (by omega)];refine A0 (λh=>?_) (λh=>AL (by rw[nW]; omega) ?_)
   . rw[if_pos (by simp only at h; omega)] at d;rw[<-d] at O; exact O
   . rw[if_neg (by simp only at h; omega)] at d;refine U ⟨A4 (s.N+u.N),s.Items++u.Items.map (shI s.N)⟩ ⟨?_,?_,?_⟩
     . rw[A6 (by omega) (by omega)]; exact d
     . simp only at h; rw[A6 (by omega) (by omega)]; grind
     grind
 . have⟨d,_,_⟩:=J;refine A0 (λh=>by omega) (λ_=>?_);rw[List.drop_length,mB] at d;simp_all
noncomputable def AhE (d:Nat->Int) (l:List Vec):Vec×Int:=if ∀ (i:Nat) (h:i<l.length),VecP l[i]∧l[i].N=d i then mB l zV else (zV,4)
noncomputable def At5 (n r c j:Int) (l:List Vec):Vec×Int:=if ¬((0<=n∧n<=4096)∧XY r c 0 j) then (zV,3) else if (l.length:Int)≠r then (zV,4) else AhE (λi=>iP n r c i j - XZ n r c i j) l
theorem ApY {n r c i j:Int} {Q:Int->Prop} (h:0<=i∧i<r) (d:0<=j∧j<c) (D:Q (iP n r c i j - XZ n r c i j)):N8 n r c j i Q:=by unfold N8 OL;refine HM h.1 h.2 (HM d.1 d.2 ?_);have U:=ApQ n r c i j;have J:(if (AQ n c j) > (AQ n r i) then AQ n c j else AQ n r i)=XZ n r c i j:=rfl;have O:(if (if (AQ n c (j+1))<(AQ n r (i+1)) then AQ n c (j+1) else AQ n r (i+1)) > XZ n r c i j then (if (AQ n c (j+1))<(AQ n r (i+1)) then AQ n c (j+1) else AQ n r (i+1)) else XZ n r c i j)=iP n r c i j:=rfl;simp only;rw[J,O,A6 (by omega) (by omega)];exact D
theorem AbS {n r c j:Int} {l:List Vec} {Q:Vec×Int->Prop} (hl:l.length<=1000) (V:∀ v∈l,v.Items.length<=1000000000) (d:Q (At5 n r c j l)):eH n r c j l Q:=by
 unfold eH S3;unfold At5 at d;refine ZU (CB (λh=>?_) (λZ=>WV (CB (λh=>?_) (λW=>BT (λh=>?_) (λh3=>?_)))))
 . rwa [if_pos (λD=>of_decide_eq_false h D.1)] at d
 . rwa [if_pos (λD=>of_decide_eq_false h D.2)] at d
 . rwa [if_neg (λD=>D ⟨of_decide_eq_true Z,of_decide_eq_true W⟩),if_pos h] at d
 have hg:=of_decide_eq_true W;rw[if_neg (λD=>D ⟨of_decide_eq_true Z,hg⟩),if_neg (λh=>h h3)] at d;unfold AhE at d;refine D7 l.length (by omega) (λi=>∀ (q:Nat) (O:q<l.length),q<i->VecP l[q]∧l[q].N=iP n r c q j - XZ n r c q j) (λq O h=>by omega) (λi next hi U hn=>?_) (λnext U=>?_)
 . refine A0 (λ_=>AW hi (F4 (V _ (TF hi)) (CB (λh=>?_) (λh=>ApY (by omega) hg.2.2 (BT (λD=>?_) (λD=>hn λq O _=>?_)))))) (λh=>by omega)
   . rw[if_neg (λJ=>of_decide_eq_false h (J i hi).1)] at d; exact d
   . rw[if_neg (λJ=>D (J i hi).2)] at d; exact d
   grind
 . rw[if_pos (λi hi=>U i hi hi)] at d;exact A0 (λh=>by omega) (λ_=>xE hl V d)
theorem mC {k:Int} {Q:Bool->Prop} (d:Q (decide (JG k))):PI k Q:=by unfold PI;refine A0 (λa=>toQ d ?_) (λa=>toQ d ?_) <;> (unfold JG; simp; omega)
theorem cD {c k:Nat} {Q:Int->Prop} (D:JG c) (hk:k<8*c) (J:Q ((k / c:Nat):Int)):XH c k Q:=by
 unfold XH;refine mC ?_;rw[decide_eq_true D];have d:=D;unfold JG at d;refine A8 rfl (A0 (λh=>by omega) (λ_=>?_));rw[A6 (x:=(c:Int)*8) (by omega) (by omega)];refine A0 (λh=>by omega) (λ_=>⟨by omega,?_⟩);rw[AnD (by omega),<-Int.natCast_ediv];have O:k / c<=k:=Nat.div_le_self _ _;generalize k / c=q at O J ⊢
 rwa [A6 (by omega) (by omega)]
theorem WA {c k:Nat} {Q:Int->Prop} (D:JG c) (hk:k<8*c) (J:Q ((k % c:Nat):Int)):TX c k Q:=by unfold TX;have d:=D;unfold JG at d;refine cD D hk (A0 (λh=>absurd h (Int.not_lt.2 (AnV _))) (λ_=>⟨by omega,?_⟩));grind
def shS (a:Int) (s:BM):BM:=⟨s.At+a,s.Val⟩
def Tb (rows cols:Int) (T:List A2) (p q i j:Int):List A2:=WS (AQ rows p i) (AQ rows p (i+1)) (AQ cols q j) (AQ cols q (j+1)) T
def AvU (r rows cols:Int) (T:List A2) (v:Vec) (p q i j:Int):List BM:=LK r (JX rows p i).toNat (JX cols q j).toNat [] true (λa=>GI (OW (Tb rows cols T p q i j) a)) (GI (FZ v q j).Items)
def AeJ (r rows cols:Int) (T:List A2) (v:Vec) (p q i j:Int):List BM:=(AvU r rows cols T v p q i j).map (shS (AQ rows p i))
def ApZ (r rows cols:Int) (T:List A2) (v:Vec) (p q:Int) (i:Nat) (n:Nat):List (List BM):=(List.range n).map λj:Nat=>AeJ r rows cols T v p q i j
theorem mD {v:Vec} (d:VecP v) {q j:Int} (U:JG q) (O:0<=j∧j<q):VecP (FZ v q j)∧(FZ v q j).N=JX v.N q j∧(∀ k,0<=k->k<JX v.N q j->GI (FZ v q j).Items k=GI v.Items (k+AQ v.N q j))∧((∀ x∈v.Items,EC x.Val)->∀ x∈(FZ v q j).Items,EC x.Val):=by have J:=UI (n:=v.N) (k:=q) (i:=j); have D:=UI (n:=v.N) (k:=q) (i:=j+1);have h:=IX (n:=v.N) (k:=q) (show j<=j+1 by omega);have:=zK d J.1 h (D.2 d.n0);unfold FZ JX;grind
theorem At6 {rows cols:Int} {T:List A2} {p q i j:Int} (h:∀ t∈T,EC t.Val):∀ t∈Tb rows cols T p q i j,EC t.Val:=λt d=>by have:=h _ ((AjF t).1 d).1;exact this
theorem At7 {a:Int} {l:List BM} (h:Rise l):Rise (l.map (shS a)):=by unfold Rise at *;grind[shS]
theorem Aq0 {a:Int}:∀ (l:List BM) (i:Int),lk (l.map (shS a)) i=lk l (i - a)
 | [],_=>rfl
 | s :: l,i=>by
  rw[P9,EA,EA,Aq0 l i];unfold shS;simp only;by_cases e:i=s.At+a
  . rw[if_pos e,if_pos (by omega)]
  . rw[if_neg e,if_neg (by omega)]
theorem Aq1 {x:Int}:G2 [] x=false:=by
 by_cases hx:x<0
 . exact XU hx
 . exact TB (by simp; omega)
theorem blk_prop (r rows cols:Int) (T:List A2) (v:Vec) (p q i j:Int):Rise (AeJ r rows cols T v p q i j)∧(AeJ r rows cols T v p q i j).length<=(JX rows p i).toNat∧wR (AeJ r rows cols T v p q i j) ∧
   ∀ x:Int,lk (AeJ r rows cols T v p q i j) x=if 0<=x - AQ rows p i∧x - AQ rows p i<((JX rows p i).toNat:Nat) then L0 r (JX cols q j).toNat (GI (OW (Tb rows cols T p q i j) (x - AQ rows p i))) (GI (FZ v q j).Items) else none:=by
 have h:=UG r (JX cols q j).toNat [] true (λa=>GI (OW (Tb rows cols T p q i j) a)) (GI (FZ v q j).Items) (JX rows p i).toNat;unfold AeJ AvU;refine⟨At7 h.1,by rw[nW]; exact h.2.1,λ_ D=>?_,λx=>?_⟩
 . obtain⟨u,d,rfl⟩:=List.mem_map.1 D;exact h.2.2.1 u d
 . rw[Aq0,h.2.2.2.2];have J:HG [] true (x - AQ rows p i)=true:=by unfold HG; rw[Aq1]; rfl
   grind
theorem zY {rows cols:Int} {T:List A2} (h:Canon rows cols T) {i j a:Int} (hi:0<=i):GI (OW T i) j=some a↔(⟨i,j,a⟩:A2)∈T:=by
 have d:IncI ((Q8 T i.toNat).map sD):=by unfold IncI Q8;rw[nU];refine ArY ?_ (gX _ h.srt);intro a b Z U J;have W:=of_decide_eq_true (List.mem_filter.1 Z).2;have O:=of_decide_eq_true (List.mem_filter.1 U).2;unfold NA key at J;simp only[sD];omega
 unfold OW;rw[sE d,hM];unfold Q8;constructor
 . rintro⟨t,D,V⟩;have⟨W,O⟩:=List.mem_filter.1 D;have h3:=of_decide_eq_true O;unfold sD at V;have⟨_,_,_⟩:=t;grind
 . intro D;exact⟨_,List.mem_filter.2 ⟨D,by simp; omega⟩,rfl⟩
theorem zZ {r rows cols:Int} {T:List A2} {v:Vec} {p q:Nat} (h:Canon rows cols T) (V:VecP v) (W:v.N=cols) (hp:JG p) (J:JG q) {i:Nat} (hi:i<p) {x:Int} (Z:AQ rows p i<=x) (h1:x<AQ rows p ((i:Int)+1)) :
  ∀ n:Nat,n<=q->(ApZ r rows cols T v p q i n).foldl (λO l=>nS r O (lk l x)) none=L0 r (AQ cols q n).toNat (GI (OW T x)) (GI v.Items)
 | 0,_=>by rw[Int.natCast_zero,AeA]; rfl
 | n+1,hnq=>by
  have ih:=zZ (r:=r) h V W hp J hi Z h1 n (by omega);have a3:=QC rows p i;have e:ApZ r rows cols T v p q i (n+1)=ApZ r rows cols T v p q i n++[AeJ r rows cols T v p q i n]:=by unfold ApZ; rw[aF,gW]; rfl
  rw[e,Ag1,ih,aS,Ao5];have hg:XY (p:Int) (q:Int) (i:Int) (n:Int):=⟨⟨hp,J⟩,by omega,by omega⟩;have⟨_,hc⟩:=iO h hg;have a6:JX rows p i=AQ rows p ((i:Int)+1) - AQ rows p i:=by unfold JX; omega
  have a5:JX cols q n=AQ cols q ((n:Int)+1) - AQ cols q n:=by unfold JX; omega
  have a4:=QC cols q n; have a2:=IX (n:=cols) (k:=q) (show(n:Int)<=(n:Int)+1 by omega);rw[(blk_prop r rows cols T v p q i n).2.2.2,if_pos (by omega)]
  have d:(AQ cols q ((n+1:Nat):Int)).toNat=(AQ cols q n).toNat+(JX cols q n).toNat:=by grind
  rw[d,Ae9];congr 1;have U:=mD V J (j:=n) (by omega);rw[W] at U;refine Ah8 (λj hj=>?_) (λj hj=>?_)
  . refine AjS λ_=>?_;have D:(Tb rows cols T p q i n)=WS (AQ rows p i) (AQ rows p ((i:Int)+1)) (AQ cols q n) (AQ cols q ((n:Int)+1)) T:=rfl;rw[D,zY hc (by omega),zY h (by omega),AjF];grind
  grind
theorem Aa0 (u:Vec) (a b:Int):(RR u a b).Items.length<=u.Items.length:=by
 unfold RR;by_cases h:(if u.N<b then u.N else b)<=(if 0 > a then 0 else a)
 . rw[if_pos h]; simp[zV]
 grind
theorem oV (v:Vec) (k i:Int):(FZ v k i).Items.length<=v.Items.length:=by
 unfold FZ; split
 . exact Aa0 _ _ _
 . simp[zV]
theorem Am2 (v:Vec) (n r c i j:Int):(S6 v n r c i j).Items.length<=v.Items.length:=by
 unfold S6; split
 . exact Aa0 _ _ _
 . simp[zV]
def MK (v:Vec) (x y:Int):Vec:=⟨y - x,(v.Items.filter λt=>decide (x<=t.At∧t.At<y)).map λt=>⟨t.At - x,t.Val⟩⟩
theorem At8 {v:Vec} (D:VecP v) {a x y:Int} (J:a<=x) (O:x<=y):(MK v a y).Items=(MK v a x).Items++((MK v x y).Items.map (shI (x - a))):=by
 unfold MK;simp only
 have key:∀ l:List B9,IncI l->l.filter (λt=>decide (a<=t.At∧t.At<y))=l.filter (λt=>decide (a<=t.At∧t.At<x))++l.filter (λt=>decide (x<=t.At∧t.At<y)):=by
  intro l
  induction l with
  | nil=>intro _; rfl
  | cons t l h=>
   intro hi;have d:=List.pairwise_cons.1 hi;have h:=h d.2;by_cases c1:a<=t.At∧t.At<x
   . grind
   . by_cases c2:x<=t.At∧t.At<y
     . have U:l.filter (λt=>decide (a<=t.At∧t.At<x))=[]:=List.filter_eq_nil_iff.2 λ_ _=>by grind
       grind
     grind
 rw[key _ D.inc,gW,Ad2];congr 1;refine AaI λt _=>?_;unfold shI;grind
theorem AeK {v:Vec} (h:VecP v) {u:Nat->Vec} {cl:Nat->Int} (d:∀ i,0<=cl i∧cl i<=v.N) (D:∀ i,cl i<=cl (i+1)):∀ (n i:Nat),(∀ k,k<i+n->FY (u k)=MK v (cl k) (cl (k+1))) ->
  mB ((List.range' i n).map u) (MK v (cl 0) (cl i))=(MK v (cl 0) (cl (i+n)),0)
 | 0,i,_=>rfl
 | n+1,i,hu=>by
  have h1:=hu i (by omega)
  have Z:cl 0<=cl i:=by
   clear hu h1
   induction i with
   | zero=>omega
   | succ i ih=>grind
  have hi:=D i;have V:=d 0; have W:=d (i+1);have:=h.n1;rw[List.range'_succ,P9,mB,h1];have O:(MK v (cl 0) (cl i)).N=cl i - cl 0:=rfl;have J:(MK v (cl i) (cl (i+1))).N=cl (i+1) - cl i:=rfl;rw[if_neg (by rw[O,J]; omega)]
  have U:(⟨(MK v (cl 0) (cl i)).N+(MK v (cl i) (cl (i+1))).N,(MK v (cl 0) (cl i)).Items++(MK v (cl i) (cl (i+1))).Items.map (shI (MK v (cl 0) (cl i)).N)⟩:Vec)=MK v (cl 0) (cl (i+1)):=by grind[At8,MK]
  rw[U,AeK h d D n (i+1) (λk _=>hu k (by omega)),show i+1+n=i+(n+1) by omega]
theorem mF (v:Vec) (x:Int):MK v x x=zV:=by unfold MK zV;simp_all
theorem AeL {v:Vec} (D:VecP v) {a b:Int} (J:0<=a) (h:a<=b) (d:b<=v.N):RR v a b=MK v a b:=AbI D J h d
theorem Ak4 {v:Vec} (D:VecP v) {a b:Int} (J:0<=a) (h:a<=b) (d:b<=v.N):VecP (MK v a b):=by rw[<-AeL D J h d]; exact(zK D J h d).1
theorem oW {v:Vec} (d:VecP v) {k i:Int} (hk:JG k) (hi:0<=i∧i<k):FZ v k i=MK v (AQ v.N k i) (AQ v.N k (i+1)):=by have J:=UI (n:=v.N) (k:=k) (i:=i); have D:=UI (n:=v.N) (k:=k) (i:=i+1); have h:=IX (n:=v.N) (k:=k) (show i<=i+1 by omega);unfold FZ;rw[if_pos ⟨hk,hi⟩,AeL d J.1 h (D.2 d.n0)]
theorem Am3 {v:Vec} (h:VecP v) {lo hi a b:Int} (J:0<=lo) (O:lo<=a) (U:a<=b) (V:b<=hi) (D:hi<=v.N):RR (MK v lo hi) (a - lo) (b - lo)=MK v a b:=by
 have d:(MK v lo hi).N=hi - lo:=rfl;rw[AbI (Ak4 h J (by omega) D) (by omega) (by omega) (by rw[d]; omega)];unfold MK;simp only;rw[Ao2,Ad2,List.filter_filter,show b - lo - (a - lo)=b - a by omega];congr 1
 have e:v.Items.filter (λt=>((λx:B9=>decide (a - lo<=x.At∧x.At<b - lo))∘λt:B9=>(⟨t.At - lo,t.Val⟩:B9)) t && decide (lo<=t.At∧t.At<hi))=v.Items.filter λt=>decide (a<=t.At∧t.At<b):=by grind
 rw[e];refine AaI λt _=>?_;grind
def aJ (c d x:Int):Int:=if x<c then c else if d<x then d else x
theorem sG {c d x y:Int} (h:c<=d) (D:x<=y):aJ c d x<=aJ c d y:=by grind[aJ]
theorem oX {v:Vec} (D:VecP v) {p q i j:Int} (h:XY p q i j):S6 (FZ v p i) v.N p q i j=MK v (aJ (AQ v.N q j) (AQ v.N q (j+1)) (AQ v.N p i)) (aJ (AQ v.N q j) (AQ v.N q (j+1)) (AQ v.N p (i+1))) ∧
  iP v.N p q i j - XZ v.N p q i j=aJ (AQ v.N q j) (AQ v.N q (j+1)) (AQ v.N p (i+1)) - aJ (AQ v.N q j) (AQ v.N q (j+1)) (AQ v.N p i):=by
 have J:=mD D h.1.1 h.2.1;have Z:=D.n0; have a7:=D.n1;unfold S6;rw[if_pos ⟨⟨Z,a7⟩,h,J.1,J.2.1⟩,oW D h.1.1 h.2.1];unfold iP XZ mx mn;have a0:=UI (n:=v.N) (k:=p) (i:=i); have a1:=UI (n:=v.N) (k:=p) (i:=i+1); have a2:=IX (n:=v.N) (k:=p) (show i<=i+1 by omega);have b0:=UI (n:=v.N) (k:=q) (i:=j); have b1:=UI (n:=v.N) (k:=q) (i:=j+1); have b2:=IX (n:=v.N) (k:=q) (show j<=j+1 by omega);have a3:=a1.2 Z; have a9:=b1.2 Z; have O:=a0.1; have a8:=b0.1;generalize AQ v.N p i=lo at *;generalize AQ v.N p (i+1)=hi at *;generalize AQ v.N q j=c at *;generalize AQ v.N q (j+1)=d at *
 have key:∀ A B:Int,A=(if c > lo then c else lo)->B=(if (if d<hi then d else hi) > A then (if d<hi then d else hi) else A)->RR (MK v lo hi) (A - lo) (B - lo)=MK v (aJ c d lo) (aJ c d hi)∧B - A=aJ c d hi - aJ c d lo:=by
  intro A B hA hB;by_cases h1:A<=hi
  . have a5:lo<=A:=by omega
    have a4:A<=B:=by omega
    have a6:B<=hi:=by omega
    rw[Am3 D O a5 a4 a6 a3];by_cases h2:A<=d
    . grind[aJ]
    . have e0:A=lo:=by omega
      have W:B=A:=by omega
      have V:aJ c d lo=d:=by grind[aJ]
      have U:aJ c d hi=d:=by grind[aJ]
      rw[V,U,W,mF,mF]; grind
  . have e0:A=c:=by omega
    have W:B=A:=by omega
    have V:aJ c d lo=c:=by grind[aJ]
    have U:aJ c d hi=c:=by grind[aJ]
    have hz:RR (MK v lo hi) (A - lo) (B - lo)=zV:=by have hN:(MK v lo hi).N=hi - lo:=rfl;unfold RR;grind
    rw[hz,V,U,W,mF]; grind
 grind
theorem Aa1 {v:Vec} (h:VecP v) {k:Nat} {n:Int} (U:∀ j (d:j<v.Items.length),j<k->v.Items[j].At<n) (V:∀ j (d:j<v.Items.length),k<=j->n<=v.Items[j].At) :
   lS (OV v).Has n=if hk:k<v.Items.length then v.Items[k].At else -1:=by
 split
 . rename_i hk;refine uK ?_ (V k hk (YG _)) λq O _=>?_
   . rw[lO h,W8 h.inc (TF hk)]; rfl
   . rw[lO h,RQ]
     . rfl
     . intro s D e;obtain⟨j,d,rfl⟩:=List.mem_iff_getElem.1 D;rcases aG j k with g | g
       . grind
       . rcases aG k j with J | J
         . have:=h.inc.at d J; omega
         grind
 . rename_i hk;refine uL λq O=>?_;rw[lO h,RQ]
   . rfl
   . intro s D e;obtain⟨j,d,rfl⟩:=List.mem_iff_getElem.1 D;grind
theorem xF {v:Vec} {Q:Vec->Prop} (h:VecP v) (hQ:Q v):YP (OV v) Q:=by
 unfold YP iJ WQ S0;have a4:=h.len; have h0:=h.n0; have h1:=h.n1;have Z:(OV v).Has.length<=1000000:=by have:=AjO v; omega
 have a5:((OV v).Vals.length:Int)=v.N:=by simp[OV,XV]; omega
 refine bY h (B2 rfl (WU (lP v) Z ?_));rw[Aa1 h (k:=0) (λj J h=>by omega) (λj J _=>(h.ins _ (TF J)).1)];refine BV (λs:Int×List B9×Int×Nat=>∃ k:Nat,k<=v.Items.length∧s.1=v.N∧s.2.1=v.Items.take k∧s.2.2.2=0∧s.2.2.1=if hk:k<v.Items.length then v.Items[k].At else -1) (λs=>v.Items.length - s.2.1.length) ⟨0,by omega,rfl,by simp,rfl,rfl⟩ ?_;rintro⟨_,s2,V,_⟩ next ⟨k,hk,O,W,U,d⟩ hn;simp only at O W U d ⊢;subst O; subst U;have a3:s2.length=k:=by grind
 by_cases hkl:k<v.Items.length
 . rw[dif_pos hkl] at d;have a6:=h.ins _ (TF hkl)
   have D:AY (OV v).Vals V=v.Items[k].Val:=by have:AY (OV v).Vals V=(GI v.Items V).getD 0:=oR (by omega) (by omega);rw[this,d,W8 h.inc (TF hkl)]; rfl
   refine A0 (λ_=>AX (by omega) (by omega) ⟨rfl,AL (by simp; omega) ?_⟩) (λh'=>by omega);refine A8 rfl (WU (lP v) Z ?_);rw[A6 (by omega) (by omega),Aa1 h (k:=k+1) (λj J a2=>?_) (λj J a2=>?_),D]
   . refine hn _ ⟨k+1,by omega,rfl,?_,rfl,rfl⟩ (by simp only[fC,AfX,a3]; omega);simp only;rw[eZ hkl,W,d]
   . rw[d];by_cases e:j=k
     . subst e; omega
     . have:=h.inc.at hkl (i:=j) (by omega); omega
   . rw[d];have:=h.inc.at J (i:=k) (by omega); omega
 . rw[dif_neg hkl] at d;refine A0 (λh'=>by omega) (λ_=>⟨rfl,?_⟩);rw[AnF (by omega)] at W;simp_all
def AvV (w a b:Int):Int:=if w=1 then 1 else if w=2 then 2 else if A4 (b.tdiv 4)<a then 2 else 1
def iQ (f a b:Int):Int:=if f=1 then 1 else if f=2 then 2 else if A4 (b.tdiv 8)<a then 2 else 1
theorem AvW {w a b:Int} {Q:Int->Prop} (d:Q (AvV w a b)):LZ w a b Q:=by
 unfold LZ; unfold AvV at d;refine B5 (λh=>?_) (λh=>B5 (λJ=>?_) (λJ=>A0 (λD=>?_) (λD=>?_)))
 all_goals grind
theorem Aq2 {w a b:Int} {Q:Int->Prop} (d:Q (iQ w a b)):SS w a b Q:=by
 unfold SS; unfold iQ at d;refine B5 (λh=>?_) (λh=>B5 (λJ=>?_) (λJ=>A0 (λD=>?_) (λD=>?_)))
 all_goals grind
theorem Aq3 (f a b:Int):iQ f a b=1∨iQ f a b=2:=by grind[iQ]
def Aa2 (s:Int) (u:Vec):iF:=if s=2 then ⟨2,zV,OV u⟩ else ⟨1,u,⟨0,[],[]⟩⟩
def Ak5 (f:Int) (v:Vec):iF:=Aa2 (iQ f (FY v).Items.length (FY v).N) (FY v)
theorem cE {l:List B9} {Q:List B9->Prop} (h:l.length<=1000000) (d:Q l):B3 l Q:=by unfold B3;refine L7 (λe=>by subst e; exact d) (AL (by simp; omega) ?_);exact d
theorem At9 {f:Int} {v:Vec} {Q:iF->Prop} (O:v.Items.length<=1000000000) (d:Q (Ak5 f v)):VS f v Q:=by
 unfold VS;have J:=RO v;unfold Ak5 Aa2 at d;refine CE (λt=>(⟨t.1,t.2⟩:Vec)=FY v) ?_ ?_
 . rintro⟨_,_⟩ ht;simp only at ht ⊢;rw[<-ht] at d J;have D:=J.len;simp only at D d;refine Aq2 (B5 (λh=>?_) (λh=>?_))
   . rw[if_pos h] at d;refine qK (by simp only; omega) ?_;rw[IW J]; exact d
   grind[Aq3,cE]
 . intro k hk;refine F4 O (CB (λh=>hk _ ?_) (λh=>hk _ ?_))
   . rw[FY,if_neg (of_decide_eq_false h)]; rfl
   . rw[FY,if_pos (of_decide_eq_true h)]
theorem AhF {s:Int} {u:Vec} {Q:Vec->Prop} (d:VecP u) (h:Q u):PQ (Aa2 s u) Q:=by
 unfold PQ Aa2;have D:=d.len;split
 . exact B2 rfl (xF d h)
 . refine A8 rfl (CE (λb=>b=true) (λb J=>B2 J (cE (by simp only; omega) h)) λ_ hk=>B2 rfl (F4 (by simp only; omega) (hk _ (decide_eq_true d))))
theorem Aq4 {s:Int} {u:Vec} {Q:Dense->Prop} (d:VecP u) (h:Q (OV u)):SV (Aa2 s u) Q:=by unfold SV;refine AhF d (qK (by have:=d.len; omega) ?_);rw[IW d]; exact h
def Aq5 (r w:Int) (s:List BM×Int) (d:Int):List BM×Int×Int:=if s.2≠0 then ([],0,s.2) else (s.1,d,0)
theorem Aq6 {t:GX} {rows cols:Int} {ts:List A2} {s:Int} {u:Vec} {Q:List BM×Int×Int->Prop} (J:Canon rows cols ts) (V:∀ x∈ts,EC x.Val) (hR:t.Rows=BW rows cols ts) (h:t.Cols=UB rows cols (NV cols ts)) (hX:t.X=Aa2 s u) (d:VecP u) (U:∀ x∈u.Items,EC x.Val) (W:qH t.Set)
   (Z:Q (Aq5 t.Ring t.Way (lR t.Ring rows cols ts u t.Set t.Others) (AvV t.Way (SD (NV cols ts) (W7 u)) ts.length))):VZ t Q:=by
 have⟨_,_,_,_,_,_,_⟩:=t;simp only at hR h hX W Z;subst hR; subst h; subst hX;unfold VZ LC LD;have D:=Z0 J;have a4:=AgU J V;have O:u.Items.length<=1000000000:=by have:=d.len; omega
 simp only;refine AhF d (AbF D.smlC O (oM D) D (Ab0 J.sml (Q9 J) (AvW ?_)));unfold Aq5 at Z;refine B5 (λa3=>Aq4 d (AbH J V d U W ?_)) (λa3=>AhF d (AbC D.smlC (oM D) D a4 O (by rw[IW d]; exact U) W ?_))
 . refine BT (λa2=>?_) (λhe=>?_)
   all_goals grind
 . rw[IW d,<-AlR D,AlH J];refine BT (λa2=>?_) (λhe=>?_)
   all_goals grind
def Am4 (l:List Int):Prop:=∃ d∈l,d<0∨2147483647<d
instance (l:List Int):Decidable (Am4 l):=by unfold Am4; infer_instance
def CD (p:Plan):Int:=
 if p.Kind<1∨5<p.Kind then 8
 else if p.N<0∨4096<p.N∨((p.Kind=1∨p.Kind=2∨p.Kind=4)∧(p.Source<0∨p.N<=p.Source))∨(p.Kind=4∧(p.Length<0∨8192<p.Length)) then 3
 else if 65536<p.Draws.length then 5
 else if Am4 p.Draws then 7 else 0
theorem BO {p:Plan} (h:CD p=0):(1<=p.Kind∧p.Kind<=5)∧(0<=p.N∧p.N<=4096)∧((p.Kind=1∨p.Kind=2∨p.Kind=4)->0<=p.Source∧p.Source<p.N)∧(p.Kind=4->0<=p.Length∧p.Length<=8192)∧p.Draws.length<=65536∧∀ d∈p.Draws,0<=d∧d<=2147483647:=by
 unfold CD at h;split at h
 . cases h
 split at h
 . cases h
 split at h
 . cases h
 split at h
 . cases h
 rename_i U V W O;refine⟨by omega,by omega,by omega,by omega,by omega,λd D=>?_⟩;have:¬(d<0∨2147483647<d):=λJ=>O ⟨d,D,J⟩;omega
theorem AbT {l:List Int} {Q:Bool->Prop} (hl:l.length<=65536) (U:Q (decide (Am4 l))):BG l Q:=by
 unfold BG EY PD;refine D7 l.length (by omega) (λi=>∀ (j:Nat) (D:j<l.length),j<i->¬(l[j]<0∨2147483647<l[j])) (by simp) (λi next hi O Z=>?_) (λnext O=>?_)
 . refine A0 (λ_=>?_) (λh=>by omega)
   have hbad (J:l[i]<0∨2147483647<l[i]):Q (decide (0<=(i:Int))):=by rwa [decide_eq_true (show Am4 l from⟨_,TF hi,J⟩),<-decide_eq_true (show(0:Int)<=i by omega)] at U
   refine AW hi (A0 (λW=>B2 rfl (hbad (.inl W))) (λW=>A0 (λV=>hbad (.inr V)) (λV=>Z λj D _=>?_)));grind
 . refine A0 (λh=>by omega) (λ_=>?_)
   rwa [decide_eq_false (λ⟨_,d,J⟩=>by obtain⟨j,D,rfl⟩:=WK d;exact O j D D J),<-decide_eq_false (show ¬(0:Int) <= -1 by omega)] at U
theorem WW {p:Plan} {Q:Int->Prop} (D:Q (CD p)):PE p Q:=by
 unfold PE JD EP;unfold CD at D;refine A0 (λZ=>by rwa [if_pos (by omega)] at D) (λZ=>A0 (λh2=>by rwa [if_pos (by omega)] at D) (λh2=>?_));rw[if_neg (by omega)] at D;have hE (V:p.N<0∨4096<p.N∨((p.Kind=1∨p.Kind=2∨p.Kind=4)∧(p.Source<0∨p.N<=p.Source))∨(p.Kind=4∧(p.Length<0∨8192<p.Length))):Q 3:=by rwa [if_pos V] at D
 refine A0 (λh3=>CB (λU=>hE (by have:=of_decide_eq_false U; omega)) (λU=>?_)) (λh3=>B2 rfl (hE (by omega)))
 replace U:=of_decide_eq_true U
 have hw:A4 (p.N - 1)=p.N - 1:=A6 (by omega) (by omega)
 have hk (V:¬(p.N<0∨4096<p.N∨((p.Kind=1∨p.Kind=2∨p.Kind=4)∧(p.Source<0∨p.N<=p.Source))∨(p.Kind=4∧(p.Length<0∨8192<p.Length)))) :
   A5 (decide (65536<(p.Draws.length:Int))) (Q 5) (BG p.Draws λd=>A5 d (Q 7) (Q 0)):=by
  rw[if_neg V] at D;refine A0 (λh=>by rwa [if_pos (by omega)] at D) (λh=>?_);rw[if_neg (by omega)] at D;exact AbT (by omega) (A0 (λh=>by rwa [if_pos h] at D) (λh=>by rwa [if_neg h] at D))
 have hs (a2:p.Kind=1∨p.Kind=2∨p.Kind=4) (a3:p.Kind=4->0<=p.Length∧p.Length<=8192) :
   A5 (decide (0<=p.Source)) (A5 (!decide (p.Source<=A4 (p.N - 1))) (Q 3) (A5 (decide (65536<(p.Draws.length:Int))) (Q 5) (BG p.Draws λd=>A5 d (Q 7) (Q 0))))
    (A5 (!false) (Q 3) (A5 (decide (65536<(p.Draws.length:Int))) (Q 5) (BG p.Draws λd=>A5 d (Q 7) (Q 0)))):=by
  refine A0 (λW=>CB (λJ=>hE (by have:=of_decide_eq_false J; omega)) (λJ=>hk (by have:=of_decide_eq_true J; omega))) (λW=>B2 rfl (hE (by omega)))
 refine B5 (λW=>A0 (λJ=>CB (λO=>hE (by have:=of_decide_eq_false O; omega)) (λO=>hs (by omega) (λ_=>⟨J,of_decide_eq_true O⟩))) (λJ=>B2 rfl (hE (by omega)))) (λW=>?_);exact B5 (λJ=>hs (by omega) (by omega)) (λJ=>B5 (λO=>hs (by omega) (by omega)) (λO=>hk (by omega)))
theorem AbU (a:Int):TI .i64 a 1=a % 2:=by
 have h:(BitVec.ofInt 64 a &&& BitVec.ofInt 64 1).toNat=(a % 2).toNat:=by rw[BitVec.toNat_and,BitVec.toNat_ofInt,BitVec.toNat_ofInt];grind
 unfold TI;rw[show IntKind.i64.bits=64 from rfl,h];have d:0<=a % 2:=by omega
 have D:a % 2<2:=by omega
 rw[show((a % 2).toNat:Int)=a % 2 by omega];exact A6 (by omega) (by omega)
def BX (k:Int) (r:Int):Int:=if k=1∨k=3 then 4 else if k=2 then 1 else if k=4 then 5 else if k=5 then (if r % 2=0 then 2 else 4) else 0
theorem Z7 {k r:Int} {Q:Int->Prop} (d:Q (BX k r)):T9 k r Q:=by
 unfold T9;rw[AbU];unfold BX at d;refine B5 (λh=>by subst h; exact d) (λ_=>B5 (λh=>by subst h; exact d) (λ_=>B5 (λh=>?_) (λ_=>B5 (λh=>by subst h; exact d) (λ_=>B5 (λh=>by subst h; exact d) (λ_=>?_)))))
 . subst h;refine B5 (λh=>?_) (λh=>?_)
   all_goals grind
 all_goals grind
theorem Ak6 {x v:Int} (D:0<=x) (J:x<=2147483647) (O:0<=v) (U:v<4096):bor .i64 (shl .i64 x 12) v=x*4096+v:=by
 have d:shl .i64 x 12=x*4096:=by unfold shl;rw[show((2:Int) ^ (min (Int.toNat 12) IntKind.i64.bits))=4096 from by decide];exact A6 (by omega) (by omega)
 obtain⟨a,rfl⟩:∃ a:Nat,x=(a:Int):=⟨x.toNat,by omega⟩;obtain⟨b,rfl⟩:∃ b:Nat,v=(b:Int):=⟨v.toNat,by omega⟩;rw[d];unfold bor
 have h:(BitVec.ofInt 64 ((a:Int)*4096) ||| BitVec.ofInt 64 (b:Int)).toNat=a*4096+b:=by
  rw[BitVec.toNat_or,BitVec.toNat_ofInt,BitVec.toNat_ofInt];have hp:((2 ^ 64:Nat):Int)=18446744073709551616:=by decide
  rw[hp,show(((a:Int)*4096) % 18446744073709551616).toNat=2 ^ 12*a by omega,show(((b:Int)) % 18446744073709551616).toNat=b by omega];rw[<-Nat.two_pow_add_eq_or_of_lt (by omega:b<2 ^ 12)];omega
 rw[show IntKind.i64.bits=64 from rfl,h];rw[show((a*4096+b:Nat):Int)=(a:Int)*4096+b by omega];exact A6 (by omega) (by omega)
def dv (l:List Int) (i:Int):Int:=if l=[] then 0 else AY l (i % l.length)
theorem Aq7 {l:List Int} (h:∀ d∈l,0<=d∧d<=2147483647) (i:Int):0<=dv l i∧dv l i<=2147483647:=by
 unfold dv;split
 . omega
 . rename_i D;have J:0<l.length:=List.length_pos_iff.2 D;exact h _ (rX (by exact AiJ _ (by omega)) (AiD _ (by omega)))
def Am5 (p:Plan) (d v:Int):Int:=if 0<=d∧d<=8192∧0<=v∧v<p.N then dv p.Draws (d*p.N+v)*4096+v else 0
theorem AvX {d n:Int} (J:0<=d) (D:d<=8192) (h:0<=n) (O:n<=4096):0<=d*n∧d*n<=33554432:=by refine⟨AiO J h,?_⟩;have:=AiN D O h (by omega:(0:Int)<=8192);omega
theorem AvY {l:List Int} {i:Int} {K:Int->Prop} (d:0<=i) (h:0<l.length) (hk:K (dv l i)):nzP (l.length:Int) (AR l (i.tmod (l.length:Int)) K):=by refine⟨by omega,?_⟩;rw[ArV d];refine AX (AiJ _ (by omega)) (AiD _ (by omega)) ?_;grind[dv]
theorem cF {p:Plan} {d v:Int} {Q:Int->Prop} (O:0<=p.N∧p.N<=4096) (hd:∀ d∈p.Draws,0<=d∧d<=2147483647) (h:Q (Am5 p d v)):JE p d v Q:=by
 unfold JE JD;unfold Am5 at h;have W:A4 (p.N - 1)=p.N - 1:=A6 (by omega) (by omega);rw[W];refine A0 (λV=>CB (λD=>?_) (λD=>?_)) (λV=>B2 rfl (by rwa [if_neg (by omega)] at h))
 . grind
 replace D:=of_decide_eq_true D
 refine A0 (λU=>CB (λJ=>?_) (λJ=>?_)) (λU=>B2 rfl (by rwa [if_neg (by omega)] at h))
 . grind
 replace J:=of_decide_eq_true J
 rw[if_pos (by omega)] at h;have hm:=AvX V D O.1 O.2;refine A0 (λZ=>?_) (λZ=>?_)
 . rw[A6 (x:=d*p.N) (by omega) (by omega),A6 (x:=d*p.N+v) (by omega) (by omega)];grind[AvY,Aq7,Ak6]
 . rw[Ak6 (by omega) (by omega) U (by omega)];have:p.Draws=[]:=ArT (by omega);grind[dv]
end Go.Proofs.YtieniichmjgmcaaGreat
