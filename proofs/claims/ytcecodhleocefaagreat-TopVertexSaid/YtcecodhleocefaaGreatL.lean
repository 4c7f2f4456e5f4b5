import Derived.Test.YtcecodhleocefaaGreatT
set_option linter.unusedVariables false
set_option linter.unusedSimpArgs false
namespace Go.Proofs.YtcecodhleocefaaGreat
open Go Go.Fw
section
variable {α:Type}
def QX (x y:Int):Int:=if x<y then -1 else if y<x then 1 else 0
theorem GJ {x y:Int} {Q:Int->Prop} (h:Q (QX x y)):CY x y Q:=by
 unfold CY I8;unfold QX at h;refine AH (by simp) (AH (by simp) (A2 (λd=>?_) (λd=>A2 (λD=>?_) (λD=>?_))))
 all_goals grind
theorem mM {x y:Int} {Q:Int->Prop} (h:Q (QX x y)):HT x y Q:=by
 unfold HT NR;unfold QX at h;refine AH (by simp) (AH (by simp) (A2 (λd=>?_) (λd=>A2 (λD=>?_) (λD=>?_))))
 all_goals grind
theorem yU {x y:Int} {Q:Int->Prop} (h:Q (QX x y)):JY x y Q:=by
 unfold JY MK;unfold QX at h;refine AH (by simp) (AH (by simp) (A2 (λd=>?_) (λd=>A2 (λD=>?_) (λD=>?_))))
 all_goals grind
def or2 (x y:Int):Int:=if x=0 then y else x
theorem AaH {x y:Int} {Q:Int->Prop} (h:Q (or2 x y)):JX [x,y] Q:=by
 unfold JX;unfold or2 at h;refine CR 2 (by omega) (λi=>(0<i->x=0)∧(1<i->y=0)) ⟨by omega,by omega⟩ (λi next hi d D=>?_) (λnext d=>?_)
 . refine A2 (λ_=>?_) (λh=>by simp at h; omega)
   match i,hi with
   | 0,_=>exact AP (by omega) (x:=x) rfl (BO (λe=>by rwa [if_neg e] at h) (λe=>D ⟨λ_=>e,by omega⟩))
   | 1,_=>exact AP (by omega) (x:=y) rfl (BO (λe=>by rwa [if_pos (d.1 (by omega))] at h) (λe=>D ⟨λ_=>d.1 (by omega),λ_=>e⟩))
 . refine A2 (λh=>by simp at h) (λ_=>?_);grind
def PZ (a:AQ):Prop:=-9223372036854775808<=a.Hi∧a.Hi<=9223372036854775807∧0<=a.Lo∧a.Lo<=18446744073709551615
def EA (x:Int):Prop:=-9223372036854775808<=x∧x<=9223372036854775807
def sX (a b:AQ):Prop:=a.Hi<b.Hi∨(a.Hi=b.Hi∧a.Lo<=b.Lo)
instance (a b:AQ):Decidable (sX a b):=by unfold sX; infer_instance
theorem ZN (x:Int):IntKind.wrap .u64 x=x % 18446744073709551616:=by simp[IntKind.wrap,IntKind.bits,IntKind.signed]
theorem M4 (x:Int):AJ x=(x+9223372036854775808) % 18446744073709551616 - 9223372036854775808:=by show IntKind.wrap .i64 x=_;rw[IntKind.wrap_i64]
def cT (v:Int):AQ:=⟨if v<0 then -1 else 0,v % 18446744073709551616⟩
theorem AkB {v:Int} (h:EA v):PZ (cT v):=by grind[cT,PZ,EA]
theorem AxU {v:Int} (h:EA v):shr .i64 v 63=if v<0 then -1 else 0:=by unfold EA at h;show v.fdiv (2 ^ 63)=_;grind
theorem M5 {v:Int} {Q:AQ->Prop} (h:EA v) (d:Q (cT v)):OZ v Q:=by unfold OZ; rw[AxU h,ZN]; exact d
theorem Af1 {a b:AQ} {Q:Int->Prop} (d:Q (or2 (QX a.Hi b.Hi) (QX a.Lo b.Lo))):T9 a b Q:=by unfold T9;exact mM (yU (AaH d))
theorem AaI {a b:AQ} {Q:AQ->Prop} (d:Q (if sX a b then a else b)):RZ a b Q:=by
 unfold RZ;refine Af1 (A2 (λh=>?_) (λh=>?_))
 all_goals grind[sX,or2,QX]
theorem SB {a b:AQ} (d:a.Hi=b.Hi) (h:a.Lo=b.Lo):a=b:=by cases a; cases b; simp_all
def KJ (r:Int) (a b:AQ):AQ:=
 if r=1∨r=3∨r=4 then (if sX a b then a else b)
 else if r=2 then (if a=⟨0,0⟩∧b=⟨0,0⟩ then ⟨0,0⟩ else ⟨0,1⟩)
 else if r=5 then ⟨AJ (a.Hi+b.Hi+(if 18446744073709551616<=a.Lo+b.Lo then 1 else 0)),(a.Lo+b.Lo) % 18446744073709551616⟩
 else ⟨0,0⟩
theorem Y7 {r:Int} {a b:AQ} (d:PZ a) (h:PZ b):PZ (KJ r a b):=by grind[KJ,PZ,M4]
theorem mN {b:Bool} {Q:AQ->Prop} (d:Q (if b then ⟨0,1⟩ else ⟨0,0⟩)):NY b Q:=by
 unfold NY;refine⟨λh=>M5 (by unfold EA; omega) ?_,λh=>?_⟩
 . subst h; exact d
 . subst h; exact d
theorem rQ {a b:AQ} {Q:AQ->Prop} (D:PZ a) (J:PZ b) (d:Q (KJ 5 a b)):cM a b Q:=by
 unfold cM U6;have e:KJ 5 a b=⟨AJ (a.Hi+b.Hi+(if 18446744073709551616<=a.Lo+b.Lo then 1 else 0)),(a.Lo+b.Lo) % 18446744073709551616⟩:=rfl;rw[e] at d;unfold PZ at D J;simp only[ZN,M4] at d ⊢;refine A2 (λh=>?_) (λh=>?_)
 all_goals grind
theorem WJ {r:Int} {a b:AQ} {Q:AQ->Prop} (U:PZ a) (V:PZ b) (d:Q (KJ r a b)):S0 r a b Q:=by
 unfold S0;refine CA (λt=>t=decide (r=1∨r=3∨r=4)) (λt Z=>?_) λ_ hk=>?_
 . subst Z;refine A2 (λh=>AaI ?_) (λh=>AY (λJ=>?_) (λJ=>AY (λD=>rQ U V ?_) (λD=>?_)))
   . grind[KJ]
   . subst J;unfold KJ at d;rw[if_neg h,if_pos rfl] at d;refine BW (λ_=>mN ?_) (λ_=>mN ?_)
     all_goals grind
   . subst D; exact d
   . unfold KJ at d; rwa [if_neg h,if_neg J,if_neg D] at d
 . refine AY (λh=>hk _ ?_) (λh=>AY (λW=>hk _ ?_) (λW=>hk _ ?_))
   all_goals grind
def HL (a:AQ):Int×Bool:=if (a.Hi=0∧a.Lo<=9223372036854775807)∨(a.Hi = -1∧9223372036854775808<=a.Lo) then (AJ a.Lo,true) else (0,false)
theorem pZ {r:Int} {a:AQ} {Q:Int×Bool->Prop} (D:PZ a) (d:Q (HL a)):S1 r a Q:=by
 unfold S1 W7;unfold PZ at D;unfold HL at d;refine M5 (by unfold EA; rw[M4]; omega) (BW (λh=>?_) (λh=>?_))
 . rw[if_neg] at d
   . exact d
   . intro J;simp only[beq_eq_false_iff_ne,ne_eq] at h;apply h;apply SB <;> simp only[cT,M4] <;> (try split) <;> omega
 all_goals grind[cT,M4]
theorem QY {r:Int} {Q:Bool->Prop} (d:Q (decide (1<=r∧r<=5))):T8 r Q:=by
 unfold T8;refine A2 (λh=>?_) (λh=>?_)
 all_goals grind
open Go Go.Fw Go.Sort Go.Shelf
abbrev HM:=Int×Int
def KY (a b:HM):Prop:=a.1<b.1∨(a.1=b.1∧a.2<b.2)
instance (a b:HM):Decidable (KY a b):=by unfold KY; infer_instance
theorem fU {a b c:HM} (d:KY a b) (h:KY b c):KY a c:=by unfold KY at *; omega
theorem HE (a:HM):¬KY a a:=by unfold KY; omega
theorem AkC {a b:HM} (d:¬KY a b) (h:a≠b):KY b a:=by grind[KY]
def ins (r:Int) (k:HM) (v:AQ):List (HM×AQ)->List (HM×AQ)
 | []=>[(k,v)]
 | p :: l=>if KY p.1 k then p :: ins r k v l else if p.1=k then (k,KJ r p.2 v) :: l else (k,v) :: p :: l
def SC (r:Int) (ts:List (HM×Int)):List (HM×AQ):=ts.foldl (λl t=>ins r t.1 (cT t.2) l) []
theorem AkD (r:Int) (ts:List (HM×Int)) (t:HM×Int):SC r (ts++[t])=ins r t.1 (cT t.2) (SC r ts):=by simp[SC]
def srt (l:List (HM×AQ)):Prop:=l.Pairwise λa b=>KY a.1 b.1
theorem vG {r:Int} {k:HM} {v:AQ}:∀ {l:List (HM×AQ)} {p:HM×AQ},p∈ins r k v l->p.1=k∨∃ q∈l,q.1=p.1
 | [],p,h=>by simp[ins] at h; simp[h]
 | q :: l,p,h=>by
  unfold ins at h;split at h
  . rcases List.mem_cons.1 h with rfl | h
    . exact .inr ⟨p,by simp,rfl⟩
    . rcases vG h with h | ⟨x,hx,e⟩
      . exact .inl h
      . exact .inr ⟨x,by simp[hx],e⟩
  . split at h
    . rcases List.mem_cons.1 h with rfl | h
      . exact .inl rfl
      . exact .inr ⟨p,by simp[h],rfl⟩
    . rcases List.mem_cons.1 h with rfl | h
      . exact .inl rfl
      . exact .inr ⟨p,h,rfl⟩
theorem tW {r:Int} {k:HM} {v:AQ}:∀ {l:List (HM×AQ)},srt l->srt (ins r k v l)
 | [],_=>by simp[ins,srt]
 | p :: l,h=>by
  unfold srt at h;rw[Ae8] at h;unfold ins;split
  . rename_i hk;refine List.pairwise_cons.2 ⟨λq d=>?_,tW h.2⟩;rcases vG d with e | ⟨x,hx,e⟩
    . rw[e]; exact hk
    . rw[<-e]; exact h.1 x hx
  . rename_i hk;split
    . rename_i e;subst e;exact List.pairwise_cons.2 ⟨λq d=>h.1 q d,h.2⟩
    . rename_i e;have:=AkC hk e
      exact List.pairwise_cons.2 ⟨λq d=>by
       rcases List.mem_cons.1 d with rfl | d
       . exact this
       . exact fU this (h.1 q d),List.pairwise_cons.2 h⟩
theorem jU (r:Int) (ts:List (HM×Int)):srt (SC r ts):=by
 unfold SC
 suffices ∀ (ts:List (HM×Int)) (l:List (HM×AQ)),srt l->srt (ts.foldl (λl t=>ins r t.1 (cT t.2) l) l) from this ts [] .nil
 intro ts
 induction ts with
 | nil=>intro l h; exact h
 | cons t ts d=>grind[tW]
theorem cU {l:List (HM×AQ)} (h:srt l):EY l:=by unfold EY;rw[AoI,X3];exact uO (R:=λa b:HM×AQ=>KY a.1 b.1) (λ{a b} d (e:a.1=b.1)=>HE b.1 (by rw[e] at d; exact d)) h
theorem AkE (r:Int) (k:HM) (v:AQ):∀ l:List (HM×AQ),(ins r k v l).length<=l.length+1
 | []=>by simp[ins]
 | p :: l=>by unfold ins;have:=AkE r k v l;grind
theorem AkF {r:Int} {k:HM} {v:AQ} (d:PZ v):∀ {l:List (HM×AQ)},(∀ p∈l,PZ p.2)->∀ p∈ins r k v l,PZ p.2
 | [],_,p,h=>by simp[ins] at h; rw[h]; exact d
 | q :: l,hl,p,h=>by
  unfold ins at h;split at h
  . rcases List.mem_cons.1 h with rfl | h
    . exact hl _ (by simp)
    . exact AkF d (λx D=>hl x (by simp[D])) p h
  . split at h
    . rcases List.mem_cons.1 h with rfl | h
      . exact Y7 (hl q (by simp)) d
      . exact hl p (by simp[h])
    . rcases List.mem_cons.1 h with rfl | h
      . exact d
      . exact hl p h
theorem tX (r:Int):∀ (ts:List (HM×Int)),(∀ t∈ts,EA t.2)->(SC r ts).length<=ts.length∧∀ p∈SC r ts,PZ p.2:=by
 suffices ∀ (ts:List (HM×Int)) (l:List (HM×AQ)),(∀ t∈ts,EA t.2)->(∀ p∈l,PZ p.2)->(ts.foldl (λl t=>ins r t.1 (cT t.2) l) l).length<=l.length+ts.length∧∀ p∈ts.foldl (λl t=>ins r t.1 (cT t.2) l) l,PZ p.2 from
  λts h=>by simpa[SC] using this ts [] h (by simp)
 intro ts
 induction ts with
 | nil=>grind
 | cons t ts J=>
  intro l d h;have:=J (ins r t.1 (cT t.2) l) (λx D=>d x (by simp[D])) (AkF (AkB (d t (by simp))) h);grind[AkE]
theorem ApO {p:HM×AQ} {l:List (HM×AQ)} {k:HM} (h:srt (p :: l)) (hk:KY k p.1):BG k (p :: l)=none:=by
 apply fD;intro D;have⟨q,d,_⟩:=List.mem_map.1 D;rcases List.mem_cons.1 d with rfl | d
 . grind[HE]
 . have J:=fU hk ((List.pairwise_cons.1 h).1 q d);grind[HE]
theorem Ac6 {r:Int} {k:HM} {v:AQ} (d:HM):∀ {l:List (HM×AQ)},srt l->BG d (ins r k v l)=if d=k then some (match BG k l with | some w=>KJ r w v | none=>v) else BG d l
 | [],_=>by simp only[ins,BG]
 | p :: l,h=>by
  have ih:=Ac6 (r:=r) (k:=k) (v:=v) d (List.pairwise_cons.1 h).2;unfold ins;split
  . rename_i hk;have D:¬k=p.1:=λe=>HE k (by rw[<-e] at hk; exact hk);simp only[BG,ih,if_neg D];grind
  . rename_i hk;split
    . rename_i e;subst e;simp only[BG,if_true];grind
    . rename_i e;have J:=AkC hk e;rw[ApO h J];simp only[BG]
theorem ApP {r:Int} {k:HM} {v:AQ} {l:List (HM×AQ)} (h:srt l):(ins r k v l).Perm (EJ k (match BG k l with | some w=>KJ r w v | none=>v) l):=by
 refine pY (cU (tW h)) (H6 (cU h) _ _) λd=>?_;rw[Ac6 d h];by_cases e:d=k
 . subst e; simp[CH]
 . simp[e,CX e]
def TI (l:List (HM×AQ)) (mk:HM->Int->α):List α×Int:=if l.all (λp=>(HL p.2).2) then (l.map (λp=>mk p.1 (HL p.2).1),0) else ([],12)
def kvT (t:A5):HM×Int:=((t.Row,t.Col),t.Val)
def mkT (k:HM) (v:Int):A5:=⟨k.1,k.2,v⟩
def kvE (t:B5):HM×Int:=((t.From,t.To),t.W)
def mkE (k:HM) (v:Int):B5:=⟨k.1,k.2,v⟩
theorem AkG {U:α->α->(Int->Prop)->Prop} (J:α->α->Int) (hc:∀ x y Q,Q (J x y)->U x y Q) (W:SWO (ltOf J)) {xs V:List α} {K:List α->Prop} (hl:xs.length<=1000000000000) (hp:xs.Perm V) (hz:V.Pairwise λx y=>J x y<0) (hK:K V):AeU U xs K:=by
 refine⟨J,λx y Q=>hc x y Q,W,by omega,λys O a4=>?_⟩
 have a2:∀ x y,J x y<0->0<=J y x:=by
  intro x y h;rcases AhL (J y x) 0 with Z | Z
  . have:=W.trans x y x (by simpa[ltOf] using h) (by simpa[ltOf] using Z);rw[W.irrefl] at this; cases this
  . exact Z
 have:ys=V:=Y6 (O.trans hp) a4 (hz.imp λ{a b} h=>a2 a b h) λa b d D _ _=>by have d:=(O.trans hp).mem_iff.1 d;have D:=(O.trans hp).mem_iff.1 D;obtain⟨_,_,rfl⟩:=tM d;obtain⟨_,_,rfl⟩:=tM D;rw[AlT] at hz;grind
 rw[this]; exact hK
def cfT (x y:A5):Int:=or2 (QX x.Row y.Row) (QX x.Col y.Col)
theorem vH (x y:A5):cfT x y<0↔KY (x.Row,x.Col) (y.Row,y.Col):=by unfold cfT or2 QX KY;omega
theorem Aw5 {x y:A5} {Q:Int->Prop} (h:Q (cfT x y)):fI x y Q:=by unfold fI;exact GJ (GJ (AaH h))
theorem tY:SWO (ltOf cfT) where
 irrefl x:=by unfold ltOf; simp only[vH]; simp[KY]
 trans x y z h1 h2:=by unfold ltOf at *; simp only[vH,decide_eq_true_eq] at *; exact fU h1 h2
 ntrans x y z h1 h2:=by unfold ltOf at *; grind[vH,KY]
def cfE (x y:B5):Int:=or2 (or2 (QX x.From y.From) (QX x.To y.To)) (QX x.W y.W)
theorem Ac7 (x y:B5):cfE x y<0↔KY (x.From,x.To) (y.From,y.To)∨(x.From=y.From∧x.To=y.To∧x.W<y.W):=by unfold cfE or2 QX KY;omega
theorem Aw6 {x y:B5} {Q:Int->Prop} (h:Q (cfE x y)):W8 x y Q:=by unfold W8 jP;exact GJ (GJ (AaH (mM (AaH h))))
theorem AtF:SWO (ltOf cfE) where
 irrefl x:=by unfold ltOf; simp only[Ac7]; simp[KY]
 trans x y z h1 h2:=by unfold ltOf at *; simp only[Ac7,decide_eq_true_eq,KY] at *; omega
 ntrans x y z h1 h2:=by unfold ltOf at *; grind[Ac7,KY]
theorem Af2 {m d:List (HM×AQ)} {l:List (HM×AQ)} {mk:HM->Int->α} (hp:d.Perm l) (h:∀ p∈d,(HL p.2).2=true):TI l mk=(l.map (λp=>mk p.1 (HL p.2).1),0):=by grind[TI]
theorem AtG {l:List (HM×AQ)} {mk:HM->Int->α} {p:HM×AQ} (hp:p∈l) (d:(HL p.2).2=false):TI l mk=([],12):=by grind[TI]
theorem M6 {β:Type} {f:α->β} {xs:List α} {i:Nat} (h:i<xs.length):(xs.take (i+1)).map f=(xs.take i).map f++[f xs[i]]:=by rw[eX h,iE]; rfl
theorem vI {r:Int} {ts:List B5} {Q:List B5×Int->Prop} (hr:1<=r∧r<=5) (hl:ts.length<=1000000) (hv:∀ t∈ts,EA t.W) (hQ:Q (TI (SC r (ts.map kvE)) mkE)):RN r ts Q:=by
 unfold RN;refine QY (AH (by simp[hr]) ?_)
 have a5:∀ (i:Nat) t,t∈(ts.take i).map kvE->EA t.2:=by intro i t ht;obtain⟨x,Z,rfl⟩:=List.mem_map.1 ht;exact hv x (AjC Z)
 refine AL (λ(s:List (HM×AQ)) i=>(s,i)) 0 ts.length (by omega) (λi m=>m.Perm (SC r ((ts.take i).map kvE))) (by omega) .nil (λi m next _ hi D J=>?_) (λm next D=>?_)
 . have Z:EA ts[i].W:=hv _ (PW hi);have hk:EY m:=AoW (D.symm.map Prod.fst) (cU (jU _ _));have a6:=(tX r _ (a5 i)).2
   have b0:∀ w,(match BG (ts[i].From,ts[i].To) m with | some w=>KJ r w (cT ts[i].W) | none=>cT ts[i].W)=w->(EJ (ts[i].From,ts[i].To) w m).Perm (SC r ((ts.take (i+1)).map kvE)):=by intro w U;rw[M6 hi,AkD,<-U,Am9 hk D];exact(Am8 hk D _ _).trans (ApP (jU _ _)).symm
   refine A2 (λ_=>?_) (λh=>by omega);refine B8 hi (M5 Z (jT (λw U=>AV rfl (WJ ?_ (AkB Z) (J _ ?_))) (λU=>AH rfl (J _ ?_))))
   . exact a6 _ (D.mem_iff.1 ((KI hk).1 U))
   all_goals grind
 . refine A2 (λh=>by omega) (λ_=>?_);rw[RV] at D;have a2:=tX r (ts.map kvE) (by simpa using a5 ts.length);have a4:=jU r (ts.map kvE);generalize SC r (ts.map kvE)=l at D a2 a4 hQ;have a9:l.length<=1000000:=by simp at a2; omega
   refine CQ (λs:List B5×List (HM×AQ)=>∃ d,(d++s.2).Perm l∧s.1=d.map (λp=>mkE p.1 (HL p.2).1)∧∀ p∈d,(HL p.2).2=true) (λs=>s.2.length) ⟨[],by simpa using D,rfl,by simp⟩ ?_;rintro⟨_,_⟩ next ⟨d,V,rfl,a8⟩ J;simp only at V;refine WI (λe=>?_) (λp rr hp=>?_)
   . subst e;simp only[lP] at V;refine AkG cfE (λ_ _ _=>Aw6) AtF (by have:=V.length_eq; simp; omega) (V.map _) ?_ ?_
     . rw[X3];exact uO (R:=λa b:HM×AQ=>KY a.1 b.1) (λ{a b} h=>(Ac7 _ _).2 (.inl h)) a4
     . rw[Af2 (m:=[]) V a8] at hQ; exact hQ
   . have O:(d++p :: rr).Perm l:=(AoB d hp.symm).trans V;have a7:p∈l:=O.mem_iff.1 (by simp);refine pZ (a2.2 p a7) (BW (λh=>?_) (λh=>?_))
     . grind[AtG]
     . refine AO ?_ (J _ ⟨d++[p],by simpa using O,by simp[mkE],?_⟩ ?_)
       . have:=O.length_eq; simp at this ⊢; omega
       . grind
       . have:=hp.length_eq; simp at this ⊢; omega
def e0 (p:HM×AQ):B5:=mkE p.1 0
theorem qA {f:Nat->Int} {n j:Nat} (h:j<n):((List.range n).map f)[j]? = some (f j):=by simp[h]
theorem Ai0 {f:Nat->Int} {n j:Nat} {v:Int}:((List.range n).map f).set j v=(List.range n).map (λi=>if i=j then v else f i):=by apply AjK;grind
theorem mO {f g:Nat->Int} {n:Nat} (h:∀ j,j<n->f j=g j):(List.range n).map f=(List.range n).map g:=yM λj d=>h j (by simpa using d)
def FG (ts:List A5) (j:Nat):Int:=((ts.countP (λt:A5=>decide (t.Row<(j:Int))):Nat):Int)
def Y8 (ts:List A5) (j:Nat):Int:=((ts.countP (λt:A5=>decide (t.Row+1=(j:Int))):Nat):Int)
theorem vJ (ts:List A5) (t:A5) (j:Nat):FG (ts++[t]) j=FG ts j+if t.Row<j then 1 else 0:=by grind[FG]
theorem Ai1 (ts:List A5) (t:A5) (j:Nat):Y8 (ts++[t]) j=Y8 ts j+if t.Row+1=j then 1 else 0:=by grind[Y8]
theorem mP (ts:List A5) (j:Nat):0<=FG ts j∧FG ts j<=ts.length:=by grind[FG]
theorem mQ (ts:List A5) (j:Nat):0<=Y8 ts j∧Y8 ts j<=ts.length:=by grind[Y8]
theorem ZO (j:Nat):∀ (ts:List A5),(∀ t∈ts,0<=t.Row)->FG ts (j+1)=FG ts j+Y8 ts (j+1)
 | [],_=>rfl
 | t :: ts,h=>by have:=ZO j ts λx d=>h x (by simp[d]);grind[FG,Y8]
def BR (rows cols:Int) (ts:List A5):Rows:=⟨rows,cols,(List.range (rows.toNat+1)).map (FG ts),ts.map (·.Col),ts.map (·.Val)⟩
theorem AmA (n:Nat):List.replicate n (0:Int)=(List.range n).map λ_=>0:=by apply AjK;grind
theorem vK {rows cols:Int} {ts:List A5} {Q:Rows->Prop} (h0:0<=rows) (h1:rows<=1000000) (hl:ts.length<=1000000) (O:∀ t∈ts,0<=t.Row∧t.Row<rows) (Z:Q (BR rows cols ts)):TV rows cols ts Q:=by
 unfold TV XY;obtain⟨n,rfl⟩:∃ n:Nat,rows=n:=⟨rows.toNat,by omega⟩;have e:AJ ((n:Int)+1)=(n+1:Nat):=by rw[AK (by omega) (by omega)]; omega
 rw[e];refine⟨by omega,by omega,?_⟩;simp only[YZ];rw[AmA];refine AL (λ(s:List Int×List Int×List Int) i=>(s.1,s.2.1,s.2.2,i)) 0 ts.length (s0:=((List.range (n+1)).map λ_=>0,[],[])) (by omega) (λi s=>s=((List.range (n+1)).map (Y8 (ts.take i)),(ts.take i).map (·.Col),(ts.take i).map (·.Val))) (by omega) (by simp[Y8]) (λi s next _ hi d D=>?_) (λs next d=>?_)
 . subst d;dsimp only;have hr:=O _ (PW hi);refine A2 (λ_=>?_) (λh=>by omega);refine B8 hi ?_;obtain⟨q,hq⟩:∃ q:Nat,ts[i].Row=q:=⟨ts[i].Row.toNat,by omega⟩;have J:AJ (ts[i].Row+1)=(q+1:Nat):=by rw[AK (by omega) (by omega)]; omega
   rw[J];have hc:=mQ (ts.take i) (q+1);have a4:(ts.take i).length<=ts.length:=by simp; omega
   refine AP (by omega) (qA (by omega)) (AP (by omega) (qA (by omega)) (AO (by simp; omega) (AO (by simp; omega) (D ((List.range (n+1)).map (Y8 (ts.take (i+1))),(ts.take (i+1)).map (·.Col),(ts.take (i+1)).map (·.Val)) rfl |> cast ?_))));congr 1;simp only[YZ];rw[Ai0,M6 hi,M6 hi];refine Prod.ext (mO λj U=>?_) rfl;rw[eX hi,Ai1];by_cases ej:j=q+1
   . subst ej; rw[if_pos (by omega),if_pos rfl,AK (by omega) (by omega)]
   all_goals omega
 . subst d;dsimp only;refine A2 (λh=>by omega) (λ_=>?_);simp only[RV];refine AL (λ(s:List Int) i=>(s,i)) 0 n (by omega) (λi s=>s=(List.range (n+1)).map λj=>if j<=i then FG ts j else Y8 ts j) (by omega) (mO λj U=>?_) (λi s next _ hi d D=>?_) (λs next d=>?_)
   . by_cases ej:j<=0
     . rw[if_pos ej,show j=0 by omega];have:∀ t∈ts,¬t.Row<((0:Nat):Int):=λt h=>by have:=O t h; omega
       have W:∀ t∈ts,¬t.Row+1=((0:Nat):Int):=λt h=>by have:=O t h; omega
       unfold Y8 FG;rw[List.countP_eq_zero.2 (by simpa using W),List.countP_eq_zero.2 (by simpa using this)]
     . rw[if_neg ej]
   . subst d;refine A2 (λ_=>?_) (λh=>by omega);have J:AJ ((i:Int)+1)=(i+1:Nat):=by rw[AK (by omega) (by omega)]; omega
     rw[J] at D ⊢;refine AP (by omega) (qA (by omega)) (AP (by omega) (qA (by omega)) (AP (by omega) (qA (by omega)) (D _ ?_)));simp only[YZ];rw[Ai0];refine mO λj U=>?_;have a2:=mP ts i;have V:=mQ ts (i+1);rw[if_neg (show ¬i+1<=i by omega),if_pos (Z0 i),AK (by omega) (by omega)];grind[ZO]
   . subst d;refine A2 (λh=>by omega) (λ_=>?_);rw[mO (g:=FG ts) λj U=>if_pos (by omega)];exact Z
def zR:Rows:=⟨0,0,[],[],[]⟩
def tZ (rows cols:Int) (t:A5):Prop:=0<=t.Row∧t.Row<rows∧0<=t.Col∧t.Col<cols
instance (rows cols:Int) (t:A5):Decidable (tZ rows cols t):=by unfold tZ; infer_instance
theorem AtH {r:Int}:∀ {ts:List (HM×Int)} {p:HM×AQ},p∈SC r ts->∃ t∈ts,t.1=p.1:=by
 suffices ∀ (ts:List (HM×Int)) (l:List (HM×AQ)) p,p∈ts.foldl (λl t=>ins r t.1 (cT t.2) l) l->(∃ t∈ts,t.1=p.1)∨∃ q∈l,q.1=p.1 from λ{ts p} h=>by
  rcases this ts [] p h with h | ⟨q,d,_⟩
  . exact h
  . simp at d
 intro ts
 induction ts with
 | nil=>grind
 | cons t ts J=>
  intro l p h;rcases J _ _ h with⟨x,O,e⟩ | ⟨q,d,e⟩
  . grind
  . rcases vG d with D | ⟨y,U,D⟩
    all_goals grind
theorem AtI {mk:HM->Int->α} (l:List (HM×AQ)):(TI l mk).1.length<=l.length:=by unfold TI; split <;> simp
theorem fV {x y:Int} {Q:Bool->Prop} (d:Q (decide (0<=x∧x<=y))):O1 x y Q:=by
 unfold O1;refine A2 (λh=>?_) (λh=>?_)
 all_goals grind
def e2t (e:B5):A5:=⟨e.From,e.To,e.W⟩
theorem Az8 (l:List (HM×AQ)):(TI l mkT).1=(TI l mkE).1.map e2t∧(TI l mkT).2=(TI l mkE).2:=by
 unfold TI;split
 . exact⟨by simp only[AeC]; rfl,rfl⟩
 . exact⟨rfl,rfl⟩
theorem AaJ [BEq α] [LawfulBEq α] [DecidableEq α] {xs ys:List α} {Q:Bool->Prop} (U:xs.length<=1000000000000) (J:Q (decide (xs=ys))) :
   A7 ((xs.length:Int) != (ys.length:Int)) (Q false) (B4 (λ(s:Int) (next:Int->Prop)=>A7 (decide (s<(xs.length:Int))) (BA xs s λx=>BA ys s λy=>A7 (x != y) (Q false) (next (AJ (s+1)))) (Q true)) 0):=by
 refine BO (λh=>?_) (λh=>?_)
 . rwa [decide_eq_false (λe=>h (by rw[e]))] at J
 have h:xs.length=ys.length:=by omega
 refine CR xs.length U (λi=>∀ (j:Nat) (d:j<xs.length) (D:j<ys.length),j<i->xs[j]=ys[j]) (by simp) (λi next hi O W=>?_) (λnext O=>?_)
 . refine A2 (λ_=>?_) (λh=>by omega);refine B8 hi (B8 (by omega) (BO (λe=>?_) (λe=>W λj d D _=>?_)))
   . rwa [decide_eq_false (λV=>e (by subst V; rfl))] at J
   all_goals grind
 . refine A2 (λh=>by omega) (λ_=>?_)
   rwa [decide_eq_true (AjN h λj d D=>O j d D d)] at J
theorem ApQ {xs ys:List Int} {Q:Bool->Prop} (d:xs.length<=1000000000000) (h:Q (decide (xs=ys))):LW xs ys Q:=by unfold LW; exact AaJ d h
def aY (a:Rows):Prop:=a.Start.length<=1000000000000∧a.Col.length<=1000000000000∧a.Val.length<=1000000000000
def AxV (a:Rows) (i:Nat):Prop:=∀ j:Nat,at0 a.Start i<=j->(j:Int)<at0 a.Start ((i:Int)+1)->0<=at0 a.Col j∧at0 a.Col j<a.Cols∧(at0 a.Start i<j->at0 a.Col ((j:Int) - 1)<at0 a.Col j)
structure UO (a:Rows):Prop where
 r0:0≤a.Rows
 r1:a.Rows≤4096
 c0:0≤a.Cols
 c1:a.Cols≤4096
 sl:(a.Start.length:Int)=a.Rows+1
 vl:a.Val.length=a.Col.length
 cl:a.Col.length≤65536
 s0:at0 a.Start 0=0
 sn:at0 a.Start a.Rows=a.Col.length
 up:∀ i:Nat,(i:Int)<a.Rows→at0 a.Start i≤at0 a.Start ((i:Int)+1)
 row:∀ i:Nat,(i:Int)<a.Rows→AxV a i
noncomputable instance (a:Rows):Decidable (UO a):=Classical.propDecidable _
theorem AvF {a:Rows} {n:Nat} (h:∀ i:Nat,i<n->at0 a.Start i<=at0 a.Start ((i:Int)+1)) {i j:Nat} (d:i<=j) (D:j<=n):at0 a.Start i<=at0 a.Start j:=by
  induction j with
  | zero=>grind
  | succ j J=>
    grind
theorem AtJ {x y:Int} {Q:Bool->Prop} (h:Q (decide (x<y))):TA x y Q:=by unfold TA I8;exact AH (by simp) h
theorem Af3 {xs:List Int} {Q:Bool->Prop} (W:xs.length<=1000000000) (D:(∀ i:Nat,i+1<xs.length->at0 xs i<=at0 xs ((i:Int)+1))->Q true) (U:(∃ i:Nat,i+1<xs.length∧¬at0 xs i<=at0 xs ((i:Int)+1))->Q false):G8 xs Q:=by
 unfold G8;rw[AK (by omega) (by omega)];by_cases h0:xs.length=0
 . refine CQ (λs:Int=>s = -1) (λ_=>0) (by omega) (λs next V J=>?_);subst V;exact A2 (λh=>by omega) (λ_=>D λi hi=>by omega)
 refine CQ (λs:Int=>∃ j:Nat,s=j∧j<xs.length∧∀ i:Nat,j<=i->i+1<xs.length->at0 xs i<=at0 xs ((i:Int)+1)) (λs=>s.toNat) ⟨xs.length - 1,by omega,by omega,λi hi h=>by omega⟩ ?_;rintro _ next ⟨j,rfl,_,O⟩ J;refine A2 (λh=>?_) (λh=>D λi hi=>O i (by omega) hi);obtain⟨j,rfl⟩:∃ q,j=q+1:=⟨j - 1,by omega⟩;have e:AJ (((j+1:Nat):Int) - 1)=(j:Int):=by rw[AK (by omega) (by omega)]; omega
 rw[e];refine BL (by omega) (by omega) (BL (by omega) (by omega) (AtJ (A2 (λd=>U ⟨j,by omega,?_⟩) (λd=>J _ ⟨j,rfl,by omega,λi hi h=>?_⟩ (by omega)))))
 all_goals grind
theorem AkH {xs:List Int} {lo hi:Int} {j:Nat} (d:0<=lo) (h:lo<=hi) (D:hi<=xs.length) (J:lo+j<hi):at0 ((xs.take hi.toNat).drop lo.toNat) j=at0 xs (lo+j):=by unfold at0;grind
theorem AkI {xs:List α} {lo hi:Int} (d:0<=lo) (h:lo<=hi) (D:hi<=xs.length):((xs.take hi.toNat).drop lo.toNat).length=(hi - lo).toNat:=by grind
theorem Aw7 {xs:List Int} {cols:Int} {Q:Bool->Prop} (a2:0<=cols) (a4:cols<=4096) (hl:xs.length<=1000000000)
   (U:(∀ j:Nat,j<xs.length->0<=at0 xs j∧at0 xs j<cols∧(0<j->at0 xs ((j:Int) - 1)<at0 xs j))->Q true) (O:(∃ j:Nat,j<xs.length∧¬(0<=at0 xs j∧at0 xs j<cols∧(0<j->at0 xs ((j:Int) - 1)<at0 xs j)))->Q false):tR xs cols Q:=by
 unfold tR;rw[AK (by omega) (by omega)];refine CR xs.length (by omega) (λi=>∀ j:Nat,j<i->j<xs.length->0<=at0 xs j∧at0 xs j<cols∧(0<j->at0 xs ((j:Int) - 1)<at0 xs j)) (by simp) (λi next hi J Z=>?_) (λnext J=>?_)
 . refine A2 (λ_=>?_) (λh=>by omega);refine BL (by omega) (by omega) (fV (BW (λh=>O ⟨i,hi,λV=>?_⟩) (λh=>?_)))
   . simp at h; omega
   have h:0<=at0 xs i∧at0 xs i<=cols - 1:=by simpa using h
   have hstep (hx:0<i->at0 xs ((i:Int) - 1)<at0 xs i):next (AJ ((i:Int)+1)):=Z λj D _=>by grind
   refine A2 (λW=>?_) (λW=>hstep λh=>by omega);rw[AK (by omega) (by omega)];refine BL (by omega) (by omega) (A2 (λd=>O ⟨i,hi,λV=>?_⟩) (λd=>hstep λ_=>by omega));omega
 . exact A2 (λh=>by omega) (λ_=>U λj D=>J j D D)
theorem mR {a:Rows} {Q:Bool->Prop} (hl:aY a) (hQ:Q (decide (UO a))):QA a Q:=by
 unfold QA;have hno (h:¬UO a):Q false:=by grind
 have hyes (h:UO a):Q true:=by grind
 unfold aY at hl;refine fV (BW (λh=>hno λd=>?_) (λh=>?_))
 . have:=d.r0; have:=d.r1; simp at h; omega
 have h1:0<=a.Rows∧a.Rows<=4096:=by simpa using h
 refine fV (BW (λh=>hno λd=>?_) (λh=>?_))
 . have:=d.c0; have:=d.c1; simp at h; omega
 have h2:0<=a.Cols∧a.Cols<=4096:=by simpa using h
 rw[AK (by omega) (by omega)];refine BO (λh=>hno λd=>h d.sl) (λh3=>?_);refine BO (λh=>hno λd=>h (by rw[d.vl])) (λ_=>?_);refine A2 (λh=>hno λd=>by have:=d.cl; omega) (λ_=>?_);refine BL (by omega) (by omega) (BO (λh=>hno λd=>h d.s0) (λh6=>?_));refine BL (by omega) (by omega) (BO (λh=>hno λd=>h d.sn) (λh7=>?_));obtain⟨n,hn⟩:∃ n:Nat,a.Rows=n:=⟨a.Rows.toNat,by omega⟩;have a8:a.Start.length=n+1:=by omega
 refine Af3 (by omega) (λa4=>AH rfl ?_) (λhb=>AV rfl (hno λd=>?_));rotate_left
 . have⟨i,hi,O⟩:=hb;exact O (d.up i (by omega))
 have D:∀ i:Nat,i<n->at0 a.Start i<=at0 a.Start ((i:Int)+1):=λi hi=>a4 i (by omega);rw[hn] at h7 ⊢;refine CR n (by omega) (λi=>∀ j:Nat,j<i->AxV a j) (by simp) (λi next hi hR a2=>?_) (λnext hR=>?_)
 . refine A2 (λ_=>?_) (λh=>by omega);have e1:AJ ((i:Int)+1)=(i:Int)+1:=AK (by omega) (by omega);rw[e1] at a2 ⊢;have Z:0<=at0 a.Start i:=by have:=AvF D (i:=0) (j:=i) (by omega) (by omega); grind
   have W:at0 a.Start ((i:Int)+1)<=a.Col.length:=by have:=AvF D (i:=i+1) (j:=n) (by omega) (by omega);grind
   have hm:=D i hi;refine BL (by omega) (by omega) (BL (by omega) (by omega) ⟨Z,hm,W,?_⟩);have J:=AkI Z hm W;have V:∀ j:Nat,at0 a.Start i+j<at0 a.Start ((i:Int)+1)->at0 ((a.Col.take (at0 a.Start ((i:Int)+1)).toNat).drop (at0 a.Start i).toNat) j=at0 a.Col (at0 a.Start i+j):=λj hj=>AkH Z hm W hj;refine Aw7 (by omega) (by omega) (by rw[J]; omega) (λa5=>AH rfl (a2 λj hj=>?_)) (λhb=>AV rfl (hno λd=>?_))
   . by_cases e:j=i
     . subst e;intro p a6 a7;obtain⟨q,hq⟩:∃ q:Nat,(p:Int)=at0 a.Start j+q:=⟨(p - at0 a.Start j).toNat,by omega⟩;have U:=a5 q (by rw[J]; omega);rw[V q (by omega),<-hq] at U;refine⟨U.1,U.2.1,λ_=>?_⟩;have:=U.2.2 (by omega);rw[show(q:Int) - 1=((q - 1:Nat):Int) by omega,V (q - 1) (by omega),show at0 a.Start j+((q - 1:Nat):Int)=(p:Int) - 1 by omega] at this;exact this
     . exact hR j (by omega)
   . have⟨q,hq,O⟩:=hb;rw[J] at hq;apply O;have U:=d.row i (by omega) (at0 a.Start i+q).toNat (by omega) (by omega);have ep:(((at0 a.Start i+q).toNat:Nat):Int)=at0 a.Start i+q:=by omega
     rw[ep] at U;rw[V q (by omega)];refine⟨U.1,U.2.1,λ_=>?_⟩;have:=U.2.2 (by omega);rw[show(q:Int) - 1=((q - 1:Nat):Int) by omega,V (q - 1) (by omega),show at0 a.Start i+((q - 1:Nat):Int)=at0 a.Start i+q - 1 by omega];exact this
 . refine A2 (λh=>by omega) (λ_=>hyes ⟨h1.1,h1.2,h2.1,h2.2,h3,by omega,by omega,h6,by rw[hn]; exact h7,λi hi=>D i (by omega),λi hi=>hR i (by omega)⟩)
def key (t:A5):HM:=(t.Row,t.Col)
def Srt (ts:List A5):Prop:=ts.Pairwise λa b=>KY (key a) (key b)
structure Canon (rows cols:Int) (ts:List A5):Prop where
 r0:0≤rows
 r1:rows≤4096
 c0:0≤cols
 c1:cols≤4096
 len:ts.length≤65536
 srt:Srt ts
 inn:∀ t∈ts,tZ rows cols t
theorem vL {q:α->Bool}:∀ {l:List α},l.Pairwise (λa b=>q b=true->q a=true)->∀ (i:Nat) (h:i<l.length),(q l[i]=true↔i<l.countP q)
 | [],_,i,h=>by simp at h
 | a :: l,hp,i,h=>by
  rw[Ae8] at hp;rw[List.countP_cons];by_cases ha:q a=true
  . rw[if_pos ha]
    cases i with
    | zero=>simp[ha]
    | succ i=>
     have:=vL hp.2 i (by simpa using h);grind
  . rw[if_neg ha];have J:l.countP q=0:=List.countP_eq_zero.2 λb D d=>ha (hp.1 b D d);grind
theorem Srt.row {ts:List A5} (h:Srt ts) (v:Nat) (p:Nat) (hp:p<ts.length):ts[p].Row<v↔(p:Int)<FG ts v:=by
 have:=vL (q:=λt:A5=>decide (t.Row<(v:Int))) (l:=ts) (uO (λ{a b} d=>by simp only[decide_eq_true_eq];unfold KY key at d;simp only at d;omega) h) p hp
 simp only[decide_eq_true_eq] at this;rw[this]; unfold FG; omega
theorem Aw8 {f:Nat->Int} {n:Nat} {i:Int} (d:0<=i) (h:i<n):at0 ((List.range n).map f) i=f i.toNat:=by unfold at0;grind
theorem uA {f:α->Int} {xs:List α} {i:Int} (d:0<=i) (h:i<xs.length):at0 (xs.map f) i=f (xs[i.toNat]'(by omega)):=by unfold at0;grind
theorem cV {rows cols:Int} {ts:List A5} {i:Int} (d:0<=i) (h:i<=rows):at0 (BR rows cols ts).Start i=FG ts i.toNat:=Aw8 d (by omega)
theorem AaK {rows cols:Int} {ts:List A5} (h:Canon rows cols ts):FG ts rows.toNat=ts.length:=by have D:=h.r0;unfold FG;rw[List.countP_eq_length.2];intro t d;have:=h.inn t d;unfold tZ at this;simp; omega
theorem vM {ts:List A5} (h:∀ t∈ts,0<=t.Row):FG ts 0=0:=by unfold FG;simp_all
theorem Srt.at {ts:List A5} (h:Srt ts) {i p:Nat} (hp:p<ts.length):ts[p].Row=i↔FG ts i<=p∧(p:Int)<FG ts (i+1):=by have d:=h.row i p hp;have D:=h.row (i+1) p hp;omega
theorem Canon.right {rows cols:Int} {ts:List A5} (h:Canon rows cols ts):UO (BR rows cols ts) where
 r0:=h.r0
 r1:=h.r1
 c0:=h.c0
 c1:=h.c1
 sl:=by have:=h.r0; simp[BR]; omega
 vl:=by simp[BR]
 cl:=by simpa[BR] using h.len
 s0:=by have:=h.r0;rw[cV (by omega) (by omega)];exact vM λt ht=>(h.inn t ht).1
 sn:=by have:=h.r0;show at0 (BR rows cols ts).Start rows=_;rw[cV (by omega) (by omega),AaK h]; simp[BR]
 up i hi:=by
  have hi:(i:Int)<rows:=hi;rw[cV (by omega) (by omega),cV (by omega) (by omega)];have e1:((i:Int)).toNat=i:=by omega
  have e2:((i:Int)+1).toNat=i+1:=by omega
  rw[e1,e2,ZO i ts λt ht=>(h.inn t ht).1];have:=mQ ts (i+1);omega
 row i hi:=by
  have hi:(i:Int)<rows:=hi;intro j hj1 hj2;rw[cV (by omega) (by omega)] at hj1 hj2 ⊢;have e1:((i:Int)).toNat=i:=by omega
  have e2:((i:Int)+1).toNat=i+1:=by omega
  rw[e1] at hj1 ⊢;rw[e2] at hj2;have hb:=mP ts (i+1);have hjl:j<ts.length:=by omega
  have hc:at0 (BR rows cols ts).Col j=ts[j].Col:=by show at0 (ts.map (·.Col)) j=_;grind[uA]
  have hin:=h.inn _ (PW hjl);have hr:=(h.srt.at hjl (i:=i)).2 ⟨hj1,hj2⟩;unfold tZ at hin;refine⟨by rw[hc]; omega,by rw[hc]; exact hin.2.2.2,λhlt=>?_⟩;obtain⟨q,rfl⟩:∃ q,j=q+1:=⟨j - 1,by have:=mP ts i; omega⟩
  have hc2:at0 (BR rows cols ts).Col (((q+1:Nat):Int) - 1)=ts[q].Col:=by show at0 (ts.map (·.Col)) _=_;grind[uA]
  have hr2:=(h.srt.at (show q<ts.length by omega) (i:=i)).2 ⟨by omega,by omega⟩;have hs:=List.pairwise_iff_getElem.1 h.srt q (q+1) (by omega) hjl (by omega);unfold KY key at hs;omega
theorem rise {a:Rows} (h:UO a) {i p q:Nat} (hi:(i:Int)<a.Rows) (J:at0 a.Start i<=p) (D:(q:Int)<at0 a.Start ((i:Int)+1)) (d:p<q):at0 a.Col p<at0 a.Col q:=by
 induction q with
 | zero=>omega
 | succ q O=>
  have:=(h.row i hi (q+1) (by omega) D).2.2 (by omega);grind
theorem Af4:Canon 0 0 []:=⟨by omega,by omega,by omega,by omega,by simp,.nil,by simp⟩
noncomputable def cW (a:Rows):Rows:=if UO a then a else BR 0 0 []
theorem mS {a:Rows} {Q:Rows->Prop} (D:aY a) (d:Q (cW a)):S4 a Q:=by
 unfold S4 XY;unfold cW at d;refine mR D (A2 (λh=>?_) (λh=>?_))
 . rwa [if_pos h] at d
 . rw[if_neg h] at d;exact⟨by decide,by decide,d⟩
end
def PX (ts:List A5) (i:Nat):List A5:=ts.filter λt=>decide (t.Row=i)
theorem Aw9 {ts:List A5} (h:Srt ts) (i:Nat) {lo hi:Nat} (V:FG ts i=lo) (W:FG ts (i+1)=hi) (U:lo<=hi) (Z:hi<=ts.length):(ts.take hi).drop lo=PX ts i:=by
 have e:ts=ts.take lo++((ts.take hi).drop lo++ts.drop hi):=by
   have O:ts.take lo=(ts.take hi).take lo:=by grind
   rw[<-lL,O,At4,At4]
 have J:∀ (p:Nat) (hp:p<ts.length),ts[p].Row=i↔lo<=p∧p<hi:=λp hp=>by have:=h.at (i:=i) hp; omega
 unfold PX
 conv=>rhs; rw[e]
 rw[jG,jG,List.filter_eq_nil_iff.2,List.filter_eq_self.2,List.filter_eq_nil_iff.2]
 . simp
 . intro t d;obtain⟨j,D,rfl⟩:=tM d;simp only[AjL,decide_eq_true_eq];rw[J]; omega
 . intro t d;obtain⟨j,D,rfl⟩:=tM d;simp only[AjL,AbT,decide_eq_true_eq];simp only[AlW,VK] at D;rw[J]; omega
 . intro t d;obtain⟨j,D,rfl⟩:=tM d;simp only[AbT,decide_eq_true_eq];simp only[VK] at D;rw[J]; omega
structure Seg (ts:List A5) (i l u:Nat):Prop where
 lo:FG ts i=l
 hi:FG ts (i+1)=u
 le:l≤u
 len:u≤ts.length
 eq:(ts.take u).drop l=PX ts i
 row:∀ (p:Nat) (hp:p<ts.length),l≤p→p<u→ts[p].Row=i
theorem Canon.seg {rows cols:Int} {ts:List A5} (h:Canon rows cols ts) (i:Nat):∃ lo hi,Seg ts i lo hi:=by have V:=ZO i ts λt J=>(h.inn t J).1;have O:=mQ ts (i+1);have U:=mP ts (i+1);obtain⟨lo,d⟩:∃ lo:Nat,FG ts i=lo:=⟨_,rfl⟩;obtain⟨hi,D⟩:∃ hi:Nat,FG ts (i+1)=hi:=⟨_,rfl⟩;exact⟨lo,hi,d,D,by omega,by omega,Aw9 h.srt i d D (by omega) (by omega),λ_ hp _ _=>by have:=h.srt.at (i:=i) hp; omega⟩
theorem Canon.sml {rows cols:Int} {ts:List A5} (h:Canon rows cols ts):aY (BR rows cols ts):=by have:=h.r0; have:=h.r1; have:=h.len;unfold aY BR; simp; omega
theorem Y9 {rows cols:Int} {ts:List A5} {i:Nat} {K:Int->Prop} (h:(i:Int)<=rows) (hk:K (FG ts i)):BA (BR rows cols ts).Start (i:Int) K:=
 AP (by omega) (qA (by simp; omega)) hk
theorem AkJ {rows cols:Int} {ts:List A5} {i:Nat} {Q:List Int×List Int->Prop} (h:Canon rows cols ts) (hi:(i:Int)<rows) (D:Q ((PX ts i).map (·.Col),(PX ts i).map (·.Val))):cN (BR rows cols ts) i Q:=by
 unfold cN;have V:=h.r1;have⟨_,_,s⟩:=h.seg i;have J:AJ ((i:Int)+1)=(i+1:Nat):=by rw[AK (by omega) (by omega)]; omega
 rw[J];refine Y9 (by omega) (Y9 (by omega) ?_);rw[s.lo,s.hi];have d:=s.le; have O:=s.len;have U:(BR rows cols ts).Col.length=ts.length:=by simp[BR]
 have W:(BR rows cols ts).Val.length=ts.length:=by simp[BR]
 refine⟨by omega,by omega,by omega,by omega,by omega,by omega,?_⟩;simp only[YZ,BR,<-List.map_take,<-List.map_drop,s.eq];exact D
def sY (t:A5):B3:=⟨t.Col,t.Val⟩
def AtK (rows:Int) (ts:List A5) (i:Int):List B3:=if 0<=i∧i<rows then (PX ts i.toNat).map sY else []
theorem vN (ts:List A5) (i:Nat):(PX ts i).length<=ts.length:=uN _ _
theorem Ai2 {a:Rows} {rows cols i:Int} {ts:List A5} {Q:List B3->Prop} (Z:aY a) (V:cW a=BR rows cols ts) (h:Canon rows cols ts) (d:Q (AtK rows ts i)):tS a i Q:=by
 unfold tS;have a2:=h.r0; have a4:=h.r1; have J:=h.len;refine mS Z ?_;rw[V];have e:AJ ((BR rows cols ts).Rows - 1)=rows - 1:=AK (by show -9223372036854775808<=rows - 1; omega) (by show rows - 1<=9223372036854775807; omega);rw[e];unfold AtK at d;refine fV (BW (λU=>?_) (λO=>?_))
 . grind
 have O:0<=i∧i<=rows - 1:=by simpa using O
 rw[if_pos (by omega)] at d;obtain⟨n,rfl⟩:∃ n:Nat,i=n:=⟨i.toNat,by omega⟩;rw[YZ] at d;refine AkJ h (by omega) ?_;have W:=vN ts n;generalize PX ts n=xs at d W;refine AL (λ(s:List B3) i=>(s,i)) 0 xs.length (by omega) (λi s=>s=(xs.take i).map sY) (by omega) rfl (λi s next _ hi D U=>?_) (λs next D=>?_)
 . subst D;dsimp only;refine A2 (λ_=>?_) (λh=>by simp at h; omega);refine AP (by omega) (x:=xs[i].Col) (by simp[hi]) (AP (by omega) (x:=xs[i].Val) (by simp[hi]) (AO ?_ (U _ ?_)))
   . simp; omega
   . rw[M6 hi]; rfl
 . subst D;dsimp only;refine A2 (λh=>by simp at h) (λ_=>?_);grind
theorem Af5 {ts:List A5} {lo p:Nat} (h:lo<=p) (d:p<ts.length):(ts.take (p+1)).drop lo=(ts.take p).drop lo++[ts[p]]:=by rw[eX d,Av5 (by simp; omega)]
theorem cX {a:Rows} {rows cols:Int} {ts:List A5} {Q:List A5->Prop} (hl:aY a) (ha:cW a=BR rows cols ts) (h:Canon rows cols ts) (hQ:Q ts):S5 a Q:=by
 unfold S5;have a5:=h.r0; have a6:=h.r1; have a7:=h.len;refine mS hl ?_;rw[ha];obtain⟨n,hn⟩:∃ n:Nat,rows=n:=⟨rows.toNat,by omega⟩;have U:(BR rows cols ts).Rows=n:=hn;rw[U];refine AL (λ(s:List A5) i=>(s,i)) 0 n (by omega) (λi s=>s=ts.take (FG ts i).toNat) (by omega) (s0:=[]) (by rw[vM λt ht=>(h.inn t ht).1]; rfl) (λi s next _ _ d a4=>?_) (λs next d=>?_)
 . subst d;dsimp only;refine A2 (λ_=>?_) (λh=>by omega);refine AkJ h (by omega) ?_;have⟨lo,Z,s⟩:=h.seg i;have g1:=s.le; have g2:=s.len;rw[s.lo,YZ];have V:(PX ts i).length=Z - lo:=by rw[<-s.eq]; simp; omega
   have J:∀ (j:Nat) (O:j<(PX ts i).length),(PX ts i)[j]=ts[lo+j]'(by omega):=λj O=>by simp[<-s.eq]
   refine AL (λ(s:List A5) i=>(s,i)) 0 (PX ts i).length (by omega) (λj W=>W=ts.take (lo+j)) (by omega) (by simp) (λj W nx _ O d a2=>?_) (λW nx d=>?_)
   . subst d;dsimp only;refine A2 (λ_=>?_) (λh=>by simp at h; omega);have D:lo+j<ts.length:=by omega
     refine AP (by omega) (x:=ts[lo+j].Col) (by simp[O,J]) (AP (by omega) (x:=ts[lo+j].Val) (by simp[O,J]) (AO ?_ (a2 _ ?_)))
     . simp; omega
     . rw[show lo+(j+1)=lo+j+1 by omega,eX D];congr 2;have:=s.row (lo+j) D (by omega) (by omega);rw[<-this]
   . subst d;dsimp only;refine A2 (λh=>by simp at h) (λ_=>a4 _ ?_);rw[s.hi,V,YZ]; congr 1; omega
 . subst d;dsimp only;refine A2 (λh=>by omega) (λ_=>?_);have hb:=AaK h;simp_all
theorem Ac8 {a:Rows} {rows cols:Int} {ts:List A5} {Q:Int->Prop} (D:aY a) (d:cW a=BR rows cols ts) (h:Q ts.length):fL a Q:=by unfold fL;refine mS D ?_;rw[d]; simpa[BR] using h
theorem Srt.nodup {l:List A5} (h:Srt l):l.Nodup:=by rw[AoI];exact uO (R:=λa b=>KY (key a) (key b)) (λ{a b} d (e:a=b)=>HE (key b) (by rw[e] at d; exact d)) h
theorem AkK {l d:List A5} (h:Srt l) (D:Srt d) (O:∀ t,t∈l↔t∈d):l=d:=
 Y6 ((yK h.nodup D.nodup).2 O) h D λ_ _ _ _ J U=>absurd (fU J U) (HE _)
theorem QZ {rows cols:Int} {ts:List A5} (h:Canon rows cols ts):cW (BR rows cols ts)=BR rows cols ts:=by unfold cW; rw[if_pos h.right]
def jV (t:A5):A5:=⟨t.Col,t.Row,t.Val⟩
def OI (cols:Int) (ts:List A5):List A5:=(List.range cols.toNat).flatMap λc:Nat=>(ts.filter λt:A5=>decide (t.Col=(c:Int))).map jV
theorem YA {rows cols:Int} {ts:List A5} (h:Canon rows cols ts) (t:A5):t∈OI cols ts↔jV t∈ts:=by
 unfold OI;simp only[List.mem_flatMap,AjU,gL,AlZ,decide_eq_true_eq];constructor
 . rintro⟨_,_,_,⟨hu,_⟩,rfl⟩; exact hu
 . intro d;have:=h.inn _ d;unfold tZ jV at this;simp only at this;exact⟨t.Row.toNat,by omega,jV t,⟨d,by show t.Row=_; omega⟩,rfl⟩
theorem cY {ts:List A5} (cols:Int) (h:Srt ts):Srt (OI cols ts):=by
 unfold Srt OI;rw[List.pairwise_flatMap];refine⟨λc _=>?_,?_⟩
 . rw[X3];refine AhC (λ{a b} V Z D=>?_) (X2 (R:=λa b=>KY (key a) (key b)) (λt=>decide (t.Col=(c:Int))) h);have d:=(List.mem_filter.1 V).2;have J:=(List.mem_filter.1 Z).2;simp only[decide_eq_true_eq] at d J;unfold KY key at *;grind[jV]
 . refine uO (λ{a b} D x hx y W=>?_) (AoA (n:=cols.toNat));obtain⟨_,U,rfl⟩:=List.mem_map.1 hx;obtain⟨_,O,rfl⟩:=List.mem_map.1 W;have d:=(List.mem_filter.1 U).2;have J:=(List.mem_filter.1 O).2;simp only[decide_eq_true_eq] at d J;unfold KY key jV;simp only;omega
theorem Ai3 {ts:List A5} (h:Srt ts):(ts.map jV).Nodup:=by
 rw[AoI,X3];refine uO (R:=λa b=>KY (key a) (key b)) (λ{a b} d e=>?_) h
 have:a=b:=by cases a; cases b;grind[jV]
 subst this; exact HE _ d
theorem AaL {rows cols:Int} {ts:List A5} (h:Canon rows cols ts):(ts.map jV).Perm (OI cols ts):=by refine(yK (Ai3 h.srt) (cY cols h.srt).nodup).2 λt=>?_;rw[YA h,gL];exact⟨by rintro⟨_,d,rfl⟩; exact d,λD=>⟨jV t,D,rfl⟩⟩
theorem ZP {rows cols:Int} {ts:List A5} (h:Canon rows cols ts):Canon cols rows (OI cols ts) where
 r0:=h.c0
 r1:=h.c1
 c0:=h.r0
 c1:=h.r1
 len:=by have:=(AaL h).length_eq; have:=h.len; simp at *; omega
 srt:=cY cols h.srt
 inn t ht:=by have:=h.inn _ ((YA h t).1 ht);unfold tZ jV at *;simp only at this;omega
theorem Af6 {a:Rows} {rows cols:Int} {ts:List A5} {Q:Rows->Prop} (hl:aY a) (Z:cW a=BR rows cols ts) (h:Canon rows cols ts) (V:Q (BR cols rows (OI cols ts))):mG a Q:=by
 unfold mG;have a2:=h.len;have a5:=h.c1; have a4:=h.c0;refine mS hl ?_;rw[Z];refine cX h.sml (QZ h) h ?_;refine AL (λ(s:List A5) i=>(s,i)) 0 ts.length (by omega) (λi s=>s=(ts.take i).map jV++ts.drop i) (by omega) (by simp) (λi s next _ hi O hn=>?_) (λs next O=>?_)
 . subst O;dsimp only;have D:ts.drop i=ts[i] :: ts.drop (i+1):=Ao7 hi;have d:((ts.take i).map jV).length=i:=by simp; omega
   have W:((ts.take i).map jV++ts.drop i)[i]? = some ts[i]:=by grind
   refine A2 (λ_=>?_) (λh=>by omega);refine AP (by omega) (by simpa using W) (AP (by omega) (by simpa using W) (hn _ ?_));rw[YZ,List.set_append,if_neg (by omega),d,Nat.sub_self,D,M6 hi,lL]; rfl
 . subst O;dsimp only;refine A2 (λh=>by omega) (λ_=>?_);rw[RV,List.drop_length,lP];have U:=ZP h;refine AkG cfT (λ_ _ _=>Aw5) tY (by simp; omega) (AaL h) ?_ ?_
   . exact uO (R:=λa b=>KY (key a) (key b)) (λ{a b} J=>(vH _ _).2 J) U.srt
   . refine vK (show 0<=cols by omega) (show cols<=1000000 by omega) (by have:=U.len; omega) (λt ht=>?_) V;have:=U.inn t ht;unfold tZ at this;exact⟨this.1,this.2.1⟩
def cLo (l:Int):Int:=if 0 > l then 0 else l
def cHi (h n:Int):Int:=if n<h then n else h
def ext (l h n:Int):Int:=if cLo l<cHi h n then cHi h n - cLo l else 0
def XB (l h c d:Int) (ts:List A5):List A5:=(ts.filter λt=>decide ((l<=t.Row∧t.Row<h)∧(c<=t.Col∧t.Col<d))).map λt=>⟨t.Row - l,t.Col - c,t.Val⟩
def ApR (rows cols:Int) (ts:List A5) (p q:Int×Int):Rows:=BR (ext p.1 p.2 rows) (ext q.1 q.2 cols) (XB (cLo p.1) (cHi p.2 rows) (cLo q.1) (cHi q.2 cols) ts)
theorem vO (l h n:Int) (D:0<=n) (d:n<=4096):0<=ext l h n∧ext l h n<=n∧0<=cLo l∧cHi h n<=n:=by unfold ext cLo cHi; (repeat' split) <;> omega
theorem AaM {rows cols:Int} {ts:List A5} (h:Canon rows cols ts) (p q:Int×Int):Canon (ext p.1 p.2 rows) (ext q.1 q.2 cols) (XB (cLo p.1) (cHi p.2 rows) (cLo q.1) (cHi q.2 cols) ts):=by
 have W:=vO p.1 p.2 rows h.r0 h.r1;have Z:=vO q.1 q.2 cols h.c0 h.c1;have h3:=h.r1; have h4:=h.c1;refine⟨by omega,by omega,by omega,by omega,?_,?_,?_⟩
 . have:=h.len;unfold XB;rw[gK];exact gN (uN _ _) this
 . unfold Srt XB;rw[X3];refine uO (λ{a b} d=>?_) (X2 (R:=λa b=>KY (key a) (key b)) _ h.srt);unfold KY key at *;simp only at *;omega
 . intro t O;obtain⟨_,D,rfl⟩:=List.mem_map.1 O;have J:=(List.mem_filter.1 D).2;simp only[decide_eq_true_eq] at J;have U:ext p.1 p.2 rows=cHi p.2 rows - cLo p.1:=by unfold ext; rw[if_pos (by omega)]
   have V:ext q.1 q.2 cols=cHi q.2 cols - cLo q.1:=by unfold ext; rw[if_pos (by omega)]
   unfold tZ;simp only;omega
theorem AaN {p:Int×Int} {n:Int} {Q:Int×Int->Prop} (J:0<=n) (D:n<=4096) (d:Q (cLo p.1,ext p.1 p.2 n)):UB p n Q:=by
 unfold UB;show A7 (decide (cHi p.2 n<=cLo p.1)) (Q (cLo p.1,0)) (Q (cLo p.1,AJ (cHi p.2 n - cLo p.1)));have O:=vO p.1 p.2 n J D;unfold ext at d;refine A2 (λh=>?_) (λh=>?_)
 . rwa [if_neg (by omega)] at d
 . rw[if_pos (by omega)] at d
   rwa [AK (by omega) (by omega)]
def yV (c d:Int) (t:A5):Bool:=decide (c<=t.Col∧t.Col<d)
def shf (l c:Int) (t:A5):A5:=⟨t.Row - l,t.Col - c,t.Val⟩
theorem ApS {ts:List A5} (h:Srt ts) (l c d:Int) (v:Nat) (V:l<=v):XB l ((v:Int)+1) c d ts=XB l v c d ts++((PX ts v).filter (yV c d)).map (shf l c):=by
 unfold XB;rw[show(λt:A5=>(⟨t.Row - l,t.Col - c,t.Val⟩:A5))=shf l c from rfl,<-iE];congr 1;refine AkK (X2 _ h) (List.pairwise_append.2 ⟨X2 _ h,X2 _ (X2 _ h),λ_ J _ O=>?_⟩) λt=>?_
 . have D:=(List.mem_filter.1 J).2;have U:=(List.mem_filter.1 (List.mem_filter.1 O).1).2;simp only[decide_eq_true_eq] at D U;unfold KY key;simp only;omega
 . unfold PX yV;grind
theorem AkL {ts:List A5} {l h c d:Int} (D:h<=l):XB l h c d ts=[]:=by unfold XB;rw[List.filter_eq_nil_iff.2]; all_goals grind
theorem vP {a:Rows} {rows cols:Int} {ts:List A5} {p q:Int×Int} {Q:Rows->Prop} (hl:aY a) (ha:cW a=BR rows cols ts) (h:Canon rows cols ts) (W:Q (ApR rows cols ts p q)):W9 a p q Q:=by
 unfold W9;have d9:=h.len;have d7:=h.r1; have d6:=h.c1;have b1:=vO p.1 p.2 rows h.r0 h.r1;have b2:=vO q.1 q.2 cols h.c0 h.c1;refine mS hl ?_;rw[ha];refine AaN h.r0 h.r1 (AaN h.c0 h.c1 ?_);show B4 _ _;have d:=AaM h p q;unfold ApR at W;have c2:(BR rows cols ts).Rows=rows:=rfl;have a8:(BR rows cols ts).Cols=cols:=rfl;rw[a8,c2];generalize hL:cLo p.1=L at *;generalize hH:cHi p.2 rows=H at *;generalize hC:cLo q.1=C at *;generalize hD:cHi q.2 cols=D at *;have eE:ext p.1 p.2 rows=if L<H then H - L else 0:=by unfold ext; rw[hL,hH]
 have eF:ext q.1 q.2 cols=if C<D then D - C else 0:=by unfold ext; rw[hC,hD]
 generalize ext p.1 p.2 rows=E at *;generalize ext q.1 q.2 cols=F at *;dsimp only;obtain⟨n,hn⟩:∃ n:Nat,E=n:=⟨E.toNat,by omega⟩;rw[hn];refine AL (λ(s:List A5) i=>(s,i)) 0 n (by omega) (λi s=>s=XB L (L+(i:Nat)) C D ts) (by omega) (s0:=[]) (by rw[AkL (by omega)]) (λi s next _ _ J U=>?_) (λs next J=>?_)
 . subst J;dsimp only
   have d4:L<H∧E=H - L:=by omega
   obtain⟨v,hv⟩:∃ v:Nat,L+(i:Int)=v:=⟨(L+i).toNat,by omega⟩;have e1:AJ (L+(i:Int))=v:=by rw[AK (by omega) (by omega)]; exact hv
   rw[e1];refine A2 (λ_=>?_) (λh=>by omega);refine Ai2 h.sml (QZ h) h ?_;have a5:AtK rows ts v=(PX ts v).map sY:=by unfold AtK; grind
   rw[a5];have d8:=vN ts v;have d3:∀ t∈PX ts v,t.Row=v:=λt V=>by simpa using (List.mem_filter.1 V).2
   have b0:∀ t∈PX ts v,tZ rows cols t:=λt V=>h.inn t (List.mem_filter.1 V).1;have a2:=ApS h.srt L C D v (by omega);rw[show(v:Int)+1=L+((i+1:Nat):Int) by omega] at a2;rw[a2] at U
   have d2:(XB L v C D ts).length<=ts.length:=by unfold XB;grind
   rw[hv];generalize XB L v C D ts=a6 at U d2;generalize PX ts v=xs at *;refine AL (λ(s:List A5) i=>(s,i)) 0 xs.length (by omega) (λj s=>s=a6++((xs.take j).filter (yV C D)).map (shf L C)) (by omega) (by simp) (λj s nx _ Z J a4=>?_) (λs nx J=>?_)
   . subst J;dsimp only;refine A2 (λ_=>?_) (λh=>by simp at h; omega);have J:=PW Z;have a9:=b0 _ J;have hr:=d3 _ J;unfold tZ at a9
     have d0:(xs.take (j+1)).filter (yV C D)=(xs.take j).filter (yV C D)++if yV C D xs[j]=true then [xs[j]] else []:=by rw[eX Z,jG,AoH,List.filter_nil]
     refine AP (by omega) (x:=sY xs[j]) (by simp[Z]) ?_;have a7:(sY xs[j]).At=xs[j].Col:=rfl;have d1:(sY xs[j]).Val=xs[j].Val:=rfl;rw[a7,d1];refine CA (λb=>b=yV C D xs[j]) ?_ λ_ hk=>?_
     . rintro _ rfl;refine⟨λO=>AO ?_ (a4 _ ?_),λO=>a4 _ ?_⟩
       . grind
       . have d5:C<=xs[j].Col∧xs[j].Col<D:=by simpa[yV] using O
         rw[d0,if_pos O,iE,lL,AK (x:=xs[j].Col - C) (by omega) (by omega)];grind[shf]
       all_goals grind
     . refine A2 (λO=>hk _ ?_) (λO=>hk _ ?_)
       . unfold yV;apply decide_eq_decide.2;rw[eF,AK (x:=xs[j].Col - C) (by omega) (by omega)];split <;> omega
       all_goals grind[yV]
   . subst J;dsimp only;refine A2 (λh=>by simp at h) (λ_=>U _ ?_);rw[RV]
 . subst J;dsimp only;refine A2 (λh=>by omega) (λ_=>?_)
   have e:XB L (L+(n:Int)) C D ts=XB L H C D ts:=by grind[AkL]
   rw[e];rw[hn] at d W;refine vK (by omega) (by omega) (by have:=d.len; omega) (λt V=>?_) W;have:=d.inn t V;unfold tZ at this;exact⟨this.1,this.2.1⟩
theorem AmB {r rows cols:Int} {kvs:List (HM×Int)} (h:0<=rows∧rows<=4096∧0<=cols∧cols<=4096) (O:kvs.length<=65536) (hk:∀ t∈kvs,tZ rows cols (mkT t.1 0)) (D:∀ t∈kvs,EA t.2):Canon rows cols (TI (SC r kvs) mkT).1:=by
 refine⟨h.1,h.2.1,h.2.2.1,h.2.2.2,?_,?_,?_⟩
 . exact gN (AtI _) (by have:=(tX r kvs D).1; omega)
 . unfold TI;split
   . unfold Srt;rw[X3];exact jU r kvs
   . exact .nil
 . intro t d;unfold TI at d;split at d
   . obtain⟨_,hp,rfl⟩:=List.mem_map.1 d;have⟨x,J,e⟩:=AtH hp;have:=hk x J;unfold tZ mkT at *;rw[<-e];exact this
   . simp at d
def rR (n:Int) (e:B5):Prop:=(0<=e.From∧e.From<n)∧(0<=e.To∧e.To<n)
instance (n:Int) (e:B5):Decidable (rR n e):=by unfold rR; infer_instance
def wOk (e:B5):Prop:=0<=e.W∧e.W<=2147483647
instance (e:B5):Decidable (wOk e):=by unfold wOk; infer_instance
def G3 (g:Graph):Int:=
 if g.N<0 then 3 else if 4096<g.N∨65536<g.Edges.length then 5 else if ¬ ∀ e∈g.Edges,rR g.N e then 3 else if ¬ ∀ e∈g.Edges,wOk e then 7 else 0
theorem JJ {g:Graph} (h:G3 g=0):0<=g.N∧g.N<=4096∧g.Edges.length<=65536∧(∀ e∈g.Edges,rR g.N e)∧∀ e∈g.Edges,wOk e:=by grind[G3]
theorem cZ {g:Graph} {Q:Int->Prop} (J:Q (G3 g)):RY g Q:=by
 unfold RY;unfold G3 at J;refine A2 (λh=>?_) (λh=>?_)
 . rwa [if_pos h] at J
 rw[if_neg h] at J;refine CA (λb=>b=decide (4096<g.N∨65536<g.Edges.length)) ?_ λ_ hk=>?_
 . rintro _ rfl;refine A2 (λW=>?_) (λW=>?_)
   . rwa [if_pos W] at J
   rw[if_neg W] at J;unfold D6 DO OX LA;refine CR g.Edges.length (by omega) (λi=>∀ (j:Nat) (D:j<g.Edges.length),j<i->rR g.N g.Edges[j]) (by simp) (λi next hi V hn=>?_) (λnext V=>?_)
   . refine A2 (λ_=>?_) (λh=>by omega)
     have hbad (hb:¬rR g.N g.Edges[i]):A7 (decide (0<=(i:Int))) (Q 3) (CF g.Edges λa5=>A7 a5 (Q 7) (Q 0)):=by refine A2 (λ_=>?_) (λh=>by omega);grind
     refine B8 hi ?_;refine A2 (λO=>AV rfl (AV rfl (hbad λd=>by unfold rR at d; omega))) (λO=>?_);refine A2 (λZ=>AV rfl (hbad λd=>by unfold rR at d; omega)) (λZ=>?_);refine A2 (λh3=>AV rfl (hbad λd=>by unfold rR at d; omega)) (λh3=>?_);refine A2 (λh4=>hbad λd=>by unfold rR at d; omega) (λh4=>hn λj D a4=>?_);grind[rR]
   . refine A2 (λh=>by omega) (λ_=>AH (by decide) ?_)
     have a2:∀ e∈g.Edges,rR g.N e:=λe U=>by obtain⟨j,D,rfl⟩:=tM U;exact V j D D
     rw[if_neg (λh=>h a2)] at J;unfold CF DP OY;refine CR g.Edges.length (by omega) (λi=>∀ (j:Nat) (D:j<g.Edges.length),j<i->wOk g.Edges[j]) (by simp) (λi next hi V hn=>?_) (λnext V=>?_)
     . refine A2 (λ_=>?_) (λh=>by omega)
       have hbad (hb:¬wOk g.Edges[i]):A7 (decide (0<=(i:Int))) (Q 7) (Q 0):=by refine A2 (λ_=>?_) (λh=>by omega);grind
       refine B8 hi (A2 (λO=>AV rfl (hbad λd=>by unfold wOk at d; omega)) (λO=>A2 (λZ=>hbad λd=>by unfold wOk at d; omega) (λZ=>hn λj D a4=>?_)));grind[wOk]
     . refine A2 (λh=>by omega) (λ_=>AH (by decide) ?_)
       rwa [if_neg (λh=>h λe U=>by obtain⟨j,D,rfl⟩:=tM U;exact V j D D)] at J
 . refine A2 (λO=>hk _ ?_) (λO=>hk _ ?_)
   all_goals grind
def kvF (e:B5):HM×Int:=((e.To,e.From),e.W)
def rS (e:B5):B5:=⟨e.To,e.From,e.W⟩
def EP (g:Graph):List A5:=(TI (SC 1 (g.Edges.map kvF)) mkT).1
theorem dA {g:Graph} (h:G3 g=0):Canon g.N g.N (EP g):=by
 have⟨J,O,V,U,W⟩:=JJ h;refine AmB ⟨J,O,J,O⟩ (by simpa using V) (λt D=>?_) (λt D=>?_)
 . obtain⟨e,d,rfl⟩:=List.mem_map.1 D;have:=U e d;unfold rR at this;unfold tZ mkT kvF;simp only;omega
 . obtain⟨e,d,rfl⟩:=List.mem_map.1 D;have:=W e d;unfold wOk at this;unfold EA kvF;simp only;omega
def qB (g:Graph):Rows×Int:=if G3 g=0 then (BR g.N g.N (EP g),0) else (zR,G3 g)
theorem mT {g:Graph} {Q:Rows×Int->Prop} (O:Q (qB g)):Q7 g Q:=by
 unfold Q7;unfold qB at O;refine cZ (BO (λh=>?_) (λh=>?_))
 . rwa [if_neg h] at O
 rw[if_pos h] at O;have J:=dA h;have⟨h1,_,_,_,h5⟩:=JJ h
 have hv:∀ t∈g.Edges.map rS,EA t.W:=λt Z=>by obtain⟨e,he,rfl⟩:=List.mem_map.1 Z;have:=h5 e he;unfold wOk at this;unfold EA rS;simp only;omega
 unfold Q6 P1 ML;refine AL (λ(s:List B5) i=>(s,i)) 0 g.Edges.length (by omega) (λi s=>s=(g.Edges.take i).map rS) (by omega) rfl (λi s next _ hi U V=>?_) (λs next U=>?_)
 . subst U;dsimp only;refine A2 (λ_=>?_) (λh=>by omega);refine B8 hi (AV rfl (AO ?_ (V _ ?_)))
   . simp; omega
   . rw[M6 hi]; rfl
 . subst U;dsimp only;refine A2 (λh=>by omega) (λ_=>?_);rw[RV];unfold HU;refine vI (by omega) (by simp; omega) hv ?_;dsimp only;have a2:(g.Edges.map rS).map kvE=g.Edges.map kvF:=by rw[AeC]; rfl
   rw[a2];have a4:=(Az8 (SC 1 (g.Edges.map kvF))).1;have d:=J.len;have D:=J.inn;unfold EP at O d D;rw[a4] at O d D;generalize (TI (SC 1 (g.Edges.map kvF)) mkE).1=es at O d D;have a5:es.length<=65536:=by simpa using d
   refine AL (λ(s:List A5) i=>(s,i)) 0 es.length (by omega) (λi s=>s=(es.take i).map e2t) (by omega) rfl (λi s next _ hi U V=>?_) (λs next U=>?_)
   . subst U;dsimp only;refine A2 (λ_=>?_) (λh=>by omega);refine B8 hi (AO ?_ (V _ ?_))
     . simp; omega
     . rw[M6 hi]; rfl
   . subst U;dsimp only;refine A2 (λh=>by omega) (λ_=>?_);rw[RV];refine vK h1 (by omega) (by simp; omega) (λt Z=>?_) O;have:=D t Z;unfold tZ at this;exact⟨this.1,this.2.1⟩
theorem ApT:aY zR:=⟨by decide,by decide,by decide⟩
theorem ApU:¬UO zR:=λh=>by have:=h.sl; simp[zR] at this
def AxW (r:Int) (k:HM) (ts:List (HM×Int)):Option AQ:=ts.foldl (λo t=>if k=t.1 then some (match o with | some w=>KJ r w (cT t.2) | none=>cT t.2) else o) none
theorem ApV (r:Int) (k:HM) (ts:List (HM×Int)):BG k (SC r ts)=AxW r k ts:=by
 suffices ∀ (ts:List (HM×Int)) (l:List (HM×AQ)),srt l->BG k (ts.foldl (λl t=>ins r t.1 (cT t.2) l) l)=ts.foldl (λo t=>if k=t.1 then some (match o with | some w=>KJ r w (cT t.2) | none=>cT t.2) else o) (BG k l) from this ts [] .nil
 intro ts
 induction ts with
 | nil=>intro l _; rfl
 | cons t ts d=>
  intro l h;simp only[cF];rw[d _ (tW h),Ac6 k h];grind
def sw (p:HM×AQ):HM×AQ:=((p.1.2,p.1.1),p.2)
theorem ApW (k:HM):∀ l:List (HM×AQ),BG k (l.map sw)=BG (k.2,k.1) l
 | []=>rfl
 | p :: l=>by have⟨⟨_,_⟩,_⟩:=p;have⟨c,d⟩:=k;simp only[OU,BG,sw,ApW (c,d) l,AeF];grind
theorem AtL {l:List (HM×AQ)} (h:EY l):EY (l.map sw):=by unfold EY at *;grind[sw]
theorem AkM (es:List B5):((SC 1 (es.map kvE)).map sw).Perm (SC 1 (es.map kvF)):=by refine pY (AtL (cU (jU _ _))) (cU (jU _ _)) λk=>?_;rw[ApW,ApV,ApV];unfold AxW;rw[AjS,AjS];congr 1;funext o e;have⟨_,_⟩:=k;simp only[kvE,kvF,AeF];grind
theorem uB {v:Int} (h:EA v):HL (cT v)=(v,true):=by
 unfold HL cT;unfold EA at h;simp only;rw[if_pos]
 . rw[M4]; congr 1; omega
 . split <;> omega
theorem AwA (ts:List (HM×Int)) (d:∀ t∈ts,EA t.2):∀ p∈SC 1 ts,∃ v,EA v∧p.2=cT v:=by
 suffices ∀ (ts:List (HM×Int)) (l:List (HM×AQ)),(∀ t∈ts,EA t.2)->(∀ p∈l,∃ v,EA v∧p.2=cT v)->∀ p∈ts.foldl (λl t=>ins 1 t.1 (cT t.2) l) l,∃ v,EA v∧p.2=cT v from this ts [] d (by simp)
 have D:∀ (k:HM) (v:Int),EA v->∀ l:List (HM×AQ),(∀ p∈l,∃ v,EA v∧p.2=cT v)->∀ p∈ins 1 k (cT v) l,∃ v,EA v∧p.2=cT v:=by
  intro k v d l
  induction l with
  | nil=>intro _ p hp; simp[ins] at hp; exact⟨v,d,by rw[hp]⟩
  | cons q l J=>
   intro h p hp;unfold ins at hp;split at hp
   . rcases List.mem_cons.1 hp with rfl | hp
     . exact h _ (by simp)
     all_goals grind
   . split at hp
     . rcases List.mem_cons.1 hp with rfl | hp
       . have⟨u,U,e⟩:=h q (by simp);unfold KJ;simp only[true_or,if_true];split
         . exact⟨u,U,e⟩
         . exact⟨v,d,rfl⟩
       . exact h p (by simp[hp])
     . rcases List.mem_cons.1 hp with rfl | hp
       . exact⟨v,d,rfl⟩
       . exact h p hp
 intro ts
 induction ts with
 | nil=>intro l _ h; exact h
 | cons t ts J=>intro l O h; exact J _ (λx V=>O x (by simp[V])) (D _ _ (O t (by simp)) l h)
theorem uC {α:Type} {mk:HM->Int->α} {ts:List (HM×Int)} (d:∀ t∈ts,EA t.2):TI (SC 1 ts) mk=((SC 1 ts).map (λp=>mk p.1 (HL p.2).1),0):=by refine Af2 (m:=[]) (.refl _) λp _=>?_;grind[AwA,uB]
theorem AkN (a:AQ):EA (HL a).1:=by
 unfold HL EA;split
 . simp only[M4]; omega
 . simp
theorem ApX {r:Int} {k:HM} {v:AQ} {l:List (HM×AQ)} (h:∀ p∈l,KY p.1 k):ins r k v l=l++[(k,v)]:=by
 induction l with
 | nil=>rfl
 | cons p l d=>unfold ins; grind
theorem AtM {r:Int} {T:List A5} (h:Srt T):SC r (T.map kvT)=T.map λt=>(key t,cT t.Val):=by
 suffices ∀ i,i<=T.length->SC r ((T.take i).map kvT)=(T.take i).map λt=>(key t,cT t.Val) by have:=this T.length (Z0 _);grind
 intro i
 induction i with
 | zero=>intro _; rfl
 | succ i D=>
  intro hi;rw[M6 (show i<T.length by omega),M6 (show i<T.length by omega),AkD,D (by omega),ApX]
  . rfl
  . intro p hp;obtain⟨t,J,rfl⟩:=List.mem_map.1 hp;obtain⟨j,d,rfl⟩:=tM J;simp only[VK] at d;rw[AbT];exact List.pairwise_iff_getElem.1 h j i (by omega) (by omega) (by omega)
theorem AmC {rows cols:Int} {T:List A5} (h:Canon rows cols T):OI rows (OI cols T)=T:=by refine AkK (cY _ (cY _ h.srt)) h.srt λ_=>?_;rw[YA (ZP h),YA h]; rfl
theorem AkO {l h c d:Int} {T:List A5} (t:A5):t∈XB l h c d T↔(⟨t.Row+l,t.Col+c,t.Val⟩:A5)∈T∧(0<=t.Row∧t.Row+l<h)∧0<=t.Col∧t.Col+c<d:=by
 unfold XB;simp only[gL,AlZ,decide_eq_true_eq];constructor
 . rintro⟨_,⟨_,_⟩,rfl⟩;simp_all
 all_goals grind
theorem Af7 {l d:List Int} (h:l.Pairwise (· < ·)) (D:d.Pairwise (· < ·)) (U:∀ x,x∈l↔x∈d):l=d:=by have J:∀ {l:List Int},l.Pairwise (· < ·)->l.Nodup:=λh=>List.nodup_iff_pairwise_ne.2 (h.imp λ_=>by omega);have hp:=(yK (J h) (J D)).2 U;exact hp.eq_of_pairwise (λ_ _ _ _ _ _=>by omega) h D
theorem RP {l:List Int} (h:l.Pairwise (· < ·)) {i j:Nat} (d:i<j) (D:j<l.length):at0 l i<at0 l j:=by unfold at0;have:=List.pairwise_iff_getElem.1 h i j (by omega) D d;grind
theorem Ac9 {l:List Int} {x:Int} (h:x∈l):∃ i:Nat,i<l.length∧at0 l i=x:=by obtain⟨i,hi,rfl⟩:=tM h;exact⟨i,hi,by unfold at0; simp[sU,hi]⟩
def AwB (T:List A5) (c:Nat):Bool:=T.any λt=>decide (t.Row=(c:Int))
def MY (n:Nat) (T:List A5):List Int:=((List.range n).filter (AwB T)).map λc:Nat=>(c:Int)
theorem KK (n:Nat) (T:List A5):(MY n T).Pairwise (· < ·):=by unfold MY;rw[X3];exact uO (λ{a b} h=>by omega) ((AoA (n:=n)).filter _)
theorem LG {n:Nat} {T:List A5} {x:Int}:x∈MY n T↔(0<=x∧x<n)∧∃ t∈T,t.Row=x:=by
 unfold MY AwB;simp only[gL,AlZ,AjU,AoG,decide_eq_true_eq];constructor
 . grind
 . rintro⟨⟨_,_⟩,t,ht,_⟩; exact⟨x.toNat,⟨by omega,t,ht,by omega⟩,by omega⟩
theorem mU (n:Nat) (T:List A5):(MY n T).length<=n:=by grind[MY]
def jW (n:Nat) (T:List A5):List Int:=0 :: (MY n T).map λx=>FG T (x.toNat+1)
def UP (rows cols:Int) (T:List A5):BE:=⟨rows,cols,MY cols.toNat T,jW cols.toNat T,T.map (·.Col),T.map (·.Val)⟩
theorem dB (n:Nat) (T:List A5):(jW n T).length=(MY n T).length+1:=by simp[jW]
theorem ApY {n:Nat} {T:List A5} {j:Nat} (d:j<(MY n T).length):at0 (jW n T) ((j:Int)+1)=FG T ((at0 (MY n T) j).toNat+1):=by unfold jW at0;grind
theorem AaO {n:Nat} {T:List A5} {j:Nat} (d:j<(MY n T).length):(0<=at0 (MY n T) j∧at0 (MY n T) j<n)∧∃ t∈T,t.Row=at0 (MY n T) j:=
 LG.1 (tU (by omega) (by omega))
theorem AcA {rows cols:Int} {T:List A5} (h:Canon cols rows T) {t:A5} (D:t∈T):∃ q:Nat,q<(MY cols.toNat T).length∧at0 (MY cols.toNat T) q=t.Row:=by have d:=h.inn t D;unfold tZ at d;exact Ac9 (LG.2 ⟨⟨by omega,by omega⟩,t,D,rfl⟩)
theorem AxX {rows cols:Int} {T:List A5} (h:Canon cols rows T) {j:Nat} (V:j<(MY cols.toNat T).length):at0 (jW cols.toNat T) j=FG T (at0 (MY cols.toNat T) j).toNat:=by
 have d:=KK cols.toNat T
 have W:=(AaO V).1
 cases j with
 | zero=>
  rw[show at0 (jW cols.toNat T) ((0:Nat):Int)=0 from rfl]
  unfold FG
  rw[List.countP_eq_zero.2]; · rfl
  intro t O
  have⟨q,J,e⟩:=AcA h O
  simp only[decide_eq_true_eq]
  rw[<-e]
  by_cases e0:q=0
  . subst e0; omega
  . have:=RP d (show 0<q by omega) J; omega
 | succ i=>
  rw[show((i+1:Nat):Int)=(i:Int)+1 by omega,ApY (show i<(MY cols.toNat T).length by omega)]
  unfold FG
  congr 1
  apply List.countP_congr
  intro t O
  simp only[decide_eq_true_eq]
  have D:=RP d (show i<i+1 by omega) V
  rw[show((i+1:Nat):Int)=(i:Int)+1 by omega] at D W
  have h1:=(AaO (show i<(MY cols.toNat T).length by omega)).1
  constructor
  . intro Z; omega
  . intro Z
    have⟨q,J,e⟩:=AcA h O
    have a2:q<=i:=by
      rcases Z1 i q with U | U
      . exfalso
        by_cases e1:q=i+1
        . grind
        . have:=RP d (show i+1<q by omega) J
          grind
      . exact U
    by_cases e1:q=i
    . subst e1; omega
    . have:=RP d (show q<i by omega) (by omega); omega
theorem Canon.colseg {rows cols:Int} {T:List A5} (h:Canon cols rows T) {j:Nat} (d:j<(MY cols.toNat T).length) :
  ∃ x lo hi:Nat,at0 (MY cols.toNat T) j=x∧(x:Int)<cols∧at0 (jW cols.toNat T) j=lo∧at0 (jW cols.toNat T) ((j:Int)+1)=hi∧lo<hi∧Seg T x lo hi:=by
 have⟨⟨_,U⟩,_,ht,_⟩:=AaO d;obtain⟨x,J⟩:∃ x:Nat,at0 (MY cols.toNat T) j=x:=⟨(at0 (MY cols.toNat T) j).toNat,by omega⟩;have⟨lo,hi,s⟩:=h.seg x;have W:=h.r0;have D:at0 (jW cols.toNat T) j=lo:=by rw[AxX h d,J,YZ,s.lo]
 have O:at0 (jW cols.toNat T) ((j:Int)+1)=hi:=by rw[ApY d,J,YZ,s.hi]
 refine⟨x,lo,hi,J,by omega,D,O,?_,s⟩;obtain⟨_,hp,rfl⟩:=tM ht;have:=(h.srt.at hp (i:=x)).1 (by omega);have U:=s.lo; have V:=s.hi;omega
def AxY (c:BE) (i:Nat):Prop:=∀ j:Nat,at0 c.Start i<=j->(j:Int)<at0 c.Start ((i:Int)+1)->0<=at0 c.Row j∧at0 c.Row j<c.Rows∧(at0 c.Start i<j->at0 c.Row ((j:Int) - 1)<at0 c.Row j)
structure AmD (c:BE):Prop where
 r0:0≤c.Rows
 r1:c.Rows≤4096
 c0:0≤c.Cols
 c1:c.Cols≤4096
 sl:(c.Start.length:Int)=(c.At.length:Int)+1
 vl:c.Val.length=c.Row.length
 cl:c.Row.length≤65536
 s0:at0 c.Start 0=0
 sn:at0 c.Start c.At.length=c.Row.length
 at_:∀ i:Nat,i<c.At.length→0≤at0 c.At i∧at0 c.At i<c.Cols∧(0<i→at0 c.At ((i:Int) - 1)<at0 c.At i)
 up:∀ i:Nat,i<c.At.length→at0 c.Start i<at0 c.Start ((i:Int)+1)
 row:∀ i:Nat,i<c.At.length→AxY c i
noncomputable instance (c:BE):Decidable (AmD c):=Classical.propDecidable _
def XC (c:BE):Prop:=c.At.length<=1000000000∧c.Start.length<=1000000000∧c.Row.length<=1000000000000
theorem UQ {x y:Int} {Q:Bool->Prop} (d:Q (decide (0<=x∧x<=y))):OE x y Q:=by
 unfold OE;refine A2 (λh=>?_) (λh=>?_)
 all_goals grind
theorem qC {xs:List Int} {cols:Int} {Q:Bool->Prop} (a2:0<=cols) (a4:cols<=1000000000) (hl:xs.length<=1000000000)
   (U:(∀ j:Nat,j<xs.length->0<=at0 xs j∧at0 xs j<cols∧(0<j->at0 xs ((j:Int) - 1)<at0 xs j))->Q true) (O:(∃ j:Nat,j<xs.length∧¬(0<=at0 xs j∧at0 xs j<cols∧(0<j->at0 xs ((j:Int) - 1)<at0 xs j)))->Q false):OG xs cols Q:=by
 unfold OG;rw[AK (by omega) (by omega)];refine CR xs.length (by omega) (λi=>∀ j:Nat,j<i->j<xs.length->0<=at0 xs j∧at0 xs j<cols∧(0<j->at0 xs ((j:Int) - 1)<at0 xs j)) (by simp) (λi next hi J Z=>?_) (λnext J=>?_)
 . refine A2 (λ_=>?_) (λh=>by omega);refine BL (by omega) (by omega) (UQ (BW (λh=>O ⟨i,hi,λV=>?_⟩) (λh=>?_)))
   . simp at h; omega
   have h:0<=at0 xs i∧at0 xs i<=cols - 1:=by simpa using h
   have hstep (hx:0<i->at0 xs ((i:Int) - 1)<at0 xs i):next (AJ ((i:Int)+1)):=Z λj D _=>by grind
   refine A2 (λW=>?_) (λW=>hstep λh=>by omega);rw[AK (by omega) (by omega)];refine BL (by omega) (by omega) (A2 (λd=>O ⟨i,hi,λV=>?_⟩) (λd=>hstep λ_=>by omega));omega
 . exact A2 (λh=>by omega) (λ_=>U λj D=>J j D D)
theorem AvG {xs:List Int} {n:Nat} (h:∀ i:Nat,i<n->at0 xs i<at0 xs ((i:Int)+1)) {i j:Nat} (d:i<=j) (D:j<=n):at0 xs i<=at0 xs j:=by
  induction j with
  | zero=>grind
  | succ j J=>
    grind
theorem iI {c:BE} {Q:Bool->Prop} (hl:XC c) (hQ:Q (decide (AmD c))):UD c Q:=by
 unfold UD;have hno (h:¬AmD c):Q false:=by grind
 have hyes (h:AmD c):Q true:=by grind
 unfold XC at hl;refine UQ (BW (λh=>hno λd=>?_) (λh=>?_))
 . have:=d.r0; have:=d.r1; simp at h; omega
 have h1:0<=c.Rows∧c.Rows<=4096:=by simpa using h
 refine UQ (BW (λh=>hno λd=>?_) (λh=>?_))
 . have:=d.c0; have:=d.c1; simp at h; omega
 have h2:0<=c.Cols∧c.Cols<=4096:=by simpa using h
 rw[AK (by omega) (by omega)];refine BO (λh=>hno λd=>h d.sl) (λh3=>?_);refine BO (λh=>hno λd=>h (by rw[d.vl])) (λ_=>?_);refine A2 (λh=>hno λd=>by have:=d.cl; omega) (λ_=>?_);have b0:c.Start.length=c.At.length+1:=by omega
 refine qC h2.1 (by omega) (by omega) (λa6=>AH rfl ?_) (λZ=>AV rfl (hno λd=>?_));rotate_left
 . have⟨i,hi,D⟩:=Z;exact D (d.at_ i hi)
 rw[AK (by omega) (by omega)];refine qC (by omega) (by omega) (by omega) (λW=>AH rfl ?_) (λZ=>AV rfl (hno λd=>?_));rotate_left
 . have⟨i,hi,D⟩:=Z;have g0:=AvG d.up (i:=0) (j:=i) (by omega) (by omega);have g1:=AvG d.up (i:=i) (j:=c.At.length) (by omega) (by omega);have e0:=d.s0; have en:=d.sn;rw[show((0:Nat):Int)=0 from rfl] at g0;refine D ⟨by omega,by omega,λ_=>?_⟩;have:=d.up (i - 1) (by omega);grind
 refine BL (by omega) (by omega) (BO (λh=>hno λd=>h d.s0) (λh6=>?_));refine BL (by omega) (by omega) (BO (λh=>hno λd=>h d.sn) (λh7=>?_))
 have a5:∀ i:Nat,i<c.At.length->at0 c.Start i<at0 c.Start ((i:Int)+1):=λi hi=>by have:=(W (i+1) (by omega)).2.2 (by omega);grind
 refine CR c.At.length (by omega) (λi=>∀ j:Nat,j<i->AxY c j) (by simp) (λi next hi hR a4=>?_) (λnext hR=>?_)
 . refine A2 (λ_=>?_) (λh=>by omega);have e1:AJ ((i:Int)+1)=(i:Int)+1:=AK (by omega) (by omega);rw[e1] at a4 ⊢;have a2:0<=at0 c.Start i:=(W i (by omega)).1
   have V:at0 c.Start ((i:Int)+1)<=c.Row.length:=by have:=(W (i+1) (by omega)).2.1;grind
   have hm:=a5 i hi;refine BL (by omega) (by omega) (BL (by omega) (by omega) ⟨a2,by omega,V,?_⟩);have J:=AkI a2 (Aa8 hm) V;have U:∀ j:Nat,at0 c.Start i+j<at0 c.Start ((i:Int)+1)->at0 ((c.Row.take (at0 c.Start ((i:Int)+1)).toNat).drop (at0 c.Start i).toNat) j=at0 c.Row (at0 c.Start i+j):=λj hj=>AkH a2 (Aa8 hm) V hj;refine qC (by omega) (by omega) (by rw[J]; omega) (λa7=>AH rfl (a4 λj hj=>?_)) (λZ=>AV rfl (hno λd=>?_))
   . by_cases e:j=i
     . subst e;intro p a8 a9;obtain⟨q,hq⟩:∃ q:Nat,(p:Int)=at0 c.Start j+q:=⟨(p - at0 c.Start j).toNat,by omega⟩;have O:=a7 q (by rw[J]; omega);rw[U q (by omega),<-hq] at O;refine⟨O.1,O.2.1,λ_=>?_⟩;have:=O.2.2 (by omega);rw[show(q:Int) - 1=((q - 1:Nat):Int) by omega,U (q - 1) (by omega),show at0 c.Start j+((q - 1:Nat):Int)=(p:Int) - 1 by omega] at this;exact this
     . exact hR j (by omega)
   . have⟨q,hq,D⟩:=Z;rw[J] at hq;apply D;have O:=d.row i hi (at0 c.Start i+q).toNat (by omega) (by omega);have ep:(((at0 c.Start i+q).toNat:Nat):Int)=at0 c.Start i+q:=by omega
     rw[ep] at O;rw[U q (by omega)];refine⟨O.1,O.2.1,λ_=>?_⟩;have:=O.2.2 (by omega);rw[show(q:Int) - 1=((q - 1:Nat):Int) by omega,U (q - 1) (by omega),show at0 c.Start i+((q - 1:Nat):Int)=at0 c.Start i+q - 1 by omega];exact this
 . refine A2 (λh=>by omega) (λ_=>hyes ⟨h1.1,h1.2,h2.1,h2.2,h3,by omega,by omega,h6,h7,a6,a5,λi hi=>hR i (by omega)⟩)
theorem Canon.colp {rows cols:Int} {T:List A5} (h:Canon cols rows T):AmD (UP rows cols T) where
 r0:=h.c0
 r1:=h.c1
 c0:=h.r0
 c1:=h.r1
 sl:=by simp[UP,dB]
 vl:=by simp[UP]
 cl:=by simpa[UP] using h.len
 s0:=rfl
 sn:=by
  show at0 (jW cols.toNat T) (MY cols.toNat T).length=((T.map (·.Col)).length:Int);rw[gK]
  cases hl:(MY cols.toNat T).length with
  | zero=>
   have hn:T=[]:=by
     rcases T with _ | ⟨t,T⟩
     . rfl
     . have⟨q,hq,_⟩:=AcA h (t:=t) (by simp);omega
   subst hn; rfl
  | succ n=>
   have hj:n<(MY cols.toNat T).length:=by omega
   rw[show((n+1:Nat):Int)=(n:Int)+1 by omega,ApY hj];unfold FG;rw[List.countP_eq_length.2];intro t ht;have⟨q,hq,e⟩:=AcA h ht;simp only[decide_eq_true_eq];rw[<-e];have h0:=(AaO hj).1;by_cases e1:q=n
   . subst e1; omega
   . have:=RP (KK cols.toNat T) (show q<n by omega) hj; omega
 at_ i hi:=by have h0:=(AaO (T:=T) (n:=cols.toNat) hi).1;refine⟨h0.1,by have:=h.r0; show at0 (MY cols.toNat T) i<cols; omega,λhp=>?_⟩;have:=RP (KK cols.toNat T) (show i - 1<i by omega) hi;rw[show((i - 1:Nat):Int)=(i:Int) - 1 by omega] at this;exact this
 up i hi:=by have⟨x,lo,hi',h1,h2,h3,h4,h5,s⟩:=h.colseg hi;show at0 (jW cols.toNat T) i<at0 (jW cols.toNat T) ((i:Int)+1);omega
 row i hi:=by
  have⟨x,lo,hi',h1,h2,h3,h4,h5,s⟩:=h.colseg hi;intro j hj1 hj2;have hj1:at0 (jW cols.toNat T) i<=j:=hj1;have hj2:(j:Int)<at0 (jW cols.toNat T) ((i:Int)+1):=hj2;show 0<=at0 (T.map (·.Col)) j∧at0 (T.map (·.Col)) j<rows∧(at0 (jW cols.toNat T) i<j->at0 (T.map (·.Col)) ((j:Int) - 1)<at0 (T.map (·.Col)) j);have hl:=s.len;have hjl:j<T.length:=by omega
  have hc:at0 (T.map (·.Col)) j=T[j].Col:=by rw[uA (by omega) (by omega)]; rfl
  have hin:=h.inn _ (PW hjl);unfold tZ at hin;refine⟨by rw[hc]; omega,by rw[hc]; omega,λhlt=>?_⟩;obtain⟨q,rfl⟩:∃ q,j=q+1:=⟨j - 1,by omega⟩;have hc2:at0 (T.map (·.Col)) (((q+1:Nat):Int) - 1)=T[q].Col:=by rw[uA (by omega) (by simp; omega)]; simp
  have r1:=s.row q (by omega) (by omega) (by omega);have r2:=s.row (q+1) hjl (by omega) (by omega);have hs:=List.pairwise_iff_getElem.1 h.srt q (q+1) (by omega) hjl (by omega);unfold KY key at hs;simp only at hs;rw[hc,hc2]; omega
theorem vQ:UP 0 0 []=⟨0,0,[],[0],[],[]⟩:=by simp[UP,MY,jW]
noncomputable def aZ (c:BE):BE:=if AmD c then c else UP 0 0 []
theorem qD {rows cols:Int} {T:List A5} (h:Canon cols rows T):aZ (UP rows cols T)=UP rows cols T:=by unfold aZ; rw[if_pos h.colp]
theorem mV {c:BE} {Q:BE->Prop} (D:XC c) (d:Q (aZ c)):Y3 c Q:=by
 unfold Y3 Y0;unfold aZ at d;refine iI D (A2 (λh=>?_) (λh=>?_))
 . rwa [if_pos h] at d
 . rwa [if_neg h,vQ] at d
theorem Canon.smlC {rows cols:Int} {T:List A5} (h:Canon cols rows T):XC (UP rows cols T):=by have:=h.r1; have:=h.len; have:=mU cols.toNat T;unfold XC UP;simp only[gK,dB];omega
theorem AkP {n:Nat} {T:List A5} {t:A5} (h:∃ u∈T,u.Row=t.Row):MY n (T++[t])=MY n T:=by refine Af7 (KK _ _) (KK _ _) λ_=>?_;rw[LG,LG];grind
theorem AkQ {n:Nat} {T:List A5} {t:A5} (O:0<=t.Row) (U:t.Row<n) (h:∀ u∈T,u.Row<t.Row):MY n (T++[t])=MY n T++[t.Row]:=by
 refine Af7 (KK _ _) ?_ λ_=>?_
 . rw[AjE];refine⟨KK _ _,by simp,λ_ J _ d=>?_⟩;simp at d; subst d;obtain⟨_,u,D,rfl⟩:=LG.1 J;exact h u D
 . rw[sW,LG,LG];grind
theorem AkR (n:Nat):MY n []=[]:=by unfold MY; rw[List.filter_eq_nil_iff.2 (by simp[AwB])]; rfl
theorem AtN (n:Nat):jW n []=[0]:=by unfold jW; rw[AkR]; rfl
theorem vR {T:List A5} {x:Nat} (h:∀ u∈T,u.Row<(x:Int)):FG T x=T.length:=by unfold FG; rw[List.countP_eq_length.2]; grind
theorem AtO {n:Nat} {T:List A5} {t:A5} (O:0<=t.Row) (d:t.Row<n) (h:∀ u∈T,u.Row<t.Row):jW n (T++[t])=jW n T++[(T.length:Int)+1]:=by
 unfold jW;rw[AkQ O d h,iE,pH];congr 2
 . refine yM λ_ J=>?_;have⟨_,u,D,_⟩:=LG.1 J;have:=h u D;rw[vJ,if_neg (by omega)]; omega
 . simp only[OU,AjX];grind[vR]
theorem AkS {l:List Int} (D:l.Pairwise (· < ·)) {x:Int} (d:x∈l) (J:∀ y∈l,y<=x):at0 l ((l.length:Int) - 1)=x:=by
 have⟨q,_,_⟩:=Ac9 d;by_cases h:q=l.length - 1
 . grind
 . have O:=RP D (show q<l.length - 1 by omega) (by omega);have U:=J _ (tU (xs:=l) (i:=((l.length - 1:Nat):Int)) (by omega) (by omega));omega
theorem AtP {n:Nat} {T:List A5} {t:A5} (h0:0<=t.Row) (h1:t.Row<n) (h:∃ u∈T,u.Row=t.Row) (hm:∀ u∈T,u.Row<=t.Row):jW n (T++[t])=(jW n T).set (MY n T).length ((T.length:Int)+1):=by
 have⟨u,W,V⟩:=h;have D:t.Row∈MY n T:=LG.2 ⟨⟨h0,h1⟩,u,W,V⟩;have U:∀ y∈MY n T,y<=t.Row:=λy hy=>by obtain⟨_,v,hv,rfl⟩:=LG.1 hy; exact hm v hv
 have d:=AkS (KK n T) D U;have a2:0<(MY n T).length:=List.length_pos_of_mem D;unfold jW;rw[AkP ⟨u,W,V⟩];obtain⟨m,O⟩:∃ m,(MY n T).length=m+1:=⟨(MY n T).length - 1,by omega⟩;rw[O,AoS];congr 1;apply AjK;intro i;by_cases hi:i<m+1
 . have J:i<(MY n T).length:=by omega
   have Z:(MY n T)[i]=at0 (MY n T) i:=by unfold at0; grind
   by_cases e:m=i
   . grind[vR]
   . rw[AhE e];simp only[List.getElem?_map,gJ J,AhI,Z];have h2:=RP (KK n T) (show i<m by omega) (by omega);rw[O,show((m+1:Nat):Int) - 1=(m:Int) by omega] at d;rw[d] at h2;have h3:=(AaO J).1;rw[vJ,if_neg (by omega)]; simp
 all_goals grind
theorem AwC {T:List A5} (h:Srt T) {i:Nat} (hi:i<T.length):∀ u∈T.take i,u.Row<=T[i].Row:=by intro u d;obtain⟨j,D,rfl⟩:=tM d;simp only[VK] at D;rw[AbT];have:=List.pairwise_iff_getElem.1 h j i (by omega) hi (by omega);unfold KY key at this;simp only at this; omega
theorem qE {T:List A5} {i:Nat} (hi:i<T.length):T.take (i+1)=T.take i++[T[i]]:=eX hi
theorem Ai4 {a:Rows} {rows cols:Int} {ts:List A5} {Q:BE->Prop} (hl:aY a) (V:cW a=BR rows cols ts) (hR:UO a->a=BR rows cols ts) (hN:¬UO a->rows=0∧cols=0∧ts=[]) (h:Canon rows cols ts) (hQ:Q (UP rows cols (OI cols ts))):tT a Q:=by
 unfold tT Y0;refine mR hl (BW (λW=>?_) (λW=>?_))
 . obtain⟨rfl,rfl,rfl⟩:=hN (by simpa using W);rw[show OI 0 ([]:List A5)=[] from rfl,vQ] at hQ;exact hQ
 have W:UO a:=by simpa using W
 have U:=ZP h;refine Af6 hl V h (cX U.sml (QZ U) U ?_);generalize OI cols ts=T at U hQ;have d0:=U.len; have c0:=U.r0; have c1:=U.r1;have a8:=λi=>mU cols.toNat (T.take i);refine AL (λ(s:List Int×List Int×List Int×List Int) (i:Int)=>(s.1,s.2.1,s.2.2.1,s.2.2.2,i)) 0 T.length (by omega) (λi s=>s=(MY cols.toNat (T.take i),jW cols.toNat (T.take i),(T.take i).map (·.Col),(T.take i).map (·.Val))) (by omega) (s0:=([],[0],[],[])) (by simp[AkR,AtN]) (λi s next _ hi hm hn=>?_) (λs next hm=>?_)
 . subst hm;dsimp only;have a9:=U.inn _ (PW hi);unfold tZ at a9;have a5:=AwC U.srt hi;refine A2 (λ_=>?_) (λh=>by omega);refine B8 hi ?_;have a6:(T.take i).length=i:=by simp; omega
   have c2:=a8 i
   have a7:∀ (d D:List Int),d=MY cols.toNat (T.take (i+1))->D.set d.length ((i:Int)+1)=jW cols.toNat (T.take (i+1))->d.length<D.length ->
       DN 8 ((T.take i).map (·.Col)) [T[i].Col] λ_=>DN 8 ((T.take i).map (·.Val)) [T[i].Val] λ_=>BA D (d.length:Int) λ_=>next (d,D.set (d.length:Int).toNat (((T.take i).map (·.Col)++[T[i].Col]).length:Int),(T.take i).map (·.Col)++[T[i].Col],(T.take i).map (·.Val)++[T[i].Val],AJ ((i:Int)+1)):=λd D Z J e3=>by
     refine AO (by simp; omega) (AO (by simp; omega) (B8 e3 (hn (d,D.set _ _,_,_) ?_)));have e4:(((T.take i).map (·.Col)++[T[i].Col]).length:Int)=(i:Int)+1:=by simp; omega
     rw[e4,YZ,J,Z,qE hi,iE,iE]; rfl
   refine CA (λs:List Int×List Int=>s.1=MY cols.toNat (T.take (i+1))∧s.2.set s.1.length ((i:Int)+1)=jW cols.toNat (T.take (i+1))∧s.1.length<s.2.length) (λs hs=>a7 s.1 s.2 hs.1 hs.2.1 hs.2.2) (λ_ hk=>?_);by_cases hnew:∃ u∈T.take i,u.Row=T[i].Row
   . have Z:=AkP (n:=cols.toNat) hnew;have J:=AtP (n:=cols.toNat) (by omega) (by omega) hnew a5;rw[<-qE hi] at Z J;rw[a6] at J;have⟨u,hu,eu⟩:=hnew;have a4:T[i].Row∈MY cols.toNat (T.take i):=LG.2 ⟨⟨by omega,by omega⟩,u,hu,eu⟩;have d1:=List.length_pos_of_mem a4;have b1:=AkS (KK _ _) a4 (λ_ hy=>by obtain⟨_,v,hv,rfl⟩:=LG.1 hy; exact a5 v hv);refine CA (λb=>b=false) (λb V=>by subst V; exact AH rfl (hk _ ⟨Z.symm,J.symm,by rw[dB]; exact Nat.lt_succ_self _⟩)) (λk2 O=>?_);refine AY (λh=>by omega) (λ_=>?_);rw[AK (by omega) (by omega)];refine BL (by omega) (by omega) (O _ ?_);rw[b1]; simp
   . have a2:∀ u∈T.take i,u.Row<T[i].Row:=λu hu=>by grind
     have Z:=AkQ (n:=cols.toNat) (by omega) (by omega) a2;have J:=AtO (n:=cols.toNat) (by omega) (by omega) a2;rw[<-qE hi] at Z J;rw[a6] at J;refine CA (λb=>b=true) (λb V=>?_) (λk2 O=>?_)
     . subst V;refine AV rfl (AO (by simp; omega) (AO (by simp[dB]; omega) (hk _ ⟨Z.symm,?_,?_⟩)))
       . rw[J,bL,Ae7,<-dB,List.set_append_right _ _ (Z0 _)]; simp
       . simp[dB]
     . refine AY (λ_=>O _ rfl) (λ_=>?_);rw[AK (by omega) (by omega)];refine BL (by omega) (by omega) (O _ ?_)
       have b0:at0 (MY cols.toNat (T.take i)) (((MY cols.toNat (T.take i)).length:Int) - 1)≠T[i].Row:=λ_=>by have⟨_,u,hu,_⟩:=LG.1 (tU (xs:=MY cols.toNat (T.take i)) (i:=((MY cols.toNat (T.take i)).length:Int) - 1) (by omega) (by omega));grind
       simpa using b0
 . subst hm;dsimp only;refine A2 (λh=>by omega) (λ_=>?_);rw[RV,hR W];exact hQ
theorem Af8 {c:BE} {k:Int} {Q:Int->Prop} (U:c.At.Pairwise (· < ·)) (hl:c.At.length<=1000000000) (h1:∀ j:Nat,j<c.At.length->at0 c.At j=k->Q j) (h2:(∀ j:Nat,j<c.At.length->at0 c.At j≠k)->Q (-1)):UE c k Q:=by
 unfold UE;refine CA (λs:Int×Int=>(s.1<s.2∧∃ j:Nat,s.1=j∧j<c.At.length∧at0 c.At j=k)∨(¬s.1<s.2∧∀ j:Nat,j<c.At.length->at0 c.At j≠k)) (λs U=>?_) (λ_ D=>?_)
 . have⟨_,_⟩:=s;dsimp only;rcases U with⟨d,j,rfl,O,e⟩ | ⟨J,Z⟩
   . exact A2 (λ_=>h1 j O e) (λh=>absurd d h)
   . exact A2 (λh=>absurd h J) (λ_=>h2 Z)
 refine CQ (λs:Int×Int=>∃ lo hi:Nat,s=((lo:Int),(hi:Int))∧lo<=hi∧hi<=c.At.length∧(∀ j:Nat,j<lo->at0 c.At j<k)∧∀ j:Nat,hi<=j->j<c.At.length->k<at0 c.At j) (λs=>(s.2 - s.1).toNat) ⟨0,c.At.length,rfl,by omega,by omega,by omega,by omega⟩ ?_;rintro _ next ⟨lo,hi,rfl,_,V,hL,hH⟩ hn;dsimp only;refine A2 (λh=>?_) (λh=>D _ (.inr ⟨h,λj O e=>?_⟩))
 . obtain⟨m,hm⟩:∃ m:Nat,m=lo+(hi - lo) / 2:=⟨_,rfl⟩
   have em:AJ ((lo:Int)+(AJ ((AJ ((hi:Int) - lo)).tdiv 2)))=(m:Int):=by rw[AK (x:=(hi:Int) - lo) (by omega) (by omega),AsZ (by omega),AK (x:=((hi:Int) - lo) / 2) (by omega) (by omega),AK (by omega) (by omega)];omega
   rw[em];have e2:AJ ((m:Int)+1)=((m+1:Nat):Int):=by rw[AK (by omega) (by omega)]; omega
   rw[e2];refine BL (by omega) (by omega) (AY (λe=>D _ (.inl ⟨by dsimp only; omega,m,rfl,by omega,e⟩)) (λe=>?_));refine BL (by omega) (by omega) (A2 (λd=>hn _ ⟨m+1,hi,rfl,by omega,V,λj O=>?_,hH⟩ (by simp only; omega)) (λJ=>hn _ ⟨lo,m,rfl,by omega,by omega,hL,λj O W=>?_⟩ (by simp only; omega)))
   . by_cases e':j=m
     . subst e'; exact d
     . have:=RP U (show j<m by omega) (by omega); omega
   . by_cases e':j=m
     . subst e'; omega
     . have:=RP U (show m<j by omega) W; omega
 all_goals grind
def MQ (T:List A5) (k:Int):List B3:=(T.filter λt=>decide (t.Row=k)).map sY
theorem Af9 (T:List A5) (k:Nat):MQ T k=(PX T k).map sY:=rfl
theorem AaP {T:List A5} {n:Nat} {k:Int} (h:∀ t∈T,0<=t.Row∧t.Row<n) (hk:∀ j:Nat,j<(MY n T).length->at0 (MY n T) j≠k):MQ T k=[]:=by
 unfold MQ
 rw[List.filter_eq_nil_iff.2]; · rfl
 intro t d
 simp only[decide_eq_true_eq]
 intro e
 have:=h t d
 have⟨j,J,D⟩:=Ac9 (l:=MY n T) (x:=k) (LG.2 ⟨⟨by omega,by omega⟩,t,d,e⟩)
 exact hk j J D
theorem Canon.rowIn {rows cols:Int} {T:List A5} (h:Canon cols rows T):∀ t∈T,0<=t.Row∧t.Row<(cols.toNat:Int):=λt d=>by have:=h.inn t d; unfold tZ at this; omega
theorem Ai5 {rows cols:Int} {T:List A5} (h:Canon cols rows T) {j:Nat} (hj:j<(MY cols.toNat T).length) {Q:List B3->Prop} (Z:Q (MQ T (at0 (MY cols.toNat T) j))):EX (UP rows cols T) j Q:=by
 unfold EX DT QN;have⟨x,lo,hi,h1,_,h3,V,_,s⟩:=h.colseg hj;have hs:=dB cols.toNat T;have a2:=h.len; have a5:=s.len; have hc:=h.r1; have a4:=mU cols.toNat T;have W:AJ ((j:Int)+1)=(j:Int)+1:=AK (by omega) (by omega);have U:(UP rows cols T).Start=jW cols.toNat T:=rfl;rw[h1,Af9,<-s.eq] at Z;rw[U,W];refine BL (by omega) (by omega) ?_;rw[h3];refine AL (λ(D:List B3) (i:Int)=>(D,i,0)) lo hi (by omega) (λp D=>D=((T.take p).drop lo).map sY) (by omega) (s0:=[]) (by simp) (λp D next O _ J hn=>?_) (λD next J=>?_)
 . subst J;dsimp only;refine BL (by omega) (by omega) ?_;rw[V];have d:p<T.length:=by omega
   refine A2 (λ_=>?_) (λh=>by omega);refine AP (by omega) (x:=T[p].Col) (by simp[UP,d]) (AP (by omega) (x:=T[p].Val) (by simp[UP,d]) ⟨rfl,AO (by simp; omega) (AH rfl (hn _ ?_))⟩);rw[Af5 O d,iE]; rfl
 . subst J;dsimp only;refine BL (by omega) (by omega) ?_;rw[V];exact A2 (λh=>by omega) (λ_=>⟨rfl,Z⟩)
theorem vS {c:BE} {rows cols k:Int} {T:List A5} {Q:List B3->Prop} (O:XC c) (V:aZ c=UP rows cols T) (h:Canon cols rows T) (D:Q (MQ T k)):WE c k Q:=by
 unfold WE;refine mV O ?_;rw[V];have J:=mU cols.toNat T; have W:=h.r1;refine Af8 (KK _ _) (show(MY cols.toNat T).length<=1000000000 by omega) (λj (U:j<(MY cols.toNat T).length) (e:at0 (MY cols.toNat T) j=k)=>?_) (λ(d:∀ j:Nat,j<(MY cols.toNat T).length->at0 (MY cols.toNat T) j≠k)=>?_)
 . refine A2 (λh=>by omega) (λ_=>?_);unfold UJ;exact Ai5 h U (by rw[e]; exact D)
 . refine AV rfl ?_
   rwa [AaP h.rowIn d] at D
def SZ (T:List A5) (d:List Int):Int:=(d.map λk=>((MQ T k).length:Int)).sum
theorem vT (T:List A5) (l:List Int) (k:Int):SZ T (l++[k])=SZ T l+(MQ T k).length:=by simp[SZ]
theorem dC (T:List A5) (k:Int):(MQ T k).length<=T.length:=by grind[MQ]
theorem AfA (T:List A5):∀ l:List Int,0<=SZ T l∧SZ T l<=l.length*T.length
 | []=>by simp[SZ]
 | k :: l=>by
  have:=AfA T l;have d:=dC T k;have e:SZ T (k :: l)=(MQ T k).length+SZ T l:=by simp[SZ]
  rw[e,uP];grind
theorem AcB {c:BE} {rows cols:Int} {T:List A5} {d:List Int} {Q:Int->Prop} (hl:XC c) (a6:d.length<=1000000) (hc:aZ c=UP rows cols T) (h:Canon cols rows T) (hQ:Q (SZ T d)):fJ c d Q:=by
 unfold fJ;refine mV hl ?_;rw[hc];have a7:=mU cols.toNat T; have hr:=h.r1; have a2:=h.len; have hs:=dB cols.toNat T;refine AL (λ(s:Int) i=>(s,i)) 0 d.length (by omega) (λi s=>s=SZ T (d.take i)) (by omega) (by simp[SZ]) (λi s next _ hi D V=>?_) (λs next D=>?_)
 . subst D;dsimp only;refine A2 (λ_=>?_) (λh=>by omega);refine B8 hi ?_;have hb:=AfA T (d.take i)
   have a4:((d.take i).length:Int)*(T.length:Int)<=1000000*65536:=by exact AjT (by simp; omega) (by omega) (by omega) (by omega)
   have hstep (v:Int) (hv:v=(MQ T d[i]).length):next (AJ (SZ T (d.take i)+AJ v),AJ ((i:Int)+1)):=by have a5:=dC T d[i];rw[AK (x:=v) (by omega) (by omega),AK (by omega) (by omega)];refine V _ ?_;rw[eX hi,vT,hv]
   have hzero (hz:MQ T d[i]=[]):next (SZ T (d.take i),AJ ((i:Int)+1)):=by refine V _ ?_;rw[eX hi,vT,hz]; simp
   refine Af8 (KK _ _) (show(MY cols.toNat T).length<=1000000000 by omega) (λj (hj:j<(MY cols.toNat T).length) (e:at0 (MY cols.toNat T) j=d[i])=>?_) (λ(J:∀ j:Nat,j<(MY cols.toNat T).length->at0 (MY cols.toNat T) j≠d[i])=>?_)
   . have⟨x,_,_,U,_,W,Z,_,s⟩:=h.colseg hj;refine A2 (λ_=>?_) (λh=>by omega);have O:(UP rows cols T).Start=jW cols.toNat T:=rfl;rw[O,AK (x:=(j:Int)+1) (by omega) (by omega)];refine BL (by omega) (by omega) (BL (by omega) (by omega) (hstep _ ?_));rw[W,Z,<-e,U,Af9,<-s.eq];have:=s.len;simp; omega
   . exact A2 (λh=>by omega) (λ_=>hzero (AaP h.rowIn J))
 . subst D;dsimp only;refine A2 (λh=>by omega) (λ_=>?_);grind
theorem Ai6 {cols:Int} {T:List A5} {rows:Int} (h:Canon rows cols T) (d:∀ t∈T,EA t.Val):∀ t∈OI cols T,EA t.Val:=λt D=>d (jV t) ((YA h t).1 D)
def yW (h:B1):HM:=((h.l.head?.map (·.At)).getD 0,h.which)
def gH (H:List B1) (i:Nat):B1:=H.getD i default
theorem PG {H:List B1} {i:Nat} (h:i<H.length):H[i]? = some (gH H i):=by simp[gH,sU,h]
theorem Ai7 {H:List B1} {i:Nat} (h:i<H.length):gH H i∈H:=AoO (PG h)
def IW (H:List B1) (i:Nat):HM:=yW (gH H i)
def full (H:List B1):Prop:=∀ h∈H,h.l≠[]
theorem YB {H d:List B1} (h:full H) (hp:d.Perm H):full d:=λx D=>h x (hp.mem_iff.1 D)
theorem vU {H:List B1} {i k:Nat} {Q:Bool->Prop} (h:full H) (hi:i<H.length) (hk:k<H.length) (D:Q (decide (KY (IW H i) (IW H k)))):FC H i k Q:=by
 unfold FC;obtain⟨s,t,J⟩:∃ s t,(gH H i).l=s :: t:=AsY (h _ (Ai7 hi));obtain⟨d,W,O⟩:∃ s t,(gH H k).l=s :: t:=AsY (h _ (Ai7 hk));have U:IW H i=(s.At,(gH H i).which):=by simp[IW,yW,J]
 have V:IW H k=(d.At,(gH H k).which):=by simp[IW,yW,O]
 refine AP (x:=gH H i) (by omega) (PG hi) (AP (by omega) (x:=s) (by rw[J]; rfl) (AP (x:=gH H k) (by omega) (PG hk) (AP (by omega) (x:=d) (by rw[O]; rfl) (AP (x:=gH H i) (by omega) (PG hi) (AP (x:=gH H k) (by omega) (PG hk) ?_)))));refine GJ (GJ (AaH ?_));rw[U,V] at D
 have:(or2 (QX s.At d.At) (QX (gH H i).which (gH H k).which)<0)↔KY (s.At,(gH H i).which) (d.At,(gH H k).which):=by unfold or2 QX KY; simp only; split <;> split <;> (try split) <;> (try split) <;> omega
 simpa only[this] using D
def swp (H:List B1) (i k:Nat):List B1:=(H.set i (gH H k)).set k (gH H i)
theorem fW (H:List B1) (i k:Nat):(swp H i k).length=H.length:=by simp[swp]
theorem AcC {H:List B1} {i k:Nat} (hi:i<H.length) (hk:k<H.length) (j:Nat):gH (swp H i k) j=if j=k then gH H i else if j=i then gH H k else gH H j:=by
 unfold swp gH;simp only[sU];by_cases e1:j=k
 . subst e1; rw[if_pos rfl,AlU (by simpa using hk)]; simp
 . rw[if_neg e1,AhE (Ne.symm e1)];by_cases e2:j=i
   . subst e2; rw[if_pos rfl,AlU hi]; simp
   . rw[if_neg e2,AhE (Ne.symm e2)]
theorem RQ {H:List B1} {i k:Nat} (hi:i<H.length) (hk:k<H.length) (j:Nat):IW (swp H i k) j=if j=k then IW H i else if j=i then IW H k else IW H j:=by
 unfold IW; rw[AcC hi hk]; split
 . rfl
 . split <;> rfl
theorem vW {α:Type}:∀ (l:List α) (i:Nat) (h:i<l.length) (y:α),(l[i] :: l.set i y).Perm (y :: l)
 | a :: l,0,_,y=>by simpa using List.Perm.swap y a l
 | a :: l,i+1,h,y=>by have:=vW l i (by simpa using h) y;simp only[List.getElem_cons_succ,AoS];exact(List.Perm.swap _ _ _).trans ((this.cons a).trans (List.Perm.swap _ _ _))
theorem vX {H:List B1} {i k:Nat} (hi:i<H.length) (hk:k<H.length):(swp H i k).Perm H:=by
 have J:H[i]=gH H i:=by have:=PG hi; rw[gJ hi] at this; exact AbU this
 have O:H[k]=gH H k:=by have:=PG hk; rw[gJ hk] at this; exact AbU this
 have d:=vW H i hi (gH H k);have h:=vW (H.set i (gH H k)) k (by simpa using hk) (gH H i)
 have D:(H.set i (gH H k))[k]'(by simpa using hk)=gH H k:=by
  rw[List.getElem_set]; split
  . rfl
  . exact O
 rw[D] at h; rw[J] at d;exact List.Perm.cons_inv (h.trans d)
theorem AcD {H:List B1} {i k:Nat} {Q:List B1->Prop} (hi:i<H.length) (hk:k<H.length) (d:Q (swp H i k)):FD H i k Q:=by unfold FD;refine AP (x:=gH H k) (by omega) (PG hk) (AP (x:=gH H i) (by omega) (PG hi) (AP (x:=gH H i) (by omega) (PG hi) ?_));refine AP (x:=(H.set i (gH H k))[k]'(by simpa using hk)) (by omega) (by simp only[YZ]; exact gJ (by simpa using hk)) ?_;simp only[YZ];exact d
def qF (H:List B1) (n:Nat):Prop:=∀ j,0<j->j<n->¬KY (IW H j) (IW H ((j - 1) / 2))
theorem AmE {H:List B1} {n:Nat} (h:qF H n):∀ j,j<n->¬KY (IW H j) (IW H 0):=by
 intro j
 induction j using Nat.strongRecOn with
 | _ j D=>
  intro d;rcases jF j with e | hp
  . subst e; exact HE _
  . have J:=h j hp d;have O:=D ((j - 1) / 2) (by omega) (by omega);unfold KY at *; omega
theorem AxZ {o:AN} {j:Nat} {Q:AN->Prop} (hl:o.heads.length<=1000000000000) (hf:full o.heads) (h:j<o.heads.length)
   (h1:∀ c,0<c->c<o.heads.length->c≠j->¬KY (IW o.heads c) (IW o.heads ((c - 1) / 2))) (h2:∀ c,0<c->c<o.heads.length->(c - 1) / 2=j->0<j->¬KY (IW o.heads c) (IW o.heads ((j - 1) / 2)))
   (Z:∀ H,H.Perm o.heads->qF H H.length->Q ⟨H,o.r,o.out⟩):FK o j Q:=by
 unfold FK
 refine CQ (λs:List B1×Int=>∃ j:Nat,s.2=j∧s.1.Perm o.heads∧j<s.1.length∧(∀ c,0<c->c<s.1.length->c≠j->¬KY (IW s.1 c) (IW s.1 ((c - 1) / 2)))∧(∀ c,0<c->c<s.1.length->(c - 1) / 2=j->0<j->¬KY (IW s.1 c) (IW s.1 ((j - 1) / 2)))) (λs=>s.2.toNat)
   ⟨j,rfl,.refl _,h,h1,h2⟩ ?_
 rintro⟨H,_⟩ next ⟨j,e,hp,h,O,W⟩ hn;simp only at e hp h O W ⊢;subst e;have a6:=hp.length_eq
 have ei:AJ ((AJ ((j:Int) - 1)).tdiv 2)=((if j=0 then 0 else (j - 1) / 2:Nat):Int):=by
   rw[AK (x:=(j:Int) - 1) (by omega) (by omega)];split
   . rename_i e; subst e; decide
   . rw[AsZ (by omega),AK (by omega) (by omega)]; omega
 rw[ei];refine AY (λe=>?_) (λe=>?_)
 . refine Z H hp λc J d=>O c J d ?_;split at e <;> omega
 . have a5:0<j:=by
     rcases jF j with z | z
     . subst z; simp at e
     . exact z
   simp only[show j≠0 by omega,if_false];have a4:=YB hf hp;refine vU a4 h (by omega) (BW (λD=>?_) (λD=>?_))
   . refine Z H hp λc J d=>?_;by_cases ec:c=j
     . subst ec; exact of_decide_eq_false D
     . exact O c J d ec
   . have D:=of_decide_eq_true D;refine AcD (by omega) h (hn _ ⟨(j - 1) / 2,rfl,(vX (by omega) h).trans hp,by rw[fW]; omega,?_,?_⟩ (by simp only[YZ]; omega))
     . intro c J d V;rw[fW] at d;rw[RQ (by omega) h,RQ (by omega) h];by_cases e1:c=j
       . subst e1;rw[if_pos rfl,if_neg (by omega),if_pos rfl];unfold KY at *; omega
       . rw[if_neg e1,if_neg V];by_cases e2:(c - 1) / 2=j
         . rw[if_pos e2];exact W c J d e2 a5
         . rw[if_neg e2];by_cases e3:(c - 1) / 2=(j - 1) / 2
           . rw[if_pos e3];have:=O c J d e1;rw[e3] at this;unfold KY at *; omega
           . rw[if_neg e3]; exact O c J d e1
     . intro c J d he a2;rw[fW] at d;rw[RQ (by omega) h,RQ (by omega) h];have U:=O ((j - 1) / 2) a2 (by omega) (by omega);rw[if_neg (show((j - 1) / 2 - 1) / 2≠j by omega),if_neg (show((j - 1) / 2 - 1) / 2≠(j - 1) / 2 by omega)];by_cases e1:c=j
       . subst e1; rw[if_pos rfl]; exact U
       . rw[if_neg e1,if_neg (by omega)];have:=O c J d e1;rw[he] at this;unfold KY at *; omega
theorem ApZ {o:AN} {l:List BK} {w:Int} {Q:AN->Prop} (hl:o.heads.length<=1000000000) (hf:full o.heads) (Z:qF o.heads o.heads.length)
   (V:∀ H,H.Perm (if l=[] then o.heads else ⟨l,w⟩ :: o.heads)->qF H H.length->Q ⟨H,o.r,o.out⟩):GN o l w Q:=by
 unfold GN IP N4 HB;refine A2 (λh=>?_) (λh=>?_)
 . have J:l≠[]:=by intro e; subst e; simp at h
   rw[if_neg J] at V;refine AO (by simp; omega) ?_;show FK ⟨o.heads++[⟨l,w⟩],o.r,o.out⟩ (AJ (((o.heads++[(⟨l,w⟩:B1)]).length:Int) - 1)) _;have d:(o.heads++[(⟨l,w⟩:B1)]).length=o.heads.length+1:=by simp
   have el:AJ (((o.heads++[(⟨l,w⟩:B1)]).length:Int) - 1)=(o.heads.length:Int):=by rw[d,AK (x:=((o.heads.length+1:Nat):Int) - 1) (by omega) (by omega)]; omega
   rw[el]
   have hk:∀ c,c<o.heads.length->IW (o.heads++[(⟨l,w⟩:B1)]) c=IW o.heads c:=by intro c U; simp[IW,gH,sU,lN U]
   refine AxZ (o:=⟨o.heads++[⟨l,w⟩],o.r,o.out⟩) (j:=o.heads.length) (by simp only[d]; omega) ?_ (by simp only[d]; omega) ?_ ?_ ?_
   . intro x hx;rcases List.mem_append.1 hx with W | W
     . exact hf x W
     . simp only[lO] at W; subst W; exact J
   . intro c U D O;simp only[d] at D O ⊢;rw[hk c (by omega),hk _ (by omega)];exact Z c U (by omega)
   . intro c U D he hp;simp only[d] at D;omega
   . intro H hp hH;exact V H (hp.trans AlV) hH
 . have:l=[]:=by
     cases l with
     | nil=>rfl
     | cons a b=>simp at h
   subst this;rw[if_pos rfl] at V;exact V o.heads (.refl _) Z
theorem AtQ {o:AN} {n:Nat} {Q:Bool×AN->Prop} (hl:o.heads.length<=1000000000000) (hf:full o.heads) (hn:n<=o.heads.length)
   (h1:∀ c,0<c->c<n->(c - 1) / 2≠0->¬KY (IW o.heads c) (IW o.heads ((c - 1) / 2)))
   (hQ:∀ b H,H.Perm o.heads->qF H n->(∀ j,n<=j->gH H j=gH o.heads j)->Q (b,⟨H,o.r,o.out⟩)):G9 o 0 n Q:=by
 unfold G9
 refine CQ (λs:List B1×Int=>∃ j:Nat,s.2=j∧s.1.Perm o.heads∧(∀ j,n<=j->gH s.1 j=gH o.heads j)∧(j<n∨j=0)∧(∀ c,0<c->c<n->(c - 1) / 2≠j->¬KY (IW s.1 c) (IW s.1 ((c - 1) / 2)))∧(∀ c,0<c->c<n->(c - 1) / 2=j->0<j->¬KY (IW s.1 c) (IW s.1 ((j - 1) / 2)))) (λs=>n - s.2.toNat)
   ⟨0,rfl,.refl _,λ_ _=>rfl,.inr rfl,h1,λc _ _ _ h=>absurd h (by omega)⟩ ?_
 rintro⟨H,_⟩ next ⟨i,e,hp,Z,hi,W,g2⟩ hn';simp only at e hp hi Z W g2 ⊢;subst e;have a8:=hp.length_eq;have e1:AJ (AJ (2*(i:Int))+1)=((2*i+1:Nat):Int):=by rw[AK (x:=2*(i:Int)) (by omega) (by omega),AK (by omega) (by omega)]; omega
 have e2:AJ (((2*i+1:Nat):Int)+1)=((2*i+2:Nat):Int):=by rw[AK (by omega) (by omega)]; omega
 simp only[e1,e2];refine A2 (λh=>?_) (λh=>A2 (λ_=>by omega) (λ_=>?_))
 . exact hQ _ H hp (λc J d=>W c J d (by omega)) Z
 . have a5:=YB hf hp;refine CA (λt:Int=>∃ j:Nat,t=j∧j<n∧(j - 1) / 2=i∧0<j∧∀ c,0<c->c<n->(c - 1) / 2=i->¬KY (IW H c) (IW H j)) ?_ ?_
   . rintro t ⟨j,rfl,a4,V,a7,a2⟩;refine vU a5 (by omega) (by omega) (BW (λD=>?_) (λD=>?_))
     . refine hQ _ H hp (λc J d=>?_) Z;by_cases ec:(c - 1) / 2=i
       . have q1:=a2 c J d ec;have q2:=of_decide_eq_false D;rw[ec];unfold KY at *; omega
       . exact W c J d ec
     . have D:=of_decide_eq_true D;refine AcD (by omega) (by omega) (hn' _ ⟨j,rfl,(vX (by omega) (by omega)).trans hp,?_,.inl a4,?_,?_⟩ (by simp only[YZ]; omega))
       . intro q hq;rw[AcC (by omega) (by omega),if_neg (by omega),if_neg (by omega)];exact Z q hq
       . intro c J d a6;rw[RQ (by omega) (by omega),RQ (by omega) (by omega)];by_cases ec:c=j
         . subst ec;rw[if_pos rfl,if_neg (by omega),if_pos V];unfold KY at *; omega
         . rw[if_neg ec];by_cases ei:c=i
           . subst ei;rw[if_pos rfl,if_neg a6,if_neg (by omega)];exact g2 j a7 a4 V J
           . rw[if_neg ei,if_neg a6];by_cases ep:(c - 1) / 2=i
             . rw[if_pos ep]; exact a2 c J d ep
             . rw[if_neg ep]; exact W c J d ep
       . intro c J d O _;rw[RQ (by omega) (by omega),RQ (by omega) (by omega),if_neg (by omega),if_neg (by omega),if_neg (by omega),if_pos V];have:=W c J d (by omega)
         rwa [O] at this
   . intro k' U;refine A2 (λh2=>vU a5 (by omega) (by omega) ⟨λD=>?_,λD=>?_⟩) (λh2=>?_)
     . refine U _ ⟨2*i+2,rfl,by omega,by omega,by omega,λc J d O=>?_⟩;have D:=of_decide_eq_true D;rcases(show c=2*i+1∨c=2*i+2 by omega) with e | e
       . subst e; unfold KY at *; omega
       . subst e; exact HE _
     . refine U _ ⟨2*i+1,rfl,by omega,by omega,by omega,λc J d O=>?_⟩;have D:=of_decide_eq_false D;rcases(show c=2*i+1∨c=2*i+2 by omega) with e | e
       . subst e; exact HE _
       . subst e; exact D
     . refine U _ ⟨2*i+1,rfl,by omega,by omega,by omega,λc J d O=>?_⟩;rcases(show c=2*i+1∨c=2*i+2 by omega) with e | e
       . subst e; exact HE _
       . omega
theorem AwD {o:AN} {Q:B1×AN->Prop} (hl:o.heads.length<=1000000000) (hf:full o.heads) (hh:qF o.heads o.heads.length) (h0:o.heads≠[])
   (hQ:∀ x H,(gH o.heads 0 :: H).Perm o.heads->qF H H.length->Q (x,⟨H,o.r,o.out⟩)):GZ o Q:=by
 unfold GZ HB;have d:0<o.heads.length:=List.length_pos_iff.2 h0;have e:AJ ((o.heads.length:Int) - 1)=((o.heads.length - 1:Nat):Int):=by rw[AK (by omega) (by omega)]; omega
 simp only[e];have a4:0<o.heads.length:=d;refine AcD (i:=0) d (by omega) ?_;have D:=vX (H:=o.heads) (i:=0) (k:=o.heads.length - 1) d (by omega);refine AtQ (o:=⟨swp o.heads 0 (o.heads.length - 1),o.r,o.out⟩) (n:=o.heads.length - 1) (by simp only[fW]; omega) (YB hf D) (by simp only[fW]; omega) ?_ ?_
 . intro c O a2 J;simp only;rw[RQ d (by omega),RQ d (by omega),if_neg (by omega),if_neg (by omega),if_neg (by omega),if_neg J];exact hh c O (by omega)
 . intro b H hp hH W;simp only at hp W;have V:H.length=o.heads.length:=hp.length_eq.trans (fW _ _ _);unfold O2;have e':AJ ((H.length:Int) - 1)=((o.heads.length - 1:Nat):Int):=by rw[V]; exact e
   simp only[e'];refine AP (by omega) (PG (by simp only[YZ]; omega)) ⟨by omega,by omega,by omega,?_⟩;simp only[YZ];refine hQ _ _ ?_ ?_
   . have h:=W (o.heads.length - 1) (by omega);rw[AcC d (by omega),if_pos rfl] at h;rw[<-h]
     have h3:H=H.take (o.heads.length - 1)++[gH H (o.heads.length - 1)]:=by
      have Z:H[o.heads.length - 1]'(by omega)=gH H (o.heads.length - 1):=by have:=PG (H:=H) (i:=o.heads.length - 1) (by omega); rw[gJ (by omega)] at this; exact AbU this
      rw[<-Z,List.take_append_getElem (by omega),AoL (by omega)]
     exact(AlV (l₁:=[gH H (o.heads.length - 1)])).trans ((h3▸.refl _:(H.take (o.heads.length - 1)++[gH H (o.heads.length - 1)]).Perm H).trans (hp.trans D))
   . intro j hj U;rw[VK] at U
     have hk:∀ c,c<o.heads.length - 1->IW (H.take (o.heads.length - 1)) c=IW H c:=by intro c O; simp[IW,gH,sU,yN,O]
     rw[hk j (by omega),hk _ (by omega)];exact hH j hj (by omega)
def kvM (s:BK):Int×AQ:=(s.At,s.Val)
def lk (l:List BK) (i:Int):Option AQ:=BG i (l.map kvM)
def Rise (l:List BK):Prop:=l.Pairwise λa b=>a.At<b.At
instance (l:List BK):Decidable (Rise l):=by unfold Rise; infer_instance
def yJ (l:List BK):Prop:=∀ s∈l,PZ s.Val
theorem vY (i:Int):lk [] i=none:=rfl
theorem EB (s:BK) (l:List BK) (i:Int):lk (s :: l) i=if i=s.At then some s.Val else lk l i:=rfl
theorem WK:∀ {l:List BK} {i:Int},(∀ s∈l,s.At≠i)->lk l i=none
 | [],_,_=>rfl
 | s :: l,i,h=>by rw[EB,if_neg (λe=>h s (by simp) e.symm)]; exact WK λx d=>h x (by simp[d])
theorem qG:∀ {l:List BK} {i:Int} {v:AQ},lk l i=some v->⟨i,v⟩∈l
 | s :: l,i,v,h=>by
  rw[EB] at h;split at h
  . rename_i e; cases h; subst e; simp
  . exact cD _ (qG h)
theorem vZ:∀ {l:List BK} (h:Rise l) {s:BK},s∈l->lk l s.At=some s.Val
 | x :: l,h,s,hs=>by
  unfold Rise at h;rw[Ae8] at h;rw[EB];rcases List.mem_cons.1 hs with e | hs
  . subst e; rw[if_pos rfl]
  . have:=h.1 s hs;rw[if_neg (by omega)]; exact vZ h.2 hs
theorem YC:∀ (l:List BK) (m:List BK) (i:Int),lk (l++m) i=match lk l i with | some v=>some v | none=>lk m i
 | [],m,i=>rfl
 | s :: l,m,i=>by
  rw[pH,EB,EB];split
  . rfl
  . exact YC l m i
theorem AfB {l m:List BK} (h:Rise l) (d:Rise m) (J:∀ i,lk l i=lk m i):l=m:=by
 have O:∀ {l:List BK},Rise l->l.Nodup:=λh=>h.imp λ_ e=>by subst e; omega
 have hp:l.Perm m:=(yK (O h) (O d)).2 λ_=>⟨λD=>by
  have:=vZ h D; rw[J] at this; exact qG this,λD=>by
  have:=vZ d D; rw[<-J] at this; exact qG this⟩
 exact Y6 hp h d λ_ _ _ _ _ _=>by omega
theorem AfC {l:List BK} (h:∀ (i:Nat) (hi:i+1<l.length),l[i].At<l[i+1].At):Rise l:=by
 unfold Rise;rw[AlT];intro i j hi J D;obtain⟨d,rfl⟩:∃ d,j=i+1+d:=⟨j - i - 1,by omega⟩
 induction d with
 | zero=>exact h i (by omega)
 | succ d O=>grind
theorem Rise.adj {l:List BK} (h:Rise l) {i j:Nat} (D:j<l.length) (d:i<j):(l[i]'(by omega)).At<l[j].At:=by unfold Rise at h; rw[AlT] at h; grind
def jX (r:Int):Option AQ->Option AQ->Option AQ
 | none,y=>y
 | some a,none=>some a
 | some a,some b=>some (KJ r a b)
theorem UR (r:Int) (a:Option AQ):jX r a none=a:=by cases a <;> rfl
def MZ (r:Int) (a b:List BK):List BK:=
 match a,b with
 | [],b=>b
 | x :: a,[]=>x :: a
 | x :: a,y :: b=>if x.At<y.At then x :: MZ r a (y :: b) else if y.At<x.At then y :: MZ r (x :: a) b else ⟨x.At,KJ r x.Val y.Val⟩ :: MZ r a b
termination_by a.length+b.length
theorem Aq0 (r:Int) (a:List BK):MZ r a []=a:=by cases a <;> simp[MZ]
theorem ZQ (r:Int):∀ (a b:List BK) (s:BK),s∈MZ r a b->(∃ x∈a,x.At=s.At)∨∃ x∈b,x.At=s.At
 | [],b,s,h=>.inr ⟨s,by simpa[MZ] using h,rfl⟩
 | x :: a,[],s,h=>.inl ⟨s,by simpa[MZ] using h,rfl⟩
 | x :: a,y :: b,s,h=>by
  rw[MZ] at h;split at h
  . rcases List.mem_cons.1 h with e | h
    . exact .inl ⟨x,by simp,by rw[e]⟩
    . rcases ZQ r a (y :: b) s h with⟨z,hz,e⟩ | ⟨z,hz,e⟩
      . exact .inl ⟨z,by simp[hz],e⟩
      . exact .inr ⟨z,hz,e⟩
  . split at h
    . rcases List.mem_cons.1 h with e | h
      . exact .inr ⟨y,by simp,by rw[e]⟩
      . rcases ZQ r (x :: a) b s h with⟨z,hz,e⟩ | ⟨z,hz,e⟩
        . exact .inl ⟨z,hz,e⟩
        . exact .inr ⟨z,by simp[hz],e⟩
    . rcases List.mem_cons.1 h with e | h
      . exact .inl ⟨x,by simp,by rw[e]⟩
      . rcases ZQ r a b s h with⟨z,hz,e⟩ | ⟨z,hz,e⟩
        . exact .inl ⟨z,by simp[hz],e⟩
        . exact .inr ⟨z,by simp[hz],e⟩
termination_by a b=>a.length+b.length
theorem YD (r:Int):∀ (a b:List BK),Rise a->Rise b->Rise (MZ r a b)∧(MZ r a b).length<=a.length+b.length∧(yJ a->yJ b->yJ (MZ r a b))∧∀ i,lk (MZ r a b) i=jX r (lk a i) (lk b i)
  | [],b,_,hb=>by simp only[MZ]; exact⟨hb,by simp,λ_ h=>h,λi=>rfl⟩
  | x :: a,[],ha,_=>by rw[Aq0]; exact⟨ha,by simp,λh _=>h,λi=>by rw[vY,UR]⟩
  | x :: a,y :: b,ha,hb=>by
    have ha':=ha; have Z:=hb;unfold Rise at ha' Z;rw[Ae8] at ha' Z;rw[MZ];split
    . rename_i a4;have⟨O,U,V,W⟩:=YD r a (y :: b) ha'.2 hb;refine⟨List.pairwise_cons.2 ⟨λs d=>?_,O⟩,by simp at U ⊢; omega,λD J s d=>?_,λi=>?_⟩
      . grind[ZQ]
      . rcases List.mem_cons.1 d with e | d
        . subst e; exact D _ (by simp)
        . exact V (λs d=>D s (by simp[d])) J s d
      . rw[EB,EB x a];split
        . rename_i e; subst e
          rw[WK (l := y :: b) (λs d => by
            rcases List.mem_cons.1 d with e | d
            . subst e; omega
            . have:=Z.1 s d; omega)]
          rfl
        . exact W i
    . rename_i a4;split
      . rename_i a5;have⟨O,U,V,W⟩:=YD r (x :: a) b ha Z.2;refine⟨List.pairwise_cons.2 ⟨λs d=>?_,O⟩,by simp at U ⊢; omega,λD J s d=>?_,λi=>?_⟩
        . grind[ZQ]
        . rcases List.mem_cons.1 d with e | d
          . subst e; exact J _ (by simp)
          . exact V D (λs d=>J s (by simp[d])) s d
        . rw[EB,EB y b];split
          . rename_i e; subst e
            rw[WK (l := x :: a) (λs d => by
              rcases List.mem_cons.1 d with e | d
              . subst e; omega
              . have:=ha'.1 s d; omega)]
            rfl
          . exact W i
      . rename_i a5;have a2:x.At=y.At:=by omega
        have⟨O,U,V,W⟩:=YD r a b ha'.2 Z.2;refine⟨List.pairwise_cons.2 ⟨λs d=>?_,O⟩,by simp at U ⊢; omega,λD J s d=>?_,λi=>?_⟩
        . grind[ZQ]
        . rcases List.mem_cons.1 d with e | d
          . subst e; exact Y7 (D _ (by simp)) (J _ (by simp))
          . exact V (λs d=>D s (by simp[d])) (λs d=>J s (by simp[d])) s d
        . rw[EB,EB x a,EB y b,<-a2];split
          . rfl
          . exact W i
termination_by a b=>a.length+b.length
def PH (r:Int) (R:Nat->List BK) (i:Int):Nat->Option AQ->Option AQ
 | 0,a=>a
 | n+1,a=>jX r (PH r R i n a) (lk (R n) i)
def RA (r:Int) (L:List (List BK)):List BK:=L.foldl (MZ r) []
def total (L:List (List BK)):Nat:=(L.map List.length).foldr (· + ·) 0
theorem wA (r:Int):∀ (L:List (List BK)),(∀ l∈L,Rise l)->∀ n,n<=L.length ->
  Rise (RA r (L.take n))∧(RA r (L.take n)).length<=total (L.take n)∧((∀ l∈L,yJ l)->yJ (RA r (L.take n)))∧∀ i,lk (RA r (L.take n)) i=PH r (λw=>L.getD w []) i n none:=by
 intro L J n
 induction n with
 | zero=>intro _; simp[RA,Rise,total,yJ,vY,PH]
 | succ n d=>
  intro O;have⟨_,_,_,_⟩:=d (by omega);have e:L.take (n+1)=L.take n++[L[n]]:=eX (by omega);have h:RA r (L.take (n+1))=MZ r (RA r (L.take n)) L[n]:=by grind[RA]
  have D:total (L.take (n+1))=total (L.take n)+L[n].length:=by
   rw[e]; unfold total
   induction (L.take n) with
   | nil=>simp
   | cons a l d=>grind
  grind[YD,RA,PH]
theorem ZR {r:Int} {R:Nat->List BK} {i:Int} {a:Option AQ}:∀ {n:Nat},(∀ w,w<n->lk (R w) i=none)->PH r R i n a=a
 | 0,_=>rfl
 | n+1,h=>by rw[PH,ZR (λw _=>h w (by omega)),h n (by omega),UR]
theorem rT {r:Int} {R d:Nat->List BK} {i:Int} {a:Option AQ}:∀ {n:Nat},(∀ w,w<n->lk (R w) i=lk (d w) i)->PH r R i n a=PH r d i n a
 | 0,_=>rfl
 | n+1,h=>by rw[PH,PH,rT (λw _=>h w (by omega)),h n (by omega)]
def upd (R:Nat->List BK) (w:Nat) (l:List BK):Nat->List BK:=λk=>if k=w then l else R k
theorem wC {r:Int} {R:Nat->List BK} {i:Int} {a:Option AQ} {w:Nat} {v:AQ} {t:List BK} (d:∀ k,k<w->lk (R k) i=none) (D:lk (R w) i=some v) (J:lk t i=none) :
  ∀ {n:Nat},w<n->PH r (upd R w t) i n (jX r a (some v))=PH r R i n a
 | 0,h=>by omega
 | n+1,h=>by
  rw[PH,PH];by_cases e:n=w
  . subst e;rw[ZR (λk hk=>by rw[upd,if_neg (by omega)]; exact d k hk),ZR d,upd,if_pos rfl,D,J,UR]
  . rw[wC d D J (by omega),upd,if_neg e]
def EH (R:Nat->List BK):Nat->List B1
 | 0=>[]
 | n+1=>if R n=[] then EH R n else ⟨R n,n⟩ :: EH R n
theorem qH {R:Nat->List BK} {h:B1}:∀ {n:Nat},h∈EH R n↔∃ w,w<n∧R w≠[]∧h=⟨R w,w⟩
 | 0=>by simp[EH]
 | n+1=>by
  rw[EH];split
  . rename_i e; rw[qH (n:=n)];grind
  . rename_i e; rw[T7,qH (n:=n)];grind
theorem AfD {R d:Nat->List BK}:∀ {n:Nat},(∀ w,w<n->R w=d w)->EH R n=EH d n
 | 0,_=>rfl
 | n+1,h=>by rw[EH,EH,h n (by omega),AfD λw _=>h w (by omega)]
theorem Ai8 (R:Nat->List BK):∀ n,(EH R n).length<=n
 | 0=>by simp[EH]
 | n+1=>by rw[EH]; have:=Ai8 R n; split <;> simp <;> omega
theorem Ai9 {R:Nat->List BK} {w:Nat} {l:List BK}:∀ {n:Nat},w<n->(EH (upd R w l) n).Perm (if l=[] then EH (upd R w []) n else ⟨l,w⟩ :: EH (upd R w []) n)
 | 0,h=>by omega
 | n+1,h=>by
  by_cases e:n=w
  . subst e;rw[EH,EH];have d:EH (upd R n l) n=EH (upd R n []) n:=AfD λ_ _=>by rw[upd,upd,if_neg (by omega),if_neg (by omega)]
    simp only[upd,if_true,d];split
    . exact .refl _
    . rw[<-d]
  . have D:=Ai9 (R:=R) (l:=l) (n:=n) (w:=w) (by omega);rw[EH,EH];have d:upd R w l n=R n:=by rw[upd,if_neg e]
    have O:upd R w [] n=R n:=by rw[upd,if_neg e]
    rw[d,O];split
    . exact D
    . split at D
      . rename_i J; rw[if_pos J]; exact D.cons _
      . rename_i J; rw[if_neg J]; exact(D.cons _).trans (List.Perm.swap _ _ _)
theorem Aq1 (R:Nat->List BK) (w:Nat):upd R w (R w)=R:=by grind[upd]
def jY (R:Nat->List BK):Nat->Nat
 | 0=>0
 | n+1=>jY R n+(R n).length
theorem AfE {R:Nat->List BK} {w:Nat} {s:BK} {t:List BK} (h:R w=s :: t):∀ {n:Nat},w<n->jY R n=jY (upd R w t) n+1
 | 0,h'=>by omega
 | n+1,h'=>by
  rw[jY,jY];by_cases e:n=w
  . subst e
    have e1:∀ k,k<=n->jY (upd R n t) k=jY R k:=by
     intro k
     induction k with
     | zero=>intro _; rfl
     | succ k d=>grind[jY,upd]
    grind[upd]
  . rw[AfE h (n:=n) (by omega),upd,if_neg e]; omega
def la (out:List BK):BK:=out.getD (out.length - 1) default
def sZ (r:Int) (out:List BK) (s:BK):List BK:=if 0<out.length∧(la out).At=s.At then out.set (out.length - 1) ⟨(la out).At,KJ r (la out).Val s.Val⟩ else out++[s]
theorem AmF (p:List BK) (y:BK):la (p++[y])=y:=by simp[la]
theorem AfF (r:Int) (p:List BK) (y s:BK):sZ r (p++[y]) s=if y.At=s.At then p++[⟨y.At,KJ r y.Val s.Val⟩] else p++[y]++[s]:=by unfold sZ;rw[AmF];simp_all
theorem AcE (l:List BK):l=[]∨∃ p y,l=p++[y]:=by
 rcases List.eq_nil_or_concat l with h | ⟨p,y,h⟩
 all_goals grind
theorem AmG {r:Int} {out:List BK} {s:BK} (h:Rise out) (W:yJ out) (V:PZ s.Val) (O:∀ o∈out,o.At<=s.At) :
   Rise (sZ r out s)∧yJ (sZ r out s)∧(sZ r out s).length<=out.length+1∧(∀ o∈sZ r out s,o.At<=s.At)∧(∀ i,lk (sZ r out s) i=if i=s.At then jX r (lk out i) (some s.Val) else lk out i):=by
 rcases AcE out with e | ⟨p,y,e⟩
 . subst e;have:sZ r [] s=[s]:=by simp[sZ]
   rw[this];exact⟨by simp[Rise],by simpa[yJ] using V,by simp,by simp,λi=>by rw[EB]; rfl⟩
 . subst e;rw[AfF]
   have hp:∀ x∈p,x.At<y.At:=by intro x d;unfold Rise at h; grind
   have a2:Rise p:=by unfold Rise at h; rw[AjE] at h; exact h.1
   have a4:y.At<=s.At:=O y (by simp);split
   . rename_i e;refine⟨List.pairwise_append.2 ⟨a2,by simp,λa U b J=>by simp only[lO] at J; subst J; exact hp a U⟩,?_,by simp,?_,λi=>?_⟩
     . intro x d;rcases List.mem_append.1 d with d | d
       . exact W x (by simp[d])
       . simp only[lO] at d; subst d; exact Y7 (W y (by simp)) V
     . grind
     . rw[YC,YC,EB,EB,<-e];simp only;split
       . rename_i v Z;rw[if_neg];intro e'; subst e';rw[WK (λx d=>by have:=hp x d; omega)] at Z; cases Z
       . split <;> rfl
   . rename_i e
     have D:∀ x∈p++[y],x.At<s.At:=by grind
     refine⟨List.pairwise_append.2 ⟨h,by simp,λa U b J=>by simp only[lO] at J; subst J; exact D a U⟩,?_,by simp,?_,λi=>?_⟩
     . intro x d;rcases List.mem_append.1 d with d | d
       . exact W x d
       all_goals grind
     . grind
     . rw[YC _ [s],EB];by_cases ei:i=s.At
       . subst ei;rw[if_pos rfl,if_pos rfl,WK (λx d=>by have:=D x d; omega)]; rfl
       . rw[if_neg ei,if_neg ei,vY];split <;> simp_all
theorem next_ok {o:AN} {s:BK} {t:List BK} {Q:AN->Prop} (hl:o.heads.length<=1000000000) (V:full o.heads) (hh:qF o.heads o.heads.length) (U:o.heads≠[]) (b1:o.out.length<=1000000000)
   (ho:yJ o.out) (hs:PZ s.Val) (hx:(gH o.heads 0).l=s :: t)
   (hQ:∀ H d,(gH o.heads 0 :: d).Perm o.heads->H.Perm (if t=[] then d else ⟨t,(gH o.heads 0).which⟩ :: d)->qF H H.length->Q ⟨H,o.r,sZ o.r o.out s⟩):G0 o Q:=by
 unfold G0;have J:0<o.heads.length:=List.length_pos_iff.2 U;refine AP (x:=gH o.heads 0) (by omega) (PG J) (AwD hl V hh U λx d hp hH=>?_);rw[hx];refine AP (x:=s) (by omega) rfl ⟨by omega,by simp; omega,by omega,?_⟩;have et:((s :: t).take (((s :: t).length:Nat):Int).toNat).drop (Int.toNat 1)=t:=by simp
 rw[et];have a6:full d:=λy hy=>V y (hp.mem_iff.1 (cD _ hy));have b0:d.length<=o.heads.length:=by have:=hp.length_eq; simp at this; omega
 refine ApZ (o:=⟨d,o.r,o.out⟩) (by simp only; omega) a6 hH λH a8 a5=>?_;have a9:=hQ H d hp a8 a5;simp only
 have key:∀ b,(b=true↔(0<o.out.length∧(la o.out).At=s.At))->(λa4=>A7 a4 (BA o.out (AJ ((o.out.length:Int) - 1)) λD=>S0 o.r D.Val s.Val λO=>BA o.out (AJ ((o.out.length:Int) - 1)) λa2=>Q ({ heads:=H,r:=o.r,out:=(o.out.set ((AJ ((o.out.length:Int) - 1)).toNat) ({ At:=a2.At,Val:=O }:BK)) }:AN)) (DN 24 o.out ([s]) λ_=>Q ({ heads:=H,r:=o.r,out:=(o.out++([s])) }:AN))) b:=by
   intro b Z;refine⟨λh=>?_,λh=>?_⟩
   . have hc:=Z.1 h;have e:AJ ((o.out.length:Int) - 1)=((o.out.length - 1:Nat):Int):=by rw[AK (by omega) (by omega)]; omega
     have W:o.out[((o.out.length - 1:Nat):Int).toNat]? = some (la o.out):=by grind[la]
     rw[e];refine AP (by omega) W (WJ (ho _ (AoO W)) hs (AP (by omega) W ?_));grind[sZ]
   . have hc:¬(0<o.out.length∧(la o.out).At=s.At):=λh'=>by rw[Z.2 h'] at h; cases h
     refine AO (by simp; omega) ?_;grind[sZ]
 refine CA (λb:Bool=>b=true↔(0<o.out.length∧(la o.out).At=s.At)) (λb Z=>key b Z) λ_ a7=>?_;refine A2 (λh=>?_) (λh=>?_)
 . have e:AJ ((o.out.length:Int) - 1)=((o.out.length - 1:Nat):Int):=by rw[AK (by omega) (by omega)]; omega
   have W:o.out[((o.out.length - 1:Nat):Int).toNat]? = some (la o.out):=by grind[la]
   rw[e];exact AP (by omega) W (a7 _ (by simp; omega))
 all_goals grind
theorem Aq2 {l:List BK} {Q:Bool->Prop} (J:l.length<=1000000000) (D:Q (decide (Rise l))):ZC l Q:=by
 unfold ZC;refine CR l.length (by omega) (λn=>∀ (i:Nat) (hi:i+1<l.length),i+1<n->l[i].At<l[i+1].At) (λi hi h=>by omega) (λi next hi d V=>?_) (λnext d=>?_)
 . refine A2 (λ_=>A2 (λh=>?_) (λh=>?_)) (λh=>by omega)
   . have e:AJ ((i:Int) - 1)=((i - 1:Nat):Int):=by rw[AK (by omega) (by omega)]; omega
     rw[e];refine B8 (by omega) (B8 hi (A2 (λU=>?_) (λU=>V λ_ _ _=>?_)))
     . have:¬Rise l:=λO=>by have:=O.adj hi (i:=i - 1) (by omega); omega
       grind
     all_goals grind
   all_goals grind
 . refine A2 (λh=>by omega) (λ_=>?_);rw[decide_eq_true (AfC λi hi=>d i hi (by omega))] at D; exact D
theorem Aq3 {L:List (List BK)} {Q:Bool->Prop} (W:L.length<=1000000000) (V:∀ l∈L,l.length<=1000000000) (O:Q (decide (∃ l∈L,¬Rise l))):CO L Q:=by
 unfold CO E7;refine CR L.length (by omega) (λn=>∀ i (hi:i<L.length),i<n->Rise L[i]) (λi hi h=>by omega) (λi next hi J U=>?_) (λnext J=>?_)
 . refine A2 (λ_=>B8 hi ?_) (λh=>by omega);unfold QK;refine Aq2 (V _ (PW hi)) (BW (λh=>?_) (λh=>?_))
   . have d:=of_decide_eq_false h;rw[decide_eq_true ⟨_,PW hi,d⟩] at O;simpa using O
   all_goals grind
 . refine A2 (λh=>by omega) (λ_=>?_)
   have:¬ ∃ l∈L,¬Rise l:=by rintro⟨l,D,U⟩;obtain⟨i,hi,rfl⟩:=List.mem_iff_getElem.1 D;exact U (J i hi hi)
   simp_all
def tot (H:List B1):Nat:=(H.map λh=>h.l.length).sum
theorem Aq4 {H d:List B1} (h:H.Perm d):tot H=tot d:=(h.map _).sum_nat
theorem AiA (R:Nat->List BK):∀ n,tot (EH R n)=jY R n
 | 0=>rfl
 | n+1=>by
  rw[EH,jY];split
  . rename_i e; rw[AiA R n,e]; simp
  . have:=AiA R n; grind[tot]
theorem AkT (R:Nat->List BK) (n:Nat):full (EH R n):=by intro h D;obtain⟨_,_,d,rfl⟩:=qH.1 D;exact d
theorem Aq5:qF [] 0:=λ_ _ _=>by omega
theorem Aq6 {r:Int} {n:Nat} {R0:Nat->List BK} {V:List B1} {Q:List BK×Int->Prop} {out:List BK} (hr:1<=r∧r<=5) (hn:n<=1000000000) (hN:jY R0 n<=1000000000)
   (d2:V.Perm (EH R0 n)) (c0:qF V V.length) (a6:∀ w,w<n->Rise (R0 w)∧yJ (R0 w)) (d0:Rise out) (d1:∀ i,lk out i=PH r R0 i n none) (hQ:Q (out,0)) :
   B4 (λ(s:(List B1)×Int×(List BK)) (b1:((List B1)×Int×(List BK))->Prop)=>match s with | (s412,s416,s417)=>P8 s412 λe2=>A7 (decide (0<e2)) (G0 ({ heads:=s412,r:=s416,out:=s417 }:AN) λD=>b1 (D.heads,D.r,D.out)) (Q (s417,0))) (V,r,[]):=by
 refine CQ (λs:List B1×Int×List BK=>∃ R,s.1.Perm (EH R n)∧qF s.1 s.1.length∧s.2.1=r∧Rise s.2.2∧yJ s.2.2∧s.2.2.length+jY R n<=1000000000∧(∀ w,w<n->Rise (R w)∧yJ (R w)∧∀ x∈R w,∀ o∈s.2.2,o.At<=x.At)∧∀ i,PH r R i n (lk s.2.2 i)=PH r R0 i n none) (λs=>tot s.1)
   ⟨R0,d2,c0,rfl,by simp[Rise],by simp[yJ],by simpa using hN,λw h=>⟨(a6 w h).1,(a6 w h).2,by simp⟩,λi=>rfl⟩ ?_
 rintro⟨H,r',o⟩ next ⟨R,hp,hH,e,h1,h2,h3,h4,h5⟩ hnx;simp only at hp hH e h1 h2 h3 h4 h5 ⊢;subst e;unfold P8;refine A2 (λ_=>?_) (λ_=>?_)
 . have hne:H≠[]:=by grind
   have d8:0<H.length:=List.length_pos_iff.2 hne;have e4:H.length<=n:=hp.length_eq▸Ai8 R n;have⟨w,h,a8,U⟩:=qH.1 (hp.mem_iff.1 (Ai7 d8));have⟨s,t,d⟩:=AsY a8;have hf:full H:=YB (AkT R n) hp;have⟨O,q2,q3⟩:=h4 w h;have a4:PZ s.Val:=q2 s (by rw[d]; simp)
   -- the least one
   have e6:∀ k,k<n->∀ x∈R k,s.At<=x.At∧(k<w->s.At<x.At):=by
     intro k hk x d4;have a2:R k≠[]:=by grind
     have d9:(⟨R k,k⟩:B1)∈H:=hp.mem_iff.2 (qH.2 ⟨k,hk,a2,rfl⟩);have⟨j,hj,_⟩:=List.mem_iff_getElem.1 d9;have J:=AmE hH j hj;have⟨y,_,a5⟩:=AsY a2
     have k1:IW H j=(y.At,(k:Int)):=by
       have:gH H j=⟨R k,k⟩:=by have:=PG hj; grind
       simp[IW,yW,this,a5]
     have k0:IW H 0=(s.At,(w:Int)):=by simp[IW,yW,U,d]
     rw[k1,k0] at J
     have e5:y.At<=x.At:=by have Z:=(h4 k hk).1;rw[a5] at d4 Z;unfold Rise at Z; rw[Ae8] at Z;grind
     unfold KY at J;omega
   have a7:Rise t∧∀ x∈t,s.At<x.At:=by rw[d] at O; unfold Rise at O; rw[Ae8] at O; exact⟨O.2,O.1⟩
   have e1:∀ x∈o,x.At<=s.At:=λx d5=>q3 s (by rw[d]; simp) x d5;refine next_ok (o:=⟨H,r',o⟩) (s:=s) (t:=t) (by simp only; omega) hf hH hne (by simp only; omega) h2 a4 (by simp only; rw[U]; exact d) λH2 H' a9 b0 c1=>?_;simp only at a9 b0;have d3:(gH H 0).which=(w:Int):=by rw[U]
   rw[d3,U] at *
   have e3:H'.Perm (EH (upd R w []) n):=by
     have h6:(EH R n).Perm (⟨R w,w⟩ :: EH (upd R w []) n):=by
       have:=Ai9 (R:=R) (w:=w) (l:=R w) h
       rwa [Aq1,if_neg a8] at this
     exact List.Perm.cons_inv (a9.trans (hp.trans h6))
   have d7:H2.Perm (EH (upd R w t) n):=by refine b0.trans (List.Perm.trans ?_ (Ai9 (R:=R) (l:=t) h).symm);grind
   have⟨p1,p2,_,p4,p5⟩:=AmG (r:=r') h1 h2 a4 e1;have e7:=AfE d h;refine hnx _ ⟨upd R w t,d7,c1,rfl,p1,p2,by simp only; omega,λk hk=>?_,λi=>?_⟩ ?_
   . unfold upd;split
     . exact⟨a7.1,λx U=>q2 x (by rw[d]; simp[U]),λx U y hy=>by have:=a7.2 x U; have:=p4 y hy; omega⟩
     all_goals grind
   . simp only;rw[p5,<-h5];split
     . rename_i W; subst W;refine wC (λk hk=>WK λx U=>?_) (by rw[d,EB,if_pos rfl]) (WK λx U=>?_) h
       all_goals grind
     . rename_i W;refine rT λk hk=>?_;unfold upd;split
       . rename_i e; subst e; rw[d,EB,if_neg W]
       . rfl
   all_goals grind[tot,Aq4,AiA]
 . have d6:H=[]:=by simp_all
   subst d6
   have c2:∀ w,w<n->R w=[]:=by
     intro w h;by_cases e:R w=[]
     . exact e
     . have:=hp.mem_iff.2 (qH.2 ⟨w,h,e,rfl⟩); simp at this
   have:o=out:=AfB h1 d0 λi=>by rw[d1,<-h5,ZR];intro w h; rw[c2 w h]; rfl
   subst this;exact hQ
theorem AiB (L:List (List BK)):∀ n,n<=L.length->jY (λw=>L.getD w []) n=total (L.take n):=by
 intro n
 induction n with
 | zero=>intro _; simp[jY,total]
 | succ n d=>
  intro h;rw[jY,d (by omega),eX (by omega)]
  have:∀ (a:List (List BK)) (b:List BK),total (a++[b])=total a+b.length:=by
   intro a b; unfold total
   induction a with
   | nil=>simp
   | cons x a d=>grind
  grind
def wD (r:Int) (L:List (List BK)):List BK×Int:=if ¬(1<=r∧r<=5) then ([],8) else if ∃ l∈L,¬Rise l then ([],6) else (RA r L,0)
theorem iJ {r:Int} {L:List (List BK)} {Q:List BK×Int->Prop} (hL:L.length<=1000000) (a5:∀ l∈L,l.length<=1000000000) (hT:total L<=1000000000) (a7:∀ l∈L,yJ l) (Z:Q (wD r L)):UF r L Q:=by
 unfold UF;unfold wD at Z;refine QY (BW (λh=>?_) (λh=>?_))
 . grind
 . have hr:=of_decide_eq_true h;rw[if_neg (by omega)] at Z;refine Aq3 (by omega) a5 ⟨λh=>?_,λh=>?_⟩
   . grind
   . have a2:∀ l∈L,Rise l:=by grind
     rw[if_neg (of_decide_eq_false h)] at Z;refine AL (s0:=(([]:List B1),r,([]:List BK))) (λ(s:List B1×Int×List BK) i=>(s.1,s.2.1,s.2.2,i)) 0 L.length (by omega) (λi s=>s.1.Perm (EH (λw=>L.getD w []) i)∧qF s.1 s.1.length∧s.2.1=r∧s.2.2=[]) (by omega) ⟨.refl _,Aq5,rfl,rfl⟩ (λi s next _ hi D hn=>?_) (λs next D=>?_)
     . have⟨H,W,o⟩:=s;have⟨J,U,V,O⟩:=D;simp only at J U V O ⊢;subst V; subst O;refine A2 (λ_=>?_) (λh=>by omega);have a6:H.length<=i:=J.length_eq▸Ai8 _ i;refine B8 hi (ApZ (o:=⟨H,W,[]⟩) (by simp only; omega) (YB (AkT _ i) J) U λH2 hp a4=>?_);refine hn (H2,W,[]) ⟨hp.trans ?_,a4,rfl,rfl⟩;have e:L.getD i []=L[i]:=by grind
       simp only[EH,e];grind
     . have⟨H,W,o⟩:=s;have⟨J,U,V,O⟩:=D;simp only at J U V O ⊢;subst V; subst O;refine A2 (λh=>by omega) (λ_=>?_);have d:=wA W L a2 L.length (by omega);rw[RV] at d;refine Aq6 (out:=RA W L) (R0:=λw=>L.getD w []) hr (n:=L.length) (by omega) (by rw[AiB L _ (by omega),RV]; exact hT) J U (λw _=>?_) d.1 d.2.2.2 Z;grind
def XD (z:Int):AQ:=⟨AJ (z / 18446744073709551616),z % 18446744073709551616⟩
theorem AcF (z:Int):PZ (XD z):=by unfold PZ XD; simp only[M4]; omega
theorem ZS (x y:Int):KJ 5 (XD x) (XD y)=XD (x+y):=by
 have e:KJ 5 (XD x) (XD y)=⟨AJ ((XD x).Hi+(XD y).Hi+(if 18446744073709551616<=(XD x).Lo+(XD y).Lo then 1 else 0)),((XD x).Lo+(XD y).Lo) % 18446744073709551616⟩:=rfl;rw[e];unfold XD;apply SB
 . simp only[M4]; split <;> omega
 . simp only; omega
theorem mW {v:Int} (h:EA v):cT v=XD v:=by
 unfold cT XD EA at *;apply SB
 . simp only[M4]; split <;> omega
 . rfl
theorem AkU {hi lo:Int} (d:0<=lo) (h:lo<18446744073709551616):(⟨AJ hi,lo⟩:AQ)=XD (hi*18446744073709551616+lo):=by
 unfold XD;apply SB
 . simp only[M4]; omega
 . simp only; omega
theorem Aq7 {x:Int} (k:Nat) (hk:k<=64):shr .u64 x k=x / 2 ^ k:=by
 unfold shr;rw[AsX _ (Aa8 (AjY (by omega)))];have:min (Int.toNat (k:Int)) (IntKind.bits .u64)=k:=by simp[IntKind.bits]; omega
 rw[this]
theorem Aq8 {x:Int} (k:Nat) (hk:k<=64):shl .u64 x k=(x*2 ^ k) % 18446744073709551616:=by
 unfold shl;rw[ZN];have:min (Int.toNat (k:Int)) (IntKind.bits .u64)=k:=by simp[IntKind.bits]; omega
 rw[this]
theorem fX (x:Int) (d:0<=x) (h:x<18446744073709551616):(BitVec.ofInt 64 x).toNat=x.toNat:=by rw[BitVec.toNat_ofInt];congr 1;exact Int.emod_eq_of_lt d (by simpa using h)
theorem AkV {x y:Int} (h:0<=x) (J:x<18446744073709551616) (d:0<=y) (D:y<18446744073709551616):bor .u64 x y=((x.toNat ||| y.toNat:Nat):Int):=by
 unfold bor
 have e:(BitVec.ofInt (IntKind.bits .u64) x ||| BitVec.ofInt (IntKind.bits .u64) y).toNat=x.toNat ||| y.toNat:=by show(BitVec.ofInt 64 x ||| BitVec.ofInt 64 y).toNat=_;rw[BitVec.toNat_or,fX x h J,fX y d D]
 rw[e,ZN];have:x.toNat ||| y.toNat<2 ^ 64:=Nat.or_lt_two_pow (by omega) (by omega);omega
theorem AcG {x y:Int} (h:0<=x) (J:x<18446744073709551616) (d:0<=y) (D:y<18446744073709551616):cC .u64 x y=((x.toNat &&& y.toNat:Nat):Int):=by
 unfold cC
 have e:(BitVec.ofInt (IntKind.bits .u64) x &&& BitVec.ofInt (IntKind.bits .u64) y).toNat=x.toNat &&& y.toNat:=by show(BitVec.ofInt 64 x &&& BitVec.ofInt 64 y).toNat=_;rw[BitVec.toNat_and,fX x h J,fX y d D]
 rw[e,ZN];have:x.toNat &&& y.toNat<2 ^ 64:=Nat.and_lt_two_pow _ (by omega);omega
theorem AiC {h l:Int} (J:0<=h) (D:h<4294967296) (d:0<=l) (O:l<4294967296):bor .u64 (h*4294967296) l=h*4294967296+l:=by
 rw[AkV (by omega) (by omega) d (by omega)];have e:(h*4294967296).toNat=h.toNat <<< 32:=by rw[Nat.shiftLeft_eq]; omega
 rw[e,<-Nat.shiftLeft_add_eq_or_of_lt (by omega),Nat.shiftLeft_eq];omega
theorem TX {x:Int} {Q:Int×Int->Prop} (D:0<=x) (J:x<18446744073709551616) (O:Q (x % 4294967296,x / 4294967296)):HW x Q:=by
 unfold HW;have h:shl .u64 x 32=(x*4294967296) % 18446744073709551616:=Aq8 32 (by omega);have d:∀ y,shr .u64 y 32=y / 4294967296:=λy=>Aq7 32 (by omega);rw[h,d,d]
 rwa [show x*4294967296 % 18446744073709551616 / 4294967296=x % 4294967296 by omega]
theorem AiD {a b:Int} {Q:AQ->Prop} (a4:0<=a) (a5:a<18446744073709551616) (a7:0<=b) (a8:b<18446744073709551616) (hQ:Q (XD (a*b))):TG a b Q:=by
 unfold TG
 have U:∀ x y:Int,0<=x->x<4294967296->0<=y->y<4294967296->0<=x*y∧x*y<=18446744065119617025:=by intro x y h1 h2 W h4;refine⟨AjV h1 W,?_⟩;have:=AjT (show x<=4294967295 by omega) (show y<=4294967295 by omega) W (by omega);omega
 refine TX a4 a5 (TX a7 a8 ?_);simp only;obtain⟨O,a9⟩:∃ O,O=a % 4294967296:=⟨_,rfl⟩;obtain⟨h,b0⟩:∃ h,h=a / 4294967296:=⟨_,rfl⟩;obtain⟨J,b1⟩:∃ J,J=b % 4294967296:=⟨_,rfl⟩;obtain⟨d,c0⟩:∃ d,d=b / 4294967296:=⟨_,rfl⟩;rw[<-a9,<-b0,<-b1,<-c0]
 have a6:a*b=h*d*18446744073709551616+(h*J+O*d)*4294967296+O*J:=by
  have e1:a=h*4294967296+O:=by omega
  have e2:b=d*4294967296+J:=by omega
  rw[e1,e2,Int.add_mul,Int.mul_add,Int.mul_add];have q1:h*4294967296*(d*4294967296)=h*d*18446744073709551616:=by rw[Int.mul_assoc,Int.mul_left_comm 4294967296 d,<-Int.mul_assoc h]; rfl
  have q2:h*4294967296*J=h*J*4294967296:=Int.mul_right_comm _ _ _;have q3:O*(d*4294967296)=O*d*4294967296:=(Int.mul_assoc _ _ _).symm;rw[q1,q2,q3]; omega
 have⟨_,_⟩:=U O J (by omega) (by omega) (by omega) (by omega);have⟨_,_⟩:=U O d (by omega) (by omega) (by omega) (by omega);have⟨_,_⟩:=U h J (by omega) (by omega) (by omega) (by omega);have⟨_,_⟩:=U h d (by omega) (by omega) (by omega) (by omega);generalize O*J=D at *;generalize O*d=V at *;generalize h*J=p10 at *;generalize h*d=Z at *;simp only[ZN];refine TX (by omega) (by omega) ?_;simp only;refine TX (by omega) (by omega) ?_;simp only;refine TX (by omega) (by omega) (TX (by omega) (by omega) ?_);simp only;have e3:∀ y,shl .u64 y 32=(y*4294967296) % 18446744073709551616:=λy=>Aq8 32 (by omega);rw[e3];have e4:∀ y:Int,(y % 4294967296*4294967296) % 18446744073709551616=y % 4294967296*4294967296:=λy=>by omega
 rw[e4,AiC (by omega) (by omega) (by omega) (by omega),AkU (by omega) (by omega)];rw[a6] at hQ
 have a2:XD (((((Z % 18446744073709551616+(p10 % 18446744073709551616+D % 18446744073709551616 / 4294967296) % 18446744073709551616 / 4294967296) % 18446744073709551616+(V % 18446744073709551616+(p10 % 18446744073709551616+D % 18446744073709551616 / 4294967296) % 18446744073709551616 % 4294967296) % 18446744073709551616 / 4294967296) % 18446744073709551616)*18446744073709551616+((V % 18446744073709551616+(p10 % 18446744073709551616+D % 18446744073709551616 / 4294967296) % 18446744073709551616 % 4294967296) % 18446744073709551616 % 4294967296*4294967296+D % 18446744073709551616 % 4294967296)))=XD (Z*18446744073709551616+(p10+V)*4294967296+D):=by
  unfold XD;apply SB
  . simp only[M4]; omega
  . simp only; omega
 rw[a2]; exact hQ
theorem mX {a:AQ} (h:PZ a):a=XD (a.Hi*18446744073709551616+a.Lo):=by
 unfold PZ at h;rw[<-AkU (by omega) (by omega)];apply SB
 . simp only[M4]; omega
 . rfl
theorem Aq9 {x:Int} {Q:AQ->Prop} (d:Q (XD (-x))):mH ⟨0,0⟩ (XD x) Q:=by
 unfold mH U6
 have key:∀ c:Int,(c=if 0<(XD x).Lo then 1 else 0)->(⟨AJ ((((0 % 18446744073709551616) - ((XD x).Hi % 18446744073709551616)) % 18446744073709551616 - c) % 18446744073709551616),(0 - (XD x).Lo) % 18446744073709551616⟩:AQ)=XD (-x):=by
   intro c D;unfold XD at *;subst D;apply SB
   . simp only[M4]; split <;> omega
   . simp only; omega
 simp only[ZN];refine A2 (λh=>?_) (λh=>?_)
 . rw[key 1 (by rw[if_pos h])]; exact d
 . rw[key 0 (by rw[if_neg h])]; exact d
theorem AfG {a b:Int} {Q:AQ->Prop} (J:EA a) (O:EA b) (D:Q (XD (a*b))):mI a b Q:=by
 unfold mI;unfold EA at J O
 have U:∀ {x:Int} {K:Int->Prop},-9223372036854775808<=x∧x<=9223372036854775807->K (if x<0 then -x else x)->Y4 x K:=by
   intro x K hx d;unfold Y4;simp only[ZN];refine A2 (λh=>?_) (λh=>?_)
   . rw[if_pos h] at d; rwa [show(0 - x % 18446744073709551616) % 18446744073709551616 = -x by omega]
   . rw[if_neg h] at d; rwa [show x % 18446744073709551616=x by omega]
 refine U J (U O ?_);have V : -a*b = -(a*b):=Int.neg_mul _ _;have Z:a * -b = -(a*b):=Int.mul_neg _ _;have W : -a * -b=a*b:=Int.neg_mul_neg _ _;refine AiD (by split <;> omega) (by split <;> omega) (by split <;> omega) (by split <;> omega) ?_;by_cases h1:a<0 <;> by_cases h2:b<0
 . rw[if_pos h1,if_pos h2,W];exact AH (by simp[h1,h2]) D
 . rw[if_pos h1,if_neg h2,V];exact AV (by simp[h1,h2]) (Aq9 (by rwa [Int.neg_neg]))
 . rw[if_neg h1,if_pos h2,Z];exact AV (by simp[h1,h2]) (Aq9 (by rwa [Int.neg_neg]))
 . rw[if_neg h1,if_neg h2];exact AH (by simp[h1,h2]) D
def YE (r a x:Int):AQ:=
 if r=2 then (if a≠0∧x≠0 then ⟨0,1⟩ else ⟨0,0⟩)
 else if r=5 then XD (a*x)
 else if r=1∨r=3∨r=4 then
  (if 4611686018427387904<=a∨4611686018427387904<=x then XD 4611686018427387904
   else if r=3 then XD a else if r=4 then XD x else if sX (XD 4611686018427387904) (XD (a+x)) then XD 4611686018427387904 else XD (a+x))
 else ⟨0,0⟩
theorem SD (r a x:Int):PZ (YE r a x):=by
 have h:PZ ⟨0,0⟩:=by unfold PZ; simp
 have d:PZ ⟨0,1⟩:=by unfold PZ; simp
 unfold YE
 repeat' split
 all_goals first | exact AcF _ | exact h | exact d
theorem AtR {x y:Int} (D : -170141183460469231731687303715884105728<=x∧x<170141183460469231731687303715884105728) (d : -170141183460469231731687303715884105728<=y∧y<170141183460469231731687303715884105728):sX (XD x) (XD y)↔x<=y:=by
 have h:∀ z:Int,-170141183460469231731687303715884105728<=z∧z<170141183460469231731687303715884105728->AJ (z / 18446744073709551616)=z / 18446744073709551616:=by intro z J; rw[M4]; omega
 unfold sX XD;simp only[h x D,h y d];omega
theorem WL {r a x:Int} {Q:AQ->Prop} (U:EA a) (V:EA x) (d:Q (YE r a x)):UI r a x Q:=by
 unfold UI;unfold YE at d;have W:EA 4611686018427387904:=by unfold EA; omega
 refine AY (λh=>?_) (λh=>AY (λZ=>?_) (λZ=>?_))
 . rw[if_pos h] at d;refine BO (λD=>mN ?_) (λD=>mN ?_)
   . simpa[D] using d
   . simpa[D] using d
 . rw[if_neg h,if_pos Z] at d;exact AfG U V d
 . rw[if_neg h,if_neg Z] at d;have a2:(if x > a then x else a)>=4611686018427387904↔4611686018427387904<=a∨4611686018427387904<=x:=by split <;> omega
   refine CA (λ_=>¬((1<=r∧r<=5)∧(4611686018427387904<=a∨4611686018427387904<=x))) ?_ ?_
   . rintro _ _;refine CA (λp:Int×Int=>(⟨p.1,p.2⟩:AQ)=XD (if r=1 then a else 0)∧(r=1∨r=4)) ?_ ?_
     . rintro⟨_,_⟩ ⟨hp,O⟩;simp only at hp ⊢;refine M5 W (M5 V ?_);rw[hp,mW W,mW V];refine rQ (AcF _) (AcF _) (AaI ?_);rw[ZS];rw[if_pos (by omega),if_neg (by omega),if_neg (by omega)] at d;rcases O with O | O
       . rw[if_pos O]; rwa [if_neg (by omega)] at d
       . rw[if_neg (show ¬r=1 by omega),show(0:Int)+x=x by omega];rw[if_pos O] at d;unfold EA at V
         rwa [if_neg (by rw[AtR (by omega) (by omega)]; omega)]
     . intro k hk;refine AY (λD=>M5 U (hk _ ⟨?_,.inl D⟩)) (λD=>AY (λh4=>hk _ ⟨?_,.inr h4⟩) (λh4=>AY (λh3=>M5 U ?_) (λh3=>?_)))
       . rw[if_pos D]; exact mW U
       . rw[if_neg D]; decide
       . rw[if_pos (by omega),if_neg (by omega),if_pos h3] at d;rw[mW U]; exact d
       . rw[if_neg (by omega)] at d; exact d
   . intro k hk;refine QY ⟨λD=>A2 (λh2=>M5 W ?_) (λh2=>hk _ ?_),λD=>hk _ ?_⟩
     . have D:=of_decide_eq_true D;rw[if_pos (by omega),if_pos (a2.1 h2)] at d;rw[mW W]; exact d
     . exact λJ=>h2 (a2.2 J.2)
     . exact λJ=>of_decide_eq_false D J.1
def rU (f:List Int):Prop:=∀ x∈f,0<=x∧x<18446744073709551616
def G7 (f:List Int) (i:Int):Bool:=decide (0<=i) && (at0 f (i / 64)).toNat.testBit (i % 64).toNat
theorem AfH {f:List Int} {i:Int} (h:(f.length:Int)<=i):at0 f i=0:=by unfold at0;rw[sU,At3 (by omega)]; rfl
theorem dD {f:List Int} (h:rU f) (i:Int):0<=at0 f i∧at0 f i<18446744073709551616:=by
 by_cases e:i.toNat<f.length
 . have:at0 f i=f[i.toNat]:=by simp[at0,sU,e]
   rw[this]; exact h _ (PW e)
 . have:at0 f i=0:=by unfold at0; rw[sU,At3 (by omega)]; rfl
   rw[this]; omega
theorem TY {f:List Int} {i:Int} (h:64*(f.length:Int)<=i):G7 f i=false:=by unfold G7; rw[AfH (by omega)]; simp
theorem YF {f:List Int} {i:Int} (h:i<0):G7 f i=false:=by unfold G7; simp[show ¬0<=i by omega]
theorem AkW {f:List Int} {i:Int} (h:G7 f i=true):0<=i∧i<64*(f.length:Int):=by
 rcases AhL i 0 with d | d
 . rw[YF d] at h; cases h
 . rcases AhL i (64*(f.length:Int)) with D | D
   . exact⟨d,D⟩
   . rw[TY D] at h; cases h
theorem AtS (i:Int):shr .i64 i 6=i / 64:=by unfold shr;rw[AsX _ (by decide)]; rfl
theorem rV {f:List Int} {i:Int} {Q:Bool->Prop} (d:Q (decide (0<=i∧i / 64<f.length))):P3 f i Q:=by
 unfold P3;rw[AtS];refine A2 (λh=>?_) (λh=>?_)
 . simpa[h] using d
 . simpa[h] using d
theorem AwE (k:Nat):(2:Int) ^ k=((2 ^ k:Nat):Int):=by rw[Int.natCast_pow]; rfl
theorem AqA {k:Nat} (hk:k<64):(2:Nat) ^ k<18446744073709551616:=Nat.pow_lt_pow_right (n:=64) (a:=2) (by omega) hk
theorem AtT {k:Nat} (hk:k<64):shl .u64 1 k=((2 ^ k:Nat):Int):=by rw[Aq8 _ (by omega),Int.one_mul,AwE];have hp:=AqA hk;generalize 2 ^ k=p at *;omega
theorem AwF (x k:Nat):x &&& 2 ^ k=if x.testBit k then 2 ^ k else 0:=by
 apply Nat.eq_of_testBit_eq;intro j;rw[Nat.testBit_and,AjG];by_cases e:k=j
 . subst e;cases h:x.testBit k
   . simp
   . simp[AjG]
 . cases h:x.testBit k
   . simp[e]
   . simp[e,AjG]
theorem AqB {i:Int} {Q:Int->Prop} (h:0<=i) (d:i<18446744073709551616) (D:Q ((2 ^ (i % 64).toNat:Nat):Int)):XZ i Q:=by
 unfold XZ
 have e:cC .u64 (IntKind.wrap .u64 i) 63=(((i % 64).toNat:Nat):Int):=by rw[ZN,show i % 18446744073709551616=i by omega,AcG h d (by omega) (by omega)];congr 1;rw[show Int.toNat 63=2 ^ 6 - 1 from rfl,Nat.and_two_pow_sub_one_eq_mod];omega
 rw[e];refine⟨by omega,?_⟩;rw[AtT (by omega)]; exact D
theorem K9 {f:List Int} {i:Int} {Q:Bool->Prop} (U:rU f) (hi:EA i) (d:Q (G7 f i)):KR f i Q:=by
 unfold KR;unfold EA at hi;refine rV ⟨λh=>?_,λh=>?_⟩
 . have h:=of_decide_eq_true h;rw[AtS];have J:=dD U (i / 64);refine BL (by omega) h.2 (AqB h.1 (by omega) ?_);have hp:=AqA (k:=(i % 64).toNat) (by omega);have e:G7 f i=(at0 f (i / 64)).toNat.testBit (i % 64).toNat:=by unfold G7; simp[h.1]
   rw[e] at d;have O:0<(2:Nat) ^ (i % 64).toNat:=Nat.pow_pos (by omega);have V:=AwF (at0 f (i / 64)).toNat (i % 64).toNat;generalize (i % 64).toNat=k at *;rw[AcG J.1 J.2 (AoQ _) (by generalize 2 ^ k=p at *; omega),YZ,V]
   cases Z:(at0 f (i / 64)).toNat.testBit k with
   | false=>rw[Z] at d; simpa using d
   | true=>
    rw[Z] at d
    have W:(((if (true:Bool)=true then 2 ^ k else 0:Nat):Int) != 0)=true:=by rw[if_pos rfl,bne_iff_ne];generalize 2 ^ k=p at *; omega
    rw[W]; exact d
 . have h:=of_decide_eq_false h
   have e:G7 f i=false:=by
    rcases AhL i 0 with D | D
    . exact YF D
    . exact TY (by omega)
   rw[e] at d; exact d
def KZ (n:Int):Nat:=((if 4096<(if n<0 then 0 else n) then 4096 else (if n<0 then 0 else n))+63).toNat / 64
def yX (n:Int):List Int:=List.replicate (KZ n) 0
theorem dE (n:Int):KZ n<=64:=by unfold KZ; split <;> split <;> omega
theorem AfI {n i:Int} (d:0<=i) (D:i<n) (h:i<4096):i / 64<KZ n:=by unfold KZ; split <;> split <;> omega
theorem AmH {n i:Int} (d:i / 64<KZ n):i<4096:=by unfold KZ at d; split at d <;> split at d <;> omega
theorem AtU (n:Int):rU (yX n):=by intro x d; rw[yX,List.mem_replicate] at d; omega
theorem AqC (n i:Int):G7 (yX n) i=false:=by
 have:∀ k,at0 (yX n) k=0:=by intro k; unfold at0 yX;rw[sU,List.getElem?_replicate]; split <;> rfl
 unfold G7; rw[this]; simp
theorem dF {n:Int} {Q:Int->Prop} (d:Q (KZ n)):S3 n Q:=by
 unfold S3;rw[AtS]
 have e:AJ ((if 4096<(if 0 > n then 0 else n) then 4096 else (if 0 > n then 0 else n))+63) / 64=(KZ n:Int):=by unfold KZ;rw[M4];split <;> split <;> omega
 rw[e]; exact d
theorem mY {n:Int} {Q:List Int->Prop} (d:Q (yX n)):Q9 n Q:=by unfold Q9;refine dF ⟨by omega,by have:=dE n; omega,?_⟩;simpa[yX] using d
def AcH (f:List Int) (i:Int):List Int:=if 0<=i∧i / 64<f.length then f.set (i / 64).toNat (((at0 f (i / 64)).toNat ||| 2 ^ (i % 64).toNat:Nat):Int) else f
theorem AqD (f:List Int) (i:Int):(AcH f i).length=f.length:=by unfold AcH; split <;> simp
theorem AtV {f:List Int} (h:rU f) (i:Int):rU (AcH f i):=by
 unfold AcH;split
 . intro x d;rcases List.mem_or_eq_of_mem_set d with d | d
   . exact h x d
   . have D:=dD h (i / 64);have hp:(2:Nat) ^ (i % 64).toNat<2 ^ 64:=Nat.pow_lt_pow_right (by omega) (by omega);have:=Nat.or_lt_two_pow (x:=(at0 f (i / 64)).toNat) (y:=2 ^ (i % 64).toNat) (n:=64) (by omega) hp;omega
 . exact h
theorem AqE {f:List Int} (i j:Int):G7 (AcH f i) j=if j=i∧0<=i∧i / 64<f.length then true else G7 f j:=by
 unfold AcH;by_cases hc:0<=i∧i / 64<f.length
 . rw[if_pos hc];rcases AhL j 0 with D | D
   . rw[YF D,if_neg (by omega),YF D]
   . have d:∀ v:Int,at0 (f.set (i / 64).toNat v) (j / 64)=if j / 64=i / 64 then v else at0 f (j / 64):=by
       intro v;unfold at0;rw[sU,sU];by_cases e:j / 64=i / 64
       . rw[if_pos e,e,AlU (by omega)]; rfl
       . rw[if_neg e,AhE (by omega)]
     unfold G7;rw[d];by_cases e:j / 64=i / 64
     . rw[if_pos e,YZ,Nat.testBit_or,AjG,e];by_cases e2:j=i
       . subst e2; simp[hc,D]
       . have:¬(i % 64).toNat=(j % 64).toNat:=by omega
         simp[e2,this]
     . rw[if_neg e,if_neg (by intro h; exact e (by rw[h.1]))]
 . rw[if_neg hc,if_neg (λh=>hc h.2)]
def rW (n:Int) (l:List Int):List Int:=l.foldl (λf i=>if 0<=i∧i<n∧i<4096 then AcH f i else f) (yX n)
theorem AfJ (n:Int) (l:List Int) (i:Int):rW n (l++[i])=if 0<=i∧i<n∧i<4096 then AcH (rW n l) i else rW n l:=by simp[rW]
theorem IX (n:Int) (l:List Int):rU (rW n l)∧(rW n l).length=KZ n∧∀ j,G7 (rW n l) j=decide (j∈l∧0<=j∧j<n∧j<4096):=by
 suffices H:∀ k,k<=l.length->rU (rW n (l.take k))∧(rW n (l.take k)).length=KZ n∧∀ j,G7 (rW n (l.take k)) j=decide (j∈l.take k∧0<=j∧j<n∧j<4096) by have:=H l.length (by omega); rwa [RV] at this
 intro k
 induction k with
 | zero=>intro _; exact⟨AtU n,by simp[rW,yX],λj=>by simp[rW,AqC]⟩
 | succ k W=>
  intro hk;have⟨O,J,U⟩:=W (by omega);rw[eX (by omega),AfJ];split
  . rename_i d;refine⟨AtV O _,by rw[AqD,J],λj=>?_⟩;rw[AqE,J,U];have Z:=AfI d.1 d.2.1 d.2.2;by_cases e:j=l[k]
    . subst e;rw[if_pos ⟨rfl,d.1,Z⟩];exact(decide_eq_true ⟨List.mem_append.2 (.inr (by simp)),d⟩).symm
    . rw[if_neg (λh=>e h.1)];refine decide_eq_decide.2 ?_;rw[sW,lO];simp only[e,or_false]
  . rename_i d;refine⟨O,J,λj=>?_⟩;rw[U];refine decide_eq_decide.2 ?_;rw[sW,lO];by_cases e:j=l[k]
    . subst e;constructor
      . rintro⟨V,D⟩; exact⟨.inl V,D⟩
      . rintro⟨_,D⟩; exact absurd D d
    . simp only[e,or_false]
theorem WM {n:Int} {l:List Int} {Q:List Int->Prop} (hl:l.length<=1000000000) (hi:∀ x∈l,EA x) (hQ:Q (rW n l)):ND n l Q:=by
 unfold ND;refine mY (AL (λ(s:List Int) i=>(s,i)) 0 l.length (by omega) (λk s=>s=rW n (l.take k)) (by omega) (by simp[rW]) (λk s next _ hk U W=>?_) (λs next U=>?_))
 . subst U;have d:=AfJ n (l.take k) l[k];rw[<-eX hk] at d;have⟨Z,p2,_⟩:=IX n (l.take k);have O:=hi _ (PW hk);unfold EA at O;refine A2 (λ_=>B8 hk ?_) (λh=>by omega);refine CA (λb=>b=decide (l[k]<n∧0<=l[k]∧l[k] / 64<KZ n)) ?_ ?_
   . rintro b rfl;refine A2 (λh=>?_) (λh=>W _ ?_)
     . rw[AtS];refine BL (by omega) (by rw[p2]; omega) (AqB h.2.1 (by omega) (BL (by omega) (by rw[p2]; omega) (W _ ?_)));have V:=dD Z (l[k] / 64);have hp:=AqA (k:=(l[k] % 64).toNat) (by omega);rw[d,if_pos ⟨h.2.1,h.1,AmH h.2.2⟩,AcH,if_pos ⟨h.2.1,by rw[p2]; exact h.2.2⟩,AkV V.1 V.2 (AoQ _) (by generalize 2 ^ (l[k] % 64).toNat=p at *; omega),YZ]
     . rw[d,if_neg];intro D;exact h ⟨D.2.1,D.1,AfI D.1 D.2.1 D.2.2⟩
   . intro k' J;refine A2 (λh=>rV (J _ ?_)) (λh=>J _ ?_)
     . rw[p2]; simp[h]
     . simp[h]
 . subst U;refine A2 (λh=>by omega) (λ_=>?_);rw[RV]; exact hQ
def WN (f:List Int):List Int:=((List.range (64*f.length)).filter λi:Nat=>G7 f i).map λi:Nat=>(i:Int)
theorem TZ {f:List Int} {i:Int}:i∈WN f↔G7 f i=true:=by
 unfold WN;simp only[gL,AlZ,AjU];constructor
 . rintro⟨_,⟨_,h⟩,rfl⟩; exact h
 . intro h;have⟨d,_⟩:=AkW h;exact⟨i.toNat,⟨by omega,by rw[Int.toNat_of_nonneg d]; exact h⟩,by omega⟩
theorem wE (f:List Int):(WN f).Pairwise (· < ·):=by unfold WN;rw[X3];exact uO (λ_=>by omega) (X2 _ AoA)
def dG (f:List Int) (n:Int):Prop:=(0<=n∧n<=4096)∧f.length=KZ n∧∀ i∈WN f,i<n
instance (f:List Int) (n:Int):Decidable (dG f n):=by unfold dG; infer_instance
theorem AaQ {n:Int} (h:0<=n∧n<=4096) (l:List Int):dG (rW n l) n:=by have⟨_,D,d⟩:=IX n l;refine⟨h,D,λ_ hi=>?_⟩;rw[TZ,d] at hi;exact(of_decide_eq_true hi).2.2.1
theorem AqF {n:Int} {l:List Int} (h:n<=4096) (V:l.Pairwise (· < ·)) (hi:∀ i∈l,0<=i∧i<n):WN (rW n l)=l:=by
 have d:∀ {l J:List Int} (h:l.Pairwise (· < ·)) (O:J.Pairwise (· < ·)) (U:∀ x,x∈l↔x∈J),l=J:=λh O U=>
   Y6 ((yK (h.imp λh e=>by omega) (O.imp λh e=>by omega)).2 U) h O λ_ _ _ _ _ _=>by omega
 refine d (wE _) V λx=>?_;rw[TZ,(IX n l).2.2];constructor
 . intro D; exact(of_decide_eq_true D).1
 . intro D; have:=hi x D; exact decide_eq_true ⟨D,this.1,this.2,by omega⟩
def IncI (l:List B3):Prop:=l.Pairwise λa b=>a.At<b.At
instance (l:List B3):Decidable (IncI l):=by unfold IncI; infer_instance
structure VecP (v:Vec):Prop where
 n0:0≤v.N
 n1:v.N≤4096
 inc:IncI v.Items
 ins:∀ x∈v.Items,0≤x.At∧x.At<v.N
instance (v:Vec):Decidable (VecP v):=decidable_of_iff (0<=v.N∧v.N<=4096∧IncI v.Items∧∀ x∈v.Items,0<=x.At∧x.At<v.N) ⟨λ⟨a,b,c,d⟩=>⟨a,b,c,d⟩,λ⟨a,b,c,d⟩=>⟨a,b,c,d⟩⟩
def zV:Vec:=⟨0,[]⟩
theorem Ay0:VecP zV:=⟨by decide,by decide,.nil,by simp[zV]⟩
def G4 (v:Vec):Vec:=if VecP v then v else zV
theorem SE (v:Vec):VecP (G4 v):=by grind[G4,Ay0]
theorem IY {v:Vec} (h:VecP v):G4 v=v:=if_pos h
theorem AtW {l:List B3} (h:∀ (i:Nat) (hi:i+1<l.length),l[i].At<l[i+1].At):IncI l:=by
 unfold IncI;rw[AlT];intro i j hi J D;obtain⟨d,rfl⟩:∃ d,j=i+1+d:=⟨j - i - 1,by omega⟩
 induction d with
 | zero=>exact h i (by omega)
 | succ d O=>grind
theorem IncI.at {l:List B3} (h:IncI l) {i j:Nat} (D:j<l.length) (d:i<j):(l[i]'(by omega)).At<l[j].At:=by unfold IncI at h; rw[AlT] at h; grind
theorem AqG {l:List B3} (h:IncI l) {n:Int} (d:0<=n) (hi:∀ x∈l,0<=x.At∧x.At<n):(l.length:Int)<=n:=by
 have:∀ k (hk:k<l.length),(k:Int)<=l[k].At:=by
   intro k
   induction k with
   | zero=>grind
   | succ k D=>intro hk; have:=D (by omega); have:=h.at hk (i:=k) (by omega); omega
 rcases jF l.length with e | e
 . rw[e]; exact d
 . have J:=this (l.length - 1) (by omega);grind
theorem VecP.len {v:Vec} (h:VecP v):v.Items.length<=4096:=by have:=AqG h.inc h.n0 h.ins; have:=h.n1; omega
theorem tA {x y:Int} {Q:Bool->Prop} (d:Q (decide (0<=x∧x<=y))):TB x y Q:=by
 unfold TB;refine A2 (λh=>?_) (λh=>?_)
 all_goals grind
theorem F8 {v:Vec} {Q:Bool→Prop} (hl:v.Items.length≤1000000000) (hQ:Q (decide (VecP v))):FE v Q:=by
 unfold FE
 have D:¬VecP v→Q false:=fun h=>by rwa [decide_eq_false h] at hQ
 have a2:VecP v→Q true:=fun h=>by rwa [decide_eq_true h] at hQ
 refine tA (BW (fun h=>D fun V=>of_decide_eq_false h ⟨V.n0,V.n1⟩) (fun h=>?_))
 have h:=of_decide_eq_true h
 unfold D9 DR
 refine AL (s0:=(-1:Int)) (fun (s:Int) i=>(s,i)) 0 v.Items.length (by omega) (fun k s=>(∀ (i:Nat) (hi:i+1<v.Items.length),i+1<k→v.Items[i].At<v.Items[i+1].At)∧(∀ i (hi:i<v.Items.length),i<k→0≤v.Items[i].At∧v.Items[i].At<v.N)∧(k=0→s = -1)∧(∀ (hk:0<k) (hl:k≤v.Items.length),s=(v.Items[k - 1]'(by omega)).At)) (by omega) ⟨fun i _ h=>by omega,fun i _ h=>by omega,fun _=>rfl,fun h=>by omega⟩ (fun k s next _ hk O hn=>?_) (fun s next O=>?_)
 · obtain ⟨h1,h2,h3,h4⟩:=O
   refine A2 (fun _=>B8 hk ?_) (fun h=>by omega)
   unfold P4
   have a5:¬VecP v→(fun d:Bool×Int=>A7 d.1 ((fun J:Int×Int=>(fun a6:Bool×Int=>Q (!a6.1)) (decide (0≤J.1),J.2)) ((k:Int),d.2)) (next (d.2,AJ ((k:Int)+1)))) (true,v.Items[k].At):=by
     intro a7
     refine AV rfl ?_
     grind
   refine A2 (fun W=>a5 fun U=>?_) (fun W=>?_)
   · rcases jF k with e | e
     · subst e
       rw [h3 rfl] at W
       have:=(U.ins _ (PW hk)).1; omega
     · rw [h4 e (by omega)] at W
       have:=U.inc.at hk (i:=k - 1) (by omega); omega
   · refine ⟨fun Z=>?_,fun Z=>hn _ ⟨fun i hi a4=>?_,fun i hi a4=>?_,fun h=>by omega,fun _ _=>by simp⟩⟩
     · have Z:=of_decide_eq_true Z
       simp only [show decide ((0:Int)≤(k:Int))=true by simp]
       exact D fun U=>by have:=(U.ins _ (PW hk)).2; omega
     all_goals grind
 · obtain ⟨h1,h2,h3,h4⟩:=O
   refine A2 (fun h=>by omega) (fun _=>?_)
   simp only [show decide ((0:Int) ≤ -1)=false by decide]
   refine a2 ⟨h.1,h.2,AtW fun i hi=>h1 i hi (by omega),fun _ hx=>?_⟩
   obtain ⟨i,hi,rfl⟩:=List.mem_iff_getElem.1 hx
   exact h2 i hi hi
theorem NF {v:Vec} {Q:Vec->Prop} (D:v.Items.length<=1000000000) (d:Q (G4 v)):LV v Q:=by
 unfold LV;unfold G4 at d;refine F8 D (A2 (λh=>?_) (λh=>?_))
 . rwa [if_pos h] at d
 . rwa [if_neg h] at d
theorem AfK {α β:Type} {xs:List α} {f:α->β} {d:List β×Int->(List β×Int->Prop)->Prop} (U:xs.length<=1000000000)
   (D:∀ (i:Nat) (s:List β) (next:List β×Int->Prop) (hi:i<xs.length),s.length=i->(next (s++[f xs[i]],AJ ((i:Int)+1)))->d (s,(i:Int)) next)
   (O:∀ (next:List β×Int->Prop) s,s=xs.map f->d (s,(xs.length:Int)) next):B4 d ([],0):=by
 refine AL (λ(s:List β) i=>(s,i)) 0 xs.length (by omega) (λk s=>s=(xs.take k).map f) (by omega) (by simp) (λk s next _ hk h J=>?_) (λs next h=>?_)
 . refine D k s next hk (by subst h; simp; omega) (J _ ?_);subst h;rw[eX hk,iE]; rfl
 all_goals grind
def WO (v:Vec):List Int:=(G4 v).Items.map (·.At)
theorem bA {v:Vec} {Q:List Int->Prop} (O:v.Items.length<=1000000000) (U:Q (WO v)):P7 v Q:=by unfold P7;have D:=(SE v).len;refine NF O (AfK (xs:=(G4 v).Items) (f:=(·.At)) (by omega) (λ_ s next hi d J=>A2 (λ_=>B8 hi (AO (by simp; omega) J)) (λh=>by omega)) (λnext s d=>A2 (λh=>by omega) (λ_=>?_)));subst d; exact U
def kvI (x:B3):Int×Int:=(x.At,x.Val)
def FM (l:List B3) (i:Int):Option Int:=BG i (l.map kvI)
theorem IZ (s:B3) (l:List B3) (i:Int):FM (s :: l) i=if i=s.At then some s.Val else FM l i:=rfl
theorem PI:∀ {l:List B3} {i:Int},(∀ s∈l,s.At≠i)->FM l i=none
 | [],_,_=>rfl
 | s :: l,i,h=>by rw[IZ,if_neg (λe=>h s (by simp) e.symm)]; exact PI λx d=>h x (by simp[d])
theorem PJ:∀ {l:List B3} {i:Int} {v:Int},FM l i=some v->⟨i,v⟩∈l
 | s :: l,i,v,h=>by
  rw[IZ] at h;split at h
  . rename_i e; cases h; subst e; simp
  . exact cD _ (PJ h)
theorem RR:∀ {l:List B3} (h:IncI l) {s:B3},s∈l->FM l s.At=some s.Val
 | x :: l,h,s,hs=>by
  unfold IncI at h;rw[Ae8] at h;rw[IZ];rcases List.mem_cons.1 hs with e | hs
  . subst e; rw[if_pos rfl]
  . have:=h.1 s hs;rw[if_neg (by omega)]; exact RR h.2 hs
theorem RB:∀ (l:List B3) (m:List B3) (i:Int),FM (l++m) i=match FM l i with | some v=>some v | none=>FM m i
 | [],m,i=>rfl
 | s :: l,m,i=>by
  rw[pH,IZ,IZ];split
  . rfl
  . exact RB l m i
theorem AtX {l m:List B3} (h:IncI l) (d:IncI m) (J:∀ i,FM l i=FM m i):l=m:=by
 have O:∀ {l:List B3},IncI l->l.Nodup:=λh=>h.imp λ_ e=>by subst e; omega
 have hp:l.Perm m:=(yK (O h) (O d)).2 λ_=>⟨λD=>by
  have:=RR h D; rw[J] at this; exact PJ this,λD=>by
  have:=RR d D; rw[<-J] at this; exact PJ this⟩
 exact Y6 hp h d λ_ _ _ _ _ _=>by omega
def YG (o:Option Int):Int×Bool:=match o with | some v=>(v,true) | none=>(0,false)
def YH (n:Nat) (l:List B3):List Int:=(List.range n).map λi:Nat=>(FM l i).getD 0
def PK (v:Vec):Dense:=⟨v.N,rW v.N (v.Items.map (·.At)),YH v.N.toNat v.Items⟩
theorem AmI (n:Nat):YH n []=List.replicate n 0:=by
 unfold YH;apply AjN
 . simp
 . intro i d h; simp[FM,BG]
theorem AiE {n:Nat} {l:List B3} {x:B3} (h:∀ s∈l,s.At<x.At) (d:0<=x.At):YH n (l++[x])=(YH n l).set x.At.toNat x.Val:=by unfold YH;rw[Ai0];grind[RB,IZ,PI]
theorem IncI.before {l:List B3} (h:IncI l) {k:Nat} (hk:k<l.length):∀ s∈l.take k,s.At<l[k].At:=by intro s D;obtain⟨_,d,rfl⟩:=List.mem_iff_getElem.1 D;rw[VK] at d;rw[AbT];exact h.at hk (by omega)
theorem qI {n:Nat} {l:List B3} {i:Int} (d:0<=i) (h:i<n):at0 (YH n l) i=(FM l i).getD 0:=by unfold YH at0;grind
theorem mZ {n:Int} {Q:Dense->Prop} (h:0<=n∧n<=4096) (D:Q ⟨n,yX n,List.replicate n.toNat 0⟩):QI n Q:=by unfold QI;exact A2 (λd=>by omega) (λ_=>A2 (λd=>by omega) (λ_=>⟨by omega,by omega,mY D⟩))
theorem rX {v:Vec} {Q:Dense->Prop} (U:v.Items.length<=1000000000) (J:Q (PK (G4 v))):cP v Q:=by
 unfold cP;refine F8 U (BW (λh=>?_) (λh=>?_))
 . have h:=of_decide_eq_false h;rw[G4,if_neg h] at J;exact mZ ⟨by omega,by omega⟩ J
 . have d:=of_decide_eq_true h;rw[IY d] at J;have a2:=d.len;have:=d.n0; have:=d.n1;refine mZ ⟨by omega,by omega⟩ (AL (s0:=List.replicate v.N.toNat (0:Int)) (λ(s:List Int) i=>(s,i)) 0 v.Items.length (by omega) (λk s=>s=YH v.N.toNat (v.Items.take k)) (by omega) (by simp[AmI]) (λk s next _ hk D Z=>?_) (λs next D=>?_))
   . have O:=d.ins _ (PW hk);refine A2 (λ_=>B8 hk (BL (by omega) (by subst D; simp[YH]; omega) (Z _ ?_))) (λh=>by omega);rw[eX hk,AiE (d.inc.before hk) O.1,D]
   . rw[RV] at D;subst D;refine A2 (λh=>by omega) (λ_=>bA U (WM ?_ (λ_ V=>?_) ?_))
     . grind[WO,IY]
     . rw[WO,IY d] at V;obtain⟨y,W,rfl⟩:=List.mem_map.1 V;have:=d.ins y W; unfold EA; omega
     . rw[WO,IY d]; exact J
theorem nA {v:Vec} (h:VecP v) (i:Int):G7 (PK v).Has i=(FM v.Items i).isSome:=by
 have U:=h.n1;have e:=(IX v.N (v.Items.map (·.At))).2.2 i;show G7 (rW v.N (v.Items.map (·.At))) i=_;rw[e]
 cases O:FM v.Items i with
 | none=>
  refine decide_eq_false λd=>?_;have⟨_,D,e⟩:=List.mem_map.1 d.1;have:=RR h.inc D;grind
 | some y=>
  have J:=PJ O;have:=h.ins _ J;grind
theorem nB (v:Vec):rU (PK v).Has:=(IX _ _).1
theorem AkX (v:Vec):(PK v).Has.length<=64:=by rw[show(PK v).Has.length=KZ v.N from(IX _ _).2.1]; exact dE _
def GK (f:List Int) (o:Bool) (i:Int):Bool:=G7 f i != o
def nC (r:Int) (A B:Int->Option Int) (d:Option AQ) (k:Int):Option AQ:=match A k,B k with | some a,some x=>jX r d (some (YE r a x)) | _,_=>d
def PL (r:Int) (n:Nat) (A B:Int->Option Int):Option AQ:=(List.range n).foldl (λd (k:Nat)=>nC r A B d k) none
def M7 (r:Int) (m n:Nat) (f:List Int) (o:Bool) (A:Int->Int->Option Int) (B:Int->Option Int):List BK:=
 (List.range m).filterMap λi:Nat=>if GK f o i then (PL r n (A i) B).map λw=>(⟨i,w⟩:BK) else none
theorem ZT (r:Int) (m n:Nat) (f:List Int) (o:Bool) (A:Int->Int->Option Int) (B:Int->Option Int) :
  M7 r (m+1) n f o A B=M7 r m n f o A B++(if GK f o m then (PL r n (A m) B).map λw=>(⟨m,w⟩:BK) else none).toList:=by
 unfold M7;rw[bM,AoC];congr 1
theorem AmJ {r:Int} {A B:Int->Option Int} {d:Option AQ} (h:∀ w,d=some w->PZ w) (k:Int):∀ w,nC r A B d k=some w->PZ w:=by
 intro w D;unfold nC at D;split at D
 . cases d with
   | none=>cases D; exact SD _ _ _
   | some b=>cases D; exact Y7 (h b rfl) (SD _ _ _)
 . exact h w D
theorem wF (r:Int) (n:Nat) (A B:Int->Option Int):∀ w,PL r n A B=some w->PZ w:=by
 unfold PL
 induction n with
 | zero=>intro w h; cases h
 | succ n d=>rw[bM,Ae9]; exact AmJ d n
theorem US (r:Int) (n:Nat) (f:List Int) (o:Bool) (A:Int->Int->Option Int) (B:Int->Option Int):∀ m:Nat,
  Rise (M7 r m n f o A B)∧(M7 r m n f o A B).length<=m∧yJ (M7 r m n f o A B)∧(∀ s∈M7 r m n f o A B,0<=s.At∧s.At<m)∧∀ i:Int,lk (M7 r m n f o A B) i=if 0<=i∧i<m∧GK f o i=true then PL r n (A i) B else none:=by
 intro m
 induction m with
 | zero=>
  refine⟨.nil,by simp[M7],by simp[M7,yJ],by simp[M7],λi=>?_⟩;rw[if_neg (by omega)]; rfl
 | succ m U=>
  have⟨h,_,O,_,D⟩:=U;rw[ZT];by_cases ha:GK f o m=true
  . rw[if_pos ha]
    cases J:PL r n (A m) B with
    | none=>
     grind
    | some w=>
     simp only[AhI,Option.toList_some];refine⟨List.pairwise_append.2 ⟨h,by simp,λ_ _ _ _=>?_⟩,by simp; omega,λs d=>?_,λs d=>?_,λi=>?_⟩
     . grind
     . rcases List.mem_append.1 d with d | d
       . exact O s d
       all_goals grind[wF]
     . grind
     . rw[YC,D,EB,vY];grind
  all_goals grind
theorem RC {β γ:Type} {f g:β->γ->β}:∀ {l:List γ} {a:β},(∀ d k,k∈l->f d k=g d k)->l.foldl f a=l.foldl g a
 | [],_,_=>rfl
 | x :: l,a,h=>by rw[cF,cF,h a x (by simp)]; exact RC λd k hk=>h d k (by simp[hk])
theorem dH {β:Type} {step:β->Int->Int->β} {a:β}:∀ {n:Nat} {l:List B3},IncI l->(∀ x∈l,0<=x.At∧x.At<n) ->
  l.foldl (λD x=>step D x.At x.Val) a=(List.range n).foldl (λD (k:Nat)=>match FM l k with | some v=>step D k v | none=>D) a
 | 0,l,h,hi=>by
  cases l with
  | nil=>rfl
  | cons x l=>have:=hi x (by simp); omega
 | n+1,l,h,hi=>by
  rw[bM,Ae9];simp only[cF,AoZ]
  have W:l=[]∨∃ p y,l=p++[y]:=by
    rcases List.eq_nil_or_concat l with h | ⟨p,y,h⟩
    . exact .inl h
    . exact .inr ⟨p,y,by rw[h,List.concat_eq_append]⟩
  have old:∀ {l:List B3},IncI l->(∀ x∈l,0<=x.At∧x.At<n)->FM l n=none:=λ_ hi=>PI λs hs=>by have:=hi s hs; omega
  rcases W with e | ⟨p,y,e⟩
  . subst e;rw[<-dH (n:=n) (l:=[]) h (by simp)]; rfl
  . subst e;have hp:IncI p:=(List.pairwise_append.1 h).1;have O:∀ x∈p,x.At<y.At:=λx d=>(List.pairwise_append.1 h).2.2 x d y (by simp);by_cases ey:y.At=n
    . have J:∀ x∈p,0<=x.At∧x.At<n:=λx d=>⟨(hi x (by simp[d])).1,by have:=O x d; omega⟩;have Z:FM (p++[y]) n=some y.Val:=by rw[RB,old hp J,IZ,if_pos ey.symm]
      rw[Z,Ae9,dH hp J];simp only[cF,AoZ,ey];congr 1;refine RC λD k hk=>?_;have hk:=List.mem_range.1 hk;have:FM (p++[y]) k=FM p k:=by rw[RB,IZ,if_neg (by omega)]; cases FM p k <;> rfl
      rw[this]
    . have U:∀ x∈p++[y],0<=x.At∧x.At<n:=by
       intro x d;have V:=hi x d;refine⟨V.1,?_⟩;have hy:=hi y (by simp);rcases List.mem_append.1 d with d | d
       . have:=O x d; omega
       . simp only[lO] at d; subst d; omega
      rw[old h U,dH h U]
def qJ (r:Int) (T:List A5) (f:List Int) (o:Bool) (x:B3):List BK:=((MQ T x.At).filter λy=>GK f o y.At).map λy=>⟨y.At,YE r y.Val x.Val⟩
theorem nD {T:List A5} (h:Srt T) (k:Int):IncI (MQ T k):=by unfold MQ IncI;rw[X3];have O:(T.filter λt=>decide (t.Row=k)).Pairwise λa b=>KY (key a) (key b):=X2 _ h;refine AhC (λ{a b} D J d=>?_) O;have D:=of_decide_eq_true (List.mem_filter.1 D).2;have J:=of_decide_eq_true (List.mem_filter.1 J).2;unfold KY key at d;simp only[sY] at d ⊢; omega
theorem UT {T:List A5} {k:Int} {x:B3}:x∈MQ T k↔(⟨k,x.At,x.Val⟩:A5)∈T:=by
 unfold MQ;simp only[gL,AlZ,decide_eq_true_eq];constructor
 . rintro⟨_,⟨ht,e⟩,rfl⟩; subst e; exact ht
 . intro h; exact⟨_,⟨h,rfl⟩,rfl⟩
theorem YI {r:Int} {T:List A5} (h:Srt T) (f:List Int) (o:Bool) (x:B3):Rise (qJ r T f o x)∧yJ (qJ r T f o x)∧∀ i,lk (qJ r T f o x) i=if GK f o i=true then (FM (MQ T x.At) i).map λa=>YE r a x.Val else none:=by
 have d:=nD h x.At;unfold qJ;generalize MQ T x.At=l at d;refine⟨?_,?_,λi=>?_⟩
 . unfold Rise; rw[X3]; exact X2 _ d
 . intro s D;obtain⟨y,_,rfl⟩:=List.mem_map.1 D;exact SD _ _ _
 . clear d
   induction l with
   | nil=>simp[lk,FM,BG]
   | cons y l J=>
    rw[IZ];by_cases ha:GK f o y.At=true
    . rw[List.filter_cons_of_pos (by simpa using ha),OU,EB];grind
    all_goals grind
theorem AiF (r:Int) (i:Int):∀ (L:List (List BK)) (n:Nat),n<=L.length->PH r (λw=>L.getD w []) i n none=(L.take n).foldl (λd l=>jX r d (lk l i)) none:=by
 intro L n
 induction n with
 | zero=>intro _; rfl
 | succ n h=>
  intro D;rw[PH,h (by omega),eX (by omega),Ae9];grind
theorem AiG {r:Int} {rows cols:Int} {T:List A5} {v:Vec} (h:Canon cols rows T) (W:VecP v) (hn:v.N=cols) (f:List Int) (o:Bool) :
   RA r (v.Items.map (qJ r T f o))=M7 r rows.toNat cols.toNat f o (λi k=>FM (MQ T k) i) (FM v.Items):=by
 have D:∀ l∈v.Items.map (qJ r T f o),Rise l:=by intro l hl; obtain⟨x,_,rfl⟩:=List.mem_map.1 hl; exact(YI h.srt f o x).1
 have O:=wA r _ D _ (Z0 _);rw[RV] at O;have⟨Z,_,_,_,s5⟩:=US r cols.toNat f o (λi k=>FM (MQ T k) i) (FM v.Items) rows.toNat;refine AfB O.1 Z λi=>?_;rw[O.2.2.2,s5,AiF r i _ _ (Z0 _),RV,AjS];by_cases ha:GK f o i=true
 . have U:∀ x:B3,lk (qJ r T f o x) i=(FM (MQ T x.At) i).map λa=>YE r a x.Val:=λx=>by rw[(YI h.srt f o x).2.2,if_pos ha]
   simp only[U];rw[dH (step:=λd k xv=>jX r d ((FM (MQ T k) i).map λa=>YE r a xv)) (n:=cols.toNat) W.inc (λx hx=>by have:=W.ins x hx; omega)];by_cases hi:0<=i∧i<rows
   . rw[if_pos ⟨hi.1,by omega,ha⟩];unfold PL;refine RC λd k _=>?_;unfold nC;simp only;cases FM v.Items (k:Int) <;> cases FM (MQ T (k:Int)) i <;> simp[UR]
   . rw[if_neg (by omega)]
     have J:∀ k,FM (MQ T k) i=none:=λk=>PI λ_ hs=>by have:=h.inn _ (UT.1 hs); unfold tZ at this; simp only at this; omega
     have:∀ (l:List Nat),l.foldl (λd (k:Nat)=>match FM v.Items k with | some x=>jX r d ((FM (MQ T k) i).map λa=>YE r a x) | none=>d) none=none:=by
      intro l
      induction l with
      | nil=>rfl
      | cons k l V=>
       rw[cF,J];cases FM v.Items (k:Int) <;> exact V
     exact this _
 . rw[if_neg (λh=>ha h.2.2)];have U:∀ x:B3,lk (qJ r T f o x) i=none:=λx=>by rw[(YI h.srt f o x).2.2,if_neg ha]
   simp only[U,UR];generalize v.Items=l
   induction l with
   | nil=>rfl
   | cons x l V=>exact V
theorem AmK {r:Int} {l:List B3} {val:Int} {f:List Int} {o:Bool} {Q:List BK->Prop} (hl:l.length<=1000000) (V:rU f) (hi:∀ x∈l,EA x.At∧EA x.Val) (U:EA val) (Z:Q ((l.filter λy=>GK f o y.At).map λy=>⟨y.At,YE r y.Val val⟩)):WD r l val f o Q:=by
 unfold WD;refine AL (λ(s:List BK) i=>(s,i)) 0 l.length (by omega) (λk s=>s=((l.take k).filter λy=>GK f o y.At).map λy=>⟨y.At,YE r y.Val val⟩) (by omega) (by simp) (λk s next _ hk d O=>?_) (λs next d=>?_)
 . have J:=hi _ (PW hk)
   have W:s.length<=k:=by grind
   refine A2 (λ_=>B8 hk (K9 V J.1 ⟨λh=>?_,λh=>O _ ?_⟩)) (λh=>by omega)
   . refine WL J.2 U (AO (by simp; omega) (O _ ?_));have D:GK f o l[k].At=true:=by grind[GK]
     rw[eX hk,jG,iE,d,List.filter_cons_of_pos (by simpa using D)]; rfl
   . have D:¬GK f o l[k].At=true:=by grind[GK]
     rw[eX hk,jG,iE,d,List.filter_cons_of_neg (by simpa using D)]; simp
 . rw[RV] at d;subst d;exact A2 (λh=>by omega) (λ_=>Z)
theorem AcI {c:BE} {x:Vec} {Q:BE×Vec->Prop} (J:XC c) (D:x.Items.length<=1000000000) (d:Q (aZ c,G4 x)):fO c x Q:=by
 unfold fO;refine CA (λt=>(⟨t.1,t.2.1,t.2.2.1,t.2.2.2.1,t.2.2.2.2.1,t.2.2.2.2.2⟩:BE)=aZ c) ?_ ?_
 . rintro⟨_,_,_,_,_,_⟩ ht;simp only at ht ⊢;rw[ht];unfold G4 at d;refine F8 D (BW (λh=>?_) (λh=>?_))
   . rw[if_neg (of_decide_eq_false h)] at d; exact d
   all_goals grind
 . intro k hk;refine iI J (BW (λh=>hk _ ?_) (λh=>hk _ ?_))
   . rw[aZ,if_neg (of_decide_eq_false h),vQ]
   . rw[aZ,if_pos (of_decide_eq_true h)]
def AkY (r rows cols:Int) (T:List A5) (v:Vec) (f:List Int) (o:Bool):List BK×Int:=
 if ¬(1<=r∧r<=5) then ([],8) else if v.N≠cols then ([],4) else (M7 r rows.toNat cols.toNat f o (λi k=>FM (MQ T k) i) (FM v.Items),0)
theorem AcJ {r rows cols:Int} {c:BE} {x:Vec} {T:List A5} {f:List Int} {o:Bool} {Q:List BK×Int->Prop} (hc:XC c) (hs:aZ c=UP rows cols T) (h:Canon cols rows T) (hT:∀ t∈T,EA t.Val)
   (hx:x.Items.length<=1000000000) (a2:∀ y∈(G4 x).Items,EA y.Val) (hf:rU f) (D:Q (AkY r rows cols T (G4 x) f o)):fP r c x f o Q:=by
 unfold fP;unfold AkY at D;have Z:=SE x;refine AcI hc hx ?_;rw[hs];generalize G4 x=v at Z a2 D;simp only;have a8:=Z.len;refine QY (BW (λO=>?_) (λO=>BO (λa5=>?_) (λU=>?_)))
 . grind
 . rw[if_neg (by have:=of_decide_eq_true O; omega),if_pos (show v.N≠cols from a5)] at D; exact D
 . have hr:=of_decide_eq_true O;have U:v.N=cols:=U;rw[if_neg (by omega),if_neg (by omega)] at D;have a6:=h.len;refine AfK (xs:=v.Items) (f:=qJ r T f o) (by omega) (λi s next hi d W=>?_) (λnext s d=>?_)
   . refine A2 (λ_=>B8 hi (vS h.smlC (qD h) h (AmK (by have:=dC T v.Items[i].At; omega) hf (λy hy=>?_) (a2 _ (PW hi)) (AO (by simp; omega) W)))) (λh=>by omega);have hm:=UT.1 hy;have V:=h.inn _ hm; have h2:=hT _ hm;have:=h.c1;unfold tZ at V; simp only at V h2;exact⟨by unfold EA; omega,h2⟩
   . have a7:s.length=v.Items.length:=by subst d; simp
     have a4:∀ (l:List B3),total (l.map (qJ r T f o))<=l.length*65536:=by
       intro l
       induction l with
       | nil=>simp[total]
       | cons y l ih=>
        have V:(qJ r T f o y).length<=65536:=by unfold qJ; rw[gK];have:=uN (λy:B3=>GK f o y.At) (MQ T y.At);have:=dC T y.At; omega
        unfold total at ih ⊢;simp only[OU,List.foldr_cons,uP]; omega
     refine A2 (λh=>by omega) (λ_=>iJ (by simp only; omega) (λl J=>?_) (by subst d; have:=a4 v.Items; simp only; omega) (λl J=>?_) ?_)
     . subst d;obtain⟨y,_,rfl⟩:=List.mem_map.1 J;unfold qJ; rw[gK];have:=uN (λy:B3=>GK f o y.At) (MQ T y.At);have:=dC T y.At; omega
     . subst d;obtain⟨y,_,rfl⟩:=List.mem_map.1 J;exact(YI h.srt f o y).2.1
     . unfold wD
       rw[if_neg (by omega),if_neg (by rintro⟨l,J,W⟩;subst d;obtain⟨y,_,rfl⟩:=List.mem_map.1 J;exact W (YI h.srt f o y).1),d,AiG h Z U]
       exact D
def bB (r:Int) (B:Int->Option Int) (d:Option AQ) (y:B3):Option AQ:=match B y.At with | some x=>jX r d (some (YE r y.Val x)) | none=>d
theorem AmL {r:Int} {B:Int->Option Int} {d:Option AQ} (h:∀ w,d=some w->PZ w) (y:B3):∀ w,bB r B d y=some w->PZ w:=by
 intro w D;unfold bB at D;split at D
 . cases d with
   | none=>cases D; exact SD _ _ _
   | some b=>cases D; exact Y7 (h b rfl) (SD _ _ _)
 . exact h w D
theorem AaR (r:Int) (B:Int->Option Int):∀ (l:List B3) (d:Option AQ),(∀ w,d=some w->PZ w)->∀ w,l.foldl (bB r B) d=some w->PZ w
 | [],d,h=>h
 | y :: l,d,h=>AaR r B l _ (AmL h y)
theorem AfL {r:Int} {B:Int->Option Int} {n:Nat} {l:List B3} (h:IncI l) (hi:∀ x∈l,0<=x.At∧x.At<n):l.foldl (bB r B) none=PL r n (FM l) B:=by have:=dH (step:=λd k a=>match B k with | some x=>jX r d (some (YE r a x)) | none=>d) (a:=none) h hi;refine this.trans (RC λd k _=>?_);unfold nC;grind
def NG (ts:List A5) (i:Int):List B3:=(PX ts i.toNat).map sY
theorem AaS (ts:List A5) {i:Int} (h:0<=i):NG ts i=MQ ts i:=by unfold NG MQ PX;grind
def nE (r rows cols:Int) (ts:List A5) (v:Vec) (f:List Int) (o:Bool):List BK×Int:=
 if ¬(1<=r∧r<=5) then ([],8) else if v.N≠cols then ([],4) else (M7 r rows.toNat cols.toNat f o (λi=>FM (NG ts i)) (FM v.Items),0)
theorem rY {r:Int} {n:Nat} {f:List Int} {o:Bool} {A d:Int->Int->Option Int} {B:Int->Option Int}:∀ {m:Nat},(∀ (i k:Nat),i<m->k<n->A i k=d i k)->M7 r m n f o A B=M7 r m n f o d B
 | 0,_=>rfl
 | m+1,h=>by
  rw[ZT,ZT,rY (m:=m) λi k _ hk=>h i k (by omega) hk]
  have:PL r n (A m) B=PL r n (d m) B:=by unfold PL;refine RC λ_ k hk=>?_;unfold nC;rw[h m k (by omega) (List.mem_range.1 hk)]
  rw[this]
theorem AmM {r rows cols:Int} {T:List A5} (h:Canon cols rows T) (v:Vec) (f:List Int) (o:Bool):nE r rows cols (OI rows T) v f o=AkY r rows cols T v f o:=by
 unfold nE AkY
 have e:M7 r rows.toNat cols.toNat f o (λi=>FM (NG (OI rows T) i)) (FM v.Items)=M7 r rows.toNat cols.toNat f o (λi k=>FM (MQ T k) i) (FM v.Items):=by
  refine rY λi k _ _=>?_;rw[AaS _ (by omega)];have D:=cY rows h.srt;have d:∀ a:Int,(⟨(i:Int),(k:Int),a⟩:A5)∈OI rows T↔(⟨(k:Int),(i:Int),a⟩:A5)∈T:=λa=>YA h _
  cases J:FM (MQ (OI rows T) i) k with
  | some a=>
   have:=(d a).1 (UT.1 (PJ J));exact(RR (nD h.srt k) ((UT (x:=⟨i,a⟩)).2 this)).symm
  | none=>
   cases O:FM (MQ T k) i with
   | none=>rfl
   | some a=>
    have:=(d a).2 (UT.1 (PJ O));have:=RR (nD D i) ((UT (x:=⟨k,a⟩)).2 this);grind
 rw[e]
def zS (r:Int):Int:=if r=1∨r=3∨r=4 then 4611686018427387904 else 0
theorem nF {r:Int} {Q:Int->Prop} (J:Q (zS r)):TW r Q:=by
 unfold TW; unfold zS at J;refine AY (λh=>?_) (λh=>AY (λD=>?_) (λD=>AY (λd=>?_) (λd=>?_)))
 all_goals grind
def nzI (r:Int) (s:BK):Option B3:=if (HL s.Val).1≠zS r then some ⟨s.At,(HL s.Val).1⟩ else none
def iK (r n:Int) (l:List BK):Vec×Int:=
 if ¬(1<=r∧r<=5) then (zV,8) else if ¬(0<=n∧n<=4096)∨∃ s∈l,¬(0<=s.At∧s.At<n) then (zV,3) else if ¬Rise l then (zV,6)
 else if ∃ s∈l,(HL s.Val).2=false then (zV,12) else (⟨n,l.filterMap (nzI r)⟩,0)
theorem AwG {n:Int} {l:List BK} {Q:Bool->Prop} (hl:l.length<=1000000000) (D:Q (decide (∃ s∈l,¬(0<=s.At∧s.At<n)))):CP n l Q:=by
 unfold CP E8;refine CR l.length (by omega) (λk=>∀ i (hi:i<l.length),i<k->0<=l[i].At∧l[i].At<n) (λi hi h=>by omega) (λk next hk U O=>?_) (λnext U=>?_)
 . refine A2 (λ_=>B8 hk ?_) (λh=>by omega);unfold ST
   have d:¬(0<=l[k].At∧l[k].At<n)->(λJ:Int=>Q (decide (0<=J))) (k:Int):=by intro Z;rw[decide_eq_true ⟨_,PW hk,Z⟩] at D;simpa using D
   refine A2 (λh=>AV rfl (d (by omega))) (λh=>⟨λV=>d (by have:=of_decide_eq_true V; omega),λV=>O λi hi _=>?_⟩);grind
 . refine A2 (λh=>by omega) (λ_=>?_)
   have:¬ ∃ s∈l,¬(0<=s.At∧s.At<n):=by rintro⟨s,W,O⟩;obtain⟨i,hi,rfl⟩:=List.mem_iff_getElem.1 W;exact O (U i hi hi)
   rw[decide_eq_false this] at D;simpa using D
theorem AcK {r n:Int} {l:List BK} {Q:Vec×Int->Prop} (hl:l.length<=1000000000) (ho:yJ l) (d:Q (iK r n l)):fM r n l Q:=by
 unfold fM;unfold iK at d;refine QY (BW (λh=>?_) (λh=>?_))
 . rw[if_pos (of_decide_eq_false h)] at d; exact d
 have Z:=of_decide_eq_true h;rw[if_neg (by omega)] at d;refine A2 (λh=>?_) (λ_=>A2 (λh=>?_) (λ_=>AwG hl ⟨λh=>?_,λh=>?_⟩))
 . rw[if_pos (.inl (by omega))] at d; exact d
 . rw[if_pos (.inl (by omega))] at d; exact d
 . rw[if_pos (.inr (of_decide_eq_true h))] at d; exact d
 have a5:=of_decide_eq_false h
 rw[if_neg (by
   rintro(V | V)
   . omega
   . exact a5 V)] at d
 refine CR l.length (by omega) (λn=>∀ (i:Nat) (hi:i+1<l.length),i+1<n->l[i].At<l[i+1].At) (λi hi h=>by omega) (λi next hi W O=>?_) (λnext W=>?_)
 . refine A2 (λ_=>A2 (λh=>?_) (λh=>?_)) (λh=>by omega)
   . have e:AJ ((i:Int) - 1)=((i - 1:Nat):Int):=by rw[AK (by omega) (by omega)]; omega
     rw[e];refine B8 (by omega) (B8 hi (A2 (λV=>?_) (λV=>O λ_ _ _=>?_)))
     . have:¬Rise l:=λZ=>by have:=Z.adj hi (i:=i - 1) (by omega); omega
       rw[if_pos this] at d; exact d
     all_goals grind
   all_goals grind
 . refine A2 (λh=>by omega) (λ_=>?_);rw[if_neg (λO=>O (AfC λi hi=>W i hi (by omega)))] at d;refine AL (s0:=([]:List B3)) (λ(s:List B3) i=>(s,i)) 0 l.length (by omega) (λk s=>s=(l.take k).filterMap (nzI r)∧∀ i (hi:i<l.length),i<k->(HL l[i].Val).2=true) (by omega) ⟨by simp,λi hi h=>by omega⟩ (λk s J _ hk D O=>?_) (λs J D=>?_)
   . have⟨D,a2⟩:=D
     have a6:s.length<=k:=by grind
     refine A2 (λ_=>B8 hk (pZ (ho _ (PW hk)) (BW (λU=>?_) (λU=>nF (BO (λa4=>AO (by simp; omega) (O _ ⟨?_,?_⟩)) (λhe=>O _ ⟨?_,?_⟩)))))) (λh=>by omega)
     . rw[if_pos ⟨_,PW hk,U⟩] at d; exact d
     . rw[eX hk,AoC,<-D];simp[nzI,a4]
     . grind
     . rw[eX hk,AoC,<-D];simp[nzI,he]
     all_goals grind
   . have⟨D,a2⟩:=D;rw[RV] at D;subst D;refine A2 (λh=>by omega) (λ_=>?_);rw[if_neg] at d
     . exact d
     . rintro⟨s,D,U⟩;obtain⟨i,hi,rfl⟩:=List.mem_iff_getElem.1 D;grind
theorem AiH (v:Vec):(WO v).length<=4096:=by unfold WO; rw[gK]; exact(SE v).len
theorem AcL {c:BE} {x:Vec} {rows cols:Int} {T:List A5} {Q:Int->Prop} (d:XC c) (J:x.Items.length<=1000000000) (O:aZ c=UP rows cols T) (h:Canon cols rows T) (D:Q (SZ T (WO x))):fK c x Q:=by unfold fK;exact bA J (AcB d (by have:=AiH x; omega) O h D)
def nG (f:List Int) (n:Int):Int:=((WN f).find? λi=>decide (n<=i)).getD (-1)
theorem wG {f:List Int} {n p:Int} (h:G7 f p=true) (U:n<=p) (O:∀ q,q<p->n<=q->G7 f q=false):nG f n=p:=by
 have hp:=TZ.2 h;have d:=wE f;have D:∀ q∈WN f,G7 f q=true:=λq J=>TZ.1 J;unfold nG;generalize WN f=l at hp d D
 induction l with
 | nil=>simp at hp
 | cons x l V=>
  rw[Ae8] at d;grind
theorem wH {f:List Int} {n:Int} (h:∀ q,n<=q->G7 f q=false):nG f n = -1:=by
 unfold nG;rw[List.find?_eq_none.2]
 . rfl
 . intro q D d;have:=h q (of_decide_eq_true d);rw[TZ.1 D] at this; cases this
theorem AkZ {x:Int} (d:0<=x) (h:x<18446744073709551616):cC .u64 x 1=x % 2:=by rw[AcG d h (by omega) (by omega),show Int.toNat 1=1 from rfl,Nat.and_one_is_mod]; omega
theorem Al0 (x:Int):shr .u64 x 1=x / 2:=Aq7 1 (by omega)
theorem AfM {f:List Int} (d:rU f) {i j:Nat} (D:j<64) {w:Int} (J:w=at0 f i / 2 ^ j):(G7 f (64*i+j)=true↔w % 2=1):=by have h:=dD d i;unfold G7;grind
theorem AaT {f:List Int} (J:rU f) {i j k:Nat} (d:j<=k) (hk:k<64) {w:Int} (V:w=at0 f i / 2 ^ j) (O:w=0):G7 f (64*i+k)=false:=by
 have U:=dD J i;unfold G7;rw[show(64*(i:Int)+k) / 64=i by omega,show((64*(i:Int)+k) % 64).toNat=k by omega]
 have e:w=(((at0 f i).toNat / 2 ^ j:Nat):Int):=by grind
 have h:(at0 f i).toNat<2 ^ j:=by
  have D:(at0 f i).toNat / 2 ^ j=0:=by omega
  simp_all
 rw[Nat.testBit_lt_two_pow (AjJ h (Nat.pow_le_pow_right (by omega) d))];simp
theorem fY {f:List Int} {i j:Nat} {w:Int} (d:w=at0 f i / 2 ^ j):w / 2=at0 f i / 2 ^ (j+1):=by rw[d,Int.ediv_ediv_of_nonneg (by exact Aa8 (AjY (by omega))),Int.pow_succ]
theorem XE {f:List Int} {n:Int} {Q:Int->Prop} (Z:rU f) (hl:f.length<=1000000) (hQ:Q (nG f n)):QE f n Q:=by
 unfold QE LU QD;refine AL (s0:=((0:Int),(0:Nat))) (λ(s:Int×Nat) i=>(s.1,i,s.2)) 0 f.length (by omega) (λk s=>s.2=0∧∀ q,q<64*(k:Int)->n<=q->G7 f q=false) (by omega) ⟨rfl,λq J _=>YF (by omega)⟩ (λk s next _ _ W hn=>?_) (λs next W=>?_)
 . have⟨s1,s2⟩:=s;have⟨d,V⟩:=W;simp only at d V ⊢;subst d;have U:=dD Z k;refine A2 (λ_=>BL (by omega) (by omega) ?_) (λh=>by omega)
   have a6:shl .i64 (k:Int) 6=64*(k:Int):=by show AJ ((k:Int)*2 ^ 6)=_;rw[AK (by omega) (by omega)]; omega
   rw[a6];refine CQ (λs:Int×Int×Int×Nat=>∃ j:Nat,j<=64∧s.2.2.1=64*k+j∧s.2.1=at0 f k / 2 ^ j∧s.2.2.2=0∧∀ q,q<64*(k:Int)+j->n<=q->G7 f q=false) (λs=>s.2.1.toNat) ⟨0,by omega,by simp,by simp,rfl,λq J=>V q (by omega)⟩ ?_;rintro⟨_,w,a5,_⟩ _ ⟨j,_,ha,O,h4,h5⟩ hnx;simp only at ha O h4 h5 ⊢;subst h4
   have a2:0<=w∧w<18446744073709551616:=by rw[O];have hp:(0:Int)<2 ^ j:=AjY (by omega);exact⟨AjO U.1 (Aa8 hp),Int.lt_of_le_of_lt (AoU _ U.1) U.2⟩
   have e1:AJ (a5+1)=64*(k:Int)+((j+1:Nat):Int):=by rw[ha,AK (by omega) (by omega)]; omega
   refine BO (λ_=>?_) (λhe=>?_)
   . have a4:j<64:=by grind
     have a7:=AfM Z a4 O;rw[AkZ a2.1 a2.2,Al0,e1];refine AY (λd=>⟨rfl,A2 (λ_=>?_) (λ_=>?_)⟩) (λd=>?_)
     . refine AV rfl (AH (by simp) ⟨rfl,?_⟩);grind[wG]
     . refine AH rfl (hnx _ ⟨j+1,by omega,rfl,fY O,rfl,λq J D=>?_⟩ (by simp only; omega));omega
     . refine hnx _ ⟨j+1,by omega,rfl,fY O,rfl,λq J D=>?_⟩ (by simp only; omega);grind
   . refine hn (_,0) ⟨rfl,λq J D=>?_⟩;rcases AhL q (64*(k:Int)+j) with h | h
     . exact h5 q h D
     . obtain⟨m,rfl⟩:∃ m:Nat,q=64*(k:Int)+m:=⟨(q - 64*k).toNat,by omega⟩;exact AaT Z (j:=j) (by omega) (by omega) O he
 . have⟨s1,s2⟩:=s;have⟨d,V⟩:=W;simp only at d V ⊢;subst d;refine A2 (λh=>by omega) (λ_=>AV rfl ?_);rw[wH] at hQ
   . exact hQ
   . intro q J;rcases AhL q (64*(f.length:Int)) with h | h
     . exact V q h J
     . exact TY h
theorem AmN {f:List Int} {n:Int} (d:0<=n):nG f n<0↔∀ i∈WN f,i<n:=by
 unfold nG
 cases h:(WN f).find? λi=>decide (n<=i) with
 | none=>
  grind
 | some q=>
  grind
theorem UU {f:List Int} {n:Int} {Q:Bool->Prop} (W:rU f) (V:f.length<=1000000) (U:Q (decide (dG f n))):OC f n Q:=by
 unfold OC;have d:¬dG f n->Q false:=λh=>by rwa [decide_eq_false h] at U
 refine A2 (λD=>A2 (λJ=>dF (AY (λO=>XE W V ?_) (λO=>d λh=>O (by rw[h.2.1])))) (λJ=>d λh=>J h.1.2)) (λD=>d λh=>D h.1.1)
 have:decide (nG f n<0)=decide (dG f n):=decide_eq_decide.2 (by rw[AmN D];exact⟨λh=>⟨⟨D,J⟩,by omega,h⟩,λh=>h.2.2⟩)
 rw[this]; exact U
theorem dI {v:Vec} {Q:Bool->Prop} (h:VecP v) (V:Q true):S7 (PK v) Q:=by
 unfold S7;have U:=h.n0; have O:=h.n1;have Z:(PK v).N=v.N:=rfl;have D:((PK v).Vals.length:Int)=v.N:=by simp[PK,YH]; omega
 refine UU (nB v) (by have:=AkX v; omega) ?_;rw[show decide (dG (PK v).Has (PK v).N)=true from decide_eq_true (AaQ ⟨U,O⟩ _)];refine AH rfl (BO (λd=>absurd D d) (λ_=>?_));refine CR (PK v).Vals.length (by omega) (λ_=>True) trivial (λk next _ _ J=>?_) (λnext _=>?_)
 . refine A2 (λ_=>BL (by omega) (by omega) (BO (λd=>K9 (nB v) (by unfold EA; omega) (BW (λW=>?_) (λ_=>J trivial))) (λ_=>J trivial))) (λd=>by omega);rw[nA h] at W;have:at0 (PK v).Vals (k:Int)=(FM v.Items k).getD 0:=qI (by omega) (by omega);simp_all
 . exact A2 (λd=>by omega) (λ_=>V)
theorem AcM {rows cols:Int} {ts:List A5} {v:Vec} {Q:Rows×Dense->Prop} (h:Canon rows cols ts) (d:VecP v) (D:Q (BR rows cols ts,PK v)):fQ (BR rows cols ts) (PK v) Q:=by
 unfold fQ;refine CA (λt=>t=BR rows cols ts) ?_ ?_
 . rintro t rfl;exact dI d (AH rfl D)
 . intro k hk;refine mR h.sml ?_;rw[decide_eq_true h.right];exact AH rfl (hk _ rfl)
theorem AfN {r rows cols:Int} {ts:List A5} {v:Vec} {i:Nat} {Q:AQ×Bool->Prop} (h:Canon rows cols ts) (ht:∀ t∈ts,EA t.Val) (hv:VecP v) (hn:v.N=cols) (a9:∀ y∈v.Items,EA y.Val) (hi:(i:Int)<rows)
   (hQ:Q (((PL r cols.toNat (FM (NG ts i)) (FM v.Items)).getD ⟨0,0⟩),(PL r cols.toNat (FM (NG ts i)) (FM v.Items)).isSome)):mJ r (BR rows cols ts) i (PK v) Q:=by
 unfold mJ UK QP;have c0:=h.r1; have b1:=h.c1; have c2:=h.len;have⟨lo,a2,W⟩:=h.seg i;have e1:AJ ((i:Int)+1)=(i+1:Nat):=by rw[AK (by omega) (by omega)]; omega
 rw[e1];refine Y9 (by omega) ?_;rw[W.lo];have g1:=W.le; have g2:=W.len;have d0:NG ts i=((ts.take a2).drop lo).map sY:=by rw[W.eq]; simp[NG]
 have a4:IncI (NG ts i)∧∀ x∈NG ts i,0<=x.At∧x.At<cols.toNat:=by rw[AaS ts (by omega)];refine⟨nD h.srt _,λx hx=>?_⟩;have:=h.inn _ (UT.1 hx); unfold tZ at this; simp only at this; omega
 have d1:=AfL (r:=r) (B:=FM v.Items) a4.1 a4.2;refine AL (s0:=(none:Option AQ)) (λ(s:Option AQ) k=>(s.isSome,(s.getD ⟨0,0⟩).Hi,(s.getD ⟨0,0⟩).Lo,k)) lo a2 (by omega) (λp d=>d=(((ts.take p).drop lo).map sY).foldl (bB r (FM v.Items)) none) (by omega) (by simp) (λp d a6 a8 _ U Z=>?_) (λd a6 U=>?_)
 . dsimp only;have O:p<ts.length:=by omega
   have a7:∀ w,d=some w->PZ w:=by subst U; exact AaR r _ _ none (λw hw=>by cases hw)
   have D:(((ts.take (p+1)).drop lo).map sY).foldl (bB r (FM v.Items)) none=bB r (FM v.Items) d (sY ts[p]):=by rw[Af5 a8 O,iE,Ae9,<-U]; rfl
   have J:=h.inn _ (PW O);unfold tZ at J;refine Y9 (by omega) ?_;rw[W.hi];refine A2 (λ_=>?_) (λh=>by omega);refine AP (by omega) (x:=ts[p].Col) (by simp[BR,O]) (K9 (nB v) (by unfold EA; omega) ?_);rw[nA hv];have V:at0 (PK v).Vals ts[p].Col=(FM v.Items ts[p].Col).getD 0:=qI J.2.2.1 (by omega);have b0:((PK v).Vals.length:Int)=v.N:=by have:=hv.n0; simp[PK,YH]; omega
   cases hB':FM v.Items ts[p].Col with
   | none=>
    refine AH rfl (Z d ?_);rw[D]; unfold bB; simp only[sY,hB']
   | some x=>
    rw[hB'] at V;refine AV rfl (AP (by omega) (x:=ts[p].Val) (by simp[BR,O]) (BL J.2.2.1 (by omega) ?_));rw[V];refine WL (ht _ (PW O)) (a9 _ (PJ hB')) ?_;have a5:bB r (FM v.Items) d (sY ts[p])=jX r d (some (YE r ts[p].Val x)):=by unfold bB; simp only[sY,hB']
    unfold QO
    cases d with
    | none=>exact AH rfl (Z (some (YE r ts[p].Val x)) (by rw[D,a5]; rfl))
    | some w=>exact AV rfl (WJ (a7 w rfl) (SD _ _ _) (Z (some (KJ r w (YE r ts[p].Val x))) (by rw[D,a5]; rfl)))
 . dsimp only;refine Y9 (by omega) ?_;rw[W.hi];refine A2 (λh=>by omega) (λ_=>?_);simp_all
theorem AcN {r rows cols:Int} {ts:List A5} {v:Vec} {f:List Int} {o:Bool} {Q:List BK×Int→Prop} (h:Canon rows cols ts) (ht:∀ t∈ts,EA t.Val) (hv:VecP v) (a5:∀ y∈v.Items,EA y.Val)
   (hf:rU f) (V:Q (nE r rows cols ts v f o)):fR r (BR rows cols ts) (PK v) f o Q:=by
 unfold fR
 unfold nE at V
 have a7:=h.r0; have a8:=h.r1
 refine AcM h hv (QY (BW (fun J=>?_) (fun J=>BO (fun a4=>?_) (fun U=>?_))))
 · grind
 · rw [if_neg (by have:=of_decide_eq_true J; omega),if_pos (show v.N≠cols from a4)] at V; exact V
 have hr:=of_decide_eq_true J
 have U:v.N=cols:=U
 rw [if_neg (by omega),if_neg (by omega)] at V
 unfold UL QQ
 have hB:(BR rows cols ts).Rows=rows:=rfl
 refine AL (s0:=(([]:List BK),(0:Nat))) (fun (s:List BK×Nat) i=>(s.1,i,s.2)) 0 rows.toNat (by omega) (fun m s=>s.2=0∧s.1=M7 r m cols.toNat f o (fun i=>FM (NG ts i)) (FM v.Items)) (by omega) ⟨rfl,by simp [M7]⟩ (fun i s next _ _ D Z=>?_) (fun s next D=>?_)
 · obtain ⟨s,s2⟩:=s
   obtain ⟨O,D⟩:=D
   simp only at O D ⊢
   subst O
   have a9:s.length≤i:=by subst D; exact (US r cols.toNat f o (fun i=>FM (NG ts i)) (FM v.Items) i).2.1
   have d:=ZT r i cols.toNat f o (fun i=>FM (NG ts i)) (FM v.Items)
   rw [←D] at d
   refine A2 (fun _=>K9 hf (by unfold EA; omega) (BW (fun W=>⟨rfl,?_⟩) (fun W=>Z (s,0) ⟨rfl,?_⟩))) (fun J=>by rw [hB] at J; omega)
   · have a2:GK f o i=true:=by unfold GK; rw [bne,W]; rfl
     rw [if_pos a2] at d
     refine AfN h ht hv U a5 (by omega) ?_
     cases hw:PL r cols.toNat (FM (NG ts i)) (FM v.Items) with
     | none=>
      refine AH rfl (AH rfl (Z (s,0) ⟨rfl,?_⟩))
      grind
     | some w=>
      refine AV rfl (AO (by simp; omega) (AH rfl (Z (s++[⟨i,w⟩],0) ⟨rfl,?_⟩)))
      grind
   · have a6:¬GK f o i=true:=by unfold GK; rw [bne,W]; simp
     grind
 · obtain ⟨s,s2⟩:=s
   obtain ⟨O,D⟩:=D
   simp only at O D ⊢
   subst O
   refine A2 (fun J=>by rw [hB] at J; omega) (fun _=>⟨rfl,?_⟩)
   subst D; exact V
theorem AmO (a b:AQ):sX a b∨sX b a:=by unfold sX; omega
theorem AqH {a b:AQ} (h:sX a b) (d:sX b a):a=b:=by unfold sX at *; exact SB (by omega) (by omega)
theorem AmP {a b c:AQ} (h:sX a b) (d:sX b c):sX a c:=by unfold sX at *; omega
def tB (a b:AQ):AQ:=if sX a b then a else b
theorem AmQ (a b:AQ):tB a b=tB b a:=by
 unfold tB;by_cases h:sX a b <;> by_cases h':sX b a
 . rw[if_pos h,if_pos h']; exact AqH h h'
 . rw[if_pos h,if_neg h']
 . rw[if_neg h,if_pos h']
 . rcases AmO a b with e | e
   . exact absurd e h
   . exact absurd e h'
theorem AiI (a b c:AQ):tB (tB a b) c=tB a (tB b c):=by
 unfold tB;by_cases h1:sX a b <;> by_cases h2:sX b c <;> by_cases h3:sX a c <;> simp only[h1,h2,h3,if_true,if_false]
 . exact absurd (AmP h1 h2) h3
 . exfalso; unfold sX at *; omega
theorem AmR {r:Int} {a b:AQ} (d:PZ a) (D:PZ b):KJ r a b=KJ r b a:=by
 by_cases h:r=1∨r=3∨r=4
 . have e:∀ a b,KJ r a b=tB a b:=λa b=>by unfold KJ tB; rw[if_pos h]
   rw[e,e]; exact AmQ a b
 . by_cases h2:r=2
   . unfold KJ;rw[if_neg h,if_pos h2,if_neg h,if_pos h2];by_cases e1:a=⟨0,0⟩ <;> by_cases e2:b=⟨0,0⟩ <;> simp[e1,e2]
   . by_cases h5:r=5
     . subst h5;rw[mX d,mX D,ZS,ZS,Int.add_comm]
     . unfold KJ; rw[if_neg h,if_neg h2,if_neg h5,if_neg h,if_neg h2,if_neg h5]
theorem AiJ {r:Int} {a b c:AQ} (D:PZ a) (J:PZ b) (d:PZ c):KJ r (KJ r a b) c=KJ r a (KJ r b c):=by
 by_cases h:r=1∨r=3∨r=4
 . have e:∀ a b,KJ r a b=tB a b:=λa b=>by unfold KJ tB; rw[if_pos h]
   simp only[e]; exact AiI a b c
 . by_cases h2:r=2
   . have e:∀ a b,KJ r a b=if a=⟨0,0⟩∧b=⟨0,0⟩ then ⟨0,0⟩ else ⟨0,1⟩:=λa b=>by unfold KJ; rw[if_neg h,if_pos h2]
     have O:(⟨0,1⟩:AQ)≠⟨0,0⟩:=by decide
     simp only[e];by_cases e1:a=⟨0,0⟩ <;> by_cases e2:b=⟨0,0⟩ <;> by_cases e3:c=⟨0,0⟩ <;> simp[e1,e2,e3]
   . by_cases h5:r=5
     . subst h5;rw[mX D,mX J,mX d,ZS,ZS,ZS,ZS,Int.add_assoc]
     . unfold KJ;simp only[if_neg h,if_neg h2,if_neg h5]
def okO (o:Option AQ):Prop:=∀ w,o=some w->PZ w
theorem AqI {r:Int} {a b:Option AQ} (d:okO a) (h:okO b):jX r a b=jX r b a:=by
 cases a with
 | none=>cases b <;> rfl
 | some x=>cases b with
  | none=>rfl
  | some y=>simp only[jX]; rw[AmR (d x rfl) (h y rfl)]
theorem qK {r:Int} {a b c:Option AQ} (d:okO a) (h:okO b) (D:okO c):jX r (jX r a b) c=jX r a (jX r b c):=by
 cases a with
 | none=>cases b <;> rfl
 | some x=>cases b with
  | none=>cases c <;> rfl
  | some y=>cases c with
   | none=>rfl
   | some z=>simp only[jX]; rw[AiJ (d x rfl) (h y rfl) (D z rfl)]
theorem AaU (r:Int) (n:Nat) (A B:Int->Option Int):PL r (n+1) A B=nC r A B (PL r n A B) n:=by unfold PL; rw[bM,Ae9]; rfl
theorem AfO (r:Int) (k:Nat) (A B:Int->Option Int):∀ m:Nat,PL r (k+m) A B=jX r (PL r k A B) (PL r m (λj=>A (j+k)) (λj=>B (j+k)))
 | 0=>by rw[gM,show PL r 0 (λj=>A (j+k)) (λj=>B (j+k))=none from rfl,UR]
 | m+1=>by
  rw[<-Aa5,AaU,AaU,AfO r k A B m];have ho:=wF r m (λj=>A (j+k)) (λj=>B (j+k));generalize PL r m (λj=>A (j+k)) (λj=>B (j+k))=o at ho ⊢;unfold nC;rw[show(((k+m:Nat):Int))=(m:Int)+k by omega];simp only
  cases D:A ((m:Int)+k) with
  | none=>rfl
  | some a=>cases J:B ((m:Int)+k) with
   | none=>rfl
   | some x=>
    have h:okO (some (YE r a x)):=λ_ d=>by have:=AbU d;subst this; exact SD _ _ _
    exact qK (wF r k A B) ho h
theorem AiK {r:Int} {n:Nat} {A d B h:Int->Option Int} (O:∀ j:Nat,j<n->A j=d j) (J:∀ j:Nat,j<n->B j=h j):PL r n A B=PL r n d h:=by unfold PL;refine RC λ_ k hk=>?_;have hk:=List.mem_range.1 hk;unfold nC;rw[O k hk,J k hk]
theorem nH {l:List B3} (h:IncI l) {i a:Int}:FM l i=some a↔(⟨i,a⟩:B3)∈l:=⟨PJ,λd=>RR h d⟩
theorem AcO {x y:Option Int} (h:∀ a,x=some a↔y=some a):x=y:=by
 cases x with
 | none=>cases y with
  | none=>rfl
  | some b=>have:=(h b).2 rfl; cases this
 | some a=>exact((h a).1 rfl).symm
def SF (u:Vec) (a b:Int):Vec:=
 if (if u.N<b then u.N else b)<=(if 0 > a then 0 else a) then zV
 else ⟨(if u.N<b then u.N else b) - (if 0 > a then 0 else a),(u.Items.filter λx=>decide ((if 0 > a then 0 else a)<=x.At∧x.At<(if u.N<b then u.N else b))).map λx=>⟨x.At - (if 0 > a then 0 else a),x.Val⟩⟩
theorem AcP {u:Vec} (h:VecP u) {a b:Int} (J:0<=a) (O:a<=b) (U:b<=u.N):SF u a b=⟨b - a,(u.Items.filter λx=>decide (a<=x.At∧x.At<b)).map λx=>⟨x.At - a,x.Val⟩⟩:=by
 unfold SF;have d:(if 0 > a then 0 else a)=a:=if_neg (by omega);have D:(if u.N<b then u.N else b)=b:=if_neg (by omega);rw[d,D];split
 . have:b=a:=by omega
   subst this;rw[List.filter_eq_nil_iff.2 (λx _=>by simp only[decide_eq_true_eq]; omega)];simp[zV]
 . rfl
theorem AaV {u:Vec} (h:VecP u) {a b:Int} (Z:0<=a) (W:a<=b) (h2:b<=u.N):VecP (SF u a b)∧(SF u a b).N=b - a∧(∀ j,0<=j->j<b - a->FM (SF u a b).Items j=FM u.Items (j+a))∧((∀ x∈u.Items,EA x.Val)->∀ x∈(SF u a b).Items,EA x.Val):=by
 rw[AcP h Z W h2];have a2:=h.n1
 have d:∀ x:B3,x∈((u.Items.filter λx=>decide (a<=x.At∧x.At<b)).map λx=>(⟨x.At - a,x.Val⟩:B3))↔(⟨x.At+a,x.Val⟩:B3)∈u.Items∧0<=x.At∧x.At+a<b:=by
   intro x;simp only[gL,AlZ,decide_eq_true_eq];constructor
   . rintro⟨y,⟨J,hc⟩,rfl⟩;simp only;rw[show y.At - a+a=y.At by omega];exact⟨J,by omega,by omega⟩
   . rintro⟨J,hc⟩;refine⟨_,⟨J,by simp only; omega⟩,?_⟩;cases x; simp only[B3.mk.injEq]; exact⟨by omega,trivial⟩
 have D:IncI ((u.Items.filter λx=>decide (a<=x.At∧x.At<b)).map λx=>(⟨x.At - a,x.Val⟩:B3)):=by unfold IncI;rw[X3];exact uO (λ{x y} a4=>by simp only; omega) (X2 _ h.inc)
 refine⟨⟨by simp only; omega,by simp only; omega,D,λx O=>by have:=(d x).1 O; simp only; omega⟩,rfl,λj _ _=>AcO λ_=>?_,λV x O=>?_⟩
 . rw[nH D,nH h.inc,d];exact⟨λU=>U.1,λU=>⟨U,by simp only; omega⟩⟩
 . have:=V _ ((d x).1 O).1;exact this
def wI (n k:Int):Prop:=(0<=n∧n<=4096)∧(1<=k∧k<=8)
instance (n k:Int):Decidable (wI n k):=by unfold wI; infer_instance
def clI (i k:Int):Int:=if i<0 then 0 else if k<i then k else i
def AZ (n k i:Int):Int:=if wI n k then clI i k*n / k else 0
theorem AvH {i k:Int} (h:1<=k):0<=clI i k∧clI i k<=k:=by grind[clI]
theorem AqJ {i j k:Int} (h:i<=j) (hk:1<=k):clI i k<=clI j k:=by grind[clI]
theorem Ay1 {i k n:Int} (hk:1<=k∧k<=8) (d:0<=n∧n<=4096) (hi:0<=i∧i<=k):0<=i*n∧i*n<=32768:=by refine⟨AjV hi.1 d.1,?_⟩;have:=AjT (show i<=8 by omega) d.2 d.1 (by omega);omega
theorem J0 {n k i j:Int} (h:i<=j):AZ n k i<=AZ n k j:=by
 unfold AZ;by_cases hm:wI n k
 . rw[if_pos hm,if_pos hm];exact Int.ediv_le_ediv (by have:=hm.2; omega) (Int.mul_le_mul_of_nonneg_right (AqJ h hm.2.1) hm.1.1)
 all_goals grind
theorem AfP (n k:Int):AZ n k 0=0:=by
 unfold AZ clI; split
 . rename_i d;have h:=d.2.1;rw[if_neg (by omega),if_neg (by omega),Int.zero_mul,Int.zero_ediv]
 . rfl
theorem Al1 {n k:Int} (h:wI n k):AZ n k k=n:=by unfold AZ clI;have d:=h.2.1;rw[if_pos h,if_neg (by omega),if_neg (by omega),Int.mul_comm,Int.mul_ediv_cancel _ (by omega)]
theorem UV {n k i:Int}:0<=AZ n k i∧(0<=n->AZ n k i<=n):=by
 by_cases hm:wI n k
 . have d:=AvH (i:=i) hm.2.1;refine⟨?_,λ_=>?_⟩
   . unfold AZ; rw[if_pos hm]; exact AjO (AjV d.1 hm.1.1) (by have:=hm.2; omega)
   . by_cases hi:i<=k
     . have:=J0 (n:=n) hi (k:=k); rwa [Al1 hm] at this
     . have h:=hm.2.1
       have e:AZ n k i=n:=by unfold AZ clI;rw[if_pos hm,if_neg (by omega),if_pos (by omega),Int.mul_comm,Int.mul_ediv_cancel _ (by omega)]
       omega
 all_goals grind[AZ]
theorem toQ {P:Prop} [Decidable P] {b:Bool} {Q:Bool->Prop} (d:Q (decide P)) (h:b=true↔P):Q b:=by grind
theorem AfQ {n k:Int} {Q:Bool->Prop} (d:Q (decide (wI n k))):mF n k Q:=by unfold mF QC;refine A2 (λa=>A2 (λb=>A2 (λc=>toQ d ?_) (λc=>toQ d ?_)) (λb=>toQ d ?_)) (λa=>toQ d ?_) <;> (unfold wI; simp; omega)
theorem I5 {n k i:Int} {Q:Int->Prop} (J:Q (AZ n k i)):IM n k i Q:=by
 unfold IM;unfold AZ at J;refine AfQ (BW (λh=>?_) (λh=>?_))
 . grind
 . have d:=of_decide_eq_true h;rw[if_pos d] at J
   have e:(if k<(if 0 > i then 0 else i) then k else (if 0 > i then 0 else i))=clI i k:=by unfold clI; have:=d.2; omega
   rw[e];have D:=Ay1 d.2 d.1 (AvH (i:=i) d.2.1);have hk:=d.2;refine⟨by omega,?_⟩;rw[AK (x:=clI i k*n) (by omega) (by omega),AsZ D.1];have O:0<=clI i k*n / k:=AjO D.1 (by omega);have U:clI i k*n / k<=clI i k*n:=AoU _ D.1
   rwa [AK (by omega) (by omega)]
theorem RE (n k i:Int):0<=AZ n k i∧AZ n k i<=4096:=by
 by_cases hm:wI n k
 . have h:=UV (n:=n) (k:=k) (i:=i);have:=h.2 hm.1.1;have:=hm.1.2;exact⟨h.1,by omega⟩
 . unfold AZ; rw[if_neg hm]; omega
def KA (n k i:Int):Int:=if 0<=i∧i<k then AZ n k (i+1) - AZ n k i else 0
theorem AvI {n k i:Int} (d:0<=i) (h:i<k):AZ n k (AJ (i+1))=AZ n k (i+1):=by
 by_cases hm:wI n k
 . have:=hm.2;rw[AK (by omega) (by omega)]
 . unfold AZ; rw[if_neg hm,if_neg hm]
theorem AcQ {n k i:Int} {Q:Int->Prop} (d:Q (KA n k i)):fN n k i Q:=by
 unfold fN;unfold KA at d;refine A2 (λh=>?_) (λh=>A2 (λD=>?_) (λD=>I5 (I5 ?_)))
 . grind
 . grind
 . rw[if_pos (by omega)] at d;have J:=RE n k (i+1); have O:=RE n k i;rw[AvI (by omega) (by omega),AK (by omega) (by omega)]; exact d
def JK (k:Int):Prop:=1<=k∧k<=8
instance (k:Int):Decidable (JK k):=by unfold JK; infer_instance
def YJ (r c i j:Int):Prop:=(JK r∧JK c)∧(0<=i∧i<r)∧0<=j∧j<c
instance (r c i j:Int):Decidable (YJ r c i j):=by unfold YJ; infer_instance
theorem iL {k:Int} {Q:Bool->Prop} (d:Q (decide (JK k))):UA k Q:=by unfold UA;refine A2 (λa=>toQ d ?_) (λa=>toQ d ?_) <;> (unfold JK; simp; omega)
theorem XF {r c i j:Int} {Q:Bool->Prop} (h:Q (decide (YJ r c i j))):QB r c i j Q:=by unfold QB;refine iL (A2 (λa=>iL (A2 (λb=>A2 (λd=>A2 (λe=>A2 (λf=>toQ h ?_) (λf=>toQ h ?_)) (λe=>toQ h ?_)) (λd=>toQ h ?_)) (λb=>toQ h ?_))) (λa=>toQ h ?_)) <;> (unfold YJ; unfold JK at *; simp only[AbS,decide_eq_true_eq,false_iff]; omega)
theorem bD {n:Int} {Q:Bool->Prop} (d:Q (decide (0<=n∧n<=4096))):P5 n Q:=by unfold P5;refine A2 (λa=>toQ d ?_) (λa=>toQ d ?_) <;> (simp; omega)
theorem HR {n k i:Int} {Q:Int×Int->Prop} (d:0<=i) (h:i<k) (D:Q (AZ n k i,AZ n k (i+1))):GY n k i Q:=by unfold GY;grind[I5,AvI]
def AtY (rows cols:Int) (T:List A5) (r c i j:Int):Rows:=if YJ r c i j then ApR rows cols T (AZ rows r i,AZ rows r (i+1)) (AZ cols c j,AZ cols c (j+1)) else BR 0 0 []
theorem AtZ:cW zR=BR 0 0 []:=if_neg ApU
theorem AqK:ApR 0 0 [] (0,0) (0,0)=BR 0 0 []:=by decide
theorem AcR {Q:Rows->Prop} (d:Q (BR 0 0 [])):W9 zR (0,0) (0,0) Q:=by refine vP ApT AtZ Af4 ?_;rw[AqK]; exact d
theorem AcS {rows cols r c i j:Int} {T:List A5} {Q:Rows->Prop} (h:Canon rows cols T) (D:Q (AtY rows cols T r c i j)):fH (BR rows cols T) r c i j Q:=by
 unfold fH;unfold AtY at D;refine mR h.sml ?_;rw[decide_eq_true h.right];refine AH rfl (XF (BW (λd=>?_) (λd=>?_)))
 . rw[if_neg (of_decide_eq_false d)] at D;exact AcR D
 . have d:=of_decide_eq_true d;rw[if_pos d] at D;exact HR d.2.1.1 d.2.1.2 (HR d.2.2.1 d.2.2.2 (vP h.sml (QZ h) h D))
theorem jZ {rows cols r c i j:Int} {T:List A5} (h:Canon rows cols T) (d:YJ r c i j):AtY rows cols T r c i j=BR (KA rows r i) (KA cols c j) (XB (AZ rows r i) (AZ rows r (i+1)) (AZ cols c j) (AZ cols c (j+1)) T)∧Canon (KA rows r i) (KA cols c j) (XB (AZ rows r i) (AZ rows r (i+1)) (AZ cols c j) (AZ cols c (j+1)) T):=by
 have D:=AaM h (AZ rows r i,AZ rows r (i+1)) (AZ cols c j,AZ cols c (j+1))
 have e:∀ {n k x:Int},0<=n->0<=x∧x<k->cLo (AZ n k x)=AZ n k x∧cHi (AZ n k (x+1)) n=AZ n k (x+1)∧ext (AZ n k x) (AZ n k (x+1)) n=KA n k x:=by
  intro n k x Z hx;have h1:=UV (n:=n) (k:=k) (i:=x); have J:=UV (n:=n) (k:=k) (i:=x+1);have h3:=J0 (n:=n) (k:=k) (show x<=x+1 by omega);have h4:=J.2 Z;have O:cLo (AZ n k x)=AZ n k x:=by unfold cLo; split <;> omega
  have U:cHi (AZ n k (x+1)) n=AZ n k (x+1):=by unfold cHi; split <;> omega
  refine⟨O,U,?_⟩;unfold ext KA;omega
 have⟨a1,V,a3⟩:=e h.r0 d.2.1;have⟨W,b2,b3⟩:=e h.c0 d.2.2;simp only[a1,V,a3,W,b2,b3] at D;refine⟨?_,D⟩;unfold AtY;rw[if_pos d];unfold ApR;grind
theorem Au0 {a b:Int} (d:0<=a) (h:0<=b) (D:a<=1000000) (J:b<=1000000):AJ (shr .u64 (IntKind.wrap .u64 (AJ (a+b))) 1)=(a+b) / 2:=by have e:∀ i:Int,shr .u64 i 1=i / 2:=λi=>Aq7 1 (by omega);rw[AK (x:=a+b) (by omega) (by omega),W0 (by omega) (by omega),e,AK (by omega) (by omega)]
theorem AaW (x y:Int):QX x y<0↔x<y:=by unfold QX; omega
theorem iM {w:Vec} {i:Int} {Q:Int×Bool->Prop} (hP:VecP w) (hQ:∀ (m:Nat) b,m<=w.Items.length->(∀ (k:Nat) (hk:k<w.Items.length),k<m->(w.Items[k]).At<i)->(∀ (k:Nat) (hk:k<w.Items.length),m<=k->¬(w.Items[k]).At<i)->Q (m,b)):O3 w i Q:=by
 have hi:=hP.inc;have a5:=hP.len;unfold O3 BP KH;refine CQ (λs:Int×Int=>0<=s.1∧s.1<=s.2∧s.2<=w.Items.length∧(∀ (k:Nat) (hk:k<w.Items.length),(k:Int)<s.1->(w.Items[k]).At<i)∧(∀ (k:Nat) (hk:k<w.Items.length),s.2<=(k:Int)->¬(w.Items[k]).At<i)) (λs=>(s.2 - s.1).toNat) ⟨by simp,by simp,by simp,λk hk h=>by simp at h; omega,λk hk h=>by simp at h; omega⟩ ?_;rintro⟨a,b⟩ next ⟨Z,h1,h2,U,W⟩ hn;simp only at Z h1 h2 U W;refine A2 (λa4=>?_) (λa4=>?_)
 . rw[Au0 Z (by omega) (by omega) (by omega)];obtain⟨m,V⟩:∃ m:Nat,(a+b) / 2=(m:Int):=⟨((a+b) / 2).toNat,by omega⟩;rw[V];have J:m<w.Items.length:=by omega
   refine B8 J (GJ (A2 (λO=>?_) (λO=>?_)))
   . rw[AaW] at O;rw[AK (by omega) (by omega)];refine hn _ ⟨by simp only; omega,by simp only; omega,h2,λk hk D=>?_,W⟩ (by simp only; omega);simp only at D;by_cases e:k=m
     . subst e; exact O
     . have:=hi.at J (by omega:k<m); omega
   . rw[AaW] at O;refine hn _ ⟨Z,by simp only; omega,by simp only; omega,U,λk hk D=>?_⟩ (by simp only; omega);simp only at D;by_cases e:k=m
     . subst e; exact O
     . have:=hi.at hk (by omega:m<k); omega
 . have a2:a=b:=by omega
   subst a2;obtain⟨m,rfl⟩:∃ m:Nat,a=(m:Int):=⟨a.toNat,by omega⟩;have d:∀ b,Q ((m:Int),b):=λb=>hQ m b (by omega) (λk hk h=>U k hk (by omega)) (λk hk h=>W k hk (by omega));exact A2 (λV=>B8 (by omega) (GJ (d _))) (λV=>d _)
theorem AaX {l:List B3} {Q:List B3->Prop} (h:l.length<=1000000) (d:Q l):AX l Q:=by unfold AX;refine JR (λe=>by subst e; exact d) (AO (by simp; omega) ?_);exact d
theorem AfR {α:Type} {xs:List α} {g:α->α} {d:List α×Int->(List α×Int->Prop)->Prop} (W:xs.length<=1000000000)
   (O:∀ (i:Nat) (s:List α) (next:List α×Int->Prop) (hi:i<xs.length) (D:s.length=xs.length),s[i]'(by omega)=xs[i]->next (s.set i (g xs[i]),AJ ((i:Int)+1))->d (s,(i:Int)) next)
   (V:∀ (next:List α×Int->Prop) s,s=xs.map g->d (s,(xs.length:Int)) next):B4 d (xs,0):=by
 refine AL (λ(s:List α) i=>(s,i)) 0 xs.length (by omega) (λk s=>s=(xs.take k).map g++xs.drop k) (by omega) (by simp) (λk s next _ hk h U=>?_) (λs next h=>?_)
 . have D:s.length=xs.length:=by subst h; simp; omega
   have J:((xs.take k).map g).length=k:=by simp; omega
   refine O k s next hk D ?_ (U _ ?_)
   . grind
   . subst h;rw[List.set_append_right _ _ (by omega),J,Nat.sub_self,Ao7 hk,List.set_cons_zero,eX hk,iE,lL];rfl
 all_goals grind
theorem AcT {f:Int} {v:Vec} {Q:Vec->Prop} (J:VecP v) (O:0<=f) (hi:∀ x∈v.Items,f<=x.At) (U:Q ⟨v.N,v.Items.map λx=>⟨x.At - f,x.Val⟩⟩):PA f v Q:=by
 unfold PA QM;have hl:=J.len; have:=J.n1;refine NF (by omega) ?_;rw[IY J];refine AaX (by omega) (AfR (g:=λx:B3=>(⟨x.At - f,x.Val⟩:B3)) (by omega) (λi s next d _ D Z=>?_) (λnext s W=>?_))
 . have hx:=J.ins _ (PW d); have V:=hi _ (PW d);refine A2 (λ_=>B8 (by omega) ?_) (λh=>by omega);rw[D,AK (x:=(v.Items[i]).At - f) (by omega) (by omega)];exact B8 (by omega) Z
 . subst W;exact A2 (λh=>by omega) (λ_=>U)
theorem AiL {l:List B3} (h:IncI l) {f t:Int} {m n:Nat} (V:m<=n) (W:n<=l.length) (D:∀ (k:Nat) (hk:k<l.length),k<m->(l[k]).At<f) (O:∀ (k:Nat) (hk:k<l.length),m<=k->¬(l[k]).At<f)
   (U:∀ (k:Nat) (hk:k<l.length),k<n->(l[k]).At<t) (J:∀ (k:Nat) (hk:k<l.length),n<=k->¬(l[k]).At<t):(l.take n).drop m=l.filter λx=>decide (f<=x.At∧x.At<t):=by
 have e:l=l.take m++((l.take n).drop m++l.drop n):=by
   conv=>lhs; rw[<-At4 n l]
   rw[<-lL];congr 1
   conv=>lhs; rw[<-At4 m (l.take n)]
   grind
 conv=>rhs; rw[e]
 rw[jG,jG,List.filter_eq_nil_iff.2,List.filter_eq_self.2,List.filter_eq_nil_iff.2]
 . simp
 . intro x d;obtain⟨k,hk,rfl⟩:=tM d;rw[AlW] at hk;rw[AjL];have:=J (n+k) (by omega) (by omega);simp only[decide_eq_true_eq]; omega
 . intro x d;obtain⟨k,hk,rfl⟩:=tM d;rw[AlW,VK] at hk;rw[AjL,AbT];have a:=O (m+k) (by omega) (by omega); have b:=U (m+k) (by omega) (by omega);simp only[decide_eq_true_eq]; omega
 . intro x d;obtain⟨k,hk,rfl⟩:=tM d;rw[VK] at hk;rw[AbT];have:=D k (by omega) (by omega);simp only[decide_eq_true_eq]; omega
theorem yY {v:Vec} {a b:Int} {Q:Vec->Prop} (hl:v.Items.length<=1000000000) (J:Q (SF (G4 v) a b)):ZD v a b Q:=by
 unfold ZD;have d:=SE v;refine NF hl ?_;generalize G4 v=u at d J;have a4:=d.len; have:=d.n0; have:=d.n1;unfold SF at J;generalize hf:(if 0 > a then 0 else a)=f at *;generalize ht:(if u.N<b then u.N else b)=t at *;have W:0<=f:=by subst hf; split <;> omega
 have a2:t<=u.N:=by subst ht; split <;> omega
 refine A2 (λh=>?_) (λh=>?_)
 . rw[if_pos h] at J; exact J
 . rw[if_neg h] at J;refine iM d λm _ _ m1 m2=>iM d λn _ Z n1 n2=>?_
   have U:m<=n:=by grind
   have O:=AiL d.inc U Z m1 m2 n1 n2;refine At9 U Z ?_;rw[YZ,YZ,O]
   have D:∀ x∈u.Items.filter λx=>decide (f<=x.At∧x.At<t),x∈u.Items∧f<=x.At∧x.At<t:=λx V=>by grind
   refine AcT (v:=⟨u.N,u.Items.filter λx=>decide (f<=x.At∧x.At<t)⟩) ⟨d.n0,d.n1,X2 _ d.inc,λx V=>d.ins x (D x V).1⟩ W (λx V=>(D x V).2.1) ?_;rw[AK (by omega) (by omega)];exact J
def G5 (v:Vec) (k i:Int):Vec:=if JK k∧0<=i∧i<k then SF v (AZ v.N k i) (AZ v.N k (i+1)) else zV
def mx (a b:Int):Int:=if b > a then b else a
def mn (a b:Int):Int:=if b<a then b else a
def YK (n r c i j:Int):Int:=mx (AZ n r i) (AZ n c j)
def kA (n r c i j:Int):Int:=mx (YK n r c i j) (mn (AZ n r (i+1)) (AZ n c (j+1)))
def SV (v:Vec) (n r c i j:Int):Vec:=
 if (0<=n∧n<=4096)∧YJ r c i j∧VecP v∧v.N=KA n r i then SF v (YK n r c i j - AZ n r i) (kA n r c i j - AZ n r i) else zV
theorem AqL (n r c i j:Int):0<=YK n r c i j∧YK n r c i j<=kA n r c i j∧kA n r c i j<=4096:=by have d:=RE n r i; have h:=RE n c j; have D:=RE n r (i+1); grind[RE,kA,YK,mx,mn]
theorem wJ {v:Vec} {n r c i j:Int} {Q:Vec->Prop} (W:v.Items.length<=1000000000) (O:Q (SV v n r c i j)):WB v n r c i j Q:=by
 unfold WB;unfold SV at O;have d:¬((0<=n∧n<=4096)∧YJ r c i j∧VecP v∧v.N=KA n r i)->Q zV:=λD=>by rwa [if_neg D] at O
 refine bD (BW (λh=>d λD=>of_decide_eq_false h D.1) (λV=>XF (BW (λh=>d λD=>of_decide_eq_false h D.2.1) (λJ=>F8 W (BW (λh=>d λD=>of_decide_eq_false h D.2.2.1) (λU=>AcQ (BO (λh=>d λD=>h D.2.2.2) (λZ=>?_))))))));have V:=of_decide_eq_true V; have J:=of_decide_eq_true J; have U:=of_decide_eq_true U;rw[if_pos ⟨V,J,U,Z⟩] at O;refine HR J.2.1.1 J.2.1.2 (HR J.2.2.1 J.2.2.2 ?_);unfold P9;refine yY W ?_;have hc:=AqL n r c i j; have hb:=RE n r i;have ea:(if (AZ n c j) > (AZ n r i) then AZ n c j else AZ n r i)=YK n r c i j:=rfl;have eb:(if (if (AZ n c (j+1))<(AZ n r (i+1)) then AZ n c (j+1) else AZ n r (i+1)) > YK n r c i j then (if (AZ n c (j+1))<(AZ n r (i+1)) then AZ n c (j+1) else AZ n r (i+1)) else YK n r c i j)=kA n r c i j:=rfl;simp only;rw[ea,eb,AK (by omega) (by omega),AK (by omega) (by omega),IY U];exact O
end Go.Proofs.YtcecodhleocefaaGreat
