import Derived.Test.YtieniichmjgmcaaGreatL
set_option linter.unusedVariables false
set_option linter.unusedSimpArgs false
namespace Go.Proofs.YtieniichmjgmcaaGreat
open Go Go.Fw
section
variable {β:Type}
def CY (es:List B0):List B0:=(U9 (SC 1 (es.map kvE)) mkE).1
theorem AtA (a:AZ):EC (IQ a).1:=by
 unfold IQ EC;split
 . rw[KJ]; omega
 . simp
theorem oY (es:List B0):∀ e∈CY es,EC e.W:=by
 intro e d;unfold CY U9 at d;split at d
 . obtain⟨_,_,rfl⟩:=List.mem_map.1 d;exact AtA _
 . cases d
theorem KB {es:List B0} (h:∀ e∈es,EC e.W):(CY es).length<=es.length:=by have:=(rZ 1 (es.map kvE) (λ_ D=>by obtain⟨e,d,rfl⟩:=List.mem_map.1 D; exact h e d)).1;unfold CY U9;grind
theorem H6 {g:Graph} {Q:Graph->Prop} (D:g.Edges.length<=1000000) (h:∀ e∈g.Edges,EC e.W) (d:Q ⟨g.N,CY g.Edges⟩):FT g Q:=by unfold FT; exact tN (by omega) D h d
theorem Am6 {α:Type} {p:α->Bool} {xs:List α} {i:Nat} (h:i<xs.length):(xs.take (i+1)).filter p=(xs.take i).filter p++(if p xs[i] then [xs[i]] else []):=by rw[eZ h,fA];grind
def QT (e:B0):Bool:=e.From != e.To
def mG (g:Graph):Graph:=⟨g.N,CY (g.Edges.filter QT)⟩
def AhG (e:B0):B0:=⟨e.From,e.To,1⟩
def QH (g:Graph):Graph:=⟨g.N,CY (g.Edges.map AhG)⟩
def qT (g:Graph):Graph:=⟨g.N,CY (g.Edges.map qD)⟩
def cG (g:Graph):Graph:=⟨g.N,CY (g.Edges++(qT g).Edges)⟩
theorem Aq8 {α:Type} {p:α->Bool} {xs:List α} {i:Nat} (h:i<=xs.length):((xs.take i).filter p).length<=i:=by grind
theorem Am7 {g:Graph} {Q:Graph->Prop} (U:g.Edges.length<=1000000) (O:∀ e∈g.Edges,EC e.W) (J:Q (mG g)):SP g Q:=by
 unfold SP TS NF;refine A9 (λ(s:List B0) i=>(s,i)) 0 g.Edges.length (by omega) (λi s=>s=(g.Edges.take i).filter QT) (by omega) rfl (λi s next _ hi d D=>?_) (λs next d=>?_)
 . subst d;have Z:=Aq8 (p:=QT) (xs:=g.Edges) (Nat.le_of_lt hi);refine A0 (λ_=>AW hi ?_) (λh=>by omega);have e:=Am6 (p:=QT) hi;refine BT (λh=>AL (by simp; omega) (D _ ?_)) (λh=>D _ ?_)
   all_goals grind[QT]
 . subst d;refine A0 (λh=>by omega) (λ_=>?_);rw[QW];exact H6 (gZ (rE _ _) U) (λe V=>O e (List.mem_filter.1 V).1) J
theorem uX {g:Graph} {Q:Graph->Prop} (O:g.Edges.length<=1000000) (J:Q (QH g)):NR g Q:=by
 unfold NR TT OC;refine A9 (λ(s:List B0) i=>(s,i)) 0 g.Edges.length (by omega) (λi s=>s=(g.Edges.take i).map AhG) (by omega) rfl (λi s next _ hi d D=>?_) (λs next d=>?_)
 . subst d;refine A0 (λ_=>AW hi (B2 rfl (AL (by simp; omega) (D _ ?_)))) (λh=>by omega);rw[OS hi]; rfl
 . subst d;refine A0 (λh=>by omega) (λ_=>?_);rw[QW];exact H6 (by simpa using O) (λ_ U=>by obtain⟨_,_,rfl⟩:=List.mem_map.1 U; unfold EC AhG; simp) J
theorem Aq9 {g:Graph} {Q:Graph->Prop} (U:g.Edges.length<=1000000) (D:∀ e∈g.Edges,EC e.W) (O:Q (qT g)):PC g Q:=by
 unfold PC OB LY;refine A9 (λ(s:List B0) i=>(s,i)) 0 g.Edges.length (by omega) (λi s=>s=(g.Edges.take i).map qD) (by omega) rfl (λi s next _ hi d J=>?_) (λs next d=>?_)
 . subst d;refine A0 (λ_=>AW hi (B2 rfl (AL (by simp; omega) (J _ ?_)))) (λh=>by omega);rw[OS hi]; rfl
 . subst d;refine A0 (λh=>by omega) (λ_=>?_);rw[QW];exact H6 (by simpa using U) (λe V=>by obtain⟨x,Z,rfl⟩:=List.mem_map.1 V; exact D x Z) O
theorem uY {g:Graph} (J:g.Edges.length<=500000) (d:∀ e∈g.Edges,EC e.W):(qT g).Edges.length<=g.Edges.length∧∀ e∈(qT g).Edges,EC e.W:=by refine⟨?_,oY _⟩;have:=KB (es:=g.Edges.map qD) (λe h=>by obtain⟨x,D,rfl⟩:=List.mem_map.1 h; exact d x D);grind[qT]
theorem Am8 {xs ys:List B0} {Q:List B0->Prop} (V:xs.length+ys.length<=1000000) (U:Q (xs++ys)):DM [xs,ys] Q:=by
 unfold DM FU;refine A9 (λ(s:Int) i=>(s,i)) 0 2 (by omega) (λi s=>s=(((([xs,ys]:List (List B0)).take i).map List.length).sum:Nat)) (by omega) (by simp) (λi s next _ hi O d=>?_) (λs next O=>?_)
 . subst O;refine A0 (λ_=>?_) (λh=>by simp at h; omega)
   match i,hi,d with
   | 0,_,d=>
    refine AG (x:=xs) (by omega) rfl ?_;have e:A4 (((([xs,ys]:List (List B0)).take 0).map List.length).sum+(xs.length:Int))=xs.length:=by simp; exact A6 (by omega) (by omega)
    rw[e];exact A0 (λh=>by omega) (λ_=>d _ (by simp))
   | 1,_,d=>
    refine AG (x:=ys) (by omega) rfl ?_;have e:A4 (((([xs,ys]:List (List B0)).take 1).map List.length).sum+(ys.length:Int))=xs.length+ys.length:=by simp; exact A6 (by omega) (by omega)
    rw[e];exact A0 (λh=>by omega) (λ_=>d _ (by simp))
 . subst O;refine A0 (λh=>by simp at h) (λ_=>?_);have e:((((([xs,ys]:List (List B0)).take 2).map List.length).sum:Nat):Int)=xs.length+ys.length:=by simp
   rw[e,A6 (x:=0 - 0) (by omega) (by omega),A6 (x:=(xs.length:Int)+ys.length - (0 - 0)) (by omega) (by omega)]
   have hk:B4 (λ(s:(List B0)×Int) (D:((List B0)×Int)->Prop)=>match s with | (s268,s272)=>A5 (decide (s272<((([xs,ys]:List (List B0)).length:Nat):Int))) (AR [xs,ys] s272 λJ=>DW 24 s268 J λ_=>D ((s268++J),A4 (s272+1))) (Q s268)) ([],0):=by
    refine A9 (λ(s:List B0) i=>(s,i)) 0 2 (by omega) (λi s=>s=(([xs,ys]:List (List B0)).take i).flatten) (by omega) (by simp) (λi s next _ hi O d=>?_) (λs next O=>?_)
    . subst O;refine A0 (λ_=>?_) (λh=>by simp at h; omega)
      match i,hi,d with
      | 0,_,d=>exact AG (x:=xs) (by omega) rfl (AL (by simp; omega) (d _ (by simp)))
      | 1,_,d=>exact AG (x:=ys) (by omega) rfl (AL (by simp; omega) (d _ (by simp)))
    . subst O;refine A0 (λh=>by simp at h) (λ_=>?_);grind
   exact A0 (λh=>by omega) (λ_=>A0 (λh=>⟨by omega,by omega,hk⟩) (λh=>hk))
theorem Ak7 {g:Graph} {Q:Graph->Prop} (D:g.Edges.length<=100000) (d:∀ e∈g.Edges,EC e.W) (h:Q (cG g)):TR g Q:=by unfold TR;have J:=uY (by omega) d;refine Aq9 (by omega) d (Am8 (by omega) (H6 (by simp; omega) (λe _=>?_) h));grind
def AhH (p:Plan) (g:Graph):Rows×Int:=
 if CD p≠0 then (zR,CD p) else if g.N≠p.N then (zR,4) else if F3 g≠0 then (zR,F3 g)
 else tW (if p.Kind=5 then QH (cG (mG g)) else if p.Kind=3 then QH (cG g) else if p.Kind=1 then QH g else g)
theorem uZ {g:Graph} (O:g.Edges.length<=65536) (d:∀ e∈g.Edges,EC e.W):(cG g).Edges.length<=200000∧∀ e∈(cG g).Edges,EC e.W:=by
 have J:=uY (by omega) d;refine⟨?_,oY _⟩
 have:=KB (es:=g.Edges++(qT g).Edges) (λe D=>by
  rcases List.mem_append.1 D with h | h
  . exact d e h
  . exact J.2 e h)
 rw[fC] at this;show(CY _).length<=_;omega
theorem AhI {g:Graph} (O:g.Edges.length<=65536) (d:∀ e∈g.Edges,EC e.W):(mG g).Edges.length<=65536∧∀ e∈(mG g).Edges,EC e.W:=by refine⟨?_,oY _⟩;have D:=KB (es:=g.Edges.filter QT) (λe h=>d e (List.mem_filter.1 h).1);have J:=rE QT g.Edges;show(CY _).length<=_;omega
theorem cH {p:Plan} {g:Graph} {Q:Rows×Int->Prop} (d:Q (AhH p g)):RC p g Q:=by
 unfold RC;unfold AhH at d;refine WW (BT (λh=>by rwa [if_pos h] at d) (λh=>?_));rw[if_neg (λD=>D h)] at d;refine BT (λh=>by rwa [if_pos h] at d) (λh=>?_);rw[if_neg (λD=>D h)] at d;refine OT (BT (λh=>by rwa [if_pos h] at d) (λh=>?_));rw[if_neg (λD=>D h)] at d;have⟨_,_,hl,_,hw⟩:=NW h;have J:∀ e∈g.Edges,EC e.W:=λe he=>by have:=hw e he; unfold wOk at this; unfold EC; omega
 have O:=AhI hl J;have hb:=uZ hl J;have a2:=uZ O.1 O.2;refine B5 (λV=>?_) (λV=>?_)
 . rw[if_pos V] at d;exact Am7 (by omega) J (Ak7 (by omega) O.2 (uX (by omega) (lF d)))
 rw[if_neg V] at d;refine B5 (λU=>?_) (λU=>?_)
 . rw[if_pos U] at d;exact Ak7 (by omega) J (uX (by omega) (lF d))
 rw[if_neg U] at d;refine B5 (λZ=>?_) (λZ=>?_)
 . rw[if_pos Z] at d;exact uX (by omega) (lF d)
 rw[if_neg Z] at d;exact lF d
theorem AyI (i:Int):shr .u64 i 1=i / 2:=by unfold shr;rw[ArW _ (by decide)]; rfl
theorem AuZ (i:Int):shr .i64 i 1=i / 2:=by unfold shr;rw[ArW _ (by decide)]; rfl
theorem AvZ {a b:Int} (d:0<=a) (h:0<=b) (D:a<=1000000) (J:b<=1000000):A4 (shr .u64 (IntKind.wrap .u64 (A4 (a+b))) 1)=(a+b) / 2:=by rw[A6 (x:=a+b) (by omega) (by omega),NQ (by omega) (by omega),AyI,A6 (by omega) (by omega)]
theorem AeM (x y:Int):Q6 x y<0↔x<y:=by unfold Q6; omega
theorem Aa3 (x y:Int):Q6 x y=0↔x=y:=by unfold Q6; omega
theorem AbV {v:Vec} {i:Int} {Q:Int×Bool->Prop} (hl:v.Items.length<=1000000000) (J:Q (MU (GI (FY v).Items i))):XK v i Q:=by
 unfold XK;refine MT hl ?_;have Z:=RO v;generalize FY v=w at Z J;have hi:=Z.inc;have a4:=Z.len;unfold NI BQ K3;refine BV (λs:Int×Int=>0<=s.1∧s.1<=s.2∧s.2<=w.Items.length∧(∀ (k:Nat) (hk:k<w.Items.length),(k:Int)<s.1->(w.Items[k]).At<i)∧(∀ (k:Nat) (hk:k<w.Items.length),s.2<=(k:Int)->¬(w.Items[k]).At<i)) (λs=>(s.2 - s.1).toNat) ⟨by simp,by simp,by simp,λk hk h=>by simp at h; omega,λk hk h=>by simp at h; omega⟩ ?_;rintro⟨a,b⟩ next ⟨O,h1,h2,h3,h4⟩ hn;simp only at O h1 h2 h3 h4;refine A0 (λa3=>?_) (λa3=>?_)
 . rw[AvZ O (by omega) (by omega) (by omega)];obtain⟨m,hm⟩:∃ m:Nat,(a+b) / 2=(m:Int):=⟨((a+b) / 2).toNat,by omega⟩;rw[hm];have d:m<w.Items.length:=by omega
   refine AW d (GG (A0 (λU=>?_) (λU=>?_)))
   . rw[AeM] at U;rw[A6 (by omega) (by omega)];refine hn _ ⟨by simp only; omega,by simp only; omega,h2,λk hk D=>?_,h4⟩ (by simp only; omega);simp only at D;by_cases e:k=m
     . grind
     . have:=hi.at d (by omega:k<m); omega
   . rw[AeM] at U;refine hn _ ⟨O,by simp only; omega,by simp only; omega,h3,λk hk D=>?_⟩ (by simp only; omega);simp only at D;by_cases e:k=m
     . grind
     . have:=hi.at hk (by omega:m<k); omega
 . have a2:a=b:=by omega
   subst a2;obtain⟨m,rfl⟩:∃ m:Nat,a=(m:Int):=⟨a.toNat,by omega⟩;refine A0 (λhm=>?_) (λhm=>?_)
   . have d:m<w.Items.length:=by omega
     refine AW d (GG ?_);by_cases e:(w.Items[m]).At=i
     . have V:(Q6 (w.Items[m]).At i==0)=true:=by grind[Aa3]
       dsimp only;rw[V];refine A8 rfl (AW d ?_);have:=W8 hi (TF d);rw[e] at this;rw[this] at J;exact J
     . have V:(Q6 (w.Items[m]).At i==0)=false:=by grind[Aa3]
       dsimp only;rw[V];refine B2 rfl ?_;rw[RQ λs W=>?_] at J
       . exact J
       . obtain⟨k,hk,rfl⟩:=WK W;by_cases D:k<m
         . grind
         . by_cases hkm':k=m
           . grind
           . have h5:=hi.at hk (by omega:m<k); grind
   . refine B2 rfl ?_;rw[RQ λs W=>?_] at J
     . exact J
     . obtain⟨k,hk,rfl⟩:=WK W;grind
def zSt:State:=⟨0,0,[],[],[]⟩
def GZ (s:State):Nat:=(s.High - s.Low).toNat
def StP (p:Plan) (s:State):Prop:=CD p=0∧0<=s.Low∧s.Low<=s.High∧s.High<=p.N∧s.A.length=GZ s∧s.B.length=GZ s∧bV s.On (s.High - s.Low)
instance (p:Plan) (s:State):Decidable (StP p s):=by unfold StP; infer_instance
def EN (p:Plan) (s:State):State:=if StP p s then s else zSt
def iR (s:State):Prop:=qH s.On∧s.On.length<=1000000
theorem SX {p:Plan} {s:State} {Q:State->Prop} (O:iR s) (D:Q (EN p s)):PM p s Q:=by
 unfold PM tK;have hb (h:¬StP p s):A5 false (Q s) (Q zSt):=A8 rfl (by unfold EN at D; rwa [if_neg h] at D);refine WW (BT (λh=>hb λd=>h d.1) (λh=>?_));have hr:=BO h;refine A0 (λh1=>hb λd=>by have:=d.2.1; omega) (λh1=>A0 (λW=>hb λd=>by have:=d.2.2.1; omega) (λW=>A0 (λU=>hb λd=>by have:=d.2.2.2.1; omega) (λU=>?_)));rw[A6 (x:=s.High - s.Low) (by omega) (by omega)];refine B5 (λZ=>B5 (λV=>?_) (λV=>hb λd=>by have:=d.2.2.2.2.2.1; unfold GZ at this; omega)) (λZ=>hb λd=>by have:=d.2.2.2.2.1; unfold GZ at this; omega);refine bX O.1 O.2 (A0 (λJ=>?_) (λJ=>?_))
 . unfold EN at D
   rwa [if_pos ⟨h,by omega,by omega,by omega,by unfold GZ; omega,by unfold GZ; omega,J⟩] at D
 . have:¬StP p s:=λd=>J d.2.2.2.2.2.2;unfold EN at D
   rwa [if_neg this] at D
def QI (n:Nat) (f:Nat->β):List β:=(List.range n).map f
def MW (n:Nat) (f:Nat->Bool):List Int:=((List.range n).filter f).map λi:Nat=>(i:Int)
theorem eP (n:Nat) (f:Nat->β):QI (n+1) f=QI n f++[f n]:=by simp[QI,aF]
theorem HV (n:Nat) (f:Nat->β):(QI n f).length=n:=by simp[QI]
theorem Y1 (n:Nat) (f:Nat->Bool):MW (n+1) f=if f n then MW n f++[(n:Int)] else MW n f:=by unfold MW;rw[aF,fA,gW];grind
theorem UM (n:Nat) (f:Nat->Bool):(MW n f).length<=n:=by grind[MW]
theorem eQ {n:Nat} {f:Nat->Bool} {x:Int} (h:x∈MW n f):0<=x∧x<n:=by obtain⟨_,_,rfl⟩:=List.mem_map.1 h;grind
theorem SY {n:Nat} {f:Nat->Int} {i:Nat} (h:i<n):AY (QI n f) i=f i:=by unfold AY QI;grind
theorem vA {n:Nat} {f g:Nat->β} (h:∀ i,i<n->f i=g i):QI n f=QI n g:=AaI λi hi=>h i (List.mem_range.1 hi)
theorem AhJ {n:Nat} {f g:Nat->Bool} (h:∀ i,i<n->f i=g i):MW n f=MW n g:=by unfold MW; rw[List.filter_congr λi hi=>h i (List.mem_range.1 hi)]
def chS (low high:Int) (n:Nat) (g:Nat->Int×Int×Bool):State:=⟨low,high,QI n λi=>(g i).1,QI n λi=>(g i).2.1,qJ n (MW n λi=>(g i).2.2)⟩
theorem mH {n:Nat} (hn:n<=4096) {F:Int->((Int×Int×Bool)->Prop)->Prop} {g:Nat->Int×Int×Bool} (W:∀ (i:Nat) K,i<n->K (g i)->F i K) {low high:Int} {Q:State->Prop} (Z:Q (chS low high n g)) :
   B4 (λ(s:(List Int)×(List Int)×(List Int)×Int) (D:((List Int)×(List Int)×(List Int)×Int)->Prop)=>match s with | (s145,s149,s153,s157)=>A5 (decide (s157<(n:Int))) (F s157 λd=>DW 8 s145 ([d.1]) λ_=>DW 8 s149 ([d.2.1]) λ_=>A5 d.2.2 (DW 8 s153 ([s157]) λ_=>D ((s145++([d.1])),(s149++([d.2.1])),(s153++([s157])),A4 (s157+1))) (D ((s145++([d.1])),(s149++([d.2.1])),s153,A4 (s157+1)))) (MQ (n:Int) s153 λO=>Q ({ Low:=low,High:=high,A:=s145,B:=s149,On:=O }:State))) (([]:List Int),([]:List Int),([]:List Int),0):=by
 refine A9 (λ(s:List Int×List Int×List Int) i=>(s.1,s.2.1,s.2.2,i)) 0 n (by omega) (λi s=>s=(QI i λi=>(g i).1,QI i λi=>(g i).2.1,MW i λi=>(g i).2.2)) (by omega) rfl (λi s next _ hi V J=>?_) (λs next V=>?_) (s0:=([],[],[]))
 . subst V;have U:=UM i λi=>(g i).2.2;refine A0 (λ_=>W i _ hi (AL (by simp[QI]; omega) (AL (by simp[QI]; omega) ?_))) (λh=>by omega);have hs:=Y1 i λi=>(g i).2.2
   cases hb:(g i).2.2 with
   | true=>
    refine B2 rfl (AL (by simp; omega) (J (_,_,_) ?_));grind[eP]
   | false=>
    refine A8 rfl (J (_,_,_) ?_);grind[eP]
 . subst V;refine A0 (λh=>by omega) (λ_=>?_);have U:=UM n λi=>(g i).2.2;exact W5 (by simp only; omega) (λ_ hx=>by have:=eQ hx; unfold EC; omega) Z
def AtB:Int:=4611686018427387904
def WX (p:Plan) (v:Int):Int×Bool:=
 if p.Kind=3 then (v,true) else if p.Kind=5 then (0,false) else if p.Kind=4∧v=p.Source then (1,true) else if v=p.Source then (0,true) else if p.Kind=4 then (0,false) else if p.Kind=1 then (-1,false) else (AtB,false)
theorem xG {p:Plan} {v:Int} {Q:Int×Bool->Prop} (d:Q (WX p v)):U3 p v Q:=by
 unfold U3 EP;unfold WX at d;refine B5 (λh=>by rwa [if_pos h] at d) (λV=>B5 (λh=>by rwa [if_neg V,if_pos h] at d) (λW=>?_));rw[if_neg V,if_neg W] at d
 have hk (h:¬(p.Kind=4∧v=p.Source)):A5 false (Q (1,true)) (A5 (v==p.Source) (A5 true (Q (0,true)) (A5 (p.Kind==1) (Q (-1,false)) (Q (4611686018427387904,false)))) (A5 (p.Kind==4) (Q (0,false)) (A5 (p.Kind==1) (Q (-1,false)) (Q (4611686018427387904,false))))):=by rw[if_neg h] at d;refine A8 rfl (B5 (λU=>B2 rfl (by rwa [if_pos U] at d)) (λU=>?_));rw[if_neg U] at d;refine B5 (λJ=>by rwa [if_pos J] at d) (λJ=>?_);rw[if_neg J] at d;exact B5 (λD=>by rwa [if_pos D] at d) (λD=>by rwa [if_neg D] at d)
 refine B5 (λO=>?_) (λO=>hk λh=>O h.1);by_cases hs:v=p.Source
 . rw[if_pos ⟨O,hs⟩] at d;exact B2 (by simpa using hs) d
 grind
def P0 (p:Plan) (low high:Int):State:=
 if CD p=0∧0<=low∧low<=high∧high<=p.N then chS low high (high - low).toNat λi=>((WX p (low+i)).1,-1,(WX p (low+i)).2) else zSt
theorem xH {p:Plan} {low high:Int} {Q:State->Prop} (d:Q (P0 p low high)):YT p low high Q:=by
 unfold YT;unfold P0 at d;have hb (h:¬(CD p=0∧0<=low∧low<=high∧high<=p.N)):Q zSt:=by grind
 refine WW (BT (λh=>hb λU=>h U.1) (λh=>A0 (λJ=>hb (by omega)) (λJ=>A0 (λW=>hb (by omega)) (λW=>A0 (λV=>hb (by omega)) (λV=>?_)))));rw[if_pos ⟨h,by omega,by omega,by omega⟩] at d;have Z:=BO h;have e:A4 (high - low)=((high - low).toNat:Int):=by rw[A6 (by omega) (by omega)]; omega
 unfold PY PX;rw[e];refine mH (F:=λa0 K=>U3 p (A4 (low+a0)) λD=>K (D.1,(-1),D.2)) (by omega) (λi K _ O=>?_) d;rw[A6 (x:=low+(i:Int)) (by omega) (by omega)];exact xG O
theorem AqA:iR zSt:=⟨(by intro x d; cases d),by decide⟩
theorem vB (p:Plan) (s:State):(StP p s∧EN p s=s)∨EN p s=zSt:=by
 by_cases h:StP p s
 . exact .inl ⟨h,if_pos h⟩
 . exact .inr (if_neg h)
structure StR (p:Plan) (s:State):Prop where
 pl:GZ s≠0→CD p=0
 lo:0≤s.Low
 le:s.Low≤s.High
 hi:s.High≤4096
 hn:GZ s≠0→s.High≤p.N
 al:s.A.length=GZ s
 bl:s.B.length=GZ s
 ok:qH s.On
 ol:s.On.length≤1000000
theorem mI {p:Plan} {s:State} (d:iR s):StR p (EN p s):=by
 rcases vB p s with⟨h,e⟩ | e
 . rw[e];have⟨D,V,O,W,U,J,_⟩:=h;have:=(BO D).2.1;exact⟨λ_=>D,V,O,by omega,λ_=>W,U,J,d.1,d.2⟩
 . rw[e]; exact⟨λh=>absurd rfl h,by decide,by decide,by decide,λh=>absurd rfl h,rfl,rfl,AqA.1,AqA.2⟩
theorem StR.siz {p:Plan} {s:State} (h:StR p s):(GZ s:Int)=s.High - s.Low∧GZ s<=4096:=by have:=h.lo; have:=h.le; have:=h.hi; unfold GZ; omega
theorem StR.w {p:Plan} {s:State} (h:StR p s):A4 (s.High - s.Low)=(GZ s:Int):=by have:=h.siz; rw[A6 (by omega) (by omega)]; omega
def iS (p:Plan) (round v:Int):Int:=Am5 p ((round - 1) / 2) v
def iT (p:Plan) (s:State) (round:Int) (i:Nat):Int×Bool:=
 if p.Kind=1 then (s.Low+i,G2 s.On i) else if p.Kind=5 then (if round % 2=0 then (1,G2 s.On i) else (iS p round (s.Low+i),AY s.A i==0)) else (AY s.A i,G2 s.On i)
theorem xI {p:Plan} {s:State} {round:Int} {i:Nat} {Q:Int×Bool->Prop} (h:StR p s) (hi:i<GZ s) (W:0<=round∧round<=1000000) (d:Q (iT p s round i)):U1 p s round i Q:=by
 unfold U1;unfold iT at d;have Z:=h.siz;have V:=h.lo;have U:=h.al;have e:A4 (s.Low+(i:Int))=s.Low+i:=A6 (by omega) (by have:=h.hi; omega);refine M5 h.ok (by unfold EC; omega) ?_;rw[e,AbU];refine B5 (λO=>by rwa [if_pos O] at d) (λO=>?_);rw[if_neg O] at d;refine B5 (λD=>?_) (λD=>?_)
 . rw[if_pos D] at d;refine B5 (λJ=>by rwa [if_pos J] at d) (λJ=>?_);rw[if_neg J] at d;refine AX (by omega) (by omega) ?_;have hp:=BO (h.pl (by omega));unfold NU;rw[A6 (x:=round - 1) (by omega) (by omega),AuZ];exact cF hp.2.1 hp.2.2.2.2.2 d
 . rw[if_neg D] at d;exact AX (by omega) (by omega) d
def L1 (n:Nat) (f:Nat->Int×Bool):List B9:=(List.range n).filterMap λi=>if (f i).2 then some ⟨i,(f i).1⟩ else none
theorem QJ (n:Nat) (f:Nat->Int×Bool):L1 (n+1) f=if (f n).2 then L1 n f++[⟨n,(f n).1⟩] else L1 n f:=by unfold L1;rw[aF,As0];grind
theorem mJ (n:Nat) (f:Nat->Int×Bool):(L1 n f).length<=n:=by grind[L1]
def ZZ (p:Plan) (s:State) (round:Int):Vec:=⟨(EN p s).High - (EN p s).Low,L1 (GZ (EN p s)) (iT p (EN p s) round)⟩
theorem AqB {n:Nat} (hn:n<=4096) {F:Int->((Int×Bool)->Prop)->Prop} {g:Nat->Int×Bool} (W:∀ (i:Nat) K,i<n->K (g i)->F i K) {Q:Vec->Prop} (Z:Q ⟨n,L1 n g⟩) :
   B4 (λ(s:(List B9)×Int) (d:((List B9)×Int)->Prop)=>match s with | (s116,s120)=>A5 (decide (s120<(n:Int))) (F s120 λD=>A5 D.2 (DW 16 s116 ([({ At:=s120,Val:=D.1 }:B9)]) λ_=>d ((s116++([({ At:=s120,Val:=D.1 }:B9)])),A4 (s120+1))) (d (s116,A4 (s120+1)))) (Q ({ N:=(n:Int),Items:=s116 }:Vec))) (([]:List B9),0):=by
 refine A9 (λ(s:List B9) i=>(s,i)) 0 n (by omega) (λi s=>s=L1 i g) (by omega) rfl (λi s next _ hi O J=>?_) (λs next O=>?_)
 . subst O;have V:=mJ i g;have U:=QJ i g;refine A0 (λ_=>W i _ hi ?_) (λa2=>by omega)
   cases h:(g i).2 with
   | true=>exact B2 rfl (AL (by simp; omega) (J _ (by rw[U,h]; rfl)))
   | false=>exact A8 rfl (J _ (by rw[U,h]; rfl))
 . subst O;exact A0 (λa2=>by omega) (λ_=>Z)
theorem AeN {p:Plan} {s:State} {round:Int} {Q:Vec->Prop} (D:iR s) (O:0<=round∧round<=1000000) (d:Q (ZZ p s round)):kR p s round Q:=by unfold kR;refine SX D ?_;have h:=mI (p:=p) D;unfold ZZ at d;rw[<-h.siz.1] at d;rw[h.w];exact AqB (F:=λi K=>U1 p (EN p s) round i K) h.siz.2 (λi K hi J=>xI h hi O J) d
def AhK (p:Plan) (s:State) (round:Int) (i:Nat) (o:Option Int):Int×Int×Bool:=
 let a:=AY s.A i; let b:=AY s.B i; let v:=(MU o).1; let d:=(MU o).2
 if p.Kind=1 then (if d=true∧a = -1 then (round,v,true) else (a,b,false))
 else if p.Kind=2∨p.Kind=3 then (if d=true∧v<a then (v,b,true) else (a,b,false))
 else if p.Kind=4 then (v,b,v != 0)
 else if a≠0 then (a,b,false)
 else if round % 2=0 then (if d=true then (2,b,false) else (a,b,false))
 else if d=false∨iS p round (s.Low+i)<v then (1,b,true) else (a,b,false)
theorem vC {p:Plan} {s:State} {round:Int} {i:Nat} {o:Option Int} {Q:Int×Int×Bool->Prop} (h:StR p s) (hi:i<GZ s) (hr:0<=round∧round<=1000000) (d:Q (AhK p s round i o)) :
   RM p s round i (MU o).1 (MU o).2 Q:=by
 unfold RM EP;unfold AhK at d;have hs:=h.siz;have hl:=h.lo;have a2:=h.al;have a3:=h.bl;have e:A4 (s.Low+(i:Int))=s.Low+i:=A6 (by omega) (by have:=h.hi; omega);have hp:=BO (h.pl (by omega));refine AX (by omega) (by omega) (AX (by omega) (by omega) ?_)
 have hd:∀ K:Int->Prop,K (iS p round (s.Low+i))->NU round λO=>JE p O (A4 (s.Low+(i:Int))) K:=λK hK=>by unfold NU;rw[e,A6 (x:=round - 1) (by omega) (by omega),AuZ];exact cF hp.2.1 hp.2.2.2.2.2 hK
 rw[AbU];generalize AY s.A i=a at d ⊢;generalize AY s.B i=b at d ⊢;generalize (MU o).1=v at d ⊢;generalize (MU o).2=D at d ⊢;simp only at d;refine B5 (λh1=>?_) (λh1=>?_)
 . rw[if_pos h1] at d
   cases D with
   | true=>exact B2 rfl (B5 (λJ=>by rwa [if_pos ⟨rfl,J⟩] at d) (λJ=>by rwa [if_neg λh=>J h.2] at d))
   | false=>exact A8 rfl (by rwa [if_neg λh=>by cases h.1] at d)
 rw[if_neg h1] at d
 have h23 (hk:p.Kind=2∨p.Kind=3):A5 D (A5 (decide (v<a)) (Q (v,b,true)) (Q (a,b,false))) (Q (a,b,false)):=by
   rw[if_pos hk] at d
   cases D with
   | true=>exact B2 rfl (A0 (λJ=>by rwa [if_pos ⟨rfl,J⟩] at d) (λJ=>by rwa [if_neg λh=>J h.2] at d))
   | false=>exact A8 rfl (by rwa [if_neg λh=>by cases h.1] at d)
 have hrest (V:¬(p.Kind=2∨p.Kind=3)):A5 (p.Kind==4) (Q (v,b,v != 0)) (A5 (p.Kind==5) (A5 (a != 0) (Q (a,b,false)) (A5 (round % 2==0) (A5 D (Q (2,b,false)) (A5 (round % 2==1) (A5 (!D) (Q (1,b,true)) (NU round λO=>JE p O (A4 (s.Low+(i:Int))) λU=>A5 (decide (U<v)) (Q (1,b,true)) (Q (a,b,false)))) (Q (a,b,false)))) (A5 false (Q (2,b,false)) (A5 (round % 2==1) (A5 (!D) (Q (1,b,true)) (NU round λO=>JE p O (A4 (s.Low+(i:Int))) λU=>A5 (decide (U<v)) (Q (1,b,true)) (Q (a,b,false)))) (Q (a,b,false)))))) (Q (a,b,false))):=by
   rw[if_neg V] at d;refine B5 (λW=>by rwa [if_pos W] at d) (λW=>?_);rw[if_neg W] at d;refine B5 (λh5=>?_) (λh5=>absurd hp.1 (by omega));refine BT (λJ=>by rwa [if_pos J] at d) (λJ=>?_);rw[if_neg (λh'=>h' J)] at d;refine B5 (λh6=>?_) (λh6=>?_)
   . rw[if_pos h6] at d
     cases D with
     | true=>exact B2 rfl (by rwa [if_pos rfl] at d)
     | false=>exact A8 rfl (B5 (λh7=>by omega) (λh7=>by rwa [if_neg (by simp)] at d))
   . rw[if_neg h6] at d;refine A8 rfl (B5 (λh7=>?_) (λh7=>by omega))
     cases D with
     | false=>exact B2 rfl (by rwa [if_pos (.inl rfl)] at d)
     | true=>exact A8 rfl (hd _ (A0 (λZ=>by rwa [if_pos (.inr Z)] at d) (λZ=>by rwa [if_neg (by simp[Z])] at d)))
 refine B5 (λV=>?_) (λV=>?_)
 . have hb:(p.Kind==2)=true:=by grind
   rw[hb]; exact B2 rfl (h23 (.inl V))
 . refine B5 (λh3=>?_) (λh3=>?_)
   all_goals grind
def Aw0 (p:Plan) (s:State) (round:Int) (y:Vec) (i:Nat):Int×Int×Bool:=AhK p s round i (GI y.Items i)
def iU (p:Plan) (s:State) (round:Int) (y:Vec):State:=
 if VecP y∧y.N=(EN p s).High - (EN p s).Low then chS (EN p s).Low (EN p s).High (GZ (EN p s)) (Aw0 p (EN p s) round y) else EN p s
theorem KC {xs:List Int} {Q:List Int->Prop} (D:xs.length<=1000000) (d:Q xs):AU xs Q:=by unfold AU;exact L7 (λh=>by rwa [h] at d) (AL (by simp; omega) d)
theorem iV {xs:List Int} {Q:List Int->Prop} (D:xs.length<=1000000) (d:Q xs):C0 xs Q:=by unfold C0;exact L7 (λh=>by rwa [h] at d) (AL (by simp; omega) d)
theorem vD {p:Plan} {s:State} {round:Int} {y:Vec} {Q:State->Prop} (W:iR s) (hr:0<=round∧round<=1000000) (hy:y.Items.length<=1000000) (D:Q (iU p s round y)):W0 p s round y Q:=by
 unfold W0;refine SX W ?_;have h:=mI (p:=p) W;unfold iU at D;generalize EN p s=u at h D ⊢;have hs:=h.siz;have a5:=h.al;have a6:=h.bl;rw[h.w]
 have hcl (Z:¬(VecP y∧y.N=u.High - u.Low)):AU u.A λa4=>AU u.B λa2=>C0 u.On λO=>Q ({ Low:=u.Low,High:=u.High,A:=a4,B:=a2,On:=O }:State):=by rw[if_neg Z] at D;exact KC (by omega) (KC (by omega) (iV h.ol D))
 have hch (Z:VecP y∧y.N=u.High - u.Low):M1 y p u round u (GZ u:Int) λa3=>Q a3:=by rw[if_pos Z] at D;unfold M1 OO;refine mH (F:=λa0 K=>XK y a0 λJ=>RM p u round a0 J.1 J.2 λd=>K (d.1,d.2.1,d.2.2)) hs.2 (λ_ K hi hK=>?_) D;refine AbV (by omega) ?_;rw[IW Z.1];exact vC h hi hr hK
 unfold EP;refine F4 (by omega) ?_;by_cases hv:VecP y
 . rw[decide_eq_true hv];refine A8 rfl (BT (λV=>hcl λU=>V (by rw[U.2]; omega)) (λV=>hch ⟨hv,by omega⟩))
 . rw[decide_eq_false hv];exact B2 rfl (B2 rfl (hcl λU=>hv U.1))
def AqC (s:State):Prop:=s.A.length<=1000000∧s.B.length<=1000000∧s.On.length<=1000000
def EH (n:Nat) (f:Nat->Bool):Nat:=(List.range n).countP f
theorem IY (n:Nat) (f:Nat->Bool):EH (n+1) f=EH n f+if f n then 1 else 0:=by unfold EH; rw[aF,List.countP_append]; simp[List.countP_cons]
theorem mK (n:Nat) (f:Nat->Bool):EH n f<=n:=by unfold EH; exact gZ List.countP_le_length (by simp)
theorem UN {n:Nat} {f g:Nat->Bool} (h:∀ i,i<n->f i=g i):EH n f=EH n g:=by
 induction n with
 | zero=>rfl
 | succ n d=>rw[IY,IY,d λi _=>h i (by omega),h n (by omega)]
theorem vE (a b:Nat) (f:Nat->Bool):EH (a+b) f=EH a f+EH b λj=>f (a+j):=by
 induction b with
 | zero=>rfl
 | succ b d=>rw[<-yH,IY,d,IY]; omega
theorem Aa4 {n:Nat} {f:Nat->Bool} (h:∀ i,i<n->f i=false):EH n f=0:=by
 induction n with
 | zero=>rfl
 | succ n d=>rw[IY,d λi _=>h i (by omega),h n (by omega)]; rfl
def pcf:Nat->Nat->Nat
 | 0,_=>0
 | k+1,n=>n % 2+pcf k (n / 2)
theorem AtC {k:Nat}:∀ {n:Nat},0<n->n<2 ^ k->pcf k (n &&& (n - 1))+1=pcf k n:=by
 induction k with
 | zero=>intro n U h; simp at h; omega
 | succ k O=>
  intro n U h;have J:(n &&& (n - 1)) / 2=n / 2 &&& (n - 1) / 2:=Nat.and_div_two;have D:(n &&& (n - 1)) % 2=(n % 2) &&& ((n - 1) % 2):=by have:=Nat.and_mod_two_pow (a:=n) (b:=n - 1) (n:=1); simpa using this
  rw[Nat.pow_succ] at h;simp only[pcf,J,D];rcases Nat.mod_two_eq_zero_or_one n with e | e
  . have d:(n - 1) / 2=n / 2 - 1:=by omega
    rw[d,e];have:=O (n:=n / 2) (by omega) (by omega);simp only[Nat.zero_and];omega
  . have d:(n - 1) / 2=n / 2:=by omega
    have V:(n - 1) % 2=0:=by omega
    rw[d,e,V,Nat.and_self];simp only[Nat.and_zero];omega
theorem AqD (k:Nat):pcf k 0=0:=by induction k with
 | zero=>rfl
 | succ k d=>simp[pcf,d]
theorem AbW (k:Nat):∀ n:Nat,pcf k n=EH k λj=>n.testBit j:=by
 induction k with
 | zero=>intro n; rfl
 | succ k d=>
  intro n;rw[yI k 1,vE,yI 1 k,pcf,d];congr 1
  . rw[show EH 1 (λj=>n.testBit j)=EH (0+1) (λj=>n.testBit j) from rfl,IY];simp only[EH,List.range_zero,List.countP_nil,aT,Nat.testBit_zero,decide_eq_true_eq];split <;> omega
  . exact UN λj _=>by rw[yI 1 j,Nat.testBit_succ]
theorem Aw1 {x y:Nat} (d:x<18446744073709551616) (D:y<18446744073709551616):TI .u64 (x:Int) (y:Int)=((x &&& y:Nat):Int):=by
 have h:(BitVec.ofInt 64 (x:Int) &&& BitVec.ofInt 64 (y:Int)).toNat=x &&& y:=by
  rw[BitVec.toNat_and,BitVec.toNat_ofInt,BitVec.toNat_ofInt];have hp:((2 ^ 64:Nat):Int)=18446744073709551616:=by decide
  rw[hp,show((x:Int) % 18446744073709551616).toNat=x by omega,show((y:Int) % 18446744073709551616).toNat=y by omega]
 unfold TI;rw[show IntKind.u64.bits=64 from rfl,h];have:=Nat.and_le_left (n:=x) (m:=y);exact NQ (by omega) (by omega)
theorem xJ {w:Nat} {Q:Int->Prop} (W:w<18446744073709551616) (J:Q (pcf 64 w:Nat)):YL (w:Int) Q:=by
 unfold YL;refine BV (λs:Int×Int=>∃ m c:Nat,s=((m:Int),(c:Int))∧m<=w∧c+pcf 64 m=pcf 64 w) (λs=>s.1.toNat) ⟨w,0,rfl,YG _,by omega⟩ ?_;rintro _ next ⟨m,c,rfl,_,U⟩ hn;have V:pcf 64 w<=64:=by rw[AbW]; exact mK _ _
 refine B5 (λh=>?_) (λh=>?_)
 . have:m=0:=by omega
   subst this;rw[AqD] at U;rw[show c=pcf 64 w by omega]; exact J
 . have O:0<m:=by omega
   have e:IntKind.wrap .u64 ((m:Int) - 1)=((m - 1:Nat):Int):=by rw[NQ (by omega) (by omega)]; omega
   have d:=AtC (k:=64) O (by omega);rw[e,Aw1 (by omega) (by omega),A6 (by omega) (by omega)];have D:=Nat.and_le_right (n:=m) (m:=m - 1);exact hn _ ⟨m &&& (m - 1),c+1,by rw[show((c+1:Nat):Int)=(c:Int)+1 by omega],by omega,by omega⟩ (by simp only[VK]; omega)
theorem AqE {f:List Int} {k j:Nat} (D:j<64):G2 f ((64*k+j:Nat):Int)=(AY f k).toNat.testBit j:=by
 unfold G2;have d:(((64*k+j:Nat):Int) / 64)=(k:Int):=by omega
 have h:(((64*k+j:Nat):Int) % 64).toNat=j:=by omega
 rw[d,h];simp;intro _; omega
def Aw2 (f:List Int):Nat:=EH (64*f.length) λi=>G2 f i
theorem cI {f:List Int} {Q:Int->Prop} (W:qH f) (hl:f.length<=1000000) (U:Q (Aw2 f:Nat)):RH f Q:=by
 unfold RH;refine A9 (λ(s:Int) i=>(s,i)) 0 f.length (by omega) (λk s=>s=(EH (64*k) λi=>G2 f i:Nat)) (by omega) rfl (λk s next _ _ D d=>?_) (λs next D=>?_)
 . subst D;refine A0 (λ_=>AX (by omega) (by omega) ?_) (λh=>by omega);have Z:=bS W k;obtain⟨w,J⟩:∃ w:Nat,AY f k=(w:Int):=⟨(AY f k).toNat,by omega⟩;rw[J];refine xJ (by omega) (d _ ?_);have hc:=mK (64*k) λi=>G2 f i
   have hp:pcf 64 w=EH 64 λj=>G2 f ((64*k+j:Nat):Int):=by rw[AbW];exact UN λj O=>by rw[AqE O,J]; rfl
   have V:pcf 64 w<=64:=by rw[AbW]; exact mK _ _
   rw[A6 (by omega) (by omega),Nat.mul_succ,vE,<-hp]; omega
 . subst D;exact A0 (λh=>by omega) (λ_=>U)
end
section
variable {limit:Int}
theorem Am9 {n m:Nat} {f:Nat->Bool} (h:n<=m) (d:∀ i,n<=i->i<m->f i=false):EH m f=EH n f:=by obtain⟨k,rfl⟩:∃ k,m=n+k:=⟨m - n,by omega⟩;rw[vE,Aa4 (λi _=>d (n+i) (by omega) (by omega)),YH]
def Ay2 (s:State):Prop:=(∀ i,G2 s.On i=true->i<(GZ s:Int))∧GZ s<=64*s.On.length
theorem AmA {p:Plan} {s:State}:Ay2 (EN p s):=by
 rcases vB p s with⟨h,e⟩ | e
 . rw[e];have⟨J,_,_,_,_,_,_,d,D⟩:=h;have O:=(BO J).2.1;refine⟨λi hi=>?_,?_⟩
   . have:=D i (TC.2 hi); unfold GZ; omega
   . rw[d]; unfold GZ KL; omega
 . rw[e]; exact⟨λi hi=>by have:=AjN hi; simp[zSt] at this; omega,by decide⟩
theorem AqF {s:State} (h:Ay2 s):Aw2 s.On=EH (GZ s) λi=>G2 s.On i:=
 Am9 h.2 λi _ _=>by
  cases d:G2 s.On i with
  | false=>rfl
  | true=>have:=h.1 i d; omega
def qU (p:Plan) (s:State) (i:Nat):Bool:=if p.Kind=5 then AY s.A i==0 else G2 s.On i
def AqG (p:Plan) (s:State):Nat:=EH (GZ s) (qU p s)
def P1 (p:Plan) (s:State) (round:Int):Int:=if p.Kind=4∧p.Length<=round then 0 else (AqG p (EN p s):Nat)
theorem AbX {p:Plan} {s:State} {round:Int} {Q:Int->Prop} (ho:iR s) (d:Q (P1 p s round)):dQ p s round Q:=by
 unfold dQ;refine SX ho ?_;have h:=mI (p:=p) ho;have J:=AmA (p:=p) (s:=s);unfold P1 at d;generalize EN p s=u at h J d ⊢;have hs:=h.siz;have a3:=h.al;have D:=h.ol
 have hc (U:p.Kind≠5):AqG p u=Aw2 u.On:=by rw[AqF J];exact UN λi hi=>if_neg U
 refine B5 (λZ=>A0 (λW=>by rwa [if_pos ⟨Z,W⟩] at d) (λW=>?_)) (λZ=>?_)
 . rw[if_neg (λh=>W h.2),hc (by omega)] at d;exact cI h.ok D d
 rw[if_neg (λh=>Z h.1)] at d;refine B5 (λU=>?_) (λU=>by rw[hc U] at d; exact cI h.ok D d);rw[a3];refine A9 (λ(s:Int) i=>(s,i)) 0 (GZ u) (by omega) (λi s=>s=(EH i (qU p u):Nat)) (by omega) rfl (λi s next _ hi V O=>?_) (λs next V=>?_)
 . subst V;have a4:=mK i (qU p u);have a2:=IY i (qU p u);refine A0 (λ_=>AX (by omega) (by omega) ?_) (λh=>by omega);refine B5 (λha=>O _ ?_) (λha=>O _ ?_)
   . rw[A6 (by omega) (by omega),a2,if_pos (by unfold qU; rw[if_pos U]; simpa using ha)]; omega
   all_goals grind[qU]
 . subst V;exact A0 (λh=>by omega) (λ_=>d)
def L3 (p:Plan) (s:State):List Int×Bool:=
 if p.Kind=1 then (qJ (GZ s) (MW (GZ s) λi=>AY s.A i == -1),false) else if p.Kind=5 then (qJ (GZ s) (MW (GZ s) λi=>AY s.A i==0),false) else ([],true)
theorem xK {p:Plan} {s:State} {round:Int} {Q:List Int×Bool->Prop} (W:iR s) (J:Q (L3 p (EN p s))):YR p s round Q:=by
 unfold YR;refine SX W ?_;have h:=mI (p:=p) W;unfold L3 at J;generalize EN p s=u at h J ⊢;have hs:=h.siz;have a5:=h.al
 have hk (d:Int) (hq:Q (qJ (GZ u) (MW (GZ u) λi=>AY u.A i==d),false)):B4 (λ(s:(List Int)×Int) (D:((List Int)×Int)->Prop)=>match s with | (s249,s253)=>A5 (decide (s253<(u.A.length:Int))) (AR u.A s253 λa3=>A5 (a3==d) (DW 8 s249 ([s253]) λ_=>D ((s249++([s253])),A4 (s253+1))) (D (s249,A4 (s253+1)))) (MQ (A4 (u.High - u.Low)) s249 λa2=>Q (a2,false))) (([]:List Int),0):=by
  rw[h.w,a5];refine A9 (λ(s:List Int) i=>(s,i)) 0 (GZ u) (by omega) (λi s=>s=MW i λi=>AY u.A i==d) (by omega) rfl (λi s next _ _ Z U=>?_) (λs next Z=>?_)
  . subst Z;have a4:=UM i λi=>AY u.A i==d;have a6:=Y1 i λi=>AY u.A i==d;refine A0 (λ_=>AX (by omega) (by omega) ?_) (λh=>by omega);refine B5 (λha=>AL (by simp; omega) (U _ ?_)) (λha=>U _ ?_)
    all_goals grind
  . subst Z;have a4:=UM (GZ u) λi=>AY u.A i==d;exact A0 (λh=>by omega) (λ_=>W5 (by omega) (λ_ hx=>by have:=eQ hx; unfold EC; omega) hq)
 unfold EP;refine B5 (λO=>hk _ (by rwa [if_pos O] at J)) (λO=>?_);rw[if_neg O] at J;exact B5 (λV=>hk _ (by rwa [if_pos V] at J)) (λV=>by rwa [if_neg V] at J)
theorem AhL (low high:Int) (n:Nat) (g:Nat->Int×Int×Bool):iR (chS low high n g):=by have h:=IV n (MW n λi=>(g i).2.2);exact⟨h.1,by show(qJ _ _).length<=_; rw[h.2.1]; have:=bT (n:Int); omega⟩
theorem AbY {p:Plan} {low high:Int} {g:Nat->Int×Int×Bool} (hp:CD p=0) (D:0<=low) (h:low<=high) (d:high<=p.N):StP p (chS low high (high - low).toNat g):=by have J:=(BO hp).2.1;refine⟨hp,D,h,d,by simp[chS,HV,GZ],by simp[chS,HV,GZ],?_⟩;have:=zG (n:=((high - low).toNat:Int)) ⟨by omega,by omega⟩ (MW (high - low).toNat λi=>(g i).2.2);rw[show(((high - low).toNat:Nat):Int)=high - low by omega] at this;unfold chS;grind
theorem AqH {p:Plan} {low high:Int} (hp:CD p=0) (d:0<=low) (h:low<=high) (D:high<=p.N):StP p (P0 p low high)∧iR (P0 p low high):=by unfold P0;grind[AbY,AhL]
theorem Aw3 {p:Plan} {s:State} {round:Int} {y:Vec} (h:StP p s) (d:iR s):StP p (iU p s round y)∧iR (iU p s round y)∧(iU p s round y).Low=s.Low∧(iU p s round y).High=s.High:=by
 have e:EN p s=s:=if_pos h;unfold iU;rw[e];split
 . exact⟨AbY h.1 h.2.1 h.2.2.1 h.2.2.2.1,AhL _ _ _ _,rfl,rfl⟩
 all_goals grind
theorem AqI {p:Plan} {s:State} (h:StP p s) (d:iR s):AqC s:=by have D:=(BO h.1).2.1;have:=h.2.2.2.2.1; have:=h.2.2.2.2.2.1; have:=h.2.1; have:=h.2.2.1; have:=h.2.2.2.1;unfold GZ at *;exact⟨by omega,by omega,d.2⟩
theorem Aw4 (x:Int) {m:Nat} (d:m<9223372036854775808):0<=TI .i64 x m∧TI .i64 x m<=m:=by
 have h:(BitVec.ofInt 64 x &&& BitVec.ofInt 64 (m:Int)).toNat<=m:=by
  rw[BitVec.toNat_and,BitVec.toNat_ofInt (n:=64) (i:=(m:Int))];have hp:((2 ^ 64:Nat):Int)=18446744073709551616:=by decide
  rw[hp,show((m:Int) % 18446744073709551616).toNat=m by omega];exact Nat.and_le_right
 unfold TI;rw[show IntKind.i64.bits=64 from rfl];generalize (BitVec.ofInt 64 x &&& BitVec.ofInt 64 (m:Int)).toNat=k at h;have e:IntKind.i64.wrap (k:Int)=k:=A6 (by omega) (by omega);rw[e]; omega
theorem eS {k n:Int} {Q:Int->Prop} (J:n<1->Q 0) (d:1<=n->∀ r,0<=r->r<n->Q r):FM k n Q:=by unfold FM;refine A0 (λh=>J h) (λh=>A0 (λD=>d (by omega) 0 (by omega) (by omega)) (λD=>⟨by omega,?_⟩));rw[ArV (by omega)];exact d (by omega) _ (AiJ _ (by omega)) (AiD _ (by omega))
abbrev GV:=Nat->Int×Int×Bool
def CU (l n:Nat) (G:GV):State:=chS (l:Int) ((l+n:Nat):Int) n λi=>G (l+i)
theorem sH {p:Plan} {l n:Nat} {G:GV} (hp:CD p=0) (h:((l+n:Nat):Int)<=p.N):StP p (CU l n G)∧iR (CU l n G)∧AqC (CU l n G):=by have d:=AbY (p:=p) (low:=(l:Int)) (high:=((l+n:Nat):Int)) (g:=λi=>G (l+i)) hp (by omega) (by omega) h;rw[show(((l+n:Nat):Int) - (l:Int)).toNat=n by omega] at d;have D:=AhL (l:Int) ((l+n:Nat):Int) n λi=>G (l+i);exact⟨d,D,AqI d D⟩
def gV0 (p:Plan):GV:=λv=>((WX p v).1,-1,(WX p v).2)
theorem Aa5 {p:Plan} {l n:Nat} {a b:Int} (hp:CD p=0) (D:a=l) (d:b=((l+n:Nat):Int)) (h:b<=p.N):P0 p a b=CU l n (gV0 p):=by subst D d;unfold P0 CU;grind[gV0]
def AbZ (p:Plan) (round:Int) (v:Nat) (g:Int×Int×Bool) (o:Option Int):Int×Int×Bool:=
 if p.Kind=1 then (if (MU o).2=true∧g.1 = -1 then (round,(MU o).1,true) else (g.1,g.2.1,false))
 else if p.Kind=2∨p.Kind=3 then (if (MU o).2=true∧(MU o).1<g.1 then ((MU o).1,g.2.1,true) else (g.1,g.2.1,false))
 else if p.Kind=4 then ((MU o).1,g.2.1,(MU o).1 != 0)
 else if g.1≠0 then (g.1,g.2.1,false)
 else if round % 2=0 then (if (MU o).2=true then (2,g.2.1,false) else (g.1,g.2.1,false))
 else if (MU o).2=false∨iS p round v<(MU o).1 then (1,g.2.1,true) else (g.1,g.2.1,false)
theorem AtD {p:Plan} {l n i:Nat} {G:GV} {round:Int} {o:Option Int} (hi:i<n):AhK p (CU l n G) round i o=AbZ p round (l+i) (G (l+i)) o:=by
 have d:AY (CU l n G).A i=(G (l+i)).1:=SY hi;have h:AY (CU l n G).B i=(G (l+i)).2.1:=SY hi;have D:(CU l n G).Low+(i:Int)=((l+i:Nat):Int):=by show(l:Int)+i=_; omega
 unfold AhK AbZ;grind
def HJ (p:Plan) (round:Int) (G:GV) (Y:Nat->Option Int):GV:=λv=>AbZ p round v (G v) (Y v)
theorem AmB {low high:Int} {n:Nat} {g d:Nat->Int×Int×Bool} (h:∀ i,i<n->g i=d i):chS low high n g=chS low high n d:=by unfold chS;rw[vA λi hi=>congrArg (·.1) (h i hi),vA λi hi=>congrArg (·.2.1) (h i hi),AhJ λi hi=>congrArg (·.2.2) (h i hi)]
theorem Ak8 {p:Plan} {l n:Nat} {G:GV} {round:Int} {y:Vec} {Y:Nat->Option Int} (hp:CD p=0) (h:((l+n:Nat):Int)<=p.N) (J:VecP y) (d:y.N=n) (V:∀ i,i<n->GI y.Items i=Y (l+i)) :
  iU p (CU l n G) round y=CU l n (HJ p round G Y):=by
 have O:EN p (CU l n G)=CU l n G:=if_pos (sH hp h).1;have e:(CU l n G).High - (CU l n G).Low=(n:Int):=by show((l+n:Nat):Int) - (l:Int)=n; omega
 have D:GZ (CU l n G)=n:=by unfold GZ; rw[e]; omega
 unfold iU;rw[O,if_pos ⟨J,by rw[d,e]⟩,D]
 have U:∀ i,i<n->Aw0 p (CU l n G) round y i=HJ p round G Y (l+i):=λi _=>by unfold Aw0 HJ;grind[AtD]
 show chS (l:Int) ((l+n:Nat):Int) n _=chS (l:Int) ((l+n:Nat):Int) n _;exact AmB U
theorem AeO {n i:Nat} {f:Nat->Bool}:(i:Int)∈MW n f↔i<n∧f i=true:=by unfold MW;grind
theorem oZ {n i:Nat} {f:Nat->Bool} (hi:i<n) (D:n<=4096):G2 (qJ n (MW n f)) i=f i:=by
 rw[(IV _ _).2.2]
 cases d:f i with
 | true=>exact decide_eq_true ⟨AeO.2 ⟨hi,d⟩,by omega,by omega,by omega⟩
 | false=>exact decide_eq_false λh=>by have:=(AeO.1 h.1).2; rw[d] at this; cases this
def HK (p:Plan) (round:Int) (v:Nat) (g:Int×Int×Bool):Int×Bool:=
 if p.Kind=1 then ((v:Int),g.2.2) else if p.Kind=5 then (if round % 2=0 then (1,g.2.2) else (iS p round v,g.1==0)) else (g.1,g.2.2)
theorem AhM {n:Nat} {f g:Nat->Int×Bool} (h:∀ i,i<n->f i=g i):L1 n f=L1 n g:=by
 induction n with
 | zero=>rfl
 | succ n d=>rw[QJ,QJ,d λi _=>h i (by omega),h n (by omega)]
theorem Ac0 {p:Plan} {l n:Nat} {G:GV} {round:Int} (hp:CD p=0) (h:((l+n:Nat):Int)<=p.N):ZZ p (CU l n G) round=⟨n,L1 n λi=>HK p round (l+i) (G (l+i))⟩:=by
 have d:EN p (CU l n G)=CU l n G:=if_pos (sH hp h).1;have V:=(BO hp).2.1;have e:(CU l n G).High - (CU l n G).Low=(n:Int):=by show((l+n:Nat):Int) - (l:Int)=n; omega
 have D:GZ (CU l n G)=n:=by unfold GZ; rw[e]; omega
 unfold ZZ;rw[d,e,D];congr 1;refine AhM λi hi=>?_;have J:AY (CU l n G).A i=(G (l+i)).1:=SY hi;have O:(CU l n G).Low+(i:Int)=((l+i:Nat):Int):=by show(l:Int)+i=_; omega
 have U:G2 (CU l n G).On i=(G (l+i)).2.2:=oZ hi (by omega);unfold iT HK;grind
theorem vF {p:Plan} {l n:Nat} {G:GV} {round:Int} (hp:CD p=0) (h:((l+n:Nat):Int)<=p.N) :
  P1 p (CU l n G) round=if p.Kind=4∧p.Length<=round then 0 else ((EH n λi=>if p.Kind=5 then (G (l+i)).1==0 else (G (l+i)).2.2:Nat):Int):=by
 have J:EN p (CU l n G)=CU l n G:=if_pos (sH hp h).1;have U:=(BO hp).2.1;have e:(CU l n G).High - (CU l n G).Low=(n:Int):=by show((l+n:Nat):Int) - (l:Int)=n; omega
 have D:GZ (CU l n G)=n:=by unfold GZ; rw[e]; omega
 unfold P1 AqG;rw[J,D]
 have:EH n (qU p (CU l n G))=EH n λi=>if p.Kind=5 then (G (l+i)).1==0 else (G (l+i)).2.2:=UN λi hi=>by have O:AY (CU l n G).A i=(G (l+i)).1:=SY hi;have d:G2 (CU l n G).On i=(G (l+i)).2.2:=oZ hi (by omega);unfold qU;rw[O,d]
 rw[this]
theorem AeP {β:Type} (a b:Nat) (f:Nat->β):QI (a+b) f=QI a f++QI b λj=>f (a+j):=by
 induction b with
 | zero=>simp[QI]
 | succ b d=>rw[<-yH,eP,d,eP,nP]
theorem AqJ (a b:Nat) (f:Nat->Bool):MW (a+b) f=MW a f++(MW b λj=>f (a+j)).map λx:Int=>x+(a:Int):=by
 induction b with
 | zero=>simp[MW]
 | succ b d=>
  rw[<-yH,Y1,d,Y1];grind
theorem AeQ (a b:Nat) (f:Nat->Int×Bool):L1 (a+b) f=L1 a f++(L1 b λj=>f (a+j)).map λx=>(⟨a+x.At,x.Val⟩:B9):=by
 induction b with
 | zero=>simp[L1]
 | succ b d=>
  rw[<-yH,QJ,d,QJ];grind
theorem AmC (n:Nat) (f:Nat->Bool):(MW n f).Pairwise (· < ·):=by
 induction n with
 | zero=>simp[MW]
 | succ n d=>
  rw[Y1];split
  . rw[As4];refine⟨d,by simp,λ_ D _ h=>?_⟩;simp only[jZ] at h;have:=eQ D;omega
  . exact d
theorem mL {n:Nat} {f:Nat->Int×Bool} {x:B9} (h:x∈L1 n f):0<=x.At∧x.At<n:=by unfold L1 at h;grind
theorem AqK (n:Nat) (f:Nat->Int×Bool):IncI (L1 n f):=by
 induction n with
 | zero=>exact List.Pairwise.nil
 | succ n d=>
  rw[QJ];split
  . unfold IncI;rw[As4];refine⟨d,by simp,λ_ D _ h=>?_⟩;simp only[jZ] at h;subst h;exact(mL D).2
  . exact d
theorem AeR {n:Nat} (h:n<=4096) (f:Nat->Int×Bool):VecP ⟨n,L1 n f⟩:=⟨by simp only; omega,by simp only; omega,AqK n f,λ_ d=>mL d⟩
theorem AqL {n:Nat} (d:n<=4096) (f:Nat->Bool):W6 (qJ n (MW n f))=MW n f:=ApJ (by omega) (AmC n f) λ_ hi=>eQ hi
theorem AqM {α β:Type} {xs:List α} {ys:List β} {f:α->β} {d:List β×Int->(List β×Int->Prop)->Prop} (U:xs.length<=1000000000)
   (J:∀ (i:Nat) (s:List β) (next:List β×Int->Prop) (hi:i<xs.length),s.length=ys.length+i->next (s++[f xs[i]],A4 ((i:Int)+1))->d (s,(i:Int)) next)
   (O:∀ (next:List β×Int->Prop),d (ys++xs.map f,(xs.length:Int)) next):B4 d (ys,0):=by
 refine A9 (λ(s:List β) i=>(s,i)) 0 xs.length (by omega) (λk s=>s=ys++(xs.take k).map f) (by omega) (by simp) (λk s next _ hk h D=>?_) (λs next h=>?_)
 . refine J k s next hk (by subst h; simp; omega) (D _ ?_);subst h;rw[eZ hk,gW,nP]; rfl
 grind
def stepX (p:Plan) (T:List A2) (s:State) (round:Int):List BM×Int:=lR (BX p.Kind round) p.N p.N T (ZZ p s round) (L3 p s).1 (L3 p s).2
def aA (p:Plan) (T:List A2) (s:State) (round:Int):Vec×Int:=if (stepX p T s round).2≠0 then (zV,(stepX p T s round).2) else gA (BX p.Kind round) p.N (stepX p T s round).1
def P2 (p:Plan) (T:List A2) (s:State) (round:Int):State×Int:=if (aA p T s round).2≠0 then (zSt,(aA p T s round).2) else (iU p s round (aA p T s round).1,0)
structure Whole (p:Plan) (s:State):Prop where
 st:StP p s
 ok:iR s
 lo:s.Low=0
 hi:s.High=p.N
 va:∀ x∈s.A,EC x
theorem Whole.sure {p:Plan} {s:State} (h:Whole p s):EN p s=s:=if_pos h.st
theorem AeS {p:Plan} (hp:CD p=0):Whole p (P0 p 0 p.N):=by
 have D:=(BO hp).2.1;have h:=AqH (p:=p) (low:=0) (high:=p.N) hp (by omega) (by omega) (by omega);refine⟨h.1,h.2,?_,?_,?_⟩
 . unfold P0; rw[if_pos ⟨hp,by omega,by omega,by omega⟩]; rfl
 . unfold P0; rw[if_pos ⟨hp,by omega,by omega,by omega⟩]; rfl
 . unfold P0; rw[if_pos ⟨hp,by omega,by omega,by omega⟩];intro x d;obtain⟨_,hi,rfl⟩:=List.mem_map.1 (show x∈QI _ _ from d);have hi:=List.mem_range.1 hi;simp only;unfold WX AtB EC;grind
theorem AqN {o:Option Int} (h:∀ y,o=some y->EC y):EC (MU o).1:=by
 cases o with
 | none=>unfold EC MU; simp
 | some y=>exact h y rfl
theorem Whole.upd {p:Plan} {s:State} (h:Whole p s) {round:Int} (hr:0<=round∧round<=1000000) {y:Vec} (V:∀ x∈y.Items,EC x.Val):Whole p (iU p s round y):=by
 have d:=Aw3 (round:=round) (y:=y) h.st h.ok;refine⟨d.1,d.2.1,d.2.2.1.trans h.lo,d.2.2.2.trans h.hi,?_⟩;unfold iU;rw[h.sure];split
 . intro x U;obtain⟨i,hi,rfl⟩:=List.mem_map.1 (show x∈QI _ _ from U);have hi:=List.mem_range.1 hi
   have W:EC (AY s.A i):=by
    have D:i<s.A.length:=by have:=h.st.2.2.2.2.1; omega
    have:AY s.A i=s.A[i]:=by unfold AY; simp[D]
    rw[this]; exact h.va _ (TF D)
   have Z:EC (MU (GI y.Items i)).1:=AqN λ_ O=>V _ (Z4 O);have J:EC round:=by unfold EC; omega
   show EC (AhK p s round i (GI y.Items i)).1;unfold AhK;simp only
   repeat' split
   all_goals first | assumption | (unfold EC; omega)
 . exact h.va
theorem AqO {r n:Int} {l:List BM}:∀ x∈(gA r n l).1.Items,EC x.Val:=by
 unfold gA
 repeat' split
 all_goals first | (intro x h; cases h; done) | skip
 intro x h;have⟨_,_,d⟩:=List.mem_filterMap.1 h;unfold nzI at d;split at d
 . cases d; exact AsN _
 . cases d
theorem AmD {p:Plan} {T:List A2} {s:State} {round:Int}:∀ x∈(aA p T s round).1.Items,EC x.Val:=by
 unfold aA;split
 . intro x d; cases d
 . exact AqO
def RT (p:Plan) (T:List A2):Nat->State
 | 0=>P0 p 0 p.N
 | k+1=>(P2 p T (RT p T k) ((k:Int)+1)).1
def WB (p:Plan) (T:List A2) (limit:Int) (k:Nat):Int:=if P1 p (RT p T k) k=0 then 1 else if (k:Int)=limit then 2 else if (P2 p T (RT p T k) ((k:Int)+1)).2≠0 then 3 else 0
theorem AeT {P:Nat->Prop}:∀ m:Nat,P m->∃ n,n<=m∧(∀ k,k<n->¬P k)∧P n
 | 0,h=>⟨0,YG _,λk _=>by omega,h⟩
 | m+1,h=>by
  by_cases h':∃ j,j<=m∧P j
  . have⟨j,_,hp⟩:=h';have⟨n,_,_,_⟩:=AeT j hp;grind
  grind
termination_by m=>m
decreasing_by omega
structure AtE (p:Plan) (T:List A2) (limit:Int) (n:Nat) (st:Int):Prop where
 le:(n:Int)≤limit
 lt:∀ k,k<n→WB p T limit k=0
 at_:WB p T limit n=st
 ne:st≠0
theorem AtF (p:Plan) (T:List A2) (h:0<=limit):∃ n J,AtE p T limit n J:=by
 have⟨n,_,D,d⟩:=AeT (P:=λk=>WB p T limit k≠0) limit.toNat (by
  unfold WB;split
  . simp
  . rw[if_pos (by omega)]; simp)
 exact⟨n,_,by omega,λk hk=>Decidable.of_not_not (D k hk),rfl,d⟩
theorem WC {p:Plan} {T:List A2} {k:Nat} (h:WB p T limit k=0):P1 p (RT p T k) k≠0∧(k:Int)≠limit∧(P2 p T (RT p T k) ((k:Int)+1)).2=0:=by grind[WB]
theorem AmE {p:Plan} {T:List A2} {s:State} {round:Int} (h:(P2 p T s round).2=0):(aA p T s round).2=0∧P2 p T s round=(iU p s round (aA p T s round).1,0):=by grind[P2,aA]
theorem AqP {p:Plan} {T:List A2} (d:0<=limit):∀ {k:Nat},(∀ j,j<k->WB p T limit j=0)->(k:Int)<=limit
 | 0,_=>d
 | k+1,h=>by have ih:=AqP (k:=k) d λj _=>h j (by omega);have:=WC (h k (by omega));omega
theorem Aa6 {p:Plan} {T:List A2} (hp:CD p=0) (d:0<=limit∧limit<=8192):∀ {k:Nat},(∀ j,j<k->WB p T limit j=0)->Whole p (RT p T k)
 | 0,_=>AeS hp
 | k+1,h=>by have ih:=Aa6 (k:=k) hp d λj _=>h j (by omega);have hk:=AqP d.1 h;have:=WC (h k (by omega));have e:=(AmE this.2.2).2;show Whole p (P2 p T (RT p T k) ((k:Int)+1)).1;rw[e];exact ih.upd (by omega) AmD
def nzW (r:Int) (w:AZ):Option Int:=if (IQ w).1≠zS r then some (IQ w).1 else none
def cJ (p:Plan) (g:Int×Int×Bool):Bool:=if p.Kind=1 then g.1 == -1 else if p.Kind=5 then g.1==0 else true
def fJ (p:Plan) (T:List A2) (n:Nat) (round:Int) (G:GV) (v:Nat):Option AZ:=L0 (BX p.Kind round) n (GI (OW T v)) (GI (L1 n λi=>HK p round i (G i)))
def G0 (p:Plan) (T:List A2) (n:Nat) (round:Int) (G:GV) (v:Nat):Option Int:=if cJ p (G v)=true then (fJ p T n round G v).bind (nzW (BX p.Kind round)) else none
theorem AqQ {r:Int} {s:BM} {x:B9} (h:nzI r s=some x):x.At=s.At:=by unfold nzI at h;grind
theorem AqR {r:Int}:∀ {l:List BM},Rise l->∀ i:Int,GI (l.filterMap (nzI r)) i=(lk l i).bind (nzW r)
 | [],_,i=>rfl
 | s :: l,h,i=>by
  have hr:Rise l:=(List.pairwise_cons.1 h).2;have d:=(List.pairwise_cons.1 h).1;have D:=AqR (r:=r) hr i;rw[List.filterMap_cons,EA]
  cases O:nzI r s with
  | none=>
   rw[D];by_cases e:i=s.At
   . rw[if_pos e,W4 λx J=>by have:=d x J; omega];simp only[Option.bind_none,AnY];unfold nzI at O; grind[nzW]
   . rw[if_neg e]
  | some x=>
   rw[LJ,AqQ O,D];by_cases e:i=s.At
   . rw[if_pos e,if_pos e];unfold nzI at O; grind[nzW]
   all_goals grind
theorem Ak9 {r n:Int} {l:List BM} (D:0<=n∧n<=4096) (h:Rise l) (hi:∀ s∈l,0<=s.At∧s.At<n):VecP ⟨n,l.filterMap (nzI r)⟩:=by
 refine⟨D.1,D.2,?_,λ_ _=>?_⟩
 . refine List.Pairwise.filterMap _ (λ_ _ _ _ _ _ _=>?_) h;grind[AqQ]
 grind[AqQ]
theorem AeU {p:Plan} (h:1<=p.Kind∧p.Kind<=5) (round:Int):1<=BX p.Kind round∧BX p.Kind round<=5:=by unfold BX;omega
theorem AtG {p:Plan} {n:Nat} {G:GV} (d:n<=4096) {i:Nat} (hi:i<n):HG (L3 p (CU 0 n G)).1 (L3 p (CU 0 n G)).2 i=cJ p (G i):=by
 have J:GZ (CU 0 n G)=n:=by show((((0+n:Nat):Int)) - ((0:Nat):Int)).toNat=n; omega
 have h:∀ j,j<n->AY (CU 0 n G).A j=(G j).1:=λj D=>by have:AY (CU 0 n G).A j=(G (0+j)).1:=SY D;grind
 unfold L3 cJ HG;rw[J];by_cases h1:p.Kind=1
 . rw[if_pos h1,if_pos h1];simp only;rw[oZ hi d,h i hi];simp
 . rw[if_neg h1,if_neg h1];by_cases h5:p.Kind=5
   . rw[if_pos h5,if_pos h5];simp only;rw[oZ hi d,h i hi];simp
   . rw[if_neg h5,if_neg h5];simp only;rw[TB (by simp)];rfl
theorem vG {p:Plan} {T:List A2} {n:Nat} {G:GV} {round:Int} (hp:CD p=0) (hn:p.N=n) :
   ((∃ v w,v<n∧cJ p (G v)=true∧fJ p T n round G v=some w∧(IQ w).2=false)->P2 p T (CU 0 n G) round=(zSt,12)) ∧
   ((∀ v w,v<n->cJ p (G v)=true->fJ p T n round G v=some w->(IQ w).2=true)->P2 p T (CU 0 n G) round=(CU 0 n (HJ p round G (G0 p T n round G)),0)):=by
 have a3:=BO hp;have a2:n<=4096:=by omega
 have hr:=AeU a3.1 round
 have a7:ZZ p (CU 0 n G) round=⟨n,L1 n λi=>HK p round i (G i)⟩:=by rw[Ac0 hp (by omega)];grind
 have O:stepX p T (CU 0 n G) round=(LK (BX p.Kind round) n n (L3 p (CU 0 n G)).1 (L3 p (CU 0 n G)).2 (λi=>GI (OW T i)) (GI (L1 n λi=>HK p round i (G i))),0):=by unfold stepX lR;grind
 have d:=UG (BX p.Kind round) n (L3 p (CU 0 n G)).1 (L3 p (CU 0 n G)).2 (λi=>GI (OW T i)) (GI (L1 n λi=>HK p round i (G i))) n;generalize LK (BX p.Kind round) n n (L3 p (CU 0 n G)).1 (L3 p (CU 0 n G)).2 (λi=>GI (OW T i)) (GI (L1 n λi=>HK p round i (G i)))=l at O d;have⟨V,_,_,q4,q5⟩:=d
 have a4:∀ i:Nat,i<n->lk l i=if cJ p (G i)=true then fJ p T n round G i else none:=by
   intro i hi;rw[q5,AtG a2 hi];by_cases D:cJ p (G i)=true
   . rw[if_pos ⟨by omega,by omega,D⟩,if_pos D]; rfl
   grind
 have W:aA p T (CU 0 n G) round=if ∃ s∈l,(IQ s.Val).2=false then (zV,12) else (⟨n,l.filterMap (nzI (BX p.Kind round))⟩,0):=by unfold aA gA;rw[O];simp only;rw[if_neg (λh=>h rfl),if_neg (λh=>h hr),if_neg,if_neg (λh=>h V),hn];grind
 constructor
 . rintro⟨v,w,U,D,hw,J⟩;have hm:(⟨(v:Int),w⟩:BM)∈l:=oP (by rw[a4 v U,if_pos D,hw]);have:aA p T (CU 0 n G) round=(zV,12):=by rw[W,if_pos ⟨_,hm,J⟩]
   grind[P2]
 . intro a6
   have:aA p T (CU 0 n G) round=(⟨n,l.filterMap (nzI (BX p.Kind round))⟩,0):=by
     rw[W,if_neg];rintro⟨s,Z,J⟩;have a5:=q4 s Z;obtain⟨v,U⟩:∃ v:Nat,s.At=v:=⟨s.At.toNat,by omega⟩;have h1:lk l v=some s.Val:=by rw[<-U]; exact uE V Z
     grind
   unfold P2;rw[this];simp only;rw[if_neg (λh=>h rfl),Ak8 (Y:=G0 p T n round G) hp (by omega) (Ak9 ⟨by omega,by omega⟩ V q4) rfl];grind[AqR,G0]
theorem AeV {p:Plan} {T:List A2} {n:Nat} {G:GV} {round:Int} (hp:CD p=0) (J:p.N=n) (h:(P2 p T (CU 0 n G) round).2=0) :
  (∀ v w,v<n->cJ p (G v)=true->fJ p T n round G v=some w->(IQ w).2=true)∧P2 p T (CU 0 n G) round=(CU 0 n (HJ p round G (G0 p T n round G)),0):=by
 have U:=vG (T:=T) (G:=G) (round:=round) hp J
 have d:∀ v w,v<n->cJ p (G v)=true->fJ p T n round G v=some w->(IQ w).2=true:=by
  intro v w D V O
  cases W:(IQ w).2 with
  | true=>rfl
  | false=>rw[U.1 ⟨v,w,D,V,O,W⟩] at h; cases h
 grind
def GS (p:Plan) (T:List A2) (n:Nat):Nat->GV
 | 0=>gV0 p
 | k+1=>HJ p ((k:Int)+1) (GS p T n k) (G0 p T n ((k:Int)+1) (GS p T n k))
theorem sI {p:Plan} {T:List A2} {n:Nat} (hp:CD p=0) (d:p.N=n):∀ {k:Nat},(∀ j,j<k->WB p T limit j=0)->RT p T k=CU 0 n (GS p T n k)
 | 0,_=>by
  show P0 p 0 p.N=CU 0 n (gV0 p);exact Aa5 hp rfl (by rw[d]; omega) (by omega)
 | k+1,h=>by have ih:=sI (k:=k) hp d λj _=>h j (by omega);have:=(WC (h k (by omega))).2.2;show(P2 p T (RT p T k) ((k:Int)+1)).1=_;rw[ih] at this ⊢;rw[(AeV hp d this).2];rfl
theorem vH:∀ (n:Nat) (L:List Nat),L.Nodup->(∀ x∈L,x<n)->L.length<=n
 | 0,[],_,_=>YG _
 | 0,x :: L,_,h=>absurd (h x (by simp)) (by omega)
 | n+1,L,hd,h=>by
  by_cases hm:n∈L
  . have J:=vH n (L.erase n) (hd.erase n) (λx d=>by have D:=(List.Nodup.mem_erase_iff hd).1 d;have:=h x D.2;have:=D.1;omega)
    rw[List.length_erase_of_mem hm] at J;omega
  . have:=vH n L hd λx d=>by have J:=h x d;have D:x≠n:=λe=>hm (e▸d);omega
    omega
theorem AtH {K:Nat->Nat->Int} (d:∀ i v,K (i+1) v<=K i v) (v:Nat) {i j:Nat} (h:i<=j):K j v<=K i v:=by
 induction h with
 | refl=>exact sR _
 | step _ D=>exact Int.le_trans (d _ v) D
theorem Av0 {n:Nat} {on:Nat->Nat->Prop} {K:Nat->Nat->Int} (O:∀ i v,K (i+1) v<=K i v) (U:∀ i v,v<n->on (i+1) v->K (i+1) v<K i v)
  (hp:∀ i v,v<n->on (i+1) v->∃ u,u<n∧on i u∧K i u<=K (i+1) v):∀ t v,v<n->on t v->∃ L:List Nat,L.length=t+1∧L.Nodup∧(∀ x∈L,x<n)∧∀ x∈L,∃ i,i<=t∧K i x<=K t v
 | 0,v,hv,_=>⟨[v],rfl,by simp,by simpa using hv,λx d=>by rw[jZ] at d; subst d; exact⟨0,YG _,sR _⟩⟩
 | t+1,v,hv,ho=>by
  have⟨u,W,J,_⟩:=hp t v hv ho;have⟨L,h1,h2,Z,V⟩:=Av0 O U hp t u W J;refine⟨v :: L,by simp[h1],List.nodup_cons.2 ⟨λD=>?_,h2⟩,λx d=>?_,λx d=>?_⟩
  . have⟨i,hi,hk⟩:=V v D;have a1:=U t v hv ho;have a2:=AtH O v hi;omega
  . rcases List.mem_cons.1 d with rfl | h
    . exact hv
    . exact Z x h
  . rcases List.mem_cons.1 d with rfl | h
    . exact⟨t+1,YG _,sR _⟩
    . have⟨i,hi,hk⟩:=V x h;exact⟨i,by omega,by omega⟩
theorem AqS {n:Nat} {on:Nat->Nat->Prop} {K:Nat->Nat->Int} (D:∀ i v,K (i+1) v<=K i v) (J:∀ i v,v<n->on (i+1) v->K (i+1) v<K i v)
  (hp:∀ i v,v<n->on (i+1) v->∃ u,u<n∧on i u∧K i u<=K (i+1) v) {t v:Nat} (d:v<n) (h:on t v):t+1<=n:=by
 have⟨L,_,U,O,_⟩:=Av0 D J hp t v d h;have:=vH n L U O;omega
theorem AqT {P:Nat->Prop} {μ:Nat->Int}:∀ n:Nat,(∃ v,v<n∧P v)->∃ v,v<n∧P v∧∀ u,u<n->P u->μ v<=μ u
 | 0,⟨v,O,_⟩=>by omega
 | n+1,⟨v,O,hp⟩=>by
  by_cases h:∃ v,v<n∧P v
  . have⟨a,_,J,D⟩:=AqT (μ:=μ) n h;by_cases hn:P n∧μ n<μ a
    . refine⟨n,by omega,hn.1,λu U d=>?_⟩;by_cases e:u=n
      . subst e; exact sR _
      . have:=D u (by omega) d; omega
    . refine⟨a,by omega,J,λu U d=>?_⟩;by_cases e:u=n
      . subst e;by_cases hl:μ u<μ a
        . exact absurd ⟨d,hl⟩ hn
        . omega
      . exact D u (by omega) d
  . have e:v=n:=by
      by_cases hvn:v<n
      . exact absurd ⟨v,hvn,hp⟩ h
      . omega
    subst e;refine⟨v,O,hp,λu U d=>?_⟩;by_cases e:u=v
    . subst e; exact sR _
    . exact absurd ⟨u,by omega,d⟩ h
theorem vI {n:Nat} {f g:Nat->Bool} (h:∀ i,i<n->g i=true->f i=true):EH n g<=EH n f:=by
 induction n with
 | zero=>exact YG _
 | succ n D=>
  rw[IY,IY];have O:=D λi _=>h i (by omega);have d:=h n (by omega)
  cases J:g n with
  | false=>simp only[AaJ,if_false]; split <;> omega
  | true=>rw[d J]; simp only[if_true]; omega
theorem sJ {n:Nat} {f g:Nat->Bool} (h:∀ i,i<n->g i=true->f i=true) {v:Nat} (V:v<n) (J:f v=true) (d:g v=false):EH n g<EH n f:=by
 induction n with
 | zero=>omega
 | succ n D=>
  rw[IY,IY];by_cases e:v=n
  . subst e;rw[J,d];have:=vI (n:=v) λi hi=>h i (by omega);simp only[AaJ,if_false,if_true]; omega
  . have U:=D (λi hi=>h i (by omega)) (by omega);have O:=h n (by omega)
    cases d:g n with
    | false=>simp only[AaJ,if_false]; split <;> omega
    | true=>rw[O d]; simp only[if_true]; omega
theorem Y2 {n:Nat} {f:Nat->Bool} (h:EH n f≠0):∃ i,i<n∧f i=true:=by
 by_cases h':∃ i,i<n∧f i=true
 . exact h'
 . refine absurd (Aa4 λi hi=>?_) h
   cases d:f i with
   | false=>rfl
   | true=>exact absurd ⟨i,hi,d⟩ h'
theorem sK (f:Nat->Int×Bool) (j:Nat):∀ n:Nat,GI (L1 n f) (j:Int)=if j<n∧(f j).2=true then some (f j).1 else none
 | 0=>by rw[if_neg (by omega)]; rfl
 | n+1=>by
  rw[QJ];by_cases hn:(f n).2=true
  . rw[if_pos hn,UF,sK f j n,LJ];by_cases e:j=n
    . subst e;rw[if_neg (λh=>by omega),if_pos rfl,if_pos ⟨by omega,hn⟩]
    . rw[if_neg (show ¬(j:Int)=(n:Int) by omega)];by_cases h:j<n∧(f j).2=true
      . rw[if_pos h,if_pos ⟨by omega,h.2⟩]
      . rw[if_neg h,if_neg (λd=>h ⟨by omega,d.2⟩)]; rfl
  . rw[if_neg hn,sK f j n];by_cases h:j<n∧(f j).2=true
    . rw[if_pos h,if_pos ⟨by omega,h.2⟩]
    . rw[if_neg h,if_neg];rintro⟨_,h2⟩;by_cases e:j=n
      . subst e; exact hn h2
      . exact h ⟨by omega,h2⟩
theorem AeW {r:Int} (d:r=1∨r=3∨r=4) {A B:Int->Option Int}:∀ {n:Nat} {w:AZ},L0 r n A B=some w->∃ j:Nat,j<n∧∃ a x,A j=some a∧B j=some x∧w=M4 r a x
 | 0,w,h=>by cases h
 | n+1,w,h=>by
  rw[XX] at h;unfold ZT at h
  have old:L0 r n A B=some w->∃ j:Nat,j<n+1∧∃ a x,A j=some a∧B j=some x∧w=M4 r a x:=λJ=>by have⟨j,_,D⟩:=AeW d J;exact⟨j,by omega,D⟩
  cases O:A n with
  | none=>rw[O] at h; exact old h
  | some a=>
   cases U:B n with
   | none=>rw[O,U] at h; exact old h
   | some x=>
    rw[O,U] at h;simp only at h
    cases V:L0 r n A B with
    | none=>rw[V] at h; exact⟨n,by omega,a,x,O,U,(TG h).symm⟩
    | some u=>
     rw[V] at h old;have h:=TG h;unfold I4 at h;rw[if_pos d] at h;split at h
     . exact old (by rw[h])
     . exact⟨n,by omega,a,x,O,U,h.symm⟩
theorem Ac1 {A B:Int->Option Int}:∀ {n:Nat} {w:AZ},L0 2 n A B=some w->w=⟨0,1⟩∨w=⟨0,0⟩
 | 0,w,h=>by cases h
 | n+1,w,h=>by
  rw[XX] at h;unfold ZT at h
  have hm:∀ a x,M4 2 a x=⟨0,1⟩∨M4 2 a x=⟨0,0⟩:=λa x=>by
   unfold M4;rw[if_pos rfl];split
   . exact .inl rfl
   . exact .inr rfl
  cases d:A n with
  | none=>rw[d] at h; exact Ac1 h
  | some a=>
   cases D:B n with
   | none=>rw[d,D] at h; exact Ac1 h
   | some x=>
     rw[d,D] at h;simp only at h
     cases J:L0 2 n A B with
     | none=>rw[J] at h; have h:=TG h; rw[<-h]; exact hm a x
     | some u=>
      rw[J] at h;have h:=TG h;unfold I4 at h;rw[if_neg (by omega),if_pos rfl] at h;split at h
      . exact .inr h.symm
      . exact .inl h.symm
theorem mM {z:Int} (h:EC z):IQ (SE z)=(z,true):=by unfold IQ SE;unfold EC at h;simp only[KJ];rw[if_pos (by omega)];rw[yG];exact⟨by omega,rfl⟩
theorem Aa7 {rows cols:Int} {T:List A2} (h:Canon rows cols T) {i j a:Int} (hi:0<=i):GI (OW T i) j=some a↔(⟨i,j,a⟩:A2)∈T:=by
 have d:IncI ((Q8 T i.toNat).map sD):=by unfold IncI Q8;rw[nU];refine ArY ?_ (gX _ h.srt);intro a b ha W D;have V:=of_decide_eq_true (List.mem_filter.1 ha).2;have U:=of_decide_eq_true (List.mem_filter.1 W).2;unfold NA key at D;simp only[sD];simp only at D;omega
 unfold OW;rw[sE d,hM];unfold Q8;constructor
 . rintro⟨t,J,O⟩;have⟨V,U⟩:=List.mem_filter.1 J;have h3:=of_decide_eq_true U;unfold sD at O;have⟨Z,_,_⟩:=t;simp only[B9.mk.injEq] at O h3;obtain⟨rfl,rfl⟩:=O;rw[show i=Z by omega];exact V
 . intro J;exact⟨_,List.mem_filter.2 ⟨J,by simp; omega⟩,rfl⟩
def Ac2 (p:Plan) (n:Nat) (round:Int) (G:GV):Prop:=∀ u,u<n->0<=(HK p round u (G u)).1∧(HK p round u (G u)).1<=4611686018427387904
theorem Ac3 {p:Plan} {T:List A2} {n:Nat} {round:Int} {G:GV} {v:Nat} {w:AZ} (V:Canon n n T) (W:BX p.Kind round=1∨BX p.Kind round=4) (h:fJ p T n round G v=some w) :
   ∃ u a,u<n∧(⟨v,u,a⟩:A2)∈T∧(HK p round u (G u)).2=true∧w=M4 (BX p.Kind round) a (HK p round u (G u)).1:=by
 unfold fJ at h;have⟨j,J,a,_,D,d,U⟩:=AeW (by omega) h;rw[sK] at d;split at d
 . rename_i O;have:=TG d;subst this;exact⟨j,a,J,(Aa7 V (by omega)).1 D,O.2,U⟩
 . cases d
theorem Ac4 {r a x:Int} (O:r=1∨r=4) (J:0<=a) (U:0<=x∧x<=4611686018427387904):(IQ (M4 r a x)).2=true∧((IQ (M4 r a x)).1≠4611686018427387904->(r=4->(IQ (M4 r a x)).1=x)∧(r=1->(IQ (M4 r a x)).1=a+x)):=by
 have d:IQ (SE 4611686018427387904)=(4611686018427387904,true):=mM (by unfold EC; omega);unfold M4;rw[if_neg (by omega),if_neg (by omega),if_pos (by omega)];by_cases hc:4611686018427387904<=a∨4611686018427387904<=x
 . rw[if_pos hc,d];exact⟨rfl,λh=>absurd rfl h⟩
 . rw[if_neg hc];have D:¬r=3:=by omega
   rw[if_neg D];by_cases h4:r=4
   . rw[if_pos h4,mM (by unfold EC; omega)];exact⟨rfl,λ_=>⟨λ_=>rfl,λh=>by omega⟩⟩
   . rw[if_neg h4];by_cases hl:jX (SE 4611686018427387904) (SE (a+x))
     . rw[if_pos hl,d];exact⟨rfl,λh=>absurd rfl h⟩
     . rw[if_neg hl,mM (by unfold EC; omega)];exact⟨rfl,λ_=>⟨λh=>absurd h h4,λ_=>rfl⟩⟩
theorem cK {p:Plan} {T:List A2} {n:Nat} {round:Int} {G:GV} {v:Nat} {y:Int} (hT:Canon n n T) (W:∀ t∈T,0<=t.Val) (V:BX p.Kind round=1∨BX p.Kind round=4) (a2:Ac2 p n round G)
   (h:G0 p T n round G v=some y):∃ u a,u<n∧(⟨v,u,a⟩:A2)∈T∧(HK p round u (G u)).2=true∧0<=a∧(BX p.Kind round=4->y=(HK p round u (G u)).1)∧(BX p.Kind round=1->y=a+(HK p round u (G u)).1):=by
 unfold G0 at h;split at h
 . cases Z:fJ p T n round G v with
   | none=>rw[Z] at h; cases h
   | some w=>
    rw[Z] at h;simp only[AnY] at h;have⟨u,a,O,J,h3,h4⟩:=Ac3 hT V Z;have U:=W _ J;have D:=(Ac4 V U (a2 u O)).2;rw[<-h4] at D;have hz:zS (BX p.Kind round)=4611686018427387904:=by unfold zS; rw[if_pos (by omega)]
    unfold nzW at h;rw[hz] at h;split at h
    . rename_i d;have:=TG h;subst this;exact⟨u,a,O,J,h3,U,(D d).1,(D d).2⟩
    . cases h
 . cases h
theorem AtI {p:Plan} {T:List A2} {n:Nat} {round:Int} {G:GV} {v:Nat} {w:AZ} (V:Canon n n T) (J:∀ t∈T,0<=t.Val) (Z:BX p.Kind round=1∨BX p.Kind round=4∨BX p.Kind round=2) (O:Ac2 p n round G)
   (h:fJ p T n round G v=some w):(IQ w).2=true:=by
 by_cases D:BX p.Kind round=2
 . unfold fJ at h;rw[D] at h;rcases Ac1 h with rfl | rfl <;> decide
 . have d:BX p.Kind round=1∨BX p.Kind round=4:=by omega
   have⟨u,_,W,D,_,U⟩:=Ac3 V d h;rw[U];exact(Ac4 d (J _ D) (O u W)).1
end
section
variable {limit st:Int}
structure xL (p:Plan) (n:Nat) (T:List A2):Prop where
 can:Canon n n T
 pos:∀ t∈T,0≤t.Val
 ini:∀ t∈T,EC t.Val
 loop:p.Kind=5→∀ t∈T,t.Row≠t.Col
theorem Aw5 {p:Plan} (hk:1<=p.Kind∧p.Kind<=5) (d:p.Kind≠4) (round:Int):BX p.Kind round=1∨BX p.Kind round=4∨BX p.Kind round=2:=by unfold BX;omega
theorem Aw6 {p:Plan} (hp:CD p=0) (round v:Int):0<=iS p round v∧iS p round v<=17592186044416:=by
 have d:=BO hp;unfold iS Am5;split
 . have:=Aq7 d.2.2.2.2.2 ((round - 1) / 2*p.N+v); omega
 . omega
theorem AtJ {p:Plan} (hp:CD p=0) {round u v:Int} (d:1<=round∧round<=16000) (D:0<=u∧u<p.N) (J:0<=v∧v<p.N) (h:u≠v):iS p round u≠iS p round v:=by have O:=BO hp;unfold iS Am5;omega
def Ac5 (p:Plan) (n:Nat) (G:GV):Prop:=∀ v,v<n->(p.Kind=2∨p.Kind=3->0<=(G v).1∧(G v).1<=4611686018427387904)∧(p.Kind=1->(G v).2.2=true->(G v).1 ≠ -1)
theorem Y3 {p:Plan} {n:Nat} {G:GV} (hp:CD p=0) (J:p.N=n) (D:p.Kind≠4) (h:Ac5 p n G) (round:Int):Ac2 p n round G:=by
 intro u d;have O:=BO hp;unfold HK;by_cases h1:p.Kind=1
 . grind
 . rw[if_neg h1];by_cases h5:p.Kind=5
   . rw[if_pos h5];split
     . simp
     . have:=Aw6 hp round u; simp only; omega
   . rw[if_neg h5];exact(h u d).1 (by omega)
theorem AmF {p:Plan} {n:Nat} (hp:CD p=0) (d:p.N=n):Ac5 p n (gV0 p):=by intro v h;have D:=BO hp;unfold gV0 WX AtB;grind
theorem AqU {p:Plan} {T:List A2} {n:Nat} {G:GV} {k:Nat} (hp:CD p=0) (U:p.N=n) (D:xL p n T) (Z:p.Kind≠4) (h:Ac5 p n G):Ac5 p n (HJ p ((k:Int)+1) G (G0 p T n ((k:Int)+1) G)):=by
 intro v O;have hz:=BO hp;have J:=Y3 hp U Z h ((k:Int)+1);have W:=h v O;unfold HJ AbZ;refine⟨λhk=>?_,λhk=>?_⟩
 . have d:=W.1 hk;rw[if_neg (by omega),if_pos hk]
   cases hy:G0 p T n ((k:Int)+1) G v with
   | none=>simpa[MU] using d
   | some y=>
    have hr:BX p.Kind ((k:Int)+1)=1∨BX p.Kind ((k:Int)+1)=4:=by unfold BX; repeat' split <;> omega
    have⟨u,_,V,_,_,_,_,_⟩:=cK D.can D.pos hr J hy;have a2:=J u V;simp only[MU];grind
 all_goals grind
theorem cL {p:Plan} {T:List A2} {n:Nat} (hp:CD p=0) (d:p.N=n) (D:xL p n T) (h:p.Kind≠4):∀ k,Ac5 p n (GS p T n k)
 | 0=>AmF hp d
 | k+1=>AqU hp d D h (cL hp d D h k)
theorem AmG {p:Plan} {T:List A2} {n:Nat} {k:Nat} (hp:CD p=0) (d:p.N=n) (D:xL p n T) (h:p.Kind≠4):P2 p T (CU 0 n (GS p T n k)) ((k:Int)+1)=(CU 0 n (GS p T n (k+1)),0):=by refine(vG (T:=T) hp d).2 λ_ _ _ _ J=>?_;exact AtI D.can D.pos (Aw5 (BO hp).1 h _) (Y3 hp d h (cL hp d D h k) _) J
def mO (p:Plan) (g:Int×Int×Bool):Int:=if p.Kind=1 then (if g.1 = -1 then 1 else 0) else g.1
theorem vJ {p:Plan} {G:GV} {Y:Nat->Option Int} {k:Nat} (hk:p.Kind=1∨p.Kind=2∨p.Kind=3) (v:Nat):mO p (HJ p ((k:Int)+1) G Y v)<=mO p (G v)∧((HJ p ((k:Int)+1) G Y v).2.2=true->mO p (HJ p ((k:Int)+1) G Y v)<mO p (G v)∧∃ y,Y v=some y∧(p.Kind≠1->(HJ p ((k:Int)+1) G Y v).1=y)∧(p.Kind=1->mO p (HJ p ((k:Int)+1) G Y v)=0)):=by
 unfold HJ AbZ
 cases d:Y v with
 | none=>
  by_cases h1:p.Kind=1
  . rw[if_pos h1]; simp[MU,mO,h1]
  . rw[if_neg h1,if_pos (by omega)]; simp[MU,mO,h1]
 | some y=>
  by_cases h1:p.Kind=1
  . grind[mO]
  . rw[if_neg h1,if_pos (by omega)];unfold mO;rw[if_neg h1,if_neg h1];simp only[MU,true_and];grind
theorem Av1 {p:Plan} {T:List A2} {n:Nat} (hp:CD p=0) (J:p.N=n) (D:xL p n T) (hk:p.Kind=1∨p.Kind=2∨p.Kind=3) {t v:Nat} (V:v<n) (h:(GS p T n t v).2.2=true):t+1<=n:=by
 refine AqS (n:=n) (on:=λi v=>(GS p T n i v).2.2=true) (K:=λi v=>mO p (GS p T n i v)) (λi v=>(vJ hk v).1) (λi v _ h=>((vJ hk v).2 h).1) (λi v V h=>?_) V h;have⟨_,hy,_,Z⟩:=((vJ hk v).2 h).2;have ht:=Y3 hp J (by omega) (cL hp J D (by omega) i) ((i:Int)+1);have hr:BX p.Kind ((i:Int)+1)=1∨BX p.Kind ((i:Int)+1)=4:=by unfold BX; repeat' split <;> omega
 have⟨u,_,O,_,d,_,U,W⟩:=cK D.can D.pos hr ht hy;unfold HK at d U W;by_cases hk1:p.Kind=1
 . rw[if_pos hk1] at d;refine⟨u,O,d,?_⟩;have h0:=Z hk1;have:=(cL hp J D (by omega) i u O).2 hk1 d;grind[mO]
 . rw[if_neg hk1,if_neg (by omega)] at d U W;refine⟨u,O,d,?_⟩;show mO p (GS p T n i u)<=mO p (HJ p ((i:Int)+1) (GS p T n i) (G0 p T n ((i:Int)+1) (GS p T n i)) v);grind[mO]
def MY (G:GV):Nat->Bool:=λv=>(G v).1==0
theorem Aa8 {p:Plan} {G:GV} {Y:Nat->Option Int} {round:Int} (hk:p.Kind=5) (v:Nat) (h:MY (HJ p round G Y) v=true):MY G v=true:=by unfold MY HJ AbZ at *;grind
theorem AmH {p:Plan} {T:List A2} {n:Nat} {G:GV} {k:Nat} (hp:CD p=0) (hn:p.N=n) (V:xL p n T) (hk:p.Kind=5) (a2:k % 2=0) (a3:k<=15000) (h:EH n (MY G)≠0) (hG:Ac5 p n G) :
   EH n (MY (HJ p ((k:Int)+1) G (G0 p T n ((k:Int)+1) G)))<EH n (MY G):=by
 have⟨v,hv,W,O⟩:=AqT (P:=λv=>MY G v=true) (μ:=λv=>iS p ((k:Int)+1) v) n (Y2 h);refine sJ (λi _=>Aa8 hk i) hv W ?_;have hA:(G v).1=0:=by simpa[MY] using W
 have d:¬((k:Int)+1) % 2=0:=by omega
 have Z:BX p.Kind ((k:Int)+1)=4:=by unfold BX;omega
 unfold MY HJ AbZ;rw[if_neg (by omega),if_neg (by omega),if_neg (by omega),if_neg (λh=>h hA),if_neg d,if_pos]
 . rfl
 cases hy:G0 p T n ((k:Int)+1) G v with
 | none=>left; rfl
 | some y=>
   right;have⟨u,_,hu,hm,D,_,e4,_⟩:=cK V.can V.pos (.inr Z) (Y3 hp hn (by omega) hG _) hy;have J:=e4 Z;unfold HK at D J;rw[if_neg (by omega),if_pos hk,if_neg d] at D J;simp only at D J;have a4:=O u hu D;have U:(v:Int)≠u:=V.loop hk _ hm;have:=AtJ hp (round:=(k:Int)+1) (u:=(v:Int)) (v:=(u:Int)) (by omega) (by omega) (by omega) U;simp only[MU];rw[J];omega
theorem AkA {p:Plan} {T:List A2} {n:Nat} (hp:CD p=0) (D:p.N=n) (J:xL p n T) (hk:p.Kind=5) {m:Nat} (U:m<=15000) (d:∀ k,k<m->EH n (MY (GS p T n k))≠0):∀ j,2*j<=m->EH n (MY (GS p T n (2*j)))+j<=n
 | 0,_=>by rw[YH]; exact mK _ _
 | j+1,h=>by have ih:=AkA hp D J hk U d j (by omega);have V:=AmH (G:=GS p T n (2*j)) (k:=2*j) hp D J hk (by omega) (by omega) (d (2*j) (by omega)) (cL hp D J (by omega) _);have Z:EH n (MY (GS p T n (2*(j+1))))<=EH n (MY (GS p T n (2*j+1))):=vI λi _ W=>Aa8 hk i W;have O:EH n (MY (GS p T n (2*j+1)))<EH n (MY (GS p T n (2*j))):=V;omega
def mP (p:Plan) (n:Nat):Int:=if p.Kind=4 then p.Length else if p.Kind=5 then 2*n else n+1
theorem AkB {p:Plan} {T:List A2} {n k:Nat} (hp:CD p=0) (d:p.N=n) (h:∀ j,j<k->WB p T limit j=0):P1 p (RT p T k) k=if p.Kind=4∧p.Length<=k then 0 else ((EH n λi=>if p.Kind=5 then MY (GS p T n k) i else (GS p T n k i).2.2:Nat):Int):=by rw[sI hp d h,vF hp (by omega)];grind[MY]
theorem AmI {p:Plan} {T:List A2} {n m:Nat} (hp:CD p=0) (J:p.N=n) (a4:n<=1000) (V:xL p n T) (E:AtE p T (mP p n) m st):st=1∨(p.Kind=4∧st=3):=by
 have hz:=BO hp;have hl:∀ k,k<=m->P1 p (RT p T k) k=if p.Kind=4∧p.Length<=k then 0 else ((EH n λi=>if p.Kind=5 then MY (GS p T n k) i else (GS p T n k i).2.2:Nat):Int):=λk hk=>AkB hp J λj h=>E.lt j (by omega)
 have O:∀ k,k<m->(EH n λi=>if p.Kind=5 then MY (GS p T n k) i else (GS p T n k i).2.2)≠0:=λk hk W=>by have:=(WC (E.lt k hk)).1;grind
 have d:=E.at_;have a3:=E.le;unfold WB at d;by_cases hL:P1 p (RT p T m) m=0
 . omega
 rw[if_neg hL] at d;have W:=hl m (YG _);by_cases hm:(m:Int)=mP p n
 . exfalso;by_cases h4:p.Kind=4
   . grind[mP]
   . rw[if_neg (λa2=>h4 a2.1)] at W;by_cases h5:p.Kind=5
     . have D:mP p n=2*n:=by grind[mP]
       have U:m=2*n:=by omega
       have hf:=AkA (m:=m) hp J V h5 (by omega) (λk hk=>by have:=O k hk; simpa[h5] using this) n (by omega);apply hL;have e:(EH n λi=>if p.Kind=5 then MY (GS p T n m) i else (GS p T n m i).2.2)=EH n (MY (GS p T n m)):=UN λi _=>if_pos h5;rw[W,e,U]; omega
     . have D:mP p n=n+1:=by grind[mP]
       have⟨_,hv,Z⟩:=Y2 (O n (by omega));rw[if_neg h5] at Z;have:=Av1 hp J V (by omega) hv Z;omega
 rw[if_neg hm] at d;by_cases hs:(P2 p T (RT p T m) ((m:Int)+1)).2≠0
 . rw[if_pos hs] at d;by_cases h4:p.Kind=4
   . exact .inr ⟨h4,d.symm⟩
   . exfalso;apply hs;rw[sI hp J λj h=>E.lt j h,AmG hp J V h4]
 . rw[if_neg hs] at d; exact absurd d.symm E.ne
theorem AeX {k:HH} {v:AZ}:∀ {l:List (HH×AZ)} {p:HH×AZ},p∈ins 1 k v l->p=(k,v)∨p∈l
 | [],p,h=>by simp[ins] at h; exact .inl h
 | q :: l,p,h=>by
  unfold ins at h;split at h
  . rcases List.mem_cons.1 h with rfl | h
    . exact .inr (by simp)
    . rcases AeX h with h | h
      . exact .inl h
      . exact .inr (by simp[h])
  . split at h
    . rename_i hk;rcases List.mem_cons.1 h with rfl | h
      . unfold I4;rw[if_pos (.inl rfl)];split
        . right;have⟨_,_⟩:=q;simp only at hk;subst hk; simp
        . exact .inl rfl
      . exact .inr (by simp[h])
    . rcases List.mem_cons.1 h with rfl | h
      . exact .inl rfl
      . exact .inr h
theorem AkC:∀ {ts:List (HH×Int)} {p:HH×AZ},p∈SC 1 ts->∃ t∈ts,p=(t.1,bJ t.2):=by
 suffices ∀ (ts:List (HH×Int)) (l:List (HH×AZ)) p,p∈ts.foldl (λl t=>ins 1 t.1 (bJ t.2) l) l->(∃ t∈ts,p=(t.1,bJ t.2))∨p∈l from λ{ts p} h=>by
  rcases this ts [] p h with h | h
  . exact h
  . simp at h
 intro ts
 induction ts with
 | nil=>grind
 | cons t ts O=>
  intro l p h;rcases O _ _ h with⟨x,d,e⟩ | D
  . exact .inl ⟨x,by simp[d],e⟩
  . rcases AeX D with U | J
    . exact .inl ⟨t,by simp,U⟩
    . exact .inr J
theorem TD {es:List B0} (D:∀ e∈es,EC e.W) {e:B0} (d:e∈CY es):e∈es:=by
 unfold CY U9 at d;split at d
 . obtain⟨_,hp,rfl⟩:=List.mem_map.1 d;obtain⟨_,J,rfl⟩:=AkC hp;obtain⟨x,h,rfl⟩:=List.mem_map.1 J;simp only[kvE];rw[Ab1 (D x h)];exact h
 . cases d
theorem eU {g:Graph} (D:∀ e∈g.Edges,EC e.W) {t:A2} (d:t∈KK g):∃ e∈g.Edges,t=⟨e.To,e.From,e.W⟩:=by
 unfold KK U9 at d;split at d
 . obtain⟨_,hp,rfl⟩:=List.mem_map.1 d;obtain⟨_,J,rfl⟩:=AkC hp;obtain⟨x,h,rfl⟩:=List.mem_map.1 J;refine⟨x,h,?_⟩;simp only[kvF];rw[Ab1 (D x h)];rfl
 . cases d
def GA (n:Int) (es:List B0):Prop:=∀ e∈es,inE n e∧wOk e
theorem DB {n:Int} {es:List B0} (h:GA n es):∀ e∈es,EC e.W:=λe d=>by have:=(h e d).2; unfold wOk at this; unfold EC; omega
theorem G1 {n:Int} {es:List B0} (h:GA n es):GA n (CY es):=λe d=>h e (TD (DB h) d)
theorem eV {n:Int} {es:List B0} (h:GA n es):GA n (es.map AhG):=λ_ d=>by obtain⟨x,D,rfl⟩:=List.mem_map.1 d;exact⟨(h x D).1,by unfold wOk AhG; simp⟩
theorem iW {n:Int} {es:List B0} (h:GA n es):GA n (es.map qD):=λ_ d=>by obtain⟨x,D,rfl⟩:=List.mem_map.1 d;have:=h x D;exact⟨⟨this.1.2,this.1.1⟩,this.2⟩
theorem AmJ {n:Int} {xs ys:List B0} (h:GA n xs) (J:GA n ys):GA n (xs++ys):=λe D=>by
 rcases List.mem_append.1 D with d | d
 . exact h e d
 . exact J e d
theorem JZ {g:Graph} (h:F3 g=0):GA g.N g.Edges:=λe d=>⟨(NW h).2.2.2.1 e d,(NW h).2.2.2.2 e d⟩
theorem vK {g:Graph} (J:0<=g.N∧g.N<=4096) (O:g.Edges.length<=65536) (h:GA g.N g.Edges):F3 g=0:=by unfold F3;rw[if_neg (by omega),if_neg (by omega),if_neg (λD=>D λe d=>(h e d).1),if_neg (λD=>D λe d=>(h e d).2)]
def noL (es:List B0):Prop:=∀ e∈es,e.From≠e.To
def UO (p:Plan) (g:Graph):Graph:=if p.Kind=5 then QH (cG (mG g)) else if p.Kind=3 then QH (cG g) else if p.Kind=1 then QH g else g
theorem Z8 {g:Graph} (h:GA g.N g.Edges):GA (QH g).N (QH g).Edges∧(QH g).Edges.length<=g.Edges.length∧(noL g.Edges->noL (QH g).Edges):=by
 refine⟨G1 (eV h),?_,λD _ d=>?_⟩
 . have:=KB (DB (eV h)); rwa [nW] at this
 . have:=TD (DB (eV h)) d;obtain⟨x,J,rfl⟩:=List.mem_map.1 this;exact D x J
theorem Aa9 {g:Graph} (h:GA g.N g.Edges):GA (cG g).N (cG g).Edges∧(cG g).Edges.length<=2*g.Edges.length∧(noL g.Edges->noL (cG g).Edges):=by
 have V:GA g.N (qT g).Edges:=G1 (iW h);have D:=AmJ h V;refine⟨G1 D,?_,λJ e U=>?_⟩
 . have d:=KB (DB D);have O:=KB (DB (iW h));rw[fC] at d;rw[nW] at O;have:(qT g).Edges.length<=g.Edges.length:=O;show(CY _).length<=_;omega
 . rcases List.mem_append.1 (TD (DB D) U) with d | d
   . exact J e d
   . obtain⟨x,W,rfl⟩:=List.mem_map.1 (TD (DB (iW h)) d);exact λe=>J x W e.symm
theorem AmK {g:Graph} (h:GA g.N g.Edges):GA (mG g).N (mG g).Edges∧(mG g).Edges.length<=g.Edges.length∧noL (mG g).Edges:=by
 have D:GA g.N (g.Edges.filter QT):=λe d=>h e (List.mem_filter.1 d).1;refine⟨G1 D,?_,λe d=>?_⟩
 . have J:=KB (DB D);have O:=rE QT g.Edges;show(CY _).length<=_;omega
 . have:=(List.mem_filter.1 (TD (DB D) d)).2;unfold QT at this;grind
theorem vL {p:Plan} {g:Graph} (h:GA g.N g.Edges):(UO p g).N=g.N∧GA g.N (UO p g).Edges∧(UO p g).Edges.length<=2*g.Edges.length∧(p.Kind=5->noL (UO p g).Edges):=by
 unfold UO;have O:=AmK h;have U:=Aa9 h;have d:=Aa9 O.1;have hp:=Z8 h;have J:=Z8 U.1;have D:=Z8 d.1;by_cases h5:p.Kind=5
 . rw[if_pos h5];exact⟨rfl,D.1,by have:=D.2.1; have:=d.2.1; have:=O.2.1; omega,λ_=>D.2.2 (d.2.2 O.2.2)⟩
 . rw[if_neg h5];by_cases h3:p.Kind=3
   . rw[if_pos h3]; exact⟨rfl,J.1,by have:=J.2.1; have:=U.2.1; omega,λh=>absurd h h5⟩
   . rw[if_neg h3];by_cases h1:p.Kind=1
     . rw[if_pos h1]; exact⟨rfl,hp.1,by have:=hp.2.1; omega,λh=>absurd h h5⟩
     grind
theorem AqV {p:Plan} {g:Graph} (hp:CD p=0) (J:g.N=p.N) (D:F3 g=0) (U:g.Edges.length<=30000):AhH p g=(BW p.N p.N (KK (UO p g)),0)∧F3 (UO p g)=0:=by have V:=NW D;have d:=vL (p:=p) (JZ D);have O:F3 (UO p g)=0:=vK (by omega) (by omega) (by rw[d.1]; exact d.2.1);refine⟨?_,O⟩;unfold AhH;rw[if_neg (λh=>h hp),if_neg (λh=>h J),if_neg (λh=>h D)];show tW (UO p g)=_;unfold tW;grind
theorem Av2 {p:Plan} {g:Graph} {n:Nat} (hp:CD p=0) (O:g.N=p.N) (W:p.N=n) (V:F3 g=0) (Z:g.Edges.length<=30000):xL p n (KK (UO p g)):=by
 have d:=vL (p:=p) (JZ V);have hr:=(AqV hp O V Z).2;have U:=qE hr;rw[d.1,O,W] at U;refine⟨U,λt D=>?_,λt D=>?_,λhk t D=>?_⟩
 . obtain⟨e,J,rfl⟩:=eU (DB d.2.1) D;exact(d.2.1 e J).2.1
 . grind[eU,DB]
 . obtain⟨e,J,rfl⟩:=eU (DB d.2.1) D;exact λh=>d.2.2.2 hk e J h.symm
theorem AtK (p:Plan) (s:State):qH (L3 p s).1:=by
 unfold L3
 repeat' split
 . exact(IV _ _).1
 . exact(IV _ _).1
 . simp[qH]
theorem AtL {l:List Int} (h:∀ x∈l,EC x) (i:Nat):EC (AY l i):=by
 by_cases hl:i<l.length
 . have:AY l i=l[i]:=by unfold AY; simp[hl]
   grind
 . rw[Ae3 (by omega)]; unfold EC; omega
theorem Whole.out {p:Plan} {s:State} (h:Whole p s) (round:Int):VecP (ZZ p s round)∧(∀ y∈(ZZ p s round).Items,EC y.Val)∧(ZZ p s round).N=p.N:=by
 have J:=BO h.st.1;have e:((GZ s:Nat):Int)=s.High - s.Low:=by unfold GZ; have:=h.lo; have:=h.hi; omega
 have O:=h.lo; have D:=h.hi;unfold ZZ;rw[h.sure];refine⟨?_,λy U=>?_,by simp only; omega⟩
 . have:=AeR (n:=GZ s) (by omega) (iT p s round);grind
 . have⟨i,hi,d⟩:=List.mem_filterMap.1 (show y∈L1 _ _ from U);have hi:=List.mem_range.1 hi;split at d
   . cases d;have V:=AtL h.va i;show EC (iT p s round i).1;unfold iT
     repeat' split
     . unfold EC; omega
     . unfold EC; omega
     . have W:0<=iS p round (s.Low+i)∧iS p round (s.Low+i)<=17592186044416:=by
        unfold iS Am5;split
        . have:=Aq7 J.2.2.2.2.2 ((round - 1) / 2*p.N+(s.Low+i)); omega
        . omega
       unfold EC; omega
     . exact V
   . cases d
def Ac6 (p:Plan) (g:Graph) (limit:Int):Int:=if (AhH p g).2≠0 then (AhH p g).2 else if limit<0∨8192<limit then 3 else 0
theorem vM {p:Plan} {g:Graph} {Q:Int->Prop} (d:Q (Ac6 p g limit)):VQ p g limit Q:=by unfold VQ;unfold Ac6 at d;refine cH (BT (λh=>by rwa [if_pos h] at d) (λh=>?_));rw[if_neg (λO=>O h)] at d;exact A0 (λJ=>by rwa [if_pos (.inl J)] at d) (λJ=>A0 (λD=>by rwa [if_pos (.inr D)] at d) (λD=>by rwa [if_neg (by omega)] at d))
theorem AkD {p:Plan} {T:List A2} {k:Nat} (d:st≠0) (h:WB p T limit k=st):(P1 p (RT p T k) k=0∧st=1)∨(P1 p (RT p T k) k≠0∧(k:Int)=limit∧st=2)∨(P1 p (RT p T k) k≠0∧(k:Int)≠limit∧(P2 p T (RT p T k) ((k:Int)+1)).2≠0∧st=3):=by unfold WB at h;omega
structure MRun (p:Plan) (g:Graph) (limit:Int) (T:List A2) (n:Nat) (st:Int):Prop where
 rp:CD p=0
 cn:Canon p.N p.N T
 vs:∀ t∈T,EC t.Val
 mt:AhH p g=(BW p.N p.N T,0)
 lm:0≤limit∧limit≤8192
 en:AtE p T limit n st
theorem MRun.check {p:Plan} {g:Graph} {T:List A2} {n:Nat} (R:MRun p g limit T n st):Ac6 p g limit=0:=by unfold Ac6;rw[R.mt,if_neg (by simp),if_neg (by have:=R.lm; omega)]
theorem MRun.whole {p:Plan} {g:Graph} {T:List A2} {n:Nat} (R:MRun p g limit T n st) {k:Nat} (h:k<=n):Whole p (RT p T k):=Aa6 R.rp R.lm λj _=>R.en.lt j (by omega)
theorem AqW {a:Graph} {Q:Graph->Prop} (hQ:∀ g:Graph,0<=g.N∧g.N<=23->g.Edges.length<=60->F3 g=0->Q g):VO a Q:=by
 unfold VO;refine eS (λh=>by omega) (λ_ n Z _=>?_);have d:∀ es:List B0,es.length<=60->GA n es->Q ⟨n,es⟩:=λes J hg=>hQ _ ⟨Z,by simp only; omega⟩ J (vK (by simp only; omega) (by simp only; omega) hg);refine A9 (λ(s:List B0) i=>(s,i)) 0 (min a.Edges.length 60) (by omega) (λi s=>s.length<=i∧GA n s) (by omega) (s0:=[]) ⟨by simp,by intro e J; simp at J⟩ (λi s next _ _ D V=>?_) (λs next D=>?_)
 . dsimp only;refine A0 (λ_=>A0 (λ_=>A0 (λ_=>AW (by omega) ?_) (λ_=>d s (by omega) D.2)) (λh=>by omega)) (λh=>by omega);refine eS (λh=>by omega) λ_ _ u0 u1=>eS (λh=>by omega) λ_ _ O U=>AL (by simp; omega) (V _ ⟨by simp; omega,λe J=>?_⟩);rcases List.mem_append.1 J with h | h
   . exact D.2 e h
   . rw[List.mem_singleton.1 h];have:=Aw4 (a.Edges[i]'(by omega)).W (m:=2147483647) (by omega);refine⟨⟨⟨u0,u1⟩,O,U⟩,?_⟩;unfold wOk;omega
 . dsimp only;exact A0 (λ_=>A0 (λ_=>by omega) (λ_=>d s (by omega) D.2)) (λ_=>d s (by omega) D.2)
theorem Aw7 {p:Plan} {g:Graph} {lim:Int} (hp:CD p=0) (D:g.N=p.N) (U:g.Edges.length<=60) (O:F3 g=0) (d:0<=lim∧lim<=8192):∃ n st,MRun p g lim (KK (UO p g)) n st:=by obtain⟨N,J⟩:∃ N:Nat,p.N=N:=⟨p.N.toNat,by have:=(BO hp).2.1; omega⟩;have h:=Av2 (n:=N) hp D J O (by omega);have⟨n,st,E⟩:=AtF p (KK (UO p g)) d.1;exact⟨n,st,hp,by rw[J]; exact h.can,h.ini,(AqV hp D O (by omega)).1,d,E⟩
theorem pB {g:Graph} (h:∀ e∈g.Edges,EC e.W) {t:A2}:t∈KK g↔(⟨t.Col,t.Row,t.Val⟩:B0)∈CY g.Edges:=by
 have O:∀ t∈g.Edges.map kvE,EC t.2:=λt J=>by obtain⟨e,d,rfl⟩:=List.mem_map.1 J; exact h e d
 have U:∀ t∈g.Edges.map kvF,EC t.2:=λt J=>by obtain⟨e,d,rfl⟩:=List.mem_map.1 J; exact h e d
 unfold KK CY;rw[Ab2 O,Ab2 U];simp only;rw[hM,hM];constructor
 . rintro⟨_,hp,rfl⟩;obtain⟨q,D,rfl⟩:=List.mem_map.1 ((AjE g.Edges).mem_iff.2 hp);exact⟨q,D,rfl⟩
 . rintro⟨q,D,d⟩;refine⟨sw q,(AjE g.Edges).mem_iff.1 (AcY D),?_⟩;have⟨_,_,_⟩:=t;unfold mkE at d;simp only[B0.mk.injEq] at d;have⟨_,_,_⟩:=d;unfold mkT sw;grind
theorem AkE {r:Int}:∀ {l:List AZ} {d:Option AZ},(∀ w∈l,S5 w)->okO d->okO (l.foldl (λd w=>nS r d (some w)) d)
 | [],_,_,h=>h
 | w :: l,d,hl,h=>by
  rw[aS];refine AkE (l:=l) (λx D=>hl x (gV _ D)) ?_;have J:=hl w List.mem_cons_self;intro x D
  cases d with
  | none=>cases D; exact J
  | some a=>cases D; exact XL (h a rfl) J
theorem AqX {r:Int} {l m:List AZ} (hp:l.Perm m):∀ {d:Option AZ},(∀ w∈l,S5 w)->okO d->l.foldl (λd w=>nS r d (some w)) d=m.foldl (λd w=>nS r d (some w)) d:=by
 have D:∀ {w:AZ},S5 w->okO (some w):=λ{w} W x h=>by have:=TG h; subst this; exact W
 induction hp with
 | nil=>grind
 | cons w hp Z=>
  intro d J V;rw[aS,aS];exact Z (λx h=>J x (gV _ h)) (AkE (l:=[w]) (λx h=>by rw[jZ] at h; subst h; exact J _ List.mem_cons_self) V)
 | swap a b l=>
  intro d J V;have U:=D (J b (by simp));have O:=D (J a (by simp));rw[aS,aS,aS,aS,oT V U O,oT V O U,ApN U O]
 | trans U O a2 a3=>
  grind
theorem AeY {r:Int} (d:r=1∨r=3∨r=4) {A B:Int->Option Int} {a x:Int} {j:Nat} (U:A j=some a) (O:B j=some x):∀ {n:Nat},j<n->∃ w,L0 r n A B=some w∧jX w (M4 r a x)
 | n+1,hj=>by
  rw[XX];unfold ZT;by_cases e:j=n
  . subst e;rw[U,O];simp only
    cases D:L0 r j A B with
    | none=>exact⟨_,rfl,by unfold jX; omega⟩
    | some u=>
      refine⟨_,rfl,?_⟩;unfold I4;rw[if_pos d];split
      . assumption
      . unfold jX; omega
  . have⟨w,D,J⟩:=AeY d U O (n:=n) (by omega);rw[D];split
    . refine⟨_,rfl,?_⟩;unfold I4;rw[if_pos d];split
      . exact J
      . rename_i h;unfold jX at *; omega
    . exact⟨w,rfl,J⟩
variable {p:Plan} {T:List A2} {n k:Nat} {G:GV}
theorem AaA (r:Int) (k:HH):∀ {ts:List (HH×Int)} {o:Option AZ},((∃ t∈ts,t.1=k)∨o.isSome=true)->(ts.foldl (λo t=>if k=t.1 then some (match o with | some w=>I4 r w (bJ t.2) | none=>bJ t.2) else o) o).isSome=true
 | [],o,h=>by
  rcases h with⟨t,ht,_⟩ | h
  . cases ht
  . exact h
 | t :: ts,o,h=>by
  simp only[aS];refine AaA r k ?_;rcases h with⟨t',ht,e⟩ | h
  . rcases List.mem_cons.1 ht with rfl | ht
    . right; rw[if_pos e.symm]; rfl
    . exact .inl ⟨t',ht,e⟩
  . right; split
    . rfl
    . exact h
theorem AmL {es:List B0} (U:∀ e∈es,EC e.W) {e:B0} (d:e∈es):∃ D∈CY es,D.From=e.From∧D.To=e.To:=by
 have h:(BC (e.From,e.To) (SC 1 (es.map kvE))).isSome=true:=by rw[AgR];exact AaA 1 _ (.inl ⟨kvE e,AcY d,rfl⟩)
 have⟨_,O⟩:=Option.isSome_iff_exists.1 h;have J:=(K4 (XM (iK 1 _))).1 O;unfold CY;rw[Ab2 (λ_ V=>by obtain⟨e,d,rfl⟩:=List.mem_map.1 V; exact U e d)];exact⟨_,AcY J,rfl,rfl⟩
def Ks (es:List B0) (a b:Int):Prop:=∃ e∈es,e.From=a∧e.To=b
variable {g:Graph} {es xs ys:List B0} {a b:Int}
theorem vN (D:∀ e∈es,EC e.W):Ks (CY es) a b↔Ks es a b:=by
 constructor
 . rintro⟨e,d,h⟩; exact⟨e,TD D d,h⟩
 . rintro⟨e,d,U,J⟩;have⟨V,Z,O,e2⟩:=AmL D d;exact⟨V,Z,O.trans U,e2.trans J⟩
theorem Aw8:Ks (es.map AhG) a b↔Ks es a b:=by
 constructor
 . rintro⟨e,d,h⟩;obtain⟨x,D,rfl⟩:=List.mem_map.1 d;exact⟨x,D,h⟩
 . rintro⟨e,d,h⟩;exact⟨AhG e,AcY d,h⟩
theorem AqY (h:GA g.N g.Edges):Ks (QH g).Edges a b↔Ks g.Edges a b:=(vN (DB (eV h))).trans Aw8
end
section
def Ew (es:List B0) (u x:Nat) (w:Int):Prop:=(⟨u,x,w⟩:B0)∈es
def Wy (es:List B0) (s:Nat):Nat->Nat->Int->Prop
 | 0,x,d=>x=s∧d=0
 | k+1,x,d=>∃ u h w,Wy es s k u h∧Ew es u x w∧d=h+w
structure Dist (es:List B0) (n s:Nat) (far:Nat→Int):Prop where
 s0:far s=0
 b:∀ x,x<n→0≤far x∧far x≤4611686018427387904
 way:∀ x,x<n→far x<4611686018427387904→∃ k,Wy es s k x (far x)
 rel:∀ u x w,Ew es u x w→far x≤far u+w
structure Bfs (E:Nat→Nat→Prop) (n s:Nat) (L P:Nat→Int):Prop where
 s0:L s=0
 b:∀ x,x<n → -1≤L x∧L x<n
 z:∀ x,x<n→L x=0→x=s
 par:∀ x,x<n→0<L x→∃ u,u<n∧P x=(u:Int)∧E u x∧L u=L x - 1
 cl:∀ u x,E u x→0≤L u→0≤L x∧L x≤L u+1
variable {es:List B0} {n s:Nat} {far far' L P L' P':Nat→Int} {E E':Nat→Nat→Prop}
theorem Y4 (d:GA n es) {u x:Nat} {w:Int} (h:Ew es u x w):u<n∧x<n∧0<=w∧w<=2147483647:=by have:=d _ h;unfold inE wOk at this;simp only at this;omega
theorem Dist.le (D:Dist es n s far):∀ {k x d},Wy es s k x d->far x<=d
 | 0,x,d,h=>by obtain⟨rfl,rfl⟩:=h; rw[D.s0]; exact sR _
 | k+1,x,d,⟨u,U,w,O,J,V⟩=>by have:=D.le O; have:=D.rel u x w J;omega
theorem Dist.uniq (D:Dist es n s far) (J:Dist es n s far') {x:Nat} (d:x<n):far x=far' x:=by
 have a:=D.b x d; have O:=J.b x d
 have U:far x<=far' x:=by
  by_cases h:far' x<4611686018427387904
  . have⟨k,hk⟩:=J.way x d h; exact D.le hk
  . omega
 have V:far' x<=far x:=by
  by_cases h:far x<4611686018427387904
  . have⟨k,hk⟩:=D.way x d h; exact J.le hk
  . omega
 omega
theorem Bfs.le (B:Bfs E n s L P) (d:Bfs E' n s L' P') (D:∀ u x,E' u x->E u x):∀ (k:Nat) {x},x<n->L' x=k->0<=L x∧L x<=k
 | 0,x,hx,h=>by rw[d.z x hx h,B.s0]; omega
 | k+1,x,hx,h=>by have⟨u,O,_,J,_⟩:=d.par x hx (by omega);have:=B.le d D k O (by omega);have:=B.cl u x (D _ _ J) this.1;omega
def Ee (es:List B0) (u x:Nat):Prop:=∃ w,Ew es u x w
theorem Bfs.far_le (B:Bfs (Ee es) n s L P) (D:Dist es n s far) (d:GA n es):∀ (k:Nat) {x},x<n->L x=k->far x<=k*2147483647
 | 0,x,hx,h=>by rw[B.z x hx h,D.s0]; omega
 | k+1,x,hx,h=>by have⟨u,hu,_,⟨w,he⟩,_⟩:=B.par x hx (by omega);have:=B.far_le D d k hu (by omega);have:=D.rel u x w he;have:=Y4 d he;omega
theorem Bfs.wy (B:Bfs (Ee es) n s L P):∀ {k x d},Wy es s k x d->0<=L x
 | 0,x,d,h=>by obtain⟨rfl,rfl⟩:=h; rw[B.s0]; exact sR _
 | k+1,x,d,⟨u,O,w,J,D,U⟩=>(B.cl u x ⟨w,D⟩ (B.wy J)).1
theorem Bfs.iff (B:Bfs (Ee es) n s L P) (D:Dist es n s far) (J:GA n es) (O:n<=1000) {x:Nat} (d:x<n):0<=L x↔far x<4611686018427387904:=by
 constructor
 . intro h;have:=B.far_le D J (L x).toNat d (by omega);have:=B.b x d;omega
 . intro h;have⟨_,hk⟩:=D.way x d h;exact B.wy hk
def Tg (es:List B0) (far:Nat->Int) (u x:Nat):Prop:=∃ w,Ew es u x w∧far u<4611686018427387904∧far x<4611686018427387904∧far x - far u=w
theorem Bfs.tight (B:Bfs (Tg es far) n s L P) (D:Dist es n s far) (J:GA n es):∀ {k x d},Wy es s k x d->d=far x->d<4611686018427387904->0<=L x
 | 0,x,d,h,_,_=>by obtain⟨rfl,rfl⟩:=h; rw[B.s0]; exact sR _
 | k+1,x,d,⟨u,d',w,h1,h2,h3⟩,hd,hl=>by have a:=D.le h1; have b:=D.rel u x w h2; have c:=Y4 J h2;exact(B.cl u x ⟨w,h2,by omega,by omega,by omega⟩ (B.tight D J h1 (by omega) (by omega))).1
structure Lv (E:Nat→Nat→Prop) (n s r:Nat) (L P:Nat→Int):Prop where
 s0:L s=0
 dom:∀ v,v<n→L v = -1∨0≤L v∧L v≤r
 z:∀ v,v<n→L v=0→v=s
 par:∀ v,v<n→0<L v→∃ u:Nat,u<n∧P v=u∧E u v∧L u=L v - 1
 cl:∀ u v,E u v→0≤L u→L u<r→0≤L v∧L v≤L u+1
variable {r:Nat}
theorem Lv.next (I:Lv E n s r L P) (hs:s<n) (V:∀ u v,E u v->u<n∧v<n) (W:∀ v,v<n->L' v=L v∧P' v=P v∨L v = -1∧L' v=r+1∧∃ u:Nat,u<n∧P' v=u∧E u v∧L u=r) (hd:∀ u v,E u v->L u=r->0<=L' v):Lv E n s (r+1) L' P':=by
 have d:=I.dom;have O:∀ v,v<n->L' v=L v∨L v = -1∧L' v=r+1:=λv D=>(W v D).imp And.left λh=>⟨h.1,h.2.1⟩;refine⟨?_,λv D=>?_,λv D h=>?_,λv D h=>?_,λu v U _ _=>?_⟩
 . have:=O s hs; have:=I.s0; omega
 . grind
 . have:=O v D; have:=I.z v D; omega
 . rcases W v D with⟨Z,e2⟩ | ⟨Z,e2,u,J,e3,U,e4⟩
   . rw[Z] at h ⊢;have⟨u,J,_,_,_⟩:=I.par v D h;grind
   all_goals grind
 . have⟨J,D⟩:=V u v U;have:=O u J; have:=O v D; have:=d u J; have:=d v D; have:=I.cl u v U; have:=hd u v U;omega
theorem Lv.bfs (I:Lv E n s r L P) (h:∀ u v,E u v->u<n∧v<n) (O:∀ v,v<n->L v<n) (J:∀ u v,E u v->L u=r->0<=L v):Bfs E n s L P:=
 ⟨I.s0,λx d=>by have:=I.dom x d; have:=O x d; omega,I.z,I.par,λu x D _=>by have⟨U,d⟩:=h u x D;have:=I.dom u U; have:=I.dom x d; have:=I.cl u x D; have:=J u x D;omega⟩
structure WayL (E:Nat→Nat→Prop) (n s to:Nat) (k:Nat) (l:List Nat):Prop where
 len:l.length=k+1
 rng:∀ x∈l,x<n
 hd:l[0]? = some s
 tl:l[k]? = some to
 st:∀ i u x,l[i]? = some u→l[i+1]? = some x→E u x
theorem UP {s:List Int} {i v:Nat} {x:Int} (d:v<s.length):AY (s.set i x) (v:Int)=if i=v then x else AY s v:=by unfold AY;grind
theorem vO {H:List AO} {i k:Nat} {Q:Bool->Prop} (hi:i<H.length) (hk:k<H.length) (d:∀ b,Q b):ER H i k Q:=by unfold ER;exact AW hi (AW hk (d _))
theorem vP {H:List AO} {i k:Nat} {Q:List AO->Prop} (hi:i<H.length) (hk:k<H.length) (d:Q (swp H i k)):EQ H i k Q:=by unfold EQ;refine AG (x:=gH H k) (by omega) (IR hk) (AG (x:=gH H i) (by omega) (IR hi) (AG (x:=gH H i) (by omega) (IR hi) ?_));refine AG (x:=(H.set i (gH H k))[k]'(by simpa using hk)) (by omega) (by simp only[VK]; exact zL8 (by simpa using hk)) ?_;simp only[VK];exact d
theorem Aw9 {o:List AO} {j:Nat} {Q:List AO->Prop} (U:o.length<=10000000000000) (d:j<o.length) (D:∀ H,H.Perm o->Q H):HB o j Q:=by
 unfold HB;refine BV (λs:List AO×Int=>∃ j:Nat,s.2=j∧s.1.Perm o∧j<s.1.length) (λs=>s.2.toNat) ⟨j,rfl,.refl _,d⟩ ?_;rintro⟨H,_⟩ next ⟨j,e,hp,d⟩ hn;simp only at e hp d ⊢;subst e;have J:=hp.length_eq
 have O:A4 ((A4 ((j:Int) - 1)).tdiv 2)=((if j=0 then 0 else (j - 1) / 2:Nat):Int):=by
  rw[A6 (x:=(j:Int) - 1) (by omega) (by omega)];split
  . rename_i e; subst e; decide
  . rw[AnD (by omega),A6 (by omega) (by omega)]; omega
 rw[O];refine B5 (λ_=>D H hp) λe=>?_;have h:j≠0:=by rintro rfl; exact e rfl
 rw[if_neg h];exact vO d (by omega) λ_=>CB (λ_=>D H hp) λ_=>vP (by omega) d (hn _ ⟨_,rfl,(XR (by omega) d).trans hp,by rw[QR]; omega⟩ (by simp only[VK]; omega))
theorem AqZ {o:List AO} {n:Nat} {Q:Bool×List AO->Prop} (hl:o.length<=10000000000000) (hn:n<=o.length) (O:∀ b H,H.Perm o->(∀ j,n<=j->gH H j=gH o j)->Q (b,H)):G6 o 0 n Q:=by
 unfold G6;refine BV (λs:List AO×Int=>∃ i:Nat,s.2=i∧s.1.Perm o∧(∀ j,n<=j->gH s.1 j=gH o j)∧(i<n∨i=0)) (λs=>n - s.2.toNat) ⟨0,rfl,.refl _,λ_ _=>rfl,.inr rfl⟩ ?_;rintro⟨H,_⟩ next ⟨i,e,hp,D,hi⟩ hn';simp only at e hp D hi ⊢;subst e;have a2:=hp.length_eq;have U:A4 (A4 (2*(i:Int))+1)=((2*i+1:Nat):Int):=by rw[A6 (x:=2*(i:Int)) (by omega) (by omega),A6 (by omega) (by omega)]; omega
 have Z:A4 (((2*i+1:Nat):Int)+1)=((2*i+2:Nat):Int):=by rw[A6 (by omega) (by omega)]; omega
 simp only[U,Z];refine A0 (λh=>O _ H hp D) λh=>A0 (λ_=>by omega) λ_=>?_;refine CE (λt:Int=>∃ j:Nat,t=j∧j<n∧i<j) ?_ λ_ d=>?_
 . rintro t ⟨j,rfl,J,_⟩
   exact vO (by omega) (by omega) λb=>CB (λ_=>O _ H hp D) λ_=>vP (by omega) (by omega) (hn' _ ⟨j,rfl,(XR (by omega) (by omega)).trans hp,λq W=>by rw[lI (by omega) (by omega),if_neg (by omega),if_neg (by omega)]; exact D q W,.inl J⟩ (by simp only[VK]; omega))
 . exact A0 (λV=>vO (by omega) (by omega) λb=>⟨λ_=>d _ ⟨2*i+2,rfl,by omega,by omega⟩,λ_=>d _ ⟨2*i+1,rfl,by omega,by omega⟩⟩) λV=>d _ ⟨2*i+1,rfl,by omega,by omega⟩
theorem AtM {o:List AO} {Q:AO×List AO->Prop} (hl:o.length<=1000000000000000) (Z:o.length<=10000000000000) (D:0<o.length) (V:∀ x H,(gH o 0 :: H).Perm o->Q (x,H)):GR o Q:=by
 unfold GR GK;have e:A4 ((o.length:Int) - 1)=((o.length - 1:Nat):Int):=by rw[A6 (by omega) (by omega)]; omega
 simp only[e];have J:=XR (H:=o) (i:=0) (k:=o.length - 1) D (by omega);refine vP (i:=0) D (by omega) (AqZ (n:=o.length - 1) (by rw[QR]; omega) (by rw[QR]; omega) λ_ H hp U=>?_);have h:H.length=o.length:=hp.length_eq.trans (QR _ _ _);unfold MJ;have O:A4 ((H.length:Int) - 1)=((o.length - 1:Nat):Int):=by rw[h]; exact e
 simp only[O];refine AG (by omega) (IR (by simp only[VK]; omega)) ⟨by omega,by omega,by omega,?_⟩;simp only[VK];refine V _ _ ?_;have d:=U (o.length - 1) (by omega);rw[lI D (by omega),if_pos rfl] at d;rw[<-d];have W:H[o.length - 1]'(by omega)=gH H (o.length - 1):=by have:=IR (H:=H) (i:=o.length - 1) (by omega); grind
 have h3:H=H.take (o.length - 1)++[gH H (o.length - 1)]:=by rw[<-W,List.take_append_getElem (by omega),AnF (by omega)]
 grind
theorem Ar0 {o:List AO} {x:AO} {Q:List AO->Prop} (D:o.length<=8000000000000) (h:∀ H,H.Perm (x :: o)->Q H):G7 o x Q:=by
 unfold G7 LB GK;refine AL (by simp; omega) ?_;have d:A4 (((o++[x]).length:Int) - 1)=(o.length:Int):=by rw[fC,A6 (by simp) (by simp; omega)]; simp
 grind[Aw9]
theorem Ay3 {n:Nat} (D:n<=23) {Q:Int×Int->Prop} (d:Q (0,(n:Int))):KA 1 n Q:=by
 have h:∀ m:Fin 24,KA 1 (m.val:Int) λr=>r=(0,(m.val:Int)):=by unfold KA N7; decide
 have h:=h ⟨n,by omega⟩;unfold KA N7 at h ⊢;grind
theorem AaB {v:Int} {n:Nat} (J:1<=n) (O:n<=23) {Q:List Int->Prop} (U:Q (List.replicate n v)):DY [v] n Q:=by
 unfold DY;have V:IntKind.wrap .u64 (([v]:List Int).length:Int)=1:=NQ (by simp) (by simp);rw[V,NQ (by omega) (by omega)];refine A0 (λh=>by omega) λ_=>Ay3 O ?_;dsimp only;rw[A6 (by omega) (by omega)];refine A0 (λh=>by omega) λ_=>A0 (λh=>by omega) λ_=>⟨by omega,by omega,?_⟩;refine BV (λs:List Int×Int=>∃ p:Nat,s.2=p∧1<=p∧p<=n∧s.1.length=n∧s.1.take p=List.replicate p v) (λs=>n - s.2.toNat) ⟨1,?_,by omega,by omega,?_,?_⟩ ?_
 . simp; omega
 . rw[dM (by simp)]; simp
 . unfold XC;grind
 rintro⟨_,_⟩ next ⟨p,e,_,_,d,D⟩ hn';simp only at e d D ⊢;subst e;refine A0 (λh=>⟨by omega,by omega,by omega,by omega,by omega,by omega,hn' _ ⟨p+min p (n - p),?_,by omega,by omega,?_,?_⟩ ?_⟩) λh=>?_
 . simp only[VK,d];rw[A6 (by omega) (by omega)]; omega
 . simp only[VK];rw[dM (by omega),d]
 . simp only[VK];unfold XC;rw[D,d,List.take_replicate,List.take_append_of_le_length (by simp; omega),AnF (by simp; omega),List.replicate_append_replicate];congr 1;omega
 . simp only[VK,d];rw[A6 (by omega) (by omega)]; omega
 all_goals grind
def xM (far:List Int):Nat:=(far.map λy=>(min y 49392123881).toNat).sum
theorem AkF:∀ {l:List Nat} {i:Nat} {x:Nat} (h:i<l.length),(l.set i x).sum+l[i]=l.sum+x
 | y :: l,0,x,_=>by simp; omega
 | y :: l,i+1,x,h=>by have:=AkF (l:=l) (i:=i) (x:=x) (by simpa using h); simp; omega
theorem AkG {far:List Int} {u:Nat} {z:Int} (d:u<far.length):xM (far.set u z)+(min (AY far u) 49392123881).toNat=xM far+(min z 49392123881).toNat:=by have:=AkF (l:=far.map λy=>(min y 49392123881).toNat) (i:=u) (x:=(min z 49392123881).toNat) (by simpa using d);unfold xM;rw[List.map_set];simp only[List.getElem_map] at this;unfold AY;grind
def AhN (far:List Int):Nat:=far.countP λy=>decide (y<4611686018427387904)
theorem AkH {far:List Int} {u:Nat} {z:Int} (d:u<far.length) (h:z<4611686018427387904):AhN (far.set u z)=AhN far+if AY far u<4611686018427387904 then 0 else 1:=by
 have e:AY far u=far[u]:=by unfold AY; grind
 grind[AhN]
structure FI (es:List B0) (n s:Nat) (ex:Nat→Prop) (far:List Int) (wait:List AO) (mu:Nat):Prop where
 len:far.length=n
 s0:AY far s=0
 b:∀ x:Nat,x<n→0≤AY far x∧AY far x≤4611686018427387904
 cb:∀ x:Nat,x<n→AY far x<4611686018427387904→AY far x+2147483647≤2147483647*(AhN far:Int)
 way:∀ x:Nat,x<n→AY far x<4611686018427387904→∃ k,Wy es s k x (AY far x)
 wt:∀ q∈wait,∃ y:Nat,y<n∧q.v=y∧AY far y≤q.far∧q.far<4611686018427387904
 rel:∀ x:Nat,x<n→AY far x<4611686018427387904→¬ex x→(⟨x,AY far x⟩:AO)∈wait∨∀ (y:Nat) w,Ew es x y w→AY far y≤AY far x+w
 mu:wait.length+xM far≤mu
variable {es:List B0} {n s mu:Nat} {ex:Nat→Prop} {far:List Int} {wait wait':List AO}
theorem FI.relax (I:FI es n s ex far wait mu) (hn:n<=23) (V:GA n es) (hs:s<n) {v u:Nat} {w:Int} (Z:Ew es v u w) (hf:AY far v<4611686018427387904) (a9:AY far v+w<AY far u)
   (hp:wait'.Perm (⟨u,AY far v+w⟩ :: wait)):FI es n s ex (far.set u (AY far v+w)) wait' mu∧AY (far.set u (AY far v+w)) v=AY far v:=by
 have⟨J,hu,_,_⟩:=Y4 V Z;have bv:=I.b v J; have bu:=I.b u hu; have cv:=I.cb v J hf;have hl:=I.len;have D:∀ x:Nat,x<n->AY (far.set u (AY far v+w)) x=if u=x then AY far v+w else AY far x:=λx d=>UP (by omega)
 have a2:∀ x:Nat,x<n->AY (far.set u (AY far v+w)) x<=AY far x:=λx d=>by grind
 have a3:u≠s:=λe=>by subst e; have:=I.s0; omega
 have a4:u≠v:=λe=>by subst e; omega
 have W:=AkH (far:=far) (u:=u) (z:=AY far v+w) (by omega) (by omega);have a7:AhN (far.set u (AY far v+w))<=n:=by have:=List.countP_le_length (l:=far.set u (AY far v+w)) (p:=λy=>decide (y<4611686018427387904)); grind[AhN]
 have a8:AY far v+w+2147483647<=2147483647*(AhN (far.set u (AY far v+w)):Int):=by
   rw[W];split
   . rename_i h; have:=I.cb u hu h; omega
   . omega
 have b0:=AkG (far:=far) (u:=u) (z:=AY far v+w) (by omega);have a5:=hp.length_eq;simp only[gY] at a5;have hm:=I.mu;refine⟨⟨by simp[hl],by rw[D s hs,if_neg a3]; exact I.s0,λx d=>?_,λx d h=>?_,λx d h=>?_,λq U=>?_,λx d h a6=>?_,?_⟩,by rw[D v J,if_neg a4]⟩
 . rw[D x d]; have:=I.b x d; split <;> omega
 . rw[D x d] at h ⊢;split at h
   . omega
   . rename_i e; rw[if_neg e]; have:=I.cb x d h; rw[W]; split <;> omega
 . rw[D x d] at h ⊢;split at h
   . rename_i e; subst e; rw[if_pos rfl];have⟨k,hk⟩:=I.way v J hf;exact⟨k+1,v,_,w,hk,Z,rfl⟩
   . rename_i e; rw[if_neg e]; exact I.way x d h
 . rcases List.mem_cons.1 (hp.mem_iff.1 U) with rfl | U
   . grind
   . have⟨y,_,_,_,_⟩:=I.wt q U;grind
 . rw[D x d] at h ⊢;split at h
   . grind
   . rename_i e; rw[if_neg e];rcases I.rel x d h a6 with O | O
     . grind
     . refine .inr λy w' hy=>?_;have:=O y w' hy; have:=a2 y (Y4 V hy).2.1;omega
 . omega
theorem FI.pop (I:FI es n s ex far wait mu) (W:∀ x,¬ex x) {q:AO} (hp:(q :: wait').Perm wait):∃ v:Nat,v<n∧q.v=v∧q.far<4611686018427387904∧AY far v<=q.far∧FI es n s (λx=>x=v∧AY far v=q.far) far wait' (wait'.length+xM far):=by
 have⟨v,h,O,V,U⟩:=I.wt q (hp.mem_iff.1 (by simp));refine⟨v,h,O,U,V,I.len,I.s0,I.b,I.cb,I.way,λx d=>I.wt x (hp.mem_iff.1 (gV _ d)),λx d J _=>?_,YG _⟩;rcases I.rel x d J (W x) with D | D
 all_goals grind
theorem FI.dist (I:FI es n s ex far [] mu) (V:∀ x,¬ex x) (O:GA n es):Dist es n s λx=>AY far x:=
 ⟨I.s0,I.b,I.way,λu x w J=>by
  have⟨U,D,_,_⟩:=Y4 O J;by_cases h:AY far u<4611686018427387904
  . rcases I.rel u U h (V u) with d | d
    . cases d
    . exact d x w J
  . have:=I.b x D; show AY far x<=AY far u+w; omega⟩
theorem AhO {o:List Int} {Q:List Int->Prop} (O:1<=o.length) (W:o.length<=1000000) (V:Q o.reverse):EZ o Q:=by
 unfold EZ;rw[A6 (by omega) (by omega)];refine BV (λt:List Int×Int×Int=>∃ i:Nat,t.2.1=i∧t.2.2=(o.length:Int) - 1 - i∧2*i<=o.length∧t.1.length=o.length∧∀ k,k<o.length->t.1[k]? = if k<i∨o.length<k+1+i then o[o.length - 1 - k]? else o[k]?) (λt=>o.length - t.2.1.toNat) ⟨0,rfl,by simp,by omega,rfl,λk hk=>by rw[if_neg (by omega)]⟩ ?_;rintro⟨l,_,h⟩ next ⟨i,D,U,_,d,Z⟩ hnx;simp only at D U d Z ⊢;subst D;refine A0 (λ_=>?_) λ_=>?_
 . obtain⟨j,J⟩:∃ j:Nat,h=j:=⟨h.toNat,by omega⟩;subst J;refine AW (by omega) (AW (by omega) (AW (by omega) (AW (by simp; omega) ?_)));rw[A6 (by omega) (by omega),A6 (by omega) (by omega)];refine hnx _ ⟨i+1,by simp only; omega,by simp only; omega,by omega,by simp[d],λk hk=>?_⟩ (by simp only; omega);grind
 . have:l=o.reverse:=by refine AnI λk=>?_;grind
   rw[this]; exact V
def UQ (w:List Nat):List Int:=w.map λx:Nat=>(x:Int)
theorem NY (w:List Nat):(UQ w).length=w.length:=by simp[UQ]
variable {E:Nat→Nat→Prop} {n s to k u a:Nat} {l p:List Int} {w:List Nat}
theorem WayL.cons (W:WayL E n a to k w) (U:u<n) (O:E u a):WayL E n u to (k+1) (u :: w):=by
  refine⟨by simp[W.len],λx d=>?_,rfl,by simpa using W.tl,λi x y d h=>?_⟩
  . rcases List.mem_cons.1 d with rfl | d
    . exact U
    . exact W.rng x d
  . cases i with
    | zero=>
      have D:u=x:=by simpa using d
      have J : a = y := by
        have := W.hd; have h : w[0]? = some y := by simpa using h
        rw[this] at h; exact TG h
      rw[<-D,<-J]; exact O
    | succ i=>exact W.st i x y (by simpa using d) (by simpa using h)
theorem AkI (hl:l.length=n) (hp:p.length=n) (hn:n<=1000) (B:Bfs E n s (λx=>AY l x) λx=>AY p x) (J:to<n) (h0:0<=AY l to) {Q:List Int->Prop}
   (hQ:∀ w,WayL E n s to (AY l to).toNat w->Q (UQ w)):bG l p to Q:=by
 have d:=B.b;unfold bG;rw[hl,hp,if_neg (Int.lt_irrefl _)];have a5:=d to J;refine A0 (λh=>by omega) λ_=>A0 (λh=>by omega) λ_=>AX (by omega) (by omega) (A0 (λh=>by omega) λ_=>AX (by omega) (by omega) (A0 (λh=>by omega) λ_=>?_))
 refine BV (λt:List Int×Int=>∃ (w:List Nat) (a k:Nat),t.1=UQ w.reverse∧t.2=a∧a<n∧0<=AY l a∧(k:Int)=AY l to - AY l a∧WayL E n a to k w) (λt=>(AY l t.2).toNat)
   ⟨[to],to,0,rfl,rfl,J,h0,by omega,rfl,λx hx=>by rw[List.mem_singleton.1 hx]; exact J,rfl,rfl,λ_ x _ _ hy=>by simp at hy⟩ ?_
 rintro⟨_,_⟩ next ⟨w,a,k,Z,V,O,_,_,W⟩ hnx;simp only at Z V ⊢;subst Z V;have a4:=d a O;have a6:(UQ w.reverse).length<=100000:=by rw[NY,List.length_reverse,W.len]; omega
 refine AX (by omega) (by omega) (A0 (λa3=>?_) λ_=>?_)
 . have⟨u,U,D,he,a2⟩:=B.par a O a3;refine AX (by omega) (by omega) ?_;rw[D];refine A0 (λh=>by omega) λ_=>A0 (λh=>by omega) λ_=>AX (by omega) (by omega) (AX (by omega) (by omega) ?_);rw[A6 (by omega) (by omega),a2];refine BT (λh=>absurd rfl h) λ_=>AL (by simp only[AfX]; omega) (hnx _ ⟨u :: w,u,k+1,?_,rfl,U,by omega,by omega,W.cons U he⟩ (by simp only; omega));simp[UQ]
 . have ea:a=s:=B.z a O (by omega);subst ea;refine AhO (by rw[NY,List.length_reverse,W.len]; omega) (by omega) ?_;have e:(UQ w.reverse).reverse=UQ w:=by simp[UQ]
   grind
variable {es:List B0} {far:Nat→Int}
theorem AaC {g:Graph} (d:g.N=n) (D:F3 g=0) (J:s<n) {Q:Bool->Prop} (h:Q true):RL g s Q:=by unfold RL;refine OT ?_;rw[D,d];refine B2 rfl (A0 (λ_=>?_) λ_=>by omega);grind
theorem AmM {g:Graph} (hN:g.N=n) (hn:n<=1000) (hs:s<n) (hg:F3 g=0) (a8:g.Edges.length<=100000) (J:GA n g.Edges) (W:WayL (Ee (CY g.Edges)) n s to k w) (hk:k<=1000) (a2:Dist (CY g.Edges) n s far) {Q:Int×Bool->Prop}
   (hQ:∀ m,far to<=m->Q (m,true)):ST g (UQ w) Q:=by
 have a7:=KB (DB J);have a4:=G1 J;have a6:=W.len;unfold ST;have hd:(UQ w)[0]? = some (s:Int):=by unfold UQ; rw[AaK,W.hd]; rfl
 refine B5 (λh=>by rw[NY] at h; omega) λ_=>AG (by omega) hd (AaC hN hg hs (A8 rfl (H6 (by omega) (DB J) ?_)));dsimp only;generalize CY g.Edges=es at *;refine A9 (σ:=List ((Int×Int)×Int)) (λt i=>(t,i)) 0 es.length (s0:=[]) (by omega) (λk m=>(∀ key v,BC key m=some v->(⟨key.1,key.2,v⟩:B0)∈es)∧∀ e∈es.take k,BC (e.From,e.To) m≠none) (by omega) ⟨(λkey v h=>by cases h),λe d=>by simp at d⟩ (λk m next _ O hm U=>?_) (λm next hm=>?_)
 . have⟨D,V⟩:=hm;refine A0 (λ_=>AW O (U _ ⟨λkey v h=>?_,λe d=>?_⟩)) λh=>by omega
   . by_cases e:key=(es[k].From,es[k].To)
     . subst e;rw[CO] at h;rw[<-TG h];exact TF O
     . rw[CW e] at h; exact D key v h
   . by_cases e':(e.From,e.To)=(es[k].From,es[k].To)
     . rw[e',CO]; simp
     . rw[CW e'];rw[eZ O] at d;grind
 . have⟨D,V⟩:=hm;rw[QW] at V;refine A0 (λh=>by omega) λ_=>?_;have a3:∀ i,i<w.length->∃ x,w[i]? = some x∧(UQ w)[i]? = some (x:Int):=λi hi=>⟨w[i],by simp[hi],by unfold UQ; rw[AaK,zL8 hi]; rfl⟩;refine A9 (σ:=Int) (λt i=>(t,i)) 1 w.length (s0:=0) (by omega) (λi t=>0<=t∧t<=i*2147483647∧∀ x,w[i - 1]? = some x->far x<=t) (by omega) ⟨by omega,by omega,λx Z=>?_⟩ (λi t next a5 hi ht U=>?_) (λt next ht=>?_)
   . have Z:w[0]? = some x:=Z;rw[W.hd] at Z;rw[<-TG Z,a2.s0]; exact sR _
   . have⟨_,_,t3⟩:=ht;have⟨x,x1,x2⟩:=a3 (i - 1) (by omega);have⟨y,y1,y2⟩:=a3 i hi;have e1:A4 ((i:Int) - 1)=((i - 1:Nat):Int):=by rw[A6 (by omega) (by omega)]; omega
     rw[e1,NY];refine A0 (λ_=>AG (by omega) x2 (AG (by omega) y2 (YX (λv hv=>?_) λhv=>?_))) λh=>by omega
     . have d:=D _ v hv;have d:Ew es x y v:=d;have hb:=Y4 a4 d;have:=a2.rel x y v d;have:=t3 x x1;rw[A6 (by omega) (by omega)];exact A8 rfl (U _ ⟨by omega,by omega,λ_ hz=>by rw[Nat.add_sub_cancel,y1] at hz; rw[<-TG hz]; omega⟩)
     . have⟨v,d⟩:=W.st (i - 1) x y x1 (by rw[Nat.sub_add_cancel a5]; exact y1);exact absurd hv (V _ d)
   . refine A0 (λh=>by rw[NY] at h; omega) λ_=>hQ t (ht.2.2 to ?_);rw[a6,Nat.add_sub_cancel]; exact W.tl
variable {g:Graph} {n s:Nat}
theorem Ac7 {n:Nat} {v:Int} {x:Nat} (h:x<n):AY (List.replicate n v) x=v:=by unfold AY; grind
theorem FI.init {es:List B0} (J:s<n) (V:n<=23):FI es n s (λ_=>False) ((List.replicate n 4611686018427387904).set s 0) [⟨s,0⟩] 1136018849264:=by
 have D:∀ x:Nat,x<n->AY ((List.replicate n 4611686018427387904).set s 0) x=if s=x then 0 else 4611686018427387904:=λx d=>by rw[UP (by simp[d]),Ac7 d]
 have hp:=AkG (far:=List.replicate n 4611686018427387904) (u:=s) (z:=0) (by simpa using J);have U:xM (List.replicate n 4611686018427387904)=n*49392123881:=by unfold xM; rw[List.map_replicate,List.sum_replicate_nat]; rfl
 have O:=AkH (far:=List.replicate n 4611686018427387904) (u:=s) (z:=0) (by simpa using J) (by omega);rw[Ac7 J] at O;refine⟨by simp,by rw[D s J,if_pos rfl],λx d=>by rw[D x d]; split <;> omega,λx d h=>?_,λx d h=>?_,λ_ _=>?_,λx d h _=>?_,?_⟩
 . rw[D x d] at h ⊢;grind
 . rw[D x d] at h ⊢;split at h
   . rename_i e; rw[if_pos e]; exact⟨0,e.symm,rfl⟩
   . omega
 . grind
 . rw[D x d] at h ⊢;grind
 all_goals grind
theorem Ar1 (hN:g.N=n) (hn:1<=n∧n<=23) (hs:s<n) (hl:g.Edges.length<=60) (a3:GA n g.Edges) {Q:List Int->Prop} (hQ:∀ far:List Int,far.length=n->Dist (CY g.Edges) n s (λx=>AY far x)->Q far):VU g s Q:=by
 have d2:=KB (DB a3);have V:=G1 a3;unfold VU;rw[hN];refine AaB hn.1 hn.2 (AW (by simpa using hs) ⟨by omega,by omega,H6 (by omega) (DB a3) ?_⟩);dsimp only;rw[VK,VK];generalize CY g.Edges=es at *;refine A9 (σ:=List (List B0)) (λt i=>(t,i)) 0 es.length (s0:=List.replicate n []) (by omega) (λk L=>L.length=n∧∀ u:Nat,u<n->L[u]? = some ((es.take k).filter λe=>decide (e.From=(u:Int)))) (by omega) ⟨by simp,λu hu=>by simp[hu]⟩ (λk L next _ hk hL D=>?_) (λL next hL=>?_)
 . have⟨h1,U⟩:=hL;obtain⟨u,hu⟩:∃ u:Nat,es[k].From=u:=⟨es[k].From.toNat,by have:=(V _ (TF hk)).1.1.1; omega⟩;have a7:u<n:=by have:=(V _ (TF hk)).1.1.2; omega
   have b1:=rE (λe:B0=>decide (e.From=(u:Int))) (es.take k);rw[QX] at b1;refine A0 (λ_=>AW hk ?_) λh=>by omega
   rw[hu];refine AG (by omega) (U u a7) (AL (by simp only[AfX]; omega) (AG (by omega) (U u a7) (D _ ⟨by simp[h1],λx hx=>?_⟩)));dsimp only;rw[VK,List.getElem?_set,eZ hk,fA];grind
 . have⟨h1,U⟩:=hL;rw[QW] at U;refine A0 (λh=>by omega) λ_=>?_;refine BV (λt:List Int×List (List B0)×List AO=>t.2.1=L∧∃ ex mu,(∀ x,¬ex x)∧mu<=1136018849264∧FI es n s ex t.1 t.2.2 mu) (λt=>t.2.2.length+xM t.1) ⟨rfl,_,_,λ_=>id,YG _,FI.init hs hn.2⟩ ?_;rintro⟨far,_,wait⟩ next ⟨e,ex,mu,a5,_,I⟩ D;simp only at e I ⊢;subst e;unfold S2;have d4:wait.length+xM far<=1136018849264:=by have:=I.mu; omega
   refine A0 (λh0=>?_) λh0=>?_
   . refine AG (x:=gH wait 0) (by omega) (IR (by omega)) (AtM (by omega) (by omega) (by omega) λx H hp=>?_);have⟨v,hv,ev,_,_,I'⟩:=I.pop a5 hp;have d1:=hp.length_eq;simp only[gY] at d1;dsimp only;rw[ev];refine AX (by omega) (by rw[I.len]; omega) (A0 (λc1=>D _ ⟨rfl,_,_,λx h=>by omega,by omega,I'⟩ (by simp only; omega)) λc0=>?_);have b0:AY far v=(gH wait 0).far:=by omega
     generalize (gH wait 0).far=a2 at *;refine AG (by omega) (U v hv) ?_;have a4:∀ (y:Nat) w,Ew es v y w↔(⟨v,y,w⟩:B0)∈es.filter λe=>decide (e.From=(v:Int)):=λy w=>by rw[Ag4]; simp[Ew]
     have d3:=rE (λe:B0=>decide (e.From=(v:Int))) es
     have c2:∀ e∈es.filter (λe=>decide (e.From=(v:Int))),∃ y:Nat,∃ w,e=⟨v,y,w⟩:=λe he=>by have⟨a9,_⟩:=List.mem_filter.1 he;have:=(V e a9).1.2.1;refine⟨e.To.toNat,e.W,?_⟩;have⟨_,_,w⟩:=e;grind
     generalize es.filter (λe=>decide (e.From=(v:Int)))=O at *;refine A9 (σ:=List Int×List AO) (λt i=>(t.1,t.2,i)) 0 O.length (s0:=(far,H)) (by omega) (λk t=>FI es n s (λx=>x=v∧AY far v=a2) t.1 t.2 (H.length+xM far)∧AY t.1 v=a2∧∀ (y:Nat) w,(⟨v,y,w⟩:B0)∈O.take k->AY t.1 y<=a2+w) (by omega) ⟨I',b0,λy w h=>by simp at h⟩ (λk t nx _ hk ht a6=>?_) (λt nx ht=>?_)
     . have⟨fr,wt⟩:=t;have⟨J,d,Z⟩:=ht;simp only at J d Z ⊢;have⟨y,w,ey⟩:=c2 _ (TF hk);have he:Ew es v y w:=(a4 y w).2 (ey▸TF hk);have⟨_,hy,_,_⟩:=Y4 V he;have bv:=J.b v hv;have a8:=J.mu;refine A0 (λ_=>AW hk ?_) λh=>by omega
       rw[ey];simp only;rw[A6 (x:=a2+w) (by omega) (by omega),VK]
       have tk:∀ (x:Nat) w',(⟨v,x,w'⟩:B0)∈O.take (k+1)->(⟨v,x,w'⟩:B0)∈O.take k∨x=y∧w'=w:=λx w' h=>by rw[eZ hk,ey] at h;grind
       refine AX (by omega) (by rw[J.len]; omega) (A0 (λc1=>AX (by omega) (by rw[J.len]; omega) (Ar0 (by omega) λH' d0=>a6 (_,H') ?_)) λc0=>a6 (fr,wt) ⟨J,d,λx w' h=>?_⟩)
       . have r:=J.relax hn.2 V hs (v:=v) (u:=y) (w:=w) he (by omega) (by omega) (wait':=H') (by rw[d]; exact d0);rw[d] at r;refine⟨r.1,r.2,λx w' h=>?_⟩;rcases tk x w' h with h | ⟨rfl,rfl⟩
         . have:=Z x w' h;have hx:=(Y4 V ((a4 x w').2 (AnR h))).2.1;simp only;rw[UP (by rw[J.len]; exact hx)];grind
         . simp only;rw[UP (by rw[J.len]; exact hy),if_pos rfl]; exact sR _
       all_goals grind
     . have⟨fr,wt⟩:=t;have⟨J,d,Z⟩:=ht;simp only at J d Z ⊢;rw[QW] at Z;have a8:=J.mu;refine A0 (λh=>by omega) λ_=>D _ ⟨rfl,λ_=>False,_,λ_=>id,?_,⟨J.len,J.s0,J.b,J.cb,J.way,J.wt,λx hx hf _=>?_,YG _⟩⟩ (by simp only; omega)
       . simp only; omega
       . by_cases e:x=v
         . grind
         . exact J.rel x hx hf λh=>e h.1
   . have hw:wait=[]:=List.length_eq_zero_iff.1 (by omega);subst hw;exact hQ far I.len (I.dist a5 V)
theorem Ar2 {xs ys:List Int} (d:xs.length=n) (D:ys.length=n) (h:∀ x:Nat,x<n->AY xs x=AY ys x):xs=ys:=by refine Ao0 (by omega) λi _ _=>?_;have:=h i (by omega);unfold AY at this;grind
theorem AmN (h:g.N=n) (Z:1<=n∧n<=23) (O:s<n) (W:g.Edges.length<=60) (U:F3 g=0) {far:List Int} (hf:far.length=n) (D:Dist (CY g.Edges) n s λx=>AY far x) {Q:Bool->Prop} (V:Q true):VV g s far Q:=by have d:=JZ U;rw[h] at d;unfold VV;refine AaC h U O (B2 rfl (Ar1 h Z O W d λ_ J Df=>AoW (by omega) ?_));rw[decide_eq_true (Ar2 J hf λx hx=>Df.uniq D hx)]; exact V
theorem Ar3 (hN:g.N=n) (hl:g.Edges.length<=60) (hg:F3 g=0) {far:List Int} (hf:far.length=n) (U:∀ x:Nat,x<n->0<=AY far x∧AY far x<=4611686018427387904) {Q:List B0->Prop}
   (hQ:∀ ts:List B0,ts.length<=60->(∀ e,e∈ts->∃ u x:Nat,∃ w,u<n∧x<n∧e=⟨u,x,w⟩∧Tg (CY g.Edges) (λx=>AY far x) u x)->(∀ u x,Tg (CY g.Edges) (λx=>AY far x) u x->∃ e∈ts,e.From=(u:Int)∧e.To=(x:Int))->Q ts):VW g far Q:=by
 have d:=JZ hg;rw[hN] at d;have a6:=KB (DB d);have hE:=G1 d;unfold VW;refine OT ?_;rw[hg,hf,hN];refine A8 rfl (BT (λh=>absurd rfl h) λ_=>H6 (by omega) (DB d) ?_);dsimp only;generalize CY g.Edges=es at *
 have D:∀ (x:Nat) (K:Bool->Prop),x<n->K (decide (AY far x<4611686018427387904))->MS (AY far x) K:=λx K Z hK=>by unfold MS;exact A0 (λ_=>hK) λh=>by have:=U x Z; omega
 refine A9 (σ:=List B0) (λt i=>(t,i)) 0 es.length (s0:=[]) (by omega) (λk ts=>ts.length<=k∧(∀ e,e∈ts->∃ u x:Nat,∃ w,u<n∧x<n∧e=⟨u,x,w⟩∧Tg es (λx=>AY far x) u x)∧∀ (u x:Nat) w,(⟨u,x,w⟩:B0)∈es.take k->AY far u<4611686018427387904->AY far x<4611686018427387904->AY far x - AY far u=w->(⟨u,x,w⟩:B0)∈ts) (by omega) ⟨YG _,(λe h=>by cases h),λu x w h=>by simp at h⟩ (λk ts next _ hk O a2=>?_) (λts next O=>?_)
 . have⟨_,h2,h3⟩:=O;have a4:=hE _ (TF hk)
   obtain⟨u,x,w,ee⟩:∃ u x:Nat,∃ w,es[k]=⟨u,x,w⟩:=by have:=a4.1;refine⟨es[k].From.toNat,es[k].To.toNat,es[k].W,?_⟩;unfold inE at this;rw[AnT (by omega),AnT (by omega)]
   have a3:Ew es u x w:=by unfold Ew; grind
   have⟨V,Z,_,_⟩:=Y4 hE a3;have bu:=U u V; have bx:=U x Z
   have tk:∀ (a b:Nat) c,(⟨a,b,c⟩:B0)∈es.take (k+1)->(⟨a,b,c⟩:B0)∈es.take k∨a=u∧b=x∧c=w:=λa b c h=>by rw[eZ hk,ee] at h;grind
   have skip:¬(AY far u<4611686018427387904∧AY far x<4611686018427387904∧AY far x - AY far u=w)->next (ts,A4 ((k:Int)+1)):=λa5=>a2 _ ⟨by omega,h2,λa b c h p q r=>by
     rcases tk a b c h with h | ⟨rfl,rfl,rfl⟩
     . exact h3 a b c h p q r
     . exact absurd ⟨p,q,r⟩ a5⟩
   refine A0 (λ_=>AW hk ?_) λh=>by omega
   rw[ee];dsimp only;refine AX (by omega) (by omega) (AX (by omega) (by omega) (D u _ V (A0 (λp=>D x _ Z (A0 (λq=>?_) λq=>skip λh=>q h.2.1)) λp=>skip λh=>p h.1)));rw[A6 (by omega) (by omega)];refine B5 (λr=>AL (by simp only[AfX]; omega) (a2 _ ⟨by simp; omega,λe J=>?_,λa b c h _ _ _=>?_⟩)) λr=>skip λh=>r h.2.2
   . rcases List.mem_append.1 J with J | J
     . exact h2 e J
     . exact⟨u,x,w,V,Z,List.mem_singleton.1 J,w,a3,p,q,r⟩
   all_goals grind
 . rw[QW] at O;refine A0 (λh=>by omega) λ_=>hQ ts (by omega) O.2.1 λu x ⟨w,J,p,q,r⟩=>⟨_,O.2.2 u x w J p q r,rfl,rfl⟩
end
structure BI (E:Nat→Nat→Prop) (n s r:Nat) (L P:List Int):Prop where
 ll:L.length=n
 lp:P.length=n
 lv:Lv E n s r (fun x=>AY L x) fun x=>AY P x
 cnt:r+EH n (fun v=>decide (AY L v<0))+1≤n
structure BJ (E:Nat→Nat→Prop) (n r:Nat) (ts:List B0) (L P:List Int) (k:Nat) (L' P':List Int) (some:Bool):Prop where
 ll:L'.length=n
 lp:P'.length=n
 st:∀ v:Nat,v<n→AY L' v=AY L v∧AY P' v=AY P v∨AY L v = -1∧AY L' v=r+1∧∃ u:Nat,u<n∧AY P' v=u∧E u v∧AY L u=r
 dn:∀ e∈ts.take k,AY L e.From=r→0≤AY L' e.To
 no:some=false→L'=L∧P'=P
 ye:some=true→∃ v:Nat,v<n∧AY L v = -1∧AY L' v=r+1
variable {E:Nat→Nat→Prop} {n s r k:Nat} {ts:List B0} {L P L' P':List Int} {b:Bool}
theorem BI.next (I:BI E n s r L P) (V:s<n) (J:BJ E n r ts L P ts.length L' P' true) (Z:∀ u v,E u v->(u<n∧v<n)∧∃ e∈ts,e.From=(u:Int)∧e.To=(v:Int)):BI E n s (r+1) L' P'∧EH n (λv=>decide (AY L' v<0))<EH n λv=>decide (AY L v<0):=by
 have d:=J.st;have D:=J.dn;rw[QW] at D;have⟨v,U,_,_⟩:=J.ye rfl
 have W:EH n (λv=>decide (AY L' v<0))<EH n λv=>decide (AY L v<0):=sJ (λi hi h=>by have:=d i hi;have h:=of_decide_eq_true h;exact decide_eq_true (by omega)) U (decide_eq_true (by omega)) (decide_eq_false (by omega))
 have O:=I.cnt;refine⟨⟨J.ll,J.lp,I.lv.next V (λu v h=>(Z u v h).1) d λu v _ _=>?_,by omega⟩,W⟩;grind
theorem BI.bfs (I:BI E n s r L P) (J:BJ E n r ts L P ts.length L' P' false) (D:∀ u v,E u v->(u<n∧v<n)∧∃ e∈ts,e.From=(u:Int)∧e.To=(v:Int)):Bfs E n s (λx=>AY L x) λx=>AY P x:=by obtain⟨rfl,rfl⟩:=J.no rfl;have O:=I.cnt;have d:=J.dn;rw[QW] at d;refine I.lv.bfs (λu v h=>(D u v h).1) (λv U=>by have:=I.lv.dom v U; omega) λu v _ _=>?_;grind
theorem AmO {o:List Int} {Q:List Int->Prop} (h:o.length<=1000000) (d:Q o):EI o Q:=by unfold EI;exact L7 (λe=>by subst e; exact d) (AL (by simp; omega) d)
theorem AtN {g:Graph} {to:Nat} (W:g.N=n) (hn:1<=n∧n<=23) (V:s<n) (ht:to<n) (hl:g.Edges.length<=60) (hg:F3 g=0) {far:List Int} (hf:far.length=n) (D:Dist (CY g.Edges) n s λx=>AY far x) (a7:AY far to<4611686018427387904) {Q:List Int->Prop}
   (hQ:∀ (L P:Nat->Int) w,Bfs (Tg (CY g.Edges) λx=>AY far x) n s L P->WayL (Tg (CY g.Edges) λx=>AY far x) n s to (L to).toNat w->Q (UQ w)):dY g s far to Q:=by
 have a3:=JZ hg;rw[W] at a3;have hE:=G1 a3;unfold dY;refine AmN W hn V hl hg hf D (A8 rfl (A0 (λh=>by omega) λ_=>A0 (λh=>by omega) λ_=>AX (by omega) (by omega) (A0 (λh=>by omega) λ_=>Ar3 W hl hg hf D.b λts _ t1 t2=>?_)));rw[W];refine AaB hn.1 hn.2 (AmO (by simp; omega) (AW (by simpa using V) ?_));have ea:∀ x:Nat,x<n->AY ((List.replicate n (-1)).set s 0) x=if s=x then 0 else -1:=λx d=>by rw[UP (by simp[d]),Ac7 d]
 have a2:∀ u v,Tg (CY g.Edges) (λx=>AY far x) u v->u<n∧v<n:=λu v ⟨w,he,_⟩=>by have:=Y4 hE he; exact⟨this.1,this.2.1⟩
 have a8:∀ L P,Bfs (Tg (CY g.Edges) λx=>AY far x) n s L P->0<=L to:=λL P B=>by have⟨k,hk⟩:=D.way to ht a7;exact B.tight D hE hk rfl a7
 generalize Tg (CY g.Edges) (λx=>AY far x)=E at *;rw[VK];refine BV (λt:List Int×List Int×Int=>∃ r:Nat,t.2.2=r∧BI E n s r t.1 t.2.1) (λt=>EH n λv=>decide (AY t.1 v<0)) ⟨0,rfl,?_⟩ ?_
 . refine⟨by simp,by simp,⟨by rw[ea s V,if_pos rfl],λv U=>?_,λv U h=>?_,λv U h=>?_,λu v _ _ h=>?_⟩,?_⟩
   . grind
   . grind
   . grind
   . omega
   . have:=sJ (n:=n) (f:=λ_=>true) (g:=λv:Nat=>decide (AY ((List.replicate n (-1)).set s 0) v<0)) (λ_ _ _=>rfl) V rfl (decide_eq_false (by rw[ea s V,if_pos rfl]; omega));have O:EH n (λ_=>true)<=n:=by unfold EH; simp
     simp only;omega
 rintro⟨L,P,_⟩ next ⟨r,e,I⟩ hnx;simp only at e I ⊢;subst e;have b1:=I.cnt;refine A9 (σ:=List Int×List Int×Bool) (λt i=>(t.1,t.2.1,t.2.2,i)) 0 ts.length (s0:=(L,P,false)) (by omega) (λk t=>BJ E n r ts L P k t.1 t.2.1 t.2.2) (by omega) ⟨I.ll,I.lp,λv _=>.inl ⟨rfl,rfl⟩,λe h=>by simp at h,λ_=>⟨rfl,rfl⟩,(λh=>by cases h)⟩ (λk t nx _ hk J a5=>?_) (λt nx J=>?_)
 . have⟨L',P',b⟩:=t;simp only at J ⊢;have⟨u,v,w,hu,U,ee,he⟩:=t1 _ (TF hk);have c2:=J.st u hu; have d0:=J.st v U; have c0:=I.lv.dom u hu; have c1:=I.lv.dom v U
   have skip:¬(AY L' u=r∧AY L' v<0)->nx (L',P',b,A4 ((k:Int)+1)):=λa6=>a5 (L',P',b) ⟨J.ll,J.lp,J.st,λe h Z=>by
     rw[eZ hk,ee] at h;rcases List.mem_append.1 h with h | h
     . exact J.dn e h Z
     . rw[List.mem_singleton.1 h] at Z ⊢;simp only at Z ⊢;omega,J.no,J.ye⟩
   refine A0 (λ_=>AW hk ?_) λh=>by omega
   rw[ee];simp only;refine CE (λt=>t=decide (AY L' u=r∧AY L' v<0)) (λt ht=>?_) λ_ a4=>AX (by omega) (by rw[J.ll]; omega) (B5 (λO=>AX (by omega) (by rw[J.ll]; omega) (a4 _ ?_)) λO=>a4 _ ?_)
   . rw[ht];refine A0 (λ_=>AX (by omega) (by rw[J.ll]; omega) (AX (by omega) (by rw[J.lp]; omega) ?_)) λa6=>skip a6;rw[A6 (by omega) (by omega),VK];have l1:∀ x:Nat,x<n->AY (L'.set v ((r:Int)+1)) x=if v=x then (r:Int)+1 else AY L' x:=λx d=>UP (by rw[J.ll]; exact d);have p1:∀ x:Nat,x<n->AY (P'.set v (u:Int)) x=if v=x then (u:Int) else AY P' x:=λx d=>UP (by rw[J.lp]; exact d);refine a5 (_,_,true) ⟨by simp[J.ll],by simp[J.lp],λx d=>?_,λe h Z=>?_,(λh=>by cases h),λ_=>⟨v,U,by omega,by rw[l1 v U,if_pos rfl]⟩⟩
     . rw[l1 x d,p1 x d];by_cases ex:v=x
       . grind
       . rw[if_neg ex,if_neg ex]; exact J.st x d
     . have⟨_,x,_,_,d,e',_⟩:=t1 e (AnR h);subst e';simp only at Z ⊢;rw[l1 x d];by_cases ex:v=x
       . rw[if_pos ex]; omega
       . rw[if_neg ex];rw[eZ hk,ee] at h;rcases List.mem_append.1 h with h | h
         . exact J.dn _ h Z
         all_goals grind
   . simp[O]
   . simp[O]
 . have⟨L',P',b⟩:=t;simp only at J ⊢;refine A0 (λh=>by omega) λ_=>?_
   cases b with
   | false=>
     have B:=I.bfs J λu v h=>⟨a2 u v h,t2 u v h⟩;obtain⟨rfl,rfl⟩:=J.no rfl;exact B2 rfl (AkI J.ll J.lp (by omega) B ht (a8 _ _ B) λw a9=>hQ _ _ w B a9)
   | true=>
     have⟨I',b0⟩:=I.next V J λu v h=>⟨a2 u v h,t2 u v h⟩;refine A8 rfl (hnx _ ⟨r+1,?_,I'⟩ b0);simp only;rw[A6 (by omega) (by omega)]; omega
theorem Ar4 {r a x:Int} (D:r=1∨r=4) (h:0<=a∧a<4611686018427387904) (J:0<=x∧x<=4611686018427387904):∃ z,M4 r a x=SE z∧0<=z∧z<=4611686018427387904∧(z<4611686018427387904->z=if r=4 then x else a+x)∧z<=if r=4 then x else a+x:=by
 unfold M4;rw[if_neg (by omega),if_neg (by omega),if_pos (by omega)];by_cases hc:4611686018427387904<=a∨4611686018427387904<=x
 . grind
 . rw[if_neg hc,if_neg (by omega)];by_cases h4:r=4
   . grind
   . rw[if_neg h4,if_neg h4];split
     . rename_i d;rw[lL (by omega) (by omega)] at d;grind
     . rename_i d;rw[lL (by omega) (by omega)] at d;grind
section
variable {p:Plan} {T:List A2} {n k s:Nat} {G:GV}
theorem AeZ {round:Int} {v u:Nat} {a:Int} (U:xL p n T) (ha:a<4611686018427387904) (V:BX p.Kind round=1∨BX p.Kind round=4) (W:Ac2 p n round G) (hk:cJ p (G v)=true) (Z:u<n) (ht:(HK p round u (G u)).2=true) (hm:(⟨v,u,a⟩:A2)∈T)
   (hz:(if BX p.Kind round=4 then (HK p round u (G u)).1 else a+(HK p round u (G u)).1)<4611686018427387904):∃ y,G0 p T n round G v=some y∧y<=if BX p.Kind round=4 then (HK p round u (G u)).1 else a+(HK p round u (G u)).1:=by
 have a4:0<=a:=U.pos _ hm;have hA:GI (OW T v) (u:Int)=some a:=(Aa7 U.can (by omega)).2 hm;have hB:GI (L1 n λi=>HK p round i (G i)) (u:Int)=some (HK p round u (G u)).1:=by rw[sK,if_pos ⟨Z,ht⟩]
 have⟨_,hw,hl⟩:=AeY (r:=BX p.Kind round) (by omega) hA hB Z;have⟨_,e,_,_,_,_⟩:=Ar4 V ⟨a4,ha⟩ (W u Z);have⟨J,d,D,a3,_,h⟩:=Ac3 U.can V hw;have a2:0<=d:=U.pos _ a3;have⟨_,_⟩:=Ac4 V a2 (W J D);have hz:zS (BX p.Kind round)=4611686018427387904:=by unfold zS; rw[if_pos (by omega)]
 by_cases hb:d<4611686018427387904
 . have⟨z',O,_,_,_,_⟩:=Ar4 V ⟨a2,hb⟩ (W J D);rw[h,e,O,lL (by omega) (by omega)] at hl;refine⟨z',?_,by omega⟩;unfold G0 fJ;rw[if_pos hk,hw,h,O,AnY];unfold nzW;rw[mM (by unfold EC; omega),hz,if_pos (by simp only; omega)]
 . exfalso
   have O:M4 (BX p.Kind round) d (HK p round J (G J)).1=SE 4611686018427387904:=by unfold M4;grind
   rw[h,e,O,lL (by omega) (by omega)] at hl;omega
structure LInv (E:Nat→Nat→Prop) (n s k:Nat) (G:GV):Prop where
 lv:Lv E n s k (fun v=>(G v).1) fun v=>(G v).2.1
 on:∀ v,v<n→((G v).2.2=true↔(G v).1=k)
def mE (T:List A2) (u v:Nat):Prop:=∃ a,(⟨v,u,a⟩:A2)∈T
structure AhP (p:Plan) (T:List A2) (n s:Nat):Prop where
 pl:CD p=0
 pn:p.N=n
 mat:xL p n T
 sm:∀ t∈T,t.Val≤2147483647
 src:p.Source=s
 sn:s<n
theorem LInv.next (h:AhP p T n s) (hk:p.Kind=1) (hn:n<=4096) (a2:∀ u v,mE T u v->u<n∧v<n) (hG:Ac5 p n G) (I:LInv (mE T) n s k G):LInv (mE T) n s (k+1) (HJ p ((k:Int)+1) G (G0 p T n ((k:Int)+1) G)):=by
 have V:BX p.Kind ((k:Int)+1)=4:=by unfold BX; omega
 have ho:=Y3 h.pl h.pn (by omega) hG ((k:Int)+1);have Z:∀ u,HK p ((k:Int)+1) u (G u)=((u:Int),(G u).2.2):=λu=>if_pos hk
 have hx:∀ v,v<n->((G v).1 = -1∧∃ u:Nat,u<n∧mE T u v∧(G u).1=k∧HJ p ((k:Int)+1) G (G0 p T n ((k:Int)+1) G) v=((k:Int)+1,(u:Int),true))∨(HJ p ((k:Int)+1) G (G0 p T n ((k:Int)+1) G) v=((G v).1,(G v).2.1,false)∧((G v).1 ≠ -1∨∀ u,u<n->mE T u v->(G u).1≠k)):=λv hv=>by
  unfold HJ AbZ;rw[if_pos hk];by_cases ha:(G v).1 = -1
  . cases hy:G0 p T n ((k:Int)+1) G v with
    | none=>
     refine .inr ⟨if_neg (by simp[MU]),.inr λu d ⟨a,U⟩ W=>?_⟩;have⟨y,D,_⟩:=AeZ (round:=(k:Int)+1) (G:=G) h.mat (a:=a) (by have:=h.sm _ U; simp only at this; omega) (.inr V) ho (by unfold cJ; rw[if_pos hk,ha]; rfl) d (by rw[Z]; exact(I.on u d).2 W) U (by rw[if_pos V,Z]; simp only; omega);rw[hy] at D; cases D
    | some y=>
     have⟨u,a,d,U,J,_,O,_⟩:=cK h.mat.can h.mat.pos (.inr V) ho hy;have O:=O V;rw[Z] at O J;exact .inl ⟨ha,u,d,⟨a,U⟩,(I.on u d).1 J,by rw[if_pos ⟨rfl,ha⟩]; simp only[MU]; rw[O]⟩
  all_goals grind
 generalize HJ p ((k:Int)+1) G (G0 p T n ((k:Int)+1) G)=G' at hx;have hd:=I.lv.dom;refine⟨I.lv.next h.sn a2 (λv hv=>?_) λu v W d=>?_,λv hv=>?_⟩
 all_goals grind
theorem LInv.GS (h:AhP p T n s) (hk:p.Kind=1) (D:n<=4096) (d:∀ u v,mE T u v->u<n∧v<n):∀ k,LInv (mE T) n s k (GS p T n k)
 | 0=>by
  have e:∀ v:Nat,gV0 p v=if (v:Int)=(s:Int) then (0,-1,true) else (-1,-1,false):=λv=>by unfold gV0 WX;rw[h.src];grind
  show LInv (mE T) n s 0 (gV0 p);refine⟨⟨?_,λv _=>?_,λv _ J=>?_,λv _ J=>?_,λu v _ J _=>?_⟩,λv _=>?_⟩ <;> grind
 | k+1=>LInv.next h hk D d (cL h.pl h.pn h.mat (by omega) k) (LInv.GS h hk D d k)
structure PInv (es:List B0) (n s:Nat) (G:GV):Prop where
 s0:(G s).1=0
 way:∀ v,v<n→(G v).1<4611686018427387904→∃ k,Wy es s k v (G v).1
 rel:∀ u v w,u<n→v<n→Ew es u v w→(G u).2.2=false→(G v).1≤(G u).1+w
theorem PInv.next {es:List B0} (h:AhP p T n s) (hk:p.Kind=2) (hm:∀ u v w,Ew es u v w↔(⟨v,u,w⟩:A2)∈T) (hG:Ac5 p n G) (I:PInv es n s G):PInv es n s (HJ p ((k:Int)+1) G (G0 p T n ((k:Int)+1) G)):=by
 have hr:BX p.Kind ((k:Int)+1)=1:=by unfold BX; omega
 have ho:=Y3 h.pl h.pn (by omega) hG ((k:Int)+1);have ht:∀ u,HK p ((k:Int)+1) u (G u)=((G u).1,(G u).2.2):=λu=>by unfold HK; rw[if_neg (by omega),if_neg (by omega)]
 have hb:∀ v,v<n->0<=(G v).1∧(G v).1<=4611686018427387904:=λv J=>(hG v J).1 (.inl hk)
 have h1:∀ v y,G0 p T n ((k:Int)+1) G v=some y->∃ u w,u<n∧Ew es u v w∧(G u).2.2=true∧y=w+(G u).1∧0<=w:=λv y Z=>by have⟨u,a,U,O,D,_,_,_⟩:=cK h.mat.can h.mat.pos (.inl hr) ho Z;grind
 have h2:∀ u v w,u<n->Ew es u v w->(G u).2.2=true->w+(G u).1<4611686018427387904->∃ y,G0 p T n ((k:Int)+1) G v=some y∧y<=w+(G u).1:=λu v w U W D d=>by have O:=(hm _ _ _).1 W;have:=AeZ (round:=(k:Int)+1) (G:=G) (v:=v) h.mat (a:=w) (by have:=h.sm _ O; simp only at this; omega) (.inl hr) ho (by unfold cJ; rw[if_neg (by omega),if_neg (by omega)]) U (by rw[ht]; exact D) O (by rw[if_neg (by omega),ht]; exact d);grind
 have V:∀ v,HJ p ((k:Int)+1) G (G0 p T n ((k:Int)+1) G) v=if (MU (G0 p T n ((k:Int)+1) G v)).2=true∧(MU (G0 p T n ((k:Int)+1) G v)).1<(G v).1 then ((MU (G0 p T n ((k:Int)+1) G v)).1,(G v).2.1,true) else ((G v).1,(G v).2.1,false):=λv=>by unfold HJ AbZ;grind
 have V:∀ v,(∃ y,G0 p T n ((k:Int)+1) G v=some y∧y<(G v).1∧HJ p ((k:Int)+1) G (G0 p T n ((k:Int)+1) G) v=(y,(G v).2.1,true))∨((∀ y,G0 p T n ((k:Int)+1) G v=some y->(G v).1<=y)∧HJ p ((k:Int)+1) G (G0 p T n ((k:Int)+1) G) v=((G v).1,(G v).2.1,false)):=λv=>by
   rw[V v]
   cases Z:G0 p T n ((k:Int)+1) G v with
   | none=>exact .inr ⟨(λy h=>by cases h),if_neg (by simp[MU])⟩
   | some y=>
     by_cases d:y<(G v).1
     . exact .inl ⟨y,rfl,d,if_pos ⟨rfl,d⟩⟩
     . exact .inr ⟨λ_ h=>by have:=TG h; omega,if_neg λh=>d h.2⟩
 generalize HJ p ((k:Int)+1) G (G0 p T n ((k:Int)+1) G)=G' at V;refine⟨?_,λv J d=>?_,λu v w U J W a2=>?_⟩
 . have h0:=I.s0;grind
 . rcases V v with⟨y,Z,a4,e⟩ | ⟨_,e⟩
   . rw[e] at d ⊢;simp only at d ⊢;have⟨u,w,U,W,_,_,_⟩:=h1 v y Z;have⟨k',a3⟩:=I.way u U (by omega);exact⟨k'+1,u,_,w,a3,W,by omega⟩
   . rw[e] at d ⊢; exact I.way v J d
 . rcases V u with⟨y,Z,a4,e⟩ | ⟨_,e⟩
   . rw[e] at a2; cases a2
   . rw[e];simp only
     have a5:(G' v).1<=(G v).1∧∀ y,G0 p T n ((k:Int)+1) G v=some y->(G' v).1<=y:=by grind
     cases D:(G u).2.2 with
     | false=>have:=I.rel u v w U J W D; omega
     | true=>
       grind
theorem PInv.GS {es:List B0} (h:AhP p T n s) (hk:p.Kind=2) (d:∀ u v w,Ew es u v w↔(⟨v,u,w⟩:A2)∈T):∀ k,PInv es n s (GS p T n k)
 | 0=>by
  have e:∀ v:Nat,gV0 p v=if (v:Int)=(s:Int) then (0,-1,true) else (4611686018427387904,-1,false):=λv=>by unfold gV0 WX AtB;rw[h.src];grind
  show PInv es n s (gV0 p);refine⟨by rw[e,if_pos rfl],λv _ D=>?_,λu v w _ _ O _=>?_⟩
  . rw[e] at D ⊢;split at D
    . rename_i U;rw[if_pos U]; exact⟨0,by omega,rfl⟩
    . simp at D
  . have:=h.mat.pos _ ((d _ _ _).1 O);grind
 | k+1=>PInv.next h hk d (cL h.pl h.pn h.mat (by omega) k) (PInv.GS h hk d k)
theorem AtO {m:Nat} {O:Int} (h:AhP p T n s) (hk:p.Kind=1∨p.Kind=2) (W:n<=1000) (E:AtE p T ((n:Int)+1) m O):O=1∧m<=n∧∀ v,v<n->(GS p T n m v).2.2=false:=by
 have hm:mP p n=(n:Int)+1:=by unfold mP; omega
 have U:∀ k,k<=m->P1 p (RT p T k) k=((EH n λi=>(GS p T n k i).2.2:Nat):Int):=λk _=>by rw[AkB h.pl h.pn λj _=>E.lt j (by omega),if_neg (by omega)];grind
 have V:O=1:=by
   rcases AmI h.pl h.pn W h.mat (hm▸E) with e | e
   . exact e
   . omega
 refine⟨V,?_,λv J=>?_⟩
 . refine AfV λ_=>?_;have:=(WC (E.lt n (by omega))).1;rw[U n (by omega)] at this;have⟨v,J,D⟩:=Y2 (n:=n) (f:=λi=>(GS p T n n i).2.2) (by omega);have:=Av1 h.pl h.pn h.mat (by omega) J D;omega
 . have d:=E.at_;rw[V] at d;unfold WB at d;by_cases hL:P1 p (RT p T m) m=0
   . rw[U m (YG _)] at hL
     cases Z:(GS p T n m v).2.2 with
     | false=>rfl
     | true=>
      have:=sJ (n:=n) (f:=λi=>(GS p T n m i).2.2) (g:=λ_=>false) (λ_ _ h=>by cases h) J Z rfl;omega
   all_goals omega
theorem LInv.bfs {m:Nat} (O:m<=n) (I:LInv (mE T) n s m G) (D:∀ v,v<n->(G v).2.2=false) (d:∀ u v,mE T u v->u<n∧v<n):Bfs (mE T) n s (λv=>(G v).1) (λv=>(G v).2.1):=by
 have J:∀ v,v<n->(G v).1≠m:=λv h e=>by have:=(I.on v h).2 e; rw[D v h] at this; cases this
 exact I.lv.bfs d (λv h=>by have:=I.lv.dom v h; have:=J v h; omega) λu v U e=>absurd e (J u (d u v U).1)
theorem PInv.dist {es:List B0} (I:PInv es n s G) (D:GA n es) (hp:p.Kind=2) (J:Ac5 p n G) (d:∀ v,v<n->(G v).2.2=false):Dist es n s (λv=>(G v).1):=
 ⟨I.s0,λx O=>(J x O).1 (.inl hp),I.way,λu x w h=>by have:=Y4 D h; exact I.rel u x w this.1 this.2.1 h (d u this.1)⟩
end
structure Abs where
 room:Nat
 row:List Nat
 fs:List AK
 taken:Nat
variable {b:BR} {s:Abs}
theorem AmP {xs:List Int} {i:Nat} {Q:List Int->Prop} (hi:i<xs.length) (D:xs.length<=64) (h:Q (xs.eraseIdx i)):FD xs (i:Int) (A4 ((i:Int)+1)) Q:=by
 unfold FD;rw[A6 (by omega) (by omega)];have d:((i:Int)+1).toNat=i+1:=by omega
 refine⟨by omega,by omega,by omega,B5 (λ_=>by omega) (λ_=>⟨by omega,by omega,by omega,⟨by omega,by omega,by omega,?_⟩⟩)⟩;grind
theorem AwA {xs:List Int} {Q:Int->Prop} (W:xs≠[]) (hl:xs.length<=1000000) (hQ:∀ m,m∈xs->(∀ x∈xs,m<=x)->Q m):JP xs Q:=by
 unfold JP;have D:0<xs.length:=List.length_pos_iff.2 W;refine A0 (λh=>by omega) (λ_=>AG (by omega) (x:=xs[0]) (by simp[D]) ?_)
 refine BV (λs:Int×Int=>∃ i:Nat,s.2=i∧1<=i∧i<=xs.length∧s.1∈xs∧∀ (j:Nat) (V:j<i) (U:j<xs.length),s.1<=xs[j]) (λs=>xs.length - s.2.toNat) ⟨1,rfl,by omega,by omega,TF _,λj V U=>by
   have:j=0:=by omega
   subst this; exact sR _⟩ ?_
 rintro⟨Z,_⟩ next ⟨i,hi,_,_,d,J⟩ hnext;simp only at hi d J;subst hi;refine A0 (λh=>?_) (λh=>hQ Z d λx hx=>?_)
 . have O:i<xs.length:=by omega
   refine AG (by omega) (x:=xs[i]) (by simp[O]) (hnext _ ⟨i+1,?_,by omega,by omega,?_,?_⟩ ?_)
   . simp only; rw[A6 (by omega) (by omega)]; simp
   . grind
   . grind
   . simp only; rw[A6 (by omega) (by omega)]; omega
 . obtain⟨j,V,rfl⟩:=WK hx;grind
theorem Ar5 {xs:List Int} {m:Int} {Q:Int->Prop} (W:xs.length<=1000000) (U:m∈xs) (V:∀ (i:Nat) (hi:i<xs.length),xs[i]=m->(∀ (j:Nat) (J:j<i) (O:j<xs.length),xs[j]≠m)->Q i):EJ xs m Q:=by
 unfold EJ KH;refine BV (λs:Int=>∃ i:Nat,s=i∧i<=xs.length∧∀ (j:Nat) (J:j<i) (O:j<xs.length),xs[j]≠m) (λs=>xs.length - s.toNat) ⟨0,rfl,by omega,λj J=>by omega⟩ ?_;rintro _ next ⟨i,rfl,_,D⟩ hnext;refine A0 (λh=>?_) (λh=>?_)
 . have d:i<xs.length:=by omega
   refine AG (by omega) (x:=xs[i]) (by simp[d]) (B5 (λe=>V i d e D) (λe=>hnext _ ⟨i+1,by rw[A6 (by omega) (by omega)]; simp,by omega,?_⟩ ?_))
   . grind
   . rw[A6 (by omega) (by omega)]; omega
 . exfalso;obtain⟨j,J,rfl⟩:=WK U;grind
structure GC where
 p:Plan
 g:Graph
 T:List A2
 lim:Int
 m:Nat
 e:Int
 n:Nat
 ch:List HY
 R:Nat
 C:Nat
structure GC.Ok (c:GC):Prop where
 run:MRun c.p c.g c.lim c.T c.m c.e
 pn:c.p.N=c.n
 n4:c.n≤1000
 lm:c.lim≤60
 R1:1≤c.R∧c.R≤5
 C1:1≤c.C∧c.C≤5
 chl:c.ch.length≤1000
def aK (n k i:Nat):Nat:=i*n / k
theorem AkJ {n k i:Nat} (d:n<=4096) (hk:1<=k∧k<=8) (hi:i<=k):AQ n k i=(aK n k i:Int):=by unfold AQ; rw[if_pos ⟨⟨by omega,by omega⟩,by omega,by omega⟩];unfold clI; grind[aK]
theorem Ar6 {n k i j:Nat} (h:i<=j):aK n k i<=aK n k j:=Nat.div_le_div_right (wS _ h)
theorem Af0 (n k:Nat):aK n k 0=0:=by unfold aK; simp
theorem sL (n:Nat) {k:Nat} (h:1<=k):aK n k k=n:=by unfold aK; exact Nat.mul_div_cancel_left n (by omega)
theorem Ay4 {n k i:Nat} (h:1<=k) (hi:i<=k):aK n k i<=n:=by have:=Ar6 (n:=n) (k:=k) hi; grind[sL]
theorem Ar7 {n l m:Nat} (h:l+m<=n) (f:Nat->Int×Bool):MK ⟨n,L1 n f⟩ l ((l+m:Nat):Int)=⟨m,L1 m λk=>f (l+k)⟩:=by
 obtain⟨r,rfl⟩:∃ r,n=l+(m+r):=⟨n - (l+m),by omega⟩;have J:(L1 l f).filter (λt=>decide ((l:Int)<=t.At∧t.At<((l+m:Nat):Int)))=[]:=List.filter_eq_nil_iff.2 λx d=>by have:=mL d; simp; omega
 have D:((L1 m λj=>f (l+j)).filter λx=>decide ((l:Int)<=l+x.At∧l+x.At<((l+m:Nat):Int)))=L1 m λj=>f (l+j):=List.filter_eq_self.2 λx d=>by have:=mL d; simp; omega
 have O:((L1 r λj=>f (l+(m+j))).filter λx=>decide ((l:Int)<=l+(m+x.At)∧l+(m+x.At)<((l+m:Nat):Int)))=[]:=List.filter_eq_nil_iff.2 λx d=>by have:=mL d; simp; omega
 unfold MK;congr 1
 . omega
 . simp only;rw[AeQ,AeQ m r,fA,J,AiK,gW,fA,Ad2];rw[Ao2,Ao2];simp only[Function.comp_def];rw[D,O];simp;exact(AaI λx _=>by have⟨a,v⟩:=x; show(⟨(l:Int)+a - l,v⟩:B9)=⟨a,v⟩; congr 1; omega).trans (List.map_id _)
section
variable (c:GC)
def GC.G (k:Nat):GV:=GS c.p c.T c.n k
def GC.tV (t:Nat):Nat->Int×Bool:=λv=>HK c.p t v (c.G (t - 1) v)
def GC.vV (t:Nat):Vec:=⟨c.n,L1 c.n (c.tV t)⟩
def GC.rg (t:Nat):Int:=BX c.p.Kind t
def GC.ls (i:Nat):Nat:=aK c.n c.R i
def GC.ln (i:Nat):Nat:=aK c.n c.R (i+1) - aK c.n c.R i
def GC.cs (j:Nat):Nat:=aK c.n c.C j
def GC.sg (k i:Nat):State:=CU (c.ls i) (c.ln i) (c.G k)
def GC.U:Nat:=if c.e=3 then c.m+2 else c.m+1
def GC.st (t:Nat):Int:=if t+1=c.U then c.e else 0
def GC.ovV (t:Nat) (v:Nat):Prop:=cJ c.p (c.G (t - 1) v)=true∧∃ w,fJ c.p c.T c.n t (c.G (t - 1)) v=some w∧(IQ w).2=false
def GC.ovP (t i:Nat):Prop:=t≠0∧∃ k,k<c.ln i∧c.ovV t (c.ls i+k)
noncomputable def GC.ov (t i:Nat):Bool:=@decide (c.ovP t i) (Classical.propDecidable _)
theorem GC.ov_iff {t i:Nat}:c.ov t i=true↔c.ovP t i:=@decide_eq_true_iff _ (Classical.propDecidable _)
def GC.lvV (t:Nat) (v:Nat):Bool:=if c.p.Kind=5 then (c.G t v).1==0 else (c.G t v).2.2
def GC.lv (t i:Nat):Int:=if c.p.Kind=4∧c.p.Length<=t then 0 else ((EH (c.ln i) λk=>c.lvV t (c.ls i+k):Nat):Int)
def GC.tb (i j:Nat):List A2:=Tb c.n c.n c.T c.R c.C i j
def GC.rows (i j:Nat):Rows:=BW (JX c.n c.R i) (JX c.n c.C j) (c.tb i j)
def GC.cols (i j:Nat):BB:=UB (JX c.n c.R i) (JX c.n c.C j) (NV (JX c.n c.C j) (c.tb i j))
def GC.piece (t j:Nat):Vec:=FZ (c.vV t) c.C j
def GC.slice (t i j:Nat):Vec:=S6 (FZ (c.vV t) c.R i) c.n c.R c.C i j
def GC.blk (t i j:Nat):List BM:=AvU (c.rg t) c.n c.n c.T (c.vV t) c.R c.C i j
end
variable {c:GC}
section
theorem GC.Ok.mp (h:c.Ok):(c.n:Int)<=4096∧JG c.R∧JG c.C:=by have:=h.n4; have:=h.R1; have:=h.C1; unfold JG; omega
theorem GC.Ok.lowR (h:c.Ok) {i:Nat} (hi:i<=c.R):AQ c.n c.R i=(c.ls i:Int):=AkJ (by have:=h.n4; omega) (by have:=h.R1; omega) hi
theorem GC.Ok.lowC (h:c.Ok) {j:Nat} (d:j<=c.C):AQ c.n c.C j=(c.cs j:Int):=AkJ (by have:=h.n4; omega) (by have:=h.C1; omega) d
theorem GC.Ok.ls_ln (h:c.Ok) (i:Nat):c.ls i+c.ln i=c.ls (i+1):=by have:=Ar6 (n:=c.n) (k:=c.R) (show i<=i+1 by omega); unfold GC.ls GC.ln; omega
theorem GC.Ok.ls_n (h:c.Ok) {i:Nat} (hi:i<c.R):c.ls i+c.ln i<=c.n:=by rw[h.ls_ln]; exact Ay4 h.R1.1 (by omega)
theorem GC.Ok.siz (h:c.Ok) {i:Nat} (hi:i<c.R):JX c.n c.R i=(c.ln i:Int):=by
 have e:AQ c.n c.R ((i:Int)+1)=(c.ls (i+1):Int):=by have:=h.lowR (i:=i+1) (by omega); grind
 unfold JX; rw[if_pos (by omega),e,h.lowR (by omega),<-h.ls_ln i]; omega
theorem GC.Ok.vec (h:c.Ok) (t:Nat):VecP (c.vV t):=AeR (by have:=h.n4; omega) _
theorem GC.Ok.out_part (h:c.Ok) {k i:Nat} (hi:i<c.R):ZZ c.p (c.sg k i) ((k:Int)+1)=FZ (c.vV (k+1)) c.R i:=by
 have D:=h.ls_n hi;have e:AQ c.n c.R ((i:Int)+1)=(c.ls (i+1):Int):=by have:=h.lowR (i:=i+1) (by omega); grind
 have d:=Ar7 D (c.tV (k+1));rw[oW (h.vec _) h.mp.2.1 (by omega)];show _=MK ⟨c.n,L1 c.n (c.tV (k+1))⟩ (AQ c.n c.R i) (AQ c.n c.R ((i:Int)+1));rw[e,h.lowR (by omega),<-h.ls_ln i,d];unfold GC.sg;rw[Ac0 h.run.rp (by have:=h.pn; omega)];rfl
theorem GC.Ok.fit (h:c.Ok) {t j:Nat} (hj:j<c.C):At5 c.n c.R c.C j ((List.range c.R).map λi:Nat=>c.slice t i j)=(c.piece t j,0):=by
 have V:=h.vec t;have hp:=h.mp.2.1; have Z:=h.mp.2.2; have a4:=hp; have a5:=Z;unfold JG at a4 a5;have U:(0:Int)<=c.n:=by omega
 have W:=h.mp.1;have hg:∀ i:Nat,i<c.R->XY (c.R:Int) (c.C:Int) (i:Int) (j:Int):=λi hi=>⟨⟨hp,Z⟩,by omega,by omega⟩;have a8:=UI (n:=c.n) (k:=c.C) (i:=j); have a2:=UI (n:=c.n) (k:=c.C) (i:=(j:Int)+1); have O:=IX (n:=c.n) (k:=c.C) (show(j:Int)<=(j:Int)+1 by omega);have b0:=a2.2 U;have d:∀ x,AQ c.n c.C j<=aJ (AQ c.n c.C j) (AQ c.n c.C ((j:Int)+1)) x∧aJ (AQ c.n c.C j) (AQ c.n c.C ((j:Int)+1)) x<=AQ c.n c.C ((j:Int)+1):=λx=>by unfold aJ; repeat' split <;> omega
 unfold At5 AhE;rw[if_neg (λh=>h ⟨⟨U,W⟩,⟨hp,Z⟩,by omega,by omega⟩),if_neg (by simp),if_pos]
 . have D:=AeK V (u:=λi:Nat=>c.slice t i j) (cl:=λi:Nat=>aJ (AQ c.n c.C j) (AQ c.n c.C ((j:Int)+1)) (AQ c.n c.R i)) (λi=>by have:=d (AQ c.n c.R i); show _∧_<=(c.n:Int); omega) (λi=>sG O (IX (by omega))) c.R 0 (λk _=>by
    have J:=(oX V (hg k (by omega))).1;have h1:=d (AQ c.n c.R k); have h2:=d (AQ c.n c.R ((k:Int)+1));show FY (S6 (FZ (c.vV t) c.R k) c.n c.R c.C k j)=_;have a6:S6 (FZ (c.vV t) c.R k) c.n c.R c.C k j=_:=J;rw[a6,IW]
    . rw[Int.natCast_add,Int.natCast_one]; rfl
    . exact Ak4 V (by show(0:Int)<=aJ (AQ c.n c.C j) (AQ c.n c.C ((j:Int)+1)) (AQ c.n c.R k); omega) (sG O (IX (by omega))) (by show aJ (AQ c.n c.C j) (AQ c.n c.C ((j:Int)+1)) (AQ c.n c.R ((k:Int)+1))<=(c.n:Int); omega))
   have a3:uM c.n c.R:=⟨⟨U,W⟩,hp⟩;simp only[Int.natCast_zero,AeA,aT] at D;rw[AjT a3] at D;have e0:aJ (AQ c.n c.C j) (AQ c.n c.C ((j:Int)+1)) 0=AQ c.n c.C j:=by unfold aJ; omega
   have e1:aJ (AQ c.n c.C j) (AQ c.n c.C ((j:Int)+1)) c.n=AQ c.n c.C ((j:Int)+1):=by unfold aJ; omega
   rw[e0,e1,mF,<-List.range_eq_range'] at D;unfold GC.piece;rw[oW V Z (by omega)]; exact D
 . intro i hi;have a9:i<c.R:=by grind
   have e:((List.range c.R).map λi:Nat=>c.slice t i j)[i]=S6 (FZ (c.vV t) c.R i) c.n c.R c.C i j:=by simp[GC.slice]
   have J:=oX V (hg i (by omega));have h1:=d (AQ c.n c.R i); have h2:=d (AQ c.n c.R ((i:Int)+1));have a7:S6 (FZ (c.vV t) c.R i) c.n c.R c.C i j=_:=J.1;rw[e,a7];exact⟨Ak4 V (by show(0:Int)<=aJ (AQ c.n c.C j) (AQ c.n c.C ((j:Int)+1)) (AQ c.n c.R i); omega) (sG O (IX (by omega))) (by show aJ (AQ c.n c.C j) (AQ c.n c.C ((j:Int)+1)) (AQ c.n c.R ((i:Int)+1))<=(c.n:Int); omega),J.2.symm⟩
end
end Go.Proofs.YtieniichmjgmcaaGreat
