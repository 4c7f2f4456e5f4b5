import Derived.Test.YtkbkaodgfedfmaaGreatOK
import Derived.Test.YtkbkaodgfedfmaaGreatT
import Derived.Test.YtkbkaodgfedfmaaGreatFwP
import Derived.Test.YtkbkaodgfedfmaaGreatPlnH
namespace Go.Proofs.YtkbkaodgfedfmaaGreat
open Go Go.Fw
set_option linter.unusedVariables false
set_option linter.unusedSimpArgs false
variable {limit st:Int}
def stepX (p:Plan) (T:List A3) (s:State) (round:Int):List B8×Int:=gK (JD p.Kind round) p.N p.N T (XX p s round) (JU p s).1 (JU p s).2
def XY (p:Plan) (T:List A3) (s:State) (round:Int):Vec×Int:=if (stepX p T s round).2≠0 then (zV,(stepX p T s round).2) else cE (JD p.Kind round) p.N (stepX p T s round).1
def QD (p:Plan) (T:List A3) (s:State) (round:Int):State×Int:=if (XY p T s round).2≠0 then (zSt,(XY p T s round).2) else (dM p s round (XY p T s round).1,0)
structure Whole (p:Plan) (s:State):Prop where
 st:StP p s
 ok:dJ s
 lo:s.Low=0
 hi:s.High=p.N
 va:∀ x∈s.A,EZ x
theorem Whole.sure {p:Plan} {s:State} (h:Whole p s):E3 p s=s:=if_pos h.st
theorem zT {p:Plan} (hp:CS p=0):Whole p (NY p 0 p.N):=by
 have hn:=(CG hp).2.1;have h:=AiC (p:=p) (low:=0) (high:=p.N) hp (by omega) (by omega) (by omega);refine⟨h.1,h.2,?_,?_,?_⟩
 . unfold NY; rw[if_pos ⟨hp,by omega,by omega,by omega⟩]; rfl
 . unfold NY; rw[if_pos ⟨hp,by omega,by omega,by omega⟩]; rfl
 . unfold NY; rw[if_pos ⟨hp,by omega,by omega,by omega⟩];intro x d;obtain⟨i,hi,rfl⟩:=List.mem_map.1 (show x∈QQ _ _ from d);have hi:=List.mem_range.1 hi;simp only;unfold dK An6 EZ
   repeat' split
   all_goals (simp only; omega)
theorem AiJ {o:Option Int} (h:∀ y,o=some y->EZ y):EZ (VZ o).1:=by
 cases o with
 | none=>unfold EZ VZ; simp
 | some y=>exact h y rfl
theorem Whole.upd {p:Plan} {s:State} (h:Whole p s) {round:Int} (hr:0<=round∧round<=1000000) {y:Vec} (K:∀ x∈y.Items,EZ x.Val):Whole p (dM p s round y):=by
 have d:=Am8 (round:=round) (y:=y) h.st h.ok;refine⟨d.1,d.2.1,d.2.2.1.trans h.lo,d.2.2.2.trans h.hi,?_⟩;unfold dM;rw[h.sure];split
 . intro x J;obtain⟨i,hi,rfl⟩:=List.mem_map.1 (show x∈QQ _ _ from J);have hi:=List.mem_range.1 hi
   have ha:EZ (BD s.A i):=by
    have D:i<s.A.length:=by have:=h.st.2.2.2.2.1; omega
    have:BD s.A i=s.A[i]:=by unfold BD; simp[D]
    rw[this]; exact h.va _ (List.getElem_mem D)
   have hg:EZ (VZ (FW y.Items i)).1:=AiJ λz O=>K _ (X6 O);have U:EZ round:=by unfold EZ; omega
   show EZ (Ac3 p s round i (FW y.Items i)).1;unfold Ac3;simp only
   repeat' split
   all_goals first | assumption | (unfold EZ; omega)
 . exact h.va
theorem AiK {r n:Int} {l:List B8}:∀ x∈(cE r n l).1.Items,EZ x.Val:=by
 unfold cE
 repeat' split
 all_goals first | (intro x h; cases h; done) | skip
 intro x h;obtain⟨s,hs,d⟩:=List.mem_filterMap.1 h;unfold sW at d;split at d
 . cases d; exact AjT _
 . cases d
theorem AfM {p:Plan} {T:List A3} {s:State} {round:Int}:∀ x∈(XY p T s round).1.Items,EZ x.Val:=by
 unfold XY;split
 . intro x d; cases d
 . exact AiK
def W8 (p:Plan) (T:List A3):Nat->State
 | 0=>NY p 0 p.N
 | k+1=>(QD p T (W8 p T k) ((k:Int)+1)).1
def Z8 (p:Plan) (T:List A3) (limit:Int) (k:Nat):Int:=if UJ p (W8 p T k) k=0 then 1 else if (k:Int)=limit then 2 else if (QD p T (W8 p T k) ((k:Int)+1)).2≠0 then 3 else 0
theorem zU {P:Nat->Prop}:∀ m:Nat,P m->∃ n,n<=m∧(∀ k,k<n->¬P k)∧P n
 | 0,h=>⟨0,Nat.le_refl _,λk hk=>by omega,h⟩
 | m+1,h=>by
  by_cases h':∃ j,j<=m∧P j
  . obtain⟨j,hj,hp⟩:=h';obtain⟨n,h1,D,d⟩:=zU j hp;exact⟨n,by omega,D,d⟩
  . exact⟨m+1,Nat.le_refl _,λk hk hp=>h' ⟨k,by omega,hp⟩,h⟩
termination_by m=>m
decreasing_by omega
structure An9 (p:Plan) (T:List A3) (limit:Int) (n:Nat) (st:Int):Prop where
 le:(n:Int)≤limit
 lt:∀ k,k<n→Z8 p T limit k=0
 at_:Z8 p T limit n=st
 ne:st≠0
theorem AkH (p:Plan) (T:List A3) (h:0<=limit):∃ n st,An9 p T limit n st:=by
 obtain⟨n,h1,D,d⟩:=zU (P:=λk=>Z8 p T limit k≠0) limit.toNat (by
  unfold Z8;split
  . simp
  . rw[if_pos (by omega)]; simp)
 exact⟨n,_,by omega,λk hk=>Decidable.of_not_not (D k hk),rfl,d⟩
theorem aY {p:Plan} {T:List A3} {k:Nat} (h:Z8 p T limit k=0):UJ p (W8 p T k) k≠0∧(k:Int)≠limit∧(QD p T (W8 p T k) ((k:Int)+1)).2=0:=by
 unfold Z8 at h;split at h
 . cases h
 . split at h
   . cases h
   . split at h
     . cases h
     . rename_i J d D;exact⟨J,d,Decidable.of_not_not D⟩
theorem AfN {p:Plan} {T:List A3} {s:State} {round:Int} (h:(QD p T s round).2=0):(XY p T s round).2=0∧QD p T s round=(dM p s round (XY p T s round).1,0):=by
 unfold QD at h ⊢;by_cases h0:(XY p T s round).2≠0
 . rw[if_pos h0] at h; exact absurd h h0
 . rw[if_neg h0]; exact⟨Decidable.of_not_not h0,rfl⟩
theorem AiL {p:Plan} {T:List A3} (d:0<=limit):∀ {k:Nat},(∀ j,j<k->Z8 p T limit j=0)->(k:Int)<=limit
 | 0,_=>d
 | k+1,h=>by have ih:=AiL (k:=k) d λj hj=>h j (by omega);have:=aY (h k (by omega));omega
theorem tN {p:Plan} {T:List A3} (hp:CS p=0) (d:0<=limit∧limit<=8192):∀ {k:Nat},(∀ j,j<k->Z8 p T limit j=0)->Whole p (W8 p T k)
 | 0,_=>zT hp
 | k+1,h=>by have ih:=tN (k:=k) hp d λj hj=>h j (by omega);have hk:=AiL d.1 h;have:=aY (h k (by omega));have e:=(AfN this.2.2).2;show Whole p (QD p T (W8 p T k) ((k:Int)+1)).1;rw[e];exact ih.upd (by omega) AfM
def nzW (r:Int) (w:AL):Option Int:=if (LJ w).1≠zS r then some (LJ w).1 else none
def gX (p:Plan) (g:Int×Int×Bool):Bool:=if p.Kind=1 then g.1 == -1 else if p.Kind=5 then g.1==0 else true
def rG (p:Plan) (T:List A3) (n:Nat) (round:Int) (G:GV) (v:Nat):Option AL:=NV (JD p.Kind round) n (FW (QA T v)) (FW (KU n λi=>gV p round i (G i)))
def pJ (p:Plan) (T:List A3) (n:Nat) (round:Int) (G:GV) (v:Nat):Option Int:=if gX p (G v)=true then (rG p T n round G v).bind (nzW (JD p.Kind round)) else none
theorem AdU {r:Int} {s:B8} {x:AM} (h:sW r s=some x):x.At=s.At:=by
 unfold sW at h;split at h
 . cases h; rfl
 . cases h
theorem AiM {r:Int}:∀ {l:List B8},Rise l->∀ i:Int,FW (l.filterMap (sW r)) i=(lk l i).bind (nzW r)
 | [],_,i=>rfl
 | s :: l,h,i=>by
  have hr:Rise l:=(List.pairwise_cons.1 h).2;have d:=(List.pairwise_cons.1 h).1;have J:=AiM (r:=r) hr i;rw[List.filterMap_cons,DT]
  cases hn:sW r s with
  | none=>
   rw[J];by_cases e:i=s.At
   . rw[if_pos e,UD λx K=>by have:=d x K; omega];simp only[Option.bind_none,Option.bind_some];unfold sW at hn; unfold nzW;split at hn
     . cases hn
     . rename_i D; rw[if_neg D]
   . rw[if_neg e]
  | some x=>
   rw[LL,AdU hn,J];by_cases e:i=s.At
   . rw[if_pos e,if_pos e];unfold sW at hn; unfold nzW;split at hn
     . rename_i D; cases hn; simp only[Option.bind_some]; rw[if_pos D]
     . cases hn
   . rw[if_neg e,if_neg e]
theorem AdV {r n:Int} {l:List B8} (J:0<=n∧n<=4096) (h:Rise l) (hi:∀ s∈l,0<=s.At∧s.At<n):VecP ⟨n,l.filterMap (sW r)⟩:=by
 refine⟨J.1,J.2,?_,λx W=>?_⟩
 . refine List.Pairwise.filterMap _ (λa b D c O d V=>?_) h;rw[AdU O,AdU V]; exact D
 . obtain⟨s,K,U⟩:=List.mem_filterMap.1 W;rw[AdU U]; exact hi s K
theorem zW {p:Plan} (h:1<=p.Kind∧p.Kind<=5) (round:Int):1<=JD p.Kind round∧JD p.Kind round<=5:=by
 unfold JD
 repeat' split
 all_goals omega
theorem AkI {p:Plan} {n:Nat} {G:GV} (d:n<=4096) {i:Nat} (hi:i<n):FS (JU p (CN 0 n G)).1 (JU p (CN 0 n G)).2 i=gX p (G i):=by
 have J:G6 (CN 0 n G)=n:=by show((((0+n:Nat):Int)) - ((0:Nat):Int)).toNat=n; omega
 have h:∀ j,j<n->BD (CN 0 n G).A j=(G j).1:=λj D=>by
   have:BD (CN 0 n G).A j=(G (0+j)).1:=aX D
   rwa [Nat.zero_add] at this
 unfold JU gX FS;rw[J];by_cases h1:p.Kind=1
 . rw[if_pos h1,if_pos h1];simp only;rw[jW hi d,h i hi];simp
 . rw[if_neg h1,if_neg h1];by_cases h5:p.Kind=5
   . rw[if_pos h5,if_pos h5];simp only;rw[jW hi d,h i hi];simp
   . rw[if_neg h5,if_neg h5];simp only;rw[S0 (by simp)];rfl
theorem zX {p:Plan} {T:List A3} {n:Nat} {G:GV} {round:Int} (hp:CS p=0) (hn:p.N=n) :
   ((∃ v w,v<n∧gX p (G v)=true∧rG p T n round G v=some w∧(LJ w).2=false)->QD p T (CN 0 n G) round=(zSt,12)) ∧
   ((∀ v w,v<n->gX p (G v)=true->rG p T n round G v=some w->(LJ w).2=true)->QD p T (CN 0 n G) round=(CN 0 n (tM p round G (pJ p T n round G)),0)):=by
 have U:=CG hp;have hn4:n<=4096:=by have:=U.2.1; omega
 have hr:=zW U.1 round
 have J:XX p (CN 0 n G) round=⟨n,KU n λi=>gV p round i (G i)⟩:=by rw[wC hp (by omega)];congr 1;exact pI λi _=>by rw[Nat.zero_add]
 have hx:stepX p T (CN 0 n G) round=(KD (JD p.Kind round) n n (JU p (CN 0 n G)).1 (JU p (CN 0 n G)).2 (λi=>FW (QA T i)) (FW (KU n λi=>gV p round i (G i))),0):=by unfold stepX gK;rw[J,if_neg (λh=>h hr),if_neg (λh=>h hn.symm),hn];simp
 have O:=SY (JD p.Kind round) n (JU p (CN 0 n G)).1 (JU p (CN 0 n G)).2 (λi=>FW (QA T i)) (FW (KU n λi=>gV p round i (G i))) n;generalize KD (JD p.Kind round) n n (JU p (CN 0 n G)).1 (JU p (CN 0 n G)).2 (λi=>FW (QA T i)) (FW (KU n λi=>gV p round i (G i)))=l at hx O;obtain⟨Z,q2,q3,q4,q5⟩:=O
 have D:∀ i:Nat,i<n->lk l i=if gX p (G i)=true then rG p T n round G i else none:=by
   intro i hi;rw[q5,AkI hn4 hi];by_cases d:gX p (G i)=true
   . rw[if_pos ⟨by omega,by omega,d⟩,if_pos d]; rfl
   . rw[if_neg (λh=>d h.2.2),if_neg d]
 have hy:XY p T (CN 0 n G) round=if ∃ s∈l,(LJ s.Val).2=false then (zV,12) else (⟨n,l.filterMap (sW (JD p.Kind round))⟩,0):=by
   unfold XY cE;rw[hx];simp only;rw[if_neg (λh=>h rfl),if_neg (λh=>h hr),if_neg,if_neg (λh=>h Z),hn];rintro(h | ⟨s,hs,h⟩)
   . exact h (by omega)
   . have:=q4 s hs; exact h (by omega)
 constructor
 . rintro⟨v,w,hv,d,hw,hb⟩;have hm:(⟨(v:Int),w⟩:B8)∈l:=jN (by rw[D v hv,if_pos d,hw]);have:XY p T (CN 0 n G) round=(zV,12):=by rw[hy,if_pos ⟨_,hm,hb⟩]
   unfold QD;rw[this,if_pos (by simp)]
 . intro K
   have:XY p T (CN 0 n G) round=(⟨n,l.filterMap (sW (JD p.Kind round))⟩,0):=by
     rw[hy,if_neg];rintro⟨s,hs,hb⟩;have hin:=q4 s hs;obtain⟨v,hv⟩:∃ v:Nat,s.At=v:=⟨s.At.toNat,by omega⟩;have W:lk l v=some s.Val:=by rw[<-hv]; exact oO Z hs
     have V:v<n:=by omega
     rw[D v V] at W;split at W
     . rename_i d;have:=K v s.Val V d W;rw[hb] at this; cases this
     . cases W
   unfold QD;rw[this];simp only;rw[if_neg (λh=>h rfl),AdT (Y:=pJ p T n round G) hp (by omega) (AdV ⟨by omega,by omega⟩ Z q4) rfl];intro i hi;simp only;rw[AiM Z,D i hi,Nat.zero_add];unfold pJ;split <;> rfl
theorem zY {p:Plan} {T:List A3} {n:Nat} {G:GV} {round:Int} (hp:CS p=0) (U:p.N=n) (h:(QD p T (CN 0 n G) round).2=0) :
  (∀ v w,v<n->gX p (G v)=true->rG p T n round G v=some w->(LJ w).2=true)∧QD p T (CN 0 n G) round=(CN 0 n (tM p round G (pJ p T n round G)),0):=by
 have D:=zX (T:=T) (G:=G) (round:=round) hp U
 have d:∀ v w,v<n->gX p (G v)=true->rG p T n round G v=some w->(LJ w).2=true:=by
  intro v w O K J
  cases hb:(LJ w).2 with
  | true=>rfl
  | false=>rw[D.1 ⟨v,w,O,K,J,hb⟩] at h; cases h
 exact⟨d,D.2 d⟩
def GS (p:Plan) (T:List A3) (n:Nat):Nat->GV
 | 0=>gV0 p
 | k+1=>tM p ((k:Int)+1) (GS p T n k) (pJ p T n ((k:Int)+1) (GS p T n k))
theorem AdW {p:Plan} {T:List A3} {n:Nat} (hp:CS p=0) (d:p.N=n):∀ {k:Nat},(∀ j,j<k->Z8 p T limit j=0)->W8 p T k=CN 0 n (GS p T n k)
 | 0,_=>by
  show NY p 0 p.N=CN 0 n (gV0 p);exact tL hp rfl (by rw[d]; omega) (by omega)
 | k+1,h=>by have ih:=AdW (k:=k) hp d λj hj=>h j (by omega);have:=(aY (h k (by omega))).2.2;show(QD p T (W8 p T k) ((k:Int)+1)).1=_;rw[ih] at this ⊢;rw[(zY hp d this).2];rfl
theorem AiN {n:Nat} {f g:Nat->Bool} (h:∀ i,i<n->g i=true->f i=true):HX n g<=HX n f:=by
 induction n with
 | zero=>exact Nat.le_refl _
 | succ n d=>
  rw[KV,KV];have h1:=d λi hi=>h i (by omega);have D:=h n (by omega)
  cases hg:g n with
  | false=>simp only[Bool.false_eq_true,if_false]; split <;> omega
  | true=>rw[D hg]; simp only[if_true]; omega
theorem tP {n:Nat} {f:Nat->Bool} (h:HX n f≠0):∃ i,i<n∧f i=true:=by
 by_cases h':∃ i,i<n∧f i=true
 . exact h'
 . refine absurd (tK λi hi=>?_) h
   cases hb:f i with
   | false=>rfl
   | true=>exact absurd ⟨i,hi,hb⟩ h'
structure Ao6 (p:Plan) (n:Nat) (T:List A3):Prop where
 can:Canon n n T
 pos:∀ t∈T,0≤t.Val
 ini:∀ t∈T,EZ t.Val
 loop:p.Kind=5→∀ t∈T,t.Row≠t.Col
theorem zZ {k:JX} {v:AL}:∀ {l:List (JX×AL)} {p:JX×AL},p∈ins 1 k v l->p=(k,v)∨p∈l
 | [],p,h=>by simp[ins] at h; exact .inl h
 | q :: l,p,h=>by
  unfold ins at h;split at h
  . rcases List.mem_cons.1 h with rfl | h
    . exact .inr (by simp)
    . rcases zZ h with h | h
      . exact .inl h
      . exact .inr (by simp[h])
  . split at h
    . rename_i hk;rcases List.mem_cons.1 h with rfl | h
      . unfold KC;rw[if_pos (.inl rfl)];split
        . right;obtain⟨q1,q2⟩:=q;simp only at hk;subst hk; simp
        . exact .inl rfl
      . exact .inr (by simp[h])
    . rcases List.mem_cons.1 h with rfl | h
      . exact .inl rfl
      . exact .inr h
theorem AdX:∀ {ts:List (JX×Int)} {p:JX×AL},p∈SC 1 ts->∃ t∈ts,p=(t.1,nT t.2):=by
 suffices ∀ (ts:List (JX×Int)) (l:List (JX×AL)) p,p∈ts.foldl (λl t=>ins 1 t.1 (nT t.2) l) l->(∃ t∈ts,p=(t.1,nT t.2))∨p∈l from λ{ts p} h=>by
  rcases this ts [] p h with h | h
  . exact h
  . simp at h
 intro ts
 induction ts with
 | nil=>intro l p h; exact .inr h
 | cons t ts D=>
  intro l p h;rcases D _ _ h with⟨x,K,e⟩ | O
  . exact .inl ⟨x,by simp[K],e⟩
  . rcases zZ O with d | J
    . exact .inl ⟨t,by simp,d⟩
    . exact .inr J
theorem W9 {es:List B5} (J:∀ e∈es,EZ e.W) {e:B5} (d:e∈LC es):e∈es:=by
 unfold LC TL at d;split at d
 . obtain⟨p,hp,rfl⟩:=List.mem_map.1 d;obtain⟨t,D,rfl⟩:=AdX hp;obtain⟨x,h,rfl⟩:=List.mem_map.1 D;simp only[kvE];rw[Ad9 (J x h)];exact h
 . cases d
theorem jX {g:Graph} (D:∀ e∈g.Edges,EZ e.W) {t:A3} (d:t∈P6 g):∃ e∈g.Edges,t=⟨e.To,e.From,e.W⟩:=by
 unfold P6 TL at d;split at d
 . obtain⟨p,hp,rfl⟩:=List.mem_map.1 d;obtain⟨q,J,rfl⟩:=AdX hp;obtain⟨x,h,rfl⟩:=List.mem_map.1 J;refine⟨x,h,?_⟩;simp only[kvF];rw[Ad9 (D x h)];rfl
 . cases d
def JT (n:Int) (es:List B5):Prop:=∀ e∈es,inE n e∧wOk e
theorem HS {n:Int} {es:List B5} (h:JT n es):∀ e∈es,EZ e.W:=λe d=>by have:=(h e d).2; unfold wOk at this; unfold EZ; omega
theorem UK {n:Int} {es:List B5} (h:JT n es):JT n (LC es):=λe d=>h e (W9 (HS h) d)
theorem jY {n:Int} {es:List B5} (h:JT n es):JT n (es.map Ai3):=λe d=>by obtain⟨x,D,rfl⟩:=List.mem_map.1 d;exact⟨(h x D).1,by unfold wOk Ai3; simp⟩
theorem dO {n:Int} {es:List B5} (h:JT n es):JT n (es.map lG):=λe d=>by obtain⟨x,D,rfl⟩:=List.mem_map.1 d;have:=h x D;exact⟨⟨this.1.2,this.1.1⟩,this.2⟩
theorem AfO {n:Int} {xs ys:List B5} (h:JT n xs) (D:JT n ys):JT n (xs++ys):=λe J=>by
 rcases List.mem_append.1 J with d | d
 . exact h e d
 . exact D e d
theorem pK {g:Graph} (h:IQ g=0):JT g.N g.Edges:=λe d=>⟨(MP h).2.2.2.1 e d,(MP h).2.2.2.2 e d⟩
theorem pL {g:Graph} (h0:0<=g.N∧g.N<=4096) (hl:g.Edges.length<=65536) (h:JT g.N g.Edges):IQ g=0:=by unfold IQ;rw[if_neg (by omega),if_neg (by omega),if_neg (λD=>D λe d=>(h e d).1),if_neg (λD=>D λe d=>(h e d).2)]
def noL (es:List B5):Prop:=∀ e∈es,e.From≠e.To
def bH (p:Plan) (g:Graph):Graph:=if p.Kind=5 then T1 (Z5 (gQ g)) else if p.Kind=3 then T1 (Z5 g) else if p.Kind=1 then T1 g else g
theorem dP {g:Graph} (h:JT g.N g.Edges):JT (T1 g).N (T1 g).Edges∧(T1 g).Edges.length<=g.Edges.length∧(noL g.Edges->noL (T1 g).Edges):=by
 refine⟨UK (jY h),?_,λD e d=>?_⟩
 . have:=PA (HS (jY h)); rwa [List.length_map] at this
 . have:=W9 (HS (jY h)) d;obtain⟨x,J,rfl⟩:=List.mem_map.1 this;exact D x J
theorem tQ {g:Graph} (h:JT g.N g.Edges):JT (Z5 g).N (Z5 g).Edges∧(Z5 g).Edges.length<=2*g.Edges.length∧(noL g.Edges->noL (Z5 g).Edges):=by
 have O:JT g.N (lQ g).Edges:=UK (dO h);have D:=AfO h O;refine⟨UK D,?_,λK e U=>?_⟩
 . have d:=PA (HS D);have J:=PA (HS (dO h));rw[List.length_append] at d;rw[List.length_map] at J;have:(lQ g).Edges.length<=g.Edges.length:=J;show(LC _).length<=_;omega
 . rcases List.mem_append.1 (W9 (HS D) U) with d | d
   . exact K e d
   . obtain⟨x,V,rfl⟩:=List.mem_map.1 (W9 (HS (dO h)) d);exact λe=>K x V e.symm
theorem AfP {g:Graph} (h:JT g.N g.Edges):JT (gQ g).N (gQ g).Edges∧(gQ g).Edges.length<=g.Edges.length∧noL (gQ g).Edges:=by
 have D:JT g.N (g.Edges.filter NX):=λe d=>h e (List.mem_filter.1 d).1;refine⟨UK D,?_,λe d=>?_⟩
 . have h1:=PA (HS D);have h2:=List.length_filter_le NX g.Edges;show(LC _).length<=_;omega
 . have:=(List.mem_filter.1 (W9 (HS D) d)).2;unfold NX at this;simpa using this
theorem Aa0 {p:Plan} {g:Graph} (h:JT g.N g.Edges):(bH p g).N=g.N∧JT g.N (bH p g).Edges∧(bH p g).Edges.length<=2*g.Edges.length∧(p.Kind=5->noL (bH p g).Edges):=by
 unfold bH;have K:=AfP h;have O:=tQ h;have D:=tQ K.1;have hp:=dP h;have J:=dP O.1;have d:=dP D.1;by_cases h5:p.Kind=5
 . rw[if_pos h5];exact⟨rfl,d.1,by have:=d.2.1; have:=D.2.1; have:=K.2.1; omega,λ_=>d.2.2 (D.2.2 K.2.2)⟩
 . rw[if_neg h5];by_cases h3:p.Kind=3
   . rw[if_pos h3]; exact⟨rfl,J.1,by have:=J.2.1; have:=O.2.1; omega,λh=>absurd h h5⟩
   . rw[if_neg h3];by_cases h1:p.Kind=1
     . rw[if_pos h1]; exact⟨rfl,hp.1,by have:=hp.2.1; omega,λh=>absurd h h5⟩
     . rw[if_neg h1]; exact⟨rfl,h,by omega,λh=>absurd h h5⟩
theorem AiO {p:Plan} {g:Graph} (hp:CS p=0) (J:g.N=p.N) (D:IQ g=0) (hl:g.Edges.length<=30000):Ac0 p g=(BH p.N p.N (P6 (bH p g)),0)∧IQ (bH p g)=0:=by have hz:=MP D;have d:=Aa0 (p:=p) (pK D);have K:IQ (bH p g)=0:=pL (by omega) (by omega) (by rw[d.1]; exact d.2.1);refine⟨?_,K⟩;unfold Ac0;rw[if_neg (λh=>h hp),if_neg (λh=>h J),if_neg (λh=>h D)];show oF (bH p g)=_;unfold oF;rw[if_pos K,d.1,J]
theorem AnA {p:Plan} {g:Graph} {n:Nat} (hp:CS p=0) (O:g.N=p.N) (W:p.N=n) (U:IQ g=0) (Z:g.Edges.length<=30000):Ao6 p n (P6 (bH p g)):=by
 have d:=Aa0 (p:=p) (pK U);have V:=(AiO hp O U Z).2;have K:=lH V;rw[d.1,O,W] at K;refine⟨K,λt D=>?_,λt D=>?_,λhk t D=>?_⟩
 . obtain⟨e,J,rfl⟩:=jX (HS d.2.1) D;exact(d.2.1 e J).2.1
 . obtain⟨e,J,rfl⟩:=jX (HS d.2.1) D;exact HS d.2.1 e J
 . obtain⟨e,J,rfl⟩:=jX (HS d.2.1) D;exact λh=>d.2.2.2 hk e J h.symm
theorem AkJ (p:Plan) (s:State):lK (JU p s).1:=by
 unfold JU
 repeat' split
 . exact(HP _ _).1
 . exact(HP _ _).1
 . simp[lK]
theorem AkK {l:List Int} (h:∀ x∈l,EZ x) (i:Nat):EZ (BD l i):=by
 by_cases hl:i<l.length
 . have:BD l i=l[i]:=by unfold BD; simp[hl]
   rw[this]; exact h _ (List.getElem_mem hl)
 . rw[yS (by omega)]; unfold EZ; omega
theorem Whole.out {p:Plan} {s:State} (h:Whole p s) (round:Int):VecP (XX p s round)∧(∀ y∈(XX p s round).Items,EZ y.Val)∧(XX p s round).N=p.N:=by
 have U:=CG h.st.1;have e:((G6 s:Nat):Int)=s.High - s.Low:=by unfold G6; have:=h.lo; have:=h.hi; omega
 have D:=h.lo; have O:=h.hi;unfold XX;rw[h.sure];refine⟨?_,λy K=>?_,by simp only; omega⟩
 . have:=zQ (n:=G6 s) (by omega) (dL p s round);rw[e] at this; exact this
 . obtain⟨i,hi,d⟩:=List.mem_filterMap.1 (show y∈KU _ _ from K);have hi:=List.mem_range.1 hi;split at d
   . cases d;have J:=AkK h.va i;show EZ (dL p s round i).1;unfold dL
     repeat' split
     . unfold EZ; simp only; omega
     . unfold EZ; simp only; omega
     . have hd:0<=zJ p round (s.Low+i)∧zJ p round (s.Low+i)<=17592186044416:=by
        unfold zJ AkC;split
        . have:=AlA U.2.2.2.2.2 ((round - 1) / 2*p.N+(s.Low+i)); omega
        . omega
       unfold EZ; simp only; omega
     . exact J
   . cases d
def wD (p:Plan) (g:Graph) (limit:Int):Int:=if (Ac0 p g).2≠0 then (Ac0 p g).2 else if limit<0∨8192<limit then 3 else 0
theorem pM {p:Plan} {g:Graph} {Q:Int->Prop} (d:Q (wD p g limit)):U5 p g limit Q:=by unfold U5;unfold wD at d;refine Z6 (BI (λh=>by rwa [if_pos h] at d) (λh=>?_));rw[if_neg (λK=>K h)] at d;exact A1 (λJ=>by rwa [if_pos (.inl J)] at d) (λJ=>A1 (λD=>by rwa [if_pos (.inr D)] at d) (λD=>by rwa [if_neg (by omega)] at d))
theorem AdY {p:Plan} {T:List A3} {k:Nat} (J:st≠0) (h:Z8 p T limit k=st):(UJ p (W8 p T k) k=0∧st=1)∨(UJ p (W8 p T k) k≠0∧(k:Int)=limit∧st=2)∨(UJ p (W8 p T k) k≠0∧(k:Int)≠limit∧(QD p T (W8 p T k) ((k:Int)+1)).2≠0∧st=3):=by
 unfold Z8 at h;split at h
 . rename_i d; exact .inl ⟨d,h.symm⟩
 . split at h
   . rename_i d D; exact .inr (.inl ⟨d,D,h.symm⟩)
   . split at h
     . rename_i d D K; exact .inr (.inr ⟨d,D,K,h.symm⟩)
     . exact absurd h.symm J
structure MRun (p:Plan) (g:Graph) (limit:Int) (T:List A3) (n:Nat) (st:Int):Prop where
 rp:CS p=0
 cn:Canon p.N p.N T
 vs:∀ t∈T,EZ t.Val
 mt:Ac0 p g=(BH p.N p.N T,0)
 lm:0≤limit∧limit≤8192
 en:An9 p T limit n st
theorem MRun.check {p:Plan} {g:Graph} {T:List A3} {n:Nat} (R:MRun p g limit T n st):wD p g limit=0:=by unfold wD;rw[R.mt,if_neg (by simp),if_neg (by have:=R.lm; omega)]
theorem MRun.whole {p:Plan} {g:Graph} {T:List A3} {n:Nat} (R:MRun p g limit T n st) {k:Nat} (h:k<=n):Whole p (W8 p T k):=tN R.rp R.lm λj hj=>R.en.lt j (by omega)
theorem rH {a b:Result} {Q:Bool->Prop} (O:tJ a.State) (K:Q (decide (a=b))):SM a b Q:=by
 unfold SM;have d:a≠b->Q false:=λh=>by rwa [decide_eq_false h] at K
 refine AV (λJ=>AV (λD=>lR O ?_) (λD=>d λh=>D (by rw[h]))) (λJ=>d λh=>J (by rw[h]));by_cases h3:a.State=b.State
 . have:a=b:=by cases a; cases b; simp only at J D h3; subst J D h3; rfl
   rw[decide_eq_true this] at K;rw[decide_eq_true h3]; exact K
 . rw[decide_eq_false h3]; exact d λh=>h3 (by rw[h])
theorem AiP {a:Graph} {Q:Graph->Prop} (K:∀ g:Graph,0<=g.N∧g.N<=23->g.Edges.length<=60->IQ g=0->Q g):U3 a Q:=by
 unfold U3;refine W7 (λh=>by omega) (λ_ n U h1=>?_);have d:∀ es:List B5,es.length<=60->JT n es->Q ⟨n,es⟩:=λes D V=>K _ ⟨U,by simp only; omega⟩ D (pL (by simp only; omega) (by simp only; omega) V);refine AD (λ(s:List B5) i=>(s,i)) 0 (min a.Edges.length 60) (by omega) (λi s=>s.length<=i∧JT n s) (by omega) (s0:=[]) ⟨by simp,by intro e D; simp at D⟩ (λi s next _ hi J hn=>?_) (λs next J=>?_)
 . dsimp only;refine A1 (λ_=>A1 (λ_=>A1 (λhn0=>B3 (by omega) ?_) (λ_=>d s (by omega) J.2)) (λh=>by omega)) (λh=>by omega);refine W7 (λh=>by omega) λ_ u Z u1=>W7 (λh=>by omega) λ_ v v0 O=>AH (by simp; omega) (hn _ ⟨by simp; omega,λe D=>?_⟩);rcases List.mem_append.1 D with h | h
   . exact J.2 e h
   . rw[List.mem_singleton.1 h];have:=AiE (a.Edges[i]'(by omega)).W (m:=2147483647) (by omega);refine⟨⟨⟨Z,u1⟩,v0,O⟩,?_⟩;unfold wOk;simp only; omega
 . dsimp only;exact A1 (λ_=>A1 (λ_=>by omega) (λ_=>d s (by omega) J.2)) (λ_=>d s (by omega) J.2)
theorem AkL {a:H4} {Q:Plan×Graph×Int->Prop} (h:WZ a) (K:∀ p g d,CS p=0->g.N=p.N->0<=g.N∧g.N<=23->g.Edges.length<=60->IQ g=0->0<=d∧d<=39->Q (p,g,d)):LX a Q:=by
 unfold LX;have hb:=bounds_u8 h.2.2;refine AiP λg U J O=>AkF (by omega) λp hp D=>?_;have e:(A6 a.Limit).tmod 40=a.Limit % 40:=by rw[AB (by omega) (by omega),Int.tmod_eq_emod_of_nonneg (by omega)]
 rw[e];exact K p g _ hp D.symm U J O (by omega)
theorem AmA {p:Plan} {g:Graph} {h:Int} (hp:CS p=0) (J:g.N=p.N) (hl:g.Edges.length<=60) (K:IQ g=0) (d:0<=h∧h<=8192):∃ n st,MRun p g h (P6 (bH p g)) n st:=by obtain⟨N,D⟩:∃ N:Nat,p.N=N:=⟨p.N.toNat,by have:=(CG hp).2.1; omega⟩;have O:=AnA (n:=N) hp J D K (by omega);obtain⟨n,st,E⟩:=AkH p (P6 (bH p g)) d.1;exact⟨n,st,hp,by rw[D]; exact O.can,O.ini,(AiO hp J K (by omega)).1,d,E⟩
theorem AdZ {r:Int}:∀ {l:List AL} {d:Option AL},(∀ w∈l,Q6 w)->okO d->okO (l.foldl (λd w=>iX r d (some w)) d)
 | [],_,_,h=>h
 | w :: l,d,hl,h=>by
  rw[List.foldl_cons];refine AdZ (l:=l) (λx D=>hl x (List.mem_cons_of_mem _ D)) ?_;have J:=hl w List.mem_cons_self;intro x D
  cases d with
  | none=>cases D; exact J
  | some a=>cases D; exact VR (h a rfl) J
theorem AiQ {r:Int} {l m:List AL} (hp:l.Perm m):∀ {d:Option AL},(∀ w∈l,Q6 w)->okO d->l.foldl (λd w=>iX r d (some w)) d=m.foldl (λd w=>iX r d (some w)) d:=by
 have K:∀ {w:AL},Q6 w->okO (some w):=λ{w} Z x J=>by have:=Option.some.inj J; subst this; exact Z
 induction hp with
 | nil=>intro _ _ _; rfl
 | cons w hp ih=>
  intro d h D;rw[List.foldl_cons,List.foldl_cons];exact ih (λx J=>h x (List.mem_cons_of_mem _ J)) (AdZ (l:=[w]) (λx J=>by rw[List.mem_singleton] at J; subst J; exact h _ List.mem_cons_self) D)
 | swap a b l=>
  intro d h D;have O:=K (h b (by simp));have U:=K (h a (by simp));rw[List.foldl_cons,List.foldl_cons,List.foldl_cons,List.foldl_cons,jR D O U,jR D U O,AhP O U]
 | trans O U W V=>
  intro d h D;rw[W h D,V (λw Z=>h w (O.mem_iff.2 Z)) D]
structure Abs where
 room:Nat
 row:List Nat
 fs:List AA
 taken:Nat
variable {b:B4} {s:Abs}
theorem AfQ {xs:List Int} {i:Nat} {Q:List Int->Prop} (hi:i<xs.length) (hl:xs.length<=64) (hQ:Q (xs.eraseIdx i)):EQ xs (i:Int) (A6 ((i:Int)+1)) Q:=by
 unfold EQ;rw[AB (by omega) (by omega)];have d:((i:Int)+1).toNat=i+1:=by omega
 refine⟨by omega,by omega,by omega,AV (λh=>by omega) (λ_=>⟨by omega,by omega,by omega,⟨by omega,by omega,by omega,?_⟩⟩)⟩;simp only[Int.toNat_natCast,d]
 rwa [<-List.eraseIdx_eq_take_drop_succ]
theorem AmB {xs:List Int} {Q:Int->Prop} (h0:xs≠[]) (hl:xs.length<=1000000) (Z:∀ m,m∈xs->(∀ x∈xs,m<=x)->Q m):IJ xs Q:=by
 unfold IJ;have K:0<xs.length:=List.length_pos_iff.2 h0;refine A1 (λh=>by omega) (λ_=>AK (by omega) (x:=xs[0]) (by simp[K]) ?_)
 refine DC (λs:Int×Int=>∃ i:Nat,s.2=i∧1<=i∧i<=xs.length∧s.1∈xs∧∀ (j:Nat) (O:j<i) (J:j<xs.length),s.1<=xs[j]) (λs=>xs.length - s.2.toNat) ⟨1,rfl,by omega,by omega,List.getElem_mem _,λj O J=>by
   have:j=0:=by omega
   subst this; exact Int.le_refl _⟩ ?_
 rintro⟨W,s2⟩ next ⟨i,hi,h1,V,d,D⟩ hnext;simp only at hi d D;subst hi;refine A1 (λh=>?_) (λh=>Z W d λx hx=>?_)
 . have U:i<xs.length:=by omega
   refine AK (by omega) (x:=xs[i]) (by simp[U]) (hnext _ ⟨i+1,?_,by omega,by omega,?_,?_⟩ ?_)
   . simp only; rw[AB (by omega) (by omega)]; simp
   . simp only; split
     . exact List.getElem_mem _
     . exact d
   . intro j O J;simp only;by_cases e:j=i
     . subst e; split <;> omega
     . have:=D j (by omega) J;split <;> omega
   . simp only; rw[AB (by omega) (by omega)]; omega
 . obtain⟨j,O,rfl⟩:=List.getElem_of_mem hx;exact D j (by omega) O
theorem AiR {xs:List Int} {m:Int} {Q:Int->Prop} (hl:xs.length<=1000000) (V:m∈xs) (U:∀ (i:Nat) (hi:i<xs.length),xs[i]=m->(∀ (j:Nat) (J:j<i) (d:j<xs.length),xs[j]≠m)->Q i):DX xs m Q:=by
 unfold DX JA;refine DC (λs:Int=>∃ i:Nat,s=i∧i<=xs.length∧∀ (j:Nat) (J:j<i) (d:j<xs.length),xs[j]≠m) (λs=>xs.length - s.toNat) ⟨0,rfl,by omega,λj J=>by omega⟩ ?_;rintro _ next ⟨i,rfl,O,D⟩ hnext;refine A1 (λh=>?_) (λh=>?_)
 . have K:i<xs.length:=by omega
   refine AK (by omega) (x:=xs[i]) (by simp[K]) (AV (λe=>U i K e D) (λe=>hnext _ ⟨i+1,by rw[AB (by omega) (by omega)]; simp,by omega,?_⟩ ?_))
   . intro j J d;by_cases ej:j=i
     . subst ej; exact e
     . exact D j (by omega) d
   . rw[AB (by omega) (by omega)]; omega
 . exfalso;obtain⟨j,J,rfl⟩:=List.getElem_of_mem V;exact D j (by omega) J rfl
end Go.Proofs.YtkbkaodgfedfmaaGreat
