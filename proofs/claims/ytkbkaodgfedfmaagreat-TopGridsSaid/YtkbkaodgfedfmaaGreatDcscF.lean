import Derived.Test.YtkbkaodgfedfmaaGreatOK
import Derived.Test.YtkbkaodgfedfmaaGreatCsrM
namespace Go.Proofs.YtkbkaodgfedfmaaGreat
open Go Go.Fw
set_option linter.unusedVariables false
set_option linter.unusedSimpArgs false
theorem yH {l d:List Int} (h:l.Pairwise (· < ·)) (J:d.Pairwise (· < ·)) (K:∀ x,x∈l↔x∈d):l=d:=by have D:∀ {l:List Int},l.Pairwise (· < ·)->l.Nodup:=λh=>List.nodup_iff_pairwise_ne.2 (h.imp λO=>by omega);have hp:=(List.perm_ext_iff_of_nodup (D h) (D J)).2 K;exact hp.eq_of_pairwise (λa b _ _ h1 h2=>by omega) h J
theorem PK {l:List Int} (h:l.Pairwise (· < ·)) {i j:Nat} (d:i<j) (D:j<l.length):BD l i<BD l j:=by unfold BD;have:=List.pairwise_iff_getElem.1 h i j (by omega) D d;simpa[List.getD_eq_getElem?_getD,D,show i<l.length by omega] using this
theorem uV {l:List Int} {x:Int} (h:x∈l):∃ i:Nat,i<l.length∧BD l i=x:=by obtain⟨i,hi,rfl⟩:=List.getElem_of_mem h;exact⟨i,hi,by unfold BD; simp[List.getD_eq_getElem?_getD,hi]⟩
def AlS (T:List A3) (c:Nat):Bool:=T.any λt=>decide (t.Row=(c:Int))
def L4 (n:Nat) (T:List A3):List Int:=((List.range n).filter (AlS T)).map λc:Nat=>(c:Int)
theorem IX (n:Nat) (T:List A3):(L4 n T).Pairwise (· < ·):=by unfold L4;rw[List.pairwise_map];exact List.Pairwise.imp (λ{a b} h=>by omega) ((List.pairwise_lt_range (n:=n)).filter _)
theorem JS {n:Nat} {T:List A3} {x:Int}:x∈L4 n T↔(0<=x∧x<n)∧∃ t∈T,t.Row=x:=by
 unfold L4 AlS;simp only[List.mem_map,List.mem_filter,List.mem_range,List.any_eq_true,decide_eq_true_eq];constructor
 . rintro⟨c,⟨hc,t,ht,e⟩,rfl⟩; exact⟨⟨by omega,by omega⟩,t,ht,e⟩
 . rintro⟨⟨h0,h1⟩,t,ht,e⟩; exact⟨x.toNat,⟨by omega,t,ht,by omega⟩,by omega⟩
theorem fZ (n:Nat) (T:List A3):(L4 n T).length<=n:=by unfold L4;rw[List.length_map];exact Nat.le_trans (List.length_filter_le _ _) (by simp)
def dF (n:Nat) (T:List A3):List Int:=0 :: (L4 n T).map λx=>EO T (x.toNat+1)
def SU (rows cols:Int) (T:List A3):AN:=⟨rows,cols,L4 cols.toNat T,dF cols.toNat T,T.map (·.Col),T.map (·.Val)⟩
theorem YT (n:Nat) (T:List A3):(dF n T).length=(L4 n T).length+1:=by simp[dF]
theorem Ah5 {n:Nat} {T:List A3} {j:Nat} (d:j<(L4 n T).length):BD (dF n T) ((j:Int)+1)=EO T ((BD (L4 n T) j).toNat+1):=by unfold dF BD;rw[show((j:Int)+1).toNat=j+1 by omega];simp[List.getD_eq_getElem?_getD,d]
theorem sQ {n:Nat} {T:List A3} {j:Nat} (hj:j<(L4 n T).length):(0<=BD (L4 n T) j∧BD (L4 n T) j<n)∧∃ t∈T,t.Row=BD (L4 n T) j:=
 JS.1 (mQ (by omega) (by omega))
theorem uW {rows cols:Int} {T:List A3} (h:Canon cols rows T) {t:A3} (D:t∈T):∃ q:Nat,q<(L4 cols.toNat T).length∧BD (L4 cols.toNat T) q=t.Row:=by have d:=h.inn t D;unfold mT at d;exact uV (JS.2 ⟨⟨by omega,by omega⟩,t,D,rfl⟩)
theorem An1 {rows cols:Int} {T:List A3} (h:Canon cols rows T) {j:Nat} (U:j<(L4 cols.toNat T).length):BD (dF cols.toNat T) j=EO T (BD (L4 cols.toNat T) j).toNat:=by
 have d:=IX cols.toNat T
 have W:=(sQ U).1
 cases j with
 | zero=>
  rw[show BD (dF cols.toNat T) ((0:Nat):Int)=0 from rfl]
  unfold EO
  rw[List.countP_eq_zero.2]; · rfl
  intro t D
  obtain⟨q,K,e⟩:=uW h D
  simp only[decide_eq_true_eq]
  rw[<-e]
  by_cases e0:q=0
  . subst e0; omega
  . have:=PK d (show 0<q by omega) K; omega
 | succ i=>
  rw[show((i+1:Nat):Int)=(i:Int)+1 by omega,Ah5 (show i<(L4 cols.toNat T).length by omega)]
  unfold EO
  congr 1
  apply List.countP_congr
  intro t D
  simp only[decide_eq_true_eq]
  have J:=PK d (show i<i+1 by omega) U
  rw[show((i+1:Nat):Int)=(i:Int)+1 by omega] at J W
  have h1:=(sQ (show i<(L4 cols.toNat T).length by omega)).1
  constructor
  . intro Z; omega
  . intro Z
    obtain⟨q,K,e⟩:=uW h D
    have V:q<=i:=by
      rcases Nat.lt_or_ge i q with O | O
      . exfalso
        by_cases e1:q=i+1
        . subst e1; rw[show((i+1:Nat):Int)=(i:Int)+1 by omega] at e; omega
        . have:=PK d (show i+1<q by omega) K
          rw[show((i+1:Nat):Int)=(i:Int)+1 by omega] at this; omega
      . exact O
    by_cases e1:q=i
    . subst e1; omega
    . have:=PK d (show q<i by omega) (by omega); omega
theorem Canon.colseg {rows cols:Int} {T:List A3} (h:Canon cols rows T) {j:Nat} (d:j<(L4 cols.toNat T).length) :
  ∃ x lo hi:Nat,BD (L4 cols.toNat T) j=x∧(x:Int)<cols∧BD (dF cols.toNat T) j=lo∧BD (dF cols.toNat T) ((j:Int)+1)=hi∧lo<hi∧Seg T x lo hi:=by
 obtain⟨⟨h0,O⟩,t,ht,e⟩:=sQ d;obtain⟨x,J⟩:∃ x:Nat,BD (L4 cols.toNat T) j=x:=⟨(BD (L4 cols.toNat T) j).toNat,by omega⟩;obtain⟨lo,hi,s⟩:=h.seg x;have hc:=h.r0;have D:BD (dF cols.toNat T) j=lo:=by rw[An1 h d,J,Int.toNat_natCast,s.lo]
 have K:BD (dF cols.toNat T) ((j:Int)+1)=hi:=by rw[Ah5 d,J,Int.toNat_natCast,s.hi]
 refine⟨x,lo,hi,J,by omega,D,K,?_,s⟩;obtain⟨p,hp,rfl⟩:=List.getElem_of_mem ht;have:=(h.srt.at hp (i:=x)).1 (by omega);have O:=s.lo; have h2:=s.hi;omega
def An2 (c:AN) (i:Nat):Prop:=∀ j:Nat,BD c.Start i<=j->(j:Int)<BD c.Start ((i:Int)+1)->0<=BD c.Row j∧BD c.Row j<c.Rows∧(BD c.Start i<j->BD c.Row ((j:Int) - 1)<BD c.Row j)
structure AeY (c:AN):Prop where
 r0:0≤c.Rows
 r1:c.Rows≤4096
 c0:0≤c.Cols
 c1:c.Cols≤4096
 sl:(c.Start.length:Int)=(c.At.length:Int)+1
 vl:c.Val.length=c.Row.length
 cl:c.Row.length≤65536
 s0:BD c.Start 0=0
 sn:BD c.Start c.At.length=c.Row.length
 at_:∀ i:Nat,i<c.At.length→0≤BD c.At i∧BD c.At i<c.Cols∧(0<i→BD c.At ((i:Int) - 1)<BD c.At i)
 up:∀ i:Nat,i<c.At.length→BD c.Start i<BD c.Start ((i:Int)+1)
 row:∀ i:Nat,i<c.At.length→An2 c i
noncomputable instance (c:AN):Decidable (AeY c):=Classical.propDecidable _
def UY (c:AN):Prop:=c.At.length<=1000000000∧c.Start.length<=1000000000∧c.Row.length<=1000000000000
theorem SV {x y:Int} {Q:Bool->Prop} (d:Q (decide (0<=x∧x<=y))):MJ x y Q:=by
 unfold MJ;refine A1 (λh=>?_) (λh=>?_)
 . rwa [show decide (x<=y)=decide (0<=x∧x<=y) by apply decide_eq_decide.2; omega]
 . rwa [show decide (0<=x∧x<=y)=false by apply decide_eq_false; omega] at d
theorem jJ {xs:List Int} {cols:Int} {Q:Bool->Prop} (W:0<=cols) (V:cols<=1000000000) (hl:xs.length<=1000000000)
   (Z:(∀ j:Nat,j<xs.length->0<=BD xs j∧BD xs j<cols∧(0<j->BD xs ((j:Int) - 1)<BD xs j))->Q true) (U:(∃ j:Nat,j<xs.length∧¬(0<=BD xs j∧BD xs j<cols∧(0<j->BD xs ((j:Int) - 1)<BD xs j)))->Q false):MK xs cols Q:=by
 unfold MK;rw[AB (by omega) (by omega)];refine CM xs.length (by omega) (λi=>∀ j:Nat,j<i->j<xs.length->0<=BD xs j∧BD xs j<cols∧(0<j->BD xs ((j:Int) - 1)<BD xs j)) (by simp) (λi next hi K hn=>?_) (λnext K=>?_)
 . refine A1 (λ_=>?_) (λh=>by omega);refine BE (by omega) (by omega) (SV (BK (λh=>U ⟨i,hi,λO=>?_⟩) (λh=>?_)))
   . simp at h; omega
   have h:0<=BD xs i∧BD xs i<=cols - 1:=by simpa using h
   have hstep (hx:0<i->BD xs ((i:Int) - 1)<BD xs i):next (A6 ((i:Int)+1)):=hn λj D J=>by
     by_cases e:j=i
     . subst e; exact⟨h.1,by omega,hx⟩
     . exact K j (by omega) J
   refine A1 (λh0=>?_) (λh0=>hstep λh=>by omega);rw[AB (by omega) (by omega)];refine BE (by omega) (by omega) (A1 (λd=>U ⟨i,hi,λO=>?_⟩) (λd=>hstep λ_=>by omega));have:=O.2.2 (by omega); omega
 . exact A1 (λh=>by omega) (λ_=>Z λj D=>K j D D)
theorem Al7 {xs:List Int} {n:Nat} (h:∀ i:Nat,i<n->BD xs i<BD xs ((i:Int)+1)) {i j:Nat} (h1:i<=j) (h2:j<=n):BD xs i<=BD xs j:=by
  induction j with
  | zero =>
    have : i = 0 := by omega
    subst this; exact Int.le_refl _
  | succ j ih=>
    by_cases e:i=j+1
    . subst e; exact Int.le_refl _
    . have:=ih (by omega) (by omega);have h3:=h j (by omega);have:((j+1:Nat):Int)=(j:Int)+1:=by omega
      rw[this]; omega
theorem cB {c:AN} {Q:Bool->Prop} (hl:UY c) (hQ:Q (decide (AeY c))):SH c Q:=by
 unfold SH;have hno (h:¬AeY c):Q false:=by rwa [decide_eq_false h] at hQ
 have hyes (h:AeY c):Q true:=by rwa [decide_eq_true h] at hQ
 unfold UY at hl;refine SV (BK (λh=>hno λd=>?_) (λh=>?_))
 . have:=d.r0; have:=d.r1; simp at h; omega
 have h1:0<=c.Rows∧c.Rows<=4096:=by simpa using h
 refine SV (BK (λh=>hno λd=>?_) (λh=>?_))
 . have:=d.c0; have:=d.c1; simp at h; omega
 have h2:0<=c.Cols∧c.Cols<=4096:=by simpa using h
 rw[AB (by omega) (by omega)];refine BI (λh=>hno λd=>h d.sl) (λh3=>?_);refine BI (λh=>hno λd=>h (by rw[d.vl])) (λh4=>?_);refine A1 (λh=>hno λd=>by have:=d.cl; omega) (λh5=>?_);have hsl:c.Start.length=c.At.length+1:=by omega
 refine jJ h2.1 (by omega) (by omega) (λhat=>AC rfl ?_) (λhb=>AU rfl (hno λd=>?_));rotate_left
 . obtain⟨i,hi,D⟩:=hb;exact D (d.at_ i hi)
 rw[AB (by omega) (by omega)];refine jJ (by omega) (by omega) (by omega) (λW=>AC rfl ?_) (λhb=>AU rfl (hno λd=>?_));rotate_left
 . obtain⟨i,hi,D⟩:=hb;have g0:=Al7 d.up (i:=0) (j:=i) (by omega) (by omega);have g1:=Al7 d.up (i:=i) (j:=c.At.length) (by omega) (by omega);have e0:=d.s0; have en:=d.sn;rw[show((0:Nat):Int)=0 from rfl] at g0;refine D ⟨by omega,by omega,λhp=>?_⟩;have:=d.up (i - 1) (by omega);rw[show((i - 1:Nat):Int)=(i:Int) - 1 by omega,show(i:Int) - 1+1=i by omega] at this;exact this
 refine BE (by omega) (by omega) (BI (λh=>hno λd=>h d.s0) (λh6=>?_));refine BE (by omega) (by omega) (BI (λh=>hno λd=>h d.sn) (λh7=>?_))
 have hup:∀ i:Nat,i<c.At.length->BD c.Start i<BD c.Start ((i:Int)+1):=λi hi=>by have:=(W (i+1) (by omega)).2.2 (by omega);rw[show((i+1:Nat):Int) - 1=i by omega,show((i+1:Nat):Int)=(i:Int)+1 by omega] at this;exact this
 refine CM c.At.length (by omega) (λi=>∀ j:Nat,j<i->An2 c j) (by simp) (λi next hi hR hnx=>?_) (λnext hR=>?_)
 . refine A1 (λ_=>?_) (λh=>by omega);have e1:A6 ((i:Int)+1)=(i:Int)+1:=AB (by omega) (by omega);rw[e1] at hnx ⊢;have U:0<=BD c.Start i:=(W i (by omega)).1
   have V:BD c.Start ((i:Int)+1)<=c.Row.length:=by have:=(W (i+1) (by omega)).2.1;rw[show((i+1:Nat):Int)=(i:Int)+1 by omega] at this; omega
   have hm:=hup i hi;refine BE (by omega) (by omega) (BE (by omega) (by omega) ⟨U,by omega,V,?_⟩);have J:=Ad6 U (Int.le_of_lt hm) V;have O:∀ j:Nat,BD c.Start i+j<BD c.Start ((i:Int)+1)->BD ((c.Row.take (BD c.Start ((i:Int)+1)).toNat).drop (BD c.Start i).toNat) j=BD c.Row (BD c.Start i+j):=λj hj=>Ad5 U (Int.le_of_lt hm) V hj;refine jJ (by omega) (by omega) (by rw[J]; omega) (λZ=>AC rfl (hnx λj hj=>?_)) (λhb=>AU rfl (hno λd=>?_))
   . by_cases e:j=i
     . subst e;intro p hp1 hp2;obtain⟨q,hq⟩:∃ q:Nat,(p:Int)=BD c.Start j+q:=⟨(p - BD c.Start j).toNat,by omega⟩;have K:=Z q (by rw[J]; omega);rw[O q (by omega),<-hq] at K;refine⟨K.1,K.2.1,λhlt=>?_⟩;have:=K.2.2 (by omega);rw[show(q:Int) - 1=((q - 1:Nat):Int) by omega,O (q - 1) (by omega),show BD c.Start j+((q - 1:Nat):Int)=(p:Int) - 1 by omega] at this;exact this
     . exact hR j (by omega)
   . obtain⟨q,hq,D⟩:=hb;rw[J] at hq;apply D;have K:=d.row i hi (BD c.Start i+q).toNat (by omega) (by omega);have ep:(((BD c.Start i+q).toNat:Nat):Int)=BD c.Start i+q:=by omega
     rw[ep] at K;rw[O q (by omega)];refine⟨K.1,K.2.1,λh0=>?_⟩;have:=K.2.2 (by omega);rw[show(q:Int) - 1=((q - 1:Nat):Int) by omega,O (q - 1) (by omega),show BD c.Start i+((q - 1:Nat):Int)=BD c.Start i+q - 1 by omega];exact this
 . refine A1 (λh=>by omega) (λ_=>hyes ⟨h1.1,h1.2,h2.1,h2.2,h3,by omega,by omega,h6,h7,hat,hup,λi hi=>hR i (by omega)⟩)
theorem Canon.colp {rows cols:Int} {T:List A3} (h:Canon cols rows T):AeY (SU rows cols T) where
 r0:=h.c0
 r1:=h.c1
 c0:=h.r0
 c1:=h.r1
 sl:=by simp[SU,YT]
 vl:=by simp[SU]
 cl:=by simpa[SU] using h.len
 s0:=rfl
 sn:=by
  show BD (dF cols.toNat T) (L4 cols.toNat T).length=((T.map (·.Col)).length:Int);rw[List.length_map]
  cases hl:(L4 cols.toNat T).length with
  | zero=>
   have hn:T=[]:=by
     rcases T with _ | ⟨t,T⟩
     . rfl
     . obtain⟨q,hq,_⟩:=uW h (t:=t) (by simp);omega
   subst hn; rfl
  | succ n=>
   have hj:n<(L4 cols.toNat T).length:=by omega
   rw[show((n+1:Nat):Int)=(n:Int)+1 by omega,Ah5 hj];unfold EO;rw[List.countP_eq_length.2];intro t ht;obtain⟨q,hq,e⟩:=uW h ht;simp only[decide_eq_true_eq];rw[<-e];have h0:=(sQ hj).1;by_cases e1:q=n
   . subst e1; omega
   . have:=PK (IX cols.toNat T) (show q<n by omega) hj; omega
 at_ i hi:=by have h0:=(sQ (T:=T) (n:=cols.toNat) hi).1;refine⟨h0.1,by have:=h.r0; show BD (L4 cols.toNat T) i<cols; omega,λhp=>?_⟩;have:=PK (IX cols.toNat T) (show i - 1<i by omega) hi;rw[show((i - 1:Nat):Int)=(i:Int) - 1 by omega] at this;exact this
 up i hi:=by obtain⟨x,lo,hi',h1,h2,h3,h4,h5,s⟩:=h.colseg hi;show BD (dF cols.toNat T) i<BD (dF cols.toNat T) ((i:Int)+1);omega
 row i hi:=by
  obtain⟨x,lo,hi',h1,h2,h3,h4,h5,s⟩:=h.colseg hi;intro j hj1 hj2;have hj1:BD (dF cols.toNat T) i<=j:=hj1;have hj2:(j:Int)<BD (dF cols.toNat T) ((i:Int)+1):=hj2;show 0<=BD (T.map (·.Col)) j∧BD (T.map (·.Col)) j<rows∧(BD (dF cols.toNat T) i<j->BD (T.map (·.Col)) ((j:Int) - 1)<BD (T.map (·.Col)) j);have hl:=s.len;have hjl:j<T.length:=by omega
  have hc:BD (T.map (·.Col)) j=T[j].Col:=by rw[mU (by omega) (by omega)]; rfl
  have hin:=h.inn _ (List.getElem_mem hjl);unfold mT at hin;refine⟨by rw[hc]; omega,by rw[hc]; omega,λhlt=>?_⟩;obtain⟨q,rfl⟩:∃ q,j=q+1:=⟨j - 1,by omega⟩;have hc2:BD (T.map (·.Col)) (((q+1:Nat):Int) - 1)=T[q].Col:=by rw[mU (by omega) (by simp; omega)]; simp
  have r1:=s.row q (by omega) (by omega) (by omega);have r2:=s.row (q+1) hjl (by omega) (by omega);have hs:=List.pairwise_iff_getElem.1 h.srt q (q+1) (by omega) hjl (by omega);unfold MB key at hs;simp only at hs;rw[hc,hc2]; omega
theorem oG:SU 0 0 []=⟨0,0,[],[0],[],[]⟩:=by simp[SU,L4,dF]
noncomputable def XU (c:AN):AN:=if AeY c then c else SU 0 0 []
theorem jK {rows cols:Int} {T:List A3} (h:Canon cols rows T):XU (SU rows cols T)=SU rows cols T:=by unfold XU; rw[if_pos h.colp]
theorem gA {c:AN} {Q:AN->Prop} (D:UY c) (d:Q (XU c)):VO c Q:=by
 unfold VO VL;unfold XU at d;refine cB D (A1 (λh=>?_) (λh=>?_))
 . rwa [if_pos h] at d
 . rwa [if_neg h,oG] at d
theorem Canon.smlC {rows cols:Int} {T:List A3} (h:Canon cols rows T):UY (SU rows cols T):=by have:=h.r1; have:=h.len; have:=fZ cols.toNat T;unfold UY SU;simp only[List.length_map,YT];omega
theorem AdB {n:Nat} {T:List A3} {t:A3} (h:∃ u∈T,u.Row=t.Row):L4 n (T++[t])=L4 n T:=by
 refine yH (IX _ _) (IX _ _) λx=>?_;rw[JS,JS];obtain⟨u,K,e⟩:=h;constructor
 . rintro⟨D,v,d,rfl⟩;rcases List.mem_append.1 d with d | d
   . exact⟨D,v,d,rfl⟩
   . simp at d; subst d; exact⟨D,u,K,e⟩
 . rintro⟨D,v,d,J⟩; exact⟨D,v,by simp[d],J⟩
theorem AdC {n:Nat} {T:List A3} {t:A3} (K:0<=t.Row) (U:t.Row<n) (h:∀ u∈T,u.Row<t.Row):L4 n (T++[t])=L4 n T++[t.Row]:=by
 refine yH (IX _ _) ?_ λx=>?_
 . rw[List.pairwise_append];refine⟨IX _ _,by simp,λa O b D=>?_⟩;simp at D; subst D;obtain⟨_,u,J,rfl⟩:=JS.1 O;exact h u J
 . rw[List.mem_append,JS,JS];constructor
   . rintro⟨g,v,d,rfl⟩;rcases List.mem_append.1 d with d | d
     . exact .inl ⟨g,v,d,rfl⟩
     . simp at d; subst d; simp
   . rintro(⟨g,v,d,e⟩ | hx)
     . exact⟨g,v,by simp[d],e⟩
     . simp at hx; subst hx; exact⟨⟨K,U⟩,t,by simp,rfl⟩
theorem AdD (n:Nat):L4 n []=[]:=by unfold L4; rw[List.filter_eq_nil_iff.2 (by simp[AlS])]; rfl
theorem AjU (n:Nat):dF n []=[0]:=by unfold dF; rw[AdD]; rfl
theorem oH {T:List A3} {x:Nat} (h:∀ u∈T,u.Row<(x:Int)):EO T x=T.length:=by unfold EO; rw[List.countP_eq_length.2]; intro t d; simpa using h t d
theorem AjV {n:Nat} {T:List A3} {t:A3} (K:0<=t.Row) (D:t.Row<n) (h:∀ u∈T,u.Row<t.Row):dF n (T++[t])=dF n T++[(T.length:Int)+1]:=by
 unfold dF;rw[AdC K D h,List.map_append,List.cons_append];congr 2
 . refine List.map_congr_left λx J=>?_;obtain⟨_,u,d,e⟩:=JS.1 J;have:=h u d;rw[nX,if_neg (by omega)]; omega
 . simp only[List.map_cons,List.map_nil];rw[oH (λu d=>?_)]
   . simp
   . rcases List.mem_append.1 d with d | d
     . have:=h u d; omega
     . simp at d; subst d; omega
theorem AdE {l:List Int} (J:l.Pairwise (· < ·)) {x:Int} (D:x∈l) (d:∀ y∈l,y<=x):BD l ((l.length:Int) - 1)=x:=by
 obtain⟨q,hq,e⟩:=uV D;by_cases h:q=l.length - 1
 . subst h; rw[<-e]; congr 1; omega
 . have h1:=PK J (show q<l.length - 1 by omega) (by omega);have h2:=d _ (mQ (xs:=l) (i:=((l.length - 1:Nat):Int)) (by omega) (by omega));omega
theorem AjW {n:Nat} {T:List A3} {t:A3} (h0:0<=t.Row) (h1:t.Row<n) (h:∃ u∈T,u.Row=t.Row) (hm:∀ u∈T,u.Row<=t.Row):dF n (T++[t])=(dF n T).set (L4 n T).length ((T.length:Int)+1):=by
 obtain⟨u,Z,eu⟩:=h;have J:t.Row∈L4 n T:=JS.2 ⟨⟨h0,h1⟩,u,Z,eu⟩;have U:∀ y∈L4 n T,y<=t.Row:=λy hy=>by obtain⟨_,v,K,rfl⟩:=JS.1 hy; exact hm v K
 have d:=AdE (IX n T) J U;have V:0<(L4 n T).length:=List.length_pos_of_mem J;unfold dF;rw[AdB ⟨u,Z,eu⟩];obtain⟨m,O⟩:∃ m,(L4 n T).length=m+1:=⟨(L4 n T).length - 1,by omega⟩;rw[O,List.set_cons_succ];congr 1;apply List.ext_getElem?;intro i;by_cases hi:i<m+1
 . have D:i<(L4 n T).length:=by omega
   have W:(L4 n T)[i]=BD (L4 n T) i:=by unfold BD; simp[List.getD_eq_getElem?_getD,D]
   by_cases e:m=i
   . subst e;rw[List.getElem?_set_self (by simp; omega)];simp only[List.getElem?_map,List.getElem?_eq_getElem D,Option.map_some,W];rw[O,show((m+1:Nat):Int) - 1=(m:Int) by omega] at d;rw[d,oH (λv K=>?_)]
     . simp
     . rcases List.mem_append.1 K with K | K
       . have:=hm v K; omega
       . simp at K; subst K; omega
   . rw[List.getElem?_set_ne e];simp only[List.getElem?_map,List.getElem?_eq_getElem D,Option.map_some,W];have h2:=PK (IX n T) (show i<m by omega) (by omega);rw[O,show((m+1:Nat):Int) - 1=(m:Int) by omega] at d;rw[d] at h2;have h3:=(sQ D).1;rw[nX,if_neg (by omega)]; simp
 . rw[List.getElem?_eq_none (by simp; omega),List.getElem?_eq_none (by simp; omega)]
theorem AlT {T:List A3} (h:Srt T) {i:Nat} (hi:i<T.length):∀ u∈T.take i,u.Row<=T[i].Row:=by intro u D;obtain⟨j,d,rfl⟩:=List.getElem_of_mem D;simp only[List.length_take] at d;rw[List.getElem_take];have:=List.pairwise_iff_getElem.1 h j i (by omega) hi (by omega);unfold MB key at this;simp only at this; omega
theorem jL {T:List A3} {i:Nat} (hi:i<T.length):T.take (i+1)=T.take i++[T[i]]:=List.take_succ_eq_append_getElem hi
theorem AbH {a:Rows} {rows cols:Int} {ts:List A3} {Q:AN->Prop} (hl:XT a) (hb:YP a=BH rows cols ts) (hR:ST a->a=BH rows cols ts) (hN:¬ST a->rows=0∧cols=0∧ts=[]) (h:Canon rows cols ts) (hQ:Q (SU rows cols (MO cols ts))):mP a Q:=by
 unfold mP VL;refine fW hl (BK (λhr=>?_) (λhr=>?_))
 . obtain⟨rfl,rfl,rfl⟩:=hN (by simpa using hr);rw[show MO 0 ([]:List A3)=[] from rfl,oG] at hQ;exact hQ
 have hr:ST a:=by simpa using hr
 have J:=X2 h;refine yF hl hb h (YQ J.sml (P5 J) J ?_);generalize MO cols ts=T at J hQ;have hlen:=J.len; have hc0:=J.r0; have hc1:=J.r1;have hat:=λi=>fZ cols.toNat (T.take i);refine AD (λ(s:List Int×List Int×List Int×List Int) (i:Int)=>(s.1,s.2.1,s.2.2.1,s.2.2.2,i)) 0 T.length (by omega) (λi s=>s=(L4 cols.toNat (T.take i),dF cols.toNat (T.take i),(T.take i).map (·.Col),(T.take i).map (·.Val))) (by omega) (s0:=([],[0],[],[])) (by simp[AdD,AjU]) (λi s next _ hi hm hn=>?_) (λs next hm=>?_)
 . subst hm;dsimp only;have hin:=J.inn _ (List.getElem_mem hi);unfold mT at hin;have Z:=AlT J.srt hi;refine A1 (λ_=>?_) (λh=>by omega);refine B3 hi ?_;have hlt:(T.take i).length=i:=by simp; omega
   have hln:=hat i
   have fin:∀ (d D:List Int),d=L4 cols.toNat (T.take (i+1))->D.set d.length ((i:Int)+1)=dF cols.toNat (T.take (i+1))->d.length<D.length ->
       DA 8 ((T.take i).map (·.Col)) [T[i].Col] λ_=>DA 8 ((T.take i).map (·.Val)) [T[i].Val] λ_=>AZ D (d.length:Int) λ_=>next (d,D.set (d.length:Int).toNat (((T.take i).map (·.Col)++[T[i].Col]).length:Int),(T.take i).map (·.Col)++[T[i].Col],(T.take i).map (·.Val)++[T[i].Val],A6 ((i:Int)+1)):=λd D e1 K e3=>by
     refine AH (by simp; omega) (AH (by simp; omega) (B3 e3 (hn (d,D.set _ _,_,_) ?_)));have e4:(((T.take i).map (·.Col)++[T[i].Col]).length:Int)=(i:Int)+1:=by simp; omega
     rw[e4,Int.toNat_natCast,K,e1,jL hi,List.map_append,List.map_append]; rfl
   refine BP (λs:List Int×List Int=>s.1=L4 cols.toNat (T.take (i+1))∧s.2.set s.1.length ((i:Int)+1)=dF cols.toNat (T.take (i+1))∧s.1.length<s.2.length) (λs hs=>fin s.1 s.2 hs.1 hs.2.1 hs.2.2) (λk hk=>?_);by_cases hnew:∃ u∈T.take i,u.Row=T[i].Row
   . have e1:=AdB (n:=cols.toNat) hnew;have K:=AjW (n:=cols.toNat) (by omega) (by omega) hnew Z;rw[<-jL hi] at e1 K;rw[hlt] at K;obtain⟨u,hu,eu⟩:=hnew;have U:T[i].Row∈L4 cols.toNat (T.take i):=JS.2 ⟨⟨by omega,by omega⟩,u,hu,eu⟩;have hpos:=List.length_pos_of_mem U;have W:=AdE (IX _ _) U (λy hy=>by obtain⟨_,v,hv,rfl⟩:=JS.1 hy; exact Z v hv);refine BP (λb=>b=false) (λb hb=>by subst hb; exact AC rfl (hk _ ⟨e1.symm,K.symm,by rw[YT]; exact Nat.lt_succ_self _⟩)) (λk2 O=>?_);refine AV (λh=>by omega) (λ_=>?_);rw[AB (by omega) (by omega)];refine BE (by omega) (by omega) (O _ ?_);rw[W]; simp
   . have V:∀ u∈T.take i,u.Row<T[i].Row:=λu hu=>by have h1:=Z u hu;have h2:u.Row≠T[i].Row:=λe=>hnew ⟨u,hu,e⟩;omega
     have e1:=AdC (n:=cols.toNat) (by omega) (by omega) V;have K:=AjV (n:=cols.toNat) (by omega) (by omega) V;rw[<-jL hi] at e1 K;rw[hlt] at K;refine BP (λb=>b=true) (λb hb=>?_) (λk2 O=>?_)
     . subst hb;refine AU rfl (AH (by simp; omega) (AH (by simp[YT]; omega) (hk _ ⟨e1.symm,?_,?_⟩)))
       . rw[K,List.length_append,List.length_singleton,<-YT,List.set_append_right _ _ (Nat.le_refl _)]; simp
       . simp[YT]
     . refine AV (λ_=>O _ rfl) (λh0=>?_);rw[AB (by omega) (by omega)];refine BE (by omega) (by omega) (O _ ?_)
       have hne:BD (L4 cols.toNat (T.take i)) (((L4 cols.toNat (T.take i)).length:Int) - 1)≠T[i].Row:=λe=>by obtain⟨_,u,hu,e'⟩:=JS.1 (mQ (xs:=L4 cols.toNat (T.take i)) (i:=((L4 cols.toNat (T.take i)).length:Int) - 1) (by omega) (by omega));exact hnew ⟨u,hu,e'.trans e⟩
       simpa using hne
 . subst hm;dsimp only;refine A1 (λh=>by omega) (λ_=>?_);rw[List.take_length,hR hr];exact hQ
theorem yI {c:AN} {k:Int} {Q:Int->Prop} (O:c.At.Pairwise (· < ·)) (hl:c.At.length<=1000000000) (h1:∀ j:Nat,j<c.At.length->BD c.At j=k->Q j) (h2:(∀ j:Nat,j<c.At.length->BD c.At j≠k)->Q (-1)):SI c k Q:=by
 unfold SI;refine BP (λs:Int×Int=>(s.1<s.2∧∃ j:Nat,s.1=j∧j<c.At.length∧BD c.At j=k)∨(¬s.1<s.2∧∀ j:Nat,j<c.At.length->BD c.At j≠k)) (λs O=>?_) (λkk K=>?_)
 . obtain⟨s1,s2⟩:=s;dsimp only;rcases O with⟨d,j,rfl,J,e⟩ | ⟨D,W⟩
   . exact A1 (λ_=>h1 j J e) (λh=>absurd d h)
   . exact A1 (λh=>absurd h D) (λ_=>h2 W)
 refine DC (λs:Int×Int=>∃ lo hi:Nat,s=((lo:Int),(hi:Int))∧lo<=hi∧hi<=c.At.length∧(∀ j:Nat,j<lo->BD c.At j<k)∧∀ j:Nat,hi<=j->j<c.At.length->k<BD c.At j) (λs=>(s.2 - s.1).toNat) ⟨0,c.At.length,rfl,by omega,by omega,by omega,by omega⟩ ?_;rintro _ next ⟨lo,hi,rfl,hlh,V,hL,hH⟩ hn;dsimp only;refine A1 (λh=>?_) (λh=>K _ (.inr ⟨h,λj J e=>?_⟩))
 . obtain⟨m,hm⟩:∃ m:Nat,m=lo+(hi - lo) / 2:=⟨_,rfl⟩
   have em:A6 ((lo:Int)+(A6 ((A6 ((hi:Int) - lo)).tdiv 2)))=(m:Int):=by rw[AB (x:=(hi:Int) - lo) (by omega) (by omega),Int.tdiv_eq_ediv_of_nonneg (by omega),AB (x:=((hi:Int) - lo) / 2) (by omega) (by omega),AB (by omega) (by omega)];omega
   rw[em];have e2:A6 ((m:Int)+1)=((m+1:Nat):Int):=by rw[AB (by omega) (by omega)]; omega
   rw[e2];refine BE (by omega) (by omega) (AV (λe=>K _ (.inl ⟨by dsimp only; omega,m,rfl,by omega,e⟩)) (λe=>?_));refine BE (by omega) (by omega) (A1 (λd=>hn _ ⟨m+1,hi,rfl,by omega,V,λj J=>?_,hH⟩ (by simp only; omega)) (λD=>hn _ ⟨lo,m,rfl,by omega,by omega,hL,λj J U=>?_⟩ (by simp only; omega)))
   . by_cases e':j=m
     . subst e'; exact d
     . have:=PK O (show j<m by omega) (by omega); omega
   . by_cases e':j=m
     . subst e'; omega
     . have:=PK O (show m<j by omega) U; omega
 . rcases Nat.lt_or_ge j lo with Z | Z
   . have:=hL j Z; omega
   . have:=hH j (by omega) J; omega
def KS (T:List A3) (k:Int):List AM:=(T.filter λt=>decide (t.Row=k)).map qV
theorem yJ (T:List A3) (k:Nat):KS T k=(RL T k).map qV:=rfl
theorem sR {T:List A3} {n:Nat} {k:Int} (h:∀ t∈T,0<=t.Row∧t.Row<n) (hk:∀ j:Nat,j<(L4 n T).length->BD (L4 n T) j≠k):KS T k=[]:=by
 unfold KS
 rw[List.filter_eq_nil_iff.2]; · rfl
 intro t d
 simp only[decide_eq_true_eq]
 intro e
 have:=h t d
 obtain⟨j,J,D⟩:=uV (l:=L4 n T) (x:=k) (JS.2 ⟨⟨by omega,by omega⟩,t,d,e⟩)
 exact hk j J D
theorem Canon.rowIn {rows cols:Int} {T:List A3} (h:Canon cols rows T):∀ t∈T,0<=t.Row∧t.Row<(cols.toNat:Int):=λt d=>by have:=h.inn t d; unfold mT at this; omega
theorem AbI {rows cols:Int} {T:List A3} (h:Canon cols rows T) {j:Nat} (Z:j<(L4 cols.toNat T).length) {Q:List AM->Prop} (U:Q (KS T (BD (L4 cols.toNat T) j))):E9 (SU rows cols T) j Q:=by
 unfold E9 DG OU;obtain⟨x,lo,hi,h1,h2,h3,V,h5,s⟩:=h.colseg Z;have hs:=YT cols.toNat T;have W:=h.len; have hsl:=s.len; have hc:=h.r1; have hal:=fZ cols.toNat T;have e1:A6 ((j:Int)+1)=(j:Int)+1:=AB (by omega) (by omega);have K:(SU rows cols T).Start=dF cols.toNat T:=rfl;rw[h1,yJ,<-s.eq] at U;rw[K,e1];refine BE (by omega) (by omega) ?_;rw[h3];refine AD (λ(D:List AM) (i:Int)=>(D,i,0)) lo hi (by omega) (λp D=>D=((T.take p).drop lo).map qV) (by omega) (s0:=[]) (by simp) (λp D next J hp2 O hn=>?_) (λD next O=>?_)
 . subst O;dsimp only;refine BE (by omega) (by omega) ?_;rw[V];have d:p<T.length:=by omega
   refine A1 (λ_=>?_) (λh=>by omega);refine AK (by omega) (x:=T[p].Col) (by simp[SU,d]) (AK (by omega) (x:=T[p].Val) (by simp[SU,d]) ⟨rfl,AH (by simp; omega) (AC rfl (hn _ ?_))⟩);rw[yE J d,List.map_append]; rfl
 . subst O;dsimp only;refine BE (by omega) (by omega) ?_;rw[V];exact A1 (λh=>by omega) (λ_=>⟨rfl,U⟩)
theorem oI {c:AN} {rows cols k:Int} {T:List A3} {Q:List AM->Prop} (U:UY c) (J:XU c=SU rows cols T) (h:Canon cols rows T) (D:Q (KS T k)):UA c k Q:=by
 unfold UA;refine gA U ?_;rw[J];have O:=fZ cols.toNat T; have hr:=h.r1;refine yI (IX _ _) (show(L4 cols.toNat T).length<=1000000000 by omega) (λj (K:j<(L4 cols.toNat T).length) (e:BD (L4 cols.toNat T) j=k)=>?_) (λ(d:∀ j:Nat,j<(L4 cols.toNat T).length->BD (L4 cols.toNat T) j≠k)=>?_)
 . refine A1 (λh=>by omega) (λ_=>?_);unfold SO;exact AbI h K (by rw[e]; exact D)
 . refine AU rfl ?_
   rwa [sR h.rowIn d] at D
def QS (T:List A3) (d:List Int):Int:=(d.map λk=>((KS T k).length:Int)).sum
theorem oJ (T:List A3) (l:List Int) (k:Int):QS T (l++[k])=QS T l+(KS T k).length:=by simp[QS]
theorem YU (T:List A3) (k:Int):(KS T k).length<=T.length:=by unfold KS; rw[List.length_map]; exact List.length_filter_le _ _
theorem yK (T:List A3):∀ l:List Int,0<=QS T l∧QS T l<=l.length*T.length
 | []=>by simp[QS]
 | k :: l=>by
  have:=yK T l;have h2:=YU T k;have e:QS T (k :: l)=(KS T k).length+QS T l:=by simp[QS]
  rw[e,List.length_cons];have:((l.length+1:Nat):Int)*(T.length:Int)=l.length*T.length+T.length:=by rw[Int.natCast_add,Int.add_mul]; simp
  omega
theorem uX {c:AN} {rows cols:Int} {T:List A3} {d:List Int} {Q:Int->Prop} (hl:UY c) (hal:d.length<=1000000) (hc:XU c=SU rows cols T) (h:Canon cols rows T) (Z:Q (QS T d)):aC c d Q:=by
 unfold aC;refine gA hl ?_;rw[hc];have hcl:=fZ cols.toNat T; have hr:=h.r1; have O:=h.len; have hs:=YT cols.toNat T;refine AD (λ(s:Int) i=>(s,i)) 0 d.length (by omega) (λi s=>s=QS T (d.take i)) (by omega) (by simp[QS]) (λi s next _ hi K U=>?_) (λs next K=>?_)
 . subst K;dsimp only;refine A1 (λ_=>?_) (λh=>by omega);refine B3 hi ?_;have hb:=yK T (d.take i)
   have hb2:((d.take i).length:Int)*(T.length:Int)<=1000000*65536:=by exact Int.mul_le_mul (by simp; omega) (by omega) (by omega) (by omega)
   have hstep (v:Int) (hv:v=(KS T d[i]).length):next (A6 (QS T (d.take i)+A6 v),A6 ((i:Int)+1)):=by have hc2:=YU T d[i];rw[AB (x:=v) (by omega) (by omega),AB (by omega) (by omega)];refine U _ ?_;rw[List.take_succ_eq_append_getElem hi,oJ,hv]
   have hzero (hz:KS T d[i]=[]):next (QS T (d.take i),A6 ((i:Int)+1)):=by refine U _ ?_;rw[List.take_succ_eq_append_getElem hi,oJ,hz]; simp
   refine yI (IX _ _) (show(L4 cols.toNat T).length<=1000000000 by omega) (λj (V:j<(L4 cols.toNat T).length) (e:BD (L4 cols.toNat T) j=d[i])=>?_) (λ(D:∀ j:Nat,j<(L4 cols.toNat T).length->BD (L4 cols.toNat T) j≠d[i])=>?_)
   . obtain⟨x,lo,W,h1,h2,h3,h4,h5,s⟩:=h.colseg V;refine A1 (λ_=>?_) (λh=>by omega);have J:(SU rows cols T).Start=dF cols.toNat T:=rfl;rw[J,AB (x:=(j:Int)+1) (by omega) (by omega)];refine BE (by omega) (by omega) (BE (by omega) (by omega) (hstep _ ?_));rw[h3,h4,<-e,h1,yJ,<-s.eq];have:=s.len;simp; omega
   . exact A1 (λh=>by omega) (λ_=>hzero (sR h.rowIn D))
 . subst K;dsimp only;refine A1 (λh=>by omega) (λ_=>?_);rw[List.take_length]; exact Z
theorem AbJ {cols:Int} {T:List A3} {rows:Int} (h:Canon rows cols T) (D:∀ t∈T,EZ t.Val):∀ t∈MO cols T,EZ t.Val:=λt d=>D (dE t) ((VU h t).1 d)
def D1:List A3:=[⟨700,1,4⟩]
end Go.Proofs.YtkbkaodgfedfmaaGreat
