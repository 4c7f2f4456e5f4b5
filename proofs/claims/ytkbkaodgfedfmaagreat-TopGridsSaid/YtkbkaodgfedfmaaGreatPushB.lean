import Derived.Test.YtkbkaodgfedfmaaGreatDcscF
namespace Go.Proofs.YtkbkaodgfedfmaaGreat
open Go Go.Fw
set_option linter.unusedVariables false
set_option linter.unusedSimpArgs false
def qW (h:AF):JX:=((h.l.head?.map (·.At)).getD 0,h.which)
def gH (H:List AF) (i:Nat):AF:=H.getD i default
theorem NS {H:List AF} {i:Nat} (h:i<H.length):H[i]? = some (gH H i):=by simp[gH,List.getD_eq_getElem?_getD,h]
theorem AbK {H:List AF} {i:Nat} (h:i<H.length):gH H i∈H:=List.mem_of_getElem? (NS h)
def HO (H:List AF) (i:Nat):JX:=qW (gH H i)
def full (H:List AF):Prop:=∀ h∈H,h.l≠[]
theorem VV {H d:List AF} (h:full H) (hp:d.Perm H):full d:=λx D=>h x (hp.mem_iff.1 D)
theorem oK {H:List AF} {i k:Nat} {Q:Bool->Prop} (h:full H) (hi:i<H.length) (hk:k<H.length) (D:Q (decide (MB (HO H i) (HO H k)))):EK H i k Q:=by
 unfold EK;obtain⟨s,t,K⟩:∃ s t,(gH H i).l=s :: t:=List.exists_cons_of_ne_nil (h _ (AbK hi));obtain⟨d,t',J⟩:∃ s t,(gH H k).l=s :: t:=List.exists_cons_of_ne_nil (h _ (AbK hk));have U:HO H i=(s.At,(gH H i).which):=by simp[HO,qW,K]
 have O:HO H k=(d.At,(gH H k).which):=by simp[HO,qW,J]
 refine AK (x:=gH H i) (by omega) (NS hi) (AK (by omega) (x:=s) (by rw[K]; rfl) (AK (x:=gH H k) (by omega) (NS hk) (AK (by omega) (x:=d) (by rw[J]; rfl) (AK (x:=gH H i) (by omega) (NS hi) (AK (x:=gH H k) (by omega) (NS hk) ?_)))));refine FR (FR (sH ?_));rw[U,O] at D
 have:(or2 (O5 s.At d.At) (O5 (gH H i).which (gH H k).which)<0)↔MB (s.At,(gH H i).which) (d.At,(gH H k).which):=by unfold or2 O5 MB; simp only; split <;> split <;> (try split) <;> (try split) <;> omega
 simpa only[this] using D
def swp (H:List AF) (i k:Nat):List AF:=(H.set i (gH H k)).set k (gH H i)
theorem aS (H:List AF) (i k:Nat):(swp H i k).length=H.length:=by simp[swp]
theorem uY {H:List AF} {i k:Nat} (hi:i<H.length) (hk:k<H.length) (j:Nat):gH (swp H i k) j=if j=k then gH H i else if j=i then gH H k else gH H j:=by
 unfold swp gH;simp only[List.getD_eq_getElem?_getD];by_cases e1:j=k
 . subst e1; rw[if_pos rfl,List.getElem?_set_self (by simpa using hk)]; simp
 . rw[if_neg e1,List.getElem?_set_ne (Ne.symm e1)];by_cases e2:j=i
   . subst e2; rw[if_pos rfl,List.getElem?_set_self hi]; simp
   . rw[if_neg e2,List.getElem?_set_ne (Ne.symm e2)]
theorem PL {H:List AF} {i k:Nat} (hi:i<H.length) (hk:k<H.length) (j:Nat):HO (swp H i k) j=if j=k then HO H i else if j=i then HO H k else HO H j:=by
 unfold HO; rw[uY hi hk]; split
 . rfl
 . split <;> rfl
theorem oL {α:Type}:∀ (l:List α) (i:Nat) (h:i<l.length) (y:α),(l[i] :: l.set i y).Perm (y :: l)
 | a :: l,0,_,y=>by simpa using List.Perm.swap y a l
 | a :: l,i+1,h,y=>by have:=oL l i (by simpa using h) y;simp only[List.getElem_cons_succ,List.set_cons_succ];exact(List.Perm.swap _ _ _).trans ((this.cons a).trans (List.Perm.swap _ _ _))
theorem oM {H:List AF} {i k:Nat} (hi:i<H.length) (hk:k<H.length):(swp H i k).Perm H:=by
 have K:H[i]=gH H i:=by have:=NS hi; rw[List.getElem?_eq_getElem hi] at this; exact Option.some.inj this
 have J:H[k]=gH H k:=by have:=NS hk; rw[List.getElem?_eq_getElem hk] at this; exact Option.some.inj this
 have h:=oL H i hi (gH H k);have d:=oL (H.set i (gH H k)) k (by simpa using hk) (gH H i)
 have D:(H.set i (gH H k))[k]'(by simpa using hk)=gH H k:=by
  rw[List.getElem_set]; split
  . rfl
  . exact J
 rw[D] at d; rw[K] at h;exact List.Perm.cons_inv (d.trans h)
theorem uZ {H:List AF} {i k:Nat} {Q:List AF->Prop} (hi:i<H.length) (hk:k<H.length) (d:Q (swp H i k)):EL H i k Q:=by unfold EL;refine AK (x:=gH H k) (by omega) (NS hk) (AK (x:=gH H i) (by omega) (NS hi) (AK (x:=gH H i) (by omega) (NS hi) ?_));refine AK (x:=(H.set i (gH H k))[k]'(by simpa using hk)) (by omega) (by simp only[Int.toNat_natCast]; exact List.getElem?_eq_getElem (by simpa using hk)) ?_;simp only[Int.toNat_natCast];exact d
def jM (H:List AF) (n:Nat):Prop:=∀ j,0<j->j<n->¬MB (HO H j) (HO H ((j - 1) / 2))
theorem AeZ {H:List AF} {n:Nat} (h:jM H n):∀ j,j<n->¬MB (HO H j) (HO H 0):=by
 intro j
 induction j using Nat.strongRecOn with
 | _ j D=>
  intro d;rcases Nat.eq_zero_or_pos j with e | hp
  . subst e; exact GD _
  . have h1:=h j hp d;have h2:=D ((j - 1) / 2) (by omega) (by omega);unfold MB at *; omega
theorem An3 {o:A7} {j:Nat} {Q:A7->Prop} (hl:o.heads.length<=1000000000000) (hf:full o.heads) (h:j<o.heads.length)
   (h1:∀ c,0<c->c<o.heads.length->c≠j->¬MB (HO o.heads c) (HO o.heads ((c - 1) / 2))) (h2:∀ c,0<c->c<o.heads.length->(c - 1) / 2=j->0<j->¬MB (HO o.heads c) (HO o.heads ((j - 1) / 2)))
   (hQ:∀ H,H.Perm o.heads->jM H H.length->Q ⟨H,o.r,o.out⟩):ES o j Q:=by
 unfold ES
 refine DC (λs:List AF×Int=>∃ j:Nat,s.2=j∧s.1.Perm o.heads∧j<s.1.length∧(∀ c,0<c->c<s.1.length->c≠j->¬MB (HO s.1 c) (HO s.1 ((c - 1) / 2)))∧(∀ c,0<c->c<s.1.length->(c - 1) / 2=j->0<j->¬MB (HO s.1 c) (HO s.1 ((j - 1) / 2)))) (λs=>s.2.toNat)
   ⟨j,rfl,.refl _,h,h1,h2⟩ ?_
 rintro⟨H,jj⟩ next ⟨j,e,hp,h,K,g2⟩ hn;simp only at e hp h K g2 ⊢;subst e;have hlen:=hp.length_eq
 have ei:A6 ((A6 ((j:Int) - 1)).tdiv 2)=((if j=0 then 0 else (j - 1) / 2:Nat):Int):=by
   rw[AB (x:=(j:Int) - 1) (by omega) (by omega)];split
   . rename_i e; subst e; decide
   . rw[Int.tdiv_eq_ediv_of_nonneg (by omega),AB (by omega) (by omega)]; omega
 rw[ei];refine AV (λe=>?_) (λe=>?_)
 . refine hQ H hp λc D d=>K c D d ?_;split at e <;> omega
 . have W:0<j:=by
     rcases Nat.eq_zero_or_pos j with z | z
     . subst z; simp at e
     . exact z
   simp only[show j≠0 by omega,if_false];have V:=VV hf hp;refine oK V h (by omega) (BK (λJ=>?_) (λJ=>?_))
   . refine hQ H hp λc D d=>?_;by_cases ec:c=j
     . subst ec; exact of_decide_eq_false J
     . exact K c D d ec
   . have J:=of_decide_eq_true J;refine uZ (by omega) h (hn _ ⟨(j - 1) / 2,rfl,(oM (by omega) h).trans hp,by rw[aS]; omega,?_,?_⟩ (by simp only[Int.toNat_natCast]; omega))
     . intro c D d Z;rw[aS] at d;rw[PL (by omega) h,PL (by omega) h];by_cases e1:c=j
       . subst e1;rw[if_pos rfl,if_neg (by omega),if_pos rfl];unfold MB at *; omega
       . rw[if_neg e1,if_neg Z];by_cases e2:(c - 1) / 2=j
         . rw[if_pos e2];exact g2 c D d e2 W
         . rw[if_neg e2];by_cases e3:(c - 1) / 2=(j - 1) / 2
           . rw[if_pos e3];have:=K c D d e1;rw[e3] at this;unfold MB at *; omega
           . rw[if_neg e3]; exact K c D d e1
     . intro c D d he U;rw[aS] at d;rw[PL (by omega) h,PL (by omega) h];have O:=K ((j - 1) / 2) U (by omega) (by omega);rw[if_neg (show((j - 1) / 2 - 1) / 2≠j by omega),if_neg (show((j - 1) / 2 - 1) / 2≠(j - 1) / 2 by omega)];by_cases e1:c=j
       . subst e1; rw[if_pos rfl]; exact O
       . rw[if_neg e1,if_neg (by omega)];have:=K c D d e1;rw[he] at this;unfold MB at *; omega
theorem Ah6 {o:A7} {l:List B8} {w:Int} {Q:A7->Prop} (hl:o.heads.length<=1000000000) (Z:full o.heads) (W:jM o.heads o.heads.length)
   (U:∀ H,H.Perm (if l=[] then o.heads else ⟨l,w⟩ :: o.heads)->jM H H.length->Q ⟨H,o.r,o.out⟩):FU o l w Q:=by
 unfold FU HK LA GA;refine A1 (λh=>?_) (λh=>?_)
 . have J:l≠[]:=by intro e; subst e; simp at h
   rw[if_neg J] at U;refine AH (by simp; omega) ?_;show ES ⟨o.heads++[⟨l,w⟩],o.r,o.out⟩ (A6 (((o.heads++[(⟨l,w⟩:AF)]).length:Int) - 1)) _;have d:(o.heads++[(⟨l,w⟩:AF)]).length=o.heads.length+1:=by simp
   have el:A6 (((o.heads++[(⟨l,w⟩:AF)]).length:Int) - 1)=(o.heads.length:Int):=by rw[d,AB (x:=((o.heads.length+1:Nat):Int) - 1) (by omega) (by omega)]; omega
   rw[el]
   have hk:∀ c,c<o.heads.length->HO (o.heads++[(⟨l,w⟩:AF)]) c=HO o.heads c:=by intro c O; simp[HO,gH,List.getD_eq_getElem?_getD,List.getElem?_append_left O]
   refine An3 (o:=⟨o.heads++[⟨l,w⟩],o.r,o.out⟩) (j:=o.heads.length) (by simp only[d]; omega) ?_ (by simp only[d]; omega) ?_ ?_ ?_
   . intro x hx;rcases List.mem_append.1 hx with V | V
     . exact Z x V
     . simp only[List.mem_singleton] at V; subst V; exact J
   . intro c O D K;simp only[d] at D K ⊢;rw[hk c (by omega),hk _ (by omega)];exact W c O (by omega)
   . intro c O D he hp;simp only[d] at D;omega
   . intro H hp hH;exact U H (hp.trans List.perm_append_comm) hH
 . have:l=[]:=by
     cases l with
     | nil=>rfl
     | cons a b=>simp at h
   subst this;rw[if_pos rfl] at U;exact U o.heads (.refl _) W
theorem AjX {o:A7} {n:Nat} {Q:Bool×A7->Prop} (hl:o.heads.length<=1000000000000) (hf:full o.heads) (hn:n<=o.heads.length)
   (h1:∀ c,0<c->c<n->(c - 1) / 2≠0->¬MB (HO o.heads c) (HO o.heads ((c - 1) / 2)))
   (hQ:∀ b H,H.Perm o.heads->jM H n->(∀ j,n<=j->gH H j=gH o.heads j)->Q (b,⟨H,o.r,o.out⟩)):FJ o 0 n Q:=by
 unfold FJ
 refine DC (λs:List AF×Int=>∃ j:Nat,s.2=j∧s.1.Perm o.heads∧(∀ j,n<=j->gH s.1 j=gH o.heads j)∧(j<n∨j=0)∧(∀ c,0<c->c<n->(c - 1) / 2≠j->¬MB (HO s.1 c) (HO s.1 ((c - 1) / 2)))∧(∀ c,0<c->c<n->(c - 1) / 2=j->0<j->¬MB (HO s.1 c) (HO s.1 ((j - 1) / 2)))) (λs=>n - s.2.toNat)
   ⟨0,rfl,.refl _,λ_ _=>rfl,.inr rfl,h1,λc _ _ _ h=>absurd h (by omega)⟩ ?_
 rintro⟨H,jj⟩ next ⟨i,e,hp,hr,hi,Z,g2⟩ hn';simp only at e hp hi hr Z g2 ⊢;subst e;have hlen:=hp.length_eq;have e1:A6 (A6 (2*(i:Int))+1)=((2*i+1:Nat):Int):=by rw[AB (x:=2*(i:Int)) (by omega) (by omega),AB (by omega) (by omega)]; omega
 have e2:A6 (((2*i+1:Nat):Int)+1)=((2*i+2:Nat):Int):=by rw[AB (by omega) (by omega)]; omega
 simp only[e1,e2];refine A1 (λh=>?_) (λh=>A1 (λh'=>by omega) (λ_=>?_))
 . exact hQ _ H hp (λc J d=>Z c J d (by omega)) hr
 . have W:=VV hf hp;refine BP (λt:Int=>∃ j:Nat,t=j∧j<n∧(j - 1) / 2=i∧0<j∧∀ c,0<c->c<n->(c - 1) / 2=i->¬MB (HO H c) (HO H j)) ?_ ?_
   . rintro t ⟨j,rfl,V,U,hj0,K⟩;refine oK W (by omega) (by omega) (BK (λD=>?_) (λD=>?_))
     . refine hQ _ H hp (λc J d=>?_) hr;by_cases ec:(c - 1) / 2=i
       . have q1:=K c J d ec;have q2:=of_decide_eq_false D;rw[ec];unfold MB at *; omega
       . exact Z c J d ec
     . have D:=of_decide_eq_true D;refine uZ (by omega) (by omega) (hn' _ ⟨j,rfl,(oM (by omega) (by omega)).trans hp,?_,.inl V,?_,?_⟩ (by simp only[Int.toNat_natCast]; omega))
       . intro q hq;rw[uY (by omega) (by omega),if_neg (by omega),if_neg (by omega)];exact hr q hq
       . intro c J d hne;rw[PL (by omega) (by omega),PL (by omega) (by omega)];by_cases ec:c=j
         . subst ec;rw[if_pos rfl,if_neg (by omega),if_pos U];unfold MB at *; omega
         . rw[if_neg ec];by_cases ei:c=i
           . subst ei;rw[if_pos rfl,if_neg hne,if_neg (by omega)];exact g2 j hj0 V U J
           . rw[if_neg ei,if_neg hne];by_cases ep:(c - 1) / 2=i
             . rw[if_pos ep]; exact K c J d ep
             . rw[if_neg ep]; exact Z c J d ep
       . intro c J d he _;rw[PL (by omega) (by omega),PL (by omega) (by omega),if_neg (by omega),if_neg (by omega),if_neg (by omega),if_pos U];have:=Z c J d (by omega)
         rwa [he] at this
   . intro k' O;refine A1 (λh2=>oK W (by omega) (by omega) ⟨λD=>?_,λD=>?_⟩) (λh2=>?_)
     . refine O _ ⟨2*i+2,rfl,by omega,by omega,by omega,λc J d he=>?_⟩;have D:=of_decide_eq_true D;rcases(show c=2*i+1∨c=2*i+2 by omega) with e | e
       . subst e; unfold MB at *; omega
       . subst e; exact GD _
     . refine O _ ⟨2*i+1,rfl,by omega,by omega,by omega,λc J d he=>?_⟩;have D:=of_decide_eq_false D;rcases(show c=2*i+1∨c=2*i+2 by omega) with e | e
       . subst e; exact GD _
       . subst e; exact D
     . refine O _ ⟨2*i+1,rfl,by omega,by omega,by omega,λc J d he=>?_⟩;rcases(show c=2*i+1∨c=2*i+2 by omega) with e | e
       . subst e; exact GD _
       . omega
theorem AlU {o:A7} {Q:AF×A7->Prop} (hl:o.heads.length<=1000000000) (hf:full o.heads) (hh:jM o.heads o.heads.length) (h0:o.heads≠[])
   (hQ:∀ x H,(gH o.heads 0 :: H).Perm o.heads->jM H H.length->Q (x,⟨H,o.r,o.out⟩)):G1 o Q:=by
 unfold G1 GA;have d:0<o.heads.length:=List.length_pos_iff.2 h0;have e:A6 ((o.heads.length:Int) - 1)=((o.heads.length - 1:Nat):Int):=by rw[AB (by omega) (by omega)]; omega
 simp only[e];have hs0:0<o.heads.length:=d;refine uZ (i:=0) d (by omega) ?_;have D:=oM (H:=o.heads) (i:=0) (k:=o.heads.length - 1) d (by omega);refine AjX (o:=⟨swp o.heads 0 (o.heads.length - 1),o.r,o.out⟩) (n:=o.heads.length - 1) (by simp only[aS]; omega) (VV hf D) (by simp only[aS]; omega) ?_ ?_
 . intro c J hcl U;simp only;rw[PL d (by omega),PL d (by omega),if_neg (by omega),if_neg (by omega),if_neg (by omega),if_neg U];exact hh c J (by omega)
 . intro b H hp hH V;simp only at hp V;have O:H.length=o.heads.length:=hp.length_eq.trans (aS _ _ _);unfold M7;have W:A6 ((H.length:Int) - 1)=((o.heads.length - 1:Nat):Int):=by rw[O]; exact e
   simp only[W];refine AK (by omega) (NS (by simp only[Int.toNat_natCast]; omega)) ⟨by omega,by omega,by omega,?_⟩;simp only[Int.toNat_natCast];refine hQ _ _ ?_ ?_
   . have h:=V (o.heads.length - 1) (by omega);rw[uY d (by omega),if_pos rfl] at h;rw[<-h]
     have h3:H=H.take (o.heads.length - 1)++[gH H (o.heads.length - 1)]:=by
      have Z:H[o.heads.length - 1]'(by omega)=gH H (o.heads.length - 1):=by have:=NS (H:=H) (i:=o.heads.length - 1) (by omega); rw[List.getElem?_eq_getElem (by omega)] at this; exact Option.some.inj this
      rw[<-Z,List.take_append_getElem (by omega),List.take_of_length_le (by omega)]
     exact(List.perm_append_comm (l₁:=[gH H (o.heads.length - 1)])).trans ((h3▸.refl _:(H.take (o.heads.length - 1)++[gH H (o.heads.length - 1)]).Perm H).trans (hp.trans D))
   . intro j hj K;rw[List.length_take] at K
     have hk:∀ c,c<o.heads.length - 1->HO (H.take (o.heads.length - 1)) c=HO H c:=by intro c J; simp[HO,gH,List.getD_eq_getElem?_getD,List.getElem?_take,J]
     rw[hk j (by omega),hk _ (by omega)];exact hH j hj (by omega)
def kvM (s:B8):Int×AL:=(s.At,s.Val)
def lk (l:List B8) (i:Int):Option AL:=B9 i (l.map kvM)
def Rise (l:List B8):Prop:=l.Pairwise λa b=>a.At<b.At
instance (l:List B8):Decidable (Rise l):=by unfold Rise; infer_instance
def qQ (l:List B8):Prop:=∀ s∈l,Q6 s.Val
theorem oN (i:Int):lk [] i=none:=rfl
theorem DT (s:B8) (l:List B8) (i:Int):lk (s :: l) i=if i=s.At then some s.Val else lk l i:=rfl
theorem UD:∀ {l:List B8} {i:Int},(∀ s∈l,s.At≠i)->lk l i=none
 | [],_,_=>rfl
 | s :: l,i,h=>by rw[DT,if_neg (λe=>h s (by simp) e.symm)]; exact UD λx d=>h x (by simp[d])
theorem jN:∀ {l:List B8} {i:Int} {v:AL},lk l i=some v->⟨i,v⟩∈l
 | s :: l,i,v,h=>by
  rw[DT] at h;split at h
  . rename_i e; cases h; subst e; simp
  . exact List.mem_cons_of_mem _ (jN h)
theorem oO:∀ {l:List B8} (h:Rise l) {s:B8},s∈l->lk l s.At=some s.Val
 | x :: l,h,s,hs=>by
  unfold Rise at h;rw[List.pairwise_cons] at h;rw[DT];rcases List.mem_cons.1 hs with e | hs
  . subst e; rw[if_pos rfl]
  . have:=h.1 s hs;rw[if_neg (by omega)]; exact oO h.2 hs
theorem VW:∀ (l:List B8) (m:List B8) (i:Int),lk (l++m) i=match lk l i with | some v=>some v | none=>lk m i
 | [],m,i=>rfl
 | s :: l,m,i=>by
  rw[List.cons_append,DT,DT];split
  . rfl
  . exact VW l m i
theorem yL {l m:List B8} (h:Rise l) (D:Rise m) (J:∀ i,lk l i=lk m i):l=m:=by
 have K:∀ {l:List B8},Rise l->l.Nodup:=λh=>h.imp λO e=>by subst e; omega
 have hp:l.Perm m:=(List.perm_ext_iff_of_nodup (K h) (K D)).2 λs=>⟨λd=>by
  have:=oO h d; rw[J] at this; exact jN this,λd=>by
  have:=oO D d; rw[<-J] at this; exact jN this⟩
 exact aO hp h D λa b _ _ h1 h2=>by omega
theorem yM {l:List B8} (h:∀ (i:Nat) (hi:i+1<l.length),l[i].At<l[i+1].At):Rise l:=by
 unfold Rise;rw[List.pairwise_iff_getElem];intro i j hi hj K;obtain⟨d,rfl⟩:∃ d,j=i+1+d:=⟨j - i - 1,by omega⟩
 induction d with
 | zero=>exact h i (by omega)
 | succ d D=>have O:=D (by omega) (by omega); have J:=h (i+1+d) (by omega); exact Int.lt_trans O J
theorem Rise.adj {l:List B8} (h:Rise l) {i j:Nat} (D:j<l.length) (d:i<j):(l[i]'(by omega)).At<l[j].At:=by unfold Rise at h; rw[List.pairwise_iff_getElem] at h; exact h i j (by omega) D d
def iX (r:Int):Option AL->Option AL->Option AL
 | none,y=>y
 | some a,none=>some a
 | some a,some b=>some (KC r a b)
theorem SW (r:Int) (a:Option AL):iX r a none=a:=by cases a <;> rfl
def L5 (r:Int) (a b:List B8):List B8:=
 match a,b with
 | [],b=>b
 | x :: a,[]=>x :: a
 | x :: a,y :: b=>if x.At<y.At then x :: L5 r a (y :: b) else if y.At<x.At then y :: L5 r (x :: a) b else ⟨x.At,KC r x.Val y.Val⟩ :: L5 r a b
termination_by a.length+b.length
theorem Ah7 (r:Int) (a:List B8):L5 r a []=a:=by cases a <;> simp[L5]
theorem X3 (r:Int):∀ (a b:List B8) (s:B8),s∈L5 r a b->(∃ x∈a,x.At=s.At)∨∃ x∈b,x.At=s.At
 | [],b,s,h=>.inr ⟨s,by simpa[L5] using h,rfl⟩
 | x :: a,[],s,h=>.inl ⟨s,by simpa[L5] using h,rfl⟩
 | x :: a,y :: b,s,h=>by
  rw[L5] at h;split at h
  . rcases List.mem_cons.1 h with e | h
    . exact .inl ⟨x,by simp,by rw[e]⟩
    . rcases X3 r a (y :: b) s h with⟨z,hz,e⟩ | ⟨z,hz,e⟩
      . exact .inl ⟨z,by simp[hz],e⟩
      . exact .inr ⟨z,hz,e⟩
  . split at h
    . rcases List.mem_cons.1 h with e | h
      . exact .inr ⟨y,by simp,by rw[e]⟩
      . rcases X3 r (x :: a) b s h with⟨z,hz,e⟩ | ⟨z,hz,e⟩
        . exact .inl ⟨z,hz,e⟩
        . exact .inr ⟨z,by simp[hz],e⟩
    . rcases List.mem_cons.1 h with e | h
      . exact .inl ⟨x,by simp,by rw[e]⟩
      . rcases X3 r a b s h with⟨z,hz,e⟩ | ⟨z,hz,e⟩
        . exact .inl ⟨z,by simp[hz],e⟩
        . exact .inr ⟨z,by simp[hz],e⟩
termination_by a b=>a.length+b.length
theorem VX (r:Int):∀ (a b:List B8),Rise a→Rise b→Rise (L5 r a b)∧(L5 r a b).length≤a.length+b.length∧(qQ a→qQ b→qQ (L5 r a b))∧∀ i,lk (L5 r a b) i=iX r (lk a i) (lk b i)
  | [],b,_,hb=>by simp only [L5]; exact ⟨hb,by simp,fun _ h=>h,fun i=>rfl⟩
  | x :: a,[],ha,_=>by rw [Ah7]; exact ⟨ha,by simp,fun h _=>h,fun i=>by rw [oN,SW]⟩
  | x :: a,y :: b,ha,hb=>by
    have ha':=ha; have hb':=hb
    unfold Rise at ha' hb'
    rw [List.pairwise_cons] at ha' hb'
    rw [L5]
    split
    · rename_i hlt
      obtain ⟨h1,h2,h3,h4⟩:=VX r a (y :: b) ha'.2 hb
      refine ⟨List.pairwise_cons.2 ⟨fun s hs=>?_,h1⟩,by simp at h2 ⊢; omega,fun q1 q2 s hs=>?_,fun i=>?_⟩
      · rcases X3 r a (y :: b) s hs with ⟨z,hz,e⟩ | ⟨z,hz,e⟩
        · rw [←e]; exact ha'.1 z hz
        · rw [←e]; rcases List.mem_cons.1 hz with e' | hz
          · rw [e']; exact hlt
          · have:=hb'.1 z hz; omega
      · rcases List.mem_cons.1 hs with e | hs
        · subst e; exact q1 _ (by simp)
        · exact h3 (fun s hs=>q1 s (by simp [hs])) q2 s hs
      · rw [DT,DT x a]
        split
        · rename_i e; subst e
          rw [UD (l := y :: b) (fun s hs => by
            rcases List.mem_cons.1 hs with e | hs
            · subst e; omega
            · have:=hb'.1 s hs; omega)]
          rfl
        · exact h4 i
    · rename_i hlt
      split
      · rename_i hlt'
        obtain ⟨h1,h2,h3,h4⟩:=VX r (x :: a) b ha hb'.2
        refine ⟨List.pairwise_cons.2 ⟨fun s hs=>?_,h1⟩,by simp at h2 ⊢; omega,fun q1 q2 s hs=>?_,fun i=>?_⟩
        · rcases X3 r (x :: a) b s hs with ⟨z,hz,e⟩ | ⟨z,hz,e⟩
          · rw [←e]; rcases List.mem_cons.1 hz with e' | hz
            · rw [e']; exact hlt'
            · have:=ha'.1 z hz; omega
          · rw [←e]; exact hb'.1 z hz
        · rcases List.mem_cons.1 hs with e | hs
          · subst e; exact q2 _ (by simp)
          · exact h3 q1 (fun s hs=>q2 s (by simp [hs])) s hs
        · rw [DT,DT y b]
          split
          · rename_i e; subst e
            rw [UD (l := x :: a) (fun s hs => by
              rcases List.mem_cons.1 hs with e | hs
              · subst e; omega
              · have:=ha'.1 s hs; omega)]
            rfl
          · exact h4 i
      · rename_i hlt'
        have exy:x.At=y.At:=by omega
        obtain ⟨h1,h2,h3,h4⟩:=VX r a b ha'.2 hb'.2
        refine ⟨List.pairwise_cons.2 ⟨fun s hs=>?_,h1⟩,by simp at h2 ⊢; omega,fun q1 q2 s hs=>?_,fun i=>?_⟩
        · rcases X3 r a b s hs with ⟨z,hz,e⟩ | ⟨z,hz,e⟩
          · rw [←e]; exact ha'.1 z hz
          · rw [←e]; have:=hb'.1 z hz; show x.At<z.At; omega
        · rcases List.mem_cons.1 hs with e | hs
          · subst e; exact VR (q1 _ (by simp)) (q2 _ (by simp))
          · exact h3 (fun s hs=>q1 s (by simp [hs])) (fun s hs=>q2 s (by simp [hs])) s hs
        · rw [DT,DT x a,DT y b,←exy]
          split
          · rfl
          · exact h4 i
termination_by a b=>a.length+b.length
def NT (r:Int) (R:Nat->List B8) (i:Int):Nat->Option AL->Option AL
 | 0,a=>a
 | n+1,a=>iX r (NT r R i n a) (lk (R n) i)
def P7 (r:Int) (L:List (List B8)):List B8:=L.foldl (L5 r) []
def total (L:List (List B8)):Nat:=(L.map List.length).foldr (· + ·) 0
theorem oP (r:Int):∀ (L:List (List B8)),(∀ l∈L,Rise l)->∀ n,n<=L.length ->
  Rise (P7 r (L.take n))∧(P7 r (L.take n)).length<=total (L.take n)∧((∀ l∈L,qQ l)->qQ (P7 r (L.take n)))∧∀ i,lk (P7 r (L.take n)) i=NT r (λw=>L.getD w []) i n none:=by
 intro L U n
 induction n with
 | zero=>intro _; simp[P7,Rise,total,qQ,oN,NT]
 | succ n d=>
  intro hn;obtain⟨Z,h2,O,J⟩:=d (by omega);have e:L.take (n+1)=L.take n++[L[n]]:=List.take_succ_eq_append_getElem (by omega);have K:P7 r (L.take (n+1))=L5 r (P7 r (L.take n)) L[n]:=by unfold P7; rw[e,List.foldl_append]; rfl
  have h:total (L.take (n+1))=total (L.take n)+L[n].length:=by
   rw[e]; unfold total
   induction (L.take n) with
   | nil=>simp
   | cons a l d=>simp only[List.cons_append,List.map_cons,List.foldr_cons,d]; omega
  obtain⟨D,g2,V,W⟩:=VX r (P7 r (L.take n)) L[n] Z (U _ (List.getElem_mem _));rw[K,h];refine⟨D,by omega,λq=>V (O q) (q _ (List.getElem_mem _)),λi=>?_⟩;rw[W,J];simp[NT,List.getD_eq_getElem?_getD,show n<L.length by omega]
theorem X4 {r:Int} {R:Nat->List B8} {i:Int} {a:Option AL}:∀ {n:Nat},(∀ w,w<n->lk (R w) i=none)->NT r R i n a=a
 | 0,_=>rfl
 | n+1,h=>by rw[NT,X4 (λw hw=>h w (by omega)),h n (by omega),SW]
theorem lI {r:Int} {R d:Nat->List B8} {i:Int} {a:Option AL}:∀ {n:Nat},(∀ w,w<n->lk (R w) i=lk (d w) i)->NT r R i n a=NT r d i n a
 | 0,_=>rfl
 | n+1,h=>by rw[NT,NT,lI (λw hw=>h w (by omega)),h n (by omega)]
def upd (R:Nat->List B8) (w:Nat) (l:List B8):Nat->List B8:=λk=>if k=w then l else R k
theorem oQ {r:Int} {R:Nat->List B8} {i:Int} {a:Option AL} {w:Nat} {v:AL} {t:List B8} (d:∀ k,k<w->lk (R k) i=none) (J:lk (R w) i=some v) (D:lk t i=none) :
  ∀ {n:Nat},w<n->NT r (upd R w t) i n (iX r a (some v))=NT r R i n a
 | 0,h=>by omega
 | n+1,h=>by
  rw[NT,NT];by_cases e:n=w
  . subst e;rw[X4 (λk hk=>by rw[upd,if_neg (by omega)]; exact d k hk),X4 d,upd,if_pos rfl,J,D,SW]
  . rw[oQ d J D (by omega),upd,if_neg e]
def DV (R:Nat->List B8):Nat->List AF
 | 0=>[]
 | n+1=>if R n=[] then DV R n else ⟨R n,n⟩ :: DV R n
theorem jO {R:Nat->List B8} {h:AF}:∀ {n:Nat},h∈DV R n↔∃ w,w<n∧R w≠[]∧h=⟨R w,w⟩
 | 0=>by simp[DV]
 | n+1=>by
  rw[DV];split
  . rename_i e; rw[jO (n:=n)];constructor
    . rintro⟨w,D,d⟩; exact⟨w,by omega,d⟩
    . rintro⟨w,D,d,J⟩;refine⟨w,?_,d,J⟩;rcases Nat.lt_or_ge w n with g | g
      . exact g
      . have:w=n:=by omega
        subst this; exact absurd e d
  . rename_i e; rw[List.mem_cons,jO (n:=n)];constructor
    . rintro(D | ⟨w,D,d⟩)
      . exact⟨n,by omega,e,D⟩
      . exact⟨w,by omega,d⟩
    . rintro⟨w,D,d,J⟩;rcases Nat.lt_or_ge w n with g | g
      . exact .inr ⟨w,g,d,J⟩
      . have:w=n:=by omega
        subst this; exact .inl J
theorem yN {R d:Nat->List B8}:∀ {n:Nat},(∀ w,w<n->R w=d w)->DV R n=DV d n
 | 0,_=>rfl
 | n+1,h=>by rw[DV,DV,h n (by omega),yN λw hw=>h w (by omega)]
theorem AbL (R:Nat->List B8):∀ n,(DV R n).length<=n
 | 0=>by simp[DV]
 | n+1=>by rw[DV]; have:=AbL R n; split <;> simp <;> omega
theorem AbM {R:Nat->List B8} {w:Nat} {l:List B8}:∀ {n:Nat},w<n->(DV (upd R w l) n).Perm (if l=[] then DV (upd R w []) n else ⟨l,w⟩ :: DV (upd R w []) n)
 | 0,h=>by omega
 | n+1,h=>by
  by_cases e:n=w
  . subst e;rw[DV,DV];have d:DV (upd R n l) n=DV (upd R n []) n:=yN λk hk=>by rw[upd,upd,if_neg (by omega),if_neg (by omega)]
    simp only[upd,if_true,d];split
    . exact .refl _
    . rw[<-d]
  . have D:=AbM (R:=R) (l:=l) (n:=n) (w:=w) (by omega);rw[DV,DV];have d:upd R w l n=R n:=by rw[upd,if_neg e]
    have K:upd R w [] n=R n:=by rw[upd,if_neg e]
    rw[d,K];split
    . exact D
    . split at D
      . rename_i J; rw[if_pos J]; exact D.cons _
      . rename_i J; rw[if_neg J]; exact(D.cons _).trans (List.Perm.swap _ _ _)
theorem Ah8 (R:Nat->List B8) (w:Nat):upd R w (R w)=R:=by funext k; unfold upd; split <;> simp_all
def bG (R:Nat->List B8):Nat->Nat
 | 0=>0
 | n+1=>bG R n+(R n).length
theorem yO {R:Nat->List B8} {w:Nat} {s:B8} {t:List B8} (h:R w=s :: t):∀ {n:Nat},w<n->bG R n=bG (upd R w t) n+1
 | 0,h'=>by omega
 | n+1,h'=>by
  rw[bG,bG];by_cases e:n=w
  . subst e
    have e1:∀ k,k<=n->bG (upd R n t) k=bG R k:=by
     intro k
     induction k with
     | zero=>intro _; rfl
     | succ k d=>intro hk; rw[bG,bG,d (by omega),upd,if_neg (by omega)]
    rw[e1 n (by omega),upd,if_pos rfl,h]; simp; omega
  . rw[yO h (n:=n) (by omega),upd,if_neg e]; omega
end Go.Proofs.YtkbkaodgfedfmaaGreat
