import Derived.Test.YtkbkaodgfedfmaaGreatPushB
namespace Go.Proofs.YtkbkaodgfedfmaaGreat
open Go Go.Fw
set_option linter.unusedVariables false
set_option linter.unusedSimpArgs false
def la (out:List B8):B8:=out.getD (out.length - 1) default
def mE (r:Int) (out:List B8) (s:B8):List B8:=if 0<out.length∧(la out).At=s.At then out.set (out.length - 1) ⟨(la out).At,KC r (la out).Val s.Val⟩ else out++[s]
theorem Af0 (p:List B8) (y:B8):la (p++[y])=y:=by simp[la]
theorem yP (r:Int) (p:List B8) (y s:B8):mE r (p++[y]) s=if y.At=s.At then p++[⟨y.At,KC r y.Val s.Val⟩] else p++[y]++[s]:=by
 unfold mE;rw[Af0];by_cases e:y.At=s.At
 . rw[if_pos ⟨by simp,e⟩,if_pos e];simp
 . rw[if_neg (λh=>e h.2),if_neg e]
theorem vA (l:List B8):l=[]∨∃ p y,l=p++[y]:=by
 rcases List.eq_nil_or_concat l with h | ⟨p,y,h⟩
 . exact .inl h
 . exact .inr ⟨p,y,by rw[h,List.concat_eq_append]⟩
theorem Af1 {r:Int} {out:List B8} {s:B8} (h:Rise out) (V:qQ out) (K:Q6 s.Val) (O:∀ o∈out,o.At<=s.At) :
   Rise (mE r out s)∧qQ (mE r out s)∧(mE r out s).length<=out.length+1∧(∀ o∈mE r out s,o.At<=s.At)∧(∀ i,lk (mE r out s) i=if i=s.At then iX r (lk out i) (some s.Val) else lk out i):=by
 rcases vA out with e | ⟨p,y,e⟩
 . subst e;have:mE r [] s=[s]:=by simp[mE]
   rw[this];exact⟨by simp[Rise],by simpa[qQ] using K,by simp,by simp,λi=>by rw[DT]; rfl⟩
 . subst e;rw[yP]
   have hp:∀ x∈p,x.At<y.At:=by intro x d;unfold Rise at h; rw[List.pairwise_append] at h;exact h.2.2 x d y (by simp)
   have Z:Rise p:=by unfold Rise at h; rw[List.pairwise_append] at h; exact h.1
   have U:y.At<=s.At:=O y (by simp);split
   . rename_i e;refine⟨List.pairwise_append.2 ⟨Z,by simp,λa W b J=>by simp only[List.mem_singleton] at J; subst J; exact hp a W⟩,?_,by simp,?_,λi=>?_⟩
     . intro x d;rcases List.mem_append.1 d with d | d
       . exact V x (by simp[d])
       . simp only[List.mem_singleton] at d; subst d; exact VR (V y (by simp)) K
     . intro x d;rcases List.mem_append.1 d with d | d
       . have:=hp x d; omega
       . simp only[List.mem_singleton] at d; subst d; exact U
     . rw[VW,VW,DT,DT,<-e];simp only;split
       . rename_i v hv;rw[if_neg];intro e'; subst e';rw[UD (λx d=>by have:=hp x d; omega)] at hv; cases hv
       . split <;> rfl
   . rename_i e
     have D:∀ x∈p++[y],x.At<s.At:=by
       intro x d;rcases List.mem_append.1 d with d | d
       . have:=hp x d; omega
       . simp only[List.mem_singleton] at d; subst d; omega
     refine⟨List.pairwise_append.2 ⟨h,by simp,λa W b J=>by simp only[List.mem_singleton] at J; subst J; exact D a W⟩,?_,by simp,?_,λi=>?_⟩
     . intro x d;rcases List.mem_append.1 d with d | d
       . exact V x d
       . simp only[List.mem_singleton] at d; subst d; exact K
     . intro x d;rcases List.mem_append.1 d with d | d
       . have:=D x d; omega
       . simp only[List.mem_singleton] at d; subst d; omega
     . rw[VW _ [s],DT];by_cases ei:i=s.At
       . subst ei;rw[if_pos rfl,if_pos rfl,UD (λx d=>by have:=D x d; omega)]; rfl
       . rw[if_neg ei,if_neg ei,oN];split <;> simp_all
theorem next_ok {o:A7} {s:B8} {t:List B8} {Q:A7->Prop} (hl:o.heads.length<=1000000000) (hf:full o.heads) (hh:jM o.heads o.heads.length) (h0:o.heads≠[]) (hol:o.out.length<=1000000000)
   (ho:qQ o.out) (hs:Q6 s.Val) (hx:(gH o.heads 0).l=s :: t)
   (hQ:∀ H D,(gH o.heads 0 :: D).Perm o.heads->H.Perm (if t=[] then D else ⟨t,(gH o.heads 0).which⟩ :: D)->jM H H.length->Q ⟨H,o.r,mE o.r o.out s⟩):FD o Q:=by
 unfold FD;have W:0<o.heads.length:=List.length_pos_iff.2 h0;refine AK (x:=gH o.heads 0) (by omega) (NS W) (AlU hl hf hh h0 λx D hp hH=>?_);rw[hx];refine AK (x:=s) (by omega) rfl ⟨by omega,by simp; omega,by omega,?_⟩;have et:((s :: t).take (((s :: t).length:Nat):Int).toNat).drop (Int.toNat 1)=t:=by simp
 rw[et];have hf':full D:=λy hy=>hf y (hp.mem_iff.1 (List.mem_cons_of_mem _ hy));have hlH:D.length<=o.heads.length:=by have:=hp.length_eq; simp at this; omega
 refine Ah6 (o:=⟨D,o.r,o.out⟩) (by simp only; omega) hf' hH λH hpH hHH=>?_;have d:=hQ H D hp hpH hHH;simp only
 have key:∀ b,(b=true↔(0<o.out.length∧(la o.out).At=s.At))->(λO=>A8 O (AZ o.out (A6 ((o.out.length:Int) - 1)) λJ=>S9 o.r J.Val s.Val λV=>AZ o.out (A6 ((o.out.length:Int) - 1)) λU=>Q ({ heads:=H,r:=o.r,out:=(o.out.set ((A6 ((o.out.length:Int) - 1)).toNat) ({ At:=U.At,Val:=V }:B8)) }:A7)) (DA 24 o.out ([s]) λ_=>Q ({ heads:=H,r:=o.r,out:=(o.out++([s])) }:A7))) b:=by
   intro b hb;refine⟨λh=>?_,λh=>?_⟩
   . have hc:=hb.1 h;have e:A6 ((o.out.length:Int) - 1)=((o.out.length - 1:Nat):Int):=by rw[AB (by omega) (by omega)]; omega
     have Z:o.out[((o.out.length - 1:Nat):Int).toNat]? = some (la o.out):=by simp only[Int.toNat_natCast,la,List.getD_eq_getElem?_getD,show o.out.length - 1<o.out.length by omega,List.getElem?_eq_getElem,Option.getD_some]
     rw[e];refine AK (by omega) Z (YN (ho _ (List.mem_of_getElem? Z)) hs (AK (by omega) Z ?_));rw[mE,if_pos hc] at d;simpa only[Int.toNat_natCast] using d
   . have hc:¬(0<o.out.length∧(la o.out).At=s.At):=λh'=>by rw[hb.2 h'] at h; cases h
     refine AH (by simp; omega) ?_;rw[mE,if_neg hc] at d;exact d
 refine BP (λb:Bool=>b=true↔(0<o.out.length∧(la o.out).At=s.At)) (λb hb=>key b hb) λk' K=>?_;refine A1 (λh=>?_) (λh=>?_)
 . have e:A6 ((o.out.length:Int) - 1)=((o.out.length - 1:Nat):Int):=by rw[AB (by omega) (by omega)]; omega
   have Z:o.out[((o.out.length - 1:Nat):Int).toNat]? = some (la o.out):=by simp only[Int.toNat_natCast,la,List.getD_eq_getElem?_getD,show o.out.length - 1<o.out.length by omega,List.getElem?_eq_getElem,Option.getD_some]
   rw[e];exact AK (by omega) Z (K _ (by simp; omega))
 . exact K _ (by simp; omega)
theorem Ah9 {l:List B8} {Q:Bool->Prop} (hl:l.length<=1000000000) (d:Q (decide (Rise l))):WR l Q:=by
 unfold WR;refine CM l.length (by omega) (λn=>∀ (i:Nat) (hi:i+1<l.length),i+1<n->l[i].At<l[i+1].At) (λi hi h=>by omega) (λi next hi J O=>?_) (λnext J=>?_)
 . refine A1 (λ_=>A1 (λh=>?_) (λh=>?_)) (λh=>by omega)
   . have e:A6 ((i:Int) - 1)=((i - 1:Nat):Int):=by rw[AB (by omega) (by omega)]; omega
     rw[e];refine B3 (by omega) (B3 hi (A1 (λU=>?_) (λU=>O λj K D=>?_)))
     . have:¬Rise l:=λV=>by have:=V.adj hi (i:=i - 1) (by omega); omega
       rw[decide_eq_false this] at d; exact d
     . by_cases e':j+1=i
       . subst e'; simp only[Nat.add_sub_cancel] at U; omega
       . exact J j K (by omega)
   . exact O λj K D=>by omega
 . refine A1 (λh=>by omega) (λ_=>?_);rw[decide_eq_true (yM λi hi=>J i hi (by omega))] at d; exact d
theorem AhA {L:List (List B8)} {Q:Bool->Prop} (hl:L.length<=1000000000) (U:∀ l∈L,l.length<=1000000000) (d:Q (decide (∃ l∈L,¬Rise l))):BZ L Q:=by
 unfold BZ DR;refine CM L.length (by omega) (λn=>∀ i (hi:i<L.length),i<n->Rise L[i]) (λi hi h=>by omega) (λi next hi D O=>?_) (λnext D=>?_)
 . refine A1 (λ_=>B3 hi ?_) (λh=>by omega);unfold OR;refine Ah9 (U _ (List.getElem_mem hi)) (BK (λh=>?_) (λh=>?_))
   . have K:=of_decide_eq_false h;rw[decide_eq_true ⟨_,List.getElem_mem hi,K⟩] at d;simpa using d
   . refine O λj W V=>?_;by_cases e:j=i
     . subst e; exact of_decide_eq_true h
     . exact D j W (by omega)
 . refine A1 (λh=>by omega) (λ_=>?_)
   have:¬ ∃ l∈L,¬Rise l:=by rintro⟨l,J,O⟩;obtain⟨i,hi,rfl⟩:=List.mem_iff_getElem.1 J;exact O (D i hi hi)
   rw[decide_eq_false this] at d;simpa using d
def tot (H:List AF):Nat:=(H.map λh=>h.l.length).sum
theorem yQ {H d:List AF} (h:H.Perm d):tot H=tot d:=(h.map _).sum_nat
theorem vB (R:Nat->List B8):∀ n,tot (DV R n)=bG R n
 | 0=>rfl
 | n+1=>by
  rw[DV,bG];split
  . rename_i e; rw[vB R n,e]; simp
  . have:=vB R n; unfold tot at *; simp only[List.map_cons,List.sum_cons,this]; omega
theorem AdF (R:Nat->List B8) (n:Nat):full (DV R n):=by intro h d;obtain⟨w,_,D,rfl⟩:=jO.1 d;exact D
theorem AhB:jM [] 0:=λj _ h=>by omega
theorem AhC {r:Int} {n:Nat} {R0:Nat->List B8} {H0:List AF} {Q:List B8×Int->Prop} {out:List B8} (hr:1<=r∧r<=5) (hn:n<=1000000000) (hN:bG R0 n<=1000000000)
   (hp0:H0.Perm (DV R0 n)) (hH0:jM H0 H0.length) (hR0:∀ w,w<n->Rise (R0 w)∧qQ (R0 w)) (ho1:Rise out) (ho3:∀ i,lk out i=NT r R0 i n none) (hQ:Q (out,0)) :
   AW (λ(s:(List AF)×Int×(List B8)) (O:((List AF)×Int×(List B8))->Prop)=>match s with | (s412,s416,s417)=>NF s412 λr427=>A8 (decide (0<r427)) (FD ({ heads:=s412,r:=s416,out:=s417 }:A7) λK=>O (K.heads,K.r,K.out)) (Q (s417,0))) (H0,r,[]):=by
 refine DC (λs:List AF×Int×List B8=>∃ R,s.1.Perm (DV R n)∧jM s.1 s.1.length∧s.2.1=r∧Rise s.2.2∧qQ s.2.2∧s.2.2.length+bG R n<=1000000000∧(∀ w,w<n->Rise (R w)∧qQ (R w)∧∀ x∈R w,∀ o∈s.2.2,o.At<=x.At)∧∀ i,NT r R i n (lk s.2.2 i)=NT r R0 i n none) (λs=>tot s.1)
   ⟨R0,hp0,hH0,rfl,by simp[Rise],by simp[qQ],by simpa using hN,λw J=>⟨(hR0 w J).1,(hR0 w J).2,by simp⟩,λi=>rfl⟩ ?_
 rintro⟨H,r',o⟩ next ⟨R,hp,hH,e,h1,h2,h3,h4,h5⟩ hnx;simp only at hp hH e h1 h2 h3 h4 h5 ⊢;subst e;unfold NF;refine A1 (λhpos=>?_) (λhz=>?_)
 . have hne:H≠[]:=by intro e; subst e; simp at hpos
   have hlen:0<H.length:=List.length_pos_iff.2 hne;have hHl:H.length<=n:=hp.length_eq▸AbL R n;obtain⟨w,J,hRw,D⟩:=jO.1 (hp.mem_iff.1 (AbK hlen));obtain⟨s,t,d⟩:=List.exists_cons_of_ne_nil hRw;have hf:full H:=VV (AdF R n) hp;obtain⟨q1,q2,q3⟩:=h4 w J;have Z:Q6 s.Val:=q2 s (by rw[d]; simp)
   -- the least one
   have W:∀ k,k<n->∀ x∈R k,s.At<=x.At∧(k<w->s.At<x.At):=by
     intro k hk x U;have hne':R k≠[]:=by intro e; rw[e] at U; simp at U
     have hmem:(⟨R k,k⟩:AF)∈H:=hp.mem_iff.2 (jO.2 ⟨k,hk,hne',rfl⟩);obtain⟨j,hj,ej⟩:=List.mem_iff_getElem.1 hmem;have h:=AeZ hH j hj;obtain⟨y,z,eyz⟩:=List.exists_cons_of_ne_nil hne'
     have k1:HO H j=(y.At,(k:Int)):=by
       have:gH H j=⟨R k,k⟩:=by have:=NS hj; rw[List.getElem?_eq_getElem hj,ej] at this; exact(Option.some.inj this).symm
       simp[HO,qW,this,eyz]
     have k0:HO H 0=(s.At,(w:Int)):=by simp[HO,qW,D,d]
     rw[k1,k0] at h
     have hyx:y.At<=x.At:=by
       have V:=(h4 k hk).1;rw[eyz] at U V;unfold Rise at V; rw[List.pairwise_cons] at V;rcases List.mem_cons.1 U with e | hxz
       . subst e; omega
       . have:=V.1 x hxz; omega
     unfold MB at h;simp only at h;refine⟨by omega,λhkw=>by omega⟩
   have hRt:Rise t∧∀ x∈t,s.At<x.At:=by rw[d] at q1; unfold Rise at q1; rw[List.pairwise_cons] at q1; exact⟨q1.2,q1.1⟩
   have hole:∀ x∈o,x.At<=s.At:=λx hxo=>q3 s (by rw[d]; simp) x hxo;refine next_ok (o:=⟨H,r',o⟩) (s:=s) (t:=t) (by simp only; omega) hf hH hne (by simp only; omega) h2 Z (by simp only; rw[D]; exact d) λH2 H' hp1 hp2 hH2=>?_;simp only at hp1 hp2;have hwh:(gH H 0).which=(w:Int):=by rw[D]
   rw[hwh,D] at *
   have hH':H'.Perm (DV (upd R w []) n):=by
     have h6:(DV R n).Perm (⟨R w,w⟩ :: DV (upd R w []) n):=by
       have:=AbM (R:=R) (w:=w) (l:=R w) J
       rwa [Ah8,if_neg hRw] at this
     exact List.Perm.cons_inv (hp1.trans (hp.trans h6))
   have hH2':H2.Perm (DV (upd R w t) n):=by
     refine hp2.trans (List.Perm.trans ?_ (AbM (R:=R) (l:=t) J).symm);split
     . exact hH'
     . exact hH'.cons _
   obtain⟨p1,p2,p3,p4,p5⟩:=Af1 (r:=r') h1 h2 Z hole;have hsum:=yO d J;refine hnx _ ⟨upd R w t,hH2',hH2,rfl,p1,p2,by simp only; omega,λk hk=>?_,λi=>?_⟩ ?_
   . unfold upd;split
     . exact⟨hRt.1,λx D=>q2 x (by rw[d]; simp[D]),λx D y hy=>by have:=hRt.2 x D; have:=p4 y hy; omega⟩
     . exact⟨(h4 k hk).1,(h4 k hk).2.1,λx D y hy=>by have:=(W k hk x D).1; have:=p4 y hy; omega⟩
   . simp only;rw[p5,<-h5];split
     . rename_i ei; subst ei;refine oQ (λk hk=>UD λx D=>?_) (by rw[d,DT,if_pos rfl]) (UD λx D=>?_) J
       . have:=(W k (by omega) x D).2 hk; omega
       . have:=hRt.2 x D; omega
     . rename_i ei;refine lI λk hk=>?_;unfold upd;split
       . rename_i e; subst e; rw[d,DT,if_neg ei]
       . rfl
   . show tot H2<tot H;rw[yQ hH2',yQ hp,vB,vB]; omega
 . have hH0':H=[]:=by
     cases H with
     | nil=>rfl
     | cons a b=>simp at hz
   subst hH0'
   have hno:∀ w,w<n->R w=[]:=by
     intro w J;by_cases e:R w=[]
     . exact e
     . have:=hp.mem_iff.2 (jO.2 ⟨w,J,e,rfl⟩); simp at this
   have:o=out:=yL h1 ho1 λi=>by rw[ho3,<-h5,X4];intro w J; rw[hno w J]; rfl
   subst this;exact hQ
theorem AbN (L:List (List B8)):∀ n,n<=L.length->bG (λw=>L.getD w []) n=total (L.take n):=by
 intro n
 induction n with
 | zero=>intro _; simp[bG,total]
 | succ n d=>
  intro hn;rw[bG,d (by omega),List.take_succ_eq_append_getElem (by omega)]
  have:∀ (a:List (List B8)) (b:List B8),total (a++[b])=total a+b.length:=by
   intro a b; unfold total
   induction a with
   | nil=>simp
   | cons x a d=>simp only[List.cons_append,List.map_cons,List.foldr_cons,d]; omega
  rw[this];simp[List.getD_eq_getElem?_getD,show n<L.length by omega]
def oR (r:Int) (L:List (List B8)):List B8×Int:=if ¬(1<=r∧r<=5) then ([],8) else if ∃ l∈L,¬Rise l then ([],6) else (P7 r L,0)
theorem cC {r:Int} {L:List (List B8)} {Q:List B8×Int->Prop} (hL:L.length<=1000000) (Z:∀ l∈L,l.length<=1000000000) (hT:total L<=1000000000) (hok:∀ l∈L,qQ l) (D:Q (oR r L)):SJ r L Q:=by
 unfold SJ;unfold oR at D;refine P4 (BK (λh=>?_) (λh=>?_))
 . rw[if_pos (of_decide_eq_false h)] at D; exact D
 . have hr:=of_decide_eq_true h;rw[if_neg (by omega)] at D;refine AhA (by omega) Z ⟨λh=>?_,λh=>?_⟩
   . rw[if_pos (of_decide_eq_true h)] at D; exact D
   . have d:∀ l∈L,Rise l:=by
       have:=of_decide_eq_false h;intro l hl;by_cases e:Rise l
       . exact e
       . exact absurd ⟨l,hl,e⟩ this
     rw[if_neg (of_decide_eq_false h)] at D;refine AD (s0:=(([]:List AF),r,([]:List B8))) (λ(s:List AF×Int×List B8) i=>(s.1,s.2.1,s.2.2,i)) 0 L.length (by omega) (λi s=>s.1.Perm (DV (λw=>L.getD w []) i)∧jM s.1 s.1.length∧s.2.1=r∧s.2.2=[]) (by omega) ⟨.refl _,AhB,rfl,rfl⟩ (λi s next _ hi hm hn=>?_) (λs next hm=>?_)
     . obtain⟨H,O,o⟩:=s;obtain⟨J,U,W,V⟩:=hm;simp only at J U W V ⊢;subst W; subst V;refine A1 (λ_=>?_) (λh=>by omega);have hlH:H.length<=i:=J.length_eq▸AbL _ i;refine B3 hi (Ah6 (o:=⟨H,O,[]⟩) (by simp only; omega) (VV (AdF _ i) J) U λH2 hp hH2=>?_);refine hn (H2,O,[]) ⟨hp.trans ?_,hH2,rfl,rfl⟩;have e:L.getD i []=L[i]:=by simp[List.getD_eq_getElem?_getD,hi]
       simp only[DV,e];split
       . exact J
       . exact J.cons _
     . obtain⟨H,O,o⟩:=s;obtain⟨J,U,W,V⟩:=hm;simp only at J U W V ⊢;subst W; subst V;refine A1 (λh=>by omega) (λ_=>?_);have K:=oP O L d L.length (by omega);rw[List.take_length] at K;refine AhC (out:=P7 O L) (R0:=λw=>L.getD w []) hr (n:=L.length) (by omega) (by rw[AbN L _ (by omega),List.take_length]; exact hT) J U (λw hw=>?_) K.1 K.2.2.2 D;have e:L.getD w []=L[w]:=by simp[List.getD_eq_getElem?_getD,hw]
       simp only[e];exact⟨d _ (List.getElem_mem _),hok _ (List.getElem_mem _)⟩
def UZ (z:Int):AL:=⟨A6 (z / 18446744073709551616),z % 18446744073709551616⟩
theorem vC (z:Int):Q6 (UZ z):=by unfold Q6 UZ; simp only[KA]; omega
theorem X5 (x y:Int):KC 5 (UZ x) (UZ y)=UZ (x+y):=by
 have e:KC 5 (UZ x) (UZ y)=⟨A6 ((UZ x).Hi+(UZ y).Hi+(if 18446744073709551616<=(UZ x).Lo+(UZ y).Lo then 1 else 0)),((UZ x).Lo+(UZ y).Lo) % 18446744073709551616⟩:=rfl;rw[e];unfold UZ;apply Q7
 . simp only[KA]; split <;> omega
 . simp only; omega
theorem gB {v:Int} (h:EZ v):nT v=UZ v:=by
 unfold nT UZ EZ at *;apply Q7
 . simp only[KA]; split <;> omega
 . rfl
theorem AdG {hi lo:Int} (h0:0<=lo) (h1:lo<18446744073709551616):(⟨A6 hi,lo⟩:AL)=UZ (hi*18446744073709551616+lo):=by
 unfold UZ;apply Q7
 . simp only[KA]; omega
 . simp only; omega
theorem AhD {x:Int} (k:Nat) (hk:k<=64):shr .u64 x k=x / 2 ^ k:=by
 unfold shr;rw[Int.fdiv_eq_ediv_of_nonneg _ (Int.le_of_lt (Int.pow_pos (by omega)))];have:min (Int.toNat (k:Int)) (IntKind.bits .u64)=k:=by simp[IntKind.bits]; omega
 rw[this]
theorem AhE {x:Int} (k:Nat) (hk:k<=64):shl .u64 x k=(x*2 ^ k) % 18446744073709551616:=by
 unfold shl;rw[X0];have:min (Int.toNat (k:Int)) (IntKind.bits .u64)=k:=by simp[IntKind.bits]; omega
 rw[this]
theorem aT (x:Int) (h:0<=x) (d:x<18446744073709551616):(BitVec.ofInt 64 x).toNat=x.toNat:=by rw[BitVec.toNat_ofInt];congr 1;exact Int.emod_eq_of_lt h (by simpa using d)
theorem AdH {x y:Int} (D:0<=x) (h:x<18446744073709551616) (J:0<=y) (d:y<18446744073709551616):bor .u64 x y=((x.toNat ||| y.toNat:Nat):Int):=by
 unfold bor
 have e:(BitVec.ofInt (IntKind.bits .u64) x ||| BitVec.ofInt (IntKind.bits .u64) y).toNat=x.toNat ||| y.toNat:=by show(BitVec.ofInt 64 x ||| BitVec.ofInt 64 y).toNat=_;rw[BitVec.toNat_or,aT x D h,aT y J d]
 rw[e,X0];have:x.toNat ||| y.toNat<2 ^ 64:=Nat.or_lt_two_pow (by omega) (by omega);omega
theorem vD {x y:Int} (D:0<=x) (h:x<18446744073709551616) (J:0<=y) (d:y<18446744073709551616):XQ .u64 x y=((x.toNat &&& y.toNat:Nat):Int):=by
 unfold XQ
 have e:(BitVec.ofInt (IntKind.bits .u64) x &&& BitVec.ofInt (IntKind.bits .u64) y).toNat=x.toNat &&& y.toNat:=by show(BitVec.ofInt 64 x &&& BitVec.ofInt 64 y).toNat=_;rw[BitVec.toNat_and,aT x D h,aT y J d]
 rw[e,X0];have:x.toNat &&& y.toNat<2 ^ 64:=Nat.and_lt_two_pow _ (by omega);omega
theorem AbO {h l:Int} (D:0<=h) (K:h<4294967296) (d:0<=l) (J:l<4294967296):bor .u64 (h*4294967296) l=h*4294967296+l:=by
 rw[AdH (by omega) (by omega) d (by omega)];have e:(h*4294967296).toNat=h.toNat <<< 32:=by rw[Nat.shiftLeft_eq]; omega
 rw[e,<-Nat.shiftLeft_add_eq_or_of_lt (by omega),Nat.shiftLeft_eq];omega
theorem RZ {x:Int} {Q:Int×Int->Prop} (h0:0<=x) (h1:x<18446744073709551616) (hQ:Q (x % 4294967296,x / 4294967296)):GU x Q:=by
 unfold GU;have h:shl .u64 x 32=(x*4294967296) % 18446744073709551616:=AhE 32 (by omega);have d:∀ y,shr .u64 y 32=y / 4294967296:=λy=>AhD 32 (by omega);rw[h,d,d]
 rwa [show x*4294967296 % 18446744073709551616 / 4294967296=x % 4294967296 by omega]
theorem AbP {a b:Int} {Q:AL->Prop} (ha0:0<=a) (Z:a<18446744073709551616) (hb0:0<=b) (hb1:b<18446744073709551616) (hQ:Q (UZ (a*b))):RJ a b Q:=by
 unfold RJ
 have O:∀ x y:Int,0<=x->x<4294967296->0<=y->y<4294967296->0<=x*y∧x*y<=18446744065119617025:=by intro x y h1 h2 h3 h4;refine⟨Int.mul_nonneg h1 h3,?_⟩;have:=Int.mul_le_mul (show x<=4294967295 by omega) (show y<=4294967295 by omega) h3 (by omega);omega
 refine RZ ha0 Z (RZ hb0 hb1 ?_);simp only;obtain⟨K,hx0⟩:∃ K,K=a % 4294967296:=⟨_,rfl⟩;obtain⟨h,hx1⟩:∃ h,h=a / 4294967296:=⟨_,rfl⟩;obtain⟨D,hy0⟩:∃ D,D=b % 4294967296:=⟨_,rfl⟩;obtain⟨d,hy1⟩:∃ d,d=b / 4294967296:=⟨_,rfl⟩;rw[<-hx0,<-hx1,<-hy0,<-hy1]
 have hab:a*b=h*d*18446744073709551616+(h*D+K*d)*4294967296+K*D:=by
  have e1:a=h*4294967296+K:=by omega
  have e2:b=d*4294967296+D:=by omega
  rw[e1,e2,Int.add_mul,Int.mul_add,Int.mul_add];have q1:h*4294967296*(d*4294967296)=h*d*18446744073709551616:=by rw[Int.mul_assoc,Int.mul_left_comm 4294967296 d,<-Int.mul_assoc h]; rfl
  have q2:h*4294967296*D=h*D*4294967296:=Int.mul_right_comm _ _ _;have q3:K*(d*4294967296)=K*d*4294967296:=(Int.mul_assoc _ _ _).symm;rw[q1,q2,q3]; omega
 obtain⟨b00,c00⟩:=O K D (by omega) (by omega) (by omega) (by omega);obtain⟨b01,c01⟩:=O K d (by omega) (by omega) (by omega) (by omega);obtain⟨b10,c10⟩:=O h D (by omega) (by omega) (by omega) (by omega);obtain⟨b11,c11⟩:=O h d (by omega) (by omega) (by omega) (by omega);generalize K*D=J at *;generalize K*d=U at *;generalize h*D=p10 at *;generalize h*d=W at *;simp only[X0];refine RZ (by omega) (by omega) ?_;simp only;refine RZ (by omega) (by omega) ?_;simp only;refine RZ (by omega) (by omega) (RZ (by omega) (by omega) ?_);simp only;have e3:∀ y,shl .u64 y 32=(y*4294967296) % 18446744073709551616:=λy=>AhE 32 (by omega);rw[e3];have e4:∀ y:Int,(y % 4294967296*4294967296) % 18446744073709551616=y % 4294967296*4294967296:=λy=>by omega
 rw[e4,AbO (by omega) (by omega) (by omega) (by omega),AdG (by omega) (by omega)];rw[hab] at hQ
 have V:UZ (((((W % 18446744073709551616+(p10 % 18446744073709551616+J % 18446744073709551616 / 4294967296) % 18446744073709551616 / 4294967296) % 18446744073709551616+(U % 18446744073709551616+(p10 % 18446744073709551616+J % 18446744073709551616 / 4294967296) % 18446744073709551616 % 4294967296) % 18446744073709551616 / 4294967296) % 18446744073709551616)*18446744073709551616+((U % 18446744073709551616+(p10 % 18446744073709551616+J % 18446744073709551616 / 4294967296) % 18446744073709551616 % 4294967296) % 18446744073709551616 % 4294967296*4294967296+J % 18446744073709551616 % 4294967296)))=UZ (W*18446744073709551616+(p10+U)*4294967296+J):=by
  unfold UZ;apply Q7
  . simp only[KA]; omega
  . simp only; omega
 rw[V]; exact hQ
theorem gC {a:AL} (h:Q6 a):a=UZ (a.Hi*18446744073709551616+a.Lo):=by
 unfold Q6 at h;rw[<-AdG (by omega) (by omega)];apply Q7
 . simp only[KA]; omega
 . rfl
theorem AhF {x:Int} {Q:AL->Prop} (d:Q (UZ (-x))):fN ⟨0,0⟩ (UZ x) Q:=by
 unfold fN S8
 have key:∀ c:Int,(c=if 0<(UZ x).Lo then 1 else 0)->(⟨A6 ((((0 % 18446744073709551616) - ((UZ x).Hi % 18446744073709551616)) % 18446744073709551616 - c) % 18446744073709551616),(0 - (UZ x).Lo) % 18446744073709551616⟩:AL)=UZ (-x):=by
   intro c D;unfold UZ at *;subst D;apply Q7
   . simp only[KA]; split <;> omega
   . simp only; omega
 simp only[X0];refine A1 (λh=>?_) (λh=>?_)
 . rw[key 1 (by rw[if_pos h])]; exact d
 . rw[key 0 (by rw[if_neg h])]; exact d
theorem yR {a b:Int} {Q:AL->Prop} (U:EZ a) (O:EZ b) (J:Q (UZ (a*b))):fO a b Q:=by
 unfold fO;unfold EZ at U O
 have d:∀ {x:Int} {K:Int->Prop},-9223372036854775808<=x∧x<=9223372036854775807->K (if x<0 then -x else x)->VP x K:=by
   intro x K hx D;unfold VP;simp only[X0];refine A1 (λh=>?_) (λh=>?_)
   . rw[if_pos h] at D; rwa [show(0 - x % 18446744073709551616) % 18446744073709551616 = -x by omega]
   . rw[if_neg h] at D; rwa [show x % 18446744073709551616=x by omega]
 refine d U (d O ?_);have W : -a*b = -(a*b):=Int.neg_mul _ _;have V:a * -b = -(a*b):=Int.mul_neg _ _;have Z : -a * -b=a*b:=Int.neg_mul_neg _ _;refine AbP (by split <;> omega) (by split <;> omega) (by split <;> omega) (by split <;> omega) ?_;by_cases h1:a<0 <;> by_cases h2:b<0
 . rw[if_pos h1,if_pos h2,Z];exact AC (by simp[h1,h2]) J
 . rw[if_pos h1,if_neg h2,W];exact AU (by simp[h1,h2]) (AhF (by rwa [Int.neg_neg]))
 . rw[if_neg h1,if_pos h2,V];exact AU (by simp[h1,h2]) (AhF (by rwa [Int.neg_neg]))
 . rw[if_neg h1,if_neg h2];exact AC (by simp[h1,h2]) J
def Y3 (r a x:Int):AL:=
 if r=2 then (if a≠0∧x≠0 then ⟨0,1⟩ else ⟨0,0⟩)
 else if r=5 then UZ (a*x)
 else if r=1∨r=3∨r=4 then
  (if 4611686018427387904<=a∨4611686018427387904<=x then UZ 4611686018427387904
   else if r=3 then UZ a else if r=4 then UZ x else if lE (UZ 4611686018427387904) (UZ (a+x)) then UZ 4611686018427387904 else UZ (a+x))
 else ⟨0,0⟩
theorem SX (r a x:Int):Q6 (Y3 r a x):=by
 have h:Q6 ⟨0,0⟩:=by unfold Q6; simp
 have d:Q6 ⟨0,1⟩:=by unfold Q6; simp
 unfold Y3
 repeat' split
 all_goals first | exact vC _ | exact h | exact d
theorem AjY {x y:Int} (d : -170141183460469231731687303715884105728<=x∧x<170141183460469231731687303715884105728) (D : -170141183460469231731687303715884105728<=y∧y<170141183460469231731687303715884105728):lE (UZ x) (UZ y)↔x<=y:=by
 have h:∀ z:Int,-170141183460469231731687303715884105728<=z∧z<170141183460469231731687303715884105728->A6 (z / 18446744073709551616)=z / 18446744073709551616:=by intro z hz; rw[KA]; omega
 unfold lE UZ;simp only[h x d,h y D];omega
theorem lJ {r a x:Int} {Q:AL->Prop} (O:EZ a) (U:EZ x) (d:Q (Y3 r a x)):YL r a x Q:=by
 unfold YL;unfold Y3 at d;have V:EZ 4611686018427387904:=by unfold EZ; omega
 refine AV (λh=>?_) (λh=>AV (λW=>?_) (λW=>?_))
 . rw[if_pos h] at d;refine BI (λD=>fS ?_) (λD=>fS ?_)
   . simpa[D] using d
   . simpa[D] using d
 . rw[if_neg h,if_pos W] at d;exact yR O U d
 . rw[if_neg h,if_neg W] at d;have J:(if x > a then x else a)>=4611686018427387904↔4611686018427387904<=a∨4611686018427387904<=x:=by split <;> omega
   refine BP (λ_=>¬((1<=r∧r<=5)∧(4611686018427387904<=a∨4611686018427387904<=x))) ?_ ?_
   . rintro _ hno;refine BP (λp:Int×Int=>(⟨p.1,p.2⟩:AL)=UZ (if r=1 then a else 0)∧(r=1∨r=4)) ?_ ?_
     . rintro⟨p1,p2⟩ ⟨hp,K⟩;simp only at hp ⊢;refine KB V (KB U ?_);rw[hp,gB V,gB U];refine lF (vC _) (vC _) (sI ?_);rw[X5];rw[if_pos (by omega),if_neg (by omega),if_neg (by omega)] at d;rcases K with K | K
       . rw[if_pos K]; rwa [if_neg (by omega)] at d
       . rw[if_neg (show ¬r=1 by omega),show(0:Int)+x=x by omega];rw[if_pos K] at d;unfold EZ at U
         rwa [if_neg (by rw[AjY (by omega) (by omega)]; omega)]
     . intro k hk;refine AV (λD=>KB O (hk _ ⟨?_,.inl D⟩)) (λD=>AV (λh4=>hk _ ⟨?_,.inr h4⟩) (λh4=>AV (λh3=>KB O ?_) (λh3=>?_)))
       . rw[if_pos D]; exact gB O
       . rw[if_neg D]; decide
       . rw[if_pos (by omega),if_neg (by omega),if_pos h3] at d;rw[gB O]; exact d
       . rw[if_neg (by omega)] at d; exact d
   . intro k hk;refine P4 ⟨λD=>A1 (λZ=>KB V ?_) (λZ=>hk _ ?_),λD=>hk _ ?_⟩
     . have D:=of_decide_eq_true D;rw[if_pos (by omega),if_pos (J.1 Z)] at d;rw[gB V]; exact d
     . exact λh'=>Z (J.2 h'.2)
     . exact λh'=>of_decide_eq_false D h'.1
end Go.Proofs.YtkbkaodgfedfmaaGreat
