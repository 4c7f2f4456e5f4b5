import Derived.Test.YtkbkaodgfedfmaaGreatPushD
namespace Go.Proofs.YtkbkaodgfedfmaaGreat
open Go Go.Fw
set_option linter.unusedVariables false
set_option linter.unusedSimpArgs false
def cD (r:Int) (B:Int->Option Int) (d:Option AL) (y:AM):Option AL:=match B y.At with | some x=>iX r d (some (Y3 r y.Val x)) | none=>d
theorem Af6 {r:Int} {B:Int->Option Int} {d:Option AL} (h:∀ w,d=some w->Q6 w) (y:AM):∀ w,cD r B d y=some w->Q6 w:=by
 intro w D;unfold cD at D;split at D
 . cases d with
   | none=>cases D; exact SX _ _ _
   | some b=>cases D; exact VR (h b rfl) (SX _ _ _)
 . exact h w D
theorem sU (r:Int) (B:Int->Option Int):∀ (l:List AM) (d:Option AL),(∀ w,d=some w->Q6 w)->∀ w,l.foldl (cD r B) d=some w->Q6 w
 | [],d,h=>h
 | y :: l,d,h=>sU r B l _ (Af6 h y)
theorem AhN {r:Int} {B:Int->Option Int} {n:Nat} {l:List AM} (h:IncI l) (hi:∀ x∈l,0<=x.At∧x.At<n):l.foldl (cD r B) none=NV r n (FW l) B:=by have:=YZ (step:=λd k a=>match B k with | some x=>iX r d (some (Y3 r a x)) | none=>d) (a:=none) h hi;refine this.trans (P8 λd k _=>?_);unfold gI;cases FW l (k:Int) <;> cases B (k:Int) <;> rfl
def QA (ts:List A3) (i:Int):List AM:=(RL ts i.toNat).map qV
theorem sV (ts:List A3) {i:Int} (h:0<=i):QA ts i=KS ts i:=by unfold QA KS RL;rw[Int.toNat_of_nonneg h]
def gK (r rows cols:Int) (ts:List A3) (v:Vec) (f:List Int) (o:Bool):List B8×Int:=
 if ¬(1<=r∧r<=5) then ([],8) else if v.N≠cols then ([],4) else (KD r rows.toNat cols.toNat f o (λi=>FW (QA ts i)) (FW v.Items),0)
theorem lP {r:Int} {n:Nat} {f:List Int} {o:Bool} {A d:Int->Int->Option Int} {B:Int->Option Int}:∀ {m:Nat},(∀ (i k:Nat),i<m->k<n->A i k=d i k)->KD r m n f o A B=KD r m n f o d B
 | 0,_=>rfl
 | m+1,h=>by
  rw[X8,X8,lP (m:=m) λi k hi hk=>h i k (by omega) hk]
  have:NV r n (A m) B=NV r n (d m) B:=by unfold NV;refine P8 λD k hk=>?_;unfold gI;rw[h m k (by omega) (List.mem_range.1 hk)]
  rw[this]
theorem Af7 {r rows cols:Int} {T:List A3} (h:Canon cols rows T) (v:Vec) (f:List Int) (o:Bool):gK r rows cols (MO rows T) v f o=AdK r rows cols T v f o:=by
 unfold gK AdK
 have e:KD r rows.toNat cols.toNat f o (λi=>FW (QA (MO rows T) i)) (FW v.Items)=KD r rows.toNat cols.toNat f o (λi k=>FW (KS T k) i) (FW v.Items):=by
  refine lP λi k _ _=>?_;rw[sV _ (by omega)];have D:=YR rows h.srt;have d:∀ a:Int,(⟨(i:Int),(k:Int),a⟩:A3)∈MO rows T↔(⟨(k:Int),(i:Int),a⟩:A3)∈T:=λa=>VU h _
  cases h1:FW (KS (MO rows T) i) k with
  | some a=>
   have:=(d a).1 (SZ.1 (X6 h1));exact(UH (gJ h.srt k) ((SZ (x:=⟨i,a⟩)).2 this)).symm
  | none=>
   cases h2:FW (KS T k) i with
   | none=>rfl
   | some a=>
    have:=(d a).2 (SZ.1 (X6 h2));have:=UH (gJ D i) ((SZ (x:=⟨k,a⟩)).2 this);rw[h1] at this; cases this
 rw[e]
def zS (r:Int):Int:=if r=1∨r=3∨r=4 then 4611686018427387904 else 0
theorem vH {r:Int} {Q:Int->Prop} (d:Q (zS r)):aG r Q:=by
 unfold aG; unfold zS at d;refine AV (λh=>?_) (λh=>AV (λD=>?_) (λD=>AV (λJ=>?_) (λJ=>?_)))
 . rwa [if_pos (.inl h)] at d
 . rwa [if_pos (.inr (.inl D))] at d
 . rwa [if_pos (.inr (.inr J))] at d
 . rwa [if_neg (by omega)] at d
def sW (r:Int) (s:B8):Option AM:=if (LJ s.Val).1≠zS r then some ⟨s.At,(LJ s.Val).1⟩ else none
def cE (r n:Int) (l:List B8):Vec×Int:=
 if ¬(1<=r∧r<=5) then (zV,8) else if ¬(0<=n∧n<=4096)∨∃ s∈l,¬(0<=s.At∧s.At<n) then (zV,3) else if ¬Rise l then (zV,6)
 else if ∃ s∈l,(LJ s.Val).2=false then (zV,12) else (⟨n,l.filterMap (sW r)⟩,0)
theorem AlX {n:Int} {l:List B8} {Q:Bool->Prop} (hl:l.length<=1000000000) (D:Q (decide (∃ s∈l,¬(0<=s.At∧s.At<n)))):C0 n l Q:=by
 unfold C0 DS;refine CM l.length (by omega) (λk=>∀ i (hi:i<l.length),i<k->0<=l[i].At∧l[i].At<n) (λi hi h=>by omega) (λk next hk U O=>?_) (λnext U=>?_)
 . refine A1 (λ_=>B3 hk ?_) (λh=>by omega);unfold QM
   have d:¬(0<=l[k].At∧l[k].At<n)->(λK:Int=>Q (decide (0<=K))) (k:Int):=by intro Z;rw[decide_eq_true ⟨_,List.getElem_mem hk,Z⟩] at D;simpa using D
   refine A1 (λh=>AU rfl (d (by omega))) (λh=>⟨λJ=>d (by have:=of_decide_eq_true J; omega),λJ=>O λi hi W=>?_⟩);have J:=of_decide_eq_false J;by_cases e:i=k
   . subst e; omega
   . exact U i hi (by omega)
 . refine A1 (λh=>by omega) (λ_=>?_)
   have:¬ ∃ s∈l,¬(0<=s.At∧s.At<n):=by rintro⟨s,V,O⟩;obtain⟨i,hi,rfl⟩:=List.mem_iff_getElem.1 V;exact O (U i hi hi)
   rw[decide_eq_false this] at D;simpa using D
theorem vI {r n:Int} {l:List B8} {Q:Vec×Int->Prop} (hl:l.length<=1000000000) (ho:qQ l) (d:Q (cE r n l)):aH r n l Q:=by
 unfold aH;unfold cE at d;refine P4 (BK (λh=>?_) (λh=>?_))
 . rw[if_pos (of_decide_eq_false h)] at d; exact d
 have hr:=of_decide_eq_true h;rw[if_neg (by omega)] at d;refine A1 (λh=>?_) (λh0=>A1 (λh=>?_) (λh1=>AlX hl ⟨λh=>?_,λh=>?_⟩))
 . rw[if_pos (.inl (by omega))] at d; exact d
 . rw[if_pos (.inl (by omega))] at d; exact d
 . rw[if_pos (.inr (of_decide_eq_true h))] at d; exact d
 have hin:=of_decide_eq_false h
 rw[if_neg (by
   rintro(V | V)
   . omega
   . exact hin V)] at d
 refine CM l.length (by omega) (λn=>∀ (i:Nat) (hi:i+1<l.length),i+1<n->l[i].At<l[i+1].At) (λi hi h=>by omega) (λi next hi Z U=>?_) (λnext Z=>?_)
 . refine A1 (λ_=>A1 (λh=>?_) (λh=>?_)) (λh=>by omega)
   . have e:A6 ((i:Int) - 1)=((i - 1:Nat):Int):=by rw[AB (by omega) (by omega)]; omega
     rw[e];refine B3 (by omega) (B3 hi (A1 (λV=>?_) (λV=>U λj hj W=>?_)))
     . have:¬Rise l:=λhr=>by have:=hr.adj hi (i:=i - 1) (by omega); omega
       rw[if_pos this] at d; exact d
     . by_cases e':j+1=i
       . subst e'; simp only[Nat.add_sub_cancel] at V; omega
       . exact Z j hj (by omega)
   . exact U λj hj W=>by omega
 . refine A1 (λh=>by omega) (λ_=>?_);rw[if_neg (λU=>U (yM λi hi=>Z i hi (by omega)))] at d;refine AD (s0:=([]:List AM)) (λ(s:List AM) i=>(s,i)) 0 l.length (by omega) (λk s=>s=(l.take k).filterMap (sW r)∧∀ i (hi:i<l.length),i<k->(LJ l[i].Val).2=true) (by omega) ⟨by simp,λi hi h=>by omega⟩ (λk s K _ hk J U=>?_) (λs K J=>?_)
   . obtain⟨J,D⟩:=J
     have hsl:s.length<=k:=by subst J;have:=List.length_filterMap_le (sW r) (l.take k);rw[List.length_take] at this; omega
     refine A1 (λ_=>B3 hk (sJ (ho _ (List.getElem_mem hk)) (BK (λO=>?_) (λO=>vH (BI (λhne=>AH (by simp; omega) (U _ ⟨?_,?_⟩)) (λhe=>U _ ⟨?_,?_⟩)))))) (λh=>by omega)
     . rw[if_pos ⟨_,List.getElem_mem hk,O⟩] at d; exact d
     . rw[List.take_succ_eq_append_getElem hk,List.filterMap_append,<-J];simp[sW,hne]
     . intro i hi hik;by_cases e:i=k
       . subst e; exact O
       . exact D i hi (by omega)
     . rw[List.take_succ_eq_append_getElem hk,List.filterMap_append,<-J];simp[sW,he]
     . intro i hi hik;by_cases e:i=k
       . subst e; exact O
       . exact D i hi (by omega)
   . obtain⟨J,D⟩:=J;rw[List.take_length] at J;subst J;refine A1 (λh=>by omega) (λ_=>?_);rw[if_neg] at d
     . exact d
     . rintro⟨s,J,O⟩;obtain⟨i,hi,rfl⟩:=List.mem_iff_getElem.1 J;rw[D i hi hi] at O; cases O
theorem AbT (v:Vec):(UG v).length<=4096:=by unfold UG; rw[List.length_map]; exact(Q8 v).len
theorem vJ {c:AN} {x:Vec} {rows cols:Int} {T:List A3} {Q:Int->Prop} (D:UY c) (K:x.Items.length<=1000000000) (d:XU c=SU rows cols T) (h:Canon cols rows T) (J:Q (QS T (UG x))):aD c x Q:=by unfold aD;exact XV K (uX D (by have:=AbT x; omega) d h J)
def gL (f:List Int) (n:Int):Int:=((UF f).find? λi=>decide (n<=i)).getD (-1)
theorem oU {f:List Int} {n p:Int} (h:EV f p=true) (hn:n<=p) (U:∀ q,q<p->n<=q->EV f q=false):gL f n=p:=by
 have hp:=S1.2 h;have d:=oS f;have D:∀ q∈UF f,EV f q=true:=λq J=>S1.1 J;unfold gL;generalize UF f=l at hp d D
 induction l with
 | nil=>simp at hp
 | cons x l O=>
  rw[List.pairwise_cons] at d;rw[List.find?_cons];by_cases e:n<=x
  . rw[decide_eq_true e];simp only[Option.getD_some];rcases List.mem_cons.1 hp with K | hp
    . exact K.symm
    . have:=d.1 p hp;have:=U x (by omega) e;rw[D x (by simp)] at this; cases this
  . rw[decide_eq_false e];rcases List.mem_cons.1 hp with K | hp
    . omega
    . exact O hp d.2 λq J=>D q (by simp[J])
theorem oV {f:List Int} {n:Int} (h:∀ q,n<=q->EV f q=false):gL f n = -1:=by
 unfold gL;rw[List.find?_eq_none.2]
 . rfl
 . intro q D d;have:=h q (of_decide_eq_true d);rw[S1.1 D] at this; cases this
theorem AdL {x:Int} (h:0<=x) (d:x<18446744073709551616):XQ .u64 x 1=x % 2:=by rw[vD h d (by omega) (by omega),show Int.toNat 1=1 from rfl,Nat.and_one_is_mod]; omega
theorem AdM (x:Int):shr .u64 x 1=x / 2:=AhD 1 (by omega)
theorem yW {f:List Int} (d:lK f) {i j:Nat} (hj:j<64) {w:Int} (h:w=BD f i / 2 ^ j):(EV f (64*i+j)=true↔w % 2=1):=by
 have D:=YV d i;unfold EV;rw[show(64*(i:Int)+j) / 64=i by omega,show((64*(i:Int)+j) % 64).toNat=j by omega];rw[Nat.testBit_eq_decide_div_mod_eq]
 have e:w=(((BD f i).toNat / 2 ^ j:Nat):Int):=by rw[h,Int.natCast_ediv,Int.natCast_pow,Int.toNat_of_nonneg D.1]; rfl
 rw[e];simp only[show decide ((0:Int)<=64*i+j)=true by simp; omega,Bool.true_and,decide_eq_true_eq];omega
theorem sX {f:List Int} (O:lK f) {i j k:Nat} (J:j<=k) (hk:k<64) {w:Int} (K:w=BD f i / 2 ^ j) (h0:w=0):EV f (64*i+k)=false:=by
 have U:=YV O i;unfold EV;rw[show(64*(i:Int)+k) / 64=i by omega,show((64*(i:Int)+k) % 64).toNat=k by omega]
 have e:w=(((BD f i).toNat / 2 ^ j:Nat):Int):=by rw[K,Int.natCast_ediv,Int.natCast_pow,Int.toNat_of_nonneg U.1]; rfl
 have d:(BD f i).toNat<2 ^ j:=by
  have D:(BD f i).toNat / 2 ^ j=0:=by omega
  rcases Nat.div_eq_zero_iff.1 D with h | h
  . exact absurd h (Nat.ne_of_gt (Nat.pow_pos (by omega)))
  . exact h
 rw[Nat.testBit_lt_two_pow (Nat.lt_of_lt_of_le d (Nat.pow_le_pow_right (by omega) J))];simp
theorem aU {f:List Int} {i j:Nat} {w:Int} (d:w=BD f i / 2 ^ j):w / 2=BD f i / 2 ^ (j+1):=by rw[d,Int.ediv_ediv_of_nonneg (by exact Int.le_of_lt (Int.pow_pos (by omega))),Int.pow_succ]
theorem V0 {f:List Int} {n:Int} {Q:Int->Prop} (hf:lK f) (hl:f.length<=1000000) (hQ:Q (gL f n)):OL f n Q:=by
 unfold OL K2 OJ;refine AD (s0:=((0:Int),(0:Nat))) (λ(s:Int×Nat) i=>(s.1,i,s.2)) 0 f.length (by omega) (λk s=>s.2=0∧∀ q,q<64*(k:Int)->n<=q->EV f q=false) (by omega) ⟨rfl,λq O _=>VY (by omega)⟩ (λk s next _ hk hs hn=>?_) (λs next hs=>?_)
 . obtain⟨s1,s2⟩:=s;obtain⟨D,h2⟩:=hs;simp only at D h2 ⊢;subst D;have W:=YV hf k;refine A1 (λ_=>BE (by omega) (by omega) ?_) (λh=>by omega)
   have esh:shl .i64 (k:Int) 6=64*(k:Int):=by show A6 ((k:Int)*2 ^ 6)=_;rw[AB (by omega) (by omega)]; omega
   rw[esh];refine DC (λs:Int×Int×Int×Nat=>∃ j:Nat,j<=64∧s.2.2.1=64*k+j∧s.2.1=BD f k / 2 ^ j∧s.2.2.2=0∧∀ q,q<64*(k:Int)+j->n<=q->EV f q=false) (λs=>s.2.1.toNat) ⟨0,by omega,by simp,by simp,rfl,λq O=>h2 q (by omega)⟩ ?_;rintro⟨t1,w,V,t4⟩ nx ⟨j,hj,ha,K,h4,Z⟩ hnx;simp only at ha K h4 Z ⊢;subst h4
   have hw0:0<=w∧w<18446744073709551616:=by rw[K];have hp:(0:Int)<2 ^ j:=Int.pow_pos (by omega);exact⟨Int.ediv_nonneg W.1 (Int.le_of_lt hp),Int.lt_of_le_of_lt (Int.ediv_le_self _ W.1) W.2⟩
   have e1:A6 (V+1)=64*(k:Int)+((j+1:Nat):Int):=by rw[ha,AB (by omega) (by omega)]; omega
   refine BI (λhne=>?_) (λhe=>?_)
   . have U:j<64:=by
       rcases Nat.lt_or_ge j 64 with h | h
       . exact h
       . have:j=64:=by omega
         subst this;exfalso; apply hne; rw[K];exact Int.ediv_eq_zero_of_lt W.1 W.2
     have J:=yW hf U K;rw[AdL hw0.1 hw0.2,AdM,e1];refine AV (λD=>⟨rfl,A1 (λhge=>?_) (λhlt=>?_)⟩) (λD=>?_)
     . refine AU rfl (AC (by simp) ⟨rfl,?_⟩);rw[oU (p:=V) (by rw[ha]; exact J.2 D) hge (λq O d=>Z q (by omega) d)] at hQ;exact hQ
     . refine AC rfl (hnx _ ⟨j+1,by omega,rfl,aU K,rfl,λq O d=>?_⟩ (by simp only; omega));rcases Int.lt_or_le q (64*(k:Int)+j) with h | h
       . exact Z q h d
       . omega
     . refine hnx _ ⟨j+1,by omega,rfl,aU K,rfl,λq O d=>?_⟩ (by simp only; omega);rcases Int.lt_or_le q (64*(k:Int)+j) with h | h
       . exact Z q h d
       . have:q=64*(k:Int)+j:=by omega
         subst this
         cases hc:EV f (64*(k:Int)+j) with
         | false=>rfl
         | true=>exact absurd (J.1 hc) D
   . refine hn (_,0) ⟨rfl,λq O d=>?_⟩;rcases Int.lt_or_le q (64*(k:Int)+j) with h | h
     . exact Z q h d
     . obtain⟨m,rfl⟩:∃ m:Nat,q=64*(k:Int)+m:=⟨(q - 64*k).toNat,by omega⟩;exact sX hf (j:=j) (by omega) (by omega) K he
 . obtain⟨s1,s2⟩:=s;obtain⟨D,h2⟩:=hs;simp only at D h2 ⊢;subst D;refine A1 (λh=>by omega) (λ_=>AU rfl ?_);rw[oV] at hQ
   . exact hQ
   . intro q O;rcases Int.lt_or_le q (64*(f.length:Int)) with h | h
     . exact h2 q h O
     . exact S0 h
theorem Af8 {f:List Int} {n:Int} (h0:0<=n):gL f n<0↔∀ i∈UF f,i<n:=by
 unfold gL
 cases hc:(UF f).find? λi=>decide (n<=i) with
 | none=>
  rw[List.find?_eq_none] at hc;simp only[Option.getD_none];exact⟨λ_ i hi=>by have:=hc i hi; simp at this; omega,λ_=>by omega⟩
 | some q=>
  have d:=List.find?_some hc;have D:=List.mem_of_find?_eq_some hc;have d:=of_decide_eq_true d;simp only[Option.getD_some];exact⟨λh=>by omega,λh=>by have:=h q D; omega⟩
theorem Z0 {f:List Int} {n:Int} {Q:Bool->Prop} (U:lK f) (V:f.length<=1000000) (O:Q (decide (YY f n))):PY f n Q:=by
 unfold PY;have d:¬YY f n->Q false:=λh=>by rwa [decide_eq_false h] at O
 refine A1 (λD=>A1 (λJ=>YX (AV (λK=>V0 U V ?_) (λK=>d λh=>K (by rw[h.2.1])))) (λJ=>d λh=>J h.1.2)) (λD=>d λh=>D h.1.1)
 have:decide (gL f n<0)=decide (YY f n):=decide_eq_decide.2 (by rw[Af8 D];exact⟨λh=>⟨⟨D,J⟩,by omega,h⟩,λh=>h.2.2⟩)
 rw[this]; exact O
theorem Z1 {v:Vec} {Q:Bool->Prop} (h:VecP v) (O:Q true):Q4 (NU v) Q:=by
 unfold Q4;have U:=h.n0; have V:=h.n1;have hN:(NU v).N=v.N:=rfl;have J:((NU v).Vals.length:Int)=v.N:=by simp[NU,W0]; omega
 refine Z0 (gG v) (by have:=AdJ v; omega) ?_;rw[show decide (YY (NU v).Has (NU v).N)=true from decide_eq_true (sS ⟨U,V⟩ _)];refine AC rfl (BI (λd=>absurd J d) (λ_=>?_));refine CM (NU v).Vals.length (by omega) (λ_=>True) trivial (λk next hk _ K=>?_) (λnext _=>?_)
 . refine A1 (λ_=>BE (by omega) (by omega) (BI (λd=>KT (gG v) (by unfold EZ; omega) (BK (λD=>?_) (λ_=>K trivial))) (λ_=>K trivial))) (λd=>by omega);rw[gF h] at D;have:BD (NU v).Vals (k:Int)=(FW v.Items k).getD 0:=jP (by omega) (by omega);rw[this] at d
   cases hlk:FW v.Items (k:Int) with
   | none=>rw[hlk] at d; exact absurd rfl d
   | some y=>rw[hlk] at D; cases D
 . exact A1 (λd=>by omega) (λ_=>O)
theorem vK {rows cols:Int} {ts:List A3} {v:Vec} {Q:Rows×Dense->Prop} (h:Canon rows cols ts) (d:VecP v) (D:Q (BH rows cols ts,NU v)):aL (BH rows cols ts) (NU v) Q:=by
 unfold aL;refine BP (λt=>t=BH rows cols ts) ?_ ?_
 . rintro t rfl;exact Z1 d (AC rfl D)
 . intro k hk;refine fW h.sml ?_;rw[decide_eq_true h.right];exact AC rfl (hk _ rfl)
theorem yX {r rows cols:Int} {ts:List A3} {v:Vec} {i:Nat} {Q:AL×Bool->Prop} (h:Canon rows cols ts) (ht:∀ t∈ts,EZ t.Val) (hv:VecP v) (hn:v.N=cols) (hvv:∀ y∈v.Items,EZ y.Val) (hi:(i:Int)<rows)
   (hQ:Q (((NV r cols.toNat (FW (QA ts i)) (FW v.Items)).getD ⟨0,0⟩),(NV r cols.toNat (FW (QA ts i)) (FW v.Items)).isSome)):fP r (BH rows cols ts) i (NU v) Q:=by
 unfold fP SP OW;have hr1:=h.r1; have hc1:=h.c1; have hlen:=h.len;obtain⟨lo,hi',sg⟩:=h.seg i;have e1:A6 ((i:Int)+1)=(i+1:Nat):=by rw[AB (by omega) (by omega)]; omega
 rw[e1];refine VT (by omega) ?_;rw[sg.lo];have g1:=sg.le; have g2:=sg.len;have hrow:QA ts i=((ts.take hi').drop lo).map qV:=by rw[sg.eq]; simp[QA]
 have hin:IncI (QA ts i)∧∀ x∈QA ts i,0<=x.At∧x.At<cols.toNat:=by rw[sV ts (by omega)];refine⟨gJ h.srt _,λx hx=>?_⟩;have:=h.inn _ (SZ.1 hx); unfold mT at this; simp only at this; omega
 have Z:=AhN (r:=r) (B:=FW v.Items) hin.1 hin.2;refine AD (s0:=(none:Option AL)) (λ(s:Option AL) k=>(s.isSome,(s.getD ⟨0,0⟩).Hi,(s.getD ⟨0,0⟩).Lo,k)) lo hi' (by omega) (λp d=>d=(((ts.take p).drop lo).map qV).foldl (cD r (FW v.Items)) none) (by omega) (by simp) (λp d V hp1 hp2 D W=>?_) (λd V D=>?_)
 . dsimp only;have K:p<ts.length:=by omega
   have hok:∀ w,d=some w->Q6 w:=by subst D; exact sU r _ _ none (λw hw=>by cases hw)
   have J:(((ts.take (p+1)).drop lo).map qV).foldl (cD r (FW v.Items)) none=cD r (FW v.Items) d (qV ts[p]):=by rw[yE hp1 K,List.map_append,List.foldl_append,<-D]; rfl
   have O:=h.inn _ (List.getElem_mem K);unfold mT at O;refine VT (by omega) ?_;rw[sg.hi];refine A1 (λ_=>?_) (λh=>by omega);refine AK (by omega) (x:=ts[p].Col) (by simp[BH,K]) (KT (gG v) (by unfold EZ; omega) ?_);rw[gF hv];have U:BD (NU v).Vals ts[p].Col=(FW v.Items ts[p].Col).getD 0:=jP O.2.2.1 (by omega);have hVl:((NU v).Vals.length:Int)=v.N:=by have:=hv.n0; simp[NU,W0]; omega
   cases hB':FW v.Items ts[p].Col with
   | none=>
    refine AC rfl (W d ?_);rw[J]; unfold cD; simp only[qV,hB']
   | some x=>
    rw[hB'] at U;refine AU rfl (AK (by omega) (x:=ts[p].Val) (by simp[BH,K]) (BE O.2.2.1 (by omega) ?_));rw[U];refine lJ (ht _ (List.getElem_mem K)) (hvv _ (X6 hB')) ?_;have hst:cD r (FW v.Items) d (qV ts[p])=iX r d (some (Y3 r ts[p].Val x)):=by unfold cD; simp only[qV,hB']
    unfold OV
    cases d with
    | none=>exact AC rfl (W (some (Y3 r ts[p].Val x)) (by rw[J,hst]; rfl))
    | some w=>exact AU rfl (YN (hok w rfl) (SX _ _ _) (W (some (KC r w (Y3 r ts[p].Val x))) (by rw[J,hst]; rfl)))
 . dsimp only;refine VT (by omega) ?_;rw[sg.hi];refine A1 (λh=>by omega) (λ_=>?_);rw[<-hrow,Z] at D;subst D;exact hQ
theorem vL {r rows cols:Int} {ts:List A3} {v:Vec} {f:List Int} {o:Bool} {Q:List B8×Int->Prop} (h:Canon rows cols ts) (ht:∀ t∈ts,EZ t.Val) (hv:VecP v) (V:∀ y∈v.Items,EZ y.Val)
   (hf:lK f) (K:Q (gK r rows cols ts v f o)):aM r (BH rows cols ts) (NU v) f o Q:=by
 unfold aM;unfold gK at K;have hr0:=h.r0; have hr1:=h.r1;refine vK h hv (P4 (BK (λJ=>?_) (λJ=>BI (λhne=>?_) (λhe=>?_))))
 . rw[if_pos (of_decide_eq_false J)] at K; exact K
 . rw[if_neg (by have:=of_decide_eq_true J; omega),if_pos (show v.N≠cols from hne)] at K; exact K
 have hr:=of_decide_eq_true J;have he:v.N=cols:=he;rw[if_neg (by omega),if_neg (by omega)] at K;unfold SQ OX;have hB:(BH rows cols ts).Rows=rows:=rfl;refine AD (s0:=(([]:List B8),(0:Nat))) (λ(s:List B8×Nat) i=>(s.1,i,s.2)) 0 rows.toNat (by omega) (λm s=>s.2=0∧s.1=KD r m cols.toNat f o (λi=>FW (QA ts i)) (FW v.Items)) (by omega) ⟨rfl,by simp[KD]⟩ (λi s next _ hi D W=>?_) (λs next D=>?_)
 . obtain⟨s,s2⟩:=s;obtain⟨O,D⟩:=D;simp only at O D ⊢;subst O;have hsl:s.length<=i:=by subst D; exact(SY r cols.toNat f o (λi=>FW (QA ts i)) (FW v.Items) i).2.1
   have d:=X8 r i cols.toNat f o (λi=>FW (QA ts i)) (FW v.Items);rw[<-D] at d;refine A1 (λ_=>KT hf (by unfold EZ; omega) (BK (λZ=>⟨rfl,?_⟩) (λZ=>W (s,0) ⟨rfl,?_⟩))) (λJ=>by rw[hB] at J; omega)
   . have U:FS f o i=true:=by unfold FS; rw[bne,Z]; rfl
     rw[if_pos U] at d;refine yX h ht hv he V (by omega) ?_
     cases hw:NV r cols.toNat (FW (QA ts i)) (FW v.Items) with
     | none=>
      refine AC rfl (AC rfl (W (s,0) ⟨rfl,?_⟩));simp only;rw[d,hw]; simp
     | some w=>
      refine AU rfl (AH (by simp; omega) (AC rfl (W (s++[⟨i,w⟩],0) ⟨rfl,?_⟩)));simp only;rw[d,hw]; rfl
   . have hno:¬FS f o i=true:=by unfold FS; rw[bne,Z]; simp
     simp only;rw[d,if_neg hno]; simp
 . obtain⟨s,s2⟩:=s;obtain⟨O,D⟩:=D;simp only at O D ⊢;subst O;refine A1 (λJ=>by rw[hB] at J; omega) (λ_=>⟨rfl,?_⟩);subst D; exact K
theorem Af9 (a b:AL):lE a b∨lE b a:=by unfold lE; omega
theorem AhO {a b:AL} (h:lE a b) (h':lE b a):a=b:=by unfold lE at *; exact Q7 (by omega) (by omega)
theorem AfA {a b c:AL} (h:lE a b) (h':lE b c):lE a c:=by unfold lE at *; omega
def mG (a b:AL):AL:=if lE a b then a else b
theorem AfB (a b:AL):mG a b=mG b a:=by
 unfold mG;by_cases h:lE a b <;> by_cases h':lE b a
 . rw[if_pos h,if_pos h']; exact AhO h h'
 . rw[if_pos h,if_neg h']
 . rw[if_neg h,if_pos h']
 . rcases Af9 a b with e | e
   . exact absurd e h
   . exact absurd e h'
theorem AbU (a b c:AL):mG (mG a b) c=mG a (mG b c):=by
 unfold mG;by_cases h1:lE a b <;> by_cases h2:lE b c <;> by_cases h3:lE a c <;> simp only[h1,h2,h3,if_true,if_false]
 . exact absurd (AfA h1 h2) h3
 . exfalso; unfold lE at *; omega
theorem AfC {r:Int} {a b:AL} (D:Q6 a) (d:Q6 b):KC r a b=KC r b a:=by
 by_cases h:r=1∨r=3∨r=4
 . have e:∀ a b,KC r a b=mG a b:=λa b=>by unfold KC mG; rw[if_pos h]
   rw[e,e]; exact AfB a b
 . by_cases h2:r=2
   . unfold KC;rw[if_neg h,if_pos h2,if_neg h,if_pos h2];by_cases e1:a=⟨0,0⟩ <;> by_cases e2:b=⟨0,0⟩ <;> simp[e1,e2]
   . by_cases h5:r=5
     . subst h5;rw[gC D,gC d,X5,X5,Int.add_comm]
     . unfold KC; rw[if_neg h,if_neg h2,if_neg h5,if_neg h,if_neg h2,if_neg h5]
theorem AbV {r:Int} {a b c:AL} (J:Q6 a) (D:Q6 b) (d:Q6 c):KC r (KC r a b) c=KC r a (KC r b c):=by
 by_cases h:r=1∨r=3∨r=4
 . have e:∀ a b,KC r a b=mG a b:=λa b=>by unfold KC mG; rw[if_pos h]
   simp only[e]; exact AbU a b c
 . by_cases h2:r=2
   . have e:∀ a b,KC r a b=if a=⟨0,0⟩∧b=⟨0,0⟩ then ⟨0,0⟩ else ⟨0,1⟩:=λa b=>by unfold KC; rw[if_neg h,if_pos h2]
     have n1:(⟨0,1⟩:AL)≠⟨0,0⟩:=by decide
     simp only[e];by_cases e1:a=⟨0,0⟩ <;> by_cases e2:b=⟨0,0⟩ <;> by_cases e3:c=⟨0,0⟩ <;> simp[e1,e2,e3]
   . by_cases h5:r=5
     . subst h5;rw[gC J,gC D,gC d,X5,X5,X5,X5,Int.add_assoc]
     . unfold KC;simp only[if_neg h,if_neg h2,if_neg h5]
def okO (o:Option AL):Prop:=∀ w,o=some w->Q6 w
theorem AhP {r:Int} {a b:Option AL} (h:okO a) (d:okO b):iX r a b=iX r b a:=by
 cases a with
 | none=>cases b <;> rfl
 | some x=>cases b with
  | none=>rfl
  | some y=>simp only[iX]; rw[AfC (h x rfl) (d y rfl)]
theorem jR {r:Int} {a b c:Option AL} (D:okO a) (h:okO b) (d:okO c):iX r (iX r a b) c=iX r a (iX r b c):=by
 cases a with
 | none=>cases b <;> rfl
 | some x=>cases b with
  | none=>cases c <;> rfl
  | some y=>cases c with
   | none=>rfl
   | some z=>simp only[iX]; rw[AbV (D x rfl) (h y rfl) (d z rfl)]
theorem sY (r:Int) (n:Nat) (A B:Int->Option Int):NV r (n+1) A B=gI r A B (NV r n A B) n:=by unfold NV; rw[List.range_succ,List.foldl_append]; rfl
theorem yY (r:Int) (k:Nat) (A B:Int->Option Int):∀ m:Nat,NV r (k+m) A B=iX r (NV r k A B) (NV r m (λj=>A (j+k)) (λj=>B (j+k)))
 | 0=>by rw[Nat.add_zero,show NV r 0 (λj=>A (j+k)) (λj=>B (j+k))=none from rfl,SW]
 | m+1=>by
  rw[<-Nat.add_assoc,sY,sY,yY r k A B m];have ho:=oT r m (λj=>A (j+k)) (λj=>B (j+k));generalize NV r m (λj=>A (j+k)) (λj=>B (j+k))=o at ho ⊢;unfold gI;rw[show(((k+m:Nat):Int))=(m:Int)+k by omega];simp only
  cases hA:A ((m:Int)+k) with
  | none=>rfl
  | some a=>cases hB:B ((m:Int)+k) with
   | none=>rfl
   | some x=>
    have h:okO (some (Y3 r a x)):=λw d=>by have:=Option.some.inj d;subst this; exact SX _ _ _
    exact jR (oT r k A B) ho h
theorem AbW {r:Int} {n:Nat} {A h B d:Int->Option Int} (K:∀ j:Nat,j<n->A j=h j) (D:∀ j:Nat,j<n->B j=d j):NV r n A B=NV r n h d:=by unfold NV;refine P8 λJ k hk=>?_;have hk:=List.mem_range.1 hk;unfold gI;rw[K k hk,D k hk]
theorem vM {l:List AM} (h:IncI l) {i a:Int}:FW l i=some a↔(⟨i,a⟩:AM)∈l:=⟨X6,λd=>UH h d⟩
theorem AdN {x y:Option Int} (h:∀ a,x=some a↔y=some a):x=y:=by
 cases x with
 | none=>cases y with
  | none=>rfl
  | some b=>have:=(h b).2 rfl; cases this
 | some a=>exact((h a).1 rfl).symm
def QB (u:Vec) (a b:Int):Vec:=
 if (if u.N<b then u.N else b)<=(if 0 > a then 0 else a) then zV
 else ⟨(if u.N<b then u.N else b) - (if 0 > a then 0 else a),(u.Items.filter λx=>decide ((if 0 > a then 0 else a)<=x.At∧x.At<(if u.N<b then u.N else b))).map λx=>⟨x.At - (if 0 > a then 0 else a),x.Val⟩⟩
theorem vN {u:Vec} (h:VecP u) {a b:Int} (h0:0<=a) (h1:a<=b) (h2:b<=u.N):QB u a b=⟨b - a,(u.Items.filter λx=>decide (a<=x.At∧x.At<b)).map λx=>⟨x.At - a,x.Val⟩⟩:=by
 unfold QB;have D:(if 0 > a then 0 else a)=a:=if_neg (by omega);have d:(if u.N<b then u.N else b)=b:=if_neg (by omega);rw[D,d];split
 . have:b=a:=by omega
   subst this;rw[List.filter_eq_nil_iff.2 (λx _=>by simp only[decide_eq_true_eq]; omega)];simp[zV]
 . rfl
theorem sZ {u:Vec} (h:VecP u) {a b:Int} (Z:0<=a) (h1:a<=b) (h2:b<=u.N):VecP (QB u a b)∧(QB u a b).N=b - a∧(∀ j,0<=j->j<b - a->FW (QB u a b).Items j=FW u.Items (j+a))∧((∀ x∈u.Items,EZ x.Val)->∀ x∈(QB u a b).Items,EZ x.Val):=by
 rw[vN h Z h1 h2];have hn1:=h.n1
 have d:∀ x:AM,x∈((u.Items.filter λx=>decide (a<=x.At∧x.At<b)).map λx=>(⟨x.At - a,x.Val⟩:AM))↔(⟨x.At+a,x.Val⟩:AM)∈u.Items∧0<=x.At∧x.At+a<b:=by
   intro x;simp only[List.mem_map,List.mem_filter,decide_eq_true_eq];constructor
   . rintro⟨y,⟨O,U⟩,rfl⟩;simp only;rw[show y.At - a+a=y.At by omega];exact⟨O,by omega,by omega⟩
   . rintro⟨O,U⟩;refine⟨_,⟨O,by simp only; omega⟩,?_⟩;cases x; simp only[AM.mk.injEq]; exact⟨by omega,trivial⟩
 have D:IncI ((u.Items.filter λx=>decide (a<=x.At∧x.At<b)).map λx=>(⟨x.At - a,x.Val⟩:AM)):=by unfold IncI;rw[List.pairwise_map];exact List.Pairwise.imp (λ{x y} V=>by simp only; omega) (List.Pairwise.filter _ h.inc)
 refine⟨⟨by simp only; omega,by simp only; omega,D,λx K=>by have:=(d x).1 K; simp only; omega⟩,rfl,λj W hj1=>AdN λw=>?_,λhv x K=>?_⟩
 . rw[vM D,vM h.inc,d];exact⟨λJ=>J.1,λJ=>⟨J,by simp only; omega⟩⟩
 . have:=hv _ ((d x).1 K).1;exact this
def oW (n k:Int):Prop:=(0<=n∧n<=4096)∧(1<=k∧k<=8)
instance (n k:Int):Decidable (oW n k):=by unfold oW; infer_instance
def yZ (i k:Int):Int:=if i<0 then 0 else if k<i then k else i
def AJ (n k i:Int):Int:=if oW n k then yZ i k*n / k else 0
theorem Al8 {i k:Int} (h:1<=k):0<=yZ i k∧yZ i k<=k:=by unfold yZ; split <;> (try split) <;> omega
theorem AhQ {i j k:Int} (h:i<=j) (hk:1<=k):yZ i k<=yZ j k:=by unfold yZ; split <;> split <;> (try split) <;> (try split) <;> omega
theorem An5 {i k n:Int} (hk:1<=k∧k<=8) (d:0<=n∧n<=4096) (hi:0<=i∧i<=k):0<=i*n∧i*n<=32768:=by refine⟨Int.mul_nonneg hi.1 d.1,?_⟩;have:=Int.mul_le_mul (show i<=8 by omega) d.2 d.1 (by omega);omega
theorem HR {n k i j:Int} (h:i<=j):AJ n k i<=AJ n k j:=by
 unfold AJ;by_cases hm:oW n k
 . rw[if_pos hm,if_pos hm];exact Int.ediv_le_ediv (by have:=hm.2; omega) (Int.mul_le_mul_of_nonneg_right (AhQ h hm.2.1) hm.1.1)
 . rw[if_neg hm,if_neg hm]; exact Int.le_refl _
theorem zB (n k:Int):AJ n k 0=0:=by
 unfold AJ yZ; split
 . rename_i d;have h1:=d.2.1;rw[if_neg (by omega),if_neg (by omega),Int.zero_mul,Int.zero_ediv]
 . rfl
theorem AdO {n k:Int} (h:oW n k):AJ n k k=n:=by unfold AJ yZ;have h1:=h.2.1;rw[if_pos h,if_neg (by omega),if_neg (by omega),Int.mul_comm,Int.mul_ediv_cancel _ (by omega)]
theorem T0 {n k i:Int}:0<=AJ n k i∧(0<=n->AJ n k i<=n):=by
 by_cases hm:oW n k
 . have d:=Al8 (i:=i) hm.2.1;refine⟨?_,λ_=>?_⟩
   . unfold AJ; rw[if_pos hm]; exact Int.ediv_nonneg (Int.mul_nonneg d.1 hm.1.1) (by have:=hm.2; omega)
   . by_cases hi:i<=k
     . have:=HR (n:=n) hi (k:=k); rwa [AdO hm] at this
     . have h1:=hm.2.1
       have e:AJ n k i=n:=by unfold AJ yZ;rw[if_pos hm,if_neg (by omega),if_pos (by omega),Int.mul_comm,Int.mul_ediv_cancel _ (by omega)]
       omega
 . unfold AJ; rw[if_neg hm]; exact⟨by omega,λh=>h⟩
end Go.Proofs.YtkbkaodgfedfmaaGreat
