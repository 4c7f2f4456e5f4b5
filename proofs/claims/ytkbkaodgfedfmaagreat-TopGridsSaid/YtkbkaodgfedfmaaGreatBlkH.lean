import Derived.Test.YtkbkaodgfedfmaaGreatOK
import Derived.Test.YtkbkaodgfedfmaaGreatBlkA
namespace Go.Proofs.YtkbkaodgfedfmaaGreat
open Go Go.Fw
set_option linter.unusedVariables false
set_option linter.unusedSimpArgs false
theorem toQ {P:Prop} [Decidable P] {b:Bool} {Q:Bool->Prop} (d:Q (decide P)) (h:b=true↔P):Q b:=by
 have:decide P=b:=by rw[Bool.eq_iff_iff,decide_eq_true_iff]; exact h.symm
 rwa [this] at d
theorem zC {n k:Int} {Q:Bool->Prop} (d:Q (decide (oW n k))):fK n k Q:=by unfold fK OH;refine A1 (λa=>A1 (λb=>A1 (λc=>toQ d ?_) (λc=>toQ d ?_)) (λb=>toQ d ?_)) (λa=>toQ d ?_) <;> (unfold oW; simp; omega)
theorem G4 {n k i:Int} {Q:Int->Prop} (D:Q (AJ n k i)):HJ n k i Q:=by
 unfold HJ;unfold AJ at D;refine zC (BK (λh=>?_) (λh=>?_))
 . rwa [if_neg (of_decide_eq_false h)] at D
 . have d:=of_decide_eq_true h;rw[if_pos d] at D
   have e:(if k<(if 0 > i then 0 else i) then k else (if 0 > i then 0 else i))=yZ i k:=by unfold yZ; have:=d.2; split <;> split <;> (try split) <;> (try split) <;> omega
   rw[e];have J:=An5 d.2 d.1 (Al8 (i:=i) d.2.1);have hk:=d.2;refine⟨by omega,?_⟩;rw[AB (x:=yZ i k*n) (by omega) (by omega),Int.tdiv_eq_ediv_of_nonneg J.1];have h1:0<=yZ i k*n / k:=Int.ediv_nonneg J.1 (by omega);have h2:yZ i k*n / k<=yZ i k*n:=Int.ediv_le_self _ J.1
   rwa [AB (by omega) (by omega)]
theorem P9 (n k i:Int):0<=AJ n k i∧AJ n k i<=4096:=by
 by_cases hm:oW n k
 . have h:=T0 (n:=n) (k:=k) (i:=i);have:=h.2 hm.1.1;have:=hm.1.2;exact⟨h.1,by omega⟩
 . unfold AJ; rw[if_neg hm]; omega
def HW (n k i:Int):Int:=if 0<=i∧i<k then AJ n k (i+1) - AJ n k i else 0
theorem Al9 {n k i:Int} (h0:0<=i) (h:i<k):AJ n k (A6 (i+1))=AJ n k (i+1):=by
 by_cases hm:oW n k
 . have:=hm.2;rw[AB (by omega) (by omega)]
 . unfold AJ; rw[if_neg hm,if_neg hm]
theorem vO {n k i:Int} {Q:Int->Prop} (d:Q (HW n k i)):aI n k i Q:=by
 unfold aI;unfold HW at d;refine A1 (λh=>?_) (λh=>A1 (λD=>?_) (λD=>G4 (G4 ?_)))
 . rwa [if_neg (by omega)] at d
 . rwa [if_neg (by omega)] at d
 . rw[if_pos (by omega)] at d;have h1:=P9 n k (i+1); have h2:=P9 n k i;rw[Al9 (by omega) (by omega),AB (by omega) (by omega)]; exact d
def I8 (k:Int):Prop:=1<=k∧k<=8
instance (k:Int):Decidable (I8 k):=by unfold I8; infer_instance
def W4 (r c i j:Int):Prop:=(I8 r∧I8 c)∧(0<=i∧i<r)∧0<=j∧j<c
instance (r c i j:Int):Decidable (W4 r c i j):=by unfold W4; infer_instance
theorem cF {k:Int} {Q:Bool->Prop} (d:Q (decide (I8 k))):SE k Q:=by unfold SE;refine A1 (λa=>toQ d ?_) (λa=>toQ d ?_) <;> (unfold I8; simp; omega)
theorem V4 {r c i j:Int} {Q:Bool->Prop} (h:Q (decide (W4 r c i j))):OG r c i j Q:=by unfold OG;refine cF (A1 (λa=>cF (A1 (λb=>A1 (λd=>A1 (λe=>A1 (λf=>toQ h ?_) (λf=>toQ h ?_)) (λe=>toQ h ?_)) (λd=>toQ h ?_)) (λb=>toQ h ?_))) (λa=>toQ h ?_)) <;> (unfold W4; unfold I8 at *; simp only[Bool.false_eq_true,decide_eq_true_eq,false_iff]; omega)
theorem XW {n:Int} {Q:Bool->Prop} (d:Q (decide (0<=n∧n<=4096))):NB n Q:=by unfold NB;refine A1 (λa=>toQ d ?_) (λa=>toQ d ?_) <;> (simp; omega)
theorem GO {n k i:Int} {Q:Int×Int->Prop} (D:0<=i) (h:i<k) (d:Q (AJ n k i,AJ n k (i+1))):G0 n k i Q:=by unfold G0;refine G4 (G4 ?_);rw[Al9 D h]; exact d
def Ak4 (rows cols:Int) (T:List A3) (r c i j:Int):Rows:=if W4 r c i j then Ah1 rows cols T (AJ rows r i,AJ rows r (i+1)) (AJ cols c j,AJ cols c (j+1)) else BH 0 0 []
theorem Ak5:YP zR=BH 0 0 []:=if_neg Ah4
theorem AhR:Ah1 0 0 [] (0,0) (0,0)=BH 0 0 []:=by decide
theorem vP {Q:Rows->Prop} (d:Q (BH 0 0 [])):U6 zR (0,0) (0,0) Q:=by refine oE Ah3 Ak5 yD ?_;rw[AhR]; exact d
theorem vQ {rows cols r c i j:Int} {T:List A3} {Q:Rows->Prop} (h:Canon rows cols T) (D:Q (Ak4 rows cols T r c i j)):ZZ (BH rows cols T) r c i j Q:=by
 unfold ZZ;unfold Ak4 at D;refine fW h.sml ?_;rw[decide_eq_true h.right];refine AC rfl (V4 (BK (λd=>?_) (λd=>?_)))
 . rw[if_neg (of_decide_eq_false d)] at D;exact vP D
 . have d:=of_decide_eq_true d;rw[if_pos d] at D;exact GO d.2.1.1 d.2.1.2 (GO d.2.2.1 d.2.2.2 (oE h.sml (P5 h) h D))
theorem dG {rows cols r c i j:Int} {T:List A3} (h:Canon rows cols T) (d:W4 r c i j):Ak4 rows cols T r c i j=BH (HW rows r i) (HW cols c j) (UX (AJ rows r i) (AJ rows r (i+1)) (AJ cols c j) (AJ cols c (j+1)) T)∧Canon (HW rows r i) (HW cols c j) (UX (AJ rows r i) (AJ rows r (i+1)) (AJ cols c j) (AJ cols c (j+1)) T):=by
 have O:=sO h (AJ rows r i,AJ rows r (i+1)) (AJ cols c j,AJ cols c (j+1))
 have e:∀ {n k x:Int},0<=n->0<=x∧x<k->sN (AJ n k x)=AJ n k x∧yG (AJ n k (x+1)) n=AJ n k (x+1)∧ext (AJ n k x) (AJ n k (x+1)) n=HW n k x:=by
  intro n k x hn Z;have h1:=T0 (n:=n) (k:=k) (i:=x); have W:=T0 (n:=n) (k:=k) (i:=x+1);have h3:=HR (n:=n) (k:=k) (show x<=x+1 by omega);have h4:=W.2 hn;have V:sN (AJ n k x)=AJ n k x:=by unfold sN; split <;> omega
  have K:yG (AJ n k (x+1)) n=AJ n k (x+1):=by unfold yG; split <;> omega
  refine⟨V,K,?_⟩;unfold ext HW;rw[V,K,if_pos Z];split <;> omega
 obtain⟨a1,U,D⟩:=e h.r0 d.2.1;obtain⟨J,b2,b3⟩:=e h.c0 d.2.2;simp only[a1,U,D,J,b2,b3] at O;refine⟨?_,O⟩;unfold Ak4;rw[if_pos d];unfold Ah1;simp only[a1,U,D,J,b2,b3]
theorem Ak6 {a b:Int} (h0:0<=a) (h1:0<=b) (h2:a<=1000000) (h3:b<=1000000):A6 (shr .u64 (IntKind.wrap .u64 (A6 (a+b))) 1)=(a+b) / 2:=by have e:∀ i:Int,shr .u64 i 1=i / 2:=λi=>AhD 1 (by omega);rw[AB (x:=a+b) (by omega) (by omega),U1 (by omega) (by omega),e,AB (by omega) (by omega)]
theorem tA (x y:Int):O5 x y<0↔x<y:=by unfold O5; split <;> (try split) <;> omega
theorem cG {w:Vec} {i:Int} {Q:Int×Bool->Prop} (hP:VecP w) (hQ:∀ (m:Nat) b,m<=w.Items.length->(∀ (k:Nat) (hk:k<w.Items.length),k<m->(w.Items[k]).At<i)->(∀ (k:Nat) (hk:k<w.Items.length),m<=k->¬(w.Items[k]).At<i)->Q (m,b)):M8 w i Q:=by
 have hi:=hP.inc;have hlen:=hP.len;unfold M8 BG IV;refine DC (λs:Int×Int=>0<=s.1∧s.1<=s.2∧s.2<=w.Items.length∧(∀ (k:Nat) (hk:k<w.Items.length),(k:Int)<s.1->(w.Items[k]).At<i)∧(∀ (k:Nat) (hk:k<w.Items.length),s.2<=(k:Int)->¬(w.Items[k]).At<i)) (λs=>(s.2 - s.1).toNat) ⟨by simp,by simp,by simp,λk hk h=>by simp at h; omega,λk hk h=>by simp at h; omega⟩ ?_;rintro⟨a,b⟩ next ⟨W,h1,h2,V,U⟩ hn;simp only at W h1 h2 V U;refine A1 (λhab=>?_) (λhab=>?_)
 . rw[Ak6 W (by omega) (by omega) (by omega)];obtain⟨m,Z⟩:∃ m:Nat,(a+b) / 2=(m:Int):=⟨((a+b) / 2).toNat,by omega⟩;rw[Z];have K:m<w.Items.length:=by omega
   refine B3 K (FR (A1 (λJ=>?_) (λJ=>?_)))
   . rw[tA] at J;rw[AB (by omega) (by omega)];refine hn _ ⟨by simp only; omega,by simp only; omega,h2,λk hk D=>?_,U⟩ (by simp only; omega);simp only at D;by_cases e:k=m
     . subst e; exact J
     . have:=hi.at K (by omega:k<m); omega
   . rw[tA] at J;refine hn _ ⟨W,by simp only; omega,by simp only; omega,V,λk hk D=>?_⟩ (by simp only; omega);simp only at D;by_cases e:k=m
     . subst e; exact J
     . have:=hi.at hk (by omega:m<k); omega
 . have O:a=b:=by omega
   subst O;obtain⟨m,rfl⟩:∃ m:Nat,a=(m:Int):=⟨a.toNat,by omega⟩;have d:∀ b,Q ((m:Int),b):=λb=>hQ m b (by omega) (λk hk h=>V k hk (by omega)) (λk hk h=>U k hk (by omega));exact A1 (λZ=>B3 (by omega) (FR (d _))) (λZ=>d _)
theorem tB {l:List AM} {Q:List AM->Prop} (hl:l.length<=1000000) (d:Q l):AP l Q:=by unfold AP;refine M3 (λe=>by subst e; exact d) (AH (by simp; omega) ?_);exact d
theorem zD {α:Type} {xs:List α} {g:α->α} {h:List α×Int->(List α×Int->Prop)->Prop} (hl:xs.length<=1000000000)
   (K:∀ (i:Nat) (s:List α) (next:List α×Int->Prop) (hi:i<xs.length) (J:s.length=xs.length),s[i]'(by omega)=xs[i]->next (s.set i (g xs[i]),A6 ((i:Int)+1))->h (s,(i:Int)) next)
   (O:∀ (next:List α×Int->Prop) s,s=xs.map g->h (s,(xs.length:Int)) next):AW h (xs,0):=by
 refine AD (λ(s:List α) i=>(s,i)) 0 xs.length (by omega) (λk s=>s=(xs.take k).map g++xs.drop k) (by omega) (by simp) (λk s next _ hk d U=>?_) (λs next d=>?_)
 . have J:s.length=xs.length:=by subst d; simp; omega
   have D:((xs.take k).map g).length=k:=by simp; omega
   refine K k s next hk J ?_ (U _ ?_)
   . have V:s[k]? = xs[k]?:=by subst d; rw[List.getElem?_append_right (by omega),D,Nat.sub_self,List.getElem?_drop,Nat.add_zero]
     exact Option.some.inj ((List.getElem?_eq_getElem (by omega)).symm.trans (V.trans (List.getElem?_eq_getElem hk)))
   . subst d;rw[List.set_append_right _ _ (by omega),D,Nat.sub_self,List.drop_eq_getElem_cons hk,List.set_cons_zero,List.take_succ_eq_append_getElem hk,List.map_append,List.append_assoc];rfl
 . rw[List.take_length,List.drop_length,List.append_nil] at d;exact O next s d
theorem vR {f:Int} {v:Vec} {Q:Vec->Prop} (J:VecP v) (hf:0<=f) (hi:∀ x∈v.Items,f<=x.At) (O:Q ⟨v.N,v.Items.map λx=>⟨x.At - f,x.Val⟩⟩):NH f v Q:=by
 unfold NH OS;have hl:=J.len; have:=J.n1;refine LK (by omega) ?_;rw[HQ J];refine tB (by omega) (zD (g:=λx:AM=>(⟨x.At - f,x.Val⟩:AM)) (by omega) (λi s next D V d W=>?_) (λnext s K=>?_))
 . have hx:=J.ins _ (List.getElem_mem D); have U:=hi _ (List.getElem_mem D);refine A1 (λ_=>B3 (by omega) ?_) (λh=>by omega);rw[d,AB (x:=(v.Items[i]).At - f) (by omega) (by omega)];exact B3 (by omega) W
 . subst K;exact A1 (λh=>by omega) (λ_=>O)
theorem AbX {l:List AM} (h:IncI l) {f t:Int} {m n:Nat} (D:m<=n) (hn:n<=l.length) (U:∀ (k:Nat) (hk:k<l.length),k<m->(l[k]).At<f) (O:∀ (k:Nat) (hk:k<l.length),m<=k->¬(l[k]).At<f)
   (K:∀ (k:Nat) (hk:k<l.length),k<n->(l[k]).At<t) (J:∀ (k:Nat) (hk:k<l.length),n<=k->¬(l[k]).At<t):(l.take n).drop m=l.filter λx=>decide (f<=x.At∧x.At<t):=by
 have e:l=l.take m++((l.take n).drop m++l.drop n):=by
   conv=>lhs; rw[<-List.take_append_drop n l]
   rw[<-List.append_assoc];congr 1
   conv=>lhs; rw[<-List.take_append_drop m (l.take n)]
   rw[List.take_take,Nat.min_eq_left D]
 conv=>rhs; rw[e]
 rw[List.filter_append,List.filter_append,List.filter_eq_nil_iff.2,List.filter_eq_self.2,List.filter_eq_nil_iff.2]
 . simp
 . intro x d;obtain⟨k,hk,rfl⟩:=List.getElem_of_mem d;rw[List.length_drop] at hk;rw[List.getElem_drop];have:=J (n+k) (by omega) (by omega);simp only[decide_eq_true_eq]; omega
 . intro x d;obtain⟨k,hk,rfl⟩:=List.getElem_of_mem d;rw[List.length_drop,List.length_take] at hk;rw[List.getElem_drop,List.getElem_take];have a:=O (m+k) (by omega) (by omega); have b:=K (m+k) (by omega) (by omega);simp only[decide_eq_true_eq]; omega
 . intro x d;obtain⟨k,hk,rfl⟩:=List.getElem_of_mem d;rw[List.length_take] at hk;rw[List.getElem_take];have:=U k (by omega) (by omega);simp only[decide_eq_true_eq]; omega
theorem qY {v:Vec} {a b:Int} {Q:Vec->Prop} (hl:v.Items.length<=1000000000) (J:Q (QB (FF v) a b)):WT v a b Q:=by
 unfold WT;have d:=Q8 v;refine LK hl ?_;generalize FF v=u at d J;have hul:=d.len; have:=d.n0; have:=d.n1;unfold QB at J;generalize hf:(if 0 > a then 0 else a)=f at *;generalize ht:(if u.N<b then u.N else b)=t at *;have V:0<=f:=by subst hf; split <;> omega
 have htN:t<=u.N:=by subst ht; split <;> omega
 refine A1 (λh=>?_) (λh=>?_)
 . rw[if_pos h] at J; exact J
 . rw[if_neg h] at J;refine cG d λm _ hm m1 m2=>cG d λn _ hn n1 n2=>?_
   have O:m<=n:=by
    rcases Nat.lt_or_ge n m with Z | W
    . have x1:=m1 n (by omega) Z;have x2:=n2 n (by omega) (Nat.le_refl _);omega
    . exact W
   have K:=AbX d.inc O hn m1 m2 n1 n2;refine AjI O hn ?_;rw[Int.toNat_natCast,Int.toNat_natCast,K]
   have D:∀ x∈u.Items.filter λx=>decide (f<=x.At∧x.At<t),x∈u.Items∧f<=x.At∧x.At<t:=λx U=>by have:=List.mem_filter.1 U;exact⟨this.1,of_decide_eq_true this.2⟩
   refine vR (v:=⟨u.N,u.Items.filter λx=>decide (f<=x.At∧x.At<t)⟩) ⟨d.n0,d.n1,List.Pairwise.filter _ d.inc,λx U=>d.ins x (D x U).1⟩ V (λx U=>(D x U).2.1) ?_;rw[AB (by omega) (by omega)];exact J
def FG (v:Vec) (k i:Int):Vec:=if I8 k∧0<=i∧i<k then QB v (AJ v.N k i) (AJ v.N k (i+1)) else zV
def mx (a b:Int):Int:=if b > a then b else a
def mn (a b:Int):Int:=if b<a then b else a
def W5 (n r c i j:Int):Int:=mx (AJ n r i) (AJ n c j)
def dH (n r c i j:Int):Int:=mx (W5 n r c i j) (mn (AJ n r (i+1)) (AJ n c (j+1)))
def QP (v:Vec) (n r c i j:Int):Vec:=
 if (0<=n∧n<=4096)∧W4 r c i j∧VecP v∧v.N=HW n r i then QB v (W5 n r c i j - AJ n r i) (dH n r c i j - AJ n r i) else zV
theorem AhS (n r c i j:Int):0<=W5 n r c i j∧W5 n r c i j<=dH n r c i j∧dH n r c i j<=4096:=by
 have h1:=P9 n r i; have h2:=P9 n c j; have h3:=P9 n r (i+1); have h4:=P9 n c (j+1);unfold dH W5 mx mn
 repeat' split
 all_goals omega
theorem oX {v:Vec} {n r c i j:Int} {Q:Vec->Prop} (V:v.Items.length<=1000000000) (O:Q (QP v n r c i j)):U8 v n r c i j Q:=by
 unfold U8;unfold QP at O;have D:¬((0<=n∧n<=4096)∧W4 r c i j∧VecP v∧v.N=HW n r i)->Q zV:=λd=>by rwa [if_neg d] at O
 refine XW (BK (λh=>D λd=>of_decide_eq_false h d.1) (λU=>V4 (BK (λh=>D λd=>of_decide_eq_false h d.2.1) (λJ=>EI V (BK (λh=>D λd=>of_decide_eq_false h d.2.2.1) (λK=>vO (BI (λh=>D λd=>h d.2.2.2) (λW=>?_))))))));have U:=of_decide_eq_true U; have J:=of_decide_eq_true J; have K:=of_decide_eq_true K;rw[if_pos ⟨U,J,K,W⟩] at O;refine GO J.2.1.1 J.2.1.2 (GO J.2.2.1 J.2.2.2 ?_);unfold NG;refine qY V ?_;have hc:=AhS n r c i j; have hb:=P9 n r i;have Z:(if (AJ n c j) > (AJ n r i) then AJ n c j else AJ n r i)=W5 n r c i j:=rfl;have eb:(if (if (AJ n c (j+1))<(AJ n r (i+1)) then AJ n c (j+1) else AJ n r (i+1)) > W5 n r c i j then (if (AJ n c (j+1))<(AJ n r (i+1)) then AJ n c (j+1) else AJ n r (i+1)) else W5 n r c i j)=dH n r c i j:=rfl;simp only;rw[Z,eb,AB (by omega) (by omega),AB (by omega) (by omega),HQ K];exact O
def shI (n:Int) (x:AM):AM:=⟨n+x.At,x.Val⟩
def gM:List Vec->Vec->Vec×Int
 | [],o=>(o,0)
 | v :: l,o=>if 4096<o.N+(FF v).N then (zV,5) else gM l ⟨o.N+(FF v).N,o.Items++(FF v).Items.map (shI o.N)⟩
theorem vS {f:Int} {v:Vec} {Q:Vec->Prop} (O:v.Items.length<=1000000000) (hf:0<=f∧f<=4096) (K:Q ⟨(FF v).N,(FF v).Items.map (shI f)⟩):NC f v Q:=by
 unfold NC OO;have D:=Q8 v;refine LK O ?_;generalize FF v=u at D K;have O:=D.len; have:=D.n1;refine tB (by omega) (zD (g:=shI f) (by omega) (λi s next J V d W=>?_) (λnext s U=>?_))
 . have hx:=D.ins _ (List.getElem_mem J);refine A1 (λ_=>B3 (by omega) ?_) (λh=>by omega);rw[d,AB (x:=f+(u.Items[i]).At) (by omega) (by omega)];exact B3 (by omega) W
 . subst U;exact A1 (λh=>by omega) (λ_=>K)
theorem qZ {l:List Vec} {Q:Vec×Int->Prop} (hl:l.length<=1000) (O:∀ v∈l,v.Items.length<=1000000000) (D:Q (gM l zV)):WP l Q:=by
 unfold WP;refine AD (s0:=zV) (λ(s:Vec) i=>(s.N,s.Items,i)) 0 l.length (by omega) (λi s=>gM (l.drop i) s=gM l zV∧(0<=s.N∧s.N<=4096)∧s.Items.length<=i*4096) (by omega) ⟨rfl,by decide,by decide⟩ (λi s next _ hi K V=>?_) (λs next K=>?_)
 . obtain⟨d,U,m3⟩:=K;rw[List.drop_eq_getElem_cons hi,gM] at d;have J:=Q8 l[i];refine A1 (λ_=>B3 hi (vS (O _ (List.getElem_mem hi)) U ?_)) (λh=>by omega);generalize FF l[i]=u at J d;have:=J.n0; have:=J.n1; have:=J.len;rw[AB (x:=4096 - s.N) (by omega) (by omega)];refine A1 (λh=>?_) (λh=>AH (by rw[List.length_map]; omega) ?_)
   . rw[if_pos (by simp only at h; omega)] at d;rw[<-d] at D; exact D
   . rw[if_neg (by simp only at h; omega)] at d;refine V ⟨A6 (s.N+u.N),s.Items++u.Items.map (shI s.N)⟩ ⟨?_,?_,?_⟩
     . rw[AB (by omega) (by omega)]; exact d
     . simp only at h; rw[AB (by omega) (by omega)]; simp only; omega
     . simp only[List.length_append,List.length_map]; omega
 . obtain⟨d,_,_⟩:=K;refine A1 (λh=>by omega) (λ_=>?_);rw[List.drop_length,gM] at d;rw[<-d] at D; exact D
noncomputable def AbY (d:Nat->Int) (l:List Vec):Vec×Int:=if ∀ (i:Nat) (h:i<l.length),VecP l[i]∧l[i].N=d i then gM l zV else (zV,4)
noncomputable def Ak7 (n r c j:Int) (l:List Vec):Vec×Int:=if ¬((0<=n∧n<=4096)∧W4 r c 0 j) then (zV,3) else if (l.length:Int)≠r then (zV,4) else AbY (λi=>dH n r c i j - W5 n r c i j) l
theorem AhT {n r c i j:Int} {Q:Int->Prop} (h:0<=i∧i<r) (d:0<=j∧j<c) (K:Q (dH n r c i j - W5 n r c i j)):LZ n r c j i Q:=by unfold LZ NG;refine GO h.1 h.2 (GO d.1 d.2 ?_);have hc:=AhS n r c i j;have J:(if (AJ n c j) > (AJ n r i) then AJ n c j else AJ n r i)=W5 n r c i j:=rfl;have D:(if (if (AJ n c (j+1))<(AJ n r (i+1)) then AJ n c (j+1) else AJ n r (i+1)) > W5 n r c i j then (if (AJ n c (j+1))<(AJ n r (i+1)) then AJ n c (j+1) else AJ n r (i+1)) else W5 n r c i j)=dH n r c i j:=rfl;simp only;rw[J,D,AB (by omega) (by omega)];exact K
theorem vT {n r c j:Int} {l:List Vec} {Q:Vec×Int->Prop} (hl:l.length<=1000) (U:∀ v∈l,v.Items.length<=1000000000) (d:Q (Ak7 n r c j l)):aN n r c j l Q:=by
 unfold aN QN;unfold Ak7 at d;refine XW (BK (λh=>?_) (λV=>V4 (BK (λh=>?_) (λW=>BI (λh=>?_) (λh3=>?_)))))
 . rwa [if_pos (λD=>of_decide_eq_false h D.1)] at d
 . rwa [if_pos (λD=>of_decide_eq_false h D.2)] at d
 . rwa [if_neg (λD=>D ⟨of_decide_eq_true V,of_decide_eq_true W⟩),if_pos h] at d
 have Z:=of_decide_eq_true W;rw[if_neg (λD=>D ⟨of_decide_eq_true V,Z⟩),if_neg (λh=>h h3)] at d;unfold AbY at d;refine CM l.length (by omega) (λi=>∀ (q:Nat) (O:q<l.length),q<i->VecP l[q]∧l[q].N=dH n r c q j - W5 n r c q j) (λq O h=>by omega) (λi next hi J hn=>?_) (λnext J=>?_)
 . refine A1 (λ_=>B3 hi (EI (U _ (List.getElem_mem hi)) (BK (λh=>?_) (λh=>AhT (by omega) Z.2.2 (BI (λD=>?_) (λD=>hn λq O hqi=>?_)))))) (λh=>by omega)
   . rw[if_neg (λK=>of_decide_eq_false h (K i hi).1)] at d; exact d
   . rw[if_neg (λK=>D (K i hi).2)] at d; exact d
   . by_cases e:q=i
     . subst e; exact⟨of_decide_eq_true h,D⟩
     . exact J q O (by omega)
 . rw[if_pos (λi hi=>J i hi hi)] at d;exact A1 (λh=>by omega) (λ_=>qZ hl U d)
theorem gN {k:Int} {Q:Bool->Prop} (d:Q (decide (I8 k))):OH k Q:=by unfold OH;refine A1 (λa=>toQ d ?_) (λa=>toQ d ?_) <;> (unfold I8; simp; omega)
theorem Z2 {c k:Nat} {Q:Int->Prop} (D:I8 c) (hk:k<8*c) (J:Q ((k / c:Nat):Int)):VN c k Q:=by
 unfold VN;refine gN ?_;rw[decide_eq_true D];have d:=D;unfold I8 at d;refine AC rfl (A1 (λh=>by omega) (λ_=>?_));rw[AB (x:=(c:Int)*8) (by omega) (by omega)];refine A1 (λh=>by omega) (λ_=>⟨by omega,?_⟩);rw[Int.tdiv_eq_ediv_of_nonneg (by omega),<-Int.natCast_ediv];have K:k / c<=k:=Nat.div_le_self _ _;generalize k / c=q at K J ⊢
 rwa [AB (by omega) (by omega)]
theorem UI {c k:Nat} {Q:Int->Prop} (D:I8 c) (hk:k<8*c) (hQ:Q ((k % c:Nat):Int)):Q3 c k Q:=by
 unfold Q3;have d:=D;unfold I8 at d;refine Z2 D hk (A1 (λh=>absurd h (Int.not_lt.2 (Int.natCast_nonneg _))) (λ_=>⟨by omega,?_⟩))
 rwa [Int.tmod_eq_emod_of_nonneg (by omega),<-Int.natCast_emod]
def shS (a:Int) (s:B8):B8:=⟨s.At+a,s.Val⟩
def Tb (rows cols:Int) (T:List A3) (p q i j:Int):List A3:=UX (AJ rows p i) (AJ rows p (i+1)) (AJ cols q j) (AJ cols q (j+1)) T
def AlY (r rows cols:Int) (T:List A3) (v:Vec) (p q i j:Int):List B8:=KD r (HW rows p i).toNat (HW cols q j).toNat [] true (λa=>FW (QA (Tb rows cols T p q i j) a)) (FW (FG v q j).Items)
def zF (r rows cols:Int) (T:List A3) (v:Vec) (p q i j:Int):List B8:=(AlY r rows cols T v p q i j).map (shS (AJ rows p i))
def AhU (r rows cols:Int) (T:List A3) (v:Vec) (p q:Int) (i:Nat) (n:Nat):List (List B8):=(List.range n).map λj:Nat=>zF r rows cols T v p q i j
theorem gO {v:Vec} (h:VecP v) {q j:Int} (O:I8 q) (d:0<=j∧j<q):VecP (FG v q j)∧(FG v q j).N=HW v.N q j∧(∀ k,0<=k->k<HW v.N q j->FW (FG v q j).Items k=FW v.Items (k+AJ v.N q j))∧((∀ x∈v.Items,EZ x.Val)->∀ x∈(FG v q j).Items,EZ x.Val):=by have K:=T0 (n:=v.N) (k:=q) (i:=j); have J:=T0 (n:=v.N) (k:=q) (i:=j+1);have D:=HR (n:=v.N) (k:=q) (show j<=j+1 by omega);have:=sZ h K.1 D (J.2 h.n0);unfold FG HW;rw[if_pos ⟨O,d⟩,if_pos d];exact this
theorem Ak8 {rows cols:Int} {T:List A3} {p q i j:Int} (h:∀ t∈T,EZ t.Val):∀ t∈Tb rows cols T p q i j,EZ t.Val:=λt d=>by have:=h _ ((AdA t).1 d).1;exact this
theorem Ak9 {a:Int} {l:List B8} (h:Rise l):Rise (l.map (shS a)):=by unfold Rise at *;rw[List.pairwise_map];exact h.imp λ{x y} d=>by unfold shS; simp only; omega
theorem AhV {a:Int}:∀ (l:List B8) (i:Int),lk (l.map (shS a)) i=lk l (i - a)
 | [],_=>rfl
 | s :: l,i=>by
  rw[List.map_cons,DT,DT,AhV l i];unfold shS;simp only;by_cases e:i=s.At+a
  . rw[if_pos e,if_pos (by omega)]
  . rw[if_neg e,if_neg (by omega)]
theorem AhW {x:Int}:EV [] x=false:=by
 by_cases hx:x<0
 . exact VY hx
 . exact S0 (by simp; omega)
theorem blk_prop (r rows cols:Int) (T:List A3) (v:Vec) (p q i j:Int):Rise (zF r rows cols T v p q i j)∧(zF r rows cols T v p q i j).length<=(HW rows p i).toNat∧qQ (zF r rows cols T v p q i j) ∧
   ∀ x:Int,lk (zF r rows cols T v p q i j) x=if 0<=x - AJ rows p i∧x - AJ rows p i<((HW rows p i).toNat:Nat) then NV r (HW cols q j).toNat (FW (QA (Tb rows cols T p q i j) (x - AJ rows p i))) (FW (FG v q j).Items) else none:=by
 have h:=SY r (HW cols q j).toNat [] true (λa=>FW (QA (Tb rows cols T p q i j) a)) (FW (FG v q j).Items) (HW rows p i).toNat;unfold zF AlY;refine⟨Ak9 h.1,by rw[List.length_map]; exact h.2.1,λs D=>?_,λx=>?_⟩
 . obtain⟨u,J,rfl⟩:=List.mem_map.1 D;exact h.2.2.1 u J
 . rw[AhV,h.2.2.2.2];have K:FS [] true (x - AJ rows p i)=true:=by unfold FS; rw[AhW]; rfl
   by_cases hc:0<=x - AJ rows p i∧x - AJ rows p i<((HW rows p i).toNat:Nat)
   . rw[if_pos ⟨hc.1,hc.2,K⟩,if_pos hc]
   . rw[if_neg (λd=>hc ⟨d.1,d.2.1⟩),if_neg hc]
theorem tD {rows cols:Int} {T:List A3} (h:Canon rows cols T) {i j a:Int} (hi:0<=i):FW (QA T i) j=some a↔(⟨i,j,a⟩:A3)∈T:=by
 have d:IncI ((RL T i.toNat).map qV):=by unfold IncI RL;rw[List.pairwise_map];refine List.Pairwise.imp_of_mem ?_ (List.Pairwise.filter _ h.srt);intro a b ha Z D;have U:=of_decide_eq_true (List.mem_filter.1 ha).2;have O:=of_decide_eq_true (List.mem_filter.1 Z).2;unfold MB key at D;simp only[qV];simp only at D;omega
 unfold QA;rw[vM d,List.mem_map];unfold RL;constructor
 . rintro⟨t,J,K⟩;obtain⟨U,O⟩:=List.mem_filter.1 J;have W:=of_decide_eq_true O;unfold qV at K;obtain⟨V,tc,tv⟩:=t;simp only[AM.mk.injEq] at K W;obtain⟨rfl,rfl⟩:=K;rw[show i=V by omega];exact U
 . intro J;exact⟨_,List.mem_filter.2 ⟨J,by simp; omega⟩,rfl⟩
theorem tE {r rows cols:Int} {T:List A3} {v:Vec} {p q:Nat} (h:Canon rows cols T) (W:VecP v) (Z:v.N=cols) (hp:I8 p) (U:I8 q) {i:Nat} (hi:i<p) {x:Int} (h0:AJ rows p i<=x) (h1:x<AJ rows p ((i:Int)+1)) :
  ∀ n:Nat,n<=q->(AhU r rows cols T v p q i n).foldl (λO l=>iX r O (lk l x)) none=NV r (AJ cols q n).toNat (FW (QA T x)) (FW v.Items)
 | 0,_=>by rw[Int.natCast_zero,zB]; rfl
 | n+1,hnq=>by
  have ih:=tE (r:=r) h W Z hp U hi h0 h1 n (by omega);have hl0:=P9 rows p i;have e:AhU r rows cols T v p q i (n+1)=AhU r rows cols T v p q i n++[zF r rows cols T v p q i n]:=by unfold AhU; rw[List.range_succ,List.map_append]; rfl
  rw[e,List.foldl_append,ih,List.foldl_cons,List.foldl_nil];have hg:W4 (p:Int) (q:Int) (i:Int) (n:Int):=⟨⟨hp,U⟩,by omega,by omega⟩;obtain⟨_,hc⟩:=dG h hg;have hsr:HW rows p i=AJ rows p ((i:Int)+1) - AJ rows p i:=by unfold HW; rw[if_pos (by omega)]
  have hsc:HW cols q n=AJ cols q ((n:Int)+1) - AJ cols q n:=by unfold HW; rw[if_pos (by omega)]
  have D:=P9 cols q n; have V:=HR (n:=cols) (k:=q) (show(n:Int)<=(n:Int)+1 by omega);rw[(blk_prop r rows cols T v p q i n).2.2.2,if_pos (by omega)]
  have d:(AJ cols q ((n+1:Nat):Int)).toNat=(AJ cols q n).toNat+(HW cols q n).toNat:=by rw[Int.natCast_add,Int.natCast_one]; omega
  rw[d,yY];congr 1;have J:=gO W U (j:=n) (by omega);rw[Z] at J;refine AbW (λj hj=>?_) (λj hj=>?_)
  . refine AdN λa=>?_;have e1:(Tb rows cols T p q i n)=UX (AJ rows p i) (AJ rows p ((i:Int)+1)) (AJ cols q n) (AJ cols q ((n:Int)+1)) T:=rfl;rw[e1,tD hc (by omega),tD h (by omega),AdA];simp only;rw[show x - AJ rows p i+AJ rows p i=x by omega,Int.toNat_of_nonneg D.1];exact⟨λK=>K.1,λK=>⟨K,by omega,by omega⟩⟩
  . rw[J.2.2.1 j (by omega) (by omega),Int.toNat_of_nonneg D.1]
theorem tF (u:Vec) (a b:Int):(QB u a b).Items.length<=u.Items.length:=by
 unfold QB;by_cases h:(if u.N<b then u.N else b)<=(if 0 > a then 0 else a)
 . rw[if_pos h]; simp[zV]
 . rw[if_neg h]; simp only[List.length_map]; exact List.length_filter_le _ _
theorem jS (v:Vec) (k i:Int):(FG v k i).Items.length<=v.Items.length:=by
 unfold FG; split
 . exact tF _ _ _
 . simp[zV]
theorem AfD (v:Vec) (n r c i j:Int):(QP v n r c i j).Items.length<=v.Items.length:=by
 unfold QP; split
 . exact tF _ _ _
 . simp[zV]
def LB (v:Vec) (x y:Int):Vec:=⟨y - x,(v.Items.filter λt=>decide (x<=t.At∧t.At<y)).map λt=>⟨t.At - x,t.Val⟩⟩
theorem AkA {v:Vec} (J:VecP v) {a x y:Int} (h1:a<=x) (h2:x<=y):(LB v a y).Items=(LB v a x).Items++((LB v x y).Items.map (shI (x - a))):=by
 unfold LB;simp only
 have key:∀ l:List AM,IncI l->l.filter (λt=>decide (a<=t.At∧t.At<y))=l.filter (λt=>decide (a<=t.At∧t.At<x))++l.filter (λt=>decide (x<=t.At∧t.At<y)):=by
  intro l
  induction l with
  | nil=>intro _; rfl
  | cons t l d=>
   intro hi;have h:=List.pairwise_cons.1 hi;have d:=d h.2;by_cases c1:a<=t.At∧t.At<x
   . rw[List.filter_cons_of_pos (by simp; omega),List.filter_cons_of_pos (by simp; omega),List.filter_cons_of_neg (by simp; omega),d]; rfl
   . by_cases c2:x<=t.At∧t.At<y
     . have K:l.filter (λt=>decide (a<=t.At∧t.At<x))=[]:=List.filter_eq_nil_iff.2 λu D=>by have:=h.1 u D; simp only[decide_eq_true_eq]; omega
       rw[List.filter_cons_of_pos (by simp; omega),List.filter_cons_of_neg (by simp; omega),List.filter_cons_of_pos (by simp; omega),d,K]; rfl
     . rw[List.filter_cons_of_neg (by simp; omega),List.filter_cons_of_neg (by simp; omega),List.filter_cons_of_neg (by simp; omega),d]
 rw[key _ J.inc,List.map_append,List.map_map];congr 1;refine List.map_congr_left λt _=>?_;unfold shI;simp only[Function.comp_apply,AM.mk.injEq];exact⟨by omega,trivial⟩
theorem zG {v:Vec} (D:VecP v) {u:Nat->Vec} {cl:Nat->Int} (d:∀ i,0<=cl i∧cl i<=v.N) (h:∀ i,cl i<=cl (i+1)):∀ (n i:Nat),(∀ k,k<i+n->FF (u k)=LB v (cl k) (cl (k+1))) ->
  gM ((List.range' i n).map u) (LB v (cl 0) (cl i))=(LB v (cl 0) (cl (i+n)),0)
 | 0,i,_=>rfl
 | n+1,i,hu=>by
  have h1:=hu i (by omega)
  have V:cl 0<=cl i:=by
   clear hu h1
   induction i with
   | zero=>exact Int.le_refl _
   | succ i U=>exact Int.le_trans U (h i)
  have hi:=h i;have b0:=d 0; have b1:=d (i+1);have:=D.n1;rw[List.range'_succ,List.map_cons,gM,h1];have K:(LB v (cl 0) (cl i)).N=cl i - cl 0:=rfl;have J:(LB v (cl i) (cl (i+1))).N=cl (i+1) - cl i:=rfl;rw[if_neg (by rw[K,J]; omega)]
  have O:(⟨(LB v (cl 0) (cl i)).N+(LB v (cl i) (cl (i+1))).N,(LB v (cl 0) (cl i)).Items++(LB v (cl i) (cl (i+1))).Items.map (shI (LB v (cl 0) (cl i)).N)⟩:Vec)=LB v (cl 0) (cl (i+1)):=by rw[K,J,<-AkA D V hi];unfold LB;rw[show cl i - cl 0+(cl (i+1) - cl i)=cl (i+1) - cl 0 by omega]
  rw[O,zG D d h n (i+1) (λk hk=>hu k (by omega)),show i+1+n=i+(n+1) by omega]
theorem gP (v:Vec) (x:Int):LB v x x=zV:=by unfold LB zV;rw[List.filter_eq_nil_iff.2 (λt _=>by simp only[decide_eq_true_eq]; omega),Int.sub_self]; rfl
theorem zH {v:Vec} (J:VecP v) {a b:Int} (h:0<=a) (D:a<=b) (d:b<=v.N):QB v a b=LB v a b:=vN J h D d
theorem AdP {v:Vec} (J:VecP v) {a b:Int} (h:0<=a) (D:a<=b) (d:b<=v.N):VecP (LB v a b):=by rw[<-zH J h D d]; exact(sZ J h D d).1
theorem jT {v:Vec} (d:VecP v) {k i:Int} (hk:I8 k) (hi:0<=i∧i<k):FG v k i=LB v (AJ v.N k i) (AJ v.N k (i+1)):=by have J:=T0 (n:=v.N) (k:=k) (i:=i); have D:=T0 (n:=v.N) (k:=k) (i:=i+1); have h:=HR (n:=v.N) (k:=k) (show i<=i+1 by omega);unfold FG;rw[if_pos ⟨hk,hi⟩,zH d J.1 h (D.2 d.n0)]
theorem AfE {v:Vec} (J:VecP v) {lo hi a b:Int} (h:0<=lo) (h1:lo<=a) (h2:a<=b) (h3:b<=hi) (d:hi<=v.N):QB (LB v lo hi) (a - lo) (b - lo)=LB v a b:=by
 have D:(LB v lo hi).N=hi - lo:=rfl;rw[vN (AdP J h (by omega) d) (by omega) (by omega) (by rw[D]; omega)];unfold LB;simp only;rw[List.filter_map,List.map_map,List.filter_filter,show b - lo - (a - lo)=b - a by omega];congr 1
 have e:v.Items.filter (λt=>((λx:AM=>decide (a - lo<=x.At∧x.At<b - lo))∘λt:AM=>(⟨t.At - lo,t.Val⟩:AM)) t && decide (lo<=t.At∧t.At<hi))=v.Items.filter λt=>decide (a<=t.At∧t.At<b):=by refine List.filter_congr λt _=>?_;rw[Bool.eq_iff_iff];simp only[Function.comp_apply,Bool.and_eq_true,decide_eq_true_eq];omega
 rw[e];refine List.map_congr_left λt _=>?_;simp only[Function.comp_apply,AM.mk.injEq];exact⟨by omega,trivial⟩
def WJ (c d x:Int):Int:=if x<c then c else if d<x then d else x
theorem mV {c d x y:Int} (h:c<=d) (hx:x<=y):WJ c d x<=WJ c d y:=by unfold WJ; repeat' split <;> omega
theorem jU {v:Vec} (J:VecP v) {p q i j:Int} (V:W4 p q i j):QP (FG v p i) v.N p q i j=LB v (WJ (AJ v.N q j) (AJ v.N q (j+1)) (AJ v.N p i)) (WJ (AJ v.N q j) (AJ v.N q (j+1)) (AJ v.N p (i+1))) ∧
  dH v.N p q i j - W5 v.N p q i j=WJ (AJ v.N q j) (AJ v.N q (j+1)) (AJ v.N p (i+1)) - WJ (AJ v.N q j) (AJ v.N q (j+1)) (AJ v.N p i):=by
 have U:=gO J V.1.1 V.2.1;have hn:=J.n0; have hn1:=J.n1;unfold QP;rw[if_pos ⟨⟨hn,hn1⟩,V,U.1,U.2.1⟩,jT J V.1.1 V.2.1];unfold dH W5 mx mn;have a0:=T0 (n:=v.N) (k:=p) (i:=i); have a1:=T0 (n:=v.N) (k:=p) (i:=i+1); have a2:=HR (n:=v.N) (k:=p) (show i<=i+1 by omega);have b0:=T0 (n:=v.N) (k:=q) (i:=j); have b1:=T0 (n:=v.N) (k:=q) (i:=j+1); have b2:=HR (n:=v.N) (k:=q) (show j<=j+1 by omega);have a1':=a1.2 hn; have b1':=b1.2 hn; have a0':=a0.1; have b0':=b0.1;generalize AJ v.N p i=lo at *;generalize AJ v.N p (i+1)=hi at *;generalize AJ v.N q j=c at *;generalize AJ v.N q (j+1)=d at *
 have key:∀ A B:Int,A=(if c > lo then c else lo)->B=(if (if d<hi then d else hi) > A then (if d<hi then d else hi) else A)->QB (LB v lo hi) (A - lo) (B - lo)=LB v (WJ c d lo) (WJ c d hi)∧B - A=WJ c d hi - WJ c d lo:=by
  intro A B h D;by_cases h1:A<=hi
  . have hAl:lo<=A:=by rw[h]; split <;> omega
    have Z:A<=B:=by rw[D]; split <;> omega
    have W:B<=hi:=by rw[D]; repeat' split <;> omega
    rw[AfE J a0' hAl Z W a1'];by_cases h2:A<=d
    . have K:WJ c d lo=A:=by unfold WJ; rw[h]; rw[h] at h2; repeat' split <;> omega
      have O:WJ c d hi=B:=by
       unfold WJ;rw[D];have hcA:c<=A:=by rw[h]; split <;> omega
       repeat' split <;> omega
      rw[K,O]; exact⟨rfl,rfl⟩
    . have e0:A=lo:=by rw[h]; rw[h] at h2; split <;> (split at h2 <;> omega)
      have e3:B=A:=by rw[D]; repeat' split <;> omega
      have K:WJ c d lo=d:=by unfold WJ; repeat' split <;> omega
      have O:WJ c d hi=d:=by unfold WJ; repeat' split <;> omega
      rw[K,O,e3,gP,gP]; exact⟨rfl,by omega⟩
  . have e0:A=c:=by rw[h]; rw[h] at h1; split <;> (split at h1 <;> omega)
    have e3:B=A:=by rw[D]; repeat' split <;> omega
    have K:WJ c d lo=c:=by unfold WJ; repeat' split <;> omega
    have O:WJ c d hi=c:=by unfold WJ; repeat' split <;> omega
    have hz:QB (LB v lo hi) (A - lo) (B - lo)=zV:=by have hN:(LB v lo hi).N=hi - lo:=rfl;unfold QB;rw[hN,if_pos (by repeat' split <;> omega)]
    rw[hz,K,O,e3,gP]; exact⟨rfl,by omega⟩
 exact key _ _ rfl rfl
end Go.Proofs.YtkbkaodgfedfmaaGreat
