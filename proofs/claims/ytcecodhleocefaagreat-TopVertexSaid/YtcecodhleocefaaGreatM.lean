import Derived.Test.YtcecodhleocefaaGreatL
set_option linter.unusedVariables false
set_option linter.unusedSimpArgs false
namespace Go.Proofs.YtcecodhleocefaaGreat
open Go Go.Fw
def shI (n:Int) (x:B3):B3:=⟨n+x.At,x.Val⟩
def nR:List Vec->Vec->Vec×Int
 | [],o=>(o,0)
 | v :: l,o=>if 4096<o.N+(G4 v).N then (zV,5) else nR l ⟨o.N+(G4 v).N,o.Items++(G4 v).Items.map (shI o.N)⟩
theorem AcY {f:Int} {v:Vec} {Q:Vec->Prop} (O:v.Items.length<=1000000000) (V:0<=f∧f<=4096) (U:Q ⟨(G4 v).N,(G4 v).Items.map (shI f)⟩):P6 f v Q:=by
 unfold P6 QH;have D:=SE v;refine NF O ?_;generalize G4 v=u at D U;have O:=D.len; have:=D.n1;refine AaX (by omega) (AfR (g:=shI f) (by omega) (λi s next J _ d Z=>?_) (λnext s W=>?_))
 . have hx:=D.ins _ (PW J);refine A2 (λ_=>B8 (by omega) ?_) (λh=>by omega);rw[d,AK (x:=f+(u.Items[i]).At) (by omega) (by omega)];exact B8 (by omega) Z
 . subst W;exact A2 (λh=>by omega) (λ_=>U)
theorem zC {l:List Vec} {Q:Vec×Int->Prop} (Z:l.length<=1000) (U:∀ v∈l,v.Items.length<=1000000000) (J:Q (nR l zV)):ZA l Q:=by
 unfold ZA;refine AL (s0:=zV) (λ(s:Vec) i=>(s.N,s.Items,i)) 0 l.length (by omega) (λi s=>nR (l.drop i) s=nR l zV∧(0<=s.N∧s.N<=4096)∧s.Items.length<=i*4096) (by omega) ⟨rfl,by decide,by decide⟩ (λi s next _ hi O V=>?_) (λs next O=>?_)
 . have⟨d,W,_⟩:=O;rw[Ao7 hi,nR] at d;have D:=SE l[i];refine A2 (λ_=>B8 hi (AcY (U _ (PW hi)) W ?_)) (λh=>by omega);generalize G4 l[i]=u at D d;have:=D.n0; have:=D.n1; have:=D.len;rw[AK (x:=4096 - s.N) (by omega) (by omega)];refine A2 (λh=>?_) (λh=>AO (by rw[gK]; omega) ?_)
   . rw[if_pos (by simp only at h; omega)] at d;rw[<-d] at J; exact J
   . rw[if_neg (by simp only at h; omega)] at d;refine V ⟨AJ (s.N+u.N),s.Items++u.Items.map (shI s.N)⟩ ⟨?_,?_,?_⟩
     . rw[AK (by omega) (by omega)]; exact d
     . simp only at h; rw[AK (by omega) (by omega)]; simp only; omega
     all_goals grind
 . have⟨d,_,_⟩:=O;refine A2 (λh=>by omega) (λ_=>?_);rw[List.drop_length,nR] at d;rw[<-d] at J; exact J
noncomputable def AiR (d:Nat->Int) (l:List Vec):Vec×Int:=if ∀ (i:Nat) (h:i<l.length),VecP l[i]∧l[i].N=d i then nR l zV else (zV,4)
noncomputable def Au6 (n r c j:Int) (l:List Vec):Vec×Int:=if ¬((0<=n∧n<=4096)∧YJ r c 0 j) then (zV,3) else if (l.length:Int)≠r then (zV,4) else AiR (λi=>kA n r c i j - YK n r c i j) l
theorem AqV {n r c i j:Int} {Q:Int->Prop} (d:0<=i∧i<r) (h:0<=j∧j<c) (D:Q (kA n r c i j - YK n r c i j)):NS n r c j i Q:=by unfold NS P9;refine HR d.1 d.2 (HR h.1 h.2 ?_);have U:=AqL n r c i j;have O:(if (AZ n c j) > (AZ n r i) then AZ n c j else AZ n r i)=YK n r c i j:=rfl;have J:(if (if (AZ n c (j+1))<(AZ n r (i+1)) then AZ n c (j+1) else AZ n r (i+1)) > YK n r c i j then (if (AZ n c (j+1))<(AZ n r (i+1)) then AZ n c (j+1) else AZ n r (i+1)) else YK n r c i j)=kA n r c i j:=rfl;simp only;rw[O,J,AK (by omega) (by omega)];exact D
theorem AcZ {n r c j:Int} {l:List Vec} {Q:Vec×Int->Prop} (hl:l.length<=1000) (Z:∀ v∈l,v.Items.length<=1000000000) (d:Q (Au6 n r c j l)):fS n r c j l Q:=by
 unfold fS SU;unfold Au6 at d;refine bD (BW (λh=>?_) (λO=>XF (BW (λh=>?_) (λU=>BO (λh=>?_) (λh3=>?_)))))
 . rwa [if_pos (λD=>of_decide_eq_false h D.1)] at d
 . rwa [if_pos (λD=>of_decide_eq_false h D.2)] at d
 . rwa [if_neg (λD=>D ⟨of_decide_eq_true O,of_decide_eq_true U⟩),if_pos h] at d
 have hg:=of_decide_eq_true U;rw[if_neg (λD=>D ⟨of_decide_eq_true O,hg⟩),if_neg (λh=>h h3)] at d;unfold AiR at d;refine CR l.length (by omega) (λi=>∀ (q:Nat) (V:q<l.length),q<i->VecP l[q]∧l[q].N=kA n r c q j - YK n r c q j) (λq V h=>by omega) (λi next hi W hn=>?_) (λnext W=>?_)
 . refine A2 (λ_=>B8 hi (F8 (Z _ (PW hi)) (BW (λh=>?_) (λh=>AqV (by omega) hg.2.2 (BO (λD=>?_) (λD=>hn λq V _=>?_)))))) (λh=>by omega)
   . rw[if_neg (λJ=>of_decide_eq_false h (J i hi).1)] at d; exact d
   . rw[if_neg (λJ=>D (J i hi).2)] at d; exact d
   all_goals grind
 . rw[if_pos (λi hi=>W i hi hi)] at d;exact A2 (λh=>by omega) (λ_=>zC hl Z d)
theorem nS {k:Int} {Q:Bool->Prop} (d:Q (decide (JK k))):QC k Q:=by unfold QC;refine A2 (λa=>toQ d ?_) (λa=>toQ d ?_) <;> (unfold JK; simp; omega)
theorem dP {c k:Nat} {Q:Int->Prop} (D:JK c) (hk:k<8*c) (O:Q ((k / c:Nat):Int)):Y2 c k Q:=by
 unfold Y2;refine nS ?_;rw[decide_eq_true D];have d:=D;unfold JK at d;refine AH rfl (A2 (λh=>by omega) (λ_=>?_));rw[AK (x:=(c:Int)*8) (by omega) (by omega)];refine A2 (λh=>by omega) (λ_=>⟨by omega,?_⟩);rw[AsZ (by omega),<-Int.natCast_ediv];have J:k / c<=k:=Nat.div_le_self _ _;generalize k / c=q at J O ⊢
 rwa [AK (by omega) (by omega)]
theorem WP {c k:Nat} {Q:Int->Prop} (D:JK c) (hk:k<8*c) (J:Q ((k % c:Nat):Int)):UC c k Q:=by unfold UC;have d:=D;unfold JK at d;refine dP D hk (A2 (λh=>absurd h (Int.not_lt.2 (AoQ _))) (λ_=>⟨by omega,?_⟩));grind
def shS (a:Int) (s:BK):BK:=⟨s.At+a,s.Val⟩
def Tb (rows cols:Int) (T:List A5) (p q i j:Int):List A5:=XB (AZ rows p i) (AZ rows p (i+1)) (AZ cols q j) (AZ cols q (j+1)) T
def AwM (r rows cols:Int) (T:List A5) (v:Vec) (p q i j:Int):List BK:=M7 r (KA rows p i).toNat (KA cols q j).toNat [] true (λa=>FM (NG (Tb rows cols T p q i j) a)) (FM (G5 v q j).Items)
def AfV (r rows cols:Int) (T:List A5) (v:Vec) (p q i j:Int):List BK:=(AwM r rows cols T v p q i j).map (shS (AZ rows p i))
def AqW (r rows cols:Int) (T:List A5) (v:Vec) (p q:Int) (i:Nat) (n:Nat):List (List BK):=(List.range n).map λj:Nat=>AfV r rows cols T v p q i j
theorem nT {v:Vec} (d:VecP v) {q j:Int} (U:JK q) (O:0<=j∧j<q):VecP (G5 v q j)∧(G5 v q j).N=KA v.N q j∧(∀ k,0<=k->k<KA v.N q j->FM (G5 v q j).Items k=FM v.Items (k+AZ v.N q j))∧((∀ x∈v.Items,EA x.Val)->∀ x∈(G5 v q j).Items,EA x.Val):=by have h:=UV (n:=v.N) (k:=q) (i:=j); have D:=UV (n:=v.N) (k:=q) (i:=j+1);have J:=J0 (n:=v.N) (k:=q) (show j<=j+1 by omega);have:=AaV d h.1 J (D.2 d.n0);unfold G5 KA;grind
theorem Au7 {rows cols:Int} {T:List A5} {p q i j:Int} (h:∀ t∈T,EA t.Val):∀ t∈Tb rows cols T p q i j,EA t.Val:=λt d=>by have:=h _ ((AkO t).1 d).1;exact this
theorem Au8 {a:Int} {l:List BK} (h:Rise l):Rise (l.map (shS a)):=by unfold Rise at *;grind[shS]
theorem AqX {a:Int}:∀ (l:List BK) (i:Int),lk (l.map (shS a)) i=lk l (i - a)
 | [],_=>rfl
 | s :: l,i=>by
  rw[OU,EB,EB,AqX l i];unfold shS;simp only;by_cases e:i=s.At+a
  . rw[if_pos e,if_pos (by omega)]
  . rw[if_neg e,if_neg (by omega)]
theorem AqY {x:Int}:G7 [] x=false:=by
 by_cases hx:x<0
 . exact YF hx
 . exact TY (by simp; omega)
theorem blk_prop (r rows cols:Int) (T:List A5) (v:Vec) (p q i j:Int):Rise (AfV r rows cols T v p q i j)∧(AfV r rows cols T v p q i j).length<=(KA rows p i).toNat∧yJ (AfV r rows cols T v p q i j) ∧
   ∀ x:Int,lk (AfV r rows cols T v p q i j) x=if 0<=x - AZ rows p i∧x - AZ rows p i<((KA rows p i).toNat:Nat) then PL r (KA cols q j).toNat (FM (NG (Tb rows cols T p q i j) (x - AZ rows p i))) (FM (G5 v q j).Items) else none:=by
 have h:=US r (KA cols q j).toNat [] true (λa=>FM (NG (Tb rows cols T p q i j) a)) (FM (G5 v q j).Items) (KA rows p i).toNat;unfold AfV AwM;refine⟨Au8 h.1,by rw[gK]; exact h.2.1,λ_ D=>?_,λx=>?_⟩
 . obtain⟨u,d,rfl⟩:=List.mem_map.1 D;exact h.2.2.1 u d
 . rw[AqX,h.2.2.2.2];have J:GK [] true (x - AZ rows p i)=true:=by unfold GK; rw[AqY]; rfl
   grind
theorem Ab5 {rows cols:Int} {T:List A5} (h:Canon rows cols T) {i j a:Int} (hi:0<=i):FM (NG T i) j=some a↔(⟨i,j,a⟩:A5)∈T:=by
 have D:IncI ((PX T i.toNat).map sY):=by unfold IncI PX;rw[X3];refine AhC ?_ (X2 _ h.srt);intro a b W Z d;have U:=of_decide_eq_true (List.mem_filter.1 W).2;have O:=of_decide_eq_true (List.mem_filter.1 Z).2;unfold KY key at d;simp only[sY];simp only at d;omega
 unfold NG;rw[nH D,gL];unfold PX;constructor
 . rintro⟨t,J,V⟩;have⟨U,O⟩:=List.mem_filter.1 J;have h3:=of_decide_eq_true O;unfold sY at V;have⟨_,_,_⟩:=t;grind
 . intro J;exact⟨_,List.mem_filter.2 ⟨J,by simp; omega⟩,rfl⟩
theorem Ab6 {r rows cols:Int} {T:List A5} {v:Vec} {p q:Nat} (h:Canon rows cols T) (V:VecP v) (W:v.N=cols) (hp:JK p) (O:JK q) {i:Nat} (hi:i<p) {x:Int} (h0:AZ rows p i<=x) (Z:x<AZ rows p ((i:Int)+1)) :
  ∀ n:Nat,n<=q->(AqW r rows cols T v p q i n).foldl (λJ l=>jX r J (lk l x)) none=PL r (AZ cols q n).toNat (FM (NG T x)) (FM v.Items)
 | 0,_=>by rw[Int.natCast_zero,AfP]; rfl
 | n+1,hnq=>by
  have ih:=Ab6 (r:=r) h V W hp O hi h0 Z n (by omega);have a4:=RE rows p i;have e:AqW r rows cols T v p q i (n+1)=AqW r rows cols T v p q i n++[AfV r rows cols T v p q i n]:=by unfold AqW; rw[bM,iE]; rfl
  rw[e,Ae9,ih,cF,AoZ];have hg:YJ (p:Int) (q:Int) (i:Int) (n:Int):=⟨⟨hp,O⟩,by omega,by omega⟩;have⟨_,hc⟩:=jZ h hg;have a7:KA rows p i=AZ rows p ((i:Int)+1) - AZ rows p i:=by unfold KA; rw[if_pos (by omega)]
  have a6:KA cols q n=AZ cols q ((n:Int)+1) - AZ cols q n:=by unfold KA; rw[if_pos (by omega)]
  have a5:=RE cols q n; have a2:=J0 (n:=cols) (k:=q) (show(n:Int)<=(n:Int)+1 by omega);rw[(blk_prop r rows cols T v p q i n).2.2.2,if_pos (by omega)]
  have d:(AZ cols q ((n+1:Nat):Int)).toNat=(AZ cols q n).toNat+(KA cols q n).toNat:=by grind
  rw[d,AfO];congr 1;have D:=nT V O (j:=n) (by omega);rw[W] at D;refine AiK (λj hj=>?_) (λj hj=>?_)
  . refine AcO λ_=>?_;have U:(Tb rows cols T p q i n)=XB (AZ rows p i) (AZ rows p ((i:Int)+1)) (AZ cols q n) (AZ cols q ((n:Int)+1)) T:=rfl;rw[U,Ab5 hc (by omega),Ab5 h (by omega),AkO];grind
  all_goals grind
theorem Ab7 (u:Vec) (a b:Int):(SF u a b).Items.length<=u.Items.length:=by
 unfold SF;by_cases h:(if u.N<b then u.N else b)<=(if 0 > a then 0 else a)
 . rw[if_pos h]; simp[zV]
 all_goals grind
theorem qL (v:Vec) (k i:Int):(G5 v k i).Items.length<=v.Items.length:=by
 unfold G5; split
 . exact Ab7 _ _ _
 . simp[zV]
theorem AmW (v:Vec) (n r c i j:Int):(SV v n r c i j).Items.length<=v.Items.length:=by
 unfold SV; split
 . exact Ab7 _ _ _
 . simp[zV]
def N7 (v:Vec) (x y:Int):Vec:=⟨y - x,(v.Items.filter λt=>decide (x<=t.At∧t.At<y)).map λt=>⟨t.At - x,t.Val⟩⟩
theorem Au9 {v:Vec} (D:VecP v) {a x y:Int} (J:a<=x) (O:x<=y):(N7 v a y).Items=(N7 v a x).Items++((N7 v x y).Items.map (shI (x - a))):=by
 unfold N7;simp only
 have key:∀ l:List B3,IncI l->l.filter (λt=>decide (a<=t.At∧t.At<y))=l.filter (λt=>decide (a<=t.At∧t.At<x))++l.filter (λt=>decide (x<=t.At∧t.At<y)):=by
  intro l
  induction l with
  | nil=>intro _; rfl
  | cons t l h=>
   intro hi;have d:=List.pairwise_cons.1 hi;have h:=h d.2;by_cases c1:a<=t.At∧t.At<x
   . grind
   . by_cases c2:x<=t.At∧t.At<y
     . have U:l.filter (λt=>decide (a<=t.At∧t.At<x))=[]:=List.filter_eq_nil_iff.2 λ_ _=>by grind
       grind
     all_goals grind
 rw[key _ D.inc,iE,AeC];congr 1;refine yM λt _=>?_;unfold shI;grind
theorem AfW {v:Vec} (h:VecP v) {u:Nat->Vec} {cl:Nat->Int} (d:∀ i,0<=cl i∧cl i<=v.N) (D:∀ i,cl i<=cl (i+1)):∀ (n i:Nat),(∀ k,k<i+n->G4 (u k)=N7 v (cl k) (cl (k+1))) ->
  nR ((List.range' i n).map u) (N7 v (cl 0) (cl i))=(N7 v (cl 0) (cl (i+n)),0)
 | 0,i,_=>rfl
 | n+1,i,hu=>by
  have h1:=hu i (by omega)
  have Z:cl 0<=cl i:=by
   clear hu h1
   induction i with
   | zero=>exact Int.le_refl _
   | succ i ih=>grind
  have hi:=D i;have V:=d 0; have W:=d (i+1);have:=h.n1;rw[List.range'_succ,OU,nR,h1];have O:(N7 v (cl 0) (cl i)).N=cl i - cl 0:=rfl;have U:(N7 v (cl i) (cl (i+1))).N=cl (i+1) - cl i:=rfl;rw[if_neg (by rw[O,U]; omega)]
  have J:(⟨(N7 v (cl 0) (cl i)).N+(N7 v (cl i) (cl (i+1))).N,(N7 v (cl 0) (cl i)).Items++(N7 v (cl i) (cl (i+1))).Items.map (shI (N7 v (cl 0) (cl i)).N)⟩:Vec)=N7 v (cl 0) (cl (i+1)):=by grind[Au9,N7]
  rw[J,AfW h d D n (i+1) (λk _=>hu k (by omega)),show i+1+n=i+(n+1) by omega]
theorem nU (v:Vec) (x:Int):N7 v x x=zV:=by unfold N7 zV;simp_all
theorem AfX {v:Vec} (d:VecP v) {a b:Int} (J:0<=a) (h:a<=b) (D:b<=v.N):SF v a b=N7 v a b:=AcP d J h D
theorem AlB {v:Vec} (d:VecP v) {a b:Int} (J:0<=a) (h:a<=b) (D:b<=v.N):VecP (N7 v a b):=by rw[<-AfX d J h D]; exact(AaV d J h D).1
theorem qM {v:Vec} (d:VecP v) {k i:Int} (hk:JK k) (hi:0<=i∧i<k):G5 v k i=N7 v (AZ v.N k i) (AZ v.N k (i+1)):=by have h:=UV (n:=v.N) (k:=k) (i:=i); have D:=UV (n:=v.N) (k:=k) (i:=i+1); have J:=J0 (n:=v.N) (k:=k) (show i<=i+1 by omega);unfold G5;rw[if_pos ⟨hk,hi⟩,AfX d h.1 J (D.2 d.n0)]
theorem AmX {v:Vec} (d:VecP v) {lo hi a b:Int} (J:0<=lo) (O:lo<=a) (U:a<=b) (V:b<=hi) (h:hi<=v.N):SF (N7 v lo hi) (a - lo) (b - lo)=N7 v a b:=by
 have D:(N7 v lo hi).N=hi - lo:=rfl;rw[AcP (AlB d J (by omega) h) (by omega) (by omega) (by rw[D]; omega)];unfold N7;simp only;rw[AoX,AeC,List.filter_filter,show b - lo - (a - lo)=b - a by omega];congr 1
 have e:v.Items.filter (λt=>((λx:B3=>decide (a - lo<=x.At∧x.At<b - lo))∘λt:B3=>(⟨t.At - lo,t.Val⟩:B3)) t && decide (lo<=t.At∧t.At<hi))=v.Items.filter λt=>decide (a<=t.At∧t.At<b):=by grind
 rw[e];refine yM λt _=>?_;grind
def bP (c d x:Int):Int:=if x<c then c else if d<x then d else x
theorem uE {c d x y:Int} (h:c<=d) (D:x<=y):bP c d x<=bP c d y:=by grind[bP]
theorem qN {v:Vec} (h:VecP v) {p q i j:Int} (J:YJ p q i j):SV (G5 v p i) v.N p q i j=N7 v (bP (AZ v.N q j) (AZ v.N q (j+1)) (AZ v.N p i)) (bP (AZ v.N q j) (AZ v.N q (j+1)) (AZ v.N p (i+1))) ∧
  kA v.N p q i j - YK v.N p q i j=bP (AZ v.N q j) (AZ v.N q (j+1)) (AZ v.N p (i+1)) - bP (AZ v.N q j) (AZ v.N q (j+1)) (AZ v.N p i):=by
 have D:=nT h J.1.1 J.2.1;have V:=h.n0; have a8:=h.n1;unfold SV;rw[if_pos ⟨⟨V,a8⟩,J,D.1,D.2.1⟩,qM h J.1.1 J.2.1];unfold kA YK mx mn;have a0:=UV (n:=v.N) (k:=p) (i:=i); have a1:=UV (n:=v.N) (k:=p) (i:=i+1); have a2:=J0 (n:=v.N) (k:=p) (show i<=i+1 by omega);have b0:=UV (n:=v.N) (k:=q) (i:=j); have b1:=UV (n:=v.N) (k:=q) (i:=j+1); have b2:=J0 (n:=v.N) (k:=q) (show j<=j+1 by omega);have O:=a1.2 V; have c0:=b1.2 V; have a5:=a0.1; have a9:=b0.1;generalize AZ v.N p i=lo at *;generalize AZ v.N p (i+1)=hi at *;generalize AZ v.N q j=c at *;generalize AZ v.N q (j+1)=d at *
 have key:∀ A B:Int,A=(if c > lo then c else lo)->B=(if (if d<hi then d else hi) > A then (if d<hi then d else hi) else A)->SF (N7 v lo hi) (A - lo) (B - lo)=N7 v (bP c d lo) (bP c d hi)∧B - A=bP c d hi - bP c d lo:=by
  intro A B hA hB;by_cases h1:A<=hi
  . have a6:lo<=A:=by rw[hA]; split <;> omega
    have a4:A<=B:=by rw[hB]; split <;> omega
    have a7:B<=hi:=by omega
    rw[AmX h a5 a6 a4 a7 O];by_cases h2:A<=d
    . grind[bP]
    . have e0:A=lo:=by omega
      have U:B=A:=by omega
      have W:bP c d lo=d:=by grind[bP]
      have Z:bP c d hi=d:=by grind[bP]
      rw[W,Z,U,nU,nU]; exact⟨rfl,by omega⟩
  . have e0:A=c:=by omega
    have U:B=A:=by omega
    have W:bP c d lo=c:=by grind[bP]
    have Z:bP c d hi=c:=by grind[bP]
    have hz:SF (N7 v lo hi) (A - lo) (B - lo)=zV:=by have hN:(N7 v lo hi).N=hi - lo:=rfl;unfold SF;grind
    rw[hz,W,Z,U,nU]; exact⟨rfl,by omega⟩
 exact key _ _ rfl rfl
theorem Ab8 {v:Vec} (h:VecP v) {k:Nat} {n:Int} (O:∀ j (d:j<v.Items.length),j<k->v.Items[j].At<n) (U:∀ j (d:j<v.Items.length),k<=j->n<=v.Items[j].At) :
   nG (PK v).Has n=if hk:k<v.Items.length then v.Items[k].At else -1:=by
 split
 . rename_i hk;refine wG ?_ (U k hk (Z0 _)) λq V _=>?_
   . rw[nA h,RR h.inc (PW hk)]; rfl
   . rw[nA h,PI]
     . rfl
     . intro s D e;obtain⟨j,d,rfl⟩:=List.mem_iff_getElem.1 D;rcases Z1 j k with g | g
       . have:=O j d g; omega
       . rcases Z1 k j with J | J
         . have:=h.inc.at d J; omega
         all_goals grind
 . rename_i hk;refine wH λq V=>?_;rw[nA h,PI]
   . rfl
   . intro s D e;obtain⟨j,d,rfl⟩:=List.mem_iff_getElem.1 D;grind
theorem zD {v:Vec} {Q:Vec->Prop} (h:VecP v) (hQ:Q v):ZB (PK v) Q:=by
 unfold ZB jR X8 SS;have a7:=h.len; have h0:=h.n0; have h1:=h.n1;have W:(PK v).Has.length<=1000000:=by have:=AkX v; omega
 have a5:((PK v).Vals.length:Int)=v.N:=by simp[PK,YH]; omega
 refine dI h (AV rfl (XE (nB v) W ?_));rw[Ab8 h (k:=0) (λj D h=>by omega) (λj D _=>(h.ins _ (PW D)).1)];refine CQ (λs:Int×List B3×Int×Nat=>∃ k:Nat,k<=v.Items.length∧s.1=v.N∧s.2.1=v.Items.take k∧s.2.2.2=0∧s.2.2.1=if hk:k<v.Items.length then v.Items[k].At else -1) (λs=>v.Items.length - s.2.1.length) ⟨0,by omega,rfl,by simp,rfl,rfl⟩ ?_;rintro⟨_,s2,V,_⟩ next ⟨k,hk,Z,J,U,d⟩ hn;simp only at Z J U d ⊢;subst Z; subst U;have a4:s2.length=k:=by subst J; simp; omega
 by_cases hkl:k<v.Items.length
 . rw[dif_pos hkl] at d;have a6:=h.ins _ (PW hkl)
   have O:at0 (PK v).Vals V=v.Items[k].Val:=by have:at0 (PK v).Vals V=(FM v.Items V).getD 0:=qI (by omega) (by omega);rw[this,d,RR h.inc (PW hkl)]; rfl
   refine A2 (λ_=>BL (by omega) (by omega) ⟨rfl,AO (by simp; omega) ?_⟩) (λh'=>by omega);refine AH rfl (XE (nB v) W ?_);rw[AK (by omega) (by omega),Ab8 h (k:=k+1) (λj D a2=>?_) (λj D a2=>?_),O]
   . refine hn _ ⟨k+1,by omega,rfl,?_,rfl,rfl⟩ (by simp only[bL,Ae7,a4]; omega);simp only;rw[eX hkl,J,d]
   . rw[d];by_cases e:j=k
     . subst e; omega
     . have:=h.inc.at hkl (i:=j) (by omega); omega
   . rw[d];have:=h.inc.at D (i:=k) (by omega); omega
 . rw[dif_neg hkl] at d;refine A2 (λh'=>by omega) (λ_=>⟨rfl,?_⟩);rw[AoL (by omega)] at J;subst J;exact hQ
def AwN (w a b:Int):Int:=if w=1 then 1 else if w=2 then 2 else if AJ (b.tdiv 4)<a then 2 else 1
def kB (f a b:Int):Int:=if f=1 then 1 else if f=2 then 2 else if AJ (b.tdiv 8)<a then 2 else 1
theorem AwO {w a b:Int} {Q:Int->Prop} (d:Q (AwN w a b)):MN w a b Q:=by
 unfold MN; unfold AwN at d;refine AY (λh=>?_) (λh=>AY (λJ=>?_) (λJ=>A2 (λD=>?_) (λD=>?_)))
 all_goals grind
theorem AqZ {w a b:Int} {Q:Int->Prop} (d:Q (kB w a b)):TC w a b Q:=by
 unfold TC; unfold kB at d;refine AY (λh=>?_) (λh=>AY (λJ=>?_) (λJ=>A2 (λD=>?_) (λD=>?_)))
 all_goals grind
theorem Ar0 (f a b:Int):kB f a b=1∨kB f a b=2:=by grind[kB]
def Ab9 (s:Int) (u:Vec):jO:=if s=2 then ⟨2,zV,PK u⟩ else ⟨1,u,⟨0,[],[]⟩⟩
def AlC (f:Int) (v:Vec):jO:=Ab9 (kB f (G4 v).Items.length (G4 v).N) (G4 v)
theorem wQ {l:List B3} {Q:List B3->Prop} (h:l.length<=1000000) (d:Q l):AX l Q:=by unfold AX;refine JR (λe=>by subst e; exact d) (AO (by simp; omega) ?_);exact d
theorem AuA {f:Int} {v:Vec} {Q:jO->Prop} (O:v.Items.length<=1000000000) (d:Q (AlC f v)):WA f v Q:=by
 unfold WA;have D:=SE v;unfold AlC Ab9 at d;refine CA (λt=>(⟨t.1,t.2⟩:Vec)=G4 v) ?_ ?_
 . rintro⟨_,_⟩ ht;simp only at ht ⊢;rw[<-ht] at d D;have J:=D.len;simp only at J d;refine AqZ (AY (λh=>?_) (λh=>?_))
   . rw[if_pos h] at d;refine rX (by simp only; omega) ?_;rw[IY D]; exact d
   all_goals grind[Ar0,wQ]
 . intro k hk;refine F8 O (BW (λh=>hk _ ?_) (λh=>hk _ ?_))
   . rw[G4,if_neg (of_decide_eq_false h)]; rfl
   . rw[G4,if_pos (of_decide_eq_true h)]
theorem AiS {s:Int} {u:Vec} {Q:Vec->Prop} (d:VecP u) (h:Q u):QJ (Ab9 s u) Q:=by
 unfold QJ Ab9;have J:=d.len;split
 . exact AV rfl (zD d h)
 . refine AH rfl (CA (λb=>b=true) (λb D=>AV D (wQ (by simp only; omega) h)) λ_ hk=>AV rfl (F8 (by simp only; omega) (hk _ (decide_eq_true d))))
theorem Ar1 {s:Int} {u:Vec} {Q:Dense->Prop} (d:VecP u) (h:Q (PK u)):TH (Ab9 s u) Q:=by unfold TH;refine AiS d (rX (by have:=d.len; omega) ?_);rw[IY d]; exact h
def Ar2 (r w:Int) (s:List BK×Int) (d:Int):List BK×Int×Int:=if s.2≠0 then ([],0,s.2) else (s.1,d,0)
theorem Ar3 {t:H7} {rows cols:Int} {ts:List A5} {s:Int} {u:Vec} {Q:List BK×Int×Int->Prop} (J:Canon rows cols ts) (O:∀ x∈ts,EA x.Val) (hR:t.Rows=BR rows cols ts) (h:t.Cols=UP rows cols (OI cols ts)) (hX:t.X=Ab9 s u) (d:VecP u) (U:∀ x∈u.Items,EA x.Val) (W:rU t.Set)
   (Z:Q (Ar2 t.Ring t.Way (nE t.Ring rows cols ts u t.Set t.Others) (AwN t.Way (SZ (OI cols ts) (WO u)) ts.length))):WF t Q:=by
 have⟨_,_,_,_,_,_,_⟩:=t;simp only at hR h hX W Z;subst hR; subst h; subst hX;unfold WF LX LY;have D:=ZP J;have a5:=Ai6 J O;have V:u.Items.length<=1000000000:=by have:=d.len; omega
 simp only;refine AiS d (AcL D.smlC V (qD D) D (Ac8 J.sml (QZ J) (AwO ?_)));unfold Ar2 at Z;refine AY (λa4=>Ar1 d (AcN J O d U W ?_)) (λa4=>AiS d (AcJ D.smlC (qD D) D a5 V (by rw[IY d]; exact U) W ?_))
 . refine BO (λa2=>?_) (λhe=>?_)
   all_goals grind
 . rw[IY d,<-AmM D,AmC J];refine BO (λa2=>?_) (λhe=>?_)
   all_goals grind
def Ar4 (l:List Int):Prop:=∃ d∈l,d<0∨2147483647<d
instance (l:List Int):Decidable (Ar4 l):=by unfold Ar4; infer_instance
def CG (p:Plan):Int:=
 if p.Kind<1∨5<p.Kind then 8
 else if p.N<0∨4096<p.N∨((p.Kind=1∨p.Kind=2∨p.Kind=4)∧(p.Source<0∨p.N<=p.Source))∨(p.Kind=4∧(p.Length<0∨8192<p.Length)) then 3
 else if 65536<p.Draws.length then 5
 else if Ar4 p.Draws then 7 else 0
theorem BS {p:Plan} (h:CG p=0):(1<=p.Kind∧p.Kind<=5)∧(0<=p.N∧p.N<=4096)∧((p.Kind=1∨p.Kind=2∨p.Kind=4)->0<=p.Source∧p.Source<p.N)∧(p.Kind=4->0<=p.Length∧p.Length<=8192)∧p.Draws.length<=65536∧∀ d∈p.Draws,0<=d∧d<=2147483647:=by
 unfold CG at h;split at h
 . cases h
 split at h
 . cases h
 split at h
 . cases h
 split at h
 . cases h
 rename_i U V W D;refine⟨by omega,by omega,by omega,by omega,by omega,λd O=>?_⟩;have:¬(d<0∨2147483647<d):=λJ=>D ⟨d,O,J⟩;omega
theorem Ad0 {l:List Int} {Q:Bool->Prop} (hl:l.length<=65536) (W:Q (decide (Ar4 l))):BH l Q:=by
 unfold BH F6 Q5;refine CR l.length (by omega) (λi=>∀ (j:Nat) (D:j<l.length),j<i->¬(l[j]<0∨2147483647<l[j])) (by simp) (λi next hi U Z=>?_) (λnext U=>?_)
 . refine A2 (λ_=>?_) (λh=>by omega)
   have hbad (J:l[i]<0∨2147483647<l[i]):Q (decide (0<=(i:Int))):=by rwa [decide_eq_true (show Ar4 l from⟨_,PW hi,J⟩),<-decide_eq_true (show(0:Int)<=i by omega)] at W
   refine B8 hi (A2 (λO=>AV rfl (hbad (.inl O))) (λO=>A2 (λV=>hbad (.inr V)) (λV=>Z λj D _=>?_)));grind
 . refine A2 (λh=>by omega) (λ_=>?_)
   rwa [decide_eq_false (λ⟨_,d,J⟩=>by obtain⟨j,D,rfl⟩:=tM d;exact U j D D J),<-decide_eq_false (show ¬(0:Int) <= -1 by omega)] at W
theorem RS {p:Plan} {Q:Int->Prop} (D:Q (CG p)):NX p Q:=by
 unfold NX JH ES;unfold CG at D;refine A2 (λZ=>by rwa [if_pos (by omega)] at D) (λZ=>A2 (λh2=>by rwa [if_pos (by omega)] at D) (λh2=>?_));rw[if_neg (by omega)] at D;have hE (V:p.N<0∨4096<p.N∨((p.Kind=1∨p.Kind=2∨p.Kind=4)∧(p.Source<0∨p.N<=p.Source))∨(p.Kind=4∧(p.Length<0∨8192<p.Length))):Q 3:=by rwa [if_pos V] at D
 refine A2 (λh3=>BW (λU=>hE (by have:=of_decide_eq_false U; omega)) (λU=>?_)) (λh3=>AV rfl (hE (by omega)))
 replace U:=of_decide_eq_true U
 have hw:AJ (p.N - 1)=p.N - 1:=AK (by omega) (by omega)
 have hk (V:¬(p.N<0∨4096<p.N∨((p.Kind=1∨p.Kind=2∨p.Kind=4)∧(p.Source<0∨p.N<=p.Source))∨(p.Kind=4∧(p.Length<0∨8192<p.Length)))) :
   A7 (decide (65536<(p.Draws.length:Int))) (Q 5) (BH p.Draws λd=>A7 d (Q 7) (Q 0)):=by
  rw[if_neg V] at D;refine A2 (λh=>by rwa [if_pos (by omega)] at D) (λh=>?_);rw[if_neg (by omega)] at D;exact Ad0 (by omega) (A2 (λh=>by rwa [if_pos h] at D) (λh=>by rwa [if_neg h] at D))
 have hs (a2:p.Kind=1∨p.Kind=2∨p.Kind=4) (a4:p.Kind=4->0<=p.Length∧p.Length<=8192) :
   A7 (decide (0<=p.Source)) (A7 (!decide (p.Source<=AJ (p.N - 1))) (Q 3) (A7 (decide (65536<(p.Draws.length:Int))) (Q 5) (BH p.Draws λd=>A7 d (Q 7) (Q 0))))
    (A7 (!false) (Q 3) (A7 (decide (65536<(p.Draws.length:Int))) (Q 5) (BH p.Draws λd=>A7 d (Q 7) (Q 0)))):=by
  refine A2 (λW=>BW (λJ=>hE (by have:=of_decide_eq_false J; omega)) (λJ=>hk (by have:=of_decide_eq_true J; omega))) (λW=>AV rfl (hE (by omega)))
 refine AY (λW=>A2 (λJ=>BW (λO=>hE (by have:=of_decide_eq_false O; omega)) (λO=>hs (by omega) (λ_=>⟨J,of_decide_eq_true O⟩))) (λJ=>AV rfl (hE (by omega)))) (λW=>?_);exact AY (λJ=>hs (by omega) (by omega)) (λJ=>AY (λO=>hs (by omega) (by omega)) (λO=>hk (by omega)))
theorem Ad1 (a:Int):cC .i64 a 1=a % 2:=by
 have h:(BitVec.ofInt 64 a &&& BitVec.ofInt 64 1).toNat=(a % 2).toNat:=by rw[BitVec.toNat_and,BitVec.toNat_ofInt,BitVec.toNat_ofInt];grind
 unfold cC;rw[show IntKind.i64.bits=64 from rfl,h];have d:0<=a % 2:=by omega
 have D:a % 2<2:=by omega
 rw[show((a % 2).toNat:Int)=a % 2 by omega];exact AK (by omega) (by omega)
def BV (k:Int) (r:Int):Int:=if k=1∨k=3 then 4 else if k=2 then 1 else if k=4 then 5 else if k=5 then (if r % 2=0 then 2 else 4) else 0
theorem PO {k r:Int} {Q:Int->Prop} (d:Q (BV k r)):OD k r Q:=by
 unfold OD;rw[Ad1];unfold BV at d;refine AY (λh=>by subst h; exact d) (λ_=>AY (λh=>by subst h; exact d) (λ_=>AY (λh=>?_) (λ_=>AY (λh=>by subst h; exact d) (λ_=>AY (λh=>by subst h; exact d) (λ_=>?_)))))
 . subst h;refine AY (λh=>?_) (λh=>?_)
   all_goals grind
 all_goals grind
theorem AlD {x v:Int} (D:0<=x) (J:x<=2147483647) (O:0<=v) (U:v<4096):bor .i64 (shl .i64 x 12) v=x*4096+v:=by
 have d:shl .i64 x 12=x*4096:=by unfold shl;rw[show((2:Int) ^ (min (Int.toNat 12) IntKind.i64.bits))=4096 from by decide];exact AK (by omega) (by omega)
 obtain⟨a,rfl⟩:∃ a:Nat,x=(a:Int):=⟨x.toNat,by omega⟩;obtain⟨b,rfl⟩:∃ b:Nat,v=(b:Int):=⟨v.toNat,by omega⟩;rw[d];unfold bor
 have h:(BitVec.ofInt 64 ((a:Int)*4096) ||| BitVec.ofInt 64 (b:Int)).toNat=a*4096+b:=by
  rw[BitVec.toNat_or,BitVec.toNat_ofInt,BitVec.toNat_ofInt];have hp:((2 ^ 64:Nat):Int)=18446744073709551616:=by decide
  rw[hp,show(((a:Int)*4096) % 18446744073709551616).toNat=2 ^ 12*a by omega,show(((b:Int)) % 18446744073709551616).toNat=b by omega];rw[<-Nat.two_pow_add_eq_or_of_lt (by omega:b<2 ^ 12)];omega
 rw[show IntKind.i64.bits=64 from rfl,h];rw[show((a*4096+b:Nat):Int)=(a:Int)*4096+b by omega];exact AK (by omega) (by omega)
def dv (l:List Int) (i:Int):Int:=if l=[] then 0 else at0 l (i % l.length)
theorem AvQ {l:List Int} (h:∀ d∈l,0<=d∧d<=2147483647) (i:Int):0<=dv l i∧dv l i<=2147483647:=by
 unfold dv;split
 . omega
 . rename_i D;have J:0<l.length:=List.length_pos_iff.2 D;exact h _ (tU (by exact AjP _ (by omega)) (AjI _ (by omega)))
def AuB (p:Plan) (d v:Int):Int:=if 0<=d∧d<=8192∧0<=v∧v<p.N then dv p.Draws (d*p.N+v)*4096+v else 0
theorem AwP {d n:Int} (J:0<=d) (D:d<=8192) (h:0<=n) (O:n<=4096):0<=d*n∧d*n<=33554432:=by refine⟨AjV J h,?_⟩;have:=AjT D O h (by omega:(0:Int)<=8192);omega
theorem AwQ {l:List Int} {i:Int} {K:Int->Prop} (d:0<=i) (h:0<l.length) (hk:K (dv l i)):nzP (l.length:Int) (BA l (i.tmod (l.length:Int)) K):=by refine⟨by omega,?_⟩;rw[Ao6 d];refine BL (AjP _ (by omega)) (AjI _ (by omega)) ?_;grind[dv]
theorem dQ {p:Plan} {d v:Int} {Q:Int->Prop} (V:0<=p.N∧p.N<=4096) (hd:∀ d∈p.Draws,0<=d∧d<=2147483647) (D:Q (AuB p d v)):JI p d v Q:=by
 unfold JI JH;unfold AuB at D;have Z:AJ (p.N - 1)=p.N - 1:=AK (by omega) (by omega);rw[Z];refine A2 (λO=>BW (λh=>?_) (λh=>?_)) (λO=>AV rfl (by rwa [if_neg (by omega)] at D))
 . grind
 replace h:=of_decide_eq_true h
 refine A2 (λU=>BW (λJ=>?_) (λJ=>?_)) (λU=>AV rfl (by rwa [if_neg (by omega)] at D))
 . grind
 replace J:=of_decide_eq_true J
 rw[if_pos (by omega)] at D;have hm:=AwP O h V.1 V.2;refine A2 (λW=>?_) (λW=>?_)
 . rw[AK (x:=d*p.N) (by omega) (by omega),AK (x:=d*p.N+v) (by omega) (by omega)];grind[AwQ,AvQ,AlD]
 . rw[AlD (by omega) (by omega) U (by omega)];have:p.Draws=[]:=AvY (by omega);grind[dv]
section
variable {β:Type}
def G6 (es:List B5):List B5:=(TI (SC 1 (es.map kvE)) mkE).1
theorem AuC (a:AQ):EA (HL a).1:=by
 unfold HL EA;split
 . rw[M4]; omega
 . simp
theorem qO (es:List B5):∀ e∈G6 es,EA e.W:=by
 intro e d;unfold G6 TI at d;split at d
 . obtain⟨_,_,rfl⟩:=List.mem_map.1 d;exact AuC _
 . cases d
theorem OM {es:List B5} (h:∀ e∈es,EA e.W):(G6 es).length<=es.length:=by have:=(tX 1 (es.map kvE) (λ_ D=>by obtain⟨e,d,rfl⟩:=List.mem_map.1 D; exact h e d)).1;unfold G6 TI;grind
theorem M9 {g:Graph} {Q:Graph->Prop} (h:g.Edges.length<=1000000) (d:∀ e∈g.Edges,EA e.W) (D:Q ⟨g.N,G6 g.Edges⟩):HU g Q:=by unfold HU; exact vI (by omega) h d D
theorem AmY {α:Type} {p:α->Bool} {xs:List α} {i:Nat} (h:i<xs.length):(xs.take (i+1)).filter p=(xs.take i).filter p++(if p xs[i] then [xs[i]] else []):=by rw[eX h,jG];grind
def RT (e:B5):Bool:=e.From != e.To
def dR (g:Graph):Graph:=⟨g.N,G6 (g.Edges.filter RT)⟩
def Ar5 (e:B5):B5:=⟨e.From,e.To,1⟩
def MA (g:Graph):Graph:=⟨g.N,G6 (g.Edges.map Ar5)⟩
def sI (g:Graph):Graph:=⟨g.N,G6 (g.Edges.map rS)⟩
def V0 (g:Graph):Graph:=⟨g.N,G6 (g.Edges++(sI g).Edges)⟩
theorem Ar6 {α:Type} {p:α->Bool} {xs:List α} {i:Nat} (h:i<=xs.length):((xs.take i).filter p).length<=i:=by grind
theorem AbA {g:Graph} {Q:Graph->Prop} (O:g.Edges.length<=1000000) (J:∀ e∈g.Edges,EA e.W) (U:Q (dR g)):P0 g Q:=by
 unfold P0 U7 NZ;refine AL (λ(s:List B5) i=>(s,i)) 0 g.Edges.length (by omega) (λi s=>s=(g.Edges.take i).filter RT) (by omega) rfl (λi s next _ hi d D=>?_) (λs next d=>?_)
 . subst d;have Z:=Ar6 (p:=RT) (xs:=g.Edges) (Nat.le_of_lt hi);refine A2 (λ_=>B8 hi ?_) (λh=>by omega);have e:=AmY (p:=RT) hi;refine BO (λh=>AO (by simp; omega) (D _ ?_)) (λh=>D _ ?_)
   all_goals grind[RT]
 . subst d;refine A2 (λh=>by omega) (λ_=>?_);rw[RV];exact M9 (gN (uN _ _) O) (λe V=>J e (List.mem_filter.1 V).1) U
theorem YM {g:Graph} {Q:Graph->Prop} (J:g.Edges.length<=1000000) (O:Q (MA g)):HV g Q:=by
 unfold HV U8 P2;refine AL (λ(s:List B5) i=>(s,i)) 0 g.Edges.length (by omega) (λi s=>s=(g.Edges.take i).map Ar5) (by omega) rfl (λi s next _ hi d U=>?_) (λs next d=>?_)
 . subst d;refine A2 (λ_=>B8 hi (AV rfl (AO (by simp; omega) (U _ ?_)))) (λh=>by omega);rw[M6 hi]; rfl
 . subst d;refine A2 (λh=>by omega) (λ_=>?_);rw[RV];exact M9 (by simpa using J) (λ_ D=>by obtain⟨_,_,rfl⟩:=List.mem_map.1 D; unfold EA Ar5; simp) O
theorem Ar7 {g:Graph} {Q:Graph->Prop} (O:g.Edges.length<=1000000) (D:∀ e∈g.Edges,EA e.W) (U:Q (sI g)):Q6 g Q:=by
 unfold Q6 P1 ML;refine AL (λ(s:List B5) i=>(s,i)) 0 g.Edges.length (by omega) (λi s=>s=(g.Edges.take i).map rS) (by omega) rfl (λi s next _ hi d Z=>?_) (λs next d=>?_)
 . subst d;refine A2 (λ_=>B8 hi (AV rfl (AO (by simp; omega) (Z _ ?_)))) (λh=>by omega);rw[M6 hi]; rfl
 . subst d;refine A2 (λh=>by omega) (λ_=>?_);rw[RV];exact M9 (by simpa using O) (λe J=>by obtain⟨x,V,rfl⟩:=List.mem_map.1 J; exact D x V) U
theorem wR {g:Graph} (J:g.Edges.length<=500000) (d:∀ e∈g.Edges,EA e.W):(sI g).Edges.length<=g.Edges.length∧∀ e∈(sI g).Edges,EA e.W:=by refine⟨?_,qO _⟩;have:=OM (es:=g.Edges.map rS) (λe D=>by obtain⟨x,h,rfl⟩:=List.mem_map.1 D; exact d x h);simpa[sI] using this
theorem AmZ {xs ys:List B5} {Q:List B5->Prop} (V:xs.length+ys.length<=1000000) (U:Q (xs++ys)):DM [xs,ys] Q:=by
 unfold DM FZ;refine AL (λ(s:Int) i=>(s,i)) 0 2 (by omega) (λi s=>s=(((([xs,ys]:List (List B5)).take i).map List.length).sum:Nat)) (by omega) (by simp) (λi s next _ hi O D=>?_) (λs next O=>?_)
 . subst O;refine A2 (λ_=>?_) (λh=>by simp at h; omega)
   match i,hi,D with
   | 0,_,D=>
    refine AP (x:=xs) (by omega) rfl ?_;have e:AJ (((([xs,ys]:List (List B5)).take 0).map List.length).sum+(xs.length:Int))=xs.length:=by simp; exact AK (by omega) (by omega)
    rw[e];exact A2 (λh=>by omega) (λ_=>D _ (by simp))
   | 1,_,D=>
    refine AP (x:=ys) (by omega) rfl ?_;have e:AJ (((([xs,ys]:List (List B5)).take 1).map List.length).sum+(ys.length:Int))=xs.length+ys.length:=by simp; exact AK (by omega) (by omega)
    rw[e];exact A2 (λh=>by omega) (λ_=>D _ (by simp))
 . subst O;refine A2 (λh=>by simp at h) (λ_=>?_);have e:((((([xs,ys]:List (List B5)).take 2).map List.length).sum:Nat):Int)=xs.length+ys.length:=by simp
   rw[e,AK (x:=0 - 0) (by omega) (by omega),AK (x:=(xs.length:Int)+ys.length - (0 - 0)) (by omega) (by omega)]
   have hk:B4 (λ(s:(List B5)×Int) (d:((List B5)×Int)->Prop)=>match s with | (s268,s272)=>A7 (decide (s272<((([xs,ys]:List (List B5)).length:Nat):Int))) (BA [xs,ys] s272 λJ=>DN 24 s268 J λ_=>d ((s268++J),AJ (s272+1))) (Q s268)) ([],0):=by
    refine AL (λ(s:List B5) i=>(s,i)) 0 2 (by omega) (λi s=>s=(([xs,ys]:List (List B5)).take i).flatten) (by omega) (by simp) (λi s next _ hi O D=>?_) (λs next O=>?_)
    . subst O;refine A2 (λ_=>?_) (λh=>by simp at h; omega)
      match i,hi,D with
      | 0,_,D=>exact AP (x:=xs) (by omega) rfl (AO (by simp; omega) (D _ (by simp)))
      | 1,_,D=>exact AP (x:=ys) (by omega) rfl (AO (by simp; omega) (D _ (by simp)))
    . subst O;refine A2 (λh=>by simp at h) (λ_=>?_);simpa using U
   exact A2 (λh=>by omega) (λ_=>A2 (λh=>⟨by omega,by omega,hk⟩) (λh=>hk))
theorem uF {g:Graph} {Q:Graph->Prop} (D:g.Edges.length<=100000) (d:∀ e∈g.Edges,EA e.W) (h:Q (V0 g)):O0 g Q:=by unfold O0;have J:=wR (by omega) d;refine Ar7 (by omega) d (AmZ (by omega) (M9 (by simp; omega) (λe _=>?_) h));grind
def tC (p:Plan) (g:Graph):Rows×Int:=
 if CG p≠0 then (zR,CG p) else if g.N≠p.N then (zR,4) else if G3 g≠0 then (zR,G3 g)
 else qB (if p.Kind=5 then MA (V0 (dR g)) else if p.Kind=3 then MA (V0 g) else if p.Kind=1 then MA g else g)
theorem ZX {g:Graph} (O:g.Edges.length<=65536) (d:∀ e∈g.Edges,EA e.W):(V0 g).Edges.length<=200000∧∀ e∈(V0 g).Edges,EA e.W:=by
 have J:=wR (by omega) d;refine⟨?_,qO _⟩
 have:=OM (es:=g.Edges++(sI g).Edges) (λe D=>by
  rcases List.mem_append.1 D with h | h
  . exact d e h
  . exact J.2 e h)
 rw[bL] at this;show(G6 _).length<=_;omega
theorem wS {g:Graph} (O:g.Edges.length<=65536) (d:∀ e∈g.Edges,EA e.W):(dR g).Edges.length<=65536∧∀ e∈(dR g).Edges,EA e.W:=by refine⟨?_,qO _⟩;have D:=OM (es:=g.Edges.filter RT) (λe h=>d e (List.mem_filter.1 h).1);have J:=uN RT g.Edges;show(G6 _).length<=_;omega
theorem V4 {p:Plan} {g:Graph} {Q:Rows×Int->Prop} (d:Q (tC p g)):OB p g Q:=by
 unfold OB;unfold tC at d;refine RS (BO (λh=>by rwa [if_pos h] at d) (λh=>?_));rw[if_neg (λD=>D h)] at d;refine BO (λh=>by rwa [if_pos h] at d) (λh=>?_);rw[if_neg (λD=>D h)] at d;refine cZ (BO (λh=>by rwa [if_pos h] at d) (λh=>?_));rw[if_neg (λD=>D h)] at d;have⟨_,_,hl,_,hw⟩:=JJ h;have J:∀ e∈g.Edges,EA e.W:=λe he=>by have:=hw e he; unfold wOk at this; unfold EA; omega
 have V:=wS hl J;have hb:=ZX hl J;have a2:=ZX V.1 V.2;refine AY (λU=>?_) (λU=>?_)
 . rw[if_pos U] at d;exact AbA (by omega) J (uF (by omega) V.2 (YM (by omega) (mT d)))
 rw[if_neg U] at d;refine AY (λZ=>?_) (λZ=>?_)
 . rw[if_pos Z] at d;exact uF (by omega) J (YM (by omega) (mT d))
 rw[if_neg Z] at d;refine AY (λO=>?_) (λO=>?_)
 . rw[if_pos O] at d;exact YM (by omega) (mT d)
 rw[if_neg O] at d;exact mT d
theorem AzE (i:Int):shr .u64 i 1=i / 2:=by unfold shr;rw[AsX _ (by decide)]; rfl
theorem AvR (i:Int):shr .i64 i 1=i / 2:=by unfold shr;rw[AsX _ (by decide)]; rfl
theorem AwR {a b:Int} (d:0<=a) (h:0<=b) (D:a<=1000000) (J:b<=1000000):AJ (shr .u64 (IntKind.wrap .u64 (AJ (a+b))) 1)=(a+b) / 2:=by rw[AK (x:=a+b) (by omega) (by omega),W0 (by omega) (by omega),AzE,AK (by omega) (by omega)]
theorem AfY (x y:Int):QX x y<0↔x<y:=by unfold QX; omega
theorem AbB (x y:Int):QX x y=0↔x=y:=by unfold QX; omega
theorem Ad2 {v:Vec} {i:Int} {Q:Int×Bool->Prop} (hl:v.Items.length<=1000000000) (J:Q (YG (FM (G4 v).Items i))):Y5 v i Q:=by
 unfold Y5;refine NF hl ?_;have hP:=SE v;generalize G4 v=w at hP J;have hi:=hP.inc;have a5:=hP.len;unfold O3 BP KH;refine CQ (λs:Int×Int=>0<=s.1∧s.1<=s.2∧s.2<=w.Items.length∧(∀ (k:Nat) (hk:k<w.Items.length),(k:Int)<s.1->(w.Items[k]).At<i)∧(∀ (k:Nat) (hk:k<w.Items.length),s.2<=(k:Int)->¬(w.Items[k]).At<i)) (λs=>(s.2 - s.1).toNat) ⟨by simp,by simp,by simp,λk hk h=>by simp at h; omega,λk hk h=>by simp at h; omega⟩ ?_;rintro⟨a,b⟩ next ⟨O,h1,h2,h3,h4⟩ hn;simp only at O h1 h2 h3 h4;refine A2 (λa4=>?_) (λa4=>?_)
 . rw[AwR O (by omega) (by omega) (by omega)];obtain⟨m,V⟩:∃ m:Nat,(a+b) / 2=(m:Int):=⟨((a+b) / 2).toNat,by omega⟩;rw[V];have d:m<w.Items.length:=by omega
   refine B8 d (GJ (A2 (λU=>?_) (λU=>?_)))
   . rw[AfY] at U;rw[AK (by omega) (by omega)];refine hn _ ⟨by simp only; omega,by simp only; omega,h2,λk hk D=>?_,h4⟩ (by simp only; omega);simp only at D;by_cases e:k=m
     . subst e; exact U
     . have:=hi.at d (by omega:k<m); omega
   . rw[AfY] at U;refine hn _ ⟨O,by simp only; omega,by simp only; omega,h3,λk hk D=>?_⟩ (by simp only; omega);simp only at D;by_cases e:k=m
     . subst e; exact U
     . have:=hi.at hk (by omega:m<k); omega
 . have a2:a=b:=by omega
   subst a2;obtain⟨m,rfl⟩:∃ m:Nat,a=(m:Int):=⟨a.toNat,by omega⟩;refine A2 (λV=>?_) (λV=>?_)
   . have d:m<w.Items.length:=by omega
     refine B8 d (GJ ?_);by_cases e:(w.Items[m]).At=i
     . have W:(QX (w.Items[m]).At i==0)=true:=by grind[AbB]
       dsimp only;rw[W];refine AH rfl (B8 d ?_);have:=RR hi (PW d);rw[e] at this;rw[this] at J;exact J
     . have W:(QX (w.Items[m]).At i==0)=false:=by grind[AbB]
       dsimp only;rw[W];refine AV rfl ?_;rw[PI λs Z=>?_] at J
       . exact J
       . obtain⟨k,hk,rfl⟩:=tM Z;by_cases D:k<m
         . grind
         . by_cases hkm':k=m
           . subst hkm'; exact e
           . have h5:=hi.at hk (by omega:m<k); grind
   . refine AV rfl ?_;rw[PI λs Z=>?_] at J
     . exact J
     . obtain⟨k,hk,rfl⟩:=tM Z;grind
def zSt:State:=⟨0,0,[],[],[]⟩
def GR (s:State):Nat:=(s.High - s.Low).toNat
def StP (p:Plan) (s:State):Prop:=CG p=0∧0<=s.Low∧s.Low<=s.High∧s.High<=p.N∧s.A.length=GR s∧s.B.length=GR s∧dG s.On (s.High - s.Low)
instance (p:Plan) (s:State):Decidable (StP p s):=by unfold StP; infer_instance
def EQ (p:Plan) (s:State):State:=if StP p s then s else zSt
def kD (s:State):Prop:=rU s.On∧s.On.length<=1000000
theorem TJ {p:Plan} {s:State} {Q:State->Prop} (O:kD s) (D:Q (EQ p s)):QF p s Q:=by
 unfold QF vD;have hb (h:¬StP p s):A7 false (Q s) (Q zSt):=AH rfl (by unfold EQ at D; rwa [if_neg h] at D);refine RS (BO (λh=>hb λd=>h d.1) (λh=>?_));have hr:=BS h;refine A2 (λU=>hb λd=>by have:=d.2.1; omega) (λU=>A2 (λh2=>hb λd=>by have:=d.2.2.1; omega) (λh2=>A2 (λW=>hb λd=>by have:=d.2.2.2.1; omega) (λW=>?_)));rw[AK (x:=s.High - s.Low) (by omega) (by omega)];refine AY (λV=>AY (λZ=>?_) (λZ=>hb λd=>by have:=d.2.2.2.2.2.1; unfold GR at this; omega)) (λV=>hb λd=>by have:=d.2.2.2.2.1; unfold GR at this; omega);refine UU O.1 O.2 (A2 (λJ=>?_) (λJ=>?_))
 . unfold EQ at D
   rwa [if_pos ⟨h,by omega,by omega,by omega,by unfold GR; omega,by unfold GR; omega,J⟩] at D
 . have:¬StP p s:=λd=>J d.2.2.2.2.2.2;unfold EQ at D
   rwa [if_neg this] at D
def J6 (n:Nat) (f:Nat->β):List β:=(List.range n).map f
def NH (n:Nat) (f:Nat->Bool):List Int:=((List.range n).filter f).map λi:Nat=>(i:Int)
theorem fZ (n:Nat) (f:Nat->β):J6 (n+1) f=J6 n f++[f n]:=by simp[J6,bM]
theorem NI (n:Nat) (f:Nat->β):(J6 n f).length=n:=by simp[J6]
theorem YN (n:Nat) (f:Nat->Bool):NH (n+1) f=if f n then NH n f++[(n:Int)] else NH n f:=by unfold NH;rw[bM,jG,iE];grind
theorem V5 (n:Nat) (f:Nat->Bool):(NH n f).length<=n:=by grind[NH]
theorem gA {n:Nat} {f:Nat->Bool} {x:Int} (h:x∈NH n f):0<=x∧x<n:=by obtain⟨_,_,rfl⟩:=List.mem_map.1 h;grind
theorem gB {n:Nat} {f:Nat->Int} {i:Nat} (h:i<n):at0 (J6 n f) i=f i:=by unfold at0 J6;grind
theorem ZY {n:Nat} {f g:Nat->β} (h:∀ i,i<n->f i=g i):J6 n f=J6 n g:=yM λi hi=>h i (List.mem_range.1 hi)
theorem AiT {n:Nat} {f g:Nat->Bool} (h:∀ i,i<n->f i=g i):NH n f=NH n g:=by unfold NH; rw[List.filter_congr λi hi=>h i (List.mem_range.1 hi)]
def chS (low high:Int) (n:Nat) (g:Nat->Int×Int×Bool):State:=⟨low,high,J6 n λi=>(g i).1,J6 n λi=>(g i).2.1,rW n (NH n λi=>(g i).2.2)⟩
theorem nV {n:Nat} (hn:n<=4096) {F:Int->((Int×Int×Bool)->Prop)->Prop} {g:Nat->Int×Int×Bool} (Z:∀ (i:Nat) K,i<n->K (g i)->F i K) {low high:Int} {Q:State->Prop} (W:Q (chS low high n g)) :
   B4 (λ(s:(List Int)×(List Int)×(List Int)×Int) (D:((List Int)×(List Int)×(List Int)×Int)->Prop)=>match s with | (s145,s149,s153,s157)=>A7 (decide (s157<(n:Int))) (F s157 λd=>DN 8 s145 ([d.1]) λ_=>DN 8 s149 ([d.2.1]) λ_=>A7 d.2.2 (DN 8 s153 ([s157]) λ_=>D ((s145++([d.1])),(s149++([d.2.1])),(s153++([s157])),AJ (s157+1))) (D ((s145++([d.1])),(s149++([d.2.1])),s153,AJ (s157+1)))) (ND (n:Int) s153 λO=>Q ({ Low:=low,High:=high,A:=s145,B:=s149,On:=O }:State))) (([]:List Int),([]:List Int),([]:List Int),0):=by
 refine AL (λ(s:List Int×List Int×List Int) i=>(s.1,s.2.1,s.2.2,i)) 0 n (by omega) (λi s=>s=(J6 i λi=>(g i).1,J6 i λi=>(g i).2.1,NH i λi=>(g i).2.2)) (by omega) rfl (λi s next _ hi V J=>?_) (λs next V=>?_) (s0:=([],[],[]))
 . subst V;have U:=V5 i λi=>(g i).2.2;refine A2 (λ_=>Z i _ hi (AO (by simp[J6]; omega) (AO (by simp[J6]; omega) ?_))) (λh=>by omega);have hs:=YN i λi=>(g i).2.2
   cases hb:(g i).2.2 with
   | true=>
    refine AV rfl (AO (by simp; omega) (J (_,_,_) ?_));grind[fZ]
   | false=>
    refine AH rfl (J (_,_,_) ?_);grind[fZ]
 . subst V;refine A2 (λh=>by omega) (λ_=>?_);have U:=V5 n λi=>(g i).2.2;exact WM (by simp only; omega) (λ_ hx=>by have:=gA hx; unfold EA; omega) W
def AyN:Int:=4611686018427387904
def kE (p:Plan) (v:Int):Int×Bool:=
 if p.Kind=3 then (v,true) else if p.Kind=5 then (0,false) else if p.Kind=4∧v=p.Source then (1,true) else if v=p.Source then (0,true) else if p.Kind=4 then (0,false) else if p.Kind=1 then (-1,false) else (AyN,false)
theorem zF {p:Plan} {v:Int} {Q:Int×Bool->Prop} (d:Q (kE p v)):UH p v Q:=by
 unfold UH ES;unfold kE at d;refine AY (λh=>by rwa [if_pos h] at d) (λV=>AY (λh=>by rwa [if_neg V,if_pos h] at d) (λW=>?_));rw[if_neg V,if_neg W] at d
 have hk (h:¬(p.Kind=4∧v=p.Source)):A7 false (Q (1,true)) (A7 (v==p.Source) (A7 true (Q (0,true)) (A7 (p.Kind==1) (Q (-1,false)) (Q (4611686018427387904,false)))) (A7 (p.Kind==4) (Q (0,false)) (A7 (p.Kind==1) (Q (-1,false)) (Q (4611686018427387904,false))))):=by rw[if_neg h] at d;refine AH rfl (AY (λD=>AV rfl (by rwa [if_pos D] at d)) (λD=>?_));rw[if_neg D] at d;refine AY (λO=>by rwa [if_pos O] at d) (λO=>?_);rw[if_neg O] at d;exact AY (λU=>by rwa [if_pos U] at d) (λU=>by rwa [if_neg U] at d)
 refine AY (λJ=>?_) (λJ=>hk λh=>J h.1);by_cases hs:v=p.Source
 . rw[if_pos ⟨J,hs⟩] at d;exact AV (by simpa using hs) d
 all_goals grind
def PP (p:Plan) (low high:Int):State:=
 if CG p=0∧0<=low∧low<=high∧high<=p.N then chS low high (high - low).toNat λi=>((kE p (low+i)).1,-1,(kE p (low+i)).2) else zSt
theorem iR {p:Plan} {low high:Int} {Q:State->Prop} (d:Q (PP p low high)):UM p low high Q:=by
 unfold UM;unfold PP at d;have hb (h:¬(CG p=0∧0<=low∧low<=high∧high<=p.N)):Q zSt:=by rwa [if_neg h] at d
 refine RS (BO (λh=>hb λV=>h V.1) (λh=>A2 (λJ=>hb (by omega)) (λJ=>A2 (λO=>hb (by omega)) (λO=>A2 (λW=>hb (by omega)) (λW=>?_)))));rw[if_pos ⟨h,by omega,by omega,by omega⟩] at d;have Z:=BS h;have e:AJ (high - low)=((high - low).toNat:Int):=by rw[AK (by omega) (by omega)]; omega
 unfold QS QR;rw[e];refine nV (F:=λa0 K=>UH p (AJ (low+a0)) λD=>K (D.1,(-1),D.2)) (by omega) (λi K _ U=>?_) d;rw[AK (x:=low+(i:Int)) (by omega) (by omega)];exact zF U
theorem Ar8:kD zSt:=⟨(by intro x d; cases d),by decide⟩
theorem wT (p:Plan) (s:State):(StP p s∧EQ p s=s)∨EQ p s=zSt:=by
 by_cases h:StP p s
 . exact .inl ⟨h,if_pos h⟩
 . exact .inr (if_neg h)
structure StR (p:Plan) (s:State):Prop where
 pl:GR s≠0→CG p=0
 lo:0≤s.Low
 le:s.Low≤s.High
 hi:s.High≤4096
 hn:GR s≠0→s.High≤p.N
 al:s.A.length=GR s
 bl:s.B.length=GR s
 ok:rU s.On
 ol:s.On.length≤1000000
theorem nW {p:Plan} {s:State} (D:kD s):StR p (EQ p s):=by
 rcases wT p s with⟨h,e⟩ | e
 . rw[e];have⟨d,U,W,J,O,V,_⟩:=h;have:=(BS d).2.1;exact⟨λ_=>d,U,W,by omega,λ_=>J,O,V,D.1,D.2⟩
 . rw[e]; exact⟨λh=>absurd rfl h,by decide,by decide,by decide,λh=>absurd rfl h,rfl,rfl,Ar8.1,Ar8.2⟩
theorem StR.siz {p:Plan} {s:State} (h:StR p s):(GR s:Int)=s.High - s.Low∧GR s<=4096:=by have:=h.lo; have:=h.le; have:=h.hi; unfold GR; omega
theorem StR.w {p:Plan} {s:State} (h:StR p s):AJ (s.High - s.Low)=(GR s:Int):=by have:=h.siz; rw[AK (by omega) (by omega)]; omega
def AfZ (p:Plan) (round v:Int):Int:=AuB p ((round - 1) / 2) v
def kF (p:Plan) (s:State) (round:Int) (i:Nat):Int×Bool:=
 if p.Kind=1 then (s.Low+i,G7 s.On i) else if p.Kind=5 then (if round % 2=0 then (1,G7 s.On i) else (AfZ p round (s.Low+i),at0 s.A i==0)) else (at0 s.A i,G7 s.On i)
theorem zG {p:Plan} {s:State} {round:Int} {i:Nat} {Q:Int×Bool->Prop} (h:StR p s) (hi:i<GR s) (W:0<=round∧round<=1000000) (d:Q (kF p s round i)):UG p s round i Q:=by
 unfold UG;unfold kF at d;have Z:=h.siz;have V:=h.lo;have U:=h.al;have e:AJ (s.Low+(i:Int))=s.Low+i:=AK (by omega) (by have:=h.hi; omega);refine K9 h.ok (by unfold EA; omega) ?_;rw[e,Ad1];refine AY (λD=>by rwa [if_pos D] at d) (λD=>?_);rw[if_neg D] at d;refine AY (λJ=>?_) (λJ=>?_)
 . rw[if_pos J] at d;refine AY (λO=>by rwa [if_pos O] at d) (λO=>?_);rw[if_neg O] at d;refine BL (by omega) (by omega) ?_;have hp:=BS (h.pl (by omega));unfold OH;rw[AK (x:=round - 1) (by omega) (by omega),AvR];exact dQ hp.2.1 hp.2.2.2.2.2 d
 . rw[if_neg J] at d;exact BL (by omega) (by omega) d
def KB (n:Nat) (f:Nat->Int×Bool):List B3:=(List.range n).filterMap λi=>if (f i).2 then some ⟨i,(f i).1⟩ else none
theorem ON (n:Nat) (f:Nat->Int×Bool):KB (n+1) f=if (f n).2 then KB n f++[⟨n,(f n).1⟩] else KB n f:=by unfold KB;rw[bM,AoC];grind
theorem nX (n:Nat) (f:Nat->Int×Bool):(KB n f).length<=n:=by grind[KB]
def FP (p:Plan) (s:State) (round:Int):Vec:=⟨(EQ p s).High - (EQ p s).Low,KB (GR (EQ p s)) (kF p (EQ p s) round)⟩
theorem Ar9 {n:Nat} (hn:n<=4096) {F:Int->((Int×Bool)->Prop)->Prop} {g:Nat->Int×Bool} (Z:∀ (i:Nat) K,i<n->K (g i)->F i K) {Q:Vec->Prop} (V:Q ⟨n,KB n g⟩) :
   B4 (λ(s:(List B3)×Int) (d:((List B3)×Int)->Prop)=>match s with | (s116,s120)=>A7 (decide (s120<(n:Int))) (F s120 λD=>A7 D.2 (DN 16 s116 ([({ At:=s120,Val:=D.1 }:B3)]) λ_=>d ((s116++([({ At:=s120,Val:=D.1 }:B3)])),AJ (s120+1))) (d (s116,AJ (s120+1)))) (Q ({ N:=(n:Int),Items:=s116 }:Vec))) (([]:List B3),0):=by
 refine AL (λ(s:List B3) i=>(s,i)) 0 n (by omega) (λi s=>s=KB i g) (by omega) rfl (λi s next _ hi O J=>?_) (λs next O=>?_)
 . subst O;have W:=nX i g;have U:=ON i g;refine A2 (λ_=>Z i _ hi ?_) (λa2=>by omega)
   cases h:(g i).2 with
   | true=>exact AV rfl (AO (by simp; omega) (J _ (by rw[U,h]; rfl)))
   | false=>exact AH rfl (J _ (by rw[U,h]; rfl))
 . subst O;exact A2 (λa2=>by omega) (λ_=>V)
theorem sJ {p:Plan} {s:State} {round:Int} {Q:Vec->Prop} (D:kD s) (O:0<=round∧round<=1000000) (d:Q (FP p s round)):cQ p s round Q:=by unfold cQ;refine TJ D ?_;have h:=nW (p:=p) D;unfold FP at d;rw[<-h.siz.1] at d;rw[h.w];exact Ar9 (F:=λi K=>UG p (EQ p s) round i K) h.siz.2 (λi K hi J=>zG h hi O J) d
def AiU (p:Plan) (s:State) (round:Int) (i:Nat) (o:Option Int):Int×Int×Bool:=
 let a:=at0 s.A i; let b:=at0 s.B i; let v:=(YG o).1; let d:=(YG o).2
 if p.Kind=1 then (if d=true∧a = -1 then (round,v,true) else (a,b,false))
 else if p.Kind=2∨p.Kind=3 then (if d=true∧v<a then (v,b,true) else (a,b,false))
 else if p.Kind=4 then (v,b,v != 0)
 else if a≠0 then (a,b,false)
 else if round % 2=0 then (if d=true then (2,b,false) else (a,b,false))
 else if d=false∨AfZ p round (s.Low+i)<v then (1,b,true) else (a,b,false)
theorem wU {p:Plan} {s:State} {round:Int} {i:Nat} {o:Option Int} {Q:Int×Int×Bool->Prop} (h:StR p s) (hi:i<GR s) (hr:0<=round∧round<=1000000) (d:Q (AiU p s round i o)) :
   S8 p s round i (YG o).1 (YG o).2 Q:=by
 unfold S8 ES;unfold AiU at d;have hs:=h.siz;have hl:=h.lo;have a2:=h.al;have a4:=h.bl;have e:AJ (s.Low+(i:Int))=s.Low+i:=AK (by omega) (by have:=h.hi; omega);have hp:=BS (h.pl (by omega));refine BL (by omega) (by omega) (BL (by omega) (by omega) ?_)
 have hd:∀ K:Int->Prop,K (AfZ p round (s.Low+i))->OH round λO=>JI p O (AJ (s.Low+(i:Int))) K:=λK hK=>by unfold OH;rw[e,AK (x:=round - 1) (by omega) (by omega),AvR];exact dQ hp.2.1 hp.2.2.2.2.2 hK
 rw[Ad1];generalize at0 s.A i=a at d ⊢;generalize at0 s.B i=b at d ⊢;generalize (YG o).1=v at d ⊢;generalize (YG o).2=D at d ⊢;simp only at d;refine AY (λW=>?_) (λW=>?_)
 . rw[if_pos W] at d
   cases D with
   | true=>exact AV rfl (AY (λJ=>by rwa [if_pos ⟨rfl,J⟩] at d) (λJ=>by rwa [if_neg λh=>J h.2] at d))
   | false=>exact AH rfl (by rwa [if_neg λh=>by cases h.1] at d)
 rw[if_neg W] at d
 have h23 (hk:p.Kind=2∨p.Kind=3):A7 D (A7 (decide (v<a)) (Q (v,b,true)) (Q (a,b,false))) (Q (a,b,false)):=by
   rw[if_pos hk] at d
   cases D with
   | true=>exact AV rfl (A2 (λJ=>by rwa [if_pos ⟨rfl,J⟩] at d) (λJ=>by rwa [if_neg λh=>J h.2] at d))
   | false=>exact AH rfl (by rwa [if_neg λh=>by cases h.1] at d)
 have hrest (V:¬(p.Kind=2∨p.Kind=3)):A7 (p.Kind==4) (Q (v,b,v != 0)) (A7 (p.Kind==5) (A7 (a != 0) (Q (a,b,false)) (A7 (round % 2==0) (A7 D (Q (2,b,false)) (A7 (round % 2==1) (A7 (!D) (Q (1,b,true)) (OH round λO=>JI p O (AJ (s.Low+(i:Int))) λU=>A7 (decide (U<v)) (Q (1,b,true)) (Q (a,b,false)))) (Q (a,b,false)))) (A7 false (Q (2,b,false)) (A7 (round % 2==1) (A7 (!D) (Q (1,b,true)) (OH round λO=>JI p O (AJ (s.Low+(i:Int))) λU=>A7 (decide (U<v)) (Q (1,b,true)) (Q (a,b,false)))) (Q (a,b,false)))))) (Q (a,b,false))):=by
   rw[if_neg V] at d;refine AY (λZ=>by rwa [if_pos Z] at d) (λZ=>?_);rw[if_neg Z] at d;refine AY (λh5=>?_) (λh5=>absurd hp.1 (by omega));refine BO (λJ=>by rwa [if_pos J] at d) (λJ=>?_);rw[if_neg (λh'=>h' J)] at d;refine AY (λh6=>?_) (λh6=>?_)
   . rw[if_pos h6] at d
     cases D with
     | true=>exact AV rfl (by rwa [if_pos rfl] at d)
     | false=>exact AH rfl (AY (λh7=>by omega) (λh7=>by rwa [if_neg (by simp)] at d))
   . rw[if_neg h6] at d;refine AH rfl (AY (λh7=>?_) (λh7=>by omega))
     cases D with
     | false=>exact AV rfl (by rwa [if_pos (.inl rfl)] at d)
     | true=>exact AH rfl (hd _ (A2 (λh8=>by rwa [if_pos (.inr h8)] at d) (λh8=>by rwa [if_neg (by simp[h8])] at d)))
 refine AY (λV=>?_) (λV=>?_)
 . have hb:(p.Kind==2)=true:=by simpa using V
   rw[hb]; exact AV rfl (h23 (.inl V))
 . refine AY (λh3=>?_) (λh3=>?_)
   all_goals grind
def AwS (p:Plan) (s:State) (round:Int) (y:Vec) (i:Nat):Int×Int×Bool:=AiU p s round i (FM y.Items i)
def gT (p:Plan) (s:State) (round:Int) (y:Vec):State:=
 if VecP y∧y.N=(EQ p s).High - (EQ p s).Low then chS (EQ p s).Low (EQ p s).High (GR (EQ p s)) (AwS p (EQ p s) round y) else EQ p s
theorem RF {xs:List Int} {Q:List Int->Prop} (D:xs.length<=1000000) (d:Q xs):BB xs Q:=by unfold BB;exact JR (λh=>by rwa [h] at d) (AO (by simp; omega) d)
theorem kG {xs:List Int} {Q:List Int->Prop} (D:xs.length<=1000000) (d:Q xs):BT xs Q:=by unfold BT;exact JR (λh=>by rwa [h] at d) (AO (by simp; omega) d)
theorem dS {p:Plan} {s:State} {round:Int} {y:Vec} {Q:State->Prop} (W:kD s) (hr:0<=round∧round<=1000000) (hy:y.Items.length<=1000000) (D:Q (gT p s round y)):S9 p s round y Q:=by
 unfold S9;refine TJ W ?_;have h:=nW (p:=p) W;unfold gT at D;generalize EQ p s=u at h D ⊢;have hs:=h.siz;have a6:=h.al;have a7:=h.bl;rw[h.w]
 have hcl (Z:¬(VecP y∧y.N=u.High - u.Low)):BB u.A λa5=>BB u.B λa2=>BT u.On λJ=>Q ({ Low:=u.Low,High:=u.High,A:=a5,B:=a2,On:=J }:State):=by rw[if_neg Z] at D;exact RF (by omega) (RF (by omega) (kG h.ol D))
 have hch (Z:VecP y∧y.N=u.High - u.Low):MO y p u round u (GR u:Int) λa4=>Q a4:=by rw[if_pos Z] at D;unfold MO PD;refine nV (F:=λa0 K=>Y5 y a0 λU=>S8 p u round a0 U.1 U.2 λd=>K (d.1,d.2.1,d.2.2)) hs.2 (λ_ K hi hK=>?_) D;refine Ad2 (by omega) ?_;rw[IY Z.1];exact wU h hi hr hK
 unfold ES;refine F8 (by omega) ?_;by_cases hv:VecP y
 . rw[decide_eq_true hv];refine AH rfl (BO (λV=>hcl λO=>V (by rw[O.2]; omega)) (λV=>hch ⟨hv,by omega⟩))
 . rw[decide_eq_false hv];exact AV rfl (AV rfl (hcl λO=>hv O.1))
theorem AwT {xs ys:List Int} {Q:Bool->Prop} (d:xs.length<=1000000000000) (h:Q (decide (xs=ys))):ZF xs ys Q:=by unfold ZF; exact AaJ d h
def AbC (s:State):Prop:=s.A.length<=1000000∧s.B.length<=1000000∧s.On.length<=1000000
theorem AyO (a b:State):a=b↔a.Low=b.Low∧a.High=b.High∧a.A=b.A∧a.B=b.B∧a.On=b.On:=by cases a; cases b; simp
theorem Ag0 {a b:State} {Q:Bool->Prop} (V:AbC a) (d:Q (decide (a=b))):ZG a b Q:=by
 unfold ZG;have⟨_,_,_⟩:=V;have hf (h:a≠b):Q false:=by rwa [decide_eq_false h] at d
 refine AY (λD=>AY (λU=>ApQ (by omega) (A2 (λJ=>ApQ (by omega) (A2 (λO=>AwT (by omega) ?_) (λe=>hf ?_))) (λe=>hf ?_))) (λe=>hf ?_)) (λe=>hf ?_)
 . by_cases e5:a.On=b.On
   . rw[decide_eq_true ((AyO a b).2 ⟨D,U,J,O,e5⟩)] at d; rwa [decide_eq_true e5]
   . rw[decide_eq_false e5]; exact hf λh=>e5 (by rw[h])
 all_goals exact λh=>e (by rw[h])
def JA (n:Nat) (f:Nat->Bool):Nat:=(List.range n).countP f
theorem MS (n:Nat) (f:Nat->Bool):JA (n+1) f=JA n f+if f n then 1 else 0:=by unfold JA; rw[bM,List.countP_append]; simp[List.countP_cons]
theorem uG (n:Nat) (f:Nat->Bool):JA n f<=n:=by unfold JA; exact gN List.countP_le_length (by simp)
theorem ZZ {n:Nat} {f g:Nat->Bool} (h:∀ i,i<n->f i=g i):JA n f=JA n g:=by
 induction n with
 | zero=>rfl
 | succ n d=>rw[MS,MS,d λi _=>h i (by omega),h n (by omega)]
theorem wV (a b:Nat) (f:Nat->Bool):JA (a+b) f=JA a f+JA b λj=>f (a+j):=by
 induction b with
 | zero=>rfl
 | succ b d=>rw[<-Aa5,MS,d,MS]; omega
theorem AbD {n:Nat} {f:Nat->Bool} (h:∀ i,i<n->f i=false):JA n f=0:=by
 induction n with
 | zero=>rfl
 | succ n d=>rw[MS,d λi _=>h i (by omega),h n (by omega)]; rfl
def pcf:Nat->Nat->Nat
 | 0,_=>0
 | k+1,n=>n % 2+pcf k (n / 2)
theorem AuD {k:Nat}:∀ {n:Nat},0<n->n<2 ^ k->pcf k (n &&& (n - 1))+1=pcf k n:=by
 induction k with
 | zero=>intro n J h; simp at h; omega
 | succ k O=>
  intro n J h;have U:(n &&& (n - 1)) / 2=n / 2 &&& (n - 1) / 2:=Nat.and_div_two;have V:(n &&& (n - 1)) % 2=(n % 2) &&& ((n - 1) % 2):=by have:=Nat.and_mod_two_pow (a:=n) (b:=n - 1) (n:=1); simpa using this
  rw[Nat.pow_succ] at h;simp only[pcf,U,V];rcases Nat.mod_two_eq_zero_or_one n with e | e
  . have d:(n - 1) / 2=n / 2 - 1:=by omega
    rw[d,e];have:=O (n:=n / 2) (by omega) (by omega);simp only[Nat.zero_and];omega
  . have d:(n - 1) / 2=n / 2:=by omega
    have D:(n - 1) % 2=0:=by omega
    rw[d,e,D,Nat.and_self];simp only[Nat.and_zero];omega
theorem ArA (k:Nat):pcf k 0=0:=by induction k with
 | zero=>rfl
 | succ k d=>simp[pcf,d]
theorem Ad3 (k:Nat):∀ n:Nat,pcf k n=JA k λj=>n.testBit j:=by
 induction k with
 | zero=>intro n; rfl
 | succ k d=>
  intro n;rw[Aa7 k 1,wV,Aa7 1 k,pcf,d];congr 1
  . rw[show JA 1 (λj=>n.testBit j)=JA (0+1) (λj=>n.testBit j) from rfl,MS];simp only[JA,List.range_zero,List.countP_nil,jH,Nat.testBit_zero,decide_eq_true_eq];split <;> omega
  . exact ZZ λj _=>by rw[Aa7 1 j,Nat.testBit_succ]
theorem AwU {x y:Nat} (d:x<18446744073709551616) (D:y<18446744073709551616):cC .u64 (x:Int) (y:Int)=((x &&& y:Nat):Int):=by
 have h:(BitVec.ofInt 64 (x:Int) &&& BitVec.ofInt 64 (y:Int)).toNat=x &&& y:=by
  rw[BitVec.toNat_and,BitVec.toNat_ofInt,BitVec.toNat_ofInt];have hp:((2 ^ 64:Nat):Int)=18446744073709551616:=by decide
  rw[hp,show((x:Int) % 18446744073709551616).toNat=x by omega,show((y:Int) % 18446744073709551616).toNat=y by omega]
 unfold cC;rw[show IntKind.u64.bits=64 from rfl,h];have:=Nat.and_le_left (n:=x) (m:=y);exact W0 (by omega) (by omega)
theorem zH {w:Nat} {Q:Int->Prop} (W:w<18446744073709551616) (O:Q (pcf 64 w:Nat)):Z7 (w:Int) Q:=by
 unfold Z7;refine CQ (λs:Int×Int=>∃ m c:Nat,s=((m:Int),(c:Int))∧m<=w∧c+pcf 64 m=pcf 64 w) (λs=>s.1.toNat) ⟨w,0,rfl,Z0 _,by omega⟩ ?_;rintro _ next ⟨m,c,rfl,_,J⟩ hn;have V:pcf 64 w<=64:=by rw[Ad3]; exact uG _ _
 refine AY (λh=>?_) (λh=>?_)
 . have:m=0:=by omega
   subst this;rw[ArA] at J;rw[show c=pcf 64 w by omega]; exact O
 . have U:0<m:=by omega
   have e:IntKind.wrap .u64 ((m:Int) - 1)=((m - 1:Nat):Int):=by rw[W0 (by omega) (by omega)]; omega
   have d:=AuD (k:=64) U (by omega);rw[e,AwU (by omega) (by omega),AK (by omega) (by omega)];have D:=Nat.and_le_right (n:=m) (m:=m - 1);exact hn _ ⟨m &&& (m - 1),c+1,by rw[show((c+1:Nat):Int)=(c:Int)+1 by omega],by omega,by omega⟩ (by simp only[YZ]; omega)
theorem ArB {f:List Int} {k j:Nat} (D:j<64):G7 f ((64*k+j:Nat):Int)=(at0 f k).toNat.testBit j:=by
 unfold G7;have d:(((64*k+j:Nat):Int) / 64)=(k:Int):=by omega
 have h:(((64*k+j:Nat):Int) % 64).toNat=j:=by omega
 rw[d,h];simp;intro _; omega
def AwV (f:List Int):Nat:=JA (64*f.length) λi=>G7 f i
theorem dT {f:List Int} {Q:Int->Prop} (U:rU f) (hl:f.length<=1000000) (V:Q (AwV f:Nat)):S6 f Q:=by
 unfold S6;refine AL (λ(s:Int) i=>(s,i)) 0 f.length (by omega) (λk s=>s=(JA (64*k) λi=>G7 f i:Nat)) (by omega) rfl (λk s next _ _ D d=>?_) (λs next D=>?_)
 . subst D;refine A2 (λ_=>BL (by omega) (by omega) ?_) (λh=>by omega);have Z:=dD U k;obtain⟨w,J⟩:∃ w:Nat,at0 f k=(w:Int):=⟨(at0 f k).toNat,by omega⟩;rw[J];refine zH (by omega) (d _ ?_);have hc:=uG (64*k) λi=>G7 f i
   have hp:pcf 64 w=JA 64 λj=>G7 f ((64*k+j:Nat):Int):=by rw[Ad3];exact ZZ λj W=>by rw[ArB W,J]; rfl
   have O:pcf 64 w<=64:=by rw[Ad3]; exact uG _ _
   rw[AK (by omega) (by omega),Nat.mul_succ,wV,<-hp]; omega
 . subst D;exact A2 (λh=>by omega) (λ_=>V)
end
section
variable {limit:Int}
theorem An0 {n m:Nat} {f:Nat->Bool} (h:n<=m) (d:∀ i,n<=i->i<m->f i=false):JA m f=JA n f:=by obtain⟨k,rfl⟩:∃ k,m=n+k:=⟨m - n,by omega⟩;rw[wV,AbD (λi _=>d (n+i) (by omega) (by omega)),gM]
def AyP (s:State):Prop:=(∀ i,G7 s.On i=true->i<(GR s:Int))∧GR s<=64*s.On.length
theorem An1 {p:Plan} {s:State}:AyP (EQ p s):=by
 rcases wT p s with⟨h,e⟩ | e
 . rw[e];have⟨d,_,_,_,_,_,_,J,D⟩:=h;have O:=(BS d).2.1;refine⟨λi hi=>?_,?_⟩
   . have:=D i (TZ.2 hi); unfold GR; omega
   . rw[J]; unfold GR KZ; split <;> split <;> omega
 . rw[e]; exact⟨λi hi=>by have:=AkW hi; simp[zSt] at this; omega,by decide⟩
theorem ArC {s:State} (h:AyP s):AwV s.On=JA (GR s) λi=>G7 s.On i:=
 An0 h.2 λi _ _=>by
  cases d:G7 s.On i with
  | false=>rfl
  | true=>have:=h.1 i d; omega
def sK (p:Plan) (s:State) (i:Nat):Bool:=if p.Kind=5 then at0 s.A i==0 else G7 s.On i
def ArD (p:Plan) (s:State):Nat:=JA (GR s) (sK p s)
def V6 (p:Plan) (s:State) (round:Int):Int:=if p.Kind=4∧p.Length<=round then 0 else (ArD p (EQ p s):Nat)
theorem aA {p:Plan} {s:State} {round:Int} {Q:Int->Prop} (ho:kD s) (d:Q (V6 p s round)):Y1 p s round Q:=by
 unfold Y1;refine TJ ho ?_;have h:=nW (p:=p) ho;have D:=An1 (p:=p) (s:=s);unfold V6 at d;generalize EQ p s=u at h D d ⊢;have hs:=h.siz;have a2:=h.al;have U:=h.ol
 have hc (O:p.Kind≠5):ArD p u=AwV u.On:=by rw[ArC D];exact ZZ λi hi=>if_neg O
 refine AY (λZ=>A2 (λV=>by rwa [if_pos ⟨Z,V⟩] at d) (λV=>?_)) (λZ=>?_)
 . rw[if_neg (λh=>V h.2),hc (by omega)] at d;exact dT h.ok U d
 rw[if_neg (λh=>Z h.1)] at d;refine AY (λO=>?_) (λO=>by rw[hc O] at d; exact dT h.ok U d);rw[a2];refine AL (λ(s:Int) i=>(s,i)) 0 (GR u) (by omega) (λi s=>s=(JA i (sK p u):Nat)) (by omega) rfl (λi s next _ hi W J=>?_) (λs next W=>?_)
 . subst W;have a5:=uG i (sK p u);have a4:=MS i (sK p u);refine A2 (λ_=>BL (by omega) (by omega) ?_) (λh=>by omega);refine AY (λha=>J _ ?_) (λha=>J _ ?_)
   . rw[AK (by omega) (by omega),a4,if_pos (by unfold sK; rw[if_pos O]; simpa using ha)]; omega
   all_goals grind[sK]
 . subst W;exact A2 (λh=>by omega) (λ_=>d)
def IA (p:Plan) (s:State):List Int×Bool:=
 if p.Kind=1 then (rW (GR s) (NH (GR s) λi=>at0 s.A i == -1),false) else if p.Kind=5 then (rW (GR s) (NH (GR s) λi=>at0 s.A i==0),false) else ([],true)
theorem iS {p:Plan} {s:State} {round:Int} {Q:List Int×Bool->Prop} (W:kD s) (J:Q (IA p (EQ p s))):QL p s round Q:=by
 unfold QL;refine TJ W ?_;have h:=nW (p:=p) W;unfold IA at J;generalize EQ p s=u at h J ⊢;have hs:=h.siz;have a5:=h.al
 have hk (d:Int) (hq:Q (rW (GR u) (NH (GR u) λi=>at0 u.A i==d),false)):B4 (λ(s:(List Int)×Int) (D:((List Int)×Int)->Prop)=>match s with | (s249,s253)=>A7 (decide (s253<(u.A.length:Int))) (BA u.A s253 λa2=>A7 (a2==d) (DN 8 s249 ([s253]) λ_=>D ((s249++([s253])),AJ (s253+1))) (D (s249,AJ (s253+1)))) (ND (AJ (u.High - u.Low)) s249 λa4=>Q (a4,false))) (([]:List Int),0):=by
  rw[h.w,a5];refine AL (λ(s:List Int) i=>(s,i)) 0 (GR u) (by omega) (λi s=>s=NH i λi=>at0 u.A i==d) (by omega) rfl (λi s next _ _ V O=>?_) (λs next V=>?_)
  . subst V;have a6:=V5 i λi=>at0 u.A i==d;have a7:=YN i λi=>at0 u.A i==d;refine A2 (λ_=>BL (by omega) (by omega) ?_) (λh=>by omega);refine AY (λha=>AO (by simp; omega) (O _ ?_)) (λha=>O _ ?_)
    all_goals grind
  . subst V;have a6:=V5 (GR u) λi=>at0 u.A i==d;exact A2 (λh=>by omega) (λ_=>WM (by omega) (λ_ hx=>by have:=gA hx; unfold EA; omega) hq)
 unfold ES;refine AY (λZ=>hk _ (by rwa [if_pos Z] at J)) (λZ=>?_);rw[if_neg Z] at J;exact AY (λU=>hk _ (by rwa [if_pos U] at J)) (λU=>by rwa [if_neg U] at J)
theorem AiV (low high:Int) (n:Nat) (g:Nat->Int×Int×Bool):kD (chS low high n g):=by have h:=IX n (NH n λi=>(g i).2.2);exact⟨h.1,by show(rW _ _).length<=_; rw[h.2.1]; have:=dE (n:Int); omega⟩
theorem Ad4 {p:Plan} {low high:Int} {g:Nat->Int×Int×Bool} (hp:CG p=0) (D:0<=low) (d:low<=high) (h:high<=p.N):StP p (chS low high (high - low).toNat g):=by have J:=(BS hp).2.1;refine⟨hp,D,d,h,by simp[chS,NI,GR],by simp[chS,NI,GR],?_⟩;have:=AaQ (n:=((high - low).toNat:Int)) ⟨by omega,by omega⟩ (NH (high - low).toNat λi=>(g i).2.2);rw[show(((high - low).toNat:Nat):Int)=high - low by omega] at this;unfold chS;grind
theorem ArE {p:Plan} {low high:Int} (hp:CG p=0) (d:0<=low) (h:low<=high) (D:high<=p.N):StP p (PP p low high)∧kD (PP p low high):=by unfold PP;grind[Ad4,AiV]
theorem AwW {p:Plan} {s:State} {round:Int} {y:Vec} (h:StP p s) (d:kD s):StP p (gT p s round y)∧kD (gT p s round y)∧(gT p s round y).Low=s.Low∧(gT p s round y).High=s.High:=by
 have e:EQ p s=s:=if_pos h;unfold gT;rw[e];split
 . exact⟨Ad4 h.1 h.2.1 h.2.2.1 h.2.2.2.1,AiV _ _ _ _,rfl,rfl⟩
 . exact⟨h,d,rfl,rfl⟩
theorem ArF {p:Plan} {s:State} (h:StP p s) (d:kD s):AbC s:=by have D:=(BS h.1).2.1;have:=h.2.2.2.2.1; have:=h.2.2.2.2.2.1; have:=h.2.1; have:=h.2.2.1; have:=h.2.2.2.1;unfold GR at *;exact⟨by omega,by omega,d.2⟩
theorem ArG (x:Int) {m:Nat} (d:m<9223372036854775808):0<=cC .i64 x m∧cC .i64 x m<=m:=by
 have h:(BitVec.ofInt 64 x &&& BitVec.ofInt 64 (m:Int)).toNat<=m:=by
  rw[BitVec.toNat_and,BitVec.toNat_ofInt (n:=64) (i:=(m:Int))];have hp:((2 ^ 64:Nat):Int)=18446744073709551616:=by decide
  rw[hp,show((m:Int) % 18446744073709551616).toNat=m by omega];exact Nat.and_le_right
 unfold cC;rw[show IntKind.i64.bits=64 from rfl];generalize (BitVec.ofInt 64 x &&& BitVec.ofInt 64 (m:Int)).toNat=k at h;have e:IntKind.i64.wrap (k:Int)=k:=AK (by omega) (by omega);rw[e]; omega
theorem MT {k n:Int} {Q:Int->Prop} (J:n<1->Q 0) (d:1<=n->∀ r,0<=r->r<n->Q r):DX k n Q:=by unfold DX;refine A2 (λh=>J h) (λh=>A2 (λD=>d (by omega) 0 (by omega) (by omega)) (λD=>⟨by omega,?_⟩));rw[Ao6 (by omega)];exact d (by omega) _ (AjP _ (by omega)) (AjI _ (by omega))
theorem AuE {p:Plan} {n:Int} {Q:Plan->Prop} (hn:0<=n∧n<=59) (hQ:∀ r:Plan,CG r=0->r.N=n->Q r):Z5 p n Q:=by
 unfold Z5
 have hk:∀ (k src D:Int) (V:List Int),(1<=k∧k<=5)->((n<1->src=0)∧0<=src∧(1<=n->src<n))->(0<=D∧D<12)->(V.length<=40∧∀ d∈V,0<=d∧d<=2147483647) ->
    A7 (n==0) (A7 (k != 5) (Q ({ Kind:=3,N:=n,Source:=src,Length:=D,Draws:=V }:Plan)) (Q ({ Kind:=k,N:=n,Source:=src,Length:=D,Draws:=V }:Plan))) (Q ({ Kind:=k,N:=n,Source:=src,Length:=D,Draws:=V }:Plan)):=by
  intro k src D V hk hs hl U
  have hr:∀ Z,(1<=Z∧Z<=5)->(n=0->Z=3∨Z=5)->CG ⟨Z,n,src,D,V⟩=0:=by intro Z h1 h2;unfold CG;simp only;rw[if_neg (by omega),if_neg (by omega),if_neg (by omega),if_neg];rintro⟨d,a8,_⟩;have:=U.2 d a8;omega
  refine AY (λh=>BO (λh5=>hQ _ (hr 3 (by omega) (λ_=>.inl rfl)) rfl) (λh5=>hQ _ (hr k hk (λ_=>.inr h5)) rfl)) (λh=>hQ _ (hr k hk (λh'=>absurd h' h)) rfl)
 refine CA (λk=>1<=k∧k<=5) (λk J=>?_) (λZ J=>A2 (λh=>J _ (by omega)) (λh=>A2 (λh=>J _ (by omega)) (λh=>J _ (by omega))))
 have a9:∀ src,((n<1->src=0)∧0<=src∧(1<=n->src<n))->DX p.Length 12 λa2=>ES (λ(a6:(List Int)->Prop)=>B4 (λ(s:(List Int)×Int) (a7:((List Int)×Int)->Prop)=>match s with | (s260,s264)=>A7 (decide (s264<(p.Draws.length:Int))) (A7 (decide (s264<40)) (BA p.Draws s264 λa4=>DN 8 s260 ([cC .i64 a4 2147483647]) λ_=>a7 ((s260++([cC .i64 a4 2147483647])),AJ (s264+1))) (a6 s260)) (a6 s260)) (([]:List Int),0)) λO=>A7 (n==0) (A7 (k != 5) (Q ({ Kind:=3,N:=n,Source:=src,Length:=a2,Draws:=O }:Plan)) (Q ({ Kind:=k,N:=n,Source:=src,Length:=a2,Draws:=O }:Plan))) (Q ({ Kind:=k,N:=n,Source:=src,Length:=a2,Draws:=O }:Plan)):=by
  intro src hs;refine MT (λh=>by omega) (λ_ D h0 h1=>?_);refine CA (λV:List Int=>V.length<=40∧∀ d∈V,0<=d∧d<=2147483647) (λV U=>hk _ _ _ _ J hs ⟨h0,h1⟩ U) (λZ a5=>?_);refine AL (λ(s:List Int) i=>(s,i)) 0 (min p.Draws.length 40) (by omega) (λi s=>s.length<=i∧∀ d∈s,0<=d∧d<=2147483647) (by omega) (by simp) (λi s next _ _ W hn=>?_) (λs next W=>?_)
  . refine A2 (λ_=>A2 (λ_=>B8 (by omega) (AO (by simp; omega) (hn _ ⟨by simp; omega,λd U=>?_⟩))) (λh=>by omega)) (λh=>by omega);rcases List.mem_append.1 U with h | h
    . exact W.2 d h
    . simp only[lO] at h;subst h;exact ArG _ (m:=2147483647) (by omega)
  . exact A2 (λ_=>A2 (λ_=>by omega) (λ_=>a5 _ ⟨by omega,W.2⟩)) (λh=>a5 _ ⟨by omega,W.2⟩)
 grind[MT]
abbrev GV:=Nat->Int×Int×Bool
def CU (l n:Nat) (G:GV):State:=chS (l:Int) ((l+n:Nat):Int) n λi=>G (l+i)
theorem nY {p:Plan} {l n:Nat} {G:GV} (hp:CG p=0) (h:((l+n:Nat):Int)<=p.N):StP p (CU l n G)∧kD (CU l n G)∧AbC (CU l n G):=by have d:=Ad4 (p:=p) (low:=(l:Int)) (high:=((l+n:Nat):Int)) (g:=λi=>G (l+i)) hp (by omega) (by omega) h;rw[show(((l+n:Nat):Int) - (l:Int)).toNat=n by omega] at d;have D:=AiV (l:Int) ((l+n:Nat):Int) n λi=>G (l+i);exact⟨d,D,ArF d D⟩
def gV0 (p:Plan):GV:=λv=>((kE p v).1,-1,(kE p v).2)
theorem AbE {p:Plan} {l n:Nat} {a b:Int} (hp:CG p=0) (d:a=l) (D:b=((l+n:Nat):Int)) (h:b<=p.N):PP p a b=CU l n (gV0 p):=by subst d D;unfold PP CU;grind[gV0]
def AwX (p:Plan) (round:Int) (v:Nat) (g:Int×Int×Bool) (o:Option Int):Int×Int×Bool:=
 if p.Kind=1 then (if (YG o).2=true∧g.1 = -1 then (round,(YG o).1,true) else (g.1,g.2.1,false))
 else if p.Kind=2∨p.Kind=3 then (if (YG o).2=true∧(YG o).1<g.1 then ((YG o).1,g.2.1,true) else (g.1,g.2.1,false))
 else if p.Kind=4 then ((YG o).1,g.2.1,(YG o).1 != 0)
 else if g.1≠0 then (g.1,g.2.1,false)
 else if round % 2=0 then (if (YG o).2=true then (2,g.2.1,false) else (g.1,g.2.1,false))
 else if (YG o).2=false∨AfZ p round v<(YG o).1 then (1,g.2.1,true) else (g.1,g.2.1,false)
theorem AuF {p:Plan} {l n i:Nat} {G:GV} {round:Int} {o:Option Int} (hi:i<n):AiU p (CU l n G) round i o=AwX p round (l+i) (G (l+i)) o:=by
 have d:at0 (CU l n G).A i=(G (l+i)).1:=gB hi;have D:at0 (CU l n G).B i=(G (l+i)).2.1:=gB hi;have h:(CU l n G).Low+(i:Int)=((l+i:Nat):Int):=by show(l:Int)+i=_; omega
 unfold AiU AwX;simp only[d,D,h]
def AbF (p:Plan) (round:Int) (G:GV) (Y:Nat->Option Int):GV:=λv=>AwX p round v (G v) (Y v)
theorem An2 {low high:Int} {n:Nat} {g d:Nat->Int×Int×Bool} (h:∀ i,i<n->g i=d i):chS low high n g=chS low high n d:=by unfold chS;rw[ZY λi hi=>congrArg (·.1) (h i hi),ZY λi hi=>congrArg (·.2.1) (h i hi),AiT λi hi=>congrArg (·.2.2) (h i hi)]
theorem Ad5 {p:Plan} {l n:Nat} {G:GV} {round:Int} {y:Vec} {Y:Nat->Option Int} (hp:CG p=0) (h:((l+n:Nat):Int)<=p.N) (D:VecP y) (V:y.N=n) (d:∀ i,i<n->FM y.Items i=Y (l+i)) :
  gT p (CU l n G) round y=CU l n (AbF p round G Y):=by
 have O:EQ p (CU l n G)=CU l n G:=if_pos (nY hp h).1;have e:(CU l n G).High - (CU l n G).Low=(n:Int):=by show((l+n:Nat):Int) - (l:Int)=n; omega
 have J:GR (CU l n G)=n:=by unfold GR; rw[e]; omega
 unfold gT;rw[O,if_pos ⟨D,by rw[V,e]⟩,J]
 have U:∀ i,i<n->AwS p (CU l n G) round y i=AbF p round G Y (l+i):=λi hi=>by unfold AwS AbF;rw[AuF hi,d i hi]
 show chS (l:Int) ((l+n:Nat):Int) n _=chS (l:Int) ((l+n:Nat):Int) n _;exact An2 U
theorem Ag1 {n i:Nat} {f:Nat->Bool}:(i:Int)∈NH n f↔i<n∧f i=true:=by unfold NH;grind
theorem qP {n i:Nat} {f:Nat->Bool} (hi:i<n) (D:n<=4096):G7 (rW n (NH n f)) i=f i:=by
 rw[(IX _ _).2.2]
 cases d:f i with
 | true=>exact decide_eq_true ⟨Ag1.2 ⟨hi,d⟩,by omega,by omega,by omega⟩
 | false=>exact decide_eq_false λh=>by have:=(Ag1.1 h.1).2; rw[d] at this; cases this
def dU (p:Plan) (round:Int) (v:Nat) (g:Int×Int×Bool):Int×Bool:=
 if p.Kind=1 then ((v:Int),g.2.2) else if p.Kind=5 then (if round % 2=0 then (1,g.2.2) else (AfZ p round v,g.1==0)) else (g.1,g.2.2)
theorem AiW {n:Nat} {f g:Nat->Int×Bool} (h:∀ i,i<n->f i=g i):KB n f=KB n g:=by
 induction n with
 | zero=>rfl
 | succ n d=>rw[ON,ON,d λi _=>h i (by omega),h n (by omega)]
theorem uH {p:Plan} {l n:Nat} {G:GV} {round:Int} (hp:CG p=0) (h:((l+n:Nat):Int)<=p.N):FP p (CU l n G) round=⟨n,KB n λi=>dU p round (l+i) (G (l+i))⟩:=by
 have U:EQ p (CU l n G)=CU l n G:=if_pos (nY hp h).1;have V:=(BS hp).2.1;have e:(CU l n G).High - (CU l n G).Low=(n:Int):=by show((l+n:Nat):Int) - (l:Int)=n; omega
 have O:GR (CU l n G)=n:=by unfold GR; rw[e]; omega
 unfold FP;rw[U,e,O];congr 1;refine AiW λi hi=>?_;have d:at0 (CU l n G).A i=(G (l+i)).1:=gB hi;have D:(CU l n G).Low+(i:Int)=((l+i:Nat):Int):=by show(l:Int)+i=_; omega
 have J:G7 (CU l n G).On i=(G (l+i)).2.2:=qP hi (by omega);unfold kF dU;rw[d,D,J]
theorem Ag2 {p:Plan} {l n:Nat} {G:GV} {round:Int} (hp:CG p=0) (h:((l+n:Nat):Int)<=p.N) :
  V6 p (CU l n G) round=if p.Kind=4∧p.Length<=round then 0 else ((JA n λi=>if p.Kind=5 then (G (l+i)).1==0 else (G (l+i)).2.2:Nat):Int):=by
 have O:EQ p (CU l n G)=CU l n G:=if_pos (nY hp h).1;have U:=(BS hp).2.1;have e:(CU l n G).High - (CU l n G).Low=(n:Int):=by show((l+n:Nat):Int) - (l:Int)=n; omega
 have J:GR (CU l n G)=n:=by unfold GR; rw[e]; omega
 unfold V6 ArD;rw[O,J]
 have:JA n (sK p (CU l n G))=JA n λi=>if p.Kind=5 then (G (l+i)).1==0 else (G (l+i)).2.2:=ZZ λi hi=>by have d:at0 (CU l n G).A i=(G (l+i)).1:=gB hi;have D:G7 (CU l n G).On i=(G (l+i)).2.2:=qP hi (by omega);unfold sK;rw[d,D]
 rw[this]
theorem Ag3 {β:Type} (a b:Nat) (f:Nat->β):J6 (a+b) f=J6 a f++J6 b λj=>f (a+j):=by
 induction b with
 | zero=>simp[J6]
 | succ b d=>rw[<-Aa5,fZ,d,fZ,lL]
theorem ArH (a b:Nat) (f:Nat->Bool):NH (a+b) f=NH a f++(NH b λj=>f (a+j)).map λx:Int=>x+(a:Int):=by
 induction b with
 | zero=>simp[NH]
 | succ b d=>
  rw[<-Aa5,YN,d,YN];grind
theorem Ag4 (a b:Nat) (f:Nat->Int×Bool):KB (a+b) f=KB a f++(KB b λj=>f (a+j)).map λx=>(⟨a+x.At,x.Val⟩:B3):=by
 induction b with
 | zero=>simp[KB]
 | succ b d=>
  rw[<-Aa5,ON,d,ON];grind
theorem An3 (n:Nat) (f:Nat->Bool):(NH n f).Pairwise (· < ·):=by
 induction n with
 | zero=>simp[NH]
 | succ n d=>
  rw[YN];split
  . rw[AjE];refine⟨d,by simp,λ_ h _ D=>?_⟩;simp only[lO] at D;have:=gA h;omega
  . exact d
theorem nZ {n:Nat} {f:Nat->Int×Bool} {x:B3} (h:x∈KB n f):0<=x.At∧x.At<n:=by unfold KB at h;grind
theorem ArI (n:Nat) (f:Nat->Int×Bool):IncI (KB n f):=by
 induction n with
 | zero=>exact List.Pairwise.nil
 | succ n d=>
  rw[ON];split
  . unfold IncI;rw[AjE];refine⟨d,by simp,λ_ D _ h=>?_⟩;simp only[lO] at h;subst h;exact(nZ D).2
  . exact d
theorem wW {n:Nat} (h:n<=4096) (f:Nat->Int×Bool):VecP ⟨n,KB n f⟩:=⟨by simp only; omega,by simp only; omega,ArI n f,λ_ d=>nZ d⟩
theorem ArJ {n:Nat} (d:n<=4096) (f:Nat->Bool):WN (rW n (NH n f))=NH n f:=AqF (by omega) (An3 n f) λ_ hi=>gA hi
theorem ArK {α β:Type} {xs:List α} {ys:List β} {f:α->β} {d:List β×Int->(List β×Int->Prop)->Prop} (U:xs.length<=1000000000)
   (D:∀ (i:Nat) (s:List β) (next:List β×Int->Prop) (hi:i<xs.length),s.length=ys.length+i->next (s++[f xs[i]],AJ ((i:Int)+1))->d (s,(i:Int)) next)
   (O:∀ (next:List β×Int->Prop),d (ys++xs.map f,(xs.length:Int)) next):B4 d (ys,0):=by
 refine AL (λ(s:List β) i=>(s,i)) 0 xs.length (by omega) (λk s=>s=ys++(xs.take k).map f) (by omega) (by simp) (λk s next _ hk h J=>?_) (λs next h=>?_)
 . refine D k s next hk (by subst h; simp; omega) (J _ ?_);subst h;rw[eX hk,iE,lL]; rfl
 all_goals grind
def stepX (p:Plan) (T:List A5) (s:State) (round:Int):List BK×Int:=nE (BV p.Kind round) p.N p.N T (FP p s round) (IA p s).1 (IA p s).2
def bI (p:Plan) (T:List A5) (s:State) (round:Int):Vec×Int:=if (stepX p T s round).2≠0 then (zV,(stepX p T s round).2) else iK (BV p.Kind round) p.N (stepX p T s round).1
def NJ (p:Plan) (T:List A5) (s:State) (round:Int):State×Int:=if (bI p T s round).2≠0 then (zSt,(bI p T s round).2) else (gT p s round (bI p T s round).1,0)
structure Whole (p:Plan) (s:State):Prop where
 st:StP p s
 ok:kD s
 lo:s.Low=0
 hi:s.High=p.N
 va:∀ x∈s.A,EA x
theorem Whole.sure {p:Plan} {s:State} (h:Whole p s):EQ p s=s:=if_pos h.st
theorem Ag5 {p:Plan} (hp:CG p=0):Whole p (PP p 0 p.N):=by
 have D:=(BS hp).2.1;have h:=ArE (p:=p) (low:=0) (high:=p.N) hp (by omega) (by omega) (by omega);refine⟨h.1,h.2,?_,?_,?_⟩
 . unfold PP; rw[if_pos ⟨hp,by omega,by omega,by omega⟩]; rfl
 . unfold PP; rw[if_pos ⟨hp,by omega,by omega,by omega⟩]; rfl
 . unfold PP; rw[if_pos ⟨hp,by omega,by omega,by omega⟩];intro x d;obtain⟨_,hi,rfl⟩:=List.mem_map.1 (show x∈J6 _ _ from d);have hi:=List.mem_range.1 hi;simp only;unfold kE AyN EA;grind
theorem ArL {o:Option Int} (h:∀ y,o=some y->EA y):EA (YG o).1:=by
 cases o with
 | none=>unfold EA YG; simp
 | some y=>exact h y rfl
theorem Whole.upd {p:Plan} {s:State} (h:Whole p s) {round:Int} (hr:0<=round∧round<=1000000) {y:Vec} (O:∀ x∈y.Items,EA x.Val):Whole p (gT p s round y):=by
 have d:=AwW (round:=round) (y:=y) h.st h.ok;refine⟨d.1,d.2.1,d.2.2.1.trans h.lo,d.2.2.2.trans h.hi,?_⟩;unfold gT;rw[h.sure];split
 . intro x U;obtain⟨i,hi,rfl⟩:=List.mem_map.1 (show x∈J6 _ _ from U);have hi:=List.mem_range.1 hi
   have W:EA (at0 s.A i):=by
    have D:i<s.A.length:=by have:=h.st.2.2.2.2.1; omega
    have:at0 s.A i=s.A[i]:=by unfold at0; simp[D]
    rw[this]; exact h.va _ (PW D)
   have Z:EA (YG (FM y.Items i)).1:=ArL λ_ J=>O _ (PJ J);have V:EA round:=by unfold EA; omega
   show EA (AiU p s round i (FM y.Items i)).1;unfold AiU;simp only
   repeat' split
   all_goals first | assumption | (unfold EA; omega)
 . exact h.va
theorem ArM {r n:Int} {l:List BK}:∀ x∈(iK r n l).1.Items,EA x.Val:=by
 unfold iK
 repeat' split
 all_goals first | (intro x h; cases h; done) | skip
 intro x h;have⟨_,_,d⟩:=List.mem_filterMap.1 h;unfold nzI at d;split at d
 . cases d; exact AkN _
 . cases d
theorem An4 {p:Plan} {T:List A5} {s:State} {round:Int}:∀ x∈(bI p T s round).1.Items,EA x.Val:=by
 unfold bI;split
 . intro x d; cases d
 . exact ArM
def MU (p:Plan) (T:List A5):Nat->State
 | 0=>PP p 0 p.N
 | k+1=>(NJ p T (MU p T k) ((k:Int)+1)).1
def bJ (p:Plan) (T:List A5) (limit:Int) (k:Nat):Int:=if V6 p (MU p T k) k=0 then 1 else if (k:Int)=limit then 2 else if (NJ p T (MU p T k) ((k:Int)+1)).2≠0 then 3 else 0
theorem Ag6 {P:Nat->Prop}:∀ m:Nat,P m->∃ n,n<=m∧(∀ k,k<n->¬P k)∧P n
 | 0,h=>⟨0,Z0 _,λk _=>by omega,h⟩
 | m+1,h=>by
  by_cases h':∃ j,j<=m∧P j
  . have⟨j,_,hp⟩:=h';have⟨n,_,_,_⟩:=Ag6 j hp;grind
  all_goals grind
termination_by m=>m
decreasing_by omega
structure AwY (p:Plan) (T:List A5) (limit:Int) (n:Nat) (st:Int):Prop where
 le:(n:Int)≤limit
 lt:∀ k,k<n→bJ p T limit k=0
 at_:bJ p T limit n=st
 ne:st≠0
theorem AuG (p:Plan) (T:List A5) (h:0<=limit):∃ n D,AwY p T limit n D:=by
 have⟨n,_,J,d⟩:=Ag6 (P:=λk=>bJ p T limit k≠0) limit.toNat (by
  unfold bJ;split
  . simp
  . rw[if_pos (by omega)]; simp)
 exact⟨n,_,by omega,λk hk=>AjD (J k hk),rfl,d⟩
theorem aB {p:Plan} {T:List A5} {k:Nat} (h:bJ p T limit k=0):V6 p (MU p T k) k≠0∧(k:Int)≠limit∧(NJ p T (MU p T k) ((k:Int)+1)).2=0:=by grind[bJ]
theorem An5 {p:Plan} {T:List A5} {s:State} {round:Int} (h:(NJ p T s round).2=0):(bI p T s round).2=0∧NJ p T s round=(gT p s round (bI p T s round).1,0):=by grind[NJ,bI]
theorem ArN {p:Plan} {T:List A5} (d:0<=limit):∀ {k:Nat},(∀ j,j<k->bJ p T limit j=0)->(k:Int)<=limit
 | 0,_=>d
 | k+1,h=>by have ih:=ArN (k:=k) d λj _=>h j (by omega);have:=aB (h k (by omega));omega
theorem gC {p:Plan} {T:List A5} (hp:CG p=0) (d:0<=limit∧limit<=8192):∀ {k:Nat},(∀ j,j<k->bJ p T limit j=0)->Whole p (MU p T k)
 | 0,_=>Ag5 hp
 | k+1,h=>by have ih:=gC (k:=k) hp d λj _=>h j (by omega);have hk:=ArN d.1 h;have:=aB (h k (by omega));have e:=(An5 this.2.2).2;show Whole p (NJ p T (MU p T k) ((k:Int)+1)).1;rw[e];exact ih.upd (by omega) An4
def nzW (r:Int) (w:AQ):Option Int:=if (HL w).1≠zS r then some (HL w).1 else none
def bQ (p:Plan) (g:Int×Int×Bool):Bool:=if p.Kind=1 then g.1 == -1 else if p.Kind=5 then g.1==0 else true
def gU (p:Plan) (T:List A5) (n:Nat) (round:Int) (G:GV) (v:Nat):Option AQ:=PL (BV p.Kind round) n (FM (NG T v)) (FM (KB n λi=>dU p round i (G i)))
def oA (p:Plan) (T:List A5) (n:Nat) (round:Int) (G:GV) (v:Nat):Option Int:=if bQ p (G v)=true then (gU p T n round G v).bind (nzW (BV p.Kind round)) else none
theorem ArO {r:Int} {s:BK} {x:B3} (h:nzI r s=some x):x.At=s.At:=by unfold nzI at h;grind
theorem ArP {r:Int}:∀ {l:List BK},Rise l->∀ i:Int,FM (l.filterMap (nzI r)) i=(lk l i).bind (nzW r)
 | [],_,i=>rfl
 | s :: l,h,i=>by
  have hr:Rise l:=(List.pairwise_cons.1 h).2;have d:=(List.pairwise_cons.1 h).1;have D:=ArP (r:=r) hr i;rw[AjF,EB]
  cases O:nzI r s with
  | none=>
   rw[D];by_cases e:i=s.At
   . rw[if_pos e,WK λx J=>by have:=d x J; omega];simp only[Option.bind_none,Option.bind_some];unfold nzI at O; grind[nzW]
   . rw[if_neg e]
  | some x=>
   rw[IZ,ArO O,D];by_cases e:i=s.At
   . rw[if_pos e,if_pos e];unfold nzI at O; grind[nzW]
   . rw[if_neg e,if_neg e]
theorem AlE {r n:Int} {l:List BK} (D:0<=n∧n<=4096) (h:Rise l) (hi:∀ s∈l,0<=s.At∧s.At<n):VecP ⟨n,l.filterMap (nzI r)⟩:=by
 refine⟨D.1,D.2,?_,λ_ _=>?_⟩
 . refine List.Pairwise.filterMap _ (λ_ _ _ _ _ _ _=>?_) h;grind[ArO]
 all_goals grind[ArO]
theorem wX {p:Plan} (h:1<=p.Kind∧p.Kind<=5) (round:Int):1<=BV p.Kind round∧BV p.Kind round<=5:=by unfold BV;omega
theorem AlF {p:Plan} {n:Nat} {G:GV} (d:n<=4096) {i:Nat} (hi:i<n):GK (IA p (CU 0 n G)).1 (IA p (CU 0 n G)).2 i=bQ p (G i):=by
 have J:GR (CU 0 n G)=n:=by show((((0+n:Nat):Int)) - ((0:Nat):Int)).toNat=n; omega
 have h:∀ j,j<n->at0 (CU 0 n G).A j=(G j).1:=λj D=>by have:at0 (CU 0 n G).A j=(G (0+j)).1:=gB D;grind
 unfold IA bQ GK;rw[J];by_cases h1:p.Kind=1
 . rw[if_pos h1,if_pos h1];simp only;rw[qP hi d,h i hi];simp
 . rw[if_neg h1,if_neg h1];by_cases h5:p.Kind=5
   . rw[if_pos h5,if_pos h5];simp only;rw[qP hi d,h i hi];simp
   . rw[if_neg h5,if_neg h5];simp only;rw[TY (by simp)];rfl
theorem wY {p:Plan} {T:List A5} {n:Nat} {G:GV} {round:Int} (hp:CG p=0) (hn:p.N=n) :
   ((∃ v w,v<n∧bQ p (G v)=true∧gU p T n round G v=some w∧(HL w).2=false)->NJ p T (CU 0 n G) round=(zSt,12)) ∧
   ((∀ v w,v<n->bQ p (G v)=true->gU p T n round G v=some w->(HL w).2=true)->NJ p T (CU 0 n G) round=(CU 0 n (AbF p round G (oA p T n round G)),0)):=by
 have D:=BS hp;have a2:n<=4096:=by have:=D.2.1; omega
 have hr:=wX D.1 round
 have a7:FP p (CU 0 n G) round=⟨n,KB n λi=>dU p round i (G i)⟩:=by rw[uH hp (by omega)];grind
 have hx:stepX p T (CU 0 n G) round=(M7 (BV p.Kind round) n n (IA p (CU 0 n G)).1 (IA p (CU 0 n G)).2 (λi=>FM (NG T i)) (FM (KB n λi=>dU p round i (G i))),0):=by unfold stepX nE;grind
 have d:=US (BV p.Kind round) n (IA p (CU 0 n G)).1 (IA p (CU 0 n G)).2 (λi=>FM (NG T i)) (FM (KB n λi=>dU p round i (G i))) n;generalize M7 (BV p.Kind round) n n (IA p (CU 0 n G)).1 (IA p (CU 0 n G)).2 (λi=>FM (NG T i)) (FM (KB n λi=>dU p round i (G i)))=l at hx d;have⟨U,_,_,q4,q5⟩:=d
 have a4:∀ i:Nat,i<n->lk l i=if bQ p (G i)=true then gU p T n round G i else none:=by
   intro i hi;rw[q5,AlF a2 hi];by_cases J:bQ p (G i)=true
   . rw[if_pos ⟨by omega,by omega,J⟩,if_pos J]; rfl
   all_goals grind
 have Z:bI p T (CU 0 n G) round=if ∃ s∈l,(HL s.Val).2=false then (zV,12) else (⟨n,l.filterMap (nzI (BV p.Kind round))⟩,0):=by unfold bI iK;rw[hx];simp only;rw[if_neg (λh=>h rfl),if_neg (λh=>h hr),if_neg,if_neg (λh=>h U),hn];grind
 constructor
 . rintro⟨v,w,V,J,hw,O⟩;have hm:(⟨(v:Int),w⟩:BK)∈l:=qG (by rw[a4 v V,if_pos J,hw]);have:bI p T (CU 0 n G) round=(zV,12):=by rw[Z,if_pos ⟨_,hm,O⟩]
   grind[NJ]
 . intro a6
   have:bI p T (CU 0 n G) round=(⟨n,l.filterMap (nzI (BV p.Kind round))⟩,0):=by
     rw[Z,if_neg];rintro⟨s,W,O⟩;have a5:=q4 s W;obtain⟨v,V⟩:∃ v:Nat,s.At=v:=⟨s.At.toNat,by omega⟩;have h1:lk l v=some s.Val:=by rw[<-V]; exact vZ U W
     grind
   unfold NJ;rw[this];simp only;rw[if_neg (λh=>h rfl),Ad5 (Y:=oA p T n round G) hp (by omega) (AlE ⟨by omega,by omega⟩ U q4) rfl];grind[ArP,oA]
theorem Ag7 {p:Plan} {T:List A5} {n:Nat} {G:GV} {round:Int} (hp:CG p=0) (V:p.N=n) (h:(NJ p T (CU 0 n G) round).2=0) :
  (∀ v w,v<n->bQ p (G v)=true->gU p T n round G v=some w->(HL w).2=true)∧NJ p T (CU 0 n G) round=(CU 0 n (AbF p round G (oA p T n round G)),0):=by
 have D:=wY (T:=T) (G:=G) (round:=round) hp V
 have d:∀ v w,v<n->bQ p (G v)=true->gU p T n round G v=some w->(HL w).2=true:=by
  intro v w J U O
  cases W:(HL w).2 with
  | true=>rfl
  | false=>rw[D.1 ⟨v,w,J,U,O,W⟩] at h; cases h
 exact⟨d,D.2 d⟩
def GS (p:Plan) (T:List A5) (n:Nat):Nat->GV
 | 0=>gV0 p
 | k+1=>AbF p ((k:Int)+1) (GS p T n k) (oA p T n ((k:Int)+1) (GS p T n k))
theorem Ad6 {p:Plan} {T:List A5} {n:Nat} (hp:CG p=0) (d:p.N=n):∀ {k:Nat},(∀ j,j<k->bJ p T limit j=0)->MU p T k=CU 0 n (GS p T n k)
 | 0,_=>by
  show PP p 0 p.N=CU 0 n (gV0 p);exact AbE hp rfl (by rw[d]; omega) (by omega)
 | k+1,h=>by have ih:=Ad6 (k:=k) hp d λj _=>h j (by omega);have:=(aB (h k (by omega))).2.2;show(NJ p T (MU p T k) ((k:Int)+1)).1=_;rw[ih] at this ⊢;rw[(Ag7 hp d this).2];rfl
theorem ArQ {n:Nat} {f g:Nat->Bool} (h:∀ i,i<n->g i=true->f i=true):JA n g<=JA n f:=by
 induction n with
 | zero=>exact Z0 _
 | succ n d=>
  rw[MS,MS];have O:=d λi _=>h i (by omega);have D:=h n (by omega)
  cases J:g n with
  | false=>simp only[AbS,if_false]; split <;> omega
  | true=>rw[D J]; simp only[if_true]; omega
theorem AbG {n:Nat} {f:Nat->Bool} (h:JA n f≠0):∃ i,i<n∧f i=true:=by
 by_cases h':∃ i,i<n∧f i=true
 . exact h'
 . refine absurd (AbD λi hi=>?_) h
   cases d:f i with
   | false=>rfl
   | true=>exact absurd ⟨i,hi,d⟩ h'
theorem Ad7 (f:Nat->Int×Bool) (j:Nat):∀ n:Nat,FM (KB n f) (j:Int)=if j<n∧(f j).2=true then some (f j).1 else none
 | 0=>by rw[if_neg (by omega)]; rfl
 | n+1=>by
  rw[ON];by_cases hn:(f n).2=true
  . rw[if_pos hn,RB,Ad7 f j n,IZ];by_cases e:j=n
    . subst e;rw[if_neg (λh=>by omega),if_pos rfl,if_pos ⟨by omega,hn⟩]
    . rw[if_neg (show ¬(j:Int)=(n:Int) by omega)];by_cases h:j<n∧(f j).2=true
      . rw[if_pos h,if_pos ⟨by omega,h.2⟩]
      . rw[if_neg h,if_neg (λd=>h ⟨by omega,d.2⟩)]; rfl
  . rw[if_neg hn,Ad7 f j n];by_cases h:j<n∧(f j).2=true
    . rw[if_pos h,if_pos ⟨by omega,h.2⟩]
    . rw[if_neg h,if_neg];rintro⟨_,h2⟩;by_cases e:j=n
      . subst e; exact hn h2
      . exact h ⟨by omega,h2⟩
theorem An6 {rows cols:Int} {T:List A5} (h:Canon rows cols T) {i j a:Int} (hi:0<=i):FM (NG T i) j=some a↔(⟨i,j,a⟩:A5)∈T:=by
 have D:IncI ((PX T i.toNat).map sY):=by unfold IncI PX;rw[X3];refine AhC ?_ (X2 _ h.srt);intro a b Z hb d;have U:=of_decide_eq_true (List.mem_filter.1 Z).2;have V:=of_decide_eq_true (List.mem_filter.1 hb).2;unfold KY key at d;simp only[sY];simp only at d;omega
 unfold NG;rw[nH D,gL];unfold PX;constructor
 . rintro⟨t,O,J⟩;have⟨U,V⟩:=List.mem_filter.1 O;have h3:=of_decide_eq_true V;unfold sY at J;have⟨W,_,_⟩:=t;simp only[B3.mk.injEq] at J h3;obtain⟨rfl,rfl⟩:=J;rw[show i=W by omega];exact U
 . intro O;exact⟨_,List.mem_filter.2 ⟨O,by simp; omega⟩,rfl⟩
structure AyQ (p:Plan) (n:Nat) (T:List A5):Prop where
 can:Canon n n T
 pos:∀ t∈T,0≤t.Val
 ini:∀ t∈T,EA t.Val
 loop:p.Kind=5→∀ t∈T,t.Row≠t.Col
end
section
variable {limit st:Int}
theorem Ag8 {k:HM} {v:AQ}:∀ {l:List (HM×AQ)} {p:HM×AQ},p∈ins 1 k v l->p=(k,v)∨p∈l
 | [],p,h=>by simp[ins] at h; exact .inl h
 | q :: l,p,h=>by
  unfold ins at h;split at h
  . rcases List.mem_cons.1 h with rfl | h
    . exact .inr (by simp)
    . rcases Ag8 h with h | h
      . exact .inl h
      . exact .inr (by simp[h])
  . split at h
    . rename_i hk;rcases List.mem_cons.1 h with rfl | h
      . unfold KJ;rw[if_pos (.inl rfl)];split
        . right;have⟨_,_⟩:=q;simp only at hk;subst hk; simp
        . exact .inl rfl
      . exact .inr (by simp[h])
    . rcases List.mem_cons.1 h with rfl | h
      . exact .inl rfl
      . exact .inr h
theorem AlG:∀ {ts:List (HM×Int)} {p:HM×AQ},p∈SC 1 ts->∃ t∈ts,p=(t.1,cT t.2):=by
 suffices ∀ (ts:List (HM×Int)) (l:List (HM×AQ)) p,p∈ts.foldl (λl t=>ins 1 t.1 (cT t.2) l) l->(∃ t∈ts,p=(t.1,cT t.2))∨p∈l from λ{ts p} h=>by
  rcases this ts [] p h with h | h
  . exact h
  . simp at h
 intro ts
 induction ts with
 | nil=>intro l p h; exact .inr h
 | cons t ts J=>
  intro l p h;rcases J _ _ h with⟨x,D,e⟩ | U
  . exact .inl ⟨x,by simp[D],e⟩
  . rcases Ag8 U with d | O
    . exact .inl ⟨t,by simp,d⟩
    . exact .inr O
theorem YO {es:List B5} (D:∀ e∈es,EA e.W) {e:B5} (d:e∈G6 es):e∈es:=by
 unfold G6 TI at d;split at d
 . obtain⟨_,hp,rfl⟩:=List.mem_map.1 d;obtain⟨_,J,rfl⟩:=AlG hp;obtain⟨x,h,rfl⟩:=List.mem_map.1 J;simp only[kvE];rw[uB (D x h)];exact h
 . cases d
theorem qQ {g:Graph} (D:∀ e∈g.Edges,EA e.W) {t:A5} (d:t∈EP g):∃ e∈g.Edges,t=⟨e.To,e.From,e.W⟩:=by
 unfold EP TI at d;split at d
 . obtain⟨_,hp,rfl⟩:=List.mem_map.1 d;obtain⟨_,J,rfl⟩:=AlG hp;obtain⟨x,h,rfl⟩:=List.mem_map.1 J;refine⟨x,h,?_⟩;simp only[kvF];rw[uB (D x h)];rfl
 . cases d
def I6 (n:Int) (es:List B5):Prop:=∀ e∈es,rR n e∧wOk e
theorem FA {n:Int} {es:List B5} (h:I6 n es):∀ e∈es,EA e.W:=λe d=>by have:=(h e d).2; unfold wOk at this; unfold EA; omega
theorem MB {n:Int} {es:List B5} (h:I6 n es):I6 n (G6 es):=λe d=>h e (YO (FA h) d)
theorem U0 {n:Int} {es:List B5} (h:I6 n es):I6 n (es.map Ar5):=λ_ D=>by obtain⟨x,d,rfl⟩:=List.mem_map.1 D;exact⟨(h x d).1,by unfold wOk Ar5; simp⟩
theorem kH {n:Int} {es:List B5} (h:I6 n es):I6 n (es.map rS):=λ_ D=>by obtain⟨x,d,rfl⟩:=List.mem_map.1 D;have:=h x d;exact⟨⟨this.1.2,this.1.1⟩,this.2⟩
theorem An7 {n:Int} {xs ys:List B5} (h:I6 n xs) (D:I6 n ys):I6 n (xs++ys):=λe J=>by
 rcases List.mem_append.1 J with d | d
 . exact h e d
 . exact D e d
theorem aC {g:Graph} (h:G3 g=0):I6 g.N g.Edges:=λe d=>⟨(JJ h).2.2.2.1 e d,(JJ h).2.2.2.2 e d⟩
theorem wZ {g:Graph} (J:0<=g.N∧g.N<=4096) (O:g.Edges.length<=65536) (h:I6 g.N g.Edges):G3 g=0:=by unfold G3;rw[if_neg (by omega),if_neg (by omega),if_neg (λd=>d λe D=>(h e D).1),if_neg (λd=>d λe D=>(h e D).2)]
def noL (es:List B5):Prop:=∀ e∈es,e.From≠e.To
def KC (p:Plan) (g:Graph):Graph:=if p.Kind=5 then MA (V0 (dR g)) else if p.Kind=3 then MA (V0 g) else if p.Kind=1 then MA g else g
theorem kI {g:Graph} (h:I6 g.N g.Edges):I6 (MA g).N (MA g).Edges∧(MA g).Edges.length<=g.Edges.length∧(noL g.Edges->noL (MA g).Edges):=by
 refine⟨MB (U0 h),?_,λD _ J=>?_⟩
 . have:=OM (FA (U0 h)); rwa [gK] at this
 . have:=YO (FA (U0 h)) J;obtain⟨x,d,rfl⟩:=List.mem_map.1 this;exact D x d
theorem gD {g:Graph} (h:I6 g.N g.Edges):I6 (V0 g).N (V0 g).Edges∧(V0 g).Edges.length<=2*g.Edges.length∧(noL g.Edges->noL (V0 g).Edges):=by
 have W:I6 g.N (sI g).Edges:=MB (kH h);have D:=An7 h W;refine⟨MB D,?_,λJ e V=>?_⟩
 . have d:=OM (FA D);have O:=OM (FA (kH h));rw[bL] at d;rw[gK] at O;have:(sI g).Edges.length<=g.Edges.length:=O;show(G6 _).length<=_;omega
 . rcases List.mem_append.1 (YO (FA D) V) with d | d
   . exact J e d
   . obtain⟨x,U,rfl⟩:=List.mem_map.1 (YO (FA (kH h)) d);exact λe=>J x U e.symm
theorem AbH {g:Graph} (h:I6 g.N g.Edges):I6 (dR g).N (dR g).Edges∧(dR g).Edges.length<=g.Edges.length∧noL (dR g).Edges:=by
 have D:I6 g.N (g.Edges.filter RT):=λe d=>h e (List.mem_filter.1 d).1;refine⟨MB D,?_,λe d=>?_⟩
 . have J:=OM (FA D);have O:=uN RT g.Edges;show(G6 _).length<=_;omega
 . have:=(List.mem_filter.1 (YO (FA D) d)).2;unfold RT at this;simpa using this
theorem oB {p:Plan} {g:Graph} (h:I6 g.N g.Edges):(KC p g).N=g.N∧I6 g.N (KC p g).Edges∧(KC p g).Edges.length<=2*g.Edges.length∧(p.Kind=5->noL (KC p g).Edges):=by
 unfold KC;have O:=AbH h;have U:=gD h;have d:=gD O.1;have hp:=kI h;have J:=kI U.1;have D:=kI d.1;by_cases h5:p.Kind=5
 . rw[if_pos h5];exact⟨rfl,D.1,by have:=D.2.1; have:=d.2.1; have:=O.2.1; omega,λ_=>D.2.2 (d.2.2 O.2.2)⟩
 . rw[if_neg h5];by_cases h3:p.Kind=3
   . rw[if_pos h3]; exact⟨rfl,J.1,by have:=J.2.1; have:=U.2.1; omega,λh=>absurd h h5⟩
   . rw[if_neg h3];by_cases h1:p.Kind=1
     . rw[if_pos h1]; exact⟨rfl,hp.1,by have:=hp.2.1; omega,λh=>absurd h h5⟩
     all_goals grind
theorem ArR {p:Plan} {g:Graph} (hp:CG p=0) (O:g.N=p.N) (D:G3 g=0) (U:g.Edges.length<=30000):tC p g=(BR p.N p.N (EP (KC p g)),0)∧G3 (KC p g)=0:=by have V:=JJ D;have d:=oB (p:=p) (aC D);have J:G3 (KC p g)=0:=wZ (by omega) (by omega) (by rw[d.1]; exact d.2.1);refine⟨?_,J⟩;unfold tC;rw[if_neg (λh=>h hp),if_neg (λh=>h O),if_neg (λh=>h D)];show qB (KC p g)=_;unfold qB;rw[if_pos J,d.1,O]
theorem AvS {p:Plan} {g:Graph} {n:Nat} (hp:CG p=0) (V:g.N=p.N) (hN:p.N=n) (U:G3 g=0) (Z:g.Edges.length<=30000):AyQ p n (EP (KC p g)):=by
 have d:=oB (p:=p) (aC U);have W:=(ArR hp V U Z).2;have O:=dA W;rw[d.1,V,hN] at O;refine⟨O,λt D=>?_,λt D=>?_,λhk t D=>?_⟩
 . obtain⟨e,J,rfl⟩:=qQ (FA d.2.1) D;exact(d.2.1 e J).2.1
 . grind[qQ,FA]
 . obtain⟨e,J,rfl⟩:=qQ (FA d.2.1) D;exact λh=>d.2.2.2 hk e J h.symm
theorem AlH (p:Plan) (s:State):rU (IA p s).1:=by
 unfold IA
 repeat' split
 . exact(IX _ _).1
 . exact(IX _ _).1
 . simp[rU]
theorem AuH {l:List Int} (h:∀ x∈l,EA x) (i:Nat):EA (at0 l i):=by
 by_cases hl:i<l.length
 . have:at0 l i=l[i]:=by unfold at0; simp[hl]
   grind
 . rw[AfH (by omega)]; unfold EA; omega
theorem Whole.out {p:Plan} {s:State} (h:Whole p s) (round:Int):VecP (FP p s round)∧(∀ y∈(FP p s round).Items,EA y.Val)∧(FP p s round).N=p.N:=by
 have D:=BS h.st.1;have e:((GR s:Nat):Int)=s.High - s.Low:=by unfold GR; have:=h.lo; have:=h.hi; omega
 have U:=h.lo; have V:=h.hi;unfold FP;rw[h.sure];refine⟨?_,λy O=>?_,by simp only; omega⟩
 . have:=wW (n:=GR s) (by omega) (kF p s round);rw[e] at this; exact this
 . have⟨i,hi,d⟩:=List.mem_filterMap.1 (show y∈KB _ _ from O);have hi:=List.mem_range.1 hi;split at d
   . cases d;have J:=AuH h.va i;show EA (kF p s round i).1;unfold kF
     repeat' split
     . unfold EA; simp only; omega
     . unfold EA; simp only; omega
     . have W:0<=AfZ p round (s.Low+i)∧AfZ p round (s.Low+i)<=17592186044416:=by
        unfold AfZ AuB;split
        . have:=AvQ D.2.2.2.2.2 ((round - 1) / 2*p.N+(s.Low+i)); omega
        . omega
       unfold EA; simp only; omega
     . exact J
   . cases d
theorem Whole.ask {p:Plan} {s:State} {round:Int} {Q:List Int×Bool->Prop} (h:Whole p s) (d:Q (IA p s)):QL p s round Q:=iS h.ok (by rw[h.sure]; exact d)
theorem AyR {p:Plan} {g:Graph} (h:(tC p g).2=0):CG p=0∧g.N=p.N∧G3 g=0∧∃ T,Canon p.N p.N T∧(∀ t∈T,EA t.Val)∧tC p g=(BR p.N p.N T,0):=by
 unfold tC at h ⊢;by_cases D:CG p≠0
 . grind
 rw[if_neg D] at h ⊢;by_cases d:g.N≠p.N
 . grind
 rw[if_neg d] at h ⊢;by_cases J:G3 g≠0
 . grind
 rw[if_neg J] at h ⊢;have D:=AjD D; have d:=AjD d; have J:=AjD J;refine⟨D,d,J,?_⟩
 have V:(if p.Kind=5 then MA (V0 (dR g)) else if p.Kind=3 then MA (V0 g) else if p.Kind=1 then MA g else g).N=p.N:=by
   repeat' split
   all_goals exact d
 generalize (if p.Kind=5 then MA (V0 (dR g)) else if p.Kind=3 then MA (V0 g) else if p.Kind=1 then MA g else g)=G at h V ⊢;unfold qB at h ⊢;by_cases hG:G3 G=0
 . rw[if_pos hG];have U:=dA hG;rw[V] at U ⊢;refine⟨_,U,λt O=>?_,rfl⟩;unfold EP TI at O;split at O
   . obtain⟨p,_,rfl⟩:=List.mem_map.1 O;exact AkN p.2
   . cases O
 all_goals grind
def Ad8 (p:Plan) (g:Graph) (limit:Int):Int:=if (tC p g).2≠0 then (tC p g).2 else if limit<0∨8192<limit then 3 else 0
theorem dV {p:Plan} {g:Graph} {Q:Int->Prop} (d:Q (Ad8 p g limit)):S2 p g limit Q:=by unfold S2;unfold Ad8 at d;refine V4 (BO (λh=>by rwa [if_pos h] at d) (λh=>?_));rw[if_neg (λO=>O h)] at d;exact A2 (λD=>by rwa [if_pos (.inl D)] at d) (λD=>A2 (λJ=>by rwa [if_pos (.inr J)] at d) (λJ=>by rwa [if_neg (by omega)] at d))
theorem An8 {S:Type} {p:Plan} {T:List A5} {n:Nat} (hp:CG p=0) (U:0<=limit∧limit<=8192) (E:AwY p T limit n st) {d:S->(S->Prop)->Prop} {enc:Nat->S}
   (J:∀ k next,k<n->Whole p (MU p T k)->V6 p (MU p T k) k≠0->(k:Int)≠limit->NJ p T (MU p T k) ((k:Int)+1)=(MU p T (k+1),0)->next (enc (k+1))->d (enc k) next)
   (h:∀ next,Whole p (MU p T n)->bJ p T limit n=st->d (enc n) next):B4 d (enc 0):=by
 refine AL (λ(s:Unit) i=>enc i.toNat) 0 n (by have:=E.le; omega) (λ_ _=>True) (by omega) (s0:=()) trivial (λi s next _ hi _ D=>?_) (λs next _=>?_)
 . have O:=aB (E.lt i hi);have W:=gC hp U (k:=i) λj V=>E.lt j (by omega);have D:=D () trivial;have e:(AJ ((i:Int)+1)).toNat=i+1:=by rw[AK (by omega) (by have:=E.le; omega)]; omega
   simp only[e] at D;simp only[YZ];refine J i next hi W O.1 O.2.1 ?_ D;have:(NJ p T (MU p T i) ((i:Int)+1)).1=MU p T (i+1):=rfl;rw[<-this,<-O.2.2]
 . simp only[YZ];exact h next (gC hp U (k:=n) λj V=>E.lt j V) E.at_
def ArS (p:Plan) (T:List A5) (n:Nat) (st:Int):Result:=⟨st,n,MU p T n⟩
theorem uI {p:Plan} {T:List A5} {k:Nat} (d:st≠0) (h:bJ p T limit k=st):(V6 p (MU p T k) k=0∧st=1)∨(V6 p (MU p T k) k≠0∧(k:Int)=limit∧st=2)∨(V6 p (MU p T k) k≠0∧(k:Int)≠limit∧(NJ p T (MU p T k) ((k:Int)+1)).2≠0∧st=3):=by unfold bJ at h;omega
structure MRun (p:Plan) (g:Graph) (limit:Int) (T:List A5) (n:Nat) (st:Int):Prop where
 rp:CG p=0
 cn:Canon p.N p.N T
 vs:∀ t∈T,EA t.Val
 mt:tC p g=(BR p.N p.N T,0)
 lm:0≤limit∧limit≤8192
 en:AwY p T limit n st
theorem MRun.check {p:Plan} {g:Graph} {T:List A5} {n:Nat} (R:MRun p g limit T n st):Ad8 p g limit=0:=by unfold Ad8;rw[R.mt,if_neg (by simp),if_neg (by have:=R.lm; omega)]
theorem MRun.whole {p:Plan} {g:Graph} {T:List A5} {n:Nat} (R:MRun p g limit T n st) {k:Nat} (h:k<=n):Whole p (MU p T k):=gC R.rp R.lm λj _=>R.en.lt j (by omega)
theorem zI {a b:Result} {Q:Bool->Prop} (U:AbC a.State) (O:Q (decide (a=b))):ZH a b Q:=by
 unfold ZH;have d:a≠b->Q false:=λh=>by rwa [decide_eq_false h] at O
 refine AY (λD=>AY (λJ=>Ag0 U ?_) (λJ=>d λh=>J (by rw[h]))) (λD=>d λh=>D (by rw[h]));by_cases h3:a.State=b.State
 . have:a=b:=by cases a; simp_all
   grind
 all_goals grind
theorem ArT {a:Graph} {Q:Graph->Prop} (V:∀ g:Graph,0<=g.N∧g.N<=23->g.Edges.length<=60->G3 g=0->Q g):W6 a Q:=by
 unfold W6;refine MT (λh=>by omega) (λ_ n U _=>?_);have d:∀ es:List B5,es.length<=60->I6 n es->Q ⟨n,es⟩:=λes D Z=>V _ ⟨U,by simp only; omega⟩ D (wZ (by simp only; omega) (by simp only; omega) Z);refine AL (λ(s:List B5) i=>(s,i)) 0 (min a.Edges.length 60) (by omega) (λi s=>s.length<=i∧I6 n s) (by omega) (s0:=[]) ⟨by simp,by intro e D; simp at D⟩ (λi s next _ _ J hn=>?_) (λs next J=>?_)
 . dsimp only;refine A2 (λ_=>A2 (λ_=>A2 (λ_=>B8 (by omega) ?_) (λ_=>d s (by omega) J.2)) (λh=>by omega)) (λh=>by omega);refine MT (λh=>by omega) λ_ _ O u1=>MT (λh=>by omega) λ_ _ v0 v1=>AO (by simp; omega) (hn _ ⟨by simp; omega,λe D=>?_⟩);rcases List.mem_append.1 D with h | h
   . exact J.2 e h
   . rw[List.mem_singleton.1 h];have:=ArG (a.Edges[i]'(by omega)).W (m:=2147483647) (by omega);refine⟨⟨⟨O,u1⟩,v0,v1⟩,?_⟩;unfold wOk;simp only; omega
 . dsimp only;exact A2 (λ_=>A2 (λ_=>by omega) (λ_=>d s (by omega) J.2)) (λ_=>d s (by omega) J.2)
theorem AuI {a:JU} {Q:Plan×Graph×Int->Prop} (h:ZM a) (D:∀ p g d,CG p=0->g.N=p.N->0<=g.N∧g.N<=23->g.Edges.length<=60->G3 g=0->0<=d∧d<=39->Q (p,g,d)):NQ a Q:=by
 unfold NQ;have J:=bounds_u8 h.2.2;refine ArT λg _ _ _=>AuE (by omega) λp _ _=>?_;have e:(AJ a.Limit).tmod 40=a.Limit % 40:=by rw[AK (by omega) (by omega),Ao6 (by omega)]
 grind
theorem AwZ {p:Plan} {g:Graph} {h:Int} (hp:CG p=0) (O:g.N=p.N) (V:g.Edges.length<=60) (J:G3 g=0) (d:0<=h∧h<=8192):∃ n st,MRun p g h (EP (KC p g)) n st:=by obtain⟨N,U⟩:∃ N:Nat,p.N=N:=⟨p.N.toNat,by have:=(BS hp).2.1; omega⟩;have D:=AvS (n:=N) hp O U J (by omega);have⟨n,st,E⟩:=AuG p (EP (KC p g)) d.1;exact⟨n,st,hp,by rw[U]; exact D.can,D.ini,(ArR hp O J (by omega)).1,d,E⟩
def ltE (a b:B5):Prop:=KY (a.From,a.To) (b.From,b.To)
theorem AbI {es:List B5} (h:∀ e∈es,EA e.W):(G6 es).Pairwise ltE:=by unfold G6;rw[uC (λ_ J=>by obtain⟨e,D,rfl⟩:=List.mem_map.1 J; exact h e D)];simp only;rw[X3];exact(jU 1 (es.map kvE)).imp λ{a b} d=>d
theorem AiX {es:List B5} (h:∀ e∈es,EA e.W) (U:es.Pairwise ltE):G6 es=es:=by
 have O:es.map kvE=(es.map e2t).map kvT:=by rw[AeC]; rfl
 have d:Srt (es.map e2t):=by unfold Srt;rw[X3];exact U.imp λ{a b} D=>D
 unfold G6;rw[uC (λ_ V=>by obtain⟨e,J,rfl⟩:=List.mem_map.1 V; exact h e J)];simp only;rw[O,AtM d,AeC,AeC]
 conv=>rhs; rw[<-List.map_id es]
 refine yM λe J=>?_;simp only[Function.comp_apply,e2t,key,id_eq];rw[uB (h e J)];rfl
theorem AbJ {g:Graph} (h:∀ e∈g.Edges,EA e.W) {t:A5}:t∈EP g↔(⟨t.Col,t.Row,t.Val⟩:B5)∈G6 g.Edges:=by
 have O:∀ t∈g.Edges.map kvE,EA t.2:=λt U=>by obtain⟨e,d,rfl⟩:=List.mem_map.1 U; exact h e d
 have D:∀ t∈g.Edges.map kvF,EA t.2:=λt U=>by obtain⟨e,d,rfl⟩:=List.mem_map.1 U; exact h e d
 unfold EP G6;rw[uC O,uC D];simp only;rw[gL,gL];constructor
 . rintro⟨_,hp,rfl⟩;obtain⟨q,J,rfl⟩:=List.mem_map.1 ((AkM g.Edges).mem_iff.2 hp);exact⟨q,J,rfl⟩
 . rintro⟨q,J,d⟩;refine⟨sw q,(AkM g.Edges).mem_iff.1 (AoD J),?_⟩;have⟨_,_,_⟩:=t;unfold mkE at d;simp only[B5.mk.injEq] at d;have⟨_,_,_⟩:=d;unfold mkT sw;grind
def LI (p:Plan) (g:Graph):List B5:=if p.Kind=5∨p.Kind=3∨p.Kind=1 then (KC p g).Edges else G6 g.Edges
structure Ag9 (n:Nat) (l:List B5) (T:List A5):Prop where
 good:I6 n l
 srt:l.Pairwise ltE
 mem:∀ t:A5,t∈T↔(⟨t.Col,t.Row,t.Val⟩:B5)∈l
theorem An9 {p:Plan} {g:Graph}:(p.Kind=5∨p.Kind=3∨p.Kind=1)->I6 g.N g.Edges->∃ es,I6 g.N es∧(KC p g).Edges=G6 es:=by
 intro hk h;unfold KC;by_cases h5:p.Kind=5
 . rw[if_pos h5]; exact⟨_,U0 (gD (AbH h).1).1,rfl⟩
 . rw[if_neg h5];by_cases h3:p.Kind=3
   . rw[if_pos h3]; exact⟨_,U0 (gD h).1,rfl⟩
   . rw[if_neg h3,if_pos (by omega)]; exact⟨_,U0 h,rfl⟩
theorem Ax0 {p:Plan} {g:Graph} {n:Nat} (V:g.N=n) (d:I6 g.N g.Edges):Ag9 n (LI p g) (EP (KC p g)):=by
 have O:=oB (p:=p) d;by_cases hk:p.Kind=5∨p.Kind=3∨p.Kind=1
 . have⟨es,h,W⟩:=An9 hk d;have J:LI p g=G6 es:=by grind[LI]
   have U:=AbI (FA h);rw[J];refine⟨V▸MB h,U,λt=>?_⟩;rw[AbJ (FA O.2.1),W,AiX (FA (MB h)) U]
 . have J:LI p g=G6 g.Edges:=if_neg hk;have D:KC p g=g:=by unfold KC; grind
   rw[J,D];exact⟨V▸MB d,AbI (FA d),λt=>AbJ (FA d)⟩
def oC (r:Int) (x:List B3) (e:B5):Option AQ:=(FM x e.From).map (YE r e.W)
def HO (r:Int) (x:List B3) (l:List B5) (v:Int):List AQ:=(l.filter λe=>decide (e.To=v)).filterMap (oC r x)
def Ad9 (r:Int) (l:List AQ):Option AQ:=l.foldl (λd w=>jX r d (some w)) none
theorem AnA {n:Nat} {l:List B5} {T:List A5} (Z:Canon n n T) (h:Ag9 n l T) {v:Nat}:NG T v=(l.filter λe=>decide (e.To=(v:Int))).map λe=>(⟨e.From,e.W⟩:B3):=by
 have J:IncI (NG T (v:Int)):=by unfold IncI NG PX;rw[X3];refine AhC ?_ (X2 _ Z.srt);intro a b U V d;have J:=of_decide_eq_true (List.mem_filter.1 U).2;have D:=of_decide_eq_true (List.mem_filter.1 V).2;unfold KY key at d;simp only[sY];simp only at d;omega
 have D:IncI ((l.filter λe=>decide (e.To=(v:Int))).map λe=>(⟨e.From,e.W⟩:B3)):=by unfold IncI;rw[X3];refine AhC ?_ (X2 _ h.srt);intro a b U V d;have J:=of_decide_eq_true (List.mem_filter.1 U).2;have D:=of_decide_eq_true (List.mem_filter.1 V).2;unfold ltE KY at d;simp only at d ⊢;omega
 refine AtX J D λ_=>AcO λa=>?_;rw[An6 Z (by omega),nH D,h.mem,gL];constructor
 . intro O;exact⟨_,List.mem_filter.2 ⟨O,by simp⟩,rfl⟩
 . rintro⟨e,O,_⟩;have⟨_,h4⟩:=List.mem_filter.1 O;have h5:=of_decide_eq_true h4;have⟨_,_,_⟩:=e;grind
theorem oD (r:Int) (x:List B3):∀ (l:List B5) (d:Option AQ),(l.map λe=>(⟨e.From,e.W⟩:B3)).foldl (bB r (FM x)) d=(l.filterMap (oC r x)).foldl (λd w=>jX r d (some w)) d
 | [],_=>rfl
 | e :: l,d=>by
  rw[OU,cF,oD r x l,AjF];unfold oC bB;simp only
  cases FM x e.From with
  | none=>rfl
  | some y=>rfl
theorem ArU {p:Plan} {n:Nat} {l:List B5} {T:List A5} {round:Int} {G:GV} (V:Canon n n T) (h:Ag9 n l T) (v:Nat) :
  gU p T n round G v=Ad9 (BV p.Kind round) (HO (BV p.Kind round) (KB n λi=>dU p round i (G i)) l v):=by
 have d:=AnA V h (v:=v);unfold gU
 rw[<-AfL (n:=n) (l:=NG T v) (by
  rw[d];unfold IncI;rw[X3];refine AhC ?_ (X2 _ h.srt);intro a b U W D;have Z:=of_decide_eq_true (List.mem_filter.1 U).2;have h2:=of_decide_eq_true (List.mem_filter.1 W).2;unfold ltE KY at D;simp only at D ⊢
  omega) (λ_ J=>by rw[d] at J;obtain⟨e,O,rfl⟩:=List.mem_map.1 J;exact(h.good e (List.mem_filter.1 O).1).1.1),d,oD]
 rfl
theorem AdA {r:Int}:∀ {l:List AQ} {d:Option AQ},(∀ w∈l,PZ w)->okO d->okO (l.foldl (λd w=>jX r d (some w)) d)
 | [],_,_,h=>h
 | w :: l,d,hl,h=>by
  rw[cF];refine AdA (l:=l) (λx D=>hl x (cD _ D)) ?_;have J:=hl w List.mem_cons_self;intro x D
  cases d with
  | none=>cases D; exact J
  | some a=>cases D; exact Y7 (h a rfl) J
theorem ArV {r:Int} {l m:List AQ} (hp:l.Perm m):∀ {d:Option AQ},(∀ w∈l,PZ w)->okO d->l.foldl (λd w=>jX r d (some w)) d=m.foldl (λd w=>jX r d (some w)) d:=by
 have J:∀ {w:AQ},PZ w->okO (some w):=λ{w} Z x h=>by have:=AbU h; subst this; exact Z
 induction hp with
 | nil=>intro _ _ _; rfl
 | cons w hp W=>
  intro d D V;rw[cF,cF];exact W (λx h=>D x (cD _ h)) (AdA (l:=[w]) (λx h=>by rw[lO] at h; subst h; exact D _ List.mem_cons_self) V)
 | swap a b l=>
  intro d D V;have O:=J (D b (by simp));have U:=J (D a (by simp));rw[cF,cF,cF,cF,qK V O U,qK V U O,AqI O U]
 | trans O U a4 a2=>
  grind
theorem ArW {r:Int} {x:List B3} {l:List B5} {v:Int}:∀ w∈HO r x l v,PZ w:=λw h=>by
 have⟨e,_,d⟩:=List.mem_filterMap.1 h;unfold oC at d
 cases D:FM x e.From with
 | none=>rw[D] at d; cases d
 | some y=>rw[D] at d; cases d; exact SD _ _ _
end
section
structure Abs where
 room:Nat
 row:List Nat
 fs:List AU
 taken:Nat
def xA (f:AU):Prop:=f.Vec.Items.length<=1000000∧f.Sums.length<=1000000∧f.Triples.length<=1000000
structure Inv0 (b:BF) (s:Abs):Prop where
 room:b.room=s.room
 row:b.row=s.row.map (fun n:Nat=>(n:Int))
 taken:b.taken=s.taken
 lt:∀ n∈s.row,n<s.fs.length
 by_:∀ n∈s.row,BG (n:Int) b.by_=s.fs[n]?
 byk:EY b.by_
 often:∀ n:Nat,BG (n:Int) b.often=if s.row.count n=0 then none else some (s.row.count n:Int)
 oftk:EY b.often
 rlen:s.row.length≤s.room
 r64:s.room≤64
 seq:∀ (i:Nat) (f:AU),s.fs[i]? = some f→f.Seq=i∧xA f
 flen:s.fs.length≤1000000
 tk:s.taken≤s.fs.length
structure iT (b:BF) (s:Abs):Prop extends Inv0 b s where
 sent:b.sent=s.fs.length
def zf:AU:={ Kind:=0,From:=0,To:=0,Seq:=0,Round:=0,Vec:={ N:=0,Items:=[] },Sums:=[],Triples:=[],N:=0,Over:=false }
def Abs.fullB (s:Abs):Bool:=decide (s.room<=s.row.length)
def Abs.send (s:Abs) (f:AU):Int×Abs:=if s.fullB then (9,s) else (0,{ s with row:=s.row++[s.fs.length],fs:=s.fs++[{ f with Seq:=s.fs.length }] })
def Abs.at (s:Abs) (k:Int):Int:=if k<0 then 3 else if (s.row.length:Int)<=k then 3 else 0
def Abs.num (s:Abs) (k:Int):Nat:=s.row.getD k.toNat 0
def Abs.double (s:Abs) (k:Int):Int×Abs:=if s.at k≠0 then (s.at k,s) else if s.fullB then (9,s) else (0,{ s with row:=s.row++[s.num k] })
def Abs.move (s:Abs) (k:Int):Int×Abs:=if s.at k≠0 then (s.at k,s) else (0,{ s with row:=s.row.eraseIdx k.toNat++[s.num k] })
def Abs.take (s:Abs) (k:Int):AU×Bool×Int×Abs:=
 if s.at k≠0 then (zf,false,s.at k,s)
 else if s.taken<s.num k then (zf,false,0,s)
 else if s.num k<s.taken then (zf,false,0,{ s with row:=s.row.eraseIdx k.toNat })
 else (s.fs.getD (s.num k) zf,true,0,{ s with row:=s.row.eraseIdx k.toNat,taken:=s.taken+1 })
def WQ (l:List Nat):Nat:=l.findIdx λn=>l.all λm=>decide (n<=m)
def Abs.oldest (s:Abs):Int:=if s.row.length=0 then -1 else WQ s.row
variable {b:BF} {s:Abs}
theorem AgA {l:List B3} {Q:List B3->Prop} (h:l.length<=1000000) (d:Q l):AX l Q:=by unfold AX;exact JR (λe=>by subst e; exact d) (AO (by simp; omega) d)
theorem AgB {l:List BK} {Q:List BK->Prop} (h:l.length<=1000000) (d:Q l):D8 l Q:=by unfold D8;exact JR (λe=>by subst e; exact d) (AO (by simp; omega) d)
theorem ArX {l:List A5} {Q:List A5->Prop} (h:l.length<=1000000) (d:Q l):D3 l Q:=by unfold D3;exact JR (λe=>by subst e; exact d) (AO (by simp; omega) d)
theorem ArY {f:AU} {Q:AU->Prop} (h:xA f) (d:Q f):cO f Q:=by unfold cO;exact AgA h.1 (AgB h.2.1 (ArX h.2.2 d))
theorem xB {Q:Bool->Prop} (h:iT b s) (d:Q s.fullB):HX b Q:=by unfold HX;rw[h.room,h.row];grind[Abs.fullB]
theorem ArZ {k:Int} {Q:Int->Prop} (h:iT b s) (J:Q (s.at k)):HQ b k Q:=by
 unfold HQ;rw[h.row];simp only[gK];unfold Abs.at at J;refine A2 (λd=>?_) (λd=>A2 (λD=>?_) (λD=>?_))
 all_goals grind
theorem gE {k:Int} (h:s.at k=0):∃ i:Nat,k=i∧i<s.row.length:=by
 unfold Abs.at at h;split at h
 . cases h
 . split at h
   . cases h
   . exact⟨k.toNat,by omega,by omega⟩
theorem aD {i:Nat} (hi:i<s.row.length):s.num (i:Int)=s.row[i]:=by simp[Abs.num,hi]
theorem oE (h:iT b s) {i:Nat} (hi:i<s.row.length):b.row[i]? = some ((s.row[i]:Nat):Int):=by rw[h.row]; simp[hi]
theorem AbK {n:Nat} {Q:BF->Prop} (h:Inv0 b s) (Z:s.fullB=false) (hn:n<s.fs.length) (O:BG (n:Int) b.by_=s.fs[n]?) (U:∀ D,Inv0 D { s with row:=s.row++[n] }->D.sent=b.sent->Q D):IU b (n:Int) Q:=by
 unfold IU;have J:s.row.length<s.room:=by grind[Abs.fullB]
 have V:=h.r64;refine AO (by rw[h.row]; simp; omega) (KQ (U _ ?_ rfl));have W:s.row.count n<=s.row.length:=List.count_le_length;refine⟨h.room,by rw[h.row]; simp,h.taken,?_,?_,h.byk,?_,H6 h.oftk _ _,by simp; omega,h.r64,h.seq,h.flen,h.tk⟩
 . intro m d;rcases List.mem_append.1 d with d | d
   . exact h.lt m d
   all_goals grind
 . intro m d;rcases List.mem_append.1 d with d | d
   . exact h.by_ m d
   all_goals grind
 . intro m;by_cases e:m=n
   . subst e;rw[CH,h.often m];simp only[List.count_append,List.count_singleton_self];by_cases h0:s.row.count m=0
     . rw[h0]; decide
     . rw[if_neg h0,if_neg (by omega)];simp only[sV];rw[AK (by omega) (by omega)]; simp
   . rw[CX (by omega),h.often m];grind
theorem send_ok {f:AU} {Q:(Int×BF)->Prop} (h:iT b s) (Z:xA f) (a6:s.fs.length<1000000) (U:∀ O,iT O (s.send f).2->Q ((s.send f).1,O)):LB b f Q:=by
 unfold LB;refine xB h ?_
 cases W:s.fullB with
 | true=>refine AV rfl ?_; grind[Abs.send]
 | false=>
  refine AH rfl (ArY Z ?_);unfold Abs.send at U;rw[W] at U;simp only[AbS,if_false] at U;have D:=h.sent;rw[D];refine AbK (s:={ s with fs:=s.fs++[{ f with Seq:=s.fs.length }] }) ?_ W (by simp) ?_ ?_
  . refine⟨h.room,h.row,h.taken,?_,?_,H6 h.byk _ _,h.often,h.oftk,h.rlen,h.r64,?_,?_,?_⟩
    . intro n V; have:=h.lt n V; simp; omega
    . intro n V;have a2:=h.lt n V;rw[CX (by omega),h.by_ n V,lN a2]
    . intro i g J;rcases Z1 i s.fs.length with hi | hi
      . rw[lN hi] at J; exact h.seq i g J
      . rw[yL hi] at J
        cases hk:i - s.fs.length with
        | zero=>rw[hk] at J; cases J; exact⟨by simp; omega,Z⟩
        | succ q=>rw[hk] at J; simp at J
    . simp; omega
    . have:=h.tk; simp; omega
  . simp[CH]
  . intro O d a4;refine U _ ⟨⟨d.room,d.row,d.taken,d.lt,d.by_,d.byk,d.often,d.oftk,d.rlen,d.r64,d.seq,d.flen,d.tk⟩,?_⟩;have a5:O.sent=(s.fs.length:Int):=a4;show AJ (O.sent+1)=_;rw[a5,AK (by omega) (by omega)];simp
theorem double_ok {k:Int} {Q:(Int×BF)->Prop} (h:iT b s) (d:∀ D,iT D (s.double k).2->Q ((s.double k).1,D)):IE b k Q:=by
 unfold IE;refine ArZ h (BO (λJ=>?_) (λJ=>xB h ?_))
 . have:=d b; unfold Abs.double at this; rw[if_pos J] at this; exact this h
 . unfold Abs.double at d;rw[if_neg (by rw[J]; simp)] at d
   cases W:s.fullB with
   | true=>refine AV rfl ?_; have:=d b; rw[if_pos W] at this; exact this h
   | false=>
    rw[W] at d;simp only[AbS,if_false] at d;obtain⟨i,rfl,hi⟩:=gE J;have O:s.row[i]∈s.row:=PW hi;rw[aD hi] at d;refine AH rfl (AP (by omega) (x:=((s.row[i]:Nat):Int)) (by simpa using oE h hi) (AbK h.toInv0 W (h.lt _ O) (h.by_ _ O) λD U V=>d D ⟨U,V.trans h.sent⟩))
theorem XG {α β:Type} (f:α->β):∀ (l:List α) (i:Nat),(l.map f).eraseIdx i=(l.eraseIdx i).map f
 | [],_=>rfl
 | _ :: _,0=>rfl
 | x :: r,i+1=>by simp[Ao8,XG f r i]
theorem AbL {xs:List Int} {i:Nat} {Q:List Int->Prop} (hi:i<xs.length) (D:xs.length<=64) (h:Q (xs.eraseIdx i)):E0 xs (i:Int) (AJ ((i:Int)+1)) Q:=by
 unfold E0;rw[AK (by omega) (by omega)];have d:((i:Int)+1).toNat=i+1:=by omega
 refine⟨by omega,by omega,by omega,AY (λ_=>by omega) (λ_=>⟨by omega,by omega,by omega,⟨by omega,by omega,by omega,?_⟩⟩)⟩;grind
theorem WR {l:List Nat} {i:Nat} (hi:i<l.length) (m:Nat):(l.eraseIdx i).count m=if m=l[i] then l.count m - 1 else l.count m:=by
 have e:l=l.take i++l[i] :: l.drop (i+1):=by simp
 grind
theorem AnB {i:Nat} {Q:(AU×BF)->Prop} (h:iT b s) (hi:i<s.row.length) (W:∀ Z,iT Z { s with row:=s.row.eraseIdx i }->Q (s.fs.getD s.row[i] zf,Z)):MP b (i:Int) Q:=by
 unfold MP;have U:s.row[i]∈s.row:=PW hi;have a7:=h.lt _ U;have a6:0<s.row.count s.row[i]:=List.count_pos_iff.2 U;have a5:s.row.count s.row[i]<=s.row.length:=List.count_le_length;have a9:=h.rlen;have a4:=h.r64;refine AP (by omega) (x:=((s.row[i]:Nat):Int)) (by simpa using oE h hi) (KQ ?_);rw[h.by_ _ U];refine AbL (by rw[h.row]; simpa using hi) (by rw[h.row]; simp; omega) (KQ (KQ ?_));rw[CH,h.often,if_neg (by omega)];simp only[sV];rw[AK (by omega) (by omega)];have O:(b.row.eraseIdx i)=(s.row.eraseIdx i).map (λn:Nat=>(n:Int)):=by rw[h.row,XG]
 have J:(s.row.eraseIdx i).length<=s.room:=by grind
 have D:∀ m∈s.row.eraseIdx i,m∈s.row:=λm U=>(List.eraseIdx_sublist s.row i).mem U;have a2:(s.fs[s.row[i]]?).getD zf=s.fs.getD s.row[i] zf:=by simp
 rw[show({ Kind:=0,From:=0,To:=0,Seq:=0,Round:=0,Vec:=({ N:=0,Items:=([]:List B3) }:Vec),Sums:=([]:List BK),Triples:=([]:List A5),N:=0,Over:=false }:AU)=zf from rfl,a2];refine AY (λh0=>?_) (λh0=>?_)
 . have V:s.row.count s.row[i]=1:=by omega
   refine W _ ⟨⟨h.room,O,h.taken,λm d=>h.lt m (D m d),?_,rN h.byk _,?_,rN (H6 h.oftk _ _) _,J,h.r64,h.seq,h.flen,h.tk⟩,h.sent⟩
   . intro m d
     have a8:m≠s.row[i]:=by intro e;have h1:=List.count_pos_iff.2 d;grind[WR]
     rw[NP (by omega)];exact h.by_ m (D m d)
   . intro m;rw[WR hi];by_cases e:m=s.row[i]
     . subst e;rw[cJ (H6 h.oftk _ _),if_pos rfl,V]; rfl
     . rw[NP (by omega),CX (by omega),h.often m,if_neg e]
 . have b0:s.row.count s.row[i]≠1:=by omega
   refine W _ ⟨⟨h.room,O,h.taken,λm d=>h.lt m (D m d),λm d=>h.by_ m (D m d),h.byk,?_,H6 h.oftk _ _,J,h.r64,h.seq,h.flen,h.tk⟩,h.sent⟩;intro m;rw[WR hi];by_cases e:m=s.row[i]
   . subst e;rw[CH,if_pos rfl,if_neg (by omega)];congr 1; omega
   . rw[CX (by omega),h.often m,if_neg e]
theorem take_ok {k:Int} {Q:(AU×Bool×Int×BF)->Prop} (h:iT b s) (J:∀ Z,iT Z (s.take k).2.2.2->Q ((s.take k).1,(s.take k).2.1,(s.take k).2.2.1,Z)):LC b k Q:=by
 unfold LC;refine ArZ h (BO (λV=>?_) (λV=>?_))
 . have:=J b; unfold Abs.take at this; rw[if_pos V] at this; exact this h
 . unfold Abs.take at J;rw[if_neg (by rw[V]; simp)] at J;obtain⟨i,rfl,hi⟩:=gE V;rw[aD hi] at J;have hm:s.row[i]∈s.row:=PW hi;have U:=h.lt _ hm;have a5:=h.taken;have a4:=h.flen;refine AP (by omega) (x:=((s.row[i]:Nat):Int)) (by simpa using oE h hi) (A2 (λh1=>?_) (λh1=>AnB h hi λZ d=>?_))
   . have:=J b; rw[if_pos (by omega)] at this; rw[V]; exact this h
   . rw[if_neg (by omega)] at J;have hg:s.fs[s.row[i]]? = some s.fs[s.row[i]]:=gJ U;have O:=h.seq _ _ hg;have a2:s.fs.getD s.row[i] zf=s.fs[s.row[i]]:=by simp[U]
     simp only[YZ] at J;rw[a2];rw[a2] at J;have D:=d.taken;simp only at D;refine A2 (λW=>?_) (λW=>ArY O.2 ?_)
     . have:=J Z;rw[O.1,D] at W;rw[if_pos (by omega)] at this;exact this d
     . rw[O.1,D] at W;rw[if_neg (by omega)] at J;refine J _ ⟨⟨d.room,d.row,?_,d.lt,d.by_,d.byk,d.often,d.oftk,d.rlen,d.r64,d.seq,d.flen,?_⟩,d.sent⟩
       . simp only; rw[D,AK (by omega) (by omega)]; simp
       . simp only; omega
theorem move_ok {k:Int} {Q:(Int×BF)->Prop} (h:iT b s) (O:∀ W,iT W (s.move k).2->Q ((s.move k).1,W)):LD b k Q:=by
 unfold LD;refine ArZ h (BO (λV=>?_) (λV=>?_))
 . have:=O b; unfold Abs.move at this; rw[if_pos V] at this; exact this h
 . unfold Abs.move at O;rw[if_neg (by rw[V]; simp)] at O;obtain⟨i,rfl,hi⟩:=gE V;rw[aD hi] at O;have a2:=h.rlen;have a4:=h.r64;have hm:s.row[i]∈s.row:=PW hi;simp only[YZ] at O
   have d:∀ m,(s.row.eraseIdx i++[s.row[i]]).count m=s.row.count m:=by
     intro m;rw[List.count_append,WR hi,List.count_singleton];by_cases e:m=s.row[i]
     . subst e;have:=List.count_pos_iff.2 hm;simp
     . have:(s.row[i]==m)=false:=by simpa using λZ:s.row[i]=m=>e Z.symm
       simp[this,e]
   have J:∀ m∈s.row.eraseIdx i++[s.row[i]],m∈s.row:=λm D=>by rw[<-List.count_pos_iff,<-d m,List.count_pos_iff]; exact D
   have U:(s.row.eraseIdx i++[s.row[i]]).length=s.row.length:=by simp only[bL,List.length_eraseIdx,hi,if_true,Ae7]; omega
   refine AP (by omega) (x:=((s.row[i]:Nat):Int)) (by simpa using oE h hi) (AbL (by rw[h.row]; simpa using hi) (by rw[h.row]; simp; omega) (AO ?_ ?_))
   . rw[h.row]; simp[List.length_eraseIdx,hi]; omega
   . refine O _ ⟨⟨h.room,?_,h.taken,λm D=>h.lt m (J m D),λm D=>h.by_ m (J m D),h.byk,λm=>by rw[d]; exact h.often m,h.oftk,by rw[U]; exact h.rlen,h.r64,h.seq,h.flen,h.tk⟩,h.sent⟩;simp only;rw[h.row,XG]; simp
theorem Ax1 {xs:List Int} {Q:Int->Prop} (Z:xs≠[]) (hl:xs.length<=1000000) (hQ:∀ m,m∈xs->(∀ x∈xs,m<=x)->Q m):K0 xs Q:=by
 unfold K0;have J:0<xs.length:=List.length_pos_iff.2 Z;refine A2 (λh=>by omega) (λ_=>AP (by omega) (x:=xs[0]) (by simp[J]) ?_)
 refine CQ (λs:Int×Int=>∃ i:Nat,s.2=i∧1<=i∧i<=xs.length∧s.1∈xs∧∀ (j:Nat) (V:j<i) (U:j<xs.length),s.1<=xs[j]) (λs=>xs.length - s.2.toNat) ⟨1,rfl,by omega,by omega,PW _,λj V U=>by
   have:j=0:=by omega
   subst this; exact Int.le_refl _⟩ ?_
 rintro⟨W,_⟩ next ⟨i,hi,_,_,d,D⟩ hnext;simp only at hi d D;subst hi;refine A2 (λh=>?_) (λh=>hQ W d λx hx=>?_)
 . have O:i<xs.length:=by omega
   refine AP (by omega) (x:=xs[i]) (by simp[O]) (hnext _ ⟨i+1,?_,by omega,by omega,?_,?_⟩ ?_)
   . simp only; rw[AK (by omega) (by omega)]; simp
   . grind
   . grind
   . simp only; rw[AK (by omega) (by omega)]; omega
 . obtain⟨j,V,rfl⟩:=tM hx;exact D j (by omega) V
theorem As0 {xs:List Int} {m:Int} {Q:Int->Prop} (U:xs.length<=1000000) (W:m∈xs) (V:∀ (i:Nat) (hi:i<xs.length),xs[i]=m->(∀ (j:Nat) (O:j<i) (J:j<xs.length),xs[j]≠m)->Q i):EK xs m Q:=by
 unfold EK KX;refine CQ (λs:Int=>∃ i:Nat,s=i∧i<=xs.length∧∀ (j:Nat) (O:j<i) (J:j<xs.length),xs[j]≠m) (λs=>xs.length - s.toNat) ⟨0,rfl,by omega,λj O=>by omega⟩ ?_;rintro _ next ⟨i,rfl,_,D⟩ hnext;refine A2 (λh=>?_) (λh=>?_)
 . have d:i<xs.length:=by omega
   refine AP (by omega) (x:=xs[i]) (by simp[d]) (AY (λe=>V i d e D) (λe=>hnext _ ⟨i+1,by rw[AK (by omega) (by omega)]; simp,by omega,?_⟩ ?_))
   . grind
   . rw[AK (by omega) (by omega)]; omega
 . exfalso;obtain⟨j,O,rfl⟩:=tM W;grind
theorem xC {Q:Int->Prop} (h:iT b s) (d:Q (s.row.length:Int)):IV b Q:=by unfold IV; rw[h.row]; simpa using d
theorem AnC {l:List Nat} {i:Nat} (hi:i<l.length) (d:∀ n∈l,l[i]<=n) (O:∀ (j:Nat) (h:j<i) (U:j<l.length),l[j]≠l[i]):WQ l=i:=by unfold WQ;rw[List.findIdx_eq hi];refine⟨by simpa using d,λj h=>?_⟩;have:=O j h (by omega);have V:=d l[j] (PW _);rw[Bool.eq_false_iff];intro D;have J:=List.all_eq_true.1 D l[i] (PW _);simp at J;omega
theorem AgC {l:List Nat} (h:l≠[]):∃ hi:WQ l<l.length,(∀ n∈l,l[WQ l]<=n):=by
 have D:∃ m∈l,∀ n∈l,m<=n:=by
  induction l with
  | nil=>exact absurd rfl h
  | cons x r U=>
   by_cases hr:r=[]
   . simp_all
   all_goals grind
 have⟨m,O,d⟩:=D;have hp:l.findIdx (λn=>l.all λm=>decide (n<=m))<l.length:=List.findIdx_lt_length_of_exists ⟨m,O,by simpa using d⟩;refine⟨hp,λn J=>?_⟩;have:=List.findIdx_getElem (w:=hp);have:=List.all_eq_true.1 this n J;simpa[WQ] using this
theorem AnD {Q:Int->Prop} (h:iT b s) (J:Q s.oldest):IG b Q:=by
 unfold IG;have a4:=h.rlen;have a5:=h.r64;have a6:b.row.length=s.row.length:=by rw[h.row]; simp
 unfold Abs.oldest at J;refine xC h (AY (λO=>?_) (λO=>Ax1 (λ_=>?_) (by omega) λ_ W D=>As0 (by omega) W λi _ _ _=>?_))
 . grind
 . grind
 . rw[if_neg (by omega)] at J;have U:i<s.row.length:=by omega
   have a2:∀ (j:Nat) (V:j<b.row.length) (d:j<s.row.length),b.row[j]=((s.row[j]:Nat):Int):=by intro j V d;have:=oE h d;grind
   rw[AnC U (λ_ Z=>?_) (λj V _=>?_)] at J
   . exact J
   . obtain⟨j,V,rfl⟩:=tM Z;have:=D _ (PW (show j<b.row.length by omega));grind
   all_goals grind
theorem AuJ (n:Nat) (h:n<=64):iT { room:=(n:Int),row:=([]:List Int),by_:=([]:List (Int×AU)),often:=([]:List (Int×Int)),sent:=0,taken:=0 } ⟨n,[],[],0⟩:=
 ⟨⟨rfl,rfl,rfl,by simp,by simp,by simp[EY],by simp[BG],by simp[EY],by simp,h,by simp,by simp,by simp⟩,rfl⟩
theorem AuK {Q:Int->Prop} (h:iT b s) (d:Q (s.fs.length:Int)):LF b Q:=by unfold LF; rw[h.sent]; exact d
structure GC where
 p:Plan
 g:Graph
 T:List A5
 lim:Int
 m:Nat
 e:Int
 n:Nat
 ch:List HP
 R:Nat
 C:Nat
structure GC.Ok (c:GC):Prop where
 run:MRun c.p c.g c.lim c.T c.m c.e
 pn:c.p.N=c.n
 n4:c.n≤1000
 lm:c.lim≤39
 R1:1≤c.R∧c.R≤5
 C1:1≤c.C∧c.C≤5
 chl:c.ch.length≤1000
def bS (n k i:Nat):Nat:=i*n / k
theorem AlI {n k i:Nat} (d:n<=4096) (hk:1<=k∧k<=8) (hi:i<=k):AZ n k i=(bS n k i:Int):=by unfold AZ; rw[if_pos ⟨⟨by omega,by omega⟩,by omega,by omega⟩];unfold clI; grind[bS]
theorem As1 {n k i j:Nat} (h:i<=j):bS n k i<=bS n k j:=Nat.div_le_div_right (uM _ h)
theorem AgD (n k:Nat):bS n k 0=0:=by unfold bS; simp
theorem uJ (n:Nat) {k:Nat} (h:1<=k):bS n k k=n:=by unfold bS; exact Nat.mul_div_cancel_left n (by omega)
theorem AyS {n k i:Nat} (h:1<=k) (hi:i<=k):bS n k i<=n:=by have:=As1 (n:=n) (k:=k) hi; rwa [uJ n h] at this
theorem As2 {n l m:Nat} (h:l+m<=n) (f:Nat->Int×Bool):N7 ⟨n,KB n f⟩ l ((l+m:Nat):Int)=⟨m,KB m λk=>f (l+k)⟩:=by
 obtain⟨r,rfl⟩:∃ r,n=l+(m+r):=⟨n - (l+m),by omega⟩;have J:(KB l f).filter (λt=>decide ((l:Int)<=t.At∧t.At<((l+m:Nat):Int)))=[]:=List.filter_eq_nil_iff.2 λx d=>by have:=nZ d; simp; omega
 have O:((KB m λj=>f (l+j)).filter λx=>decide ((l:Int)<=l+x.At∧l+x.At<((l+m:Nat):Int)))=KB m λj=>f (l+j):=List.filter_eq_self.2 λx d=>by have:=nZ d; simp; omega
 have D:((KB r λj=>f (l+(m+j))).filter λx=>decide ((l:Int)<=l+(m+x.At)∧l+(m+x.At)<((l+m:Nat):Int)))=[]:=List.filter_eq_nil_iff.2 λx d=>by have:=nZ d; simp; omega
 unfold N7;congr 1
 . omega
 . simp only;rw[Ag4,Ag4 m r,jG,J,AjQ,iE,jG,AeC];rw[AoX,AoX];simp only[Function.comp_def];rw[O,D];simp;exact(yM λx _=>by have⟨a,v⟩:=x; show(⟨(l:Int)+a - l,v⟩:B3)=⟨a,v⟩; congr 1; omega).trans (List.map_id _)
section
variable (c:GC)
def GC.G (k:Nat):GV:=GS c.p c.T c.n k
def GC.tV (t:Nat):Nat->Int×Bool:=λv=>dU c.p t v (c.G (t - 1) v)
def GC.vV (t:Nat):Vec:=⟨c.n,KB c.n (c.tV t)⟩
def GC.rg (t:Nat):Int:=BV c.p.Kind t
def GC.ls (i:Nat):Nat:=bS c.n c.R i
def GC.ln (i:Nat):Nat:=bS c.n c.R (i+1) - bS c.n c.R i
def GC.cs (j:Nat):Nat:=bS c.n c.C j
def GC.sg (k i:Nat):State:=CU (c.ls i) (c.ln i) (c.G k)
def GC.U:Nat:=if c.e=3 then c.m+2 else c.m+1
def GC.st (t:Nat):Int:=if t+1=c.U then c.e else 0
def GC.ovV (t:Nat) (v:Nat):Prop:=bQ c.p (c.G (t - 1) v)=true∧∃ w,gU c.p c.T c.n t (c.G (t - 1)) v=some w∧(HL w).2=false
def GC.ovP (t i:Nat):Prop:=t≠0∧∃ k,k<c.ln i∧c.ovV t (c.ls i+k)
noncomputable def GC.ov (t i:Nat):Bool:=@decide (c.ovP t i) (Classical.propDecidable _)
theorem GC.ov_iff {t i:Nat}:c.ov t i=true↔c.ovP t i:=@decide_eq_true_iff _ (Classical.propDecidable _)
def GC.lvV (t:Nat) (v:Nat):Bool:=if c.p.Kind=5 then (c.G t v).1==0 else (c.G t v).2.2
def GC.lv (t i:Nat):Int:=if c.p.Kind=4∧c.p.Length<=t then 0 else ((JA (c.ln i) λk=>c.lvV t (c.ls i+k):Nat):Int)
def GC.tb (i j:Nat):List A5:=Tb c.n c.n c.T c.R c.C i j
def GC.rows (i j:Nat):Rows:=BR (KA c.n c.R i) (KA c.n c.C j) (c.tb i j)
def GC.cols (i j:Nat):BE:=UP (KA c.n c.R i) (KA c.n c.C j) (OI (KA c.n c.C j) (c.tb i j))
def GC.piece (t j:Nat):Vec:=G5 (c.vV t) c.C j
def GC.slice (t i j:Nat):Vec:=SV (G5 (c.vV t) c.R i) c.n c.R c.C i j
def GC.blk (t i j:Nat):List BK:=AwM (c.rg t) c.n c.n c.T (c.vV t) c.R c.C i j
end
variable {c:GC}
section
theorem GC.Ok.mp (h:c.Ok):(c.n:Int)<=4096∧JK c.R∧JK c.C:=by have:=h.n4; have:=h.R1; have:=h.C1; unfold JK; omega
theorem GC.Ok.lowR (h:c.Ok) {i:Nat} (hi:i<=c.R):AZ c.n c.R i=(c.ls i:Int):=AlI (by have:=h.n4; omega) (by have:=h.R1; omega) hi
theorem GC.Ok.lowC (h:c.Ok) {j:Nat} (d:j<=c.C):AZ c.n c.C j=(c.cs j:Int):=AlI (by have:=h.n4; omega) (by have:=h.C1; omega) d
theorem GC.Ok.ls_ln (h:c.Ok) (i:Nat):c.ls i+c.ln i=c.ls (i+1):=by have:=As1 (n:=c.n) (k:=c.R) (show i<=i+1 by omega); unfold GC.ls GC.ln; omega
theorem GC.Ok.ls_n (h:c.Ok) {i:Nat} (hi:i<c.R):c.ls i+c.ln i<=c.n:=by rw[h.ls_ln]; exact AyS h.R1.1 (by omega)
theorem GC.Ok.siz (h:c.Ok) {i:Nat} (hi:i<c.R):KA c.n c.R i=(c.ln i:Int):=by
 have e:AZ c.n c.R ((i:Int)+1)=(c.ls (i+1):Int):=by have:=h.lowR (i:=i+1) (by omega); simpa using this
 unfold KA; rw[if_pos (by omega),e,h.lowR (by omega),<-h.ls_ln i]; omega
theorem GC.Ok.vec (h:c.Ok) (t:Nat):VecP (c.vV t):=wW (by have:=h.n4; omega) _
theorem GC.Ok.out_part (h:c.Ok) {k i:Nat} (hi:i<c.R):FP c.p (c.sg k i) ((k:Int)+1)=G5 (c.vV (k+1)) c.R i:=by
 have d:=h.ls_n hi;have e:AZ c.n c.R ((i:Int)+1)=(c.ls (i+1):Int):=by have:=h.lowR (i:=i+1) (by omega); simpa using this
 have D:=As2 d (c.tV (k+1));rw[qM (h.vec _) h.mp.2.1 (by omega)];show _=N7 ⟨c.n,KB c.n (c.tV (k+1))⟩ (AZ c.n c.R i) (AZ c.n c.R ((i:Int)+1));rw[e,h.lowR (by omega),<-h.ls_ln i,D];unfold GC.sg;rw[uH h.run.rp (by have:=h.pn; omega)];rfl
theorem GC.Ok.fit (h:c.Ok) {t j:Nat} (hj:j<c.C):Au6 c.n c.R c.C j ((List.range c.R).map λi:Nat=>c.slice t i j)=(c.piece t j,0):=by
 have V:=h.vec t;have hp:=h.mp.2.1; have Z:=h.mp.2.2; have a5:=hp; have a6:=Z;unfold JK at a5 a6;have U:(0:Int)<=c.n:=by omega
 have W:=h.mp.1;have hg:∀ i:Nat,i<c.R->YJ (c.R:Int) (c.C:Int) (i:Int) (j:Int):=λi hi=>⟨⟨hp,Z⟩,by omega,by omega⟩;have a9:=UV (n:=c.n) (k:=c.C) (i:=j); have a2:=UV (n:=c.n) (k:=c.C) (i:=(j:Int)+1); have O:=J0 (n:=c.n) (k:=c.C) (show(j:Int)<=(j:Int)+1 by omega);have b1:=a2.2 U;have d:∀ x,AZ c.n c.C j<=bP (AZ c.n c.C j) (AZ c.n c.C ((j:Int)+1)) x∧bP (AZ c.n c.C j) (AZ c.n c.C ((j:Int)+1)) x<=AZ c.n c.C ((j:Int)+1):=λx=>by unfold bP; repeat' split <;> omega
 unfold Au6 AiR;rw[if_neg (λh=>h ⟨⟨U,W⟩,⟨hp,Z⟩,by omega,by omega⟩),if_neg (by simp),if_pos]
 . have D:=AfW V (u:=λi:Nat=>c.slice t i j) (cl:=λi:Nat=>bP (AZ c.n c.C j) (AZ c.n c.C ((j:Int)+1)) (AZ c.n c.R i)) (λi=>by have:=d (AZ c.n c.R i); show _∧_<=(c.n:Int); omega) (λi=>uE O (J0 (by omega))) c.R 0 (λk _=>by
    have J:=(qN V (hg k (by omega))).1;have h1:=d (AZ c.n c.R k); have h2:=d (AZ c.n c.R ((k:Int)+1));show G4 (SV (G5 (c.vV t) c.R k) c.n c.R c.C k j)=_;have a7:SV (G5 (c.vV t) c.R k) c.n c.R c.C k j=_:=J;rw[a7,IY]
    . rw[Int.natCast_add,Int.natCast_one]; rfl
    . exact AlB V (by show(0:Int)<=bP (AZ c.n c.C j) (AZ c.n c.C ((j:Int)+1)) (AZ c.n c.R k); omega) (uE O (J0 (by omega))) (by show bP (AZ c.n c.C j) (AZ c.n c.C ((j:Int)+1)) (AZ c.n c.R ((k:Int)+1))<=(c.n:Int); omega))
   have a4:wI c.n c.R:=⟨⟨U,W⟩,hp⟩;simp only[Int.natCast_zero,AfP,jH] at D;rw[Al1 a4] at D;have e0:bP (AZ c.n c.C j) (AZ c.n c.C ((j:Int)+1)) 0=AZ c.n c.C j:=by unfold bP; omega
   have e1:bP (AZ c.n c.C j) (AZ c.n c.C ((j:Int)+1)) c.n=AZ c.n c.C ((j:Int)+1):=by unfold bP; omega
   rw[e0,e1,nU,<-List.range_eq_range'] at D;unfold GC.piece;rw[qM V Z (by omega)]; exact D
 . intro i hi;have b0:i<c.R:=by simpa using hi
   have e:((List.range c.R).map λi:Nat=>c.slice t i j)[i]=SV (G5 (c.vV t) c.R i) c.n c.R c.C i j:=by simp[GC.slice]
   have J:=qN V (hg i (by omega));have h1:=d (AZ c.n c.R i); have h2:=d (AZ c.n c.R ((i:Int)+1));have a8:SV (G5 (c.vV t) c.R i) c.n c.R c.C i j=_:=J.1;rw[e,a8];exact⟨AlB V (by show(0:Int)<=bP (AZ c.n c.C j) (AZ c.n c.C ((j:Int)+1)) (AZ c.n c.R i); omega) (uE O (J0 (by omega))) (by show bP (AZ c.n c.C j) (AZ c.n c.C ((j:Int)+1)) (AZ c.n c.R ((i:Int)+1))<=(c.n:Int); omega),J.2.symm⟩
end
end
section
theorem AlJ {f:List Int} {o:Bool} {x:BK} {Q:Bool->Prop} (h:rU f) (d:EA x.At) (D:Q (!GK f o x.At)):DI f o x Q:=by
 unfold DI;refine K9 h d ?_;have:(G7 f x.At==o) = !GK f o x.At:=by unfold GK; grind
 rwa [this]
theorem AgE {xs:List BK} {f:List Int} {o:Bool} {Q:Int->Prop} (O:xs.length<=1000000) (V:rU f) (D:∀ x∈xs,EA x.At)
   (J:∀ (i:Nat) (hi:i<xs.length),GK f o xs[i].At=false->(∀ (k:Nat) (hk:k<xs.length),k<i->GK f o xs[k].At=true)->Q i) (U:(∀ x∈xs,GK f o x.At=true)->Q (-1)):CW xs f o Q:=by
 unfold CW;refine CR xs.length (by omega) (λi=>∀ (k:Nat) (hk:k<xs.length),k<i->GK f o xs[k].At=true) (λk hk h=>by omega) (λi next hi d W=>?_) (λnext d=>?_)
 . refine A2 (λ_=>B8 hi (AlJ V (D _ (PW hi)) (BW (λh=>J i hi h d) (λh=>W λk hk _=>?_)))) (λh=>by omega);grind
 . refine A2 (λh=>by omega) (λ_=>U λx D=>?_);obtain⟨k,hk,rfl⟩:=tM D;exact d k hk hk
theorem AgF {P:BK->Bool} {xs:List BK} (h:∀ x∈xs,P x=true):xs.filter P=xs:=List.filter_eq_self.2 h
theorem AdB {xs:List BK} {f:List Int} {o:Bool} {Q:List BK->Prop} (hl:xs.length<=1000000) (hf:rU f) (Z:∀ x∈xs,EA x.At)
   (hQ:Q (xs.filter λx=>GK f o x.At)):CS xs f o Q:=by
 unfold CS;refine AgE hl hf Z (λd a6 a8 _=>?_) (λa5=>?_);rotate_left
 . exact AV rfl (by rwa [AgF a5] at hQ)
 refine AY (λa4=>by omega) (λ_=>?_);have e0:AJ ((d:Int)+1)=((d+1:Nat):Int):=by rw[AK (by omega) (by omega)]; omega
 rw[e0]
 have a9:∀ k,k<=d->(xs.take k).filter (λx=>GK f o x.At)=xs.take k:=λk hk=>AgF λx Z=>by obtain⟨_,_,rfl⟩:=tM Z;grind
 refine AL (σ:=List BK×Nat) (λs j=>(s.1,(s.2:Int),j)) (d+1) xs.length (s0:=(xs,d)) (by omega)
   (λj s=>s.1.length=xs.length∧s.2<j∧s.1.take s.2=(xs.take j).filter (λx=>GK f o x.At)∧s.1.drop j=xs.drop j) (by omega) ⟨rfl,by simp,?_,rfl⟩ (λj s next _ V U hn=>?_) (λs next U=>?_)
 . rw[eX a6,jG,a9 d (Z0 _)];simp[a8]
 . have⟨ys,i⟩:=s;have⟨D,h,O,J⟩:=U;simp only at D h O J ⊢;have a7:j<ys.length:=by omega
   have W:ys[j]=xs[j]:=by
    have e1:(ys.drop j)[0]? = (xs.drop j)[0]?:=by rw[J]
    grind
   have a2:ys.drop (j+1)=xs.drop (j+1):=by have:=congrArg (List.drop 1) J;simpa[List.drop_drop,Aa7] using this
   refine A2 (λ_=>B8 a7 (AlJ hf (Z _ (by rw[W]; exact PW V)) (by
    rw[Bool.not_not]
    cases hk:GK f o ys[j].At with
    | true=>
     refine AV rfl (B8 (by omega) ?_);have e1:AJ ((i:Int)+1)=((i+1:Nat):Int):=by rw[AK (by omega) (by omega)]; omega
     have:=hn (ys.set i ys[j],i+1) ⟨by simp[D],by omega,?_,?_⟩
     . simpa[e1] using this
     . simp only;rw[eX (by simp; omega),eX V,jG,<-O];rw[W] at hk;simp[hk,W,List.take_set];exact List.set_eq_of_length_le (List.length_take_le i ys)
     . simp only;rw[List.drop_set,if_pos (by omega)]; exact a2
    | false=>
     refine AH rfl ?_;have:=hn (ys,i) ⟨D,by omega,?_,a2⟩
     . exact this
     . simp only;rw[eX V,jG,<-O];rw[W] at hk;simp[hk]))) (λa4=>by omega)
 . have⟨ys,i⟩:=s;have⟨D,h,O,J⟩:=U;simp only at D h O J ⊢;refine A2 (λa4=>by omega) (λ_=>⟨by omega,by omega,by omega,⟨by omega,by omega,by omega,?_⟩⟩);grind
theorem AlK (P:Int->Bool):∀ (l:List BK) (i:Int),lk (l.filter λs=>P s.At) i=if P i=true then lk l i else none
 | [],i=>by simp[vY]
 | s :: l,i=>by
  have ih:=AlK P l i;rw[AoH];by_cases h:P s.At=true
  . rw[if_pos h,EB,EB,ih];grind
  . rw[if_neg h,ih,EB];grind
def AbM (r:Int) (F:Nat->Option AQ) (L:List Nat):Option AQ:=L.foldl (λd j=>jX r d (F j)) none
theorem uK {r:Int} {F:Nat->Option AQ}:∀ (L:List Nat) (d:Option AQ),L.foldl (λd j=>jX r d (F j)) d=(L.filterMap F).foldl (λd w=>jX r d (some w)) d
 | [],_=>rfl
 | j :: L,d=>by
  rw[cF,AjF]
  cases h:F j with
  | none=>rw[UR]; exact uK L d
  | some w=>exact uK L _
theorem AnE {r:Int} {F:Nat->Option AQ} {L M:List Nat} (hp:L.Perm M) (D:∀ j w,F j=some w->PZ w):AbM r F L=AbM r F M:=by unfold AbM;rw[uK,uK];exact ArV (hp.filterMap _) (λw J=>by have⟨j,_,d⟩:=List.mem_filterMap.1 J; exact D j w d) (λw h=>by cases h)
variable {c:GC}
structure Sm (c:GC) (t i:Nat) (L:List Nat) (s:List BK):Prop where
 rise:Rise s
 ok:yJ s
 at_:∀ x∈s,0≤x.At∧x.At<c.ln i
 lk:∀ x:Int,lk s x=AbM (c.rg t) (fun j=>lk (c.blk t i j) x) L
theorem Sm.nil (c:GC) (t i:Nat):Sm c t i [] []:=⟨List.Pairwise.nil,(λs h=>nomatch h),(λs h=>nomatch h),λ_=>rfl⟩
theorem dW:∀ {s:List BK} {a n:Nat},Rise s->(∀ x∈s,(a:Int)<=x.At∧x.At<n)->s.length<=n - a
 | [],_,_,_,_=>by simp
 | x :: s,a,n,h,hb=>by have h1:=List.pairwise_cons.1 h;have D:=hb x (by simp);have:=dW (s:=s) (a:=x.At.toNat+1) (n:=n) h1.2 (λy d=>by have:=h1.1 y d; have:=hb y (by simp[d]); omega);grind
theorem Sm.len {t i:Nat} {L:List Nat} {s:List BK} (h:Sm c t i L s):s.length<=c.ln i:=by have:=dW (a:=0) h.rise (by simpa using h.at_); omega
section
theorem GC.Ok.ln_n (h:c.Ok) (i:Nat) (hi:i<c.R):c.ln i<=1000:=by have:=h.ls_n hi; have:=h.n4; omega
theorem GC.Ok.ring (h:c.Ok) (t:Nat):1<=c.rg t∧c.rg t<=5:=wX (BS h.run.rp).1 t
theorem GC.Ok.blk_prop (h:c.Ok) (t:Nat) {i:Nat} (hi:i<c.R) (j:Nat):Rise (c.blk t i j)∧yJ (c.blk t i j)∧∀ x∈c.blk t i j,0<=x.At∧x.At<c.ln i:=by have⟨d,_,J,D,_⟩:=US (c.rg t) (KA c.n c.C j).toNat [] true (λa=>FM (NG (Tb c.n c.n c.T c.R c.C i j) a)) (FM (G5 (c.vV t) c.C j).Items) (KA c.n c.R i).toNat;refine⟨d,J,λx O=>?_⟩;have:=D x O;rw[h.siz hi,YZ] at this; exact this
theorem GC.Ok.blk_ok (h:c.Ok) {t i j:Nat} (hi:i<c.R) {x:Int} {w:AQ} (d:Go.Proofs.YtcecodhleocefaaGreat.lk (c.blk t i j) x=some w):PZ w:=(h.blk_prop t hi j).2.1 ⟨x,w⟩ (qG d)
theorem GC.Ok.sm_add (h:c.Ok) {t i j:Nat} {L:List Nat} {s:List BK} (hi:i<c.R) (d:Sm c t i L s):wD (c.rg t) [s,c.blk t i j]=(MZ (c.rg t) s (c.blk t i j),0)∧Sm c t i (L++[j]) (MZ (c.rg t) s (c.blk t i j)):=by
 have⟨O,b2,b3⟩:=h.blk_prop t hi j;have⟨V,_,q3,q4⟩:=YD (c.rg t) s (c.blk t i j) d.rise O;refine⟨?_,V,q3 d.ok b2,λx Z=>?_,λx=>?_⟩
 . unfold wD;rw[if_neg (λW=>W (h.ring t)),if_neg]
   . unfold RA; simp[MZ]
   . rintro⟨_,J,U⟩;simp only[T7,AoV,or_false] at J;rcases J with rfl | rfl
     . exact U d.rise
     . exact U O
 . rcases ZQ _ _ _ _ Z with⟨y,D,e⟩ | ⟨y,D,e⟩
   . rw[<-e]; exact d.at_ y D
   . rw[<-e]; exact b3 y D
 . rw[q4,d.lk]; grind[AbM]
theorem GC.Ok.sm_all (h:c.Ok) {k i:Nat} {L:List Nat} {s:List BK} (hi:i<c.R) (O:L.Perm (List.range c.C)) (V:Sm c (k+1) i L s) {a:Nat} (Z:a<c.ln i) :
  lk s a=gU c.p c.T c.n (k+1) (c.G k) (c.ls i+a):=by
 have hn:=h.ls_n hi;have U:AZ c.n c.R ((i:Int)+1)=(c.ls (i+1):Int):=by have:=h.lowR (i:=i+1) (by omega); simpa using this
 rw[V.lk,AnE O (λj _ W=>h.blk_ok hi W)];have D:=h.run.cn;rw[h.pn] at D;have J:=Ab6 (r:=c.rg (k+1)) (T:=c.T) (v:=c.vV (k+1)) (x:=((c.ls i+a:Nat):Int)) D (h.vec (k+1)) rfl h.mp.2.1 h.mp.2.2 hi (by rw[h.lowR (by omega)]; omega) (by rw[U,<-h.ls_ln]; omega) c.C (Z0 _);have d:AZ c.n c.C c.C=(c.n:Int):=by rw[h.lowC (Z0 _)]; unfold GC.cs; rw[uJ _ h.C1.1]
 rw[d,YZ] at J;unfold gU;show _=PL (c.rg (k+1)) c.n (FM (NG c.T ((c.ls i+a:Nat):Int))) (FM (c.vV (k+1)).Items);rw[<-J];unfold AbM AqW;rw[AjS];congr 1;funext acc j;unfold AfV;rw[AqX,h.lowR (by omega)];have:((c.ls i+a:Nat):Int) - (c.ls i:Int)=(a:Int):=by omega
 rw[this]; rfl
theorem GC.Ok.sg_St (h:c.Ok) {i:Nat} (hi:i<c.R) (k:Nat):StP c.p (c.sg k i)∧kD (c.sg k i)∧AbC (c.sg k i):=nY h.run.rp (by have:=h.ls_n hi; have:=h.pn; omega)
theorem GC.Ok.sg_sure (h:c.Ok) {i:Nat} (hi:i<c.R) (k:Nat):EQ c.p (c.sg k i)=c.sg k i:=if_pos (h.sg_St hi k).1
theorem GC.Ok.live (h:c.Ok) {i:Nat} (hi:i<c.R) (k:Nat):V6 c.p (c.sg k i) k=c.lv k i:=by unfold GC.sg;rw[Ag2 h.run.rp (by have:=h.ls_n hi; have:=h.pn; omega)]; rfl
theorem GC.Ok.ask (h:c.Ok) {i a:Nat} (hi:i<c.R) (k:Nat) (d:a<c.ln i):GK (IA c.p (c.sg k i)).1 (IA c.p (c.sg k i)).2 a=bQ c.p (c.G k (c.ls i+a)):=by
 have U:=h.ln_n i hi;have O:GR (c.sg k i)=c.ln i:=by show((((c.ls i+c.ln i:Nat):Int)) - ((c.ls i:Nat):Int)).toNat=c.ln i; omega
 have D:∀ j,j<c.ln i->at0 (c.sg k i).A j=(c.G k (c.ls i+j)).1:=λj J=>gB J;unfold IA bQ GK;rw[O];by_cases h1:c.p.Kind=1
 . rw[if_pos h1,if_pos h1];simp only;rw[qP d (by omega),D a d];simp
 . rw[if_neg h1,if_neg h1];by_cases h5:c.p.Kind=5
   . rw[if_pos h5,if_pos h5];simp only;rw[qP d (by omega),D a d];simp
   . rw[if_neg h5,if_neg h5];simp only;rw[TY (by simp)];rfl
theorem GC.Ok.done (h:c.Ok) {k i:Nat} {L:List Nat} {s:List BK} (hi:i<c.R) (hL:L.Perm (List.range c.C)) (O:Sm c (k+1) i L s) :
   (c.ov (k+1) i=true->iK (c.rg (k+1)) (c.ln i) (s.filter λx=>GK (IA c.p (c.sg k i)).1 (IA c.p (c.sg k i)).2 x.At)=(zV,12)) ∧
   (c.ov (k+1) i=false->∃ y,iK (c.rg (k+1)) (c.ln i) (s.filter λx=>GK (IA c.p (c.sg k i)).1 (IA c.p (c.sg k i)).2 x.At)=(y,0)∧y.Items.length<=1000∧gT c.p (c.sg k i) ((k:Int)+1) y=c.sg (k+1) i):=by
 have hl:=h.ln_n i hi;have d:∀ x∈(s.filter λx=>GK (IA c.p (c.sg k i)).1 (IA c.p (c.sg k i)).2 x.At),x∈s:=λx J=>(List.mem_filter.1 J).1;have W:Rise (s.filter λx=>GK (IA c.p (c.sg k i)).1 (IA c.p (c.sg k i)).2 x.At):=X2 _ O.rise
 have V:∀ a,a<c.ln i->lk (s.filter λx=>GK (IA c.p (c.sg k i)).1 (IA c.p (c.sg k i)).2 x.At) (a:Int)=if bQ c.p (c.G k (c.ls i+a))=true then gU c.p c.T c.n (k+1) (c.G k) (c.ls i+a) else none:=λa D=>by rw[AlK (λz=>GK (IA c.p (c.sg k i)).1 (IA c.p (c.sg k i)).2 z),h.ask hi k D,h.sm_all hi hL O D]
 have a6:c.ov (k+1) i=true↔∃ x∈(s.filter λx=>GK (IA c.p (c.sg k i)).1 (IA c.p (c.sg k i)).2 x.At),(HL x.Val).2=false:=by
   rw[GC.ov_iff];unfold GC.ovP GC.ovV;constructor
   . rintro⟨_,a,D,h1,w,h2,h3⟩;have:=V a D;rw[if_pos (show bQ c.p (c.G k (c.ls i+a))=true from h1)] at this;exact⟨⟨a,w⟩,qG (this.trans h2),h3⟩
   . rintro⟨x,J,h3⟩;have hb:=O.at_ x (d x J);have a7:=vZ W J;have e:x.At=((x.At.toNat:Nat):Int):=by omega
     grind
 generalize hF:(s.filter λx=>GK (IA c.p (c.sg k i)).1 (IA c.p (c.sg k i)).2 x.At)=F at *;have U:∀ x∈F,0<=x.At∧x.At<(c.ln i:Int):=λx J=>O.at_ x (d x J)
 have a4:iK (c.rg (k+1)) (c.ln i) F=if ∃ s∈F,(HL s.Val).2=false then (zV,12) else (⟨(c.ln i:Int),F.filterMap (nzI (c.rg (k+1)))⟩,0):=by unfold iK;rw[if_neg (λZ=>Z (h.ring (k+1))),if_neg,if_neg (λZ=>Z W)];grind
 constructor
 . grind
 . intro ho;have a5:¬ ∃ s∈F,(HL s.Val).2=false:=λZ=>by rw[a6.2 Z] at ho; cases ho
   have a2:(F.filterMap (nzI (c.rg (k+1)))).length<=1000:=by have h1:=At1 (nzI (c.rg (k+1))) F;have h2:=dW (a:=0) W (by simpa using U);omega
   refine⟨_,by rw[a4,if_neg a5],a2,?_⟩;have hv:VecP ⟨(c.ln i:Int),F.filterMap (nzI (c.rg (k+1)))⟩:=AlE ⟨by omega,by omega⟩ W U;unfold GC.sg;refine Ad5 (Y:=λv=>oA c.p c.T c.n ((k:Int)+1) (c.G k) v) h.run.rp (by have:=h.ls_n hi; have:=h.pn; omega) hv rfl λa D=>?_;show FM (F.filterMap (nzI (c.rg (k+1)))) (a:Int)=_;rw[ArP W,V a D];unfold oA;split
   . rfl
   . rfl
end
structure MapR {α:Type} (m:List (Int×α)) (N:Nat) (dom:Nat→Bool) (P:Nat→α→Prop):Prop where
 ks:EY m
 key:∀ k∈m.map (·.1),∃ i,i<N∧k=(i:Int)∧dom i=true
 get:∀ i,i<N→dom i=true→∃ v,BG (i:Int) m=some v∧P i v
section
variable {α:Type} {m:List (Int×α)} {N:Nat} {dom:Nat→Bool} {P:Nat→α→Prop}
theorem MapR.nil (N:Nat) (P:Nat->α->Prop) (h:∀ i,i<N->dom i=false):MapR [] N dom P:=⟨Ap1,λ_ hk=>by simp at hk,λi hi d=>by rw[h i hi] at d; cases d⟩
theorem MapR.no (h:MapR m N dom P) {i:Nat} (d:dom i=false):BG (i:Int) m=none:=fD λhk=>by have⟨_,_,_,_⟩:=h.key _ hk;grind
theorem MapR.congr (h:MapR m N dom P) {d:Nat->Bool} {V:Nat->α->Prop} (U:∀ i,i<N->d i=dom i) (W:∀ i v,i<N->P i v->V i v):MapR m N d V:=
 ⟨h.ks,λk hk=>by have⟨i,D,J,Z⟩:=h.key k hk; exact⟨i,D,J,by rw[U i D]; exact Z⟩,λi hi O=>by have⟨v,D,J⟩:=h.get i hi (by rw[<-U i hi]; exact O); exact⟨v,D,W i v hi J⟩⟩
theorem MapR.put (h:MapR m N dom P) {i:Nat} {v:α} (hi:i<N) (V:dom i=false) (U:P i v):MapR (EJ (i:Int) v m) N (λk=>if k=i then true else dom k) P:=by
 refine⟨H6 h.ks _ _,λk hk=>?_,λk hk d=>?_⟩
 . rw[pR] at hk
   have D:k∈m.map (·.1)∨k=(i:Int):=by grind
   rcases D with hk | rfl
   . have⟨_,J,O,_⟩:=h.key k hk;grind
   all_goals grind
 . by_cases e:k=i
   . subst e; exact⟨v,CH _ _ _,U⟩
   . rw[if_neg e] at d;have⟨w,J,O⟩:=h.get k hk d;exact⟨w,by rw[CX (by omega)]; exact J,O⟩
theorem MapR.len (h:MapR m N dom P):m.length=((List.range N).filter dom).length:=by
 have hp:(m.map (·.1)).Perm (((List.range N).filter dom).map λi:Nat=>(i:Int)):=by
  refine(yK h.ks ?_).2 λk=>⟨λhk=>?_,λhk=>?_⟩
  . exact List.Pairwise.map (S:=(· ≠ ·)) (λi:Nat=>(i:Int)) (R:=(· ≠ ·)) (λa b d e=>d (by have:(a:Int)=b:=e; omega)) (X2 _ List.nodup_range)
  . have⟨i,D,J,_⟩:=h.key k hk;grind
  . obtain⟨i,hi,rfl⟩:=List.mem_map.1 hk;have⟨D,J⟩:=List.mem_filter.1 hi;have⟨_,O,_⟩:=h.get i (List.mem_range.1 D) J;exact AeT O
 have:=hp.length_eq;simpa using this
theorem MapR.full (h:MapR m N dom P):(m.length<N↔∃ i,i<N∧dom i=false):=by
 rw[h.len];constructor
 . intro J;rcases Aa6 (∃ i,i<N∧dom i=false) with d | d
   . exact d
   . have:(List.range N).filter dom=List.range N:=List.filter_eq_self.2 λi hi=>by grind
     grind
 . rintro⟨i,hi,_⟩;have O:((List.range N).filter dom).length<=N:=by grind
   rcases Z1 ((List.range N).filter dom).length N with D | D
   . exact D
   . have U:(List.range N).filter dom=List.range N:=List.filter_sublist.eq_of_length (by simp; omega);simp_all
theorem MapR.mem (h:MapR m N dom P) {x:Int×α} (d:x∈m):∃ i,i<N∧x.1=(i:Int)∧dom i=true∧P i x.2:=by
 have⟨i,O,_,V⟩:=h.key x.1 (List.mem_map.2 ⟨x,d,rfl⟩);have⟨_,_,_⟩:=h.get i O V
 have U:∀ (l:List (Int×α)),EY l->x∈l->BG x.1 l=some x.2:=by
  intro l
  induction l with
  | nil=>intro _ h; cases h
  | cons y l W=>
   intro hk d;have D:=List.nodup_cons.1 hk;rcases List.mem_cons.1 d with e | d
   . subst e; simp[BG]
   . have J:x.1≠y.1:=λe=>D.1 (List.mem_map.2 ⟨x,d,e⟩);have:=W D.2 d;simp only[BG]; grind
 have:=U m h.ks d;grind
end
section
variable (c:GC)
def GC.num (i j:Nat):Int:=((i*c.C+j:Nat):Int)
noncomputable def GC.fVote (u i:Nat):AU:=⟨4,c.num i 0,0,0,u,zV,[],[],if c.ov u i=true then 0 else c.lv u i,c.ov u i⟩
def GC.fOrder (t i:Nat):AU:=⟨5,0,c.num i 0,0,t,zV,[],[],c.st t,false⟩
def GC.fShare (u i j:Nat):AU:=⟨1,c.num i 0,j,0,u,c.slice u i j,[],[],0,false⟩
def GC.fSpread (u j i:Nat):AU:=⟨2,j,c.num i j,0,u,c.piece u j,[],[],0,false⟩
def GC.fGather (u i j:Nat):AU:=⟨3,c.num i j,c.num i 0,0,u,zV,c.blk u i j,[],0,false⟩
end
variable {c:GC}
structure Wst (c:GC) (i j:Nat) (w:A3):Prop where
 pl:w.place=⟨i,j⟩
 pn:w.plan=c.p
 gr:w.grid=⟨c.R,c.C⟩
 lm:w.limit=c.lim
 ch:w.choices=c.ch
 ro:w.rows=c.rows i j
 co:w.cols=c.cols i j
theorem YP {w:A3} {C a b:Nat} {Q:Int->Prop} (O:w.grid.j=C) (W:1<=C∧C<=5) (Z:a<8) (hb:b<C) (U:Q ((a*C+b:Nat):Int)):CD w a b Q:=by
 unfold CD jQ;rw[O];refine nS ?_;rw[decide_eq_true (show JK (C:Int) by unfold JK; omega)];have V:a*C<=8*5:=AhK (by omega) (by omega);refine AH rfl (A2 (λh=>by omega) λ_=>A2 (λh=>by omega) λ_=>A2 (λh=>by omega) λ_=>A2 (λh=>by omega) λ_=>?_);have d:(a:Int)*C=((a*C:Nat):Int):=by rw[AeD]
 have D:AJ ((a*C:Nat):Int)=((a*C:Nat):Int):=AK (by omega) (by omega);rw[d,D,AK (by omega) (by omega)];have J:((a*C:Nat):Int)+(b:Int)=((a*C+b:Nat):Int):=by omega
 rw[J]; exact U
theorem qR {i j:Nat} {w:A3} {f:AU} {Q:A3->Prop} (h:c.Ok) (d:Wst c i j w) (hi:i<c.R) (D:j<c.C) (O:w.out.length<=100000)
  (J:Q { w with out:=w.out++[{ f with From:=c.num i j }] }):CB w f Q:=by
 unfold CB;rw[show w.place.i=(i:Int) by rw[d.pl],show w.place.j=(j:Int) by rw[d.pl]];have:=h.R1; have:=h.C1;exact YP (by rw[d.gr]) h.C1 (by omega) D (AO (by simp; omega) J)
theorem AdC {i:Nat} {w:A3} {k:Nat} {Q:A3->Prop} (h:c.Ok) (d:Wst c i 0 w) (hi:i<c.R) (U:w.out.length<=100000) (O:c.ov k i=false->w.aside=c.sg k i)
  (D:Q { w with waits:=true,out:=w.out++[c.fVote k i] }):DC w k (c.ov k i) Q:=by
 unfold DC;have W:=h.C1;have J:Wst c i 0 { w with waits:=true }:=⟨d.pl,d.pn,d.gr,d.lm,d.ch,d.ro,d.co⟩
 cases V:c.ov k i with
 | true=>
  refine AH rfl (qR (j:=0) h J hi (by omega) U ?_);unfold GC.fVote at D; rw[V] at D; exact D
 | false=>
  refine AV rfl ?_;refine aA (by rw[O V]; exact(h.sg_St hi k).2.1) ?_;rw[show V6 w.plan w.aside k=c.lv k i by rw[d.pn,O V]; exact h.live hi k];refine qR (j:=0) h J hi (by omega) U ?_;unfold GC.fVote at D; rw[V] at D; exact D
theorem As3 {i:Nat} {w:A3} {k:Nat} {Q:A3->Prop} (h:c.Ok) (hw:Wst c i 0 w) (hi:i<c.R) (hl:w.out.length<=1000) (hk:k<=100000) (U:w.round=k) (O:w.has=c.sg k i)
   (J:Q { w with out:=w.out++(List.range c.C).map (c.fShare (k+1) i),sums:=[],came:=[] }):FU w Q:=by
 have⟨_,_,_,_,_,_,_,out,a6,a4,a5,_,a2,_,c0,a7,a8,sums,came,b1,a9,b0⟩:=w;have⟨V,W,Z,w4,w5,w6,w7⟩:=hw;simp only at V W Z w4 w5 w6 w7 hl U O J;subst V W Z w4 w5 w6 w7 U O;unfold FU;have hC:=h.C1; have c1:=h.n4;have D:AJ ((k:Int)+1)=((k+1:Nat):Int):=by rw[AK (by omega) (by omega)]; omega
 simp only[D];refine sJ (h.sg_St hi k).2.1 (by omega) ?_;have e2:FP c.p (c.sg k i) ((k+1:Nat):Int)=G5 (c.vV (k+1)) c.R i:=h.out_part hi;rw[e2];refine AL (σ:=List AU) (τ:=A3×Int) (λs j=>(⟨⟨i,(0:Nat)⟩,c.p,⟨c.R,c.C⟩,c.lim,c.ch,c.rows i 0,c.cols i 0,s,a6,a4,a5,k,a2,c.sg k i,c0,a7,a8,sums,came,b1,a9,b0⟩,j)) 0 c.C (s0:=out) (by omega) (λj s=>s=out++(List.range j).map (c.fShare (k+1) i)) (by omega) (by simp) (λj s next _ _ d hn=>?_) (λs next d=>?_)
 . subst d;refine A2 (λ_=>?_) (λh=>absurd (show(j:Int)<c.C by omega) h);simp only[D,h.pn];refine wJ (by have:=qL (c.vV (k+1)) c.R i; have:=nX c.n (c.tV (k+1)); show(G5 (c.vV (k+1)) c.R i).Items.length<=_; unfold GC.vV at *; simp only at *; omega) ?_;refine qR (i:=i) (j:=0) h ⟨rfl,rfl,rfl,rfl,rfl,rfl,rfl⟩ hi (by omega) (by simp; omega) (hn _ ?_);rw[bM,iE,<-lL]; rfl
 . subst d;refine A2 (λh=>absurd (show(c.C:Int)<c.C from h) (by omega)) (λ_=>?_);exact J
variable {c:GC}
theorem AyT {n k:Nat} (hk:1<=k):∀ {v:Nat},v<n->∃ i,i<k∧bS n k i<=v∧v<bS n k (i+1):=by
 intro v d
 have H:∀ q,v<bS n k q->∃ i,i<q∧bS n k i<=v∧v<bS n k (i+1):=by
  intro q
  induction q with
  | zero=>intro h; rw[AgD] at h; omega
  | succ q D=>
   grind
 exact H k (by rw[uJ n hk]; exact d)
section
theorem GC.Ok.part (h:c.Ok) {v:Nat} (d:v<c.n):∃ i a,i<c.R∧a<c.ln i∧v=c.ls i+a:=by have⟨i,D,_,_⟩:=AyT (k:=c.R) h.R1.1 d;refine⟨i,v - c.ls i,D,?_,?_⟩ <;> (simp only[GC.ln,GC.ls]; omega)
theorem GC.Ok.seq (h:c.Ok) {k:Nat} (hk:k<=c.m):MU c.p c.T k=CU 0 c.n (c.G k):=Ad6 h.run.rp h.pn λj _=>h.run.en.lt j (by omega)
theorem GC.Ok.ov_ex (h:c.Ok) (k:Nat):(∃ i,i<c.R∧c.ov (k+1) i=true)↔∃ v,v<c.n∧c.ovV (k+1) v:=by
 constructor
 . rintro⟨i,hi,d⟩;have⟨_,a,D,J⟩:=c.ov_iff.1 d;exact⟨_,by have:=h.ls_n hi; omega,J⟩
 . rintro⟨v,O,d⟩;obtain⟨i,a,hi,D,rfl⟩:=h.part O;exact⟨i,hi,c.ov_iff.2 ⟨by omega,a,D,d⟩⟩
theorem GC.Ok.step_err (h:c.Ok) {k:Nat} (hk:k<=c.m):(NJ c.p c.T (MU c.p c.T k) ((k:Int)+1)).2≠0↔∃ i,i<c.R∧c.ov (k+1) i=true:=by
 rw[h.ov_ex,h.seq hk];have⟨V,Z⟩:=wY (T:=c.T) (G:=c.G k) (round:=((k:Int)+1)) h.run.rp h.pn;constructor
 . intro W;rcases Aa6 (∃ v,v<c.n∧c.ovV (k+1) v) with U | U
   . exact U
   . refine absurd ?_ W;rw[Z];intro v w d J D
     cases O:(HL w).2 with
     | true=>rfl
     | false=>exact absurd ⟨v,d,J,w,D,O⟩ U
 . rintro⟨v,d,J,w,D,O⟩;rw[V ⟨v,w,d,J,D,O⟩]; decide
theorem GC.Ok.live_all (h:c.Ok) {k:Nat} (hk:k<=c.m):V6 c.p (MU c.p c.T k) k=0↔∀ i,i<c.R->c.lv k i=0:=by
  rw[h.seq hk,Ag2 h.run.rp (by have:=h.pn; omega)];have Z:∀ v,0+v=v:=jH;unfold GC.lv;by_cases hq:c.p.Kind=4∧c.p.Length<=k
  . rw[if_pos hq]; simp[hq]
  . rw[if_neg hq];have e:(λi=>if c.p.Kind=5 then (c.G k (0+i)).1==0 else (c.G k (0+i)).2.2)=c.lvV k:=by funext i; rw[Z]; rfl
    rw[e];constructor
    . intro O i hi;rw[if_neg hq]
      have:JA (c.ln i) (λa=>c.lvV k (c.ls i+a))=0:=by
        rcases jF (JA (c.ln i) λa=>c.lvV k (c.ls i+a)) with d | d
        . exact d
        . have⟨a,V,D⟩:=AbG (by omega:JA (c.ln i) (λa=>c.lvV k (c.ls i+a))≠0)
          have U:JA c.n (c.lvV k)≠0:=λ_=>by
            have := ArQ (n := c.n) (f := c.lvV k) (g := λv => v == c.ls i + a) (λv _ J => by
              have : v = c.ls i + a := by simpa using J
              rw[this]; exact D)
            have W:0<JA c.n (λv=>v==c.ls i+a):=by unfold JA; exact List.countP_pos_iff.2 ⟨c.ls i+a,List.mem_range.2 (by have:=h.ls_n hi; omega),by simp⟩
            omega
          omega
      omega
    . intro O;rcases jF (JA c.n (c.lvV k)) with d | d
      . omega
      . have⟨v,J,D⟩:=AbG (by omega:JA c.n (c.lvV k)≠0);obtain⟨i,a,hi,V,rfl⟩:=h.part J;have U:=O i hi;rw[if_neg hq] at U;have W:0<JA (c.ln i) (λa=>c.lvV k (c.ls i+a)):=by unfold JA; exact List.countP_pos_iff.2 ⟨a,List.mem_range.2 V,D⟩
        omega
theorem GC.Ok.no_ov (h:c.Ok) {u:Nat} (O:u<=c.m) {i:Nat} (hi:i<c.R):c.ov u i=false:=by
 cases J:c.ov u i with
 | false=>rfl
 | true=>
  cases u with
  | zero=>exact absurd rfl (c.ov_iff.1 J).1
  | succ k=>
   have d:=(h.step_err (k:=k) (by omega)).2 ⟨i,hi,J⟩;have D:=(aB (h.run.en.lt k (by omega))).2.2;exact absurd D d
open Classical in
theorem GC.Ok.counts (h:c.Ok) {u:Nat} (V:u<c.U):c.st u=if ∃ i,i<c.R∧c.ov u i=true then 3 else if ∀ i,i<c.R->c.lv u i=0 then 1 else if (u:Int)=c.lim then 2 else 0:=by
 have O:=h.run.en;have hs:=uI O.ne O.at_;unfold GC.U at V;unfold GC.st GC.U;by_cases h3:c.e=3
 . rw[if_pos h3] at V ⊢
   have a2:V6 c.p (MU c.p c.T c.m) c.m≠0∧(c.m:Int)≠c.lim∧(NJ c.p c.T (MU c.p c.T c.m) ((c.m:Int)+1)).2≠0:=by omega
   by_cases hm:u=c.m+1
   . subst hm;rw[if_pos rfl,if_pos ((h.step_err (Z0 _)).1 a2.2.2),h3]
   . rw[if_neg (by omega),if_neg (λ⟨i,hi,J⟩=>by rw[h.no_ov (by omega) hi] at J; cases J)]
     have W:V6 c.p (MU c.p c.T u) u≠0∧(u:Int)≠c.lim:=by
       rcases Z1 u c.m with Z | Z
       . have:=aB (O.lt u Z); exact⟨this.1,this.2.1⟩
       all_goals grind
     rw[if_neg (λD=>W.1 ((h.live_all (by omega)).2 D)),if_neg W.2]
 . rw[if_neg h3] at V ⊢;have d:¬ ∃ i,i<c.R∧c.ov u i=true:=λ⟨i,hi,J⟩=>by rw[h.no_ov (by omega) hi] at J; cases J
   by_cases hm:u=c.m
   . subst hm;rw[if_pos rfl,if_neg d];rcases hs with⟨a,e⟩ | ⟨a,b,e⟩ | ⟨_,_,_,e⟩
     . rw[if_pos ((h.live_all (Z0 _)).1 a),e]
     . rw[if_neg (λD=>a ((h.live_all (Z0 _)).2 D)),if_pos b,e]
     . exact absurd e h3
   . have:=aB (O.lt u (by omega));rw[if_neg (by omega),if_neg d,if_neg (λD=>this.1 ((h.live_all (by omega)).2 D)),if_neg this.2.1]
theorem GC.Ok.st_b (h:c.Ok) (t:Nat):0<=c.st t∧c.st t<=3:=by have d:=uI h.run.en.ne h.run.en.at_;unfold GC.st;omega
theorem GC.Ok.st_go (h:c.Ok) {t:Nat} (d:t<c.U):c.st t=0↔t+1<c.U:=by have:=h.run.en.ne;unfold GC.st;omega
theorem GC.Ok.st_three (h:c.Ok) {t i:Nat} (D:t<c.U) (d:c.st t≠3) (hi:i<c.R):c.ov t i=false:=by refine h.no_ov ?_ hi;unfold GC.st GC.U at *;grind
theorem GC.Ok.U_b (h:c.Ok):1<=c.U∧c.U<=41:=by have:=h.run.en.le; have:=h.lm;unfold GC.U; split <;> omega
end
structure Gh where
 u:Nat
 O:Nat→Bool
 S:Nat→Nat→Bool
 E:Nat→Nat→Bool
 A:Nat→Nat→Bool
 V:Nat→Bool
section
variable (c:GC) (g:Gh)
def Gh.col (j:Nat):Bool:=decide (∀ i,i<c.R->g.S i j=true)
def Gh.row (i:Nat):Bool:=decide (∀ j,j<c.C->g.A i j=true)
def Gh.rnd (i:Nat):Nat:=if g.O i=true then (if c.st (g.u - 1)=3 then g.u - 2 else g.u - 1) else g.u - 2
structure Gh.Ok:Prop where
 u:g.u≤c.U
 S:∀ i j,i<c.R→g.S i j=true→g.O i=true∧g.u<c.U
 E:∀ i j,i<c.R→j<c.C→g.E i j=true→g.col c j=true
 A:∀ i j,i<c.R→j<c.C→g.A i j=true→g.E i j=true
 V:∀ i,i<c.R→g.V i=true→g.row c i=true
 no:∃ i,i<c.R∧g.V i=false
 z:g.u=0→∀ i,i<c.R→g.O i=true∧g.row c i=true
end
noncomputable def GC.asd (c:GC) (k i:Nat):State:=if c.ov k i=true then c.sg (k - 1) i else c.sg k i
variable {g:Gh}
structure Own (c:GC) (g:Gh) (i:Nat) (w:A3):Prop where
 waits:w.waits=(!g.O i || g.row c i)
 begun:w.begun=(decide (2≤g.u) || decide (1≤g.u) && g.O i)
 round:w.round=(g.rnd c i:Int)
 status:w.status=if 1≤g.u∧g.O i=true then c.st (g.u - 1) else 0
 has:w.has=c.sg (g.rnd c i) i
 aside:w.waits=true→w.aside=c.asd (if g.O i=true then g.u else g.u - 1) i
 sums:1≤g.u→g.u<c.U→g.O i=true→g.row c i=false→∃ L,Sm c g.u i L w.sums∧L.Nodup∧∀ j,j∈L↔j<c.C∧g.A i j=true
 came:1≤g.u→g.u<c.U→g.O i=true→MapR w.came c.C (g.A i) (fun _ v=>v=true)
structure One (c:GC) (g:Gh) (w:A3):Prop where
 vote:w.vote=g.u
 votes:MapR w.votes c.R g.V (fun i f=>f.N=(c.fVote g.u i).N∧f.Over=(c.fVote g.u i).Over)
 closed:w.closed=decide (1≤g.u∧c.st (g.u - 1)≠0)
structure WOk (c:GC) (g:Gh) (i j:Nat) (w:A3):Prop where
 st:Wst c i j w
 spread:w.spread=((g.u+if g.E i j=true then 1 else 0:Nat):Int)
 share:i=0→w.share=((g.u+if g.col c j=true then 1 else 0:Nat):Int)∧MapR w.shares c.R (fun k=>!g.col c j && g.S k j) (fun k v=>v=c.slice g.u k j)
 own:j=0→Own c g i w
 one:i=0→j=0→One c g w
theorem Gh.col_congr {g d:Gh} {j:Nat} (h:∀ i,d.S i j=g.S i j):d.col c j=g.col c j:=by grind[Gh.col]
theorem Gh.row_congr {g d:Gh} {i:Nat} (h:∀ j,d.A i j=g.A i j):d.row c i=g.row c i:=by grind[Gh.row]
theorem WOk.congr {J:Gh} {i j:Nat} {w:A3} (h:WOk c g i j w) (D:J.u=g.u) (hE:J.E i j=g.E i j) (hS:i=0->∀ k,J.S k j=g.S k j) (hO:j=0->J.O i=g.O i) (hA:j=0->∀ k,J.A i k=g.A i k)
   (hV:i=0->j=0->∀ k,J.V k=g.V k):WOk c J i j w:=by
 refine⟨h.st,by rw[D,hE]; exact h.spread,λhi=>?_,λW=>?_,λhi W=>?_⟩
 . have hc:J.col c j=g.col c j:=Gh.col_congr (hS hi);have⟨_,_⟩:=h.share hi;grind
 . have hr:J.row c i=g.row c i:=Gh.row_congr (hA W);have U:=hO W;have hn:J.rnd c i=g.rnd c i:=by unfold Gh.rnd; rw[U,D]
   have o:=h.own W;refine⟨by rw[U,hr]; exact o.waits,by rw[D,U]; exact o.begun,by rw[hn]; exact o.round,by rw[D,U]; exact o.status,by rw[hn]; exact o.has,λhw=>by rw[D,U]; exact o.aside hw,λa b d e=>?_,λa b d=>?_⟩
   . rw[D] at a b; rw[U] at d; rw[hr] at e;have⟨_,_,_,_⟩:=o.sums a b d e;grind
   . rw[D] at a b; rw[U] at d;exact(o.came a b d).congr (λk _=>by rw[hA W]) (λk v _ Z=>Z)
 . have o:=h.one hi W;refine⟨by rw[D]; exact o.vote,?_,by rw[D]; exact o.closed⟩;rw[D];exact o.votes.congr (λk _=>hV hi W k) (λk v _ Z=>Z)
end
variable {c:GC} {g:Gh}
section
theorem GC.Ok.grd (h:c.Ok) {i j:Nat} (hi:i<c.R) (d:j<c.C):YJ (c.R:Int) (c.C:Int) (i:Int) (j:Int):=⟨⟨h.mp.2.1,h.mp.2.2⟩,by omega,by omega⟩
theorem GC.Ok.slice_P (h:c.Ok) (t:Nat) {i j:Nat} (hi:i<c.R) (Z:j<c.C):VecP (c.slice t i j)∧(c.slice t i j).N=kA c.n c.R c.C i j - YK c.n c.R c.C i j∧(c.slice t i j).Items.length<=1000:=by
 have U:=h.vec t;have D:=qN U (h.grd hi Z);have a2:=UV (n:=c.n) (k:=c.C) (i:=j); have d:=UV (n:=c.n) (k:=c.C) (i:=(j:Int)+1); have O:=J0 (n:=c.n) (k:=c.C) (show(j:Int)<=(j:Int)+1 by omega);have V:=d.2 (by omega);have J:∀ x,AZ c.n c.C j<=bP (AZ c.n c.C j) (AZ c.n c.C ((j:Int)+1)) x∧bP (AZ c.n c.C j) (AZ c.n c.C ((j:Int)+1)) x<=AZ c.n c.C ((j:Int)+1):=λx=>by unfold bP; repeat' split <;> omega
 have h1:=J (AZ c.n c.R i); have h2:=J (AZ c.n c.R ((i:Int)+1));have e:c.slice t i j=_:=D.1;refine⟨?_,?_,?_⟩
 . rw[e];exact AlB U (by show(0:Int)<=bP (AZ c.n c.C j) (AZ c.n c.C ((j:Int)+1)) (AZ c.n c.R i); omega) (uE O (J0 (by omega))) (by show bP (AZ c.n c.C j) (AZ c.n c.C ((j:Int)+1)) (AZ c.n c.R ((i:Int)+1))<=(c.n:Int); omega)
 . rw[e]; exact D.2.symm
 . have h3:=AmW (G5 (c.vV t) c.R i) c.n c.R c.C i j;have h4:=qL (c.vV t) c.R i;have W:=nX c.n (c.tV t);have h6:(c.vV t).Items.length<=c.n:=W;have:=h.n4;show(SV (G5 (c.vV t) c.R i) c.n c.R c.C i j).Items.length<=1000;omega
theorem GC.Ok.piece_P (h:c.Ok) (t:Nat) {j:Nat} (O:j<c.C):VecP (c.piece t j)∧(c.piece t j).N=KA c.n c.C j∧(c.piece t j).Items.length<=1000:=by have hp:=nT (h.vec t) h.mp.2.2 (j:=j) (by omega);refine⟨hp.1,hp.2.1,?_⟩;have D:=qL (c.vV t) c.C j;have d:=nX c.n (c.tV t);have J:(c.vV t).Items.length<=c.n:=d;have:=h.n4;show(G5 (c.vV t) c.C j).Items.length<=1000;omega
theorem GC.Ok.piece_in (h:c.Ok) {k:Nat} (hk:k<=c.m) {j:Nat} (J:j<c.C):∀ x∈(c.piece (k+1) j).Items,EA x.Val:=by
 refine(nT (h.vec (k+1)) h.mp.2.2 (j:=j) (by omega)).2.2.2 λx d=>?_;have D:=(h.run.whole hk).out ((k:Int)+1);refine D.2.1 x ?_;rw[h.seq hk,uH h.run.rp (by have:=h.pn; omega)];have e:(λi=>dU c.p ((k:Int)+1) (0+i) (c.G k (0+i)))=c.tV (k+1):=by funext i; rw[jH]; rfl
 rw[e]; exact d
end
theorem AgG {f:AU} {n:Int} {Q:Vec×Bool->Prop} (J:f.Vec.Items.length<=1000) (D:VecP f.Vec) (d:f.Vec.N=n) (h:Q (f.Vec,true)):NE f n Q:=by
 unfold NE;refine wQ (by omega) (F8 (by show f.Vec.Items.length<=_; omega) ?_);rw[decide_eq_true (show VecP ⟨f.Vec.N,f.Vec.Items⟩ from D)];refine AV rfl ?_;have:(f.Vec.N==n)=true:=by simp[d]
 rw[this]; exact h
theorem AuL {w:A3} {i j:Nat} {Q:Int->Prop} (h:c.Ok) (d:Wst c 0 j w) (hi:i<c.R) (hj:j<c.C) (U:Q (kA c.n c.R c.C i j - YK c.n c.R c.C i j)):GB w i Q:=by
 unfold GB;have D:w.plan.N=c.n:=by rw[d.pn,h.pn]
 have hR:=h.R1; have Z:=h.C1;have J:AJ ((i:Int)+1)=(i:Int)+1:=AK (by omega) (by omega);have O:AJ ((j:Int)+1)=(j:Int)+1:=AK (by omega) (by omega);rw[D,d.gr,d.pl];refine I5 (I5 ?_);rw[J];refine I5 ?_;rw[O];refine I5 ?_;have W:=RE c.n c.R i; have b2:=RE c.n c.R ((i:Int)+1); have b3:=RE c.n c.C j; have b4:=RE c.n c.C ((j:Int)+1);simp only
 have e:(if AJ ((if AZ c.n c.C ((j:Int)+1)<AZ c.n c.R ((i:Int)+1) then AZ c.n c.C ((j:Int)+1) else AZ c.n c.R ((i:Int)+1)) - (if AZ c.n c.C j > AZ c.n c.R i then AZ c.n c.C j else AZ c.n c.R i)) > 0 then AJ ((if AZ c.n c.C ((j:Int)+1)<AZ c.n c.R ((i:Int)+1) then AZ c.n c.C ((j:Int)+1) else AZ c.n c.R ((i:Int)+1)) - (if AZ c.n c.C j > AZ c.n c.R i then AZ c.n c.C j else AZ c.n c.R i)) else 0)=kA c.n c.R c.C i j - YK c.n c.R c.C i j:=by unfold kA YK mx mn;generalize AZ c.n c.R i=a1 at *; generalize AZ c.n c.R ((i:Int)+1)=a2 at *; generalize AZ c.n c.C j=a3 at *; generalize AZ c.n c.C ((j:Int)+1)=V at *;rw[AK (by split <;> split <;> omega) (by split <;> split <;> omega)];omega
 rw[e]; exact U
def IB (f:Nat->Bool) (i:Nat):Nat->Bool:=λk=>if k=i then true else f k
def DW (f:Nat->Nat->Bool) (i j:Nat):Nat->Nat->Bool:=λa b=>if a=i∧b=j then true else f a b
theorem Gh.Ok.noA (d:g.Ok c) (h:c.Ok) {i:Nat} (hi:i<c.R) (V:g.O i=false):(∀ j,j<c.C->g.A i j=false)∧g.row c i=false:=by
 have D:∀ j,j<c.C->g.A i j=false:=λj J=>by
  cases hA:g.A i j with
  | false=>rfl
  | true=>
   have W:=d.E i j hi J (d.A i j hi J hA);have U:=(d.S i j hi (of_decide_eq_true W i hi)).1;rw[V] at U; cases U
 refine⟨D,?_⟩;unfold Gh.row;refine decide_eq_false λZ=>?_;have:=Z 0 (by have:=h.C1; omega);rw[D 0 (by have:=h.C1; omega)] at this; cases this
theorem AnF (h:c.Ok) (hg:g.Ok c) {i:Nat} (hi:i<c.R) {w:A3} (W:WOk c g i 0 w) (hu:1<=g.u) (Z:g.O i=false) {f:AU} (hr:f.Round=((g.u - 1:Nat):Int)) (hn:f.N=c.st (g.u - 1)) (hl:w.out.length<=1000) {Q:Bool×A3->Prop}
   (hQ:∀ w',WOk c { g with O:=IB g.O i } i 0 w'->w'.out=w.out++(if g.u<c.U then (List.range c.C).map (c.fShare g.u i) else [])->Q (true,w')):E6 w f ⟨0,0⟩ Q:=by
 have⟨hA,d2⟩:=hg.noA h hi Z;have hU:=h.U_b; have d5:=hg.u; have d6:=h.st_b (g.u - 1);have o:=W.own rfl;have a8:w.waits=true:=by rw[o.waits,Z]; rfl
 have has:w.aside=c.asd (g.u - 1) i:=by have:=o.aside a8; grind
 have d4:w.status=0:=by rw[o.status,if_neg (by rw[Z]; simp)]
 have d1:w.round=((g.u - 2:Nat):Int):=by have:=o.round; unfold Gh.rnd at this; grind
 have d7:w.has=c.sg (g.u - 2) i:=by have:=o.has; unfold Gh.rnd at this; grind
 have d0:w.begun=decide (2<=g.u):=by rw[o.begun,Z]; simp
 have d:=W.st;unfold E6;refine CA (λt=>t=((g.u - 1:Nat):Int)) ?_ ?_;rotate_left
 . intro k hk;rw[d0,d1];refine A2 (λh2=>hk _ ?_) (λh2=>hk _ (by omega));rw[AK (by omega) (by omega)]; omega
 rintro _ rfl;rw[show w.place.j=0 by rw[d.pl]; rfl];refine BO (λD=>absurd rfl D) λ_=>AH (by simp) (AH (by rw[a8]; rfl) (BO (λD=>absurd d4 D) λ_=>BO (λD=>absurd hr D) λ_=>?_));rw[hn];refine A2 (λD=>by omega) λ_=>A2 (λD=>by omega) λ_=>?_;have V:IB g.O i i=true:=if_pos rfl;have d3:({ g with O:=IB g.O i }:Gh).row c i=false:=d2;have c2:({ g with O:=IB g.O i }:Gh).rnd c i=if c.st (g.u - 1)=3 then g.u - 2 else g.u - 1:=if_pos V
 -- whatever else is put into it
 have a2:∀ (w':A3),Wst c i 0 w'->w'.spread=w.spread->w'.share=w.share->w'.shares=w.shares->w'.vote=w.vote->w'.votes=w.votes->w'.closed=w.closed->w'.waits=false->w'.begun=true->w'.round=(({ g with O:=IB g.O i }:Gh).rnd c i:Int)->w'.status=c.st (g.u - 1)->w'.has=c.sg (({ g with O:=IB g.O i }:Gh).rnd c i) i ->
     (g.u<c.U->w'.sums=[]∧w'.came=[])->WOk c { g with O:=IB g.O i } i 0 w':=by
   intro w' e0 e1 e2 e3 e4 e5 e6 e7 e8 e9 b0 b1 a4;refine⟨e0,by rw[e1]; exact W.spread,λhz=>?_,λ_=>?_,λhz _=>?_⟩
   . rw[e2,e3]; exact W.share hz
   . refine⟨?_,?_,e9,?_,b1,?_,?_,?_⟩
     . rw[e7,d3]; show false=(!IB g.O i i || false); rw[V]; rfl
     . rw[e8]; show true=(decide (2<=g.u) || decide (1<=g.u) && IB g.O i i); rw[V]; simp; omega
     . rw[b0]; exact(if_pos ⟨hu,V⟩).symm
     . intro J; rw[e7] at J; cases J
     . intro _ J _ _;exact⟨[],by rw[(a4 J).1]; exact Sm.nil _ _ _,Ap1,λj=>⟨λhj=>by simp at hj,λ⟨hj,ha⟩=>by rw[show g.A i j=false from hA j hj] at ha; cases ha⟩⟩
     . intro _ J _;rw[(a4 J).2]; exact MapR.nil _ _ hA
   . have q:=W.one hz rfl;exact⟨by rw[e4]; exact q.vote,by rw[e5]; exact q.votes,by rw[e6]; exact q.closed⟩
 refine CA (λa9=>a9 = { w with round:=(({ g with O:=IB g.O i }:Gh).rnd c i:Int),status:=c.st (g.u - 1),has:=c.sg (({ g with O:=IB g.O i }:Gh).rnd c i) i,waits:=false,begun:=true }) ?_ ?_;rotate_left
 . intro k hk;refine CA (λb=>b=decide (0<g.u - 1∧c.st (g.u - 1)≠3)) ?_ ?_
   . rintro _ rfl;refine A2 (λD=>hk _ ?_) (λD=>hk _ ?_)
     . rw[c2,if_neg D.2,has];unfold GC.asd;rw[h.st_three (by omega) D.2 hi];rfl
     all_goals grind
   . intro k' a6;refine A2 (λD=>a6 _ ?_) (λD=>a6 _ ?_)
     all_goals grind
 rintro _ rfl;have a5:=h.st_go (t:=g.u - 1) (by omega);refine AY (λh0=>?_) (λh0=>?_)
 . have c1:g.u<c.U:=by have:=a5.1 h0; omega
   have a7:({ g with O:=IB g.O i }:Gh).rnd c i=g.u - 1:=by grind
   have e1:g.u - 1+1=g.u:=by omega
   refine As3 (i:=i) (k:=g.u - 1) h ⟨d.pl,d.pn,d.gr,d.lm,d.ch,d.ro,d.co⟩ hi hl (by omega) (by rw[a7]) (by rw[a7]) (hQ _ (a2 _ ⟨d.pl,d.pn,d.gr,d.lm,d.ch,d.ro,d.co⟩ rfl rfl rfl rfl rfl rfl rfl rfl rfl rfl rfl λ_=>⟨rfl,rfl⟩) ?_);rw[if_pos c1,e1]
 . have c0:¬g.u<c.U:=λJ=>h0 (a5.2 (by omega));refine hQ _ (a2 _ ⟨d.pl,d.pn,d.gr,d.lm,d.ch,d.ro,d.co⟩ rfl rfl rfl rfl rfl rfl rfl rfl rfl rfl rfl λJ=>absurd J c0) ?_;grind
variable {c:GC} {g:Gh}
theorem dX (c:GC) (j:Nat):c.num 0 j=(j:Int):=by unfold GC.num; simp
theorem As4 (h:c.Ok) {i j:Nat} (hi:i<c.R) (V:j<c.C) {w:A3} (Z:WOk c g 0 j w) (hu:g.u<=1000) (hS:g.S i j=false) {f:AU} (hr:f.Round=(g.u:Int)) (W:f.Vec=c.slice g.u i j) (hl:w.out.length<=1000) {Q:Bool×A3->Prop}
   (hQ:∀ w',WOk c { g with S:=DW g.S i j } 0 j w'->w'.out=w.out++(if ({ g with S:=DW g.S i j }:Gh).col c j=true then (List.range c.R).map (c.fSpread g.u j) else [])->Q (true,w')):EF w f ⟨i,0⟩ Q:=by
 have d:=Z.st;have⟨D,a5⟩:=Z.share rfl;have⟨p1,p2,p3⟩:=h.slice_P g.u hi V;have hR:=h.R1; have hC:=h.C1;have d2:g.col c j=false:=decide_eq_false λhx=>by have:=hx i hi; rw[hS] at this; cases this
 rw[d2] at D a5;have b1:BG (i:Int) w.shares=none:=a5.no (by show(!false && g.S i j)=false; rw[hS]; rfl);have a7:=a5.put (v:=f.Vec) hi (by show(!false && g.S i j)=false; rw[hS]; rfl) W;unfold EF;refine AuL h d hi V (AgG (by rw[W]; exact p3) (by rw[W]; exact p1) (by rw[W]; exact p2) (jT (λv hx=>by rw[b1] at hx; cases hx) λ_=>AH rfl (AH rfl ?_)));rw[show w.place.i=0 by rw[d.pl]; rfl];refine BO (λO=>absurd rfl O) λ_=>BO (λO=>absurd rfl O) λ_=>BO (λO=>absurd (by rw[hr,D]; simp) O) λ_=>?_;rw[show w.grid.i=c.R by rw[d.gr],show w.grid.j=c.C by rw[d.gr],show w.plan.N=c.n by rw[d.pn,h.pn],show w.place.j=j by rw[d.pl]];dsimp only;have hf:=a7.full;have e4:({ g with S:=DW g.S i j }:Gh).col c j=decide (∀ k,k<c.R->DW g.S i j k j=true):=rfl;have c0:∀ k,DW g.S i j k j=if k=i then true else g.S k j:=λk=>by unfold DW; simp
 have a6:∀ (sh:Int) (U:List (Int×Vec)) (out:List AU),Wst c 0 j { w with share:=sh,shares:=U,out:=out }:=λ_ _ _=>⟨d.pl,d.pn,d.gr,d.lm,d.ch,d.ro,d.co⟩
 have a4:∀ (sh:Int) (U:List (Int×Vec)) (out:List AU),sh=((g.u+if ({ g with S:=DW g.S i j }:Gh).col c j=true then 1 else 0:Nat):Int)->MapR U c.R (λk=>!({ g with S:=DW g.S i j }:Gh).col c j && DW g.S i j k j) (λk v=>v=c.slice g.u k j)->WOk c { g with S:=DW g.S i j } 0 j { w with share:=sh,shares:=U,out:=out }:=by
   intro sh U out e1 e2;refine⟨a6 _ _ _,Z.spread,λ_=>⟨e1,e2⟩,λhz=>?_,λ_ hz=>?_⟩
   . have o:=Z.own hz;exact⟨o.waits,o.begun,o.round,o.status,o.has,o.aside,o.sums,o.came⟩
   . have o:=Z.one rfl hz;exact⟨o.vote,o.votes,o.closed⟩
 refine A2 (λ_=>?_) (λ_=>?_)
 . have⟨k,hk,hd⟩:=hf.1 (by omega);have e3:DW g.S i j k j=false:=by rw[c0]; exact hd
   have J:({ g with S:=DW g.S i j }:Gh).col c j=false:=by grind
   refine hQ _ (a4 w.share _ w.out (by rw[J,D]) ?_) (by rw[J]; simp);simp_all
 . have d1:∀ k,k<c.R->(if k=i then true else (!false && g.S k j))=true:=λk hk=>by grind
   have J:({ g with S:=DW g.S i j }:Gh).col c j=true:=by grind
   refine AL (σ:=List Vec) (λs k=>(s,k)) 0 c.R (s0:=[]) (by omega) (λk s=>s=(List.range k).map λa:Nat=>c.slice g.u a j) (by omega) (by simp) (λk s next _ hk a2 hn=>?_) (λs next a2=>?_)
   . refine A2 (λ_=>KQ (AO (by rw[a2]; simp; omega) (hn _ ?_))) (λO=>by omega);have⟨v,c1,c2⟩:=a7.get k hk (d1 k hk);rw[c1,a2,bM,iE,c2]; rfl
   refine A2 (λO=>by omega) (λ_=>?_);subst a2;refine AcZ (by simp; omega) (λv W=>?_) ?_
   . obtain⟨a,ha,rfl⟩:=List.mem_map.1 W;have:=(h.slice_P g.u (List.mem_range.1 ha) V).2.2; omega
   rw[h.fit V];have⟨_,_,_,_,_,_,_,out,share,shares,d9,round,a9,b0,d5,d8,d6,d3,d0,d4,d7,a8⟩:=w;have⟨w1,w2,w3,w4,w5,w6,w7⟩:=d;simp only at w1 w2 w3 w4 w5 w6 w7 D hl hQ a4 a6;subst w1 w2 w3 w4 w5 w6 w7;refine AL (σ:=List AU) (τ:=A3×Int) (λs k=>(⟨⟨(0:Nat),j⟩,c.p,⟨c.R,c.C⟩,c.lim,c.ch,c.rows 0 j,c.cols 0 j,s,share,EJ (i:Int) f.Vec shares,d9,round,a9,b0,d5,d8,d6,d3,d0,d4,d7,a8⟩,k)) 0 c.R (s0:=out) (by omega) (λk s=>s=out++(List.range k).map (c.fSpread g.u j)) (by omega) (by simp) (λk s next _ hk d hn=>?_) (λs next d=>?_)
   . subst d;refine A2 (λ_=>?_) (λO=>absurd (show(k:Int)<c.R by omega) O);refine YP (a:=k) (b:=j) rfl hC (by omega) V ?_;refine qR (i:=0) (j:=j) h ⟨rfl,rfl,rfl,rfl,rfl,rfl,rfl⟩ (by omega) V (by simp; omega) (hn _ ?_);rw[bM,iE,<-lL];show _=_++[c.fSpread g.u j k];unfold GC.fSpread;rw[dX,D];rfl
   . subst d;refine A2 (λO=>absurd (show(c.R:Int)<c.R from O) (by omega)) (λ_=>?_);refine hQ _ (a4 (AJ (share+1)) [] _ ?_ ?_) (by rw[J]; rfl)
     . rw[J,D,AK (by simp; omega) (by simp; omega)]; simp
     . rw[J]; exact MapR.nil _ _ λk _=>rfl
theorem As5 {w:A3} {u:Nat} {Q:HP->Prop} (J:1<=u) (D:u<=1000) (h:w.choices.length<=1000) (d:∀ x,Q x):FS w u Q:=by
 unfold FS;refine AY (λ_=>d _) (λ_=>⟨by omega,?_⟩);have e:AJ ((u:Int) - 1)=((u - 1:Nat):Int):=by rw[AK (by omega) (by omega)]; omega
 rw[e,Ao6 (by omega),<-Int.natCast_emod];exact B8 (rH _ (by omega)) (d _)
theorem AnG (h:c.Ok) {i j:Nat} (hi:i<c.R) (O:j<c.C) {w:A3} (J:WOk c g i j w) (hu:1<=g.u) (a2:g.u<c.U) (hE:g.E i j=false) {f:AU} (hr:f.Round=(g.u:Int)) (W:f.Vec=c.piece g.u j) (hl:w.out.length<=1000) {Q:Bool×A3->Prop}
  (hQ:∀ w',WOk c { g with E:=DW g.E i j } i j w'->w'.out=w.out++[c.fGather g.u i j]->Q (true,w')):E3 w f ⟨0,j⟩ Q:=by
 have d:=J.st;have hR:=h.R1; have hC:=h.C1; have b1:=h.U_b;have⟨V,p2,p3⟩:=h.piece_P g.u O;have a4:w.spread=(g.u:Int):=by rw[J.spread,hE]; simp
 have b0:∀ (out:List AU),WOk c { g with E:=DW g.E i j } i j { w with spread:=AJ (w.spread+1),out:=out }:=by
  intro out;refine⟨⟨d.pl,d.pn,d.gr,d.lm,d.ch,d.ro,d.co⟩,?_,λZ=>J.share Z,λZ=>?_,λZ a9=>?_⟩
  . show AJ (w.spread+1)=((g.u+if DW g.E i j i j=true then 1 else 0:Nat):Int);rw[show DW g.E i j i j=true from if_pos ⟨rfl,rfl⟩,a4,AK (by omega) (by omega)]; simp
  . have o:=J.own Z;exact⟨o.waits,o.begun,o.round,o.status,o.has,o.aside,o.sums,o.came⟩
  . have o:=J.one Z a9;exact⟨o.vote,o.votes,o.closed⟩
 unfold E3;refine AgG (by rw[W]; exact p3) (by rw[W]; exact V) (by rw[W,p2,d.ro]; rfl) (AH rfl (BO (λD=>absurd rfl D) λ_=>?_));rw[show w.place.j=(j:Int) by rw[d.pl],show w.place.i=(i:Int) by rw[d.pl]];refine BO (λD=>absurd rfl D) λ_=>BO (λD=>absurd (by rw[hr,a4]) D) λ_=>?_;rw[hr];refine As5 hu (by omega) (by rw[d.ch]; exact h.chl) λx=>PO ?_;rw[show BV w.plan.Kind g.u=c.rg g.u by rw[d.pn]; rfl];refine AuA (by show f.Vec.Items.length<=_; rw[W]; omega) ?_;obtain⟨k,hk⟩:∃ k,g.u=k+1:=⟨g.u - 1,by omega⟩;have a8:k<=c.m:=by unfold GC.U at a2; split at a2 <;> omega
 have a5:=h.run.cn; rw[h.pn] at a5;have⟨_,a7⟩:=jZ a5 (h.grd hi O);have a6:=h.piece_in a8 O;rw[<-hk] at a6;rw[W];refine Ar3 (rows:=KA c.n c.R i) (cols:=KA c.n c.C j) (ts:=c.tb i j) (s:=kB x.Form (G4 (c.piece g.u j)).Items.length (G4 (c.piece g.u j)).N) (u:=c.piece g.u j) a7 (Au7 h.run.vs) d.ro d.co (by show AlC _ _=_; unfold AlC; rw[IY V]) V a6 (λx hx=>nomatch hx) ?_
 have es:nE (c.rg g.u) (KA c.n c.R i) (KA c.n c.C j) (c.tb i j) (c.piece g.u j) [] true=(c.blk g.u i j,0):=by unfold nE;rw[if_neg (λD=>D (h.ring g.u)),if_neg (λD=>D p2)]; rfl
 simp only[es];unfold Ar2;rw[if_neg (by simp)];refine YP (a:=i) (b:=0) (by show w.grid.j=_; rw[d.gr]) hC (by omega) (by omega) ?_;refine qR (i:=i) (j:=j) h ⟨d.pl,d.pn,d.gr,d.lm,d.ch,d.ro,d.co⟩ hi O (by show w.out.length<=_; omega) ?_;exact hQ _ (b0 _) rfl
variable {c:GC} {g:Gh}
theorem MapR.le {α:Type} {m:List (Int×α)} {N:Nat} {d:Nat->Bool} {P:Nat->α->Prop} (h:MapR m N d P):m.length<=N:=by rw[h.len]; grind
theorem As6 {w:A3} {l:List BK} {n:Nat} {Q:Bool->Prop} (Z:w.rows.Rows=(n:Int)) (V:l.length<=1000) (U:Rise l) (J:∀ x∈l,0<=x.At∧x.At<n) (W:Q true):FT w l Q:=by
 unfold FT;refine AL (σ:=Int) (λs k=>(s,k)) 0 l.length (s0:=-1) (by omega) (λk s=>∀ (q:Nat) (d:q<l.length),k<=q->s<l[q].At) (by omega) (λq d _=>by have:=(J _ (PW d)).1; omega) (λk s next _ hk O D=>?_) (λs next O=>?_)
 . refine A2 (λ_=>B8 hk (A2 (λh=>by have:=O k hk (Z0 _); omega) λ_=>A2 (λh=>by have:=(J _ (PW hk)).2; rw[Z] at h; omega) λ_=>D _ λq d _=>U.adj d (by omega))) (λh=>by omega)
 . exact A2 (λh=>by omega) (λ_=>W)
theorem AnH (h:c.Ok) {i k:Nat} (hi:i<c.R) (hk:k<=c.m) (c0:k<=1000) {w:A3} (hs:Wst c i 0 w) {L:List Nat} (hL:L.Perm (List.range c.C)) (V:Sm c (k+1) i L w.sums) (hh:w.has=c.sg k i) (hl:w.out.length<=1000) {Q:A3->Prop}
  (d:Q { w with aside:=c.asd (k+1) i,sums:=[],waits:=true,out:=w.out++[c.fVote (k+1) i] }):E4 w ((k+1:Nat):Int) Q:=by
 have c1:=h.ln_n i hi;have b0:=V.len;have⟨_,_,_,_,_,_,_,out,a2,J,O,round,D,_,aside,waits,a4,sums,a7,a8,a5,a6⟩:=w;have⟨w1,w2,w3,w4,w5,w6,w7⟩:=hs;simp only at w1 w2 w3 w4 w5 w6 w7 V hh hl d b0;subst w1 w2 w3 w4 w5 w6 w7 hh;unfold E4;have⟨_,q2,_⟩:=h.sg_St hi k;refine iS q2 ?_;rw[h.sg_sure hi];refine AdB (by show sums.length<=_; omega) (AlH _ _) (λx Z=>by have:=V.at_ x Z; unfold EA; omega) (PO ?_);have a9:(c.rows i 0).Rows=(c.ln i:Int):=h.siz hi;simp only[a9];have b1:(sums.filter λx=>GK (IA c.p (c.sg k i)).1 (IA c.p (c.sg k i)).2 x.At).length<=sums.length:=uN _ _;refine AcK (by omega) (λx Z=>V.ok x (List.mem_filter.1 Z).1) ?_;have⟨d1,d2⟩:=h.done hi hL V;rw[show BV c.p.Kind ((k+1:Nat):Int)=c.rg (k+1) from rfl]
 cases U:c.ov (k+1) i with
 | true=>
  rw[d1 U];refine AH rfl ?_;have W:=AdC (i:=i) (k:=k+1) (w:=⟨⟨i,(0:Nat)⟩,c.p,⟨c.R,c.C⟩,c.lim,c.ch,c.rows i 0,c.cols i 0,out,a2,J,O,round,D,c.sg k i,c.sg k i,waits,a4,[],a7,a8,a5,a6⟩) (Q:=Q) h ⟨rfl,rfl,rfl,rfl,rfl,rfl,rfl⟩ hi (by show out.length<=_; omega) (λh0=>by rw[U] at h0; cases h0) (by unfold GC.asd at d; rw[U] at d; exact d);rw[U] at W; exact W
 | false=>
  have⟨y,d3,_,d5⟩:=d2 U;rw[d3];refine AV rfl (dS q2 (by omega) (by show y.Items.length<=_; omega) ?_);rw[show gT c.p (c.sg k i) ((k+1:Nat):Int) y=c.sg (k+1) i from d5];have W:=AdC (i:=i) (k:=k+1) (w:=⟨⟨i,(0:Nat)⟩,c.p,⟨c.R,c.C⟩,c.lim,c.ch,c.rows i 0,c.cols i 0,out,a2,J,O,round,D,c.sg k i,c.sg (k+1) i,waits,a4,[],a7,a8,a5,a6⟩) (Q:=Q) h ⟨rfl,rfl,rfl,rfl,rfl,rfl,rfl⟩ hi (by show out.length<=_; omega) (λ_=>rfl) (by unfold GC.asd at d; rw[U] at d; exact d);rw[U] at W; exact W
theorem AnI (h:c.Ok) {i u:Nat} (hi:i<c.R) (hu:1<=u) (d:u<c.U) {w:A3} (W:Wst c i 0 w) {L:List Nat} (V:L.Perm (List.range c.C)) (D:Sm c u i L w.sums) (Z:w.has=c.sg (u - 1) i) (J:w.out.length<=1000) {Q:A3->Prop}
  (O:Q { w with aside:=c.asd u i,sums:=[],waits:=true,out:=w.out++[c.fVote u i] }):E4 w (u:Int) Q:=by
 obtain⟨k,rfl⟩:∃ k,u=k+1:=⟨u - 1,by omega⟩;have hU:=h.U_b;exact AnH h hi (by unfold GC.U at d; split at d <;> omega) (by omega) W V D Z J O
theorem AnJ (h:c.Ok) {i j:Nat} (hi:i<c.R) (hj:j<c.C) {w:A3} (hw:WOk c g i 0 w) (hu:1<=g.u) (a7:g.u<c.U) (V:g.O i=true) (hA:g.A i j=false) {f:AU} (hr:f.Round=(g.u:Int)) (W:f.Sums=c.blk g.u i j) (Z:w.out.length<=1000) {Q:Bool×A3->Prop}
   (hQ:∀ w',WOk c { g with A:=DW g.A i j } i 0 w'->w'.out=w.out++(if ({ g with A:=DW g.A i j }:Gh).row c i=true then [c.fVote g.u i] else [])->Q (true,w')):E5 w f ⟨i,j⟩ Q:=by
 have d:=hw.st;have o:=hw.own rfl;have d9:=h.U_b; have hR:=h.R1; have hC:=h.C1; have f3:=h.ln_n i hi;have d7:c.st (g.u - 1)=0:=(h.st_go (by omega)).2 (by omega);have a9:g.row c i=false:=decide_eq_false λD=>by have:=D j hj; rw[hA] at this; cases this
 have a8:g.rnd c i=g.u - 1:=by unfold Gh.rnd; grind
 have c0:=o.came hu a7 V;have⟨L,a6,d6,hL⟩:=o.sums hu a7 V a9;have⟨b1,b2,b3⟩:=h.blk_prop g.u hi j;have f0:=dW (a:=0) b1 (by simpa using b3);have⟨m1,m2⟩:=h.sm_add (j:=j) hi a6;have a2:=c0.put (v:=true) hj hA rfl;have c1:∀ k,DW g.A i j i k=if k=j then true else g.A i k:=λk=>by unfold DW; simp
 have f6:({ g with A:=DW g.A i j }:Gh).row c i=decide (∀ k,k<c.C->DW g.A i j i k=true):=rfl;unfold E5;have e1:AJ (w.round+1)=(g.u:Int):=by rw[o.round,a8,AK (by omega) (by omega)]; omega
 have d8:w.status=0:=by rw[o.status,if_pos ⟨hu,V⟩,d7]
 have c2:w.waits=false:=by rw[o.waits,V,a9]; rfl
 have d5:(BG (j:Int) w.came).getD false=false:=by rw[c0.no hA]; rfl
 refine BO (λJ=>absurd (by rw[d.pl]; rfl) J) λ_=>BO (λJ=>absurd (by rw[d.pl]) J) λ_=>BO (λJ=>absurd d8 J) λ_=>AH c2 (BO (λJ=>absurd (by rw[hr,e1]) J) λ_=>KQ (AH d5 ?_));refine As6 (n:=c.ln i) (by rw[d.ro]; exact h.siz hi) (by rw[W]; omega) (by rw[W]; exact b1) (by rw[W]; exact b3) (AH rfl (PO ?_));rw[W,show BV w.plan.Kind f.Round=c.rg g.u by rw[d.pn,hr]; rfl,hr];have f4:=a6.len;refine iJ (by simp) (λl Z=>?_) ?_ (λl Z=>?_) ?_
 . grind
 . show w.sums.length+((c.blk g.u i j).length+0)<=_; omega
 . simp only[T7,AoV,or_false] at Z; rcases Z with rfl | rfl
   . exact a6.ok
   . exact b2
 rw[m1];dsimp only;have f1:w.grid.j=(c.C:Int):=by rw[d.gr]
 have f2:=a2.le; have hf:=a2.full
 have b0:∀ (w':A3),Wst c i 0 w'->w'.spread=w.spread->w'.share=w.share->w'.shares=w.shares->w'.vote=w.vote->w'.votes=w.votes->w'.closed=w.closed->w'.waits=({ g with A:=DW g.A i j }:Gh).row c i->w'.begun=w.begun->w'.round=w.round->w'.status=w.status->w'.has=w.has ->
     (({ g with A:=DW g.A i j }:Gh).row c i=true->w'.aside=c.asd g.u i)->(({ g with A:=DW g.A i j }:Gh).row c i=false->w'.sums=MZ (c.rg g.u) w.sums (c.blk g.u i j))->w'.came=EJ (j:Int) true w.came->WOk c { g with A:=DW g.A i j } i 0 w':=by
   intro w' e0 e1 e2 e3 e4 e5 e6 e7 e8 e9 d0 d1 d2 d3 d4;refine⟨e0,by rw[e1]; exact hw.spread,λhz=>by rw[e2,e3]; exact hw.share hz,λ_=>⟨?_,by rw[e8]; exact o.begun,by rw[e9]; exact o.round,by rw[d0]; exact o.status,by rw[d1]; exact o.has,λD=>?_,λ_ _ _ D=>?_,λ_ _ _=>?_⟩,λhz _=>?_⟩
   . rw[e7]; show _=(!g.O i || _); rw[V]; rfl
   . rw[d2 (by rw[<-e7]; exact D)]; show _=c.asd (if g.O i=true then g.u else g.u - 1) i; rw[if_pos V]
   . refine⟨L++[j],by rw[d3 D]; exact m2,List.nodup_append.2 ⟨d6,by simp,λa ha _ hb e=>?_⟩,λk=>?_⟩
     . rw[lO] at hb; subst hb; subst e; have:=((hL a).1 ha).2; rw[hA] at this; cases this
     . rw[sW,lO,hL k];show _↔k<c.C∧DW g.A i j i k=true;rw[c1];by_cases e:k=j
       . subst e; simp[hj]
       . simp[e]
   . rw[d4]; exact a2.congr (λk _=>by show DW g.A i j i k=_; rw[c1]) (λk v _ W=>W)
   . have q:=hw.one hz rfl;exact⟨by rw[e4]; exact q.vote,by rw[e5]; exact q.votes,by rw[e6]; exact q.closed⟩
 refine AY (λ_=>?_) (λ_=>?_)
 . have f5:∀ k,k<c.C->(if k=j then true else g.A i k)=true:=λk hk=>by grind
   have a5:({ g with A:=DW g.A i j }:Gh).row c i=true:=by grind
   have hP:(L++[j]).Perm (List.range c.C):=by grind
   refine AnI (w:={ w with sums:=MZ (c.rg g.u) w.sums (c.blk g.u i j),came:=EJ (j:Int) true w.came }) h hi hu a7 ⟨d.pl,d.pn,d.gr,d.lm,d.ch,d.ro,d.co⟩ hP m2 (by show w.has=_; rw[o.has,a8]) Z ?_;refine hQ _ (b0 _ ⟨d.pl,d.pn,d.gr,d.lm,d.ch,d.ro,d.co⟩ rfl rfl rfl rfl rfl rfl a5.symm rfl rfl rfl rfl (λ_=>rfl) (λD=>by rw[a5] at D; cases D) rfl) ?_;rw[a5]; rfl
 . have⟨k,hk,_⟩:=hf.1 (by omega);have a4:({ g with A:=DW g.A i j }:Gh).row c i=false:=by grind
   refine hQ _ (b0 _ ⟨d.pl,d.pn,d.gr,d.lm,d.ch,d.ro,d.co⟩ rfl rfl rfl rfl rfl rfl ?_ rfl rfl rfl rfl (λD=>by rw[a4] at D; cases D) (λ_=>rfl) rfl) (by rw[a4]; simp);rw[a4]; exact c2
variable {c:GC} {g:Gh}
def Gh.next (g:Gh):Gh:=⟨g.u+1,λ_=>false,λ_ _=>false,λ_ _=>false,λ_ _=>false,λ_=>false⟩
structure Gh.All (c:GC) (g:Gh):Prop where
 u:g.u<c.U
 O:∀ i,i<c.R→g.O i=true
 col:∀ j,j<c.C→g.col c j=true
 E:∀ i j,i<c.R→j<c.C→g.E i j=true
 row:∀ i,i<c.R→g.row c i=true
theorem Gh.Ok.row_all (J:g.Ok c) {i j:Nat} (hi:i<c.R) (d:j<c.C) (O:g.row c i=true):g.A i j=true∧g.E i j=true∧g.col c j=true:=by have h:=of_decide_eq_true O j d;have D:=J.A i j hi d h;exact⟨h,D,J.E i j hi d D⟩
theorem Gh.Ok.all (J:g.Ok c) (h:c.Ok) (V:∀ i,i<c.R->g.row c i=true):g.All c:=by have Z:=h.C1; have hR:=h.R1; have hU:=h.U_b;have d:∀ j,j<c.C->g.col c j=true:=λj D=>(J.row_all (show 0<c.R by omega) D (V 0 (by omega))).2.2;have W:∀ i,i<c.R->g.O i=true∧g.u<c.U:=λi hi=>J.S i 0 hi (of_decide_eq_true (d 0 (by omega)) i hi);exact⟨(W 0 (by omega)).2,λi hi=>(W i hi).1,d,λi j hi D=>(J.row_all hi D (V i hi)).2.1,V⟩
theorem Gh.next_ok (D:g.All c) (h:c.Ok):(g.next).Ok c:=by have J:=h.C1; have O:=h.R1;exact⟨D.u,(λi j _ d=>nomatch d),(λi j _ _ d=>nomatch d),(λi j _ _ d=>nomatch d),(λi _ d=>nomatch d),⟨0,by omega,rfl⟩,(λd=>nomatch d)⟩
theorem Gh.next_col (h:c.Ok) (j:Nat):g.next.col c j=false:=decide_eq_false λd=>nomatch (d 0 (by have:=h.R1; omega))
theorem Gh.next_row (h:c.Ok) (i:Nat):g.next.row c i=false:=decide_eq_false λd=>nomatch (d 0 (by have:=h.C1; omega))
theorem AdD (h:c.Ok) (D:g.u<c.U) (d:1<=g.u):c.st (g.u - 1)=0:=(h.st_go (by omega)).2 (by omega)
theorem WOk.bump (a4:c.Ok) (J:g.All c) {i j:Nat} (hi:i<c.R) (hj:j<c.C) {w w':A3} (h:WOk c g i j w) (s:Wst c i j w') (e:w'.spread=w.spread∧w'.share=w.share∧w'.shares=w.shares∧w'.waits=w.waits∧w'.begun=w.begun∧w'.round=w.round∧w'.status=w.status∧w'.has=w.has∧w'.aside=w.aside) (Z:i=0->j=0->One c g.next w'):WOk c g.next i j w':=by
 have⟨e1,e2,e3,e4,e5,e6,e7,e8,e9⟩:=e;refine⟨s,by rw[e1,h.spread,J.E i j hi hj]; rfl,λU=>?_,λU=>?_,Z⟩
 . have⟨q1,V⟩:=h.share U;rw[J.col j hj] at q1 V;rw[Gh.next_col a4,e2,e3];refine⟨by rw[q1]; rfl,V.ks,λk hk=>?_,(λk _ d=>nomatch d)⟩;have⟨_,_,_,d⟩:=V.key k hk;exact nomatch d
 . have o:=h.own U;have W:=J.O i hi; have a5:=J.row i hi;have a6:g.u>=1->c.st (g.u - 1)=0:=λZ=>AdD a4 J.u Z
   have a2:g.next.rnd c i=g.rnd c i:=by unfold Gh.rnd;rw[if_pos W];show(if (false:Bool)=true then _ else g.u+1 - 2)=_;grind
   refine⟨by rw[e4,o.waits,W,a5]; rfl,?_,by rw[e6,a2]; exact o.round,?_,by rw[e8,a2]; exact o.has,λD=>?_,(λ_ _ D=>nomatch D),(λ_ _ D=>nomatch D)⟩
   . rw[e5,o.begun,W]; show _=(decide (2<=g.u+1) || decide (1<=g.u+1) && false); simp; omega
   . have U:(if 1<=g.next.u∧g.next.O i=true then c.st (g.next.u - 1) else 0)=0:=if_neg (λD=>nomatch D.2);rw[U,e7,o.status];omega
   . rw[e9,o.aside (by rw[<-e4]; exact D),if_pos W]; rfl
theorem qS {κ α:Type} [DecidableEq κ] {k:κ} {v:α}:∀ {m:List (κ×α)},BG k m=some v->(k,v)∈m
 | (k',v') :: m,h=>by
  simp only[BG] at h;split at h
  . rename_i e; rw[e,AbU h]; simp
  . exact cD _ (qS h)
open Classical in
theorem AnK (a5:c.Ok) {u:Nat} (hu:u<c.U) {w:A3} (hv:w.vote=(u:Int)) (hl:w.limit=c.lim) (hm:MapR w.votes c.R (λ_=>true) (λi f=>f.N=(c.fVote u i).N∧f.Over=(c.fVote u i).Over)) {Q:Int->Prop} (hQ:Q (c.st u)):FI w Q:=by
 unfold FI
 have b0:(∃ x∈w.votes,x.2.Over=true)↔∃ i,i<c.R∧c.ov u i=true:=by
   constructor
   . rintro⟨x,Z,d⟩;have⟨i,W,_,_,h2,D⟩:=hm.mem Z;exact⟨i,W,by rw[D] at d; exact d⟩
   . rintro⟨i,hi,d⟩;have⟨v,W,h2,D⟩:=hm.get i hi rfl;have a4:((i:Int),v)∈w.votes:=qS W;exact⟨((i:Int),v),a4,by show v.Over=true; rw[D]; exact d⟩
 have a8:¬(∃ i,i<c.R∧c.ov u i=true)->((∃ x∈w.votes,x.2.N≠0)↔¬ ∀ i,i<c.R->c.lv u i=0):=by
   intro a9;have hN:∀ i,i<c.R->(c.fVote u i).N=c.lv u i:=λi hi=>if_neg λd=>a9 ⟨i,hi,d⟩;constructor
   . rintro⟨x,Z,d⟩ V;have⟨i,W,_,_,h2,D⟩:=hm.mem Z;grind
   . intro V;rcases Aa6 (∃ i,i<c.R∧c.lv u i≠0) with⟨i,hi,a2⟩ | Z
     . have⟨v,W,h2,D⟩:=hm.get i hi rfl;exact⟨((i:Int),v),qS W,by show v.N≠0; rw[h2,hN i hi]; exact a2⟩
     all_goals grind
 have h:=a5.counts hu;refine CQ (λs=>((s.2.1=true∨∃ x∈s.1,x.2.Over=true)↔∃ x∈w.votes,x.2.Over=true)∧((s.2.2=true∨∃ x∈s.1,x.2.N≠0)↔∃ x∈w.votes,x.2.N≠0)) (λs=>s.1.length) (by simp) ?_;rintro⟨l,ov,lv⟩ next ⟨O,J⟩ hn;simp only at O J hn;refine WI (λZ=>?_) (λp r hp=>?_)
 . subst Z;simp only[AoV,false_and,exists_false,or_false] at O J;by_cases d:∃ i,i<c.R∧c.ov u i=true
   . rw[if_pos d] at h; rw[h] at hQ;exact AV (O.2 (b0.2 d)) hQ
   . rw[if_neg d] at h;have hf:ov=false:=by grind
     refine AH hf ?_;by_cases V:∀ i,i<c.R->c.lv u i=0
     . rw[if_pos V] at h; rw[h] at hQ;have a6:lv=false:=by grind
       exact AV (by rw[a6]; rfl) hQ
     . rw[if_neg V] at h;have a7:=J.2 ((a8 d).2 V);refine AH (by rw[a7]; rfl) (AY (λhe=>?_) (λhe=>?_))
       all_goals grind
 . have b1:=hp.length_eq
   have a4:∀ (P:Int×AU->Prop),(∃ x∈l,P x)↔P p∨∃ x∈r,P x:=λP=>by grind
   rw[a4] at O J;have a2:(p.2.N != 0)=true↔p.2.N≠0:=by simp
   simp only[uP] at b1;cases ov <;> cases lv <;> simp only[AbS,false_or,true_or] at O J
   . refine AH rfl (AH rfl (hn _ ⟨O,?_⟩ (by simp only; omega)));simp only[a2]; exact J
   . exact AH rfl (AV rfl (hn _ ⟨O,by simpa using J⟩ (by simp only; omega)))
   . refine AV rfl (AH rfl (hn _ ⟨by simpa using O,?_⟩ (by simp only; omega)));simp only[a2]; exact J
   . exact AV rfl (AV rfl (hn _ ⟨by simpa using O,by simpa using J⟩ (by simp only; omega)))
theorem AlL (h:c.Ok) (hg:g.Ok c) {i:Nat} (hi:i<c.R) {w:A3} (O:WOk c g 0 0 w) (hu:g.u<c.U) (d8:g.row c i=true) (hV:g.V i=false) {f:AU} (hr:f.Round=(g.u:Int)) (W:f.N=(c.fVote g.u i).N) (ho:f.Over=(c.fVote g.u i).Over) (hl:w.out.length<=1000) {Q:Bool×A3->Prop}
   (a9:(∃ k,k<c.R∧IB g.V i k=false)->∀ w',WOk c { g with V:=IB g.V i } 0 0 w'->w'.out=w.out->Q (true,w'))
   (b0:(∀ k,k<c.R->IB g.V i k=true)->∀ w',WOk c g.next 0 0 w'->w'.out=w.out++(List.range c.R).map (c.fOrder g.u)->Q (true,w')):EU w f ⟨i,0⟩ Q:=by
 have d:=O.st;have q:=O.one rfl rfl;have hR:=h.R1; have hC:=h.C1; have d7:=h.U_b;have d4:=q.votes.no hV;have a2:=q.votes.put (v:=f) hi hV ⟨W,ho⟩;have hf:=a2.full
 have d2:w.closed=false:=by rw[q.closed];grind[AdD]
 unfold EU;refine jT (λv hx=>by rw[show BG (i:Int) w.votes=none from d4] at hx; cases hx) λ_=>AH rfl (AH (by rw[d.pl]; rfl) (AH d2 (BO (λJ=>absurd rfl J) λ_=>BO (λJ=>absurd (by rw[hr,q.vote]) J) λ_=>?_)));dsimp only;have d3:w.grid.i=(c.R:Int):=by rw[d.gr]
 refine A2 (λ_=>?_) (λ_=>?_)
 . refine a9 ((hf.1 (by omega)).imp λk hk=>hk) _ ?_ rfl;refine⟨⟨d.pl,d.pn,d.gr,d.lm,d.ch,d.ro,d.co⟩,O.spread,O.share,λhz=>?_,λ_ _=>⟨q.vote,a2,q.closed⟩⟩;have o:=O.own hz;exact⟨o.waits,o.begun,o.round,o.status,o.has,o.aside,o.sums,o.came⟩
 . have Z:∀ k,k<c.R->IB g.V i k=true:=λk hk=>by
     cases hd:IB g.V i k with
     | true=>rfl
     | false=>exact absurd (hf.2 ⟨k,hk,hd⟩) (by omega)
   have d5:∀ k,k<c.R->g.row c k=true:=λk hk=>by
     have:=Z k hk;unfold IB at this;split at this
     . grind
     . exact hg.V k hk this
   have ha:=hg.all h d5;refine AnK (w:={ w with votes:=EJ (i:Int) f w.votes }) h hu q.vote d.lm (a2.congr (λk hk=>(Z k hk).symm) λk v _ hv=>hv) ?_;have⟨_,_,_,_,_,_,_,out,a8,a6,a7,round,a5,b1,c2,d1,d0,c1,c0,a4,votes,d6⟩:=w;have⟨w1,w2,w3,w4,w5,w6,w7⟩:=d;have D:=q.vote;simp only at w1 w2 w3 w4 w5 w6 w7 hl a9 b0 D d3;subst w1 w2 w3 w4 w5 w6 w7;refine AL (σ:=List AU) (τ:=A3×Int) (λs k=>(⟨⟨(0:Nat),(0:Nat)⟩,c.p,⟨c.R,c.C⟩,c.lim,c.ch,c.rows 0 0,c.cols 0 0,s,a8,a6,a7,round,a5,b1,c2,d1,d0,c1,c0,a4,EJ (i:Int) f votes,d6⟩,k)) 0 c.R (s0:=out) (by omega) (λk s=>s=out++(List.range k).map (c.fOrder g.u)) (by omega) (by simp) (λk s next _ hk d W=>?_) (λs next d=>?_)
   . subst d;refine A2 (λ_=>?_) (λJ=>absurd (show(k:Int)<c.R by omega) J);refine YP (a:=k) (b:=0) rfl hC (by omega) (by omega) ?_;refine qR (i:=0) (j:=0) h ⟨rfl,rfl,rfl,rfl,rfl,rfl,rfl⟩ (by omega) (by omega) (by simp; omega) (W _ ?_);rw[bM,iE,<-lL];show _=_++[c.fOrder g.u k];unfold GC.fOrder;rw[dX,D];rfl
   . subst d;refine A2 (λJ=>absurd (show(c.R:Int)<c.R from J) (by omega)) (λ_=>?_);refine b0 Z _ ?_ rfl
     have o1:One c g.next (⟨⟨(0:Nat),(0:Nat)⟩,c.p,⟨c.R,c.C⟩,c.lim,c.ch,c.rows 0 0,c.cols 0 0,out++(List.range c.R).map (c.fOrder g.u),a8,a6,a7,round,a5,b1,c2,d1,d0,c1,c0,AJ (a4+1),[],c.st g.u != 0⟩:A3):=by
       refine⟨?_,MapR.nil _ _ λk _=>rfl,?_⟩
       . show AJ (a4+1)=((g.u+1:Nat):Int);rw[D,AK (by omega) (by omega)]; omega
       . show(c.st g.u != 0)=decide (1<=g.u+1∧c.st (g.u+1 - 1)≠0);grind
     exact WOk.bump h ha (by omega) (by omega) O ⟨rfl,rfl,rfl,rfl,rfl,rfl,rfl⟩ ⟨rfl,rfl,rfl,rfl,rfl,rfl,rfl,rfl,rfl⟩ λ_ _=>o1
end Go.Proofs.YtcecodhleocefaaGreat
