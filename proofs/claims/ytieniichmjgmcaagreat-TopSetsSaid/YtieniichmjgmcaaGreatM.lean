import Derived.Test.YtieniichmjgmcaaGreatL
set_option linter.unusedVariables false
set_option linter.unusedSimpArgs false
namespace Go.Proofs.YtieniichmjgmcaaGreat
open Go Go.Fw
section
variable {β:Type} {d:Int}
theorem AnF {v:Vec} (J:VecP v) {lo hi a b:Int} (h:0<=lo) (U:lo<=a) (V:a<=b) (W:b<=hi) (O:hi<=v.N):RQ (M1 v lo hi) (a - lo) (b - lo)=M1 v a b:=by
 have D:(M1 v lo hi).N=hi - lo:=rfl;rw[AbZ (Al7 J h (by omega) O) (by omega) (by omega) (by rw[D]; omega)];unfold M1;simp only;rw[ApB,AdV,List.filter_filter,show b - lo - (a - lo)=b - a by omega];congr 1
 have e:v.Items.filter (λt=>((λx:B9=>decide (a - lo<=x.At∧x.At<b - lo))∘λt:B9=>(⟨t.At - lo,t.Val⟩:B9)) t && decide (lo<=t.At∧t.At<hi))=v.Items.filter λt=>decide (a<=t.At∧t.At<b):=by grind
 rw[e];refine wY λt _=>?_;grind
def aC (c d x:Int):Int:=if x<c then c else if d<x then d else x
theorem sI {c x y:Int} (h:c<=d) (D:x<=y):aC c d x<=aC c d y:=by grind[aC]
theorem oX {v:Vec} (D:VecP v) {p q i j:Int} (J:XN p q i j):S5 (FW v p i) v.N p q i j=M1 v (aC (AW v.N q j) (AW v.N q (j+1)) (AW v.N p i)) (aC (AW v.N q j) (AW v.N q (j+1)) (AW v.N p (i+1))) ∧
  iM v.N p q i j - XO v.N p q i j=aC (AW v.N q j) (AW v.N q (j+1)) (AW v.N p (i+1)) - aC (AW v.N q j) (AW v.N q (j+1)) (AW v.N p i):=by
 have h:=lZ D J.1.1 J.2.1;have Z:=D.n0; have a7:=D.n1;unfold S5;rw[if_pos ⟨⟨Z,a7⟩,J,h.1,h.2.1⟩,oW D J.1.1 J.2.1];unfold iM XO mx mn;have a0:=U9 (n:=v.N) (k:=p) (i:=i); have a1:=U9 (n:=v.N) (k:=p) (i:=i+1); have a2:=II (n:=v.N) (k:=p) (show i<=i+1 by omega);have b0:=U9 (n:=v.N) (k:=q) (i:=j); have b1:=U9 (n:=v.N) (k:=q) (i:=j+1); have b2:=II (n:=v.N) (k:=q) (show j<=j+1 by omega);have a6:=a1.2 Z; have a9:=b1.2 Z; have a5:=a0.1; have a8:=b0.1;generalize AW v.N p i=lo at *;generalize AW v.N p (i+1)=hi at *;generalize AW v.N q j=c at *;generalize AW v.N q (j+1)=d at *
 have key:∀ A B:Int,A=(if c > lo then c else lo)->B=(if (if d<hi then d else hi) > A then (if d<hi then d else hi) else A)->RQ (M1 v lo hi) (A - lo) (B - lo)=M1 v (aC c d lo) (aC c d hi)∧B - A=aC c d hi - aC c d lo:=by
  intro A B hA hB;by_cases h1:A<=hi
  . have a4:lo<=A:=by omega
    have O:A<=B:=by omega
    have a3:B<=hi:=by omega
    rw[AnF D a5 a4 O a3 a6];by_cases h2:A<=d
    . grind[aC]
    . have e0:A=lo:=by omega
      have V:B=A:=by omega
      have W:aC c d lo=d:=by grind[aC]
      have U:aC c d hi=d:=by grind[aC]
      rw[W,U,V,mA,mA]; grind
  . have e0:A=c:=by omega
    have V:B=A:=by omega
    have W:aC c d lo=c:=by grind[aC]
    have U:aC c d hi=c:=by grind[aC]
    have hz:RQ (M1 v lo hi) (A - lo) (B - lo)=zV:=by have hN:(M1 v lo hi).N=hi - lo:=rfl;unfold RQ;grind
    rw[hz,W,U,V,mA]; grind
 grind
theorem AaF {v:Vec} (h:VecP v) {k:Nat} {n:Int} (W:∀ j (D:j<v.Items.length),j<k->v.Items[j].At<n) (U:∀ j (D:j<v.Items.length),k<=j->n<=v.Items[j].At) :
   lW (OH v).Has n=if hk:k<v.Items.length then v.Items[k].At else -1:=by
 split
 . rename_i hk;refine uU ?_ (U k hk (Y3 _)) λq V _=>?_
   . rw[lS h,VT h.inc (RY hk)]; rfl
   . rw[lS h,RP]
     . rfl
     . intro s J e;obtain⟨j,D,rfl⟩:=List.mem_iff_getElem.1 J;rcases ZZ j k with g | g
       . grind
       . rcases ZZ k j with O | O
         . have:=h.inc.at D O; omega
         grind
 . rename_i hk;refine uV λq V=>?_;rw[lS h,RP]
   . rfl
   . intro s J e;obtain⟨j,D,rfl⟩:=List.mem_iff_getElem.1 J;grind
theorem xN {v:Vec} {Q:Vec->Prop} (h:VecP v) (hQ:Q v):YF (OH v) Q:=by
 unfold YF iG WF S1;have a7:=h.len; have h0:=h.n0; have h1:=h.n1;have Z:(OH v).Has.length<=1000000:=by have:=Al1 v; omega
 have a5:((OH v).Vals.length:Int)=v.N:=by simp[OH,XL]; omega
 refine bT h (B7 rfl (WI (lT v) Z ?_));rw[AaF h (k:=0) (λj O h=>by omega) (λj O _=>(h.ins _ (RY O)).1)];refine CN (λs:Int×List B9×Int×Nat=>∃ k:Nat,k<=v.Items.length∧s.1=v.N∧s.2.1=v.Items.take k∧s.2.2.2=0∧s.2.2.1=if hk:k<v.Items.length then v.Items[k].At else -1) (λs=>v.Items.length - s.2.1.length) ⟨0,by omega,rfl,by simp,rfl,rfl⟩ ?_;rintro⟨_,s2,V,_⟩ next ⟨k,hk,J,U,W,D⟩ hn;simp only at J U W D ⊢;subst J; subst W;have a3:s2.length=k:=by grind
 by_cases hkl:k<v.Items.length
 . rw[dif_pos hkl] at D;have a6:=h.ins _ (RY hkl)
   have a2:BD (OH v).Vals V=v.Items[k].Val:=by have:BD (OH v).Vals V=(G3 v.Items V).getD 0:=oS (by omega) (by omega);rw[this,D,VT h.inc (RY hkl)]; rfl
   refine A0 (λ_=>BC (by omega) (by omega) ⟨rfl,AK (by simp; omega) ?_⟩) (λh'=>by omega);refine AH rfl (WI (lT v) Z ?_);rw[A7 (by omega) (by omega),AaF h (k:=k+1) (λj O a4=>?_) (λj O a4=>?_),a2]
   . refine hn _ ⟨k+1,by omega,rfl,?_,rfl,rfl⟩ (by simp only[kC,At4,a3]; omega);simp only;rw[cZ hkl,U,D]
   . rw[D];by_cases e:j=k
     . subst e; omega
     . have:=h.inc.at hkl (i:=j) (by omega); omega
   . rw[D];have:=h.inc.at O (i:=k) (by omega); omega
 . rw[dif_neg hkl] at D;refine A0 (λh'=>by omega) (λ_=>⟨rfl,?_⟩);rw[AoY (by omega)] at U;simp_all
def AwK (w a b:Int):Int:=if w=1 then 1 else if w=2 then 2 else if A5 (b.tdiv 4)<a then 2 else 1
def iO (f a b:Int):Int:=if f=1 then 1 else if f=2 then 2 else if A5 (b.tdiv 8)<a then 2 else 1
theorem AwL {w a b:Int} {Q:Int->Prop} (J:Q (AwK w a b)):LI w a b Q:=by
 unfold LI; unfold AwK at J;refine AZ (λh=>?_) (λh=>AZ (λD=>?_) (λD=>A0 (λO=>?_) (λO=>?_)))
 all_goals grind
theorem Ar9 {w a b:Int} {Q:Int->Prop} (J:Q (iO w a b)):SO w a b Q:=by
 unfold SO; unfold iO at J;refine AZ (λh=>?_) (λh=>AZ (λD=>?_) (λD=>A0 (λO=>?_) (λO=>?_)))
 all_goals grind
theorem ArA (f a b:Int):iO f a b=1∨iO f a b=2:=by grind[iO]
def AaG (s:Int) (u:Vec):iB:=if s=2 then ⟨2,zV,OH u⟩ else ⟨1,u,⟨0,[],[]⟩⟩
def AlI (f:Int) (v:Vec):iB:=AaG (iO f (FV v).Items.length (FV v).N) (FV v)
theorem cB {l:List B9} {Q:List B9->Prop} (D:l.length<=1000000) (h:Q l):B6 l Q:=by unfold B6;refine MM (λe=>by subst e; exact h) (AK (by simp; omega) ?_);exact h
theorem Au8 {f:Int} {v:Vec} {Q:iB->Prop} (U:v.Items.length<=1000000000) (D:Q (AlI f v)):VE f v Q:=by
 unfold VE;have O:=RO v;unfold AlI AaG at D;refine BH (λt=>(⟨t.1,t.2⟩:Vec)=FV v) ?_ ?_
 . rintro⟨_,_⟩ ht;simp only at ht ⊢;rw[<-ht] at D O;have J:=O.len;simp only at J D;refine Ar9 (AZ (λh=>?_) (λh=>?_))
   . rw[if_pos h] at D;refine qP (by simp only; omega) ?_;rw[IG O]; exact D
   grind[ArA,cB]
 . intro k hk;refine F3 U (BZ (λh=>hk _ ?_) (λh=>hk _ ?_))
   . rw[FV,if_neg (of_decide_eq_false h)]; rfl
   . rw[FV,if_pos (of_decide_eq_true h)]
theorem AiH {s:Int} {u:Vec} {Q:Vec->Prop} (h:VecP u) (D:Q u):PL (AaG s u) Q:=by
 unfold PL AaG;have J:=h.len;split
 . exact B7 rfl (xN h D)
 . refine AH rfl (BH (λb=>b=true) (λb O=>B7 O (cB (by simp only; omega) D)) λ_ hk=>B7 rfl (F3 (by simp only; omega) (hk _ (decide_eq_true h))))
theorem ArB {s:Int} {u:Vec} {Q:Dense->Prop} (h:VecP u) (D:Q (OH u)):ST (AaG s u) Q:=by unfold ST;refine AiH h (qP (by have:=h.len; omega) ?_);rw[IG h]; exact D
def ArC (r w:Int) (s:List BM×Int) (d:Int):List BM×Int×Int:=if s.2≠0 then ([],0,s.2) else (s.1,d,0)
theorem ArD {t:GP} {rows cols:Int} {ts:List A2} {s:Int} {u:Vec} {Q:List BM×Int×Int->Prop} (O:Canon rows cols ts) (V:∀ x∈ts,DH x.Val) (hR:t.Rows=BT rows cols ts) (Z:t.Cols=U1 rows cols (N7 cols ts)) (hX:t.X=AaG s u) (J:VecP u) (U:∀ x∈u.Items,DH x.Val) (h:VQ t.Set)
   (hQ:Q (ArC t.Ring t.Way (lV t.Ring rows cols ts u t.Set t.Others) (AwK t.Way (S9 (N7 cols ts) (VS u)) ts.length))):VM t Q:=by
 have⟨_,_,_,_,_,_,_⟩:=t;simp only at hR Z hX h hQ;subst hR; subst Z; subst hX;unfold VM KV KW;have D:=YT O;have a2:=AhX O V;have W:u.Items.length<=1000000000:=by have:=J.len; omega
 simp only;refine AiH J (AbW D.smlC W (oM D) D (AbH O.sml (Q4 O) (AwL ?_)));unfold ArC at hQ;refine AZ (λa3=>ArB J (AbY O V J U h ?_)) (λa3=>AiH J (AbT D.smlC (oM D) D a2 W (by rw[IG J]; exact U) h ?_))
 . refine BU (λa4=>?_) (λhe=>?_)
   all_goals grind
 . rw[IG J,<-An3 D,AmT O];refine BU (λa4=>?_) (λhe=>?_)
   all_goals grind
def AnG (l:List Int):Prop:=∃ d∈l,d<0∨2147483647<d
instance (l:List Int):Decidable (AnG l):=by unfold AnG; infer_instance
def C0 (p:Plan):Int:=
 if p.Kind<1∨5<p.Kind then 8
 else if p.N<0∨4096<p.N∨((p.Kind=1∨p.Kind=2∨p.Kind=4)∧(p.Source<0∨p.N<=p.Source))∨(p.Kind=4∧(p.Length<0∨8192<p.Length)) then 3
 else if 65536<p.Draws.length then 5
 else if AnG p.Draws then 7 else 0
theorem BO {p:Plan} (h:C0 p=0):(1<=p.Kind∧p.Kind<=5)∧(0<=p.N∧p.N<=4096)∧((p.Kind=1∨p.Kind=2∨p.Kind=4)->0<=p.Source∧p.Source<p.N)∧(p.Kind=4->0<=p.Length∧p.Length<=8192)∧p.Draws.length<=65536∧∀ d∈p.Draws,0<=d∧d<=2147483647:=by
 unfold C0 at h;split at h
 . cases h
 split at h
 . cases h
 split at h
 . cases h
 split at h
 . cases h
 rename_i U V W O;refine⟨by omega,by omega,by omega,by omega,by omega,λd D=>?_⟩;have:¬(d<0∨2147483647<d):=λJ=>O ⟨d,D,J⟩;omega
theorem AcB {l:List Int} {Q:Bool->Prop} (hl:l.length<=65536) (W:Q (decide (AnG l))):BI l Q:=by
 unfold BI EV P9;refine CM l.length (by omega) (λi=>∀ (j:Nat) (D:j<l.length),j<i->¬(l[j]<0∨2147483647<l[j])) (by simp) (λi next hi O Z=>?_) (λnext O=>?_)
 . refine A0 (λ_=>?_) (λh=>by omega)
   have hbad (J:l[i]<0∨2147483647<l[i]):Q (decide (0<=(i:Int))):=by rwa [decide_eq_true (show AnG l from⟨_,RY hi,J⟩),<-decide_eq_true (show(0:Int)<=i by omega)] at W
   refine AN hi (A0 (λU=>B7 rfl (hbad (.inl U))) (λU=>A0 (λV=>hbad (.inr V)) (λV=>Z λj D _=>?_)));grind
 . refine A0 (λh=>by omega) (λ_=>?_)
   rwa [decide_eq_false (λ⟨_,hd,J⟩=>by obtain⟨j,D,rfl⟩:=WA hd;exact O j D D J),<-decide_eq_false (show ¬(0:Int) <= -1 by omega)] at W
theorem WL {p:Plan} {Q:Int->Prop} (J:Q (C0 p)):PA p Q:=by
 unfold PA IW DE;unfold C0 at J;refine A0 (λh1=>by rwa [if_pos (by omega)] at J) (λh1=>A0 (λh2=>by rwa [if_pos (by omega)] at J) (λh2=>?_));rw[if_neg (by omega)] at J;have hE (Z:p.N<0∨4096<p.N∨((p.Kind=1∨p.Kind=2∨p.Kind=4)∧(p.Source<0∨p.N<=p.Source))∨(p.Kind=4∧(p.Length<0∨8192<p.Length))):Q 3:=by rwa [if_pos Z] at J
 refine A0 (λh3=>BZ (λV=>hE (by have:=of_decide_eq_false V; omega)) (λV=>?_)) (λh3=>B7 rfl (hE (by omega)))
 replace V:=of_decide_eq_true V
 have hw:A5 (p.N - 1)=p.N - 1:=A7 (by omega) (by omega)
 have hk (Z:¬(p.N<0∨4096<p.N∨((p.Kind=1∨p.Kind=2∨p.Kind=4)∧(p.Source<0∨p.N<=p.Source))∨(p.Kind=4∧(p.Length<0∨8192<p.Length)))) :
   A4 (decide (65536<(p.Draws.length:Int))) (Q 5) (BI p.Draws λD=>A4 D (Q 7) (Q 0)):=by
  rw[if_neg Z] at J;refine A0 (λh=>by rwa [if_pos (by omega)] at J) (λh=>?_);rw[if_neg (by omega)] at J;exact AcB (by omega) (A0 (λh=>by rwa [if_pos h] at J) (λh=>by rwa [if_neg h] at J))
 have hs (a2:p.Kind=1∨p.Kind=2∨p.Kind=4) (a3:p.Kind=4->0<=p.Length∧p.Length<=8192) :
   A4 (decide (0<=p.Source)) (A4 (!decide (p.Source<=A5 (p.N - 1))) (Q 3) (A4 (decide (65536<(p.Draws.length:Int))) (Q 5) (BI p.Draws λD=>A4 D (Q 7) (Q 0))))
    (A4 (!false) (Q 3) (A4 (decide (65536<(p.Draws.length:Int))) (Q 5) (BI p.Draws λD=>A4 D (Q 7) (Q 0)))):=by
  refine A0 (λW=>BZ (λO=>hE (by have:=of_decide_eq_false O; omega)) (λO=>hk (by have:=of_decide_eq_true O; omega))) (λW=>B7 rfl (hE (by omega)))
 refine AZ (λW=>A0 (λO=>BZ (λU=>hE (by have:=of_decide_eq_false U; omega)) (λU=>hs (by omega) (λ_=>⟨O,of_decide_eq_true U⟩))) (λO=>B7 rfl (hE (by omega)))) (λW=>?_);exact AZ (λO=>hs (by omega) (by omega)) (λO=>AZ (λU=>hs (by omega) (by omega)) (λU=>hk (by omega)))
theorem AcC (a:Int):Y4 .i64 a 1=a % 2:=by
 have h:(BitVec.ofInt 64 a &&& BitVec.ofInt 64 1).toNat=(a % 2).toNat:=by rw[BitVec.toNat_and,BitVec.toNat_ofInt,BitVec.toNat_ofInt];grind
 unfold Y4;rw[show IntKind.i64.bits=64 from rfl,h];have D:0<=a % 2:=by omega
 have J:a % 2<2:=by omega
 rw[show((a % 2).toNat:Int)=a % 2 by omega];exact A7 (by omega) (by omega)
def CD (k:Int) (r:Int):Int:=if k=1∨k=3 then 4 else if k=2 then 1 else if k=4 then 5 else if k=5 then (if r % 2=0 then 2 else 4) else 0
theorem Z1 {k r:Int} {Q:Int->Prop} (D:Q (CD k r)):T7 k r Q:=by
 unfold T7;rw[AcC];unfold CD at D;refine AZ (λh=>by subst h; exact D) (λ_=>AZ (λh=>by subst h; exact D) (λ_=>AZ (λh=>?_) (λ_=>AZ (λh=>by subst h; exact D) (λ_=>AZ (λh=>by subst h; exact D) (λ_=>?_)))))
 . subst h;refine AZ (λh=>?_) (λh=>?_)
   all_goals grind
 all_goals grind
theorem AlJ {x v:Int} (J:0<=x) (O:x<=2147483647) (U:0<=v) (V:v<4096):yX .i64 (shl .i64 x 12) v=x*4096+v:=by
 have D:shl .i64 x 12=x*4096:=by unfold shl;rw[show((2:Int) ^ (min (Int.toNat 12) IntKind.i64.bits))=4096 from by decide];exact A7 (by omega) (by omega)
 obtain⟨a,rfl⟩:∃ a:Nat,x=(a:Int):=⟨x.toNat,by omega⟩;obtain⟨b,rfl⟩:∃ b:Nat,v=(b:Int):=⟨v.toNat,by omega⟩;rw[D];unfold yX
 have h:(BitVec.ofInt 64 ((a:Int)*4096) ||| BitVec.ofInt 64 (b:Int)).toNat=a*4096+b:=by
  rw[BitVec.toNat_or,BitVec.toNat_ofInt,BitVec.toNat_ofInt];have hp:((2 ^ 64:Nat):Int)=18446744073709551616:=by decide
  rw[hp,show(((a:Int)*4096) % 18446744073709551616).toNat=2 ^ 12*a by omega,show(((b:Int)) % 18446744073709551616).toNat=b by omega];rw[<-Nat.two_pow_add_eq_or_of_lt (by omega:b<2 ^ 12)];omega
 rw[show IntKind.i64.bits=64 from rfl,h];rw[show((a*4096+b:Nat):Int)=(a:Int)*4096+b by omega];exact A7 (by omega) (by omega)
def dv (l:List Int) (i:Int):Int:=if l=[] then 0 else BD l (i % l.length)
theorem ArE {l:List Int} (h:∀ d∈l,0<=d∧d<=2147483647) (i:Int):0<=dv l i∧dv l i<=2147483647:=by
 unfold dv;split
 . omega
 . rename_i D;have J:0<l.length:=List.length_pos_iff.2 D;exact h _ (rY (by exact AjP _ (by omega)) (AjK _ (by omega)))
def AnH (p:Plan) (d v:Int):Int:=if 0<=d∧d<=8192∧0<=v∧v<p.N then dv p.Draws (d*p.N+v)*4096+v else 0
theorem AwM {n:Int} (O:0<=d) (D:d<=8192) (h:0<=n) (J:n<=4096):0<=d*n∧d*n<=33554432:=by refine⟨AjV O h,?_⟩;have:=AjS D J h (by omega:(0:Int)<=8192);omega
theorem AwN {l:List Int} {i:Int} {K:Int->Prop} (h:0<=i) (D:0<l.length) (hk:K (dv l i)):nzP (l.length:Int) (AU l (i.tmod (l.length:Int)) K):=by refine⟨by omega,?_⟩;rw[AoO h];refine BC (AjP _ (by omega)) (AjK _ (by omega)) ?_;grind[dv]
theorem cC {p:Plan} {v:Int} {Q:Int->Prop} (O:0<=p.N∧p.N<=4096) (hd:∀ d∈p.Draws,0<=d∧d<=2147483647) (D:Q (AnH p d v)):IX p d v Q:=by
 unfold IX IW;unfold AnH at D;have Z:A5 (p.N - 1)=p.N - 1:=A7 (by omega) (by omega);rw[Z];refine A0 (λU=>BZ (λh=>?_) (λh=>?_)) (λU=>B7 rfl (by rwa [if_neg (by omega)] at D))
 . grind
 replace h:=of_decide_eq_true h
 refine A0 (λV=>BZ (λJ=>?_) (λJ=>?_)) (λV=>B7 rfl (by rwa [if_neg (by omega)] at D))
 . grind
 replace J:=of_decide_eq_true J
 rw[if_pos (by omega)] at D;have hm:=AwM U h O.1 O.2;refine A0 (λW=>?_) (λW=>?_)
 . rw[A7 (x:=d*p.N) (by omega) (by omega),A7 (x:=d*p.N+v) (by omega) (by omega)];grind[AwN,ArE,AlJ]
 . rw[AlJ (by omega) (by omega) V (by omega)];have:p.Draws=[]:=AvU (by omega);grind[dv]
def FJ (es:List B2):List B2:=(SV (SC 1 (es.map oI)) mkE).1
theorem Au9 (a:AP):DH (GY a).1:=by
 unfold GY DH;split
 . rw[HU]; omega
 . simp
theorem oY (es:List B2):∀ e∈FJ es,DH e.W:=by
 intro e h;unfold FJ SV at h;split at h
 . obtain⟨_,_,rfl⟩:=List.mem_map.1 h;exact Au9 _
 . cases h
theorem QD {es:List B2} (h:∀ e∈es,DH e.W):(FJ es).length<=es.length:=by have:=(eI 1 (es.map oI) (λ_ D=>by obtain⟨e,J,rfl⟩:=List.mem_map.1 D; exact h e J)).1;unfold FJ SV;grind
theorem OO {g:Graph} {Q:Graph->Prop} (h:g.Edges.length<=1000000) (D:∀ e∈g.Edges,DH e.W) (J:Q ⟨g.N,FJ g.Edges⟩):IV g Q:=by unfold IV; exact tR (by omega) h D J
theorem AcD {g:Graph} {Q:Graph->Prop} (h:g.Edges.length<=1000000) (D:∀ e∈g.Edges,DH e.W) (J:Q ⟨g.N,FJ g.Edges⟩):VG g Q:=by unfold VG; exact tS (by omega) h D J
theorem AnI {α:Type} {p:α->Bool} {xs:List α} {i:Nat} (h:i<xs.length):(xs.take (i+1)).filter p=(xs.take i).filter p++(if p xs[i] then [xs[i]] else []):=by rw[cZ h,gT];grind
def MJ (e:B2):Bool:=e.From != e.To
def P4 (g:Graph):Graph:=⟨g.N,FJ (g.Edges.filter MJ)⟩
def AcE (e:B2):B2:=⟨e.From,e.To,1⟩
def F9 (g:Graph):Graph:=⟨g.N,FJ (g.Edges.map AcE)⟩
def mH (g:Graph):Graph:=⟨g.N,FJ (g.Edges.map fV)⟩
def NB (g:Graph):Graph:=⟨g.N,FJ (g.Edges++(mH g).Edges)⟩
theorem ArF {α:Type} {p:α->Bool} {xs:List α} {i:Nat} (h:i<=xs.length):((xs.take i).filter p).length<=i:=by grind
theorem AaH {g:Graph} {Q:Graph->Prop} (U:g.Edges.length<=1000000) (V:∀ e∈g.Edges,DH e.W) (Z:Q (P4 g)):NU g Q:=by
 unfold NU TJ MP;refine A6 (λ(s:List B2) i=>(s,i)) 0 g.Edges.length (by omega) (λi s=>s=(g.Edges.take i).filter MJ) (by omega) rfl (λi s next _ hi D J=>?_) (λs next D=>?_)
 . subst D;have hL:=ArF (p:=MJ) (xs:=g.Edges) (Nat.le_of_lt hi);refine A0 (λ_=>AN hi ?_) (λh=>by omega);have e:=AnI (p:=MJ) hi;refine BU (λh=>AK (by simp; omega) (J _ ?_)) (λh=>J _ ?_)
   all_goals grind[MJ]
 . subst D;refine A0 (λh=>by omega) (λ_=>?_);rw[nM];exact OO (gV (wX _ _) U) (λe O=>V e (List.mem_filter.1 O).1) Z
theorem vF {g:Graph} {Q:Graph->Prop} (U:g.Edges.length<=1000000) (V:Q (F9 g)):N2 g Q:=by
 unfold N2 TK NV;refine A6 (λ(s:List B2) i=>(s,i)) 0 g.Edges.length (by omega) (λi s=>s=(g.Edges.take i).map AcE) (by omega) rfl (λi s next _ hi D J=>?_) (λs next D=>?_)
 . subst D;refine A0 (λ_=>AN hi (B7 rfl (AK (by simp; omega) (J _ ?_)))) (λh=>by omega);rw[HM hi]; rfl
 . subst D;refine A0 (λh=>by omega) (λ_=>?_);rw[nM];exact OO (by simpa using U) (λ_ O=>by obtain⟨_,_,rfl⟩:=List.mem_map.1 O; unfold DH AcE; simp) V
theorem AcF {g:Graph} {Q:Graph->Prop} (U:g.Edges.length<=1000000) (V:Q (F9 g)):VH g Q:=by
 unfold VH;refine A6 (λ(s:List B2) i=>(s,i)) 0 g.Edges.length (by omega) (λi s=>s=(g.Edges.take i).map AcE) (by omega) rfl (λi s next _ hi D J=>?_) (λs next D=>?_)
 . subst D;refine A0 (λ_=>AN hi (AN hi (AK (by simp; omega) (J _ ?_)))) (λh=>by omega);rw[HM hi]; rfl
 . subst D;refine A0 (λh=>by omega) (λ_=>?_);rw[nM];exact AcD (by simpa using U) (λ_ O=>by obtain⟨_,_,rfl⟩:=List.mem_map.1 O; unfold DH AcE; simp) V
theorem ArG {g:Graph} {Q:Graph->Prop} (Z:g.Edges.length<=1000000) (V:∀ e∈g.Edges,DH e.W) (hQ:Q (mH g)):P7 g Q:=by
 unfold P7 NT LH;refine A6 (λ(s:List B2) i=>(s,i)) 0 g.Edges.length (by omega) (λi s=>s=(g.Edges.take i).map fV) (by omega) rfl (λi s next _ hi D J=>?_) (λs next D=>?_)
 . subst D;refine A0 (λ_=>AN hi (B7 rfl (AK (by simp; omega) (J _ ?_)))) (λh=>by omega);rw[HM hi]; rfl
 . subst D;refine A0 (λh=>by omega) (λ_=>?_);rw[nM];exact OO (by simpa using Z) (λe U=>by obtain⟨x,O,rfl⟩:=List.mem_map.1 U; exact V x O) hQ
theorem vG {g:Graph} (O:g.Edges.length<=500000) (J:∀ e∈g.Edges,DH e.W):(mH g).Edges.length<=g.Edges.length∧∀ e∈(mH g).Edges,DH e.W:=by refine⟨?_,oY _⟩;have:=QD (es:=g.Edges.map fV) (λe D=>by obtain⟨x,h,rfl⟩:=List.mem_map.1 D; exact J x h);grind[mH]
theorem AnJ {xs ys:List B2} {Q:List B2->Prop} (W:xs.length+ys.length<=1000000) (V:Q (xs++ys)):DO [xs,ys] Q:=by
 unfold DO FR;refine A6 (λ(s:Int) i=>(s,i)) 0 2 (by omega) (λi s=>s=(((([xs,ys]:List (List B2)).take i).map List.length).sum:Nat)) (by omega) (by simp) (λi s next _ hi U D=>?_) (λs next U=>?_)
 . subst U;refine A0 (λ_=>?_) (λh=>by simp at h; omega)
   match i,hi,D with
   | 0,_,D=>
    refine A9 (x:=xs) (by omega) rfl ?_;have e:A5 (((([xs,ys]:List (List B2)).take 0).map List.length).sum+(xs.length:Int))=xs.length:=by simp; exact A7 (by omega) (by omega)
    rw[e];exact A0 (λh=>by omega) (λ_=>D _ (by simp))
   | 1,_,D=>
    refine A9 (x:=ys) (by omega) rfl ?_;have e:A5 (((([xs,ys]:List (List B2)).take 1).map List.length).sum+(ys.length:Int))=xs.length+ys.length:=by simp; exact A7 (by omega) (by omega)
    rw[e];exact A0 (λh=>by omega) (λ_=>D _ (by simp))
 . subst U;refine A0 (λh=>by simp at h) (λ_=>?_);have e:((((([xs,ys]:List (List B2)).take 2).map List.length).sum:Nat):Int)=xs.length+ys.length:=by simp
   rw[e,A7 (x:=0 - 0) (by omega) (by omega),A7 (x:=(xs.length:Int)+ys.length - (0 - 0)) (by omega) (by omega)]
   have hk:AY (λ(s:(List B2)×Int) (J:((List B2)×Int)->Prop)=>match s with | (s268,s272)=>A4 (decide (s272<((([xs,ys]:List (List B2)).length:Nat):Int))) (AU [xs,ys] s272 λO=>DA 24 s268 O λ_=>J ((s268++O),A5 (s272+1))) (Q s268)) ([],0):=by
    refine A6 (λ(s:List B2) i=>(s,i)) 0 2 (by omega) (λi s=>s=(([xs,ys]:List (List B2)).take i).flatten) (by omega) (by simp) (λi s next _ hi U D=>?_) (λs next U=>?_)
    . subst U;refine A0 (λ_=>?_) (λh=>by simp at h; omega)
      match i,hi,D with
      | 0,_,D=>exact A9 (x:=xs) (by omega) rfl (AK (by simp; omega) (D _ (by simp)))
      | 1,_,D=>exact A9 (x:=ys) (by omega) rfl (AK (by simp; omega) (D _ (by simp)))
    . subst U;refine A0 (λh=>by simp at h) (λ_=>?_);grind
   exact A0 (λh=>by omega) (λ_=>A0 (λh=>⟨by omega,by omega,hk⟩) (λh=>hk))
theorem AcG {g:Graph} {Q:Graph->Prop} (J:g.Edges.length<=100000) (h:∀ e∈g.Edges,DH e.W) (D:Q (NB g)):P8 g Q:=by unfold P8;have O:=vG (by omega) h;refine ArG (by omega) h (AnJ (by omega) (OO (by simp; omega) (λe _=>?_) D));grind
def AiI (p:Plan) (g:Graph):Rows×Int:=
 if C0 p≠0 then (zR,C0 p) else if g.N≠p.N then (zR,4) else if GO g≠0 then (zR,GO g)
 else uB (if p.Kind=5 then F9 (NB (P4 g)) else if p.Kind=3 then F9 (NB g) else if p.Kind=1 then F9 g else g)
theorem vH {g:Graph} (U:g.Edges.length<=65536) (D:∀ e∈g.Edges,DH e.W):(NB g).Edges.length<=200000∧∀ e∈(NB g).Edges,DH e.W:=by
 have O:=vG (by omega) D;refine⟨?_,oY _⟩
 have:=QD (es:=g.Edges++(mH g).Edges) (λe J=>by
  rcases List.mem_append.1 J with h | h
  . exact D e h
  . exact O.2 e h)
 rw[kC] at this;show(FJ _).length<=_;omega
theorem AiJ {g:Graph} (U:g.Edges.length<=65536) (D:∀ e∈g.Edges,DH e.W):(P4 g).Edges.length<=65536∧∀ e∈(P4 g).Edges,DH e.W:=by refine⟨?_,oY _⟩;have J:=QD (es:=g.Edges.filter MJ) (λe h=>D e (List.mem_filter.1 h).1);have O:=wX MJ g.Edges;show(FJ _).length<=_;omega
theorem cD {p:Plan} {g:Graph} {Q:Rows×Int->Prop} (D:Q (AiI p g)):RB p g Q:=by
 unfold RB;unfold AiI at D;refine WL (BU (λh=>by rwa [if_pos h] at D) (λh=>?_));rw[if_neg (λJ=>J h)] at D;refine BU (λh=>by rwa [if_pos h] at D) (λh=>?_);rw[if_neg (λJ=>J h)] at D;refine U0 (BU (λh=>by rwa [if_pos h] at D) (λh=>?_));rw[if_neg (λJ=>J h)] at D;have⟨_,_,hl,_,hw⟩:=N8 h;have O:∀ e∈g.Edges,DH e.W:=λe he=>by have:=hw e he; unfold wOk at this; unfold DH; omega
 have hs:=AiJ hl O;have hb:=vH hl O;have a2:=vH hs.1 hs.2;refine AZ (λU=>?_) (λU=>?_)
 . rw[if_pos U] at D;exact AaH (by omega) O (AcG (by omega) hs.2 (vF (by omega) (lK D)))
 rw[if_neg U] at D;refine AZ (λZ=>?_) (λZ=>?_)
 . rw[if_pos Z] at D;exact AcG (by omega) O (vF (by omega) (lK D))
 rw[if_neg Z] at D;refine AZ (λV=>?_) (λV=>?_)
 . rw[if_pos V] at D;exact vF (by omega) (lK D)
 rw[if_neg V] at D;exact lK D
theorem Az4 (i:Int):shr .u64 i 1=i / 2:=by unfold shr;rw[AsX _ (by decide)]; rfl
theorem AvQ (i:Int):shr .i64 i 1=i / 2:=by unfold shr;rw[AsX _ (by decide)]; rfl
theorem AwO {a b:Int} (h:0<=a) (D:0<=b) (J:a<=1000000) (O:b<=1000000):A5 (shr .u64 (IntKind.wrap .u64 (A5 (a+b))) 1)=(a+b) / 2:=by rw[A7 (x:=a+b) (by omega) (by omega),V8 (by omega) (by omega),Az4,A7 (by omega) (by omega)]
theorem AfJ (x y:Int):PY x y<0↔x<y:=by unfold PY; omega
theorem AaI (x y:Int):PY x y=0↔x=y:=by unfold PY; omega
theorem AcH {v:Vec} {i:Int} {Q:Int×Bool->Prop} (hl:v.Items.length<=1000000000) (O:Q (MU (G3 (FV v).Items i))):XA v i Q:=by
 unfold XA;refine M6 hl ?_;have U:=RO v;generalize FV v=w at U O;have hi:=U.inc;have a4:=U.len;unfold MS BQ JU;refine CN (λs:Int×Int=>0<=s.1∧s.1<=s.2∧s.2<=w.Items.length∧(∀ (k:Nat) (hk:k<w.Items.length),(k:Int)<s.1->(w.Items[k]).At<i)∧(∀ (k:Nat) (hk:k<w.Items.length),s.2<=(k:Int)->¬(w.Items[k]).At<i)) (λs=>(s.2 - s.1).toNat) ⟨by simp,by simp,by simp,λk hk h=>by simp at h; omega,λk hk h=>by simp at h; omega⟩ ?_;rintro⟨a,b⟩ next ⟨W,h1,h2,h3,h4⟩ hn;simp only at W h1 h2 h3 h4;refine A0 (λa3=>?_) (λa3=>?_)
 . rw[AwO W (by omega) (by omega) (by omega)];obtain⟨m,V⟩:∃ m:Nat,(a+b) / 2=(m:Int):=⟨((a+b) / 2).toNat,by omega⟩;rw[V];have D:m<w.Items.length:=by omega
   refine AN D (G8 (A0 (λhc=>?_) (λhc=>?_)))
   . rw[AfJ] at hc;rw[A7 (by omega) (by omega)];refine hn _ ⟨by simp only; omega,by simp only; omega,h2,λk hk J=>?_,h4⟩ (by simp only; omega);simp only at J;by_cases e:k=m
     . grind
     . have:=hi.at D (by omega:k<m); omega
   . rw[AfJ] at hc;refine hn _ ⟨W,by simp only; omega,by simp only; omega,h3,λk hk J=>?_⟩ (by simp only; omega);simp only at J;by_cases e:k=m
     . grind
     . have:=hi.at hk (by omega:m<k); omega
 . have a2:a=b:=by omega
   subst a2;obtain⟨m,rfl⟩:∃ m:Nat,a=(m:Int):=⟨a.toNat,by omega⟩;refine A0 (λV=>?_) (λV=>?_)
   . have D:m<w.Items.length:=by omega
     refine AN D (G8 ?_);by_cases e:(w.Items[m]).At=i
     . have hb:(PY (w.Items[m]).At i==0)=true:=by grind[AaI]
       dsimp only;rw[hb];refine AH rfl (AN D ?_);have:=VT hi (RY D);rw[e] at this;rw[this] at O;exact O
     . have hb:(PY (w.Items[m]).At i==0)=false:=by grind[AaI]
       dsimp only;rw[hb];refine B7 rfl ?_;rw[RP λs Z=>?_] at O
       . exact O
       . obtain⟨k,hk,rfl⟩:=WA Z;by_cases J:k<m
         . grind
         . by_cases hkm':k=m
           . grind
           . have h5:=hi.at hk (by omega:m<k); grind
   . refine B7 rfl ?_;rw[RP λs Z=>?_] at O
     . exact O
     . obtain⟨k,hk,rfl⟩:=WA Z;grind
def zSt:State:=⟨0,0,[],[],[]⟩
def GR (s:State):Nat:=(s.High - s.Low).toNat
def StP (p:Plan) (s:State):Prop:=C0 p=0∧0<=s.Low∧s.Low<=s.High∧s.High<=p.N∧s.A.length=GR s∧s.B.length=GR s∧bP s.On (s.High - s.Low)
instance (p:Plan) (s:State):Decidable (StP p s):=by unfold StP; infer_instance
def EN (p:Plan) (s:State):State:=if StP p s then s else zSt
def iP (s:State):Prop:=VQ s.On∧s.On.length<=1000000
theorem SW {p:Plan} {s:State} {Q:State->Prop} (U:iP s) (J:Q (EN p s)):PH p s Q:=by
 unfold PH tM;have hb (h:¬StP p s):A4 false (Q s) (Q zSt):=AH rfl (by unfold EN at J; rwa [if_neg h] at J);refine WL (BU (λh=>hb λD=>h D.1) (λh=>?_));have hr:=BO h;refine A0 (λZ=>hb λD=>by have:=D.2.1; omega) (λZ=>A0 (λh2=>hb λD=>by have:=D.2.2.1; omega) (λh2=>A0 (λh3=>hb λD=>by have:=D.2.2.2.1; omega) (λh3=>?_)));rw[A7 (x:=s.High - s.Low) (by omega) (by omega)];refine AZ (λW=>AZ (λV=>?_) (λV=>hb λD=>by have:=D.2.2.2.2.2.1; unfold GR at this; omega)) (λW=>hb λD=>by have:=D.2.2.2.2.1; unfold GR at this; omega);refine bS U.1 U.2 (A0 (λO=>?_) (λO=>?_))
 . unfold EN at J
   rwa [if_pos ⟨h,by omega,by omega,by omega,by unfold GR; omega,by unfold GR; omega,O⟩] at J
 . have:¬StP p s:=λD=>O D.2.2.2.2.2.2;unfold EN at J
   rwa [if_neg this] at J
def QE (n:Nat) (f:Nat->β):List β:=(List.range n).map f
def GU (n:Nat) (f:Nat->Bool):List Int:=((List.range n).filter f).map λi:Nat=>(i:Int)
theorem eO (n:Nat) (f:Nat->β):QE (n+1) f=QE n f++[f n]:=by simp[QE,ZX]
theorem L9 (n:Nat) (f:Nat->β):(QE n f).length=n:=by simp[QE]
theorem QF (n:Nat) (f:Nat->Bool):GU (n+1) f=if f n then GU n f++[(n:Int)] else GU n f:=by unfold GU;rw[ZX,gT,dA];grind
theorem M7 (n:Nat) (f:Nat->Bool):(GU n f).length<=n:=by grind[GU]
theorem OP {n:Nat} {f:Nat->Bool} {x:Int} (h:x∈GU n f):0<=x∧x<n:=by obtain⟨_,_,rfl⟩:=List.mem_map.1 h;grind
theorem Z2 {n:Nat} {f:Nat->Int} {i:Nat} (h:i<n):BD (QE n f) i=f i:=by unfold BD QE;grind
theorem vI {n:Nat} {f g:Nat->β} (h:∀ i,i<n->f i=g i):QE n f=QE n g:=wY λi hi=>h i (List.mem_range.1 hi)
theorem AiK {n:Nat} {f g:Nat->Bool} (h:∀ i,i<n->f i=g i):GU n f=GU n g:=by unfold GU; rw[List.filter_congr λi hi=>h i (List.mem_range.1 hi)]
def chS (low high:Int) (n:Nat) (g:Nat->Int×Int×Bool):State:=⟨low,high,QE n λi=>(g i).1,QE n λi=>(g i).2.1,Y5 n (GU n λi=>(g i).2.2)⟩
theorem mI {n:Nat} (hn:n<=4096) {F:Int->((Int×Int×Bool)->Prop)->Prop} {g:Nat->Int×Int×Bool} (hF:∀ (i:Nat) K,i<n->K (g i)->F i K) {low high:Int} {Q:State->Prop} (hQ:Q (chS low high n g)) :
   AY (λ(s:(List Int)×(List Int)×(List Int)×Int) (J:((List Int)×(List Int)×(List Int)×Int)->Prop)=>match s with | (s145,s149,s153,s157)=>A4 (decide (s157<(n:Int))) (F s157 λD=>DA 8 s145 ([D.1]) λ_=>DA 8 s149 ([D.2.1]) λ_=>A4 D.2.2 (DA 8 s153 ([s157]) λ_=>J ((s145++([D.1])),(s149++([D.2.1])),(s153++([s157])),A5 (s157+1))) (J ((s145++([D.1])),(s149++([D.2.1])),s153,A5 (s157+1)))) (JT (n:Int) s153 λU=>Q ({ Low:=low,High:=high,A:=s145,B:=s149,On:=U }:State))) (([]:List Int),([]:List Int),([]:List Int),0):=by
 refine A6 (λ(s:List Int×List Int×List Int) i=>(s.1,s.2.1,s.2.2,i)) 0 n (by omega) (λi s=>s=(QE i λi=>(g i).1,QE i λi=>(g i).2.1,GU i λi=>(g i).2.2)) (by omega) rfl (λi s next _ hi V O=>?_) (λs next V=>?_) (s0:=([],[],[]))
 . subst V;have W:=M7 i λi=>(g i).2.2;refine A0 (λ_=>hF i _ hi (AK (by simp[QE]; omega) (AK (by simp[QE]; omega) ?_))) (λh=>by omega);have hs:=QF i λi=>(g i).2.2
   cases hb:(g i).2.2 with
   | true=>
    refine B7 rfl (AK (by simp; omega) (O (_,_,_) ?_));grind[eO]
   | false=>
    refine AH rfl (O (_,_,_) ?_);grind[eO]
 . subst V;refine A0 (λh=>by omega) (λ_=>?_);have W:=M7 n λi=>(g i).2.2;exact N9 (by simp only; omega) (λ_ Z=>by have:=OP Z; unfold DH; omega) hQ
def AwP:Int:=4611686018427387904
def Z3 (p:Plan) (v:Int):Int×Bool:=
 if p.Kind=3 then (v,true) else if p.Kind=5 then (0,false) else if p.Kind=4∧v=p.Source then (1,true) else if v=p.Source then (0,true) else if p.Kind=4 then (0,false) else if p.Kind=1 then (-1,false) else (AwP,false)
theorem xO {p:Plan} {v:Int} {Q:Int×Bool->Prop} (D:Q (Z3 p v)):TU p v Q:=by
 unfold TU DE;unfold Z3 at D;refine AZ (λh=>by rwa [if_pos h] at D) (λW=>AZ (λh=>by rwa [if_neg W,if_pos h] at D) (λZ=>?_));rw[if_neg W,if_neg Z] at D
 have hk (h:¬(p.Kind=4∧v=p.Source)):A4 false (Q (1,true)) (A4 (v==p.Source) (A4 true (Q (0,true)) (A4 (p.Kind==1) (Q (-1,false)) (Q (4611686018427387904,false)))) (A4 (p.Kind==4) (Q (0,false)) (A4 (p.Kind==1) (Q (-1,false)) (Q (4611686018427387904,false))))):=by rw[if_neg h] at D;refine AH rfl (AZ (λJ=>B7 rfl (by rwa [if_pos J] at D)) (λJ=>?_));rw[if_neg J] at D;refine AZ (λU=>by rwa [if_pos U] at D) (λU=>?_);rw[if_neg U] at D;exact AZ (λO=>by rwa [if_pos O] at D) (λO=>by rwa [if_neg O] at D)
 refine AZ (λV=>?_) (λV=>hk λh=>V h.1);by_cases hs:v=p.Source
 . rw[if_pos ⟨V,hs⟩] at D;exact B7 (by simpa using hs) D
 grind
def OQ (p:Plan) (low high:Int):State:=
 if C0 p=0∧0<=low∧low<=high∧high<=p.N then chS low high (high - low).toNat λi=>((Z3 p (low+i)).1,-1,(Z3 p (low+i)).2) else zSt
theorem xP {p:Plan} {low high:Int} {Q:State->Prop} (D:Q (OQ p low high)):YM p low high Q:=by
 unfold YM;unfold OQ at D;have hb (h:¬(C0 p=0∧0<=low∧low<=high∧high<=p.N)):Q zSt:=by grind
 refine WL (BU (λh=>hb λV=>h V.1) (λh=>A0 (λO=>hb (by omega)) (λO=>A0 (λU=>hb (by omega)) (λU=>A0 (λW=>hb (by omega)) (λW=>?_)))));rw[if_pos ⟨h,by omega,by omega,by omega⟩] at D;have hr:=BO h;have e:A5 (high - low)=((high - low).toNat:Int):=by rw[A7 (by omega) (by omega)]; omega
 unfold PT PS;rw[e];refine mI (F:=λa0 K=>TU p (A5 (low+a0)) λJ=>K (J.1,(-1),J.2)) (by omega) (λi K _ Z=>?_) D;rw[A7 (x:=low+(i:Int)) (by omega) (by omega)];exact xO Z
end
theorem ArH:iP zSt:=⟨(by intro x d; cases d),by decide⟩
theorem vJ (p:Plan) (s:State):(StP p s∧EN p s=s)∨EN p s=zSt:=by
 by_cases h:StP p s
 . exact .inl ⟨h,if_pos h⟩
 . exact .inr (if_neg h)
structure StR (p:Plan) (s:State):Prop where
 pl:GR s≠0→C0 p=0
 lo:0≤s.Low
 le:s.Low≤s.High
 hi:s.High≤4096
 hn:GR s≠0→s.High≤p.N
 al:s.A.length=GR s
 bl:s.B.length=GR s
 ok:VQ s.On
 ol:s.On.length≤1000000
theorem mJ {p:Plan} {s:State} (D:iP s):StR p (EN p s):=by
 rcases vJ p s with⟨h,e⟩ | e
 . rw[e];have⟨d,U,W,V,J,O,_⟩:=h;have:=(BO d).2.1;exact⟨λ_=>d,U,W,by omega,λ_=>V,J,O,D.1,D.2⟩
 . rw[e]; exact⟨λh=>absurd rfl h,by decide,by decide,by decide,λh=>absurd rfl h,rfl,rfl,ArH.1,ArH.2⟩
theorem StR.siz {p:Plan} {s:State} (h:StR p s):(GR s:Int)=s.High - s.Low∧GR s<=4096:=by have:=h.lo; have:=h.le; have:=h.hi; unfold GR; omega
theorem StR.w {p:Plan} {s:State} (h:StR p s):A5 (s.High - s.Low)=(GR s:Int):=by have:=h.siz; rw[A7 (by omega) (by omega)]; omega
def P2 (p:Plan) (round v:Int):Int:=AnH p ((round - 1) / 2) v
def iQ (p:Plan) (s:State) (round:Int) (i:Nat):Int×Bool:=
 if p.Kind=1 then (s.Low+i,CY s.On i) else if p.Kind=5 then (if round % 2=0 then (1,CY s.On i) else (P2 p round (s.Low+i),BD s.A i==0)) else (BD s.A i,CY s.On i)
theorem xQ {p:Plan} {s:State} {round:Int} {i:Nat} {Q:Int×Bool->Prop} (h:StR p s) (hi:i<GR s) (W:0<=round∧round<=1000000) (d:Q (iQ p s round i)):TR p s round i Q:=by
 unfold TR;unfold iQ at d;have Z:=h.siz;have V:=h.lo;have U:=h.al;have e:A5 (s.Low+(i:Int))=s.Low+i:=A7 (by omega) (by have:=h.hi; omega);refine LN h.ok (by unfold DH; omega) ?_;rw[e,AcC];refine AZ (λJ=>by rwa [if_pos J] at d) (λJ=>?_);rw[if_neg J] at d;refine AZ (λD=>?_) (λD=>?_)
 . rw[if_pos D] at d;refine AZ (λO=>by rwa [if_pos O] at d) (λO=>?_);rw[if_neg O] at d;refine BC (by omega) (by omega) ?_;have hp:=BO (h.pl (by omega));unfold N6;rw[A7 (x:=round - 1) (by omega) (by omega),AvQ];exact cC hp.2.1 hp.2.2.2.2.2 d
 . rw[if_neg D] at d;exact BC (by omega) (by omega) d
def K6 (n:Nat) (f:Nat->Int×Bool):List B9:=(List.range n).filterMap λi=>if (f i).2 then some ⟨i,(f i).1⟩ else none
theorem QG (n:Nat) (f:Nat->Int×Bool):K6 (n+1) f=if (f n).2 then K6 n f++[⟨n,(f n).1⟩] else K6 n f:=by unfold K6;rw[ZX,At2];grind
theorem mK (n:Nat) (f:Nat->Int×Bool):(K6 n f).length<=n:=by grind[K6]
def ZU (p:Plan) (s:State) (round:Int):Vec:=⟨(EN p s).High - (EN p s).Low,K6 (GR (EN p s)) (iQ p (EN p s) round)⟩
theorem ArI {n:Nat} (hn:n<=4096) {F:Int->((Int×Bool)->Prop)->Prop} {g:Nat->Int×Bool} (V:∀ (i:Nat) K,i<n->K (g i)->F i K) {Q:Vec->Prop} (Z:Q ⟨n,K6 n g⟩) :
   AY (λ(s:(List B9)×Int) (d:((List B9)×Int)->Prop)=>match s with | (s116,s120)=>A4 (decide (s120<(n:Int))) (F s120 λD=>A4 D.2 (DA 16 s116 ([({ At:=s120,Val:=D.1 }:B9)]) λ_=>d ((s116++([({ At:=s120,Val:=D.1 }:B9)])),A5 (s120+1))) (d (s116,A5 (s120+1)))) (Q ({ N:=(n:Int),Items:=s116 }:Vec))) (([]:List B9),0):=by
 refine A6 (λ(s:List B9) i=>(s,i)) 0 n (by omega) (λi s=>s=K6 i g) (by omega) rfl (λi s next _ hi O J=>?_) (λs next O=>?_)
 . subst O;have W:=mK i g;have U:=QG i g;refine A0 (λ_=>V i _ hi ?_) (λa2=>by omega)
   cases h:(g i).2 with
   | true=>exact B7 rfl (AK (by simp; omega) (J _ (by rw[U,h]; rfl)))
   | false=>exact AH rfl (J _ (by rw[U,h]; rfl))
 . subst O;exact A0 (λa2=>by omega) (λ_=>Z)
theorem AfK {p:Plan} {s:State} {round:Int} {Q:Vec->Prop} (D:iP s) (O:0<=round∧round<=1000000) (d:Q (ZU p s round)):kU p s round Q:=by unfold kU;refine SW D ?_;have h:=mJ (p:=p) D;unfold ZU at d;rw[<-h.siz.1] at d;rw[h.w];exact ArI (F:=λi K=>TR p (EN p s) round i K) h.siz.2 (λi K hi J=>xQ h hi O J) d
def AiL (p:Plan) (s:State) (round:Int) (i:Nat) (o:Option Int):Int×Int×Bool:=
 let a:=BD s.A i; let b:=BD s.B i; let v:=(MU o).1; let d:=(MU o).2
 if p.Kind=1 then (if d=true∧a = -1 then (round,v,true) else (a,b,false))
 else if p.Kind=2∨p.Kind=3 then (if d=true∧v<a then (v,b,true) else (a,b,false))
 else if p.Kind=4 then (v,b,v != 0)
 else if a≠0 then (a,b,false)
 else if round % 2=0 then (if d=true then (2,b,false) else (a,b,false))
 else if d=false∨P2 p round (s.Low+i)<v then (1,b,true) else (a,b,false)
theorem vK {p:Plan} {s:State} {round:Int} {i:Nat} {o:Option Int} {Q:Int×Int×Bool->Prop} (h:StR p s) (hi:i<GR s) (hr:0<=round∧round<=1000000) (d:Q (AiL p s round i o)) :
   RM p s round i (MU o).1 (MU o).2 Q:=by
 unfold RM DE;unfold AiL at d;have hs:=h.siz;have hl:=h.lo;have a2:=h.al;have a3:=h.bl;have e:A5 (s.Low+(i:Int))=s.Low+i:=A7 (by omega) (by have:=h.hi; omega);have hp:=BO (h.pl (by omega));refine BC (by omega) (by omega) (BC (by omega) (by omega) ?_)
 have hd:∀ K:Int->Prop,K (P2 p round (s.Low+i))->N6 round λO=>IX p O (A5 (s.Low+(i:Int))) K:=λK hK=>by unfold N6;rw[e,A7 (x:=round - 1) (by omega) (by omega),AvQ];exact cC hp.2.1 hp.2.2.2.2.2 hK
 rw[AcC];generalize BD s.A i=a at d ⊢;generalize BD s.B i=b at d ⊢;generalize (MU o).1=v at d ⊢;generalize (MU o).2=D at d ⊢;simp only at d;refine AZ (λZ=>?_) (λZ=>?_)
 . rw[if_pos Z] at d
   cases D with
   | true=>exact B7 rfl (AZ (λJ=>by rwa [if_pos ⟨rfl,J⟩] at d) (λJ=>by rwa [if_neg λh=>J h.2] at d))
   | false=>exact AH rfl (by rwa [if_neg λh=>by cases h.1] at d)
 rw[if_neg Z] at d
 have h23 (hk:p.Kind=2∨p.Kind=3):A4 D (A4 (decide (v<a)) (Q (v,b,true)) (Q (a,b,false))) (Q (a,b,false)):=by
   rw[if_pos hk] at d
   cases D with
   | true=>exact B7 rfl (A0 (λJ=>by rwa [if_pos ⟨rfl,J⟩] at d) (λJ=>by rwa [if_neg λh=>J h.2] at d))
   | false=>exact AH rfl (by rwa [if_neg λh=>by cases h.1] at d)
 have hrest (V:¬(p.Kind=2∨p.Kind=3)):A4 (p.Kind==4) (Q (v,b,v != 0)) (A4 (p.Kind==5) (A4 (a != 0) (Q (a,b,false)) (A4 (round % 2==0) (A4 D (Q (2,b,false)) (A4 (round % 2==1) (A4 (!D) (Q (1,b,true)) (N6 round λO=>IX p O (A5 (s.Low+(i:Int))) λU=>A4 (decide (U<v)) (Q (1,b,true)) (Q (a,b,false)))) (Q (a,b,false)))) (A4 false (Q (2,b,false)) (A4 (round % 2==1) (A4 (!D) (Q (1,b,true)) (N6 round λO=>IX p O (A5 (s.Low+(i:Int))) λU=>A4 (decide (U<v)) (Q (1,b,true)) (Q (a,b,false)))) (Q (a,b,false)))))) (Q (a,b,false))):=by
   rw[if_neg V] at d;refine AZ (λh4=>by rwa [if_pos h4] at d) (λh4=>?_);rw[if_neg h4] at d;refine AZ (λh5=>?_) (λh5=>absurd hp.1 (by omega));refine BU (λJ=>by rwa [if_pos J] at d) (λJ=>?_);rw[if_neg (λh'=>h' J)] at d;refine AZ (λh6=>?_) (λh6=>?_)
   . rw[if_pos h6] at d
     cases D with
     | true=>exact B7 rfl (by rwa [if_pos rfl] at d)
     | false=>exact AH rfl (AZ (λW=>by omega) (λW=>by rwa [if_neg (by simp)] at d))
   . rw[if_neg h6] at d;refine AH rfl (AZ (λW=>?_) (λW=>by omega))
     cases D with
     | false=>exact B7 rfl (by rwa [if_pos (.inl rfl)] at d)
     | true=>exact AH rfl (hd _ (A0 (λh8=>by rwa [if_pos (.inr h8)] at d) (λh8=>by rwa [if_neg (by simp[h8])] at d)))
 refine AZ (λV=>?_) (λV=>?_)
 . have hb:(p.Kind==2)=true:=by grind
   rw[hb]; exact B7 rfl (h23 (.inl V))
 . refine AZ (λh3=>?_) (λh3=>?_)
   all_goals grind
def AwQ (p:Plan) (s:State) (round:Int) (y:Vec) (i:Nat):Int×Int×Bool:=AiL p s round i (G3 y.Items i)
def iR (p:Plan) (s:State) (round:Int) (y:Vec):State:=
 if VecP y∧y.N=(EN p s).High - (EN p s).Low then chS (EN p s).Low (EN p s).High (GR (EN p s)) (AwQ p (EN p s) round y) else EN p s
theorem NC {xs:List Int} {Q:List Int->Prop} (D:xs.length<=1000000) (d:Q xs):B8 xs Q:=by unfold B8;exact MM (λh=>by rwa [h] at d) (AK (by simp; omega) d)
theorem iS {xs:List Int} {Q:List Int->Prop} (D:xs.length<=1000000) (d:Q xs):BW xs Q:=by unfold BW;exact MM (λh=>by rwa [h] at d) (AK (by simp; omega) d)
theorem vL {p:Plan} {s:State} {round:Int} {y:Vec} {Q:State->Prop} (W:iP s) (hr:0<=round∧round<=1000000) (hy:y.Items.length<=1000000) (D:Q (iR p s round y)):VN p s round y Q:=by
 unfold VN;refine SW W ?_;have h:=mJ (p:=p) W;unfold iR at D;generalize EN p s=u at h D ⊢;have hs:=h.siz;have a5:=h.al;have a6:=h.bl;rw[h.w]
 have hcl (Z:¬(VecP y∧y.N=u.High - u.Low)):B8 u.A λJ=>B8 u.B λa2=>BW u.On λa3=>Q ({ Low:=u.Low,High:=u.High,A:=J,B:=a2,On:=a3 }:State):=by rw[if_neg Z] at D;exact NC (by omega) (NC (by omega) (iS h.ol D))
 have hch (Z:VecP y∧y.N=u.High - u.Low):LK y p u round u (GR u:Int) λa4=>Q a4:=by rw[if_pos Z] at D;unfold LK O6;refine mI (F:=λa0 K=>XA y a0 λV=>RM p u round a0 V.1 V.2 λd=>K (d.1,d.2.1,d.2.2)) hs.2 (λ_ K hi hK=>?_) D;refine AcH (by omega) ?_;rw[IG Z.1];exact vK h hi hr hK
 unfold DE;refine F3 (by omega) ?_;by_cases hv:VecP y
 . rw[decide_eq_true hv];refine AH rfl (BU (λU=>hcl λO=>U (by rw[O.2]; omega)) (λU=>hch ⟨hv,by omega⟩))
 . rw[decide_eq_false hv];exact B7 rfl (B7 rfl (hcl λO=>hv O.1))
def ArJ (s:State):Prop:=s.A.length<=1000000∧s.B.length<=1000000∧s.On.length<=1000000
def E6 (n:Nat) (f:Nat->Bool):Nat:=(List.range n).countP f
theorem HD (n:Nat) (f:Nat->Bool):E6 (n+1) f=E6 n f+if f n then 1 else 0:=by unfold E6; rw[ZX,List.countP_append]; simp[List.countP_cons]
theorem Z4 (n:Nat) (f:Nat->Bool):E6 n f<=n:=by unfold E6; exact gV List.countP_le_length (by simp)
theorem QH {n:Nat} {f g:Nat->Bool} (h:∀ i,i<n->f i=g i):E6 n f=E6 n g:=by
 induction n with
 | zero=>rfl
 | succ n d=>rw[HD,HD,d λi _=>h i (by omega),h n (by omega)]
theorem vM (a b:Nat) (f:Nat->Bool):E6 (a+b) f=E6 a f+E6 b λj=>f (a+j):=by
 induction b with
 | zero=>rfl
 | succ b d=>rw[<-yT,HD,d,HD]; omega
theorem oZ {n:Nat} {f:Nat->Bool} (h:∀ i,i<n->f i=false):E6 n f=0:=by
 induction n with
 | zero=>rfl
 | succ n d=>rw[HD,d λi _=>h i (by omega),h n (by omega)]; rfl
def pcf:Nat->Nat->Nat
 | 0,_=>0
 | k+1,n=>n % 2+pcf k (n / 2)
theorem AuA {k:Nat}:∀ {n:Nat},0<n->n<2 ^ k->pcf k (n &&& (n - 1))+1=pcf k n:=by
 induction k with
 | zero=>intro n U d; simp at d; omega
 | succ k V=>
  intro n U d;have D:(n &&& (n - 1)) / 2=n / 2 &&& (n - 1) / 2:=Nat.and_div_two;have O:(n &&& (n - 1)) % 2=(n % 2) &&& ((n - 1) % 2):=by have:=Nat.and_mod_two_pow (a:=n) (b:=n - 1) (n:=1); simpa using this
  rw[Nat.pow_succ] at d;simp only[pcf,D,O];rcases Av9 n with e | e
  . have h:(n - 1) / 2=n / 2 - 1:=by omega
    rw[h,e];have:=V (n:=n / 2) (by omega) (by omega);simp only[Nat.zero_and];omega
  . have h:(n - 1) / 2=n / 2:=by omega
    have J:(n - 1) % 2=0:=by omega
    rw[h,e,J,Nat.and_self];simp only[Nat.and_zero];omega
theorem ArK (k:Nat):pcf k 0=0:=by induction k with
 | zero=>rfl
 | succ k d=>simp[pcf,d]
theorem AcI (k:Nat):∀ n:Nat,pcf k n=E6 k λj=>n.testBit j:=by
 induction k with
 | zero=>intro n; rfl
 | succ k d=>
  intro n;rw[yV k 1,vM,yV 1 k,pcf,d];congr 1
  . rw[show E6 1 (λj=>n.testBit j)=E6 (0+1) (λj=>n.testBit j) from rfl,HD];simp only[E6,List.range_zero,List.countP_nil,nU,Nat.testBit_zero,decide_eq_true_eq];split <;> omega
  . exact QH λj _=>by rw[yV 1 j,Nat.testBit_succ]
theorem AwR {x y:Nat} (d:x<18446744073709551616) (D:y<18446744073709551616):Y4 .u64 (x:Int) (y:Int)=((x &&& y:Nat):Int):=by
 have h:(BitVec.ofInt 64 (x:Int) &&& BitVec.ofInt 64 (y:Int)).toNat=x &&& y:=by
  rw[BitVec.toNat_and,BitVec.toNat_ofInt,BitVec.toNat_ofInt];have hp:((2 ^ 64:Nat):Int)=18446744073709551616:=by decide
  rw[hp,show((x:Int) % 18446744073709551616).toNat=x by omega,show((y:Int) % 18446744073709551616).toNat=y by omega]
 unfold Y4;rw[show IntKind.u64.bits=64 from rfl,h];have:=Nat.and_le_left (n:=x) (m:=y);exact V8 (by omega) (by omega)
theorem xR {w:Nat} {Q:Int->Prop} (W:w<18446744073709551616) (U:Q (pcf 64 w:Nat)):YB (w:Int) Q:=by
 unfold YB;refine CN (λs:Int×Int=>∃ m c:Nat,s=((m:Int),(c:Int))∧m<=w∧c+pcf 64 m=pcf 64 w) (λs=>s.1.toNat) ⟨w,0,rfl,Y3 _,by omega⟩ ?_;rintro _ next ⟨m,c,rfl,_,J⟩ hn;have V:pcf 64 w<=64:=by rw[AcI]; exact Z4 _ _
 refine AZ (λh=>?_) (λh=>?_)
 . have:m=0:=by omega
   subst this;rw[ArK] at J;rw[show c=pcf 64 w by omega]; exact U
 . have D:0<m:=by omega
   have e:IntKind.wrap .u64 ((m:Int) - 1)=((m - 1:Nat):Int):=by rw[V8 (by omega) (by omega)]; omega
   have d:=AuA (k:=64) D (by omega);rw[e,AwR (by omega) (by omega),A7 (by omega) (by omega)];have O:=Nat.and_le_right (n:=m) (m:=m - 1);exact hn _ ⟨m &&& (m - 1),c+1,by rw[show((c+1:Nat):Int)=(c:Int)+1 by omega],by omega,by omega⟩ (by simp only[SH]; omega)
theorem ArL {f:List Int} {k j:Nat} (D:j<64):CY f ((64*k+j:Nat):Int)=(BD f k).toNat.testBit j:=by
 unfold CY;have d:(((64*k+j:Nat):Int) / 64)=(k:Int):=by omega
 have h:(((64*k+j:Nat):Int) % 64).toNat=j:=by omega
 rw[d,h];simp;intro _; omega
def AfL (f:List Int):Nat:=E6 (64*f.length) λi=>CY f i
theorem OR {f:List Int} {Q:Int->Prop} (U:VQ f) (hl:f.length<=1000000) (W:Q (AfL f:Nat)):KS f Q:=by
 unfold KS;refine A6 (λ(s:Int) i=>(s,i)) 0 f.length (by omega) (λk s=>s=(E6 (64*k) λi=>CY f i:Nat)) (by omega) rfl (λk s next _ _ D d=>?_) (λs next D=>?_)
 . subst D;refine A0 (λ_=>BC (by omega) (by omega) ?_) (λh=>by omega);have Z:=OE U k;obtain⟨w,J⟩:∃ w:Nat,BD f k=(w:Int):=⟨(BD f k).toNat,by omega⟩;rw[J];refine xR (by omega) (d _ ?_);have hc:=Z4 (64*k) λi=>CY f i
   have hp:pcf 64 w=E6 64 λj=>CY f ((64*k+j:Nat):Int):=by rw[AcI];exact QH λj O=>by rw[ArL O,J]; rfl
   have V:pcf 64 w<=64:=by rw[AcI]; exact Z4 _ _
   rw[A7 (by omega) (by omega),Nat.mul_succ,vM,<-hp]; omega
 . subst D;exact A0 (λh=>by omega) (λ_=>W)
theorem AaJ {n m:Nat} {f:Nat->Bool} (h:n<=m) (d:∀ i,n<=i->i<m->f i=false):E6 m f=E6 n f:=by obtain⟨k,rfl⟩:∃ k,m=n+k:=⟨m - n,by omega⟩;rw[vM,oZ (λi _=>d (n+i) (by omega) (by omega)),eY]
def AyH (s:State):Prop:=(∀ i,CY s.On i=true->i<(GR s:Int))∧GR s<=64*s.On.length
theorem AnK {p:Plan} {s:State}:AyH (EN p s):=by
 rcases vJ p s with⟨h,e⟩ | e
 . rw[e];have⟨d,_,_,_,_,_,_,J,D⟩:=h;have O:=(BO d).2.1;refine⟨λi hi=>?_,?_⟩
   . have:=D i (T9.2 hi); unfold GR; omega
   . rw[J]; unfold GR F0; omega
 . rw[e]; exact⟨λi hi=>by have:=AkX hi; simp[zSt] at this; omega,by decide⟩
theorem ArM {s:State} (h:AyH s):AfL s.On=E6 (GR s) λi=>CY s.On i:=
 AaJ h.2 λi _ _=>by
  cases d:CY s.On i with
  | false=>rfl
  | true=>have:=h.1 i d; omega
def qY (p:Plan) (s:State) (i:Nat):Bool:=if p.Kind=5 then BD s.A i==0 else CY s.On i
def ArN (p:Plan) (s:State):Nat:=E6 (GR s) (qY p s)
def OS (p:Plan) (s:State) (round:Int):Int:=if p.Kind=4∧p.Length<=round then 0 else (ArN p (EN p s):Nat)
theorem AcJ {p:Plan} {s:State} {round:Int} {Q:Int->Prop} (ho:iP s) (d:Q (OS p s round)):dL p s round Q:=by
 unfold dL;refine SW ho ?_;have h:=mJ (p:=p) ho;have O:=AnK (p:=p) (s:=s);unfold OS at d;generalize EN p s=u at h O d ⊢;have hs:=h.siz;have a3:=h.al;have U:=h.ol
 have hc (D:p.Kind≠5):ArN p u=AfL u.On:=by rw[ArM O];exact QH λi hi=>if_neg D
 refine AZ (λZ=>A0 (λW=>by rwa [if_pos ⟨Z,W⟩] at d) (λW=>?_)) (λZ=>?_)
 . rw[if_neg (λh=>W h.2),hc (by omega)] at d;exact OR h.ok U d
 rw[if_neg (λh=>Z h.1)] at d;refine AZ (λD=>?_) (λD=>by rw[hc D] at d; exact OR h.ok U d);rw[a3];refine A6 (λ(s:Int) i=>(s,i)) 0 (GR u) (by omega) (λi s=>s=(E6 i (qY p u):Nat)) (by omega) rfl (λi s next _ hi V J=>?_) (λs next V=>?_)
 . subst V;have a4:=Z4 i (qY p u);have a2:=HD i (qY p u);refine A0 (λ_=>BC (by omega) (by omega) ?_) (λh=>by omega);refine AZ (λha=>J _ ?_) (λha=>J _ ?_)
   . rw[A7 (by omega) (by omega),a2,if_pos (by unfold qY; rw[if_pos D]; simpa using ha)]; omega
   all_goals grind[qY]
 . subst V;exact A0 (λh=>by omega) (λ_=>d)
def KK (p:Plan) (s:State):List Int×Bool:=
 if p.Kind=1 then (Y5 (GR s) (GU (GR s) λi=>BD s.A i == -1),false) else if p.Kind=5 then (Y5 (GR s) (GU (GR s) λi=>BD s.A i==0),false) else ([],true)
theorem xS {p:Plan} {s:State} {round:Int} {Q:List Int×Bool->Prop} (V:iP s) (J:Q (KK p (EN p s))):YH p s round Q:=by
 unfold YH;refine SW V ?_;have h:=mJ (p:=p) V;unfold KK at J;generalize EN p s=u at h J ⊢;have hs:=h.siz;have a4:=h.al
 have hk (d:Int) (hq:Q (Y5 (GR u) (GU (GR u) λi=>BD u.A i==d),false)):AY (λ(s:(List Int)×Int) (D:((List Int)×Int)->Prop)=>match s with | (s249,s253)=>A4 (decide (s253<(u.A.length:Int))) (AU u.A s253 λa2=>A4 (a2==d) (DA 8 s249 ([s253]) λ_=>D ((s249++([s253])),A5 (s253+1))) (D (s249,A5 (s253+1)))) (JT (A5 (u.High - u.Low)) s249 λa3=>Q (a3,false))) (([]:List Int),0):=by
  rw[h.w,a4];refine A6 (λ(s:List Int) i=>(s,i)) 0 (GR u) (by omega) (λi s=>s=GU i λi=>BD u.A i==d) (by omega) rfl (λi s next _ _ Z O=>?_) (λs next Z=>?_)
  . subst Z;have a5:=M7 i λi=>BD u.A i==d;have a6:=QF i λi=>BD u.A i==d;refine A0 (λ_=>BC (by omega) (by omega) ?_) (λh=>by omega);refine AZ (λha=>AK (by simp; omega) (O _ ?_)) (λha=>O _ ?_)
    all_goals grind
  . subst Z;have a5:=M7 (GR u) λi=>BD u.A i==d;exact A0 (λh=>by omega) (λ_=>N9 (by omega) (λ_ hx=>by have:=OP hx; unfold DH; omega) hq)
 unfold DE;refine AZ (λU=>hk _ (by rwa [if_pos U] at J)) (λU=>?_);rw[if_neg U] at J;exact AZ (λW=>hk _ (by rwa [if_pos W] at J)) (λW=>by rwa [if_neg W] at J)
theorem AiM (low high:Int) (n:Nat) (g:Nat->Int×Int×Bool):iP (chS low high n g):=by have h:=FF n (GU n λi=>(g i).2.2);exact⟨h.1,by show(Y5 _ _).length<=_; rw[h.2.1]; have:=OG (n:Int); omega⟩
theorem AcK {p:Plan} {low high:Int} {g:Nat->Int×Int×Bool} (hp:C0 p=0) (D:0<=low) (d:low<=high) (h:high<=p.N):StP p (chS low high (high - low).toNat g):=by have J:=(BO hp).2.1;refine⟨hp,D,d,h,by simp[chS,L9,GR],by simp[chS,L9,GR],?_⟩;have:=zW (n:=((high - low).toNat:Int)) ⟨by omega,by omega⟩ (GU (high - low).toNat λi=>(g i).2.2);rw[show(((high - low).toNat:Nat):Int)=high - low by omega] at this;unfold chS;grind
theorem ArO {p:Plan} {low high:Int} (hp:C0 p=0) (d:0<=low) (h:low<=high) (D:high<=p.N):StP p (OQ p low high)∧iP (OQ p low high):=by unfold OQ;grind[AcK,AiM]
theorem AwS {p:Plan} {s:State} {round:Int} {y:Vec} (h:StP p s) (d:iP s):StP p (iR p s round y)∧iP (iR p s round y)∧(iR p s round y).Low=s.Low∧(iR p s round y).High=s.High:=by
 have e:EN p s=s:=if_pos h;unfold iR;rw[e];split
 . exact⟨AcK h.1 h.2.1 h.2.2.1 h.2.2.2.1,AiM _ _ _ _,rfl,rfl⟩
 all_goals grind
theorem ArP {p:Plan} {s:State} (h:StP p s) (d:iP s):ArJ s:=by have D:=(BO h.1).2.1;have:=h.2.2.2.2.1; have:=h.2.2.2.2.2.1; have:=h.2.1; have:=h.2.2.1; have:=h.2.2.2.1;unfold GR at *;exact⟨by omega,by omega,d.2⟩
theorem ArQ (x:Int) {m:Nat} (d:m<9223372036854775808):0<=Y4 .i64 x m∧Y4 .i64 x m<=m:=by
 have h:(BitVec.ofInt 64 x &&& BitVec.ofInt 64 (m:Int)).toNat<=m:=by
  rw[BitVec.toNat_and,BitVec.toNat_ofInt (n:=64) (i:=(m:Int))];have hp:((2 ^ 64:Nat):Int)=18446744073709551616:=by decide
  rw[hp,show((m:Int) % 18446744073709551616).toNat=m by omega];exact Nat.and_le_right
 unfold Y4;rw[show IntKind.i64.bits=64 from rfl];generalize (BitVec.ofInt 64 x &&& BitVec.ofInt 64 (m:Int)).toNat=k at h;have e:IntKind.i64.wrap (k:Int)=k:=A7 (by omega) (by omega);rw[e]; omega
theorem eP {k n:Int} {Q:Int->Prop} (D:n<1->Q 0) (d:1<=n->∀ r,0<=r->r<n->Q r):HG k n Q:=by unfold HG;refine A0 (λh=>D h) (λh=>A0 (λJ=>d (by omega) 0 (by omega) (by omega)) (λJ=>⟨by omega,?_⟩));rw[AoO (by omega)];exact d (by omega) _ (AjP _ (by omega)) (AjK _ (by omega))
abbrev GV:=Nat->Int×Int×Bool
def CU (l n:Nat) (G:GV):State:=chS (l:Int) ((l+n:Nat):Int) n λi=>G (l+i)
theorem sJ {p:Plan} {l n:Nat} {G:GV} (hp:C0 p=0) (h:((l+n:Nat):Int)<=p.N):StP p (CU l n G)∧iP (CU l n G)∧ArJ (CU l n G):=by have d:=AcK (p:=p) (low:=(l:Int)) (high:=((l+n:Nat):Int)) (g:=λi=>G (l+i)) hp (by omega) (by omega) h;rw[show(((l+n:Nat):Int) - (l:Int)).toNat=n by omega] at d;have D:=AiM (l:Int) ((l+n:Nat):Int) n λi=>G (l+i);exact⟨d,D,ArP d D⟩
def gV0 (p:Plan):GV:=λv=>((Z3 p v).1,-1,(Z3 p v).2)
theorem AaK {p:Plan} {l n:Nat} {a b:Int} (hp:C0 p=0) (d:a=l) (D:b=((l+n:Nat):Int)) (h:b<=p.N):OQ p a b=CU l n (gV0 p):=by subst d D;unfold OQ CU;grind[gV0]
def xT (p:Plan) (round:Int) (v:Nat) (g:Int×Int×Bool) (o:Option Int):Int×Int×Bool:=
 if p.Kind=1 then (if (MU o).2=true∧g.1 = -1 then (round,(MU o).1,true) else (g.1,g.2.1,false))
 else if p.Kind=2∨p.Kind=3 then (if (MU o).2=true∧(MU o).1<g.1 then ((MU o).1,g.2.1,true) else (g.1,g.2.1,false))
 else if p.Kind=4 then ((MU o).1,g.2.1,(MU o).1 != 0)
 else if g.1≠0 then (g.1,g.2.1,false)
 else if round % 2=0 then (if (MU o).2=true then (2,g.2.1,false) else (g.1,g.2.1,false))
 else if (MU o).2=false∨P2 p round v<(MU o).1 then (1,g.2.1,true) else (g.1,g.2.1,false)
theorem AuB {p:Plan} {l n i:Nat} {G:GV} {round:Int} {o:Option Int} (hi:i<n):AiL p (CU l n G) round i o=xT p round (l+i) (G (l+i)) o:=by
 have d:BD (CU l n G).A i=(G (l+i)).1:=Z2 hi;have h:BD (CU l n G).B i=(G (l+i)).2.1:=Z2 hi;have D:(CU l n G).Low+(i:Int)=((l+i:Nat):Int):=by show(l:Int)+i=_; omega
 unfold AiL xT;grind
def LA (p:Plan) (round:Int) (G:GV) (Y:Nat->Option Int):GV:=λv=>xT p round v (G v) (Y v)
theorem AnL {low high:Int} {n:Nat} {g d:Nat->Int×Int×Bool} (h:∀ i,i<n->g i=d i):chS low high n g=chS low high n d:=by unfold chS;rw[vI λi hi=>congrArg (·.1) (h i hi),vI λi hi=>congrArg (·.2.1) (h i hi),AiK λi hi=>congrArg (·.2.2) (h i hi)]
theorem AlK {p:Plan} {l n:Nat} {G:GV} {round:Int} {y:Vec} {Y:Nat->Option Int} (hp:C0 p=0) (h:((l+n:Nat):Int)<=p.N) (D:VecP y) (d:y.N=n) (V:∀ i,i<n->G3 y.Items i=Y (l+i)) :
  iR p (CU l n G) round y=CU l n (LA p round G Y):=by
 have O:EN p (CU l n G)=CU l n G:=if_pos (sJ hp h).1;have e:(CU l n G).High - (CU l n G).Low=(n:Int):=by show((l+n:Nat):Int) - (l:Int)=n; omega
 have U:GR (CU l n G)=n:=by unfold GR; rw[e]; omega
 unfold iR;rw[O,if_pos ⟨D,by rw[d,e]⟩,U]
 have J:∀ i,i<n->AwQ p (CU l n G) round y i=LA p round G Y (l+i):=λi _=>by unfold AwQ LA;grind[AuB]
 show chS (l:Int) ((l+n:Nat):Int) n _=chS (l:Int) ((l+n:Nat):Int) n _;exact AnL J
theorem XQ {n i:Nat} {f:Nat->Bool}:(i:Int)∈GU n f↔i<n∧f i=true:=by unfold GU;grind
theorem pB {n i:Nat} {f:Nat->Bool} (hi:i<n) (D:n<=4096):CY (Y5 n (GU n f)) i=f i:=by
 rw[(FF _ _).2.2]
 cases d:f i with
 | true=>exact decide_eq_true ⟨XQ.2 ⟨hi,d⟩,by omega,by omega,by omega⟩
 | false=>exact decide_eq_false λh=>by have:=(XQ.1 h.1).2; rw[d] at this; cases this
def HP (p:Plan) (round:Int) (v:Nat) (g:Int×Int×Bool):Int×Bool:=
 if p.Kind=1 then ((v:Int),g.2.2) else if p.Kind=5 then (if round % 2=0 then (1,g.2.2) else (P2 p round v,g.1==0)) else (g.1,g.2.2)
theorem AiN {n:Nat} {f g:Nat->Int×Bool} (h:∀ i,i<n->f i=g i):K6 n f=K6 n g:=by
 induction n with
 | zero=>rfl
 | succ n d=>rw[QG,QG,d λi _=>h i (by omega),h n (by omega)]
theorem AcL {p:Plan} {l n:Nat} {G:GV} {round:Int} (hp:C0 p=0) (h:((l+n:Nat):Int)<=p.N):ZU p (CU l n G) round=⟨n,K6 n λi=>HP p round (l+i) (G (l+i))⟩:=by
 have d:EN p (CU l n G)=CU l n G:=if_pos (sJ hp h).1;have V:=(BO hp).2.1;have e:(CU l n G).High - (CU l n G).Low=(n:Int):=by show((l+n:Nat):Int) - (l:Int)=n; omega
 have D:GR (CU l n G)=n:=by unfold GR; rw[e]; omega
 unfold ZU;rw[d,e,D];congr 1;refine AiN λi hi=>?_;have J:BD (CU l n G).A i=(G (l+i)).1:=Z2 hi;have O:(CU l n G).Low+(i:Int)=((l+i:Nat):Int):=by show(l:Int)+i=_; omega
 have U:CY (CU l n G).On i=(G (l+i)).2.2:=pB hi (by omega);unfold iQ HP;grind
theorem vN {p:Plan} {l n:Nat} {G:GV} {round:Int} (hp:C0 p=0) (h:((l+n:Nat):Int)<=p.N) :
  OS p (CU l n G) round=if p.Kind=4∧p.Length<=round then 0 else ((E6 n λi=>if p.Kind=5 then (G (l+i)).1==0 else (G (l+i)).2.2:Nat):Int):=by
 have D:EN p (CU l n G)=CU l n G:=if_pos (sJ hp h).1;have U:=(BO hp).2.1;have e:(CU l n G).High - (CU l n G).Low=(n:Int):=by show((l+n:Nat):Int) - (l:Int)=n; omega
 have J:GR (CU l n G)=n:=by unfold GR; rw[e]; omega
 unfold OS ArN;rw[D,J]
 have:E6 n (qY p (CU l n G))=E6 n λi=>if p.Kind=5 then (G (l+i)).1==0 else (G (l+i)).2.2:=QH λi hi=>by have O:BD (CU l n G).A i=(G (l+i)).1:=Z2 hi;have d:CY (CU l n G).On i=(G (l+i)).2.2:=pB hi (by omega);unfold qY;rw[O,d]
 rw[this]
theorem AfM {β:Type} (a b:Nat) (f:Nat->β):QE (a+b) f=QE a f++QE b λj=>f (a+j):=by
 induction b with
 | zero=>simp[QE]
 | succ b d=>rw[<-yT,eO,d,eO,nL]
theorem ArR (a b:Nat) (f:Nat->Bool):GU (a+b) f=GU a f++(GU b λj=>f (a+j)).map λx:Int=>x+(a:Int):=by
 induction b with
 | zero=>simp[GU]
 | succ b d=>
  rw[<-yT,QF,d,QF];grind
theorem AfN (a b:Nat) (f:Nat->Int×Bool):K6 (a+b) f=K6 a f++(K6 b λj=>f (a+j)).map λx=>(⟨a+x.At,x.Val⟩:B9):=by
 induction b with
 | zero=>simp[K6]
 | succ b d=>
  rw[<-yT,QG,d,QG];grind
theorem AaL (n:Nat) (f:Nat->Bool):(GU n f).Pairwise (· < ·):=by
 induction n with
 | zero=>simp[GU]
 | succ n d=>
  rw[QF];split
  . rw[At5];refine⟨d,by simp,λ_ D _ h=>?_⟩;simp only[kB] at h;have:=OP D;omega
  . exact d
theorem mL {n:Nat} {f:Nat->Int×Bool} {x:B9} (h:x∈K6 n f):0<=x.At∧x.At<n:=by unfold K6 at h;grind
theorem ArS (n:Nat) (f:Nat->Int×Bool):IncI (K6 n f):=by
 induction n with
 | zero=>exact List.Pairwise.nil
 | succ n d=>
  rw[QG];split
  . unfold IncI;rw[At5];refine⟨d,by simp,λ_ D _ h=>?_⟩;simp only[kB] at h;subst h;exact(mL D).2
  . exact d
theorem AfO {n:Nat} (h:n<=4096) (f:Nat->Int×Bool):VecP ⟨n,K6 n f⟩:=⟨by simp only; omega,by simp only; omega,ArS n f,λ_ d=>mL d⟩
theorem ArT {n:Nat} (d:n<=4096) (f:Nat->Bool):VR (Y5 n (GU n f))=GU n f:=AqQ (by omega) (AaL n f) λ_ hi=>OP hi
theorem ArU {α β:Type} {xs:List α} {ys:List β} {f:α->β} {d:List β×Int->(List β×Int->Prop)->Prop} (U:xs.length<=1000000000)
   (J:∀ (i:Nat) (s:List β) (next:List β×Int->Prop) (hi:i<xs.length),s.length=ys.length+i->next (s++[f xs[i]],A5 ((i:Int)+1))->d (s,(i:Int)) next)
   (O:∀ (next:List β×Int->Prop),d (ys++xs.map f,(xs.length:Int)) next):AY d (ys,0):=by
 refine A6 (λ(s:List β) i=>(s,i)) 0 xs.length (by omega) (λk s=>s=ys++(xs.take k).map f) (by omega) (by simp) (λk s next _ hk h D=>?_) (λs next h=>?_)
 . refine J k s next hk (by subst h; simp; omega) (D _ ?_);subst h;rw[cZ hk,dA,nL]; rfl
 grind
section
variable {limit:Int}
def stepX (p:Plan) (T:List A2) (s:State) (round:Int):List BM×Int:=lV (CD p.Kind round) p.N p.N T (ZU p s round) (KK p s).1 (KK p s).2
def ZV (p:Plan) (T:List A2) (s:State) (round:Int):Vec×Int:=if (stepX p T s round).2≠0 then (zV,(stepX p T s round).2) else fZ (CD p.Kind round) p.N (stepX p T s round).1
def OT (p:Plan) (T:List A2) (s:State) (round:Int):State×Int:=if (ZV p T s round).2≠0 then (zSt,(ZV p T s round).2) else (iR p s round (ZV p T s round).1,0)
structure Whole (p:Plan) (s:State):Prop where
 st:StP p s
 ok:iP s
 lo:s.Low=0
 hi:s.High=p.N
 va:∀ x∈s.A,DH x
theorem Whole.sure {p:Plan} {s:State} (h:Whole p s):EN p s=s:=if_pos h.st
theorem AfP {p:Plan} (hp:C0 p=0):Whole p (OQ p 0 p.N):=by
 have D:=(BO hp).2.1;have h:=ArO (p:=p) (low:=0) (high:=p.N) hp (by omega) (by omega) (by omega);refine⟨h.1,h.2,?_,?_,?_⟩
 . unfold OQ; rw[if_pos ⟨hp,by omega,by omega,by omega⟩]; rfl
 . unfold OQ; rw[if_pos ⟨hp,by omega,by omega,by omega⟩]; rfl
 . unfold OQ; rw[if_pos ⟨hp,by omega,by omega,by omega⟩];intro x d;obtain⟨_,hi,rfl⟩:=List.mem_map.1 (show x∈QE _ _ from d);have hi:=List.mem_range.1 hi;simp only;unfold Z3 AwP DH;grind
theorem ArV {o:Option Int} (h:∀ y,o=some y->DH y):DH (MU o).1:=by
 cases o with
 | none=>unfold DH MU; simp
 | some y=>exact h y rfl
theorem Whole.upd {p:Plan} {s:State} (h:Whole p s) {round:Int} (hr:0<=round∧round<=1000000) {y:Vec} (O:∀ x∈y.Items,DH x.Val):Whole p (iR p s round y):=by
 have d:=AwS (round:=round) (y:=y) h.st h.ok;refine⟨d.1,d.2.1,d.2.2.1.trans h.lo,d.2.2.2.trans h.hi,?_⟩;unfold iR;rw[h.sure];split
 . intro x U;obtain⟨i,hi,rfl⟩:=List.mem_map.1 (show x∈QE _ _ from U);have hi:=List.mem_range.1 hi
   have W:DH (BD s.A i):=by
    have D:i<s.A.length:=by have:=h.st.2.2.2.2.1; omega
    have:BD s.A i=s.A[i]:=by unfold BD; simp[D]
    rw[this]; exact h.va _ (RY D)
   have Z:DH (MU (G3 y.Items i)).1:=ArV λ_ J=>O _ (YY J);have V:DH round:=by unfold DH; omega
   show DH (AiL p s round i (G3 y.Items i)).1;unfold AiL;simp only
   repeat' split
   all_goals first | assumption | (unfold DH; omega)
 . exact h.va
theorem ArW {r n:Int} {l:List BM}:∀ x∈(fZ r n l).1.Items,DH x.Val:=by
 unfold fZ
 repeat' split
 all_goals first | (intro x h; cases h; done) | skip
 intro x h;have⟨_,_,d⟩:=List.mem_filterMap.1 h;unfold nzI at d;split at d
 . cases d; exact AtN _
 . cases d
theorem AnM {p:Plan} {T:List A2} {s:State} {round:Int}:∀ x∈(ZV p T s round).1.Items,DH x.Val:=by
 unfold ZV;split
 . intro x d; cases d
 . exact ArW
def RR (p:Plan) (T:List A2):Nat->State
 | 0=>OQ p 0 p.N
 | k+1=>(OT p T (RR p T k) ((k:Int)+1)).1
def VX (p:Plan) (T:List A2) (limit:Int) (k:Nat):Int:=if OS p (RR p T k) k=0 then 1 else if (k:Int)=limit then 2 else if (OT p T (RR p T k) ((k:Int)+1)).2≠0 then 3 else 0
theorem AfQ {P:Nat->Prop}:∀ m:Nat,P m->∃ n,n<=m∧(∀ k,k<n->¬P k)∧P n
 | 0,h=>⟨0,Y3 _,λk _=>by omega,h⟩
 | m+1,h=>by
  by_cases h':∃ j,j<=m∧P j
  . have⟨j,_,hp⟩:=h';have⟨n,_,_,_⟩:=AfQ j hp;grind
  grind
termination_by m=>m
decreasing_by omega
structure AiO (p:Plan) (T:List A2) (limit:Int) (n:Nat) (st:Int):Prop where
 le:(n:Int)≤limit
 lt:∀ k,k<n→VX p T limit k=0
 at_:VX p T limit n=st
 ne:st≠0
theorem AuC (p:Plan) (T:List A2) (h:0<=limit):∃ n D,AiO p T limit n D:=by
 have⟨n,_,d,J⟩:=AfQ (P:=λk=>VX p T limit k≠0) limit.toNat (by
  unfold VX;split
  . simp
  . rw[if_pos (by omega)]; simp)
 exact⟨n,_,by omega,λk hk=>Decidable.of_not_not (d k hk),rfl,J⟩
theorem VY {p:Plan} {T:List A2} {k:Nat} (h:VX p T limit k=0):OS p (RR p T k) k≠0∧(k:Int)≠limit∧(OT p T (RR p T k) ((k:Int)+1)).2=0:=by grind[VX]
theorem AnN {p:Plan} {T:List A2} {s:State} {round:Int} (h:(OT p T s round).2=0):(ZV p T s round).2=0∧OT p T s round=(iR p s round (ZV p T s round).1,0):=by grind[OT,ZV]
theorem ArX {p:Plan} {T:List A2} (d:0<=limit):∀ {k:Nat},(∀ j,j<k->VX p T limit j=0)->(k:Int)<=limit
 | 0,_=>d
 | k+1,h=>by have ih:=ArX (k:=k) d λj _=>h j (by omega);have:=VY (h k (by omega));omega
theorem AaM {p:Plan} {T:List A2} (hp:C0 p=0) (d:0<=limit∧limit<=8192):∀ {k:Nat},(∀ j,j<k->VX p T limit j=0)->Whole p (RR p T k)
 | 0,_=>AfP hp
 | k+1,h=>by have ih:=AaM (k:=k) hp d λj _=>h j (by omega);have hk:=ArX d.1 h;have:=VY (h k (by omega));have e:=(AnN this.2.2).2;show Whole p (OT p T (RR p T k) ((k:Int)+1)).1;rw[e];exact ih.upd (by omega) AnM
def nzW (r:Int) (w:AP):Option Int:=if (GY w).1≠zS r then some (GY w).1 else none
def fH (p:Plan) (g:Int×Int×Bool):Bool:=if p.Kind=1 then g.1 == -1 else if p.Kind=5 then g.1==0 else true
def Z5 (p:Plan) (T:List A2) (n:Nat) (round:Int) (G:GV) (v:Nat):Option AP:=JM (CD p.Kind round) n (G3 (NJ T v)) (G3 (K6 n λi=>HP p round i (G i)))
def IJ (p:Plan) (T:List A2) (n:Nat) (round:Int) (G:GV) (v:Nat):Option Int:=if fH p (G v)=true then (Z5 p T n round G v).bind (nzW (CD p.Kind round)) else none
theorem ArY {r:Int} {s:BM} {x:B9} (h:nzI r s=some x):x.At=s.At:=by unfold nzI at h;grind
theorem ArZ {r:Int}:∀ {l:List BM},Rise l->∀ i:Int,G3 (l.filterMap (nzI r)) i=(lk l i).bind (nzW r)
 | [],_,i=>rfl
 | s :: l,h,i=>by
  have hr:Rise l:=(List.pairwise_cons.1 h).2;have d:=(List.pairwise_cons.1 h).1;have D:=ArZ (r:=r) hr i;rw[List.filterMap_cons,EA]
  cases O:nzI r s with
  | none=>
   rw[D];by_cases e:i=s.At
   . rw[if_pos e,VP λx J=>by have:=d x J; omega];simp only[Option.bind_none,Ap5];unfold nzI at O; grind[nzW]
   . rw[if_neg e]
  | some x=>
   rw[L4,ArY O,D];by_cases e:i=s.At
   . rw[if_pos e,if_pos e];unfold nzI at O; grind[nzW]
   all_goals grind
theorem AlL {r n:Int} {l:List BM} (D:0<=n∧n<=4096) (h:Rise l) (hi:∀ s∈l,0<=s.At∧s.At<n):VecP ⟨n,l.filterMap (nzI r)⟩:=by
 refine⟨D.1,D.2,?_,λ_ _=>?_⟩
 . refine List.Pairwise.filterMap _ (λ_ _ _ _ _ _ _=>?_) h;grind[ArY]
 grind[ArY]
theorem AfR {p:Plan} (h:1<=p.Kind∧p.Kind<=5) (round:Int):1<=CD p.Kind round∧CD p.Kind round<=5:=by unfold CD;omega
theorem AuD {p:Plan} {n:Nat} {G:GV} (d:n<=4096) {i:Nat} (hi:i<n):H8 (KK p (CU 0 n G)).1 (KK p (CU 0 n G)).2 i=fH p (G i):=by
 have J:GR (CU 0 n G)=n:=by show((((0+n:Nat):Int)) - ((0:Nat):Int)).toNat=n; omega
 have h:∀ j,j<n->BD (CU 0 n G).A j=(G j).1:=λj D=>by have:BD (CU 0 n G).A j=(G (0+j)).1:=Z2 D;grind
 unfold KK fH H8;rw[J];by_cases h1:p.Kind=1
 . rw[if_pos h1,if_pos h1];simp only;rw[pB hi d,h i hi];simp
 . rw[if_neg h1,if_neg h1];by_cases h5:p.Kind=5
   . rw[if_pos h5,if_pos h5];simp only;rw[pB hi d,h i hi];simp
   . rw[if_neg h5,if_neg h5];simp only;rw[Q6 (by simp)];rfl
theorem vO {p:Plan} {T:List A2} {n:Nat} {G:GV} {round:Int} (hp:C0 p=0) (hn:p.N=n) :
   ((∃ v w,v<n∧fH p (G v)=true∧Z5 p T n round G v=some w∧(GY w).2=false)->OT p T (CU 0 n G) round=(zSt,12)) ∧
   ((∀ v w,v<n->fH p (G v)=true->Z5 p T n round G v=some w->(GY w).2=true)->OT p T (CU 0 n G) round=(CU 0 n (LA p round G (IJ p T n round G)),0)):=by
 have a3:=BO hp;have a2:n<=4096:=by omega
 have hr:=AfR a3.1 round
 have a7:ZU p (CU 0 n G) round=⟨n,K6 n λi=>HP p round i (G i)⟩:=by rw[AcL hp (by omega)];grind
 have O:stepX p T (CU 0 n G) round=(L5 (CD p.Kind round) n n (KK p (CU 0 n G)).1 (KK p (CU 0 n G)).2 (λi=>G3 (NJ T i)) (G3 (K6 n λi=>HP p round i (G i))),0):=by unfold stepX lV;grind
 have d:=U7 (CD p.Kind round) n (KK p (CU 0 n G)).1 (KK p (CU 0 n G)).2 (λi=>G3 (NJ T i)) (G3 (K6 n λi=>HP p round i (G i))) n;generalize L5 (CD p.Kind round) n n (KK p (CU 0 n G)).1 (KK p (CU 0 n G)).2 (λi=>G3 (NJ T i)) (G3 (K6 n λi=>HP p round i (G i)))=l at O d;have⟨V,_,_,q4,q5⟩:=d
 have a4:∀ i:Nat,i<n->lk l i=if fH p (G i)=true then Z5 p T n round G i else none:=by
   intro i hi;rw[q5,AuD a2 hi];by_cases D:fH p (G i)=true
   . rw[if_pos ⟨by omega,by omega,D⟩,if_pos D]; rfl
   grind
 have W:ZV p T (CU 0 n G) round=if ∃ s∈l,(GY s.Val).2=false then (zV,12) else (⟨n,l.filterMap (nzI (CD p.Kind round))⟩,0):=by unfold ZV fZ;rw[O];simp only;rw[if_neg (λh=>h rfl),if_neg (λh=>h hr),if_neg,if_neg (λh=>h V),hn];grind
 constructor
 . rintro⟨v,w,U,D,hw,J⟩;have hm:(⟨(v:Int),w⟩:BM)∈l:=oP (by rw[a4 v U,if_pos D,hw]);have:ZV p T (CU 0 n G) round=(zV,12):=by rw[W,if_pos ⟨_,hm,J⟩]
   grind[OT]
 . intro a6
   have:ZV p T (CU 0 n G) round=(⟨n,l.filterMap (nzI (CD p.Kind round))⟩,0):=by
     rw[W,if_neg];rintro⟨s,Z,J⟩;have a5:=q4 s Z;obtain⟨v,U⟩:∃ v:Nat,s.At=v:=⟨s.At.toNat,by omega⟩;have h1:lk l v=some s.Val:=by rw[<-U]; exact uK V Z
     grind
   unfold OT;rw[this];simp only;rw[if_neg (λh=>h rfl),AlK (Y:=IJ p T n round G) hp (by omega) (AlL ⟨by omega,by omega⟩ V q4) rfl];grind[ArZ,IJ]
theorem AfS {p:Plan} {T:List A2} {n:Nat} {G:GV} {round:Int} (hp:C0 p=0) (D:p.N=n) (h:(OT p T (CU 0 n G) round).2=0) :
  (∀ v w,v<n->fH p (G v)=true->Z5 p T n round G v=some w->(GY w).2=true)∧OT p T (CU 0 n G) round=(CU 0 n (LA p round G (IJ p T n round G)),0):=by
 have V:=vO (T:=T) (G:=G) (round:=round) hp D
 have d:∀ v w,v<n->fH p (G v)=true->Z5 p T n round G v=some w->(GY w).2=true:=by
  intro v w J O U
  cases W:(GY w).2 with
  | true=>rfl
  | false=>rw[V.1 ⟨v,w,J,O,U,W⟩] at h; cases h
 grind
def GS (p:Plan) (T:List A2) (n:Nat):Nat->GV
 | 0=>gV0 p
 | k+1=>LA p ((k:Int)+1) (GS p T n k) (IJ p T n ((k:Int)+1) (GS p T n k))
theorem sK {p:Plan} {T:List A2} {n:Nat} (hp:C0 p=0) (d:p.N=n):∀ {k:Nat},(∀ j,j<k->VX p T limit j=0)->RR p T k=CU 0 n (GS p T n k)
 | 0,_=>by
  show OQ p 0 p.N=CU 0 n (gV0 p);exact AaK hp rfl (by rw[d]; omega) (by omega)
 | k+1,h=>by have ih:=sK (k:=k) hp d λj _=>h j (by omega);have:=(VY (h k (by omega))).2.2;show(OT p T (RR p T k) ((k:Int)+1)).1=_;rw[ih] at this ⊢;rw[(AfS hp d this).2];rfl
theorem vP:∀ (n:Nat) (L:List Nat),L.Nodup->(∀ x∈L,x<n)->L.length<=n
 | 0,[],_,_=>Y3 _
 | 0,x :: L,_,h=>absurd (h x (by simp)) (by omega)
 | n+1,L,hd,h=>by
  by_cases hm:n∈L
  . have J:=vP n (L.erase n) (hd.erase n) (λx d=>by have D:=(List.Nodup.mem_erase_iff hd).1 d;have:=h x D.2;have:=D.1;omega)
    rw[List.length_erase_of_mem hm] at J;omega
  . have:=vP n L hd λx d=>by have J:=h x d;have D:x≠n:=λe=>hm (e▸d);omega
    omega
theorem AuE {K:Nat->Nat->Int} (D:∀ i v,K (i+1) v<=K i v) (v:Nat) {i j:Nat} (h:i<=j):K j v<=K i v:=by
 induction h with
 | refl=>exact sV _
 | step _ d=>exact AdZ (D _ v) d
theorem AvR {n:Nat} {on:Nat->Nat->Prop} {K:Nat->Nat->Int} (O:∀ i v,K (i+1) v<=K i v) (V:∀ i v,v<n->on (i+1) v->K (i+1) v<K i v)
  (hp:∀ i v,v<n->on (i+1) v->∃ u,u<n∧on i u∧K i u<=K (i+1) v):∀ t v,v<n->on t v->∃ L:List Nat,L.length=t+1∧L.Nodup∧(∀ x∈L,x<n)∧∀ x∈L,∃ i,i<=t∧K i x<=K t v
 | 0,v,hv,_=>⟨[v],rfl,by simp,by simpa using hv,λx d=>by rw[kB] at d; subst d; exact⟨0,Y3 _,sV _⟩⟩
 | t+1,v,hv,ho=>by
  have⟨u,Z,J,_⟩:=hp t v hv ho;have⟨L,W,h2,h3,U⟩:=AvR O V hp t u Z J;refine⟨v :: L,by simp[W],List.nodup_cons.2 ⟨λD=>?_,h2⟩,λx d=>?_,λx d=>?_⟩
  . have⟨i,hi,hk⟩:=U v D;have a1:=V t v hv ho;have a2:=AuE O v hi;omega
  . rcases List.mem_cons.1 d with rfl | h
    . exact hv
    . exact h3 x h
  . rcases List.mem_cons.1 d with rfl | h
    . exact⟨t+1,Y3 _,sV _⟩
    . have⟨i,hi,hk⟩:=U x h;exact⟨i,by omega,by omega⟩
theorem As0 {n:Nat} {on:Nat->Nat->Prop} {K:Nat->Nat->Int} (d:∀ i v,K (i+1) v<=K i v) (U:∀ i v,v<n->on (i+1) v->K (i+1) v<K i v)
  (hp:∀ i v,v<n->on (i+1) v->∃ u,u<n∧on i u∧K i u<=K (i+1) v) {t v:Nat} (D:v<n) (J:on t v):t+1<=n:=by
 have⟨L,_,h,O,_⟩:=AvR d U hp t v D J;have:=vP n L h O;omega
theorem AcM {P:Nat->Prop} {μ:Nat->Int}:∀ n:Nat,(∃ v,v<n∧P v)->∃ v,v<n∧P v∧∀ u,u<n->P u->μ v<=μ u
 | 0,⟨v,U,_⟩=>by omega
 | n+1,⟨v,U,hp⟩=>by
  by_cases h:∃ v,v<n∧P v
  . have⟨a,_,J,D⟩:=AcM (μ:=μ) n h;by_cases hn:P n∧μ n<μ a
    . refine⟨n,by omega,hn.1,λu O d=>?_⟩;by_cases e:u=n
      . subst e; exact sV _
      . have:=D u (by omega) d; omega
    . refine⟨a,by omega,J,λu O d=>?_⟩;by_cases e:u=n
      . subst e;by_cases hl:μ u<μ a
        . exact absurd ⟨d,hl⟩ hn
        . omega
      . exact D u (by omega) d
  . have e:v=n:=by
      by_cases hvn:v<n
      . exact absurd ⟨v,hvn,hp⟩ h
      . omega
    subst e;refine⟨v,U,hp,λu O d=>?_⟩;by_cases e:u=v
    . subst e; exact sV _
    . exact absurd ⟨u,by omega,d⟩ h
theorem vQ {n:Nat} {f g:Nat->Bool} (h:∀ i,i<n->g i=true->f i=true):E6 n g<=E6 n f:=by
 induction n with
 | zero=>exact Y3 _
 | succ n D=>
  rw[HD,HD];have O:=D λi _=>h i (by omega);have d:=h n (by omega)
  cases J:g n with
  | false=>simp only[AaU,if_false]; split <;> omega
  | true=>rw[d J]; simp only[if_true]; omega
theorem eQ {n:Nat} {f g:Nat->Bool} (h:∀ i,i<n->g i=true->f i=true) {v:Nat} (V:v<n) (O:f v=true) (d:g v=false):E6 n g<E6 n f:=by
 induction n with
 | zero=>omega
 | succ n J=>
  rw[HD,HD];by_cases e:v=n
  . subst e;rw[O,d];have:=vQ (n:=v) λi hi=>h i (by omega);simp only[AaU,if_false,if_true]; omega
  . have U:=J (λi hi=>h i (by omega)) (by omega);have D:=h n (by omega)
    cases d:g n with
    | false=>simp only[AaU,if_false]; split <;> omega
    | true=>rw[D d]; simp only[if_true]; omega
theorem XR {n:Nat} {f:Nat->Bool} (h:E6 n f≠0):∃ i,i<n∧f i=true:=by
 by_cases h':∃ i,i<n∧f i=true
 . exact h'
 . refine absurd (oZ λi hi=>?_) h
   cases d:f i with
   | false=>rfl
   | true=>exact absurd ⟨i,hi,d⟩ h'
theorem Z6 (f:Nat->Int×Bool) (j:Nat):∀ n:Nat,G3 (K6 n f) (j:Int)=if j<n∧(f j).2=true then some (f j).1 else none
 | 0=>by rw[if_neg (by omega)]; rfl
 | n+1=>by
  rw[QG];by_cases hn:(f n).2=true
  . rw[if_pos hn,U6,Z6 f j n,L4];by_cases e:j=n
    . subst e;rw[if_neg (λh=>by omega),if_pos rfl,if_pos ⟨by omega,hn⟩]
    . rw[if_neg (show ¬(j:Int)=(n:Int) by omega)];by_cases h:j<n∧(f j).2=true
      . rw[if_pos h,if_pos ⟨by omega,h.2⟩]
      . rw[if_neg h,if_neg (λd=>h ⟨by omega,d.2⟩)]; rfl
  . rw[if_neg hn,Z6 f j n];by_cases h:j<n∧(f j).2=true
    . rw[if_pos h,if_pos ⟨by omega,h.2⟩]
    . rw[if_neg h,if_neg];rintro⟨_,h2⟩;by_cases e:j=n
      . subst e; exact hn h2
      . exact h ⟨by omega,h2⟩
theorem vR {r:Int} (d:r=1∨r=3∨r=4) {A B:Int->Option Int}:∀ {n:Nat} {w:AP},JM r n A B=some w->∃ j:Nat,j<n∧∃ a x,A j=some a∧B j=some x∧w=L3 r a x
 | 0,w,h=>by cases h
 | n+1,w,h=>by
  rw[Q8] at h;unfold VU at h
  have old:JM r n A B=some w->∃ j:Nat,j<n+1∧∃ a x,A j=some a∧B j=some x∧w=L3 r a x:=λJ=>by have⟨j,_,D⟩:=vR d J;exact⟨j,by omega,D⟩
  cases O:A n with
  | none=>rw[O] at h; exact old h
  | some a=>
   cases U:B n with
   | none=>rw[O,U] at h; exact old h
   | some x=>
    rw[O,U] at h;simp only at h
    cases V:JM r n A B with
    | none=>rw[V] at h; exact⟨n,by omega,a,x,O,U,(QZ h).symm⟩
    | some u=>
     rw[V] at h old;have h:=QZ h;unfold FE at h;rw[if_pos d] at h;split at h
     . exact old (by rw[h])
     . exact⟨n,by omega,a,x,O,U,h.symm⟩
theorem AcN {A B:Int->Option Int}:∀ {n:Nat} {w:AP},JM 2 n A B=some w->w=⟨0,1⟩∨w=⟨0,0⟩
 | 0,w,h=>by cases h
 | n+1,w,h=>by
  rw[Q8] at h;unfold VU at h
  have hm:∀ a x,L3 2 a x=⟨0,1⟩∨L3 2 a x=⟨0,0⟩:=λa x=>by
   unfold L3;rw[if_pos rfl];split
   . exact .inl rfl
   . exact .inr rfl
  cases d:A n with
  | none=>rw[d] at h; exact AcN h
  | some a=>
   cases D:B n with
   | none=>rw[d,D] at h; exact AcN h
   | some x=>
     rw[d,D] at h;simp only at h
     cases J:JM 2 n A B with
     | none=>rw[J] at h; have h:=QZ h; rw[<-h]; exact hm a x
     | some u=>
      rw[J] at h;have h:=QZ h;unfold FE at h;rw[if_neg (by omega),if_pos rfl] at h;split at h
      . exact .inr h.symm
      . exact .inl h.symm
theorem mM {z:Int} (h:DH z):GY (SA z)=(z,true):=by unfold GY SA;unfold DH at h;simp only[HU];rw[if_pos (by omega)];rw[yS];exact⟨by omega,rfl⟩
theorem XS {rows cols:Int} {T:List A2} (h:Canon rows cols T) {i j a:Int} (hi:0<=i):G3 (NJ T i) j=some a↔(⟨i,j,a⟩:A2)∈T:=by
 have d:IncI ((Q3 T i.toNat).map sD):=by unfold IncI Q3;rw[gU];refine AsY ?_ (gS _ h.srt);intro a b W hb D;have U:=of_decide_eq_true (List.mem_filter.1 W).2;have V:=of_decide_eq_true (List.mem_filter.1 hb).2;unfold IY key at D;simp only[sD];simp only at D;omega
 unfold NJ;rw[sG d,gW];unfold Q3;constructor
 . rintro⟨t,O,J⟩;have⟨U,V⟩:=List.mem_filter.1 O;have Z:=of_decide_eq_true V;unfold sD at J;have⟨tr,_,_⟩:=t;simp only[B9.mk.injEq] at J Z;obtain⟨rfl,rfl⟩:=J;rw[show i=tr by omega];exact U
 . intro O;exact⟨_,List.mem_filter.2 ⟨O,by simp; omega⟩,rfl⟩
def AiP (p:Plan) (n:Nat) (round:Int) (G:GV):Prop:=∀ u,u<n->0<=(HP p round u (G u)).1∧(HP p round u (G u)).1<=4611686018427387904
theorem AlM {p:Plan} {T:List A2} {n:Nat} {round:Int} {G:GV} {v:Nat} {w:AP} (D:Canon n n T) (W:CD p.Kind round=1∨CD p.Kind round=4) (h:Z5 p T n round G v=some w) :
   ∃ u a,u<n∧(⟨v,u,a⟩:A2)∈T∧(HP p round u (G u)).2=true∧w=L3 (CD p.Kind round) a (HP p round u (G u)).1:=by
 unfold Z5 at h;have⟨j,O,a,_,J,d,U⟩:=vR (by omega) h;rw[Z6] at d;split at d
 . rename_i V;have:=QZ d;subst this;exact⟨j,a,O,(XS D (by omega)).1 J,V.2,U⟩
 . cases d
theorem AlN {r a x:Int} (O:r=1∨r=4) (J:0<=a) (U:0<=x∧x<=4611686018427387904):(GY (L3 r a x)).2=true∧((GY (L3 r a x)).1≠4611686018427387904->(r=4->(GY (L3 r a x)).1=x)∧(r=1->(GY (L3 r a x)).1=a+x)):=by
 have d:GY (SA 4611686018427387904)=(4611686018427387904,true):=mM (by unfold DH; omega);unfold L3;rw[if_neg (by omega),if_neg (by omega),if_pos (by omega)];by_cases hc:4611686018427387904<=a∨4611686018427387904<=x
 . rw[if_pos hc,d];exact⟨rfl,λh=>absurd rfl h⟩
 . rw[if_neg hc];have D:¬r=3:=by omega
   rw[if_neg D];by_cases h4:r=4
   . rw[if_pos h4,mM (by unfold DH; omega)];exact⟨rfl,λ_=>⟨λ_=>rfl,λh=>by omega⟩⟩
   . rw[if_neg h4];by_cases hl:eH (SA 4611686018427387904) (SA (a+x))
     . rw[if_pos hl,d];exact⟨rfl,λh=>absurd rfl h⟩
     . rw[if_neg hl,mM (by unfold DH; omega)];exact⟨rfl,λ_=>⟨λh=>absurd h h4,λ_=>rfl⟩⟩
theorem mN {p:Plan} {T:List A2} {n:Nat} {round:Int} {G:GV} {v:Nat} {y:Int} (W:Canon n n T) (hv:∀ t∈T,0<=t.Val) (V:CD p.Kind round=1∨CD p.Kind round=4) (ho:AiP p n round G)
   (h:IJ p T n round G v=some y):∃ u a,u<n∧(⟨v,u,a⟩:A2)∈T∧(HP p round u (G u)).2=true∧0<=a∧(CD p.Kind round=4->y=(HP p round u (G u)).1)∧(CD p.Kind round=1->y=a+(HP p round u (G u)).1):=by
 unfold IJ at h;split at h
 . cases Z:Z5 p T n round G v with
   | none=>rw[Z] at h; cases h
   | some w=>
    rw[Z] at h;simp only[Ap5] at h;have⟨u,a,J,O,h3,h4⟩:=AlM W V Z;have U:=hv _ O;have D:=(AlN V U (ho u J)).2;rw[<-h4] at D;have a2:zS (CD p.Kind round)=4611686018427387904:=by unfold zS; rw[if_pos (by omega)]
    unfold nzW at h;rw[a2] at h;split at h
    . rename_i d;have:=QZ h;subst this;exact⟨u,a,J,O,h3,U,(D d).1,(D d).2⟩
    . cases h
 . cases h
theorem AuF {p:Plan} {T:List A2} {n:Nat} {round:Int} {G:GV} {v:Nat} {w:AP} (J:Canon n n T) (U:∀ t∈T,0<=t.Val) (Z:CD p.Kind round=1∨CD p.Kind round=4∨CD p.Kind round=2) (W:AiP p n round G)
   (h:Z5 p T n round G v=some w):(GY w).2=true:=by
 by_cases D:CD p.Kind round=2
 . unfold Z5 at h;rw[D] at h;rcases AcN h with rfl | rfl <;> decide
 . have d:CD p.Kind round=1∨CD p.Kind round=4:=by omega
   have⟨u,_,O,D,_,V⟩:=AlM J d h;rw[V];exact(AlN d (U _ D) (W u O)).1
structure AcO (p:Plan) (n:Nat) (T:List A2):Prop where
 can:Canon n n T
 pos:∀ t∈T,0≤t.Val
 ini:∀ t∈T,DH t.Val
 loop:p.Kind=5→∀ t∈T,t.Row≠t.Col
theorem AwT {p:Plan} (hk:1<=p.Kind∧p.Kind<=5) (d:p.Kind≠4) (round:Int):CD p.Kind round=1∨CD p.Kind round=4∨CD p.Kind round=2:=by unfold CD;omega
theorem AiQ {p:Plan} (hp:C0 p=0) (round v:Int):0<=P2 p round v∧P2 p round v<=17592186044416:=by
 have d:=BO hp;unfold P2 AnH;split
 . have:=ArE d.2.2.2.2.2 ((round - 1) / 2*p.N+v); omega
 . omega
theorem AlO {p:Plan} (hp:C0 p=0) {round u v:Int} (d:1<=round∧round<=16000) (D:0<=u∧u<p.N) (J:0<=v∧v<p.N) (h:u≠v):P2 p round u≠P2 p round v:=by have O:=BO hp;unfold P2 AnH;omega
def vS (p:Plan) (n:Nat) (G:GV):Prop:=∀ v,v<n->(p.Kind=2∨p.Kind=3->0<=(G v).1∧(G v).1<=4611686018427387904)∧(p.Kind=1->(G v).2.2=true->(G v).1 ≠ -1)
theorem XT {p:Plan} {n:Nat} {G:GV} (hp:C0 p=0) (J:p.N=n) (D:p.Kind≠4) (h:vS p n G) (round:Int):AiP p n round G:=by
 intro u d;have O:=BO hp;unfold HP;by_cases h1:p.Kind=1
 . grind
 . rw[if_neg h1];by_cases h5:p.Kind=5
   . rw[if_pos h5];split
     . simp
     . have:=AiQ hp round u; simp only; omega
   . rw[if_neg h5];exact(h u d).1 (by omega)
theorem AnO {p:Plan} {n:Nat} (hp:C0 p=0) (d:p.N=n):vS p n (gV0 p):=by intro v h;have D:=BO hp;unfold gV0 Z3 AwP;grind
theorem As1 {p:Plan} {T:List A2} {n:Nat} {G:GV} {k:Nat} (hp:C0 p=0) (O:p.N=n) (D:AcO p n T) (Z:p.Kind≠4) (h:vS p n G):vS p n (LA p ((k:Int)+1) G (IJ p T n ((k:Int)+1) G)):=by
 intro v W;have hz:=BO hp;have J:=XT hp O Z h ((k:Int)+1);have V:=h v W;unfold LA xT;refine⟨λhk=>?_,λhk=>?_⟩
 . have d:=V.1 hk;rw[if_neg (by omega),if_pos hk]
   cases hy:IJ p T n ((k:Int)+1) G v with
   | none=>simpa[MU] using d
   | some y=>
    have hr:CD p.Kind ((k:Int)+1)=1∨CD p.Kind ((k:Int)+1)=4:=by unfold CD; repeat' split <;> omega
    have⟨u,_,U,_,_,_,_,_⟩:=mN D.can D.pos hr J hy;have a2:=J u U;simp only[MU];grind
 all_goals grind
theorem cE {p:Plan} {T:List A2} {n:Nat} (hp:C0 p=0) (d:p.N=n) (D:AcO p n T) (h:p.Kind≠4):∀ k,vS p n (GS p T n k)
 | 0=>AnO hp d
 | k+1=>As1 hp d D h (cE hp d D h k)
theorem AnP {p:Plan} {T:List A2} {n:Nat} {k:Nat} (hp:C0 p=0) (h:p.N=n) (d:AcO p n T) (D:p.Kind≠4):OT p T (CU 0 n (GS p T n k)) ((k:Int)+1)=(CU 0 n (GS p T n (k+1)),0):=by refine(vO (T:=T) hp h).2 λ_ _ _ _ J=>?_;exact AuF d.can d.pos (AwT (BO hp).1 D _) (XT hp h D (cE hp h d D k) _) J
def mO (p:Plan) (g:Int×Int×Bool):Int:=if p.Kind=1 then (if g.1 = -1 then 1 else 0) else g.1
theorem vT {p:Plan} {G:GV} {Y:Nat->Option Int} {k:Nat} (hk:p.Kind=1∨p.Kind=2∨p.Kind=3) (v:Nat):mO p (LA p ((k:Int)+1) G Y v)<=mO p (G v)∧((LA p ((k:Int)+1) G Y v).2.2=true->mO p (LA p ((k:Int)+1) G Y v)<mO p (G v)∧∃ y,Y v=some y∧(p.Kind≠1->(LA p ((k:Int)+1) G Y v).1=y)∧(p.Kind=1->mO p (LA p ((k:Int)+1) G Y v)=0)):=by
 unfold LA xT
 cases d:Y v with
 | none=>
  by_cases h1:p.Kind=1
  . rw[if_pos h1]; simp[MU,mO,h1]
  . rw[if_neg h1,if_pos (by omega)]; simp[MU,mO,h1]
 | some y=>
  by_cases h1:p.Kind=1
  . grind[mO]
  . rw[if_neg h1,if_pos (by omega)];unfold mO;rw[if_neg h1,if_neg h1];simp only[MU,true_and];grind
theorem AyI {p:Plan} {T:List A2} {n:Nat} (hp:C0 p=0) (J:p.N=n) (D:AcO p n T) (hk:p.Kind=1∨p.Kind=2∨p.Kind=3) {t v:Nat} (V:v<n) (h:(GS p T n t v).2.2=true):t+1<=n:=by
 refine As0 (n:=n) (on:=λi v=>(GS p T n i v).2.2=true) (K:=λi v=>mO p (GS p T n i v)) (λi v=>(vT hk v).1) (λi v _ h=>((vT hk v).2 h).1) (λi v V h=>?_) V h;have⟨_,hy,_,Z⟩:=((vT hk v).2 h).2;have ht:=XT hp J (by omega) (cE hp J D (by omega) i) ((i:Int)+1);have hr:CD p.Kind ((i:Int)+1)=1∨CD p.Kind ((i:Int)+1)=4:=by unfold CD; repeat' split <;> omega
 have⟨u,_,O,_,d,_,W,U⟩:=mN D.can D.pos hr ht hy;unfold HP at d W U;by_cases hk1:p.Kind=1
 . rw[if_pos hk1] at d;refine⟨u,O,d,?_⟩;have h0:=Z hk1;have:=(cE hp J D (by omega) i u O).2 hk1 d;grind[mO]
 . rw[if_neg hk1,if_neg (by omega)] at d W U;refine⟨u,O,d,?_⟩;show mO p (GS p T n i u)<=mO p (LA p ((i:Int)+1) (GS p T n i) (IJ p T n ((i:Int)+1) (GS p T n i)) v);grind[mO]
def EQ (G:GV):Nat->Bool:=λv=>(G v).1==0
theorem eS {p:Plan} {G:GV} {Y:Nat->Option Int} {round:Int} (hk:p.Kind=5) (v:Nat) (h:EQ (LA p round G Y) v=true):EQ G v=true:=by unfold EQ LA xT at *;grind
theorem AnQ {p:Plan} {T:List A2} {n:Nat} {G:GV} {k:Nat} (hp:C0 p=0) (hn:p.N=n) (U:AcO p n T) (hk:p.Kind=5) (a4:k % 2=0) (a2:k<=15000) (h:E6 n (EQ G)≠0) (hG:vS p n G) :
   E6 n (EQ (LA p ((k:Int)+1) G (IJ p T n ((k:Int)+1) G)))<E6 n (EQ G):=by
 have⟨v,hv,Z,O⟩:=AcM (P:=λv=>EQ G v=true) (μ:=λv=>P2 p ((k:Int)+1) v) n (XR h);refine eQ (λi _=>eS hk i) hv Z ?_;have hA:(G v).1=0:=by simpa[EQ] using Z
 have d:¬((k:Int)+1) % 2=0:=by omega
 have W:CD p.Kind ((k:Int)+1)=4:=by unfold CD;omega
 unfold EQ LA xT;rw[if_neg (by omega),if_neg (by omega),if_neg (by omega),if_neg (λh=>h hA),if_neg d,if_pos]
 . rfl
 cases hy:IJ p T n ((k:Int)+1) G v with
 | none=>left; rfl
 | some y=>
   right;have⟨u,_,hu,hm,D,_,e4,_⟩:=mN U.can U.pos (.inr W) (XT hp hn (by omega) hG _) hy;have J:=e4 W;unfold HP at D J;rw[if_neg (by omega),if_pos hk,if_neg d] at D J;simp only at D J;have a3:=O u hu D;have V:(v:Int)≠u:=U.loop hk _ hm;have:=AlO hp (round:=(k:Int)+1) (u:=(v:Int)) (v:=(u:Int)) (by omega) (by omega) (by omega) V;simp only[MU];rw[J];omega
theorem AlP {p:Plan} {T:List A2} {n:Nat} (hp:C0 p=0) (J:p.N=n) (D:AcO p n T) (hk:p.Kind=5) {m:Nat} (U:m<=15000) (d:∀ k,k<m->E6 n (EQ (GS p T n k))≠0):∀ j,2*j<=m->E6 n (EQ (GS p T n (2*j)))+j<=n
 | 0,_=>by rw[eY]; exact Z4 _ _
 | j+1,h=>by have ih:=AlP hp J D hk U d j (by omega);have V:=AnQ (G:=GS p T n (2*j)) (k:=2*j) hp J D hk (by omega) (by omega) (d (2*j) (by omega)) (cE hp J D (by omega) _);have Z:E6 n (EQ (GS p T n (2*(j+1))))<=E6 n (EQ (GS p T n (2*j+1))):=vQ λi _ O=>eS hk i O;have W:E6 n (EQ (GS p T n (2*j+1)))<E6 n (EQ (GS p T n (2*j))):=V;omega
def mP (p:Plan) (n:Nat):Int:=if p.Kind=4 then p.Length else if p.Kind=5 then 2*n else n+1
theorem AlQ {p:Plan} {T:List A2} {n k:Nat} (hp:C0 p=0) (d:p.N=n) (h:∀ j,j<k->VX p T limit j=0):OS p (RR p T k) k=if p.Kind=4∧p.Length<=k then 0 else ((E6 n λi=>if p.Kind=5 then EQ (GS p T n k) i else (GS p T n k i).2.2:Nat):Int):=by rw[sK hp d h,vN hp (by omega)];grind[EQ]
theorem AnR {p:Plan} {T:List A2} {n m:Nat} {V:Int} (hp:C0 p=0) (J:p.N=n) (a5:n<=1000) (U:AcO p n T) (E:AiO p T (mP p n) m V):V=1∨(p.Kind=4∧V=3):=by
 have hz:=BO hp;have hl:∀ k,k<=m->OS p (RR p T k) k=if p.Kind=4∧p.Length<=k then 0 else ((E6 n λi=>if p.Kind=5 then EQ (GS p T n k) i else (GS p T n k i).2.2:Nat):Int):=λk hk=>AlQ hp J λj h=>E.lt j (by omega)
 have O:∀ k,k<m->(E6 n λi=>if p.Kind=5 then EQ (GS p T n k) i else (GS p T n k i).2.2)≠0:=λk hk W=>by have:=(VY (E.lt k hk)).1;grind
 have d:=E.at_;have a4:=E.le;unfold VX at d;by_cases hL:OS p (RR p T m) m=0
 . omega
 rw[if_neg hL] at d;have W:=hl m (Y3 _);by_cases hm:(m:Int)=mP p n
 . exfalso;by_cases h4:p.Kind=4
   . grind[mP]
   . rw[if_neg (λa3=>h4 a3.1)] at W;by_cases h5:p.Kind=5
     . have D:mP p n=2*n:=by grind[mP]
       have a2:m=2*n:=by omega
       have hf:=AlP (m:=m) hp J U h5 (by omega) (λk hk=>by have:=O k hk; simpa[h5] using this) n (by omega);apply hL;have e:(E6 n λi=>if p.Kind=5 then EQ (GS p T n m) i else (GS p T n m i).2.2)=E6 n (EQ (GS p T n m)):=QH λi _=>if_pos h5;rw[W,e,a2]; omega
     . have D:mP p n=n+1:=by grind[mP]
       have⟨_,hv,Z⟩:=XR (O n (by omega));rw[if_neg h5] at Z;have:=AyI hp J U (by omega) hv Z;omega
 rw[if_neg hm] at d;by_cases hs:(OT p T (RR p T m) ((m:Int)+1)).2≠0
 . rw[if_pos hs] at d;by_cases h4:p.Kind=4
   . exact .inr ⟨h4,d.symm⟩
   . exfalso;apply hs;rw[sK hp J λj h=>E.lt j h,AnP hp J U h4]
 . rw[if_neg hs] at d; exact absurd d.symm E.ne
end
section
variable {limit st:Int}
theorem AfT {k:GN} {v:AP}:∀ {l:List (GN×AP)} {p:GN×AP},p∈ins 1 k v l->p=(k,v)∨p∈l
 | [],p,h=>by simp[ins] at h; exact .inl h
 | q :: l,p,h=>by
  unfold ins at h;split at h
  . rcases List.mem_cons.1 h with rfl | h
    . exact .inr (by simp)
    . rcases AfT h with h | h
      . exact .inl h
      . exact .inr (by simp[h])
  . split at h
    . rename_i hk;rcases List.mem_cons.1 h with rfl | h
      . unfold FE;rw[if_pos (.inl rfl)];split
        . right;have⟨_,_⟩:=q;simp only at hk;subst hk; simp
        . exact .inl rfl
      . exact .inr (by simp[h])
    . rcases List.mem_cons.1 h with rfl | h
      . exact .inl rfl
      . exact .inr h
theorem AlR:∀ {ts:List (GN×Int)} {p:GN×AP},p∈SC 1 ts->∃ t∈ts,p=(t.1,US t.2):=by
 suffices ∀ (ts:List (GN×Int)) (l:List (GN×AP)) p,p∈ts.foldl (λl t=>ins 1 t.1 (US t.2) l) l->(∃ t∈ts,p=(t.1,US t.2))∨p∈l from λ{ts p} h=>by
  rcases this ts [] p h with h | h
  . exact h
  . simp at h
 intro ts
 induction ts with
 | nil=>grind
 | cons t ts U=>
  intro l p h;rcases U _ _ h with⟨x,D,e⟩ | d
  . exact .inl ⟨x,by simp[D],e⟩
  . rcases AfT d with O | J
    . exact .inl ⟨t,by simp,O⟩
    . exact .inr J
theorem QI {es:List B2} (J:∀ e∈es,DH e.W) {e:B2} (d:e∈FJ es):e∈es:=by
 unfold FJ SV at d;split at d
 . obtain⟨_,hp,rfl⟩:=List.mem_map.1 d;obtain⟨_,D,rfl⟩:=AlR hp;obtain⟨x,h,rfl⟩:=List.mem_map.1 D;simp only[oI];rw[sE (J x h)];exact h
 . cases d
theorem pC {g:Graph} (J:∀ e∈g.Edges,DH e.W) {t:A2} (d:t∈L1 g):∃ e∈g.Edges,t=⟨e.To,e.From,e.W⟩:=by
 unfold L1 SV at d;split at d
 . obtain⟨_,hp,rfl⟩:=List.mem_map.1 d;obtain⟨_,D,rfl⟩:=AlR hp;obtain⟨x,h,rfl⟩:=List.mem_map.1 D;refine⟨x,h,?_⟩;simp only[kvF];rw[sE (J x h)];rfl
 . cases d
def G4 (n:Int) (es:List B2):Prop:=∀ e∈es,rI n e∧wOk e
theorem DK {n:Int} {es:List B2} (h:G4 n es):∀ e∈es,DH e.W:=λe d=>by have:=(h e d).2; unfold wOk at this; unfold DH; omega
theorem RS {n:Int} {es:List B2} (h:G4 n es):G4 n (FJ es):=λe d=>h e (QI (DK h) d)
theorem ND {n:Int} {es:List B2} (h:G4 n es):G4 n (es.map AcE):=λ_ D=>by obtain⟨x,d,rfl⟩:=List.mem_map.1 D;exact⟨(h x d).1,by unfold wOk AcE; simp⟩
theorem UD {n:Int} {es:List B2} (h:G4 n es):G4 n (es.map fV):=λ_ D=>by obtain⟨x,d,rfl⟩:=List.mem_map.1 D;have:=h x d;exact⟨⟨this.1.2,this.1.1⟩,this.2⟩
theorem AaN {n:Int} {xs ys:List B2} (h:G4 n xs) (D:G4 n ys):G4 n (xs++ys):=λe J=>by
 rcases List.mem_append.1 J with d | d
 . exact h e d
 . exact D e d
theorem UE {g:Graph} (h:GO g=0):G4 g.N g.Edges:=λe d=>⟨(N8 h).2.2.2.1 e d,(N8 h).2.2.2.2 e d⟩
theorem iT {g:Graph} (J:0<=g.N∧g.N<=4096) (O:g.Edges.length<=65536) (h:G4 g.N g.Edges):GO g=0:=by unfold GO;rw[if_neg (by omega),if_neg (by omega),if_neg (λD=>D λe d=>(h e d).1),if_neg (λD=>D λe d=>(h e d).2)]
def noL (es:List B2):Prop:=∀ e∈es,e.From≠e.To
def UF (p:Plan) (g:Graph):Graph:=if p.Kind=5 then F9 (NB (P4 g)) else if p.Kind=3 then F9 (NB g) else if p.Kind=1 then F9 g else g
theorem QJ {g:Graph} (h:G4 g.N g.Edges):G4 (F9 g).N (F9 g).Edges∧(F9 g).Edges.length<=g.Edges.length∧(noL g.Edges->noL (F9 g).Edges):=by
 refine⟨RS (ND h),?_,λd _ J=>?_⟩
 . have:=QD (DK (ND h)); rwa [ZY] at this
 . have:=QI (DK (ND h)) J;obtain⟨x,D,rfl⟩:=List.mem_map.1 this;exact d x D
theorem TA {g:Graph} (h:G4 g.N g.Edges):G4 (NB g).N (NB g).Edges∧(NB g).Edges.length<=2*g.Edges.length∧(noL g.Edges->noL (NB g).Edges):=by
 have V:G4 g.N (mH g).Edges:=RS (UD h);have D:=AaN h V;refine⟨RS D,?_,λJ e W=>?_⟩
 . have d:=QD (DK D);have O:=QD (DK (UD h));rw[kC] at d;rw[ZY] at O;have:(mH g).Edges.length<=g.Edges.length:=O;show(FJ _).length<=_;omega
 . rcases List.mem_append.1 (QI (DK D) W) with d | d
   . exact J e d
   . obtain⟨x,U,rfl⟩:=List.mem_map.1 (QI (DK (UD h)) d);exact λe=>J x U e.symm
theorem TB {g:Graph} (h:G4 g.N g.Edges):G4 (P4 g).N (P4 g).Edges∧(P4 g).Edges.length<=g.Edges.length∧noL (P4 g).Edges:=by
 have d:G4 g.N (g.Edges.filter MJ):=λe D=>h e (List.mem_filter.1 D).1;refine⟨RS d,?_,λe D=>?_⟩
 . have J:=QD (DK d);have O:=wX MJ g.Edges;show(FJ _).length<=_;omega
 . have:=(List.mem_filter.1 (QI (DK d) D)).2;unfold MJ at this;grind
theorem vU {p:Plan} {g:Graph} (h:G4 g.N g.Edges):(UF p g).N=g.N∧G4 g.N (UF p g).Edges∧(UF p g).Edges.length<=2*g.Edges.length∧(p.Kind=5->noL (UF p g).Edges):=by
 unfold UF;have O:=TB h;have U:=TA h;have d:=TA O.1;have hp:=QJ h;have J:=QJ U.1;have D:=QJ d.1;by_cases h5:p.Kind=5
 . rw[if_pos h5];exact⟨rfl,D.1,by have:=D.2.1; have:=d.2.1; have:=O.2.1; omega,λ_=>D.2.2 (d.2.2 O.2.2)⟩
 . rw[if_neg h5];by_cases h3:p.Kind=3
   . rw[if_pos h3]; exact⟨rfl,J.1,by have:=J.2.1; have:=U.2.1; omega,λh=>absurd h h5⟩
   . rw[if_neg h3];by_cases h1:p.Kind=1
     . rw[if_pos h1]; exact⟨rfl,hp.1,by have:=hp.2.1; omega,λh=>absurd h h5⟩
     grind
theorem As2 {p:Plan} {g:Graph} (hp:C0 p=0) (J:g.N=p.N) (D:GO g=0) (U:g.Edges.length<=30000):AiI p g=(BT p.N p.N (L1 (UF p g)),0)∧GO (UF p g)=0:=by have V:=N8 D;have d:=vU (p:=p) (UE D);have O:GO (UF p g)=0:=iT (by omega) (by omega) (by rw[d.1]; exact d.2.1);refine⟨?_,O⟩;unfold AiI;rw[if_neg (λh=>h hp),if_neg (λh=>h J),if_neg (λh=>h D)];show uB (UF p g)=_;unfold uB;grind
theorem AvS {p:Plan} {g:Graph} {n:Nat} (hp:C0 p=0) (O:g.N=p.N) (W:p.N=n) (U:GO g=0) (hl:g.Edges.length<=30000):AcO p n (L1 (UF p g)):=by
 have d:=vU (p:=p) (UE U);have Z:=(As2 hp O U hl).2;have V:=qL Z;rw[d.1,O,W] at V;refine⟨V,λt D=>?_,λt D=>?_,λhk t D=>?_⟩
 . obtain⟨e,J,rfl⟩:=pC (DK d.2.1) D;exact(d.2.1 e J).2.1
 . grind[pC,DK]
 . obtain⟨e,J,rfl⟩:=pC (DK d.2.1) D;exact λh=>d.2.2.2 hk e J h.symm
theorem AuG (p:Plan) (s:State):VQ (KK p s).1:=by
 unfold KK
 repeat' split
 . exact(FF _ _).1
 . exact(FF _ _).1
 . simp[VQ]
theorem AuH {l:List Int} (h:∀ x∈l,DH x) (i:Nat):DH (BD l i):=by
 by_cases hl:i<l.length
 . have:BD l i=l[i]:=by unfold BD; simp[hl]
   grind
 . rw[OD (by omega)]; unfold DH; omega
theorem Whole.out {p:Plan} {s:State} (h:Whole p s) (round:Int):VecP (ZU p s round)∧(∀ y∈(ZU p s round).Items,DH y.Val)∧(ZU p s round).N=p.N:=by
 have D:=BO h.st.1;have e:((GR s:Nat):Int)=s.High - s.Low:=by unfold GR; have:=h.lo; have:=h.hi; omega
 have U:=h.lo; have V:=h.hi;unfold ZU;rw[h.sure];refine⟨?_,λy J=>?_,by simp only; omega⟩
 . have:=AfO (n:=GR s) (by omega) (iQ p s round);grind
 . have⟨i,hi,d⟩:=List.mem_filterMap.1 (show y∈K6 _ _ from J);have hi:=List.mem_range.1 hi;split at d
   . cases d;have O:=AuH h.va i;show DH (iQ p s round i).1;unfold iQ
     repeat' split
     . unfold DH; omega
     . unfold DH; omega
     . have W:0<=P2 p round (s.Low+i)∧P2 p round (s.Low+i)<=17592186044416:=by
        unfold P2 AnH;split
        . have:=ArE D.2.2.2.2.2 ((round - 1) / 2*p.N+(s.Low+i)); omega
        . omega
       unfold DH; omega
     . exact O
   . cases d
def AcP (p:Plan) (g:Graph) (limit:Int):Int:=if (AiI p g).2≠0 then (AiI p g).2 else if limit<0∨8192<limit then 3 else 0
theorem vW {p:Plan} {g:Graph} {Q:Int->Prop} (d:Q (AcP p g limit)):VC p g limit Q:=by unfold VC;unfold AcP at d;refine cD (BU (λh=>by rwa [if_pos h] at d) (λh=>?_));rw[if_neg (λO=>O h)] at d;exact A0 (λD=>by rwa [if_pos (.inl D)] at d) (λD=>A0 (λJ=>by rwa [if_pos (.inr J)] at d) (λJ=>by rwa [if_neg (by omega)] at d))
theorem AlS {p:Plan} {T:List A2} {k:Nat} (d:st≠0) (h:VX p T limit k=st):(OS p (RR p T k) k=0∧st=1)∨(OS p (RR p T k) k≠0∧(k:Int)=limit∧st=2)∨(OS p (RR p T k) k≠0∧(k:Int)≠limit∧(OT p T (RR p T k) ((k:Int)+1)).2≠0∧st=3):=by unfold VX at h;omega
structure MRun (p:Plan) (g:Graph) (limit:Int) (T:List A2) (n:Nat) (st:Int):Prop where
 rp:C0 p=0
 cn:Canon p.N p.N T
 vs:∀ t∈T,DH t.Val
 mt:AiI p g=(BT p.N p.N T,0)
 lm:0≤limit∧limit≤8192
 en:AiO p T limit n st
theorem MRun.check {p:Plan} {g:Graph} {T:List A2} {n:Nat} (R:MRun p g limit T n st):AcP p g limit=0:=by unfold AcP;rw[R.mt,if_neg (by simp),if_neg (by have:=R.lm; omega)]
theorem AuI {p:Plan} {T:List A2} {n m:Nat} {d:Int} (E:AiO p T limit n st) (E':AiO p T limit m d):n=m∧st=d:=by
 have D:¬n<m:=λh=>E.ne (E.at_▸E'.lt n h);have J:¬m<n:=λh=>E'.ne (E'.at_▸E.lt m h);have e:n=m:=by omega
 subst e;exact⟨rfl,E.at_.symm.trans E'.at_⟩
theorem MRun.whole {p:Plan} {g:Graph} {T:List A2} {n:Nat} (R:MRun p g limit T n st) {k:Nat} (h:k<=n):Whole p (RR p T k):=AaM R.rp R.lm λj _=>R.en.lt j (by omega)
theorem As3 {a:Graph} {Q:Graph->Prop} (hQ:∀ g:Graph,0<=g.N∧g.N<=23->g.Edges.length<=60->GO g=0->Q g):VA a Q:=by
 unfold VA;refine eP (λh=>by omega) (λ_ n h0 _=>?_);have d:∀ es:List B2,es.length<=60->G4 n es->Q ⟨n,es⟩:=λes J hg=>hQ _ ⟨h0,by simp only; omega⟩ J (iT (by simp only; omega) (by simp only; omega) hg);refine A6 (λ(s:List B2) i=>(s,i)) 0 (min a.Edges.length 60) (by omega) (λi s=>s.length<=i∧G4 n s) (by omega) (s0:=[]) ⟨by simp,by intro e J; simp at J⟩ (λi s next _ _ D O=>?_) (λs next D=>?_)
 . dsimp only;refine A0 (λ_=>A0 (λ_=>A0 (λ_=>AN (by omega) ?_) (λ_=>d s (by omega) D.2)) (λh=>by omega)) (λh=>by omega);refine eP (λh=>by omega) λ_ _ U Z=>eP (λh=>by omega) λ_ _ V v1=>AK (by simp; omega) (O _ ⟨by simp; omega,λe J=>?_⟩);rcases List.mem_append.1 J with h | h
   . exact D.2 e h
   . rw[List.mem_singleton.1 h];have:=ArQ (a.Edges[i]'(by omega)).W (m:=2147483647) (by omega);refine⟨⟨⟨U,Z⟩,V,v1⟩,?_⟩;unfold wOk;omega
 . dsimp only;exact A0 (λ_=>A0 (λ_=>by omega) (λ_=>d s (by omega) D.2)) (λ_=>d s (by omega) D.2)
theorem As4 {p:Plan} {g:Graph} {h:Int} (hp:C0 p=0) (D:g.N=p.N) (V:g.Edges.length<=60) (U:GO g=0) (d:0<=h∧h<=8192):∃ n st,MRun p g h (L1 (UF p g)) n st:=by obtain⟨N,J⟩:∃ N:Nat,p.N=N:=⟨p.N.toNat,by have:=(BO hp).2.1; omega⟩;have O:=AvS (n:=N) hp D J U (by omega);have⟨n,st,E⟩:=AuC p (L1 (UF p g)) d.1;exact⟨n,st,hp,by rw[J]; exact O.can,O.ini,(As2 hp D U (by omega)).1,d,E⟩
def ltE (a b:B2):Prop:=IY (a.From,a.To) (b.From,b.To)
theorem pD {es:List B2} (h:∀ e∈es,DH e.W):(FJ es).Pairwise ltE:=by unfold FJ;rw[lL (λ_ D=>by obtain⟨e,J,rfl⟩:=List.mem_map.1 D; exact h e J)];simp only;rw[gU];exact(bH 1 (es.map oI)).imp λ{a b} d=>d
theorem AiR {es:List B2} (h:∀ e∈es,DH e.W) (U:es.Pairwise ltE):FJ es=es:=by
 have V:es.map oI=(es.map e2t).map kvT:=by rw[AdV]; rfl
 have D:Srt (es.map e2t):=by unfold Srt;rw[gU];exact U.imp λ{a b} d=>d
 unfold FJ;rw[lL (λ_ O=>by obtain⟨e,J,rfl⟩:=List.mem_map.1 O; exact h e J)];simp only;rw[V,AtO D,AdV,AdV]
 conv=>rhs; rw[<-List.map_id es]
 refine wY λe J=>?_;simp only[Function.comp_apply,e2t,key,id_eq];rw[sE (h e J)];rfl
theorem AnS {g:Graph} (h:∀ e∈g.Edges,DH e.W) {t:A2}:t∈L1 g↔(⟨t.Col,t.Row,t.Val⟩:B2)∈FJ g.Edges:=by
 have D:∀ t∈g.Edges.map oI,DH t.2:=λt U=>by obtain⟨e,d,rfl⟩:=List.mem_map.1 U; exact h e d
 have J:∀ t∈g.Edges.map kvF,DH t.2:=λt U=>by obtain⟨e,d,rfl⟩:=List.mem_map.1 U; exact h e d
 unfold L1 FJ;rw[lL D,lL J];simp only;rw[gW,gW];constructor
 . rintro⟨_,hp,rfl⟩;obtain⟨q,O,rfl⟩:=List.mem_map.1 ((AkN g.Edges).mem_iff.2 hp);exact⟨q,O,rfl⟩
 . rintro⟨q,O,d⟩;refine⟨sw q,(AkN g.Edges).mem_iff.1 (AaT O),?_⟩;have⟨_,_,_⟩:=t;unfold mkE at d;simp only[B2.mk.injEq] at d;have⟨_,_,_⟩:=d;unfold mkT sw;grind
theorem AlT {r:Int}:∀ {l:List AP} {d:Option AP},(∀ w∈l,OZ w)->okO d->okO (l.foldl (λd w=>nP r d (some w)) d)
 | [],_,_,h=>h
 | w :: l,d,hl,h=>by
  rw[aN];refine AlT (l:=l) (λx D=>hl x (jY _ D)) ?_;have J:=hl w List.mem_cons_self;intro x D
  cases d with
  | none=>cases D; exact J
  | some a=>cases D; exact XC (h a rfl) J
theorem As5 {r:Int} {l m:List AP} (hp:l.Perm m):∀ {d:Option AP},(∀ w∈l,OZ w)->okO d->l.foldl (λd w=>nP r d (some w)) d=m.foldl (λd w=>nP r d (some w)) d:=by
 have D:∀ {w:AP},OZ w->okO (some w):=λ{w} Z x h=>by have:=QZ h; subst this; exact Z
 induction hp with
 | nil=>grind
 | cons w hp W=>
  intro d J V;rw[aN,aN];exact W (λx h=>J x (jY _ h)) (AlT (l:=[w]) (λx h=>by rw[kB] at h; subst h; exact J _ List.mem_cons_self) V)
 | swap a b l=>
  intro d J V;have O:=D (J b (by simp));have U:=D (J a (by simp));rw[aN,aN,aN,aN,oU V O U,oU V U O,AqU O U]
 | trans O U a2 a3=>
  grind
theorem AfU {r:Int} (d:r=1∨r=3∨r=4) {A B:Int->Option Int} {a x:Int} {j:Nat} (D:A j=some a) (U:B j=some x):∀ {n:Nat},j<n->∃ w,JM r n A B=some w∧eH w (L3 r a x)
 | n+1,hj=>by
  rw[Q8];unfold VU;by_cases e:j=n
  . subst e;rw[D,U];simp only
    cases O:JM r j A B with
    | none=>exact⟨_,rfl,by unfold eH; omega⟩
    | some u=>
      refine⟨_,rfl,?_⟩;unfold FE;rw[if_pos d];split
      . assumption
      . unfold eH; omega
  . have⟨w,O,J⟩:=AfU d D U (n:=n) (by omega);rw[O];split
    . refine⟨_,rfl,?_⟩;unfold FE;rw[if_pos d];split
      . exact J
      . rename_i h;unfold eH at *; omega
    . exact⟨w,rfl,J⟩
theorem AaO {A B:Int->Option Int} {a x:Int} {j:Nat} (d:A j=some a) (O:B j=some x) (J:a≠0) (D:x≠0):∀ {n:Nat},j<n->JM 2 n A B=some ⟨0,1⟩
 | n+1,hj=>by
  have e1:L3 2 a x=⟨0,1⟩:=by unfold L3; rw[if_pos rfl,if_pos ⟨J,D⟩]
  have U:∀ u:AP,FE 2 u ⟨0,1⟩=⟨0,1⟩:=λu=>by unfold FE; rw[if_neg (by omega),if_pos rfl,if_neg]; intro h; exact absurd h.2 (by decide)
  have V:∀ u:AP,FE 2 ⟨0,1⟩ u=⟨0,1⟩:=λu=>by unfold FE; rw[if_neg (by omega),if_pos rfl,if_neg]; intro h; exact absurd h.1 (by decide)
  rw[Q8];unfold VU;by_cases e:j=n
  . subst e;rw[d,O];simp only;rw[e1]
    cases JM 2 j A B with
    | none=>rfl
    | some u=>exact congrArg some (U u)
  . rw[AaO d O J D (n:=n) (by omega)];split
    . exact congrArg some (V _)
    . rfl
theorem pF {r:Int} {A B:Int->Option Int}:∀ {n:Nat} {w:AP},JM r n A B=some w->∃ j:Nat,j<n∧∃ a x,A j=some a∧B j=some x
 | n+1,w,h=>by
  rw[Q8] at h;unfold VU at h
  cases D:A n with
  | none=>rw[D] at h; have⟨j,d,e⟩:=pF h; exact⟨j,by omega,e⟩
  | some a=>
   cases J:B n with
   | none=>rw[D,J] at h; have⟨j,d,e⟩:=pF h; exact⟨j,by omega,e⟩
   | some x=>exact⟨n,by omega,a,x,D,J⟩
variable {p:Plan} {T:List A2} {n k:Nat} {G:GV}
theorem AnT {round:Int} {v:Nat} {y:Int} (D:Canon n n T) (h:IJ p T n round G v=some y):∃ u a,u<n∧(⟨v,u,a⟩:A2)∈T∧(HP p round u (G u)).2=true:=by
 unfold IJ at h;split at h
 . cases V:Z5 p T n round G v with
   | none=>rw[V] at h; cases h
   | some w=>
    unfold Z5 at V;have⟨j,O,a,_,J,d⟩:=pF V;rw[Z6] at d;split at d
    . rename_i U;exact⟨j,a,O,(XS D (by omega)).1 J,U.2⟩
    . cases d
 . cases h
structure SetP (p:Plan) (T:List A2) (n:Nat):Prop where
 pl:C0 p=0
 pn:p.N=n
 mat:AcO p n T
 kd:p.Kind=5
 one:∀ t∈T,t.Val=1
 sym:∀ v u:Nat,(⟨v,u,1⟩:A2)∈T→(⟨u,v,1⟩:A2)∈T
def iU (T:List A2) (v u:Nat):Prop:=(⟨v,u,1⟩:A2)∈T
theorem SetP.adj (h:SetP p T n) {v u:Nat} {a:Int} (d:(⟨v,u,a⟩:A2)∈T):iU T v u:=by have:=h.one _ d; simp only at this; subst this; exact d
theorem SetP.ne (h:SetP p T n) {v u:Nat} (d:iU T v u):v≠u:=λe=>h.mat.loop h.kd _ d (by simp[e])
theorem SetP.ask (h:SetP p T n) {v:Nat} (d:(G v).1=0):fH p (G v)=true:=by unfold fH;rw[if_neg (by have:=h.kd; omega),if_pos h.kd,d];rfl
theorem SetP.hear4 (h:SetP p T n) (hk:k % 2=0) (hG:vS p n G) {v u:Nat} (hv:(G v).1=0) (V:u<n) (hf:(G u).1=0) (ha:iU T v u):∃ y,IJ p T n ((k:Int)+1) G v=some y∧y<=P2 p ((k:Int)+1) u:=by
 have hr:CD p.Kind ((k:Int)+1)=4:=by have:=h.kd; unfold CD; omega
 have a3:¬((k:Int)+1) % 2=0:=by omega
 have ht:=XT h.pl h.pn (by have:=h.kd; omega) hG ((k:Int)+1);have hb:=AiQ h.pl ((k:Int)+1) u;have J:∀ j,HP p ((k:Int)+1) j (G j)=(P2 p ((k:Int)+1) j,(G j).1==0):=λj=>by unfold HP; rw[if_neg (by have:=h.kd; omega),if_pos h.kd,if_neg a3]
 have hB:G3 (K6 n λi=>HP p ((k:Int)+1) i (G i)) (u:Int)=some (P2 p ((k:Int)+1) u):=by rw[Z6,J,if_pos ⟨V,by simp[hf]⟩]
 have hA:G3 (NJ T v) (u:Int)=some 1:=(XS h.mat.can (by omega)).2 ha;have⟨w,Z,d⟩:=AfU (r:=4) (by omega) hA hB V
 have e:L3 4 1 (P2 p ((k:Int)+1) u)=SA (P2 p ((k:Int)+1) u):=by unfold L3; rw[if_neg (by omega),if_neg (by omega),if_pos (by omega),if_neg (by omega),if_neg (by omega),if_pos rfl]
 have⟨j,_,_,x,U,D,a2⟩:=vR (by omega) Z;rw[Z6,J] at D;split at D
 . have hx:=QZ D;simp only at hx;have hm:=(XS h.mat.can (by omega)).1 U;have O:=h.one _ hm;simp only at O;have a4:=AiQ h.pl ((k:Int)+1) j
   have W:w=SA x:=by rw[a2,O];unfold L3; rw[if_neg (by omega),if_neg (by omega),if_pos (by omega),if_neg (by omega),if_neg (by omega),if_pos rfl]
   rw[e,W,AkW (by omega) (by omega)] at d;refine⟨x,?_,d⟩;unfold IJ Z5;rw[if_pos (h.ask hv),hr,Z,W,Ap5];unfold nzW;rw[mM (by unfold DH; omega)];have hz:zS 4=4611686018427387904:=by unfold zS; rw[if_pos (by omega)]
   rw[hz,if_pos (by simp only; omega)]
 . cases D
theorem SetP.hear2 (h:SetP p T n) (hk:k % 2=1) {v u:Nat} (V:(G v).1=0) (J:u<n) (O:(G u).2.2=true) (W:iU T v u):IJ p T n ((k:Int)+1) G v=some 1:=by
 have d:((k:Int)+1) % 2=0:=by omega
 have hr:CD p.Kind ((k:Int)+1)=2:=by have:=h.kd; unfold CD; omega
 have Z:G3 (K6 n λi=>HP p ((k:Int)+1) i (G i)) (u:Int)=some 1:=by
  have D:HP p ((k:Int)+1) u (G u)=(1,true):=by unfold HP; rw[if_neg (by have:=h.kd; omega),if_pos h.kd,if_pos d,O]
  rw[Z6,D,if_pos ⟨J,rfl⟩]
 have U:G3 (NJ T v) (u:Int)=some 1:=(XS h.mat.can (by omega)).2 W;unfold IJ Z5;rw[if_pos (h.ask V),hr,AaO U Z (by omega) (by omega) J];rfl
structure SInv (T:List A2) (n k:Nat) (G:GV):Prop where
 dom:∀ v,v<n→(G v).1=0∨(G v).1=1∨(G v).1=2
 ind:∀ v u,v<n→u<n→iU T v u→(G v).1=1→(G u).1=1→False
 out:∀ v,v<n→(G v).1=2→∃ u,u<n∧iU T v u∧(G u).1=1
 fre:∀ v u,v<n→u<n→iU T v u→(G v).1=0→(G u).1=1→k % 2=1∧(G u).2.2=true
 on:∀ v,v<n→k % 2=1→(G v).2.2=true→(G v).1=1
def aK (p:Plan) (T:List A2) (n k:Nat) (G:GV):GV:=LA p ((k:Int)+1) G (IJ p T n ((k:Int)+1) G)
theorem As6 (h:p.Kind=5) {v:Nat} (d:(G v).1≠0):(aK p T n k G v).1=(G v).1∧(aK p T n k G v).2.2=false:=by unfold aK LA xT;grind
theorem AiS (h:p.Kind=5) (hk:k % 2=0) {v:Nat} (D:(G v).1=0) :
  ((aK p T n k G v).1=1∧(aK p T n k G v).2.2=true∧∀ y,IJ p T n ((k:Int)+1) G v=some y->P2 p ((k:Int)+1) v<y) ∨
  ((aK p T n k G v).1=0∧(aK p T n k G v).2.2=false∧∃ y,IJ p T n ((k:Int)+1) G v=some y∧y<=P2 p ((k:Int)+1) v):=by
 have d:¬((k:Int)+1) % 2=0:=by omega
 unfold aK LA xT;rw[if_neg (by omega),if_neg (by omega),if_neg (by omega),if_neg (λh=>h D),if_neg d]
 cases J:IJ p T n ((k:Int)+1) G v with
 | none=>left; simp[MU]
 | some y=>
  by_cases hl:P2 p ((k:Int)+1) v<y
  . left; simp[MU,hl]
  . right; simp[MU,hl,D]; omega
theorem AlU (h:p.Kind=5) (hk:k % 2=1) {v:Nat} (D:(G v).1=0) :
  ((aK p T n k G v).1=2∧∃ y,IJ p T n ((k:Int)+1) G v=some y)∨((aK p T n k G v).1=0∧IJ p T n ((k:Int)+1) G v=none):=by
 have d:((k:Int)+1) % 2=0:=by omega
 unfold aK LA xT;rw[if_neg (by omega),if_neg (by omega),if_neg (by omega),if_neg (λh=>h D),if_pos d]
 cases J:IJ p T n ((k:Int)+1) G v with
 | none=>right; simp[MU,D]
 | some y=>left; simp[MU]
theorem SInv.begin (h:p.Kind=5):SInv T n 0 (gV0 p):=by
 have e:∀ v,(gV0 p v).1=0:=λv=>by unfold gV0 Z3; grind
 exact⟨λv _=>.inl (e v),λv u _ _ _ d=>by rw[e] at d; omega,λv _ d=>by rw[e] at d; omega,λv u _ _ _ _ d=>by rw[e] at d; omega,λv _ d=>by omega⟩
theorem SInv.step (h:SetP p T n) (hG:vS p n G) (I:SInv T n k G):SInv T n (k+1) (aK p T n k G):=by
 rcases Av9 k with hk | hk
 . -- a draw
   have od:=λ{v:Nat} (d:(G v).1=0)=>AiS (T:=T) (n:=n) h.kd hk d;have U:=λ{v:Nat} (d:(G v).1≠0)=>As6 (T:=T) (n:=n) (k:=k) h.kd d
   have a4:∀ v u,v<n->u<n->iU T v u->(G v).1=0->(aK p T n k G v).1=1->(aK p T n k G u).1=1->False:=λv u d J O D V W=>by
     by_cases hu0:(G u).1=0
     . have⟨y,hy,_⟩:=h.hear4 hk hG D J hu0 O;have⟨z,hz,_⟩:=h.hear4 hk hG hu0 d D (h.sym _ _ O);rcases od D with⟨_,_,e1⟩ | ⟨e1,_⟩
       . rcases od hu0 with⟨_,_,e2⟩ | ⟨e2,_⟩
         . have:=e1 y hy; have:=e2 z hz; omega
         . omega
       . omega
     . have:=(U hu0).1;have:=(I.fre v u d J O D (by omega)).1;omega
   refine⟨λv d=>?_,λv u d J O V W=>?_,λv d W=>?_,λv u d J O D V=>?_,λv d _ Z=>?_⟩
   . by_cases D:(G v).1=0
     . rcases od D with e | e <;> omega
     . have:=(U D).1; have:=I.dom v d; omega
   . by_cases D:(G v).1=0
     . exact a4 v u d J O D V W
     . by_cases hu0:(G u).1=0
       . exact a4 u v J d (h.sym _ _ O) hu0 W V
       . exact I.ind v u d J O (by have:=(U D).1; omega) (by have:=(U hu0).1; omega)
   . have D:(G v).1≠0:=λD=>by rcases od D with e | e <;> omega
     have⟨u,J,O,V⟩:=I.out v d (by have:=(U D).1; omega);exact⟨u,J,O,by rw[(U (v:=u) (by omega)).1]; exact V⟩
   . refine⟨by omega,?_⟩;have a2:(G v).1=0:=AgZ λhn=>by have:=(U hn).1; omega
     by_cases hu0:(G u).1=0
     . rcases od hu0 with e | e
       . exact e.2.1
       . omega
     . have:=(U hu0).1;have:=(I.fre v u d J O a2 (by omega)).1;omega
   . by_cases D:(G v).1=0
     . rcases od D with e | e
       . exact e.1
       . rw[e.2.1] at Z; cases Z
     . rw[(U D).2] at Z; cases Z
 . -- who is beside them is out
   have ev:=λ{v:Nat} (d:(G v).1=0)=>AlU (T:=T) (n:=n) h.kd hk d;have U:=λ{v:Nat} (d:(G v).1≠0)=>As6 (T:=T) (n:=n) (k:=k) h.kd d
   have one:∀ v,(aK p T n k G v).1=1->(G v).1=1:=λv V=>by
     by_cases D:(G v).1=0
     . rcases ev D with e | e <;> omega
     . have:=(U D).1; omega
   refine⟨λv d=>?_,λv u d J O V W=>I.ind v u d J O (one v V) (one u W),λv d W=>?_,λv u d J O D V=>?_,λv d _=>by omega⟩
   . by_cases D:(G v).1=0
     . rcases ev D with e | e <;> omega
     . have:=(U D).1; have:=I.dom v d; omega
   . by_cases D:(G v).1=0
     . rcases ev D with⟨_,y,hy⟩ | e
       . have⟨u,a,J,hm,Z⟩:=AnT h.mat.can hy
         have a3:(G u).2.2=true:=by unfold HP at Z; rw[if_neg (by have:=h.kd; omega),if_pos h.kd,if_pos (by omega)] at Z; exact Z
         have V:=I.on u J hk a3;exact⟨u,J,h.adj hm,by rw[(U (v:=u) (by omega)).1]; exact V⟩
       . omega
     . have⟨u,J,O,V⟩:=I.out v d (by have:=(U D).1; omega);exact⟨u,J,O,by rw[(U (v:=u) (by omega)).1]; exact V⟩
   . exfalso;have a2:(G v).1=0:=AgZ λhn=>by have:=(U hn).1; omega
     have a3:=(I.fre v u d J O a2 (one u V)).2;have:=h.hear2 hk a2 J a3 O;rcases ev a2 with e | ⟨_,e⟩
     . omega
     . rw[this] at e; cases e
theorem SInv.GS (h:SetP p T n):∀ k,SInv T n k (GS p T n k)
 | 0=>SInv.begin h.kd
 | k+1=>SInv.step h (cE h.pl h.pn h.mat (by have:=h.kd; omega) k) (SInv.GS h k)
theorem AlV {f g:Nat->Bool} (h:∀ i,i<n->g i=true->f i=true) {a b:Nat} (O:a<n) (V:b<n) (d:a≠b) (W:f a=true) (U:f b=true) (J:g a=false) (gb:g b=false):E6 n g+2<=E6 n f:=by
 have h1:=eQ (n:=n) (f:=f) (g:=λi=>f i && i != a) (λi _ hi=>(Bool.and_eq_true_iff.1 hi).1) O W (by simp)
 have h2:=eQ (n:=n) (f:=λi=>f i && i != a) (g:=g) (λi hi D=>by
  have Z:=h i hi D;have:i≠a:=λe=>by subst e; rw[J] at D; cases D
  simp[Z,this]) V (by simp[U]; exact λe=>d e.symm) gb
 omega
theorem AaP (h:SetP p T n) (hk:k % 2=0) (a2:k<=15000) (hG:vS p n G) {v:Nat} (hv:v<n) (hf:(G v).1=0) (D:∀ u,u<n->(G u).1=0->iU T v u->P2 p ((k:Int)+1) v<=P2 p ((k:Int)+1) u):(aK p T n k G v).1=1:=by
 rcases AiS (T:=T) (n:=n) h.kd hk hf with e | ⟨_,_,y,hy,a3⟩
 . exact e.1
 . exfalso;have V:CD p.Kind ((k:Int)+1)=4:=by have:=h.kd; unfold CD; omega
   have⟨u,_,Z,W,U,_,J,_⟩:=mN h.mat.can h.mat.pos (.inr V) (XT h.pl h.pn (by have:=h.kd; omega) hG _) hy;have O:HP p ((k:Int)+1) u (G u)=(P2 p ((k:Int)+1) u,(G u).1==0):=by unfold HP; rw[if_neg (by have:=h.kd; omega),if_pos h.kd,if_neg (by omega)]
   have J:=J V;rw[O] at U J;have d:=h.adj W;have h1:=D u Z (by simpa using U) d;have a4:=h.ne d;have a5:=h.pn;have:=AlO h.pl (round:=(k:Int)+1) (u:=(v:Int)) (v:=(u:Int)) (by omega) (by omega) (by omega) (by omega);simp only at J;omega
theorem As7 (h:SetP p T n) (hk:k % 2=0) (a3:k<=15000) (hG:vS p n G) (c0:vS p n (aK p T n k G)) (hz:E6 n (EQ (aK p T n (k+1) (aK p T n k G)))≠0):E6 n (EQ (aK p T n (k+1) (aK p T n k G)))+2<=E6 n (EQ G):=by
 have U:∀ v,EQ (aK p T n (k+1) (aK p T n k G)) v=true->EQ (aK p T n k G) v=true:=λv=>eS h.kd v;have D:∀ v,EQ (aK p T n k G) v=true->EQ G v=true:=λv=>eS h.kd v;have d:∀ {G:GV} {v:Nat},EQ G v=true↔(G v).1=0:=λ{G v}=>by unfold EQ; simp
 have nf:∀ v,(aK p T n k G v).1=1->EQ (aK p T n (k+1) (aK p T n k G)) v=false:=λv _=>by
   cases V:EQ (aK p T n (k+1) (aK p T n k G)) v with
   | false=>rfl
   | true=>have:=d.1 (U v V); omega
 have⟨w,hw,a5⟩:=XR hz;have a4:=d.1 (D w (U w a5));have⟨v,Z,W,a6⟩:=AcM (P:=λv=>(G v).1=0) (μ:=λv=>P2 p ((k:Int)+1) v) n ⟨w,hw,a4⟩;have hj:=AaP h hk a3 hG Z W λu O J _=>a6 u O J
 have a9:(aK p T n k G v).2.2=true:=by
   rcases AiS (T:=T) (n:=n) h.kd hk W with e | e
   . exact e.2.1
   . omega
 by_cases hn:∃ u,u<n∧(G u).1=0∧iU T v u
 . have⟨u,O,J,ha⟩:=hn;refine AlV (λi _ hi=>D i (U i hi)) Z O (h.ne ha) (d.2 W) (d.2 J) (nf v hj) ?_
   cases V:EQ (aK p T n (k+1) (aK p T n k G)) u with
   | false=>rfl
   | true=>
     exfalso;have a2:=d.1 (U u V);have:=h.hear2 (k:=k+1) (G:=aK p T n k G) (by omega) a2 Z a9 (h.sym _ _ ha);rcases AlU (T:=T) (n:=n) (k:=k+1) h.kd (by omega) a2 with e | ⟨_,e⟩
     . have:=d.1 V; omega
     . rw[this] at e; cases e
 . have b0:w≠v:=λe=>by subst e; have:=d.1 (U w a5); omega
   have⟨u,O,⟨J,huv⟩,hm2⟩:=AcM (P:=λu=>(G u).1=0∧u≠v) (μ:=λv=>P2 p ((k:Int)+1) v) n ⟨w,hw,a4,b0⟩;have a8:=AaP h hk a3 hG O J λx hx b1 a7=>hm2 x hx ⟨b1,λe=>hn ⟨u,O,J,by subst e; exact h.sym _ _ a7⟩⟩;exact AlV (λi _ hi=>D i (U i hi)) Z O (λe=>huv e.symm) (d.2 W) (d.2 J) (nf v hj) (nf u a8)
theorem AfV (h:SetP p T n) {m:Nat} (J:m<=15000) (d:∀ k,k<m->E6 n (EQ (GS p T n k))≠0):∀ j,2*j<m->E6 n (EQ (GS p T n (2*j)))+2*j<=n
 | 0,_=>by have:=Z4 n (EQ (GS p T n (2*0))); omega
 | j+1,hj=>by
  have O:=AfV h J d j (by omega);have D:p.Kind≠4:=by have:=h.kd; omega
  have:=As7 (k:=2*j) (G:=GS p T n (2*j)) h (by omega) (by omega) (cE h.pl h.pn h.mat D _) (cE h.pl h.pn h.mat D (2*j+1)) (d (2*(j+1)) hj);have e:GS p T n (2*(j+1))=aK p T n (2*j+1) (aK p T n (2*j) (GS p T n (2*j))):=rfl;rw[e]; omega
def WM (f:Int->Int) (e:B2):Int->Int:=λv=>if v=e.From∨v=e.To then min (f e.From) (f e.To) else f v
def aD (es:List B2) (f:Int->Int):Int->Int:=es.foldl WM f
def OU (es:List B2):Nat->Int->Int
 | 0=>λv=>v
 | k+1=>aD es (OU es k)
variable {es:List B2} {f:Int→Int} {x v n:Int}
theorem AcQ (e:B2):WM f e v<=f v:=by unfold WM;grind
theorem AcR:∀ {es:List B2} {f:Int->Int},aD es f v<=f v
 | [],_=>sV _
 | e :: es,f=>AdZ (AcR (es:=es) (f:=WM f e)) (AcQ e)
theorem AfW:∀ {es:List B2} {f:Int->Int} {e:B2},e∈es->aD es f e.From<=f e.To∧aD es f e.To<=f e.From
 | e0 :: es,f,e,h=>by
  rcases List.mem_cons.1 h with rfl | h
  . have d:=AcR (v:=e.From) (es:=es) (f:=WM f e);have D:=AcR (v:=e.To) (es:=es) (f:=WM f e);have J:WM f e e.From=min (f e.From) (f e.To):=if_pos (.inl rfl);have O:WM f e e.To=min (f e.From) (f e.To):=if_pos (.inr rfl);show aD es (WM f e) e.From<=_∧aD es (WM f e) e.To<=_;omega
  . have d:=AfW (f:=WM f e0) h;have D:=AcQ (f:=f) (v:=e.To) e0;have U:=AcQ (f:=f) (v:=e.From) e0;show aD es (WM f e0) e.From<=_∧aD es (WM f e0) e.To<=_;omega
theorem iV:∀ {es:List B2} {f:Int->Int},(∀ e∈es,f e.From<=x↔f e.To<=x)->∀ v,aD es f v<=x↔f v<=x
 | [],_,_,_=>Iff.rfl
 | e :: es,f,h,v=>by
  have h0:=h e (by simp);have d:∀ v,WM f e v<=x↔f v<=x:=λv=>by unfold WM; grind
  rw[show aD (e :: es) f v=aD es (WM f e) v from rfl,iV (λJ D=>by rw[d,d]; exact h J (by simp[D])) v,d]
theorem As8:∀ {es:List B2} {f:Int->Int},(∀ v,0<=v->0<=f v)->(∀ e∈es,0<=e.From∧0<=e.To)->∀ v,0<=v->0<=aD es f v
 | [],_,h,_,v,d=>h v d
 | e :: es,f,h,he,v,d=>As8 (es:=es) (f:=WM f e) (λv d=>by have:=he e (by simp); have:=h v d; have:=h e.From (by omega); have:=h e.To (by omega);unfold WM; split <;> omega) (λD J=>he D (by simp[J])) v d
theorem As9 (d:∀ e∈es,0<=e.From∧0<=e.To):∀ k v,0<=v->0<=OU es k v
 | 0,_,hv=>hv
 | k+1,v,hv=>As8 (As9 d k) d v hv
theorem AlW {n:Nat} (d:∀ e∈es,rI n e) {e:B2} (W:e∈es):OU es n e.From=OU es n e.To:=by
 have a3:=As9 (λe h=>⟨(d e h).1.1,(d e h).2.1⟩) (es:=es);refine AgZ λ_=>?_;obtain⟨x,hx⟩:∃ x,x=min (OU es n e.From) (OU es n e.To):=⟨_,rfl⟩;have hF:=a3 n e.From (d e W).1.1;have hT:=a3 n e.To (d e W).2.1;have a6:0<=x:=by omega
 have a4:∀ j k,(∀ e∈es,OU es k e.From<=x↔OU es k e.To<=x)->∀ e∈es,OU es (k+j) e.From<=x↔OU es (k+j) e.To<=x:=λj=>by
  induction j with
  | zero=>intro k h; exact h
  | succ j Z=>
   intro k h e d;show aD es (OU es (k+j)) e.From<=x↔aD es (OU es (k+j)) e.To<=x;rw[iV (Z k h),iV (Z k h)];exact Z k h e d
 have a5:∀ k,k<=n->k+1<=E6 n λv=>decide (OU es k (v:Int)<=x):=λk=>by
  induction k with
  | zero=>
   intro _;have h0:0<n:=by have:=(d e W).1; omega
   have:=eQ (n:=n) (f:=λv=>decide (OU es 0 (v:Int)<=x)) (g:=λ_=>false) (λ_ _ h=>by cases h) h0 (decide_eq_true (by show((0:Nat):Int)<=x; omega)) rfl;omega
  | succ k Z=>
   intro hk;by_cases hc:∀ e∈es,OU es k e.From<=x↔OU es k e.To<=x
   . have:=a4 (n - k) k hc e W;rw[show k+(n - k)=n by omega] at this;omega
   . have⟨O,U⟩:=Classical.not_forall.1 hc;have⟨a2,U⟩:=Classical.not_imp.1 U;have hs:=AfW (f:=OU es k) a2;have V:=d O a2
     have key:∃ w:Int,0<=w∧w<n∧¬OU es k w<=x∧OU es (k+1) w<=x:=by
      by_cases D:OU es k O.From<=x
      . exact⟨O.To,V.2.1,V.2.2,λJ=>U ⟨λ_=>J,λ_=>D⟩,AdZ hs.2 D⟩
      . by_cases J:OU es k O.To<=x
        . exact⟨O.From,V.1.1,V.1.2,D,AdZ hs.1 J⟩
        . exact absurd ⟨λh=>absurd h D,λh=>absurd h J⟩ U
     have⟨w,_,_,D,J⟩:=key;have ew:((w.toNat:Nat):Int)=w:=by omega
     have:=eQ (n:=n) (f:=λv=>decide (OU es (k+1) (v:Int)<=x)) (g:=λv=>decide (OU es k (v:Int)<=x)) (λ_ _ h=>decide_eq_true (AdZ AcR (of_decide_eq_true h))) (v:=w.toNat) (by omega) (decide_eq_true (by rw[ew]; exact J)) (decide_eq_false (by rw[ew]; exact D));have:=Z (by omega);omega
 have D:=a5 n (Y3 _);have J:=Z4 n λv=>decide (OU es n (v:Int)<=x);omega
end
theorem AaQ (r:Int) (k:GN):∀ {ts:List (GN×Int)} {o:Option AP},((∃ t∈ts,t.1=k)∨o.isSome=true)->(ts.foldl (λo t=>if k=t.1 then some (match o with | some w=>FE r w (US t.2) | none=>US t.2) else o) o).isSome=true
 | [],o,h=>by
  rcases h with⟨t,ht,_⟩ | h
  . cases ht
  . exact h
 | t :: ts,o,h=>by
  simp only[aN];refine AaQ r k ?_;rcases h with⟨t',ht,e⟩ | h
  . rcases List.mem_cons.1 ht with rfl | ht
    . right; rw[if_pos e.symm]; rfl
    . exact .inl ⟨t',ht,e⟩
  . right; split
    . rfl
    . exact h
theorem AnU {es:List B2} (U:∀ e∈es,DH e.W) {e:B2} (d:e∈es):∃ D∈FJ es,D.From=e.From∧D.To=e.To:=by
 have h:(BA (e.From,e.To) (SC 1 (es.map oI))).isSome=true:=by rw[AhU];exact AaQ 1 _ (.inl ⟨oI e,AaT d,rfl⟩)
 have⟨_,V⟩:=Option.isSome_iff_exists.1 h;have J:=(JV (XE (bH 1 _))).1 V;unfold FJ;rw[lL (λ_ O=>by obtain⟨e,d,rfl⟩:=List.mem_map.1 O; exact U e d)];exact⟨_,AaT J,rfl,rfl⟩
def Ks (es:List B2) (a b:Int):Prop:=∃ e∈es,e.From=a∧e.To=b
variable {g:Graph} {es xs ys:List B2} {a b:Int}
theorem mQ (D:∀ e∈es,DH e.W):Ks (FJ es) a b↔Ks es a b:=by
 constructor
 . rintro⟨e,d,h⟩; exact⟨e,QI D d,h⟩
 . rintro⟨e,d,U,V⟩;have⟨O,Z,J,e2⟩:=AnU D d;exact⟨O,Z,J.trans U,e2.trans V⟩
theorem AwU:Ks (es.map AcE) a b↔Ks es a b:=by
 constructor
 . rintro⟨e,d,h⟩;obtain⟨x,D,rfl⟩:=List.mem_map.1 d;exact⟨x,D,h⟩
 . rintro⟨e,d,h⟩;exact⟨AcE e,AaT d,h⟩
theorem AuJ:Ks (es.map fV) a b↔Ks es b a:=by
 constructor
 . rintro⟨e,d,h⟩;obtain⟨x,D,rfl⟩:=List.mem_map.1 d;exact⟨x,D,h.2,h.1⟩
 . rintro⟨e,d,h⟩;exact⟨fV e,AaT d,h.2,h.1⟩
theorem AwV:Ks (xs++ys) a b↔Ks xs a b∨Ks ys a b:=by
 unfold Ks;constructor
 . rintro⟨e,d,h⟩;rcases List.mem_append.1 d with D | D
   . exact .inl ⟨e,D,h⟩
   . exact .inr ⟨e,D,h⟩
 . rintro(⟨e,d,h⟩ | ⟨e,d,h⟩)
   . exact⟨e,List.mem_append.2 (.inl d),h⟩
   . exact⟨e,List.mem_append.2 (.inr d),h⟩
theorem mR (h:G4 g.N g.Edges):Ks (F9 g).Edges a b↔Ks g.Edges a b:=(mQ (DK (ND h))).trans AwU
theorem sL (h:G4 g.N g.Edges):Ks (NB g).Edges a b↔Ks g.Edges a b∨Ks g.Edges b a:=by have d:G4 g.N (mH g).Edges:=RS (UD h);refine(mQ (DK (AaN h d))).trans (AwV.trans (or_congr Iff.rfl ?_));exact(mQ (DK (UD h))).trans AuJ
theorem VZ (h:G4 g.N g.Edges):Ks (P4 g).Edges a b↔Ks g.Edges a b∧a≠b:=by
 have D:G4 g.N (g.Edges.filter MJ):=λe d=>h e (List.mem_filter.1 d).1;refine(mQ (DK D)).trans ?_;unfold Ks MJ;constructor
 . rintro⟨e,d,rfl,rfl⟩;have⟨J,O⟩:=List.mem_filter.1 d;exact⟨⟨e,J,rfl,rfl⟩,by simpa using O⟩
 . rintro⟨⟨e,d,rfl,rfl⟩,hne⟩;exact⟨e,List.mem_filter.2 ⟨d,by simpa using hne⟩,rfl,rfl⟩
theorem AlX:∀ {xs ys:List B2},xs.Pairwise ltE->ys.Pairwise ltE->(∀ e,e∈xs↔e∈ys)->xs=ys
 | [],[],_,_,_=>rfl
 | [],y :: ys,_,_,h=>absurd ((h y).2 (by simp)) (by simp)
 | x :: xs,[],_,_,h=>absurd ((h x).1 (by simp)) (by simp)
 | x :: xs,y :: ys,hx,hy,h=>by
  have⟨U,W⟩:=List.pairwise_cons.1 hx;have⟨V,Z⟩:=List.pairwise_cons.1 hy;have J:∀ e:B2,¬ltE e e:=λe D=>EZ _ D
  have O:x=y:=by
    rcases List.mem_cons.1 ((h x).1 (by simp)) with e | e
    . exact e
    . rcases List.mem_cons.1 ((h y).2 (by simp)) with d | d
      . exact d.symm
      . exact absurd (XD (U y d) (V x e)) (J x)
  subst O;refine congrArg _ (AlX W Z λe=>⟨λD=>?_,λD=>?_⟩)
  . rcases List.mem_cons.1 ((h e).1 (by simp[D])) with d | d
    . subst d; exact absurd (U e D) (J e)
    . exact d
  . rcases List.mem_cons.1 ((h e).2 (by simp[D])) with d | d
    . subst d; exact absurd (V e D) (J e)
    . exact d
theorem pG (h:G4 g.N g.Edges) {e:B2}:e∈(F9 g).Edges↔Ks g.Edges e.From e.To∧e.W=1:=by
 have one:∀ e∈(F9 g).Edges,e.W=1:=λe d=>by obtain⟨x,_,rfl⟩:=List.mem_map.1 (QI (DK (ND h)) d); rfl
 constructor
 . intro d; exact⟨(mR h).1 ⟨e,d,rfl,rfl⟩,one e d⟩
 . rintro⟨hk,U⟩;have⟨x,J,D,O⟩:=(mR h).2 hk;have V:=one x J;have⟨_,_,_⟩:=x;have⟨_,_,_⟩:=e;simp only at D O V U;subst D O V U;exact J
theorem AfX {d:Graph} (h:G4 g.N g.Edges) (O:G4 d.N d.Edges) (U:g.N=d.N) (hk:∀ a b,Ks g.Edges a b↔Ks d.Edges a b):F9 g=F9 d:=by unfold F9;rw[U];refine congrArg (Graph.mk d.N) (AlX (pD (DK (ND h))) (pD (DK (ND O))) λe=>?_);have D:=pG h (e:=e);have J:=pG O (e:=e);unfold F9 at D J;simp only at D J;rw[D,J,hk]
theorem AcS {p:Plan} (hk:p.Kind=5):UF p g=F9 (NB (P4 g)):=if_pos hk
theorem AnV {p:Plan} (hk:p.Kind=5) (h:G4 g.N g.Edges):UF p (F9 g)=UF p g:=by have hp:=(QJ h).1;rw[AcS hk,AcS hk];have D:=(TB h).1; have d:=(TB hp).1;refine AfX (TA d).1 (TA D).1 rfl λ_ _=>?_;rw[sL d,sL D,VZ hp,VZ h,VZ hp,VZ h,mR h,mR h]
theorem AyJ {p:Plan} {n:Nat} (hp:C0 p=0) (hk:p.Kind=5) (hn:g.N=p.N) (U:p.N=n) (V:GO g=0) (hl:g.Edges.length<=30000) :
  SetP p (L1 (UF p g)) n∧∀ v u:Nat,iU (L1 (UF p g)) v u↔(Ks g.Edges v u∨Ks g.Edges u v)∧v≠u:=by
 have h:=UE V;have W:=(TB h).1;have Z:=(TA W).1;have a3:=vU (p:=p) h;have a2:=(QJ Z).1
 have O:∀ t:A2,t∈L1 (UF p g)↔Ks (NB (P4 g)).Edges t.Col t.Row∧t.Val=1:=λt=>by rw[AnS (DK a3.2.1),AcS hk];have e:FJ (F9 (NB (P4 g))).Edges=(F9 (NB (P4 g))).Edges:=AiR (DK a2) (pD (DK (ND Z)));rw[e,pG Z]
 have D:∀ v u:Nat,iU (L1 (UF p g)) v u↔(Ks g.Edges v u∨Ks g.Edges u v)∧v≠u:=λv u=>by
  unfold iU;rw[O,sL W,VZ h,VZ h];simp only[and_true];have e1:((u:Int)≠v)↔v≠u:=by omega
  have e2:((v:Int)≠u)↔v≠u:=by omega
  rw[e1,e2];constructor
  . rintro(⟨d,J⟩ | ⟨d,J⟩)
    . exact⟨.inr d,J⟩
    . exact⟨.inl d,J⟩
  . rintro⟨d | d,J⟩
    . exact .inr ⟨d,J⟩
    . exact .inl ⟨d,J⟩
 refine⟨⟨hp,U,AvS hp hn U V hl,hk,λt ht=>((O t).1 ht).2,λv u a4=>?_⟩,D⟩;have:=(D v u).1 a4;exact(D u v).2 ⟨this.1.symm,λe=>this.2 e.symm⟩
variable {p:Plan} {T:List A2} {n m:Nat} {se:Int}
theorem AwW (h:SetP p T n) (E:AiO p T (2*(n:Int)) m se):(∀ k,k<m->E6 n (EQ (GS p T n k))≠0)∧(se=1->E6 n (EQ (GS p T n m))=0):=by
 have D:∀ k,k<=m->OS p (RR p T k) k=((E6 n (EQ (GS p T n k)):Nat):Int):=λk hk=>by rw[AlQ h.pl h.pn λj _=>E.lt j (by omega),if_neg (by have:=h.kd; omega)];exact congrArg _ (QH λ_ _=>if_pos h.kd)
 refine⟨λk hk _=>?_,λJ=>?_⟩
 . have:=(VY (E.lt k hk)).1;rw[D k (by omega)] at this;omega
 . have d:=E.at_;rw[J] at d;unfold VX at d;by_cases hL:OS p (RR p T m) m=0
   . rw[D m (Y3 _)] at hL; omega
   . rw[if_neg hL] at d;split at d
     . cases d
     . split at d <;> cases d
structure Az5 (T:List A2) (n m:Nat) (S:Nat→Bool):Prop where
 ind:∀ v u,v<n→u<n→iU T v u→S v=true→S u=true→False
 out:∀ v,v<n→S v=false→∃ u,u<n∧iU T v u∧S u=true
def rM (G:GV) (v:Nat):Bool:=(G v).1==1
theorem AuK (h:SetP p T n) (hn:n<=1000) (E:AiO p T (2*(n:Int)) m se):se=1∧Az5 T n m (rM (GS p T n m))∧m<=n+1:=by
 have⟨D,hz⟩:=AwW h E
 have Z:se=1:=by
   have hm:mP p n=2*(n:Int):=by unfold mP; rw[if_neg (by have:=h.kd; omega),if_pos h.kd]
   rcases AnR h.pl h.pn hn h.mat (hm▸E) with e | e
   . exact e
   . have:=h.kd; omega
 have W:=SInv.GS h m
 have hf:∀ v,v<n->(GS p T n m v).1≠0:=λv d V=>by have:=eQ (n:=n) (f:=EQ (GS p T n m)) (g:=λ_=>false) (λ_ _ h=>by cases h) d (by unfold EQ; simp[V]) rfl;have:=hz Z;omega
 have a3:=E.le;refine⟨Z,⟨λv u d J U O h3=>W.ind v u d J U (by simpa[rM] using O) (by simpa[rM] using h3),λv d O=>?_⟩,?_⟩
 . have h3:(GS p T n m v).1≠1:=by simpa[rM] using O
   have:=W.dom v d;have:=hf v d;have⟨u,J,U,a2⟩:=W.out v d (by omega);exact⟨u,J,U,by simp[rM,a2]⟩
 . by_cases V:m=0
   . omega
   . have:=AfV h (m:=m) (by omega) D ((m - 1) / 2) (by omega);have:=D (2*((m - 1) / 2)) (by omega);omega
structure Abs where
 room:Nat
 row:List Nat
 fs:List AO
 taken:Nat
variable {b:BR} {s:Abs}
theorem AnW {xs:List Int} {i:Nat} {Q:List Int->Prop} (hi:i<xs.length) (D:xs.length<=64) (h:Q (xs.eraseIdx i)):FA xs (i:Int) (A5 ((i:Int)+1)) Q:=by
 unfold FA;rw[A7 (by omega) (by omega)];have d:((i:Int)+1).toNat=i+1:=by omega
 refine⟨by omega,by omega,by omega,AZ (λ_=>by omega) (λ_=>⟨by omega,by omega,by omega,⟨by omega,by omega,by omega,?_⟩⟩)⟩;grind
theorem AwX {xs:List Int} {Q:Int->Prop} (Z:xs≠[]) (hl:xs.length<=1000000) (hQ:∀ m,m∈xs->(∀ x∈xs,m<=x)->Q m):JD xs Q:=by
 unfold JD;have D:0<xs.length:=List.length_pos_iff.2 Z;refine A0 (λh=>by omega) (λ_=>A9 (by omega) (x:=xs[0]) (by simp[D]) ?_)
 refine CN (λs:Int×Int=>∃ i:Nat,s.2=i∧1<=i∧i<=xs.length∧s.1∈xs∧∀ (j:Nat) (V:j<i) (J:j<xs.length),s.1<=xs[j]) (λs=>xs.length - s.2.toNat) ⟨1,rfl,by omega,by omega,RY _,λj V J=>by
   have:j=0:=by omega
   subst this; exact sV _⟩ ?_
 rintro⟨s1,_⟩ next ⟨i,hi,_,_,d,U⟩ hnext;simp only at hi d U;subst hi;refine A0 (λh=>?_) (λh=>hQ s1 d λx W=>?_)
 . have O:i<xs.length:=by omega
   refine A9 (by omega) (x:=xs[i]) (by simp[O]) (hnext _ ⟨i+1,?_,by omega,by omega,?_,?_⟩ ?_)
   . simp only; rw[A7 (by omega) (by omega)]; simp
   . grind
   . grind
   . simp only; rw[A7 (by omega) (by omega)]; omega
 . obtain⟨j,V,rfl⟩:=WA W;grind
theorem AsA {xs:List Int} {m:Int} {Q:Int->Prop} (V:xs.length<=1000000) (U:m∈xs) (W:∀ (i:Nat) (hi:i<xs.length),xs[i]=m->(∀ (j:Nat) (J:j<i) (D:j<xs.length),xs[j]≠m)->Q i):EI xs m Q:=by
 unfold EI K4;refine CN (λs:Int=>∃ i:Nat,s=i∧i<=xs.length∧∀ (j:Nat) (J:j<i) (D:j<xs.length),xs[j]≠m) (λs=>xs.length - s.toNat) ⟨0,rfl,by omega,λj J=>by omega⟩ ?_;rintro _ next ⟨i,rfl,_,O⟩ hnext;refine A0 (λh=>?_) (λh=>?_)
 . have d:i<xs.length:=by omega
   refine A9 (by omega) (x:=xs[i]) (by simp[d]) (AZ (λe=>W i d e O) (λe=>hnext _ ⟨i+1,by rw[A7 (by omega) (by omega)]; simp,by omega,?_⟩ ?_))
   . grind
   . rw[A7 (by omega) (by omega)]; omega
 . exfalso;obtain⟨j,J,rfl⟩:=WA U;grind
structure GC where
 p:Plan
 g:Graph
 T:List A2
 lim:Int
 m:Nat
 e:Int
 n:Nat
 ch:List HR
 R:Nat
 C:Nat
structure GC.Ok (c:GC):Prop where
 run:MRun c.p c.g c.lim c.T c.m c.e
 pn:c.p.N=c.n
 n4:c.n≤1000
 lm:c.lim≤60
 R1:1≤c.R∧c.R≤5
 C1:1≤c.C∧c.C≤5
 chl:c.ch.length≤1000
def aF (n k i:Nat):Nat:=i*n / k
theorem AlY {n k i:Nat} (d:n<=4096) (hk:1<=k∧k<=8) (hi:i<=k):AW n k i=(aF n k i:Int):=by unfold AW; rw[if_pos ⟨⟨by omega,by omega⟩,by omega,by omega⟩];unfold clI; grind[aF]
theorem AsB {n k i j:Nat} (h:i<=j):aF n k i<=aF n k j:=Nat.div_le_div_right (W9 _ h)
theorem AfY (n k:Nat):aF n k 0=0:=by unfold aF; simp
theorem sM (n:Nat) {k:Nat} (h:1<=k):aF n k k=n:=by unfold aF; exact Nat.mul_div_cancel_left n (by omega)
theorem AyK {n k i:Nat} (h:1<=k) (hi:i<=k):aF n k i<=n:=by have:=AsB (n:=n) (k:=k) hi; grind[sM]
theorem AsC {n l m:Nat} (h:l+m<=n) (f:Nat->Int×Bool):M1 ⟨n,K6 n f⟩ l ((l+m:Nat):Int)=⟨m,K6 m λk=>f (l+k)⟩:=by
 obtain⟨r,rfl⟩:∃ r,n=l+(m+r):=⟨n - (l+m),by omega⟩;have O:(K6 l f).filter (λt=>decide ((l:Int)<=t.At∧t.At<((l+m:Nat):Int)))=[]:=List.filter_eq_nil_iff.2 λx d=>by have:=mL d; simp; omega
 have D:((K6 m λj=>f (l+j)).filter λx=>decide ((l:Int)<=l+x.At∧l+x.At<((l+m:Nat):Int)))=K6 m λj=>f (l+j):=List.filter_eq_self.2 λx d=>by have:=mL d; simp; omega
 have J:((K6 r λj=>f (l+(m+j))).filter λx=>decide ((l:Int)<=l+(m+x.At)∧l+(m+x.At)<((l+m:Nat):Int)))=[]:=List.filter_eq_nil_iff.2 λx d=>by have:=mL d; simp; omega
 unfold M1;congr 1
 . omega
 . simp only;rw[AfN,AfN m r,gT,O,AdY,dA,gT,AdV];rw[ApB,ApB];simp only[Function.comp_def];rw[D,J];simp;exact(wY λx _=>by have⟨a,v⟩:=x; show(⟨(l:Int)+a - l,v⟩:B9)=⟨a,v⟩; congr 1; omega).trans (List.map_id _)
section
variable (c:GC)
def GC.G (k:Nat):GV:=GS c.p c.T c.n k
def GC.tV (t:Nat):Nat->Int×Bool:=λv=>HP c.p t v (c.G (t - 1) v)
def GC.vV (t:Nat):Vec:=⟨c.n,K6 c.n (c.tV t)⟩
def GC.rg (t:Nat):Int:=CD c.p.Kind t
def GC.ls (i:Nat):Nat:=aF c.n c.R i
def GC.ln (i:Nat):Nat:=aF c.n c.R (i+1) - aF c.n c.R i
def GC.cs (j:Nat):Nat:=aF c.n c.C j
def GC.sg (k i:Nat):State:=CU (c.ls i) (c.ln i) (c.G k)
def GC.U:Nat:=if c.e=3 then c.m+2 else c.m+1
def GC.st (t:Nat):Int:=if t+1=c.U then c.e else 0
def GC.ovV (t:Nat) (v:Nat):Prop:=fH c.p (c.G (t - 1) v)=true∧∃ w,Z5 c.p c.T c.n t (c.G (t - 1)) v=some w∧(GY w).2=false
def GC.ovP (t i:Nat):Prop:=t≠0∧∃ k,k<c.ln i∧c.ovV t (c.ls i+k)
noncomputable def GC.ov (t i:Nat):Bool:=@decide (c.ovP t i) (Classical.propDecidable _)
theorem GC.ov_iff {t i:Nat}:c.ov t i=true↔c.ovP t i:=@decide_eq_true_iff _ (Classical.propDecidable _)
def GC.lvV (t:Nat) (v:Nat):Bool:=if c.p.Kind=5 then (c.G t v).1==0 else (c.G t v).2.2
def GC.lv (t i:Nat):Int:=if c.p.Kind=4∧c.p.Length<=t then 0 else ((E6 (c.ln i) λk=>c.lvV t (c.ls i+k):Nat):Int)
def GC.tb (i j:Nat):List A2:=Tb c.n c.n c.T c.R c.C i j
def GC.rows (i j:Nat):Rows:=BT (JO c.n c.R i) (JO c.n c.C j) (c.tb i j)
def GC.cols (i j:Nat):BF:=U1 (JO c.n c.R i) (JO c.n c.C j) (N7 (JO c.n c.C j) (c.tb i j))
def GC.piece (t j:Nat):Vec:=FW (c.vV t) c.C j
def GC.slice (t i j:Nat):Vec:=S5 (FW (c.vV t) c.R i) c.n c.R c.C i j
def GC.blk (t i j:Nat):List BM:=AwE (c.rg t) c.n c.n c.T (c.vV t) c.R c.C i j
end
variable {c:GC}
section
theorem GC.Ok.mp (h:c.Ok):(c.n:Int)<=4096∧IZ c.R∧IZ c.C:=by have:=h.n4; have:=h.R1; have:=h.C1; unfold IZ; omega
theorem GC.Ok.lowR (h:c.Ok) {i:Nat} (hi:i<=c.R):AW c.n c.R i=(c.ls i:Int):=AlY (by have:=h.n4; omega) (by have:=h.R1; omega) hi
theorem GC.Ok.lowC (h:c.Ok) {j:Nat} (d:j<=c.C):AW c.n c.C j=(c.cs j:Int):=AlY (by have:=h.n4; omega) (by have:=h.C1; omega) d
theorem GC.Ok.ls_ln (h:c.Ok) (i:Nat):c.ls i+c.ln i=c.ls (i+1):=by have:=AsB (n:=c.n) (k:=c.R) (show i<=i+1 by omega); unfold GC.ls GC.ln; omega
theorem GC.Ok.ls_n (h:c.Ok) {i:Nat} (hi:i<c.R):c.ls i+c.ln i<=c.n:=by rw[h.ls_ln]; exact AyK h.R1.1 (by omega)
theorem GC.Ok.siz (h:c.Ok) {i:Nat} (hi:i<c.R):JO c.n c.R i=(c.ln i:Int):=by
 have e:AW c.n c.R ((i:Int)+1)=(c.ls (i+1):Int):=by have:=h.lowR (i:=i+1) (by omega); grind
 unfold JO; rw[if_pos (by omega),e,h.lowR (by omega),<-h.ls_ln i]; omega
theorem GC.Ok.vec (h:c.Ok) (t:Nat):VecP (c.vV t):=AfO (by have:=h.n4; omega) _
theorem GC.Ok.out_part (h:c.Ok) {k i:Nat} (hi:i<c.R):ZU c.p (c.sg k i) ((k:Int)+1)=FW (c.vV (k+1)) c.R i:=by
 have D:=h.ls_n hi;have e:AW c.n c.R ((i:Int)+1)=(c.ls (i+1):Int):=by have:=h.lowR (i:=i+1) (by omega); grind
 have d:=AsC D (c.tV (k+1));rw[oW (h.vec _) h.mp.2.1 (by omega)];show _=M1 ⟨c.n,K6 c.n (c.tV (k+1))⟩ (AW c.n c.R i) (AW c.n c.R ((i:Int)+1));rw[e,h.lowR (by omega),<-h.ls_ln i,d];unfold GC.sg;rw[AcL h.run.rp (by have:=h.pn; omega)];rfl
theorem GC.Ok.fit (h:c.Ok) {t j:Nat} (hj:j<c.C):AtZ c.n c.R c.C j ((List.range c.R).map λi:Nat=>c.slice t i j)=(c.piece t j,0):=by
 have V:=h.vec t;have hp:=h.mp.2.1; have W:=h.mp.2.2; have a4:=hp; have a5:=W;unfold IZ at a4 a5;have O:(0:Int)<=c.n:=by omega
 have Z:=h.mp.1;have hg:∀ i:Nat,i<c.R->XN (c.R:Int) (c.C:Int) (i:Int) (j:Int):=λi hi=>⟨⟨hp,W⟩,by omega,by omega⟩;have a8:=U9 (n:=c.n) (k:=c.C) (i:=j); have a6:=U9 (n:=c.n) (k:=c.C) (i:=(j:Int)+1); have U:=II (n:=c.n) (k:=c.C) (show(j:Int)<=(j:Int)+1 by omega);have b0:=a6.2 O;have d:∀ x,AW c.n c.C j<=aC (AW c.n c.C j) (AW c.n c.C ((j:Int)+1)) x∧aC (AW c.n c.C j) (AW c.n c.C ((j:Int)+1)) x<=AW c.n c.C ((j:Int)+1):=λx=>by unfold aC; repeat' split <;> omega
 unfold AtZ AiD;rw[if_neg (λh=>h ⟨⟨O,Z⟩,⟨hp,W⟩,by omega,by omega⟩),if_neg (by simp),if_pos]
 . have D:=AfC V (u:=λi:Nat=>c.slice t i j) (cl:=λi:Nat=>aC (AW c.n c.C j) (AW c.n c.C ((j:Int)+1)) (AW c.n c.R i)) (λi=>by have:=d (AW c.n c.R i); show _∧_<=(c.n:Int); omega) (λi=>sI U (II (by omega))) c.R 0 (λk _=>by
    have J:=(oX V (hg k (by omega))).1;have h1:=d (AW c.n c.R k); have h2:=d (AW c.n c.R ((k:Int)+1));show FV (S5 (FW (c.vV t) c.R k) c.n c.R c.C k j)=_;have a2:S5 (FW (c.vV t) c.R k) c.n c.R c.C k j=_:=J;rw[a2,IG]
    . rw[ApC,Int.natCast_one]; rfl
    . exact Al7 V (by show(0:Int)<=aC (AW c.n c.C j) (AW c.n c.C ((j:Int)+1)) (AW c.n c.R k); omega) (sI U (II (by omega))) (by show aC (AW c.n c.C j) (AW c.n c.C ((j:Int)+1)) (AW c.n c.R ((k:Int)+1))<=(c.n:Int); omega))
   have a3:uW c.n c.R:=⟨⟨O,Z⟩,hp⟩;simp only[Int.natCast_zero,Af8,nU] at D;rw[Al6 a3] at D;have e0:aC (AW c.n c.C j) (AW c.n c.C ((j:Int)+1)) 0=AW c.n c.C j:=by unfold aC; omega
   have e1:aC (AW c.n c.C j) (AW c.n c.C ((j:Int)+1)) c.n=AW c.n c.C ((j:Int)+1):=by unfold aC; omega
   rw[e0,e1,mA,<-List.range_eq_range'] at D;unfold GC.piece;rw[oW V W (by omega)]; exact D
 . intro i hi;have a9:i<c.R:=by grind
   have e:((List.range c.R).map λi:Nat=>c.slice t i j)[i]=S5 (FW (c.vV t) c.R i) c.n c.R c.C i j:=by simp[GC.slice]
   have J:=oX V (hg i (by omega));have h1:=d (AW c.n c.R i); have h2:=d (AW c.n c.R ((i:Int)+1));have a7:S5 (FW (c.vV t) c.R i) c.n c.R c.C i j=_:=J.1;rw[e,a7];exact⟨Al7 V (by show(0:Int)<=aC (AW c.n c.C j) (AW c.n c.C ((j:Int)+1)) (AW c.n c.R i); omega) (sI U (II (by omega))) (by show aC (AW c.n c.C j) (AW c.n c.C ((j:Int)+1)) (AW c.n c.R ((i:Int)+1))<=(c.n:Int); omega),J.2.symm⟩
end
theorem AlZ {f:List Int} {o:Bool} {x:BM} {Q:Bool->Prop} (d:VQ f) (h:DH x.At) (D:Q (!H8 f o x.At)):DI f o x Q:=by
 unfold DI;refine LN d h ?_;have:(CY f x.At==o) = !H8 f o x.At:=by unfold H8; grind
 rwa [this]
theorem AfZ {xs:List BM} {f:List Int} {o:Bool} {Q:Int->Prop} (W:xs.length<=1000000) (V:VQ f) (d:∀ x∈xs,DH x.At)
   (J:∀ (i:Nat) (hi:i<xs.length),H8 f o xs[i].At=false->(∀ (k:Nat) (hk:k<xs.length),k<i->H8 f o xs[k].At=true)->Q i) (U:(∀ x∈xs,H8 f o x.At=true)->Q (-1)):CQ xs f o Q:=by
 unfold CQ;refine CM xs.length (by omega) (λi=>∀ (k:Nat) (hk:k<xs.length),k<i->H8 f o xs[k].At=true) (λk hk h=>by omega) (λi next hi D O=>?_) (λnext D=>?_)
 . refine A0 (λ_=>AN hi (AlZ V (d _ (RY hi)) (BZ (λh=>J i hi h D) (λh=>O λk hk _=>?_)))) (λh=>by omega);grind
 . refine A0 (λh=>by omega) (λ_=>U λx d=>?_);obtain⟨k,hk,rfl⟩:=WA d;grind
theorem Ag0 {P:BM->Bool} {xs:List BM} (h:∀ x∈xs,P x=true):xs.filter P=xs:=List.filter_eq_self.2 h
theorem AcT {xs:List BM} {f:List Int} {o:Bool} {Q:List BM->Prop} (hl:xs.length<=1000000) (hf:VQ f) (Z:∀ x∈xs,DH x.At)
   (hQ:Q (xs.filter λx=>H8 f o x.At)):CO xs f o Q:=by
 unfold CO;refine AfZ hl hf Z (λd a5 a7 _=>?_) (λa4=>?_);rotate_left
 . exact B7 rfl (by rwa [Ag0 a4] at hQ)
 refine AZ (λa3=>by omega) (λ_=>?_);have e0:A5 ((d:Int)+1)=((d+1:Nat):Int):=by rw[A7 (by omega) (by omega)]; omega
 rw[e0]
 have a8:∀ k,k<=d->(xs.take k).filter (λx=>H8 f o x.At)=xs.take k:=λk hk=>Ag0 λx Z=>by obtain⟨_,_,rfl⟩:=WA Z;grind
 refine A6 (σ:=List BM×Nat) (λs j=>(s.1,(s.2:Int),j)) (d+1) xs.length (s0:=(xs,d)) (by omega)
   (λj s=>s.1.length=xs.length∧s.2<j∧s.1.take s.2=(xs.take j).filter (λx=>H8 f o x.At)∧s.1.drop j=xs.drop j) (by omega) ⟨rfl,by simp,?_,rfl⟩ (λj s next _ U D hn=>?_) (λs next D=>?_)
 . rw[cZ a5,gT,a8 d (Y3 _)];simp[a7]
 . have⟨ys,i⟩:=s;have⟨J,h,O,V⟩:=D;simp only at J h O V ⊢;have a6:j<ys.length:=by omega
   have W:ys[j]=xs[j]:=by
    have e1:(ys.drop j)[0]? = (xs.drop j)[0]?:=by rw[V]
    grind
   have a2:ys.drop (j+1)=xs.drop (j+1):=by have:=congrArg (List.drop 1) V;simpa[List.drop_drop,yV] using this
   refine A0 (λ_=>AN a6 (AlZ hf (Z _ (by rw[W]; exact RY U)) (by
    rw[Bool.not_not]
    cases hk:H8 f o ys[j].At with
    | true=>
     refine B7 rfl (AN (by omega) ?_);have e1:A5 ((i:Int)+1)=((i+1:Nat):Int):=by rw[A7 (by omega) (by omega)]; omega
     have:=hn (ys.set i ys[j],i+1) ⟨by simp[J],by omega,?_,?_⟩
     . simpa[e1] using this
     . simp only;rw[cZ (by simp; omega),cZ U,gT,<-O];rw[W] at hk;simp[hk,W,List.take_set];exact List.set_eq_of_length_le (List.length_take_le i ys)
     . simp only;rw[List.drop_set,if_pos (by omega)]; exact a2
    | false=>
     refine AH rfl ?_;have:=hn (ys,i) ⟨J,by omega,?_,a2⟩
     . exact this
     . simp only;rw[cZ U,gT,<-O];rw[W] at hk;simp[hk]))) (λa3=>by omega)
 . have⟨ys,i⟩:=s;have⟨J,h,O,V⟩:=D;simp only at J h O V ⊢;refine A0 (λa3=>by omega) (λ_=>⟨by omega,by omega,by omega,⟨by omega,by omega,by omega,?_⟩⟩);grind
theorem Am0 (P:Int->Bool):∀ (l:List BM) (i:Int),lk (l.filter λs=>P s.At) i=if P i=true then lk l i else none
 | [],i=>by simp[uJ]
 | s :: l,i=>by
  have ih:=Am0 P l i;rw[AoV];by_cases h:P s.At=true
  . rw[if_pos h,EA,EA,ih];grind
  . rw[if_neg h,ih,EA];grind
def AaR (r:Int) (F:Nat->Option AP) (L:List Nat):Option AP:=L.foldl (λd j=>nP r d (F j)) none
theorem sN {r:Int} {F:Nat->Option AP}:∀ (L:List Nat) (d:Option AP),L.foldl (λd j=>nP r d (F j)) d=(L.filterMap F).foldl (λd w=>nP r d (some w)) d
 | [],_=>rfl
 | j :: L,d=>by
  rw[aN,List.filterMap_cons]
  cases h:F j with
  | none=>rw[U3]; exact sN L d
  | some w=>exact sN L _
theorem AnX {r:Int} {F:Nat->Option AP} {L M:List Nat} (hp:L.Perm M) (D:∀ j w,F j=some w->OZ w):AaR r F L=AaR r F M:=by unfold AaR;rw[sN,sN];exact As5 (hp.filterMap _) (λw J=>by have⟨j,_,d⟩:=List.mem_filterMap.1 J; exact D j w d) (λw h=>by cases h)
variable {c:GC}
structure Sm (c:GC) (t i:Nat) (L:List Nat) (s:List BM):Prop where
 rise:Rise s
 ok:wV s
 at_:∀ x∈s,0≤x.At∧x.At<c.ln i
 lk:∀ x:Int,lk s x=AaR (c.rg t) (fun j=>lk (c.blk t i j) x) L
theorem Sm.nil (c:GC) (t i:Nat):Sm c t i [] []:=⟨List.Pairwise.nil,(λs h=>nomatch h),(λs h=>nomatch h),λ_=>rfl⟩
theorem cF:∀ {s:List BM} {a n:Nat},Rise s->(∀ x∈s,(a:Int)<=x.At∧x.At<n)->s.length<=n - a
 | [],_,_,_,_=>by simp
 | x :: s,a,n,h,hb=>by have h1:=List.pairwise_cons.1 h;have D:=hb x (by simp);have:=cF (s:=s) (a:=x.At.toNat+1) (n:=n) h1.2 (λy d=>by have:=h1.1 y d; have:=hb y (by simp[d]); omega);grind
theorem Sm.len {t i:Nat} {L:List Nat} {s:List BM} (h:Sm c t i L s):s.length<=c.ln i:=by have:=cF (a:=0) h.rise (by simpa using h.at_); omega
section
theorem GC.Ok.ln_n (h:c.Ok) (i:Nat) (hi:i<c.R):c.ln i<=1000:=by have:=h.ls_n hi; have:=h.n4; omega
theorem GC.Ok.ring (h:c.Ok) (t:Nat):1<=c.rg t∧c.rg t<=5:=AfR (BO h.run.rp).1 t
theorem GC.Ok.blk_prop (h:c.Ok) (t:Nat) {i:Nat} (hi:i<c.R) (j:Nat):Rise (c.blk t i j)∧wV (c.blk t i j)∧∀ x∈c.blk t i j,0<=x.At∧x.At<c.ln i:=by have⟨d,_,O,J,_⟩:=U7 (c.rg t) (JO c.n c.C j).toNat [] true (λa=>G3 (NJ (Tb c.n c.n c.T c.R c.C i j) a)) (G3 (FW (c.vV t) c.C j).Items) (JO c.n c.R i).toNat;refine⟨d,O,λx D=>?_⟩;have:=J x D;rw[h.siz hi,SH] at this; exact this
theorem GC.Ok.blk_ok (h:c.Ok) {t i j:Nat} (hi:i<c.R) {x:Int} {w:AP} (d:Go.Proofs.YtieniichmjgmcaaGreat.lk (c.blk t i j) x=some w):OZ w:=(h.blk_prop t hi j).2.1 ⟨x,w⟩ (oP d)
theorem GC.Ok.sm_add (h:c.Ok) {t i j:Nat} {L:List Nat} {s:List BM} (hi:i<c.R) (d:Sm c t i L s):uN (c.rg t) [s,c.blk t i j]=(LW (c.rg t) s (c.blk t i j),0)∧Sm c t i (L++[j]) (LW (c.rg t) s (c.blk t i j)):=by
 have⟨O,b2,_⟩:=h.blk_prop t hi j;have⟨Z,_,q3,q4⟩:=XK (c.rg t) s (c.blk t i j) d.rise O;refine⟨?_,Z,q3 d.ok b2,λx V=>?_,λx=>?_⟩
 . unfold uN;rw[if_neg (λW=>W (h.ring t)),if_neg]
   . unfold Q5; simp[LW]
   . rintro⟨_,U,D⟩;simp only[SI,Ap7,or_false] at U;rcases U with rfl | rfl
     . exact D d.rise
     . exact D O
 . rcases YU _ _ _ _ V with⟨y,J,e⟩ | ⟨y,J,e⟩
   . rw[<-e]; exact d.at_ y J
   all_goals grind
 . rw[q4,d.lk]; grind[AaR]
theorem GC.Ok.sm_all (h:c.Ok) {k i:Nat} {L:List Nat} {s:List BM} (hi:i<c.R) (W:L.Perm (List.range c.C)) (U:Sm c (k+1) i L s) {a:Nat} (Z:a<c.ln i) :
  lk s a=Z5 c.p c.T c.n (k+1) (c.G k) (c.ls i+a):=by
 have hn:=h.ls_n hi;have O:AW c.n c.R ((i:Int)+1)=(c.ls (i+1):Int):=by have:=h.lowR (i:=i+1) (by omega); grind
 rw[U.lk,AnX W (λj _ V=>h.blk_ok hi V)];have D:=h.run.cn;rw[h.pn] at D;have J:=Aa4 (r:=c.rg (k+1)) (T:=c.T) (v:=c.vV (k+1)) (x:=((c.ls i+a:Nat):Int)) D (h.vec (k+1)) rfl h.mp.2.1 h.mp.2.2 hi (by rw[h.lowR (by omega)]; omega) (by rw[O,<-h.ls_ln]; omega) c.C (Y3 _);have d:AW c.n c.C c.C=(c.n:Int):=by rw[h.lowC (Y3 _)]; unfold GC.cs; rw[sM _ h.C1.1]
 rw[d,SH] at J;unfold Z5;show _=JM (c.rg (k+1)) c.n (G3 (NJ c.T ((c.ls i+a:Nat):Int))) (G3 (c.vV (k+1)).Items);rw[<-J];unfold AaR AqZ;rw[AjT];congr 1;funext acc j;unfold AfB;rw[Ar0,h.lowR (by omega)];have:((c.ls i+a:Nat):Int) - (c.ls i:Int)=(a:Int):=by omega
 rw[this]; rfl
theorem GC.Ok.sg_St (h:c.Ok) {i:Nat} (hi:i<c.R) (k:Nat):StP c.p (c.sg k i)∧iP (c.sg k i)∧ArJ (c.sg k i):=sJ h.run.rp (by have:=h.ls_n hi; have:=h.pn; omega)
theorem GC.Ok.sg_sure (h:c.Ok) {i:Nat} (hi:i<c.R) (k:Nat):EN c.p (c.sg k i)=c.sg k i:=if_pos (h.sg_St hi k).1
theorem GC.Ok.live (h:c.Ok) {i:Nat} (hi:i<c.R) (k:Nat):OS c.p (c.sg k i) k=c.lv k i:=by unfold GC.sg;rw[vN h.run.rp (by have:=h.ls_n hi; have:=h.pn; omega)]; rfl
theorem GC.Ok.ask (h:c.Ok) {i a:Nat} (hi:i<c.R) (k:Nat) (d:a<c.ln i):H8 (KK c.p (c.sg k i)).1 (KK c.p (c.sg k i)).2 a=fH c.p (c.G k (c.ls i+a)):=by
 have U:=h.ln_n i hi;have O:GR (c.sg k i)=c.ln i:=by show((((c.ls i+c.ln i:Nat):Int)) - ((c.ls i:Nat):Int)).toNat=c.ln i; omega
 have D:∀ j,j<c.ln i->BD (c.sg k i).A j=(c.G k (c.ls i+j)).1:=λj J=>Z2 J;unfold KK fH H8;rw[O];by_cases h1:c.p.Kind=1
 . rw[if_pos h1,if_pos h1];simp only;rw[pB d (by omega),D a d];simp
 . rw[if_neg h1,if_neg h1];by_cases h5:c.p.Kind=5
   . rw[if_pos h5,if_pos h5];simp only;rw[pB d (by omega),D a d];simp
   . rw[if_neg h5,if_neg h5];simp only;rw[Q6 (by simp)];rfl
theorem GC.Ok.done (h:c.Ok) {k i:Nat} {L:List Nat} {s:List BM} (hi:i<c.R) (hL:L.Perm (List.range c.C)) (U:Sm c (k+1) i L s) :
   (c.ov (k+1) i=true->fZ (c.rg (k+1)) (c.ln i) (s.filter λx=>H8 (KK c.p (c.sg k i)).1 (KK c.p (c.sg k i)).2 x.At)=(zV,12)) ∧
   (c.ov (k+1) i=false->∃ y,fZ (c.rg (k+1)) (c.ln i) (s.filter λx=>H8 (KK c.p (c.sg k i)).1 (KK c.p (c.sg k i)).2 x.At)=(y,0)∧y.Items.length<=1000∧iR c.p (c.sg k i) ((k:Int)+1) y=c.sg (k+1) i):=by
 have hl:=h.ln_n i hi;have d:∀ x∈(s.filter λx=>H8 (KK c.p (c.sg k i)).1 (KK c.p (c.sg k i)).2 x.At),x∈s:=λx J=>(List.mem_filter.1 J).1;have O:Rise (s.filter λx=>H8 (KK c.p (c.sg k i)).1 (KK c.p (c.sg k i)).2 x.At):=gS _ U.rise
 have W:∀ a,a<c.ln i->lk (s.filter λx=>H8 (KK c.p (c.sg k i)).1 (KK c.p (c.sg k i)).2 x.At) (a:Int)=if fH c.p (c.G k (c.ls i+a))=true then Z5 c.p c.T c.n (k+1) (c.G k) (c.ls i+a) else none:=λa D=>by rw[Am0 (λz=>H8 (KK c.p (c.sg k i)).1 (KK c.p (c.sg k i)).2 z),h.ask hi k D,h.sm_all hi hL U D]
 have a5:c.ov (k+1) i=true↔∃ x∈(s.filter λx=>H8 (KK c.p (c.sg k i)).1 (KK c.p (c.sg k i)).2 x.At),(GY x.Val).2=false:=by
   rw[GC.ov_iff];unfold GC.ovP GC.ovV;constructor
   . rintro⟨_,a,D,h1,w,h2,h3⟩;have:=W a D;rw[if_pos (show fH c.p (c.G k (c.ls i+a))=true from h1)] at this;exact⟨⟨a,w⟩,oP (this.trans h2),h3⟩
   . rintro⟨x,J,h3⟩;have hb:=U.at_ x (d x J);have a6:=uK O J;have e:x.At=((x.At.toNat:Nat):Int):=by omega
     grind
 generalize hF:(s.filter λx=>H8 (KK c.p (c.sg k i)).1 (KK c.p (c.sg k i)).2 x.At)=F at *;have Z:∀ x∈F,0<=x.At∧x.At<(c.ln i:Int):=λx J=>U.at_ x (d x J)
 have a3:fZ (c.rg (k+1)) (c.ln i) F=if ∃ s∈F,(GY s.Val).2=false then (zV,12) else (⟨(c.ln i:Int),F.filterMap (nzI (c.rg (k+1)))⟩,0):=by unfold fZ;rw[if_neg (λV=>V (h.ring (k+1))),if_neg,if_neg (λV=>V O)];grind
 constructor
 . grind
 . intro ho;have a4:¬ ∃ s∈F,(GY s.Val).2=false:=λV=>by rw[a5.2 V] at ho; cases ho
   have a2:(F.filterMap (nzI (c.rg (k+1)))).length<=1000:=by have h1:=List.length_filterMap_le (nzI (c.rg (k+1))) F;have h2:=cF (a:=0) O (by simpa using Z);omega
   refine⟨_,by rw[a3,if_neg a4],a2,?_⟩;have hv:VecP ⟨(c.ln i:Int),F.filterMap (nzI (c.rg (k+1)))⟩:=AlL ⟨by omega,by omega⟩ O Z;unfold GC.sg;refine AlK (Y:=λv=>IJ c.p c.T c.n ((k:Int)+1) (c.G k) v) h.run.rp (by have:=h.ls_n hi; have:=h.pn; omega) hv rfl λa D=>?_;show G3 (F.filterMap (nzI (c.rg (k+1)))) (a:Int)=_;rw[ArZ O,W a D];unfold IJ;split
   . rfl
   . rfl
end
end Go.Proofs.YtieniichmjgmcaaGreat
