import Derived.Test.YtkbkaodgfedfmaaGreatFwQ
import Derived.Test.YtkbkaodgfedfmaaGreatBlkH
namespace Go.Proofs.YtkbkaodgfedfmaaGreat
open Go Go.Fw
set_option linter.unusedVariables false
set_option linter.unusedSimpArgs false
variable {β:Type}
theorem tG {v:Vec} (h:VecP v) {k:Nat} {n:Int} (K:∀ j (d:j<v.Items.length),j<k->v.Items[j].At<n) (U:∀ j (d:j<v.Items.length),k<=j->n<=v.Items[j].At) :
   gL (NU v).Has n=if hk:k<v.Items.length then v.Items[k].At else -1:=by
 split
 . rename_i hk;refine oU ?_ (U k hk (Nat.le_refl _)) λq V O=>?_
   . rw[gF h,UH h.inc (List.getElem_mem hk)]; rfl
   . rw[gF h,Q9]
     . rfl
     . intro s D e;obtain⟨j,d,rfl⟩:=List.mem_iff_getElem.1 D;rcases Nat.lt_or_ge j k with g | g
       . have:=K j d g; omega
       . rcases Nat.lt_or_ge k j with J | J
         . have:=h.inc.at d J; omega
         . have:j=k:=by omega
           subst this; omega
 . rename_i hk;refine oV λq V=>?_;rw[gF h,Q9]
   . rfl
   . intro s D e;obtain⟨j,d,rfl⟩:=List.mem_iff_getElem.1 D;have:=K j d (by omega); omega
theorem rA {v:Vec} {Q:Vec->Prop} (h:VecP v) (hQ:Q v):WQ (NU v) Q:=by
 unfold WQ dC UW QL;have hlen:=h.len; have h0:=h.n0; have h1:=h.n1;have hl:(NU v).Has.length<=1000000:=by have:=AdJ v; omega
 have hVl:((NU v).Vals.length:Int)=v.N:=by simp[NU,W0]; omega
 refine Z1 h (AU rfl (V0 (gG v) hl ?_));rw[tG h (k:=0) (λj D h=>by omega) (λj D _=>(h.ins _ (List.getElem_mem D)).1)];refine DC (λs:Int×List AM×Int×Nat=>∃ k:Nat,k<=v.Items.length∧s.1=v.N∧s.2.1=v.Items.take k∧s.2.2.2=0∧s.2.2.1=if hk:k<v.Items.length then v.Items[k].At else -1) (λs=>v.Items.length - s.2.1.length) ⟨0,by omega,rfl,by simp,rfl,rfl⟩ ?_;rintro⟨s1,s2,U,s4⟩ next ⟨k,hk,W,J,Z,d⟩ hn;simp only at W J Z d ⊢;subst W; subst Z;have V:s2.length=k:=by subst J; simp; omega
 by_cases hkl:k<v.Items.length
 . rw[dif_pos hkl] at d;have hin:=h.ins _ (List.getElem_mem hkl)
   have K:BD (NU v).Vals U=v.Items[k].Val:=by have:BD (NU v).Vals U=(FW v.Items U).getD 0:=jP (by omega) (by omega);rw[this,d,UH h.inc (List.getElem_mem hkl)]; rfl
   refine A1 (λ_=>BE (by omega) (by omega) ⟨rfl,AH (by simp; omega) ?_⟩) (λh'=>by omega);refine AC rfl (V0 (gG v) hl ?_);rw[AB (by omega) (by omega),tG h (k:=k+1) (λj D O=>?_) (λj D O=>?_),K]
   . refine hn _ ⟨k+1,by omega,rfl,?_,rfl,rfl⟩ (by simp only[List.length_append,List.length_singleton,V]; omega);simp only;rw[List.take_succ_eq_append_getElem hkl,J,d]
   . rw[d];by_cases e:j=k
     . subst e; omega
     . have:=h.inc.at hkl (i:=j) (by omega); omega
   . rw[d];have:=h.inc.at D (i:=k) (by omega); omega
 . rw[dif_neg hkl] at d;refine A1 (λh'=>by omega) (λ_=>⟨rfl,?_⟩);rw[List.take_of_length_le (by omega)] at J;subst J;exact hQ
def AlZ (w a b:Int):Int:=if w=1 then 1 else if w=2 then 2 else if A6 (b.tdiv 4)<a then 2 else 1
def dI (f a b:Int):Int:=if f=1 then 1 else if f=2 then 2 else if A6 (b.tdiv 8)<a then 2 else 1
theorem Am0 {w a b:Int} {Q:Int->Prop} (D:Q (AlZ w a b)):KO w a b Q:=by
 unfold KO; unfold AlZ at D;refine AV (λh=>?_) (λh=>AV (λd=>?_) (λd=>A1 (λJ=>?_) (λJ=>?_)))
 . rw[if_pos h] at D; rwa [h]
 . rw[if_neg h,if_pos d] at D; rwa [d]
 . rwa [if_neg h,if_neg d,if_pos J] at D
 . rwa [if_neg h,if_neg d,if_neg J] at D
theorem AhX {w a b:Int} {Q:Int->Prop} (D:Q (dI w a b)):RH w a b Q:=by
 unfold RH; unfold dI at D;refine AV (λh=>?_) (λh=>AV (λd=>?_) (λd=>A1 (λJ=>?_) (λJ=>?_)))
 . rw[if_pos h] at D; rwa [h]
 . rw[if_neg h,if_pos d] at D; rwa [d]
 . rwa [if_neg h,if_neg d,if_pos J] at D
 . rwa [if_neg h,if_neg d,if_neg J] at D
theorem AhY (f a b:Int):dI f a b=1∨dI f a b=2:=by
 unfold dI
 repeat' split
 all_goals simp
def tH (s:Int) (u:Vec):Y2:=if s=2 then ⟨2,zV,NU u⟩ else ⟨1,u,⟨0,[],[]⟩⟩
def AdQ (f:Int) (v:Vec):Y2:=tH (dI f (FF v).Items.length (FF v).N) (FF v)
theorem Z3 {l:List AM} {Q:List AM->Prop} (hl:l.length<=1000000) (d:Q l):AP l Q:=by unfold AP;refine M3 (λe=>by subst e; exact d) (AH (by simp; omega) ?_);exact d
theorem AkB {f:Int} {v:Vec} {Q:Y2->Prop} (O:v.Items.length<=1000000000) (d:Q (AdQ f v)):U7 f v Q:=by
 unfold U7;have J:=Q8 v;unfold AdQ tH at d;refine BP (λt=>(⟨t.1,t.2⟩:Vec)=FF v) ?_ ?_
 . rintro⟨K,U⟩ ht;simp only at ht ⊢;rw[<-ht] at d J;have D:=J.len;simp only at D d;refine AhX (AV (λh=>?_) (λh=>?_))
   . rw[if_pos h] at d;refine lN (by simp only; omega) ?_;rw[HQ J]; exact d
   . rw[if_neg h] at d;have e1:=(AhY f (U.length:Int) K).resolve_right h;exact Z3 (by omega) d
 . intro k hk;refine EI O (BK (λh=>hk _ ?_) (λh=>hk _ ?_))
   . rw[FF,if_neg (of_decide_eq_false h)]; rfl
   . rw[FF,if_pos (of_decide_eq_true h)]
theorem AbZ {s:Int} {u:Vec} {Q:Vec->Prop} (d:VecP u) (h:Q u):OQ (tH s u) Q:=by
 unfold OQ tH;have D:=d.len;split
 . exact AU rfl (rA d h)
 . refine AC rfl (BP (λb=>b=true) (λb J=>AU J (Z3 (by simp only; omega) h)) λk hk=>AU rfl (EI (by simp only; omega) (hk _ (decide_eq_true d))))
theorem AhZ {s:Int} {u:Vec} {Q:Dense->Prop} (d:VecP u) (h:Q (NU u)):RK (tH s u) Q:=by unfold RK;refine AbZ d (lN (by have:=d.len; omega) ?_);rw[HQ d]; exact h
def Ai0 (r w:Int) (s:List B8×Int) (d:Int):List B8×Int×Int:=if s.2≠0 then ([],0,s.2) else (s.1,d,0)
theorem Ai1 {t:E5} {rows cols:Int} {ts:List A3} {s:Int} {u:Vec} {Q:List B8×Int×Int->Prop} (O:Canon rows cols ts) (Z:∀ x∈ts,EZ x.Val) (hR:t.Rows=BH rows cols ts) (hC:t.Cols=SU rows cols (MO cols ts)) (hX:t.X=tH s u) (J:VecP u) (V:∀ x∈u.Items,EZ x.Val) (hf:lK t.Set)
   (d:Q (Ai0 t.Ring t.Way (gK t.Ring rows cols ts u t.Set t.Others) (AlZ t.Way (QS (MO cols ts) (UG u)) ts.length))):UB t Q:=by
 obtain⟨tr,tR,tC,tX,tS,tO,tW⟩:=t;simp only at hR hC hX hf d;subst hR; subst hC; subst hX;unfold UB K5 K6;have D:=X2 O;have hTv:=AbJ O Z;have U:u.Items.length<=1000000000:=by have:=J.len; omega
 simp only;refine AbZ J (vJ D.smlC U (jK D) D (uT O.sml (P5 O) (Am0 ?_)));unfold Ai0 at d;refine AV (λh=>AhZ J (vL O Z J V hf ?_)) (λh=>AbZ J (vG D.smlC (jK D) D hTv U (by rw[HQ J]; exact V) hf ?_))
 . refine BI (λK=>?_) (λW=>?_)
   . rw[if_pos K] at d; exact d
   . rw[if_neg (λh=>h W)] at d; rw[W]; exact d
 . rw[HQ J,<-Af7 D,AeX O];refine BI (λK=>?_) (λW=>?_)
   . rw[if_pos K] at d; exact d
   . rw[if_neg (λh=>h W)] at d; rw[W]; exact d
def Ai2 (l:List Int):Prop:=∃ d∈l,d<0∨2147483647<d
instance (l:List Int):Decidable (Ai2 l):=by unfold Ai2; infer_instance
def CS (p:Plan):Int:=
 if p.Kind<1∨5<p.Kind then 8
 else if p.N<0∨4096<p.N∨((p.Kind=1∨p.Kind=2∨p.Kind=4)∧(p.Source<0∨p.N<=p.Source))∨(p.Kind=4∧(p.Length<0∨8192<p.Length)) then 3
 else if 65536<p.Draws.length then 5
 else if Ai2 p.Draws then 7 else 0
theorem CG {p:Plan} (h:CS p=0):(1<=p.Kind∧p.Kind<=5)∧(0<=p.N∧p.N<=4096)∧((p.Kind=1∨p.Kind=2∨p.Kind=4)->0<=p.Source∧p.Source<p.N)∧(p.Kind=4->0<=p.Length∧p.Length<=8192)∧p.Draws.length<=65536∧∀ d∈p.Draws,0<=d∧d<=2147483647:=by
 unfold CS at h;split at h
 . cases h
 split at h
 . cases h
 split at h
 . cases h
 split at h
 . cases h
 rename_i h1 h2 h3 J;refine⟨by omega,by omega,by omega,by omega,by omega,λd K=>?_⟩;have:¬(d<0∨2147483647<d):=λD=>J ⟨d,K,D⟩;omega
theorem vU {l:List Int} {Q:Bool->Prop} (hl:l.length<=65536) (O:Q (decide (Ai2 l))):BA l Q:=by
 unfold BA EE OA;refine CM l.length (by omega) (λi=>∀ (j:Nat) (D:j<l.length),j<i->¬(l[j]<0∨2147483647<l[j])) (by simp) (λi next hi J hn=>?_) (λnext J=>?_)
 . refine A1 (λ_=>?_) (λh=>by omega)
   have hbad (K:l[i]<0∨2147483647<l[i]):Q (decide (0<=(i:Int))):=by rwa [decide_eq_true (show Ai2 l from⟨_,List.getElem_mem hi,K⟩),<-decide_eq_true (show(0:Int)<=i by omega)] at O
   refine B3 hi (A1 (λV=>AU rfl (hbad (.inl V))) (λV=>A1 (λU=>hbad (.inr U)) (λU=>hn λj D W=>?_)));by_cases e:j=i
   . subst e; omega
   . exact J j D (by omega)
 . refine A1 (λh=>by omega) (λ_=>?_)
   rwa [decide_eq_false (λ⟨d,Z,K⟩=>by obtain⟨j,D,rfl⟩:=List.getElem_of_mem Z;exact J j D D K),<-decide_eq_false (show ¬(0:Int) <= -1 by omega)] at O
theorem V5 {p:Plan} {Q:Int->Prop} (D:Q (CS p)):OB p Q:=by
 unfold OB I5 DB;unfold CS at D;refine A1 (λh1=>by rwa [if_pos (by omega)] at D) (λh1=>A1 (λZ=>by rwa [if_pos (by omega)] at D) (λZ=>?_));rw[if_neg (by omega)] at D;have hE (U:p.N<0∨4096<p.N∨((p.Kind=1∨p.Kind=2∨p.Kind=4)∧(p.Source<0∨p.N<=p.Source))∨(p.Kind=4∧(p.Length<0∨8192<p.Length))):Q 3:=by rwa [if_pos U] at D
 refine A1 (λh3=>BK (λO=>hE (by have:=of_decide_eq_false O; omega)) (λO=>?_)) (λh3=>AU rfl (hE (by omega)))
 replace O:=of_decide_eq_true O
 have hw:A6 (p.N - 1)=p.N - 1:=AB (by omega) (by omega)
 have hk (U:¬(p.N<0∨4096<p.N∨((p.Kind=1∨p.Kind=2∨p.Kind=4)∧(p.Source<0∨p.N<=p.Source))∨(p.Kind=4∧(p.Length<0∨8192<p.Length)))) :
   A8 (decide (65536<(p.Draws.length:Int))) (Q 5) (BA p.Draws λd=>A8 d (Q 7) (Q 0)):=by
  rw[if_neg U] at D;refine A1 (λh=>by rwa [if_pos (by omega)] at D) (λh=>?_);rw[if_neg (by omega)] at D;exact vU (by omega) (A1 (λh=>by rwa [if_pos h] at D) (λh=>by rwa [if_neg h] at D))
 have hs (hkd:p.Kind=1∨p.Kind=2∨p.Kind=4) (W:p.Kind=4->0<=p.Length∧p.Length<=8192) :
   A8 (decide (0<=p.Source)) (A8 (!decide (p.Source<=A6 (p.N - 1))) (Q 3) (A8 (decide (65536<(p.Draws.length:Int))) (Q 5) (BA p.Draws λd=>A8 d (Q 7) (Q 0))))
    (A8 (!false) (Q 3) (A8 (decide (65536<(p.Draws.length:Int))) (Q 5) (BA p.Draws λd=>A8 d (Q 7) (Q 0)))):=by
  refine A1 (λV=>BK (λJ=>hE (by have:=of_decide_eq_false J; omega)) (λJ=>hk (by have:=of_decide_eq_true J; omega))) (λV=>AU rfl (hE (by omega)))
 refine AV (λV=>A1 (λJ=>BK (λK=>hE (by have:=of_decide_eq_false K; omega)) (λK=>hs (by omega) (λ_=>⟨J,of_decide_eq_true K⟩))) (λJ=>AU rfl (hE (by omega)))) (λV=>?_);exact AV (λJ=>hs (by omega) (by omega)) (λJ=>AV (λK=>hs (by omega) (by omega)) (λK=>hk (by omega)))
theorem vW (a:Int):XQ .i64 a 1=a % 2:=by
 have h:(BitVec.ofInt 64 a &&& BitVec.ofInt 64 1).toNat=(a % 2).toNat:=by
  rw[BitVec.toNat_and,BitVec.toNat_ofInt,BitVec.toNat_ofInt];rw[show((1:Int) % ((2 ^ 64:Nat):Int)).toNat=1 by decide,Nat.and_one_is_mod];have:((2 ^ 64:Nat):Int)=18446744073709551616:=by decide
  rw[this];omega
 unfold XQ;rw[show IntKind.i64.bits=64 from rfl,h];have h1:0<=a % 2:=by omega
 have h2:a % 2<2:=by omega
 rw[show((a % 2).toNat:Int)=a % 2 by omega];exact AB (by omega) (by omega)
def JD (k:Int) (r:Int):Int:=if k=1∨k=3 then 4 else if k=2 then 1 else if k=4 then 5 else if k=5 then (if r % 2=0 then 2 else 4) else 0
theorem X9 {k r:Int} {Q:Int->Prop} (d:Q (JD k r)):RY k r Q:=by
 unfold RY;rw[vW];unfold JD at d;refine AV (λh=>by subst h; exact d) (λK=>AV (λh=>by subst h; exact d) (λJ=>AV (λh=>?_) (λD=>AV (λh=>by subst h; exact d) (λh4=>AV (λh=>by subst h; exact d) (λh5=>?_)))))
 . subst h;refine AV (λh=>?_) (λh=>?_)
   . rw[if_neg (by omega),if_neg (by omega),if_neg (by omega),if_pos rfl,if_pos h] at d; exact d
   . rw[if_neg (by omega),if_neg (by omega),if_neg (by omega),if_pos rfl,if_neg h] at d; exact d
 . rwa [if_neg (by omega),if_neg K,if_neg J,if_neg D] at d
theorem AdR {x v:Int} (h0:0<=x) (h1:x<=2147483647) (h2:0<=v) (h3:v<4096):bor .i64 (shl .i64 x 12) v=x*4096+v:=by
 have d:shl .i64 x 12=x*4096:=by unfold shl;rw[show((2:Int) ^ (min (Int.toNat 12) IntKind.i64.bits))=4096 from by decide];exact AB (by omega) (by omega)
 obtain⟨a,rfl⟩:∃ a:Nat,x=(a:Int):=⟨x.toNat,by omega⟩;obtain⟨b,rfl⟩:∃ b:Nat,v=(b:Int):=⟨v.toNat,by omega⟩;rw[d];unfold bor
 have h:(BitVec.ofInt 64 ((a:Int)*4096) ||| BitVec.ofInt 64 (b:Int)).toNat=a*4096+b:=by
  rw[BitVec.toNat_or,BitVec.toNat_ofInt,BitVec.toNat_ofInt];have hp:((2 ^ 64:Nat):Int)=18446744073709551616:=by decide
  rw[hp,show(((a:Int)*4096) % 18446744073709551616).toNat=2 ^ 12*a by omega,show(((b:Int)) % 18446744073709551616).toNat=b by omega];rw[<-Nat.two_pow_add_eq_or_of_lt (by omega:b<2 ^ 12)];omega
 rw[show IntKind.i64.bits=64 from rfl,h];rw[show((a*4096+b:Nat):Int)=(a:Int)*4096+b by omega];exact AB (by omega) (by omega)
def dv (l:List Int) (i:Int):Int:=if l=[] then 0 else BD l (i % l.length)
theorem AlA {l:List Int} (h:∀ d∈l,0<=d∧d<=2147483647) (i:Int):0<=dv l i∧dv l i<=2147483647:=by
 unfold dv;split
 . omega
 . rename_i D;have hl:0<l.length:=List.length_pos_iff.2 D;exact h _ (mQ (by exact Int.emod_nonneg _ (by omega)) (Int.emod_lt_of_pos _ (by omega)))
def AkC (p:Plan) (d v:Int):Int:=if 0<=d∧d<=8192∧0<=v∧v<p.N then dv p.Draws (d*p.N+v)*4096+v else 0
theorem Am1 {d n:Int} (J:0<=d) (D:d<=8192) (h:0<=n) (K:n<=4096):0<=d*n∧d*n<=33554432:=by refine⟨Int.mul_nonneg J h,?_⟩;have:=Int.mul_le_mul D K h (by omega:(0:Int)<=8192);omega
theorem Am2 {l:List Int} {i:Int} {K:Int->Prop} (h:0<=i) (d:0<l.length) (hk:K (dv l i)):nzP (l.length:Int) (AZ l (i.tmod (l.length:Int)) K):=by
 refine⟨by omega,?_⟩;rw[Int.tmod_eq_emod_of_nonneg h];refine BE (Int.emod_nonneg _ (by omega)) (Int.emod_lt_of_pos _ (by omega)) ?_;unfold dv at hk
 rwa [if_neg (List.length_pos_iff.1 d)] at hk
theorem Z4 {p:Plan} {d v:Int} {Q:Int->Prop} (O:0<=p.N∧p.N<=4096) (Z:∀ d∈p.Draws,0<=d∧d<=2147483647) (h:Q (AkC p d v)):I7 p d v Q:=by
 unfold I7 I5;unfold AkC at h;have V:A6 (p.N - 1)=p.N - 1:=AB (by omega) (by omega);rw[V];refine A1 (λU=>BK (λD=>?_) (λD=>?_)) (λU=>AU rfl (by rwa [if_neg (by omega)] at h))
 . have:=of_decide_eq_false D; rwa [if_neg (by omega)] at h
 replace D:=of_decide_eq_true D
 refine A1 (λK=>BK (λJ=>?_) (λJ=>?_)) (λK=>AU rfl (by rwa [if_neg (by omega)] at h))
 . have:=of_decide_eq_false J; rwa [if_neg (by omega)] at h
 replace J:=of_decide_eq_true J
 rw[if_pos (by omega)] at h;have hm:=Am1 U D O.1 O.2;refine A1 (λW=>?_) (λW=>?_)
 . rw[AB (x:=d*p.N) (by omega) (by omega),AB (x:=d*p.N+v) (by omega) (by omega)];refine Am2 (by omega) (by omega) ?_;have:=AlA Z (d*p.N+v)
   rwa [AdR this.1 this.2 K (by omega)]
 . rw[AdR (by omega) (by omega) K (by omega)];have:p.Draws=[]:=List.eq_nil_of_length_eq_zero (by omega)
   rwa [show dv p.Draws (d*p.N+v)=0 by rw[this]; rfl] at h
def LC (es:List B5):List B5:=(TL (SC 1 (es.map kvE)) mkE).1
theorem AkD (a:AL):EZ (LJ a).1:=by
 unfold LJ EZ;split
 . rw[KA]; omega
 . simp
theorem jV (es:List B5):∀ e∈LC es,EZ e.W:=by
 intro e d;unfold LC TL at d;split at d
 . obtain⟨p,_,rfl⟩:=List.mem_map.1 d;exact AkD _
 . cases d
theorem PA {es:List B5} (h:∀ e∈es,EZ e.W):(LC es).length<=es.length:=by
 have:=(mR 1 (es.map kvE) (λt d=>by obtain⟨e,D,rfl⟩:=List.mem_map.1 d; exact h e D)).1;unfold LC TL;split
 . simpa using this
 . simp
theorem NW {g:Graph} {Q:Graph->Prop} (d:g.Edges.length<=1000000) (D:∀ e∈g.Edges,EZ e.W) (h:Q ⟨g.N,LC g.Edges⟩):I6 g Q:=by unfold I6; exact nW (by omega) d D h
theorem AfF {α:Type} {p:α->Bool} {xs:List α} {i:Nat} (h:i<xs.length):(xs.take (i+1)).filter p=(xs.take i).filter p++(if p xs[i] then [xs[i]] else []):=by rw[List.take_succ_eq_append_getElem h,List.filter_append];congr 1;simp[List.filter_cons]
def NX (e:B5):Bool:=e.From != e.To
def gQ (g:Graph):Graph:=⟨g.N,LC (g.Edges.filter NX)⟩
def Ai3 (e:B5):B5:=⟨e.From,e.To,1⟩
def T1 (g:Graph):Graph:=⟨g.N,LC (g.Edges.map Ai3)⟩
def lQ (g:Graph):Graph:=⟨g.N,LC (g.Edges.map lG)⟩
def Z5 (g:Graph):Graph:=⟨g.N,LC (g.Edges++(lQ g).Edges)⟩
theorem Ai4 {α:Type} {p:α->Bool} {xs:List α} {i:Nat} (h:i<=xs.length):((xs.take i).filter p).length<=i:=by have:=List.length_filter_le p (xs.take i);rw[List.length_take] at this; omega
theorem AfG {g:Graph} {Q:Graph->Prop} (O:g.Edges.length<=1000000) (K:∀ e∈g.Edges,EZ e.W) (U:Q (gQ g)):RC g Q:=by
 unfold RC SA M5;refine AD (λ(s:List B5) i=>(s,i)) 0 g.Edges.length (by omega) (λi s=>s=(g.Edges.take i).filter NX) (by omega) rfl (λi s next _ hi d D=>?_) (λs next d=>?_)
 . subst d;have hL:=Ai4 (p:=NX) (xs:=g.Edges) (Nat.le_of_lt hi);refine A1 (λ_=>B3 hi ?_) (λh=>by omega);have e:=AfF (p:=NX) hi;refine BI (λh=>AH (by simp; omega) (D _ ?_)) (λh=>D _ ?_)
   . rw[e,if_pos (by unfold NX; simpa using h)]
   . rw[e,if_neg (by unfold NX; simpa using h),List.append_nil]
 . subst d;refine A1 (λh=>by omega) (λ_=>?_);rw[List.take_length];exact NW (Nat.le_trans (List.length_filter_le _ _) O) (λe J=>K e (List.mem_filter.1 J).1) U
theorem oY {g:Graph} {Q:Graph->Prop} (K:g.Edges.length<=1000000) (J:Q (T1 g)):MI g Q:=by
 unfold MI SD N7;refine AD (λ(s:List B5) i=>(s,i)) 0 g.Edges.length (by omega) (λi s=>s=(g.Edges.take i).map Ai3) (by omega) rfl (λi s next _ hi d O=>?_) (λs next d=>?_)
 . subst d;refine A1 (λ_=>B3 hi (AU rfl (AH (by simp; omega) (O _ ?_)))) (λh=>by omega);rw[NR hi]; rfl
 . subst d;refine A1 (λh=>by omega) (λ_=>?_);rw[List.take_length];exact NW (by simpa using K) (λe D=>by obtain⟨x,_,rfl⟩:=List.mem_map.1 D; unfold EZ Ai3; simp) J
theorem Ai5 {g:Graph} {Q:Graph->Prop} (O:g.Edges.length<=1000000) (K:∀ e∈g.Edges,EZ e.W) (J:Q (lQ g)):OC g Q:=by
 unfold OC N6 KN;refine AD (λ(s:List B5) i=>(s,i)) 0 g.Edges.length (by omega) (λi s=>s=(g.Edges.take i).map lG) (by omega) rfl (λi s next _ hi d U=>?_) (λs next d=>?_)
 . subst d;refine A1 (λ_=>B3 hi (AU rfl (AH (by simp; omega) (U _ ?_)))) (λh=>by omega);rw[NR hi]; rfl
 . subst d;refine A1 (λh=>by omega) (λ_=>?_);rw[List.take_length];exact NW (by simpa using O) (λe D=>by obtain⟨x,V,rfl⟩:=List.mem_map.1 D; exact K x V) J
theorem oZ {g:Graph} (hl:g.Edges.length<=500000) (h:∀ e∈g.Edges,EZ e.W):(lQ g).Edges.length<=g.Edges.length∧∀ e∈(lQ g).Edges,EZ e.W:=by refine⟨?_,jV _⟩;have:=PA (es:=g.Edges.map lG) (λe d=>by obtain⟨x,D,rfl⟩:=List.mem_map.1 d; exact h x D);simpa[lQ] using this
theorem AfH {xs ys:List B5} {Q:List B5->Prop} (hl:xs.length+ys.length<=1000000) (O:Q (xs++ys)):D9 [xs,ys] Q:=by
 unfold D9 FC;refine AD (λ(s:Int) i=>(s,i)) 0 2 (by omega) (λi s=>s=(((([xs,ys]:List (List B5)).take i).map List.length).sum:Nat)) (by omega) (by simp) (λi s next _ hi K D=>?_) (λs next K=>?_)
 . subst K;refine A1 (λ_=>?_) (λh=>by simp at h; omega)
   match i,hi,D with
   | 0,_,D=>
    refine AK (x:=xs) (by omega) rfl ?_;have e:A6 (((([xs,ys]:List (List B5)).take 0).map List.length).sum+(xs.length:Int))=xs.length:=by simp; exact AB (by omega) (by omega)
    rw[e];exact A1 (λh=>by omega) (λ_=>D _ (by simp))
   | 1,_,D=>
    refine AK (x:=ys) (by omega) rfl ?_;have e:A6 (((([xs,ys]:List (List B5)).take 1).map List.length).sum+(ys.length:Int))=xs.length+ys.length:=by simp; exact AB (by omega) (by omega)
    rw[e];exact A1 (λh=>by omega) (λ_=>D _ (by simp))
 . subst K;refine A1 (λh=>by simp at h) (λ_=>?_);have e:((((([xs,ys]:List (List B5)).take 2).map List.length).sum:Nat):Int)=xs.length+ys.length:=by simp
   rw[e,AB (x:=0 - 0) (by omega) (by omega),AB (x:=(xs.length:Int)+ys.length - (0 - 0)) (by omega) (by omega)]
   have hk:AW (λ(s:(List B5)×Int) (d:((List B5)×Int)->Prop)=>match s with | (s268,s272)=>A8 (decide (s272<((([xs,ys]:List (List B5)).length:Nat):Int))) (AZ [xs,ys] s272 λJ=>DA 24 s268 J λ_=>d ((s268++J),A6 (s272+1))) (Q s268)) ([],0):=by
    refine AD (λ(s:List B5) i=>(s,i)) 0 2 (by omega) (λi s=>s=(([xs,ys]:List (List B5)).take i).flatten) (by omega) (by simp) (λi s next _ hi K D=>?_) (λs next K=>?_)
    . subst K;refine A1 (λ_=>?_) (λh=>by simp at h; omega)
      match i,hi,D with
      | 0,_,D=>exact AK (x:=xs) (by omega) rfl (AH (by simp; omega) (D _ (by simp)))
      | 1,_,D=>exact AK (x:=ys) (by omega) rfl (AH (by simp; omega) (D _ (by simp)))
    . subst K;refine A1 (λh=>by simp at h) (λ_=>?_);simpa using O
   exact A1 (λh=>by omega) (λ_=>A1 (λh=>⟨by omega,by omega,hk⟩) (λh=>hk))
theorem AdS {g:Graph} {Q:Graph->Prop} (hl:g.Edges.length<=100000) (d:∀ e∈g.Edges,EZ e.W) (K:Q (Z5 g)):SB g Q:=by
 unfold SB;have D:=oZ (by omega) d;refine Ai5 (by omega) d (AfH (by omega) (NW (by simp; omega) (λe J=>?_) K));rcases List.mem_append.1 J with h | h
 . exact d e h
 . exact D.2 e h
def Ac0 (p:Plan) (g:Graph):Rows×Int:=
 if CS p≠0 then (zR,CS p) else if g.N≠p.N then (zR,4) else if IQ g≠0 then (zR,IQ g)
 else oF (if p.Kind=5 then T1 (Z5 (gQ g)) else if p.Kind=3 then T1 (Z5 g) else if p.Kind=1 then T1 g else g)
theorem pB {g:Graph} (hl:g.Edges.length<=65536) (d:∀ e∈g.Edges,EZ e.W):(Z5 g).Edges.length<=200000∧∀ e∈(Z5 g).Edges,EZ e.W:=by
 have D:=oZ (by omega) d;refine⟨?_,jV _⟩
 have:=PA (es:=g.Edges++(lQ g).Edges) (λe J=>by
  rcases List.mem_append.1 J with h | h
  . exact d e h
  . exact D.2 e h)
 rw[List.length_append] at this;show(LC _).length<=_;omega
theorem Ac1 {g:Graph} (hl:g.Edges.length<=65536) (h:∀ e∈g.Edges,EZ e.W):(gQ g).Edges.length<=65536∧∀ e∈(gQ g).Edges,EZ e.W:=by refine⟨?_,jV _⟩;have h1:=PA (es:=g.Edges.filter NX) (λe d=>h e (List.mem_filter.1 d).1);have h2:=List.length_filter_le NX g.Edges;show(LC _).length<=_;omega
theorem Z6 {p:Plan} {g:Graph} {Q:Rows×Int->Prop} (d:Q (Ac0 p g)):PU p g Q:=by
 unfold PU;unfold Ac0 at d;refine V5 (BI (λh=>by rwa [if_pos h] at d) (λh=>?_));rw[if_neg (λD=>D h)] at d;refine BI (λh=>by rwa [if_pos h] at d) (λh=>?_);rw[if_neg (λD=>D h)] at d;refine YS (BI (λh=>by rwa [if_pos h] at d) (λh=>?_));rw[if_neg (λD=>D h)] at d;obtain⟨_,_,Z,_,hw⟩:=MP h;have J:∀ e∈g.Edges,EZ e.W:=λe he=>by have:=hw e he; unfold wOk at this; unfold EZ; omega
 have K:=Ac1 Z J;have hb:=pB Z J;have hsb:=pB K.1 K.2;refine AV (λU=>?_) (λU=>?_)
 . rw[if_pos U] at d;exact AfG (by omega) J (AdS (by omega) K.2 (oY (by omega) (fY d)))
 rw[if_neg U] at d;refine AV (λO=>?_) (λO=>?_)
 . rw[if_pos O] at d;exact AdS (by omega) J (oY (by omega) (fY d))
 rw[if_neg O] at d;refine AV (λV=>?_) (λV=>?_)
 . rw[if_pos V] at d;exact oY (by omega) (fY d)
 rw[if_neg V] at d;exact fY d
theorem Ao5 (i:Int):shr .u64 i 1=i / 2:=by unfold shr;rw[Int.fdiv_eq_ediv_of_nonneg _ (by decide)]; rfl
theorem AlB (i:Int):shr .i64 i 1=i / 2:=by unfold shr;rw[Int.fdiv_eq_ediv_of_nonneg _ (by decide)]; rfl
theorem Am3 {a b:Int} (h0:0<=a) (h1:0<=b) (h2:a<=1000000) (h3:b<=1000000):A6 (shr .u64 (IntKind.wrap .u64 (A6 (a+b))) 1)=(a+b) / 2:=by rw[AB (x:=a+b) (by omega) (by omega),U1 (by omega) (by omega),Ao5,AB (by omega) (by omega)]
theorem zI (x y:Int):O5 x y<0↔x<y:=by unfold O5; split <;> (try split) <;> omega
theorem tI (x y:Int):O5 x y=0↔x=y:=by unfold O5; split <;> (try split) <;> omega
theorem vX {v:Vec} {i:Int} {Q:Int×Bool->Prop} (hl:v.Items.length<=1000000000) (J:Q (VZ (FW (FF v).Items i))):VQ v i Q:=by
 unfold VQ;refine LK hl ?_;have hP:=Q8 v;generalize FF v=w at hP J;have hi:=hP.inc;have hlen:=hP.len;unfold M8 BG IV;refine DC (λs:Int×Int=>0<=s.1∧s.1<=s.2∧s.2<=w.Items.length∧(∀ (k:Nat) (hk:k<w.Items.length),(k:Int)<s.1->(w.Items[k]).At<i)∧(∀ (k:Nat) (hk:k<w.Items.length),s.2<=(k:Int)->¬(w.Items[k]).At<i)) (λs=>(s.2 - s.1).toNat) ⟨by simp,by simp,by simp,λk hk h=>by simp at h; omega,λk hk h=>by simp at h; omega⟩ ?_;rintro⟨a,b⟩ next ⟨h0,h1,h2,U,h4⟩ hn;simp only at h0 h1 h2 U h4;refine A1 (λW=>?_) (λW=>?_)
 . rw[Am3 h0 (by omega) (by omega) (by omega)];obtain⟨m,hm⟩:∃ m:Nat,(a+b) / 2=(m:Int):=⟨((a+b) / 2).toNat,by omega⟩;rw[hm];have d:m<w.Items.length:=by omega
   refine B3 d (FR (A1 (λK=>?_) (λK=>?_)))
   . rw[zI] at K;rw[AB (by omega) (by omega)];refine hn _ ⟨by simp only; omega,by simp only; omega,h2,λk hk D=>?_,h4⟩ (by simp only; omega);simp only at D;by_cases e:k=m
     . subst e; exact K
     . have:=hi.at d (by omega:k<m); omega
   . rw[zI] at K;refine hn _ ⟨h0,by simp only; omega,by simp only; omega,U,λk hk D=>?_⟩ (by simp only; omega);simp only at D;by_cases e:k=m
     . subst e; exact K
     . have:=hi.at hk (by omega:m<k); omega
 . have O:a=b:=by omega
   subst O;obtain⟨m,rfl⟩:∃ m:Nat,a=(m:Int):=⟨a.toNat,by omega⟩;refine A1 (λhm=>?_) (λhm=>?_)
   . have d:m<w.Items.length:=by omega
     refine B3 d (FR ?_);by_cases e:(w.Items[m]).At=i
     . have V:(O5 (w.Items[m]).At i==0)=true:=by rw[beq_iff_eq,tI]; exact e
       dsimp only;rw[V];refine AC rfl (B3 d ?_);have:=UH hi (List.getElem_mem d);rw[e] at this;rw[this] at J;exact J
     . have V:(O5 (w.Items[m]).At i==0)=false:=by rw[beq_eq_false_iff_ne,Ne,tI]; exact e
       dsimp only;rw[V];refine AU rfl ?_;rw[Q9 λs Z=>?_] at J
       . exact J
       . obtain⟨k,hk,rfl⟩:=List.getElem_of_mem Z;by_cases D:k<m
         . have:=U k hk (by omega); omega
         . by_cases hkm':k=m
           . subst hkm'; exact e
           . have h5:=hi.at hk (by omega:m<k); have h6:=h4 m d (by omega); omega
   . refine AU rfl ?_;rw[Q9 λs Z=>?_] at J
     . exact J
     . obtain⟨k,hk,rfl⟩:=List.getElem_of_mem Z;have:=U k hk (by omega); omega
def zSt:State:=⟨0,0,[],[],[]⟩
def G6 (s:State):Nat:=(s.High - s.Low).toNat
def StP (p:Plan) (s:State):Prop:=CS p=0∧0<=s.Low∧s.Low<=s.High∧s.High<=p.N∧s.A.length=G6 s∧s.B.length=G6 s∧YY s.On (s.High - s.Low)
instance (p:Plan) (s:State):Decidable (StP p s):=by unfold StP; infer_instance
def E3 (p:Plan) (s:State):State:=if StP p s then s else zSt
def dJ (s:State):Prop:=lK s.On∧s.On.length<=1000000
theorem RM {p:Plan} {s:State} {Q:State->Prop} (K:dJ s) (D:Q (E3 p s)):OM p s Q:=by
 unfold OM nQ;have hb (h:¬StP p s):A8 false (Q s) (Q zSt):=AC rfl (by unfold E3 at D; rwa [if_neg h] at D);refine V5 (BI (λh=>hb λd=>h d.1) (λh=>?_));have hr:=CG h;refine A1 (λV=>hb λd=>by have:=d.2.1; omega) (λV=>A1 (λZ=>hb λd=>by have:=d.2.2.1; omega) (λZ=>A1 (λW=>hb λd=>by have:=d.2.2.2.1; omega) (λW=>?_)));rw[AB (x:=s.High - s.Low) (by omega) (by omega)];refine AV (λO=>AV (λU=>?_) (λU=>hb λd=>by have:=d.2.2.2.2.2.1; unfold G6 at this; omega)) (λO=>hb λd=>by have:=d.2.2.2.2.1; unfold G6 at this; omega);refine Z0 K.1 K.2 (A1 (λJ=>?_) (λJ=>?_))
 . unfold E3 at D
   rwa [if_pos ⟨h,by omega,by omega,by omega,by unfold G6; omega,by unfold G6; omega,J⟩] at D
 . have:¬StP p s:=λd=>J d.2.2.2.2.2.2;unfold E3 at D
   rwa [if_neg this] at D
def QQ (n:Nat) (f:Nat->β):List β:=(List.range n).map f
def LM (n:Nat) (f:Nat->Bool):List Int:=((List.range n).filter f).map λi:Nat=>(i:Int)
theorem aV (n:Nat) (f:Nat->β):QQ (n+1) f=QQ n f++[f n]:=by simp[QQ,List.range_succ]
theorem QC (n:Nat) (f:Nat->β):(QQ n f).length=n:=by simp[QQ]
theorem W6 (n:Nat) (f:Nat->Bool):LM (n+1) f=if f n then LM n f++[(n:Int)] else LM n f:=by unfold LM;rw[List.range_succ,List.filter_append,List.map_append];split <;> simp_all[List.filter_cons]
theorem T2 (n:Nat) (f:Nat->Bool):(LM n f).length<=n:=by unfold LM;rw[List.length_map];exact Nat.le_trans (List.length_filter_le _ _) (by simp)
theorem aW {n:Nat} {f:Nat->Bool} {x:Int} (h:x∈LM n f):0<=x∧x<n:=by obtain⟨i,hi,rfl⟩:=List.mem_map.1 h;have:=List.mem_range.1 (List.mem_filter.1 hi).1;omega
theorem aX {n:Nat} {f:Nat->Int} {i:Nat} (h:i<n):BD (QQ n f) i=f i:=by unfold BD QQ;simp[List.getD_eq_getElem?_getD,h]
theorem pC {n:Nat} {f g:Nat->β} (h:∀ i,i<n->f i=g i):QQ n f=QQ n g:=List.map_congr_left λi hi=>h i (List.mem_range.1 hi)
theorem Ac2 {n:Nat} {f g:Nat->Bool} (h:∀ i,i<n->f i=g i):LM n f=LM n g:=by unfold LM; rw[List.filter_congr λi hi=>h i (List.mem_range.1 hi)]
def chS (low high:Int) (n:Nat) (g:Nat->Int×Int×Bool):State:=⟨low,high,QQ n λi=>(g i).1,QQ n λi=>(g i).2.1,lM n (LM n λi=>(g i).2.2)⟩
theorem gR {n:Nat} (hn:n<=4096) {F:Int->((Int×Int×Bool)->Prop)->Prop} {g:Nat->Int×Int×Bool} (hF:∀ (i:Nat) K,i<n->K (g i)->F i K) {low high:Int} {Q:State->Prop} (Z:Q (chS low high n g)) :
   AW (λ(s:(List Int)×(List Int)×(List Int)×Int) (D:((List Int)×(List Int)×(List Int)×Int)->Prop)=>match s with | (s145,s149,s153,s157)=>A8 (decide (s157<(n:Int))) (F s157 λd=>DA 8 s145 ([d.1]) λ_=>DA 8 s149 ([d.2.1]) λ_=>A8 d.2.2 (DA 8 s153 ([s157]) λ_=>D ((s145++([d.1])),(s149++([d.2.1])),(s153++([s157])),A6 (s157+1))) (D ((s145++([d.1])),(s149++([d.2.1])),s153,A6 (s157+1)))) (K1 (n:Int) s153 λO=>Q ({ Low:=low,High:=high,A:=s145,B:=s149,On:=O }:State))) (([]:List Int),([]:List Int),([]:List Int),0):=by
 refine AD (λ(s:List Int×List Int×List Int) i=>(s.1,s.2.1,s.2.2,i)) 0 n (by omega) (λi s=>s=(QQ i λi=>(g i).1,QQ i λi=>(g i).2.1,LM i λi=>(g i).2.2)) (by omega) rfl (λi s next _ hi V J=>?_) (λs next V=>?_) (s0:=([],[],[]))
 . subst V;have U:=T2 i λi=>(g i).2.2;refine A1 (λ_=>hF i _ hi (AH (by simp[QQ]; omega) (AH (by simp[QQ]; omega) ?_))) (λh=>by omega);have W:=W6 i λi=>(g i).2.2
   cases hb:(g i).2.2 with
   | true=>
    refine AU rfl (AH (by simp; omega) (J (_,_,_) ?_));simp only[aV,W,hb,if_true]
   | false=>
    refine AC rfl (J (_,_,_) ?_);simp only[aV,W,hb,Bool.false_eq_true,if_false]
 . subst V;refine A1 (λh=>by omega) (λ_=>?_);have U:=T2 n λi=>(g i).2.2;exact UE (by simp only; omega) (λx hx=>by have:=aW hx; unfold EZ; omega) Z
def An6:Int:=4611686018427387904
def dK (p:Plan) (v:Int):Int×Bool:=
 if p.Kind=3 then (v,true) else if p.Kind=5 then (0,false) else if p.Kind=4∧v=p.Source then (1,true) else if v=p.Source then (0,true) else if p.Kind=4 then (0,false) else if p.Kind=1 then (-1,false) else (An6,false)
theorem rB {p:Plan} {v:Int} {Q:Int×Bool->Prop} (d:Q (dK p v)):SN p v Q:=by
 unfold SN DB;unfold dK at d;refine AV (λh=>by rwa [if_pos h] at d) (λU=>AV (λh=>by rwa [if_neg U,if_pos h] at d) (λW=>?_));rw[if_neg U,if_neg W] at d
 have hk (h:¬(p.Kind=4∧v=p.Source)):A8 false (Q (1,true)) (A8 (v==p.Source) (A8 true (Q (0,true)) (A8 (p.Kind==1) (Q (-1,false)) (Q (4611686018427387904,false)))) (A8 (p.Kind==4) (Q (0,false)) (A8 (p.Kind==1) (Q (-1,false)) (Q (4611686018427387904,false))))):=by rw[if_neg h] at d;refine AC rfl (AV (λO=>AU rfl (by rwa [if_pos O] at d)) (λO=>?_));rw[if_neg O] at d;refine AV (λK=>by rwa [if_pos K] at d) (λK=>?_);rw[if_neg K] at d;exact AV (λD=>by rwa [if_pos D] at d) (λD=>by rwa [if_neg D] at d)
 refine AV (λJ=>?_) (λJ=>hk λh=>J h.1);by_cases hs:v=p.Source
 . rw[if_pos ⟨J,hs⟩] at d;exact AU (by simpa using hs) d
 . have V:(v==p.Source)=false:=by simpa using hs
   have:=hk λh=>hs h.2;rw[V] at this ⊢;exact this
def NY (p:Plan) (low high:Int):State:=
 if CS p=0∧0<=low∧low<=high∧high<=p.N then chS low high (high - low).toNat λi=>((dK p (low+i)).1,-1,(dK p (low+i)).2) else zSt
theorem rC {p:Plan} {low high:Int} {Q:State->Prop} (d:Q (NY p low high)):WV p low high Q:=by
 unfold WV;unfold NY at d;have hb (h:¬(CS p=0∧0<=low∧low<=high∧high<=p.N)):Q zSt:=by rwa [if_neg h] at d
 refine V5 (BI (λh=>hb λW=>h W.1) (λh=>A1 (λV=>hb (by omega)) (λV=>A1 (λU=>hb (by omega)) (λU=>A1 (λJ=>hb (by omega)) (λJ=>?_)))));rw[if_pos ⟨h,by omega,by omega,by omega⟩] at d;have hr:=CG h;have e:A6 (high - low)=((high - low).toNat:Int):=by rw[AB (by omega) (by omega)]; omega
 unfold OZ OY;rw[e];refine gR (F:=λa0 K=>SN p (A6 (low+a0)) λD=>K (D.1,(-1),D.2)) (by omega) (λi K hi O=>?_) d;rw[AB (x:=low+(i:Int)) (by omega) (by omega)];exact rB O
end Go.Proofs.YtkbkaodgfedfmaaGreat
