import Derived.Test.YtkbkaodgfedfmaaGreatBoxA
namespace Go.Proofs.YtkbkaodgfedfmaaGreat
open Go Go.Fw
set_option linter.unusedVariables false
set_option linter.unusedSimpArgs false
structure GC where
 p:Plan
 g:Graph
 T:List A3
 lim:Int
 m:Nat
 e:Int
 n:Nat
 ch:List ED
 R:Nat
 C:Nat
structure GC.Ok (c:GC):Prop where
 run:MRun c.p c.g c.lim c.T c.m c.e
 pn:c.p.N=c.n
 n4:c.n≤1000
 lm:c.lim≤39
 R1:1≤c.R∧c.R≤5
 C1:1≤c.C∧c.C≤5
 chl:c.ch.length≤1000
def XF (n k i:Nat):Nat:=i*n / k
theorem Ae9 {n k i:Nat} (hn:n<=4096) (hk:1<=k∧k<=8) (hi:i<=k):AJ n k i=(XF n k i:Int):=by unfold AJ; rw[if_pos ⟨⟨by omega,by omega⟩,by omega,by omega⟩];unfold yZ; rw[if_neg (by omega),if_neg (by omega)];unfold XF; rw[Int.natCast_ediv,Int.natCast_mul]
theorem AiZ {n k i j:Nat} (h:i<=j):XF n k i<=XF n k j:=Nat.div_le_div_right (Nat.mul_le_mul_right _ h)
theorem Aa8 (n k:Nat):XF n k 0=0:=by unfold XF; simp
theorem mY (n:Nat) {k:Nat} (h:1<=k):XF n k k=n:=by unfold XF; exact Nat.mul_div_cancel_left n (by omega)
theorem AnV {n k i:Nat} (h:1<=k) (hi:i<=k):XF n k i<=n:=by have:=AiZ (n:=n) (k:=k) hi; rwa [mY n h] at this
theorem Aj0 {n l m:Nat} (h:l+m<=n) (f:Nat->Int×Bool):LB ⟨n,KU n f⟩ l ((l+m:Nat):Int)=⟨m,KU m λk=>f (l+k)⟩:=by
 obtain⟨r,rfl⟩:∃ r,n=l+(m+r):=⟨n - (l+m),by omega⟩;have K:(KU l f).filter (λt=>decide ((l:Int)<=t.At∧t.At<((l+m:Nat):Int)))=[]:=List.filter_eq_nil_iff.2 λx d=>by have:=gW d; simp; omega
 have J:((KU m λj=>f (l+j)).filter λx=>decide ((l:Int)<=l+x.At∧l+x.At<((l+m:Nat):Int)))=KU m λj=>f (l+j):=List.filter_eq_self.2 λx d=>by have:=gW d; simp; omega
 have D:((KU r λj=>f (l+(m+j))).filter λx=>decide ((l:Int)<=l+(m+x.At)∧l+(m+x.At)<((l+m:Nat):Int)))=[]:=List.filter_eq_nil_iff.2 λx d=>by have:=gW d; simp; omega
 unfold LB;congr 1
 . omega
 . simp only;rw[zP,zP m r,List.filter_append,K,List.nil_append,List.map_append,List.filter_append,List.map_map];rw[List.filter_map,List.filter_map];simp only[Function.comp_def];rw[J,D];simp;exact(List.map_congr_left λx _=>by obtain⟨a,v⟩:=x; show(⟨(l:Int)+a - l,v⟩:AM)=⟨a,v⟩; congr 1; omega).trans (List.map_id _)
section
variable (c:GC)
def GC.G (k:Nat):GV:=GS c.p c.T c.n k
def GC.tV (t:Nat):Nat->Int×Bool:=λv=>gV c.p t v (c.G (t - 1) v)
def GC.vV (t:Nat):Vec:=⟨c.n,KU c.n (c.tV t)⟩
def GC.rg (t:Nat):Int:=JD c.p.Kind t
def GC.ls (i:Nat):Nat:=XF c.n c.R i
def GC.ln (i:Nat):Nat:=XF c.n c.R (i+1) - XF c.n c.R i
def GC.cs (j:Nat):Nat:=XF c.n c.C j
def GC.sg (k i:Nat):State:=CN (c.ls i) (c.ln i) (c.G k)
def GC.U:Nat:=if c.e=3 then c.m+2 else c.m+1
def GC.st (t:Nat):Int:=if t+1=c.U then c.e else 0
def GC.ovV (t:Nat) (v:Nat):Prop:=gX c.p (c.G (t - 1) v)=true∧∃ w,rG c.p c.T c.n t (c.G (t - 1)) v=some w∧(LJ w).2=false
def GC.ovP (t i:Nat):Prop:=t≠0∧∃ k,k<c.ln i∧c.ovV t (c.ls i+k)
noncomputable def GC.ov (t i:Nat):Bool:=@decide (c.ovP t i) (Classical.propDecidable _)
theorem GC.ov_iff {t i:Nat}:c.ov t i=true↔c.ovP t i:=@decide_eq_true_iff _ (Classical.propDecidable _)
def GC.lvV (t:Nat) (v:Nat):Bool:=if c.p.Kind=5 then (c.G t v).1==0 else (c.G t v).2.2
def GC.lv (t i:Nat):Int:=if c.p.Kind=4∧c.p.Length<=t then 0 else ((HX (c.ln i) λk=>c.lvV t (c.ls i+k):Nat):Int)
def GC.tb (i j:Nat):List A3:=Tb c.n c.n c.T c.R c.C i j
def GC.rows (i j:Nat):Rows:=BH (HW c.n c.R i) (HW c.n c.C j) (c.tb i j)
def GC.cols (i j:Nat):AN:=SU (HW c.n c.R i) (HW c.n c.C j) (MO (HW c.n c.C j) (c.tb i j))
def GC.piece (t j:Nat):Vec:=FG (c.vV t) c.C j
def GC.slice (t i j:Nat):Vec:=QP (FG (c.vV t) c.R i) c.n c.R c.C i j
def GC.blk (t i j:Nat):List B8:=AlY (c.rg t) c.n c.n c.T (c.vV t) c.R c.C i j
end
variable {c:GC}
section
theorem GC.Ok.mp (h:c.Ok):(c.n:Int)<=4096∧I8 c.R∧I8 c.C:=by have:=h.n4; have:=h.R1; have:=h.C1; unfold I8; omega
theorem GC.Ok.lowR (h:c.Ok) {i:Nat} (hi:i<=c.R):AJ c.n c.R i=(c.ls i:Int):=Ae9 (by have:=h.n4; omega) (by have:=h.R1; omega) hi
theorem GC.Ok.lowC (h:c.Ok) {j:Nat} (d:j<=c.C):AJ c.n c.C j=(c.cs j:Int):=Ae9 (by have:=h.n4; omega) (by have:=h.C1; omega) d
theorem GC.Ok.ls_ln (h:c.Ok) (i:Nat):c.ls i+c.ln i=c.ls (i+1):=by have:=AiZ (n:=c.n) (k:=c.R) (show i<=i+1 by omega); unfold GC.ls GC.ln; omega
theorem GC.Ok.ls_n (h:c.Ok) {i:Nat} (hi:i<c.R):c.ls i+c.ln i<=c.n:=by rw[h.ls_ln]; exact AnV h.R1.1 (by omega)
theorem GC.Ok.siz (h:c.Ok) {i:Nat} (hi:i<c.R):HW c.n c.R i=(c.ln i:Int):=by
 have e:AJ c.n c.R ((i:Int)+1)=(c.ls (i+1):Int):=by have:=h.lowR (i:=i+1) (by omega); simpa using this
 unfold HW; rw[if_pos (by omega),e,h.lowR (by omega),<-h.ls_ln i]; omega
theorem GC.Ok.vec (h:c.Ok) (t:Nat):VecP (c.vV t):=zQ (by have:=h.n4; omega) _
theorem GC.Ok.out_part (h:c.Ok) {k i:Nat} (hi:i<c.R):XX c.p (c.sg k i) ((k:Int)+1)=FG (c.vV (k+1)) c.R i:=by
 have D:=h.ls_n hi;have e:AJ c.n c.R ((i:Int)+1)=(c.ls (i+1):Int):=by have:=h.lowR (i:=i+1) (by omega); simpa using this
 have d:=Aj0 D (c.tV (k+1));rw[jT (h.vec _) h.mp.2.1 (by omega)];show _=LB ⟨c.n,KU c.n (c.tV (k+1))⟩ (AJ c.n c.R i) (AJ c.n c.R ((i:Int)+1));rw[e,h.lowR (by omega),<-h.ls_ln i,d];unfold GC.sg;rw[wC h.run.rp (by have:=h.pn; omega)];rfl
theorem GC.Ok.fit (h:c.Ok) {t j:Nat} (hj:j<c.C):Ak7 c.n c.R c.C j ((List.range c.R).map λi:Nat=>c.slice t i j)=(c.piece t j,0):=by
 have U:=h.vec t;have hp:=h.mp.2.1; have hq:=h.mp.2.2; have hp':=hp; have hq':=hq;unfold I8 at hp' hq';have K:(0:Int)<=c.n:=by omega
 have hn1:=h.mp.1;have hg:∀ i:Nat,i<c.R->W4 (c.R:Int) (c.C:Int) (i:Int) (j:Int):=λi hi=>⟨⟨hp,hq⟩,by omega,by omega⟩;have Z:=T0 (n:=c.n) (k:=c.C) (i:=j); have hbj1:=T0 (n:=c.n) (k:=c.C) (i:=(j:Int)+1); have O:=HR (n:=c.n) (k:=c.C) (show(j:Int)<=(j:Int)+1 by omega);have hbj2:=hbj1.2 K;have d:∀ x,AJ c.n c.C j<=WJ (AJ c.n c.C j) (AJ c.n c.C ((j:Int)+1)) x∧WJ (AJ c.n c.C j) (AJ c.n c.C ((j:Int)+1)) x<=AJ c.n c.C ((j:Int)+1):=λx=>by unfold WJ; repeat' split <;> omega
 unfold Ak7 AbY;rw[if_neg (λh=>h ⟨⟨K,hn1⟩,⟨hp,hq⟩,by omega,by omega⟩),if_neg (by simp),if_pos]
 . have D:=zG U (u:=λi:Nat=>c.slice t i j) (cl:=λi:Nat=>WJ (AJ c.n c.C j) (AJ c.n c.C ((j:Int)+1)) (AJ c.n c.R i)) (λi=>by have:=d (AJ c.n c.R i); show _∧_<=(c.n:Int); omega) (λi=>mV O (HR (by omega))) c.R 0 (λk hk=>by
    have J:=(jU U (hg k (by omega))).1;have h1:=d (AJ c.n c.R k); have h2:=d (AJ c.n c.R ((k:Int)+1));show FF (QP (FG (c.vV t) c.R k) c.n c.R c.C k j)=_;have V:QP (FG (c.vV t) c.R k) c.n c.R c.C k j=_:=J;rw[V,HQ]
    . rw[Int.natCast_add,Int.natCast_one]; rfl
    . exact AdP U (by show(0:Int)<=WJ (AJ c.n c.C j) (AJ c.n c.C ((j:Int)+1)) (AJ c.n c.R k); omega) (mV O (HR (by omega))) (by show WJ (AJ c.n c.C j) (AJ c.n c.C ((j:Int)+1)) (AJ c.n c.R ((k:Int)+1))<=(c.n:Int); omega))
   have hmv:oW c.n c.R:=⟨⟨K,hn1⟩,hp⟩;simp only[Int.natCast_zero,zB,Nat.zero_add] at D;rw[AdO hmv] at D;have e0:WJ (AJ c.n c.C j) (AJ c.n c.C ((j:Int)+1)) 0=AJ c.n c.C j:=by unfold WJ; have:=Z.1; repeat' split <;> omega
   have e1:WJ (AJ c.n c.C j) (AJ c.n c.C ((j:Int)+1)) c.n=AJ c.n c.C ((j:Int)+1):=by unfold WJ; have:=Z.2 K; repeat' split <;> omega
   rw[e0,e1,gP,<-List.range_eq_range'] at D;unfold GC.piece;rw[jT U hq (by omega)]; exact D
 . intro i hi;have hi':i<c.R:=by simpa using hi
   have e:((List.range c.R).map λi:Nat=>c.slice t i j)[i]=QP (FG (c.vV t) c.R i) c.n c.R c.C i j:=by simp[GC.slice]
   have J:=jU U (hg i (by omega));have h1:=d (AJ c.n c.R i); have h2:=d (AJ c.n c.R ((i:Int)+1));have W:QP (FG (c.vV t) c.R i) c.n c.R c.C i j=_:=J.1;rw[e,W];exact⟨AdP U (by show(0:Int)<=WJ (AJ c.n c.C j) (AJ c.n c.C ((j:Int)+1)) (AJ c.n c.R i); omega) (mV O (HR (by omega))) (by show WJ (AJ c.n c.C j) (AJ c.n c.C ((j:Int)+1)) (AJ c.n c.R ((i:Int)+1))<=(c.n:Int); omega),J.2.symm⟩
end
theorem AeA {f:List Int} {o:Bool} {x:B8} {Q:Bool->Prop} (d:lK f) (h:EZ x.At) (hQ:Q (!FS f o x.At)):D0 f o x Q:=by
 unfold D0;refine KT d h ?_;have:(EV f x.At==o) = !FS f o x.At:=by unfold FS; cases EV f x.At <;> cases o <;> rfl
 rwa [this]
theorem Aa9 {xs:List B8} {f:List Int} {o:Bool} {Q:Int->Prop} (hl:xs.length<=1000000) (K:lK f) (D:∀ x∈xs,EZ x.At)
   (V:∀ (i:Nat) (hi:i<xs.length),FS f o xs[i].At=false->(∀ (k:Nat) (hk:k<xs.length),k<i->FS f o xs[k].At=true)->Q i) (W:(∀ x∈xs,FS f o x.At=true)->Q (-1)):CF xs f o Q:=by
 unfold CF;refine CM xs.length (by omega) (λi=>∀ (k:Nat) (hk:k<xs.length),k<i->FS f o xs[k].At=true) (λk hk h=>by omega) (λi next hi d U=>?_) (λnext d=>?_)
 . refine A1 (λ_=>B3 hi (AeA K (D _ (List.getElem_mem hi)) (BK (λh=>V i hi h d) (λh=>U λk hk O=>?_)))) (λh=>by omega);rcases Nat.lt_or_ge k i with J | J
   . exact d k hk J
   . obtain rfl:k=i:=by omega
     exact h
 . refine A1 (λh=>by omega) (λ_=>W λx D=>?_);obtain⟨k,hk,rfl⟩:=List.getElem_of_mem D;exact d k hk hk
theorem AaA {P:B8->Bool} {xs:List B8} (h:∀ x∈xs,P x=true):xs.filter P=xs:=List.filter_eq_self.2 h
theorem wH {xs:List B8} {f:List Int} {o:Bool} {Q:List B8->Prop} (hl:xs.length<=1000000) (hf:lK f) (hx:∀ x∈xs,EZ x.At)
   (hQ:Q (xs.filter λx=>FS f o x.At)):CE xs f o Q:=by
 unfold CE;refine Aa9 hl hf hx (λd hi0 hno O=>?_) (λJ=>?_);rotate_left
 . exact AU rfl (by rwa [AaA J] at hQ)
 refine AV (λh=>by omega) (λ_=>?_);have e0:A6 ((d:Int)+1)=((d+1:Nat):Int):=by rw[AB (by omega) (by omega)]; omega
 rw[e0]
 have htk:∀ k,k<=d->(xs.take k).filter (λx=>FS f o x.At)=xs.take k:=λk hk=>AaA λx hx=>by obtain⟨q,hq,rfl⟩:=List.getElem_of_mem hx;simp only[List.length_take] at hq;rw[List.getElem_take]; exact O q (by omega) (by omega)
 refine AD (σ:=List B8×Nat) (λs j=>(s.1,(s.2:Int),j)) (d+1) xs.length (s0:=(xs,d)) (by omega)
   (λj s=>s.1.length=xs.length∧s.2<j∧s.1.take s.2=(xs.take j).filter (λx=>FS f o x.At)∧s.1.drop j=xs.drop j) (by omega) ⟨rfl,by simp,?_,rfl⟩ (λj s next hj0 Z hI hn=>?_) (λs next hI=>?_)
 . rw[List.take_succ_eq_append_getElem hi0,List.filter_append,htk d (Nat.le_refl _)];simp[hno]
 . obtain⟨ys,i⟩:=s;obtain⟨U,h2,D,W⟩:=hI;simp only at U h2 D W ⊢;have K:j<ys.length:=by omega
   have hy:ys[j]=xs[j]:=by
    have e1:(ys.drop j)[0]? = (xs.drop j)[0]?:=by rw[W]
    simpa[List.getElem?_drop,Z,K] using e1
   have V:ys.drop (j+1)=xs.drop (j+1):=by have:=congrArg (List.drop 1) W;simpa[List.drop_drop,Nat.add_comm] using this
   refine A1 (λ_=>B3 K (AeA hf (hx _ (by rw[hy]; exact List.getElem_mem Z)) (by
    rw[Bool.not_not]
    cases hk:FS f o ys[j].At with
    | true=>
     refine AU rfl (B3 (by omega) ?_);have e1:A6 ((i:Int)+1)=((i+1:Nat):Int):=by rw[AB (by omega) (by omega)]; omega
     have:=hn (ys.set i ys[j],i+1) ⟨by simp[U],by omega,?_,?_⟩
     . simpa[e1] using this
     . simp only;rw[List.take_succ_eq_append_getElem (by simp; omega),List.take_succ_eq_append_getElem Z,List.filter_append,<-D];rw[hy] at hk;simp[hk,hy,List.take_set];exact List.set_eq_of_length_le (List.length_take_le i ys)
     . simp only;rw[List.drop_set,if_pos (by omega)]; exact V
    | false=>
     refine AC rfl ?_;have:=hn (ys,i) ⟨U,by omega,?_,V⟩
     . exact this
     . simp only;rw[List.take_succ_eq_append_getElem Z,List.filter_append,<-D];rw[hy] at hk;simp[hk]))) (λh=>by omega)
 . obtain⟨ys,i⟩:=s;obtain⟨U,h2,D,W⟩:=hI;simp only at U h2 D W ⊢;refine A1 (λh=>by omega) (λ_=>⟨by omega,by omega,by omega,⟨by omega,by omega,by omega,?_⟩⟩);rw[Int.toNat_natCast,D,List.take_length]; exact hQ
theorem AeB (P:Int->Bool):∀ (l:List B8) (i:Int),lk (l.filter λs=>P s.At) i=if P i=true then lk l i else none
 | [],i=>by simp[oN]
 | s :: l,i=>by
  have ih:=AeB P l i;rw[List.filter_cons];by_cases h:P s.At=true
  . rw[if_pos h,DT,DT,ih];by_cases e:i=s.At
    . subst e; rw[if_pos rfl,if_pos rfl,if_pos h]
    . rw[if_neg e,if_neg e]
  . rw[if_neg h,ih,DT];by_cases e:i=s.At
    . subst e; rw[if_neg h,if_neg h]
    . rw[if_neg e]
def uB (r:Int) (F:Nat->Option AL) (L:List Nat):Option AL:=L.foldl (λd j=>iX r d (F j)) none
theorem mZ {r:Int} {F:Nat->Option AL}:∀ (L:List Nat) (d:Option AL),L.foldl (λd j=>iX r d (F j)) d=(L.filterMap F).foldl (λd w=>iX r d (some w)) d
 | [],_=>rfl
 | j :: L,d=>by
  rw[List.foldl_cons,List.filterMap_cons]
  cases h:F j with
  | none=>rw[SW]; exact mZ L d
  | some w=>exact mZ L _
theorem AfW {r:Int} {F:Nat->Option AL} {L M:List Nat} (hp:L.Perm M) (J:∀ j w,F j=some w->Q6 w):uB r F L=uB r F M:=by unfold uB;rw[mZ,mZ];exact AiQ (hp.filterMap _) (λw d=>by obtain⟨j,_,D⟩:=List.mem_filterMap.1 d; exact J j w D) (λw h=>by cases h)
variable {c:GC}
structure Sm (c:GC) (t i:Nat) (L:List Nat) (s:List B8):Prop where
 rise:Rise s
 ok:qQ s
 at_:∀ x∈s,0≤x.At∧x.At<c.ln i
 lk:∀ x:Int,lk s x=uB (c.rg t) (fun j=>lk (c.blk t i j) x) L
theorem Sm.nil (c:GC) (t i:Nat):Sm c t i [] []:=⟨List.Pairwise.nil,(λs h=>nomatch h),(λs h=>nomatch h),λx=>rfl⟩
theorem ZD:∀ {s:List B8} {a n:Nat},Rise s->(∀ x∈s,(a:Int)<=x.At∧x.At<n)->s.length<=n - a
 | [],_,_,_,_=>by simp
 | x :: s,a,n,h,hb=>by have h1:=List.pairwise_cons.1 h;have hx:=hb x (by simp);have:=ZD (s:=s) (a:=x.At.toNat+1) (n:=n) h1.2 (λy d=>by have:=h1.1 y d; have:=hb y (by simp[d]); omega);simp only[List.length_cons]; omega
theorem Sm.len {t i:Nat} {L:List Nat} {s:List B8} (h:Sm c t i L s):s.length<=c.ln i:=by have:=ZD (a:=0) h.rise (by simpa using h.at_); omega
section
theorem GC.Ok.ln_n (h:c.Ok) (i:Nat) (hi:i<c.R):c.ln i<=1000:=by have:=h.ls_n hi; have:=h.n4; omega
theorem GC.Ok.ring (h:c.Ok) (t:Nat):1<=c.rg t∧c.rg t<=5:=zW (CG h.run.rp).1 t
theorem GC.Ok.blk_prop (h:c.Ok) (t:Nat) {i:Nat} (hi:i<c.R) (j:Nat):Rise (c.blk t i j)∧qQ (c.blk t i j)∧∀ x∈c.blk t i j,0<=x.At∧x.At<c.ln i:=by obtain⟨K,h2,J,d,_⟩:=SY (c.rg t) (HW c.n c.C j).toNat [] true (λa=>FW (QA (Tb c.n c.n c.T c.R c.C i j) a)) (FW (FG (c.vV t) c.C j).Items) (HW c.n c.R i).toNat;refine⟨K,J,λx D=>?_⟩;have:=d x D;rw[h.siz hi,Int.toNat_natCast] at this; exact this
theorem GC.Ok.blk_ok (h:c.Ok) {t i j:Nat} (hi:i<c.R) {x:Int} {w:AL} (d:Go.Proofs.YtkbkaodgfedfmaaGreat.lk (c.blk t i j) x=some w):Q6 w:=(h.blk_prop t hi j).2.1 ⟨x,w⟩ (jN d)
theorem GC.Ok.sm_add (h:c.Ok) {t i j:Nat} {L:List Nat} {s:List B8} (hi:i<c.R) (d:Sm c t i L s):oR (c.rg t) [s,c.blk t i j]=(L5 (c.rg t) s (c.blk t i j),0)∧Sm c t i (L++[j]) (L5 (c.rg t) s (c.blk t i j)):=by
 obtain⟨J,b2,b3⟩:=h.blk_prop t hi j;obtain⟨U,_,V,W⟩:=VX (c.rg t) s (c.blk t i j) d.rise J;refine⟨?_,U,V d.ok b2,λx Z=>?_,λx=>?_⟩
 . unfold oR;rw[if_neg (λh'=>h' (h.ring t)),if_neg]
   . unfold P7; simp[L5]
   . rintro⟨l,K,O⟩;simp only[List.mem_cons,List.not_mem_nil,or_false] at K;rcases K with rfl | rfl
     . exact O d.rise
     . exact O J
 . rcases X3 _ _ _ _ Z with⟨y,D,e⟩ | ⟨y,D,e⟩
   . rw[<-e]; exact d.at_ y D
   . rw[<-e]; exact b3 y D
 . rw[W,d.lk]; unfold uB; rw[List.foldl_append]; rfl
theorem GC.Ok.sm_all (h:c.Ok) {k i:Nat} {L:List Nat} {s:List B8} (hi:i<c.R) (K:L.Perm (List.range c.C)) (O:Sm c (k+1) i L s) {a:Nat} (ha:a<c.ln i) :
  lk s a=rG c.p c.T c.n (k+1) (c.G k) (c.ls i+a):=by
 have hn:=h.ls_n hi;have V:AJ c.n c.R ((i:Int)+1)=(c.ls (i+1):Int):=by have:=h.lowR (i:=i+1) (by omega); simpa using this
 rw[O.lk,AfW K (λj w U=>h.blk_ok hi U)];have D:=h.run.cn;rw[h.pn] at D;have J:=tE (r:=c.rg (k+1)) (T:=c.T) (v:=c.vV (k+1)) (x:=((c.ls i+a:Nat):Int)) D (h.vec (k+1)) rfl h.mp.2.1 h.mp.2.2 hi (by rw[h.lowR (by omega)]; omega) (by rw[V,<-h.ls_ln]; omega) c.C (Nat.le_refl _);have d:AJ c.n c.C c.C=(c.n:Int):=by rw[h.lowC (Nat.le_refl _)]; unfold GC.cs; rw[mY _ h.C1.1]
 rw[d,Int.toNat_natCast] at J;unfold rG;show _=NV (c.rg (k+1)) c.n (FW (QA c.T ((c.ls i+a:Nat):Int))) (FW (c.vV (k+1)).Items);rw[<-J];unfold uB AhU;rw[List.foldl_map];congr 1;funext acc j;unfold zF;rw[AhV,h.lowR (by omega)];have:((c.ls i+a:Nat):Int) - (c.ls i:Int)=(a:Int):=by omega
 rw[this]; rfl
theorem GC.Ok.sg_St (h:c.Ok) {i:Nat} (hi:i<c.R) (k:Nat):StP c.p (c.sg k i)∧dJ (c.sg k i)∧tJ (c.sg k i):=gU h.run.rp (by have:=h.ls_n hi; have:=h.pn; omega)
theorem GC.Ok.sg_sure (h:c.Ok) {i:Nat} (hi:i<c.R) (k:Nat):E3 c.p (c.sg k i)=c.sg k i:=if_pos (h.sg_St hi k).1
theorem GC.Ok.live (h:c.Ok) {i:Nat} (hi:i<c.R) (k:Nat):UJ c.p (c.sg k i) k=c.lv k i:=by unfold GC.sg;rw[zM h.run.rp (by have:=h.ls_n hi; have:=h.pn; omega)]; rfl
theorem GC.Ok.ask (h:c.Ok) {i a:Nat} (hi:i<c.R) (k:Nat) (d:a<c.ln i):FS (JU c.p (c.sg k i)).1 (JU c.p (c.sg k i)).2 a=gX c.p (c.G k (c.ls i+a)):=by
 have hl:=h.ln_n i hi;have K:G6 (c.sg k i)=c.ln i:=by show((((c.ls i+c.ln i:Nat):Int)) - ((c.ls i:Nat):Int)).toNat=c.ln i; omega
 have D:∀ j,j<c.ln i->BD (c.sg k i).A j=(c.G k (c.ls i+j)).1:=λj J=>aX J;unfold JU gX FS;rw[K];by_cases h1:c.p.Kind=1
 . rw[if_pos h1,if_pos h1];simp only;rw[jW d (by omega),D a d];simp
 . rw[if_neg h1,if_neg h1];by_cases h5:c.p.Kind=5
   . rw[if_pos h5,if_pos h5];simp only;rw[jW d (by omega),D a d];simp
   . rw[if_neg h5,if_neg h5];simp only;rw[S0 (by simp)];rfl
theorem GC.Ok.done (h:c.Ok) {k i:Nat} {L:List Nat} {s:List B8} (hi:i<c.R) (hL:L.Perm (List.range c.C)) (hs:Sm c (k+1) i L s) :
   (c.ov (k+1) i=true->cE (c.rg (k+1)) (c.ln i) (s.filter λx=>FS (JU c.p (c.sg k i)).1 (JU c.p (c.sg k i)).2 x.At)=(zV,12)) ∧
   (c.ov (k+1) i=false->∃ y,cE (c.rg (k+1)) (c.ln i) (s.filter λx=>FS (JU c.p (c.sg k i)).1 (JU c.p (c.sg k i)).2 x.At)=(y,0)∧y.Items.length<=1000∧dM c.p (c.sg k i) ((k:Int)+1) y=c.sg (k+1) i):=by
 have hl:=h.ln_n i hi;have J:∀ x∈(s.filter λx=>FS (JU c.p (c.sg k i)).1 (JU c.p (c.sg k i)).2 x.At),x∈s:=λx D=>(List.mem_filter.1 D).1;have W:Rise (s.filter λx=>FS (JU c.p (c.sg k i)).1 (JU c.p (c.sg k i)).2 x.At):=List.Pairwise.filter _ hs.rise
 have O:∀ a,a<c.ln i->lk (s.filter λx=>FS (JU c.p (c.sg k i)).1 (JU c.p (c.sg k i)).2 x.At) (a:Int)=if gX c.p (c.G k (c.ls i+a))=true then rG c.p c.T c.n (k+1) (c.G k) (c.ls i+a) else none:=λa U=>by rw[AeB (λz=>FS (JU c.p (c.sg k i)).1 (JU c.p (c.sg k i)).2 z),h.ask hi k U,h.sm_all hi hL hs U]
 have V:c.ov (k+1) i=true↔∃ x∈(s.filter λx=>FS (JU c.p (c.sg k i)).1 (JU c.p (c.sg k i)).2 x.At),(LJ x.Val).2=false:=by
   rw[GC.ov_iff];unfold GC.ovP GC.ovV;constructor
   . rintro⟨_,a,U,h1,w,h2,h3⟩;have:=O a U;rw[if_pos (show gX c.p (c.G k (c.ls i+a))=true from h1)] at this;exact⟨⟨a,w⟩,jN (this.trans h2),h3⟩
   . rintro⟨x,D,h3⟩;have hb:=hs.at_ x (J x D);have hx2:=oO W D;have e:x.At=((x.At.toNat:Nat):Int):=by omega
     have:=O x.At.toNat (by omega);rw[<-e,hx2] at this;split at this
     . rename_i h1;exact⟨by omega,x.At.toNat,by omega,h1,x.Val,this.symm,h3⟩
     . cases this
 generalize hF:(s.filter λx=>FS (JU c.p (c.sg k i)).1 (JU c.p (c.sg k i)).2 x.At)=F at *;have K:∀ x∈F,0<=x.At∧x.At<(c.ln i:Int):=λx D=>hs.at_ x (J x D)
 have Z:cE (c.rg (k+1)) (c.ln i) F=if ∃ s∈F,(LJ s.Val).2=false then (zV,12) else (⟨(c.ln i:Int),F.filterMap (sW (c.rg (k+1)))⟩,0):=by
   unfold cE;rw[if_neg (λd=>d (h.ring (k+1))),if_neg,if_neg (λd=>d W)];rintro(d | ⟨x,D,d⟩)
   . exact d ⟨by omega,by omega⟩
   . exact d (K x D)
 constructor
 . intro ho; rw[Z,if_pos (V.1 ho)]
 . intro ho;have hno:¬ ∃ s∈F,(LJ s.Val).2=false:=λd=>by rw[V.2 d] at ho; cases ho
   have hlen:(F.filterMap (sW (c.rg (k+1)))).length<=1000:=by have h1:=List.length_filterMap_le (sW (c.rg (k+1))) F;have h2:=ZD (a:=0) W (by simpa using K);omega
   refine⟨_,by rw[Z,if_neg hno],hlen,?_⟩;have hv:VecP ⟨(c.ln i:Int),F.filterMap (sW (c.rg (k+1)))⟩:=AdV ⟨by omega,by omega⟩ W K;unfold GC.sg;refine AdT (Y:=λv=>pJ c.p c.T c.n ((k:Int)+1) (c.G k) v) h.run.rp (by have:=h.ls_n hi; have:=h.pn; omega) hv rfl λa U=>?_;show FW (F.filterMap (sW (c.rg (k+1)))) (a:Int)=_;rw[AiM W,O a U];unfold pJ;split
   . rfl
   . rfl
end
structure MapR {α:Type} (m:List (Int×α)) (N:Nat) (dom:Nat→Bool) (P:Nat→α→Prop):Prop where
 ks:F0 m
 key:∀ k∈m.map (·.1),∃ i,i<N∧k=(i:Int)∧dom i=true
 get:∀ i,i<N→dom i=true→∃ v,B9 (i:Int) m=some v∧P i v
section
variable {α:Type} {m:List (Int×α)} {N:Nat} {dom:Nat→Bool} {P:Nat→α→Prop}
theorem MapR.nil (N:Nat) (P:Nat->α->Prop) (h:∀ i,i<N->dom i=false):MapR [] N dom P:=⟨List.nodup_nil,λk hk=>by simp at hk,λi hi d=>by rw[h i hi] at d; cases d⟩
theorem MapR.no (h:MapR m N dom P) {i:Nat} (D:dom i=false):B9 (i:Int) m=none:=ZX λhk=>by
 obtain⟨j,_,e,d⟩:=h.key _ hk;obtain rfl:i=j:=by omega
 rw[D] at d; cases d
theorem MapR.congr (h:MapR m N dom P) {d:Nat->Bool} {O:Nat->α->Prop} (U:∀ i,i<N->d i=dom i) (W:∀ i v,i<N->P i v->O i v):MapR m N d O:=
 ⟨h.ks,λk hk=>by obtain⟨i,D,K,V⟩:=h.key k hk; exact⟨i,D,K,by rw[U i D]; exact V⟩,λi hi J=>by obtain⟨v,D,K⟩:=h.get i hi (by rw[<-U i hi]; exact J); exact⟨v,D,W i v hi K⟩⟩
theorem MapR.put (h:MapR m N dom P) {i:Nat} {v:α} (hi:i<N) (hd:dom i=false) (U:P i v):MapR (DK (i:Int) v m) N (λk=>if k=i then true else dom k) P:=by
 refine⟨GQ h.ks _ _,λk hk=>?_,λk hk d=>?_⟩
 . rw[jF] at hk
   have J:k∈m.map (·.1)∨k=(i:Int):=by
     split at hk
     . exact .inl hk
     . simpa using hk
   rcases J with hk | rfl
   . obtain⟨j,K,D,O⟩:=h.key k hk;exact⟨j,K,D,by split <;> first | rfl | exact O⟩
   . exact⟨i,hi,rfl,if_pos rfl⟩
 . by_cases e:k=i
   . subst e; exact⟨v,CO _ _ _,U⟩
   . rw[if_neg e] at d;obtain⟨w,K,D⟩:=h.get k hk d;exact⟨w,by rw[DJ (by omega)]; exact K,D⟩
theorem MapR.len (h:MapR m N dom P):m.length=((List.range N).filter dom).length:=by
 have hp:(m.map (·.1)).Perm (((List.range N).filter dom).map λi:Nat=>(i:Int)):=by
  refine(List.perm_ext_iff_of_nodup h.ks ?_).2 λk=>⟨λhk=>?_,λhk=>?_⟩
  . exact List.Pairwise.map (S:=(· ≠ ·)) (λi:Nat=>(i:Int)) (R:=(· ≠ ·)) (λa b d e=>d (by have:(a:Int)=b:=e; omega)) (List.Pairwise.filter _ List.nodup_range)
  . obtain⟨i,J,D,K⟩:=h.key k hk;exact List.mem_map.2 ⟨i,List.mem_filter.2 ⟨List.mem_range.2 J,K⟩,D.symm⟩
  . obtain⟨i,hi,rfl⟩:=List.mem_map.1 hk;obtain⟨J,D⟩:=List.mem_filter.1 hi;obtain⟨v,O,_⟩:=h.get i (List.mem_range.1 J) D;exact xT O
 have:=hp.length_eq;simpa using this
theorem MapR.full (h:MapR m N dom P):(m.length<N↔∃ i,i<N∧dom i=false):=by
 rw[h.len];constructor
 . intro d;rcases Classical.em (∃ i,i<N∧dom i=false) with D | D
   . exact D
   . have:(List.range N).filter dom=List.range N:=List.filter_eq_self.2 λi hi=>by
      cases J:dom i with
      | true=>rfl
      | false=>exact absurd ⟨i,List.mem_range.1 hi,J⟩ D
     rw[this] at d; simp at d
 . rintro⟨i,hi,J⟩;have h1:((List.range N).filter dom).length<=N:=by have:=List.length_filter_le dom (List.range N); simpa using this
   rcases Nat.lt_or_ge ((List.range N).filter dom).length N with K | K
   . exact K
   . have U:(List.range N).filter dom=List.range N:=List.filter_sublist.eq_of_length (by simp; omega);have O:i∈(List.range N).filter dom:=by rw[U]; exact List.mem_range.2 hi
     have:=(List.mem_filter.1 O).2;rw[J] at this; cases this
theorem MapR.mem (h:MapR m N dom P) {x:Int×α} (d:x∈m):∃ i,i<N∧x.1=(i:Int)∧dom i=true∧P i x.2:=by
 obtain⟨i,U,O,K⟩:=h.key x.1 (List.mem_map.2 ⟨x,d,rfl⟩);obtain⟨v,V,h5⟩:=h.get i U K
 have Z:∀ (l:List (Int×α)),F0 l->x∈l->B9 x.1 l=some x.2:=by
  intro l
  induction l with
  | nil=>intro _ h; cases h
  | cons y l W=>
   intro hk d;have D:=List.nodup_cons.1 hk;rcases List.mem_cons.1 d with e | d
   . subst e; simp[B9]
   . have J:x.1≠y.1:=λe=>D.1 (List.mem_map.2 ⟨x,d,e⟩);have:=W D.2 d;simp only[B9]; rw[if_neg J]; exact this
 have:=Z m h.ks d;rw[O,V] at this;exact⟨i,U,O,K,by rw[<-Option.some.inj this]; exact h5⟩
end
section
variable (c:GC)
def GC.num (i j:Nat):Int:=((i*c.C+j:Nat):Int)
noncomputable def GC.fVote (u i:Nat):AA:=⟨4,c.num i 0,0,0,u,zV,[],[],if c.ov u i=true then 0 else c.lv u i,c.ov u i⟩
def GC.fOrder (t i:Nat):AA:=⟨5,0,c.num i 0,0,t,zV,[],[],c.st t,false⟩
def GC.fShare (u i j:Nat):AA:=⟨1,c.num i 0,j,0,u,c.slice u i j,[],[],0,false⟩
def GC.fSpread (u j i:Nat):AA:=⟨2,j,c.num i j,0,u,c.piece u j,[],[],0,false⟩
def GC.fGather (u i j:Nat):AA:=⟨3,c.num i j,c.num i 0,0,u,zV,c.blk u i j,[],0,false⟩
end
variable {c:GC}
structure Wst (c:GC) (i j:Nat) (w:A0):Prop where
 pl:w.place=⟨i,j⟩
 pn:w.plan=c.p
 gr:w.grid=⟨c.R,c.C⟩
 lm:w.limit=c.lim
 ch:w.choices=c.ch
 ro:w.rows=c.rows i j
 co:w.cols=c.cols i j
theorem WA {w:A0} {C a b:Nat} {Q:Int->Prop} (O:w.grid.j=C) (hC:1<=C∧C<=5) (ha:a<8) (hb:b<C) (K:Q ((a*C+b:Nat):Int)):BR w a b Q:=by
 unfold BR dB;rw[O];refine gN ?_;rw[decide_eq_true (show I8 (C:Int) by unfold I8; omega)];have h1:a*C<=8*5:=Nat.mul_le_mul (by omega) (by omega);refine AC rfl (A1 (λh=>by omega) λ_=>A1 (λh=>by omega) λ_=>A1 (λh=>by omega) λ_=>A1 (λh=>by omega) λ_=>?_);have D:(a:Int)*C=((a*C:Nat):Int):=by rw[Int.natCast_mul]
 have d:A6 ((a*C:Nat):Int)=((a*C:Nat):Int):=AB (by omega) (by omega);rw[D,d,AB (by omega) (by omega)];have J:((a*C:Nat):Int)+(b:Int)=((a*C+b:Nat):Int):=by omega
 rw[J]; exact K
theorem kB {i j:Nat} {w:A0} {f:AA} {Q:A0->Prop} (h:c.Ok) (d:Wst c i j w) (hi:i<c.R) (D:j<c.C) (hl:w.out.length<=100000)
  (J:Q { w with out:=w.out++[{ f with From:=c.num i j }] }):BQ w f Q:=by
 unfold BQ;rw[show w.place.i=(i:Int) by rw[d.pl],show w.place.j=(j:Int) by rw[d.pl]];have:=h.R1; have:=h.C1;exact WA (by rw[d.gr]) h.C1 (by omega) D (AH (by simp; omega) J)
theorem wI {i:Nat} {w:A0} {k:Nat} {Q:A0->Prop} (h:c.Ok) (d:Wst c i 0 w) (hi:i<c.R) (O:w.out.length<=100000) (K:c.ov k i=false->w.aside=c.sg k i)
  (D:Q { w with waits:=true,out:=w.out++[c.fVote k i] }):CU w k (c.ov k i) Q:=by
 unfold CU;have hC:=h.C1;have J:Wst c i 0 { w with waits:=true }:=⟨d.pl,d.pn,d.gr,d.lm,d.ch,d.ro,d.co⟩
 cases hov:c.ov k i with
 | true=>
  refine AC rfl (kB (j:=0) h J hi (by omega) O ?_);unfold GC.fVote at D; rw[hov] at D; exact D
 | false=>
  refine AU rfl ?_;refine vZ (by rw[K hov]; exact(h.sg_St hi k).2.1) ?_;rw[show UJ w.plan w.aside k=c.lv k i by rw[d.pn,K hov]; exact h.live hi k];refine kB (j:=0) h J hi (by omega) O ?_;unfold GC.fVote at D; rw[hov] at D; exact D
theorem Aj1 {i:Nat} {w:A0} {k:Nat} {Q:A0->Prop} (h:c.Ok) (hw:Wst c i 0 w) (hi:i<c.R) (hl:w.out.length<=1000) (hk:k<=100000) (hr:w.round=k) (hh:w.has=c.sg k i)
   (hQ:Q { w with out:=w.out++(List.range c.C).map (c.fShare (k+1) i),sums:=[],came:=[] }):F8 w Q:=by
 obtain⟨pl,pn,gr,lm,ch,ro,co,out,U,J,K,round,d,has,V,W,Z,sums,came,vote,O,D⟩:=w;obtain⟨w1,w2,w3,w4,w5,w6,w7⟩:=hw;simp only at w1 w2 w3 w4 w5 w6 w7 hl hr hh hQ;subst w1 w2 w3 w4 w5 w6 w7 hr hh;unfold F8;have hC:=h.C1; have hn4:=h.n4;have e1:A6 ((k:Int)+1)=((k+1:Nat):Int):=by rw[AB (by omega) (by omega)]; omega
 simp only[e1];refine zK (h.sg_St hi k).2.1 (by omega) ?_;have e2:XX c.p (c.sg k i) ((k+1:Nat):Int)=FG (c.vV (k+1)) c.R i:=h.out_part hi;rw[e2];refine AD (σ:=List AA) (τ:=A0×Int) (λs j=>(⟨⟨i,(0:Nat)⟩,c.p,⟨c.R,c.C⟩,c.lim,c.ch,c.rows i 0,c.cols i 0,s,U,J,K,k,d,c.sg k i,V,W,Z,sums,came,vote,O,D⟩,j)) 0 c.C (s0:=out) (by omega) (λj s=>s=out++(List.range j).map (c.fShare (k+1) i)) (by omega) (by simp) (λj s next _ hj hs hn=>?_) (λs next hs=>?_)
 . subst hs;refine A1 (λ_=>?_) (λh=>absurd (show(j:Int)<c.C by omega) h);simp only[e1,h.pn];refine oX (by have:=jS (c.vV (k+1)) c.R i; have:=gT c.n (c.tV (k+1)); show(FG (c.vV (k+1)) c.R i).Items.length<=_; unfold GC.vV at *; simp only at *; omega) ?_;refine kB (i:=i) (j:=0) h ⟨rfl,rfl,rfl,rfl,rfl,rfl,rfl⟩ hi (by omega) (by simp; omega) (hn _ ?_);rw[List.range_succ,List.map_append,<-List.append_assoc]; rfl
 . subst hs;refine A1 (λh=>absurd (show(c.C:Int)<c.C from h) (by omega)) (λ_=>?_);exact hQ
end Go.Proofs.YtkbkaodgfedfmaaGreat
