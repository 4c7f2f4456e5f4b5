import Derived.Test.YtieniichmjgmcaaGreatM
set_option linter.unusedVariables false
set_option linter.unusedSimpArgs false
namespace Go.Proofs.YtieniichmjgmcaaGreat
section
open Go Go.Fw
theorem AkK {f:List Int} {o:Bool} {x:BM} {Q:Bool->Prop} (d:qH f) (h:EC x.At) (D:Q (!HG f o x.At)):DG f o x Q:=by
 unfold DG;refine M5 d h ?_;have:(G2 f x.At==o) = !HG f o x.At:=by unfold HG; grind
 rwa [this]
theorem Af1 {xs:List BM} {f:List Int} {o:Bool} {Q:Int->Prop} (V:xs.length<=1000000) (O:qH f) (d:∀ x∈xs,EC x.At)
   (W:∀ (i:Nat) (hi:i<xs.length),HG f o xs[i].At=false->(∀ (k:Nat) (hk:k<xs.length),k<i->HG f o xs[k].At=true)->Q i) (U:(∀ x∈xs,HG f o x.At=true)->Q (-1)):CT xs f o Q:=by
 unfold CT;refine D7 xs.length (by omega) (λi=>∀ (k:Nat) (hk:k<xs.length),k<i->HG f o xs[k].At=true) (λk hk h=>by omega) (λi next hi D J=>?_) (λnext D=>?_)
 . refine A0 (λ_=>AW hi (AkK O (d _ (TF hi)) (CB (λh=>W i hi h D) (λh=>J λk hk _=>?_)))) (λh=>by omega);grind
 . refine A0 (λh=>by omega) (λ_=>U λx d=>?_);obtain⟨k,hk,rfl⟩:=WK d;grind
theorem Af2 {P:BM->Bool} {xs:List BM} (h:∀ x∈xs,P x=true):xs.filter P=xs:=List.filter_eq_self.2 h
theorem Ac8 {xs:List BM} {f:List Int} {o:Bool} {Q:List BM->Prop} (hl:xs.length<=1000000) (hf:qH f) (Z:∀ x∈xs,EC x.At)
   (hQ:Q (xs.filter λx=>HG f o x.At)):CQ xs f o Q:=by
 unfold CQ;refine Af1 hl hf Z (λd a5 a7 _=>?_) (λa4=>?_);rotate_left
 . exact B2 rfl (by rwa [Af2 a4] at hQ)
 refine B5 (λa3=>by omega) (λ_=>?_);have e0:A4 ((d:Int)+1)=((d+1:Nat):Int):=by rw[A6 (by omega) (by omega)]; omega
 rw[e0]
 have a8:∀ k,k<=d->(xs.take k).filter (λx=>HG f o x.At)=xs.take k:=λk hk=>Af2 λx Z=>by obtain⟨_,_,rfl⟩:=WK Z;grind
 refine A9 (σ:=List BM×Nat) (λs j=>(s.1,(s.2:Int),j)) (d+1) xs.length (s0:=(xs,d)) (by omega)
   (λj s=>s.1.length=xs.length∧s.2<j∧s.1.take s.2=(xs.take j).filter (λx=>HG f o x.At)∧s.1.drop j=xs.drop j) (by omega) ⟨rfl,by simp,?_,rfl⟩ (λj s next _ U J hn=>?_) (λs next J=>?_)
 . rw[eZ a5,fA,a8 d (YG _)];simp[a7]
 . have⟨ys,i⟩:=s;have⟨V,h,D,O⟩:=J;simp only at V h D O ⊢;have a6:j<ys.length:=by omega
   have W:ys[j]=xs[j]:=by
    have e1:(ys.drop j)[0]? = (xs.drop j)[0]?:=by rw[O]
    grind
   have a2:ys.drop (j+1)=xs.drop (j+1):=by have:=congrArg (List.drop 1) O;simpa[List.drop_drop,yI] using this
   refine A0 (λ_=>AW a6 (AkK hf (Z _ (by rw[W]; exact TF U)) (by
    rw[Bool.not_not]
    cases hk:HG f o ys[j].At with
    | true=>
     refine B2 rfl (AW (by omega) ?_);have e1:A4 ((i:Int)+1)=((i+1:Nat):Int):=by rw[A6 (by omega) (by omega)]; omega
     have:=hn (ys.set i ys[j],i+1) ⟨by simp[V],by omega,?_,?_⟩
     . simpa[e1] using this
     . simp only;rw[eZ (by simp; omega),eZ U,fA,<-D];rw[W] at hk;simp[hk,W,List.take_set];exact List.set_eq_of_length_le (List.length_take_le i ys)
     . simp only;rw[List.drop_set,if_pos (by omega)]; exact a2
    | false=>
     refine A8 rfl ?_;have:=hn (ys,i) ⟨V,by omega,?_,a2⟩
     . exact this
     . simp only;rw[eZ U,fA,<-D];rw[W] at hk;simp[hk]))) (λa3=>by omega)
 . have⟨ys,i⟩:=s;have⟨V,h,D,O⟩:=J;simp only at V h D O ⊢;refine A0 (λa3=>by omega) (λ_=>⟨by omega,by omega,by omega,⟨by omega,by omega,by omega,?_⟩⟩);grind
theorem AkL (P:Int->Bool):∀ (l:List BM) (i:Int),lk (l.filter λs=>P s.At) i=if P i=true then lk l i else none
 | [],i=>by simp[uD]
 | s :: l,i=>by
  have ih:=AkL P l i;rw[AnL];by_cases h:P s.At=true
  . rw[if_pos h,EA,EA,ih];grind
  . rw[if_neg h,ih,EA];grind
def AaD (r:Int) (F:Nat->Option AZ) (L:List Nat):Option AZ:=L.foldl (λd j=>nS r d (F j)) none
theorem sM {r:Int} {F:Nat->Option AZ}:∀ (L:List Nat) (d:Option AZ),L.foldl (λd j=>nS r d (F j)) d=(L.filterMap F).foldl (λd w=>nS r d (some w)) d
 | [],_=>rfl
 | j :: L,d=>by
  rw[aS,List.filterMap_cons]
  cases h:F j with
  | none=>rw[UD]; exact sM L d
  | some w=>exact sM L _
theorem AmQ {r:Int} {F:Nat->Option AZ} {L M:List Nat} (hp:L.Perm M) (J:∀ j w,F j=some w->S5 w):AaD r F L=AaD r F M:=by unfold AaD;rw[sM,sM];exact AqX (hp.filterMap _) (λw d=>by have⟨j,_,D⟩:=List.mem_filterMap.1 d; exact J j w D) (λw h=>by cases h)
variable {c:GC}
structure Sm (c:GC) (t i:Nat) (L:List Nat) (s:List BM):Prop where
 rise:Rise s
 ok:wR s
 at_:∀ x∈s,0≤x.At∧x.At<c.ln i
 lk:∀ x:Int,lk s x=AaD (c.rg t) (fun j=>lk (c.blk t i j) x) L
theorem Sm.nil (c:GC) (t i:Nat):Sm c t i [] []:=⟨List.Pairwise.nil,(λs h=>nomatch h),(λs h=>nomatch h),λ_=>rfl⟩
theorem cM:∀ {s:List BM} {a n:Nat},Rise s->(∀ x∈s,(a:Int)<=x.At∧x.At<n)->s.length<=n - a
 | [],_,_,_,_=>by simp
 | x :: s,a,n,h,hb=>by have h1:=List.pairwise_cons.1 h;have D:=hb x (by simp);have:=cM (s:=s) (a:=x.At.toNat+1) (n:=n) h1.2 (λy d=>by have:=h1.1 y d; have:=hb y (by simp[d]); omega);grind
theorem Sm.len {t i:Nat} {L:List Nat} {s:List BM} (h:Sm c t i L s):s.length<=c.ln i:=by have:=cM (a:=0) h.rise (by simpa using h.at_); omega
section
theorem GC.Ok.ln_n (h:c.Ok) (i:Nat) (hi:i<c.R):c.ln i<=1000:=by have:=h.ls_n hi; have:=h.n4; omega
theorem GC.Ok.ring (h:c.Ok) (t:Nat):1<=c.rg t∧c.rg t<=5:=AeU (BO h.run.rp).1 t
theorem GC.Ok.blk_prop (h:c.Ok) (t:Nat) {i:Nat} (hi:i<c.R) (j:Nat):Rise (c.blk t i j)∧wR (c.blk t i j)∧∀ x∈c.blk t i j,0<=x.At∧x.At<c.ln i:=by have⟨J,_,d,D,_⟩:=UG (c.rg t) (JX c.n c.C j).toNat [] true (λa=>GI (OW (Tb c.n c.n c.T c.R c.C i j) a)) (GI (FZ (c.vV t) c.C j).Items) (JX c.n c.R i).toNat;refine⟨J,d,λx O=>?_⟩;have:=D x O;rw[h.siz hi,VK] at this; exact this
theorem GC.Ok.blk_ok (h:c.Ok) {t i j:Nat} (hi:i<c.R) {x:Int} {w:AZ} (d:Go.Proofs.YtieniichmjgmcaaGreat.lk (c.blk t i j) x=some w):S5 w:=(h.blk_prop t hi j).2.1 ⟨x,w⟩ (oP d)
theorem GC.Ok.sm_add (h:c.Ok) {t i j:Nat} {L:List Nat} {s:List BM} (hi:i<c.R) (d:Sm c t i L s):uH (c.rg t) [s,c.blk t i j]=(MB (c.rg t) s (c.blk t i j),0)∧Sm c t i (L++[j]) (MB (c.rg t) s (c.blk t i j)):=by
 have⟨O,b2,_⟩:=h.blk_prop t hi j;have⟨W,_,V,q4⟩:=XT (c.rg t) s (c.blk t i j) d.rise O;refine⟨?_,W,V d.ok b2,λx hx=>?_,λx=>?_⟩
 . unfold uH;rw[if_neg (λZ=>Z (h.ring t)),if_neg]
   . unfold QA; simp[MB]
   . rintro⟨_,J,D⟩;simp only[SK,AnX,or_false] at J;rcases J with rfl | rfl
     . exact D d.rise
     . exact D O
 . rcases Z1 _ _ _ _ hx with⟨y,U,e⟩ | ⟨y,U,e⟩
   . rw[<-e]; exact d.at_ y U
   all_goals grind
 . rw[q4,d.lk]; grind[AaD]
theorem GC.Ok.sm_all (h:c.Ok) {k i:Nat} {L:List Nat} {s:List BM} (hi:i<c.R) (U:L.Perm (List.range c.C)) (O:Sm c (k+1) i L s) {a:Nat} (Z:a<c.ln i) :
  lk s a=fJ c.p c.T c.n (k+1) (c.G k) (c.ls i+a):=by
 have hn:=h.ls_n hi;have W:AQ c.n c.R ((i:Int)+1)=(c.ls (i+1):Int):=by have:=h.lowR (i:=i+1) (by omega); grind
 rw[O.lk,AmQ U (λj _ V=>h.blk_ok hi V)];have D:=h.run.cn;rw[h.pn] at D;have J:=zZ (r:=c.rg (k+1)) (T:=c.T) (v:=c.vV (k+1)) (x:=((c.ls i+a:Nat):Int)) D (h.vec (k+1)) rfl h.mp.2.1 h.mp.2.2 hi (by rw[h.lowR (by omega)]; omega) (by rw[W,<-h.ls_ln]; omega) c.C (YG _);have d:AQ c.n c.C c.C=(c.n:Int):=by rw[h.lowC (YG _)]; unfold GC.cs; rw[sL _ h.C1.1]
 rw[d,VK] at J;unfold fJ;show _=L0 (c.rg (k+1)) c.n (GI (OW c.T ((c.ls i+a:Nat):Int))) (GI (c.vV (k+1)).Items);rw[<-J];unfold AaD ApZ;rw[AiM];congr 1;funext acc j;unfold AeJ;rw[Aq0,h.lowR (by omega)];have:((c.ls i+a:Nat):Int) - (c.ls i:Int)=(a:Int):=by omega
 rw[this]; rfl
theorem GC.Ok.sg_St (h:c.Ok) {i:Nat} (hi:i<c.R) (k:Nat):StP c.p (c.sg k i)∧iR (c.sg k i)∧AqC (c.sg k i):=sH h.run.rp (by have:=h.ls_n hi; have:=h.pn; omega)
theorem GC.Ok.sg_sure (h:c.Ok) {i:Nat} (hi:i<c.R) (k:Nat):EN c.p (c.sg k i)=c.sg k i:=if_pos (h.sg_St hi k).1
theorem GC.Ok.live (h:c.Ok) {i:Nat} (hi:i<c.R) (k:Nat):P1 c.p (c.sg k i) k=c.lv k i:=by unfold GC.sg;rw[vF h.run.rp (by have:=h.ls_n hi; have:=h.pn; omega)]; rfl
theorem GC.Ok.ask (h:c.Ok) {i a:Nat} (hi:i<c.R) (k:Nat) (d:a<c.ln i):HG (L3 c.p (c.sg k i)).1 (L3 c.p (c.sg k i)).2 a=cJ c.p (c.G k (c.ls i+a)):=by
 have U:=h.ln_n i hi;have O:GZ (c.sg k i)=c.ln i:=by show((((c.ls i+c.ln i:Nat):Int)) - ((c.ls i:Nat):Int)).toNat=c.ln i; omega
 have D:∀ j,j<c.ln i->AY (c.sg k i).A j=(c.G k (c.ls i+j)).1:=λj J=>SY J;unfold L3 cJ HG;rw[O];by_cases h1:c.p.Kind=1
 . rw[if_pos h1,if_pos h1];simp only;rw[oZ d (by omega),D a d];simp
 . rw[if_neg h1,if_neg h1];by_cases h5:c.p.Kind=5
   . rw[if_pos h5,if_pos h5];simp only;rw[oZ d (by omega),D a d];simp
   . rw[if_neg h5,if_neg h5];simp only;rw[TB (by simp)];rfl
theorem GC.Ok.done (h:c.Ok) {k i:Nat} {L:List Nat} {s:List BM} (hi:i<c.R) (hL:L.Perm (List.range c.C)) (V:Sm c (k+1) i L s) :
   (c.ov (k+1) i=true->gA (c.rg (k+1)) (c.ln i) (s.filter λx=>HG (L3 c.p (c.sg k i)).1 (L3 c.p (c.sg k i)).2 x.At)=(zV,12)) ∧
   (c.ov (k+1) i=false->∃ y,gA (c.rg (k+1)) (c.ln i) (s.filter λx=>HG (L3 c.p (c.sg k i)).1 (L3 c.p (c.sg k i)).2 x.At)=(y,0)∧y.Items.length<=1000∧iU c.p (c.sg k i) ((k:Int)+1) y=c.sg (k+1) i):=by
 have hl:=h.ln_n i hi;have d:∀ x∈(s.filter λx=>HG (L3 c.p (c.sg k i)).1 (L3 c.p (c.sg k i)).2 x.At),x∈s:=λx D=>(List.mem_filter.1 D).1;have Z:Rise (s.filter λx=>HG (L3 c.p (c.sg k i)).1 (L3 c.p (c.sg k i)).2 x.At):=gX _ V.rise
 have W:∀ a,a<c.ln i->lk (s.filter λx=>HG (L3 c.p (c.sg k i)).1 (L3 c.p (c.sg k i)).2 x.At) (a:Int)=if cJ c.p (c.G k (c.ls i+a))=true then fJ c.p c.T c.n (k+1) (c.G k) (c.ls i+a) else none:=λa J=>by rw[AkL (λz=>HG (L3 c.p (c.sg k i)).1 (L3 c.p (c.sg k i)).2 z),h.ask hi k J,h.sm_all hi hL V J]
 have a5:c.ov (k+1) i=true↔∃ x∈(s.filter λx=>HG (L3 c.p (c.sg k i)).1 (L3 c.p (c.sg k i)).2 x.At),(IQ x.Val).2=false:=by
   rw[GC.ov_iff];unfold GC.ovP GC.ovV;constructor
   . rintro⟨_,a,J,h1,w,h2,h3⟩;have:=W a J;rw[if_pos (show cJ c.p (c.G k (c.ls i+a))=true from h1)] at this;exact⟨⟨a,w⟩,oP (this.trans h2),h3⟩
   . rintro⟨x,D,h3⟩;have hb:=V.at_ x (d x D);have a6:=uE Z D;have e:x.At=((x.At.toNat:Nat):Int):=by omega
     grind
 generalize hF:(s.filter λx=>HG (L3 c.p (c.sg k i)).1 (L3 c.p (c.sg k i)).2 x.At)=F at *;have O:∀ x∈F,0<=x.At∧x.At<(c.ln i:Int):=λx D=>V.at_ x (d x D)
 have a3:gA (c.rg (k+1)) (c.ln i) F=if ∃ s∈F,(IQ s.Val).2=false then (zV,12) else (⟨(c.ln i:Int),F.filterMap (nzI (c.rg (k+1)))⟩,0):=by unfold gA;rw[if_neg (λU=>U (h.ring (k+1))),if_neg,if_neg (λU=>U Z)];grind
 constructor
 . grind
 . intro ho;have a4:¬ ∃ s∈F,(IQ s.Val).2=false:=λU=>by rw[a5.2 U] at ho; cases ho
   have a2:(F.filterMap (nzI (c.rg (k+1)))).length<=1000:=by have h1:=List.length_filterMap_le (nzI (c.rg (k+1))) F;have h2:=cM (a:=0) Z (by simpa using O);omega
   refine⟨_,by rw[a3,if_neg a4],a2,?_⟩;have hv:VecP ⟨(c.ln i:Int),F.filterMap (nzI (c.rg (k+1)))⟩:=Ak9 ⟨by omega,by omega⟩ Z O;unfold GC.sg;refine Ak8 (Y:=λv=>G0 c.p c.T c.n ((k:Int)+1) (c.G k) v) h.run.rp (by have:=h.ls_n hi; have:=h.pn; omega) hv rfl λa J=>?_;show GI (F.filterMap (nzI (c.rg (k+1)))) (a:Int)=_;rw[AqR Z,W a J];unfold G0;split
   . rfl
   . rfl
end
structure MapR {α:Type} (m:List (Int×α)) (N:Nat) (dom:Nat→Bool) (P:Nat→α→Prop):Prop where
 ks:EU m
 key:∀ k∈m.map (·.1),∃ i,i<N∧k=(i:Int)∧dom i=true
 get:∀ i,i<N→dom i=true→∃ v,BC (i:Int) m=some v∧P i v
section
variable {α:Type} {m:List (Int×α)} {N:Nat} {dom:Nat→Bool} {P:Nat→α→Prop}
theorem MapR.nil (N:Nat) (P:Nat->α->Prop) (h:∀ i,i<N->dom i=false):MapR [] N dom P:=⟨Ao7,λ_ hk=>by simp at hk,λi hi d=>by rw[h i hi] at d; cases d⟩
theorem MapR.no (h:MapR m N dom P) {i:Nat} (d:dom i=false):BC (i:Int) m=none:=dJ λhk=>by have⟨_,_,_,_⟩:=h.key _ hk;grind
theorem MapR.congr (h:MapR m N dom P) {d:Nat->Bool} {U:Nat->α->Prop} (V:∀ i,i<N->d i=dom i) (W:∀ i v,i<N->P i v->U i v):MapR m N d U:=
 ⟨h.ks,λk hk=>by have⟨i,D,O,Z⟩:=h.key k hk; exact⟨i,D,O,by rw[V i D]; exact Z⟩,λi hi J=>by have⟨v,D,O⟩:=h.get i hi (by rw[<-V i hi]; exact J); exact⟨v,D,W i v hi O⟩⟩
theorem MapR.put (h:MapR m N dom P) {i:Nat} {v:α} (hi:i<N) (V:dom i=false) (U:P i v):MapR (DV (i:Int) v m) N (λk=>if k=i then true else dom k) P:=by
 refine⟨HO h.ks _ _,λk hk=>?_,λk hk d=>?_⟩
 . rw[oE] at hk
   have D:k∈m.map (·.1)∨k=(i:Int):=by grind
   rcases D with hk | rfl
   . have⟨_,O,J,_⟩:=h.key k hk;grind
   grind
 . by_cases e:k=i
   . subst e; exact⟨v,CO _ _ _,U⟩
   . rw[if_neg e] at d;have⟨w,O,J⟩:=h.get k hk d;exact⟨w,by rw[CW (by omega)]; exact O,J⟩
theorem MapR.len (h:MapR m N dom P):m.length=((List.range N).filter dom).length:=by
 have hp:(m.map (·.1)).Perm (((List.range N).filter dom).map λi:Nat=>(i:Int)):=by
  refine(AcX h.ks ?_).2 λk=>⟨λhk=>?_,λhk=>?_⟩
  . exact List.Pairwise.map (S:=(· ≠ ·)) (λi:Nat=>(i:Int)) (R:=(· ≠ ·)) (λa b d e=>d (by have:(a:Int)=b:=e; omega)) (gX _ List.nodup_range)
  . have⟨i,J,D,_⟩:=h.key k hk;grind
  . obtain⟨i,hi,rfl⟩:=List.mem_map.1 hk;have⟨J,D⟩:=List.mem_filter.1 hi;have⟨_,O,_⟩:=h.get i (List.mem_range.1 J) D;exact AdF O
 have:=hp.length_eq;grind
theorem MapR.full (h:MapR m N dom P):(m.length<N↔∃ i,i<N∧dom i=false):=by
 rw[h.len];constructor
 . intro J;rcases yK (∃ i,i<N∧dom i=false) with d | d
   . exact d
   . have:(List.range N).filter dom=List.range N:=List.filter_eq_self.2 λi hi=>by grind
     grind
 . rintro⟨i,hi,_⟩;have O:((List.range N).filter dom).length<=N:=by grind
   rcases aG ((List.range N).filter dom).length N with D | D
   . exact D
   . have U:(List.range N).filter dom=List.range N:=List.filter_sublist.eq_of_length (by simp; omega);simp_all
theorem MapR.mem (h:MapR m N dom P) {x:Int×α} (d:x∈m):∃ i,i<N∧x.1=(i:Int)∧dom i=true∧P i x.2:=by
 have⟨i,V,_,U⟩:=h.key x.1 (List.mem_map.2 ⟨x,d,rfl⟩);have⟨_,_,_⟩:=h.get i V U
 have W:∀ (l:List (Int×α)),EU l->x∈l->BC x.1 l=some x.2:=by
  intro l
  induction l with
  | nil=>grind
  | cons y l O=>
   intro hk d;have D:=List.nodup_cons.1 hk;rcases List.mem_cons.1 d with e | d
   . subst e; simp[BC]
   . have J:x.1≠y.1:=λe=>D.1 (List.mem_map.2 ⟨x,d,e⟩);have:=O D.2 d;simp only[BC]; grind
 have:=W m h.ks d;grind
end
section
variable (c:GC)
def GC.num (i j:Nat):Int:=((i*c.C+j:Nat):Int)
noncomputable def GC.fVote (u i:Nat):AK:=⟨4,c.num i 0,0,0,u,zV,[],[],if c.ov u i=true then 0 else c.lv u i,c.ov u i⟩
def GC.fOrder (t i:Nat):AK:=⟨5,0,c.num i 0,0,t,zV,[],[],c.st t,false⟩
def GC.fShare (u i j:Nat):AK:=⟨1,c.num i 0,j,0,u,c.slice u i j,[],[],0,false⟩
def GC.fSpread (u j i:Nat):AK:=⟨2,j,c.num i j,0,u,c.piece u j,[],[],0,false⟩
def GC.fGather (u i j:Nat):AK:=⟨3,c.num i j,c.num i 0,0,u,zV,c.blk u i j,[],0,false⟩
end
variable {c:GC}
structure Wst (c:GC) (i j:Nat) (w:A1):Prop where
 pl:w.place=⟨i,j⟩
 pn:w.plan=c.p
 gr:w.grid=⟨c.R,c.C⟩
 lm:w.limit=c.lim
 ch:w.choices=c.ch
 ro:w.rows=c.rows i j
 co:w.cols=c.cols i j
theorem Y5 {w:A1} {C a b:Nat} {Q:Int->Prop} (D:w.grid.j=C) (W:1<=C∧C<=5) (Z:a<8) (hb:b<C) (d:Q ((a*C+b:Nat):Int)):CI w a b Q:=by
 unfold CI iI;rw[D];refine mC ?_;rw[decide_eq_true (show JG (C:Int) by unfold JG; omega)];have V:a*C<=8*5:=Ao8 (by omega) (by omega);refine A8 rfl (A0 (λh=>by omega) λ_=>A0 (λh=>by omega) λ_=>A0 (λh=>by omega) λ_=>A0 (λh=>by omega) λ_=>?_);have O:(a:Int)*C=((a*C:Nat):Int):=by omega
 have J:A4 ((a*C:Nat):Int)=((a*C:Nat):Int):=A6 (by omega) (by omega);rw[O,J,A6 (by omega) (by omega)];have U:((a*C:Nat):Int)+(b:Int)=((a*C+b:Nat):Int):=by omega
 rw[U]; exact d
theorem pC {i j:Nat} {w:A1} {f:AK} {Q:A1->Prop} (h:c.Ok) (d:Wst c i j w) (hi:i<c.R) (J:j<c.C) (O:w.out.length<=100000)
  (D:Q { w with out:=w.out++[{ f with From:=c.num i j }] }):CH w f Q:=by
 unfold CH;rw[show w.place.i=(i:Int) by rw[d.pl],show w.place.j=(j:Int) by rw[d.pl]];have:=h.R1; have:=h.C1;exact Y5 (by rw[d.gr]) h.C1 (by omega) J (AL (by simp; omega) D)
theorem Ac9 {i:Nat} {w:A1} {k:Nat} {Q:A1->Prop} (h:c.Ok) (d:Wst c i 0 w) (hi:i<c.R) (O:w.out.length<=100000) (U:c.ov k i=false->w.aside=c.sg k i)
  (D:Q { w with waits:=true,out:=w.out++[c.fVote k i] }):DC w k (c.ov k i) Q:=by
 unfold DC;have W:=h.C1;have J:Wst c i 0 { w with waits:=true }:=⟨d.pl,d.pn,d.gr,d.lm,d.ch,d.ro,d.co⟩
 cases V:c.ov k i with
 | true=>
  refine A8 rfl (pC (j:=0) h J hi (by omega) O ?_);unfold GC.fVote at D; rw[V] at D; exact D
 | false=>
  refine B2 rfl ?_;refine AbX (by rw[U V]; exact(h.sg_St hi k).2.1) ?_;rw[show P1 w.plan w.aside k=c.lv k i by rw[d.pn,U V]; exact h.live hi k];refine pC (j:=0) h J hi (by omega) O ?_;unfold GC.fVote at D; rw[V] at D; exact D
theorem Ar8 {i:Nat} {w:A1} {k:Nat} {Q:A1->Prop} (h:c.Ok) (hw:Wst c i 0 w) (hi:i<c.R) (hl:w.out.length<=1000) (hk:k<=100000) (U:w.round=k) (O:w.has=c.sg k i)
   (J:Q { w with out:=w.out++(List.range c.C).map (c.fShare (k+1) i),sums:=[],came:=[] }):FQ w Q:=by
 have⟨_,_,_,_,_,_,_,out,b1,a4,a9,_,a2,_,a6,a7,a5,sums,came,b0,a8,a3⟩:=w;have⟨V,W,Z,w4,w5,w6,w7⟩:=hw;simp only at V W Z w4 w5 w6 w7 hl U O J;subst V W Z w4 w5 w6 w7 U O;unfold FQ;have hC:=h.C1; have c0:=h.n4;have D:A4 ((k:Int)+1)=((k+1:Nat):Int):=by rw[A6 (by omega) (by omega)]; omega
 simp only[D];refine AeN (h.sg_St hi k).2.1 (by omega) ?_;have e2:ZZ c.p (c.sg k i) ((k+1:Nat):Int)=FZ (c.vV (k+1)) c.R i:=h.out_part hi;rw[e2];refine A9 (σ:=List AK) (τ:=A1×Int) (λs j=>(⟨⟨i,(0:Nat)⟩,c.p,⟨c.R,c.C⟩,c.lim,c.ch,c.rows i 0,c.cols i 0,s,b1,a4,a9,k,a2,c.sg k i,a6,a7,a5,sums,came,b0,a8,a3⟩,j)) 0 c.C (s0:=out) (by omega) (λj s=>s=out++(List.range j).map (c.fShare (k+1) i)) (by omega) (by simp) (λj s next _ _ d hn=>?_) (λs next d=>?_)
 . subst d;refine A0 (λ_=>?_) (λh=>absurd (show(j:Int)<c.C by omega) h);simp only[D,h.pn];refine uN (by have:=oV (c.vV (k+1)) c.R i; have:=mJ c.n (c.tV (k+1)); show(FZ (c.vV (k+1)) c.R i).Items.length<=_; unfold GC.vV at *; simp only at *; omega) ?_;refine pC (i:=i) (j:=0) h ⟨rfl,rfl,rfl,rfl,rfl,rfl,rfl⟩ hi (by omega) (by simp; omega) (hn _ ?_);rw[aF,gW,<-nP]; rfl
 . subst d;refine A0 (λh=>absurd (show(c.C:Int)<c.C from h) (by omega)) (λ_=>?_);exact J
variable {c:GC}
theorem Ay5 {n k:Nat} (hk:1<=k):∀ {v:Nat},v<n->∃ i,i<k∧aK n k i<=v∧v<aK n k (i+1):=by
 intro v d
 have H:∀ q,v<aK n k q->∃ i,i<q∧aK n k i<=v∧v<aK n k (i+1):=by
  intro q
  induction q with
  | zero=>intro h; rw[Af0] at h; omega
  | succ q D=>
   grind
 exact H k (by rw[sL n hk]; exact d)
section
theorem GC.Ok.part (h:c.Ok) {v:Nat} (d:v<c.n):∃ i a,i<c.R∧a<c.ln i∧v=c.ls i+a:=by have⟨i,D,_,_⟩:=Ay5 (k:=c.R) h.R1.1 d;refine⟨i,v - c.ls i,D,?_,?_⟩ <;> (simp only[GC.ln,GC.ls]; omega)
theorem GC.Ok.seq (h:c.Ok) {k:Nat} (hk:k<=c.m):RT c.p c.T k=CU 0 c.n (c.G k):=sI h.run.rp h.pn λj _=>h.run.en.lt j (by omega)
theorem GC.Ok.ov_ex (h:c.Ok) (k:Nat):(∃ i,i<c.R∧c.ov (k+1) i=true)↔∃ v,v<c.n∧c.ovV (k+1) v:=by
 constructor
 . rintro⟨i,hi,d⟩;have⟨_,a,D,O⟩:=c.ov_iff.1 d;exact⟨_,by have:=h.ls_n hi; omega,O⟩
 . rintro⟨v,J,d⟩;obtain⟨i,a,hi,D,rfl⟩:=h.part J;exact⟨i,hi,c.ov_iff.2 ⟨by omega,a,D,d⟩⟩
theorem GC.Ok.step_err (h:c.Ok) {k:Nat} (hk:k<=c.m):(P2 c.p c.T (RT c.p c.T k) ((k:Int)+1)).2≠0↔∃ i,i<c.R∧c.ov (k+1) i=true:=by
 rw[h.ov_ex,h.seq hk];have⟨W,V⟩:=vG (T:=c.T) (G:=c.G k) (round:=((k:Int)+1)) h.run.rp h.pn;constructor
 . intro Z;rcases yK (∃ v,v<c.n∧c.ovV (k+1) v) with U | U
   . exact U
   . refine absurd ?_ Z;rw[V];intro v w d O J
     cases D:(IQ w).2 with
     | true=>rfl
     | false=>exact absurd ⟨v,d,O,w,J,D⟩ U
 . rintro⟨v,d,O,w,J,D⟩;rw[W ⟨v,w,d,O,J,D⟩]; decide
theorem GC.Ok.live_all (h:c.Ok) {k:Nat} (hk:k<=c.m):P1 c.p (RT c.p c.T k) k=0↔∀ i,i<c.R->c.lv k i=0:=by
  rw[h.seq hk,vF h.run.rp (by have:=h.pn; omega)];have Z:∀ v,0+v=v:=aT;unfold GC.lv;by_cases hq:c.p.Kind=4∧c.p.Length<=k
  . grind
  . rw[if_neg hq];have e:(λi=>if c.p.Kind=5 then (c.G k (0+i)).1==0 else (c.G k (0+i)).2.2)=c.lvV k:=by funext i; rw[Z]; rfl
    rw[e];constructor
    . intro O i hi;rw[if_neg hq]
      have:EH (c.ln i) (λa=>c.lvV k (c.ls i+a))=0:=by
        rcases aD (EH (c.ln i) λa=>c.lvV k (c.ls i+a)) with d | d
        . exact d
        . have⟨a,V,D⟩:=Y2 (by omega:EH (c.ln i) (λa=>c.lvV k (c.ls i+a))≠0)
          have U:EH c.n (c.lvV k)≠0:=λ_=>by
            have := vI (n := c.n) (f := c.lvV k) (g := λv => v == c.ls i + a) (λv _ J => by
              have : v = c.ls i + a := by simpa using J
              rw[this]; exact D)
            have W:0<EH c.n (λv=>v==c.ls i+a):=by unfold EH; exact List.countP_pos_iff.2 ⟨c.ls i+a,List.mem_range.2 (by have:=h.ls_n hi; omega),by simp⟩
            omega
          omega
      omega
    . intro O;rcases aD (EH c.n (c.lvV k)) with d | d
      . omega
      . have⟨v,J,D⟩:=Y2 (by omega:EH c.n (c.lvV k)≠0);obtain⟨i,a,hi,V,rfl⟩:=h.part J;have U:=O i hi;rw[if_neg hq] at U;have W:0<EH (c.ln i) (λa=>c.lvV k (c.ls i+a)):=by unfold EH; exact List.countP_pos_iff.2 ⟨a,List.mem_range.2 V,D⟩
        omega
theorem GC.Ok.no_ov (h:c.Ok) {u:Nat} (O:u<=c.m) {i:Nat} (hi:i<c.R):c.ov u i=false:=by
 cases d:c.ov u i with
 | false=>rfl
 | true=>
  cases u with
  | zero=>exact absurd rfl (c.ov_iff.1 d).1
  | succ k=>
   have D:=(h.step_err (k:=k) (by omega)).2 ⟨i,hi,d⟩;have J:=(WC (h.run.en.lt k (by omega))).2.2;omega
open Classical in
theorem GC.Ok.counts (h:c.Ok) {u:Nat} (V:u<c.U):c.st u=if ∃ i,i<c.R∧c.ov u i=true then 3 else if ∀ i,i<c.R->c.lv u i=0 then 1 else if (u:Int)=c.lim then 2 else 0:=by
 have O:=h.run.en;have hs:=AkD O.ne O.at_;unfold GC.U at V;unfold GC.st GC.U;by_cases h3:c.e=3
 . rw[if_pos h3] at V ⊢
   have a2:P1 c.p (RT c.p c.T c.m) c.m≠0∧(c.m:Int)≠c.lim∧(P2 c.p c.T (RT c.p c.T c.m) ((c.m:Int)+1)).2≠0:=by omega
   by_cases hm:u=c.m+1
   . subst hm;rw[if_pos rfl,if_pos ((h.step_err (YG _)).1 a2.2.2),h3]
   . rw[if_neg (by omega),if_neg (λ⟨i,hi,d⟩=>by rw[h.no_ov (by omega) hi] at d; cases d)]
     have W:P1 c.p (RT c.p c.T u) u≠0∧(u:Int)≠c.lim:=by
       rcases aG u c.m with Z | Z
       . have:=WC (O.lt u Z); omega
       grind
     rw[if_neg (λJ=>W.1 ((h.live_all (by omega)).2 J)),if_neg W.2]
 . rw[if_neg h3] at V ⊢;have D:¬ ∃ i,i<c.R∧c.ov u i=true:=λ⟨i,hi,d⟩=>by rw[h.no_ov (by omega) hi] at d; cases d
   by_cases hm:u=c.m
   . subst hm;rw[if_pos rfl,if_neg D];rcases hs with⟨a,e⟩ | ⟨a,b,e⟩ | ⟨_,_,_,e⟩
     . rw[if_pos ((h.live_all (YG _)).1 a),e]
     . rw[if_neg (λJ=>a ((h.live_all (YG _)).2 J)),if_pos b,e]
     . omega
   . have:=WC (O.lt u (by omega));rw[if_neg (by omega),if_neg D,if_neg (λJ=>this.1 ((h.live_all (by omega)).2 J)),if_neg this.2.1]
theorem GC.Ok.st_b (h:c.Ok) (t:Nat):0<=c.st t∧c.st t<=3:=by have d:=AkD h.run.en.ne h.run.en.at_;unfold GC.st;omega
theorem GC.Ok.st_go (h:c.Ok) {t:Nat} (d:t<c.U):c.st t=0↔t+1<c.U:=by have:=h.run.en.ne;unfold GC.st;omega
theorem GC.Ok.st_three (h:c.Ok) {t i:Nat} (D:t<c.U) (d:c.st t≠3) (hi:i<c.R):c.ov t i=false:=by refine h.no_ov ?_ hi;unfold GC.st GC.U at *;grind
theorem GC.Ok.U_b (h:c.Ok):1<=c.U∧c.U<=62:=by have:=h.run.en.le; have:=h.lm;unfold GC.U; grind
end
structure Gh where
 u:Nat
 O:Nat→Bool
 S:Nat→Nat→Bool
 E:Nat→Nat→Bool
 A:Nat→Nat→Bool
 V:Nat→Bool
section
variable (c:GC) (g:Gh)
def Gh.col (j:Nat):Bool:=decide (∀ i,i<c.R->g.S i j=true)
def Gh.row (i:Nat):Bool:=decide (∀ j,j<c.C->g.A i j=true)
def Gh.rnd (i:Nat):Nat:=if g.O i=true then (if c.st (g.u - 1)=3 then g.u - 2 else g.u - 1) else g.u - 2
structure Gh.Ok:Prop where
 u:g.u≤c.U
 S:∀ i j,i<c.R→g.S i j=true→g.O i=true∧g.u<c.U
 E:∀ i j,i<c.R→j<c.C→g.E i j=true→g.col c j=true
 A:∀ i j,i<c.R→j<c.C→g.A i j=true→g.E i j=true
 V:∀ i,i<c.R→g.V i=true→g.row c i=true
 no:∃ i,i<c.R∧g.V i=false
 z:g.u=0→∀ i,i<c.R→g.O i=true∧g.row c i=true
end
noncomputable def GC.asd (c:GC) (k i:Nat):State:=if c.ov k i=true then c.sg (k - 1) i else c.sg k i
variable {g:Gh}
structure Own (c:GC) (g:Gh) (i:Nat) (w:A1):Prop where
 waits:w.waits=(!g.O i || g.row c i)
 begun:w.begun=(decide (2≤g.u) || decide (1≤g.u) && g.O i)
 round:w.round=(g.rnd c i:Int)
 status:w.status=if 1≤g.u∧g.O i=true then c.st (g.u - 1) else 0
 has:w.has=c.sg (g.rnd c i) i
 aside:w.waits=true→w.aside=c.asd (if g.O i=true then g.u else g.u - 1) i
 sums:1≤g.u→g.u<c.U→g.O i=true→g.row c i=false→∃ L,Sm c g.u i L w.sums∧L.Nodup∧∀ j,j∈L↔j<c.C∧g.A i j=true
 came:1≤g.u→g.u<c.U→g.O i=true→MapR w.came c.C (g.A i) (fun _ v=>v=true)
structure One (c:GC) (g:Gh) (w:A1):Prop where
 vote:w.vote=g.u
 votes:MapR w.votes c.R g.V (fun i f=>f.N=(c.fVote g.u i).N∧f.Over=(c.fVote g.u i).Over)
 closed:w.closed=decide (1≤g.u∧c.st (g.u - 1)≠0)
structure WOk (c:GC) (g:Gh) (i j:Nat) (w:A1):Prop where
 st:Wst c i j w
 spread:w.spread=((g.u+if g.E i j=true then 1 else 0:Nat):Int)
 share:i=0→w.share=((g.u+if g.col c j=true then 1 else 0:Nat):Int)∧MapR w.shares c.R (fun k=>!g.col c j && g.S k j) (fun k v=>v=c.slice g.u k j)
 own:j=0→Own c g i w
 one:i=0→j=0→One c g w
theorem Gh.col_congr {g d:Gh} {j:Nat} (h:∀ i,d.S i j=g.S i j):d.col c j=g.col c j:=by grind[Gh.col]
theorem Gh.row_congr {g d:Gh} {i:Nat} (h:∀ j,d.A i j=g.A i j):d.row c i=g.row c i:=by grind[Gh.row]
theorem WOk.congr {D:Gh} {i j:Nat} {w:A1} (h:WOk c g i j w) (J:D.u=g.u) (hE:D.E i j=g.E i j) (hS:i=0->∀ k,D.S k j=g.S k j) (hO:j=0->D.O i=g.O i) (hA:j=0->∀ k,D.A i k=g.A i k)
   (hV:i=0->j=0->∀ k,D.V k=g.V k):WOk c D i j w:=by
 refine⟨h.st,by rw[J,hE]; exact h.spread,λhi=>?_,λU=>?_,λhi U=>?_⟩
 . have hc:D.col c j=g.col c j:=Gh.col_congr (hS hi);have⟨_,_⟩:=h.share hi;grind
 . have hr:D.row c i=g.row c i:=Gh.row_congr (hA U);have W:=hO U;have hn:D.rnd c i=g.rnd c i:=by grind[Gh.rnd]
   have o:=h.own U;refine⟨by rw[W,hr]; exact o.waits,by rw[J,W]; exact o.begun,by rw[hn]; exact o.round,by rw[J,W]; exact o.status,by rw[hn]; exact o.has,λhw=>by rw[J,W]; exact o.aside hw,λa b d e=>?_,λa b d=>?_⟩
   . rw[J] at a b; rw[W] at d; rw[hr] at e;have⟨_,_,_,_⟩:=o.sums a b d e;grind
   . rw[J] at a b; rw[W] at d;exact(o.came a b d).congr (λk _=>by rw[hA U]) (λk v _ Z=>Z)
 . have o:=h.one hi U;refine⟨by rw[J]; exact o.vote,?_,by rw[J]; exact o.closed⟩;rw[J];exact o.votes.congr (λk _=>hV hi U k) (λk v _ Z=>Z)
end
section
open Go Go.Fw
variable {c:GC} {g:Gh}
section
theorem GC.Ok.grd (h:c.Ok) {i j:Nat} (hi:i<c.R) (d:j<c.C):XY (c.R:Int) (c.C:Int) (i:Int) (j:Int):=⟨⟨h.mp.2.1,h.mp.2.2⟩,by omega,by omega⟩
theorem GC.Ok.slice_P (h:c.Ok) (t:Nat) {i j:Nat} (hi:i<c.R) (W:j<c.C):VecP (c.slice t i j)∧(c.slice t i j).N=iP c.n c.R c.C i j - XZ c.n c.R c.C i j∧(c.slice t i j).Items.length<=1000:=by
 have U:=h.vec t;have D:=oX U (h.grd hi W);have a2:=UI (n:=c.n) (k:=c.C) (i:=j); have d:=UI (n:=c.n) (k:=c.C) (i:=(j:Int)+1); have O:=IX (n:=c.n) (k:=c.C) (show(j:Int)<=(j:Int)+1 by omega);have V:=d.2 (by omega);have J:∀ x,AQ c.n c.C j<=aJ (AQ c.n c.C j) (AQ c.n c.C ((j:Int)+1)) x∧aJ (AQ c.n c.C j) (AQ c.n c.C ((j:Int)+1)) x<=AQ c.n c.C ((j:Int)+1):=λx=>by unfold aJ; repeat' split <;> omega
 have h1:=J (AQ c.n c.R i); have h2:=J (AQ c.n c.R ((i:Int)+1));have e:c.slice t i j=_:=D.1;refine⟨?_,?_,?_⟩
 . rw[e];exact Ak4 U (by show(0:Int)<=aJ (AQ c.n c.C j) (AQ c.n c.C ((j:Int)+1)) (AQ c.n c.R i); omega) (sG O (IX (by omega))) (by show aJ (AQ c.n c.C j) (AQ c.n c.C ((j:Int)+1)) (AQ c.n c.R ((i:Int)+1))<=(c.n:Int); omega)
 . rw[e]; exact D.2.symm
 . have h3:=Am2 (FZ (c.vV t) c.R i) c.n c.R c.C i j;have h4:=oV (c.vV t) c.R i;have Z:=mJ c.n (c.tV t);have h6:(c.vV t).Items.length<=c.n:=Z;have:=h.n4;show(S6 (FZ (c.vV t) c.R i) c.n c.R c.C i j).Items.length<=1000;omega
theorem GC.Ok.piece_P (h:c.Ok) (t:Nat) {j:Nat} (O:j<c.C):VecP (c.piece t j)∧(c.piece t j).N=JX c.n c.C j∧(c.piece t j).Items.length<=1000:=by have hp:=mD (h.vec t) h.mp.2.2 (j:=j) (by omega);refine⟨hp.1,hp.2.1,?_⟩;have D:=oV (c.vV t) c.C j;have d:=mJ c.n (c.tV t);have J:(c.vV t).Items.length<=c.n:=d;have:=h.n4;show(FZ (c.vV t) c.C j).Items.length<=1000;omega
theorem GC.Ok.piece_in (h:c.Ok) {k:Nat} (hk:k<=c.m) {j:Nat} (J:j<c.C):∀ x∈(c.piece (k+1) j).Items,EC x.Val:=by
 refine(mD (h.vec (k+1)) h.mp.2.2 (j:=j) (by omega)).2.2.2 λx D=>?_;have d:=(h.run.whole hk).out ((k:Int)+1);refine d.2.1 x ?_;rw[h.seq hk,Ac0 h.run.rp (by have:=h.pn; omega)];have e:(λi=>HK c.p ((k:Int)+1) (0+i) (c.G k (0+i)))=c.tV (k+1):=by funext i; rw[aT]; rfl
 rw[e]; exact D
end
theorem Af3 {f:AK} {n:Int} {Q:Vec×Bool->Prop} (J:f.Vec.Items.length<=1000) (d:VecP f.Vec) (D:f.Vec.N=n) (h:Q (f.Vec,true)):MR f n Q:=by
 unfold MR;refine cE (by omega) (F4 (by show f.Vec.Items.length<=_; omega) ?_);rw[decide_eq_true (show VecP ⟨f.Vec.N,f.Vec.Items⟩ from d)];refine B2 rfl ?_;have:(f.Vec.N==n)=true:=by simp[D]
 rw[this]; exact h
theorem AtP {w:A1} {i j:Nat} {Q:Int->Prop} (h:c.Ok) (d:Wst c 0 j w) (hi:i<c.R) (hj:j<c.C) (Z:Q (iP c.n c.R c.C i j - XZ c.n c.R c.C i j)):G9 w i Q:=by
 unfold G9;have J:w.plan.N=c.n:=by rw[d.pn,h.pn]
 have hR:=h.R1; have W:=h.C1;have D:A4 ((i:Int)+1)=(i:Int)+1:=A6 (by omega) (by omega);have O:A4 ((j:Int)+1)=(j:Int)+1:=A6 (by omega) (by omega);rw[J,d.gr,d.pl];refine HT (HT ?_);rw[D];refine HT ?_;rw[O];refine HT ?_;have V:=QC c.n c.R i; have b2:=QC c.n c.R ((i:Int)+1); have b3:=QC c.n c.C j; have b4:=QC c.n c.C ((j:Int)+1);simp only
 have e:(if A4 ((if AQ c.n c.C ((j:Int)+1)<AQ c.n c.R ((i:Int)+1) then AQ c.n c.C ((j:Int)+1) else AQ c.n c.R ((i:Int)+1)) - (if AQ c.n c.C j > AQ c.n c.R i then AQ c.n c.C j else AQ c.n c.R i)) > 0 then A4 ((if AQ c.n c.C ((j:Int)+1)<AQ c.n c.R ((i:Int)+1) then AQ c.n c.C ((j:Int)+1) else AQ c.n c.R ((i:Int)+1)) - (if AQ c.n c.C j > AQ c.n c.R i then AQ c.n c.C j else AQ c.n c.R i)) else 0)=iP c.n c.R c.C i j - XZ c.n c.R c.C i j:=by unfold iP XZ mx mn;generalize AQ c.n c.R i=a1 at *; generalize AQ c.n c.R ((i:Int)+1)=a2 at *; generalize AQ c.n c.C j=a3 at *; generalize AQ c.n c.C ((j:Int)+1)=U at *;rw[A6 (by split <;> split <;> omega) (by split <;> split <;> omega)];omega
 grind
def I5 (f:Nat->Bool) (i:Nat):Nat->Bool:=λk=>if k=i then true else f k
def DT (f:Nat->Nat->Bool) (i j:Nat):Nat->Nat->Bool:=λa b=>if a=i∧b=j then true else f a b
theorem Gh.Ok.noA (d:g.Ok c) (h:c.Ok) {i:Nat} (hi:i<c.R) (hO:g.O i=false):(∀ j,j<c.C->g.A i j=false)∧g.row c i=false:=by
 have J:∀ j,j<c.C->g.A i j=false:=λj D=>by
  cases W:g.A i j with
  | false=>rfl
  | true=>
   have U:=d.E i j hi D (d.A i j hi D W);have Z:=(d.S i j hi (of_decide_eq_true U i hi)).1;grind
 refine⟨J,?_⟩;unfold Gh.row;refine decide_eq_false λV=>?_;have:=V 0 (by have:=h.C1; omega);rw[J 0 (by have:=h.C1; omega)] at this; cases this
theorem AmR (h:c.Ok) (hg:g.Ok c) {i:Nat} (hi:i<c.R) {w:A1} (W:WOk c g i 0 w) (hu:1<=g.u) (Z:g.O i=false) {f:AK} (hr:f.Round=((g.u - 1:Nat):Int)) (hn:f.N=c.st (g.u - 1)) (hl:w.out.length<=1000) {Q:Bool×A1->Prop}
   (hQ:∀ w',WOk c { g with O:=I5 g.O i } i 0 w'->w'.out=w.out++(if g.u<c.U then (List.range c.C).map (c.fShare g.u i) else [])->Q (true,w')):E4 w f ⟨0,0⟩ Q:=by
 have⟨hA,d0⟩:=hg.noA h hi Z;have hU:=h.U_b; have d3:=hg.u; have d5:=h.st_b (g.u - 1);have o:=W.own rfl;have a6:w.waits=true:=by rw[o.waits,Z]; rfl
 have has:w.aside=c.asd (g.u - 1) i:=by have:=o.aside a6; grind
 have d2:w.status=0:=by rw[o.status,if_neg (by rw[Z]; simp)]
 have c2:w.round=((g.u - 2:Nat):Int):=by have:=o.round; unfold Gh.rnd at this; grind
 have d6:w.has=c.sg (g.u - 2) i:=by have:=o.has; unfold Gh.rnd at this; grind
 have c1:w.begun=decide (2<=g.u):=by rw[o.begun,Z]; simp
 have d:=W.st;unfold E4;refine CE (λt=>t=((g.u - 1:Nat):Int)) ?_ ?_;rotate_left
 . intro k hk;rw[c1,c2];refine A0 (λh2=>hk _ ?_) (λh2=>hk _ (by omega));rw[A6 (by omega) (by omega)]; omega
 rintro _ rfl;rw[show w.place.j=0 by rw[d.pl]; rfl];refine BT (λD=>absurd rfl D) λ_=>A8 (by simp) (A8 (by rw[a6]; rfl) (BT (λD=>absurd d2 D) λ_=>BT (λD=>absurd hr D) λ_=>?_));rw[hn];refine A0 (λD=>by omega) λ_=>A0 (λD=>by omega) λ_=>?_;have V:I5 g.O i i=true:=if_pos rfl;have d1:({ g with O:=I5 g.O i }:Gh).row c i=false:=d0;have c0:({ g with O:=I5 g.O i }:Gh).rnd c i=if c.st (g.u - 1)=3 then g.u - 2 else g.u - 1:=if_pos V
 -- whatever else is put into it
 have a2:∀ (w':A1),Wst c i 0 w'->w'.spread=w.spread->w'.share=w.share->w'.shares=w.shares->w'.vote=w.vote->w'.votes=w.votes->w'.closed=w.closed->w'.waits=false->w'.begun=true->w'.round=(({ g with O:=I5 g.O i }:Gh).rnd c i:Int)->w'.status=c.st (g.u - 1)->w'.has=c.sg (({ g with O:=I5 g.O i }:Gh).rnd c i) i ->
     (g.u<c.U->w'.sums=[]∧w'.came=[])->WOk c { g with O:=I5 g.O i } i 0 w':=by
   intro w' e0 e1 e2 e3 e4 e5 e6 e7 e8 e9 a8 a9 a3;refine⟨e0,by rw[e1]; exact W.spread,λhz=>?_,λ_=>?_,λhz _=>?_⟩
   . rw[e2,e3]; exact W.share hz
   . refine⟨?_,?_,e9,?_,a9,?_,?_,?_⟩
     . rw[e7,d1]; show false=(!I5 g.O i i || false); rw[V]; rfl
     . rw[e8]; show true=(decide (2<=g.u) || decide (1<=g.u) && I5 g.O i i); rw[V]; simp; omega
     . rw[a8]; exact(if_pos ⟨hu,V⟩).symm
     . intro J; rw[e7] at J; cases J
     . intro _ J _ _;exact⟨[],by rw[(a3 J).1]; exact Sm.nil _ _ _,Ao7,λj=>⟨λhj=>by simp at hj,λ⟨hj,ha⟩=>by rw[show g.A i j=false from hA j hj] at ha; cases ha⟩⟩
     . intro _ J _;rw[(a3 J).2]; exact MapR.nil _ _ hA
   . have q:=W.one hz rfl;exact⟨by rw[e4]; exact q.vote,by rw[e5]; exact q.votes,by rw[e6]; exact q.closed⟩
 refine CE (λa7=>a7 = { w with round:=(({ g with O:=I5 g.O i }:Gh).rnd c i:Int),status:=c.st (g.u - 1),has:=c.sg (({ g with O:=I5 g.O i }:Gh).rnd c i) i,waits:=false,begun:=true }) ?_ ?_;rotate_left
 . intro k hk;refine CE (λb=>b=decide (0<g.u - 1∧c.st (g.u - 1)≠3)) ?_ ?_
   . rintro _ rfl;refine A0 (λD=>hk _ ?_) (λD=>hk _ ?_)
     . rw[c0,if_neg D.2,has];unfold GC.asd;rw[h.st_three (by omega) D.2 hi];rfl
     grind
   . intro k' a4;refine A0 (λD=>a4 _ ?_) (λD=>a4 _ ?_)
     all_goals grind
 rintro _ rfl;have b1:=h.st_go (t:=g.u - 1) (by omega);refine B5 (λh0=>?_) (λh0=>?_)
 . have d4:g.u<c.U:=by omega
   have a5:({ g with O:=I5 g.O i }:Gh).rnd c i=g.u - 1:=by grind
   have e1:g.u - 1+1=g.u:=by omega
   refine Ar8 (i:=i) (k:=g.u - 1) h ⟨d.pl,d.pn,d.gr,d.lm,d.ch,d.ro,d.co⟩ hi hl (by omega) (by rw[a5]) (by rw[a5]) (hQ _ (a2 _ ⟨d.pl,d.pn,d.gr,d.lm,d.ch,d.ro,d.co⟩ rfl rfl rfl rfl rfl rfl rfl rfl rfl rfl rfl λ_=>⟨rfl,rfl⟩) ?_);grind
 . have b0:¬g.u<c.U:=λJ=>h0 (b1.2 (by omega));refine hQ _ (a2 _ ⟨d.pl,d.pn,d.gr,d.lm,d.ch,d.ro,d.co⟩ rfl rfl rfl rfl rfl rfl rfl rfl rfl rfl rfl λJ=>absurd J b0) ?_;grind
variable {c:GC} {g:Gh}
theorem Y6 (c:GC) (j:Nat):c.num 0 j=(j:Int):=by unfold GC.num; simp
theorem Ar9 (h:c.Ok) {i j:Nat} (hi:i<c.R) (U:j<c.C) {w:A1} (Z:WOk c g 0 j w) (hu:g.u<=1000) (hS:g.S i j=false) {f:AK} (hr:f.Round=(g.u:Int)) (W:f.Vec=c.slice g.u i j) (hl:w.out.length<=1000) {Q:Bool×A1->Prop}
   (hQ:∀ w',WOk c { g with S:=DT g.S i j } 0 j w'->w'.out=w.out++(if ({ g with S:=DT g.S i j }:Gh).col c j=true then (List.range c.R).map (c.fSpread g.u j) else [])->Q (true,w')):EE w f ⟨i,0⟩ Q:=by
 have d:=Z.st;have⟨J,a4⟩:=Z.share rfl;have⟨p1,p2,p3⟩:=h.slice_P g.u hi U;have hR:=h.R1; have hC:=h.C1;have d0:g.col c j=false:=decide_eq_false λhx=>by have:=hx i hi; rw[hS] at this; cases this
 rw[d0] at J a4;have b0:BC (i:Int) w.shares=none:=a4.no (by show(!false && g.S i j)=false; rw[hS]; rfl);have a6:=a4.put (v:=f.Vec) hi (by show(!false && g.S i j)=false; rw[hS]; rfl) W;unfold EE;refine AtP h d hi U (Af3 (by rw[W]; exact p3) (by rw[W]; exact p1) (by rw[W]; exact p2) (YX (λv hx=>by rw[b0] at hx; cases hx) λ_=>A8 rfl (A8 rfl ?_)));rw[show w.place.i=0 by rw[d.pl]; rfl];refine BT (λO=>absurd rfl O) λ_=>BT (λO=>absurd rfl O) λ_=>BT (λO=>absurd (by rw[hr,J]; simp) O) λ_=>?_;rw[show w.grid.i=c.R by rw[d.gr],show w.grid.j=c.C by rw[d.gr],show w.plan.N=c.n by rw[d.pn,h.pn],show w.place.j=j by rw[d.pl]];dsimp only;have hf:=a6.full;have e3:({ g with S:=DT g.S i j }:Gh).col c j=decide (∀ k,k<c.R->DT g.S i j k j=true):=rfl;have d9:∀ k,DT g.S i j k j=if k=i then true else g.S k j:=λk=>by unfold DT; simp
 have a5:∀ (sh:Int) (V:List (Int×Vec)) (out:List AK),Wst c 0 j { w with share:=sh,shares:=V,out:=out }:=λ_ _ _=>⟨d.pl,d.pn,d.gr,d.lm,d.ch,d.ro,d.co⟩
 have a3:∀ (sh:Int) (V:List (Int×Vec)) (out:List AK),sh=((g.u+if ({ g with S:=DT g.S i j }:Gh).col c j=true then 1 else 0:Nat):Int)->MapR V c.R (λk=>!({ g with S:=DT g.S i j }:Gh).col c j && DT g.S i j k j) (λk v=>v=c.slice g.u k j)->WOk c { g with S:=DT g.S i j } 0 j { w with share:=sh,shares:=V,out:=out }:=by
   intro sh V out e1 e2;refine⟨a5 _ _ _,Z.spread,λ_=>⟨e1,e2⟩,λhz=>?_,λ_ hz=>?_⟩
   . have o:=Z.own hz;exact⟨o.waits,o.begun,o.round,o.status,o.has,o.aside,o.sums,o.came⟩
   . have o:=Z.one rfl hz;exact⟨o.vote,o.votes,o.closed⟩
 refine A0 (λ_=>?_) (λ_=>?_)
 . have⟨k,hk,_⟩:=hf.1 (by omega);have d8:DT g.S i j k j=false:=by grind
   have D:({ g with S:=DT g.S i j }:Gh).col c j=false:=by grind
   refine hQ _ (a3 w.share _ w.out (by rw[D,J]) ?_) (by rw[D]; simp);simp_all
 . have c2:∀ k,k<c.R->(if k=i then true else (!false && g.S k j))=true:=λk hk=>by grind
   have D:({ g with S:=DT g.S i j }:Gh).col c j=true:=by grind
   refine A9 (σ:=List Vec) (λs k=>(s,k)) 0 c.R (s0:=[]) (by omega) (λk s=>s=(List.range k).map λa:Nat=>c.slice g.u a j) (by omega) (by simp) (λk s next _ hk a2 hn=>?_) (λs next a2=>?_)
   . refine A0 (λ_=>IG (AL (by rw[a2]; simp; omega) (hn _ ?_))) (λO=>by omega);have⟨v,b1,c0⟩:=a6.get k hk (c2 k hk);rw[b1,a2,aF,gW,c0]; rfl
   refine A0 (λO=>by omega) (λ_=>?_);subst a2;refine AbS (by simp; omega) (λv W=>?_) ?_
   . obtain⟨a,ha,rfl⟩:=List.mem_map.1 W;have:=(h.slice_P g.u (List.mem_range.1 ha) U).2.2; omega
   rw[h.fit U];have⟨_,_,_,_,_,_,_,out,share,shares,a8,round,d7,a9,d3,d6,d4,d1,c1,d2,d5,a7⟩:=w;have⟨w1,w2,w3,w4,w5,w6,w7⟩:=d;simp only at w1 w2 w3 w4 w5 w6 w7 J hl hQ a3 a5;subst w1 w2 w3 w4 w5 w6 w7;refine A9 (σ:=List AK) (τ:=A1×Int) (λs k=>(⟨⟨(0:Nat),j⟩,c.p,⟨c.R,c.C⟩,c.lim,c.ch,c.rows 0 j,c.cols 0 j,s,share,DV (i:Int) f.Vec shares,a8,round,d7,a9,d3,d6,d4,d1,c1,d2,d5,a7⟩,k)) 0 c.R (s0:=out) (by omega) (λk s=>s=out++(List.range k).map (c.fSpread g.u j)) (by omega) (by simp) (λk s next _ hk d hn=>?_) (λs next d=>?_)
   . subst d;refine A0 (λ_=>?_) (λO=>absurd (show(k:Int)<c.R by omega) O);refine Y5 (a:=k) (b:=j) rfl hC (by omega) U ?_;refine pC (i:=0) (j:=j) h ⟨rfl,rfl,rfl,rfl,rfl,rfl,rfl⟩ (by omega) U (by simp; omega) (hn _ ?_);rw[aF,gW,<-nP];show _=_++[c.fSpread g.u j k];unfold GC.fSpread;rw[Y6,J];rfl
   . subst d;refine A0 (λO=>absurd (show(c.R:Int)<c.R from O) (by omega)) (λ_=>?_);refine hQ _ (a3 (A4 (share+1)) [] _ ?_ ?_) (by rw[D]; rfl)
     . rw[D,J,A6 (by simp; omega) (by simp; omega)]; simp
     . rw[D]; exact MapR.nil _ _ λk _=>rfl
theorem ArA {w:A1} {u:Nat} {Q:HY->Prop} (J:1<=u) (h:u<=1000) (D:w.choices.length<=1000) (d:∀ x,Q x):FO w u Q:=by
 unfold FO;refine B5 (λ_=>d _) (λ_=>⟨by omega,?_⟩);have e:A4 ((u:Int) - 1)=((u - 1:Nat):Int):=by rw[A6 (by omega) (by omega)]; omega
 rw[e,ArV (by omega),<-Int.natCast_emod];exact AW (Ad4 _ (by omega)) (d _)
theorem AmS (h:c.Ok) {i j:Nat} (hi:i<c.R) (O:j<c.C) {w:A1} (V:WOk c g i j w) (hu:1<=g.u) (a8:g.u<c.U) (hE:g.E i j=false) {f:AK} (hr:f.Round=(g.u:Int)) (Z:f.Vec=c.piece g.u j) (hl:w.out.length<=1000) {Q:Bool×A1->Prop}
  (hQ:∀ w',WOk c { g with E:=DT g.E i j } i j w'->w'.out=w.out++[c.fGather g.u i j]->Q (true,w')):DZ w f ⟨0,j⟩ Q:=by
 have d:=V.st;have hR:=h.R1; have hC:=h.C1; have b0:=h.U_b;have⟨W,p2,p3⟩:=h.piece_P g.u O;have a4:w.spread=(g.u:Int):=by rw[V.spread,hE]; simp
 have a5:∀ (out:List AK),WOk c { g with E:=DT g.E i j } i j { w with spread:=A4 (w.spread+1),out:=out }:=by
  intro out;refine⟨⟨d.pl,d.pn,d.gr,d.lm,d.ch,d.ro,d.co⟩,?_,λJ=>V.share J,λJ=>?_,λJ a9=>?_⟩
  . show A4 (w.spread+1)=((g.u+if DT g.E i j i j=true then 1 else 0:Nat):Int);rw[show DT g.E i j i j=true from if_pos ⟨rfl,rfl⟩,a4,A6 (by omega) (by omega)]; simp
  . have o:=V.own J;exact⟨o.waits,o.begun,o.round,o.status,o.has,o.aside,o.sums,o.came⟩
  . have o:=V.one J a9;exact⟨o.vote,o.votes,o.closed⟩
 unfold DZ;refine Af3 (by rw[Z]; exact p3) (by rw[Z]; exact W) (by rw[Z,p2,d.ro]; rfl) (A8 rfl (BT (λD=>absurd rfl D) λ_=>?_));rw[show w.place.j=(j:Int) by rw[d.pl],show w.place.i=(i:Int) by rw[d.pl]];refine BT (λD=>absurd rfl D) λ_=>BT (λD=>absurd (by rw[hr,a4]) D) λ_=>?_;rw[hr];refine ArA hu (by omega) (by rw[d.ch]; exact h.chl) λx=>Z7 ?_;rw[show BX w.plan.Kind g.u=c.rg g.u by rw[d.pn]; rfl];refine At9 (by show f.Vec.Items.length<=_; rw[Z]; omega) ?_;obtain⟨k,hk⟩:∃ k,g.u=k+1:=⟨g.u - 1,by omega⟩;have a7:k<=c.m:=by unfold GC.U at a8; grind
 have a2:=h.run.cn; rw[h.pn] at a2;have⟨_,a6⟩:=iO a2 (h.grd hi O);have a3:=h.piece_in a7 O;rw[<-hk] at a3;rw[Z];refine Aq6 (rows:=JX c.n c.R i) (cols:=JX c.n c.C j) (ts:=c.tb i j) (s:=iQ x.Form (FY (c.piece g.u j)).Items.length (FY (c.piece g.u j)).N) (u:=c.piece g.u j) a6 (At6 h.run.vs) d.ro d.co (by show Ak5 _ _=_; unfold Ak5; rw[IW W]) W a3 (λx hx=>nomatch hx) ?_
 have es:lR (c.rg g.u) (JX c.n c.R i) (JX c.n c.C j) (c.tb i j) (c.piece g.u j) [] true=(c.blk g.u i j,0):=by unfold lR;rw[if_neg (λD=>D (h.ring g.u)),if_neg (λD=>D p2)]; rfl
 simp only[es];unfold Aq5;rw[if_neg (by simp)];refine Y5 (a:=i) (b:=0) (by show w.grid.j=_; rw[d.gr]) hC (by omega) (by omega) ?_;refine pC (i:=i) (j:=j) h ⟨d.pl,d.pn,d.gr,d.lm,d.ch,d.ro,d.co⟩ hi O (by show w.out.length<=_; omega) ?_;exact hQ _ (a5 _) rfl
variable {c:GC} {g:Gh}
theorem MapR.le {α:Type} {m:List (Int×α)} {N:Nat} {d:Nat->Bool} {P:Nat->α->Prop} (h:MapR m N d P):m.length<=N:=by rw[h.len]; grind
theorem ArB {w:A1} {l:List BM} {n:Nat} {Q:Bool->Prop} (U:w.rows.Rows=(n:Int)) (W:l.length<=1000) (Z:Rise l) (J:∀ x∈l,0<=x.At∧x.At<n) (V:Q true):FP w l Q:=by
 unfold FP;refine A9 (σ:=Int) (λs k=>(s,k)) 0 l.length (s0:=-1) (by omega) (λk s=>∀ (q:Nat) (d:q<l.length),k<=q->s<l[q].At) (by omega) (λq d _=>by have:=(J _ (TF d)).1; omega) (λk s next _ hk O D=>?_) (λs next O=>?_)
 . refine A0 (λ_=>AW hk (A0 (λh=>by have:=O k hk (YG _); omega) λ_=>A0 (λh=>by have:=(J _ (TF hk)).2; rw[U] at h; omega) λ_=>D _ λq d _=>Z.adj d (by omega))) (λh=>by omega)
 . exact A0 (λh=>by omega) (λ_=>V)
theorem AmT (h:c.Ok) {i k:Nat} (hi:i<c.R) (hk:k<=c.m) (b0:k<=1000) {w:A1} (hs:Wst c i 0 w) {L:List Nat} (hL:L.Perm (List.range c.C)) (V:Sm c (k+1) i L w.sums) (hh:w.has=c.sg k i) (hl:w.out.length<=1000) {Q:A1->Prop}
  (d:Q { w with aside:=c.asd (k+1) i,sums:=[],waits:=true,out:=w.out++[c.fVote (k+1) i] }):E0 w ((k+1:Nat):Int) Q:=by
 have b1:=h.ln_n i hi;have a8:=V.len;have⟨_,_,_,_,_,_,_,out,a3,O,D,round,J,_,aside,waits,U,sums,a5,a6,a2,a4⟩:=w;have⟨w1,w2,w3,w4,w5,w6,w7⟩:=hs;simp only at w1 w2 w3 w4 w5 w6 w7 V hh hl d a8;subst w1 w2 w3 w4 w5 w6 w7 hh;unfold E0;have⟨_,q2,_⟩:=h.sg_St hi k;refine xK q2 ?_;rw[h.sg_sure hi];refine Ac8 (by show sums.length<=_; omega) (AtK _ _) (λx Z=>by have:=V.at_ x Z; unfold EC; omega) (Z7 ?_);have a7:(c.rows i 0).Rows=(c.ln i:Int):=h.siz hi;simp only[a7];have a9:(sums.filter λx=>HG (L3 c.p (c.sg k i)).1 (L3 c.p (c.sg k i)).2 x.At).length<=sums.length:=rE _ _;refine AbE (by omega) (λx Z=>V.ok x (List.mem_filter.1 Z).1) ?_;have⟨d1,d2⟩:=h.done hi hL V;rw[show BX c.p.Kind ((k+1:Nat):Int)=c.rg (k+1) from rfl]
 cases W:c.ov (k+1) i with
 | true=>
  rw[d1 W];refine A8 rfl ?_;have hv:=Ac9 (i:=i) (k:=k+1) (w:=⟨⟨i,(0:Nat)⟩,c.p,⟨c.R,c.C⟩,c.lim,c.ch,c.rows i 0,c.cols i 0,out,a3,O,D,round,J,c.sg k i,c.sg k i,waits,U,[],a5,a6,a2,a4⟩) (Q:=Q) h ⟨rfl,rfl,rfl,rfl,rfl,rfl,rfl⟩ hi (by show out.length<=_; omega) (λh0=>by rw[W] at h0; cases h0) (by unfold GC.asd at d; rw[W] at d; exact d);grind
 | false=>
  have⟨y,d3,_,d5⟩:=d2 W;rw[d3];refine B2 rfl (vD q2 (by omega) (by show y.Items.length<=_; omega) ?_);rw[show iU c.p (c.sg k i) ((k+1:Nat):Int) y=c.sg (k+1) i from d5];have hv:=Ac9 (i:=i) (k:=k+1) (w:=⟨⟨i,(0:Nat)⟩,c.p,⟨c.R,c.C⟩,c.lim,c.ch,c.rows i 0,c.cols i 0,out,a3,O,D,round,J,c.sg k i,c.sg (k+1) i,waits,U,[],a5,a6,a2,a4⟩) (Q:=Q) h ⟨rfl,rfl,rfl,rfl,rfl,rfl,rfl⟩ hi (by show out.length<=_; omega) (λ_=>rfl) (by unfold GC.asd at d; rw[W] at d; exact d);grind
theorem AmU (h:c.Ok) {i u:Nat} (hi:i<c.R) (hu:1<=u) (d:u<c.U) {w:A1} (V:Wst c i 0 w) {L:List Nat} (W:L.Perm (List.range c.C)) (D:Sm c u i L w.sums) (J:w.has=c.sg (u - 1) i) (Z:w.out.length<=1000) {Q:A1->Prop}
  (O:Q { w with aside:=c.asd u i,sums:=[],waits:=true,out:=w.out++[c.fVote u i] }):E0 w (u:Int) Q:=by
 obtain⟨k,rfl⟩:∃ k,u=k+1:=⟨u - 1,by omega⟩;have hU:=h.U_b;exact AmT h hi (by unfold GC.U at d; split at d <;> omega) (by omega) V W D J Z O
theorem AmV (h:c.Ok) {i j:Nat} (hi:i<c.R) (hj:j<c.C) {w:A1} (hw:WOk c g i 0 w) (hu:1<=g.u) (a5:g.u<c.U) (V:g.O i=true) (hA:g.A i j=false) {f:AK} (hr:f.Round=(g.u:Int)) (W:f.Sums=c.blk g.u i j) (Z:w.out.length<=1000) {Q:Bool×A1->Prop}
   (hQ:∀ w',WOk c { g with A:=DT g.A i j } i 0 w'->w'.out=w.out++(if ({ g with A:=DT g.A i j }:Gh).row c i=true then [c.fVote g.u i] else [])->Q (true,w')):E3 w f ⟨i,j⟩ Q:=by
 have d:=hw.st;have o:=hw.own rfl;have d8:=h.U_b; have hR:=h.R1; have hC:=h.C1; have f2:=h.ln_n i hi;have d6:c.st (g.u - 1)=0:=(h.st_go (by omega)).2 (by omega);have a6:g.row c i=false:=decide_eq_false λJ=>by have:=J j hj; rw[hA] at this; cases this
 have a8:g.rnd c i=g.u - 1:=by unfold Gh.rnd; grind
 have a9:=o.came hu a5 V;have⟨L,a4,d4,hL⟩:=o.sums hu a5 V a6;have⟨b1,b2,b3⟩:=h.blk_prop g.u hi j;have d9:=cM (a:=0) b1 (by simpa using b3);have⟨m1,m2⟩:=h.sm_add (j:=j) hi a4;have a2:=a9.put (v:=true) hj hA rfl;have b0:∀ k,DT g.A i j i k=if k=j then true else g.A i k:=λk=>by unfold DT; simp
 have f5:({ g with A:=DT g.A i j }:Gh).row c i=decide (∀ k,k<c.C->DT g.A i j i k=true):=rfl;unfold E3;have e1:A4 (w.round+1)=(g.u:Int):=by rw[o.round,a8,A6 (by omega) (by omega)]; omega
 have d7:w.status=0:=by rw[o.status,if_pos ⟨hu,V⟩,d6]
 have d5:w.waits=false:=by rw[o.waits,V,a6]; rfl
 have d3:(BC (j:Int) w.came).getD false=false:=by rw[a9.no hA]; rfl
 refine BT (λD=>absurd (by rw[d.pl]; rfl) D) λ_=>BT (λD=>absurd (by rw[d.pl]) D) λ_=>BT (λD=>absurd d7 D) λ_=>A8 d5 (BT (λD=>absurd (by rw[hr,e1]) D) λ_=>IG (A8 d3 ?_));refine ArB (n:=c.ln i) (by rw[d.ro]; exact h.siz hi) (by rw[W]; omega) (by rw[W]; exact b1) (by rw[W]; exact b3) (A8 rfl (Z7 ?_));rw[W,show BX w.plan.Kind f.Round=c.rg g.u by rw[d.pn,hr]; rfl,hr];have f3:=a4.len;refine fY (by simp) (λl Z=>?_) ?_ (λl Z=>?_) ?_
 . grind
 . show w.sums.length+((c.blk g.u i j).length+0)<=_; omega
 . simp only[SK,AnX,or_false] at Z; rcases Z with rfl | rfl
   . exact a4.ok
   . exact b2
 rw[m1];dsimp only;have f0:w.grid.j=(c.C:Int):=by rw[d.gr]
 have f1:=a2.le; have hf:=a2.full
 have a7:∀ (w':A1),Wst c i 0 w'->w'.spread=w.spread->w'.share=w.share->w'.shares=w.shares->w'.vote=w.vote->w'.votes=w.votes->w'.closed=w.closed->w'.waits=({ g with A:=DT g.A i j }:Gh).row c i->w'.begun=w.begun->w'.round=w.round->w'.status=w.status->w'.has=w.has ->
     (({ g with A:=DT g.A i j }:Gh).row c i=true->w'.aside=c.asd g.u i)->(({ g with A:=DT g.A i j }:Gh).row c i=false->w'.sums=MB (c.rg g.u) w.sums (c.blk g.u i j))->w'.came=DV (j:Int) true w.came->WOk c { g with A:=DT g.A i j } i 0 w':=by
   intro w' e0 e1 e2 e3 e4 e5 e6 e7 e8 e9 c1 c2 d0 d1 d2;refine⟨e0,by rw[e1]; exact hw.spread,λhz=>by rw[e2,e3]; exact hw.share hz,λ_=>⟨?_,by rw[e8]; exact o.begun,by rw[e9]; exact o.round,by rw[c1]; exact o.status,by rw[c2]; exact o.has,λJ=>?_,λ_ _ _ J=>?_,λ_ _ _=>?_⟩,λhz _=>?_⟩
   . rw[e7]; show _=(!g.O i || _); rw[V]; rfl
   . rw[d0 (by rw[<-e7]; exact J)]; show _=c.asd (if g.O i=true then g.u else g.u - 1) i; rw[if_pos V]
   . refine⟨L++[j],by rw[d1 J]; exact m2,List.nodup_append.2 ⟨d4,by simp,λa ha _ hb e=>?_⟩,λk=>?_⟩
     . rw[jZ] at hb; subst hb; subst e; have:=((hL a).1 ha).2; rw[hA] at this; cases this
     . rw[rG,jZ,hL k];show _↔k<c.C∧DT g.A i j i k=true;rw[b0];by_cases e:k=j
       . subst e; simp[hj]
       . simp[e]
   . rw[d2]; exact a2.congr (λk _=>by show DT g.A i j i k=_; rw[b0]) (λk v _ W=>W)
   . have q:=hw.one hz rfl;exact⟨by rw[e4]; exact q.vote,by rw[e5]; exact q.votes,by rw[e6]; exact q.closed⟩
 refine B5 (λ_=>?_) (λ_=>?_)
 . have f4:∀ k,k<c.C->(if k=j then true else g.A i k)=true:=λk hk=>by grind
   have a3:({ g with A:=DT g.A i j }:Gh).row c i=true:=by grind
   have hP:(L++[j]).Perm (List.range c.C):=by grind
   refine AmU (w:={ w with sums:=MB (c.rg g.u) w.sums (c.blk g.u i j),came:=DV (j:Int) true w.came }) h hi hu a5 ⟨d.pl,d.pn,d.gr,d.lm,d.ch,d.ro,d.co⟩ hP m2 (by show w.has=_; rw[o.has,a8]) Z ?_;refine hQ _ (a7 _ ⟨d.pl,d.pn,d.gr,d.lm,d.ch,d.ro,d.co⟩ rfl rfl rfl rfl rfl rfl a3.symm rfl rfl rfl rfl (λ_=>rfl) (λJ=>by rw[a3] at J; cases J) rfl) ?_;rw[a3]; rfl
 . have⟨k,hk,_⟩:=hf.1 (by omega);have c0:({ g with A:=DT g.A i j }:Gh).row c i=false:=by grind
   refine hQ _ (a7 _ ⟨d.pl,d.pn,d.gr,d.lm,d.ch,d.ro,d.co⟩ rfl rfl rfl rfl rfl rfl ?_ rfl rfl rfl rfl (λJ=>by rw[c0] at J; cases J) (λ_=>rfl) rfl) (by rw[c0]; simp);grind
variable {c:GC} {g:Gh}
def Gh.next (g:Gh):Gh:=⟨g.u+1,λ_=>false,λ_ _=>false,λ_ _=>false,λ_ _=>false,λ_=>false⟩
structure Gh.All (c:GC) (g:Gh):Prop where
 u:g.u<c.U
 O:∀ i,i<c.R→g.O i=true
 col:∀ j,j<c.C→g.col c j=true
 E:∀ i j,i<c.R→j<c.C→g.E i j=true
 row:∀ i,i<c.R→g.row c i=true
theorem Gh.Ok.row_all (J:g.Ok c) {i j:Nat} (hi:i<c.R) (d:j<c.C) (O:g.row c i=true):g.A i j=true∧g.E i j=true∧g.col c j=true:=by have h:=of_decide_eq_true O j d;have D:=J.A i j hi d h;exact⟨h,D,J.E i j hi d D⟩
theorem Gh.Ok.all (J:g.Ok c) (h:c.Ok) (V:∀ i,i<c.R->g.row c i=true):g.All c:=by have Z:=h.C1; have hR:=h.R1; have hU:=h.U_b;have d:∀ j,j<c.C->g.col c j=true:=λj D=>(J.row_all (show 0<c.R by omega) D (V 0 (by omega))).2.2;have W:∀ i,i<c.R->g.O i=true∧g.u<c.U:=λi hi=>J.S i 0 hi (of_decide_eq_true (d 0 (by omega)) i hi);exact⟨(W 0 (by omega)).2,λi hi=>(W i hi).1,d,λi j hi D=>(J.row_all hi D (V i hi)).2.1,V⟩
theorem Gh.next_ok (D:g.All c) (h:c.Ok):(g.next).Ok c:=by have J:=h.C1; have O:=h.R1;exact⟨D.u,(λi j _ d=>nomatch d),(λi j _ _ d=>nomatch d),(λi j _ _ d=>nomatch d),(λi _ d=>nomatch d),⟨0,by omega,rfl⟩,(λd=>nomatch d)⟩
theorem Gh.next_col (h:c.Ok) (j:Nat):g.next.col c j=false:=decide_eq_false λd=>nomatch (d 0 (by have:=h.R1; omega))
theorem Gh.next_row (h:c.Ok) (i:Nat):g.next.row c i=false:=decide_eq_false λd=>nomatch (d 0 (by have:=h.C1; omega))
theorem AcA (h:c.Ok) (D:g.u<c.U) (d:1<=g.u):c.st (g.u - 1)=0:=(h.st_go (by omega)).2 (by omega)
theorem WOk.bump (a2:c.Ok) (J:g.All c) {i j:Nat} (hi:i<c.R) (hj:j<c.C) {w w':A1} (Z:WOk c g i j w) (s:Wst c i j w') (e:w'.spread=w.spread∧w'.share=w.share∧w'.shares=w.shares∧w'.waits=w.waits∧w'.begun=w.begun∧w'.round=w.round∧w'.status=w.status∧w'.has=w.has∧w'.aside=w.aside) (h:i=0->j=0->One c g.next w'):WOk c g.next i j w':=by
 have⟨e1,e2,e3,e4,e5,e6,e7,e8,e9⟩:=e;refine⟨s,by rw[e1,Z.spread,J.E i j hi hj]; rfl,λV=>?_,λV=>?_,h⟩
 . have⟨q1,U⟩:=Z.share V;rw[J.col j hj] at q1 U;rw[Gh.next_col a2,e2,e3];refine⟨by rw[q1]; rfl,U.ks,λk hk=>?_,(λk _ hd=>nomatch hd)⟩;have⟨_,_,_,hd⟩:=U.key k hk;grind
 . have o:=Z.own V;have W:=J.O i hi; have a3:=J.row i hi;have a4:g.u>=1->c.st (g.u - 1)=0:=λh=>AcA a2 J.u h
   have d:g.next.rnd c i=g.rnd c i:=by unfold Gh.rnd;rw[if_pos W];show(if (false:Bool)=true then _ else g.u+1 - 2)=_;grind
   refine⟨by rw[e4,o.waits,W,a3]; rfl,?_,by rw[e6,d]; exact o.round,?_,by rw[e8,d]; exact o.has,λD=>?_,(λ_ _ D=>nomatch D),(λ_ _ D=>nomatch D)⟩
   . rw[e5,o.begun,W]; show _=(decide (2<=g.u+1) || decide (1<=g.u+1) && false); simp; omega
   . have V:(if 1<=g.next.u∧g.next.O i=true then c.st (g.next.u - 1) else 0)=0:=if_neg (λD=>nomatch D.2);rw[V,e7,o.status];omega
   . rw[e9,o.aside (by rw[<-e4]; exact D),if_pos W]; rfl
theorem pD {κ α:Type} [DecidableEq κ] {k:κ} {v:α}:∀ {m:List (κ×α)},BC k m=some v->(k,v)∈m
 | (k',v') :: m,h=>by
  simp only[BC] at h;split at h
  . rename_i e; rw[e,TG h]; simp
  . exact gV _ (pD h)
open Classical in
theorem AmW (a4:c.Ok) {u:Nat} (hu:u<c.U) {w:A1} (hv:w.vote=(u:Int)) (hl:w.limit=c.lim) (hm:MapR w.votes c.R (λ_=>true) (λi f=>f.N=(c.fVote u i).N∧f.Over=(c.fVote u i).Over)) {Q:Int->Prop} (hQ:Q (c.st u)):FE w Q:=by
 unfold FE
 have a9:(∃ x∈w.votes,x.2.Over=true)↔∃ i,i<c.R∧c.ov u i=true:=by
   constructor
   . rintro⟨x,Z,d⟩;have⟨i,W,_,_,h2,h⟩:=hm.mem Z;exact⟨i,W,by rw[h] at d; exact d⟩
   . rintro⟨i,hi,d⟩;have⟨v,W,h2,h⟩:=hm.get i hi rfl;have a2:((i:Int),v)∈w.votes:=pD W;exact⟨((i:Int),v),a2,by show v.Over=true; rw[h]; exact d⟩
 have a7:¬(∃ i,i<c.R∧c.ov u i=true)->((∃ x∈w.votes,x.2.N≠0)↔¬ ∀ i,i<c.R->c.lv u i=0):=by
   intro a8;have hN:∀ i,i<c.R->(c.fVote u i).N=c.lv u i:=λi hi=>if_neg λd=>a8 ⟨i,hi,d⟩;constructor
   . rintro⟨x,Z,d⟩ D;have⟨i,W,_,_,h2,h⟩:=hm.mem Z;grind
   . intro D;rcases yK (∃ i,i<c.R∧c.lv u i≠0) with⟨i,hi,a3⟩ | Z
     . have⟨v,W,h2,h⟩:=hm.get i hi rfl;exact⟨((i:Int),v),pD W,by show v.N≠0; rw[h2,hN i hi]; exact a3⟩
     grind
 have V:=a4.counts hu;refine BV (λs=>((s.2.1=true∨∃ x∈s.1,x.2.Over=true)↔∃ x∈w.votes,x.2.Over=true)∧((s.2.2=true∨∃ x∈s.1,x.2.N≠0)↔∃ x∈w.votes,x.2.N≠0)) (λs=>s.1.length) (by simp) ?_;rintro⟨l,ov,lv⟩ next ⟨J,O⟩ hn;simp only at J O hn;refine W3 (λZ=>?_) (λp r hp=>?_)
 . subst Z;simp only[AnX,false_and,exists_false,or_false] at J O;by_cases d:∃ i,i<c.R∧c.ov u i=true
   . rw[if_pos d] at V; rw[V] at hQ;exact B2 (J.2 (a9.2 d)) hQ
   . rw[if_neg d] at V;have hf:ov=false:=by grind
     refine A8 hf ?_;by_cases D:∀ i,i<c.R->c.lv u i=0
     . rw[if_pos D] at V; rw[V] at hQ;have a5:lv=false:=by grind
       exact B2 (by rw[a5]; rfl) hQ
     . rw[if_neg D] at V;have a6:=O.2 ((a7 d).2 D);refine A8 (by rw[a6]; rfl) (B5 (λhe=>?_) (λhe=>?_))
       all_goals grind
 . have b0:=hp.length_eq
   have a2:∀ (P:Int×AK->Prop),(∃ x∈l,P x)↔P p∨∃ x∈r,P x:=λP=>by grind
   rw[a2] at J O;have a3:(p.2.N != 0)=true↔p.2.N≠0:=by simp
   simp only[gY] at b0;cases ov <;> cases lv <;> simp only[AaJ,false_or,true_or] at J O
   . refine A8 rfl (A8 rfl (hn _ ⟨J,?_⟩ (by simp only; omega)));grind
   . exact A8 rfl (B2 rfl (hn _ ⟨J,by simpa using O⟩ (by simp only; omega)))
   . refine B2 rfl (A8 rfl (hn _ ⟨by simpa using J,?_⟩ (by simp only; omega)));grind
   . exact B2 rfl (B2 rfl (hn _ ⟨by simpa using J,by simpa using O⟩ (by simp only; omega)))
theorem AkM (h:c.Ok) (hg:g.Ok c) {i:Nat} (hi:i<c.R) {w:A1} (O:WOk c g 0 0 w) (hu:g.u<c.U) (d7:g.row c i=true) (hV:g.V i=false) {f:AK} (hr:f.Round=(g.u:Int)) (W:f.N=(c.fVote g.u i).N) (ho:f.Over=(c.fVote g.u i).Over) (hl:w.out.length<=1000) {Q:Bool×A1->Prop}
   (a8:(∃ k,k<c.R∧I5 g.V i k=false)->∀ w',WOk c { g with V:=I5 g.V i } 0 0 w'->w'.out=w.out->Q (true,w'))
   (a9:(∀ k,k<c.R->I5 g.V i k=true)->∀ w',WOk c g.next 0 0 w'->w'.out=w.out++(List.range c.R).map (c.fOrder g.u)->Q (true,w')):ES w f ⟨i,0⟩ Q:=by
 have d:=O.st;have q:=O.one rfl rfl;have hR:=h.R1; have hC:=h.C1; have d6:=h.U_b;have d3:=q.votes.no hV;have a2:=q.votes.put (v:=f) hi hV ⟨W,ho⟩;have hf:=a2.full
 have d1:w.closed=false:=by rw[q.closed];grind[AcA]
 unfold ES;refine YX (λv hx=>by rw[show BC (i:Int) w.votes=none from d3] at hx; cases hx) λ_=>A8 rfl (A8 (by rw[d.pl]; rfl) (A8 d1 (BT (λJ=>absurd rfl J) λ_=>BT (λJ=>absurd (by rw[hr,q.vote]) J) λ_=>?_)));dsimp only;have d2:w.grid.i=(c.R:Int):=by rw[d.gr]
 refine A0 (λ_=>?_) (λ_=>?_)
 . refine a8 ((hf.1 (by omega)).imp λk hk=>hk) _ ?_ rfl;refine⟨⟨d.pl,d.pn,d.gr,d.lm,d.ch,d.ro,d.co⟩,O.spread,O.share,λhz=>?_,λ_ _=>⟨q.vote,a2,q.closed⟩⟩;have o:=O.own hz;exact⟨o.waits,o.begun,o.round,o.status,o.has,o.aside,o.sums,o.came⟩
 . have Z:∀ k,k<c.R->I5 g.V i k=true:=λk hk=>by
     cases hd:I5 g.V i k with
     | true=>rfl
     | false=>exact absurd (hf.2 ⟨k,hk,hd⟩) (by omega)
   have d4:∀ k,k<c.R->g.row c k=true:=λk hk=>by
     have:=Z k hk;unfold I5 at this;split at this
     . grind
     . exact hg.V k hk this
   have ha:=hg.all h d4;refine AmW (w:={ w with votes:=DV (i:Int) f w.votes }) h hu q.vote d.lm (a2.congr (λk hk=>(Z k hk).symm) λk v _ hv=>hv) ?_;have⟨_,_,_,_,_,_,_,out,c2,a6,a4,round,a5,b0,c1,d0,a7,c0,b1,a3,votes,d5⟩:=w;have⟨w1,w2,w3,w4,w5,w6,w7⟩:=d;have D:=q.vote;simp only at w1 w2 w3 w4 w5 w6 w7 hl a8 a9 D d2;subst w1 w2 w3 w4 w5 w6 w7;refine A9 (σ:=List AK) (τ:=A1×Int) (λs k=>(⟨⟨(0:Nat),(0:Nat)⟩,c.p,⟨c.R,c.C⟩,c.lim,c.ch,c.rows 0 0,c.cols 0 0,s,c2,a6,a4,round,a5,b0,c1,d0,a7,c0,b1,a3,DV (i:Int) f votes,d5⟩,k)) 0 c.R (s0:=out) (by omega) (λk s=>s=out++(List.range k).map (c.fOrder g.u)) (by omega) (by simp) (λk s next _ hk d W=>?_) (λs next d=>?_)
   . subst d;refine A0 (λ_=>?_) (λJ=>absurd (show(k:Int)<c.R by omega) J);refine Y5 (a:=k) (b:=0) rfl hC (by omega) (by omega) ?_;refine pC (i:=0) (j:=0) h ⟨rfl,rfl,rfl,rfl,rfl,rfl,rfl⟩ (by omega) (by omega) (by simp; omega) (W _ ?_);rw[aF,gW,<-nP];show _=_++[c.fOrder g.u k];unfold GC.fOrder;rw[Y6,D];rfl
   . subst d;refine A0 (λJ=>absurd (show(c.R:Int)<c.R from J) (by omega)) (λ_=>?_);refine a9 Z _ ?_ rfl
     have o1:One c g.next (⟨⟨(0:Nat),(0:Nat)⟩,c.p,⟨c.R,c.C⟩,c.lim,c.ch,c.rows 0 0,c.cols 0 0,out++(List.range c.R).map (c.fOrder g.u),c2,a6,a4,round,a5,b0,c1,d0,a7,c0,b1,A4 (a3+1),[],c.st g.u != 0⟩:A1):=by
       refine⟨?_,MapR.nil _ _ λk _=>rfl,?_⟩
       . show A4 (a3+1)=((g.u+1:Nat):Int);rw[D,A6 (by omega) (by omega)]; omega
       . show(c.st g.u != 0)=decide (1<=g.u+1∧c.st (g.u+1 - 1)≠0);grind
     exact WOk.bump h ha (by omega) (by omega) O ⟨rfl,rfl,rfl,rfl,rfl,rfl,rfl⟩ ⟨rfl,rfl,rfl,rfl,rfl,rfl,rfl,rfl,rfl⟩ λ_ _=>o1
end
section
open Go Go.Fw
def AN:Nat->(Nat->Nat)->Nat
 | 0,_=>0
 | n+1,f=>AN n f+f n
theorem E9 {f f':Nat->Nat}:∀ {n:Nat},(∀ i,i<n->f' i=f i)->AN n f'=AN n f
 | 0,_=>rfl
 | n+1,h=>by show AN n f'+f' n=AN n f+f n; rw[E9 (n:=n) λi _=>h i (by omega),h n (by omega)]
theorem H7 {f f':Nat->Nat} {i:Nat}:∀ {n:Nat},i<n->(∀ k,k<n->k≠i->f' k=f k)->AN n f'+f i=AN n f+f' i
 | n+1,hi,h=>by
  show AN n f'+f' n+f i=AN n f+f n+f' i;by_cases e:i=n
  . subst e; rw[E9 (f:=f) (f':=f') λk hk=>h k (by omega) (by omega)]; omega
  . have:=H7 (n:=n) (f:=f) (f':=f') (i:=i) (by omega) λk hk=>h k (by omega);rw[h n (by omega) (λd=>e d.symm)]; omega
theorem NK (n b:Nat):AN n (λ_=>b)=n*b:=by
 induction n with
 | zero=>simp[AN]
 | succ n d=>show AN n _+b=_; rw[d,AiQ]
theorem CV {n b:Nat} {f:Nat->Nat} (h:∀ i,i<n->f i=b):AN n f=n*b:=by rw[<-NK]; exact E9 h
theorem LP {f:Nat->Nat} {n:Nat} (h:AN n f≠0):∃ i,i<n∧f i≠0:=by
 rcases yK (∃ i,i<n∧f i≠0) with d | d
 . exact d
 . refine absurd ((CV (b:=0) λi hi=>?_).trans (O1 n)) h;exact AfV λD=>d ⟨i,hi,D⟩
theorem HW {f:Nat->Nat} {i:Nat}:∀ {n:Nat},i<n->f i<=AN n f
 | n+1,hi=>by
  show _<=AN n f+f n;by_cases e:i=n
  . subst e; omega
  . have:=HW (n:=n) (f:=f) (show i<n by omega); omega
theorem HF {f:Nat->Nat} {b:Nat}:∀ {n:Nat},(∀ i,i<n->f i<=b)->AN n f<=n*b
 | 0,_=>by simp[AN]
 | n+1,h=>by have:=HF (n:=n) (f:=f) λi _=>h i (by omega);have:=h n (by omega);show AN n f+f n<=_; rw[AiQ]; omega
theorem M6 {R C:Nat} {f f':Nat->Nat->Nat} {i j:Nat} (hi:i<R) (J:j<C) (h:∀ a b,a<R->b<C->¬(a=i∧b=j)->f' a b=f a b):AN R (λa=>AN C (f' a))+f i j=AN R (λa=>AN C (f a))+f' i j:=by have U:=H7 (n:=R) (f:=λa=>AN C (f a)) (f':=λa=>AN C (f' a)) hi λa O d=>E9 λb D=>h a b O D λe=>d e.1;have V:=H7 (n:=C) (f:=f i) (f':=f' i) J λb D d=>h i b hi D λe=>d e.2;omega
def wt (φ:AK->Nat):List AK->Nat
 | []=>0
 | f :: l=>φ f+wt φ l
theorem AcB (φ:AK->Nat):∀ (l m:List AK),wt φ (l++m)=wt φ l+wt φ m
 | [],m=>by simp[wt]
 | f :: l,m=>by show φ f+wt φ (l++m)=φ f+wt φ l+wt φ m; rw[AcB φ l m]; omega
theorem AhQ (φ:AK->Nat) (F:Nat->AK) (n:Nat):wt φ ((List.range n).map F)=AN n λi=>φ (F i):=by
 induction n with
 | zero=>rfl
 | succ n d=>rw[aF,gW,AcB,d]; simp[wt,AN]
theorem AhR:∀ (l:List AK),wt (λ_=>1) l=l.length
 | []=>rfl
 | f :: l=>by show 1+wt _ l=_; rw[AhR l,gY]; omega
theorem ArC {φ:AK->Nat} {f:AK}:∀ {l:List AK},f∈l->φ f<=wt φ l
 | x :: l,h=>by
  show _<=φ x+wt φ l;rcases List.mem_cons.1 h with rfl | h
  . omega
  . have:=ArC (φ:=φ) h; omega
section
variable (c:GC) (φ:AK→Nat) (g:Gh)
def Gh.pO (i:Nat):Nat:=if 1<=g.u∧g.O i=false then φ (c.fOrder (g.u - 1) i) else 0
def Gh.pS (i j:Nat):Nat:=if g.O i=true∧g.u<c.U∧g.S i j=false then φ (c.fShare g.u i j) else 0
def Gh.pE (j i:Nat):Nat:=if g.col c j=true∧g.E i j=false then φ (c.fSpread g.u j i) else 0
def Gh.pA (i j:Nat):Nat:=if g.E i j=true∧g.A i j=false then φ (c.fGather g.u i j) else 0
noncomputable def Gh.pV (i:Nat):Nat:=if g.row c i=true∧g.V i=false then φ (c.fVote g.u i) else 0
noncomputable def Gh.pend:Nat:=AN c.R (g.pO c φ)+AN c.R (λi=>AN c.C (g.pS c φ i))+AN c.C (λj=>AN c.R (g.pE c φ j))+AN c.R (λi=>AN c.C (g.pA c φ i))+AN c.R (g.pV c φ)
def Gh.Pend (f:AK):Prop:=
 (∃ i,i<c.R∧1<=g.u∧g.O i=false∧f=c.fOrder (g.u - 1) i)∨(∃ i j,i<c.R∧j<c.C∧g.O i=true∧g.u<c.U∧g.S i j=false∧f=c.fShare g.u i j) ∨
 (∃ j i,j<c.C∧i<c.R∧g.col c j=true∧g.E i j=false∧f=c.fSpread g.u j i)∨(∃ i j,i<c.R∧j<c.C∧g.E i j=true∧g.A i j=false∧f=c.fGather g.u i j) ∨
 ∃ i,i<c.R∧g.row c i=true∧g.V i=false∧f=c.fVote g.u i
theorem Gh.pend_in {f:AK} (h:g.pend c (λx=>if x=f then 1 else 0)≠0):g.Pend c f:=by
 have D:∀ {p:Prop} [Decidable p] {x:AK},(if p then (if x=f then 1 else 0) else 0)≠0->p∧f=x:=by
   intro p _ x d;split at d
   . rename_i hp; split at d
     . rename_i e; exact⟨hp,e.symm⟩
     . exact absurd rfl d
   . exact absurd rfl d
 unfold pend at h;rcases aD (AN c.R (g.pV c λx=>if x=f then 1 else 0)) with W | W
 . rcases aD (AN c.R λi=>AN c.C (g.pA c (λx=>if x=f then 1 else 0) i)) with Z | Z
   . rcases aD (AN c.C λj=>AN c.R (g.pE c (λx=>if x=f then 1 else 0) j)) with V | V
     . rcases aD (AN c.R λi=>AN c.C (g.pS c (λx=>if x=f then 1 else 0) i)) with J | J
       . have⟨i,hi,d⟩:=LP (by omega:AN c.R (g.pO c λx=>if x=f then 1 else 0)≠0);have⟨⟨O,J⟩,e⟩:=D d;exact .inl ⟨i,hi,O,J,e⟩
       . have⟨i,hi,d⟩:=LP (by omega:(AN c.R λi=>AN c.C (g.pS c (λx=>if x=f then 1 else 0) i))≠0);have⟨j,U,d⟩:=LP d;have⟨⟨O,J,V⟩,e⟩:=D d;exact .inr (.inl ⟨i,j,hi,U,O,J,V,e⟩)
     . have⟨j,U,d⟩:=LP (by omega:(AN c.C λj=>AN c.R (g.pE c (λx=>if x=f then 1 else 0) j))≠0);have⟨i,hi,d⟩:=LP d;have⟨⟨O,J⟩,e⟩:=D d;exact .inr (.inr (.inl ⟨j,i,U,hi,O,J,e⟩))
   . have⟨i,hi,d⟩:=LP (by omega:(AN c.R λi=>AN c.C (g.pA c (λx=>if x=f then 1 else 0) i))≠0);have⟨j,U,d⟩:=LP d;have⟨⟨O,J⟩,e⟩:=D d;exact .inr (.inr (.inr (.inl ⟨i,j,hi,U,O,J,e⟩)))
 . have⟨i,hi,d⟩:=LP (by omega:AN c.R (g.pV c λx=>if x=f then 1 else 0)≠0);have⟨⟨O,J⟩,e⟩:=D d;exact .inr (.inr (.inr (.inr ⟨i,hi,O,J,e⟩)))
def Gh.bt (b:Bool):Nat:=if b=true then 1 else 0
def Gh.T:Nat:=2*c.R+3*(c.R*c.C)
def Gh.val:Nat:=g.u*T c+(AN c.R (λi=>bt (g.O i))+AN c.R (λi=>AN c.C λj=>bt (g.S i j))+AN c.R (λi=>AN c.C λj=>bt (g.E i j))+AN c.R (λi=>AN c.C λj=>bt (g.A i j))+AN c.R λi=>bt (g.V i))
def Gh.TW (ω:Int->Int->Nat):Nat:=AN c.R (λ_=>ω 5 0)+AN c.R (λi=>AN c.C λ_=>ω 1 (c.num i 0))+AN c.R (λ_=>AN c.C λj=>ω 2 j)+AN c.R (λi=>AN c.C λj=>ω 3 (c.num i j))+AN c.R λi=>ω 4 (c.num i 0)
def Gh.valW (ω:Int->Int->Nat):Nat:=g.u*TW c ω+(AN c.R (λi=>bt (g.O i)*ω 5 0)+AN c.R (λi=>AN c.C λj=>bt (g.S i j)*ω 1 (c.num i 0))+AN c.R (λi=>AN c.C λj=>bt (g.E i j)*ω 2 j)+AN c.R (λi=>AN c.C λj=>bt (g.A i j)*ω 3 (c.num i j))+AN c.R λi=>bt (g.V i)*ω 4 (c.num i 0))
open Classical in
noncomputable def Gh.nh:Nat:=if g.u<=1 then 1 else if (∀ i,i<c.R->g.O i=true)∧c.st (g.u - 1)≠3 then g.u else g.u - 1
end
variable {c:GC} {g:Gh}
theorem mQ:g.valW c (λ_ _=>1)=g.val c:=by
 have e:∀ R C,AN R (λ_=>AN C λ_=>1)=R*C:=λR C=>by rw[NK,NK,AaM]
 unfold Gh.valW Gh.val Gh.TW Gh.T;simp only[AaM,e,NK];have:c.R+c.R*c.C+c.R*c.C+c.R*c.C+c.R=2*c.R+3*(c.R*c.C):=by omega
 rw[this]
theorem Af4 (b:Bool):Gh.bt b<=1:=by unfold Gh.bt; split <;> omega
theorem T_b (h:c.Ok):Gh.T c<=85∧c.R*c.C<=25:=by have d:=h.R1; have D:=h.C1;have:c.R*c.C<=5*5:=Ao8 d.2 D.2;unfold Gh.T; omega
theorem Av3 (a2:c.Ok) (Z:g.Ok c):g.val c<=c.U*Gh.T c+c.R:=by
 have hR:=a2.R1; have hC:=a2.C1; have hu:=Z.u;have e1:=HF (n:=c.R) (f:=λi=>Gh.bt (g.O i)) (b:=1) λi _=>Af4 _;rcases aG g.u c.U with a4 | a7
 . have h1:(g.u+1)*Gh.T c<=c.U*Gh.T c:=wS _ a4;rw[WL,sS] at h1;have e5:=HF (n:=c.R) (f:=λi=>Gh.bt (g.V i)) (b:=1) λi _=>Af4 _;have d:∀ (f:Nat->Nat->Bool),AN c.R (λi=>AN c.C λj=>Gh.bt (f i j))<=c.R*c.C:=λf=>HF λi _=>by have:=HF (n:=c.C) (f:=λj=>Gh.bt (f i j)) (b:=1) λj _=>Af4 _; omega
   have:=d g.S; have:=d g.E; have:=d g.A;unfold Gh.val;have hT:Gh.T c=2*c.R+3*(c.R*c.C):=rfl;omega
 . have h:∀ {b:Bool},(b=true->False)->b=false:=λ{b} W=>by cases b; rfl; exact(W rfl).elim
   have hS:∀ i j,i<c.R->g.S i j=false:=λi j hi=>h λD=>by have:=(Z.S i j hi D).2; omega
   have a3:∀ j,g.col c j=false:=λj=>decide_eq_false λhx=>by have:=hx 0 (by omega); rw[hS 0 j (by omega)] at this; cases this
   have hE:∀ i j,i<c.R->j<c.C->g.E i j=false:=λi j hi J=>h λD=>by have:=Z.E i j hi J D; rw[a3] at this; cases this
   have hA:∀ i j,i<c.R->j<c.C->g.A i j=false:=λi j hi J=>h λD=>by have:=Z.A i j hi J D; rw[hE i j hi J] at this; cases this
   have a6:∀ i,i<c.R->g.row c i=false:=λi hi=>decide_eq_false λhx=>by have:=hx 0 (by omega); rw[hA i 0 hi (by omega)] at this; cases this
   have hV:∀ i,i<c.R->g.V i=false:=λi hi=>h λD=>by have:=Z.V i hi D; rw[a6 i hi] at this; cases this
   have z:∀ {b:Bool},b=false->Gh.bt b<=0:=λW=>by rw[W]; exact YG _
   have e5:=HF (n:=c.R) (f:=λi=>Gh.bt (g.V i)) (b:=0) λi hi=>z (hV i hi)
   have d:∀ (f:Nat->Nat->Bool),(∀ i j,i<c.R->j<c.C->f i j=false)->AN c.R (λi=>AN c.C λj=>Gh.bt (f i j))<=0:=λf hf=>by
    have:=HF (n:=c.R) (f:=λi=>AN c.C λj=>Gh.bt (f i j)) (b:=0) λi hi=>by have:=HF (n:=c.C) (f:=λj=>Gh.bt (f i j)) (b:=0) λj J=>z (hf i j hi J); omega
    omega
   have:=d g.S λi j hi _=>hS i j hi;have:=d g.E hE; have:=d g.A hA;have a5:g.u=c.U:=by omega
   unfold Gh.val;rw[a5];omega
theorem AtQ (h:c.Ok):g.pend c (λ_=>1)<=85:=by
 have V:=T_b h;have hi:∀ {p:Prop} [Decidable p],(if p then 1 else 0)<=1:=λ{p} _=>by split <;> omega
 have D:=HF (n:=c.R) (f:=g.pO c λ_=>1) (b:=1) λi _=>hi;have U:=HF (n:=c.R) (f:=g.pV c λ_=>1) (b:=1) λi _=>hi;have J:AN c.R (λi=>AN c.C (g.pS c (λ_=>1) i))<=c.R*c.C:=HF λi _=>by have:=HF (n:=c.C) (f:=g.pS c (λ_=>1) i) (b:=1) λj _=>hi; omega
 have O:AN c.R (λi=>AN c.C (g.pA c (λ_=>1) i))<=c.R*c.C:=HF λi _=>by have:=HF (n:=c.C) (f:=g.pA c (λ_=>1) i) (b:=1) λj _=>hi; omega
 have d:AN c.C (λj=>AN c.R (g.pE c (λ_=>1) j))<=c.C*c.R:=HF λi _=>by have:=HF (n:=c.R) (f:=g.pE c (λ_=>1) i) (b:=1) λj _=>hi; omega
 rw[AaL c.C] at d;unfold Gh.pend;unfold Gh.T at *;omega
theorem AwB {f:Nat->Bool} {i a:Nat} (h:f a=true):I5 f i a=true:=by unfold I5; split <;> simp_all
theorem AhS {f:Nat->Nat->Bool} {i j a b:Nat} (h:f a b=true):DT f i j a b=true:=by unfold DT; split <;> simp_all
theorem vQ (f:Nat->Bool) (i:Nat):I5 f i i=true:=if_pos rfl
theorem iX (f:Nat->Nat->Bool) (i j:Nat):DT f i j i j=true:=if_pos ⟨rfl,rfl⟩
theorem Z9 {f:Nat->Bool} {i a:Nat} (h:a≠i):I5 f i a=f a:=if_neg h
theorem NL {f:Nat->Nat->Bool} {i j a b:Nat} (h:¬(a=i∧b=j)):DT f i j a b=f a b:=if_neg h
structure AhT (c:GC) (g g':Gh) (f:AK) (N:List AK):Prop where
 ok:g'.Ok c
 w:∀ φ,g'.pend c φ+φ f=g.pend c φ+wt φ N
 vw:∀ ω,g'.valW c ω=g.valW c ω+ω f.Kind f.From
 h:g'.nh c=g.nh c∨g'.nh c=g.nh c+1∧∀ i,i<c.R→g'.rnd c i=g.nh c
theorem AhU (x:Nat):Gh.bt false*x=0:=Ag7 x
theorem xN (x:Nat):Gh.bt true*x=x:=sS x
theorem AwC (a4:c.Ok) (J:g.Ok c) {i:Nat} (hi:i<c.R) (hu:1<=g.u) (W:g.O i=false):AhT c g { g with O:=I5 g.O i } (c.fOrder (g.u - 1) i) (if g.u<c.U then (List.range c.C).map (c.fShare g.u i) else []):=by
 have hS:∀ j,g.S i j=false:=λj=>by
   cases d:g.S i j with
   | false=>rfl
   | true=>have:=(J.S i j hi d).1; rw[W] at this; cases this
 refine⟨⟨J.u,λa b h d=>⟨AwB (J.S a b h d).1,(J.S a b h d).2⟩,J.E,J.A,J.V,J.no,λh0=>absurd (show g.u=0 from h0) (by omega)⟩,λφ=>?_,?_,?_⟩
 . have D:=H7 (n:=c.R) (f:=g.pO c φ) (f':=({ g with O:=I5 g.O i }:Gh).pO c φ) hi λk _ hk=>by unfold Gh.pO; simp only; rw[Z9 hk]
   have h2:=H7 (n:=c.R) (f:=λa=>AN c.C (g.pS c φ a)) (f':=λa=>AN c.C (({ g with O:=I5 g.O i }:Gh).pS c φ a)) hi λk _ hk=>by unfold Gh.pS; simp only; rw[Z9 hk]
   have e1:g.pO c φ i=φ (c.fOrder (g.u - 1) i):=if_pos ⟨hu,W⟩;have e2:({ g with O:=I5 g.O i }:Gh).pO c φ i=0:=if_neg λd=>by have Z:I5 g.O i i=false:=d.2; rw[vQ] at Z; cases Z
   have e3:AN c.C (g.pS c φ i)=0:=(CV (b:=0) λj _=>if_neg λd=>by have Z:=d.1; rw[W] at Z; cases Z).trans (O1 _)
   have e4:AN c.C (({ g with O:=I5 g.O i }:Gh).pS c φ i)=wt φ (if g.u<c.U then (List.range c.C).map (c.fShare g.u i) else []):=by
     split
     . rename_i a3;rw[AhQ];exact E9 λj _=>if_pos ⟨vQ _ _,a3,hS j⟩
     . rename_i a2;exact(CV (b:=0) λj _=>if_neg λd=>a2 d.2.1).trans (O1 _)
   simp only[e1,e2,e3,e4] at D h2;show AN c.R (({ g with O:=I5 g.O i }:Gh).pO c φ)+AN c.R (λa=>AN c.C (({ g with O:=I5 g.O i }:Gh).pS c φ a))+AN c.C (λj=>AN c.R (g.pE c φ j))+AN c.R (λi=>AN c.C (g.pA c φ i))+AN c.R (g.pV c φ)+_=_;unfold Gh.pend;omega
 . intro ω;have D:=H7 (n:=c.R) (f:=λa=>Gh.bt (g.O a)*ω 5 0) (f':=λa=>Gh.bt (I5 g.O i a)*ω 5 0) hi λk _ hk=>by rw[Z9 hk]
   simp only[vQ,W,AhU,xN] at D;show _=_+ω 5 0;unfold Gh.valW;simp only;omega
 . unfold Gh.nh;rw[if_neg (c:=(∀ a,a<c.R->g.O a=true)∧c.st (g.u - 1)≠3) λd=>by have:=d.1 i hi; rw[W] at this; cases this];by_cases D:g.u<=1
   . left; rw[if_pos D,if_pos (show({ g with O:=I5 g.O i }:Gh).u<=1 from D)]
   . rw[if_neg D,if_neg (show ¬({ g with O:=I5 g.O i }:Gh).u<=1 from D)];split
     . rename_i d;right;refine⟨by show g.u=g.u - 1+1; omega,λa h=>?_⟩;unfold Gh.rnd;rw[if_pos (d.1 a h),if_neg d.2]
     . exact .inl rfl
theorem AwD (a7:c.Ok) (J:g.Ok c) {i j:Nat} (hi:i<c.R) (W:j<c.C) (hO:g.O i=true) (hu:g.u<c.U) (hS:g.S i j=false):AhT c g { g with S:=DT g.S i j } (c.fShare g.u i j) (if ({ g with S:=DT g.S i j }:Gh).col c j=true then (List.range c.R).map (c.fSpread g.u j) else []):=by
 have a2:g.col c j=false:=decide_eq_false λd=>by have:=d i hi; rw[hS] at this; cases this
 have a3:∀ b,g.col c b=true->({ g with S:=DT g.S i j }:Gh).col c b=true:=λb d=>decide_eq_true λa D=>AhS (of_decide_eq_true d a D);have a4:∀ b,b≠j->({ g with S:=DT g.S i j }:Gh).col c b=g.col c b:=λb hb=>by unfold Gh.col; simp only[NL (f:=g.S) (i:=i) (j:=j) (b:=b) (λe=>hb e.2)]
 have hE:∀ a,a<c.R->g.E a j=false:=λa D=>by
   cases d:g.E a j with
   | false=>rfl
   | true=>have:=J.E a j D W d; rw[a2] at this; cases this
 refine⟨⟨J.u,λa b D d=>?_,λa b D hb d=>a3 b (J.E a b D hb d),J.A,J.V,J.no,J.z⟩,λφ=>?_,?_,.inl rfl⟩
 . by_cases e:a=i∧b=j
   . rw[e.1]; exact⟨hO,hu⟩
   . exact J.S a b D (by rw[<-NL (f:=g.S) e]; exact d)
 . have h1:=M6 (f:=g.pS c φ) (f':=({ g with S:=DT g.S i j }:Gh).pS c φ) hi W λa b _ _ Z=>by unfold Gh.pS; simp only; rw[NL Z]
   have h2:=H7 (n:=c.C) (f:=λb=>AN c.R (g.pE c φ b)) (f':=λb=>AN c.R (({ g with S:=DT g.S i j }:Gh).pE c φ b)) W λk _ hk=>by unfold Gh.pE; rw[a4 k hk]
   have e1:g.pS c φ i j=φ (c.fShare g.u i j):=if_pos ⟨hO,hu,hS⟩;have e2:({ g with S:=DT g.S i j }:Gh).pS c φ i j=0:=if_neg λd=>by have h:DT g.S i j i j=false:=d.2.2; rw[iX] at h; cases h
   have e3:AN c.R (g.pE c φ j)=0:=(CV (b:=0) λa _=>if_neg λd=>by have h:=d.1; rw[a2] at h; cases h).trans (O1 _)
   have e4:AN c.R (({ g with S:=DT g.S i j }:Gh).pE c φ j)=wt φ (if ({ g with S:=DT g.S i j }:Gh).col c j=true then (List.range c.R).map (c.fSpread g.u j) else []):=by
     split
     . rename_i a6;rw[AhQ];exact E9 λa D=>if_pos ⟨a6,hE a D⟩
     . rename_i a5;exact(CV (b:=0) λa _=>if_neg λd=>a5 d.1).trans (O1 _)
   simp only[e1,e2,e3,e4] at h1 h2;show AN c.R (g.pO c φ)+AN c.R (λa=>AN c.C (({ g with S:=DT g.S i j }:Gh).pS c φ a))+AN c.C (λb=>AN c.R (({ g with S:=DT g.S i j }:Gh).pE c φ b))+AN c.R (λi=>AN c.C (g.pA c φ i))+AN c.R (g.pV c φ)+_=_;unfold Gh.pend;omega
 . intro ω;have h1:=M6 (f:=λa b=>Gh.bt (g.S a b)*ω 1 (c.num a 0)) (f':=λa b=>Gh.bt (DT g.S i j a b)*ω 1 (c.num a 0)) hi W λa b _ _ Z=>by rw[NL Z]
   simp only[iX,hS,AhU,xN] at h1;show _=_+ω 1 (c.num i 0);unfold Gh.valW;simp only;omega
theorem AwE (a2:c.Ok) (J:g.Ok c) {i j:Nat} (hi:i<c.R) (U:j<c.C) (hc:g.col c j=true) (W:g.E i j=false):AhT c g { g with E:=DT g.E i j } (c.fSpread g.u j i) [c.fGather g.u i j]:=by
 have hA:g.A i j=false:=by
   cases D:g.A i j with
   | false=>rfl
   | true=>have:=J.A i j hi U D; rw[W] at this; cases this
 refine⟨⟨J.u,J.S,λa b Z hb D=>?_,λa b Z hb D=>AhS (J.A a b Z hb D),J.V,J.no,J.z⟩,λφ=>?_,?_,.inl rfl⟩
 . by_cases e:a=i∧b=j
   . rw[e.2]; exact hc
   . exact J.E a b Z hb (by rw[<-NL (f:=g.E) e]; exact D)
 . have h:=M6 (f:=g.pE c φ) (f':=({ g with E:=DT g.E i j }:Gh).pE c φ) U hi λb a _ _ d=>by unfold Gh.pE; simp only; rw[NL λe=>d ⟨e.2,e.1⟩]; rfl
   have h2:=M6 (f:=g.pA c φ) (f':=({ g with E:=DT g.E i j }:Gh).pA c φ) hi U λa b _ _ d=>by unfold Gh.pA; simp only; rw[NL d]
   have e1:g.pE c φ j i=φ (c.fSpread g.u j i):=if_pos ⟨hc,W⟩;have e2:({ g with E:=DT g.E i j }:Gh).pE c φ j i=0:=if_neg λD=>by have O:DT g.E i j i j=false:=D.2; rw[iX] at O; cases O
   have e3:g.pA c φ i j=0:=if_neg λD=>by have O:=D.1; rw[W] at O; cases O
   have e4:({ g with E:=DT g.E i j }:Gh).pA c φ i j=φ (c.fGather g.u i j):=if_pos ⟨iX _ _ _,hA⟩;rw[e1,e2] at h; rw[e3,e4] at h2;show AN c.R (g.pO c φ)+AN c.R (λa=>AN c.C (g.pS c φ a))+AN c.C (λb=>AN c.R (({ g with E:=DT g.E i j }:Gh).pE c φ b))+AN c.R (λi'=>AN c.C (({ g with E:=DT g.E i j }:Gh).pA c φ i'))+AN c.R (g.pV c φ)+_=_;unfold Gh.pend;simp only[wt];omega
 . intro ω;have h:=M6 (f:=λa b=>Gh.bt (g.E a b)*ω 2 b) (f':=λa b=>Gh.bt (DT g.E i j a b)*ω 2 b) hi U λa b _ _ d=>by rw[NL d]
   simp only[iX,W,AhU,xN] at h;show _=_+ω 2 j;unfold Gh.valW;simp only;omega
theorem AwF (a5:c.Ok) (J:g.Ok c) {i j:Nat} (hi:i<c.R) (hj:j<c.C) (hE:g.E i j=true) (O:g.A i j=false):AhT c g { g with A:=DT g.A i j } (c.fGather g.u i j) (if ({ g with A:=DT g.A i j }:Gh).row c i=true then [c.fVote g.u i] else []):=by
 have a2:g.row c i=false:=decide_eq_false λd=>by have:=d j hj; rw[O] at this; cases this
 have a3:∀ a,g.row c a=true->({ g with A:=DT g.A i j }:Gh).row c a=true:=λa d=>decide_eq_true λb W=>AhS (of_decide_eq_true d b W);have a4:∀ a,a≠i->({ g with A:=DT g.A i j }:Gh).row c a=g.row c a:=λa D=>by unfold Gh.row; simp only[NL (f:=g.A) (i:=i) (j:=j) (a:=a) (λe=>D e.1)]
 have hV:g.V i=false:=by
   cases d:g.V i with
   | false=>rfl
   | true=>have:=J.V i hi d; rw[a2] at this; cases this
 refine⟨⟨J.u,J.S,J.E,λa b D W d=>?_,λa D d=>a3 a (J.V a D d),J.no,λh0 a D=>⟨(J.z h0 a D).1,a3 a (J.z h0 a D).2⟩⟩,λφ=>?_,?_,.inl rfl⟩
 . by_cases e:a=i∧b=j
   . rw[e.1,e.2]; exact hE
   . exact J.A a b D W (by rw[<-NL (f:=g.A) e]; exact d)
 . have h:=M6 (f:=g.pA c φ) (f':=({ g with A:=DT g.A i j }:Gh).pA c φ) hi hj λa b _ _ U=>by unfold Gh.pA; simp only; rw[NL U]
   have h2:=H7 (n:=c.R) (f:=g.pV c φ) (f':=({ g with A:=DT g.A i j }:Gh).pV c φ) hi λa _ D=>by unfold Gh.pV; simp only; rw[a4 a D]
   have e1:g.pA c φ i j=φ (c.fGather g.u i j):=if_pos ⟨hE,O⟩;have e2:({ g with A:=DT g.A i j }:Gh).pA c φ i j=0:=if_neg λd=>by have Z:DT g.A i j i j=false:=d.2; rw[iX] at Z; cases Z
   have e3:g.pV c φ i=0:=if_neg λd=>by have Z:=d.1; rw[a2] at Z; cases Z
   have e4:({ g with A:=DT g.A i j }:Gh).pV c φ i=wt φ (if ({ g with A:=DT g.A i j }:Gh).row c i=true then [c.fVote g.u i] else []):=by
     split
     . rename_i hr;exact(if_pos ⟨hr,hV⟩).trans (by simp[wt])
     . rename_i hr;exact if_neg λd=>hr d.1
   rw[e1,e2] at h; rw[e3,e4] at h2;show AN c.R (g.pO c φ)+AN c.R (λa=>AN c.C (g.pS c φ a))+AN c.C (λb=>AN c.R (g.pE c φ b))+AN c.R (λi'=>AN c.C (({ g with A:=DT g.A i j }:Gh).pA c φ i'))+AN c.R (({ g with A:=DT g.A i j }:Gh).pV c φ)+_=_;unfold Gh.pend;omega
 . intro ω;have h:=M6 (f:=λa b=>Gh.bt (g.A a b)*ω 3 (c.num a b)) (f':=λa b=>Gh.bt (DT g.A i j a b)*ω 3 (c.num a b)) hi hj λa b _ _ U=>by rw[NL U]
   simp only[iX,O,AhU,xN] at h;show _=_+ω 3 (c.num i j);unfold Gh.valW;simp only;omega
theorem AwG (a2:c.Ok) (d:g.Ok c) {i:Nat} (hi:i<c.R) (h:g.row c i=true) (Z:g.V i=false) (O:∃ k,k<c.R∧I5 g.V i k=false):AhT c g { g with V:=I5 g.V i } (c.fVote g.u i) []:=by
 refine⟨⟨d.u,d.S,d.E,d.A,λa D U=>?_,O,d.z⟩,λφ=>?_,?_,.inl rfl⟩
 . by_cases e:a=i
   . rw[e]; exact h
   . exact d.V a D (by rw[<-Z9 (f:=g.V) e]; exact U)
 . have h2:=H7 (n:=c.R) (f:=g.pV c φ) (f':=({ g with V:=I5 g.V i }:Gh).pV c φ) hi λa _ D=>by unfold Gh.pV; simp only; rw[Z9 D]; rfl
   have e3:g.pV c φ i=φ (c.fVote g.u i):=if_pos ⟨h,Z⟩;have e4:({ g with V:=I5 g.V i }:Gh).pV c φ i=0:=if_neg λU=>by have W:I5 g.V i i=false:=U.2; rw[vQ] at W; cases W
   rw[e3,e4] at h2;show AN c.R (g.pO c φ)+AN c.R (λa=>AN c.C (g.pS c φ a))+AN c.C (λb=>AN c.R (g.pE c φ b))+AN c.R (λi'=>AN c.C (g.pA c φ i'))+AN c.R (({ g with V:=I5 g.V i }:Gh).pV c φ)+_=_;unfold Gh.pend;simp only[wt];omega
 . intro ω;have h1:=H7 (n:=c.R) (f:=λa=>Gh.bt (g.V a)*ω 4 (c.num a 0)) (f':=λa=>Gh.bt (I5 g.V i a)*ω 4 (c.num a 0)) hi λa _ J=>by rw[Z9 J]
   simp only[vQ,Z,AhU,xN] at h1;show _=_+ω 4 (c.num i 0);unfold Gh.valW;simp only;omega
theorem AmX (h:c.Ok) (hg:g.Ok c) (W:g.All c) {i:Nat} (hi:i<c.R) (hV:g.V i=false) (a3:∀ k,k<c.R->I5 g.V i k=true):AhT c g g.next (c.fVote g.u i) ((List.range c.R).map (c.fOrder g.u)):=by
 have hR:=h.R1; have hC:=h.C1;have a2:∀ k,k<c.R->k≠i->g.V k=true:=λk hk U=>by have:=a3 k hk; rwa [Z9 U] at this
 have hA:∀ a b,a<c.R->b<c.C->g.A a b=true:=λa b d J=>of_decide_eq_true (W.row a d) b J;have hS:∀ a b,a<c.R->b<c.C->g.S a b=true:=λa b d J=>of_decide_eq_true (W.col b J) a d;refine⟨Gh.next_ok W h,λφ=>?_,?_,.inl ?_⟩
 . have z1:AN c.R (g.pO c φ)=0:=(CV (b:=0) λa d=>if_neg λD=>by rw[W.O a d] at D; exact nomatch D.2).trans (O1 _);have z2:AN c.R (λa=>AN c.C (g.pS c φ a))=0:=(CV (b:=0) λa d=>(CV (b:=0) λb J=>if_neg λD=>by rw[hS a b d J] at D; exact nomatch D.2.2).trans (O1 _)).trans (O1 _);have z3:AN c.C (λb=>AN c.R (g.pE c φ b))=0:=(CV (b:=0) λb J=>(CV (b:=0) λa d=>if_neg λD=>by rw[W.E a b d J] at D; exact nomatch D.2).trans (O1 _)).trans (O1 _);have z4:AN c.R (λa=>AN c.C (g.pA c φ a))=0:=(CV (b:=0) λa d=>(CV (b:=0) λb J=>if_neg λD=>by rw[hA a b d J] at D; exact nomatch D.2).trans (O1 _)).trans (O1 _);have z5:=H7 (n:=c.R) (f:=λ_=>0) (f':=g.pV c φ) hi λa d U=>if_neg λD=>by rw[a2 a d U] at D; exact nomatch D.2
   have e5:g.pV c φ i=φ (c.fVote g.u i):=if_pos ⟨W.row i hi,hV⟩;rw[NK] at z5;have y1:AN c.R (g.next.pO c φ)=AN c.R λa=>φ (c.fOrder g.u a):=E9 λa _=>if_pos ⟨by show 1<=g.u+1; omega,rfl⟩;have y2:AN c.R (λa=>AN c.C (g.next.pS c φ a))=0:=(CV (b:=0) λa d=>(CV (b:=0) λb J=>if_neg λD=>nomatch D.1).trans (O1 _)).trans (O1 _);have y3:AN c.C (λb=>AN c.R (g.next.pE c φ b))=0:=(CV (b:=0) λb J=>(CV (b:=0) λa d=>if_neg λD=>by rw[Gh.next_col h] at D; exact nomatch D.1).trans (O1 _)).trans (O1 _);have y4:AN c.R (λa=>AN c.C (g.next.pA c φ a))=0:=(CV (b:=0) λa d=>(CV (b:=0) λb J=>if_neg λD=>nomatch D.1).trans (O1 _)).trans (O1 _);have y5:AN c.R (g.next.pV c φ)=0:=(CV (b:=0) λa d=>if_neg λD=>by rw[Gh.next_row h] at D; exact nomatch D.1).trans (O1 _);rw[AhQ];unfold Gh.pend;omega
 . intro ω;have z1:AN c.R (λa=>Gh.bt (g.O a)*ω 5 0)=AN c.R λ_=>ω 5 0:=E9 λa d=>by rw[W.O a d,xN]
   have z2:AN c.R (λa=>AN c.C λb=>Gh.bt (g.S a b)*ω 1 (c.num a 0))=AN c.R λa=>AN c.C λ_=>ω 1 (c.num a 0):=E9 λa d=>E9 λb J=>by rw[hS a b d J,xN]
   have z3:AN c.R (λa=>AN c.C λb=>Gh.bt (g.E a b)*ω 2 b)=AN c.R λa=>AN c.C λb=>ω 2 b:=E9 λa d=>E9 λb J=>by rw[W.E a b d J,xN]
   have z4:AN c.R (λa=>AN c.C λb=>Gh.bt (g.A a b)*ω 3 (c.num a b))=AN c.R λa=>AN c.C λb=>ω 3 (c.num a b):=E9 λa d=>E9 λb J=>by rw[hA a b d J,xN]
   have z5:=H7 (n:=c.R) (f:=λa=>ω 4 (c.num a 0)) (f':=λa=>Gh.bt (g.V a)*ω 4 (c.num a 0)) hi λa d U=>by rw[a2 a d U,xN]
   simp only[hV,AhU] at z5;have y:∀ n,AN n (λ_=>0)=0:=λn=>(NK n 0).trans (O1 n);show _=_+ω 4 (c.num i 0);unfold Gh.valW;show(g.u+1)*Gh.TW c ω+(AN c.R (λ_=>Gh.bt false*_)+AN c.R (λ_=>AN c.C λ_=>Gh.bt false*_)+AN c.R (λ_=>AN c.C λ_=>Gh.bt false*_)+AN c.R (λ_=>AN c.C λ_=>Gh.bt false*_)+AN c.R λ_=>Gh.bt false*_)=_;simp only[AhU,y];rw[z1,z2,z3,z4,AiQ];unfold Gh.TW;omega
 . have a4:g.u>=1->c.st (g.u - 1)=0:=λZ=>AcA h W.u Z;unfold Gh.nh;show(if g.u+1<=1 then 1 else if (∀ i,i<c.R->(false:Bool)=true)∧c.st (g.u+1 - 1)≠3 then g.u+1 else g.u+1 - 1)=_;by_cases h0:g.u=0
   . rw[h0]; rfl
   . rw[if_neg (by omega),if_neg (λD=>nomatch D.1 0 (by omega))];by_cases Z:g.u=1
     . rw[Z]; rfl
     . rw[if_neg (by omega),if_pos ⟨W.O,by rw[a4 (by omega)]; omega⟩]; omega
variable {c:GC} {g:Gh}
theorem iY {i j:Nat} (hi:i<c.R) (d:j<c.C):i*c.C+j<c.R*c.C:=by have:(i+1)*c.C<=c.R*c.C:=wS _ hi;grind
theorem mS (h:c.Ok) {i j:Nat} (d:j<c.C):(i*c.C+j) / c.C=i∧(i*c.C+j) % c.C=j:=by have D:=h.C1;rw[AaL,AiF (by omega),Nat.mul_add_mod,AnJ d,AnZ d];omega
theorem AtR (h:c.Ok) {i j D d:Nat} (O:j<c.C) (J:d<c.C) (e:i*c.C+j=D*c.C+d):i=D∧j=d:=by grind[mS]
theorem eW (h:c.Ok) {i j a b:Nat} (hi:i<c.R) (hj:j<c.C) (ha:a<c.R) (U:b<c.C) {w:A1} (D:Wst c i j w) {f:AK} (ht:f.To=c.num i j) (W:f.From=c.num a b) {Q:Bool×A1->Prop}
  (hQ:(f.Kind=1->EE w f ⟨a,b⟩ Q)∧(f.Kind=2->DZ w f ⟨a,b⟩ Q)∧(f.Kind=3->E3 w f ⟨a,b⟩ Q)∧(f.Kind=4->ES w f ⟨a,b⟩ Q)∧(f.Kind=5->E4 w f ⟨a,b⟩ Q))
  (hk:f.Kind=1∨f.Kind=2∨f.Kind=3∨f.Kind=4∨f.Kind=5):F2 w f Q:=by
 have hR:=h.R1; have hC:=h.C1; have hm:=(T_b h).2;have a2:=iY (c:=c) ha U;unfold F2 I3;rw[show w.place.i=(i:Int) by rw[D.pl],show w.place.j=(j:Int) by rw[D.pl],show w.grid.i=(c.R:Int) by rw[D.gr],show w.grid.j=(c.C:Int) by rw[D.gr],W];refine Y5 (by rw[D.gr]) hC (by omega) hj (BT (λO=>absurd ht O) λ_=>?_);unfold GC.num;have Z:(c.R:Int)*(c.C:Int)=((c.R*c.C:Nat):Int):=by omega
 refine A0 (λO=>by omega) λ_=>A0 (λO=>by rw[Z,A6 (by omega) (by omega)] at O; omega) λ_=>?_;have J:JG c.C:=h.mp.2.2;have V:a*c.C+b<8*c.C:=by have:(a+1)*c.C<=8*c.C:=wS _ (by omega); grind
 refine cD J V (WA J V ?_);rw[(mS h U).1,(mS h U).2];have⟨q1,q2,q3,q4,q5⟩:=hQ;refine B5 (λd=>q1 d) λ_=>B5 (λd=>q2 d) λ_=>B5 (λd=>q3 d) λ_=>B5 (λd=>q4 d) λ_=>B5 (λd=>q5 d) λ_=>?_;omega
theorem AkN {F:Nat->AK} {m:Nat} {v:Int} (h:∀ k,(F k).From=v) {b:Prop} [Decidable b]:∀ x∈(if b then (List.range m).map F else []),x.From=v:=λx d=>by
 split at d
 . obtain⟨k,_,rfl⟩:=List.mem_map.1 d; exact h k
 . cases d
theorem ArD (h:c.Ok) (O:g.Ok c) {f:AK} (hf:g.Pend c f) (n:Int):∃ i j,i<c.R∧j<c.C∧f.To=c.num i j∧∃ g' N,AhT c g g' f N∧(∀ x∈N,x.From=c.num i j)∧(∀ a b,a<c.R->b<c.C->¬(a=i∧b=j)->∀ w,WOk c g a b w->WOk c g' a b w) ∧
   ∀ w,WOk c g i j w->w.out.length<=1000->∀ Q:Bool×A1->Prop,(∀ w',WOk c g' i j w'->w'.out=w.out++N->Q (true,w'))->F2 w { f with Seq:=n } Q:=by
 have hR:=h.R1; have hC:=h.C1; have hU:=h.U_b; have b1:=O.u;have a3:(0:Int)=c.num 0 0:=by unfold GC.num; simp
 rcases hf with⟨i,hi,hu,hO,rfl⟩ | ⟨i,j,hi,W,hO,hu,hS,rfl⟩ | ⟨j,i,W,hi,hc,hE,rfl⟩ | ⟨i,j,hi,W,hE,hA,rfl⟩ | ⟨i,hi,hr,hV,rfl⟩
 . refine⟨i,0,hi,by omega,rfl,_,_,AwC h O hi hu hO,AkN (F:=c.fShare g.u i) λ_=>rfl,λa b ha hb J w D=>D.congr rfl rfl (λ_ _=>rfl) (λa2=>Z9 λe=>J ⟨e,a2⟩) (λ_ _=>rfl) (λ_ _ _=>rfl),λw D hl Q Z=>?_⟩;exact eW h (a:=0) (b:=0) hi (by omega) (by omega) (by omega) D.st rfl a3 ⟨λd=>absurd d (by decide:¬(5:Int)=1),λd=>absurd d (by decide:¬(5:Int)=2),λd=>absurd d (by decide:¬(5:Int)=3),λd=>absurd d (by decide:¬(5:Int)=4),λ_=>AmR h O hi D hu hO rfl rfl hl Z⟩ (.inr (.inr (.inr (.inr rfl))))
 . refine⟨0,j,by omega,W,(Y6 c j).symm,_,_,AwD h O hi W hO hu hS,AkN (F:=c.fSpread g.u j) λ_=>(Y6 c j).symm,λa b ha hb J w D=>D.congr rfl rfl (λa4 k=>NL λe=>J ⟨a4,e.2⟩) (λ_=>rfl) (λ_ _=>rfl) (λ_ _ _=>rfl),λw D hl Q Z=>?_⟩;exact eW h (a:=i) (b:=0) (by omega) W hi (by omega) D.st (Y6 c j).symm rfl ⟨λ_=>Ar9 h hi W D (by omega) hS rfl rfl hl Z,λd=>absurd d (by decide:¬(1:Int)=2),λd=>absurd d (by decide:¬(1:Int)=3),λd=>absurd d (by decide:¬(1:Int)=4),λd=>absurd d (by decide:¬(1:Int)=5)⟩ (.inl rfl)
 . have a5:g.u<c.U:=(O.S 0 j (by omega) (of_decide_eq_true hc 0 (by omega))).2
   have hu:1<=g.u:=by
     rcases aD g.u with h0 | h0
     . have:=(O.row_all hi W (O.z h0 i hi).2).2.1; grind
     . exact h0
   refine⟨i,j,hi,W,rfl,_,_,AwE h O hi W hc hE,λx d=>by rw[List.mem_singleton.1 d]; rfl,λa b ha hb J w D=>D.congr rfl (NL J) (λ_ _=>rfl) (λ_=>rfl) (λ_ _=>rfl) (λ_ _ _=>rfl),λw D hl Q Z=>?_⟩;exact eW h (a:=0) (b:=j) hi W (by omega) W D.st rfl (Y6 c j).symm ⟨λd=>absurd d (by decide:¬(2:Int)=1),λ_=>AmS h hi W D hu a5 hE rfl rfl hl Z,λd=>absurd d (by decide:¬(2:Int)=3),λd=>absurd d (by decide:¬(2:Int)=4),λd=>absurd d (by decide:¬(2:Int)=5)⟩ (.inr (.inl rfl))
 . have hc:=O.E i j hi W hE;have hS:=O.S i j hi (of_decide_eq_true hc i hi)
   have hu:1<=g.u:=by
     rcases aD g.u with h0 | h0
     . have:=(O.row_all hi W (O.z h0 i hi).2).1; grind
     . exact h0
   refine⟨i,0,hi,by omega,rfl,_,_,AwF h O hi W hE hA,λx d=>by split at d <;> simp at d; rw[d]; rfl,λa b ha hb J w D=>D.congr rfl rfl (λ_ _=>rfl) (λ_=>rfl) (λa2 k=>NL λe=>J ⟨e.1,a2⟩) (λ_ _ _=>rfl),λw D hl Q Z=>?_⟩;exact eW h (a:=i) (b:=j) hi (by omega) hi W D.st rfl rfl ⟨λd=>absurd d (by decide:¬(3:Int)=1),λd=>absurd d (by decide:¬(3:Int)=2),λ_=>AmV h hi W D hu hS.2 hS.1 hA rfl rfl hl Z,λd=>absurd d (by decide:¬(3:Int)=4),λd=>absurd d (by decide:¬(3:Int)=5)⟩ (.inr (.inr (.inl rfl)))
 . have a5:g.u<c.U:=by have hc:=(O.row_all hi (show 0<c.C by omega) hr).2.2;exact(O.S i 0 hi (of_decide_eq_true hc i hi)).2
   rcases yK (∃ k,k<c.R∧I5 g.V i k=false) with a7 | b0
   . refine⟨0,0,by omega,by omega,a3,_,_,AwG h O hi hr hV a7,(λx d=>nomatch d),λa b ha hb J w D=>D.congr rfl rfl (λ_ _=>rfl) (λ_=>rfl) (λ_ _=>rfl) (λa4 a2=>absurd ⟨a4,a2⟩ J),λw D hl Q Z=>?_⟩;exact eW h (a:=i) (b:=0) (by omega) (by omega) hi (by omega) D.st a3 rfl ⟨λd=>absurd d (by decide:¬(4:Int)=1),λd=>absurd d (by decide:¬(4:Int)=2),λd=>absurd d (by decide:¬(4:Int)=3),λ_=>AkM (f:={ c.fVote g.u i with Seq:=n }) h O hi D a5 hr hV rfl rfl rfl hl (λ_ w' a6 ho=>Z w' a6 (by rw[ho,kA])) (λd=>absurd a7 λ⟨k,hk,hf⟩=>by rw[d k hk] at hf; cases hf),λd=>absurd d (by decide:¬(4:Int)=5)⟩ (.inr (.inr (.inr (.inl rfl))))
   . have a8:∀ k,k<c.R->I5 g.V i k=true:=λk hk=>by grind
     have ha:g.All c:=O.all h λk hk=>by
       by_cases e:k=i
       . rw[e]; exact hr
       . exact O.V k hk (by rw[<-Z9 (f:=g.V) e]; exact a8 k hk)
     refine⟨0,0,by omega,by omega,a3,_,_,AmX h O ha hi hV a8,λx d=>by obtain⟨k,_,rfl⟩:=List.mem_map.1 d; exact a3,λa b a9 hb J w D=>D.bump h ha a9 hb D.st ⟨rfl,rfl,rfl,rfl,rfl,rfl,rfl,rfl,rfl⟩ (λa4 a2=>absurd ⟨a4,a2⟩ J),λw D hl Q Z=>?_⟩;exact eW h (a:=i) (b:=0) (by omega) (by omega) hi (by omega) D.st a3 rfl ⟨λd=>absurd d (by decide:¬(4:Int)=1),λd=>absurd d (by decide:¬(4:Int)=2),λd=>absurd d (by decide:¬(4:Int)=3),λ_=>AkM (f:={ c.fVote g.u i with Seq:=n }) h O hi D a5 hr hV rfl rfl rfl hl (λd=>absurd d b0) (λ_ w' a6 ho=>Z w' a6 ho),λd=>absurd d (by decide:¬(4:Int)=5)⟩ (.inr (.inr (.inr (.inl rfl))))
end
section
open Go Go.Fw
variable {c:GC} {g:Gh}
variable {nb':Nat} {α:Type}
def smG (f:AK):Prop:=f.Vec.Items.length<=1000∧f.Sums.length<=1000∧f.Triples=[]
theorem AkO (h:c.Ok) {f:AK} (Z:g.Pend c f):smG f:=by
 have z:([]:List B9).length<=1000:=by simp
 have d:([]:List BM).length<=1000:=by simp
 rcases Z with⟨i,hi,O,J,rfl⟩ | ⟨i,j,hi,D,J,O,hS,rfl⟩ | ⟨j,i,D,hi,hc,U,rfl⟩ | ⟨i,j,hi,D,U,hA,rfl⟩ | ⟨i,hi,hr,hV,rfl⟩
 . exact⟨z,d,rfl⟩
 . exact⟨(h.slice_P g.u hi D).2.2,d,rfl⟩
 . exact⟨(h.piece_P g.u D).2.2,d,rfl⟩
 . refine⟨z,?_,rfl⟩;have⟨V,_,b3⟩:=h.blk_prop g.u hi j;have:=cM (a:=0) V (by simpa using b3);have:=h.ln_n i hi;show(c.blk g.u i j).length<=1000;omega
 . exact⟨z,d,rfl⟩
theorem Af5 {l:List BM} {Q:List BM->Prop} (h:l.length<=1000000) (d:Q l):D9 l Q:=by unfold D9;exact L7 (λe=>by subst e; exact d) (AL (by simp; omega) d)
theorem ArE {l:List A2} {Q:List A2->Prop} (h:l.length<=1000000) (d:Q l):D6 l Q:=by unfold D6;exact L7 (λe=>by subst e; exact d) (AL (by simp; omega) d)
theorem AtS {f:AK} {Q:AK->Prop} (h:smG f) (d:Q f):YN f Q:=by unfold YN;exact cE (by have:=h.1; omega) (Af5 (by have:=h.2.1; omega) d)
theorem AkP {f:AK} {Q:AK->Prop} (h:smG f) (d:Q f):bD f Q:=by unfold bD;exact cE (by have:=h.1; omega) (Af5 (by have:=h.2.1; omega) (ArE (by rw[h.2.2]; simp) d))
structure Bk (t rm nb:Nat) (x:BR) (l:List AK):Prop where
 room:x.room=rm
 tk:x.taken=t
 sent:x.sent=((t+l.length:Nat):Int)
 nb:t+l.length≤nb
 len:l.length≤rm
 row:x.row=(List.range' t l.length).map fun n:Nat=>(n:Int)
 by_:∀ i (hi:i<l.length),BC ((t+i:Nat):Int) x.by_=some { l[i] with Seq:=((t+i:Nat):Int) }
 byk:EU x.by_
 often:∀ n:Nat,BC (n:Int) x.often=if t≤n∧n<t+l.length then some 1 else none
 oftk:EU x.often
variable {t rm nb:Nat} {x:BR} {l:List AK}
theorem Bk.le (h:Bk t rm nb x l) (d:nb<=nb'):Bk t rm nb' x l:=⟨h.room,h.tk,h.sent,gZ h.nb d,h.len,h.row,h.by_,h.byk,h.often,h.oftk⟩
theorem Bk.rlen (h:Bk t rm nb x l):x.row.length=l.length:=by rw[h.row]; simp
theorem ArF (rm nb:Nat):Bk 0 rm nb { room:=(rm:Int),row:=[],by_:=[],often:=[],sent:=0,taken:=0 } []:=
 ⟨rfl,rfl,rfl,by simp,by simp,rfl,λ_ hi=>by simp at hi,by simp[EU],λ_=>by simp[BC],by simp[EU]⟩
theorem AtT (h:Bk t rm nb x l) (hr:rm<=64) (hn:nb<=1000000) {f:AK} (hf:smG f) {Q:Int×BR->Prop} (h1:rm<=l.length->Q (9,x)) (h2:l.length<rm->∀ V,Bk t rm (nb+1) V (l++[f])->Q (0,V)):KV x f Q:=by
 have d:=h.rlen;have⟨_,_,_,_,_,_⟩:=x;have⟨a1,O,U,_,_,Z,a7,a8,J,D⟩:=h;simp only at a1 O U Z a7 a8 J D d;subst a1 O U;unfold KV OQ;simp only[d];refine A0 (λhx=>h1 (by omega)) λhx=>AkP hf ?_;unfold PZ;have ho:=J (t+l.length);rw[if_neg (by omega)] at ho;refine AL (by simp only; rw[d]; simp; omega) (IG ?_);simp only[ho,Option.getD_none];refine h2 (by omega) _ ⟨rfl,rfl,?_,by simp; omega,by simp; omega,?_,λi hi=>?_,HO a8 _ _,λn=>?_,HO D _ _⟩
 . simp only;rw[A6 (by omega) (by omega)]; simp; omega
 . simp only;rw[Z,fC,AfX,List.range'_concat]; simp
 . simp only[fC,AfX] at hi;by_cases e:i=l.length
   . subst e;simp only[CO]; simp
   . simp only;rw[CW (by omega),a7 i (by omega),List.getElem_append_left (by omega)]
 . by_cases e:n=t+l.length
   . subst e;simp only;rw[CO,if_pos (by simp)]; rfl
   . simp only;rw[CW (by omega),J n];grind
theorem AcC (h:Bk t rm nb x l) {Q:Int->Prop} (d:Q (l.length:Int)):IP x Q:=by unfold IP; rw[h.rlen]; exact d
theorem AhV (h:Bk t rm nb x l) {i:Nat} (hi:i<x.row.length):x.row[i]=((t+i:Nat):Int):=by have d:=h.row;grind
theorem AwH (h:Bk t rm nb x l) (Z:l≠[]) (hr:rm<=64) {Q:Int->Prop} (hQ:Q 0):ID x Q:=by have O:0<l.length:=List.length_pos_iff.2 Z;have D:=h.rlen; have a2:=h.len;unfold ID;refine AcC h (B5 (λ_=>by omega) λ_=>AwA (λe=>by rw[e] at D; simp at D; omega) (by omega) λ_ V d=>Ar5 (by omega) V λ_ hi J _=>?_);have U:=d x.row[0] (TF (by omega));rw[AhV h (by omega),<-J,AhV h hi] at U;grind
theorem AtU {f:AK} (h:Bk t rm nb x (f :: l)) (hr:rm<=64) (hn:nb<=1000000) (hf:smG f) {Q:AK×Bool×Int×BR->Prop} (hQ:∀ Z,Bk (t+1) rm nb Z l->Q ({ f with Seq:=(t:Int) },true,0,Z)):KW x 0 Q:=by
 have a2:=h.rlen; have V:=h.len; have a3:=h.nb;simp only[gY] at a2 V a3;have U:(0:Nat)<x.row.length:=by omega
 have J:x.row[0]=(t:Int):=by rw[AhV h U]; rfl
 have D:=h.by_ 0 (by simp);simp only[YH,List.getElem_cons_zero] at D;have O:=h.often t;rw[if_pos (by simp)] at O;unfold KW S4;refine A0 (λd=>by omega) λ_=>A0 (λd=>by omega) λ_=>BT (λd=>absurd rfl d) λ_=>AW U ?_;rw[J,h.tk];refine A0 (λd=>by omega) λ_=>?_;unfold Q3;refine AW U (IG ?_);rw[J,D];refine AmP (i:=0) U (by omega) (IG (IG ?_));rw[CO,O];refine B2 rfl (A0 (λd=>?_) λ_=>AkP (f:={ f with Seq:=(t:Int) }) hf (hQ _ ?_))
 . exact absurd (show(t:Int)<x.taken from d) (by rw[h.tk]; omega)
 . refine⟨h.room,?_,?_,by omega,by omega,?_,λi _=>?_,pZ h.byk _,λn=>?_,pZ (HO h.oftk _ _) _⟩
   . show A4 (x.taken+1)=_;rw[h.tk,A6 (by omega) (by omega)]; simp
   . show x.sent=_;rw[h.sent]; simp; omega
   . show x.row.eraseIdx 0=_;rw[h.row,gY,List.range'_succ]; simp
   . show BC _ (FL _ x.by_)=_;have:=h.by_ (i+1) (by simp; omega);rw[N4 (by omega)];grind
   . show BC _ (FL _ (DV _ _ x.often))=_;by_cases e:n=t
     . subst e;rw[aW (HO h.oftk _ _),if_neg (by omega)]
     . rw[N4 (by omega),CW (by omega),h.often n];grind
def mT (f:List Int) (k:Nat):List Int:=((List.range k).filter λi:Nat=>G2 f i).map λi:Nat=>(i:Int)
theorem vR (f:List Int) (k:Nat):mT f (k+1)=mT f k++if G2 f k=true then [(k:Int)] else []:=by unfold mT;rw[aF,fA,gW];grind
theorem vS {f:List Int} {a:Nat}:∀ b,a<=b->(∀ m,a<=m->m<b->G2 f m=false)->mT f b=mT f a
  | 0, h, _ => by
    have : a = 0 := by omega
    rw[this]
  | b+1,h,hz=>by
    by_cases e:a=b+1
    . rw[e]
    . rw[vR,hz b (by omega) (by omega),if_neg (by simp),kA];exact vS b (by omega) λm d _=>hz m d (by omega)
theorem AmY (f:List Int) (k:Nat):(mT f k).length<=k:=by grind[mT]
theorem xO {f:List Int} {Q:List Int->Prop} (Z:qH f) (hl:f.length<=1000000) (hQ:Q (W6 f)):YM f Q:=by
 unfold YM L9 JO GF PN;refine A9 (s0:=(([]:List Int),(0:Nat))) (λ(s:List Int×Nat) i=>(s.1,i,s.2)) 0 f.length (by omega) (λk s=>s.2=0∧s.1=mT f (64*k)) (by omega) ⟨rfl,rfl⟩ (λk s next _ _ V hn=>?_) (λs next V=>?_)
 . have⟨s1,s2⟩:=s;have⟨d,J⟩:=V;simp only at d J ⊢;subst d;have U:=bS Z k;refine A0 (λ_=>AX (by omega) (by omega) ?_) (λa3=>by omega)
   have a5:shl .i64 (k:Int) 6=64*(k:Int):=by show A4 ((k:Int)*2 ^ 6)=_;rw[A6 (by omega) (by omega)]; omega
   rw[a5];refine BV (λs:List Int×Int×Int×Nat=>∃ j:Nat,j<=64∧s.2.2.1=64*k+j∧s.2.1=AY f k / 2 ^ j∧s.2.2.2=0∧s.1=mT f (64*k+j)) (λs=>s.2.1.toNat) ⟨0,by omega,by simp,by simp,rfl,J⟩ ?_;rintro⟨t1,w,a4,_⟩ _ ⟨j,_,ha,D,h4,h⟩ hnx;simp only at ha D h4 h ⊢;subst h4
   have O:0<=w∧w<18446744073709551616:=by rw[D];have hp:(0:Int)<2 ^ j:=AiS (by omega);exact⟨AiH U.1 (yJ hp),Int.lt_of_le_of_lt (Ao1 _ U.1) U.2⟩
   have e1:A4 (a4+1)=64*(k:Int)+((j+1:Nat):Int):=by rw[ha,A6 (by omega) (by omega)]; omega
   refine BT (λ_=>?_) (λhe=>?_)
   . have a2:j<64:=by grind
     have a7:=Ae7 Z a2 D;have ec:((64*k+j:Nat):Int)=64*(k:Int)+j:=by omega
     have a6:=vR f (64*k+j);rw[ec] at a6;rw[AjQ O.1 O.2,AjR,e1];have a8:=AmY f (64*k+j);refine B5 (λd=>⟨rfl,AL (by subst h; simp; omega) (A8 rfl (hnx _ ⟨j+1,by omega,rfl,eN D,rfl,?_⟩ (by simp only; omega)))⟩) (λd=>hnx _ ⟨j+1,by omega,rfl,eN D,rfl,?_⟩ (by simp only; omega))
     all_goals grind
   . refine hn (_,0) ⟨rfl,?_⟩;show t1=_;rw[h,show 64*(k+1)=64*k+64 by omega];refine(vS _ (by omega) λm d J=>?_).symm;obtain⟨q,rfl⟩:∃ q,m=64*k+q:=⟨m - 64*k,by omega⟩;have:=zJ Z (j:=j) (k:=q) (by omega) (by omega) D he;grind
 . have⟨s1,s2⟩:=s;have⟨d,J⟩:=V;simp only at d J ⊢;subst d;refine A0 (λa3=>by omega) (λ_=>⟨rfl,?_⟩);show Q s1;rw[J]; exact hQ
variable {c:GC} {g:Gh}
theorem UR {p:Nat} {A:Prop} {B:Nat->Prop} (h:B p):rH (some p) A B:=⟨(λe=>nomatch e),λ_ e=>by cases e; exact h⟩
theorem Af6 (h:c.Ok) {o:AH} {ws:A3} {ad:Nat->Nat} (O:o.owners=(List.range c.R).map λi=>some (ad (i*c.C))) (hN:o.setup.Plan.N=c.n) {k:Nat}
   (hw:∀ i,i<c.R->∃ w,BC (ad (i*c.C)) ws=some w∧w.has=c.sg k i) {Q:State->Prop} (hQ:Q (CU 0 c.n (c.G k))):GU o ws Q:=by
 have hR:=h.R1; have b1:=h.n4;unfold GU;have c0:o.owners.length=c.R:=by rw[O]; simp
 refine A9 (λ(s:List Int×List Int×List Int) i=>(s.1,s.2.1,s.2.2,i)) 0 c.R (by omega) (λi s=>s=(QI (c.ls i) λv=>(c.G k v).1,QI (c.ls i) λv=>(c.G k v).2.1,MW (c.ls i) λv=>(c.G k v).2.2)) (by omega) (by unfold GC.ls; rw[Af0]; rfl) (λi s next _ hi d hn=>?_) (λs next d=>?_) (s0:=([],[],[]))
 . subst d;dsimp only;have⟨w,a7,a4⟩:=hw i hi;have a9:=h.ln_n i hi; have b0:=h.ls_n hi; have a2:=h.ls_ln i;refine A0 (λ_=>AG (by omega) (x:=some (ad (i*c.C))) (by rw[O]; simp[hi]) ?_) (λV=>by omega);unfold JR IM;refine UR ⟨w,a7,?_⟩;dsimp only;rw[a4];have lA:(c.sg k i).A.length=c.ln i:=HV _ _;have lB:(c.sg k i).B.length=c.ln i:=HV _ _;have a3:qH (c.sg k i).On:=(IV _ _).1
   have Z:(c.sg k i).On.length<=1000000:=by have:(c.sg k i).On.length=KL (c.ln i):=(IV _ _).2.1;have:=bT (c.ln i); omega
   refine KC (by omega) (KC (by omega) (iV Z (AL (by rw[HV,lA]; omega) (AL (by rw[HV,lB]; omega) (xO a3 Z ?_)))));have a5:W6 (c.sg k i).On=MW (c.ln i) λa=>(c.G k (c.ls i+a)).2.2:=AqL (by omega) _;rw[a5];have c1:=UM (c.ln i) λa=>(c.G k (c.ls i+a)).2.2;have J:=UM (c.ls i) λv=>(c.G k v).2.2;refine AqM (xs:=MW (c.ln i) λa=>(c.G k (c.ls i+a)).2.2) (f:=λx:Int=>x+(c.ls i:Int)) (by omega) (λ_ s nx U _ a6=>?_) (λnx=>?_)
   . have a8:=eQ (TF U);have e:(c.sg k i).Low=(c.ls i:Int):=rfl;refine A0 (λ_=>AW U (AL (by simp; omega) ?_)) (λV=>by omega);simp only[e];rw[A6 (x:=(c.ls i:Int)+_) (by omega) (by omega),Int.add_comm];exact a6
   . refine A0 (λV=>by omega) λ_=>hn (_,_,_) ?_;show(_++QI (c.ln i) (λa=>(c.G k (c.ls i+a)).1),_++QI (c.ln i) (λa=>(c.G k (c.ls i+a)).2.1),_)=_;rw[<-AeP,<-AeP,<-AqJ,a2]
 . subst d;have D:c.ls c.R=c.n:=sL _ hR.1;dsimp only;rw[D,hN];have J:=UM c.n λv=>(c.G k v).2.2;refine A0 (λV=>by omega) λ_=>W5 (by omega) (λx hx=>by have:=eQ hx; unfold EC; omega) ?_;unfold CU chS at hQ;grind
theorem AwI (h:c.Ok) (g:Gh):∃ i,i<c.R∧g.rnd c i≠g.nh c:=by
 have D:=h.R1;unfold Gh.nh Gh.rnd;by_cases h1:g.u<=1
 . refine⟨0,by omega,?_⟩;grind
 . rw[if_neg h1];rcases yK (∀ i,i<c.R->g.O i=true) with d | d
   . refine⟨0,by omega,?_⟩;rw[if_pos (d 0 (by omega))];by_cases h3:c.st (g.u - 1)=3
     . grind
     . rw[if_neg h3,if_pos (c:=(∀ i,i<c.R->g.O i=true)∧c.st (g.u - 1)≠3) ⟨d,h3⟩]; omega
   grind
def GC.hist (c:GC) (n:Nat):List State:=(List.range n).map λk=>CU 0 c.n (c.G k)
theorem AkQ (h:c.Ok) (hg:g.Ok c) {o:AH} {ws:A3} {ad:Nat->Nat} (D:o.owners=(List.range c.R).map λi=>some (ad (i*c.C))) (hN:o.setup.Plan.N=c.n)
   (hw:∀ i,i<c.R->∃ w,BC (ad (i*c.C)) ws=some w∧w.round=(g.rnd c i:Int)∧w.has=c.sg (g.rnd c i) i) {n:Nat} (Z:o.history=c.hist n) (U:g.nh c=n∨g.nh c=n+1∧∀ i,i<c.R->g.rnd c i=n)
   {Q:AH->Prop} (V:Q { o with history:=c.hist (g.nh c) }):EM o ws Q:=by
 have hR:=h.R1; have hU:=h.U_b; have a3:=hg.u;have a4:o.owners.length=c.R:=by rw[D]; simp
 have d:o.history.length=n:=by grind[GC.hist]
 have a5:n<=70:=by
   have:g.nh c<=70:=by unfold Gh.nh; split <;> (try split) <;> omega
   omega
 unfold EM;refine D7 c.R (by omega) (λi=>∀ k,k<i->g.rnd c k=n) (λk hk=>by omega) (λi next hi hs J=>?_) (λnext hs=>?_)
 . have⟨w,w1,w2,_⟩:=hw i hi;refine A0 (λ_=>AG (by omega) (x:=some (ad (i*c.C))) (by rw[D]; simp[hi]) ?_) (λh'=>by omega);unfold JQ IL;refine UR ⟨w,w1,?_⟩;dsimp only;rw[w2,d];refine BT (λO=>?_) λ_=>J λk hk=>?_
   . rcases U with e | ⟨e,a2⟩
     . rw[e,<-Z] at V; exact V
     grind
   grind
 . refine A0 (λh'=>by omega) λ_=>Af6 h D hN (k:=n) (λi hi=>?_) (AL (by rw[d]; simp; omega) ?_)
   . grind
   . rcases U with e | ⟨e,_⟩
     . have⟨i,hi,O⟩:=AwI h g;grind
     . rw[Z];have:c.hist (g.nh c)=c.hist n++[CU 0 c.n (c.G n)]:=by rw[e]; unfold GC.hist; rw[aF,gW]; rfl
       grind
variable {c:GC} {g:Gh}
def Af7 (W:Nat->A1) (k:Nat) (x:A1):Nat->A1:=λq=>if q=k then x else W q
def xP (B:Nat->Nat->List AK) (a b:Nat) (l:List AK):Nat->Nat->List AK:=λx y=>if x=a∧y=b then l else B x y
theorem cN (W:Nat->A1) (k:Nat) (x:A1):Af7 W k x k=x:=if_pos rfl
theorem ZA {W:Nat->A1} {k q:Nat} {x:A1} (h:q≠k):Af7 W k x q=W q:=if_neg h
theorem iZ (B:Nat->Nat->List AK) (a b:Nat) (l:List AK):xP B a b l a b=l:=if_pos ⟨rfl,rfl⟩
theorem cO {B:Nat->Nat->List AK} {a b x y:Nat} {l:List AK} (h:¬(x=a∧y=b)):xP B a b l x y=B x y:=if_neg h
theorem AtV (B:Nat->Nat->List AK) (a b:Nat):xP B a b (B a b)=B:=by grind[xP]
theorem ZB (p:Nat) (x:α) (l:List (Nat×α)):BC p ((p,x) :: l)=some x:=if_pos rfl
theorem sN {p q:Nat} (h:q≠p) (x:α) (l:List (Nat×α)):BC q ((p,x) :: l)=BC q l:=if_neg h
theorem mU {p q:Nat} (h:q≠p) (x:α) (l:List (Nat×α)):BC q ((p,x) :: FL p l)=BC q l:=(sN h x _).trans (N4 h l)
abbrev pF:=Int×Int
theorem ArG {a b h d:Nat} (e:((a:Int),(b:Int))=((h:Int),(d:Int))):a=h∧b=d:=by grind
structure Bxs (N rm nb:Nat) (B:Nat→Nat→List AK) (bx:List (pF×Option Nat)) (bs:AP):Prop where
 ks:EU bx
 ln:bx.length≤nb
 key:∀ k v,BC k bx=some v→∃ a b p:Nat,a<N∧b<N∧k=((a:Int),(b:Int))∧v=some p
 get:∀ a b p:Nat,BC ((a:Int),(b:Int)) bx=some (some p)→∃ t x,BC p bs=some x∧Bk t rm nb x (B a b)
 no:∀ a b:Nat,BC ((a:Int),(b:Int)) bx=none→B a b=[]
 inj:∀ k k' p,BC k bx=some (some p)→BC k' bx=some (some p)→k=k'
variable {N rm nb n:Nat} {B:Nat→Nat→List AK} {bx:List (pF×Option Nat)} {bs:AP}
theorem Bxs.le (h:Bxs N rm nb B bx bs) (d:nb<=nb'):Bxs N rm nb' B bx bs:=
 ⟨h.ks,gZ h.ln d,h.key,λa b p hp=>by have⟨t,x,J,D⟩:=h.get a b p hp; exact⟨t,x,J,D.le d⟩,h.no,h.inj⟩
theorem Bxs.upd (h:Bxs N rm nb B bx bs) {a b p:Nat} (hp:BC ((a:Int),(b:Int)) bx=some (some p)) {t:Nat} {U:BR} {Z:List AK} (hx:Bk t rm nb' U Z) (V:nb<=nb'):Bxs N rm nb' (xP B a b Z) bx ((p,U) :: FL p bs):=by
 refine⟨h.ks,gZ h.ln V,h.key,λJ D O d=>?_,λJ D d=>?_,h.inj⟩
 . by_cases e:J=a∧D=b
   . grind[ZB,iZ]
   . have a2:O≠p:=λe'=>by subst e';have:=h.inj _ _ _ d hp;exact e (ArG this)
     have⟨t',x,h1,h2⟩:=h.get J D O d;exact⟨t',x,by rw[mU a2]; exact h1,by rw[cO e]; exact h2.le V⟩
 . rw[cO]
   . exact h.no J D d
   all_goals grind
theorem Bxs.new (h:Bxs N rm nb B bx bs) {a b p:Nat} (ha:a<N) (hb:b<N) (a4:BC ((a:Int),(b:Int)) bx=none) (hf:BC p bs=none) :
   Bxs N rm (nb+1) B (DV ((a:Int),(b:Int)) (some p) bx) ((p,{ room:=(rm:Int),row:=[],by_:=[],often:=[],sent:=0,taken:=0 }) :: bs):=by
 have a3:∀ k,BC k bx≠some (some p):=λk hk=>by obtain⟨D,d,O,_,_,rfl,e⟩:=h.key _ _ hk;have⟨t,x,U,_⟩:=h.get D d p hk;rw[hf] at U; cases U
 have V:∀ k v,BC k (DV ((a:Int),(b:Int)) (some p) bx)=some v->(k=((a:Int),(b:Int))∧v=some p)∨(k≠((a:Int),(b:Int))∧BC k bx=some v):=λk v hk=>by
   by_cases e:k=((a:Int),(b:Int))
   . subst e; rw[CO] at hk; grind
   . rw[CW e] at hk; exact .inr ⟨e,hk⟩
 refine⟨HO h.ks _ _,by have:=AdM ((a:Int),(b:Int)) (some p) bx; have:=h.ln; omega,λk v hk=>?_,λD d O hk=>?_,λD d hk=>?_,λk _ O hk J=>?_⟩
 . rcases V k v hk with⟨rfl,rfl⟩ | ⟨_,hk⟩
   . grind
   . exact h.key k v hk
 . rcases V _ _ hk with⟨e,Z⟩ | ⟨_,hk⟩
   . obtain⟨rfl,rfl⟩:D=a∧d=b:=ArG e;obtain rfl:O=p:=by simpa using Z
     exact⟨0,_,ZB _ _ _,by rw[h.no _ _ a4]; exact ArF rm (nb+1)⟩
   . have⟨t,x,U,h2⟩:=h.get D d O hk;have a2:O≠p:=λe=>a3 _ (by rw[e] at hk; exact hk);exact⟨t,x,by rw[sN a2]; exact U,h2.le (by omega)⟩
 . by_cases e:((D:Int),(d:Int))=((a:Int),(b:Int))
   . rw[e,CO] at hk; cases hk
   . rw[CW e] at hk; exact h.no D d hk
 . rcases V _ _ hk with⟨rfl,e⟩ | ⟨_,hk⟩ <;> rcases V _ _ J with⟨rfl,Z⟩ | ⟨_,J⟩
   . rfl
   . grind
   . grind
   . exact h.inj _ _ _ hk J
structure GrI (c:GC) (g:Gh) (ad:Nat→Nat) (W:Nat→A1) (B:Nat→Nat→List AK) (rm nb n:Nat) (o:AH) (ws:A3) (bs:AP):Prop where
 gh:g.Ok c
 pn:o.setup.Plan.N=c.n
 room:o.setup.Room=rm
 wk:o.workers=(List.range (c.R*c.C)).map fun k=>some (ad k)
 ow:o.owners=(List.range c.R).map fun i=>some (ad (i*c.C))
 inj:∀ a b,a<c.R*c.C→b<c.R*c.C→ad a=ad b→a=b
 mem:∀ k,k<c.R*c.C→BC (ad k) ws=some (W k)
 ok:∀ i j,i<c.R→j<c.C→WOk c g i j (W (i*c.C+j))
 hist:o.history=c.hist n
 tot:∀ φ,AN (c.R*c.C) (fun k=>wt φ (W k).out)+AN (c.R*c.C) (fun a=>AN (c.R*c.C) fun b=>wt φ (B a b))=g.pend c φ
 to:∀ a b,a<c.R*c.C→b<c.R*c.C→∀ f∈B a b,f.To=(b:Int)∧f.From=(a:Int)
 fr:∀ k,k<c.R*c.C→∀ f∈(W k).out,f.From=(k:Int)
 bx:Bxs (c.R*c.C) rm nb B o.boxes bs
variable {ad:Nat→Nat} {W:Nat→A1} {o:AH} {ws:A3}
theorem AkR (f:AK) {l:List AK} (h:f∈l):1<=wt (λx=>if x=f then 1 else 0) l:=by have:=ArC (φ:=λx=>if x=f then 1 else 0) h;simpa using this
theorem GrI.out_pend (H:GrI c g ad W B rm nb n o ws bs) {k:Nat} (hk:k<c.R*c.C) {f:AK} (D:f∈(W k).out):g.Pend c f:=by refine g.pend_in c ?_;have d:=HW (f:=λk=>wt (λx=>if x=f then 1 else 0) (W k).out) hk;have h:=H.tot λx=>if x=f then 1 else 0;grind[AkR]
theorem GrI.box_pend (H:GrI c g ad W B rm nb n o ws bs) {a b:Nat} (D:a<c.R*c.C) (d:b<c.R*c.C) {f:AK} (U:f∈B a b):g.Pend c f:=by refine g.pend_in c ?_;have J:=HW (f:=λa=>AN (c.R*c.C) λb=>wt (λx=>if x=f then 1 else 0) (B a b)) D;have h:=HW (f:=λb=>wt (λx=>if x=f then 1 else 0) (B a b)) d;have O:=H.tot λx=>if x=f then 1 else 0;grind[AkR]
theorem GrI.out_len (H:GrI c g ad W B rm nb n o ws bs) (h:c.Ok) {k:Nat} (hk:k<c.R*c.C):(W k).out.length<=85:=by have D:=HW (f:=λk=>wt (λ_=>1) (W k).out) hk;have d:=H.tot λ_=>1;have J:=AtQ (g:=g) h;simp only[AhR] at D;simp only[AhR] at d; omega
theorem WOk.out {i j:Nat} {w:A1} (h:WOk c g i j w) (l:List AK):WOk c g i j { w with out:=l }:=
 ⟨⟨h.st.pl,h.st.pn,h.st.gr,h.st.lm,h.st.ch,h.st.ro,h.st.co⟩,h.spread,h.share,λd=>by have o:=h.own d; exact⟨o.waits,o.begun,o.round,o.status,o.has,o.aside,o.sums,o.came⟩,λhi d=>by have o:=h.one hi d; exact⟨o.vote,o.votes,o.closed⟩⟩
theorem AtW (h:c.Ok) (J:g.Ok c) {f:AK} (d:g.Pend c f):∃ b:Nat,b<c.R*c.C∧f.To=(b:Int):=by have⟨_,_,hi,D,e,_⟩:=ArD h J d 0;exact⟨_,iY hi D,e⟩
theorem Af8 {k:Nat} (h:o.workers.length=N) (hk:k<N) {Q:Bool->Prop} (d:Q true):G8 o ws k Q:=by unfold G8;refine A0 (λ_=>?_) (λ_=>by omega);grind
theorem AkS (d:o.workers.length=N) {a b p:Nat} (U:a<N) (J:b<N) (hp:BC ((a:Int),(b:Int)) o.boxes=some (some p)) {O:AH×AP->Prop} {h:Option Nat×AH×AP->Prop} (D:h (some p,o,bs)):F1 o ws bs a b O h:=by unfold F1;refine Af8 d U (A8 rfl (Af8 d J (A8 rfl (IG ?_))));rw[hp];refine A8 rfl (IG ?_);rw[hp]; exact D
theorem AtX (d:o.workers.length=N) {a b:Nat} (Z:a<N) (O:b<N) (hr:o.setup.Room=rm) (a2:1<=rm∧rm<=64) (hp:BC ((a:Int),(b:Int)) o.boxes=none) {U:AH×AP->Prop} {D:Option Nat×AH×AP->Prop}
  (J:∀ p,BC p bs=none->D (some p,{ o with boxes:=DV ((a:Int),(b:Int)) (some p) o.boxes },(p,{ room:=(rm:Int),row:=[],by_:=[],often:=[],sent:=0,taken:=0 }) :: bs)):F1 o ws bs a b U D:=by
 unfold F1 YU;refine Af8 d Z (A8 rfl (Af8 d O (A8 rfl (IG ?_))));rw[hp,hr];refine B2 rfl (A0 (λh=>by omega) λ_=>A0 (λh=>by omega) λ_=>λp V=>IG ?_);rw[CO]; exact J p V
def NEs (c:GC) (B:Nat->Nat->List AK) (a:Nat):Prop:=∃ b,b<c.R*c.C∧B a b≠[]
def NE (c:GC) (B:Nat->Nat->List AK):Prop:=∃ a,a<c.R*c.C∧NEs c B a
def Frm (c:GC) (ad:Nat->Nat) (ws d:A3):Prop:=∀ p,(∀ k,k<c.R*c.C->p≠ad k)->BC p d=BC p ws
theorem AtY (a8:c.Ok) (H:GrI c g ad W B rm nb n o ws bs) (d2:1<=rm∧rm<=64) (e3:nb<1000000) {k:Nat} (hk:k<c.R*c.C) {Q:Bool×AH×A3×AP->Prop}
  (hQ:∀ r W' B' o' b0 c0,GrI c g ad W' B' rm (nb+1) n o' b0 c0->Frm c ad ws b0->(∀ a,NEs c B a->NEs c B' a)->(NEs c B' k∨r=false∧W'=W∧(W k).out=[])->(∀ q,q≠k->W' q=W q)->Q (r,o',b0,c0)):JU o ws bs k Q:=by
 have a9:o.workers.length=c.R*c.C:=by rw[H.wk]; simp
 unfold JU;refine Af8 a9 hk (A8 rfl (AG (by omega) (x:=some (ad k)) (by rw[H.wk]; simp[hk]) ?_));unfold KG JS F0;refine UR ⟨W k,H.mem k hk,?_⟩;dsimp only;have d0:GrI c g ad W B rm (nb+1) n o ws bs:=⟨H.gh,H.pn,H.room,H.wk,H.ow,H.inj,H.mem,H.ok,H.hist,H.tot,H.to,H.fr,H.bx.le (by omega)⟩
 cases U:(W k).out with
 | nil=>
  refine B2 rfl (B2 rfl ?_);exact hQ false W B o ws bs d0 (λ_ _=>rfl) (λ_=>id) (.inr ⟨rfl,rfl,U⟩) λ_ _=>rfl
 | cons f J=>
  have c2:=H.out_pend hk (f:=f) (by rw[U]; simp);have d3:=AkO a8 c2;have⟨b,h,d4⟩:=AtW a8 H.gh c2;have d1:=H.out_len a8 hk;rw[U] at d1;simp only[gY] at d1;refine B5 (λh0=>by simp at h0; omega) λ_=>AG (by omega) (x:=f) (by simp) (AtS d3 (A8 rfl ?_));rw[d4]
  -- with the box there
  have d7:∀ (o1:AH) (a4:AP) (p:Nat),GrI c g ad W B rm (nb+1) n o1 ws a4->BC ((k:Int),(b:Int)) o1.boxes=some (some p)->(∀ t x,BC p a4=some x->Bk t rm (nb+1) x (B k b)->Bk t rm nb x (B k b)) ->
     M2 a4 (some p) f λa7=>A5 (a7.1 != 0) (Q (false,o1,ws,a7.2)) (HD ws (some (ad k)) λe2=>Q (true,o1,e2,a7.2)):=by
   intro o1 a4 p d hp a2;have⟨t,x,d5,d6⟩:=d.bx.get k b p hp;unfold M2;refine UR ⟨x,d5,AtT (a2 t x d5 d6) d2.2 (by omega) d3 (λb1=>B2 rfl ?_) λ_ x' d9=>A8 rfl ?_⟩
   . have a6:=d.bx.upd hp d6 (YG _);rw[AtV] at a6;refine hQ false W B o1 ws _ ⟨d.gh,d.pn,d.room,d.wk,d.ow,d.inj,d.mem,d.ok,d.hist,d.tot,d.to,d.fr,a6⟩ (λ_ _=>rfl) (λ_=>id) (.inl ⟨b,h,λe=>?_⟩) λ_ _=>rfl;rw[e] at b1; simp at b1; omega
   . unfold HD JT F0;refine UR ⟨W k,H.mem k hk,?_⟩;dsimp only;rw[U];refine A0 (λ_=>⟨by omega,by simp only[gY]; omega,by omega,?_⟩) λh0=>absurd (show(0:Int)<((f :: J).length:Int) by simp only[gY]; omega) h0;have a6:=d.bx.upd hp d9 (YG _);have e1:(((f :: J).take ((f :: J).length:Int).toNat).drop (Int.toNat 1))=J:=by rw[VK,QW]; rfl
     dsimp only;rw[e1];refine hQ true (Af7 W k { W k with out:=J }) (xP B k b (B k b++[f])) o1 _ _ ⟨d.gh,d.pn,d.room,d.wk,d.ow,d.inj,λq Z=>?_,λi j hi hj=>?_,d.hist,λφ=>?_,λa' V c1 a5 f' D=>?_,λq Z f' D=>?_,a6⟩ (λ_ d8=>mU (d8 k hk) _ _) (λa' ⟨V,a5,a3⟩=>⟨V,a5,?_⟩) (.inl ⟨b,h,by rw[iZ]; simp⟩) λq Z=>ZA Z
     . by_cases e:q=k
       . rw[e,cN,ZB]
       . rw[ZA e,mU λe'=>e (H.inj _ _ Z hk e')]; exact d.mem q Z
     . by_cases e:i*c.C+j=k
       . rw[e,cN,<-e]; exact(d.ok i j hi hj).out _
       . rw[ZA e]; exact d.ok i j hi hj
     . dsimp only;have t1:=H7 (f:=λq=>wt φ (W q).out) (f':=λq=>wt φ (Af7 W k { W k with out:=J } q).out) hk λq _ a3=>by rw[ZA a3]
       have t2:=M6 (f:=λx y=>wt φ (B x y)) (f':=λx y=>wt φ (xP B k b (B k b++[f]) x y)) hk h λx y _ _ a3=>by rw[cO a3]
       have t3:=d.tot φ;simp only[cN,U,wt] at t1;simp only[iZ,AcB,wt] at t2;omega
     . by_cases e:a'=k∧V=b
       . rw[e.1,e.2,iZ] at D;rcases List.mem_append.1 D with D | D
         . rw[e.1,e.2]; exact d.to k b hk h f' D
         . rw[List.mem_singleton.1 D,e.1,e.2]; exact⟨d4,d.fr k hk f (by rw[U]; simp)⟩
       . rw[cO e] at D; exact d.to a' V c1 a5 f' D
     . by_cases e:q=k
       . rw[e,cN] at D;rw[e]; exact d.fr k hk f' (by rw[U]; exact gV _ D)
       . rw[ZA e] at D; exact d.fr q Z f' D
     . by_cases e:a'=k∧V=b
       . rw[e.1,e.2,iZ]; simp
       . rw[cO e]; exact a3
  cases O:BC ((k:Int),(b:Int)) o.boxes with
  | none=>
   refine AtX a9 hk h H.room d2 O λp hf=>d7 _ _ p ⟨H.gh,H.pn,H.room,H.wk,H.ow,H.inj,H.mem,H.ok,H.hist,H.tot,H.to,H.fr,H.bx.new hk h O hf⟩ (CO _ _ _) λt x hx a2=>?_;rw[ZB] at hx;have hB:B k b=[]:=H.bx.no k b O;obtain rfl:=TG hx;have ht:t=0:=by have:=a2.tk; simp at this; omega
   rw[hB,ht]; exact ArF rm nb
  | some v=>
   obtain⟨a',V,p,c1,a5,e,rfl⟩:=H.bx.key _ _ O;refine AkS a9 hk h O (d7 _ _ p d0 O λt x hx a2=>?_);have⟨t',x',h1,h2⟩:=H.bx.get k b p O;rw[hx] at h1;obtain rfl:=TG h1;have:t=t':=by have:=a2.tk; have:=h2.tk; omega
   rw[this]; exact h2
end
section
open Go Go.Fw Go.Sort Go.Shelf
variable {c:GC} {g:Gh} {N rm nb n:Nat} {B:Nat→Nat→List AK} {bx:List (pF×Option Nat)} {bs:AP} {ad:Nat→Nat} {W:Nat→A1} {o:AH} {ws:A3}
theorem AhW (h:c.Ok) (H:GrI c g ad W B rm nb (g.nh c) o ws bs) (d5:1<=rm∧rm<=64) (d3:nb<=1000000) {a b p:Nat} (ha:a<c.R*c.C) (D:b<c.R*c.C) (hp:BC ((a:Int),(b:Int)) o.boxes=some (some p)) {f:AK} {l:List AK} (Z:B a b=f :: l)
   {Q:Bool×AH×A3×AP->Prop}
   (hQ:∀ V W' o' a5 a2 t x',GrI c V ad W' (xP B a b l) rm nb (V.nh c) o' a5 a2->(∃ κ,∀ ω,V.valW c ω=g.valW c ω+ω κ a)->o'.boxes=o.boxes->Frm c ad ws a5->BC p a2=some x'->Bk t rm nb x' l->Q (true,o',a5,a2)):HE o ws bs a b 0 Q:=by
 have d9:o.workers.length=c.R*c.C:=by rw[H.wk]; simp
 have b0:=H.box_pend ha D (f:=f) (by rw[Z]; simp);have d6:=AkO h b0;have⟨d7,e4⟩:=H.to a b ha D f (by rw[Z]; simp);have⟨t,x,e1,c1⟩:=H.bx.get a b p hp;rw[Z] at c1;unfold HE;refine AkS d9 ha D hp ?_;unfold Q4;refine UR ⟨x,e1,AtU c1 d5.2 d3 d6 λx' c0=>A8 rfl (AG (by omega) (x:=some (ad b)) (by rw[H.wk]; simp[D]) ?_)⟩;unfold KI;refine UR ⟨W b,H.mem b D,?_⟩;have⟨i,j,hi,hj,a7,V,_,O,c2,e3,e5⟩:=ArD h H.gh b0 (t:Int);have e2:b=i*c.C+j:=by rw[d7] at a7; unfold GC.num at a7; omega
 have e6:=H.out_len h D;subst e2;refine e5 _ (H.ok i j hi hj) (by omega) _ λw' d8 a9=>?_
 have a8:∀ J U,J<c.R->U<c.C->WOk c V J U (Af7 W (i*c.C+j) w' (J*c.C+U)):=λJ U b1 a3=>by
   by_cases e:J*c.C+U=i*c.C+j
   . obtain⟨rfl,rfl⟩:=AtR h a3 hj e;rw[cN]; exact d8
   . rw[ZA e];exact e3 J U b1 a3 (λe'=>e (by rw[e'.1,e'.2])) _ (H.ok J U b1 a3)
 have a6:∀ q,q<c.R*c.C->BC (ad q) ((ad (i*c.C+j),w') :: FL (ad (i*c.C+j)) ws)=some (Af7 W (i*c.C+j) w' q):=λq hq=>by
   by_cases e:q=i*c.C+j
   . rw[e,cN,ZB]
   . rw[ZA e,mU λe'=>e (H.inj _ _ hq D e')]; exact H.mem q hq
 refine AkQ h O.ok H.ow H.pn (n:=g.nh c) (λk hk=>?_) H.hist O.h ?_
 . have hC:=h.C1;have d2:k*c.C<c.R*c.C:=by have:=iY (c:=c) hk (show 0<c.C by omega); omega
   have ow:=(a8 k 0 hk (by omega)).own rfl;rw[YH] at ow;exact⟨_,a6 _ d2,ow.round,ow.has⟩
 . refine hQ V (Af7 W (i*c.C+j) w') _ _ _ (t+1) x' ⟨O.ok,H.pn,H.room,H.wk,H.ow,H.inj,a6,a8,rfl,λφ=>?_,λa' b' d0 d1 f' d=>?_,λq hq f' d=>?_,H.bx.upd hp c0 (YG _)⟩ ⟨f.Kind,by rw[<-e4]; exact O.vw⟩ rfl (λ_ d4=>mU (d4 _ D) _ _) (ZB _ _ _) c0
   . have t1:=H7 (f:=λq=>wt φ (W q).out) (f':=λq=>wt φ (Af7 W (i*c.C+j) w' q).out) D λq _ a4=>by rw[ZA a4]
     have t2:=M6 (f:=λx y=>wt φ (B x y)) (f':=λx y=>wt φ (xP B a (i*c.C+j) l x y)) ha D λx y _ _ a4=>by rw[cO a4]
     have t3:=H.tot φ;have t4:=O.w φ;simp only[cN,a9,AcB] at t1;simp only[iZ,Z,wt] at t2;omega
   . by_cases e:a'=a∧b'=i*c.C+j
     . rw[e.1,e.2,iZ] at d;rw[e.1,e.2]; exact H.to a _ ha D f' (by rw[Z]; simp[d])
     . rw[cO e] at d; exact H.to a' b' d0 d1 f' d
   . by_cases e:q=i*c.C+j
     . rw[e,cN,a9] at d;rcases List.mem_append.1 d with d | d
       . rw[e]; exact H.fr _ D f' d
       . rw[c2 f' d,e]; rfl
     . rw[ZA e] at d; exact H.fr q hq f' d
def cfK (x y:Int×Int):Int:=cfT ⟨x.1,x.2,0⟩ ⟨y.1,y.2,0⟩
theorem AtZ:SWO (ltOf cfK):=⟨λx=>sA.irrefl ⟨x.1,x.2,0⟩,λx y z=>sA.trans ⟨x.1,x.2,0⟩ ⟨y.1,y.2,0⟩ ⟨z.1,z.2,0⟩,λx y z=>sA.ntrans ⟨x.1,x.2,0⟩ ⟨y.1,y.2,0⟩ ⟨z.1,z.2,0⟩⟩
def neK (B:Nat->Nat->List AK) (e:pF×Option Nat):Bool:=!(B e.1.1.toNat e.1.2.toNat).isEmpty
theorem sO {B:Nat->Nat->List AK} {a b:Nat} {e:pF×Option Nat} (h:e.1=((a:Int),(b:Int))):neK B e=true↔B a b≠[]:=by unfold neK; rw[h]; simp
structure Lks (c:GC) (B:Nat→Nat→List AK) (bx:List (pF×Option Nat)) (ls:List pF):Prop where
 nd:ls.Nodup
 of:∀ k∈ls,∃ a b p:Nat,a<c.R*c.C∧b<c.R*c.C∧k=((a:Int),(b:Int))∧BC k bx=some (some p)∧B a b≠[]
 all:∀ a b,a<c.R*c.C→b<c.R*c.C→B a b≠[]→((a:Int),(b:Int))∈ls
 len:ls.length≤bx.length
theorem ArH (J:Bxs (c.R*c.C) rm nb B o.boxes bs) (d0:nb<=1000000) {Q:List pF->Prop} (hQ:∀ ls,Lks c B o.boxes ls->Q ls):IC o bs Q:=by
 unfold IC;have c2:=J.ln;refine BV (λs:List (pF×Option Nat)×List pF=>∃ d,o.boxes.Perm (d++s.1)∧s.2=(d.filter (neK B)).map (·.1)) (λs=>s.1.length) ⟨[],List.Perm.refl _,rfl⟩ ?_;rintro⟨_,a6⟩ next ⟨d,U,h⟩ hnx;simp only at U h;have a7:=U.length_eq;rw[fC] at a7;have c1:=rE (neK B) d;refine W3 (λhr=>?_) (λp r hp=>?_)
 . subst hr;rw[kA] at U;refine⟨cfK,λx _ _ hq=>?_,AtZ,by rw[h,nW]; omega,λys D _=>hQ ys ?_⟩
   . unfold ON;exact GG (GG (yU hq))
   rw[h] at D;have a3:∀ e,e∈d↔BC e.1 o.boxes=some e.2:=λe=>by rw[K4 J.ks]; exact U.symm.mem_iff
   refine⟨?_,λ_ hk=>?_,λa b _ _ a5=>?_,?_⟩
   . refine D.symm.nodup (((List.filter_sublist (l:=d)).map _).nodup ?_);exact(U.map (λx:pF×Option Nat=>x.1)).nodup (show(o.boxes.map λx:pF×Option Nat=>x.1).Nodup from J.ks)
   . obtain⟨e,he,rfl⟩:=List.mem_map.1 (D.mem_iff.1 hk);have⟨a8,a9⟩:=List.mem_filter.1 he;have V:=(a3 e).1 a8;have⟨a,b,p,h1,h2,O,Z⟩:=J.key _ _ V;exact⟨a,b,p,h1,h2,O,by rw[V,Z],(sO O).1 a9⟩
   . refine D.mem_iff.2 ?_
     cases V:BC ((a:Int),(b:Int)) o.boxes with
     | none=>exact absurd (J.no a b V) a5
     | some v=>exact List.mem_map.2 ⟨(((a:Int),(b:Int)),v),List.mem_filter.2 ⟨(a3 _).2 V,(sO rfl).2 a5⟩,rfl⟩
   . rw[D.length_eq,nW]; omega
 . have b0:=hp.length_eq;simp only[gY] at b0;have a2:BC p.1 o.boxes=some p.2:=(K4 J.ks).2 (U.mem_iff.2 (List.mem_append.2 (.inr (hp.mem_iff.2 (by simp)))));have⟨a,b,q,h1,h2,O,Z⟩:=J.key _ _ a2;have a4:o.boxes.Perm ((d++[p])++r):=U.trans (by rw[nP]; exact(hp.append_left d));unfold HL;rw[Z];rw[O,Z] at a2;have⟨_,x,b1,c0⟩:=J.get a b q a2;refine UR ⟨x,b1,AcC c0 ?_⟩
   have hf:((d++[p]).filter (neK B)).map (·.1)=a6++if neK B p=true then [p.1] else []:=by grind
   refine A0 (λ_=>AL (by rw[h]; simp; omega) (hnx _ ⟨d++[p],a4,?_⟩ (by simp only; omega))) (λ_=>hnx _ ⟨d++[p],a4,?_⟩ (by simp only; omega))
   . grind[sO]
   . rw[hf,if_neg (λhx=>(sO O).1 hx (List.length_eq_zero_iff.1 (by omega))),kA]
theorem GrI.up (H:GrI c g ad W B rm nb n o ws bs) {d:Nat} (h:nb<=d):GrI c g ad W B rm d n o ws bs:=⟨H.gh,H.pn,H.room,H.wk,H.ow,H.inj,H.mem,H.ok,H.hist,H.tot,H.to,H.fr,H.bx.le h⟩
theorem GrI.rest (H:GrI c g ad W B rm nb n o ws bs) (d:¬NE c B) (h:∀ q,q<c.R*c.C->(W q).out=[]) (φ:AK->Nat):g.pend c φ=0:=by
 rw[<-H.tot φ];have D:AN (c.R*c.C) (λk=>wt φ (W k).out)=c.R*c.C*0:=CV λk hk=>by rw[h k hk]; rfl
 have V:AN (c.R*c.C) (λa=>AN (c.R*c.C) λb=>wt φ (B a b))=c.R*c.C*(c.R*c.C*0):=CV λa O=>CV λb J=>by rw[show B a b=[] from AfV λU=>d ⟨a,O,b,J,U⟩]; rfl
 rw[D,V]; simp
def qV (q:Nat):Int->Int->Nat:=λ_ x=>if x=(q:Int) then 1 else 0
structure Win (c:GC) (g g':Gh):Prop where
 mono:∀ ω,g.valW c ω≤g'.valW c ω
 go:∀ q,q<c.R*c.C→g.pend c (fun f=>if f.From=(q:Int) then 1 else 0)≠0→g.valW c (qV q)<g'.valW c (qV q)
theorem GrI.pend_q (H:GrI c g ad W B rm nb n o ws bs) {q:Nat} (hp:g.pend c (λf=>if f.From=(q:Int) then 1 else 0)≠0):NEs c B q∨(W q).out≠[]:=by
 have O:∀ {l:List AK} {φ:AK->Nat},wt φ l≠0->∃ f∈l,φ f≠0:=λ{l φ}=>by
   induction l with
   | nil=>intro h; exact absurd rfl h
   | cons x l ih=>
    intro h;by_cases e:φ x=0
    . have d:wt φ l≠0:=by show wt φ l≠0; intro e'; apply h; show φ x+wt φ l=0; omega
      grind
    . exact⟨x,by simp,e⟩
 have ht:=H.tot λf=>if f.From=(q:Int) then 1 else 0;rcases aD (AN (c.R*c.C) λk=>wt (λf=>if f.From=(q:Int) then 1 else 0) (W k).out) with Z | Z
 . have⟨a,V,d⟩:=LP (n:=c.R*c.C) (f:=λa=>AN (c.R*c.C) λb=>wt (λf=>if f.From=(q:Int) then 1 else 0) (B a b)) (by omega);have⟨b,J,d⟩:=LP d;have⟨f,D,d⟩:=O d;have U:=(H.to a b V J f D).2
   have e:a=q:=by grind
   subst e;exact .inl ⟨b,J,λe=>by rw[e] at D; cases D⟩
 . have⟨k,hk,d⟩:=LP (n:=c.R*c.C) (f:=λk=>wt (λf=>if f.From=(q:Int) then 1 else 0) (W k).out) (by omega);have⟨f,D,d⟩:=O d;have U:=H.fr k hk f D;grind
theorem AmZ (b0:c.Ok) (H:GrI c g ad W B rm nb (g.nh c) o ws bs) (c0:1<=rm∧rm<=64) (f2:nb<=900000) {Q:Bool×AH×A3×AP->Prop}
   (hQ:∀ r D J d o' a4 a3,GrI c D ad J d rm (nb+25) (D.nh c) o' a4 a3->(r=true->g.val c<D.val c)->(r=false->∀ φ,D.pend c φ=0)->Win c g D->Q (r,o',a4,a3)):FW o ws bs Q:=by
 have f3:o.workers.length=c.R*c.C:=by rw[H.wk]; simp
 have f0:=(T_b b0).2;unfold FW
 refine A9 (σ:=AH×Bool×A3×AP) (λs i=>(s.1,s.2.1,i,s.2.2.1,s.2.2.2)) 0 (c.R*c.C) (s0:=(o,false,ws,bs)) (by omega)
   (λk s=>∃ J d,GrI c g ad J d rm (nb+k) (g.nh c) s.1 s.2.2.1 s.2.2.2∧(NE c d∨s.2.1=false∧∀ q,q<k->(J q).out=[])∧(∀ q,NEs c B q∨q<k∧(W q).out≠[]->NEs c d q)∧∀ q,k<=q->J q=W q) (by omega) ⟨W,B,H,.inr ⟨rfl,λq O=>by omega⟩,λq O=>O.elim id λZ=>by omega,λ_ _=>rfl⟩ (λk s next _ hk hs a6=>?_) (λs next hs=>?_)
 . have⟨o1,mv,c1,b1⟩:=s;have⟨W1,B1,H1,D1,E1,E2⟩:=hs;simp only at H1 D1 ⊢;refine A0 (λ_=>AtY b0 H1 c0 (by omega) hk λr J d o' a4 a3 h _ g1 U g3=>?_) (λh'=>by omega)
   have c2:∀ q,NEs c B q∨q<k+1∧(W q).out≠[]->NEs c d q:=λq O=>by grind
   have d0:∀ q,k+1<=q->J q=W q:=λq O=>(g3 q (by omega)).trans (E2 q (by omega))
   cases r with
   | true=>
     refine B2 rfl (a6 (o',true,a4,a3) ⟨J,d,h,.inl ?_,c2,d0⟩);rcases U with U | ⟨U,_⟩
     . exact⟨k,hk,U⟩
     . cases U
   | false=>
     refine A8 rfl (a6 (o',mv,a4,a3) ⟨J,d,h,?_,c2,d0⟩);rcases D1 with⟨a,ha,Z⟩ | ⟨D1,D2⟩
     . exact .inl ⟨a,ha,g1 a Z⟩
     . rcases U with U | ⟨_,rfl,g4⟩
       . exact .inl ⟨k,hk,U⟩
       all_goals grind
 . have⟨o1,mv,c1,b1⟩:=s;have⟨W1,B1,H1,D1,E1,_⟩:=hs;simp only at H1 D1 ⊢;refine A0 (λh'=>by omega) λ_=>ArH H1.bx (by omega) λls L=>?_;have f1:ls.length<=1000000:=by have:=L.len; have:=H1.bx.ln; omega
   refine A9 (σ:=AH×Bool×AP×A3) (λs i=>(s.1,s.2.1,i,s.2.2.1,s.2.2.2)) 0 ls.length (s0:=(o1,mv,b1,c1)) (by omega)
     (λk s=>∃ D J d,GrI c D ad J d rm (nb+c.R*c.C) (D.nh c) s.1 s.2.2.2 s.2.2.1∧s.1.boxes=o1.boxes∧(∀ a b:Nat,(∃ q,k<=q∧ls[q]? = some ((a:Int),(b:Int)))->d a b≠[])∧((∀ ω,g.valW c ω<=D.valW c ω)∧(0<k->g.val c<D.val c)∧∀ j (q:Nat) (b:Int),j<k->ls[j]? = some ((q:Int),b)->g.valW c (qV q)<D.valW c (qV q))∧(0<k->s.2.1=true)∧(k=0->s=(o1,mv,b1,c1)∧D=g∧J=W1∧d=B1)) (by omega)
     ⟨g,W1,B1,H1,rfl,λa b ⟨q,_,O⟩=>?_,⟨λ_=>YG _,λV=>absurd V (by omega),λj _ _ V=>absurd V (by omega)⟩,λV=>absurd V (by omega),λ_=>⟨rfl,rfl,rfl,rfl⟩⟩ (λk s next _ hk hs a6=>?_) (λs next hs=>?_)
   . have⟨a',b',p,_,_,e,_,a5⟩:=L.of _ (As3 O);grind
   . have⟨o2,a9,d1,d8⟩:=s;have⟨D,J,d,h,a2,a5,⟨v1,v2,v3⟩,hm,_⟩:=hs;simp only at h a2 hm ⊢;have⟨a,b,p,ha,hb,e,hp,_⟩:=L.of _ (TF hk);refine A0 (λ_=>AW hk ?_) (λh'=>by omega);rw[e];rw[e,<-a2] at hp;refine IG ?_;rw[hp];have⟨_,x,d6,d7⟩:=h.bx.get a b p hp;have hB:=a5 a b ⟨k,YG _,by rw[zL8 hk,e]⟩;unfold HL NJ;refine UR ⟨x,d6,AcC d7 (UR ⟨x,d6,AwH d7 hB c0.2 ?_⟩)⟩
     obtain⟨f,l,e5⟩:∃ f l,d a b=f :: l:=by
       cases hc:d a b with
       | nil=>exact absurd hc hB
       | cons f l=>exact⟨f,l,rfl⟩
     refine AhW b0 h c0 (by omega) ha hb hp e5 λU W2 o3 d9 d2 _ x2 H2 ⟨κ,a7⟩ e2 _ e8 e9=>?_;have d4:=a7 (qV a);rw[show qV a κ a=1 from if_pos rfl] at d4;have e7:=a7 λ_ _=>1;rw[mQ,mQ] at e7;have e6:=v1 λ_ _=>1;rw[mQ,mQ] at e6
     have e1:∀ a8,a8=true->next (o3,a8,A4 ((k:Int)+1),d2,d9):=λa8 e'=>a6 (o3,a8,d2,d9) ⟨U,W2,xP d a b l,H2,e2.trans a2,λa' b' ⟨q,d4,d5⟩=>by
       rw[cO]
       . exact a5 a' b' ⟨q,by omega,d5⟩
       . rintro⟨rfl,rfl⟩;have h1:ls[k]? = some ((a':Int),(b':Int)):=by rw[zL8 hk,e]
         have:=(List.getElem?_inj hk L.nd).1 (h1.trans d5.symm)
         omega,⟨λω=>by have:=v1 ω; have:=a7 ω; omega,λ_=>by omega,λj q b' hj O=>by
           by_cases ej:j=k
           . rw[ej,zL8 hk,e] at O;have e3:(a:Int)=q:=(Prod.mk.inj (TG O)).1;have e4:a=q:=by omega
             subst e4;have:=v1 (qV a); omega
           . have:=v3 j q b' (by omega) O; have:=a7 (qV q); omega⟩,λ_=>e',λV=>by omega⟩
     cases a9 with
     | true=>exact B2 rfl (e1 true rfl)
     | false=>
       refine A8 rfl (UR ⟨x2,e8,AcC e9 ?_⟩);grind
   . have⟨o2,a9,d1,d8⟩:=s;have⟨D,J,d,h,a2,a5,⟨v1,v2,v3⟩,hm,V⟩:=hs;simp only at h a2 hm V ⊢;refine A0 (λh'=>by omega) λ_=>hQ a9 D J d o2 d8 d1 (h.up (by omega)) (λhr=>?_) (λhr=>?_) ⟨v1,λq O hp=>?_⟩
     . rcases aD ls.length with hz | hz
       . have⟨hs,_,_,_⟩:=V hz;have:a9=mv:=by grind
         rcases D1 with⟨a,ha,b,hb,Z⟩ | ⟨D1,_⟩
         . have:=L.all a b ha hb Z;grind
         all_goals grind
       . exact v2 hz
     . rcases aD ls.length with hz | hz
       . obtain⟨_,rfl,rfl,rfl⟩:=V hz
         have d3:¬NE c d:=λ⟨a,ha,b,hb,Z⟩=>by have:=L.all a b ha hb Z;grind
         rcases D1 with D1 | ⟨_,D2⟩
         . exact absurd D1 d3
         . exact h.rest d3 D2
       all_goals grind
     . have⟨b,hb,Z⟩:=E1 q ((H.pend_q hp).imp id λZ=>⟨O,Z⟩);have⟨j,hj,ej⟩:=WK (L.all q b O hb Z);grind
open Go Go.Fw
variable {c:GC}
def vT:Gh:=⟨0,λ_=>true,λ_ _=>true,λ_ _=>true,λ_ _=>true,λ_=>false⟩
noncomputable def GC.w0 (c:GC) (i j:Nat):A1:=⟨⟨i,j⟩,c.p,⟨c.R,c.C⟩,c.lim,c.ch,c.rows i j,c.cols i j,if j=0 then [c.fVote 0 i] else [],1,[],1,0,0,if j=0 then c.sg 0 i else zSt,if j=0 then c.sg 0 i else zSt,decide (j=0),false,[],[],0,[],false⟩
theorem AcD (j:Nat):vT.col c j=true:=decide_eq_true λ_ _=>rfl
theorem AcE (i:Nat):vT.row c i=true:=decide_eq_true λ_ _=>rfl
theorem mV (i:Nat):vT.rnd c i=0:=by show(if (true:Bool)=true then (if c.st (0 - 1)=3 then 0 - 2 else 0 - 1) else 0 - 2)=0; grind
theorem AwJ:vT.nh c=1:=if_pos (sU _)
theorem ArI (h:c.Ok):vT.Ok c:=⟨sU _,λi j _ _=>⟨rfl,by have:=h.U_b; show 0<c.U; omega⟩,λi j _ _ _=>AcD j,λ_ _ _ _ _=>rfl,(λi _ d=>nomatch d),⟨0,by have:=h.R1; omega,rfl⟩,λ_ i _=>⟨rfl,AcE i⟩⟩
theorem ov0 (c:GC) (i:Nat):c.ov 0 i=false:=by
 cases d:c.ov 0 i with
 | false=>rfl
 | true=>exact absurd rfl (c.ov_iff.1 d).1
theorem Ay6 (c:GC) (i j:Nat):WOk c vT i j (c.w0 i j):=by
 refine⟨⟨rfl,rfl,rfl,rfl,rfl,rfl,rfl⟩,rfl,λ_=>⟨?_,MapR.nil _ _ λk _=>?_⟩,λh=>?_,λ_ _=>⟨rfl,MapR.nil _ _ λk _=>rfl,?_⟩⟩
 . rw[AcD]; rfl
 . rw[AcD]; rfl
 . subst h;refine⟨by rw[AcE]; rfl,rfl,by rw[mV]; rfl,(if_neg λd=>absurd d.1 (by show ¬1<=0; omega)).symm,by rw[mV]; rfl,λ_=>?_,(λd=>absurd d (by show ¬1<=0; omega)),(λd=>absurd d (by show ¬1<=0; omega))⟩;show c.sg 0 i=c.asd 0 i;unfold GC.asd;rw[ov0]; rfl
 . exact(decide_eq_false λd=>absurd d.1 (by show ¬1<=0; omega)).symm
theorem Av4 (φ:AK->Nat):vT.pend c φ=AN c.R λi=>φ (c.fVote 0 i):=by have h:AN c.R (vT.pO c φ)=0:=(CV (b:=0) λa _=>if_neg λd=>nomatch d.2).trans (O1 _);have D:AN c.R (λa=>AN c.C (vT.pS c φ a))=0:=(CV (b:=0) λa _=>(CV (b:=0) λb _=>if_neg λd=>nomatch d.2.2).trans (O1 _)).trans (O1 _);have J:AN c.C (λb=>AN c.R (vT.pE c φ b))=0:=(CV (b:=0) λb _=>(CV (b:=0) λa _=>if_neg λd=>nomatch d.2).trans (O1 _)).trans (O1 _);have O:AN c.R (λa=>AN c.C (vT.pA c φ a))=0:=(CV (b:=0) λa _=>(CV (b:=0) λb _=>if_neg λd=>nomatch d.2).trans (O1 _)).trans (O1 _);have U:AN c.R (vT.pV c φ)=AN c.R λi=>φ (c.fVote 0 i):=E9 λi _=>if_pos ⟨AcE i,rfl⟩;unfold Gh.pend;omega
theorem Af9 (f:Nat->Nat) (a:Nat):∀ b,AN (a+b) f=AN a f+AN b λj=>f (a+j)
 | 0=>rfl
 | b+1=>by show AN (a+b) f+f (a+b)=AN a f+(AN b (λj=>f (a+j))+f (a+b)); rw[Af9 f a b]; omega
theorem AfA (f:Nat->Nat) (C:Nat):∀ R,AN (R*C) f=AN R λi=>AN C λj=>f (i*C+j)
 | 0=>by rw[Ag7]; rfl
 | R+1=>by rw[AiQ,Af9,AfA f C R]; rfl
theorem An0 {l:List HY} {Q:List HY->Prop} (h:l.length<=1000000) (d:Q l):D5 l Q:=by unfold D5;exact L7 (λe=>by subst e; exact d) (AL (by simp; omega) d)
structure SuP (c:GC) (rm:Nat) (s:JB):Prop where
 pl:s.Plan=c.p
 gr:s.Graph=c.g
 R:s.R=c.R
 C:s.C=c.C
 room:s.Room=rm
 lm:s.Limit=c.lim
 ch:s.Choices=c.ch
 rm1:1≤rm∧rm≤64
theorem eX (h:c.Ok) {rm:Nat} {s:JB} (d:SuP c rm s) {Q:Int->Prop} (U:Q 0):JM s Q:=by
 have hR:=h.R1; have Z:=h.C1; have J:=h.chl; have D:=d.rm1;unfold JM;rw[d.pl,d.gr,d.lm,d.R,d.C,d.room,d.ch];refine vM ?_;rw[h.run.check];refine A8 rfl (CE (λb=>b=false) (λb O=>A8 O (A0 (λV=>by omega) λ_=>U)) λ_ hk=>?_)
 have one:∀ (a m:Nat) (K:Bool->Prop),1<=a∧a<=m->K true->II (a:Int) (m:Int) K:=λa m K _ _=>by
  unfold II;refine A0 (λ_=>?_) λV=>by omega
  grind
 exact one c.R 8 _ (by omega) (A8 rfl (one c.C 8 _ (by omega) (A8 rfl (one rm 64 _ D (hk _ rfl)))))
theorem Au0 (h:c.Ok) {rm:Nat} {s:JB} (O:SuP c rm s) {i j:Nat} (hi:i<c.R) (hj:j<c.C) {Q0:Int->Prop} {V Q2:Int×A1->Prop} (h1:j=0->V (0,c.w0 i j)) (h2:j≠0->Q2 (0,c.w0 i j)):OP s i j Q0 V Q2:=by
 have hR:=h.R1; have hC:=h.C1; have a3:=h.chl;have D:=h.run.cn;rw[h.pn] at D;have⟨a2,d⟩:=iO D (h.grd hi hj);have a4:=(BO h.run.rp).2.2.2.2.1;unfold OP;refine eX h O (A8 rfl ?_);rw[O.pl,O.gr,O.lm,O.R,O.C,O.ch];refine A0 (λU=>by omega) λ_=>A0 (λU=>by omega) λ_=>A0 (λU=>by omega) λ_=>A0 (λU=>by omega) λ_=>cH ?_;rw[h.run.mt,h.pn];refine An0 (by omega) (KC (by omega) (AbL D ?_));rw[a2];refine AgS d.sml (Q9 d) (λ_=>rfl) (λU=>absurd d.right U) d ?_;refine B5 (λh0=>?_) λh0=>?_
 . obtain rfl:j=0:=by omega
   have e2:(i:Int)+1=((i+1:Nat):Int):=by omega
   have hn:=h.ls_n hi;refine HT ?_;rw[A6 (x:=(i:Int)+1) (by omega) (by omega)];refine HT (xH ?_)
   have hb:P0 c.p (AQ c.n c.R i) (AQ c.n c.R ((i:Int)+1))=c.sg 0 i:=by rw[e2,h.lowR (by omega),h.lowR (by omega)];exact Aa5 (l:=c.ls i) (n:=c.ln i) h.run.rp rfl (by rw[h.ls_ln]) (by rw[h.pn,<-h.ls_ln]; omega)
   rw[hb];have hv:=Ac9 (i:=i) (k:=0) (w:={ c.w0 i 0 with out:=[],waits:=false }) (Q:=λr=>V (0,r)) h ⟨rfl,rfl,rfl,rfl,rfl,rfl,rfl⟩ hi (by simp) (λ_=>rfl) (h1 rfl);rw[ov0] at hv;have J:({ Kind:=c.p.Kind,N:=(c.n:Int),Source:=c.p.Source,Length:=c.p.Length,Draws:=c.p.Draws }:Plan)=c.p:=by rw[<-h.pn]
   rw[J];exact hv
 . have J:({ Kind:=c.p.Kind,N:=(c.n:Int),Source:=c.p.Source,Length:=c.p.Length,Draws:=c.p.Draws }:Plan)=c.p:=by rw[<-h.pn]
   rw[J];have Z:=h2 (by omega);unfold GC.w0 at Z;rw[if_neg (by omega),if_neg (by omega),decide_eq_false (by omega)] at Z;exact Z
variable {c:GC}
theorem Av5 {C k:Nat} (h:1<=C):(k+1+C - 1) / C=k / C+1∧(k+C - 1) / C=if k % C=0 then k / C else k / C+1:=by
 have hk:=AiI k C;have O:k % C<C:=Ad4 _ (by omega);generalize k / C=q at *; generalize k % C=r at *;have e:∀ s,s<C->(C*q+s) / C=q:=λs d=>by rw[AiF (by omega),AnJ d,YH]
 have J:∀ s,s<C->(C*q+C+s) / C=q+1:=λs d=>by
   have:C*q+C+s=C*(q+1)+s:=by rw[Nat.mul_succ]
   rw[this,AiF (by omega),AnJ d] <;> rfl
 refine⟨?_,?_⟩
 . grind
 . split
   . rename_i D;rw[show k+C - 1=C*q+(C - 1) by omega]; exact e _ (by omega)
   . rename_i D;rw[show k+C - 1=C*q+C+(r - 1) by omega]; exact J _ (by omega)
theorem AwK {o:AH} {ws:A3} {Q:AH->Prop} (h:EM o ws Q):EM o ws Q:=h
theorem Au1 (h:c.Ok) {rm:Nat} {s:JB} (V:SuP c rm s) {d:A3} {c1:AP} {Q0:Int×A3->Prop} {Q1:Int×A3×AH->Prop}
   (hQ:∀ ad W ws o,(∀ bs,GrI c vT ad W (λ_ _=>[]) rm 0 (vT.nh c) o ws bs)->(∀ k,k<c.R*c.C->BC (ad k) d=none)->(∀ p,BC p d≠none->BC p ws=BC p d)->Q1 (0,ws,o)):SW d c1 s Q0 Q1:=by
 have hR:=h.R1; have hC:=h.C1; have d5:=(T_b h).2;unfold SW;refine eX h V (A8 rfl ?_)
 have b1:A4 (s.R*s.C)=((c.R*c.C:Nat):Int):=by
   have e1:(c.R:Int)*(c.C:Int)=((c.R*c.C:Nat):Int):=by rw[Int.natCast_mul]
   rw[V.R,V.C,e1,A6 (by omega) (by omega)]
 refine A9 (σ:=List (Option Nat)×List (Option Nat)×A3) (λs i=>(s.1,s.2.1,i,s.2.2)) 0 (c.R*c.C) (s0:=([],[],d)) (by omega)
   (λk t=>∃ ad:Nat->Nat,t.1=(List.range k).map (λq=>some (ad q))∧t.2.1=(List.range ((k+c.C - 1) / c.C)).map (λi=>some (ad (i*c.C)))∧(∀ a b,a<k->b<k->ad a=ad b->a=b)∧(∀ q,q<k->BC (ad q) t.2.2=some (c.w0 (q / c.C) (q % c.C)))∧(∀ q,q<k->BC (ad q) d=none)∧∀ p,BC p d≠none->BC p t.2.2=BC p d) (by omega)
   ⟨λ_=>0,rfl,by rw[show(0+c.C - 1) / c.C=0 from AnJ (by omega)]; rfl,λa b _=>by omega,λq Z=>by omega,λq Z=>by omega,λp _=>rfl⟩ (λk t next _ hk ht d1=>?_) (λt next ht=>?_)
 . have⟨wl,ol,ws⟩:=t;have⟨ad,a1,J,a3,O,a5,U⟩:=ht;simp only at a1 J O U ⊢;have⟨r1,r2⟩:=Av5 (k:=k) hC.1;have D:k % c.C<c.C:=Ad4 _ (by omega);have hi:k / c.C<c.R:=Nat.div_lt_of_lt_mul (by rw[AaL]; exact hk);have d6:=AiI k c.C;have a7:JG c.C:=h.mp.2.2;have h8:k<8*c.C:=by have:c.R*c.C<=5*c.C:=wS _ (by omega); omega
   have d7:ol.length<=100:=by grind
   have d8:wl.length<=100:=by grind
   rw[b1,V.C]
   -- the worker put behind the others
   have c0:∀ b,BC b ws=none->∀ a9,a9=ol++(if k % c.C=0 then [some b] else [])->next (wl++[some b],a9,A4 ((k:Int)+1),(b,c.w0 (k / c.C) (k % c.C)) :: ws):=by
     intro b hb a9 d2;have d0:∀ q,q<k->ad q≠b:=λq Z e=>by have:=O q Z; rw[e,hb] at this; cases this
     have c2:∀ i,i*c.C<k->(if i*c.C=k then b else ad (i*c.C))=ad (i*c.C):=λi a8=>if_neg (by omega);refine d1 (wl++[some b],a9,(b,c.w0 (k / c.C) (k % c.C)) :: ws) ⟨λq=>if q=k then b else ad q,?_,?_,λ_ _ hx _ e=>?_,λq Z=>?_,λq Z=>?_,λp hp=>?_⟩
     . rw[aF,gW,a1];refine congr (congrArg _ (AaI λq Z=>?_)) (by simp);grind
     . rw[d2,r1,J,r2];split
       . rename_i h0;rw[aF,gW];have ek:k / c.C*c.C=k:=by rw[AaL]; omega
         refine congr (congrArg _ (AaI λi a8=>?_)) (by simp[ek]);have h1:=List.mem_range.1 a8;have h2:=iY (c:={ c with R:=k / c.C }) h1 (j:=0) hC.1;grind
       . rename_i h0;rw[kA];refine AaI λi a8=>?_;have h1:=List.mem_range.1 a8;have h2:i*c.C<=k / c.C*c.C:=wS _ (by omega);grind
     . grind
     . by_cases e:q=k
       . subst e; simp only[if_true]; exact ZB _ _ _
       . simp only[if_neg e];rw[sN (d0 q (by omega))]; exact O q (by omega)
     . grind
     . have b0:p≠b:=λe=>by have:=U p hp; rw[e,hb,<-e] at this; exact hp this.symm
       rw[sN b0]; exact U p hp
   refine A0 (λ_=>cD a7 h8 (WA a7 h8 (Au0 h V hi D (λh0=>A8 rfl λb hb=>AL (by simp; omega) (WA a7 h8 ?_)) λh0=>A8 rfl λb hb=>AL (by simp; omega) (WA a7 h8 ?_)))) λhx=>by omega
   . exact B2 (by rw[h0]; rfl) (AL (by simp; omega) (c0 b hb _ (by rw[if_pos h0])))
   . exact B5 (λhx=>by omega) λ_=>c0 b hb _ (by rw[if_neg h0,kA])
 . have⟨wl,ol,ws⟩:=t;have⟨ad,a1,J,a3,O,a5,U⟩:=ht;simp only at a1 J O U ⊢;rw[b1];refine A0 (λhx=>by omega) λ_=>?_
   have d4:(c.R*c.C+c.C - 1) / c.C=c.R:=by rw[(Av5 (k:=c.R*c.C) hC.1).2,Nat.mul_mod_left,if_pos rfl,Nat.mul_div_cancel _ (by omega)]
   rw[d4] at J;have hW:∀ i j,i<c.R->j<c.C->c.w0 ((i*c.C+j) / c.C) ((i*c.C+j) % c.C)=c.w0 i j:=λi j _ D=>by rw[(mS h D).1,(mS h D).2]
   have d3:∀ i,i<c.R->BC (ad (i*c.C)) ws=some (c.w0 i 0):=λi hi=>by have c2:=iY (c:=c) hi (show 0<c.C by omega);grind
   refine AwK (AkQ (o:=⟨s,wl,[],ol,[]⟩) (n:=0) h (ArI h) J (by rw[V.pl]; exact h.pn) (λi hi=>⟨_,d3 i hi,by rw[mV]; rfl,by rw[mV]; rfl⟩) rfl (.inr ⟨AwJ,λi _=>mV i⟩) ?_);refine hQ ad (λq=>c.w0 (q / c.C) (q % c.C)) ws _ (λbs=>⟨ArI h,by rw[V.pl]; exact h.pn,V.room,a1,J,a3,O,λi j hi D=>by rw[hW i j hi D]; exact Ay6 c i j,rfl,λφ=>?_,λa b _ _ f hf=>by simp at hf,λq Z f hf=>?_,⟨Ao7,YG _,(λk _ hk=>nomatch hk),(λa b p hp=>nomatch hp),λa b _=>rfl,(λk _ p hk=>nomatch hk)⟩⟩) a5 U
   . rw[Av4,AfA];have z:(AN (c.R*c.C) λa=>AN (c.R*c.C) λb=>wt φ [])=0:=(CV (b:=0) λa _=>(CV (b:=0) λb _=>rfl).trans (O1 _)).trans (O1 _);rw[z,YH];refine E9 λi hi=>?_
     have:=H7 (n:=c.C) (i:=0) (f:=λ_=>0) (f':=λj=>wt φ (c.w0 ((i*c.C+j) / c.C) ((i*c.C+j) % c.C)).out) (by omega) λj D b0=>by rw[hW i j hi D]; unfold GC.w0; rw[if_neg b0]; rfl
     rw[NK,O1,hW i 0 hi (by omega)] at this;have e0:wt φ (c.w0 i 0).out=φ (c.fVote 0 i):=by show φ (c.fVote 0 i)+0=_; omega
     rw[e0] at this;omega
   . simp only[GC.w0] at hf;split at hf
     . rename_i D;rw[List.mem_singleton.1 hf];have:=AiI q c.C;show c.num (q / c.C) 0=_;unfold GC.num;rw[D,YH,AaL] at this;rw[YH,this]
     . cases hf
end
open Go Go.Fw
variable {c:GC} {g:Gh} {rm nb n:Nat} {B:Nat→Nat→List AK} {bs:AP} {ad:Nat→Nat} {W:Nat→A1} {o:AH} {ws:A3}
theorem ArJ (a2:c.Ok) (h:g.Ok c) (hz:∀ φ,g.pend c φ=0):g.u=c.U∧∀ i,i<c.R->g.O i=true:=by
 have hR:=a2.R1; have hC:=a2.C1;have a4:=hz λ_=>1;unfold Gh.pend at a4;have Z:∀ {p:Prop} [Decidable p],(if p then 1 else 0)=0->¬p:=λ{p} _ hx hp=>by rw[if_pos hp] at hx; cases hx
 have zO:∀ i,i<c.R->¬(1<=g.u∧g.O i=false):=λi hi=>Z (by have:=HW (f:=g.pO c λ_=>1) hi; show g.pO c (λ_=>1) i=0; omega);have zV:∀ i,i<c.R->¬(g.row c i=true∧g.V i=false):=λi hi=>Z (by have:=HW (f:=g.pV c λ_=>1) hi; show g.pV c (λ_=>1) i=0; omega)
 have zS:∀ i j,i<c.R->j<c.C->¬(g.O i=true∧g.u<c.U∧g.S i j=false):=λi j hi d=>Z (by have h1:=HW (f:=λi=>AN c.C (g.pS c (λ_=>1) i)) hi; have h2:=HW (f:=g.pS c (λ_=>1) i) d;show g.pS c (λ_=>1) i j=0; omega)
 have zE:∀ j i,j<c.C->i<c.R->¬(g.col c j=true∧g.E i j=false):=λj i d hi=>Z (by have h1:=HW (f:=λj=>AN c.R (g.pE c (λ_=>1) j)) d; have h2:=HW (f:=g.pE c (λ_=>1) j) hi;show g.pE c (λ_=>1) j i=0; omega)
 have zA:∀ i j,i<c.R->j<c.C->¬(g.E i j=true∧g.A i j=false):=λi j hi d=>Z (by have h1:=HW (f:=λi=>AN c.C (g.pA c (λ_=>1) i)) hi; have h2:=HW (f:=g.pA c (λ_=>1) i) d;show g.pA c (λ_=>1) i j=0; omega)
 have J:∀ {b:Bool},b≠false->b=true:=λ{b} hb=>by cases b; exact absurd rfl hb; rfl
 have hO:∀ i,i<c.R->g.O i=true:=λi hi=>by
   rcases aD g.u with h0 | h0
   . exact(h.z h0 i hi).1
   all_goals grind
 refine⟨?_,hO⟩;have a5:=h.u;rcases aG g.u c.U with hu | hu
 . have hS:∀ i j,i<c.R->j<c.C->g.S i j=true:=λi j hi d=>J λD=>zS i j hi d ⟨hO i hi,hu,D⟩;have a3:∀ j,j<c.C->g.col c j=true:=λj d=>decide_eq_true λi hi=>hS i j hi d;have hE:∀ i j,i<c.R->j<c.C->g.E i j=true:=λi j hi d=>J λD=>zE j i d hi ⟨a3 j d,D⟩;have hA:∀ i j,i<c.R->j<c.C->g.A i j=true:=λi j hi d=>J λD=>zA i j hi d ⟨hE i j hi d,D⟩;have⟨i,hi,D⟩:=h.no;exact absurd ⟨decide_eq_true λj d=>hA i j hi d,D⟩ (zV i hi)
 . omega
structure Fin (c:GC) (ad:Nat→Nat) (o:AH) (ws:A3):Prop where
 ow:o.owners=(List.range c.R).map fun i=>some (ad (i*c.C))
 st:∀ i,i<c.R→∃ w,BC (ad (i*c.C)) ws=some w∧w.status=c.e
 hist:o.history=c.hist (c.m+1)
def Gh.fin (c:GC) (g:Gh):Bool:=decide (g.u=c.U∧∀ i,i<c.R->g.O i=true)
theorem AwL (h:c.Ok) (H:GrI c g ad W B rm nb (g.nh c) o ws bs) (V:g.fin c=true):Fin c ad o ws:=by
 have hR:=h.R1; have hC:=h.C1; have hU:=h.U_b; have a2:=h.run.en.ne;have⟨_,J⟩:=of_decide_eq_true V;have d:c.st (g.u - 1)=c.e:=by unfold GC.st; rw[if_pos (by omega)]
 refine⟨H.ow,λi hi=>?_,?_⟩
 . have a3:=iY (c:=c) hi (show 0<c.C by omega);have o:=(H.ok i 0 hi (by omega)).own rfl;refine⟨_,H.mem _ (by omega),?_⟩;have:=o.status;grind
 . rw[H.hist];congr 1;unfold Gh.nh;have D:c.U=if c.e=3 then c.m+2 else c.m+1:=rfl;by_cases h3:c.e=3
   . rw[if_pos h3] at D;rw[if_neg (by omega),if_neg (c:=(∀ i,i<c.R->g.O i=true)∧c.st (g.u - 1)≠3) λZ=>Z.2 (by rw[d]; exact h3)]; omega
   . rw[if_neg h3] at D;by_cases h1:g.u<=1
     . rw[if_pos h1]; omega
     . rw[if_neg h1,if_pos (c:=(∀ i,i<c.R->g.O i=true)∧c.st (g.u - 1)≠3) ⟨J,by rw[d]; exact h3⟩]; omega
theorem Au2 (h:c.Ok) (H:GrI c g ad W B rm nb n o ws bs) {Q:Bool->Prop} (J:Q (g.fin c)):CS o ws Q:=by
 have hR:=h.R1; have hC:=h.C1; have hU:=h.U_b; have a4:=h.run.en.ne;have a5:o.owners.length=c.R:=by rw[H.ow]; simp
 have a3:∀ i,i<c.R->∃ w,BC (ad (i*c.C)) ws=some w∧(w.status=0↔¬(g.u=c.U∧g.O i=true)):=λi hi=>by have d:=iY (c:=c) hi (show 0<c.C by omega);rw[YH] at d;refine⟨_,H.mem _ d,?_⟩;have ow:=((H.ok i 0 hi (by omega)).own rfl).status;rw[YH] at ow;rw[ow];unfold GC.st;grind
 unfold CS BN BU;refine D7 c.R (by omega) (λi=>∀ k,k<i->g.u=c.U∧g.O k=true) (λk hk=>by omega) (λi next hi Z a2=>?_) (λnext Z=>?_)
 . have⟨w,w1,w2⟩:=a3 i hi;refine A0 (λ_=>AG (by omega) (x:=some (ad (i*c.C))) (by rw[H.ow]; simp[hi]) ?_) (λD=>by omega);unfold HC DK ED;refine UR ⟨w,w1,?_⟩;dsimp only;refine B5 (λD=>?_) λD=>a2 λk hk=>?_
   . have V:g.fin c=false:=decide_eq_false λhy=>w2.1 D ⟨hy.1,hy.2 i hi⟩;simp_all
   all_goals grind
 . have V:g.fin c=true:=decide_eq_true ⟨(Z 0 (by omega)).1,λi hi=>(Z i hi).2⟩;rw[V] at J;exact A0 (λD=>by omega) λ_=>J
theorem AfB (h:c.Ok) (F:Fin c ad o ws) {Q:Bool->Prop} (J:Q true):CS o ws Q:=by
 have Z:=h.R1;have O:o.owners.length=c.R:=by rw[F.ow]; simp
 unfold CS BN BU;refine D7 c.R (by omega) (λ_=>True) trivial (λi next hi _ d=>?_) (λnext _=>?_)
 . have⟨w,U,V⟩:=F.st i hi;refine A0 (λ_=>AG (by omega) (x:=some (ad (i*c.C))) (by rw[F.ow]; simp[hi]) ?_) (λD=>by omega);unfold HC DK ED;refine UR ⟨w,U,?_⟩;dsimp only;rw[V];exact B5 (λD=>absurd D h.run.en.ne) λ_=>d trivial
 . exact A0 (λD=>by omega) λ_=>J
theorem An1 (h:c.Ok) (k:Nat) {Q:State->Prop} (O:Q (CU 0 c.n (c.G k))):AU (CU 0 c.n (c.G k)).A λJ=>AU (CU 0 c.n (c.G k)).B λD=>C0 (CU 0 c.n (c.G k)).On λd=>Q ({ CU 0 c.n (c.G k) with A:=J,B:=D,On:=d }:State):=by
 have U:=h.n4;have Z:(CU 0 c.n (c.G k)).A.length=c.n:=HV _ _;have lB:(CU 0 c.n (c.G k)).B.length=c.n:=HV _ _
 have V:(CU 0 c.n (c.G k)).On.length<=1000000:=by have:(CU 0 c.n (c.G k)).On.length=KL c.n:=(IV _ _).2.1;have:=bT c.n; omega
 exact KC (by omega) (KC (by omega) (iV V O))
theorem An2 (h:c.Ok) (F:Fin c ad o ws) {k:Nat} (hk:k<=c.m) {Q:State×Bool->Prop} (d:Q (CU 0 c.n (c.G k),true)):IE o k Q:=by
 have D:o.history.length=c.m+1:=by rw[F.hist]; simp[GC.hist]
 unfold IE;refine A0 (λJ=>by omega) λ_=>A0 (λJ=>by omega) λ_=>AG (by omega) (x:=CU 0 c.n (c.G k)) ?_ (An1 h k (Q:=λs=>Q (s,true)) d);rw[F.hist]; unfold GC.hist;grind
theorem An3 (h:c.Ok) (F:Fin c ad o ws) {Q:Int->Prop} (D:Q (c.m:Int)):HR o Q:=by
 have d:o.history.length=c.m+1:=by rw[F.hist]; simp[GC.hist]
 have:=h.run.en.le; have:=h.lm;unfold HR;rw[d,A6 (by omega) (by omega)];grind
theorem An4 (h:c.Ok) (F:Fin c ad o ws) {Q:Result->Prop} (d:Q ⟨c.e,c.m,CU 0 c.n (c.G c.m)⟩):HS o ws Q:=by
 have U:=h.R1;unfold HS;refine An3 h F (CE (λt=>t=c.e) (λt J=>An2 h F (YG _) ?_) λ_ hk=>AfB h F (B2 rfl ?_))
 . rw[J]; exact d
 . have⟨w,D,O⟩:=F.st 0 (by omega);refine AG (by omega) (x:=some (ad (0*c.C))) (by rw[F.ow]; show(List.map _ (List.range c.R))[0]? = _; rw[AaK,List.getElem?_range (by omega)]; rfl) ?_;unfold DK ED;exact UR ⟨w,D,hk _ O⟩
theorem AwM (O:Bxs (c.R*c.C) rm nb B o.boxes bs) {Q:Int->Prop} (hQ:∀ n,Q n):JV o bs Q:=by unfold JV;refine BV (λt:List (pF×Option Nat)×Int=>∃ d,o.boxes.Perm (d++t.1)) (λt=>t.1.length) ⟨[],List.Perm.refl _⟩ ?_;rintro⟨_,_⟩ next ⟨d,J⟩ _;simp only at J;refine W3 (λ_=>hQ _) (λp r hp=>?_);have D:=hp.length_eq;simp only[gY] at D;have h:BC p.1 o.boxes=some p.2:=(K4 O.ks).2 (J.mem_iff.2 (List.mem_append.2 (.inr (hp.mem_iff.2 (by simp)))));have⟨a,b,q,_,_,Z,V⟩:=O.key _ _ h;have a2:o.boxes.Perm ((d++[p])++r):=J.trans (by rw[nP]; exact(hp.append_left d));unfold Q5;rw[V];rw[Z,V] at h;have⟨t,x,U,_⟩:=O.get a b q h;refine UR ⟨x,U,?_⟩;unfold OR;grind
def GrE (c:GC) (s:AH×A3×AP) (rm nb:Nat) (g:Gh):Prop:=∃ ad W B,GrI c g ad W B rm nb (g.nh c) s.1 s.2.1 s.2.2
structure Cnt (c:GC) (N:Nat) (J:Nat→Gh→Prop):Prop where
 h0:J 0 vT
 st:∀ k g g',g.Ok c→g'.Ok c→Win c g g'→g.val c<g'.val c→J k g→J (k+1) g'
 no:∀ g,g.Ok c→¬J N g
theorem Au3 (h:c.Ok) {N:Nat} (D:c.U*Gh.T c+c.R<N):Cnt c N λk g=>k<=g.val c:=
 ⟨sU _,λk g _ _ _ _ _ hk=>by omega,λg d hk=>by have:=Av3 h d; omega⟩
theorem ArK (h:c.Ok) {s0:AH×A3×AP} (H:GrE c s0 rm 0 vT) (a5:1<=rm∧rm<=64) {N:Nat} (hN:N<=30000) {J:Nat->Gh->Prop} (hJ:Cnt c N J)
   {K:Int->AH->A3->AP->Prop} (hK:∀ m s g,GrE c s rm 900000 g->g.fin c=true->K m s.1 s.2.1 s.2.2) :
   B4 (λ(s:AH×Int×Int×A3×AP) a7=>match s with | (s233,s240,s241,s242,s243)=>A5 (decide (s241<(N:Int))) (CS s233 s242 λa3=>A5 a3 (K s240 s233 s242 s243) (FW s233 s242 s243 λd=>a7 (d.2.1,A4 (s240+1),A4 (s241+1),d.2.2.1,d.2.2.2))) (K s240 s233 s242 s243)) (s0.1,0,0,s0.2.1,s0.2.2):=by
 refine A9 (σ:=AH×A3×AP) (λs i=>(s.1,i,i,s.2.1,s.2.2)) 0 N (s0:=s0) (by omega)
   (λk s=>∃ g,GrE c s rm (25*k) g∧(g.fin c=true∨J k g)) (by omega) ⟨vT,H,.inr hJ.h0⟩ (λk s next _ _ hs a2=>?_) (λs next hs=>?_)
 . have⟨o1,O,D⟩:=s;have⟨g,⟨ad,W,B,H1⟩,U⟩:=hs;simp only at H1 a2 ⊢;refine A0 (λ_=>Au2 h H1 ⟨λhf=>hK _ (o1,O,D) g ⟨ad,W,B,H1.up (by omega)⟩ hf,λhf=>?_⟩) (λZ=>by omega);refine AmZ h H1 a5 (by omega) λr g' W' B' o' a6 a4 V h1 h2 hw=>a2 (o',a6,a4) ⟨g',⟨ad,W',B',V.up (by omega)⟩,?_⟩
   have U:J k g:=by grind
   cases r with
   | true=>right; exact hJ.st k g g' H1.gh V.gh hw (h1 rfl) U
   | false=>left; have⟨e1,e2⟩:=ArJ h V.gh (h2 rfl); exact decide_eq_true ⟨e1,e2⟩
 . have⟨o1,O,D⟩:=s;have⟨g,⟨ad,W,B,H1⟩,U⟩:=hs;simp only at H1 ⊢;refine A0 (λZ=>by omega) λ_=>hK _ (o1,O,D) g ⟨ad,W,B,H1.up (by omega)⟩ ?_;rcases U with Z | Z
   . exact Z
   . exact(hJ.no g H1.gh Z).elim
variable {c:GC} {g g':Gh}
theorem AwN (f:Nat->Nat):AN 4 f=f 0+f 1+f 2+f 3:=by show 0+f 0+f 1+f 2+f 3=_; omega
def Gh.o4 (g:Gh):Nat:=AN 4 λi=>bt (g.O i)
def Gh.s4 (g:Gh) (i:Nat):Nat:=AN 4 λj=>bt (g.S i j)
def Gh.x0 (g:Gh):Nat:=AN 4 (λi=>bt (g.E i 0))+bt (g.A 0 0)+bt (g.V 0)
def Gh.xb (g:Gh) (b:Nat):Nat:=bt (g.A b 0)+bt (g.V b)
def Gh.xr (g:Gh):Nat:=AN 4 (λi=>bt (g.E i 1)+bt (g.E i 2)+bt (g.E i 3))+AN 4 λi=>bt (g.A i 1)+bt (g.A i 2)+bt (g.A i 3)
def omO:Int->Int->Nat:=λk _=>if k=5 then 1 else 0
def omN:Int->Int->Nat:=λk x=>if k≠5∧x=0 then 1 else 0
def omR:Int->Int->Nat:=λ_ x=>if x=0∨x=4∨x=8∨x=12 then 0 else 1
theorem ArL (d:c.R=4) (h:c.C=4) (g:Gh):g.val c=g.u*56+(g.o4+g.s4 0+g.s4 1+g.s4 2+g.s4 3+g.x0+g.xb 1+g.xb 2+g.xb 3+g.xr)∧g.valW c (qV 0)=g.u*14+(g.o4+g.s4 0+g.x0) ∧
  g.valW c omO=g.u*4+g.o4∧g.valW c omN=g.u*10+(g.s4 0+g.x0)∧g.valW c (qV 4)=g.u*6+(g.s4 1+g.xb 1)∧g.valW c (qV 8)=g.u*6+(g.s4 2+g.xb 2)∧g.valW c (qV 12)=g.u*6+(g.s4 3+g.xb 3)∧g.valW c omR=g.u*24+g.xr:=by
 rw[<-mQ];unfold Gh.valW Gh.TW GC.num Gh.o4 Gh.s4 Gh.x0 Gh.xb Gh.xr;rw[d,h];simp only[AwN,qV,omO,omN,omR];simp;omega
theorem ArM (a3:c.Ok) (J:g.Ok c) (hR:c.R=4) (hC:c.C=4) (ho:g.o4<4):(∃ i,i<4∧g.O i=false)∧1<=g.u∧g.x0=0∧g.xb 1=0∧g.xb 2=0∧g.xb 3=0∧g.xr=0:=by
 have Z:∃ i,i<4∧g.O i=false:=AfV λ_=>by
   have:∀ i,i<4->g.O i=true:=λi hi=>by grind
   have e:g.o4=4*1:=CV λi hi=>by rw[this i hi]; rfl
   omega
 have⟨i,hi,hO⟩:=Z;have U:∀ {b:Bool},(b=true->False)->b=false:=λ{b} hb=>by cases b; rfl; exact(hb rfl).elim
 have a2:∀ j,g.col c j=false:=λj=>decide_eq_false λZ=>by have:=(J.S i j (by omega) (Z i (by omega))).1; rw[hO] at this; cases this
 have h:∀ i j,i<4->j<4->g.E i j=false:=λi j hi hj=>U λD=>by have:=J.E i j (by omega) (by omega) D; rw[a2] at this; cases this
 have d:∀ i j,i<4->j<4->g.A i j=false:=λi j hi hj=>U λD=>by have:=J.A i j (by omega) (by omega) D; rw[h i j hi hj] at this; cases this
 have hV:∀ i,i<4->g.V i=false:=λi hi=>U λD=>by have:=of_decide_eq_true (J.V i (by omega) D) 0 (by omega); rw[d i 0 hi (by omega)] at this; cases this
 refine⟨⟨i,hi,hO⟩,Nat.pos_of_ne_zero λh0=>?_,?_⟩
 . have:=(J.z h0 i (by omega)).1; grind
 . unfold Gh.x0 Gh.xb Gh.xr;simp[AwN,h,d,hV,Gh.bt]
theorem le4 (h:c.Ok) (U:g.Ok c) (Z:c.R=4):g.o4<=4∧(∀ i,g.s4 i<=4)∧g.x0<=6∧(∀ b,g.xb b<=2)∧g.xr<=24∧g.x0+g.xb 1+g.xb 2+g.xb 3<=11:=by
 have b:=Af4;have d:∀ f:Nat->Bool,AN 4 (λi=>Gh.bt (f i))<=4:=λf=>HF (b:=1) λ_ _=>b _;have D:∀ f:Nat->Nat->Bool,AN 4 (λi=>Gh.bt (f i 1)+Gh.bt (f i 2)+Gh.bt (f i 3))<=12:=λf=>HF (b:=3) λi _=>by have:=b (f i 1); have:=b (f i 2); have:=b (f i 3); omega
 have⟨i,_,O⟩:=U.no;have hz:Gh.bt (g.V i)=0:=by rw[O]; rfl
 have J:i=0∨i=1∨i=2∨i=3:=by omega
 unfold Gh.o4 Gh.s4 Gh.x0 Gh.xb Gh.xr;have e:=d λi=>g.E i 0;have a0:=b (g.A 0 0); have v0:=b (g.V 0);refine⟨d _,λi=>d _,by omega,λi=>Nat.add_le_add (b _) (b _),Nat.add_le_add (D _) (D _),?_⟩;grind
theorem AwO (hi:∃ i,i<c.R∧g.O i=false) (h:1<=g.u):g.pend c (λf=>if f.From=((0:Nat):Int) then 1 else 0)≠0:=by have⟨i,hi,d⟩:=hi;have D:=HW (f:=g.pO c λf=>if f.From=((0:Nat):Int) then 1 else 0) hi;have e:g.pO c (λf=>if f.From=((0:Nat):Int) then 1 else 0) i=1:=(if_pos ⟨h,d⟩).trans (if_pos rfl);unfold Gh.pend;omega
theorem AwP {i j q:Nat} (hi:i<c.R) (V:j<c.C) (d:g.O i=true) (J:g.u<c.U) (h:g.S i j=false) (D:i*c.C=q):g.pend c (λf=>if f.From=(q:Int) then 1 else 0)≠0:=by have Z:=HW (f:=λi=>AN c.C (g.pS c (λf=>if f.From=(q:Int) then 1 else 0) i)) hi;have h2:=HW (f:=g.pS c (λf=>if f.From=(q:Int) then 1 else 0) i) V;have e:g.pS c (λf=>if f.From=(q:Int) then 1 else 0) i j=1:=(if_pos ⟨d,J,h⟩).trans (if_pos (by rw[<-D]; show c.num i 0=_; unfold GC.num; rfl));unfold Gh.pend;omega
theorem AkT (h:c.R=4) (d:c.C=4) (g:Gh):g.val c=g.valW c (qV 0)+g.valW c (qV 4)+g.valW c (qV 8)+g.valW c (qV 12)+g.valW c omR∧g.valW c (qV 0)=g.valW c omO+g.valW c omN∧g.valW c omO=g.u*4+g.o4:=by grind[ArL]
theorem ArN (h:c.Ok) (U:g.Ok c) (D:c.R=4) (V:c.C=4):∃ t,g.val c=g.u*56+t∧g.o4+(g.s4 1+g.s4 2+g.s4 3)<=t∧t<=55∧g.o4<=4∧(g.o4<4->t<=19):=by have⟨Z,_⟩:=ArL D V g;have⟨a1,d,_,_,_,_⟩:=le4 h U D;have a3:=d 0; have J:=d 1; have O:=d 2; have a2:=d 3;refine⟨_,Z,by omega,by omega,a1,λ_=>?_⟩;grind[ArM]
theorem Au4 (h:c.Ok) (J:g.Ok c) (d:c.R=4) (D:c.C=4) (O:g.o4<4):g.valW c (qV 4)=g.u*6+g.s4 1∧g.valW c (qV 8)=g.u*6+g.s4 2∧g.valW c (qV 12)=g.u*6+g.s4 3:=by have⟨_,_,_,_,_,_,_,_⟩:=ArL d D g;grind[ArM]
theorem ArO (a3:c.Ok) (Z:g.Ok c) (a5:g'.Ok c) (J:c.R=4) (d:c.C=4) (hU:g.u≠c.U) (D:Win c g g') (ho:g.o4<4) (hl:g'.u=g.u) :
   (g'.o4<4->g.val c+1+(g'.s4 1+g'.s4 2+g'.s4 3)<=g'.val c+(g.s4 1+g.s4 2+g.s4 3))∧(g'.o4=4->2<=g.s4 1+g.s4 2+g.s4 3∨g.val c+3<=g'.val c):=by
 have⟨_,_,_⟩:=AkT J d g;have⟨_,_,w3⟩:=AkT J d g';have mR:=D.mono omR;have hu:=Z.u;have⟨⟨i,_,hO⟩,hu1,_⟩:=ArM a3 Z J d ho;have p0:=D.go 0 (by rw[J,d]; omega) (AwO ⟨i,by omega,hO⟩ hu1);refine⟨λa2=>?_,λa2=>?_⟩
 . grind[Au4]
 . by_cases hY:2<=g.s4 1+g.s4 2+g.s4 3
   . exact .inl hY
   . right;have mN:=D.mono omN
     have h:∀ b q,b<4->b*c.C=q->g.s4 b<4->Gh.bt (g.O b)+g.valW c (qV q)<=g'.valW c (qV q):=λb q _ hq _=>by
      cases a4:g.O b with
      | false=>have:=D.mono (qV q); show 0+_<=_; omega
      | true=>
       have V:∃ j,j<4∧g.S b j=false:=AfV λ_=>by
        have:∀ j,j<4->g.S b j=true:=λj V=>by grind
        have e:g.s4 b=4*1:=CV λj V=>by rw[this j V]; rfl
        omega
       have⟨j,V,hS⟩:=V;have:=D.go q (by rw[J,d]; rw[d] at hq; omega) (AwP (i:=b) (j:=j) (by omega) (by omega) a4 (by omega) hS hq);show 1+_<=_; omega
     have p4:=h 1 4 (by omega) (by omega) (by omega); have p8:=h 2 8 (by omega) (by omega) (by omega); have a6:=h 3 12 (by omega) (by omega) (by omega);have eo:g.o4=Gh.bt (g.O 0)+Gh.bt (g.O 1)+Gh.bt (g.O 2)+Gh.bt (g.O 3):=AwN _;have:=Af4 (g.O 0);rw[hl] at w3;omega
theorem ArP (h:c.Ok) (D:c.R=4) (d:c.C=4) (O:Win c vT g'):56<=g'.val c:=by
 have hp:∀ i q,i<4->i*c.C=q->vT.valW c (qV q)<g'.valW c (qV q):=λi q _ J=>O.go q (by rw[D,d]; rw[d] at J; omega) (by rw[Av4];have Z:=HW (f:=λi=>if (c.fVote 0 i).From=(q:Int) then 1 else 0) (i:=i) (n:=c.R) (by omega);have e:(if (c.fVote 0 i).From=(q:Int) then 1 else 0)=1:=if_pos (by show c.num i 0=_; unfold GC.num; rw[<-J]; rfl);omega)
 have p0:=hp 0 0 (by omega) (by omega); have p4:=hp 1 4 (by omega) (by omega); have p8:=hp 2 8 (by omega) (by omega); have U:=hp 3 12 (by omega) (by omega);have V:vT.val c=52:=by unfold Gh.val; rw[D,d,show vT.u=0 from rfl,Ag7]; rfl
 have v:=(AkT D d vT).1;have w:=(AkT D d g').1;have mR:=O.mono omR;omega
def Gh.sv (c:GC) (g:Gh):Nat:=if g.u=0 then 0 else 2*(g.u - 1)+if g.u=c.U then 0 else if g.o4=4 then 2 else min 2 (g.s4 1+g.s4 2+g.s4 3)
theorem AwQ (c:GC) (g:Gh):g.sv c<=2*(g.u - 1)+2∧(1<=g.u->2*(g.u - 1)<=g.sv c)∧(g.u=0->g.sv c=0)∧(g.u=c.U->g.sv c=2*(g.u - 1))∧(g.o4≠4->g.sv c<=2*(g.u - 1)+(g.s4 1+g.s4 2+g.s4 3)):=by unfold Gh.sv; grind
theorem ArQ (h:c.Ok) (J:c.R=4) (O:c.C=4) {N:Nat} (hN:54*(c.U - 1)+5<N):Cnt c N λk g=>k=0∧g=vT∨k+55+g.sv c<=g.val c:=by
 have hU:=h.U_b;refine⟨.inl ⟨rfl,rfl⟩,λk g g' d a2 hw hv hk=>.inr ?_,λg d hk=>?_⟩
 . have⟨_,w1,w2,w3,_,w5⟩:=ArN h a2 J O;have⟨t1,t2,t3,t4,t5⟩:=AwQ c g';rcases hk with⟨rfl,rfl⟩ | hk
   . grind[ArP]
   . have⟨t,v1,v2,v3,v4,v5⟩:=ArN h d J O;have⟨D,Z,s3,V,s5⟩:=AwQ c g;have hu:=d.u; have a3:=a2.u;by_cases hl:g'.u=g.u
     . by_cases hUu:g.u=c.U
       . omega
       . by_cases h0:g.u=0
         . have:=t3 (by omega); omega
         . have e:g.sv c=2*(g.u - 1)+if g.o4=4 then 2 else min 2 (g.s4 1+g.s4 2+g.s4 3):=by unfold Gh.sv; rw[if_neg h0,if_neg hUu]
           have e':g'.sv c=2*(g.u - 1)+if g'.o4=4 then 2 else min 2 (g'.s4 1+g'.s4 2+g'.s4 3):=by unfold Gh.sv; rw[if_neg (by omega),if_neg (by omega),hl]
           by_cases o4:g.o4=4
           . rw[if_pos o4] at e;clear e' w1 w2 w3 w5 v1 v2 v3 v5 t2 t3 t4 t5 D Z s3 V s5;omega
           . rw[if_neg o4] at e;have⟨q1,q2⟩:=ArO h d a2 J O hUu hw (by omega) hl;by_cases o4':g'.o4=4
             . rw[if_pos o4'] at e';have:=q2 o4';clear q1 q2 w1 w2 w3 w5 v1 v2 v3 v5 t1 t2 t3 t4 t5 D Z s3 V s5;omega
             . rw[if_neg o4'] at e';have:=q1 (by omega);clear q1 q2 w1 w2 w3 w5 v1 v2 v3 v5 t1 t2 t3 t4 t5 D Z s3 V s5;omega
     all_goals grind[Gh.sv]
 . rcases hk with⟨rfl,_⟩ | hk
   . omega
   . have⟨D,Z,s3,V,s5⟩:=AwQ c g;have⟨t,v1,v2,v3,v4,v5⟩:=ArN h d J O;have hu:=d.u;by_cases hUu:g.u=c.U
     . have:=V hUu;have hv:=Av3 h d;have hT:Gh.T c=56:=by unfold Gh.T; rw[J,O]
       rw[hT,J] at hv;omega
     . omega
theorem AhX {Q:Bool->Prop} (d:Q false):CK [] Q:=by unfold CK DP;refine BV (λs=>s=(0:Int)) (λ_=>0) rfl ?_;rintro _ next rfl _;exact A0 (λh=>by simp at h) λ_=>d
theorem vU {a m:Int} (h:0<=a∧a<=m) {Q:Bool->Prop} (d:Q true):JC a m Q:=by
 unfold JC;refine A0 (λ_=>?_) λ_=>by omega
 grind
theorem An5 {c:GC} (h:c.Ok) {rm:Nat} {s:JB} (D:SuP c rm s) {N:Nat} (Z:N<=30000) {J:Nat->Gh->Prop} (U:Cnt c N J) {Q0:Int×Int×A3×AP->Prop} {d:Int×Int×A3×AP×AH->Prop}
  (V:∀ k (t:AH×A3×AP) g,GrE c t rm 900000 g->g.fin c=true->d (k,0,t.2.1,t.2.2,t.1)):N9 [] [] s [] N Q0 d:=by
 unfold N9 iH;refine eX h D (A8 rfl (A0 (λO=>by simp at O) λ_=>AhX (A8 rfl (vU (by omega) (A8 rfl (A8 rfl (Au1 h D λad W ws o H _ _=>A8 rfl ?_)))))));refine BV (λ_=>True) (λ_=>0) trivial λ_ next _ _=>A0 (λO=>by simp at O) λ_=>?_;exact ArK (s0:=(o,ws,[])) (rm:=rm) h ⟨ad,W,_,H []⟩ D.rm1 Z U (K:=λk o ws bs=>d (k,0,ws,bs,o)) V
theorem Au5 {c:GC} (h:c.Ok) {rm:Nat} {s:JB} (V:SuP c rm s) {N:Nat} (U:N<=30000) {J:Nat->Gh->Prop} (d:Cnt c N J) {Q:WO×Int->Prop} (O:∀ n m,Q (⟨⟨c.e,c.m,CU 0 c.n (c.G c.m)⟩,n,m⟩,0)):U7 s [] N Q:=by unfold U7;refine An5 h V U d λk _ _ ⟨_,_,_,D⟩ Z=>A8 rfl ?_;have F:=AwL h D Z;exact An4 h F (AwM D.bx λm=>AfB h F (A8 rfl (O m k)))
theorem An6 {n m R C:Nat} (V:m<=n) (d:1<=R∧R<=4) (U:1<=C∧C<=4) (O:¬(R=4∧C=4)):(m+1)*(2*R+3*(R*C))+R<4*(R+C+4)*(n+3):=by
 have J:(m+1)*(2*R+3*(R*C))<=(n+1)*(2*R+3*(R*C)):=wS _ (by omega);have⟨_,_⟩:=d;have⟨_,_⟩:=U;have D:R=1∨R=2∨R=3∨R=4:=by omega
 have h:C=1∨C=2∨C=3∨C=4:=by omega
 grind
theorem Au6 {c:GC} (h:c.Ok) {n:Nat} (hn:n<=23) (O:c.m<=n) (Z:c.e=1) (D:1<=c.R∧c.R<=4) (V:1<=c.C∧c.C<=4):∃ J,Cnt c (4*(c.R+c.C+4)*(n+3)) J:=by
 have d:c.U=c.m+1:=by unfold GC.U; rw[if_neg (by omega)]
 by_cases h4:c.R=4∧c.C=4
 . exact⟨_,ArQ h h4.1 h4.2 (by rw[d,h4.1,h4.2]; omega)⟩
 . exact⟨_,Au3 h (by rw[d]; exact An6 O D V h4)⟩
variable {g:Graph} {n R C s m:Nat} {p:Plan} {T:List A2}
theorem AkU (D:p.N=n) (Z:1<=n∧n<=23) (O:1<=R∧R<=4) (V:1<=C∧C<=4) (M:MRun p g ((n:Int)+1) T m 1) (hm:m<=n) {Q:WO×Int->Prop}
  (hQ:∀ a b,Q (⟨⟨1,m,CU 0 n (GS p T n m)⟩,a,b⟩,0)):U2 ⟨p,g,R,C,4,(n:Int)+1,[]⟩ ((n:Int)+1) λr=>U7 ⟨p,g,R,C,4,(n:Int)+1,[]⟩ [] r Q:=by
 have h:(⟨p,g,T,(n:Int)+1,m,1,n,[],R,C⟩:GC).Ok:=⟨M,D,by show n<=1000; omega,by show(n:Int)+1<=60; omega,⟨O.1,by show R<=5; omega⟩,⟨V.1,by show C<=5; omega⟩,by simp⟩;have U:SuP ⟨p,g,T,(n:Int)+1,m,1,n,[],R,C⟩ 4 ⟨p,g,R,C,4,(n:Int)+1,[]⟩:=⟨rfl,rfl,rfl,rfl,rfl,rfl,rfl,by omega⟩;unfold U2;refine vU (by omega) (A8 rfl (eX h U (A8 rfl ?_)));have⟨J,d⟩:=Au6 h Z.2 hm rfl O V;have d:Cnt _ (4*(R+C+4)*(n+3)) J:=d;have a2:4*(R+C+4)*(n+3)<=48*26:=Ao8 (by omega) (by omega)
 have e1:A4 ((A4 (4*(A4 ((A4 ((R:Int)+C))+4))))*(A4 ((n:Int)+1+2)))=((4*(R+C+4)*(n+3):Nat):Int):=by
  rw[A6 (x:=(R:Int)+C) (by omega) (by omega),A6 (x:=(R:Int)+C+4) (by omega) (by omega),A6 (x:=4*((R:Int)+C+4)) (by omega) (by omega),A6 (x:=(n:Int)+1+2) (by omega) (by omega)];have e:(4*((R:Int)+C+4))*((n:Int)+1+2)=((4*(R+C+4)*(n+3):Nat):Int):=by grind
  rw[e,A6 (by omega) (by omega)]
 show U7 _ [] (A4 ((A4 (4*(A4 ((A4 ((R:Int)+C))+4))))*(A4 ((n:Int)+1+2)))) _;rw[e1];exact Au5 h U (by omega) d hQ
theorem AaE (D:g.N=n) (O:1<=n∧n<=23) {Q:JB->Prop} (d:Q ⟨⟨1,n,s,0,[]⟩,g,R,C,4,(n:Int)+1,[]⟩):TO g s R C Q:=by
 unfold TO;rw[D];refine CE (λt=>t=(n:Int)+1) (λt J=>by rw[J]; exact d) λ_ h=>A0 (λ_=>h _ ?_) λh=>by omega
 rw[if_neg (by omega),A6 (by omega) (by omega)]
theorem An7 {k:Int} (hk:k=1∨k=2) (h:n<=23) (J:s<n):CD ⟨k,n,s,0,[]⟩=0:=by
 have d:¬Am4 []:=λ⟨_,D,_⟩=>by cases D
 unfold CD;grind
theorem AkV {k:Int} (hk:k=1∨k=2) (O:g.N=n) (V:1<=n∧n<=23) (U:s<n) (hl:g.Edges.length<=60) (D:F3 g=0) :
  ∃ m,MRun ⟨k,n,s,0,[]⟩ g ((n:Int)+1) (KK (UO ⟨k,n,s,0,[]⟩ g)) m 1∧AhP ⟨k,n,s,0,[]⟩ (KK (UO ⟨k,n,s,0,[]⟩ g)) n s∧m<=n∧∀ v,v<n->(GS ⟨k,n,s,0,[]⟩ (KK (UO ⟨k,n,s,0,[]⟩ g)) n m v).2.2=false:=by
 have hp:=An7 hk V.2 U;have h:=JZ D;have d:=vL (p:=⟨k,n,s,0,[]⟩) h
 have Z:AhP ⟨k,n,s,0,[]⟩ (KK (UO ⟨k,n,s,0,[]⟩ g)) n s:=⟨hp,rfl,Av2 hp O rfl D (by omega),λ_ ht=>by obtain⟨e,J,rfl⟩:=eU (DB d.2.1) ht;exact(d.2.1 e J).2.2,rfl,U⟩
 have⟨m,_,M⟩:=Aw7 (g:=g) (lim:=(n:Int)+1) hp O hl D (by omega);obtain⟨rfl,_,_⟩:=AtO Z hk (by omega) M.en;grind
theorem AaF (n:Nat) (G:GV):(CU 0 n G).A=QI n λi=>(G (0+i)).1:=rfl
theorem ArR (n:Nat) (G:GV):(CU 0 n G).B=QI n λi=>(G (0+i)).2.1:=rfl
theorem Bfs.congr {E:Nat->Nat->Prop} {L P O J:Nat->Int} (B:Bfs E n s L P) (hs:s<n) (Z:∀ u v,E u v->u<n∧v<n) (D:∀ x,x<n->O x=L x) (hP:∀ x,x<n->J x=P x):Bfs E n s O J:=by
 refine⟨by rw[D s hs]; exact B.s0,λx d=>by rw[D x d]; exact B.b x d,λx d h=>B.z x d (by rw[<-D x d]; exact h),λx d h=>?_,λu x V h=>?_⟩
 . rw[D x d] at h;have⟨u,U,_,_,_⟩:=B.par x d h;grind
 . have⟨U,d⟩:=Z u x V;rw[D u U] at h ⊢;rw[D x d]; exact B.cl u x V h
theorem Au7 (U:g.N=n) (Z:1<=n∧n<=23) (hs:s<n) (hl:g.Edges.length<=60) (hg:F3 g=0) (hR:1<=R∧R<=4) (hC:1<=C∧C<=4) {Q:List Int×List Int×Int->Prop}
   (hQ:∀ l p:List Int,l.length=n->p.length=n->Bfs (Ee (CY g.Edges)) n s (λx=>AY l x) (λx=>AY p x)->Q (l,p,0)):kV g s R C Q:=by
 have⟨m,M,RP,hm,a3⟩:=AkV (k:=1) (.inl rfl) U Z hs hl hg;have d:=JZ hg
 have a2:mE (KK (UO ⟨1,n,s,0,[]⟩ g))=Ee (CY g.Edges):=by
   have e:UO ⟨1,n,s,0,[]⟩ g=QH g:=by unfold UO; simp
   have J:=Z8 d;funext u v;have hk:=(vN (a:=(u:Int)) (b:=(v:Int)) (DB J.1)).trans ((AqY d).trans (vN (DB d)).symm);rw[e];refine propext ⟨λ⟨a,h⟩=>?_,λ⟨w,h⟩=>?_⟩
   . have⟨⟨a,b,w⟩,h',e1,e2⟩:=hk.1 ⟨_,(pB (DB J.1)).1 h,rfl,rfl⟩;simp only at e1 e2;subst e1 e2;exact⟨w,h'⟩
   . have⟨⟨a,b,w⟩,h',e1,e2⟩:=hk.2 ⟨_,h,rfl,rfl⟩;simp only at e1 e2;subst e1 e2;exact⟨w,(pB (DB J.1)).2 h'⟩
 rw[U] at d;have O:∀ u v,Ee (CY g.Edges) u v->u<n∧v<n:=λu v ⟨w,h⟩=>by have:=Y4 (G1 d) h; exact⟨this.1,this.2.1⟩
 have D:=a2.symm▸O;have B:=a2▸LInv.bfs hm (LInv.GS RP rfl (by omega) D m) a3 D;unfold kV;refine AaE U Z (AkU rfl Z hR hC M hm λa b=>A8 rfl ?_);unfold oH;refine KC (by rw[AaF,HV]; omega) (KC (by rw[ArR,HV]; omega) (hQ _ _ (by rw[AaF,HV]) (by rw[ArR,HV]) (B.congr hs O (λx V=>?_) λx V=>?_)))
 . rw[AaF,SY V,aT]
 . rw[ArR,SY V,aT]
theorem Au8 (U:g.N=n) (Z:1<=n∧n<=23) (hs:s<n) (hl:g.Edges.length<=60) (hg:F3 g=0) (hR:1<=R∧R<=4) (hC:1<=C∧C<=4) {Q:List Int×Int->Prop}
  (hQ:∀ far:List Int,far.length=n->Dist (CY g.Edges) n s (λx=>AY far x)->Q (far,0)):eI g s R C Q:=by
 have⟨m,M,V,hm,a2⟩:=AkV (k:=2) (.inr rfl) U Z hs hl hg;have J:=JZ hg;have e:UO ⟨2,n,s,0,[]⟩ g=g:=by unfold UO; simp
 have I:=PInv.GS (es:=CY g.Edges) V rfl (λu v w=>by rw[e]; exact(pB (t:=⟨v,u,w⟩) (DB J)).symm) m;have hG:=cL V.pl V.pn V.mat (by simp) m;rw[U] at J;have hE:=G1 J;have D:=PInv.dist I hE rfl hG a2;have O:∀ x,x<n->AY (CU 0 n (GS ⟨2,n,s,0,[]⟩ (KK (UO ⟨2,n,s,0,[]⟩ g)) n m)).A x=(GS ⟨2,n,s,0,[]⟩ (KK (UO ⟨2,n,s,0,[]⟩ g)) n m x).1:=λx d=>by rw[AaF,SY d,aT]
 unfold eI bF;refine AaE U Z (AkU rfl Z hR hC M hm λ_ _=>A8 rfl ?_);refine KC (by rw[AaF,HV]; omega) (hQ _ (by rw[AaF,HV]) ⟨by rw[O s hs]; exact D.s0,λx d=>by rw[O x d]; exact D.b x d,λx d h=>by rw[O x d] at h ⊢; exact D.way x d h,λu x w he=>?_⟩);have⟨hu,d,_⟩:=Y4 hE he;rw[O u hu,O x d]; exact D.rel u x w he
theorem mk4 {a m:Int} (h:0<=a∧a<=255) (J:2<=m∧m<=5):∃ k:Nat,A4 (((A4 a).tmod m)+1)=k∧1<=k∧(k:Int)<=m:=by
 have e:(A4 a).tmod m=a % m:=by rw[A6 (by omega) (by omega),ArV (by omega)]
 have d:=AiJ a (by omega:m≠0);have D:=AiD a (by omega:0<m);rw[e,A6 (by omega) (by omega)];exact⟨(a % m+1).toNat,by omega,by omega,by omega⟩
theorem AfC {k:Int} (h:1<=n) {Q:Int->Prop} (d:∀ v:Nat,v<n->Q v):FM k n Q:=
 eS (λ_=>by omega) λ_ v _ _=>by obtain⟨u,rfl⟩:∃ u:Nat,v=u:=⟨v.toNat,by omega⟩;exact d u (by omega)
theorem Au9 {a:NC} (h:YW a) {Q:Graph×Int×Int×Int->Prop} (hQ:∀ (g:Graph) (n R C v:Nat),g.N=n->(1<=n∧n<=23)->g.Edges.length<=60->F3 g=0->(1<=R∧R<=4)->(1<=C∧C<=4)->v<n->Q (g,(v:Int),(R:Int),(C:Int))):N5 a Q:=by
 have⟨_,_,hR,hC⟩:=h;have bR:=bounds_u8 hR; have bC:=bounds_u8 hC;have⟨R,eR,_,_⟩:=mk4 (a:=a.R) (m:=4) (by omega) (by omega);have⟨C,eC,_,_⟩:=mk4 (a:=a.C) (m:=4) (by omega) (by omega);unfold N5;rw[eR,eC]
 have d:∀ g:Graph,1<=g.N∧g.N<=23->g.Edges.length<=60->F3 g=0->FM a.V g.N λJ=>Q (g,J,(R:Int),(C:Int)):=λg O U Z=>by obtain⟨n,hn⟩:∃ n:Nat,g.N=n:=⟨g.N.toNat,by omega⟩;grind[AfC]
 refine AqW λg O U Z=>CE (λt=>(1<=t.1∧t.1<=23)∧t.2.length<=60∧F3 ⟨t.1,t.2⟩=0) (λt D=>d ⟨t.1,t.2⟩ D.1 D.2.1 D.2.2) λ_ h=>B5 (λe=>h _ ⟨⟨by simp,by simp⟩,by simp,by decide⟩) λe=>h _ ⟨⟨by simp only; omega,O.2⟩,U,Z⟩
theorem AcF (a0:NC) (a1:Int) (h0:YW a0) (h1:inR .i64 a1):WR a0 a1 (λr=>r=true):=by
 unfold WR;refine Au9 h0 λ_ _ _ _ s O V hl U hR hC Z=>?_;have d:=JZ U;rw[O] at d;have hE:=G1 d;dsimp only;refine Au7 O V Z hl U hR hC λ_ _ ll lp B=>Au8 O V Z hl U hC hR λfar lf D=>?_;rw[O];refine AfC V.1 λto J=>?_;have a4:=B.iff D hE (by omega) J;have a3:=B.b to J; have a2:=D.b to J;dsimp only;rw[ll,lf];refine A8 rfl (A8 rfl (BT (λh=>absurd rfl h) λ_=>BT (λh=>absurd rfl h) λ_=>AX (by omega) (by omega) (AX (by omega) (by omega) (A8 ?_ (AX (by omega) (by omega) (A0 (λ_=>?_) λ_=>?_))))))
 . grind
 . refine AX (by omega) (by omega) (B5 (λ_=>AX (by omega) (by omega) ?_) λh=>absurd B.s0 h);rw[show AY far s=0 from D.s0]; rfl
 . refine AkI ll lp (by omega) B J (by omega) λw W=>AtN O V Z J hl U lf D (by omega) λL _ _ B' W'=>AmM O (by omega) Z U (by omega) d W (by omega) D λ_ hm=>B2 rfl (AX (by omega) (by omega) (A0 (λ_=>A0 (λ_=>AX (by omega) (by omega) ?_) λh=>?_) λh=>absurd hm h))
   . rw[NY,W.len,A6 (by omega) (by omega)];grind
   . exfalso; apply h
     have hL:0<=L to:=by have⟨_,hk⟩:=D.way to J (by omega);exact B'.tight D hE hk rfl (by omega)
     have:=B.le B' (λ_ _ ⟨w,he,_⟩=>⟨w,he⟩) (L to).toNat J (by omega);rw[NY,NY,W.len,W'.len];omega
end Go.Proofs.YtieniichmjgmcaaGreat
