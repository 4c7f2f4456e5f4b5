import Derived.Test.YtkbkaodgfedfmaaGreatGrdG
namespace Go.Proofs.YtkbkaodgfedfmaaGreat
open Go Go.Fw
set_option linter.unusedVariables false
set_option linter.unusedSimpArgs false
variable {c:GC} {g:Gh}
def Gh.next (g:Gh):Gh:=⟨g.u+1,λ_=>false,λ_ _=>false,λ_ _=>false,λ_ _=>false,λ_=>false⟩
structure Gh.All (c:GC) (g:Gh):Prop where
 u:g.u<c.U
 O:∀ i,i<c.R→g.O i=true
 col:∀ j,j<c.C→g.col c j=true
 E:∀ i j,i<c.R→j<c.C→g.E i j=true
 row:∀ i,i<c.R→g.row c i=true
theorem Gh.Ok.row_all (D:g.Ok c) {i j:Nat} (hi:i<c.R) (d:j<c.C) (K:g.row c i=true):g.A i j=true∧g.E i j=true∧g.col c j=true:=by have J:=of_decide_eq_true K j d;have h:=D.A i j hi d J;exact⟨J,h,D.E i j hi d h⟩
theorem Gh.Ok.all (K:g.Ok c) (h:c.Ok) (J:∀ i,i<c.R->g.row c i=true):g.All c:=by have hC:=h.C1; have hR:=h.R1; have hU:=h.U_b;have d:∀ j,j<c.C->g.col c j=true:=λj D=>(K.row_all (show 0<c.R by omega) D (J 0 (by omega))).2.2;have V:∀ i,i<c.R->g.O i=true∧g.u<c.U:=λi hi=>K.S i 0 hi (of_decide_eq_true (d 0 (by omega)) i hi);exact⟨(V 0 (by omega)).2,λi hi=>(V i hi).1,d,λi j hi D=>(K.row_all hi D (J i hi)).2.1,J⟩
theorem Gh.next_ok (D:g.All c) (h:c.Ok):(g.next).Ok c:=by have hC:=h.C1; have hR:=h.R1;exact⟨D.u,(λi j _ d=>nomatch d),(λi j _ _ d=>nomatch d),(λi j _ _ d=>nomatch d),(λi _ d=>nomatch d),⟨0,by omega,rfl⟩,(λd=>nomatch d)⟩
theorem Gh.next_col (h:c.Ok) (j:Nat):g.next.col c j=false:=decide_eq_false λd=>nomatch (d 0 (by have:=h.R1; omega))
theorem Gh.next_row (h:c.Ok) (i:Nat):g.next.row c i=false:=decide_eq_false λd=>nomatch (d 0 (by have:=h.C1; omega))
theorem wJ (h:c.Ok) (hu:g.u<c.U) (h1:1<=g.u):c.st (g.u - 1)=0:=(h.st_go (by omega)).2 (by omega)
theorem WOk.bump (h:c.Ok) (V:g.All c) {i j:Nat} (hi:i<c.R) (hj:j<c.C) {w w':A0} (Z:WOk c g i j w) (s:Wst c i j w') (e:w'.spread=w.spread∧w'.share=w.share∧w'.shares=w.shares∧w'.waits=w.waits∧w'.begun=w.begun∧w'.round=w.round∧w'.status=w.status∧w'.has=w.has∧w'.aside=w.aside) (h1:i=0->j=0->One c g.next w'):WOk c g.next i j w':=by
 obtain⟨e1,e2,e3,e4,e5,e6,e7,e8,e9⟩:=e;refine⟨s,by rw[e1,Z.spread,V.E i j hi hj]; rfl,λJ=>?_,λJ=>?_,h1⟩
 . obtain⟨q1,q2⟩:=Z.share J;rw[V.col j hj] at q1 q2;rw[Gh.next_col h,e2,e3];refine⟨by rw[q1]; rfl,q2.ks,λk hk=>?_,(λk _ hd=>nomatch hd)⟩;obtain⟨a,_,_,hd⟩:=q2.key k hk;exact nomatch hd
 . have o:=Z.own J;have W:=V.O i hi; have K:=V.row i hi;have U:g.u>=1->c.st (g.u - 1)=0:=λh1=>wJ h V.u h1
   have D:g.next.rnd c i=g.rnd c i:=by
     unfold Gh.rnd;rw[if_pos W];show(if (false:Bool)=true then _ else g.u+1 - 2)=_;rw[if_neg (by simp)];by_cases h0:g.u=0
     . rw[h0,if_neg h.st_zero3]
     . rw[if_neg (by rw[U (by omega)]; omega)]; omega
   refine⟨by rw[e4,o.waits,W,K]; rfl,?_,by rw[e6,D]; exact o.round,?_,by rw[e8,D]; exact o.has,λd=>?_,(λ_ _ d=>nomatch d),(λ_ _ d=>nomatch d)⟩
   . rw[e5,o.begun,W]; show _=(decide (2<=g.u+1) || decide (1<=g.u+1) && false); simp; omega
   . have J:(if 1<=g.next.u∧g.next.O i=true then c.st (g.next.u - 1) else 0)=0:=if_neg (λd=>nomatch d.2);rw[J,e7,o.status];split
     . rename_i d; exact U d.1
     . rfl
   . rw[e9,o.aside (by rw[<-e4]; exact d),if_pos W]; rfl
theorem kD {κ α:Type} [DecidableEq κ] {k:κ} {v:α}:∀ {m:List (κ×α)},B9 k m=some v->(k,v)∈m
 | (k',v') :: m,h=>by
  simp only[B9] at h;split at h
  . rename_i e; rw[e,Option.some.inj h]; simp
  . exact List.mem_cons_of_mem _ (kD h)
open Classical in
theorem Ag2 (h:c.Ok) {u:Nat} (hu:u<c.U) {w:A0} (hv:w.vote=(u:Int)) (hl:w.limit=c.lim) (hm:MapR w.votes c.R (λ_=>true) (λi f=>f.N=(c.fVote u i).N∧f.Over=(c.fVote u i).Over)) {Q:Int->Prop} (Z:Q (c.st u)):ER w Q:=by
 unfold ER
 have hov:(∃ x∈w.votes,x.2.Over=true)↔∃ i,i<c.R∧c.ov u i=true:=by
   constructor
   . rintro⟨x,D,d⟩;obtain⟨i,h1,_,_,h2,h3⟩:=hm.mem D;exact⟨i,h1,by rw[h3] at d; exact d⟩
   . rintro⟨i,hi,d⟩;obtain⟨v,h1,h2,h3⟩:=hm.get i hi rfl;have K:((i:Int),v)∈w.votes:=kD h1;exact⟨((i:Int),v),K,by show v.Over=true; rw[h3]; exact d⟩
 have hlv:¬(∃ i,i<c.R∧c.ov u i=true)->((∃ x∈w.votes,x.2.N≠0)↔¬ ∀ i,i<c.R->c.lv u i=0):=by
   intro hno;have hN:∀ i,i<c.R->(c.fVote u i).N=c.lv u i:=λi hi=>if_neg λd=>hno ⟨i,hi,d⟩;constructor
   . rintro⟨x,D,d⟩ hz;obtain⟨i,h1,_,_,h2,h3⟩:=hm.mem D;exact d (by rw[h2,hN i h1,hz i h1])
   . intro hz;rcases Classical.em (∃ i,i<c.R∧c.lv u i≠0) with⟨i,hi,J⟩ | D
     . obtain⟨v,h1,h2,h3⟩:=hm.get i hi rfl;exact⟨((i:Int),v),kD h1,by show v.N≠0; rw[h2,hN i hi]; exact J⟩
     . exact absurd (λi hi=>Classical.byContradiction λJ=>D ⟨i,hi,J⟩) hz
 have O:=h.counts hu;refine DC (λs=>((s.2.1=true∨∃ x∈s.1,x.2.Over=true)↔∃ x∈w.votes,x.2.Over=true)∧((s.2.2=true∨∃ x∈s.1,x.2.N≠0)↔∃ x∈w.votes,x.2.N≠0)) (λs=>s.1.length) (by simp) ?_;rintro⟨l,ov,lv⟩ next ⟨W,V⟩ hn;simp only at W V hn;refine YM (λD=>?_) (λp r hp=>?_)
 . subst D;simp only[List.not_mem_nil,false_and,exists_false,or_false] at W V;by_cases d:∃ i,i<c.R∧c.ov u i=true
   . rw[if_pos d] at O; rw[O] at Z;exact AU (W.2 (hov.2 d)) Z
   . rw[if_neg d] at O;have hf:ov=false:=by cases hb:ov with | false=>rfl | true=>exact absurd (hov.1 (W.1 hb)) d
     refine AC hf ?_;by_cases hz:∀ i,i<c.R->c.lv u i=0
     . rw[if_pos hz] at O; rw[O] at Z;have hl0:lv=false:=by cases hb:lv with | false=>rfl | true=>exact absurd hz ((hlv d).1 (V.1 hb))
       exact AU (by rw[hl0]; rfl) Z
     . rw[if_neg hz] at O;have hl1:=V.2 ((hlv d).2 hz);refine AC (by rw[hl1]; rfl) (AV (λhe=>?_) (λhe=>?_))
       . rw[hv,hl] at he; rw[if_pos he] at O; rw[O] at Z; exact Z
       . rw[hv,hl] at he; rw[if_neg he] at O; rw[O] at Z; exact Z
 . have hlen:=hp.length_eq
   have K:∀ (P:Int×AA->Prop),(∃ x∈l,P x)↔P p∨∃ x∈r,P x:=λP=>by
     constructor
     . rintro⟨x,D,hP⟩;rcases List.mem_cons.1 (hp.mem_iff.1 D) with rfl | D
       . exact .inl hP
       . exact .inr ⟨x,D,hP⟩
     . rintro(hP | ⟨x,D,hP⟩)
       . exact⟨p,hp.mem_iff.2 (by simp),hP⟩
       . exact⟨x,hp.mem_iff.2 (by simp[D]),hP⟩
   rw[K] at W V;have J:(p.2.N != 0)=true↔p.2.N≠0:=by simp
   simp only[List.length_cons] at hlen;cases ov <;> cases lv <;> simp only[Bool.false_eq_true,false_or,true_or] at W V
   . refine AC rfl (AC rfl (hn _ ⟨W,?_⟩ (by simp only; omega)));simp only[J]; exact V
   . exact AC rfl (AU rfl (hn _ ⟨W,by simpa using V⟩ (by simp only; omega)))
   . refine AU rfl (AC rfl (hn _ ⟨by simpa using W,?_⟩ (by simp only; omega)));simp only[J]; exact V
   . exact AU rfl (AU rfl (hn _ ⟨by simpa using W,by simpa using V⟩ (by simp only; omega)))
theorem AeC (h:c.Ok) (hg:g.Ok c) {i:Nat} (hi:i<c.R) {w:A0} (hw:WOk c g 0 0 w) (hu:g.u<c.U) (hrow:g.row c i=true) (hV:g.V i=false) {f:AA} (hr:f.Round=(g.u:Int)) (hn:f.N=(c.fVote g.u i).N) (ho:f.Over=(c.fVote g.u i).Over) (hl:w.out.length<=1000) {Q:Bool×A0->Prop}
   (hQ1:(∃ k,k<c.R∧GM g.V i k=false)->∀ w',WOk c { g with V:=GM g.V i } 0 0 w'->w'.out=w.out->Q (true,w'))
   (hQ2:(∀ k,k<c.R->GM g.V i k=true)->∀ w',WOk c g.next 0 0 w'->w'.out=w.out++(List.range c.R).map (c.fOrder g.u)->Q (true,w')):E6 w f ⟨i,0⟩ Q:=by
 have d:=hw.st;have q:=hw.one rfl rfl;have hR:=h.R1; have hC:=h.C1; have hUb:=h.U_b;have hno:=q.votes.no hV;have hput:=q.votes.put (v:=f) hi hV ⟨hn,ho⟩;have hf:=hput.full
 have hcl:w.closed=false:=by rw[q.closed];exact decide_eq_false λhx=>hx.2 (wJ h hu hx.1)
 unfold E6;refine dD (λv hx=>by rw[show B9 (i:Int) w.votes=none from hno] at hx; cases hx) λ_=>AC rfl (AC (by rw[d.pl]; rfl) (AC hcl (BI (λh'=>absurd rfl h') λ_=>BI (λh'=>absurd (by rw[hr,q.vote]) h') λ_=>?_)));dsimp only;have hgi:w.grid.i=(c.R:Int):=by rw[d.gr]
 refine A1 (λhlt=>?_) (λhge=>?_)
 . refine hQ1 ((hf.1 (by omega)).imp λk hk=>hk) _ ?_ rfl;refine⟨⟨d.pl,d.pn,d.gr,d.lm,d.ch,d.ro,d.co⟩,hw.spread,hw.share,λhz=>?_,λ_ _=>⟨q.vote,hput,q.closed⟩⟩;have o:=hw.own hz;exact⟨o.waits,o.begun,o.round,o.status,o.has,o.aside,o.sums,o.came⟩
 . have hall:∀ k,k<c.R->GM g.V i k=true:=λk hk=>by
     cases hd:GM g.V i k with
     | true=>rfl
     | false=>exact absurd (hf.2 ⟨k,hk,hd⟩) (by omega)
   have hra:∀ k,k<c.R->g.row c k=true:=λk hk=>by
     have:=hall k hk;unfold GM at this;split at this
     . rename_i e; rw[e]; exact hrow
     . exact hg.V k hk this
   have ha:=hg.all h hra;refine Ag2 (w:={ w with votes:=DK (i:Int) f w.votes }) h hu q.vote d.lm (hput.congr (λk hk=>(hall k hk).symm) λk v _ hv=>hv) ?_;obtain⟨pl,pn,gr,lm,ch,ro,co,out,W,K,O,round,J,has,Z,waits,begun,sums,came,vote,votes,closed⟩:=w;obtain⟨w1,w2,w3,w4,w5,w6,w7⟩:=d;have D:=q.vote;simp only at w1 w2 w3 w4 w5 w6 w7 hl hQ1 hQ2 D hgi;subst w1 w2 w3 w4 w5 w6 w7;refine AD (σ:=List AA) (τ:=A0×Int) (λs k=>(⟨⟨(0:Nat),(0:Nat)⟩,c.p,⟨c.R,c.C⟩,c.lim,c.ch,c.rows 0 0,c.cols 0 0,s,W,K,O,round,J,has,Z,waits,begun,sums,came,vote,DK (i:Int) f votes,closed⟩,k)) 0 c.R (s0:=out) (by omega) (λk s=>s=out++(List.range k).map (c.fOrder g.u)) (by omega) (by simp) (λk s next _ hk d hn=>?_) (λs next d=>?_)
   . subst d;refine A1 (λ_=>?_) (λh'=>absurd (show(k:Int)<c.R by omega) h');refine WA (a:=k) (b:=0) rfl hC (by omega) (by omega) ?_;refine kB (i:=0) (j:=0) h ⟨rfl,rfl,rfl,rfl,rfl,rfl,rfl⟩ (by omega) (by omega) (by simp; omega) (hn _ ?_);rw[List.range_succ,List.map_append,<-List.append_assoc];show _=_++[c.fOrder g.u k];unfold GC.fOrder;rw[ZE,D];rfl
   . subst d;refine A1 (λh'=>absurd (show(c.R:Int)<c.R from h') (by omega)) (λ_=>?_);refine hQ2 hall _ ?_ rfl
     have o1:One c g.next (⟨⟨(0:Nat),(0:Nat)⟩,c.p,⟨c.R,c.C⟩,c.lim,c.ch,c.rows 0 0,c.cols 0 0,out++(List.range c.R).map (c.fOrder g.u),W,K,O,round,J,has,Z,waits,begun,sums,came,A6 (vote+1),[],c.st g.u != 0⟩:A0):=by
       refine⟨?_,MapR.nil _ _ λk _=>rfl,?_⟩
       . show A6 (vote+1)=((g.u+1:Nat):Int);rw[D,AB (by omega) (by omega)]; omega
       . show(c.st g.u != 0)=decide (1<=g.u+1∧c.st (g.u+1 - 1)≠0);have:g.u+1 - 1=g.u:=by omega
         rw[this];by_cases hz:c.st g.u=0 <;> simp[hz]
     exact WOk.bump h ha (by omega) (by omega) hw ⟨rfl,rfl,rfl,rfl,rfl,rfl,rfl⟩ ⟨rfl,rfl,rfl,rfl,rfl,rfl,rfl,rfl,rfl⟩ λ_ _=>o1
def AQ:Nat->(Nat->Nat)->Nat
 | 0,_=>0
 | n+1,f=>AQ n f+f n
theorem IU {f f':Nat->Nat}:∀ {n:Nat},(∀ i,i<n->f' i=f i)->AQ n f'=AQ n f
 | 0,_=>rfl
 | n+1,h=>by show AQ n f'+f' n=AQ n f+f n; rw[IU (n:=n) λi hi=>h i (by omega),h n (by omega)]
theorem GF {f f':Nat->Nat} {i:Nat}:∀ {n:Nat},i<n->(∀ k,k<n->k≠i->f' k=f k)->AQ n f'+f i=AQ n f+f' i
 | n+1,hi,h=>by
  show AQ n f'+f' n+f i=AQ n f+f n+f' i;by_cases e:i=n
  . subst e; rw[IU (f:=f) (f':=f') λk hk=>h k (by omega) (by omega)]; omega
  . have:=GF (n:=n) (f:=f) (f':=f') (i:=i) (by omega) λk hk=>h k (by omega);rw[h n (by omega) (λd=>e d.symm)]; omega
theorem PC (n b:Nat):AQ n (λ_=>b)=n*b:=by
 induction n with
 | zero=>simp[AQ]
 | succ n d=>show AQ n _+b=_; rw[d,Nat.succ_mul]
theorem BV {n b:Nat} {f:Nat->Nat} (h:∀ i,i<n->f i=b):AQ n f=n*b:=by rw[<-PC]; exact IU h
theorem QE {f:Nat->Nat} {n:Nat} (h:AQ n f≠0):∃ i,i<n∧f i≠0:=by
 rcases Classical.em (∃ i,i<n∧f i≠0) with d | d
 . exact d
 . refine absurd ((BV (b:=0) λi hi=>?_).trans (Nat.mul_zero n)) h;exact Classical.byContradiction λD=>d ⟨i,hi,D⟩
theorem KY {f:Nat->Nat} {i:Nat}:∀ {n:Nat},i<n->f i<=AQ n f
 | n+1,hi=>by
  show _<=AQ n f+f n;by_cases e:i=n
  . subst e; omega
  . have:=KY (n:=n) (f:=f) (show i<n by omega); omega
theorem KZ {f:Nat->Nat} {b:Nat}:∀ {n:Nat},(∀ i,i<n->f i<=b)->AQ n f<=n*b
 | 0,_=>by simp[AQ]
 | n+1,h=>by have:=KZ (n:=n) (f:=f) λi hi=>h i (by omega);have:=h n (by omega);show AQ n f+f n<=_; rw[Nat.succ_mul]; omega
theorem L0 {R C:Nat} {f f':Nat->Nat->Nat} {i j:Nat} (hi:i<R) (J:j<C) (h:∀ a b,a<R->b<C->¬(a=i∧b=j)->f' a b=f a b):AQ R (λa=>AQ C (f' a))+f i j=AQ R (λa=>AQ C (f a))+f' i j:=by have h1:=GF (n:=R) (f:=λa=>AQ C (f a)) (f':=λa=>AQ C (f' a)) hi λa K d=>IU λb D=>h a b K D λe=>d e.1;have h2:=GF (n:=C) (f:=f i) (f':=f' i) J λb D d=>h i b hi D λe=>d e.2;omega
def wt (φ:AA->Nat):List AA->Nat
 | []=>0
 | f :: l=>φ f+wt φ l
theorem wK (φ:AA->Nat):∀ (l m:List AA),wt φ (l++m)=wt φ l+wt φ m
 | [],m=>by simp[wt]
 | f :: l,m=>by show φ f+wt φ (l++m)=φ f+wt φ l+wt φ m; rw[wK φ l m]; omega
theorem AcB (φ:AA->Nat) (F:Nat->AA) (n:Nat):wt φ ((List.range n).map F)=AQ n λi=>φ (F i):=by
 induction n with
 | zero=>rfl
 | succ n d=>rw[List.range_succ,List.map_append,wK,d]; simp[wt,AQ]
theorem AcC:∀ (l:List AA),wt (λ_=>1) l=l.length
 | []=>rfl
 | f :: l=>by show 1+wt _ l=_; rw[AcC l,List.length_cons]; omega
theorem Aj5 {φ:AA->Nat} {f:AA}:∀ {l:List AA},f∈l->φ f<=wt φ l
 | x :: l,h=>by
  show _<=φ x+wt φ l;rcases List.mem_cons.1 h with rfl | h
  . omega
  . have:=Aj5 (φ:=φ) h; omega
section
variable (c:GC) (φ:AA→Nat) (g:Gh)
def Gh.pO (i:Nat):Nat:=if 1<=g.u∧g.O i=false then φ (c.fOrder (g.u - 1) i) else 0
def Gh.pS (i j:Nat):Nat:=if g.O i=true∧g.u<c.U∧g.S i j=false then φ (c.fShare g.u i j) else 0
def Gh.pE (j i:Nat):Nat:=if g.col c j=true∧g.E i j=false then φ (c.fSpread g.u j i) else 0
def Gh.pA (i j:Nat):Nat:=if g.E i j=true∧g.A i j=false then φ (c.fGather g.u i j) else 0
noncomputable def Gh.pV (i:Nat):Nat:=if g.row c i=true∧g.V i=false then φ (c.fVote g.u i) else 0
noncomputable def Gh.pend:Nat:=AQ c.R (g.pO c φ)+AQ c.R (λi=>AQ c.C (g.pS c φ i))+AQ c.C (λj=>AQ c.R (g.pE c φ j))+AQ c.R (λi=>AQ c.C (g.pA c φ i))+AQ c.R (g.pV c φ)
def Gh.Pend (f:AA):Prop:=
 (∃ i,i<c.R∧1<=g.u∧g.O i=false∧f=c.fOrder (g.u - 1) i)∨(∃ i j,i<c.R∧j<c.C∧g.O i=true∧g.u<c.U∧g.S i j=false∧f=c.fShare g.u i j) ∨
 (∃ j i,j<c.C∧i<c.R∧g.col c j=true∧g.E i j=false∧f=c.fSpread g.u j i)∨(∃ i j,i<c.R∧j<c.C∧g.E i j=true∧g.A i j=false∧f=c.fGather g.u i j) ∨
 ∃ i,i<c.R∧g.row c i=true∧g.V i=false∧f=c.fVote g.u i
theorem Gh.pend_in {f:AA} (h:g.pend c (λx=>if x=f then 1 else 0)≠0):g.Pend c f:=by
 have D:∀ {p:Prop} [Decidable p] {x:AA},(if p then (if x=f then 1 else 0) else 0)≠0->p∧f=x:=by
   intro p _ x d;split at d
   . rename_i hp; split at d
     . rename_i e; exact⟨hp,e.symm⟩
     . exact absurd rfl d
   . exact absurd rfl d
 unfold pend at h;rcases Nat.eq_zero_or_pos (AQ c.R (g.pV c λx=>if x=f then 1 else 0)) with W | W
 . rcases Nat.eq_zero_or_pos (AQ c.R λi=>AQ c.C (g.pA c (λx=>if x=f then 1 else 0) i)) with V | V
   . rcases Nat.eq_zero_or_pos (AQ c.C λj=>AQ c.R (g.pE c (λx=>if x=f then 1 else 0) j)) with U | U
     . rcases Nat.eq_zero_or_pos (AQ c.R λi=>AQ c.C (g.pS c (λx=>if x=f then 1 else 0) i)) with J | J
       . obtain⟨i,hi,d⟩:=QE (by omega:AQ c.R (g.pO c λx=>if x=f then 1 else 0)≠0);obtain⟨⟨K,J⟩,e⟩:=D d;exact .inl ⟨i,hi,K,J,e⟩
       . obtain⟨i,hi,d⟩:=QE (by omega:(AQ c.R λi=>AQ c.C (g.pS c (λx=>if x=f then 1 else 0) i))≠0);obtain⟨j,O,d⟩:=QE d;obtain⟨⟨K,J,U⟩,e⟩:=D d;exact .inr (.inl ⟨i,j,hi,O,K,J,U,e⟩)
     . obtain⟨j,O,d⟩:=QE (by omega:(AQ c.C λj=>AQ c.R (g.pE c (λx=>if x=f then 1 else 0) j))≠0);obtain⟨i,hi,d⟩:=QE d;obtain⟨⟨K,J⟩,e⟩:=D d;exact .inr (.inr (.inl ⟨j,i,O,hi,K,J,e⟩))
   . obtain⟨i,hi,d⟩:=QE (by omega:(AQ c.R λi=>AQ c.C (g.pA c (λx=>if x=f then 1 else 0) i))≠0);obtain⟨j,O,d⟩:=QE d;obtain⟨⟨K,J⟩,e⟩:=D d;exact .inr (.inr (.inr (.inl ⟨i,j,hi,O,K,J,e⟩)))
 . obtain⟨i,hi,d⟩:=QE (by omega:AQ c.R (g.pV c λx=>if x=f then 1 else 0)≠0);obtain⟨⟨K,J⟩,e⟩:=D d;exact .inr (.inr (.inr (.inr ⟨i,hi,K,J,e⟩)))
def Gh.bt (b:Bool):Nat:=if b=true then 1 else 0
def Gh.T:Nat:=2*c.R+3*(c.R*c.C)
def Gh.val:Nat:=g.u*T c+(AQ c.R (λi=>bt (g.O i))+AQ c.R (λi=>AQ c.C λj=>bt (g.S i j))+AQ c.R (λi=>AQ c.C λj=>bt (g.E i j))+AQ c.R (λi=>AQ c.C λj=>bt (g.A i j))+AQ c.R λi=>bt (g.V i))
open Classical in
noncomputable def Gh.nh:Nat:=if g.u<=1 then 1 else if (∀ i,i<c.R->g.O i=true)∧c.st (g.u - 1)≠3 then g.u else g.u - 1
end
variable {c:GC} {g:Gh}
theorem Aj6 (b:Bool):Gh.bt b<=1:=by unfold Gh.bt; split <;> omega
theorem T_b (h:c.Ok):Gh.T c<=85∧c.R*c.C<=25:=by have d:=h.R1; have D:=h.C1;have:c.R*c.C<=5*5:=Nat.mul_le_mul d.2 D.2;unfold Gh.T; omega
theorem AnX (h:c.Ok) (D:g.Ok c):g.val c<=3570:=by
 have hb:=T_b h; have hU:=h.U_b; have hu:=D.u;have h1:g.u*Gh.T c<=41*85:=Nat.mul_le_mul (by omega) (by omega);have e1:=KZ (n:=c.R) (f:=λi=>Gh.bt (g.O i)) (b:=1) λi _=>Aj6 _;have e5:=KZ (n:=c.R) (f:=λi=>Gh.bt (g.V i)) (b:=1) λi _=>Aj6 _;have d:∀ (f:Nat->Nat->Bool),AQ c.R (λi=>AQ c.C λj=>Gh.bt (f i j))<=c.R*c.C:=λf=>KZ λi _=>by have:=KZ (n:=c.C) (f:=λj=>Gh.bt (f i j)) (b:=1) λj _=>Aj6 _; omega
 have:=d g.S; have:=d g.E; have:=d g.A;unfold Gh.val;unfold Gh.T at *;omega
theorem AkQ (h:c.Ok):g.pend c (λ_=>1)<=85:=by
 have hb:=T_b h;have hi:∀ {p:Prop} [Decidable p],(if p then 1 else 0)<=1:=λ{p} _=>by split <;> omega
 have e1:=KZ (n:=c.R) (f:=g.pO c λ_=>1) (b:=1) λi _=>hi;have e5:=KZ (n:=c.R) (f:=g.pV c λ_=>1) (b:=1) λi _=>hi;have e2:AQ c.R (λi=>AQ c.C (g.pS c (λ_=>1) i))<=c.R*c.C:=KZ λi _=>by have:=KZ (n:=c.C) (f:=g.pS c (λ_=>1) i) (b:=1) λj _=>hi; omega
 have e4:AQ c.R (λi=>AQ c.C (g.pA c (λ_=>1) i))<=c.R*c.C:=KZ λi _=>by have:=KZ (n:=c.C) (f:=g.pA c (λ_=>1) i) (b:=1) λj _=>hi; omega
 have d:AQ c.C (λj=>AQ c.R (g.pE c (λ_=>1) j))<=c.C*c.R:=KZ λi _=>by have:=KZ (n:=c.R) (f:=g.pE c (λ_=>1) i) (b:=1) λj _=>hi; omega
 rw[Nat.mul_comm c.C] at d;unfold Gh.pend;unfold Gh.T at *;omega
theorem AmG {f:Nat->Bool} {i a:Nat} (h:f a=true):GM f i a=true:=by unfold GM; split <;> simp_all
theorem AcD {f:Nat->Nat->Bool} {i j a b:Nat} (h:f a b=true):DL f i j a b=true:=by unfold DL; split <;> simp_all
theorem pX (f:Nat->Bool) (i:Nat):GM f i i=true:=if_pos rfl
theorem dS (f:Nat->Nat->Bool) (i j:Nat):DL f i j i j=true:=if_pos ⟨rfl,rfl⟩
theorem XG {f:Nat->Bool} {i a:Nat} (h:a≠i):GM f i a=f a:=if_neg h
theorem MC {f:Nat->Nat->Bool} {i j a b:Nat} (h:¬(a=i∧b=j)):DL f i j a b=f a b:=if_neg h
structure AcE (c:GC) (g g':Gh) (f:AA) (N:List AA):Prop where
 ok:g'.Ok c
 w:∀ φ,g'.pend c φ+φ f=g.pend c φ+wt φ N
 v:g'.val c=g.val c+1
 h:g'.nh c=g.nh c∨g'.nh c=g.nh c+1∧∀ i,i<c.R→g'.rnd c i=g.nh c
theorem AmH (h:c.Ok) (D:g.Ok c) {i:Nat} (hi:i<c.R) (hu:1<=g.u) (W:g.O i=false):AcE c g { g with O:=GM g.O i } (c.fOrder (g.u - 1) i) (if g.u<c.U then (List.range c.C).map (c.fShare g.u i) else []):=by
 have hS:∀ j,g.S i j=false:=λj=>by
   cases d:g.S i j with
   | false=>rfl
   | true=>have:=(D.S i j hi d).1; rw[W] at this; cases this
 refine⟨⟨D.u,λa b Z d=>⟨AmG (D.S a b Z d).1,(D.S a b Z d).2⟩,D.E,D.A,D.V,D.no,λh0=>absurd (show g.u=0 from h0) (by omega)⟩,λφ=>?_,?_,?_⟩
 . have J:=GF (n:=c.R) (f:=g.pO c φ) (f':=({ g with O:=GM g.O i }:Gh).pO c φ) hi λk _ hk=>by unfold Gh.pO; simp only; rw[XG hk]
   have h2:=GF (n:=c.R) (f:=λa=>AQ c.C (g.pS c φ a)) (f':=λa=>AQ c.C (({ g with O:=GM g.O i }:Gh).pS c φ a)) hi λk _ hk=>by unfold Gh.pS; simp only; rw[XG hk]
   have e1:g.pO c φ i=φ (c.fOrder (g.u - 1) i):=if_pos ⟨hu,W⟩;have e2:({ g with O:=GM g.O i }:Gh).pO c φ i=0:=if_neg λd=>by have K:GM g.O i i=false:=d.2; rw[pX] at K; cases K
   have e3:AQ c.C (g.pS c φ i)=0:=(BV (b:=0) λj _=>if_neg λd=>by have K:=d.1; rw[W] at K; cases K).trans (Nat.mul_zero _)
   have e4:AQ c.C (({ g with O:=GM g.O i }:Gh).pS c φ i)=wt φ (if g.u<c.U then (List.range c.C).map (c.fShare g.u i) else []):=by
     split
     . rename_i hlt;rw[AcB];exact IU λj _=>if_pos ⟨pX _ _,hlt,hS j⟩
     . rename_i hge;exact(BV (b:=0) λj _=>if_neg λd=>hge d.2.1).trans (Nat.mul_zero _)
   simp only[e1,e2,e3,e4] at J h2;show AQ c.R (({ g with O:=GM g.O i }:Gh).pO c φ)+AQ c.R (λa=>AQ c.C (({ g with O:=GM g.O i }:Gh).pS c φ a))+AQ c.C (λj=>AQ c.R (g.pE c φ j))+AQ c.R (λi=>AQ c.C (g.pA c φ i))+AQ c.R (g.pV c φ)+_=_;unfold Gh.pend;omega
 . have J:=GF (n:=c.R) (f:=λa=>Gh.bt (g.O a)) (f':=λa=>Gh.bt (GM g.O i a)) hi λk _ hk=>by rw[XG hk]
   simp only[pX,W] at J;have e1:Gh.bt false=0:=rfl;have e2:Gh.bt true=1:=rfl;unfold Gh.val;simp only;omega
 . unfold Gh.nh;rw[if_neg (c:=(∀ a,a<c.R->g.O a=true)∧c.st (g.u - 1)≠3) λd=>by have:=d.1 i hi; rw[W] at this; cases this];by_cases J:g.u<=1
   . left; rw[if_pos J,if_pos (show({ g with O:=GM g.O i }:Gh).u<=1 from J)]
   . rw[if_neg J,if_neg (show ¬({ g with O:=GM g.O i }:Gh).u<=1 from J)];split
     . rename_i d;right;refine⟨by show g.u=g.u - 1+1; omega,λa Z=>?_⟩;unfold Gh.rnd;rw[if_pos (d.1 a Z),if_neg d.2]
     . exact .inl rfl
theorem AmI (h:c.Ok) (K:g.Ok c) {i j:Nat} (hi:i<c.R) (hj:j<c.C) (hO:g.O i=true) (hu:g.u<c.U) (hS:g.S i j=false):AcE c g { g with S:=DL g.S i j } (c.fShare g.u i j) (if ({ g with S:=DL g.S i j }:Gh).col c j=true then (List.range c.R).map (c.fSpread g.u j) else []):=by
 have J:g.col c j=false:=decide_eq_false λd=>by have:=d i hi; rw[hS] at this; cases this
 have hcm:∀ b,g.col c b=true->({ g with S:=DL g.S i j }:Gh).col c b=true:=λb d=>decide_eq_true λa D=>AcD (of_decide_eq_true d a D);have hco:∀ b,b≠j->({ g with S:=DL g.S i j }:Gh).col c b=g.col c b:=λb hb=>by unfold Gh.col; simp only[MC (f:=g.S) (i:=i) (j:=j) (b:=b) (λe=>hb e.2)]
 have hE:∀ a,a<c.R->g.E a j=false:=λa D=>by
   cases d:g.E a j with
   | false=>rfl
   | true=>have:=K.E a j D hj d; rw[J] at this; cases this
 refine⟨⟨K.u,λa b D d=>?_,λa b D hb d=>hcm b (K.E a b D hb d),K.A,K.V,K.no,K.z⟩,λφ=>?_,?_,.inl rfl⟩
 . by_cases e:a=i∧b=j
   . rw[e.1]; exact⟨hO,hu⟩
   . exact K.S a b D (by rw[<-MC (f:=g.S) e]; exact d)
 . have h1:=L0 (f:=g.pS c φ) (f':=({ g with S:=DL g.S i j }:Gh).pS c φ) hi hj λa b _ _ W=>by unfold Gh.pS; simp only; rw[MC W]
   have h2:=GF (n:=c.C) (f:=λb=>AQ c.R (g.pE c φ b)) (f':=λb=>AQ c.R (({ g with S:=DL g.S i j }:Gh).pE c φ b)) hj λk _ hk=>by unfold Gh.pE; rw[hco k hk]
   have e1:g.pS c φ i j=φ (c.fShare g.u i j):=if_pos ⟨hO,hu,hS⟩;have e2:({ g with S:=DL g.S i j }:Gh).pS c φ i j=0:=if_neg λd=>by have Z:DL g.S i j i j=false:=d.2.2; rw[dS] at Z; cases Z
   have e3:AQ c.R (g.pE c φ j)=0:=(BV (b:=0) λa _=>if_neg λd=>by have Z:=d.1; rw[J] at Z; cases Z).trans (Nat.mul_zero _)
   have e4:AQ c.R (({ g with S:=DL g.S i j }:Gh).pE c φ j)=wt φ (if ({ g with S:=DL g.S i j }:Gh).col c j=true then (List.range c.R).map (c.fSpread g.u j) else []):=by
     split
     . rename_i hlt;rw[AcB];exact IU λa D=>if_pos ⟨hlt,hE a D⟩
     . rename_i hge;exact(BV (b:=0) λa _=>if_neg λd=>hge d.1).trans (Nat.mul_zero _)
   simp only[e1,e2,e3,e4] at h1 h2;show AQ c.R (g.pO c φ)+AQ c.R (λa=>AQ c.C (({ g with S:=DL g.S i j }:Gh).pS c φ a))+AQ c.C (λb=>AQ c.R (({ g with S:=DL g.S i j }:Gh).pE c φ b))+AQ c.R (λi=>AQ c.C (g.pA c φ i))+AQ c.R (g.pV c φ)+_=_;unfold Gh.pend;omega
 . have h1:=L0 (f:=λa b=>Gh.bt (g.S a b)) (f':=λa b=>Gh.bt (DL g.S i j a b)) hi hj λa b _ _ W=>by rw[MC W]
   simp only[dS,hS] at h1;have e1:Gh.bt false=0:=rfl;have e2:Gh.bt true=1:=rfl;unfold Gh.val;simp only;omega
theorem AmJ (h:c.Ok) (J:g.Ok c) {i j:Nat} (hi:i<c.R) (O:j<c.C) (hc:g.col c j=true) (U:g.E i j=false):AcE c g { g with E:=DL g.E i j } (c.fSpread g.u j i) [c.fGather g.u i j]:=by
 have hA:g.A i j=false:=by
   cases D:g.A i j with
   | false=>rfl
   | true=>have:=J.A i j hi O D; rw[U] at this; cases this
 refine⟨⟨J.u,J.S,λa b ha Z D=>?_,λa b ha Z D=>AcD (J.A a b ha Z D),J.V,J.no,J.z⟩,λφ=>?_,?_,.inl rfl⟩
 . by_cases e:a=i∧b=j
   . rw[e.2]; exact hc
   . exact J.E a b ha Z (by rw[<-MC (f:=g.E) e]; exact D)
 . have W:=L0 (f:=g.pE c φ) (f':=({ g with E:=DL g.E i j }:Gh).pE c φ) O hi λb a _ _ d=>by unfold Gh.pE; simp only; rw[MC λe=>d ⟨e.2,e.1⟩]; rfl
   have h2:=L0 (f:=g.pA c φ) (f':=({ g with E:=DL g.E i j }:Gh).pA c φ) hi O λa b _ _ d=>by unfold Gh.pA; simp only; rw[MC d]
   have e1:g.pE c φ j i=φ (c.fSpread g.u j i):=if_pos ⟨hc,U⟩;have e2:({ g with E:=DL g.E i j }:Gh).pE c φ j i=0:=if_neg λD=>by have K:DL g.E i j i j=false:=D.2; rw[dS] at K; cases K
   have e3:g.pA c φ i j=0:=if_neg λD=>by have K:=D.1; rw[U] at K; cases K
   have e4:({ g with E:=DL g.E i j }:Gh).pA c φ i j=φ (c.fGather g.u i j):=if_pos ⟨dS _ _ _,hA⟩;rw[e1,e2] at W; rw[e3,e4] at h2;show AQ c.R (g.pO c φ)+AQ c.R (λa=>AQ c.C (g.pS c φ a))+AQ c.C (λb=>AQ c.R (({ g with E:=DL g.E i j }:Gh).pE c φ b))+AQ c.R (λi'=>AQ c.C (({ g with E:=DL g.E i j }:Gh).pA c φ i'))+AQ c.R (g.pV c φ)+_=_;unfold Gh.pend;simp only[wt];omega
 . have W:=L0 (f:=λa b=>Gh.bt (g.E a b)) (f':=λa b=>Gh.bt (DL g.E i j a b)) hi O λa b _ _ d=>by rw[MC d]
   simp only[dS,U] at W;have e1:Gh.bt false=0:=rfl;have e2:Gh.bt true=1:=rfl;unfold Gh.val;simp only;omega
theorem AmK (h:c.Ok) (J:g.Ok c) {i j:Nat} (hi:i<c.R) (Z:j<c.C) (hE:g.E i j=true) (hA:g.A i j=false):AcE c g { g with A:=DL g.A i j } (c.fGather g.u i j) (if ({ g with A:=DL g.A i j }:Gh).row c i=true then [c.fVote g.u i] else []):=by
 have K:g.row c i=false:=decide_eq_false λd=>by have:=d j Z; rw[hA] at this; cases this
 have U:∀ a,g.row c a=true->({ g with A:=DL g.A i j }:Gh).row c a=true:=λa d=>decide_eq_true λb hb=>AcD (of_decide_eq_true d b hb);have hro:∀ a,a≠i->({ g with A:=DL g.A i j }:Gh).row c a=g.row c a:=λa D=>by unfold Gh.row; simp only[MC (f:=g.A) (i:=i) (j:=j) (a:=a) (λe=>D e.1)]
 have hV:g.V i=false:=by
   cases d:g.V i with
   | false=>rfl
   | true=>have:=J.V i hi d; rw[K] at this; cases this
 refine⟨⟨J.u,J.S,J.E,λa b D hb d=>?_,λa D d=>U a (J.V a D d),J.no,λh0 a D=>⟨(J.z h0 a D).1,U a (J.z h0 a D).2⟩⟩,λφ=>?_,?_,.inl rfl⟩
 . by_cases e:a=i∧b=j
   . rw[e.1,e.2]; exact hE
   . exact J.A a b D hb (by rw[<-MC (f:=g.A) e]; exact d)
 . have h1:=L0 (f:=g.pA c φ) (f':=({ g with A:=DL g.A i j }:Gh).pA c φ) hi Z λa b _ _ O=>by unfold Gh.pA; simp only; rw[MC O]
   have h2:=GF (n:=c.R) (f:=g.pV c φ) (f':=({ g with A:=DL g.A i j }:Gh).pV c φ) hi λa _ D=>by unfold Gh.pV; simp only; rw[hro a D]
   have e1:g.pA c φ i j=φ (c.fGather g.u i j):=if_pos ⟨hE,hA⟩;have e2:({ g with A:=DL g.A i j }:Gh).pA c φ i j=0:=if_neg λd=>by have W:DL g.A i j i j=false:=d.2; rw[dS] at W; cases W
   have e3:g.pV c φ i=0:=if_neg λd=>by have W:=d.1; rw[K] at W; cases W
   have e4:({ g with A:=DL g.A i j }:Gh).pV c φ i=wt φ (if ({ g with A:=DL g.A i j }:Gh).row c i=true then [c.fVote g.u i] else []):=by
     split
     . rename_i hr;exact(if_pos ⟨hr,hV⟩).trans (by simp[wt])
     . rename_i hr;exact if_neg λd=>hr d.1
   rw[e1,e2] at h1; rw[e3,e4] at h2;show AQ c.R (g.pO c φ)+AQ c.R (λa=>AQ c.C (g.pS c φ a))+AQ c.C (λb=>AQ c.R (g.pE c φ b))+AQ c.R (λi'=>AQ c.C (({ g with A:=DL g.A i j }:Gh).pA c φ i'))+AQ c.R (({ g with A:=DL g.A i j }:Gh).pV c φ)+_=_;unfold Gh.pend;omega
 . have h1:=L0 (f:=λa b=>Gh.bt (g.A a b)) (f':=λa b=>Gh.bt (DL g.A i j a b)) hi Z λa b _ _ O=>by rw[MC O]
   simp only[dS,hA] at h1;have e1:Gh.bt false=0:=rfl;have e2:Gh.bt true=1:=rfl;unfold Gh.val;simp only;omega
theorem AmL (h:c.Ok) (d:g.Ok c) {i:Nat} (hi:i<c.R) (W:g.row c i=true) (Z:g.V i=false) (D:∃ k,k<c.R∧GM g.V i k=false):AcE c g { g with V:=GM g.V i } (c.fVote g.u i) []:=by
 refine⟨⟨d.u,d.S,d.E,d.A,λa K J=>?_,D,d.z⟩,λφ=>?_,?_,.inl rfl⟩
 . by_cases e:a=i
   . rw[e]; exact W
   . exact d.V a K (by rw[<-XG (f:=g.V) e]; exact J)
 . have h2:=GF (n:=c.R) (f:=g.pV c φ) (f':=({ g with V:=GM g.V i }:Gh).pV c φ) hi λa _ K=>by unfold Gh.pV; simp only; rw[XG K]; rfl
   have e3:g.pV c φ i=φ (c.fVote g.u i):=if_pos ⟨W,Z⟩;have e4:({ g with V:=GM g.V i }:Gh).pV c φ i=0:=if_neg λJ=>by have U:GM g.V i i=false:=J.2; rw[pX] at U; cases U
   rw[e3,e4] at h2;show AQ c.R (g.pO c φ)+AQ c.R (λa=>AQ c.C (g.pS c φ a))+AQ c.C (λb=>AQ c.R (g.pE c φ b))+AQ c.R (λi'=>AQ c.C (g.pA c φ i'))+AQ c.R (({ g with V:=GM g.V i }:Gh).pV c φ)+_=_;unfold Gh.pend;simp only[wt];omega
 . have h1:=GF (n:=c.R) (f:=λa=>Gh.bt (g.V a)) (f':=λa=>Gh.bt (GM g.V i a)) hi λa _ O=>by rw[XG O]
   simp only[pX,Z] at h1;have e1:Gh.bt false=0:=rfl;have e2:Gh.bt true=1:=rfl;unfold Gh.val;simp only;omega
theorem Ag3 (h:c.Ok) (hg:g.Ok c) (U:g.All c) {i:Nat} (hi:i<c.R) (hV:g.V i=false) (W:∀ k,k<c.R->GM g.V i k=true):AcE c g g.next (c.fVote g.u i) ((List.range c.R).map (c.fOrder g.u)):=by
 have hR:=h.R1; have hC:=h.C1;have Z:∀ k,k<c.R->k≠i->g.V k=true:=λk hk K=>by have:=W k hk; rwa [XG K] at this
 have hA:∀ a b,a<c.R->b<c.C->g.A a b=true:=λa b d J=>of_decide_eq_true (U.row a d) b J;have hS:∀ a b,a<c.R->b<c.C->g.S a b=true:=λa b d J=>of_decide_eq_true (U.col b J) a d;refine⟨Gh.next_ok U h,λφ=>?_,?_,.inl ?_⟩
 . have z1:AQ c.R (g.pO c φ)=0:=(BV (b:=0) λa d=>if_neg λD=>by rw[U.O a d] at D; exact nomatch D.2).trans (Nat.mul_zero _);have z2:AQ c.R (λa=>AQ c.C (g.pS c φ a))=0:=(BV (b:=0) λa d=>(BV (b:=0) λb J=>if_neg λD=>by rw[hS a b d J] at D; exact nomatch D.2.2).trans (Nat.mul_zero _)).trans (Nat.mul_zero _);have z3:AQ c.C (λb=>AQ c.R (g.pE c φ b))=0:=(BV (b:=0) λb J=>(BV (b:=0) λa d=>if_neg λD=>by rw[U.E a b d J] at D; exact nomatch D.2).trans (Nat.mul_zero _)).trans (Nat.mul_zero _);have z4:AQ c.R (λa=>AQ c.C (g.pA c φ a))=0:=(BV (b:=0) λa d=>(BV (b:=0) λb J=>if_neg λD=>by rw[hA a b d J] at D; exact nomatch D.2).trans (Nat.mul_zero _)).trans (Nat.mul_zero _);have z5:=GF (n:=c.R) (f:=λ_=>0) (f':=g.pV c φ) hi λa d K=>if_neg λD=>by rw[Z a d K] at D; exact nomatch D.2
   have e5:g.pV c φ i=φ (c.fVote g.u i):=if_pos ⟨U.row i hi,hV⟩;rw[PC] at z5;have y1:AQ c.R (g.next.pO c φ)=AQ c.R λa=>φ (c.fOrder g.u a):=IU λa _=>if_pos ⟨by show 1<=g.u+1; omega,rfl⟩;have y2:AQ c.R (λa=>AQ c.C (g.next.pS c φ a))=0:=(BV (b:=0) λa d=>(BV (b:=0) λb J=>if_neg λD=>nomatch D.1).trans (Nat.mul_zero _)).trans (Nat.mul_zero _);have y3:AQ c.C (λb=>AQ c.R (g.next.pE c φ b))=0:=(BV (b:=0) λb J=>(BV (b:=0) λa d=>if_neg λD=>by rw[Gh.next_col h] at D; exact nomatch D.1).trans (Nat.mul_zero _)).trans (Nat.mul_zero _);have y4:AQ c.R (λa=>AQ c.C (g.next.pA c φ a))=0:=(BV (b:=0) λa d=>(BV (b:=0) λb J=>if_neg λD=>nomatch D.1).trans (Nat.mul_zero _)).trans (Nat.mul_zero _);have y5:AQ c.R (g.next.pV c φ)=0:=(BV (b:=0) λa d=>if_neg λD=>by rw[Gh.next_row h] at D; exact nomatch D.1).trans (Nat.mul_zero _);rw[AcB];unfold Gh.pend;omega
 . have e1:Gh.bt false=0:=rfl;have e2:Gh.bt true=1:=rfl;have z1:AQ c.R (λa=>Gh.bt (g.O a))=c.R*1:=BV λa d=>by rw[U.O a d]; rfl
   have z2:AQ c.R (λa=>AQ c.C λb=>Gh.bt (g.S a b))=c.R*(c.C*1):=BV λa d=>BV λb J=>by rw[hS a b d J]; rfl
   have z3:AQ c.R (λa=>AQ c.C λb=>Gh.bt (g.E a b))=c.R*(c.C*1):=BV λa d=>BV λb J=>by rw[U.E a b d J]; rfl
   have z4:AQ c.R (λa=>AQ c.C λb=>Gh.bt (g.A a b))=c.R*(c.C*1):=BV λa d=>BV λb J=>by rw[hA a b d J]; rfl
   have z5:=GF (n:=c.R) (f:=λ_=>1) (f':=λa=>Gh.bt (g.V a)) hi λa d K=>by rw[Z a d K]; rfl
   simp only[hV] at z5;have y:∀ n,AQ n (λ_=>Gh.bt false)=0:=λn=>(PC n _).trans (Nat.mul_zero n);have y':∀ n,AQ n (λ_=>0)=0:=λn=>(PC n 0).trans (Nat.mul_zero n);unfold Gh.val;show(g.u+1)*Gh.T c+(AQ c.R (λ_=>Gh.bt false)+AQ c.R (λ_=>AQ c.C λ_=>Gh.bt false)+AQ c.R (λ_=>AQ c.C λ_=>Gh.bt false)+AQ c.R (λ_=>AQ c.C λ_=>Gh.bt false)+AQ c.R λ_=>Gh.bt false)=_;simp only[y,y'];rw[z1,z2,z3,z4,Nat.succ_mul];have:AQ c.R (λa=>Gh.bt (g.V a))+1=c.R*1:=by rw[PC] at z5; omega
   generalize AQ c.R (λa=>Gh.bt (g.V a))=q at *;have hT:Gh.T c=2*c.R+3*(c.R*c.C):=rfl;rw[Nat.mul_one c.C];omega
 . have hst:g.u>=1->c.st (g.u - 1)=0:=λh1=>wJ h U.u h1;unfold Gh.nh;show(if g.u+1<=1 then 1 else if (∀ i,i<c.R->(false:Bool)=true)∧c.st (g.u+1 - 1)≠3 then g.u+1 else g.u+1 - 1)=_;by_cases h0:g.u=0
   . rw[h0]; rfl
   . rw[if_neg (by omega),if_neg (λD=>nomatch D.1 0 (by omega))];by_cases h1:g.u=1
     . rw[h1]; rfl
     . rw[if_neg (by omega),if_pos ⟨U.O,by rw[hst (by omega)]; omega⟩]; omega
end Go.Proofs.YtkbkaodgfedfmaaGreat
