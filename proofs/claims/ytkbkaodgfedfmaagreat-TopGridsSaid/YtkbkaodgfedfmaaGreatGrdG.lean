import Derived.Test.YtkbkaodgfedfmaaGreatGrdC
namespace Go.Proofs.YtkbkaodgfedfmaaGreat
open Go Go.Fw
set_option linter.unusedVariables false
set_option linter.unusedSimpArgs false
variable {c:GC}
theorem AnW {n k:Nat} (hk:1<=k):∀ {v:Nat},v<n->∃ i,i<k∧XF n k i<=v∧v<XF n k (i+1):=by
 intro v D
 have H:∀ q,v<XF n k q->∃ i,i<q∧XF n k i<=v∧v<XF n k (i+1):=by
  intro q
  induction q with
  | zero=>intro h; rw[Aa8] at h; omega
  | succ q J=>
   intro h;rcases Nat.lt_or_ge v (XF n k q) with d | d
   . obtain⟨i,h1,K⟩:=J d; exact⟨i,by omega,K⟩
   . exact⟨q,by omega,d,h⟩
 exact H k (by rw[mY n hk]; exact D)
section
theorem GC.Ok.part (h:c.Ok) {v:Nat} (d:v<c.n):∃ i a,i<c.R∧a<c.ln i∧v=c.ls i+a:=by obtain⟨i,D,h2,h3⟩:=AnW (k:=c.R) h.R1.1 d;refine⟨i,v - c.ls i,D,?_,?_⟩ <;> (simp only[GC.ln,GC.ls]; omega)
theorem GC.Ok.seq (h:c.Ok) {k:Nat} (hk:k<=c.m):W8 c.p c.T k=CN 0 c.n (c.G k):=AdW h.run.rp h.pn λj hj=>h.run.en.lt j (by omega)
theorem GC.Ok.ov_ex (h:c.Ok) (k:Nat):(∃ i,i<c.R∧c.ov (k+1) i=true)↔∃ v,v<c.n∧c.ovV (k+1) v:=by
 constructor
 . rintro⟨i,hi,d⟩;obtain⟨_,a,D,K⟩:=c.ov_iff.1 d;exact⟨_,by have:=h.ls_n hi; omega,K⟩
 . rintro⟨v,J,d⟩;obtain⟨i,a,hi,D,rfl⟩:=h.part J;exact⟨i,hi,c.ov_iff.2 ⟨by omega,a,D,d⟩⟩
theorem GC.Ok.step_err (h:c.Ok) {k:Nat} (hk:k<=c.m):(QD c.p c.T (W8 c.p c.T k) ((k:Int)+1)).2≠0↔∃ i,i<c.R∧c.ov (k+1) i=true:=by
 rw[h.ov_ex,h.seq hk];obtain⟨V,W⟩:=zX (T:=c.T) (G:=c.G k) (round:=((k:Int)+1)) h.run.rp h.pn;constructor
 . intro U;rcases Classical.em (∃ v,v<c.n∧c.ovV (k+1) v) with O | O
   . exact O
   . refine absurd ?_ U;rw[W];intro v w K J d
     cases D:(LJ w).2 with
     | true=>rfl
     | false=>exact absurd ⟨v,K,J,w,d,D⟩ O
 . rintro⟨v,K,J,w,d,D⟩;rw[V ⟨v,w,K,J,d,D⟩]; decide
theorem GC.Ok.live_all (h:c.Ok) {k:Nat} (hk:k<=c.m):UJ c.p (W8 c.p c.T k) k=0↔∀ i,i<c.R->c.lv k i=0:=by
  rw[h.seq hk,zM h.run.rp (by have:=h.pn; omega)];have hz:∀ v,0+v=v:=Nat.zero_add;unfold GC.lv;by_cases hq:c.p.Kind=4∧c.p.Length<=k
  . rw[if_pos hq]; simp[hq]
  . rw[if_neg hq];have e:(λi=>if c.p.Kind=5 then (c.G k (0+i)).1==0 else (c.G k (0+i)).2.2)=c.lvV k:=by funext i; rw[hz]; rfl
    rw[e];constructor
    . intro h0 i hi;rw[if_neg hq]
      have:HX (c.ln i) (λa=>c.lvV k (c.ls i+a))=0:=by
        rcases Nat.eq_zero_or_pos (HX (c.ln i) λa=>c.lvV k (c.ls i+a)) with h1 | h1
        . exact h1
        . obtain⟨a,ha,hl⟩:=tP (by omega:HX (c.ln i) (λa=>c.lvV k (c.ls i+a))≠0)
          have h2:HX c.n (c.lvV k)≠0:=λh3=>by
            have := AiN (n := c.n) (f := c.lvV k) (g := λv => v == c.ls i + a) (λv _ hv => by
              have : v = c.ls i + a := by simpa using hv
              rw[this]; exact hl)
            have h4:0<HX c.n (λv=>v==c.ls i+a):=by unfold HX; exact List.countP_pos_iff.2 ⟨c.ls i+a,List.mem_range.2 (by have:=h.ls_n hi; omega),by simp⟩
            omega
          omega
      omega
    . intro h0;rcases Nat.eq_zero_or_pos (HX c.n (c.lvV k)) with h1 | h1
      . omega
      . obtain⟨v,hv,hl⟩:=tP (by omega:HX c.n (c.lvV k)≠0);obtain⟨i,a,hi,ha,rfl⟩:=h.part hv;have h2:=h0 i hi;rw[if_neg hq] at h2;have h4:0<HX (c.ln i) (λa=>c.lvV k (c.ls i+a)):=by unfold HX; exact List.countP_pos_iff.2 ⟨a,List.mem_range.2 ha,hl⟩
        omega
theorem GC.Ok.no_ov (h:c.Ok) {u:Nat} (hu:u<=c.m) {i:Nat} (hi:i<c.R):c.ov u i=false:=by
 cases hb:c.ov u i with
 | false=>rfl
 | true=>
  cases u with
  | zero=>exact absurd rfl (c.ov_iff.1 hb).1
  | succ k=>
   have D:=(h.step_err (k:=k) (by omega)).2 ⟨i,hi,hb⟩;have d:=(aY (h.run.en.lt k (by omega))).2.2;exact absurd d D
open Classical in
theorem GC.Ok.counts (h:c.Ok) {u:Nat} (W:u<c.U):c.st u=if ∃ i,i<c.R∧c.ov u i=true then 3 else if ∀ i,i<c.R->c.lv u i=0 then 1 else if (u:Int)=c.lim then 2 else 0:=by
 have V:=h.run.en;have Z:=AdY V.ne V.at_;unfold GC.U at W;unfold GC.st GC.U;by_cases h3:c.e=3
 . rw[if_pos h3] at W ⊢
   have D:UJ c.p (W8 c.p c.T c.m) c.m≠0∧(c.m:Int)≠c.lim∧(QD c.p c.T (W8 c.p c.T c.m) ((c.m:Int)+1)).2≠0:=by
     rcases Z with⟨_,e⟩ | ⟨_,_,e⟩ | ⟨a,b,d,_⟩
     . omega
     . omega
     . exact⟨a,b,d⟩
   by_cases hm:u=c.m+1
   . subst hm;rw[if_pos rfl,if_pos ((h.step_err (Nat.le_refl _)).1 D.2.2),h3]
   . rw[if_neg (by omega),if_neg (λ⟨i,hi,J⟩=>by rw[h.no_ov (by omega) hi] at J; cases J)]
     have hg:UJ c.p (W8 c.p c.T u) u≠0∧(u:Int)≠c.lim:=by
       rcases Nat.lt_or_ge u c.m with hl | hl
       . have:=aY (V.lt u hl); exact⟨this.1,this.2.1⟩
       . obtain rfl:u=c.m:=by omega
         exact⟨D.1,D.2.1⟩
     rw[if_neg (λO=>hg.1 ((h.live_all (by omega)).2 O)),if_neg hg.2]
 . rw[if_neg h3] at W ⊢;have K:¬ ∃ i,i<c.R∧c.ov u i=true:=λ⟨i,hi,J⟩=>by rw[h.no_ov (by omega) hi] at J; cases J
   by_cases hm:u=c.m
   . subst hm;rw[if_pos rfl,if_neg K];rcases Z with⟨a,e⟩ | ⟨a,b,e⟩ | ⟨_,_,_,e⟩
     . rw[if_pos ((h.live_all (Nat.le_refl _)).1 a),e]
     . rw[if_neg (λO=>a ((h.live_all (Nat.le_refl _)).2 O)),if_pos b,e]
     . exact absurd e h3
   . have:=aY (V.lt u (by omega));rw[if_neg (by omega),if_neg K,if_neg (λO=>this.1 ((h.live_all (by omega)).2 O)),if_neg this.2.1]
theorem GC.Ok.st_b (h:c.Ok) (t:Nat):0<=c.st t∧c.st t<=3:=by
 have d:=AdY h.run.en.ne h.run.en.at_;unfold GC.st;split
 . rcases d with⟨_,e⟩ | ⟨_,_,e⟩ | ⟨_,_,_,e⟩ <;> omega
 . omega
theorem GC.Ok.st_go (h:c.Ok) {t:Nat} (ht:t<c.U):c.st t=0↔t+1<c.U:=by
 have:=h.run.en.ne;unfold GC.st;split
 . exact⟨λe=>absurd e this,λe=>by omega⟩
 . exact⟨λ_=>by omega,λ_=>rfl⟩
theorem GC.Ok.st_three (h:c.Ok) {t i:Nat} (D:t<c.U) (d:c.st t≠3) (hi:i<c.R):c.ov t i=false:=by
 refine h.no_ov ?_ hi;unfold GC.st GC.U at *;split at D
 . rename_i e;rw[if_pos e] at d;split at d
   . exact absurd e d
   . omega
 . omega
theorem GC.Ok.st_zero3 (h:c.Ok):c.st 0≠3:=by
 unfold GC.st GC.U;split
 . split <;> omega
 . split
   . assumption
   . omega
theorem GC.Ok.U_b (h:c.Ok):1<=c.U∧c.U<=41:=by have:=h.run.en.le; have:=h.lm;unfold GC.U; split <;> omega
end
structure Gh where
 u:Nat
 O:Nat→Bool
 S:Nat→Nat→Bool
 E:Nat→Nat→Bool
 A:Nat→Nat→Bool
 V:Nat→Bool
section
variable (c:GC) (g:Gh)
def Gh.col (j:Nat):Bool:=decide (∀ i,i<c.R->g.S i j=true)
def Gh.row (i:Nat):Bool:=decide (∀ j,j<c.C->g.A i j=true)
def Gh.rnd (i:Nat):Nat:=if g.O i=true then (if c.st (g.u - 1)=3 then g.u - 2 else g.u - 1) else g.u - 2
structure Gh.Ok:Prop where
 u:g.u≤c.U
 S:∀ i j,i<c.R→g.S i j=true→g.O i=true∧g.u<c.U
 E:∀ i j,i<c.R→j<c.C→g.E i j=true→g.col c j=true
 A:∀ i j,i<c.R→j<c.C→g.A i j=true→g.E i j=true
 V:∀ i,i<c.R→g.V i=true→g.row c i=true
 no:∃ i,i<c.R∧g.V i=false
 z:g.u=0→∀ i,i<c.R→g.O i=true∧g.row c i=true
end
noncomputable def GC.asd (c:GC) (k i:Nat):State:=if c.ov k i=true then c.sg (k - 1) i else c.sg k i
variable {g:Gh}
structure Own (c:GC) (g:Gh) (i:Nat) (w:A0):Prop where
 waits:w.waits=(!g.O i || g.row c i)
 begun:w.begun=(decide (2≤g.u) || decide (1≤g.u) && g.O i)
 round:w.round=(g.rnd c i:Int)
 status:w.status=if 1≤g.u∧g.O i=true then c.st (g.u - 1) else 0
 has:w.has=c.sg (g.rnd c i) i
 aside:w.waits=true→w.aside=c.asd (if g.O i=true then g.u else g.u - 1) i
 sums:1≤g.u→g.u<c.U→g.O i=true→g.row c i=false→∃ L,Sm c g.u i L w.sums∧L.Nodup∧∀ j,j∈L↔j<c.C∧g.A i j=true
 came:1≤g.u→g.u<c.U→g.O i=true→MapR w.came c.C (g.A i) (fun _ v=>v=true)
structure One (c:GC) (g:Gh) (w:A0):Prop where
 vote:w.vote=g.u
 votes:MapR w.votes c.R g.V (fun i f=>f.N=(c.fVote g.u i).N∧f.Over=(c.fVote g.u i).Over)
 closed:w.closed=decide (1≤g.u∧c.st (g.u - 1)≠0)
structure WOk (c:GC) (g:Gh) (i j:Nat) (w:A0):Prop where
 st:Wst c i j w
 spread:w.spread=((g.u+if g.E i j=true then 1 else 0:Nat):Int)
 share:i=0→w.share=((g.u+if g.col c j=true then 1 else 0:Nat):Int)∧MapR w.shares c.R (fun k=>!g.col c j && g.S k j) (fun k v=>v=c.slice g.u k j)
 own:j=0→Own c g i w
 one:i=0→j=0→One c g w
theorem Gh.col_congr {g d:Gh} {j:Nat} (h:∀ i,d.S i j=g.S i j):d.col c j=g.col c j:=by unfold Gh.col; simp only[h]
theorem Gh.row_congr {g d:Gh} {i:Nat} (h:∀ j,d.A i j=g.A i j):d.row c i=g.row c i:=by unfold Gh.row; simp only[h]
theorem WOk.congr {J:Gh} {i j:Nat} {w:A0} (h:WOk c g i j w) (D:J.u=g.u) (hE:J.E i j=g.E i j) (hS:i=0->∀ k,J.S k j=g.S k j) (hO:j=0->J.O i=g.O i) (Z:j=0->∀ k,J.A i k=g.A i k)
   (hV:i=0->j=0->∀ k,J.V k=g.V k):WOk c J i j w:=by
 refine⟨h.st,by rw[D,hE]; exact h.spread,λhi=>?_,λK=>?_,λhi K=>?_⟩
 . have hc:J.col c j=g.col c j:=Gh.col_congr (hS hi);obtain⟨h1,h2⟩:=h.share hi;rw[D,hc];exact⟨h1,h2.congr (λk _=>by rw[hS hi]) (λk v _ W=>W)⟩
 . have hr:J.row c i=g.row c i:=Gh.row_congr (Z K);have U:=hO K;have hn:J.rnd c i=g.rnd c i:=by unfold Gh.rnd; rw[U,D]
   have o:=h.own K;refine⟨by rw[U,hr]; exact o.waits,by rw[D,U]; exact o.begun,by rw[hn]; exact o.round,by rw[D,U]; exact o.status,by rw[hn]; exact o.has,λhw=>by rw[D,U]; exact o.aside hw,λa b d e=>?_,λa b d=>?_⟩
   . rw[D] at a b; rw[U] at d; rw[hr] at e;obtain⟨L,l1,l2,l3⟩:=o.sums a b d e;exact⟨L,by rw[D]; exact l1,l2,λk=>by rw[Z K]; exact l3 k⟩
   . rw[D] at a b; rw[U] at d;exact(o.came a b d).congr (λk _=>by rw[Z K]) (λk v _ W=>W)
 . have o:=h.one hi K;refine⟨by rw[D]; exact o.vote,?_,by rw[D]; exact o.closed⟩;rw[D];exact o.votes.congr (λk _=>hV hi K k) (λk v _ W=>W)
variable {c:GC} {g:Gh}
section
theorem GC.Ok.grd (h:c.Ok) {i j:Nat} (hi:i<c.R) (hj:j<c.C):W4 (c.R:Int) (c.C:Int) (i:Int) (j:Int):=⟨⟨h.mp.2.1,h.mp.2.2⟩,by omega,by omega⟩
theorem GC.Ok.slice_P (h:c.Ok) (t:Nat) {i j:Nat} (hi:i<c.R) (V:j<c.C):VecP (c.slice t i j)∧(c.slice t i j).N=dH c.n c.R c.C i j - W5 c.n c.R c.C i j∧(c.slice t i j).Items.length<=1000:=by
 have O:=h.vec t;have d:=jU O (h.grd hi V);have W:=T0 (n:=c.n) (k:=c.C) (i:=j); have J:=T0 (n:=c.n) (k:=c.C) (i:=(j:Int)+1); have K:=HR (n:=c.n) (k:=c.C) (show(j:Int)<=(j:Int)+1 by omega);have U:=J.2 (by omega);have D:∀ x,AJ c.n c.C j<=WJ (AJ c.n c.C j) (AJ c.n c.C ((j:Int)+1)) x∧WJ (AJ c.n c.C j) (AJ c.n c.C ((j:Int)+1)) x<=AJ c.n c.C ((j:Int)+1):=λx=>by unfold WJ; repeat' split <;> omega
 have h1:=D (AJ c.n c.R i); have h2:=D (AJ c.n c.R ((i:Int)+1));have e:c.slice t i j=_:=d.1;refine⟨?_,?_,?_⟩
 . rw[e];exact AdP O (by show(0:Int)<=WJ (AJ c.n c.C j) (AJ c.n c.C ((j:Int)+1)) (AJ c.n c.R i); omega) (mV K (HR (by omega))) (by show WJ (AJ c.n c.C j) (AJ c.n c.C ((j:Int)+1)) (AJ c.n c.R ((i:Int)+1))<=(c.n:Int); omega)
 . rw[e]; exact d.2.symm
 . have h3:=AfD (FG (c.vV t) c.R i) c.n c.R c.C i j;have h4:=jS (c.vV t) c.R i;have Z:=gT c.n (c.tV t);have h6:(c.vV t).Items.length<=c.n:=Z;have:=h.n4;show(QP (FG (c.vV t) c.R i) c.n c.R c.C i j).Items.length<=1000;omega
theorem GC.Ok.piece_P (h:c.Ok) (t:Nat) {j:Nat} (hj:j<c.C):VecP (c.piece t j)∧(c.piece t j).N=HW c.n c.C j∧(c.piece t j).Items.length<=1000:=by have hp:=gO (h.vec t) h.mp.2.2 (j:=j) (by omega);refine⟨hp.1,hp.2.1,?_⟩;have h4:=jS (c.vV t) c.C j;have d:=gT c.n (c.tV t);have h6:(c.vV t).Items.length<=c.n:=d;have:=h.n4;show(FG (c.vV t) c.C j).Items.length<=1000;omega
theorem GC.Ok.piece_in (h:c.Ok) {k:Nat} (hk:k<=c.m) {j:Nat} (hj:j<c.C):∀ x∈(c.piece (k+1) j).Items,EZ x.Val:=by
 refine(gO (h.vec (k+1)) h.mp.2.2 (j:=j) (by omega)).2.2.2 λx D=>?_;have d:=(h.run.whole hk).out ((k:Int)+1);refine d.2.1 x ?_;rw[h.seq hk,wC h.run.rp (by have:=h.pn; omega)];have e:(λi=>gV c.p ((k:Int)+1) (0+i) (c.G k (0+i)))=c.tV (k+1):=by funext i; rw[Nat.zero_add]; rfl
 rw[e]; exact D
end
theorem AaB {f:AA} {n:Int} {Q:Vec×Bool->Prop} (hl:f.Vec.Items.length<=1000) (D:VecP f.Vec) (d:f.Vec.N=n) (h:Q (f.Vec,true)):LH f n Q:=by
 unfold LH;refine Z3 (by omega) (EI (by show f.Vec.Items.length<=_; omega) ?_);rw[decide_eq_true (show VecP ⟨f.Vec.N,f.Vec.Items⟩ from D)];refine AU rfl ?_;have:(f.Vec.N==n)=true:=by simp[d]
 rw[this]; exact h
theorem AkP {w:A0} {i j:Nat} {Q:Int->Prop} (h:c.Ok) (d:Wst c 0 j w) (hi:i<c.R) (hj:j<c.C) (D:Q (dH c.n c.R c.C i j - W5 c.n c.R c.C i j)):FL w i Q:=by
 unfold FL;have O:w.plan.N=c.n:=by rw[d.pn,h.pn]
 have hR:=h.R1; have hC:=h.C1;have J:A6 ((i:Int)+1)=(i:Int)+1:=AB (by omega) (by omega);have K:A6 ((j:Int)+1)=(j:Int)+1:=AB (by omega) (by omega);rw[O,d.gr,d.pl];refine G4 (G4 ?_);rw[J];refine G4 ?_;rw[K];refine G4 ?_;have b1:=P9 c.n c.R i; have b2:=P9 c.n c.R ((i:Int)+1); have b3:=P9 c.n c.C j; have b4:=P9 c.n c.C ((j:Int)+1);simp only
 have e:(if A6 ((if AJ c.n c.C ((j:Int)+1)<AJ c.n c.R ((i:Int)+1) then AJ c.n c.C ((j:Int)+1) else AJ c.n c.R ((i:Int)+1)) - (if AJ c.n c.C j > AJ c.n c.R i then AJ c.n c.C j else AJ c.n c.R i)) > 0 then A6 ((if AJ c.n c.C ((j:Int)+1)<AJ c.n c.R ((i:Int)+1) then AJ c.n c.C ((j:Int)+1) else AJ c.n c.R ((i:Int)+1)) - (if AJ c.n c.C j > AJ c.n c.R i then AJ c.n c.C j else AJ c.n c.R i)) else 0)=dH c.n c.R c.C i j - W5 c.n c.R c.C i j:=by
  unfold dH W5 mx mn;generalize AJ c.n c.R i=a1 at *; generalize AJ c.n c.R ((i:Int)+1)=a2 at *; generalize AJ c.n c.C j=a3 at *; generalize AJ c.n c.C ((j:Int)+1)=a4 at *;rw[AB (by split <;> split <;> omega) (by split <;> split <;> omega)]
  repeat' split
  all_goals omega
 rw[e]; exact D
def GM (f:Nat->Bool) (i:Nat):Nat->Bool:=λk=>if k=i then true else f k
def DL (f:Nat->Nat->Bool) (i j:Nat):Nat->Nat->Bool:=λa b=>if a=i∧b=j then true else f a b
theorem Gh.Ok.noA (d:g.Ok c) (h:c.Ok) {i:Nat} (hi:i<c.R) (V:g.O i=false):(∀ j,j<c.C->g.A i j=false)∧g.row c i=false:=by
 have J:∀ j,j<c.C->g.A i j=false:=λj D=>by
  cases hA:g.A i j with
  | false=>rfl
  | true=>
   have W:=d.E i j hi D (d.A i j hi D hA);have K:=(d.S i j hi (of_decide_eq_true W i hi)).1;rw[V] at K; cases K
 refine⟨J,?_⟩;unfold Gh.row;refine decide_eq_false λU=>?_;have:=U 0 (by have:=h.C1; omega);rw[J 0 (by have:=h.C1; omega)] at this; cases this
theorem AfX (h:c.Ok) (hg:g.Ok c) {i:Nat} (hi:i<c.R) {w:A0} (hw:WOk c g i 0 w) (hu:1<=g.u) (hO:g.O i=false) {f:AA} (hr:f.Round=((g.u - 1:Nat):Int)) (hn:f.N=c.st (g.u - 1)) (hl:w.out.length<=1000) {Q:Bool×A0->Prop}
   (hQ:∀ w',WOk c { g with O:=GM g.O i } i 0 w'->w'.out=w.out++(if g.u<c.U then (List.range c.C).map (c.fShare g.u i) else [])->Q (true,w')):DQ w f ⟨0,0⟩ Q:=by
 obtain⟨hA,hrow⟩:=hg.noA h hi hO;have hU:=h.U_b; have hgu:=hg.u; have hst:=h.st_b (g.u - 1);have o:=hw.own rfl;have hwt:w.waits=true:=by rw[o.waits,hO]; rfl
 have has:w.aside=c.asd (g.u - 1) i:=by have:=o.aside hwt; rw[hO] at this; exact this
 have hstat:w.status=0:=by rw[o.status,if_neg (by rw[hO]; simp)]
 have Z:w.round=((g.u - 2:Nat):Int):=by have:=o.round; unfold Gh.rnd at this; rw[hO] at this; exact this
 have hhas:w.has=c.sg (g.u - 2) i:=by have:=o.has; unfold Gh.rnd at this; rw[hO] at this; exact this
 have hbeg:w.begun=decide (2<=g.u):=by rw[o.begun,hO]; simp
 have d:=hw.st;unfold DQ;refine BP (λt=>t=((g.u - 1:Nat):Int)) ?_ ?_;rotate_left
 . intro k hk;rw[hbeg,Z];refine A1 (λh2=>hk _ ?_) (λh2=>hk _ (by omega));rw[AB (by omega) (by omega)]; omega
 rintro _ rfl;rw[show w.place.j=0 by rw[d.pl]; rfl];refine BI (λD=>absurd rfl D) λ_=>AC (by simp) (AC (by rw[hwt]; rfl) (BI (λD=>absurd hstat D) λ_=>BI (λD=>absurd hr D) λ_=>?_));rw[hn];refine A1 (λD=>by omega) λ_=>A1 (λD=>by omega) λ_=>?_;have K:GM g.O i i=true:=if_pos rfl;have hrow':({ g with O:=GM g.O i }:Gh).row c i=false:=hrow;have hrd:({ g with O:=GM g.O i }:Gh).rnd c i=if c.st (g.u - 1)=3 then g.u - 2 else g.u - 1:=if_pos K
 -- whatever else is put into it
 have V:∀ (w':A0),Wst c i 0 w'->w'.spread=w.spread->w'.share=w.share->w'.shares=w.shares->w'.vote=w.vote->w'.votes=w.votes->w'.closed=w.closed->w'.waits=false->w'.begun=true->w'.round=(({ g with O:=GM g.O i }:Gh).rnd c i:Int)->w'.status=c.st (g.u - 1)->w'.has=c.sg (({ g with O:=GM g.O i }:Gh).rnd c i) i ->
     (g.u<c.U->w'.sums=[]∧w'.came=[])->WOk c { g with O:=GM g.O i } i 0 w':=by
   intro w' e0 e1 e2 e3 e4 e5 e6 e7 e8 e9 e10 e11 e12;refine⟨e0,by rw[e1]; exact hw.spread,λhz=>?_,λ_=>?_,λhz _=>?_⟩
   . rw[e2,e3]; exact hw.share hz
   . refine⟨?_,?_,e9,?_,e11,?_,?_,?_⟩
     . rw[e7,hrow']; show false=(!GM g.O i i || false); rw[K]; rfl
     . rw[e8]; show true=(decide (2<=g.u) || decide (1<=g.u) && GM g.O i i); rw[K]; simp; omega
     . rw[e10]; exact(if_pos ⟨hu,K⟩).symm
     . intro J; rw[e7] at J; cases J
     . intro _ J _ _;exact⟨[],by rw[(e12 J).1]; exact Sm.nil _ _ _,List.nodup_nil,λj=>⟨λhj=>by simp at hj,λ⟨hj,ha⟩=>by rw[show g.A i j=false from hA j hj] at ha; cases ha⟩⟩
     . intro _ J _;rw[(e12 J).2]; exact MapR.nil _ _ hA
   . have q:=hw.one hz rfl;exact⟨by rw[e4]; exact q.vote,by rw[e5]; exact q.votes,by rw[e6]; exact q.closed⟩
 refine BP (λW=>W = { w with round:=(({ g with O:=GM g.O i }:Gh).rnd c i:Int),status:=c.st (g.u - 1),has:=c.sg (({ g with O:=GM g.O i }:Gh).rnd c i) i,waits:=false,begun:=true }) ?_ ?_;rotate_left
 . intro k hk;refine BP (λb=>b=decide (0<g.u - 1∧c.st (g.u - 1)≠3)) ?_ ?_
   . rintro _ rfl;refine A1 (λD=>hk _ ?_) (λD=>hk _ ?_)
     . rw[hrd,if_neg D.2,has];unfold GC.asd;rw[h.st_three (by omega) D.2 hi];rfl
     . have e:({ g with O:=GM g.O i }:Gh).rnd c i=g.u - 2:=by
        rw[hrd];split
        . rfl
        . rename_i h3;by_cases h1:g.u=1
          . rw[h1]
          . exact absurd ⟨by omega,h3⟩ D
       rw[e,<-Z,<-hhas]
   . intro k' hk';refine A1 (λD=>hk' _ ?_) (λD=>hk' _ ?_)
     . have:(c.st (g.u - 1) != 3)=decide (c.st (g.u - 1)≠3):=by by_cases hq:c.st (g.u - 1)=3 <;> simp[hq]
       rw[this]; congr 1; simp; omega
     . exact(decide_eq_false (by omega)).symm
 rintro _ rfl;have hgo:=h.st_go (t:=g.u - 1) (by omega);refine AV (λh0=>?_) (λh0=>?_)
 . have hlt:g.u<c.U:=by have:=hgo.1 h0; omega
   have hr3:({ g with O:=GM g.O i }:Gh).rnd c i=g.u - 1:=by rw[hrd,if_neg (by omega)]
   have e1:g.u - 1+1=g.u:=by omega
   refine Aj1 (i:=i) (k:=g.u - 1) h ⟨d.pl,d.pn,d.gr,d.lm,d.ch,d.ro,d.co⟩ hi hl (by omega) (by rw[hr3]) (by rw[hr3]) (hQ _ (V _ ⟨d.pl,d.pn,d.gr,d.lm,d.ch,d.ro,d.co⟩ rfl rfl rfl rfl rfl rfl rfl rfl rfl rfl rfl λ_=>⟨rfl,rfl⟩) ?_);rw[if_pos hlt,e1]
 . have hge:¬g.u<c.U:=λJ=>h0 (hgo.2 (by omega));refine hQ _ (V _ ⟨d.pl,d.pn,d.gr,d.lm,d.ch,d.ro,d.co⟩ rfl rfl rfl rfl rfl rfl rfl rfl rfl rfl rfl λJ=>absurd J hge) ?_;rw[if_neg hge,List.append_nil]
variable {c:GC} {g:Gh}
theorem ZE (c:GC) (j:Nat):c.num 0 j=(j:Int):=by unfold GC.num; simp
theorem Aj2 (h:c.Ok) {i j:Nat} (hi:i<c.R) (hj:j<c.C) {w:A0} (hw:WOk c g 0 j w) (hu:g.u<=1000) (hS:g.S i j=false) {f:AA} (hr:f.Round=(g.u:Int)) (hv:f.Vec=c.slice g.u i j) (hl:w.out.length<=1000) {Q:Bool×A0->Prop}
   (hQ:∀ w',WOk c { g with S:=DL g.S i j } 0 j w'->w'.out=w.out++(if ({ g with S:=DL g.S i j }:Gh).col c j=true then (List.range c.R).map (c.fSpread g.u j) else [])->Q (true,w')):DU w f ⟨i,0⟩ Q:=by
 have d:=hw.st;obtain⟨J,hmp⟩:=hw.share rfl;obtain⟨p1,p2,p3⟩:=h.slice_P g.u hi hj;have hR:=h.R1; have hC:=h.C1;have hcol:g.col c j=false:=decide_eq_false λhx=>by have:=hx i hi; rw[hS] at this; cases this
 rw[hcol] at J hmp;have hno:B9 (i:Int) w.shares=none:=hmp.no (by show(!false && g.S i j)=false; rw[hS]; rfl);have V:=hmp.put (v:=f.Vec) hi (by show(!false && g.S i j)=false; rw[hS]; rfl) hv;unfold DU;refine AkP h d hi hj (AaB (by rw[hv]; exact p3) (by rw[hv]; exact p1) (by rw[hv]; exact p2) (dD (λv hx=>by rw[hno] at hx; cases hx) λ_=>AC rfl (AC rfl ?_)));rw[show w.place.i=0 by rw[d.pl]; rfl];refine BI (λW=>absurd rfl W) λ_=>BI (λW=>absurd rfl W) λ_=>BI (λW=>absurd (by rw[hr,J]; simp) W) λ_=>?_;rw[show w.grid.i=c.R by rw[d.gr],show w.grid.j=c.C by rw[d.gr],show w.plan.N=c.n by rw[d.pn,h.pn],show w.place.j=j by rw[d.pl]];dsimp only;have hf:=V.full;have K:({ g with S:=DL g.S i j }:Gh).col c j=decide (∀ k,k<c.R->DL g.S i j k j=true):=rfl;have hp2:∀ k,DL g.S i j k j=if k=i then true else g.S k j:=λk=>by unfold DL; simp
 have hst:∀ (sh:Int) (U:List (Int×Vec)) (out:List AA),Wst c 0 j { w with share:=sh,shares:=U,out:=out }:=λ_ _ _=>⟨d.pl,d.pn,d.gr,d.lm,d.ch,d.ro,d.co⟩
 have O:∀ (sh:Int) (U:List (Int×Vec)) (out:List AA),sh=((g.u+if ({ g with S:=DL g.S i j }:Gh).col c j=true then 1 else 0:Nat):Int)->MapR U c.R (λk=>!({ g with S:=DL g.S i j }:Gh).col c j && DL g.S i j k j) (λk v=>v=c.slice g.u k j)->WOk c { g with S:=DL g.S i j } 0 j { w with share:=sh,shares:=U,out:=out }:=by
   intro sh U out e1 e2;refine⟨hst _ _ _,hw.spread,λ_=>⟨e1,e2⟩,λhz=>?_,λ_ hz=>?_⟩
   . have o:=hw.own hz;exact⟨o.waits,o.begun,o.round,o.status,o.has,o.aside,o.sums,o.came⟩
   . have o:=hw.one rfl hz;exact⟨o.vote,o.votes,o.closed⟩
 refine A1 (λhlt=>?_) (λhge=>?_)
 . obtain⟨k,hk,hd⟩:=hf.1 (by omega);have hkS:DL g.S i j k j=false:=by rw[hp2]; exact hd
   have D:({ g with S:=DL g.S i j }:Gh).col c j=false:=by rw[K]; exact decide_eq_false λhx=>by have:=hx k hk; rw[hkS] at this; cases this
   refine hQ _ (O w.share _ w.out (by rw[D,J]) ?_) (by rw[D]; simp);rw[D];exact V.congr (λk hk=>by rw[hp2]; rfl) (λk v _ hv=>hv)
 . have hall:∀ k,k<c.R->(if k=i then true else (!false && g.S k j))=true:=λk hk=>by
     cases hd:(if k=i then true else (!false && g.S k j)) with
     | true=>rfl
     | false=>exact absurd (hf.2 ⟨k,hk,hd⟩) (by omega)
   have D:({ g with S:=DL g.S i j }:Gh).col c j=true:=by rw[K]; exact decide_eq_true λk hk=>by rw[hp2]; exact hall k hk
   refine AD (σ:=List Vec) (λs k=>(s,k)) 0 c.R (s0:=[]) (by omega) (λk s=>s=(List.range k).map λa:Nat=>c.slice g.u a j) (by omega) (by simp) (λk s next _ hk Z hn=>?_) (λs next Z=>?_)
   . refine A1 (λ_=>HH (AH (by rw[Z]; simp; omega) (hn _ ?_))) (λW=>by omega);obtain⟨v,hv1,hv2⟩:=V.get k hk (hall k hk);rw[hv1,Z,List.range_succ,List.map_append,hv2]; rfl
   refine A1 (λW=>by omega) (λ_=>?_);subst Z;refine vT (by simp; omega) (λv hv=>?_) ?_
   . obtain⟨a,ha,rfl⟩:=List.mem_map.1 hv;have:=(h.slice_P g.u (List.mem_range.1 ha) hj).2.2; omega
   rw[h.fit hj];obtain⟨pl,pn,gr,lm,ch,ro,co,out,share,shares,spread,round,status,has,aside,waits,begun,sums,came,vote,votes,closed⟩:=w;obtain⟨w1,w2,w3,w4,w5,w6,w7⟩:=d;simp only at w1 w2 w3 w4 w5 w6 w7 J hl hQ O hst;subst w1 w2 w3 w4 w5 w6 w7;refine AD (σ:=List AA) (τ:=A0×Int) (λs k=>(⟨⟨(0:Nat),j⟩,c.p,⟨c.R,c.C⟩,c.lim,c.ch,c.rows 0 j,c.cols 0 j,s,share,DK (i:Int) f.Vec shares,spread,round,status,has,aside,waits,begun,sums,came,vote,votes,closed⟩,k)) 0 c.R (s0:=out) (by omega) (λk s=>s=out++(List.range k).map (c.fSpread g.u j)) (by omega) (by simp) (λk s next _ hk d hn=>?_) (λs next d=>?_)
   . subst d;refine A1 (λ_=>?_) (λW=>absurd (show(k:Int)<c.R by omega) W);refine WA (a:=k) (b:=j) rfl hC (by omega) hj ?_;refine kB (i:=0) (j:=j) h ⟨rfl,rfl,rfl,rfl,rfl,rfl,rfl⟩ (by omega) hj (by simp; omega) (hn _ ?_);rw[List.range_succ,List.map_append,<-List.append_assoc];show _=_++[c.fSpread g.u j k];unfold GC.fSpread;rw[ZE,J];rfl
   . subst d;refine A1 (λW=>absurd (show(c.R:Int)<c.R from W) (by omega)) (λ_=>?_);refine hQ _ (O (A6 (share+1)) [] _ ?_ ?_) (by rw[D]; rfl)
     . rw[D,J,AB (by simp; omega) (by simp; omega)]; simp
     . rw[D]; exact MapR.nil _ _ λk _=>rfl
theorem Aj3 {w:A0} {u:Nat} {Q:ED->Prop} (hu:1<=u) (h:u<=1000) (hl:w.choices.length<=1000) (d:∀ x,Q x):F6 w u Q:=by
 unfold F6;refine AV (λ_=>d _) (λD=>⟨by omega,?_⟩);have e:A6 ((u:Int) - 1)=((u - 1:Nat):Int):=by rw[AB (by omega) (by omega)]; omega
 rw[e,Int.tmod_eq_emod_of_nonneg (by omega),<-Int.natCast_emod];exact B3 (Nat.mod_lt _ (by omega)) (d _)
theorem AfY (h:c.Ok) {i j:Nat} (hi:i<c.R) (hj:j<c.C) {w:A0} (K:WOk c g i j w) (hu:1<=g.u) (hu':g.u<c.U) (hE:g.E i j=false) {f:AA} (hr:f.Round=(g.u:Int)) (O:f.Vec=c.piece g.u j) (hl:w.out.length<=1000) {Q:Bool×A0->Prop}
  (hQ:∀ w',WOk c { g with E:=DL g.E i j } i j w'->w'.out=w.out++[c.fGather g.u i j]->Q (true,w')):DN w f ⟨0,j⟩ Q:=by
 have d:=K.st;have hR:=h.R1; have hC:=h.C1; have hUb:=h.U_b;obtain⟨p1,p2,p3⟩:=h.piece_P g.u hj;have J:w.spread=(g.u:Int):=by rw[K.spread,hE]; simp
 have hfin:∀ (out:List AA),WOk c { g with E:=DL g.E i j } i j { w with spread:=A6 (w.spread+1),out:=out }:=by
  intro out;refine⟨⟨d.pl,d.pn,d.gr,d.lm,d.ch,d.ro,d.co⟩,?_,λZ=>K.share Z,λZ=>?_,λZ hz'=>?_⟩
  . show A6 (w.spread+1)=((g.u+if DL g.E i j i j=true then 1 else 0:Nat):Int);rw[show DL g.E i j i j=true from if_pos ⟨rfl,rfl⟩,J,AB (by omega) (by omega)]; simp
  . have o:=K.own Z;exact⟨o.waits,o.begun,o.round,o.status,o.has,o.aside,o.sums,o.came⟩
  . have o:=K.one Z hz';exact⟨o.vote,o.votes,o.closed⟩
 unfold DN;refine AaB (by rw[O]; exact p3) (by rw[O]; exact p1) (by rw[O,p2,d.ro]; rfl) (AC rfl (BI (λD=>absurd rfl D) λ_=>?_));rw[show w.place.j=(j:Int) by rw[d.pl],show w.place.i=(i:Int) by rw[d.pl]];refine BI (λD=>absurd rfl D) λ_=>BI (λD=>absurd (by rw[hr,J]) D) λ_=>?_;rw[hr];refine Aj3 hu (by omega) (by rw[d.ch]; exact h.chl) λx=>X9 ?_;rw[show JD w.plan.Kind g.u=c.rg g.u by rw[d.pn]; rfl];refine AkB (by show f.Vec.Items.length<=_; rw[O]; omega) ?_;obtain⟨k,hk⟩:∃ k,g.u=k+1:=⟨g.u - 1,by omega⟩;have hkm:k<=c.m:=by unfold GC.U at hu'; split at hu' <;> omega
 have W:=h.run.cn; rw[h.pn] at W;obtain⟨_,ccn⟩:=dG W (h.grd hi hj);have V:=h.piece_in hkm hj;rw[<-hk] at V;rw[O];refine Ai1 (rows:=HW c.n c.R i) (cols:=HW c.n c.C j) (ts:=c.tb i j) (s:=dI x.Form (FF (c.piece g.u j)).Items.length (FF (c.piece g.u j)).N) (u:=c.piece g.u j) ccn (Ak8 h.run.vs) d.ro d.co (by show AdQ _ _=_; unfold AdQ; rw[HQ p1]) p1 V (λx hx=>nomatch hx) ?_
 have es:gK (c.rg g.u) (HW c.n c.R i) (HW c.n c.C j) (c.tb i j) (c.piece g.u j) [] true=(c.blk g.u i j,0):=by unfold gK;rw[if_neg (λD=>D (h.ring g.u)),if_neg (λD=>D p2)]; rfl
 simp only[es];unfold Ai0;rw[if_neg (by simp)];refine WA (a:=i) (b:=0) (by show w.grid.j=_; rw[d.gr]) hC (by omega) (by omega) ?_;refine kB (i:=i) (j:=j) h ⟨d.pl,d.pn,d.gr,d.lm,d.ch,d.ro,d.co⟩ hi hj (by show w.out.length<=_; omega) ?_;exact hQ _ (hfin _) rfl
variable {c:GC} {g:Gh}
theorem MapR.le {α:Type} {m:List (Int×α)} {N:Nat} {d:Nat->Bool} {P:Nat->α->Prop} (h:MapR m N d P):m.length<=N:=by rw[h.len]; have:=List.length_filter_le d (List.range N); simpa using this
theorem Aj4 {w:A0} {l:List B8} {n:Nat} {Q:Bool->Prop} (W:w.rows.Rows=(n:Int)) (hl:l.length<=1000) (U:Rise l) (K:∀ x∈l,0<=x.At∧x.At<n) (O:Q true):F7 w l Q:=by
 unfold F7;refine AD (σ:=Int) (λs k=>(s,k)) 0 l.length (s0:=-1) (by omega) (λk s=>∀ (q:Nat) (d:q<l.length),k<=q->s<l[q].At) (by omega) (λq d _=>by have:=(K _ (List.getElem_mem d)).1; omega) (λk s next _ hk J D=>?_) (λs next J=>?_)
 . refine A1 (λ_=>B3 hk (A1 (λh=>by have:=J k hk (Nat.le_refl _); omega) λ_=>A1 (λh=>by have:=(K _ (List.getElem_mem hk)).2; rw[W] at h; omega) λ_=>D _ λq d V=>U.adj d (by omega))) (λh=>by omega)
 . exact A1 (λh=>by omega) (λ_=>O)
theorem AfZ (h:c.Ok) {i k:Nat} (hi:i<c.R) (hk:k<=c.m) (hk':k<=1000) {w:A0} (hs:Wst c i 0 w) {L:List Nat} (hL:L.Perm (List.range c.C)) (V:Sm c (k+1) i L w.sums) (hh:w.has=c.sg k i) (hl:w.out.length<=1000) {Q:A0->Prop}
  (hQ:Q { w with aside:=c.asd (k+1) i,sums:=[],waits:=true,out:=w.out++[c.fVote (k+1) i] }):DO w ((k+1:Nat):Int) Q:=by
 have hln:=h.ln_n i hi;have hlen:=V.len;obtain⟨pl,pn,gr,lm,ch,ro,co,out,O,J,K,round,d,has,aside,waits,U,sums,Z,vote,W,D⟩:=w;obtain⟨w1,w2,w3,w4,w5,w6,w7⟩:=hs;simp only at w1 w2 w3 w4 w5 w6 w7 V hh hl hQ hlen;subst w1 w2 w3 w4 w5 w6 w7 hh;unfold DO;obtain⟨q1,q2,_⟩:=h.sg_St hi k;refine rF q2 ?_;rw[h.sg_sure hi];refine wH (by show sums.length<=_; omega) (AkJ _ _) (λx hx=>by have:=V.at_ x hx; unfold EZ; omega) (X9 ?_);have hrw:(c.rows i 0).Rows=(c.ln i:Int):=h.siz hi;simp only[hrw];have hfl:(sums.filter λx=>FS (JU c.p (c.sg k i)).1 (JU c.p (c.sg k i)).2 x.At).length<=sums.length:=List.length_filter_le _ _;refine vI (by omega) (λx hx=>V.ok x (List.mem_filter.1 hx).1) ?_;obtain⟨d1,d2⟩:=h.done hi hL V;rw[show JD c.p.Kind ((k+1:Nat):Int)=c.rg (k+1) from rfl]
 cases hov:c.ov (k+1) i with
 | true=>
  rw[d1 hov];refine AC rfl ?_;have hv:=wI (i:=i) (k:=k+1) (w:=⟨⟨i,(0:Nat)⟩,c.p,⟨c.R,c.C⟩,c.lim,c.ch,c.rows i 0,c.cols i 0,out,O,J,K,round,d,c.sg k i,c.sg k i,waits,U,[],Z,vote,W,D⟩) (Q:=Q) h ⟨rfl,rfl,rfl,rfl,rfl,rfl,rfl⟩ hi (by show out.length<=_; omega) (λh0=>by rw[hov] at h0; cases h0) (by unfold GC.asd at hQ; rw[hov] at hQ; exact hQ);rw[hov] at hv; exact hv
 | false=>
  obtain⟨y,d3,d4,d5⟩:=d2 hov;rw[d3];refine AU rfl (pG q2 (by omega) (by show y.Items.length<=_; omega) ?_);rw[show dM c.p (c.sg k i) ((k+1:Nat):Int) y=c.sg (k+1) i from d5];have hv:=wI (i:=i) (k:=k+1) (w:=⟨⟨i,(0:Nat)⟩,c.p,⟨c.R,c.C⟩,c.lim,c.ch,c.rows i 0,c.cols i 0,out,O,J,K,round,d,c.sg k i,c.sg (k+1) i,waits,U,[],Z,vote,W,D⟩) (Q:=Q) h ⟨rfl,rfl,rfl,rfl,rfl,rfl,rfl⟩ hi (by show out.length<=_; omega) (λ_=>rfl) (by unfold GC.asd at hQ; rw[hov] at hQ; exact hQ);rw[hov] at hv; exact hv
theorem Ag0 (h:c.Ok) {i u:Nat} (hi:i<c.R) (hu:1<=u) (d:u<c.U) {w:A0} (J:Wst c i 0 w) {L:List Nat} (O:L.Perm (List.range c.C)) (D:Sm c u i L w.sums) (V:w.has=c.sg (u - 1) i) (W:w.out.length<=1000) {Q:A0->Prop}
  (K:Q { w with aside:=c.asd u i,sums:=[],waits:=true,out:=w.out++[c.fVote u i] }):DO w (u:Int) Q:=by
 obtain⟨k,rfl⟩:∃ k,u=k+1:=⟨u - 1,by omega⟩;have hU:=h.U_b;exact AfZ h hi (by unfold GC.U at d; split at d <;> omega) (by omega) J O D V W K
theorem Ag1 (h:c.Ok) {i j:Nat} (hi:i<c.R) (hj:j<c.C) {w:A0} (hw:WOk c g i 0 w) (hu:1<=g.u) (hu':g.u<c.U) (hO:g.O i=true) (hA:g.A i j=false) {f:AA} (hr:f.Round=(g.u:Int)) (hv:f.Sums=c.blk g.u i j) (hl:w.out.length<=1000) {Q:Bool×A0->Prop}
   (hQ:∀ w',WOk c { g with A:=DL g.A i j } i 0 w'->w'.out=w.out++(if ({ g with A:=DL g.A i j }:Gh).row c i=true then [c.fVote g.u i] else [])->Q (true,w')):DP w f ⟨i,j⟩ Q:=by
 have d:=hw.st;have o:=hw.own rfl;have hUb:=h.U_b; have hR:=h.R1; have hC:=h.C1; have hln:=h.ln_n i hi;have hst0:c.st (g.u - 1)=0:=(h.st_go (by omega)).2 (by omega);have hrow:g.row c i=false:=decide_eq_false λD=>by have:=D j hj; rw[hA] at this; cases this
 have Z:g.rnd c i=g.u - 1:=by unfold Gh.rnd; rw[if_pos hO,if_neg (by rw[hst0]; omega)]
 have hmp:=o.came hu hu' hO;obtain⟨L,hsm,hnd,hL⟩:=o.sums hu hu' hO hrow;obtain⟨b1,b2,b3⟩:=h.blk_prop g.u hi j;have hbl:=ZD (a:=0) b1 (by simpa using b3);obtain⟨m1,m2⟩:=h.sm_add (j:=j) hi hsm;have K:=hmp.put (v:=true) hj hA rfl;have V:∀ k,DL g.A i j i k=if k=j then true else g.A i k:=λk=>by unfold DL; simp
 have J:({ g with A:=DL g.A i j }:Gh).row c i=decide (∀ k,k<c.C->DL g.A i j i k=true):=rfl;unfold DP;have e1:A6 (w.round+1)=(g.u:Int):=by rw[o.round,Z,AB (by omega) (by omega)]; omega
 have hstat:w.status=0:=by rw[o.status,if_pos ⟨hu,hO⟩,hst0]
 have hwt:w.waits=false:=by rw[o.waits,hO,hrow]; rfl
 have hcm:(B9 (j:Int) w.came).getD false=false:=by rw[hmp.no hA]; rfl
 refine BI (λh'=>absurd (by rw[d.pl]; rfl) h') λ_=>BI (λh'=>absurd (by rw[d.pl]) h') λ_=>BI (λh'=>absurd hstat h') λ_=>AC hwt (BI (λh'=>absurd (by rw[hr,e1]) h') λ_=>HH (AC hcm ?_));refine Aj4 (n:=c.ln i) (by rw[d.ro]; exact h.siz hi) (by rw[hv]; omega) (by rw[hv]; exact b1) (by rw[hv]; exact b3) (AC rfl (X9 ?_));rw[hv,show JD w.plan.Kind f.Round=c.rg g.u by rw[d.pn,hr]; rfl,hr];have hsl:=hsm.len;refine cC (by simp) (λl hl=>?_) ?_ (λl hl=>?_) ?_
 . simp only[List.mem_cons,List.not_mem_nil,or_false] at hl; rcases hl with rfl | rfl <;> omega
 . show w.sums.length+((c.blk g.u i j).length+0)<=_; omega
 . simp only[List.mem_cons,List.not_mem_nil,or_false] at hl; rcases hl with rfl | rfl
   . exact hsm.ok
   . exact b2
 rw[m1];dsimp only;have hgj:w.grid.j=(c.C:Int):=by rw[d.gr]
 have hle:=K.le; have hf:=K.full
 have W:∀ (w':A0),Wst c i 0 w'->w'.spread=w.spread->w'.share=w.share->w'.shares=w.shares->w'.vote=w.vote->w'.votes=w.votes->w'.closed=w.closed->w'.waits=({ g with A:=DL g.A i j }:Gh).row c i->w'.begun=w.begun->w'.round=w.round->w'.status=w.status->w'.has=w.has ->
     (({ g with A:=DL g.A i j }:Gh).row c i=true->w'.aside=c.asd g.u i)->(({ g with A:=DL g.A i j }:Gh).row c i=false->w'.sums=L5 (c.rg g.u) w.sums (c.blk g.u i j))->w'.came=DK (j:Int) true w.came->WOk c { g with A:=DL g.A i j } i 0 w':=by
   intro w' e0 e1 e2 e3 e4 e5 e6 e7 e8 e9 e10 e11 e12 e13 e14;refine⟨e0,by rw[e1]; exact hw.spread,λhz=>by rw[e2,e3]; exact hw.share hz,λ_=>⟨?_,by rw[e8]; exact o.begun,by rw[e9]; exact o.round,by rw[e10]; exact o.status,by rw[e11]; exact o.has,λD=>?_,λ_ _ _ D=>?_,λ_ _ _=>?_⟩,λhz _=>?_⟩
   . rw[e7]; show _=(!g.O i || _); rw[hO]; rfl
   . rw[e12 (by rw[<-e7]; exact D)]; show _=c.asd (if g.O i=true then g.u else g.u - 1) i; rw[if_pos hO]
   . refine⟨L++[j],by rw[e13 D]; exact m2,List.nodup_append.2 ⟨hnd,by simp,λa ha b hb e=>?_⟩,λk=>?_⟩
     . rw[List.mem_singleton] at hb; subst hb; subst e; have:=((hL a).1 ha).2; rw[hA] at this; cases this
     . rw[List.mem_append,List.mem_singleton,hL k];show _↔k<c.C∧DL g.A i j i k=true;rw[V];by_cases e:k=j
       . subst e; simp[hj]
       . simp[e]
   . rw[e14]; exact K.congr (λk _=>by show DL g.A i j i k=_; rw[V]) (λk v _ hv=>hv)
   . have q:=hw.one hz rfl;exact⟨by rw[e4]; exact q.vote,by rw[e5]; exact q.votes,by rw[e6]; exact q.closed⟩
 refine AV (λheq=>?_) (λhne=>?_)
 . have hall:∀ k,k<c.C->(if k=j then true else g.A i k)=true:=λk hk=>by
     cases hd:(if k=j then true else g.A i k) with
     | true=>rfl
     | false=>exact absurd (hf.2 ⟨k,hk,hd⟩) (by omega)
   have hr1:({ g with A:=DL g.A i j }:Gh).row c i=true:=by rw[J]; exact decide_eq_true λk hk=>by rw[V]; exact hall k hk
   have hP:(L++[j]).Perm (List.range c.C):=by
     refine(List.perm_ext_iff_of_nodup ?_ List.nodup_range).2 λa=>?_
     . refine List.nodup_append.2 ⟨hnd,by simp,λa ha b hb e=>?_⟩;rw[List.mem_singleton] at hb; subst hb; subst e; have:=((hL a).1 ha).2; rw[hA] at this; cases this
     . rw[List.mem_append,List.mem_singleton,hL a,List.mem_range];constructor
       . rintro(⟨h1,_⟩ | rfl)
         . exact h1
         . exact hj
       . intro ha;have:=hall a ha;by_cases e:a=j
         . exact .inr e
         . rw[if_neg e] at this; exact .inl ⟨ha,this⟩
   refine Ag0 (w:={ w with sums:=L5 (c.rg g.u) w.sums (c.blk g.u i j),came:=DK (j:Int) true w.came }) h hi hu hu' ⟨d.pl,d.pn,d.gr,d.lm,d.ch,d.ro,d.co⟩ hP m2 (by show w.has=_; rw[o.has,Z]) hl ?_;refine hQ _ (W _ ⟨d.pl,d.pn,d.gr,d.lm,d.ch,d.ro,d.co⟩ rfl rfl rfl rfl rfl rfl hr1.symm rfl rfl rfl rfl (λ_=>rfl) (λD=>by rw[hr1] at D; cases D) rfl) ?_;rw[hr1]; rfl
 . obtain⟨k,hk,hd⟩:=hf.1 (by omega);have hr0:({ g with A:=DL g.A i j }:Gh).row c i=false:=by rw[J]; exact decide_eq_false λD=>by have:=D k hk; rw[V,hd] at this; cases this
   refine hQ _ (W _ ⟨d.pl,d.pn,d.gr,d.lm,d.ch,d.ro,d.co⟩ rfl rfl rfl rfl rfl rfl ?_ rfl rfl rfl rfl (λD=>by rw[hr0] at D; cases D) (λ_=>rfl) rfl) (by rw[hr0]; simp);rw[hr0]; exact hwt
end Go.Proofs.YtkbkaodgfedfmaaGreat
