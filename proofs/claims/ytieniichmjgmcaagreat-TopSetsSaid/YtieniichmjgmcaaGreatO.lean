import Derived.Test.YtieniichmjgmcaaGreatM
set_option linter.unusedVariables false
set_option linter.unusedSimpArgs false
namespace Go.Proofs.YtieniichmjgmcaaGreat
section
open Go Go.Fw
structure MapR {α:Type} (m:List (Int×α)) (N:Nat) (dom:Nat→Bool) (P:Nat→α→Prop):Prop where
 ks:ES m
 key:∀ k∈m.map (·.1),∃ i,i<N∧k=(i:Int)∧dom i=true
 get:∀ i,i<N→dom i=true→∃ v,BA (i:Int) m=some v∧P i v
section
variable {α:Type} {m:List (Int×α)} {N:Nat} {dom:Nat→Bool} {P:Nat→α→Prop}
theorem MapR.nil (N:Nat) (P:Nat->α->Prop) (h:∀ i,i<N->dom i=false):MapR [] N dom P:=⟨ApG,λ_ hk=>by simp at hk,λi hi d=>by rw[h i hi] at d; cases d⟩
theorem MapR.no (h:MapR m N dom P) {i:Nat} (d:dom i=false):BA (i:Int) m=none:=dF λhk=>by have⟨_,_,_,_⟩:=h.key _ hk;grind
theorem MapR.congr (h:MapR m N dom P) {d:Nat->Bool} {U:Nat->α->Prop} (V:∀ i,i<N->d i=dom i) (W:∀ i v,i<N->P i v->U i v):MapR m N d U:=
 ⟨h.ks,λk hk=>by have⟨i,D,J,Z⟩:=h.key k hk; exact⟨i,D,J,by rw[V i D]; exact Z⟩,λi hi O=>by have⟨v,D,J⟩:=h.get i hi (by rw[<-V i hi]; exact O); exact⟨v,D,W i v hi J⟩⟩
theorem MapR.put (h:MapR m N dom P) {i:Nat} {v:α} (hi:i<N) (V:dom i=false) (U:P i v):MapR (DY (i:Int) v m) N (λk=>if k=i then true else dom k) P:=by
 refine⟨HF h.ks _ _,λk hk=>?_,λk hk d=>?_⟩
 . rw[oC] at hk
   have D:k∈m.map (·.1)∨k=(i:Int):=by grind
   rcases D with hk | rfl
   . have⟨_,J,O,_⟩:=h.key k hk;grind
   grind
 . by_cases e:k=i
   . subst e; exact⟨v,CT _ _ _,U⟩
   . rw[if_neg e] at d;have⟨w,J,O⟩:=h.get k hk d;exact⟨w,by rw[D4 (by omega)]; exact J,O⟩
theorem MapR.len (h:MapR m N dom P):m.length=((List.range N).filter dom).length:=by
 have hp:(m.map (·.1)).Perm (((List.range N).filter dom).map λi:Nat=>(i:Int)):=by
  refine(AdN h.ks ?_).2 λk=>⟨λhk=>?_,λhk=>?_⟩
  . exact List.Pairwise.map (S:=(· ≠ ·)) (λi:Nat=>(i:Int)) (R:=(· ≠ ·)) (λa b d e=>d (by have:(a:Int)=b:=e; omega)) (gS _ List.nodup_range)
  . have⟨i,D,J,_⟩:=h.key k hk;grind
  . obtain⟨i,hi,rfl⟩:=List.mem_map.1 hk;have⟨D,J⟩:=List.mem_filter.1 hi;have⟨_,O,_⟩:=h.get i (List.mem_range.1 D) J;exact AeD O
 have:=hp.length_eq;grind
theorem MapR.full (h:MapR m N dom P):(m.length<N↔∃ i,i<N∧dom i=false):=by
 rw[h.len];constructor
 . intro J;rcases yU (∃ i,i<N∧dom i=false) with d | d
   . exact d
   . have:(List.range N).filter dom=List.range N:=List.filter_eq_self.2 λi hi=>by grind
     grind
 . rintro⟨i,hi,_⟩;have O:((List.range N).filter dom).length<=N:=by grind
   rcases ZZ ((List.range N).filter dom).length N with D | D
   . exact D
   . have U:(List.range N).filter dom=List.range N:=List.filter_sublist.eq_of_length (by simp; omega);simp_all
theorem MapR.mem (h:MapR m N dom P) {x:Int×α} (d:x∈m):∃ i,i<N∧x.1=(i:Int)∧dom i=true∧P i x.2:=by
 have⟨i,J,_,U⟩:=h.key x.1 (List.mem_map.2 ⟨x,d,rfl⟩);have⟨_,_,_⟩:=h.get i J U
 have V:∀ (l:List (Int×α)),ES l->x∈l->BA x.1 l=some x.2:=by
  intro l
  induction l with
  | nil=>grind
  | cons y l O=>
   intro hk d;have D:=List.nodup_cons.1 hk;rcases List.mem_cons.1 d with e | d
   . subst e; simp[BA]
   . have W:x.1≠y.1:=λe=>D.1 (List.mem_map.2 ⟨x,d,e⟩);have:=O D.2 d;simp only[BA]; grind
 have:=V m h.ks d;grind
end
section
variable (c:GC)
def GC.num (i j:Nat):Int:=((i*c.C+j:Nat):Int)
noncomputable def GC.fVote (u i:Nat):AO:=⟨4,c.num i 0,0,0,u,zV,[],[],if c.ov u i=true then 0 else c.lv u i,c.ov u i⟩
def GC.fOrder (t i:Nat):AO:=⟨5,0,c.num i 0,0,t,zV,[],[],c.st t,false⟩
def GC.fShare (u i j:Nat):AO:=⟨1,c.num i 0,j,0,u,c.slice u i j,[],[],0,false⟩
def GC.fSpread (u j i:Nat):AO:=⟨2,j,c.num i j,0,u,c.piece u j,[],[],0,false⟩
def GC.fGather (u i j:Nat):AO:=⟨3,c.num i j,c.num i 0,0,u,zV,c.blk u i j,[],0,false⟩
end
variable {c:GC}
structure Wst (c:GC) (i j:Nat) (w:A1):Prop where
 pl:w.place=⟨i,j⟩
 pn:w.plan=c.p
 gr:w.grid=⟨c.R,c.C⟩
 lm:w.limit=c.lim
 ch:w.choices=c.ch
 ro:w.rows=c.rows i j
 co:w.cols=c.cols i j
theorem XU {w:A1} {C a b:Nat} {Q:Int->Prop} (J:w.grid.j=C) (W:1<=C∧C<=5) (Z:a<8) (hb:b<C) (U:Q ((a*C+b:Nat):Int)):CF w a b Q:=by
 unfold CF iF;rw[J];refine lY ?_;rw[decide_eq_true (show IZ (C:Int) by unfold IZ; omega)];have V:a*C<=8*5:=ApF (by omega) (by omega);refine AH rfl (A0 (λh=>by omega) λ_=>A0 (λh=>by omega) λ_=>A0 (λh=>by omega) λ_=>A0 (λh=>by omega) λ_=>?_);have d:(a:Int)*C=((a*C:Nat):Int):=by omega
 have O:A5 ((a*C:Nat):Int)=((a*C:Nat):Int):=A7 (by omega) (by omega);rw[d,O,A7 (by omega) (by omega)];have D:((a*C:Nat):Int)+(b:Int)=((a*C+b:Nat):Int):=by omega
 rw[D]; exact U
theorem pH {i j:Nat} {w:A1} {f:AO} {Q:A1->Prop} (h:c.Ok) (d:Wst c i j w) (hi:i<c.R) (D:j<c.C) (O:w.out.length<=100000)
  (J:Q { w with out:=w.out++[{ f with From:=c.num i j }] }):CE w f Q:=by
 unfold CE;rw[show w.place.i=(i:Int) by rw[d.pl],show w.place.j=(j:Int) by rw[d.pl]];have:=h.R1; have:=h.C1;exact XU (by rw[d.gr]) h.C1 (by omega) D (AK (by simp; omega) J)
theorem AcU {i:Nat} {w:A1} {k:Nat} {Q:A1->Prop} (h:c.Ok) (d:Wst c i 0 w) (hi:i<c.R) (O:w.out.length<=100000) (U:c.ov k i=false->w.aside=c.sg k i)
  (D:Q { w with waits:=true,out:=w.out++[c.fVote k i] }):DB w k (c.ov k i) Q:=by
 unfold DB;have W:=h.C1;have J:Wst c i 0 { w with waits:=true }:=⟨d.pl,d.pn,d.gr,d.lm,d.ch,d.ro,d.co⟩
 cases V:c.ov k i with
 | true=>
  refine AH rfl (pH (j:=0) h J hi (by omega) O ?_);unfold GC.fVote at D; rw[V] at D; exact D
 | false=>
  refine B7 rfl ?_;refine AcJ (by rw[U V]; exact(h.sg_St hi k).2.1) ?_;rw[show OS w.plan w.aside k=c.lv k i by rw[d.pn,U V]; exact h.live hi k];refine pH (j:=0) h J hi (by omega) O ?_;unfold GC.fVote at D; rw[V] at D; exact D
theorem AsD {i:Nat} {w:A1} {k:Nat} {Q:A1->Prop} (h:c.Ok) (hw:Wst c i 0 w) (hi:i<c.R) (hl:w.out.length<=1000) (hk:k<=100000) (U:w.round=k) (O:w.has=c.sg k i)
   (J:Q { w with out:=w.out++(List.range c.C).map (c.fShare (k+1) i),sums:=[],came:=[] }):FO w Q:=by
 have⟨_,_,_,_,_,_,_,out,a6,a3,a2,_,a4,_,a5,b1,a7,sums,came,b0,a8,a9⟩:=w;have⟨V,W,Z,w4,w5,w6,w7⟩:=hw;simp only at V W Z w4 w5 w6 w7 hl U O J;subst V W Z w4 w5 w6 w7 U O;unfold FO;have hC:=h.C1; have c0:=h.n4;have D:A5 ((k:Int)+1)=((k+1:Nat):Int):=by rw[A7 (by omega) (by omega)]; omega
 simp only[D];refine AfK (h.sg_St hi k).2.1 (by omega) ?_;have e2:ZU c.p (c.sg k i) ((k+1:Nat):Int)=FW (c.vV (k+1)) c.R i:=h.out_part hi;rw[e2];refine A6 (σ:=List AO) (τ:=A1×Int) (λs j=>(⟨⟨i,(0:Nat)⟩,c.p,⟨c.R,c.C⟩,c.lim,c.ch,c.rows i 0,c.cols i 0,s,a6,a3,a2,k,a4,c.sg k i,a5,b1,a7,sums,came,b0,a8,a9⟩,j)) 0 c.C (s0:=out) (by omega) (λj s=>s=out++(List.range j).map (c.fShare (k+1) i)) (by omega) (by simp) (λj s next _ _ d hn=>?_) (λs next d=>?_)
 . subst d;refine A0 (λ_=>?_) (λh=>absurd (show(j:Int)<c.C by omega) h);simp only[D,h.pn];refine uX (by have:=oV (c.vV (k+1)) c.R i; have:=mK c.n (c.tV (k+1)); show(FW (c.vV (k+1)) c.R i).Items.length<=_; unfold GC.vV at *; simp only at *; omega) ?_;refine pH (i:=i) (j:=0) h ⟨rfl,rfl,rfl,rfl,rfl,rfl,rfl⟩ hi (by omega) (by simp; omega) (hn _ ?_);rw[ZX,dA,<-nL]; rfl
 . subst d;refine A0 (λh=>absurd (show(c.C:Int)<c.C from h) (by omega)) (λ_=>?_);exact J
variable {c:GC}
theorem AyL {n k:Nat} (hk:1<=k):∀ {v:Nat},v<n->∃ i,i<k∧aF n k i<=v∧v<aF n k (i+1):=by
 intro v d
 have H:∀ q,v<aF n k q->∃ i,i<q∧aF n k i<=v∧v<aF n k (i+1):=by
  intro q
  induction q with
  | zero=>intro h; rw[AfY] at h; omega
  | succ q D=>
   grind
 exact H k (by rw[sM n hk]; exact d)
section
theorem GC.Ok.part (h:c.Ok) {v:Nat} (D:v<c.n):∃ i a,i<c.R∧a<c.ln i∧v=c.ls i+a:=by have⟨i,d,_,_⟩:=AyL (k:=c.R) h.R1.1 D;refine⟨i,v - c.ls i,d,?_,?_⟩ <;> (simp only[GC.ln,GC.ls]; omega)
theorem GC.Ok.seq (h:c.Ok) {k:Nat} (hk:k<=c.m):RR c.p c.T k=CU 0 c.n (c.G k):=sK h.run.rp h.pn λj _=>h.run.en.lt j (by omega)
theorem GC.Ok.ov_ex (h:c.Ok) (k:Nat):(∃ i,i<c.R∧c.ov (k+1) i=true)↔∃ v,v<c.n∧c.ovV (k+1) v:=by
 constructor
 . rintro⟨i,hi,d⟩;have⟨_,a,D,J⟩:=c.ov_iff.1 d;exact⟨_,by have:=h.ls_n hi; omega,J⟩
 . rintro⟨v,O,d⟩;obtain⟨i,a,hi,D,rfl⟩:=h.part O;exact⟨i,hi,c.ov_iff.2 ⟨by omega,a,D,d⟩⟩
theorem GC.Ok.step_err (h:c.Ok) {k:Nat} (hk:k<=c.m):(OT c.p c.T (RR c.p c.T k) ((k:Int)+1)).2≠0↔∃ i,i<c.R∧c.ov (k+1) i=true:=by
 rw[h.ov_ex,h.seq hk];have⟨W,Z⟩:=vO (T:=c.T) (G:=c.G k) (round:=((k:Int)+1)) h.run.rp h.pn;constructor
 . intro V;rcases yU (∃ v,v<c.n∧c.ovV (k+1) v) with d | d
   . exact d
   . refine absurd ?_ V;rw[Z];intro v w D J O
     cases U:(GY w).2 with
     | true=>rfl
     | false=>exact absurd ⟨v,D,J,w,O,U⟩ d
 . rintro⟨v,D,J,w,O,U⟩;rw[W ⟨v,w,D,J,O,U⟩]; decide
theorem GC.Ok.live_all (h:c.Ok) {k:Nat} (hk:k<=c.m):OS c.p (RR c.p c.T k) k=0↔∀ i,i<c.R->c.lv k i=0:=by
  rw[h.seq hk,vN h.run.rp (by have:=h.pn; omega)];have Z:∀ v,0+v=v:=nU;unfold GC.lv;by_cases hq:c.p.Kind=4∧c.p.Length<=k
  . grind
  . rw[if_neg hq];have e:(λi=>if c.p.Kind=5 then (c.G k (0+i)).1==0 else (c.G k (0+i)).2.2)=c.lvV k:=by funext i; rw[Z]; rfl
    rw[e];constructor
    . intro O i hi;rw[if_neg hq]
      have:E6 (c.ln i) (λa=>c.lvV k (c.ls i+a))=0:=by
        rcases aL (E6 (c.ln i) λa=>c.lvV k (c.ls i+a)) with d | d
        . exact d
        . have⟨a,V,D⟩:=XR (by omega:E6 (c.ln i) (λa=>c.lvV k (c.ls i+a))≠0)
          have U:E6 c.n (c.lvV k)≠0:=λ_=>by
            have := vQ (n := c.n) (f := c.lvV k) (g := λv => v == c.ls i + a) (λv _ J => by
              have : v = c.ls i + a := by simpa using J
              rw[this]; exact D)
            have W:0<E6 c.n (λv=>v==c.ls i+a):=by unfold E6; exact List.countP_pos_iff.2 ⟨c.ls i+a,List.mem_range.2 (by have:=h.ls_n hi; omega),by simp⟩
            omega
          omega
      omega
    . intro O;rcases aL (E6 c.n (c.lvV k)) with d | d
      . omega
      . have⟨v,J,D⟩:=XR (by omega:E6 c.n (c.lvV k)≠0);obtain⟨i,a,hi,V,rfl⟩:=h.part J;have U:=O i hi;rw[if_neg hq] at U;have W:0<E6 (c.ln i) (λa=>c.lvV k (c.ls i+a)):=by unfold E6; exact List.countP_pos_iff.2 ⟨a,List.mem_range.2 V,D⟩
        omega
theorem GC.Ok.no_ov (h:c.Ok) {u:Nat} (O:u<=c.m) {i:Nat} (hi:i<c.R):c.ov u i=false:=by
 cases d:c.ov u i with
 | false=>rfl
 | true=>
  cases u with
  | zero=>exact absurd rfl (c.ov_iff.1 d).1
  | succ k=>
   have D:=(h.step_err (k:=k) (by omega)).2 ⟨i,hi,d⟩;have J:=(VY (h.run.en.lt k (by omega))).2.2;omega
open Classical in
theorem GC.Ok.counts (h:c.Ok) {u:Nat} (V:u<c.U):c.st u=if ∃ i,i<c.R∧c.ov u i=true then 3 else if ∀ i,i<c.R->c.lv u i=0 then 1 else if (u:Int)=c.lim then 2 else 0:=by
 have O:=h.run.en;have hs:=AlS O.ne O.at_;unfold GC.U at V;unfold GC.st GC.U;by_cases h3:c.e=3
 . rw[if_pos h3] at V ⊢
   have a2:OS c.p (RR c.p c.T c.m) c.m≠0∧(c.m:Int)≠c.lim∧(OT c.p c.T (RR c.p c.T c.m) ((c.m:Int)+1)).2≠0:=by omega
   by_cases hm:u=c.m+1
   . subst hm;rw[if_pos rfl,if_pos ((h.step_err (Y3 _)).1 a2.2.2),h3]
   . rw[if_neg (by omega),if_neg (λ⟨i,hi,J⟩=>by rw[h.no_ov (by omega) hi] at J; cases J)]
     have Z:OS c.p (RR c.p c.T u) u≠0∧(u:Int)≠c.lim:=by
       rcases ZZ u c.m with W | W
       . have:=VY (O.lt u W); omega
       grind
     rw[if_neg (λD=>Z.1 ((h.live_all (by omega)).2 D)),if_neg Z.2]
 . rw[if_neg h3] at V ⊢;have d:¬ ∃ i,i<c.R∧c.ov u i=true:=λ⟨i,hi,J⟩=>by rw[h.no_ov (by omega) hi] at J; cases J
   by_cases hm:u=c.m
   . subst hm;rw[if_pos rfl,if_neg d];rcases hs with⟨a,e⟩ | ⟨a,b,e⟩ | ⟨_,_,_,e⟩
     . rw[if_pos ((h.live_all (Y3 _)).1 a),e]
     . rw[if_neg (λD=>a ((h.live_all (Y3 _)).2 D)),if_pos b,e]
     . omega
   . have:=VY (O.lt u (by omega));rw[if_neg (by omega),if_neg d,if_neg (λD=>this.1 ((h.live_all (by omega)).2 D)),if_neg this.2.1]
theorem GC.Ok.st_b (h:c.Ok) (t:Nat):0<=c.st t∧c.st t<=3:=by have d:=AlS h.run.en.ne h.run.en.at_;unfold GC.st;omega
theorem GC.Ok.st_go (h:c.Ok) {t:Nat} (d:t<c.U):c.st t=0↔t+1<c.U:=by have:=h.run.en.ne;unfold GC.st;omega
theorem GC.Ok.st_three (h:c.Ok) {t i:Nat} (D:t<c.U) (d:c.st t≠3) (hi:i<c.R):c.ov t i=false:=by refine h.no_ov ?_ hi;unfold GC.st GC.U at *;grind
theorem GC.Ok.U_b (h:c.Ok):1<=c.U∧c.U<=62:=by have:=h.run.en.le; have:=h.lm;unfold GC.U; grind
end
structure Gh where
 u:Nat
 O:Nat→Bool
 S:Nat→Nat→Bool
 E:Nat→Nat→Bool
 A:Nat→Nat→Bool
 V:Nat→Bool
section
variable (c:GC) (g:Gh)
def Gh.col (j:Nat):Bool:=decide (∀ i,i<c.R->g.S i j=true)
def Gh.row (i:Nat):Bool:=decide (∀ j,j<c.C->g.A i j=true)
def Gh.rnd (i:Nat):Nat:=if g.O i=true then (if c.st (g.u - 1)=3 then g.u - 2 else g.u - 1) else g.u - 2
structure Gh.Ok:Prop where
 u:g.u≤c.U
 S:∀ i j,i<c.R→g.S i j=true→g.O i=true∧g.u<c.U
 E:∀ i j,i<c.R→j<c.C→g.E i j=true→g.col c j=true
 A:∀ i j,i<c.R→j<c.C→g.A i j=true→g.E i j=true
 V:∀ i,i<c.R→g.V i=true→g.row c i=true
 no:∃ i,i<c.R∧g.V i=false
 z:g.u=0→∀ i,i<c.R→g.O i=true∧g.row c i=true
end
noncomputable def GC.asd (c:GC) (k i:Nat):State:=if c.ov k i=true then c.sg (k - 1) i else c.sg k i
variable {g:Gh}
structure Own (c:GC) (g:Gh) (i:Nat) (w:A1):Prop where
 waits:w.waits=(!g.O i || g.row c i)
 begun:w.begun=(decide (2≤g.u) || decide (1≤g.u) && g.O i)
 round:w.round=(g.rnd c i:Int)
 status:w.status=if 1≤g.u∧g.O i=true then c.st (g.u - 1) else 0
 has:w.has=c.sg (g.rnd c i) i
 aside:w.waits=true→w.aside=c.asd (if g.O i=true then g.u else g.u - 1) i
 sums:1≤g.u→g.u<c.U→g.O i=true→g.row c i=false→∃ L,Sm c g.u i L w.sums∧L.Nodup∧∀ j,j∈L↔j<c.C∧g.A i j=true
 came:1≤g.u→g.u<c.U→g.O i=true→MapR w.came c.C (g.A i) (fun _ v=>v=true)
structure One (c:GC) (g:Gh) (w:A1):Prop where
 vote:w.vote=g.u
 votes:MapR w.votes c.R g.V (fun i f=>f.N=(c.fVote g.u i).N∧f.Over=(c.fVote g.u i).Over)
 closed:w.closed=decide (1≤g.u∧c.st (g.u - 1)≠0)
structure WOk (c:GC) (g:Gh) (i j:Nat) (w:A1):Prop where
 st:Wst c i j w
 spread:w.spread=((g.u+if g.E i j=true then 1 else 0:Nat):Int)
 share:i=0→w.share=((g.u+if g.col c j=true then 1 else 0:Nat):Int)∧MapR w.shares c.R (fun k=>!g.col c j && g.S k j) (fun k v=>v=c.slice g.u k j)
 own:j=0→Own c g i w
 one:i=0→j=0→One c g w
theorem Gh.col_congr {g d:Gh} {j:Nat} (h:∀ i,d.S i j=g.S i j):d.col c j=g.col c j:=by grind[Gh.col]
theorem Gh.row_congr {g d:Gh} {i:Nat} (h:∀ j,d.A i j=g.A i j):d.row c i=g.row c i:=by grind[Gh.row]
theorem WOk.congr {D:Gh} {i j:Nat} {w:A1} (h:WOk c g i j w) (J:D.u=g.u) (hE:D.E i j=g.E i j) (hS:i=0->∀ k,D.S k j=g.S k j) (hO:j=0->D.O i=g.O i) (hA:j=0->∀ k,D.A i k=g.A i k)
   (hV:i=0->j=0->∀ k,D.V k=g.V k):WOk c D i j w:=by
 refine⟨h.st,by rw[J,hE]; exact h.spread,λhi=>?_,λU=>?_,λhi U=>?_⟩
 . have hc:D.col c j=g.col c j:=Gh.col_congr (hS hi);have⟨_,_⟩:=h.share hi;grind
 . have hr:D.row c i=g.row c i:=Gh.row_congr (hA U);have W:=hO U;have hn:D.rnd c i=g.rnd c i:=by grind[Gh.rnd]
   have o:=h.own U;refine⟨by rw[W,hr]; exact o.waits,by rw[J,W]; exact o.begun,by rw[hn]; exact o.round,by rw[J,W]; exact o.status,by rw[hn]; exact o.has,λhw=>by rw[J,W]; exact o.aside hw,λa b d e=>?_,λa b d=>?_⟩
   . rw[J] at a b; rw[W] at d; rw[hr] at e;have⟨_,_,_,_⟩:=o.sums a b d e;grind
   . rw[J] at a b; rw[W] at d;exact(o.came a b d).congr (λk _=>by rw[hA U]) (λk v _ Z=>Z)
 . have o:=h.one hi U;refine⟨by rw[J]; exact o.vote,?_,by rw[J]; exact o.closed⟩;rw[J];exact o.votes.congr (λk _=>hV hi U k) (λk v _ Z=>Z)
variable {c:GC} {g:Gh}
section
theorem GC.Ok.grd (h:c.Ok) {i j:Nat} (hi:i<c.R) (d:j<c.C):XN (c.R:Int) (c.C:Int) (i:Int) (j:Int):=⟨⟨h.mp.2.1,h.mp.2.2⟩,by omega,by omega⟩
theorem GC.Ok.slice_P (h:c.Ok) (t:Nat) {i j:Nat} (hi:i<c.R) (Z:j<c.C):VecP (c.slice t i j)∧(c.slice t i j).N=iM c.n c.R c.C i j - XO c.n c.R c.C i j∧(c.slice t i j).Items.length<=1000:=by
 have U:=h.vec t;have J:=oX U (h.grd hi Z);have a2:=U9 (n:=c.n) (k:=c.C) (i:=j); have D:=U9 (n:=c.n) (k:=c.C) (i:=(j:Int)+1); have O:=II (n:=c.n) (k:=c.C) (show(j:Int)<=(j:Int)+1 by omega);have V:=D.2 (by omega);have d:∀ x,AW c.n c.C j<=aC (AW c.n c.C j) (AW c.n c.C ((j:Int)+1)) x∧aC (AW c.n c.C j) (AW c.n c.C ((j:Int)+1)) x<=AW c.n c.C ((j:Int)+1):=λx=>by unfold aC; repeat' split <;> omega
 have h1:=d (AW c.n c.R i); have h2:=d (AW c.n c.R ((i:Int)+1));have e:c.slice t i j=_:=J.1;refine⟨?_,?_,?_⟩
 . rw[e];exact Al7 U (by show(0:Int)<=aC (AW c.n c.C j) (AW c.n c.C ((j:Int)+1)) (AW c.n c.R i); omega) (sI O (II (by omega))) (by show aC (AW c.n c.C j) (AW c.n c.C ((j:Int)+1)) (AW c.n c.R ((i:Int)+1))<=(c.n:Int); omega)
 . rw[e]; exact J.2.symm
 . have h3:=An9 (FW (c.vV t) c.R i) c.n c.R c.C i j;have h4:=oV (c.vV t) c.R i;have W:=mK c.n (c.tV t);have h6:(c.vV t).Items.length<=c.n:=W;have:=h.n4;show(S5 (FW (c.vV t) c.R i) c.n c.R c.C i j).Items.length<=1000;omega
theorem GC.Ok.piece_P (h:c.Ok) (t:Nat) {j:Nat} (O:j<c.C):VecP (c.piece t j)∧(c.piece t j).N=JO c.n c.C j∧(c.piece t j).Items.length<=1000:=by have hp:=lZ (h.vec t) h.mp.2.2 (j:=j) (by omega);refine⟨hp.1,hp.2.1,?_⟩;have D:=oV (c.vV t) c.C j;have d:=mK c.n (c.tV t);have J:(c.vV t).Items.length<=c.n:=d;have:=h.n4;show(FW (c.vV t) c.C j).Items.length<=1000;omega
theorem GC.Ok.piece_in (h:c.Ok) {k:Nat} (hk:k<=c.m) {j:Nat} (J:j<c.C):∀ x∈(c.piece (k+1) j).Items,DH x.Val:=by
 refine(lZ (h.vec (k+1)) h.mp.2.2 (j:=j) (by omega)).2.2.2 λx d=>?_;have D:=(h.run.whole hk).out ((k:Int)+1);refine D.2.1 x ?_;rw[h.seq hk,AcL h.run.rp (by have:=h.pn; omega)];have e:(λi=>HP c.p ((k:Int)+1) (0+i) (c.G k (0+i)))=c.tV (k+1):=by funext i; rw[nU]; rfl
 rw[e]; exact d
end
theorem Ag1 {f:AO} {n:Int} {Q:Vec×Bool->Prop} (J:f.Vec.Items.length<=1000) (h:VecP f.Vec) (D:f.Vec.N=n) (d:Q (f.Vec,true)):M5 f n Q:=by
 unfold M5;refine cB (by omega) (F3 (by show f.Vec.Items.length<=_; omega) ?_);rw[decide_eq_true (show VecP ⟨f.Vec.N,f.Vec.Items⟩ from h)];refine B7 rfl ?_;have:(f.Vec.N==n)=true:=by simp[D]
 rw[this]; exact d
theorem AuL {w:A1} {i j:Nat} {Q:Int->Prop} (h:c.Ok) (d:Wst c 0 j w) (hi:i<c.R) (hj:j<c.C) (Z:Q (iM c.n c.R c.C i j - XO c.n c.R c.C i j)):G2 w i Q:=by
 unfold G2;have J:w.plan.N=c.n:=by rw[d.pn,h.pn]
 have hR:=h.R1; have W:=h.C1;have O:A5 ((i:Int)+1)=(i:Int)+1:=A7 (by omega) (by omega);have D:A5 ((j:Int)+1)=(j:Int)+1:=A7 (by omega) (by omega);rw[J,d.gr,d.pl];refine HN (HN ?_);rw[O];refine HN ?_;rw[D];refine HN ?_;have V:=Q9 c.n c.R i; have b2:=Q9 c.n c.R ((i:Int)+1); have b3:=Q9 c.n c.C j; have b4:=Q9 c.n c.C ((j:Int)+1);simp only
 have e:(if A5 ((if AW c.n c.C ((j:Int)+1)<AW c.n c.R ((i:Int)+1) then AW c.n c.C ((j:Int)+1) else AW c.n c.R ((i:Int)+1)) - (if AW c.n c.C j > AW c.n c.R i then AW c.n c.C j else AW c.n c.R i)) > 0 then A5 ((if AW c.n c.C ((j:Int)+1)<AW c.n c.R ((i:Int)+1) then AW c.n c.C ((j:Int)+1) else AW c.n c.R ((i:Int)+1)) - (if AW c.n c.C j > AW c.n c.R i then AW c.n c.C j else AW c.n c.R i)) else 0)=iM c.n c.R c.C i j - XO c.n c.R c.C i j:=by unfold iM XO mx mn;generalize AW c.n c.R i=a1 at *; generalize AW c.n c.R ((i:Int)+1)=a2 at *; generalize AW c.n c.C j=a3 at *; generalize AW c.n c.C ((j:Int)+1)=U at *;rw[A7 (by split <;> split <;> omega) (by split <;> split <;> omega)];omega
 grind
def HV (f:Nat->Bool) (i:Nat):Nat->Bool:=λk=>if k=i then true else f k
def DW (f:Nat->Nat->Bool) (i j:Nat):Nat->Nat->Bool:=λa b=>if a=i∧b=j then true else f a b
theorem Gh.Ok.noA (d:g.Ok c) (h:c.Ok) {i:Nat} (hi:i<c.R) (hO:g.O i=false):(∀ j,j<c.C->g.A i j=false)∧g.row c i=false:=by
 have J:∀ j,j<c.C->g.A i j=false:=λj D=>by
  cases W:g.A i j with
  | false=>rfl
  | true=>
   have U:=d.E i j hi D (d.A i j hi D W);have Z:=(d.S i j hi (of_decide_eq_true U i hi)).1;grind
 refine⟨J,?_⟩;unfold Gh.row;refine decide_eq_false λV=>?_;have:=V 0 (by have:=h.C1; omega);rw[J 0 (by have:=h.C1; omega)] at this; cases this
theorem AnY (h:c.Ok) (hg:g.Ok c) {i:Nat} (hi:i<c.R) {w:A1} (W:WOk c g i 0 w) (hu:1<=g.u) (Z:g.O i=false) {f:AO} (hr:f.Round=((g.u - 1:Nat):Int)) (hn:f.N=c.st (g.u - 1)) (hl:w.out.length<=1000) {Q:Bool×A1->Prop}
   (hQ:∀ w',WOk c { g with O:=HV g.O i } i 0 w'->w'.out=w.out++(if g.u<c.U then (List.range c.C).map (c.fShare g.u i) else [])->Q (true,w')):E5 w f ⟨0,0⟩ Q:=by
 have⟨hA,d0⟩:=hg.noA h hi Z;have hU:=h.U_b; have d3:=hg.u; have d5:=h.st_b (g.u - 1);have o:=W.own rfl;have a6:w.waits=true:=by rw[o.waits,Z]; rfl
 have has:w.aside=c.asd (g.u - 1) i:=by have:=o.aside a6; grind
 have d2:w.status=0:=by rw[o.status,if_neg (by rw[Z]; simp)]
 have c2:w.round=((g.u - 2:Nat):Int):=by have:=o.round; unfold Gh.rnd at this; grind
 have d6:w.has=c.sg (g.u - 2) i:=by have:=o.has; unfold Gh.rnd at this; grind
 have c1:w.begun=decide (2<=g.u):=by rw[o.begun,Z]; simp
 have d:=W.st;unfold E5;refine BH (λt=>t=((g.u - 1:Nat):Int)) ?_ ?_;rotate_left
 . intro k hk;rw[c1,c2];refine A0 (λh2=>hk _ ?_) (λh2=>hk _ (by omega));rw[A7 (by omega) (by omega)]; omega
 rintro _ rfl;rw[show w.place.j=0 by rw[d.pl]; rfl];refine BU (λD=>absurd rfl D) λ_=>AH (by simp) (AH (by rw[a6]; rfl) (BU (λD=>absurd d2 D) λ_=>BU (λD=>absurd hr D) λ_=>?_));rw[hn];refine A0 (λD=>by omega) λ_=>A0 (λD=>by omega) λ_=>?_;have V:HV g.O i i=true:=if_pos rfl;have d1:({ g with O:=HV g.O i }:Gh).row c i=false:=d0;have c0:({ g with O:=HV g.O i }:Gh).rnd c i=if c.st (g.u - 1)=3 then g.u - 2 else g.u - 1:=if_pos V
 -- whatever else is put into it
 have a2:∀ (w':A1),Wst c i 0 w'->w'.spread=w.spread->w'.share=w.share->w'.shares=w.shares->w'.vote=w.vote->w'.votes=w.votes->w'.closed=w.closed->w'.waits=false->w'.begun=true->w'.round=(({ g with O:=HV g.O i }:Gh).rnd c i:Int)->w'.status=c.st (g.u - 1)->w'.has=c.sg (({ g with O:=HV g.O i }:Gh).rnd c i) i ->
     (g.u<c.U->w'.sums=[]∧w'.came=[])->WOk c { g with O:=HV g.O i } i 0 w':=by
   intro w' e0 e1 e2 e3 e4 e5 e6 e7 e8 e9 a8 a9 a3;refine⟨e0,by rw[e1]; exact W.spread,λhz=>?_,λ_=>?_,λhz _=>?_⟩
   . rw[e2,e3]; exact W.share hz
   . refine⟨?_,?_,e9,?_,a9,?_,?_,?_⟩
     . rw[e7,d1]; show false=(!HV g.O i i || false); rw[V]; rfl
     . rw[e8]; show true=(decide (2<=g.u) || decide (1<=g.u) && HV g.O i i); rw[V]; simp; omega
     . rw[a8]; exact(if_pos ⟨hu,V⟩).symm
     . intro J; rw[e7] at J; cases J
     . intro _ J _ _;exact⟨[],by rw[(a3 J).1]; exact Sm.nil _ _ _,ApG,λj=>⟨λhj=>by simp at hj,λ⟨hj,ha⟩=>by rw[show g.A i j=false from hA j hj] at ha; cases ha⟩⟩
     . intro _ J _;rw[(a3 J).2]; exact MapR.nil _ _ hA
   . have q:=W.one hz rfl;exact⟨by rw[e4]; exact q.vote,by rw[e5]; exact q.votes,by rw[e6]; exact q.closed⟩
 refine BH (λa7=>a7 = { w with round:=(({ g with O:=HV g.O i }:Gh).rnd c i:Int),status:=c.st (g.u - 1),has:=c.sg (({ g with O:=HV g.O i }:Gh).rnd c i) i,waits:=false,begun:=true }) ?_ ?_;rotate_left
 . intro k hk;refine BH (λb=>b=decide (0<g.u - 1∧c.st (g.u - 1)≠3)) ?_ ?_
   . rintro _ rfl;refine A0 (λD=>hk _ ?_) (λD=>hk _ ?_)
     . rw[c0,if_neg D.2,has];unfold GC.asd;rw[h.st_three (by omega) D.2 hi];rfl
     grind
   . intro k' a4;refine A0 (λD=>a4 _ ?_) (λD=>a4 _ ?_)
     all_goals grind
 rintro _ rfl;have b1:=h.st_go (t:=g.u - 1) (by omega);refine AZ (λh0=>?_) (λh0=>?_)
 . have d4:g.u<c.U:=by omega
   have a5:({ g with O:=HV g.O i }:Gh).rnd c i=g.u - 1:=by grind
   have e1:g.u - 1+1=g.u:=by omega
   refine AsD (i:=i) (k:=g.u - 1) h ⟨d.pl,d.pn,d.gr,d.lm,d.ch,d.ro,d.co⟩ hi hl (by omega) (by rw[a5]) (by rw[a5]) (hQ _ (a2 _ ⟨d.pl,d.pn,d.gr,d.lm,d.ch,d.ro,d.co⟩ rfl rfl rfl rfl rfl rfl rfl rfl rfl rfl rfl λ_=>⟨rfl,rfl⟩) ?_);grind
 . have b0:¬g.u<c.U:=λJ=>h0 (b1.2 (by omega));refine hQ _ (a2 _ ⟨d.pl,d.pn,d.gr,d.lm,d.ch,d.ro,d.co⟩ rfl rfl rfl rfl rfl rfl rfl rfl rfl rfl rfl λJ=>absurd J b0) ?_;grind
variable {c:GC} {g:Gh}
theorem cG (c:GC) (j:Nat):c.num 0 j=(j:Int):=by unfold GC.num; simp
theorem AsE (h:c.Ok) {i j:Nat} (hi:i<c.R) (V:j<c.C) {w:A1} (Z:WOk c g 0 j w) (hu:g.u<=1000) (hS:g.S i j=false) {f:AO} (hr:f.Round=(g.u:Int)) (W:f.Vec=c.slice g.u i j) (hl:w.out.length<=1000) {Q:Bool×A1->Prop}
   (hQ:∀ w',WOk c { g with S:=DW g.S i j } 0 j w'->w'.out=w.out++(if ({ g with S:=DW g.S i j }:Gh).col c j=true then (List.range c.R).map (c.fSpread g.u j) else [])->Q (true,w')):EE w f ⟨i,0⟩ Q:=by
 have d:=Z.st;have⟨D,a4⟩:=Z.share rfl;have⟨p1,p2,p3⟩:=h.slice_P g.u hi V;have hR:=h.R1; have hC:=h.C1;have d0:g.col c j=false:=decide_eq_false λhx=>by have:=hx i hi; rw[hS] at this; cases this
 rw[d0] at D a4;have b0:BA (i:Int) w.shares=none:=a4.no (by show(!false && g.S i j)=false; rw[hS]; rfl);have a6:=a4.put (v:=f.Vec) hi (by show(!false && g.S i j)=false; rw[hS]; rfl) W;unfold EE;refine AuL h d hi V (Ag1 (by rw[W]; exact p3) (by rw[W]; exact p1) (by rw[W]; exact p2) (YR (λv hx=>by rw[b0] at hx; cases hx) λ_=>AH rfl (AH rfl ?_)));rw[show w.place.i=0 by rw[d.pl]; rfl];refine BU (λU=>absurd rfl U) λ_=>BU (λU=>absurd rfl U) λ_=>BU (λU=>absurd (by rw[hr,D]; simp) U) λ_=>?_;rw[show w.grid.i=c.R by rw[d.gr],show w.grid.j=c.C by rw[d.gr],show w.plan.N=c.n by rw[d.pn,h.pn],show w.place.j=j by rw[d.pl]];dsimp only;have hf:=a6.full;have e3:({ g with S:=DW g.S i j }:Gh).col c j=decide (∀ k,k<c.R->DW g.S i j k j=true):=rfl;have d9:∀ k,DW g.S i j k j=if k=i then true else g.S k j:=λk=>by unfold DW; simp
 have a5:∀ (sh:Int) (O:List (Int×Vec)) (out:List AO),Wst c 0 j { w with share:=sh,shares:=O,out:=out }:=λ_ _ _=>⟨d.pl,d.pn,d.gr,d.lm,d.ch,d.ro,d.co⟩
 have a3:∀ (sh:Int) (O:List (Int×Vec)) (out:List AO),sh=((g.u+if ({ g with S:=DW g.S i j }:Gh).col c j=true then 1 else 0:Nat):Int)->MapR O c.R (λk=>!({ g with S:=DW g.S i j }:Gh).col c j && DW g.S i j k j) (λk v=>v=c.slice g.u k j)->WOk c { g with S:=DW g.S i j } 0 j { w with share:=sh,shares:=O,out:=out }:=by
   intro sh O out e1 e2;refine⟨a5 _ _ _,Z.spread,λ_=>⟨e1,e2⟩,λhz=>?_,λ_ hz=>?_⟩
   . have o:=Z.own hz;exact⟨o.waits,o.begun,o.round,o.status,o.has,o.aside,o.sums,o.came⟩
   . have o:=Z.one rfl hz;exact⟨o.vote,o.votes,o.closed⟩
 refine A0 (λ_=>?_) (λ_=>?_)
 . have⟨k,hk,_⟩:=hf.1 (by omega);have d8:DW g.S i j k j=false:=by grind
   have J:({ g with S:=DW g.S i j }:Gh).col c j=false:=by grind
   refine hQ _ (a3 w.share _ w.out (by rw[J,D]) ?_) (by rw[J]; simp);simp_all
 . have c2:∀ k,k<c.R->(if k=i then true else (!false && g.S k j))=true:=λk hk=>by grind
   have J:({ g with S:=DW g.S i j }:Gh).col c j=true:=by grind
   refine A6 (σ:=List Vec) (λs k=>(s,k)) 0 c.R (s0:=[]) (by omega) (λk s=>s=(List.range k).map λa:Nat=>c.slice g.u a j) (by omega) (by simp) (λk s next _ hk a2 hn=>?_) (λs next a2=>?_)
   . refine A0 (λ_=>I7 (AK (by rw[a2]; simp; omega) (hn _ ?_))) (λU=>by omega);have⟨v,b1,c0⟩:=a6.get k hk (c2 k hk);rw[b1,a2,ZX,dA,c0]; rfl
   refine A0 (λU=>by omega) (λ_=>?_);subst a2;refine Ac5 (by simp; omega) (λv W=>?_) ?_
   . obtain⟨a,ha,rfl⟩:=List.mem_map.1 W;have:=(h.slice_P g.u (List.mem_range.1 ha) V).2.2; omega
   rw[h.fit V];have⟨_,_,_,_,_,_,_,out,share,shares,a8,round,d7,a9,d3,d6,d4,d1,c1,d2,d5,a7⟩:=w;have⟨w1,w2,w3,w4,w5,w6,w7⟩:=d;simp only at w1 w2 w3 w4 w5 w6 w7 D hl hQ a3 a5;subst w1 w2 w3 w4 w5 w6 w7;refine A6 (σ:=List AO) (τ:=A1×Int) (λs k=>(⟨⟨(0:Nat),j⟩,c.p,⟨c.R,c.C⟩,c.lim,c.ch,c.rows 0 j,c.cols 0 j,s,share,DY (i:Int) f.Vec shares,a8,round,d7,a9,d3,d6,d4,d1,c1,d2,d5,a7⟩,k)) 0 c.R (s0:=out) (by omega) (λk s=>s=out++(List.range k).map (c.fSpread g.u j)) (by omega) (by simp) (λk s next _ hk d hn=>?_) (λs next d=>?_)
   . subst d;refine A0 (λ_=>?_) (λU=>absurd (show(k:Int)<c.R by omega) U);refine XU (a:=k) (b:=j) rfl hC (by omega) V ?_;refine pH (i:=0) (j:=j) h ⟨rfl,rfl,rfl,rfl,rfl,rfl,rfl⟩ (by omega) V (by simp; omega) (hn _ ?_);rw[ZX,dA,<-nL];show _=_++[c.fSpread g.u j k];unfold GC.fSpread;rw[cG,D];rfl
   . subst d;refine A0 (λU=>absurd (show(c.R:Int)<c.R from U) (by omega)) (λ_=>?_);refine hQ _ (a3 (A5 (share+1)) [] _ ?_ ?_) (by rw[J]; rfl)
     . rw[J,D,A7 (by simp; omega) (by simp; omega)]; simp
     . rw[J]; exact MapR.nil _ _ λk _=>rfl
theorem AsF {w:A1} {u:Nat} {Q:HR->Prop} (J:1<=u) (h:u<=1000) (D:w.choices.length<=1000) (d:∀ x,Q x):FM w u Q:=by
 unfold FM;refine AZ (λ_=>d _) (λ_=>⟨by omega,?_⟩);have e:A5 ((u:Int) - 1)=((u - 1:Nat):Int):=by rw[A7 (by omega) (by omega)]; omega
 rw[e,AoO (by omega),<-Int.natCast_emod];exact AN (Ae1 _ (by omega)) (d _)
theorem AnZ (h:c.Ok) {i j:Nat} (hi:i<c.R) (J:j<c.C) {w:A1} (O:WOk c g i j w) (hu:1<=g.u) (a7:g.u<c.U) (hE:g.E i j=false) {f:AO} (hr:f.Round=(g.u:Int)) (Z:f.Vec=c.piece g.u j) (hl:w.out.length<=1000) {Q:Bool×A1->Prop}
  (hQ:∀ w',WOk c { g with E:=DW g.E i j } i j w'->w'.out=w.out++[c.fGather g.u i j]->Q (true,w')):E0 w f ⟨0,j⟩ Q:=by
 have d:=O.st;have hR:=h.R1; have hC:=h.C1; have b0:=h.U_b;have⟨V,p2,p3⟩:=h.piece_P g.u J;have a2:w.spread=(g.u:Int):=by rw[O.spread,hE]; simp
 have a9:∀ (out:List AO),WOk c { g with E:=DW g.E i j } i j { w with spread:=A5 (w.spread+1),out:=out }:=by
  intro out;refine⟨⟨d.pl,d.pn,d.gr,d.lm,d.ch,d.ro,d.co⟩,?_,λW=>O.share W,λW=>?_,λW a8=>?_⟩
  . show A5 (w.spread+1)=((g.u+if DW g.E i j i j=true then 1 else 0:Nat):Int);rw[show DW g.E i j i j=true from if_pos ⟨rfl,rfl⟩,a2,A7 (by omega) (by omega)]; simp
  . have o:=O.own W;exact⟨o.waits,o.begun,o.round,o.status,o.has,o.aside,o.sums,o.came⟩
  . have o:=O.one W a8;exact⟨o.vote,o.votes,o.closed⟩
 unfold E0;refine Ag1 (by rw[Z]; exact p3) (by rw[Z]; exact V) (by rw[Z,p2,d.ro]; rfl) (AH rfl (BU (λD=>absurd rfl D) λ_=>?_));rw[show w.place.j=(j:Int) by rw[d.pl],show w.place.i=(i:Int) by rw[d.pl]];refine BU (λD=>absurd rfl D) λ_=>BU (λD=>absurd (by rw[hr,a2]) D) λ_=>?_;rw[hr];refine AsF hu (by omega) (by rw[d.ch]; exact h.chl) λx=>Z1 ?_;rw[show CD w.plan.Kind g.u=c.rg g.u by rw[d.pn]; rfl];refine Au8 (by show f.Vec.Items.length<=_; rw[Z]; omega) ?_;obtain⟨k,hk⟩:∃ k,g.u=k+1:=⟨g.u - 1,by omega⟩;have a6:k<=c.m:=by unfold GC.U at a7; grind
 have a4:=h.run.cn; rw[h.pn] at a4;have⟨_,a5⟩:=iL a4 (h.grd hi J);have a3:=h.piece_in a6 J;rw[<-hk] at a3;rw[Z];refine ArD (rows:=JO c.n c.R i) (cols:=JO c.n c.C j) (ts:=c.tb i j) (s:=iO x.Form (FV (c.piece g.u j)).Items.length (FV (c.piece g.u j)).N) (u:=c.piece g.u j) a5 (Au0 h.run.vs) d.ro d.co (by show AlI _ _=_; unfold AlI; rw[IG V]) V a3 (λx hx=>nomatch hx) ?_
 have es:lV (c.rg g.u) (JO c.n c.R i) (JO c.n c.C j) (c.tb i j) (c.piece g.u j) [] true=(c.blk g.u i j,0):=by unfold lV;rw[if_neg (λD=>D (h.ring g.u)),if_neg (λD=>D p2)]; rfl
 simp only[es];unfold ArC;rw[if_neg (by simp)];refine XU (a:=i) (b:=0) (by show w.grid.j=_; rw[d.gr]) hC (by omega) (by omega) ?_;refine pH (i:=i) (j:=j) h ⟨d.pl,d.pn,d.gr,d.lm,d.ch,d.ro,d.co⟩ hi J (by show w.out.length<=_; omega) ?_;exact hQ _ (a9 _) rfl
end
section
open Go Go.Fw
variable {c:GC} {g:Gh}
theorem MapR.le {α:Type} {m:List (Int×α)} {N:Nat} {d:Nat->Bool} {P:Nat->α->Prop} (h:MapR m N d P):m.length<=N:=by rw[h.len]; grind
theorem AsG {w:A1} {l:List BM} {n:Nat} {Q:Bool->Prop} (U:w.rows.Rows=(n:Int)) (W:l.length<=1000) (V:Rise l) (J:∀ x∈l,0<=x.At∧x.At<n) (Z:Q true):FN w l Q:=by
 unfold FN;refine A6 (σ:=Int) (λs k=>(s,k)) 0 l.length (s0:=-1) (by omega) (λk s=>∀ (q:Nat) (d:q<l.length),k<=q->s<l[q].At) (by omega) (λq d _=>by have:=(J _ (RY d)).1; omega) (λk s next _ hk O D=>?_) (λs next O=>?_)
 . refine A0 (λ_=>AN hk (A0 (λh=>by have:=O k hk (Y3 _); omega) λ_=>A0 (λh=>by have:=(J _ (RY hk)).2; rw[U] at h; omega) λ_=>D _ λq d _=>V.adj d (by omega))) (λh=>by omega)
 . exact A0 (λh=>by omega) (λ_=>Z)
theorem Ao0 (h:c.Ok) {i k:Nat} (hi:i<c.R) (hk:k<=c.m) (b0:k<=1000) {w:A1} (hs:Wst c i 0 w) {L:List Nat} (hL:L.Perm (List.range c.C)) (Z:Sm c (k+1) i L w.sums) (hh:w.has=c.sg k i) (hl:w.out.length<=1000) {Q:A1->Prop}
  (d:Q { w with aside:=c.asd (k+1) i,sums:=[],waits:=true,out:=w.out++[c.fVote (k+1) i] }):E3 w ((k+1:Nat):Int) Q:=by
 have b1:=h.ln_n i hi;have a8:=Z.len;have⟨_,_,_,_,_,_,_,out,U,O,D,round,J,_,aside,waits,a3,sums,a5,a6,a2,a4⟩:=w;have⟨w1,w2,w3,w4,w5,w6,w7⟩:=hs;simp only at w1 w2 w3 w4 w5 w6 w7 Z hh hl d a8;subst w1 w2 w3 w4 w5 w6 w7 hh;unfold E3;have⟨_,q2,_⟩:=h.sg_St hi k;refine xS q2 ?_;rw[h.sg_sure hi];refine AcT (by show sums.length<=_; omega) (AuG _ _) (λx W=>by have:=Z.at_ x W; unfold DH; omega) (Z1 ?_);have a7:(c.rows i 0).Rows=(c.ln i:Int):=h.siz hi;simp only[a7];have a9:(sums.filter λx=>H8 (KK c.p (c.sg k i)).1 (KK c.p (c.sg k i)).2 x.At).length<=sums.length:=wX _ _;refine AbV (by omega) (λx W=>Z.ok x (List.mem_filter.1 W).1) ?_;have⟨d1,d2⟩:=h.done hi hL Z;rw[show CD c.p.Kind ((k+1:Nat):Int)=c.rg (k+1) from rfl]
 cases V:c.ov (k+1) i with
 | true=>
  rw[d1 V];refine AH rfl ?_;have hv:=AcU (i:=i) (k:=k+1) (w:=⟨⟨i,(0:Nat)⟩,c.p,⟨c.R,c.C⟩,c.lim,c.ch,c.rows i 0,c.cols i 0,out,U,O,D,round,J,c.sg k i,c.sg k i,waits,a3,[],a5,a6,a2,a4⟩) (Q:=Q) h ⟨rfl,rfl,rfl,rfl,rfl,rfl,rfl⟩ hi (by show out.length<=_; omega) (λh0=>by rw[V] at h0; cases h0) (by unfold GC.asd at d; rw[V] at d; exact d);grind
 | false=>
  have⟨y,d3,_,d5⟩:=d2 V;rw[d3];refine B7 rfl (vL q2 (by omega) (by show y.Items.length<=_; omega) ?_);rw[show iR c.p (c.sg k i) ((k+1:Nat):Int) y=c.sg (k+1) i from d5];have hv:=AcU (i:=i) (k:=k+1) (w:=⟨⟨i,(0:Nat)⟩,c.p,⟨c.R,c.C⟩,c.lim,c.ch,c.rows i 0,c.cols i 0,out,U,O,D,round,J,c.sg k i,c.sg (k+1) i,waits,a3,[],a5,a6,a2,a4⟩) (Q:=Q) h ⟨rfl,rfl,rfl,rfl,rfl,rfl,rfl⟩ hi (by show out.length<=_; omega) (λ_=>rfl) (by unfold GC.asd at d; rw[V] at d; exact d);grind
theorem Ao1 (h:c.Ok) {i u:Nat} (hi:i<c.R) (hu:1<=u) (d:u<c.U) {w:A1} (V:Wst c i 0 w) {L:List Nat} (O:L.Perm (List.range c.C)) (D:Sm c u i L w.sums) (J:w.has=c.sg (u - 1) i) (W:w.out.length<=1000) {Q:A1->Prop}
  (Z:Q { w with aside:=c.asd u i,sums:=[],waits:=true,out:=w.out++[c.fVote u i] }):E3 w (u:Int) Q:=by
 obtain⟨k,rfl⟩:∃ k,u=k+1:=⟨u - 1,by omega⟩;have hU:=h.U_b;exact Ao0 h hi (by unfold GC.U at d; split at d <;> omega) (by omega) V O D J W Z
theorem Ao2 (h:c.Ok) {i j:Nat} (hi:i<c.R) (hj:j<c.C) {w:A1} (hw:WOk c g i 0 w) (hu:1<=g.u) (a5:g.u<c.U) (V:g.O i=true) (hA:g.A i j=false) {f:AO} (hr:f.Round=(g.u:Int)) (W:f.Sums=c.blk g.u i j) (Z:w.out.length<=1000) {Q:Bool×A1->Prop}
   (hQ:∀ w',WOk c { g with A:=DW g.A i j } i 0 w'->w'.out=w.out++(if ({ g with A:=DW g.A i j }:Gh).row c i=true then [c.fVote g.u i] else [])->Q (true,w')):E4 w f ⟨i,j⟩ Q:=by
 have d:=hw.st;have o:=hw.own rfl;have d8:=h.U_b; have hR:=h.R1; have hC:=h.C1; have f2:=h.ln_n i hi;have d6:c.st (g.u - 1)=0:=(h.st_go (by omega)).2 (by omega);have a6:g.row c i=false:=decide_eq_false λD=>by have:=D j hj; rw[hA] at this; cases this
 have a7:g.rnd c i=g.u - 1:=by unfold Gh.rnd; grind
 have a9:=o.came hu a5 V;have⟨L,a4,d4,hL⟩:=o.sums hu a5 V a6;have⟨b1,b2,b3⟩:=h.blk_prop g.u hi j;have d9:=cF (a:=0) b1 (by simpa using b3);have⟨m1,m2⟩:=h.sm_add (j:=j) hi a4;have a2:=a9.put (v:=true) hj hA rfl;have b0:∀ k,DW g.A i j i k=if k=j then true else g.A i k:=λk=>by unfold DW; simp
 have f5:({ g with A:=DW g.A i j }:Gh).row c i=decide (∀ k,k<c.C->DW g.A i j i k=true):=rfl;unfold E4;have e1:A5 (w.round+1)=(g.u:Int):=by rw[o.round,a7,A7 (by omega) (by omega)]; omega
 have d7:w.status=0:=by rw[o.status,if_pos ⟨hu,V⟩,d6]
 have d5:w.waits=false:=by rw[o.waits,V,a6]; rfl
 have d3:(BA (j:Int) w.came).getD false=false:=by rw[a9.no hA]; rfl
 refine BU (λJ=>absurd (by rw[d.pl]; rfl) J) λ_=>BU (λJ=>absurd (by rw[d.pl]) J) λ_=>BU (λJ=>absurd d7 J) λ_=>AH d5 (BU (λJ=>absurd (by rw[hr,e1]) J) λ_=>I7 (AH d3 ?_));refine AsG (n:=c.ln i) (by rw[d.ro]; exact h.siz hi) (by rw[W]; omega) (by rw[W]; exact b1) (by rw[W]; exact b3) (AH rfl (Z1 ?_));rw[W,show CD w.plan.Kind f.Round=c.rg g.u by rw[d.pn,hr]; rfl,hr];have f3:=a4.len;refine fX (by simp) (λl Z=>?_) ?_ (λl Z=>?_) ?_
 . grind
 . show w.sums.length+((c.blk g.u i j).length+0)<=_; omega
 . simp only[SI,Ap7,or_false] at Z; rcases Z with rfl | rfl
   . exact a4.ok
   . exact b2
 rw[m1];dsimp only;have f0:w.grid.j=(c.C:Int):=by rw[d.gr]
 have f1:=a2.le; have hf:=a2.full
 have a8:∀ (w':A1),Wst c i 0 w'->w'.spread=w.spread->w'.share=w.share->w'.shares=w.shares->w'.vote=w.vote->w'.votes=w.votes->w'.closed=w.closed->w'.waits=({ g with A:=DW g.A i j }:Gh).row c i->w'.begun=w.begun->w'.round=w.round->w'.status=w.status->w'.has=w.has ->
     (({ g with A:=DW g.A i j }:Gh).row c i=true->w'.aside=c.asd g.u i)->(({ g with A:=DW g.A i j }:Gh).row c i=false->w'.sums=LW (c.rg g.u) w.sums (c.blk g.u i j))->w'.came=DY (j:Int) true w.came->WOk c { g with A:=DW g.A i j } i 0 w':=by
   intro w' e0 e1 e2 e3 e4 e5 e6 e7 e8 e9 c1 c2 d0 d1 d2;refine⟨e0,by rw[e1]; exact hw.spread,λhz=>by rw[e2,e3]; exact hw.share hz,λ_=>⟨?_,by rw[e8]; exact o.begun,by rw[e9]; exact o.round,by rw[c1]; exact o.status,by rw[c2]; exact o.has,λD=>?_,λ_ _ _ D=>?_,λ_ _ _=>?_⟩,λhz _=>?_⟩
   . rw[e7]; show _=(!g.O i || _); rw[V]; rfl
   . rw[d0 (by rw[<-e7]; exact D)]; show _=c.asd (if g.O i=true then g.u else g.u - 1) i; rw[if_pos V]
   . refine⟨L++[j],by rw[d1 D]; exact m2,List.nodup_append.2 ⟨d4,by simp,λa ha _ hb e=>?_⟩,λk=>?_⟩
     . rw[kB] at hb; subst hb; subst e; have:=((hL a).1 ha).2; rw[hA] at this; cases this
     . rw[nT,kB,hL k];show _↔k<c.C∧DW g.A i j i k=true;rw[b0];by_cases e:k=j
       . subst e; simp[hj]
       . simp[e]
   . rw[d2]; exact a2.congr (λk _=>by show DW g.A i j i k=_; rw[b0]) (λk v _ W=>W)
   . have q:=hw.one hz rfl;exact⟨by rw[e4]; exact q.vote,by rw[e5]; exact q.votes,by rw[e6]; exact q.closed⟩
 refine AZ (λ_=>?_) (λ_=>?_)
 . have f4:∀ k,k<c.C->(if k=j then true else g.A i k)=true:=λk hk=>by grind
   have a3:({ g with A:=DW g.A i j }:Gh).row c i=true:=by grind
   have hP:(L++[j]).Perm (List.range c.C):=by grind
   refine Ao1 (w:={ w with sums:=LW (c.rg g.u) w.sums (c.blk g.u i j),came:=DY (j:Int) true w.came }) h hi hu a5 ⟨d.pl,d.pn,d.gr,d.lm,d.ch,d.ro,d.co⟩ hP m2 (by show w.has=_; rw[o.has,a7]) Z ?_;refine hQ _ (a8 _ ⟨d.pl,d.pn,d.gr,d.lm,d.ch,d.ro,d.co⟩ rfl rfl rfl rfl rfl rfl a3.symm rfl rfl rfl rfl (λ_=>rfl) (λD=>by rw[a3] at D; cases D) rfl) ?_;rw[a3]; rfl
 . have⟨k,hk,_⟩:=hf.1 (by omega);have c0:({ g with A:=DW g.A i j }:Gh).row c i=false:=by grind
   refine hQ _ (a8 _ ⟨d.pl,d.pn,d.gr,d.lm,d.ch,d.ro,d.co⟩ rfl rfl rfl rfl rfl rfl ?_ rfl rfl rfl rfl (λD=>by rw[c0] at D; cases D) (λ_=>rfl) rfl) (by rw[c0]; simp);grind
variable {c:GC} {g:Gh}
def Gh.next (g:Gh):Gh:=⟨g.u+1,λ_=>false,λ_ _=>false,λ_ _=>false,λ_ _=>false,λ_=>false⟩
structure Gh.All (c:GC) (g:Gh):Prop where
 u:g.u<c.U
 O:∀ i,i<c.R→g.O i=true
 col:∀ j,j<c.C→g.col c j=true
 E:∀ i j,i<c.R→j<c.C→g.E i j=true
 row:∀ i,i<c.R→g.row c i=true
theorem Gh.Ok.row_all (D:g.Ok c) {i j:Nat} (hi:i<c.R) (d:j<c.C) (O:g.row c i=true):g.A i j=true∧g.E i j=true∧g.col c j=true:=by have h:=of_decide_eq_true O j d;have J:=D.A i j hi d h;exact⟨h,J,D.E i j hi d J⟩
theorem Gh.Ok.all (D:g.Ok c) (h:c.Ok) (V:∀ i,i<c.R->g.row c i=true):g.All c:=by have Z:=h.C1; have hR:=h.R1; have hU:=h.U_b;have d:∀ j,j<c.C->g.col c j=true:=λj J=>(D.row_all (show 0<c.R by omega) J (V 0 (by omega))).2.2;have W:∀ i,i<c.R->g.O i=true∧g.u<c.U:=λi hi=>D.S i 0 hi (of_decide_eq_true (d 0 (by omega)) i hi);exact⟨(W 0 (by omega)).2,λi hi=>(W i hi).1,d,λi j hi J=>(D.row_all hi J (V i hi)).2.1,V⟩
theorem Gh.next_ok (D:g.All c) (h:c.Ok):(g.next).Ok c:=by have J:=h.C1; have O:=h.R1;exact⟨D.u,(λi j _ d=>nomatch d),(λi j _ _ d=>nomatch d),(λi j _ _ d=>nomatch d),(λi _ d=>nomatch d),⟨0,by omega,rfl⟩,(λd=>nomatch d)⟩
theorem Gh.next_col (h:c.Ok) (j:Nat):g.next.col c j=false:=decide_eq_false λd=>nomatch (d 0 (by have:=h.R1; omega))
theorem Gh.next_row (h:c.Ok) (i:Nat):g.next.row c i=false:=decide_eq_false λd=>nomatch (d 0 (by have:=h.C1; omega))
theorem AcV (h:c.Ok) (D:g.u<c.U) (d:1<=g.u):c.st (g.u - 1)=0:=(h.st_go (by omega)).2 (by omega)
theorem WOk.bump (a2:c.Ok) (J:g.All c) {i j:Nat} (hi:i<c.R) (hj:j<c.C) {w w':A1} (h:WOk c g i j w) (s:Wst c i j w') (e:w'.spread=w.spread∧w'.share=w.share∧w'.shares=w.shares∧w'.waits=w.waits∧w'.begun=w.begun∧w'.round=w.round∧w'.status=w.status∧w'.has=w.has∧w'.aside=w.aside) (Z:i=0->j=0->One c g.next w'):WOk c g.next i j w':=by
 have⟨e1,e2,e3,e4,e5,e6,e7,e8,e9⟩:=e;refine⟨s,by rw[e1,h.spread,J.E i j hi hj]; rfl,λV=>?_,λV=>?_,Z⟩
 . have⟨q1,U⟩:=h.share V;rw[J.col j hj] at q1 U;rw[Gh.next_col a2,e2,e3];refine⟨by rw[q1]; rfl,U.ks,λk hk=>?_,(λk _ hd=>nomatch hd)⟩;have⟨_,_,_,hd⟩:=U.key k hk;grind
 . have o:=h.own V;have W:=J.O i hi; have a3:=J.row i hi;have a4:g.u>=1->c.st (g.u - 1)=0:=λZ=>AcV a2 J.u Z
   have d:g.next.rnd c i=g.rnd c i:=by unfold Gh.rnd;rw[if_pos W];show(if (false:Bool)=true then _ else g.u+1 - 2)=_;grind
   refine⟨by rw[e4,o.waits,W,a3]; rfl,?_,by rw[e6,d]; exact o.round,?_,by rw[e8,d]; exact o.has,λD=>?_,(λ_ _ D=>nomatch D),(λ_ _ D=>nomatch D)⟩
   . rw[e5,o.begun,W]; show _=(decide (2<=g.u+1) || decide (1<=g.u+1) && false); simp; omega
   . have V:(if 1<=g.next.u∧g.next.O i=true then c.st (g.next.u - 1) else 0)=0:=if_neg (λD=>nomatch D.2);rw[V,e7,o.status];omega
   . rw[e9,o.aside (by rw[<-e4]; exact D),if_pos W]; rfl
theorem pI {κ α:Type} [DecidableEq κ] {k:κ} {v:α}:∀ {m:List (κ×α)},BA k m=some v->(k,v)∈m
 | (k',v') :: m,h=>by
  simp only[BA] at h;split at h
  . rename_i e; rw[e,QZ h]; simp
  . exact jY _ (pI h)
open Classical in
theorem Ao3 (a4:c.Ok) {u:Nat} (hu:u<c.U) {w:A1} (hv:w.vote=(u:Int)) (hl:w.limit=c.lim) (hm:MapR w.votes c.R (λ_=>true) (λi f=>f.N=(c.fVote u i).N∧f.Over=(c.fVote u i).Over)) {Q:Int->Prop} (hQ:Q (c.st u)):FB w Q:=by
 unfold FB
 have a9:(∃ x∈w.votes,x.2.Over=true)↔∃ i,i<c.R∧c.ov u i=true:=by
   constructor
   . rintro⟨x,W,d⟩;have⟨i,V,_,_,h2,h⟩:=hm.mem W;exact⟨i,V,by rw[h] at d; exact d⟩
   . rintro⟨i,hi,d⟩;have⟨v,V,h2,h⟩:=hm.get i hi rfl;have a2:((i:Int),v)∈w.votes:=pI V;exact⟨((i:Int),v),a2,by show v.Over=true; rw[h]; exact d⟩
 have a7:¬(∃ i,i<c.R∧c.ov u i=true)->((∃ x∈w.votes,x.2.N≠0)↔¬ ∀ i,i<c.R->c.lv u i=0):=by
   intro a8;have hN:∀ i,i<c.R->(c.fVote u i).N=c.lv u i:=λi hi=>if_neg λd=>a8 ⟨i,hi,d⟩;constructor
   . rintro⟨x,W,d⟩ D;have⟨i,V,_,_,h2,h⟩:=hm.mem W;grind
   . intro D;rcases yU (∃ i,i<c.R∧c.lv u i≠0) with⟨i,hi,a3⟩ | W
     . have⟨v,V,h2,h⟩:=hm.get i hi rfl;exact⟨((i:Int),v),pI V,by show v.N≠0; rw[h2,hN i hi]; exact a3⟩
     grind
 have Z:=a4.counts hu;refine CN (λs=>((s.2.1=true∨∃ x∈s.1,x.2.Over=true)↔∃ x∈w.votes,x.2.Over=true)∧((s.2.2=true∨∃ x∈s.1,x.2.N≠0)↔∃ x∈w.votes,x.2.N≠0)) (λs=>s.1.length) (by simp) ?_;rintro⟨l,ov,lv⟩ next ⟨J,O⟩ hn;simp only at J O hn;refine VO (λW=>?_) (λp r hp=>?_)
 . subst W;simp only[Ap7,false_and,exists_false,or_false] at J O;by_cases d:∃ i,i<c.R∧c.ov u i=true
   . rw[if_pos d] at Z; rw[Z] at hQ;exact B7 (J.2 (a9.2 d)) hQ
   . rw[if_neg d] at Z;have hf:ov=false:=by grind
     refine AH hf ?_;by_cases D:∀ i,i<c.R->c.lv u i=0
     . rw[if_pos D] at Z; rw[Z] at hQ;have a5:lv=false:=by grind
       exact B7 (by rw[a5]; rfl) hQ
     . rw[if_neg D] at Z;have a6:=O.2 ((a7 d).2 D);refine AH (by rw[a6]; rfl) (AZ (λhe=>?_) (λhe=>?_))
       all_goals grind
 . have b0:=hp.length_eq
   have a2:∀ (P:Int×AO->Prop),(∃ x∈l,P x)↔P p∨∃ x∈r,P x:=λP=>by grind
   rw[a2] at J O;have a3:(p.2.N != 0)=true↔p.2.N≠0:=by simp
   simp only[nR] at b0;cases ov <;> cases lv <;> simp only[AaU,false_or,true_or] at J O
   . refine AH rfl (AH rfl (hn _ ⟨J,?_⟩ (by simp only; omega)));grind
   . exact AH rfl (B7 rfl (hn _ ⟨J,by simpa using O⟩ (by simp only; omega)))
   . refine B7 rfl (AH rfl (hn _ ⟨by simpa using J,?_⟩ (by simp only; omega)));grind
   . exact B7 rfl (B7 rfl (hn _ ⟨by simpa using J,by simpa using O⟩ (by simp only; omega)))
theorem Am1 (h:c.Ok) (hg:g.Ok c) {i:Nat} (hi:i<c.R) {w:A1} (O:WOk c g 0 0 w) (hu:g.u<c.U) (d7:g.row c i=true) (hV:g.V i=false) {f:AO} (hr:f.Round=(g.u:Int)) (W:f.N=(c.fVote g.u i).N) (ho:f.Over=(c.fVote g.u i).Over) (hl:w.out.length<=1000) {Q:Bool×A1->Prop}
   (a8:(∃ k,k<c.R∧HV g.V i k=false)->∀ w',WOk c { g with V:=HV g.V i } 0 0 w'->w'.out=w.out->Q (true,w'))
   (a9:(∀ k,k<c.R->HV g.V i k=true)->∀ w',WOk c g.next 0 0 w'->w'.out=w.out++(List.range c.R).map (c.fOrder g.u)->Q (true,w')):EP w f ⟨i,0⟩ Q:=by
 have D:=O.st;have q:=O.one rfl rfl;have hR:=h.R1; have hC:=h.C1; have d6:=h.U_b;have d3:=q.votes.no hV;have a2:=q.votes.put (v:=f) hi hV ⟨W,ho⟩;have hf:=a2.full
 have d1:w.closed=false:=by rw[q.closed];grind[AcV]
 unfold EP;refine YR (λv hx=>by rw[show BA (i:Int) w.votes=none from d3] at hx; cases hx) λ_=>AH rfl (AH (by rw[D.pl]; rfl) (AH d1 (BU (λJ=>absurd rfl J) λ_=>BU (λJ=>absurd (by rw[hr,q.vote]) J) λ_=>?_)));dsimp only;have d2:w.grid.i=(c.R:Int):=by rw[D.gr]
 refine A0 (λ_=>?_) (λ_=>?_)
 . refine a8 ((hf.1 (by omega)).imp λk hk=>hk) _ ?_ rfl;refine⟨⟨D.pl,D.pn,D.gr,D.lm,D.ch,D.ro,D.co⟩,O.spread,O.share,λhz=>?_,λ_ _=>⟨q.vote,a2,q.closed⟩⟩;have o:=O.own hz;exact⟨o.waits,o.begun,o.round,o.status,o.has,o.aside,o.sums,o.came⟩
 . have Z:∀ k,k<c.R->HV g.V i k=true:=λk hk=>by
     cases hd:HV g.V i k with
     | true=>rfl
     | false=>exact absurd (hf.2 ⟨k,hk,hd⟩) (by omega)
   have d4:∀ k,k<c.R->g.row c k=true:=λk hk=>by
     have:=Z k hk;unfold HV at this;split at this
     . grind
     . exact hg.V k hk this
   have ha:=hg.all h d4;refine Ao3 (w:={ w with votes:=DY (i:Int) f w.votes }) h hu q.vote D.lm (a2.congr (λk hk=>(Z k hk).symm) λk v _ hv=>hv) ?_;have⟨_,_,_,_,_,_,_,out,c2,a6,a4,round,a5,b0,a7,d0,c1,c0,b1,a3,votes,d5⟩:=w;have⟨w1,w2,w3,w4,w5,w6,w7⟩:=D;have d:=q.vote;simp only at w1 w2 w3 w4 w5 w6 w7 hl a8 a9 d d2;subst w1 w2 w3 w4 w5 w6 w7;refine A6 (σ:=List AO) (τ:=A1×Int) (λs k=>(⟨⟨(0:Nat),(0:Nat)⟩,c.p,⟨c.R,c.C⟩,c.lim,c.ch,c.rows 0 0,c.cols 0 0,s,c2,a6,a4,round,a5,b0,a7,d0,c1,c0,b1,a3,DY (i:Int) f votes,d5⟩,k)) 0 c.R (s0:=out) (by omega) (λk s=>s=out++(List.range k).map (c.fOrder g.u)) (by omega) (by simp) (λk s next _ hk D W=>?_) (λs next D=>?_)
   . subst D;refine A0 (λ_=>?_) (λJ=>absurd (show(k:Int)<c.R by omega) J);refine XU (a:=k) (b:=0) rfl hC (by omega) (by omega) ?_;refine pH (i:=0) (j:=0) h ⟨rfl,rfl,rfl,rfl,rfl,rfl,rfl⟩ (by omega) (by omega) (by simp; omega) (W _ ?_);rw[ZX,dA,<-nL];show _=_++[c.fOrder g.u k];unfold GC.fOrder;rw[cG,d];rfl
   . subst D;refine A0 (λJ=>absurd (show(c.R:Int)<c.R from J) (by omega)) (λ_=>?_);refine a9 Z _ ?_ rfl
     have o1:One c g.next (⟨⟨(0:Nat),(0:Nat)⟩,c.p,⟨c.R,c.C⟩,c.lim,c.ch,c.rows 0 0,c.cols 0 0,out++(List.range c.R).map (c.fOrder g.u),c2,a6,a4,round,a5,b0,a7,d0,c1,c0,b1,A5 (a3+1),[],c.st g.u != 0⟩:A1):=by
       refine⟨?_,MapR.nil _ _ λk _=>rfl,?_⟩
       . show A5 (a3+1)=((g.u+1:Nat):Int);rw[d,A7 (by omega) (by omega)]; omega
       . show(c.st g.u != 0)=decide (1<=g.u+1∧c.st (g.u+1 - 1)≠0);grind
     exact WOk.bump h ha (by omega) (by omega) O ⟨rfl,rfl,rfl,rfl,rfl,rfl,rfl⟩ ⟨rfl,rfl,rfl,rfl,rfl,rfl,rfl,rfl,rfl⟩ λ_ _=>o1
end
section
open Go Go.Fw
def B4:Nat->(Nat->Nat)->Nat
 | 0,_=>0
 | n+1,f=>B4 n f+f n
theorem JQ {f f':Nat->Nat}:∀ {n:Nat},(∀ i,i<n->f' i=f i)->B4 n f'=B4 n f
 | 0,_=>rfl
 | n+1,h=>by show B4 n f'+f' n=B4 n f+f n; rw[JQ (n:=n) λi _=>h i (by omega),h n (by omega)]
theorem H0 {f f':Nat->Nat} {i:Nat}:∀ {n:Nat},i<n->(∀ k,k<n->k≠i->f' k=f k)->B4 n f'+f i=B4 n f+f' i
 | n+1,hi,h=>by
  show B4 n f'+f' n+f i=B4 n f+f n+f' i;by_cases e:i=n
  . subst e; rw[JQ (f:=f) (f':=f') λk hk=>h k (by omega) (by omega)]; omega
  . have:=H0 (n:=n) (f:=f) (f':=f') (i:=i) (by omega) λk hk=>h k (by omega);rw[h n (by omega) (λd=>e d.symm)]; omega
theorem QK (n b:Nat):B4 n (λ_=>b)=n*b:=by
 induction n with
 | zero=>simp[B4]
 | succ n d=>show B4 n _+b=_; rw[d,AjY]
theorem CI {n b:Nat} {f:Nat->Nat} (h:∀ i,i<n->f i=b):B4 n f=n*b:=by rw[<-QK]; exact JQ h
theorem RT {f:Nat->Nat} {n:Nat} (h:B4 n f≠0):∃ i,i<n∧f i≠0:=by
 rcases yU (∃ i,i<n∧f i≠0) with d | d
 . exact d
 . refine absurd ((CI (b:=0) λi hi=>?_).trans (ML n)) h;exact AgZ λD=>d ⟨i,hi,D⟩
theorem LP {f:Nat->Nat} {i:Nat}:∀ {n:Nat},i<n->f i<=B4 n f
 | n+1,hi=>by
  show _<=B4 n f+f n;by_cases e:i=n
  . subst e; omega
  . have:=LP (n:=n) (f:=f) (show i<n by omega); omega
theorem I4 {f:Nat->Nat} {b:Nat}:∀ {n:Nat},(∀ i,i<n->f i<=b)->B4 n f<=n*b
 | 0,_=>by simp[B4]
 | n+1,h=>by have:=I4 (n:=n) (f:=f) λi _=>h i (by omega);have:=h n (by omega);show B4 n f+f n<=_; rw[AjY]; omega
theorem LQ {R C:Nat} {f f':Nat->Nat->Nat} {i j:Nat} (hi:i<R) (J:j<C) (h:∀ a b,a<R->b<C->¬(a=i∧b=j)->f' a b=f a b):B4 R (λa=>B4 C (f' a))+f i j=B4 R (λa=>B4 C (f a))+f' i j:=by have U:=H0 (n:=R) (f:=λa=>B4 C (f a)) (f':=λa=>B4 C (f' a)) hi λa O d=>JQ λb D=>h a b O D λe=>d e.1;have V:=H0 (n:=C) (f:=f i) (f':=f' i) J λb D d=>h i b hi D λe=>d e.2;omega
def wt (φ:AO->Nat):List AO->Nat
 | []=>0
 | f :: l=>φ f+wt φ l
theorem AcW (φ:AO->Nat):∀ (l m:List AO),wt φ (l++m)=wt φ l+wt φ m
 | [],m=>by simp[wt]
 | f :: l,m=>by show φ f+wt φ (l++m)=φ f+wt φ l+wt φ m; rw[AcW φ l m]; omega
theorem AiT (φ:AO->Nat) (F:Nat->AO) (n:Nat):wt φ ((List.range n).map F)=B4 n λi=>φ (F i):=by
 induction n with
 | zero=>rfl
 | succ n d=>rw[ZX,dA,AcW,d]; simp[wt,B4]
theorem AiU:∀ (l:List AO),wt (λ_=>1) l=l.length
 | []=>rfl
 | f :: l=>by show 1+wt _ l=_; rw[AiU l,nR]; omega
theorem AsH {φ:AO->Nat} {f:AO}:∀ {l:List AO},f∈l->φ f<=wt φ l
 | x :: l,h=>by
  show _<=φ x+wt φ l;rcases List.mem_cons.1 h with rfl | h
  . omega
  . have:=AsH (φ:=φ) h; omega
section
variable (c:GC) (φ:AO→Nat) (g:Gh)
def Gh.pO (i:Nat):Nat:=if 1<=g.u∧g.O i=false then φ (c.fOrder (g.u - 1) i) else 0
def Gh.pS (i j:Nat):Nat:=if g.O i=true∧g.u<c.U∧g.S i j=false then φ (c.fShare g.u i j) else 0
def Gh.pE (j i:Nat):Nat:=if g.col c j=true∧g.E i j=false then φ (c.fSpread g.u j i) else 0
def Gh.pA (i j:Nat):Nat:=if g.E i j=true∧g.A i j=false then φ (c.fGather g.u i j) else 0
noncomputable def Gh.pV (i:Nat):Nat:=if g.row c i=true∧g.V i=false then φ (c.fVote g.u i) else 0
noncomputable def Gh.pend:Nat:=B4 c.R (g.pO c φ)+B4 c.R (λi=>B4 c.C (g.pS c φ i))+B4 c.C (λj=>B4 c.R (g.pE c φ j))+B4 c.R (λi=>B4 c.C (g.pA c φ i))+B4 c.R (g.pV c φ)
def Gh.Pend (f:AO):Prop:=
 (∃ i,i<c.R∧1<=g.u∧g.O i=false∧f=c.fOrder (g.u - 1) i)∨(∃ i j,i<c.R∧j<c.C∧g.O i=true∧g.u<c.U∧g.S i j=false∧f=c.fShare g.u i j) ∨
 (∃ j i,j<c.C∧i<c.R∧g.col c j=true∧g.E i j=false∧f=c.fSpread g.u j i)∨(∃ i j,i<c.R∧j<c.C∧g.E i j=true∧g.A i j=false∧f=c.fGather g.u i j) ∨
 ∃ i,i<c.R∧g.row c i=true∧g.V i=false∧f=c.fVote g.u i
theorem Gh.pend_in {f:AO} (h:g.pend c (λx=>if x=f then 1 else 0)≠0):g.Pend c f:=by
 have D:∀ {p:Prop} [Decidable p] {x:AO},(if p then (if x=f then 1 else 0) else 0)≠0->p∧f=x:=by
   intro p _ x d;split at d
   . rename_i hp; split at d
     . rename_i e; exact⟨hp,e.symm⟩
     . exact absurd rfl d
   . exact absurd rfl d
 unfold pend at h;rcases aL (B4 c.R (g.pV c λx=>if x=f then 1 else 0)) with W | W
 . rcases aL (B4 c.R λi=>B4 c.C (g.pA c (λx=>if x=f then 1 else 0) i)) with Z | Z
   . rcases aL (B4 c.C λj=>B4 c.R (g.pE c (λx=>if x=f then 1 else 0) j)) with V | V
     . rcases aL (B4 c.R λi=>B4 c.C (g.pS c (λx=>if x=f then 1 else 0) i)) with J | J
       . have⟨i,hi,d⟩:=RT (by omega:B4 c.R (g.pO c λx=>if x=f then 1 else 0)≠0);have⟨⟨O,J⟩,e⟩:=D d;exact .inl ⟨i,hi,O,J,e⟩
       . have⟨i,hi,d⟩:=RT (by omega:(B4 c.R λi=>B4 c.C (g.pS c (λx=>if x=f then 1 else 0) i))≠0);have⟨j,U,d⟩:=RT d;have⟨⟨O,J,V⟩,e⟩:=D d;exact .inr (.inl ⟨i,j,hi,U,O,J,V,e⟩)
     . have⟨j,U,d⟩:=RT (by omega:(B4 c.C λj=>B4 c.R (g.pE c (λx=>if x=f then 1 else 0) j))≠0);have⟨i,hi,d⟩:=RT d;have⟨⟨O,J⟩,e⟩:=D d;exact .inr (.inr (.inl ⟨j,i,U,hi,O,J,e⟩))
   . have⟨i,hi,d⟩:=RT (by omega:(B4 c.R λi=>B4 c.C (g.pA c (λx=>if x=f then 1 else 0) i))≠0);have⟨j,U,d⟩:=RT d;have⟨⟨O,J⟩,e⟩:=D d;exact .inr (.inr (.inr (.inl ⟨i,j,hi,U,O,J,e⟩)))
 . have⟨i,hi,d⟩:=RT (by omega:B4 c.R (g.pV c λx=>if x=f then 1 else 0)≠0);have⟨⟨O,J⟩,e⟩:=D d;exact .inr (.inr (.inr (.inr ⟨i,hi,O,J,e⟩)))
def Gh.bt (b:Bool):Nat:=if b=true then 1 else 0
def Gh.T:Nat:=2*c.R+3*(c.R*c.C)
def Gh.val:Nat:=g.u*T c+(B4 c.R (λi=>bt (g.O i))+B4 c.R (λi=>B4 c.C λj=>bt (g.S i j))+B4 c.R (λi=>B4 c.C λj=>bt (g.E i j))+B4 c.R (λi=>B4 c.C λj=>bt (g.A i j))+B4 c.R λi=>bt (g.V i))
open Classical in
noncomputable def Gh.nh:Nat:=if g.u<=1 then 1 else if (∀ i,i<c.R->g.O i=true)∧c.st (g.u - 1)≠3 then g.u else g.u - 1
end
variable {c:GC} {g:Gh}
theorem AsI (b:Bool):Gh.bt b<=1:=by unfold Gh.bt; split <;> omega
theorem T_b (h:c.Ok):Gh.T c<=85∧c.R*c.C<=25:=by have d:=h.R1; have D:=h.C1;have:c.R*c.C<=5*5:=ApF d.2 D.2;unfold Gh.T; omega
theorem AyM (a2:c.Ok) (Z:g.Ok c):g.val c<=c.U*Gh.T c+c.R:=by
 have hR:=a2.R1; have hC:=a2.C1; have hu:=Z.u;have e1:=I4 (n:=c.R) (f:=λi=>Gh.bt (g.O i)) (b:=1) λi _=>AsI _;rcases ZZ g.u c.U with a4 | a7
 . have h1:(g.u+1)*Gh.T c<=c.U*Gh.T c:=W9 _ a4;rw[WB,xB] at h1;have e5:=I4 (n:=c.R) (f:=λi=>Gh.bt (g.V i)) (b:=1) λi _=>AsI _;have D:∀ (f:Nat->Nat->Bool),B4 c.R (λi=>B4 c.C λj=>Gh.bt (f i j))<=c.R*c.C:=λf=>I4 λi _=>by have:=I4 (n:=c.C) (f:=λj=>Gh.bt (f i j)) (b:=1) λj _=>AsI _; omega
   have:=D g.S; have:=D g.E; have:=D g.A;unfold Gh.val;have hT:Gh.T c=2*c.R+3*(c.R*c.C):=rfl;omega
 . have h:∀ {b:Bool},(b=true->False)->b=false:=λ{b} W=>by cases b; rfl; exact(W rfl).elim
   have hS:∀ i j,i<c.R->g.S i j=false:=λi j hi=>h λd=>by have:=(Z.S i j hi d).2; omega
   have a3:∀ j,g.col c j=false:=λj=>decide_eq_false λhx=>by have:=hx 0 (by omega); rw[hS 0 j (by omega)] at this; cases this
   have hE:∀ i j,i<c.R->j<c.C->g.E i j=false:=λi j hi J=>h λd=>by have:=Z.E i j hi J d; rw[a3] at this; cases this
   have hA:∀ i j,i<c.R->j<c.C->g.A i j=false:=λi j hi J=>h λd=>by have:=Z.A i j hi J d; rw[hE i j hi J] at this; cases this
   have a6:∀ i,i<c.R->g.row c i=false:=λi hi=>decide_eq_false λhx=>by have:=hx 0 (by omega); rw[hA i 0 hi (by omega)] at this; cases this
   have hV:∀ i,i<c.R->g.V i=false:=λi hi=>h λd=>by have:=Z.V i hi d; rw[a6 i hi] at this; cases this
   have z:∀ {b:Bool},b=false->Gh.bt b<=0:=λW=>by rw[W]; exact Y3 _
   have e5:=I4 (n:=c.R) (f:=λi=>Gh.bt (g.V i)) (b:=0) λi hi=>z (hV i hi)
   have D:∀ (f:Nat->Nat->Bool),(∀ i j,i<c.R->j<c.C->f i j=false)->B4 c.R (λi=>B4 c.C λj=>Gh.bt (f i j))<=0:=λf hf=>by
    have:=I4 (n:=c.R) (f:=λi=>B4 c.C λj=>Gh.bt (f i j)) (b:=0) λi hi=>by have:=I4 (n:=c.C) (f:=λj=>Gh.bt (f i j)) (b:=0) λj J=>z (hf i j hi J); omega
    omega
   have:=D g.S λi j hi _=>hS i j hi;have:=D g.E hE; have:=D g.A hA;have a5:g.u=c.U:=by omega
   unfold Gh.val;rw[a5];omega
theorem AuM (h:c.Ok):g.pend c (λ_=>1)<=85:=by
 have V:=T_b h;have hi:∀ {p:Prop} [Decidable p],(if p then 1 else 0)<=1:=λ{p} _=>by split <;> omega
 have D:=I4 (n:=c.R) (f:=g.pO c λ_=>1) (b:=1) λi _=>hi;have U:=I4 (n:=c.R) (f:=g.pV c λ_=>1) (b:=1) λi _=>hi;have J:B4 c.R (λi=>B4 c.C (g.pS c (λ_=>1) i))<=c.R*c.C:=I4 λi _=>by have:=I4 (n:=c.C) (f:=g.pS c (λ_=>1) i) (b:=1) λj _=>hi; omega
 have O:B4 c.R (λi=>B4 c.C (g.pA c (λ_=>1) i))<=c.R*c.C:=I4 λi _=>by have:=I4 (n:=c.C) (f:=g.pA c (λ_=>1) i) (b:=1) λj _=>hi; omega
 have d:B4 c.C (λj=>B4 c.R (g.pE c (λ_=>1) j))<=c.C*c.R:=I4 λi _=>by have:=I4 (n:=c.R) (f:=g.pE c (λ_=>1) i) (b:=1) λj _=>hi; omega
 rw[AdW c.C] at d;unfold Gh.pend;unfold Gh.T at *;omega
theorem AwY {f:Nat->Bool} {i a:Nat} (h:f a=true):HV f i a=true:=by unfold HV; split <;> simp_all
theorem AiV {f:Nat->Nat->Bool} {i j a b:Nat} (h:f a b=true):DW f i j a b=true:=by unfold DW; split <;> simp_all
theorem vX (f:Nat->Bool) (i:Nat):HV f i i=true:=if_pos rfl
theorem iW (f:Nat->Nat->Bool) (i j:Nat):DW f i j i j=true:=if_pos ⟨rfl,rfl⟩
theorem Z7 {f:Nat->Bool} {i a:Nat} (h:a≠i):HV f i a=f a:=if_neg h
theorem MV {f:Nat->Nat->Bool} {i j a b:Nat} (h:¬(a=i∧b=j)):DW f i j a b=f a b:=if_neg h
structure AiW (c:GC) (g g':Gh) (f:AO) (N:List AO):Prop where
 ok:g'.Ok c
 w:∀ φ,g'.pend c φ+φ f=g.pend c φ+wt φ N
 v:g'.val c=g.val c+1
 h:g'.nh c=g.nh c∨g'.nh c=g.nh c+1∧∀ i,i<c.R→g'.rnd c i=g.nh c
theorem AwZ (a4:c.Ok) (J:g.Ok c) {i:Nat} (hi:i<c.R) (hu:1<=g.u) (W:g.O i=false):AiW c g { g with O:=HV g.O i } (c.fOrder (g.u - 1) i) (if g.u<c.U then (List.range c.C).map (c.fShare g.u i) else []):=by
 have hS:∀ j,g.S i j=false:=λj=>by
   cases d:g.S i j with
   | false=>rfl
   | true=>have:=(J.S i j hi d).1; rw[W] at this; cases this
 refine⟨⟨J.u,λa b h d=>⟨AwY (J.S a b h d).1,(J.S a b h d).2⟩,J.E,J.A,J.V,J.no,λh0=>absurd (show g.u=0 from h0) (by omega)⟩,λφ=>?_,?_,?_⟩
 . have D:=H0 (n:=c.R) (f:=g.pO c φ) (f':=({ g with O:=HV g.O i }:Gh).pO c φ) hi λk _ hk=>by unfold Gh.pO; simp only; rw[Z7 hk]
   have h2:=H0 (n:=c.R) (f:=λa=>B4 c.C (g.pS c φ a)) (f':=λa=>B4 c.C (({ g with O:=HV g.O i }:Gh).pS c φ a)) hi λk _ hk=>by unfold Gh.pS; simp only; rw[Z7 hk]
   have e1:g.pO c φ i=φ (c.fOrder (g.u - 1) i):=if_pos ⟨hu,W⟩;have e2:({ g with O:=HV g.O i }:Gh).pO c φ i=0:=if_neg λd=>by have Z:HV g.O i i=false:=d.2; rw[vX] at Z; cases Z
   have e3:B4 c.C (g.pS c φ i)=0:=(CI (b:=0) λj _=>if_neg λd=>by have Z:=d.1; rw[W] at Z; cases Z).trans (ML _)
   have e4:B4 c.C (({ g with O:=HV g.O i }:Gh).pS c φ i)=wt φ (if g.u<c.U then (List.range c.C).map (c.fShare g.u i) else []):=by
     split
     . rename_i a3;rw[AiT];exact JQ λj _=>if_pos ⟨vX _ _,a3,hS j⟩
     . rename_i a2;exact(CI (b:=0) λj _=>if_neg λd=>a2 d.2.1).trans (ML _)
   simp only[e1,e2,e3,e4] at D h2;show B4 c.R (({ g with O:=HV g.O i }:Gh).pO c φ)+B4 c.R (λa=>B4 c.C (({ g with O:=HV g.O i }:Gh).pS c φ a))+B4 c.C (λj=>B4 c.R (g.pE c φ j))+B4 c.R (λi=>B4 c.C (g.pA c φ i))+B4 c.R (g.pV c φ)+_=_;unfold Gh.pend;omega
 . have D:=H0 (n:=c.R) (f:=λa=>Gh.bt (g.O a)) (f':=λa=>Gh.bt (HV g.O i a)) hi λk _ hk=>by rw[Z7 hk]
   simp only[vX,W] at D;have e1:Gh.bt false=0:=rfl;have e2:Gh.bt true=1:=rfl;unfold Gh.val;simp only;omega
 . unfold Gh.nh;rw[if_neg (c:=(∀ a,a<c.R->g.O a=true)∧c.st (g.u - 1)≠3) λd=>by have:=d.1 i hi; rw[W] at this; cases this];by_cases D:g.u<=1
   . left; rw[if_pos D,if_pos (show({ g with O:=HV g.O i }:Gh).u<=1 from D)]
   . rw[if_neg D,if_neg (show ¬({ g with O:=HV g.O i }:Gh).u<=1 from D)];split
     . rename_i d;right;refine⟨by show g.u=g.u - 1+1; omega,λa h=>?_⟩;unfold Gh.rnd;rw[if_pos (d.1 a h),if_neg d.2]
     . exact .inl rfl
theorem Ax0 (a7:c.Ok) (W:g.Ok c) {i j:Nat} (hi:i<c.R) (J:j<c.C) (hO:g.O i=true) (hu:g.u<c.U) (hS:g.S i j=false):AiW c g { g with S:=DW g.S i j } (c.fShare g.u i j) (if ({ g with S:=DW g.S i j }:Gh).col c j=true then (List.range c.R).map (c.fSpread g.u j) else []):=by
 have a2:g.col c j=false:=decide_eq_false λd=>by have:=d i hi; rw[hS] at this; cases this
 have a3:∀ b,g.col c b=true->({ g with S:=DW g.S i j }:Gh).col c b=true:=λb d=>decide_eq_true λa D=>AiV (of_decide_eq_true d a D);have a4:∀ b,b≠j->({ g with S:=DW g.S i j }:Gh).col c b=g.col c b:=λb hb=>by unfold Gh.col; simp only[MV (f:=g.S) (i:=i) (j:=j) (b:=b) (λe=>hb e.2)]
 have hE:∀ a,a<c.R->g.E a j=false:=λa D=>by
   cases d:g.E a j with
   | false=>rfl
   | true=>have:=W.E a j D J d; rw[a2] at this; cases this
 refine⟨⟨W.u,λa b D d=>?_,λa b D hb d=>a3 b (W.E a b D hb d),W.A,W.V,W.no,W.z⟩,λφ=>?_,?_,.inl rfl⟩
 . by_cases e:a=i∧b=j
   . rw[e.1]; exact⟨hO,hu⟩
   . exact W.S a b D (by rw[<-MV (f:=g.S) e]; exact d)
 . have h1:=LQ (f:=g.pS c φ) (f':=({ g with S:=DW g.S i j }:Gh).pS c φ) hi J λa b _ _ Z=>by unfold Gh.pS; simp only; rw[MV Z]
   have h2:=H0 (n:=c.C) (f:=λb=>B4 c.R (g.pE c φ b)) (f':=λb=>B4 c.R (({ g with S:=DW g.S i j }:Gh).pE c φ b)) J λk _ hk=>by unfold Gh.pE; rw[a4 k hk]
   have e1:g.pS c φ i j=φ (c.fShare g.u i j):=if_pos ⟨hO,hu,hS⟩;have e2:({ g with S:=DW g.S i j }:Gh).pS c φ i j=0:=if_neg λd=>by have h:DW g.S i j i j=false:=d.2.2; rw[iW] at h; cases h
   have e3:B4 c.R (g.pE c φ j)=0:=(CI (b:=0) λa _=>if_neg λd=>by have h:=d.1; rw[a2] at h; cases h).trans (ML _)
   have e4:B4 c.R (({ g with S:=DW g.S i j }:Gh).pE c φ j)=wt φ (if ({ g with S:=DW g.S i j }:Gh).col c j=true then (List.range c.R).map (c.fSpread g.u j) else []):=by
     split
     . rename_i a6;rw[AiT];exact JQ λa D=>if_pos ⟨a6,hE a D⟩
     . rename_i a5;exact(CI (b:=0) λa _=>if_neg λd=>a5 d.1).trans (ML _)
   simp only[e1,e2,e3,e4] at h1 h2;show B4 c.R (g.pO c φ)+B4 c.R (λa=>B4 c.C (({ g with S:=DW g.S i j }:Gh).pS c φ a))+B4 c.C (λb=>B4 c.R (({ g with S:=DW g.S i j }:Gh).pE c φ b))+B4 c.R (λi=>B4 c.C (g.pA c φ i))+B4 c.R (g.pV c φ)+_=_;unfold Gh.pend;omega
 . have h1:=LQ (f:=λa b=>Gh.bt (g.S a b)) (f':=λa b=>Gh.bt (DW g.S i j a b)) hi J λa b _ _ Z=>by rw[MV Z]
   simp only[iW,hS] at h1;have e1:Gh.bt false=0:=rfl;have e2:Gh.bt true=1:=rfl;unfold Gh.val;simp only;omega
theorem Ax1 (a2:c.Ok) (J:g.Ok c) {i j:Nat} (hi:i<c.R) (W:j<c.C) (hc:g.col c j=true) (U:g.E i j=false):AiW c g { g with E:=DW g.E i j } (c.fSpread g.u j i) [c.fGather g.u i j]:=by
 have hA:g.A i j=false:=by
   cases D:g.A i j with
   | false=>rfl
   | true=>have:=J.A i j hi W D; rw[U] at this; cases this
 refine⟨⟨J.u,J.S,λa b h hb D=>?_,λa b h hb D=>AiV (J.A a b h hb D),J.V,J.no,J.z⟩,λφ=>?_,?_,.inl rfl⟩
 . by_cases e:a=i∧b=j
   . rw[e.2]; exact hc
   . exact J.E a b h hb (by rw[<-MV (f:=g.E) e]; exact D)
 . have Z:=LQ (f:=g.pE c φ) (f':=({ g with E:=DW g.E i j }:Gh).pE c φ) W hi λb a _ _ d=>by unfold Gh.pE; simp only; rw[MV λe=>d ⟨e.2,e.1⟩]; rfl
   have h2:=LQ (f:=g.pA c φ) (f':=({ g with E:=DW g.E i j }:Gh).pA c φ) hi W λa b _ _ d=>by unfold Gh.pA; simp only; rw[MV d]
   have e1:g.pE c φ j i=φ (c.fSpread g.u j i):=if_pos ⟨hc,U⟩;have e2:({ g with E:=DW g.E i j }:Gh).pE c φ j i=0:=if_neg λD=>by have O:DW g.E i j i j=false:=D.2; rw[iW] at O; cases O
   have e3:g.pA c φ i j=0:=if_neg λD=>by have O:=D.1; rw[U] at O; cases O
   have e4:({ g with E:=DW g.E i j }:Gh).pA c φ i j=φ (c.fGather g.u i j):=if_pos ⟨iW _ _ _,hA⟩;rw[e1,e2] at Z; rw[e3,e4] at h2;show B4 c.R (g.pO c φ)+B4 c.R (λa=>B4 c.C (g.pS c φ a))+B4 c.C (λb=>B4 c.R (({ g with E:=DW g.E i j }:Gh).pE c φ b))+B4 c.R (λi'=>B4 c.C (({ g with E:=DW g.E i j }:Gh).pA c φ i'))+B4 c.R (g.pV c φ)+_=_;unfold Gh.pend;simp only[wt];omega
 . have Z:=LQ (f:=λa b=>Gh.bt (g.E a b)) (f':=λa b=>Gh.bt (DW g.E i j a b)) hi W λa b _ _ d=>by rw[MV d]
   simp only[iW,U] at Z;have e1:Gh.bt false=0:=rfl;have e2:Gh.bt true=1:=rfl;unfold Gh.val;simp only;omega
theorem Ax2 (a5:c.Ok) (J:g.Ok c) {i j:Nat} (hi:i<c.R) (hj:j<c.C) (hE:g.E i j=true) (O:g.A i j=false):AiW c g { g with A:=DW g.A i j } (c.fGather g.u i j) (if ({ g with A:=DW g.A i j }:Gh).row c i=true then [c.fVote g.u i] else []):=by
 have a2:g.row c i=false:=decide_eq_false λd=>by have:=d j hj; rw[O] at this; cases this
 have a3:∀ a,g.row c a=true->({ g with A:=DW g.A i j }:Gh).row c a=true:=λa d=>decide_eq_true λb Z=>AiV (of_decide_eq_true d b Z);have a4:∀ a,a≠i->({ g with A:=DW g.A i j }:Gh).row c a=g.row c a:=λa D=>by unfold Gh.row; simp only[MV (f:=g.A) (i:=i) (j:=j) (a:=a) (λe=>D e.1)]
 have hV:g.V i=false:=by
   cases d:g.V i with
   | false=>rfl
   | true=>have:=J.V i hi d; rw[a2] at this; cases this
 refine⟨⟨J.u,J.S,J.E,λa b D Z d=>?_,λa D d=>a3 a (J.V a D d),J.no,λh0 a D=>⟨(J.z h0 a D).1,a3 a (J.z h0 a D).2⟩⟩,λφ=>?_,?_,.inl rfl⟩
 . by_cases e:a=i∧b=j
   . rw[e.1,e.2]; exact hE
   . exact J.A a b D Z (by rw[<-MV (f:=g.A) e]; exact d)
 . have h:=LQ (f:=g.pA c φ) (f':=({ g with A:=DW g.A i j }:Gh).pA c φ) hi hj λa b _ _ U=>by unfold Gh.pA; simp only; rw[MV U]
   have h2:=H0 (n:=c.R) (f:=g.pV c φ) (f':=({ g with A:=DW g.A i j }:Gh).pV c φ) hi λa _ D=>by unfold Gh.pV; simp only; rw[a4 a D]
   have e1:g.pA c φ i j=φ (c.fGather g.u i j):=if_pos ⟨hE,O⟩;have e2:({ g with A:=DW g.A i j }:Gh).pA c φ i j=0:=if_neg λd=>by have W:DW g.A i j i j=false:=d.2; rw[iW] at W; cases W
   have e3:g.pV c φ i=0:=if_neg λd=>by have W:=d.1; rw[a2] at W; cases W
   have e4:({ g with A:=DW g.A i j }:Gh).pV c φ i=wt φ (if ({ g with A:=DW g.A i j }:Gh).row c i=true then [c.fVote g.u i] else []):=by
     split
     . rename_i hr;exact(if_pos ⟨hr,hV⟩).trans (by simp[wt])
     . rename_i hr;exact if_neg λd=>hr d.1
   rw[e1,e2] at h; rw[e3,e4] at h2;show B4 c.R (g.pO c φ)+B4 c.R (λa=>B4 c.C (g.pS c φ a))+B4 c.C (λb=>B4 c.R (g.pE c φ b))+B4 c.R (λi'=>B4 c.C (({ g with A:=DW g.A i j }:Gh).pA c φ i'))+B4 c.R (({ g with A:=DW g.A i j }:Gh).pV c φ)+_=_;unfold Gh.pend;omega
 . have h:=LQ (f:=λa b=>Gh.bt (g.A a b)) (f':=λa b=>Gh.bt (DW g.A i j a b)) hi hj λa b _ _ U=>by rw[MV U]
   simp only[iW,O] at h;have e1:Gh.bt false=0:=rfl;have e2:Gh.bt true=1:=rfl;unfold Gh.val;simp only;omega
theorem Ax3 (a2:c.Ok) (d:g.Ok c) {i:Nat} (hi:i<c.R) (W:g.row c i=true) (h:g.V i=false) (D:∃ k,k<c.R∧HV g.V i k=false):AiW c g { g with V:=HV g.V i } (c.fVote g.u i) []:=by
 refine⟨⟨d.u,d.S,d.E,d.A,λa O J=>?_,D,d.z⟩,λφ=>?_,?_,.inl rfl⟩
 . by_cases e:a=i
   . rw[e]; exact W
   . exact d.V a O (by rw[<-Z7 (f:=g.V) e]; exact J)
 . have h2:=H0 (n:=c.R) (f:=g.pV c φ) (f':=({ g with V:=HV g.V i }:Gh).pV c φ) hi λa _ O=>by unfold Gh.pV; simp only; rw[Z7 O]; rfl
   have e3:g.pV c φ i=φ (c.fVote g.u i):=if_pos ⟨W,h⟩;have e4:({ g with V:=HV g.V i }:Gh).pV c φ i=0:=if_neg λJ=>by have Z:HV g.V i i=false:=J.2; rw[vX] at Z; cases Z
   rw[e3,e4] at h2;show B4 c.R (g.pO c φ)+B4 c.R (λa=>B4 c.C (g.pS c φ a))+B4 c.C (λb=>B4 c.R (g.pE c φ b))+B4 c.R (λi'=>B4 c.C (g.pA c φ i'))+B4 c.R (({ g with V:=HV g.V i }:Gh).pV c φ)+_=_;unfold Gh.pend;simp only[wt];omega
 . have h1:=H0 (n:=c.R) (f:=λa=>Gh.bt (g.V a)) (f':=λa=>Gh.bt (HV g.V i a)) hi λa _ U=>by rw[Z7 U]
   simp only[vX,h] at h1;have e1:Gh.bt false=0:=rfl;have e2:Gh.bt true=1:=rfl;unfold Gh.val;simp only;omega
theorem Ao4 (h:c.Ok) (hg:g.Ok c) (W:g.All c) {i:Nat} (hi:i<c.R) (hV:g.V i=false) (a3:∀ k,k<c.R->HV g.V i k=true):AiW c g g.next (c.fVote g.u i) ((List.range c.R).map (c.fOrder g.u)):=by
 have hR:=h.R1; have hC:=h.C1;have a2:∀ k,k<c.R->k≠i->g.V k=true:=λk hk U=>by have:=a3 k hk; rwa [Z7 U] at this
 have hA:∀ a b,a<c.R->b<c.C->g.A a b=true:=λa b d J=>of_decide_eq_true (W.row a d) b J;have hS:∀ a b,a<c.R->b<c.C->g.S a b=true:=λa b d J=>of_decide_eq_true (W.col b J) a d;refine⟨Gh.next_ok W h,λφ=>?_,?_,.inl ?_⟩
 . have z1:B4 c.R (g.pO c φ)=0:=(CI (b:=0) λa d=>if_neg λD=>by rw[W.O a d] at D; exact nomatch D.2).trans (ML _);have z2:B4 c.R (λa=>B4 c.C (g.pS c φ a))=0:=(CI (b:=0) λa d=>(CI (b:=0) λb J=>if_neg λD=>by rw[hS a b d J] at D; exact nomatch D.2.2).trans (ML _)).trans (ML _);have z3:B4 c.C (λb=>B4 c.R (g.pE c φ b))=0:=(CI (b:=0) λb J=>(CI (b:=0) λa d=>if_neg λD=>by rw[W.E a b d J] at D; exact nomatch D.2).trans (ML _)).trans (ML _);have z4:B4 c.R (λa=>B4 c.C (g.pA c φ a))=0:=(CI (b:=0) λa d=>(CI (b:=0) λb J=>if_neg λD=>by rw[hA a b d J] at D; exact nomatch D.2).trans (ML _)).trans (ML _);have Z:=H0 (n:=c.R) (f:=λ_=>0) (f':=g.pV c φ) hi λa d U=>if_neg λD=>by rw[a2 a d U] at D; exact nomatch D.2
   have e5:g.pV c φ i=φ (c.fVote g.u i):=if_pos ⟨W.row i hi,hV⟩;rw[QK] at Z;have y1:B4 c.R (g.next.pO c φ)=B4 c.R λa=>φ (c.fOrder g.u a):=JQ λa _=>if_pos ⟨by show 1<=g.u+1; omega,rfl⟩;have y2:B4 c.R (λa=>B4 c.C (g.next.pS c φ a))=0:=(CI (b:=0) λa d=>(CI (b:=0) λb J=>if_neg λD=>nomatch D.1).trans (ML _)).trans (ML _);have y3:B4 c.C (λb=>B4 c.R (g.next.pE c φ b))=0:=(CI (b:=0) λb J=>(CI (b:=0) λa d=>if_neg λD=>by rw[Gh.next_col h] at D; exact nomatch D.1).trans (ML _)).trans (ML _);have y4:B4 c.R (λa=>B4 c.C (g.next.pA c φ a))=0:=(CI (b:=0) λa d=>(CI (b:=0) λb J=>if_neg λD=>nomatch D.1).trans (ML _)).trans (ML _);have y5:B4 c.R (g.next.pV c φ)=0:=(CI (b:=0) λa d=>if_neg λD=>by rw[Gh.next_row h] at D; exact nomatch D.1).trans (ML _);rw[AiT];unfold Gh.pend;omega
 . have e1:Gh.bt false=0:=rfl;have e2:Gh.bt true=1:=rfl;have z1:B4 c.R (λa=>Gh.bt (g.O a))=c.R*1:=CI λa d=>by rw[W.O a d]; rfl
   have z2:B4 c.R (λa=>B4 c.C λb=>Gh.bt (g.S a b))=c.R*(c.C*1):=CI λa d=>CI λb J=>by rw[hS a b d J]; rfl
   have z3:B4 c.R (λa=>B4 c.C λb=>Gh.bt (g.E a b))=c.R*(c.C*1):=CI λa d=>CI λb J=>by rw[W.E a b d J]; rfl
   have z4:B4 c.R (λa=>B4 c.C λb=>Gh.bt (g.A a b))=c.R*(c.C*1):=CI λa d=>CI λb J=>by rw[hA a b d J]; rfl
   have Z:=H0 (n:=c.R) (f:=λ_=>1) (f':=λa=>Gh.bt (g.V a)) hi λa d U=>by rw[a2 a d U]; rfl
   simp only[hV] at Z;have y:∀ n,B4 n (λ_=>Gh.bt false)=0:=λn=>(QK n _).trans (ML n);have y':∀ n,B4 n (λ_=>0)=0:=λn=>(QK n 0).trans (ML n);unfold Gh.val;show(g.u+1)*Gh.T c+(B4 c.R (λ_=>Gh.bt false)+B4 c.R (λ_=>B4 c.C λ_=>Gh.bt false)+B4 c.R (λ_=>B4 c.C λ_=>Gh.bt false)+B4 c.R (λ_=>B4 c.C λ_=>Gh.bt false)+B4 c.R λ_=>Gh.bt false)=_;simp only[y,y'];rw[z1,z2,z3,z4,AjY];have:B4 c.R (λa=>Gh.bt (g.V a))+1=c.R*1:=by rw[QK] at Z; omega
   generalize B4 c.R (λa=>Gh.bt (g.V a))=q at *;have hT:Gh.T c=2*c.R+3*(c.R*c.C):=rfl;rw[Nat.mul_one c.C];omega
 . have a4:g.u>=1->c.st (g.u - 1)=0:=λh1=>AcV h W.u h1;unfold Gh.nh;show(if g.u+1<=1 then 1 else if (∀ i,i<c.R->(false:Bool)=true)∧c.st (g.u+1 - 1)≠3 then g.u+1 else g.u+1 - 1)=_;by_cases h0:g.u=0
   . rw[h0]; rfl
   . rw[if_neg (by omega),if_neg (λD=>nomatch D.1 0 (by omega))];by_cases h1:g.u=1
     . rw[h1]; rfl
     . rw[if_neg (by omega),if_pos ⟨W.O,by rw[a4 (by omega)]; omega⟩]; omega
variable {c:GC} {g:Gh}
theorem iX {i j:Nat} (hi:i<c.R) (d:j<c.C):i*c.C+j<c.R*c.C:=by have:(i+1)*c.C<=c.R*c.C:=W9 _ hi;grind
theorem mS (h:c.Ok) {i j:Nat} (d:j<c.C):(i*c.C+j) / c.C=i∧(i*c.C+j) % c.C=j:=by have D:=h.C1;rw[AdW,AjO (by omega),Nat.mul_add_mod,AoT d,Ap6 d];omega
theorem AuN (h:c.Ok) {i j D d:Nat} (O:j<c.C) (J:d<c.C) (e:i*c.C+j=D*c.C+d):i=D∧j=d:=by grind[mS]
theorem eU (h:c.Ok) {i j a b:Nat} (hi:i<c.R) (hj:j<c.C) (W:a<c.R) (U:b<c.C) {w:A1} (D:Wst c i j w) {f:AO} (ht:f.To=c.num i j) (hf:f.From=c.num a b) {Q:Bool×A1->Prop}
  (hQ:(f.Kind=1->EE w f ⟨a,b⟩ Q)∧(f.Kind=2->E0 w f ⟨a,b⟩ Q)∧(f.Kind=3->E4 w f ⟨a,b⟩ Q)∧(f.Kind=4->EP w f ⟨a,b⟩ Q)∧(f.Kind=5->E5 w f ⟨a,b⟩ Q))
  (hk:f.Kind=1∨f.Kind=2∨f.Kind=3∨f.Kind=4∨f.Kind=5):EY w f Q:=by
 have hR:=h.R1; have hC:=h.C1; have hm:=(T_b h).2;have a2:=iX (c:=c) W U;unfold EY HT;rw[show w.place.i=(i:Int) by rw[D.pl],show w.place.j=(j:Int) by rw[D.pl],show w.grid.i=(c.R:Int) by rw[D.gr],show w.grid.j=(c.C:Int) by rw[D.gr],hf];refine XU (by rw[D.gr]) hC (by omega) hj (BU (λO=>absurd ht O) λ_=>?_);unfold GC.num;have Z:(c.R:Int)*(c.C:Int)=((c.R*c.C:Nat):Int):=by omega
 refine A0 (λO=>by omega) λ_=>A0 (λO=>by rw[Z,A7 (by omega) (by omega)] at O; omega) λ_=>?_;have J:IZ c.C:=h.mp.2.2;have V:a*c.C+b<8*c.C:=by have:(a+1)*c.C<=8*c.C:=W9 _ (by omega); grind
 refine bU J V (VV J V ?_);rw[(mS h U).1,(mS h U).2];have⟨q1,q2,q3,q4,q5⟩:=hQ;refine AZ (λd=>q1 d) λ_=>AZ (λd=>q2 d) λ_=>AZ (λd=>q3 d) λ_=>AZ (λd=>q4 d) λ_=>AZ (λd=>q5 d) λ_=>?_;omega
theorem AsJ (h:c.Ok) (O:g.Ok c) {f:AO} (hf:g.Pend c f) (n:Int):∃ i j,i<c.R∧j<c.C∧f.To=c.num i j∧∃ g' N,AiW c g g' f N∧(∀ a b,a<c.R->b<c.C->¬(a=i∧b=j)->∀ w,WOk c g a b w->WOk c g' a b w) ∧
   ∀ w,WOk c g i j w->w.out.length<=1000->∀ Q:Bool×A1->Prop,(∀ w',WOk c g' i j w'->w'.out=w.out++N->Q (true,w'))->EY w { f with Seq:=n } Q:=by
 have hR:=h.R1; have hC:=h.C1; have hU:=h.U_b; have b1:=O.u;have a3:(0:Int)=c.num 0 0:=by unfold GC.num; simp
 rcases hf with⟨i,hi,hu,hO,rfl⟩ | ⟨i,j,hi,W,hO,hu,hS,rfl⟩ | ⟨j,i,W,hi,hc,hE,rfl⟩ | ⟨i,j,hi,W,hE,hA,rfl⟩ | ⟨i,hi,hr,hV,rfl⟩
 . refine⟨i,0,hi,by omega,rfl,_,_,AwZ h O hi hu hO,λa b ha hb J w D=>D.congr rfl rfl (λ_ _=>rfl) (λa2=>Z7 λe=>J ⟨e,a2⟩) (λ_ _=>rfl) (λ_ _ _=>rfl),λw D hl Q Z=>?_⟩;exact eU h (a:=0) (b:=0) hi (by omega) (by omega) (by omega) D.st rfl a3 ⟨λd=>absurd d (by decide:¬(5:Int)=1),λd=>absurd d (by decide:¬(5:Int)=2),λd=>absurd d (by decide:¬(5:Int)=3),λd=>absurd d (by decide:¬(5:Int)=4),λ_=>AnY h O hi D hu hO rfl rfl hl Z⟩ (.inr (.inr (.inr (.inr rfl))))
 . refine⟨0,j,by omega,W,(cG c j).symm,_,_,Ax0 h O hi W hO hu hS,λa b ha hb J w D=>D.congr rfl rfl (λa4 k=>MV λe=>J ⟨a4,e.2⟩) (λ_=>rfl) (λ_ _=>rfl) (λ_ _ _=>rfl),λw D hl Q Z=>?_⟩;exact eU h (a:=i) (b:=0) (by omega) W hi (by omega) D.st (cG c j).symm rfl ⟨λ_=>AsE h hi W D (by omega) hS rfl rfl hl Z,λd=>absurd d (by decide:¬(1:Int)=2),λd=>absurd d (by decide:¬(1:Int)=3),λd=>absurd d (by decide:¬(1:Int)=4),λd=>absurd d (by decide:¬(1:Int)=5)⟩ (.inl rfl)
 . have a5:g.u<c.U:=(O.S 0 j (by omega) (of_decide_eq_true hc 0 (by omega))).2
   have hu:1<=g.u:=by
     rcases aL g.u with h0 | h0
     . have:=(O.row_all hi W (O.z h0 i hi).2).2.1; grind
     . exact h0
   refine⟨i,j,hi,W,rfl,_,_,Ax1 h O hi W hc hE,λa b ha hb J w D=>D.congr rfl (MV J) (λ_ _=>rfl) (λ_=>rfl) (λ_ _=>rfl) (λ_ _ _=>rfl),λw D hl Q Z=>?_⟩;exact eU h (a:=0) (b:=j) hi W (by omega) W D.st rfl (cG c j).symm ⟨λd=>absurd d (by decide:¬(2:Int)=1),λ_=>AnZ h hi W D hu a5 hE rfl rfl hl Z,λd=>absurd d (by decide:¬(2:Int)=3),λd=>absurd d (by decide:¬(2:Int)=4),λd=>absurd d (by decide:¬(2:Int)=5)⟩ (.inr (.inl rfl))
 . have hc:=O.E i j hi W hE;have hS:=O.S i j hi (of_decide_eq_true hc i hi)
   have hu:1<=g.u:=by
     rcases aL g.u with h0 | h0
     . have:=(O.row_all hi W (O.z h0 i hi).2).1; grind
     . exact h0
   refine⟨i,0,hi,by omega,rfl,_,_,Ax2 h O hi W hE hA,λa b ha hb J w D=>D.congr rfl rfl (λ_ _=>rfl) (λ_=>rfl) (λa2 k=>MV λe=>J ⟨e.1,a2⟩) (λ_ _ _=>rfl),λw D hl Q Z=>?_⟩;exact eU h (a:=i) (b:=j) hi (by omega) hi W D.st rfl rfl ⟨λd=>absurd d (by decide:¬(3:Int)=1),λd=>absurd d (by decide:¬(3:Int)=2),λ_=>Ao2 h hi W D hu hS.2 hS.1 hA rfl rfl hl Z,λd=>absurd d (by decide:¬(3:Int)=4),λd=>absurd d (by decide:¬(3:Int)=5)⟩ (.inr (.inr (.inl rfl)))
 . have a5:g.u<c.U:=by have hc:=(O.row_all hi (show 0<c.C by omega) hr).2.2;exact(O.S i 0 hi (of_decide_eq_true hc i hi)).2
   rcases yU (∃ k,k<c.R∧HV g.V i k=false) with a7 | b0
   . refine⟨0,0,by omega,by omega,a3,_,_,Ax3 h O hi hr hV a7,λa b ha hb J w D=>D.congr rfl rfl (λ_ _=>rfl) (λ_=>rfl) (λ_ _=>rfl) (λa4 a2=>absurd ⟨a4,a2⟩ J),λw D hl Q Z=>?_⟩;exact eU h (a:=i) (b:=0) (by omega) (by omega) hi (by omega) D.st a3 rfl ⟨λd=>absurd d (by decide:¬(4:Int)=1),λd=>absurd d (by decide:¬(4:Int)=2),λd=>absurd d (by decide:¬(4:Int)=3),λ_=>Am1 (f:={ c.fVote g.u i with Seq:=n }) h O hi D a5 hr hV rfl rfl rfl hl (λ_ w' a6 ho=>Z w' a6 (by rw[ho,kD])) (λd=>absurd a7 λ⟨k,hk,hf⟩=>by rw[d k hk] at hf; cases hf),λd=>absurd d (by decide:¬(4:Int)=5)⟩ (.inr (.inr (.inr (.inl rfl))))
   . have a8:∀ k,k<c.R->HV g.V i k=true:=λk hk=>by grind
     have ha:g.All c:=O.all h λk hk=>by
       by_cases e:k=i
       . rw[e]; exact hr
       . exact O.V k hk (by rw[<-Z7 (f:=g.V) e]; exact a8 k hk)
     refine⟨0,0,by omega,by omega,a3,_,_,Ao4 h O ha hi hV a8,λa b a9 hb J w D=>D.bump h ha a9 hb D.st ⟨rfl,rfl,rfl,rfl,rfl,rfl,rfl,rfl,rfl⟩ (λa4 a2=>absurd ⟨a4,a2⟩ J),λw D hl Q Z=>?_⟩;exact eU h (a:=i) (b:=0) (by omega) (by omega) hi (by omega) D.st a3 rfl ⟨λd=>absurd d (by decide:¬(4:Int)=1),λd=>absurd d (by decide:¬(4:Int)=2),λd=>absurd d (by decide:¬(4:Int)=3),λ_=>Am1 (f:={ c.fVote g.u i with Seq:=n }) h O hi D a5 hr hV rfl rfl rfl hl (λd=>absurd d b0) (λ_ w' a6 ho=>Z w' a6 ho),λd=>absurd d (by decide:¬(4:Int)=5)⟩ (.inr (.inr (.inr (.inl rfl))))
end
section
open Go Go.Fw
variable {c:GC} {g:Gh}
variable {nb':Nat} {α:Type}
def smG (f:AO):Prop:=f.Vec.Items.length<=1000∧f.Sums.length<=1000∧f.Triples=[]
theorem Am2 (h:c.Ok) {f:AO} (V:g.Pend c f):smG f:=by
 have z:([]:List B9).length<=1000:=by simp
 have D:([]:List BM).length<=1000:=by simp
 rcases V with⟨i,hi,O,U,rfl⟩ | ⟨i,j,hi,d,U,O,hS,rfl⟩ | ⟨j,i,d,hi,hc,J,rfl⟩ | ⟨i,j,hi,d,J,hA,rfl⟩ | ⟨i,hi,hr,hV,rfl⟩
 . exact⟨z,D,rfl⟩
 . exact⟨(h.slice_P g.u hi d).2.2,D,rfl⟩
 . exact⟨(h.piece_P g.u d).2.2,D,rfl⟩
 . refine⟨z,?_,rfl⟩;have⟨Z,_,b3⟩:=h.blk_prop g.u hi j;have:=cF (a:=0) Z (by simpa using b3);have:=h.ln_n i hi;show(c.blk g.u i j).length<=1000;omega
 . exact⟨z,D,rfl⟩
theorem Ag2 {l:List BM} {Q:List BM->Prop} (h:l.length<=1000000) (d:Q l):D7 l Q:=by unfold D7;exact MM (λe=>by subst e; exact d) (AK (by simp; omega) d)
theorem AsK {l:List A2} {Q:List A2->Prop} (h:l.length<=1000000) (d:Q l):D0 l Q:=by unfold D0;exact MM (λe=>by subst e; exact d) (AK (by simp; omega) d)
theorem AuO {f:AO} {Q:AO->Prop} (h:smG f) (d:Q f):YD f Q:=by unfold YD;exact cB (by have:=h.1; omega) (Ag2 (by have:=h.2.1; omega) d)
theorem Am3 {f:AO} {Q:AO->Prop} (h:smG f) (d:Q f):aZ f Q:=by unfold aZ;exact cB (by have:=h.1; omega) (Ag2 (by have:=h.2.1; omega) (AsK (by rw[h.2.2]; simp) d))
structure Bk (t rm nb:Nat) (x:BR) (l:List AO):Prop where
 room:x.room=rm
 tk:x.taken=t
 sent:x.sent=((t+l.length:Nat):Int)
 nb:t+l.length≤nb
 len:l.length≤rm
 row:x.row=(List.range' t l.length).map fun n:Nat=>(n:Int)
 by_:∀ i (hi:i<l.length),BA ((t+i:Nat):Int) x.by_=some { l[i] with Seq:=((t+i:Nat):Int) }
 byk:ES x.by_
 often:∀ n:Nat,BA (n:Int) x.often=if t≤n∧n<t+l.length then some 1 else none
 oftk:ES x.often
variable {t rm nb:Nat} {x:BR} {l:List AO}
theorem Bk.le (h:Bk t rm nb x l) (d:nb<=nb'):Bk t rm nb' x l:=⟨h.room,h.tk,h.sent,gV h.nb d,h.len,h.row,h.by_,h.byk,h.often,h.oftk⟩
theorem Bk.rlen (h:Bk t rm nb x l):x.row.length=l.length:=by rw[h.row]; simp
theorem AsL (rm nb:Nat):Bk 0 rm nb { room:=(rm:Int),row:=[],by_:=[],often:=[],sent:=0,taken:=0 } []:=
 ⟨rfl,rfl,rfl,by simp,by simp,rfl,λ_ hi=>by simp at hi,by simp[ES],λ_=>by simp[BA],by simp[ES]⟩
theorem AuP (h:Bk t rm nb x l) (hr:rm<=64) (hn:nb<=1000000) {f:AO} (hf:smG f) {Q:Int×BR->Prop} (h1:rm<=l.length->Q (9,x)) (h2:l.length<rm->∀ V,Bk t rm (nb+1) V (l++[f])->Q (0,V)):KG x f Q:=by
 have d:=h.rlen;have⟨_,_,_,_,_,_⟩:=x;have⟨a1,J,U,_,_,Z,a7,a8,O,D⟩:=h;simp only at a1 J U Z a7 a8 O D d;subst a1 J U;unfold KG O8;simp only[d];refine A0 (λhx=>h1 (by omega)) λhx=>Am3 hf ?_;unfold PU;have ho:=O (t+l.length);rw[if_neg (by omega)] at ho;refine AK (by simp only; rw[d]; simp; omega) (I7 ?_);simp only[ho,Option.getD_none];refine h2 (by omega) _ ⟨rfl,rfl,?_,by simp; omega,by simp; omega,?_,λi hi=>?_,HF a8 _ _,λn=>?_,HF D _ _⟩
 . simp only;rw[A7 (by omega) (by omega)]; simp; omega
 . simp only;rw[Z,kC,At4,List.range'_concat]; simp
 . simp only[kC,At4] at hi;by_cases e:i=l.length
   . subst e;simp only[CT]; simp
   . simp only;rw[D4 (by omega),a7 i (by omega),List.getElem_append_left (by omega)]
 . by_cases e:n=t+l.length
   . subst e;simp only;rw[CT,if_pos (by simp)]; rfl
   . simp only;rw[D4 (by omega),O n];grind
theorem AcX (h:Bk t rm nb x l) {Q:Int->Prop} (d:Q (l.length:Int)):IE x Q:=by unfold IE; rw[h.rlen]; exact d
theorem AiX (h:Bk t rm nb x l) {i:Nat} (hi:i<x.row.length):x.row[i]=((t+i:Nat):Int):=by have d:=h.row;grind
theorem Ax4 (h:Bk t rm nb x l) (Z:l≠[]) (hr:rm<=64) {Q:Int->Prop} (hQ:Q 0):HZ x Q:=by have O:0<l.length:=List.length_pos_iff.2 Z;have d:=h.rlen; have a2:=h.len;unfold HZ;refine AcX h (AZ (λ_=>by omega) λ_=>AwX (λe=>by rw[e] at d; simp at d; omega) (by omega) λ_ V D=>AsA (by omega) V λ_ hi J _=>?_);have U:=D x.row[0] (RY (by omega));rw[AiX h (by omega),<-J,AiX h hi] at U;grind
theorem AuQ {f:AO} (h:Bk t rm nb x (f :: l)) (hr:rm<=64) (hn:nb<=1000000) (hf:smG f) {Q:AO×Bool×Int×BR->Prop} (hQ:∀ Z,Bk (t+1) rm nb Z l->Q ({ f with Seq:=(t:Int) },true,0,Z)):KH x 0 Q:=by
 have V:=h.rlen; have a3:=h.len; have a2:=h.nb;simp only[nR] at V a3 a2;have U:(0:Nat)<x.row.length:=by omega
 have O:x.row[0]=(t:Int):=by rw[AiX h U]; rfl
 have J:=h.by_ 0 (by simp);simp only[eY,List.getElem_cons_zero] at J;have D:=h.often t;rw[if_pos (by simp)] at D;unfold KH S4;refine A0 (λd=>by omega) λ_=>A0 (λd=>by omega) λ_=>BU (λd=>absurd rfl d) λ_=>AN U ?_;rw[O,h.tk];refine A0 (λd=>by omega) λ_=>?_;unfold PV;refine AN U (I7 ?_);rw[O,J];refine AnW (i:=0) U (by omega) (I7 (I7 ?_));rw[CT,D];refine B7 rfl (A0 (λd=>?_) λ_=>Am3 (f:={ f with Seq:=(t:Int) }) hf (hQ _ ?_))
 . exact absurd (show(t:Int)<x.taken from d) (by rw[h.tk]; omega)
 . refine⟨h.room,?_,?_,by omega,by omega,?_,λi _=>?_,qH h.byk _,λn=>?_,qH (HF h.oftk _ _) _⟩
   . show A5 (x.taken+1)=_;rw[h.tk,A7 (by omega) (by omega)]; simp
   . show x.sent=_;rw[h.sent]; simp; omega
   . show x.row.eraseIdx 0=_;rw[h.row,nR,List.range'_succ]; simp
   . show BA _ (FK _ x.by_)=_;have:=h.by_ (i+1) (by simp; omega);rw[ME (by omega)];grind
   . show BA _ (FK _ (DY _ _ x.often))=_;by_cases e:n=t
     . subst e;rw[aS (HF h.oftk _ _),if_neg (by omega)]
     . rw[ME (by omega),D4 (by omega),h.often n];grind
def mT (f:List Int) (k:Nat):List Int:=((List.range k).filter λi:Nat=>CY f i).map λi:Nat=>(i:Int)
theorem vY (f:List Int) (k:Nat):mT f (k+1)=mT f k++if CY f k=true then [(k:Int)] else []:=by unfold mT;rw[ZX,gT,dA];grind
theorem vZ {f:List Int} {a:Nat}:∀ b,a<=b->(∀ m,a<=m->m<b->CY f m=false)->mT f b=mT f a
  | 0, h, _ => by
    have : a = 0 := by omega
    rw[this]
  | b+1,h,hz=>by
    by_cases e:a=b+1
    . rw[e]
    . rw[vY,hz b (by omega) (by omega),if_neg (by simp),kD];exact vZ b (by omega) λm d _=>hz m d (by omega)
theorem Ao5 (f:List Int) (k:Nat):(mT f k).length<=k:=by grind[mT]
theorem xU {f:List Int} {Q:List Int->Prop} (Z:VQ f) (hl:f.length<=1000000) (hQ:Q (VR f)):YC f Q:=by
 unfold YC KT JC G7 PI;refine A6 (s0:=(([]:List Int),(0:Nat))) (λ(s:List Int×Nat) i=>(s.1,i,s.2)) 0 f.length (by omega) (λk s=>s.2=0∧s.1=mT f (64*k)) (by omega) ⟨rfl,rfl⟩ (λk s next _ _ O hn=>?_) (λs next O=>?_)
 . have⟨s1,s2⟩:=s;have⟨d,D⟩:=O;simp only at d D ⊢;subst d;have h:=OE Z k;refine A0 (λ_=>BC (by omega) (by omega) ?_) (λa3=>by omega)
   have a5:shl .i64 (k:Int) 6=64*(k:Int):=by show A5 ((k:Int)*2 ^ 6)=_;rw[A7 (by omega) (by omega)]; omega
   rw[a5];refine CN (λs:List Int×Int×Int×Nat=>∃ j:Nat,j<=64∧s.2.2.1=64*k+j∧s.2.1=BD f k / 2 ^ j∧s.2.2.2=0∧s.1=mT f (64*k+j)) (λs=>s.2.1.toNat) ⟨0,by omega,by simp,by simp,rfl,D⟩ ?_;rintro⟨t1,w,a4,_⟩ _ ⟨j,_,ha,J,h4,V⟩ hnx;simp only at ha J h4 V ⊢;subst h4
   have U:0<=w∧w<18446744073709551616:=by rw[J];have hp:(0:Int)<2 ^ j:=Ak0 (by omega);exact⟨AjR h.1 (yW hp),Int.lt_of_le_of_lt (Ap8 _ h.1) h.2⟩
   have e1:A5 (a4+1)=64*(k:Int)+((j+1:Nat):Int):=by rw[ha,A7 (by omega) (by omega)]; omega
   refine BU (λ_=>?_) (λhe=>?_)
   . have a2:j<64:=by grind
     have a7:=Af5 Z a2 J;have ec:((64*k+j:Nat):Int)=64*(k:Int)+j:=by omega
     have a6:=vY f (64*k+j);rw[ec] at a6;rw[Al3 U.1 U.2,Al4,e1];have a8:=Ao5 f (64*k+j);refine AZ (λd=>⟨rfl,AK (by subst V; simp; omega) (AH rfl (hnx _ ⟨j+1,by omega,rfl,eN J,rfl,?_⟩ (by simp only; omega)))⟩) (λd=>hnx _ ⟨j+1,by omega,rfl,eN J,rfl,?_⟩ (by simp only; omega))
     all_goals grind
   . refine hn (_,0) ⟨rfl,?_⟩;show t1=_;rw[V,show 64*(k+1)=64*k+64 by omega];refine(vZ _ (by omega) λm d D=>?_).symm;obtain⟨q,rfl⟩:∃ q,m=64*k+q:=⟨m - 64*k,by omega⟩;have:=zZ Z (j:=j) (k:=q) (by omega) (by omega) J he;grind
 . have⟨s1,s2⟩:=s;have⟨d,D⟩:=O;simp only at d D ⊢;subst d;refine A0 (λa3=>by omega) (λ_=>⟨rfl,?_⟩);show Q s1;rw[D]; exact hQ
variable {c:GC} {g:Gh}
theorem UG {p:Nat} {A:Prop} {B:Nat->Prop} (h:B p):rG (some p) A B:=⟨(λe=>nomatch e),λ_ e=>by cases e; exact h⟩
theorem Ag3 (h:c.Ok) {o:AL} {ws:A3} {ad:Nat->Nat} (O:o.owners=(List.range c.R).map λi=>some (ad (i*c.C))) (hN:o.setup.Plan.N=c.n) {k:Nat}
   (hw:∀ i,i<c.R->∃ w,BA (ad (i*c.C)) ws=some w∧w.has=c.sg k i) {Q:State->Prop} (hQ:Q (CU 0 c.n (c.G k))):GL o ws Q:=by
 have hR:=h.R1; have b1:=h.n4;unfold GL;have c0:o.owners.length=c.R:=by rw[O]; simp
 refine A6 (λ(s:List Int×List Int×List Int) i=>(s.1,s.2.1,s.2.2,i)) 0 c.R (by omega) (λi s=>s=(QE (c.ls i) λv=>(c.G k v).1,QE (c.ls i) λv=>(c.G k v).2.1,GU (c.ls i) λv=>(c.G k v).2.2)) (by omega) (by unfold GC.ls; rw[AfY]; rfl) (λi s next _ hi Z hn=>?_) (λs next Z=>?_) (s0:=([],[],[]))
 . subst Z;dsimp only;have⟨w,a4,a7⟩:=hw i hi;have a9:=h.ln_n i hi; have b0:=h.ls_n hi; have a3:=h.ls_ln i;refine A0 (λ_=>A9 (by omega) (x:=some (ad (i*c.C))) (by rw[O]; simp[hi]) ?_) (λd=>by omega);unfold JG ID;refine UG ⟨w,a4,?_⟩;dsimp only;rw[a7];have lA:(c.sg k i).A.length=c.ln i:=L9 _ _;have lB:(c.sg k i).B.length=c.ln i:=L9 _ _;have a6:VQ (c.sg k i).On:=(FF _ _).1
   have V:(c.sg k i).On.length<=1000000:=by have:(c.sg k i).On.length=F0 (c.ln i):=(FF _ _).2.1;have:=OG (c.ln i); omega
   refine NC (by omega) (NC (by omega) (iS V (AK (by rw[L9,lA]; omega) (AK (by rw[L9,lB]; omega) (xU a6 V ?_)))));have a5:VR (c.sg k i).On=GU (c.ln i) λa=>(c.G k (c.ls i+a)).2.2:=ArT (by omega) _;rw[a5];have c1:=M7 (c.ln i) λa=>(c.G k (c.ls i+a)).2.2;have D:=M7 (c.ls i) λv=>(c.G k v).2.2;refine ArU (xs:=GU (c.ln i) λa=>(c.G k (c.ls i+a)).2.2) (f:=λx:Int=>x+(c.ls i:Int)) (by omega) (λ_ s nx U _ a2=>?_) (λnx=>?_)
   . have a8:=OP (RY U);have e:(c.sg k i).Low=(c.ls i:Int):=rfl;refine A0 (λ_=>AN U (AK (by simp; omega) ?_)) (λd=>by omega);simp only[e];rw[A7 (x:=(c.ls i:Int)+_) (by omega) (by omega),Int.add_comm];exact a2
   . refine A0 (λd=>by omega) λ_=>hn (_,_,_) ?_;show(_++QE (c.ln i) (λa=>(c.G k (c.ls i+a)).1),_++QE (c.ln i) (λa=>(c.G k (c.ls i+a)).2.1),_)=_;rw[<-AfM,<-AfM,<-ArR,a3]
 . subst Z;have J:c.ls c.R=c.n:=sM _ hR.1;dsimp only;rw[J,hN];have D:=M7 c.n λv=>(c.G k v).2.2;refine A0 (λd=>by omega) λ_=>N9 (by omega) (λx hx=>by have:=OP hx; unfold DH; omega) ?_;unfold CU chS at hQ;grind
theorem Ax5 (h:c.Ok) (g:Gh):∃ i,i<c.R∧g.rnd c i≠g.nh c:=by
 have D:=h.R1;unfold Gh.nh Gh.rnd;by_cases h1:g.u<=1
 . refine⟨0,by omega,?_⟩;grind
 . rw[if_neg h1];rcases yU (∀ i,i<c.R->g.O i=true) with d | d
   . refine⟨0,by omega,?_⟩;rw[if_pos (d 0 (by omega))];by_cases h3:c.st (g.u - 1)=3
     . grind
     . rw[if_neg h3,if_pos (c:=(∀ i,i<c.R->g.O i=true)∧c.st (g.u - 1)≠3) ⟨d,h3⟩]; omega
   grind
def GC.hist (c:GC) (n:Nat):List State:=(List.range n).map λk=>CU 0 c.n (c.G k)
theorem Am4 (h:c.Ok) (hg:g.Ok c) {o:AL} {ws:A3} {ad:Nat->Nat} (O:o.owners=(List.range c.R).map λi=>some (ad (i*c.C))) (hN:o.setup.Plan.N=c.n)
   (hw:∀ i,i<c.R->∃ w,BA (ad (i*c.C)) ws=some w∧w.round=(g.rnd c i:Int)∧w.has=c.sg (g.rnd c i) i) {n:Nat} (V:o.history=c.hist n) (U:g.nh c=n∨g.nh c=n+1∧∀ i,i<c.R->g.rnd c i=n)
   {Q:AL->Prop} (Z:Q { o with history:=c.hist (g.nh c) }):EM o ws Q:=by
 have hR:=h.R1; have hU:=h.U_b; have a3:=hg.u;have a4:o.owners.length=c.R:=by rw[O]; simp
 have d:o.history.length=n:=by grind[GC.hist]
 have a2:n<=70:=by
   have:g.nh c<=70:=by unfold Gh.nh; split <;> (try split) <;> omega
   omega
 unfold EM;refine CM c.R (by omega) (λi=>∀ k,k<i->g.rnd c k=n) (λk hk=>by omega) (λi next hi hs D=>?_) (λnext hs=>?_)
 . have⟨w,w1,w2,_⟩:=hw i hi;refine A0 (λ_=>A9 (by omega) (x:=some (ad (i*c.C))) (by rw[O]; simp[hi]) ?_) (λh'=>by omega);unfold JE IC;refine UG ⟨w,w1,?_⟩;dsimp only;rw[w2,d];refine BU (λJ=>?_) λ_=>D λk hk=>?_
   . rcases U with e | ⟨e,a5⟩
     . rw[e,<-V] at Z; exact Z
     grind
   grind
 . refine A0 (λh'=>by omega) λ_=>Ag3 h O hN (k:=n) (λi hi=>?_) (AK (by rw[d]; simp; omega) ?_)
   . grind
   . rcases U with e | ⟨e,_⟩
     . have⟨i,hi,J⟩:=Ax5 h g;grind
     . rw[V];have:c.hist (g.nh c)=c.hist n++[CU 0 c.n (c.G n)]:=by rw[e]; unfold GC.hist; rw[ZX,dA]; rfl
       grind
variable {c:GC} {g:Gh}
def Ag4 (W:Nat->A1) (k:Nat) (x:A1):Nat->A1:=λq=>if q=k then x else W q
def xV (B:Nat->Nat->List AO) (a b:Nat) (l:List AO):Nat->Nat->List AO:=λx y=>if x=a∧y=b then l else B x y
theorem pJ (W:Nat->A1) (k:Nat) (x:A1):Ag4 W k x k=x:=if_pos rfl
theorem pK {W:Nat->A1} {k q:Nat} {x:A1} (h:q≠k):Ag4 W k x q=W q:=if_neg h
theorem iY (B:Nat->Nat->List AO) (a b:Nat) (l:List AO):xV B a b l a b=l:=if_pos ⟨rfl,rfl⟩
theorem iZ {B:Nat->Nat->List AO} {a b x y:Nat} {l:List AO} (h:¬(x=a∧y=b)):xV B a b l x y=B x y:=if_neg h
theorem AuR (B:Nat->Nat->List AO) (a b:Nat):xV B a b (B a b)=B:=by grind[xV]
theorem Z8 (p:Nat) (x:α) (l:List (Nat×α)):BA p ((p,x) :: l)=some x:=if_pos rfl
theorem sO {p q:Nat} (h:q≠p) (x:α) (l:List (Nat×α)):BA q ((p,x) :: l)=BA q l:=if_neg h
theorem mU {p q:Nat} (h:q≠p) (x:α) (l:List (Nat×α)):BA q ((p,x) :: FK p l)=BA q l:=(sO h x _).trans (ME h l)
abbrev pL:=Int×Int
theorem AsM {a b d h:Nat} (e:((a:Int),(b:Int))=((d:Int),(h:Int))):a=d∧b=h:=by grind
structure Bxs (N rm nb:Nat) (B:Nat→Nat→List AO) (bx:List (pL×Option Nat)) (bs:AV):Prop where
 ks:ES bx
 ln:bx.length≤nb
 key:∀ k v,BA k bx=some v→∃ a b p:Nat,a<N∧b<N∧k=((a:Int),(b:Int))∧v=some p
 get:∀ a b p:Nat,BA ((a:Int),(b:Int)) bx=some (some p)→∃ t x,BA p bs=some x∧Bk t rm nb x (B a b)
 no:∀ a b:Nat,BA ((a:Int),(b:Int)) bx=none→B a b=[]
 inj:∀ k k' p,BA k bx=some (some p)→BA k' bx=some (some p)→k=k'
variable {N rm nb n:Nat} {B:Nat→Nat→List AO} {bx:List (pL×Option Nat)} {bs:AV}
theorem Bxs.le (h:Bxs N rm nb B bx bs) (d:nb<=nb'):Bxs N rm nb' B bx bs:=
 ⟨h.ks,gV h.ln d,h.key,λa b p hp=>by have⟨t,x,D,J⟩:=h.get a b p hp; exact⟨t,x,D,J.le d⟩,h.no,h.inj⟩
theorem Bxs.upd (h:Bxs N rm nb B bx bs) {a b p:Nat} (hp:BA ((a:Int),(b:Int)) bx=some (some p)) {t:Nat} {U:BR} {O:List AO} (hx:Bk t rm nb' U O) (V:nb<=nb'):Bxs N rm nb' (xV B a b O) bx ((p,U) :: FK p bs):=by
 refine⟨h.ks,gV h.ln V,h.key,λJ D Z d=>?_,λJ D d=>?_,h.inj⟩
 . by_cases e:J=a∧D=b
   . grind[Z8,iY]
   . have a2:Z≠p:=λe'=>by subst e';have:=h.inj _ _ _ d hp;exact e (AsM this)
     have⟨t',x,h1,h2⟩:=h.get J D Z d;exact⟨t',x,by rw[mU a2]; exact h1,by rw[iZ e]; exact h2.le V⟩
 . rw[iZ]
   . exact h.no J D d
   all_goals grind
theorem Bxs.new (h:Bxs N rm nb B bx bs) {a b p:Nat} (ha:a<N) (hb:b<N) (a2:BA ((a:Int),(b:Int)) bx=none) (hf:BA p bs=none) :
   Bxs N rm (nb+1) B (DY ((a:Int),(b:Int)) (some p) bx) ((p,{ room:=(rm:Int),row:=[],by_:=[],often:=[],sent:=0,taken:=0 }) :: bs):=by
 have a3:∀ k,BA k bx≠some (some p):=λk hk=>by obtain⟨J,d,O,_,_,rfl,e⟩:=h.key _ _ hk;have⟨t,x,U,_⟩:=h.get J d p hk;rw[hf] at U; cases U
 have V:∀ k v,BA k (DY ((a:Int),(b:Int)) (some p) bx)=some v->(k=((a:Int),(b:Int))∧v=some p)∨(k≠((a:Int),(b:Int))∧BA k bx=some v):=λk v hk=>by
   by_cases e:k=((a:Int),(b:Int))
   . subst e; rw[CT] at hk; grind
   . rw[D4 e] at hk; exact .inr ⟨e,hk⟩
 refine⟨HF h.ks _ _,by have:=AeJ ((a:Int),(b:Int)) (some p) bx; have:=h.ln; omega,λk v hk=>?_,λJ d O hk=>?_,λJ d hk=>?_,λk _ O hk D=>?_⟩
 . rcases V k v hk with⟨rfl,rfl⟩ | ⟨_,hk⟩
   . grind
   . exact h.key k v hk
 . rcases V _ _ hk with⟨e,Z⟩ | ⟨_,hk⟩
   . obtain⟨rfl,rfl⟩:J=a∧d=b:=AsM e;obtain rfl:O=p:=by simpa using Z
     exact⟨0,_,Z8 _ _ _,by rw[h.no _ _ a2]; exact AsL rm (nb+1)⟩
   . have⟨t,x,U,h2⟩:=h.get J d O hk;have a4:O≠p:=λe=>a3 _ (by rw[e] at hk; exact hk);exact⟨t,x,by rw[sO a4]; exact U,h2.le (by omega)⟩
 . by_cases e:((J:Int),(d:Int))=((a:Int),(b:Int))
   . rw[e,CT] at hk; cases hk
   . rw[D4 e] at hk; exact h.no J d hk
 . rcases V _ _ hk with⟨rfl,e⟩ | ⟨_,hk⟩ <;> rcases V _ _ D with⟨rfl,Z⟩ | ⟨_,D⟩
   . rfl
   . grind
   . grind
   . exact h.inj _ _ _ hk D
structure GrI (c:GC) (g:Gh) (ad:Nat→Nat) (W:Nat→A1) (B:Nat→Nat→List AO) (rm nb n:Nat) (o:AL) (ws:A3) (bs:AV):Prop where
 gh:g.Ok c
 pn:o.setup.Plan.N=c.n
 room:o.setup.Room=rm
 wk:o.workers=(List.range (c.R*c.C)).map fun k=>some (ad k)
 ow:o.owners=(List.range c.R).map fun i=>some (ad (i*c.C))
 inj:∀ a b,a<c.R*c.C→b<c.R*c.C→ad a=ad b→a=b
 mem:∀ k,k<c.R*c.C→BA (ad k) ws=some (W k)
 ok:∀ i j,i<c.R→j<c.C→WOk c g i j (W (i*c.C+j))
 hist:o.history=c.hist n
 tot:∀ φ,B4 (c.R*c.C) (fun k=>wt φ (W k).out)+B4 (c.R*c.C) (fun a=>B4 (c.R*c.C) fun b=>wt φ (B a b))=g.pend c φ
 to:∀ a b,a<c.R*c.C→b<c.R*c.C→∀ f∈B a b,f.To=(b:Int)
 bx:Bxs (c.R*c.C) rm nb B o.boxes bs
variable {ad:Nat→Nat} {W:Nat→A1} {o:AL} {ws:A3}
theorem Am5 (f:AO) {l:List AO} (h:f∈l):1<=wt (λx=>if x=f then 1 else 0) l:=by have:=AsH (φ:=λx=>if x=f then 1 else 0) h;simpa using this
theorem GrI.out_pend (H:GrI c g ad W B rm nb n o ws bs) {k:Nat} (hk:k<c.R*c.C) {f:AO} (D:f∈(W k).out):g.Pend c f:=by refine g.pend_in c ?_;have d:=LP (f:=λk=>wt (λx=>if x=f then 1 else 0) (W k).out) hk;have h:=H.tot λx=>if x=f then 1 else 0;grind[Am5]
theorem GrI.box_pend (H:GrI c g ad W B rm nb n o ws bs) {a b:Nat} (h:a<c.R*c.C) (D:b<c.R*c.C) {f:AO} (U:f∈B a b):g.Pend c f:=by refine g.pend_in c ?_;have J:=LP (f:=λa=>B4 (c.R*c.C) λb=>wt (λx=>if x=f then 1 else 0) (B a b)) h;have d:=LP (f:=λb=>wt (λx=>if x=f then 1 else 0) (B a b)) D;have O:=H.tot λx=>if x=f then 1 else 0;grind[Am5]
theorem GrI.out_len (H:GrI c g ad W B rm nb n o ws bs) (h:c.Ok) {k:Nat} (hk:k<c.R*c.C):(W k).out.length<=85:=by have d:=LP (f:=λk=>wt (λ_=>1) (W k).out) hk;have D:=H.tot λ_=>1;have J:=AuM (g:=g) h;simp only[AiU] at d;simp only[AiU] at D; omega
theorem WOk.out {i j:Nat} {w:A1} (h:WOk c g i j w) (l:List AO):WOk c g i j { w with out:=l }:=
 ⟨⟨h.st.pl,h.st.pn,h.st.gr,h.st.lm,h.st.ch,h.st.ro,h.st.co⟩,h.spread,h.share,λd=>by have o:=h.own d; exact⟨o.waits,o.begun,o.round,o.status,o.has,o.aside,o.sums,o.came⟩,λhi d=>by have o:=h.one hi d; exact⟨o.vote,o.votes,o.closed⟩⟩
theorem AuS (h:c.Ok) (D:g.Ok c) {f:AO} (d:g.Pend c f):∃ b:Nat,b<c.R*c.C∧f.To=(b:Int):=by have⟨_,_,hi,J,e,_⟩:=AsJ h D d 0;exact⟨_,iX hi J,e⟩
theorem Ag5 {k:Nat} (h:o.workers.length=N) (hk:k<N) {Q:Bool->Prop} (d:Q true):G1 o ws k Q:=by unfold G1;refine A0 (λ_=>?_) (λ_=>by omega);grind
theorem Am6 (h:o.workers.length=N) {a b p:Nat} (J:a<N) (U:b<N) (hp:BA ((a:Int),(b:Int)) o.boxes=some (some p)) {D:AL×AV->Prop} {d:Option Nat×AL×AV->Prop} (O:d (some p,o,bs)):EX o ws bs a b D d:=by unfold EX;refine Ag5 h J (AH rfl (Ag5 h U (AH rfl (I7 ?_))));rw[hp];refine AH rfl (I7 ?_);rw[hp]; exact O
theorem AuT (D:o.workers.length=N) {a b:Nat} (Z:a<N) (O:b<N) (hr:o.setup.Room=rm) (a2:1<=rm∧rm<=64) (hp:BA ((a:Int),(b:Int)) o.boxes=none) {V:AL×AV->Prop} {d:Option Nat×AL×AV->Prop}
  (U:∀ p,BA p bs=none->d (some p,{ o with boxes:=DY ((a:Int),(b:Int)) (some p) o.boxes },(p,{ room:=(rm:Int),row:=[],by_:=[],often:=[],sent:=0,taken:=0 }) :: bs)):EX o ws bs a b V d:=by
 unfold EX YN;refine Ag5 D Z (AH rfl (Ag5 D O (AH rfl (I7 ?_))));rw[hp,hr];refine B7 rfl (A0 (λh=>by omega) λ_=>A0 (λh=>by omega) λ_=>λp J=>I7 ?_);rw[CT]; exact U p J
def NE (c:GC) (B:Nat->Nat->List AO):Prop:=∃ a b,a<c.R*c.C∧b<c.R*c.C∧B a b≠[]
def Frm (c:GC) (ad:Nat->Nat) (ws d:A3):Prop:=∀ p,(∀ k,k<c.R*c.C->p≠ad k)->BA p d=BA p ws
theorem AuU (a4:c.Ok) (H:GrI c g ad W B rm nb n o ws bs) (d0:1<=rm∧rm<=64) (d9:nb<1000000) {k:Nat} (hk:k<c.R*c.C) {Q:Bool×AL×A3×AV->Prop}
  (hQ:∀ r W' B' o' a7 a9,GrI c g ad W' B' rm (nb+1) n o' a7 a9->Frm c ad ws a7->(NE c B->NE c B')->(NE c B'∨r=false∧W'=W∧(W k).out=[])->Q (r,o',a7,a9)):JJ o ws bs k Q:=by
 have a6:o.workers.length=c.R*c.C:=by rw[H.wk]; simp
 unfold JJ;refine Ag5 a6 hk (AH rfl (A9 (by omega) (x:=some (ad k)) (by rw[H.wk]; simp[hk]) ?_));unfold K3 JH EW;refine UG ⟨W k,H.mem k hk,?_⟩;dsimp only;have c1:GrI c g ad W B rm (nb+1) n o ws bs:=⟨H.gh,H.pn,H.room,H.wk,H.ow,H.inj,H.mem,H.ok,H.hist,H.tot,H.to,H.bx.le (by omega)⟩
 cases V:(W k).out with
 | nil=>
  refine B7 rfl (B7 rfl ?_);exact hQ false W B o ws bs c1 (λ_ _=>rfl) id (.inr ⟨rfl,rfl,V⟩)
 | cons f D=>
  have c0:=H.out_pend hk (f:=f) (by rw[V]; simp);have d1:=Am2 a4 c0;have⟨b,h,d2⟩:=AuS a4 H.gh c0;have c2:=H.out_len a4 hk;rw[V] at c2;simp only[nR] at c2;refine AZ (λh0=>by simp at h0; omega) λ_=>A9 (by omega) (x:=f) (by simp) (AuO d1 (AH rfl ?_));rw[d2]
  -- with the box there
  have d5:∀ (o1:AL) (Z:AV) (p:Nat),GrI c g ad W B rm (nb+1) n o1 ws Z->BA ((k:Int),(b:Int)) o1.boxes=some (some p)->(∀ t x,BA p Z=some x->Bk t rm (nb+1) x (B k b)->Bk t rm nb x (B k b)) ->
     LL Z (some p) f λa3=>A4 (a3.1 != 0) (Q (false,o1,ws,a3.2)) (H6 ws (some (ad k)) λd8=>Q (true,o1,d8,a3.2)):=by
   intro o1 Z p d hp O;have⟨t,x,d3,d4⟩:=d.bx.get k b p hp;unfold LL;refine UG ⟨x,d3,AuP (O t x d3 d4) d0.2 (by omega) d1 (λa8=>B7 rfl ?_) λ_ x' d7=>AH rfl ?_⟩
   . have a2:=d.bx.upd hp d4 (Y3 _);rw[AuR] at a2;refine hQ false W B o1 ws _ ⟨d.gh,d.pn,d.room,d.wk,d.ow,d.inj,d.mem,d.ok,d.hist,d.tot,d.to,a2⟩ (λ_ _=>rfl) id (.inl ⟨k,b,hk,h,λe=>?_⟩);rw[e] at a8; simp at a8; omega
   . unfold H6 JI EW;refine UG ⟨W k,H.mem k hk,?_⟩;dsimp only;rw[V];refine A0 (λ_=>⟨by omega,by simp only[nR]; omega,by omega,?_⟩) λh0=>absurd (show(0:Int)<((f :: D).length:Int) by simp only[nR]; omega) h0;have a2:=d.bx.upd hp d7 (Y3 _);have e1:(((f :: D).take ((f :: D).length:Int).toNat).drop (Int.toNat 1))=D:=by rw[SH,nM]; rfl
     dsimp only;rw[e1];refine hQ true (Ag4 W k { W k with out:=D }) (xV B k b (B k b++[f])) o1 _ _ ⟨d.gh,d.pn,d.room,d.wk,d.ow,d.inj,λq hq=>?_,λi j hi hj=>?_,d.hist,λφ=>?_,λa' b' b0 b1 f' J=>?_,a2⟩ (λ_ d6=>mU (d6 k hk) _ _) (λ_=>?_) (.inl ?_)
     . by_cases e:q=k
       . rw[e,pJ,Z8]
       . rw[pK e,mU λe'=>e (H.inj _ _ hq hk e')]; exact d.mem q hq
     . by_cases e:i*c.C+j=k
       . rw[e,pJ,<-e]; exact(d.ok i j hi hj).out _
       . rw[pK e]; exact d.ok i j hi hj
     . dsimp only;have t1:=H0 (f:=λq=>wt φ (W q).out) (f':=λq=>wt φ (Ag4 W k { W k with out:=D } q).out) hk λq _ a5=>by rw[pK a5]
       have t2:=LQ (f:=λx y=>wt φ (B x y)) (f':=λx y=>wt φ (xV B k b (B k b++[f]) x y)) hk h λx y _ _ a5=>by rw[iZ a5]
       have t3:=d.tot φ;simp only[pJ,V,wt] at t1;simp only[iY,AcW,wt] at t2;omega
     . by_cases e:a'=k∧b'=b
       . rw[e.1,e.2,iY] at J;rcases List.mem_append.1 J with J | J
         . rw[e.2]; exact d.to k b hk h f' J
         . rw[List.mem_singleton.1 J,e.2]; exact d2
       . rw[iZ e] at J; exact d.to a' b' b0 b1 f' J
     . exact⟨k,b,hk,h,by rw[iY]; simp⟩
     . exact⟨k,b,hk,h,by rw[iY]; simp⟩
  cases U:BA ((k:Int),(b:Int)) o.boxes with
  | none=>
   refine AuT a6 hk h H.room d0 U λp hf=>d5 _ _ p ⟨H.gh,H.pn,H.room,H.wk,H.ow,H.inj,H.mem,H.ok,H.hist,H.tot,H.to,H.bx.new hk h U hf⟩ (CT _ _ _) λt x hx O=>?_;rw[Z8] at hx;have hB:B k b=[]:=H.bx.no k b U;obtain rfl:=QZ hx;have ht:t=0:=by have:=O.tk; simp at this; omega
   rw[hB,ht]; exact AsL rm nb
  | some v=>
   obtain⟨a',b',p,b0,b1,e,rfl⟩:=H.bx.key _ _ U;refine Am6 a6 hk h U (d5 _ _ p c1 U λt x hx O=>?_);have⟨t',x',h1,h2⟩:=H.bx.get k b p U;rw[hx] at h1;obtain rfl:=QZ h1;have:t=t':=by have:=O.tk; have:=h2.tk; omega
   rw[this]; exact h2
end
section
open Go Go.Fw Go.Sort Go.Shelf
variable {c:GC} {g:Gh} {N rm nb n:Nat} {B:Nat→Nat→List AO} {bx:List (pL×Option Nat)} {bs:AV} {ad:Nat→Nat} {W:Nat→A1} {o:AL} {ws:A3}
theorem Frm.trans {h d:A3} (D:Frm c ad ws h) (J:Frm c ad h d):Frm c ad ws d:=λp hp=>(J p hp).trans (D p hp)
theorem AiY (h:c.Ok) (H:GrI c g ad W B rm nb (g.nh c) o ws bs) (d4:1<=rm∧rm<=64) (d2:nb<=1000000) {a b p:Nat} (V:a<c.R*c.C) (D:b<c.R*c.C) (hp:BA ((a:Int),(b:Int)) o.boxes=some (some p)) {f:AO} {l:List AO} (U:B a b=f :: l)
   {Q:Bool×AL×A3×AV->Prop}
   (hQ:∀ O W' o' a6 a3 t x',GrI c O ad W' (xV B a b l) rm nb (O.nh c) o' a6 a3->O.val c=g.val c+1->o'.boxes=o.boxes->Frm c ad ws a6->BA p a3=some x'->Bk t rm nb x' l->Q (true,o',a6,a3)):H7 o ws bs a b 0 Q:=by
 have d8:o.workers.length=c.R*c.C:=by rw[H.wk]; simp
 have b0:=H.box_pend V D (f:=f) (by rw[U]; simp);have d5:=Am2 h b0;have d6:=H.to a b V D f (by rw[U]; simp);have⟨t,x,d9,c1⟩:=H.bx.get a b p hp;rw[U] at c1;unfold H7;refine Am6 d8 V D hp ?_;unfold PW;refine UG ⟨x,d9,AuQ c1 d4.2 d2 d5 λx' c0=>AH rfl (A9 (by omega) (x:=some (ad b)) (by rw[H.wk]; simp[D]) ?_)⟩;unfold K5;refine UG ⟨W b,H.mem b D,?_⟩;have⟨i,j,hi,hj,a8,O,_,d,e2,e4⟩:=AsJ h H.gh b0 (t:Int);have e1:b=i*c.C+j:=by rw[d6] at a8; unfold GC.num at a8; omega
 have e5:=H.out_len h D;subst e1;refine e4 _ (H.ok i j hi hj) (by omega) _ λw' d7 e3=>?_
 have a9:∀ J Z,J<c.R->Z<c.C->WOk c O J Z (Ag4 W (i*c.C+j) w' (J*c.C+Z)):=λJ Z b1 a4=>by
   by_cases e:J*c.C+Z=i*c.C+j
   . obtain⟨rfl,rfl⟩:=AuN h a4 hj e;rw[pJ]; exact d7
   . rw[pK e];exact e2 J Z b1 a4 (λe'=>e (by rw[e'.1,e'.2])) _ (H.ok J Z b1 a4)
 have a7:∀ q,q<c.R*c.C->BA (ad q) ((ad (i*c.C+j),w') :: FK (ad (i*c.C+j)) ws)=some (Ag4 W (i*c.C+j) w' q):=λq hq=>by
   by_cases e:q=i*c.C+j
   . rw[e,pJ,Z8]
   . rw[pK e,mU λe'=>e (H.inj _ _ hq D e')]; exact H.mem q hq
 refine Am4 h d.ok H.ow H.pn (n:=g.nh c) (λk hk=>?_) H.hist d.h ?_
 . have hC:=h.C1;have d1:k*c.C<c.R*c.C:=by have:=iX (c:=c) hk (show 0<c.C by omega); omega
   have ow:=(a9 k 0 hk (by omega)).own rfl;rw[eY] at ow;exact⟨_,a7 _ d1,ow.round,ow.has⟩
 . refine hQ O (Ag4 W (i*c.C+j) w') _ _ _ (t+1) x' ⟨d.ok,H.pn,H.room,H.wk,H.ow,H.inj,a7,a9,rfl,λφ=>?_,λa' b' c2 d0 f' a2=>?_,H.bx.upd hp c0 (Y3 _)⟩ d.v rfl (λ_ d3=>mU (d3 _ D) _ _) (Z8 _ _ _) c0
   . have t1:=H0 (f:=λq=>wt φ (W q).out) (f':=λq=>wt φ (Ag4 W (i*c.C+j) w' q).out) D λq _ a5=>by rw[pK a5]
     have t2:=LQ (f:=λx y=>wt φ (B x y)) (f':=λx y=>wt φ (xV B a (i*c.C+j) l x y)) V D λx y _ _ a5=>by rw[iZ a5]
     have t3:=H.tot φ;have t4:=d.w φ;simp only[pJ,e3,AcW] at t1;simp only[iY,U,wt] at t2;omega
   . by_cases e:a'=a∧b'=i*c.C+j
     . rw[e.1,e.2,iY] at a2;rw[e.2]; exact H.to a _ V D f' (by rw[U]; simp[a2])
     . rw[iZ e] at a2; exact H.to a' b' c2 d0 f' a2
def cfK (x y:Int×Int):Int:=cfT ⟨x.1,x.2,0⟩ ⟨y.1,y.2,0⟩
theorem AuV:SWO (ltOf cfK):=⟨λx=>sA.irrefl ⟨x.1,x.2,0⟩,λx y z=>sA.trans ⟨x.1,x.2,0⟩ ⟨y.1,y.2,0⟩ ⟨z.1,z.2,0⟩,λx y z=>sA.ntrans ⟨x.1,x.2,0⟩ ⟨y.1,y.2,0⟩ ⟨z.1,z.2,0⟩⟩
def neK (B:Nat->Nat->List AO) (e:pL×Option Nat):Bool:=!(B e.1.1.toNat e.1.2.toNat).isEmpty
theorem sP {B:Nat->Nat->List AO} {a b:Nat} {e:pL×Option Nat} (h:e.1=((a:Int),(b:Int))):neK B e=true↔B a b≠[]:=by unfold neK; rw[h]; simp
structure Lks (c:GC) (B:Nat→Nat→List AO) (bx:List (pL×Option Nat)) (ls:List pL):Prop where
 nd:ls.Nodup
 of:∀ k∈ls,∃ a b p:Nat,a<c.R*c.C∧b<c.R*c.C∧k=((a:Int),(b:Int))∧BA k bx=some (some p)∧B a b≠[]
 all:∀ a b,a<c.R*c.C→b<c.R*c.C→B a b≠[]→((a:Int),(b:Int))∈ls
 len:ls.length≤bx.length
theorem AsN (O:Bxs (c.R*c.C) rm nb B o.boxes bs) (d0:nb<=1000000) {Q:List pL->Prop} (hQ:∀ ls,Lks c B o.boxes ls->Q ls):HY o bs Q:=by
 unfold HY;have c2:=O.ln;refine CN (λs:List (pL×Option Nat)×List pL=>∃ d,o.boxes.Perm (d++s.1)∧s.2=(d.filter (neK B)).map (·.1)) (λs=>s.1.length) ⟨[],List.Perm.refl _,rfl⟩ ?_;rintro⟨_,a6⟩ next ⟨d,V,h⟩ hnx;simp only at V h;have a7:=V.length_eq;rw[kC] at a7;have c1:=wX (neK B) d;refine VO (λhr=>?_) (λp r hp=>?_)
 . subst hr;rw[kD] at V;refine⟨cfK,λx _ _ hq=>?_,AuV,by rw[h,ZY]; omega,λys D _=>hQ ys ?_⟩
   . unfold O4;exact G8 (G8 (zI hq))
   rw[h] at D;have a3:∀ e,e∈d↔BA e.1 o.boxes=some e.2:=λe=>by rw[JV O.ks]; exact V.symm.mem_iff
   refine⟨?_,λ_ hk=>?_,λa b _ _ a5=>?_,?_⟩
   . refine D.symm.nodup (((List.filter_sublist (l:=d)).map _).nodup ?_);exact(V.map (λx:pL×Option Nat=>x.1)).nodup (show(o.boxes.map λx:pL×Option Nat=>x.1).Nodup from O.ks)
   . obtain⟨e,he,rfl⟩:=List.mem_map.1 (D.mem_iff.1 hk);have⟨a8,a9⟩:=List.mem_filter.1 he;have Z:=(a3 e).1 a8;have⟨a,b,p,h1,h2,J,U⟩:=O.key _ _ Z;exact⟨a,b,p,h1,h2,J,by rw[Z,U],(sP J).1 a9⟩
   . refine D.mem_iff.2 ?_
     cases Z:BA ((a:Int),(b:Int)) o.boxes with
     | none=>exact absurd (O.no a b Z) a5
     | some v=>exact List.mem_map.2 ⟨(((a:Int),(b:Int)),v),List.mem_filter.2 ⟨(a3 _).2 Z,(sP rfl).2 a5⟩,rfl⟩
   . rw[D.length_eq,ZY]; omega
 . have b0:=hp.length_eq;simp only[nR] at b0;have a2:BA p.1 o.boxes=some p.2:=(JV O.ks).2 (V.mem_iff.2 (List.mem_append.2 (.inr (hp.mem_iff.2 (by simp)))));have⟨a,b,q,h1,h2,J,U⟩:=O.key _ _ a2;have a4:o.boxes.Perm ((d++[p])++r):=V.trans (by rw[nL]; exact(hp.append_left d));unfold HB;rw[U];rw[J,U] at a2;have⟨_,x,b1,c0⟩:=O.get a b q a2;refine UG ⟨x,b1,AcX c0 ?_⟩
   have hf:((d++[p]).filter (neK B)).map (·.1)=a6++if neK B p=true then [p.1] else []:=by grind
   refine A0 (λ_=>AK (by rw[h]; simp; omega) (hnx _ ⟨d++[p],a4,?_⟩ (by simp only; omega))) (λ_=>hnx _ ⟨d++[p],a4,?_⟩ (by simp only; omega))
   . grind[sP]
   . rw[hf,if_neg (λhx=>(sP J).1 hx (List.length_eq_zero_iff.1 (by omega))),kD]
theorem GrI.up (H:GrI c g ad W B rm nb n o ws bs) {d:Nat} (h:nb<=d):GrI c g ad W B rm d n o ws bs:=⟨H.gh,H.pn,H.room,H.wk,H.ow,H.inj,H.mem,H.ok,H.hist,H.tot,H.to,H.bx.le h⟩
theorem GrI.rest (H:GrI c g ad W B rm nb n o ws bs) (d:¬NE c B) (U:∀ q,q<c.R*c.C->(W q).out=[]) (φ:AO->Nat):g.pend c φ=0:=by
 rw[<-H.tot φ];have O:B4 (c.R*c.C) (λk=>wt φ (W k).out)=c.R*c.C*0:=CI λk hk=>by rw[U k hk]; rfl
 have J:B4 (c.R*c.C) (λa=>B4 (c.R*c.C) λb=>wt φ (B a b))=c.R*c.C*(c.R*c.C*0):=CI λa D=>CI λb V=>by rw[show B a b=[] from AgZ λh=>d ⟨a,b,D,V,h⟩]; rfl
 rw[O,J]; simp
theorem Ao6 (a8:c.Ok) (H:GrI c g ad W B rm nb (g.nh c) o ws bs) (b0:1<=rm∧rm<=64) (e4:nb<=900000) {Q:Bool×AL×A3×AV->Prop}
   (hQ:∀ r O D d o' J a2,GrI c O ad D d rm (nb+25) (O.nh c) o' J a2->(r=true->g.val c<O.val c)->(r=false->∀ φ,O.pend c φ=0)->Frm c ad ws J->Q (r,o',J,a2)):FT o ws bs Q:=by
 have e5:o.workers.length=c.R*c.C:=by rw[H.wk]; simp
 have e2:=(T_b a8).2;unfold FT
 refine A6 (σ:=AL×Bool×A3×AV) (λs i=>(s.1,s.2.1,i,s.2.2.1,s.2.2.2)) 0 (c.R*c.C) (s0:=(o,false,ws,bs)) (by omega)
   (λk s=>∃ D d,GrI c g ad D d rm (nb+k) (g.nh c) s.1 s.2.2.1 s.2.2.2∧Frm c ad ws s.2.2.1∧(NE c d∨s.2.1=false∧∀ q,q<k->(D q).out=[])) (by omega) ⟨W,B,H,λ_ _=>rfl,.inr ⟨rfl,λq hq=>by omega⟩⟩ (λk s next _ hk U a5=>?_) (λs next U=>?_)
 . have⟨o1,mv,b1,a9⟩:=s;have⟨W1,B1,V,F1,D1⟩:=U;simp only at V F1 D1 ⊢;refine A0 (λ_=>AuU a8 V b0 (by omega) hk λr D d o' J a2 Z h _ g2=>?_) (λh'=>by omega)
   cases r with
   | true=>
     refine B7 rfl (a5 (o',true,J,a2) ⟨D,d,Z,F1.trans h,.inl ?_⟩);grind
   | false=>
     refine AH rfl (a5 (o',mv,J,a2) ⟨D,d,Z,F1.trans h,?_⟩);rcases g2 with g2 | ⟨_,rfl,g4⟩
     all_goals grind
 . have⟨o1,mv,b1,a9⟩:=s;have⟨W1,B1,V,F1,D1⟩:=U;simp only at V F1 D1 ⊢;refine A0 (λh'=>by omega) λ_=>AsN V.bx (by omega) λls L=>?_;have e3:ls.length<=1000000:=by have:=L.len; have:=V.bx.ln; omega
   refine A6 (σ:=AL×Bool×AV×A3) (λs i=>(s.1,s.2.1,i,s.2.2.1,s.2.2.2)) 0 ls.length (s0:=(o1,mv,a9,b1)) (by omega)
     (λk s=>∃ O D d,GrI c O ad D d rm (nb+c.R*c.C) (O.nh c) s.1 s.2.2.2 s.2.2.1∧Frm c ad ws s.2.2.2∧s.1.boxes=o1.boxes∧(∀ a b:Nat,(∃ q,k<=q∧ls[q]? = some ((a:Int),(b:Int)))->d a b≠[])∧O.val c=g.val c+k∧(0<k->s.2.1=true)∧(k=0->s=(o1,mv,a9,b1)∧O=g∧D=W1∧d=B1)) (by omega)
     ⟨g,W1,B1,V,F1,rfl,λa b ⟨q,_,hq⟩=>?_,rfl,λh0=>absurd h0 (by omega),λ_=>⟨rfl,rfl,rfl,rfl⟩⟩ (λk s next _ hk U a5=>?_) (λs next U=>?_)
   . have⟨a',b',p,_,_,e,_,a4⟩:=L.of _ (At6 hq);grind
   . have⟨o2,a7,c0,d3⟩:=s;have⟨O,D,d,Z,h,a3,a4,hv,hm,_⟩:=U;simp only at Z h a3 hm ⊢;have⟨a,b,p,ha,hb,e,hp,_⟩:=L.of _ (RY hk);refine A0 (λ_=>AN hk ?_) (λh'=>by omega);rw[e];rw[e,<-a3] at hp;refine I7 ?_;rw[hp];have⟨_,x,d1,d2⟩:=Z.bx.get a b p hp;have hB:=a4 a b ⟨k,Y3 _,by rw[yQ hk,e]⟩;unfold HB MT;refine UG ⟨x,d1,AcX d2 (UG ⟨x,d1,Ax4 d2 hB b0.2 ?_⟩)⟩
     obtain⟨f,l,d7⟩:∃ f l,d a b=f :: l:=by
       cases hc:d a b with
       | nil=>exact absurd hc hB
       | cons f l=>exact⟨f,l,rfl⟩
     refine AiY a8 Z b0 (by omega) ha hb hp d7 λg2 W2 o3 d4 c1 _ x2 H2 d8 d6 F2 d9 e1=>?_
     have d5:∀ a6,a6=true->next (o3,a6,A5 ((k:Int)+1),c1,d4):=λa6 e'=>a5 (o3,a6,c1,d4) ⟨g2,W2,xV d a b l,H2,h.trans F2,d6.trans a3,λa' b' ⟨q,_,d0⟩=>by
       rw[iZ]
       . exact a4 a' b' ⟨q,by omega,d0⟩
       . rintro⟨rfl,rfl⟩;have h1:ls[k]? = some ((a':Int),(b':Int)):=by rw[yQ hk,e]
         have:=(List.getElem?_inj hk L.nd).1 (h1.trans d0.symm);omega,by rw[d8,hv]; omega,λ_=>e',λh0=>by omega⟩
     cases a7 with
     | true=>exact B7 rfl (d5 true rfl)
     | false=>
       refine AH rfl (UG ⟨x2,d9,AcX e1 ?_⟩);grind
   . have⟨o2,a7,c0,d3⟩:=s;have⟨O,D,d,Z,h,a3,a4,hv,hm,h0⟩:=U;simp only at Z h a3 hm h0 ⊢;refine A0 (λh'=>by omega) λ_=>hQ a7 O D d o2 d3 c0 (Z.up (by omega)) (λhr=>?_) (λhr=>?_) h
     . rcases aL ls.length with hz | hz
       . have⟨U,_,_,_⟩:=h0 hz;have:a7=mv:=by grind
         rcases D1 with⟨a,b,ha,hb,hx⟩ | ⟨D1,_⟩
         . have:=L.all a b ha hb hx;grind
         all_goals grind
       . omega
     . rcases aL ls.length with hz | hz
       . obtain⟨_,rfl,rfl,rfl⟩:=h0 hz
         have c2:¬NE c d:=λ⟨a,b,ha,hb,hx⟩=>by have:=L.all a b ha hb hx;rw[List.length_eq_zero_iff.1 hz] at this; simp at this
         rcases D1 with D1 | ⟨_,D2⟩
         . exact absurd D1 c2
         . exact Z.rest c2 D2
       all_goals grind
open Go Go.Fw
variable {c:GC}
def gh0:Gh:=⟨0,λ_=>true,λ_ _=>true,λ_ _=>true,λ_ _=>true,λ_=>false⟩
noncomputable def GC.w0 (c:GC) (i j:Nat):A1:=⟨⟨i,j⟩,c.p,⟨c.R,c.C⟩,c.lim,c.ch,c.rows i j,c.cols i j,if j=0 then [c.fVote 0 i] else [],1,[],1,0,0,if j=0 then c.sg 0 i else zSt,if j=0 then c.sg 0 i else zSt,decide (j=0),false,[],[],0,[],false⟩
theorem AcY (j:Nat):gh0.col c j=true:=decide_eq_true λ_ _=>rfl
theorem AcZ (i:Nat):gh0.row c i=true:=decide_eq_true λ_ _=>rfl
theorem mV (i:Nat):gh0.rnd c i=0:=by show(if (true:Bool)=true then (if c.st (0 - 1)=3 then 0 - 2 else 0 - 1) else 0 - 2)=0; grind
theorem Ax6:gh0.nh c=1:=if_pos (sU _)
theorem AsO (h:c.Ok):gh0.Ok c:=⟨sU _,λi j _ _=>⟨rfl,by have:=h.U_b; show 0<c.U; omega⟩,λi j _ _ _=>AcY j,λ_ _ _ _ _=>rfl,(λi _ d=>nomatch d),⟨0,by have:=h.R1; omega,rfl⟩,λ_ i _=>⟨rfl,AcZ i⟩⟩
theorem ov0 (c:GC) (i:Nat):c.ov 0 i=false:=by
 cases d:c.ov 0 i with
 | false=>rfl
 | true=>exact absurd rfl (c.ov_iff.1 d).1
theorem AyN (c:GC) (i j:Nat):WOk c gh0 i j (c.w0 i j):=by
 refine⟨⟨rfl,rfl,rfl,rfl,rfl,rfl,rfl⟩,rfl,λ_=>⟨?_,MapR.nil _ _ λk _=>?_⟩,λh=>?_,λ_ _=>⟨rfl,MapR.nil _ _ λk _=>rfl,?_⟩⟩
 . rw[AcY]; rfl
 . rw[AcY]; rfl
 . subst h;refine⟨by rw[AcZ]; rfl,rfl,by rw[mV]; rfl,(if_neg λd=>absurd d.1 (by show ¬1<=0; omega)).symm,by rw[mV]; rfl,λ_=>?_,(λd=>absurd d (by show ¬1<=0; omega)),(λd=>absurd d (by show ¬1<=0; omega))⟩;show c.sg 0 i=c.asd 0 i;unfold GC.asd;rw[ov0]; rfl
 . exact(decide_eq_false λd=>absurd d.1 (by show ¬1<=0; omega)).symm
theorem AyO (φ:AO->Nat):gh0.pend c φ=B4 c.R λi=>φ (c.fVote 0 i):=by have h:B4 c.R (gh0.pO c φ)=0:=(CI (b:=0) λa _=>if_neg λd=>nomatch d.2).trans (ML _);have D:B4 c.R (λa=>B4 c.C (gh0.pS c φ a))=0:=(CI (b:=0) λa _=>(CI (b:=0) λb _=>if_neg λd=>nomatch d.2.2).trans (ML _)).trans (ML _);have J:B4 c.C (λb=>B4 c.R (gh0.pE c φ b))=0:=(CI (b:=0) λb _=>(CI (b:=0) λa _=>if_neg λd=>nomatch d.2).trans (ML _)).trans (ML _);have O:B4 c.R (λa=>B4 c.C (gh0.pA c φ a))=0:=(CI (b:=0) λa _=>(CI (b:=0) λb _=>if_neg λd=>nomatch d.2).trans (ML _)).trans (ML _);have U:B4 c.R (gh0.pV c φ)=B4 c.R λi=>φ (c.fVote 0 i):=JQ λi _=>if_pos ⟨AcZ i,rfl⟩;unfold Gh.pend;omega
theorem Ag6 (f:Nat->Nat) (a:Nat):∀ b,B4 (a+b) f=B4 a f+B4 b λj=>f (a+j)
 | 0=>rfl
 | b+1=>by show B4 (a+b) f+f (a+b)=B4 a f+(B4 b (λj=>f (a+j))+f (a+b)); rw[Ag6 f a b]; omega
theorem Ag7 (f:Nat->Nat) (C:Nat):∀ R,B4 (R*C) f=B4 R λi=>B4 C λj=>f (i*C+j)
 | 0=>by rw[Ae0]; rfl
 | R+1=>by rw[AjY,Ag6,Ag7 f C R]; rfl
theorem Ao7 {l:List HR} {Q:List HR->Prop} (h:l.length<=1000000) (d:Q l):CZ l Q:=by unfold CZ;exact MM (λe=>by subst e; exact d) (AK (by simp; omega) d)
structure SuP (c:GC) (rm:Nat) (s:JS):Prop where
 pl:s.Plan=c.p
 gr:s.Graph=c.g
 R:s.R=c.R
 C:s.C=c.C
 room:s.Room=rm
 lm:s.Limit=c.lim
 ch:s.Choices=c.ch
 rm1:1≤rm∧rm≤64
theorem eV (h:c.Ok) {rm:Nat} {s:JS} (d:SuP c rm s) {Q:Int->Prop} (V:Q 0):JB s Q:=by
 have hR:=h.R1; have Z:=h.C1; have J:=h.chl; have D:=d.rm1;unfold JB;rw[d.pl,d.gr,d.lm,d.R,d.C,d.room,d.ch];refine vW ?_;rw[h.run.check];refine AH rfl (BH (λb=>b=false) (λb U=>AH U (A0 (λO=>by omega) λ_=>V)) λ_ hk=>?_)
 have one:∀ (a m:Nat) (K:Bool->Prop),1<=a∧a<=m->K true->I8 (a:Int) (m:Int) K:=λa m K _ _=>by
  unfold I8;refine A0 (λ_=>?_) λO=>by omega
  grind
 exact one c.R 8 _ (by omega) (AH rfl (one c.C 8 _ (by omega) (AH rfl (one rm 64 _ D (hk _ rfl)))))
theorem AuW (h:c.Ok) {rm:Nat} {s:JS} (D:SuP c rm s) {i j:Nat} (hi:i<c.R) (hj:j<c.C) {Q0:Int->Prop} {Z Q2:Int×A1->Prop} (h1:j=0->Z (0,c.w0 i j)) (h2:j≠0->Q2 (0,c.w0 i j)):O7 s i j Q0 Z Q2:=by
 have hR:=h.R1; have hC:=h.C1; have a3:=h.chl;have O:=h.run.cn;rw[h.pn] at O;have⟨a2,d⟩:=iL O (h.grd hi hj);have a4:=(BO h.run.rp).2.2.2.2.1;unfold O7;refine eV h D (AH rfl ?_);rw[D.pl,D.gr,D.lm,D.R,D.C,D.ch];refine A0 (λU=>by omega) λ_=>A0 (λU=>by omega) λ_=>A0 (λU=>by omega) λ_=>A0 (λU=>by omega) λ_=>cD ?_;rw[h.run.mt,h.pn];refine Ao7 (by omega) (NC (by omega) (Ac2 O ?_));rw[a2];refine AhV d.sml (Q4 d) (λ_=>rfl) (λU=>absurd d.right U) d ?_;refine AZ (λh0=>?_) λh0=>?_
 . obtain rfl:j=0:=by omega
   have e2:(i:Int)+1=((i+1:Nat):Int):=by omega
   have hn:=h.ls_n hi;refine HN ?_;rw[A7 (x:=(i:Int)+1) (by omega) (by omega)];refine HN (xP ?_)
   have hb:OQ c.p (AW c.n c.R i) (AW c.n c.R ((i:Int)+1))=c.sg 0 i:=by rw[e2,h.lowR (by omega),h.lowR (by omega)];exact AaK (l:=c.ls i) (n:=c.ln i) h.run.rp rfl (by rw[h.ls_ln]) (by rw[h.pn,<-h.ls_ln]; omega)
   rw[hb];have hv:=AcU (i:=i) (k:=0) (w:={ c.w0 i 0 with out:=[],waits:=false }) (Q:=λr=>Z (0,r)) h ⟨rfl,rfl,rfl,rfl,rfl,rfl,rfl⟩ hi (by simp) (λ_=>rfl) (h1 rfl);rw[ov0] at hv;have J:({ Kind:=c.p.Kind,N:=(c.n:Int),Source:=c.p.Source,Length:=c.p.Length,Draws:=c.p.Draws }:Plan)=c.p:=by rw[<-h.pn]
   rw[J];exact hv
 . have J:({ Kind:=c.p.Kind,N:=(c.n:Int),Source:=c.p.Source,Length:=c.p.Length,Draws:=c.p.Draws }:Plan)=c.p:=by rw[<-h.pn]
   rw[J];have V:=h2 (by omega);unfold GC.w0 at V;rw[if_neg (by omega),if_neg (by omega),decide_eq_false (by omega)] at V;exact V
variable {c:GC}
theorem AvT {C k:Nat} (h:1<=C):(k+1+C - 1) / C=k / C+1∧(k+C - 1) / C=if k % C=0 then k / C else k / C+1:=by
 have hk:=ApA k C;have O:k % C<C:=Ae1 _ (by omega);generalize k / C=q at *; generalize k % C=r at *;have e:∀ s,s<C->(C*q+s) / C=q:=λs d=>by rw[AjO (by omega),AoT d,eY]
 have D:∀ s,s<C->(C*q+C+s) / C=q+1:=λs d=>by
   have:C*q+C+s=C*(q+1)+s:=by rw[Nat.mul_succ]
   rw[this,AjO (by omega),AoT d] <;> rfl
 refine⟨?_,?_⟩
 . grind
 . split
   . rename_i J;rw[show k+C - 1=C*q+(C - 1) by omega]; exact e _ (by omega)
   . rename_i J;rw[show k+C - 1=C*q+C+(r - 1) by omega]; exact D _ (by omega)
theorem Ax7 {o:AL} {ws:A3} {Q:AL->Prop} (h:EM o ws Q):EM o ws Q:=h
theorem AuX (h:c.Ok) {rm:Nat} {s:JS} (U:SuP c rm s) {d:A3} {c0:AV} {Q0:Int×A3->Prop} {Q1:Int×A3×AL->Prop}
   (hQ:∀ ad W ws o,(∀ bs,GrI c gh0 ad W (λ_ _=>[]) rm 0 (gh0.nh c) o ws bs)->(∀ k,k<c.R*c.C->BA (ad k) d=none)->(∀ p,BA p d≠none->BA p ws=BA p d)->Q1 (0,ws,o)):SU d c0 s Q0 Q1:=by
 have hR:=h.R1; have hC:=h.C1; have d4:=(T_b h).2;unfold SU;refine eV h U (AH rfl ?_)
 have b0:A5 (s.R*s.C)=((c.R*c.C:Nat):Int):=by
   have e1:(c.R:Int)*(c.C:Int)=((c.R*c.C:Nat):Int):=by rw[Ap9]
   rw[U.R,U.C,e1,A7 (by omega) (by omega)]
 refine A6 (σ:=List (Option Nat)×List (Option Nat)×A3) (λs i=>(s.1,s.2.1,i,s.2.2)) 0 (c.R*c.C) (s0:=([],[],d)) (by omega)
   (λk t=>∃ ad:Nat->Nat,t.1=(List.range k).map (λq=>some (ad q))∧t.2.1=(List.range ((k+c.C - 1) / c.C)).map (λi=>some (ad (i*c.C)))∧(∀ a b,a<k->b<k->ad a=ad b->a=b)∧(∀ q,q<k->BA (ad q) t.2.2=some (c.w0 (q / c.C) (q % c.C)))∧(∀ q,q<k->BA (ad q) d=none)∧∀ p,BA p d≠none->BA p t.2.2=BA p d) (by omega)
   ⟨λ_=>0,rfl,by rw[show(0+c.C - 1) / c.C=0 from AoT (by omega)]; rfl,λa b _=>by omega,λq hq=>by omega,λq hq=>by omega,λp _=>rfl⟩ (λk t next _ hk ht d0=>?_) (λt next ht=>?_)
 . have⟨wl,ol,ws⟩:=t;have⟨ad,a1,Z,a3,D,a5,J⟩:=ht;simp only at a1 Z D J ⊢;have⟨r1,r2⟩:=AvT (k:=k) hC.1;have V:k % c.C<c.C:=Ae1 _ (by omega);have hi:k / c.C<c.R:=Nat.div_lt_of_lt_mul (by rw[AdW]; exact hk);have d5:=ApA k c.C;have a7:IZ c.C:=h.mp.2.2;have h8:k<8*c.C:=by have:c.R*c.C<=5*c.C:=W9 _ (by omega); omega
   have d6:ol.length<=100:=by grind
   have d7:wl.length<=100:=by grind
   rw[b0,U.C]
   -- the worker put behind the others
   have b1:∀ b,BA b ws=none->∀ a2,a2=ol++(if k % c.C=0 then [some b] else [])->next (wl++[some b],a2,A5 ((k:Int)+1),(b,c.w0 (k / c.C) (k % c.C)) :: ws):=by
     intro b hb a2 d1;have c2:∀ q,q<k->ad q≠b:=λq hq e=>by have:=D q hq; rw[e,hb] at this; cases this
     have c1:∀ i,i*c.C<k->(if i*c.C=k then b else ad (i*c.C))=ad (i*c.C):=λi a8=>if_neg (by omega);refine d0 (wl++[some b],a2,(b,c.w0 (k / c.C) (k % c.C)) :: ws) ⟨λq=>if q=k then b else ad q,?_,?_,λ_ _ hx _ e=>?_,λq hq=>?_,λq hq=>?_,λp hp=>?_⟩
     . rw[ZX,dA,a1];refine congr (congrArg _ (wY λq hq=>?_)) (by simp);grind
     . rw[d1,r1,Z,r2];split
       . rename_i O;rw[ZX,dA];have ek:k / c.C*c.C=k:=by rw[AdW]; omega
         refine congr (congrArg _ (wY λi a8=>?_)) (by simp[ek]);have h1:=List.mem_range.1 a8;have h2:=iX (c:={ c with R:=k / c.C }) h1 (j:=0) hC.1;grind
       . rename_i O;rw[kD];refine wY λi a8=>?_;have h1:=List.mem_range.1 a8;have h2:i*c.C<=k / c.C*c.C:=W9 _ (by omega);grind
     . grind
     . by_cases e:q=k
       . subst e; simp only[if_true]; exact Z8 _ _ _
       . simp only[if_neg e];rw[sO (c2 q (by omega))]; exact D q (by omega)
     . grind
     . have a9:p≠b:=λe=>by have:=J p hp; rw[e,hb,<-e] at this; exact hp this.symm
       rw[sO a9]; exact J p hp
   refine A0 (λ_=>bU a7 h8 (VV a7 h8 (AuW h U hi V (λO=>AH rfl λb hb=>AK (by simp; omega) (VV a7 h8 ?_)) λO=>AH rfl λb hb=>AK (by simp; omega) (VV a7 h8 ?_)))) λhx=>by omega
   . exact B7 (by rw[O]; rfl) (AK (by simp; omega) (b1 b hb _ (by rw[if_pos O])))
   . exact AZ (λhx=>by omega) λ_=>b1 b hb _ (by rw[if_neg O,kD])
 . have⟨wl,ol,ws⟩:=t;have⟨ad,a1,Z,a3,D,a5,J⟩:=ht;simp only at a1 Z D J ⊢;rw[b0];refine A0 (λhx=>by omega) λ_=>?_
   have d3:(c.R*c.C+c.C - 1) / c.C=c.R:=by rw[(AvT (k:=c.R*c.C) hC.1).2,Nat.mul_mod_left,if_pos rfl,Nat.mul_div_cancel _ (by omega)]
   rw[d3] at Z;have hW:∀ i j,i<c.R->j<c.C->c.w0 ((i*c.C+j) / c.C) ((i*c.C+j) % c.C)=c.w0 i j:=λi j _ V=>by rw[(mS h V).1,(mS h V).2]
   have d2:∀ i,i<c.R->BA (ad (i*c.C)) ws=some (c.w0 i 0):=λi hi=>by have c1:=iX (c:=c) hi (show 0<c.C by omega);grind
   refine Ax7 (Am4 (o:=⟨s,wl,[],ol,[]⟩) (n:=0) h (AsO h) Z (by rw[U.pl]; exact h.pn) (λi hi=>⟨_,d2 i hi,by rw[mV]; rfl,by rw[mV]; rfl⟩) rfl (.inr ⟨Ax6,λi _=>mV i⟩) ?_);refine hQ ad (λq=>c.w0 (q / c.C) (q % c.C)) ws _ (λbs=>⟨AsO h,by rw[U.pl]; exact h.pn,U.room,a1,Z,a3,D,λi j hi V=>by rw[hW i j hi V]; exact AyN c i j,rfl,λφ=>?_,λa b _ _ f hf=>by simp at hf,⟨ApG,Y3 _,(λk _ hk=>nomatch hk),(λa b p hp=>nomatch hp),λa b _=>rfl,(λk _ p hk=>nomatch hk)⟩⟩) a5 J;rw[AyO,Ag7];have z:(B4 (c.R*c.C) λa=>B4 (c.R*c.C) λb=>wt φ [])=0:=(CI (b:=0) λa _=>(CI (b:=0) λb _=>rfl).trans (ML _)).trans (ML _);rw[z,eY];refine JQ λi hi=>?_
   have:=H0 (n:=c.C) (i:=0) (f:=λ_=>0) (f':=λj=>wt φ (c.w0 ((i*c.C+j) / c.C) ((i*c.C+j) % c.C)).out) (by omega) λj V a9=>by rw[hW i j hi V]; unfold GC.w0; rw[if_neg a9]; rfl
   rw[QK,ML,hW i 0 hi (by omega)] at this;have e0:wt φ (c.w0 i 0).out=φ (c.fVote 0 i):=by show φ (c.fVote 0 i)+0=_; omega
   rw[e0] at this;omega
variable {c:GC} {g:Gh} {rm nb n:Nat} {B:Nat→Nat→List AO} {bs:AV} {ad:Nat→Nat} {W:Nat→A1} {o:AL} {ws:A3}
theorem AsP (a2:c.Ok) (h:g.Ok c) (hz:∀ φ,g.pend c φ=0):g.u=c.U∧∀ i,i<c.R->g.O i=true:=by
 have hR:=a2.R1; have hC:=a2.C1;have a4:=hz λ_=>1;unfold Gh.pend at a4;have Z:∀ {p:Prop} [Decidable p],(if p then 1 else 0)=0->¬p:=λ{p} _ hx hp=>by rw[if_pos hp] at hx; cases hx
 have zO:∀ i,i<c.R->¬(1<=g.u∧g.O i=false):=λi hi=>Z (by have:=LP (f:=g.pO c λ_=>1) hi; show g.pO c (λ_=>1) i=0; omega);have zV:∀ i,i<c.R->¬(g.row c i=true∧g.V i=false):=λi hi=>Z (by have:=LP (f:=g.pV c λ_=>1) hi; show g.pV c (λ_=>1) i=0; omega)
 have zS:∀ i j,i<c.R->j<c.C->¬(g.O i=true∧g.u<c.U∧g.S i j=false):=λi j hi d=>Z (by have h1:=LP (f:=λi=>B4 c.C (g.pS c (λ_=>1) i)) hi; have h2:=LP (f:=g.pS c (λ_=>1) i) d;show g.pS c (λ_=>1) i j=0; omega)
 have zE:∀ j i,j<c.C->i<c.R->¬(g.col c j=true∧g.E i j=false):=λj i d hi=>Z (by have h1:=LP (f:=λj=>B4 c.R (g.pE c (λ_=>1) j)) d; have h2:=LP (f:=g.pE c (λ_=>1) j) hi;show g.pE c (λ_=>1) j i=0; omega)
 have zA:∀ i j,i<c.R->j<c.C->¬(g.E i j=true∧g.A i j=false):=λi j hi d=>Z (by have h1:=LP (f:=λi=>B4 c.C (g.pA c (λ_=>1) i)) hi; have h2:=LP (f:=g.pA c (λ_=>1) i) d;show g.pA c (λ_=>1) i j=0; omega)
 have J:∀ {b:Bool},b≠false->b=true:=λ{b} hb=>by cases b; exact absurd rfl hb; rfl
 have hO:∀ i,i<c.R->g.O i=true:=λi hi=>by
   rcases aL g.u with h0 | h0
   . exact(h.z h0 i hi).1
   all_goals grind
 refine⟨?_,hO⟩;have a5:=h.u;rcases ZZ g.u c.U with hu | hu
 . have hS:∀ i j,i<c.R->j<c.C->g.S i j=true:=λi j hi d=>J λD=>zS i j hi d ⟨hO i hi,hu,D⟩;have a3:∀ j,j<c.C->g.col c j=true:=λj d=>decide_eq_true λi hi=>hS i j hi d;have hE:∀ i j,i<c.R->j<c.C->g.E i j=true:=λi j hi d=>J λD=>zE j i d hi ⟨a3 j d,D⟩;have hA:∀ i j,i<c.R->j<c.C->g.A i j=true:=λi j hi d=>J λD=>zA i j hi d ⟨hE i j hi d,D⟩;have⟨i,hi,D⟩:=h.no;exact absurd ⟨decide_eq_true λj d=>hA i j hi d,D⟩ (zV i hi)
 . omega
structure Fin (c:GC) (ad:Nat→Nat) (o:AL) (ws:A3):Prop where
 ow:o.owners=(List.range c.R).map fun i=>some (ad (i*c.C))
 st:∀ i,i<c.R→∃ w,BA (ad (i*c.C)) ws=some w∧w.status=c.e
 hist:o.history=c.hist (c.m+1)
def Gh.fin (c:GC) (g:Gh):Bool:=decide (g.u=c.U∧∀ i,i<c.R->g.O i=true)
theorem Ax8 (h:c.Ok) (H:GrI c g ad W B rm nb (g.nh c) o ws bs) (V:g.fin c=true):Fin c ad o ws:=by
 have hR:=h.R1; have hC:=h.C1; have hU:=h.U_b; have a3:=h.run.en.ne;have⟨_,Z⟩:=of_decide_eq_true V;have d:c.st (g.u - 1)=c.e:=by unfold GC.st; rw[if_pos (by omega)]
 refine⟨H.ow,λi hi=>?_,?_⟩
 . have a2:=iX (c:=c) hi (show 0<c.C by omega);have o:=(H.ok i 0 hi (by omega)).own rfl;refine⟨_,H.mem _ (by omega),?_⟩;have:=o.status;grind
 . rw[H.hist];congr 1;unfold Gh.nh;have D:c.U=if c.e=3 then c.m+2 else c.m+1:=rfl;by_cases h3:c.e=3
   . rw[if_pos h3] at D;rw[if_neg (by omega),if_neg (c:=(∀ i,i<c.R->g.O i=true)∧c.st (g.u - 1)≠3) λJ=>J.2 (by rw[d]; exact h3)]; omega
   . rw[if_neg h3] at D;by_cases h1:g.u<=1
     . rw[if_pos h1]; omega
     . rw[if_neg h1,if_pos (c:=(∀ i,i<c.R->g.O i=true)∧c.st (g.u - 1)≠3) ⟨Z,by rw[d]; exact h3⟩]; omega
theorem AuY (h:c.Ok) (H:GrI c g ad W B rm nb n o ws bs) {Q:Bool->Prop} (V:Q (g.fin c)):CP o ws Q:=by
 have hR:=h.R1; have hC:=h.C1; have hU:=h.U_b; have a3:=h.run.en.ne;have a6:o.owners.length=c.R:=by rw[H.ow]; simp
 have a5:∀ i,i<c.R->∃ w,BA (ad (i*c.C)) ws=some w∧(w.status=0↔¬(g.u=c.U∧g.O i=true)):=λi hi=>by
   have a2:=iX (c:=c) hi (show 0<c.C by omega);rw[eY] at a2;refine⟨_,H.mem _ a2,?_⟩;have ow:=((H.ok i 0 hi (by omega)).own rfl).status;rw[eY] at ow;rw[ow];unfold GC.st;by_cases hc:1<=g.u∧g.O i=true
   . rw[if_pos hc];by_cases hu:g.u - 1+1=c.U
     . rw[if_pos hu];exact⟨λh0=>absurd h0 a3,λd=>absurd ⟨by omega,hc.2⟩ d⟩
     . rw[if_neg hu];exact⟨λ_ d=>hu (by omega),λ_=>rfl⟩
   . rw[if_neg hc];exact⟨λ_ d=>hc ⟨by omega,d.2⟩,λ_=>rfl⟩
 unfold CP BN BS;refine CM c.R (by omega) (λi=>∀ k,k<i->g.u=c.U∧g.O k=true) (λk hk=>by omega) (λi next hi Z a4=>?_) (λnext Z=>?_)
 . have⟨w,w1,w2⟩:=a5 i hi;refine A0 (λ_=>A9 (by omega) (x:=some (ad (i*c.C))) (by rw[H.ow]; simp[hi]) ?_) (λd=>by omega);unfold H5 DM ED;refine UG ⟨w,w1,?_⟩;dsimp only;refine AZ (λd=>?_) λd=>a4 λk hk=>?_
   . have D:g.fin c=false:=decide_eq_false λJ=>w2.1 d ⟨J.1,J.2 i hi⟩;rw[D] at V;rw[show decide ((0:Int)<=(i:Int))=true from decide_eq_true (by omega)];exact V
   . by_cases e:k=i
     . rw[e]; exact AgZ λJ=>d (w2.2 J)
     . exact Z k (by omega)
 . have D:g.fin c=true:=decide_eq_true ⟨(Z 0 (by omega)).1,λi hi=>(Z i hi).2⟩;rw[D] at V;exact A0 (λd=>by omega) λ_=>V
theorem Ag8 (h:c.Ok) (F:Fin c ad o ws) {Q:Bool->Prop} (U:Q true):CP o ws Q:=by
 have Z:=h.R1;have O:o.owners.length=c.R:=by rw[F.ow]; simp
 unfold CP BN BS;refine CM c.R (by omega) (λ_=>True) trivial (λi next hi _ d=>?_) (λnext _=>?_)
 . have⟨w,J,V⟩:=F.st i hi;refine A0 (λ_=>A9 (by omega) (x:=some (ad (i*c.C))) (by rw[F.ow]; simp[hi]) ?_) (λD=>by omega);unfold H5 DM ED;refine UG ⟨w,J,?_⟩;dsimp only;rw[V];exact AZ (λD=>absurd D h.run.en.ne) λ_=>d trivial
 . exact A0 (λD=>by omega) λ_=>U
theorem Ao8 (h:c.Ok) (k:Nat) {Q:State->Prop} (V:Q (CU 0 c.n (c.G k))):B8 (CU 0 c.n (c.G k)).A λD=>B8 (CU 0 c.n (c.G k)).B λd=>BW (CU 0 c.n (c.G k)).On λJ=>Q ({ CU 0 c.n (c.G k) with A:=D,B:=d,On:=J }:State):=by
 have O:=h.n4;have Z:(CU 0 c.n (c.G k)).A.length=c.n:=L9 _ _;have lB:(CU 0 c.n (c.G k)).B.length=c.n:=L9 _ _
 have U:(CU 0 c.n (c.G k)).On.length<=1000000:=by have:(CU 0 c.n (c.G k)).On.length=F0 c.n:=(FF _ _).2.1;have:=OG c.n; omega
 exact NC (by omega) (NC (by omega) (iS U V))
theorem Ao9 (h:c.Ok) (F:Fin c ad o ws) {k:Nat} (hk:k<=c.m) {Q:State×Bool->Prop} (J:Q (CU 0 c.n (c.G k),true)):I3 o k Q:=by
 have d:o.history.length=c.m+1:=by rw[F.hist]; simp[GC.hist]
 unfold I3;refine A0 (λD=>by omega) λ_=>A0 (λD=>by omega) λ_=>A9 (by omega) (x:=CU 0 c.n (c.G k)) ?_ (Ao8 h k (Q:=λs=>Q (s,true)) J);rw[F.hist]; unfold GC.hist;grind
theorem AoA (h:c.Ok) (F:Fin c ad o ws) {Q:Int->Prop} (D:Q (c.m:Int)):HK o Q:=by
 have d:o.history.length=c.m+1:=by rw[F.hist]; simp[GC.hist]
 have:=h.run.en.le; have:=h.lm;unfold HK;rw[d,A7 (by omega) (by omega)];grind
theorem AoB (h:c.Ok) (F:Fin c ad o ws) {Q:Result->Prop} (J:Q ⟨c.e,c.m,CU 0 c.n (c.G c.m)⟩):HL o ws Q:=by
 have U:=h.R1;unfold HL;refine AoA h F (BH (λt=>t=c.e) (λt D=>Ao9 h F (Y3 _) ?_) λ_ hk=>Ag8 h F (B7 rfl ?_))
 . rw[D]; exact J
 . have⟨w,d,O⟩:=F.st 0 (by omega);refine A9 (by omega) (x:=some (ad (0*c.C))) (by rw[F.ow]; show(List.map _ (List.range c.R))[0]? = _; rw[List.getElem?_map,List.getElem?_range (by omega)]; rfl) ?_;unfold DM ED;exact UG ⟨w,d,hk _ O⟩
theorem Ax9 (J:Bxs (c.R*c.C) rm nb B o.boxes bs) {Q:Int->Prop} (hQ:∀ n,Q n):JK o bs Q:=by unfold JK;refine CN (λt:List (pL×Option Nat)×Int=>∃ d,o.boxes.Perm (d++t.1)) (λt=>t.1.length) ⟨[],List.Perm.refl _⟩ ?_;rintro⟨_,_⟩ next ⟨d,U⟩ hnx;simp only at U;refine VO (λ_=>hQ _) (λp r hp=>?_);have O:=hp.length_eq;simp only[nR] at O;have h:BA p.1 o.boxes=some p.2:=(JV J.ks).2 (U.mem_iff.2 (List.mem_append.2 (.inr (hp.mem_iff.2 (by simp)))));have⟨a,b,q,_,_,h3,Z⟩:=J.key _ _ h;have V:o.boxes.Perm ((d++[p])++r):=U.trans (by rw[nL]; exact(hp.append_left d));unfold PX;rw[Z];rw[h3,Z] at h;have⟨t,x,D,_⟩:=J.get a b q h;refine UG ⟨x,D,?_⟩;unfold O9;exact hnx _ ⟨d++[p],V⟩ (by simp only; omega)
def GrE (c:GC) (s:AL×A3×AV) (rm nb:Nat) (g:Gh):Prop:=∃ ad W B,GrI c g ad W B rm nb (g.nh c) s.1 s.2.1 s.2.2
theorem AsQ (h:c.Ok) {s0:AL×A3×AV} (H:GrE c s0 rm 0 gh0) (a5:1<=rm∧rm<=64) {N:Nat} (hN:N<=30000) (hU:c.U*Gh.T c+c.R<N)
   {K:Int->AL->A3->AV->Prop} (hK:∀ m s g,GrE c s rm 900000 g->g.fin c=true->K m s.1 s.2.1 s.2.2) :
   AY (λ(s:AL×Int×Int×A3×AV) a7=>match s with | (s233,s240,s241,s242,s243)=>A4 (decide (s241<(N:Int))) (CP s233 s242 λa3=>A4 a3 (K s240 s233 s242 s243) (FT s233 s242 s243 λd=>a7 (d.2.1,A5 (s240+1),A5 (s241+1),d.2.2.1,d.2.2.2))) (K s240 s233 s242 s243)) (s0.1,0,0,s0.2.1,s0.2.2):=by
 refine A6 (σ:=AL×A3×AV) (λs i=>(s.1,i,i,s.2.1,s.2.2)) 0 N (s0:=s0) (by omega)
   (λk s=>∃ g,GrE c s rm (25*k) g∧(g.fin c=true∨k<=g.val c)) (by omega) ⟨gh0,H,.inr (sU _)⟩ (λk s next _ _ hs a2=>?_) (λs next hs=>?_)
 . have⟨o1,O,J⟩:=s;have⟨g,⟨ad,W,B,H1⟩,V⟩:=hs;simp only at H1 a2 ⊢;refine A0 (λ_=>AuY h H1 ⟨λZ=>hK _ (o1,O,J) g ⟨ad,W,B,H1.up (by omega)⟩ Z,λZ=>?_⟩) (λD=>by omega);refine Ao6 h H1 a5 (by omega) λr g' W' B' o' a6 a4 H' h1 h2 _=>a2 (o',a6,a4) ⟨g',⟨ad,W',B',H'.up (by omega)⟩,?_⟩
   have V:k<=g.val c:=by
     rcases V with D | D
     . rw[Z] at D; cases D
     . exact D
   cases r with
   | true=>right; have:=h1 rfl; omega
   | false=>left; have⟨e1,e2⟩:=AsP h H'.gh (h2 rfl); exact decide_eq_true ⟨e1,e2⟩
 . have⟨o1,O,J⟩:=s;have⟨g,⟨ad,W,B,H1⟩,V⟩:=hs;simp only at H1 ⊢;refine A0 (λD=>by omega) λ_=>hK _ (o1,O,J) g ⟨ad,W,B,H1.up (by omega)⟩ ?_;rcases V with D | D
   . exact D
   . have:=AyM h H1.gh; omega
end
open Go Go.Fw
def orF (a b:List Int):List Int:=(List.range (max a.length b.length)).map λ(i:Nat)=>(((BD a i).toNat ||| (BD b i).toNat:Nat):Int)
def Ad0 (a b:List Int):List Int:=(List.range a.length).map λ(i:Nat)=>(((BD a i).toNat &&& (BD b i).toNat:Nat):Int)
theorem Ad1 {f:List Int} (h:VQ f) (i:Int):(BD f i).toNat<2 ^ 64:=by have:=OE h i; omega
theorem AsR {a b:List Int} (h:VQ a) (D:VQ b):VQ (orF a b):=by intro x d;obtain⟨i,_,rfl⟩:=List.mem_map.1 d;have:=Ap4 (Ad1 h i) (Ad1 D i);omega
theorem AuZ {a b:List Int} (h:VQ a):VQ (Ad0 a b):=by intro x d;obtain⟨i,_,rfl⟩:=List.mem_map.1 d;have:=Ad1 h i;have:=Nat.and_le_left (n:=(BD a i).toNat) (m:=(BD b i).toNat);omega
theorem sQ (a b:List Int):(orF a b).length=max a.length b.length:=by simp[orF]
theorem Ag9 (a b:List Int):(Ad0 a b).length=a.length:=by simp[Ad0]
theorem Am7 (a b:List Int) (i:Int):CY (orF a b) i=(CY a i || CY b i):=by
 unfold CY;by_cases h0:0<=i
 . rw[decide_eq_true h0,yR,yR,yR];by_cases hl:i / 64<(max a.length b.length:Nat)
   . have e:BD (orF a b) (i / 64)=(((BD a (i / 64)).toNat ||| (BD b (i / 64)).toNat:Nat):Int):=by unfold orF;rw[AhR (by omega) hl,AmD (by omega)]
     rw[e,SH,Nat.testBit_or]
   . rw[OD (f:=orF a b) (by rw[sQ]; omega),OD (f:=a) (by omega),OD (f:=b) (by omega)];simp
 . rw[decide_eq_false h0]; rfl
theorem AsS (a b:List Int) (i:Int):CY (Ad0 a b) i=(CY a i && CY b i):=by
 unfold CY;by_cases h0:0<=i
 . rw[decide_eq_true h0,yR,yR,yR];by_cases hl:i / 64<(a.length:Nat)
   . have e:BD (Ad0 a b) (i / 64)=(((BD a (i / 64)).toNat &&& (BD b (i / 64)).toNat:Nat):Int):=by unfold Ad0;rw[AhR (by omega) hl,AmD (by omega)]
     rw[e,SH,Nat.testBit_and]
   . rw[OD (f:=Ad0 a b) (by rw[Ag9]; omega),OD (f:=a) (by omega)];simp
 . rw[decide_eq_false h0]; rfl
theorem AoC {f:List Int} (h:∀ i,CY f i=false):AfL f=0:=oZ λi _=>h i
theorem AgA {f:Nat->Bool}:∀ {n:Nat},(∀ i,i<n->f i=true)->E6 n f=n
 | 0,_=>rfl
 | n+1,h=>by rw[HD,AgA λi _=>h i (by omega),if_pos (h n (by omega))]
theorem AsT {n:Nat} (h:n<=4096):n<=64*F0 n:=by
 by_cases h0:n=0
 . omega
 . have:=uO (n:=(n:Int)) (i:=(n:Int) - 1) (by omega) (by omega) (by omega);omega
theorem AoD {f:List Int} {n:Nat} (d:n<=4096) (D:f.length=F0 n) (h:∀ i:Nat,CY f i=decide (i<n)):AfL f=n:=by have J:=AsT d;unfold AfL;rw[AaJ (n:=n) (by rw[D]; exact J) λi hi _=>by rw[h i]; exact decide_eq_false (by omega)];exact AgA λi hi=>by rw[h i]; exact decide_eq_true hi
theorem AgB {a b:List Int} {n:Nat} {F:Int->Int->Int} {G:Int->Int->(Int->Prop)->Prop} (hG:∀ x y K,(0<=x∧x<18446744073709551616)->(0<=y∧y<18446744073709551616)->K (F x y)->G x y K)
   (ha:VQ a) (hb:VQ b) (hn:n<=1000000) {Q:List Int->Prop} (hQ:Q ((List.range n).map λ(i:Nat)=>F (BD a i) (BD b i))) :
   mkP 8 (n:Int) (0:Int) λ_=>AY (λ(s:(List Int)×Int) a2=>match s with | (s172,s176)=>A4 (decide (s176<((List.replicate (n:Int).toNat (0:Int)).length:Int))) (DE (λ(D:Int->Prop)=>A4 (decide (s176<(a.length:Int))) (AU a s176 λa4=>D a4) (D 0)) λd=>A4 (decide (s176<(b.length:Int))) (AU b s176 λa3=>G d a3 λa5=>AU s172 s176 λ_=>a2 ((s172.set s176.toNat a5),A5 (s176+1))) (G d 0 λa6=>AU s172 s176 λ_=>a2 ((s172.set s176.toNat a6),A5 (s176+1)))) (Q s172)) ((List.replicate (n:Int).toNat 0),0):=by
 refine⟨by omega,by omega,?_⟩;simp only[SH,At0];refine A6 (λ(s:List Int) i=>(s,i)) 0 n (s0:=List.replicate n 0) (by omega) (λk s=>s.length=n∧∀ j:Nat,j<k->s[j]? = some (F (BD a j) (BD b j))) (by omega) ⟨by simp,λj U=>by omega⟩ (λk s next _ _ W a7=>?_) (λs next W=>?_)
 . have⟨Z,V⟩:=W;refine A0 (λ_=>BH (λt=>t=BD a k) ?_ λ_ h=>A0 (λO=>BC (by omega) (by omega) (h _ rfl)) λO=>h 0 (OD (by omega)).symm) (λO=>by omega);rintro _ rfl
   have J:∀ v,v=F (BD a k) (BD b k)->AU s (k:Int) λ_=>next ((s.set (k:Int).toNat v),A5 ((k:Int)+1)):=λv hv=>by
    refine AN (by omega) (a7 _ ⟨by simp[Z],λj U=>?_⟩);rw[SH,AaV];by_cases e:k=j
    . subst e; rw[if_pos rfl,if_pos (by omega),hv]
    . rw[if_neg e]; exact V j (by omega)
   exact A0 (λO=>BC (by omega) (by omega) (hG _ _ _ (OE ha k) (OE hb k) (J _ rfl))) λO=>hG _ _ _ (OE ha k) ⟨by omega,by omega⟩ (J _ (by rw[OD (f:=b) (by omega)]))
 . have⟨Z,V⟩:=W;refine A0 (λO=>by omega) λ_=>?_
   have e:s=(List.range n).map λ(i:Nat)=>F (BD a i) (BD b i):=Ah3 λj=>by
    by_cases U:j<n
    . rw[V j U]; simp[U]
    . rw[AdP (by omega),AdP (by simp; omega)]
   rw[e]; exact hQ
theorem cH {a b:List Int} (D:VQ a) (J:VQ b) (la:a.length<=1000000) (V:b.length<=1000000) {Q:List Int->Prop} (U:Q (orF a b)):RL a b Q:=by
 unfold RL TS;have e:(if (b.length:Int) > (a.length:Int) then (b.length:Int) else (a.length:Int))=((max a.length b.length:Nat):Int):=by split <;> omega
 rw[e];exact AgB (F:=λx y=>((x.toNat ||| y.toNat:Nat):Int)) (G:=HI) (λx y _ h d O=>by unfold HI; rw[sF h.1 h.2 d.1 d.2]; exact O) D J (by omega) U
theorem xW {a b:List Int} (J:VQ a) (U:VQ b) (la:a.length<=1000000) {Q:List Int->Prop} (O:Q (Ad0 a b)):YL a b Q:=by unfold YL TT;exact AgB (F:=λx y=>((x.toNat &&& y.toNat:Nat):Int)) (G:=IB) (λx y _ h d D=>by unfold IB; rw[lP h.1 h.2 d.1 d.2]; exact D) J U la O
theorem AiZ {n:Nat} {bs:List (List Int)} {l:List Int} (hB:bs.length=n) (a3:∀ f∈bs,VQ f∧f.length=F0 n) (hl:l.length<=1000000) (hi:∀ v∈l,0<=v∧v<n) {Q:List Int->Prop}
   (hQ:∀ out,VQ out->out.length=F0 n->(∀ i,CY out i=true↔∃ v∈l,∃ f,bs[v.toNat]? = some f∧CY f i=true)->Q out):QS n bs l Q:=by
 unfold QS;have hw:=OG (n:Int)
 refine YX (A6 (λ(s:List Int) i=>(s,i)) 0 l.length (by omega) (λk s=>VQ s∧s.length=F0 n∧∀ i,CY s i=true↔∃ v∈l.take k,∃ f,bs[v.toNat]? = some f∧CY f i=true) (by omega)
   ⟨Al0 _,by simp[oR],λi=>by simp[Af2]⟩ (λk s next _ hk W a2=>?_) (λs next W=>?_))
 . have⟨D,J,V⟩:=W;have d:=hi l[k] (RY hk);have U:bs[l[k].toNat]? = some (bs[l[k].toNat]'(by omega)):=yQ (by omega);have hf:=a3 (bs[l[k].toNat]'(by omega)) (RY _);refine A0 (λ_=>AN hk (A9 d.1 U (cH D hf.1 (by omega) (by omega) (a2 _ ⟨AsR D hf.1,by rw[sQ]; omega,λi=>?_⟩)))) (λhx=>by omega);rw[Am7,AdU,V,cZ hk];constructor
   . rintro(⟨v,d,h⟩ | h)
     . exact⟨v,List.mem_append.2 (.inl d),h⟩
     . exact⟨l[k],List.mem_append.2 (.inr (List.mem_singleton.2 rfl)),_,U,h⟩
   . rintro⟨v,d,f,O,Z⟩;rcases List.mem_append.1 d with d | d
     . exact .inl ⟨v,d,f,O,Z⟩
     . have e:=List.mem_singleton.1 d;subst e;rw[U] at O;rw[QZ O];exact .inr Z
 . have⟨D,J,V⟩:=W;refine A0 (λhx=>by omega) λ_=>hQ s D J λi=>?_;rw[V,nM]
theorem Av0 {g:Graph} {n:Nat} (hN:g.N=n) (hn:n<=4096) (hg:G4 g.N g.Edges) (hl:g.Edges.length<=10000) {Q:List (List Int)->Prop}
   (hQ:∀ bs,bs.length=n->(∀ f∈bs,VQ f∧f.length=F0 n)->(∀ v:Nat,v<n->∃ f,bs[v]? = some f∧∀ x,CY f x=true↔Ks (NB (P4 g)).Edges v x)->Q bs):YK g Q:=by
 have Z:=TB hg;have hb:=TA Z.1;have a5:=hb.2.1;have a2:∀ e∈(NB (P4 g)).Edges,rI n e:=λe J=>by have:=(hb.1 e J).1; rw[<-hN]; exact this
 unfold YK;rw[hN];refine⟨by omega,by omega,AaH (by omega) (DK hg) (AcG (by omega) (DK Z.1) ?_)⟩;have a6:=Z.2.1;generalize (NB (P4 g)).Edges=es at a2 a5 hQ ⊢;rw[SH]
 refine A6 (λ(s:List (List Int)) i=>(s,i)) 0 es.length (s0:=List.replicate n []) (by omega) (λk s=>s.length=n∧∀ v:Nat,v<n->∃ l,s[v]? = some l∧l.length<=k∧∀ x,x∈l↔∃ e∈es.take k,e.From=v∧e.To=x) (by omega)
   ⟨by simp,λv d=>⟨[],by simp[d],by simp,λx=>by simp⟩⟩ (λk s next _ hk Z a3=>?_) (λs next Z=>?_)
 . have⟨h1,h2⟩:=Z;have J:=a2 es[k] (RY hk);unfold rI at J;have⟨l,D,e2,W⟩:=h2 es[k].From.toNat (by omega);refine A0 (λ_=>AN hk (A9 J.1.1 D (AK (by simp; omega) (A9 J.1.1 D (a3 _ ⟨by simp[h1],λv d=>?_⟩))))) (λhx=>by omega);rw[AaV,cZ hk];by_cases e:es[k].From.toNat=v
   . rw[if_pos e,if_pos (by omega)];refine⟨_,rfl,by simp; omega,λx=>?_⟩;rw[nT,W];have ev:es[k].From=v:=by omega
     constructor
     . rintro(⟨V,h,h'⟩ | h)
       . exact⟨V,List.mem_append.2 (.inl h),by omega,h'.2⟩
       . exact⟨es[k],List.mem_append.2 (.inr (List.mem_singleton.2 rfl)),ev,(List.mem_singleton.1 h).symm⟩
     . rintro⟨V,h,h3,U⟩;rcases List.mem_append.1 h with h | h
       . exact .inl ⟨V,h,by omega,U⟩
       . right; rw[List.mem_singleton.1 h] at U; simp[U]
   . rw[if_neg e];have⟨l',f1,_,f3⟩:=h2 v d;refine⟨l',f1,by omega,λx=>?_⟩;rw[f3];constructor
     . rintro⟨V,h,h'⟩; exact⟨V,List.mem_append.2 (.inl h),h'⟩
     . rintro⟨V,h,h3,U⟩;rcases List.mem_append.1 h with h | h
       . exact⟨V,h,h3,U⟩
       . rw[List.mem_singleton.1 h] at h3; omega
 . have⟨h1,h2⟩:=Z;refine A0 (λhx=>by omega) λ_=>?_
   have a4:∀ v:Nat,v<n->∃ l,s[v]? = some l∧l.length<=1000000∧(∀ x∈l,DH x)∧∀ x,x∈l↔Ks es v x:=λv d=>by
     have⟨l,D,e2,W⟩:=h2 v d;rw[nM] at W
     exact⟨l,D,by omega,λx hx=>by have⟨e,J,_,e5⟩:=(W x).1 hx;have:=a2 e J;unfold rI at this;unfold DH; omega,W⟩
   refine A6 (λ(t:List (List Int)) i=>(t,s,i)) 0 n (s0:=[]) (by omega) (λk t=>t=(s.take k).map (Y5 n)) (by omega) rfl (λk t next _ hk O a3=>?_) (λt next O=>?_)
   . have⟨l,D,e2,W,_⟩:=a4 k hk;refine A0 (λ_=>A9 (by omega) D (N9 (by omega) W (AK (by rw[O]; simp; omega) (a3 _ ?_)))) (λhx=>by omega);rw[O,cZ (by omega),dA,(List.getElem?_eq_some_iff.1 D).2];rfl
   . refine A0 (λhx=>by omega) λ_=>hQ t (by rw[O]; simp[h1]) (λf hf=>?_) λv d=>?_
     . rw[O] at hf;obtain⟨l,_,rfl⟩:=List.mem_map.1 hf;have:=FF n l;exact⟨this.1,this.2.1⟩
     . have⟨l,D,_,_,e4⟩:=a4 v d;refine⟨Y5 n l,by rw[O,<-h1,nM]; simp[D],λx=>?_⟩;rw[(FF n l).2.2,decide_eq_true_iff,e4];refine⟨λh=>h.1,λh=>⟨h,?_⟩⟩;have⟨e,J,_,e5⟩:=h;have:=a2 e J;unfold rI at this;omega
theorem AgC {s:List Int} {i v:Nat} {x:Int} (d:v<s.length):BD (s.set i x) (v:Int)=if i=v then x else BD s v:=by
 unfold BD;rw[SH,eX,eX,AaV];split
 . subst_vars; rw[if_pos d]; rfl
 . rfl
def LabR (n:Nat) (f:Int->Int) (s:List Int):Prop:=s.length=n∧∀ v:Nat,v<n->BD s v=f v
theorem LabR.put {n:Nat} {f:Int->Int} {s:List Int} (h:LabR n f s) {e:B2} (D:rI n e):LabR n (WM f e) ((s.set e.From.toNat (min (f e.From) (f e.To))).set e.To.toNat (min (f e.From) (f e.To))):=by unfold rI at D;refine⟨by simp[h.1],λv d=>?_⟩;rw[AgC (by simp[h.1,d]),AgC (by simp[h.1,d]),h.2 v d];have a1:(e.To.toNat=v)=((v:Int)=e.To):=propext (by omega);have J:(e.From.toNat=v)=((v:Int)=e.From):=propext (by omega);unfold WM;grind
theorem AoE {g:Graph} {n:Nat} (hN:g.N=n) (hn:n<=4096) (V:∀ e∈g.Edges,rI n e) (hl:g.Edges.length<=1000000) {Q:List Int->Prop} (hQ:∀ s,LabR n (OU g.Edges n) s->Q s):SR g Q:=by
 unfold SR;rw[hN];refine A6 (λ(s:List Int) i=>(s,i)) 0 n (s0:=[]) (by omega) (λk s=>LabR k (λv=>v) s) (by omega) ⟨rfl,λv hv=>by omega⟩ (λk s next _ hk d h=>?_) (λs next d=>?_)
 . refine A0 (λ_=>AK (by have:=d.1; simp; omega) (h _ ⟨by simp[d.1],λv hv=>?_⟩)) (λJ=>by omega);have U:=d.1;unfold BD;rw[SH,eX,List.getElem?_append];by_cases e:v<k
   . have:=d.2 v e;unfold BD at this;rw[SH,eX] at this;rw[if_pos (by omega)]; exact this
   . rw[if_neg (by omega),show v - s.length=0 by omega];show(k:Int)=v;omega
 . refine A0 (λJ=>by omega) λ_=>?_;refine A6 (λ(s:List Int) i=>(s,i)) 0 n (by omega) (λk s=>LabR n (OU g.Edges k) s) (by omega) d (λk s next _ hk d h=>?_) (λs next d=>A0 (λJ=>by omega) λ_=>hQ s d);refine A0 (λ_=>?_) (λJ=>by omega);refine A6 (λ(s:List Int) i=>(s,i)) 0 g.Edges.length (by omega) (λj s=>LabR n (aD (g.Edges.take j) (OU g.Edges k)) s) (by omega) d (λj s next _ O d h=>?_) (λs next d=>?_)
   . have D:=V g.Edges[j] (RY O);have hE:=D;unfold rI at D;have U:=d.1;have Z:=d.2 g.Edges[j].From.toNat (by omega);have W:=d.2 g.Edges[j].To.toNat (by omega);rw[AmD D.1.1] at Z;rw[AmD D.2.1] at W;refine A0 (λ_=>AN O (BC D.1.1 (by omega) (BC D.2.1 (by omega) (BC D.1.1 (by omega) (BC D.2.1 (by simp; omega) (h _ ?_)))))) (λJ=>by omega);rw[Z,W];generalize hf:aD (g.Edges.take j) (OU g.Edges k)=f at d;have em:(if f g.Edges[j].To<f g.Edges[j].From then f g.Edges[j].To else f g.Edges[j].From)=min (f g.Edges[j].From) (f g.Edges[j].To):=by split <;> omega
     rw[em,cZ O];have es:aD (g.Edges.take j++[g.Edges[j]]) (OU g.Edges k)=WM f g.Edges[j]:=by rw[<-hf]; unfold aD; rw[AdS]; rfl
     rw[es];exact d.put hE
   . rw[nM] at d;exact A0 (λJ=>by omega) λ_=>h s d
structure GrpI (ls:List Int) (k:Nat) (out:List (List Int)) (tb:List (Int×Int)):Prop where
 len:out.length≤k
 get:∀ l i,BA l tb=some i→∃ j:Nat,i=j∧j<out.length
 has:∀ v:Nat,v<k→∃ j:Nat,BA (BD ls v) tb=some (j:Int)∧∃ L,out[j]? = some L∧(v:Int)∈L
 mem:∀ (j:Nat) L,out[j]? = some L→∃ v:Nat,v<k∧(v:Int)∈L∧BA (BD ls v) tb=some (j:Int)
 rng:∀ (j:Nat) L,out[j]? = some L→(∀ x∈L,0≤x∧x<k)∧L.length≤k
theorem GrpI.put {J:List Int} {k j:Nat} {out o2:List (List Int)} {Z t2:List (Int×Int)} {L:List Int} (h:GrpI J k out Z) (g1:BA (BD J k) t2=some (j:Int)) (g2:∀ l,l≠BD J k->BA l t2=BA l Z)
   (O:BA (BD J k) Z=some (j:Int)∨BA (BD J k) Z=none) (oj:o2[j]? = some L) (oL:out[j]? = some L∨out.length=j∧L=[]∧BA (BD J k) Z=none) (oo:∀ i,i≠j->o2[i]? = out[i]?) (ol:out.length<=o2.length∧o2.length<=k+1) :
   GrpI J (k+1) (o2.set j (L++[(k:Int)])) t2:=by
 have hj:j<o2.length:=(List.getElem?_eq_some_iff.1 oj).1
 have a3:∀ i M,(o2.set j (L++[(k:Int)]))[i]? = some M->(i=j∧M=L++[(k:Int)])∨(i≠j∧out[i]? = some M):=λi M D=>by
   rw[AaV] at D;by_cases e:j=i
   . rw[if_pos e,if_pos (by omega)] at D; exact .inl ⟨e.symm,(QZ D).symm⟩
   . rw[if_neg e,oo i (λh=>e h.symm)] at D; exact .inr ⟨λh=>e h.symm,D⟩
 have a2:(o2.set j (L++[(k:Int)]))[j]? = some (L++[(k:Int)]):=by rw[AaV,if_pos rfl,if_pos hj]
 refine⟨by simp; exact ol.2,λl i hi=>?_,λv _=>?_,λi M D=>?_,λi M D=>?_⟩
 . by_cases e:l=BD J k
   . subst e; rw[g1] at hi; exact⟨j,(QZ hi).symm,by simp[hj]⟩
   . rw[g2 l e] at hi;have⟨i',e1,_⟩:=h.get l i hi;exact⟨i',e1,by simp; omega⟩
 . by_cases ev:v=k
   . subst ev; exact⟨j,g1,_,a2,by simp⟩
   . have⟨i,V,M,W,U⟩:=h.has v (by omega)
     have hm:BA (BD J v) t2=some (i:Int):=by
       by_cases e:BD J v=BD J k
       . rw[e] at V ⊢;rcases O with O | O
         . rw[O] at V; rw[g1]; exact V
         . rw[O] at V; cases V
       . rw[g2 _ e]; exact V
     refine⟨i,hm,?_⟩;by_cases e:i=j
     . subst e;refine⟨_,a2,?_⟩;rcases oL with d | ⟨d,_⟩
       . rw[d] at W; rw[QZ W]; simp[U]
       . have:=(List.getElem?_eq_some_iff.1 W).1; omega
     . exact⟨M,by rw[AaV,if_neg (λh=>e h.symm),oo i e]; exact W,U⟩
 . rcases a3 i M D with⟨rfl,rfl⟩ | ⟨e,D⟩
   . exact⟨k,by omega,by simp,g1⟩
   . have⟨v,V,W,U⟩:=h.mem i M D;refine⟨v,by omega,W,?_⟩;by_cases ev:BD J v=BD J k
     . rw[ev] at U;rcases O with O | O
       . rw[O] at U; have:=QZ U; exact absurd (by omega) e
       . rw[O] at U; cases U
     . rw[g2 _ ev]; exact U
 . rcases a3 i M D with⟨rfl,rfl⟩ | ⟨e,D⟩
   . have hL:(∀ x∈L,0<=x∧x<(k:Int))∧L.length<=k:=by
       rcases oL with d | ⟨_,d,_⟩
       . exact h.rng _ L d
       . subst d; exact⟨λx d=>(nomatch d),by simp⟩
     refine⟨λx d=>?_,by simp; exact hL.2⟩;rcases List.mem_append.1 d with d | d
     . have:=hL.1 x d; omega
     . rw[List.mem_singleton.1 d]; omega
   . have:=h.rng i M D;exact⟨λx d=>by have:=this.1 x d; omega,by omega⟩
theorem AoF {d:List Int} (hl:d.length<=100000) {Q:List (List Int)->Prop} (hQ:∀ out D,GrpI d d.length out D->Q out):SQ d Q:=by
 unfold SQ
 refine A6 (λ(s:List (List Int)×List (Int×Int)) i=>(s.1,s.2,i)) 0 d.length (s0:=(([]:List (List Int)),([]:List (Int×Int)))) (by omega) (λk s=>GrpI d k s.1 s.2) (by omega)
   ⟨by simp,λl i hi=>(nomatch hi),λ_ _=>by omega,λj L Z=>by simp at Z,λj L Z=>by simp at Z⟩ (λk s next _ _ J a2=>?_) (λs next J=>?_)
 . have⟨out,D⟩:=s;simp only at J a2 ⊢
   have go:∀ o2 V (j:Nat) L,BA (BD d k) V=some (j:Int)->(∀ l,l≠BD d k->BA l V=BA l D)->(BA (BD d k) D=some (j:Int)∨BA (BD d k) D=none)->o2[j]? = some L->(out[j]? = some L∨out.length=j∧L=[]∧BA (BD d k) D=none)->(∀ i,i≠j->o2[i]? = out[i]?)->(out.length<=o2.length∧o2.length<=k+1) ->
       AU o2 (j:Int) λO=>DA 8 O ([(k:Int)]) λ_=>AU o2 (j:Int) λ_=>next ((o2.set (j:Int).toNat (O++([(k:Int)]))),V,A5 ((k:Int)+1)):=λo2 V j L g1 g2 g3 U oL oo ol=>by
     have a3:L.length<=k:=by
       rcases oL with W | ⟨_,W,_⟩
       . exact(J.rng _ L W).2
       . subst W; simp
     refine A9 (by omega) U (AK (by simp; omega) (A9 (by omega) U (a2 (_,V) ?_)));rw[SH];exact J.put g1 g2 g3 U oL oo ol
   refine A0 (λ_=>BC (by omega) (by omega) (YR (λi hi=>?_) λhi=>?_)) (λW=>by omega)
   . obtain⟨j,rfl,hj⟩:=J.get _ i hi;have ho:out[j]? = some (out[j]'hj):=yQ hj;refine BH (λt=>t=(out,D,(j:Int))) ?_ λk' h=>AH rfl (h _ rfl);rintro _ rfl;exact go out D j _ hi (λ_ _=>rfl) (.inl hi) ho (.inl ho) (λ_ _=>rfl) ⟨Y3 _,by have:=J.len; omega⟩
   . refine BH (λt=>t=(out++[[]],DY (BD d k) (out.length:Int) D,(out.length:Int))) ?_ λk' h=>B7 rfl (AK (by have:=J.len; simp; omega) (h _ rfl));rintro _ rfl;refine go _ _ out.length [] (CT _ _ _) (λl hl=>D4 hl _ _) (.inr hi) (by simp) (.inr ⟨rfl,rfl,hi⟩) (λi _=>?_) ⟨by simp,by have:=J.len; simp; omega⟩;rw[List.getElem?_append];by_cases e:i<out.length
     . rw[if_pos e]
     . rw[if_neg e,AdP (by simp; omega),AdP (by omega)]
 . exact A0 (λW=>by omega) λ_=>hQ _ _ J
def AyS (es:List B2) (v u:Nat):Prop:=(Ks es v u∨Ks es u v)∧v≠u
structure AyT (es:List B2) (n:Nat) (S:Nat→Bool):Prop where
 ind:∀ v u,v<n→u<n→AyS es v u→S v=true→S u=true→False
 out:∀ v,v<n→S v=false→∃ u,u<n∧AyS es v u∧S u=true
theorem AoG {g:Graph} {n:Nat} {S:Nat->Bool} (hN:g.N=n) (hn:n<=4096) (hl:g.Edges.length<=10000) (hg:GO g=0) (H:AyT g.Edges n S) {Q:Bool->Prop} (hQ:Q true):VI g (GU n S) Q:=by
 have J:=UE hg;have hs:=TB J;have hw:=OG (n:Int);have c0:=M7 n S;have b0:=List.pairwise_iff_getElem.1 (AaL n S)
 have kb:∀ a b,Ks (NB (P4 g)).Edges a b↔(Ks g.Edges a b∨Ks g.Edges b a)∧a≠b:=λa b=>by
  rw[sL hs.1,VZ J,VZ J];constructor
  . rintro(⟨d,D⟩ | ⟨d,D⟩)
    . exact⟨.inl d,D⟩
    . exact⟨.inr d,λe=>D e.symm⟩
  . rintro⟨d | d,D⟩
    . exact .inl ⟨d,D⟩
    . exact .inr ⟨d,λe=>D e.symm⟩
 have a6:∀ a b,Ks g.Edges a b->(0<=a∧a<n)∧(0<=b∧b<n):=λa b ⟨e,he,d,D⟩=>by have:=(J e he).1;unfold rI at this;omega
 unfold VI
 refine U0 (by
  rw[hg];refine AH rfl (CM (GU n S).length (by omega) (λ_=>True) trivial (λk next hk _ a9=>?_) λnext _=>?_)
  . have U:=OP (RY hk);have a5:=a9 trivial;refine A0 (λ_=>AN hk (A0 (λh=>by omega) λ_=>A0 (λh=>by omega) λ_=>A0 (λ_=>?_) λ_=>a5)) (λh=>by omega);have e:A5 ((k:Int) - 1)=((k - 1:Nat):Int):=by rw[A7 (by omega) (by omega)]; omega
    rw[e];refine AN (i:=k - 1) (by omega) (A0 (λU=>?_) λ_=>a5);have:=b0 (k - 1) k (by omega) hk (by omega);omega
  . refine A0 (λh=>by omega) λ_=>?_;rw[hN];have Z:=FF n (GU n S);refine N9 (by omega) (λ_ U=>by have:=OP U; unfold DH; omega) (Av0 hN hn J hl λ_ b1 b2 b3=>AiZ b1 b2 (by omega) (λv V=>OP V) λout o1 _ o3=>?_)
    have O:∀ i:Nat,CY (Y5 n (GU n S)) i=true↔i<n∧S i=true:=λi=>by rw[Z.2.2,decide_eq_true_iff,XQ];exact⟨λh=>h.1,λh=>⟨h,by omega,by omega,by omega⟩⟩
    have a2:∀ i:Int,CY out i=true↔∃ v:Nat,v<n∧S v=true∧(Ks g.Edges v i∨Ks g.Edges i v)∧(v:Int)≠i:=λi=>by
      rw[o3];constructor
      . rintro⟨v,V,_,d,D⟩;have U:=OP V;obtain⟨w,rfl⟩:∃ w:Nat,v=w:=⟨v.toNat,by omega⟩;have hm:=XQ.1 V;have⟨f',e1,e2⟩:=b3 w hm.1;rw[SH,e1] at d;rw[<-QZ d] at D;exact⟨w,hm.1,hm.2,(kb _ _).1 ((e2 i).1 D)⟩
      . rintro⟨v,V,d,D⟩;have⟨f',e1,e2⟩:=b3 v V;exact⟨v,XQ.2 ⟨V,d⟩,f',by rw[SH]; exact e1,(e2 i).2 ((kb _ _).2 D)⟩
    have a8:∀ i:Int,CY (Y5 n (GU n S)) i=true->CY out i=true->False:=λi d D=>by have h3:=d;rw[Z.2.2,decide_eq_true_iff] at h3;obtain⟨w,rfl⟩:∃ w:Nat,i=w:=⟨i.toNat,by omega⟩;have⟨v,V,a4,W,h5⟩:=(a2 _).1 D;have h6:=(O w).1 d;exact H.ind v w V h6.1 ⟨W,by omega⟩ a4 h6.2
    have hz:AfL (Ad0 (Y5 n (GU n S)) out)=0:=AoC λi=>by
      rw[AsS]
      cases d:CY (Y5 n (GU n S)) i with
      | false=>rfl
      | true=>
        cases D:CY out i with
        | false=>rfl
        | true=>exact(a8 i d D).elim
    have hf:AfL (orF (Y5 n (GU n S)) out)=n:=AoD hn (by rw[sQ]; omega) λi=>by
      rw[Am7];by_cases hi:i<n
      . rw[decide_eq_true hi,AdU]
        cases a3:S i with
        | true=>exact .inl ((O i).2 ⟨hi,a3⟩)
        | false=>
         have⟨u,hu,ha,a7⟩:=H.out i hi a3;exact .inr ((a2 i).2 ⟨u,hu,a7,ha.1.symm,λe=>ha.2 (by omega)⟩)
      . rw[decide_eq_false hi]
        cases d:CY (Y5 n (GU n S)) i with
        | true=>exact absurd ((O i).1 d).1 hi
        | false=>
         cases D:CY out i with
         | false=>rfl
         | true=>
          have⟨v,V,a4,W,h5⟩:=(a2 _).1 D;rcases W with W | W
          . have:=a6 _ _ W; omega
          . have:=a6 _ _ W; omega
    refine xW Z.1 o1 (by omega) (OR (AuZ Z.1) (by rw[Ag9]; omega) (B7 (by rw[hz]; rfl) (cH Z.1 o1 (by omega) (by omega) (OR (AsR Z.1 o1) (by rw[sQ]; omega) ?_))));rw[hf,show((n:Int)==n)=true from beq_self_eq_true _];exact hQ)
theorem Aj0 {Q:Bool->Prop} (d:Q false):CH [] Q:=by unfold CH DR;refine CN (λs=>s=(0:Int)) (λ_=>0) rfl ?_;rintro _ next rfl _;exact A0 (λh=>by simp at h) λ_=>d
theorem wA {a m:Int} (h:0<=a∧a<=m) {Q:Bool->Prop} (d:Q true):IU a m Q:=by
 unfold IU;refine A0 (λ_=>?_) λ_=>by omega
 rw[decide_eq_true h.2]; exact d
theorem AoH {c:GC} (h:c.Ok) {rm:Nat} {s:JS} (O:SuP c rm s) {N:Nat} (V:N<=30000) (Z:c.U*Gh.T c+c.R<N) {Q0:Int×Int×A3×AV->Prop} {J:Int×Int×A3×AV×AL->Prop}
  (hQ:∀ k (t:AL×A3×AV) g,GrE c t rm 900000 g->g.fin c=true->J (k,0,t.2.1,t.2.2,t.1)):MI [] [] s [] N Q0 J:=by
 unfold MI iE;refine eV h O (AH rfl (A0 (λD=>by simp at D) λ_=>Aj0 (AH rfl (wA (by omega) (AH rfl (AH rfl (AuX h O λad W d o H _ _=>AH rfl ?_)))))));refine CN (λ_=>True) (λ_=>0) trivial λ_ next _ _=>A0 (λD=>by simp at D) λ_=>?_;exact AsQ (s0:=(o,d,[])) (rm:=rm) h ⟨ad,W,_,H []⟩ O.rm1 V Z (K:=λk o d bs=>J (k,0,d,bs,o)) hQ
theorem Av1 {c:GC} (h:c.Ok) {rm:Nat} {s:JS} (J:SuP c rm s) {N:Nat} (d:N<=30000) (D:c.U*Gh.T c+c.R<N) {Q:YA×Int->Prop} (O:∀ n m,Q (⟨⟨c.e,c.m,CU 0 c.n (c.G c.m)⟩,n,m⟩,0)):bD s [] N Q:=by unfold bD;refine AoH h J d D λk _ _ ⟨_,_,_,V⟩ W=>AH rfl ?_;have F:=Ax8 h V W;exact AoB h F (Ax9 V.bx λm=>Ag8 h F (AH rfl (O m k)))
theorem Av2 {n:Nat} {G:GV} (hn:n<=4096) {Q:List Int->Prop} (hQ:Q (GU n (rM G))):YJ (CU 0 n G) Q:=by
 have Z:(CU 0 n G).A=QE n λi=>(G (0+i)).1:=rfl;have W:(CU 0 n G).Low=0:=rfl;unfold YJ;rw[Z,W];refine A6 (λ(s:List Int) i=>(s,i)) 0 n (s0:=[]) (by omega) (λk s=>s=GU k (rM G)) (by omega) rfl (λk s next _ hk J d=>?_) (λs next J=>?_)
 . subst J;have a2:=M7 k (rM G);have U:BD (QE n λi=>(G (0+i)).1) k=(G k).1:=by rw[Z2 hk,nU]
   have V:A5 (0+(k:Int))=k:=by rw[A7 (by omega) (by omega)]; omega
   refine A0 (λ_=>BC (by omega) (by rw[L9]; omega) ?_) (λD=>by rw[L9] at D; omega);rw[U,V];have O:rM G k=((G k).1==1):=rfl;refine⟨λh=>AK (by simp; omega) (d _ ?_),λh=>d _ ?_⟩
   . rw[QF,O,h,if_pos rfl]
   . rw[QF,O,h,if_neg (by simp)]
 . subst J;exact A0 (λD=>by rw[L9] at D; omega) λ_=>hQ
theorem AoI {n m R C:Nat} (U:1<=n) (O:m<=n+1) (d:1<=R∧R<=4) (h:1<=C∧C<=4):(m+1)*(2*R+3*(R*C))+R<4*(R+C+4)*(2*n+2):=by
 have J:(m+1)*(2*R+3*(R*C))<=(n+2)*(2*R+3*(R*C)):=W9 _ (by omega);have⟨_,_⟩:=d;have⟨_,_⟩:=h;have V:R=1∨R=2∨R=3∨R=4:=by omega
 have D:C=1∨C=2∨C=3∨C=4:=by omega
 rcases V with rfl | rfl | rfl | rfl <;> rcases D with rfl | rfl | rfl | rfl <;> omega
def cI (n:Nat) (d:List Int):Plan:=⟨5,n,0,0,d⟩
theorem Am8 {g:Graph} {n R C m:Nat} {d:List Int} {p:Plan} {T:List A2} (V:cI n d=p) (hN:g.N=n) (hn:1<=n∧n<=23) (D:1<=R∧R<=4) (U:1<=C∧C<=4) (a3:d.length<=40) (M:MRun p g (2*(n:Int)) (T) m 1) (Z:m<=n+1) {Q:List Int×Int×Int->Prop}
  (hQ:Q (GU n (rM (GS p T n m)),(m:Int),0)):XB g d R C Q:=by
 unfold XB aV iC;rw[hN]
 have eL:A5 (2*(if 4096<(if (0:Int) > n then 0 else (n:Int)) then 4096 else (if (0:Int) > n then 0 else (n:Int))))=2*(n:Int):=by rw[if_neg (by omega),if_neg (by omega),A7 (by omega) (by omega)]
 refine BH (λ_=>True) (λ_ _=>NC (by omega) ?_) λ_ h=>A0 (λ_=>h _ trivial) λ_=>h _ trivial;rw[eL];have J:(⟨p,g,T,2*(n:Int),m,1,n,[],R,C⟩:GC).Ok:=⟨M,by show p.N=n; rw[<-V]; rfl,by show n<=1000; omega,by show 2*(n:Int)<=60; omega,⟨D.1,by show R<=5; omega⟩,⟨U.1,by show C<=5; omega⟩,by simp⟩;have O:SuP ⟨p,g,T,2*(n:Int),m,1,n,[],R,C⟩ 4 ⟨cI n d,g,R,C,4,2*(n:Int),[]⟩:=⟨V,rfl,rfl,rfl,rfl,rfl,rfl,by omega⟩;unfold iH;refine wA (by show 0<=2*(n:Int)∧2*(n:Int)<=8192; omega) (AH rfl (eV J O (AH rfl ?_)));have hb:=AoI hn.1 Z D U;have a2:4*(R+C+4)*(2*n+2)<=48*48:=ApF (by omega) (by omega)
 have W:A5 ((A5 (4*(A5 ((A5 ((R:Int)+C))+4))))*(A5 (2*(n:Int)+2)))=((4*(R+C+4)*(2*n+2):Nat):Int):=by
  rw[A7 (x:=(R:Int)+C) (by omega) (by omega),A7 (x:=(R:Int)+C+4) (by omega) (by omega),A7 (x:=4*((R:Int)+C+4)) (by omega) (by omega),A7 (x:=2*(n:Int)+2) (by omega) (by omega)];have e:(4*((R:Int)+C+4))*(2*(n:Int)+2)=((4*(R+C+4)*(2*n+2):Nat):Int):=by simp only[Ap9,ApC]; rfl
  rw[e,A7 (by omega) (by omega)]
 show bD _ [] (A5 ((A5 (4*(A5 ((A5 ((R:Int)+C))+4))))*(A5 (2*(n:Int)+2)))) _;rw[W];refine Av1 J O (by omega) (by show(m+1)*(2*R+3*(R*C))+R<_; exact hb) λ_ _=>AH rfl ?_;exact Av2 (n:=n) (by omega) hQ
theorem mk4 {a m:Int} (h:0<=a∧a<=255) (J:2<=m∧m<=5):∃ k:Nat,A5 (((A5 a).tmod m)+1)=k∧1<=k∧(k:Int)<=m:=by
 have e:(A5 a).tmod m=a % m:=by rw[A7 (by omega) (by omega),AoO (by omega)]
 have d:=AjP a (by omega:m≠0);have D:=AjK a (by omega:0<m);rw[e,A7 (by omega) (by omega)];exact⟨(a % m+1).toNat,by omega,by omega,by omega⟩
theorem Av3 {a:MN} (h:YQ a) {Q:Graph×Int×Int×Int->Prop} (hQ:∀ (g:Graph) (n R C:Nat) v,g.N=n->(1<=n∧n<=23)->g.Edges.length<=60->GO g=0->(1<=R∧R<=4)->(1<=C∧C<=4)->Q (g,v,(R:Int),(C:Int))):MF a Q:=by
 have⟨_,_,Z,hC⟩:=h;have bR:=bounds_u8 Z; have bC:=bounds_u8 hC;have⟨R,eR,_,_⟩:=mk4 (a:=a.R) (m:=4) (by omega) (by omega);have⟨C,eC,_,_⟩:=mk4 (a:=a.C) (m:=4) (by omega) (by omega);unfold MF;rw[eR,eC]
 have J:∀ g:Graph,1<=g.N∧g.N<=23->g.Edges.length<=60->GO g=0->HG a.V g.N λU=>Q (g,U,(R:Int),(C:Int)):=λg W O d=>
  eP (λh=>by omega) λ_ v _ _=>hQ g g.N.toNat R C v (by omega) (by omega) O d (by omega) (by omega)
 refine As3 λg W O d=>BH (λt=>(1<=t.1∧t.1<=23)∧t.2.length<=60∧GO ⟨t.1,t.2⟩=0) (λt D=>J ⟨t.1,t.2⟩ D.1 D.2.1 D.2.2) λ_ h=>AZ (λe=>h _ ⟨⟨by simp,by simp⟩,by simp,by decide⟩) λe=>h _ ⟨⟨by simp only; omega,W.2⟩,O,d⟩
theorem AsU {l:List Int} {K:List Int->Prop} (hK:∀ D:List Int,D.length<=40->(∀ d∈D,0<=d∧d<=2147483647)->K D):DE (λ(J:(List Int)->Prop)=>AY (λ(s:(List Int)×Int) a2=>match s with | (s254,s258)=>A4 (decide (s258<(l.length:Int))) (A4 (decide (s258<40)) (AU l s258 λO=>DA 8 s254 ([Y4 .i64 O 2147483647]) λ_=>a2 ((s254++([Y4 .i64 O 2147483647])),A5 (s258+1))) (J s254)) (J s254)) (([]:List Int),0)) K:=by
 refine BH (λD=>D.length<=40∧∀ d∈D,0<=d∧d<=2147483647) (λD h=>hK D h.1 h.2) λk h=>?_;refine A6 (λ(s:List Int) i=>(s,i)) 0 (min l.length 40) (s0:=[]) (by omega) (λk s=>s.length<=k∧∀ d∈s,0<=d∧d<=2147483647) (by omega) ⟨by simp,λd U=>(nomatch U)⟩ (λk s next _ _ W V=>?_) (λs next W=>?_)
 . refine A0 (λ_=>A0 (λ_=>AN (by omega) (AK (by simp; omega) (V _ ⟨by simp; omega,λd U=>?_⟩))) λhx=>by omega) (λhx=>by omega);rcases List.mem_append.1 U with U | U
   . exact W.2 d U
   . rw[List.mem_singleton.1 U];exact ArQ _ (m:=2147483647) (by omega)
 . have Z:=h s ⟨by omega,W.2⟩;exact A0 (λ_=>A0 (λ_=>by omega) λ_=>Z) λ_=>Z
theorem AgD {n:Nat} {D:List Int} (h:n<=23) (U:D.length<=40) (J:∀ d∈D,0<=d∧d<=2147483647):C0 (cI n D)=0:=by
 have V:¬AnG D:=λ⟨d,O,_⟩=>by have:=J d O; omega
 unfold C0 cI;simp only
 repeat' split
 all_goals first | rfl | omega | (exfalso; omega) | (exfalso; apply V; assumption)
theorem Aj1 (a0:MN) (a1:List Int) (h0:YQ a0) (h1:(∀ x∈a1,(inR .i64) x)∧a1.length≤maxLen):bE a0 a1 (fun r=>r=true):=by
 unfold bE
 refine Av3 h0 fun g n _ _ v O hn hl hg hR hC=>AsU fun V a4 hd=>?_
 dsimp only
 have hp:=AgD hn.2 a4 hd
 have a5:=UE hg
 have d4:(cI n V).N=n:=rfl
 obtain ⟨hP,b0⟩:=AyJ (g:=g) hp rfl (by rw [O]; rfl) d4 hg (by omega)
 obtain ⟨m,_,M⟩:=As4 (g:=g) hp (by rw [O]; rfl) hl hg (by omega:0≤2*(n:Int)∧2*(n:Int)≤8192)
 obtain ⟨rfl,hE,hm⟩:=AuK hP (by omega) M.en
 have a7:=QJ a5
 have d1:GO (F9 g)=0:=iT (by show 0≤g.N∧g.N≤4096; omega) (by have:=a7.2.1; omega) a7.1
 have d2:(F9 g).Edges.length≤60:=by have:=a7.2.1; omega
 have eT:UF (cI n V) (F9 g)=UF (cI n V) g:=AnV rfl a5
 obtain ⟨_,_,M'⟩:=As4 (g:=F9 g) hp (by show g.N=n; exact O) d2 d1 (by omega:0≤2*(n:Int)∧2*(n:Int)≤8192)
 obtain ⟨em,es⟩:=AuI M.en (by rw [←eT]; exact M'.en)
 subst em es
 have hS:AyT g.Edges n (rM (GS (cI n V) (L1 (UF (cI n V) g)) n m)):=⟨fun v u hv W Z=>hE.ind v u hv W ((b0 v u).2 Z),fun v hv h=>by obtain ⟨u,W,Z,U⟩:=hE.out v hv h; exact ⟨u,W,(b0 v u).1 Z,U⟩⟩
 generalize hGS:rM (GS (cI n V) (L1 (UF (cI n V) g)) n m)=S at hS
 have a6:∀ e∈g.Edges,rI n e:=fun e he=>by have:=(a5 e he).1; rw [←O]; exact this
 refine Am8 rfl O hn hR hC a4 M hm (AcF (by omega) (Am8 (g:=F9 g) rfl (by show g.N=n; exact O) hn hC hR a4 M' hm (AoE O (by omega) a6 (by omega) fun ls d=>AoF (by have:=d.1; omega) fun out _ D=>?_)))
 rw [eT,hGS]
 dsimp only
 have d7:=M7 n S
 refine AH rfl (AH rfl (Aw4 (by omega) ?_))
 rw [decide_eq_true rfl]
 refine AH rfl (AoG O (by omega) (by omega) hg hS (AH rfl (AZ (fun h=>?_) fun _=>?_)))
 · exfalso
   obtain ⟨j,_,L,hj,_⟩:=D.has 0 (by have:=d.1; omega)
   have:=(List.getElem?_eq_some_iff.1 hj).1
   omega
 · rw [O]
   have b1:=FF n (GU n S)
   refine Af3 (by omega) (fun x U=>by have:=OP U; unfold DH; omega) (CM out.length (by have:=D.len; have:=d.1; omega) (fun _=>True) trivial (fun k next hk _ d3=>?_) fun next _=>?_)
   · have d5:=D.rng k _ (yQ hk)
     have d6:=d.1
     -- one of this group is in the set
     have U:∃ x∈out[k],CY (Y5 n (GU n S)) x=true:=by
       obtain ⟨w,_,h2,h3⟩:=D.mem k _ (yQ hk)
       have a8:w<n:=by omega
       have c2:∀ u:Nat,u<n→S u=true→CY (Y5 n (GU n S)) u=true:=fun u W a2=>by
         rw [b1.2.2]
         exact decide_eq_true ⟨XQ.2 ⟨W,a2⟩,by omega,by omega,by omega⟩
       cases c0:S w with
       | true=>exact ⟨w,h2,c2 w a8 c0⟩
       | false=>
         obtain ⟨u,W,Z,a2⟩:=hS.out w a8 c0
         have el:BD ls w=BD ls u:=by
           rw [d.2 w a8,d.2 u W]
           rcases Z.1 with ⟨e,he,e1,e2⟩ | ⟨e,he,e1,e2⟩
           · have:=AlW (n:=n) a6 he; rw [e1,e2] at this; exact this
           · have:=AlW (n:=n) a6 he; rw [e1,e2] at this; exact this.symm
         obtain ⟨j,j1,L,j2,j3⟩:=D.has u (by omega)
         rw [←el,h3] at j1
         have ej:j=k:=by have:=QZ j1; omega
         subst ej
         rw [yQ hk] at j2
         rw [←QZ j2] at j3
         exact ⟨u,j3,c2 u W a2⟩
     refine A0 (fun _=>?_) fun U=>by omega
     refine A6 (fun (b:Bool) i=>(b,i)) 0 out[k].length (s0:=false) (by omega) (fun j b=>b=true↔∃ x∈out[k].take j,CY (Y5 n (GU n S)) x=true) (by omega) (by simp) (fun j b nx _ hj hb c1=>?_) (fun b nx hb=>?_)
     · refine AN hk (A0 (fun _=>?_) fun U=>by omega)
       have d8:=d5.1 (out[k][j]) (RY hj)
       refine ⟨fun a3=>c1 true ?_,fun d0=>AN hk (AN hj (AbP b1.1 (by unfold DH; omega) (c1 _ ?_)))⟩
       · obtain ⟨x,a9,J⟩:=hb.1 a3
         exact ⟨fun _=>⟨x,List.take_subset_take_left _ (by omega) a9,J⟩,fun _=>rfl⟩
       · rw [cZ hj]
         constructor
         · intro h; exact ⟨_,List.mem_append.2 (.inr (List.mem_singleton.2 rfl)),h⟩
         · rintro ⟨x,a9,J⟩
           rcases List.mem_append.1 a9 with h | h
           · exact absurd (hb.2 ⟨x,h,J⟩) (by rw [show b=false from d0]; simp)
           · rw [List.mem_singleton.1 h] at J; exact J
     · refine AN hk (A0 (fun U=>by omega) fun _=>?_)
       have a3:b=true:=hb.2 (by rw [nM]; exact U)
       rw [a3]
       exact AH rfl (d3 trivial)
   · exact A0 (fun U=>by omega) fun _=>rfl
end Go.Proofs.YtieniichmjgmcaaGreat
