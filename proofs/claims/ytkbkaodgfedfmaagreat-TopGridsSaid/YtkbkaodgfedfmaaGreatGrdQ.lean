import Derived.Test.YtkbkaodgfedfmaaGreatGrdO
namespace Go.Proofs.YtkbkaodgfedfmaaGreat
open Go Go.Fw
set_option linter.unusedVariables false
set_option linter.unusedSimpArgs false
variable {c:GC}
theorem AlG {C k:Nat} (h:1<=C):(k+1+C - 1) / C=k / C+1∧(k+C - 1) / C=if k % C=0 then k / C else k / C+1:=by
 have hk:=Nat.div_add_mod k C;have J:k % C<C:=Nat.mod_lt _ (by omega);generalize k / C=q at *; generalize k % C=r at *;have e:∀ s,s<C->(C*q+s) / C=q:=λs d=>by rw[Nat.mul_add_div (by omega),Nat.div_eq_of_lt d,Nat.add_zero]
 have D:∀ s,s<C->(C*q+C+s) / C=q+1:=λs d=>by
   have:C*q+C+s=C*(q+1)+s:=by rw[Nat.mul_succ]
   rw[this,Nat.mul_add_div (by omega),Nat.div_eq_of_lt d] <;> rfl
 refine⟨?_,?_⟩
 . have:=D r J
   rwa [show k+1+C - 1=C*q+C+r by omega]
 . split
   . rename_i K;rw[show k+C - 1=C*q+(C - 1) by omega]; exact e _ (by omega)
   . rename_i K;rw[show k+C - 1=C*q+C+(r - 1) by omega]; exact D _ (by omega)
theorem AmP {o:A4} {ws:A2} {Q:A4->Prop} (h:F3 o ws Q):M9 o ws Q:=h
theorem AeI (h:c.Ok) {rm:Nat} {s:JO} (U:SuP c rm s) {d:A2} {bs0:A9} {Q0:Int×A2->Prop} {Q1:Int×A2×A4->Prop}
   (hQ:∀ ad W ws o,(∀ bs,GrI c rN ad W (λ_ _=>[]) rm 0 (rN.nh c) o ws bs)->(∀ k,k<c.R*c.C->B9 (ad k) d=none)->(∀ p,B9 p d≠none->B9 p ws=B9 p d)->Q1 (0,ws,o)):GW d bs0 s Q0 Q1:=by
 have hR:=h.R1; have hC:=h.C1; have h25:=(T_b h).2;unfold GW;refine kG h U (AC rfl ?_)
 have eRC:A6 (s.R*s.C)=((c.R*c.C:Nat):Int):=by
   have e1:(c.R:Int)*(c.C:Int)=((c.R*c.C:Nat):Int):=by rw[Int.natCast_mul]
   rw[U.R,U.C,e1,AB (by omega) (by omega)]
 refine AD (σ:=List (Option Nat)×List (Option Nat)×A2) (λs i=>(s.1,s.2.1,i,s.2.2)) 0 (c.R*c.C) (s0:=([],[],d)) (by omega)
   (λk t=>∃ ad:Nat->Nat,t.1=(List.range k).map (λq=>some (ad q))∧t.2.1=(List.range ((k+c.C - 1) / c.C)).map (λi=>some (ad (i*c.C)))∧(∀ a b,a<k->b<k->ad a=ad b->a=b)∧(∀ q,q<k->B9 (ad q) t.2.2=some (c.w0 (q / c.C) (q % c.C)))∧(∀ q,q<k->B9 (ad q) d=none)∧∀ p,B9 p d≠none->B9 p t.2.2=B9 p d) (by omega)
   ⟨λ_=>0,rfl,by rw[show(0+c.C - 1) / c.C=0 from Nat.div_eq_of_lt (by omega)]; rfl,λa b ha=>by omega,λq hq=>by omega,λq hq=>by omega,λp _=>rfl⟩ (λk t next _ hk ht hnx=>?_) (λt next ht=>?_)
 . obtain⟨wl,ol,ws⟩:=t;obtain⟨ad,a1,V,a3,a4,a5,a6⟩:=ht;simp only at a1 V a4 a6 ⊢;obtain⟨r1,r2⟩:=AlG (k:=k) hC.1;have Z:k % c.C<c.C:=Nat.mod_lt _ (by omega);have hi:k / c.C<c.R:=Nat.div_lt_of_lt_mul (by rw[Nat.mul_comm]; exact hk);have hkd:=Nat.div_add_mod k c.C;have K:I8 c.C:=h.mp.2.2;have h8:k<8*c.C:=by have:c.R*c.C<=5*c.C:=Nat.mul_le_mul_right _ (by omega); omega
   have hol:ol.length<=100:=by rw[V]; simp only[List.length_map,List.length_range]; rw[r2]; split <;> omega
   have hwl:wl.length<=100:=by rw[a1]; simp only[List.length_map,List.length_range]; omega
   rw[eRC,U.C]
   -- the worker put behind the others
   have fin:∀ b,B9 b ws=none->∀ O,O=ol++(if k % c.C=0 then [some b] else [])->next (wl++[some b],O,A6 ((k:Int)+1),(b,c.w0 (k / c.C) (k % c.C)) :: ws):=by
     intro b hb O hol';have hnb:∀ q,q<k->ad q≠b:=λq hq e=>by have:=a4 q hq; rw[e,hb] at this; cases this
     have J:∀ i,i*c.C<k->(if i*c.C=k then b else ad (i*c.C))=ad (i*c.C):=λi D=>if_neg (by omega);refine hnx (wl++[some b],O,(b,c.w0 (k / c.C) (k % c.C)) :: ws) ⟨λq=>if q=k then b else ad q,?_,?_,λx y hx hy e=>?_,λq hq=>?_,λq hq=>?_,λp hp=>?_⟩
     . rw[List.range_succ,List.map_append,a1];refine congr (congrArg _ (List.map_congr_left λq hq=>?_)) (by simp);have:=List.mem_range.1 hq;exact congrArg some (if_neg (by omega)).symm
     . rw[hol',r1,V,r2];split
       . rename_i h0;rw[List.range_succ,List.map_append];have ek:k / c.C*c.C=k:=by rw[Nat.mul_comm]; omega
         refine congr (congrArg _ (List.map_congr_left λi D=>?_)) (by simp[ek]);have h1:=List.mem_range.1 D;have h2:=dT (c:={ c with R:=k / c.C }) h1 (j:=0) hC.1;simp only[Nat.add_zero] at h2;exact congrArg some (J i (by omega)).symm
       . rename_i h0;rw[List.append_nil];refine List.map_congr_left λi D=>?_;have h1:=List.mem_range.1 D;have h2:i*c.C<=k / c.C*c.C:=Nat.mul_le_mul_right _ (by omega);rw[Nat.mul_comm (k / c.C)] at h2;exact congrArg some (J i (by omega)).symm
     . by_cases ex:x=k <;> by_cases ey:y=k
       . omega
       . simp only[if_pos ex,if_neg ey] at e;exact absurd e.symm (hnb y (by omega))
       . simp only[if_neg ex,if_pos ey] at e;exact absurd e (hnb x (by omega))
       . simp only[if_neg ex,if_neg ey] at e;exact a3 x y (by omega) (by omega) e
     . by_cases e:q=k
       . subst e; simp only[if_true]; exact XH _ _ _
       . simp only[if_neg e];rw[nA (hnb q (by omega))]; exact a4 q (by omega)
     . by_cases e:q=k
       . subst e;simp only[if_true]
         cases hx:B9 b d with
         | none=>rfl
         | some w=>have:=a6 b (by rw[hx]; simp); rw[hb,hx] at this; cases this
       . simp only[if_neg e]; exact a5 q (by omega)
     . have hne:p≠b:=λe=>by have:=a6 p hp; rw[e,hb,<-e] at this; exact hp this.symm
       rw[nA hne]; exact a6 p hp
   refine A1 (λ_=>Z2 K h8 (UI K h8 (Al0 h U hi Z (λh0=>AC rfl λb hb=>AH (by simp; omega) (UI K h8 ?_)) λh0=>AC rfl λb hb=>AH (by simp; omega) (UI K h8 ?_)))) λhx=>by omega
   . exact AU (by rw[h0]; rfl) (AH (by simp; omega) (fin b hb _ (by rw[if_pos h0])))
   . exact AV (λhx=>by omega) λ_=>fin b hb _ (by rw[if_neg h0,List.append_nil])
 . obtain⟨wl,ol,ws⟩:=t;obtain⟨ad,a1,V,a3,a4,a5,a6⟩:=ht;simp only at a1 V a4 a6 ⊢;rw[eRC];refine A1 (λhx=>by omega) λ_=>?_
   have hrho:(c.R*c.C+c.C - 1) / c.C=c.R:=by rw[(AlG (k:=c.R*c.C) hC.1).2,Nat.mul_mod_left,if_pos rfl,Nat.mul_div_cancel _ (by omega)]
   rw[hrho] at V;have hW:∀ i j,i<c.R->j<c.C->c.w0 ((i*c.C+j) / c.C) ((i*c.C+j) % c.C)=c.w0 i j:=λi j _ Z=>by rw[(aZ h Z).1,(aZ h Z).2]
   have hown:∀ i,i<c.R->B9 (ad (i*c.C)) ws=some (c.w0 i 0):=λi hi=>by
     have J:=dT (c:=c) hi (show 0<c.C by omega);have:=a4 _ J
     rwa [hW i 0 hi (by omega),Nat.add_zero] at this
   refine AmP (AeF (o:=⟨s,wl,[],ol,[]⟩) (n:=0) h (AjB h) V (by rw[U.pl]; exact h.pn) (λi hi=>⟨_,hown i hi,by rw[iC]; rfl,by rw[iC]; rfl⟩) rfl (.inr ⟨AmO,λi _=>iC i⟩) ?_);refine hQ ad (λq=>c.w0 (q / c.C) (q % c.C)) ws _ (λbs=>⟨AjB h,by rw[U.pl]; exact h.pn,U.room,a1,V,a3,a4,λi j hi Z=>by rw[hW i j hi Z]; exact AnY c i j,rfl,λφ=>?_,λa b _ _ f hf=>by simp at hf,⟨List.nodup_nil,Nat.le_refl _,(λk v hk=>nomatch hk),(λa b p hp=>nomatch hp),λa b _=>rfl,(λk k' p hk=>nomatch hk)⟩⟩) a5 a6;rw[AnZ,AaH];have z:(AQ (c.R*c.C) λa=>AQ (c.R*c.C) λb=>wt φ [])=0:=(BV (b:=0) λa _=>(BV (b:=0) λb _=>rfl).trans (Nat.mul_zero _)).trans (Nat.mul_zero _);rw[z,Nat.add_zero];refine IU λi hi=>?_
   have:=GF (n:=c.C) (i:=0) (f:=λ_=>0) (f':=λj=>wt φ (c.w0 ((i*c.C+j) / c.C) ((i*c.C+j) % c.C)).out) (by omega) λj Z hne=>by rw[hW i j hi Z]; unfold GC.w0; rw[if_neg hne]; rfl
   rw[PC,Nat.mul_zero,hW i 0 hi (by omega)] at this;have e0:wt φ (c.w0 i 0).out=φ (c.fVote 0 i):=by show φ (c.fVote 0 i)+0=_; omega
   rw[e0] at this;omega
variable {c:GC} {g:Gh} {rm nb n:Nat} {B:Nat→Nat→List AA} {bs:A9} {ad:Nat→Nat} {W:Nat→A0} {o:A4} {ws:A2}
theorem AeJ (h:c.Ok) (H:GrI c rN ad W B rm 0 (rN.nh c) o ws bs) (hrm:1<=rm∧rm<=64) {K:A4×A2×A9->Prop}
   (hK:∀ g W B o' D O,GrI c g ad W B rm 900000 (g.nh c) o' D O->(∀ φ,g.pend c φ=0)->Frm c ad ws D->K (o',D,O)) :
   DB (λ(U:(A4×A2×A9)->Prop)=>AW (λ(s:A4×Int×A2×A9) (J:(A4×Int×A2×A9)->Prop)=>match s with | (s554,s561,s562,s563)=>A8 (decide (s561<4000)) (CJ s554 s562 s563 λd=>A8 d.1 (J (d.2.1,A6 (s561+1),d.2.2.1,d.2.2.2)) (U (d.2.1,d.2.2.1,d.2.2.2))) (U (s554,s562,s563))) (o,0,ws,bs)) K:=by
 unfold DB
 refine AD (σ:=A4×A2×A9) (λs i=>(s.1,i,s.2.1,s.2.2)) 0 4000 (s0:=(o,ws,bs)) (by omega)
   (λk s=>∃ g W B,GrI c g ad W B rm (25*k) (g.nh c) s.1 s.2.1 s.2.2∧k<=g.val c∧Frm c ad ws s.2.1) (by omega) ⟨rN,W,B,H,Nat.zero_le _,λ_ _=>rfl⟩ (λk s next _ hk hs hnx=>?_) (λs next hs=>?_)
 . obtain⟨o1,ws1,bs1⟩:=s;obtain⟨g,W,B,Z,hv,V⟩:=hs;simp only at Z V ⊢;refine A1 (λ_=>Ag5 h Z hrm (by omega) λr g' W' B' o' D O H' h1 h2 F'=>?_) (λhx=>by omega)
   cases r with
   | true=>exact AU rfl (hnx (o',D,O) ⟨g',W',B',H'.up (by omega),by have:=h1 rfl; omega,V.trans F'⟩)
   | false=>exact AC rfl (hK g' W' B' o' D O (H'.up (by omega)) (h2 rfl) (V.trans F'))
 . obtain⟨o1,ws1,bs1⟩:=s;obtain⟨g,W,B,Z,hv,V⟩:=hs;have:=AnX h Z.gh;omega
theorem AjC (h:c.Ok) (hg:g.Ok c) (hz:∀ φ,g.pend c φ=0):g.u=c.U∧∀ i,i<c.R->g.O i=true:=by
 have hR:=h.R1; have hC:=h.C1;have hz1:=hz λ_=>1;unfold Gh.pend at hz1;have K:∀ {p:Prop} [Decidable p],(if p then 1 else 0)=0->¬p:=λ{p} _ hx hp=>by rw[if_pos hp] at hx; cases hx
 have zO:∀ i,i<c.R->¬(1<=g.u∧g.O i=false):=λi hi=>K (by have:=KY (f:=g.pO c λ_=>1) hi; show g.pO c (λ_=>1) i=0; omega);have zV:∀ i,i<c.R->¬(g.row c i=true∧g.V i=false):=λi hi=>K (by have:=KY (f:=g.pV c λ_=>1) hi; show g.pV c (λ_=>1) i=0; omega)
 have zS:∀ i j,i<c.R->j<c.C->¬(g.O i=true∧g.u<c.U∧g.S i j=false):=λi j hi d=>K (by have h1:=KY (f:=λi=>AQ c.C (g.pS c (λ_=>1) i)) hi; have h2:=KY (f:=g.pS c (λ_=>1) i) d;show g.pS c (λ_=>1) i j=0; omega)
 have zE:∀ j i,j<c.C->i<c.R->¬(g.col c j=true∧g.E i j=false):=λj i d hi=>K (by have h1:=KY (f:=λj=>AQ c.R (g.pE c (λ_=>1) j)) d; have h2:=KY (f:=g.pE c (λ_=>1) j) hi;show g.pE c (λ_=>1) j i=0; omega)
 have zA:∀ i j,i<c.R->j<c.C->¬(g.E i j=true∧g.A i j=false):=λi j hi d=>K (by have h1:=KY (f:=λi=>AQ c.C (g.pA c (λ_=>1) i)) hi; have h2:=KY (f:=g.pA c (λ_=>1) i) d;show g.pA c (λ_=>1) i j=0; omega)
 have Z:∀ {b:Bool},b≠false->b=true:=λ{b} hb=>by cases b; exact absurd rfl hb; rfl
 have hO:∀ i,i<c.R->g.O i=true:=λi hi=>by
   rcases Nat.eq_zero_or_pos g.u with h0 | h0
   . exact(hg.z h0 i hi).1
   . exact Z λD=>zO i hi ⟨h0,D⟩
 refine⟨?_,hO⟩;have hle:=hg.u;rcases Nat.lt_or_ge g.u c.U with hu | hu
 . have hS:∀ i j,i<c.R->j<c.C->g.S i j=true:=λi j hi d=>Z λD=>zS i j hi d ⟨hO i hi,hu,D⟩;have J:∀ j,j<c.C->g.col c j=true:=λj d=>decide_eq_true λi hi=>hS i j hi d;have hE:∀ i j,i<c.R->j<c.C->g.E i j=true:=λi j hi d=>Z λD=>zE j i d hi ⟨J j d,D⟩;have hA:∀ i j,i<c.R->j<c.C->g.A i j=true:=λi j hi d=>Z λD=>zA i j hi d ⟨hE i j hi d,D⟩;obtain⟨i,hi,D⟩:=hg.no;exact absurd ⟨decide_eq_true λj d=>hA i j hi d,D⟩ (zV i hi)
 . omega
structure Fin (c:GC) (ad:Nat→Nat) (o:A4) (ws:A2):Prop where
 ow:o.owners=(List.range c.R).map fun i=>some (ad (i*c.C))
 st:∀ i,i<c.R→∃ w,B9 (ad (i*c.C)) ws=some w∧w.status=c.e
 hist:o.history=c.hist (c.m+1)
theorem AjD (h:c.Ok) (H:GrI c g ad W B rm nb (g.nh c) o ws bs) (hz:∀ φ,g.pend c φ=0):Fin c ad o ws:=by
 have hR:=h.R1; have hC:=h.C1; have hU:=h.U_b; have V:=h.run.en.ne;obtain⟨hu,J⟩:=AjC h H.gh hz;have d:c.st (g.u - 1)=c.e:=by unfold GC.st; rw[if_pos (by omega)]
 refine⟨H.ow,λi hi=>?_,?_⟩
 . have K:=dT (c:=c) hi (show 0<c.C by omega);have o:=(H.ok i 0 hi (by omega)).own rfl;refine⟨_,H.mem _ (by omega),?_⟩;have:=o.status;rw[if_pos ⟨by omega,J i hi⟩,d,Nat.add_zero] at this;exact this
 . rw[H.hist];congr 1;unfold Gh.nh;have D:c.U=if c.e=3 then c.m+2 else c.m+1:=rfl;by_cases h3:c.e=3
   . rw[if_pos h3] at D;rw[if_neg (by omega),if_neg (c:=(∀ i,i<c.R->g.O i=true)∧c.st (g.u - 1)≠3) λZ=>Z.2 (by rw[d]; exact h3)]; omega
   . rw[if_neg h3] at D;by_cases h1:g.u<=1
     . rw[if_pos h1]; omega
     . rw[if_neg h1,if_pos (c:=(∀ i,i<c.R->g.O i=true)∧c.st (g.u - 1)≠3) ⟨J,by rw[d]; exact h3⟩]; omega
theorem Fin.keep {d:A2} (F:Fin c ad o ws) (hk:∀ i,i<c.R->B9 (ad (i*c.C)) d=B9 (ad (i*c.C)) ws):Fin c ad o d:=
 ⟨F.ow,λi hi=>by obtain⟨w,D,h⟩:=F.st i hi; exact⟨w,by rw[hk i hi]; exact D,h⟩,F.hist⟩
theorem qA (h:c.Ok) (F:Fin c ad o ws) {Q:Bool->Prop} (O:Q true):CX o ws Q:=by
 have hR:=h.R1;have J:o.owners.length=c.R:=by rw[F.ow]; simp
 unfold CX BT CA;refine CM c.R (by omega) (λ_=>True) trivial (λi next hi _ d=>?_) (λnext _=>?_)
 . obtain⟨w,K,U⟩:=F.st i hi;refine A1 (λ_=>AK (by omega) (x:=some (ad (i*c.C))) (by rw[F.ow]; simp[hi]) ?_) (λD=>by omega);unfold JB E7 F9;refine WB ⟨w,K,?_⟩;dsimp only;rw[U];exact AV (λD=>absurd D h.run.en.ne) λ_=>d trivial
 . exact A1 (λD=>by omega) λ_=>O
theorem AeK (h:c.Ok) (k:Nat):tJ (CN 0 c.n (c.G k)):=(gU h.run.rp (by have:=h.pn; omega)).2.2
theorem Ag7 (h:c.Ok) (k:Nat) {Q:State->Prop} (U:Q (CN 0 c.n (c.G k))):AX (CN 0 c.n (c.G k)).A λD=>AX (CN 0 c.n (c.G k)).B λJ=>BJ (CN 0 c.n (c.G k)).On λd=>Q ({ CN 0 c.n (c.G k) with A:=D,B:=J,On:=d }:State):=by
 have O:=h.n4;have lA:(CN 0 c.n (c.G k)).A.length=c.n:=QC _ _;have lB:(CN 0 c.n (c.G k)).B.length=c.n:=QC _ _
 have K:(CN 0 c.n (c.G k)).On.length<=1000000:=by have:(CN 0 c.n (c.G k)).On.length=JC c.n:=(HP _ _).2.1;have:=YW c.n; omega
 exact PB (by omega) (PB (by omega) (dN K U))
theorem kH (h:c.Ok) (F:Fin c ad o ws) {k:Nat} (hk:k<=c.m) {Q:State×Bool->Prop} (D:Q (CN 0 c.n (c.G k),true)):CY o k Q:=by
 have d:o.history.length=c.m+1:=by rw[F.hist]; simp[GC.hist]
 unfold CY;refine A1 (λJ=>by omega) λ_=>A1 (λJ=>by omega) λ_=>AK (by omega) (x:=CN 0 c.n (c.G k)) ?_ (Ag7 h k (Q:=λs=>Q (s,true)) D);rw[F.hist]; unfold GC.hist;rw[Int.toNat_natCast,List.getElem?_map,List.getElem?_range (by omega)]; rfl
theorem kI (h:c.Ok) (F:Fin c ad o ws) {Q:Int->Prop} (D:Q (c.m:Int)):E8 o Q:=by
 have d:o.history.length=c.m+1:=by rw[F.hist]; simp[GC.hist]
 have:=h.run.en.le; have:=h.lm;unfold E8;rw[d,AB (by omega) (by omega)];have:((c.m+1:Nat):Int) - 1=c.m:=by omega
 rw[this]; exact D
theorem uC (h:c.Ok) (F:Fin c ad o ws) {Q:Result->Prop} (J:Q ⟨c.e,c.m,CN 0 c.n (c.G c.m)⟩):DH o ws Q:=by
 have hR:=h.R1;unfold DH;refine kI h F (BP (λt=>t=c.e) (λt d=>kH h F (Nat.le_refl _) ?_) λk hk=>qA h F (AU rfl ?_))
 . rw[d]; exact J
 . obtain⟨w,D,K⟩:=F.st 0 (by omega);refine AK (by omega) (x:=some (ad (0*c.C))) (by rw[F.ow]; show(List.map _ (List.range c.R))[0]? = _; rw[List.getElem?_map,List.getElem?_range (by omega)]; rfl) ?_;unfold E7 F9;exact WB ⟨w,D,hk _ K⟩
theorem ms {a m:Int} (h:0<=a∧a<=255) (hm:2<=m∧m<=5):∃ k:Nat,A6 (((A6 a).tmod m)+1)=k∧1<=k∧(k:Int)<=m:=by have d:A6 a=a:=AB (by omega) (by omega);rw[d,Int.tmod_eq_emod_of_nonneg h.1];have h1:=Int.emod_nonneg a (b:=m) (by omega); have h2:=Int.emod_lt_of_pos a (b:=m) (by omega);rw[AB (by omega) (by omega)];exact⟨(a % m+1).toNat,by omega,by omega,by omega⟩
theorem AjE {O c2:GC} (U:O.Ok) (h2:c2.Ok) (ee:c2.e=O.e) (em:c2.m=O.m) (en:c2.n=O.n) (eG:c2.G=O.G) {M1 M2:Nat} {s1 s2:JO} (su1:SuP O M1 s1) (su2:SuP c2 M2 s2) {Q:Bool->Prop} (hQ:Q true) {Q0 Q0':Int×A2->Prop} :
  GW ([]:A2) ([]:A9) s1 Q0 λr91=>GW r91.2.1 ([]:A9) s2 (λr=>Q0' r) λr223=>A8 (r91.1 != 0) (Q false) (A8 (r223.1 != 0) (Q false) (IG s1 λr246=>A8 (r246 != 0) (Q false) (DB (λ(k480:(A4×A2×A9)->Prop)=>AW (λ(s:A4×Int×A2×A9) next564=>match s with | (s554,s561,s562,s563)=>A8 (decide (s561<4000)) (CJ s554 s562 s563 λD=>A8 D.1 (next564 (D.2.1,A6 (s561+1),D.2.2.1,D.2.2.2)) (k480 (D.2.1,D.2.2.1,D.2.2.2))) (k480 (s554,s562,s563))) (r91.2.2,0,r223.2.1,([]:A9))) λ(V,s478,s479)=>DB (λ(k831:(A4×A2×A9)->Prop)=>AW (λ(s:A4×Int×A2×A9) next917=>match s with | (s907,s914,s915,s916)=>A8 (decide (s914<4000)) (CJ s907 s915 s916 λh=>A8 h.1 (next917 (h.2.1,A6 (s914+1),h.2.2.1,h.2.2.2)) (k831 (h.2.1,h.2.2.1,h.2.2.2))) (k831 (s907,s915,s916))) (r223.2.2,0,s478,s479)) λ(s822,s829,s830)=>CX V s829 λr1007=>A8 (!r1007) (Q false) (CX s822 s829 λr1018=>A8 (!r1018) (Q false) (DH V s829 λr1029=>DH s822 s829 λr1041=>SM r1029 r1041 λr1047=>A8 (!r1047) (Q false) (AW (λ(J:Int) next1234=>E8 V λr1258=>A8 (decide (J<=r1258)) (CY V J λr1285=>CY s822 J λr1315=>A8 (!r1285.2) (Q false) (A8 (!r1315.2) (Q false) (OT r1285.1 r1315.1 λr1326=>A8 (!r1326) (Q false) (next1234 (A6 (J+1)))))) (Q true)) 0)))))):=by
 refine AeI U su1 λad1 W1 ws1 o1 Z _ _=>AeI h2 su2 λad2 W2 ws2 o2 H2 fr2 kp2=>AC rfl (AC rfl (kG U su1 (AC rfl ?_)));dsimp only at *
 -- the first grid's workers are none of the second's
 have hdis:∀ a b,a<O.R*O.C->b<c2.R*c2.C->ad1 a≠ad2 b:=λa b ha hb hx=>by have q1:=(Z []).mem a ha;rw[hx,fr2 b hb] at q1; cases q1
 have H1':GrI O rN ad1 W1 (λ_ _=>[]) M1 0 (rN.nh O) o1 ws2 []:=⟨(Z []).gh,(Z []).pn,(Z []).room,(Z []).wk,(Z []).ow,(Z []).inj,λk hk=>by have:=(Z []).mem k hk;rw[kp2 _ (by rw[this]; simp)]; exact this,(Z []).ok,(Z []).hist,(Z []).tot,(Z []).to,(Z []).bx⟩
 refine AeJ U H1' su1.rm1 λg1 W1' B1 o1' ws3 d E1 z1 F1=>?_
 have H2':GrI c2 rN ad2 W2 (λ_ _=>[]) M2 0 (rN.nh c2) o2 ws3 d:=⟨(H2 d).gh,(H2 d).pn,(H2 d).room,(H2 d).wk,(H2 d).ow,(H2 d).inj,λk hk=>by rw[F1 _ λq hq e=>hdis q k hq hk e.symm]; exact(H2 d).mem k hk,(H2 d).ok,(H2 d).hist,(H2 d).tot,(H2 d).to,(H2 d).bx⟩
 refine AeJ h2 H2' su2.rm1 λg2 W2' B2 o2' ws4 bs4 E2 z2 F2=>?_;have hC:=U.C1;have K:Fin O ad1 o1' ws4:=(AjD U E1 z1).keep λi hi=>F2 _ λq hq=>hdis _ q (by have:=dT (c:=O) hi (show 0<O.C by omega); omega) hq;have fin2:=AjD h2 E2 z2;refine qA U K (AC rfl (qA h2 fin2 (AC rfl (uC U K (uC h2 fin2 (rH (AeK U _) ?_))))));rw[ee,em,en,eG,decide_eq_true rfl];have hle:=U.run.en.le; have hlm:=U.lm;refine AC rfl (CM (O.m+1) (by omega) (λ_=>True) trivial (λk next hk _ hnx=>kI U K (A1 (λ_=>kH U K (by omega) (kH h2 fin2 (by omega) (AC rfl (AC rfl (lR (AeK U _) ?_))))) λhx=>by omega)) λnext _=>kI U K (A1 (λhx=>by omega) λ_=>hQ));rw[en,eG,decide_eq_true rfl];exact AC rfl (hnx trivial)
theorem AaI (a0:G9) (a1:Int×Int×Int) (h0:fQ a0) (h1:fE .u8 a1.1∧fE .u8 a1.2.1∧fE .u8 a1.2.2):WX a0 a1 (λr=>r=true):=by
 obtain⟨k0,kR,kC,kRm,kch⟩:=h0;obtain⟨kR2,kC2,D⟩:=h1;have bR:=bounds_u8 kR; have bC:=bounds_u8 kC; have bRm:=bounds_u8 kRm;have bR2:=bounds_u8 kR2; have bC2:=bounds_u8 kC2; have bRm2:=bounds_u8 D;obtain⟨O,eR1,r1,r1'⟩:=ms (a:=a0.R) (m:=4) (by omega) (by omega);obtain⟨J,eC1,c1,c1'⟩:=ms (a:=a0.C) (m:=4) (by omega) (by omega);obtain⟨M1,eM1,m1,m1'⟩:=ms (a:=a0.Room) (m:=5) (by omega) (by omega);obtain⟨U,eR2,r2,r2'⟩:=ms (a:=a1.1) (m:=5) (by omega) (by omega);obtain⟨K,V,c2,c2'⟩:=ms (a:=a1.2.1) (m:=5) (by omega) (by omega);obtain⟨M2,eM2,m2,m2'⟩:=ms (a:=a1.2.2) (m:=3) (by omega) (by omega);unfold WX QK;refine AkL k0 λp g d hp hgn hN hl hg hlim=>?_;obtain⟨m,e,R⟩:=AmA hp hgn hl hg (by omega:0<=d∧d<=8192);obtain⟨n,hn⟩:∃ n:Nat,p.N=n:=⟨p.N.toNat,by omega⟩;rw[eR1,eC1,eM1];refine BP (λh=>h.length<=8) (λh hch=>?_) λk hk=>A1 (λhx=>⟨by omega,by omega,by omega,hk _ ?_⟩) λhx=>hk _ (by omega);rotate_left
 . simp; omega
 dsimp only;rw[eR2,V,eM2];have ok1:(⟨p,g,P6 (bH p g),d,m,e,n,h,O,J⟩:GC).Ok:=⟨R,hn,by show n<=1000; omega,by show d<=39; omega,⟨r1,by show O<=5; omega⟩,⟨c1,by show J<=5; omega⟩,by show h.length<=1000; omega⟩;have ok2:(⟨p,g,P6 (bH p g),d,m,e,n,[],U,K⟩:GC).Ok:=⟨R,hn,by show n<=1000; omega,by show d<=39; omega,⟨r2,by show U<=5; omega⟩,⟨c2,by show K<=5; omega⟩,by simp⟩;have su1:SuP ⟨p,g,P6 (bH p g),d,m,e,n,h,O,J⟩ M1 ⟨p,g,O,J,M1,d,h⟩:=⟨rfl,rfl,rfl,rfl,rfl,rfl,rfl,by omega⟩;have Z:SuP ⟨p,g,P6 (bH p g),d,m,e,n,[],U,K⟩ M2 ⟨p,g,U,K,M2,d,[]⟩:=⟨rfl,rfl,rfl,rfl,rfl,rfl,rfl,by omega⟩;exact AjE (Q:=λr=>r=true) ok1 ok2 rfl rfl rfl rfl su1 Z rfl
end Go.Proofs.YtkbkaodgfedfmaaGreat
