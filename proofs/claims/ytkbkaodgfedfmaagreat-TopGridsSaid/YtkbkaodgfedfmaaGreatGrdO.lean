import Derived.Test.YtkbkaodgfedfmaaGreatGrdL
namespace Go.Proofs.YtkbkaodgfedfmaaGreat
open Go Go.Fw
set_option linter.unusedVariables false
set_option linter.unusedSimpArgs false
variable {c:GC} {g:Gh}
variable {α:Type} {nb':Nat}
def AaE (W:Nat->A0) (k:Nat) (x:A0):Nat->A0:=λq=>if q=k then x else W q
def rM (B:Nat->Nat->List AA) (a b:Nat) (l:List AA):Nat->Nat->List AA:=λx y=>if x=a∧y=b then l else B x y
theorem kE (W:Nat->A0) (k:Nat) (x:A0):AaE W k x k=x:=if_pos rfl
theorem kF {W:Nat->A0} {k q:Nat} {x:A0} (h:q≠k):AaE W k x q=W q:=if_neg h
theorem dU (B:Nat->Nat->List AA) (a b:Nat) (l:List AA):rM B a b l a b=l:=if_pos ⟨rfl,rfl⟩
theorem dV {B:Nat->Nat->List AA} {a b x y:Nat} {l:List AA} (h:¬(x=a∧y=b)):rM B a b l x y=B x y:=if_neg h
theorem AkV (B:Nat->Nat->List AA) (a b:Nat):rM B a b (B a b)=B:=by
 funext x y; unfold rM; split
 . rename_i h; rw[h.1,h.2]
 . rfl
theorem XH (p:Nat) (x:α) (l:List (Nat×α)):B9 p ((p,x) :: l)=some x:=if_pos rfl
theorem nA {p q:Nat} (h:q≠p) (x:α) (l:List (Nat×α)):B9 q ((p,x) :: l)=B9 q l:=if_neg h
theorem iB {p q:Nat} (h:q≠p) (x:α) (l:List (Nat×α)):B9 q ((p,x) :: F5 p l)=B9 q l:=(nA h x _).trans (LW h l)
abbrev mJ:=Int×Int
theorem AcG {a b d h:Nat} (e:((a:Int),(b:Int))=((d:Int),(h:Int))):a=d∧b=h:=by have h1:=(Prod.mk.inj e).1; have h2:=(Prod.mk.inj e).2; omega
structure Bxs (N rm nb:Nat) (B:Nat→Nat→List AA) (bx:List (mJ×Option Nat)) (bs:A9):Prop where
 ks:F0 bx
 ln:bx.length≤nb
 key:∀ k v,B9 k bx=some v→∃ a b p:Nat,a<N∧b<N∧k=((a:Int),(b:Int))∧v=some p
 get:∀ a b p:Nat,B9 ((a:Int),(b:Int)) bx=some (some p)→∃ t x,B9 p bs=some x∧Bk t rm nb x (B a b)
 no:∀ a b:Nat,B9 ((a:Int),(b:Int)) bx=none→B a b=[]
 inj:∀ k k' p,B9 k bx=some (some p)→B9 k' bx=some (some p)→k=k'
variable {N rm nb n:Nat} {B:Nat→Nat→List AA} {bx:List (mJ×Option Nat)} {bs:A9}
theorem Bxs.le (h:Bxs N rm nb B bx bs) (d:nb<=nb'):Bxs N rm nb' B bx bs:=
 ⟨h.ks,Nat.le_trans h.ln d,h.key,λa b p hp=>by obtain⟨t,x,J,D⟩:=h.get a b p hp; exact⟨t,x,J,D.le d⟩,h.no,h.inj⟩
theorem Bxs.upd (h:Bxs N rm nb B bx bs) {a b p:Nat} (hp:B9 ((a:Int),(b:Int)) bx=some (some p)) {t:Nat} {K:B4} {V:List AA} (hx:Bk t rm nb' K V) (Z:nb<=nb'):Bxs N rm nb' (rM B a b V) bx ((p,K) :: F5 p bs):=by
 refine⟨h.ks,Nat.le_trans h.ln Z,h.key,λJ D O d=>?_,λJ D d=>?_,h.inj⟩
 . by_cases e:J=a∧D=b
   . obtain⟨rfl,rfl⟩:=e;rw[hp] at d;obtain rfl:p=O:=by simpa using d
     exact⟨t,K,XH _ _ _,by rw[dU]; exact hx⟩
   . have U:O≠p:=λe'=>by subst e';have:=h.inj _ _ _ d hp;exact e (AcG this)
     obtain⟨t',x,h1,h2⟩:=h.get J D O d;exact⟨t',x,by rw[iB U]; exact h1,by rw[dV e]; exact h2.le Z⟩
 . rw[dV]
   . exact h.no J D d
   . rintro⟨rfl,rfl⟩; rw[hp] at d; cases d
theorem Bxs.new (h:Bxs N rm nb B bx bs) {a b p:Nat} (ha:a<N) (hb:b<N) (hno:B9 ((a:Int),(b:Int)) bx=none) (hf:B9 p bs=none) :
   Bxs N rm (nb+1) B (DK ((a:Int),(b:Int)) (some p) bx) ((p,{ room:=(rm:Int),row:=[],by_:=[],often:=[],sent:=0,taken:=0 }) :: bs):=by
 have K:∀ k,B9 k bx≠some (some p):=λk hk=>by obtain⟨J,D,O,_,_,rfl,e⟩:=h.key _ _ hk;obtain⟨t,x,U,_⟩:=h.get J D p hk;rw[hf] at U; cases U
 have V:∀ k v,B9 k (DK ((a:Int),(b:Int)) (some p) bx)=some v->(k=((a:Int),(b:Int))∧v=some p)∨(k≠((a:Int),(b:Int))∧B9 k bx=some v):=λk v hk=>by
   by_cases e:k=((a:Int),(b:Int))
   . subst e; rw[CO] at hk; exact .inl ⟨rfl,(Option.some.inj hk).symm⟩
   . rw[DJ e] at hk; exact .inr ⟨e,hk⟩
 refine⟨GQ h.ks _ _,by have:=yA ((a:Int),(b:Int)) (some p) bx; have:=h.ln; omega,λk v hk=>?_,λJ D O hk=>?_,λJ D hk=>?_,λk k' O hk d=>?_⟩
 . rcases V k v hk with⟨rfl,rfl⟩ | ⟨_,hk⟩
   . exact⟨a,b,p,ha,hb,rfl,rfl⟩
   . exact h.key k v hk
 . rcases V _ _ hk with⟨e,Z⟩ | ⟨_,hk⟩
   . obtain⟨rfl,rfl⟩:J=a∧D=b:=AcG e;obtain rfl:O=p:=by simpa using Z
     exact⟨0,_,XH _ _ _,by rw[h.no _ _ hno]; exact Aj9 rm (nb+1)⟩
   . obtain⟨t,x,U,h2⟩:=h.get J D O hk;have hne:O≠p:=λe=>K _ (by rw[e] at hk; exact hk);exact⟨t,x,by rw[nA hne]; exact U,h2.le (by omega)⟩
 . by_cases e:((J:Int),(D:Int))=((a:Int),(b:Int))
   . rw[e,CO] at hk; cases hk
   . rw[DJ e] at hk; exact h.no J D hk
 . rcases V _ _ hk with⟨rfl,e⟩ | ⟨_,hk⟩ <;> rcases V _ _ d with⟨rfl,Z⟩ | ⟨_,d⟩
   . rfl
   . exact absurd (by rw[Option.some.inj e] at d; exact d) (K k')
   . exact absurd (by rw[Option.some.inj Z] at hk; exact hk) (K k)
   . exact h.inj _ _ _ hk d
structure GrI (c:GC) (g:Gh) (ad:Nat→Nat) (W:Nat→A0) (B:Nat→Nat→List AA) (rm nb n:Nat) (o:A4) (ws:A2) (bs:A9):Prop where
 gh:g.Ok c
 pn:o.setup.Plan.N=c.n
 room:o.setup.Room=rm
 wk:o.workers=(List.range (c.R*c.C)).map fun k=>some (ad k)
 ow:o.owners=(List.range c.R).map fun i=>some (ad (i*c.C))
 inj:∀ a b,a<c.R*c.C→b<c.R*c.C→ad a=ad b→a=b
 mem:∀ k,k<c.R*c.C→B9 (ad k) ws=some (W k)
 ok:∀ i j,i<c.R→j<c.C→WOk c g i j (W (i*c.C+j))
 hist:o.history=c.hist n
 tot:∀ φ,AQ (c.R*c.C) (fun k=>wt φ (W k).out)+AQ (c.R*c.C) (fun a=>AQ (c.R*c.C) fun b=>wt φ (B a b))=g.pend c φ
 to:∀ a b,a<c.R*c.C→b<c.R*c.C→∀ f∈B a b,f.To=(b:Int)
 bx:Bxs (c.R*c.C) rm nb B o.boxes bs
variable {ad:Nat→Nat} {W:Nat→A0} {o:A4} {ws:A2}
theorem AeG (f:AA) {l:List AA} (h:f∈l):1<=wt (λx=>if x=f then 1 else 0) l:=by have:=Aj5 (φ:=λx=>if x=f then 1 else 0) h;simpa using this
theorem GrI.out_pend (H:GrI c g ad W B rm nb n o ws bs) {k:Nat} (hk:k<c.R*c.C) {f:AA} (d:f∈(W k).out):g.Pend c f:=by refine g.pend_in c ?_;have h1:=KY (f:=λk=>wt (λx=>if x=f then 1 else 0) (W k).out) hk;have h2:=H.tot λx=>if x=f then 1 else 0;have h3:=AeG f d;omega
theorem GrI.box_pend (H:GrI c g ad W B rm nb n o ws bs) {a b:Nat} (D:a<c.R*c.C) (h:b<c.R*c.C) {f:AA} (d:f∈B a b):g.Pend c f:=by refine g.pend_in c ?_;have h1:=KY (f:=λa=>AQ (c.R*c.C) λb=>wt (λx=>if x=f then 1 else 0) (B a b)) D;have J:=KY (f:=λb=>wt (λx=>if x=f then 1 else 0) (B a b)) h;have h2:=H.tot λx=>if x=f then 1 else 0;have h3:=AeG f d;omega
theorem GrI.out_len (H:GrI c g ad W B rm nb n o ws bs) (h:c.Ok) {k:Nat} (hk:k<c.R*c.C):(W k).out.length<=85:=by have D:=KY (f:=λk=>wt (λ_=>1) (W k).out) hk;have d:=H.tot λ_=>1;have h3:=AkQ (g:=g) h;simp only[AcC] at D;simp only[AcC] at d; omega
theorem WOk.out {i j:Nat} {w:A0} (h:WOk c g i j w) (l:List AA):WOk c g i j { w with out:=l }:=
 ⟨⟨h.st.pl,h.st.pn,h.st.gr,h.st.lm,h.st.ch,h.st.ro,h.st.co⟩,h.spread,h.share,λd=>by have o:=h.own d; exact⟨o.waits,o.begun,o.round,o.status,o.has,o.aside,o.sums,o.came⟩,λhi d=>by have o:=h.one hi d; exact⟨o.vote,o.votes,o.closed⟩⟩
theorem AkW (h:c.Ok) (J:g.Ok c) {f:AA} (d:g.Pend c f):∃ b:Nat,b<c.R*c.C∧f.To=(b:Int):=by obtain⟨i,j,hi,D,e,_⟩:=Aj7 h J d 0;exact⟨_,dT hi D,e⟩
theorem AaF {k:Nat} (hl:o.workers.length=N) (hk:k<N) {Q:Bool->Prop} (d:Q true):FK o ws k Q:=by unfold FK;refine A1 (λ_=>?_) (λh=>by omega);rw[decide_eq_true (show(k:Int)<(o.workers.length:Int) by omega)]; exact d
theorem AeH (d:o.workers.length=N) {a b p:Nat} (J:a<N) (D:b<N) (hp:B9 ((a:Int),(b:Int)) o.boxes=some (some p)) {K:A4×A9->Prop} {h:Option Nat×A4×A9->Prop} (O:h (some p,o,bs)):EG o ws bs a b K h:=by unfold EG;refine AaF d J (AC rfl (AaF d D (AC rfl (HH ?_))));rw[hp];refine AC rfl (HH ?_);rw[hp]; exact O
theorem AkX (d:o.workers.length=N) {a b:Nat} (U:a<N) (K:b<N) (hr:o.setup.Room=rm) (J:1<=rm∧rm<=64) (hp:B9 ((a:Int),(b:Int)) o.boxes=none) {V:A4×A9->Prop} {D:Option Nat×A4×A9->Prop}
  (Z:∀ p,B9 p bs=none->D (some p,{ o with boxes:=DK ((a:Int),(b:Int)) (some p) o.boxes },(p,{ room:=(rm:Int),row:=[],by_:=[],often:=[],sent:=0,taken:=0 }) :: bs)):EG o ws bs a b V D:=by
 unfold EG WW;refine AaF d U (AC rfl (AaF d K (AC rfl (HH ?_))));rw[hp,hr];refine AU rfl (A1 (λh=>by omega) λ_=>A1 (λh=>by omega) λ_=>λp O=>HH ?_);rw[CO]; exact Z p O
def NE (c:GC) (B:Nat->Nat->List AA):Prop:=∃ a b,a<c.R*c.C∧b<c.R*c.C∧B a b≠[]
def Frm (c:GC) (ad:Nat->Nat) (ws d:A2):Prop:=∀ p,(∀ k,k<c.R*c.C->p≠ad k)->B9 p d=B9 p ws
theorem AkY (h:c.Ok) (H:GrI c g ad W B rm nb n o ws bs) (hrm:1<=rm∧rm<=64) (hnb:nb<1000000) {k:Nat} (hk:k<c.R*c.C) {Q:Bool×A4×A2×A9->Prop}
  (hQ:∀ r W' B' o' ws' bs',GrI c g ad W' B' rm (nb+1) n o' ws' bs'->Frm c ad ws ws'->(NE c B->NE c B')->(NE c B'∨r=false∧W'=W∧(W k).out=[])->Q (r,o',ws',bs')):IP o ws bs k Q:=by
 have hwl:o.workers.length=c.R*c.C:=by rw[H.wk]; simp
 unfold IP;refine AaF hwl hk (AC rfl (AK (by omega) (x:=some (ad k)) (by rw[H.wk]; simp[hk]) ?_));unfold J9 IK EF;refine WB ⟨W k,H.mem k hk,?_⟩;dsimp only;have hle:GrI c g ad W B rm (nb+1) n o ws bs:=⟨H.gh,H.pn,H.room,H.wk,H.ow,H.inj,H.mem,H.ok,H.hist,H.tot,H.to,H.bx.le (by omega)⟩
 cases hout:(W k).out with
 | nil=>
  refine AU rfl (AU rfl ?_);exact hQ false W B o ws bs hle (λ_ _=>rfl) id (.inr ⟨rfl,rfl,hout⟩)
 | cons f D=>
  have hfp:=H.out_pend hk (f:=f) (by rw[hout]; simp);have hsm:=AeD h hfp;obtain⟨b,hb,hto⟩:=AkW h H.gh hfp;have hol:=H.out_len h hk;rw[hout] at hol;simp only[List.length_cons] at hol;refine AV (λh0=>by simp at h0; omega) λ_=>AK (by omega) (x:=f) (by simp) (AkS hsm (AC rfl ?_));rw[hto]
  -- with the box there
  have main:∀ (o1:A4) (Z:A9) (p:Nat),GrI c g ad W B rm (nb+1) n o1 ws Z->B9 ((k:Int),(b:Int)) o1.boxes=some (some p)->(∀ t x,B9 p Z=some x->Bk t rm (nb+1) x (B k b)->Bk t rm nb x (B k b)) ->
     KR Z (some p) f λU=>A8 (U.1 != 0) (Q (false,o1,ws,U.2)) (ET ws (some (ad k)) λr138=>Q (true,o1,r138,U.2)):=by
   intro o1 Z p d hp K;obtain⟨t,x,hx1,hx2⟩:=d.bx.get k b p hp;unfold KR;refine WB ⟨x,hx1,AkT (K t x hx1 hx2) hrm.2 (by omega) hsm (λO=>AU rfl ?_) λhlt x' hx'=>AC rfl ?_⟩
   . have V:=d.bx.upd hp hx2 (Nat.le_refl _);rw[AkV] at V;refine hQ false W B o1 ws _ ⟨d.gh,d.pn,d.room,d.wk,d.ow,d.inj,d.mem,d.ok,d.hist,d.tot,d.to,V⟩ (λ_ _=>rfl) id (.inl ⟨k,b,hk,hb,λe=>?_⟩);rw[e] at O; simp at O; omega
   . unfold ET IM EF;refine WB ⟨W k,H.mem k hk,?_⟩;dsimp only;rw[hout];refine A1 (λ_=>⟨by omega,by simp only[List.length_cons]; omega,by omega,?_⟩) λh0=>absurd (show(0:Int)<((f :: D).length:Int) by simp only[List.length_cons]; omega) h0;have V:=d.bx.upd hp hx' (Nat.le_refl _);have e1:(((f :: D).take ((f :: D).length:Int).toNat).drop (Int.toNat 1))=D:=by rw[Int.toNat_natCast,List.take_length]; rfl
     dsimp only;rw[e1];refine hQ true (AaE W k { W k with out:=D }) (rM B k b (B k b++[f])) o1 _ _ ⟨d.gh,d.pn,d.room,d.wk,d.ow,d.inj,λq hq=>?_,λi j hi hj=>?_,d.hist,λφ=>?_,λa' b' ha' hb' f' J=>?_,V⟩ (λp' hp'=>iB (hp' k hk) _ _) (λ_=>?_) (.inl ?_)
     . by_cases e:q=k
       . rw[e,kE,XH]
       . rw[kF e,iB λe'=>e (H.inj _ _ hq hk e')]; exact d.mem q hq
     . by_cases e:i*c.C+j=k
       . rw[e,kE,<-e]; exact(d.ok i j hi hj).out _
       . rw[kF e]; exact d.ok i j hi hj
     . dsimp only;have t1:=GF (f:=λq=>wt φ (W q).out) (f':=λq=>wt φ (AaE W k { W k with out:=D } q).out) hk λq _ hne=>by rw[kF hne]
       have t2:=L0 (f:=λx y=>wt φ (B x y)) (f':=λx y=>wt φ (rM B k b (B k b++[f]) x y)) hk hb λx y _ _ hne=>by rw[dV hne]
       have t3:=d.tot φ;simp only[kE,hout,wt] at t1;simp only[dU,wK,wt] at t2;omega
     . by_cases e:a'=k∧b'=b
       . rw[e.1,e.2,dU] at J;rcases List.mem_append.1 J with J | J
         . rw[e.2]; exact d.to k b hk hb f' J
         . rw[List.mem_singleton.1 J,e.2]; exact hto
       . rw[dV e] at J; exact d.to a' b' ha' hb' f' J
     . exact⟨k,b,hk,hb,by rw[dU]; simp⟩
     . exact⟨k,b,hk,hb,by rw[dU]; simp⟩
  cases hbox:B9 ((k:Int),(b:Int)) o.boxes with
  | none=>
   refine AkX hwl hk hb H.room hrm hbox λp hf=>main _ _ p ⟨H.gh,H.pn,H.room,H.wk,H.ow,H.inj,H.mem,H.ok,H.hist,H.tot,H.to,H.bx.new hk hb hbox hf⟩ (CO _ _ _) λt x hx K=>?_;rw[XH] at hx;have hB:B k b=[]:=H.bx.no k b hbox;obtain rfl:=Option.some.inj hx;have ht:t=0:=by have:=K.tk; simp at this; omega
   rw[hB,ht]; exact Aj9 rm nb
  | some v=>
   obtain⟨a',b',p,ha',hb',e,rfl⟩:=H.bx.key _ _ hbox;refine AeH hwl hk hb hbox (main _ _ p hle hbox λt x hx K=>?_);obtain⟨t',x',h1,h2⟩:=H.bx.get k b p hbox;rw[hx] at h1;obtain rfl:=Option.some.inj h1;have:t=t':=by have:=K.tk; have:=h2.tk; omega
   rw[this]; exact h2
open Go Go.Fw Go.Sort Go.Shelf
variable {c:GC} {g:Gh} {N rm nb n:Nat} {B:Nat→Nat→List AA} {bx:List (mJ×Option Nat)} {bs:A9} {ad:Nat→Nat} {W:Nat→A0} {o:A4} {ws:A2}
theorem Frm.trans {h d:A2} (J:Frm c ad ws h) (D:Frm c ad h d):Frm c ad ws d:=λp hp=>(D p hp).trans (J p hp)
theorem AcH (h:c.Ok) (H:GrI c g ad W B rm nb (g.nh c) o ws bs) (hrm:1<=rm∧rm<=64) (hnb:nb<=1000000) {a b p:Nat} (ha:a<c.R*c.C) (D:b<c.R*c.C) (hp:B9 ((a:Int),(b:Int)) o.boxes=some (some p)) {f:AA} {l:List AA} (hB:B a b=f :: l)
   {Q:Bool×A4×A2×A9->Prop}
   (hQ:∀ g' W' o' Z bs' t x',GrI c g' ad W' (rM B a b l) rm nb (g'.nh c) o' Z bs'->g'.val c=g.val c+1->o'.boxes=o.boxes->Frm c ad ws Z->B9 p bs'=some x'->Bk t rm nb x' l->Q (true,o',Z,bs')):GJ o ws bs a b 0 Q:=by
 have hwl:o.workers.length=c.R*c.C:=by rw[H.wk]; simp
 have hfp:=H.box_pend ha D (f:=f) (by rw[hB]; simp);have hsm:=AeD h hfp;have hto:=H.to a b ha D f (by rw[hB]; simp);obtain⟨t,x,hx1,hx2⟩:=H.bx.get a b p hp;rw[hB] at hx2;unfold GJ;refine AeH hwl ha D hp ?_;unfold P3;refine WB ⟨x,hx1,AkU hx2 hrm.2 hnb hsm λx' hx'=>AC rfl (AK (by omega) (x:=some (ad b)) (by rw[H.wk]; simp[D]) ?_)⟩;unfold GI;refine WB ⟨W b,H.mem b D,?_⟩;obtain⟨i,j,hi,hj,O,g',N,J,hoth,V⟩:=Aj7 h H.gh hfp (t:Int);have hbij:b=i*c.C+j:=by rw[hto] at O; unfold GC.num at O; omega
 have hol:=H.out_len h D;subst hbij;refine V _ (H.ok i j hi hj) (by omega) _ λw' hw' hout=>?_
 have U:∀ i' j',i'<c.R->j'<c.C->WOk c g' i' j' (AaE W (i*c.C+j) w' (i'*c.C+j')):=λi' j' hi' hj'=>by
   by_cases e:i'*c.C+j'=i*c.C+j
   . obtain⟨rfl,rfl⟩:=AkR h hj' hj e;rw[kE]; exact hw'
   . rw[kF e];exact hoth i' j' hi' hj' (λe'=>e (by rw[e'.1,e'.2])) _ (H.ok i' j' hi' hj')
 have d:∀ q,q<c.R*c.C->B9 (ad q) ((ad (i*c.C+j),w') :: F5 (ad (i*c.C+j)) ws)=some (AaE W (i*c.C+j) w' q):=λq hq=>by
   by_cases e:q=i*c.C+j
   . rw[e,kE,XH]
   . rw[kF e,iB λe'=>e (H.inj _ _ hq D e')]; exact H.mem q hq
 refine AeF h J.ok H.ow H.pn (n:=g.nh c) (λk hk=>?_) H.hist J.h ?_
 . have hC:=h.C1;have hlt:k*c.C<c.R*c.C:=by have:=dT (c:=c) hk (show 0<c.C by omega); omega
   have ow:=(U k 0 hk (by omega)).own rfl;rw[Nat.add_zero] at ow;exact⟨_,d _ hlt,ow.round,ow.has⟩
 . refine hQ g' (AaE W (i*c.C+j) w') _ _ _ (t+1) x' ⟨J.ok,H.pn,H.room,H.wk,H.ow,H.inj,d,U,rfl,λφ=>?_,λa' b' ha' hb' f' K=>?_,H.bx.upd hp hx' (Nat.le_refl _)⟩ J.v rfl (λp' hp'=>iB (hp' _ D) _ _) (XH _ _ _) hx'
   . have t1:=GF (f:=λq=>wt φ (W q).out) (f':=λq=>wt φ (AaE W (i*c.C+j) w' q).out) D λq _ hne=>by rw[kF hne]
     have t2:=L0 (f:=λx y=>wt φ (B x y)) (f':=λx y=>wt φ (rM B a (i*c.C+j) l x y)) ha D λx y _ _ hne=>by rw[dV hne]
     have t3:=H.tot φ;have t4:=J.w φ;simp only[kE,hout,wK] at t1;simp only[dU,hB,wt] at t2;omega
   . by_cases e:a'=a∧b'=i*c.C+j
     . rw[e.1,e.2,dU] at K;rw[e.2]; exact H.to a _ ha D f' (by rw[hB]; simp[K])
     . rw[dV e] at K; exact H.to a' b' ha' hb' f' K
def cfK (x y:Int×Int):Int:=cfT ⟨x.1,x.2,0⟩ ⟨y.1,y.2,0⟩
theorem AkZ:SWO (ltOf cfK):=⟨λx=>mS.irrefl ⟨x.1,x.2,0⟩,λx y z=>mS.trans ⟨x.1,x.2,0⟩ ⟨y.1,y.2,0⟩ ⟨z.1,z.2,0⟩,λx y z=>mS.ntrans ⟨x.1,x.2,0⟩ ⟨y.1,y.2,0⟩ ⟨z.1,z.2,0⟩⟩
def neK (B:Nat->Nat->List AA) (e:mJ×Option Nat):Bool:=!(B e.1.1.toNat e.1.2.toNat).isEmpty
theorem nB {B:Nat->Nat->List AA} {a b:Nat} {e:mJ×Option Nat} (h:e.1=((a:Int),(b:Int))):neK B e=true↔B a b≠[]:=by unfold neK; rw[h]; simp
structure Lks (c:GC) (B:Nat→Nat→List AA) (bx:List (mJ×Option Nat)) (ls:List mJ):Prop where
 nd:ls.Nodup
 of:∀ k∈ls,∃ a b p:Nat,a<c.R*c.C∧b<c.R*c.C∧k=((a:Int),(b:Int))∧B9 k bx=some (some p)∧B a b≠[]
 all:∀ a b,a<c.R*c.C→b<c.R*c.C→B a b≠[]→((a:Int),(b:Int))∈ls
 len:ls.length≤bx.length
theorem AjA (J:Bxs (c.R*c.C) rm nb B o.boxes bs) (hnb:nb<=1000000) {Q:List mJ->Prop} (hQ:∀ ls,Lks c B o.boxes ls->Q ls):HE o bs Q:=by
 unfold HE;have hln:=J.ln;refine DC (λs:List (mJ×Option Nat)×List mJ=>∃ d,o.boxes.Perm (d++s.1)∧s.2=(d.filter (neK B)).map (·.1)) (λs=>s.1.length) ⟨[],List.Perm.refl _,rfl⟩ ?_;rintro⟨rest,acc⟩ next ⟨d,O,h⟩ hnx;simp only at O h;have hdl:=O.length_eq;rw[List.length_append] at hdl;have hfl:=List.length_filter_le (neK B) d;refine YM (λhr=>?_) (λp r hp=>?_)
 . subst hr;rw[List.append_nil] at O;refine⟨cfK,λx y Q' hq=>?_,AkZ,by rw[h,List.length_map]; omega,λys D _=>hQ ys ?_⟩
   . unfold N9;exact FR (FR (sH hq))
   rw[h] at D;have K:∀ e,e∈d↔B9 e.1 o.boxes=some e.2:=λe=>by rw[GX J.ks]; exact O.symm.mem_iff
   refine⟨?_,λk hk=>?_,λa b ha hb' hne=>?_,?_⟩
   . refine D.symm.nodup (((List.filter_sublist (l:=d)).map _).nodup ?_);exact(O.map (λx:mJ×Option Nat=>x.1)).nodup (show(o.boxes.map λx:mJ×Option Nat=>x.1).Nodup from J.ks)
   . obtain⟨e,he,rfl⟩:=List.mem_map.1 (D.mem_iff.1 hk);obtain⟨he1,he2⟩:=List.mem_filter.1 he;have hm:=(K e).1 he1;obtain⟨a,b,p,h1,h2,V,h4⟩:=J.key _ _ hm;exact⟨a,b,p,h1,h2,V,by rw[hm,h4],(nB V).1 he2⟩
   . refine D.mem_iff.2 ?_
     cases hm:B9 ((a:Int),(b:Int)) o.boxes with
     | none=>exact absurd (J.no a b hm) hne
     | some v=>exact List.mem_map.2 ⟨(((a:Int),(b:Int)),v),List.mem_filter.2 ⟨(K _).2 hm,(nB rfl).2 hne⟩,rfl⟩
   . rw[D.length_eq,List.length_map]; omega
 . have hpl:=hp.length_eq;simp only[List.length_cons] at hpl;have U:B9 p.1 o.boxes=some p.2:=(GX J.ks).2 (O.mem_iff.2 (List.mem_append.2 (.inr (hp.mem_iff.2 (by simp)))));obtain⟨a,b,q,h1,h2,V,h4⟩:=J.key _ _ U;have hd':o.boxes.Perm ((d++[p])++r):=O.trans (by rw[List.append_assoc]; exact(hp.append_left d));unfold GN;rw[h4];rw[V,h4] at U;obtain⟨t,x,hx1,hx2⟩:=J.get a b q U;refine WB ⟨x,hx1,wL hx2 ?_⟩
   have hf:((d++[p]).filter (neK B)).map (·.1)=acc++if neK B p=true then [p.1] else []:=by rw[List.filter_append,List.map_append,<-h,List.filter_cons];split <;> rfl
   refine A1 (λZ=>AH (by rw[h]; simp; omega) (hnx _ ⟨d++[p],hd',?_⟩ (by simp only; omega))) (λhge=>hnx _ ⟨d++[p],hd',?_⟩ (by simp only; omega))
   . rw[hf,if_pos ((nB V).2 λe=>by rw[e] at Z; simp at Z)]
   . rw[hf,if_neg (λhx=>(nB V).1 hx (List.length_eq_zero_iff.1 (by omega))),List.append_nil]
theorem GrI.up (H:GrI c g ad W B rm nb n o ws bs) (d:nb<=nb'):GrI c g ad W B rm nb' n o ws bs:=⟨H.gh,H.pn,H.room,H.wk,H.ow,H.inj,H.mem,H.ok,H.hist,H.tot,H.to,H.bx.le d⟩
theorem GrI.rest (H:GrI c g ad W B rm nb n o ws bs) (d:¬NE c B) (U:∀ q,q<c.R*c.C->(W q).out=[]) (φ:AA->Nat):g.pend c φ=0:=by
 rw[<-H.tot φ];have K:AQ (c.R*c.C) (λk=>wt φ (W k).out)=c.R*c.C*0:=BV λk hk=>by rw[U k hk]; rfl
 have D:AQ (c.R*c.C) (λa=>AQ (c.R*c.C) λb=>wt φ (B a b))=c.R*c.C*(c.R*c.C*0):=BV λa J=>BV λb h=>by rw[show B a b=[] from Classical.byContradiction λO=>d ⟨a,b,J,h,O⟩]; rfl
 rw[K,D]; simp
theorem Ag5 (h:c.Ok) (H:GrI c g ad W B rm nb (g.nh c) o ws bs) (hrm:1<=rm∧rm<=64) (hnb:nb<=900000) {Q:Bool×A4×A2×A9->Prop}
   (hQ:∀ r K J d o' D U,GrI c K ad J d rm (nb+25) (K.nh c) o' D U->(r=true->g.val c<K.val c)->(r=false->∀ φ,K.pend c φ=0)->Frm c ad ws D->Q (r,o',D,U)):CJ o ws bs Q:=by
 have hwl:o.workers.length=c.R*c.C:=by rw[H.wk]; simp
 have h25:=(T_b h).2;unfold CJ
 refine AD (σ:=A4×Bool×A2×A9) (λs i=>(s.1,s.2.1,i,s.2.2.1,s.2.2.2)) 0 (c.R*c.C) (s0:=(o,false,ws,bs)) (by omega)
   (λk s=>∃ J d,GrI c g ad J d rm (nb+k) (g.nh c) s.1 s.2.2.1 s.2.2.2∧Frm c ad ws s.2.2.1∧(NE c d∨s.2.1=false∧∀ q,q<k->(J q).out=[])) (by omega) ⟨W,B,H,λ_ _=>rfl,.inr ⟨rfl,λq hq=>by omega⟩⟩ (λk s next _ hk hs hnx=>?_) (λs next hs=>?_)
 . obtain⟨o1,mv,ws1,bs1⟩:=s;obtain⟨W1,B1,H1,F1,D1⟩:=hs;simp only at H1 F1 D1 ⊢;refine A1 (λ_=>AkY h H1 hrm (by omega) hk λr J d o' D U H' F' g1 Z=>?_) (λh'=>by omega)
   cases r with
   | true=>
     refine AU rfl (hnx (o',true,D,U) ⟨J,d,H',F1.trans F',.inl ?_⟩);rcases Z with Z | ⟨Z,_⟩
     . exact Z
     . cases Z
   | false=>
     refine AC rfl (hnx (o',mv,D,U) ⟨J,d,H',F1.trans F',?_⟩);rcases Z with Z | ⟨_,rfl,g4⟩
     . exact .inl Z
     . rcases D1 with D1 | ⟨D1,D2⟩
       . exact .inl (g1 D1)
       . refine .inr ⟨D1,λq hq=>?_⟩;by_cases e:q=k
         . rw[e]; exact g4
         . exact D2 q (by omega)
 . obtain⟨o1,mv,ws1,bs1⟩:=s;obtain⟨W1,B1,H1,F1,D1⟩:=hs;simp only at H1 F1 D1 ⊢;refine A1 (λh'=>by omega) λ_=>AjA H1.bx (by omega) λls L=>?_;have hll:ls.length<=1000000:=by have:=L.len; have:=H1.bx.ln; omega
   refine AD (σ:=A4×Bool×A9×A2) (λs i=>(s.1,s.2.1,i,s.2.2.1,s.2.2.2)) 0 ls.length (s0:=(o1,mv,bs1,ws1)) (by omega)
     (λk s=>∃ K J d,GrI c K ad J d rm (nb+c.R*c.C) (K.nh c) s.1 s.2.2.2 s.2.2.1∧Frm c ad ws s.2.2.2∧s.1.boxes=o1.boxes∧(∀ a b:Nat,(∃ q,k<=q∧ls[q]? = some ((a:Int),(b:Int)))->d a b≠[])∧K.val c=g.val c+k∧(0<k->s.2.1=true)∧(k=0->s=(o1,mv,bs1,ws1)∧K=g∧J=W1∧d=B1)) (by omega)
     ⟨g,W1,B1,H1,F1,rfl,λa b ⟨q,_,hq⟩=>?_,rfl,λh0=>absurd h0 (by omega),λ_=>⟨rfl,rfl,rfl,rfl⟩⟩ (λk s next _ hk hs hnx=>?_) (λs next hs=>?_)
   . obtain⟨a',b',p,_,_,e,_,V⟩:=L.of _ (List.mem_of_getElem? hq);obtain⟨rfl,rfl⟩:=AcG e;exact V
   . obtain⟨o2,mv2,bs2,ws2⟩:=s;obtain⟨K,J,d,H',F',O,V,hv,hm,_⟩:=hs;simp only at H' F' O hm ⊢;obtain⟨a,b,p,ha,hb,e,hp,_⟩:=L.of _ (List.getElem_mem hk);refine A1 (λ_=>B3 hk ?_) (λh'=>by omega);rw[e];rw[e,<-O] at hp;refine HH ?_;rw[hp];obtain⟨t,x,hx1,hx2⟩:=H'.bx.get a b p hp;have hB:=V a b ⟨k,Nat.le_refl _,by rw[List.getElem?_eq_getElem hk,e]⟩;unfold GN MA;refine WB ⟨x,hx1,wL hx2 (WB ⟨x,hx1,AmM hx2 hB hrm.2 ?_⟩)⟩
     obtain⟨f,l,hfl⟩:∃ f l,d a b=f :: l:=by
       cases hc:d a b with
       | nil=>exact absurd hc hB
       | cons f l=>exact⟨f,l,rfl⟩
     refine AcH h H' hrm (by omega) ha hb hp hfl λZ W2 o3 ws3 bs3 t2 x2 H2 hv2 hb2 F2 hx3 hx4=>?_
     have fin:∀ mv',mv'=true->next (o3,mv',A6 ((k:Int)+1),bs3,ws3):=λmv' e'=>hnx (o3,mv',bs3,ws3) ⟨Z,W2,rM d a b l,H2,F'.trans F2,hb2.trans O,λa' b' ⟨q,hq1,hq2⟩=>by
       rw[dV]
       . exact V a' b' ⟨q,by omega,hq2⟩
       . rintro⟨rfl,rfl⟩;have h1:ls[k]? = some ((a':Int),(b':Int)):=by rw[List.getElem?_eq_getElem hk,e]
         have:=(List.getElem?_inj hk L.nd).1 (h1.trans hq2.symm);omega,by rw[hv2,hv]; omega,λ_=>e',λh0=>by omega⟩
     cases mv2 with
     | true=>exact AU rfl (fin true rfl)
     | false=>
       refine AC rfl (WB ⟨x2,hx3,wL hx4 ?_⟩);have:decide ((l.length:Int)<((d a b).length:Int))=true:=decide_eq_true (by rw[hfl]; simp only[List.length_cons]; omega);dsimp only;rw[this]; exact fin true rfl
   . obtain⟨o2,mv2,bs2,ws2⟩:=s;obtain⟨K,J,d,H',F',O,V,hv,hm,h0⟩:=hs;simp only at H' F' O hm h0 ⊢;refine A1 (λh'=>by omega) λ_=>hQ mv2 K J d o2 ws2 bs2 (H'.up (by omega)) (λhr=>?_) (λhr=>?_) F'
     . rcases Nat.eq_zero_or_pos ls.length with hz | hz
       . obtain⟨hs,_,_,_⟩:=h0 hz;have:mv2=mv:=by injection hs with _ h2; injection h2
         rcases D1 with⟨a,b,ha,hb,hx⟩ | ⟨D1,_⟩
         . have:=L.all a b ha hb hx;rw[List.length_eq_zero_iff.1 hz] at this; simp at this
         . rw[hr] at this; rw[<-this] at D1; cases D1
       . omega
     . rcases Nat.eq_zero_or_pos ls.length with hz | hz
       . obtain⟨_,rfl,rfl,rfl⟩:=h0 hz
         have hnn:¬NE c d:=λ⟨a,b,ha,hb,hx⟩=>by have:=L.all a b ha hb hx;rw[List.length_eq_zero_iff.1 hz] at this; simp at this
         rcases D1 with D1 | ⟨_,D2⟩
         . exact absurd D1 hnn
         . exact H'.rest hnn D2
       . rw[hm hz] at hr; cases hr
variable {c:GC}
def rN:Gh:=⟨0,λ_=>true,λ_ _=>true,λ_ _=>true,λ_ _=>true,λ_=>false⟩
noncomputable def GC.w0 (c:GC) (i j:Nat):A0:=⟨⟨i,j⟩,c.p,⟨c.R,c.C⟩,c.lim,c.ch,c.rows i j,c.cols i j,if j=0 then [c.fVote 0 i] else [],1,[],1,0,0,if j=0 then c.sg 0 i else zSt,if j=0 then c.sg 0 i else zSt,decide (j=0),false,[],[],0,[],false⟩
theorem wM (j:Nat):rN.col c j=true:=decide_eq_true λ_ _=>rfl
theorem wN (i:Nat):rN.row c i=true:=decide_eq_true λ_ _=>rfl
theorem iC (i:Nat):rN.rnd c i=0:=by show(if (true:Bool)=true then (if c.st (0 - 1)=3 then 0 - 2 else 0 - 1) else 0 - 2)=0; rw[if_pos rfl]; split <;> rfl
theorem AmO:rN.nh c=1:=if_pos (Nat.zero_le _)
theorem AjB (h:c.Ok):rN.Ok c:=⟨Nat.zero_le _,λi j _ _=>⟨rfl,by have:=h.U_b; show 0<c.U; omega⟩,λi j _ _ _=>wM j,λ_ _ _ _ _=>rfl,(λi _ d=>nomatch d),⟨0,by have:=h.R1; omega,rfl⟩,λ_ i _=>⟨rfl,wN i⟩⟩
theorem ov0 (c:GC) (i:Nat):c.ov 0 i=false:=by
 cases hb:c.ov 0 i with
 | false=>rfl
 | true=>exact absurd rfl (c.ov_iff.1 hb).1
theorem AnY (c:GC) (i j:Nat):WOk c rN i j (c.w0 i j):=by
 refine⟨⟨rfl,rfl,rfl,rfl,rfl,rfl,rfl⟩,rfl,λ_=>⟨?_,MapR.nil _ _ λk _=>?_⟩,λh=>?_,λ_ _=>⟨rfl,MapR.nil _ _ λk _=>rfl,?_⟩⟩
 . rw[wM]; rfl
 . rw[wM]; rfl
 . subst h;refine⟨by rw[wN]; rfl,rfl,by rw[iC]; rfl,(if_neg λd=>absurd d.1 (by show ¬1<=0; omega)).symm,by rw[iC]; rfl,λ_=>?_,(λd=>absurd d (by show ¬1<=0; omega)),(λd=>absurd d (by show ¬1<=0; omega))⟩;show c.sg 0 i=c.asd 0 i;unfold GC.asd;rw[ov0]; rfl
 . exact(decide_eq_false λd=>absurd d.1 (by show ¬1<=0; omega)).symm
theorem AnZ (φ:AA->Nat):rN.pend c φ=AQ c.R λi=>φ (c.fVote 0 i):=by have z1:AQ c.R (rN.pO c φ)=0:=(BV (b:=0) λa _=>if_neg λd=>nomatch d.2).trans (Nat.mul_zero _);have z2:AQ c.R (λa=>AQ c.C (rN.pS c φ a))=0:=(BV (b:=0) λa _=>(BV (b:=0) λb _=>if_neg λd=>nomatch d.2.2).trans (Nat.mul_zero _)).trans (Nat.mul_zero _);have z3:AQ c.C (λb=>AQ c.R (rN.pE c φ b))=0:=(BV (b:=0) λb _=>(BV (b:=0) λa _=>if_neg λd=>nomatch d.2).trans (Nat.mul_zero _)).trans (Nat.mul_zero _);have z4:AQ c.R (λa=>AQ c.C (rN.pA c φ a))=0:=(BV (b:=0) λa _=>(BV (b:=0) λb _=>if_neg λd=>nomatch d.2).trans (Nat.mul_zero _)).trans (Nat.mul_zero _);have z5:AQ c.R (rN.pV c φ)=AQ c.R λi=>φ (c.fVote 0 i):=IU λi _=>if_pos ⟨wN i,rfl⟩;unfold Gh.pend;omega
theorem AaG (f:Nat->Nat) (a:Nat):∀ b,AQ (a+b) f=AQ a f+AQ b λj=>f (a+j)
 | 0=>rfl
 | b+1=>by show AQ (a+b) f+f (a+b)=AQ a f+(AQ b (λj=>f (a+j))+f (a+b)); rw[AaG f a b]; omega
theorem AaH (f:Nat->Nat) (C:Nat):∀ R,AQ (R*C) f=AQ R λi=>AQ C λj=>f (i*C+j)
 | 0=>by rw[Nat.zero_mul]; rfl
 | R+1=>by rw[Nat.succ_mul,AaG,AaH f C R]; rfl
theorem Ag6 {l:List ED} {Q:List ED->Prop} (hl:l.length<=1000000) (d:Q l):CK l Q:=by unfold CK;exact M3 (λe=>by subst e; exact d) (AH (by simp; omega) d)
structure SuP (c:GC) (rm:Nat) (s:JO):Prop where
 pl:s.Plan=c.p
 gr:s.Graph=c.g
 R:s.R=c.R
 C:s.C=c.C
 room:s.Room=rm
 lm:s.Limit=c.lim
 ch:s.Choices=c.ch
 rm1:1≤rm∧rm≤64
theorem kG (h:c.Ok) {rm:Nat} {s:JO} (d:SuP c rm s) {Q:Int->Prop} (O:Q 0):IG s Q:=by
 have hR:=h.R1; have hC:=h.C1; have U:=h.chl; have D:=d.rm1;unfold IG;rw[d.pl,d.gr,d.lm,d.R,d.C,d.room,d.ch];refine pM ?_;rw[h.run.check];refine AC rfl (BP (λb=>b=false) (λb V=>AC V (A1 (λZ=>by omega) λ_=>O)) λk hk=>?_)
 have one:∀ (a m:Nat) (K:Bool->Prop),1<=a∧a<=m->K true->HI (a:Int) (m:Int) K:=λa m K ha J=>by
  unfold HI;refine A1 (λ_=>?_) λZ=>by omega
  rw[decide_eq_true (show(a:Int)<=(m:Int) by omega)]; exact J
 exact one c.R 8 _ (by omega) (AC rfl (one c.C 8 _ (by omega) (AC rfl (one rm 64 _ D (hk _ rfl)))))
theorem Al0 (h:c.Ok) {rm:Nat} {s:JO} (J:SuP c rm s) {i j:Nat} (hi:i<c.R) (hj:j<c.C) {Q0:Int->Prop} {Z Q2:Int×A0->Prop} (h1:j=0->Z (0,c.w0 i j)) (h2:j≠0->Q2 (0,c.w0 i j)):NJ s i j Q0 Z Q2:=by
 have hR:=h.R1; have hC:=h.C1; have hch:=h.chl;have D:=h.run.cn;rw[h.pn] at D;obtain⟨V,d⟩:=dG D (h.grd hi hj);have hdr:=(CG h.run.rp).2.2.2.2.1;unfold NJ;refine kG h J (AC rfl ?_);rw[J.pl,J.gr,J.lm,J.R,J.C,J.ch];refine A1 (λO=>by omega) λ_=>A1 (λO=>by omega) λ_=>A1 (λO=>by omega) λ_=>A1 (λO=>by omega) λ_=>Z6 ?_;rw[h.run.mt,h.pn];refine Ag6 (by omega) (PB (by omega) (vQ D ?_));rw[V];refine AbH d.sml (P5 d) (λ_=>rfl) (λO=>absurd d.right O) d ?_;refine AV (λh0=>?_) λh0=>?_
 . obtain rfl:j=0:=by omega
   have e2:(i:Int)+1=((i+1:Nat):Int):=by omega
   have hn:=h.ls_n hi;refine G4 ?_;rw[AB (x:=(i:Int)+1) (by omega) (by omega)];refine G4 (rC ?_)
   have hb:NY c.p (AJ c.n c.R i) (AJ c.n c.R ((i:Int)+1))=c.sg 0 i:=by rw[e2,h.lowR (by omega),h.lowR (by omega)];exact tL (l:=c.ls i) (n:=c.ln i) h.run.rp rfl (by rw[h.ls_ln]) (by rw[h.pn,<-h.ls_ln]; omega)
   rw[hb];have hv:=wI (i:=i) (k:=0) (w:={ c.w0 i 0 with out:=[],waits:=false }) (Q:=λr=>Z (0,r)) h ⟨rfl,rfl,rfl,rfl,rfl,rfl,rfl⟩ hi (by simp) (λ_=>rfl) (h1 rfl);rw[ov0] at hv;have K:({ Kind:=c.p.Kind,N:=(c.n:Int),Source:=c.p.Source,Length:=c.p.Length,Draws:=c.p.Draws }:Plan)=c.p:=by rw[<-h.pn]
   rw[K];exact hv
 . have K:({ Kind:=c.p.Kind,N:=(c.n:Int),Source:=c.p.Source,Length:=c.p.Length,Draws:=c.p.Draws }:Plan)=c.p:=by rw[<-h.pn]
   rw[K];have U:=h2 (by omega);unfold GC.w0 at U;rw[if_neg (by omega),if_neg (by omega),decide_eq_false (by omega)] at U;exact U
end Go.Proofs.YtkbkaodgfedfmaaGreat
