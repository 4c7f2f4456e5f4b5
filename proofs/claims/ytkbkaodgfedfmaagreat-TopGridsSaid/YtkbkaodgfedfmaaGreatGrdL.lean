import Derived.Test.YtkbkaodgfedfmaaGreatGrdI
namespace Go.Proofs.YtkbkaodgfedfmaaGreat
open Go Go.Fw
set_option linter.unusedVariables false
set_option linter.unusedSimpArgs false
variable {c:GC} {g:Gh}
theorem dT {i j:Nat} (hi:i<c.R) (hj:j<c.C):i*c.C+j<c.R*c.C:=by have:(i+1)*c.C<=c.R*c.C:=Nat.mul_le_mul_right _ hi;rw[Nat.succ_mul] at this; omega
theorem aZ (h:c.Ok) {i j:Nat} (d:j<c.C):(i*c.C+j) / c.C=i∧(i*c.C+j) % c.C=j:=by have hC:=h.C1;rw[Nat.mul_comm,Nat.mul_add_div (by omega),Nat.mul_add_mod,Nat.div_eq_of_lt d,Nat.mod_eq_of_lt d];exact⟨Nat.add_zero _,rfl⟩
theorem AkR (h:c.Ok) {i j J d:Nat} (U:j<c.C) (D:d<c.C) (e:i*c.C+j=J*c.C+d):i=J∧j=d:=by have K:=aZ h (i:=i) U; have O:=aZ h (i:=J) D;rw[e] at K;exact⟨K.1.symm.trans O.1,K.2.symm.trans O.2⟩
theorem bA (h:c.Ok) {i j a b:Nat} (hi:i<c.R) (W:j<c.C) (ha:a<c.R) (O:b<c.C) {w:A0} (J:Wst c i j w) {f:AA} (ht:f.To=c.num i j) (V:f.From=c.num a b) {Q:Bool×A0->Prop}
  (hQ:(f.Kind=1->DU w f ⟨a,b⟩ Q)∧(f.Kind=2->DN w f ⟨a,b⟩ Q)∧(f.Kind=3->DP w f ⟨a,b⟩ Q)∧(f.Kind=4->E6 w f ⟨a,b⟩ Q)∧(f.Kind=5->DQ w f ⟨a,b⟩ Q))
  (hk:f.Kind=1∨f.Kind=2∨f.Kind=3∨f.Kind=4∨f.Kind=5):EH w f Q:=by
 have hR:=h.R1; have hC:=h.C1; have hm:=(T_b h).2;have Z:=dT (c:=c) ha O;unfold EH H7;rw[show w.place.i=(i:Int) by rw[J.pl],show w.place.j=(j:Int) by rw[J.pl],show w.grid.i=(c.R:Int) by rw[J.gr],show w.grid.j=(c.C:Int) by rw[J.gr],V];refine WA (by rw[J.gr]) hC (by omega) W (BI (λK=>absurd ht K) λ_=>?_);unfold GC.num;have e1:(c.R:Int)*(c.C:Int)=((c.R*c.C:Nat):Int):=by rw[Int.natCast_mul]
 refine A1 (λK=>by omega) λ_=>A1 (λK=>by rw[e1,AB (by omega) (by omega)] at K; omega) λ_=>?_;have D:I8 c.C:=h.mp.2.2;have U:a*c.C+b<8*c.C:=by have:(a+1)*c.C<=8*c.C:=Nat.mul_le_mul_right _ (by omega); rw[Nat.succ_mul] at this; omega
 refine Z2 D U (UI D U ?_);rw[(aZ h O).1,(aZ h O).2];obtain⟨q1,q2,q3,q4,q5⟩:=hQ;refine AV (λd=>q1 d) λn1=>AV (λd=>q2 d) λn2=>AV (λd=>q3 d) λn3=>AV (λd=>q4 d) λn4=>AV (λd=>q5 d) λn5=>?_;rcases hk with hk | hk | hk | hk | hk <;> contradiction
theorem Aj7 (h:c.Ok) (K:g.Ok c) {f:AA} (hf:g.Pend c f) (n:Int):∃ i j,i<c.R∧j<c.C∧f.To=c.num i j∧∃ g' N,AcE c g g' f N∧(∀ a b,a<c.R->b<c.C->¬(a=i∧b=j)->∀ w,WOk c g a b w->WOk c g' a b w) ∧
   ∀ w,WOk c g i j w->w.out.length<=1000->∀ Q:Bool×A0->Prop,(∀ w',WOk c g' i j w'->w'.out=w.out++N->Q (true,w'))->EH w { f with Seq:=n } Q:=by
 have hR:=h.R1; have hC:=h.C1; have hU:=h.U_b; have hgu:=K.u;have e00:(0:Int)=c.num 0 0:=by unfold GC.num; simp
 rcases hf with⟨i,hi,hu,hO,rfl⟩ | ⟨i,j,hi,O,hO,hu,hS,rfl⟩ | ⟨j,i,O,hi,hc,hE,rfl⟩ | ⟨i,j,hi,O,hE,hA,rfl⟩ | ⟨i,hi,hr,hV,rfl⟩
 . refine⟨i,0,hi,by omega,rfl,_,_,AmH h K hi hu hO,λa b ha hb J w D=>D.congr rfl rfl (λ_ _=>rfl) (λW=>XG λe=>J ⟨e,W⟩) (λ_ _=>rfl) (λ_ _ _=>rfl),λw D hl Q hQ=>?_⟩;exact bA h (a:=0) (b:=0) hi (by omega) (by omega) (by omega) D.st rfl e00 ⟨λd=>absurd d (by decide:¬(5:Int)=1),λd=>absurd d (by decide:¬(5:Int)=2),λd=>absurd d (by decide:¬(5:Int)=3),λd=>absurd d (by decide:¬(5:Int)=4),λ_=>AfX h K hi D hu hO rfl rfl hl hQ⟩ (.inr (.inr (.inr (.inr rfl))))
 . refine⟨0,j,by omega,O,(ZE c j).symm,_,_,AmI h K hi O hO hu hS,λa b ha hb J w D=>D.congr rfl rfl (λha0 k=>MC λe=>J ⟨ha0,e.2⟩) (λ_=>rfl) (λ_ _=>rfl) (λ_ _ _=>rfl),λw D hl Q hQ=>?_⟩;exact bA h (a:=i) (b:=0) (by omega) O hi (by omega) D.st (ZE c j).symm rfl ⟨λ_=>Aj2 h hi O D (by omega) hS rfl rfl hl hQ,λd=>absurd d (by decide:¬(1:Int)=2),λd=>absurd d (by decide:¬(1:Int)=3),λd=>absurd d (by decide:¬(1:Int)=4),λd=>absurd d (by decide:¬(1:Int)=5)⟩ (.inl rfl)
 . have hu':g.u<c.U:=(K.S 0 j (by omega) (of_decide_eq_true hc 0 (by omega))).2
   have hu:1<=g.u:=by
     rcases Nat.eq_zero_or_pos g.u with h0 | h0
     . have:=(K.row_all hi O (K.z h0 i hi).2).2.1; rw[hE] at this; cases this
     . exact h0
   refine⟨i,j,hi,O,rfl,_,_,AmJ h K hi O hc hE,λa b ha hb J w D=>D.congr rfl (MC J) (λ_ _=>rfl) (λ_=>rfl) (λ_ _=>rfl) (λ_ _ _=>rfl),λw D hl Q hQ=>?_⟩;exact bA h (a:=0) (b:=j) hi O (by omega) O D.st rfl (ZE c j).symm ⟨λd=>absurd d (by decide:¬(2:Int)=1),λ_=>AfY h hi O D hu hu' hE rfl rfl hl hQ,λd=>absurd d (by decide:¬(2:Int)=3),λd=>absurd d (by decide:¬(2:Int)=4),λd=>absurd d (by decide:¬(2:Int)=5)⟩ (.inr (.inl rfl))
 . have hc:=K.E i j hi O hE;have hS:=K.S i j hi (of_decide_eq_true hc i hi)
   have hu:1<=g.u:=by
     rcases Nat.eq_zero_or_pos g.u with h0 | h0
     . have:=(K.row_all hi O (K.z h0 i hi).2).1; rw[hA] at this; cases this
     . exact h0
   refine⟨i,0,hi,by omega,rfl,_,_,AmK h K hi O hE hA,λa b ha hb J w D=>D.congr rfl rfl (λ_ _=>rfl) (λ_=>rfl) (λW k=>MC λe=>J ⟨e.1,W⟩) (λ_ _ _=>rfl),λw D hl Q hQ=>?_⟩;exact bA h (a:=i) (b:=j) hi (by omega) hi O D.st rfl rfl ⟨λd=>absurd d (by decide:¬(3:Int)=1),λd=>absurd d (by decide:¬(3:Int)=2),λ_=>Ag1 h hi O D hu hS.2 hS.1 hA rfl rfl hl hQ,λd=>absurd d (by decide:¬(3:Int)=4),λd=>absurd d (by decide:¬(3:Int)=5)⟩ (.inr (.inr (.inl rfl)))
 . have hu':g.u<c.U:=by have hc:=(K.row_all hi (show 0<c.C by omega) hr).2.2;exact(K.S i 0 hi (of_decide_eq_true hc i hi)).2
   rcases Classical.em (∃ k,k<c.R∧GM g.V i k=false) with hno | hall
   . refine⟨0,0,by omega,by omega,e00,_,_,AmL h K hi hr hV hno,λa b ha hb J w D=>D.congr rfl rfl (λ_ _=>rfl) (λ_=>rfl) (λ_ _=>rfl) (λha0 W=>absurd ⟨ha0,W⟩ J),λw D hl Q hQ=>?_⟩;exact bA h (a:=i) (b:=0) (by omega) (by omega) hi (by omega) D.st e00 rfl ⟨λd=>absurd d (by decide:¬(4:Int)=1),λd=>absurd d (by decide:¬(4:Int)=2),λd=>absurd d (by decide:¬(4:Int)=3),λ_=>AeC (f:={ c.fVote g.u i with Seq:=n }) h K hi D hu' hr hV rfl rfl rfl hl (λ_ w' hw' ho=>hQ w' hw' (by rw[ho,List.append_nil])) (λd=>absurd hno λ⟨k,hk,hf⟩=>by rw[d k hk] at hf; cases hf),λd=>absurd d (by decide:¬(4:Int)=5)⟩ (.inr (.inr (.inr (.inl rfl))))
   . have Z:∀ k,k<c.R->GM g.V i k=true:=λk hk=>by
       cases d:GM g.V i k with
       | true=>rfl
       | false=>exact absurd ⟨k,hk,d⟩ hall
     have ha:g.All c:=K.all h λk hk=>by
       by_cases e:k=i
       . rw[e]; exact hr
       . exact K.V k hk (by rw[<-XG (f:=g.V) e]; exact Z k hk)
     refine⟨0,0,by omega,by omega,e00,_,_,Ag3 h K ha hi hV Z,λa b ha' hb J w D=>D.bump h ha ha' hb D.st ⟨rfl,rfl,rfl,rfl,rfl,rfl,rfl,rfl,rfl⟩ (λha0 W=>absurd ⟨ha0,W⟩ J),λw D hl Q hQ=>?_⟩;exact bA h (a:=i) (b:=0) (by omega) (by omega) hi (by omega) D.st e00 rfl ⟨λd=>absurd d (by decide:¬(4:Int)=1),λd=>absurd d (by decide:¬(4:Int)=2),λd=>absurd d (by decide:¬(4:Int)=3),λ_=>AeC (f:={ c.fVote g.u i with Seq:=n }) h K hi D hu' hr hV rfl rfl rfl hl (λd=>absurd d hall) (λ_ w' hw' ho=>hQ w' hw' ho),λd=>absurd d (by decide:¬(4:Int)=5)⟩ (.inr (.inr (.inr (.inl rfl))))
variable {c:GC} {g:Gh}
def smG (f:AA):Prop:=f.Vec.Items.length<=1000∧f.Sums.length<=1000∧f.Triples=[]
theorem AeD (h:c.Ok) {f:AA} (J:g.Pend c f):smG f:=by
 have z:([]:List AM).length<=1000:=by simp
 have D:([]:List B8).length<=1000:=by simp
 rcases J with⟨i,hi,K,V,rfl⟩ | ⟨i,j,hi,d,V,K,hS,rfl⟩ | ⟨j,i,d,hi,hc,U,rfl⟩ | ⟨i,j,hi,d,U,hA,rfl⟩ | ⟨i,hi,hr,hV,rfl⟩
 . exact⟨z,D,rfl⟩
 . exact⟨(h.slice_P g.u hi d).2.2,D,rfl⟩
 . exact⟨(h.piece_P g.u d).2.2,D,rfl⟩
 . refine⟨z,?_,rfl⟩;obtain⟨O,b2,b3⟩:=h.blk_prop g.u hi j;have:=ZD (a:=0) O (by simpa using b3);have:=h.ln_n i hi;show(c.blk g.u i j).length<=1000;omega
 . exact⟨z,D,rfl⟩
theorem AaC {l:List B8} {Q:List B8->Prop} (hl:l.length<=1000000) (d:Q l):CQ l Q:=by unfold CQ;exact M3 (λe=>by subst e; exact d) (AH (by simp; omega) d)
theorem Aj8 {l:List A3} {Q:List A3->Prop} (hl:l.length<=1000000) (d:Q l):CL l Q:=by unfold CL;exact M3 (λe=>by subst e; exact d) (AH (by simp; omega) d)
theorem AkS {f:AA} {Q:AA->Prop} (h:smG f) (d:Q f):WO f Q:=by unfold WO;exact Z3 (by have:=h.1; omega) (AaC (by have:=h.2.1; omega) d)
theorem AeE {f:AA} {Q:AA->Prop} (h:smG f) (d:Q f):YJ f Q:=by unfold YJ;exact Z3 (by have:=h.1; omega) (AaC (by have:=h.2.1; omega) (Aj8 (by rw[h.2.2]; simp) d))
structure Bk (t rm nb:Nat) (x:B4) (l:List AA):Prop where
 room:x.room=rm
 tk:x.taken=t
 sent:x.sent=((t+l.length:Nat):Int)
 nb:t+l.length≤nb
 len:l.length≤rm
 row:x.row=(List.range' t l.length).map fun n:Nat=>(n:Int)
 by_:∀ i (hi:i<l.length),B9 ((t+i:Nat):Int) x.by_=some { l[i] with Seq:=((t+i:Nat):Int) }
 byk:F0 x.by_
 often:∀ n:Nat,B9 (n:Int) x.often=if t≤n∧n<t+l.length then some 1 else none
 oftk:F0 x.often
variable {t rm nb:Nat} {x:B4} {l:List AA}
theorem Bk.le (h:Bk t rm nb x l) {d:Nat} (D:nb<=d):Bk t rm d x l:=⟨h.room,h.tk,h.sent,Nat.le_trans h.nb D,h.len,h.row,h.by_,h.byk,h.often,h.oftk⟩
theorem Bk.rlen (h:Bk t rm nb x l):x.row.length=l.length:=by rw[h.row]; simp
theorem Aj9 (rm nb:Nat):Bk 0 rm nb { room:=(rm:Int),row:=[],by_:=[],often:=[],sent:=0,taken:=0 } []:=
 ⟨rfl,rfl,rfl,by simp,by simp,rfl,λi hi=>by simp at hi,by simp[F0],λn=>by simp[B9],by simp[F0]⟩
theorem AkT (h:Bk t rm nb x l) (hr:rm<=64) (hn:nb<=1000000) {f:AA} (hf:smG f) {Q:Int×B4->Prop} (h1:rm<=l.length->Q (9,x)) (h2:l.length<rm->∀ U,Bk t rm (nb+1) U (l++[f])->Q (0,U)):JQ x f Q:=by
 have d:=h.rlen;obtain⟨room,row,by_,K,sent,O⟩:=x;obtain⟨a1,a2,V,hnb,a5,a6,W,Z,J,D⟩:=h;simp only at a1 a2 V a6 W Z J D d;subst a1 a2 V;unfold JQ NO;simp only[d];refine A1 (λhx=>h1 (by omega)) λhx=>AeE hf ?_;unfold P0;have ho:=J (t+l.length);rw[if_neg (by omega)] at ho;refine AH (by simp only; rw[d]; simp; omega) (HH ?_);simp only[ho,Option.getD_none];refine h2 (by omega) _ ⟨rfl,rfl,?_,by simp; omega,by simp; omega,?_,λi hi=>?_,GQ Z _ _,λn=>?_,GQ D _ _⟩
 . simp only;rw[AB (by omega) (by omega)]; simp; omega
 . simp only;rw[a6,List.length_append,List.length_singleton,List.range'_concat]; simp
 . simp only[List.length_append,List.length_singleton] at hi;by_cases e:i=l.length
   . subst e;simp only[CO]; simp
   . simp only;rw[DJ (by omega),W i (by omega),List.getElem_append_left (by omega)]
 . by_cases e:n=t+l.length
   . subst e;simp only;rw[CO,if_pos (by simp)]; rfl
   . simp only;rw[DJ (by omega),J n];simp only[List.length_append,List.length_singleton];by_cases hc:t<=n∧n<t+l.length
     . rw[if_pos hc,if_pos (by omega)]
     . rw[if_neg hc,if_neg (by omega)]
theorem wL (h:Bk t rm nb x l) {Q:Int->Prop} (d:Q (l.length:Int)):HN x Q:=by unfold HN; rw[h.rlen]; exact d
theorem AcF (h:Bk t rm nb x l) {i:Nat} (hi:i<x.row.length):x.row[i]=((t+i:Nat):Int):=by
 have d:=h.row
 have:x.row[i]? = some ((t+i:Nat):Int):=by rw[d];have:=h.rlen;rw[List.getElem?_map,List.getElem?_range' (by omega)]; simp
 rw[List.getElem?_eq_getElem hi] at this;exact Option.some.inj this
theorem AmM (h:Bk t rm nb x l) (W:l≠[]) (hr:rm<=64) {Q:Int->Prop} (U:Q 0):HF x Q:=by
 have K:0<l.length:=List.length_pos_iff.2 W;have d:=h.rlen; have O:=h.len;unfold HF;refine wL h (AV (λh0=>by omega) λ_=>AmB (λe=>by rw[e] at d; simp at d; omega) (by omega) λm V D=>AiR (by omega) V λi hi J _=>?_);have Z:=D x.row[0] (List.getElem_mem (by omega));rw[AcF h (by omega),<-J,AcF h hi] at Z;have:i=0:=by omega
 rw[this]; exact U
theorem AkU {f:AA} (h:Bk t rm nb x (f :: l)) (hr:rm<=64) (hn:nb<=1000000) (hf:smG f) {Q:AA×Bool×Int×B4->Prop} (hQ:∀ Z,Bk (t+1) rm nb Z l->Q ({ f with Seq:=(t:Int) },true,0,Z)):JR x 0 Q:=by
 have W:=h.rlen; have U:=h.len; have V:=h.nb;simp only[List.length_cons] at W U V;have O:(0:Nat)<x.row.length:=by omega
 have K:x.row[0]=(t:Int):=by rw[AcF h O]; rfl
 have J:=h.by_ 0 (by simp);simp only[Nat.add_zero,List.getElem_cons_zero] at J;have D:=h.often t;rw[if_pos (by simp)] at D;unfold JR QO;refine A1 (λd=>by omega) λ_=>A1 (λd=>by omega) λ_=>BI (λd=>absurd rfl d) λ_=>B3 O ?_;rw[K,h.tk];refine A1 (λd=>by omega) λ_=>?_;unfold P2;refine B3 O (HH ?_);rw[K,J];refine AfQ (i:=0) O (by omega) (HH (HH ?_));rw[CO,D];refine AU rfl (A1 (λd=>?_) λ_=>AeE (f:={ f with Seq:=(t:Int) }) hf (hQ _ ?_))
 . exact absurd (show(t:Int)<x.taken from d) (by rw[h.tk]; omega)
 . refine⟨h.room,?_,?_,by omega,by omega,?_,λi hi=>?_,kZ h.byk _,λn=>?_,kZ (GQ h.oftk _ _) _⟩
   . show A6 (x.taken+1)=_;rw[h.tk,AB (by omega) (by omega)]; simp
   . show x.sent=_;rw[h.sent]; simp; omega
   . show x.row.eraseIdx 0=_;rw[h.row,List.length_cons,List.range'_succ]; simp
   . show B9 _ (F5 _ x.by_)=_;have:=h.by_ (i+1) (by simp; omega);rw[LW (by omega)];have e:t+1+i=t+(i+1):=by omega
     rw[e,this]; simp
   . show B9 _ (F5 _ (DK _ _ x.often))=_;by_cases e:n=t
     . subst e;rw[YD (GQ h.oftk _ _),if_neg (by omega)]
     . rw[LW (by omega),DJ (by omega),h.often n];simp only[List.length_cons];by_cases hc:t<=n∧n<t+(l.length+1)
       . rw[if_pos hc,if_pos (by omega)]
       . rw[if_neg hc,if_neg (by omega)]
def iA (f:List Int) (k:Nat):List Int:=((List.range k).filter λi:Nat=>EV f i).map λi:Nat=>(i:Int)
theorem pY (f:List Int) (k:Nat):iA f (k+1)=iA f k++if EV f k=true then [(k:Int)] else []:=by
 unfold iA;rw[List.range_succ,List.filter_append,List.map_append];congr 1;by_cases h:EV f k=true
 . rw[if_pos h]; simp[List.filter_cons,h]
 . rw[if_neg h]; simp[List.filter_cons,h]
theorem pZ {f:List Int} {a:Nat}:∀ b,a<=b->(∀ m,a<=m->m<b->EV f m=false)->iA f b=iA f a
  | 0, h, _ => by
    have : a = 0 := by omega
    rw[this]
  | b+1,h,hz=>by
    by_cases e:a=b+1
    . rw[e]
    . rw[pY,hz b (by omega) (by omega),if_neg (by simp),List.append_nil];exact pZ b (by omega) λm h1 h2=>hz m h1 (by omega)
theorem Ag4 (f:List Int) (k:Nat):(iA f k).length<=k:=by
 unfold iA;rw[List.length_map];have:=List.length_filter_le (λi:Nat=>EV f i) (List.range k)
 rwa [List.length_range] at this
theorem rL {f:List Int} {Q:List Int->Prop} (hf:lK f) (hl:f.length<=1000000) (hQ:Q (UF f)):SG f Q:=by
 unfold SG K2 II FQ ON;refine AD (s0:=(([]:List Int),(0:Nat))) (λ(s:List Int×Nat) i=>(s.1,i,s.2)) 0 f.length (by omega) (λk s=>s.2=0∧s.1=iA f (64*k)) (by omega) ⟨rfl,rfl⟩ (λk s next _ hk hs hn=>?_) (λs next hs=>?_)
 . obtain⟨s1,s2⟩:=s;obtain⟨d,O⟩:=hs;simp only at d O ⊢;subst d;have V:=YV hf k;refine A1 (λ_=>BE (by omega) (by omega) ?_) (λh=>by omega)
   have esh:shl .i64 (k:Int) 6=64*(k:Int):=by show A6 ((k:Int)*2 ^ 6)=_;rw[AB (by omega) (by omega)]; omega
   rw[esh];refine DC (λs:List Int×Int×Int×Nat=>∃ j:Nat,j<=64∧s.2.2.1=64*k+j∧s.2.1=BD f k / 2 ^ j∧s.2.2.2=0∧s.1=iA f (64*k+j)) (λs=>s.2.1.toNat) ⟨0,by omega,by simp,by simp,rfl,O⟩ ?_;rintro⟨t1,w,at',t4⟩ nx ⟨j,hj,ha,J,h4,W⟩ hnx;simp only at ha J h4 W ⊢;subst h4
   have Z:0<=w∧w<18446744073709551616:=by rw[J];have hp:(0:Int)<2 ^ j:=Int.pow_pos (by omega);exact⟨Int.ediv_nonneg V.1 (Int.le_of_lt hp),Int.lt_of_le_of_lt (Int.ediv_le_self _ V.1) V.2⟩
   have e1:A6 (at'+1)=64*(k:Int)+((j+1:Nat):Int):=by rw[ha,AB (by omega) (by omega)]; omega
   refine BI (λhne=>?_) (λhe=>?_)
   . have U:j<64:=by
       rcases Nat.lt_or_ge j 64 with h | h
       . exact h
       . have:j=64:=by omega
         subst this;exfalso; apply hne; rw[J];exact Int.ediv_eq_zero_of_lt V.1 V.2
     have D:=yW hf U J;have ec:((64*k+j:Nat):Int)=64*(k:Int)+j:=by omega
     have K:=pY f (64*k+j);rw[ec] at K;rw[AdL Z.1 Z.2,AdM,e1];have hlen:=Ag4 f (64*k+j);refine AV (λd=>⟨rfl,AH (by subst W; simp; omega) (AC rfl (hnx _ ⟨j+1,by omega,rfl,aU J,rfl,?_⟩ (by simp only; omega)))⟩) (λd=>hnx _ ⟨j+1,by omega,rfl,aU J,rfl,?_⟩ (by simp only; omega))
     . rw[show 64*k+(j+1)=64*k+j+1 by omega,K,if_pos (D.2 d),W,ha]
     . rw[show 64*k+(j+1)=64*k+j+1 by omega,K,if_neg (λh=>d (D.1 h)),W,List.append_nil]
   . refine hn (_,0) ⟨rfl,?_⟩;show t1=_;rw[W,show 64*(k+1)=64*k+64 by omega];refine(pZ _ (by omega) λm d O=>?_).symm;obtain⟨q,rfl⟩:∃ q,m=64*k+q:=⟨m - 64*k,by omega⟩;have:=sX hf (j:=j) (k:=q) (by omega) (by omega) J he;rw[show((64*k+q:Nat):Int)=64*(k:Int)+q by omega];exact this
 . obtain⟨s1,s2⟩:=s;obtain⟨d,O⟩:=hs;simp only at d O ⊢;subst d;refine A1 (λh=>by omega) (λ_=>⟨rfl,?_⟩);show Q s1;rw[O]; exact hQ
variable {c:GC} {g:Gh}
theorem WB {p:Nat} {A:Prop} {B:Nat->Prop} (h:B p):nP (some p) A B:=⟨(λe=>nomatch e),λb e=>by cases e; exact h⟩
theorem AaD (h:c.Ok) {o:A4} {ws:A2} {ad:Nat->Nat} (ho:o.owners=(List.range c.R).map λi=>some (ad (i*c.C))) (hN:o.setup.Plan.N=c.n) {k:Nat}
   (hw:∀ i,i<c.R->∃ w,B9 (ad (i*c.C)) ws=some w∧w.has=c.sg k i) {Q:State->Prop} (K:Q (CN 0 c.n (c.G k))):FM o ws Q:=by
 have hR:=h.R1; have hn4:=h.n4;unfold FM;have hol:o.owners.length=c.R:=by rw[ho]; simp
 refine AD (λ(s:List Int×List Int×List Int) i=>(s.1,s.2.1,s.2.2,i)) 0 c.R (by omega) (λi s=>s=(QQ (c.ls i) λv=>(c.G k v).1,QQ (c.ls i) λv=>(c.G k v).2.1,LM (c.ls i) λv=>(c.G k v).2.2)) (by omega) (by unfold GC.ls; rw[Aa8]; rfl) (λi s next _ hi W hn=>?_) (λs next W=>?_) (s0:=([],[],[]))
 . subst W;dsimp only;obtain⟨w,Z,hw2⟩:=hw i hi;have hln:=h.ln_n i hi; have hls:=h.ls_n hi; have O:=h.ls_ln i;refine A1 (λ_=>AK (by omega) (x:=some (ad (i*c.C))) (by rw[ho]; simp[hi]) ?_) (λh'=>by omega);unfold G3 HM;refine WB ⟨w,Z,?_⟩;dsimp only;rw[hw2];have lA:(c.sg k i).A.length=c.ln i:=QC _ _;have lB:(c.sg k i).B.length=c.ln i:=QC _ _;have U:lK (c.sg k i).On:=(HP _ _).1
   have lO:(c.sg k i).On.length<=1000000:=by have:(c.sg k i).On.length=JC (c.ln i):=(HP _ _).2.1;have:=YW (c.ln i); omega
   refine PB (by omega) (PB (by omega) (dN lO (AH (by rw[QC,lA]; omega) (AH (by rw[QC,lB]; omega) (rL U lO ?_)))));have d:UF (c.sg k i).On=LM (c.ln i) λa=>(c.G k (c.ls i+a)).2.2:=AiH (by omega) _;rw[d];have hol':=T2 (c.ln i) λa=>(c.G k (c.ls i+a)).2.2;have D:=T2 (c.ls i) λv=>(c.G k v).2.2;refine AiI (xs:=LM (c.ln i) λa=>(c.G k (c.ls i+a)).2.2) (f:=λx:Int=>x+(c.ls i:Int)) (by omega) (λq s nx hq hsl V=>?_) (λnx=>?_)
   . have hin:=aW (List.getElem_mem hq);have e:(c.sg k i).Low=(c.ls i:Int):=rfl;refine A1 (λ_=>B3 hq (AH (by simp; omega) ?_)) (λh'=>by omega);simp only[e];rw[AB (x:=(c.ls i:Int)+_) (by omega) (by omega),Int.add_comm];exact V
   . refine A1 (λh'=>by omega) λ_=>hn (_,_,_) ?_;show(_++QQ (c.ln i) (λa=>(c.G k (c.ls i+a)).1),_++QQ (c.ln i) (λa=>(c.G k (c.ls i+a)).2.1),_)=_;rw[<-zN,<-zN,<-AiF,O]
 . subst W;have J:c.ls c.R=c.n:=mY _ hR.1;dsimp only;rw[J,hN];have D:=T2 c.n λv=>(c.G k v).2.2;refine A1 (λh'=>by omega) λ_=>UE (by omega) (λx hx=>by have:=aW hx; unfold EZ; omega) ?_;unfold CN chS at K;simp only[Nat.zero_add] at K;exact K
theorem AmN (h:c.Ok) (g:Gh):∃ i,i<c.R∧g.rnd c i≠g.nh c:=by
 have hR:=h.R1;unfold Gh.nh Gh.rnd;by_cases h1:g.u<=1
 . refine⟨0,by omega,?_⟩;rw[if_pos h1]; split <;> (try split) <;> omega
 . rw[if_neg h1];rcases Classical.em (∀ i,i<c.R->g.O i=true) with D | D
   . refine⟨0,by omega,?_⟩;rw[if_pos (D 0 (by omega))];by_cases h3:c.st (g.u - 1)=3
     . rw[if_pos h3,if_neg (c:=(∀ i,i<c.R->g.O i=true)∧c.st (g.u - 1)≠3) λd=>d.2 h3]; omega
     . rw[if_neg h3,if_pos (c:=(∀ i,i<c.R->g.O i=true)∧c.st (g.u - 1)≠3) ⟨D,h3⟩]; omega
   . rw[if_neg (c:=(∀ i,i<c.R->g.O i=true)∧c.st (g.u - 1)≠3) λd=>D d.1];rcases Classical.em (∃ i,i<c.R∧g.O i=false) with⟨i,hi,J⟩ | d
     . refine⟨i,hi,?_⟩;rw[if_neg (by rw[J]; simp)]; omega
     . exact absurd (λi hi=>by cases hb:g.O i with | true=>rfl | false=>exact absurd ⟨i,hi,hb⟩ d) D
def GC.hist (c:GC) (n:Nat):List State:=(List.range n).map λk=>CN 0 c.n (c.G k)
theorem AeF (h:c.Ok) (hg:g.Ok c) {o:A4} {ws:A2} {ad:Nat->Nat} (Z:o.owners=(List.range c.R).map λi=>some (ad (i*c.C))) (hN:o.setup.Plan.N=c.n)
   (hw:∀ i,i<c.R->∃ w,B9 (ad (i*c.C)) ws=some w∧w.round=(g.rnd c i:Int)∧w.has=c.sg (g.rnd c i) i) {n:Nat} (U:o.history=c.hist n) (hn:g.nh c=n∨g.nh c=n+1∧∀ i,i<c.R->g.rnd c i=n)
   {Q:A4->Prop} (K:Q { o with history:=c.hist (g.nh c) }):F3 o ws Q:=by
 have hR:=h.R1; have hU:=h.U_b; have hgu:=hg.u;have hol:o.owners.length=c.R:=by rw[Z]; simp
 have J:o.history.length=n:=by rw[U]; simp[GC.hist]
 have hn50:n<=50:=by
   have:g.nh c<=50:=by unfold Gh.nh; split <;> (try split) <;> omega
   rcases hn with e | ⟨e,_⟩ <;> omega
 unfold F3;refine CM c.R (by omega) (λi=>∀ k,k<i->g.rnd c k=n) (λk hk=>by omega) (λi next hi O V=>?_) (λnext O=>?_)
 . obtain⟨w,W,w2,w3⟩:=hw i hi;refine A1 (λ_=>AK (by omega) (x:=some (ad (i*c.C))) (by rw[Z]; simp[hi]) ?_) (λh'=>by omega);unfold G2 HL;refine WB ⟨w,W,?_⟩;dsimp only;rw[w2,J];refine BI (λd=>?_) λhe=>V λk hk=>?_
   . rcases hn with e | ⟨e,D⟩
     . rw[e,<-U] at K; exact K
     . exact absurd (by rw[D i hi]) d
   . by_cases e:k=i
     . rw[e]; omega
     . exact O k (by omega)
 . refine A1 (λh'=>by omega) λ_=>AaD h Z hN (k:=n) (λi hi=>?_) (AH (by rw[J]; simp; omega) ?_)
   . obtain⟨w,W,w2,w3⟩:=hw i hi;exact⟨w,W,by rw[w3,O i hi]⟩
   . rcases hn with e | ⟨e,_⟩
     . obtain⟨i,hi,d⟩:=AmN h g;exact absurd ((O i hi).trans e.symm) d
     . rw[U];have:c.hist (g.nh c)=c.hist n++[CN 0 c.n (c.G n)]:=by rw[e]; unfold GC.hist; rw[List.range_succ,List.map_append]; rfl
       rw[this] at K; exact K
end Go.Proofs.YtkbkaodgfedfmaaGreat
