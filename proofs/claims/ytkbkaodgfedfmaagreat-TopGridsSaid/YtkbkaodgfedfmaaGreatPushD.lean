import Derived.Test.YtkbkaodgfedfmaaGreatBaseA
namespace Go.Proofs.YtkbkaodgfedfmaaGreat
open Go Go.Fw
set_option linter.unusedVariables false
set_option linter.unusedSimpArgs false
def lK (f:List Int):Prop:=∀ x∈f,0<=x∧x<18446744073709551616
def EV (f:List Int) (i:Int):Bool:=decide (0<=i) && (BD f (i / 64)).toNat.testBit (i % 64).toNat
theorem yS {f:List Int} {i:Int} (h:(f.length:Int)<=i):BD f i=0:=by unfold BD;rw[List.getD_eq_getElem?_getD,List.getElem?_eq_none (by omega)]; rfl
theorem YV {f:List Int} (h:lK f) (i:Int):0<=BD f i∧BD f i<18446744073709551616:=by
 by_cases e:i.toNat<f.length
 . have:BD f i=f[i.toNat]:=by simp[BD,List.getD_eq_getElem?_getD,e]
   rw[this]; exact h _ (List.getElem_mem e)
 . have:BD f i=0:=by unfold BD; rw[List.getD_eq_getElem?_getD,List.getElem?_eq_none (by omega)]; rfl
   rw[this]; omega
theorem S0 {f:List Int} {i:Int} (h:64*(f.length:Int)<=i):EV f i=false:=by unfold EV; rw[yS (by omega)]; simp
theorem VY {f:List Int} {i:Int} (h:i<0):EV f i=false:=by unfold EV; simp[show ¬0<=i by omega]
theorem AdI {f:List Int} {i:Int} (h:EV f i=true):0<=i∧i<64*(f.length:Int):=by
 rcases Int.lt_or_le i 0 with D | D
 . rw[VY D] at h; cases h
 . rcases Int.lt_or_le i (64*(f.length:Int)) with d | d
   . exact⟨D,d⟩
   . rw[S0 d] at h; cases h
theorem AjZ (i:Int):shr .i64 i 6=i / 64:=by unfold shr;rw[Int.fdiv_eq_ediv_of_nonneg _ (by decide)]; rfl
theorem lL {f:List Int} {i:Int} {Q:Bool->Prop} (d:Q (decide (0<=i∧i / 64<f.length))):N8 f i Q:=by
 unfold N8;rw[AjZ];refine A1 (λh=>?_) (λh=>?_)
 . simpa[h] using d
 . simpa[h] using d
theorem AlV (k:Nat):(2:Int) ^ k=((2 ^ k:Nat):Int):=by rw[Int.natCast_pow]; rfl
theorem AhG {k:Nat} (hk:k<64):(2:Nat) ^ k<18446744073709551616:=Nat.pow_lt_pow_right (n:=64) (a:=2) (by omega) hk
theorem Ak0 {k:Nat} (hk:k<64):shl .u64 1 k=((2 ^ k:Nat):Int):=by rw[AhE _ (by omega),Int.one_mul,AlV];have hp:=AhG hk;generalize 2 ^ k=p at *;omega
theorem AlW (x k:Nat):x &&& 2 ^ k=if x.testBit k then 2 ^ k else 0:=by
 apply Nat.eq_of_testBit_eq;intro j;rw[Nat.testBit_and,Nat.testBit_two_pow];by_cases e:k=j
 . subst e;cases h:x.testBit k
   . simp
   . simp[Nat.testBit_two_pow]
 . cases h:x.testBit k
   . simp[e]
   . simp[e,Nat.testBit_two_pow]
theorem AhH {i:Int} {Q:Int->Prop} (D:0<=i) (h:i<18446744073709551616) (d:Q ((2 ^ (i % 64).toNat:Nat):Int)):VM i Q:=by
 unfold VM
 have e:XQ .u64 (IntKind.wrap .u64 i) 63=(((i % 64).toNat:Nat):Int):=by rw[X0,show i % 18446744073709551616=i by omega,vD D h (by omega) (by omega)];congr 1;rw[show Int.toNat 63=2 ^ 6 - 1 from rfl,Nat.and_two_pow_sub_one_eq_mod];omega
 rw[e];refine⟨by omega,?_⟩;rw[Ak0 (by omega)]; exact d
theorem KT {f:List Int} {i:Int} {Q:Bool->Prop} (O:lK f) (hi:EZ i) (d:Q (EV f i)):KP f i Q:=by
 unfold KP;unfold EZ at hi;refine lL ⟨λh=>?_,λh=>?_⟩
 . have h:=of_decide_eq_true h;rw[AjZ];have J:=YV O (i / 64);refine BE (by omega) h.2 (AhH h.1 (by omega) ?_);have hp:=AhG (k:=(i % 64).toNat) (by omega);have e:EV f i=(BD f (i / 64)).toNat.testBit (i % 64).toNat:=by unfold EV; simp[h.1]
   rw[e] at d;have D:0<(2:Nat) ^ (i % 64).toNat:=Nat.pow_pos (by omega);have V:=AlW (BD f (i / 64)).toNat (i % 64).toNat;generalize (i % 64).toNat=k at *;rw[vD J.1 J.2 (Int.natCast_nonneg _) (by generalize 2 ^ k=p at *; omega),Int.toNat_natCast,V]
   cases hb:(BD f (i / 64)).toNat.testBit k with
   | false=>rw[hb] at d; simpa using d
   | true=>
    rw[hb] at d
    have U:(((if (true:Bool)=true then 2 ^ k else 0:Nat):Int) != 0)=true:=by rw[if_pos rfl,bne_iff_ne];generalize 2 ^ k=p at *; omega
    rw[U]; exact d
 . have h:=of_decide_eq_false h
   have e:EV f i=false:=by
    rcases Int.lt_or_le i 0 with K | K
    . exact VY K
    . exact S0 (by omega)
   rw[e] at d; exact d
def JC (n:Int):Nat:=((if 4096<(if n<0 then 0 else n) then 4096 else (if n<0 then 0 else n))+63).toNat / 64
def qX (n:Int):List Int:=List.replicate (JC n) 0
theorem YW (n:Int):JC n<=64:=by unfold JC; split <;> split <;> omega
theorem yT {n i:Int} (h0:0<=i) (hn:i<n) (h:i<4096):i / 64<JC n:=by unfold JC; split <;> split <;> omega
theorem Af2 {n i:Int} (d:i / 64<JC n):i<4096:=by unfold JC at d; split at d <;> split at d <;> omega
theorem Ak1 (n:Int):lK (qX n):=by intro x d; rw[qX,List.mem_replicate] at d; omega
theorem AhI (n i:Int):EV (qX n) i=false:=by
 have:∀ k,BD (qX n) k=0:=by intro k; unfold BD qX;rw[List.getD_eq_getElem?_getD,List.getElem?_replicate]; split <;> rfl
 unfold EV; rw[this]; simp
theorem YX {n:Int} {Q:Int->Prop} (d:Q (JC n)):PX n Q:=by
 unfold PX;rw[AjZ]
 have e:A6 ((if 4096<(if 0 > n then 0 else n) then 4096 else (if 0 > n then 0 else n))+63) / 64=(JC n:Int):=by unfold JC;rw[KA];split <;> split <;> omega
 rw[e]; exact d
theorem gD {n:Int} {Q:List Int->Prop} (d:Q (qX n)):OI n Q:=by unfold OI;refine YX ⟨by omega,by have:=YW n; omega,?_⟩;simpa[qX] using d
def vE (f:List Int) (i:Int):List Int:=if 0<=i∧i / 64<f.length then f.set (i / 64).toNat (((BD f (i / 64)).toNat ||| 2 ^ (i % 64).toNat:Nat):Int) else f
theorem AhJ (f:List Int) (i:Int):(vE f i).length=f.length:=by unfold vE; split <;> simp
theorem Ak2 {f:List Int} (h:lK f) (i:Int):lK (vE f i):=by
 unfold vE;split
 . intro x d;rcases List.mem_or_eq_of_mem_set d with d | d
   . exact h x d
   . have hb:=YV h (i / 64);have hp:(2:Nat) ^ (i % 64).toNat<2 ^ 64:=Nat.pow_lt_pow_right (by omega) (by omega);have:=Nat.or_lt_two_pow (x:=(BD f (i / 64)).toNat) (y:=2 ^ (i % 64).toNat) (n:=64) (by omega) hp;omega
 . exact h
theorem AhK {f:List Int} (i j:Int):EV (vE f i) j=if j=i∧0<=i∧i / 64<f.length then true else EV f j:=by
 unfold vE;by_cases hc:0<=i∧i / 64<f.length
 . rw[if_pos hc];rcases Int.lt_or_le j 0 with D | D
   . rw[VY D,if_neg (by omega),VY D]
   . have d:∀ v:Int,BD (f.set (i / 64).toNat v) (j / 64)=if j / 64=i / 64 then v else BD f (j / 64):=by
       intro v;unfold BD;rw[List.getD_eq_getElem?_getD,List.getD_eq_getElem?_getD];by_cases e:j / 64=i / 64
       . rw[if_pos e,e,List.getElem?_set_self (by omega)]; rfl
       . rw[if_neg e,List.getElem?_set_ne (by omega)]
     unfold EV;rw[d];by_cases e:j / 64=i / 64
     . rw[if_pos e,Int.toNat_natCast,Nat.testBit_or,Nat.testBit_two_pow,e];by_cases e2:j=i
       . subst e2; simp[hc,D]
       . have:¬(i % 64).toNat=(j % 64).toNat:=by omega
         simp[e2,this]
     . rw[if_neg e,if_neg (by intro h; exact e (by rw[h.1]))]
 . rw[if_neg hc,if_neg (λh=>hc h.2)]
def lM (n:Int) (l:List Int):List Int:=l.foldl (λf i=>if 0<=i∧i<n∧i<4096 then vE f i else f) (qX n)
theorem yU (n:Int) (l:List Int) (i:Int):lM n (l++[i])=if 0<=i∧i<n∧i<4096 then vE (lM n l) i else lM n l:=by simp[lM]
theorem HP (n:Int) (l:List Int):lK (lM n l)∧(lM n l).length=JC n∧∀ j,EV (lM n l) j=decide (j∈l∧0<=j∧j<n∧j<4096):=by
 suffices H:∀ k,k<=l.length->lK (lM n (l.take k))∧(lM n (l.take k)).length=JC n∧∀ j,EV (lM n (l.take k)) j=decide (j∈l.take k∧0<=j∧j<n∧j<4096) by have:=H l.length (by omega); rwa [List.take_length] at this
 intro k
 induction k with
 | zero=>intro _; exact⟨Ak1 n,by simp[lM,qX],λj=>by simp[lM,AhI]⟩
 | succ k W=>
  intro hk;obtain⟨O,D,K⟩:=W (by omega);rw[List.take_succ_eq_append_getElem (by omega),yU];split
  . rename_i d;refine⟨Ak2 O _,by rw[AhJ,D],λj=>?_⟩;rw[AhK,D,K];have V:=yT d.1 d.2.1 d.2.2;by_cases e:j=l[k]
    . subst e;rw[if_pos ⟨rfl,d.1,V⟩];exact(decide_eq_true ⟨List.mem_append.2 (.inr (by simp)),d⟩).symm
    . rw[if_neg (λh=>e h.1)];refine decide_eq_decide.2 ?_;rw[List.mem_append,List.mem_singleton];simp only[e,or_false]
  . rename_i d;refine⟨O,D,λj=>?_⟩;rw[K];refine decide_eq_decide.2 ?_;rw[List.mem_append,List.mem_singleton];by_cases e:j=l[k]
    . subst e;constructor
      . rintro⟨U,J⟩; exact⟨.inl U,J⟩
      . rintro⟨_,J⟩; exact absurd J d
    . simp only[e,or_false]
theorem UE {n:Int} {l:List Int} {Q:List Int->Prop} (hl:l.length<=1000000000) (hi:∀ x∈l,EZ x) (Z:Q (lM n l)):K1 n l Q:=by
 unfold K1;refine gD (AD (λ(s:List Int) i=>(s,i)) 0 l.length (by omega) (λk s=>s=lM n (l.take k)) (by omega) (by simp[lM]) (λk s next _ hk K V=>?_) (λs next K=>?_))
 . subst K;have d:=yU n (l.take k) l[k];rw[<-List.take_succ_eq_append_getElem hk] at d;obtain⟨W,p2,_⟩:=HP n (l.take k);have O:=hi _ (List.getElem_mem hk);unfold EZ at O;refine A1 (λ_=>B3 hk ?_) (λh=>by omega);refine BP (λb=>b=decide (l[k]<n∧0<=l[k]∧l[k] / 64<JC n)) ?_ ?_
   . rintro b rfl;refine A1 (λh=>?_) (λh=>V _ ?_)
     . rw[AjZ];refine BE (by omega) (by rw[p2]; omega) (AhH h.2.1 (by omega) (BE (by omega) (by rw[p2]; omega) (V _ ?_)));have U:=YV W (l[k] / 64);have hp:=AhG (k:=(l[k] % 64).toNat) (by omega);rw[d,if_pos ⟨h.2.1,h.1,Af2 h.2.2⟩,vE,if_pos ⟨h.2.1,by rw[p2]; exact h.2.2⟩,AdH U.1 U.2 (Int.natCast_nonneg _) (by generalize 2 ^ (l[k] % 64).toNat=p at *; omega),Int.toNat_natCast]
     . rw[d,if_neg];intro J;exact h ⟨J.2.1,J.1,yT J.1 J.2.1 J.2.2⟩
   . intro k' D;refine A1 (λh=>lL (D _ ?_)) (λh=>D _ ?_)
     . rw[p2]; simp[h]
     . simp[h]
 . subst K;refine A1 (λh=>by omega) (λ_=>?_);rw[List.take_length]; exact Z
def UF (f:List Int):List Int:=((List.range (64*f.length)).filter λi:Nat=>EV f i).map λi:Nat=>(i:Int)
theorem S1 {f:List Int} {i:Int}:i∈UF f↔EV f i=true:=by
 unfold UF;simp only[List.mem_map,List.mem_filter,List.mem_range];constructor
 . rintro⟨k,⟨_,h⟩,rfl⟩; exact h
 . intro h;obtain⟨d,h2⟩:=AdI h;exact⟨i.toNat,⟨by omega,by rw[Int.toNat_of_nonneg d]; exact h⟩,by omega⟩
theorem oS (f:List Int):(UF f).Pairwise (· < ·):=by unfold UF;rw[List.pairwise_map];exact List.Pairwise.imp (λh=>by omega) (List.Pairwise.filter _ List.pairwise_lt_range)
def YY (f:List Int) (n:Int):Prop:=(0<=n∧n<=4096)∧f.length=JC n∧∀ i∈UF f,i<n
instance (f:List Int) (n:Int):Decidable (YY f n):=by unfold YY; infer_instance
theorem sS {n:Int} (h:0<=n∧n<=4096) (l:List Int):YY (lM n l) n:=by obtain⟨h1,D,d⟩:=HP n l;refine⟨h,D,λi hi=>?_⟩;rw[S1,d] at hi;exact(of_decide_eq_true hi).2.2.1
theorem AhL {n:Int} {l:List Int} (h:n<=4096) (U:l.Pairwise (· < ·)) (hi:∀ i∈l,0<=i∧i<n):UF (lM n l)=l:=by
 have d:∀ {l J:List Int} (h:l.Pairwise (· < ·)) (K:J.Pairwise (· < ·)) (O:∀ x,x∈l↔x∈J),l=J:=λh K O=>
   aO ((List.perm_ext_iff_of_nodup (h.imp λh e=>by omega) (K.imp λh e=>by omega)).2 O) h K λa b _ _ h1 h2=>by omega
 refine d (oS _) U λx=>?_;rw[S1,(HP n l).2.2];constructor
 . intro D; exact(of_decide_eq_true D).1
 . intro D; have:=hi x D; exact decide_eq_true ⟨D,this.1,this.2,by omega⟩
def IncI (l:List AM):Prop:=l.Pairwise λa b=>a.At<b.At
instance (l:List AM):Decidable (IncI l):=by unfold IncI; infer_instance
structure VecP (v:Vec):Prop where
 n0:0≤v.N
 n1:v.N≤4096
 inc:IncI v.Items
 ins:∀ x∈v.Items,0≤x.At∧x.At<v.N
instance (v:Vec):Decidable (VecP v):=decidable_of_iff (0<=v.N∧v.N<=4096∧IncI v.Items∧∀ x∈v.Items,0<=x.At∧x.At<v.N) ⟨λ⟨a,b,c,d⟩=>⟨a,b,c,d⟩,λ⟨a,b,c,d⟩=>⟨a,b,c,d⟩⟩
def zV:Vec:=⟨0,[]⟩
theorem An4:VecP zV:=⟨by decide,by decide,.nil,by simp[zV]⟩
def FF (v:Vec):Vec:=if VecP v then v else zV
theorem Q8 (v:Vec):VecP (FF v):=by unfold FF; split <;> first | assumption | exact An4
theorem HQ {v:Vec} (h:VecP v):FF v=v:=if_pos h
theorem Ak3 {l:List AM} (h:∀ (i:Nat) (hi:i+1<l.length),l[i].At<l[i+1].At):IncI l:=by
 unfold IncI;rw[List.pairwise_iff_getElem];intro i j hi hj K;obtain⟨d,rfl⟩:∃ d,j=i+1+d:=⟨j - i - 1,by omega⟩
 induction d with
 | zero=>exact h i (by omega)
 | succ d D=>have O:=D (by omega) (by omega); have J:=h (i+1+d) (by omega); exact Int.lt_trans O J
theorem IncI.at {l:List AM} (h:IncI l) {i j:Nat} (D:j<l.length) (d:i<j):(l[i]'(by omega)).At<l[j].At:=by unfold IncI at h; rw[List.pairwise_iff_getElem] at h; exact h i j (by omega) D d
theorem AhM {l:List AM} (h:IncI l) {n:Int} (D:0<=n) (hi:∀ x∈l,0<=x.At∧x.At<n):(l.length:Int)<=n:=by
 have:∀ k (hk:k<l.length),(k:Int)<=l[k].At:=by
   intro k
   induction k with
   | zero=>intro hk; exact(hi _ (List.getElem_mem hk)).1
   | succ k d=>intro hk; have:=d (by omega); have:=h.at hk (i:=k) (by omega); omega
 rcases Nat.eq_zero_or_pos l.length with e | e
 . rw[e]; exact D
 . have h1:=this (l.length - 1) (by omega);have h2:=hi _ (List.getElem_mem (show l.length - 1<l.length by omega));omega
theorem VecP.len {v:Vec} (h:VecP v):v.Items.length<=4096:=by have:=AhM h.inc h.n0 h.ins; have:=h.n1; omega
theorem mF {x y:Int} {Q:Bool->Prop} (d:Q (decide (0<=x∧x<=y))):RG x y Q:=by
 unfold RG;refine A1 (λh=>?_) (λh=>?_)
 . simpa[h] using d
 . simpa[h] using d
theorem EI {v:Vec} {Q:Bool->Prop} (hl:v.Items.length<=1000000000) (hQ:Q (decide (VecP v))):EN v Q:=by
 unfold EN;have D:¬VecP v->Q false:=λh=>by rwa [decide_eq_false h] at hQ
 have O:VecP v->Q true:=λh=>by rwa [decide_eq_true h] at hQ
 refine mF (BK (λh=>D λh'=>of_decide_eq_false h ⟨h'.n0,h'.n1⟩) (λh=>?_));have h:=of_decide_eq_true h;unfold CR DF;refine AD (s0:=(-1:Int)) (λ(s:Int) i=>(s,i)) 0 v.Items.length (by omega) (λk s=>(∀ (i:Nat) (hi:i+1<v.Items.length),i+1<k->v.Items[i].At<v.Items[i+1].At)∧(∀ i (hi:i<v.Items.length),i<k->0<=v.Items[i].At∧v.Items[i].At<v.N)∧(k=0->s = -1)∧(∀ (hk:0<k) (hl:k<=v.Items.length),s=(v.Items[k - 1]'(by omega)).At)) (by omega) ⟨λi _ h=>by omega,λi _ h=>by omega,λ_=>rfl,λh=>by omega⟩ (λk s next _ hk hs hn=>?_) (λs next hs=>?_)
 . obtain⟨h1,W,h3,Z⟩:=hs;refine A1 (λ_=>B3 hk ?_) (λh=>by omega);unfold NA
   have bad:¬VecP v->(λJ:Bool×Int=>A8 J.1 ((λU:Int×Int=>(λr26:Bool×Int=>Q (!r26.1)) (decide (0<=U.1),U.2)) ((k:Int),J.2)) (next (J.2,A6 ((k:Int)+1)))) (true,v.Items[k].At):=by intro hn';refine AU rfl ?_;simp only[show decide ((0:Int)<=(k:Int))=true by simp];exact D hn'
   refine A1 (λd=>bad λV=>?_) (λd=>?_)
   . rcases Nat.eq_zero_or_pos k with e | e
     . subst e;rw[h3 rfl] at d;have:=(V.ins _ (List.getElem_mem hk)).1; omega
     . rw[Z e (by omega)] at d;have:=V.inc.at hk (i:=k - 1) (by omega); omega
   . refine⟨λK=>?_,λK=>hn _ ⟨λi hi hik=>?_,λi hi hik=>?_,λh=>by omega,λ_ _=>by simp⟩⟩
     . have K:=of_decide_eq_true K;simp only[show decide ((0:Int)<=(k:Int))=true by simp];exact D λV=>by have:=(V.ins _ (List.getElem_mem hk)).2; omega
     . by_cases e:i+1=k
       . subst e; rw[Z (by omega) (by omega)] at d; simp only[Nat.add_sub_cancel] at d; omega
       . exact h1 i hi (by omega)
     . have K:=of_decide_eq_false K;by_cases e:i=k
       . subst e;refine⟨?_,by omega⟩;rcases Nat.eq_zero_or_pos i with e | e
         . rw[h3 e] at d; omega
         . rw[Z e (by omega)] at d;have:=(W (i - 1) (by omega) (by omega)).1; omega
       . exact W i hi (by omega)
 . obtain⟨h1,W,h3,Z⟩:=hs;refine A1 (λh=>by omega) (λ_=>?_);simp only[show decide ((0:Int) <= -1)=false by decide];refine O ⟨h.1,h.2,Ak3 λi hi=>h1 i hi (by omega),λx hx=>?_⟩;obtain⟨i,hi,rfl⟩:=List.mem_iff_getElem.1 hx;exact W i hi hi
theorem LK {v:Vec} {Q:Vec->Prop} (D:v.Items.length<=1000000000) (d:Q (FF v)):K3 v Q:=by
 unfold K3;unfold FF at d;refine EI D (A1 (λh=>?_) (λh=>?_))
 . rwa [if_pos h] at d
 . rwa [if_neg h] at d
theorem yV {α β:Type} {xs:List α} {f:α->β} {h:List β×Int->(List β×Int->Prop)->Prop} (hl:xs.length<=1000000000)
   (D:∀ (i:Nat) (s:List β) (next:List β×Int->Prop) (hi:i<xs.length),s.length=i->(next (s++[f xs[i]],A6 ((i:Int)+1)))->h (s,(i:Int)) next)
   (J:∀ (next:List β×Int->Prop) s,s=xs.map f->h (s,(xs.length:Int)) next):AW h ([],0):=by
 refine AD (λ(s:List β) i=>(s,i)) 0 xs.length (by omega) (λk s=>s=(xs.take k).map f) (by omega) (by simp) (λk s next _ hk d K=>?_) (λs next d=>?_)
 . refine D k s next hk (by subst d; simp; omega) (K _ ?_);subst d;rw[List.take_succ_eq_append_getElem hk,List.map_append]; rfl
 . rw[List.take_length] at d;exact J next s d
def UG (v:Vec):List Int:=(FF v).Items.map (·.At)
theorem XV {v:Vec} {Q:List Int->Prop} (J:v.Items.length<=1000000000) (O:Q (UG v)):ND v Q:=by unfold ND;have D:=(Q8 v).len;refine LK J (yV (xs:=(FF v).Items) (f:=(·.At)) (by omega) (λi s next hi d K=>A1 (λ_=>B3 hi (AH (by simp; omega) K)) (λh=>by omega)) (λnext s d=>A1 (λh=>by omega) (λ_=>?_)));subst d; exact O
def kvI (x:AM):Int×Int:=(x.At,x.Val)
def FW (l:List AM) (i:Int):Option Int:=B9 i (l.map kvI)
theorem LL (s:AM) (l:List AM) (i:Int):FW (s :: l) i=if i=s.At then some s.Val else FW l i:=rfl
theorem Q9:∀ {l:List AM} {i:Int},(∀ s∈l,s.At≠i)->FW l i=none
 | [],_,_=>rfl
 | s :: l,i,h=>by rw[LL,if_neg (λe=>h s (by simp) e.symm)]; exact Q9 λx d=>h x (by simp[d])
theorem X6:∀ {l:List AM} {i:Int} {v:Int},FW l i=some v->⟨i,v⟩∈l
 | s :: l,i,v,h=>by
  rw[LL] at h;split at h
  . rename_i e; cases h; subst e; simp
  . exact List.mem_cons_of_mem _ (X6 h)
theorem UH:∀ {l:List AM} (h:IncI l) {s:AM},s∈l->FW l s.At=some s.Val
 | x :: l,h,s,hs=>by
  unfold IncI at h;rw[List.pairwise_cons] at h;rw[LL];rcases List.mem_cons.1 hs with e | hs
  . subst e; rw[if_pos rfl]
  . have:=h.1 s hs;rw[if_neg (by omega)]; exact UH h.2 hs
theorem X7:∀ (l:List AM) (m:List AM) (i:Int),FW (l++m) i=match FW l i with | some v=>some v | none=>FW m i
 | [],m,i=>rfl
 | s :: l,m,i=>by
  rw[List.cons_append,LL,LL];split
  . rfl
  . exact X7 l m i
def VZ (o:Option Int):Int×Bool:=match o with | some v=>(v,true) | none=>(0,false)
def W0 (n:Nat) (l:List AM):List Int:=(List.range n).map λi:Nat=>(FW l i).getD 0
def NU (v:Vec):Dense:=⟨v.N,lM v.N (v.Items.map (·.At)),W0 v.N.toNat v.Items⟩
theorem Af3 (n:Nat):W0 n []=List.replicate n 0:=by
 unfold W0;apply List.ext_getElem
 . simp
 . intro i h1 h2; simp[FW,B9]
theorem AbQ {n:Nat} {l:List AM} {x:AM} (h:∀ s∈l,s.At<x.At) (h0:0<=x.At):W0 n (l++[x])=(W0 n l).set x.At.toNat x.Val:=by
 unfold W0;rw[AbD];refine List.map_congr_left λi _=>?_;rw[X7,LL];by_cases e:i=x.At.toNat
 . subst e;rw[if_pos rfl,Q9 (λs D=>by have:=h s D; omega)];simp only;rw[if_pos (by omega)]; rfl
 . rw[if_neg e,if_neg (by omega)];split
   . rename_i v d; rw[d]
   . rename_i d; rw[d]; rfl
theorem IncI.before {l:List AM} (h:IncI l) {k:Nat} (hk:k<l.length):∀ s∈l.take k,s.At<l[k].At:=by intro s d;obtain⟨j,D,rfl⟩:=List.mem_iff_getElem.1 d;rw[List.length_take] at D;rw[List.getElem_take];exact h.at hk (by omega)
theorem jP {n:Nat} {l:List AM} {i:Int} (d:0<=i) (h1:i<n):BD (W0 n l) i=(FW l i).getD 0:=by unfold W0 BD;rw[List.getD_eq_getElem?_getD,List.getElem?_map,List.getElem?_range (by omega)];simp only[Option.map_some,Option.getD_some];rw[Int.toNat_of_nonneg d]
theorem gE {n:Int} {Q:Dense->Prop} (h:0<=n∧n<=4096) (D:Q ⟨n,qX n,List.replicate n.toNat 0⟩):OP n Q:=by unfold OP;exact A1 (λd=>by omega) (λ_=>A1 (λd=>by omega) (λ_=>⟨by omega,by omega,gD D⟩))
theorem lN {v:Vec} {Q:Dense->Prop} (O:v.Items.length<=1000000000) (J:Q (NU (FF v))):YK v Q:=by
 unfold YK;refine EI O (BK (λh=>?_) (λh=>?_))
 . have h:=of_decide_eq_false h;rw[FF,if_neg h] at J;exact gE ⟨by omega,by omega⟩ J
 . have d:=of_decide_eq_true h;rw[HQ d] at J;have V:=d.len;have:=d.n0; have:=d.n1;refine gE ⟨by omega,by omega⟩ (AD (s0:=List.replicate v.N.toNat (0:Int)) (λ(s:List Int) i=>(s,i)) 0 v.Items.length (by omega) (λk s=>s=W0 v.N.toNat (v.Items.take k)) (by omega) (by simp[Af3]) (λk s next _ hk D Z=>?_) (λs next D=>?_))
   . have K:=d.ins _ (List.getElem_mem hk);refine A1 (λ_=>B3 hk (BE (by omega) (by subst D; simp[W0]; omega) (Z _ ?_))) (λh=>by omega);rw[List.take_succ_eq_append_getElem hk,AbQ (d.inc.before hk) K.1,D]
   . rw[List.take_length] at D;subst D;refine A1 (λh=>by omega) (λ_=>XV O (UE ?_ (λx U=>?_) ?_))
     . rw[UG,HQ d]; simp; omega
     . rw[UG,HQ d] at U;obtain⟨y,W,rfl⟩:=List.mem_map.1 U;have:=d.ins y W; unfold EZ; omega
     . rw[UG,HQ d]; exact J
theorem gF {v:Vec} (h:VecP v) (i:Int):EV (NU v).Has i=(FW v.Items i).isSome:=by
 have hn:=h.n1;have e:=(HP v.N (v.Items.map (·.At))).2.2 i;show EV (lM v.N (v.Items.map (·.At))) i=_;rw[e]
 cases hlk:FW v.Items i with
 | none=>
  refine decide_eq_false λJ=>?_;obtain⟨x,D,e⟩:=List.mem_map.1 J.1;have:=UH h.inc D;rw[e,hlk] at this; cases this
 | some y=>
  have d:=X6 hlk;have:=h.ins _ d;simp only at this;exact decide_eq_true ⟨List.mem_map.2 ⟨_,d,rfl⟩,this.1,this.2,by omega⟩
theorem gG (v:Vec):lK (NU v).Has:=(HP _ _).1
theorem AdJ (v:Vec):(NU v).Has.length<=64:=by rw[show(NU v).Has.length=JC v.N from(HP _ _).2.1]; exact YW _
def FS (f:List Int) (o:Bool) (i:Int):Bool:=EV f i != o
def gI (r:Int) (A B:Int->Option Int) (d:Option AL) (k:Int):Option AL:=match A k,B k with | some a,some x=>iX r d (some (Y3 r a x)) | _,_=>d
def NV (r:Int) (n:Nat) (A B:Int->Option Int):Option AL:=(List.range n).foldl (λd (k:Nat)=>gI r A B d k) none
def KD (r:Int) (m n:Nat) (f:List Int) (o:Bool) (A:Int->Int->Option Int) (B:Int->Option Int):List B8:=
 (List.range m).filterMap λi:Nat=>if FS f o i then (NV r n (A i) B).map λw=>(⟨i,w⟩:B8) else none
theorem X8 (r:Int) (m n:Nat) (f:List Int) (o:Bool) (A:Int->Int->Option Int) (B:Int->Option Int) :
  KD r (m+1) n f o A B=KD r m n f o A B++(if FS f o m then (NV r n (A m) B).map λw=>(⟨m,w⟩:B8) else none).toList:=by
 unfold KD;rw[List.range_succ,List.filterMap_append];congr 1
theorem Af4 {r:Int} {A B:Int->Option Int} {d:Option AL} (h:∀ w,d=some w->Q6 w) (k:Int):∀ w,gI r A B d k=some w->Q6 w:=by
 intro w D;unfold gI at D;split at D
 . cases d with
   | none=>cases D; exact SX _ _ _
   | some b=>cases D; exact VR (h b rfl) (SX _ _ _)
 . exact h w D
theorem oT (r:Int) (n:Nat) (A B:Int->Option Int):∀ w,NV r n A B=some w->Q6 w:=by
 unfold NV
 induction n with
 | zero=>intro w d; cases d
 | succ n h=>rw[List.range_succ,List.foldl_append]; exact Af4 h n
theorem SY (r:Int) (n:Nat) (f:List Int) (o:Bool) (A:Int->Int->Option Int) (B:Int->Option Int):∀ m:Nat,
  Rise (KD r m n f o A B)∧(KD r m n f o A B).length<=m∧qQ (KD r m n f o A B)∧(∀ s∈KD r m n f o A B,0<=s.At∧s.At<m)∧∀ i:Int,lk (KD r m n f o A B) i=if 0<=i∧i<m∧FS f o i=true then NV r n (A i) B else none:=by
 intro m
 induction m with
 | zero=>
  refine⟨.nil,by simp[KD],by simp[KD,qQ],by simp[KD],λi=>?_⟩;rw[if_neg (by omega)]; rfl
 | succ m W=>
  obtain⟨U,h2,J,D,O⟩:=W;rw[X8];by_cases ha:FS f o m=true
  . rw[if_pos ha]
    cases hw:NV r n (A m) B with
    | none=>
      simp only[Option.map_none,Option.toList_none,List.append_nil];refine⟨U,by omega,J,λs d=>by have:=D s d; omega,λi=>?_⟩;rw[O];by_cases e:i=m
      . subst e; rw[if_neg (by omega),hw]; simp
      . by_cases hi:0<=i∧i<m∧FS f o i=true
        . rw[if_pos hi,if_pos ⟨hi.1,by omega,hi.2.2⟩]
        . rw[if_neg hi,if_neg (λh=>hi ⟨h.1,by omega,h.2.2⟩)]
    | some w=>
      simp only[Option.map_some,Option.toList_some];refine⟨List.pairwise_append.2 ⟨U,by simp,λa K b V=>?_⟩,by simp; omega,λs d=>?_,λs d=>?_,λi=>?_⟩
      . simp only[List.mem_singleton] at V; subst V; exact(D a K).2
      . rcases List.mem_append.1 d with d | d
        . exact J s d
        . simp only[List.mem_singleton] at d; subst d; exact oT r n _ _ w hw
      . rcases List.mem_append.1 d with d | d
        . have:=D s d; omega
        . simp only[List.mem_singleton] at d; subst d; simp only; omega
      . rw[VW,O,DT,oN];by_cases e:i=m
        . subst e;have Z:0<=(m:Int)∧(m:Int)<((m+1:Nat):Int)∧FS f o m=true:=⟨by omega,by omega,ha⟩;rw[if_neg (λh=>by omega),if_pos Z,hw]; simp
        . rw[if_neg e];by_cases hi:0<=i∧i<m∧FS f o i=true
          . rw[if_pos hi,if_pos ⟨hi.1,by omega,hi.2.2⟩]; split <;> simp_all
          . rw[if_neg hi,if_neg (λh=>hi ⟨h.1,by omega,h.2.2⟩)]
  . rw[if_neg ha];simp only[Option.toList_none,List.append_nil];refine⟨U,by omega,J,λs d=>by have:=D s d; omega,λi=>?_⟩;rw[O];by_cases e:i=m
    . subst e; rw[if_neg (by omega),if_neg (λh=>ha h.2.2)]
    . by_cases hi:0<=i∧i<m∧FS f o i=true
      . rw[if_pos hi,if_pos ⟨hi.1,by omega,hi.2.2⟩]
      . rw[if_neg hi,if_neg (λh=>hi ⟨h.1,by omega,h.2.2⟩)]
theorem P8 {β γ:Type} {f g:β->γ->β}:∀ {l:List γ} {a:β},(∀ d k,k∈l->f d k=g d k)->l.foldl f a=l.foldl g a
 | [],_,_=>rfl
 | x :: l,a,h=>by rw[List.foldl_cons,List.foldl_cons,h a x (by simp)]; exact P8 λd k hk=>h d k (by simp[hk])
theorem YZ {β:Type} {step:β->Int->Int->β} {a:β}:∀ {n:Nat} {l:List AM},IncI l->(∀ x∈l,0<=x.At∧x.At<n) ->
  l.foldl (λD x=>step D x.At x.Val) a=(List.range n).foldl (λD (k:Nat)=>match FW l k with | some v=>step D k v | none=>D) a
 | 0,l,h,hi=>by
  cases l with
  | nil=>rfl
  | cons x l=>have:=hi x (by simp); omega
 | n+1,l,h,hi=>by
  rw[List.range_succ,List.foldl_append];simp only[List.foldl_cons,List.foldl_nil]
  have U:l=[]∨∃ p y,l=p++[y]:=by
    rcases List.eq_nil_or_concat l with h | ⟨p,y,h⟩
    . exact .inl h
    . exact .inr ⟨p,y,by rw[h,List.concat_eq_append]⟩
  have old:∀ {l:List AM},IncI l->(∀ x∈l,0<=x.At∧x.At<n)->FW l n=none:=λ_ hi=>Q9 λs V=>by have:=hi s V; omega
  rcases U with e | ⟨p,y,e⟩
  . subst e;rw[<-YZ (n:=n) (l:=[]) h (by simp)]; rfl
  . subst e;have hp:IncI p:=(List.pairwise_append.1 h).1;have K:∀ x∈p,x.At<y.At:=λx d=>(List.pairwise_append.1 h).2.2 x d y (by simp);by_cases ey:y.At=n
    . have J:∀ x∈p,0<=x.At∧x.At<n:=λx d=>⟨(hi x (by simp[d])).1,by have:=K x d; omega⟩;have W:FW (p++[y]) n=some y.Val:=by rw[X7,old hp J,LL,if_pos ey.symm]
      rw[W,List.foldl_append,YZ hp J];simp only[List.foldl_cons,List.foldl_nil,ey];congr 1;refine P8 λD k hk=>?_;have hk:=List.mem_range.1 hk;have:FW (p++[y]) k=FW p k:=by rw[X7,LL,if_neg (by omega)]; cases FW p k <;> rfl
      rw[this]
    . have O:∀ x∈p++[y],0<=x.At∧x.At<n:=by
       intro x d;have Z:=hi x d;refine⟨Z.1,?_⟩;have hy:=hi y (by simp);rcases List.mem_append.1 d with d | d
       . have:=K x d; omega
       . simp only[List.mem_singleton] at d; subst d; omega
      rw[old h O,YZ h O]
def jQ (r:Int) (T:List A3) (f:List Int) (o:Bool) (x:AM):List B8:=((KS T x.At).filter λy=>FS f o y.At).map λy=>⟨y.At,Y3 r y.Val x.Val⟩
theorem gJ {T:List A3} (h:Srt T) (k:Int):IncI (KS T k):=by unfold KS IncI;rw[List.pairwise_map];have K:(T.filter λt=>decide (t.Row=k)).Pairwise λa b=>MB (key a) (key b):=List.Pairwise.filter _ h;refine List.Pairwise.imp_of_mem (λ{a b} J D d=>?_) K;have J:=of_decide_eq_true (List.mem_filter.1 J).2;have D:=of_decide_eq_true (List.mem_filter.1 D).2;unfold MB key at d;simp only[qV] at d ⊢; omega
theorem SZ {T:List A3} {k:Int} {x:AM}:x∈KS T k↔(⟨k,x.At,x.Val⟩:A3)∈T:=by
 unfold KS;simp only[List.mem_map,List.mem_filter,decide_eq_true_eq];constructor
 . rintro⟨t,⟨ht,e⟩,rfl⟩; subst e; exact ht
 . intro h; exact⟨_,⟨h,rfl⟩,rfl⟩
theorem W3 {r:Int} {T:List A3} (h:Srt T) (f:List Int) (o:Bool) (x:AM):Rise (jQ r T f o x)∧qQ (jQ r T f o x)∧∀ i,lk (jQ r T f o x) i=if FS f o i=true then (FW (KS T x.At) i).map λa=>Y3 r a x.Val else none:=by
 have D:=gJ h x.At;unfold jQ;generalize KS T x.At=l at D;refine⟨?_,?_,λi=>?_⟩
 . unfold Rise; rw[List.pairwise_map]; exact List.Pairwise.filter _ D
 . intro s J;obtain⟨y,_,rfl⟩:=List.mem_map.1 J;exact SX _ _ _
 . clear D
   induction l with
   | nil=>simp[lk,FW,B9]
   | cons y l d=>
    rw[LL];by_cases ha:FS f o y.At=true
    . rw[List.filter_cons_of_pos (by simpa using ha),List.map_cons,DT];simp only;by_cases e:i=y.At
      . subst e; rw[if_pos rfl,if_pos rfl,if_pos ha]; rfl
      . rw[if_neg e,if_neg e]; exact d
    . rw[List.filter_cons_of_neg (by simpa using ha)];by_cases e:i=y.At
      . subst e; rw[if_pos rfl,if_neg ha,d,if_neg ha]
      . rw[if_neg e]; exact d
theorem AbR (r:Int) (i:Int):∀ (L:List (List B8)) (n:Nat),n<=L.length->NT r (λw=>L.getD w []) i n none=(L.take n).foldl (λd l=>iX r d (lk l i)) none:=by
 intro L n
 induction n with
 | zero=>intro _; rfl
 | succ n h=>
  intro hn;rw[NT,h (by omega),List.take_succ_eq_append_getElem (by omega),List.foldl_append];simp[List.getD_eq_getElem?_getD,show n<L.length by omega]
theorem AbS {r:Int} {rows cols:Int} {T:List A3} {v:Vec} (h:Canon cols rows T) (V:VecP v) (hn:v.N=cols) (f:List Int) (o:Bool) :
   P7 r (v.Items.map (jQ r T f o))=KD r rows.toNat cols.toNat f o (λi k=>FW (KS T k) i) (FW v.Items):=by
 have J:∀ l∈v.Items.map (jQ r T f o),Rise l:=by intro l hl; obtain⟨x,_,rfl⟩:=List.mem_map.1 hl; exact(W3 h.srt f o x).1
 have O:=oP r _ J _ (Nat.le_refl _);rw[List.take_length] at O;obtain⟨Z,s2,s3,s4,s5⟩:=SY r cols.toNat f o (λi k=>FW (KS T k) i) (FW v.Items) rows.toNat;refine yL O.1 Z λi=>?_;rw[O.2.2.2,s5,AbR r i _ _ (Nat.le_refl _),List.take_length,List.foldl_map];by_cases ha:FS f o i=true
 . have U:∀ x:AM,lk (jQ r T f o x) i=(FW (KS T x.At) i).map λa=>Y3 r a x.Val:=λx=>by rw[(W3 h.srt f o x).2.2,if_pos ha]
   simp only[U];rw[YZ (step:=λd k xv=>iX r d ((FW (KS T k) i).map λa=>Y3 r a xv)) (n:=cols.toNat) V.inc (λx hx=>by have:=V.ins x hx; omega)];by_cases hi:0<=i∧i<rows
   . rw[if_pos ⟨hi.1,by omega,ha⟩];unfold NV;refine P8 λd k _=>?_;unfold gI;simp only;cases FW v.Items (k:Int) <;> cases FW (KS T (k:Int)) i <;> simp[SW]
   . rw[if_neg (by omega)]
     have D:∀ k,FW (KS T k) i=none:=λk=>Q9 λs W=>by have:=h.inn _ (SZ.1 W); unfold mT at this; simp only at this; omega
     have:∀ (l:List Nat),l.foldl (λd (k:Nat)=>match FW v.Items k with | some x=>iX r d ((FW (KS T k) i).map λa=>Y3 r a x) | none=>d) none=none:=by
      intro l
      induction l with
      | nil=>rfl
      | cons k l K=>
       rw[List.foldl_cons,D];cases FW v.Items (k:Int) <;> exact K
     exact this _
 . rw[if_neg (λh=>ha h.2.2)];have U:∀ x:AM,lk (jQ r T f o x) i=none:=λx=>by rw[(W3 h.srt f o x).2.2,if_neg ha]
   simp only[U,SW];generalize v.Items=l
   induction l with
   | nil=>rfl
   | cons x l K=>exact K
theorem Af5 {r:Int} {l:List AM} {val:Int} {f:List Int} {o:Bool} {Q:List B8->Prop} (hl:l.length<=1000000) (O:lK f) (hi:∀ x∈l,EZ x.At∧EZ x.Val) (V:EZ val) (U:Q ((l.filter λy=>FS f o y.At).map λy=>⟨y.At,Y3 r y.Val val⟩)):U9 r l val f o Q:=by
 unfold U9;refine AD (λ(s:List B8) i=>(s,i)) 0 l.length (by omega) (λk s=>s=((l.take k).filter λy=>FS f o y.At).map λy=>⟨y.At,Y3 r y.Val val⟩) (by omega) (by simp) (λk s next _ hk d J=>?_) (λs next d=>?_)
 . have K:=hi _ (List.getElem_mem hk)
   have W:s.length<=k:=by subst d; rw[List.length_map];have:=List.length_filter_le (λy:AM=>FS f o y.At) (l.take k);rw[List.length_take] at this; omega
   refine A1 (λ_=>B3 hk (KT O K.1 ⟨λh=>?_,λh=>J _ ?_⟩)) (λh=>by omega)
   . refine lJ K.2 V (AH (by simp; omega) (J _ ?_));have D:FS f o l[k].At=true:=by unfold FS; rw[bne]; exact h
     rw[List.take_succ_eq_append_getElem hk,List.filter_append,List.map_append,d,List.filter_cons_of_pos (by simpa using D)]; rfl
   . have D:¬FS f o l[k].At=true:=by unfold FS; rw[bne,h]; simp
     rw[List.take_succ_eq_append_getElem hk,List.filter_append,List.map_append,d,List.filter_cons_of_neg (by simpa using D)]; simp
 . rw[List.take_length] at d;subst d;exact A1 (λh=>by omega) (λ_=>U)
theorem vF {c:AN} {x:Vec} {Q:AN×Vec->Prop} (D:UY c) (J:x.Items.length<=1000000000) (d:Q (XU c,FF x)):aJ c x Q:=by
 unfold aJ;refine BP (λt=>(⟨t.1,t.2.1,t.2.2.1,t.2.2.2.1,t.2.2.2.2.1,t.2.2.2.2.2⟩:AN)=XU c) ?_ ?_
 . rintro⟨t1,t2,t3,t4,t5,t6⟩ ht;simp only at ht ⊢;rw[ht];unfold FF at d;refine EI J (BK (λh=>?_) (λh=>?_))
   . rw[if_neg (of_decide_eq_false h)] at d; exact d
   . rw[if_pos (of_decide_eq_true h)] at d; exact d
 . intro k hk;refine cB D (BK (λh=>hk _ ?_) (λh=>hk _ ?_))
   . rw[XU,if_neg (of_decide_eq_false h),oG]
   . rw[XU,if_pos (of_decide_eq_true h)]
def AdK (r rows cols:Int) (T:List A3) (v:Vec) (f:List Int) (o:Bool):List B8×Int:=
 if ¬(1<=r∧r<=5) then ([],8) else if v.N≠cols then ([],4) else (KD r rows.toNat cols.toNat f o (λi k=>FW (KS T k) i) (FW v.Items),0)
theorem vG {r rows cols:Int} {c:AN} {x:Vec} {T:List A3} {f:List Int} {o:Bool} {Q:List B8×Int->Prop} (hc:UY c) (hs:XU c=SU rows cols T) (h:Canon cols rows T) (hT:∀ t∈T,EZ t.Val)
   (hx:x.Items.length<=1000000000) (O:∀ y∈(FF x).Items,EZ y.Val) (hf:lK f) (D:Q (AdK r rows cols T (FF x) f o)):aK r c x f o Q:=by
 unfold aK;unfold AdK at D;have W:=Q8 x;refine vF hc hx ?_;rw[hs];generalize FF x=v at W O D;simp only;have hvl:=W.len;refine P4 (BK (λU=>?_) (λU=>BI (λhne=>?_) (λhe=>?_)))
 . rw[if_pos (of_decide_eq_false U)] at D; exact D
 . rw[if_neg (by have:=of_decide_eq_true U; omega),if_pos (show v.N≠cols from hne)] at D; exact D
 . have hr:=of_decide_eq_true U;have he:v.N=cols:=he;rw[if_neg (by omega),if_neg (by omega)] at D;have hTl:=h.len;refine yV (xs:=v.Items) (f:=jQ r T f o) (by omega) (λi s next hi d V=>?_) (λnext s d=>?_)
   . refine A1 (λ_=>B3 hi (oI h.smlC (jK h) h (Af5 (by have:=YU T v.Items[i].At; omega) hf (λy hy=>?_) (O _ (List.getElem_mem hi)) (AH (by simp; omega) V)))) (λh=>by omega);have hm:=SZ.1 hy;have Z:=h.inn _ hm; have h2:=hT _ hm;have:=h.c1;unfold mT at Z; simp only at Z h2;exact⟨by unfold EZ; omega,h2⟩
   . have hsl:s.length=v.Items.length:=by subst d; simp
     have J:∀ (l:List AM),total (l.map (jQ r T f o))<=l.length*65536:=by
       intro l
       induction l with
       | nil=>simp[total]
       | cons y l ih=>
        have Z:(jQ r T f o y).length<=65536:=by unfold jQ; rw[List.length_map];have:=List.length_filter_le (λy:AM=>FS f o y.At) (KS T y.At);have:=YU T y.At; omega
        unfold total at ih ⊢;simp only[List.map_cons,List.foldr_cons,List.length_cons]; omega
     refine A1 (λh=>by omega) (λ_=>cC (by simp only; omega) (λl K=>?_) (by subst d; have:=J v.Items; simp only; omega) (λl K=>?_) ?_)
     . subst d;obtain⟨y,_,rfl⟩:=List.mem_map.1 K;unfold jQ; rw[List.length_map];have:=List.length_filter_le (λy:AM=>FS f o y.At) (KS T y.At);have:=YU T y.At; omega
     . subst d;obtain⟨y,_,rfl⟩:=List.mem_map.1 K;exact(W3 h.srt f o y).2.1
     . unfold oR
       rw[if_neg (by omega),if_neg (by rintro⟨l,K,V⟩;subst d;obtain⟨y,_,rfl⟩:=List.mem_map.1 K;exact V (W3 h.srt f o y).1),d,AbS h W he]
       exact D
end Go.Proofs.YtkbkaodgfedfmaaGreat
