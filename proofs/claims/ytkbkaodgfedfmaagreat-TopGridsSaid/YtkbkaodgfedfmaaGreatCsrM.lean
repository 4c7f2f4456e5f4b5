import Derived.Test.YtkbkaodgfedfmaaGreatOK
import Derived.Test.YtkbkaodgfedfmaaGreatCsrF
namespace Go.Proofs.YtkbkaodgfedfmaaGreat
open Go Go.Fw
set_option linter.unusedVariables false
set_option linter.unusedSimpArgs false
def key (t:A3):JX:=(t.Row,t.Col)
def Srt (ts:List A3):Prop:=ts.Pairwise λa b=>MB (key a) (key b)
structure Canon (rows cols:Int) (ts:List A3):Prop where
 r0:0≤rows
 r1:rows≤4096
 c0:0≤cols
 c1:cols≤4096
 len:ts.length≤65536
 srt:Srt ts
 inn:∀ t∈ts,mT rows cols t
theorem nZ {α:Type} {q:α->Bool}:∀ {l:List α},l.Pairwise (λa b=>q b=true->q a=true)->∀ (i:Nat) (h:i<l.length),(q l[i]=true↔i<l.countP q)
 | [],_,i,h=>by simp at h
 | a :: l,hp,i,h=>by
  rw[List.pairwise_cons] at hp;rw[List.countP_cons];by_cases ha:q a=true
  . rw[if_pos ha]
    cases i with
    | zero=>simp[ha]
    | succ i=>
     have:=nZ hp.2 i (by simpa using h);simp only[List.getElem_cons_succ];rw[this]; omega
  . rw[if_neg ha];have J:l.countP q=0:=List.countP_eq_zero.2 λb D d=>ha (hp.1 b D d);rw[J];refine⟨λd=>absurd ?_ ha,λh=>by omega⟩
    cases i with
    | zero=>exact d
    | succ i=>exact hp.1 _ (List.getElem_mem _) d
theorem Srt.row {ts:List A3} (h:Srt ts) (v:Nat) (p:Nat) (hp:p<ts.length):ts[p].Row<v↔(p:Int)<EO ts v:=by
 have:=nZ (q:=λt:A3=>decide (t.Row<(v:Int))) (l:=ts) (List.Pairwise.imp (λ{a b} d=>by simp only[decide_eq_true_eq];unfold MB key at d;simp only at d;omega) h) p hp
 simp only[decide_eq_true_eq] at this;rw[this]; unfold EO; omega
theorem AlQ {f:Nat->Int} {n:Nat} {i:Int} (h0:0<=i) (h:i<n):BD ((List.range n).map f) i=f i.toNat:=by unfold BD;rw[List.getD_eq_getElem?_getD,SS (by omega)]; rfl
theorem mU {α:Type} {f:α->Int} {xs:List α} {i:Int} (h0:0<=i) (h:i<xs.length):BD (xs.map f) i=f (xs[i.toNat]'(by omega)):=by unfold BD;simp[List.getD_eq_getElem?_getD,show i.toNat<xs.length by omega]
theorem YO {rows cols:Int} {ts:List A3} {i:Int} (d:0<=i) (h:i<=rows):BD (BH rows cols ts).Start i=EO ts i.toNat:=AlQ d (by omega)
theorem sL {rows cols:Int} {ts:List A3} (h:Canon rows cols ts):EO ts rows.toNat=ts.length:=by have h0:=h.r0;unfold EO;rw[List.countP_eq_length.2];intro t d;have:=h.inn t d;unfold mT at this;simp; omega
theorem oA {ts:List A3} (h:∀ t∈ts,0<=t.Row):EO ts 0=0:=by
 unfold EO
 rw[List.countP_eq_zero.2]; · rfl
 intro t d
 have:=h t d
 simp; omega
theorem Srt.at {ts:List A3} (h:Srt ts) {i p:Nat} (hp:p<ts.length):ts[p].Row=i↔EO ts i<=p∧(p:Int)<EO ts (i+1):=by have h1:=h.row i p hp;have h2:=h.row (i+1) p hp;omega
theorem Canon.right {rows cols:Int} {ts:List A3} (h:Canon rows cols ts):ST (BH rows cols ts) where
 r0:=h.r0
 r1:=h.r1
 c0:=h.c0
 c1:=h.c1
 sl:=by have:=h.r0; simp[BH]; omega
 vl:=by simp[BH]
 cl:=by simpa[BH] using h.len
 s0:=by have:=h.r0;rw[YO (by omega) (by omega)];exact oA λt ht=>(h.inn t ht).1
 sn:=by have:=h.r0;show BD (BH rows cols ts).Start rows=_;rw[YO (by omega) (by omega),sL h]; simp[BH]
 up i hi:=by
  have hi:(i:Int)<rows:=hi;rw[YO (by omega) (by omega),YO (by omega) (by omega)];have e1:((i:Int)).toNat=i:=by omega
  have e2:((i:Int)+1).toNat=i+1:=by omega
  rw[e1,e2,X1 i ts λt ht=>(h.inn t ht).1];have:=fV ts (i+1);omega
 row i hi:=by
  have hi:(i:Int)<rows:=hi;intro j hj1 hj2;rw[YO (by omega) (by omega)] at hj1 hj2 ⊢;have e1:((i:Int)).toNat=i:=by omega
  have e2:((i:Int)+1).toNat=i+1:=by omega
  rw[e1] at hj1 ⊢;rw[e2] at hj2;have hb:=fU ts (i+1);have hjl:j<ts.length:=by omega
  have hc:BD (BH rows cols ts).Col j=ts[j].Col:=by show BD (ts.map (·.Col)) j=_;rw[mU (by omega) (by omega)]; rfl
  have hin:=h.inn _ (List.getElem_mem hjl);have hr:=(h.srt.at hjl (i:=i)).2 ⟨hj1,hj2⟩;unfold mT at hin;refine⟨by rw[hc]; omega,by rw[hc]; exact hin.2.2.2,λhlt=>?_⟩;obtain⟨q,rfl⟩:∃ q,j=q+1:=⟨j - 1,by have:=fU ts i; omega⟩
  have hc2:BD (BH rows cols ts).Col (((q+1:Nat):Int) - 1)=ts[q].Col:=by show BD (ts.map (·.Col)) _=_;rw[mU (by omega) (by omega)];simp
  have hr2:=(h.srt.at (show q<ts.length by omega) (i:=i)).2 ⟨by omega,by omega⟩;have hs:=List.pairwise_iff_getElem.1 h.srt q (q+1) (by omega) hjl (by omega);unfold MB key at hs;simp only at hs;rw[hc,hc2]; omega
theorem rise {a:Rows} (h:ST a) {i p q:Nat} (hi:(i:Int)<a.Rows) (h1:BD a.Start i<=p) (J:(q:Int)<BD a.Start ((i:Int)+1)) (d:p<q):BD a.Col p<BD a.Col q:=by
 induction q with
 | zero=>omega
 | succ q D=>
  have:=(h.row i hi (q+1) (by omega) J).2.2 (by omega);rw[show((q+1:Nat):Int) - 1=q by omega] at this;by_cases e:p=q
  . subst e; exact this
  . have:=D (by omega) (by omega); omega
theorem yD:Canon 0 0 []:=⟨by omega,by omega,by omega,by omega,by simp,.nil,by simp⟩
noncomputable def YP (a:Rows):Rows:=if ST a then a else BH 0 0 []
theorem fX {a:Rows} {Q:Rows->Prop} (D:XT a) (d:Q (YP a)):PV a Q:=by
 unfold PV VK;unfold YP at d;refine fW D (A1 (λh=>?_) (λh=>?_))
 . rwa [if_pos h] at d
 . rw[if_neg h] at d;exact⟨by decide,by decide,d⟩
def RL (ts:List A3) (i:Nat):List A3:=ts.filter λt=>decide (t.Row=i)
theorem AlR {ts:List A3} (h:Srt ts) (i:Nat) {lo hi:Nat} (O:EO ts i=lo) (U:EO ts (i+1)=hi) (J:lo<=hi) (hl:hi<=ts.length):(ts.take hi).drop lo=RL ts i:=by
 have e:ts=ts.take lo++((ts.take hi).drop lo++ts.drop hi):=by
   have V:ts.take lo=(ts.take hi).take lo:=by rw[List.take_take,Nat.min_eq_left J]
   rw[<-List.append_assoc,V,List.take_append_drop,List.take_append_drop]
 have K:∀ (p:Nat) (hp:p<ts.length),ts[p].Row=i↔lo<=p∧p<hi:=λp hp=>by have:=h.at (i:=i) hp; omega
 unfold RL
 conv=>rhs; rw[e]
 rw[List.filter_append,List.filter_append,List.filter_eq_nil_iff.2,List.filter_eq_self.2,List.filter_eq_nil_iff.2]
 . simp
 . intro t d;obtain⟨j,D,rfl⟩:=List.getElem_of_mem d;simp only[List.getElem_drop,decide_eq_true_eq];rw[K]; omega
 . intro t d;obtain⟨j,D,rfl⟩:=List.getElem_of_mem d;simp only[List.getElem_drop,List.getElem_take,decide_eq_true_eq];simp only[List.length_drop,List.length_take] at D;rw[K]; omega
 . intro t d;obtain⟨j,D,rfl⟩:=List.getElem_of_mem d;simp only[List.getElem_take,decide_eq_true_eq];simp only[List.length_take] at D;rw[K]; omega
structure Seg (ts:List A3) (i l u:Nat):Prop where
 lo:EO ts i=l
 hi:EO ts (i+1)=u
 le:l≤u
 len:u≤ts.length
 eq:(ts.take u).drop l=RL ts i
 row:∀ (p:Nat) (hp:p<ts.length),l≤p→p<u→ts[p].Row=i
theorem Canon.seg {rows cols:Int} {ts:List A3} (h:Canon rows cols ts) (i:Nat):∃ lo hi,Seg ts i lo hi:=by have hs:=X1 i ts λt J=>(h.inn t J).1;have ha:=fV ts (i+1);have hb:=fU ts (i+1);obtain⟨lo,d⟩:∃ lo:Nat,EO ts i=lo:=⟨_,rfl⟩;obtain⟨hi,D⟩:∃ hi:Nat,EO ts (i+1)=hi:=⟨_,rfl⟩;exact⟨lo,hi,d,D,by omega,by omega,AlR h.srt i d D (by omega) (by omega),λp hp h1 h2=>by have:=h.srt.at (i:=i) hp; omega⟩
theorem Canon.sml {rows cols:Int} {ts:List A3} (h:Canon rows cols ts):XT (BH rows cols ts):=by have:=h.r0; have:=h.r1; have:=h.len;unfold XT BH; simp; omega
theorem VT {rows cols:Int} {ts:List A3} {i:Nat} {K:Int->Prop} (h:(i:Int)<=rows) (hk:K (EO ts i)):AZ (BH rows cols ts).Start (i:Int) K:=
 AK (by omega) (SS (by simp; omega)) hk
theorem Ad7 {rows cols:Int} {ts:List A3} {i:Nat} {Q:List Int×List Int->Prop} (h:Canon rows cols ts) (hi:(i:Int)<rows) (D:Q ((RL ts i).map (·.Col),(RL ts i).map (·.Val))):YI (BH rows cols ts) i Q:=by
 unfold YI;have hr:=h.r1;obtain⟨lo,d,s⟩:=h.seg i;have J:A6 ((i:Int)+1)=(i+1:Nat):=by rw[AB (by omega) (by omega)]; omega
 rw[J];refine VT (by omega) (VT (by omega) ?_);rw[s.lo,s.hi];have h1:=s.le; have h2:=s.len;have hc:(BH rows cols ts).Col.length=ts.length:=by simp[BH]
 have hv:(BH rows cols ts).Val.length=ts.length:=by simp[BH]
 refine⟨by omega,by omega,by omega,by omega,by omega,by omega,?_⟩;simp only[Int.toNat_natCast,BH,<-List.map_take,<-List.map_drop,s.eq];exact D
def qV (t:A3):AM:=⟨t.Col,t.Val⟩
def AjS (rows:Int) (ts:List A3) (i:Int):List AM:=if 0<=i∧i<rows then (RL ts i.toNat).map qV else []
theorem oB (ts:List A3) (i:Nat):(RL ts i).length<=ts.length:=List.length_filter_le _ _
theorem AbF {a:Rows} {rows cols i:Int} {ts:List A3} {Q:List AM->Prop} (hl:XT a) (Z:YP a=BH rows cols ts) (h:Canon rows cols ts) (d:Q (AjS rows ts i)):mO a i Q:=by
 unfold mO;have V:=h.r0; have W:=h.r1; have O:=h.len;refine fX hl ?_;rw[Z];have e:A6 ((BH rows cols ts).Rows - 1)=rows - 1:=AB (by show -9223372036854775808<=rows - 1; omega) (by show rows - 1<=9223372036854775807; omega);rw[e];unfold AjS at d;refine aR (BK (λD=>?_) (λK=>?_))
 . have D:¬(0<=i∧i<=rows - 1):=by simpa using D
   rw[if_neg (by omega)] at d; exact d
 have K:0<=i∧i<=rows - 1:=by simpa using K
 rw[if_pos (by omega)] at d;obtain⟨n,rfl⟩:∃ n:Nat,i=n:=⟨i.toNat,by omega⟩;rw[Int.toNat_natCast] at d;refine Ad7 h (by omega) ?_;have U:=oB ts n;generalize RL ts n=xs at d U;refine AD (λ(s:List AM) i=>(s,i)) 0 xs.length (by omega) (λi s=>s=(xs.take i).map qV) (by omega) rfl (λi s next _ hi J D=>?_) (λs next J=>?_)
 . subst J;dsimp only;refine A1 (λ_=>?_) (λh=>by simp at h; omega);refine AK (by omega) (x:=xs[i].Col) (by simp[hi]) (AK (by omega) (x:=xs[i].Val) (by simp[hi]) (AH ?_ (D _ ?_)))
   . simp; omega
   . rw[NR hi]; rfl
 . subst J;dsimp only;refine A1 (λh=>by simp at h) (λ_=>?_);rw[List.take_length]; exact d
theorem yE {ts:List A3} {lo p:Nat} (h1:lo<=p) (d:p<ts.length):(ts.take (p+1)).drop lo=(ts.take p).drop lo++[ts[p]]:=by rw[List.take_succ_eq_append_getElem d,List.drop_append_of_le_length (by simp; omega)]
theorem YQ {a:Rows} {rows cols:Int} {ts:List A3} {Q:List A3->Prop} (hl:XT a) (ha:YP a=BH rows cols ts) (h:Canon rows cols ts) (hQ:Q ts):PW a Q:=by
 unfold PW;have hr0:=h.r0; have hr1:=h.r1; have hlen:=h.len;refine fX hl ?_;rw[ha];obtain⟨n,hn⟩:∃ n:Nat,rows=n:=⟨rows.toNat,by omega⟩;have W:(BH rows cols ts).Rows=n:=hn;rw[W];refine AD (λ(s:List A3) i=>(s,i)) 0 n (by omega) (λi s=>s=ts.take (EO ts i).toNat) (by omega) (s0:=[]) (by rw[oA λt ht=>(h.inn t ht).1]; rfl) (λi s next _ hi d Z=>?_) (λs next d=>?_)
 . subst d;dsimp only;refine A1 (λ_=>?_) (λh=>by omega);refine Ad7 h (by omega) ?_;obtain⟨lo,U,s⟩:=h.seg i;have g1:=s.le; have g2:=s.len;rw[s.lo,Int.toNat_natCast];have V:(RL ts i).length=U - lo:=by rw[<-s.eq]; simp; omega
   have J:∀ (j:Nat) (K:j<(RL ts i).length),(RL ts i)[j]=ts[lo+j]'(by omega):=λj K=>by simp[<-s.eq]
   refine AD (λ(s:List A3) i=>(s,i)) 0 (RL ts i).length (by omega) (λj st=>st=ts.take (lo+j)) (by omega) (by simp) (λj st nx _ K d O=>?_) (λst nx d=>?_)
   . subst d;dsimp only;refine A1 (λ_=>?_) (λh=>by simp at h; omega);have D:lo+j<ts.length:=by omega
     refine AK (by omega) (x:=ts[lo+j].Col) (by simp[K,J]) (AK (by omega) (x:=ts[lo+j].Val) (by simp[K,J]) (AH ?_ (O _ ?_)))
     . simp; omega
     . rw[show lo+(j+1)=lo+j+1 by omega,List.take_succ_eq_append_getElem D];congr 2;have:=s.row (lo+j) D (by omega) (by omega);rw[<-this]
   . subst d;dsimp only;refine A1 (λh=>by simp at h) (λ_=>Z _ ?_);rw[s.hi,V,Int.toNat_natCast]; congr 1; omega
 . subst d;dsimp only;refine A1 (λh=>by omega) (λ_=>?_);have hb:=sL h;rw[hn,Int.toNat_natCast] at hb;rw[hb,Int.toNat_natCast,List.take_length]; exact hQ
theorem uT {a:Rows} {rows cols:Int} {ts:List A3} {Q:Int->Prop} (d:XT a) (D:YP a=BH rows cols ts) (h:Q ts.length):aF a Q:=by unfold aF;refine fX d ?_;rw[D]; simpa[BH] using h
theorem Srt.nodup {l:List A3} (h:Srt l):l.Nodup:=by rw[List.nodup_iff_pairwise_ne];exact List.Pairwise.imp (R:=λa b=>MB (key a) (key b)) (λ{a b} d (e:a=b)=>GD (key b) (by rw[e] at d; exact d)) h
theorem Ad8 {l d:List A3} (h:Srt l) (D:Srt d) (J:∀ t,t∈l↔t∈d):l=d:=
 aO ((List.perm_ext_iff_of_nodup h.nodup D.nodup).2 J) h D λa b _ _ O K=>absurd (aQ O K) (GD _)
theorem P5 {rows cols:Int} {ts:List A3} (h:Canon rows cols ts):YP (BH rows cols ts)=BH rows cols ts:=by unfold YP; rw[if_pos h.right]
def dE (t:A3):A3:=⟨t.Col,t.Row,t.Val⟩
def MO (cols:Int) (ts:List A3):List A3:=(List.range cols.toNat).flatMap λc:Nat=>(ts.filter λt:A3=>decide (t.Col=(c:Int))).map dE
theorem VU {rows cols:Int} {ts:List A3} (h:Canon rows cols ts) (t:A3):t∈MO cols ts↔dE t∈ts:=by
 unfold MO;simp only[List.mem_flatMap,List.mem_range,List.mem_map,List.mem_filter,decide_eq_true_eq];constructor
 . rintro⟨c,hc,u,⟨hu,_⟩,rfl⟩; exact hu
 . intro d;have:=h.inn _ d;unfold mT dE at this;simp only at this;exact⟨t.Row.toNat,by omega,dE t,⟨d,by show t.Row=_; omega⟩,rfl⟩
theorem YR {ts:List A3} (cols:Int) (h:Srt ts):Srt (MO cols ts):=by
 unfold Srt MO;rw[List.pairwise_flatMap];refine⟨λc _=>?_,?_⟩
 . rw[List.pairwise_map];refine List.Pairwise.imp_of_mem (λ{a b} U O d=>?_) (List.Pairwise.filter (R:=λa b=>MB (key a) (key b)) (λt=>decide (t.Col=(c:Int))) h);have J:=(List.mem_filter.1 U).2;have D:=(List.mem_filter.1 O).2;simp only[decide_eq_true_eq] at J D;unfold MB key at *;simp only[dE] at *;omega
 . refine List.Pairwise.imp (λ{a b} d x V y Z=>?_) (List.pairwise_lt_range (n:=cols.toNat));obtain⟨u,K,rfl⟩:=List.mem_map.1 V;obtain⟨v,W,rfl⟩:=List.mem_map.1 Z;have J:=(List.mem_filter.1 K).2;have D:=(List.mem_filter.1 W).2;simp only[decide_eq_true_eq] at J D;unfold MB key dE;simp only;omega
theorem AbG {ts:List A3} (h:Srt ts):(ts.map dE).Nodup:=by
 rw[List.nodup_iff_pairwise_ne,List.pairwise_map];refine List.Pairwise.imp (R:=λa b=>MB (key a) (key b)) (λ{a b} d e=>?_) h
 have:a=b:=by cases a; cases b;simp only[dE,A3.mk.injEq] at e ⊢;omega
 subst this; exact GD _ d
theorem sM {rows cols:Int} {ts:List A3} (h:Canon rows cols ts):(ts.map dE).Perm (MO cols ts):=by refine(List.perm_ext_iff_of_nodup (AbG h.srt) (YR cols h.srt).nodup).2 λt=>?_;rw[VU h,List.mem_map];exact⟨by rintro⟨u,D,rfl⟩; exact D,λd=>⟨dE t,d,rfl⟩⟩
theorem X2 {rows cols:Int} {ts:List A3} (h:Canon rows cols ts):Canon cols rows (MO cols ts) where
 r0:=h.c0
 r1:=h.c1
 c0:=h.r0
 c1:=h.r1
 len:=by have:=(sM h).length_eq; have:=h.len; simp at *; omega
 srt:=YR cols h.srt
 inn t ht:=by have:=h.inn _ ((VU h t).1 ht);unfold mT dE at *;simp only at this;omega
theorem yF {a:Rows} {rows cols:Int} {ts:List A3} {Q:Rows->Prop} (hl:XT a) (ha:YP a=BH rows cols ts) (h:Canon rows cols ts) (hQ:Q (BH cols rows (MO cols ts))):fL a Q:=by
 unfold fL;have U:=h.len;have W:=h.c1; have hc0:=h.c0;refine fX hl ?_;rw[ha];refine YQ h.sml (P5 h) h ?_;refine AD (λ(s:List A3) i=>(s,i)) 0 ts.length (by omega) (λi s=>s=(ts.take i).map dE++ts.drop i) (by omega) (by simp) (λi s next _ hi K hn=>?_) (λs next K=>?_)
 . subst K;dsimp only;have D:ts.drop i=ts[i] :: ts.drop (i+1):=List.drop_eq_getElem_cons hi;have d:((ts.take i).map dE).length=i:=by simp; omega
   have V:((ts.take i).map dE++ts.drop i)[i]? = some ts[i]:=by rw[List.getElem?_append_right (by omega),d,D,Nat.sub_self]; rfl
   refine A1 (λ_=>?_) (λh=>by omega);refine AK (by omega) (by simpa using V) (AK (by omega) (by simpa using V) (hn _ ?_));rw[Int.toNat_natCast,List.set_append,if_neg (by omega),d,Nat.sub_self,D,NR hi,List.append_assoc]; rfl
 . subst K;dsimp only;refine A1 (λh=>by omega) (λ_=>?_);rw[List.take_length,List.drop_length,List.append_nil];have J:=X2 h;refine Ad4 cfT (λ_ _ _=>AlN) mS (by simp; omega) (sM h) ?_ ?_
   . exact List.Pairwise.imp (R:=λa b=>MB (key a) (key b)) (λ{a b} O=>(uR _ _).2 O) J.srt
   . refine nY (show 0<=cols by omega) (show cols<=1000000 by omega) (by have:=J.len; omega) (λt Z=>?_) hQ;have:=J.inn t Z;unfold mT at this;exact⟨this.1,this.2.1⟩
def sN (l:Int):Int:=if 0 > l then 0 else l
def yG (h n:Int):Int:=if n<h then n else h
def ext (l h n:Int):Int:=if sN l<yG h n then yG h n - sN l else 0
def UX (l h c d:Int) (ts:List A3):List A3:=(ts.filter λt=>decide ((l<=t.Row∧t.Row<h)∧(c<=t.Col∧t.Col<d))).map λt=>⟨t.Row - l,t.Col - c,t.Val⟩
def Ah1 (rows cols:Int) (ts:List A3) (p q:Int×Int):Rows:=BH (ext p.1 p.2 rows) (ext q.1 q.2 cols) (UX (sN p.1) (yG p.2 rows) (sN q.1) (yG q.2 cols) ts)
theorem oC (l h n:Int) (hn:0<=n) (h1:n<=4096):0<=ext l h n∧ext l h n<=n∧0<=sN l∧yG h n<=n:=by unfold ext sN yG; (repeat' split) <;> omega
theorem sO {rows cols:Int} {ts:List A3} (h:Canon rows cols ts) (p q:Int×Int):Canon (ext p.1 p.2 rows) (ext q.1 q.2 cols) (UX (sN p.1) (yG p.2 rows) (sN q.1) (yG q.2 cols) ts):=by
 have h1:=oC p.1 p.2 rows h.r0 h.r1;have h2:=oC q.1 q.2 cols h.c0 h.c1;have h3:=h.r1; have h4:=h.c1;refine⟨by omega,by omega,by omega,by omega,?_,?_,?_⟩
 . have:=h.len;unfold UX;rw[List.length_map];exact Nat.le_trans (List.length_filter_le _ _) this
 . unfold Srt UX;rw[List.pairwise_map];refine List.Pairwise.imp (λ{a b} K=>?_) (List.Pairwise.filter (R:=λa b=>MB (key a) (key b)) _ h.srt);unfold MB key at *;simp only at *;omega
 . intro t D;obtain⟨u,J,rfl⟩:=List.mem_map.1 D;have d:=(List.mem_filter.1 J).2;simp only[decide_eq_true_eq] at d;have e1:ext p.1 p.2 rows=yG p.2 rows - sN p.1:=by unfold ext; rw[if_pos (by omega)]
   have e2:ext q.1 q.2 cols=yG q.2 cols - sN q.1:=by unfold ext; rw[if_pos (by omega)]
   unfold mT;simp only;omega
theorem sP {p:Int×Int} {n:Int} {Q:Int×Int->Prop} (J:0<=n) (D:n<=4096) (d:Q (sN p.1,ext p.1 p.2 n)):SF p n Q:=by
 unfold SF;show A8 (decide (yG p.2 n<=sN p.1)) (Q (sN p.1,0)) (Q (sN p.1,A6 (yG p.2 n - sN p.1)));have hb:=oC p.1 p.2 n J D;unfold ext at d;refine A1 (λh=>?_) (λh=>?_)
 . rwa [if_neg (by omega)] at d
 . rw[if_pos (by omega)] at d
   rwa [AB (by omega) (by omega)]
def oD (c d:Int) (t:A3):Bool:=decide (c<=t.Col∧t.Col<d)
def shf (l c:Int) (t:A3):A3:=⟨t.Row - l,t.Col - c,t.Val⟩
theorem Ah2 {ts:List A3} (h:Srt ts) (l c d:Int) (v:Nat) (hv:l<=v):UX l ((v:Int)+1) c d ts=UX l v c d ts++((RL ts v).filter (oD c d)).map (shf l c):=by
 unfold UX;rw[show(λt:A3=>(⟨t.Row - l,t.Col - c,t.Val⟩:A3))=shf l c from rfl,<-List.map_append];congr 1;refine Ad8 (List.Pairwise.filter _ h) (List.pairwise_append.2 ⟨List.Pairwise.filter _ h,List.Pairwise.filter _ (List.Pairwise.filter _ h),λa O b K=>?_⟩) λt=>?_
 . have D:=(List.mem_filter.1 O).2;have J:=(List.mem_filter.1 (List.mem_filter.1 K).1).2;simp only[decide_eq_true_eq] at D J;unfold MB key;simp only;omega
 . unfold RL oD;simp only[List.mem_append,List.mem_filter,decide_eq_true_eq];constructor
   . rintro⟨D,J⟩;by_cases e:t.Row=v
     . exact .inr ⟨⟨D,e⟩,J.2⟩
     . exact .inl ⟨D,by omega,J.2⟩
   . rintro(⟨D,J⟩ | ⟨⟨D,J⟩,h3⟩)
     . exact⟨D,by omega,J.2⟩
     . exact⟨D,by omega,h3⟩
theorem uU {ts:List A3} {l h c d:Int} (hh:h<=l):UX l h c d ts=[]:=by
 unfold UX
 rw[List.filter_eq_nil_iff.2]; · rfl
 intro t ht
 simp only[decide_eq_true_eq]; omega
theorem oE {a:Rows} {rows cols:Int} {ts:List A3} {p q:Int×Int} {Q:Rows->Prop} (hl:XT a) (ha:YP a=BH rows cols ts) (h:Canon rows cols ts) (hQ:Q (Ah1 rows cols ts p q)):U6 a p q Q:=by
 unfold U6;have hlen:=h.len;have hr1:=h.r1; have hc1:=h.c1;have b1:=oC p.1 p.2 rows h.r0 h.r1;have b2:=oC q.1 q.2 cols h.c0 h.c1;refine fX hl ?_;rw[ha];refine sP h.r0 h.r1 (sP h.c0 h.c1 ?_);show AW _ _;have d:=sO h p q;unfold Ah1 at hQ;have hrl:(BH rows cols ts).Rows=rows:=rfl;have hcl:(BH rows cols ts).Cols=cols:=rfl;rw[hcl,hrl];generalize hL:sN p.1=L at *;generalize hH:yG p.2 rows=H at *;generalize hC:sN q.1=C at *;generalize hD:yG q.2 cols=D at *;have W:ext p.1 p.2 rows=if L<H then H - L else 0:=by unfold ext; rw[hL,hH]
 have eF:ext q.1 q.2 cols=if C<D then D - C else 0:=by unfold ext; rw[hC,hD]
 generalize ext p.1 p.2 rows=E at *;generalize ext q.1 q.2 cols=F at *;dsimp only;obtain⟨n,hn⟩:∃ n:Nat,E=n:=⟨E.toNat,by omega⟩;rw[hn];refine AD (λ(s:List A3) i=>(s,i)) 0 n (by omega) (λi s=>s=UX L (L+(i:Nat)) C D ts) (by omega) (s0:=[]) (by rw[uU (by omega)]) (λi s next _ hi J O=>?_) (λs next J=>?_)
 . subst J;dsimp only
   have hLH:L<H∧E=H - L:=by
     by_cases e:L<H
     . rw[if_pos e] at W; exact⟨e,W⟩
     . rw[if_neg e] at W; omega
   obtain⟨v,hv⟩:∃ v:Nat,L+(i:Int)=v:=⟨(L+i).toNat,by omega⟩;have e1:A6 (L+(i:Int))=v:=by rw[AB (by omega) (by omega)]; exact hv
   rw[e1];refine A1 (λ_=>?_) (λh=>by omega);refine AbF h.sml (P5 h) h ?_;have erow:AjS rows ts v=(RL ts v).map qV:=by unfold AjS; rw[if_pos (by omega),Int.toNat_natCast]
   rw[erow];have hsl:=oB ts v;have hrow:∀ t∈RL ts v,t.Row=v:=λt ht=>by simpa using (List.mem_filter.1 ht).2
   have hin:∀ t∈RL ts v,mT rows cols t:=λt ht=>h.inn t (List.mem_filter.1 ht).1;have K:=Ah2 h.srt L C D v (by omega);rw[show(v:Int)+1=L+((i+1:Nat):Int) by omega] at K;rw[K] at O
   have Z:(UX L v C D ts).length<=ts.length:=by unfold UX;rw[List.length_map];exact List.length_filter_le _ _
   rw[hv];generalize UX L v C D ts=acc at O Z;generalize RL ts v=xs at *;refine AD (λ(s:List A3) i=>(s,i)) 0 xs.length (by omega) (λj s=>s=acc++((xs.take j).filter (oD C D)).map (shf L C)) (by omega) (by simp) (λj s nx _ hj J V=>?_) (λs nx J=>?_)
   . subst J;dsimp only;refine A1 (λ_=>?_) (λh=>by simp at h; omega);have J:=List.getElem_mem hj;have hi1:=hin _ J;have hr:=hrow _ J;unfold mT at hi1
     have hst:(xs.take (j+1)).filter (oD C D)=(xs.take j).filter (oD C D)++if oD C D xs[j]=true then [xs[j]] else []:=by rw[List.take_succ_eq_append_getElem hj,List.filter_append,List.filter_cons,List.filter_nil]
     refine AK (by omega) (x:=qV xs[j]) (by simp[hj]) ?_;have eAt:(qV xs[j]).At=xs[j].Col:=rfl;have eVal:(qV xs[j]).Val=xs[j].Val:=rfl;rw[eAt,eVal];refine BP (λb=>b=oD C D xs[j]) ?_ λk hk=>?_
     . rintro _ rfl;refine⟨λU=>AH ?_ (V _ ?_),λU=>V _ ?_⟩
       . have:=List.length_filter_le (oD C D) (xs.take j);have h4:(xs.take j).length<=xs.length:=by simp; omega
         simp only[List.length_append,List.length_map,List.length_singleton];omega
       . have hc':C<=xs[j].Col∧xs[j].Col<D:=by simpa[oD] using U
         rw[hst,if_pos U,List.map_append,List.append_assoc,AB (x:=xs[j].Col - C) (by omega) (by omega)];have:(⟨(i:Int),xs[j].Col - C,xs[j].Val⟩:A3)=shf L C xs[j]:=by unfold shf; rw[show(i:Int)=xs[j].Row - L by omega]
         rw[this]; rfl
       . rw[hst,if_neg (by simp[U]),List.append_nil]
     . refine A1 (λU=>hk _ ?_) (λU=>hk _ ?_)
       . unfold oD;apply decide_eq_decide.2;rw[eF,AB (x:=xs[j].Col - C) (by omega) (by omega)];split <;> omega
       . unfold oD; symm; apply decide_eq_false; omega
   . subst J;dsimp only;refine A1 (λh=>by simp at h) (λ_=>O _ ?_);rw[List.take_length]
 . subst J;dsimp only;refine A1 (λh=>by omega) (λ_=>?_)
   have e:UX L (L+(n:Int)) C D ts=UX L H C D ts:=by
     by_cases e:L<H
     . rw[if_pos e] at W; rw[show L+(n:Int)=H by omega]
     . rw[if_neg e] at W; rw[uU (by omega),uU (by omega)]
   rw[e];rw[hn] at d hQ;refine nY (by omega) (by omega) (by have:=d.len; omega) (λt ht=>?_) hQ;have:=d.inn t ht;unfold mT at this;exact⟨this.1,this.2.1⟩
theorem AeW {r rows cols:Int} {kvs:List (JX×Int)} (h:0<=rows∧rows<=4096∧0<=cols∧cols<=4096) (hl:kvs.length<=65536) (hk:∀ t∈kvs,mT rows cols (mkT t.1 0)) (D:∀ t∈kvs,EZ t.2):Canon rows cols (TL (SC r kvs) mkT).1:=by
 refine⟨h.1,h.2.1,h.2.2.1,h.2.2.2,?_,?_,?_⟩
 . exact Nat.le_trans (AjQ _) (by have:=(mR r kvs D).1; omega)
 . unfold TL;split
   . unfold Srt;rw[List.pairwise_map];exact uQ r kvs
   . exact .nil
 . intro t d;unfold TL at d;split at d
   . obtain⟨p,hp,rfl⟩:=List.mem_map.1 d;obtain⟨x,J,e⟩:=AjP hp;have:=hk x J;unfold mT mkT at *;rw[<-e];exact this
   . simp at d
def inE (n:Int) (e:B5):Prop:=(0<=e.From∧e.From<n)∧(0<=e.To∧e.To<n)
instance (n:Int) (e:B5):Decidable (inE n e):=by unfold inE; infer_instance
def wOk (e:B5):Prop:=0<=e.W∧e.W<=2147483647
instance (e:B5):Decidable (wOk e):=by unfold wOk; infer_instance
def IQ (g:Graph):Int:=
 if g.N<0 then 3 else if 4096<g.N∨65536<g.Edges.length then 5 else if ¬ ∀ e∈g.Edges,inE g.N e then 3 else if ¬ ∀ e∈g.Edges,wOk e then 7 else 0
theorem MP {g:Graph} (h:IQ g=0):0<=g.N∧g.N<=4096∧g.Edges.length<=65536∧(∀ e∈g.Edges,inE g.N e)∧∀ e∈g.Edges,wOk e:=by
 unfold IQ at h;split at h
 . omega
 . split at h
   . omega
   . split at h
     . omega
     . split at h
       . omega
       . rename_i h1 h2 D d;exact⟨by omega,by omega,by omega,Decidable.of_not_not D,Decidable.of_not_not d⟩
theorem YS {g:Graph} {Q:Int->Prop} (J:Q (IQ g)):PR g Q:=by
 unfold PR;unfold IQ at J;refine A1 (λh=>?_) (λh=>?_)
 . rwa [if_pos h] at J
 rw[if_neg h] at J;refine BP (λb=>b=decide (4096<g.N∨65536<g.Edges.length)) ?_ λk hk=>?_
 . rintro _ rfl;refine A1 (λh5=>?_) (λh5=>?_)
   . rwa [if_pos h5] at J
   rw[if_neg h5] at J;unfold CP DD N3 JP;refine CM g.Edges.length (by omega) (λi=>∀ (j:Nat) (d:j<g.Edges.length),j<i->inE g.N g.Edges[j]) (by simp) (λi next hi K hn=>?_) (λnext K=>?_)
   . refine A1 (λ_=>?_) (λh=>by omega)
     have hbad (hb:¬inE g.N g.Edges[i]):A8 (decide (0<=(i:Int))) (Q 3) (BU g.Edges λZ=>A8 Z (Q 7) (Q 0)):=by
       refine A1 (λ_=>?_) (λh=>by omega)
       rwa [if_pos (λh'=>hb (h' _ (List.getElem_mem hi)))] at J
     refine B3 hi ?_;refine A1 (λO=>AU rfl (AU rfl (hbad λD=>by unfold inE at D; omega))) (λO=>?_);refine A1 (λh2=>AU rfl (hbad λD=>by unfold inE at D; omega)) (λh2=>?_);refine A1 (λh3=>AU rfl (hbad λD=>by unfold inE at D; omega)) (λh3=>?_);refine A1 (λh4=>hbad λD=>by unfold inE at D; omega) (λh4=>hn λj d W=>?_);by_cases e:j=i
     . subst e; unfold inE; omega
     . exact K j d (by omega)
   . refine A1 (λh=>by omega) (λ_=>AC (by decide) ?_)
     have U:∀ e∈g.Edges,inE g.N e:=λe V=>by obtain⟨j,d,rfl⟩:=List.getElem_of_mem V;exact K j d d
     rw[if_neg (λh=>h U)] at J;unfold BU DE N4;refine CM g.Edges.length (by omega) (λi=>∀ (j:Nat) (d:j<g.Edges.length),j<i->wOk g.Edges[j]) (by simp) (λi next hi K hn=>?_) (λnext K=>?_)
     . refine A1 (λ_=>?_) (λh=>by omega)
       have hbad (hb:¬wOk g.Edges[i]):A8 (decide (0<=(i:Int))) (Q 7) (Q 0):=by
         refine A1 (λ_=>?_) (λh=>by omega)
         rwa [if_pos (λh'=>hb (h' _ (List.getElem_mem hi)))] at J
       refine B3 hi (A1 (λO=>AU rfl (hbad λD=>by unfold wOk at D; omega)) (λO=>A1 (λh2=>hbad λD=>by unfold wOk at D; omega) (λh2=>hn λj d W=>?_)));by_cases e:j=i
       . subst e; unfold wOk; omega
       . exact K j d (by omega)
     . refine A1 (λh=>by omega) (λ_=>AC (by decide) ?_)
       rwa [if_neg (λh=>h λe V=>by obtain⟨j,d,rfl⟩:=List.getElem_of_mem V;exact K j d d)] at J
 . refine A1 (λO=>hk _ ?_) (λO=>hk _ ?_)
   . rw[decide_eq_true O,decide_eq_true (.inl O)]
   . apply decide_eq_decide.2; omega
def kvF (e:B5):JX×Int:=((e.To,e.From),e.W)
def lG (e:B5):B5:=⟨e.To,e.From,e.W⟩
def P6 (g:Graph):List A3:=(TL (SC 1 (g.Edges.map kvF)) mkT).1
theorem lH {g:Graph} (h:IQ g=0):Canon g.N g.N (P6 g):=by
 obtain⟨K,J,V,O,U⟩:=MP h;refine AeW ⟨K,J,K,J⟩ (by simpa using V) (λt d=>?_) (λt d=>?_)
 . obtain⟨e,D,rfl⟩:=List.mem_map.1 d;have:=O e D;unfold inE at this;unfold mT mkT kvF;simp only;omega
 . obtain⟨e,D,rfl⟩:=List.mem_map.1 d;have:=U e D;unfold wOk at this;unfold EZ kvF;simp only;omega
def oF (g:Graph):Rows×Int:=if IQ g=0 then (BH g.N g.N (P6 g),0) else (zR,IQ g)
theorem fY {g:Graph} {Q:Rows×Int->Prop} (K:Q (oF g)):OD g Q:=by
 unfold OD;unfold oF at K;refine YS (BI (λh=>?_) (λh=>?_))
 . rwa [if_neg h] at K
 rw[if_pos h] at K;have J:=lH h;obtain⟨h1,h2,h3,h4,h5⟩:=MP h
 have hv:∀ t∈g.Edges.map lG,EZ t.W:=λt U=>by obtain⟨e,he,rfl⟩:=List.mem_map.1 U;have:=h5 e he;unfold wOk at this;unfold EZ lG;simp only;omega
 unfold OC N6 KN;refine AD (λ(s:List B5) i=>(s,i)) 0 g.Edges.length (by omega) (λi s=>s=(g.Edges.take i).map lG) (by omega) rfl (λi s next _ hi O V=>?_) (λs next O=>?_)
 . subst O;dsimp only;refine A1 (λ_=>?_) (λh=>by omega);refine B3 hi (AU rfl (AH ?_ (V _ ?_)))
   . simp; omega
   . rw[NR hi]; rfl
 . subst O;dsimp only;refine A1 (λh=>by omega) (λ_=>?_);rw[List.take_length];unfold I6;refine nW (by omega) (by simp; omega) hv ?_;dsimp only;have Z:(g.Edges.map lG).map kvE=g.Edges.map kvF:=by rw[List.map_map]; rfl
   rw[Z];have hf1:=(Ao4 (SC 1 (g.Edges.map kvF))).1;have d:=J.len;have D:=J.inn;unfold P6 at K d D;rw[hf1] at K d D;generalize (TL (SC 1 (g.Edges.map kvF)) mkE).1=es at K d D;have hel:es.length<=65536:=by simpa using d
   refine AD (λ(s:List A3) i=>(s,i)) 0 es.length (by omega) (λi s=>s=(es.take i).map e2t) (by omega) rfl (λi s next _ hi O V=>?_) (λs next O=>?_)
   . subst O;dsimp only;refine A1 (λ_=>?_) (λh=>by omega);refine B3 hi (AH ?_ (V _ ?_))
     . simp; omega
     . rw[NR hi]; rfl
   . subst O;dsimp only;refine A1 (λh=>by omega) (λ_=>?_);rw[List.take_length];refine nY h1 (by omega) (by simp; omega) (λt U=>?_) K;have:=D t U;unfold mT at this;exact⟨this.1,this.2.1⟩
theorem Ah3:XT zR:=⟨by decide,by decide,by decide⟩
theorem Ah4:¬ST zR:=λh=>by have:=h.sl; simp[zR] at this
theorem Ad9 {v:Int} (h:EZ v):LJ (nT v)=(v,true):=by
 unfold LJ nT;unfold EZ at h;simp only;rw[if_pos]
 . rw[KA]; congr 1; omega
 . split <;> omega
theorem AjT (a:AL):EZ (LJ a).1:=by
 unfold LJ EZ;split
 . simp only[KA]; omega
 . simp
theorem AeX {rows cols:Int} {T:List A3} (h:Canon rows cols T):MO rows (MO cols T)=T:=by refine Ad8 (YR _ (YR _ h.srt)) h.srt λt=>?_;rw[VU (X2 h),VU h]; rfl
theorem AdA {l h c d:Int} {T:List A3} (t:A3):t∈UX l h c d T↔(⟨t.Row+l,t.Col+c,t.Val⟩:A3)∈T∧(0<=t.Row∧t.Row+l<h)∧0<=t.Col∧t.Col+c<d:=by
 unfold UX;simp only[List.mem_map,List.mem_filter,decide_eq_true_eq];constructor
 . rintro⟨u,⟨hu,D⟩,rfl⟩;simp only;rw[show u.Row - l+l=u.Row by omega,show u.Col - c+c=u.Col by omega];exact⟨hu,by omega,by omega,by omega⟩
 . rintro⟨J,D⟩;refine⟨_,⟨J,?_⟩,?_⟩
   . simp only; omega
   . cases t; simp only[A3.mk.injEq]; exact⟨by omega,by omega,trivial⟩
end Go.Proofs.YtkbkaodgfedfmaaGreat
