import Derived.Test.YtkbkaodgfedfmaaGreatPlnC
namespace Go.Proofs.YtkbkaodgfedfmaaGreat
open Go Go.Fw
set_option linter.unusedVariables false
set_option linter.unusedSimpArgs false
theorem Ai6:dJ zSt:=⟨(by intro x d; cases d),by decide⟩
theorem pD (p:Plan) (s:State):(StP p s∧E3 p s=s)∨E3 p s=zSt:=by
 by_cases h:StP p s
 . exact .inl ⟨h,if_pos h⟩
 . exact .inr (if_neg h)
structure StR (p:Plan) (s:State):Prop where
 pl:G6 s≠0→CS p=0
 lo:0≤s.Low
 le:s.Low≤s.High
 hi:s.High≤4096
 hn:G6 s≠0→s.High≤p.N
 al:s.A.length=G6 s
 bl:s.B.length=G6 s
 ok:lK s.On
 ol:s.On.length≤1000000
theorem gS {p:Plan} {s:State} (d:dJ s):StR p (E3 p s):=by
 rcases pD p s with⟨h,e⟩ | e
 . rw[e];obtain⟨D,V,O,K,U,J,h7⟩:=h;have:=(CG D).2.1;exact⟨λ_=>D,V,O,by omega,λ_=>K,U,J,d.1,d.2⟩
 . rw[e]; exact⟨λh=>absurd rfl h,by decide,by decide,by decide,λh=>absurd rfl h,rfl,rfl,Ai6.1,Ai6.2⟩
theorem StR.siz {p:Plan} {s:State} (h:StR p s):(G6 s:Int)=s.High - s.Low∧G6 s<=4096:=by have:=h.lo; have:=h.le; have:=h.hi; unfold G6; omega
theorem StR.w {p:Plan} {s:State} (h:StR p s):A6 (s.High - s.Low)=(G6 s:Int):=by have:=h.siz; rw[AB (by omega) (by omega)]; omega
def zJ (p:Plan) (round v:Int):Int:=AkC p ((round - 1) / 2) v
def dL (p:Plan) (s:State) (round:Int) (i:Nat):Int×Bool:=
 if p.Kind=1 then (s.Low+i,EV s.On i) else if p.Kind=5 then (if round % 2=0 then (1,EV s.On i) else (zJ p round (s.Low+i),BD s.A i==0)) else (BD s.A i,EV s.On i)
theorem rD {p:Plan} {s:State} {round:Int} {i:Nat} {Q:Int×Bool->Prop} (h:StR p s) (hi:i<G6 s) (hr:0<=round∧round<=1000000) (d:Q (dL p s round i)):SK p s round i Q:=by
 unfold SK;unfold dL at d;have hs:=h.siz;have hl:=h.lo;have O:=h.al;have e:A6 (s.Low+(i:Int))=s.Low+i:=AB (by omega) (by have:=h.hi; omega);refine KT h.ok (by unfold EZ; omega) ?_;rw[e,vW];refine AV (λJ=>by rwa [if_pos J] at d) (λJ=>?_);rw[if_neg J] at d;refine AV (λD=>?_) (λD=>?_)
 . rw[if_pos D] at d;refine AV (λK=>by rwa [if_pos K] at d) (λK=>?_);rw[if_neg K] at d;refine BE (by omega) (by omega) ?_;have hp:=CG (h.pl (by omega));unfold ML;rw[AB (x:=round - 1) (by omega) (by omega),AlB];exact Z4 hp.2.1 hp.2.2.2.2.2 d
 . rw[if_neg D] at d;exact BE (by omega) (by omega) d
def KU (n:Nat) (f:Nat->Int×Bool):List AM:=(List.range n).filterMap λi=>if (f i).2 then some ⟨i,(f i).1⟩ else none
theorem S2 (n:Nat) (f:Nat->Int×Bool):KU (n+1) f=if (f n).2 then KU n f++[⟨n,(f n).1⟩] else KU n f:=by unfold KU;rw[List.range_succ,List.filterMap_append];cases h:(f n).2 <;> simp[h]
theorem gT (n:Nat) (f:Nat->Int×Bool):(KU n f).length<=n:=by unfold KU;exact Nat.le_trans (List.length_filterMap_le _ _) (by simp)
def XX (p:Plan) (s:State) (round:Int):Vec:=⟨(E3 p s).High - (E3 p s).Low,KU (G6 (E3 p s)) (dL p (E3 p s) round)⟩
theorem Ai7 {n:Nat} (hn:n<=4096) {F:Int->((Int×Bool)->Prop)->Prop} {g:Nat->Int×Bool} (Z:∀ (i:Nat) K,i<n->K (g i)->F i K) {Q:Vec->Prop} (W:Q ⟨n,KU n g⟩) :
   AW (λ(s:(List AM)×Int) (d:((List AM)×Int)->Prop)=>match s with | (s116,s120)=>A8 (decide (s120<(n:Int))) (F s120 λD=>A8 D.2 (DA 16 s116 ([({ At:=s120,Val:=D.1 }:AM)]) λ_=>d ((s116++([({ At:=s120,Val:=D.1 }:AM)])),A6 (s120+1))) (d (s116,A6 (s120+1)))) (Q ({ N:=(n:Int),Items:=s116 }:Vec))) (([]:List AM),0):=by
 refine AD (λ(s:List AM) i=>(s,i)) 0 n (by omega) (λi s=>s=KU i g) (by omega) rfl (λi s next _ hi O J=>?_) (λs next O=>?_)
 . subst O;have V:=gT i g;have U:=S2 i g;refine A1 (λ_=>Z i _ hi ?_) (λh=>by omega)
   cases hb:(g i).2 with
   | true=>exact AU rfl (AH (by simp; omega) (J _ (by rw[U,hb]; rfl)))
   | false=>exact AC rfl (J _ (by rw[U,hb]; rfl))
 . subst O;exact A1 (λh=>by omega) (λ_=>W)
theorem zK {p:Plan} {s:State} {round:Int} {Q:Vec->Prop} (D:dJ s) (O:0<=round∧round<=1000000) (d:Q (XX p s round)):fM p s round Q:=by unfold fM;refine RM D ?_;have h:=gS (p:=p) D;unfold XX at d;rw[<-h.siz.1] at d;rw[h.w];exact Ai7 (F:=λi K=>SK p (E3 p s) round i K) h.siz.2 (λi K hi J=>rD h hi O J) d
def Ac3 (p:Plan) (s:State) (round:Int) (i:Nat) (o:Option Int):Int×Int×Bool:=
 let a:=BD s.A i; let b:=BD s.B i; let v:=(VZ o).1; let d:=(VZ o).2
 if p.Kind=1 then (if d=true∧a = -1 then (round,v,true) else (a,b,false))
 else if p.Kind=2∨p.Kind=3 then (if d=true∧v<a then (v,b,true) else (a,b,false))
 else if p.Kind=4 then (v,b,v != 0)
 else if a≠0 then (a,b,false)
 else if round % 2=0 then (if d=true then (2,b,false) else (a,b,false))
 else if d=false∨zJ p round (s.Low+i)<v then (1,b,true) else (a,b,false)
theorem pF {p:Plan} {s:State} {round:Int} {i:Nat} {o:Option Int} {Q:Int×Int×Bool->Prop} (h:StR p s) (hi:i<G6 s) (hr:0<=round∧round<=1000000) (d:Q (Ac3 p s round i o)) :
   Q5 p s round i (VZ o).1 (VZ o).2 Q:=by
 unfold Q5 DB;unfold Ac3 at d;have hs:=h.siz;have hl:=h.lo;have hal:=h.al;have hbl:=h.bl;have e:A6 (s.Low+(i:Int))=s.Low+i:=AB (by omega) (by have:=h.hi; omega);have hp:=CG (h.pl (by omega));refine BE (by omega) (by omega) (BE (by omega) (by omega) ?_)
 have hd:∀ K:Int->Prop,K (zJ p round (s.Low+i))->ML round λJ=>I7 p J (A6 (s.Low+(i:Int))) K:=λK hK=>by unfold ML;rw[e,AB (x:=round - 1) (by omega) (by omega),AlB];exact Z4 hp.2.1 hp.2.2.2.2.2 hK
 rw[vW];generalize BD s.A i=a at d ⊢;generalize BD s.B i=b at d ⊢;generalize (VZ o).1=v at d ⊢;generalize (VZ o).2=D at d ⊢;simp only at d;refine AV (λh1=>?_) (λh1=>?_)
 . rw[if_pos h1] at d
   cases D with
   | true=>exact AU rfl (AV (λO=>by rwa [if_pos ⟨rfl,O⟩] at d) (λO=>by rwa [if_neg λh=>O h.2] at d))
   | false=>exact AC rfl (by rwa [if_neg λh=>by cases h.1] at d)
 rw[if_neg h1] at d
 have h23 (hk:p.Kind=2∨p.Kind=3):A8 D (A8 (decide (v<a)) (Q (v,b,true)) (Q (a,b,false))) (Q (a,b,false)):=by
   rw[if_pos hk] at d
   cases D with
   | true=>exact AU rfl (A1 (λO=>by rwa [if_pos ⟨rfl,O⟩] at d) (λO=>by rwa [if_neg λh=>O h.2] at d))
   | false=>exact AC rfl (by rwa [if_neg λh=>by cases h.1] at d)
 have hrest (V:¬(p.Kind=2∨p.Kind=3)):A8 (p.Kind==4) (Q (v,b,v != 0)) (A8 (p.Kind==5) (A8 (a != 0) (Q (a,b,false)) (A8 (round % 2==0) (A8 D (Q (2,b,false)) (A8 (round % 2==1) (A8 (!D) (Q (1,b,true)) (ML round λJ=>I7 p J (A6 (s.Low+(i:Int))) λU=>A8 (decide (U<v)) (Q (1,b,true)) (Q (a,b,false)))) (Q (a,b,false)))) (A8 false (Q (2,b,false)) (A8 (round % 2==1) (A8 (!D) (Q (1,b,true)) (ML round λJ=>I7 p J (A6 (s.Low+(i:Int))) λU=>A8 (decide (U<v)) (Q (1,b,true)) (Q (a,b,false)))) (Q (a,b,false)))))) (Q (a,b,false))):=by
   rw[if_neg V] at d;refine AV (λh4=>by rwa [if_pos h4] at d) (λh4=>?_);rw[if_neg h4] at d;refine AV (λh5=>?_) (λh5=>absurd hp.1 (by omega));refine BI (λO=>by rwa [if_pos O] at d) (λO=>?_);rw[if_neg (λh'=>h' O)] at d;refine AV (λW=>?_) (λW=>?_)
   . rw[if_pos W] at d
     cases D with
     | true=>exact AU rfl (by rwa [if_pos rfl] at d)
     | false=>exact AC rfl (AV (λZ=>by omega) (λZ=>by rwa [if_neg (by simp)] at d))
   . rw[if_neg W] at d;refine AC rfl (AV (λZ=>?_) (λZ=>by omega))
     cases D with
     | false=>exact AU rfl (by rwa [if_pos (.inl rfl)] at d)
     | true=>exact AC rfl (hd _ (A1 (λh8=>by rwa [if_pos (.inr h8)] at d) (λh8=>by rwa [if_neg (by simp[h8])] at d)))
 refine AV (λV=>?_) (λV=>?_)
 . have hb:(p.Kind==2)=true:=by simpa using V
   rw[hb]; exact AU rfl (h23 (.inl V))
 . refine AV (λh3=>?_) (λh3=>?_)
   . exact h23 (.inr h3)
   . exact hrest (by omega)
def Am4 (p:Plan) (s:State) (round:Int) (y:Vec) (i:Nat):Int×Int×Bool:=Ac3 p s round i (FW y.Items i)
def dM (p:Plan) (s:State) (round:Int) (y:Vec):State:=
 if VecP y∧y.N=(E3 p s).High - (E3 p s).Low then chS (E3 p s).Low (E3 p s).High (G6 (E3 p s)) (Am4 p (E3 p s) round y) else E3 p s
theorem PB {xs:List Int} {Q:List Int->Prop} (hl:xs.length<=1000000) (d:Q xs):AX xs Q:=by unfold AX;exact M3 (λh=>by rwa [h] at d) (AH (by simp; omega) d)
theorem dN {xs:List Int} {Q:List Int->Prop} (hl:xs.length<=1000000) (d:Q xs):BJ xs Q:=by unfold BJ;exact M3 (λh=>by rwa [h] at d) (AH (by simp; omega) d)
theorem pG {p:Plan} {s:State} {round:Int} {y:Vec} {Q:State->Prop} (ho:dJ s) (hr:0<=round∧round<=1000000) (hy:y.Items.length<=1000000) (D:Q (dM p s round y)):UC p s round y Q:=by
 unfold UC;refine RM ho ?_;have h:=gS (p:=p) ho;unfold dM at D;generalize E3 p s=u at h D ⊢;have hs:=h.siz;have hal:=h.al;have hbl:=h.bl;rw[h.w]
 have hcl (Z:¬(VecP y∧y.N=u.High - u.Low)):AX u.A λO=>AX u.B λU=>BJ u.On λJ=>Q ({ Low:=u.Low,High:=u.High,A:=O,B:=U,On:=J }:State):=by rw[if_neg Z] at D;exact PB (by omega) (PB (by omega) (dN h.ol D))
 have hch (Z:VecP y∧y.N=u.High - u.Low):KQ y p u round u (G6 u:Int) λW=>Q W:=by rw[if_pos Z] at D;unfold KQ NI;refine gR (F:=λa0 K=>VQ y a0 λV=>Q5 p u round a0 V.1 V.2 λd=>K (d.1,d.2.1,d.2.2)) hs.2 (λi K hi hK=>?_) D;refine vX (by omega) ?_;rw[HQ Z.1];exact pF h hi hr hK
 unfold DB;refine EI (by omega) ?_;by_cases hv:VecP y
 . rw[decide_eq_true hv];refine AC rfl (BI (λhn=>hcl λh'=>hn (by rw[h'.2]; omega)) (λhn=>hch ⟨hv,by omega⟩))
 . rw[decide_eq_false hv];exact AU rfl (AU rfl (hcl λh'=>hv h'.1))
theorem Am5 {xs ys:List Int} {Q:Bool->Prop} (d:xs.length<=1000000000000) (h:Q (decide (xs=ys))):WU xs ys Q:=by unfold WU; exact sK d h
def tJ (s:State):Prop:=s.A.length<=1000000∧s.B.length<=1000000∧s.On.length<=1000000
theorem An7 (a b:State):a=b↔a.Low=b.Low∧a.High=b.High∧a.A=b.A∧a.B=b.B∧a.On=b.On:=by cases a; cases b; simp
theorem lR {a b:State} {Q:Bool->Prop} (U:tJ a) (d:Q (decide (a=b))):OT a b Q:=by
 unfold OT;obtain⟨h1,h2,h3⟩:=U;have hf (h:a≠b):Q false:=by rwa [decide_eq_false h] at d
 refine AV (λK=>AV (λD=>Ah0 (by omega) (A1 (λJ=>Ah0 (by omega) (A1 (λO=>Am5 (by omega) ?_) (λe=>hf ?_))) (λe=>hf ?_))) (λe=>hf ?_)) (λe=>hf ?_)
 . by_cases e5:a.On=b.On
   . rw[decide_eq_true ((An7 a b).2 ⟨K,D,J,O,e5⟩)] at d; rwa [decide_eq_true e5]
   . rw[decide_eq_false e5]; exact hf λh=>e5 (by rw[h])
 all_goals exact λh=>e (by rw[h])
def HX (n:Nat) (f:Nat->Bool):Nat:=(List.range n).countP f
theorem KV (n:Nat) (f:Nat->Bool):HX (n+1) f=HX n f+if f n then 1 else 0:=by unfold HX; rw[List.range_succ,List.countP_append]; simp[List.countP_cons]
theorem mW (n:Nat) (f:Nat->Bool):HX n f<=n:=by unfold HX; exact Nat.le_trans List.countP_le_length (by simp)
theorem XA {n:Nat} {f g:Nat->Bool} (h:∀ i,i<n->f i=g i):HX n f=HX n g:=by
 induction n with
 | zero=>rfl
 | succ n d=>rw[KV,KV,d λi hi=>h i (by omega),h n (by omega)]
theorem pH (a b:Nat) (f:Nat->Bool):HX (a+b) f=HX a f+HX b λj=>f (a+j):=by
 induction b with
 | zero=>rfl
 | succ b d=>rw[<-Nat.add_assoc,KV,d,KV]; omega
theorem tK {n:Nat} {f:Nat->Bool} (h:∀ i,i<n->f i=false):HX n f=0:=by
 induction n with
 | zero=>rfl
 | succ n d=>rw[KV,d λi hi=>h i (by omega),h n (by omega)]; rfl
def pcf:Nat->Nat->Nat
 | 0,_=>0
 | k+1,n=>n % 2+pcf k (n / 2)
theorem AkE {k:Nat}:∀ {n:Nat},0<n->n<2 ^ k->pcf k (n &&& (n - 1))+1=pcf k n:=by
 induction k with
 | zero=>intro n U h; simp at h; omega
 | succ k O=>
  intro n U h;have K:(n &&& (n - 1)) / 2=n / 2 &&& (n - 1) / 2:=Nat.and_div_two;have D:(n &&& (n - 1)) % 2=(n % 2) &&& ((n - 1) % 2):=by have:=Nat.and_mod_two_pow (a:=n) (b:=n - 1) (n:=1); simpa using this
  rw[Nat.pow_succ] at h;simp only[pcf,K,D];rcases Nat.mod_two_eq_zero_or_one n with e | e
  . have d:(n - 1) / 2=n / 2 - 1:=by omega
    rw[d,e];have:=O (n:=n / 2) (by omega) (by omega);simp only[Nat.zero_and];omega
  . have d:(n - 1) / 2=n / 2:=by omega
    have J:(n - 1) % 2=0:=by omega
    rw[d,e,J,Nat.and_self];simp only[Nat.and_zero];omega
theorem Ai8 (k:Nat):pcf k 0=0:=by induction k with
 | zero=>rfl
 | succ k d=>simp[pcf,d]
theorem vY (k:Nat):∀ n:Nat,pcf k n=HX k λj=>n.testBit j:=by
 induction k with
 | zero=>intro n; rfl
 | succ k d=>
  intro n;rw[Nat.add_comm k 1,pH,Nat.add_comm 1 k,pcf,d];congr 1
  . rw[show HX 1 (λj=>n.testBit j)=HX (0+1) (λj=>n.testBit j) from rfl,KV];simp only[HX,List.range_zero,List.countP_nil,Nat.zero_add,Nat.testBit_zero,decide_eq_true_eq];split <;> omega
  . exact XA λj _=>by rw[Nat.add_comm 1 j,Nat.testBit_succ]
theorem Am6 {x y:Nat} (hx:x<18446744073709551616) (hy:y<18446744073709551616):XQ .u64 (x:Int) (y:Int)=((x &&& y:Nat):Int):=by
 have h:(BitVec.ofInt 64 (x:Int) &&& BitVec.ofInt 64 (y:Int)).toNat=x &&& y:=by
  rw[BitVec.toNat_and,BitVec.toNat_ofInt,BitVec.toNat_ofInt];have hp:((2 ^ 64:Nat):Int)=18446744073709551616:=by decide
  rw[hp,show((x:Int) % 18446744073709551616).toNat=x by omega,show((y:Int) % 18446744073709551616).toNat=y by omega]
 unfold XQ;rw[show IntKind.u64.bits=64 from rfl,h];have:=Nat.and_le_left (n:=x) (m:=y);exact U1 (by omega) (by omega)
theorem rE {w:Nat} {Q:Int->Prop} (hw:w<18446744073709551616) (J:Q (pcf 64 w:Nat)):WN (w:Int) Q:=by
 unfold WN;refine DC (λs:Int×Int=>∃ m c:Nat,s=((m:Int),(c:Int))∧m<=w∧c+pcf 64 m=pcf 64 w) (λs=>s.1.toNat) ⟨w,0,rfl,Nat.le_refl _,by omega⟩ ?_;rintro _ next ⟨m,c,rfl,h1,O⟩ hn;have hb:pcf 64 w<=64:=by rw[vY]; exact mW _ _
 refine AV (λh=>?_) (λh=>?_)
 . have:m=0:=by omega
   subst this;rw[Ai8] at O;rw[show c=pcf 64 w by omega]; exact J
 . have K:0<m:=by omega
   have e:IntKind.wrap .u64 ((m:Int) - 1)=((m - 1:Nat):Int):=by rw[U1 (by omega) (by omega)]; omega
   have d:=AkE (k:=64) K (by omega);rw[e,Am6 (by omega) (by omega),AB (by omega) (by omega)];have D:=Nat.and_le_right (n:=m) (m:=m - 1);exact hn _ ⟨m &&& (m - 1),c+1,by rw[show((c+1:Nat):Int)=(c:Int)+1 by omega],by omega,by omega⟩ (by simp only[Int.toNat_natCast]; omega)
theorem Ai9 {f:List Int} {k j:Nat} (hj:j<64):EV f ((64*k+j:Nat):Int)=(BD f k).toNat.testBit j:=by
 unfold EV;have h:(((64*k+j:Nat):Int) / 64)=(k:Int):=by omega
 have d:(((64*k+j:Nat):Int) % 64).toNat=j:=by omega
 rw[h,d];simp;intro _; omega
def Am7 (f:List Int):Nat:=HX (64*f.length) λi=>EV f i
theorem Z7 {f:List Int} {Q:Int->Prop} (O:lK f) (hl:f.length<=1000000) (V:Q (Am7 f:Nat)):PZ f Q:=by
 unfold PZ;refine AD (λ(s:Int) i=>(s,i)) 0 f.length (by omega) (λk s=>s=(HX (64*k) λi=>EV f i:Nat)) (by omega) rfl (λk s next _ hk D d=>?_) (λs next D=>?_)
 . subst D;refine A1 (λ_=>BE (by omega) (by omega) ?_) (λh=>by omega);have hb:=YV O k;obtain⟨w,J⟩:∃ w:Nat,BD f k=(w:Int):=⟨(BD f k).toNat,by omega⟩;rw[J];refine rE (by omega) (d _ ?_);have hc:=mW (64*k) λi=>EV f i
   have hp:pcf 64 w=HX 64 λj=>EV f ((64*k+j:Nat):Int):=by rw[vY];exact XA λj U=>by rw[Ai9 U,J]; rfl
   have K:pcf 64 w<=64:=by rw[vY]; exact mW _ _
   rw[AB (by omega) (by omega),Nat.mul_succ,pH,<-hp]; omega
 . subst D;exact A1 (λh=>by omega) (λ_=>V)
theorem AfI {n m:Nat} {f:Nat->Bool} (h:n<=m) (d:∀ i,n<=i->i<m->f i=false):HX m f=HX n f:=by obtain⟨k,rfl⟩:∃ k,m=n+k:=⟨m - n,by omega⟩;rw[pH,tK (λi hi=>d (n+i) (by omega) (by omega)),Nat.add_zero]
def An8 (s:State):Prop:=(∀ i,EV s.On i=true->i<(G6 s:Int))∧G6 s<=64*s.On.length
theorem AfJ {p:Plan} {s:State}:An8 (E3 p s):=by
 rcases pD p s with⟨h,e⟩ | e
 . rw[e];obtain⟨J,h2,h3,h4,h5,h6,h7,d,D⟩:=h;have hn:=(CG J).2.1;refine⟨λi hi=>?_,?_⟩
   . have:=D i (S1.2 hi); unfold G6; omega
   . rw[d]; unfold G6 JC; split <;> split <;> omega
 . rw[e]; exact⟨λi hi=>by have:=AdI hi; simp[zSt] at this; omega,by decide⟩
theorem AiA {s:State} (h:An8 s):Am7 s.On=HX (G6 s) λi=>EV s.On i:=
 AfI h.2 λi h1 h2=>by
  cases hb:EV s.On i with
  | false=>rfl
  | true=>have:=h.1 i hb; omega
def lS (p:Plan) (s:State) (i:Nat):Bool:=if p.Kind=5 then BD s.A i==0 else EV s.On i
def AiB (p:Plan) (s:State):Nat:=HX (G6 s) (lS p s)
def UJ (p:Plan) (s:State) (round:Int):Int:=if p.Kind=4∧p.Length<=round then 0 else (AiB p (E3 p s):Nat)
theorem vZ {p:Plan} {s:State} {round:Int} {Q:Int->Prop} (ho:dJ s) (d:Q (UJ p s round)):aB p s round Q:=by
 unfold aB;refine RM ho ?_;have h:=gS (p:=p) ho;have O:=AfJ (p:=p) (s:=s);unfold UJ at d;generalize E3 p s=u at h O d ⊢;have hs:=h.siz;have hal:=h.al;have K:=h.ol
 have hc (D:p.Kind≠5):AiB p u=Am7 u.On:=by rw[AiA O];exact XA λi hi=>if_neg D
 refine AV (λV=>A1 (λhl=>by rwa [if_pos ⟨V,hl⟩] at d) (λhl=>?_)) (λV=>?_)
 . rw[if_neg (λh=>hl h.2),hc (by omega)] at d;exact Z7 h.ok K d
 rw[if_neg (λh=>V h.1)] at d;refine AV (λD=>?_) (λD=>by rw[hc D] at d; exact Z7 h.ok K d);rw[hal];refine AD (λ(s:Int) i=>(s,i)) 0 (G6 u) (by omega) (λi s=>s=(HX i (lS p u):Nat)) (by omega) rfl (λi s next _ hi W J=>?_) (λs next W=>?_)
 . subst W;have hcl:=mW i (lS p u);have U:=KV i (lS p u);refine A1 (λ_=>BE (by omega) (by omega) ?_) (λh=>by omega);refine AV (λZ=>J _ ?_) (λZ=>J _ ?_)
   . rw[AB (by omega) (by omega),U,if_pos (by unfold lS; rw[if_pos D]; simpa using Z)]; omega
   . rw[U,if_neg (by unfold lS; rw[if_pos D]; simpa using Z)]; rfl
 . subst W;exact A1 (λh=>by omega) (λ_=>d)
def JU (p:Plan) (s:State):List Int×Bool:=
 if p.Kind=1 then (lM (G6 s) (LM (G6 s) λi=>BD s.A i == -1),false) else if p.Kind=5 then (lM (G6 s) (LM (G6 s) λi=>BD s.A i==0),false) else ([],true)
theorem rF {p:Plan} {s:State} {round:Int} {Q:List Int×Bool->Prop} (ho:dJ s) (K:Q (JU p (E3 p s))):WS p s round Q:=by
 unfold WS;refine RM ho ?_;have h:=gS (p:=p) ho;unfold JU at K;generalize E3 p s=u at h K ⊢;have hs:=h.siz;have hal:=h.al
 have hk (d:Int) (hq:Q (lM (G6 u) (LM (G6 u) λi=>BD u.A i==d),false)):AW (λ(s:(List Int)×Int) (D:((List Int)×Int)->Prop)=>match s with | (s249,s253)=>A8 (decide (s253<(u.A.length:Int))) (AZ u.A s253 λV=>A8 (V==d) (DA 8 s249 ([s253]) λ_=>D ((s249++([s253])),A6 (s253+1))) (D (s249,A6 (s253+1)))) (K1 (A6 (u.High - u.Low)) s249 λU=>Q (U,false))) (([]:List Int),0):=by
  rw[h.w,hal];refine AD (λ(s:List Int) i=>(s,i)) 0 (G6 u) (by omega) (λi s=>s=LM i λi=>BD u.A i==d) (by omega) rfl (λi s next _ hi hm O=>?_) (λs next hm=>?_)
  . subst hm;have W:=T2 i λi=>BD u.A i==d;have J:=W6 i λi=>BD u.A i==d;refine A1 (λ_=>BE (by omega) (by omega) ?_) (λh=>by omega);refine AV (λha=>AH (by simp; omega) (O _ ?_)) (λha=>O _ ?_)
    . rw[J,if_pos (by simpa using ha)]
    . rw[J,if_neg (by simpa using ha)]
  . subst hm;have W:=T2 (G6 u) λi=>BD u.A i==d;exact A1 (λh=>by omega) (λ_=>UE (by omega) (λx hx=>by have:=aW hx; unfold EZ; omega) hq)
 unfold DB;refine AV (λZ=>hk _ (by rwa [if_pos Z] at K)) (λZ=>?_);rw[if_neg Z] at K;exact AV (λh5=>hk _ (by rwa [if_pos h5] at K)) (λh5=>by rwa [if_neg h5] at K)
theorem Ac4 (low high:Int) (n:Nat) (g:Nat->Int×Int×Bool):dJ (chS low high n g):=by have h:=HP n (LM n λi=>(g i).2.2);exact⟨h.1,by show(lM _ _).length<=_; rw[h.2.1]; have:=YW (n:Int); omega⟩
theorem wA {p:Plan} {low high:Int} {g:Nat->Int×Int×Bool} (hp:CS p=0) (d:0<=low) (D:low<=high) (h:high<=p.N):StP p (chS low high (high - low).toNat g):=by have hn:=(CG hp).2.1;refine⟨hp,d,D,h,by simp[chS,QC,G6],by simp[chS,QC,G6],?_⟩;have:=sS (n:=((high - low).toNat:Int)) ⟨by omega,by omega⟩ (LM (high - low).toNat λi=>(g i).2.2);rw[show(((high - low).toNat:Nat):Int)=high - low by omega] at this;unfold chS;simp only;rw[show(((high - low).toNat:Nat):Int)=high - low by omega];exact this
theorem AiC {p:Plan} {low high:Int} (hp:CS p=0) (h:0<=low) (D:low<=high) (d:high<=p.N):StP p (NY p low high)∧dJ (NY p low high):=by unfold NY;rw[if_pos ⟨hp,h,D,d⟩];exact⟨wA hp h D d,Ac4 _ _ _ _⟩
theorem Am8 {p:Plan} {s:State} {round:Int} {y:Vec} (h:StP p s) (d:dJ s):StP p (dM p s round y)∧dJ (dM p s round y)∧(dM p s round y).Low=s.Low∧(dM p s round y).High=s.High:=by
 have e:E3 p s=s:=if_pos h;unfold dM;rw[e];split
 . exact⟨wA h.1 h.2.1 h.2.2.1 h.2.2.2.1,Ac4 _ _ _ _,rfl,rfl⟩
 . exact⟨h,d,rfl,rfl⟩
theorem AiD {p:Plan} {s:State} (h:StP p s) (d:dJ s):tJ s:=by have hn:=(CG h.1).2.1;have:=h.2.2.2.2.1; have:=h.2.2.2.2.2.1; have:=h.2.1; have:=h.2.2.1; have:=h.2.2.2.1;unfold G6 at *;exact⟨by omega,by omega,d.2⟩
theorem AiE (x:Int) {m:Nat} (hm:m<9223372036854775808):0<=XQ .i64 x m∧XQ .i64 x m<=m:=by
 have h:(BitVec.ofInt 64 x &&& BitVec.ofInt 64 (m:Int)).toNat<=m:=by
  rw[BitVec.toNat_and,BitVec.toNat_ofInt (n:=64) (i:=(m:Int))];have hp:((2 ^ 64:Nat):Int)=18446744073709551616:=by decide
  rw[hp,show((m:Int) % 18446744073709551616).toNat=m by omega];exact Nat.and_le_right
 unfold XQ;rw[show IntKind.i64.bits=64 from rfl];generalize (BitVec.ofInt 64 x &&& BitVec.ofInt 64 (m:Int)).toNat=k at h;have e:IntKind.i64.wrap (k:Int)=k:=AB (by omega) (by omega);rw[e]; omega
theorem W7 {k n:Int} {Q:Int->Prop} (J:n<1->Q 0) (d:1<=n->∀ r,0<=r->r<n->Q r):FZ k n Q:=by unfold FZ;refine A1 (λh=>J h) (λh=>A1 (λD=>d (by omega) 0 (by omega) (by omega)) (λD=>⟨by omega,?_⟩));rw[Int.tmod_eq_emod_of_nonneg (by omega)];exact d (by omega) _ (Int.emod_nonneg _ (by omega)) (Int.emod_lt_of_pos _ (by omega))
theorem AkF {p:Plan} {n:Int} {Q:Plan->Prop} (hn:0<=n∧n<=59) (hQ:∀ r:Plan,CS r=0->r.N=n->Q r):WM p n Q:=by
 unfold WM
 have hk:∀ (k src D:Int) (O:List Int),(1<=k∧k<=5)->((n<1->src=0)∧0<=src∧(1<=n->src<n))->(0<=D∧D<12)->(O.length<=40∧∀ d∈O,0<=d∧d<=2147483647) ->
    A8 (n==0) (A8 (k != 5) (Q ({ Kind:=3,N:=n,Source:=src,Length:=D,Draws:=O }:Plan)) (Q ({ Kind:=k,N:=n,Source:=src,Length:=D,Draws:=O }:Plan))) (Q ({ Kind:=k,N:=n,Source:=src,Length:=D,Draws:=O }:Plan)):=by
  intro k src D O hk hs hl hd
  have hr:∀ W,(1<=W∧W<=5)->(n=0->W=3∨W=5)->CS ⟨W,n,src,D,O⟩=0:=by intro W h1 h2;unfold CS;simp only;rw[if_neg (by omega),if_neg (by omega),if_neg (by omega),if_neg];rintro⟨d,hdm,hb⟩;have:=hd.2 d hdm;omega
  refine AV (λh=>BI (λh5=>hQ _ (hr 3 (by omega) (λ_=>.inl rfl)) rfl) (λh5=>hQ _ (hr k hk (λ_=>.inr h5)) rfl)) (λh=>hQ _ (hr k hk (λh'=>absurd h' h)) rfl)
 refine BP (λk=>1<=k∧k<=5) (λk J=>?_) (λW J=>A1 (λh=>J _ (by omega)) (λh=>A1 (λh=>J _ (by omega)) (λh=>J _ (by omega))))
 have K:∀ src,((n<1->src=0)∧0<=src∧(1<=n->src<n))->FZ p.Length 12 λr37=>DB (λ(k207:(List Int)->Prop)=>AW (λ(s:(List Int)×Int) (U:((List Int)×Int)->Prop)=>match s with | (s260,s264)=>A8 (decide (s264<(p.Draws.length:Int))) (A8 (decide (s264<40)) (AZ p.Draws s264 λZ=>DA 8 s260 ([XQ .i64 Z 2147483647]) λ_=>U ((s260++([XQ .i64 Z 2147483647])),A6 (s264+1))) (k207 s260)) (k207 s260)) (([]:List Int),0)) λV=>A8 (n==0) (A8 (k != 5) (Q ({ Kind:=3,N:=n,Source:=src,Length:=r37,Draws:=V }:Plan)) (Q ({ Kind:=k,N:=n,Source:=src,Length:=r37,Draws:=V }:Plan))) (Q ({ Kind:=k,N:=n,Source:=src,Length:=r37,Draws:=V }:Plan)):=by
  intro src hs;refine W7 (λh=>by omega) (λ_ D h0 h1=>?_);refine BP (λO:List Int=>O.length<=40∧∀ d∈O,0<=d∧d<=2147483647) (λO hd=>hk _ _ _ _ J hs ⟨h0,h1⟩ hd) (λW hk'=>?_);refine AD (λ(s:List Int) i=>(s,i)) 0 (min p.Draws.length 40) (by omega) (λi s=>s.length<=i∧∀ d∈s,0<=d∧d<=2147483647) (by omega) (by simp) (λi s next _ hi hm hn=>?_) (λs next hm=>?_)
  . refine A1 (λ_=>A1 (λ_=>B3 (by omega) (AH (by simp; omega) (hn _ ⟨by simp; omega,λd hd=>?_⟩))) (λh=>by omega)) (λh=>by omega);rcases List.mem_append.1 hd with h | h
    . exact hm.2 d h
    . simp only[List.mem_singleton] at h;subst h;exact AiE _ (m:=2147483647) (by omega)
  . exact A1 (λ_=>A1 (λ_=>by omega) (λ_=>hk' _ ⟨by omega,hm.2⟩)) (λh=>hk' _ ⟨by omega,hm.2⟩)
 exact W7 (λh=>K 0 ⟨λ_=>rfl,by omega,λh'=>by omega⟩) (λh r h0 h1=>K r ⟨λh'=>by omega,h0,λ_=>h1⟩)
abbrev GV:=Nat->Int×Int×Bool
def CN (l n:Nat) (G:GV):State:=chS (l:Int) ((l+n:Nat):Int) n λi=>G (l+i)
theorem gU {p:Plan} {l n:Nat} {G:GV} (hp:CS p=0) (h:((l+n:Nat):Int)<=p.N):StP p (CN l n G)∧dJ (CN l n G)∧tJ (CN l n G):=by have d:=wA (p:=p) (low:=(l:Int)) (high:=((l+n:Nat):Int)) (g:=λi=>G (l+i)) hp (by omega) (by omega) h;rw[show(((l+n:Nat):Int) - (l:Int)).toNat=n by omega] at d;have D:=Ac4 (l:Int) ((l+n:Nat):Int) n λi=>G (l+i);exact⟨d,D,AiD d D⟩
def gV0 (p:Plan):GV:=λv=>((dK p v).1,-1,(dK p v).2)
theorem tL {p:Plan} {l n:Nat} {a b:Int} (hp:CS p=0) (D:a=l) (d:b=((l+n:Nat):Int)) (h:b<=p.N):NY p a b=CN l n (gV0 p):=by subst D d;unfold NY CN;rw[if_pos ⟨hp,by omega,by omega,h⟩,show(((l+n:Nat):Int) - (l:Int)).toNat=n by omega];refine congrArg _ (funext λi=>?_);unfold gV0;rw[show((l+i:Nat):Int)=(l:Int)+i by omega]
def Am9 (p:Plan) (round:Int) (v:Nat) (g:Int×Int×Bool) (o:Option Int):Int×Int×Bool:=
 if p.Kind=1 then (if (VZ o).2=true∧g.1 = -1 then (round,(VZ o).1,true) else (g.1,g.2.1,false))
 else if p.Kind=2∨p.Kind=3 then (if (VZ o).2=true∧(VZ o).1<g.1 then ((VZ o).1,g.2.1,true) else (g.1,g.2.1,false))
 else if p.Kind=4 then ((VZ o).1,g.2.1,(VZ o).1 != 0)
 else if g.1≠0 then (g.1,g.2.1,false)
 else if round % 2=0 then (if (VZ o).2=true then (2,g.2.1,false) else (g.1,g.2.1,false))
 else if (VZ o).2=false∨zJ p round v<(VZ o).1 then (1,g.2.1,true) else (g.1,g.2.1,false)
theorem AkG {p:Plan} {l n i:Nat} {G:GV} {round:Int} {o:Option Int} (hi:i<n):Ac3 p (CN l n G) round i o=Am9 p round (l+i) (G (l+i)) o:=by
 have D:BD (CN l n G).A i=(G (l+i)).1:=aX hi;have d:BD (CN l n G).B i=(G (l+i)).2.1:=aX hi;have h:(CN l n G).Low+(i:Int)=((l+i:Nat):Int):=by show(l:Int)+i=_; omega
 unfold Ac3 Am9;simp only[D,d,h]
def tM (p:Plan) (round:Int) (G:GV) (Y:Nat->Option Int):GV:=λv=>Am9 p round v (G v) (Y v)
theorem AfK {low high:Int} {n:Nat} {g d:Nat->Int×Int×Bool} (h:∀ i,i<n->g i=d i):chS low high n g=chS low high n d:=by unfold chS;rw[pC λi hi=>congrArg (·.1) (h i hi),pC λi hi=>congrArg (·.2.1) (h i hi),Ac2 λi hi=>congrArg (·.2.2) (h i hi)]
theorem AdT {p:Plan} {l n:Nat} {G:GV} {round:Int} {y:Vec} {Y:Nat->Option Int} (hp:CS p=0) (h:((l+n:Nat):Int)<=p.N) (O:VecP y) (U:y.N=n) (K:∀ i,i<n->FW y.Items i=Y (l+i)) :
  dM p (CN l n G) round y=CN l n (tM p round G Y):=by
 have d:E3 p (CN l n G)=CN l n G:=if_pos (gU hp h).1;have e:(CN l n G).High - (CN l n G).Low=(n:Int):=by show((l+n:Nat):Int) - (l:Int)=n; omega
 have J:G6 (CN l n G)=n:=by unfold G6; rw[e]; omega
 unfold dM;rw[d,if_pos ⟨O,by rw[U,e]⟩,J]
 have D:∀ i,i<n->Am4 p (CN l n G) round y i=tM p round G Y (l+i):=λi hi=>by unfold Am4 tM;rw[AkG hi,K i hi]
 show chS (l:Int) ((l+n:Nat):Int) n _=chS (l:Int) ((l+n:Nat):Int) n _;exact AfK D
theorem zL {n i:Nat} {f:Nat->Bool}:(i:Int)∈LM n f↔i<n∧f i=true:=by
 unfold LM;simp only[List.mem_map,List.mem_filter,List.mem_range];constructor
 . rintro⟨j,⟨h,d⟩,h3⟩;have:j=i:=by omega
   subst this; exact⟨h,d⟩
 . rintro⟨h,d⟩; exact⟨i,⟨h,d⟩,rfl⟩
theorem jW {n i:Nat} {f:Nat->Bool} (hi:i<n) (hn:n<=4096):EV (lM n (LM n f)) i=f i:=by
 rw[(HP _ _).2.2]
 cases hb:f i with
 | true=>exact decide_eq_true ⟨zL.2 ⟨hi,hb⟩,by omega,by omega,by omega⟩
 | false=>exact decide_eq_false λh=>by have:=(zL.1 h.1).2; rw[hb] at this; cases this
def gV (p:Plan) (round:Int) (v:Nat) (g:Int×Int×Bool):Int×Bool:=
 if p.Kind=1 then ((v:Int),g.2.2) else if p.Kind=5 then (if round % 2=0 then (1,g.2.2) else (zJ p round v,g.1==0)) else (g.1,g.2.2)
theorem pI {n:Nat} {f g:Nat->Int×Bool} (h:∀ i,i<n->f i=g i):KU n f=KU n g:=by
 induction n with
 | zero=>rfl
 | succ n d=>rw[S2,S2,d λi hi=>h i (by omega),h n (by omega)]
theorem wC {p:Plan} {l n:Nat} {G:GV} {round:Int} (hp:CS p=0) (h:((l+n:Nat):Int)<=p.N):XX p (CN l n G) round=⟨n,KU n λi=>gV p round (l+i) (G (l+i))⟩:=by
 have d:E3 p (CN l n G)=CN l n G:=if_pos (gU hp h).1;have hn:=(CG hp).2.1;have e:(CN l n G).High - (CN l n G).Low=(n:Int):=by show((l+n:Nat):Int) - (l:Int)=n; omega
 have D:G6 (CN l n G)=n:=by unfold G6; rw[e]; omega
 unfold XX;rw[d,e,D];congr 1;refine pI λi hi=>?_;have K:BD (CN l n G).A i=(G (l+i)).1:=aX hi;have J:(CN l n G).Low+(i:Int)=((l+i:Nat):Int):=by show(l:Int)+i=_; omega
 have O:EV (CN l n G).On i=(G (l+i)).2.2:=jW hi (by omega);unfold dL gV;rw[K,J,O]
theorem zM {p:Plan} {l n:Nat} {G:GV} {round:Int} (hp:CS p=0) (h:((l+n:Nat):Int)<=p.N) :
  UJ p (CN l n G) round=if p.Kind=4∧p.Length<=round then 0 else ((HX n λi=>if p.Kind=5 then (G (l+i)).1==0 else (G (l+i)).2.2:Nat):Int):=by
 have d:E3 p (CN l n G)=CN l n G:=if_pos (gU hp h).1;have hn:=(CG hp).2.1;have e:(CN l n G).High - (CN l n G).Low=(n:Int):=by show((l+n:Nat):Int) - (l:Int)=n; omega
 have J:G6 (CN l n G)=n:=by unfold G6; rw[e]; omega
 unfold UJ AiB;rw[d,J]
 have:HX n (lS p (CN l n G))=HX n λi=>if p.Kind=5 then (G (l+i)).1==0 else (G (l+i)).2.2:=XA λi hi=>by have K:BD (CN l n G).A i=(G (l+i)).1:=aX hi;have D:EV (CN l n G).On i=(G (l+i)).2.2:=jW hi (by omega);unfold lS;rw[K,D]
 rw[this]
theorem zN {β:Type} (a b:Nat) (f:Nat->β):QQ (a+b) f=QQ a f++QQ b λj=>f (a+j):=by
 induction b with
 | zero=>simp[QQ]
 | succ b d=>rw[<-Nat.add_assoc,aV,d,aV,List.append_assoc]
theorem AiF (a b:Nat) (f:Nat->Bool):LM (a+b) f=LM a f++(LM b λj=>f (a+j)).map λx:Int=>x+(a:Int):=by
 induction b with
 | zero=>simp[LM]
 | succ b d=>
  rw[<-Nat.add_assoc,W6,d,W6];split
  . rw[List.map_append,List.append_assoc];simp;omega
  . rfl
theorem zP (a b:Nat) (f:Nat->Int×Bool):KU (a+b) f=KU a f++(KU b λj=>f (a+j)).map λx=>(⟨a+x.At,x.Val⟩:AM):=by
 induction b with
 | zero=>simp[KU]
 | succ b d=>
  rw[<-Nat.add_assoc,S2,d,S2];split
  . rw[List.map_append,List.append_assoc];simp
  . rfl
theorem AfL (n:Nat) (f:Nat->Bool):(LM n f).Pairwise (· < ·):=by
 induction n with
 | zero=>simp[LM]
 | succ n d=>
  rw[W6];split
  . rw[List.pairwise_append];refine⟨d,by simp,λx D y h=>?_⟩;simp only[List.mem_singleton] at h;have:=aW D;omega
  . exact d
theorem gW {n:Nat} {f:Nat->Int×Bool} {x:AM} (h:x∈KU n f):0<=x.At∧x.At<n:=by
 unfold KU at h;obtain⟨i,hi,d⟩:=List.mem_filterMap.1 h;have:=List.mem_range.1 hi;split at d
 . cases d; simp only; omega
 . cases d
theorem AiG (n:Nat) (f:Nat->Int×Bool):IncI (KU n f):=by
 induction n with
 | zero=>exact List.Pairwise.nil
 | succ n h=>
  rw[S2];split
  . unfold IncI;rw[List.pairwise_append];refine⟨h,by simp,λx D y d=>?_⟩;simp only[List.mem_singleton] at d;subst d;exact(gW D).2
  . exact h
theorem zQ {n:Nat} (hn:n<=4096) (f:Nat->Int×Bool):VecP ⟨n,KU n f⟩:=⟨by simp only; omega,by simp only; omega,AiG n f,λx d=>gW d⟩
theorem AiH {n:Nat} (hn:n<=4096) (f:Nat->Bool):UF (lM n (LM n f))=LM n f:=AhL (by omega) (AfL n f) λi hi=>aW hi
theorem AiI {α β:Type} {xs:List α} {ys:List β} {f:α->β} {h:List β×Int->(List β×Int->Prop)->Prop} (hl:xs.length<=1000000000)
   (D:∀ (i:Nat) (s:List β) (next:List β×Int->Prop) (hi:i<xs.length),s.length=ys.length+i->next (s++[f xs[i]],A6 ((i:Int)+1))->h (s,(i:Int)) next)
   (J:∀ (next:List β×Int->Prop),h (ys++xs.map f,(xs.length:Int)) next):AW h (ys,0):=by
 refine AD (λ(s:List β) i=>(s,i)) 0 xs.length (by omega) (λk s=>s=ys++(xs.take k).map f) (by omega) (by simp) (λk s next _ hk d K=>?_) (λs next d=>?_)
 . refine D k s next hk (by subst d; simp; omega) (K _ ?_);subst d;rw[List.take_succ_eq_append_getElem hk,List.map_append,List.append_assoc]; rfl
 . rw[List.take_length] at d;subst d;exact J next
end Go.Proofs.YtkbkaodgfedfmaaGreat
