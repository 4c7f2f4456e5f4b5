import Derived.Test.YtbohadngdkjljaaGreatPlyB
namespace Go.Proofs.YtbohadngdkjljaaGreat
open Go Go.Fw
set_option linter.unusedVariables false
set_option linter.unusedSimpArgs false
variable {c:T8} {m:MS} {N:Nat} {ra rb:Nat→Nat} {o:AR} {o3 o3x:A4} {o4 o4x:A9}
theorem wE (h:RepR c ra rb m o o3 o4) {f t:Int} (G:¬((0≤f∧f<c.n)∧(0≤t∧t<c.n))) {k:Int} {Q:(Bool×A4×A9)→Prop}
  (D:Q (false,o3,o4)):CV o o3 o4 f t k Q:=by
 unfold CV
 exact gJ h G D
theorem uH (h:RepR c ra rb m o o3 o4) {f t:Nat} (J:f<c.n) (D:t<c.n) {Q:Int→Prop} (O:Q ((m.bx f t).row.length:Int)):HE o4 (some (rb (f*c.n+t))) Q:=by
 obtain ⟨pb,G,hi⟩:=h.bx f t J D
 unfold HE ML
 rw [F9,JD G,hi.l,Y1]; exact O
theorem AbT (O:X3 c) (g:Good c m) (V:Live c N m) (h:RepR c ra rb m o o3 o4) {f t:Nat} (G:f<c.n) (D:t<c.n) {Q:Int→Prop} (U:Q (m.bx f t).oldest):H5 o4 (some (rb (f*c.n+t))) Q:=by
 obtain ⟨pb,J,hi⟩:=h.bx f t G D
 unfold H5
 rw [F9,JD J]
 exact rX (Aa4 O g V G D) hi U
theorem gK (U:X3 c) (hr:RkR c) (h:RepR c ra rb m o o3 o4) (g:Good c m) (hl:Live c N m) {Q:(Bool×A4×A9)→Prop}
   (hQ:∀ o3' o4',RepR c ra rb (m.window c).2 o o3' o4'→Q ((m.window c).1,o3',o4')):DU o o3 o4 Q:=by
 have hn:=U.n
 unfold DU
 rw [h.len]
 refine BV (fun j (x:Bool×Int×A4×A9)=>∃ (k:Nat) (a1:A4) (a2:A9),x=((m.sends c k).1,(k:Int),a1,a2)∧k+j=c.n∧RepR c ra rb (m.sends c k).2 o a1 a2) (m0:=c.n) ⟨0,o3,o4,rfl,by omega,h⟩ ?_
 rintro j _ next ⟨k,a1,a2,rfl,hkj,V⟩ hnext
 refine A0 (fun hk=>?_) (fun hk=>?_)
 · have hk':k<c.n:=by omega
   refine pP U V (g.sends U k (by omega)) (hl.sends U g k (by omega)) hk' fun Y b2 hb=>?_
   have D:next ((m.sends c (k+1)).1,((k+1:Nat):Int),Y,b2):=hnext (j - 1) _ (by omega) ⟨k+1,Y,b2,rfl,by omega,hb⟩
   have e:A7 ((k:Int)+1)=((k+1:Nat):Int):=by rw [AH (by omega) (by omega)]; simp
   rw [←e] at D
   unfold MS.sends at D
   cases hs:((m.sends c k).2.send c k).1 with
   | true=>rw [hs] at D; exact AU rfl D
   | false=>rw [hs] at D; exact AC rfl D
 · have hkn:k=c.n:=by omega
   subst hkn
   have gs:=g.sends U c.n (Nat.le_refl _)
   have ls:=hl.sends U g c.n (Nat.le_refl _)
   refine BV (fun j (x:Bool×Int×A4×A9)=>∃ (f:Nat) (Y:A4) (b2:A9),x=((hands c (m.sends c c.n) f).1,(f:Int),Y,b2)∧f+j=c.n∧RepR c ra rb (hands c (m.sends c c.n) f).2 o Y b2) (m0:=c.n) ⟨0,a1,a2,rfl,by omega,V⟩ ?_
   rintro j2 _ next2 ⟨f,Y,b2,rfl,hfj,hrb⟩ hnext2
   refine A0 (fun hf=>?_) (fun hf=>?_)
   · have G:f<c.n:=by omega
     refine BV (fun j (x:Bool×Int×A4×A9)=>∃ (t:Nat) (Z:A4) (d2:A9),x=((hands1 c f (hands c (m.sends c c.n) f) t).1,(t:Int),Z,d2)∧t+j=c.n∧RepR c ra rb (hands1 c f (hands c (m.sends c c.n) f) t).2 o Z d2) (m0:=c.n) ⟨0,Y,b2,rfl,by omega,hrb⟩ ?_
     rintro j3 _ W ⟨t,Z,d2,rfl,htj,O⟩ hnext3
     refine A0 (fun ht=>?_) (fun ht=>?_)
     · have J:t<c.n:=by omega
       have gd:Good c (hands1 c f (hands c (m.sends c c.n) f) t).2:=Good.hands1 (Good.hands gs f) f t
       have ld:Live c N (hands1 c f (hands c (m.sends c c.n) f) t).2:=Live.hands1 (Live.hands ls gs f (by omega)) (Good.hands gs f) G t (by omega)
       refine aS U O G J (uH O G J (AbT U gd ld O G J (pQ U hr O gd ld G J fun e1 e2 hre=>?_)))
       have e:A7 ((t:Int)+1)=((t+1:Nat):Int):=by rw [AH (by omega) (by omega)]; simp
       have D:W ((hands1 c f (hands c (m.sends c c.n) f) (t+1)).1,((t+1:Nat):Int),e1,e2):=hnext3 (j3 - 1) _ (by omega) ⟨t+1,e1,e2,rfl,by omega,hre⟩
       rw [←e] at D
       unfold hands1 at D
       cases hs:(hands1 c f (hands c (m.sends c c.n) f) t).1 with
       | true=>rw [hs] at D; exact AU rfl D
       | false=>
        rw [hs] at D
        refine AC rfl (uH hre G J ?_)
        simp only [Bool.false_or] at D
        have e3:decide ((((((hands1 c f (hands c (m.sends c c.n) f) t).2.hand c f t ((hands1 c f (hands c (m.sends c c.n) f) t).2.bx f t).oldest).2.bx f t).row.length:Nat):Int)<(((hands1 c f (hands c (m.sends c c.n) f) t).2.bx f t).row.length:Int))=decide ((((hands1 c f (hands c (m.sends c c.n) f) t).2.old c f t).bx f t).row.length<((hands1 c f (hands c (m.sends c c.n) f) t).2.bx f t).row.length):=by
         apply decide_eq_decide.2
         unfold MS.old
         omega
        rw [e3]
        exact D
     · have htn:t=c.n:=by omega
       subst htn
       have e:A7 ((f:Int)+1)=((f+1:Nat):Int):=by rw [AH (by omega) (by omega)]; simp
       have D:=hnext2 (j2 - 1) ((hands c (m.sends c c.n) (f+1)).1,((f+1:Nat):Int),Z,d2) (by omega) ⟨f+1,Z,d2,rfl,by omega,O⟩
       rw [←e] at D
       exact D
   · have hfn:f=c.n:=by omega
     subst hfn
     exact hQ _ _ hrb
theorem SG {x:EI} {Q:Bool→Prop} (D:Q (dX x)):OE x Q:=by
 unfold OE
 unfold dX at D
 have G:∀ {p:Prop} [Decidable p],(p→Q true)→(¬p→Q false)→Q (decide p):=fun {p} _ a b=>by
   by_cases hp:p
   · rw [decide_eq_true hp]; exact a hp
   · rw [decide_eq_false hp]; exact b hp
 by_cases hx:0≤x.A∧x.A≤63∧0≤x.B∧x.B≤63∧0≤x.K∧x.K≤63∧0<x.Kind∧x.Kind≤5
 · rw [decide_eq_true hx] at D
   exact A0 (fun _=>A0 (fun _=>A0 (fun _=>A0 (fun _=>A0 (fun _=>A0 (fun _=>A0 (fun _=>G (fun _=>D) fun h=>by omega) fun h=>by omega) fun h=>by omega) fun h=>by omega) fun h=>by omega) fun h=>by omega) fun h=>by omega) fun h=>by omega
 · rw [decide_eq_false hx] at D
   exact A0 (fun _=>A0 (fun _=>A0 (fun _=>A0 (fun _=>A0 (fun _=>A0 (fun _=>A0 (fun _=>G (fun h=>absurd (by omega) hx) fun _=>D) fun _=>D) fun _=>D) fun _=>D) fun _=>D) fun _=>D) fun _=>D) fun _=>D
theorem AbU (U:X3 c) (hr:RkR c) (h:RepR c ra rb m o o3 o4) (g:Good c m) (W:Live c N m) {x:EI} {Q:(Bool×A4×A9)→Prop}
   (D:∀ o3' Z,RepR c ra rb (m.act c x).2 o o3' Z→Q ((m.act c x).1,o3',Z)):GK o o3 o4 x Q:=by
 unfold GK
 unfold MS.act at D
 refine SG (BN (fun h1=>?_) fun h1=>?_)
 · rw [if_pos h1] at D; exact D _ _ h
 · rw [if_neg (by rw [h1]; simp)] at D
   have hb:=of_decide_eq_true h1
   refine BB (fun h2=>?_) fun h2=>?_
   · rw [if_pos h2] at D
     by_cases hi:wO c x.A
     · rw [if_pos hi] at D
       have e:x.A=((x.A.toNat:Nat):Int):=by have:=hi.1; omega
       rw [e]
       exact pP U h g W (by have:=hi.2; have:=hi.1; omega) fun _ _ r=>D _ _ r
     · rw [if_neg hi] at D
       unfold DI
       rw [h.len]
       exact A0 (fun _=>D _ _ h) fun g1=>A0 (fun _=>D _ _ h) fun g2=>absurd ⟨by omega,by omega⟩ hi
   · rw [if_neg h2] at D
     by_cases h5:x.Kind=5
     · rw [if_pos h5] at D
       refine BB (fun e=>by omega) fun _=>BB (fun e=>by omega) fun _=>BB (fun e=>by omega) fun _=>?_
       exact gK U hr h g W fun _ _ r=>D _ _ r
     · rw [if_neg h5] at D
       by_cases hi:wO c x.A∧wO c x.B
       · rw [if_pos hi] at D
         have e1:x.A=((x.A.toNat:Nat):Int):=by have:=hi.1.1; omega
         have e2:x.B=((x.B.toNat:Nat):Int):=by have:=hi.2.1; omega
         have J:x.A.toNat<c.n:=by have:=hi.1.2; have:=hi.1.1; omega
         have G:x.B.toNat<c.n:=by have:=hi.2.2; have:=hi.2.1; omega
         rw [e1,e2]
         obtain ⟨pb,Y,V⟩:=h.bx _ _ J G
         refine BB (fun e=>?_) fun e3=>BB (fun e=>?_) fun e4=>BB (fun e=>?_) fun e=>?_
         · rw [if_pos e] at D
           exact pQ U hr h g W J G fun _ _ r=>D _ _ r
         · rw [if_neg e3,if_pos e] at D
           refine aS U h J G ?_
           unfold KM
           rw [F9,JD Y]
           exact rW (Aa4 U g W J G) V fun b' O=>D _ _ (h.setB J G O)
         · rw [if_neg e3,if_neg e4] at D
           refine aS U h J G ?_
           unfold MK
           rw [F9,JD Y]
           exact Aa2 (Aa4 U g W J G) V fun b' O=>D _ _ (h.setB J G O)
         · omega
       · rw [if_neg hi] at D
         have q:=D _ _ h
         refine BB (fun e=>?_) fun e3=>BB (fun e=>?_) fun e4=>BB (fun e=>?_) fun e=>?_
         · exact wE h hi q
         · refine gJ h hi ?_
           unfold GH F5
           exact AU rfl q
         · refine gJ h hi ?_
           unfold I8 F5
           exact AU rfl q
         · omega
theorem kI (Y:X3 c) (h:RepR c ra rb m o o3 o4) {Q:Bool→Prop} (J:Q (m.ended c)):CS o o3 Q:=by
 have hn:=Y.n
 unfold CS
 rw [h.len,h.S]
 refine BV (fun j (x:Int)=>∃ i:Nat,x=(i:Int)∧i+j=c.n∧∀ k,k<i→(m.w k).at_=c.S.length) (m0:=c.n) ⟨0,rfl,by omega,fun k hk=>by omega⟩ ?_
 rintro j _ next ⟨i,rfl,hij,D⟩ hnext
 refine A0 (fun hi=>?_) (fun hi=>?_)
 · have G:i<c.n:=by omega
   obtain ⟨x,hx,O⟩:=h.wk i G
   refine AA (by omega) (h.get G) (DP hx ?_)
   rw [O.at_]
   have Z:=O.le
   refine A0 (fun V=>?_) (fun W=>?_)
   · have:m.ended c=false:=by
       cases he:m.ended c with
       | false=>rfl
       | true=>have:=TB.1 he i G; omega
     rwa [this] at J
   · have U:A7 ((i:Int)+1)=((i+1:Nat):Int):=by rw [AH (by omega) (by omega)]; simp
     refine hnext (j - 1) _ (by omega) ⟨i+1,U,by omega,fun k hk=>?_⟩
     by_cases e:k=i
     · subst e; omega
     · exact D k (by omega)
 · have:m.ended c=true:=TB.2 fun k hk=>D k (by omega)
   rwa [this] at J
theorem aT {n k i j a:Int} (h1:BU n k i≤a) (h2:a<BU n k (i+1)) (h3:BU n k j≤a) (h4:a<BU n k (j+1)):i=j:=by
 rcases Int.lt_trichotomy i j with h | h | h
 · have:=MQ (n:=n) (k:=k) (show i+1≤j by omega); omega
 · exact h
 · have:=MQ (n:=n) (k:=k) (show j+1≤i by omega); omega
theorem rZ {S D:List AV}:∀ {s:Nat},s≤S.length→S.take s=D.take s→s≤D.length→BJ S s=BJ D s
 | 0,_,_,_=>rfl
 | s+1,h,e,h'=>by
  have:=congrArg (·[s]?) e
  simp only [List.getElem?_take,show s<s+1 by omega,if_true] at this
  show (S.getD s default).To=(D.getD s default).To
  simp [List.getD_eq_getElem?_getD,this]
theorem mP {n:Int} {R C:Nat} {S G:List AV} (h:SegSp n R C n S) (O:SegSp n R C n G):∀ s,s≤S.length→s≤G.length∧S.take s=G.take s
 | 0,_=>by simp
 | s+1,hs=>by
  obtain ⟨i1,i2⟩:=mP h O s (by omega)
  have J:s<S.length:=by omega
  have elo:=rZ (by omega) i2 i1
  have a1:=h.lo s J
  have D:s<G.length:=by
   rcases Nat.lt_or_ge s G.length with V | V
   · exact V
   · have:s=G.length:=by omega
     rw [this,O.top,←this] at elo; omega
  have a2:=O.lo s D
  have r1:=h.row s J
  have r2:=O.row s D
  have q1:=h.col s J
  have q2:=O.col s D
  have er:S[s].Row=G[s].Row:=aT (a:=S[s].From) r1.2.1 (by omega) (by omega) (by omega)
  have Z:S[s].Col=G[s].Col:=aT (a:=S[s].From) q1.2.1 (by omega) (by omega) (by omega)
  have nx:∀ {T W:List AV} (h:SegSp n R C n T) (O:SegSp n R C n W) (Y:s<T.length) (U:s<W.length),T[s].From=W[s].From→T[s].Row=W[s].Row→T[s].Col=W[s].Col→T[s].To<W[s].To→False:=fun {T W} h O Y U ef er Z D=>by
   have b1:=h.lo s Y
   have b2:=O.lo s U
   have ht:BJ T (s+1)=T[s].To:=by show (T.getD s default).To=_; simp [List.getD_eq_getElem?_getD,Y]
   have V:s+1<T.length:=by
     rcases Nat.lt_or_ge (s+1) T.length with g | g
     · exact g
     · have:s+1=T.length:=by omega
       rw [this,h.top] at ht; omega
   have b3:=h.lo (s+1) V
   have c1:=h.row (s+1) V
   have c2:=h.col (s+1) V
   have c3:=O.row s U
   have c4:=O.col s U
   have d1:=h.row s Y
   have d2:=h.col s Y
   refine h.adj s V ⟨?_,?_⟩
   · rw [er] at d1 ⊢; exact aT (n:=n) (k:=(R:Int)) (a:=T[s].To) (by omega) (by omega) (by omega) (by omega)
   · rw [Z] at d2 ⊢; exact aT (n:=n) (k:=(C:Int)) (a:=T[s].To) (by omega) (by omega) (by omega) (by omega)
  have ef:S[s].From=G[s].From:=by omega
  have et:S[s].To=G[s].To:=by
   rcases Int.lt_trichotomy S[s].To G[s].To with g | g | g
   · exact (nx h O J D ef er Z g).elim
   · exact g
   · exact (nx O h D J ef.symm er.symm Z.symm g).elim
  have e:S[s]=G[s]:=by
   revert ef et er Z
   generalize S[s]=x
   generalize G[s]=y
   cases x; cases y
   simp only
   rintro rfl rfl rfl rfl; rfl
  exact ⟨D,by rw [List.take_succ_eq_append_getElem J,List.take_succ_eq_append_getElem D,i2,e]⟩
theorem Aa7 {n:Int} {R C:Nat} {S D:List AV} (h:SegSp n R C n S) (G:SegSp n R C n D):S=D:=by
 obtain ⟨a1,a2⟩:=mP h G S.length (Nat.le_refl _)
 obtain ⟨b1,_⟩:=mP G h D.length (Nat.le_refl _)
 have:S.length=D.length:=by omega
 rw [List.take_length,this,List.take_length] at a2
 exact a2
theorem SegSp.init {n:Int} {R C:Nat} {G:Int} {S:List AV} {x:AV} (h:SegSp n R C G (S++[x])):SegSp n R C x.From S:=by
 have g:∀ s (D:s<S.length),(S++[x])[s]'(by simp; omega)=S[s]:=fun s D=>List.getElem_append_left D
 have e:=(h.lo S.length (by simp)).1
 rw [List.getElem_append_right (Nat.le_refl _),X6 S x _ (Nat.le_refl _)] at e
 simp only [Nat.sub_self,List.getElem_singleton] at e
 refine ⟨fun s D=>?_,fun s D=>?_,fun s D=>?_,e.symm,fun s D=>?_⟩
 · have:=h.row s (by simp; omega); rwa [g s D] at this
 · have:=h.col s (by simp; omega); rwa [g s D] at this
 · have:=h.lo s (by simp; omega); rwa [g s D,X6 S x s (by omega)] at this
 · have:=h.adj s (by simp; omega); rwa [g s (by omega),g (s+1) D] at this
theorem gL {n k a:Int} {Q:Int→Prop} (h:PH n k) (h0:0≤a) (h1:a<n) (U:∀ i,0≤i→i<k→BU n k i≤a→a<BU n k (i+1)→Q i):VC n k a Q:=by
 have J:=h
 unfold PH at J
 unfold VC
 refine PI (AC (by rw [decide_eq_true h]; rfl) ?_)
 refine BV (fun j (i:Int)=>0≤i∧i≤k∧BU n k i≤a∧(k - i).toNat=j) (m0:=k.toNat) ⟨by omega,by omega,?_,by simp⟩ ?_
 · have:BU n k 0=0:=by rw [uD h (by omega) (by omega)]; simp
   omega
 rintro j i next ⟨V,i1,D,i3⟩ hnext
 refine A0 (fun hi=>?_) (fun hi=>?_)
 · have O:A7 (i+1)=i+1:=AH (by omega) (by omega)
   refine EQ (AU (by simpa using D) ?_)
   rw [O]
   exact EQ (A0 (fun G=>U i V hi D G) fun G=>hnext (j - 1) _ (by omega) ⟨by omega,by omega,by omega,by omega⟩)
 · have:i=k:=by omega
   rw [this,U4 h] at D
   omega
theorem dY {n:Int} {R C:Nat} (hn:0≤n∧n≤4096) (hR:1≤R∧R≤8) (hC:1≤C∧C≤8) {S:List AV} (hS:SegSp n R C n S) {Q:List AV→Prop} (hQ:Q S):JQ n (R:Int) (C:Int) Q:=by
 have Y:PH n (R:Int):=⟨hn,by omega⟩
 have hmC:PH n (C:Int):=⟨hn,by omega⟩
 unfold JQ
 refine PI (AC (by rw [decide_eq_true Y]; rfl) (PI (AC (by rw [decide_eq_true hmC]; rfl) ?_)))
 refine BV (fun j (x:List AV×Int)=>∃ T:List AV,∃ a:Nat,x=(T,(a:Int))∧SegSp n R C a T∧T.length≤a∧a+j=n.toNat) (m0:=n.toNat)
   ⟨[],0,rfl,⟨fun s h=>by simp at h,fun s h=>by simp at h,fun s h=>by simp at h,rfl,fun s h=>by simp at h⟩,by simp,by omega⟩ ?_
 rintro j _ next ⟨T,a,rfl,D,hl,hj⟩ hnext
 refine A0 (fun Z=>?_) (fun Z=>?_)
 · have Z:(a:Int)<n:=Z
   have ew:A7 ((a:Int)+1)=((a+1:Nat):Int):=by rw [AH (by omega) (by omega)]; simp
   refine gL Y (by omega) Z fun r r0 r1 r2 r3=>gL hmC (by omega) Z fun q q0 q1 q2 q3=>?_
   rw [ew]
   have O:(∀ s (h:s<T.length),s+1=T.length→¬(T[s].Row=r∧T[s].Col=q))→EA 32 T ([({ From:=(a:Int),To:=((a+1:Nat):Int),Row:=r,Col:=q }:AV)]) fun _=>next ((T++([({ From:=(a:Int),To:=((a+1:Nat):Int),Row:=r,Col:=q }:AV)])),((a+1:Nat):Int)):=fun hd=>
     AQ (by simp; omega) (hnext (j - 1) _ (by omega) ⟨_,a+1,rfl,D.snoc (by omega) (by omega) ⟨⟨r0,r1⟩,r2,by omega⟩ ⟨⟨q0,q1⟩,q2,by omega⟩ hd,by simp; omega,by omega⟩)
   unfold DR
   rcases List.eq_nil_or_concat T with rfl | ⟨T0,x,V⟩
   · exact AC (by simp) (AC rfl (O fun s h=>by simp at h))
   · rw [List.concat_eq_append] at V
     subst V
     have hl':T0.length+1≤a:=by simpa using hl
     have e1:A7 (((T0++[x]).length:Int) - 1)=(T0.length:Int):=by simp; rw [AH (by omega) (by omega)]
     have G:(T0++[x])[((T0.length:Int)).toNat]? = some x:=by simp
     have ix:∀ {K:AV→Prop},K x→AN (T0++[x]) (T0.length:Int) K:=fun hk=>AA (by omega) G hk
     rw [e1]
     have hx:=D.row T0.length (by simp)
     have hy:=D.col T0.length (by simp)
     have hz:=D.lo T0.length (by simp)
     rw [List.getElem_append_right (Nat.le_refl _)] at hx hy hz
     simp only [Nat.sub_self,List.getElem_singleton] at hx hy hz
     have etop:x.To=a:=by
       have:=D.top
       simp only [List.length_append,List.length_singleton] at this
       have e:BJ (T0++[x]) (T0.length+1)=x.To:=by show ((T0++[x]).getD T0.length default).To=_; simp [List.getD_eq_getElem?_getD]
       omega
     have U:¬(x.Row=r∧x.Col=q)→∀ s (h:s<(T0++[x]).length),s+1=(T0++[x]).length→¬((T0++[x])[s].Row=r∧(T0++[x])[s].Col=q):=fun hn s hs J=>by
       have:s=T0.length:=by simp at J; omega
       subst this
       rw [List.getElem_append_right (Nat.le_refl _)]
       simpa using hn
     refine AU (by simp) (ix (BB (fun er=>ix ?_) fun er=>AC rfl (O (U fun e=>er e.1))))
     by_cases eq:x.Col=q
     · refine AU (by simpa using eq) (ix ?_)
       have W:(T0++[x]).set ((T0.length:Int)).toNat ({ From:=x.From,To:=((a+1:Nat):Int),Row:=x.Row,Col:=x.Col }:AV)=T0++[⟨x.From,((a+1:Nat):Int),r,q⟩]:=by
         rw [←er,←eq]; simp
       rw [W]
       refine hnext (j - 1) _ (by omega) ⟨_,a+1,rfl,D.init.snoc (by omega) (by omega) ⟨⟨r0,r1⟩,?_,by omega⟩ ⟨⟨q0,q1⟩,?_,by omega⟩ fun s hs J hd=>?_,by simp; omega,by omega⟩
       · rw [←er]; exact hx.2.1
       · rw [←eq]; exact hy.2.1
       · have:=D.adj s (by simp; omega)
         rw [List.getElem_append_left hs,List.getElem_append_right (by omega)] at this
         simp only [J,Nat.sub_self,List.getElem_singleton] at this
         exact this ⟨hd.1.trans er.symm,hd.2.trans eq.symm⟩
     · exact AC (by simpa using eq) (O (U fun e=>eq e.2))
 · have:(a:Int)=n:=by omega
   rw [this] at D
   rw [Aa7 D hS]; exact hQ
variable {d:Data}
theorem cO (h:DOk0 d) {Q:Int→Prop} (D:Q 0):GF d.p Q:=by
 have hR:=h.R
 have hC:=h.C
 have hr:=h.r
 have hm:=h.room
 unfold GF Data.p
 refine JY (AC (by simp; omega) ?_)
 refine IP ⟨h.cA.sml.1,h.cA.sml.2.1⟩ (AC (by rw [decide_eq_true h.cA.right]; rfl) ?_)
 refine IP ⟨h.cB.sml.1,h.cB.sml.2.1⟩ (AC (by rw [decide_eq_true h.cB.right]; rfl) ?_)
 refine IP ⟨h.cM.sml.1,h.cM.sml.2.1⟩ (AC (by rw [decide_eq_true h.cM.right]; rfl) ?_)
 refine CB (fun e=>absurd rfl e) fun _=>CB (fun e=>absurd rfl e) fun _=>CB (fun e=>absurd rfl e) fun _=>?_
 exact AC (by simp; omega) (AC (by simp; omega) (AC (by simp; omega) (AC (by simp; omega) (AC (by simp; omega) (AC (by simp; omega) D)))))
def v0 (d:Data) (w:Nat) (out:List AM):AO:={ I:=((w / d.C:Nat):Int),J:=((w % d.C:Nat):Int),Mask:=B0 (d.rl (w / d.C+1) - d.rl (w / d.C)) (d.cl (w % d.C+1) - d.cl (w % d.C)) (kB d (w / d.C) (w % d.C)),Out:=out,Lefts:=List.replicate d.S.length false,Rights:=List.replicate d.S.length false,L:=List.replicate d.S.length [],R:=List.replicate d.S.length [],At:=0,Has:=[] }
theorem aU {C i j:Nat} (h:C≤8) (hi:i<8) (hj:j<C):A7 (A7 ((i:Int)*(C:Int))+(j:Int))=((i*C+j:Nat):Int):=by
 have hb:i*C≤8*8:=Nat.mul_le_mul (by omega) h
 have e:((i:Int)*(C:Int))=((i*C:Nat):Int):=by simp
 rw [e,AH (x:=((i*C:Nat):Int)) (by omega) (by omega),AH (by omega) (by omega)]; simp
theorem Aa8 (h:TH d) {w:Nat} (hw:w<d.R*d.C) {ws bs:List (Option Nat)} {bk:A4} {Q:AO→Prop}
   (hQ:Q (v0 d w (QV d w d.S.length))):FN { P:=d.p,S:=d.S,W:=ws,B:=bs } (v0 d w []) bk Q:=by
 have hR:=h.R
 have hC:=h.C
 have hi:w / d.C<d.R:=Nat.div_lt_of_lt_mul (by rw [Nat.mul_comm]; exact hw)
 have hj:w % d.C<d.C:=Nat.mod_lt _ (by omega)
 have b1:=aO h (w / d.C)
 have b2:=aP h (w % d.C)
 have hSl:=h.seg.len
 have nC:∀ {n:Int} {k i:Nat} {Q:Int×Int→Prop},k≤8→i<k→Q (BU n k i,BU n k ((i+1:Nat):Int))→I5 n (k:Int) (i:Int) Q:=fun {n k i Q} hk hi hq=>by
   unfold I5
   refine EQ ?_
   rw [AH (by omega) (by omega)]
   exact EQ (by simpa using hq)
 unfold FN
 refine BV (fun j (x:List AM×Int)=>∃ s:Nat,x=(QV d w s,(s:Int))∧s+j=d.S.length) (m0:=d.S.length) ⟨0,rfl,by omega⟩ ?_
 rintro jj _ next ⟨s,rfl,hsj⟩ hnext
 refine A0 (fun J=>?_) (fun J=>?_)
 rotate_left
 · have:s=d.S.length:=by have:¬((s:Int)<(d.S.length:Int)):=J; omega
   subst this
   exact hQ
 have J:s<d.S.length:=by have:(s:Int)<(d.S.length:Int):=J; omega
 have hlo:=h.seg.lo s J
 have hb:=aQ h s (by omega)
 have he:=UA (d:=d) J
 have hol:=aR h w s
 have D:d.S.getD s default=d.S[s]:=by simp [List.getD_eq_getElem?_getD,J]
 obtain ⟨eA,O,_⟩:=DJ h.cA (l:=d.rl (w / d.C)) (u:=d.rl (w / d.C+1)) (c:=d.S[s].From) (d:=d.S[s].To) b1.1 b1.2.1 b1.2.2 (by omega) (by omega) (by omega)
 obtain ⟨eB,Z,_⟩:=DJ h.cB (l:=d.S[s].From) (u:=d.S[s].To) (c:=d.cl (w % d.C)) (d:=d.cl (w % d.C+1)) (by omega) (by omega) (by omega) b2.1 b2.2.1 b2.2.2
 have ew:A7 ((s:Int)+1)=((s+1:Nat):Int):=by rw [AH (by omega) (by omega)]; simp
 have go:=hnext (jj - 1) _ (by omega) ⟨s+1,rfl,by omega⟩
 rw [cK,←List.append_assoc] at go
 refine AJ J ?_
 rw [ew]
 refine CA (fun o=>o=QV d w s++NC d w s) ?_ fun k' hk'=>?_
 · -- the second half
   rintro _ rfl
   have hll:(NC d w s).length≤16:=by have:=pK h w s; rw [List.length_append] at this; omega
   refine BB (fun e=>?_) (fun e=>?_)
   · have e:d.S[s].Row=((w / d.C:Nat):Int):=e
     show I5 d.q (d.C:Int) ((w % d.C:Nat):Int) _
     refine nC hC.2 hj ?_
     show M0 (B0 d.k d.q d.B) _ _ _
     refine YJ h.cB.sml (D4 h.cB) h.cB ?_
     have eB':bS d.k d.q d.B (d.S[s].From,d.S[s].To) (BU d.q d.C ((w % d.C:Nat):Int),BU d.q d.C ((w % d.C+1:Nat):Int))=_:=eB
     rw [eB']
     refine MN Z.sml (D4 Z) Z ?_
     have U:QU d w s=(List.range d.R).map (mL d w s):=by unfold QU; rw [D,if_pos e]
     rw [U] at go
     refine BV (fun j (t:List AM×Int)=>∃ a:Nat,t=(QV d w s++NC d w s++(List.range a).map (mL d w s),(a:Int))∧a+j=d.R) (m0:=d.R) ⟨0,by simp,by omega⟩ ?_
     rintro j _ V ⟨a,rfl,haj⟩ hnext2
     show AD (decide ((a:Int)<(d.R:Int))) _ _
     refine A0 (fun ha=>?_) (fun ha=>?_)
     · have ea:A7 ((a:Int)+1)=((a+1:Nat):Int):=by rw [AH (by omega) (by omega)]; simp
       have ef:({ Kind:=7,From:=A7 (A7 (((w / d.C:Nat):Int)*(d.C:Int))+((w % d.C:Nat):Int)),To:=A7 (A7 ((a:Int)*(d.C:Int))+((w % d.C:Nat):Int)),Seq:=0,Round:=(s:Int),Vec:={ N:=0,Items:=[] },Sums:=[],Triples:=HI d.S[s].From d.S[s].To (d.cl (w % d.C)) (d.cl (w % d.C+1)) d.B,N:=0,Over:=false }:AM)=mL d w s a:=by
        rw [aU hC.2 (by omega) hj,aU hC.2 (by omega) hj]
        unfold mL XE; rw [he,hlo.1]
       have hn:=hnext2 (j - 1) (QV d w s++NC d w s++(List.range (a+1)).map (mL d w s),((a+1:Nat):Int)) (by omega) ⟨a+1,rfl,by omega⟩
       rw [List.range_succ,List.map_append,←List.append_assoc,List.map_singleton,←ef,←ea] at hn
       exact AQ (by simp only [List.length_append,List.length_map,List.length_range,List.length_singleton]; omega) hn
     · have:a=d.R:=by omega
       subst this
       exact go
   · have e:¬d.S[s].Row=((w / d.C:Nat):Int):=e
     have U:QU d w s=[]:=by unfold QU; rw [D,if_neg e]
     rw [U,List.append_nil] at go
     exact go
 · have G:=hk' _ rfl
   refine BB (fun e=>?_) (fun e=>?_)
   · have e:d.S[s].Col=((w % d.C:Nat):Int):=e
     show I5 d.n (d.R:Int) ((w / d.C:Nat):Int) _
     refine nC hR.2 hi ?_
     show M0 (B0 d.n d.k d.A) _ _ _
     refine YJ h.cA.sml (D4 h.cA) h.cA ?_
     have eA':bS d.n d.k d.A (BU d.n d.R ((w / d.C:Nat):Int),BU d.n d.R ((w / d.C+1:Nat):Int)) (d.S[s].From,d.S[s].To)=_:=eA
     rw [eA']
     refine MN O.sml (D4 O) O ?_
     have Y:NC d w s=(List.range d.C).map (mK d w s):=by unfold NC; rw [D,if_pos e]
     rw [Y] at G
     refine BV (fun j (t:List AM×Int)=>∃ a:Nat,t=(QV d w s++(List.range a).map (mK d w s),(a:Int))∧a+j=d.C) (m0:=d.C) ⟨0,by simp,by omega⟩ ?_
     rintro j _ V ⟨a,rfl,haj⟩ hnext2
     show AD (decide ((a:Int)<(d.C:Int))) _ _
     refine A0 (fun ha=>?_) (fun ha=>?_)
     · have ea:A7 ((a:Int)+1)=((a+1:Nat):Int):=by rw [AH (by omega) (by omega)]; simp
       have ef:({ Kind:=6,From:=A7 (A7 (((w / d.C:Nat):Int)*(d.C:Int))+((w % d.C:Nat):Int)),To:=A7 (A7 (((w / d.C:Nat):Int)*(d.C:Int))+(a:Int)),Seq:=0,Round:=(s:Int),Vec:={ N:=0,Items:=[] },Sums:=[],Triples:=HI (d.rl (w / d.C)) (d.rl (w / d.C+1)) d.S[s].From d.S[s].To d.A,N:=0,Over:=false }:AM)=mK d w s a:=by
        rw [aU hC.2 (by omega) hj,aU hC.2 (by omega) (show a<d.C by omega)]
        unfold mK VZ; rw [he,hlo.1]
       have hn:=hnext2 (j - 1) (QV d w s++(List.range (a+1)).map (mK d w s),((a+1:Nat):Int)) (by omega) ⟨a+1,rfl,by omega⟩
       rw [List.range_succ,List.map_append,←List.append_assoc,List.map_singleton,←ef,←ea] at hn
       exact AQ (by simp only [List.length_append,List.length_map,List.length_range,List.length_singleton]; omega) hn
     · have:a=d.C:=by omega
       subst this
       exact G
   · have e:¬d.S[s].Col=((w % d.C:Nat):Int):=e
     have Y:NC d w s=[]:=by unfold NC; rw [D,if_neg e]
     rw [Y,List.append_nil] at G
     exact G
variable {d:Data} {m:MS} {adr ra rb:Nat→Nat} {o:AR} {o3:A4} {o4:A9}
theorem wF (h:TH d) {i j:Nat} (hi:i<d.R) (hj:j<d.C) {Q:Rows→Prop} (U:Q (B0 (d.rl (i+1) - d.rl i) (d.cl (j+1) - d.cl j) (kB d i j))):PT (B0 d.n d.q d.M) (d.R:Int) (d.C:Int) (i:Int) (j:Int) Q:=by
 have hR:=h.R
 have hC:=h.C
 have V:dJ (d.R:Int) (d.C:Int) (i:Int) (j:Int):=⟨⟨⟨by omega,by omega⟩,by omega,by omega⟩,⟨by omega,by omega⟩,by omega,by omega⟩
 refine mD h.cM ?_
 have D:=aO h i
 have b2:=aP h j
 obtain ⟨O,_,_⟩:=DJ h.cM (l:=d.rl i) (u:=d.rl (i+1)) (c:=d.cl j) (d:=d.cl (j+1)) D.1 D.2.1 D.2.2 b2.1 b2.2.1 b2.2.2
 unfold vP
 rw [if_pos V]
 have G:BU d.n (d.R:Int) ((i:Int)+1)=d.rl (i+1):=by unfold Data.rl; simp
 have J:BU d.q (d.C:Int) ((j:Int)+1)=d.cl (j+1):=by unfold Data.cl; simp
 rw [G,J]
 show Q (bS d.n d.q d.M (d.rl i,d.rl (i+1)) (d.cl j,d.cl (j+1)))
 rw [O]
 exact U
section bank
variable {α:Type} {P:Nat→α→Prop} {ads:List Nat} {bk:List (Nat×α)}
def Ads (P:Nat→α→Prop) (ads:List Nat) (bk:List (Nat×α)):Prop:=ads.Nodup∧∀ k (hk:k<ads.length),∃ x,BK ads[k] bk=some x∧P k x
theorem Ads.snoc (h:Ads P ads bk) {b:Nat} {x:α} (O:BK b bk=none) (W:P ads.length x):Ads P (ads++[b]) ((b,x) :: bk):=by
 have D:∀ i (hi:i<ads.length),ads[i]≠b:=fun i hi e=>by obtain ⟨y,G,_⟩:=h.2 i hi; rw [e,O] at G; cases G
 refine ⟨?_,fun i hi=>?_⟩
 · rw [List.nodup_append]
   refine ⟨h.1,(by simp),fun a U c J e=>?_⟩
   rw [List.mem_singleton] at J
   obtain ⟨i,hi,rfl⟩:=List.getElem_of_mem U
   exact D i hi (e.trans J)
 · simp only [List.length_append,List.length_singleton] at hi
   by_cases e:i<ads.length
   · rw [List.getElem_append_left e,VX (D i e)]; exact h.2 i e
   · have V:i=ads.length:=by omega
     subst V
     have:(ads++[b])[ads.length]'(by simp)=b:=by rw [List.getElem_append_right (by omega)]; simp
     rw [this,QS]; exact ⟨x,rfl,W⟩
theorem Ads.get (h:Ads P ads bk) {k:Nat} (hk:k<ads.length):∃ x,BK (ads.getD k 0) bk=some x∧P k x:=by
 have e:ads.getD k 0=ads[k]:=by simp [List.getD_eq_getElem?_getD,hk]
 rw [e]; exact h.2 k hk
theorem Ads.inj (h:Ads P ads bk) {i j:Nat} (hi:i<ads.length) (G:j<ads.length) (e:ads.getD i 0=ads.getD j 0):i=j:=by
 have D:ads.getD i 0=ads[i]:=by simp [List.getD_eq_getElem?_getD,hi]
 have J:ads.getD j 0=ads[j]:=by simp [List.getD_eq_getElem?_getD,G]
 rw [D,J] at e
 exact (List.getElem_inj h.1).1 e
theorem kJ {n:Nat} (D:ads.length=n):ads.map some=(List.range n).map fun k=>some (ads.getD k 0):=by
 subst D
 refine List.ext_getElem (by simp) fun i h h2=>?_
 simp only [List.length_map] at h
 simp [List.getD_eq_getElem?_getD,h]
end bank
theorem AbV (Y:DOk0 d) {S:List AV} (hS:SegSp d.k d.R d.C d.k S) (h:TH (d.wS S)) {Q0:(Int×A4×A9)→Prop} {Q1:(Int×A4×A9×AR)→Prop}
   (hQ:∀ ra rb o o3 o4,RepR ((d.wS S).ctx adr) ra rb (init (d.wS S)) o o3 o4→Q1 (0,o3,o4,o)):O0 [] [] d.p Q0 Q1:=by
 have hR:=Y.R
 have hC:=Y.C
 have hm:=Y.room
 have hSl:S.length≤64:=by have:=h.seg.len; have:S.length+1≤d.R+d.C:=this; omega
 have hn:d.R*d.C≤64:=Nat.mul_le_mul hR.2 hC.2
 unfold O0
 refine cO Y (AC rfl ?_)
 show JQ d.k (d.R:Int) (d.C:Int) _
 refine dY ⟨Y.cA.c0,Y.cA.c1⟩ hR hC hS ?_
 refine BV (fun j (x:List (Option Nat)×List (Option Nat)×Int×A4)=>∃ (i:Nat) (ads:List Nat) (bk:A4),x=(ads.map some,[],(i:Int),bk)∧i+j=d.R∧ads.length=i*d.C∧Ads (fun k x=>x=v0 (d.wS S) k (QV (d.wS S) k S.length)) ads bk) (m0:=d.R) ⟨0,[],[],rfl,by omega,by simp,List.nodup_nil,fun k hk=>by simp at hk⟩ ?_
 rintro jr _ next ⟨i,ads,bk,rfl,hij,hl,hA⟩ hnext
 show AD (decide ((i:Int)<(d.R:Int))) _ _
 refine A0 (fun hi=>?_) (fun hi=>?_)
 · have Z:i<d.R:=by omega
   refine BV (fun j (x:List (Option Nat)×Int×A4)=>∃ (q:Nat) (ads:List Nat) (bk:A4),x=(ads.map some,(q:Int),bk)∧q+j=d.C∧ads.length=i*d.C+q∧Ads (fun k x=>x=v0 (d.wS S) k (QV (d.wS S) k S.length)) ads bk) (m0:=d.C) ⟨0,ads,bk,rfl,by omega,by omega,hA⟩ ?_
   rintro jc _ V ⟨q,O,bk2,rfl,hqj,hl2,hA2⟩ hnext2
   show AD (decide ((q:Int)<(d.C:Int))) _ _
   refine A0 (fun hq=>?_) (fun hq=>?_)
   · have U:q<d.C:=by omega
     have hk:=gG Z U
     obtain ⟨p1,p2⟩:=TC (i:=i) U
     show PT (B0 d.n d.q d.M) (d.R:Int) (d.C:Int) (i:Int) (q:Int) _
     refine wF (d:=d.wS S) h Z U ⟨by omega,by omega,⟨by omega,by omega,⟨by omega,by omega,⟨by omega,by omega,?_⟩⟩⟩⟩
     have ev:v0 (d.wS S) (i*d.C+q) [] = { I:=(i:Int),J:=(q:Int),Mask:=B0 ((d.wS S).rl (i+1) - (d.wS S).rl i) ((d.wS S).cl (q+1) - (d.wS S).cl q) (kB (d.wS S) i q),Out:=[],Lefts:=List.replicate ((S.length:Int)).toNat false,Rights:=List.replicate ((S.length:Int)).toNat false,L:=List.replicate ((S.length:Int)).toNat [],R:=List.replicate ((S.length:Int)).toNat [],At:=0,Has:=[] }:=by
       have e1:(i*d.C+q) / (d.wS S).C=i:=p1
       have e2:(i*d.C+q) % (d.wS S).C=q:=p2
       unfold v0
       rw [e1,e2]
       simp only [Int.toNat_natCast]
       rfl
     rw [←ev]
     refine Aa8 (d:=d.wS S) h hk fun b W=>AQ (by simp; omega) ?_
     have ew:A7 ((q:Int)+1)=((q+1:Nat):Int):=by rw [AH (by omega) (by omega)]; simp
     rw [ew]
     exact hnext2 (jc - 1) _ (by omega) ⟨q+1,O++[b],_,by rw [List.map_append]; rfl,by omega,by simp; omega,hA2.snoc W (by rw [hl2]; rfl)⟩
   · have hqe:q=d.C:=by omega
     subst hqe
     have ew:A7 ((i:Int)+1)=((i+1:Nat):Int):=by rw [AH (by omega) (by omega)]; simp
     rw [ew]
     exact hnext (jr - 1) _ (by omega) ⟨i+1,O,bk2,rfl,by omega,by rw [hl2,Nat.succ_mul],hA2⟩
 · have hie:i=d.R:=by omega
   subst hie
   have hn2:(d.R*d.C)*(d.R*d.C)≤64*64:=Nat.mul_le_mul hn hn
   have ec:A7 (((ads.map some).length:Int)*((ads.map some).length:Int))=((d.R*d.C*(d.R*d.C):Nat):Int):=by
     have:(((ads.map some).length:Int)*((ads.map some).length:Int))=((d.R*d.C*(d.R*d.C):Nat):Int):=by rw [List.length_map,hl]; simp
     rw [this,AH (by omega) (by omega)]
   refine BV (fun j (x:List (Option Nat)×Int×A9)=>∃ (k:Nat) (D:List Nat) (bx:A9),x=(D.map some,(k:Int),bx)∧k+j=d.R*d.C*(d.R*d.C)∧D.length=k∧Ads (fun _ x=>YS x ⟨d.room,[],[],0⟩) D bx) (m0:=d.R*d.C*(d.R*d.C)) ⟨0,[],[],rfl,by omega,rfl,List.nodup_nil,fun k hk=>by simp at hk⟩ ?_
   rintro jb _ V ⟨k,D,bx,rfl,hkj,hbl,hB⟩ hnext2
   show AD (decide ((k:Int)<A7 (((ads.map some).length:Int)*((ads.map some).length:Int)))) _ _
   rw [ec]
   refine A0 (fun hk=>?_) (fun hk=>?_)
   · unfold SB
     show AD (decide ((d.room:Int)<1)) _ _
     refine AC (by simp; omega) (AC (by show decide (64<(d.room:Int))=false; simp; omega) fun b W=>AQ (by simp; omega) ?_)
     have ew:A7 ((k:Int)+1)=((k+1:Nat):Int):=by rw [AH (by omega) (by omega)]; simp
     rw [ew]
     exact hnext2 (jb - 1) _ (by omega) ⟨k+1,D++[b],_,by rw [List.map_append]; rfl,by omega,by simp; omega,hB.snoc W ⟨rfl,rfl,rfl,rfl⟩⟩
   · have G:D.length=d.R*d.C*(d.R*d.C):=by omega
     refine hQ (fun k=>ads.getD k 0) (fun k=>D.getD k 0) _ _ _ ⟨rfl,rfl,kJ hl,kJ G,fun k hk=>?_,fun f t hf ht=>?_,fun a b ha W e=>hA.inj (by rw [hl]; exact ha) (by rw [hl]; exact W) e,fun a b ha W e=>hB.inj (by rw [G]; exact ha) (by rw [G]; exact W) e⟩
     · obtain ⟨x,hx,rfl⟩:=hA.get (k:=k) (by rw [hl]; exact hk)
       refine ⟨_,hx,rfl,rfl,rfl,rfl,rfl,Nat.zero_le _,(kG h k).symm,fun s hs=>⟨?_,[],?_,fun e=>by cases e⟩,fun s hs=>⟨?_,[],?_,fun e=>by cases e⟩⟩
       all_goals (have hs:s<S.length:=hs; simp [v0,Data.wS,hs,init])
     · exact hB.get (k:=f*(d.R*d.C)+t) (by rw [G]; exact eO hf ht)
theorem AdA (h:TH d) (adr:Nat→Nat):RkR (d.ctx adr):=by
 intro w s hs hw Q hQ
 have Z:s<d.S.length:=hs
 have Y:=aO h (w / d.C)
 have G:=aP h (w % d.C)
 have hl:=h.seg.lo s Z
 have hb:=aQ h s (by omega)
 have he:=UA (d:=d) Z
 obtain ⟨_,J,_⟩:=DJ h.cA (l:=d.rl (w / d.C)) (u:=d.rl (w / d.C+1)) (c:=BJ d.S s) (d:=BJ d.S (s+1)) Y.1 Y.2.1 Y.2.2 hb.1 (by omega) (by omega)
 obtain ⟨_,W,_⟩:=DJ h.cB (l:=BJ d.S s) (u:=BJ d.S (s+1)) (c:=d.cl (w % d.C)) (d:=d.cl (w % d.C+1)) hb.1 (by omega) (by omega) G.1 G.2.1 G.2.2
 obtain ⟨_,D,_⟩:=DJ h.cM (l:=d.rl (w / d.C)) (u:=d.rl (w / d.C+1)) (c:=d.cl (w % d.C)) (d:=d.cl (w % d.C+1)) Y.1 Y.2.1 Y.2.2 G.1 G.2.1 G.2.2
 have hk:=h.cA.c1
 have e1:A7 (d.S[s].To - d.S[s].From)=BJ d.S (s+1) - BJ d.S s:=by rw [AH (by omega) (by omega)]; omega
 show HB d.r (d.rl (w / d.C+1) - d.rl (w / d.C)) (A7 (d.S[s].To - d.S[s].From)) (VZ d (w / d.C) (BJ d.S s) (BJ d.S (s+1))) _
 have V:=ZZ (l:=d.rl (w / d.C)) (u:=d.rl (w / d.C+1)) (c:=BJ d.S s) (d:=BJ d.S (s+1)) h.vA
 have U:=ZZ (l:=BJ d.S s) (u:=BJ d.S (s+1)) (c:=d.cl (w % d.C)) (d:=d.cl (w % d.C+1)) h.vB
 rw [e1]
 refine PU (by have:=J.len; unfold VZ; omega) V ?_
 show HB d.r (A7 (d.S[s].To - d.S[s].From)) (d.cl (w % d.C+1) - d.cl (w % d.C)) (XE d (w % d.C) (BJ d.S s) (BJ d.S (s+1))) _
 rw [e1]
 refine PU (by have:=W.len; unfold XE; omega) U ?_
 unfold VZ XE
 rw [X0 J V h.r,X0 W U h.r]
 refine lN J W D V U ?_
 have hrr:=h.r
 unfold bX
 rw [if_neg (by show ¬ ¬(1≤d.r∧d.r≤5); omega),if_neg (by omega)]
 show HS d.r [IV d (w / d.C) (w % d.C) s,FQ d.r (VZ d (w / d.C) (BJ d.S s) (BJ d.S (s+1))) (XE d (w % d.C) (BJ d.S s) (BJ d.S (s+1))) (kB d (w / d.C) (w % d.C))] _
 obtain ⟨s0,o0,z0⟩:=NP (r:=d.r) (A:=VZ d (w / d.C) 0 (BJ d.S (s+1))) (B:=XE d (w % d.C) 0 (BJ d.S (s+1))) D
 obtain ⟨s1,o1,z1⟩:=NP (r:=d.r) (A:=VZ d (w / d.C) 0 (BJ d.S s)) (B:=XE d (w % d.C) 0 (BJ d.S s)) D
 obtain ⟨s2,o2,z2⟩:=NP (r:=d.r) (A:=VZ d (w / d.C) (BJ d.S s) (BJ d.S (s+1))) (B:=XE d (w % d.C) (BJ d.S s) (BJ d.S (s+1))) D
 have O:∀ (x y:List AB),([x,y]:List (List AB)).flatten=x++y:=fun x y=>by simp
 refine aA (by simp) (by rw [O,List.length_append]; unfold IV kB; omega) (by rw [O]; exact fun c G=>(List.mem_append.1 G).elim (o1 c) (o2 c)) (fun h'=>absurd hrr h') (fun _ h'=>absurd (fun l hl=>?_) h') (fun _ _ x hs ho hsl he'=>?_)
 · simp only [List.mem_cons,List.not_mem_nil,or_false] at hl
   rcases hl with rfl | rfl
   · exact s1
   · exact s2
 · have hall:x=IV d (w / d.C) (w % d.C) (s+1):=fR (r:=d.r) hs s0 fun key=>by
     rw [he',O]
     exact (FH o1 o2).trans (kC h (w / d.C) (w % d.C) hb.1 (by omega) (by omega) key).symm
   subst hall
   exact hQ
end Go.Proofs.YtbohadngdkjljaaGreat
