import Derived.Test.YtbohadngdkjljaaGreatPlyB
namespace Go.Proofs.YtbohadngdkjljaaGreat
open Go Go.Fw
set_option linter.unusedVariables false
set_option linter.unusedSimpArgs false
variable {c:SK} {m:MS} {N:Nat} {ra rb:Nat→Nat} {o:AM} {o3 o3x:A4} {o4 o4x:AA}
theorem wG (h:RepR c ra rb m o o3 o4) {f t:Int} (G:¬((0≤f∧f<c.n)∧(0≤t∧t<c.n))) {k:Int} {Q:(Bool×A4×AA)→Prop}
  (D:Q (false,o3,o4)):CW o o3 o4 f t k Q:=by
 unfold CW
 exact fY h G D
theorem mL (h:RepR c ra rb m o o3 o4) {f t:Nat} (J:f<c.n) (O:t<c.n) {Q:Int→Prop} (D:Q ((m.bx f t).row.length:Int)):FX o4 (some (rb (f*c.n+t))) Q:=by
 obtain ⟨pb,G,hi⟩:=h.bx f t J O
 unfold FX MR
 rw [FC,JD G,hi.l,XO]; exact D
theorem AbY (V:VL c) (g:Good c m) (U:Live c N m) (h:RepR c ra rb m o o3 o4) {f t:Nat} (D:f<c.n) (G:t<c.n) {Q:Int→Prop} (J:Q (m.bx f t).oldest):H6 o4 (some (rb (f*c.n+t))) Q:=by
 obtain ⟨pb,O,hi⟩:=h.bx f t D G
 unfold H6
 rw [FC,JD O]
 exact rZ (Aa8 V g U D G) hi J
theorem sF (U:VL c) (hr:RkR c) (h:RepR c ra rb m o o3 o4) (g:Good c m) (hl:Live c N m) {Q:(Bool×A4×AA)→Prop}
   (hQ:∀ Z o4',RepR c ra rb (m.window c).2 o Z o4'→Q ((m.window c).1,Z,o4')):ET o o3 o4 Q:=by
 have hn:=U.n
 unfold ET
 rw [h.len]
 refine BT (fun j (x:Bool×Int×A4×AA)=>∃ (k:Nat) (a1:A4) (a2:AA),x=((m.sends c k).1,(k:Int),a1,a2)∧k+j=c.n∧RepR c ra rb (m.sends c k).2 o a1 a2) (m0:=c.n) ⟨0,o3,o4,rfl,by omega,h⟩ ?_
 rintro j _ next ⟨k,a1,a2,rfl,hkj,V⟩ hnext
 refine A0 (fun hk=>?_) (fun hk=>?_)
 · have hk':k<c.n:=by omega
   refine pN U V (g.sends U k (by omega)) (hl.sends U g k (by omega)) hk' fun W b2 hb=>?_
   have D:next ((m.sends c (k+1)).1,((k+1:Nat):Int),W,b2):=hnext (j - 1) _ (by omega) ⟨k+1,W,b2,rfl,by omega,hb⟩
   have e:A7 ((k:Int)+1)=((k+1:Nat):Int):=by rw [AJ (by omega) (by omega)]; simp
   rw [←e] at D
   unfold MS.sends at D
   cases hs:((m.sends c k).2.send c k).1 with
   | true=>rw [hs] at D; exact AY rfl D
   | false=>rw [hs] at D; exact AC rfl D
 · have hkn:k=c.n:=by omega
   subst hkn
   have gs:=g.sends U c.n (Nat.le_refl _)
   have ls:=hl.sends U g c.n (Nat.le_refl _)
   refine BT (fun j (x:Bool×Int×A4×AA)=>∃ (f:Nat) (W:A4) (b2:AA),x=((hands c (m.sends c c.n) f).1,(f:Int),W,b2)∧f+j=c.n∧RepR c ra rb (hands c (m.sends c c.n) f).2 o W b2) (m0:=c.n) ⟨0,a1,a2,rfl,by omega,V⟩ ?_
   rintro j2 _ next2 ⟨f,W,b2,rfl,hfj,hrb⟩ hnext2
   refine A0 (fun hf=>?_) (fun hf=>?_)
   · have G:f<c.n:=by omega
     refine BT (fun j (x:Bool×Int×A4×AA)=>∃ (t:Nat) (d1:A4) (d2:AA),x=((hands1 c f (hands c (m.sends c c.n) f) t).1,(t:Int),d1,d2)∧t+j=c.n∧RepR c ra rb (hands1 c f (hands c (m.sends c c.n) f) t).2 o d1 d2) (m0:=c.n) ⟨0,W,b2,rfl,by omega,hrb⟩ ?_
     rintro j3 _ Y ⟨t,d1,d2,rfl,htj,O⟩ hnext3
     refine A0 (fun ht=>?_) (fun ht=>?_)
     · have J:t<c.n:=by omega
       have gd:Good c (hands1 c f (hands c (m.sends c c.n) f) t).2:=Good.hands1 (Good.hands gs f) f t
       have ld:Live c N (hands1 c f (hands c (m.sends c c.n) f) t).2:=Live.hands1 (Live.hands ls gs f (by omega)) (Good.hands gs f) G t (by omega)
       refine aJ U O G J (mL O G J (AbY U gd ld O G J (pO U hr O gd ld G J fun e1 e2 hre=>?_)))
       have e:A7 ((t:Int)+1)=((t+1:Nat):Int):=by rw [AJ (by omega) (by omega)]; simp
       have D:Y ((hands1 c f (hands c (m.sends c c.n) f) (t+1)).1,((t+1:Nat):Int),e1,e2):=hnext3 (j3 - 1) _ (by omega) ⟨t+1,e1,e2,rfl,by omega,hre⟩
       rw [←e] at D
       unfold hands1 at D
       cases hs:(hands1 c f (hands c (m.sends c c.n) f) t).1 with
       | true=>rw [hs] at D; exact AY rfl D
       | false=>
        rw [hs] at D
        refine AC rfl (mL hre G J ?_)
        simp only [Bool.false_or] at D
        have e3:decide ((((((hands1 c f (hands c (m.sends c c.n) f) t).2.hand c f t ((hands1 c f (hands c (m.sends c c.n) f) t).2.bx f t).oldest).2.bx f t).row.length:Nat):Int)<(((hands1 c f (hands c (m.sends c c.n) f) t).2.bx f t).row.length:Int))=decide ((((hands1 c f (hands c (m.sends c c.n) f) t).2.old c f t).bx f t).row.length<((hands1 c f (hands c (m.sends c c.n) f) t).2.bx f t).row.length):=by
         apply decide_eq_decide.2
         unfold MS.old
         omega
        rw [e3]
        exact D
     · have htn:t=c.n:=by omega
       subst htn
       have e:A7 ((f:Int)+1)=((f+1:Nat):Int):=by rw [AJ (by omega) (by omega)]; simp
       have D:=hnext2 (j2 - 1) ((hands c (m.sends c c.n) (f+1)).1,((f+1:Nat):Int),d1,d2) (by omega) ⟨f+1,d1,d2,rfl,by omega,O⟩
       rw [←e] at D
       exact D
   · have hfn:f=c.n:=by omega
     subst hfn
     exact hQ _ _ hrb
theorem iC {x:FP} {Q:Bool→Prop} (D:Q (hU x)):RN x Q:=by
 unfold RN
 unfold hU at D
 have G:∀ {p:Prop} [Decidable p],(p→Q true)→(¬p→Q false)→Q (decide p):=fun {p} _ a b=>by
   by_cases hp:p
   · rw [decide_eq_true hp]; exact a hp
   · rw [decide_eq_false hp]; exact b hp
 by_cases hx:0≤x.A∧x.A≤63∧0≤x.B∧x.B≤63∧0≤x.K∧x.K≤63∧0<x.Kind∧x.Kind≤5
 · rw [decide_eq_true hx] at D
   exact A0 (fun _=>A0 (fun _=>A0 (fun _=>A0 (fun _=>A0 (fun _=>A0 (fun _=>A0 (fun _=>G (fun _=>D) fun h=>by omega) fun h=>by omega) fun h=>by omega) fun h=>by omega) fun h=>by omega) fun h=>by omega) fun h=>by omega) fun h=>by omega
 · rw [decide_eq_false hx] at D
   exact A0 (fun _=>A0 (fun _=>A0 (fun _=>A0 (fun _=>A0 (fun _=>A0 (fun _=>A0 (fun _=>G (fun h=>absurd (by omega) hx) fun _=>D) fun _=>D) fun _=>D) fun _=>D) fun _=>D) fun _=>D) fun _=>D) fun _=>D
theorem AbZ (O:VL c) (hr:RkR c) (h:RepR c ra rb m o o3 o4) (g:Good c m) (Z:Live c N m) {x:FP} {Q:(Bool×A4×AA)→Prop}
   (D:∀ V o4',RepR c ra rb (m.act c x).2 o V o4'→Q ((m.act c x).1,V,o4')):GL o o3 o4 x Q:=by
 unfold GL
 unfold MS.act at D
 refine iC (CF (fun h1=>?_) fun h1=>?_)
 · rw [if_pos h1] at D; exact D _ _ h
 · rw [if_neg (by rw [h1]; simp)] at D
   have hb:=of_decide_eq_true h1
   refine BA (fun h2=>?_) fun h2=>?_
   · rw [if_pos h2] at D
     by_cases hi:wR c x.A
     · rw [if_pos hi] at D
       have e:x.A=((x.A.toNat:Nat):Int):=by have:=hi.1; omega
       rw [e]
       exact pN O h g Z (by have:=hi.2; have:=hi.1; omega) fun _ _ r=>D _ _ r
     · rw [if_neg hi] at D
       unfold DN
       rw [h.len]
       exact A0 (fun _=>D _ _ h) fun g1=>A0 (fun _=>D _ _ h) fun g2=>absurd ⟨by omega,by omega⟩ hi
   · rw [if_neg h2] at D
     by_cases h5:x.Kind=5
     · rw [if_pos h5] at D
       refine BA (fun e=>by omega) fun _=>BA (fun e=>by omega) fun _=>BA (fun e=>by omega) fun _=>?_
       exact sF O hr h g Z fun _ _ r=>D _ _ r
     · rw [if_neg h5] at D
       by_cases hi:wR c x.A∧wR c x.B
       · rw [if_pos hi] at D
         have e1:x.A=((x.A.toNat:Nat):Int):=by have:=hi.1.1; omega
         have e2:x.B=((x.B.toNat:Nat):Int):=by have:=hi.2.1; omega
         have J:x.A.toNat<c.n:=by have:=hi.1.2; have:=hi.1.1; omega
         have G:x.B.toNat<c.n:=by have:=hi.2.2; have:=hi.2.1; omega
         rw [e1,e2]
         obtain ⟨pb,W,Y⟩:=h.bx _ _ J G
         refine BA (fun e=>?_) fun e3=>BA (fun e=>?_) fun e4=>BA (fun e=>?_) fun e=>?_
         · rw [if_pos e] at D
           exact pO O hr h g Z J G fun _ _ r=>D _ _ r
         · rw [if_neg e3,if_pos e] at D
           refine aJ O h J G ?_
           unfold KN
           rw [FC,JD W]
           exact rY (Aa8 O g Z J G) Y fun b' U=>D _ _ (h.setB J G U)
         · rw [if_neg e3,if_neg e4] at D
           refine aJ O h J G ?_
           unfold MQ
           rw [FC,JD W]
           exact Aa6 (Aa8 O g Z J G) Y fun b' U=>D _ _ (h.setB J G U)
         · omega
       · rw [if_neg hi] at D
         have q:=D _ _ h
         refine BA (fun e=>?_) fun e3=>BA (fun e=>?_) fun e4=>BA (fun e=>?_) fun e=>?_
         · exact wG h hi q
         · refine fY h hi ?_
           unfold GI FA
           exact AY rfl q
         · refine fY h hi ?_
           unfold IA FA
           exact AY rfl q
         · omega
theorem wH (V:VL c) (h:RepR c ra rb m o o3 o4) {Q:Bool→Prop} (O:Q (m.ended c)):FB o o3 Q:=by
 have hn:=V.n
 unfold FB
 rw [h.len,h.S]
 refine BT (fun j (x:Int)=>∃ i:Nat,x=(i:Int)∧i+j=c.n∧∀ k,k<i→(m.w k).at_=c.S.length) (m0:=c.n) ⟨0,rfl,by omega,fun k hk=>by omega⟩ ?_
 rintro j _ next ⟨i,rfl,Y,D⟩ hnext
 refine A0 (fun hi=>?_) (fun hi=>?_)
 · have G:i<c.n:=by omega
   obtain ⟨x,hx,J⟩:=h.wk i G
   refine A9 (by omega) (h.get G) (D4 hx ?_)
   rw [J.at_]
   have hle:=J.le
   refine A0 (fun Z=>?_) (fun U=>?_)
   · have:m.ended c=false:=by
       cases he:m.ended c with
       | false=>rfl
       | true=>have:=T4.1 he i G; omega
     rwa [this] at O
   · have W:A7 ((i:Int)+1)=((i+1:Nat):Int):=by rw [AJ (by omega) (by omega)]; simp
     refine hnext (j - 1) _ (by omega) ⟨i+1,W,by omega,fun k hk=>?_⟩
     by_cases e:k=i
     · subst e; omega
     · exact D k (by omega)
 · have:m.ended c=true:=T4.2 fun k hk=>D k (by omega)
   rwa [this] at O
theorem aK {n k i j a:Int} (h1:BS n k i≤a) (h2:a<BS n k (i+1)) (h3:BS n k j≤a) (h4:a<BS n k (j+1)):i=j:=by
 rcases Int.lt_trichotomy i j with h | h | h
 · have:=MZ (n:=n) (k:=k) (show i+1≤j by omega); omega
 · exact h
 · have:=MZ (n:=n) (k:=k) (show j+1≤i by omega); omega
theorem sG {S D:List AX}:∀ {s:Nat},s≤S.length→S.take s=D.take s→s≤D.length→BJ S s=BJ D s
 | 0,_,_,_=>rfl
 | s+1,h,e,h'=>by
  have:=congrArg (·[s]?) e
  simp only [List.getElem?_take,show s<s+1 by omega,if_true] at this
  show (S.getD s default).To=(D.getD s default).To
  simp [List.getD_eq_getElem?_getD,this]
theorem mM {n:Int} {R C:Nat} {S J:List AX} (h:SegSp n R C n S) (O:SegSp n R C n J):∀ s,s≤S.length→s≤J.length∧S.take s=J.take s
 | 0,_=>by simp
 | s+1,hs=>by
  obtain ⟨i1,i2⟩:=mM h O s (by omega)
  have G:s<S.length:=by omega
  have elo:=sG (by omega) i2 i1
  have a1:=h.lo s G
  have D:s<J.length:=by
   rcases Nat.lt_or_ge s J.length with W | W
   · exact W
   · have:s=J.length:=by omega
     rw [this,O.top,←this] at elo; omega
  have a2:=O.lo s D
  have r1:=h.row s G
  have r2:=O.row s D
  have q1:=h.col s G
  have q2:=O.col s D
  have Z:S[s].Row=J[s].Row:=aK (a:=S[s].From) r1.2.1 (by omega) (by omega) (by omega)
  have Y:S[s].Col=J[s].Col:=aK (a:=S[s].From) q1.2.1 (by omega) (by omega) (by omega)
  have nx:∀ {T V:List AX} (h:SegSp n R C n T) (O:SegSp n R C n V) (hT:s<T.length) (U:s<V.length),T[s].From=V[s].From→T[s].Row=V[s].Row→T[s].Col=V[s].Col→T[s].To<V[s].To→False:=fun {T V} h O hT U ef Z Y D=>by
   have b1:=h.lo s hT
   have b2:=O.lo s U
   have ht:BJ T (s+1)=T[s].To:=by show (T.getD s default).To=_; simp [List.getD_eq_getElem?_getD,hT]
   have W:s+1<T.length:=by
     rcases Nat.lt_or_ge (s+1) T.length with g | g
     · exact g
     · have:s+1=T.length:=by omega
       rw [this,h.top] at ht; omega
   have b3:=h.lo (s+1) W
   have c1:=h.row (s+1) W
   have c2:=h.col (s+1) W
   have c3:=O.row s U
   have c4:=O.col s U
   have d1:=h.row s hT
   have d2:=h.col s hT
   refine h.adj s W ⟨?_,?_⟩
   · rw [Z] at d1 ⊢; exact aK (n:=n) (k:=(R:Int)) (a:=T[s].To) (by omega) (by omega) (by omega) (by omega)
   · rw [Y] at d2 ⊢; exact aK (n:=n) (k:=(C:Int)) (a:=T[s].To) (by omega) (by omega) (by omega) (by omega)
  have ef:S[s].From=J[s].From:=by omega
  have et:S[s].To=J[s].To:=by
   rcases Int.lt_trichotomy S[s].To J[s].To with g | g | g
   · exact (nx h O G D ef Z Y g).elim
   · exact g
   · exact (nx O h D G ef.symm Z.symm Y.symm g).elim
  have e:S[s]=J[s]:=by
   revert ef et Z Y
   generalize S[s]=x
   generalize J[s]=y
   cases x; cases y
   simp only
   rintro rfl rfl rfl rfl; rfl
  exact ⟨D,by rw [List.take_succ_eq_append_getElem G,List.take_succ_eq_append_getElem D,i2,e]⟩
theorem AaB {n:Int} {R C:Nat} {S D:List AX} (h:SegSp n R C n S) (G:SegSp n R C n D):S=D:=by
 obtain ⟨a1,a2⟩:=mM h G S.length (Nat.le_refl _)
 obtain ⟨b1,_⟩:=mM G h D.length (Nat.le_refl _)
 have:S.length=D.length:=by omega
 rw [List.take_length,this,List.take_length] at a2
 exact a2
theorem SegSp.init {n:Int} {R C:Nat} {G:Int} {S:List AX} {x:AX} (h:SegSp n R C G (S++[x])):SegSp n R C x.From S:=by
 have g:∀ s (D:s<S.length),(S++[x])[s]'(by simp; omega)=S[s]:=fun s D=>List.getElem_append_left D
 have e:=(h.lo S.length (by simp)).1
 rw [List.getElem_append_right (Nat.le_refl _),WU S x _ (Nat.le_refl _)] at e
 simp only [Nat.sub_self,List.getElem_singleton] at e
 refine ⟨fun s D=>?_,fun s D=>?_,fun s D=>?_,e.symm,fun s D=>?_⟩
 · have:=h.row s (by simp; omega); rwa [g s D] at this
 · have:=h.col s (by simp; omega); rwa [g s D] at this
 · have:=h.lo s (by simp; omega); rwa [g s D,WU S x s (by omega)] at this
 · have:=h.adj s (by simp; omega); rwa [g s (by omega),g (s+1) D] at this
theorem fZ {n k a:Int} {Q:Int→Prop} (h:PE n k) (h0:0≤a) (h1:a<n) (V:∀ i,0≤i→i<k→BS n k i≤a→a<BS n k (i+1)→Q i):V0 n k a Q:=by
 have J:=h
 unfold PE at J
 unfold V0
 refine PG (AC (by rw [decide_eq_true h]; rfl) ?_)
 refine BT (fun j (i:Int)=>0≤i∧i≤k∧BS n k i≤a∧(k - i).toNat=j) (m0:=k.toNat) ⟨by omega,by omega,?_,by simp⟩ ?_
 · have:BS n k 0=0:=by rw [uF h (by omega) (by omega)]; simp
   omega
 rintro j i next ⟨U,i1,D,i3⟩ hnext
 refine A0 (fun hi=>?_) (fun hi=>?_)
 · have O:A7 (i+1)=i+1:=AJ (by omega) (by omega)
   refine EW (AY (by simpa using D) ?_)
   rw [O]
   exact EW (A0 (fun G=>V i U hi D G) fun G=>hnext (j - 1) _ (by omega) ⟨by omega,by omega,by omega,by omega⟩)
 · have:i=k:=by omega
   rw [this,TV h] at D
   omega
theorem dM {n:Int} {R C:Nat} (hn:0≤n∧n≤4096) (hR:1≤R∧R≤8) (hC:1≤C∧C≤8) {S:List AX} (hS:SegSp n R C n S) {Q:List AX→Prop} (hQ:Q S):JQ n (R:Int) (C:Int) Q:=by
 have U:PE n (R:Int):=⟨hn,by omega⟩
 have Z:PE n (C:Int):=⟨hn,by omega⟩
 unfold JQ
 refine PG (AC (by rw [decide_eq_true U]; rfl) (PG (AC (by rw [decide_eq_true Z]; rfl) ?_)))
 refine BT (fun j (x:List AX×Int)=>∃ T:List AX,∃ a:Nat,x=(T,(a:Int))∧SegSp n R C a T∧T.length≤a∧a+j=n.toNat) (m0:=n.toNat)
   ⟨[],0,rfl,⟨fun s h=>by simp at h,fun s h=>by simp at h,fun s h=>by simp at h,rfl,fun s h=>by simp at h⟩,by simp,by omega⟩ ?_
 rintro j _ next ⟨T,a,rfl,D,hl,hj⟩ hnext
 refine A0 (fun ha=>?_) (fun ha=>?_)
 · have ha:(a:Int)<n:=ha
   have ew:A7 ((a:Int)+1)=((a+1:Nat):Int):=by rw [AJ (by omega) (by omega)]; simp
   refine fZ U (by omega) ha fun r r0 r1 r2 r3=>fZ Z (by omega) ha fun q q0 q1 q2 q3=>?_
   rw [ew]
   have O:(∀ s (h:s<T.length),s+1=T.length→¬(T[s].Row=r∧T[s].Col=q))→ED 32 T ([({ From:=(a:Int),To:=((a+1:Nat):Int),Row:=r,Col:=q }:AX)]) fun _=>next ((T++([({ From:=(a:Int),To:=((a+1:Nat):Int),Row:=r,Col:=q }:AX)])),((a+1:Nat):Int)):=fun hd=>
     AR (by simp; omega) (hnext (j - 1) _ (by omega) ⟨_,a+1,rfl,D.snoc (by omega) (by omega) ⟨⟨r0,r1⟩,r2,by omega⟩ ⟨⟨q0,q1⟩,q2,by omega⟩ hd,by simp; omega,by omega⟩)
   unfold EC
   rcases List.eq_nil_or_concat T with rfl | ⟨T0,x,hT0⟩
   · exact AC (by simp) (AC rfl (O fun s h=>by simp at h))
   · rw [List.concat_eq_append] at hT0
     subst hT0
     have hl':T0.length+1≤a:=by simpa using hl
     have e1:A7 (((T0++[x]).length:Int) - 1)=(T0.length:Int):=by simp; rw [AJ (by omega) (by omega)]
     have G:(T0++[x])[((T0.length:Int)).toNat]? = some x:=by simp
     have ix:∀ {K:AX→Prop},K x→AN (T0++[x]) (T0.length:Int) K:=fun hk=>A9 (by omega) G hk
     rw [e1]
     have hx:=D.row T0.length (by simp)
     have hy:=D.col T0.length (by simp)
     have hz:=D.lo T0.length (by simp)
     rw [List.getElem_append_right (Nat.le_refl _)] at hx hy hz
     simp only [Nat.sub_self,List.getElem_singleton] at hx hy hz
     have etop:x.To=a:=by
       have:=D.top
       simp only [List.length_append,List.length_singleton] at this
       have e:BJ (T0++[x]) (T0.length+1)=x.To:=by show ((T0++[x]).getD T0.length default).To=_; simp [List.getD_eq_getElem?_getD]
       omega
     have W:¬(x.Row=r∧x.Col=q)→∀ s (h:s<(T0++[x]).length),s+1=(T0++[x]).length→¬((T0++[x])[s].Row=r∧(T0++[x])[s].Col=q):=fun hn s hs J=>by
       have:s=T0.length:=by simp at J; omega
       subst this
       rw [List.getElem_append_right (Nat.le_refl _)]
       simpa using hn
     refine AY (by simp) (ix (BA (fun V=>ix ?_) fun V=>AC rfl (O (W fun e=>V e.1))))
     by_cases eq:x.Col=q
     · refine AY (by simpa using eq) (ix ?_)
       have Y:(T0++[x]).set ((T0.length:Int)).toNat ({ From:=x.From,To:=((a+1:Nat):Int),Row:=x.Row,Col:=x.Col }:AX)=T0++[⟨x.From,((a+1:Nat):Int),r,q⟩]:=by
         rw [←V,←eq]; simp
       rw [Y]
       refine hnext (j - 1) _ (by omega) ⟨_,a+1,rfl,D.init.snoc (by omega) (by omega) ⟨⟨r0,r1⟩,?_,by omega⟩ ⟨⟨q0,q1⟩,?_,by omega⟩ fun s hs J hd=>?_,by simp; omega,by omega⟩
       · rw [←V]; exact hx.2.1
       · rw [←eq]; exact hy.2.1
       · have:=D.adj s (by simp; omega)
         rw [List.getElem_append_left hs,List.getElem_append_right (by omega)] at this
         simp only [J,Nat.sub_self,List.getElem_singleton] at this
         exact this ⟨hd.1.trans V.symm,hd.2.trans eq.symm⟩
     · exact AC (by simpa using eq) (O (W fun e=>eq e.2))
 · have:(a:Int)=n:=by omega
   rw [this] at D
   rw [AaB D hS]; exact hQ
variable {d:Data}
theorem wI (h:DOk0 d) {Q:Int→Prop} (D:Q 0):RL d.p Q:=by
 have hR:=h.R
 have hC:=h.C
 have hr:=h.r
 have hm:=h.room
 unfold RL Data.p
 refine M5 (AC (by simp; omega) ?_)
 refine S8 ⟨h.cA.sml.1,h.cA.sml.2.1⟩ (AC (by rw [decide_eq_true h.cA.right]; rfl) ?_)
 refine S8 ⟨h.cB.sml.1,h.cB.sml.2.1⟩ (AC (by rw [decide_eq_true h.cB.right]; rfl) ?_)
 refine S8 ⟨h.cM.sml.1,h.cM.sml.2.1⟩ (AC (by rw [decide_eq_true h.cM.right]; rfl) ?_)
 refine CK (fun e=>absurd rfl e) fun _=>CK (fun e=>absurd rfl e) fun _=>CK (fun e=>absurd rfl e) fun _=>?_
 exact AC (by simp; omega) (AC (by simp; omega) (AC (by simp; omega) (AC (by simp; omega) (AC (by simp; omega) (AC (by simp; omega) D)))))
def v0 (d:Data) (w:Nat) (out:List AO):AQ:={ I:=((w / d.C:Nat):Int),J:=((w % d.C:Nat):Int),Mask:=B0 (d.rl (w / d.C+1) - d.rl (w / d.C)) (d.cl (w % d.C+1) - d.cl (w % d.C)) (jX d (w / d.C) (w % d.C)),Out:=out,Lefts:=List.replicate d.S.length false,Rights:=List.replicate d.S.length false,L:=List.replicate d.S.length [],R:=List.replicate d.S.length [],At:=0,Has:=[] }
theorem aL {C i j:Nat} (h:C≤8) (hi:i<8) (hj:j<C):A7 (A7 ((i:Int)*(C:Int))+(j:Int))=((i*C+j:Nat):Int):=by
 have hb:i*C≤8*8:=Nat.mul_le_mul (by omega) h
 have e:((i:Int)*(C:Int))=((i*C:Nat):Int):=by simp
 rw [e,AJ (x:=((i*C:Nat):Int)) (by omega) (by omega),AJ (by omega) (by omega)]; simp
theorem AaC (h:SM d) {w:Nat} (hw:w<d.R*d.C) {ws bs:List (Option Nat)} {bk:A4} {Q:AQ→Prop}
   (hQ:Q (v0 d w (OS d w d.S.length))):FQ { P:=d.p,S:=d.S,W:=ws,B:=bs } (v0 d w []) bk Q:=by
 have hR:=h.R
 have hC:=h.C
 have hi:w / d.C<d.R:=Nat.div_lt_of_lt_mul (by rw [Nat.mul_comm]; exact hw)
 have hj:w % d.C<d.C:=Nat.mod_lt _ (by omega)
 have b1:=aD h (w / d.C)
 have b2:=aF h (w % d.C)
 have hSl:=h.seg.len
 have mX:∀ {n:Int} {k i:Nat} {Q:Int×Int→Prop},k≤8→i<k→Q (BS n k i,BS n k ((i+1:Nat):Int))→I7 n (k:Int) (i:Int) Q:=fun {n k i Q} hk hi hq=>by
   unfold I7
   refine EW ?_
   rw [AJ (by omega) (by omega)]
   exact EW (by simpa using hq)
 unfold FQ
 refine BT (fun j (x:List AO×Int)=>∃ s:Nat,x=(OS d w s,(s:Int))∧s+j=d.S.length) (m0:=d.S.length) ⟨0,rfl,by omega⟩ ?_
 rintro jj _ next ⟨s,rfl,hsj⟩ hnext
 refine A0 (fun J=>?_) (fun J=>?_)
 rotate_left
 · have:s=d.S.length:=by have:¬((s:Int)<(d.S.length:Int)):=J; omega
   subst this
   exact hQ
 have J:s<d.S.length:=by have:(s:Int)<(d.S.length:Int):=J; omega
 have hlo:=h.seg.lo s J
 have hb:=aG h s (by omega)
 have he:=U2 (d:=d) J
 have hol:=aH h w s
 have G:d.S.getD s default=d.S[s]:=by simp [List.getD_eq_getElem?_getD,J]
 obtain ⟨eA,O,_⟩:=DO h.cA (l:=d.rl (w / d.C)) (u:=d.rl (w / d.C+1)) (c:=d.S[s].From) (d:=d.S[s].To) b1.1 b1.2.1 b1.2.2 (by omega) (by omega) (by omega)
 obtain ⟨eB,Y,_⟩:=DO h.cB (l:=d.S[s].From) (u:=d.S[s].To) (c:=d.cl (w % d.C)) (d:=d.cl (w % d.C+1)) (by omega) (by omega) (by omega) b2.1 b2.2.1 b2.2.2
 have ew:A7 ((s:Int)+1)=((s+1:Nat):Int):=by rw [AJ (by omega) (by omega)]; simp
 have go:=hnext (jj - 1) _ (by omega) ⟨s+1,rfl,by omega⟩
 rw [WV,←List.append_assoc] at go
 refine AK J ?_
 rw [ew]
 refine CJ (fun o=>o=OS d w s++KK d w s) ?_ fun k' hk'=>?_
 · -- the second half
   rintro _ rfl
   have hll:(KK d w s).length≤16:=by have:=pG h w s; rw [List.length_append] at this; omega
   refine BA (fun e=>?_) (fun e=>?_)
   · have e:d.S[s].Row=((w / d.C:Nat):Int):=e
     show I7 d.q (d.C:Int) ((w % d.C:Nat):Int) _
     refine mX hC.2 hj ?_
     show M4 (B0 d.k d.q d.B) _ _ _
     refine Y6 h.cB.sml (D8 h.cB) h.cB ?_
     have eB':bI d.k d.q d.B (d.S[s].From,d.S[s].To) (BS d.q d.C ((w % d.C:Nat):Int),BS d.q d.C ((w % d.C+1:Nat):Int))=_:=eB
     rw [eB']
     refine MV Y.sml (D8 Y) Y ?_
     have Z:N3 d w s=(List.range d.R).map (mG d w s):=by unfold N3; rw [G,if_pos e]
     rw [Z] at go
     refine BT (fun j (t:List AO×Int)=>∃ a:Nat,t=(OS d w s++KK d w s++(List.range a).map (mG d w s),(a:Int))∧a+j=d.R) (m0:=d.R) ⟨0,by simp,by omega⟩ ?_
     rintro j _ V ⟨a,rfl,haj⟩ hnext2
     show AD (decide ((a:Int)<(d.R:Int))) _ _
     refine A0 (fun ha=>?_) (fun ha=>?_)
     · have ea:A7 ((a:Int)+1)=((a+1:Nat):Int):=by rw [AJ (by omega) (by omega)]; simp
       have ef:({ Kind:=7,From:=A7 (A7 (((w / d.C:Nat):Int)*(d.C:Int))+((w % d.C:Nat):Int)),To:=A7 (A7 ((a:Int)*(d.C:Int))+((w % d.C:Nat):Int)),Seq:=0,Round:=(s:Int),Vec:={ N:=0,Items:=[] },Sums:=[],Triples:=HI d.S[s].From d.S[s].To (d.cl (w % d.C)) (d.cl (w % d.C+1)) d.B,N:=0,Over:=false }:AO)=mG d w s a:=by
        rw [aL hC.2 (by omega) hj,aL hC.2 (by omega) hj]
        unfold mG X3; rw [he,hlo.1]
       have hn:=hnext2 (j - 1) (OS d w s++KK d w s++(List.range (a+1)).map (mG d w s),((a+1:Nat):Int)) (by omega) ⟨a+1,rfl,by omega⟩
       rw [List.range_succ,List.map_append,←List.append_assoc,List.map_singleton,←ef,←ea] at hn
       exact AR (by simp only [List.length_append,List.length_map,List.length_range,List.length_singleton]; omega) hn
     · have:a=d.R:=by omega
       subst this
       exact go
   · have e:¬d.S[s].Row=((w / d.C:Nat):Int):=e
     have Z:N3 d w s=[]:=by unfold N3; rw [G,if_neg e]
     rw [Z,List.append_nil] at go
     exact go
 · have D:=hk' _ rfl
   refine BA (fun e=>?_) (fun e=>?_)
   · have e:d.S[s].Col=((w % d.C:Nat):Int):=e
     show I7 d.n (d.R:Int) ((w / d.C:Nat):Int) _
     refine mX hR.2 hi ?_
     show M4 (B0 d.n d.k d.A) _ _ _
     refine Y6 h.cA.sml (D8 h.cA) h.cA ?_
     have eA':bI d.n d.k d.A (BS d.n d.R ((w / d.C:Nat):Int),BS d.n d.R ((w / d.C+1:Nat):Int)) (d.S[s].From,d.S[s].To)=_:=eA
     rw [eA']
     refine MV O.sml (D8 O) O ?_
     have U:KK d w s=(List.range d.C).map (mF d w s):=by unfold KK; rw [G,if_pos e]
     rw [U] at D
     refine BT (fun j (t:List AO×Int)=>∃ a:Nat,t=(OS d w s++(List.range a).map (mF d w s),(a:Int))∧a+j=d.C) (m0:=d.C) ⟨0,by simp,by omega⟩ ?_
     rintro j _ V ⟨a,rfl,haj⟩ hnext2
     show AD (decide ((a:Int)<(d.C:Int))) _ _
     refine A0 (fun ha=>?_) (fun ha=>?_)
     · have ea:A7 ((a:Int)+1)=((a+1:Nat):Int):=by rw [AJ (by omega) (by omega)]; simp
       have ef:({ Kind:=6,From:=A7 (A7 (((w / d.C:Nat):Int)*(d.C:Int))+((w % d.C:Nat):Int)),To:=A7 (A7 (((w / d.C:Nat):Int)*(d.C:Int))+(a:Int)),Seq:=0,Round:=(s:Int),Vec:={ N:=0,Items:=[] },Sums:=[],Triples:=HI (d.rl (w / d.C)) (d.rl (w / d.C+1)) d.S[s].From d.S[s].To d.A,N:=0,Over:=false }:AO)=mF d w s a:=by
        rw [aL hC.2 (by omega) hj,aL hC.2 (by omega) (show a<d.C by omega)]
        unfold mF VO; rw [he,hlo.1]
       have hn:=hnext2 (j - 1) (OS d w s++(List.range (a+1)).map (mF d w s),((a+1:Nat):Int)) (by omega) ⟨a+1,rfl,by omega⟩
       rw [List.range_succ,List.map_append,←List.append_assoc,List.map_singleton,←ef,←ea] at hn
       exact AR (by simp only [List.length_append,List.length_map,List.length_range,List.length_singleton]; omega) hn
     · have:a=d.C:=by omega
       subst this
       exact D
   · have e:¬d.S[s].Col=((w % d.C:Nat):Int):=e
     have U:KK d w s=[]:=by unfold KK; rw [G,if_neg e]
     rw [U,List.append_nil] at D
     exact D
variable {d:Data} {m:MS} {adr ra rb:Nat→Nat} {o:AM} {o3:A4} {o4:AA}
theorem wJ (h:SM d) {i j:Nat} (hi:i<d.R) (hj:j<d.C) {Q:Rows→Prop} (O:Q (B0 (d.rl (i+1) - d.rl i) (d.cl (j+1) - d.cl j) (jX d i j))):PR (B0 d.n d.q d.M) (d.R:Int) (d.C:Int) (i:Int) (j:Int) Q:=by
 have hR:=h.R
 have hC:=h.C
 have G:dA (d.R:Int) (d.C:Int) (i:Int) (j:Int):=⟨⟨⟨by omega,by omega⟩,by omega,by omega⟩,⟨by omega,by omega⟩,by omega,by omega⟩
 refine lZ h.cM ?_
 have D:=aD h i
 have b2:=aF h j
 obtain ⟨J,_,_⟩:=DO h.cM (l:=d.rl i) (u:=d.rl (i+1)) (c:=d.cl j) (d:=d.cl (j+1)) D.1 D.2.1 D.2.2 b2.1 b2.2.1 b2.2.2
 unfold vP
 rw [if_pos G]
 have V:BS d.n (d.R:Int) ((i:Int)+1)=d.rl (i+1):=by unfold Data.rl; simp
 have U:BS d.q (d.C:Int) ((j:Int)+1)=d.cl (j+1):=by unfold Data.cl; simp
 rw [V,U]
 show Q (bI d.n d.q d.M (d.rl i,d.rl (i+1)) (d.cl j,d.cl (j+1)))
 rw [J]
 exact O
section bank
variable {α:Type} {P:Nat→α→Prop} {ads:List Nat} {bk:List (Nat×α)}
def Ads (P:Nat→α→Prop) (ads:List Nat) (bk:List (Nat×α)):Prop:=ads.Nodup∧∀ k (hk:k<ads.length),∃ x,BK ads[k] bk=some x∧P k x
theorem Ads.snoc (h:Ads P ads bk) {b:Nat} {x:α} (O:BK b bk=none) (W:P ads.length x):Ads P (ads++[b]) ((b,x) :: bk):=by
 have D:∀ i (hi:i<ads.length),ads[i]≠b:=fun i hi e=>by obtain ⟨y,J,_⟩:=h.2 i hi; rw [e,O] at J; cases J
 refine ⟨?_,fun i hi=>?_⟩
 · rw [List.nodup_append]
   refine ⟨h.1,(by simp),fun a U c G e=>?_⟩
   rw [List.mem_singleton] at G
   obtain ⟨i,hi,rfl⟩:=List.getElem_of_mem U
   exact D i hi (e.trans G)
 · simp only [List.length_append,List.length_singleton] at hi
   by_cases e:i<ads.length
   · rw [List.getElem_append_left e,VK (D i e)]; exact h.2 i e
   · have V:i=ads.length:=by omega
     subst V
     have:(ads++[b])[ads.length]'(by simp)=b:=by rw [List.getElem_append_right (by omega)]; simp
     rw [this,QS]; exact ⟨x,rfl,W⟩
theorem Ads.get (h:Ads P ads bk) {k:Nat} (hk:k<ads.length):∃ x,BK (ads.getD k 0) bk=some x∧P k x:=by
 have e:ads.getD k 0=ads[k]:=by simp [List.getD_eq_getElem?_getD,hk]
 rw [e]; exact h.2 k hk
theorem Ads.inj (h:Ads P ads bk) {i j:Nat} (hi:i<ads.length) (D:j<ads.length) (e:ads.getD i 0=ads.getD j 0):i=j:=by
 have G:ads.getD i 0=ads[i]:=by simp [List.getD_eq_getElem?_getD,hi]
 have J:ads.getD j 0=ads[j]:=by simp [List.getD_eq_getElem?_getD,D]
 rw [G,J] at e
 exact (List.getElem_inj h.1).1 e
theorem kE {n:Nat} (D:ads.length=n):ads.map some=(List.range n).map fun k=>some (ads.getD k 0):=by
 subst D
 refine List.ext_getElem (by simp) fun i h h2=>?_
 simp only [List.length_map] at h
 simp [List.getD_eq_getElem?_getD,h]
end bank
theorem Ac0 (Y:DOk0 d) {S:List AX} (hS:SegSp d.k d.R d.C d.k S) (h:SM (d.wS S)) {Q0:(Int×A4×AA)→Prop} {Q1:(Int×A4×AA×AM)→Prop}
   (hQ:∀ ra rb o o3 o4,RepR ((d.wS S).ctx adr) ra rb (init (d.wS S)) o o3 o4→Q1 (0,o3,o4,o)):O4 [] [] d.p Q0 Q1:=by
 have hR:=Y.R
 have hC:=Y.C
 have hm:=Y.room
 have hSl:S.length≤64:=by have:=h.seg.len; have:S.length+1≤d.R+d.C:=this; omega
 have hn:d.R*d.C≤64:=Nat.mul_le_mul hR.2 hC.2
 unfold O4
 refine wI Y (AC rfl ?_)
 show JQ d.k (d.R:Int) (d.C:Int) _
 refine dM ⟨Y.cA.c0,Y.cA.c1⟩ hR hC hS ?_
 refine BT (fun j (x:List (Option Nat)×List (Option Nat)×Int×A4)=>∃ (i:Nat) (ads:List Nat) (bk:A4),x=(ads.map some,[],(i:Int),bk)∧i+j=d.R∧ads.length=i*d.C∧Ads (fun k x=>x=v0 (d.wS S) k (OS (d.wS S) k S.length)) ads bk) (m0:=d.R) ⟨0,[],[],rfl,by omega,by simp,List.nodup_nil,fun k hk=>by simp at hk⟩ ?_
 rintro jr _ next ⟨i,ads,bk,rfl,hij,hl,hA⟩ hnext
 show AD (decide ((i:Int)<(d.R:Int))) _ _
 refine A0 (fun hi=>?_) (fun hi=>?_)
 · have hi':i<d.R:=by omega
   refine BT (fun j (x:List (Option Nat)×Int×A4)=>∃ (q:Nat) (ads:List Nat) (bk:A4),x=(ads.map some,(q:Int),bk)∧q+j=d.C∧ads.length=i*d.C+q∧Ads (fun k x=>x=v0 (d.wS S) k (OS (d.wS S) k S.length)) ads bk) (m0:=d.C) ⟨0,ads,bk,rfl,by omega,by omega,hA⟩ ?_
   rintro jc _ U ⟨q,O,bk2,rfl,hqj,Z,hA2⟩ hnext2
   show AD (decide ((q:Int)<(d.C:Int))) _ _
   refine A0 (fun hq=>?_) (fun hq=>?_)
   · have W:q<d.C:=by omega
     have hk:=fV hi' W
     obtain ⟨p1,p2⟩:=PX (i:=i) W
     show PR (B0 d.n d.q d.M) (d.R:Int) (d.C:Int) (i:Int) (q:Int) _
     refine wJ (d:=d.wS S) h hi' W ⟨by omega,by omega,⟨by omega,by omega,⟨by omega,by omega,⟨by omega,by omega,?_⟩⟩⟩⟩
     have ev:v0 (d.wS S) (i*d.C+q) [] = { I:=(i:Int),J:=(q:Int),Mask:=B0 ((d.wS S).rl (i+1) - (d.wS S).rl i) ((d.wS S).cl (q+1) - (d.wS S).cl q) (jX (d.wS S) i q),Out:=[],Lefts:=List.replicate ((S.length:Int)).toNat false,Rights:=List.replicate ((S.length:Int)).toNat false,L:=List.replicate ((S.length:Int)).toNat [],R:=List.replicate ((S.length:Int)).toNat [],At:=0,Has:=[] }:=by
       have e1:(i*d.C+q) / (d.wS S).C=i:=p1
       have e2:(i*d.C+q) % (d.wS S).C=q:=p2
       unfold v0
       rw [e1,e2]
       simp only [Int.toNat_natCast]
       rfl
     rw [←ev]
     refine AaC (d:=d.wS S) h hk fun b V=>AR (by simp; omega) ?_
     have ew:A7 ((q:Int)+1)=((q+1:Nat):Int):=by rw [AJ (by omega) (by omega)]; simp
     rw [ew]
     exact hnext2 (jc - 1) _ (by omega) ⟨q+1,O++[b],_,by rw [List.map_append]; rfl,by omega,by simp; omega,hA2.snoc V (by rw [Z]; rfl)⟩
   · have hqe:q=d.C:=by omega
     subst hqe
     have ew:A7 ((i:Int)+1)=((i+1:Nat):Int):=by rw [AJ (by omega) (by omega)]; simp
     rw [ew]
     exact hnext (jr - 1) _ (by omega) ⟨i+1,O,bk2,rfl,by omega,by rw [Z,Nat.succ_mul],hA2⟩
 · have hie:i=d.R:=by omega
   subst hie
   have hn2:(d.R*d.C)*(d.R*d.C)≤64*64:=Nat.mul_le_mul hn hn
   have ec:A7 (((ads.map some).length:Int)*((ads.map some).length:Int))=((d.R*d.C*(d.R*d.C):Nat):Int):=by
     have:(((ads.map some).length:Int)*((ads.map some).length:Int))=((d.R*d.C*(d.R*d.C):Nat):Int):=by rw [List.length_map,hl]; simp
     rw [this,AJ (by omega) (by omega)]
   refine BT (fun j (x:List (Option Nat)×Int×AA)=>∃ (k:Nat) (D:List Nat) (bx:AA),x=(D.map some,(k:Int),bx)∧k+j=d.R*d.C*(d.R*d.C)∧D.length=k∧Ads (fun _ x=>YH x ⟨d.room,[],[],0⟩) D bx) (m0:=d.R*d.C*(d.R*d.C)) ⟨0,[],[],rfl,by omega,rfl,List.nodup_nil,fun k hk=>by simp at hk⟩ ?_
   rintro jb _ U ⟨k,D,bx,rfl,hkj,hbl,hB⟩ hnext2
   show AD (decide ((k:Int)<A7 (((ads.map some).length:Int)*((ads.map some).length:Int)))) _ _
   rw [ec]
   refine A0 (fun hk=>?_) (fun hk=>?_)
   · unfold S5
     show AD (decide ((d.room:Int)<1)) _ _
     refine AC (by simp; omega) (AC (by show decide (64<(d.room:Int))=false; simp; omega) fun b V=>AR (by simp; omega) ?_)
     have ew:A7 ((k:Int)+1)=((k+1:Nat):Int):=by rw [AJ (by omega) (by omega)]; simp
     rw [ew]
     exact hnext2 (jb - 1) _ (by omega) ⟨k+1,D++[b],_,by rw [List.map_append]; rfl,by omega,by simp; omega,hB.snoc V ⟨rfl,rfl,rfl,rfl⟩⟩
   · have G:D.length=d.R*d.C*(d.R*d.C):=by omega
     refine hQ (fun k=>ads.getD k 0) (fun k=>D.getD k 0) _ _ _ ⟨rfl,rfl,kE hl,kE G,fun k hk=>?_,fun f t hf ht=>?_,fun a b ha V e=>hA.inj (by rw [hl]; exact ha) (by rw [hl]; exact V) e,fun a b ha V e=>hB.inj (by rw [G]; exact ha) (by rw [G]; exact V) e⟩
     · obtain ⟨x,hx,rfl⟩:=hA.get (k:=k) (by rw [hl]; exact hk)
       refine ⟨_,hx,rfl,rfl,rfl,rfl,rfl,Nat.zero_le _,(kB h k).symm,fun s hs=>⟨?_,[],?_,fun e=>by cases e⟩,fun s hs=>⟨?_,[],?_,fun e=>by cases e⟩⟩
       all_goals (have hs:s<S.length:=hs; simp [v0,Data.wS,hs,init])
     · exact hB.get (k:=f*(d.R*d.C)+t) (by rw [G]; exact aI hf ht)
theorem AdA (h:SM d) (adr:Nat→Nat):RkR (d.ctx adr):=by
 intro w s hs hw Q hQ
 have Z:s<d.S.length:=hs
 have Y:=aD h (w / d.C)
 have G:=aF h (w % d.C)
 have hl:=h.seg.lo s Z
 have hb:=aG h s (by omega)
 have he:=U2 (d:=d) Z
 obtain ⟨_,J,_⟩:=DO h.cA (l:=d.rl (w / d.C)) (u:=d.rl (w / d.C+1)) (c:=BJ d.S s) (d:=BJ d.S (s+1)) Y.1 Y.2.1 Y.2.2 hb.1 (by omega) (by omega)
 obtain ⟨_,V,_⟩:=DO h.cB (l:=BJ d.S s) (u:=BJ d.S (s+1)) (c:=d.cl (w % d.C)) (d:=d.cl (w % d.C+1)) hb.1 (by omega) (by omega) G.1 G.2.1 G.2.2
 obtain ⟨_,D,_⟩:=DO h.cM (l:=d.rl (w / d.C)) (u:=d.rl (w / d.C+1)) (c:=d.cl (w % d.C)) (d:=d.cl (w % d.C+1)) Y.1 Y.2.1 Y.2.2 G.1 G.2.1 G.2.2
 have hk:=h.cA.c1
 have e1:A7 (d.S[s].To - d.S[s].From)=BJ d.S (s+1) - BJ d.S s:=by rw [AJ (by omega) (by omega)]; omega
 show HC d.r (d.rl (w / d.C+1) - d.rl (w / d.C)) (A7 (d.S[s].To - d.S[s].From)) (VO d (w / d.C) (BJ d.S s) (BJ d.S (s+1))) _
 have W:=ZO (l:=d.rl (w / d.C)) (u:=d.rl (w / d.C+1)) (c:=BJ d.S s) (d:=BJ d.S (s+1)) h.vA
 have O:=ZO (l:=BJ d.S s) (u:=BJ d.S (s+1)) (c:=d.cl (w % d.C)) (d:=d.cl (w % d.C+1)) h.vB
 rw [e1]
 refine PT (by have:=J.len; unfold VO; omega) W ?_
 show HC d.r (A7 (d.S[s].To - d.S[s].From)) (d.cl (w % d.C+1) - d.cl (w % d.C)) (X3 d (w % d.C) (BJ d.S s) (BJ d.S (s+1))) _
 rw [e1]
 refine PT (by have:=V.len; unfold X3; omega) O ?_
 unfold VO X3
 rw [WP J W h.r,WP V O h.r]
 refine lJ J V D W O ?_
 have hrr:=h.r
 unfold bN
 rw [if_neg (by show ¬ ¬(1≤d.r∧d.r≤5); omega),if_neg (by omega)]
 show HU d.r [IV d (w / d.C) (w % d.C) s,FT d.r (VO d (w / d.C) (BJ d.S s) (BJ d.S (s+1))) (X3 d (w % d.C) (BJ d.S s) (BJ d.S (s+1))) (jX d (w / d.C) (w % d.C))] _
 obtain ⟨s0,o0,z0⟩:=NV (r:=d.r) (A:=VO d (w / d.C) 0 (BJ d.S (s+1))) (B:=X3 d (w % d.C) 0 (BJ d.S (s+1))) D
 obtain ⟨s1,o1,z1⟩:=NV (r:=d.r) (A:=VO d (w / d.C) 0 (BJ d.S s)) (B:=X3 d (w % d.C) 0 (BJ d.S s)) D
 obtain ⟨s2,o2,z2⟩:=NV (r:=d.r) (A:=VO d (w / d.C) (BJ d.S s) (BJ d.S (s+1))) (B:=X3 d (w % d.C) (BJ d.S s) (BJ d.S (s+1))) D
 have U:∀ (x y:List AB),([x,y]:List (List AB)).flatten=x++y:=fun x y=>by simp
 refine ZP (by simp) (by rw [U,List.length_append]; unfold IV jX; omega) (by rw [U]; exact fun c G=>(List.mem_append.1 G).elim (o1 c) (o2 c)) (fun h'=>absurd hrr h') (fun _ h'=>absurd (fun l hl=>?_) h') (fun _ _ x hs ho hsl he'=>?_)
 · simp only [List.mem_cons,List.not_mem_nil,or_false] at hl
   rcases hl with rfl | rfl
   · exact s1
   · exact s2
 · have hall:x=IV d (w / d.C) (w % d.C) (s+1):=fH (r:=d.r) hs s0 fun key=>by
     rw [he',U]
     exact (FK o1 o2).trans (jY h (w / d.C) (w % d.C) hb.1 (by omega) (by omega) key).symm
   subst hall
   exact hQ
end Go.Proofs.YtbohadngdkjljaaGreat
