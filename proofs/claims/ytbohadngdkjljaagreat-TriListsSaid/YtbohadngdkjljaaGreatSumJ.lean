import Derived.Test.YtbohadngdkjljaaGreatSumE
namespace Go.Proofs.YtbohadngdkjljaaGreat
open Go Go.Fw
set_option linter.unusedVariables false
set_option linter.unusedSimpArgs false
variable {c:XC} {m:MS} {s:Abs} {N:Nat}
theorem AbB (D G:Nat→Bool) (S:Nat):∀ (j a:Nat),a≤S→S≤a+j→a≤XD D G S j a∧XD D G S j a≤S∧¬(XD D G S j a<S∧D (XD D G S j a)=true∧G (XD D G S j a)=true)
  | 0,a,h1,h2=>by unfold XD; exact ⟨Nat.le_refl _,h1,fun h=>by omega⟩
  | j+1,a,h1,h2=>by
    unfold XD
    split
    · rename_i h
      have:=AbB D G S j (a+1) (by omega) (by omega)
      exact ⟨by omega,this.2⟩
    · rename_i h; exact ⟨Nat.le_refl _,h1,h⟩
def Way (c:XC) (m:MS) (h:Int) (k s:Nat):Prop:=∃ f,f<c.n∧((∃ g∈(m.w f).out,g.Kind=h∧g.To=(k:Int)∧g.Round=(s:Int))∨∃ i g,(m.bx f k).taken≤i∧(m.bx f k).fs[i]? = some g∧g.Kind=h∧g.Round=(s:Int))
structure Live (c:XC) (N:Nat) (m:MS):Prop where
  bx:∀ f t,f<c.n→t<c.n→BInv (m.bx f t)
  way:∀ k s,k<c.n→s<c.S.length→((m.w k).gl s=true∨Way c m 6 k s)∧((m.w k).gr s=true∨Way c m 7 k s)
  at_:∀ k,k<c.n→(m.w k).at_≤c.S.length∧¬((m.w k).at_<c.S.length∧(m.w k).gl (m.w k).at_=true∧(m.w k).gr (m.w k).at_=true)
  totN:eD c m+eC c m=N
theorem Live.setB (h:Live c N m) {f t:Nat} {a:Abs} (hf:f<c.n) (ht:t<c.n) (hb:BInv a) (h1:a.fs=(m.bx f t).fs) (h2:a.taken=(m.bx f t).taken):Live c N (CZ m f t a):=by
  have hw:∀ {kind k s},Way c m kind k s→Way c (CZ m f t a) kind k s:=by
    rintro kind k s ⟨q,hq,hq' | ⟨i,g,g1,g2,g3⟩⟩
    · exact ⟨q,hq,.inl hq'⟩
    · refine ⟨q,hq,.inr ⟨i,g,?_,?_,g3⟩⟩ <;> (by_cases e:q=f∧k=t)
      · obtain ⟨rfl,rfl⟩:=e; simpa [CZ,h2] using g1
      · simpa [CZ,e] using g1
      · obtain ⟨rfl,rfl⟩:=e; simpa [CZ,h1] using g2
      · simpa [CZ,e] using g2
  refine ⟨fun i j hi hj=>?_,fun k s hk hs=>⟨(h.way k s hk hs).1.imp id hw,(h.way k s hk hs).2.imp id hw⟩,h.at_,?_⟩
  · by_cases e:i=f∧j=t
    · simpa [CZ,e] using hb
    · simpa [CZ,e] using h.bx i j hi hj
  · have:=bP (c:=c) (m:=m) (a:=a) hf ht
    rw [h1] at this
    have:=h.totN
    rw [fT]; omega
theorem Live.doubled (h:Live c N m) {f t:Nat} (D:f<c.n) (G:t<c.n) (k:Int):Live c N (m.double f t k).2:=by
  refine h.setB D G ((h.bx f t D G).double k) ?_ ?_ <;> (unfold Abs.double; split <;> (try split) <;> rfl)
theorem Live.moved (h:Live c N m) {f t:Nat} (D:f<c.n) (G:t<c.n) (k:Int):Live c N (m.move f t k).2:=by
  refine h.setB D G ((h.bx f t D G).move k) ?_ ?_ <;> (unfold Abs.move; split <;> rfl)
theorem sE {k t:Nat} {f:BL} {r:List BL} (G:(m.w k).out=f :: r) (D:f.To=(t:Int)) (h:(m.bx k t).fullB=false) :
    m.send c k=(true,ED (CZ m k t { m.bx k t with row:=(m.bx k t).row++[(m.bx k t).fs.length],fs:=(m.bx k t).fs++[{ f with Seq:=(m.bx k t).fs.length }] }) k { m.w k with out:=r }):=by
  have e:f.To.toNat=t:=by omega
  unfold MS.send
  rw [G]
  show (if ((m.bx k f.To.toNat).send f).1=0 then _ else _)=_
  rw [e,bO f h,if_pos rfl]
theorem AgQ {k t:Nat} {f:BL} {r:List BL} (G:(m.w k).out=f :: r) (D:f.To=(t:Int)) (h:(m.bx k t).fullB=true):m.send c k=(false,m):=by
  have e:f.To.toNat=t:=by omega
  unfold MS.send
  rw [G]
  show (if ((m.bx k f.To.toNat).send f).1=0 then _ else _)=_
  rw [e]
  unfold Abs.send
  rw [if_pos h]
  rfl
theorem AeV {k:Nat} (h:(m.w k).out=[]):m.send c k=(false,m):=by unfold MS.send; rw [h]
theorem lR (g:Good c m) {k:Nat} (hk:k<c.n):m.send c k=(false,m)∨∃ (t:Nat) (f:BL) (r:List BL),t<c.n∧(m.w k).out=f :: r∧f.To=(t:Int)∧(m.bx k t).fullB=false:=by
  cases ho:(m.w k).out with
  | nil=>exact .inl (AeV ho)
  | cons f r=>
    obtain ⟨t,s,D,hs,h,_⟩:=g.out k hk f (by rw [ho]; exact List.mem_cons_self)
    cases hf:(m.bx k t).fullB with
    | true=>exact .inl (AgQ ho h hf)
    | false=>exact .inr ⟨t,f,r,D,rfl,h,hf⟩
theorem Live.sent (h:Live c N m) (g:Good c m) {k:Nat} (hk:k<c.n):Live c N (m.send c k).2:=by
  rcases lR g hk with e | ⟨t,f,r,ht,ho,hto,hnf⟩
  · rw [e]; exact h
  · rw [sE ho hto hnf]
    have hb:=h.bx k t hk ht
    have hbs:=hb.send f
    rw [bO f hnf] at hbs
    have hw:∀ {kind q s},Way c m kind q s→Way c (ED (CZ m k t { m.bx k t with row:=(m.bx k t).row++[(m.bx k t).fs.length],fs:=(m.bx k t).fs++[{ f with Seq:=(m.bx k t).fs.length }] }) k { m.w k with out:=r }) kind q s:=by
      rintro kind q s ⟨w,hw,⟨x,hx,hx1,hx2,hx3⟩ | ⟨i,x,g1,g2,g3⟩⟩
      · by_cases e:w=k
        · subst e
          rw [ho] at hx
          rcases List.mem_cons.1 hx with e' | hx
          · subst e'
            have et:q=t:=by omega
            subst et
            refine ⟨w,hw,.inr ⟨(m.bx w q).fs.length,{ x with Seq:=(m.bx w q).fs.length },?_,?_,hx1,hx3⟩⟩
            · simpa [ED,CZ] using hb.tk
            · simp [ED,CZ]
          · exact ⟨w,hw,.inl ⟨x,by simpa [ED] using hx,hx1,hx2,hx3⟩⟩
        · exact ⟨w,hw,.inl ⟨x,by simpa [ED,e,CZ] using hx,hx1,hx2,hx3⟩⟩
      · refine ⟨w,hw,.inr ⟨i,x,?_,?_,g3⟩⟩ <;> (by_cases e:w=k∧q=t)
        · obtain ⟨rfl,rfl⟩:=e; simpa [ED,CZ] using g1
        · simpa [ED,CZ,e] using g1
        · obtain ⟨rfl,rfl⟩:=e
          have hlt:i<(m.bx w q).fs.length:=(List.getElem?_eq_some_iff.1 g2).1
          simp only [ED,CZ,and_self,if_true]
          rw [List.getElem?_append_left hlt]; exact g2
        · simpa [ED,CZ,e] using g2
    have hgl:∀ q,((ED (CZ m k t { m.bx k t with row:=(m.bx k t).row++[(m.bx k t).fs.length],fs:=(m.bx k t).fs++[{ f with Seq:=(m.bx k t).fs.length }] }) k { m.w k with out:=r }).w q).gl=(m.w q).gl∧((ED (CZ m k t { m.bx k t with row:=(m.bx k t).row++[(m.bx k t).fs.length],fs:=(m.bx k t).fs++[{ f with Seq:=(m.bx k t).fs.length }] }) k { m.w k with out:=r }).w q).gr=(m.w q).gr∧((ED (CZ m k t { m.bx k t with row:=(m.bx k t).row++[(m.bx k t).fs.length],fs:=(m.bx k t).fs++[{ f with Seq:=(m.bx k t).fs.length }] }) k { m.w k with out:=r }).w q).at_=(m.w q).at_:=by
      intro q
      by_cases e:q=k
      · subst e; simp [ED]
      · simp [ED,e,CZ]
    refine ⟨fun i j hi hj=>?_,fun q s hq hs=>?_,fun q hq=>?_,?_⟩
    · by_cases e:i=k∧j=t
      · obtain ⟨rfl,rfl⟩:=e; simpa [ED,CZ] using hbs
      · simpa [ED,CZ,e] using h.bx i j hi hj
    · rw [(hgl q).1,(hgl q).2.1]
      exact ⟨(h.way q s hq hs).1.imp id hw,(h.way q s hq hs).2.imp id hw⟩
    · rw [(hgl q).1,(hgl q).2.1,(hgl q).2.2]; exact h.at_ q hq
    · have h1:=bP (c:=c) (m:=m) (a:={ m.bx k t with row:=(m.bx k t).row++[(m.bx k t).fs.length],fs:=(m.bx k t).fs++[{ f with Seq:=(m.bx k t).fs.length }] }) hk ht
      have h2:=pO (c:=c) (m:=CZ m k t { m.bx k t with row:=(m.bx k t).row++[(m.bx k t).fs.length],fs:=(m.bx k t).fs++[{ f with Seq:=(m.bx k t).fs.length }] }) (a:={ m.w k with out:=r }) hk
      rw [fT] at h2
      have e:((CZ m k t { m.bx k t with row:=(m.bx k t).row++[(m.bx k t).fs.length],fs:=(m.bx k t).fs++[{ f with Seq:=(m.bx k t).fs.length }] }).w k).out.length=r.length+1:=by show (m.w k).out.length=_; rw [ho]; rfl
      rw [e] at h2
      simp only [List.length_append,List.length_singleton] at h1
      have:=h.totN
      dsimp only at h1 h2 ⊢
      rw [lQ]
      omega
theorem zB (s:Abs) (k:Int):(s.take k).2.2.2.taken=if (s.take k).2.1=true then s.taken+1 else s.taken:=by
  by_cases h0:s.at k≠0
  · simp [Abs.take,h0]
  · by_cases h1:s.taken<s.num k
    · simp [Abs.take,h0,h1]
    · by_cases h2:s.num k<s.taken <;> simp [Abs.take,h0,h1,h2]
theorem AcG (h:BInv s) {k:Int} (D:(s.take k).2.1=true):∃ hi:s.taken<s.fs.length,(s.take k).1=s.fs[s.taken]:=by
  unfold Abs.take at D ⊢
  split at D
  · cases D
  · rename_i O
    have G:s.at k=0:=by simpa using O
    obtain ⟨i,rfl,hi⟩:=SD G
    rw [SE hi] at D ⊢
    rw [if_neg (by rw [G]; simp)]
    have V:=h.lt _ (List.getElem_mem hi)
    split at D
    · cases D
    · split at D
      · cases D
      · rename_i J U
        have e:s.row[i]=s.taken:=by omega
        rw [if_neg J,if_neg U]
        refine ⟨by omega,?_⟩
        simp [e,show s.taken<s.fs.length by omega]
theorem Live.handed (h:Live c N m) (g:Good c m) {f t:Nat} (hf:f<c.n) (ht:t<c.n) (k:Int):Live c N (m.hand c f t k).2:=by
  have hb:=h.bx f t hf ht
  have O:=zB (m.bx f t) k
  have Y:=Ab9 (m.bx f t) k
  unfold MS.hand
  split
  · rename_i e
    rw [if_pos e] at O
    obtain ⟨hi,hz⟩:=AcG hb e
    obtain ⟨⟨t',s',ht',hs',hto,hro,hsm,hcn⟩,hto2⟩:=g.box f t hf ht _ (List.getElem_mem hi)
    rw [←hz] at hto hro hsm hcn hto2
    generalize hm2:(ED (CZ m f t ((m.bx f t).take k).2.2.2) t (XU c.S.length (XE (m.w t) ((m.bx f t).take k).1)))=m2
    have V:∀ q,q≠t→m2.w q=m.w q:=fun q hq=>by rw [←hm2]; simp [ED,hq,CZ]
    have J:m2.w t=XU c.S.length (XE (m.w t) ((m.bx f t).take k).1):=by rw [←hm2]; simp [ED]
    have Z:∀ i j,¬(i=f∧j=t)→m2.bx i j=m.bx i j:=fun i j hij=>by rw [←hm2]; simp [ED,CZ,hij]
    have W:m2.bx f t=((m.bx f t).take k).2.2.2:=by rw [←hm2]; simp [ED,CZ]
    have hout:∀ q,(m2.w q).out=(m.w q).out:=fun q=>by
      by_cases e':q=t
      · subst e'; rw [J]; simp [XU,dX]
      · rw [V q e']
    -- a way stays, or is what came
    have U:∀ {G q s},Way c m G q s→Way c m2 G q s∨(q=t∧((m.bx f t).take k).1.Kind=G∧((m.bx f t).take k).1.Round=(s:Int)):=by
      rintro G q s ⟨w,U,⟨x,hx,hx'⟩ | ⟨i,x,g1,g2,g3,g4⟩⟩
      · exact .inl ⟨w,U,.inl ⟨x,by rw [hout]; exact hx,hx'⟩⟩
      · by_cases e':w=f∧q=t
        · obtain ⟨rfl,rfl⟩:=e'
          by_cases ei:i=(m.bx w q).taken
          · subst ei
            have:x=((m.bx w q).take k).1:=by rw [hz]; have:=(List.getElem?_eq_some_iff.1 g2).2; exact this.symm
            subst this
            exact .inr ⟨rfl,g3,g4⟩
          · exact .inl ⟨w,U,.inr ⟨i,x,by rw [W,O]; omega,by rw [W,Y.1]; exact g2,g3,g4⟩⟩
        · exact .inl ⟨w,U,.inr ⟨i,x,by rw [Z w q e']; exact g1,by rw [Z w q e']; exact g2,g3,g4⟩⟩
    refine ⟨fun i j hi' hj=>?_,fun q s hq hs=>?_,fun q hq=>?_,?_⟩
    · by_cases e':i=f∧j=t
      · obtain ⟨rfl,rfl⟩:=e'; rw [W]; exact hb.take k
      · rw [Z i j e']; exact h.bx i j hi' hj
    · obtain ⟨D,w2⟩:=h.way q s hq hs
      by_cases e':q=t
      · subst e'
        constructor
        · rcases D with D | D
          · left; rw [J]; unfold XU XE
            split
            · simp [D]
            · exact D
          · rcases U D with D | ⟨_,w3,w4⟩
            · exact .inr D
            · left; rw [J]; unfold XU XE; rw [if_pos w3]; simp [w4]
        · rcases w2 with D | D
          · left; rw [J]; unfold XU XE
            split
            · exact D
            · simp [D]
          · rcases U D with D | ⟨_,w3,w4⟩
            · exact .inr D
            · left; rw [J]; unfold XU XE; rw [if_neg (by omega)]; simp [w4]
      · rw [V q e']
        exact ⟨D.imp id fun x=>(U x).resolve_right fun x=>e' x.1,w2.imp id fun x=>(U x).resolve_right fun x=>e' x.1⟩
    · by_cases e':q=t
      · subst e'
        rw [J]
        have hle:(XE (m.w q) ((m.bx f q).take k).1).at_≤c.S.length:=by
          have:=(h.at_ q hq).1
          unfold XE; split <;> exact this
        exact (AbB _ _ _ _ _ hle (by omega)).2
      · rw [V q e']; exact h.at_ q hq
    · have h1:=bP (c:=c) (m:=m) (a:=((m.bx f t).take k).2.2.2) hf ht
      rw [Y.1] at h1
      have h2:=pO (c:=c) (m:=CZ m f t ((m.bx f t).take k).2.2.2) (a:=XU c.S.length (XE (m.w t) ((m.bx f t).take k).1)) ht
      rw [fT] at h2
      have e2:(XU c.S.length (XE (m.w t) ((m.bx f t).take k).1)).out=(m.w t).out:=by simp [XU,dX]
      rw [e2] at h2
      have e3:((CZ m f t ((m.bx f t).take k).2.2.2).w t).out=(m.w t).out:=rfl
      rw [e3] at h2
      have:=h.totN
      rw [←hm2,lQ]
      show eD c (CZ m f t ((m.bx f t).take k).2.2.2)+eC c (ED (CZ m f t ((m.bx f t).take k).2.2.2) t (XU c.S.length (XE (m.w t) ((m.bx f t).take k).1)))=N
      omega
  · rename_i e
    rw [if_neg e] at O
    exact h.setB hf ht (hb.take k) Y.1 O
variable {c:XC} {m:MS} {s:Abs} {N:Nat}
def Phi (c:XC) (m:MS):Nat:=2*eC c m+AbA c m
theorem Live.sends (h:Live c N m) (D:iS c) (g:Good c m):∀ k,k≤c.n→Live c N (m.sends c k).2
  | 0,_=>h
  | k+1,hk=>(Live.sends h D g k (by omega)).sent (g.sends D k (by omega)) (by omega)
theorem Live.hands1 {x:Bool×MS} (h:Live c N x.2) (g:Good c x.2) {f:Nat} (D:f<c.n):∀ k,k≤c.n→Live c N (hands1 c f x k).2
  | 0,_=>h
  | k+1,hk=>(Live.hands1 h g D k (by omega)).handed (Good.hands1 g f k) D (by omega) _
theorem Live.hands {x:Bool×MS} (h:Live c N x.2) (g:Good c x.2):∀ k,k≤c.n→Live c N (hands c x k).2
  | 0,_=>h
  | k+1,hk=>Live.hands1 (Live.hands h g k (by omega)) (Good.hands g k) (by omega) c.n (Nat.le_refl _)
theorem Live.window (h:Live c N m) (D:iS c) (g:Good c m):Live c N (m.window c).2:=Live.hands (h.sends D g c.n (Nat.le_refl _)) (g.sends D c.n (Nat.le_refl _)) c.n (Nat.le_refl _)
theorem Live.acted (h:Live c N m) (J:iS c) (g:Good c m) (x:NP):Live c N (m.act c x).2:=by
  unfold MS.act
  split
  · exact h
  · split
    · split
      · rename_i hi; exact h.sent g (by have:=hi.2; have:=hi.1; omega)
      · exact h
    · split
      · exact h.window J g
      · split
        · rename_i hi
          have G:x.A.toNat<c.n:=by have:=hi.1.2; have:=hi.1.1; omega
          have D:x.B.toNat<c.n:=by have:=hi.2.2; have:=hi.2.1; omega
          split
          · exact h.handed g G D _
          · split
            · exact h.doubled G D _
            · exact h.moved G D _
        · exact h
theorem AeW (m:MS) (f t:Nat):(m.old c f t).bx f t=((m.bx f t).take (m.bx f t).oldest).2.2.2∧(∀ i j,¬(i=f∧j=t)→(m.old c f t).bx i j=m.bx i j)∧∀ k,((m.old c f t).w k).out=(m.w k).out:=by
  unfold MS.old MS.hand
  split
  · refine ⟨by simp [ED,CZ],fun i j h=>by simp [ED,CZ,h],fun k=>?_⟩
    by_cases e:k=t
    · subst e; simp [ED,XU,dX,CZ]
    · simp [ED,e,CZ]
  · exact ⟨by simp [CZ],fun i j h=>by simp [CZ,h],fun k=>rfl⟩
theorem AgR {f t:Nat} (h:BInv (m.bx f t)):((m.old c f t).bx f t).row.length=(m.bx f t).row.length - 1:=by
  rw [(AeW m f t).1]
  by_cases e:(m.bx f t).row=[]
  · rw [(AcF e _).1,e]; rfl
  · have:=h.old e; omega
theorem AeX (h:Live c N m) (U:Phi c m=0):∀ k,k<c.n→(m.w k).at_=c.S.length:=by
  have V:eC c m=0:=by unfold Phi at U; omega
  have W:AbA c m=0:=by unfold Phi at U; omega
  have D:∀ {J k s},k<c.n→¬Way c m J k s:=by
    rintro J k s hk ⟨f,O,⟨g,hg,_⟩ | ⟨i,g,Y,h2,_⟩⟩
    · have:=dZ V f O
      rw [List.length_eq_zero_iff.1 this] at hg
      exact absurd hg (List.not_mem_nil)
    · have:=dZ (dZ W f O) k hk
      have e:=List.length_eq_zero_iff.1 this
      have G:i<(m.bx f k).fs.length:=(List.getElem?_eq_some_iff.1 h2).1
      have:=(h.bx f k O hk).pend i Y G
      rw [e] at this
      exact absurd this (List.not_mem_nil)
  intro k hk
  have ha:=h.at_ k hk
  rcases Nat.lt_or_ge (m.w k).at_ c.S.length with G | hge
  · obtain ⟨w1,Z⟩:=h.way k _ hk G
    exact absurd ⟨G,w1.resolve_right (D hk),Z.resolve_right (D hk)⟩ ha.2
  · omega
variable {c:XC} {m:MS} {s:Abs} {N:Nat} {o0:AC} {o1 o1x:List (Nat×AA)} {o2:List (Nat×AF)}
def MS.ended (c:XC) (m:MS):Bool:=(List.range c.n).all fun k=>decide ((m.w k).at_=c.S.length)
theorem ZV:m.ended c=true↔∀ k,k<c.n→(m.w k).at_=c.S.length:=by simp [MS.ended,List.all_eq_true]
def sF (c:XC):Nat→MS→MS
  | 0,m=>m
  | j+1,m=>if m.ended c=true then m else sF c j (m.window c).2
theorem lS (Z:iS c) (g:Good c m) (U:∀ i j,i<c.n→j<c.n→(m.bx i j).row=[]):∀ k,k≤c.n →
    (∀ j,((m.sends c k).2.w j).out=if j<k then (m.w j).out.tail else (m.w j).out)∧(∀ i j,k≤i→(m.sends c k).2.bx i j=m.bx i j)∧∀ i j,i<c.n→j<c.n→((m.sends c k).2.bx i j).row.length≤1
  | 0,_=>⟨fun j=>by simp [MS.sends],fun _ _ _=>rfl,fun i j hi Y=>by simp [MS.sends,U i j hi Y]⟩
  | k+1,hk=>by
    obtain ⟨W,O,h3⟩:=lS Z g U k (by omega)
    have V:=g.sends Z k (by omega)
    unfold MS.sends
    generalize hx:(m.sends c k).2=x at W O h3 V
    have h:=W k
    rw [if_neg (by omega)] at h
    rcases lR V (show k<c.n by omega) with e | ⟨t,f,r,ht,ho,G,J⟩
    · have D:(x.w k).out=[]:=by
        cases hq:(x.w k).out with
        | nil=>rfl
        | cons f r=>
          exfalso
          obtain ⟨t,s,ht,hs,G,_⟩:=V.out k (by omega) f (by rw [hq]; exact List.mem_cons_self)
          have J:(x.bx k t).fullB=false:=by
            unfold Abs.fullB
            rw [(V.room k t (by omega) ht).1,O k t (Nat.le_refl _),U k t (by omega) ht]
            have:=Z.r1
            simp; omega
          have:=sE (c:=c) hq G J
          rw [e] at this
          simp at this
      rw [e]
      refine ⟨fun j=>?_,fun i j hi=>O i j (by omega),h3⟩
      show (x.w j).out=_
      rw [W j]
      by_cases ej:j=k
      · subst ej
        rw [h] at D
        simp [D]
      · by_cases el:j<k
        · rw [if_pos el,if_pos (by omega)]
        · rw [if_neg el,if_neg (by omega)]
    · rw [sE ho G J]
      refine ⟨fun j=>?_,fun i j hi=>?_,fun i j hi Y=>?_⟩
      · by_cases ej:j=k
        · subst ej
          rw [ho] at h
          rw [if_pos (by omega),←h]
          simp [ED]
        · have:=W j
          simp only [ED,if_neg ej,CZ]
          rw [this]
          by_cases el:j<k
          · rw [if_pos el,if_pos (by omega)]
          · rw [if_neg el,if_neg (by omega)]
      · have ei:¬(i=k∧j=t):=by omega
        simp only [ED,CZ,if_neg ei]
        exact O i j (by omega)
      · by_cases e:i=k∧j=t
        · obtain ⟨rfl,rfl⟩:=e
          simp only [ED,CZ,and_self,if_true,List.length_append,List.length_singleton]
          rw [O i j (Nat.le_refl _),U i j hi Y]; simp
        · simp only [ED,CZ,if_neg e]
          exact h3 i j hi Y
theorem iE {f:Nat} (J:f<c.n) {x:Bool×MS} (h:Live c N x.2) (g:Good c x.2):∀ t,t≤c.n →
    (∀ k,((hands1 c f x t).2.w k).out=(x.2.w k).out)∧(∀ i j,¬(i=f∧j<t)→(hands1 c f x t).2.bx i j=x.2.bx i j)∧∀ j,j<t→((hands1 c f x t).2.bx f j).row.length=(x.2.bx f j).row.length - 1
  | 0,_=>⟨fun _=>rfl,fun _ _ _=>rfl,fun j W=>by omega⟩
  | t+1,ht=>by
    obtain ⟨V,O,U⟩:=iE J h g t (by omega)
    have Z:=Live.hands1 h g J t (by omega)
    have G:=AeW (c:=c) (hands1 c f x t).2 f t
    have D:=AgR (c:=c) (Z.bx f t J (by omega))
    unfold hands1
    refine ⟨fun k=>(G.2.2 k).trans (V k),fun i j Y=>?_,fun j W=>?_⟩
    · show (MS.old c _ f t).bx i j=_
      rw [G.2.1 i j (by omega)]
      exact O i j (by omega)
    · show ((MS.old c _ f t).bx f j).row.length=_
      by_cases e:j=t
      · subst e
        rw [D,O f j (by omega)]
      · rw [G.2.1 f j (by omega)]
        exact U j (by omega)
theorem lT {x:Bool×MS} (h:Live c N x.2) (g:Good c x.2):∀ f,f≤c.n →
    (∀ k,((hands c x f).2.w k).out=(x.2.w k).out)∧(∀ i j,f≤i→(hands c x f).2.bx i j=x.2.bx i j)∧∀ i j,i<f→j<c.n→((hands c x f).2.bx i j).row.length=(x.2.bx i j).row.length - 1
  | 0,_=>⟨fun _=>rfl,fun _ _ _=>rfl,fun i j hi=>by omega⟩
  | f+1,hf=>by
    obtain ⟨U,J,O⟩:=lT h g f (by omega)
    obtain ⟨V,D,W⟩:=iE (show f<c.n by omega) (Live.hands h g f (by omega)) (Good.hands g f) c.n (Nat.le_refl _)
    unfold hands
    refine ⟨fun k=>(V k).trans (U k),fun i j hi=>?_,fun i j hi G=>?_⟩
    · rw [D i j (by omega)]; exact J i j (by omega)
    · by_cases e:i=f
      · subst e
        rw [W j G,J i j (Nat.le_refl _)]
      · rw [D i j (by omega)]; exact O i j (by omega) G
theorem wD (D:iS c) (h:Live c N m) (g:Good c m) (J:∀ i j,i<c.n→j<c.n→(m.bx i j).row=[]) :
    (∀ k,k<c.n→((m.window c).2.w k).out=(m.w k).out.tail)∧∀ i j,i<c.n→j<c.n→((m.window c).2.bx i j).row=[]:=by
  obtain ⟨W,s2,V⟩:=lS D g J c.n (Nat.le_refl _)
  obtain ⟨U,h2,O⟩:=lT (h.sends D g c.n (Nat.le_refl _)) (g.sends D c.n (Nat.le_refl _)) c.n (Nat.le_refl _)
  unfold MS.window
  refine ⟨fun k hk=>?_,fun i j hi G=>?_⟩
  · rw [U k,W k,if_pos hk]
  · have e1:=O i j hi G
    have e2:=V i j hi G
    exact List.length_eq_zero_iff.1 (by omega)
theorem pP (D:iS c):∀ (j:Nat) {m:MS},Live c N m→Good c m→(∀ a b,a<c.n→b<c.n→(m.bx a b).row=[])→(∀ k,k<c.n→(m.w k).out.length≤j)→(sF c j m).ended c=true
  | 0,m,h,g,h0,hp=>by
    show m.ended c=true
    exact ZV.2 (AeX h (by
      have ho:eC c m=0:=by
        unfold eC
        rw [ER (g:=fun _=>0) fun i hi=>by have:=hp i hi; omega,JO]; simp
      have hr:AbA c m=0:=by
        unfold AbA
        rw [ER (g:=fun _=>0) fun i hi=>by rw [ER (g:=fun _=>0) fun j J=>by rw [h0 i j hi J]; rfl,JO]; simp,JO]; simp
      unfold Phi; omega))
  | j+1,m,h,g,h0,hp=>by
    unfold sF
    split
    · assumption
    · obtain ⟨O,G⟩:=wD D h g h0
      refine pP D j (h.window D g) (g.window D) G fun k hk=>?_
      have:=hp k hk
      rw [O k hk,List.length_tail]; omega
theorem wE (U:iS c) (h:Rep c m o0 o1 o2) {Q:Bool→Prop} (G:Q (m.ended c)):DL o0 o1 Q:=by
  have hn:=U.n
  unfold DL CK CR
  refine DC c.n (by omega) (fun i=>∀ k,k<i→(m.w k).at_=c.S.length) (fun k hk=>by omega) (fun i next hi J D=>?_) (fun next J=>?_)
  · show AR (decide ((i:Int)<(o0.workers.length:Int))) _ _
    rw [h.len]
    refine AX (by simp; omega) (AP (by omega) (h.get hi) ?_)
    obtain ⟨x,Y,O⟩:=h.wk i hi
    unfold GU
    refine NC Y ?_
    rw [O.at_,h.S]
    have:=O.le
    refine AB (fun V=>?_) (fun W=>?_)
    · have e:m.ended c=false:=by
        cases hE:m.ended c with
        | false=>rfl
        | true=>have:=ZV.1 hE i hi; omega
      rw [e] at G
      have:decide (0≤(i:Int))=true:=by simp
      show Q (!decide (0≤(i:Int)))
      rw [this]; exact G
    · exact D fun k hk=>by
        by_cases ek:k=i
        · subst ek; omega
        · exact J k (by omega)
  · show AR (decide ((c.n:Int)<(o0.workers.length:Int))) _ _
    rw [h.len]
    refine AO (by simp) ?_
    have e:m.ended c=true:=ZV.2 J
    rw [e] at G
    exact G
structure Data where
  r:Int
  n:Int
  k:Int
  q:Int
  A:List AD
  B:List AD
  M:List AD
  R:Nat
  C:Nat
  room:Nat
  S:List BJ
def Data.p (d:Data):BI:={ Ring:=d.r,A:=BM d.n d.k d.A,B:=BM d.k d.q d.B,Mask:=BM d.n d.q d.M,R:=(d.R:Int),C:=(d.C:Int),Room:=(d.room:Int) }
def DA (S:List BJ):Nat→Int
  | 0=>0
  | s+1=>(S.getD s default).To
structure AeY (d:Data):Prop where
  len:d.S.length+1≤d.R+d.C
  row:∀ s (h:s<d.S.length),0≤d.S[s].Row∧d.S[s].Row<d.R
  col:∀ s (h:s<d.S.length),0≤d.S[s].Col∧d.S[s].Col<d.C
  lo:∀ s (h:s<d.S.length),d.S[s].From=DA d.S s∧d.S[s].From≤d.S[s].To∧d.S[s].To≤d.k
  top:DA d.S d.S.length=d.k
structure cE (d:Data):Prop where
  r:1≤d.r∧d.r≤5
  cA:Canon d.n d.k d.A
  cB:Canon d.k d.q d.B
  cM:Canon d.n d.q d.M
  vA:∀ t∈d.A,FL t.Val
  vB:∀ t∈d.B,FL t.Val
  vM:∀ t∈d.M,FL t.Val
  R:1≤d.R∧d.R≤8
  C:1≤d.C∧d.C≤8
  room:1≤d.room∧d.room≤64
  seg:AeY d
variable {d:Data}
def Data.rl (d:Data) (i:Nat):Int:=CY d.n d.R i
def Data.cl (d:Data) (j:Nat):Int:=CY d.q d.C j
theorem wF (h:cE d) (i:Nat):0≤d.rl i∧d.rl i≤d.rl (i+1)∧d.rl (i+1)≤d.n:=⟨pH.1,YO (by omega),pH.2 h.cA.r0⟩
theorem wG (h:cE d) (j:Nat):0≤d.cl j∧d.cl j≤d.cl (j+1)∧d.cl (j+1)≤d.q:=⟨pH.1,YO (by omega),pH.2 h.cB.c0⟩
theorem sG (h:cE d):∀ s,s≤d.S.length→0≤DA d.S s∧DA d.S s≤d.k
  | 0,_=>⟨Int.le_refl _,h.cA.c0⟩
  | s+1,hs=>by
    have h1:=sG h s (by omega)
    have h2:=h.seg.lo s (by omega)
    have e:DA d.S (s+1)=d.S[s].To:=by
      show (d.S.getD s default).To=_
      simp [List.getD_eq_getElem?_getD,show s<d.S.length by omega]
    rw [e]; omega
theorem lU {s:Nat} (h:s<d.S.length):DA d.S (s+1)=d.S[s].To:=by
  show (d.S.getD s default).To=_
  simp [List.getD_eq_getElem?_getD,h]
def iT (d:Data) (i:Nat) (a b:Int):List AD:=LZ (d.rl i) (d.rl (i+1)) a b d.A
def lV (d:Data) (j:Nat) (a b:Int):List AD:=LZ a b (d.cl j) (d.cl (j+1)) d.B
def bkM (d:Data) (i j:Nat):List AD:=LZ (d.rl i) (d.rl (i+1)) (d.cl j) (d.cl (j+1)) d.M
def UV (d:Data) (i j:Nat) (t:Nat):List AM:=FS d.r (iT d i 0 (DA d.S t)) (lV d j 0 (DA d.S t)) (bkM d i j)
def Data.ctx (d:Data) (adr:Nat→Nat):XC where
  p:=d.p
  S:=d.S
  n:=d.R*d.C
  adr:=adr
  wi:=fun k=>((k / d.C:Nat):Int)
  wj:=fun k=>((k % d.C:Nat):Int)
  mask:=fun k=>BM (d.rl (k / d.C+1) - d.rl (k / d.C)) (d.cl (k % d.C+1) - d.cl (k % d.C)) (bkM d (k / d.C) (k % d.C))
  room:=d.room
  LA:=fun k s=>iT d (k / d.C) (DA d.S s) (DA d.S (s+1))
  RB:=fun k s=>lV d (k % d.C) (DA d.S s) (DA d.S (s+1))
  has:=fun k t=>UV d (k / d.C) (k % d.C) t
theorem AcH (h:cE d) (i j:Nat) {a b:Int} (V:0≤a) (h1:a≤b) (h2:b≤d.k) (k:FI) :
    GP d.r k (FS d.r (iT d i 0 b) (lV d j 0 b) (bkM d i j))=jP d.r (GP d.r k (FS d.r (iT d i 0 a) (lV d j 0 a) (bkM d i j))) (GP d.r k (FS d.r (iT d i a b) (lV d j a b) (bkM d i j))):=by
  have J:=wF h i
  have G:=wG h j
  obtain ⟨_,cA0,U⟩:=GI h.cA (l:=d.rl i) (u:=d.rl (i+1)) (c:=0) (d:=b) J.1 J.2.1 J.2.2 (by omega) (by omega) h2
  obtain ⟨_,cA1,W⟩:=GI h.cA (l:=d.rl i) (u:=d.rl (i+1)) (c:=0) (d:=a) J.1 J.2.1 J.2.2 (by omega) V (by omega)
  obtain ⟨_,cA2,lA2⟩:=GI h.cA (l:=d.rl i) (u:=d.rl (i+1)) (c:=a) (d:=b) J.1 J.2.1 J.2.2 V h1 h2
  obtain ⟨_,cB0,O⟩:=GI h.cB (l:=0) (u:=b) (c:=d.cl j) (d:=d.cl (j+1)) (by omega) (by omega) h2 G.1 G.2.1 G.2.2
  obtain ⟨_,cB1,Z⟩:=GI h.cB (l:=0) (u:=a) (c:=d.cl j) (d:=d.cl (j+1)) (by omega) V (by omega) G.1 G.2.1 G.2.2
  obtain ⟨_,cB2,lB2⟩:=GI h.cB (l:=a) (u:=b) (c:=d.cl j) (d:=d.cl (j+1)) V h1 h2 G.1 G.2.1 G.2.2
  obtain ⟨_,Y,_⟩:=GI h.cM (l:=d.rl i) (u:=d.rl (i+1)) (c:=d.cl j) (d:=d.cl (j+1)) J.1 J.2.1 J.2.2 G.1 G.2.1 G.2.2
  simp only [Int.sub_zero,Int.add_zero] at cA0 U cA1 W cB0 O cB1 Z
  refine pG Y.srt fun t ht=>?_
  have D:=Y.inn t ht
  unfold ZZ at D
  unfold iT lV
  rw [UE cA0 D.1,UE cA1 D.1,UE cA2 D.1,show b.toNat=a.toNat+(b - a).toNat by omega,vG]
  congr 1
  · refine bM (fun x hx=>?_) (fun x hx=>?_)
    · rw [U _ _ D.1 D.2.1 (by omega) (by omega),W _ _ D.1 D.2.1 (by omega) (by omega)]
    · unfold yU
      rw [O _ _ (by omega) (by omega) D.2.2.1 D.2.2.2,Z _ _ (by omega) (by omega) D.2.2.1 D.2.2.2]
  · refine bM (fun x hx=>?_) (fun x hx=>?_)
    · rw [Int.toNat_of_nonneg V,U _ _ D.1 D.2.1 (by omega) (by omega),lA2 _ _ D.1 D.2.1 (by omega) (by omega)]
    · unfold yU
      rw [Int.toNat_of_nonneg V,O _ _ (by omega) (by omega) D.2.2.1 D.2.2.2,lB2 _ _ (by omega) (by omega) D.2.2.1 D.2.2.2]
theorem AjY (h:cE d) (adr:Nat→Nat):Rk (d.ctx adr):=by
  intro w s hs hw Q hQ
  have hs':s<d.S.length:=hs
  have Y:=wF h (w / d.C)
  have G:=wG h (w % d.C)
  have hl:=h.seg.lo s hs'
  have hb:=sG h s (by omega)
  have he:=lU (d:=d) hs'
  obtain ⟨_,J,_⟩:=GI h.cA (l:=d.rl (w / d.C)) (u:=d.rl (w / d.C+1)) (c:=DA d.S s) (d:=DA d.S (s+1)) Y.1 Y.2.1 Y.2.2 hb.1 (by omega) (by omega)
  obtain ⟨_,U,_⟩:=GI h.cB (l:=DA d.S s) (u:=DA d.S (s+1)) (c:=d.cl (w % d.C)) (d:=d.cl (w % d.C+1)) hb.1 (by omega) (by omega) G.1 G.2.1 G.2.2
  obtain ⟨_,D,_⟩:=GI h.cM (l:=d.rl (w / d.C)) (u:=d.rl (w / d.C+1)) (c:=d.cl (w % d.C)) (d:=d.cl (w % d.C+1)) Y.1 Y.2.1 Y.2.2 G.1 G.2.1 G.2.2
  have hk:=h.cA.c1
  have e1:AJ (d.S[s].To - d.S[s].From)=DA d.S (s+1) - DA d.S s:=by rw [BE (by omega) (by omega)]; omega
  show TM d.r (d.rl (w / d.C+1) - d.rl (w / d.C)) (AJ (d.S[s].To - d.S[s].From)) (iT d (w / d.C) (DA d.S s) (DA d.S (s+1))) _
  have O:=vR (l:=d.rl (w / d.C)) (u:=d.rl (w / d.C+1)) (c:=DA d.S s) (d:=DA d.S (s+1)) h.vA
  have V:=vR (l:=DA d.S s) (u:=DA d.S (s+1)) (c:=d.cl (w % d.C)) (d:=d.cl (w % d.C+1)) h.vB
  rw [e1]
  refine AdP (by have:=J.len; unfold iT; omega) O ?_
  show TM d.r (AJ (d.S[s].To - d.S[s].From)) (d.cl (w % d.C+1) - d.cl (w % d.C)) (lV d (w % d.C) (DA d.S s) (DA d.S (s+1))) _
  rw [e1]
  refine AdP (by have:=U.len; unfold lV; omega) V ?_
  unfold iT lV
  rw [rG J O h.r,rG U V h.r]
  refine nO J U D O V ?_
  have hrr:=h.r
  unfold yV
  rw [if_neg (by show ¬ ¬(1≤d.r∧d.r≤5); omega),if_neg (by omega)]
  show PC d.r [UV d (w / d.C) (w % d.C) s,FS d.r (iT d (w / d.C) (DA d.S s) (DA d.S (s+1))) (lV d (w % d.C) (DA d.S s) (DA d.S (s+1))) (bkM d (w / d.C) (w % d.C))] _
  obtain ⟨s0,o0,z0⟩:=fP (r:=d.r) (A:=iT d (w / d.C) 0 (DA d.S (s+1))) (B:=lV d (w % d.C) 0 (DA d.S (s+1))) D
  obtain ⟨s1,o1,z1⟩:=fP (r:=d.r) (A:=iT d (w / d.C) 0 (DA d.S s)) (B:=lV d (w % d.C) 0 (DA d.S s)) D
  obtain ⟨s2,o2,z2⟩:=fP (r:=d.r) (A:=iT d (w / d.C) (DA d.S s) (DA d.S (s+1))) (B:=lV d (w % d.C) (DA d.S s) (DA d.S (s+1))) D
  have W:∀ (x y:List AM),([x,y]:List (List AM)).flatten=x++y:=fun x y=>by simp
  refine nS (by simp) (by rw [W,List.length_append]; unfold UV bkM; omega) (by rw [W]; exact fun c G=>(List.mem_append.1 G).elim (o1 c) (o2 c)) (fun h'=>absurd hrr h') (fun _ h'=>absurd (fun l hl=>?_) h') (fun _ _ x hs ho hsl he'=>?_)
  · simp only [List.mem_cons,List.not_mem_nil,or_false] at hl
    rcases hl with rfl | rfl
    · exact s1
    · exact s2
  · have Z:x=UV d (w / d.C) (w % d.C) (s+1):=AeH (r:=d.r) hs s0 fun key=>by
      rw [he',W]
      exact (PN o1 o2).trans (AcH h (w / d.C) (w % d.C) hb.1 (by omega) (by omega) key).symm
    subst Z
    exact hQ
open Go Go.Fw Go.Sort
variable {d:Data}
def shC (a b:Int) (x:AM):AM:=⟨x.Row+a,x.Col+b,x.Val⟩
def bkC (d:Data) (i j:Nat):List AM:=(UV d i j d.S.length).map (shC (d.rl i) (d.cl j))
def fV (d:Data):List AM:=FS d.r d.A d.B d.M
theorem zC (h:cE d) (i j:Nat) {t:AD} (Z:t∈bkM d i j):NB d.r (iT d i 0 d.k) (lV d j 0 d.k) t.Row t.Col=NB d.r d.A d.B (t.Row+d.rl i) (t.Col+d.cl j):=by
  have J:=wF h i
  have G:=wG h j
  obtain ⟨_,V,U⟩:=GI h.cA (l:=d.rl i) (u:=d.rl (i+1)) (c:=0) (d:=d.k) J.1 J.2.1 J.2.2 (by omega) h.cA.c0 (by omega)
  obtain ⟨_,Y,O⟩:=GI h.cB (l:=0) (u:=d.k) (c:=d.cl j) (d:=d.cl (j+1)) (by omega) h.cA.c0 (by omega) G.1 G.2.1 G.2.2
  obtain ⟨_,W,_⟩:=GI h.cM (l:=d.rl i) (u:=d.rl (i+1)) (c:=d.cl j) (d:=d.cl (j+1)) J.1 J.2.1 J.2.2 G.1 G.2.1 G.2.2
  simp only [Int.sub_zero,Int.add_zero] at V U Y O
  have D:=W.inn t Z
  unfold ZZ at D
  unfold iT lV
  rw [UE V D.1,UE h.cA (by omega)]
  refine bM (fun x hx=>?_) (fun x hx=>?_)
  · rw [U _ _ D.1 D.2.1 (by omega) (by omega)]
  · unfold yU
    rw [O _ _ (by omega) (by omega) D.2.2.1 D.2.2.2]
theorem AiM (h:cE d) (i j:Nat):bkC d i j=((bkM d i j).map (shT (d.rl i) (d.cl j))).filterMap (IA d.r d.A d.B):=by
  unfold bkC UV FS
  rw [h.seg.top,List.map_filterMap,List.filterMap_map]
  refine YN fun t D=>?_
  have:=zC h i j D
  simp only [Function.comp_apply,IA,shT]
  rw [this]
  cases NB d.r d.A d.B (t.Row+d.rl i) (t.Col+d.cl j) <;> simp [shC]
theorem sH (h:cE d):((List.range (d.R*d.C)).flatMap fun k=>bkC d (k / d.C) (k % d.C)).Perm (fV d):=by
  have hC:=h.C
  rw [pI (by omega) (fun i j=>bkC d i j)]
  have e:((List.range d.R).flatMap fun i=>(List.range d.C).flatMap fun j=>bkC d i j)=(((List.range d.R).flatMap fun i:Nat=>(List.range d.C).flatMap fun j:Nat=>(bkM d i j).map (shT (d.rl i) (d.cl j))).filterMap (IA d.r d.A d.B)):=by
    rw [List.filterMap_flatMap]
    refine OH fun i _=>?_
    rw [List.filterMap_flatMap]
    exact OH fun j _=>AiM h i j
  rw [e]
  refine List.Perm.filterMap _ ?_
  have hp:XT d.n (d.R:Int):=⟨⟨h.cM.r0,h.cM.r1⟩,by have:=h.R; omega⟩
  have D:XT d.q (d.C:Int):=⟨⟨h.cM.c0,h.cM.c1⟩,by have:=h.C; omega⟩
  exact vU h.cM hp D
def cfC (x y:AM):Int:=xU (PL x.Row y.Row) (PL x.Col y.Col)
theorem sI (x y:AM):cfC x y<0↔NK (x.Row,x.Col) (y.Row,y.Col):=VL x y
theorem AgS:SWO (ltOf cfC) where
  irrefl x:=by unfold ltOf; simp only [sI]; simp [NK]
  trans x y z h1 h2:=by unfold ltOf at *; simp only [sI,decide_eq_true_eq] at *; exact LB h1 h2
  ntrans x y z h1 h2:=by unfold ltOf at *; simp only [sI,decide_eq_false_iff_not,NK] at *; omega
variable {adr:Nat→Nat} {m:MS} {o0:AC} {o1:List (Nat×AA)} {o2:List (Nat×AF)}
theorem AeZ (h:cE d):Ab4 d.n d.q (fV d):=jR (r:=d.r) (ra:=0) (ca:=0) (rb:=0) (cb:=0) (A:=d.A) (B:=d.B) h.cM
theorem AcI {x y:AM} {Q:Int→Prop} (h:Q (cfC x y)):GR x y Q:=by
  unfold GR
  exact GB (GB (hG h))
def sJ (d:Data) (m:MS) (n:Nat):List AM:=(List.range n).flatMap fun k=>(UV d (k / d.C) (k % d.C) (m.w k).at_).map (shC (d.rl (k / d.C)) (d.cl (k % d.C)))
theorem wH (h:cE d) (i j t:Nat):(UV d i j t).length≤65536∧∀ x∈UV d i j t,0≤x.Row∧x.Row≤4096∧0≤x.Col∧x.Col≤4096:=by
  have G:=wF h i
  have D:=wG h j
  obtain ⟨_,J,_⟩:=GI h.cM (l:=d.rl i) (u:=d.rl (i+1)) (c:=d.cl j) (d:=d.cl (j+1)) G.1 G.2.1 G.2.2 D.1 D.2.1 D.2.2
  have O:=jR (r:=d.r) (ra:=0) (ca:=0) (rb:=0) (cb:=0) (A:=iT d i 0 (DA d.S t)) (B:=lV d j 0 (DA d.S t)) J
  refine ⟨O.len,fun x U=>?_⟩
  have:=O.inn x U
  have h1:=h.cM.r1
  have h2:=h.cM.c1
  omega
theorem lW (h:cE d) (m:MS):∀ n:Nat,(sJ d m n).length≤n*65536
  | 0=>by simp [sJ]
  | n+1=>by
    have:=lW h m n
    have:=(wH h (n / d.C) (n % d.C) (m.w n).at_).1
    unfold sJ at *
    rw [List.range_succ,List.flatMap_append,List.length_append,List.flatMap_singleton,List.length_map]
    omega
theorem Af0 (h:cE d) {adr:Nat→Nat} (he:m.ended (d.ctx adr)=true):(sJ d m (d.R*d.C)).Perm (fV d):=by
  have:sJ d m (d.R*d.C)=(List.range (d.R*d.C)).flatMap fun k=>bkC d (k / d.C) (k % d.C):=OH fun k hk=>by
    rw [ZV.1 he k (List.mem_range.1 hk)]; rfl
  rw [this]
  exact sH h
theorem AcJ (h:cE d) (U:Rep (d.ctx adr) m o0 o1 o2) (W:List AM) (hp:(sJ d m (d.R*d.C)).Perm W) (hz:W.Pairwise jQ) {Q:List AM→Prop} (hQ:Q W):EP o0 o1 Q:=by
  have hR:=h.R
  have hC:=h.C
  have hn:d.R*d.C≤64:=Nat.mul_le_mul hR.2 hC.2
  have hn1:=h.cM.r1
  have hq1:=h.cM.c1
  unfold EP
  have D:o0.workers.length=d.R*d.C:=U.len
  refine GQ (fun j (x:List AM×Int)=>∃ k:Nat,x=(sJ d m k,(k:Int))∧k+j=d.R*d.C) (m0:=d.R*d.C) ⟨0,rfl,by omega⟩ ?_
  rintro j _ next ⟨k,rfl,hkj⟩ hnext
  show AR (decide ((k:Int)<(o0.workers.length:Int))) _ _
  rw [D]
  refine AB (fun hk=>?_) (fun hk=>?_)
  · have O:k<(d.ctx adr).n:=by show k<d.R*d.C; omega
    obtain ⟨x,hx,Y⟩:=U.wk k O
    refine AP (by omega) (U.get O) (NC hx ?_)
    rw [U.p,Y.i,Y.j]
    show GC d.n (d.R:Int) ((k / d.C:Nat):Int) _
    refine IM ?_
    show GC d.q (d.C:Int) ((k % d.C:Nat):Int) _
    refine IM (NC hx ?_)
    have J:x.has=UV d (k / d.C) (k % d.C) (m.w k).at_:=Y.has
    rw [J]
    obtain ⟨hl,hin⟩:=wH h (k / d.C) (k % d.C) (m.w k).at_
    have V:=lW h m k
    have b1:=wF h (k / d.C)
    have b2:=wG h (k % d.C)
    refine GQ (fun j (y:List AM×Int)=>∃ i:Nat,y=(sJ d m k++((UV d (k / d.C) (k % d.C) (m.w k).at_).take i).map (shC (d.rl (k / d.C)) (d.cl (k % d.C))),(i:Int))∧i+j=(UV d (k / d.C) (k % d.C) (m.w k).at_).length) (m0:=(UV d (k / d.C) (k % d.C) (m.w k).at_).length) ⟨0,by simp,by omega⟩ ?_
    rintro j2 _ Z ⟨i,rfl,hij⟩ hnext2
    show AR (decide ((i:Int)<((UV d (k / d.C) (k % d.C) (m.w k).at_).length:Int))) _ _
    refine AB (fun hi=>?_) (fun hi=>?_)
    · have G:i<(UV d (k / d.C) (k % d.C) (m.w k).at_).length:=by omega
      refine AW G (BA ?_ ?_)
      · simp only [List.length_append,List.length_map,List.length_take,List.length_singleton]; omega
      · have hx':=hin _ (List.getElem_mem G)
        have e1:AJ ((UV d (k / d.C) (k % d.C) (m.w k).at_)[i].Row+CY d.n (d.R:Int) ((k / d.C:Nat):Int))=(UV d (k / d.C) (k % d.C) (m.w k).at_)[i].Row+d.rl (k / d.C):=by
          show AJ (_+d.rl (k / d.C))=_
          rw [BE (by omega) (by omega)]
        have e2:AJ ((UV d (k / d.C) (k % d.C) (m.w k).at_)[i].Col+CY d.q (d.C:Int) ((k % d.C:Nat):Int))=(UV d (k / d.C) (k % d.C) (m.w k).at_)[i].Col+d.cl (k % d.C):=by
          show AJ (_+d.cl (k % d.C))=_
          rw [BE (by omega) (by omega)]
        rw [e1,e2]
        refine hnext2 (j2 - 1) _ (by omega) ⟨i+1,?_,by omega⟩
        rw [BE (by omega) (by omega),List.take_succ_eq_append_getElem G,List.map_append,List.append_assoc]
        simp [shC]
    · have hie:i=(UV d (k / d.C) (k % d.C) (m.w k).at_).length:=by omega
      subst hie
      refine hnext (j - 1) _ (by omega) ⟨k+1,?_,by omega⟩
      rw [BE (by omega) (by omega),List.take_length]
      unfold sJ
      rw [List.range_succ,List.flatMap_append,List.flatMap_singleton]
      simp
  · have hke:k=d.R*d.C:=by omega
    subst hke
    have D:=lW h m (d.R*d.C)
    refine qW cfC (fun x y Q hq=>AcI hq) AgS (by have:d.R*d.C*65536≤64*65536:=Nat.mul_le_mul_right _ hn; omega) hp (hz.imp fun {a b} hab=>(sI a b).2 hab) hQ
theorem wI (h:cE d) (D:Rep (d.ctx adr) m o0 o1 o2) (he:m.ended (d.ctx adr)=true) {Q:List AM→Prop} (G:Q (fV d)):EP o0 o1 Q:=
  AcJ h D (fV d) (Af0 h he) (AeZ h).inc G
theorem sK (h:cE d) (D:Rep (d.ctx adr) m o0 o1 o2) (he:m.ended (d.ctx adr)=true) {Q:Rows×Int→Prop} (G:Q (WM d.r d.n d.q (fV d))):EH o0 o1 Q:=by
  unfold EH
  refine wI h D he ?_
  rw [D.p]
  exact rQ h.r ⟨⟨h.cM.r0,h.cM.r1⟩,h.cM.c0,h.cM.c1⟩ (AeZ h) G
end Go.Proofs.YtbohadngdkjljaaGreat
