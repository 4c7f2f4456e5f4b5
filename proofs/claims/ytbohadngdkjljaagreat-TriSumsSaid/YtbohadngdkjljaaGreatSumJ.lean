import Derived.Test.YtbohadngdkjljaaGreatSumE
namespace Go.Proofs.YtbohadngdkjljaaGreat
open Go Go.Fw
set_option linter.unusedVariables false
set_option linter.unusedSimpArgs false
variable {c:WL} {m:MS} {s:Abs} {N:Nat}
theorem yY (gl gr:Nat→Bool) (S:Nat):∀ (j a:Nat),a≤S→S≤a+j→a≤WM gl gr S j a∧WM gl gr S j a≤S∧¬(WM gl gr S j a<S∧gl (WM gl gr S j a)=true∧gr (WM gl gr S j a)=true)
  | 0,a,h1,h2=>by unfold WM; exact ⟨Nat.le_refl _,h1,fun h=>by omega⟩
  | j+1,a,h1,h2=>by
    unfold WM
    split
    · rename_i h
      have:=yY gl gr S j (a+1) (by omega) (by omega)
      exact ⟨by omega,this.2⟩
    · rename_i h; exact ⟨Nat.le_refl _,h1,h⟩
def Way (c:WL) (m:MS) (kind:Int) (k s:Nat):Prop:=∃ f,f<c.n∧((∃ g∈(m.w f).out,g.Kind=kind∧g.To=(k:Int)∧g.Round=(s:Int))∨∃ i g,(m.bx f k).taken≤i∧(m.bx f k).fs[i]? = some g∧g.Kind=kind∧g.Round=(s:Int))
structure Live (c:WL) (N:Nat) (m:MS):Prop where
  bx:∀ f t,f<c.n→t<c.n→BInv (m.bx f t)
  way:∀ k s,k<c.n→s<c.S.length→((m.w k).gl s=true∨Way c m 6 k s)∧((m.w k).gr s=true∨Way c m 7 k s)
  at_:∀ k,k<c.n→(m.w k).at_≤c.S.length∧¬((m.w k).at_<c.S.length∧(m.w k).gl (m.w k).at_=true∧(m.w k).gr (m.w k).at_=true)
  totN:cL c m+cK c m=N
theorem Live.setB (h:Live c N m) {f t:Nat} {a:Abs} (hf:f<c.n) (ht:t<c.n) (hb:BInv a) (h1:a.fs=(m.bx f t).fs) (h2:a.taken=(m.bx f t).taken):Live c N (CW m f t a):=by
  have hw:∀ {kind k s},Way c m kind k s→Way c (CW m f t a) kind k s:=by
    rintro kind k s ⟨q,hq,hq' | ⟨i,g,g1,g2,g3⟩⟩
    · exact ⟨q,hq,.inl hq'⟩
    · refine ⟨q,hq,.inr ⟨i,g,?_,?_,g3⟩⟩ <;> (by_cases e:q=f∧k=t)
      · obtain ⟨rfl,rfl⟩:=e; simpa [CW,h2] using g1
      · simpa [CW,e] using g1
      · obtain ⟨rfl,rfl⟩:=e; simpa [CW,h1] using g2
      · simpa [CW,e] using g2
  refine ⟨fun i j hi hj=>?_,fun k s hk hs=>⟨(h.way k s hk hs).1.imp id hw,(h.way k s hk hs).2.imp id hw⟩,h.at_,?_⟩
  · by_cases e:i=f∧j=t
    · simpa [CW,e] using hb
    · simpa [CW,e] using h.bx i j hi hj
  · have:=ZX (c:=c) (m:=m) (a:=a) hf ht
    rw [h1] at this
    have:=h.totN
    rw [eD]; omega
theorem Live.doubled (h:Live c N m) {f t:Nat} (hf:f<c.n) (ht:t<c.n) (k:Int):Live c N (m.double f t k).2:=by
  refine h.setB hf ht ((h.bx f t hf ht).double k) ?_ ?_ <;> (unfold Abs.double; split <;> (try split) <;> rfl)
theorem Live.moved (h:Live c N m) {f t:Nat} (hf:f<c.n) (ht:t<c.n) (k:Int):Live c N (m.move f t k).2:=by
  refine h.setB hf ht ((h.bx f t hf ht).move k) ?_ ?_ <;> (unfold Abs.move; split <;> rfl)
theorem pM {k t:Nat} {f:BL} {r:List BL} (ho:(m.w k).out=f :: r) (hto:f.To=(t:Int)) (hnf:(m.bx k t).fullB=false) :
    m.send c k=(true,DV (CW m k t { m.bx k t with row:=(m.bx k t).row++[(m.bx k t).fs.length],fs:=(m.bx k t).fs++[{ f with Seq:=(m.bx k t).fs.length }] }) k { m.w k with out:=r }):=by
  have e:f.To.toNat=t:=by omega
  unfold MS.send
  rw [ho]
  show (if ((m.bx k f.To.toNat).send f).1=0 then _ else _)=_
  rw [e,ZW f hnf,if_pos rfl]
theorem Af8 {k t:Nat} {f:BL} {r:List BL} (ho:(m.w k).out=f :: r) (hto:f.To=(t:Int)) (hnf:(m.bx k t).fullB=true):m.send c k=(false,m):=by
  have e:f.To.toNat=t:=by omega
  unfold MS.send
  rw [ho]
  show (if ((m.bx k f.To.toNat).send f).1=0 then _ else _)=_
  rw [e]
  unfold Abs.send
  rw [if_pos hnf]
  rfl
theorem AdB {k:Nat} (ho:(m.w k).out=[]):m.send c k=(false,m):=by unfold MS.send; rw [ho]
theorem jN (g:Good c m) {k:Nat} (hk:k<c.n):m.send c k=(false,m)∨∃ (t:Nat) (f:BL) (r:List BL),t<c.n∧(m.w k).out=f :: r∧f.To=(t:Int)∧(m.bx k t).fullB=false:=by
  cases ho:(m.w k).out with
  | nil=>exact .inl (AdB ho)
  | cons f r=>
    obtain ⟨t,s,ht,hs,hto,_⟩:=g.out k hk f (by rw [ho]; exact List.mem_cons_self)
    cases hf:(m.bx k t).fullB with
    | true=>exact .inl (Af8 ho hto hf)
    | false=>exact .inr ⟨t,f,r,ht,rfl,hto,hf⟩
theorem Live.sent (h:Live c N m) (g:Good c m) {k:Nat} (hk:k<c.n):Live c N (m.send c k).2:=by
  rcases jN g hk with e | ⟨t,f,r,ht,ho,hto,hnf⟩
  · rw [e]; exact h
  · rw [pM ho hto hnf]
    have hb:=h.bx k t hk ht
    have hbs:=hb.send f
    rw [ZW f hnf] at hbs
    have hw:∀ {kind q s},Way c m kind q s→Way c (DV (CW m k t { m.bx k t with row:=(m.bx k t).row++[(m.bx k t).fs.length],fs:=(m.bx k t).fs++[{ f with Seq:=(m.bx k t).fs.length }] }) k { m.w k with out:=r }) kind q s:=by
      rintro kind q s ⟨w,hw,⟨x,hx,hx1,hx2,hx3⟩ | ⟨i,x,g1,g2,g3⟩⟩
      · by_cases e:w=k
        · subst e
          rw [ho] at hx
          rcases List.mem_cons.1 hx with e' | hx
          · subst e'
            have et:q=t:=by omega
            subst et
            refine ⟨w,hw,.inr ⟨(m.bx w q).fs.length,{ x with Seq:=(m.bx w q).fs.length },?_,?_,hx1,hx3⟩⟩
            · simpa [DV,CW] using hb.tk
            · simp [DV,CW]
          · exact ⟨w,hw,.inl ⟨x,by simpa [DV] using hx,hx1,hx2,hx3⟩⟩
        · exact ⟨w,hw,.inl ⟨x,by simpa [DV,e,CW] using hx,hx1,hx2,hx3⟩⟩
      · refine ⟨w,hw,.inr ⟨i,x,?_,?_,g3⟩⟩ <;> (by_cases e:w=k∧q=t)
        · obtain ⟨rfl,rfl⟩:=e; simpa [DV,CW] using g1
        · simpa [DV,CW,e] using g1
        · obtain ⟨rfl,rfl⟩:=e
          have hlt:i<(m.bx w q).fs.length:=(List.getElem?_eq_some_iff.1 g2).1
          simp only [DV,CW,and_self,if_true]
          rw [List.getElem?_append_left hlt]; exact g2
        · simpa [DV,CW,e] using g2
    have hgl:∀ q,((DV (CW m k t { m.bx k t with row:=(m.bx k t).row++[(m.bx k t).fs.length],fs:=(m.bx k t).fs++[{ f with Seq:=(m.bx k t).fs.length }] }) k { m.w k with out:=r }).w q).gl=(m.w q).gl∧((DV (CW m k t { m.bx k t with row:=(m.bx k t).row++[(m.bx k t).fs.length],fs:=(m.bx k t).fs++[{ f with Seq:=(m.bx k t).fs.length }] }) k { m.w k with out:=r }).w q).gr=(m.w q).gr∧((DV (CW m k t { m.bx k t with row:=(m.bx k t).row++[(m.bx k t).fs.length],fs:=(m.bx k t).fs++[{ f with Seq:=(m.bx k t).fs.length }] }) k { m.w k with out:=r }).w q).at_=(m.w q).at_:=by
      intro q
      by_cases e:q=k
      · subst e; simp [DV]
      · simp [DV,e,CW]
    refine ⟨fun i j hi hj=>?_,fun q s hq hs=>?_,fun q hq=>?_,?_⟩
    · by_cases e:i=k∧j=t
      · obtain ⟨rfl,rfl⟩:=e; simpa [DV,CW] using hbs
      · simpa [DV,CW,e] using h.bx i j hi hj
    · rw [(hgl q).1,(hgl q).2.1]
      exact ⟨(h.way q s hq hs).1.imp id hw,(h.way q s hq hs).2.imp id hw⟩
    · rw [(hgl q).1,(hgl q).2.1,(hgl q).2.2]; exact h.at_ q hq
    · have h1:=ZX (c:=c) (m:=m) (a:={ m.bx k t with row:=(m.bx k t).row++[(m.bx k t).fs.length],fs:=(m.bx k t).fs++[{ f with Seq:=(m.bx k t).fs.length }] }) hk ht
      have h2:=mU (c:=c) (m:=CW m k t { m.bx k t with row:=(m.bx k t).row++[(m.bx k t).fs.length],fs:=(m.bx k t).fs++[{ f with Seq:=(m.bx k t).fs.length }] }) (a:={ m.w k with out:=r }) hk
      rw [eD] at h2
      have e:((CW m k t { m.bx k t with row:=(m.bx k t).row++[(m.bx k t).fs.length],fs:=(m.bx k t).fs++[{ f with Seq:=(m.bx k t).fs.length }] }).w k).out.length=r.length+1:=by show (m.w k).out.length=_; rw [ho]; rfl
      rw [e] at h2
      simp only [List.length_append,List.length_singleton] at h1
      have:=h.totN
      dsimp only at h1 h2 ⊢
      rw [jM]
      omega
theorem wJ (s:Abs) (k:Int):(s.take k).2.2.2.taken=if (s.take k).2.1=true then s.taken+1 else s.taken:=by
  by_cases h0:s.at k≠0
  · simp [Abs.take,h0]
  · by_cases h1:s.taken<s.num k
    · simp [Abs.take,h0,h1]
    · by_cases h2:s.num k<s.taken <;> simp [Abs.take,h0,h1,h2]
theorem AaQ (h:BInv s) {k:Int} (ht:(s.take k).2.1=true):∃ hi:s.taken<s.fs.length,(s.take k).1=s.fs[s.taken]:=by
  unfold Abs.take at ht ⊢
  split at ht
  · cases ht
  · rename_i h0
    have h0':s.at k=0:=by simpa using h0
    obtain ⟨i,rfl,hi⟩:=RA h0'
    rw [RC hi] at ht ⊢
    rw [if_neg (by rw [h0']; simp)]
    have hlt:=h.lt _ (List.getElem_mem hi)
    split at ht
    · cases ht
    · split at ht
      · cases ht
      · rename_i h1 h2
        have e:s.row[i]=s.taken:=by omega
        rw [if_neg h1,if_neg h2]
        refine ⟨by omega,?_⟩
        simp [e,show s.taken<s.fs.length by omega]
theorem Live.handed (h:Live c N m) (g:Good c m) {f t:Nat} (hf:f<c.n) (ht:t<c.n) (k:Int):Live c N (m.hand c f t k).2:=by
  have hb:=h.bx f t hf ht
  have htk:=wJ (m.bx f t) k
  have hfs:=yW (m.bx f t) k
  unfold MS.hand
  split
  · rename_i e
    rw [if_pos e] at htk
    obtain ⟨hi,hz⟩:=AaQ hb e
    obtain ⟨⟨t',s',ht',hs',hto,hro,hsm,hcn⟩,hto2⟩:=g.box f t hf ht _ (List.getElem_mem hi)
    rw [←hz] at hto hro hsm hcn hto2
    generalize hm2:(DV (CW m f t ((m.bx f t).take k).2.2.2) t (WX c.S.length (WN (m.w t) ((m.bx f t).take k).1)))=m2
    have hw2:∀ q,q≠t→m2.w q=m.w q:=fun q hq=>by rw [←hm2]; simp [DV,hq,CW]
    have hwt:m2.w t=WX c.S.length (WN (m.w t) ((m.bx f t).take k).1):=by rw [←hm2]; simp [DV]
    have hbx:∀ i j,¬(i=f∧j=t)→m2.bx i j=m.bx i j:=fun i j hij=>by rw [←hm2]; simp [DV,CW,hij]
    have hbt:m2.bx f t=((m.bx f t).take k).2.2.2:=by rw [←hm2]; simp [DV,CW]
    have hout:∀ q,(m2.w q).out=(m.w q).out:=fun q=>by
      by_cases e':q=t
      · subst e'; rw [hwt]; simp [WX,cH]
      · rw [hw2 q e']
    -- a way stays, or is what came
    have hw:∀ {kind q s},Way c m kind q s→Way c m2 kind q s∨(q=t∧((m.bx f t).take k).1.Kind=kind∧((m.bx f t).take k).1.Round=(s:Int)):=by
      rintro kind q s ⟨w,hw,⟨x,hx,hx'⟩ | ⟨i,x,g1,g2,g3,g4⟩⟩
      · exact .inl ⟨w,hw,.inl ⟨x,by rw [hout]; exact hx,hx'⟩⟩
      · by_cases e':w=f∧q=t
        · obtain ⟨rfl,rfl⟩:=e'
          by_cases ei:i=(m.bx w q).taken
          · subst ei
            have:x=((m.bx w q).take k).1:=by rw [hz]; have:=(List.getElem?_eq_some_iff.1 g2).2; exact this.symm
            subst this
            exact .inr ⟨rfl,g3,g4⟩
          · exact .inl ⟨w,hw,.inr ⟨i,x,by rw [hbt,htk]; omega,by rw [hbt,hfs.1]; exact g2,g3,g4⟩⟩
        · exact .inl ⟨w,hw,.inr ⟨i,x,by rw [hbx w q e']; exact g1,by rw [hbx w q e']; exact g2,g3,g4⟩⟩
    refine ⟨fun i j hi' hj=>?_,fun q s hq hs=>?_,fun q hq=>?_,?_⟩
    · by_cases e':i=f∧j=t
      · obtain ⟨rfl,rfl⟩:=e'; rw [hbt]; exact hb.take k
      · rw [hbx i j e']; exact h.bx i j hi' hj
    · obtain ⟨w1,w2⟩:=h.way q s hq hs
      by_cases e':q=t
      · subst e'
        constructor
        · rcases w1 with w1 | w1
          · left; rw [hwt]; unfold WX WN
            split
            · simp [w1]
            · exact w1
          · rcases hw w1 with w1 | ⟨_,w3,w4⟩
            · exact .inr w1
            · left; rw [hwt]; unfold WX WN; rw [if_pos w3]; simp [w4]
        · rcases w2 with w1 | w1
          · left; rw [hwt]; unfold WX WN
            split
            · exact w1
            · simp [w1]
          · rcases hw w1 with w1 | ⟨_,w3,w4⟩
            · exact .inr w1
            · left; rw [hwt]; unfold WX WN; rw [if_neg (by omega)]; simp [w4]
      · rw [hw2 q e']
        exact ⟨w1.imp id fun x=>(hw x).resolve_right fun x=>e' x.1,w2.imp id fun x=>(hw x).resolve_right fun x=>e' x.1⟩
    · by_cases e':q=t
      · subst e'
        rw [hwt]
        have hle:(WN (m.w q) ((m.bx f q).take k).1).at_≤c.S.length:=by
          have:=(h.at_ q hq).1
          unfold WN; split <;> exact this
        exact (yY _ _ _ _ _ hle (by omega)).2
      · rw [hw2 q e']; exact h.at_ q hq
    · have h1:=ZX (c:=c) (m:=m) (a:=((m.bx f t).take k).2.2.2) hf ht
      rw [hfs.1] at h1
      have h2:=mU (c:=c) (m:=CW m f t ((m.bx f t).take k).2.2.2) (a:=WX c.S.length (WN (m.w t) ((m.bx f t).take k).1)) ht
      rw [eD] at h2
      have e2:(WX c.S.length (WN (m.w t) ((m.bx f t).take k).1)).out=(m.w t).out:=by simp [WX,cH]
      rw [e2] at h2
      have e3:((CW m f t ((m.bx f t).take k).2.2.2).w t).out=(m.w t).out:=rfl
      rw [e3] at h2
      have:=h.totN
      rw [←hm2,jM]
      show cL c (CW m f t ((m.bx f t).take k).2.2.2)+cK c (DV (CW m f t ((m.bx f t).take k).2.2.2) t (WX c.S.length (WN (m.w t) ((m.bx f t).take k).1)))=N
      omega
  · rename_i e
    rw [if_neg e] at htk
    exact h.setB hf ht (hb.take k) hfs.1 htk
variable {c:WL} {m:MS} {s:Abs} {N:Nat}
def Phi (c:WL) (m:MS):Nat:=2*cK c m+yX c m
theorem Live.sends (h:Live c N m) (hc:fY c) (g:Good c m):∀ k,k≤c.n→Live c N (m.sends c k).2
  | 0,_=>h
  | k+1,hk=>(Live.sends h hc g k (by omega)).sent (g.sends hc k (by omega)) (by omega)
theorem Live.hands1 {x:Bool×MS} (h:Live c N x.2) (g:Good c x.2) {f:Nat} (hf:f<c.n):∀ k,k≤c.n→Live c N (hands1 c f x k).2
  | 0,_=>h
  | k+1,hk=>(Live.hands1 h g hf k (by omega)).handed (Good.hands1 g f k) hf (by omega) _
theorem Live.hands {x:Bool×MS} (h:Live c N x.2) (g:Good c x.2):∀ k,k≤c.n→Live c N (hands c x k).2
  | 0,_=>h
  | k+1,hk=>Live.hands1 (Live.hands h g k (by omega)) (Good.hands g k) (by omega) c.n (Nat.le_refl _)
theorem Live.window (h:Live c N m) (hc:fY c) (g:Good c m):Live c N (m.window c).2:=Live.hands (h.sends hc g c.n (Nat.le_refl _)) (g.sends hc c.n (Nat.le_refl _)) c.n (Nat.le_refl _)
theorem Live.acted (h:Live c N m) (hc:fY c) (g:Good c m) (x:MY):Live c N (m.act c x).2:=by
  unfold MS.act
  split
  · exact h
  · split
    · split
      · rename_i hi; exact h.sent g (by have:=hi.2; have:=hi.1; omega)
      · exact h
    · split
      · exact h.window hc g
      · split
        · rename_i hi
          have l1:x.A.toNat<c.n:=by have:=hi.1.2; have:=hi.1.1; omega
          have l2:x.B.toNat<c.n:=by have:=hi.2.2; have:=hi.2.1; omega
          split
          · exact h.handed g l1 l2 _
          · split
            · exact h.doubled l1 l2 _
            · exact h.moved l1 l2 _
        · exact h
theorem AdC (m:MS) (f t:Nat):(m.old c f t).bx f t=((m.bx f t).take (m.bx f t).oldest).2.2.2∧(∀ i j,¬(i=f∧j=t)→(m.old c f t).bx i j=m.bx i j)∧∀ k,((m.old c f t).w k).out=(m.w k).out:=by
  unfold MS.old MS.hand
  split
  · refine ⟨by simp [DV,CW],fun i j h=>by simp [DV,CW,h],fun k=>?_⟩
    by_cases e:k=t
    · subst e; simp [DV,WX,cH,CW]
    · simp [DV,e,CW]
  · exact ⟨by simp [CW],fun i j h=>by simp [CW,h],fun k=>rfl⟩
theorem Af9 {f t:Nat} (h:BInv (m.bx f t)):((m.old c f t).bx f t).row.length=(m.bx f t).row.length - 1:=by
  rw [(AdC m f t).1]
  by_cases e:(m.bx f t).row=[]
  · rw [(AaP e _).1,e]; rfl
  · have:=h.old e; omega
theorem AdD (h:Live c N m) (h0:Phi c m=0):∀ k,k<c.n→(m.w k).at_=c.S.length:=by
  have ho:cK c m=0:=by unfold Phi at h0; omega
  have hr:yX c m=0:=by unfold Phi at h0; omega
  have noway:∀ {kind k s},k<c.n→¬Way c m kind k s:=by
    rintro kind k s hk ⟨f,hf,⟨g,hg,_⟩ | ⟨i,g,h1,h2,_⟩⟩
    · have:=cJ ho f hf
      rw [List.length_eq_zero_iff.1 this] at hg
      exact absurd hg (List.not_mem_nil)
    · have:=cJ (cJ hr f hf) k hk
      have e:=List.length_eq_zero_iff.1 this
      have hlt:i<(m.bx f k).fs.length:=(List.getElem?_eq_some_iff.1 h2).1
      have:=(h.bx f k hf hk).pend i h1 hlt
      rw [e] at this
      exact absurd this (List.not_mem_nil)
  intro k hk
  have ha:=h.at_ k hk
  rcases Nat.lt_or_ge (m.w k).at_ c.S.length with hlt | hge
  · obtain ⟨w1,w2⟩:=h.way k _ hk hlt
    exact absurd ⟨hlt,w1.resolve_right (noway hk),w2.resolve_right (noway hk)⟩ ha.2
  · omega
variable {c:WL} {m:MS} {s:Abs} {N:Nat} {o0:AB} {o1 o1x:List (Nat×AA)} {o2:List (Nat×AF)}
def MS.ended (c:WL) (m:MS):Bool:=(List.range c.n).all fun k=>decide ((m.w k).at_=c.S.length)
theorem YP:m.ended c=true↔∀ k,k<c.n→(m.w k).at_=c.S.length:=by simp [MS.ended,List.all_eq_true]
def pN (c:WL):Nat→MS→MS
  | 0,m=>m
  | j+1,m=>if m.ended c=true then m else pN c j (m.window c).2
theorem jO (hc:fY c) (g:Good c m) (h0:∀ i j,i<c.n→j<c.n→(m.bx i j).row=[]):∀ k,k≤c.n →
    (∀ j,((m.sends c k).2.w j).out=if j<k then (m.w j).out.tail else (m.w j).out)∧(∀ i j,k≤i→(m.sends c k).2.bx i j=m.bx i j)∧∀ i j,i<c.n→j<c.n→((m.sends c k).2.bx i j).row.length≤1
  | 0,_=>⟨fun j=>by simp [MS.sends],fun _ _ _=>rfl,fun i j hi hj=>by simp [MS.sends,h0 i j hi hj]⟩
  | k+1,hk=>by
    obtain ⟨h1,h2,h3⟩:=jO hc g h0 k (by omega)
    have gk:=g.sends hc k (by omega)
    unfold MS.sends
    generalize hx:(m.sends c k).2=x at h1 h2 h3 gk
    have hkk:=h1 k
    rw [if_neg (by omega)] at hkk
    rcases jN gk (show k<c.n by omega) with e | ⟨t,f,r,ht,ho,hto,hnf⟩
    · have hnil:(x.w k).out=[]:=by
        cases hq:(x.w k).out with
        | nil=>rfl
        | cons f r=>
          exfalso
          obtain ⟨t,s,ht,hs,hto,_⟩:=gk.out k (by omega) f (by rw [hq]; exact List.mem_cons_self)
          have hnf:(x.bx k t).fullB=false:=by
            unfold Abs.fullB
            rw [(gk.room k t (by omega) ht).1,h2 k t (Nat.le_refl _),h0 k t (by omega) ht]
            have:=hc.r1
            simp; omega
          have:=pM (c:=c) hq hto hnf
          rw [e] at this
          simp at this
      rw [e]
      refine ⟨fun j=>?_,fun i j hi=>h2 i j (by omega),h3⟩
      show (x.w j).out=_
      rw [h1 j]
      by_cases ej:j=k
      · subst ej
        rw [hkk] at hnil
        simp [hnil]
      · by_cases el:j<k
        · rw [if_pos el,if_pos (by omega)]
        · rw [if_neg el,if_neg (by omega)]
    · rw [pM ho hto hnf]
      refine ⟨fun j=>?_,fun i j hi=>?_,fun i j hi hj=>?_⟩
      · by_cases ej:j=k
        · subst ej
          rw [ho] at hkk
          rw [if_pos (by omega),←hkk]
          simp [DV]
        · have:=h1 j
          simp only [DV,if_neg ej,CW]
          rw [this]
          by_cases el:j<k
          · rw [if_pos el,if_pos (by omega)]
          · rw [if_neg el,if_neg (by omega)]
      · have ei:¬(i=k∧j=t):=by omega
        simp only [DV,CW,if_neg ei]
        exact h2 i j (by omega)
      · by_cases e:i=k∧j=t
        · obtain ⟨rfl,rfl⟩:=e
          simp only [DV,CW,and_self,if_true,List.length_append,List.length_singleton]
          rw [h2 i j (Nat.le_refl _),h0 i j hi hj]; simp
        · simp only [DV,CW,if_neg e]
          exact h3 i j hi hj
theorem fM {f:Nat} (hf:f<c.n) {x:Bool×MS} (h:Live c N x.2) (g:Good c x.2):∀ t,t≤c.n →
    (∀ k,((hands1 c f x t).2.w k).out=(x.2.w k).out)∧(∀ i j,¬(i=f∧j<t)→(hands1 c f x t).2.bx i j=x.2.bx i j)∧∀ j,j<t→((hands1 c f x t).2.bx f j).row.length=(x.2.bx f j).row.length - 1
  | 0,_=>⟨fun _=>rfl,fun _ _ _=>rfl,fun j hj=>by omega⟩
  | t+1,ht=>by
    obtain ⟨h1,h2,h3⟩:=fM hf h g t (by omega)
    have hl:=Live.hands1 h g hf t (by omega)
    have ho:=AdC (c:=c) (hands1 c f x t).2 f t
    have hlen:=Af9 (c:=c) (hl.bx f t hf (by omega))
    unfold hands1
    refine ⟨fun k=>(ho.2.2 k).trans (h1 k),fun i j hij=>?_,fun j hj=>?_⟩
    · show (MS.old c _ f t).bx i j=_
      rw [ho.2.1 i j (by omega)]
      exact h2 i j (by omega)
    · show ((MS.old c _ f t).bx f j).row.length=_
      by_cases e:j=t
      · subst e
        rw [hlen,h2 f j (by omega)]
      · rw [ho.2.1 f j (by omega)]
        exact h3 j (by omega)
theorem jP {x:Bool×MS} (h:Live c N x.2) (g:Good c x.2):∀ f,f≤c.n →
    (∀ k,((hands c x f).2.w k).out=(x.2.w k).out)∧(∀ i j,f≤i→(hands c x f).2.bx i j=x.2.bx i j)∧∀ i j,i<f→j<c.n→((hands c x f).2.bx i j).row.length=(x.2.bx i j).row.length - 1
  | 0,_=>⟨fun _=>rfl,fun _ _ _=>rfl,fun i j hi=>by omega⟩
  | f+1,hf=>by
    obtain ⟨h1,h2,h3⟩:=jP h g f (by omega)
    obtain ⟨k1,k2,k3⟩:=fM (show f<c.n by omega) (Live.hands h g f (by omega)) (Good.hands g f) c.n (Nat.le_refl _)
    unfold hands
    refine ⟨fun k=>(k1 k).trans (h1 k),fun i j hi=>?_,fun i j hi hj=>?_⟩
    · rw [k2 i j (by omega)]; exact h2 i j (by omega)
    · by_cases e:i=f
      · subst e
        rw [k3 j hj,h2 i j (Nat.le_refl _)]
      · rw [k2 i j (by omega)]; exact h3 i j (by omega) hj
theorem tG (hc:fY c) (h:Live c N m) (g:Good c m) (h0:∀ i j,i<c.n→j<c.n→(m.bx i j).row=[]) :
    (∀ k,k<c.n→((m.window c).2.w k).out=(m.w k).out.tail)∧∀ i j,i<c.n→j<c.n→((m.window c).2.bx i j).row=[]:=by
  obtain ⟨s1,s2,s3⟩:=jO hc g h0 c.n (Nat.le_refl _)
  obtain ⟨h1,h2,h3⟩:=jP (h.sends hc g c.n (Nat.le_refl _)) (g.sends hc c.n (Nat.le_refl _)) c.n (Nat.le_refl _)
  unfold MS.window
  refine ⟨fun k hk=>?_,fun i j hi hj=>?_⟩
  · rw [h1 k,s1 k,if_pos hk]
  · have e1:=h3 i j hi hj
    have e2:=s3 i j hi hj
    exact List.length_eq_zero_iff.1 (by omega)
theorem mV (hc:fY c):∀ (j:Nat) {m:MS},Live c N m→Good c m→(∀ a b,a<c.n→b<c.n→(m.bx a b).row=[])→(∀ k,k<c.n→(m.w k).out.length≤j)→(pN c j m).ended c=true
  | 0,m,h,g,h0,hp=>by
    show m.ended c=true
    exact YP.2 (AdD h (by
      have ho:cK c m=0:=by
        unfold cK
        rw [EG (g:=fun _=>0) fun i hi=>by have:=hp i hi; omega,JG]; simp
      have hr:yX c m=0:=by
        unfold yX
        rw [EG (g:=fun _=>0) fun i hi=>by rw [EG (g:=fun _=>0) fun j hj=>by rw [h0 i j hi hj]; rfl,JG]; simp,JG]; simp
      unfold Phi; omega))
  | j+1,m,h,g,h0,hp=>by
    unfold pN
    split
    · assumption
    · obtain ⟨w1,w2⟩:=tG hc h g h0
      refine mV hc j (h.window hc g) (g.window hc) w2 fun k hk=>?_
      have:=hp k hk
      rw [w1 k hk,List.length_tail]; omega
theorem tH (hc:fY c) (h:Rep c m o0 o1 o2) {Q:Bool→Prop} (hQ:Q (m.ended c)):DI o0 o1 Q:=by
  have hn:=hc.n
  unfold DI CI CL
  refine EC c.n (by omega) (fun i=>∀ k,k<i→(m.w k).at_=c.S.length) (fun k hk=>by omega) (fun i next hi hR hnext=>?_) (fun next hR=>?_)
  · show AQ (decide ((i:Int)<(o0.workers.length:Int))) _ _
    rw [h.len]
    refine BF (by simp; omega) (AO (by omega) (h.get hi) ?_)
    obtain ⟨x,hx,hw⟩:=h.wk i hi
    unfold GL
    refine MN hx ?_
    rw [hw.at_,h.S]
    have:=hw.le
    refine AC (fun hlt=>?_) (fun hge=>?_)
    · have e:m.ended c=false:=by
        cases hE:m.ended c with
        | false=>rfl
        | true=>have:=YP.1 hE i hi; omega
      rw [e] at hQ
      have:decide (0≤(i:Int))=true:=by simp
      show Q (!decide (0≤(i:Int)))
      rw [this]; exact hQ
    · exact hnext fun k hk=>by
        by_cases ek:k=i
        · subst ek; omega
        · exact hR k (by omega)
  · show AQ (decide ((c.n:Int)<(o0.workers.length:Int))) _ _
    rw [h.len]
    refine AN (by simp) ?_
    have e:m.ended c=true:=YP.2 hR
    rw [e] at hQ
    exact hQ
structure Data where
  r:Int
  n:Int
  k:Int
  q:Int
  A:List AD
  B:List AD
  M:List AD
  R:Nat
  C:Nat
  room:Nat
  S:List BC
def Data.p (d:Data):BQ:={ Ring:=d.r,A:=BO d.n d.k d.A,B:=BO d.k d.q d.B,Mask:=BO d.n d.q d.M,R:=(d.R:Int),C:=(d.C:Int),Room:=(d.room:Int) }
def CX (S:List BC):Nat→Int
  | 0=>0
  | s+1=>(S.getD s default).To
structure AdE (d:Data):Prop where
  len:d.S.length+1≤d.R+d.C
  row:∀ s (h:s<d.S.length),0≤d.S[s].Row∧d.S[s].Row<d.R
  col:∀ s (h:s<d.S.length),0≤d.S[s].Col∧d.S[s].Col<d.C
  lo:∀ s (h:s<d.S.length),d.S[s].From=CX d.S s∧d.S[s].From≤d.S[s].To∧d.S[s].To≤d.k
  top:CX d.S d.S.length=d.k
structure aK (d:Data):Prop where
  r:1≤d.r∧d.r≤5
  cA:Canon d.n d.k d.A
  cB:Canon d.k d.q d.B
  cM:Canon d.n d.q d.M
  vA:∀ t∈d.A,FP t.Val
  vB:∀ t∈d.B,FP t.Val
  vM:∀ t∈d.M,FP t.Val
  R:1≤d.R∧d.R≤8
  C:1≤d.C∧d.C≤8
  room:1≤d.room∧d.room≤64
  seg:AdE d
variable {d:Data}
def Data.rl (d:Data) (i:Nat):Int:=CV d.n d.R i
def Data.cl (d:Data) (j:Nat):Int:=CV d.q d.C j
theorem tI (h:aK d) (i:Nat):0≤d.rl i∧d.rl i≤d.rl (i+1)∧d.rl (i+1)≤d.n:=⟨mM.1,XN (by omega),mM.2 h.cA.r0⟩
theorem tJ (h:aK d) (j:Nat):0≤d.cl j∧d.cl j≤d.cl (j+1)∧d.cl (j+1)≤d.q:=⟨mM.1,XN (by omega),mM.2 h.cB.c0⟩
theorem pO (h:aK d):∀ s,s≤d.S.length→0≤CX d.S s∧CX d.S s≤d.k
  | 0,_=>⟨Int.le_refl _,h.cA.c0⟩
  | s+1,hs=>by
    have h1:=pO h s (by omega)
    have h2:=h.seg.lo s (by omega)
    have e:CX d.S (s+1)=d.S[s].To:=by
      show (d.S.getD s default).To=_
      simp [List.getD_eq_getElem?_getD,show s<d.S.length by omega]
    rw [e]; omega
theorem jQ {s:Nat} (hs:s<d.S.length):CX d.S (s+1)=d.S[s].To:=by
  show (d.S.getD s default).To=_
  simp [List.getD_eq_getElem?_getD,hs]
def fZ (d:Data) (i:Nat) (a b:Int):List AD:=LG (d.rl i) (d.rl (i+1)) a b d.A
def jR (d:Data) (j:Nat) (a b:Int):List AD:=LG a b (d.cl j) (d.cl (j+1)) d.B
def bkM (d:Data) (i j:Nat):List AD:=LG (d.rl i) (d.rl (i+1)) (d.cl j) (d.cl (j+1)) d.M
def TV (d:Data) (i j:Nat) (t:Nat):List AK:=FC d.r (fZ d i 0 (CX d.S t)) (jR d j 0 (CX d.S t)) (bkM d i j)
def Data.ctx (d:Data) (adr:Nat→Nat):WL where
  p:=d.p
  S:=d.S
  n:=d.R*d.C
  adr:=adr
  wi:=fun k=>((k / d.C:Nat):Int)
  wj:=fun k=>((k % d.C:Nat):Int)
  mask:=fun k=>BO (d.rl (k / d.C+1) - d.rl (k / d.C)) (d.cl (k % d.C+1) - d.cl (k % d.C)) (bkM d (k / d.C) (k % d.C))
  room:=d.room
  LA:=fun k s=>fZ d (k / d.C) (CX d.S s) (CX d.S (s+1))
  RB:=fun k s=>jR d (k % d.C) (CX d.S s) (CX d.S (s+1))
  has:=fun k t=>TV d (k / d.C) (k % d.C) t
theorem AaR (h:aK d) (i j:Nat) {a b:Int} (h0:0≤a) (h1:a≤b) (h2:b≤d.k) (k:EX) :
    GH d.r k (FC d.r (fZ d i 0 b) (jR d j 0 b) (bkM d i j))=gT d.r (GH d.r k (FC d.r (fZ d i 0 a) (jR d j 0 a) (bkM d i j))) (GH d.r k (FC d.r (fZ d i a b) (jR d j a b) (bkM d i j))):=by
  have hr:=tI h i
  have hc:=tJ h j
  obtain ⟨_,cA0,lA0⟩:=FU h.cA (l:=d.rl i) (u:=d.rl (i+1)) (c:=0) (d:=b) hr.1 hr.2.1 hr.2.2 (by omega) (by omega) h2
  obtain ⟨_,cA1,lA1⟩:=FU h.cA (l:=d.rl i) (u:=d.rl (i+1)) (c:=0) (d:=a) hr.1 hr.2.1 hr.2.2 (by omega) h0 (by omega)
  obtain ⟨_,cA2,lA2⟩:=FU h.cA (l:=d.rl i) (u:=d.rl (i+1)) (c:=a) (d:=b) hr.1 hr.2.1 hr.2.2 h0 h1 h2
  obtain ⟨_,cB0,lB0⟩:=FU h.cB (l:=0) (u:=b) (c:=d.cl j) (d:=d.cl (j+1)) (by omega) (by omega) h2 hc.1 hc.2.1 hc.2.2
  obtain ⟨_,cB1,lB1⟩:=FU h.cB (l:=0) (u:=a) (c:=d.cl j) (d:=d.cl (j+1)) (by omega) h0 (by omega) hc.1 hc.2.1 hc.2.2
  obtain ⟨_,cB2,lB2⟩:=FU h.cB (l:=a) (u:=b) (c:=d.cl j) (d:=d.cl (j+1)) h0 h1 h2 hc.1 hc.2.1 hc.2.2
  obtain ⟨_,cM0,_⟩:=FU h.cM (l:=d.rl i) (u:=d.rl (i+1)) (c:=d.cl j) (d:=d.cl (j+1)) hr.1 hr.2.1 hr.2.2 hc.1 hc.2.1 hc.2.2
  simp only [Int.sub_zero,Int.add_zero] at cA0 lA0 cA1 lA1 cB0 lB0 cB1 lB1
  refine mL cM0.srt fun t ht=>?_
  have hin:=cM0.inn t ht
  unfold ZB at hin
  unfold fZ jR
  rw [TC cA0 hin.1,TC cA1 hin.1,TC cA2 hin.1,show b.toNat=a.toNat+(b - a).toNat by omega,sI]
  congr 1
  · refine ZU (fun x hx=>?_) (fun x hx=>?_)
    · rw [lA0 _ _ hin.1 hin.2.1 (by omega) (by omega),lA1 _ _ hin.1 hin.2.1 (by omega) (by omega)]
    · unfold wC
      rw [lB0 _ _ (by omega) (by omega) hin.2.2.1 hin.2.2.2,lB1 _ _ (by omega) (by omega) hin.2.2.1 hin.2.2.2]
  · refine ZU (fun x hx=>?_) (fun x hx=>?_)
    · rw [Int.toNat_of_nonneg h0,lA0 _ _ hin.1 hin.2.1 (by omega) (by omega),lA2 _ _ hin.1 hin.2.1 (by omega) (by omega)]
    · unfold wC
      rw [Int.toNat_of_nonneg h0,lB0 _ _ (by omega) (by omega) hin.2.2.1 hin.2.2.2,lB2 _ _ (by omega) (by omega) hin.2.2.1 hin.2.2.2]
theorem Ai7 (h:aK d) (adr:Nat→Nat):Rk (d.ctx adr):=by
  intro w s hs hw Q hQ
  have hs':s<d.S.length:=hs
  have hr:=tI h (w / d.C)
  have hc:=tJ h (w % d.C)
  have hl:=h.seg.lo s hs'
  have hb:=pO h s (by omega)
  have he:=jQ (d:=d) hs'
  obtain ⟨_,cA2,_⟩:=FU h.cA (l:=d.rl (w / d.C)) (u:=d.rl (w / d.C+1)) (c:=CX d.S s) (d:=CX d.S (s+1)) hr.1 hr.2.1 hr.2.2 hb.1 (by omega) (by omega)
  obtain ⟨_,cB2,_⟩:=FU h.cB (l:=CX d.S s) (u:=CX d.S (s+1)) (c:=d.cl (w % d.C)) (d:=d.cl (w % d.C+1)) hb.1 (by omega) (by omega) hc.1 hc.2.1 hc.2.2
  obtain ⟨_,cM0,_⟩:=FU h.cM (l:=d.rl (w / d.C)) (u:=d.rl (w / d.C+1)) (c:=d.cl (w % d.C)) (d:=d.cl (w % d.C+1)) hr.1 hr.2.1 hr.2.2 hc.1 hc.2.1 hc.2.2
  have hk:=h.cA.c1
  have e1:AH (d.S[s].To - d.S[s].From)=CX d.S (s+1) - CX d.S s:=by rw [AX (by omega) (by omega)]; omega
  show SJ d.r (d.rl (w / d.C+1) - d.rl (w / d.C)) (AH (d.S[s].To - d.S[s].From)) (fZ d (w / d.C) (CX d.S s) (CX d.S (s+1))) _
  have vA2:=sS (l:=d.rl (w / d.C)) (u:=d.rl (w / d.C+1)) (c:=CX d.S s) (d:=CX d.S (s+1)) h.vA
  have vB2:=sS (l:=CX d.S s) (u:=CX d.S (s+1)) (c:=d.cl (w % d.C)) (d:=d.cl (w % d.C+1)) h.vB
  rw [e1]
  refine Ac5 (by have:=cA2.len; unfold fZ; omega) vA2 ?_
  show SJ d.r (AH (d.S[s].To - d.S[s].From)) (d.cl (w % d.C+1) - d.cl (w % d.C)) (jR d (w % d.C) (CX d.S s) (CX d.S (s+1))) _
  rw [e1]
  refine Ac5 (by have:=cB2.len; unfold jR; omega) vB2 ?_
  unfold fZ jR
  rw [oS cA2 vA2 h.r,oS cB2 vB2 h.r]
  refine lB cA2 cB2 cM0 vA2 vB2 ?_
  have hrr:=h.r
  unfold wD
  rw [if_neg (by show ¬ ¬(1≤d.r∧d.r≤5); omega),if_neg (by omega)]
  show OE d.r [TV d (w / d.C) (w % d.C) s,FC d.r (fZ d (w / d.C) (CX d.S s) (CX d.S (s+1))) (jR d (w % d.C) (CX d.S s) (CX d.S (s+1))) (bkM d (w / d.C) (w % d.C))] _
  obtain ⟨s0,o0,z0⟩:=dX (r:=d.r) (A:=fZ d (w / d.C) 0 (CX d.S (s+1))) (B:=jR d (w % d.C) 0 (CX d.S (s+1))) cM0
  obtain ⟨s1,o1,z1⟩:=dX (r:=d.r) (A:=fZ d (w / d.C) 0 (CX d.S s)) (B:=jR d (w % d.C) 0 (CX d.S s)) cM0
  obtain ⟨s2,o2,z2⟩:=dX (r:=d.r) (A:=fZ d (w / d.C) (CX d.S s) (CX d.S (s+1))) (B:=jR d (w % d.C) (CX d.S s) (CX d.S (s+1))) cM0
  have efl:∀ (x y:List AK),([x,y]:List (List AK)).flatten=x++y:=fun x y=>by simp
  refine lG (by simp) (by rw [efl,List.length_append]; unfold TV bkM; omega) (by rw [efl]; exact fun c hc=>(List.mem_append.1 hc).elim (o1 c) (o2 c)) (fun h'=>absurd hrr h') (fun _ h'=>absurd (fun l hl=>?_) h') (fun _ _ x hs ho hsl he'=>?_)
  · simp only [List.mem_cons,List.not_mem_nil,or_false] at hl
    rcases hl with rfl | rfl
    · exact s1
    · exact s2
  · have hall:x=TV d (w / d.C) (w % d.C) (s+1):=AcX (r:=d.r) hs s0 fun key=>by
      rw [he',efl]
      exact (OP o1 o2).trans (AaR h (w / d.C) (w % d.C) hb.1 (by omega) (by omega) key).symm
    subst hall
    exact hQ
open Go Go.Fw Go.Sort
variable {d:Data}
def shC (a b:Int) (x:AK):AK:=⟨x.Row+a,x.Col+b,x.Val⟩
def bkC (d:Data) (i j:Nat):List AK:=(TV d i j d.S.length).map (shC (d.rl i) (d.cl j))
def eH (d:Data):List AK:=FC d.r d.A d.B d.M
theorem wK (h:aK d) (i j:Nat) {t:AD} (ht:t∈bkM d i j):MM d.r (fZ d i 0 d.k) (jR d j 0 d.k) t.Row t.Col=MM d.r d.A d.B (t.Row+d.rl i) (t.Col+d.cl j):=by
  have hr:=tI h i
  have hc:=tJ h j
  obtain ⟨_,cA0,lA0⟩:=FU h.cA (l:=d.rl i) (u:=d.rl (i+1)) (c:=0) (d:=d.k) hr.1 hr.2.1 hr.2.2 (by omega) h.cA.c0 (by omega)
  obtain ⟨_,cB0,lB0⟩:=FU h.cB (l:=0) (u:=d.k) (c:=d.cl j) (d:=d.cl (j+1)) (by omega) h.cA.c0 (by omega) hc.1 hc.2.1 hc.2.2
  obtain ⟨_,cM0,_⟩:=FU h.cM (l:=d.rl i) (u:=d.rl (i+1)) (c:=d.cl j) (d:=d.cl (j+1)) hr.1 hr.2.1 hr.2.2 hc.1 hc.2.1 hc.2.2
  simp only [Int.sub_zero,Int.add_zero] at cA0 lA0 cB0 lB0
  have hin:=cM0.inn t ht
  unfold ZB at hin
  unfold fZ jR
  rw [TC cA0 hin.1,TC h.cA (by omega)]
  refine ZU (fun x hx=>?_) (fun x hx=>?_)
  · rw [lA0 _ _ hin.1 hin.2.1 (by omega) (by omega)]
  · unfold wC
    rw [lB0 _ _ (by omega) (by omega) hin.2.2.1 hin.2.2.2]
theorem Ah0 (h:aK d) (i j:Nat):bkC d i j=((bkM d i j).map (shT (d.rl i) (d.cl j))).filterMap (HU d.r d.A d.B):=by
  unfold bkC TV FC
  rw [h.seg.top,List.map_filterMap,List.filterMap_map]
  refine XM fun t ht=>?_
  have:=wK h i j ht
  simp only [Function.comp_apply,HU,shT]
  rw [this]
  cases MM d.r d.A d.B (t.Row+d.rl i) (t.Col+d.cl j) <;> simp [shC]
theorem pP (h:aK d):((List.range (d.R*d.C)).flatMap fun k=>bkC d (k / d.C) (k % d.C)).Perm (eH d):=by
  have hC:=h.C
  rw [mO (by omega) (fun i j=>bkC d i j)]
  have e:((List.range d.R).flatMap fun i=>(List.range d.C).flatMap fun j=>bkC d i j)=(((List.range d.R).flatMap fun i:Nat=>(List.range d.C).flatMap fun j:Nat=>(bkM d i j).map (shT (d.rl i) (d.cl j))).filterMap (HU d.r d.A d.B)):=by
    rw [List.filterMap_flatMap]
    refine NN fun i _=>?_
    rw [List.filterMap_flatMap]
    exact NN fun j _=>Ah0 h i j
  rw [e]
  refine List.Perm.filterMap _ ?_
  have hp:WW d.n (d.R:Int):=⟨⟨h.cM.r0,h.cM.r1⟩,by have:=h.R; omega⟩
  have hq:WW d.q (d.C:Int):=⟨⟨h.cM.c0,h.cM.c1⟩,by have:=h.C; omega⟩
  exact sW h.cM hp hq
def cfC (x y:AK):Int:=uS (OO x.Row y.Row) (OO x.Col y.Col)
theorem pQ (x y:AK):cfC x y<0↔TS (x.Row,x.Col) (y.Row,y.Col):=UL x y
theorem AfA:SWO (ltOf cfC) where
  irrefl x:=by unfold ltOf; simp only [pQ]; simp [TS]
  trans x y z h1 h2:=by unfold ltOf at *; simp only [pQ,decide_eq_true_eq] at *; exact MK h1 h2
  ntrans x y z h1 h2:=by unfold ltOf at *; simp only [pQ,decide_eq_false_iff_not,TS] at *; omega
variable {adr:Nat→Nat} {m:MS} {o0:AB} {o1:List (Nat×AA)} {o2:List (Nat×AF)}
theorem AdF (h:aK d):yQ d.n d.q (eH d):=gV (r:=d.r) (ra:=0) (ca:=0) (rb:=0) (cb:=0) (A:=d.A) (B:=d.B) h.cM
theorem AaS {x y:AK} {Q:Int→Prop} (h:Q (cfC x y)):GJ x y Q:=by
  unfold GJ
  exact FL (FL (fE h))
def pR (d:Data) (m:MS) (n:Nat):List AK:=(List.range n).flatMap fun k=>(TV d (k / d.C) (k % d.C) (m.w k).at_).map (shC (d.rl (k / d.C)) (d.cl (k % d.C)))
theorem tK (h:aK d) (i j t:Nat):(TV d i j t).length≤65536∧∀ x∈TV d i j t,0≤x.Row∧x.Row≤4096∧0≤x.Col∧x.Col≤4096:=by
  have hr:=tI h i
  have hc:=tJ h j
  obtain ⟨_,cM0,_⟩:=FU h.cM (l:=d.rl i) (u:=d.rl (i+1)) (c:=d.cl j) (d:=d.cl (j+1)) hr.1 hr.2.1 hr.2.2 hc.1 hc.2.1 hc.2.2
  have hP:=gV (r:=d.r) (ra:=0) (ca:=0) (rb:=0) (cb:=0) (A:=fZ d i 0 (CX d.S t)) (B:=jR d j 0 (CX d.S t)) cM0
  refine ⟨hP.len,fun x hx=>?_⟩
  have:=hP.inn x hx
  have h1:=h.cM.r1
  have h2:=h.cM.c1
  omega
theorem jS (h:aK d) (m:MS):∀ n:Nat,(pR d m n).length≤n*65536
  | 0=>by simp [pR]
  | n+1=>by
    have:=jS h m n
    have:=(tK h (n / d.C) (n % d.C) (m.w n).at_).1
    unfold pR at *
    rw [List.range_succ,List.flatMap_append,List.length_append,List.flatMap_singleton,List.length_map]
    omega
theorem AdG (h:aK d) {adr:Nat→Nat} (he:m.ended (d.ctx adr)=true):(pR d m (d.R*d.C)).Perm (eH d):=by
  have:pR d m (d.R*d.C)=(List.range (d.R*d.C)).flatMap fun k=>bkC d (k / d.C) (k % d.C):=NN fun k hk=>by
    rw [YP.1 he k (List.mem_range.1 hk)]; rfl
  rw [this]
  exact pP h
theorem AaT (h:aK d) (hr:Rep (d.ctx adr) m o0 o1 o2) (zs:List AK) (hp:(pR d m (d.R*d.C)).Perm zs) (hz:zs.Pairwise gU) {Q:List AK→Prop} (hQ:Q zs):EF o0 o1 Q:=by
  have hR:=h.R
  have hC:=h.C
  have hn:d.R*d.C≤64:=Nat.mul_le_mul hR.2 hC.2
  have hn1:=h.cM.r1
  have hq1:=h.cM.c1
  unfold EF
  have hlen:o0.workers.length=d.R*d.C:=hr.len
  refine GI (fun j (x:List AK×Int)=>∃ k:Nat,x=(pR d m k,(k:Int))∧k+j=d.R*d.C) (m0:=d.R*d.C) ⟨0,rfl,by omega⟩ ?_
  rintro j _ next ⟨k,rfl,hkj⟩ hnext
  show AQ (decide ((k:Int)<(o0.workers.length:Int))) _ _
  rw [hlen]
  refine AC (fun hk=>?_) (fun hk=>?_)
  · have hk':k<(d.ctx adr).n:=by show k<d.R*d.C; omega
    obtain ⟨x,hx,hw⟩:=hr.wk k hk'
    refine AO (by omega) (hr.get hk') (MN hx ?_)
    rw [hr.p,hw.i,hw.j]
    show FN d.n (d.R:Int) ((k / d.C:Nat):Int) _
    refine IG ?_
    show FN d.q (d.C:Int) ((k % d.C:Nat):Int) _
    refine IG (MN hx ?_)
    have hhas:x.has=TV d (k / d.C) (k % d.C) (m.w k).at_:=hw.has
    rw [hhas]
    obtain ⟨hl,hin⟩:=tK h (k / d.C) (k % d.C) (m.w k).at_
    have hbase:=jS h m k
    have b1:=tI h (k / d.C)
    have b2:=tJ h (k % d.C)
    refine GI (fun j (y:List AK×Int)=>∃ i:Nat,y=(pR d m k++((TV d (k / d.C) (k % d.C) (m.w k).at_).take i).map (shC (d.rl (k / d.C)) (d.cl (k % d.C))),(i:Int))∧i+j=(TV d (k / d.C) (k % d.C) (m.w k).at_).length) (m0:=(TV d (k / d.C) (k % d.C) (m.w k).at_).length) ⟨0,by simp,by omega⟩ ?_
    rintro j2 _ next2 ⟨i,rfl,hij⟩ hnext2
    show AQ (decide ((i:Int)<((TV d (k / d.C) (k % d.C) (m.w k).at_).length:Int))) _ _
    refine AC (fun hi=>?_) (fun hi=>?_)
    · have hi':i<(TV d (k / d.C) (k % d.C) (m.w k).at_).length:=by omega
      refine AV hi' (BG ?_ ?_)
      · simp only [List.length_append,List.length_map,List.length_take,List.length_singleton]; omega
      · have hx':=hin _ (List.getElem_mem hi')
        have e1:AH ((TV d (k / d.C) (k % d.C) (m.w k).at_)[i].Row+CV d.n (d.R:Int) ((k / d.C:Nat):Int))=(TV d (k / d.C) (k % d.C) (m.w k).at_)[i].Row+d.rl (k / d.C):=by
          show AH (_+d.rl (k / d.C))=_
          rw [AX (by omega) (by omega)]
        have e2:AH ((TV d (k / d.C) (k % d.C) (m.w k).at_)[i].Col+CV d.q (d.C:Int) ((k % d.C:Nat):Int))=(TV d (k / d.C) (k % d.C) (m.w k).at_)[i].Col+d.cl (k % d.C):=by
          show AH (_+d.cl (k % d.C))=_
          rw [AX (by omega) (by omega)]
        rw [e1,e2]
        refine hnext2 (j2 - 1) _ (by omega) ⟨i+1,?_,by omega⟩
        rw [AX (by omega) (by omega),List.take_succ_eq_append_getElem hi',List.map_append,List.append_assoc]
        simp [shC]
    · have hie:i=(TV d (k / d.C) (k % d.C) (m.w k).at_).length:=by omega
      subst hie
      refine hnext (j - 1) _ (by omega) ⟨k+1,?_,by omega⟩
      rw [AX (by omega) (by omega),List.take_length]
      unfold pR
      rw [List.range_succ,List.flatMap_append,List.flatMap_singleton]
      simp
  · have hke:k=d.R*d.C:=by omega
    subst hke
    have hlen:=jS h m (d.R*d.C)
    refine oK cfC (fun x y Q hq=>AaS hq) AfA (by have:d.R*d.C*65536≤64*65536:=Nat.mul_le_mul_right _ hn; omega) hp (hz.imp fun {a b} hab=>(pQ a b).2 hab) hQ
theorem tL (h:aK d) (hr:Rep (d.ctx adr) m o0 o1 o2) (he:m.ended (d.ctx adr)=true) {Q:List AK→Prop} (hQ:Q (eH d)):EF o0 o1 Q:=
  AaT h hr (eH d) (AdG h he) (AdF h).inc hQ
theorem pS (h:aK d) (hr:Rep (d.ctx adr) m o0 o1 o2) (he:m.ended (d.ctx adr)=true) {Q:Rows×Int→Prop} (hQ:Q (VT d.r d.n d.q (eH d))):DZ o0 o1 Q:=by
  unfold DZ
  refine tL h hr he ?_
  rw [hr.p]
  exact pC h.r ⟨⟨h.cM.r0,h.cM.r1⟩,h.cM.c0,h.cM.c1⟩ (AdF h) hQ
end Go.Proofs.YtbohadngdkjljaaGreat
