import Derived.Test.YtbohadngdkjljaaGreatSumE
namespace Go.Proofs.YtbohadngdkjljaaGreat
open Go Go.Fw
set_option linter.unusedVariables false
set_option linter.unusedSimpArgs false
variable {c:VQ} {m:MS} {s:Abs} {N:Nat}
theorem vY (gl gr:Nat→Bool) (S:Nat):∀ (j a:Nat),a≤S→S≤a+j→a≤WL gl gr S j a∧WL gl gr S j a≤S∧¬(WL gl gr S j a<S∧gl (WL gl gr S j a)=true∧gr (WL gl gr S j a)=true)
  | 0,a,h1,h2=>by unfold WL; exact ⟨Nat.le_refl _,h1,fun h=>by omega⟩
  | j+1,a,h1,h2=>by
    unfold WL
    split
    · rename_i h
      have:=vY gl gr S j (a+1) (by omega) (by omega)
      exact ⟨by omega,this.2⟩
    · rename_i h; exact ⟨Nat.le_refl _,h1,h⟩
def Way (c:VQ) (m:MS) (kind:Int) (k s:Nat):Prop:=∃ f,f<c.n∧((∃ g∈(m.w f).out,g.Kind=kind∧g.To=(k:Int)∧g.Round=(s:Int))∨∃ i g,(m.bx f k).taken≤i∧(m.bx f k).fs[i]? = some g∧g.Kind=kind∧g.Round=(s:Int))
structure Live (c:VQ) (N:Nat) (m:MS):Prop where
  bx:∀ f t,f<c.n→t<c.n→BInv (m.bx f t)
  way:∀ k s,k<c.n→s<c.S.length→((m.w k).gl s=true∨Way c m 6 k s)∧((m.w k).gr s=true∨Way c m 7 k s)
  at_:∀ k,k<c.n→(m.w k).at_≤c.S.length∧¬((m.w k).at_<c.S.length∧(m.w k).gl (m.w k).at_=true∧(m.w k).gr (m.w k).at_=true)
  totN:PZ c m+OX c m=N
theorem Live.setB (h:Live c N m) {f t:Nat} {a:Abs} (hf:f<c.n) (ht:t<c.n) (hb:BInv a) (h1:a.fs=(m.bx f t).fs) (h2:a.taken=(m.bx f t).taken):Live c N (CJ m f t a):=by
  have hw:∀ {kind k s},Way c m kind k s→Way c (CJ m f t a) kind k s:=by
    rintro kind k s ⟨q,hq,hq' | ⟨i,g,g1,g2,g3⟩⟩
    · exact ⟨q,hq,.inl hq'⟩
    · refine ⟨q,hq,.inr ⟨i,g,?_,?_,g3⟩⟩ <;> (by_cases e:q=f∧k=t)
      · obtain ⟨rfl,rfl⟩:=e; simpa [CJ,h2] using g1
      · simpa [CJ,e] using g1
      · obtain ⟨rfl,rfl⟩:=e; simpa [CJ,h1] using g2
      · simpa [CJ,e] using g2
  refine ⟨fun i j hi hj=>?_,fun k s hk hs=>⟨(h.way k s hk hs).1.imp id hw,(h.way k s hk hs).2.imp id hw⟩,h.at_,?_⟩
  · by_cases e:i=f∧j=t
    · simpa [CJ,e] using hb
    · simpa [CJ,e] using h.bx i j hi hj
  · have:=aJ (c:=c) (m:=m) (a:=a) hf ht
    rw [h1] at this
    have:=h.totN
    rw [YU]; omega
theorem Live.doubled (h:Live c N m) {f t:Nat} (hf:f<c.n) (ht:t<c.n) (k:Int):Live c N (m.double f t k).2:=by
  refine h.setB hf ht ((h.bx f t hf ht).double k) ?_ ?_ <;> (unfold Abs.double; split <;> (try split) <;> rfl)
theorem Live.moved (h:Live c N m) {f t:Nat} (hf:f<c.n) (ht:t<c.n) (k:Int):Live c N (m.move f t k).2:=by
  refine h.setB hf ht ((h.bx f t hf ht).move k) ?_ ?_ <;> (unfold Abs.move; split <;> rfl)
theorem WN {k t:Nat} {f:BN} {r:List BN} (ho:(m.w k).out=f :: r) (hto:f.To=(t:Int)) (hnf:(m.bx k t).fullB=false) :
    m.send c k=(true,DP (CJ m k t { m.bx k t with row:=(m.bx k t).row++[(m.bx k t).fs.length],fs:=(m.bx k t).fs++[{ f with Seq:=(m.bx k t).fs.length }] }) k { m.w k with out:=r }):=by
  have e:f.To.toNat=t:=by omega
  unfold MS.send
  rw [ho]
  show (if ((m.bx k f.To.toNat).send f).1=0 then _ else _)=_
  rw [e,aI f hnf,if_pos rfl]
theorem AcI {k t:Nat} {f:BN} {r:List BN} (ho:(m.w k).out=f :: r) (hto:f.To=(t:Int)) (hnf:(m.bx k t).fullB=true):m.send c k=(false,m):=by
  have e:f.To.toNat=t:=by omega
  unfold MS.send
  rw [ho]
  show (if ((m.bx k f.To.toNat).send f).1=0 then _ else _)=_
  rw [e]
  unfold Abs.send
  rw [if_pos hnf]
  rfl
theorem AaV {k:Nat} (ho:(m.w k).out=[]):m.send c k=(false,m):=by unfold MS.send; rw [ho]
theorem WO (g:Good c m) {k:Nat} (hk:k<c.n):m.send c k=(false,m)∨∃ (t:Nat) (f:BN) (r:List BN),t<c.n∧(m.w k).out=f :: r∧f.To=(t:Int)∧(m.bx k t).fullB=false:=by
  cases ho:(m.w k).out with
  | nil=>exact .inl (AaV ho)
  | cons f r=>
    obtain ⟨t,s,ht,hs,hto,_⟩:=g.out k hk f (by rw [ho]; exact List.mem_cons_self)
    cases hf:(m.bx k t).fullB with
    | true=>exact .inl (AcI ho hto hf)
    | false=>exact .inr ⟨t,f,r,ht,rfl,hto,hf⟩
theorem Live.sent (h:Live c N m) (g:Good c m) {k:Nat} (hk:k<c.n):Live c N (m.send c k).2:=by
  rcases WO g hk with e | ⟨t,f,r,ht,ho,hto,hnf⟩
  · rw [e]; exact h
  · rw [WN ho hto hnf]
    have hb:=h.bx k t hk ht
    have hbs:=hb.send f
    rw [aI f hnf] at hbs
    have hw:∀ {kind q s},Way c m kind q s→Way c (DP (CJ m k t { m.bx k t with row:=(m.bx k t).row++[(m.bx k t).fs.length],fs:=(m.bx k t).fs++[{ f with Seq:=(m.bx k t).fs.length }] }) k { m.w k with out:=r }) kind q s:=by
      rintro kind q s ⟨w,hw,⟨x,hx,hx1,hx2,hx3⟩ | ⟨i,x,g1,g2,g3⟩⟩
      · by_cases e:w=k
        · subst e
          rw [ho] at hx
          rcases List.mem_cons.1 hx with e' | hx
          · subst e'
            have et:q=t:=by omega
            subst et
            refine ⟨w,hw,.inr ⟨(m.bx w q).fs.length,{ x with Seq:=(m.bx w q).fs.length },?_,?_,hx1,hx3⟩⟩
            · simpa [DP,CJ] using hb.tk
            · simp [DP,CJ]
          · exact ⟨w,hw,.inl ⟨x,by simpa [DP] using hx,hx1,hx2,hx3⟩⟩
        · exact ⟨w,hw,.inl ⟨x,by simpa [DP,e,CJ] using hx,hx1,hx2,hx3⟩⟩
      · refine ⟨w,hw,.inr ⟨i,x,?_,?_,g3⟩⟩ <;> (by_cases e:w=k∧q=t)
        · obtain ⟨rfl,rfl⟩:=e; simpa [DP,CJ] using g1
        · simpa [DP,CJ,e] using g1
        · obtain ⟨rfl,rfl⟩:=e
          have hlt:i<(m.bx w q).fs.length:=(List.getElem?_eq_some_iff.1 g2).1
          simp only [DP,CJ,and_self,if_true]
          rw [List.getElem?_append_left hlt]; exact g2
        · simpa [DP,CJ,e] using g2
    have hgl:∀ q,((DP (CJ m k t { m.bx k t with row:=(m.bx k t).row++[(m.bx k t).fs.length],fs:=(m.bx k t).fs++[{ f with Seq:=(m.bx k t).fs.length }] }) k { m.w k with out:=r }).w q).gl=(m.w q).gl∧((DP (CJ m k t { m.bx k t with row:=(m.bx k t).row++[(m.bx k t).fs.length],fs:=(m.bx k t).fs++[{ f with Seq:=(m.bx k t).fs.length }] }) k { m.w k with out:=r }).w q).gr=(m.w q).gr∧((DP (CJ m k t { m.bx k t with row:=(m.bx k t).row++[(m.bx k t).fs.length],fs:=(m.bx k t).fs++[{ f with Seq:=(m.bx k t).fs.length }] }) k { m.w k with out:=r }).w q).at_=(m.w q).at_:=by
      intro q
      by_cases e:q=k
      · subst e; simp [DP]
      · simp [DP,e,CJ]
    refine ⟨fun i j hi hj=>?_,fun q s hq hs=>?_,fun q hq=>?_,?_⟩
    · by_cases e:i=k∧j=t
      · obtain ⟨rfl,rfl⟩:=e; simpa [DP,CJ] using hbs
      · simpa [DP,CJ,e] using h.bx i j hi hj
    · rw [(hgl q).1,(hgl q).2.1]
      exact ⟨(h.way q s hq hs).1.imp id hw,(h.way q s hq hs).2.imp id hw⟩
    · rw [(hgl q).1,(hgl q).2.1,(hgl q).2.2]; exact h.at_ q hq
    · have h1:=aJ (c:=c) (m:=m) (a:={ m.bx k t with row:=(m.bx k t).row++[(m.bx k t).fs.length],fs:=(m.bx k t).fs++[{ f with Seq:=(m.bx k t).fs.length }] }) hk ht
      have h2:=eD (c:=c) (m:=CJ m k t { m.bx k t with row:=(m.bx k t).row++[(m.bx k t).fs.length],fs:=(m.bx k t).fs++[{ f with Seq:=(m.bx k t).fs.length }] }) (a:={ m.w k with out:=r }) hk
      rw [YU] at h2
      have e:((CJ m k t { m.bx k t with row:=(m.bx k t).row++[(m.bx k t).fs.length],fs:=(m.bx k t).fs++[{ f with Seq:=(m.bx k t).fs.length }] }).w k).out.length=r.length+1:=by show (m.w k).out.length=_; rw [ho]; rfl
      rw [e] at h2
      simp only [List.length_append,List.length_singleton] at h1
      have:=h.totN
      dsimp only at h1 h2 ⊢
      rw [iY]
      omega
theorem tS (s:Abs) (k:Int):(s.take k).2.2.2.taken=if (s.take k).2.1=true then s.taken+1 else s.taken:=by
  by_cases h0:s.at k≠0
  · simp [Abs.take,h0]
  · by_cases h1:s.taken<s.num k
    · simp [Abs.take,h0,h1]
    · by_cases h2:s.num k<s.taken <;> simp [Abs.take,h0,h1,h2]
theorem xN (h:BInv s) {k:Int} (ht:(s.take k).2.1=true):∃ hi:s.taken<s.fs.length,(s.take k).1=s.fs[s.taken]:=by
  unfold Abs.take at ht ⊢
  split at ht
  · cases ht
  · rename_i h0
    have h0':s.at k=0:=by simpa using h0
    obtain ⟨i,rfl,hi⟩:=QX h0'
    rw [QY hi] at ht ⊢
    rw [if_neg (by rw [h0']; simp)]
    have hlt:=h.lt _ (List.getElem_mem hi)
    split at ht
    · cases ht
    · split at ht
      · cases ht
      · rename_i h1 h2
        have e:s.row[i]=s.taken:=by omega
        rw [if_neg h1,if_neg h2]
        refine ⟨by omega,?_⟩
        simp [e,show s.taken<s.fs.length by omega]
theorem Live.handed (h:Live c N m) (g:Good c m) {f t:Nat} (hf:f<c.n) (ht:t<c.n) (k:Int):Live c N (m.hand c f t k).2:=by
  have hb:=h.bx f t hf ht
  have htk:=tS (m.bx f t) k
  have hfs:=vX (m.bx f t) k
  unfold MS.hand
  split
  · rename_i e
    rw [if_pos e] at htk
    obtain ⟨hi,hz⟩:=xN hb e
    obtain ⟨⟨t',s',ht',hs',hto,hro,hsm,hcn⟩,hto2⟩:=g.box f t hf ht _ (List.getElem_mem hi)
    rw [←hz] at hto hro hsm hcn hto2
    generalize hm2:(DP (CJ m f t ((m.bx f t).take k).2.2.2) t (WY c.S.length (WM (m.w t) ((m.bx f t).take k).1)))=m2
    have hw2:∀ q,q≠t→m2.w q=m.w q:=fun q hq=>by rw [←hm2]; simp [DP,hq,CJ]
    have hwt:m2.w t=WY c.S.length (WM (m.w t) ((m.bx f t).take k).1):=by rw [←hm2]; simp [DP]
    have hbx:∀ i j,¬(i=f∧j=t)→m2.bx i j=m.bx i j:=fun i j hij=>by rw [←hm2]; simp [DP,CJ,hij]
    have hbt:m2.bx f t=((m.bx f t).take k).2.2.2:=by rw [←hm2]; simp [DP,CJ]
    have hout:∀ q,(m2.w q).out=(m.w q).out:=fun q=>by
      by_cases e':q=t
      · subst e'; rw [hwt]; simp [WY,cL]
      · rw [hw2 q e']
    -- a way stays, or is what came
    have hw:∀ {kind q s},Way c m kind q s→Way c m2 kind q s∨(q=t∧((m.bx f t).take k).1.Kind=kind∧((m.bx f t).take k).1.Round=(s:Int)):=by
      rintro kind q s ⟨w,hw,⟨x,hx,hx'⟩ | ⟨i,x,g1,g2,g3,g4⟩⟩
      · exact .inl ⟨w,hw,.inl ⟨x,by rw [hout]; exact hx,hx'⟩⟩
      · by_cases e':w=f∧q=t
        · obtain ⟨rfl,rfl⟩:=e'
          by_cases ei:i=(m.bx w q).taken
          · subst ei
            have:x=((m.bx w q).take k).1:=by rw [hz]; have:=(List.getElem?_eq_some_iff.1 g2).2; exact this.symm
            subst this
            exact .inr ⟨rfl,g3,g4⟩
          · exact .inl ⟨w,hw,.inr ⟨i,x,by rw [hbt,htk]; omega,by rw [hbt,hfs.1]; exact g2,g3,g4⟩⟩
        · exact .inl ⟨w,hw,.inr ⟨i,x,by rw [hbx w q e']; exact g1,by rw [hbx w q e']; exact g2,g3,g4⟩⟩
    refine ⟨fun i j hi' hj=>?_,fun q s hq hs=>?_,fun q hq=>?_,?_⟩
    · by_cases e':i=f∧j=t
      · obtain ⟨rfl,rfl⟩:=e'; rw [hbt]; exact hb.take k
      · rw [hbx i j e']; exact h.bx i j hi' hj
    · obtain ⟨w1,w2⟩:=h.way q s hq hs
      by_cases e':q=t
      · subst e'
        constructor
        · rcases w1 with w1 | w1
          · left; rw [hwt]; unfold WY WM
            split
            · simp [w1]
            · exact w1
          · rcases hw w1 with w1 | ⟨_,w3,w4⟩
            · exact .inr w1
            · left; rw [hwt]; unfold WY WM; rw [if_pos w3]; simp [w4]
        · rcases w2 with w1 | w1
          · left; rw [hwt]; unfold WY WM
            split
            · exact w1
            · simp [w1]
          · rcases hw w1 with w1 | ⟨_,w3,w4⟩
            · exact .inr w1
            · left; rw [hwt]; unfold WY WM; rw [if_neg (by omega)]; simp [w4]
      · rw [hw2 q e']
        exact ⟨w1.imp id fun x=>(hw x).resolve_right fun x=>e' x.1,w2.imp id fun x=>(hw x).resolve_right fun x=>e' x.1⟩
    · by_cases e':q=t
      · subst e'
        rw [hwt]
        have hle:(WM (m.w q) ((m.bx f q).take k).1).at_≤c.S.length:=by
          have:=(h.at_ q hq).1
          unfold WM; split <;> exact this
        exact (vY _ _ _ _ _ hle (by omega)).2
      · rw [hw2 q e']; exact h.at_ q hq
    · have h1:=aJ (c:=c) (m:=m) (a:=((m.bx f t).take k).2.2.2) hf ht
      rw [hfs.1] at h1
      have h2:=eD (c:=c) (m:=CJ m f t ((m.bx f t).take k).2.2.2) (a:=WY c.S.length (WM (m.w t) ((m.bx f t).take k).1)) ht
      rw [YU] at h2
      have e2:(WY c.S.length (WM (m.w t) ((m.bx f t).take k).1)).out=(m.w t).out:=by simp [WY,cL]
      rw [e2] at h2
      have e3:((CJ m f t ((m.bx f t).take k).2.2.2).w t).out=(m.w t).out:=rfl
      rw [e3] at h2
      have:=h.totN
      rw [←hm2,iY]
      show PZ c (CJ m f t ((m.bx f t).take k).2.2.2)+OX c (DP (CJ m f t ((m.bx f t).take k).2.2.2) t (WY c.S.length (WM (m.w t) ((m.bx f t).take k).1)))=N
      omega
  · rename_i e
    rw [if_neg e] at htk
    exact h.setB hf ht (hb.take k) hfs.1 htk
variable {c:VQ} {m:MS} {s:Abs} {N:Nat}
def fB (c:VQ) (m:MS):Nat:=2*OX c m+HQ c m
theorem xO (m:MS) (f t:Nat):CJ m f t (m.bx f t)=m:=by
  unfold CJ
  congr 1
  funext i j
  split
  · rename_i hh; rw [hh.1,hh.2]
  · rfl
theorem Live.sends (h:Live c N m) (hc:dD c) (g:Good c m):∀ k,k≤c.n→Live c N (m.sends c k).2
  | 0,_=>h
  | k+1,hk=>(Live.sends h hc g k (by omega)).sent (g.sends hc k (by omega)) (by omega)
theorem Live.hands1 {x:Bool×MS} (h:Live c N x.2) (g:Good c x.2) {f:Nat} (hf:f<c.n):∀ k,k≤c.n→Live c N (hands1 c f x k).2
  | 0,_=>h
  | k+1,hk=>(Live.hands1 h g hf k (by omega)).handed (Good.hands1 g f k) hf (by omega) _
theorem Live.hands {x:Bool×MS} (h:Live c N x.2) (g:Good c x.2):∀ k,k≤c.n→Live c N (hands c x k).2
  | 0,_=>h
  | k+1,hk=>Live.hands1 (Live.hands h g k (by omega)) (Good.hands g k) (by omega) c.n (Nat.le_refl _)
theorem Live.window (h:Live c N m) (hc:dD c) (g:Good c m):Live c N (m.window c).2:=Live.hands (h.sends hc g c.n (Nat.le_refl _)) (g.sends hc c.n (Nat.le_refl _)) c.n (Nat.le_refl _)
theorem Live.acted (h:Live c N m) (hc:dD c) (g:Good c m) (x:FU):Live c N (m.act c x).2:=by
  unfold MS.act
  split
  · exact h
  · split
    · split
      · rename_i hi; exact h.sent g (by have:=hi.2; have:=hi.1; omega)
      · exact h
    · split
      · exact h.window hc g
      · split
        · rename_i hi
          have l1:x.A.toNat<c.n:=by have:=hi.1.2; have:=hi.1.1; omega
          have l2:x.B.toNat<c.n:=by have:=hi.2.2; have:=hi.2.1; omega
          split
          · exact h.handed g l1 l2 _
          · split
            · exact h.doubled l1 l2 _
            · exact h.moved l1 l2 _
        · exact h
theorem tT (m:MS) (f t:Nat):(m.old c f t).bx f t=((m.bx f t).take (m.bx f t).oldest).2.2.2∧(∀ i j,¬(i=f∧j=t)→(m.old c f t).bx i j=m.bx i j)∧∀ k,((m.old c f t).w k).out=(m.w k).out:=by
  unfold MS.old MS.hand
  split
  · refine ⟨by simp [DP,CJ],fun i j h=>by simp [DP,CJ,h],fun k=>?_⟩
    by_cases e:k=t
    · subst e; simp [DP,WY,cL,CJ]
    · simp [DP,e,CJ]
  · exact ⟨by simp [CJ],fun i j h=>by simp [CJ,h],fun k=>rfl⟩
theorem nV {f t:Nat} (h:BInv (m.bx f t)):((m.old c f t).bx f t).row.length=(m.bx f t).row.length - 1:=by
  rw [(tT m f t).1]
  by_cases e:(m.bx f t).row=[]
  · rw [(eH e _).1,e]; rfl
  · have:=h.old e; omega
theorem AaW {f t:Nat} (e:(m.bx f t).row=[]):m.old c f t=m:=by
  unfold MS.old MS.hand
  rw [if_neg (by rw [(eH e _).2]; simp),(eH e _).1,xO]
theorem AaX {f t:Nat} (hf:f<c.n) (ht:t<c.n) (h:BInv (m.bx f t)):HQ c (m.old c f t)+(m.bx f t).row.length=HQ c m+((m.bx f t).row.length - 1)∧OX c (m.old c f t)=OX c m:=by
  have ho:=tT (c:=c) m f t
  have hl:=nV (c:=c) h
  have h1:=iX (c:=c) (m:=m) (a:=((m.bx f t).take (m.bx f t).oldest).2.2.2) hf ht
  constructor
  · have e:HQ c (m.old c f t)=HQ c (CJ m f t ((m.bx f t).take (m.bx f t).oldest).2.2.2):=by
      unfold HQ
      refine CP fun i hi=>CP fun j hj=>?_
      by_cases e:i=f∧j=t
      · obtain ⟨rfl,rfl⟩:=e; rw [ho.1]; simp [CJ]
      · rw [ho.2.1 i j e]; simp [CJ,e]
    rw [ho.1] at hl
    omega
  · unfold OX
    exact CP fun i hi=>by rw [ho.2.2]
theorem lP {f:Nat} (hf:f<c.n) {x:Bool×MS} (h:Live c N x.2) (g:Good c x.2):∀ t,t≤c.n →
    (OX c (hands1 c f x t).2=OX c x.2∧HQ c (hands1 c f x t).2≤HQ c x.2)∧((hands1 c f x t).1=true→x.1=true∨HQ c (hands1 c f x t).2<HQ c x.2) ∧
    ((hands1 c f x t).1=false→x.1=false∧(hands1 c f x t).2=x.2∧∀ j,j<t→(x.2.bx f j).row=[])
  | 0,_=>⟨⟨rfl,Nat.le_refl _⟩,fun h=>.inl h,fun h=>⟨h,rfl,fun j hj=>by omega⟩⟩
  | t+1,ht=>by
    obtain ⟨⟨h1,h2⟩,h3,h4⟩:=lP hf h g t (by omega)
    have hl:=Live.hands1 h g hf t (by omega)
    have hb:=hl.bx f t hf (by omega)
    have hr:=AaX hf (show t<c.n by omega) hb
    have hlen:=nV (c:=c) hb
    unfold hands1
    refine ⟨⟨by rw [←h1]; exact hr.2,by show HQ c (MS.old c _ f t)≤_; omega⟩,fun hh=>?_,fun hh=>?_⟩
    · simp only [Bool.or_eq_true,decide_eq_true_eq] at hh
      show x.1=true∨HQ c (MS.old c _ f t)<_
      rcases hh with hh | hh
      · rcases h3 hh with h3 | h3
        · exact .inl h3
        · right; omega
      · right; omega
    · simp only [Bool.or_eq_false_iff,decide_eq_false_iff_not] at hh
      obtain ⟨a1,a2,a3⟩:=h4 hh.1
      have he:((hands1 c f x t).2.bx f t).row=[]:=by
        cases hq:((hands1 c f x t).2.bx f t).row with
        | nil=>rfl
        | cons y ys=>
          exfalso
          apply hh.2
          rw [hlen,hq]; simp
      refine ⟨a1,?_,fun j hj=>?_⟩
      · show MS.old c _ f t=_
        rw [AaW he]; exact a2
      · by_cases e:j=t
        · subst e; rw [←a2]; exact he
        · exact a3 j (by omega)
theorem qW {x:Bool×MS} (h:Live c N x.2) (g:Good c x.2):∀ f,f≤c.n →
    (OX c (hands c x f).2=OX c x.2∧HQ c (hands c x f).2≤HQ c x.2)∧((hands c x f).1=true→x.1=true∨HQ c (hands c x f).2<HQ c x.2) ∧
    ((hands c x f).1=false→x.1=false∧(hands c x f).2=x.2∧∀ i,i<f→∀ j,j<c.n→(x.2.bx i j).row=[])
  | 0,_=>⟨⟨rfl,Nat.le_refl _⟩,fun h=>.inl h,fun h=>⟨h,rfl,fun j hj=>by omega⟩⟩
  | f+1,hf=>by
    obtain ⟨⟨h1,h2⟩,h3,h4⟩:=qW h g f (by omega)
    obtain ⟨⟨k1,k2⟩,k3,k4⟩:=lP (show f<c.n by omega) (Live.hands h g f (by omega)) (Good.hands g f) c.n (Nat.le_refl _)
    unfold hands
    refine ⟨⟨by omega,by omega⟩,fun hh=>?_,fun hh=>?_⟩
    · rcases k3 hh with hh | hh
      · rcases h3 hh with h3 | h3
        · exact .inl h3
        · right; omega
      · right; omega
    · obtain ⟨a1,a2,a3⟩:=k4 hh
      obtain ⟨b1,b2,b3⟩:=h4 a1
      refine ⟨b1,a2.trans b2,fun i hi j hj=>?_⟩
      by_cases e:i=f
      · subst e; rw [←b2]; exact a3 j hj
      · exact b3 i (by omega) j hj
theorem AaY (g:Good c m) {k:Nat} (hk:k<c.n):m.send c k=(false,m)∨((m.send c k).1=true∧fB c (m.send c k).2<fB c m):=by
  rcases WO g hk with e | ⟨t,f,r,ht,ho,hto,hnf⟩
  · exact .inl e
  · right
    rw [WN ho hto hnf]
    refine ⟨rfl,?_⟩
    have h1:=iX (c:=c) (m:=m) (a:={ m.bx k t with row:=(m.bx k t).row++[(m.bx k t).fs.length],fs:=(m.bx k t).fs++[{ f with Seq:=(m.bx k t).fs.length }] }) hk ht
    have h2:=eD (c:=c) (m:=CJ m k t { m.bx k t with row:=(m.bx k t).row++[(m.bx k t).fs.length],fs:=(m.bx k t).fs++[{ f with Seq:=(m.bx k t).fs.length }] }) (a:={ m.w k with out:=r }) hk
    rw [YU] at h2
    have e:((CJ m k t { m.bx k t with row:=(m.bx k t).row++[(m.bx k t).fs.length],fs:=(m.bx k t).fs++[{ f with Seq:=(m.bx k t).fs.length }] }).w k).out.length=r.length+1:=by show (m.w k).out.length=_; rw [ho]; rfl
    rw [e] at h2
    simp only [List.length_append,List.length_singleton] at h1
    dsimp only at h1 h2 ⊢
    unfold fB
    rw [tR]
    omega
theorem qX (hc:dD c) (g:Good c m):∀ k,k≤c.n→(fB c (m.sends c k).2≤fB c m∧((m.sends c k).1=true→fB c (m.sends c k).2<fB c m))∧((m.sends c k).1=false→(m.sends c k).2=m∧∀ j,j<k→m.send c j=(false,m))
  | 0,_=>⟨⟨Nat.le_refl _,fun h=>by cases h⟩,fun _=>⟨rfl,fun j hj=>by omega⟩⟩
  | k+1,hk=>by
    obtain ⟨⟨h1,h2⟩,h3⟩:=qX hc g k (by omega)
    unfold MS.sends
    rcases AaY (g.sends hc k (by omega)) (show k<c.n by omega) with e | ⟨e1,e2⟩
    · rw [e]
      refine ⟨⟨h1,fun hh=>h2 (by simpa using hh)⟩,fun hh=>?_⟩
      obtain ⟨a1,a2⟩:=h3 (by simpa using hh)
      refine ⟨a1,fun j hj=>?_⟩
      by_cases ej:j=k
      · subst ej; rw [a1] at e; exact e
      · exact a2 j (by omega)
    · rw [e1]
      exact ⟨⟨by dsimp only; omega,fun _=>by dsimp only; omega⟩,fun hh=>by simp at hh⟩
theorem tU (hc:dD c) (h:Live c N m) (g:Good c m):fB c (m.window c).2≤fB c m∧((m.window c).1=true→fB c (m.window c).2<fB c m)∧((m.window c).1=false→fB c m=0):=by
  obtain ⟨⟨s1,s2⟩,s3⟩:=qX hc g c.n (Nat.le_refl _)
  obtain ⟨⟨h1,h2⟩,h3,h4⟩:=qW (h.sends hc g c.n (Nat.le_refl _)) (g.sends hc c.n (Nat.le_refl _)) c.n (Nat.le_refl _)
  unfold MS.window
  have e:fB c (hands c (m.sends c c.n) c.n).2≤fB c (m.sends c c.n).2:=by unfold fB; omega
  refine ⟨by omega,fun hh=>?_,fun hh=>?_⟩
  · rcases h3 hh with h3 | h3
    · have:=s2 h3; omega
    · unfold fB at *; omega
  · obtain ⟨a1,a2,a3⟩:=h4 hh
    obtain ⟨b1,b2⟩:=s3 a1
    rw [b1] at a3
    have hr:HQ c m=0:=by
      unfold HQ
      have:LD (fun f=>LD (fun t=>(m.bx f t).row.length) c.n) c.n=LD (fun _=>0) c.n:=CP fun i hi=>by
        have:LD (fun t=>(m.bx i t).row.length) c.n=LD (fun _=>0) c.n:=CP fun j hj=>by rw [a3 i hi j hj]; rfl
        rw [this,EG]; simp
      rw [this,EG]; simp
    have ho:OX c m=0:=by
      unfold OX
      have:LD (fun k=>(m.w k).out.length) c.n=LD (fun _=>0) c.n:=CP fun k hk=>by
        rcases WO g hk with e | ⟨t,f,r,ht,ho,hto,hnf⟩
        · cases hq:(m.w k).out with
          | nil=>rfl
          | cons f r=>
            exfalso
            obtain ⟨t,s,ht,hs,hto,_⟩:=g.out k hk f (by rw [hq]; exact List.mem_cons_self)
            have hnf:(m.bx k t).fullB=false:=by
              unfold Abs.fullB
              rw [a3 k hk t ht,(g.room k t hk ht).1]
              have:=hc.r1
              simp; omega
            have:=WN (c:=c) hq hto hnf
            rw [e] at this
            simp at this
        · have:=WN (c:=c) ho hto hnf
          rw [b2 k hk] at this
          simp at this
      rw [this,EG]; simp
    unfold fB; omega
theorem qY (h:Live c N m) (h0:fB c m=0):∀ k,k<c.n→(m.w k).at_=c.S.length:=by
  have ho:OX c m=0:=by unfold fB at h0; omega
  have hr:HQ c m=0:=by unfold fB at h0; omega
  have noway:∀ {kind k s},k<c.n→¬Way c m kind k s:=by
    rintro kind k s hk ⟨f,hf,⟨g,hg,_⟩ | ⟨i,g,h1,h2,_⟩⟩
    · have:=cO ho f hf
      rw [List.length_eq_zero_iff.1 this] at hg
      exact absurd hg (List.not_mem_nil)
    · have:=cO (cO hr f hf) k hk
      have e:=List.length_eq_zero_iff.1 this
      have hlt:i<(m.bx f k).fs.length:=(List.getElem?_eq_some_iff.1 h2).1
      have:=(h.bx f k hf hk).pend i h1 hlt
      rw [e] at this
      exact absurd this (List.not_mem_nil)
  intro k hk
  have ha:=h.at_ k hk
  rcases Nat.lt_or_ge (m.w k).at_ c.S.length with hlt | hge
  · obtain ⟨w1,w2⟩:=h.way k _ hk hlt
    exact absurd ⟨hlt,w1.resolve_right (noway hk),w2.resolve_right (noway hk)⟩ ha.2
  · omega
variable {c:VQ} {m:MS} {s:Abs} {N:Nat} {o0:AB} {o1 o1x:List (Nat×AA)} {o2:List (Nat×AF)}
def MS.ended (c:VQ) (m:MS):Bool:=(List.range c.n).all fun k=>decide ((m.w k).at_=c.S.length)
theorem VG:m.ended c=true↔∀ k,k<c.n→(m.w k).at_=c.S.length:=by simp [MS.ended,List.all_eq_true]
def nW (c:VQ):Nat→MS→MS
  | 0,m=>m
  | j+1,m=>if m.ended c=true then m else nW c j (m.window c).2
theorem iZ (hc:dD c) (g:Good c m) (h0:∀ i j,i<c.n→j<c.n→(m.bx i j).row=[]):∀ k,k≤c.n →
    (∀ j,((m.sends c k).2.w j).out=if j<k then (m.w j).out.tail else (m.w j).out)∧(∀ i j,k≤i→(m.sends c k).2.bx i j=m.bx i j)∧∀ i j,i<c.n→j<c.n→((m.sends c k).2.bx i j).row.length≤1
  | 0,_=>⟨fun j=>by simp [MS.sends],fun _ _ _=>rfl,fun i j hi hj=>by simp [MS.sends,h0 i j hi hj]⟩
  | k+1,hk=>by
    obtain ⟨h1,h2,h3⟩:=iZ hc g h0 k (by omega)
    have gk:=g.sends hc k (by omega)
    unfold MS.sends
    generalize hx:(m.sends c k).2=x at h1 h2 h3 gk
    have hkk:=h1 k
    rw [if_neg (by omega)] at hkk
    rcases WO gk (show k<c.n by omega) with e | ⟨t,f,r,ht,ho,hto,hnf⟩
    · have hnil:(x.w k).out=[]:=by
        cases hq:(x.w k).out with
        | nil=>rfl
        | cons f r=>
          exfalso
          obtain ⟨t,s,ht,hs,hto,_⟩:=gk.out k (by omega) f (by rw [hq]; exact List.mem_cons_self)
          have hnf:(x.bx k t).fullB=false:=by
            unfold Abs.fullB
            rw [(gk.room k t (by omega) ht).1,h2 k t (Nat.le_refl _),h0 k t (by omega) ht]
            have:=hc.r1
            simp; omega
          have:=WN (c:=c) hq hto hnf
          rw [e] at this
          simp at this
      rw [e]
      refine ⟨fun j=>?_,fun i j hi=>h2 i j (by omega),h3⟩
      show (x.w j).out=_
      rw [h1 j]
      by_cases ej:j=k
      · subst ej
        rw [hkk] at hnil
        simp [hnil]
      · by_cases el:j<k
        · rw [if_pos el,if_pos (by omega)]
        · rw [if_neg el,if_neg (by omega)]
    · rw [WN ho hto hnf]
      refine ⟨fun j=>?_,fun i j hi=>?_,fun i j hi hj=>?_⟩
      · by_cases ej:j=k
        · subst ej
          rw [ho] at hkk
          rw [if_pos (by omega),←hkk]
          simp [DP]
        · have:=h1 j
          simp only [DP,if_neg ej,CJ]
          rw [this]
          by_cases el:j<k
          · rw [if_pos el,if_pos (by omega)]
          · rw [if_neg el,if_neg (by omega)]
      · have ei:¬(i=k∧j=t):=by omega
        simp only [DP,CJ,if_neg ei]
        exact h2 i j (by omega)
      · by_cases e:i=k∧j=t
        · obtain ⟨rfl,rfl⟩:=e
          simp only [DP,CJ,and_self,if_true,List.length_append,List.length_singleton]
          rw [h2 i j (Nat.le_refl _),h0 i j hi hj]; simp
        · simp only [DP,CJ,if_neg e]
          exact h3 i j hi hj
theorem fC {f:Nat} (hf:f<c.n) {x:Bool×MS} (h:Live c N x.2) (g:Good c x.2):∀ t,t≤c.n →
    (∀ k,((hands1 c f x t).2.w k).out=(x.2.w k).out)∧(∀ i j,¬(i=f∧j<t)→(hands1 c f x t).2.bx i j=x.2.bx i j)∧∀ j,j<t→((hands1 c f x t).2.bx f j).row.length=(x.2.bx f j).row.length - 1
  | 0,_=>⟨fun _=>rfl,fun _ _ _=>rfl,fun j hj=>by omega⟩
  | t+1,ht=>by
    obtain ⟨h1,h2,h3⟩:=fC hf h g t (by omega)
    have hl:=Live.hands1 h g hf t (by omega)
    have ho:=tT (c:=c) (hands1 c f x t).2 f t
    have hlen:=nV (c:=c) (hl.bx f t hf (by omega))
    unfold hands1
    refine ⟨fun k=>(ho.2.2 k).trans (h1 k),fun i j hij=>?_,fun j hj=>?_⟩
    · show (MS.old c _ f t).bx i j=_
      rw [ho.2.1 i j (by omega)]
      exact h2 i j (by omega)
    · show ((MS.old c _ f t).bx f j).row.length=_
      by_cases e:j=t
      · subst e
        rw [hlen,h2 f j (by omega)]
      · rw [ho.2.1 f j (by omega)]
        exact h3 j (by omega)
theorem jA {x:Bool×MS} (h:Live c N x.2) (g:Good c x.2):∀ f,f≤c.n →
    (∀ k,((hands c x f).2.w k).out=(x.2.w k).out)∧(∀ i j,f≤i→(hands c x f).2.bx i j=x.2.bx i j)∧∀ i j,i<f→j<c.n→((hands c x f).2.bx i j).row.length=(x.2.bx i j).row.length - 1
  | 0,_=>⟨fun _=>rfl,fun _ _ _=>rfl,fun i j hi=>by omega⟩
  | f+1,hf=>by
    obtain ⟨h1,h2,h3⟩:=jA h g f (by omega)
    obtain ⟨k1,k2,k3⟩:=fC (show f<c.n by omega) (Live.hands h g f (by omega)) (Good.hands g f) c.n (Nat.le_refl _)
    unfold hands
    refine ⟨fun k=>(k1 k).trans (h1 k),fun i j hi=>?_,fun i j hi hj=>?_⟩
    · rw [k2 i j (by omega)]; exact h2 i j (by omega)
    · by_cases e:i=f
      · subst e
        rw [k3 j hj,h2 i j (Nat.le_refl _)]
      · rw [k2 i j (by omega)]; exact h3 i j (by omega) hj
theorem qZ (hc:dD c) (h:Live c N m) (g:Good c m) (h0:∀ i j,i<c.n→j<c.n→(m.bx i j).row=[]) :
    (∀ k,k<c.n→((m.window c).2.w k).out=(m.w k).out.tail)∧∀ i j,i<c.n→j<c.n→((m.window c).2.bx i j).row=[]:=by
  obtain ⟨s1,s2,s3⟩:=iZ hc g h0 c.n (Nat.le_refl _)
  obtain ⟨h1,h2,h3⟩:=jA (h.sends hc g c.n (Nat.le_refl _)) (g.sends hc c.n (Nat.le_refl _)) c.n (Nat.le_refl _)
  unfold MS.window
  refine ⟨fun k hk=>?_,fun i j hi hj=>?_⟩
  · rw [h1 k,s1 k,if_pos hk]
  · have e1:=h3 i j hi hj
    have e2:=s3 i j hi hj
    exact List.length_eq_zero_iff.1 (by omega)
theorem lQ (hc:dD c):∀ (j:Nat) {m:MS},Live c N m→Good c m→(∀ a b,a<c.n→b<c.n→(m.bx a b).row=[])→(∀ k,k<c.n→(m.w k).out.length≤j)→(nW c j m).ended c=true
  | 0,m,h,g,h0,hp=>by
    show m.ended c=true
    exact VG.2 (qY h (by
      have ho:OX c m=0:=by
        unfold OX
        rw [CP (g:=fun _=>0) fun i hi=>by have:=hp i hi; omega,EG]; simp
      have hr:HQ c m=0:=by
        unfold HQ
        rw [CP (g:=fun _=>0) fun i hi=>by rw [CP (g:=fun _=>0) fun j hj=>by rw [h0 i j hi hj]; rfl,EG]; simp,EG]; simp
      unfold fB; omega))
  | j+1,m,h,g,h0,hp=>by
    unfold nW
    split
    · assumption
    · obtain ⟨w1,w2⟩:=qZ hc h g h0
      refine lQ hc j (h.window hc g) (g.window hc) w2 fun k hk=>?_
      have:=hp k hk
      rw [w1 k hk,List.length_tail]; omega
theorem Y2 (hc:dD c) (h:Rep c m o0 o1 o2) {Q:Bool→Prop} (hQ:Q (m.ended c)):CB o0 o1 Q:=by
  have hn:=hc.n
  unfold CB CM CO
  refine EO c.n (by omega) (fun i=>∀ k,k<i→(m.w k).at_=c.S.length) (fun k hk=>by omega) (fun i next hi hR hnext=>?_) (fun next hR=>?_)
  · show AR (decide ((i:Int)<(o0.workers.length:Int))) _ _
    rw [h.len]
    refine BM (by simp; omega) (AO (by omega) (h.get hi) ?_)
    obtain ⟨x,hx,hw⟩:=h.wk i hi
    unfold GL
    refine KM hx ?_
    rw [hw.at_,h.S]
    have:=hw.le
    refine AD (fun hlt=>?_) (fun hge=>?_)
    · have e:m.ended c=false:=by
        cases hE:m.ended c with
        | false=>rfl
        | true=>have:=VG.1 hE i hi; omega
      rw [e] at hQ
      have:decide (0≤(i:Int))=true:=by simp
      show Q (!decide (0≤(i:Int)))
      rw [this]; exact hQ
    · exact hnext fun k hk=>by
        by_cases ek:k=i
        · subst ek; omega
        · exact hR k (by omega)
  · show AR (decide ((c.n:Int)<(o0.workers.length:Int))) _ _
    rw [h.len]
    refine AV (by simp) ?_
    have e:m.ended c=true:=VG.2 hR
    rw [e] at hQ
    exact hQ
theorem AaZ (h:Rep c m o0 o1 o2) {k:Nat} (hk:k<c.n) {Q:Int→Prop} (hQ:Q ((m.w k).at_:Int)):FM o0 o1 k Q:=by
  unfold FM
  refine dY h (AV (by simp; omega) (AO (by omega) (h.get hk) ?_))
  obtain ⟨x,hx,hw⟩:=h.wk k hk
  refine KM hx ?_
  rw [hw.at_]; exact hQ
theorem AcJ (hc:dD c) (h:Rep c m o0 o1 o2) {f t:Nat} (hf:f<c.n) (ht:t<c.n) {Q:(Int×AB×List (Nat×AF))→Prop}
    (hQ:∀ o0' o2',Rep c m o0' o1 o2'→Ext o0 o0'→Q (((m.bx f t).row.length:Int),o0',o2')):GK o0 o1x o2 f t Q:=by
  unfold GK
  refine iW hc h hf ht fun b pb o0' o2' h' hext hkey hb hi=>?_
  unfold EX
  rw [MW,TU hb]
  exact tM hi (hQ _ _ h' hext)
structure Data where
  r:Int
  n:Int
  k:Int
  q:Int
  A:List AC
  B:List AC
  M:List AC
  R:Nat
  C:Nat
  room:Nat
  S:List AY
def Data.p (d:Data):BD:={ Ring:=d.r,A:=AZ d.n d.k d.A,B:=AZ d.k d.q d.B,Mask:=AZ d.n d.q d.M,R:=(d.R:Int),C:=(d.C:Int),Room:=(d.room:Int) }
def CV (S:List AY):Nat→Int
  | 0=>0
  | s+1=>(S.getD s default).To
structure Ab0 (d:Data):Prop where
  len:d.S.length+1≤d.R+d.C
  row:∀ s (h:s<d.S.length),0≤d.S[s].Row∧d.S[s].Row<d.R
  col:∀ s (h:s<d.S.length),0≤d.S[s].Col∧d.S[s].Col<d.C
  lo:∀ s (h:s<d.S.length),d.S[s].From=CV d.S s∧d.S[s].From≤d.S[s].To∧d.S[s].To≤d.k
  top:CV d.S d.S.length=d.k
structure Z2 (d:Data):Prop where
  r:1≤d.r∧d.r≤5
  cA:Canon d.n d.k d.A
  cB:Canon d.k d.q d.B
  cM:Canon d.n d.q d.M
  vA:∀ t∈d.A,HJ t.Val
  vB:∀ t∈d.B,HJ t.Val
  vM:∀ t∈d.M,HJ t.Val
  R:1≤d.R∧d.R≤8
  C:1≤d.C∧d.C≤8
  room:1≤d.room∧d.room≤64
  seg:Ab0 d
variable {d:Data}
def Data.rl (d:Data) (i:Nat):Int:=CT d.n d.R i
def Data.cl (d:Data) (j:Nat):Int:=CT d.q d.C j
theorem rA (h:Z2 d) (i:Nat):0≤d.rl i∧d.rl i≤d.rl (i+1)∧d.rl (i+1)≤d.n:=⟨lI.1,XZ (by omega),lI.2 h.cA.r0⟩
theorem rB (h:Z2 d) (j:Nat):0≤d.cl j∧d.cl j≤d.cl (j+1)∧d.cl (j+1)≤d.q:=⟨lI.1,XZ (by omega),lI.2 h.cB.c0⟩
theorem nX (h:Z2 d):∀ s,s≤d.S.length→0≤CV d.S s∧CV d.S s≤d.k
  | 0,_=>⟨Int.le_refl _,h.cA.c0⟩
  | s+1,hs=>by
    have h1:=nX h s (by omega)
    have h2:=h.seg.lo s (by omega)
    have e:CV d.S (s+1)=d.S[s].To:=by
      show (d.S.getD s default).To=_
      simp [List.getD_eq_getElem?_getD,show s<d.S.length by omega]
    rw [e]; omega
theorem jB {s:Nat} (hs:s<d.S.length):CV d.S (s+1)=d.S[s].To:=by
  show (d.S.getD s default).To=_
  simp [List.getD_eq_getElem?_getD,hs]
def fR (d:Data) (i:Nat) (a b:Int):List AC:=LM (d.rl i) (d.rl (i+1)) a b d.A
def jC (d:Data) (j:Nat) (a b:Int):List AC:=LM a b (d.cl j) (d.cl (j+1)) d.B
def yC (d:Data) (i j:Nat):List AC:=LM (d.rl i) (d.rl (i+1)) (d.cl j) (d.cl (j+1)) d.M
def TE (d:Data) (i j:Nat) (t:Nat):List AK:=GO d.r (fR d i 0 (CV d.S t)) (jC d j 0 (CV d.S t)) (yC d i j)
def Data.ctx (d:Data) (adr:Nat→Nat):VQ where
  p:=d.p
  S:=d.S
  n:=d.R*d.C
  adr:=adr
  wi:=fun k=>((k / d.C:Nat):Int)
  wj:=fun k=>((k % d.C:Nat):Int)
  mask:=fun k=>AZ (d.rl (k / d.C+1) - d.rl (k / d.C)) (d.cl (k % d.C+1) - d.cl (k % d.C)) (yC d (k / d.C) (k % d.C))
  room:=d.room
  LA:=fun k s=>fR d (k / d.C) (CV d.S s) (CV d.S (s+1))
  RB:=fun k s=>jC d (k % d.C) (CV d.S s) (CV d.S (s+1))
  has:=fun k t=>TE d (k / d.C) (k % d.C) t
theorem xP (h:Z2 d) (i j:Nat) {a b:Int} (h0:0≤a) (h1:a≤b) (h2:b≤d.k) (k:IC) :
    GG d.r k (GO d.r (fR d i 0 b) (jC d j 0 b) (yC d i j))=fO d.r (GG d.r k (GO d.r (fR d i 0 a) (jC d j 0 a) (yC d i j))) (GG d.r k (GO d.r (fR d i a b) (jC d j a b) (yC d i j))):=by
  have hr:=rA h i
  have hc:=rB h j
  obtain ⟨_,cA0,lA0⟩:=GA h.cA (l:=d.rl i) (u:=d.rl (i+1)) (c:=0) (d:=b) hr.1 hr.2.1 hr.2.2 (by omega) (by omega) h2
  obtain ⟨_,cA1,lA1⟩:=GA h.cA (l:=d.rl i) (u:=d.rl (i+1)) (c:=0) (d:=a) hr.1 hr.2.1 hr.2.2 (by omega) h0 (by omega)
  obtain ⟨_,cA2,lA2⟩:=GA h.cA (l:=d.rl i) (u:=d.rl (i+1)) (c:=a) (d:=b) hr.1 hr.2.1 hr.2.2 h0 h1 h2
  obtain ⟨_,cB0,lB0⟩:=GA h.cB (l:=0) (u:=b) (c:=d.cl j) (d:=d.cl (j+1)) (by omega) (by omega) h2 hc.1 hc.2.1 hc.2.2
  obtain ⟨_,cB1,lB1⟩:=GA h.cB (l:=0) (u:=a) (c:=d.cl j) (d:=d.cl (j+1)) (by omega) h0 (by omega) hc.1 hc.2.1 hc.2.2
  obtain ⟨_,cB2,lB2⟩:=GA h.cB (l:=a) (u:=b) (c:=d.cl j) (d:=d.cl (j+1)) h0 h1 h2 hc.1 hc.2.1 hc.2.2
  obtain ⟨_,cM0,_⟩:=GA h.cM (l:=d.rl i) (u:=d.rl (i+1)) (c:=d.cl j) (d:=d.cl (j+1)) hr.1 hr.2.1 hr.2.2 hc.1 hc.2.1 hc.2.2
  simp only [Int.sub_zero,Int.add_zero] at cA0 lA0 cA1 lA1 cB0 lB0 cB1 lB1
  refine lH cM0.srt fun t ht=>?_
  have hin:=cM0.inn t ht
  unfold UM at hin
  unfold fR jC
  rw [VE cA0 hin.1,VE cA1 hin.1,VE cA2 hin.1,show b.toNat=a.toNat+(b - a).toNat by omega,qA]
  congr 1
  · refine aF (fun x hx=>?_) (fun x hx=>?_)
    · rw [lA0 _ _ hin.1 hin.2.1 (by omega) (by omega),lA1 _ _ hin.1 hin.2.1 (by omega) (by omega)]
    · unfold jZ
      rw [lB0 _ _ (by omega) (by omega) hin.2.2.1 hin.2.2.2,lB1 _ _ (by omega) (by omega) hin.2.2.1 hin.2.2.2]
  · refine aF (fun x hx=>?_) (fun x hx=>?_)
    · rw [Int.toNat_of_nonneg h0,lA0 _ _ hin.1 hin.2.1 (by omega) (by omega),lA2 _ _ hin.1 hin.2.1 (by omega) (by omega)]
    · unfold jZ
      rw [Int.toNat_of_nonneg h0,lB0 _ _ (by omega) (by omega) hin.2.2.1 hin.2.2.2,lB2 _ _ (by omega) (by omega) hin.2.2.1 hin.2.2.2]
theorem Ab1 (h:Z2 d) (adr:Nat→Nat):Rk (d.ctx adr):=by
  intro w s hs hw Q hQ
  have hs':s<d.S.length:=hs
  have hr:=rA h (w / d.C)
  have hc:=rB h (w % d.C)
  have hl:=h.seg.lo s hs'
  have hb:=nX h s (by omega)
  have he:=jB (d:=d) hs'
  obtain ⟨_,cA2,_⟩:=GA h.cA (l:=d.rl (w / d.C)) (u:=d.rl (w / d.C+1)) (c:=CV d.S s) (d:=CV d.S (s+1)) hr.1 hr.2.1 hr.2.2 hb.1 (by omega) (by omega)
  obtain ⟨_,cB2,_⟩:=GA h.cB (l:=CV d.S s) (u:=CV d.S (s+1)) (c:=d.cl (w % d.C)) (d:=d.cl (w % d.C+1)) hb.1 (by omega) (by omega) hc.1 hc.2.1 hc.2.2
  obtain ⟨_,cM0,_⟩:=GA h.cM (l:=d.rl (w / d.C)) (u:=d.rl (w / d.C+1)) (c:=d.cl (w % d.C)) (d:=d.cl (w % d.C+1)) hr.1 hr.2.1 hr.2.2 hc.1 hc.2.1 hc.2.2
  have hk:=h.cA.c1
  have e1:AJ (d.S[s].To - d.S[s].From)=CV d.S (s+1) - CV d.S s:=by rw [AX (by omega) (by omega)]; omega
  show SF d.r (d.rl (w / d.C+1) - d.rl (w / d.C)) (AJ (d.S[s].To - d.S[s].From)) (fR d (w / d.C) (CV d.S s) (CV d.S (s+1))) _
  have vA2:=qL (l:=d.rl (w / d.C)) (u:=d.rl (w / d.C+1)) (c:=CV d.S s) (d:=CV d.S (s+1)) h.vA
  have vB2:=qL (l:=CV d.S s) (u:=CV d.S (s+1)) (c:=d.cl (w % d.C)) (d:=d.cl (w % d.C+1)) h.vB
  rw [e1]
  refine zK (by have:=cA2.len; unfold fR; omega) vA2 ?_
  show SF d.r (AJ (d.S[s].To - d.S[s].From)) (d.cl (w % d.C+1) - d.cl (w % d.C)) (jC d (w % d.C) (CV d.S s) (CV d.S (s+1))) _
  rw [e1]
  refine zK (by have:=cB2.len; unfold jC; omega) vB2 ?_
  unfold fR jC
  rw [gG cA2 vA2 h.r,gG cB2 vB2 h.r]
  refine kA cA2 cB2 cM0 vA2 vB2 ?_
  have hrr:=h.r
  unfold aG
  rw [if_neg (by show ¬ ¬(1≤d.r∧d.r≤5); omega),if_neg (by omega)]
  show OM d.r [TE d (w / d.C) (w % d.C) s,GO d.r (fR d (w / d.C) (CV d.S s) (CV d.S (s+1))) (jC d (w % d.C) (CV d.S s) (CV d.S (s+1))) (yC d (w / d.C) (w % d.C))] _
  obtain ⟨s0,o0,z0⟩:=dW (r:=d.r) (A:=fR d (w / d.C) 0 (CV d.S (s+1))) (B:=jC d (w % d.C) 0 (CV d.S (s+1))) cM0
  obtain ⟨s1,o1,z1⟩:=dW (r:=d.r) (A:=fR d (w / d.C) 0 (CV d.S s)) (B:=jC d (w % d.C) 0 (CV d.S s)) cM0
  obtain ⟨s2,o2,z2⟩:=dW (r:=d.r) (A:=fR d (w / d.C) (CV d.S s) (CV d.S (s+1))) (B:=jC d (w % d.C) (CV d.S s) (CV d.S (s+1))) cM0
  have efl:∀ (x y:List AK),([x,y]:List (List AK)).flatten=x++y:=fun x y=>by simp
  refine kD (by simp) (by rw [efl,List.length_append]; unfold TE yC; omega) (by rw [efl]; exact fun c hc=>(List.mem_append.1 hc).elim (o1 c) (o2 c)) (fun h'=>absurd hrr h') (fun _ h'=>absurd (fun l hl=>?_) h') (fun _ _ x hs ho hsl he'=>?_)
  · simp only [List.mem_cons,List.not_mem_nil,or_false] at hl
    rcases hl with rfl | rfl
    · exact s1
    · exact s2
  · have hall:x=TE d (w / d.C) (w % d.C) (s+1):=AaJ (r:=d.r) hs s0 fun key=>by
      rw [he',efl]
      exact (OW o1 o2).trans (xP h (w / d.C) (w % d.C) hb.1 (by omega) (by omega) key).symm
    subst hall
    exact hQ
end Go.Proofs.YtbohadngdkjljaaGreat
