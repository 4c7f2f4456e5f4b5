import Derived.Test.YtbohadngdkjljaaGreatSumE
namespace Go.Proofs.YtbohadngdkjljaaGreat
open Go Go.Fw
set_option linter.unusedVariables false
set_option linter.unusedSimpArgs false
variable {c:WK} {m:MS} {s:Abs} {N:Nat}
theorem yR (gl gr:Nat→Bool) (S:Nat):∀ (j a:Nat),a≤S→S≤a+j→a≤WL gl gr S j a∧WL gl gr S j a≤S∧¬(WL gl gr S j a<S∧gl (WL gl gr S j a)=true∧gr (WL gl gr S j a)=true)
  | 0,a,h1,h2=>by unfold WL; exact ⟨Nat.le_refl _,h1,fun h=>by omega⟩
  | j+1,a,h1,h2=>by
    unfold WL
    split
    · rename_i h
      have:=yR gl gr S j (a+1) (by omega) (by omega)
      exact ⟨by omega,this.2⟩
    · rename_i h; exact ⟨Nat.le_refl _,h1,h⟩
def Way (c:WK) (m:MS) (kind:Int) (k s:Nat):Prop:=∃ f,f<c.n∧((∃ g∈(m.w f).out,g.Kind=kind∧g.To=(k:Int)∧g.Round=(s:Int))∨∃ i g,(m.bx f k).taken≤i∧(m.bx f k).fs[i]? = some g∧g.Kind=kind∧g.Round=(s:Int))
structure Live (c:WK) (N:Nat) (m:MS):Prop where
  bx:∀ f t,f<c.n→t<c.n→BInv (m.bx f t)
  way:∀ k s,k<c.n→s<c.S.length→((m.w k).gl s=true∨Way c m 6 k s)∧((m.w k).gr s=true∨Way c m 7 k s)
  at_:∀ k,k<c.n→(m.w k).at_≤c.S.length∧¬((m.w k).at_<c.S.length∧(m.w k).gl (m.w k).at_=true∧(m.w k).gr (m.w k).at_=true)
  totN:cQ c m+cP c m=N
theorem Live.setB (h:Live c N m) {f t:Nat} {a:Abs} (hf:f<c.n) (ht:t<c.n) (hb:BInv a) (h1:a.fs=(m.bx f t).fs) (h2:a.taken=(m.bx f t).taken):Live c N (CU m f t a):=by
  have hw:∀ {kind k s},Way c m kind k s→Way c (CU m f t a) kind k s:=by
    rintro kind k s ⟨q,hq,hq' | ⟨i,g,g1,g2,g3⟩⟩
    · exact ⟨q,hq,.inl hq'⟩
    · refine ⟨q,hq,.inr ⟨i,g,?_,?_,g3⟩⟩ <;> (by_cases e:q=f∧k=t)
      · obtain ⟨rfl,rfl⟩:=e; simpa [CU,h2] using g1
      · simpa [CU,e] using g1
      · obtain ⟨rfl,rfl⟩:=e; simpa [CU,h1] using g2
      · simpa [CU,e] using g2
  refine ⟨fun i j hi hj=>?_,fun k s hk hs=>⟨(h.way k s hk hs).1.imp id hw,(h.way k s hk hs).2.imp id hw⟩,h.at_,?_⟩
  · by_cases e:i=f∧j=t
    · simpa [CU,e] using hb
    · simpa [CU,e] using h.bx i j hi hj
  · have:=ZY (c:=c) (m:=m) (a:=a) hf ht
    rw [h1] at this
    have:=h.totN
    rw [eH]; omega
theorem Live.doubled (h:Live c N m) {f t:Nat} (hf:f<c.n) (ht:t<c.n) (k:Int):Live c N (m.double f t k).2:=by
  refine h.setB hf ht ((h.bx f t hf ht).double k) ?_ ?_ <;> (unfold Abs.double; split <;> (try split) <;> rfl)
theorem Live.moved (h:Live c N m) {f t:Nat} (hf:f<c.n) (ht:t<c.n) (k:Int):Live c N (m.move f t k).2:=by
  refine h.setB hf ht ((h.bx f t hf ht).move k) ?_ ?_ <;> (unfold Abs.move; split <;> rfl)
theorem pM {k t:Nat} {f:BL} {r:List BL} (ho:(m.w k).out=f :: r) (hto:f.To=(t:Int)) (hnf:(m.bx k t).fullB=false) :
    m.send c k=(true,DV (CU m k t { m.bx k t with row:=(m.bx k t).row++[(m.bx k t).fs.length],fs:=(m.bx k t).fs++[{ f with Seq:=(m.bx k t).fs.length }] }) k { m.w k with out:=r }):=by
  have e:f.To.toNat=t:=by omega
  unfold MS.send
  rw [ho]
  show (if ((m.bx k f.To.toNat).send f).1=0 then _ else _)=_
  rw [e,ZX f hnf,if_pos rfl]
theorem Af4 {k t:Nat} {f:BL} {r:List BL} (ho:(m.w k).out=f :: r) (hto:f.To=(t:Int)) (hnf:(m.bx k t).fullB=true):m.send c k=(false,m):=by
  have e:f.To.toNat=t:=by omega
  unfold MS.send
  rw [ho]
  show (if ((m.bx k f.To.toNat).send f).1=0 then _ else _)=_
  rw [e]
  unfold Abs.send
  rw [if_pos hnf]
  rfl
theorem Ad3 {k:Nat} (ho:(m.w k).out=[]):m.send c k=(false,m):=by unfold MS.send; rw [ho]
theorem jO (g:Good c m) {k:Nat} (hk:k<c.n):m.send c k=(false,m)∨∃ (t:Nat) (f:BL) (r:List BL),t<c.n∧(m.w k).out=f :: r∧f.To=(t:Int)∧(m.bx k t).fullB=false:=by
  cases ho:(m.w k).out with
  | nil=>exact .inl (Ad3 ho)
  | cons f r=>
    obtain ⟨t,s,ht,hs,hto,_⟩:=g.out k hk f (by rw [ho]; exact List.mem_cons_self)
    cases hf:(m.bx k t).fullB with
    | true=>exact .inl (Af4 ho hto hf)
    | false=>exact .inr ⟨t,f,r,ht,rfl,hto,hf⟩
theorem Live.sent (h:Live c N m) (g:Good c m) {k:Nat} (hk:k<c.n):Live c N (m.send c k).2:=by
  rcases jO g hk with e | ⟨t,f,r,ht,ho,hto,hnf⟩
  · rw [e]; exact h
  · rw [pM ho hto hnf]
    have hb:=h.bx k t hk ht
    have hbs:=hb.send f
    rw [ZX f hnf] at hbs
    have hw:∀ {kind q s},Way c m kind q s→Way c (DV (CU m k t { m.bx k t with row:=(m.bx k t).row++[(m.bx k t).fs.length],fs:=(m.bx k t).fs++[{ f with Seq:=(m.bx k t).fs.length }] }) k { m.w k with out:=r }) kind q s:=by
      rintro kind q s ⟨w,hw,⟨x,hx,hx1,hx2,hx3⟩ | ⟨i,x,g1,g2,g3⟩⟩
      · by_cases e:w=k
        · subst e
          rw [ho] at hx
          rcases List.mem_cons.1 hx with e' | hx
          · subst e'
            have et:q=t:=by omega
            subst et
            refine ⟨w,hw,.inr ⟨(m.bx w q).fs.length,{ x with Seq:=(m.bx w q).fs.length },?_,?_,hx1,hx3⟩⟩
            · simpa [DV,CU] using hb.tk
            · simp [DV,CU]
          · exact ⟨w,hw,.inl ⟨x,by simpa [DV] using hx,hx1,hx2,hx3⟩⟩
        · exact ⟨w,hw,.inl ⟨x,by simpa [DV,e,CU] using hx,hx1,hx2,hx3⟩⟩
      · refine ⟨w,hw,.inr ⟨i,x,?_,?_,g3⟩⟩ <;> (by_cases e:w=k∧q=t)
        · obtain ⟨rfl,rfl⟩:=e; simpa [DV,CU] using g1
        · simpa [DV,CU,e] using g1
        · obtain ⟨rfl,rfl⟩:=e
          have hlt:i<(m.bx w q).fs.length:=(List.getElem?_eq_some_iff.1 g2).1
          simp only [DV,CU,and_self,if_true]
          rw [List.getElem?_append_left hlt]; exact g2
        · simpa [DV,CU,e] using g2
    have hgl:∀ q,((DV (CU m k t { m.bx k t with row:=(m.bx k t).row++[(m.bx k t).fs.length],fs:=(m.bx k t).fs++[{ f with Seq:=(m.bx k t).fs.length }] }) k { m.w k with out:=r }).w q).gl=(m.w q).gl∧((DV (CU m k t { m.bx k t with row:=(m.bx k t).row++[(m.bx k t).fs.length],fs:=(m.bx k t).fs++[{ f with Seq:=(m.bx k t).fs.length }] }) k { m.w k with out:=r }).w q).gr=(m.w q).gr∧((DV (CU m k t { m.bx k t with row:=(m.bx k t).row++[(m.bx k t).fs.length],fs:=(m.bx k t).fs++[{ f with Seq:=(m.bx k t).fs.length }] }) k { m.w k with out:=r }).w q).at_=(m.w q).at_:=by
      intro q
      by_cases e:q=k
      · subst e; simp [DV]
      · simp [DV,e,CU]
    refine ⟨fun i j hi hj=>?_,fun q s hq hs=>?_,fun q hq=>?_,?_⟩
    · by_cases e:i=k∧j=t
      · obtain ⟨rfl,rfl⟩:=e; simpa [DV,CU] using hbs
      · simpa [DV,CU,e] using h.bx i j hi hj
    · rw [(hgl q).1,(hgl q).2.1]
      exact ⟨(h.way q s hq hs).1.imp id hw,(h.way q s hq hs).2.imp id hw⟩
    · rw [(hgl q).1,(hgl q).2.1,(hgl q).2.2]; exact h.at_ q hq
    · have h1:=ZY (c:=c) (m:=m) (a:={ m.bx k t with row:=(m.bx k t).row++[(m.bx k t).fs.length],fs:=(m.bx k t).fs++[{ f with Seq:=(m.bx k t).fs.length }] }) hk ht
      have h2:=mS (c:=c) (m:=CU m k t { m.bx k t with row:=(m.bx k t).row++[(m.bx k t).fs.length],fs:=(m.bx k t).fs++[{ f with Seq:=(m.bx k t).fs.length }] }) (a:={ m.w k with out:=r }) hk
      rw [eH] at h2
      have e:((CU m k t { m.bx k t with row:=(m.bx k t).row++[(m.bx k t).fs.length],fs:=(m.bx k t).fs++[{ f with Seq:=(m.bx k t).fs.length }] }).w k).out.length=r.length+1:=by show (m.w k).out.length=_; rw [ho]; rfl
      rw [e] at h2
      simp only [List.length_append,List.length_singleton] at h1
      have:=h.totN
      dsimp only at h1 h2 ⊢
      rw [jN]
      omega
theorem wC (s:Abs) (k:Int):(s.take k).2.2.2.taken=if (s.take k).2.1=true then s.taken+1 else s.taken:=by
  by_cases h0:s.at k≠0
  · simp [Abs.take,h0]
  · by_cases h1:s.taken<s.num k
    · simp [Abs.take,h0,h1]
    · by_cases h2:s.num k<s.taken <;> simp [Abs.take,h0,h1,h2]
theorem AaJ (h:BInv s) {k:Int} (ht:(s.take k).2.1=true):∃ hi:s.taken<s.fs.length,(s.take k).1=s.fs[s.taken]:=by
  unfold Abs.take at ht ⊢
  split at ht
  · cases ht
  · rename_i h0
    have h0':s.at k=0:=by simpa using h0
    obtain ⟨i,rfl,hi⟩:=RC h0'
    rw [RE hi] at ht ⊢
    rw [if_neg (by rw [h0']; simp)]
    have hlt:=h.lt _ (List.getElem_mem hi)
    split at ht
    · cases ht
    · split at ht
      · cases ht
      · rename_i h1 h2
        have e:s.row[i]=s.taken:=by omega
        rw [if_neg h1,if_neg h2]
        refine ⟨by omega,?_⟩
        simp [e,show s.taken<s.fs.length by omega]
theorem Live.handed (h:Live c N m) (g:Good c m) {f t:Nat} (hf:f<c.n) (ht:t<c.n) (k:Int):Live c N (m.hand c f t k).2:=by
  have hb:=h.bx f t hf ht
  have htk:=wC (m.bx f t) k
  have hfs:=yP (m.bx f t) k
  unfold MS.hand
  split
  · rename_i e
    rw [if_pos e] at htk
    obtain ⟨hi,hz⟩:=AaJ hb e
    obtain ⟨⟨t',s',ht',hs',hto,hro,hsm,hcn⟩,hto2⟩:=g.box f t hf ht _ (List.getElem_mem hi)
    rw [←hz] at hto hro hsm hcn hto2
    generalize hm2:(DV (CU m f t ((m.bx f t).take k).2.2.2) t (WX c.S.length (WM (m.w t) ((m.bx f t).take k).1)))=m2
    have hw2:∀ q,q≠t→m2.w q=m.w q:=fun q hq=>by rw [←hm2]; simp [DV,hq,CU]
    have hwt:m2.w t=WX c.S.length (WM (m.w t) ((m.bx f t).take k).1):=by rw [←hm2]; simp [DV]
    have hbx:∀ i j,¬(i=f∧j=t)→m2.bx i j=m.bx i j:=fun i j hij=>by rw [←hm2]; simp [DV,CU,hij]
    have hbt:m2.bx f t=((m.bx f t).take k).2.2.2:=by rw [←hm2]; simp [DV,CU]
    have hout:∀ q,(m2.w q).out=(m.w q).out:=fun q=>by
      by_cases e':q=t
      · subst e'; rw [hwt]; simp [WX,cL]
      · rw [hw2 q e']
    -- a way stays, or is what came
    have hw:∀ {kind q s},Way c m kind q s→Way c m2 kind q s∨(q=t∧((m.bx f t).take k).1.Kind=kind∧((m.bx f t).take k).1.Round=(s:Int)):=by
      rintro kind q s ⟨w,hw,⟨x,hx,hx'⟩ | ⟨i,x,g1,g2,g3,g4⟩⟩
      · exact .inl ⟨w,hw,.inl ⟨x,by rw [hout]; exact hx,hx'⟩⟩
      · by_cases e':w=f∧q=t
        · obtain ⟨rfl,rfl⟩:=e'
          by_cases ei:i=(m.bx w q).taken
          · subst ei
            have:x=((m.bx w q).take k).1:=by rw [hz]; have:=(List.getElem?_eq_some_iff.1 g2).2; exact this.symm
            subst this
            exact .inr ⟨rfl,g3,g4⟩
          · exact .inl ⟨w,hw,.inr ⟨i,x,by rw [hbt,htk]; omega,by rw [hbt,hfs.1]; exact g2,g3,g4⟩⟩
        · exact .inl ⟨w,hw,.inr ⟨i,x,by rw [hbx w q e']; exact g1,by rw [hbx w q e']; exact g2,g3,g4⟩⟩
    refine ⟨fun i j hi' hj=>?_,fun q s hq hs=>?_,fun q hq=>?_,?_⟩
    · by_cases e':i=f∧j=t
      · obtain ⟨rfl,rfl⟩:=e'; rw [hbt]; exact hb.take k
      · rw [hbx i j e']; exact h.bx i j hi' hj
    · obtain ⟨w1,w2⟩:=h.way q s hq hs
      by_cases e':q=t
      · subst e'
        constructor
        · rcases w1 with w1 | w1
          · left; rw [hwt]; unfold WX WM
            split
            · simp [w1]
            · exact w1
          · rcases hw w1 with w1 | ⟨_,w3,w4⟩
            · exact .inr w1
            · left; rw [hwt]; unfold WX WM; rw [if_pos w3]; simp [w4]
        · rcases w2 with w1 | w1
          · left; rw [hwt]; unfold WX WM
            split
            · exact w1
            · simp [w1]
          · rcases hw w1 with w1 | ⟨_,w3,w4⟩
            · exact .inr w1
            · left; rw [hwt]; unfold WX WM; rw [if_neg (by omega)]; simp [w4]
      · rw [hw2 q e']
        exact ⟨w1.imp id fun x=>(hw x).resolve_right fun x=>e' x.1,w2.imp id fun x=>(hw x).resolve_right fun x=>e' x.1⟩
    · by_cases e':q=t
      · subst e'
        rw [hwt]
        have hle:(WM (m.w q) ((m.bx f q).take k).1).at_≤c.S.length:=by
          have:=(h.at_ q hq).1
          unfold WM; split <;> exact this
        exact (yR _ _ _ _ _ hle (by omega)).2
      · rw [hw2 q e']; exact h.at_ q hq
    · have h1:=ZY (c:=c) (m:=m) (a:=((m.bx f t).take k).2.2.2) hf ht
      rw [hfs.1] at h1
      have h2:=mS (c:=c) (m:=CU m f t ((m.bx f t).take k).2.2.2) (a:=WX c.S.length (WM (m.w t) ((m.bx f t).take k).1)) ht
      rw [eH] at h2
      have e2:(WX c.S.length (WM (m.w t) ((m.bx f t).take k).1)).out=(m.w t).out:=by simp [WX,cL]
      rw [e2] at h2
      have e3:((CU m f t ((m.bx f t).take k).2.2.2).w t).out=(m.w t).out:=rfl
      rw [e3] at h2
      have:=h.totN
      rw [←hm2,jN]
      show cQ c (CU m f t ((m.bx f t).take k).2.2.2)+cP c (DV (CU m f t ((m.bx f t).take k).2.2.2) t (WX c.S.length (WM (m.w t) ((m.bx f t).take k).1)))=N
      omega
  · rename_i e
    rw [if_neg e] at htk
    exact h.setB hf ht (hb.take k) hfs.1 htk
variable {c:WK} {m:MS} {s:Abs} {N:Nat}
def Phi (c:WK) (m:MS):Nat:=2*cP c m+yQ c m
theorem Live.sends (h:Live c N m) (hc:fY c) (g:Good c m):∀ k,k≤c.n→Live c N (m.sends c k).2
  | 0,_=>h
  | k+1,hk=>(Live.sends h hc g k (by omega)).sent (g.sends hc k (by omega)) (by omega)
theorem Live.hands1 {x:Bool×MS} (h:Live c N x.2) (g:Good c x.2) {f:Nat} (hf:f<c.n):∀ k,k≤c.n→Live c N (hands1 c f x k).2
  | 0,_=>h
  | k+1,hk=>(Live.hands1 h g hf k (by omega)).handed (Good.hands1 g f k) hf (by omega) _
theorem Live.hands {x:Bool×MS} (h:Live c N x.2) (g:Good c x.2):∀ k,k≤c.n→Live c N (hands c x k).2
  | 0,_=>h
  | k+1,hk=>Live.hands1 (Live.hands h g k (by omega)) (Good.hands g k) (by omega) c.n (Nat.le_refl _)
theorem Live.window (h:Live c N m) (hc:fY c) (g:Good c m):Live c N (m.window c).2:=Live.hands (h.sends hc g c.n (Nat.le_refl _)) (g.sends hc c.n (Nat.le_refl _)) c.n (Nat.le_refl _)
theorem Live.acted (h:Live c N m) (hc:fY c) (g:Good c m) (x:MZ):Live c N (m.act c x).2:=by
  unfold MS.act
  split
  · exact h
  · split
    · split
      · rename_i hi; exact h.sent g (by have:=hi.2; have:=hi.1; omega)
      · exact h
    · split
      · exact h.window hc g
      · split
        · rename_i hi
          have l1:x.A.toNat<c.n:=by have:=hi.1.2; have:=hi.1.1; omega
          have l2:x.B.toNat<c.n:=by have:=hi.2.2; have:=hi.2.1; omega
          split
          · exact h.handed g l1 l2 _
          · split
            · exact h.doubled l1 l2 _
            · exact h.moved l1 l2 _
        · exact h
theorem Ad4 (m:MS) (f t:Nat):(m.old c f t).bx f t=((m.bx f t).take (m.bx f t).oldest).2.2.2∧(∀ i j,¬(i=f∧j=t)→(m.old c f t).bx i j=m.bx i j)∧∀ k,((m.old c f t).w k).out=(m.w k).out:=by
  unfold MS.old MS.hand
  split
  · refine ⟨by simp [DV,CU],fun i j h=>by simp [DV,CU,h],fun k=>?_⟩
    by_cases e:k=t
    · subst e; simp [DV,WX,cL,CU]
    · simp [DV,e,CU]
  · exact ⟨by simp [CU],fun i j h=>by simp [CU,h],fun k=>rfl⟩
theorem Af5 {f t:Nat} (h:BInv (m.bx f t)):((m.old c f t).bx f t).row.length=(m.bx f t).row.length - 1:=by
  rw [(Ad4 m f t).1]
  by_cases e:(m.bx f t).row=[]
  · rw [(AaI e _).1,e]; rfl
  · have:=h.old e; omega
theorem Ad5 (h:Live c N m) (h0:Phi c m=0):∀ k,k<c.n→(m.w k).at_=c.S.length:=by
  have ho:cP c m=0:=by unfold Phi at h0; omega
  have hr:yQ c m=0:=by unfold Phi at h0; omega
  have noway:∀ {kind k s},k<c.n→¬Way c m kind k s:=by
    rintro kind k s hk ⟨f,hf,⟨g,hg,_⟩ | ⟨i,g,h1,h2,_⟩⟩
    · have:=cO ho f hf
      rw [List.length_eq_zero_iff.1 this] at hg
      exact absurd hg (List.not_mem_nil)
    · have:=cO (cO hr f hf) k hk
      have e:=List.length_eq_zero_iff.1 this
      have hlt:i<(m.bx f k).fs.length:=(List.getElem?_eq_some_iff.1 h2).1
      have:=(h.bx f k hf hk).pend i h1 hlt
      rw [e] at this
      exact absurd this (List.not_mem_nil)
  intro k hk
  have ha:=h.at_ k hk
  rcases Nat.lt_or_ge (m.w k).at_ c.S.length with hlt | hge
  · obtain ⟨w1,w2⟩:=h.way k _ hk hlt
    exact absurd ⟨hlt,w1.resolve_right (noway hk),w2.resolve_right (noway hk)⟩ ha.2
  · omega
variable {c:WK} {m:MS} {s:Abs} {N:Nat} {o0:AB} {o1 o1x:List (Nat×AA)} {o2:List (Nat×AF)}
def MS.ended (c:WK) (m:MS):Bool:=(List.range c.n).all fun k=>decide ((m.w k).at_=c.S.length)
theorem YN:m.ended c=true↔∀ k,k<c.n→(m.w k).at_=c.S.length:=by simp [MS.ended,List.all_eq_true]
def pN (c:WK):Nat→MS→MS
  | 0,m=>m
  | j+1,m=>if m.ended c=true then m else pN c j (m.window c).2
theorem jP (hc:fY c) (g:Good c m) (h0:∀ i j,i<c.n→j<c.n→(m.bx i j).row=[]):∀ k,k≤c.n →
    (∀ j,((m.sends c k).2.w j).out=if j<k then (m.w j).out.tail else (m.w j).out)∧(∀ i j,k≤i→(m.sends c k).2.bx i j=m.bx i j)∧∀ i j,i<c.n→j<c.n→((m.sends c k).2.bx i j).row.length≤1
  | 0,_=>⟨fun j=>by simp [MS.sends],fun _ _ _=>rfl,fun i j hi hj=>by simp [MS.sends,h0 i j hi hj]⟩
  | k+1,hk=>by
    obtain ⟨h1,h2,h3⟩:=jP hc g h0 k (by omega)
    have gk:=g.sends hc k (by omega)
    unfold MS.sends
    generalize hx:(m.sends c k).2=x at h1 h2 h3 gk
    have hkk:=h1 k
    rw [if_neg (by omega)] at hkk
    rcases jO gk (show k<c.n by omega) with e | ⟨t,f,r,ht,ho,hto,hnf⟩
    · have hnil:(x.w k).out=[]:=by
        cases hq:(x.w k).out with
        | nil=>rfl
        | cons f r=>
          exfalso
          obtain ⟨t,s,ht,hs,hto,_⟩:=gk.out k (by omega) f (by rw [hq]; exact List.mem_cons_self)
          have hnf:(x.bx k t).fullB=false:=by
            unfold Abs.fullB
            rw [(gk.room k t (by omega) ht).1,h2 k t (Nat.le_refl _),h0 k t (by omega) ht]
            have:=hc.r1
            simp; omega
          have:=pM (c:=c) hq hto hnf
          rw [e] at this
          simp at this
      rw [e]
      refine ⟨fun j=>?_,fun i j hi=>h2 i j (by omega),h3⟩
      show (x.w j).out=_
      rw [h1 j]
      by_cases ej:j=k
      · subst ej
        rw [hkk] at hnil
        simp [hnil]
      · by_cases el:j<k
        · rw [if_pos el,if_pos (by omega)]
        · rw [if_neg el,if_neg (by omega)]
    · rw [pM ho hto hnf]
      refine ⟨fun j=>?_,fun i j hi=>?_,fun i j hi hj=>?_⟩
      · by_cases ej:j=k
        · subst ej
          rw [ho] at hkk
          rw [if_pos (by omega),←hkk]
          simp [DV]
        · have:=h1 j
          simp only [DV,if_neg ej,CU]
          rw [this]
          by_cases el:j<k
          · rw [if_pos el,if_pos (by omega)]
          · rw [if_neg el,if_neg (by omega)]
      · have ei:¬(i=k∧j=t):=by omega
        simp only [DV,CU,if_neg ei]
        exact h2 i j (by omega)
      · by_cases e:i=k∧j=t
        · obtain ⟨rfl,rfl⟩:=e
          simp only [DV,CU,and_self,if_true,List.length_append,List.length_singleton]
          rw [h2 i j (Nat.le_refl _),h0 i j hi hj]; simp
        · simp only [DV,CU,if_neg e]
          exact h3 i j hi hj
theorem fN {f:Nat} (hf:f<c.n) {x:Bool×MS} (h:Live c N x.2) (g:Good c x.2):∀ t,t≤c.n →
    (∀ k,((hands1 c f x t).2.w k).out=(x.2.w k).out)∧(∀ i j,¬(i=f∧j<t)→(hands1 c f x t).2.bx i j=x.2.bx i j)∧∀ j,j<t→((hands1 c f x t).2.bx f j).row.length=(x.2.bx f j).row.length - 1
  | 0,_=>⟨fun _=>rfl,fun _ _ _=>rfl,fun j hj=>by omega⟩
  | t+1,ht=>by
    obtain ⟨h1,h2,h3⟩:=fN hf h g t (by omega)
    have hl:=Live.hands1 h g hf t (by omega)
    have ho:=Ad4 (c:=c) (hands1 c f x t).2 f t
    have hlen:=Af5 (c:=c) (hl.bx f t hf (by omega))
    unfold hands1
    refine ⟨fun k=>(ho.2.2 k).trans (h1 k),fun i j hij=>?_,fun j hj=>?_⟩
    · show (MS.old c _ f t).bx i j=_
      rw [ho.2.1 i j (by omega)]
      exact h2 i j (by omega)
    · show ((MS.old c _ f t).bx f j).row.length=_
      by_cases e:j=t
      · subst e
        rw [hlen,h2 f j (by omega)]
      · rw [ho.2.1 f j (by omega)]
        exact h3 j (by omega)
theorem jQ {x:Bool×MS} (h:Live c N x.2) (g:Good c x.2):∀ f,f≤c.n →
    (∀ k,((hands c x f).2.w k).out=(x.2.w k).out)∧(∀ i j,f≤i→(hands c x f).2.bx i j=x.2.bx i j)∧∀ i j,i<f→j<c.n→((hands c x f).2.bx i j).row.length=(x.2.bx i j).row.length - 1
  | 0,_=>⟨fun _=>rfl,fun _ _ _=>rfl,fun i j hi=>by omega⟩
  | f+1,hf=>by
    obtain ⟨h1,h2,h3⟩:=jQ h g f (by omega)
    obtain ⟨k1,k2,k3⟩:=fN (show f<c.n by omega) (Live.hands h g f (by omega)) (Good.hands g f) c.n (Nat.le_refl _)
    unfold hands
    refine ⟨fun k=>(k1 k).trans (h1 k),fun i j hi=>?_,fun i j hi hj=>?_⟩
    · rw [k2 i j (by omega)]; exact h2 i j (by omega)
    · by_cases e:i=f
      · subst e
        rw [k3 j hj,h2 i j (Nat.le_refl _)]
      · rw [k2 i j (by omega)]; exact h3 i j (by omega) hj
theorem tG (hc:fY c) (h:Live c N m) (g:Good c m) (h0:∀ i j,i<c.n→j<c.n→(m.bx i j).row=[]) :
    (∀ k,k<c.n→((m.window c).2.w k).out=(m.w k).out.tail)∧∀ i j,i<c.n→j<c.n→((m.window c).2.bx i j).row=[]:=by
  obtain ⟨s1,s2,s3⟩:=jP hc g h0 c.n (Nat.le_refl _)
  obtain ⟨h1,h2,h3⟩:=jQ (h.sends hc g c.n (Nat.le_refl _)) (g.sends hc c.n (Nat.le_refl _)) c.n (Nat.le_refl _)
  unfold MS.window
  refine ⟨fun k hk=>?_,fun i j hi hj=>?_⟩
  · rw [h1 k,s1 k,if_pos hk]
  · have e1:=h3 i j hi hj
    have e2:=s3 i j hi hj
    exact List.length_eq_zero_iff.1 (by omega)
theorem mT (hc:fY c):∀ (j:Nat) {m:MS},Live c N m→Good c m→(∀ a b,a<c.n→b<c.n→(m.bx a b).row=[])→(∀ k,k<c.n→(m.w k).out.length≤j)→(pN c j m).ended c=true
  | 0,m,h,g,h0,hp=>by
    show m.ended c=true
    exact YN.2 (Ad5 h (by
      have ho:cP c m=0:=by
        unfold cP
        rw [EF (g:=fun _=>0) fun i hi=>by have:=hp i hi; omega,JG]; simp
      have hr:yQ c m=0:=by
        unfold yQ
        rw [EF (g:=fun _=>0) fun i hi=>by rw [EF (g:=fun _=>0) fun j hj=>by rw [h0 i j hi hj]; rfl,JG]; simp,JG]; simp
      unfold Phi; omega))
  | j+1,m,h,g,h0,hp=>by
    unfold pN
    split
    · assumption
    · obtain ⟨w1,w2⟩:=tG hc h g h0
      refine mT hc j (h.window hc g) (g.window hc) w2 fun k hk=>?_
      have:=hp k hk
      rw [w1 k hk,List.length_tail]; omega
theorem tH (hc:fY c) (h:Rep c m o0 o1 o2) {Q:Bool→Prop} (hQ:Q (m.ended c)):DH o0 o1 Q:=by
  have hn:=hc.n
  unfold DH CI CL
  refine EM c.n (by omega) (fun i=>∀ k,k<i→(m.w k).at_=c.S.length) (fun k hk=>by omega) (fun i next hi hR hnext=>?_) (fun next hR=>?_)
  · show AQ (decide ((i:Int)<(o0.workers.length:Int))) _ _
    rw [h.len]
    refine BC (by simp; omega) (AO (by omega) (h.get hi) ?_)
    obtain ⟨x,hx,hw⟩:=h.wk i hi
    unfold GM
    refine MO hx ?_
    rw [hw.at_,h.S]
    have:=hw.le
    refine AC (fun hlt=>?_) (fun hge=>?_)
    · have e:m.ended c=false:=by
        cases hE:m.ended c with
        | false=>rfl
        | true=>have:=YN.1 hE i hi; omega
      rw [e] at hQ
      have:decide (0≤(i:Int))=true:=by simp
      show Q (!decide (0≤(i:Int)))
      rw [this]; exact hQ
    · exact hnext fun k hk=>by
        by_cases ek:k=i
        · subst ek; omega
        · exact hR k (by omega)
  · show AQ (decide ((c.n:Int)<(o0.workers.length:Int))) _ _
    rw [h.len]
    refine AN (by simp) ?_
    have e:m.ended c=true:=YN.2 hR
    rw [e] at hQ
    exact hQ
structure Data where
  r:Int
  n:Int
  k:Int
  q:Int
  A:List AD
  B:List AD
  M:List AD
  R:Nat
  C:Nat
  room:Nat
  S:List BA
def Data.p (d:Data):BQ:={ Ring:=d.r,A:=BO d.n d.k d.A,B:=BO d.k d.q d.B,Mask:=BO d.n d.q d.M,R:=(d.R:Int),C:=(d.C:Int),Room:=(d.room:Int) }
def CV (S:List BA):Nat→Int
  | 0=>0
  | s+1=>(S.getD s default).To
structure Ad6 (d:Data):Prop where
  len:d.S.length+1≤d.R+d.C
  row:∀ s (h:s<d.S.length),0≤d.S[s].Row∧d.S[s].Row<d.R
  col:∀ s (h:s<d.S.length),0≤d.S[s].Col∧d.S[s].Col<d.C
  lo:∀ s (h:s<d.S.length),d.S[s].From=CV d.S s∧d.S[s].From≤d.S[s].To∧d.S[s].To≤d.k
  top:CV d.S d.S.length=d.k
structure aO (d:Data):Prop where
  r:1≤d.r∧d.r≤5
  cA:Canon d.n d.k d.A
  cB:Canon d.k d.q d.B
  cM:Canon d.n d.q d.M
  vA:∀ t∈d.A,FR t.Val
  vB:∀ t∈d.B,FR t.Val
  vM:∀ t∈d.M,FR t.Val
  R:1≤d.R∧d.R≤8
  C:1≤d.C∧d.C≤8
  room:1≤d.room∧d.room≤64
  seg:Ad6 d
variable {d:Data}
def Data.rl (d:Data) (i:Nat):Int:=CT d.n d.R i
def Data.cl (d:Data) (j:Nat):Int:=CT d.q d.C j
theorem tI (h:aO d) (i:Nat):0≤d.rl i∧d.rl i≤d.rl (i+1)∧d.rl (i+1)≤d.n:=⟨mK.1,XM (by omega),mK.2 h.cA.r0⟩
theorem tJ (h:aO d) (j:Nat):0≤d.cl j∧d.cl j≤d.cl (j+1)∧d.cl (j+1)≤d.q:=⟨mK.1,XM (by omega),mK.2 h.cB.c0⟩
theorem pO (h:aO d):∀ s,s≤d.S.length→0≤CV d.S s∧CV d.S s≤d.k
  | 0,_=>⟨Int.le_refl _,h.cA.c0⟩
  | s+1,hs=>by
    have h1:=pO h s (by omega)
    have h2:=h.seg.lo s (by omega)
    have e:CV d.S (s+1)=d.S[s].To:=by
      show (d.S.getD s default).To=_
      simp [List.getD_eq_getElem?_getD,show s<d.S.length by omega]
    rw [e]; omega
theorem jR {s:Nat} (hs:s<d.S.length):CV d.S (s+1)=d.S[s].To:=by
  show (d.S.getD s default).To=_
  simp [List.getD_eq_getElem?_getD,hs]
def fZ (d:Data) (i:Nat) (a b:Int):List AD:=LG (d.rl i) (d.rl (i+1)) a b d.A
def jS (d:Data) (j:Nat) (a b:Int):List AD:=LG a b (d.cl j) (d.cl (j+1)) d.B
def bkM (d:Data) (i j:Nat):List AD:=LG (d.rl i) (d.rl (i+1)) (d.cl j) (d.cl (j+1)) d.M
def TW (d:Data) (i j:Nat) (t:Nat):List AJ:=FB d.r (fZ d i 0 (CV d.S t)) (jS d j 0 (CV d.S t)) (bkM d i j)
def Data.ctx (d:Data) (adr:Nat→Nat):WK where
  p:=d.p
  S:=d.S
  n:=d.R*d.C
  adr:=adr
  wi:=fun k=>((k / d.C:Nat):Int)
  wj:=fun k=>((k % d.C:Nat):Int)
  mask:=fun k=>BO (d.rl (k / d.C+1) - d.rl (k / d.C)) (d.cl (k % d.C+1) - d.cl (k % d.C)) (bkM d (k / d.C) (k % d.C))
  room:=d.room
  LA:=fun k s=>fZ d (k / d.C) (CV d.S s) (CV d.S (s+1))
  RB:=fun k s=>jS d (k % d.C) (CV d.S s) (CV d.S (s+1))
  has:=fun k t=>TW d (k / d.C) (k % d.C) t
theorem AaK (h:aO d) (i j:Nat) {a b:Int} (h0:0≤a) (h1:a≤b) (h2:b≤d.k) (k:EX) :
    GI d.r k (FB d.r (fZ d i 0 b) (jS d j 0 b) (bkM d i j))=gU d.r (GI d.r k (FB d.r (fZ d i 0 a) (jS d j 0 a) (bkM d i j))) (GI d.r k (FB d.r (fZ d i a b) (jS d j a b) (bkM d i j))):=by
  have hr:=tI h i
  have hc:=tJ h j
  obtain ⟨_,cA0,lA0⟩:=FW h.cA (l:=d.rl i) (u:=d.rl (i+1)) (c:=0) (d:=b) hr.1 hr.2.1 hr.2.2 (by omega) (by omega) h2
  obtain ⟨_,cA1,lA1⟩:=FW h.cA (l:=d.rl i) (u:=d.rl (i+1)) (c:=0) (d:=a) hr.1 hr.2.1 hr.2.2 (by omega) h0 (by omega)
  obtain ⟨_,cA2,lA2⟩:=FW h.cA (l:=d.rl i) (u:=d.rl (i+1)) (c:=a) (d:=b) hr.1 hr.2.1 hr.2.2 h0 h1 h2
  obtain ⟨_,cB0,lB0⟩:=FW h.cB (l:=0) (u:=b) (c:=d.cl j) (d:=d.cl (j+1)) (by omega) (by omega) h2 hc.1 hc.2.1 hc.2.2
  obtain ⟨_,cB1,lB1⟩:=FW h.cB (l:=0) (u:=a) (c:=d.cl j) (d:=d.cl (j+1)) (by omega) h0 (by omega) hc.1 hc.2.1 hc.2.2
  obtain ⟨_,cB2,lB2⟩:=FW h.cB (l:=a) (u:=b) (c:=d.cl j) (d:=d.cl (j+1)) h0 h1 h2 hc.1 hc.2.1 hc.2.2
  obtain ⟨_,cM0,_⟩:=FW h.cM (l:=d.rl i) (u:=d.rl (i+1)) (c:=d.cl j) (d:=d.cl (j+1)) hr.1 hr.2.1 hr.2.2 hc.1 hc.2.1 hc.2.2
  simp only [Int.sub_zero,Int.add_zero] at cA0 lA0 cA1 lA1 cB0 lB0 cB1 lB1
  refine mJ cM0.srt fun t ht=>?_
  have hin:=cM0.inn t ht
  unfold ZB at hin
  unfold fZ jS
  rw [TE cA0 hin.1,TE cA1 hin.1,TE cA2 hin.1,show b.toNat=a.toNat+(b - a).toNat by omega,sI]
  congr 1
  · refine ZV (fun x hx=>?_) (fun x hx=>?_)
    · rw [lA0 _ _ hin.1 hin.2.1 (by omega) (by omega),lA1 _ _ hin.1 hin.2.1 (by omega) (by omega)]
    · unfold vU
      rw [lB0 _ _ (by omega) (by omega) hin.2.2.1 hin.2.2.2,lB1 _ _ (by omega) (by omega) hin.2.2.1 hin.2.2.2]
  · refine ZV (fun x hx=>?_) (fun x hx=>?_)
    · rw [Int.toNat_of_nonneg h0,lA0 _ _ hin.1 hin.2.1 (by omega) (by omega),lA2 _ _ hin.1 hin.2.1 (by omega) (by omega)]
    · unfold vU
      rw [Int.toNat_of_nonneg h0,lB0 _ _ (by omega) (by omega) hin.2.2.1 hin.2.2.2,lB2 _ _ (by omega) (by omega) hin.2.2.1 hin.2.2.2]
theorem Ai0 (h:aO d) (adr:Nat→Nat):Rk (d.ctx adr):=by
  intro w s hs hw Q hQ
  have hs':s<d.S.length:=hs
  have hr:=tI h (w / d.C)
  have hc:=tJ h (w % d.C)
  have hl:=h.seg.lo s hs'
  have hb:=pO h s (by omega)
  have he:=jR (d:=d) hs'
  obtain ⟨_,cA2,_⟩:=FW h.cA (l:=d.rl (w / d.C)) (u:=d.rl (w / d.C+1)) (c:=CV d.S s) (d:=CV d.S (s+1)) hr.1 hr.2.1 hr.2.2 hb.1 (by omega) (by omega)
  obtain ⟨_,cB2,_⟩:=FW h.cB (l:=CV d.S s) (u:=CV d.S (s+1)) (c:=d.cl (w % d.C)) (d:=d.cl (w % d.C+1)) hb.1 (by omega) (by omega) hc.1 hc.2.1 hc.2.2
  obtain ⟨_,cM0,_⟩:=FW h.cM (l:=d.rl (w / d.C)) (u:=d.rl (w / d.C+1)) (c:=d.cl (w % d.C)) (d:=d.cl (w % d.C+1)) hr.1 hr.2.1 hr.2.2 hc.1 hc.2.1 hc.2.2
  have hk:=h.cA.c1
  have e1:AH (d.S[s].To - d.S[s].From)=CV d.S (s+1) - CV d.S s:=by rw [AY (by omega) (by omega)]; omega
  show SK d.r (d.rl (w / d.C+1) - d.rl (w / d.C)) (AH (d.S[s].To - d.S[s].From)) (fZ d (w / d.C) (CV d.S s) (CV d.S (s+1))) _
  have vA2:=sS (l:=d.rl (w / d.C)) (u:=d.rl (w / d.C+1)) (c:=CV d.S s) (d:=CV d.S (s+1)) h.vA
  have vB2:=sS (l:=CV d.S s) (u:=CV d.S (s+1)) (c:=d.cl (w % d.C)) (d:=d.cl (w % d.C+1)) h.vB
  rw [e1]
  refine AbX (by have:=cA2.len; unfold fZ; omega) vA2 ?_
  show SK d.r (AH (d.S[s].To - d.S[s].From)) (d.cl (w % d.C+1) - d.cl (w % d.C)) (jS d (w % d.C) (CV d.S s) (CV d.S (s+1))) _
  rw [e1]
  refine AbX (by have:=cB2.len; unfold jS; omega) vB2 ?_
  unfold fZ jS
  rw [oS cA2 vA2 h.r,oS cB2 vB2 h.r]
  refine kY cA2 cB2 cM0 vA2 vB2 ?_
  have hrr:=h.r
  unfold vV
  rw [if_neg (by show ¬ ¬(1≤d.r∧d.r≤5); omega),if_neg (by omega)]
  show OG d.r [TW d (w / d.C) (w % d.C) s,FB d.r (fZ d (w / d.C) (CV d.S s) (CV d.S (s+1))) (jS d (w % d.C) (CV d.S s) (CV d.S (s+1))) (bkM d (w / d.C) (w % d.C))] _
  obtain ⟨s0,o0,z0⟩:=dZ (r:=d.r) (A:=fZ d (w / d.C) 0 (CV d.S (s+1))) (B:=jS d (w % d.C) 0 (CV d.S (s+1))) cM0
  obtain ⟨s1,o1,z1⟩:=dZ (r:=d.r) (A:=fZ d (w / d.C) 0 (CV d.S s)) (B:=jS d (w % d.C) 0 (CV d.S s)) cM0
  obtain ⟨s2,o2,z2⟩:=dZ (r:=d.r) (A:=fZ d (w / d.C) (CV d.S s) (CV d.S (s+1))) (B:=jS d (w % d.C) (CV d.S s) (CV d.S (s+1))) cM0
  have efl:∀ (x y:List AJ),([x,y]:List (List AJ)).flatten=x++y:=fun x y=>by simp
  refine lE (by simp) (by rw [efl,List.length_append]; unfold TW bkM; omega) (by rw [efl]; exact fun c hc=>(List.mem_append.1 hc).elim (o1 c) (o2 c)) (fun h'=>absurd hrr h') (fun _ h'=>absurd (fun l hl=>?_) h') (fun _ _ x hs ho hsl he'=>?_)
  · simp only [List.mem_cons,List.not_mem_nil,or_false] at hl
    rcases hl with rfl | rfl
    · exact s1
    · exact s2
  · have hall:x=TW d (w / d.C) (w % d.C) (s+1):=AcP (r:=d.r) hs s0 fun key=>by
      rw [he',efl]
      exact (OQ o1 o2).trans (AaK h (w / d.C) (w % d.C) hb.1 (by omega) (by omega) key).symm
    subst hall
    exact hQ
open Go Go.Fw Go.Sort
variable {d:Data}
def shC (a b:Int) (x:AJ):AJ:=⟨x.Row+a,x.Col+b,x.Val⟩
def bkC (d:Data) (i j:Nat):List AJ:=(TW d i j d.S.length).map (shC (d.rl i) (d.cl j))
def eJ (d:Data):List AJ:=FB d.r d.A d.B d.M
theorem wD (h:aO d) (i j:Nat) {t:AD} (ht:t∈bkM d i j):MN d.r (fZ d i 0 d.k) (jS d j 0 d.k) t.Row t.Col=MN d.r d.A d.B (t.Row+d.rl i) (t.Col+d.cl j):=by
  have hr:=tI h i
  have hc:=tJ h j
  obtain ⟨_,cA0,lA0⟩:=FW h.cA (l:=d.rl i) (u:=d.rl (i+1)) (c:=0) (d:=d.k) hr.1 hr.2.1 hr.2.2 (by omega) h.cA.c0 (by omega)
  obtain ⟨_,cB0,lB0⟩:=FW h.cB (l:=0) (u:=d.k) (c:=d.cl j) (d:=d.cl (j+1)) (by omega) h.cA.c0 (by omega) hc.1 hc.2.1 hc.2.2
  obtain ⟨_,cM0,_⟩:=FW h.cM (l:=d.rl i) (u:=d.rl (i+1)) (c:=d.cl j) (d:=d.cl (j+1)) hr.1 hr.2.1 hr.2.2 hc.1 hc.2.1 hc.2.2
  simp only [Int.sub_zero,Int.add_zero] at cA0 lA0 cB0 lB0
  have hin:=cM0.inn t ht
  unfold ZB at hin
  unfold fZ jS
  rw [TE cA0 hin.1,TE h.cA (by omega)]
  refine ZV (fun x hx=>?_) (fun x hx=>?_)
  · rw [lA0 _ _ hin.1 hin.2.1 (by omega) (by omega)]
  · unfold vU
    rw [lB0 _ _ (by omega) (by omega) hin.2.2.1 hin.2.2.2]
theorem AgV (h:aO d) (i j:Nat):bkC d i j=((bkM d i j).map (shT (d.rl i) (d.cl j))).filterMap (HV d.r d.A d.B):=by
  unfold bkC TW FB
  rw [h.seg.top,List.map_filterMap,List.filterMap_map]
  refine XL fun t ht=>?_
  have:=wD h i j ht
  simp only [Function.comp_apply,HV,shT]
  rw [this]
  cases MN d.r d.A d.B (t.Row+d.rl i) (t.Col+d.cl j) <;> simp [shC]
theorem pP (h:aO d):((List.range (d.R*d.C)).flatMap fun k=>bkC d (k / d.C) (k % d.C)).Perm (eJ d):=by
  have hC:=h.C
  rw [mL (by omega) (fun i j=>bkC d i j)]
  have e:((List.range d.R).flatMap fun i=>(List.range d.C).flatMap fun j=>bkC d i j)=(((List.range d.R).flatMap fun i:Nat=>(List.range d.C).flatMap fun j:Nat=>(bkM d i j).map (shT (d.rl i) (d.cl j))).filterMap (HV d.r d.A d.B)):=by
    rw [List.filterMap_flatMap]
    refine NO fun i _=>?_
    rw [List.filterMap_flatMap]
    exact NO fun j _=>AgV h i j
  rw [e]
  refine List.Perm.filterMap _ ?_
  have hp:WW d.n (d.R:Int):=⟨⟨h.cM.r0,h.cM.r1⟩,by have:=h.R; omega⟩
  have hq:WW d.q (d.C:Int):=⟨⟨h.cM.c0,h.cM.c1⟩,by have:=h.C; omega⟩
  exact sW h.cM hp hq
def cfC (x y:AJ):Int:=uP (OP x.Row y.Row) (OP x.Col y.Col)
theorem pQ (x y:AJ):cfC x y<0↔TT (x.Row,x.Col) (y.Row,y.Col):=UM x y
theorem Af6:SWO (ltOf cfC) where
  irrefl x:=by unfold ltOf; simp only [pQ]; simp [TT]
  trans x y z h1 h2:=by unfold ltOf at *; simp only [pQ,decide_eq_true_eq] at *; exact ML h1 h2
  ntrans x y z h1 h2:=by unfold ltOf at *; simp only [pQ,decide_eq_false_iff_not,TT] at *; omega
variable {adr:Nat→Nat} {m:MS} {o0:AB} {o1:List (Nat×AA)} {o2:List (Nat×AF)}
theorem Ad7 (h:aO d):yJ d.n d.q (eJ d):=gW (r:=d.r) (ra:=0) (ca:=0) (rb:=0) (cb:=0) (A:=d.A) (B:=d.B) h.cM
theorem AaL {x y:AJ} {Q:Int→Prop} (h:Q (cfC x y)):GK x y Q:=by
  unfold GK
  exact FM (FM (fF h))
def pR (d:Data) (m:MS) (n:Nat):List AJ:=(List.range n).flatMap fun k=>(TW d (k / d.C) (k % d.C) (m.w k).at_).map (shC (d.rl (k / d.C)) (d.cl (k % d.C)))
theorem tK (h:aO d) (i j t:Nat):(TW d i j t).length≤65536∧∀ x∈TW d i j t,0≤x.Row∧x.Row≤4096∧0≤x.Col∧x.Col≤4096:=by
  have hr:=tI h i
  have hc:=tJ h j
  obtain ⟨_,cM0,_⟩:=FW h.cM (l:=d.rl i) (u:=d.rl (i+1)) (c:=d.cl j) (d:=d.cl (j+1)) hr.1 hr.2.1 hr.2.2 hc.1 hc.2.1 hc.2.2
  have hP:=gW (r:=d.r) (ra:=0) (ca:=0) (rb:=0) (cb:=0) (A:=fZ d i 0 (CV d.S t)) (B:=jS d j 0 (CV d.S t)) cM0
  refine ⟨hP.len,fun x hx=>?_⟩
  have:=hP.inn x hx
  have h1:=h.cM.r1
  have h2:=h.cM.c1
  omega
theorem jT (h:aO d) (m:MS):∀ n:Nat,(pR d m n).length≤n*65536
  | 0=>by simp [pR]
  | n+1=>by
    have:=jT h m n
    have:=(tK h (n / d.C) (n % d.C) (m.w n).at_).1
    unfold pR at *
    rw [List.range_succ,List.flatMap_append,List.length_append,List.flatMap_singleton,List.length_map]
    omega
theorem Ad8 (h:aO d) {adr:Nat→Nat} (he:m.ended (d.ctx adr)=true):(pR d m (d.R*d.C)).Perm (eJ d):=by
  have:pR d m (d.R*d.C)=(List.range (d.R*d.C)).flatMap fun k=>bkC d (k / d.C) (k % d.C):=NO fun k hk=>by
    rw [YN.1 he k (List.mem_range.1 hk)]; rfl
  rw [this]
  exact pP h
theorem AaM (h:aO d) (hr:Rep (d.ctx adr) m o0 o1 o2) (zs:List AJ) (hp:(pR d m (d.R*d.C)).Perm zs) (hz:zs.Pairwise gV) {Q:List AJ→Prop} (hQ:Q zs):EE o0 o1 Q:=by
  have hR:=h.R
  have hC:=h.C
  have hn:d.R*d.C≤64:=Nat.mul_le_mul hR.2 hC.2
  have hn1:=h.cM.r1
  have hq1:=h.cM.c1
  unfold EE
  have hlen:o0.workers.length=d.R*d.C:=hr.len
  refine GJ (fun j (x:List AJ×Int)=>∃ k:Nat,x=(pR d m k,(k:Int))∧k+j=d.R*d.C) (m0:=d.R*d.C) ⟨0,rfl,by omega⟩ ?_
  rintro j _ next ⟨k,rfl,hkj⟩ hnext
  show AQ (decide ((k:Int)<(o0.workers.length:Int))) _ _
  rw [hlen]
  refine AC (fun hk=>?_) (fun hk=>?_)
  · have hk':k<(d.ctx adr).n:=by show k<d.R*d.C; omega
    obtain ⟨x,hx,hw⟩:=hr.wk k hk'
    refine AO (by omega) (hr.get hk') (MO hx ?_)
    rw [hr.p,hw.i,hw.j]
    show FO d.n (d.R:Int) ((k / d.C:Nat):Int) _
    refine IG ?_
    show FO d.q (d.C:Int) ((k % d.C:Nat):Int) _
    refine IG (MO hx ?_)
    have hhas:x.has=TW d (k / d.C) (k % d.C) (m.w k).at_:=hw.has
    rw [hhas]
    obtain ⟨hl,hin⟩:=tK h (k / d.C) (k % d.C) (m.w k).at_
    have hbase:=jT h m k
    have b1:=tI h (k / d.C)
    have b2:=tJ h (k % d.C)
    refine GJ (fun j (y:List AJ×Int)=>∃ i:Nat,y=(pR d m k++((TW d (k / d.C) (k % d.C) (m.w k).at_).take i).map (shC (d.rl (k / d.C)) (d.cl (k % d.C))),(i:Int))∧i+j=(TW d (k / d.C) (k % d.C) (m.w k).at_).length) (m0:=(TW d (k / d.C) (k % d.C) (m.w k).at_).length) ⟨0,by simp,by omega⟩ ?_
    rintro j2 _ next2 ⟨i,rfl,hij⟩ hnext2
    show AQ (decide ((i:Int)<((TW d (k / d.C) (k % d.C) (m.w k).at_).length:Int))) _ _
    refine AC (fun hi=>?_) (fun hi=>?_)
    · have hi':i<(TW d (k / d.C) (k % d.C) (m.w k).at_).length:=by omega
      refine BK hi' (BB ?_ ?_)
      · simp only [List.length_append,List.length_map,List.length_take,List.length_singleton]; omega
      · have hx':=hin _ (List.getElem_mem hi')
        have e1:AH ((TW d (k / d.C) (k % d.C) (m.w k).at_)[i].Row+CT d.n (d.R:Int) ((k / d.C:Nat):Int))=(TW d (k / d.C) (k % d.C) (m.w k).at_)[i].Row+d.rl (k / d.C):=by
          show AH (_+d.rl (k / d.C))=_
          rw [AY (by omega) (by omega)]
        have e2:AH ((TW d (k / d.C) (k % d.C) (m.w k).at_)[i].Col+CT d.q (d.C:Int) ((k % d.C:Nat):Int))=(TW d (k / d.C) (k % d.C) (m.w k).at_)[i].Col+d.cl (k % d.C):=by
          show AH (_+d.cl (k % d.C))=_
          rw [AY (by omega) (by omega)]
        rw [e1,e2]
        refine hnext2 (j2 - 1) _ (by omega) ⟨i+1,?_,by omega⟩
        rw [AY (by omega) (by omega),List.take_succ_eq_append_getElem hi',List.map_append,List.append_assoc]
        simp [shC]
    · have hie:i=(TW d (k / d.C) (k % d.C) (m.w k).at_).length:=by omega
      subst hie
      refine hnext (j - 1) _ (by omega) ⟨k+1,?_,by omega⟩
      rw [AY (by omega) (by omega),List.take_length]
      unfold pR
      rw [List.range_succ,List.flatMap_append,List.flatMap_singleton]
      simp
  · have hke:k=d.R*d.C:=by omega
    subst hke
    have hlen:=jT h m (d.R*d.C)
    refine oK cfC (fun x y Q hq=>AaL hq) Af6 (by have:d.R*d.C*65536≤64*65536:=Nat.mul_le_mul_right _ hn; omega) hp (hz.imp fun {a b} hab=>(pQ a b).2 hab) hQ
theorem tL (h:aO d) (hr:Rep (d.ctx adr) m o0 o1 o2) (he:m.ended (d.ctx adr)=true) {Q:List AJ→Prop} (hQ:Q (eJ d)):EE o0 o1 Q:=
  AaM h hr (eJ d) (Ad8 h he) (Ad7 h).inc hQ
theorem pS (h:aO d) (hr:Rep (d.ctx adr) m o0 o1 o2) (he:m.ended (d.ctx adr)=true) {Q:Rows×Int→Prop} (hQ:Q (VT d.r d.n d.q (eJ d))):DZ o0 o1 Q:=by
  unfold DZ
  refine tL h hr he ?_
  rw [hr.p]
  exact pC h.r ⟨⟨h.cM.r0,h.cM.r1⟩,h.cM.c0,h.cM.c1⟩ (Ad7 h) hQ
end Go.Proofs.YtbohadngdkjljaaGreat
