import Derived.Test.YtbohadngdkjljaaGreatSumE
namespace Go.Proofs.YtbohadngdkjljaaGreat
open Go Go.Fw
set_option linter.unusedVariables false
set_option linter.unusedSimpArgs false
variable {c:VL} {m:MS} {s:Abs} {N:Nat}
theorem uK (gl gr:Nat→Bool) (S:Nat):∀ (j a:Nat),a≤S→S≤a+j→a≤VM gl gr S j a∧VM gl gr S j a≤S∧¬(VM gl gr S j a<S∧gl (VM gl gr S j a)=true∧gr (VM gl gr S j a)=true)
  | 0,a,h1,h2=>by unfold VM; exact ⟨Nat.le_refl _,h1,fun h=>by omega⟩
  | j+1,a,h1,h2=>by
    unfold VM
    split
    · rename_i h
      have:=uK gl gr S j (a+1) (by omega) (by omega)
      exact ⟨by omega,this.2⟩
    · rename_i h; exact ⟨Nat.le_refl _,h1,h⟩
def Way (c:VL) (m:MS) (kind:Int) (k s:Nat):Prop:=∃ f,f<c.n∧((∃ g∈(m.w f).out,g.Kind=kind∧g.To=(k:Int)∧g.Round=(s:Int))∨∃ i g,(m.bx f k).taken≤i∧(m.bx f k).fs[i]? = some g∧g.Kind=kind∧g.Round=(s:Int))
structure Live (c:VL) (N:Nat) (m:MS):Prop where
  bx:∀ f t,f<c.n→t<c.n→BInv (m.bx f t)
  way:∀ k s,k<c.n→s<c.S.length→((m.w k).gl s=true∨Way c m 6 k s)∧((m.w k).gr s=true∨Way c m 7 k s)
  at_:∀ k,k<c.n→(m.w k).at_≤c.S.length∧¬((m.w k).at_<c.S.length∧(m.w k).gl (m.w k).at_=true∧(m.w k).gr (m.w k).at_=true)
  totN:MV c m+UI c m=N
theorem Live.setB (h:Live c N m) {f t:Nat} {a:Abs} (hf:f<c.n) (ht:t<c.n) (hb:BInv a) (h1:a.fs=(m.bx f t).fs) (h2:a.taken=(m.bx f t).taken):Live c N (CQ m f t a):=by
  have hw:∀ {kind k s},Way c m kind k s→Way c (CQ m f t a) kind k s:=by
    rintro kind k s ⟨q,hq,hq' | ⟨i,g,g1,g2,g3⟩⟩
    · exact ⟨q,hq,.inl hq'⟩
    · refine ⟨q,hq,.inr ⟨i,g,?_,?_,g3⟩⟩ <;> (by_cases e:q=f∧k=t)
      · obtain ⟨rfl,rfl⟩:=e; simpa [CQ,h2] using g1
      · simpa [CQ,e] using g1
      · obtain ⟨rfl,rfl⟩:=e; simpa [CQ,h1] using g2
      · simpa [CQ,e] using g2
  refine ⟨fun i j hi hj=>?_,fun k s hk hs=>⟨(h.way k s hk hs).1.imp id hw,(h.way k s hk hs).2.imp id hw⟩,h.at_,?_⟩
  · by_cases e:i=f∧j=t
    · simpa [CQ,e] using hb
    · simpa [CQ,e] using h.bx i j hi hj
  · have:=ZC (c:=c) (m:=m) (a:=a) hf ht
    rw [h1] at this
    have:=h.totN
    rw [cR]; omega
theorem Live.doubled (h:Live c N m) {f t:Nat} (hf:f<c.n) (ht:t<c.n) (k:Int):Live c N (m.double f t k).2:=by
  refine h.setB hf ht ((h.bx f t hf ht).double k) ?_ ?_ <;> (unfold Abs.double; split <;> (try split) <;> rfl)
theorem Live.moved (h:Live c N m) {f t:Nat} (hf:f<c.n) (ht:t<c.n) (k:Int):Live c N (m.move f t k).2:=by
  refine h.setB hf ht ((h.bx f t hf ht).move k) ?_ ?_ <;> (unfold Abs.move; split <;> rfl)
theorem eZ {k t:Nat} {f:BL} {r:List BL} (ho:(m.w k).out=f :: r) (hto:f.To=(t:Int)) (hnf:(m.bx k t).fullB=false) :
    m.send c k=(true,DQ (CQ m k t { m.bx k t with row:=(m.bx k t).row++[(m.bx k t).fs.length],fs:=(m.bx k t).fs++[{ f with Seq:=(m.bx k t).fs.length }] }) k { m.w k with out:=r }):=by
  have e:f.To.toNat=t:=by omega
  unfold MS.send
  rw [ho]
  show (if ((m.bx k f.To.toNat).send f).1=0 then _ else _)=_
  rw [e,ZB f hnf,if_pos rfl]
theorem AbJ {k t:Nat} {f:BL} {r:List BL} (ho:(m.w k).out=f :: r) (hto:f.To=(t:Int)) (hnf:(m.bx k t).fullB=true):m.send c k=(false,m):=by
  have e:f.To.toNat=t:=by omega
  unfold MS.send
  rw [ho]
  show (if ((m.bx k f.To.toNat).send f).1=0 then _ else _)=_
  rw [e]
  unfold Abs.send
  rw [if_pos hnf]
  rfl
theorem zY {k:Nat} (ho:(m.w k).out=[]):m.send c k=(false,m):=by unfold MS.send; rw [ho]
theorem gT (g:Good c m) {k:Nat} (hk:k<c.n):m.send c k=(false,m)∨∃ (t:Nat) (f:BL) (r:List BL),t<c.n∧(m.w k).out=f :: r∧f.To=(t:Int)∧(m.bx k t).fullB=false:=by
  cases ho:(m.w k).out with
  | nil=>exact .inl (zY ho)
  | cons f r=>
    obtain ⟨t,s,ht,hs,hto,_⟩:=g.out k hk f (by rw [ho]; exact List.mem_cons_self)
    cases hf:(m.bx k t).fullB with
    | true=>exact .inl (AbJ ho hto hf)
    | false=>exact .inr ⟨t,f,r,ht,rfl,hto,hf⟩
theorem Live.sent (h:Live c N m) (g:Good c m) {k:Nat} (hk:k<c.n):Live c N (m.send c k).2:=by
  rcases gT g hk with e | ⟨t,f,r,ht,ho,hto,hnf⟩
  · rw [e]; exact h
  · rw [eZ ho hto hnf]
    have hb:=h.bx k t hk ht
    have hbs:=hb.send f
    rw [ZB f hnf] at hbs
    have hw:∀ {kind q s},Way c m kind q s→Way c (DQ (CQ m k t { m.bx k t with row:=(m.bx k t).row++[(m.bx k t).fs.length],fs:=(m.bx k t).fs++[{ f with Seq:=(m.bx k t).fs.length }] }) k { m.w k with out:=r }) kind q s:=by
      rintro kind q s ⟨w,hw,⟨x,hx,hx1,hx2,hx3⟩ | ⟨i,x,g1,g2,g3⟩⟩
      · by_cases e:w=k
        · subst e
          rw [ho] at hx
          rcases List.mem_cons.1 hx with e' | hx
          · subst e'
            have et:q=t:=by omega
            subst et
            refine ⟨w,hw,.inr ⟨(m.bx w q).fs.length,{ x with Seq:=(m.bx w q).fs.length },?_,?_,hx1,hx3⟩⟩
            · simpa [DQ,CQ] using hb.tk
            · simp [DQ,CQ]
          · exact ⟨w,hw,.inl ⟨x,by simpa [DQ] using hx,hx1,hx2,hx3⟩⟩
        · exact ⟨w,hw,.inl ⟨x,by simpa [DQ,e,CQ] using hx,hx1,hx2,hx3⟩⟩
      · refine ⟨w,hw,.inr ⟨i,x,?_,?_,g3⟩⟩ <;> (by_cases e:w=k∧q=t)
        · obtain ⟨rfl,rfl⟩:=e; simpa [DQ,CQ] using g1
        · simpa [DQ,CQ,e] using g1
        · obtain ⟨rfl,rfl⟩:=e
          have hlt:i<(m.bx w q).fs.length:=(List.getElem?_eq_some_iff.1 g2).1
          simp only [DQ,CQ,and_self,if_true]
          rw [List.getElem?_append_left hlt]; exact g2
        · simpa [DQ,CQ,e] using g2
    have hgl:∀ q,((DQ (CQ m k t { m.bx k t with row:=(m.bx k t).row++[(m.bx k t).fs.length],fs:=(m.bx k t).fs++[{ f with Seq:=(m.bx k t).fs.length }] }) k { m.w k with out:=r }).w q).gl=(m.w q).gl∧((DQ (CQ m k t { m.bx k t with row:=(m.bx k t).row++[(m.bx k t).fs.length],fs:=(m.bx k t).fs++[{ f with Seq:=(m.bx k t).fs.length }] }) k { m.w k with out:=r }).w q).gr=(m.w q).gr∧((DQ (CQ m k t { m.bx k t with row:=(m.bx k t).row++[(m.bx k t).fs.length],fs:=(m.bx k t).fs++[{ f with Seq:=(m.bx k t).fs.length }] }) k { m.w k with out:=r }).w q).at_=(m.w q).at_:=by
      intro q
      by_cases e:q=k
      · subst e; simp [DQ]
      · simp [DQ,e,CQ]
    refine ⟨fun i j hi hj=>?_,fun q s hq hs=>?_,fun q hq=>?_,?_⟩
    · by_cases e:i=k∧j=t
      · obtain ⟨rfl,rfl⟩:=e; simpa [DQ,CQ] using hbs
      · simpa [DQ,CQ,e] using h.bx i j hi hj
    · rw [(hgl q).1,(hgl q).2.1]
      exact ⟨(h.way q s hq hs).1.imp id hw,(h.way q s hq hs).2.imp id hw⟩
    · rw [(hgl q).1,(hgl q).2.1,(hgl q).2.2]; exact h.at_ q hq
    · have h1:=ZC (c:=c) (m:=m) (a:={ m.bx k t with row:=(m.bx k t).row++[(m.bx k t).fs.length],fs:=(m.bx k t).fs++[{ f with Seq:=(m.bx k t).fs.length }] }) hk ht
      have h2:=kK (c:=c) (m:=CQ m k t { m.bx k t with row:=(m.bx k t).row++[(m.bx k t).fs.length],fs:=(m.bx k t).fs++[{ f with Seq:=(m.bx k t).fs.length }] }) (a:={ m.w k with out:=r }) hk
      rw [cR] at h2
      have e:((CQ m k t { m.bx k t with row:=(m.bx k t).row++[(m.bx k t).fs.length],fs:=(m.bx k t).fs++[{ f with Seq:=(m.bx k t).fs.length }] }).w k).out.length=r.length+1:=by show (m.w k).out.length=_; rw [ho]; rfl
      rw [e] at h2
      simp only [List.length_append,List.length_singleton] at h1
      have:=h.totN
      dsimp only at h1 h2 ⊢
      rw [gS]
      omega
theorem sG (s:Abs) (k:Int):(s.take k).2.2.2.taken=if (s.take k).2.1=true then s.taken+1 else s.taken:=by
  by_cases h0:s.at k≠0
  · simp [Abs.take,h0]
  · by_cases h1:s.taken<s.num k
    · simp [Abs.take,h0,h1]
    · by_cases h2:s.num k<s.taken <;> simp [Abs.take,h0,h1,h2]
theorem wF (h:BInv s) {k:Int} (ht:(s.take k).2.1=true):∃ hi:s.taken<s.fs.length,(s.take k).1=s.fs[s.taken]:=by
  unfold Abs.take at ht ⊢
  split at ht
  · cases ht
  · rename_i h0
    have h0':s.at k=0:=by simpa using h0
    obtain ⟨i,rfl,hi⟩:=QE h0'
    rw [QF hi] at ht ⊢
    rw [if_neg (by rw [h0']; simp)]
    have hlt:=h.lt _ (List.getElem_mem hi)
    split at ht
    · cases ht
    · split at ht
      · cases ht
      · rename_i h1 h2
        have e:s.row[i]=s.taken:=by omega
        rw [if_neg h1,if_neg h2]
        refine ⟨by omega,?_⟩
        simp [e,show s.taken<s.fs.length by omega]
theorem Live.handed (h:Live c N m) (g:Good c m) {f t:Nat} (hf:f<c.n) (ht:t<c.n) (k:Int):Live c N (m.hand c f t k).2:=by
  have hb:=h.bx f t hf ht
  have htk:=sG (m.bx f t) k
  have hfs:=uI (m.bx f t) k
  unfold MS.hand
  split
  · rename_i e
    rw [if_pos e] at htk
    obtain ⟨hi,hz⟩:=wF hb e
    obtain ⟨⟨t',s',ht',hs',hto,hro,hsm,hcn⟩,hto2⟩:=g.box f t hf ht _ (List.getElem_mem hi)
    rw [←hz] at hto hro hsm hcn hto2
    generalize hm2:(DQ (CQ m f t ((m.bx f t).take k).2.2.2) t (VX c.S.length (VO (m.w t) ((m.bx f t).take k).1)))=m2
    have hw2:∀ q,q≠t→m2.w q=m.w q:=fun q hq=>by rw [←hm2]; simp [DQ,hq,CQ]
    have hwt:m2.w t=VX c.S.length (VO (m.w t) ((m.bx f t).take k).1):=by rw [←hm2]; simp [DQ]
    have hbx:∀ i j,¬(i=f∧j=t)→m2.bx i j=m.bx i j:=fun i j hij=>by rw [←hm2]; simp [DQ,CQ,hij]
    have hbt:m2.bx f t=((m.bx f t).take k).2.2.2:=by rw [←hm2]; simp [DQ,CQ]
    have hout:∀ q,(m2.w q).out=(m.w q).out:=fun q=>by
      by_cases e':q=t
      · subst e'; rw [hwt]; simp [VX,bA]
      · rw [hw2 q e']
    -- a way stays, or is what came
    have hw:∀ {kind q s},Way c m kind q s→Way c m2 kind q s∨(q=t∧((m.bx f t).take k).1.Kind=kind∧((m.bx f t).take k).1.Round=(s:Int)):=by
      rintro kind q s ⟨w,hw,⟨x,hx,hx'⟩ | ⟨i,x,g1,g2,g3,g4⟩⟩
      · exact .inl ⟨w,hw,.inl ⟨x,by rw [hout]; exact hx,hx'⟩⟩
      · by_cases e':w=f∧q=t
        · obtain ⟨rfl,rfl⟩:=e'
          by_cases ei:i=(m.bx w q).taken
          · subst ei
            have:x=((m.bx w q).take k).1:=by rw [hz]; have:=(List.getElem?_eq_some_iff.1 g2).2; exact this.symm
            subst this
            exact .inr ⟨rfl,g3,g4⟩
          · exact .inl ⟨w,hw,.inr ⟨i,x,by rw [hbt,htk]; omega,by rw [hbt,hfs.1]; exact g2,g3,g4⟩⟩
        · exact .inl ⟨w,hw,.inr ⟨i,x,by rw [hbx w q e']; exact g1,by rw [hbx w q e']; exact g2,g3,g4⟩⟩
    refine ⟨fun i j hi' hj=>?_,fun q s hq hs=>?_,fun q hq=>?_,?_⟩
    · by_cases e':i=f∧j=t
      · obtain ⟨rfl,rfl⟩:=e'; rw [hbt]; exact hb.take k
      · rw [hbx i j e']; exact h.bx i j hi' hj
    · obtain ⟨w1,w2⟩:=h.way q s hq hs
      by_cases e':q=t
      · subst e'
        constructor
        · rcases w1 with w1 | w1
          · left; rw [hwt]; unfold VX VO
            split
            · simp [w1]
            · exact w1
          · rcases hw w1 with w1 | ⟨_,w3,w4⟩
            · exact .inr w1
            · left; rw [hwt]; unfold VX VO; rw [if_pos w3]; simp [w4]
        · rcases w2 with w1 | w1
          · left; rw [hwt]; unfold VX VO
            split
            · exact w1
            · simp [w1]
          · rcases hw w1 with w1 | ⟨_,w3,w4⟩
            · exact .inr w1
            · left; rw [hwt]; unfold VX VO; rw [if_neg (by omega)]; simp [w4]
      · rw [hw2 q e']
        exact ⟨w1.imp id fun x=>(hw x).resolve_right fun x=>e' x.1,w2.imp id fun x=>(hw x).resolve_right fun x=>e' x.1⟩
    · by_cases e':q=t
      · subst e'
        rw [hwt]
        have hle:(VO (m.w q) ((m.bx f q).take k).1).at_≤c.S.length:=by
          have:=(h.at_ q hq).1
          unfold VO; split <;> exact this
        exact (uK _ _ _ _ _ hle (by omega)).2
      · rw [hw2 q e']; exact h.at_ q hq
    · have h1:=ZC (c:=c) (m:=m) (a:=((m.bx f t).take k).2.2.2) hf ht
      rw [hfs.1] at h1
      have h2:=kK (c:=c) (m:=CQ m f t ((m.bx f t).take k).2.2.2) (a:=VX c.S.length (VO (m.w t) ((m.bx f t).take k).1)) ht
      rw [cR] at h2
      have e2:(VX c.S.length (VO (m.w t) ((m.bx f t).take k).1)).out=(m.w t).out:=by simp [VX,bA]
      rw [e2] at h2
      have e3:((CQ m f t ((m.bx f t).take k).2.2.2).w t).out=(m.w t).out:=rfl
      rw [e3] at h2
      have:=h.totN
      rw [←hm2,gS]
      show MV c (CQ m f t ((m.bx f t).take k).2.2.2)+UI c (DQ (CQ m f t ((m.bx f t).take k).2.2.2) t (VX c.S.length (VO (m.w t) ((m.bx f t).take k).1)))=N
      omega
  · rename_i e
    rw [if_neg e] at htk
    exact h.setB hf ht (hb.take k) hfs.1 htk
variable {c:VL} {m:MS} {s:Abs} {N:Nat}
def Phi (c:VL) (m:MS):Nat:=2*UI c m+uJ c m
theorem Live.sends (h:Live c N m) (hc:dQ c) (g:Good c m):∀ k,k≤c.n→Live c N (m.sends c k).2
  | 0,_=>h
  | k+1,hk=>(Live.sends h hc g k (by omega)).sent (g.sends hc k (by omega)) (by omega)
theorem Live.hands1 {x:Bool×MS} (h:Live c N x.2) (g:Good c x.2) {f:Nat} (hf:f<c.n):∀ k,k≤c.n→Live c N (hands1 c f x k).2
  | 0,_=>h
  | k+1,hk=>(Live.hands1 h g hf k (by omega)).handed (Good.hands1 g f k) hf (by omega) _
theorem Live.hands {x:Bool×MS} (h:Live c N x.2) (g:Good c x.2):∀ k,k≤c.n→Live c N (hands c x k).2
  | 0,_=>h
  | k+1,hk=>Live.hands1 (Live.hands h g k (by omega)) (Good.hands g k) (by omega) c.n (Nat.le_refl _)
theorem Live.window (h:Live c N m) (hc:dQ c) (g:Good c m):Live c N (m.window c).2:=Live.hands (h.sends hc g c.n (Nat.le_refl _)) (g.sends hc c.n (Nat.le_refl _)) c.n (Nat.le_refl _)
theorem Live.acted (h:Live c N m) (hc:dQ c) (g:Good c m) (x:FY):Live c N (m.act c x).2:=by
  unfold MS.act
  split
  · exact h
  · split
    · split
      · rename_i hi; exact h.sent g (by have:=hi.2; have:=hi.1; omega)
      · exact h
    · split
      · exact h.window hc g
      · split
        · rename_i hi
          have l1:x.A.toNat<c.n:=by have:=hi.1.2; have:=hi.1.1; omega
          have l2:x.B.toNat<c.n:=by have:=hi.2.2; have:=hi.2.1; omega
          split
          · exact h.handed g l1 l2 _
          · split
            · exact h.doubled l1 l2 _
            · exact h.moved l1 l2 _
        · exact h
theorem zZ (m:MS) (f t:Nat):(m.old c f t).bx f t=((m.bx f t).take (m.bx f t).oldest).2.2.2∧(∀ i j,¬(i=f∧j=t)→(m.old c f t).bx i j=m.bx i j)∧∀ k,((m.old c f t).w k).out=(m.w k).out:=by
  unfold MS.old MS.hand
  split
  · refine ⟨by simp [DQ,CQ],fun i j h=>by simp [DQ,CQ,h],fun k=>?_⟩
    by_cases e:k=t
    · subst e; simp [DQ,VX,bA,CQ]
    · simp [DQ,e,CQ]
  · exact ⟨by simp [CQ],fun i j h=>by simp [CQ,h],fun k=>rfl⟩
theorem AbK {f t:Nat} (h:BInv (m.bx f t)):((m.old c f t).bx f t).row.length=(m.bx f t).row.length - 1:=by
  rw [(zZ m f t).1]
  by_cases e:(m.bx f t).row=[]
  · rw [(wE e _).1,e]; rfl
  · have:=h.old e; omega
theorem Aa0 (h:Live c N m) (h0:Phi c m=0):∀ k,k<c.n→(m.w k).at_=c.S.length:=by
  have ho:UI c m=0:=by unfold Phi at h0; omega
  have hr:uJ c m=0:=by unfold Phi at h0; omega
  have noway:∀ {kind k s},k<c.n→¬Way c m kind k s:=by
    rintro kind k s hk ⟨f,hf,⟨g,hg,_⟩ | ⟨i,g,h1,h2,_⟩⟩
    · have:=bC ho f hf
      rw [List.length_eq_zero_iff.1 this] at hg
      exact absurd hg (List.not_mem_nil)
    · have:=bC (bC hr f hf) k hk
      have e:=List.length_eq_zero_iff.1 this
      have hlt:i<(m.bx f k).fs.length:=(List.getElem?_eq_some_iff.1 h2).1
      have:=(h.bx f k hf hk).pend i h1 hlt
      rw [e] at this
      exact absurd this (List.not_mem_nil)
  intro k hk
  have ha:=h.at_ k hk
  rcases Nat.lt_or_ge (m.w k).at_ c.S.length with hlt | hge
  · obtain ⟨w1,w2⟩:=h.way k _ hk hlt
    exact absurd ⟨hlt,w1.resolve_right (noway hk),w2.resolve_right (noway hk)⟩ ha.2
  · omega
variable {c:VL} {m:MS} {s:Abs} {N:Nat} {o0:AB} {o1 o1x:List (Nat×AA)} {o2:List (Nat×AF)}
def MS.ended (c:VL) (m:MS):Bool:=(List.range c.n).all fun k=>decide ((m.w k).at_=c.S.length)
theorem Y2:m.ended c=true↔∀ k,k<c.n→(m.w k).at_=c.S.length:=by simp [MS.ended,List.all_eq_true]
def mN (c:VL):Nat→MS→MS
  | 0,m=>m
  | j+1,m=>if m.ended c=true then m else mN c j (m.window c).2
theorem gU (hc:dQ c) (g:Good c m) (h0:∀ i j,i<c.n→j<c.n→(m.bx i j).row=[]):∀ k,k≤c.n →
    (∀ j,((m.sends c k).2.w j).out=if j<k then (m.w j).out.tail else (m.w j).out)∧(∀ i j,k≤i→(m.sends c k).2.bx i j=m.bx i j)∧∀ i j,i<c.n→j<c.n→((m.sends c k).2.bx i j).row.length≤1
  | 0,_=>⟨fun j=>by simp [MS.sends],fun _ _ _=>rfl,fun i j hi hj=>by simp [MS.sends,h0 i j hi hj]⟩
  | k+1,hk=>by
    obtain ⟨h1,h2,h3⟩:=gU hc g h0 k (by omega)
    have gk:=g.sends hc k (by omega)
    unfold MS.sends
    generalize hx:(m.sends c k).2=x at h1 h2 h3 gk
    have hkk:=h1 k
    rw [if_neg (by omega)] at hkk
    rcases gT gk (show k<c.n by omega) with e | ⟨t,f,r,ht,ho,hto,hnf⟩
    · have hnil:(x.w k).out=[]:=by
        cases hq:(x.w k).out with
        | nil=>rfl
        | cons f r=>
          exfalso
          obtain ⟨t,s,ht,hs,hto,_⟩:=gk.out k (by omega) f (by rw [hq]; exact List.mem_cons_self)
          have hnf:(x.bx k t).fullB=false:=by
            unfold Abs.fullB
            rw [(gk.room k t (by omega) ht).1,h2 k t (Nat.le_refl _),h0 k t (by omega) ht]
            have:=hc.r1
            simp; omega
          have:=eZ (c:=c) hq hto hnf
          rw [e] at this
          simp at this
      rw [e]
      refine ⟨fun j=>?_,fun i j hi=>h2 i j (by omega),h3⟩
      show (x.w j).out=_
      rw [h1 j]
      by_cases ej:j=k
      · subst ej
        rw [hkk] at hnil
        simp [hnil]
      · by_cases el:j<k
        · rw [if_pos el,if_pos (by omega)]
        · rw [if_neg el,if_neg (by omega)]
    · rw [eZ ho hto hnf]
      refine ⟨fun j=>?_,fun i j hi=>?_,fun i j hi hj=>?_⟩
      · by_cases ej:j=k
        · subst ej
          rw [ho] at hkk
          rw [if_pos (by omega),←hkk]
          simp [DQ]
        · have:=h1 j
          simp only [DQ,if_neg ej,CQ]
          rw [this]
          by_cases el:j<k
          · rw [if_pos el,if_pos (by omega)]
          · rw [if_neg el,if_neg (by omega)]
      · have ei:¬(i=k∧j=t):=by omega
        simp only [DQ,CQ,if_neg ei]
        exact h2 i j (by omega)
      · by_cases e:i=k∧j=t
        · obtain ⟨rfl,rfl⟩:=e
          simp only [DQ,CQ,and_self,if_true,List.length_append,List.length_singleton]
          rw [h2 i j (Nat.le_refl _),h0 i j hi hj]; simp
        · simp only [DQ,CQ,if_neg e]
          exact h3 i j hi hj
theorem dR {f:Nat} (hf:f<c.n) {x:Bool×MS} (h:Live c N x.2) (g:Good c x.2):∀ t,t≤c.n →
    (∀ k,((hands1 c f x t).2.w k).out=(x.2.w k).out)∧(∀ i j,¬(i=f∧j<t)→(hands1 c f x t).2.bx i j=x.2.bx i j)∧∀ j,j<t→((hands1 c f x t).2.bx f j).row.length=(x.2.bx f j).row.length - 1
  | 0,_=>⟨fun _=>rfl,fun _ _ _=>rfl,fun j hj=>by omega⟩
  | t+1,ht=>by
    obtain ⟨h1,h2,h3⟩:=dR hf h g t (by omega)
    have hl:=Live.hands1 h g hf t (by omega)
    have ho:=zZ (c:=c) (hands1 c f x t).2 f t
    have hlen:=AbK (c:=c) (hl.bx f t hf (by omega))
    unfold hands1
    refine ⟨fun k=>(ho.2.2 k).trans (h1 k),fun i j hij=>?_,fun j hj=>?_⟩
    · show (MS.old c _ f t).bx i j=_
      rw [ho.2.1 i j (by omega)]
      exact h2 i j (by omega)
    · show ((MS.old c _ f t).bx f j).row.length=_
      by_cases e:j=t
      · subst e
        rw [hlen,h2 f j (by omega)]
      · rw [ho.2.1 f j (by omega)]
        exact h3 j (by omega)
theorem gV {x:Bool×MS} (h:Live c N x.2) (g:Good c x.2):∀ f,f≤c.n →
    (∀ k,((hands c x f).2.w k).out=(x.2.w k).out)∧(∀ i j,f≤i→(hands c x f).2.bx i j=x.2.bx i j)∧∀ i j,i<f→j<c.n→((hands c x f).2.bx i j).row.length=(x.2.bx i j).row.length - 1
  | 0,_=>⟨fun _=>rfl,fun _ _ _=>rfl,fun i j hi=>by omega⟩
  | f+1,hf=>by
    obtain ⟨h1,h2,h3⟩:=gV h g f (by omega)
    obtain ⟨k1,k2,k3⟩:=dR (show f<c.n by omega) (Live.hands h g f (by omega)) (Good.hands g f) c.n (Nat.le_refl _)
    unfold hands
    refine ⟨fun k=>(k1 k).trans (h1 k),fun i j hi=>?_,fun i j hi hj=>?_⟩
    · rw [k2 i j (by omega)]; exact h2 i j (by omega)
    · by_cases e:i=f
      · subst e
        rw [k3 j hj,h2 i j (Nat.le_refl _)]
      · rw [k2 i j (by omega)]; exact h3 i j (by omega) hj
theorem pQ (hc:dQ c) (h:Live c N m) (g:Good c m) (h0:∀ i j,i<c.n→j<c.n→(m.bx i j).row=[]) :
    (∀ k,k<c.n→((m.window c).2.w k).out=(m.w k).out.tail)∧∀ i j,i<c.n→j<c.n→((m.window c).2.bx i j).row=[]:=by
  obtain ⟨s1,s2,s3⟩:=gU hc g h0 c.n (Nat.le_refl _)
  obtain ⟨h1,h2,h3⟩:=gV (h.sends hc g c.n (Nat.le_refl _)) (g.sends hc c.n (Nat.le_refl _)) c.n (Nat.le_refl _)
  unfold MS.window
  refine ⟨fun k hk=>?_,fun i j hi hj=>?_⟩
  · rw [h1 k,s1 k,if_pos hk]
  · have e1:=h3 i j hi hj
    have e2:=s3 i j hi hj
    exact List.length_eq_zero_iff.1 (by omega)
theorem kL (hc:dQ c):∀ (j:Nat) {m:MS},Live c N m→Good c m→(∀ a b,a<c.n→b<c.n→(m.bx a b).row=[])→(∀ k,k<c.n→(m.w k).out.length≤j)→(mN c j m).ended c=true
  | 0,m,h,g,h0,hp=>by
    show m.ended c=true
    exact Y2.2 (Aa0 h (by
      have ho:UI c m=0:=by
        unfold UI
        rw [DT (g:=fun _=>0) fun i hi=>by have:=hp i hi; omega,GM]; simp
      have hr:uJ c m=0:=by
        unfold uJ
        rw [DT (g:=fun _=>0) fun i hi=>by rw [DT (g:=fun _=>0) fun j hj=>by rw [h0 i j hi hj]; rfl,GM]; simp,GM]; simp
      unfold Phi; omega))
  | j+1,m,h,g,h0,hp=>by
    unfold mN
    split
    · assumption
    · obtain ⟨w1,w2⟩:=pQ hc h g h0
      refine kL hc j (h.window hc g) (g.window hc) w2 fun k hk=>?_
      have:=hp k hk
      rw [w1 k hk,List.length_tail]; omega
theorem gW (hc:dQ c) (h:Rep c m o0 o1 o2) {Q:Bool→Prop} (hQ:Q (m.ended c)):CO o0 o1 Q:=by
  have hn:=hc.n
  unfold CO CJ CL
  refine EX c.n (by omega) (fun i=>∀ k,k<i→(m.w k).at_=c.S.length) (fun k hk=>by omega) (fun i next hi hR hnext=>?_) (fun next hR=>?_)
  · show AQ (decide ((i:Int)<(o0.workers.length:Int))) _ _
    rw [h.len]
    refine BN (by simp; omega) (AM (by omega) (h.get hi) ?_)
    obtain ⟨x,hx,hw⟩:=h.wk i hi
    unfold GG
    refine KA hx ?_
    rw [hw.at_,h.S]
    have:=hw.le
    refine AD (fun hlt=>?_) (fun hge=>?_)
    · have e:m.ended c=false:=by
        cases hE:m.ended c with
        | false=>rfl
        | true=>have:=Y2.1 hE i hi; omega
      rw [e] at hQ
      have:decide (0≤(i:Int))=true:=by simp
      show Q (!decide (0≤(i:Int)))
      rw [this]; exact hQ
    · exact hnext fun k hk=>by
        by_cases ek:k=i
        · subst ek; omega
        · exact hR k (by omega)
  · show AQ (decide ((c.n:Int)<(o0.workers.length:Int))) _ _
    rw [h.len]
    refine AW (by simp) ?_
    have e:m.ended c=true:=Y2.2 hR
    rw [e] at hQ
    exact hQ
theorem pR (h:Rep c m o0 o1 o2) {k:Nat} (hk:k<c.n) {Q:Int→Prop} (hQ:Q ((m.w k).at_:Int)):EC o0 o1 k Q:=by
  unfold EC
  refine cO h (AW (by simp; omega) (AM (by omega) (h.get hk) ?_))
  obtain ⟨x,hx,hw⟩:=h.wk k hk
  refine KA hx ?_
  rw [hw.at_]; exact hQ
theorem mO (hc:dQ c) (h:Rep c m o0 o1 o2) {f t:Nat} (hf:f<c.n) (ht:t<c.n) {Q:(Int×AB×List (Nat×AF))→Prop}
    (hQ:∀ o0' o2',Rep c m o0' o1 o2'→Ext o0 o0'→Q (((m.bx f t).row.length:Int),o0',o2')):DS o0 o1x o2 f t Q:=by
  unfold DS
  refine gR hc h hf ht fun b pb o0' o2' h' hext hkey hb hi=>?_
  unfold ES
  rw [MC,SW hb]
  exact rX hi (hQ _ _ h' hext)
structure Data where
  r:Int
  n:Int
  k:Int
  q:Int
  A:List AC
  B:List AC
  M:List AC
  R:Nat
  C:Nat
  room:Nat
  S:List AY
def Data.p (d:Data):BB:={ Ring:=d.r,A:=BF d.n d.k d.A,B:=BF d.k d.q d.B,Mask:=BF d.n d.q d.M,R:=(d.R:Int),C:=(d.C:Int),Room:=(d.room:Int) }
def CT (S:List AY):Nat→Int
  | 0=>0
  | s+1=>(S.getD s default).To
structure Aa1 (d:Data):Prop where
  len:d.S.length+1≤d.R+d.C
  row:∀ s (h:s<d.S.length),0≤d.S[s].Row∧d.S[s].Row<d.R
  col:∀ s (h:s<d.S.length),0≤d.S[s].Col∧d.S[s].Col<d.C
  lo:∀ s (h:s<d.S.length),d.S[s].From=CT d.S s∧d.S[s].From≤d.S[s].To∧d.S[s].To≤d.k
  top:CT d.S d.S.length=d.k
structure YS (d:Data):Prop where
  r:1≤d.r∧d.r≤5
  cA:Canon d.n d.k d.A
  cB:Canon d.k d.q d.B
  cM:Canon d.n d.q d.M
  vA:∀ t∈d.A,JO t.Val
  vB:∀ t∈d.B,JO t.Val
  vM:∀ t∈d.M,JO t.Val
  R:1≤d.R∧d.R≤8
  C:1≤d.C∧d.C≤8
  room:1≤d.room∧d.room≤64
  seg:Aa1 d
variable {d:Data}
def Data.rl (d:Data) (i:Nat):Int:=CP d.n d.R i
def Data.cl (d:Data) (j:Nat):Int:=CP d.q d.C j
theorem pS (h:YS d) (i:Nat):0≤d.rl i∧d.rl i≤d.rl (i+1)∧d.rl (i+1)≤d.n:=⟨kD.1,WZ (by omega),kD.2 h.cA.r0⟩
theorem pT (h:YS d) (j:Nat):0≤d.cl j∧d.cl j≤d.cl (j+1)∧d.cl (j+1)≤d.q:=⟨kD.1,WZ (by omega),kD.2 h.cB.c0⟩
theorem mP (h:YS d):∀ s,s≤d.S.length→0≤CT d.S s∧CT d.S s≤d.k
  | 0,_=>⟨Int.le_refl _,h.cA.c0⟩
  | s+1,hs=>by
    have h1:=mP h s (by omega)
    have h2:=h.seg.lo s (by omega)
    have e:CT d.S (s+1)=d.S[s].To:=by
      show (d.S.getD s default).To=_
      simp [List.getD_eq_getElem?_getD,show s<d.S.length by omega]
    rw [e]; omega
theorem gX {s:Nat} (hs:s<d.S.length):CT d.S (s+1)=d.S[s].To:=by
  show (d.S.getD s default).To=_
  simp [List.getD_eq_getElem?_getD,hs]
def eG (d:Data) (i:Nat) (a b:Int):List AC:=KT (d.rl i) (d.rl (i+1)) a b d.A
def gY (d:Data) (j:Nat) (a b:Int):List AC:=KT a b (d.cl j) (d.cl (j+1)) d.B
def wV (d:Data) (i j:Nat):List AC:=KT (d.rl i) (d.rl (i+1)) (d.cl j) (d.cl (j+1)) d.M
def SG (d:Data) (i j:Nat) (t:Nat):List AK:=GH d.r (eG d i 0 (CT d.S t)) (gY d j 0 (CT d.S t)) (wV d i j)
def Data.ctx (d:Data) (adr:Nat→Nat):VL where
  p:=d.p
  S:=d.S
  n:=d.R*d.C
  adr:=adr
  wi:=fun k=>((k / d.C:Nat):Int)
  wj:=fun k=>((k % d.C:Nat):Int)
  mask:=fun k=>BF (d.rl (k / d.C+1) - d.rl (k / d.C)) (d.cl (k % d.C+1) - d.cl (k % d.C)) (wV d (k / d.C) (k % d.C))
  room:=d.room
  LA:=fun k s=>eG d (k / d.C) (CT d.S s) (CT d.S (s+1))
  RB:=fun k s=>gY d (k % d.C) (CT d.S s) (CT d.S (s+1))
  has:=fun k t=>SG d (k / d.C) (k % d.C) t
theorem wG (h:YS d) (i j:Nat) {a b:Int} (h0:0≤a) (h1:a≤b) (h2:b≤d.k) (k:HS) :
    GB d.r k (GH d.r (eG d i 0 b) (gY d j 0 b) (wV d i j))=eW d.r (GB d.r k (GH d.r (eG d i 0 a) (gY d j 0 a) (wV d i j))) (GB d.r k (GH d.r (eG d i a b) (gY d j a b) (wV d i j))):=by
  have hr:=pS h i
  have hc:=pT h j
  obtain ⟨_,cA0,lA0⟩:=FX h.cA (l:=d.rl i) (u:=d.rl (i+1)) (c:=0) (d:=b) hr.1 hr.2.1 hr.2.2 (by omega) (by omega) h2
  obtain ⟨_,cA1,lA1⟩:=FX h.cA (l:=d.rl i) (u:=d.rl (i+1)) (c:=0) (d:=a) hr.1 hr.2.1 hr.2.2 (by omega) h0 (by omega)
  obtain ⟨_,cA2,lA2⟩:=FX h.cA (l:=d.rl i) (u:=d.rl (i+1)) (c:=a) (d:=b) hr.1 hr.2.1 hr.2.2 h0 h1 h2
  obtain ⟨_,cB0,lB0⟩:=FX h.cB (l:=0) (u:=b) (c:=d.cl j) (d:=d.cl (j+1)) (by omega) (by omega) h2 hc.1 hc.2.1 hc.2.2
  obtain ⟨_,cB1,lB1⟩:=FX h.cB (l:=0) (u:=a) (c:=d.cl j) (d:=d.cl (j+1)) (by omega) h0 (by omega) hc.1 hc.2.1 hc.2.2
  obtain ⟨_,cB2,lB2⟩:=FX h.cB (l:=a) (u:=b) (c:=d.cl j) (d:=d.cl (j+1)) h0 h1 h2 hc.1 hc.2.1 hc.2.2
  obtain ⟨_,cM0,_⟩:=FX h.cM (l:=d.rl i) (u:=d.rl (i+1)) (c:=d.cl j) (d:=d.cl (j+1)) hr.1 hr.2.1 hr.2.2 hc.1 hc.2.1 hc.2.2
  simp only [Int.sub_zero,Int.add_zero] at cA0 lA0 cA1 lA1 cB0 lB0 cB1 lB1
  refine kC cM0.srt fun t ht=>?_
  have hin:=cM0.inn t ht
  unfold UD at hin
  unfold eG gY
  rw [UG cA0 hin.1,UG cA1 hin.1,UG cA2 hin.1,show b.toNat=a.toNat+(b - a).toNat by omega,oU]
  congr 1
  · refine Z9 (fun x hx=>?_) (fun x hx=>?_)
    · rw [lA0 _ _ hin.1 hin.2.1 (by omega) (by omega),lA1 _ _ hin.1 hin.2.1 (by omega) (by omega)]
    · unfold uD
      rw [lB0 _ _ (by omega) (by omega) hin.2.2.1 hin.2.2.2,lB1 _ _ (by omega) (by omega) hin.2.2.1 hin.2.2.2]
  · refine Z9 (fun x hx=>?_) (fun x hx=>?_)
    · rw [Int.toNat_of_nonneg h0,lA0 _ _ hin.1 hin.2.1 (by omega) (by omega),lA2 _ _ hin.1 hin.2.1 (by omega) (by omega)]
    · unfold uD
      rw [Int.toNat_of_nonneg h0,lB0 _ _ (by omega) (by omega) hin.2.2.1 hin.2.2.2,lB2 _ _ (by omega) (by omega) hin.2.2.1 hin.2.2.2]
theorem Aa2 (h:YS d) (adr:Nat→Nat):Rk (d.ctx adr):=by
  intro w s hs hw Q hQ
  have hs':s<d.S.length:=hs
  have hr:=pS h (w / d.C)
  have hc:=pT h (w % d.C)
  have hl:=h.seg.lo s hs'
  have hb:=mP h s (by omega)
  have he:=gX (d:=d) hs'
  obtain ⟨_,cA2,_⟩:=FX h.cA (l:=d.rl (w / d.C)) (u:=d.rl (w / d.C+1)) (c:=CT d.S s) (d:=CT d.S (s+1)) hr.1 hr.2.1 hr.2.2 hb.1 (by omega) (by omega)
  obtain ⟨_,cB2,_⟩:=FX h.cB (l:=CT d.S s) (u:=CT d.S (s+1)) (c:=d.cl (w % d.C)) (d:=d.cl (w % d.C+1)) hb.1 (by omega) (by omega) hc.1 hc.2.1 hc.2.2
  obtain ⟨_,cM0,_⟩:=FX h.cM (l:=d.rl (w / d.C)) (u:=d.rl (w / d.C+1)) (c:=d.cl (w % d.C)) (d:=d.cl (w % d.C+1)) hr.1 hr.2.1 hr.2.2 hc.1 hc.2.1 hc.2.2
  have hk:=h.cA.c1
  have e1:AJ (d.S[s].To - d.S[s].From)=CT d.S (s+1) - CT d.S s:=by rw [AV (by omega) (by omega)]; omega
  show RJ d.r (d.rl (w / d.C+1) - d.rl (w / d.C)) (AJ (d.S[s].To - d.S[s].From)) (eG d (w / d.C) (CT d.S s) (CT d.S (s+1))) _
  have vA2:=pF (l:=d.rl (w / d.C)) (u:=d.rl (w / d.C+1)) (c:=CT d.S s) (d:=CT d.S (s+1)) h.vA
  have vB2:=pF (l:=CT d.S s) (u:=CT d.S (s+1)) (c:=d.cl (w % d.C)) (d:=d.cl (w % d.C+1)) h.vB
  rw [e1]
  refine yB (by have:=cA2.len; unfold eG; omega) vA2 ?_
  show RJ d.r (AJ (d.S[s].To - d.S[s].From)) (d.cl (w % d.C+1) - d.cl (w % d.C)) (gY d (w % d.C) (CT d.S s) (CT d.S (s+1))) _
  rw [e1]
  refine yB (by have:=cB2.len; unfold gY; omega) vB2 ?_
  unfold eG gY
  rw [eV cA2 vA2 h.r,eV cB2 vB2 h.r]
  refine iW cA2 cB2 cM0 vA2 vB2 ?_
  have hrr:=h.r
  unfold rS
  rw [if_neg (by show ¬ ¬(1≤d.r∧d.r≤5); omega),if_neg (by omega)]
  show NS d.r [SG d (w / d.C) (w % d.C) s,GH d.r (eG d (w / d.C) (CT d.S s) (CT d.S (s+1))) (gY d (w % d.C) (CT d.S s) (CT d.S (s+1))) (wV d (w / d.C) (w % d.C))] _
  obtain ⟨s0,o0,z0⟩:=cL (r:=d.r) (A:=eG d (w / d.C) 0 (CT d.S (s+1))) (B:=gY d (w % d.C) 0 (CT d.S (s+1))) cM0
  obtain ⟨s1,o1,z1⟩:=cL (r:=d.r) (A:=eG d (w / d.C) 0 (CT d.S s)) (B:=gY d (w % d.C) 0 (CT d.S s)) cM0
  obtain ⟨s2,o2,z2⟩:=cL (r:=d.r) (A:=eG d (w / d.C) (CT d.S s) (CT d.S (s+1))) (B:=gY d (w % d.C) (CT d.S s) (CT d.S (s+1))) cM0
  have efl:∀ (x y:List AK),([x,y]:List (List AK)).flatten=x++y:=fun x y=>by simp
  refine iZ (by simp) (by rw [efl,List.length_append]; unfold SG wV; omega) (by rw [efl]; exact fun c hc=>(List.mem_append.1 hc).elim (o1 c) (o2 c)) (fun h'=>absurd hrr h') (fun _ h'=>absurd (fun l hl=>?_) h') (fun _ _ x hs ho hsl he'=>?_)
  · simp only [List.mem_cons,List.not_mem_nil,or_false] at hl
    rcases hl with rfl | rfl
    · exact s1
    · exact s2
  · have hall:x=SG d (w / d.C) (w % d.C) (s+1):=zK (r:=d.r) hs s0 fun key=>by
      rw [he',efl]
      exact (OC o1 o2).trans (wG h (w / d.C) (w % d.C) hb.1 (by omega) (by omega) key).symm
    subst hall
    exact hQ
end Go.Proofs.YtbohadngdkjljaaGreat
