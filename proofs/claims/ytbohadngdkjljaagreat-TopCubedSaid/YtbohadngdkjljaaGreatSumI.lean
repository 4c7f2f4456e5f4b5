import Derived.Test.YtbohadngdkjljaaGreatSumE
namespace Go.Proofs.YtbohadngdkjljaaGreat
open Go Go.Fw
set_option linter.unusedVariables false
set_option linter.unusedSimpArgs false
variable {c:TW} {m:MS} {s:Abs} {N:Nat}
theorem sU (gl gr:Nat→Bool) (S:Nat):∀ (j a:Nat),a≤S→S≤a+j→a≤TX gl gr S j a∧TX gl gr S j a≤S∧¬(TX gl gr S j a<S∧gl (TX gl gr S j a)=true∧gr (TX gl gr S j a)=true)
  | 0,a,h1,h2=>by unfold TX; exact ⟨Nat.le_refl _,h1,fun h=>by omega⟩
  | j+1,a,h1,h2=>by
    unfold TX
    split
    · rename_i h
      have:=sU gl gr S j (a+1) (by omega) (by omega)
      exact ⟨by omega,this.2⟩
    · rename_i h; exact ⟨Nat.le_refl _,h1,h⟩
def Way (c:TW) (m:MS) (kind:Int) (k s:Nat):Prop:=∃ f,f<c.n∧((∃ g∈(m.w f).out,g.Kind=kind∧g.To=(k:Int)∧g.Round=(s:Int))∨∃ i g,(m.bx f k).taken≤i∧(m.bx f k).fs[i]? = some g∧g.Kind=kind∧g.Round=(s:Int))
structure Live (c:TW) (N:Nat) (m:MS):Prop where
  bx:∀ f t,f<c.n→t<c.n→BInv (m.bx f t)
  way:∀ k s,k<c.n→s<c.S.length→((m.w k).gl s=true∨Way c m 6 k s)∧((m.w k).gr s=true∨Way c m 7 k s)
  at_:∀ k,k<c.n→(m.w k).at_≤c.S.length∧¬((m.w k).at_<c.S.length∧(m.w k).gl (m.w k).at_=true∧(m.w k).gr (m.w k).at_=true)
  totN:Z7 c m+QM c m=N
theorem Live.setB (h:Live c N m) {f t:Nat} {a:Abs} (hf:f<c.n) (ht:t<c.n) (hb:BInv a) (h1:a.fs=(m.bx f t).fs) (h2:a.taken=(m.bx f t).taken):Live c N (CI m f t a):=by
  have hw:∀ {kind k s},Way c m kind k s→Way c (CI m f t a) kind k s:=by
    rintro kind k s ⟨q,hq,hq' | ⟨i,g,g1,g2,g3⟩⟩
    · exact ⟨q,hq,.inl hq'⟩
    · refine ⟨q,hq,.inr ⟨i,g,?_,?_,g3⟩⟩ <;> (by_cases e:q=f∧k=t)
      · obtain ⟨rfl,rfl⟩:=e; simpa [CI,h2] using g1
      · simpa [CI,e] using g1
      · obtain ⟨rfl,rfl⟩:=e; simpa [CI,h1] using g2
      · simpa [CI,e] using g2
  refine ⟨fun i j hi hj=>?_,fun k s hk hs=>⟨(h.way k s hk hs).1.imp id hw,(h.way k s hk hs).2.imp id hw⟩,h.at_,?_⟩
  · by_cases e:i=f∧j=t
    · simpa [CI,e] using hb
    · simpa [CI,e] using h.bx i j hi hj
  · have:=XR (c:=c) (m:=m) (a:=a) hf ht
    rw [h1] at this
    have:=h.totN
    rw [WK]; omega
theorem Live.doubled (h:Live c N m) {f t:Nat} (hf:f<c.n) (ht:t<c.n) (k:Int):Live c N (m.double f t k).2:=by
  refine h.setB hf ht ((h.bx f t hf ht).double k) ?_ ?_ <;> (unfold Abs.double; split <;> (try split) <;> rfl)
theorem Live.moved (h:Live c N m) {f t:Nat} (hf:f<c.n) (ht:t<c.n) (k:Int):Live c N (m.move f t k).2:=by
  refine h.setB hf ht ((h.bx f t hf ht).move k) ?_ ?_ <;> (unfold Abs.move; split <;> rfl)
theorem cQ {k t:Nat} {f:BI} {r:List BI} (ho:(m.w k).out=f :: r) (hto:f.To=(t:Int)) (hnf:(m.bx k t).fullB=false) :
    m.send c k=(true,EA (CI m k t { m.bx k t with row:=(m.bx k t).row++[(m.bx k t).fs.length],fs:=(m.bx k t).fs++[{ f with Seq:=(m.bx k t).fs.length }] }) k { m.w k with out:=r }):=by
  have e:f.To.toNat=t:=by omega
  unfold MS.send
  rw [ho]
  show (if ((m.bx k f.To.toNat).send f).1=0 then _ else _)=_
  rw [e,XQ f hnf,if_pos rfl]
theorem AaF {k t:Nat} {f:BI} {r:List BI} (ho:(m.w k).out=f :: r) (hto:f.To=(t:Int)) (hnf:(m.bx k t).fullB=true):m.send c k=(false,m):=by
  have e:f.To.toNat=t:=by omega
  unfold MS.send
  rw [ho]
  show (if ((m.bx k f.To.toNat).send f).1=0 then _ else _)=_
  rw [e]
  unfold Abs.send
  rw [if_pos hnf]
  rfl
theorem yC {k:Nat} (ho:(m.w k).out=[]):m.send c k=(false,m):=by unfold MS.send; rw [ho]
theorem XS (g:Good c m) {k:Nat} (hk:k<c.n):m.send c k=(false,m)∨∃ (t:Nat) (f:BI) (r:List BI),t<c.n∧(m.w k).out=f :: r∧f.To=(t:Int)∧(m.bx k t).fullB=false:=by
  cases ho:(m.w k).out with
  | nil=>exact .inl (yC ho)
  | cons f r=>
    obtain ⟨t,s,ht,hs,hto,_⟩:=g.out k hk f (by rw [ho]; exact List.mem_cons_self)
    cases hf:(m.bx k t).fullB with
    | true=>exact .inl (AaF ho hto hf)
    | false=>exact .inr ⟨t,f,r,ht,rfl,hto,hf⟩
theorem Live.sent (h:Live c N m) (g:Good c m) {k:Nat} (hk:k<c.n):Live c N (m.send c k).2:=by
  rcases XS g hk with e | ⟨t,f,r,ht,ho,hto,hnf⟩
  · rw [e]; exact h
  · rw [cQ ho hto hnf]
    have hb:=h.bx k t hk ht
    have hbs:=hb.send f
    rw [XQ f hnf] at hbs
    have hw:∀ {kind q s},Way c m kind q s→Way c (EA (CI m k t { m.bx k t with row:=(m.bx k t).row++[(m.bx k t).fs.length],fs:=(m.bx k t).fs++[{ f with Seq:=(m.bx k t).fs.length }] }) k { m.w k with out:=r }) kind q s:=by
      rintro kind q s ⟨w,hw,⟨x,hx,hx1,hx2,hx3⟩ | ⟨i,x,g1,g2,g3⟩⟩
      · by_cases e:w=k
        · subst e
          rw [ho] at hx
          rcases List.mem_cons.1 hx with e' | hx
          · subst e'
            have et:q=t:=by omega
            subst et
            refine ⟨w,hw,.inr ⟨(m.bx w q).fs.length,{ x with Seq:=(m.bx w q).fs.length },?_,?_,hx1,hx3⟩⟩
            · simpa [EA,CI] using hb.tk
            · simp [EA,CI]
          · exact ⟨w,hw,.inl ⟨x,by simpa [EA] using hx,hx1,hx2,hx3⟩⟩
        · exact ⟨w,hw,.inl ⟨x,by simpa [EA,e,CI] using hx,hx1,hx2,hx3⟩⟩
      · refine ⟨w,hw,.inr ⟨i,x,?_,?_,g3⟩⟩ <;> (by_cases e:w=k∧q=t)
        · obtain ⟨rfl,rfl⟩:=e; simpa [EA,CI] using g1
        · simpa [EA,CI,e] using g1
        · obtain ⟨rfl,rfl⟩:=e
          have hlt:i<(m.bx w q).fs.length:=(List.getElem?_eq_some_iff.1 g2).1
          simp only [EA,CI,and_self,if_true]
          rw [List.getElem?_append_left hlt]; exact g2
        · simpa [EA,CI,e] using g2
    have hgl:∀ q,((EA (CI m k t { m.bx k t with row:=(m.bx k t).row++[(m.bx k t).fs.length],fs:=(m.bx k t).fs++[{ f with Seq:=(m.bx k t).fs.length }] }) k { m.w k with out:=r }).w q).gl=(m.w q).gl∧((EA (CI m k t { m.bx k t with row:=(m.bx k t).row++[(m.bx k t).fs.length],fs:=(m.bx k t).fs++[{ f with Seq:=(m.bx k t).fs.length }] }) k { m.w k with out:=r }).w q).gr=(m.w q).gr∧((EA (CI m k t { m.bx k t with row:=(m.bx k t).row++[(m.bx k t).fs.length],fs:=(m.bx k t).fs++[{ f with Seq:=(m.bx k t).fs.length }] }) k { m.w k with out:=r }).w q).at_=(m.w q).at_:=by
      intro q
      by_cases e:q=k
      · subst e; simp [EA]
      · simp [EA,e,CI]
    refine ⟨fun i j hi hj=>?_,fun q s hq hs=>?_,fun q hq=>?_,?_⟩
    · by_cases e:i=k∧j=t
      · obtain ⟨rfl,rfl⟩:=e; simpa [EA,CI] using hbs
      · simpa [EA,CI,e] using h.bx i j hi hj
    · rw [(hgl q).1,(hgl q).2.1]
      exact ⟨(h.way q s hq hs).1.imp id hw,(h.way q s hq hs).2.imp id hw⟩
    · rw [(hgl q).1,(hgl q).2.1,(hgl q).2.2]; exact h.at_ q hq
    · have h1:=XR (c:=c) (m:=m) (a:={ m.bx k t with row:=(m.bx k t).row++[(m.bx k t).fs.length],fs:=(m.bx k t).fs++[{ f with Seq:=(m.bx k t).fs.length }] }) hk ht
      have h2:=aJ (c:=c) (m:=CI m k t { m.bx k t with row:=(m.bx k t).row++[(m.bx k t).fs.length],fs:=(m.bx k t).fs++[{ f with Seq:=(m.bx k t).fs.length }] }) (a:={ m.w k with out:=r }) hk
      rw [WK] at h2
      have e:((CI m k t { m.bx k t with row:=(m.bx k t).row++[(m.bx k t).fs.length],fs:=(m.bx k t).fs++[{ f with Seq:=(m.bx k t).fs.length }] }).w k).out.length=r.length+1:=by show (m.w k).out.length=_; rw [ho]; rfl
      rw [e] at h2
      simp only [List.length_append,List.length_singleton] at h1
      have:=h.totN
      dsimp only at h1 h2 ⊢
      rw [eJ]
      omega
theorem qI (s:Abs) (k:Int):(s.take k).2.2.2.taken=if (s.take k).2.1=true then s.taken+1 else s.taken:=by
  by_cases h0:s.at k≠0
  · simp [Abs.take,h0]
  · by_cases h1:s.taken<s.num k
    · simp [Abs.take,h0,h1]
    · by_cases h2:s.num k<s.taken <;> simp [Abs.take,h0,h1,h2]
theorem uN (h:BInv s) {k:Int} (ht:(s.take k).2.1=true):∃ hi:s.taken<s.fs.length,(s.take k).1=s.fs[s.taken]:=by
  unfold Abs.take at ht ⊢
  split at ht
  · cases ht
  · rename_i h0
    have h0':s.at k=0:=by simpa using h0
    obtain ⟨i,rfl,hi⟩:=OZ h0'
    rw [PA hi] at ht ⊢
    rw [if_neg (by rw [h0']; simp)]
    have hlt:=h.lt _ (List.getElem_mem hi)
    split at ht
    · cases ht
    · split at ht
      · cases ht
      · rename_i h1 h2
        have e:s.row[i]=s.taken:=by omega
        rw [if_neg h1,if_neg h2]
        refine ⟨by omega,?_⟩
        simp [e,show s.taken<s.fs.length by omega]
theorem Live.handed (h:Live c N m) (g:Good c m) {f t:Nat} (hf:f<c.n) (ht:t<c.n) (k:Int):Live c N (m.hand c f t k).2:=by
  have hb:=h.bx f t hf ht
  have htk:=qI (m.bx f t) k
  have hfs:=sS (m.bx f t) k
  unfold MS.hand
  split
  · rename_i e
    rw [if_pos e] at htk
    obtain ⟨hi,hz⟩:=uN hb e
    obtain ⟨⟨t',s',ht',hs',hto,hro,hsm,hcn⟩,hto2⟩:=g.box f t hf ht _ (List.getElem_mem hi)
    rw [←hz] at hto hro hsm hcn hto2
    generalize hm2:(EA (CI m f t ((m.bx f t).take k).2.2.2) t (UN c.S.length (TY (m.w t) ((m.bx f t).take k).1)))=m2
    have hw2:∀ q,q≠t→m2.w q=m.w q:=fun q hq=>by rw [←hm2]; simp [EA,hq,CI]
    have hwt:m2.w t=UN c.S.length (TY (m.w t) ((m.bx f t).take k).1):=by rw [←hm2]; simp [EA]
    have hbx:∀ i j,¬(i=f∧j=t)→m2.bx i j=m.bx i j:=fun i j hij=>by rw [←hm2]; simp [EA,CI,hij]
    have hbt:m2.bx f t=((m.bx f t).take k).2.2.2:=by rw [←hm2]; simp [EA,CI]
    have hout:∀ q,(m2.w q).out=(m.w q).out:=fun q=>by
      by_cases e':q=t
      · subst e'; rw [hwt]; simp [UN,Z5]
      · rw [hw2 q e']
    -- a way stays, or is what came
    have hw:∀ {kind q s},Way c m kind q s→Way c m2 kind q s∨(q=t∧((m.bx f t).take k).1.Kind=kind∧((m.bx f t).take k).1.Round=(s:Int)):=by
      rintro kind q s ⟨w,hw,⟨x,hx,hx'⟩ | ⟨i,x,g1,g2,g3,g4⟩⟩
      · exact .inl ⟨w,hw,.inl ⟨x,by rw [hout]; exact hx,hx'⟩⟩
      · by_cases e':w=f∧q=t
        · obtain ⟨rfl,rfl⟩:=e'
          by_cases ei:i=(m.bx w q).taken
          · subst ei
            have:x=((m.bx w q).take k).1:=by rw [hz]; have:=(List.getElem?_eq_some_iff.1 g2).2; exact this.symm
            subst this
            exact .inr ⟨rfl,g3,g4⟩
          · exact .inl ⟨w,hw,.inr ⟨i,x,by rw [hbt,htk]; omega,by rw [hbt,hfs.1]; exact g2,g3,g4⟩⟩
        · exact .inl ⟨w,hw,.inr ⟨i,x,by rw [hbx w q e']; exact g1,by rw [hbx w q e']; exact g2,g3,g4⟩⟩
    refine ⟨fun i j hi' hj=>?_,fun q s hq hs=>?_,fun q hq=>?_,?_⟩
    · by_cases e':i=f∧j=t
      · obtain ⟨rfl,rfl⟩:=e'; rw [hbt]; exact hb.take k
      · rw [hbx i j e']; exact h.bx i j hi' hj
    · obtain ⟨w1,w2⟩:=h.way q s hq hs
      by_cases e':q=t
      · subst e'
        constructor
        · rcases w1 with w1 | w1
          · left; rw [hwt]; unfold UN TY
            split
            · simp [w1]
            · exact w1
          · rcases hw w1 with w1 | ⟨_,w3,w4⟩
            · exact .inr w1
            · left; rw [hwt]; unfold UN TY; rw [if_pos w3]; simp [w4]
        · rcases w2 with w1 | w1
          · left; rw [hwt]; unfold UN TY
            split
            · exact w1
            · simp [w1]
          · rcases hw w1 with w1 | ⟨_,w3,w4⟩
            · exact .inr w1
            · left; rw [hwt]; unfold UN TY; rw [if_neg (by omega)]; simp [w4]
      · rw [hw2 q e']
        exact ⟨w1.imp id fun x=>(hw x).resolve_right fun x=>e' x.1,w2.imp id fun x=>(hw x).resolve_right fun x=>e' x.1⟩
    · by_cases e':q=t
      · subst e'
        rw [hwt]
        have hle:(TY (m.w q) ((m.bx f q).take k).1).at_≤c.S.length:=by
          have:=(h.at_ q hq).1
          unfold TY; split <;> exact this
        exact (sU _ _ _ _ _ hle (by omega)).2
      · rw [hw2 q e']; exact h.at_ q hq
    · have h1:=XR (c:=c) (m:=m) (a:=((m.bx f t).take k).2.2.2) hf ht
      rw [hfs.1] at h1
      have h2:=aJ (c:=c) (m:=CI m f t ((m.bx f t).take k).2.2.2) (a:=UN c.S.length (TY (m.w t) ((m.bx f t).take k).1)) ht
      rw [WK] at h2
      have e2:(UN c.S.length (TY (m.w t) ((m.bx f t).take k).1)).out=(m.w t).out:=by simp [UN,Z5]
      rw [e2] at h2
      have e3:((CI m f t ((m.bx f t).take k).2.2.2).w t).out=(m.w t).out:=rfl
      rw [e3] at h2
      have:=h.totN
      rw [←hm2,eJ]
      show Z7 c (CI m f t ((m.bx f t).take k).2.2.2)+QM c (EA (CI m f t ((m.bx f t).take k).2.2.2) t (UN c.S.length (TY (m.w t) ((m.bx f t).take k).1)))=N
      omega
  · rename_i e
    rw [if_neg e] at htk
    exact h.setB hf ht (hb.take k) hfs.1 htk
variable {c:TW} {m:MS} {s:Abs} {N:Nat}
def eK (c:TW) (m:MS):Nat:=2*QM c m+HN c m
theorem uO (m:MS) (f t:Nat):CI m f t (m.bx f t)=m:=by
  unfold CI
  congr 1
  funext i j
  split
  · rename_i hh; rw [hh.1,hh.2]
  · rfl
theorem Live.sends (h:Live c N m) (hc:bS c) (g:Good c m):∀ k,k≤c.n→Live c N (m.sends c k).2
  | 0,_=>h
  | k+1,hk=>(Live.sends h hc g k (by omega)).sent (g.sends hc k (by omega)) (by omega)
theorem Live.hands1 {x:Bool×MS} (h:Live c N x.2) (g:Good c x.2) {f:Nat} (hf:f<c.n):∀ k,k≤c.n→Live c N (hands1 c f x k).2
  | 0,_=>h
  | k+1,hk=>(Live.hands1 h g hf k (by omega)).handed (Good.hands1 g f k) hf (by omega) _
theorem Live.hands {x:Bool×MS} (h:Live c N x.2) (g:Good c x.2):∀ k,k≤c.n→Live c N (hands c x k).2
  | 0,_=>h
  | k+1,hk=>Live.hands1 (Live.hands h g k (by omega)) (Good.hands g k) (by omega) c.n (Nat.le_refl _)
theorem Live.window (h:Live c N m) (hc:bS c) (g:Good c m):Live c N (m.window c).2:=Live.hands (h.sends hc g c.n (Nat.le_refl _)) (g.sends hc c.n (Nat.le_refl _)) c.n (Nat.le_refl _)
theorem Live.acted (h:Live c N m) (hc:bS c) (g:Good c m) (x:GH):Live c N (m.act c x).2:=by
  unfold MS.act
  split
  · exact h
  · split
    · split
      · rename_i hi; exact h.sent g (by have:=hi.2; have:=hi.1; omega)
      · exact h
    · split
      · exact h.window hc g
      · split
        · rename_i hi
          have l1:x.A.toNat<c.n:=by have:=hi.1.2; have:=hi.1.1; omega
          have l2:x.B.toNat<c.n:=by have:=hi.2.2; have:=hi.2.1; omega
          split
          · exact h.handed g l1 l2 _
          · split
            · exact h.doubled l1 l2 _
            · exact h.moved l1 l2 _
        · exact h
theorem yD (m:MS) (f t:Nat):(m.old c f t).bx f t=((m.bx f t).take (m.bx f t).oldest).2.2.2∧(∀ i j,¬(i=f∧j=t)→(m.old c f t).bx i j=m.bx i j)∧∀ k,((m.old c f t).w k).out=(m.w k).out:=by
  unfold MS.old MS.hand
  split
  · refine ⟨by simp [EA,CI],fun i j h=>by simp [EA,CI,h],fun k=>?_⟩
    by_cases e:k=t
    · subst e; simp [EA,UN,Z5,CI]
    · simp [EA,e,CI]
  · exact ⟨by simp [CI],fun i j h=>by simp [CI,h],fun k=>rfl⟩
theorem sV {f t:Nat} (h:BInv (m.bx f t)):((m.old c f t).bx f t).row.length=(m.bx f t).row.length - 1:=by
  rw [(yD m f t).1]
  by_cases e:(m.bx f t).row=[]
  · rw [(aL e _).1,e]; rfl
  · have:=h.old e; omega
theorem yE {f t:Nat} (e:(m.bx f t).row=[]):m.old c f t=m:=by
  unfold MS.old MS.hand
  rw [if_neg (by rw [(aL e _).2]; simp),(aL e _).1,uO]
theorem yF {f t:Nat} (hf:f<c.n) (ht:t<c.n) (h:BInv (m.bx f t)):HN c (m.old c f t)+(m.bx f t).row.length=HN c m+((m.bx f t).row.length - 1)∧QM c (m.old c f t)=QM c m:=by
  have ho:=yD (c:=c) m f t
  have hl:=sV (c:=c) h
  have h1:=eI (c:=c) (m:=m) (a:=((m.bx f t).take (m.bx f t).oldest).2.2.2) hf ht
  constructor
  · have e:HN c (m.old c f t)=HN c (CI m f t ((m.bx f t).take (m.bx f t).oldest).2.2.2):=by
      unfold HN
      refine DR fun i hi=>DR fun j hj=>?_
      by_cases e:i=f∧j=t
      · obtain ⟨rfl,rfl⟩:=e; rw [ho.1]; simp [CI]
      · rw [ho.2.1 i j e]; simp [CI,e]
    rw [ho.1] at hl
    omega
  · unfold QM
    exact DR fun i hi=>by rw [ho.2.2]
theorem iH {f:Nat} (hf:f<c.n) {x:Bool×MS} (h:Live c N x.2) (g:Good c x.2):∀ t,t≤c.n →
    (QM c (hands1 c f x t).2=QM c x.2∧HN c (hands1 c f x t).2≤HN c x.2)∧((hands1 c f x t).1=true→x.1=true∨HN c (hands1 c f x t).2<HN c x.2) ∧
    ((hands1 c f x t).1=false→x.1=false∧(hands1 c f x t).2=x.2∧∀ j,j<t→(x.2.bx f j).row=[])
  | 0,_=>⟨⟨rfl,Nat.le_refl _⟩,fun h=>.inl h,fun h=>⟨h,rfl,fun j hj=>by omega⟩⟩
  | t+1,ht=>by
    obtain ⟨⟨h1,h2⟩,h3,h4⟩:=iH hf h g t (by omega)
    have hl:=Live.hands1 h g hf t (by omega)
    have hb:=hl.bx f t hf (by omega)
    have hr:=yF hf (show t<c.n by omega) hb
    have hlen:=sV (c:=c) hb
    unfold hands1
    refine ⟨⟨by rw [←h1]; exact hr.2,by show HN c (MS.old c _ f t)≤_; omega⟩,fun hh=>?_,fun hh=>?_⟩
    · simp only [Bool.or_eq_true,decide_eq_true_eq] at hh
      show x.1=true∨HN c (MS.old c _ f t)<_
      rcases hh with hh | hh
      · rcases h3 hh with h3 | h3
        · exact .inl h3
        · right; omega
      · right; omega
    · simp only [Bool.or_eq_false_iff,decide_eq_false_iff_not] at hh
      obtain ⟨a1,a2,a3⟩:=h4 hh.1
      have he:((hands1 c f x t).2.bx f t).row=[]:=by
        cases hq:((hands1 c f x t).2.bx f t).row with
        | nil=>rfl
        | cons y ys=>
          exfalso
          apply hh.2
          rw [hlen,hq]; simp
      refine ⟨a1,?_,fun j hj=>?_⟩
      · show MS.old c _ f t=_
        rw [yE he]; exact a2
      · by_cases e:j=t
        · subst e; rw [←a2]; exact he
        · exact a3 j (by omega)
theorem nQ {x:Bool×MS} (h:Live c N x.2) (g:Good c x.2):∀ f,f≤c.n →
    (QM c (hands c x f).2=QM c x.2∧HN c (hands c x f).2≤HN c x.2)∧((hands c x f).1=true→x.1=true∨HN c (hands c x f).2<HN c x.2) ∧
    ((hands c x f).1=false→x.1=false∧(hands c x f).2=x.2∧∀ i,i<f→∀ j,j<c.n→(x.2.bx i j).row=[])
  | 0,_=>⟨⟨rfl,Nat.le_refl _⟩,fun h=>.inl h,fun h=>⟨h,rfl,fun j hj=>by omega⟩⟩
  | f+1,hf=>by
    obtain ⟨⟨h1,h2⟩,h3,h4⟩:=nQ h g f (by omega)
    obtain ⟨⟨k1,k2⟩,k3,k4⟩:=iH (show f<c.n by omega) (Live.hands h g f (by omega)) (Good.hands g f) c.n (Nat.le_refl _)
    unfold hands
    refine ⟨⟨by omega,by omega⟩,fun hh=>?_,fun hh=>?_⟩
    · rcases k3 hh with hh | hh
      · rcases h3 hh with h3 | h3
        · exact .inl h3
        · right; omega
      · right; omega
    · obtain ⟨a1,a2,a3⟩:=k4 hh
      obtain ⟨b1,b2,b3⟩:=h4 a1
      refine ⟨b1,a2.trans b2,fun i hi j hj=>?_⟩
      by_cases e:i=f
      · subst e; rw [←b2]; exact a3 j hj
      · exact b3 i (by omega) j hj
theorem yG (g:Good c m) {k:Nat} (hk:k<c.n):m.send c k=(false,m)∨((m.send c k).1=true∧eK c (m.send c k).2<eK c m):=by
  rcases XS g hk with e | ⟨t,f,r,ht,ho,hto,hnf⟩
  · exact .inl e
  · right
    rw [cQ ho hto hnf]
    refine ⟨rfl,?_⟩
    have h1:=eI (c:=c) (m:=m) (a:={ m.bx k t with row:=(m.bx k t).row++[(m.bx k t).fs.length],fs:=(m.bx k t).fs++[{ f with Seq:=(m.bx k t).fs.length }] }) hk ht
    have h2:=aJ (c:=c) (m:=CI m k t { m.bx k t with row:=(m.bx k t).row++[(m.bx k t).fs.length],fs:=(m.bx k t).fs++[{ f with Seq:=(m.bx k t).fs.length }] }) (a:={ m.w k with out:=r }) hk
    rw [WK] at h2
    have e:((CI m k t { m.bx k t with row:=(m.bx k t).row++[(m.bx k t).fs.length],fs:=(m.bx k t).fs++[{ f with Seq:=(m.bx k t).fs.length }] }).w k).out.length=r.length+1:=by show (m.w k).out.length=_; rw [ho]; rfl
    rw [e] at h2
    simp only [List.length_append,List.length_singleton] at h1
    dsimp only at h1 h2 ⊢
    unfold eK
    rw [qH]
    omega
theorem nR (hc:bS c) (g:Good c m):∀ k,k≤c.n→(eK c (m.sends c k).2≤eK c m∧((m.sends c k).1=true→eK c (m.sends c k).2<eK c m))∧((m.sends c k).1=false→(m.sends c k).2=m∧∀ j,j<k→m.send c j=(false,m))
  | 0,_=>⟨⟨Nat.le_refl _,fun h=>by cases h⟩,fun _=>⟨rfl,fun j hj=>by omega⟩⟩
  | k+1,hk=>by
    obtain ⟨⟨h1,h2⟩,h3⟩:=nR hc g k (by omega)
    unfold MS.sends
    rcases yG (g.sends hc k (by omega)) (show k<c.n by omega) with e | ⟨e1,e2⟩
    · rw [e]
      refine ⟨⟨h1,fun hh=>h2 (by simpa using hh)⟩,fun hh=>?_⟩
      obtain ⟨a1,a2⟩:=h3 (by simpa using hh)
      refine ⟨a1,fun j hj=>?_⟩
      by_cases ej:j=k
      · subst ej; rw [a1] at e; exact e
      · exact a2 j (by omega)
    · rw [e1]
      exact ⟨⟨by dsimp only; omega,fun _=>by dsimp only; omega⟩,fun hh=>by simp at hh⟩
theorem qJ (hc:bS c) (h:Live c N m) (g:Good c m):eK c (m.window c).2≤eK c m∧((m.window c).1=true→eK c (m.window c).2<eK c m)∧((m.window c).1=false→eK c m=0):=by
  obtain ⟨⟨s1,s2⟩,s3⟩:=nR hc g c.n (Nat.le_refl _)
  obtain ⟨⟨h1,h2⟩,h3,h4⟩:=nQ (h.sends hc g c.n (Nat.le_refl _)) (g.sends hc c.n (Nat.le_refl _)) c.n (Nat.le_refl _)
  unfold MS.window
  have e:eK c (hands c (m.sends c c.n) c.n).2≤eK c (m.sends c c.n).2:=by unfold eK; omega
  refine ⟨by omega,fun hh=>?_,fun hh=>?_⟩
  · rcases h3 hh with h3 | h3
    · have:=s2 h3; omega
    · unfold eK at *; omega
  · obtain ⟨a1,a2,a3⟩:=h4 hh
    obtain ⟨b1,b2⟩:=s3 a1
    rw [b1] at a3
    have hr:HN c m=0:=by
      unfold HN
      have:JT (fun f=>JT (fun t=>(m.bx f t).row.length) c.n) c.n=JT (fun _=>0) c.n:=DR fun i hi=>by
        have:JT (fun t=>(m.bx i t).row.length) c.n=JT (fun _=>0) c.n:=DR fun j hj=>by rw [a3 i hi j hj]; rfl
        rw [this,FP]; simp
      rw [this,FP]; simp
    have ho:QM c m=0:=by
      unfold QM
      have:JT (fun k=>(m.w k).out.length) c.n=JT (fun _=>0) c.n:=DR fun k hk=>by
        rcases XS g hk with e | ⟨t,f,r,ht,ho,hto,hnf⟩
        · cases hq:(m.w k).out with
          | nil=>rfl
          | cons f r=>
            exfalso
            obtain ⟨t,s,ht,hs,hto,_⟩:=g.out k hk f (by rw [hq]; exact List.mem_cons_self)
            have hnf:(m.bx k t).fullB=false:=by
              unfold Abs.fullB
              rw [a3 k hk t ht,(g.room k t hk ht).1]
              have:=hc.r1
              simp; omega
            have:=cQ (c:=c) hq hto hnf
            rw [e] at this
            simp at this
        · have:=cQ (c:=c) ho hto hnf
          rw [b2 k hk] at this
          simp at this
      rw [this,FP]; simp
    unfold eK; omega
theorem yH (h:Live c N m) (h0:eK c m=0):∀ k,k<c.n→(m.w k).at_=c.S.length:=by
  have ho:QM c m=0:=by unfold eK at h0; omega
  have hr:HN c m=0:=by unfold eK at h0; omega
  have noway:∀ {kind k s},k<c.n→¬Way c m kind k s:=by
    rintro kind k s hk ⟨f,hf,⟨g,hg,_⟩ | ⟨i,g,h1,h2,_⟩⟩
    · have:=Z6 ho f hf
      rw [List.length_eq_zero_iff.1 this] at hg
      exact absurd hg (List.not_mem_nil)
    · have:=Z6 (Z6 hr f hf) k hk
      have e:=List.length_eq_zero_iff.1 this
      have hlt:i<(m.bx f k).fs.length:=(List.getElem?_eq_some_iff.1 h2).1
      have:=(h.bx f k hf hk).pend i h1 hlt
      rw [e] at this
      exact absurd this (List.not_mem_nil)
  intro k hk
  have ha:=h.at_ k hk
  rcases Nat.lt_or_ge (m.w k).at_ c.S.length with hlt | hge
  · obtain ⟨w1,w2⟩:=h.way k _ hk hlt
    exact absurd ⟨hlt,w1.resolve_right (noway hk),w2.resolve_right (noway hk)⟩ ha.2
  · omega
variable {c:TW} {m:MS} {s:Abs} {N:Nat} {o0:AD} {o1 o1x:List (Nat×AA)} {o2:List (Nat×AF)}
def MS.ended (c:TW) (m:MS):Bool:=(List.range c.n).all fun k=>decide ((m.w k).at_=c.S.length)
theorem WL:m.ended c=true↔∀ k,k<c.n→(m.w k).at_=c.S.length:=by simp [MS.ended,List.all_eq_true]
def kO (c:TW):Nat→MS→MS
  | 0,m=>m
  | j+1,m=>if m.ended c=true then m else kO c j (m.window c).2
theorem nS (hc:bS c):∀ (j:Nat) {m:MS},Live c N m→Good c m→eK c m≤j→(kO c j m).ended c=true
  | 0,m,h,g,hp=>by show m.ended c=true; exact WL.2 (yH h (by omega))
  | j+1,m,h,g,hp=>by
    unfold kO
    split
    · assumption
    · obtain ⟨w1,w2,w3⟩:=qJ hc h g
      refine nS hc j (h.window hc g) (g.window hc) ?_
      cases hb:(m.window c).1 with
      | true=>have:=w2 hb; omega
      | false=>have:=w3 hb; omega
theorem nT (hc:bS c) (h:Rep c m o0 o1 o2) {Q:Bool→Prop} (hQ:Q (m.ended c)):DD o0 o1 Q:=by
  have hn:=hc.n
  unfold DD CH CK
  refine DF c.n (by omega) (fun i=>∀ k,k<i→(m.w k).at_=c.S.length) (fun k hk=>by omega) (fun i next hi hR hnext=>?_) (fun next hR=>?_)
  · show AP (decide ((i:Int)<(o0.workers.length:Int))) _ _
    rw [h.len]
    refine CD (by simp; omega) (AM (by omega) (h.get hi) ?_)
    obtain ⟨x,hx,hw⟩:=h.wk i hi
    unfold FY
    refine KY hx ?_
    rw [hw.at_,h.S]
    have:=hw.le
    refine AB (fun hlt=>?_) (fun hge=>?_)
    · have e:m.ended c=false:=by
        cases hE:m.ended c with
        | false=>rfl
        | true=>have:=WL.1 hE i hi; omega
      rw [e] at hQ
      have:decide (0≤(i:Int))=true:=by simp
      show Q (!decide (0≤(i:Int)))
      rw [this]; exact hQ
    · exact hnext fun k hk=>by
        by_cases ek:k=i
        · subst ek; omega
        · exact hR k (by omega)
  · show AP (decide ((c.n:Int)<(o0.workers.length:Int))) _ _
    rw [h.len]
    refine AR (by simp) ?_
    have e:m.ended c=true:=WL.2 hR
    rw [e] at hQ
    exact hQ
structure Data where
  r:Int
  n:Int
  k:Int
  q:Int
  A:List AC
  B:List AC
  M:List AC
  R:Nat
  C:Nat
  room:Nat
  S:List BC
def Data.p (d:Data):CM:={ Ring:=d.r,A:=BJ d.n d.k d.A,B:=BJ d.k d.q d.B,Mask:=BJ d.n d.q d.M,R:=(d.R:Int),C:=(d.C:Int),Room:=(d.room:Int) }
def CS (S:List BC):Nat→Int
  | 0=>0
  | s+1=>(S.getD s default).To
structure yI (d:Data):Prop where
  len:d.S.length+1≤d.R+d.C
  row:∀ s (h:s<d.S.length),0≤d.S[s].Row∧d.S[s].Row<d.R
  col:∀ s (h:s<d.S.length),0≤d.S[s].Col∧d.S[s].Col<d.C
  lo:∀ s (h:s<d.S.length),d.S[s].From=CS d.S s∧d.S[s].From≤d.S[s].To∧d.S[s].To≤d.k
  top:CS d.S d.S.length=d.k
structure WO (d:Data):Prop where
  r:1≤d.r∧d.r≤5
  cA:Canon d.n d.k d.A
  cB:Canon d.k d.q d.B
  cM:Canon d.n d.q d.M
  vA:∀ t∈d.A,GS t.Val
  vB:∀ t∈d.B,GS t.Val
  vM:∀ t∈d.M,GS t.Val
  R:1≤d.R∧d.R≤8
  C:1≤d.C∧d.C≤8
  room:1≤d.room∧d.room≤64
  seg:yI d
variable {d:Data}
def Data.rl (d:Data) (i:Nat):Int:=CR d.n d.R i
def Data.cl (d:Data) (j:Nat):Int:=CR d.q d.C j
theorem nU (h:WO d) (i:Nat):0≤d.rl i∧d.rl i≤d.rl (i+1)∧d.rl (i+1)≤d.n:=⟨iA.1,VR (by omega),iA.2 h.cA.r0⟩
theorem nV (h:WO d) (j:Nat):0≤d.cl j∧d.cl j≤d.cl (j+1)∧d.cl (j+1)≤d.q:=⟨iA.1,VR (by omega),iA.2 h.cB.c0⟩
theorem kP (h:WO d):∀ s,s≤d.S.length→0≤CS d.S s∧CS d.S s≤d.k
  | 0,_=>⟨Int.le_refl _,h.cA.c0⟩
  | s+1,hs=>by
    have h1:=kP h s (by omega)
    have h2:=h.seg.lo s (by omega)
    have e:CS d.S (s+1)=d.S[s].To:=by
      show (d.S.getD s default).To=_
      simp [List.getD_eq_getElem?_getD,show s<d.S.length by omega]
    rw [e]; omega
theorem eL {s:Nat} (hs:s<d.S.length):CS d.S (s+1)=d.S[s].To:=by
  show (d.S.getD s default).To=_
  simp [List.getD_eq_getElem?_getD,hs]
def bT (d:Data) (i:Nat) (a b:Int):List AC:=JZ (d.rl i) (d.rl (i+1)) a b d.A
def eN (d:Data) (j:Nat) (a b:Int):List AC:=JZ a b (d.cl j) (d.cl (j+1)) d.B
def vG (d:Data) (i j:Nat):List AC:=JZ (d.rl i) (d.rl (i+1)) (d.cl j) (d.cl (j+1)) d.M
def QY (d:Data) (i j:Nat) (t:Nat):List AK:=EJ d.r (bT d i 0 (CS d.S t)) (eN d j 0 (CS d.S t)) (vG d i j)
def Data.ctx (d:Data) (adr:Nat→Nat):TW where
  p:=d.p
  S:=d.S
  n:=d.R*d.C
  adr:=adr
  wi:=fun k=>((k / d.C:Nat):Int)
  wj:=fun k=>((k % d.C:Nat):Int)
  mask:=fun k=>BJ (d.rl (k / d.C+1) - d.rl (k / d.C)) (d.cl (k % d.C+1) - d.cl (k % d.C)) (vG d (k / d.C) (k % d.C))
  room:=d.room
  LA:=fun k s=>bT d (k / d.C) (CS d.S s) (CS d.S (s+1))
  RB:=fun k s=>eN d (k % d.C) (CS d.S s) (CS d.S (s+1))
  has:=fun k t=>QY d (k / d.C) (k % d.C) t
theorem uP (h:WO d) (i j:Nat) {a b:Int} (h0:0≤a) (h1:a≤b) (h2:b≤d.k) (k:EX) :
    FU d.r k (EJ d.r (bT d i 0 b) (eN d j 0 b) (vG d i j))=cN d.r (FU d.r k (EJ d.r (bT d i 0 a) (eN d j 0 a) (vG d i j))) (FU d.r k (EJ d.r (bT d i a b) (eN d j a b) (vG d i j))):=by
  have hr:=nU h i
  have hc:=nV h j
  obtain ⟨_,cA0,lA0⟩:=FN h.cA (l:=d.rl i) (u:=d.rl (i+1)) (c:=0) (d:=b) hr.1 hr.2.1 hr.2.2 (by omega) (by omega) h2
  obtain ⟨_,cA1,lA1⟩:=FN h.cA (l:=d.rl i) (u:=d.rl (i+1)) (c:=0) (d:=a) hr.1 hr.2.1 hr.2.2 (by omega) h0 (by omega)
  obtain ⟨_,cA2,lA2⟩:=FN h.cA (l:=d.rl i) (u:=d.rl (i+1)) (c:=a) (d:=b) hr.1 hr.2.1 hr.2.2 h0 h1 h2
  obtain ⟨_,cB0,lB0⟩:=FN h.cB (l:=0) (u:=b) (c:=d.cl j) (d:=d.cl (j+1)) (by omega) (by omega) h2 hc.1 hc.2.1 hc.2.2
  obtain ⟨_,cB1,lB1⟩:=FN h.cB (l:=0) (u:=a) (c:=d.cl j) (d:=d.cl (j+1)) (by omega) h0 (by omega) hc.1 hc.2.1 hc.2.2
  obtain ⟨_,cB2,lB2⟩:=FN h.cB (l:=a) (u:=b) (c:=d.cl j) (d:=d.cl (j+1)) h0 h1 h2 hc.1 hc.2.1 hc.2.2
  obtain ⟨_,cM0,_⟩:=FN h.cM (l:=d.rl i) (u:=d.rl (i+1)) (c:=d.cl j) (d:=d.cl (j+1)) hr.1 hr.2.1 hr.2.2 hc.1 hc.2.1 hc.2.2
  simp only [Int.sub_zero,Int.add_zero] at cA0 lA0 cA1 lA1 cB0 lB0 cB1 lB1
  refine hZ cM0.srt fun t ht=>?_
  have hin:=cM0.inn t ht
  unfold SD at hin
  unfold bT eN
  rw [QK cA0 hin.1,QK cA1 hin.1,QK cA2 hin.1,show b.toNat=a.toNat+(b - a).toNat by omega,mV]
  congr 1
  · refine XO (fun x hx=>?_) (fun x hx=>?_)
    · rw [lA0 _ _ hin.1 hin.2.1 (by omega) (by omega),lA1 _ _ hin.1 hin.2.1 (by omega) (by omega)]
    · unfold pY
      rw [lB0 _ _ (by omega) (by omega) hin.2.2.1 hin.2.2.2,lB1 _ _ (by omega) (by omega) hin.2.2.1 hin.2.2.2]
  · refine XO (fun x hx=>?_) (fun x hx=>?_)
    · rw [Int.toNat_of_nonneg h0,lA0 _ _ hin.1 hin.2.1 (by omega) (by omega),lA2 _ _ hin.1 hin.2.1 (by omega) (by omega)]
    · unfold pY
      rw [Int.toNat_of_nonneg h0,lB0 _ _ (by omega) (by omega) hin.2.2.1 hin.2.2.2,lB2 _ _ (by omega) (by omega) hin.2.2.1 hin.2.2.2]
theorem AcW (h:WO d) (adr:Nat→Nat):Rk (d.ctx adr):=by
  intro w s hs hw Q hQ
  have hs':s<d.S.length:=hs
  have hr:=nU h (w / d.C)
  have hc:=nV h (w % d.C)
  have hl:=h.seg.lo s hs'
  have hb:=kP h s (by omega)
  have he:=eL (d:=d) hs'
  obtain ⟨_,cA2,_⟩:=FN h.cA (l:=d.rl (w / d.C)) (u:=d.rl (w / d.C+1)) (c:=CS d.S s) (d:=CS d.S (s+1)) hr.1 hr.2.1 hr.2.2 hb.1 (by omega) (by omega)
  obtain ⟨_,cB2,_⟩:=FN h.cB (l:=CS d.S s) (u:=CS d.S (s+1)) (c:=d.cl (w % d.C)) (d:=d.cl (w % d.C+1)) hb.1 (by omega) (by omega) hc.1 hc.2.1 hc.2.2
  obtain ⟨_,cM0,_⟩:=FN h.cM (l:=d.rl (w / d.C)) (u:=d.rl (w / d.C+1)) (c:=d.cl (w % d.C)) (d:=d.cl (w % d.C+1)) hr.1 hr.2.1 hr.2.2 hc.1 hc.2.1 hc.2.2
  have hk:=h.cA.c1
  have e1:AJ (d.S[s].To - d.S[s].From)=CS d.S (s+1) - CS d.S s:=by rw [AW (by omega) (by omega)]; omega
  show PZ d.r (d.rl (w / d.C+1) - d.rl (w / d.C)) (AJ (d.S[s].To - d.S[s].From)) (bT d (w / d.C) (CS d.S s) (CS d.S (s+1))) _
  have vA2:=nF (l:=d.rl (w / d.C)) (u:=d.rl (w / d.C+1)) (c:=CS d.S s) (d:=CS d.S (s+1)) h.vA
  have vB2:=nF (l:=CS d.S s) (u:=CS d.S (s+1)) (c:=d.cl (w % d.C)) (d:=d.cl (w % d.C+1)) h.vB
  rw [e1]
  refine wN (by have:=cA2.len; unfold bT; omega) vA2 ?_
  show PZ d.r (AJ (d.S[s].To - d.S[s].From)) (d.cl (w % d.C+1) - d.cl (w % d.C)) (eN d (w % d.C) (CS d.S s) (CS d.S (s+1))) _
  rw [e1]
  refine wN (by have:=cB2.len; unfold eN; omega) vB2 ?_
  unfold bT eN
  rw [cL cA2 vA2 h.r,cL cB2 vB2 h.r]
  refine fR cA2 cB2 cM0 vA2 vB2 ?_
  have hrr:=h.r
  unfold SE
  rw [if_neg (by show ¬ ¬(1≤d.r∧d.r≤5); omega),if_neg (by omega)]
  show MI d.r [QY d (w / d.C) (w % d.C) s,EJ d.r (bT d (w / d.C) (CS d.S s) (CS d.S (s+1))) (eN d (w % d.C) (CS d.S s) (CS d.S (s+1))) (vG d (w / d.C) (w % d.C))] _
  obtain ⟨s0,o0,z0⟩:=aF (r:=d.r) (A:=bT d (w / d.C) 0 (CS d.S (s+1))) (B:=eN d (w % d.C) 0 (CS d.S (s+1))) cM0
  obtain ⟨s1,o1,z1⟩:=aF (r:=d.r) (A:=bT d (w / d.C) 0 (CS d.S s)) (B:=eN d (w % d.C) 0 (CS d.S s)) cM0
  obtain ⟨s2,o2,z2⟩:=aF (r:=d.r) (A:=bT d (w / d.C) (CS d.S s) (CS d.S (s+1))) (B:=eN d (w % d.C) (CS d.S s) (CS d.S (s+1))) cM0
  have efl:∀ (x y:List AK),([x,y]:List (List AK)).flatten=x++y:=fun x y=>by simp
  refine fU (by simp) (by rw [efl,List.length_append]; unfold QY vG; omega) (by rw [efl]; exact fun c hc=>(List.mem_append.1 hc).elim (o1 c) (o2 c)) (fun h'=>absurd hrr h') (fun _ h'=>absurd (fun l hl=>?_) h') (fun _ _ x hs ho hsl he'=>?_)
  · simp only [List.mem_cons,List.not_mem_nil,or_false] at hl
    rcases hl with rfl | rfl
    · exact s1
    · exact s2
  · have hall:x=QY d (w / d.C) (w % d.C) (s+1):=xP (r:=d.r) hs s0 fun key=>by
      rw [he',efl]
      exact (MT o1 o2).trans (uP h (w / d.C) (w % d.C) hb.1 (by omega) (by omega) key).symm
    subst hall
    exact hQ
end Go.Proofs.YtbohadngdkjljaaGreat
