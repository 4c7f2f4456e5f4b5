import Derived.Test.YtbohadngdkjljaaGreatSumA
namespace Go.Proofs.YtbohadngdkjljaaGreat
open Go Go.Fw
set_option linter.unusedVariables false
set_option linter.unusedSimpArgs false
section bank
variable {α:Type} {xs:List (Nat×α)} {b:Nat} {x:α}
theorem T9 (h:BK b xs=some x) (K:Nat→α→Prop):CJ xs (some b) K=K b x:=
 propext ⟨fun ⟨b',x',e,D,k⟩=>by cases e; rw [h] at D; cases D; exact k,fun k=>⟨b,x,rfl,h,k⟩⟩
theorem DP {K:Nat→α→Prop} (h:BK b xs=some x) (k:K b x):CJ xs (some b) K:=⟨b,x,rfl,h,k⟩
theorem S4 (K:Nat→α→Prop):CJ ((b,x) :: xs) (some b) K=K b x:=T9 QS K
theorem X4:BO b ((b,x) :: xs)=xs:=by simp [BO]
theorem F9 (b:Nat) {A:Prop} {B:Nat→Prop}:YE (some b) A B=B b:=propext ⟨fun h=>h.2 b rfl,fun h=>⟨fun e=>(by cases e),fun b' e=>by cases e; exact h⟩⟩
theorem cH {A:Prop} {B:Nat→Prop}:YE none A B=A:=propext ⟨fun h=>h.1 rfl,fun h=>⟨fun _=>h,fun b' e=>by cases e⟩⟩
theorem JD (h:BK b xs=some x) (K:α→Prop):ZH xs b K=K x:=propext ⟨fun ⟨x',D,k⟩=>by rw [h] at D; cases D; exact k,fun k=>⟨x,h,k⟩⟩
end bank
def Fok (c:T8) (f:AM):Prop:=∃ t s:Nat,t<c.n∧s<c.S.length∧f.To=t∧f.Round=s∧U6 f∧((f.Kind=6∧f.Triples=c.LA t s)∨(f.Kind=7∧f.Triples=c.RB t s))
structure Good (c:T8) (m:MS):Prop where
 out:∀ k<c.n,∀ f∈(m.w k).out,Fok c f
 box:∀ f t,f<c.n→t<c.n→∀ g∈(m.bx f t).fs,Fok c g∧g.To=t
 cnt:∀ f t,f<c.n→t<c.n→(m.bx f t).fs.length+(m.w f).out.length≤100000
 room:∀ f t,f<c.n→t<c.n→(m.bx f t).room=c.room∧(m.bx f t).row.length≤c.room
 seq:∀ f t,f<c.n→t<c.n→∀ (i:Nat) g,(m.bx f t).fs[i]? = some g→g.Seq=i
def MS.send (c:T8) (m:MS) (k:Nat):Bool×MS:=
 match (m.w k).out with
 | []=>(false,m)
 | f :: r=>if ((m.bx k f.To.toNat).send f).1=0 then (true,ER (DH m k f.To.toNat ((m.bx k f.To.toNat).send f).2) k { m.w k with out:=r }) else (false,m)
variable {c:T8} {m:MS} {o0:A3} {o1 o1x:A2} {o2:A8}
theorem mG (h:Rep c m o0 o1 o2) {k:Int} {Q:Int→Prop} (D:Q (if 0≤k∧k<c.n then ((m.w k.toNat).out.length:Int) else 0)):ED o0 o1 k Q:=by
 unfold ED
 refine cG h (BN (fun G=>?_) (fun G=>?_))
 · rwa [if_neg (of_decide_eq_false G)] at D
 · have hk:=of_decide_eq_true G
   rw [if_pos hk] at D
   obtain ⟨n,rfl⟩:∃ n:Nat,k=n:=⟨k.toNat,by omega⟩
   obtain ⟨x,O,J⟩:=h.wk n (by omega)
   refine AA hk.1 (h.get (by omega)) ?_
   rw [T9 O,J.out]
   simpa using D
theorem vT {f:AM} (h:Fok c f):U6 f:=by obtain ⟨t,s,_,_,_,_,h,_⟩:=h; exact h
theorem pE (hc:X3 c) (h:Rep c m o0 o1 o2) (g:Good c m) {k:Nat} (hk:k<c.n) {Q:(Bool×A3×A2×A8)→Prop}
  (hQ:∀ D Z O,Rep c (m.send c k).2 D Z O→Ext o0 D→Q ((m.send c k).1,D,Z,O)):CW o0 o1 o2 k Q:=by
 unfold CW
 refine mG h ?_
 rw [if_pos (by omega)]
 obtain ⟨x,hx,U⟩:=h.wk k hk
 simp only [Int.toNat_natCast]
 cases ho:(m.w k).out with
 | nil=>
  refine AU (by simp) ?_
  have:=hQ o0 o1 o2
  simp only [MS.send,ho] at this
  exact this h (Ext.refl _)
 | cons f r=>
  refine AC (by simp; omega) (AA (by omega) (h.get hk) ?_)
  have hf:Fok c f:=g.out k hk f (by rw [ho]; exact List.mem_cons_self)
  obtain ⟨t,s,ht,hs,hto,hro,hsm,hcn⟩:=hf
  have J:x.out=f :: r:=by rw [U.out,ho]
  have V:=g.cnt k t hk ht
  rw [ho] at V
  simp only [List.length_cons] at V
  refine DP hx (AA (by omega) (x:=f) (by rw [J]; rfl) (AA (by omega) (x:=f) (by rw [J]; rfl) ?_))
  rw [hto]
  refine fZ hc h hk ht fun b pb D O h' W Y hb hi=>?_
  unfold NI
  rw [F9,JD hb]
  have G:=hQ
  simp only [MS.send,ho,hto,Int.toNat_natCast] at G
  refine AbB hi hsm (by omega) fun b' hi'=>?_
  have h2:=h'.setB hc Y hi'
  by_cases e:((m.bx k t).send f).1=0
  · rw [if_pos e] at G
    refine CB (fun h1=>absurd e h1) fun _=>?_
    refine DP hx ⟨by omega,by rw [J]; simp; omega,by omega,?_⟩
    have hout:((x.out.take (x.out.length:Int).toNat).drop (Int.toNat 1))=r:=by rw [J]; simp
    refine G _ _ _ (h2.setW hc hk (a:={ m.w k with out:=r }) ⟨U.i,U.j,U.mask,hout,U.at_,U.le,U.has,U.l,U.r⟩) W
  · rw [if_neg e] at G
    refine CB (fun _=>?_) fun h1=>absurd h1 e
    have h3:Rep c m D o1 ((b,b') :: BO b O):=by
     have e2:((m.bx k t).send f).2=m.bx k t:=by
      unfold Abs.send at e ⊢
      split
      · rfl
      · rename_i hh; rw [if_neg hh] at e; exact absurd rfl e
     rw [e2] at h2
     have:DH m k t (m.bx k t)=m:=by
      unfold DH
      congr 1
      funext i j
      split
      · rename_i hh; rw [hh.1,hh.2]
      · rfl
     rwa [this] at h2
    exact G _ _ _ h3 W
def VY (D h:Nat→Bool) (S:Nat):Nat→Nat→Nat
 | 0,a=>a
 | k+1,a=>if a<S∧D a=true∧h a=true then VY D h S k (a+1) else a
def U8 (a:Wk) (f:AM):Wk:=if f.Kind=6 then { a with gl:=fun s=>if s=f.Round.toNat then true else a.gl s } else { a with gr:=fun s=>if s=f.Round.toNat then true else a.gr s }
def YO (S:Nat) (a:Wk):Wk:={ a with at_:=VY a.gl a.gr S S a.at_ }
def Rk (c:T8):Prop:=∀ (k s:Nat) (hs:s<c.S.length),k<c.n→∀ Q:List AB→Prop,Q (c.has k (s+1)) →
 QD c.p.Ring (c.mask k).Rows (A7 (c.S[s].To - c.S[s].From)) (c.LA k s) fun D=>QD c.p.Ring (A7 (c.S[s].To - c.S[s].From)) (c.mask k).Cols (c.RB k s) fun G=>
  QE c.p.Ring D.1 G.1 (c.mask k) fun J=>NG c.p.Ring ([c.has k s,J.1]:List (List AB)) fun h=>Q h.1
theorem rR (Y:X3 c) (hr:Rk c) (h:Rep c m o0 o1 o2) {k:Nat} (hk:k<c.n) {Q:(Bool×A2)→Prop}
  (W:¬((m.w k).at_<c.S.length∧(m.w k).gl (m.w k).at_=true∧(m.w k).gr (m.w k).at_=true)→Q (false,o1))
  (h1:(m.w k).at_<c.S.length→(m.w k).gl (m.w k).at_=true→(m.w k).gr (m.w k).at_=true→∀ O,Rep c (ER m k { m.w k with at_:=(m.w k).at_+1 }) o0 O o2→Q (true,O)) :
  DL o0 o1 (some (c.adr k)) Q:=by
 obtain ⟨x,hx,G⟩:=h.wk k hk
 have hS:=Y.S
 have hle:=G.le
 unfold DL
 simp only [T9 hx,S4,X4]
 rw [h.S,G.at_]
 refine A0 (fun e=>W fun J=>by omega) fun e=>?_
 have Z:=G.l _ (Nat.le_refl _)
 have V:=G.r _ (Nat.le_refl _)
 unfold kP
 rw [Z,V]
 cases hgl:(m.w k).gl (m.w k).at_ with
 | false=>exact AU rfl (W fun J=>by rw [hgl] at J; simp at J)
 | true=>
  refine AC rfl ?_
  cases hgr:(m.w k).gr (m.w k).at_ with
  | false=>exact AU rfl (W fun J=>by rw [hgr] at J; simp at J)
  | true=>
   have D:(m.w k).at_<c.S.length:=by omega
   refine AC rfl (AJ D (AJ D ?_))
   simp only [if_true,Option.getD_some]
   rw [h.p,G.mask,G.has]
   refine hr k _ D hk (fun z=>Q (true,(c.adr k,({ i:=x.i,j:=x.j,mask:=c.mask k,out:=x.out,parts:=BO ({ kind:=7,stage:=((m.w k).at_:Int) }:BE) (BO ({ kind:=6,stage:=((m.w k).at_:Int) }:BE) x.parts),at_:=A7 (((m.w k).at_:Int)+1),has:=z }:AF)) :: BO (c.adr k) o1)) ?_
   refine h1 D hgl hgr _ ?_
   refine h.setW Y hk ⟨G.i,G.j,rfl,G.out,?_,D,rfl,?_,?_⟩
   · simp only; rw [AH (by omega) (by omega)]; simp
   · intro s U
     simp only at U ⊢
     rw [EG (by simp),EG (by simp; omega)]
     exact G.l s (by omega)
   · intro s U
     simp only at U ⊢
     rw [EG (by simp; omega),EG (by simp)]
     exact G.r s (by omega)
theorem jY (m:MS) (k:Nat) (a b:Wk):ER (ER m k a) k b=ER m k b:=by
 unfold ER; congr 1; funext i; by_cases e:i=k <;> simp [e]
theorem QT (m:MS) (k:Nat) (a:Wk):(ER m k a).w k=a:=by simp [ER]
theorem zK (hc:X3 c) (hr:Rk c) {k:Nat} (hk:k<c.n) {a:Wk} {s0:A2} (h:Rep c (ER m k a) o0 s0 o2) (ha:a.at_≤c.S.length)
   {Qf:A2→Prop} (hQ:∀ s,Rep c (ER m k (YO c.S.length a)) o0 s o2→Qf s) :
   B2 (fun (s:A2) (next:A2→Prop)=>DL o0 s (some (c.adr k)) fun r=>AD r.1 (next r.2) (Qf r.2)) s0:=by
 have J:∀ (U V:Nat→Bool) (j t:Nat),c.S.length≤t→VY U V c.S.length j t=t:=by
   intro U V j t ht
   cases j with
   | zero=>rfl
   | succ j=>unfold VY; rw [if_neg (by omega)]
 have hmore:∀ (U V:Nat→Bool) (j t:Nat),c.S.length≤t+j→∀ i,VY U V c.S.length (j+i) t=VY U V c.S.length j t:=by
   intro U V j
   induction j with
   | zero=>intro t ht i; rw [J _ _ _ _ (by omega),J _ _ _ _ (by omega)]
   | succ j ih=>
    intro t ht i
    rw [show j+1+i=(j+i)+1 by omega]
    unfold VY
    split
    · exact ih (t+1) (by omega) i
    · rfl
 refine BV (fun j s=>∃ t,Rep c (ER m k { a with at_:=t }) o0 s o2∧c.S.length≤t+j∧t≤c.S.length∧VY a.gl a.gr c.S.length j t=(YO c.S.length a).at_) (m0:=c.S.length) ⟨a.at_,h,by omega,ha,rfl⟩ ?_
 rintro j s next ⟨t,O,hj,ht,G⟩ hn
 refine rR hc hr O hk (fun W=>?_) (fun g1 Z Y o1' D=>?_)
 · refine AC rfl (hQ _ ?_)
   rw [QT] at W
   have:(YO c.S.length a) = { a with at_:=t }:=by
    have e:VY a.gl a.gr c.S.length j t=t:=by
      cases j with
      | zero=>rfl
      | succ j=>unfold VY; rw [if_neg W]
    rw [e] at G
    unfold YO at G ⊢
    simp only at G
    rw [←G]
   rw [this]; exact O
 · rw [QT] at g1 Z Y D
   rw [jY] at D
   simp only at g1 Z Y D
   refine AU rfl (hn (j - 1) _ (by omega) ⟨t+1,D,by omega,by omega,?_⟩)
   rw [←G]
   obtain ⟨i,rfl⟩:∃ i,j=i+1:=⟨j - 1,by omega⟩
   show VY a.gl a.gr c.S.length i (t+1)=_
   conv=>rhs; unfold VY
   rw [if_pos ⟨g1,Z,Y⟩]
variable {c:T8} {m:MS} {o0:A3} {o1 o1x:A2} {o2:A8} {pb:AZ} {s:Abs}
theorem U9 {s:Abs} (f:AM) (h:s.fullB=false):s.send f=(0,{ s with row:=s.row++[s.fs.length],fs:=s.fs++[{ f with Seq:=s.fs.length }] }):=by simp [Abs.send,h]
theorem zL (h:XD pb s) {k:Int} (D:(s.take k).2.1=true):∃ i:Nat,∃ hi:i<s.fs.length,(s.take k).1=s.fs[i]∧i=s.taken:=by
 unfold Abs.take at D ⊢
 split at D
 · cases D
 · rename_i O
   have J:s.at k=0:=by simpa using O
   obtain ⟨i,rfl,hi⟩:=LJ J
   rw [MW hi] at D ⊢
   rw [if_neg (by rw [J]; simp)]
   have G:=h.lt _ (List.getElem_mem hi)
   split at D
   · cases D
   · split at D
     · cases D
     · rename_i V U
       rw [if_neg V,if_neg U]
       exact ⟨s.row[i],G,by simp [G],by omega⟩
theorem uB (s:Abs) (k:Int):(s.take k).2.2.2.fs=s.fs∧(s.take k).2.2.2.room=s.room:=by
 unfold Abs.take; split <;> (try split) <;> (try split) <;> exact ⟨rfl,rfl⟩
theorem zM (s:Abs) (k:Int):(s.take k).2.2.2.row.length≤s.row.length:=by
 unfold Abs.take
 split <;> (try split) <;> (try split) <;> simp [List.length_eraseIdx] <;> split <;> omega
def MS.hand (c:T8) (m:MS) (f t:Nat) (k:Int):Bool×MS:=
 if ((m.bx f t).take k).2.1=true then (true,ER (DH m f t ((m.bx f t).take k).2.2.2) t (YO c.S.length (U8 (m.w t) ((m.bx f t).take k).1))) else (false,DH m f t ((m.bx f t).take k).2.2.2)
theorem AbH {k:Nat} {a:Wk} {x:AF} (h:AbG c k a x) {f:AM} (Y:Fok c f) (V:f.To=(k:Int)) :
   AbG c k (U8 a f) { i:=x.i,j:=x.j,mask:=x.mask,out:=x.out,parts:=(FC ({ kind:=f.Kind,stage:=f.Round }:BE) f.Triples x.parts),at_:=x.at_,has:=x.has }:=by
 obtain ⟨t,r,ht,hr,O,J,U,W⟩:=Y
 have e:t=k:=by omega
 subst e
 rcases W with ⟨hk,G⟩ | ⟨hk,G⟩
 · unfold U8
   rw [if_pos hk]
   refine ⟨h.i,h.j,h.mask,h.out,h.at_,h.le,h.has,fun s D=>?_,fun s D=>?_⟩
   · simp only [hk,J,G,Int.toNat_natCast]
     by_cases es:s=r
     · subst es; rw [BG]; simp
     · rw [BC (by simp; omega),h.l s D]; simp [es]
   · simp only [hk]
     rw [BC (by simp)]
     exact h.r s D
 · unfold U8
   rw [if_neg (by omega)]
   refine ⟨h.i,h.j,h.mask,h.out,h.at_,h.le,h.has,fun s D=>?_,fun s D=>?_⟩
   · simp only [hk]
     rw [BC (by simp)]
     exact h.l s D
   · simp only [hk,J,G,Int.toNat_natCast]
     by_cases es:s=r
     · subst es; rw [BG]; simp
     · rw [BC (by simp; omega),h.r s D]; simp [es]
theorem pF (Y:X3 c) (hr:Rk c) (h:Rep c m o0 o1 o2) (g:Good c m) {f t:Nat} (hf:f<c.n) (U:t<c.n) {k:Int} {Q:(Bool×A3×A2×A8)→Prop}
  (J:∀ D W O,Rep c (m.hand c f t k).2 D W O→Ext o0 D→Q ((m.hand c f t k).1,D,W,O)):CX o0 o1 o2 f t k Q:=by
 unfold CX
 refine fZ Y h hf U fun b pb D O h' G V hb hi=>?_
 unfold NJ
 rw [F9,JD hb]
 refine AbC hi fun b' hi'=>?_
 have Z:=h'.setB Y V hi'
 unfold MS.hand at J
 cases e:((m.bx f t).take k).2.1 with
 | false=>
  rw [e] at J
  simp only [Bool.false_eq_true,if_false] at J
  exact AU rfl (J _ _ _ Z G)
 | true=>
  rw [e] at J
  simp only [if_true] at J
  refine AC rfl (AA (by omega) (Z.get U) ?_)
  obtain ⟨x,hx,hw⟩:=Z.wk t U
  refine DP hx ?_
  obtain ⟨i,hi1,hi2,hi3⟩:=zL hi e
  have hg:=g.box f t hf U _ (List.getElem_mem hi1)
  rw [←hi2] at hg
  have hw2:=AbH hw hg.1 hg.2
  have h3:=Z.setW Y U hw2
  have hle:(U8 ((DH m f t ((m.bx f t).take k).2.2.2).w t) ((m.bx f t).take k).1).at_≤c.S.length:=by
   unfold U8; split <;> exact hw.le
  exact zK Y hr U h3 hle fun s hs=>J _ _ _ hs G
theorem zN (h:Rep c m o0 o1 o2) {f t:Int} (G:¬((0≤f∧f<c.n)∧(0≤t∧t<c.n))) {k:Int} {Q:(Bool×A3×A2×A8)→Prop}
  (D:Q (false,o0,o1,o2)):CX o0 o1 o2 f t k Q:=by
 unfold CX
 refine mF h G ?_
 unfold J6 FG
 exact AU rfl (AU rfl D)
theorem Good.sent (hc:X3 c) (g:Good c m) {k:Nat} (hk:k<c.n):Good c (m.send c k).2:=by
 unfold MS.send
 split
 · exact g
 · rename_i f r ho
   split
   · rename_i Z
     obtain ⟨t,s,ht,hs',W,Y,V,hcn⟩:=g.out k hk f (by rw [ho]; exact List.mem_cons_self)
     have G:(m.bx k f.To.toNat).fullB=false:=by
       unfold Abs.send at Z
       cases hff:(m.bx k f.To.toNat).fullB with
       | false=>rfl
       | true=>rw [if_pos hff] at Z; simp at Z
     rw [W] at G ⊢
     simp only [Int.toNat_natCast] at G ⊢
     rw [U9 f G]
     have U:=g.room k t hk ht
     have hnf':(m.bx k t).row.length<(m.bx k t).room:=by unfold Abs.fullB at G; simpa using G
     refine ⟨fun i hi g' h=>?_,fun a b O J g' h=>?_,fun a b O J=>?_,fun a b O J=>?_,fun a b O J i g' h=>?_⟩
     · by_cases e:i=k
       · subst e
         simp only [ER,if_true] at h
         exact g.out i hi g' (by rw [ho]; exact List.mem_cons_of_mem _ h)
       · simp only [ER,if_neg e,DH] at h
         exact g.out i hi g' h
     · by_cases e:a=k∧b=t
       · obtain ⟨rfl,rfl⟩:=e
         simp only [ER,DH,and_self,if_true] at h
         rcases List.mem_append.1 h with h | h
         · exact g.box a b O J g' h
         · rw [List.mem_singleton] at h
           subst h
           exact ⟨⟨b,s,ht,hs',W,Y,⟨V.1,V.2.1,V.2.2⟩,hcn⟩,W⟩
       · simp only [ER,DH,if_neg e] at h
         exact g.box a b O J g' h
     · have D:=g.cnt a b O J
       by_cases e:a=k
       · subst e
         rw [ho] at D
         by_cases e':b=t
         · subst e'; simp [ER,DH] at D ⊢; omega
         · simp [ER,DH,e'] at D ⊢; omega
       · simpa [ER,DH,e] using D
     · by_cases e:a=k∧b=t
       · obtain ⟨rfl,rfl⟩:=e
         simp only [ER,DH,and_self,if_true,List.length_append,List.length_singleton]
         exact ⟨U.1,by omega⟩
       · simp only [ER,DH,if_neg e]
         exact g.room a b O J
     · by_cases e:a=k∧b=t
       · obtain ⟨rfl,rfl⟩:=e
         simp only [ER,DH,and_self,if_true] at h
         rcases Nat.lt_or_ge i (m.bx a b).fs.length with hi | hi
         · rw [List.getElem?_append_left hi] at h; exact g.seq a b O J i g' h
         · rw [List.getElem?_append_right hi,List.getElem?_singleton] at h
           split at h
           · cases h; show ((m.bx a b).fs.length:Int)=_; omega
           · cases h
       · simp only [ER,DH,if_neg e] at h
         exact g.seq a b O J i g' h
   · exact g
variable {c:T8} {m:MS} {o0:A3} {o1 o1x:A2} {o2:A8} {pb:AZ} {s:Abs}
theorem Good.setB (g:Good c m) {f t:Nat} {a:Abs} (G:a.fs=(m.bx f t).fs) (J:f<c.n→t<c.n→a.room=c.room∧a.row.length≤c.room):Good c (DH m f t a):=by
 refine ⟨g.out,fun i j hi D g' h=>?_,fun i j hi D=>?_,fun i j hi D=>?_,fun i j hi D q g' h=>?_⟩
 · by_cases e:i=f∧j=t
   · obtain ⟨rfl,rfl⟩:=e
     simp only [DH,and_self,if_true,G] at h
     exact g.box i j hi D g' h
   · simp only [DH,if_neg e] at h; exact g.box i j hi D g' h
 · by_cases e:i=f∧j=t
   · obtain ⟨rfl,rfl⟩:=e
     simp only [DH,and_self,if_true,G]
     exact g.cnt i j hi D
   · simp only [DH,if_neg e]; exact g.cnt i j hi D
 · by_cases e:i=f∧j=t
   · obtain ⟨rfl,rfl⟩:=e
     simp only [DH,and_self,if_true]; exact J hi D
   · simp only [DH,if_neg e]; exact g.room i j hi D
 · by_cases e:i=f∧j=t
   · obtain ⟨rfl,rfl⟩:=e
     simp only [DH,and_self,if_true,G] at h
     exact g.seq i j hi D q g' h
   · simp only [DH,if_neg e] at h; exact g.seq i j hi D q g' h
theorem Good.setW (g:Good c m) {k:Nat} {a:Wk} (h:a.out=(m.w k).out):Good c (ER m k a):=by
 have e:∀ i,((ER m k a).w i).out=(m.w i).out:=fun i=>by
  by_cases e:i=k
  · subst e; simp [ER,h]
  · simp [ER,e]
 exact ⟨fun i hi f D=>g.out i hi f (by rwa [e] at D),g.box,fun i j hi G=>by rw [e]; exact g.cnt i j hi G,g.room,g.seq⟩
theorem pG (a:Wk) (f:AM):(U8 a f).out=a.out:=by unfold U8; split <;> rfl
theorem Good.handed (g:Good c m) (f t:Nat) (k:Int):Good c (m.hand c f t k).2:=by
 have D:=uB (m.bx f t) k
 have h2:=zM (m.bx f t) k
 have h:Good c (DH m f t ((m.bx f t).take k).2.2.2):=g.setB D.1 fun J G=>by
   have:=g.room f t J G
   rw [D.2]; exact ⟨this.1,by omega⟩
 unfold MS.hand
 split
 · exact h.setW (by simp [YO,pG,DH])
 · exact h
def MS.double (m:MS) (f t:Nat) (k:Int):Bool×MS:=(((m.bx f t).double k).1==0,DH m f t ((m.bx f t).double k).2)
def MS.move (m:MS) (f t:Nat) (k:Int):Bool×MS:=(((m.bx f t).move k).1==0,DH m f t ((m.bx f t).move k).2)
theorem Good.doubled (g:Good c m) {f t:Nat} (J:f<c.n) (G:t<c.n) (k:Int):Good c (m.double f t k).2:=by
 have h:=g.room f t J G
 unfold MS.double Abs.double
 simp only
 split
 · exact g.setB rfl fun _ _=>h
 · split
   · exact g.setB rfl fun _ _=>h
   · rename_i h1 D
     refine g.setB rfl fun _ _=>⟨h.1,?_⟩
     have:(m.bx f t).row.length<(m.bx f t).room:=by unfold Abs.fullB at D; simpa using D
     simp only [List.length_append,List.length_singleton]; omega
theorem Good.moved (g:Good c m) {f t:Nat} (J:f<c.n) (G:t<c.n) (k:Int):Good c (m.move f t k).2:=by
 have D:=g.room f t J G
 unfold MS.move Abs.move
 simp only
 split
 · exact g.setB rfl fun _ _=>D
 · rename_i O
   have h:(m.bx f t).at k=0:=by simpa using O
   obtain ⟨i,rfl,hi⟩:=LJ h
   refine g.setB rfl fun _ _=>⟨D.1,?_⟩
   simp only [List.length_append,List.length_singleton,List.length_eraseIdx,Int.toNat_natCast,hi,if_true]; omega
def MS.sends (c:T8) (m:MS):Nat→Bool×MS
 | 0=>(false,m)
 | k+1=>(((m.sends c k).2.send c k).1 || (m.sends c k).1,((m.sends c k).2.send c k).2)
def MS.old (c:T8) (m:MS) (f t:Nat):MS:=(m.hand c f t (m.bx f t).oldest).2
def hands1 (c:T8) (f:Nat) (s:Bool×MS):Nat→Bool×MS
 | 0=>s
 | t+1=>((hands1 c f s t).1 || decide ((((hands1 c f s t).2.old c f t).bx f t).row.length<((hands1 c f s t).2.bx f t).row.length),(hands1 c f s t).2.old c f t)
def hands (c:T8) (s:Bool×MS):Nat→Bool×MS
 | 0=>s
 | f+1=>hands1 c f (hands c s f) c.n
def MS.window (c:T8) (m:MS):Bool×MS:=hands c (m.sends c c.n) c.n
theorem Good.sends (h:X3 c) (g:Good c m):∀ k,k≤c.n→Good c (m.sends c k).2
 | 0,_=>g
 | k+1,hk=>(Good.sends h g k (by omega)).sent h (by omega)
theorem Good.hands1 {x:Bool×MS} (g:Good c x.2) (f:Nat):∀ k,Good c (hands1 c f x k).2
 | 0=>g
 | k+1=>(Good.hands1 g f k).handed f k _
theorem Good.hands {x:Bool×MS} (g:Good c x.2):∀ k,Good c (hands c x k).2
 | 0=>g
 | k+1=>Good.hands1 (Good.hands g k) k _
theorem Good.window (h:X3 c) (g:Good c m):Good c (m.window c).2:=Good.hands (g.sends h c.n (by omega)) c.n
abbrev Tup:=A3×Bool×Int×A2×A8
abbrev rS (o0:A3) (b:Bool) (k:Int) (o1:A2) (o2:A8):Tup:=(o0,b,k,o1,o2)
theorem pH (h:Rep c m o0 o1 o2) {f t:Nat} {Q:Int→Prop} (D:Q ((m.bx f t).row.length:Int)):EH o2 ((BK ((f:Int),(t:Int)) o0.boxes).getD none) Q:=by
 unfold EH
 cases hg:BK ((f:Int),(t:Int)) o0.boxes with
 | none=>rw [Option.getD_none,cH]; rw [h.no f t hg] at D; exact D
 | some v=>
  cases v with
  | none=>exact absurd hg (h.nn _)
  | some b=>
   obtain ⟨pb,J,G⟩:=h.bx f t b hg
   rw [Option.getD_some,F9,JD J]
   exact rQ G D
theorem zO (h:Rep c m o0 o1 o2) {f t:Nat} {Q:Int→Prop} (D:Q (m.bx f t).oldest):IB o2 ((BK ((f:Int),(t:Int)) o0.boxes).getD none) Q:=by
 unfold IB
 cases hg:BK ((f:Int),(t:Int)) o0.boxes with
 | none=>rw [Option.getD_none,cH]; rw [h.no f t hg] at D; exact AU rfl D
 | some v=>
  cases v with
  | none=>exact absurd hg (h.nn _)
  | some b=>
   obtain ⟨pb,J,G⟩:=h.bx f t b hg
   rw [Option.getD_some,F9,JD J]
   exact vS G D
theorem jZ (hc:X3 c) (hr:Rk c) (h:Rep c m o0 o1 o2) (g:Good c m) {Q:(Bool×A3×A2×A8)→Prop}
   (hQ:∀ W o1' o2',Rep c (m.window c).2 W o1' o2'→Ext o0 W→Q ((m.window c).1,W,o1',o2')):DV o0 o1 o2 Q:=by
 have hn:=hc.n
 unfold DV
 refine BV (fun j (x:Tup)=>∃ (k:Nat) (a0:A3) (a1:A2) (a2:A8),x=rS a0 (m.sends c k).1 (k:Int) a1 a2∧k+j=c.n∧Rep c (m.sends c k).2 a0 a1 a2∧Ext o0 a0) (m0:=c.n) ⟨0,o0,o1,o2,rfl,by omega,h,Ext.refl _⟩ ?_
 rintro j _ next ⟨k,a0,a1,a2,rfl,hkj,J,V⟩ hnext
 show AD (decide ((k:Int)<(o0.workers.length:Int))) _ _
 rw [h.len]
 refine A0 (fun hk=>?_) (fun hk=>?_)
 · have hk':k<c.n:=by omega
   refine pE hc J (g.sends hc k (by omega)) hk' fun U b1 b2 hb hbx=>?_
   have D:next (rS U (m.sends c (k+1)).1 ((k+1:Nat):Int) b1 b2):=hnext (j - 1) _ (by omega) ⟨k+1,U,b1,b2,rfl,by omega,hb,V.trans hbx⟩
   have e:A7 ((k:Int)+1)=((k+1:Nat):Int):=by rw [AH (by omega) (by omega)]; simp
   rw [←e] at D
   unfold MS.sends at D
   cases hs:((m.sends c k).2.send c k).1 with
   | true=>rw [hs] at D; exact AU rfl D
   | false=>rw [hs] at D; exact AC rfl D
 · have hkn:k=c.n:=by omega
   subst hkn
   refine BV (fun j (x:Tup)=>∃ (f:Nat) (U:A3) (b1:A2) (b2:A8),x=rS U (hands c (m.sends c c.n) f).1 (f:Int) b1 b2∧f+j=c.n∧Rep c (hands c (m.sends c c.n) f).2 U b1 b2∧Ext o0 U) (m0:=c.n) ⟨0,a0,a1,a2,rfl,by omega,J,V⟩ ?_
   rintro j2 _ next2 ⟨f,U,b1,b2,rfl,hfj,Z,hxb⟩ hnext2
   show AD (decide ((f:Int)<(a0.workers.length:Int))) _ _
   rw [J.len]
   refine A0 (fun hf=>?_) (fun hf=>?_)
   · have hf':f<c.n:=by omega
     refine BV (fun j (x:Tup)=>∃ (t:Nat) (Y:A3) (d1:A2) (d2:A8),x=rS Y (hands1 c f (hands c (m.sends c c.n) f) t).1 (t:Int) d1 d2∧t+j=c.n∧Rep c (hands1 c f (hands c (m.sends c c.n) f) t).2 Y d1 d2∧Ext o0 Y) (m0:=c.n) ⟨0,U,b1,b2,rfl,by omega,Z,hxb⟩ ?_
     rintro j3 _ O ⟨t,Y,d1,d2,rfl,htj,G,hxd⟩ hnext3
     show AD (decide ((t:Int)<(U.workers.length:Int))) _ _
     rw [Z.len]
     refine A0 (fun ht=>?_) (fun ht=>?_)
     · have ht':t<c.n:=by omega
       have gd:Good c (hands1 c f (hands c (m.sends c c.n) f) t).2:=Good.hands1 (Good.hands (g.sends hc c.n (by omega)) f) f t
       refine K5 (pH G (zO G ?_))
       refine pF hc hr G gd hf' ht' fun e0 e1 e2 hre hxe=>?_
       have e:A7 ((t:Int)+1)=((t+1:Nat):Int):=by rw [AH (by omega) (by omega)]; simp
       have D:O (rS e0 (hands1 c f (hands c (m.sends c c.n) f) (t+1)).1 ((t+1:Nat):Int) e1 e2):=hnext3 (j3 - 1) _ (by omega) ⟨t+1,e0,e1,e2,rfl,by omega,hre,hxd.trans hxe⟩
       rw [←e] at D
       unfold hands1 at D
       cases hs:(hands1 c f (hands c (m.sends c c.n) f) t).1 with
       | true=>rw [hs] at D; exact AU rfl D
       | false=>
        rw [hs] at D
        refine AC rfl ?_
        simp only [Bool.false_or] at D
        cases hg:BK ((f:Int),(t:Int)) Y.boxes with
        | none=>
         unfold EH
         rw [Option.getD_none,cH]
         have hz:((hands1 c f (hands c (m.sends c c.n) f) t).2.bx f t).row.length=0:=by rw [G.no f t hg]; rfl
         rw [hz] at D ⊢
         have ez:decide ((((hands1 c f (hands c (m.sends c c.n) f) t).2.old c f t).bx f t).row.length<0)=false:=by simp
         rw [ez] at D
         exact D
        | some v=>
         cases v with
         | none=>exact absurd hg (G.nn _)
         | some b=>
          have hg':=hxe _ _ hg
          have:=pH (f:=f) (t:=t) (Q:=fun r=>O (rS e0 (decide (r<(((hands1 c f (hands c (m.sends c c.n) f) t).2.bx f t).row.length:Int))) (A7 ((t:Int)+1)) e1 e2)) hre (by
           have e3:decide ((((((hands1 c f (hands c (m.sends c c.n) f) t).2.hand c f t ((hands1 c f (hands c (m.sends c c.n) f) t).2.bx f t).oldest).2.bx f t).row.length:Nat):Int)<(((hands1 c f (hands c (m.sends c c.n) f) t).2.bx f t).row.length:Int))=decide ((((hands1 c f (hands c (m.sends c c.n) f) t).2.old c f t).bx f t).row.length<((hands1 c f (hands c (m.sends c c.n) f) t).2.bx f t).row.length):=by
            apply decide_eq_decide.2
            unfold MS.old
            omega
           rw [e3]
           exact D)
          rw [hg'] at this
          exact this
     · have htn:t=c.n:=by omega
       subst htn
       have e:A7 ((f:Int)+1)=((f+1:Nat):Int):=by rw [AH (by omega) (by omega)]; simp
       have D:=hnext2 (j2 - 1) (rS Y (hands c (m.sends c c.n) (f+1)).1 ((f+1:Nat):Int) d1 d2) (by omega) ⟨f+1,Y,d1,d2,rfl,by omega,G,hxd⟩
       rw [←e] at D
       exact D
   · have hfn:f=c.n:=by omega
     subst hfn
     exact hQ _ _ _ Z hxb
def dX (x:EI):Bool:=decide (0≤x.A∧x.A≤63∧0≤x.B∧x.B≤63∧0≤x.K∧x.K≤63∧0<x.Kind∧x.Kind≤5)
theorem aL {x:EI} {Q:Bool→Prop} (D:Q (dX x)):QA x Q:=by
 have U:∀ {a:Int} {Q:Bool→Prop},Q (decide (0≤a∧a≤63))→LX a 63 Q:=by
   intro a Q h
   unfold LX
   refine A0 (fun O=>?_) (fun O=>?_)
   · simpa [O] using h
   · simpa [O] using h
 unfold QA
 unfold dX at D
 refine U (BN (fun h=>?_) fun h=>U (BN (fun G=>?_) fun G=>U (BN (fun J=>?_) fun J=>A0 (fun V=>?_) (fun V=>?_))))
 · have:=of_decide_eq_false h; rwa [decide_eq_false (by omega)] at D
 · have:=of_decide_eq_false G; rwa [decide_eq_false (by omega)] at D
 · have:=of_decide_eq_false J; rwa [decide_eq_false (by omega)] at D
 · have h:=of_decide_eq_true h; have G:=of_decide_eq_true G; have J:=of_decide_eq_true J
   have e:decide (x.Kind≤5)=decide (0≤x.A∧x.A≤63∧0≤x.B∧x.B≤63∧0≤x.K∧x.K≤63∧0<x.Kind∧x.Kind≤5):=decide_eq_decide.2 (by omega)
   rw [e]; exact D
 · rwa [decide_eq_false (by omega)] at D
def wO (c:T8) (a:Int):Prop:=0≤a∧a<c.n
instance (c:T8) (a:Int):Decidable (wO c a):=by unfold wO; infer_instance
def MS.act (c:T8) (m:MS) (x:EI):Bool×MS:=
 if dX x=false then (false,m)
 else if x.Kind=1 then (if wO c x.A then m.send c x.A.toNat else (false,m))
 else if x.Kind=5 then m.window c
 else if wO c x.A∧wO c x.B then
  (if x.Kind=2 then m.hand c x.A.toNat x.B.toNat x.K else if x.Kind=3 then m.double x.A.toNat x.B.toNat x.K else m.move x.A.toNat x.B.toNat x.K)
 else (false,m)
theorem vU (h:Rep c m o0 o1 o2) {k:Int} (hk:¬wO c k) {Q:(Bool×A3×A2×A8)→Prop} (D:Q (false,o0,o1,o2)):CW o0 o1 o2 k Q:=by
 unfold CW
 refine mG h ?_
 rw [if_neg (show ¬(0≤k∧k<(c.n:Int)) from hk)]
 exact AU rfl D
theorem zP (W:X3 c) (hr:Rk c) (h:Rep c m o0 o1 o2) (g:Good c m) {x:EI} {Q:(Bool×A3×A2×A8)→Prop}
   (D:∀ G o1' U,Rep c (m.act c x).2 G o1' U→Ext o0 G→Q ((m.act c x).1,G,o1',U)):EY o0 o1 o2 x Q:=by
 unfold EY
 unfold MS.act at D
 refine aL (BN (fun h1=>?_) fun h1=>?_)
 · rw [if_pos h1] at D; exact D _ _ _ h (Ext.refl _)
 · rw [if_neg (by rw [h1]; simp)] at D
   have hb:=of_decide_eq_true h1
   refine BB (fun h2=>?_) fun h2=>?_
   · rw [if_pos h2] at D
     by_cases hi:wO c x.A
     · rw [if_pos hi] at D
       have e:x.A=((x.A.toNat:Nat):Int):=by have:=hi.1; omega
       rw [e]
       exact pE W h g (by have:=hi.2; have:=hi.1; omega) fun _ _ _ r e'=>D _ _ _ r e'
     · rw [if_neg hi] at D
       exact vU h hi (D _ _ _ h (Ext.refl _))
   · rw [if_neg h2] at D
     by_cases h5:x.Kind=5
     · rw [if_pos h5] at D
       refine BB (fun e=>by omega) fun _=>BB (fun e=>by omega) fun _=>BB (fun e=>by omega) fun _=>?_
       exact jZ W hr h g fun _ _ _ r e'=>D _ _ _ r e'
     · rw [if_neg h5] at D
       by_cases hi:wO c x.A∧wO c x.B
       · rw [if_pos hi] at D
         have e1:x.A=((x.A.toNat:Nat):Int):=by have:=hi.1.1; omega
         have e2:x.B=((x.B.toNat:Nat):Int):=by have:=hi.2.1; omega
         have l1:x.A.toNat<c.n:=by have:=hi.1.2; have:=hi.1.1; omega
         have l2:x.B.toNat<c.n:=by have:=hi.2.2; have:=hi.2.1; omega
         rw [e1,e2]
         refine BB (fun e=>?_) fun e3=>BB (fun e=>?_) fun e4=>BB (fun e=>?_) fun e=>?_
         · rw [if_pos e] at D
           exact pF W hr h g l1 l2 fun _ _ _ r e'=>D _ _ _ r e'
         · rw [if_neg e3,if_pos e] at D
           refine fZ W h l1 l2 fun b pb G U h' O J Y V=>?_
           unfold LR
           rw [F9,JD Y]
           exact vQ V fun b' Z=>D _ _ _ (h'.setB W J Z) O
         · rw [if_neg e3,if_neg e4] at D
           refine fZ W h l1 l2 fun b pb G U h' O J Y V=>?_
           unfold NK
           rw [F9,JD Y]
           exact AbD V fun b' Z=>D _ _ _ (h'.setB W J Z) O
         · omega
       · rw [if_neg hi] at D
         have q:=D _ _ _ h (Ext.refl _)
         refine BB (fun e=>?_) fun e3=>BB (fun e=>?_) fun e4=>BB (fun e=>?_) fun e=>?_
         · exact zN h hi q
         · refine mF h hi ?_
           unfold H6 FG
           exact AU rfl q
         · refine mF h hi ?_
           unfold J8 FG
           exact AU rfl q
         · omega
theorem Good.acted (h:X3 c) (g:Good c m) (x:EI):Good c (m.act c x).2:=by
 unfold MS.act
 split
 · exact g
 · split
   · split
     · rename_i hi; exact g.sent h (by have:=hi.2; have:=hi.1; omega)
     · exact g
   · split
     · exact g.window h
     · split
       · rename_i hi
         have G:x.A.toNat<c.n:=by have:=hi.1.2; have:=hi.1.1; omega
         have D:x.B.toNat<c.n:=by have:=hi.2.2; have:=hi.2.1; omega
         split
         · exact g.handed _ _ _
         · split
           · exact g.doubled G D _
           · exact g.moved G D _
       · exact g
def aM (g:Nat→Nat):Nat→Nat
 | 0=>0
 | n+1=>aM g n+g n
theorem KD {g g':Nat→Nat}:∀ {n:Nat},(∀ i,i<n→g' i=g i)→aM g' n=aM g n
 | 0,_=>rfl
 | n+1,h=>by unfold aM; rw [KD fun i hi=>h i (by omega),h n (by omega)]
theorem X5 {g g':Nat→Nat} {k:Nat}:∀ {n:Nat},k<n→(∀ i,i≠k→g' i=g i)→aM g' n+g k=aM g n+g' k
 | 0,h,_=>by omega
 | n+1,h,he=>by
  unfold aM
  by_cases e:k=n
  · subst e
    rw [KD (g':=g') (g:=g) fun i hi=>he i (by omega)]; omega
  · have:=X5 (g:=g) (g':=g') (n:=n) (k:=k) (by omega) he
    rw [he n (by omega)]; omega
theorem TA (a:Nat):∀ n:Nat,aM (fun _=>a) n=n*a
 | 0=>by simp [aM]
 | n+1=>by unfold aM; rw [TA a n,Nat.succ_mul]
variable {c:T8} {m:MS} {s:Abs}
def iH (c:T8) (m:MS):Nat:=aM (fun k=>(m.w k).out.length) c.n
def OT (c:T8) (m:MS):Nat:=aM (fun f=>aM (fun t=>(m.bx f t).fs.length) c.n) c.n
theorem YP {f t:Nat} {a:Abs} (D:f<c.n) (h:t<c.n):OT c (DH m f t a)+(m.bx f t).fs.length=OT c m+a.fs.length:=by
 have G:=X5 (g:=fun j=>(m.bx f j).fs.length) (g':=fun j=>((DH m f t a).bx f j).fs.length) h (fun i hi=>by simp [DH,hi])
 have h2:=X5 (g:=fun i=>aM (fun j=>(m.bx i j).fs.length) c.n) (g':=fun i=>aM (fun j=>((DH m f t a).bx i j).fs.length) c.n) D (fun i hi=>by simp [DH,hi])
 have e:((DH m f t a).bx f t)=a:=by simp [DH]
 rw [e] at G
 unfold OT
 omega
theorem kA {k:Nat} {a:Wk} (hk:k<c.n):iH c (ER m k a)+(m.w k).out.length=iH c m+a.out.length:=by
 have h:=X5 (g:=fun j=>(m.w j).out.length) (g':=fun j=>((ER m k a).w j).out.length) hk (fun i hi=>by simp [ER,hi])
 have e:((ER m k a).w k)=a:=by simp [ER]
 rw [e] at h
 unfold iH
 omega
theorem cI {f t:Nat} {a:Abs}:iH c (DH m f t a)=iH c m:=rfl
theorem gA {k:Nat} {a:Wk}:OT c (ER m k a)=OT c m:=rfl
structure BInv (s:Abs):Prop where
 lt:∀ n∈s.row,n<s.fs.length
 pend:∀ n,s.taken≤n→n<s.fs.length→n∈s.row
 tk:s.taken≤s.fs.length
theorem BInv.empty (c:T8):BInv (empty c):=⟨fun n D=>by simp [Go.Proofs.YtbohadngdkjljaaGreat.empty] at D,fun n _ h=>by simp [Go.Proofs.YtbohadngdkjljaaGreat.empty] at h,Nat.le_refl _⟩
theorem cJ {l:List Nat} {i n:Nat} (hi:i<l.length) (h:n∈l) (D:n≠l[i]):n∈l.eraseIdx i:=by
 rw [←List.count_pos_iff,OS hi,if_neg D,List.count_pos_iff]; exact h
theorem BInv.send (h:BInv s) (f:AM):BInv (s.send f).2:=by
 unfold Abs.send
 split
 · exact h
 · refine ⟨fun n D=>?_,fun n J G=>?_,?_⟩
   · rcases List.mem_append.1 D with D | D
     · have:=h.lt n D; simp; omega
     · rw [List.mem_singleton] at D; simp; omega
   · simp only [List.length_append,List.length_singleton] at G
     by_cases e:n=s.fs.length
     · exact List.mem_append.2 (.inr (by simp [e]))
     · exact List.mem_append.2 (.inl (h.pend n J (by omega)))
   · have:=h.tk; simp; omega
theorem BInv.double (h:BInv s) (k:Int):BInv (s.double k).2:=by
 unfold Abs.double
 split
 · exact h
 · split
   · exact h
   · rename_i G _
     obtain ⟨i,rfl,hi⟩:=LJ (by simpa using G)
     refine ⟨fun n D=>?_,fun n O J=>List.mem_append.2 (.inl (h.pend n O J)),h.tk⟩
     rcases List.mem_append.1 D with D | D
     · exact h.lt n D
     · rw [List.mem_singleton,MW hi] at D; subst D; exact h.lt _ (List.getElem_mem hi)
theorem BInv.move (h:BInv s) (k:Int):BInv (s.move k).2:=by
 unfold Abs.move
 split
 · exact h
 · rename_i G
   obtain ⟨i,rfl,hi⟩:=LJ (by simpa using G)
   simp only [Int.toNat_natCast,MW hi]
   refine ⟨fun n D=>?_,fun n O J=>?_,h.tk⟩
   · rcases List.mem_append.1 D with D | D
     · exact h.lt n ((List.eraseIdx_sublist s.row i).mem D)
     · rw [List.mem_singleton] at D; subst D; exact h.lt _ (List.getElem_mem hi)
   · by_cases e:n=s.row[i]
     · exact List.mem_append.2 (.inr (by simp [e]))
     · exact List.mem_append.2 (.inl (cJ hi (h.pend n O J) e))
theorem BInv.take (h:BInv s) (k:Int):BInv (s.take k).2.2.2:=by
 unfold Abs.take
 split
 · exact h
 · rename_i V
   obtain ⟨i,rfl,hi⟩:=LJ (by simpa using V)
   rw [MW hi]
   simp only [Int.toNat_natCast]
   have U:=h.lt _ (List.getElem_mem hi)
   split
   · exact h
   · split
     · rename_i Y W
       refine ⟨fun n J=>h.lt n ((List.eraseIdx_sublist s.row i).mem J),fun n D G=>cJ hi (h.pend n D G) ?_,h.tk⟩
       have O:s.taken≤n:=D
       omega
     · rename_i Y W
       refine ⟨fun n J=>h.lt n ((List.eraseIdx_sublist s.row i).mem J),fun n D G=>?_,?_⟩
       · have O:s.taken+1≤n:=D
         exact cJ hi (h.pend n (by omega) G) (by omega)
       · show s.taken+1≤s.fs.length
         omega
end Go.Proofs.YtbohadngdkjljaaGreat
