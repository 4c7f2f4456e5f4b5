import Derived.Test.YtbohadngdkjljaaGreatSumA
namespace Go.Proofs.YtbohadngdkjljaaGreat
open Go Go.Fw
set_option linter.unusedVariables false
set_option linter.unusedSimpArgs false
section bank
variable {α:Type} {xs:List (Nat×α)} {b:Nat} {x:α}
theorem T3 (h:BK b xs=some x) (K:Nat→α→Prop):CE xs (some b) K=K b x:=
 propext ⟨fun ⟨b',x',e,D,k⟩=>by cases e; rw [h] at D; cases D; exact k,fun k=>⟨b,x,rfl,h,k⟩⟩
theorem D4 {K:Nat→α→Prop} (h:BK b xs=some x) (k:K b x):CE xs (some b) K:=⟨b,x,rfl,h,k⟩
theorem RY (K:Nat→α→Prop):CE ((b,x) :: xs) (some b) K=K b x:=T3 QS K
theorem WS:BM b ((b,x) :: xs)=xs:=by simp [BM]
theorem FC (b:Nat) {A:Prop} {B:Nat→Prop}:Y1 (some b) A B=B b:=propext ⟨fun h=>h.2 b rfl,fun h=>⟨fun e=>(by cases e),fun b' e=>by cases e; exact h⟩⟩
theorem bW {A:Prop} {B:Nat→Prop}:Y1 none A B=A:=propext ⟨fun h=>h.1 rfl,fun h=>⟨fun _=>h,fun b' e=>by cases e⟩⟩
theorem JD (h:BK b xs=some x) (K:α→Prop):Z7 xs b K=K x:=propext ⟨fun ⟨x',D,k⟩=>by rw [h] at D; cases D; exact k,fun k=>⟨x,h,k⟩⟩
end bank
def Fok (c:SK) (f:AO):Prop:=∃ t s:Nat,t<c.n∧s<c.S.length∧f.To=t∧f.Round=s∧TY f∧((f.Kind=6∧f.Triples=c.LA t s)∨(f.Kind=7∧f.Triples=c.RB t s))
structure Good (c:SK) (m:MS):Prop where
 out:∀ k<c.n,∀ f∈(m.w k).out,Fok c f
 box:∀ f t,f<c.n→t<c.n→∀ g∈(m.bx f t).fs,Fok c g∧g.To=t
 cnt:∀ f t,f<c.n→t<c.n→(m.bx f t).fs.length+(m.w f).out.length≤100000
 room:∀ f t,f<c.n→t<c.n→(m.bx f t).room=c.room∧(m.bx f t).row.length≤c.room
 seq:∀ f t,f<c.n→t<c.n→∀ (i:Nat) g,(m.bx f t).fs[i]? = some g→g.Seq=i
def MS.send (c:SK) (m:MS) (k:Nat):Bool×MS:=
 match (m.w k).out with
 | []=>(false,m)
 | f :: r=>if ((m.bx k f.To.toNat).send f).1=0 then (true,EX (DL m k f.To.toNat ((m.bx k f.To.toNat).send f).2) k { m.w k with out:=r }) else (false,m)
variable {c:SK} {m:MS} {o0:A1} {o1 o1x:A2} {o2:A6}
theorem ZZ (h:Rep c m o0 o1 o2) {k:Int} {Q:Int→Prop} (D:Q (if 0≤k∧k<c.n then ((m.w k.toNat).out.length:Int) else 0)):CX o0 o1 k Q:=by
 unfold CX
 refine YC h (CF (fun G=>?_) (fun G=>?_))
 · rwa [if_neg (of_decide_eq_false G)] at D
 · have hk:=of_decide_eq_true G
   rw [if_pos hk] at D
   obtain ⟨n,rfl⟩:∃ n:Nat,k=n:=⟨k.toNat,by omega⟩
   obtain ⟨x,O,J⟩:=h.wk n (by omega)
   refine A9 hk.1 (h.get (by omega)) ?_
   rw [T3 O,J.out]
   simpa using D
theorem vT {f:AO} (h:Fok c f):TY f:=by obtain ⟨t,s,_,_,_,_,h,_⟩:=h; exact h
theorem oZ (hc:VL c) (h:Rep c m o0 o1 o2) (g:Good c m) {k:Nat} (hk:k<c.n) {Q:(Bool×A1×A2×A6)→Prop}
  (hQ:∀ G o1' J,Rep c (m.send c k).2 G o1' J→Ext o0 G→Q ((m.send c k).1,G,o1',J)):CY o0 o1 o2 k Q:=by
 unfold CY
 refine ZZ h ?_
 rw [if_pos (by omega)]
 obtain ⟨x,hx,U⟩:=h.wk k hk
 simp only [Int.toNat_natCast]
 cases ho:(m.w k).out with
 | nil=>
  refine AY (by simp) ?_
  have:=hQ o0 o1 o2
  simp only [MS.send,ho] at this
  exact this h (Ext.refl _)
 | cons f r=>
  refine AC (by simp; omega) (A9 (by omega) (h.get hk) ?_)
  have hf:Fok c f:=g.out k hk f (by rw [ho]; exact List.mem_cons_self)
  obtain ⟨t,s,ht,hs,hto,hro,hsm,hcn⟩:=hf
  have O:x.out=f :: r:=by rw [U.out,ho]
  have W:=g.cnt k t hk ht
  rw [ho] at W
  simp only [List.length_cons] at W
  refine D4 hx (A9 (by omega) (x:=f) (by rw [O]; rfl) (A9 (by omega) (x:=f) (by rw [O]; rfl) ?_))
  rw [hto]
  refine fP hc h hk ht fun b pb G J h' V Y hb hi=>?_
  unfold NM
  rw [FC,JD hb]
  have D:=hQ
  simp only [MS.send,ho,hto,Int.toNat_natCast] at D
  refine AbG hi hsm (by omega) fun b' hi'=>?_
  have h2:=h'.setB hc Y hi'
  by_cases e:((m.bx k t).send f).1=0
  · rw [if_pos e] at D
    refine CK (fun h1=>absurd e h1) fun _=>?_
    refine D4 hx ⟨by omega,by rw [O]; simp; omega,by omega,?_⟩
    have Z:((x.out.take (x.out.length:Int).toNat).drop (Int.toNat 1))=r:=by rw [O]; simp
    refine D _ _ _ (h2.setW hc hk (a:={ m.w k with out:=r }) ⟨U.i,U.j,U.mask,Z,U.at_,U.le,U.has,U.l,U.r⟩) V
  · rw [if_neg e] at D
    refine CK (fun _=>?_) fun h1=>absurd h1 e
    have h3:Rep c m G o1 ((b,b') :: BM b J):=by
     have e2:((m.bx k t).send f).2=m.bx k t:=by
      unfold Abs.send at e ⊢
      split
      · rfl
      · rename_i hh; rw [if_neg hh] at e; exact absurd rfl e
     rw [e2] at h2
     have:DL m k t (m.bx k t)=m:=by
      unfold DL
      congr 1
      funext i j
      split
      · rename_i hh; rw [hh.1,hh.2]
      · rfl
     rwa [this] at h2
    exact D _ _ _ h3 V
def VM (D h:Nat→Bool) (S:Nat):Nat→Nat→Nat
 | 0,a=>a
 | k+1,a=>if a<S∧D a=true∧h a=true then VM D h S k (a+1) else a
def U0 (a:Wk) (f:AO):Wk:=if f.Kind=6 then { a with gl:=fun s=>if s=f.Round.toNat then true else a.gl s } else { a with gr:=fun s=>if s=f.Round.toNat then true else a.gr s }
def YD (S:Nat) (a:Wk):Wk:={ a with at_:=VM a.gl a.gr S S a.at_ }
def Rk (c:SK):Prop:=∀ (k s:Nat) (hs:s<c.S.length),k<c.n→∀ Q:List AB→Prop,Q (c.has k (s+1)) →
 QC c.p.Ring (c.mask k).Rows (A7 (c.S[s].To - c.S[s].From)) (c.LA k s) fun h=>QC c.p.Ring (A7 (c.S[s].To - c.S[s].From)) (c.mask k).Cols (c.RB k s) fun G=>
  QD c.p.Ring h.1 G.1 (c.mask k) fun J=>NK c.p.Ring ([c.has k s,J.1]:List (List AB)) fun D=>Q D.1
theorem rS (Y:VL c) (hr:Rk c) (h:Rep c m o0 o1 o2) {k:Nat} (hk:k<c.n) {Q:(Bool×A2)→Prop}
  (W:¬((m.w k).at_<c.S.length∧(m.w k).gl (m.w k).at_=true∧(m.w k).gr (m.w k).at_=true)→Q (false,o1))
  (h1:(m.w k).at_<c.S.length→(m.w k).gl (m.w k).at_=true→(m.w k).gr (m.w k).at_=true→∀ O,Rep c (EX m k { m.w k with at_:=(m.w k).at_+1 }) o0 O o2→Q (true,O)) :
  DQ o0 o1 (some (c.adr k)) Q:=by
 obtain ⟨x,hx,D⟩:=h.wk k hk
 have hS:=Y.S
 have Z:=D.le
 unfold DQ
 simp only [T3 hx,RY,WS]
 rw [h.S,D.at_]
 refine A0 (fun e=>W fun J=>by omega) fun e=>?_
 have hl:=D.l _ (Nat.le_refl _)
 have V:=D.r _ (Nat.le_refl _)
 unfold kL
 rw [hl,V]
 cases hgl:(m.w k).gl (m.w k).at_ with
 | false=>exact AY rfl (W fun J=>by rw [hgl] at J; simp at J)
 | true=>
  refine AC rfl ?_
  cases hgr:(m.w k).gr (m.w k).at_ with
  | false=>exact AY rfl (W fun J=>by rw [hgr] at J; simp at J)
  | true=>
   have G:(m.w k).at_<c.S.length:=by omega
   refine AC rfl (AK G (AK G ?_))
   simp only [if_true,Option.getD_some]
   rw [h.p,D.mask,D.has]
   refine hr k _ G hk (fun z=>Q (true,(c.adr k,({ i:=x.i,j:=x.j,mask:=c.mask k,out:=x.out,parts:=BM ({ kind:=7,stage:=((m.w k).at_:Int) }:BE) (BM ({ kind:=6,stage:=((m.w k).at_:Int) }:BE) x.parts),at_:=A7 (((m.w k).at_:Int)+1),has:=z }:AF)) :: BM (c.adr k) o1)) ?_
   refine h1 G hgl hgr _ ?_
   refine h.setW Y hk ⟨D.i,D.j,rfl,D.out,?_,G,rfl,?_,?_⟩
   · simp only; rw [AJ (by omega) (by omega)]; simp
   · intro s U
     simp only at U ⊢
     rw [EL (by simp),EL (by simp; omega)]
     exact D.l s (by omega)
   · intro s U
     simp only at U ⊢
     rw [EL (by simp; omega),EL (by simp)]
     exact D.r s (by omega)
theorem jU (m:MS) (k:Nat) (a b:Wk):EX (EX m k a) k b=EX m k b:=by
 unfold EX; congr 1; funext i; by_cases e:i=k <;> simp [e]
theorem QT (m:MS) (k:Nat) (a:Wk):(EX m k a).w k=a:=by simp [EX]
theorem zP (hc:VL c) (hr:Rk c) {k:Nat} (hk:k<c.n) {a:Wk} {s0:A2} (h:Rep c (EX m k a) o0 s0 o2) (ha:a.at_≤c.S.length)
   {Qf:A2→Prop} (hQ:∀ s,Rep c (EX m k (YD c.S.length a)) o0 s o2→Qf s) :
   B1 (fun (s:A2) (next:A2→Prop)=>DQ o0 s (some (c.adr k)) fun r=>AD r.1 (next r.2) (Qf r.2)) s0:=by
 have J:∀ (V U:Nat→Bool) (j t:Nat),c.S.length≤t→VM V U c.S.length j t=t:=by
   intro V U j t Z
   cases j with
   | zero=>rfl
   | succ j=>unfold VM; rw [if_neg (by omega)]
 have hmore:∀ (V U:Nat→Bool) (j t:Nat),c.S.length≤t+j→∀ i,VM V U c.S.length (j+i) t=VM V U c.S.length j t:=by
   intro V U j
   induction j with
   | zero=>intro t Z i; rw [J _ _ _ _ (by omega),J _ _ _ _ (by omega)]
   | succ j ih=>
    intro t Z i
    rw [show j+1+i=(j+i)+1 by omega]
    unfold VM
    split
    · exact ih (t+1) (by omega) i
    · rfl
 refine BT (fun j s=>∃ t,Rep c (EX m k { a with at_:=t }) o0 s o2∧c.S.length≤t+j∧t≤c.S.length∧VM a.gl a.gr c.S.length j t=(YD c.S.length a).at_) (m0:=c.S.length) ⟨a.at_,h,by omega,ha,rfl⟩ ?_
 rintro j s next ⟨t,O,hj,Z,G⟩ hn
 refine rS hc hr O hk (fun W=>?_) (fun g1 g2 Y o1' D=>?_)
 · refine AC rfl (hQ _ ?_)
   rw [QT] at W
   have:(YD c.S.length a) = { a with at_:=t }:=by
    have e:VM a.gl a.gr c.S.length j t=t:=by
      cases j with
      | zero=>rfl
      | succ j=>unfold VM; rw [if_neg W]
    rw [e] at G
    unfold YD at G ⊢
    simp only at G
    rw [←G]
   rw [this]; exact O
 · rw [QT] at g1 g2 Y D
   rw [jU] at D
   simp only at g1 g2 Y D
   refine AY rfl (hn (j - 1) _ (by omega) ⟨t+1,D,by omega,by omega,?_⟩)
   rw [←G]
   obtain ⟨i,rfl⟩:∃ i,j=i+1:=⟨j - 1,by omega⟩
   show VM a.gl a.gr c.S.length i (t+1)=_
   conv=>rhs; unfold VM
   rw [if_pos ⟨g1,g2,Y⟩]
variable {c:SK} {m:MS} {o0:A1} {o1 o1x:A2} {o2:A6} {pb:AZ} {s:Abs}
theorem U1 {s:Abs} (f:AO) (h:s.fullB=false):s.send f=(0,{ s with row:=s.row++[s.fs.length],fs:=s.fs++[{ f with Seq:=s.fs.length }] }):=by simp [Abs.send,h]
theorem zQ (h:X2 pb s) {k:Int} (D:(s.take k).2.1=true):∃ i:Nat,∃ hi:i<s.fs.length,(s.take k).1=s.fs[i]∧i=s.taken:=by
 unfold Abs.take at D ⊢
 split at D
 · cases D
 · rename_i V
   have G:s.at k=0:=by simpa using V
   obtain ⟨i,rfl,hi⟩:=LL G
   rw [N2 hi] at D ⊢
   rw [if_neg (by rw [G]; simp)]
   have J:=h.lt _ (List.getElem_mem hi)
   split at D
   · cases D
   · split at D
     · cases D
     · rename_i U O
       rw [if_neg U,if_neg O]
       exact ⟨s.row[i],J,by simp [J],by omega⟩
theorem uC (s:Abs) (k:Int):(s.take k).2.2.2.fs=s.fs∧(s.take k).2.2.2.room=s.room:=by
 unfold Abs.take; split <;> (try split) <;> (try split) <;> exact ⟨rfl,rfl⟩
theorem zT (s:Abs) (k:Int):(s.take k).2.2.2.row.length≤s.row.length:=by
 unfold Abs.take
 split <;> (try split) <;> (try split) <;> simp [List.length_eraseIdx] <;> split <;> omega
def MS.hand (c:SK) (m:MS) (f t:Nat) (k:Int):Bool×MS:=
 if ((m.bx f t).take k).2.1=true then (true,EX (DL m f t ((m.bx f t).take k).2.2.2) t (YD c.S.length (U0 (m.w t) ((m.bx f t).take k).1))) else (false,DL m f t ((m.bx f t).take k).2.2.2)
theorem AbM {k:Nat} {a:Wk} {x:AF} (h:AbL c k a x) {f:AO} (W:Fok c f) (Y:f.To=(k:Int)) :
   AbL c k (U0 a f) { i:=x.i,j:=x.j,mask:=x.mask,out:=x.out,parts:=(FF ({ kind:=f.Kind,stage:=f.Round }:BE) f.Triples x.parts),at_:=x.at_,has:=x.has }:=by
 obtain ⟨t,r,ht,hr,O,J,V,U⟩:=W
 have e:t=k:=by omega
 subst e
 rcases U with ⟨hk,D⟩ | ⟨hk,D⟩
 · unfold U0
   rw [if_pos hk]
   refine ⟨h.i,h.j,h.mask,h.out,h.at_,h.le,h.has,fun s G=>?_,fun s G=>?_⟩
   · simp only [hk,J,D,Int.toNat_natCast]
     by_cases es:s=r
     · subst es; rw [BG]; simp
     · rw [BB (by simp; omega),h.l s G]; simp [es]
   · simp only [hk]
     rw [BB (by simp)]
     exact h.r s G
 · unfold U0
   rw [if_neg (by omega)]
   refine ⟨h.i,h.j,h.mask,h.out,h.at_,h.le,h.has,fun s G=>?_,fun s G=>?_⟩
   · simp only [hk]
     rw [BB (by simp)]
     exact h.l s G
   · simp only [hk,J,D,Int.toNat_natCast]
     by_cases es:s=r
     · subst es; rw [BG]; simp
     · rw [BB (by simp; omega),h.r s G]; simp [es]
theorem pA (Y:VL c) (hr:Rk c) (h:Rep c m o0 o1 o2) (g:Good c m) {f t:Nat} (hf:f<c.n) (U:t<c.n) {k:Int} {Q:(Bool×A1×A2×A6)→Prop}
  (O:∀ D W J,Rep c (m.hand c f t k).2 D W J→Ext o0 D→Q ((m.hand c f t k).1,D,W,J)):CZ o0 o1 o2 f t k Q:=by
 unfold CZ
 refine fP Y h hf U fun b pb D J h' G V hb hi=>?_
 unfold NN
 rw [FC,JD hb]
 refine AbH hi fun b' hi'=>?_
 have Z:=h'.setB Y V hi'
 unfold MS.hand at O
 cases e:((m.bx f t).take k).2.1 with
 | false=>
  rw [e] at O
  simp only [Bool.false_eq_true,if_false] at O
  exact AY rfl (O _ _ _ Z G)
 | true=>
  rw [e] at O
  simp only [if_true] at O
  refine AC rfl (A9 (by omega) (Z.get U) ?_)
  obtain ⟨x,hx,hw⟩:=Z.wk t U
  refine D4 hx ?_
  obtain ⟨i,hi1,hi2,hi3⟩:=zQ hi e
  have hg:=g.box f t hf U _ (List.getElem_mem hi1)
  rw [←hi2] at hg
  have hw2:=AbM hw hg.1 hg.2
  have h3:=Z.setW Y U hw2
  have hle:(U0 ((DL m f t ((m.bx f t).take k).2.2.2).w t) ((m.bx f t).take k).1).at_≤c.S.length:=by
   unfold U0; split <;> exact hw.le
  exact zP Y hr U h3 hle fun s hs=>O _ _ _ hs G
theorem zU (h:Rep c m o0 o1 o2) {f t:Int} (G:¬((0≤f∧f<c.n)∧(0≤t∧t<c.n))) {k:Int} {Q:(Bool×A1×A2×A6)→Prop}
  (D:Q (false,o0,o1,o2)):CZ o0 o1 o2 f t k Q:=by
 unfold CZ
 refine dY h G ?_
 unfold J6 FJ
 exact AY rfl (AY rfl D)
theorem Good.sent (hc:VL c) (g:Good c m) {k:Nat} (hk:k<c.n):Good c (m.send c k).2:=by
 unfold MS.send
 split
 · exact g
 · rename_i f r ho
   split
   · rename_i Z
     obtain ⟨t,s,ht,hs',W,Y,U,hcn⟩:=g.out k hk f (by rw [ho]; exact List.mem_cons_self)
     have G:(m.bx k f.To.toNat).fullB=false:=by
       unfold Abs.send at Z
       cases hff:(m.bx k f.To.toNat).fullB with
       | false=>rfl
       | true=>rw [if_pos hff] at Z; simp at Z
     rw [W] at G ⊢
     simp only [Int.toNat_natCast] at G ⊢
     rw [U1 f G]
     have V:=g.room k t hk ht
     have hnf':(m.bx k t).row.length<(m.bx k t).room:=by unfold Abs.fullB at G; simpa using G
     refine ⟨fun i hi g' h=>?_,fun a b O J g' h=>?_,fun a b O J=>?_,fun a b O J=>?_,fun a b O J i g' h=>?_⟩
     · by_cases e:i=k
       · subst e
         simp only [EX,if_true] at h
         exact g.out i hi g' (by rw [ho]; exact List.mem_cons_of_mem _ h)
       · simp only [EX,if_neg e,DL] at h
         exact g.out i hi g' h
     · by_cases e:a=k∧b=t
       · obtain ⟨rfl,rfl⟩:=e
         simp only [EX,DL,and_self,if_true] at h
         rcases List.mem_append.1 h with h | h
         · exact g.box a b O J g' h
         · rw [List.mem_singleton] at h
           subst h
           exact ⟨⟨b,s,ht,hs',W,Y,⟨U.1,U.2.1,U.2.2⟩,hcn⟩,W⟩
       · simp only [EX,DL,if_neg e] at h
         exact g.box a b O J g' h
     · have D:=g.cnt a b O J
       by_cases e:a=k
       · subst e
         rw [ho] at D
         by_cases e':b=t
         · subst e'; simp [EX,DL] at D ⊢; omega
         · simp [EX,DL,e'] at D ⊢; omega
       · simpa [EX,DL,e] using D
     · by_cases e:a=k∧b=t
       · obtain ⟨rfl,rfl⟩:=e
         simp only [EX,DL,and_self,if_true,List.length_append,List.length_singleton]
         exact ⟨V.1,by omega⟩
       · simp only [EX,DL,if_neg e]
         exact g.room a b O J
     · by_cases e:a=k∧b=t
       · obtain ⟨rfl,rfl⟩:=e
         simp only [EX,DL,and_self,if_true] at h
         rcases Nat.lt_or_ge i (m.bx a b).fs.length with hi | hi
         · rw [List.getElem?_append_left hi] at h; exact g.seq a b O J i g' h
         · rw [List.getElem?_append_right hi,List.getElem?_singleton] at h
           split at h
           · cases h; show ((m.bx a b).fs.length:Int)=_; omega
           · cases h
       · simp only [EX,DL,if_neg e] at h
         exact g.seq a b O J i g' h
   · exact g
variable {c:SK} {m:MS} {o0:A1} {o1 o1x:A2} {o2:A6} {pb:AZ} {s:Abs}
theorem Good.setB (g:Good c m) {f t:Nat} {a:Abs} (G:a.fs=(m.bx f t).fs) (J:f<c.n→t<c.n→a.room=c.room∧a.row.length≤c.room):Good c (DL m f t a):=by
 refine ⟨g.out,fun i j hi D g' h=>?_,fun i j hi D=>?_,fun i j hi D=>?_,fun i j hi D q g' h=>?_⟩
 · by_cases e:i=f∧j=t
   · obtain ⟨rfl,rfl⟩:=e
     simp only [DL,and_self,if_true,G] at h
     exact g.box i j hi D g' h
   · simp only [DL,if_neg e] at h; exact g.box i j hi D g' h
 · by_cases e:i=f∧j=t
   · obtain ⟨rfl,rfl⟩:=e
     simp only [DL,and_self,if_true,G]
     exact g.cnt i j hi D
   · simp only [DL,if_neg e]; exact g.cnt i j hi D
 · by_cases e:i=f∧j=t
   · obtain ⟨rfl,rfl⟩:=e
     simp only [DL,and_self,if_true]; exact J hi D
   · simp only [DL,if_neg e]; exact g.room i j hi D
 · by_cases e:i=f∧j=t
   · obtain ⟨rfl,rfl⟩:=e
     simp only [DL,and_self,if_true,G] at h
     exact g.seq i j hi D q g' h
   · simp only [DL,if_neg e] at h; exact g.seq i j hi D q g' h
theorem Good.setW (g:Good c m) {k:Nat} {a:Wk} (h:a.out=(m.w k).out):Good c (EX m k a):=by
 have e:∀ i,((EX m k a).w i).out=(m.w i).out:=fun i=>by
  by_cases e:i=k
  · subst e; simp [EX,h]
  · simp [EX,e]
 exact ⟨fun i hi f D=>g.out i hi f (by rwa [e] at D),g.box,fun i j hi G=>by rw [e]; exact g.cnt i j hi G,g.room,g.seq⟩
theorem pB (a:Wk) (f:AO):(U0 a f).out=a.out:=by unfold U0; split <;> rfl
theorem Good.handed (g:Good c m) (f t:Nat) (k:Int):Good c (m.hand c f t k).2:=by
 have h:=uC (m.bx f t) k
 have h2:=zT (m.bx f t) k
 have D:Good c (DL m f t ((m.bx f t).take k).2.2.2):=g.setB h.1 fun G J=>by
   have:=g.room f t G J
   rw [h.2]; exact ⟨this.1,by omega⟩
 unfold MS.hand
 split
 · exact D.setW (by simp [YD,pB,DL])
 · exact D
def MS.double (m:MS) (f t:Nat) (k:Int):Bool×MS:=(((m.bx f t).double k).1==0,DL m f t ((m.bx f t).double k).2)
def MS.move (m:MS) (f t:Nat) (k:Int):Bool×MS:=(((m.bx f t).move k).1==0,DL m f t ((m.bx f t).move k).2)
theorem Good.doubled (g:Good c m) {f t:Nat} (G:f<c.n) (J:t<c.n) (k:Int):Good c (m.double f t k).2:=by
 have h:=g.room f t G J
 unfold MS.double Abs.double
 simp only
 split
 · exact g.setB rfl fun _ _=>h
 · split
   · exact g.setB rfl fun _ _=>h
   · rename_i h1 D
     refine g.setB rfl fun _ _=>⟨h.1,?_⟩
     have:(m.bx f t).row.length<(m.bx f t).room:=by unfold Abs.fullB at D; simpa using D
     simp only [List.length_append,List.length_singleton]; omega
theorem Good.moved (g:Good c m) {f t:Nat} (G:f<c.n) (J:t<c.n) (k:Int):Good c (m.move f t k).2:=by
 have D:=g.room f t G J
 unfold MS.move Abs.move
 simp only
 split
 · exact g.setB rfl fun _ _=>D
 · rename_i O
   have h:(m.bx f t).at k=0:=by simpa using O
   obtain ⟨i,rfl,hi⟩:=LL h
   refine g.setB rfl fun _ _=>⟨D.1,?_⟩
   simp only [List.length_append,List.length_singleton,List.length_eraseIdx,Int.toNat_natCast,hi,if_true]; omega
def MS.sends (c:SK) (m:MS):Nat→Bool×MS
 | 0=>(false,m)
 | k+1=>(((m.sends c k).2.send c k).1 || (m.sends c k).1,((m.sends c k).2.send c k).2)
def MS.old (c:SK) (m:MS) (f t:Nat):MS:=(m.hand c f t (m.bx f t).oldest).2
def hands1 (c:SK) (f:Nat) (s:Bool×MS):Nat→Bool×MS
 | 0=>s
 | t+1=>((hands1 c f s t).1 || decide ((((hands1 c f s t).2.old c f t).bx f t).row.length<((hands1 c f s t).2.bx f t).row.length),(hands1 c f s t).2.old c f t)
def hands (c:SK) (s:Bool×MS):Nat→Bool×MS
 | 0=>s
 | f+1=>hands1 c f (hands c s f) c.n
def MS.window (c:SK) (m:MS):Bool×MS:=hands c (m.sends c c.n) c.n
theorem Good.sends (h:VL c) (g:Good c m):∀ k,k≤c.n→Good c (m.sends c k).2
 | 0,_=>g
 | k+1,hk=>(Good.sends h g k (by omega)).sent h (by omega)
theorem Good.hands1 {x:Bool×MS} (g:Good c x.2) (f:Nat):∀ k,Good c (hands1 c f x k).2
 | 0=>g
 | k+1=>(Good.hands1 g f k).handed f k _
theorem Good.hands {x:Bool×MS} (g:Good c x.2):∀ k,Good c (hands c x k).2
 | 0=>g
 | k+1=>Good.hands1 (Good.hands g k) k _
theorem Good.window (h:VL c) (g:Good c m):Good c (m.window c).2:=Good.hands (g.sends h c.n (by omega)) c.n
abbrev Tup:=A1×Bool×Int×A2×A6
abbrev rT (o0:A1) (b:Bool) (k:Int) (o1:A2) (o2:A6):Tup:=(o0,b,k,o1,o2)
theorem pC (h:Rep c m o0 o1 o2) {f t:Nat} {Q:Int→Prop} (D:Q ((m.bx f t).row.length:Int)):EM o2 ((BK ((f:Int),(t:Int)) o0.boxes).getD none) Q:=by
 unfold EM
 cases hg:BK ((f:Int),(t:Int)) o0.boxes with
 | none=>rw [Option.getD_none,bW]; rw [h.no f t hg] at D; exact D
 | some v=>
  cases v with
  | none=>exact absurd hg (h.nn _)
  | some b=>
   obtain ⟨pb,J,G⟩:=h.bx f t b hg
   rw [Option.getD_some,FC,JD J]
   exact rR G D
theorem zV (h:Rep c m o0 o1 o2) {f t:Nat} {Q:Int→Prop} (D:Q (m.bx f t).oldest):ID o2 ((BK ((f:Int),(t:Int)) o0.boxes).getD none) Q:=by
 unfold ID
 cases hg:BK ((f:Int),(t:Int)) o0.boxes with
 | none=>rw [Option.getD_none,bW]; rw [h.no f t hg] at D; exact AY rfl D
 | some v=>
  cases v with
  | none=>exact absurd hg (h.nn _)
  | some b=>
   obtain ⟨pb,J,G⟩:=h.bx f t b hg
   rw [Option.getD_some,FC,JD J]
   exact vS G D
theorem jV (hc:VL c) (hr:Rk c) (h:Rep c m o0 o1 o2) (g:Good c m) {Q:(Bool×A1×A2×A6)→Prop}
   (hQ:∀ Z o1' o2',Rep c (m.window c).2 Z o1' o2'→Ext o0 Z→Q ((m.window c).1,Z,o1',o2')):DV o0 o1 o2 Q:=by
 have hn:=hc.n
 unfold DV
 refine BT (fun j (x:Tup)=>∃ (k:Nat) (a0:A1) (a1:A2) (a2:A6),x=rT a0 (m.sends c k).1 (k:Int) a1 a2∧k+j=c.n∧Rep c (m.sends c k).2 a0 a1 a2∧Ext o0 a0) (m0:=c.n) ⟨0,o0,o1,o2,rfl,by omega,h,Ext.refl _⟩ ?_
 rintro j _ next ⟨k,a0,a1,a2,rfl,hkj,J,V⟩ hnext
 show AD (decide ((k:Int)<(o0.workers.length:Int))) _ _
 rw [h.len]
 refine A0 (fun hk=>?_) (fun hk=>?_)
 · have hk':k<c.n:=by omega
   refine oZ hc J (g.sends hc k (by omega)) hk' fun U W b2 hb hbx=>?_
   have D:next (rT U (m.sends c (k+1)).1 ((k+1:Nat):Int) W b2):=hnext (j - 1) _ (by omega) ⟨k+1,U,W,b2,rfl,by omega,hb,V.trans hbx⟩
   have e:A7 ((k:Int)+1)=((k+1:Nat):Int):=by rw [AJ (by omega) (by omega)]; simp
   rw [←e] at D
   unfold MS.sends at D
   cases hs:((m.sends c k).2.send c k).1 with
   | true=>rw [hs] at D; exact AY rfl D
   | false=>rw [hs] at D; exact AC rfl D
 · have hkn:k=c.n:=by omega
   subst hkn
   refine BT (fun j (x:Tup)=>∃ (f:Nat) (U:A1) (W:A2) (b2:A6),x=rT U (hands c (m.sends c c.n) f).1 (f:Int) W b2∧f+j=c.n∧Rep c (hands c (m.sends c c.n) f).2 U W b2∧Ext o0 U) (m0:=c.n) ⟨0,a0,a1,a2,rfl,by omega,J,V⟩ ?_
   rintro j2 _ next2 ⟨f,U,W,b2,rfl,hfj,hrb,hxb⟩ hnext2
   show AD (decide ((f:Int)<(a0.workers.length:Int))) _ _
   rw [J.len]
   refine A0 (fun hf=>?_) (fun hf=>?_)
   · have hf':f<c.n:=by omega
     refine BT (fun j (x:Tup)=>∃ (t:Nat) (Y:A1) (d1:A2) (d2:A6),x=rT Y (hands1 c f (hands c (m.sends c c.n) f) t).1 (t:Int) d1 d2∧t+j=c.n∧Rep c (hands1 c f (hands c (m.sends c c.n) f) t).2 Y d1 d2∧Ext o0 Y) (m0:=c.n) ⟨0,U,W,b2,rfl,by omega,hrb,hxb⟩ ?_
     rintro j3 _ O ⟨t,Y,d1,d2,rfl,htj,G,hxd⟩ hnext3
     show AD (decide ((t:Int)<(U.workers.length:Int))) _ _
     rw [hrb.len]
     refine A0 (fun ht=>?_) (fun ht=>?_)
     · have ht':t<c.n:=by omega
       have gd:Good c (hands1 c f (hands c (m.sends c c.n) f) t).2:=Good.hands1 (Good.hands (g.sends hc c.n (by omega)) f) f t
       refine K6 (pC G (zV G ?_))
       refine pA hc hr G gd hf' ht' fun e0 e1 e2 hre hxe=>?_
       have e:A7 ((t:Int)+1)=((t+1:Nat):Int):=by rw [AJ (by omega) (by omega)]; simp
       have D:O (rT e0 (hands1 c f (hands c (m.sends c c.n) f) (t+1)).1 ((t+1:Nat):Int) e1 e2):=hnext3 (j3 - 1) _ (by omega) ⟨t+1,e0,e1,e2,rfl,by omega,hre,hxd.trans hxe⟩
       rw [←e] at D
       unfold hands1 at D
       cases hs:(hands1 c f (hands c (m.sends c c.n) f) t).1 with
       | true=>rw [hs] at D; exact AY rfl D
       | false=>
        rw [hs] at D
        refine AC rfl ?_
        simp only [Bool.false_or] at D
        cases hg:BK ((f:Int),(t:Int)) Y.boxes with
        | none=>
         unfold EM
         rw [Option.getD_none,bW]
         have hz:((hands1 c f (hands c (m.sends c c.n) f) t).2.bx f t).row.length=0:=by rw [G.no f t hg]; rfl
         rw [hz] at D ⊢
         have ez:decide ((((hands1 c f (hands c (m.sends c c.n) f) t).2.old c f t).bx f t).row.length<0)=false:=by simp
         rw [ez] at D
         exact D
        | some v=>
         cases v with
         | none=>exact absurd hg (G.nn _)
         | some b=>
          have hg':=hxe _ _ hg
          have:=pC (f:=f) (t:=t) (Q:=fun r=>O (rT e0 (decide (r<(((hands1 c f (hands c (m.sends c c.n) f) t).2.bx f t).row.length:Int))) (A7 ((t:Int)+1)) e1 e2)) hre (by
           have e3:decide ((((((hands1 c f (hands c (m.sends c c.n) f) t).2.hand c f t ((hands1 c f (hands c (m.sends c c.n) f) t).2.bx f t).oldest).2.bx f t).row.length:Nat):Int)<(((hands1 c f (hands c (m.sends c c.n) f) t).2.bx f t).row.length:Int))=decide ((((hands1 c f (hands c (m.sends c c.n) f) t).2.old c f t).bx f t).row.length<((hands1 c f (hands c (m.sends c c.n) f) t).2.bx f t).row.length):=by
            apply decide_eq_decide.2
            unfold MS.old
            omega
           rw [e3]
           exact D)
          rw [hg'] at this
          exact this
     · have htn:t=c.n:=by omega
       subst htn
       have e:A7 ((f:Int)+1)=((f+1:Nat):Int):=by rw [AJ (by omega) (by omega)]; simp
       have D:=hnext2 (j2 - 1) (rT Y (hands c (m.sends c c.n) (f+1)).1 ((f+1:Nat):Int) d1 d2) (by omega) ⟨f+1,Y,d1,d2,rfl,by omega,G,hxd⟩
       rw [←e] at D
       exact D
   · have hfn:f=c.n:=by omega
     subst hfn
     exact hQ _ _ _ hrb hxb
def hU (x:FP):Bool:=decide (0≤x.A∧x.A≤63∧0≤x.B∧x.B≤63∧0≤x.K∧x.K≤63∧0<x.Kind∧x.Kind≤5)
theorem aA {x:FP} {Q:Bool→Prop} (D:Q (hU x)):Q9 x Q:=by
 have O:∀ {a:Int} {Q:Bool→Prop},Q (decide (0≤a∧a≤63))→M1 a 63 Q:=by
   intro a Q h
   unfold M1
   refine A0 (fun U=>?_) (fun U=>?_)
   · simpa [U] using h
   · simpa [U] using h
 unfold Q9
 unfold hU at D
 refine O (CF (fun h=>?_) fun h=>O (CF (fun G=>?_) fun G=>O (CF (fun J=>?_) fun J=>A0 (fun V=>?_) (fun V=>?_))))
 · have:=of_decide_eq_false h; rwa [decide_eq_false (by omega)] at D
 · have:=of_decide_eq_false G; rwa [decide_eq_false (by omega)] at D
 · have:=of_decide_eq_false J; rwa [decide_eq_false (by omega)] at D
 · have h:=of_decide_eq_true h; have G:=of_decide_eq_true G; have J:=of_decide_eq_true J
   have e:decide (x.Kind≤5)=decide (0≤x.A∧x.A≤63∧0≤x.B∧x.B≤63∧0≤x.K∧x.K≤63∧0<x.Kind∧x.Kind≤5):=decide_eq_decide.2 (by omega)
   rw [e]; exact D
 · rwa [decide_eq_false (by omega)] at D
def wR (c:SK) (a:Int):Prop:=0≤a∧a<c.n
instance (c:SK) (a:Int):Decidable (wR c a):=by unfold wR; infer_instance
def MS.act (c:SK) (m:MS) (x:FP):Bool×MS:=
 if hU x=false then (false,m)
 else if x.Kind=1 then (if wR c x.A then m.send c x.A.toNat else (false,m))
 else if x.Kind=5 then m.window c
 else if wR c x.A∧wR c x.B then
  (if x.Kind=2 then m.hand c x.A.toNat x.B.toNat x.K else if x.Kind=3 then m.double x.A.toNat x.B.toNat x.K else m.move x.A.toNat x.B.toNat x.K)
 else (false,m)
theorem vU (h:Rep c m o0 o1 o2) {k:Int} (hk:¬wR c k) {Q:(Bool×A1×A2×A6)→Prop} (D:Q (false,o0,o1,o2)):CY o0 o1 o2 k Q:=by
 unfold CY
 refine ZZ h ?_
 rw [if_neg (show ¬(0≤k∧k<(c.n:Int)) from hk)]
 exact AY rfl D
theorem mB (V:VL c) (hr:Rk c) (h:Rep c m o0 o1 o2) (g:Good c m) {x:FP} {Q:(Bool×A1×A2×A6)→Prop}
   (D:∀ J o1' U,Rep c (m.act c x).2 J o1' U→Ext o0 J→Q ((m.act c x).1,J,o1',U)):DJ o0 o1 o2 x Q:=by
 unfold DJ
 unfold MS.act at D
 refine aA (CF (fun h1=>?_) fun h1=>?_)
 · rw [if_pos h1] at D; exact D _ _ _ h (Ext.refl _)
 · rw [if_neg (by rw [h1]; simp)] at D
   have hb:=of_decide_eq_true h1
   refine BA (fun h2=>?_) fun h2=>?_
   · rw [if_pos h2] at D
     by_cases hi:wR c x.A
     · rw [if_pos hi] at D
       have e:x.A=((x.A.toNat:Nat):Int):=by have:=hi.1; omega
       rw [e]
       exact oZ V h g (by have:=hi.2; have:=hi.1; omega) fun _ _ _ r e'=>D _ _ _ r e'
     · rw [if_neg hi] at D
       exact vU h hi (D _ _ _ h (Ext.refl _))
   · rw [if_neg h2] at D
     by_cases h5:x.Kind=5
     · rw [if_pos h5] at D
       refine BA (fun e=>by omega) fun _=>BA (fun e=>by omega) fun _=>BA (fun e=>by omega) fun _=>?_
       exact jV V hr h g fun _ _ _ r e'=>D _ _ _ r e'
     · rw [if_neg h5] at D
       by_cases hi:wR c x.A∧wR c x.B
       · rw [if_pos hi] at D
         have e1:x.A=((x.A.toNat:Nat):Int):=by have:=hi.1.1; omega
         have e2:x.B=((x.B.toNat:Nat):Int):=by have:=hi.2.1; omega
         have l1:x.A.toNat<c.n:=by have:=hi.1.2; have:=hi.1.1; omega
         have l2:x.B.toNat<c.n:=by have:=hi.2.2; have:=hi.2.1; omega
         rw [e1,e2]
         refine BA (fun e=>?_) fun e3=>BA (fun e=>?_) fun e4=>BA (fun e=>?_) fun e=>?_
         · rw [if_pos e] at D
           exact pA V hr h g l1 l2 fun _ _ _ r e'=>D _ _ _ r e'
         · rw [if_neg e3,if_pos e] at D
           refine fP V h l1 l2 fun b pb J U h' G O W Y=>?_
           unfold LV
           rw [FC,JD W]
           exact vQ Y fun b' Z=>D _ _ _ (h'.setB V O Z) G
         · rw [if_neg e3,if_neg e4] at D
           refine fP V h l1 l2 fun b pb J U h' G O W Y=>?_
           unfold NO
           rw [FC,JD W]
           exact AbI Y fun b' Z=>D _ _ _ (h'.setB V O Z) G
         · omega
       · rw [if_neg hi] at D
         have q:=D _ _ _ h (Ext.refl _)
         refine BA (fun e=>?_) fun e3=>BA (fun e=>?_) fun e4=>BA (fun e=>?_) fun e=>?_
         · exact zU h hi q
         · refine dY h hi ?_
           unfold H7 FJ
           exact AY rfl q
         · refine dY h hi ?_
           unfold J8 FJ
           exact AY rfl q
         · omega
theorem Good.acted (D:VL c) (g:Good c m) (x:FP):Good c (m.act c x).2:=by
 unfold MS.act
 split
 · exact g
 · split
   · split
     · rename_i hi; exact g.sent D (by have:=hi.2; have:=hi.1; omega)
     · exact g
   · split
     · exact g.window D
     · split
       · rename_i hi
         have h:x.A.toNat<c.n:=by have:=hi.1.2; have:=hi.1.1; omega
         have G:x.B.toNat<c.n:=by have:=hi.2.2; have:=hi.2.1; omega
         split
         · exact g.handed _ _ _
         · split
           · exact g.doubled h G _
           · exact g.moved h G _
       · exact g
def MH (g:Nat→Nat):Nat→Nat
 | 0=>0
 | n+1=>MH g n+g n
theorem ER {g g':Nat→Nat}:∀ {n:Nat},(∀ i,i<n→g' i=g i)→MH g' n=MH g n
 | 0,_=>rfl
 | n+1,h=>by unfold MH; rw [ER fun i hi=>h i (by omega),h n (by omega)]
theorem WT {g g':Nat→Nat} {k:Nat}:∀ {n:Nat},k<n→(∀ i,i≠k→g' i=g i)→MH g' n+g k=MH g n+g' k
 | 0,h,_=>by omega
 | n+1,h,he=>by
  unfold MH
  by_cases e:k=n
  · subst e
    rw [ER (g':=g') (g:=g) fun i hi=>he i (by omega)]; omega
  · have:=WT (g:=g) (g':=g') (n:=n) (k:=k) (by omega) he
    rw [he n (by omega)]; omega
theorem KD (a:Nat):∀ n:Nat,MH (fun _=>a) n=n*a
 | 0=>by simp [MH]
 | n+1=>by unfold MH; rw [KD a n,Nat.succ_mul]
variable {c:SK} {m:MS} {s:Abs}
def aB (c:SK) (m:MS):Nat:=MH (fun k=>(m.w k).out.length) c.n
def KZ (c:SK) (m:MS):Nat:=MH (fun f=>MH (fun t=>(m.bx f t).fs.length) c.n) c.n
theorem YE {f t:Nat} {a:Abs} (h:f<c.n) (D:t<c.n):KZ c (DL m f t a)+(m.bx f t).fs.length=KZ c m+a.fs.length:=by
 have G:=WT (g:=fun j=>(m.bx f j).fs.length) (g':=fun j=>((DL m f t a).bx f j).fs.length) D (fun i hi=>by simp [DL,hi])
 have h2:=WT (g:=fun i=>MH (fun j=>(m.bx i j).fs.length) c.n) (g':=fun i=>MH (fun j=>((DL m f t a).bx i j).fs.length) c.n) h (fun i hi=>by simp [DL,hi])
 have e:((DL m f t a).bx f t)=a:=by simp [DL]
 rw [e] at G
 unfold KZ
 omega
theorem jW {k:Nat} {a:Wk} (hk:k<c.n):aB c (EX m k a)+(m.w k).out.length=aB c m+a.out.length:=by
 have h:=WT (g:=fun j=>(m.w j).out.length) (g':=fun j=>((EX m k a).w j).out.length) hk (fun i hi=>by simp [EX,hi])
 have e:((EX m k a).w k)=a:=by simp [EX]
 rw [e] at h
 unfold aB
 omega
theorem bX {f t:Nat} {a:Abs}:aB c (DL m f t a)=aB c m:=rfl
theorem fQ {k:Nat} {a:Wk}:KZ c (EX m k a)=KZ c m:=rfl
structure BInv (s:Abs):Prop where
 lt:∀ n∈s.row,n<s.fs.length
 pend:∀ n,s.taken≤n→n<s.fs.length→n∈s.row
 tk:s.taken≤s.fs.length
theorem BInv.empty (c:SK):BInv (empty c):=⟨fun n D=>by simp [Go.Proofs.YtbohadngdkjljaaGreat.empty] at D,fun n _ h=>by simp [Go.Proofs.YtbohadngdkjljaaGreat.empty] at h,Nat.le_refl _⟩
theorem bY {l:List Nat} {i n:Nat} (hi:i<l.length) (h:n∈l) (D:n≠l[i]):n∈l.eraseIdx i:=by
 rw [←List.count_pos_iff,OR hi,if_neg D,List.count_pos_iff]; exact h
theorem BInv.send (h:BInv s) (f:AO):BInv (s.send f).2:=by
 unfold Abs.send
 split
 · exact h
 · refine ⟨fun n D=>?_,fun n J G=>?_,?_⟩
   · rcases List.mem_append.1 D with D | D
     · have:=h.lt n D; simp; omega
     · rw [List.mem_singleton] at D; simp; omega
   · simp only [List.length_append,List.length_singleton] at G
     by_cases e:n=s.fs.length
     · exact List.mem_append.2 (.inr (by simp [e]))
     · exact List.mem_append.2 (.inl (h.pend n J (by omega)))
   · have:=h.tk; simp; omega
theorem BInv.double (h:BInv s) (k:Int):BInv (s.double k).2:=by
 unfold Abs.double
 split
 · exact h
 · split
   · exact h
   · rename_i O _
     obtain ⟨i,rfl,hi⟩:=LL (by simpa using O)
     refine ⟨fun n D=>?_,fun n J G=>List.mem_append.2 (.inl (h.pend n J G)),h.tk⟩
     rcases List.mem_append.1 D with D | D
     · exact h.lt n D
     · rw [List.mem_singleton,N2 hi] at D; subst D; exact h.lt _ (List.getElem_mem hi)
theorem BInv.move (h:BInv s) (k:Int):BInv (s.move k).2:=by
 unfold Abs.move
 split
 · exact h
 · rename_i O
   obtain ⟨i,rfl,hi⟩:=LL (by simpa using O)
   simp only [Int.toNat_natCast,N2 hi]
   refine ⟨fun n D=>?_,fun n J G=>?_,h.tk⟩
   · rcases List.mem_append.1 D with D | D
     · exact h.lt n ((List.eraseIdx_sublist s.row i).mem D)
     · rw [List.mem_singleton] at D; subst D; exact h.lt _ (List.getElem_mem hi)
   · by_cases e:n=s.row[i]
     · exact List.mem_append.2 (.inr (by simp [e]))
     · exact List.mem_append.2 (.inl (bY hi (h.pend n J G) e))
theorem BInv.take (h:BInv s) (k:Int):BInv (s.take k).2.2.2:=by
 unfold Abs.take
 split
 · exact h
 · rename_i Y
   obtain ⟨i,rfl,hi⟩:=LL (by simpa using Y)
   rw [N2 hi]
   simp only [Int.toNat_natCast]
   have W:=h.lt _ (List.getElem_mem hi)
   split
   · exact h
   · split
     · rename_i V U
       refine ⟨fun n G=>h.lt n ((List.eraseIdx_sublist s.row i).mem G),fun n D J=>bY hi (h.pend n D J) ?_,h.tk⟩
       have O:s.taken≤n:=D
       omega
     · rename_i V U
       refine ⟨fun n G=>h.lt n ((List.eraseIdx_sublist s.row i).mem G),fun n D J=>?_,?_⟩
       · have O:s.taken+1≤n:=D
         exact bY hi (h.pend n (by omega) J) (by omega)
       · show s.taken+1≤s.fs.length
         omega
end Go.Proofs.YtbohadngdkjljaaGreat
