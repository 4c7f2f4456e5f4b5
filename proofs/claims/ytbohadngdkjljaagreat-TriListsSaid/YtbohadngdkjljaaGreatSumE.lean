import Derived.Test.YtbohadngdkjljaaGreatSumA
namespace Go.Proofs.YtbohadngdkjljaaGreat
open Go Go.Fw
set_option linter.unusedVariables false
set_option linter.unusedSimpArgs false
section bank
variable {α:Type} {xs:List (Nat×α)} {b:Nat} {x:α}
theorem fR (h:BN b xs=some x) (K:Nat→α→Prop):GL xs (some b) K=K b x:=
  propext ⟨fun ⟨b',x',e,D,k⟩=>by cases e; rw [h] at D; cases D; exact k,fun k=>⟨b,x,rfl,h,k⟩⟩
theorem NC {K:Nat→α→Prop} (h:BN b xs=some x) (k:K b x):GL xs (some b) K:=⟨b,x,rfl,h,k⟩
theorem vX (K:Nat→α→Prop):GL ((b,x) :: xs) (some b) K=K b x:=fR XB K
theorem AcC:CM b ((b,x) :: xs)=xs:=by simp [CM]
theorem SU (b:Nat) {A:Prop} {B:Nat→Prop}:uA (some b) A B=B b:=propext ⟨fun h=>h.2 b rfl,fun h=>⟨fun e=>(by cases e),fun b' e=>by cases e; exact h⟩⟩
theorem fS {A:Prop} {B:Nat→Prop}:uA none A B=A:=propext ⟨fun h=>h.1 rfl,fun h=>⟨fun _=>h,fun b' e=>by cases e⟩⟩
theorem ZT (h:BN b xs=some x) (K:α→Prop):yF xs b K=K x:=propext ⟨fun ⟨x',D,k⟩=>by rw [h] at D; cases D; exact k,fun k=>⟨x,h,k⟩⟩
end bank
def Fok (c:XC) (f:BL):Prop:=∃ t s:Nat,t<c.n∧s<c.S.length∧f.To=t∧f.Round=s∧rX f∧((f.Kind=6∧f.Triples=c.LA t s)∨(f.Kind=7∧f.Triples=c.RB t s))
structure Good (c:XC) (m:MS):Prop where
  out:∀ k<c.n,∀ f∈(m.w k).out,Fok c f
  box:∀ f t,f<c.n→t<c.n→∀ g∈(m.bx f t).fs,Fok c g∧g.To=t
  cnt:∀ f t,f<c.n→t<c.n→(m.bx f t).fs.length+(m.w f).out.length≤100000
  room:∀ f t,f<c.n→t<c.n→(m.bx f t).room=c.room∧(m.bx f t).row.length≤c.room
def MS.send (c:XC) (m:MS) (k:Nat):Bool×MS:=
  match (m.w k).out with
  | []=>(false,m)
  | f :: r=>if ((m.bx k f.To.toNat).send f).1=0 then (true,ED (CZ m k f.To.toNat ((m.bx k f.To.toNat).send f).2) k { m.w k with out:=r }) else (false,m)
variable {c:XC} {m:MS} {o0:AC} {o1 o1x:List (Nat×AA)} {o2:List (Nat×AF)}
theorem Ab8 (h:Rep c m o0 o1 o2) {k:Int} {Q:Int→Prop} (G:Q (if 0≤k∧k<c.n then ((m.w k.toNat).out.length:Int) else 0)):GH o0 o1 k Q:=by
  unfold GH
  refine lP h (CP (fun D=>?_) (fun D=>?_))
  · rwa [if_neg (of_decide_eq_false D)] at G
  · have hk:=of_decide_eq_true D
    rw [if_pos hk] at G
    obtain ⟨n,rfl⟩:∃ n:Nat,k=n:=⟨k.toNat,by omega⟩
    obtain ⟨x,O,J⟩:=h.wk n (by omega)
    refine AP hk.1 (h.get (by omega)) ?_
    rw [fR O,J.out]
    simpa using G
theorem vY (hc:iS c) (h:Rep c m o0 o1 o2) (g:Good c m) {k:Nat} (hk:k<c.n) {Q:(Bool×AC×List (Nat×AA)×List (Nat×AF))→Prop}
    (hQ:∀ D o1' O,Rep c (m.send c k).2 D o1' O→Ext o0 D→Q ((m.send c k).1,D,o1',O)):DE o0 o1 o2 k Q:=by
  unfold DE
  refine Ab8 h ?_
  rw [if_pos (by omega)]
  obtain ⟨x,hx,J⟩:=h.wk k hk
  simp only [Int.toNat_natCast]
  cases ho:(m.w k).out with
  | nil=>
    refine AX (by simp) ?_
    have:=hQ o0 o1 o2
    simp only [MS.send,ho] at this
    exact this h (Ext.refl _)
  | cons f r=>
    refine AO (by simp; omega) (AP (by omega) (h.get hk) ?_)
    have hf:Fok c f:=g.out k hk f (by rw [ho]; exact List.mem_cons_self)
    obtain ⟨t,s,ht,hs,Z,hro,hsm,hcn⟩:=hf
    have U:x.out=f :: r:=by rw [J.out,ho]
    have V:=g.cnt k t hk ht
    rw [ho] at V
    simp only [List.length_cons] at V
    unfold FM
    refine NC hx (AP (by omega) (x:=f) (by rw [U]; rfl) (AP (by omega) (x:=f) (by rw [U]; rfl) ?_))
    rw [Z]
    refine rZ hc h hk ht fun b pb D O h' W hkey hb hi=>?_
    unfold PH
    rw [SU,ZT hb]
    have G:=hQ
    simp only [MS.send,ho,Z,Int.toNat_natCast] at G
    refine AgK hi hsm (by omega) fun b' hi'=>?_
    have h2:=h'.setB hc hkey hi'
    by_cases e:((m.bx k t).send f).1=0
    · rw [if_pos e] at G
      refine FF (fun h1=>absurd e h1) fun _=>?_
      refine NC hx ⟨by omega,by rw [U]; simp; omega,by omega,?_⟩
      have Y:((x.out.take (x.out.length:Int).toNat).drop (Int.toNat 1))=r:=by rw [U]; simp
      refine G _ _ _ (h2.setW hc hk (a:={ m.w k with out:=r }) ⟨J.i,J.j,J.mask,Y,J.at_,J.le,J.has,J.l,J.r⟩) W
    · rw [if_neg e] at G
      refine FF (fun _=>?_) fun h1=>absurd h1 e
      have h3:Rep c m D o1 ((b,b') :: CM b O):=by
        have e2:((m.bx k t).send f).2=m.bx k t:=by
          unfold Abs.send at e ⊢
          split
          · rfl
          · rename_i hh; rw [if_neg hh] at e; exact absurd rfl e
        rw [e2] at h2
        have:CZ m k t (m.bx k t)=m:=by
          unfold CZ
          congr 1
          funext i j
          split
          · rename_i hh; rw [hh.1,hh.2]
          · rfl
        rwa [this] at h2
      exact G _ _ _ h3 W
def XD (D h:Nat→Bool) (S:Nat):Nat→Nat→Nat
  | 0,a=>a
  | k+1,a=>if a<S∧D a=true∧h a=true then XD D h S k (a+1) else a
def XE (a:Wk) (f:BL):Wk:=if f.Kind=6 then { a with gl:=fun s=>if s=f.Round.toNat then true else a.gl s } else { a with gr:=fun s=>if s=f.Round.toNat then true else a.gr s }
def XU (S:Nat) (a:Wk):Wk:={ a with at_:=XD a.gl a.gr S S a.at_ }
def Rk (c:XC):Prop:=∀ (k s:Nat) (hs:s<c.S.length),k<c.n→∀ Q:List AM→Prop,Q (c.has k (s+1)) →
  TM c.p.Ring (c.mask k).Rows (AJ (c.S[s].To - c.S[s].From)) (c.LA k s) fun D=>TM c.p.Ring (AJ (c.S[s].To - c.S[s].From)) (c.mask k).Cols (c.RB k s) fun h=>
    TN c.p.Ring D.1 h.1 (c.mask k) fun G=>PC c.p.Ring ([c.has k s,G.1]:List (List AM)) fun J=>Q J.1
theorem yZ (Y:iS c) (Z:Rk c) (h:Rep c m o0 o1 o2) {k:Nat} (hk:k<c.n) {Q:(Bool×List (Nat×AA))→Prop}
    (U:¬((m.w k).at_<c.S.length∧(m.w k).gl (m.w k).at_=true∧(m.w k).gr (m.w k).at_=true)→Q (false,o1))
    (h1:(m.w k).at_<c.S.length→(m.w k).gl (m.w k).at_=true→(m.w k).gr (m.w k).at_=true→∀ O,Rep c (ED m k { m.w k with at_:=(m.w k).at_+1 }) o0 O o2→Q (true,O)) :
    DB o0 o1 (some (c.adr k)) Q:=by
  obtain ⟨x,hx,G⟩:=h.wk k hk
  have hS:=Y.S
  have hle:=G.le
  unfold DB
  simp only [fR hx,vX,AcC]
  rw [h.S,G.at_]
  refine AB (fun e=>U fun J=>by omega) fun e=>?_
  have hl:=G.l _ (Nat.le_refl _)
  have V:=G.r _ (Nat.le_refl _)
  unfold nC
  rw [hl,V]
  cases hgl:(m.w k).gl (m.w k).at_ with
  | false=>exact AX rfl (U fun J=>by rw [hgl] at J; simp at J)
  | true=>
    refine AO rfl ?_
    cases hgr:(m.w k).gr (m.w k).at_ with
    | false=>exact AX rfl (U fun J=>by rw [hgr] at J; simp at J)
    | true=>
      have D:(m.w k).at_<c.S.length:=by omega
      refine AO rfl (AW D (AW D ?_))
      simp only [if_true,Option.getD_some]
      rw [h.p,G.mask,G.has]
      refine Z k _ D hk (fun z=>Q (true,(c.adr k,({ i:=x.i,j:=x.j,mask:=c.mask k,out:=x.out,parts:=CM ({ kind:=7,stage:=((m.w k).at_:Int) }:BC) (CM ({ kind:=6,stage:=((m.w k).at_:Int) }:BC) x.parts),at_:=AJ (((m.w k).at_:Int)+1),has:=z }:AA)) :: CM (c.adr k) o1)) ?_
      refine h1 D hgl hgr _ ?_
      refine h.setW Y hk ⟨G.i,G.j,rfl,G.out,?_,D,rfl,?_,?_⟩
      · simp only; rw [BE (by omega) (by omega)]; simp
      · intro s W
        simp only at W ⊢
        rw [FE (by simp),FE (by simp; omega)]
        exact G.l s (by omega)
      · intro s W
        simp only at W ⊢
        rw [FE (by simp; omega),FE (by simp)]
        exact G.r s (by omega)
theorem AcD (m:MS) (k:Nat) (a b:Wk):ED (ED m k a) k b=ED m k b:=by
  unfold ED; congr 1; funext i; by_cases e:i=k <;> simp [e]
theorem vZ (m:MS) (k:Nat) (a:Wk):(ED m k a).w k=a:=by simp [ED]
theorem AeP (hc:iS c) (hr:Rk c) {k:Nat} (hk:k<c.n) {a:Wk} {s0:List (Nat×AA)} (h:Rep c (ED m k a) o0 s0 o2) (ha:a.at_≤c.S.length)
    {Qf:List (Nat×AA)→Prop} (hQ:∀ s,Rep c (ED m k (XU c.S.length a)) o0 s o2→Qf s) :
    BB (fun (s:List (Nat×AA)) (next:List (Nat×AA)→Prop)=>DB o0 s (some (c.adr k)) fun r=>AR r.1 (next r.2) (Qf r.2)) s0:=by
  have J:∀ (U V:Nat→Bool) (j t:Nat),c.S.length≤t→XD U V c.S.length j t=t:=by
    intro U V j t Z
    cases j with
    | zero=>rfl
    | succ j=>unfold XD; rw [if_neg (by omega)]
  have Y:∀ (U V:Nat→Bool) (j t:Nat),c.S.length≤t+j→∀ i,XD U V c.S.length (j+i) t=XD U V c.S.length j t:=by
    intro U V j
    induction j with
    | zero=>intro t Z i; rw [J _ _ _ _ (by omega),J _ _ _ _ (by omega)]
    | succ j ih=>
      intro t Z i
      rw [show j+1+i=(j+i)+1 by omega]
      unfold XD
      split
      · exact ih (t+1) (by omega) i
      · rfl
  refine GQ (fun j s=>∃ t,Rep c (ED m k { a with at_:=t }) o0 s o2∧c.S.length≤t+j∧t≤c.S.length∧XD a.gl a.gr c.S.length j t=(XU c.S.length a).at_) (m0:=c.S.length) ⟨a.at_,h,by omega,ha,rfl⟩ ?_
  rintro j s next ⟨t,O,hj,Z,G⟩ hn
  refine yZ hc hr O hk (fun W=>?_) (fun g1 g2 g3 o1' D=>?_)
  · refine AO rfl (hQ _ ?_)
    rw [vZ] at W
    have:(XU c.S.length a) = { a with at_:=t }:=by
      have e:XD a.gl a.gr c.S.length j t=t:=by
        cases j with
        | zero=>rfl
        | succ j=>unfold XD; rw [if_neg W]
      rw [e] at G
      unfold XU at G ⊢
      simp only at G
      rw [←G]
    rw [this]; exact O
  · rw [vZ] at g1 g2 g3 D
    rw [AcD] at D
    simp only at g1 g2 g3 D
    refine AX rfl (hn (j - 1) _ (by omega) ⟨t+1,D,by omega,by omega,?_⟩)
    rw [←G]
    obtain ⟨i,rfl⟩:∃ i,j=i+1:=⟨j - 1,by omega⟩
    show XD a.gl a.gr c.S.length i (t+1)=_
    conv=>rhs; unfold XD
    rw [if_pos ⟨g1,g2,g3⟩]
variable {c:XC} {m:MS} {o0:AC} {o1 o1x:List (Nat×AA)} {o2:List (Nat×AF)} {pb:AF} {s:Abs}
theorem bO {s:Abs} (f:BL) (h:s.fullB=false):s.send f=(0,{ s with row:=s.row++[s.fs.length],fs:=s.fs++[{ f with Seq:=s.fs.length }] }):=by simp [Abs.send,h]
theorem AeQ (h:aW pb s) {k:Int} (D:(s.take k).2.1=true):∃ i:Nat,∃ hi:i<s.fs.length,(s.take k).1=s.fs[i]∧i=s.taken:=by
  unfold Abs.take at D ⊢
  split at D
  · cases D
  · rename_i U
    have J:s.at k=0:=by simpa using U
    obtain ⟨i,rfl,hi⟩:=SD J
    rw [SE hi] at D ⊢
    rw [if_neg (by rw [J]; simp)]
    have G:=h.lt _ (List.getElem_mem hi)
    split at D
    · cases D
    · split at D
      · cases D
      · rename_i O V
        rw [if_neg O,if_neg V]
        exact ⟨s.row[i],G,by simp [G],by omega⟩
theorem Ab9 (s:Abs) (k:Int):(s.take k).2.2.2.fs=s.fs∧(s.take k).2.2.2.room=s.room:=by
  unfold Abs.take; split <;> (try split) <;> (try split) <;> exact ⟨rfl,rfl⟩
theorem AeR (s:Abs) (k:Int):(s.take k).2.2.2.row.length≤s.row.length:=by
  unfold Abs.take
  split <;> (try split) <;> (try split) <;> simp [List.length_eraseIdx] <;> split <;> omega
def MS.hand (c:XC) (m:MS) (f t:Nat) (k:Int):Bool×MS:=
  if ((m.bx f t).take k).2.1=true then (true,ED (CZ m f t ((m.bx f t).take k).2.2.2) t (XU c.S.length (XE (m.w t) ((m.bx f t).take k).1))) else (false,CZ m f t ((m.bx f t).take k).2.2.2)
theorem AgP {k:Nat} {a:Wk} {x:AA} (h:AgO c k a x) {f:BL} (Y:Fok c f) (V:f.To=(k:Int)) :
    AgO c k (XE a f) { i:=x.i,j:=x.j,mask:=x.mask,out:=x.out,parts:=(EO ({ kind:=f.Kind,stage:=f.Round }:BC) f.Triples x.parts),at_:=x.at_,has:=x.has }:=by
  obtain ⟨t,r,ht,hr,O,J,W,U⟩:=Y
  have e:t=k:=by omega
  subst e
  rcases U with ⟨hk,D⟩ | ⟨hk,D⟩
  · unfold XE
    rw [if_pos hk]
    refine ⟨h.i,h.j,h.mask,h.out,h.at_,h.le,h.has,fun s G=>?_,fun s G=>?_⟩
    · simp only [hk,J,D,Int.toNat_natCast]
      by_cases es:s=r
      · subst es; rw [BO]; simp
      · rw [BK (by simp; omega),h.l s G]; simp [es]
    · simp only [hk]
      rw [BK (by simp)]
      exact h.r s G
  · unfold XE
    rw [if_neg (by omega)]
    refine ⟨h.i,h.j,h.mask,h.out,h.at_,h.le,h.has,fun s G=>?_,fun s G=>?_⟩
    · simp only [hk]
      rw [BK (by simp)]
      exact h.l s G
    · simp only [hk,J,D,Int.toNat_natCast]
      by_cases es:s=r
      · subst es; rw [BO]; simp
      · rw [BK (by simp; omega),h.r s G]; simp [es]
theorem wA (Y:iS c) (hr:Rk c) (h:Rep c m o0 o1 o2) (g:Good c m) {f t:Nat} (hf:f<c.n) (U:t<c.n) {k:Int} {Q:(Bool×AC×List (Nat×AA)×List (Nat×AF))→Prop}
    (J:∀ D W O,Rep c (m.hand c f t k).2 D W O→Ext o0 D→Q ((m.hand c f t k).1,D,W,O)):DF o0 o1 o2 f t k Q:=by
  unfold DF
  refine rZ Y h hf U fun b pb D O h' G V hb hi=>?_
  unfold PI
  rw [SU,ZT hb]
  refine AgL hi fun b' hi'=>?_
  have Z:=h'.setB Y V hi'
  unfold MS.hand at J
  cases e:((m.bx f t).take k).2.1 with
  | false=>
    rw [e] at J
    simp only [Bool.false_eq_true,if_false] at J
    exact AX rfl (J _ _ _ Z G)
  | true=>
    rw [e] at J
    simp only [if_true] at J
    refine AO rfl (AP (by omega) (Z.get U) ?_)
    obtain ⟨x,hx,hw⟩:=Z.wk t U
    refine NC hx ?_
    obtain ⟨i,hi1,hi2,hi3⟩:=AeQ hi e
    have hg:=g.box f t hf U _ (List.getElem_mem hi1)
    rw [←hi2] at hg
    have hw2:=AgP hw hg.1 hg.2
    have h3:=Z.setW Y U hw2
    have hle:(XE ((CZ m f t ((m.bx f t).take k).2.2.2).w t) ((m.bx f t).take k).1).at_≤c.S.length:=by
      unfold XE; split <;> exact hw.le
    exact AeP Y hr U h3 hle fun s hs=>J _ _ _ hs G
theorem AeS (h:Rep c m o0 o1 o2) {f t:Int} (D:¬((0≤f∧f<c.n)∧(0≤t∧t<c.n))) {k:Int} {Q:(Bool×AC×List (Nat×AA)×List (Nat×AF))→Prop}
    (G:Q (false,o0,o1,o2)):DF o0 o1 o2 f t k Q:=by
  unfold DF
  refine rY h D ?_
  unfold JZ GA
  exact AX rfl (AX rfl G)
theorem Good.sent (hc:iS c) (g:Good c m) {k:Nat} (hk:k<c.n):Good c (m.send c k).2:=by
  unfold MS.send
  split
  · exact g
  · rename_i f r Y
    split
    · rename_i hs
      obtain ⟨t,s,ht,hs',J,hro,U,Z⟩:=g.out k hk f (by rw [Y]; exact List.mem_cons_self)
      have G:(m.bx k f.To.toNat).fullB=false:=by
        unfold Abs.send at hs
        cases hff:(m.bx k f.To.toNat).fullB with
        | false=>rfl
        | true=>rw [if_pos hff] at hs; simp at hs
      rw [J] at G ⊢
      simp only [Int.toNat_natCast] at G ⊢
      rw [bO f G]
      have O:=g.room k t hk ht
      have hnf':(m.bx k t).row.length<(m.bx k t).room:=by unfold Abs.fullB at G; simpa using G
      refine ⟨fun i hi g' h=>?_,fun a b W V g' h=>?_,fun a b W V=>?_,fun a b W V=>?_⟩
      · by_cases e:i=k
        · subst e
          simp only [ED,if_true] at h
          exact g.out i hi g' (by rw [Y]; exact List.mem_cons_of_mem _ h)
        · simp only [ED,if_neg e,CZ] at h
          exact g.out i hi g' h
      · by_cases e:a=k∧b=t
        · obtain ⟨rfl,rfl⟩:=e
          simp only [ED,CZ,and_self,if_true] at h
          rcases List.mem_append.1 h with h | h
          · exact g.box a b W V g' h
          · rw [List.mem_singleton] at h
            subst h
            exact ⟨⟨b,s,ht,hs',J,hro,⟨U.1,U.2.1,U.2.2⟩,Z⟩,J⟩
        · simp only [ED,CZ,if_neg e] at h
          exact g.box a b W V g' h
      · have D:=g.cnt a b W V
        by_cases e:a=k
        · subst e
          rw [Y] at D
          by_cases e':b=t
          · subst e'; simp [ED,CZ] at D ⊢; omega
          · simp [ED,CZ,e'] at D ⊢; omega
        · simpa [ED,CZ,e] using D
      · by_cases e:a=k∧b=t
        · obtain ⟨rfl,rfl⟩:=e
          simp only [ED,CZ,and_self,if_true,List.length_append,List.length_singleton]
          exact ⟨O.1,by omega⟩
        · simp only [ED,CZ,if_neg e]
          exact g.room a b W V
    · exact g
variable {c:XC} {m:MS} {o0:AC} {o1 o1x:List (Nat×AA)} {o2:List (Nat×AF)} {pb:AF} {s:Abs}
theorem Good.setB (g:Good c m) {f t:Nat} {a:Abs} (G:a.fs=(m.bx f t).fs) (J:f<c.n→t<c.n→a.room=c.room∧a.row.length≤c.room):Good c (CZ m f t a):=by
  refine ⟨g.out,fun i j hi D g' h=>?_,fun i j hi D=>?_,fun i j hi D=>?_⟩
  · by_cases e:i=f∧j=t
    · obtain ⟨rfl,rfl⟩:=e
      simp only [CZ,and_self,if_true,G] at h
      exact g.box i j hi D g' h
    · simp only [CZ,if_neg e] at h; exact g.box i j hi D g' h
  · by_cases e:i=f∧j=t
    · obtain ⟨rfl,rfl⟩:=e
      simp only [CZ,and_self,if_true,G]
      exact g.cnt i j hi D
    · simp only [CZ,if_neg e]; exact g.cnt i j hi D
  · by_cases e:i=f∧j=t
    · obtain ⟨rfl,rfl⟩:=e
      simp only [CZ,and_self,if_true]; exact J hi D
    · simp only [CZ,if_neg e]; exact g.room i j hi D
theorem Good.setW (g:Good c m) {k:Nat} {a:Wk} (h:a.out=(m.w k).out):Good c (ED m k a):=by
  have e:∀ i,((ED m k a).w i).out=(m.w i).out:=fun i=>by
    by_cases e:i=k
    · subst e; simp [ED,h]
    · simp [ED,e]
  exact ⟨fun i hi f G=>g.out i hi f (by rwa [e] at G),g.box,fun i j hi D=>by rw [e]; exact g.cnt i j hi D,g.room⟩
theorem dX (a:Wk) (f:BL):(XE a f).out=a.out:=by unfold XE; split <;> rfl
theorem Good.handed (g:Good c m) (f t:Nat) (k:Int):Good c (m.hand c f t k).2:=by
  have h:=Ab9 (m.bx f t) k
  have h2:=AeR (m.bx f t) k
  have D:Good c (CZ m f t ((m.bx f t).take k).2.2.2):=g.setB h.1 fun J G=>by
    have:=g.room f t J G
    rw [h.2]; exact ⟨this.1,by omega⟩
  unfold MS.hand
  split
  · exact D.setW (by simp [XU,dX,CZ])
  · exact D
def MS.double (m:MS) (f t:Nat) (k:Int):Bool×MS:=(((m.bx f t).double k).1==0,CZ m f t ((m.bx f t).double k).2)
def MS.move (m:MS) (f t:Nat) (k:Int):Bool×MS:=(((m.bx f t).move k).1==0,CZ m f t ((m.bx f t).move k).2)
theorem Good.doubled (g:Good c m) {f t:Nat} (J:f<c.n) (G:t<c.n) (k:Int):Good c (m.double f t k).2:=by
  have h:=g.room f t J G
  unfold MS.double Abs.double
  simp only
  split
  · exact g.setB rfl fun _ _=>h
  · split
    · exact g.setB rfl fun _ _=>h
    · rename_i h1 D
      refine g.setB rfl fun _ _=>⟨h.1,?_⟩
      have:(m.bx f t).row.length<(m.bx f t).room:=by unfold Abs.fullB at D; simpa using D
      simp only [List.length_append,List.length_singleton]; omega
theorem Good.moved (g:Good c m) {f t:Nat} (O:f<c.n) (J:t<c.n) (k:Int):Good c (m.move f t k).2:=by
  have D:=g.room f t O J
  unfold MS.move Abs.move
  simp only
  split
  · exact g.setB rfl fun _ _=>D
  · rename_i G
    have h:(m.bx f t).at k=0:=by simpa using G
    obtain ⟨i,rfl,hi⟩:=SD h
    refine g.setB rfl fun _ _=>⟨D.1,?_⟩
    simp only [List.length_append,List.length_singleton,List.length_eraseIdx,Int.toNat_natCast,hi,if_true]; omega
def MS.sends (c:XC) (m:MS):Nat→Bool×MS
  | 0=>(false,m)
  | k+1=>(((m.sends c k).2.send c k).1 || (m.sends c k).1,((m.sends c k).2.send c k).2)
def MS.old (c:XC) (m:MS) (f t:Nat):MS:=(m.hand c f t (m.bx f t).oldest).2
def hands1 (c:XC) (f:Nat) (s:Bool×MS):Nat→Bool×MS
  | 0=>s
  | t+1=>((hands1 c f s t).1 || decide ((((hands1 c f s t).2.old c f t).bx f t).row.length<((hands1 c f s t).2.bx f t).row.length),(hands1 c f s t).2.old c f t)
def hands (c:XC) (s:Bool×MS):Nat→Bool×MS
  | 0=>s
  | f+1=>hands1 c f (hands c s f) c.n
def MS.window (c:XC) (m:MS):Bool×MS:=hands c (m.sends c c.n) c.n
theorem Good.sends (h:iS c) (g:Good c m):∀ k,k≤c.n→Good c (m.sends c k).2
  | 0,_=>g
  | k+1,hk=>(Good.sends h g k (by omega)).sent h (by omega)
theorem Good.hands1 {x:Bool×MS} (g:Good c x.2) (f:Nat):∀ k,Good c (hands1 c f x k).2
  | 0=>g
  | k+1=>(Good.hands1 g f k).handed f k _
theorem Good.hands {x:Bool×MS} (g:Good c x.2):∀ k,Good c (hands c x k).2
  | 0=>g
  | k+1=>Good.hands1 (Good.hands g k) k _
theorem Good.window (h:iS c) (g:Good c m):Good c (m.window c).2:=Good.hands (g.sends h c.n (by omega)) c.n
abbrev Tup:=Int×Int×Int×(List Int)×(List Int)×(List Int)×Int×Int×(List Int)×(List Int)×(List Int)×Int×Int×(List Int)×(List Int)×(List Int)×Int×Int×Int×(List BJ)×(List (Option Nat))×(List ((Int×Int)×(Option Nat)))×Bool×Int×(List (Nat×AA))×(List (Nat×AF))
abbrev zA (o0:AC) (b:Bool) (k:Int) (o1:List (Nat×AA)) (o2:List (Nat×AF)):Tup:=
  (o0.p.Ring,o0.p.A.Rows,o0.p.A.Cols,o0.p.A.Start,o0.p.A.Col,o0.p.A.Val,o0.p.B.Rows,o0.p.B.Cols,o0.p.B.Start,o0.p.B.Col,o0.p.B.Val,o0.p.Mask.Rows,o0.p.Mask.Cols,o0.p.Mask.Start,o0.p.Mask.Col,o0.p.Mask.Val,o0.p.R,o0.p.C,o0.p.Room,o0.stages,o0.workers,o0.boxes,b,k,o1,o2)
theorem wC (h:Rep c m o0 o1 o2) {f t:Nat} {Q:Int→Prop} (D:Q ((m.bx f t).row.length:Int)):GZ o2 ((BN ((f:Int),(t:Int)) o0.boxes).getD none) Q:=by
  unfold GZ
  cases hg:BN ((f:Int),(t:Int)) o0.boxes with
  | none=>rw [Option.getD_none,fS]; rw [h.no f t hg] at D; exact D
  | some v=>
    cases v with
    | none=>exact absurd hg (h.nn _)
    | some b=>
      obtain ⟨pb,G,J⟩:=h.bx f t b hg
      rw [Option.getD_some,SU,ZT G]
      exact AeO J D
theorem AeT (h:Rep c m o0 o1 o2) {f t:Nat} {Q:Int→Prop} (D:Q (m.bx f t).oldest):JB o2 ((BN ((f:Int),(t:Int)) o0.boxes).getD none) Q:=by
  unfold JB
  cases hg:BN ((f:Int),(t:Int)) o0.boxes with
  | none=>rw [Option.getD_none,fS]; rw [h.no f t hg] at D; exact AX rfl D
  | some v=>
    cases v with
    | none=>exact absurd hg (h.nn _)
    | some b=>
      obtain ⟨pb,G,J⟩:=h.bx f t b hg
      rw [Option.getD_some,SU,ZT G]
      exact AcB J D
theorem pN (hc:iS c) (hr:Rk c) (h:Rep c m o0 o1 o2) (g:Good c m) {Q:(Bool×AC×List (Nat×AA)×List (Nat×AF))→Prop}
    (hQ:∀ W o1' o2',Rep c (m.window c).2 W o1' o2'→Ext o0 W→Q ((m.window c).1,W,o1',o2')):EG o0 o1 o2 Q:=by
  have hn:=hc.n
  unfold EG
  refine GQ (fun j (x:Tup)=>∃ (k:Nat) (a0:AC) (a1:List (Nat×AA)) (a2:List (Nat×AF)),x=zA a0 (m.sends c k).1 (k:Int) a1 a2∧k+j=c.n∧Rep c (m.sends c k).2 a0 a1 a2∧Ext o0 a0) (m0:=c.n) ⟨0,o0,o1,o2,rfl,by omega,h,Ext.refl _⟩ ?_
  rintro j _ next ⟨k,a0,a1,a2,rfl,hkj,J,V⟩ hnext
  show AR (decide ((k:Int)<(o0.workers.length:Int))) _ _
  rw [h.len]
  refine AB (fun hk=>?_) (fun hk=>?_)
  · have hk':k<c.n:=by omega
    refine vY hc J (g.sends hc k (by omega)) hk' fun U b1 b2 hb hbx=>?_
    have D:next (zA U (m.sends c (k+1)).1 ((k+1:Nat):Int) b1 b2):=hnext (j - 1) _ (by omega) ⟨k+1,U,b1,b2,rfl,by omega,hb,V.trans hbx⟩
    have e:AJ ((k:Int)+1)=((k+1:Nat):Int):=by rw [BE (by omega) (by omega)]; simp
    rw [←e] at D
    unfold MS.sends at D
    cases hs:((m.sends c k).2.send c k).1 with
    | true=>rw [hs] at D; exact AX rfl D
    | false=>rw [hs] at D; exact AO rfl D
  · have hkn:k=c.n:=by omega
    subst hkn
    refine GQ (fun j (x:Tup)=>∃ (f:Nat) (U:AC) (b1:List (Nat×AA)) (b2:List (Nat×AF)),x=zA U (hands c (m.sends c c.n) f).1 (f:Int) b1 b2∧f+j=c.n∧Rep c (hands c (m.sends c c.n) f).2 U b1 b2∧Ext o0 U) (m0:=c.n) ⟨0,a0,a1,a2,rfl,by omega,J,V⟩ ?_
    rintro j2 _ next2 ⟨f,U,b1,b2,rfl,hfj,Z,hxb⟩ hnext2
    show AR (decide ((f:Int)<(a0.workers.length:Int))) _ _
    rw [J.len]
    refine AB (fun hf=>?_) (fun hf=>?_)
    · have hf':f<c.n:=by omega
      refine GQ (fun j (x:Tup)=>∃ (t:Nat) (Y:AC) (d1:List (Nat×AA)) (d2:List (Nat×AF)),x=zA Y (hands1 c f (hands c (m.sends c c.n) f) t).1 (t:Int) d1 d2∧t+j=c.n∧Rep c (hands1 c f (hands c (m.sends c c.n) f) t).2 Y d1 d2∧Ext o0 Y) (m0:=c.n) ⟨0,U,b1,b2,rfl,by omega,Z,hxb⟩ ?_
      rintro j3 _ O ⟨t,Y,d1,d2,rfl,htj,G,hxd⟩ hnext3
      show AR (decide ((t:Int)<(U.workers.length:Int))) _ _
      rw [Z.len]
      refine AB (fun ht=>?_) (fun ht=>?_)
      · have ht':t<c.n:=by omega
        have gd:Good c (hands1 c f (hands c (m.sends c c.n) f) t).2:=Good.hands1 (Good.hands (g.sends hc c.n (by omega)) f) f t
        refine KU (wC G (AeT G ?_))
        refine wA hc hr G gd hf' ht' fun e0 e1 e2 hre hxe=>?_
        have e:AJ ((t:Int)+1)=((t+1:Nat):Int):=by rw [BE (by omega) (by omega)]; simp
        have D:O (zA e0 (hands1 c f (hands c (m.sends c c.n) f) (t+1)).1 ((t+1:Nat):Int) e1 e2):=hnext3 (j3 - 1) _ (by omega) ⟨t+1,e0,e1,e2,rfl,by omega,hre,hxd.trans hxe⟩
        rw [←e] at D
        unfold hands1 at D
        cases hs:(hands1 c f (hands c (m.sends c c.n) f) t).1 with
        | true=>rw [hs] at D; exact AX rfl D
        | false=>
          rw [hs] at D
          refine AO rfl ?_
          simp only [Bool.false_or] at D
          cases hg:BN ((f:Int),(t:Int)) Y.boxes with
          | none=>
            unfold GZ
            rw [Option.getD_none,fS]
            have hz:((hands1 c f (hands c (m.sends c c.n) f) t).2.bx f t).row.length=0:=by rw [G.no f t hg]; rfl
            rw [hz] at D ⊢
            have ez:decide ((((hands1 c f (hands c (m.sends c c.n) f) t).2.old c f t).bx f t).row.length<0)=false:=by simp
            rw [ez] at D
            exact D
          | some v=>
            cases v with
            | none=>exact absurd hg (G.nn _)
            | some b=>
              have hg':=hxe _ _ hg
              have:=wC (f:=f) (t:=t) (Q:=fun r=>O (zA e0 (decide (r<(((hands1 c f (hands c (m.sends c c.n) f) t).2.bx f t).row.length:Int))) (AJ ((t:Int)+1)) e1 e2)) hre (by
                have e3:decide ((((((hands1 c f (hands c (m.sends c c.n) f) t).2.hand c f t ((hands1 c f (hands c (m.sends c c.n) f) t).2.bx f t).oldest).2.bx f t).row.length:Nat):Int)<(((hands1 c f (hands c (m.sends c c.n) f) t).2.bx f t).row.length:Int))=decide ((((hands1 c f (hands c (m.sends c c.n) f) t).2.old c f t).bx f t).row.length<((hands1 c f (hands c (m.sends c c.n) f) t).2.bx f t).row.length):=by
                  apply decide_eq_decide.2
                  unfold MS.old
                  omega
                rw [e3]
                exact D)
              rw [hg'] at this
              exact this
      · have htn:t=c.n:=by omega
        subst htn
        have e:AJ ((f:Int)+1)=((f+1:Nat):Int):=by rw [BE (by omega) (by omega)]; simp
        have D:=hnext2 (j2 - 1) (zA Y (hands c (m.sends c c.n) (f+1)).1 ((f+1:Nat):Int) d1 d2) (by omega) ⟨f+1,Y,d1,d2,rfl,by omega,G,hxd⟩
        rw [←e] at D
        exact D
    · have hfn:f=c.n:=by omega
      subst hfn
      exact hQ _ _ _ Z hxb
def AeU (x:NP):Bool:=decide (0≤x.A∧x.A≤63∧0≤x.B∧x.B≤63∧0≤x.K∧x.K≤63∧0<x.Kind∧x.Kind≤5)
theorem dY {x:NP} {Q:Bool→Prop} (D:Q (AeU x)):TJ x Q:=by
  have U:∀ {a:Int} {Q:Bool→Prop},Q (decide (0≤a∧a≤63))→NA a 63 Q:=by
    intro a Q h
    unfold NA
    refine AB (fun O=>?_) (fun O=>?_)
    · simpa [O] using h
    · simpa [O] using h
  unfold TJ
  unfold AeU at D
  refine U (CP (fun h=>?_) fun h=>U (CP (fun G=>?_) fun G=>U (CP (fun J=>?_) fun J=>AB (fun V=>?_) (fun V=>?_))))
  · have:=of_decide_eq_false h; rwa [decide_eq_false (by omega)] at D
  · have:=of_decide_eq_false G; rwa [decide_eq_false (by omega)] at D
  · have:=of_decide_eq_false J; rwa [decide_eq_false (by omega)] at D
  · have h:=of_decide_eq_true h; have G:=of_decide_eq_true G; have J:=of_decide_eq_true J
    have e:decide (x.Kind≤5)=decide (0≤x.A∧x.A≤63∧0≤x.B∧x.B≤63∧0≤x.K∧x.K≤63∧0<x.Kind∧x.Kind≤5):=decide_eq_decide.2 (by omega)
    rw [e]; exact D
  · rwa [decide_eq_false (by omega)] at D
def inG (c:XC) (a:Int):Prop:=0≤a∧a<c.n
instance (c:XC) (a:Int):Decidable (inG c a):=by unfold inG; infer_instance
def MS.act (c:XC) (m:MS) (x:NP):Bool×MS:=
  if AeU x=false then (false,m)
  else if x.Kind=1 then (if inG c x.A then m.send c x.A.toNat else (false,m))
  else if x.Kind=5 then m.window c
  else if inG c x.A∧inG c x.B then
    (if x.Kind=2 then m.hand c x.A.toNat x.B.toNat x.K else if x.Kind=3 then m.double x.A.toNat x.B.toNat x.K else m.move x.A.toNat x.B.toNat x.K)
  else (false,m)
theorem AcE (h:Rep c m o0 o1 o2) {k:Int} (hk:¬inG c k) {Q:(Bool×AC×List (Nat×AA)×List (Nat×AF))→Prop} (D:Q (false,o0,o1,o2)):DE o0 o1 o2 k Q:=by
  unfold DE
  refine Ab8 h ?_
  rw [if_neg (show ¬(0≤k∧k<(c.n:Int)) from hk)]
  exact AX rfl D
theorem AiL (Z:iS c) (hr:Rk c) (h:Rep c m o0 o1 o2) (g:Good c m) {x:NP} {Q:(Bool×AC×List (Nat×AA)×List (Nat×AF))→Prop}
    (D:∀ G o1' U,Rep c (m.act c x).2 G o1' U→Ext o0 G→Q ((m.act c x).1,G,o1',U)):HI o0 o1 o2 x Q:=by
  unfold HI
  unfold MS.act at D
  refine dY (CP (fun h1=>?_) fun h1=>?_)
  · rw [if_pos h1] at D; exact D _ _ _ h (Ext.refl _)
  · rw [if_neg (by rw [h1]; simp)] at D
    have hb:=of_decide_eq_true h1
    refine CC (fun h2=>?_) fun h2=>?_
    · rw [if_pos h2] at D
      by_cases hi:inG c x.A
      · rw [if_pos hi] at D
        have e:x.A=((x.A.toNat:Nat):Int):=by have:=hi.1; omega
        rw [e]
        exact vY Z h g (by have:=hi.2; have:=hi.1; omega) fun _ _ _ r e'=>D _ _ _ r e'
      · rw [if_neg hi] at D
        exact AcE h hi (D _ _ _ h (Ext.refl _))
    · rw [if_neg h2] at D
      by_cases h5:x.Kind=5
      · rw [if_pos h5] at D
        refine CC (fun e=>by omega) fun _=>CC (fun e=>by omega) fun _=>CC (fun e=>by omega) fun _=>?_
        exact pN Z hr h g fun _ _ _ r e'=>D _ _ _ r e'
      · rw [if_neg h5] at D
        by_cases hi:inG c x.A∧inG c x.B
        · rw [if_pos hi] at D
          have e1:x.A=((x.A.toNat:Nat):Int):=by have:=hi.1.1; omega
          have e2:x.B=((x.B.toNat:Nat):Int):=by have:=hi.2.1; omega
          have l1:x.A.toNat<c.n:=by have:=hi.1.2; have:=hi.1.1; omega
          have l2:x.B.toNat<c.n:=by have:=hi.2.2; have:=hi.2.1; omega
          rw [e1,e2]
          refine CC (fun e=>?_) fun e3=>CC (fun e=>?_) fun e4=>CC (fun e=>?_) fun e=>?_
          · rw [if_pos e] at D
            exact wA Z hr h g l1 l2 fun _ _ _ r e'=>D _ _ _ r e'
          · rw [if_neg e3,if_pos e] at D
            refine rZ Z h l1 l2 fun b pb G U h' J O Y W=>?_
            unfold MO
            rw [SU,ZT Y]
            exact Ac8 W fun b' V=>D _ _ _ (h'.setB Z O V) J
          · rw [if_neg e3,if_neg e4] at D
            refine rZ Z h l1 l2 fun b pb G U h' J O Y W=>?_
            unfold PJ
            rw [SU,ZT Y]
            exact AgM W fun b' V=>D _ _ _ (h'.setB Z O V) J
          · omega
        · rw [if_neg hi] at D
          have q:=D _ _ _ h (Ext.refl _)
          refine CC (fun e=>?_) fun e3=>CC (fun e=>?_) fun e4=>CC (fun e=>?_) fun e=>?_
          · exact AeS h hi q
          · refine rY h hi ?_
            unfold HR GA
            exact AX rfl q
          · refine rY h hi ?_
            unfold KB GA
            exact AX rfl q
          · omega
theorem Good.acted (h:iS c) (g:Good c m) (x:NP):Good c (m.act c x).2:=by
  unfold MS.act
  split
  · exact g
  · split
    · split
      · rename_i hi; exact g.sent h (by have:=hi.2; have:=hi.1; omega)
      · exact g
    · split
      · exact g.window h
      · split
        · rename_i hi
          have G:x.A.toNat<c.n:=by have:=hi.1.2; have:=hi.1.1; omega
          have D:x.B.toNat<c.n:=by have:=hi.2.2; have:=hi.2.1; omega
          split
          · exact g.handed _ _ _
          · split
            · exact g.doubled G D _
            · exact g.moved G D _
        · exact g
def MA (g:Nat→Nat):Nat→Nat
  | 0=>0
  | n+1=>MA g n+g n
theorem ER {g g':Nat→Nat}:∀ {n:Nat},(∀ i,i<n→g' i=g i)→MA g' n=MA g n
  | 0,_=>rfl
  | n+1,h=>by unfold MA; rw [ER fun i hi=>h i (by omega),h n (by omega)]
theorem ZU {g g':Nat→Nat} {k:Nat}:∀ {n:Nat},k<n→(∀ i,i≠k→g' i=g i)→MA g' n+g k=MA g n+g' k
  | 0,h,_=>by omega
  | n+1,h,he=>by
    unfold MA
    by_cases e:k=n
    · subst e
      rw [ER (g':=g') (g:=g) fun i hi=>he i (by omega)]; omega
    · have:=ZU (g:=g) (g':=g') (n:=n) (k:=k) (by omega) he
      rw [he n (by omega)]; omega
theorem JO (a:Nat):∀ n:Nat,MA (fun _=>a) n=n*a
  | 0=>by simp [MA]
  | n+1=>by unfold MA; rw [JO a n,Nat.succ_mul]
theorem dZ {g:Nat→Nat}:∀ {n:Nat},MA g n=0→∀ i,i<n→g i=0
  | n+1,h,i,hi=>by
    unfold MA at h
    by_cases e:i=n
    · subst e; omega
    · exact dZ (n:=n) (by omega) i (by omega)
variable {c:XC} {m:MS} {s:Abs}
def eC (c:XC) (m:MS):Nat:=MA (fun k=>(m.w k).out.length) c.n
def AbA (c:XC) (m:MS):Nat:=MA (fun f=>MA (fun t=>(m.bx f t).row.length) c.n) c.n
def eD (c:XC) (m:MS):Nat:=MA (fun f=>MA (fun t=>(m.bx f t).fs.length) c.n) c.n
theorem bP {f t:Nat} {a:Abs} (G:f<c.n) (D:t<c.n):eD c (CZ m f t a)+(m.bx f t).fs.length=eD c m+a.fs.length:=by
  have h:=ZU (g:=fun j=>(m.bx f j).fs.length) (g':=fun j=>((CZ m f t a).bx f j).fs.length) D (fun i hi=>by simp [CZ,hi])
  have h2:=ZU (g:=fun i=>MA (fun j=>(m.bx i j).fs.length) c.n) (g':=fun i=>MA (fun j=>((CZ m f t a).bx i j).fs.length) c.n) G (fun i hi=>by simp [CZ,hi])
  have e:((CZ m f t a).bx f t)=a:=by simp [CZ]
  rw [e] at h
  unfold eD
  omega
theorem pO {k:Nat} {a:Wk} (hk:k<c.n):eC c (ED m k a)+(m.w k).out.length=eC c m+a.out.length:=by
  have h:=ZU (g:=fun j=>(m.w j).out.length) (g':=fun j=>((ED m k a).w j).out.length) hk (fun i hi=>by simp [ED,hi])
  have e:((ED m k a).w k)=a:=by simp [ED]
  rw [e] at h
  unfold eC
  omega
theorem fT {f t:Nat} {a:Abs}:eC c (CZ m f t a)=eC c m:=rfl
theorem lQ {k:Nat} {a:Wk}:eD c (ED m k a)=eD c m:=rfl
structure BInv (s:Abs):Prop where
  lt:∀ n∈s.row,n<s.fs.length
  pend:∀ n,s.taken≤n→n<s.fs.length→n∈s.row
  tk:s.taken≤s.fs.length
theorem BInv.empty (c:XC):BInv (empty c):=⟨fun n D=>by simp [Go.Proofs.YtbohadngdkjljaaGreat.empty] at D,fun n _ h=>by simp [Go.Proofs.YtbohadngdkjljaaGreat.empty] at h,Nat.le_refl _⟩
theorem fU {l:List Nat} {i n:Nat} (hi:i<l.length) (h:n∈l) (D:n≠l[i]):n∈l.eraseIdx i:=by
  rw [←List.count_pos_iff,QV hi,if_neg D,List.count_pos_iff]; exact h
theorem BInv.send (h:BInv s) (f:BL):BInv (s.send f).2:=by
  unfold Abs.send
  split
  · exact h
  · refine ⟨fun n D=>?_,fun n G J=>?_,?_⟩
    · rcases List.mem_append.1 D with D | D
      · have:=h.lt n D; simp; omega
      · rw [List.mem_singleton] at D; simp; omega
    · simp only [List.length_append,List.length_singleton] at J
      by_cases e:n=s.fs.length
      · exact List.mem_append.2 (.inr (by simp [e]))
      · exact List.mem_append.2 (.inl (h.pend n G (by omega)))
    · have:=h.tk; simp; omega
theorem BInv.double (h:BInv s) (k:Int):BInv (s.double k).2:=by
  unfold Abs.double
  split
  · exact h
  · split
    · exact h
    · rename_i J _
      obtain ⟨i,rfl,hi⟩:=SD (by simpa using J)
      refine ⟨fun n D=>?_,fun n G O=>List.mem_append.2 (.inl (h.pend n G O)),h.tk⟩
      rcases List.mem_append.1 D with D | D
      · exact h.lt n D
      · rw [List.mem_singleton,SE hi] at D; subst D; exact h.lt _ (List.getElem_mem hi)
theorem BInv.move (h:BInv s) (k:Int):BInv (s.move k).2:=by
  unfold Abs.move
  split
  · exact h
  · rename_i J
    obtain ⟨i,rfl,hi⟩:=SD (by simpa using J)
    simp only [Int.toNat_natCast,SE hi]
    refine ⟨fun n D=>?_,fun n G O=>?_,h.tk⟩
    · rcases List.mem_append.1 D with D | D
      · exact h.lt n ((List.eraseIdx_sublist s.row i).mem D)
      · rw [List.mem_singleton] at D; subst D; exact h.lt _ (List.getElem_mem hi)
    · by_cases e:n=s.row[i]
      · exact List.mem_append.2 (.inr (by simp [e]))
      · exact List.mem_append.2 (.inl (fU hi (h.pend n G O) e))
theorem BInv.take (h:BInv s) (k:Int):BInv (s.take k).2.2.2:=by
  unfold Abs.take
  split
  · exact h
  · rename_i V
    obtain ⟨i,rfl,hi⟩:=SD (by simpa using V)
    rw [SE hi]
    simp only [Int.toNat_natCast]
    have Y:=h.lt _ (List.getElem_mem hi)
    split
    · exact h
    · split
      · rename_i U W
        refine ⟨fun n O=>h.lt n ((List.eraseIdx_sublist s.row i).mem O),fun n D J=>fU hi (h.pend n D J) ?_,h.tk⟩
        have G:s.taken≤n:=D
        omega
      · rename_i U W
        refine ⟨fun n O=>h.lt n ((List.eraseIdx_sublist s.row i).mem O),fun n D J=>?_,?_⟩
        · have G:s.taken+1≤n:=D
          exact fU hi (h.pend n (by omega) J) (by omega)
        · show s.taken+1≤s.fs.length
          omega
theorem BInv.old (h:BInv s) (O:s.row≠[]):(s.take s.oldest).2.2.2.row.length+1=s.row.length:=by
  obtain ⟨hi,D⟩:=vW O
  have V:s.row.length≠0:=fun e=>O (List.length_eq_zero_iff.1 e)
  have U:s.oldest=((SB s.row:Nat):Int):=by unfold Abs.oldest; rw [if_neg V]
  rw [U]
  have G:s.at ((SB s.row:Nat):Int)=0:=by unfold Abs.at; rw [if_neg (by omega),if_neg (by omega)]
  have W:s.row[SB s.row]≤s.taken:=by
    rcases Nat.lt_or_ge s.taken s.fs.length with J | J
    · exact D _ (h.pend _ (Nat.le_refl _) J)
    · have:=h.lt _ (List.getElem_mem hi); omega
  unfold Abs.take
  rw [if_neg (by rw [G]; simp),SE hi,if_neg (by omega)]
  simp only [Int.toNat_natCast]
  split <;> simp only [List.length_eraseIdx,hi,if_true] <;> omega
theorem AcF (h:s.row=[]) (k:Int):((s.take k).2.2.2=s)∧(s.take k).2.1=false:=by
  have:s.at k≠0:=by
    unfold Abs.at
    rw [h]
    split
    · simp
    · rw [if_pos (by simp; omega)]; simp
  unfold Abs.take
  rw [if_pos this]
  exact ⟨rfl,rfl⟩
end Go.Proofs.YtbohadngdkjljaaGreat
