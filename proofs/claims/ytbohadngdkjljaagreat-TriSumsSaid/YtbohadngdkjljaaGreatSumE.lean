import Derived.Test.YtbohadngdkjljaaGreatSumA
namespace Go.Proofs.YtbohadngdkjljaaGreat
open Go Go.Fw
set_option linter.unusedVariables false
set_option linter.unusedSimpArgs false
section bank
variable {α:Type} {xs:List (Nat×α)} {b:Nat} {x:α}
theorem dZ (h:BM b xs=some x) (K:Nat→α→Prop):FY xs (some b) K=K b x:=
  propext ⟨fun ⟨b',x',e,h',k⟩=>by cases e; rw [h] at h'; cases h'; exact k,fun k=>⟨b,x,rfl,h,k⟩⟩
theorem MN {K:Nat→α→Prop} (h:BM b xs=some x) (k:K b x):FY xs (some b) K:=⟨b,x,rfl,h,k⟩
theorem sZ (K:Nat→α→Prop):FY ((b,x) :: xs) (some b) K=K b x:=dZ WK K
theorem AaM:CG b ((b,x) :: xs)=xs:=by simp [CG]
theorem RR (b:Nat) {A:Prop} {B:Nat→Prop}:qZ (some b) A B=B b:=propext ⟨fun h=>h.2 b rfl,fun h=>⟨fun e=>(by cases e),fun b' e=>by cases e; exact h⟩⟩
theorem eC {A:Prop} {B:Nat→Prop}:qZ none A B=A:=propext ⟨fun h=>h.1 rfl,fun h=>⟨fun _=>h,fun b' e=>by cases e⟩⟩
theorem YN (h:BM b xs=some x) (K:α→Prop):vH xs b K=K x:=propext ⟨fun ⟨x',h',k⟩=>by rw [h] at h'; cases h'; exact k,fun k=>⟨x,h,k⟩⟩
end bank
def Fok (c:WL) (f:BL):Prop:=∃ t s:Nat,t<c.n∧s<c.S.length∧f.To=t∧f.Round=s∧pJ f∧((f.Kind=6∧f.Triples=c.LA t s)∨(f.Kind=7∧f.Triples=c.RB t s))
structure Good (c:WL) (m:MS):Prop where
  out:∀ k<c.n,∀ f∈(m.w k).out,Fok c f
  box:∀ f t,f<c.n→t<c.n→∀ g∈(m.bx f t).fs,Fok c g∧g.To=t
  cnt:∀ f t,f<c.n→t<c.n→(m.bx f t).fs.length+(m.w f).out.length≤100000
  room:∀ f t,f<c.n→t<c.n→(m.bx f t).room=c.room∧(m.bx f t).row.length≤c.room
def MS.send (c:WL) (m:MS) (k:Nat):Bool×MS:=
  match (m.w k).out with
  | []=>(false,m)
  | f :: r=>if ((m.bx k f.To.toNat).send f).1=0 then (true,DV (CW m k f.To.toNat ((m.bx k f.To.toNat).send f).2) k { m.w k with out:=r }) else (false,m)
variable {c:WL} {m:MS} {o0:AB} {o1 o1x:List (Nat×AA)} {o2:List (Nat×AF)}
theorem yV (h:Rep c m o0 o1 o2) {k:Int} {Q:Int→Prop} (hQ:Q (if 0≤k∧k<c.n then ((m.w k.toNat).out.length:Int) else 0)):FT o0 o1 k Q:=by
  unfold FT
  refine jL h (CO (fun h1=>?_) (fun h1=>?_))
  · rwa [if_neg (of_decide_eq_false h1)] at hQ
  · have hk:=of_decide_eq_true h1
    rw [if_pos hk] at hQ
    obtain ⟨n,rfl⟩:∃ n:Nat,k=n:=⟨k.toNat,by omega⟩
    obtain ⟨x,hx,hw⟩:=h.wk n (by omega)
    refine AO hk.1 (h.get (by omega)) ?_
    rw [dZ hx,hw.out]
    simpa using hQ
theorem tA (hc:fY c) (h:Rep c m o0 o1 o2) (g:Good c m) {k:Nat} (hk:k<c.n) {Q:(Bool×AB×List (Nat×AA)×List (Nat×AF))→Prop}
    (hQ:∀ o0' o1' o2',Rep c (m.send c k).2 o0' o1' o2'→Ext o0 o0'→Q ((m.send c k).1,o0',o1',o2')):DA o0 o1 o2 k Q:=by
  unfold DA
  refine yV h ?_
  rw [if_pos (by omega)]
  obtain ⟨x,hx,hw⟩:=h.wk k hk
  simp only [Int.toNat_natCast]
  cases ho:(m.w k).out with
  | nil=>
    refine BF (by simp) ?_
    have:=hQ o0 o1 o2
    simp only [MS.send,ho] at this
    exact this h (Ext.refl _)
  | cons f r=>
    refine AN (by simp; omega) (AO (by omega) (h.get hk) ?_)
    have hf:Fok c f:=g.out k hk f (by rw [ho]; exact List.mem_cons_self)
    obtain ⟨t,s,ht,hs,hto,hro,hsm,hcn⟩:=hf
    have hxo:x.out=f :: r:=by rw [hw.out,ho]
    have hcnt:=g.cnt k t hk ht
    rw [ho] at hcnt
    simp only [List.length_cons] at hcnt
    unfold FW
    refine MN hx (AO (by omega) (x:=f) (by rw [hxo]; rfl) (AO (by omega) (x:=f) (by rw [hxo]; rfl) ?_))
    rw [hto]
    refine pL hc h hk ht fun b pb o0' o2' h' hext hkey hb hi=>?_
    unfold OJ
    rw [RR,YN hb]
    have hQ':=hQ
    simp only [MS.send,ho,hto,Int.toNat_natCast] at hQ'
    refine Af2 hi hsm (by omega) fun b' hi'=>?_
    have h2:=h'.setB hc hkey hi'
    by_cases e:((m.bx k t).send f).1=0
    · rw [if_pos e] at hQ'
      refine FR (fun h1=>absurd e h1) fun _=>?_
      refine MN hx ⟨by omega,by rw [hxo]; simp; omega,by omega,?_⟩
      have hout:((x.out.take (x.out.length:Int).toNat).drop (Int.toNat 1))=r:=by rw [hxo]; simp
      refine hQ' _ _ _ (h2.setW hc hk (a:={ m.w k with out:=r }) ⟨hw.i,hw.j,hw.mask,hout,hw.at_,hw.le,hw.has,hw.l,hw.r⟩) hext
    · rw [if_neg e] at hQ'
      refine FR (fun _=>?_) fun h1=>absurd h1 e
      have h3:Rep c m o0' o1 ((b,b') :: CG b o2'):=by
        have e2:((m.bx k t).send f).2=m.bx k t:=by
          unfold Abs.send at e ⊢
          split
          · rfl
          · rename_i hh; rw [if_neg hh] at e; exact absurd rfl e
        rw [e2] at h2
        have:CW m k t (m.bx k t)=m:=by
          unfold CW
          congr 1
          funext i j
          split
          · rename_i hh; rw [hh.1,hh.2]
          · rfl
        rwa [this] at h2
      exact hQ' _ _ _ h3 hext
def WM (gl gr:Nat→Bool) (S:Nat):Nat→Nat→Nat
  | 0,a=>a
  | k+1,a=>if a<S∧gl a=true∧gr a=true then WM gl gr S k (a+1) else a
def WN (a:Wk) (f:BL):Wk:=if f.Kind=6 then { a with gl:=fun s=>if s=f.Round.toNat then true else a.gl s } else { a with gr:=fun s=>if s=f.Round.toNat then true else a.gr s }
def WX (S:Nat) (a:Wk):Wk:={ a with at_:=WM a.gl a.gr S S a.at_ }
def Rk (c:WL):Prop:=∀ (k s:Nat) (hs:s<c.S.length),k<c.n→∀ Q:List AK→Prop,Q (c.has k (s+1)) →
  SJ c.p.Ring (c.mask k).Rows (AH (c.S[s].To - c.S[s].From)) (c.LA k s) fun r408=>SJ c.p.Ring (AH (c.S[s].To - c.S[s].From)) (c.mask k).Cols (c.RB k s) fun r489=>
    SK c.p.Ring r408.1 r489.1 (c.mask k) fun r562=>OE c.p.Ring ([c.has k s,r562.1]:List (List AK)) fun r640=>Q r640.1
theorem wH (hc:fY c) (hr:Rk c) (h:Rep c m o0 o1 o2) {k:Nat} (hk:k<c.n) {Q:(Bool×List (Nat×AA))→Prop}
    (h0:¬((m.w k).at_<c.S.length∧(m.w k).gl (m.w k).at_=true∧(m.w k).gr (m.w k).at_=true)→Q (false,o1))
    (h1:(m.w k).at_<c.S.length→(m.w k).gl (m.w k).at_=true→(m.w k).gr (m.w k).at_=true→∀ o1',Rep c (DV m k { m.w k with at_:=(m.w k).at_+1 }) o0 o1' o2→Q (true,o1')) :
    CY o0 o1 (some (c.adr k)) Q:=by
  obtain ⟨x,hx,hw⟩:=h.wk k hk
  have hS:=hc.S
  have hle:=hw.le
  unfold CY
  simp only [dZ hx,sZ,AaM]
  rw [h.S,hw.at_]
  refine AC (fun e=>h0 fun e'=>by omega) fun e=>?_
  have hl:=hw.l _ (Nat.le_refl _)
  have hrr:=hw.r _ (Nat.le_refl _)
  unfold kW
  rw [hl,hrr]
  cases hgl:(m.w k).gl (m.w k).at_ with
  | false=>exact BF rfl (h0 fun e'=>by rw [hgl] at e'; simp at e')
  | true=>
    refine AN rfl ?_
    cases hgr:(m.w k).gr (m.w k).at_ with
    | false=>exact BF rfl (h0 fun e'=>by rw [hgr] at e'; simp at e')
    | true=>
      have hlt:(m.w k).at_<c.S.length:=by omega
      refine AN rfl (AV hlt (AV hlt ?_))
      simp only [if_true,Option.getD_some]
      rw [h.p,hw.mask,hw.has]
      refine hr k _ hlt hk (fun z=>Q (true,(c.adr k,({ i:=x.i,j:=x.j,mask:=c.mask k,out:=x.out,parts:=CG ({ kind:=7,stage:=((m.w k).at_:Int) }:AY) (CG ({ kind:=6,stage:=((m.w k).at_:Int) }:AY) x.parts),at_:=AH (((m.w k).at_:Int)+1),has:=z }:AA)) :: CG (c.adr k) o1)) ?_
      refine h1 hlt hgl hgr _ ?_
      refine h.setW hc hk ⟨hw.i,hw.j,rfl,hw.out,?_,hlt,rfl,?_,?_⟩
      · simp only; rw [AX (by omega) (by omega)]; simp
      · intro s hs
        simp only at hs ⊢
        rw [ER (by simp),ER (by simp; omega)]
        exact hw.l s (by omega)
      · intro s hs
        simp only at hs ⊢
        rw [ER (by simp; omega),ER (by simp)]
        exact hw.r s (by omega)
theorem AaN (m:MS) (k:Nat) (a b:Wk):DV (DV m k a) k b=DV m k b:=by
  unfold DV; congr 1; funext i; by_cases e:i=k <;> simp [e]
theorem tD (m:MS) (k:Nat) (a:Wk):(DV m k a).w k=a:=by simp [DV]
theorem Ad5 (hc:fY c) (hr:Rk c) {k:Nat} (hk:k<c.n) {a:Wk} {s0:List (Nat×AA)} (h:Rep c (DV m k a) o0 s0 o2) (ha:a.at_≤c.S.length)
    {Qf:List (Nat×AA)→Prop} (hQ:∀ s,Rep c (DV m k (WX c.S.length a)) o0 s o2→Qf s) :
    BD (fun (s:List (Nat×AA)) (next:List (Nat×AA)→Prop)=>CY o0 s (some (c.adr k)) fun r=>AQ r.1 (next r.2) (Qf r.2)) s0:=by
  have hstop:∀ (gl gr:Nat→Bool) (j t:Nat),c.S.length≤t→WM gl gr c.S.length j t=t:=by
    intro gl gr j t ht
    cases j with
    | zero=>rfl
    | succ j=>unfold WM; rw [if_neg (by omega)]
  have hmore:∀ (gl gr:Nat→Bool) (j t:Nat),c.S.length≤t+j→∀ i,WM gl gr c.S.length (j+i) t=WM gl gr c.S.length j t:=by
    intro gl gr j
    induction j with
    | zero=>intro t ht i; rw [hstop _ _ _ _ (by omega),hstop _ _ _ _ (by omega)]
    | succ j ih=>
      intro t ht i
      rw [show j+1+i=(j+i)+1 by omega]
      unfold WM
      split
      · exact ih (t+1) (by omega) i
      · rfl
  refine GI (fun j s=>∃ t,Rep c (DV m k { a with at_:=t }) o0 s o2∧c.S.length≤t+j∧t≤c.S.length∧WM a.gl a.gr c.S.length j t=(WX c.S.length a).at_) (m0:=c.S.length) ⟨a.at_,h,by omega,ha,rfl⟩ ?_
  rintro j s next ⟨t,hrep,hj,ht,hadv⟩ hn
  refine wH hc hr hrep hk (fun hno=>?_) (fun g1 g2 g3 o1' hrep'=>?_)
  · refine AN rfl (hQ _ ?_)
    rw [tD] at hno
    have:(WX c.S.length a) = { a with at_:=t }:=by
      have e:WM a.gl a.gr c.S.length j t=t:=by
        cases j with
        | zero=>rfl
        | succ j=>unfold WM; rw [if_neg hno]
      rw [e] at hadv
      unfold WX at hadv ⊢
      simp only at hadv
      rw [←hadv]
    rw [this]; exact hrep
  · rw [tD] at g1 g2 g3 hrep'
    rw [AaN] at hrep'
    simp only at g1 g2 g3 hrep'
    refine BF rfl (hn (j - 1) _ (by omega) ⟨t+1,hrep',by omega,by omega,?_⟩)
    rw [←hadv]
    obtain ⟨i,rfl⟩:∃ i,j=i+1:=⟨j - 1,by omega⟩
    show WM a.gl a.gr c.S.length i (t+1)=_
    conv=>rhs; unfold WM
    rw [if_pos ⟨g1,g2,g3⟩]
variable {c:WL} {m:MS} {o0:AB} {o1 o1x:List (Nat×AA)} {o2:List (Nat×AF)} {pb:AF} {s:Abs}
theorem ZW {s:Abs} (f:BL) (h:s.fullB=false):s.send f=(0,{ s with row:=s.row++[s.fs.length],fs:=s.fs++[{ f with Seq:=s.fs.length }] }):=by simp [Abs.send,h]
theorem Ad6 (h:ZE pb s) {k:Int} (ht:(s.take k).2.1=true):∃ i:Nat,∃ hi:i<s.fs.length,(s.take k).1=s.fs[i]∧i=s.taken:=by
  unfold Abs.take at ht ⊢
  split at ht
  · cases ht
  · rename_i h0
    have h0':s.at k=0:=by simpa using h0
    obtain ⟨i,rfl,hi⟩:=RA h0'
    rw [RC hi] at ht ⊢
    rw [if_neg (by rw [h0']; simp)]
    have hlt:=h.lt _ (List.getElem_mem hi)
    split at ht
    · cases ht
    · split at ht
      · cases ht
      · rename_i h1 h2
        rw [if_neg h1,if_neg h2]
        exact ⟨s.row[i],hlt,by simp [hlt],by omega⟩
theorem yW (s:Abs) (k:Int):(s.take k).2.2.2.fs=s.fs∧(s.take k).2.2.2.room=s.room:=by
  unfold Abs.take; split <;> (try split) <;> (try split) <;> exact ⟨rfl,rfl⟩
theorem Ad7 (s:Abs) (k:Int):(s.take k).2.2.2.row.length≤s.row.length:=by
  unfold Abs.take
  split <;> (try split) <;> (try split) <;> simp [List.length_eraseIdx] <;> split <;> omega
def MS.hand (c:WL) (m:MS) (f t:Nat) (k:Int):Bool×MS:=
  if ((m.bx f t).take k).2.1=true then (true,DV (CW m f t ((m.bx f t).take k).2.2.2) t (WX c.S.length (WN (m.w t) ((m.bx f t).take k).1))) else (false,CW m f t ((m.bx f t).take k).2.2.2)
theorem Af7 {k:Nat} {a:Wk} {x:AA} (h:Af6 c k a x) {f:BL} (hf:Fok c f) (hto:f.To=(k:Int)) :
    Af6 c k (WN a f) { i:=x.i,j:=x.j,mask:=x.mask,out:=x.out,parts:=(EE ({ kind:=f.Kind,stage:=f.Round }:AY) f.Triples x.parts),at_:=x.at_,has:=x.has }:=by
  obtain ⟨t,r,ht,hr,hto',hro,hsm,hc⟩:=hf
  have e:t=k:=by omega
  subst e
  rcases hc with ⟨hk,htr⟩ | ⟨hk,htr⟩
  · unfold WN
    rw [if_pos hk]
    refine ⟨h.i,h.j,h.mask,h.out,h.at_,h.le,h.has,fun s hs=>?_,fun s hs=>?_⟩
    · simp only [hk,hro,htr,Int.toNat_natCast]
      by_cases es:s=r
      · subst es; rw [BN]; simp
      · rw [BE (by simp; omega),h.l s hs]; simp [es]
    · simp only [hk]
      rw [BE (by simp)]
      exact h.r s hs
  · unfold WN
    rw [if_neg (by omega)]
    refine ⟨h.i,h.j,h.mask,h.out,h.at_,h.le,h.has,fun s hs=>?_,fun s hs=>?_⟩
    · simp only [hk]
      rw [BE (by simp)]
      exact h.l s hs
    · simp only [hk,hro,htr,Int.toNat_natCast]
      by_cases es:s=r
      · subst es; rw [BN]; simp
      · rw [BE (by simp; omega),h.r s hs]; simp [es]
theorem tE (hc:fY c) (hr:Rk c) (h:Rep c m o0 o1 o2) (g:Good c m) {f t:Nat} (hf:f<c.n) (ht:t<c.n) {k:Int} {Q:(Bool×AB×List (Nat×AA)×List (Nat×AF))→Prop}
    (hQ:∀ o0' o1' o2',Rep c (m.hand c f t k).2 o0' o1' o2'→Ext o0 o0'→Q ((m.hand c f t k).1,o0',o1',o2')):DB o0 o1 o2 f t k Q:=by
  unfold DB
  refine pL hc h hf ht fun b pb o0' o2' h' hext hkey hb hi=>?_
  unfold OL
  rw [RR,YN hb]
  refine Af3 hi fun b' hi'=>?_
  have h2:=h'.setB hc hkey hi'
  unfold MS.hand at hQ
  cases e:((m.bx f t).take k).2.1 with
  | false=>
    rw [e] at hQ
    simp only [Bool.false_eq_true,if_false] at hQ
    exact BF rfl (hQ _ _ _ h2 hext)
  | true=>
    rw [e] at hQ
    simp only [if_true] at hQ
    refine AN rfl (AO (by omega) (h2.get ht) ?_)
    obtain ⟨x,hx,hw⟩:=h2.wk t ht
    refine MN hx ?_
    obtain ⟨i,hi1,hi2,hi3⟩:=Ad6 hi e
    have hg:=g.box f t hf ht _ (List.getElem_mem hi1)
    rw [←hi2] at hg
    have hw2:=Af7 hw hg.1 hg.2
    have h3:=h2.setW hc ht hw2
    have hle:(WN ((CW m f t ((m.bx f t).take k).2.2.2).w t) ((m.bx f t).take k).1).at_≤c.S.length:=by
      unfold WN; split <;> exact hw.le
    exact Ad5 hc hr ht h3 hle fun s hs=>hQ _ _ _ hs hext
theorem Ad8 (h:Rep c m o0 o1 o2) {f t:Int} (hn:¬((0≤f∧f<c.n)∧(0≤t∧t<c.n))) {k:Int} {Q:(Bool×AB×List (Nat×AA)×List (Nat×AF))→Prop}
    (hQ:Q (false,o0,o1,o2)):DB o0 o1 o2 f t k Q:=by
  unfold DB
  refine pK h hn ?_
  unfold JU FK
  exact BF rfl (BF rfl hQ)
theorem Good.sent (hc:fY c) (g:Good c m) {k:Nat} (hk:k<c.n):Good c (m.send c k).2:=by
  unfold MS.send
  split
  · exact g
  · rename_i f r ho
    split
    · rename_i hs
      obtain ⟨t,s,ht,hs',hto,hro,hsm,hcn⟩:=g.out k hk f (by rw [ho]; exact List.mem_cons_self)
      have hnf:(m.bx k f.To.toNat).fullB=false:=by
        unfold Abs.send at hs
        cases hff:(m.bx k f.To.toNat).fullB with
        | false=>rfl
        | true=>rw [if_pos hff] at hs; simp at hs
      rw [hto] at hnf ⊢
      simp only [Int.toNat_natCast] at hnf ⊢
      rw [ZW f hnf]
      have hroom:=g.room k t hk ht
      have hnf':(m.bx k t).row.length<(m.bx k t).room:=by unfold Abs.fullB at hnf; simpa using hnf
      refine ⟨fun i hi g' hg'=>?_,fun a b ha hb g' hg'=>?_,fun a b ha hb=>?_,fun a b ha hb=>?_⟩
      · by_cases e:i=k
        · subst e
          simp only [DV,if_true] at hg'
          exact g.out i hi g' (by rw [ho]; exact List.mem_cons_of_mem _ hg')
        · simp only [DV,if_neg e,CW] at hg'
          exact g.out i hi g' hg'
      · by_cases e:a=k∧b=t
        · obtain ⟨rfl,rfl⟩:=e
          simp only [DV,CW,and_self,if_true] at hg'
          rcases List.mem_append.1 hg' with hg' | hg'
          · exact g.box a b ha hb g' hg'
          · rw [List.mem_singleton] at hg'
            subst hg'
            exact ⟨⟨b,s,ht,hs',hto,hro,⟨hsm.1,hsm.2.1,hsm.2.2⟩,hcn⟩,hto⟩
        · simp only [DV,CW,if_neg e] at hg'
          exact g.box a b ha hb g' hg'
      · have hcab:=g.cnt a b ha hb
        by_cases e:a=k
        · subst e
          rw [ho] at hcab
          by_cases e':b=t
          · subst e'; simp [DV,CW] at hcab ⊢; omega
          · simp [DV,CW,e'] at hcab ⊢; omega
        · simpa [DV,CW,e] using hcab
      · by_cases e:a=k∧b=t
        · obtain ⟨rfl,rfl⟩:=e
          simp only [DV,CW,and_self,if_true,List.length_append,List.length_singleton]
          exact ⟨hroom.1,by omega⟩
        · simp only [DV,CW,if_neg e]
          exact g.room a b ha hb
    · exact g
variable {c:WL} {m:MS} {o0:AB} {o1 o1x:List (Nat×AA)} {o2:List (Nat×AF)} {pb:AF} {s:Abs}
theorem Good.setB (g:Good c m) {f t:Nat} {a:Abs} (h1:a.fs=(m.bx f t).fs) (h2:f<c.n→t<c.n→a.room=c.room∧a.row.length≤c.room):Good c (CW m f t a):=by
  refine ⟨g.out,fun i j hi hj g' hg'=>?_,fun i j hi hj=>?_,fun i j hi hj=>?_⟩
  · by_cases e:i=f∧j=t
    · obtain ⟨rfl,rfl⟩:=e
      simp only [CW,and_self,if_true,h1] at hg'
      exact g.box i j hi hj g' hg'
    · simp only [CW,if_neg e] at hg'; exact g.box i j hi hj g' hg'
  · by_cases e:i=f∧j=t
    · obtain ⟨rfl,rfl⟩:=e
      simp only [CW,and_self,if_true,h1]
      exact g.cnt i j hi hj
    · simp only [CW,if_neg e]; exact g.cnt i j hi hj
  · by_cases e:i=f∧j=t
    · obtain ⟨rfl,rfl⟩:=e
      simp only [CW,and_self,if_true]; exact h2 hi hj
    · simp only [CW,if_neg e]; exact g.room i j hi hj
theorem Good.setW (g:Good c m) {k:Nat} {a:Wk} (h:a.out=(m.w k).out):Good c (DV m k a):=by
  have e:∀ i,((DV m k a).w i).out=(m.w i).out:=fun i=>by
    by_cases e:i=k
    · subst e; simp [DV,h]
    · simp [DV,e]
  exact ⟨fun i hi f hf=>g.out i hi f (by rwa [e] at hf),g.box,fun i j hi hj=>by rw [e]; exact g.cnt i j hi hj,g.room⟩
theorem cH (a:Wk) (f:BL):(WN a f).out=a.out:=by unfold WN; split <;> rfl
theorem Good.handed (g:Good c m) (f t:Nat) (k:Int):Good c (m.hand c f t k).2:=by
  have h1:=yW (m.bx f t) k
  have h2:=Ad7 (m.bx f t) k
  have g2:Good c (CW m f t ((m.bx f t).take k).2.2.2):=g.setB h1.1 fun hf ht=>by
    have:=g.room f t hf ht
    rw [h1.2]; exact ⟨this.1,by omega⟩
  unfold MS.hand
  split
  · exact g2.setW (by simp [WX,cH,CW])
  · exact g2
def MS.double (m:MS) (f t:Nat) (k:Int):Bool×MS:=(((m.bx f t).double k).1==0,CW m f t ((m.bx f t).double k).2)
def MS.move (m:MS) (f t:Nat) (k:Int):Bool×MS:=(((m.bx f t).move k).1==0,CW m f t ((m.bx f t).move k).2)
theorem Good.doubled (g:Good c m) {f t:Nat} (hf:f<c.n) (ht:t<c.n) (k:Int):Good c (m.double f t k).2:=by
  have hr:=g.room f t hf ht
  unfold MS.double Abs.double
  simp only
  split
  · exact g.setB rfl fun _ _=>hr
  · split
    · exact g.setB rfl fun _ _=>hr
    · rename_i h1 h2
      refine g.setB rfl fun _ _=>⟨hr.1,?_⟩
      have:(m.bx f t).row.length<(m.bx f t).room:=by unfold Abs.fullB at h2; simpa using h2
      simp only [List.length_append,List.length_singleton]; omega
theorem Good.moved (g:Good c m) {f t:Nat} (hf:f<c.n) (ht:t<c.n) (k:Int):Good c (m.move f t k).2:=by
  have hr:=g.room f t hf ht
  unfold MS.move Abs.move
  simp only
  split
  · exact g.setB rfl fun _ _=>hr
  · rename_i h0
    have h0':(m.bx f t).at k=0:=by simpa using h0
    obtain ⟨i,rfl,hi⟩:=RA h0'
    refine g.setB rfl fun _ _=>⟨hr.1,?_⟩
    simp only [List.length_append,List.length_singleton,List.length_eraseIdx,Int.toNat_natCast,hi,if_true]; omega
def MS.sends (c:WL) (m:MS):Nat→Bool×MS
  | 0=>(false,m)
  | k+1=>(((m.sends c k).2.send c k).1 || (m.sends c k).1,((m.sends c k).2.send c k).2)
def MS.old (c:WL) (m:MS) (f t:Nat):MS:=(m.hand c f t (m.bx f t).oldest).2
def hands1 (c:WL) (f:Nat) (s:Bool×MS):Nat→Bool×MS
  | 0=>s
  | t+1=>((hands1 c f s t).1 || decide ((((hands1 c f s t).2.old c f t).bx f t).row.length<((hands1 c f s t).2.bx f t).row.length),(hands1 c f s t).2.old c f t)
def hands (c:WL) (s:Bool×MS):Nat→Bool×MS
  | 0=>s
  | f+1=>hands1 c f (hands c s f) c.n
def MS.window (c:WL) (m:MS):Bool×MS:=hands c (m.sends c c.n) c.n
theorem Good.sends (hc:fY c) (g:Good c m):∀ k,k≤c.n→Good c (m.sends c k).2
  | 0,_=>g
  | k+1,hk=>(Good.sends hc g k (by omega)).sent hc (by omega)
theorem Good.hands1 {x:Bool×MS} (g:Good c x.2) (f:Nat):∀ k,Good c (hands1 c f x k).2
  | 0=>g
  | k+1=>(Good.hands1 g f k).handed f k _
theorem Good.hands {x:Bool×MS} (g:Good c x.2):∀ k,Good c (hands c x k).2
  | 0=>g
  | k+1=>Good.hands1 (Good.hands g k) k _
theorem Good.window (hc:fY c) (g:Good c m):Good c (m.window c).2:=Good.hands (g.sends hc c.n (by omega)) c.n
abbrev Tup:=Int×Int×Int×(List Int)×(List Int)×(List Int)×Int×Int×(List Int)×(List Int)×(List Int)×Int×Int×(List Int)×(List Int)×(List Int)×Int×Int×Int×(List BC)×(List (Option Nat))×(List ((Int×Int)×(Option Nat)))×Bool×Int×(List (Nat×AA))×(List (Nat×AF))
abbrev wI (o0:AB) (b:Bool) (k:Int) (o1:List (Nat×AA)) (o2:List (Nat×AF)):Tup:=
  (o0.p.Ring,o0.p.A.Rows,o0.p.A.Cols,o0.p.A.Start,o0.p.A.Col,o0.p.A.Val,o0.p.B.Rows,o0.p.B.Cols,o0.p.B.Start,o0.p.B.Col,o0.p.B.Val,o0.p.Mask.Rows,o0.p.Mask.Cols,o0.p.Mask.Start,o0.p.Mask.Col,o0.p.Mask.Val,o0.p.R,o0.p.C,o0.p.Room,o0.stages,o0.workers,o0.boxes,b,k,o1,o2)
theorem tF (h:Rep c m o0 o1 o2) {f t:Nat} {Q:Int→Prop} (hQ:Q ((m.bx f t).row.length:Int)):GP o2 ((BM ((f:Int),(t:Int)) o0.boxes).getD none) Q:=by
  unfold GP
  cases hg:BM ((f:Int),(t:Int)) o0.boxes with
  | none=>rw [Option.getD_none,eC]; rw [h.no f t hg] at hQ; exact hQ
  | some v=>
    cases v with
    | none=>exact absurd hg (h.nn _)
    | some b=>
      obtain ⟨pb,h1,h2⟩:=h.bx f t b hg
      rw [Option.getD_some,RR,YN h1]
      exact Ad4 h2 hQ
theorem Ad9 (h:Rep c m o0 o1 o2) {f t:Nat} {Q:Int→Prop} (hQ:Q (m.bx f t).oldest):IW o2 ((BM ((f:Int),(t:Int)) o0.boxes).getD none) Q:=by
  unfold IW
  cases hg:BM ((f:Int),(t:Int)) o0.boxes with
  | none=>rw [Option.getD_none,eC]; rw [h.no f t hg] at hQ; exact BF rfl hQ
  | some v=>
    cases v with
    | none=>exact absurd hg (h.nn _)
    | some b=>
      obtain ⟨pb,h1,h2⟩:=h.bx f t b hg
      rw [Option.getD_some,RR,YN h1]
      exact AaL h2 hQ
theorem mT (hc:fY c) (hr:Rk c) (h:Rep c m o0 o1 o2) (g:Good c m) {Q:(Bool×AB×List (Nat×AA)×List (Nat×AF))→Prop}
    (hQ:∀ o0' o1' o2',Rep c (m.window c).2 o0' o1' o2'→Ext o0 o0'→Q ((m.window c).1,o0',o1',o2')):DY o0 o1 o2 Q:=by
  have hn:=hc.n
  unfold DY
  refine GI (fun j (x:Tup)=>∃ (k:Nat) (a0:AB) (a1:List (Nat×AA)) (a2:List (Nat×AF)),x=wI a0 (m.sends c k).1 (k:Int) a1 a2∧k+j=c.n∧Rep c (m.sends c k).2 a0 a1 a2∧Ext o0 a0) (m0:=c.n) ⟨0,o0,o1,o2,rfl,by omega,h,Ext.refl _⟩ ?_
  rintro j _ next ⟨k,a0,a1,a2,rfl,hkj,hrep,hext⟩ hnext
  show AQ (decide ((k:Int)<(o0.workers.length:Int))) _ _
  rw [h.len]
  refine AC (fun hk=>?_) (fun hk=>?_)
  · have hk':k<c.n:=by omega
    refine tA hc hrep (g.sends hc k (by omega)) hk' fun b0 b1 b2 hb hbx=>?_
    have go:next (wI b0 (m.sends c (k+1)).1 ((k+1:Nat):Int) b1 b2):=hnext (j - 1) _ (by omega) ⟨k+1,b0,b1,b2,rfl,by omega,hb,hext.trans hbx⟩
    have e:AH ((k:Int)+1)=((k+1:Nat):Int):=by rw [AX (by omega) (by omega)]; simp
    rw [←e] at go
    unfold MS.sends at go
    cases hs:((m.sends c k).2.send c k).1 with
    | true=>rw [hs] at go; exact BF rfl go
    | false=>rw [hs] at go; exact AN rfl go
  · have hkn:k=c.n:=by omega
    subst hkn
    refine GI (fun j (x:Tup)=>∃ (f:Nat) (b0:AB) (b1:List (Nat×AA)) (b2:List (Nat×AF)),x=wI b0 (hands c (m.sends c c.n) f).1 (f:Int) b1 b2∧f+j=c.n∧Rep c (hands c (m.sends c c.n) f).2 b0 b1 b2∧Ext o0 b0) (m0:=c.n) ⟨0,a0,a1,a2,rfl,by omega,hrep,hext⟩ ?_
    rintro j2 _ next2 ⟨f,b0,b1,b2,rfl,hfj,hrb,hxb⟩ hnext2
    show AQ (decide ((f:Int)<(a0.workers.length:Int))) _ _
    rw [hrep.len]
    refine AC (fun hf=>?_) (fun hf=>?_)
    · have hf':f<c.n:=by omega
      refine GI (fun j (x:Tup)=>∃ (t:Nat) (d0:AB) (d1:List (Nat×AA)) (d2:List (Nat×AF)),x=wI d0 (hands1 c f (hands c (m.sends c c.n) f) t).1 (t:Int) d1 d2∧t+j=c.n∧Rep c (hands1 c f (hands c (m.sends c c.n) f) t).2 d0 d1 d2∧Ext o0 d0) (m0:=c.n) ⟨0,b0,b1,b2,rfl,by omega,hrb,hxb⟩ ?_
      rintro j3 _ next3 ⟨t,d0,d1,d2,rfl,htj,hrd,hxd⟩ hnext3
      show AQ (decide ((t:Int)<(b0.workers.length:Int))) _ _
      rw [hrb.len]
      refine AC (fun ht=>?_) (fun ht=>?_)
      · have ht':t<c.n:=by omega
        have gd:Good c (hands1 c f (hands c (m.sends c c.n) f) t).2:=Good.hands1 (Good.hands (g.sends hc c.n (by omega)) f) f t
        refine KK (tF hrd (Ad9 hrd ?_))
        refine tE hc hr hrd gd hf' ht' fun e0 e1 e2 hre hxe=>?_
        have e:AH ((t:Int)+1)=((t+1:Nat):Int):=by rw [AX (by omega) (by omega)]; simp
        have go:next3 (wI e0 (hands1 c f (hands c (m.sends c c.n) f) (t+1)).1 ((t+1:Nat):Int) e1 e2):=hnext3 (j3 - 1) _ (by omega) ⟨t+1,e0,e1,e2,rfl,by omega,hre,hxd.trans hxe⟩
        rw [←e] at go
        unfold hands1 at go
        cases hs:(hands1 c f (hands c (m.sends c c.n) f) t).1 with
        | true=>rw [hs] at go; exact BF rfl go
        | false=>
          rw [hs] at go
          refine AN rfl ?_
          simp only [Bool.false_or] at go
          cases hg:BM ((f:Int),(t:Int)) d0.boxes with
          | none=>
            unfold GP
            rw [Option.getD_none,eC]
            have hz:((hands1 c f (hands c (m.sends c c.n) f) t).2.bx f t).row.length=0:=by rw [hrd.no f t hg]; rfl
            rw [hz] at go ⊢
            have ez:decide ((((hands1 c f (hands c (m.sends c c.n) f) t).2.old c f t).bx f t).row.length<0)=false:=by simp
            rw [ez] at go
            exact go
          | some v=>
            cases v with
            | none=>exact absurd hg (hrd.nn _)
            | some b=>
              have hg':=hxe _ _ hg
              have:=tF (f:=f) (t:=t) (Q:=fun r=>next3 (wI e0 (decide (r<(((hands1 c f (hands c (m.sends c c.n) f) t).2.bx f t).row.length:Int))) (AH ((t:Int)+1)) e1 e2)) hre (by
                have e3:decide ((((((hands1 c f (hands c (m.sends c c.n) f) t).2.hand c f t ((hands1 c f (hands c (m.sends c c.n) f) t).2.bx f t).oldest).2.bx f t).row.length:Nat):Int)<(((hands1 c f (hands c (m.sends c c.n) f) t).2.bx f t).row.length:Int))=decide ((((hands1 c f (hands c (m.sends c c.n) f) t).2.old c f t).bx f t).row.length<((hands1 c f (hands c (m.sends c c.n) f) t).2.bx f t).row.length):=by
                  apply decide_eq_decide.2
                  unfold MS.old
                  omega
                rw [e3]
                exact go)
              rw [hg'] at this
              exact this
      · have htn:t=c.n:=by omega
        subst htn
        have e:AH ((f:Int)+1)=((f+1:Nat):Int):=by rw [AX (by omega) (by omega)]; simp
        have go:=hnext2 (j2 - 1) (wI d0 (hands c (m.sends c c.n) (f+1)).1 ((f+1:Nat):Int) d1 d2) (by omega) ⟨f+1,d0,d1,d2,rfl,by omega,hrd,hxd⟩
        rw [←e] at go
        exact go
    · have hfn:f=c.n:=by omega
      subst hfn
      exact hQ _ _ _ hrb hxb
def AdA (x:MY):Bool:=decide (0≤x.A∧x.A≤63∧0≤x.B∧x.B≤63∧0≤x.K∧x.K≤63∧0<x.Kind∧x.Kind≤5)
theorem cI {x:MY} {Q:Bool→Prop} (hQ:Q (AdA x)):SG x Q:=by
  have hw:∀ {a:Int} {Q:Bool→Prop},Q (decide (0≤a∧a≤63))→MH a 63 Q:=by
    intro a Q h
    unfold MH
    refine AC (fun h1=>?_) (fun h1=>?_)
    · simpa [h1] using h
    · simpa [h1] using h
  unfold SG
  unfold AdA at hQ
  refine hw (CO (fun h=>?_) fun h=>hw (CO (fun h'=>?_) fun h'=>hw (CO (fun h2=>?_) fun h2=>AC (fun h3=>?_) (fun h3=>?_))))
  · have:=of_decide_eq_false h; rwa [decide_eq_false (by omega)] at hQ
  · have:=of_decide_eq_false h'; rwa [decide_eq_false (by omega)] at hQ
  · have:=of_decide_eq_false h2; rwa [decide_eq_false (by omega)] at hQ
  · have h:=of_decide_eq_true h; have h':=of_decide_eq_true h'; have h2:=of_decide_eq_true h2
    have e:decide (x.Kind≤5)=decide (0≤x.A∧x.A≤63∧0≤x.B∧x.B≤63∧0≤x.K∧x.K≤63∧0<x.Kind∧x.Kind≤5):=decide_eq_decide.2 (by omega)
    rw [e]; exact hQ
  · rwa [decide_eq_false (by omega)] at hQ
def inG (c:WL) (a:Int):Prop:=0≤a∧a<c.n
instance (c:WL) (a:Int):Decidable (inG c a):=by unfold inG; infer_instance
def MS.act (c:WL) (m:MS) (x:MY):Bool×MS:=
  if AdA x=false then (false,m)
  else if x.Kind=1 then (if inG c x.A then m.send c x.A.toNat else (false,m))
  else if x.Kind=5 then m.window c
  else if inG c x.A∧inG c x.B then
    (if x.Kind=2 then m.hand c x.A.toNat x.B.toNat x.K else if x.Kind=3 then m.double x.A.toNat x.B.toNat x.K else m.move x.A.toNat x.B.toNat x.K)
  else (false,m)
theorem AaO (h:Rep c m o0 o1 o2) {k:Int} (hk:¬inG c k) {Q:(Bool×AB×List (Nat×AA)×List (Nat×AF))→Prop} (hQ:Q (false,o0,o1,o2)):DA o0 o1 o2 k Q:=by
  unfold DA
  refine yV h ?_
  rw [if_neg (show ¬(0≤k∧k<(c.n:Int)) from hk)]
  exact BF rfl hQ
theorem AgZ (hc:fY c) (hr:Rk c) (h:Rep c m o0 o1 o2) (g:Good c m) {x:MY} {Q:(Bool×AB×List (Nat×AA)×List (Nat×AF))→Prop}
    (hQ:∀ o0' o1' o2',Rep c (m.act c x).2 o0' o1' o2'→Ext o0 o0'→Q ((m.act c x).1,o0',o1',o2')):GY o0 o1 o2 x Q:=by
  unfold GY
  unfold MS.act at hQ
  refine cI (CO (fun h1=>?_) fun h1=>?_)
  · rw [if_pos h1] at hQ; exact hQ _ _ _ h (Ext.refl _)
  · rw [if_neg (by rw [h1]; simp)] at hQ
    have hb:=of_decide_eq_true h1
    refine CU (fun h2=>?_) fun h2=>?_
    · rw [if_pos h2] at hQ
      by_cases hi:inG c x.A
      · rw [if_pos hi] at hQ
        have e:x.A=((x.A.toNat:Nat):Int):=by have:=hi.1; omega
        rw [e]
        exact tA hc h g (by have:=hi.2; have:=hi.1; omega) fun _ _ _ r e'=>hQ _ _ _ r e'
      · rw [if_neg hi] at hQ
        exact AaO h hi (hQ _ _ _ h (Ext.refl _))
    · rw [if_neg h2] at hQ
      by_cases h5:x.Kind=5
      · rw [if_pos h5] at hQ
        refine CU (fun e=>by omega) fun _=>CU (fun e=>by omega) fun _=>CU (fun e=>by omega) fun _=>?_
        exact mT hc hr h g fun _ _ _ r e'=>hQ _ _ _ r e'
      · rw [if_neg h5] at hQ
        by_cases hi:inG c x.A∧inG c x.B
        · rw [if_pos hi] at hQ
          have e1:x.A=((x.A.toNat:Nat):Int):=by have:=hi.1.1; omega
          have e2:x.B=((x.B.toNat:Nat):Int):=by have:=hi.2.1; omega
          have l1:x.A.toNat<c.n:=by have:=hi.1.2; have:=hi.1.1; omega
          have l2:x.B.toNat<c.n:=by have:=hi.2.2; have:=hi.2.1; omega
          rw [e1,e2]
          refine CU (fun e=>?_) fun e3=>CU (fun e=>?_) fun e4=>CU (fun e=>?_) fun e=>?_
          · rw [if_pos e] at hQ
            exact tE hc hr h g l1 l2 fun _ _ _ r e'=>hQ _ _ _ r e'
          · rw [if_neg e3,if_pos e] at hQ
            refine pL hc h l1 l2 fun b pb o0' o2' h' hext hkey hb' hi'=>?_
            unfold LY
            rw [RR,YN hb']
            exact AaI hi' fun b' hib=>hQ _ _ _ (h'.setB hc hkey hib) hext
          · rw [if_neg e3,if_neg e4] at hQ
            refine pL hc h l1 l2 fun b pb o0' o2' h' hext hkey hb' hi'=>?_
            unfold OM
            rw [RR,YN hb']
            exact Af4 hi' fun b' hib=>hQ _ _ _ (h'.setB hc hkey hib) hext
          · omega
        · rw [if_neg hi] at hQ
          have q:=hQ _ _ _ h (Ext.refl _)
          refine CU (fun e=>?_) fun e3=>CU (fun e=>?_) fun e4=>CU (fun e=>?_) fun e=>?_
          · exact Ad8 h hi q
          · refine pK h hi ?_
            unfold HJ FK
            exact BF rfl q
          · refine pK h hi ?_
            unfold JW FK
            exact BF rfl q
          · omega
theorem Good.acted (hc:fY c) (g:Good c m) (x:MY):Good c (m.act c x).2:=by
  unfold MS.act
  split
  · exact g
  · split
    · split
      · rename_i hi; exact g.sent hc (by have:=hi.2; have:=hi.1; omega)
      · exact g
    · split
      · exact g.window hc
      · split
        · rename_i hi
          have l1:x.A.toNat<c.n:=by have:=hi.1.2; have:=hi.1.1; omega
          have l2:x.B.toNat<c.n:=by have:=hi.2.2; have:=hi.2.1; omega
          split
          · exact g.handed _ _ _
          · split
            · exact g.doubled l1 l2 _
            · exact g.moved l1 l2 _
        · exact g
def LH (g:Nat→Nat):Nat→Nat
  | 0=>0
  | n+1=>LH g n+g n
theorem EG {g g':Nat→Nat}:∀ {n:Nat},(∀ i,i<n→g' i=g i)→LH g' n=LH g n
  | 0,_=>rfl
  | n+1,h=>by unfold LH; rw [EG fun i hi=>h i (by omega),h n (by omega)]
theorem YO {g g':Nat→Nat} {k:Nat}:∀ {n:Nat},k<n→(∀ i,i≠k→g' i=g i)→LH g' n+g k=LH g n+g' k
  | 0,h,_=>by omega
  | n+1,h,he=>by
    unfold LH
    by_cases e:k=n
    · subst e
      rw [EG (g':=g') (g:=g) fun i hi=>he i (by omega)]; omega
    · have:=YO (g:=g) (g':=g') (n:=n) (k:=k) (by omega) he
      rw [he n (by omega)]; omega
theorem JG (a:Nat):∀ n:Nat,LH (fun _=>a) n=n*a
  | 0=>by simp [LH]
  | n+1=>by unfold LH; rw [JG a n,Nat.succ_mul]
theorem cJ {g:Nat→Nat}:∀ {n:Nat},LH g n=0→∀ i,i<n→g i=0
  | n+1,h,i,hi=>by
    unfold LH at h
    by_cases e:i=n
    · subst e; omega
    · exact cJ (n:=n) (by omega) i (by omega)
variable {c:WL} {m:MS} {s:Abs}
def cK (c:WL) (m:MS):Nat:=LH (fun k=>(m.w k).out.length) c.n
def yX (c:WL) (m:MS):Nat:=LH (fun f=>LH (fun t=>(m.bx f t).row.length) c.n) c.n
def cL (c:WL) (m:MS):Nat:=LH (fun f=>LH (fun t=>(m.bx f t).fs.length) c.n) c.n
theorem ZX {f t:Nat} {a:Abs} (hf:f<c.n) (ht:t<c.n):cL c (CW m f t a)+(m.bx f t).fs.length=cL c m+a.fs.length:=by
  have h1:=YO (g:=fun j=>(m.bx f j).fs.length) (g':=fun j=>((CW m f t a).bx f j).fs.length) ht (fun i hi=>by simp [CW,hi])
  have h2:=YO (g:=fun i=>LH (fun j=>(m.bx i j).fs.length) c.n) (g':=fun i=>LH (fun j=>((CW m f t a).bx i j).fs.length) c.n) hf (fun i hi=>by simp [CW,hi])
  have e:((CW m f t a).bx f t)=a:=by simp [CW]
  rw [e] at h1
  unfold cL
  omega
theorem mU {k:Nat} {a:Wk} (hk:k<c.n):cK c (DV m k a)+(m.w k).out.length=cK c m+a.out.length:=by
  have h1:=YO (g:=fun j=>(m.w j).out.length) (g':=fun j=>((DV m k a).w j).out.length) hk (fun i hi=>by simp [DV,hi])
  have e:((DV m k a).w k)=a:=by simp [DV]
  rw [e] at h1
  unfold cK
  omega
theorem eD {f t:Nat} {a:Abs}:cK c (CW m f t a)=cK c m:=rfl
theorem jM {k:Nat} {a:Wk}:cL c (DV m k a)=cL c m:=rfl
structure BInv (s:Abs):Prop where
  lt:∀ n∈s.row,n<s.fs.length
  pend:∀ n,s.taken≤n→n<s.fs.length→n∈s.row
  tk:s.taken≤s.fs.length
theorem BInv.empty (c:WL):BInv (empty c):=⟨fun n hn=>by simp [Go.Proofs.YtbohadngdkjljaaGreat.empty] at hn,fun n _ h=>by simp [Go.Proofs.YtbohadngdkjljaaGreat.empty] at h,Nat.le_refl _⟩
theorem eG {l:List Nat} {i n:Nat} (hi:i<l.length) (h:n∈l) (hn:n≠l[i]):n∈l.eraseIdx i:=by
  rw [←List.count_pos_iff,PV hi,if_neg hn,List.count_pos_iff]; exact h
theorem BInv.send (h:BInv s) (f:BL):BInv (s.send f).2:=by
  unfold Abs.send
  split
  · exact h
  · refine ⟨fun n hn=>?_,fun n h1 h2=>?_,?_⟩
    · rcases List.mem_append.1 hn with hn | hn
      · have:=h.lt n hn; simp; omega
      · rw [List.mem_singleton] at hn; simp; omega
    · simp only [List.length_append,List.length_singleton] at h2
      by_cases e:n=s.fs.length
      · exact List.mem_append.2 (.inr (by simp [e]))
      · exact List.mem_append.2 (.inl (h.pend n h1 (by omega)))
    · have:=h.tk; simp; omega
theorem BInv.double (h:BInv s) (k:Int):BInv (s.double k).2:=by
  unfold Abs.double
  split
  · exact h
  · split
    · exact h
    · rename_i h0 _
      obtain ⟨i,rfl,hi⟩:=RA (by simpa using h0)
      refine ⟨fun n hn=>?_,fun n h1 h2=>List.mem_append.2 (.inl (h.pend n h1 h2)),h.tk⟩
      rcases List.mem_append.1 hn with hn | hn
      · exact h.lt n hn
      · rw [List.mem_singleton,RC hi] at hn; subst hn; exact h.lt _ (List.getElem_mem hi)
theorem BInv.move (h:BInv s) (k:Int):BInv (s.move k).2:=by
  unfold Abs.move
  split
  · exact h
  · rename_i h0
    obtain ⟨i,rfl,hi⟩:=RA (by simpa using h0)
    simp only [Int.toNat_natCast,RC hi]
    refine ⟨fun n hn=>?_,fun n h1 h2=>?_,h.tk⟩
    · rcases List.mem_append.1 hn with hn | hn
      · exact h.lt n ((List.eraseIdx_sublist s.row i).mem hn)
      · rw [List.mem_singleton] at hn; subst hn; exact h.lt _ (List.getElem_mem hi)
    · by_cases e:n=s.row[i]
      · exact List.mem_append.2 (.inr (by simp [e]))
      · exact List.mem_append.2 (.inl (eG hi (h.pend n h1 h2) e))
theorem BInv.take (h:BInv s) (k:Int):BInv (s.take k).2.2.2:=by
  unfold Abs.take
  split
  · exact h
  · rename_i h0
    obtain ⟨i,rfl,hi⟩:=RA (by simpa using h0)
    rw [RC hi]
    simp only [Int.toNat_natCast]
    have hlt:=h.lt _ (List.getElem_mem hi)
    split
    · exact h
    · split
      · rename_i h1 h2
        refine ⟨fun n hn=>h.lt n ((List.eraseIdx_sublist s.row i).mem hn),fun n h3 h4=>eG hi (h.pend n h3 h4) ?_,h.tk⟩
        have h3':s.taken≤n:=h3
        omega
      · rename_i h1 h2
        refine ⟨fun n hn=>h.lt n ((List.eraseIdx_sublist s.row i).mem hn),fun n h3 h4=>?_,?_⟩
        · have h3':s.taken+1≤n:=h3
          exact eG hi (h.pend n (by omega) h4) (by omega)
        · show s.taken+1≤s.fs.length
          omega
theorem BInv.old (h:BInv s) (h0:s.row≠[]):(s.take s.oldest).2.2.2.row.length+1=s.row.length:=by
  obtain ⟨hi,hmin⟩:=sY h0
  have hl:s.row.length≠0:=fun e=>h0 (List.length_eq_zero_iff.1 e)
  have ho:s.oldest=((QZ s.row:Nat):Int):=by unfold Abs.oldest; rw [if_neg hl]
  rw [ho]
  have hat:s.at ((QZ s.row:Nat):Int)=0:=by unfold Abs.at; rw [if_neg (by omega),if_neg (by omega)]
  have hle:s.row[QZ s.row]≤s.taken:=by
    rcases Nat.lt_or_ge s.taken s.fs.length with h1 | h1
    · exact hmin _ (h.pend _ (Nat.le_refl _) h1)
    · have:=h.lt _ (List.getElem_mem hi); omega
  unfold Abs.take
  rw [if_neg (by rw [hat]; simp),RC hi,if_neg (by omega)]
  simp only [Int.toNat_natCast]
  split <;> simp only [List.length_eraseIdx,hi,if_true] <;> omega
theorem AaP (h0:s.row=[]) (k:Int):((s.take k).2.2.2=s)∧(s.take k).2.1=false:=by
  have:s.at k≠0:=by
    unfold Abs.at
    rw [h0]
    split
    · simp
    · rw [if_pos (by simp; omega)]; simp
  unfold Abs.take
  rw [if_pos this]
  exact ⟨rfl,rfl⟩
end Go.Proofs.YtbohadngdkjljaaGreat
