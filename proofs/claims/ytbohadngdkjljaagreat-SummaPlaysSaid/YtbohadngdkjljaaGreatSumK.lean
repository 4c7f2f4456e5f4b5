import Derived.Test.YtbohadngdkjljaaGreatSumE
namespace Go.Proofs.YtbohadngdkjljaaGreat
open Go Go.Fw
set_option linter.unusedVariables false
set_option linter.unusedSimpArgs false
variable {c:SK} {m:MS} {s:Abs} {N:Nat} {o0:A1} {o1 o1x:A2} {o2:A6}
structure Live (c:SK) (N:Nat) (m:MS):Prop where
 bx:∀ f t,f<c.n→t<c.n→BInv (m.bx f t)
 totN:KZ c m+aB c m=N
theorem Live.setB (h:Live c N m) {f t:Nat} {a:Abs} (G:f<c.n) (J:t<c.n) (D:BInv a) (O:a.fs=(m.bx f t).fs):Live c N (DL m f t a):=by
 refine ⟨fun i j hi U=>?_,?_⟩
 · by_cases e:i=f∧j=t
   · simpa [DL,e] using D
   · simpa [DL,e] using h.bx i j hi U
 · have:=YE (c:=c) (m:=m) (a:=a) G J
   rw [O] at this
   have:=h.totN
   rw [bX]; omega
theorem Live.doubled (h:Live c N m) {f t:Nat} (D:f<c.n) (G:t<c.n) (k:Int):Live c N (m.double f t k).2:=by
 refine h.setB D G ((h.bx f t D G).double k) ?_ <;> (unfold Abs.double; split <;> (try split) <;> rfl)
theorem Live.moved (h:Live c N m) {f t:Nat} (D:f<c.n) (G:t<c.n) (k:Int):Live c N (m.move f t k).2:=by
 refine h.setB D G ((h.bx f t D G).move k) ?_ <;> (unfold Abs.move; split <;> rfl)
theorem uD {k t:Nat} {f:AO} {r:List AO} (G:(m.w k).out=f :: r) (D:f.To=(t:Int)) (h:(m.bx k t).fullB=false) :
  m.send c k=(true,EX (DL m k t { m.bx k t with row:=(m.bx k t).row++[(m.bx k t).fs.length],fs:=(m.bx k t).fs++[{ f with Seq:=(m.bx k t).fs.length }] }) k { m.w k with out:=r }):=by
 have e:f.To.toNat=t:=by omega
 unfold MS.send
 rw [G]
 show (if ((m.bx k f.To.toNat).send f).1=0 then _ else _)=_
 rw [e,U1 f h,if_pos rfl]
theorem AbN {k t:Nat} {f:AO} {r:List AO} (G:(m.w k).out=f :: r) (D:f.To=(t:Int)) (h:(m.bx k t).fullB=true):m.send c k=(false,m):=by
 have e:f.To.toNat=t:=by omega
 unfold MS.send
 rw [G]
 show (if ((m.bx k f.To.toNat).send f).1=0 then _ else _)=_
 rw [e]
 unfold Abs.send
 rw [if_pos h]
 rfl
theorem zW {k:Nat} (h:(m.w k).out=[]):m.send c k=(false,m):=by unfold MS.send; rw [h]
theorem rU (g:Good c m) {k:Nat} (hk:k<c.n):m.send c k=(false,m)∨∃ (t:Nat) (f:AO) (r:List AO),t<c.n∧(m.w k).out=f :: r∧f.To=(t:Int)∧(m.bx k t).fullB=false:=by
 cases ho:(m.w k).out with
 | nil=>exact .inl (zW ho)
 | cons f r=>
  obtain ⟨t,s,D,hs,h,_⟩:=g.out k hk f (by rw [ho]; exact List.mem_cons_self)
  cases hf:(m.bx k t).fullB with
  | true=>exact .inl (AbN ho h hf)
  | false=>exact .inr ⟨t,f,r,D,rfl,h,hf⟩
theorem Live.sent (h:Live c N m) (g:Good c m) {k:Nat} (hk:k<c.n):Live c N (m.send c k).2:=by
 rcases rU g hk with e | ⟨t,f,r,V,U,J,D⟩
 · rw [e]; exact h
 · rw [uD U J D]
   have Y:=h.bx k t hk V
   have G:=Y.send f
   rw [U1 f D] at G
   refine ⟨fun i j hi Z=>?_,?_⟩
   · by_cases e:i=k∧j=t
     · obtain ⟨rfl,rfl⟩:=e; simpa [EX,DL] using G
     · simpa [EX,DL,e] using h.bx i j hi Z
   · have W:=YE (c:=c) (m:=m) (a:={ m.bx k t with row:=(m.bx k t).row++[(m.bx k t).fs.length],fs:=(m.bx k t).fs++[{ f with Seq:=(m.bx k t).fs.length }] }) hk V
     have O:=jW (c:=c) (m:=DL m k t { m.bx k t with row:=(m.bx k t).row++[(m.bx k t).fs.length],fs:=(m.bx k t).fs++[{ f with Seq:=(m.bx k t).fs.length }] }) (a:={ m.w k with out:=r }) hk
     rw [bX] at O
     have e:((DL m k t { m.bx k t with row:=(m.bx k t).row++[(m.bx k t).fs.length],fs:=(m.bx k t).fs++[{ f with Seq:=(m.bx k t).fs.length }] }).w k).out.length=r.length+1:=by show (m.w k).out.length=_; rw [U]; rfl
     rw [e] at O
     simp only [List.length_append,List.length_singleton] at W
     have:=h.totN
     dsimp only at W O ⊢
     rw [fQ]
     omega
theorem vV (h:BInv s) {k:Int} (D:(s.take k).2.1=true):∃ hi:s.taken<s.fs.length,(s.take k).1=s.fs[s.taken]:=by
 unfold Abs.take at D ⊢
 split at D
 · cases D
 · rename_i V
   have G:s.at k=0:=by simpa using V
   obtain ⟨i,rfl,hi⟩:=LL G
   rw [N2 hi] at D ⊢
   rw [if_neg (by rw [G]; simp)]
   have U:=h.lt _ (List.getElem_mem hi)
   split at D
   · cases D
   · split at D
     · cases D
     · rename_i O J
       have e:s.row[i]=s.taken:=by omega
       rw [if_neg O,if_neg J]
       refine ⟨by omega,?_⟩
       simp [e,show s.taken<s.fs.length by omega]
theorem Live.handed (h:Live c N m) (g:Good c m) {f t:Nat} (W:f<c.n) (G:t<c.n) (k:Int):Live c N (m.hand c f t k).2:=by
 have Z:=h.bx f t W G
 have D:=uC (m.bx f t) k
 unfold MS.hand
 split
 · rename_i e
   generalize hm2:(EX (DL m f t ((m.bx f t).take k).2.2.2) t (YD c.S.length (U0 (m.w t) ((m.bx f t).take k).1)))=m2
   have J:∀ i j,¬(i=f∧j=t)→m2.bx i j=m.bx i j:=fun i j V=>by rw [←hm2]; simp [EX,DL,V]
   have Y:m2.bx f t=((m.bx f t).take k).2.2.2:=by rw [←hm2]; simp [EX,DL]
   refine ⟨fun i j U hj=>?_,?_⟩
   · by_cases e':i=f∧j=t
     · obtain ⟨rfl,rfl⟩:=e'; rw [Y]; exact Z.take k
     · rw [J i j e']; exact h.bx i j U hj
   · have h1:=YE (c:=c) (m:=m) (a:=((m.bx f t).take k).2.2.2) W G
     rw [D.1] at h1
     have O:=jW (c:=c) (m:=DL m f t ((m.bx f t).take k).2.2.2) (a:=YD c.S.length (U0 (m.w t) ((m.bx f t).take k).1)) G
     rw [bX] at O
     have e2:(YD c.S.length (U0 (m.w t) ((m.bx f t).take k).1)).out=(m.w t).out:=by simp [YD,pB]
     rw [e2] at O
     have e3:((DL m f t ((m.bx f t).take k).2.2.2).w t).out=(m.w t).out:=rfl
     rw [e3] at O
     have:=h.totN
     rw [←hm2,fQ]
     show KZ c (DL m f t ((m.bx f t).take k).2.2.2)+aB c (EX (DL m f t ((m.bx f t).take k).2.2.2) t (YD c.S.length (U0 (m.w t) ((m.bx f t).take k).1)))=N
     omega
 · rename_i e
   exact h.setB W G (Z.take k) D.1
theorem vW (m:MS) (f t:Nat):DL m f t (m.bx f t)=m:=by
 unfold DL
 congr 1
 funext i j
 split
 · rename_i h; rw [h.1,h.2]
 · rfl
theorem Live.sends (h:Live c N m) (D:VL c) (g:Good c m):∀ k,k≤c.n→Live c N (m.sends c k).2
 | 0,_=>h
 | k+1,hk=>(Live.sends h D g k (by omega)).sent (g.sends D k (by omega)) (by omega)
theorem Live.hands1 {x:Bool×MS} (h:Live c N x.2) (g:Good c x.2) {f:Nat} (D:f<c.n):∀ k,k≤c.n→Live c N (hands1 c f x k).2
 | 0,_=>h
 | k+1,hk=>(Live.hands1 h g D k (by omega)).handed (Good.hands1 g f k) D (by omega) _
theorem Live.hands {x:Bool×MS} (h:Live c N x.2) (g:Good c x.2):∀ k,k≤c.n→Live c N (hands c x k).2
 | 0,_=>h
 | k+1,hk=>Live.hands1 (Live.hands h g k (by omega)) (Good.hands g k) (by omega) c.n (Nat.le_refl _)
theorem Live.window (h:Live c N m) (D:VL c) (g:Good c m):Live c N (m.window c).2:=Live.hands (h.sends D g c.n (Nat.le_refl _)) (g.sends D c.n (Nat.le_refl _)) c.n (Nat.le_refl _)
theorem Live.acted (h:Live c N m) (J:VL c) (g:Good c m) (x:FP):Live c N (m.act c x).2:=by
 unfold MS.act
 split
 · exact h
 · split
   · split
     · rename_i hi; exact h.sent g (by have:=hi.2; have:=hi.1; omega)
     · exact h
   · split
     · exact h.window J g
     · split
       · rename_i hi
         have D:x.A.toNat<c.n:=by have:=hi.1.2; have:=hi.1.1; omega
         have G:x.B.toNat<c.n:=by have:=hi.2.2; have:=hi.2.1; omega
         split
         · exact h.handed g D G _
         · split
           · exact h.doubled D G _
           · exact h.moved D G _
       · exact h
def MS.ended (c:SK) (m:MS):Bool:=(List.range c.n).all fun k=>decide ((m.w k).at_=c.S.length)
theorem T4:m.ended c=true↔∀ k,k<c.n→(m.w k).at_=c.S.length:=by simp [MS.ended,List.all_eq_true]
def hZ (c:SK):Nat→MS→MS
 | 0,m=>m
 | j+1,m=>if m.ended c=true then m else hZ c j (m.window c).2
theorem aC (V:VL c) (h:Rep c m o0 o1 o2) {Q:Bool→Prop} (G:Q (m.ended c)):BW o0 o1 Q:=by
 have hn:=V.n
 unfold BW CI CO
 refine D7 c.n (by omega) (fun i=>∀ k,k<i→(m.w k).at_=c.S.length) (fun k hk=>by omega) (fun i next hi J D=>?_) (fun next J=>?_)
 · show AD (decide ((i:Int)<(o0.workers.length:Int))) _ _
   rw [h.len]
   refine AY (by simp; omega) (A9 (by omega) (h.get hi) ?_)
   obtain ⟨x,Y,O⟩:=h.wk i hi
   unfold G5
   refine D4 Y ?_
   rw [O.at_,h.S]
   have:=O.le
   refine A0 (fun W=>?_) (fun U=>?_)
   · have e:m.ended c=false:=by
      cases hE:m.ended c with
      | false=>rfl
      | true=>have:=T4.1 hE i hi; omega
     rw [e] at G
     have:decide (0≤(i:Int))=true:=by simp
     show Q (!decide (0≤(i:Int)))
     rw [this]; exact G
   · exact D fun k hk=>by
      by_cases ek:k=i
      · subst ek; omega
      · exact J k (by omega)
 · show AD (decide ((c.n:Int)<(o0.workers.length:Int))) _ _
   rw [h.len]
   refine AC (by simp) ?_
   have e:m.ended c=true:=T4.2 J
   rw [e] at G
   exact G
theorem pD (h:Rep c m o0 o1 o2) {k:Nat} (hk:k<c.n) {Q:Int→Prop} (D:Q ((m.w k).at_:Int)):CS o0 o1 k Q:=by
 unfold CS
 refine YC h (AC (by simp; omega) (A9 (by omega) (h.get hk) ?_))
 obtain ⟨x,J,G⟩:=h.wk k hk
 refine D4 J ?_
 rw [G.at_]; exact D
theorem uE (V:VL c) (h:Rep c m o0 o1 o2) {f t:Nat} (Z:f<c.n) (ht:t<c.n) {Q:(Int×A1×A6)→Prop}
  (Y:∀ D G,Rep c m D o1 G→Ext o0 D→Q (((m.bx f t).row.length:Int),D,G)):D6 o0 o1x o2 f t Q:=by
 unfold D6
 refine fP V h Z ht fun b pb D G W J O U hi=>?_
 unfold EM
 rw [FC,JD U]
 exact rR hi (Y _ _ W J)
structure Data where
 r:Int
 n:Int
 k:Int
 q:Int
 A:List A3
 B:List A3
 M:List A3
 R:Nat
 C:Nat
 room:Nat
 S:List AX
def Data.p (d:Data):CH:={ Ring:=d.r,A:=B0 d.n d.k d.A,B:=B0 d.k d.q d.B,Mask:=B0 d.n d.q d.M,R:=(d.R:Int),C:=(d.C:Int),Room:=(d.room:Int) }
def BJ (S:List AX):Nat→Int
 | 0=>0
 | s+1=>(S.getD s default).To
structure zX (d:Data):Prop where
 len:d.S.length+1≤d.R+d.C
 row:∀ s (h:s<d.S.length),0≤d.S[s].Row∧d.S[s].Row<d.R
 col:∀ s (h:s<d.S.length),0≤d.S[s].Col∧d.S[s].Col<d.C
 lo:∀ s (h:s<d.S.length),d.S[s].From=BJ d.S s∧d.S[s].From≤d.S[s].To∧d.S[s].To≤d.k
 top:BJ d.S d.S.length=d.k
structure SM (d:Data):Prop where
 r:1≤d.r∧d.r≤5
 cA:Canon d.n d.k d.A
 cB:Canon d.k d.q d.B
 cM:Canon d.n d.q d.M
 vA:∀ t∈d.A,GN t.Val
 vB:∀ t∈d.B,GN t.Val
 vM:∀ t∈d.M,GN t.Val
 R:1≤d.R∧d.R≤8
 C:1≤d.C∧d.C≤8
 room:1≤d.room∧d.room≤64
 seg:zX d
variable {d:Data}
def Data.rl (d:Data) (i:Nat):Int:=BS d.n d.R i
def Data.cl (d:Data) (j:Nat):Int:=BS d.q d.C j
theorem aD (h:SM d) (i:Nat):0≤d.rl i∧d.rl i≤d.rl (i+1)∧d.rl (i+1)≤d.n:=⟨jB.1,MZ (by omega),jB.2 h.cA.r0⟩
theorem aF (h:SM d) (j:Nat):0≤d.cl j∧d.cl j≤d.cl (j+1)∧d.cl (j+1)≤d.q:=⟨jB.1,MZ (by omega),jB.2 h.cB.c0⟩
theorem aG (h:SM d):∀ s,s≤d.S.length→0≤BJ d.S s∧BJ d.S s≤d.k
 | 0,_=>⟨Int.le_refl _,h.cA.c0⟩
 | s+1,hs=>by
  have h1:=aG h s (by omega)
  have h2:=h.seg.lo s (by omega)
  have e:BJ d.S (s+1)=d.S[s].To:=by
   show (d.S.getD s default).To=_
   simp [List.getD_eq_getElem?_getD,show s<d.S.length by omega]
  rw [e]; omega
theorem U2 {s:Nat} (h:s<d.S.length):BJ d.S (s+1)=d.S[s].To:=by
 show (d.S.getD s default).To=_
 simp [List.getD_eq_getElem?_getD,h]
def VO (d:Data) (i:Nat) (a b:Int):List A3:=HI (d.rl i) (d.rl (i+1)) a b d.A
def X3 (d:Data) (j:Nat) (a b:Int):List A3:=HI a b (d.cl j) (d.cl (j+1)) d.B
def jX (d:Data) (i j:Nat):List A3:=HI (d.rl i) (d.rl (i+1)) (d.cl j) (d.cl (j+1)) d.M
def IV (d:Data) (i j:Nat) (t:Nat):List AB:=FT d.r (VO d i 0 (BJ d.S t)) (X3 d j 0 (BJ d.S t)) (jX d i j)
def Data.ctx (d:Data) (adr:Nat→Nat):SK where
 p:=d.p
 S:=d.S
 n:=d.R*d.C
 adr:=adr
 wi:=fun k=>((k / d.C:Nat):Int)
 wj:=fun k=>((k % d.C:Nat):Int)
 mask:=fun k=>B0 (d.rl (k / d.C+1) - d.rl (k / d.C)) (d.cl (k % d.C+1) - d.cl (k % d.C)) (jX d (k / d.C) (k % d.C))
 room:=d.room
 LA:=fun k s=>VO d (k / d.C) (BJ d.S s) (BJ d.S (s+1))
 RB:=fun k s=>X3 d (k % d.C) (BJ d.S s) (BJ d.S (s+1))
 has:=fun k t=>IV d (k / d.C) (k % d.C) t
theorem jY (h:SM d) (i j:Nat) {a b:Int} (V:0≤a) (h1:a≤b) (h2:b≤d.k) (k:HO) :
   EE d.r k (FT d.r (VO d i 0 b) (X3 d j 0 b) (jX d i j))=dJ d.r (EE d.r k (FT d.r (VO d i 0 a) (X3 d j 0 a) (jX d i j))) (EE d.r k (FT d.r (VO d i a b) (X3 d j a b) (jX d i j))):=by
 have J:=aD h i
 have G:=aF h j
 obtain ⟨_,cA0,U⟩:=DO h.cA (l:=d.rl i) (u:=d.rl (i+1)) (c:=0) (d:=b) J.1 J.2.1 J.2.2 (by omega) (by omega) h2
 obtain ⟨_,Z,lA1⟩:=DO h.cA (l:=d.rl i) (u:=d.rl (i+1)) (c:=0) (d:=a) J.1 J.2.1 J.2.2 (by omega) V (by omega)
 obtain ⟨_,cA2,lA2⟩:=DO h.cA (l:=d.rl i) (u:=d.rl (i+1)) (c:=a) (d:=b) J.1 J.2.1 J.2.2 V h1 h2
 obtain ⟨_,cB0,O⟩:=DO h.cB (l:=0) (u:=b) (c:=d.cl j) (d:=d.cl (j+1)) (by omega) (by omega) h2 G.1 G.2.1 G.2.2
 obtain ⟨_,cB1,Y⟩:=DO h.cB (l:=0) (u:=a) (c:=d.cl j) (d:=d.cl (j+1)) (by omega) V (by omega) G.1 G.2.1 G.2.2
 obtain ⟨_,cB2,lB2⟩:=DO h.cB (l:=a) (u:=b) (c:=d.cl j) (d:=d.cl (j+1)) V h1 h2 G.1 G.2.1 G.2.2
 obtain ⟨_,W,_⟩:=DO h.cM (l:=d.rl i) (u:=d.rl (i+1)) (c:=d.cl j) (d:=d.cl (j+1)) J.1 J.2.1 J.2.2 G.1 G.2.1 G.2.2
 simp only [Int.sub_zero,Int.add_zero] at cA0 U Z lA1 cB0 O cB1 Y
 refine iZ W.srt fun t ht=>?_
 have D:=W.inn t ht
 unfold RC at D
 unfold VO X3
 rw [SY cA0 D.1,SY Z D.1,SY cA2 D.1,show b.toNat=a.toNat+(b - a).toNat by omega,oI]
 congr 1
 · refine Y9 (fun x hx=>?_) (fun x hx=>?_)
   · rw [U _ _ D.1 D.2.1 (by omega) (by omega),lA1 _ _ D.1 D.2.1 (by omega) (by omega)]
   · unfold gU
     rw [O _ _ (by omega) (by omega) D.2.2.1 D.2.2.2,Y _ _ (by omega) (by omega) D.2.2.1 D.2.2.2]
 · refine Y9 (fun x hx=>?_) (fun x hx=>?_)
   · rw [Int.toNat_of_nonneg V,U _ _ D.1 D.2.1 (by omega) (by omega),lA2 _ _ D.1 D.2.1 (by omega) (by omega)]
   · unfold gU
     rw [Int.toNat_of_nonneg V,O _ _ (by omega) (by omega) D.2.2.1 D.2.2.2,lB2 _ _ (by omega) (by omega) D.2.2.1 D.2.2.2]
theorem zY (h:SM d) (adr:Nat→Nat):Rk (d.ctx adr):=by
 intro w s hs hw Q hQ
 have Z:s<d.S.length:=hs
 have Y:=aD h (w / d.C)
 have G:=aF h (w % d.C)
 have hl:=h.seg.lo s Z
 have hb:=aG h s (by omega)
 have he:=U2 (d:=d) Z
 obtain ⟨_,J,_⟩:=DO h.cA (l:=d.rl (w / d.C)) (u:=d.rl (w / d.C+1)) (c:=BJ d.S s) (d:=BJ d.S (s+1)) Y.1 Y.2.1 Y.2.2 hb.1 (by omega) (by omega)
 obtain ⟨_,V,_⟩:=DO h.cB (l:=BJ d.S s) (u:=BJ d.S (s+1)) (c:=d.cl (w % d.C)) (d:=d.cl (w % d.C+1)) hb.1 (by omega) (by omega) G.1 G.2.1 G.2.2
 obtain ⟨_,D,_⟩:=DO h.cM (l:=d.rl (w / d.C)) (u:=d.rl (w / d.C+1)) (c:=d.cl (w % d.C)) (d:=d.cl (w % d.C+1)) Y.1 Y.2.1 Y.2.2 G.1 G.2.1 G.2.2
 have hk:=h.cA.c1
 have e1:A7 (d.S[s].To - d.S[s].From)=BJ d.S (s+1) - BJ d.S s:=by rw [AJ (by omega) (by omega)]; omega
 show QC d.r (d.rl (w / d.C+1) - d.rl (w / d.C)) (A7 (d.S[s].To - d.S[s].From)) (VO d (w / d.C) (BJ d.S s) (BJ d.S (s+1))) _
 have W:=ZO (l:=d.rl (w / d.C)) (u:=d.rl (w / d.C+1)) (c:=BJ d.S s) (d:=BJ d.S (s+1)) h.vA
 have O:=ZO (l:=BJ d.S s) (u:=BJ d.S (s+1)) (c:=d.cl (w % d.C)) (d:=d.cl (w % d.C+1)) h.vB
 rw [e1]
 refine xS (by have:=J.len; unfold VO; omega) W ?_
 show QC d.r (A7 (d.S[s].To - d.S[s].From)) (d.cl (w % d.C+1) - d.cl (w % d.C)) (X3 d (w % d.C) (BJ d.S s) (BJ d.S (s+1))) _
 rw [e1]
 refine xS (by have:=V.len; unfold X3; omega) O ?_
 unfold VO X3
 rw [WP J W h.r,WP V O h.r]
 refine gV J V D W O ?_
 have hrr:=h.r
 unfold bN
 rw [if_neg (by show ¬ ¬(1≤d.r∧d.r≤5); omega),if_neg (by omega)]
 show NK d.r [IV d (w / d.C) (w % d.C) s,FT d.r (VO d (w / d.C) (BJ d.S s) (BJ d.S (s+1))) (X3 d (w % d.C) (BJ d.S s) (BJ d.S (s+1))) (jX d (w / d.C) (w % d.C))] _
 obtain ⟨s0,o0,z0⟩:=NV (r:=d.r) (A:=VO d (w / d.C) 0 (BJ d.S (s+1))) (B:=X3 d (w % d.C) 0 (BJ d.S (s+1))) D
 obtain ⟨s1,o1,z1⟩:=NV (r:=d.r) (A:=VO d (w / d.C) 0 (BJ d.S s)) (B:=X3 d (w % d.C) 0 (BJ d.S s)) D
 obtain ⟨s2,o2,z2⟩:=NV (r:=d.r) (A:=VO d (w / d.C) (BJ d.S s) (BJ d.S (s+1))) (B:=X3 d (w % d.C) (BJ d.S s) (BJ d.S (s+1))) D
 have U:∀ (x y:List AB),([x,y]:List (List AB)).flatten=x++y:=fun x y=>by simp
 refine gZ (by simp) (by rw [U,List.length_append]; unfold IV jX; omega) (by rw [U]; exact fun c G=>(List.mem_append.1 G).elim (o1 c) (o2 c)) (fun h'=>absurd hrr h') (fun _ h'=>absurd (fun l hl=>?_) h') (fun _ _ x hs ho hsl he'=>?_)
 · simp only [List.mem_cons,List.not_mem_nil,or_false] at hl
   rcases hl with rfl | rfl
   · exact s1
   · exact s2
 · have hall:x=IV d (w / d.C) (w % d.C) (s+1):=fH (r:=d.r) hs s0 fun key=>by
     rw [he',U]
     exact (FK o1 o2).trans (jY h (w / d.C) (w % d.C) hb.1 (by omega) (by omega) key).symm
   subst hall
   exact hQ
open Go Go.Fw Go.Sort
variable {d:Data}
def shC (a b:Int) (x:AB):AB:=⟨x.Row+a,x.Col+b,x.Val⟩
def bkC (d:Data) (i j:Nat):List AB:=(IV d i j d.S.length).map (shC (d.rl i) (d.cl j))
def iA (d:Data):List AB:=FT d.r d.A d.B d.M
theorem rV (h:SM d) (i j:Nat) {t:A3} (Z:t∈jX d i j):KY d.r (VO d i 0 d.k) (X3 d j 0 d.k) t.Row t.Col=KY d.r d.A d.B (t.Row+d.rl i) (t.Col+d.cl j):=by
 have J:=aD h i
 have G:=aF h j
 obtain ⟨_,U,V⟩:=DO h.cA (l:=d.rl i) (u:=d.rl (i+1)) (c:=0) (d:=d.k) J.1 J.2.1 J.2.2 (by omega) h.cA.c0 (by omega)
 obtain ⟨_,Y,O⟩:=DO h.cB (l:=0) (u:=d.k) (c:=d.cl j) (d:=d.cl (j+1)) (by omega) h.cA.c0 (by omega) G.1 G.2.1 G.2.2
 obtain ⟨_,W,_⟩:=DO h.cM (l:=d.rl i) (u:=d.rl (i+1)) (c:=d.cl j) (d:=d.cl (j+1)) J.1 J.2.1 J.2.2 G.1 G.2.1 G.2.2
 simp only [Int.sub_zero,Int.add_zero] at U V Y O
 have D:=W.inn t Z
 unfold RC at D
 unfold VO X3
 rw [SY U D.1,SY h.cA (by omega)]
 refine Y9 (fun x hx=>?_) (fun x hx=>?_)
 · rw [V _ _ D.1 D.2.1 (by omega) (by omega)]
 · unfold gU
   rw [O _ _ (by omega) (by omega) D.2.2.1 D.2.2.2]
theorem Ad4 (h:SM d) (i j:Nat):bkC d i j=((jX d i j).map (shT (d.rl i) (d.cl j))).filterMap (G4 d.r d.A d.B):=by
 unfold bkC IV FT
 rw [h.seg.top,List.map_filterMap,List.filterMap_map]
 refine V9 fun t D=>?_
 have:=rV h i j D
 simp only [Function.comp_apply,G4,shT]
 rw [this]
 cases KY d.r d.A d.B (t.Row+d.rl i) (t.Col+d.cl j) <;> simp [shC]
theorem mC (h:SM d):((List.range (d.R*d.C)).flatMap fun k=>bkC d (k / d.C) (k % d.C)).Perm (iA d):=by
 have hC:=h.C
 rw [bT (by omega) (fun i j=>bkC d i j)]
 have e:((List.range d.R).flatMap fun i=>(List.range d.C).flatMap fun j=>bkC d i j)=(((List.range d.R).flatMap fun i:Nat=>(List.range d.C).flatMap fun j:Nat=>(jX d i j).map (shT (d.rl i) (d.cl j))).filterMap (G4 d.r d.A d.B)):=by
  rw [List.filterMap_flatMap]
  refine N0 fun i _=>?_
  rw [List.filterMap_flatMap]
  exact N0 fun j _=>Ad4 h i j
 rw [e]
 refine List.Perm.filterMap _ ?_
 have hp:PE d.n (d.R:Int):=⟨⟨h.cM.r0,h.cM.r1⟩,by have:=h.R; omega⟩
 have D:PE d.q (d.C:Int):=⟨⟨h.cM.c0,h.cM.c1⟩,by have:=h.C; omega⟩
 exact cS h.cM hp D
def cfC (x y:AB):Int:=uV (QJ x.Row y.Row) (QJ x.Col y.Col)
theorem mD (x y:AB):cfC x y<0↔MF (x.Row,x.Col) (y.Row,y.Col):=RV x y
theorem AbO:SWO (ltOf cfC) where
 irrefl x:=by unfold ltOf; simp only [mD]; simp [MF]
 trans x y z h1 h2:=by unfold ltOf at *; simp only [mD,decide_eq_true_eq] at *; exact IM h1 h2
 ntrans x y z h1 h2:=by unfold ltOf at *; simp only [mD,decide_eq_false_iff_not,MF] at *; omega
variable {adr:Nat→Nat} {m:MS} {o0:A1} {o1:A2} {o2:A6}
theorem zZ (h:SM d):cQ d.n d.q (iA d):=dW (r:=d.r) (ra:=0) (ca:=0) (rb:=0) (cb:=0) (A:=d.A) (B:=d.B) h.cM
theorem vX {x y:AB} {Q:Int→Prop} (h:Q (cfC x y)):G2 x y Q:=by
 unfold G2
 exact H0 (H0 (iS h))
def T5 (d:Data) (m:MS) (n:Nat):List AB:=(List.range n).flatMap fun k=>(IV d (k / d.C) (k % d.C) (m.w k).at_).map (shC (d.rl (k / d.C)) (d.cl (k % d.C)))
theorem fR (h:SM d) (i j t:Nat):(IV d i j t).length≤65536∧∀ x∈IV d i j t,0≤x.Row∧x.Row≤4096∧0≤x.Col∧x.Col≤4096:=by
 have J:=aD h i
 have G:=aF h j
 obtain ⟨_,D,_⟩:=DO h.cM (l:=d.rl i) (u:=d.rl (i+1)) (c:=d.cl j) (d:=d.cl (j+1)) J.1 J.2.1 J.2.2 G.1 G.2.1 G.2.2
 have O:=dW (r:=d.r) (ra:=0) (ca:=0) (rb:=0) (cb:=0) (A:=VO d i 0 (BJ d.S t)) (B:=X3 d j 0 (BJ d.S t)) D
 refine ⟨O.len,fun x U=>?_⟩
 have:=O.inn x U
 have h1:=h.cM.r1
 have h2:=h.cM.c1
 omega
theorem fS (h:SM d) (m:MS):∀ n:Nat,(T5 d m n).length≤n*65536
 | 0=>by simp [T5]
 | n+1=>by
  have:=fS h m n
  have:=(fR h (n / d.C) (n % d.C) (m.w n).at_).1
  unfold T5 at *
  rw [List.range_succ,List.flatMap_append,List.length_append,List.flatMap_singleton,List.length_map]
  omega
theorem Aa0 (h:SM d) {adr:Nat→Nat} (he:m.ended (d.ctx adr)=true):(T5 d m (d.R*d.C)).Perm (iA d):=by
 have:T5 d m (d.R*d.C)=(List.range (d.R*d.C)).flatMap fun k=>bkC d (k / d.C) (k % d.C):=N0 fun k hk=>by
  rw [T4.1 he k (List.mem_range.1 hk)]; rfl
 rw [this]
 exact mC h
theorem bZ (h:SM d) (U:Rep (d.ctx adr) m o0 o1 o2) (W:List AB) (hp:(T5 d m (d.R*d.C)).Perm W) (hz:W.Pairwise SJ) {Q:List AB→Prop} (hQ:Q W):DB o0 o1 Q:=by
 have hR:=h.R
 have hC:=h.C
 have hn:d.R*d.C≤64:=Nat.mul_le_mul hR.2 hC.2
 have hn1:=h.cM.r1
 have hq1:=h.cM.c1
 unfold DB
 have D:o0.workers.length=d.R*d.C:=U.len
 refine BT (fun j (x:List AB×Int)=>∃ k:Nat,x=(T5 d m k,(k:Int))∧k+j=d.R*d.C) (m0:=d.R*d.C) ⟨0,rfl,by omega⟩ ?_
 rintro j _ next ⟨k,rfl,hkj⟩ hnext
 show AD (decide ((k:Int)<(o0.workers.length:Int))) _ _
 rw [D]
 refine A0 (fun hk=>?_) (fun hk=>?_)
 · have O:k<(d.ctx adr).n:=by show k<d.R*d.C; omega
   obtain ⟨x,hx,hw⟩:=U.wk k O
   refine A9 (by omega) (U.get O) (D4 hx ?_)
   rw [U.p,hw.i,hw.j]
   show FL d.n (d.R:Int) ((k / d.C:Nat):Int) _
   refine HW ?_
   show FL d.q (d.C:Int) ((k % d.C:Nat):Int) _
   refine HW (D4 hx ?_)
   have J:x.has=IV d (k / d.C) (k % d.C) (m.w k).at_:=hw.has
   rw [J]
   obtain ⟨hl,hin⟩:=fR h (k / d.C) (k % d.C) (m.w k).at_
   have hbase:=fS h m k
   have b1:=aD h (k / d.C)
   have b2:=aF h (k % d.C)
   refine BT (fun j (y:List AB×Int)=>∃ i:Nat,y=(T5 d m k++((IV d (k / d.C) (k % d.C) (m.w k).at_).take i).map (shC (d.rl (k / d.C)) (d.cl (k % d.C))),(i:Int))∧i+j=(IV d (k / d.C) (k % d.C) (m.w k).at_).length) (m0:=(IV d (k / d.C) (k % d.C) (m.w k).at_).length) ⟨0,by simp,by omega⟩ ?_
   rintro j2 _ V ⟨i,rfl,hij⟩ hnext2
   show AD (decide ((i:Int)<((IV d (k / d.C) (k % d.C) (m.w k).at_).length:Int))) _ _
   refine A0 (fun hi=>?_) (fun hi=>?_)
   · have G:i<(IV d (k / d.C) (k % d.C) (m.w k).at_).length:=by omega
     refine AK G (AR ?_ ?_)
     · simp only [List.length_append,List.length_map,List.length_take,List.length_singleton]; omega
     · have hx':=hin _ (List.getElem_mem G)
       have e1:A7 ((IV d (k / d.C) (k % d.C) (m.w k).at_)[i].Row+BS d.n (d.R:Int) ((k / d.C:Nat):Int))=(IV d (k / d.C) (k % d.C) (m.w k).at_)[i].Row+d.rl (k / d.C):=by
        show A7 (_+d.rl (k / d.C))=_
        rw [AJ (by omega) (by omega)]
       have e2:A7 ((IV d (k / d.C) (k % d.C) (m.w k).at_)[i].Col+BS d.q (d.C:Int) ((k % d.C:Nat):Int))=(IV d (k / d.C) (k % d.C) (m.w k).at_)[i].Col+d.cl (k % d.C):=by
        show A7 (_+d.cl (k % d.C))=_
        rw [AJ (by omega) (by omega)]
       rw [e1,e2]
       refine hnext2 (j2 - 1) _ (by omega) ⟨i+1,?_,by omega⟩
       rw [AJ (by omega) (by omega),List.take_succ_eq_append_getElem G,List.map_append,List.append_assoc]
       simp [shC]
   · have hie:i=(IV d (k / d.C) (k % d.C) (m.w k).at_).length:=by omega
     subst hie
     refine hnext (j - 1) _ (by omega) ⟨k+1,?_,by omega⟩
     rw [AJ (by omega) (by omega),List.take_length]
     unfold T5
     rw [List.range_succ,List.flatMap_append,List.flatMap_singleton]
     simp
 · have Z:k=d.R*d.C:=by omega
   subst Z
   have D:=fS h m (d.R*d.C)
   refine tB cfC (fun x y Q hq=>vX hq) AbO (by have:d.R*d.C*65536≤64*65536:=Nat.mul_le_mul_right _ hn; omega) hp (hz.imp fun {a b} Y=>(mD a b).2 Y) hQ
theorem pE (h:SM d) (G:Rep (d.ctx adr) m o0 o1 o2) (he:m.ended (d.ctx adr)=true) {Q:List AB→Prop} (D:Q (iA d)):DB o0 o1 Q:=
 bZ h G (iA d) (Aa0 h he) (zZ h).inc D
theorem mE (h:SM d) (D:Rep (d.ctx adr) m o0 o1 o2) (he:m.ended (d.ctx adr)=true) {Q:Rows×Int→Prop} (G:Q (QN d.r d.n d.q (iA d))):BU o0 o1 Q:=by
 unfold BU
 refine pE h D he ?_
 rw [D.p]
 exact ZL h.r ⟨⟨h.cM.r0,h.cM.r1⟩,h.cM.c0,h.cM.c1⟩ (zZ h) G
theorem uF {n k i:Int} (h:PE n k) (h0:0≤i) (h1:i≤k):BS n k i=i*n / k:=by
 unfold BS jA
 rw [if_pos h,if_neg (by omega),if_neg (by omega)]
theorem fT {n k a:Int} {Q:Int→Prop} (h:PE n k) (Y:0≤a) (h1:a<n) (hQ:∀ i,0≤i→i<k→BS n k i≤a→a<BS n k (i+1)→Q i):Z8 n k a Q:=by
 have V:=h
 unfold PE at V
 unfold Z8
 refine RX (AC (by rw [decide_eq_true h]; rfl) (AC (by simp; omega) (AC (by simp; omega) ⟨by omega,?_⟩)))
 have hk8:a*k≤a*8:=Int.mul_le_mul_of_nonneg_left V.2.2 Y
 have D:0≤a*k:=Int.mul_nonneg Y (by omega)
 have e1:A7 (a*k)=a*k:=AJ (by omega) (by omega)
 have G:0≤a*k / n:=Int.ediv_nonneg D (by omega)
 have O:a*k / n<k:=by
   refine Int.ediv_lt_of_lt_mul (by omega) ?_
   rw [Int.mul_comm k n]
   exact Int.mul_lt_mul_of_pos_right h1 (by omega)
 have U:BS n k (a*k / n)≤a:=by
   rw [uF h G (by omega)]
   refine Int.ediv_le_of_le_mul (by omega) ?_
   exact Int.ediv_mul_le _ (by omega)
 rw [e1,Int.tdiv_eq_ediv_of_nonneg D,AJ (x:=a*k / n) (by omega) (by omega)]
 refine BT (fun j (i:Int)=>0≤i∧i<k∧BS n k i≤a∧(k - i).toNat=j) (m0:=(k - a*k / n).toNat) ⟨G,O,U,rfl⟩ ?_
 rintro j i next ⟨i0,Z,i2,i3⟩ hnext
 have ew:A7 (i+1)=i+1:=AJ (by omega) (by omega)
 show FL n k (A7 (i+1)) _
 rw [ew]
 refine HW (A0 (fun J=>?_) (fun J=>hQ i i0 Z i2 (by omega)))
 refine hnext (j - 1) _ (by omega) ⟨by omega,?_,J,by omega⟩
 rcases Int.lt_or_le (i+1) k with W | W
 · exact W
 · have:i+1=k:=by omega
   rw [this,TV h] at J
   omega
structure SegSp (n:Int) (R C:Nat) (top:Int) (S:List AX):Prop where
 row:∀ s (h:s<S.length),(0≤S[s].Row∧S[s].Row<R)∧BS n R S[s].Row≤S[s].From∧S[s].To≤BS n R (S[s].Row+1)
 col:∀ s (h:s<S.length),(0≤S[s].Col∧S[s].Col<C)∧BS n C S[s].Col≤S[s].From∧S[s].To≤BS n C (S[s].Col+1)
 lo:∀ s (h:s<S.length),S[s].From=BJ S s∧S[s].From<S[s].To∧S[s].To≤n
 top:BJ S S.length=top
 adj:∀ s (h:s+1<S.length),¬(S[s].Row=S[s+1].Row∧S[s].Col=S[s+1].Col)
theorem WU (S:List AX) (x:AX):∀ s,s≤S.length→BJ (S++[x]) s=BJ S s
 | 0,_=>rfl
 | s+1,h=>by
  show ((S++[x]).getD s default).To=(S.getD s default).To
  simp [List.getD_eq_getElem?_getD,List.getElem?_append_left (show s<S.length by omega)]
theorem SegSp.snoc {n:Int} {R C:Nat} {D:Int} {S:List AX} (h:SegSp n R C D S) {t i j:Int} (Y:D<t) (V:t≤n) (hi:(0≤i∧i<R)∧BS n R i≤D∧t≤BS n R (i+1)) (Z:(0≤j∧j<C)∧BS n C j≤D∧t≤BS n C (j+1)) (W:∀ s (h:s<S.length),s+1=S.length→¬(S[s].Row=i∧S[s].Col=j)) :
   SegSp n R C t (S++[⟨D,t,i,j⟩]):=by
 have G:∀ {P:AX→Nat→Prop},(∀ s (h:s<S.length),P S[s] s)→P ⟨D,t,i,j⟩ S.length→∀ s (h:s<(S++[(⟨D,t,i,j⟩:AX)]).length),P (S++[(⟨D,t,i,j⟩:AX)])[s] s:=by
   intro P U O s J
   simp only [List.length_append,List.length_singleton] at J
   by_cases e:s<S.length
   · rw [List.getElem_append_left e]; exact U s e
   · have:s=S.length:=by omega
     subst this
     simpa using O
 refine ⟨G (P:=fun x _=>(0≤x.Row∧x.Row<R)∧BS n R x.Row≤x.From∧x.To≤BS n R (x.Row+1)) h.row hi,G (P:=fun x _=>(0≤x.Col∧x.Col<C)∧BS n C x.Col≤x.From∧x.To≤BS n C (x.Col+1)) h.col Z,G (P:=fun x s=>x.From=BJ (S++[(⟨D,t,i,j⟩:AX)]) s∧x.From<x.To∧x.To≤n) (fun s J=>?_) ⟨?_,Y,V⟩,?_,fun s J=>?_⟩
 · rw [WU S _ s (by omega)]; exact h.lo s J
 · rw [WU S _ _ (Nat.le_refl _)]; exact h.top.symm
 · simp only [List.length_append,List.length_singleton]
   show ((S++[(⟨D,t,i,j⟩:AX)]).getD S.length default).To=t
   simp [List.getD_eq_getElem?_getD]
 · simp only [List.length_append,List.length_singleton] at J
   rw [List.getElem_append_left (show s<S.length by omega)]
   by_cases e:s+1<S.length
   · rw [List.getElem_append_left e]; exact h.adj s e
   · rw [List.getElem_append_right (by omega)]
     simpa using W s (by omega) (by omega)
def NG (n:Int) (k:Nat) (i:Nat):List Int:=(List.range i).map fun x:Nat=>BS n k ((x:Int)+1)
theorem rW (n:Int) (k i:Nat):NG n k (i+1)=NG n k i++[BS n k ((i:Int)+1)]:=by unfold NG; rw [List.range_succ,List.map_append]; rfl
theorem jZ {n:Int} {k:Nat} (hk:k≤8) {pre:List Int} (hp:pre.length≤100) {h:List Int×Int→(List Int×Int→Prop)→Prop}
   (J:∀ (l:List Int) (i:Nat) next,l.length≤200→i<k→next (l++[BS n k ((i:Int)+1)],A7 ((i:Int)+1))→h (l,(i:Int)) next)
   (he:∀ next,h (pre++NG n k k,(k:Int)) next):B1 h (pre,0):=by
 refine BT (fun j (x:List Int×Int)=>∃ i:Nat,x=(pre++NG n k i,(i:Int))∧i+j=k) (m0:=k) ⟨0,by simp [NG],by omega⟩ ?_
 rintro j _ next ⟨i,rfl,D⟩ hnext
 by_cases hi:i<k
 · refine J _ i next (by simp [NG]; omega) hi ?_
   have G:A7 ((i:Int)+1)=(i:Int)+1:=AJ (by omega) (by omega)
   rw [G]
   exact hnext (j - 1) _ (by omega) ⟨i+1,by rw [rW,List.append_assoc]; simp,by omega⟩
 · have:i=k:=by omega
   subst this
   exact he next
theorem uG {n:Int} {k i:Nat} {l:List Int} {K:List Int→Prop} (hl:l.length≤200) (hi:i<k) (hk:k≤8) (h:K (l++[BS n k ((i:Int)+1)])):FL n (k:Int) (A7 ((i:Int)+1)) fun r=>ED 8 l ([r]) fun _=>K (l++[r]):=by
 rw [AJ (by omega) (by omega)]
 exact HW (AR (by simp; omega) h)
theorem pF {n:Int} {R C:Nat} (hn:0≤n∧n≤4096) (hR:1≤R∧R≤8) (hC:1≤C∧C≤8) {Q:List AX→Prop} (hQ:∀ S,SegSp n R C n S→S.length+1≤R+C→Q S):KS n (R:Int) (C:Int) Q:=by
 have hmR:PE n (R:Int):=⟨hn,by omega⟩
 have hmC:PE n (C:Int):=⟨hn,by omega⟩
 unfold KS
 refine RX (AC (by rw [decide_eq_true hmR]; rfl) (RX (AC (by rw [decide_eq_true hmC]; rfl) ?_)))
 unfold S4 OV
 refine jZ (n:=n) hR.2 (pre:=[]) (by simp) (fun l i next hl hi D=>AY (by simp; omega) (uG (K:=fun z=>next (z,A7 ((i:Int)+1))) hl hi hR.2 D)) fun next=>AC (by simp) ?_
 refine jZ (n:=n) hC.2 (by simp [NG]; omega) (fun l i next hl hi D=>AY (by simp; omega) (uG (K:=fun z=>next (z,A7 ((i:Int)+1))) hl hi hC.2 D)) fun next=>AC (by simp) ?_
 rw [List.nil_append]
 refine ⟨by simp [NG]; omega,?_⟩
 generalize hys:(NG n R R++NG n C C).mergeSort (fun x y=>decide (x≤y))=ys
 have G:ys.Perm (NG n R R++NG n C C):=by rw [←hys]; exact List.mergeSort_perm _ _
 have hlen:ys.length=R+C:=by rw [G.length_eq]; simp [NG]
 have hsort:ys.Pairwise (· ≤ ·):=by
   rw [←hys]
   have:=List.pairwise_mergeSort (le:=fun (x y:Int)=>decide (x≤y)) (fun a b c h1 h2=>by simp only [decide_eq_true_eq] at *; omega) (fun a b=>by simp only [Bool.or_eq_true,decide_eq_true_eq]; omega) (NG n R R++NG n C C)
   exact this.imp fun h=>by simpa using h
 have Y:∀ (a b:Nat) (U:a<ys.length) (hb:b<ys.length),a≤b→ys[a]≤ys[b]:=fun a b U hb hab=>by
   rcases Nat.lt_or_ge a b with J | J
   · exact List.pairwise_iff_getElem.1 hsort a b U hb J
   · have:a=b:=by omega
     subst this; omega
 have hmemR:∀ i:Int,0≤i→i<R→BS n R (i+1)∈ys:=fun i h0 h1=>by
   rw [G.mem_iff]
   refine List.mem_append.2 (.inl (List.mem_map.2 ⟨i.toNat,List.mem_range.2 (by omega),by rw [Int.toNat_of_nonneg h0]⟩))
 have hmemC:∀ i:Int,0≤i→i<C→BS n C (i+1)∈ys:=fun i h0 h1=>by
   rw [G.mem_iff]
   refine List.mem_append.2 (.inr (List.mem_map.2 ⟨i.toNat,List.mem_range.2 (by omega),by rw [Int.toNat_of_nonneg h0]⟩))
 have hb:∀ y∈ys,0≤y∧y≤n:=fun y hy=>by
   rw [G.mem_iff] at hy
   rcases List.mem_append.1 hy with hy | hy <;>
     (obtain ⟨x,_,rfl⟩:=List.mem_map.1 hy; exact ⟨jB.1,jB.2 hn.1⟩)
 -- the two last LQ are n
 have hcount:2≤ys.count n:=by
   rw [G.count_eq,List.count_append]
   have e1:BS n R (((R - 1:Nat):Int)+1)=n:=by rw [show (((R - 1:Nat):Int)+1)=(R:Int) by omega]; exact TV hmR
   have e2:BS n C (((C - 1:Nat):Int)+1)=n:=by rw [show (((C - 1:Nat):Int)+1)=(C:Int) by omega]; exact TV hmC
   have h1:n∈NG n R R:=List.mem_map.2 ⟨R - 1,List.mem_range.2 (by omega),e1⟩
   have h2:n∈NG n C C:=List.mem_map.2 ⟨C - 1,List.mem_range.2 (by omega),e2⟩
   have:=List.count_pos_iff.2 h1
   have:=List.count_pos_iff.2 h2
   omega
 have V:∀ (i:Nat) (hi:i<ys.length),R+C≤i+2→ys[i]=n:=by
   intro i hi hri
   have h1:=(hb _ (List.getElem_mem hi)).2
   rcases Int.lt_or_le ys[i] n with hlt | hge
   · exfalso
     have:(ys.drop (i+1)).length≤1:=by rw [List.length_drop]; omega
     have hc:ys.count n=(ys.take (i+1)).count n+(ys.drop (i+1)).count n:=by rw [←List.count_append,List.take_append_drop]
     have hz:(ys.take (i+1)).count n=0:=by
       rw [List.count_eq_zero]
       intro hm
       obtain ⟨a,U,hae⟩:=List.getElem_of_mem hm
       rw [List.length_take] at U
       rw [List.getElem_take] at hae
       have:=Y a i (by omega) hi (by omega)
       omega
     have:(ys.drop (i+1)).count n≤(ys.drop (i+1)).length:=List.count_le_length
     omega
   · omega
 refine BT (fun j (x:List AX×Int×Int×Int×Nat)=>∃ (i:Nat) (S:List AX) (l:Int),x=(S,l,l,(i:Int),0)∧i+j=R+C∧SegSp n R C l S∧S.length≤i∧S.length+1≤R+C∧(∀ (a:Nat) (U:a<ys.length),a<i→ys[a]≤l)∧(0≤l∧l≤n)∧(∀ (a:Nat) (U:a<ys.length),a+1=i→ys[a]=l)∧(S=[]∨l∈ys)) (m0:=R+C)
   ⟨0,[],0,rfl,by omega,⟨fun s h=>by simp at h,fun s h=>by simp at h,fun s h=>by simp at h,rfl,fun s h=>by simp at h⟩,by simp,by simp; omega,fun a _ h=>by omega,by omega,fun a _ h=>by omega,.inl rfl⟩ ?_
 rintro j _ next ⟨i,S,l,rfl,hij,Z,hSl,hSl2,hbef,hl,W,hcut⟩ D
 show AD (decide ((i:Int)<(ys.length:Int))) _ _
 rw [hlen]
 refine A0 (fun hi=>?_) (fun hi=>?_)
 · have O:i<ys.length:=by omega
   have ew:A7 ((i:Int)+1)=((i+1:Nat):Int):=by rw [AJ (by omega) (by omega)]; simp
   refine AK O (A0 (fun hgt=>?_) (fun hle'=>?_))
   · have hyn:=(hb _ (List.getElem_mem O)).2
     refine ⟨rfl,?_⟩
     have hin:i+1<R+C:=by
       rcases Nat.lt_or_ge (i+1) (R+C) with J | J
       · exact J
       · exfalso
         have h1:1≤i:=by omega
         have e2:=W (i - 1) (by omega) (by omega)
         have e3:=V (i - 1) (by omega) (by omega)
         omega
     have up:∀ y,y∈ys→l<y→ys[i]≤y:=fun y hy hly=>by
       obtain ⟨a,U,rfl⟩:=List.getElem_of_mem hy
       rcases Nat.lt_or_ge a i with J | J
       · have:=hbef a U J; omega
       · exact Y i a O U J
     refine fT hmR hl.1 (by omega) fun r r0 r1 r2 r3=>fT hmC hl.1 (by omega) fun q q0 q1 q2 q3=>AR (by simp; omega) ?_
     refine AC rfl ?_
     rw [ew]
     refine D (j - 1) _ (by omega) ⟨i+1,S++[⟨l,ys[i],r,q⟩],ys[i],rfl,by omega,?_,by simp; omega,by simp; omega,fun a U hai=>Y a i U O (by omega),hb _ (List.getElem_mem O),fun a U hai=>by simp only [show a=i by omega],.inr (List.getElem_mem O)⟩
     refine Z.snoc hgt hyn ⟨⟨r0,r1⟩,r2,up _ (hmemR r r0 r1) r3⟩ ⟨⟨q0,q1⟩,q2,up _ (hmemC q q0 q1) q3⟩ fun s hs hse hd=>?_
     have hto:S[s].To=l:=by
       have:=Z.top
       rw [←hse] at this
       have e:BJ S (s+1)=S[s].To:=by show (S.getD s default).To=_; simp [List.getD_eq_getElem?_getD,hs]
       rw [←e]; exact this
     have g1:=(Z.row s hs).2.1
     have g2:=(Z.col s hs).2.1
     have g3:=(Z.lo s hs).2.1
     rw [hd.1] at g1
     rw [hd.2] at g2
     have out:∀ {k:Nat} {z x:Int},BS n k z≤S[s].From→l<BS n k (z+1)→l=BS n k (x+1)→False:=fun {k z x} e1 e2 e3=>by
       rcases Int.lt_or_le z (x+1) with J | J
       · have:=MZ (n:=n) (k:=(k:Int)) (show z+1≤x+1 by omega); omega
       · have:=MZ (n:=n) (k:=(k:Int)) J; omega
     rcases hcut with J | J
     · subst J; simp at hs
     · rw [G.mem_iff] at J
       rcases List.mem_append.1 J with J | J <;> (obtain ⟨x,_,hx⟩:=List.mem_map.1 J)
       · exact out g1 r3 hx.symm
       · exact out g2 q3 hx.symm
   · rw [ew]
     have hy0:=(hb _ (List.getElem_mem O)).1
     have heq:ys[i]=l:=by
       rcases Nat.eq_zero_or_pos i with h0 | h0
       · subst h0
         have hl0:l=0:=by
          have:S=[]:=List.length_eq_zero_iff.1 (by omega)
          subst this
          exact Z.top.symm
         omega
       · have e1:=W (i - 1) (by omega) (by omega)
         have:=Y (i - 1) i (by omega) O (by omega)
         omega
     refine D (j - 1) _ (by omega) ⟨i+1,S,l,by rw [heq],by omega,Z,by omega,hSl2,fun a U hai=>?_,hl,fun a U hai=>?_,hcut⟩
     · by_cases e:a=i
       · subst e; omega
       · exact hbef a U (by omega)
     · simp only [show a=i by omega]; exact heq
 · have hie:i=R+C:=by omega
   have e:=W (R+C - 1) (by omega) (by omega)
   have e2:=V (R+C - 1) (by omega) (by omega)
   refine ⟨rfl,hQ S ?_ hSl2⟩
   rw [←e,e2] at Z
   exact Z
end Go.Proofs.YtbohadngdkjljaaGreat
