import Derived.Test.YtbohadngdkjljaaGreatSumE
namespace Go.Proofs.YtbohadngdkjljaaGreat
open Go Go.Fw
set_option linter.unusedVariables false
set_option linter.unusedSimpArgs false
variable {c:T8} {m:MS} {s:Abs} {N:Nat} {o0:A3} {o1 o1x:A2} {o2:A8}
structure Live (c:T8) (N:Nat) (m:MS):Prop where
 bx:∀ f t,f<c.n→t<c.n→BInv (m.bx f t)
 totN:OT c m+iH c m=N
theorem Live.setB (h:Live c N m) {f t:Nat} {a:Abs} (J:f<c.n) (D:t<c.n) (G:BInv a) (U:a.fs=(m.bx f t).fs):Live c N (DH m f t a):=by
 refine ⟨fun i j hi O=>?_,?_⟩
 · by_cases e:i=f∧j=t
   · simpa [DH,e] using G
   · simpa [DH,e] using h.bx i j hi O
 · have:=YP (c:=c) (m:=m) (a:=a) J D
   rw [U] at this
   have:=h.totN
   rw [cI]; omega
theorem Live.doubled (h:Live c N m) {f t:Nat} (G:f<c.n) (D:t<c.n) (k:Int):Live c N (m.double f t k).2:=by
 refine h.setB G D ((h.bx f t G D).double k) ?_ <;> (unfold Abs.double; split <;> (try split) <;> rfl)
theorem Live.moved (h:Live c N m) {f t:Nat} (G:f<c.n) (D:t<c.n) (k:Int):Live c N (m.move f t k).2:=by
 refine h.setB G D ((h.bx f t G D).move k) ?_ <;> (unfold Abs.move; split <;> rfl)
theorem uC {k t:Nat} {f:AM} {r:List AM} (D:(m.w k).out=f :: r) (G:f.To=(t:Int)) (h:(m.bx k t).fullB=false) :
  m.send c k=(true,ER (DH m k t { m.bx k t with row:=(m.bx k t).row++[(m.bx k t).fs.length],fs:=(m.bx k t).fs++[{ f with Seq:=(m.bx k t).fs.length }] }) k { m.w k with out:=r }):=by
 have e:f.To.toNat=t:=by omega
 unfold MS.send
 rw [D]
 show (if ((m.bx k f.To.toNat).send f).1=0 then _ else _)=_
 rw [e,U9 f h,if_pos rfl]
theorem AbI {k t:Nat} {f:AM} {r:List AM} (D:(m.w k).out=f :: r) (G:f.To=(t:Int)) (h:(m.bx k t).fullB=true):m.send c k=(false,m):=by
 have e:f.To.toNat=t:=by omega
 unfold MS.send
 rw [D]
 show (if ((m.bx k f.To.toNat).send f).1=0 then _ else _)=_
 rw [e]
 unfold Abs.send
 rw [if_pos h]
 rfl
theorem zQ {k:Nat} (h:(m.w k).out=[]):m.send c k=(false,m):=by unfold MS.send; rw [h]
theorem rT (g:Good c m) {k:Nat} (hk:k<c.n):m.send c k=(false,m)∨∃ (t:Nat) (f:AM) (r:List AM),t<c.n∧(m.w k).out=f :: r∧f.To=(t:Int)∧(m.bx k t).fullB=false:=by
 cases ho:(m.w k).out with
 | nil=>exact .inl (zQ ho)
 | cons f r=>
  obtain ⟨t,s,D,hs,h,_⟩:=g.out k hk f (by rw [ho]; exact List.mem_cons_self)
  cases hf:(m.bx k t).fullB with
  | true=>exact .inl (AbI ho h hf)
  | false=>exact .inr ⟨t,f,r,D,rfl,h,hf⟩
theorem Live.sent (h:Live c N m) (g:Good c m) {k:Nat} (hk:k<c.n):Live c N (m.send c k).2:=by
 rcases rT g hk with e | ⟨t,f,r,U,W,J,D⟩
 · rw [e]; exact h
 · rw [uC W J D]
   have Y:=h.bx k t hk U
   have G:=Y.send f
   rw [U9 f D] at G
   refine ⟨fun i j hi Z=>?_,?_⟩
   · by_cases e:i=k∧j=t
     · obtain ⟨rfl,rfl⟩:=e; simpa [ER,DH] using G
     · simpa [ER,DH,e] using h.bx i j hi Z
   · have V:=YP (c:=c) (m:=m) (a:={ m.bx k t with row:=(m.bx k t).row++[(m.bx k t).fs.length],fs:=(m.bx k t).fs++[{ f with Seq:=(m.bx k t).fs.length }] }) hk U
     have O:=kA (c:=c) (m:=DH m k t { m.bx k t with row:=(m.bx k t).row++[(m.bx k t).fs.length],fs:=(m.bx k t).fs++[{ f with Seq:=(m.bx k t).fs.length }] }) (a:={ m.w k with out:=r }) hk
     rw [cI] at O
     have e:((DH m k t { m.bx k t with row:=(m.bx k t).row++[(m.bx k t).fs.length],fs:=(m.bx k t).fs++[{ f with Seq:=(m.bx k t).fs.length }] }).w k).out.length=r.length+1:=by show (m.w k).out.length=_; rw [W]; rfl
     rw [e] at O
     simp only [List.length_append,List.length_singleton] at V
     have:=h.totN
     dsimp only at V O ⊢
     rw [gA]
     omega
theorem vV (h:BInv s) {k:Int} (D:(s.take k).2.1=true):∃ hi:s.taken<s.fs.length,(s.take k).1=s.fs[s.taken]:=by
 unfold Abs.take at D ⊢
 split at D
 · cases D
 · rename_i O
   have G:s.at k=0:=by simpa using O
   obtain ⟨i,rfl,hi⟩:=LJ G
   rw [MW hi] at D ⊢
   rw [if_neg (by rw [G]; simp)]
   have J:=h.lt _ (List.getElem_mem hi)
   split at D
   · cases D
   · split at D
     · cases D
     · rename_i V U
       have e:s.row[i]=s.taken:=by omega
       rw [if_neg V,if_neg U]
       refine ⟨by omega,?_⟩
       simp [e,show s.taken<s.fs.length by omega]
theorem Live.handed (h:Live c N m) (g:Good c m) {f t:Nat} (V:f<c.n) (G:t<c.n) (k:Int):Live c N (m.hand c f t k).2:=by
 have Z:=h.bx f t V G
 have D:=uB (m.bx f t) k
 unfold MS.hand
 split
 · rename_i e
   generalize hm2:(ER (DH m f t ((m.bx f t).take k).2.2.2) t (YO c.S.length (U8 (m.w t) ((m.bx f t).take k).1)))=m2
   have O:∀ i j,¬(i=f∧j=t)→m2.bx i j=m.bx i j:=fun i j U=>by rw [←hm2]; simp [ER,DH,U]
   have W:m2.bx f t=((m.bx f t).take k).2.2.2:=by rw [←hm2]; simp [ER,DH]
   refine ⟨fun i j J hj=>?_,?_⟩
   · by_cases e':i=f∧j=t
     · obtain ⟨rfl,rfl⟩:=e'; rw [W]; exact Z.take k
     · rw [O i j e']; exact h.bx i j J hj
   · have h1:=YP (c:=c) (m:=m) (a:=((m.bx f t).take k).2.2.2) V G
     rw [D.1] at h1
     have Y:=kA (c:=c) (m:=DH m f t ((m.bx f t).take k).2.2.2) (a:=YO c.S.length (U8 (m.w t) ((m.bx f t).take k).1)) G
     rw [cI] at Y
     have e2:(YO c.S.length (U8 (m.w t) ((m.bx f t).take k).1)).out=(m.w t).out:=by simp [YO,pG]
     rw [e2] at Y
     have e3:((DH m f t ((m.bx f t).take k).2.2.2).w t).out=(m.w t).out:=rfl
     rw [e3] at Y
     have:=h.totN
     rw [←hm2,gA]
     show OT c (DH m f t ((m.bx f t).take k).2.2.2)+iH c (ER (DH m f t ((m.bx f t).take k).2.2.2) t (YO c.S.length (U8 (m.w t) ((m.bx f t).take k).1)))=N
     omega
 · rename_i e
   exact h.setB V G (Z.take k) D.1
theorem vW (m:MS) (f t:Nat):DH m f t (m.bx f t)=m:=by
 unfold DH
 congr 1
 funext i j
 split
 · rename_i h; rw [h.1,h.2]
 · rfl
theorem Live.sends (h:Live c N m) (D:X3 c) (g:Good c m):∀ k,k≤c.n→Live c N (m.sends c k).2
 | 0,_=>h
 | k+1,hk=>(Live.sends h D g k (by omega)).sent (g.sends D k (by omega)) (by omega)
theorem Live.hands1 {x:Bool×MS} (h:Live c N x.2) (g:Good c x.2) {f:Nat} (D:f<c.n):∀ k,k≤c.n→Live c N (hands1 c f x k).2
 | 0,_=>h
 | k+1,hk=>(Live.hands1 h g D k (by omega)).handed (Good.hands1 g f k) D (by omega) _
theorem Live.hands {x:Bool×MS} (h:Live c N x.2) (g:Good c x.2):∀ k,k≤c.n→Live c N (hands c x k).2
 | 0,_=>h
 | k+1,hk=>Live.hands1 (Live.hands h g k (by omega)) (Good.hands g k) (by omega) c.n (Nat.le_refl _)
theorem Live.window (h:Live c N m) (D:X3 c) (g:Good c m):Live c N (m.window c).2:=Live.hands (h.sends D g c.n (Nat.le_refl _)) (g.sends D c.n (Nat.le_refl _)) c.n (Nat.le_refl _)
theorem Live.acted (h:Live c N m) (J:X3 c) (g:Good c m) (x:EI):Live c N (m.act c x).2:=by
 unfold MS.act
 split
 · exact h
 · split
   · split
     · rename_i hi; exact h.sent g (by have:=hi.2; have:=hi.1; omega)
     · exact h
   · split
     · exact h.window J g
     · split
       · rename_i hi
         have G:x.A.toNat<c.n:=by have:=hi.1.2; have:=hi.1.1; omega
         have D:x.B.toNat<c.n:=by have:=hi.2.2; have:=hi.2.1; omega
         split
         · exact h.handed g G D _
         · split
           · exact h.doubled G D _
           · exact h.moved G D _
       · exact h
def MS.ended (c:T8) (m:MS):Bool:=(List.range c.n).all fun k=>decide ((m.w k).at_=c.S.length)
theorem TB:m.ended c=true↔∀ k,k<c.n→(m.w k).at_=c.S.length:=by simp [MS.ended,List.all_eq_true]
def UT (c:T8):Nat→MS→MS
 | 0,m=>m
 | j+1,m=>if m.ended c=true then m else UT c j (m.window c).2
theorem aN (W:X3 c) (h:Rep c m o0 o1 o2) {Q:Bool→Prop} (G:Q (m.ended c)):CI o0 o1 Q:=by
 have hn:=W.n
 unfold CI CK CP
 refine DF c.n (by omega) (fun i=>∀ k,k<i→(m.w k).at_=c.S.length) (fun k hk=>by omega) (fun i next hi J D=>?_) (fun next J=>?_)
 · show AD (decide ((i:Int)<(o0.workers.length:Int))) _ _
   rw [h.len]
   refine AU (by simp; omega) (AA (by omega) (h.get hi) ?_)
   obtain ⟨x,Y,O⟩:=h.wk i hi
   unfold G2
   refine DP Y ?_
   rw [O.at_,h.S]
   have:=O.le
   refine A0 (fun U=>?_) (fun V=>?_)
   · have e:m.ended c=false:=by
      cases hE:m.ended c with
      | false=>rfl
      | true=>have:=TB.1 hE i hi; omega
     rw [e] at G
     have:decide (0≤(i:Int))=true:=by simp
     show Q (!decide (0≤(i:Int)))
     rw [this]; exact G
   · exact D fun k hk=>by
      by_cases ek:k=i
      · subst ek; omega
      · exact J k (by omega)
 · show AD (decide ((c.n:Int)<(o0.workers.length:Int))) _ _
   rw [h.len]
   refine AC (by simp) ?_
   have e:m.ended c=true:=TB.2 J
   rw [e] at G
   exact G
theorem zT (h:Rep c m o0 o1 o2) {k:Nat} (hk:k<c.n) {Q:Int→Prop} (J:Q ((m.w k).at_:Int)):F7 o0 o1 k Q:=by
 unfold F7
 refine cG h (AC (by simp; omega) (AA (by omega) (h.get hk) ?_))
 obtain ⟨x,G,D⟩:=h.wk k hk
 refine DP G ?_
 rw [D.at_]; exact J
theorem AbJ (Z:X3 c) (h:Rep c m o0 o1 o2) {f t:Nat} (hf:f<c.n) (U:t<c.n) {Q:(Int×A3×A8)→Prop}
  (Y:∀ D G,Rep c m D o1 G→Ext o0 D→Q (((m.bx f t).row.length:Int),D,G)):FZ o0 o1x o2 f t Q:=by
 unfold FZ
 refine fZ Z h hf U fun b pb D G W J O V hi=>?_
 unfold EH
 rw [F9,JD V]
 exact rQ hi (Y _ _ W J)
structure Data where
 r:Int
 n:Int
 k:Int
 q:Int
 A:List A1
 B:List A1
 M:List A1
 R:Nat
 C:Nat
 room:Nat
 S:List AV
def Data.p (d:Data):BF:={ Ring:=d.r,A:=B0 d.n d.k d.A,B:=B0 d.k d.q d.B,Mask:=B0 d.n d.q d.M,R:=(d.R:Int),C:=(d.C:Int),Room:=(d.room:Int) }
def BJ (S:List AV):Nat→Int
 | 0=>0
 | s+1=>(S.getD s default).To
structure zU (d:Data):Prop where
 len:d.S.length+1≤d.R+d.C
 row:∀ s (h:s<d.S.length),0≤d.S[s].Row∧d.S[s].Row<d.R
 col:∀ s (h:s<d.S.length),0≤d.S[s].Col∧d.S[s].Col<d.C
 lo:∀ s (h:s<d.S.length),d.S[s].From=BJ d.S s∧d.S[s].From≤d.S[s].To∧d.S[s].To≤d.k
 top:BJ d.S d.S.length=d.k
structure TH (d:Data):Prop where
 r:1≤d.r∧d.r≤5
 cA:Canon d.n d.k d.A
 cB:Canon d.k d.q d.B
 cM:Canon d.n d.q d.M
 vA:∀ t∈d.A,GM t.Val
 vB:∀ t∈d.B,GM t.Val
 vM:∀ t∈d.M,GM t.Val
 R:1≤d.R∧d.R≤8
 C:1≤d.C∧d.C≤8
 room:1≤d.room∧d.room≤64
 seg:zU d
variable {d:Data}
def Data.rl (d:Data) (i:Nat):Int:=BU d.n d.R i
def Data.cl (d:Data) (j:Nat):Int:=BU d.q d.C j
theorem aO (h:TH d) (i:Nat):0≤d.rl i∧d.rl i≤d.rl (i+1)∧d.rl (i+1)≤d.n:=⟨jF.1,MQ (by omega),jF.2 h.cA.r0⟩
theorem aP (h:TH d) (j:Nat):0≤d.cl j∧d.cl j≤d.cl (j+1)∧d.cl (j+1)≤d.q:=⟨jF.1,MQ (by omega),jF.2 h.cB.c0⟩
theorem aQ (h:TH d):∀ s,s≤d.S.length→0≤BJ d.S s∧BJ d.S s≤d.k
 | 0,_=>⟨Int.le_refl _,h.cA.c0⟩
 | s+1,hs=>by
  have h1:=aQ h s (by omega)
  have h2:=h.seg.lo s (by omega)
  have e:BJ d.S (s+1)=d.S[s].To:=by
   show (d.S.getD s default).To=_
   simp [List.getD_eq_getElem?_getD,show s<d.S.length by omega]
  rw [e]; omega
theorem UA {s:Nat} (h:s<d.S.length):BJ d.S (s+1)=d.S[s].To:=by
 show (d.S.getD s default).To=_
 simp [List.getD_eq_getElem?_getD,h]
def VZ (d:Data) (i:Nat) (a b:Int):List A1:=HI (d.rl i) (d.rl (i+1)) a b d.A
def XE (d:Data) (j:Nat) (a b:Int):List A1:=HI a b (d.cl j) (d.cl (j+1)) d.B
def kB (d:Data) (i j:Nat):List A1:=HI (d.rl i) (d.rl (i+1)) (d.cl j) (d.cl (j+1)) d.M
def IV (d:Data) (i j:Nat) (t:Nat):List AB:=FQ d.r (VZ d i 0 (BJ d.S t)) (XE d j 0 (BJ d.S t)) (kB d i j)
def Data.ctx (d:Data) (adr:Nat→Nat):T8 where
 p:=d.p
 S:=d.S
 n:=d.R*d.C
 adr:=adr
 wi:=fun k=>((k / d.C:Nat):Int)
 wj:=fun k=>((k % d.C:Nat):Int)
 mask:=fun k=>B0 (d.rl (k / d.C+1) - d.rl (k / d.C)) (d.cl (k % d.C+1) - d.cl (k % d.C)) (kB d (k / d.C) (k % d.C))
 room:=d.room
 LA:=fun k s=>VZ d (k / d.C) (BJ d.S s) (BJ d.S (s+1))
 RB:=fun k s=>XE d (k % d.C) (BJ d.S s) (BJ d.S (s+1))
 has:=fun k t=>IV d (k / d.C) (k % d.C) t
theorem kC (h:TH d) (i j:Nat) {a b:Int} (V:0≤a) (h1:a≤b) (h2:b≤d.k) (k:HN) :
   EB d.r k (FQ d.r (VZ d i 0 b) (XE d j 0 b) (kB d i j))=dU d.r (EB d.r k (FQ d.r (VZ d i 0 a) (XE d j 0 a) (kB d i j))) (EB d.r k (FQ d.r (VZ d i a b) (XE d j a b) (kB d i j))):=by
 have J:=aO h i
 have G:=aP h j
 obtain ⟨_,cA0,O⟩:=DJ h.cA (l:=d.rl i) (u:=d.rl (i+1)) (c:=0) (d:=b) J.1 J.2.1 J.2.2 (by omega) (by omega) h2
 obtain ⟨_,W,lA1⟩:=DJ h.cA (l:=d.rl i) (u:=d.rl (i+1)) (c:=0) (d:=a) J.1 J.2.1 J.2.2 (by omega) V (by omega)
 obtain ⟨_,cA2,lA2⟩:=DJ h.cA (l:=d.rl i) (u:=d.rl (i+1)) (c:=a) (d:=b) J.1 J.2.1 J.2.2 V h1 h2
 obtain ⟨_,cB0,U⟩:=DJ h.cB (l:=0) (u:=b) (c:=d.cl j) (d:=d.cl (j+1)) (by omega) (by omega) h2 G.1 G.2.1 G.2.2
 obtain ⟨_,cB1,Y⟩:=DJ h.cB (l:=0) (u:=a) (c:=d.cl j) (d:=d.cl (j+1)) (by omega) V (by omega) G.1 G.2.1 G.2.2
 obtain ⟨_,cB2,lB2⟩:=DJ h.cB (l:=a) (u:=b) (c:=d.cl j) (d:=d.cl (j+1)) V h1 h2 G.1 G.2.1 G.2.2
 obtain ⟨_,Z,_⟩:=DJ h.cM (l:=d.rl i) (u:=d.rl (i+1)) (c:=d.cl j) (d:=d.cl (j+1)) J.1 J.2.1 J.2.2 G.1 G.2.1 G.2.2
 simp only [Int.sub_zero,Int.add_zero] at cA0 O W lA1 cB0 U cB1 Y
 refine jD Z.srt fun t ht=>?_
 have D:=Z.inn t ht
 unfold RK at D
 unfold VZ XE
 rw [T4 cA0 D.1,T4 W D.1,T4 cA2 D.1,show b.toNat=a.toNat+(b - a).toNat by omega,oO]
 congr 1
 · refine YM (fun x hx=>?_) (fun x hx=>?_)
   · rw [O _ _ D.1 D.2.1 (by omega) (by omega),lA1 _ _ D.1 D.2.1 (by omega) (by omega)]
   · unfold hZ
     rw [U _ _ (by omega) (by omega) D.2.2.1 D.2.2.2,Y _ _ (by omega) (by omega) D.2.2.1 D.2.2.2]
 · refine YM (fun x hx=>?_) (fun x hx=>?_)
   · rw [Int.toNat_of_nonneg V,O _ _ D.1 D.2.1 (by omega) (by omega),lA2 _ _ D.1 D.2.1 (by omega) (by omega)]
   · unfold hZ
     rw [Int.toNat_of_nonneg V,U _ _ (by omega) (by omega) D.2.2.1 D.2.2.2,lB2 _ _ (by omega) (by omega) D.2.2.1 D.2.2.2]
theorem AcC (h:TH d) (adr:Nat→Nat):Rk (d.ctx adr):=by
 intro w s hs hw Q hQ
 have Z:s<d.S.length:=hs
 have Y:=aO h (w / d.C)
 have G:=aP h (w % d.C)
 have hl:=h.seg.lo s Z
 have hb:=aQ h s (by omega)
 have he:=UA (d:=d) Z
 obtain ⟨_,J,_⟩:=DJ h.cA (l:=d.rl (w / d.C)) (u:=d.rl (w / d.C+1)) (c:=BJ d.S s) (d:=BJ d.S (s+1)) Y.1 Y.2.1 Y.2.2 hb.1 (by omega) (by omega)
 obtain ⟨_,W,_⟩:=DJ h.cB (l:=BJ d.S s) (u:=BJ d.S (s+1)) (c:=d.cl (w % d.C)) (d:=d.cl (w % d.C+1)) hb.1 (by omega) (by omega) G.1 G.2.1 G.2.2
 obtain ⟨_,D,_⟩:=DJ h.cM (l:=d.rl (w / d.C)) (u:=d.rl (w / d.C+1)) (c:=d.cl (w % d.C)) (d:=d.cl (w % d.C+1)) Y.1 Y.2.1 Y.2.2 G.1 G.2.1 G.2.2
 have hk:=h.cA.c1
 have e1:A7 (d.S[s].To - d.S[s].From)=BJ d.S (s+1) - BJ d.S s:=by rw [AH (by omega) (by omega)]; omega
 show QD d.r (d.rl (w / d.C+1) - d.rl (w / d.C)) (A7 (d.S[s].To - d.S[s].From)) (VZ d (w / d.C) (BJ d.S s) (BJ d.S (s+1))) _
 have V:=ZZ (l:=d.rl (w / d.C)) (u:=d.rl (w / d.C+1)) (c:=BJ d.S s) (d:=BJ d.S (s+1)) h.vA
 have U:=ZZ (l:=BJ d.S s) (u:=BJ d.S (s+1)) (c:=d.cl (w % d.C)) (d:=d.cl (w % d.C+1)) h.vB
 rw [e1]
 refine xP (by have:=J.len; unfold VZ; omega) V ?_
 show QD d.r (A7 (d.S[s].To - d.S[s].From)) (d.cl (w % d.C+1) - d.cl (w % d.C)) (XE d (w % d.C) (BJ d.S s) (BJ d.S (s+1))) _
 rw [e1]
 refine xP (by have:=W.len; unfold XE; omega) U ?_
 unfold VZ XE
 rw [X0 J V h.r,X0 W U h.r]
 refine iA J W D V U ?_
 have hrr:=h.r
 unfold bX
 rw [if_neg (by show ¬ ¬(1≤d.r∧d.r≤5); omega),if_neg (by omega)]
 show NG d.r [IV d (w / d.C) (w % d.C) s,FQ d.r (VZ d (w / d.C) (BJ d.S s) (BJ d.S (s+1))) (XE d (w % d.C) (BJ d.S s) (BJ d.S (s+1))) (kB d (w / d.C) (w % d.C))] _
 obtain ⟨s0,o0,z0⟩:=NP (r:=d.r) (A:=VZ d (w / d.C) 0 (BJ d.S (s+1))) (B:=XE d (w % d.C) 0 (BJ d.S (s+1))) D
 obtain ⟨s1,o1,z1⟩:=NP (r:=d.r) (A:=VZ d (w / d.C) 0 (BJ d.S s)) (B:=XE d (w % d.C) 0 (BJ d.S s)) D
 obtain ⟨s2,o2,z2⟩:=NP (r:=d.r) (A:=VZ d (w / d.C) (BJ d.S s) (BJ d.S (s+1))) (B:=XE d (w % d.C) (BJ d.S s) (BJ d.S (s+1))) D
 have O:∀ (x y:List AB),([x,y]:List (List AB)).flatten=x++y:=fun x y=>by simp
 refine iE (by simp) (by rw [O,List.length_append]; unfold IV kB; omega) (by rw [O]; exact fun c G=>(List.mem_append.1 G).elim (o1 c) (o2 c)) (fun h'=>absurd hrr h') (fun _ h'=>absurd (fun l hl=>?_) h') (fun _ _ x hs ho hsl he'=>?_)
 · simp only [List.mem_cons,List.not_mem_nil,or_false] at hl
   rcases hl with rfl | rfl
   · exact s1
   · exact s2
 · have hall:x=IV d (w / d.C) (w % d.C) (s+1):=fR (r:=d.r) hs s0 fun key=>by
     rw [he',O]
     exact (FH o1 o2).trans (kC h (w / d.C) (w % d.C) hb.1 (by omega) (by omega) key).symm
   subst hall
   exact hQ
open Go Go.Fw Go.Sort
variable {d:Data}
def shC (a b:Int) (x:AB):AB:=⟨x.Row+a,x.Col+b,x.Val⟩
def bkC (d:Data) (i j:Nat):List AB:=(IV d i j d.S.length).map (shC (d.rl i) (d.cl j))
def iI (d:Data):List AB:=FQ d.r d.A d.B d.M
theorem rU (h:TH d) (i j:Nat) {t:A1} (Z:t∈kB d i j):KY d.r (VZ d i 0 d.k) (XE d j 0 d.k) t.Row t.Col=KY d.r d.A d.B (t.Row+d.rl i) (t.Col+d.cl j):=by
 have J:=aO h i
 have G:=aP h j
 obtain ⟨_,V,O⟩:=DJ h.cA (l:=d.rl i) (u:=d.rl (i+1)) (c:=0) (d:=d.k) J.1 J.2.1 J.2.2 (by omega) h.cA.c0 (by omega)
 obtain ⟨_,W,U⟩:=DJ h.cB (l:=0) (u:=d.k) (c:=d.cl j) (d:=d.cl (j+1)) (by omega) h.cA.c0 (by omega) G.1 G.2.1 G.2.2
 obtain ⟨_,Y,_⟩:=DJ h.cM (l:=d.rl i) (u:=d.rl (i+1)) (c:=d.cl j) (d:=d.cl (j+1)) J.1 J.2.1 J.2.2 G.1 G.2.1 G.2.2
 simp only [Int.sub_zero,Int.add_zero] at V O W U
 have D:=Y.inn t Z
 unfold RK at D
 unfold VZ XE
 rw [T4 V D.1,T4 h.cA (by omega)]
 refine YM (fun x hx=>?_) (fun x hx=>?_)
 · rw [O _ _ D.1 D.2.1 (by omega) (by omega)]
 · unfold hZ
   rw [U _ _ (by omega) (by omega) D.2.2.1 D.2.2.2]
theorem Ad4 (h:TH d) (i j:Nat):bkC d i j=((kB d i j).map (shT (d.rl i) (d.cl j))).filterMap (G1 d.r d.A d.B):=by
 unfold bkC IV FQ
 rw [h.seg.top,List.map_filterMap,List.filterMap_map]
 refine VM fun t D=>?_
 have:=rU h i j D
 simp only [Function.comp_apply,G1,shT]
 rw [this]
 cases KY d.r d.A d.B (t.Row+d.rl i) (t.Col+d.cl j) <;> simp [shC]
theorem mH (h:TH d):((List.range (d.R*d.C)).flatMap fun k=>bkC d (k / d.C) (k % d.C)).Perm (iI d):=by
 have hC:=h.C
 rw [cF (by omega) (fun i j=>bkC d i j)]
 have e:((List.range d.R).flatMap fun i=>(List.range d.C).flatMap fun j=>bkC d i j)=(((List.range d.R).flatMap fun i:Nat=>(List.range d.C).flatMap fun j:Nat=>(kB d i j).map (shT (d.rl i) (d.cl j))).filterMap (G1 d.r d.A d.B)):=by
  rw [List.filterMap_flatMap]
  refine MR fun i _=>?_
  rw [List.filterMap_flatMap]
  exact MR fun j _=>Ad4 h i j
 rw [e]
 refine List.Perm.filterMap _ ?_
 have hp:PH d.n (d.R:Int):=⟨⟨h.cM.r0,h.cM.r1⟩,by have:=h.R; omega⟩
 have D:PH d.q (d.C:Int):=⟨⟨h.cM.c0,h.cM.c1⟩,by have:=h.C; omega⟩
 exact dC h.cM hp D
def cfC (x y:AB):Int:=uU (QK x.Row y.Row) (QK x.Col y.Col)
theorem mI (x y:AB):cfC x y<0↔MA (x.Row,x.Col) (y.Row,y.Col):=S1 x y
theorem AbK:SWO (ltOf cfC) where
 irrefl x:=by unfold ltOf; simp only [mI]; simp [MA]
 trans x y z h1 h2:=by unfold ltOf at *; simp only [mI,decide_eq_true_eq] at *; exact IL h1 h2
 ntrans x y z h1 h2:=by unfold ltOf at *; simp only [mI,decide_eq_false_iff_not,MA] at *; omega
variable {adr:Nat→Nat} {m:MS} {o0:A3} {o1:A2} {o2:A8}
theorem zV (h:TH d):ZV d.n d.q (iI d):=eM (r:=d.r) (ra:=0) (ca:=0) (rb:=0) (cb:=0) (A:=d.A) (B:=d.B) h.cM
theorem vX {x y:AB} {Q:Int→Prop} (h:Q (cfC x y)):FY x y Q:=by
 unfold FY
 exact GZ (GZ (iW h))
def SF (d:Data) (m:MS) (n:Nat):List AB:=(List.range n).flatMap fun k=>(IV d (k / d.C) (k % d.C) (m.w k).at_).map (shC (d.rl (k / d.C)) (d.cl (k % d.C)))
theorem gB (h:TH d) (i j t:Nat):(IV d i j t).length≤65536∧∀ x∈IV d i j t,0≤x.Row∧x.Row≤4096∧0≤x.Col∧x.Col≤4096:=by
 have J:=aO h i
 have G:=aP h j
 obtain ⟨_,D,_⟩:=DJ h.cM (l:=d.rl i) (u:=d.rl (i+1)) (c:=d.cl j) (d:=d.cl (j+1)) J.1 J.2.1 J.2.2 G.1 G.2.1 G.2.2
 have O:=eM (r:=d.r) (ra:=0) (ca:=0) (rb:=0) (cb:=0) (A:=VZ d i 0 (BJ d.S t)) (B:=XE d j 0 (BJ d.S t)) D
 refine ⟨O.len,fun x U=>?_⟩
 have:=O.inn x U
 have h1:=h.cM.r1
 have h2:=h.cM.c1
 omega
theorem gD (h:TH d) (m:MS):∀ n:Nat,(SF d m n).length≤n*65536
 | 0=>by simp [SF]
 | n+1=>by
  have:=gD h m n
  have:=(gB h (n / d.C) (n % d.C) (m.w n).at_).1
  unfold SF at *
  rw [List.range_succ,List.flatMap_append,List.length_append,List.flatMap_singleton,List.length_map]
  omega
theorem zW (h:TH d) {adr:Nat→Nat} (he:m.ended (d.ctx adr)=true):(SF d m (d.R*d.C)).Perm (iI d):=by
 have:SF d m (d.R*d.C)=(List.range (d.R*d.C)).flatMap fun k=>bkC d (k / d.C) (k % d.C):=MR fun k hk=>by
  rw [TB.1 he k (List.mem_range.1 hk)]; rfl
 rw [this]
 exact mH h
theorem kD (h:TH d) (U:Rep (d.ctx adr) m o0 o1 o2) (Z:List AB) (hp:(SF d m (d.R*d.C)).Perm Z) (hz:Z.Pairwise SR) {Q:List AB→Prop} (hQ:Q Z):E4 o0 o1 Q:=by
 have hR:=h.R
 have hC:=h.C
 have hn:d.R*d.C≤64:=Nat.mul_le_mul hR.2 hC.2
 have hn1:=h.cM.r1
 have hq1:=h.cM.c1
 unfold E4
 have D:o0.workers.length=d.R*d.C:=U.len
 refine BV (fun j (x:List AB×Int)=>∃ k:Nat,x=(SF d m k,(k:Int))∧k+j=d.R*d.C) (m0:=d.R*d.C) ⟨0,rfl,by omega⟩ ?_
 rintro j _ next ⟨k,rfl,hkj⟩ hnext
 show AD (decide ((k:Int)<(o0.workers.length:Int))) _ _
 rw [D]
 refine A0 (fun hk=>?_) (fun hk=>?_)
 · have O:k<(d.ctx adr).n:=by show k<d.R*d.C; omega
   obtain ⟨x,hx,hw⟩:=U.wk k O
   refine AA (by omega) (U.get O) (DP hx ?_)
   rw [U.p,hw.i,hw.j]
   show FK d.n (d.R:Int) ((k / d.C:Nat):Int) _
   refine HU ?_
   show FK d.q (d.C:Int) ((k % d.C:Nat):Int) _
   refine HU (DP hx ?_)
   have J:x.has=IV d (k / d.C) (k % d.C) (m.w k).at_:=hw.has
   rw [J]
   obtain ⟨hl,hin⟩:=gB h (k / d.C) (k % d.C) (m.w k).at_
   have hbase:=gD h m k
   have b1:=aO h (k / d.C)
   have b2:=aP h (k % d.C)
   refine BV (fun j (y:List AB×Int)=>∃ i:Nat,y=(SF d m k++((IV d (k / d.C) (k % d.C) (m.w k).at_).take i).map (shC (d.rl (k / d.C)) (d.cl (k % d.C))),(i:Int))∧i+j=(IV d (k / d.C) (k % d.C) (m.w k).at_).length) (m0:=(IV d (k / d.C) (k % d.C) (m.w k).at_).length) ⟨0,by simp,by omega⟩ ?_
   rintro j2 _ W ⟨i,rfl,hij⟩ hnext2
   show AD (decide ((i:Int)<((IV d (k / d.C) (k % d.C) (m.w k).at_).length:Int))) _ _
   refine A0 (fun hi=>?_) (fun hi=>?_)
   · have G:i<(IV d (k / d.C) (k % d.C) (m.w k).at_).length:=by omega
     refine AJ G (AQ ?_ ?_)
     · simp only [List.length_append,List.length_map,List.length_take,List.length_singleton]; omega
     · have hx':=hin _ (List.getElem_mem G)
       have e1:A7 ((IV d (k / d.C) (k % d.C) (m.w k).at_)[i].Row+BU d.n (d.R:Int) ((k / d.C:Nat):Int))=(IV d (k / d.C) (k % d.C) (m.w k).at_)[i].Row+d.rl (k / d.C):=by
        show A7 (_+d.rl (k / d.C))=_
        rw [AH (by omega) (by omega)]
       have e2:A7 ((IV d (k / d.C) (k % d.C) (m.w k).at_)[i].Col+BU d.q (d.C:Int) ((k % d.C:Nat):Int))=(IV d (k / d.C) (k % d.C) (m.w k).at_)[i].Col+d.cl (k % d.C):=by
        show A7 (_+d.cl (k % d.C))=_
        rw [AH (by omega) (by omega)]
       rw [e1,e2]
       refine hnext2 (j2 - 1) _ (by omega) ⟨i+1,?_,by omega⟩
       rw [AH (by omega) (by omega),List.take_succ_eq_append_getElem G,List.map_append,List.append_assoc]
       simp [shC]
   · have hie:i=(IV d (k / d.C) (k % d.C) (m.w k).at_).length:=by omega
     subst hie
     refine hnext (j - 1) _ (by omega) ⟨k+1,?_,by omega⟩
     rw [AH (by omega) (by omega),List.take_length]
     unfold SF
     rw [List.range_succ,List.flatMap_append,List.flatMap_singleton]
     simp
 · have V:k=d.R*d.C:=by omega
   subst V
   have D:=gD h m (d.R*d.C)
   refine sZ cfC (fun x y Q hq=>vX hq) AbK (by have:d.R*d.C*65536≤64*65536:=Nat.mul_le_mul_right _ hn; omega) hp (hz.imp fun {a b} Y=>(mI a b).2 Y) hQ
theorem pI (h:TH d) (G:Rep (d.ctx adr) m o0 o1 o2) (he:m.ended (d.ctx adr)=true) {Q:List AB→Prop} (D:Q (iI d)):E4 o0 o1 Q:=
 kD h G (iI d) (zW h he) (zV h).inc D
theorem mJ (h:TH d) (D:Rep (d.ctx adr) m o0 o1 o2) (he:m.ended (d.ctx adr)=true) {Q:Rows×Int→Prop} (G:Q (ON d.r d.n d.q (iI d))):CD o0 o1 Q:=by
 unfold CD
 refine pI h D he ?_
 rw [D.p]
 exact ZW h.r ⟨⟨h.cM.r0,h.cM.r1⟩,h.cM.c0,h.cM.c1⟩ (zV h) G
theorem uD {n k i:Int} (h:PH n k) (h0:0≤i) (h1:i≤k):BU n k i=i*n / k:=by
 unfold BU jE
 rw [if_pos h,if_neg (by omega),if_neg (by omega)]
theorem gE {n k a:Int} {Q:Int→Prop} (h:PH n k) (Y:0≤a) (h1:a<n) (hQ:∀ i,0≤i→i<k→BU n k i≤a→a<BU n k (i+1)→Q i):ZI n k a Q:=by
 have V:=h
 unfold PH at V
 unfold ZI
 refine S3 (AC (by rw [decide_eq_true h]; rfl) (AC (by simp; omega) (AC (by simp; omega) ⟨by omega,?_⟩)))
 have hk8:a*k≤a*8:=Int.mul_le_mul_of_nonneg_left V.2.2 Y
 have D:0≤a*k:=Int.mul_nonneg Y (by omega)
 have e1:A7 (a*k)=a*k:=AH (by omega) (by omega)
 have G:0≤a*k / n:=Int.ediv_nonneg D (by omega)
 have O:a*k / n<k:=by
   refine Int.ediv_lt_of_lt_mul (by omega) ?_
   rw [Int.mul_comm k n]
   exact Int.mul_lt_mul_of_pos_right h1 (by omega)
 have U:BU n k (a*k / n)≤a:=by
   rw [uD h G (by omega)]
   refine Int.ediv_le_of_le_mul (by omega) ?_
   exact Int.ediv_mul_le _ (by omega)
 rw [e1,Int.tdiv_eq_ediv_of_nonneg D,AH (x:=a*k / n) (by omega) (by omega)]
 refine BV (fun j (i:Int)=>0≤i∧i<k∧BU n k i≤a∧(k - i).toNat=j) (m0:=(k - a*k / n).toNat) ⟨G,O,U,rfl⟩ ?_
 rintro j i next ⟨i0,i1,i2,i3⟩ hnext
 have Z:A7 (i+1)=i+1:=AH (by omega) (by omega)
 show FK n k (A7 (i+1)) _
 rw [Z]
 refine HU (A0 (fun J=>?_) (fun J=>hQ i i0 i1 i2 (by omega)))
 refine hnext (j - 1) _ (by omega) ⟨by omega,?_,J,by omega⟩
 rcases Int.lt_or_le (i+1) k with W | W
 · exact W
 · have:i+1=k:=by omega
   rw [this,U4 h] at J
   omega
structure SegSp (n:Int) (R C:Nat) (top:Int) (S:List AV):Prop where
 row:∀ s (h:s<S.length),(0≤S[s].Row∧S[s].Row<R)∧BU n R S[s].Row≤S[s].From∧S[s].To≤BU n R (S[s].Row+1)
 col:∀ s (h:s<S.length),(0≤S[s].Col∧S[s].Col<C)∧BU n C S[s].Col≤S[s].From∧S[s].To≤BU n C (S[s].Col+1)
 lo:∀ s (h:s<S.length),S[s].From=BJ S s∧S[s].From<S[s].To∧S[s].To≤n
 top:BJ S S.length=top
 adj:∀ s (h:s+1<S.length),¬(S[s].Row=S[s+1].Row∧S[s].Col=S[s+1].Col)
theorem X6 (S:List AV) (x:AV):∀ s,s≤S.length→BJ (S++[x]) s=BJ S s
 | 0,_=>rfl
 | s+1,h=>by
  show ((S++[x]).getD s default).To=(S.getD s default).To
  simp [List.getD_eq_getElem?_getD,List.getElem?_append_left (show s<S.length by omega)]
theorem SegSp.snoc {n:Int} {R C:Nat} {D:Int} {S:List AV} (h:SegSp n R C D S) {t i j:Int} (V:D<t) (Z:t≤n) (hi:(0≤i∧i<R)∧BU n R i≤D∧t≤BU n R (i+1)) (U:(0≤j∧j<C)∧BU n C j≤D∧t≤BU n C (j+1)) (W:∀ s (h:s<S.length),s+1=S.length→¬(S[s].Row=i∧S[s].Col=j)) :
   SegSp n R C t (S++[⟨D,t,i,j⟩]):=by
 have G:∀ {P:AV→Nat→Prop},(∀ s (h:s<S.length),P S[s] s)→P ⟨D,t,i,j⟩ S.length→∀ s (h:s<(S++[(⟨D,t,i,j⟩:AV)]).length),P (S++[(⟨D,t,i,j⟩:AV)])[s] s:=by
   intro P Y O s J
   simp only [List.length_append,List.length_singleton] at J
   by_cases e:s<S.length
   · rw [List.getElem_append_left e]; exact Y s e
   · have:s=S.length:=by omega
     subst this
     simpa using O
 refine ⟨G (P:=fun x _=>(0≤x.Row∧x.Row<R)∧BU n R x.Row≤x.From∧x.To≤BU n R (x.Row+1)) h.row hi,G (P:=fun x _=>(0≤x.Col∧x.Col<C)∧BU n C x.Col≤x.From∧x.To≤BU n C (x.Col+1)) h.col U,G (P:=fun x s=>x.From=BJ (S++[(⟨D,t,i,j⟩:AV)]) s∧x.From<x.To∧x.To≤n) (fun s J=>?_) ⟨?_,V,Z⟩,?_,fun s J=>?_⟩
 · rw [X6 S _ s (by omega)]; exact h.lo s J
 · rw [X6 S _ _ (Nat.le_refl _)]; exact h.top.symm
 · simp only [List.length_append,List.length_singleton]
   show ((S++[(⟨D,t,i,j⟩:AV)]).getD S.length default).To=t
   simp [List.getD_eq_getElem?_getD]
 · simp only [List.length_append,List.length_singleton] at J
   rw [List.getElem_append_left (show s<S.length by omega)]
   by_cases e:s+1<S.length
   · rw [List.getElem_append_left e]; exact h.adj s e
   · rw [List.getElem_append_right (by omega)]
     simpa using W s (by omega) (by omega)
def NB (n:Int) (k:Nat) (i:Nat):List Int:=(List.range i).map fun x:Nat=>BU n k ((x:Int)+1)
theorem rV (n:Int) (k i:Nat):NB n k (i+1)=NB n k i++[BU n k ((i:Int)+1)]:=by unfold NB; rw [List.range_succ,List.map_append]; rfl
theorem kE {n:Int} {k:Nat} (hk:k≤8) {pre:List Int} (hp:pre.length≤100) {h:List Int×Int→(List Int×Int→Prop)→Prop}
   (J:∀ (l:List Int) (i:Nat) next,l.length≤200→i<k→next (l++[BU n k ((i:Int)+1)],A7 ((i:Int)+1))→h (l,(i:Int)) next)
   (he:∀ next,h (pre++NB n k k,(k:Int)) next):B2 h (pre,0):=by
 refine BV (fun j (x:List Int×Int)=>∃ i:Nat,x=(pre++NB n k i,(i:Int))∧i+j=k) (m0:=k) ⟨0,by simp [NB],by omega⟩ ?_
 rintro j _ next ⟨i,rfl,G⟩ hnext
 by_cases hi:i<k
 · refine J _ i next (by simp [NB]; omega) hi ?_
   have D:A7 ((i:Int)+1)=(i:Int)+1:=AH (by omega) (by omega)
   rw [D]
   exact hnext (j - 1) _ (by omega) ⟨i+1,by rw [rV,List.append_assoc]; simp,by omega⟩
 · have:i=k:=by omega
   subst this
   exact he next
theorem uE {n:Int} {k i:Nat} {l:List Int} {K:List Int→Prop} (hl:l.length≤200) (hi:i<k) (hk:k≤8) (h:K (l++[BU n k ((i:Int)+1)])):FK n (k:Int) (A7 ((i:Int)+1)) fun r=>EA 8 l ([r]) fun _=>K (l++[r]):=by
 rw [AH (by omega) (by omega)]
 exact HU (AQ (by simp; omega) h)
theorem pJ {n:Int} {R C:Nat} (hn:0≤n∧n≤4096) (hR:1≤R∧R≤8) (hC:1≤C∧C≤8) {Q:List AV→Prop} (hQ:∀ S,SegSp n R C n S→S.length+1≤R+C→Q S):KR n (R:Int) (C:Int) Q:=by
 have hmR:PH n (R:Int):=⟨hn,by omega⟩
 have hmC:PH n (C:Int):=⟨hn,by omega⟩
 unfold KR
 refine S3 (AC (by rw [decide_eq_true hmR]; rfl) (S3 (AC (by rw [decide_eq_true hmC]; rfl) ?_)))
 unfold SA OW
 refine kE (n:=n) hR.2 (pre:=[]) (by simp) (fun l i next hl hi G=>AU (by simp; omega) (uE (K:=fun z=>next (z,A7 ((i:Int)+1))) hl hi hR.2 G)) fun next=>AC (by simp) ?_
 refine kE (n:=n) hC.2 (by simp [NB]; omega) (fun l i next hl hi G=>AU (by simp; omega) (uE (K:=fun z=>next (z,A7 ((i:Int)+1))) hl hi hC.2 G)) fun next=>AC (by simp) ?_
 rw [List.nil_append]
 refine ⟨by simp [NB]; omega,?_⟩
 generalize hys:(NB n R R++NB n C C).mergeSort (fun x y=>decide (x≤y))=ys
 have D:ys.Perm (NB n R R++NB n C C):=by rw [←hys]; exact List.mergeSort_perm _ _
 have hlen:ys.length=R+C:=by rw [D.length_eq]; simp [NB]
 have hsort:ys.Pairwise (· ≤ ·):=by
   rw [←hys]
   have:=List.pairwise_mergeSort (le:=fun (x y:Int)=>decide (x≤y)) (fun a b c h1 h2=>by simp only [decide_eq_true_eq] at *; omega) (fun a b=>by simp only [Bool.or_eq_true,decide_eq_true_eq]; omega) (NB n R R++NB n C C)
   exact this.imp fun h=>by simpa using h
 have Z:∀ (a b:Nat) (U:a<ys.length) (hb:b<ys.length),a≤b→ys[a]≤ys[b]:=fun a b U hb hab=>by
   rcases Nat.lt_or_ge a b with J | J
   · exact List.pairwise_iff_getElem.1 hsort a b U hb J
   · have:a=b:=by omega
     subst this; omega
 have hmemR:∀ i:Int,0≤i→i<R→BU n R (i+1)∈ys:=fun i h0 h1=>by
   rw [D.mem_iff]
   refine List.mem_append.2 (.inl (List.mem_map.2 ⟨i.toNat,List.mem_range.2 (by omega),by rw [Int.toNat_of_nonneg h0]⟩))
 have hmemC:∀ i:Int,0≤i→i<C→BU n C (i+1)∈ys:=fun i h0 h1=>by
   rw [D.mem_iff]
   refine List.mem_append.2 (.inr (List.mem_map.2 ⟨i.toNat,List.mem_range.2 (by omega),by rw [Int.toNat_of_nonneg h0]⟩))
 have hb:∀ y∈ys,0≤y∧y≤n:=fun y hy=>by
   rw [D.mem_iff] at hy
   rcases List.mem_append.1 hy with hy | hy <;>
     (obtain ⟨x,_,rfl⟩:=List.mem_map.1 hy; exact ⟨jF.1,jF.2 hn.1⟩)
 -- the two last LM are n
 have hcount:2≤ys.count n:=by
   rw [D.count_eq,List.count_append]
   have e1:BU n R (((R - 1:Nat):Int)+1)=n:=by rw [show (((R - 1:Nat):Int)+1)=(R:Int) by omega]; exact U4 hmR
   have e2:BU n C (((C - 1:Nat):Int)+1)=n:=by rw [show (((C - 1:Nat):Int)+1)=(C:Int) by omega]; exact U4 hmC
   have h1:n∈NB n R R:=List.mem_map.2 ⟨R - 1,List.mem_range.2 (by omega),e1⟩
   have h2:n∈NB n C C:=List.mem_map.2 ⟨C - 1,List.mem_range.2 (by omega),e2⟩
   have:=List.count_pos_iff.2 h1
   have:=List.count_pos_iff.2 h2
   omega
 have V:∀ (i:Nat) (hi:i<ys.length),R+C≤i+2→ys[i]=n:=by
   intro i hi hri
   have h1:=(hb _ (List.getElem_mem hi)).2
   rcases Int.lt_or_le ys[i] n with hlt | hge
   · exfalso
     have:(ys.drop (i+1)).length≤1:=by rw [List.length_drop]; omega
     have hc:ys.count n=(ys.take (i+1)).count n+(ys.drop (i+1)).count n:=by rw [←List.count_append,List.take_append_drop]
     have hz:(ys.take (i+1)).count n=0:=by
       rw [List.count_eq_zero]
       intro hm
       obtain ⟨a,U,hae⟩:=List.getElem_of_mem hm
       rw [List.length_take] at U
       rw [List.getElem_take] at hae
       have:=Z a i (by omega) hi (by omega)
       omega
     have:(ys.drop (i+1)).count n≤(ys.drop (i+1)).length:=List.count_le_length
     omega
   · omega
 refine BV (fun j (x:List AV×Int×Int×Int×Nat)=>∃ (i:Nat) (S:List AV) (l:Int),x=(S,l,l,(i:Int),0)∧i+j=R+C∧SegSp n R C l S∧S.length≤i∧S.length+1≤R+C∧(∀ (a:Nat) (U:a<ys.length),a<i→ys[a]≤l)∧(0≤l∧l≤n)∧(∀ (a:Nat) (U:a<ys.length),a+1=i→ys[a]=l)∧(S=[]∨l∈ys)) (m0:=R+C)
   ⟨0,[],0,rfl,by omega,⟨fun s h=>by simp at h,fun s h=>by simp at h,fun s h=>by simp at h,rfl,fun s h=>by simp at h⟩,by simp,by simp; omega,fun a _ h=>by omega,by omega,fun a _ h=>by omega,.inl rfl⟩ ?_
 rintro j _ next ⟨i,S,l,rfl,hij,Y,hSl,hSl2,hbef,hl,W,hcut⟩ G
 show AD (decide ((i:Int)<(ys.length:Int))) _ _
 rw [hlen]
 refine A0 (fun hi=>?_) (fun hi=>?_)
 · have O:i<ys.length:=by omega
   have ew:A7 ((i:Int)+1)=((i+1:Nat):Int):=by rw [AH (by omega) (by omega)]; simp
   refine AJ O (A0 (fun hgt=>?_) (fun hle'=>?_))
   · have hyn:=(hb _ (List.getElem_mem O)).2
     refine ⟨rfl,?_⟩
     have hin:i+1<R+C:=by
       rcases Nat.lt_or_ge (i+1) (R+C) with J | J
       · exact J
       · exfalso
         have h1:1≤i:=by omega
         have e2:=W (i - 1) (by omega) (by omega)
         have e3:=V (i - 1) (by omega) (by omega)
         omega
     have up:∀ y,y∈ys→l<y→ys[i]≤y:=fun y hy hly=>by
       obtain ⟨a,U,rfl⟩:=List.getElem_of_mem hy
       rcases Nat.lt_or_ge a i with J | J
       · have:=hbef a U J; omega
       · exact Z i a O U J
     refine gE hmR hl.1 (by omega) fun r r0 r1 r2 r3=>gE hmC hl.1 (by omega) fun q q0 q1 q2 q3=>AQ (by simp; omega) ?_
     refine AC rfl ?_
     rw [ew]
     refine G (j - 1) _ (by omega) ⟨i+1,S++[⟨l,ys[i],r,q⟩],ys[i],rfl,by omega,?_,by simp; omega,by simp; omega,fun a U hai=>Z a i U O (by omega),hb _ (List.getElem_mem O),fun a U hai=>by simp only [show a=i by omega],.inr (List.getElem_mem O)⟩
     refine Y.snoc hgt hyn ⟨⟨r0,r1⟩,r2,up _ (hmemR r r0 r1) r3⟩ ⟨⟨q0,q1⟩,q2,up _ (hmemC q q0 q1) q3⟩ fun s hs hse hd=>?_
     have hto:S[s].To=l:=by
       have:=Y.top
       rw [←hse] at this
       have e:BJ S (s+1)=S[s].To:=by show (S.getD s default).To=_; simp [List.getD_eq_getElem?_getD,hs]
       rw [←e]; exact this
     have g1:=(Y.row s hs).2.1
     have g2:=(Y.col s hs).2.1
     have g3:=(Y.lo s hs).2.1
     rw [hd.1] at g1
     rw [hd.2] at g2
     have out:∀ {k:Nat} {z x:Int},BU n k z≤S[s].From→l<BU n k (z+1)→l=BU n k (x+1)→False:=fun {k z x} e1 e2 e3=>by
       rcases Int.lt_or_le z (x+1) with J | J
       · have:=MQ (n:=n) (k:=(k:Int)) (show z+1≤x+1 by omega); omega
       · have:=MQ (n:=n) (k:=(k:Int)) J; omega
     rcases hcut with J | J
     · subst J; simp at hs
     · rw [D.mem_iff] at J
       rcases List.mem_append.1 J with J | J <;> (obtain ⟨x,_,hx⟩:=List.mem_map.1 J)
       · exact out g1 r3 hx.symm
       · exact out g2 q3 hx.symm
   · rw [ew]
     have hy0:=(hb _ (List.getElem_mem O)).1
     have heq:ys[i]=l:=by
       rcases Nat.eq_zero_or_pos i with h0 | h0
       · subst h0
         have hl0:l=0:=by
          have:S=[]:=List.length_eq_zero_iff.1 (by omega)
          subst this
          exact Y.top.symm
         omega
       · have e1:=W (i - 1) (by omega) (by omega)
         have:=Z (i - 1) i (by omega) O (by omega)
         omega
     refine G (j - 1) _ (by omega) ⟨i+1,S,l,by rw [heq],by omega,Y,by omega,hSl2,fun a U hai=>?_,hl,fun a U hai=>?_,hcut⟩
     · by_cases e:a=i
       · subst e; omega
       · exact hbef a U (by omega)
     · simp only [show a=i by omega]; exact heq
 · have hie:i=R+C:=by omega
   have e:=W (R+C - 1) (by omega) (by omega)
   have e2:=V (R+C - 1) (by omega) (by omega)
   refine ⟨rfl,hQ S ?_ hSl2⟩
   rw [←e,e2] at Y
   exact Y
end Go.Proofs.YtbohadngdkjljaaGreat
