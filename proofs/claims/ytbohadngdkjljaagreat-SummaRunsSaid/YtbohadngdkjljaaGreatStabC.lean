import Derived.Test.YtbohadngdkjljaaGreatGemmF
namespace Go.Proofs.YtbohadngdkjljaaGreat
open Go Go.Fw
set_option linter.unusedVariables false
set_option linter.unusedSimpArgs false
def gC (s:List AB) (i:Nat):AB:=s.getD i ⟨0,0,⟨0,0⟩⟩
theorem P0 {s:List AB} {i:Nat} (h:i<s.length):s[i]? = some (gC s i):=by simp [gC,List.getD_eq_getElem?_getD,h]
theorem lQ {s:List AB} {i:Nat} (h:i<s.length):s[i]=gC s i:=by have:=P0 h; rw [List.getElem?_eq_getElem h] at this; exact Option.some.inj this
def yN (s:List AB) (i k:Nat):List AB:=(s.set i (gC s k)).set k (gC s i)
theorem tN (s:List AB) (i k:Nat):(yN s i k).length=s.length:=by simp [yN]
theorem U2 {s:List AB} {i k:Nat} (hi:i<s.length) (hk:k<s.length) (j:Nat):gC (yN s i k) j=if j=k then gC s i else if j=i then gC s k else gC s j:=by
 unfold yN gC
 simp only [List.getD_eq_getElem?_getD]
 by_cases e1:j=k
 · subst e1; rw [if_pos rfl,List.getElem?_set_self (by simpa using hk)]; simp
 · rw [if_neg e1,List.getElem?_set_ne (Ne.symm e1)]
   by_cases e2:j=i
   · subst e2; rw [if_pos rfl,List.getElem?_set_self hi]; simp
   · rw [if_neg e2,List.getElem?_set_ne (Ne.symm e2)]
theorem cC:∀ (l:List AB) (i:Nat) (h:i<l.length) (y:AB),(l[i] :: l.set i y).Perm (y :: l)
 | a :: l,0,_,y=>by simpa using List.Perm.swap y a l
 | a :: l,i+1,h,y=>by
  have:=cC l i (by simpa using h) y
  simp only [List.getElem_cons_succ,List.set_cons_succ]
  exact (List.Perm.swap _ _ _).trans ((this.cons a).trans (List.Perm.swap _ _ _))
theorem oS {s:List AB} {i k:Nat} (hi:i<s.length) (hk:k<s.length):(yN s i k).Perm s:=by
 have J:=lQ hi
 have O:=lQ hk
 have h:=cC s i hi (gC s k)
 have D:=cC (s.set i (gC s k)) k (by simpa using hk) (gC s i)
 have G:(s.set i (gC s k))[k]'(by simpa using hk)=gC s k:=by
  rw [List.getElem_set]; split
  · rfl
  · exact O
 rw [G] at D; rw [J] at h
 exact List.Perm.cons_inv (D.trans h)
theorem ZX {s:List AB} {i k:Nat} {K:List AB→Prop} (hi:i<s.length) (hk:k<s.length) (h:K (yN s i k)) :
  AN s (k:Int) fun x=>AN s (i:Int) fun y=>AN s (i:Int) fun _=>AN (s.set (i:Int).toNat x) (k:Int) fun _=>K ((s.set (i:Int).toNat x).set (k:Int).toNat y):=by
 refine AA (x:=gC s k) (by omega) (P0 hk) (AA (x:=gC s i) (by omega) (P0 hi) (AA (x:=gC s i) (by omega) (P0 hi) ?_))
 exact AJ (by simpa using hk) h
def fP (a b:AB):Prop:=¬SR b a
theorem KC {a b c:AB} (h1:fP a b) (h2:fP b c):fP a c:=by unfold fP SR MA at *; simp only at *; omega
theorem yO (a:AB):fP a a:=by unfold fP SR MA; simp only; omega
theorem lR {a b:AB} (h:SR a b):fP a b:=by unfold fP SR MA at *; simp only at *; omega
theorem AdQ {x y:AB} {A B:Prop} (J:SR x y→A) (G:¬SR x y→B):EC x y fun r=>AD (decide (r<0)) A B:=by
 unfold EC
 exact GZ (GZ (iW (A0 (fun h=>J ((S1 x y).1 h)) (fun h=>G fun D=>h ((S1 x y).2 D)))))
theorem oT {x y:AB} {A B:Prop} (J:¬SR x y→A) (G:SR x y→B):EC x y fun r=>AD (!(decide (r<0))) A B:=by
 unfold EC
 exact GZ (GZ (iW (BN (fun h=>J fun D=>of_decide_eq_false h ((S1 x y).2 D)) (fun h=>G ((S1 x y).1 (of_decide_eq_true h))))))
def cD (s:List AB) (a b:Nat):Prop:=∀ i j,a≤i→i<j→j<b→fP (gC s i) (gC s j)
structure SpC (a b:Nat) (s t:List AB):Prop where
 len:t.length=s.length
 perm:t.Perm s
 out:∀ i,i<a∨b≤i→gC t i=gC s i
 mem:∀ i,a≤i→i<b→∃ j,a≤j∧j<b∧gC t i=gC s j
theorem SpC.refl (a b:Nat) (s:List AB):SpC a b s s:=⟨rfl,.refl _,fun _ _=>rfl,fun i D h=>⟨i,D,h,rfl⟩⟩
theorem SpC.trans {a b:Nat} {s t u:List AB} (h:SpC a b s t) (D:SpC a b t u):SpC a b s u:=
 ⟨D.len.trans h.len,D.perm.trans h.perm,fun i hi=>(D.out i hi).trans (h.out i hi),fun i V W=>by
  obtain ⟨j,Y,G,e⟩:=D.mem i V W
  obtain ⟨k,J,U,O⟩:=h.mem j Y G
  exact ⟨k,J,U,e.trans O⟩⟩
theorem SpC.wide {a b a' b':Nat} {s t:List AB} (h:SpC a b s t) (ha:a'≤a) (hb:b≤b'):SpC a' b' s t:=
 ⟨h.len,h.perm,fun i hi=>h.out i (by omega),fun i D G=>by
  by_cases c:a≤i∧i<b
  · obtain ⟨j,h3,h4,e⟩:=h.mem i c.1 c.2
    exact ⟨j,by omega,by omega,e⟩
  · exact ⟨i,D,G,h.out i (by omega)⟩⟩
theorem SpC.swap {a b i k:Nat} {s:List AB} (hb:b≤s.length) (hi:a≤i∧i<b) (hk:a≤k∧k<b):SpC a b s (yN s i k):=
 ⟨tN s i k,oS (by omega) (by omega),fun j hj=>by
  rw [U2 (by omega) (by omega),if_neg (by omega),if_neg (by omega)],fun j D h=>by
  rw [U2 (by omega) (by omega)]
  by_cases e:j=k
  · rw [if_pos e]; exact ⟨i,hi.1,hi.2,rfl⟩
  · rw [if_neg e]
    by_cases e':j=i
    · rw [if_pos e']; exact ⟨k,hk.1,hk.2,rfl⟩
    · rw [if_neg e']; exact ⟨j,D,h,rfl⟩⟩
theorem U3 {i:Nat} (h0:0<i) (h1:i≤1000000000000):A7 ((i:Int) - 1)=((i - 1:Nat):Int):=by rw [AH (by omega) (by omega)]; omega
theorem YN {i:Nat} (h1:i≤1000000000000):A7 ((i:Int)+1)=((i+1:Nat):Int):=by rw [AH (by omega) (by omega)]; omega
theorem ZY {i k:Nat} (h1:i≤1000000000000) (h2:k≤1000000000000):A7 ((i:Int)+(k:Int))=((i+k:Nat):Int):=by rw [AH (by omega) (by omega)]; omega
theorem S2 {i k:Nat} (h0:k≤i) (h1:i≤1000000000000):A7 ((i:Int) - (k:Int))=((i - k:Nat):Int):=by rw [AH (by omega) (by omega)]; omega
theorem tO {s:List AB} {a b:Nat} {Q:List AB→Prop} (hb:b≤s.length) (hl:s.length≤1000000000) (ha:a≤b) (hQ:∀ t,SpC a b s t→cD t a b→Q t):BT s a b Q:=by
 unfold BT
 rw [YN (by omega)]
 refine DA (fun h:List AB×Int=>∃ i:Nat,h.2=i∧a+1≤i∧(i≤b∨i=a+1)∧SpC a b s h.1∧cD h.1 a i) (fun h=>b - h.2.toNat) ⟨a+1,rfl,Nat.le_refl _,.inr rfl,.refl _ _ _,fun i j h1 h2 h3=>by omega⟩ ?_
 rintro ⟨t,_⟩ next ⟨i,rfl,h1,h2,hp,hs⟩ hn
 dsimp only at hp hs ⊢
 have hlen:=hp.len
 refine A0 (fun hib=>?_) (fun hib=>hQ t hp fun p q Z Y g3=>hs p q Z Y (by omega))
 have U:∀ u:List AB,SpC a b s u→cD u a (i+1)→next (u,A7 ((i:Int)+1)):=fun u J hsu=>by
   rw [YN (by omega)]
   exact hn _ ⟨i+1,rfl,by omega,.inl (by omega),J,hsu⟩ (by dsimp only; omega)
 refine DA (fun h:List AB×Int=>∃ j:Nat,h.2=j∧a≤j∧j≤i∧SpC a b s h.1∧∀ p q,a≤p→p<q→q≤i→q≠j→fP (gC h.1 p) (gC h.1 q)) (fun h=>h.2.toNat) ⟨i,rfl,by omega,Nat.le_refl _,hp,fun p q Z Y g3 g4=>hs p q Z Y (by omega)⟩ ?_
 rintro ⟨u,_⟩ nx ⟨j,rfl,Z,Y,J,D⟩ hx
 dsimp only at J D ⊢
 have hul:=J.len
 refine A0 (fun haj=>?_) (fun haj=>U u J fun p q G W O=>D p q G W (by omega) (by omega))
 rw [U3 (by omega) (by omega)]
 refine AA (x:=gC u j) (by omega) (P0 (by omega)) (AA (x:=gC u (j - 1)) (by omega) (P0 (by omega)) (AdQ (fun hlt=>ZX (s:=u) (i:=j) (k:=j - 1) (K:=fun l=>nx (l,((j - 1:Nat):Int))) (by omega) (by omega) ?_) (fun V=>U u J fun p q G W O=>?_)))
 · refine hx (yN u j (j - 1),((j - 1:Nat):Int)) ⟨j - 1,rfl,by omega,by omega,J.trans (SpC.swap (s:=u) (i:=j) (k:=j - 1) (by omega) (by omega) (by omega)),fun p q G W O k4=>?_⟩ (by dsimp only; omega)
   dsimp only
   rw [U2 (by omega) (by omega),U2 (by omega) (by omega)]
   rw [if_neg k4]
   by_cases e:q=j
   · rw [if_pos e]
     by_cases e':p=j - 1
     · rw [if_pos e']; exact lR hlt
     · rw [if_neg e',if_neg (by omega)]; exact D p (j - 1) G (by omega) (by omega) (by omega)
   · rw [if_neg e]
     by_cases e':p=j - 1
     · rw [if_pos e']; exact D j q (by omega) (by omega) O e
     · rw [if_neg e']
       by_cases e'':p=j
       · rw [if_pos e'']; exact D (j - 1) q (by omega) (by omega) O e
       · rw [if_neg e'']; exact D p q G W O e
 · by_cases e:q=j
   · subst e
     by_cases e':p=q - 1
     · subst e'; exact V
     · exact KC (D p (q - 1) G (by omega) (by omega) (by omega)) V
   · exact D p q G W (by omega) e
theorem cE {s:List AB} {a b n:Nat} {Q:List AB→Prop} (W:a+n≤b) (hb:b+n≤s.length) (hl:s.length≤1000000000)
   (J:∀ t,t.length=s.length→t.Perm s→(∀ i,gC t i=if a≤i∧i<a+n then gC s (b+(i - a)) else if b≤i∧i<b+n then gC s (a+(i - b)) else gC s i)→Q t):BS s a b n Q:=by
 unfold BS
 refine B3 (fun (t:List AB) k=>(t,k)) 0 n (by omega) (fun k t=>t.length=s.length∧t.Perm s∧∀ i,gC t i=if a≤i∧i<a+k then gC s (b+(i - a)) else if b≤i∧i<b+k then gC s (a+(i - b)) else gC s i) (by omega) ⟨rfl,.refl _,fun i=>by rw [if_neg (by omega),if_neg (by omega)]⟩ (fun k t next _ hk D U=>?_) (fun t next D=>?_)
 · obtain ⟨O,V,G⟩:=D
   dsimp only
   refine A0 (fun _=>?_) (fun h=>by omega)
   rw [ZY (by omega) (by omega),ZY (by omega) (by omega)]
   refine ZX (s:=t) (i:=a+k) (k:=b+k) (K:=fun l=>next (l,A7 ((k:Int)+1))) (by omega) (by omega) (U (yN t (a+k) (b+k)) ⟨(tN _ _ _).trans O,(oS (by omega) (by omega)).trans V,fun i=>?_⟩)
   rw [U2 (by omega) (by omega),G,G,G]
   repeat' split
   all_goals first | with_reducible rfl | (exfalso; omega) | (congr 1; omega)
 · exact A0 (fun h=>by omega) (fun _=>J t D.1 D.2.1 D.2.2)
def XB (s:List AB) (a m b x:Nat):AB:=if a≤x∧x<a+(b - m) then gC s (x+(m - a)) else if a+(b - m)≤x∧x<b then gC s (x - (b - m)) else gC s x
theorem Ab1 {s:List AB} {a m b:Nat} {Q:List AB→Prop} (h1:a<m) (h2:m<b) (hb:b≤s.length) (hl:s.length≤1000000000)
   (hQ:∀ t,t.length=s.length→t.Perm s→(∀ x,gC t x=XB s a m b x)→Q t):D1 s a m b Q:=by
 unfold D1
 rw [S2 (by omega) (by omega),S2 (by omega) (by omega)]
 refine DA (fun J:List AB×Int×Int=>∃ i j:Nat,J.2.1=i∧J.2.2=j∧0<i∧0<j∧i≤m - a∧j≤b - m∧J.1.length=s.length∧J.1.Perm s∧∀ x,XB J.1 (m - i) m (m+j) x=XB s a m b x) (fun J=>J.2.1.toNat+J.2.2.toNat)
   ⟨m - a,b - m,rfl,rfl,by omega,by omega,Nat.le_refl _,Nat.le_refl _,rfl,.refl _,fun x=>by dsimp only; rw [show m - (m - a)=a by omega,show m+(b - m)=b by omega]⟩ ?_
 rintro ⟨t,_,_⟩ next ⟨i,j,rfl,rfl,i0,j0,i1,j1,D,hp,V⟩ hn
 dsimp only at D hp V ⊢
 rw [S2 (i:=m) (k:=i) (by omega) (by omega)]
 refine CB (fun Y=>A0 (fun W=>?_) (fun W=>?_)) (fun he=>?_)
 · refine cE (by omega) (by omega) (by omega) fun u O U G=>?_
   rw [S2 (by omega) (by omega)]
   refine hn _ ⟨i - j,j,rfl,rfl,by omega,j0,by omega,j1,O.trans D,U.trans hp,fun x=>?_⟩ (by dsimp only; omega)
   rw [←V x]
   dsimp only
   unfold XB
   rw [G,G,G]
   repeat' split
   all_goals first | with_reducible rfl | (exfalso; omega) | (congr 1; omega)
 · rw [ZY (by omega) (by omega),S2 (by omega) (by omega)]
   have hne':i≠j:=fun h=>Y (by rw [h])
   refine cE (by omega) (by omega) (by omega) fun u O U G=>?_
   rw [S2 (by omega) (by omega)]
   refine hn _ ⟨i,j - i,rfl,rfl,i0,by omega,i1,by omega,O.trans D,U.trans hp,fun x=>?_⟩ (by dsimp only; omega)
   rw [←V x]
   dsimp only
   unfold XB
   rw [G,G,G]
   repeat' split
   all_goals first | with_reducible rfl | (exfalso; omega) | (congr 1; omega)
 · have Z:i=j:=by omega
   subst Z
   refine cE (by omega) (by omega) (by omega) fun u O U G=>hQ u (O.trans D) (U.trans hp) fun x=>?_
   rw [←V x,G]
   unfold XB
   repeat' split
   all_goals first | with_reducible rfl | (exfalso; omega) | (congr 1; omega)
theorem lS {T:Nat→Prop} {D:Int×Int→((Int×Int)→Prop)→Prop} {lo hi:Nat} (Z:lo≤hi)
   (Y:∀ (i j:Nat) (next:Int×Int→Prop),lo≤i→i<j→j≤hi→(T ((i+j) / 2)→next ((((i+j) / 2+1:Nat):Int),(j:Int)))→(¬T ((i+j) / 2)→next ((i:Int),(((i+j) / 2:Nat):Int)))→D ((i:Int),(j:Int)) next)
   (he:∀ (i:Nat) (next:Int×Int→Prop),lo≤i→i≤hi→(lo<i→T (i - 1))→(i<hi→¬T i)→D ((i:Int),(i:Int)) next):B2 D ((lo:Int),(hi:Int)):=by
 refine DA (fun G:Int×Int=>∃ i j:Nat,G=((i:Int),(j:Int))∧lo≤i∧i≤j∧j≤hi∧(lo<i→T (i - 1))∧(j<hi→¬T j)) (fun G=>(G.2 - G.1).toNat) ⟨lo,hi,rfl,Nat.le_refl _,Z,Nat.le_refl _,fun h=>by omega,fun h=>by omega⟩ ?_
 rintro _ next ⟨i,j,rfl,O,h2,U,V,W⟩ hn
 by_cases e:i=j
 · subst e; exact he i next O U V W
 · refine Y i j next O (by omega) U (fun J=>hn _ ⟨(i+j) / 2+1,j,rfl,by omega,by omega,U,fun _=>by rw [Nat.add_sub_cancel]; exact J,W⟩ (by dsimp only; omega)) (fun J=>hn _ ⟨i,(i+j) / 2,rfl,O,by omega,by omega,V,fun _=>J⟩ (by dsimp only; omega))
theorem tP {i j:Nat} (h1:i≤1000000000000) (h2:j≤1000000000000):A7 (shr .u64 (IntKind.wrap .u64 (A7 ((i:Int)+(j:Int)))) 1)=(((i+j) / 2:Nat):Int):=by
 rw [AH (x:=(i:Int)+j) (by omega) (by omega),nQ (by omega) (by omega)]
 have:shr .u64 ((i:Int)+j) 1=((i:Int)+j) / 2:=by
  show ((i:Int)+j).fdiv (2 ^ 1)=_
  rw [Int.fdiv_eq_ediv_of_nonneg _ (by decide)]; rfl
 rw [this,AH (by omega) (by omega)]; omega
def rK (rc:List AB→Int→Int→Int→(List AB→Prop)→Prop) (N:Nat):Prop:=∀ {s:List AB} {a m b:Nat} {Q:List AB→Prop},a<m→m<b→b≤s.length→s.length≤1000000000→b - a≤N→cD s a m→cD s m b →
 (∀ t,SpC a b s t→cD t a b→Q t)→rc s a m b Q
theorem oU {s:List AB} {a m b x:Nat} (h:¬a<m∨¬m<b) (h1:a≤m) (h2:m≤b):XB s a m b x=gC s x:=by
 unfold XB
 repeat' split
 all_goals first | with_reducible rfl | (exfalso; omega) | (congr 1; omega)
theorem AcU {s t:List AB} {a m b:Nat} (h1:a≤m) (h2:m≤b) (D:t.length=s.length) (hp:t.Perm s) (h:∀ x,gC t x=XB s a m b x):SpC a b s t:=
 ⟨D,hp,fun i hi=>by rw [h]; unfold XB; rw [if_neg (by omega),if_neg (by omega)],fun i g1 g2=>by
  rw [h]; unfold XB
  by_cases c:a≤i∧i<a+(b - m)
  · rw [if_pos c]; exact ⟨_,by omega,by omega,rfl⟩
  · rw [if_neg c,if_pos (by omega)]; exact ⟨_,by omega,by omega,rfl⟩⟩
theorem Ab2 {s:List AB} {a b:Nat} {Q:List AB→Prop} (h2:a+1<b) (hb:b≤s.length) (hl:s.length≤1000000000) (O:cD s (a+1) b) (hQ:∀ t,SpC a b s t→cD t a b→Q t)
   {rc:List AB→Int→Int→Int→(List AB→Prop)→Prop}:B8 rc s a ((a+1:Nat):Int) b Q:=by
 unfold B8
 rw [S2 (i:=a+1) (k:=a) (by omega) (by omega)]
 refine BB (fun _=>?_) (fun h=>by omega)
 refine lS (T:=fun c=>SR (gC s c) (gC s a)) (by omega) (fun i j next g1 g2 g3 Y V=>?_) (fun i next g1 g2 Y V=>?_)
 · dsimp only
   rw [tP (by omega) (by omega)]
   refine A0 (fun _=>AA (x:=gC s ((i+j) / 2)) (by omega) (P0 (by omega)) (AA (x:=gC s a) (by omega) (P0 (by omega)) (AdQ (fun h=>?_) (fun h=>V h)))) (fun h=>by omega)
   rw [YN (by omega)]; exact Y h
 · dsimp only
   refine A0 (fun h=>by omega) (fun _=>?_)
   rw [U3 (i:=i) (by omega) (by omega)]
   refine B3 (fun (t:List AB) k=>(t,k)) a (i - 1) (by omega) (fun k t=>SpC a b s t∧∀ x,gC t x=if a≤x∧x<k then gC s (x+1) else if x=k then gC s a else gC s x) (by omega) ⟨.refl _ _ _,fun x=>by
     rw [if_neg (by omega)]; split
     · rename_i e; rw [e]
     · rfl⟩ (fun k t nx k1 k2 Z hx=>?_) (fun t nx Z=>?_)
   · obtain ⟨U,D⟩:=Z
     have hlen:=U.len
     dsimp only
     refine A0 (fun _=>?_) (fun h=>by omega)
     rw [YN (i:=k) (by omega)]
     refine ZX (s:=t) (i:=k) (k:=k+1) (K:=fun l=>nx (l,((k+1:Nat):Int))) (by omega) (by omega) ?_
     have:=hx (yN t k (k+1)) ⟨U.trans (SpC.swap (s:=t) (i:=k) (k:=k+1) (by omega) (by omega) (by omega)),fun x=>?_⟩
     · rw [YN (i:=k) (by omega)] at this; exact this
     · rw [U2 (by omega) (by omega),D,D,D]
       repeat' split
       all_goals first | with_reducible rfl | (exfalso; omega) | (congr 1; omega)
   · obtain ⟨U,D⟩:=Z
     dsimp only
     refine A0 (fun h=>by omega) (fun _=>hQ t U fun p q p1 p2 p3=>?_)
     rw [D,D]
     have W:∀ x,a+1≤x→x<i→fP (gC s x) (gC s a):=fun x x1 x2=>by
       have G:=lR (Y (by omega))
       by_cases e:x=i - 1
       · subst e; exact G
       · exact KC (O x (i - 1) x1 (by omega) (by omega)) G
     have J:∀ x,i≤x→x<b→fP (gC s a) (gC s x):=fun x x1 x2=>by
       have G:fP (gC s a) (gC s i):=V (by omega)
       by_cases e:x=i
       · subst e; exact G
       · exact KC G (O i x (by omega) (by omega) x2)
     by_cases c1:p<i - 1
     · rw [if_pos ⟨p1,c1⟩]
       by_cases c2:q<i - 1
       · rw [if_pos ⟨by omega,c2⟩]; exact O _ _ (by omega) (by omega) (by omega)
       · rw [if_neg (by omega)]
         by_cases c3:q=i - 1
         · rw [if_pos c3]; exact W _ (by omega) (by omega)
         · rw [if_neg c3]; exact O _ _ (by omega) (by omega) p3
     · rw [if_neg (by omega)]
       rw [if_neg (c:=a≤q∧q<i - 1) (by omega),if_neg (c:=q=i - 1) (by omega)]
       by_cases c3:p=i - 1
       · rw [if_pos c3]; exact J _ (by omega) p3
       · rw [if_neg c3]; exact O _ _ (by omega) p2 p3
theorem yP {s:List AB} {a m:Nat} {Q:List AB→Prop} (D:a+1<m) (hb:m+1≤s.length) (hl:s.length≤1000000000) (U:cD s a m) (hQ:∀ t,SpC a (m+1) s t→cD t a (m+1)→Q t)
   {rc:List AB→Int→Int→Int→(List AB→Prop)→Prop}:B8 rc s a m ((m+1:Nat):Int) Q:=by
 unfold B8
 rw [S2 (i:=m) (k:=a) (by omega) (by omega),S2 (i:=m+1) (k:=m) (by omega) (by omega)]
 refine BB (fun h=>by omega) (fun _=>BB (fun _=>?_) (fun h=>by omega))
 refine lS (T:=fun c=>¬SR (gC s m) (gC s c)) (by omega) (fun i j next g1 g2 g3 ht Z=>?_) (fun i next g1 g2 ht Z=>?_)
 · dsimp only
   rw [tP (by omega) (by omega)]
   refine A0 (fun _=>AA (x:=gC s m) (by omega) (P0 (by omega)) (AA (x:=gC s ((i+j) / 2)) (by omega) (P0 (by omega)) (oT (fun h=>?_) (fun h=>Z fun h'=>h' h)))) (fun h=>by omega)
   rw [YN (by omega)]; exact ht h
 · dsimp only
   refine A0 (fun h=>by omega) (fun _=>?_)
   refine DA (fun O:List AB×Int=>∃ k:Nat,O.2=k∧i≤k∧k≤m∧SpC a (m+1) s O.1∧∀ x,gC O.1 x=if x=k then gC s m else if k<x∧x≤m then gC s (x - 1) else gC s x) (fun O=>O.2.toNat) ⟨m,rfl,g2,Nat.le_refl _,.refl _ _ _,fun x=>by
     dsimp only
     by_cases e:x=m
     · rw [if_pos e,e]
     · rw [if_neg e,if_neg (by omega)]⟩ ?_
   rintro ⟨t,_⟩ nx ⟨k,rfl,k1,k2,V,G⟩ hx
   dsimp only at V G ⊢
   have hlen:=V.len
   refine A0 (fun W=>?_) (fun W=>hQ t V fun p q p1 p2 p3=>?_)
   · rw [U3 (i:=k) (by omega) (by omega)]
     refine ZX (s:=t) (i:=k) (k:=k - 1) (K:=fun l=>nx (l,((k - 1:Nat):Int))) (by omega) (by omega) ?_
     refine hx (yN t k (k - 1),((k - 1:Nat):Int)) ⟨k - 1,rfl,by omega,by omega,V.trans (SpC.swap (s:=t) (i:=k) (k:=k - 1) (by omega) (by omega) (by omega)),fun x=>?_⟩ (by dsimp only; omega)
     dsimp only
     rw [U2 (by omega) (by omega),G,G,G]
     repeat' split
     all_goals first | with_reducible rfl | (exfalso; omega) | (congr 1; omega)
   · have Y:k=i:=by omega
     subst Y
     rw [G,G]
     have low:∀ x,a≤x→x<k→fP (gC s x) (gC s m):=fun x x1 x2=>by
       have D:fP (gC s (k - 1)) (gC s m):=ht (by omega)
       by_cases e:x=k - 1
       · subst e; exact D
       · exact KC (U x (k - 1) x1 (by omega) (by omega)) D
     have J:∀ x,k≤x→x<m→fP (gC s m) (gC s x):=fun x x1 x2=>by
       have D:fP (gC s m) (gC s k):=lR (Classical.not_not.1 (Z (by omega)))
       by_cases e:x=k
       · subst e; exact D
       · exact KC D (U k x (by omega) (by omega) x2)
     by_cases c1:p=k
     · rw [if_pos c1,if_neg (by omega),if_pos (by omega)]
       exact J _ (by omega) (by omega)
     · rw [if_neg c1]
       by_cases c2:k<p
       · rw [if_pos (by omega),if_neg (by omega),if_pos (by omega)]
         exact U _ _ (by omega) (by omega) (by omega)
       · rw [if_neg (by omega)]
         by_cases c3:q=k
         · rw [if_pos c3]; exact low _ p1 (by omega)
         · rw [if_neg c3]
           by_cases c4:k<q
           · rw [if_pos (by omega)]; exact U _ _ p1 (by omega) (by omega)
           · rw [if_neg (by omega)]; exact U _ _ p1 p2 (by omega)
theorem yQ {rc:List AB→Int→Int→Int→(List AB→Prop)→Prop} {N:Nat} (ih:rK rc N):rK (B8 rc) (N+1):=by
 intro s a m b Q h1 h2 hb hl hN hA hB hQ
 by_cases c1:m=a+1
 · subst c1; exact Ab2 h2 hb hl hB hQ
 by_cases c2:b=m+1
 · subst c2; exact yP (by omega) hb hl hA hQ
 unfold B8
 rw [S2 (i:=m) (k:=a) (by omega) (by omega),S2 (i:=b) (k:=m) (by omega) (by omega),tP (i:=a) (j:=b) (by omega) (by omega)]
 generalize hmid:(a+b) / 2=D
 rw [ZY (i:=D) (k:=m) (by omega) (by omega),U3 (i:=D+m) (by omega) (by omega)]
 refine BB (fun h=>by omega) (fun _=>BB (fun h=>by omega) (fun _=>?_))
 refine CA (fun t:Int×Int=>∃ lo hi:Nat,t=((lo:Int),(hi:Int))∧a≤lo∧lo≤hi∧hi≤D∧hi≤m∧(lo=a∨D+m - lo=b)∧(hi=D∨hi=m)∧D+m - lo≤b) (fun t ht=>?_) fun k hk=>?_
 · obtain ⟨lo,hi,rfl,q1,q2,q3,q4,q5,q6,q7⟩:=ht
   dsimp only
   refine lS (T:=fun c=>¬SR (gC s (D+m - 1 - c)) (gC s c)) q2 (fun i j next g1 g2 g3 ht hf=>?_) (fun O next g1 g2 ht hf=>?_)
   · dsimp only
     rw [tP (by omega) (by omega),S2 (i:=D+m - 1) (k:=(i+j) / 2) (by omega) (by omega)]
     refine A0 (fun _=>AA (x:=gC s (D+m - 1 - (i+j) / 2)) (by omega) (P0 (by omega)) (AA (x:=gC s ((i+j) / 2)) (by omega) (P0 (by omega)) (oT (fun h=>?_) (fun h=>hf fun h'=>h' h)))) (fun h=>by omega)
     rw [YN (by omega)]; exact ht h
   · dsimp only
     refine A0 (fun h=>by omega) (fun _=>?_)
     rw [S2 (i:=D+m) (k:=O) (by omega) (by omega)]
     generalize hen:D+m - O=U
     refine CA (fun t:List AB=>t.length=s.length∧t.Perm s∧∀ x,gC t x=XB s O m U x) (fun t ht'=>?_) fun k' hk'=>?_
     · obtain ⟨t1,t2,t3⟩:=ht'
       have hsp:SpC a b s t:=(AcU (by omega) (by omega) t1 t2 t3).wide (by omega) (by omega)
       have v1:∀ x,x<O→gC t x=gC s x:=fun x hx=>by rw [t3]; unfold XB; rw [if_neg (by omega),if_neg (by omega)]
       have v2:∀ x,O≤x→x<D→gC t x=gC s (x+(m - O)):=fun x hx hx'=>by rw [t3]; unfold XB; rw [if_pos (by omega)]
       have v3:∀ x,D≤x→x<U→gC t x=gC s (x - (D - O)):=fun x hx hx'=>by rw [t3]; unfold XB; rw [if_neg (by omega),if_pos (by omega)]; congr 1; omega
       have v4:∀ x,U≤x→gC t x=gC s x:=fun x hx=>by rw [t3]; unfold XB; rw [if_neg (by omega),if_neg (by omega)]
       have sA:cD t a O:=fun p q J p2 p3=>by rw [v1 p (by omega),v1 q p3]; exact hA p q J p2 (by omega)
       have sB:cD t O D:=fun p q J p2 p3=>by rw [v2 p J (by omega),v2 q (by omega) p3]; exact hB _ _ (by omega) (by omega) (by omega)
       have sC:cD t D U:=fun p q J p2 p3=>by rw [v3 p J (by omega),v3 q (by omega) p3]; exact hA _ _ (by omega) (by omega) (by omega)
       have sD:cD t U b:=fun p q J p2 p3=>by rw [v4 p J,v4 q (by omega)]; exact hB p q (by omega) p2 p3
       have G:∀ {lo' hi':Nat},cD s lo' hi'→∀ p q,lo'≤p→p≤q→q<hi'→fP (gC s p) (gC s q):=fun h p q J p2 p3=>by
         by_cases e:p=q
         · subst e; exact yO _
         · exact h p q J (by omega) p3
       have cross:∀ x y,a≤x→x<D→D≤y→y<b→fP (gC t x) (gC t y):=fun x y x1 x2 y1 y2=>by
         by_cases Y:x<O
         · rw [v1 x Y]
           by_cases V:y<U
           · rw [v3 y y1 V]; exact G hA _ _ x1 (by omega) (by omega)
           · rw [v4 y (by omega)]
             have hT:=ht (by omega)
             have e:D+m - 1 - (O - 1)=U:=by omega
             rw [e] at hT
             exact KC (G hA x (O - 1) x1 (by omega) (by omega)) (KC hT (G hB U y (by omega) (by omega) y2))
         · rw [v2 x (by omega) x2]
           by_cases V:y<U
           · rw [v3 y y1 V]
             have hT:=lR (Classical.not_not.1 (hf (by omega)))
             have e:D+m - 1 - O=U - 1:=by omega
             rw [e] at hT
             exact KC (G hB _ (U - 1) (by omega) (by omega) (by omega)) (KC hT (G hA O _ (by omega) (by omega) (by omega)))
           · rw [v4 y (by omega)]; exact G hB _ _ (by omega) (by omega) y2
       refine CA (fun u:List AB=>SpC a D t u∧cD u a D) (fun u hu=>?_) fun k'' W=>?_
       · obtain ⟨Z,u2⟩:=hu
         have ul:=Z.len
         have fin:∀ w,SpC D b u w→cD w D b→Q w:=fun w w1 w2=>hQ w ((hsp.trans (Z.wide (Nat.le_refl _) (by omega))).trans (w1.wide (by omega) (Nat.le_refl _))) fun p q J p2 p3=>by
           by_cases Y:q<D
           · rw [w1.out p (.inl (by omega)),w1.out q (.inl Y)]; exact u2 p q J p2 Y
           · by_cases V:D≤p
             · exact w2 p q V p2 p3
             · rw [w1.out p (.inl (by omega))]
               obtain ⟨p',z1,z2,e1⟩:=Z.mem p J (by omega)
               obtain ⟨q',z3,z4,e2⟩:=w1.mem q (by omega) p3
               rw [e1,e2,Z.out q' (.inr z3)]
               exact cross p' q' z1 z2 z3 z4
         have sC':cD u D U:=fun p q J p2 p3=>by rw [Z.out p (.inr J),Z.out q (.inr (by omega))]; exact sC p q J p2 p3
         have sD':cD u U b:=fun p q J p2 p3=>by rw [Z.out p (.inr (by omega)),Z.out q (.inr (by omega))]; exact sD p q J p2 p3
         refine A0 (fun Y=>A0 (fun V=>?_) (fun V=>?_)) (fun Y=>?_)
         · exact ih (by omega) (by omega) (by omega) (by omega) (by omega) sC' sD' fin
         · exact fin u (.refl _ _ _) fun p q J p2 p3=>sC' p q J p2 (by omega)
         · exact fin u (.refl _ _ _) fun p q J p2 p3=>sD' p q (by omega) p2 p3
       · refine A0 (fun Y=>A0 (fun V=>?_) (fun V=>?_)) (fun Y=>?_)
         · exact ih (by omega) (by omega) (by omega) (by omega) (by omega) sA sB fun u Z u2=>W u ⟨Z,u2⟩
         · exact W t ⟨.refl _ _ _,fun p q J p2 p3=>sA p q J p2 (by omega)⟩
         · exact W t ⟨.refl _ _ _,fun p q J p2 p3=>sB p q (by omega) p2 p3⟩
     · refine A0 (fun Y=>A0 (fun V=>?_) (fun V=>?_)) (fun Y=>?_)
       · exact Ab1 (by omega) (by omega) (by omega) hl fun t t1 t2 t3=>hk' t ⟨t1,t2,t3⟩
       · exact hk' s ⟨rfl,.refl _,fun x=>(oU (.inr (by omega)) (by omega) (by omega)).symm⟩
       · exact hk' s ⟨rfl,.refl _,fun x=>(oU (.inl (by omega)) (by omega) (by omega)).symm⟩
 · refine A0 (fun d=>?_) (fun d=>hk _ ⟨a,m,rfl,by omega,by omega,by omega,by omega,.inl rfl,.inr rfl,by omega⟩)
   rw [S2 (i:=D+m) (k:=b) (by omega) (by omega)]
   exact hk _ ⟨D+m - b,D,rfl,by omega,by omega,by omega,by omega,.inr (by omega),.inl rfl,by omega⟩
theorem yR:∀ k:Nat,rK (CM k) k
 | 0=>fun h1 h2 _ _ hN=>by omega
 | k+1=>yQ (yR k)
theorem yS {s:List AB} {a m b:Nat} {Q:List AB→Prop} (V:a<m) (U:m<b) (h:b≤s.length) (O:s.length≤1000000000) (G:cD s a m) (D:cD s m b) (J:∀ t,SpC a b s t→cD t a b→Q t):CT s a m b Q:=
 ⟨b - a,yR (b - a) V U h O (Nat.le_refl _) G D J⟩
def BlkC (t:List AB) (bs n d:Nat):Prop:=∀ i j,d*bs≤i→i<j→j<d*bs+bs→j<n→fP (gC t i) (gC t j)
theorem BlkC.same {t u:List AB} {bs n d:Nat} (h:BlkC t bs n d) (he:∀ i,d*bs≤i→i<d*bs+bs→gC u i=gC t i):BlkC u bs n d:=fun i j G O D J=>by rw [he i G (by omega),he j (by omega) D]; exact h i j G O D J
theorem yT {s:List AB} {Q:List AB→Prop} (hl:s.length≤1000000000) (hQ:∀ t,t.Perm s→cD t 0 s.length→Q t):C0 s Q:=by
 unfold C0 E9
 refine DA (fun O:List AB×Int×Int=>∃ c:Nat,O.2.1=((20*c:Nat):Int)∧O.2.2=((20*c+20:Nat):Int)∧20*c≤s.length∧SpC 0 s.length s O.1∧∀ d,d<c→cD O.1 (20*d) (20*d+20)) (fun O=>s.length - O.2.1.toNat)
   ⟨0,rfl,rfl,by omega,.refl _ _ _,fun d h=>by omega⟩ ?_
 rintro ⟨t,_,_⟩ next ⟨c,rfl,rfl,h1,U,W⟩ hn
 dsimp only at U W ⊢
 have hlt:=U.len
 refine A0 (fun hb=>?_) (fun hb=>?_)
 · refine tO (by omega) (by omega) (by omega) fun u u1 u2=>?_
   rw [show (20:Int)=((20:Nat):Int) from rfl,ZY (by omega) (by omega)]
   refine hn _ ⟨c+1,by dsimp only; congr 1,by dsimp only; congr 1,by omega,U.trans (u1.wide (by omega) (by omega)),fun d hd=>?_⟩ (by dsimp only; omega)
   dsimp only
   by_cases e:d=c
   · subst e; exact u2
   · intro i j G D J
     rw [u1.out i (.inl (by omega)),u1.out j (.inl (by omega))]
     exact W d (by omega) i j G D J
 · refine tO (by omega) (by omega) (by omega) fun u u1 u2=>?_
   have h4:∀ d,BlkC u 20 s.length d:=fun d i j G D J k4=>by
     by_cases e:d<c
     · rw [u1.out i (.inl (by omega)),u1.out j (.inl (by omega))]
       exact W d e i j (by omega) D (by omega)
     · exact u2 i j (by omega) D (by omega)
   have h5:=U.trans (u1.wide (a':=0) (b':=s.length) (by omega) (by omega))
   clear u1 u2 hn W U hb h1
   refine DA (fun O:List AB×Int=>∃ bs:Nat,O.2=(bs:Int)∧0<bs∧SpC 0 s.length s O.1∧∀ d,BlkC O.1 bs s.length d) (fun O=>s.length - O.2.toNat) ⟨20,rfl,by omega,h5,h4⟩ ?_
   clear h4 h5 u hlt t c
   rintro ⟨u,_⟩ next ⟨bs,rfl,b0,U,W⟩ hn
   dsimp only at U W ⊢
   refine A0 (fun hb=>?_) (fun hb=>hQ u U.perm fun i j G D J=>W 0 i j (by omega) D (by omega) J)
   have two:A7 (2*(bs:Int))=((2*bs:Nat):Int):=by rw [AH (by omega) (by omega)]; omega
   have two':A7 ((bs:Int)*2)=((2*bs:Nat):Int):=by rw [AH (by omega) (by omega)]; omega
   rw [two,two']
   have up:∀ c:Nat,(2*(c+1))*bs=(2*c)*bs+2*bs:=fun c=>by rw [show 2*(c+1)=2*c+2 by omega,Nat.add_mul]
   have up1:∀ c:Nat,(2*c+1)*bs=(2*c)*bs+bs:=fun c=>by rw [Nat.add_mul,Nat.one_mul]
   have V:∀ {x y:Nat},x≤y→x*bs≤y*bs:=fun h=>Nat.mul_le_mul_right bs h
   have Y:∀ (w:List AB) (c:Nat),SpC 0 s.length s w→(∀ d,d<c→cD w ((2*d)*bs) ((2*d)*bs+2*bs))→cD w ((2*c)*bs) s.length→s.length<(2*c)*bs+2*bs→next (w,((2*bs:Nat):Int)):=fun w c Z w2 w3 w4=>by
     refine hn _ ⟨2*bs,rfl,by omega,Z,fun d i j G D J k4=>?_⟩ (by dsimp only; omega)
     dsimp only
     have ed:d*(2*bs)=(2*d)*bs:=by rw [Nat.mul_left_comm,Nat.mul_assoc]
     rw [ed] at G J
     rcases Nat.lt_trichotomy d c with e | e | e
     · exact w2 d e i j G D J
     · subst e; exact w3 i j G D k4
     · have:=V (show 2*(c+1)≤2*d by omega)
       rw [up] at this
       omega
   refine DA (fun O:List AB×Int×Int=>∃ c:Nat,O.2.1=(((2*c)*bs:Nat):Int)∧O.2.2=(((2*c)*bs+2*bs:Nat):Int)∧(2*c)*bs≤s.length∧SpC 0 s.length s O.1∧(∀ d,d<c→cD O.1 ((2*d)*bs) ((2*d)*bs+2*bs))∧∀ d,2*c≤d→BlkC O.1 bs s.length d) (fun O=>s.length - O.2.1.toNat)
     ⟨0,by simp,by simp,by omega,U,fun d h=>by omega,fun d _=>W d⟩ ?_
   clear U W hn
   rintro ⟨v,_,_⟩ nx ⟨c,rfl,rfl,h1,U,W,h4⟩ hx
   dsimp only at U W h4 ⊢
   have hlv:=U.len
   have hA:∀ i j,(2*c)*bs≤i→i<j→j<(2*c)*bs+bs→j<s.length→fP (gC v i) (gC v j):=h4 (2*c) (Nat.le_refl _)
   have hB:∀ i j,(2*c)*bs+bs≤i→i<j→j<(2*c)*bs+bs+bs→j<s.length→fP (gC v i) (gC v j):=by
     have:=h4 (2*c+1) (by omega)
     unfold BlkC at this
     rw [up1] at this
     exact this
   have upc:=up c
   refine A0 (fun hbn=>?_) (fun hbn=>?_)
   · rw [ZY (i:=2*c*bs) (k:=bs) (by omega) (by omega),ZY (i:=2*c*bs+2*bs) (k:=2*bs) (by omega) (by omega)]
     refine yS (by omega) (by omega) (by omega) (by omega) (fun i j G D J=>hA i j G D J (by omega)) (fun i j G D J=>hB i j G D (by omega) (by omega)) fun w Z w2=>?_
     refine hx _ ⟨c+1,by dsimp only; rw [up],by dsimp only; rw [up],by omega,U.trans (Z.wide (by omega) (by omega)),fun d hd=>?_,fun d hd=>?_⟩ (by dsimp only; omega)
     · dsimp only
       by_cases e:d=c
       · subst e; exact w2
       · have hm:=V (show 2*(d+1)≤2*c by omega)
         rw [up] at hm
         intro i j G D J
         rw [Z.out i (.inl (by omega)),Z.out j (.inl (by omega))]
         exact W d (by omega) i j G D J
     · dsimp only
       have hm:=V hd
       rw [up] at hm
       exact (h4 d (by omega)).same fun i G D=>Z.out i (.inr (by omega))
   · rw [ZY (i:=2*c*bs) (k:=bs) (by omega) (by omega)]
     refine A0 (fun hm=>?_) (fun hm=>?_)
     · refine yS (by omega) (by omega) (by omega) (by omega) (fun i j G D J=>hA i j G D J (by omega)) (fun i j G D J=>hB i j G D (by omega) J) fun w Z w2=>?_
       refine Y w c (U.trans (Z.wide (by omega) (by omega))) (fun d hd=>?_) w2 (by omega)
       have hm:=V (show 2*(d+1)≤2*c by omega)
       rw [up] at hm
       intro i j G D J
       rw [Z.out i (.inl (by omega)),Z.out j (.inl (by omega))]
       exact W d hd i j G D J
     · exact Y v c U W (fun i j G D J=>hA i j G D (by omega) J) (by omega)
end Go.Proofs.YtbohadngdkjljaaGreat
