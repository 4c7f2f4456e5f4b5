import Derived.Test.YtbohadngdkjljaaGreatGemmE
namespace Go.Proofs.YtbohadngdkjljaaGreat
open Go Go.Fw
set_option linter.unusedVariables false
set_option linter.unusedSimpArgs false
def gC (s:List AK) (i:Nat):AK:=s.getD i ⟨0,0,⟨0,0⟩⟩
theorem QC {s:List AK} {i:Nat} (h:i<s.length):s[i]? = some (gC s i):=by simp [gC,List.getD_eq_getElem?_getD,h]
theorem pD {s:List AK} {i:Nat} (h:i<s.length):s[i]=gC s i:=by have:=QC h; rw [List.getElem?_eq_getElem h] at this; exact Option.some.inj this
def swC (s:List AK) (i k:Nat):List AK:=(s.set i (gC s k)).set k (gC s i)
theorem yR (s:List AK) (i k:Nat):(swC s i k).length=s.length:=by simp [swC]
theorem WJ {s:List AK} {i k:Nat} (hi:i<s.length) (hk:k<s.length) (j:Nat):gC (swC s i k) j=if j=k then gC s i else if j=i then gC s k else gC s j:=by
  unfold swC gC
  simp only [List.getD_eq_getElem?_getD]
  by_cases e1:j=k
  · subst e1; rw [if_pos rfl,List.getElem?_set_self (by simpa using hk)]; simp
  · rw [if_neg e1,List.getElem?_set_ne (Ne.symm e1)]
    by_cases e2:j=i
    · subst e2; rw [if_pos rfl,List.getElem?_set_self hi]; simp
    · rw [if_neg e2,List.getElem?_set_ne (Ne.symm e2)]
theorem dT:∀ (l:List AK) (i:Nat) (h:i<l.length) (y:AK),(l[i] :: l.set i y).Perm (y :: l)
  | a :: l,0,_,y=>by simpa using List.Perm.swap y a l
  | a :: l,i+1,h,y=>by
    have:=dT l i (by simpa using h) y
    simp only [List.getElem_cons_succ,List.set_cons_succ]
    exact (List.Perm.swap _ _ _).trans ((this.cons a).trans (List.Perm.swap _ _ _))
theorem sK {s:List AK} {i k:Nat} (hi:i<s.length) (hk:k<s.length):(swC s i k).Perm s:=by
  have e1:=pD hi
  have e2:=pD hk
  have h1:=dT s i hi (gC s k)
  have h2:=dT (s.set i (gC s k)) k (by simpa using hk) (gC s i)
  have e3:(s.set i (gC s k))[k]'(by simpa using hk)=gC s k:=by
    rw [List.getElem_set]; split
    · rfl
    · exact e2
  rw [e3] at h2; rw [e1] at h1
  exact List.Perm.cons_inv (h2.trans h1)
theorem cC {s:List AK} {i k:Nat} {K:List AK→Prop} (hi:i<s.length) (hk:k<s.length) (h:K (swC s i k)) :
    BA s (k:Int) fun x=>BA s (i:Int) fun y=>BA s (i:Int) fun _=>BA (s.set (i:Int).toNat x) (k:Int) fun _=>K ((s.set (i:Int).toNat x).set (k:Int).toNat y):=by
  refine AO (x:=gC s k) (by omega) (QC hk) (AO (x:=gC s i) (by omega) (QC hi) (AO (x:=gC s i) (by omega) (QC hi) ?_))
  exact AV (by simpa using hk) h
def jH (a b:AK):Prop:=¬gU b a
theorem KQ {a b c:AK} (h1:jH a b) (h2:jH b c):jH a c:=by unfold jH gU TS at *; simp only at *; omega
theorem AcQ (a:AK):jH a a:=by unfold jH gU TS; simp only; omega
theorem pE {a b:AK} (h:gU a b):jH a b:=by unfold jH gU TS at *; simp only at *; omega
theorem Ai4 {x y:AK} {A B:Prop} (h1:gU x y→A) (h2:¬gU x y→B):EN x y fun r=>AQ (decide (r<0)) A B:=by
  unfold EN
  exact FL (FL (fE (AC (fun h=>h1 ((UL x y).1 h)) (fun h=>h2 fun h'=>h ((UL x y).2 h')))))
theorem sL {x y:AK} {A B:Prop} (h1:¬gU x y→A) (h2:gU x y→B):EN x y fun r=>AQ (!(decide (r<0))) A B:=by
  unfold EN
  exact FL (FL (fE (CO (fun h=>h1 fun h'=>of_decide_eq_false h ((UL x y).2 h')) (fun h=>h2 ((UL x y).1 (of_decide_eq_true h))))))
def dU (s:List AK) (a b:Nat):Prop:=∀ i j,a≤i→i<j→j<b→jH (gC s i) (gC s j)
structure SpC (a b:Nat) (s t:List AK):Prop where
  len:t.length=s.length
  perm:t.Perm s
  out:∀ i,i<a∨b≤i→gC t i=gC s i
  mem:∀ i,a≤i→i<b→∃ j,a≤j∧j<b∧gC t i=gC s j
theorem SpC.refl (a b:Nat) (s:List AK):SpC a b s s:=⟨rfl,.refl _,fun _ _=>rfl,fun i h1 h2=>⟨i,h1,h2,rfl⟩⟩
theorem SpC.trans {a b:Nat} {s t u:List AK} (h:SpC a b s t) (h':SpC a b t u):SpC a b s u:=
  ⟨h'.len.trans h.len,h'.perm.trans h.perm,fun i hi=>(h'.out i hi).trans (h.out i hi),fun i h1 h2=>by
    obtain ⟨j,h3,h4,e⟩:=h'.mem i h1 h2
    obtain ⟨k,h5,h6,e'⟩:=h.mem j h3 h4
    exact ⟨k,h5,h6,e.trans e'⟩⟩
theorem SpC.wide {a b a' b':Nat} {s t:List AK} (h:SpC a b s t) (ha:a'≤a) (hb:b≤b'):SpC a' b' s t:=
  ⟨h.len,h.perm,fun i hi=>h.out i (by omega),fun i h1 h2=>by
    by_cases c:a≤i∧i<b
    · obtain ⟨j,h3,h4,e⟩:=h.mem i c.1 c.2
      exact ⟨j,by omega,by omega,e⟩
    · exact ⟨i,h1,h2,h.out i (by omega)⟩⟩
theorem SpC.swap {a b i k:Nat} {s:List AK} (hb:b≤s.length) (hi:a≤i∧i<b) (hk:a≤k∧k<b):SpC a b s (swC s i k):=
  ⟨yR s i k,sK (by omega) (by omega),fun j hj=>by
    rw [WJ (by omega) (by omega),if_neg (by omega),if_neg (by omega)],fun j h1 h2=>by
    rw [WJ (by omega) (by omega)]
    by_cases e:j=k
    · rw [if_pos e]; exact ⟨i,hi.1,hi.2,rfl⟩
    · rw [if_neg e]
      by_cases e':j=i
      · rw [if_pos e']; exact ⟨k,hk.1,hk.2,rfl⟩
      · rw [if_neg e']; exact ⟨j,h1,h2,rfl⟩⟩
theorem dV {i:Nat} (h0:0<i) (h1:i≤1000000000000):AH ((i:Int) - 1)=((i - 1:Nat):Int):=by rw [AX (by omega) (by omega)]; omega
theorem ZV {i:Nat} (h1:i≤1000000000000):AH ((i:Int)+1)=((i+1:Nat):Int):=by rw [AX (by omega) (by omega)]; omega
theorem cD {i k:Nat} (h1:i≤1000000000000) (h2:k≤1000000000000):AH ((i:Int)+(k:Int))=((i+k:Nat):Int):=by rw [AX (by omega) (by omega)]; omega
theorem UM {i k:Nat} (h0:k≤i) (h1:i≤1000000000000):AH ((i:Int) - (k:Int))=((i - k:Nat):Int):=by rw [AX (by omega) (by omega)]; omega
theorem yS {s:List AK} {a b:Nat} {Q:List AK→Prop} (hb:b≤s.length) (hl:s.length≤1000000000) (ha:a≤b) (hQ:∀ t,SpC a b s t→dU t a b→Q t):BU s a b Q:=by
  unfold BU
  rw [ZV (by omega)]
  refine EB (fun st:List AK×Int=>∃ i:Nat,st.2=i∧a+1≤i∧(i≤b∨i=a+1)∧SpC a b s st.1∧dU st.1 a i) (fun st=>b - st.2.toNat) ⟨a+1,rfl,Nat.le_refl _,.inr rfl,.refl _ _ _,fun i j h1 h2 h3=>by omega⟩ ?_
  rintro ⟨t,_⟩ next ⟨i,rfl,h1,h2,hp,hs⟩ hn
  dsimp only at hp hs ⊢
  have hlen:=hp.len
  refine AC (fun hib=>?_) (fun hib=>hQ t hp fun p q g1 g2 g3=>hs p q g1 g2 (by omega))
  have fin:∀ u:List AK,SpC a b s u→dU u a (i+1)→next (u,AH ((i:Int)+1)):=fun u hu hsu=>by
    rw [ZV (by omega)]
    exact hn _ ⟨i+1,rfl,by omega,.inl (by omega),hu,hsu⟩ (by dsimp only; omega)
  refine EB (fun st:List AK×Int=>∃ j:Nat,st.2=j∧a≤j∧j≤i∧SpC a b s st.1∧∀ p q,a≤p→p<q→q≤i→q≠j→jH (gC st.1 p) (gC st.1 q)) (fun st=>st.2.toNat) ⟨i,rfl,by omega,Nat.le_refl _,hp,fun p q g1 g2 g3 g4=>hs p q g1 g2 (by omega)⟩ ?_
  rintro ⟨u,_⟩ nx ⟨j,rfl,g1,g2,hu,hv⟩ hx
  dsimp only at hu hv ⊢
  have hul:=hu.len
  refine AC (fun haj=>?_) (fun haj=>fin u hu fun p q k1 k2 k3=>hv p q k1 k2 (by omega) (by omega))
  rw [dV (by omega) (by omega)]
  refine AO (x:=gC u j) (by omega) (QC (by omega)) (AO (x:=gC u (j - 1)) (by omega) (QC (by omega)) (Ai4 (fun hlt=>cC (s:=u) (i:=j) (k:=j - 1) (K:=fun l=>nx (l,((j - 1:Nat):Int))) (by omega) (by omega) ?_) (fun hge=>fin u hu fun p q k1 k2 k3=>?_)))
  · refine hx (swC u j (j - 1),((j - 1:Nat):Int)) ⟨j - 1,rfl,by omega,by omega,hu.trans (SpC.swap (s:=u) (i:=j) (k:=j - 1) (by omega) (by omega) (by omega)),fun p q k1 k2 k3 k4=>?_⟩ (by dsimp only; omega)
    dsimp only
    rw [WJ (by omega) (by omega),WJ (by omega) (by omega)]
    rw [if_neg k4]
    by_cases e:q=j
    · rw [if_pos e]
      by_cases e':p=j - 1
      · rw [if_pos e']; exact pE hlt
      · rw [if_neg e',if_neg (by omega)]; exact hv p (j - 1) k1 (by omega) (by omega) (by omega)
    · rw [if_neg e]
      by_cases e':p=j - 1
      · rw [if_pos e']; exact hv j q (by omega) (by omega) k3 e
      · rw [if_neg e']
        by_cases e'':p=j
        · rw [if_pos e'']; exact hv (j - 1) q (by omega) (by omega) k3 e
        · rw [if_neg e'']; exact hv p q k1 k2 k3 e
  · by_cases e:q=j
    · subst e
      by_cases e':p=q - 1
      · subst e'; exact hge
      · exact KQ (hv p (q - 1) k1 (by omega) (by omega) (by omega)) hge
    · exact hv p q k1 k2 (by omega) e
theorem dW {s:List AK} {a b n:Nat} {Q:List AK→Prop} (hab:a+n≤b) (hb:b+n≤s.length) (hl:s.length≤1000000000)
    (hQ:∀ t,t.length=s.length→t.Perm s→(∀ i,gC t i=if a≤i∧i<a+n then gC s (b+(i - a)) else if b≤i∧i<b+n then gC s (a+(i - b)) else gC s i)→Q t):BR s a b n Q:=by
  unfold BR
  refine AW (fun (t:List AK) k=>(t,k)) 0 n (by omega) (fun k t=>t.length=s.length∧t.Perm s∧∀ i,gC t i=if a≤i∧i<a+k then gC s (b+(i - a)) else if b≤i∧i<b+k then gC s (a+(i - b)) else gC s i) (by omega) ⟨rfl,.refl _,fun i=>by rw [if_neg (by omega),if_neg (by omega)]⟩ (fun k t next _ hk ht hn=>?_) (fun t next ht=>?_)
  · obtain ⟨h1,h2,h3⟩:=ht
    dsimp only
    refine AC (fun _=>?_) (fun h=>by omega)
    rw [cD (by omega) (by omega),cD (by omega) (by omega)]
    refine cC (s:=t) (i:=a+k) (k:=b+k) (K:=fun l=>next (l,AH ((k:Int)+1))) (by omega) (by omega) (hn (swC t (a+k) (b+k)) ⟨(yR _ _ _).trans h1,(sK (by omega) (by omega)).trans h2,fun i=>?_⟩)
    rw [WJ (by omega) (by omega),h3,h3,h3]
    repeat' split
    all_goals first | with_reducible rfl | (exfalso; omega) | (congr 1; omega)
  · exact AC (fun h=>by omega) (fun _=>hQ t ht.1 ht.2.1 ht.2.2)
def YS (s:List AK) (a m b x:Nat):AK:=if a≤x∧x<a+(b - m) then gC s (x+(m - a)) else if a+(b - m)≤x∧x<b then gC s (x - (b - m)) else gC s x
theorem AeX {s:List AK} {a m b:Nat} {Q:List AK→Prop} (h1:a<m) (h2:m<b) (hb:b≤s.length) (hl:s.length≤1000000000)
    (hQ:∀ t,t.length=s.length→t.Perm s→(∀ x,gC t x=YS s a m b x)→Q t):DG s a m b Q:=by
  unfold DG
  rw [UM (by omega) (by omega),UM (by omega) (by omega)]
  refine EB (fun st:List AK×Int×Int=>∃ i j:Nat,st.2.1=i∧st.2.2=j∧0<i∧0<j∧i≤m - a∧j≤b - m∧st.1.length=s.length∧st.1.Perm s∧∀ x,YS st.1 (m - i) m (m+j) x=YS s a m b x) (fun st=>st.2.1.toNat+st.2.2.toNat)
    ⟨m - a,b - m,rfl,rfl,by omega,by omega,Nat.le_refl _,Nat.le_refl _,rfl,.refl _,fun x=>by dsimp only; rw [show m - (m - a)=a by omega,show m+(b - m)=b by omega]⟩ ?_
  rintro ⟨t,_,_⟩ next ⟨i,j,rfl,rfl,i0,j0,i1,j1,hlen,hp,hr⟩ hn
  dsimp only at hlen hp hr ⊢
  rw [UM (i:=m) (k:=i) (by omega) (by omega)]
  refine FR (fun hne=>AC (fun hji=>?_) (fun hji=>?_)) (fun he=>?_)
  · refine dW (by omega) (by omega) (by omega) fun u g1 g2 g3=>?_
    rw [UM (by omega) (by omega)]
    refine hn _ ⟨i - j,j,rfl,rfl,by omega,j0,by omega,j1,g1.trans hlen,g2.trans hp,fun x=>?_⟩ (by dsimp only; omega)
    rw [←hr x]
    dsimp only
    unfold YS
    rw [g3,g3,g3]
    repeat' split
    all_goals first | with_reducible rfl | (exfalso; omega) | (congr 1; omega)
  · rw [cD (by omega) (by omega),UM (by omega) (by omega)]
    have hne':i≠j:=fun h=>hne (by rw [h])
    refine dW (by omega) (by omega) (by omega) fun u g1 g2 g3=>?_
    rw [UM (by omega) (by omega)]
    refine hn _ ⟨i,j - i,rfl,rfl,i0,by omega,i1,by omega,g1.trans hlen,g2.trans hp,fun x=>?_⟩ (by dsimp only; omega)
    rw [←hr x]
    dsimp only
    unfold YS
    rw [g3,g3,g3]
    repeat' split
    all_goals first | with_reducible rfl | (exfalso; omega) | (congr 1; omega)
  · have he':i=j:=by omega
    subst he'
    refine dW (by omega) (by omega) (by omega) fun u g1 g2 g3=>hQ u (g1.trans hlen) (g2.trans hp) fun x=>?_
    rw [←hr x,g3]
    unfold YS
    repeat' split
    all_goals first | with_reducible rfl | (exfalso; omega) | (congr 1; omega)
theorem pF {T:Nat→Prop} {body:Int×Int→((Int×Int)→Prop)→Prop} {lo hi:Nat} (h0:lo≤hi)
    (hs:∀ (i j:Nat) (next:Int×Int→Prop),lo≤i→i<j→j≤hi→(T ((i+j) / 2)→next ((((i+j) / 2+1:Nat):Int),(j:Int)))→(¬T ((i+j) / 2)→next ((i:Int),(((i+j) / 2:Nat):Int)))→body ((i:Int),(j:Int)) next)
    (he:∀ (i:Nat) (next:Int×Int→Prop),lo≤i→i≤hi→(lo<i→T (i - 1))→(i<hi→¬T i)→body ((i:Int),(i:Int)) next):BD body ((lo:Int),(hi:Int)):=by
  refine EB (fun st:Int×Int=>∃ i j:Nat,st=((i:Int),(j:Int))∧lo≤i∧i≤j∧j≤hi∧(lo<i→T (i - 1))∧(j<hi→¬T j)) (fun st=>(st.2 - st.1).toNat) ⟨lo,hi,rfl,Nat.le_refl _,h0,Nat.le_refl _,fun h=>by omega,fun h=>by omega⟩ ?_
  rintro _ next ⟨i,j,rfl,h1,h2,h3,h4,h5⟩ hn
  by_cases e:i=j
  · subst e; exact he i next h1 h3 h4 h5
  · refine hs i j next h1 (by omega) h3 (fun ht=>hn _ ⟨(i+j) / 2+1,j,rfl,by omega,by omega,h3,fun _=>by rw [Nat.add_sub_cancel]; exact ht,h5⟩ (by dsimp only; omega)) (fun ht=>hn _ ⟨i,(i+j) / 2,rfl,h1,by omega,by omega,h4,fun _=>ht⟩ (by dsimp only; omega))
theorem yT {i j:Nat} (h1:i≤1000000000000) (h2:j≤1000000000000):AH (shr .u64 (IntKind.wrap .u64 (AH ((i:Int)+(j:Int)))) 1)=(((i+j) / 2:Nat):Int):=by
  rw [AX (x:=(i:Int)+j) (by omega) (by omega),qX (by omega) (by omega)]
  have:shr .u64 ((i:Int)+j) 1=((i:Int)+j) / 2:=by
    show ((i:Int)+j).fdiv (2 ^ 1)=_
    rw [Int.fdiv_eq_ediv_of_nonneg _ (by decide)]; rfl
  rw [this,AX (by omega) (by omega)]; omega
def wE (rc:List AK→Int→Int→Int→(List AK→Prop)→Prop) (N:Nat):Prop:=∀ {s:List AK} {a m b:Nat} {Q:List AK→Prop},a<m→m<b→b≤s.length→s.length≤1000000000→b - a≤N→dU s a m→dU s m b →
  (∀ t,SpC a b s t→dU t a b→Q t)→rc s a m b Q
theorem sM {s:List AK} {a m b x:Nat} (h:¬a<m∨¬m<b) (h1:a≤m) (h2:m≤b):YS s a m b x=gC s x:=by
  unfold YS
  repeat' split
  all_goals first | with_reducible rfl | (exfalso; omega) | (congr 1; omega)
theorem AgU {s t:List AK} {a m b:Nat} (h1:a≤m) (h2:m≤b) (hl:t.length=s.length) (hp:t.Perm s) (hr:∀ x,gC t x=YS s a m b x):SpC a b s t:=
  ⟨hl,hp,fun i hi=>by rw [hr]; unfold YS; rw [if_neg (by omega),if_neg (by omega)],fun i g1 g2=>by
    rw [hr]; unfold YS
    by_cases c:a≤i∧i<a+(b - m)
    · rw [if_pos c]; exact ⟨_,by omega,by omega,rfl⟩
    · rw [if_neg c,if_pos (by omega)]; exact ⟨_,by omega,by omega,rfl⟩⟩
theorem AeY {s:List AK} {a b:Nat} {Q:List AK→Prop} (h2:a+1<b) (hb:b≤s.length) (hl:s.length≤1000000000) (hs:dU s (a+1) b) (hQ:∀ t,SpC a b s t→dU t a b→Q t)
    {rc:List AK→Int→Int→Int→(List AK→Prop)→Prop}:BB rc s a ((a+1:Nat):Int) b Q:=by
  unfold BB
  rw [UM (i:=a+1) (k:=a) (by omega) (by omega)]
  refine CU (fun _=>?_) (fun h=>by omega)
  refine pF (T:=fun c=>gU (gC s c) (gC s a)) (by omega) (fun i j next g1 g2 g3 ht hf=>?_) (fun i next g1 g2 ht hf=>?_)
  · dsimp only
    rw [yT (by omega) (by omega)]
    refine AC (fun _=>AO (x:=gC s ((i+j) / 2)) (by omega) (QC (by omega)) (AO (x:=gC s a) (by omega) (QC (by omega)) (Ai4 (fun h=>?_) (fun h=>hf h)))) (fun h=>by omega)
    rw [ZV (by omega)]; exact ht h
  · dsimp only
    refine AC (fun h=>by omega) (fun _=>?_)
    rw [dV (i:=i) (by omega) (by omega)]
    refine AW (fun (t:List AK) k=>(t,k)) a (i - 1) (by omega) (fun k t=>SpC a b s t∧∀ x,gC t x=if a≤x∧x<k then gC s (x+1) else if x=k then gC s a else gC s x) (by omega) ⟨.refl _ _ _,fun x=>by
      rw [if_neg (by omega)]; split
      · rename_i e; rw [e]
      · rfl⟩ (fun k t nx k1 k2 hm hx=>?_) (fun t nx hm=>?_)
    · obtain ⟨m1,m2⟩:=hm
      have hlen:=m1.len
      dsimp only
      refine AC (fun _=>?_) (fun h=>by omega)
      rw [ZV (i:=k) (by omega)]
      refine cC (s:=t) (i:=k) (k:=k+1) (K:=fun l=>nx (l,((k+1:Nat):Int))) (by omega) (by omega) ?_
      have:=hx (swC t k (k+1)) ⟨m1.trans (SpC.swap (s:=t) (i:=k) (k:=k+1) (by omega) (by omega) (by omega)),fun x=>?_⟩
      · rw [ZV (i:=k) (by omega)] at this; exact this
      · rw [WJ (by omega) (by omega),m2,m2,m2]
        repeat' split
        all_goals first | with_reducible rfl | (exfalso; omega) | (congr 1; omega)
    · obtain ⟨m1,m2⟩:=hm
      dsimp only
      refine AC (fun h=>by omega) (fun _=>hQ t m1 fun p q p1 p2 p3=>?_)
      rw [m2,m2]
      have low:∀ x,a+1≤x→x<i→jH (gC s x) (gC s a):=fun x x1 x2=>by
        have h1:=pE (ht (by omega))
        by_cases e:x=i - 1
        · subst e; exact h1
        · exact KQ (hs x (i - 1) x1 (by omega) (by omega)) h1
      have high:∀ x,i≤x→x<b→jH (gC s a) (gC s x):=fun x x1 x2=>by
        have h1:jH (gC s a) (gC s i):=hf (by omega)
        by_cases e:x=i
        · subst e; exact h1
        · exact KQ h1 (hs i x (by omega) (by omega) x2)
      by_cases c1:p<i - 1
      · rw [if_pos ⟨p1,c1⟩]
        by_cases c2:q<i - 1
        · rw [if_pos ⟨by omega,c2⟩]; exact hs _ _ (by omega) (by omega) (by omega)
        · rw [if_neg (by omega)]
          by_cases c3:q=i - 1
          · rw [if_pos c3]; exact low _ (by omega) (by omega)
          · rw [if_neg c3]; exact hs _ _ (by omega) (by omega) p3
      · rw [if_neg (by omega)]
        rw [if_neg (c:=a≤q∧q<i - 1) (by omega),if_neg (c:=q=i - 1) (by omega)]
        by_cases c3:p=i - 1
        · rw [if_pos c3]; exact high _ (by omega) p3
        · rw [if_neg c3]; exact hs _ _ (by omega) p2 p3
theorem AcR {s:List AK} {a m:Nat} {Q:List AK→Prop} (h1:a+1<m) (hb:m+1≤s.length) (hl:s.length≤1000000000) (hs:dU s a m) (hQ:∀ t,SpC a (m+1) s t→dU t a (m+1)→Q t)
    {rc:List AK→Int→Int→Int→(List AK→Prop)→Prop}:BB rc s a m ((m+1:Nat):Int) Q:=by
  unfold BB
  rw [UM (i:=m) (k:=a) (by omega) (by omega),UM (i:=m+1) (k:=m) (by omega) (by omega)]
  refine CU (fun h=>by omega) (fun _=>CU (fun _=>?_) (fun h=>by omega))
  refine pF (T:=fun c=>¬gU (gC s m) (gC s c)) (by omega) (fun i j next g1 g2 g3 ht hf=>?_) (fun i next g1 g2 ht hf=>?_)
  · dsimp only
    rw [yT (by omega) (by omega)]
    refine AC (fun _=>AO (x:=gC s m) (by omega) (QC (by omega)) (AO (x:=gC s ((i+j) / 2)) (by omega) (QC (by omega)) (sL (fun h=>?_) (fun h=>hf fun h'=>h' h)))) (fun h=>by omega)
    rw [ZV (by omega)]; exact ht h
  · dsimp only
    refine AC (fun h=>by omega) (fun _=>?_)
    refine EB (fun st:List AK×Int=>∃ k:Nat,st.2=k∧i≤k∧k≤m∧SpC a (m+1) s st.1∧∀ x,gC st.1 x=if x=k then gC s m else if k<x∧x≤m then gC s (x - 1) else gC s x) (fun st=>st.2.toNat) ⟨m,rfl,g2,Nat.le_refl _,.refl _ _ _,fun x=>by
      dsimp only
      by_cases e:x=m
      · rw [if_pos e,e]
      · rw [if_neg e,if_neg (by omega)]⟩ ?_
    rintro ⟨t,_⟩ nx ⟨k,rfl,k1,k2,m1,m2⟩ hx
    dsimp only at m1 m2 ⊢
    have hlen:=m1.len
    refine AC (fun hik=>?_) (fun hik=>hQ t m1 fun p q p1 p2 p3=>?_)
    · rw [dV (i:=k) (by omega) (by omega)]
      refine cC (s:=t) (i:=k) (k:=k - 1) (K:=fun l=>nx (l,((k - 1:Nat):Int))) (by omega) (by omega) ?_
      refine hx (swC t k (k - 1),((k - 1:Nat):Int)) ⟨k - 1,rfl,by omega,by omega,m1.trans (SpC.swap (s:=t) (i:=k) (k:=k - 1) (by omega) (by omega) (by omega)),fun x=>?_⟩ (by dsimp only; omega)
      dsimp only
      rw [WJ (by omega) (by omega),m2,m2,m2]
      repeat' split
      all_goals first | with_reducible rfl | (exfalso; omega) | (congr 1; omega)
    · have hki:k=i:=by omega
      subst hki
      rw [m2,m2]
      have low:∀ x,a≤x→x<k→jH (gC s x) (gC s m):=fun x x1 x2=>by
        have h1:jH (gC s (k - 1)) (gC s m):=ht (by omega)
        by_cases e:x=k - 1
        · subst e; exact h1
        · exact KQ (hs x (k - 1) x1 (by omega) (by omega)) h1
      have high:∀ x,k≤x→x<m→jH (gC s m) (gC s x):=fun x x1 x2=>by
        have h1:jH (gC s m) (gC s k):=pE (Classical.not_not.1 (hf (by omega)))
        by_cases e:x=k
        · subst e; exact h1
        · exact KQ h1 (hs k x (by omega) (by omega) x2)
      by_cases c1:p=k
      · rw [if_pos c1,if_neg (by omega),if_pos (by omega)]
        exact high _ (by omega) (by omega)
      · rw [if_neg c1]
        by_cases c2:k<p
        · rw [if_pos (by omega),if_neg (by omega),if_pos (by omega)]
          exact hs _ _ (by omega) (by omega) (by omega)
        · rw [if_neg (by omega)]
          by_cases c3:q=k
          · rw [if_pos c3]; exact low _ p1 (by omega)
          · rw [if_neg c3]
            by_cases c4:k<q
            · rw [if_pos (by omega)]; exact hs _ _ p1 (by omega) (by omega)
            · rw [if_neg (by omega)]; exact hs _ _ p1 p2 (by omega)
theorem AcS {rc:List AK→Int→Int→Int→(List AK→Prop)→Prop} {N:Nat} (ih:wE rc N):wE (BB rc) (N+1):=by
  intro s a m b Q h1 h2 hb hl hN hA hB hQ
  by_cases c1:m=a+1
  · subst c1; exact AeY h2 hb hl hB hQ
  by_cases c2:b=m+1
  · subst c2; exact AcR (by omega) hb hl hA hQ
  unfold BB
  rw [UM (i:=m) (k:=a) (by omega) (by omega),UM (i:=b) (k:=m) (by omega) (by omega),yT (i:=a) (j:=b) (by omega) (by omega)]
  generalize hmid:(a+b) / 2=mid
  rw [cD (i:=mid) (k:=m) (by omega) (by omega),dV (i:=mid+m) (by omega) (by omega)]
  refine CU (fun h=>by omega) (fun _=>CU (fun h=>by omega) (fun _=>?_))
  refine FH (fun t:Int×Int=>∃ lo hi:Nat,t=((lo:Int),(hi:Int))∧a≤lo∧lo≤hi∧hi≤mid∧hi≤m∧(lo=a∨mid+m - lo=b)∧(hi=mid∨hi=m)∧mid+m - lo≤b) (fun t ht=>?_) fun k hk=>?_
  · obtain ⟨lo,hi,rfl,q1,q2,q3,q4,q5,q6,q7⟩:=ht
    dsimp only
    refine pF (T:=fun c=>¬gU (gC s (mid+m - 1 - c)) (gC s c)) q2 (fun i j next g1 g2 g3 ht hf=>?_) (fun st next g1 g2 ht hf=>?_)
    · dsimp only
      rw [yT (by omega) (by omega),UM (i:=mid+m - 1) (k:=(i+j) / 2) (by omega) (by omega)]
      refine AC (fun _=>AO (x:=gC s (mid+m - 1 - (i+j) / 2)) (by omega) (QC (by omega)) (AO (x:=gC s ((i+j) / 2)) (by omega) (QC (by omega)) (sL (fun h=>?_) (fun h=>hf fun h'=>h' h)))) (fun h=>by omega)
      rw [ZV (by omega)]; exact ht h
    · dsimp only
      refine AC (fun h=>by omega) (fun _=>?_)
      rw [UM (i:=mid+m) (k:=st) (by omega) (by omega)]
      generalize hen:mid+m - st=en
      refine FH (fun t:List AK=>t.length=s.length∧t.Perm s∧∀ x,gC t x=YS s st m en x) (fun t ht'=>?_) fun k' hk'=>?_
      · obtain ⟨t1,t2,t3⟩:=ht'
        have hsp:SpC a b s t:=(AgU (by omega) (by omega) t1 t2 t3).wide (by omega) (by omega)
        have v1:∀ x,x<st→gC t x=gC s x:=fun x hx=>by rw [t3]; unfold YS; rw [if_neg (by omega),if_neg (by omega)]
        have v2:∀ x,st≤x→x<mid→gC t x=gC s (x+(m - st)):=fun x hx hx'=>by rw [t3]; unfold YS; rw [if_pos (by omega)]
        have v3:∀ x,mid≤x→x<en→gC t x=gC s (x - (mid - st)):=fun x hx hx'=>by rw [t3]; unfold YS; rw [if_neg (by omega),if_pos (by omega)]; congr 1; omega
        have v4:∀ x,en≤x→gC t x=gC s x:=fun x hx=>by rw [t3]; unfold YS; rw [if_neg (by omega),if_neg (by omega)]
        have sA:dU t a st:=fun p q p1 p2 p3=>by rw [v1 p (by omega),v1 q p3]; exact hA p q p1 p2 (by omega)
        have sB:dU t st mid:=fun p q p1 p2 p3=>by rw [v2 p p1 (by omega),v2 q (by omega) p3]; exact hB _ _ (by omega) (by omega) (by omega)
        have sC:dU t mid en:=fun p q p1 p2 p3=>by rw [v3 p p1 (by omega),v3 q (by omega) p3]; exact hA _ _ (by omega) (by omega) (by omega)
        have sD:dU t en b:=fun p q p1 p2 p3=>by rw [v4 p p1,v4 q (by omega)]; exact hB p q (by omega) p2 p3
        have le_of:∀ {lo' hi':Nat},dU s lo' hi'→∀ p q,lo'≤p→p≤q→q<hi'→jH (gC s p) (gC s q):=fun h p q p1 p2 p3=>by
          by_cases e:p=q
          · subst e; exact AcQ _
          · exact h p q p1 (by omega) p3
        have cross:∀ x y,a≤x→x<mid→mid≤y→y<b→jH (gC t x) (gC t y):=fun x y x1 x2 y1 y2=>by
          by_cases d1:x<st
          · rw [v1 x d1]
            by_cases d2:y<en
            · rw [v3 y y1 d2]; exact le_of hA _ _ x1 (by omega) (by omega)
            · rw [v4 y (by omega)]
              have hT:=ht (by omega)
              have e:mid+m - 1 - (st - 1)=en:=by omega
              rw [e] at hT
              exact KQ (le_of hA x (st - 1) x1 (by omega) (by omega)) (KQ hT (le_of hB en y (by omega) (by omega) y2))
          · rw [v2 x (by omega) x2]
            by_cases d2:y<en
            · rw [v3 y y1 d2]
              have hT:=pE (Classical.not_not.1 (hf (by omega)))
              have e:mid+m - 1 - st=en - 1:=by omega
              rw [e] at hT
              exact KQ (le_of hB _ (en - 1) (by omega) (by omega) (by omega)) (KQ hT (le_of hA st _ (by omega) (by omega) (by omega)))
            · rw [v4 y (by omega)]; exact le_of hB _ _ (by omega) (by omega) y2
        refine FH (fun u:List AK=>SpC a mid t u∧dU u a mid) (fun u hu=>?_) fun k'' hk''=>?_
        · obtain ⟨u1,u2⟩:=hu
          have ul:=u1.len
          have fin:∀ w,SpC mid b u w→dU w mid b→Q w:=fun w w1 w2=>hQ w ((hsp.trans (u1.wide (Nat.le_refl _) (by omega))).trans (w1.wide (by omega) (Nat.le_refl _))) fun p q p1 p2 p3=>by
            by_cases d1:q<mid
            · rw [w1.out p (.inl (by omega)),w1.out q (.inl d1)]; exact u2 p q p1 p2 d1
            · by_cases d2:mid≤p
              · exact w2 p q d2 p2 p3
              · rw [w1.out p (.inl (by omega))]
                obtain ⟨p',z1,z2,e1⟩:=u1.mem p p1 (by omega)
                obtain ⟨q',z3,z4,e2⟩:=w1.mem q (by omega) p3
                rw [e1,e2,u1.out q' (.inr z3)]
                exact cross p' q' z1 z2 z3 z4
          have sC':dU u mid en:=fun p q p1 p2 p3=>by rw [u1.out p (.inr p1),u1.out q (.inr (by omega))]; exact sC p q p1 p2 p3
          have sD':dU u en b:=fun p q p1 p2 p3=>by rw [u1.out p (.inr (by omega)),u1.out q (.inr (by omega))]; exact sD p q p1 p2 p3
          refine AC (fun d1=>AC (fun d2=>?_) (fun d2=>?_)) (fun d1=>?_)
          · exact ih (by omega) (by omega) (by omega) (by omega) (by omega) sC' sD' fin
          · exact fin u (.refl _ _ _) fun p q p1 p2 p3=>sC' p q p1 p2 (by omega)
          · exact fin u (.refl _ _ _) fun p q p1 p2 p3=>sD' p q (by omega) p2 p3
        · refine AC (fun d1=>AC (fun d2=>?_) (fun d2=>?_)) (fun d1=>?_)
          · exact ih (by omega) (by omega) (by omega) (by omega) (by omega) sA sB fun u u1 u2=>hk'' u ⟨u1,u2⟩
          · exact hk'' t ⟨.refl _ _ _,fun p q p1 p2 p3=>sA p q p1 p2 (by omega)⟩
          · exact hk'' t ⟨.refl _ _ _,fun p q p1 p2 p3=>sB p q (by omega) p2 p3⟩
      · refine AC (fun d1=>AC (fun d2=>?_) (fun d2=>?_)) (fun d1=>?_)
        · exact AeX (by omega) (by omega) (by omega) hl fun t t1 t2 t3=>hk' t ⟨t1,t2,t3⟩
        · exact hk' s ⟨rfl,.refl _,fun x=>(sM (.inr (by omega)) (by omega) (by omega)).symm⟩
        · exact hk' s ⟨rfl,.refl _,fun x=>(sM (.inl (by omega)) (by omega) (by omega)).symm⟩
  · refine AC (fun d=>?_) (fun d=>hk _ ⟨a,m,rfl,by omega,by omega,by omega,by omega,.inl rfl,.inr rfl,by omega⟩)
    rw [UM (i:=mid+m) (k:=b) (by omega) (by omega)]
    exact hk _ ⟨mid+m - b,mid,rfl,by omega,by omega,by omega,by omega,.inr (by omega),.inl rfl,by omega⟩
theorem AcT:∀ k:Nat,wE (CK k) k
  | 0=>fun h1 h2 _ _ hN=>by omega
  | k+1=>AcS (AcT k)
theorem AcU {s:List AK} {a m b:Nat} {Q:List AK→Prop} (h1:a<m) (h2:m<b) (hb:b≤s.length) (hl:s.length≤1000000000) (hA:dU s a m) (hB:dU s m b) (hQ:∀ t,SpC a b s t→dU t a b→Q t):CS s a m b Q:=
  ⟨b - a,AcT (b - a) h1 h2 hb hl (Nat.le_refl _) hA hB hQ⟩
def BlkC (t:List AK) (bs n d:Nat):Prop:=∀ i j,d*bs≤i→i<j→j<d*bs+bs→j<n→jH (gC t i) (gC t j)
theorem BlkC.same {t u:List AK} {bs n d:Nat} (h:BlkC t bs n d) (he:∀ i,d*bs≤i→i<d*bs+bs→gC u i=gC t i):BlkC u bs n d:=fun i j h1 h2 h3 h4=>by rw [he i h1 (by omega),he j (by omega) h3]; exact h i j h1 h2 h3 h4
theorem AcV {s:List AK} {Q:List AK→Prop} (hl:s.length≤1000000000) (hQ:∀ t,t.Perm s→dU t 0 s.length→Q t):CA s Q:=by
  unfold CA EH
  refine EB (fun st:List AK×Int×Int=>∃ c:Nat,st.2.1=((20*c:Nat):Int)∧st.2.2=((20*c+20:Nat):Int)∧20*c≤s.length∧SpC 0 s.length s st.1∧∀ d,d<c→dU st.1 (20*d) (20*d+20)) (fun st=>s.length - st.2.1.toNat)
    ⟨0,rfl,rfl,by omega,.refl _ _ _,fun d h=>by omega⟩ ?_
  rintro ⟨t,_,_⟩ next ⟨c,rfl,rfl,h1,h2,h3⟩ hn
  dsimp only at h2 h3 ⊢
  have hlt:=h2.len
  refine AC (fun hb=>?_) (fun hb=>?_)
  · refine yS (by omega) (by omega) (by omega) fun u u1 u2=>?_
    rw [show (20:Int)=((20:Nat):Int) from rfl,cD (by omega) (by omega)]
    refine hn _ ⟨c+1,by dsimp only; congr 1,by dsimp only; congr 1,by omega,h2.trans (u1.wide (by omega) (by omega)),fun d hd=>?_⟩ (by dsimp only; omega)
    dsimp only
    by_cases e:d=c
    · subst e; exact u2
    · intro i j k1 k2 k3
      rw [u1.out i (.inl (by omega)),u1.out j (.inl (by omega))]
      exact h3 d (by omega) i j k1 k2 k3
  · refine yS (by omega) (by omega) (by omega) fun u u1 u2=>?_
    have h4:∀ d,BlkC u 20 s.length d:=fun d i j k1 k2 k3 k4=>by
      by_cases e:d<c
      · rw [u1.out i (.inl (by omega)),u1.out j (.inl (by omega))]
        exact h3 d e i j (by omega) k2 (by omega)
      · exact u2 i j (by omega) k2 (by omega)
    have h5:=h2.trans (u1.wide (a':=0) (b':=s.length) (by omega) (by omega))
    clear u1 u2 hn h3 h2 hb h1
    refine EB (fun st:List AK×Int=>∃ bs:Nat,st.2=(bs:Int)∧0<bs∧SpC 0 s.length s st.1∧∀ d,BlkC st.1 bs s.length d) (fun st=>s.length - st.2.toNat) ⟨20,rfl,by omega,h5,h4⟩ ?_
    clear h4 h5 u hlt t c
    rintro ⟨u,_⟩ next ⟨bs,rfl,b0,h2,h3⟩ hn
    dsimp only at h2 h3 ⊢
    refine AC (fun hb=>?_) (fun hb=>hQ u h2.perm fun i j k1 k2 k3=>h3 0 i j (by omega) k2 (by omega) k3)
    have two:AH (2*(bs:Int))=((2*bs:Nat):Int):=by rw [AX (by omega) (by omega)]; omega
    have two':AH ((bs:Int)*2)=((2*bs:Nat):Int):=by rw [AX (by omega) (by omega)]; omega
    rw [two,two']
    have up:∀ c:Nat,(2*(c+1))*bs=(2*c)*bs+2*bs:=fun c=>by rw [show 2*(c+1)=2*c+2 by omega,Nat.add_mul]
    have up1:∀ c:Nat,(2*c+1)*bs=(2*c)*bs+bs:=fun c=>by rw [Nat.add_mul,Nat.one_mul]
    have mono:∀ {x y:Nat},x≤y→x*bs≤y*bs:=fun h=>Nat.mul_le_mul_right bs h
    have ending:∀ (w:List AK) (c:Nat),SpC 0 s.length s w→(∀ d,d<c→dU w ((2*d)*bs) ((2*d)*bs+2*bs))→dU w ((2*c)*bs) s.length→s.length<(2*c)*bs+2*bs→next (w,((2*bs:Nat):Int)):=fun w c w1 w2 w3 w4=>by
      refine hn _ ⟨2*bs,rfl,by omega,w1,fun d i j k1 k2 k3 k4=>?_⟩ (by dsimp only; omega)
      dsimp only
      have ed:d*(2*bs)=(2*d)*bs:=by rw [Nat.mul_left_comm,Nat.mul_assoc]
      rw [ed] at k1 k3
      rcases Nat.lt_trichotomy d c with e | e | e
      · exact w2 d e i j k1 k2 k3
      · subst e; exact w3 i j k1 k2 k4
      · have:=mono (show 2*(c+1)≤2*d by omega)
        rw [up] at this
        omega
    refine EB (fun st:List AK×Int×Int=>∃ c:Nat,st.2.1=(((2*c)*bs:Nat):Int)∧st.2.2=(((2*c)*bs+2*bs:Nat):Int)∧(2*c)*bs≤s.length∧SpC 0 s.length s st.1∧(∀ d,d<c→dU st.1 ((2*d)*bs) ((2*d)*bs+2*bs))∧∀ d,2*c≤d→BlkC st.1 bs s.length d) (fun st=>s.length - st.2.1.toNat)
      ⟨0,by simp,by simp,by omega,h2,fun d h=>by omega,fun d _=>h3 d⟩ ?_
    clear h2 h3 hn
    rintro ⟨v,_,_⟩ nx ⟨c,rfl,rfl,h1,h2,h3,h4⟩ hx
    dsimp only at h2 h3 h4 ⊢
    have hlv:=h2.len
    have hA:∀ i j,(2*c)*bs≤i→i<j→j<(2*c)*bs+bs→j<s.length→jH (gC v i) (gC v j):=h4 (2*c) (Nat.le_refl _)
    have hB:∀ i j,(2*c)*bs+bs≤i→i<j→j<(2*c)*bs+bs+bs→j<s.length→jH (gC v i) (gC v j):=by
      have:=h4 (2*c+1) (by omega)
      unfold BlkC at this
      rw [up1] at this
      exact this
    have upc:=up c
    refine AC (fun hbn=>?_) (fun hbn=>?_)
    · rw [cD (i:=2*c*bs) (k:=bs) (by omega) (by omega),cD (i:=2*c*bs+2*bs) (k:=2*bs) (by omega) (by omega)]
      refine AcU (by omega) (by omega) (by omega) (by omega) (fun i j k1 k2 k3=>hA i j k1 k2 k3 (by omega)) (fun i j k1 k2 k3=>hB i j k1 k2 (by omega) (by omega)) fun w w1 w2=>?_
      refine hx _ ⟨c+1,by dsimp only; rw [up],by dsimp only; rw [up],by omega,h2.trans (w1.wide (by omega) (by omega)),fun d hd=>?_,fun d hd=>?_⟩ (by dsimp only; omega)
      · dsimp only
        by_cases e:d=c
        · subst e; exact w2
        · have hm:=mono (show 2*(d+1)≤2*c by omega)
          rw [up] at hm
          intro i j k1 k2 k3
          rw [w1.out i (.inl (by omega)),w1.out j (.inl (by omega))]
          exact h3 d (by omega) i j k1 k2 k3
      · dsimp only
        have hm:=mono hd
        rw [up] at hm
        exact (h4 d (by omega)).same fun i k1 k2=>w1.out i (.inr (by omega))
    · rw [cD (i:=2*c*bs) (k:=bs) (by omega) (by omega)]
      refine AC (fun hm=>?_) (fun hm=>?_)
      · refine AcU (by omega) (by omega) (by omega) (by omega) (fun i j k1 k2 k3=>hA i j k1 k2 k3 (by omega)) (fun i j k1 k2 k3=>hB i j k1 k2 (by omega) k3) fun w w1 w2=>?_
        refine ending w c (h2.trans (w1.wide (by omega) (by omega))) (fun d hd=>?_) w2 (by omega)
        have hm:=mono (show 2*(d+1)≤2*c by omega)
        rw [up] at hm
        intro i j k1 k2 k3
        rw [w1.out i (.inl (by omega)),w1.out j (.inl (by omega))]
        exact h3 d hd i j k1 k2 k3
      · exact ending v c h2 h3 (fun i j k1 k2 k3=>hA i j k1 k2 (by omega) k3) (by omega)
end Go.Proofs.YtbohadngdkjljaaGreat
