import Derived.Test.YtbohadngdkjljaaGreatGemmB
namespace Go.Proofs.YtbohadngdkjljaaGreat
open Go Go.Fw
set_option linter.unusedVariables false
set_option linter.unusedSimpArgs false
def eX (a b:AK):Prop:=PD (a.Row,a.Col) (b.Row,b.Col)
structure yX (rows cols:Int) (l:List AK):Prop where
  inc:l.Pairwise eX
  inn:∀ c∈l,(0≤c.Row∧c.Row<rows)∧(0≤c.Col∧c.Col<cols)
  ok:∀ c∈l,NF c.Val
  len:l.length≤65536
theorem mD {r ra ca rb cb rm cm:Int} {A B M:List AC} (hM:Canon rm cm M):yX rm cm (GH r A B M):=by
  have hmem:∀ c∈GH r A B M,∃ t∈M,c.Row=t.Row∧c.Col=t.Col∧NF c.Val:=fun c hc=>by
    obtain ⟨t,ht,he⟩:=List.mem_filterMap.1 hc
    unfold KU at he
    cases hw:NL r A B t.Row t.Col with
    | none=>rw [hw] at he; cases he
    | some w=>rw [hw] at he; cases he; exact ⟨t,ht,rfl,rfl,kA r _ _ none (fun _ h=>by cases h) w hw⟩
  refine ⟨?_,fun c hc=>?_,fun c hc=>?_,Nat.le_trans (vU r A B M) hM.len⟩
  · refine List.Pairwise.filterMap _ (fun a b hab c hc d hd=>?_) hM.srt
    unfold KU at hc hd
    cases hw:NL r A B a.Row a.Col with
    | none=>rw [hw] at hc; cases hc
    | some w=>
      cases hu:NL r A B b.Row b.Col with
      | none=>rw [hu] at hd; cases hd
      | some u=>rw [hw] at hc; rw [hu] at hd; cases hc; cases hd; exact hab
  · obtain ⟨t,ht,h1,h2,_⟩:=hmem c hc
    have:=hM.inn t ht
    unfold UD at this
    omega
  · obtain ⟨t,_,_,_,h⟩:=hmem c hc; exact h
theorem ST (x y:AK):vH (RS x.Row y.Row) (RS x.Col y.Col)<0↔eX x y:=by
  unfold eX PD vH RS
  simp only
  split <;> split <;> (try split) <;> omega
theorem TF {x y:AK} {Q:Int→Prop} (h:Q (vH (RS x.Row y.Row) (RS x.Col y.Col))):RL x y Q:=by
  unfold RL
  exact HE (HE (jU h))
theorem iX {l:List AK} {Q:Bool→Prop} (hl:l.length≤1000000) (h:l.Pairwise eX) (hQ:Q true):JW l Q:=by
  unfold JW
  refine EX l.length (by omega) (fun _=>True) trivial (fun i next hi _ hn=>?_) (fun next _=>?_)
  · refine AD (fun _=>AD (fun hp=>?_) (fun _=>hn trivial)) (fun h=>by omega)
    have e:AJ ((i:Int) - 1)=((i - 1:Nat):Int):=by rw [AV (by omega) (by omega)]; omega
    rw [e]
    refine BG (by omega) (BG hi (TF (AD (fun h0=>?_) (fun _=>hn trivial))))
    have h1:=(ST l[i - 1] l[i]).2 (List.pairwise_iff_getElem.1 h (i - 1) i (by omega) hi (by omega))
    omega
  · exact AD (fun h=>by omega) (fun _=>hQ)
def yY (r:Int) (c:AK):Option AC:=if (NY c.Val).1≠zS r then some ⟨c.Row,c.Col,(NY c.Val).1⟩ else none
def YP (r rows cols:Int) (l:List AK):Rows×Int:=if l.all (fun c=>(NY c.Val).2) then xZ r rows cols (l.filterMap (yY r)) else (zR,12)
theorem yZ (a:AP):JO (NY a).1:=by
  unfold NY JO
  split
  · rw [HP]; omega
  · simp
theorem Ab6 {r:Int} {l:List AK}:∀ t∈l.filterMap (yY r),JO t.Val:=fun t ht=>by
  obtain ⟨c,_,he⟩:=List.mem_filterMap.1 ht
  unfold yY at he
  split at he
  · cases he; exact yZ _
  · cases he
theorem vV {r:Int} {l:List AK} {i:Nat} (hi:i<l.length):(l.take (i+1)).filterMap (yY r)=(l.take i).filterMap (yY r)++(yY r l[i]).toList:=by
  rw [List.take_succ_eq_append_getElem hi,List.filterMap_append]
  congr 1
theorem mE {r rows cols:Int} {l:List AK} {Q:Rows×Int→Prop} (hr:1≤r∧r≤5) (h0:(0≤rows∧rows≤4096)∧(0≤cols∧cols≤4096)) (h:yX rows cols l) (hQ:Q (YP r rows cols l)):XV r rows cols l Q:=by
  unfold XV FF
  have hl:=h.len
  refine LN ?_
  rw [decide_eq_true hr]
  refine AW rfl ?_
  unfold JX
  refine AD (fun _=>CR (fun hn=>by have:=of_decide_eq_false hn; omega) (fun _=>AD (fun _=>?_) (fun h=>by omega))) (fun h=>by omega)
  dsimp only
  rw [show (!decide (cols≤4096))=false by simp; omega]
  refine AW rfl ?_
  have hk:JW l fun r155=>AQ (!r155) (Q (zR,6)) (AQ (decide (65536<(l.length:Int))) (Q (zR,5)) (BK (fun (s:(List AC)×Int) (next454:((List AC)×Int)→Prop)=>match s with | (s448,s452)=>AQ (decide (s452<(l.length:Int))) (BD l s452 fun x472=>LW r x472.Val fun r486=>AQ (!r486.2) (Q (zR,12)) (TY r fun r496=>AQ (r486.1 != r496) (HY 24 s448 ([({ Row:=x472.Row,Col:=x472.Col,Val:=r486.1 }:AC)]) fun _=>next454 ((s448++([({ Row:=x472.Row,Col:=x472.Col,Val:=r486.1 }:AC)])),AJ (s452+1))) (next454 (s448,AJ (s452+1))))) (RJ r rows cols s448 fun r512=>Q (r512.1,r512.2))) (([]:List AC),0))):=by
    refine iX (by omega) h.inc (AW rfl (AD (fun h=>by omega) (fun _=>?_)))
    refine BH (fun (s:List AC) i=>(s,i)) 0 l.length (by omega) (fun i s=>s=(l.take i).filterMap (yY r)∧∀ q (hq:q<l.length),q<i→(NY l[q].Val).2=true) (by omega) ⟨rfl,fun q hq h=>by omega⟩ (fun i s next _ hi hm hn=>?_) (fun s next hm=>?_)
    · obtain ⟨rfl,hok⟩:=hm
      have hst:=vV (r:=r) hi
      have hlk:=List.length_filterMap_le (yY r) (l.take i)
      rw [List.length_take] at hlk
      refine AD (fun _=>BG hi (jW (h.ok _ (List.getElem_mem hi)) ?_)) (fun h=>by omega)
      cases hb:(NY l[i].Val).2 with
      | false=>
        refine BN rfl ?_
        unfold YP at hQ
        rw [if_neg (fun ha=>by have:=List.all_eq_true.1 ha l[i] (List.getElem_mem hi); rw [hb] at this; cases this)] at hQ
        exact hQ
      | true=>
        have hok':∀ q (hq:q<l.length),q<i+1→(NY l[q].Val).2=true:=fun q hq hqi=>by
          by_cases e:q=i
          · subst e; exact hb
          · exact hok q hq (by omega)
        refine AW rfl (mA (EW (fun hz=>BI (by simp; omega) (hn _ ⟨?_,hok'⟩)) (fun hz=>hn _ ⟨?_,hok'⟩)))
        · rw [hst]; unfold yY; rw [if_pos hz]; rfl
        · rw [hst]; unfold yY; rw [if_neg (fun h=>h hz)]; simp
    · obtain ⟨rfl,hok⟩:=hm
      refine AD (fun h=>by omega) (fun _=>?_)
      rw [List.take_length]
      have hlk:=List.length_filterMap_le (yY r) l
      unfold YP at hQ
      rw [if_pos (List.all_eq_true.2 fun c hc=>by obtain ⟨q,hq,rfl⟩:=List.getElem_of_mem hc; exact hok q hq hq)] at hQ
      exact yB (by omega) Ab6 hQ
  unfold DA DI PK JX
  have e1:AJ (rows - 1)=rows - 1:=AV (by omega) (by omega)
  have e2:AJ (cols - 1)=cols - 1:=AV (by omega) (by omega)
  rw [e1,e2]
  refine EX l.length (by omega) (fun _=>True) trivial (fun i next hi _ hn=>?_) (fun next _=>?_)
  · have hc:=h.inn _ (List.getElem_mem hi)
    refine AD (fun _=>BG hi (AD (fun _=>CR (fun hb=>by have:=of_decide_eq_false hb; omega) (fun _=>AD (fun _=>?_) (fun h=>by omega))) (fun h=>by omega))) (fun h=>by omega)
    dsimp only
    rw [show (!decide ((l[i]).Col≤cols - 1))=false by simp; omega]
    exact AW rfl (hn trivial)
  · exact AD (fun h=>by omega) (fun _=>AW (by decide) hk)
theorem gK {x:Int} {Q:Int→Prop} (h:VS .u8 x) (hQ:∀ n:Int,0≤n→n≤13→Q n):LX x Q:=by
  unfold LX
  have hb:=bounds_u8 h
  refine hQ _ ?_ ?_
  · rw [Int.tmod_eq_emod_of_nonneg (by omega)]; omega
  · rw [Int.tmod_eq_emod_of_nonneg (by omega)]; omega
theorem gL {n:Int} (h0:0≤n) (h1:n≤13):JP n=n:=by unfold JP; omega
theorem zA {a:NP} {Q:Rows×Rows×Rows→Prop} (hs:VS .u8 a.Size.1∧VS .u8 a.Size.2.1∧VS .u8 a.Size.2.2) (h1:∀ t∈a.A,KS t) (h2:∀ t∈a.B,KS t) (h3:∀ t∈a.M,KS t)
    (hQ:∀ n k m A B M,(0≤n∧n≤13)→(0≤k∧k≤13)→(0≤m∧m≤13)→Canon n k A→Canon k m B→Canon n m M→(∀ t∈A,JO t.Val)→(∀ t∈B,JO t.Val)→(∀ t∈M,JO t.Val)→Q (BF n k A,BF k m B,BF n m M)):KF a Q:=by
  unfold KF
  refine gK hs.1 fun n n0 n1=>gK hs.2.1 fun k k0 k1=>gK hs.2.2 fun m m0 m1=>?_
  refine cE ⟨QQ n0 (Int.le_trans n1 (by decide)),QQ k0 (Int.le_trans k1 (by decide))⟩ h1 fun A hA vA=>cE ⟨QQ k0 (Int.le_trans k1 (by decide)),QQ m0 (Int.le_trans m1 (by decide))⟩ h2 fun B hB vB=>cE ⟨QQ n0 (Int.le_trans n1 (by decide)),QQ m0 (Int.le_trans m1 (by decide))⟩ h3 fun M hM vM=>?_
  simp only [gL n0 n1,gL k0 k1,gL m0 m1] at hA hB hM ⊢
  exact hQ n k m A B M ⟨n0,n1⟩ ⟨k0,k1⟩ ⟨m0,m1⟩ hA hB hM vA vB vM
theorem oW {rows cols:Int} {T:List AC} (h:Canon rows cols T) {i j a:Int} (hi:0≤i):Y7 (lZ T i) j=some a↔(⟨i,j,a⟩:AC)∈T:=by
  unfold lZ
  rw [Ab4 (mC h.srt i.toNat),List.mem_map]
  unfold KH
  constructor
  · rintro ⟨t,ht,he⟩
    obtain ⟨h1,h2⟩:=List.mem_filter.1 ht
    have h3:=of_decide_eq_true h2
    unfold UP at he
    obtain ⟨tr,tc,tv⟩:=t
    simp only [CE.mk.injEq] at he h3
    obtain ⟨rfl,rfl⟩:=he
    rw [show i=tr by omega]
    exact h1
  · intro ht
    exact ⟨_,List.mem_filter.2 ⟨ht,by simp; omega⟩,rfl⟩
theorem UG {r rows cols:Int} {A B:List AC} (h:Canon rows cols A) {i:Int} (hi:0≤i) (c:Int):NL r A B i c=Z8 r cols.toNat (Y7 (lZ A i)) (uD B c):=by
  unfold NL
  refine yN (mC h.srt _) (fun x hx=>?_)
  obtain ⟨t,ht,rfl⟩:=List.mem_map.1 hx
  have:=h.inn t (List.mem_filter.1 ht).1
  unfold UD at this
  unfold UP
  dsimp only
  omega
theorem WY {α β:Type} {f g:α→Option β}:∀ {l:List α},(∀ x∈l,f x=g x)→l.filterMap f=l.filterMap g
  | [],_=>rfl
  | x :: l,h=>by rw [List.filterMap_cons,List.filterMap_cons,h x (by simp),WY fun y hy=>h y (List.mem_cons_of_mem _ hy)]
def YQ (i m:Nat):List AC:=(List.range m).map fun j:Nat=>(⟨i,j,1⟩:AC)
def UH (n m:Nat):List AC:=(List.range n).flatMap fun i:Nat=>YQ i m
theorem rT (i m:Nat):YQ i (m+1)=YQ i m++[⟨i,m,1⟩]:=by unfold YQ; rw [List.range_succ,List.map_append]; rfl
theorem gM (n m:Nat):UH (n+1) m=UH n m++YQ n m:=by unfold UH; rw [List.range_succ,List.flatMap_append]; simp
theorem cF (m:Nat):∀ n:Nat,(UH n m).length=n*m
  | 0=>by simp [UH]
  | n+1=>by rw [gM,List.length_append,cF m n,YQ,List.length_map,List.length_range,Nat.succ_mul]
theorem cG {n m:Nat} {t:AC} (h:t∈UH n m):UD n m t∧t.Val=1:=by
  obtain ⟨i,hi,h⟩:=List.mem_flatMap.1 h
  obtain ⟨j,hj,rfl⟩:=List.mem_map.1 h
  rw [List.mem_range] at hi hj
  unfold UD
  refine ⟨⟨?_,?_,?_,?_⟩,rfl⟩ <;> dsimp only <;> omega
theorem dN {n m:Nat} (hn:n≤200) (hm:m≤200):Canon n m (UH n m) where
  r0:=by omega
  r1:=by omega
  c0:=by omega
  c1:=by omega
  len:=by
    rw [cF]
    have:=Nat.mul_le_mul hn hm
    omega
  srt:=by
    unfold Srt UH
    rw [List.pairwise_flatMap]
    refine ⟨fun i _=>?_,?_⟩
    · unfold YQ
      rw [List.pairwise_map]
      refine List.Pairwise.imp (fun {a b} hab=>?_) (List.pairwise_lt_range (n:=m))
      unfold PD key
      dsimp only
      omega
    · refine List.Pairwise.imp (fun {a b} hab x hx y hy=>?_) (List.pairwise_lt_range (n:=n))
      obtain ⟨u,hu,rfl⟩:=List.mem_map.1 hx
      obtain ⟨v,hv,rfl⟩:=List.mem_map.1 hy
      unfold PD key
      dsimp only
      omega
  inn t ht:=(cG ht).1
def gC (s:List AK) (i:Nat):AK:=s.getD i ⟨0,0,⟨0,0⟩⟩
theorem PN {s:List AK} {i:Nat} (h:i<s.length):s[i]? = some (gC s i):=by simp [gC,List.getD_eq_getElem?_getD,h]
theorem mF {s:List AK} {i:Nat} (h:i<s.length):s[i]=gC s i:=by have:=PN h; rw [List.getElem?_eq_getElem h] at this; exact Option.some.inj this
def zB (s:List AK) (i k:Nat):List AK:=(s.set i (gC s k)).set k (gC s i)
theorem uE (s:List AK) (i k:Nat):(zB s i k).length=s.length:=by simp [zB]
theorem VJ {s:List AK} {i k:Nat} (hi:i<s.length) (hk:k<s.length) (j:Nat):gC (zB s i k) j=if j=k then gC s i else if j=i then gC s k else gC s j:=by
  unfold zB gC
  simp only [List.getD_eq_getElem?_getD]
  by_cases e1:j=k
  · subst e1; rw [if_pos rfl,List.getElem?_set_self (by simpa using hk)]; simp
  · rw [if_neg e1,List.getElem?_set_ne (Ne.symm e1)]
    by_cases e2:j=i
    · subst e2; rw [if_pos rfl,List.getElem?_set_self hi]; simp
    · rw [if_neg e2,List.getElem?_set_ne (Ne.symm e2)]
theorem cH:∀ (l:List AK) (i:Nat) (h:i<l.length) (y:AK),(l[i] :: l.set i y).Perm (y :: l)
  | a :: l,0,_,y=>by simpa using List.Perm.swap y a l
  | a :: l,i+1,h,y=>by
    have:=cH l i (by simpa using h) y
    simp only [List.getElem_cons_succ,List.set_cons_succ]
    exact (List.Perm.swap _ _ _).trans ((this.cons a).trans (List.Perm.swap _ _ _))
theorem oX {s:List AK} {i k:Nat} (hi:i<s.length) (hk:k<s.length):(zB s i k).Perm s:=by
  have e1:=mF hi
  have e2:=mF hk
  have h1:=cH s i hi (gC s k)
  have h2:=cH (s.set i (gC s k)) k (by simpa using hk) (gC s i)
  have e3:(s.set i (gC s k))[k]'(by simpa using hk)=gC s k:=by
    rw [List.getElem_set]; split
    · rfl
    · exact e2
  rw [e3] at h2; rw [e1] at h1
  exact List.Perm.cons_inv (h2.trans h1)
theorem aV {s:List AK} {i k:Nat} {K:List AK→Prop} (hi:i<s.length) (hk:k<s.length) (h:K (zB s i k)) :
    BD s (k:Int) fun x=>BD s (i:Int) fun y=>BD s (i:Int) fun _=>BD (s.set (i:Int).toNat x) (k:Int) fun _=>K ((s.set (i:Int).toNat x).set (k:Int).toNat y):=by
  refine AM (x:=gC s k) (by omega) (PN hk) (AM (x:=gC s i) (by omega) (PN hi) (AM (x:=gC s i) (by omega) (PN hi) ?_))
  exact BG (by simpa using hk) h
def gN (a b:AK):Prop:=¬eX b a
theorem KI {a b c:AK} (h1:gN a b) (h2:gN b c):gN a c:=by unfold gN eX PD at *; simp only at *; omega
theorem zC (a:AK):gN a a:=by unfold gN eX PD; simp only; omega
theorem mG {a b:AK} (h:eX a b):gN a b:=by unfold gN eX PD at *; simp only at *; omega
theorem AdW {x y:AK} {A B:Prop} (h1:eX x y→A) (h2:¬eX x y→B):EN x y fun r=>AQ (decide (r<0)) A B:=by
  unfold EN
  exact HE (HE (jU (AD (fun h=>h1 ((ST x y).1 h)) (fun h=>h2 fun h'=>h ((ST x y).2 h')))))
theorem oY {x y:AK} {A B:Prop} (h1:¬eX x y→A) (h2:eX x y→B):EN x y fun r=>AQ (!(decide (r<0))) A B:=by
  unfold EN
  exact HE (HE (jU (CR (fun h=>h1 fun h'=>of_decide_eq_false h ((ST x y).2 h')) (fun h=>h2 ((ST x y).1 (of_decide_eq_true h))))))
def cI (s:List AK) (a b:Nat):Prop:=∀ i j,a≤i→i<j→j<b→gN (gC s i) (gC s j)
structure SpC (a b:Nat) (s t:List AK):Prop where
  len:t.length=s.length
  perm:t.Perm s
  out:∀ i,i<a∨b≤i→gC t i=gC s i
  mem:∀ i,a≤i→i<b→∃ j,a≤j∧j<b∧gC t i=gC s j
theorem SpC.refl (a b:Nat) (s:List AK):SpC a b s s:=⟨rfl,.refl _,fun _ _=>rfl,fun i h1 h2=>⟨i,h1,h2,rfl⟩⟩
theorem SpC.trans {a b:Nat} {s t u:List AK} (h:SpC a b s t) (h':SpC a b t u):SpC a b s u:=
  ⟨h'.len.trans h.len,h'.perm.trans h.perm,fun i hi=>(h'.out i hi).trans (h.out i hi),fun i h1 h2=>by
    obtain ⟨j,h3,h4,e⟩:=h'.mem i h1 h2
    obtain ⟨k,h5,h6,e'⟩:=h.mem j h3 h4
    exact ⟨k,h5,h6,e.trans e'⟩⟩
theorem SpC.wide {a b a' b':Nat} {s t:List AK} (h:SpC a b s t) (ha:a'≤a) (hb:b≤b'):SpC a' b' s t:=
  ⟨h.len,h.perm,fun i hi=>h.out i (by omega),fun i h1 h2=>by
    by_cases c:a≤i∧i<b
    · obtain ⟨j,h3,h4,e⟩:=h.mem i c.1 c.2
      exact ⟨j,by omega,by omega,e⟩
    · exact ⟨i,h1,h2,h.out i (by omega)⟩⟩
theorem SpC.swap {a b i k:Nat} {s:List AK} (hb:b≤s.length) (hi:a≤i∧i<b) (hk:a≤k∧k<b):SpC a b s (zB s i k):=
  ⟨uE s i k,oX (by omega) (by omega),fun j hj=>by
    rw [VJ (by omega) (by omega),if_neg (by omega),if_neg (by omega)],fun j h1 h2=>by
    rw [VJ (by omega) (by omega)]
    by_cases e:j=k
    · rw [if_pos e]; exact ⟨i,hi.1,hi.2,rfl⟩
    · rw [if_neg e]
      by_cases e':j=i
      · rw [if_pos e']; exact ⟨k,hk.1,hk.2,rfl⟩
      · rw [if_neg e']; exact ⟨j,h1,h2,rfl⟩⟩
theorem cJ {i:Nat} (h0:0<i) (h1:i≤1000000000000):AJ ((i:Int) - 1)=((i - 1:Nat):Int):=by rw [AV (by omega) (by omega)]; omega
theorem ZA {i:Nat} (h1:i≤1000000000000):AJ ((i:Int)+1)=((i+1:Nat):Int):=by rw [AV (by omega) (by omega)]; omega
theorem aW {i k:Nat} (h1:i≤1000000000000) (h2:k≤1000000000000):AJ ((i:Int)+(k:Int))=((i+k:Nat):Int):=by rw [AV (by omega) (by omega)]; omega
theorem SU {i k:Nat} (h0:k≤i) (h1:i≤1000000000000):AJ ((i:Int) - (k:Int))=((i - k:Nat):Int):=by rw [AV (by omega) (by omega)]; omega
theorem uF {s:List AK} {a b:Nat} {Q:List AK→Prop} (hb:b≤s.length) (hl:s.length≤1000000000) (ha:a≤b) (hQ:∀ t,SpC a b s t→cI t a b→Q t):BV s a b Q:=by
  unfold BV
  rw [ZA (by omega)]
  refine EL (fun st:List AK×Int=>∃ i:Nat,st.2=i∧a+1≤i∧(i≤b∨i=a+1)∧SpC a b s st.1∧cI st.1 a i) (fun st=>b - st.2.toNat) ⟨a+1,rfl,Nat.le_refl _,.inr rfl,.refl _ _ _,fun i j h1 h2 h3=>by omega⟩ ?_
  rintro ⟨t,_⟩ next ⟨i,rfl,h1,h2,hp,hs⟩ hn
  dsimp only at hp hs ⊢
  have hlen:=hp.len
  refine AD (fun hib=>?_) (fun hib=>hQ t hp fun p q g1 g2 g3=>hs p q g1 g2 (by omega))
  have fin:∀ u:List AK,SpC a b s u→cI u a (i+1)→next (u,AJ ((i:Int)+1)):=fun u hu hsu=>by
    rw [ZA (by omega)]
    exact hn _ ⟨i+1,rfl,by omega,.inl (by omega),hu,hsu⟩ (by dsimp only; omega)
  refine EL (fun st:List AK×Int=>∃ j:Nat,st.2=j∧a≤j∧j≤i∧SpC a b s st.1∧∀ p q,a≤p→p<q→q≤i→q≠j→gN (gC st.1 p) (gC st.1 q)) (fun st=>st.2.toNat) ⟨i,rfl,by omega,Nat.le_refl _,hp,fun p q g1 g2 g3 g4=>hs p q g1 g2 (by omega)⟩ ?_
  rintro ⟨u,_⟩ nx ⟨j,rfl,g1,g2,hu,hv⟩ hx
  dsimp only at hu hv ⊢
  have hul:=hu.len
  refine AD (fun haj=>?_) (fun haj=>fin u hu fun p q k1 k2 k3=>hv p q k1 k2 (by omega) (by omega))
  rw [cJ (by omega) (by omega)]
  refine AM (x:=gC u j) (by omega) (PN (by omega)) (AM (x:=gC u (j - 1)) (by omega) (PN (by omega)) (AdW (fun hlt=>aV (s:=u) (i:=j) (k:=j - 1) (K:=fun l=>nx (l,((j - 1:Nat):Int))) (by omega) (by omega) ?_) (fun hge=>fin u hu fun p q k1 k2 k3=>?_)))
  · refine hx (zB u j (j - 1),((j - 1:Nat):Int)) ⟨j - 1,rfl,by omega,by omega,hu.trans (SpC.swap (s:=u) (i:=j) (k:=j - 1) (by omega) (by omega) (by omega)),fun p q k1 k2 k3 k4=>?_⟩ (by dsimp only; omega)
    dsimp only
    rw [VJ (by omega) (by omega),VJ (by omega) (by omega)]
    rw [if_neg k4]
    by_cases e:q=j
    · rw [if_pos e]
      by_cases e':p=j - 1
      · rw [if_pos e']; exact mG hlt
      · rw [if_neg e',if_neg (by omega)]; exact hv p (j - 1) k1 (by omega) (by omega) (by omega)
    · rw [if_neg e]
      by_cases e':p=j - 1
      · rw [if_pos e']; exact hv j q (by omega) (by omega) k3 e
      · rw [if_neg e']
        by_cases e'':p=j
        · rw [if_pos e'']; exact hv (j - 1) q (by omega) (by omega) k3 e
        · rw [if_neg e'']; exact hv p q k1 k2 k3 e
  · by_cases e:q=j
    · subst e
      by_cases e':p=q - 1
      · subst e'; exact hge
      · exact KI (hv p (q - 1) k1 (by omega) (by omega) (by omega)) hge
    · exact hv p q k1 k2 (by omega) e
theorem cK {s:List AK} {a b n:Nat} {Q:List AK→Prop} (hab:a+n≤b) (hb:b+n≤s.length) (hl:s.length≤1000000000)
    (hQ:∀ t,t.length=s.length→t.Perm s→(∀ i,gC t i=if a≤i∧i<a+n then gC s (b+(i - a)) else if b≤i∧i<b+n then gC s (a+(i - b)) else gC s i)→Q t):BT s a b n Q:=by
  unfold BT
  refine BH (fun (t:List AK) k=>(t,k)) 0 n (by omega) (fun k t=>t.length=s.length∧t.Perm s∧∀ i,gC t i=if a≤i∧i<a+k then gC s (b+(i - a)) else if b≤i∧i<b+k then gC s (a+(i - b)) else gC s i) (by omega) ⟨rfl,.refl _,fun i=>by rw [if_neg (by omega),if_neg (by omega)]⟩ (fun k t next _ hk ht hn=>?_) (fun t next ht=>?_)
  · obtain ⟨h1,h2,h3⟩:=ht
    dsimp only
    refine AD (fun _=>?_) (fun h=>by omega)
    rw [aW (by omega) (by omega),aW (by omega) (by omega)]
    refine aV (s:=t) (i:=a+k) (k:=b+k) (K:=fun l=>next (l,AJ ((k:Int)+1))) (by omega) (by omega) (hn (zB t (a+k) (b+k)) ⟨(uE _ _ _).trans h1,(oX (by omega) (by omega)).trans h2,fun i=>?_⟩)
    rw [VJ (by omega) (by omega),h3,h3,h3]
    repeat' split
    all_goals first | with_reducible rfl | (exfalso; omega) | (congr 1; omega)
  · exact AD (fun h=>by omega) (fun _=>hQ t ht.1 ht.2.1 ht.2.2)
def Y8 (s:List AK) (a m b x:Nat):AK:=if a≤x∧x<a+(b - m) then gC s (x+(m - a)) else if a+(b - m)≤x∧x<b then gC s (x - (b - m)) else gC s x
theorem Ab7 {s:List AK} {a m b:Nat} {Q:List AK→Prop} (h1:a<m) (h2:m<b) (hb:b≤s.length) (hl:s.length≤1000000000)
    (hQ:∀ t,t.length=s.length→t.Perm s→(∀ x,gC t x=Y8 s a m b x)→Q t):DB s a m b Q:=by
  unfold DB
  rw [SU (by omega) (by omega),SU (by omega) (by omega)]
  refine EL (fun st:List AK×Int×Int=>∃ i j:Nat,st.2.1=i∧st.2.2=j∧0<i∧0<j∧i≤m - a∧j≤b - m∧st.1.length=s.length∧st.1.Perm s∧∀ x,Y8 st.1 (m - i) m (m+j) x=Y8 s a m b x) (fun st=>st.2.1.toNat+st.2.2.toNat)
    ⟨m - a,b - m,rfl,rfl,by omega,by omega,Nat.le_refl _,Nat.le_refl _,rfl,.refl _,fun x=>by dsimp only; rw [show m - (m - a)=a by omega,show m+(b - m)=b by omega]⟩ ?_
  rintro ⟨t,_,_⟩ next ⟨i,j,rfl,rfl,i0,j0,i1,j1,hlen,hp,hr⟩ hn
  dsimp only at hlen hp hr ⊢
  rw [SU (i:=m) (k:=i) (by omega) (by omega)]
  refine EW (fun hne=>AD (fun hji=>?_) (fun hji=>?_)) (fun he=>?_)
  · refine cK (by omega) (by omega) (by omega) fun u g1 g2 g3=>?_
    rw [SU (by omega) (by omega)]
    refine hn _ ⟨i - j,j,rfl,rfl,by omega,j0,by omega,j1,g1.trans hlen,g2.trans hp,fun x=>?_⟩ (by dsimp only; omega)
    rw [←hr x]
    dsimp only
    unfold Y8
    rw [g3,g3,g3]
    repeat' split
    all_goals first | with_reducible rfl | (exfalso; omega) | (congr 1; omega)
  · rw [aW (by omega) (by omega),SU (by omega) (by omega)]
    have hne':i≠j:=fun h=>hne (by rw [h])
    refine cK (by omega) (by omega) (by omega) fun u g1 g2 g3=>?_
    rw [SU (by omega) (by omega)]
    refine hn _ ⟨i,j - i,rfl,rfl,i0,by omega,i1,by omega,g1.trans hlen,g2.trans hp,fun x=>?_⟩ (by dsimp only; omega)
    rw [←hr x]
    dsimp only
    unfold Y8
    rw [g3,g3,g3]
    repeat' split
    all_goals first | with_reducible rfl | (exfalso; omega) | (congr 1; omega)
  · have he':i=j:=by omega
    subst he'
    refine cK (by omega) (by omega) (by omega) fun u g1 g2 g3=>hQ u (g1.trans hlen) (g2.trans hp) fun x=>?_
    rw [←hr x,g3]
    unfold Y8
    repeat' split
    all_goals first | with_reducible rfl | (exfalso; omega) | (congr 1; omega)
theorem mH {T:Nat→Prop} {body:Int×Int→((Int×Int)→Prop)→Prop} {lo hi:Nat} (h0:lo≤hi)
    (hs:∀ (i j:Nat) (next:Int×Int→Prop),lo≤i→i<j→j≤hi→(T ((i+j) / 2)→next ((((i+j) / 2+1:Nat):Int),(j:Int)))→(¬T ((i+j) / 2)→next ((i:Int),(((i+j) / 2:Nat):Int)))→body ((i:Int),(j:Int)) next)
    (he:∀ (i:Nat) (next:Int×Int→Prop),lo≤i→i≤hi→(lo<i→T (i - 1))→(i<hi→¬T i)→body ((i:Int),(i:Int)) next):BK body ((lo:Int),(hi:Int)):=by
  refine EL (fun st:Int×Int=>∃ i j:Nat,st=((i:Int),(j:Int))∧lo≤i∧i≤j∧j≤hi∧(lo<i→T (i - 1))∧(j<hi→¬T j)) (fun st=>(st.2 - st.1).toNat) ⟨lo,hi,rfl,Nat.le_refl _,h0,Nat.le_refl _,fun h=>by omega,fun h=>by omega⟩ ?_
  rintro _ next ⟨i,j,rfl,h1,h2,h3,h4,h5⟩ hn
  by_cases e:i=j
  · subst e; exact he i next h1 h3 h4 h5
  · refine hs i j next h1 (by omega) h3 (fun ht=>hn _ ⟨(i+j) / 2+1,j,rfl,by omega,by omega,h3,fun _=>by rw [Nat.add_sub_cancel]; exact ht,h5⟩ (by dsimp only; omega)) (fun ht=>hn _ ⟨i,(i+j) / 2,rfl,h1,by omega,by omega,h4,fun _=>ht⟩ (by dsimp only; omega))
theorem uG {i j:Nat} (h1:i≤1000000000000) (h2:j≤1000000000000):AJ (shr .u64 (IntKind.wrap .u64 (AJ ((i:Int)+(j:Int)))) 1)=(((i+j) / 2:Nat):Int):=by
  rw [AV (x:=(i:Int)+j) (by omega) (by omega),nW (by omega) (by omega)]
  have:shr .u64 ((i:Int)+j) 1=((i:Int)+j) / 2:=by
    show ((i:Int)+j).fdiv (2 ^ 1)=_
    rw [Int.fdiv_eq_ediv_of_nonneg _ (by decide)]; rfl
  rw [this,AV (by omega) (by omega)]; omega
def rU (rc:List AK→Int→Int→Int→(List AK→Prop)→Prop) (N:Nat):Prop:=∀ {s:List AK} {a m b:Nat} {Q:List AK→Prop},a<m→m<b→b≤s.length→s.length≤1000000000→b - a≤N→cI s a m→cI s m b →
  (∀ t,SpC a b s t→cI t a b→Q t)→rc s a m b Q
theorem oZ {s:List AK} {a m b x:Nat} (h:¬a<m∨¬m<b) (h1:a≤m) (h2:m≤b):Y8 s a m b x=gC s x:=by
  unfold Y8
  repeat' split
  all_goals first | with_reducible rfl | (exfalso; omega) | (congr 1; omega)
theorem AcP {s t:List AK} {a m b:Nat} (h1:a≤m) (h2:m≤b) (hl:t.length=s.length) (hp:t.Perm s) (hr:∀ x,gC t x=Y8 s a m b x):SpC a b s t:=
  ⟨hl,hp,fun i hi=>by rw [hr]; unfold Y8; rw [if_neg (by omega),if_neg (by omega)],fun i g1 g2=>by
    rw [hr]; unfold Y8
    by_cases c:a≤i∧i<a+(b - m)
    · rw [if_pos c]; exact ⟨_,by omega,by omega,rfl⟩
    · rw [if_neg c,if_pos (by omega)]; exact ⟨_,by omega,by omega,rfl⟩⟩
theorem Ab8 {s:List AK} {a b:Nat} {Q:List AK→Prop} (h2:a+1<b) (hb:b≤s.length) (hl:s.length≤1000000000) (hs:cI s (a+1) b) (hQ:∀ t,SpC a b s t→cI t a b→Q t)
    {rc:List AK→Int→Int→Int→(List AK→Prop)→Prop}:BC rc s a ((a+1:Nat):Int) b Q:=by
  unfold BC
  rw [SU (i:=a+1) (k:=a) (by omega) (by omega)]
  refine CB (fun _=>?_) (fun h=>by omega)
  refine mH (T:=fun c=>eX (gC s c) (gC s a)) (by omega) (fun i j next g1 g2 g3 ht hf=>?_) (fun i next g1 g2 ht hf=>?_)
  · dsimp only
    rw [uG (by omega) (by omega)]
    refine AD (fun _=>AM (x:=gC s ((i+j) / 2)) (by omega) (PN (by omega)) (AM (x:=gC s a) (by omega) (PN (by omega)) (AdW (fun h=>?_) (fun h=>hf h)))) (fun h=>by omega)
    rw [ZA (by omega)]; exact ht h
  · dsimp only
    refine AD (fun h=>by omega) (fun _=>?_)
    rw [cJ (i:=i) (by omega) (by omega)]
    refine BH (fun (t:List AK) k=>(t,k)) a (i - 1) (by omega) (fun k t=>SpC a b s t∧∀ x,gC t x=if a≤x∧x<k then gC s (x+1) else if x=k then gC s a else gC s x) (by omega) ⟨.refl _ _ _,fun x=>by
      rw [if_neg (by omega)]; split
      · rename_i e; rw [e]
      · rfl⟩ (fun k t nx k1 k2 hm hx=>?_) (fun t nx hm=>?_)
    · obtain ⟨m1,m2⟩:=hm
      have hlen:=m1.len
      dsimp only
      refine AD (fun _=>?_) (fun h=>by omega)
      rw [ZA (i:=k) (by omega)]
      refine aV (s:=t) (i:=k) (k:=k+1) (K:=fun l=>nx (l,((k+1:Nat):Int))) (by omega) (by omega) ?_
      have:=hx (zB t k (k+1)) ⟨m1.trans (SpC.swap (s:=t) (i:=k) (k:=k+1) (by omega) (by omega) (by omega)),fun x=>?_⟩
      · rw [ZA (i:=k) (by omega)] at this; exact this
      · rw [VJ (by omega) (by omega),m2,m2,m2]
        repeat' split
        all_goals first | with_reducible rfl | (exfalso; omega) | (congr 1; omega)
    · obtain ⟨m1,m2⟩:=hm
      dsimp only
      refine AD (fun h=>by omega) (fun _=>hQ t m1 fun p q p1 p2 p3=>?_)
      rw [m2,m2]
      have low:∀ x,a+1≤x→x<i→gN (gC s x) (gC s a):=fun x x1 x2=>by
        have h1:=mG (ht (by omega))
        by_cases e:x=i - 1
        · subst e; exact h1
        · exact KI (hs x (i - 1) x1 (by omega) (by omega)) h1
      have high:∀ x,i≤x→x<b→gN (gC s a) (gC s x):=fun x x1 x2=>by
        have h1:gN (gC s a) (gC s i):=hf (by omega)
        by_cases e:x=i
        · subst e; exact h1
        · exact KI h1 (hs i x (by omega) (by omega) x2)
      by_cases c1:p<i - 1
      · rw [if_pos ⟨p1,c1⟩]
        by_cases c2:q<i - 1
        · rw [if_pos ⟨by omega,c2⟩]; exact hs _ _ (by omega) (by omega) (by omega)
        · rw [if_neg (by omega)]
          by_cases c3:q=i - 1
          · rw [if_pos c3]; exact low _ (by omega) (by omega)
          · rw [if_neg c3]; exact hs _ _ (by omega) (by omega) p3
      · rw [if_neg (by omega)]
        rw [if_neg (c:=a≤q∧q<i - 1) (by omega),if_neg (c:=q=i - 1) (by omega)]
        by_cases c3:p=i - 1
        · rw [if_pos c3]; exact high _ (by omega) p3
        · rw [if_neg c3]; exact hs _ _ (by omega) p2 p3
theorem zD {s:List AK} {a m:Nat} {Q:List AK→Prop} (h1:a+1<m) (hb:m+1≤s.length) (hl:s.length≤1000000000) (hs:cI s a m) (hQ:∀ t,SpC a (m+1) s t→cI t a (m+1)→Q t)
    {rc:List AK→Int→Int→Int→(List AK→Prop)→Prop}:BC rc s a m ((m+1:Nat):Int) Q:=by
  unfold BC
  rw [SU (i:=m) (k:=a) (by omega) (by omega),SU (i:=m+1) (k:=m) (by omega) (by omega)]
  refine CB (fun h=>by omega) (fun _=>CB (fun _=>?_) (fun h=>by omega))
  refine mH (T:=fun c=>¬eX (gC s m) (gC s c)) (by omega) (fun i j next g1 g2 g3 ht hf=>?_) (fun i next g1 g2 ht hf=>?_)
  · dsimp only
    rw [uG (by omega) (by omega)]
    refine AD (fun _=>AM (x:=gC s m) (by omega) (PN (by omega)) (AM (x:=gC s ((i+j) / 2)) (by omega) (PN (by omega)) (oY (fun h=>?_) (fun h=>hf fun h'=>h' h)))) (fun h=>by omega)
    rw [ZA (by omega)]; exact ht h
  · dsimp only
    refine AD (fun h=>by omega) (fun _=>?_)
    refine EL (fun st:List AK×Int=>∃ k:Nat,st.2=k∧i≤k∧k≤m∧SpC a (m+1) s st.1∧∀ x,gC st.1 x=if x=k then gC s m else if k<x∧x≤m then gC s (x - 1) else gC s x) (fun st=>st.2.toNat) ⟨m,rfl,g2,Nat.le_refl _,.refl _ _ _,fun x=>by
      dsimp only
      by_cases e:x=m
      · rw [if_pos e,e]
      · rw [if_neg e,if_neg (by omega)]⟩ ?_
    rintro ⟨t,_⟩ nx ⟨k,rfl,k1,k2,m1,m2⟩ hx
    dsimp only at m1 m2 ⊢
    have hlen:=m1.len
    refine AD (fun hik=>?_) (fun hik=>hQ t m1 fun p q p1 p2 p3=>?_)
    · rw [cJ (i:=k) (by omega) (by omega)]
      refine aV (s:=t) (i:=k) (k:=k - 1) (K:=fun l=>nx (l,((k - 1:Nat):Int))) (by omega) (by omega) ?_
      refine hx (zB t k (k - 1),((k - 1:Nat):Int)) ⟨k - 1,rfl,by omega,by omega,m1.trans (SpC.swap (s:=t) (i:=k) (k:=k - 1) (by omega) (by omega) (by omega)),fun x=>?_⟩ (by dsimp only; omega)
      dsimp only
      rw [VJ (by omega) (by omega),m2,m2,m2]
      repeat' split
      all_goals first | with_reducible rfl | (exfalso; omega) | (congr 1; omega)
    · have hki:k=i:=by omega
      subst hki
      rw [m2,m2]
      have low:∀ x,a≤x→x<k→gN (gC s x) (gC s m):=fun x x1 x2=>by
        have h1:gN (gC s (k - 1)) (gC s m):=ht (by omega)
        by_cases e:x=k - 1
        · subst e; exact h1
        · exact KI (hs x (k - 1) x1 (by omega) (by omega)) h1
      have high:∀ x,k≤x→x<m→gN (gC s m) (gC s x):=fun x x1 x2=>by
        have h1:gN (gC s m) (gC s k):=mG (Classical.not_not.1 (hf (by omega)))
        by_cases e:x=k
        · subst e; exact h1
        · exact KI h1 (hs k x (by omega) (by omega) x2)
      by_cases c1:p=k
      · rw [if_pos c1,if_neg (by omega),if_pos (by omega)]
        exact high _ (by omega) (by omega)
      · rw [if_neg c1]
        by_cases c2:k<p
        · rw [if_pos (by omega),if_neg (by omega),if_pos (by omega)]
          exact hs _ _ (by omega) (by omega) (by omega)
        · rw [if_neg (by omega)]
          by_cases c3:q=k
          · rw [if_pos c3]; exact low _ p1 (by omega)
          · rw [if_neg c3]
            by_cases c4:k<q
            · rw [if_pos (by omega)]; exact hs _ _ p1 (by omega) (by omega)
            · rw [if_neg (by omega)]; exact hs _ _ p1 p2 (by omega)
theorem zF {rc:List AK→Int→Int→Int→(List AK→Prop)→Prop} {N:Nat} (ih:rU rc N):rU (BC rc) (N+1):=by
  intro s a m b Q h1 h2 hb hl hN hA hB hQ
  by_cases c1:m=a+1
  · subst c1; exact Ab8 h2 hb hl hB hQ
  by_cases c2:b=m+1
  · subst c2; exact zD (by omega) hb hl hA hQ
  unfold BC
  rw [SU (i:=m) (k:=a) (by omega) (by omega),SU (i:=b) (k:=m) (by omega) (by omega),uG (i:=a) (j:=b) (by omega) (by omega)]
  generalize hmid:(a+b) / 2=mid
  rw [aW (i:=mid) (k:=m) (by omega) (by omega),cJ (i:=mid+m) (by omega) (by omega)]
  refine CB (fun h=>by omega) (fun _=>CB (fun h=>by omega) (fun _=>?_))
  refine FM (fun t:Int×Int=>∃ lo hi:Nat,t=((lo:Int),(hi:Int))∧a≤lo∧lo≤hi∧hi≤mid∧hi≤m∧(lo=a∨mid+m - lo=b)∧(hi=mid∨hi=m)∧mid+m - lo≤b) (fun t ht=>?_) fun k hk=>?_
  · obtain ⟨lo,hi,rfl,q1,q2,q3,q4,q5,q6,q7⟩:=ht
    dsimp only
    refine mH (T:=fun c=>¬eX (gC s (mid+m - 1 - c)) (gC s c)) q2 (fun i j next g1 g2 g3 ht hf=>?_) (fun st next g1 g2 ht hf=>?_)
    · dsimp only
      rw [uG (by omega) (by omega),SU (i:=mid+m - 1) (k:=(i+j) / 2) (by omega) (by omega)]
      refine AD (fun _=>AM (x:=gC s (mid+m - 1 - (i+j) / 2)) (by omega) (PN (by omega)) (AM (x:=gC s ((i+j) / 2)) (by omega) (PN (by omega)) (oY (fun h=>?_) (fun h=>hf fun h'=>h' h)))) (fun h=>by omega)
      rw [ZA (by omega)]; exact ht h
    · dsimp only
      refine AD (fun h=>by omega) (fun _=>?_)
      rw [SU (i:=mid+m) (k:=st) (by omega) (by omega)]
      generalize hen:mid+m - st=en
      refine FM (fun t:List AK=>t.length=s.length∧t.Perm s∧∀ x,gC t x=Y8 s st m en x) (fun t ht'=>?_) fun k' hk'=>?_
      · obtain ⟨t1,t2,t3⟩:=ht'
        have hsp:SpC a b s t:=(AcP (by omega) (by omega) t1 t2 t3).wide (by omega) (by omega)
        have v1:∀ x,x<st→gC t x=gC s x:=fun x hx=>by rw [t3]; unfold Y8; rw [if_neg (by omega),if_neg (by omega)]
        have v2:∀ x,st≤x→x<mid→gC t x=gC s (x+(m - st)):=fun x hx hx'=>by rw [t3]; unfold Y8; rw [if_pos (by omega)]
        have v3:∀ x,mid≤x→x<en→gC t x=gC s (x - (mid - st)):=fun x hx hx'=>by rw [t3]; unfold Y8; rw [if_neg (by omega),if_pos (by omega)]; congr 1; omega
        have v4:∀ x,en≤x→gC t x=gC s x:=fun x hx=>by rw [t3]; unfold Y8; rw [if_neg (by omega),if_neg (by omega)]
        have sA:cI t a st:=fun p q p1 p2 p3=>by rw [v1 p (by omega),v1 q p3]; exact hA p q p1 p2 (by omega)
        have sB:cI t st mid:=fun p q p1 p2 p3=>by rw [v2 p p1 (by omega),v2 q (by omega) p3]; exact hB _ _ (by omega) (by omega) (by omega)
        have sC:cI t mid en:=fun p q p1 p2 p3=>by rw [v3 p p1 (by omega),v3 q (by omega) p3]; exact hA _ _ (by omega) (by omega) (by omega)
        have sD:cI t en b:=fun p q p1 p2 p3=>by rw [v4 p p1,v4 q (by omega)]; exact hB p q (by omega) p2 p3
        have le_of:∀ {lo' hi':Nat},cI s lo' hi'→∀ p q,lo'≤p→p≤q→q<hi'→gN (gC s p) (gC s q):=fun h p q p1 p2 p3=>by
          by_cases e:p=q
          · subst e; exact zC _
          · exact h p q p1 (by omega) p3
        have cross:∀ x y,a≤x→x<mid→mid≤y→y<b→gN (gC t x) (gC t y):=fun x y x1 x2 y1 y2=>by
          by_cases d1:x<st
          · rw [v1 x d1]
            by_cases d2:y<en
            · rw [v3 y y1 d2]; exact le_of hA _ _ x1 (by omega) (by omega)
            · rw [v4 y (by omega)]
              have hT:=ht (by omega)
              have e:mid+m - 1 - (st - 1)=en:=by omega
              rw [e] at hT
              exact KI (le_of hA x (st - 1) x1 (by omega) (by omega)) (KI hT (le_of hB en y (by omega) (by omega) y2))
          · rw [v2 x (by omega) x2]
            by_cases d2:y<en
            · rw [v3 y y1 d2]
              have hT:=mG (Classical.not_not.1 (hf (by omega)))
              have e:mid+m - 1 - st=en - 1:=by omega
              rw [e] at hT
              exact KI (le_of hB _ (en - 1) (by omega) (by omega) (by omega)) (KI hT (le_of hA st _ (by omega) (by omega) (by omega)))
            · rw [v4 y (by omega)]; exact le_of hB _ _ (by omega) (by omega) y2
        refine FM (fun u:List AK=>SpC a mid t u∧cI u a mid) (fun u hu=>?_) fun k'' hk''=>?_
        · obtain ⟨u1,u2⟩:=hu
          have ul:=u1.len
          have fin:∀ w,SpC mid b u w→cI w mid b→Q w:=fun w w1 w2=>hQ w ((hsp.trans (u1.wide (Nat.le_refl _) (by omega))).trans (w1.wide (by omega) (Nat.le_refl _))) fun p q p1 p2 p3=>by
            by_cases d1:q<mid
            · rw [w1.out p (.inl (by omega)),w1.out q (.inl d1)]; exact u2 p q p1 p2 d1
            · by_cases d2:mid≤p
              · exact w2 p q d2 p2 p3
              · rw [w1.out p (.inl (by omega))]
                obtain ⟨p',z1,z2,e1⟩:=u1.mem p p1 (by omega)
                obtain ⟨q',z3,z4,e2⟩:=w1.mem q (by omega) p3
                rw [e1,e2,u1.out q' (.inr z3)]
                exact cross p' q' z1 z2 z3 z4
          have sC':cI u mid en:=fun p q p1 p2 p3=>by rw [u1.out p (.inr p1),u1.out q (.inr (by omega))]; exact sC p q p1 p2 p3
          have sD':cI u en b:=fun p q p1 p2 p3=>by rw [u1.out p (.inr (by omega)),u1.out q (.inr (by omega))]; exact sD p q p1 p2 p3
          refine AD (fun d1=>AD (fun d2=>?_) (fun d2=>?_)) (fun d1=>?_)
          · exact ih (by omega) (by omega) (by omega) (by omega) (by omega) sC' sD' fin
          · exact fin u (.refl _ _ _) fun p q p1 p2 p3=>sC' p q p1 p2 (by omega)
          · exact fin u (.refl _ _ _) fun p q p1 p2 p3=>sD' p q (by omega) p2 p3
        · refine AD (fun d1=>AD (fun d2=>?_) (fun d2=>?_)) (fun d1=>?_)
          · exact ih (by omega) (by omega) (by omega) (by omega) (by omega) sA sB fun u u1 u2=>hk'' u ⟨u1,u2⟩
          · exact hk'' t ⟨.refl _ _ _,fun p q p1 p2 p3=>sA p q p1 p2 (by omega)⟩
          · exact hk'' t ⟨.refl _ _ _,fun p q p1 p2 p3=>sB p q (by omega) p2 p3⟩
      · refine AD (fun d1=>AD (fun d2=>?_) (fun d2=>?_)) (fun d1=>?_)
        · exact Ab7 (by omega) (by omega) (by omega) hl fun t t1 t2 t3=>hk' t ⟨t1,t2,t3⟩
        · exact hk' s ⟨rfl,.refl _,fun x=>(oZ (.inr (by omega)) (by omega) (by omega)).symm⟩
        · exact hk' s ⟨rfl,.refl _,fun x=>(oZ (.inl (by omega)) (by omega) (by omega)).symm⟩
  · refine AD (fun d=>?_) (fun d=>hk _ ⟨a,m,rfl,by omega,by omega,by omega,by omega,.inl rfl,.inr rfl,by omega⟩)
    rw [SU (i:=mid+m) (k:=b) (by omega) (by omega)]
    exact hk _ ⟨mid+m - b,mid,rfl,by omega,by omega,by omega,by omega,.inr (by omega),.inl rfl,by omega⟩
theorem zG:∀ k:Nat,rU (CK k) k
  | 0=>fun h1 h2 _ _ hN=>by omega
  | k+1=>zF (zG k)
theorem zH {s:List AK} {a m b:Nat} {Q:List AK→Prop} (h1:a<m) (h2:m<b) (hb:b≤s.length) (hl:s.length≤1000000000) (hA:cI s a m) (hB:cI s m b) (hQ:∀ t,SpC a b s t→cI t a b→Q t):CS s a m b Q:=
  ⟨b - a,zG (b - a) h1 h2 hb hl (Nat.le_refl _) hA hB hQ⟩
end Go.Proofs.YtbohadngdkjljaaGreat
