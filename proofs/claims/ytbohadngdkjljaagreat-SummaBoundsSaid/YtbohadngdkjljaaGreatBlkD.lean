import Derived.Test.YtbohadngdkjljaaGreatStabB
namespace Go.Proofs.YtbohadngdkjljaaGreat
open Go Go.Fw
set_option linter.unusedVariables false
set_option linter.unusedSimpArgs false
def BlkC (t:List AK) (bs n d:Nat):Prop:=∀ i j,d*bs≤i→i<j→j<d*bs+bs→j<n→gN (gC t i) (gC t j)
theorem BlkC.same {t u:List AK} {bs n d:Nat} (h:BlkC t bs n d) (he:∀ i,d*bs≤i→i<d*bs+bs→gC u i=gC t i):BlkC u bs n d:=fun i j h1 h2 h3 h4=>by rw [he i h1 (by omega),he j (by omega) h3]; exact h i j h1 h2 h3 h4
theorem zI {s:List AK} {Q:List AK→Prop} (hl:s.length≤1000000000) (hQ:∀ t,t.Perm s→cI t 0 s.length→Q t):CC s Q:=by
  unfold CC EF
  refine EL (fun st:List AK×Int×Int=>∃ c:Nat,st.2.1=((20*c:Nat):Int)∧st.2.2=((20*c+20:Nat):Int)∧20*c≤s.length∧SpC 0 s.length s st.1∧∀ d,d<c→cI st.1 (20*d) (20*d+20)) (fun st=>s.length - st.2.1.toNat)
    ⟨0,rfl,rfl,by omega,.refl _ _ _,fun d h=>by omega⟩ ?_
  rintro ⟨t,_,_⟩ next ⟨c,rfl,rfl,h1,h2,h3⟩ hn
  dsimp only at h2 h3 ⊢
  have hlt:=h2.len
  refine AD (fun hb=>?_) (fun hb=>?_)
  · refine uF (by omega) (by omega) (by omega) fun u u1 u2=>?_
    rw [show (20:Int)=((20:Nat):Int) from rfl,aW (by omega) (by omega)]
    refine hn _ ⟨c+1,by dsimp only; congr 1,by dsimp only; congr 1,by omega,h2.trans (u1.wide (by omega) (by omega)),fun d hd=>?_⟩ (by dsimp only; omega)
    dsimp only
    by_cases e:d=c
    · subst e; exact u2
    · intro i j k1 k2 k3
      rw [u1.out i (.inl (by omega)),u1.out j (.inl (by omega))]
      exact h3 d (by omega) i j k1 k2 k3
  · refine uF (by omega) (by omega) (by omega) fun u u1 u2=>?_
    have h4:∀ d,BlkC u 20 s.length d:=fun d i j k1 k2 k3 k4=>by
      by_cases e:d<c
      · rw [u1.out i (.inl (by omega)),u1.out j (.inl (by omega))]
        exact h3 d e i j (by omega) k2 (by omega)
      · exact u2 i j (by omega) k2 (by omega)
    have h5:=h2.trans (u1.wide (a':=0) (b':=s.length) (by omega) (by omega))
    clear u1 u2 hn h3 h2 hb h1
    refine EL (fun st:List AK×Int=>∃ bs:Nat,st.2=(bs:Int)∧0<bs∧SpC 0 s.length s st.1∧∀ d,BlkC st.1 bs s.length d) (fun st=>s.length - st.2.toNat) ⟨20,rfl,by omega,h5,h4⟩ ?_
    clear h4 h5 u hlt t c
    rintro ⟨u,_⟩ next ⟨bs,rfl,b0,h2,h3⟩ hn
    dsimp only at h2 h3 ⊢
    refine AD (fun hb=>?_) (fun hb=>hQ u h2.perm fun i j k1 k2 k3=>h3 0 i j (by omega) k2 (by omega) k3)
    have two:AJ (2*(bs:Int))=((2*bs:Nat):Int):=by rw [AV (by omega) (by omega)]; omega
    have two':AJ ((bs:Int)*2)=((2*bs:Nat):Int):=by rw [AV (by omega) (by omega)]; omega
    rw [two,two']
    have up:∀ c:Nat,(2*(c+1))*bs=(2*c)*bs+2*bs:=fun c=>by rw [show 2*(c+1)=2*c+2 by omega,Nat.add_mul]
    have up1:∀ c:Nat,(2*c+1)*bs=(2*c)*bs+bs:=fun c=>by rw [Nat.add_mul,Nat.one_mul]
    have mono:∀ {x y:Nat},x≤y→x*bs≤y*bs:=fun h=>Nat.mul_le_mul_right bs h
    have ending:∀ (w:List AK) (c:Nat),SpC 0 s.length s w→(∀ d,d<c→cI w ((2*d)*bs) ((2*d)*bs+2*bs))→cI w ((2*c)*bs) s.length→s.length<(2*c)*bs+2*bs→next (w,((2*bs:Nat):Int)):=fun w c w1 w2 w3 w4=>by
      refine hn _ ⟨2*bs,rfl,by omega,w1,fun d i j k1 k2 k3 k4=>?_⟩ (by dsimp only; omega)
      dsimp only
      have ed:d*(2*bs)=(2*d)*bs:=by rw [Nat.mul_left_comm,Nat.mul_assoc]
      rw [ed] at k1 k3
      rcases Nat.lt_trichotomy d c with e | e | e
      · exact w2 d e i j k1 k2 k3
      · subst e; exact w3 i j k1 k2 k4
      · have:=mono (show 2*(c+1)≤2*d by omega)
        rw [up] at this
        omega
    refine EL (fun st:List AK×Int×Int=>∃ c:Nat,st.2.1=(((2*c)*bs:Nat):Int)∧st.2.2=(((2*c)*bs+2*bs:Nat):Int)∧(2*c)*bs≤s.length∧SpC 0 s.length s st.1∧(∀ d,d<c→cI st.1 ((2*d)*bs) ((2*d)*bs+2*bs))∧∀ d,2*c≤d→BlkC st.1 bs s.length d) (fun st=>s.length - st.2.1.toNat)
      ⟨0,by simp,by simp,by omega,h2,fun d h=>by omega,fun d _=>h3 d⟩ ?_
    clear h2 h3 hn
    rintro ⟨v,_,_⟩ nx ⟨c,rfl,rfl,h1,h2,h3,h4⟩ hx
    dsimp only at h2 h3 h4 ⊢
    have hlv:=h2.len
    have hA:∀ i j,(2*c)*bs≤i→i<j→j<(2*c)*bs+bs→j<s.length→gN (gC v i) (gC v j):=h4 (2*c) (Nat.le_refl _)
    have hB:∀ i j,(2*c)*bs+bs≤i→i<j→j<(2*c)*bs+bs+bs→j<s.length→gN (gC v i) (gC v j):=by
      have:=h4 (2*c+1) (by omega)
      unfold BlkC at this
      rw [up1] at this
      exact this
    have upc:=up c
    refine AD (fun hbn=>?_) (fun hbn=>?_)
    · rw [aW (i:=2*c*bs) (k:=bs) (by omega) (by omega),aW (i:=2*c*bs+2*bs) (k:=2*bs) (by omega) (by omega)]
      refine zH (by omega) (by omega) (by omega) (by omega) (fun i j k1 k2 k3=>hA i j k1 k2 k3 (by omega)) (fun i j k1 k2 k3=>hB i j k1 k2 (by omega) (by omega)) fun w w1 w2=>?_
      refine hx _ ⟨c+1,by dsimp only; rw [up],by dsimp only; rw [up],by omega,h2.trans (w1.wide (by omega) (by omega)),fun d hd=>?_,fun d hd=>?_⟩ (by dsimp only; omega)
      · dsimp only
        by_cases e:d=c
        · subst e; exact w2
        · have hm:=mono (show 2*(d+1)≤2*c by omega)
          rw [up] at hm
          intro i j k1 k2 k3
          rw [w1.out i (.inl (by omega)),w1.out j (.inl (by omega))]
          exact h3 d (by omega) i j k1 k2 k3
      · dsimp only
        have hm:=mono hd
        rw [up] at hm
        exact (h4 d (by omega)).same fun i k1 k2=>w1.out i (.inr (by omega))
    · rw [aW (i:=2*c*bs) (k:=bs) (by omega) (by omega)]
      refine AD (fun hm=>?_) (fun hm=>?_)
      · refine zH (by omega) (by omega) (by omega) (by omega) (fun i j k1 k2 k3=>hA i j k1 k2 k3 (by omega)) (fun i j k1 k2 k3=>hB i j k1 k2 (by omega) k3) fun w w1 w2=>?_
        refine ending w c (h2.trans (w1.wide (by omega) (by omega))) (fun d hd=>?_) w2 (by omega)
        have hm:=mono (show 2*(d+1)≤2*c by omega)
        rw [up] at hm
        intro i j k1 k2 k3
        rw [w1.out i (.inl (by omega)),w1.out j (.inl (by omega))]
        exact h3 d hd i j k1 k2 k3
      · exact ending v c h2 h3 (fun i j k1 k2 k3=>hA i j k1 k2 (by omega) k3) (by omega)
def SF (c:AK):HS:=(c.Row,c.Col)
def pA (k:HS) (c:AK):Option AP:=if SF c=k then some c.Val else none
def GB (r:Int) (k:HS):List AK→Option AP
  | []=>none
  | c :: l=>eW r (pA k c) (GB r k l)
def pB (l:List AK):Prop:=∀ c∈l,NF c.Val
def StrC (l:List AK):Prop:=l.Pairwise eX
theorem gO {k:HS} {c:AK} (h:NF c.Val):yT (pA k c):=fun w hw=>by unfold pA at hw; split at hw <;> cases hw; exact h
theorem Ab9 {r:Int} {a b:Option AP} (ha:yT a) (hb:yT b):yT (eW r a b):=by
  intro w hw
  cases a with
  | none=>exact hb w hw
  | some x=>cases b with
    | none=>exact ha w hw
    | some y=>cases hw; exact UB (ha x rfl) (hb y rfl)
theorem XY {r:Int} {k:HS}:∀ {l:List AK},pB l→yT (GB r k l)
  | [],_=>fun w hw=>by cases hw
  | c :: l,h=>Ab9 (gO (h c (by simp))) (XY fun d hd=>h d (List.mem_cons_of_mem _ hd))
theorem OC {r:Int} {k:HS}:∀ {xs ys:List AK},pB xs→pB ys→GB r k (xs++ys)=eW r (GB r k xs) (GB r k ys)
  | [],ys,_,_=>rfl
  | c :: l,ys,h,h'=>by
    have hl:pB l:=fun d hd=>h d (List.mem_cons_of_mem _ hd)
    rw [List.cons_append,GB,GB,OC hl h',UF (gO (h c (by simp))) (XY hl) (XY h')]
theorem pC {xs ys:List AK} (h:xs.Perm ys) (ho:pB xs):pB ys:=fun c hc=>ho c (h.mem_iff.2 hc)
theorem zJ {r:Int} {k:HS} {xs ys:List AK} (h:xs.Perm ys) (ho:pB xs):GB r k xs=GB r k ys:=by
  induction h with
  | nil=>rfl
  | cons c h ih=>rw [GB,GB,ih fun d hd=>ho d (List.mem_cons_of_mem _ hd)]
  | swap a b l=>
    have h1:=gO (k:=k) (ho a (by simp))
    have h2:=gO (k:=k) (ho b (by simp))
    have h3:=XY (r:=r) (k:=k) (l:=l) fun d hd=>ho d (by simp [hd])
    rw [GB,GB,GB,GB,←UF h2 h1 h3,←UF h1 h2 h3,yU h1 h2]
  | trans h1 h2 ih1 ih2=>exact (ih1 ho).trans (ih2 (pC h1 ho))
theorem pD {r:Int} {k:HS}:∀ {l:List AK},(∀ c∈l,SF c≠k)→GB r k l=none
  | [],_=>rfl
  | c :: l,h=>by
    rw [GB,pD fun d hd=>h d (List.mem_cons_of_mem _ hd)]
    unfold pA
    rw [if_neg (h c (by simp))]; rfl
theorem rV {a b:AK} (h:eX a b):SF a≠SF b:=fun e=>by unfold eX at h; unfold SF at e; rw [e] at h; exact EZ _ h
theorem mI {r:Int}:∀ {l:List AK},StrC l→∀ {c:AK},c∈l↔GB r (SF c) l=some c.Val
  | [],_,c=>by simp [GB]
  | d :: l,h,c=>by
    unfold StrC at h
    rw [List.pairwise_cons] at h
    rw [GB,List.mem_cons]
    by_cases e:SF d=SF c
    · rw [pD (fun x hx=>by rw [←e]; exact (rV (h.1 x hx)).symm)]
      unfold pA
      rw [if_pos e,MR]
      constructor
      · rintro (rfl | hc)
        · rfl
        · exact absurd e (rV (h.1 c hc))
      · intro hv
        left
        have hv':=Option.some.inj hv
        clear hv
        unfold SF at e
        cases c; cases d
        simp only [Prod.mk.injEq] at e hv'
        obtain ⟨rfl,rfl⟩:=e
        rw [hv']
    · unfold pA
      rw [if_neg e]
      show _↔GB r (SF c) l=some c.Val
      rw [←mI h.2]
      constructor
      · rintro (rfl | hc)
        · exact absurd rfl e
        · exact hc
      · exact .inr
theorem StrC.nodup {l:List AK} (h:StrC l):l.Nodup:=by
  rw [List.nodup_iff_pairwise_ne]
  exact List.Pairwise.imp (R:=eX) (fun {a b} hab (e:a=b)=>rV hab (by rw [e])) h
theorem zK {r:Int} {s t:List AK} (hs:StrC s) (ht:StrC t) (h:∀ k,GB r k s=GB r k t):s=t:=
  bW ((List.perm_ext_iff_of_nodup hs.nodup ht.nodup).2 fun c=>by rw [mI (r:=r) hs,mI (r:=r) ht,h]) hs ht fun a b _ _ h1 h2=>absurd (MB h1 h2) (EZ _)
theorem AbA {l:List AK} (h:∀ (j:Nat) (h1:j+1<l.length),eX l[j] l[j+1]):StrC l:=by
  unfold StrC
  rw [List.pairwise_iff_getElem]
  intro i j hi hj hij
  obtain ⟨d,rfl⟩:∃ d,j=i+1+d:=⟨j - i - 1,by omega⟩
  clear hij
  induction d with
  | zero=>exact h i hj
  | succ d ih=>exact MB (ih (by omega)) (h (i+1+d) hj)
theorem iY {l:List AK} {Q:Bool→Prop} (hl:l.length≤1000000) (h1:StrC l→Q true) (h2:¬StrC l→Q false):JW l Q:=by
  unfold JW
  refine EX l.length (by omega) (fun i=>∀ (j:Nat) (h1:j+1<l.length),j+1<i→eX l[j] l[j+1]) (fun j _ h=>by omega) (fun i next hi hm hn=>?_) (fun next hm=>?_)
  · refine AD (fun _=>AD (fun hp=>?_) (fun hp=>hn fun j _ h=>by omega)) (fun h=>by omega)
    obtain ⟨i,rfl⟩:∃ q,i=q+1:=⟨i - 1,by omega⟩
    rw [cJ (by omega) (by omega),Nat.add_sub_cancel]
    refine BG (by omega) (BG hi (TF (AD (fun h0=>h2 fun hs=>?_) (fun h0=>hn fun j hj h=>?_))))
    · have:=(ST l[i] l[i+1]).2 (List.pairwise_iff_getElem.1 hs i (i+1) (by omega) hi (by omega))
      omega
    · by_cases e:j=i
      · subst e; exact (ST l[j] l[j+1]).1 (by omega)
      · exact hm j hj (by omega)
  · exact AD (fun h=>by omega) (fun _=>h1 (AbA fun j hj=>hm j hj hj))
theorem pE {x y:AK}:vH (RS x.Row y.Row) (RS x.Col y.Col)=0↔SF x=SF y:=by
  unfold vH RS SF
  simp only [Prod.mk.injEq]
  split <;> split <;> (try split) <;> (try split) <;> omega
theorem rW {L:List (List AK)} {Q:List AK→Prop} (hl:L.length≤1000000) (hf:L.flatten.length≤100000000) (hQ:Q L.flatten):DG L Q:=by
  unfold DG FE
  have tk:∀ {i:Nat} (h:i<L.length),(L.take (i+1)).flatten=(L.take i).flatten++L[i]:=fun h=>by rw [List.take_succ_eq_append_getElem h,List.flatten_append]; simp
  have tl:∀ i:Nat,(L.take i).flatten.length≤L.flatten.length:=fun i=>by
    conv=>rhs; rw [←List.take_append_drop i L,List.flatten_append,List.length_append]
    omega
  refine BH (fun (s:Int) i=>(s,i)) 0 L.length (by omega) (fun i s=>s=((L.take i).flatten.length:Nat)) (by omega) rfl (fun i s next _ hi hm hn=>?_) (fun s next hm=>?_)
  · subst hm
    have h1:=tl (i+1)
    have h2:=tk hi
    rw [h2,List.length_append] at h1
    refine AD (fun _=>BG hi ?_) (fun h=>by omega)
    rw [aW (by omega) (by omega)]
    exact AD (fun h=>by omega) (fun _=>hn _ (by rw [h2,List.length_append]))
  · subst hm
    refine AD (fun h=>by omega) (fun _=>?_)
    rw [List.take_length,AV (x:=0 - 0) (by omega) (by omega),AV (x:=((L.flatten.length:Nat):Int) - (0 - 0)) (by omega) (by omega)]
    have hk:BK (fun (s:(List AK)×Int) (next271:((List AK)×Int)→Prop)=>match s with | (s266,s270)=>AQ (decide (s270<(L.length:Int))) (BD L s270 fun x278=>HY 32 s266 x278 fun _=>next271 ((s266++x278),AJ (s270+1))) (Q s266)) ([],0):=by
      refine BH (fun (s:List AK) i=>(s,i)) 0 L.length (by omega) (fun i s=>s=(L.take i).flatten) (by omega) rfl (fun i s next _ hi hm hn=>?_) (fun s next hm=>?_)
      · subst hm
        have h1:=tl (i+1)
        have h2:=tk hi
        rw [h2,List.length_append] at h1
        refine AD (fun _=>BG hi (BI (by omega) (hn _ h2.symm))) (fun h=>by omega)
      · subst hm
        refine AD (fun h=>by omega) (fun _=>?_)
        rw [List.take_length]; exact hQ
    exact AD (fun h=>by omega) (fun _=>AD (fun h=>⟨by omega,by omega,hk⟩) (fun h=>hk))
theorem iZ {r:Int} {L:List (List AK)} {Q:List AK×Int→Prop} (hl:L.length≤1000000) (hf:L.flatten.length≤1000000) (hok:pB L.flatten) (h8:¬(1≤r∧r≤5)→Q ([],8)) (h6:(1≤r∧r≤5)→¬(∀ l∈L,StrC l)→Q ([],6))
    (h0:(1≤r∧r≤5)→(∀ l∈L,StrC l)→∀ s,StrC s→pB s→s.length≤L.flatten.length→(∀ k,GB r k s=GB r k L.flatten)→Q (s,0)):NS r L Q:=by
  unfold NS
  refine LN (CR (fun h=>h8 (of_decide_eq_false h)) (fun h=>?_))
  have hr:=of_decide_eq_true h
  unfold CZ DH NR
  have elen:∀ l∈L,l.length≤1000000:=fun l hm=>by
    have:=(List.sublist_flatten_of_mem hm).length_le
    omega
  refine EX L.length (by omega) (fun i=>∀ (q:Nat) (hq:q<L.length),q<i→StrC L[q]) (fun q _ h=>by omega) (fun i next hi hm hn=>?_) (fun next hm=>?_)
  · refine AD (fun _=>BG hi (iY (elen _ (List.getElem_mem hi)) (fun hs=>AW rfl (hn fun q hq hqi=>?_)) (fun hs=>BN rfl (BN (decide_eq_true (by omega)) (h6 hr fun ha=>hs (ha _ (List.getElem_mem hi))))))) (fun h=>by omega)
    by_cases e:q=i
    · subst e; exact hs
    · exact hm q hq (by omega)
  refine AD (fun h=>by omega) (fun _=>AW (by decide) (rW hl (by omega) (zI (by omega) fun t hp hs=>?_)))
  have hall:∀ l∈L,StrC l:=fun l hm'=>by obtain ⟨q,hq,rfl⟩:=List.getElem_of_mem hm'; exact hm q hq hq
  have hot:pB t:=pC hp.symm hok
  have htl:=hp.length_eq
  have hfin:=h0 hr hall
  refine BH (fun (s:List AK) i=>(s,i)) 0 t.length (by omega) (fun i s=>StrC s∧pB s∧s.length≤i∧(∀ k,GB r k s=GB r k (t.take i))∧(s=[]∧i=0∨∃ p y,s=p++[y]∧0<i∧SF y=SF (gC t (i - 1)))) (by omega) ⟨.nil,(fun c hc=>by cases hc),Nat.le_refl _,fun _=>rfl,.inl ⟨rfl,rfl⟩⟩ (fun i s next _ hi hm' hn=>?_) (fun s next hm'=>?_)
  · obtain ⟨m1,m2,m3,m4,m5⟩:=hm'
    have hx:NF t[i].Val:=hot _ (List.getElem_mem hi)
    have hok1:pB [t[i]]:=fun c hc=>by rw [List.mem_singleton] at hc; subst hc; exact hx
    have hoti:pB (t.take i):=fun c hc=>hot c (List.mem_of_mem_take hc)
    have htk:∀ k,GB r k (t.take (i+1))=eW r (GB r k s) (pA k t[i]):=fun k=>by
      rw [List.take_succ_eq_append_getElem hi,OC hoti hok1,←m4 k,GB,GB,MR]
    have hgi:=mF hi
    refine AD (fun _=>BG hi ?_) (fun h=>by omega)
    have app:StrC (s++[t[i]])→HY 32 s [t[i]] fun _=>next (s++[t[i]],AJ ((i:Int)+1)):=fun hstr=>BI (by simp; omega) (hn _ ⟨hstr,fun c hc=>by
        rcases List.mem_append.1 hc with h | h
        · exact m2 c h
        · exact hok1 c h,by simp; omega,fun k=>by rw [htk,OC m2 hok1,GB,GB,MR],.inr ⟨s,t[i],rfl,by omega,by rw [Nat.add_sub_cancel,←hgi]⟩⟩)
    unfold FF
    rcases m5 with ⟨rfl,rfl⟩ | ⟨p,y,rfl,i0,hy⟩
    · exact AD (fun h=>by simp at h) (fun _=>AW rfl (app (by simp [StrC])))
    · have m3':p.length+1≤i:=by simpa using m3
      have hlast:(AJ ((((p++[y]).length:Nat):Int) - 1))=((p.length:Nat):Int):=by
        rw [List.length_append,List.length_singleton,cJ (by omega) (by omega),Nat.add_sub_cancel]
      rw [hlast]
      have hget:(p++[y])[p.length]? = some y:=by simp
      refine AD (fun _=>AM (x:=y) (by omega) hget (TF (CB (fun he=>?_) (fun he=>?_)))) (fun h=>by simp at h)
      · have hkey:=pE.1 he
        have hyo:NF y.Val:=m2 y (by simp)
        refine AM (x:=y) (by omega) hget (WT hyo hx (AM (x:=y) (by omega) hget ?_))
        rw [show (p++[y]).set ((p.length:Nat):Int).toNat (⟨y.Row,y.Col,GW r y.Val t[i].Val⟩:AK)=p++[⟨y.Row,y.Col,GW r y.Val t[i].Val⟩] by simp]
        have hp2:pB p:=fun c hc=>m2 c (by simp [hc])
        have hy1:pB [y]:=fun c hc=>by rw [List.mem_singleton] at hc; subst hc; exact hyo
        have hy2:pB [⟨y.Row,y.Col,GW r y.Val t[i].Val⟩]:=fun c hc=>by rw [List.mem_singleton] at hc; subst hc; exact UB hyo hx
        refine hn _ ⟨?_,fun c hc=>?_,by simp at m3 ⊢; omega,fun k=>?_,.inr ⟨p,_,rfl,by omega,?_⟩⟩
        · unfold StrC at m1 ⊢
          rw [List.pairwise_append] at m1 ⊢
          refine ⟨m1.1,by simp,fun a ha b hb=>?_⟩
          rw [List.mem_singleton] at hb; subst hb
          exact m1.2.2 a ha y (by simp)
        · rcases List.mem_append.1 hc with h | h
          · exact hp2 c h
          · exact hy2 c h
        · rw [htk,OC hp2 hy2,OC hp2 hy1,UF (XY hp2) (XY hy1) (gO hx)]
          congr 1
          rw [GB,GB,MR,GB,GB,MR]
          unfold pA
          by_cases ek:SF y=k
          · rw [if_pos (show SF ⟨y.Row,y.Col,GW r y.Val t[i].Val⟩=k from ek),if_pos ek,if_pos (hkey.symm.trans ek)]; rfl
          · rw [if_neg (show ¬SF ⟨y.Row,y.Col,GW r y.Val t[i].Val⟩=k from ek),if_neg ek,if_neg (fun h=>ek (hkey.trans h))]; rfl
        · rw [Nat.add_sub_cancel,←hgi]; exact hkey
      · have hne:SF y≠SF t[i]:=fun h=>he (pE.2 h)
        refine app ?_
        have hle:gN (gC t (i - 1)) (gC t i):=hs _ _ (by omega) (by omega) (by omega)
        rw [←hgi] at hle
        have hyx:eX y t[i]:=eU (a:=SF t[i]) (b:=SF y) (by rw [hy]; exact hle) fun e=>hne e.symm
        unfold StrC at m1 ⊢
        rw [List.pairwise_append]
        refine ⟨m1,by simp,fun a ha b hb=>?_⟩
        rw [List.mem_singleton] at hb; subst hb
        rcases List.mem_append.1 ha with h | h
        · rw [List.pairwise_append] at m1
          exact MB (m1.2.2 a h y (by simp)) hyx
        · rw [List.mem_singleton] at h; subst h; exact hyx
  · obtain ⟨m1,m2,m3,m4,m5⟩:=hm'
    refine AD (fun h=>by omega) (fun _=>hfin s m1 m2 (by omega) fun k=>?_)
    rw [m4,List.take_length]
    exact zJ hp hot
theorem FX {rows cols:Int} {T:List AC} (h:Canon rows cols T) {l u c d:Int} (l0:0≤l) (l1:l≤u) (l2:u≤rows) (h0:0≤c) (h1:c≤d) (h2:d≤cols) :
    lW rows cols T (l,u) (c,d)=BF (u - l) (d - c) (KT l u c d T)∧Canon (u - l) (d - c) (KT l u c d T)∧∀ i j:Int,0≤i→i<u - l→0≤j→j<d - c→Y7 (lZ (KT l u c d T) i) j=Y7 (lZ T (i+l)) (j+c):=by
  have e1:iU l=l:=by unfold iU; split <;> omega
  have e2:nH u rows=u:=by unfold nH; split <;> omega
  have e3:ext l u rows=u - l:=by unfold ext; rw [e1,e2]; split <;> omega
  have e4:iU c=c:=by unfold iU; split <;> omega
  have e5:nH d cols=d:=by unfold nH; split <;> omega
  have e6:ext c d cols=d - c:=by unfold ext; rw [e4,e5]; split <;> omega
  have hc:=jX h (l,u) (c,d)
  simp only [e1,e2,e3,e4,e5,e6] at hc
  refine ⟨by unfold lW; simp only [e1,e2,e3,e4,e5,e6],hc,fun i j hi0 hi1 hj0 hj1=>Ab5 fun a=>?_⟩
  rw [oW hc hi0,oW h (by omega),tW]
  exact ⟨fun hh=>hh.1,fun hh=>⟨hh,⟨hi0,by dsimp only; omega⟩,hj0,by dsimp only; omega⟩⟩
theorem pF {l u c d:Int} {T:List AC} (h:∀ t∈T,JO t.Val):∀ t∈KT l u c d T,JO t.Val:=fun t ht=>by
  have:=h _ ((tW t).1 ht).1
  exact this
theorem XZ {r:Int} {k:HS} {A B:List AC} {t:AC} {M:List AC}:GB r k (GH r A B (t :: M))=eW r (if (t.Row,t.Col)=k then NL r A B t.Row t.Col else none) (GB r k (GH r A B M)):=by
  unfold GH
  rw [List.filterMap_cons]
  unfold KU
  cases hw:NL r A B t.Row t.Col with
  | none=>simp [eW]
  | some w=>
    simp only [Option.map_some,GB]
    rfl
theorem MT {r:Int} {k:HS} {A B:List AC}:∀ {M:List AC},(∀ t∈M,(t.Row,t.Col)≠k)→GB r k (GH r A B M)=none
  | [],_=>rfl
  | t :: M,h=>by rw [XZ,if_neg (h t (by simp)),MT fun u hu=>h u (List.mem_cons_of_mem _ hu)]; rfl
theorem kC {r:Int} {k:HS} {A B A1 B1 A2 B2:List AC}:∀ {M:List AC},Srt M→(∀ t∈M,NL r A B t.Row t.Col=eW r (NL r A1 B1 t.Row t.Col) (NL r A2 B2 t.Row t.Col)) →
    GB r k (GH r A B M)=eW r (GB r k (GH r A1 B1 M)) (GB r k (GH r A2 B2 M))
  | [],_,_=>rfl
  | t :: M,hs,h=>by
    unfold Srt at hs
    rw [List.pairwise_cons] at hs
    rw [XZ,XZ,XZ]
    by_cases e:(t.Row,t.Col)=k
    · have hn:∀ u∈M,(u.Row,u.Col)≠k:=fun u hu e'=>by
        have:=hs.1 u hu
        unfold key at this
        rw [e,e'] at this
        exact EZ _ this
      rw [if_pos e,if_pos e,if_pos e,MT hn,MT hn,MT hn,MR,MR,MR]
      exact h t (by simp)
    · rw [if_neg e,if_neg e,if_neg e]
      exact kC hs.2 fun u hu=>h u (List.mem_cons_of_mem _ hu)
theorem cL {r:Int} {A B M:List AC} {rm cm:Int} (hM:Canon rm cm M):StrC (GH r A B M)∧pB (GH r A B M)∧(GH r A B M).length≤65536:=by
  have h:=mD (r:=r) (ra:=0) (ca:=0) (rb:=0) (cb:=0) (A:=A) (B:=B) hM
  exact ⟨h.inc,h.ok,h.len⟩
def VW (n k:Int):Prop:=(0≤n∧n≤4096)∧(1≤k∧k≤8)
instance (n k:Int):Decidable (VW n k):=by unfold VW; infer_instance
def pG (i k:Int):Int:=if i<0 then 0 else if k<i then k else i
def CP (n k i:Int):Int:=if VW n k then pG i k*n / k else 0
theorem Ac3 {i k:Int} (h:1≤k):0≤pG i k∧pG i k≤k:=by unfold pG; split <;> (try split) <;> omega
theorem zL {i j k:Int} (h:i≤j) (hk:1≤k):pG i k≤pG j k:=by unfold pG; split <;> split <;> (try split) <;> (try split) <;> omega
theorem AdX {i k n:Int} (hk:1≤k∧k≤8) (hn:0≤n∧n≤4096) (hi:0≤i∧i≤k):0≤i*n∧i*n≤32768:=by
  refine ⟨Int.mul_nonneg hi.1 hn.1,?_⟩
  have:=Int.mul_le_mul (show i≤8 by omega) hn.2 hn.1 (by omega)
  omega
theorem WZ {n k i j:Int} (h:i≤j):CP n k i≤CP n k j:=by
  unfold CP
  by_cases hm:VW n k
  · rw [if_pos hm,if_pos hm]
    exact Int.ediv_le_ediv (by have:=hm.2; omega) (Int.mul_le_mul_of_nonneg_right (zL h hm.2.1) hm.1.1)
  · rw [if_neg hm,if_neg hm]; exact Int.le_refl _
theorem pH (n k:Int):CP n k 0=0:=by
  unfold CP pG; split
  · rename_i hm
    have h1:=hm.2.1
    rw [if_neg (by omega),if_neg (by omega),Int.zero_mul,Int.zero_ediv]
  · rfl
theorem Y0 {n k:Int} (h:VW n k):CP n k k=n:=by
  unfold CP pG
  have h1:=h.2.1
  rw [if_pos h,if_neg (by omega),if_neg (by omega),Int.mul_comm,Int.mul_ediv_cancel _ (by omega)]
theorem kD {n k i:Int}:0≤CP n k i∧(0≤n→CP n k i≤n):=by
  by_cases hm:VW n k
  · have hc:=Ac3 (i:=i) hm.2.1
    refine ⟨?_,fun _=>?_⟩
    · unfold CP; rw [if_pos hm]; exact Int.ediv_nonneg (Int.mul_nonneg hc.1 hm.1.1) (by have:=hm.2; omega)
    · by_cases hi:i≤k
      · have:=WZ (n:=n) hi (k:=k); rwa [Y0 hm] at this
      · have h1:=hm.2.1
        have e:CP n k i=n:=by
          unfold CP pG
          rw [if_pos hm,if_neg (by omega),if_pos (by omega),Int.mul_comm,Int.mul_ediv_cancel _ (by omega)]
        omega
  · unfold CP; rw [if_neg hm]; exact ⟨by omega,fun h=>h⟩
theorem XA {α:Type} {p q r:α→Bool}:∀ {l:List α},(∀ x∈l,r x=(p x || q x))→(∀ x∈l,¬(p x=true∧q x=true))→(l.filter p++l.filter q).Perm (l.filter r)
  | [],_,_=>by simp
  | x :: l,h,h'=>by
    have ih:=XA (fun y hy=>h y (List.mem_cons_of_mem _ hy)) (fun y hy=>h' y (List.mem_cons_of_mem _ hy))
    have hx:=h x List.mem_cons_self
    have hx':=h' x List.mem_cons_self
    cases hp:p x with
    | true=>
      cases hq:q x with
      | true=>exact absurd ⟨hp,hq⟩ hx'
      | false=>
        rw [List.filter_cons_of_pos hp,List.filter_cons_of_neg (by simp [hq]),List.filter_cons_of_pos (by rw [hx,hp]; rfl)]
        exact ih.cons x
    | false=>
      cases hq:q x with
      | true=>
        rw [List.filter_cons_of_neg (by simp [hp]),List.filter_cons_of_pos hq,List.filter_cons_of_pos (by rw [hx,hp,hq]; rfl)]
        exact List.perm_middle.trans (ih.cons x)
      | false=>
        rw [List.filter_cons_of_neg (by simp [hp]),List.filter_cons_of_neg (by simp [hq]),List.filter_cons_of_neg (by rw [hx,hp,hq]; simp)]
        exact ih
theorem XB {α:Type} {f:α→Int} {b:Nat→Int} {l:List α} (hm:∀ i j,i≤j→b i≤b j) (h0:∀ x∈l,b 0≤f x):∀ m:Nat,
    ((List.range m).flatMap fun i=>l.filter fun x=>decide (b i≤f x∧f x<b (i+1))).Perm (l.filter fun x=>decide (f x<b m))
  | 0=>by
    rw [List.filter_eq_nil_iff.2 (fun x hx=>by have:=h0 x hx; simp only [decide_eq_true_eq]; omega)]; simp
  | m+1=>by
    rw [List.range_succ,List.flatMap_append,List.flatMap_singleton]
    refine ((XB hm h0 m).append_right _).trans (XA (fun x hx=>?_) (fun x hx=>?_))
    · have:=hm m (m+1) (by omega)
      rw [Bool.eq_iff_iff]
      simp only [Bool.or_eq_true,decide_eq_true_eq]; omega
    · simp only [decide_eq_true_eq]; omega
theorem aX {α β:Type} {f g:α→List β}:∀ {l:List α},(∀ x∈l,(f x).Perm (g x))→(l.flatMap f).Perm (l.flatMap g)
  | [],_=>by simp
  | x :: l,h=>by
    rw [List.flatMap_cons,List.flatMap_cons]
    exact (h x List.mem_cons_self).append (aX fun y hy=>h y (List.mem_cons_of_mem _ hy))
theorem MU {α β:Type} {f g:α→List β} {l:List α} (h:∀ x∈l,f x=g x):l.flatMap f=l.flatMap g:=by
  induction l with
  | nil=>rfl
  | cons x l ih=>rw [List.flatMap_cons,List.flatMap_cons,h x List.mem_cons_self,ih fun y hy=>h y (List.mem_cons_of_mem _ hy)]
theorem kE {β:Type} {q:Nat} (hq:0<q) (F:Nat→Nat→List β):∀ p:Nat,((List.range (p*q)).flatMap fun k=>F (k / q) (k % q))=(List.range p).flatMap fun i=>(List.range q).flatMap fun j=>F i j
  | 0=>by simp
  | p+1=>by
    rw [Nat.succ_mul,List.range_add,List.flatMap_append,kE hq F p,List.range_succ,List.flatMap_append,List.flatMap_singleton,List.flatMap_map]
    congr 1
    refine MU fun j hj=>?_
    have hj:=List.mem_range.1 hj
    rw [Nat.mul_comm p q,Nat.mul_add_div hq,Nat.div_eq_of_lt hj,Nat.mul_add_mod,Nat.mod_eq_of_lt hj,Nat.add_zero]
def shT (a b:Int) (t:AC):AC:=⟨t.Row+a,t.Col+b,t.Val⟩
theorem zM {l h c d:Int} {T:List AC}:(KT l h c d T).map (shT l c)=T.filter fun t=>decide ((l≤t.Row∧t.Row<h)∧(c≤t.Col∧t.Col<d)):=by
  unfold KT
  rw [List.map_map]
  conv=>rhs; rw [←List.map_id (List.filter _ T)]
  refine List.map_congr_left fun t _=>?_
  cases t; simp only [Function.comp_apply,shT,id_eq,AC.mk.injEq]; exact ⟨by omega,by omega,trivial⟩
theorem pI {rows cols:Int} {T:List AC} (h:Canon rows cols T) {p q:Nat} (hp:VW rows p) (hq:VW cols q) :
    ((List.range p).flatMap fun i:Nat=>(List.range q).flatMap fun j:Nat=>(KT (CP rows p i) (CP rows p ((i:Int)+1)) (CP cols q j) (CP cols q ((j:Int)+1)) T).map (shT (CP rows p i) (CP cols q j))).Perm T:=by
  have e:∀ i:Nat,((List.range q).flatMap fun j:Nat=>(KT (CP rows p i) (CP rows p ((i:Int)+1)) (CP cols q j) (CP cols q ((j:Int)+1)) T).map (shT (CP rows p i) (CP cols q j))).Perm (T.filter fun t=>decide (CP rows p i≤t.Row∧t.Row<CP rows p ((i:Int)+1))):=by
    intro i
    have h1:=XB (f:=fun t:AC=>t.Col) (b:=fun j:Nat=>CP cols q j) (l:=T.filter fun t=>decide (CP rows p i≤t.Row∧t.Row<CP rows p ((i:Int)+1))) (fun i j hij=>WZ (by omega)) (fun t ht=>by
      have:=(h.inn t (List.mem_filter.1 ht).1).2.2.1
      simp only [Int.natCast_zero]; rw [pH]; exact this) q
    refine List.Perm.trans (List.Perm.of_eq (MU fun j _=>?_)) (h1.trans (List.Perm.of_eq ?_))
    · rw [zM,List.filter_filter]
      refine List.filter_congr fun t _=>?_
      rw [Bool.eq_iff_iff]
      simp only [Bool.and_eq_true,decide_eq_true_eq,Int.natCast_add,Int.natCast_one]
      exact ⟨fun h=>⟨h.2,h.1⟩,fun h=>⟨h.2,h.1⟩⟩
    · refine List.filter_eq_self.2 fun t ht=>?_
      have:=(h.inn t (List.mem_filter.1 ht).1).2.2.2
      rw [Y0 hq]; simpa using this
  refine (aX fun i _=>e i).trans ?_
  have h1:=XB (f:=fun t:AC=>t.Row) (b:=fun j:Nat=>CP rows p j) (l:=T) (fun i j hij=>WZ (by omega)) (fun t ht=>by
    have:=(h.inn t ht).1
    simp only [Int.natCast_zero]; rw [pH]; exact this) p
  refine h1.trans (List.Perm.of_eq ?_)
  refine List.filter_eq_self.2 fun t ht=>?_
  have:=(h.inn t ht).2.1
  rw [Y0 hp]; simpa using this
theorem uH {P:Prop} [Decidable P] {b:Bool} {Q:Bool→Prop} (hQ:Q (decide P)) (h:b=true↔P):Q b:=by
  have:decide P=b:=by rw [Bool.eq_iff_iff,decide_eq_true_iff]; exact h.symm
  rwa [this] at hQ
theorem SV {n k:Int} {Q:Bool→Prop} (hQ:Q (decide (VW n k))):RA n k Q:=by
  unfold RA NQ
  refine AD (fun a=>AD (fun b=>AD (fun c=>uH hQ ?_) (fun c=>uH hQ ?_)) (fun b=>uH hQ ?_)) (fun a=>uH hQ ?_) <;> (unfold VW; simp; omega)
theorem HW {n k i:Int} {Q:Int→Prop} (hQ:Q (CP n k i)):FR n k i Q:=by
  unfold FR
  unfold CP at hQ
  refine SV (CR (fun h=>?_) (fun h=>?_))
  · rwa [if_neg (of_decide_eq_false h)] at hQ
  · have hm:=of_decide_eq_true h
    rw [if_pos hm] at hQ
    have e:(if k<(if 0 > i then 0 else i) then k else (if 0 > i then 0 else i))=pG i k:=by
      unfold pG; have:=hm.2; split <;> split <;> (try split) <;> (try split) <;> omega
    rw [e]
    have hb:=AdX hm.2 hm.1 (Ac3 (i:=i) hm.2.1)
    have hk:=hm.2
    refine ⟨by omega,?_⟩
    rw [AV (x:=pG i k*n) (by omega) (by omega),Int.tdiv_eq_ediv_of_nonneg hb.1]
    have h1:0≤pG i k*n / k:=Int.ediv_nonneg hb.1 (by omega)
    have h2:pG i k*n / k≤pG i k*n:=Int.ediv_le_self _ hb.1
    rwa [AV (by omega) (by omega)]
theorem AdY {n k i:Int} (h0:0≤i) (h:i<k):CP n k (AJ (i+1))=CP n k (i+1):=by
  by_cases hm:VW n k
  · have:=hm.2
    rw [AV (by omega) (by omega)]
  · unfold CP; rw [if_neg hm,if_neg hm]
def RW (k:Int):Prop:=1≤k∧k≤8
instance (k:Int):Decidable (RW k):=by unfold RW; infer_instance
def kF (r c i j:Int):Prop:=(RW r∧RW c)∧(0≤i∧i<r)∧0≤j∧j<c
instance (r c i j:Int):Decidable (kF r c i j):=by unfold kF; infer_instance
theorem YR {k:Int} {Q:Bool→Prop} (hQ:Q (decide (RW k))):RC k Q:=by
  unfold RC
  refine AD (fun a=>uH hQ ?_) (fun a=>uH hQ ?_) <;> (unfold RW; simp; omega)
theorem jA {r c i j:Int} {Q:Bool→Prop} (hQ:Q (decide (kF r c i j))):UU r c i j Q:=by
  unfold UU
  refine YR (AD (fun a=>YR (AD (fun b=>AD (fun d=>AD (fun e=>AD (fun f=>uH hQ ?_) (fun f=>uH hQ ?_)) (fun e=>uH hQ ?_)) (fun d=>uH hQ ?_)) (fun b=>uH hQ ?_))) (fun a=>uH hQ ?_)) <;> (unfold kF; unfold RW at *; simp only [Bool.false_eq_true,decide_eq_true_eq,false_iff]; omega)
theorem VV {n k i:Int} {Q:Int×Int→Prop} (h0:0≤i) (h:i<k) (hQ:Q (CP n k i,CP n k (i+1))):MI n k i Q:=by
  unfold MI
  refine HW (HW ?_)
  rw [AdY h0 h]; exact hQ
def AcQ (rows cols:Int) (T:List AC) (r c i j:Int):Rows:=if kF r c i j then lW rows cols T (CP rows r i,CP rows r (i+1)) (CP cols c j,CP cols c (j+1)) else BF 0 0 []
theorem AbB:VU zR=BF 0 0 []:=if_neg yG
theorem zN:lW 0 0 [] (0,0) (0,0)=BF 0 0 []:=by decide
theorem mJ {Q:Rows→Prop} (hQ:Q (BF 0 0 [])):LC zR (0,0) (0,0) Q:=by
  refine VE yF AbB oO ?_
  rw [zN]; exact hQ
theorem mK {rows cols r c i j:Int} {T:List AC} {Q:Rows→Prop} (h:Canon rows cols T) (hQ:Q (AcQ rows cols T r c i j)):QN (BF rows cols T) r c i j Q:=by
  unfold QN
  unfold AcQ at hQ
  refine aQ h.sml ?_
  rw [decide_eq_true h.right]
  refine AW rfl (jA (CR (fun hg=>?_) (fun hg=>?_)))
  · rw [if_neg (of_decide_eq_false hg)] at hQ
    exact mJ hQ
  · have hg:=of_decide_eq_true hg
    rw [if_pos hg] at hQ
    exact VV hg.2.1.1 hg.2.1.2 (VV hg.2.2.1 hg.2.2.2 (VE h.sml (LP h) h hQ))
def AcR (a:Rows):Prop:=a.Start.length≤1000000000000∧a.Col.length≤1000000000000
theorem cN {a:Rows} {Q:Bool→Prop} (hl:AcR a) (hQ:Q (decide (PM a))):HL a Q:=by
  by_cases hv:a.Val.length=a.Col.length
  · exact aQ ⟨hl.1,hl.2,by have:=hl.2; omega⟩ hQ
  · have hno:Q false:=by rwa [decide_eq_false (fun h=>hv h.vl)] at hQ
    unfold HL
    exact IU (CR (fun _=>hno) (fun _=>IU (CR (fun _=>hno) (fun _=>EW (fun _=>hno) (fun _=>EW (fun _=>hno) (fun h=>absurd (by omega) hv))))))
theorem aY {k:Int} {Q:Bool→Prop} (hQ:Q (decide (RW k))):NQ k Q:=by
  unfold NQ
  refine AD (fun a=>uH hQ ?_) (fun a=>uH hQ ?_) <;> (unfold RW; simp; omega)
theorem dO {c k:Nat} {Q:Int→Prop} (hc:RW c) (hk:k<8*c) (hQ:Q ((k / c:Nat):Int)):TT c k Q:=by
  unfold TT
  refine aY ?_
  rw [decide_eq_true hc]
  have hc':=hc
  unfold RW at hc'
  refine AW rfl (AD (fun h=>by omega) (fun _=>?_))
  rw [AV (x:=(c:Int)*8) (by omega) (by omega)]
  refine AD (fun h=>by omega) (fun _=>⟨by omega,?_⟩)
  rw [Int.tdiv_eq_ediv_of_nonneg (by omega),←Int.natCast_ediv]
  have hq:k / c≤k:=Nat.div_le_self _ _
  generalize k / c=q at hq hQ ⊢
  rwa [AV (by omega) (by omega)]
theorem pJ {c k:Nat} {Q:Int→Prop} (hc:RW c) (hk:k<8*c) (hQ:Q ((k % c:Nat):Int)):WL c k Q:=by
  unfold WL
  have hc':=hc
  unfold RW at hc'
  refine dO hc hk (AD (fun h=>absurd h (Int.not_lt.2 (Int.natCast_nonneg _))) (fun _=>⟨by omega,?_⟩))
  rwa [Int.tmod_eq_emod_of_nonneg (by omega),←Int.natCast_emod]
end Go.Proofs.YtbohadngdkjljaaGreat
