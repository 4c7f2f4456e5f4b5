import Derived.Test.YtbohadngdkjljaaGreatStabC
namespace Go.Proofs.YtbohadngdkjljaaGreat
open Go Go.Fw
set_option linter.unusedVariables false
set_option linter.unusedSimpArgs false
def TU (c:AK):EX:=(c.Row,c.Col)
def sN (k:EX) (c:AK):Option AP:=if TU c=k then some c.Val else none
def GH (r:Int) (k:EX):List AK→Option AP
  | []=>none
  | c :: l=>gT r (sN k c) (GH r k l)
def sO (l:List AK):Prop:=∀ c∈l,PA c.Val
def StrC (l:List AK):Prop:=l.Pairwise gU
theorem jI {k:EX} {c:AK} (h:PA c.Val):okO (sN k c):=fun w hw=>by unfold sN at hw; split at hw <;> cases hw; exact h
theorem AeZ {r:Int} {a b:Option AP} (ha:okO a) (hb:okO b):okO (gT r a b):=by
  intro w hw
  cases a with
  | none=>exact hb w hw
  | some x=>cases b with
    | none=>exact ha w hw
    | some y=>cases hw; exact SW (ha x rfl) (hb y rfl)
theorem YK {r:Int} {k:EX}:∀ {l:List AK},sO l→okO (GH r k l)
  | [],_=>fun w hw=>by cases hw
  | c :: l,h=>AeZ (jI (h c (by simp))) (YK fun d hd=>h d (List.mem_cons_of_mem _ hd))
theorem OP {r:Int} {k:EX}:∀ {xs ys:List AK},sO xs→sO ys→GH r k (xs++ys)=gT r (GH r k xs) (GH r k ys)
  | [],ys,_,_=>rfl
  | c :: l,ys,h,h'=>by
    have hl:sO l:=fun d hd=>h d (List.mem_cons_of_mem _ hd)
    rw [List.cons_append,GH,GH,OP hl h',VS (jI (h c (by simp))) (YK hl) (YK h')]
theorem sP {xs ys:List AK} (h:xs.Perm ys) (ho:sO xs):sO ys:=fun c hc=>ho c (h.mem_iff.2 hc)
theorem AcW {r:Int} {k:EX} {xs ys:List AK} (h:xs.Perm ys) (ho:sO xs):GH r k xs=GH r k ys:=by
  induction h with
  | nil=>rfl
  | cons c h ih=>rw [GH,GH,ih fun d hd=>ho d (List.mem_cons_of_mem _ hd)]
  | swap a b l=>
    have h1:=jI (k:=k) (ho a (by simp))
    have h2:=jI (k:=k) (ho b (by simp))
    have h3:=YK (r:=r) (k:=k) (l:=l) fun d hd=>ho d (by simp [hd])
    rw [GH,GH,GH,GH,←VS h2 h1 h3,←VS h1 h2 h3,AcL h1 h2]
  | trans h1 h2 ih1 ih2=>exact (ih1 ho).trans (ih2 (sP h1 ho))
theorem sQ {r:Int} {k:EX}:∀ {l:List AK},(∀ c∈l,TU c≠k)→GH r k l=none
  | [],_=>rfl
  | c :: l,h=>by
    rw [GH,sQ fun d hd=>h d (List.mem_cons_of_mem _ hd)]
    unfold sN
    rw [if_neg (h c (by simp))]; rfl
theorem wF {a b:AK} (h:gU a b):TU a≠TU b:=fun e=>by unfold gU at h; unfold TU at e; rw [e] at h; exact GG _ h
theorem pG {r:Int}:∀ {l:List AK},StrC l→∀ {c:AK},c∈l↔GH r (TU c) l=some c.Val
  | [],_,c=>by simp [GH]
  | d :: l,h,c=>by
    unfold StrC at h
    rw [List.pairwise_cons] at h
    rw [GH,List.mem_cons]
    by_cases e:TU d=TU c
    · rw [sQ (fun x hx=>by rw [←e]; exact (wF (h.1 x hx)).symm)]
      unfold sN
      rw [if_pos e,NL]
      constructor
      · rintro (rfl | hc)
        · rfl
        · exact absurd e (wF (h.1 c hc))
      · intro hv
        left
        have hv':=Option.some.inj hv
        clear hv
        unfold TU at e
        cases c; cases d
        simp only [Prod.mk.injEq] at e hv'
        obtain ⟨rfl,rfl⟩:=e
        rw [hv']
    · unfold sN
      rw [if_neg e]
      show _↔GH r (TU c) l=some c.Val
      rw [←pG h.2]
      constructor
      · rintro (rfl | hc)
        · exact absurd rfl e
        · exact hc
      · exact .inr
theorem StrC.nodup {l:List AK} (h:StrC l):l.Nodup:=by
  rw [List.nodup_iff_pairwise_ne]
  exact List.Pairwise.imp (R:=gU) (fun {a b} hab (e:a=b)=>wF hab (by rw [e])) h
theorem AcX {r:Int} {s t:List AK} (hs:StrC s) (ht:StrC t) (h:∀ k,GH r k s=GH r k t):s=t:=
  dO ((List.perm_ext_iff_of_nodup hs.nodup ht.nodup).2 fun c=>by rw [pG (r:=r) hs,pG (r:=r) ht,h]) hs ht fun a b _ _ h1 h2=>absurd (MK h1 h2) (GG _)
theorem Af0 {l:List AK} (h:∀ (j:Nat) (h1:j+1<l.length),gU l[j] l[j+1]):StrC l:=by
  unfold StrC
  rw [List.pairwise_iff_getElem]
  intro i j hi hj hij
  obtain ⟨d,rfl⟩:∃ d,j=i+1+d:=⟨j - i - 1,by omega⟩
  clear hij
  induction d with
  | zero=>exact h i hj
  | succ d ih=>exact MK (ih (by omega)) (h (i+1+d) hj)
theorem lF {l:List AK} {Q:Bool→Prop} (hl:l.length≤1000000) (h1:StrC l→Q true) (h2:¬StrC l→Q false):KD l Q:=by
  unfold KD
  refine EC l.length (by omega) (fun i=>∀ (j:Nat) (h1:j+1<l.length),j+1<i→gU l[j] l[j+1]) (fun j _ h=>by omega) (fun i next hi hm hn=>?_) (fun next hm=>?_)
  · refine AC (fun _=>AC (fun hp=>?_) (fun hp=>hn fun j _ h=>by omega)) (fun h=>by omega)
    obtain ⟨i,rfl⟩:∃ q,i=q+1:=⟨i - 1,by omega⟩
    rw [dV (by omega) (by omega),Nat.add_sub_cancel]
    refine AV (by omega) (AV hi (UY (AC (fun h0=>h2 fun hs=>?_) (fun h0=>hn fun j hj h=>?_))))
    · have:=(UL l[i] l[i+1]).2 (List.pairwise_iff_getElem.1 hs i (i+1) (by omega) hi (by omega))
      omega
    · by_cases e:j=i
      · subst e; exact (UL l[j] l[j+1]).1 (by omega)
      · exact hm j hj (by omega)
  · exact AC (fun h=>by omega) (fun _=>h1 (Af0 fun j hj=>hm j hj hj))
theorem sR {x y:AK}:uS (OO x.Row y.Row) (OO x.Col y.Col)=0↔TU x=TU y:=by
  unfold uS OO TU
  simp only [Prod.mk.injEq]
  split <;> split <;> (try split) <;> (try split) <;> omega
theorem wG {L:List (List AK)} {Q:List AK→Prop} (hl:L.length≤1000000) (hf:L.flatten.length≤100000000) (hQ:Q L.flatten):DJ L Q:=by
  unfold DJ EZ
  have tk:∀ {i:Nat} (h:i<L.length),(L.take (i+1)).flatten=(L.take i).flatten++L[i]:=fun h=>by rw [List.take_succ_eq_append_getElem h,List.flatten_append]; simp
  have tl:∀ i:Nat,(L.take i).flatten.length≤L.flatten.length:=fun i=>by
    conv=>rhs; rw [←List.take_append_drop i L,List.flatten_append,List.length_append]
    omega
  refine AW (fun (s:Int) i=>(s,i)) 0 L.length (by omega) (fun i s=>s=((L.take i).flatten.length:Nat)) (by omega) rfl (fun i s next _ hi hm hn=>?_) (fun s next hm=>?_)
  · subst hm
    have h1:=tl (i+1)
    have h2:=tk hi
    rw [h2,List.length_append] at h1
    refine AC (fun _=>AV hi ?_) (fun h=>by omega)
    rw [cD (by omega) (by omega)]
    exact AC (fun h=>by omega) (fun _=>hn _ (by rw [h2,List.length_append]))
  · subst hm
    refine AC (fun h=>by omega) (fun _=>?_)
    rw [List.take_length,AX (x:=0 - 0) (by omega) (by omega),AX (x:=((L.flatten.length:Nat):Int) - (0 - 0)) (by omega) (by omega)]
    have hk:BD (fun (s:(List AK)×Int) (next271:((List AK)×Int)→Prop)=>match s with | (s266,s270)=>AQ (decide (s270<(L.length:Int))) (BA L s270 fun x278=>HN 32 s266 x278 fun _=>next271 ((s266++x278),AH (s270+1))) (Q s266)) ([],0):=by
      refine AW (fun (s:List AK) i=>(s,i)) 0 L.length (by omega) (fun i s=>s=(L.take i).flatten) (by omega) rfl (fun i s next _ hi hm hn=>?_) (fun s next hm=>?_)
      · subst hm
        have h1:=tl (i+1)
        have h2:=tk hi
        rw [h2,List.length_append] at h1
        refine AC (fun _=>AV hi (BG (by omega) (hn _ h2.symm))) (fun h=>by omega)
      · subst hm
        refine AC (fun h=>by omega) (fun _=>?_)
        rw [List.take_length]; exact hQ
    exact AC (fun h=>by omega) (fun _=>AC (fun h=>⟨by omega,by omega,hk⟩) (fun h=>hk))
theorem lG {r:Int} {L:List (List AK)} {Q:List AK×Int→Prop} (hl:L.length≤1000000) (hf:L.flatten.length≤1000000) (hok:sO L.flatten) (h8:¬(1≤r∧r≤5)→Q ([],8)) (h6:(1≤r∧r≤5)→¬(∀ l∈L,StrC l)→Q ([],6))
    (h0:(1≤r∧r≤5)→(∀ l∈L,StrC l)→∀ s,StrC s→sO s→s.length≤L.flatten.length→(∀ k,GH r k s=GH r k L.flatten)→Q (s,0)):OE r L Q:=by
  unfold OE
  refine KG (CO (fun h=>h8 (of_decide_eq_false h)) (fun h=>?_))
  have hr:=of_decide_eq_true h
  unfold DC DM OD
  have elen:∀ l∈L,l.length≤1000000:=fun l hm=>by
    have:=(List.sublist_flatten_of_mem hm).length_le
    omega
  refine EC L.length (by omega) (fun i=>∀ (q:Nat) (hq:q<L.length),q<i→StrC L[q]) (fun q _ h=>by omega) (fun i next hi hm hn=>?_) (fun next hm=>?_)
  · refine AC (fun _=>AV hi (lF (elen _ (List.getElem_mem hi)) (fun hs=>AN rfl (hn fun q hq hqi=>?_)) (fun hs=>BF rfl (BF (decide_eq_true (by omega)) (h6 hr fun ha=>hs (ha _ (List.getElem_mem hi))))))) (fun h=>by omega)
    by_cases e:q=i
    · subst e; exact hs
    · exact hm q hq (by omega)
  refine AC (fun h=>by omega) (fun _=>AN (by decide) (wG hl (by omega) (AcV (by omega) fun t hp hs=>?_)))
  have hall:∀ l∈L,StrC l:=fun l hm'=>by obtain ⟨q,hq,rfl⟩:=List.getElem_of_mem hm'; exact hm q hq hq
  have hot:sO t:=sP hp.symm hok
  have htl:=hp.length_eq
  have hfin:=h0 hr hall
  refine AW (fun (s:List AK) i=>(s,i)) 0 t.length (by omega) (fun i s=>StrC s∧sO s∧s.length≤i∧(∀ k,GH r k s=GH r k (t.take i))∧(s=[]∧i=0∨∃ p y,s=p++[y]∧0<i∧TU y=TU (gC t (i - 1)))) (by omega) ⟨.nil,(fun c hc=>by cases hc),Nat.le_refl _,fun _=>rfl,.inl ⟨rfl,rfl⟩⟩ (fun i s next _ hi hm' hn=>?_) (fun s next hm'=>?_)
  · obtain ⟨m1,m2,m3,m4,m5⟩:=hm'
    have hx:PA t[i].Val:=hot _ (List.getElem_mem hi)
    have hok1:sO [t[i]]:=fun c hc=>by rw [List.mem_singleton] at hc; subst hc; exact hx
    have hoti:sO (t.take i):=fun c hc=>hot c (List.mem_of_mem_take hc)
    have htk:∀ k,GH r k (t.take (i+1))=gT r (GH r k s) (sN k t[i]):=fun k=>by
      rw [List.take_succ_eq_append_getElem hi,OP hoti hok1,←m4 k,GH,GH,NL]
    have hgi:=pD hi
    refine AC (fun _=>AV hi ?_) (fun h=>by omega)
    have app:StrC (s++[t[i]])→HN 32 s [t[i]] fun _=>next (s++[t[i]],AH ((i:Int)+1)):=fun hstr=>BG (by simp; omega) (hn _ ⟨hstr,fun c hc=>by
        rcases List.mem_append.1 hc with h | h
        · exact m2 c h
        · exact hok1 c h,by simp; omega,fun k=>by rw [htk,OP m2 hok1,GH,GH,NL],.inr ⟨s,t[i],rfl,by omega,by rw [Nat.add_sub_cancel,←hgi]⟩⟩)
    unfold FW
    rcases m5 with ⟨rfl,rfl⟩ | ⟨p,y,rfl,i0,hy⟩
    · exact AC (fun h=>by simp at h) (fun _=>AN rfl (app (by simp [StrC])))
    · have m3':p.length+1≤i:=by simpa using m3
      have hlast:(AH ((((p++[y]).length:Nat):Int) - 1))=((p.length:Nat):Int):=by
        rw [List.length_append,List.length_singleton,dV (by omega) (by omega),Nat.add_sub_cancel]
      rw [hlast]
      have hget:(p++[y])[p.length]? = some y:=by simp
      refine AC (fun _=>AO (x:=y) (by omega) hget (UY (CU (fun he=>?_) (fun he=>?_)))) (fun h=>by simp at h)
      · have hkey:=sR.1 he
        have hyo:PA y.Val:=m2 y (by simp)
        refine AO (x:=y) (by omega) hget (PS hyo hx (AO (x:=y) (by omega) hget ?_))
        rw [show (p++[y]).set ((p.length:Nat):Int).toNat (⟨y.Row,y.Col,GF r y.Val t[i].Val⟩:AK)=p++[⟨y.Row,y.Col,GF r y.Val t[i].Val⟩] by simp]
        have hp2:sO p:=fun c hc=>m2 c (by simp [hc])
        have hy1:sO [y]:=fun c hc=>by rw [List.mem_singleton] at hc; subst hc; exact hyo
        have hy2:sO [⟨y.Row,y.Col,GF r y.Val t[i].Val⟩]:=fun c hc=>by rw [List.mem_singleton] at hc; subst hc; exact SW hyo hx
        refine hn _ ⟨?_,fun c hc=>?_,by simp at m3 ⊢; omega,fun k=>?_,.inr ⟨p,_,rfl,by omega,?_⟩⟩
        · unfold StrC at m1 ⊢
          rw [List.pairwise_append] at m1 ⊢
          refine ⟨m1.1,by simp,fun a ha b hb=>?_⟩
          rw [List.mem_singleton] at hb; subst hb
          exact m1.2.2 a ha y (by simp)
        · rcases List.mem_append.1 hc with h | h
          · exact hp2 c h
          · exact hy2 c h
        · rw [htk,OP hp2 hy2,OP hp2 hy1,VS (YK hp2) (YK hy1) (jI hx)]
          congr 1
          rw [GH,GH,NL,GH,GH,NL]
          unfold sN
          by_cases ek:TU y=k
          · rw [if_pos (show TU ⟨y.Row,y.Col,GF r y.Val t[i].Val⟩=k from ek),if_pos ek,if_pos (hkey.symm.trans ek)]; rfl
          · rw [if_neg (show ¬TU ⟨y.Row,y.Col,GF r y.Val t[i].Val⟩=k from ek),if_neg ek,if_neg (fun h=>ek (hkey.trans h))]; rfl
        · rw [Nat.add_sub_cancel,←hgi]; exact hkey
      · have hne:TU y≠TU t[i]:=fun h=>he (sR.2 h)
        refine app ?_
        have hle:jH (gC t (i - 1)) (gC t i):=hs _ _ (by omega) (by omega) (by omega)
        rw [←hgi] at hle
        have hyx:gU y t[i]:=oG (a:=TU t[i]) (b:=TU y) (by rw [hy]; exact hle) fun e=>hne e.symm
        unfold StrC at m1 ⊢
        rw [List.pairwise_append]
        refine ⟨m1,by simp,fun a ha b hb=>?_⟩
        rw [List.mem_singleton] at hb; subst hb
        rcases List.mem_append.1 ha with h | h
        · rw [List.pairwise_append] at m1
          exact MK (m1.2.2 a h y (by simp)) hyx
        · rw [List.mem_singleton] at h; subst h; exact hyx
  · obtain ⟨m1,m2,m3,m4,m5⟩:=hm'
    refine AC (fun h=>by omega) (fun _=>hfin s m1 m2 (by omega) fun k=>?_)
    rw [m4,List.take_length]
    exact AcW hp hot
theorem FU {rows cols:Int} {T:List AD} (h:Canon rows cols T) {l u c d:Int} (l0:0≤l) (l1:l≤u) (l2:u≤rows) (h0:0≤c) (h1:c≤d) (h2:d≤cols) :
    oO rows cols T (l,u) (c,d)=BO (u - l) (d - c) (LG l u c d T)∧Canon (u - l) (d - c) (LG l u c d T)∧∀ i j:Int,0≤i→i<u - l→0≤j→j<d - c→WU (bY (LG l u c d T) i) j=WU (bY T (i+l)) (j+c):=by
  have e1:kZ l=l:=by unfold kZ; split <;> omega
  have e2:qG u rows=u:=by unfold qG; split <;> omega
  have e3:ext l u rows=u - l:=by unfold ext; rw [e1,e2]; split <;> omega
  have e4:kZ c=c:=by unfold kZ; split <;> omega
  have e5:qG d cols=d:=by unfold qG; split <;> omega
  have e6:ext c d cols=d - c:=by unfold ext; rw [e4,e5]; split <;> omega
  have hc:=mH h (l,u) (c,d)
  simp only [e1,e2,e3,e4,e5,e6] at hc
  refine ⟨by unfold oO; simp only [e1,e2,e3,e4,e5,e6],hc,fun i j hi0 hi1 hj0 hj1=>AeW fun a=>?_⟩
  rw [TB hc hi0,TB h (by omega),yK]
  exact ⟨fun hh=>hh.1,fun hh=>⟨hh,⟨hi0,by dsimp only; omega⟩,hj0,by dsimp only; omega⟩⟩
theorem sS {l u c d:Int} {T:List AD} (h:∀ t∈T,FP t.Val):∀ t∈LG l u c d T,FP t.Val:=fun t ht=>by
  have:=h _ ((yK t).1 ht).1
  exact this
theorem YL {r:Int} {k:EX} {A B:List AD} {t:AD} {M:List AD}:GH r k (FC r A B (t :: M))=gT r (if (t.Row,t.Col)=k then MM r A B t.Row t.Col else none) (GH r k (FC r A B M)):=by
  unfold FC
  rw [List.filterMap_cons]
  unfold HU
  cases hw:MM r A B t.Row t.Col with
  | none=>simp [gT]
  | some w=>
    simp only [Option.map_some,GH]
    rfl
theorem NM {r:Int} {k:EX} {A B:List AD}:∀ {M:List AD},(∀ t∈M,(t.Row,t.Col)≠k)→GH r k (FC r A B M)=none
  | [],_=>rfl
  | t :: M,h=>by rw [YL,if_neg (h t (by simp)),NM fun u hu=>h u (List.mem_cons_of_mem _ hu)]; rfl
theorem mL {r:Int} {k:EX} {A B A1 B1 A2 B2:List AD}:∀ {M:List AD},Srt M→(∀ t∈M,MM r A B t.Row t.Col=gT r (MM r A1 B1 t.Row t.Col) (MM r A2 B2 t.Row t.Col)) →
    GH r k (FC r A B M)=gT r (GH r k (FC r A1 B1 M)) (GH r k (FC r A2 B2 M))
  | [],_,_=>rfl
  | t :: M,hs,h=>by
    unfold Srt at hs
    rw [List.pairwise_cons] at hs
    rw [YL,YL,YL]
    by_cases e:(t.Row,t.Col)=k
    · have hn:∀ u∈M,(u.Row,u.Col)≠k:=fun u hu e'=>by
        have:=hs.1 u hu
        unfold key at this
        rw [e,e'] at this
        exact GG _ this
      rw [if_pos e,if_pos e,if_pos e,NM hn,NM hn,NM hn,NL,NL,NL]
      exact h t (by simp)
    · rw [if_neg e,if_neg e,if_neg e]
      exact mL hs.2 fun u hu=>h u (List.mem_cons_of_mem _ hu)
theorem dX {r:Int} {A B M:List AD} {rm cm:Int} (hM:Canon rm cm M):StrC (FC r A B M)∧sO (FC r A B M)∧(FC r A B M).length≤65536:=by
  have h:=gV (r:=r) (ra:=0) (ca:=0) (rb:=0) (cb:=0) (A:=A) (B:=B) hM
  exact ⟨h.inc,h.ok,h.len⟩
def WW (n k:Int):Prop:=(0≤n∧n≤4096)∧(1≤k∧k≤8)
instance (n k:Int):Decidable (WW n k):=by unfold WW; infer_instance
def sU (i k:Int):Int:=if i<0 then 0 else if k<i then k else i
def CV (n k i:Int):Int:=if WW n k then sU i k*n / k else 0
theorem Ag2 {i k:Int} (h:1≤k):0≤sU i k∧sU i k≤k:=by unfold sU; split <;> (try split) <;> omega
theorem AcY {i j k:Int} (h:i≤j) (hk:1≤k):sU i k≤sU j k:=by unfold sU; split <;> split <;> (try split) <;> (try split) <;> omega
theorem Ai5 {i k n:Int} (hk:1≤k∧k≤8) (hn:0≤n∧n≤4096) (hi:0≤i∧i≤k):0≤i*n∧i*n≤32768:=by
  refine ⟨Int.mul_nonneg hi.1 hn.1,?_⟩
  have:=Int.mul_le_mul (show i≤8 by omega) hn.2 hn.1 (by omega)
  omega
theorem XN {n k i j:Int} (h:i≤j):CV n k i≤CV n k j:=by
  unfold CV
  by_cases hm:WW n k
  · rw [if_pos hm,if_pos hm]
    exact Int.ediv_le_ediv (by have:=hm.2; omega) (Int.mul_le_mul_of_nonneg_right (AcY h hm.2.1) hm.1.1)
  · rw [if_neg hm,if_neg hm]; exact Int.le_refl _
theorem sV (n k:Int):CV n k 0=0:=by
  unfold CV sU; split
  · rename_i hm
    have h1:=hm.2.1
    rw [if_neg (by omega),if_neg (by omega),Int.zero_mul,Int.zero_ediv]
  · rfl
theorem YM {n k:Int} (h:WW n k):CV n k k=n:=by
  unfold CV sU
  have h1:=h.2.1
  rw [if_pos h,if_neg (by omega),if_neg (by omega),Int.mul_comm,Int.mul_ediv_cancel _ (by omega)]
theorem mM {n k i:Int}:0≤CV n k i∧(0≤n→CV n k i≤n):=by
  by_cases hm:WW n k
  · have hc:=Ag2 (i:=i) hm.2.1
    refine ⟨?_,fun _=>?_⟩
    · unfold CV; rw [if_pos hm]; exact Int.ediv_nonneg (Int.mul_nonneg hc.1 hm.1.1) (by have:=hm.2; omega)
    · by_cases hi:i≤k
      · have:=XN (n:=n) hi (k:=k); rwa [YM hm] at this
      · have h1:=hm.2.1
        have e:CV n k i=n:=by
          unfold CV sU
          rw [if_pos hm,if_neg (by omega),if_pos (by omega),Int.mul_comm,Int.mul_ediv_cancel _ (by omega)]
        omega
  · unfold CV; rw [if_neg hm]; exact ⟨by omega,fun h=>h⟩
theorem XO {α:Type} {p q r:α→Bool}:∀ {l:List α},(∀ x∈l,r x=(p x || q x))→(∀ x∈l,¬(p x=true∧q x=true))→(l.filter p++l.filter q).Perm (l.filter r)
  | [],_,_=>by simp
  | x :: l,h,h'=>by
    have ih:=XO (fun y hy=>h y (List.mem_cons_of_mem _ hy)) (fun y hy=>h' y (List.mem_cons_of_mem _ hy))
    have hx:=h x List.mem_cons_self
    have hx':=h' x List.mem_cons_self
    cases hp:p x with
    | true=>
      cases hq:q x with
      | true=>exact absurd ⟨hp,hq⟩ hx'
      | false=>
        rw [List.filter_cons_of_pos hp,List.filter_cons_of_neg (by simp [hq]),List.filter_cons_of_pos (by rw [hx,hp]; rfl)]
        exact ih.cons x
    | false=>
      cases hq:q x with
      | true=>
        rw [List.filter_cons_of_neg (by simp [hp]),List.filter_cons_of_pos hq,List.filter_cons_of_pos (by rw [hx,hp,hq]; rfl)]
        exact List.perm_middle.trans (ih.cons x)
      | false=>
        rw [List.filter_cons_of_neg (by simp [hp]),List.filter_cons_of_neg (by simp [hq]),List.filter_cons_of_neg (by rw [hx,hp,hq]; simp)]
        exact ih
theorem XP {α:Type} {f:α→Int} {b:Nat→Int} {l:List α} (hm:∀ i j,i≤j→b i≤b j) (h0:∀ x∈l,b 0≤f x):∀ m:Nat,
    ((List.range m).flatMap fun i=>l.filter fun x=>decide (b i≤f x∧f x<b (i+1))).Perm (l.filter fun x=>decide (f x<b m))
  | 0=>by
    rw [List.filter_eq_nil_iff.2 (fun x hx=>by have:=h0 x hx; simp only [decide_eq_true_eq]; omega)]; simp
  | m+1=>by
    rw [List.range_succ,List.flatMap_append,List.flatMap_singleton]
    refine ((XP hm h0 m).append_right _).trans (XO (fun x hx=>?_) (fun x hx=>?_))
    · have:=hm m (m+1) (by omega)
      rw [Bool.eq_iff_iff]
      simp only [Bool.or_eq_true,decide_eq_true_eq]; omega
    · simp only [decide_eq_true_eq]; omega
theorem cE {α β:Type} {f g:α→List β}:∀ {l:List α},(∀ x∈l,(f x).Perm (g x))→(l.flatMap f).Perm (l.flatMap g)
  | [],_=>by simp
  | x :: l,h=>by
    rw [List.flatMap_cons,List.flatMap_cons]
    exact (h x List.mem_cons_self).append (cE fun y hy=>h y (List.mem_cons_of_mem _ hy))
theorem NN {α β:Type} {f g:α→List β} {l:List α} (h:∀ x∈l,f x=g x):l.flatMap f=l.flatMap g:=by
  induction l with
  | nil=>rfl
  | cons x l ih=>rw [List.flatMap_cons,List.flatMap_cons,h x List.mem_cons_self,ih fun y hy=>h y (List.mem_cons_of_mem _ hy)]
theorem mO {β:Type} {q:Nat} (hq:0<q) (F:Nat→Nat→List β):∀ p:Nat,((List.range (p*q)).flatMap fun k=>F (k / q) (k % q))=(List.range p).flatMap fun i=>(List.range q).flatMap fun j=>F i j
  | 0=>by simp
  | p+1=>by
    rw [Nat.succ_mul,List.range_add,List.flatMap_append,mO hq F p,List.range_succ,List.flatMap_append,List.flatMap_singleton,List.flatMap_map]
    congr 1
    refine NN fun j hj=>?_
    have hj:=List.mem_range.1 hj
    rw [Nat.mul_comm p q,Nat.mul_add_div hq,Nat.div_eq_of_lt hj,Nat.mul_add_mod,Nat.mod_eq_of_lt hj,Nat.add_zero]
def shT (a b:Int) (t:AD):AD:=⟨t.Row+a,t.Col+b,t.Val⟩
theorem AcZ {l h c d:Int} {T:List AD}:(LG l h c d T).map (shT l c)=T.filter fun t=>decide ((l≤t.Row∧t.Row<h)∧(c≤t.Col∧t.Col<d)):=by
  unfold LG
  rw [List.map_map]
  conv=>rhs; rw [←List.map_id (List.filter _ T)]
  refine List.map_congr_left fun t _=>?_
  cases t; simp only [Function.comp_apply,shT,id_eq,AD.mk.injEq]; exact ⟨by omega,by omega,trivial⟩
theorem sW {rows cols:Int} {T:List AD} (h:Canon rows cols T) {p q:Nat} (hp:WW rows p) (hq:WW cols q) :
    ((List.range p).flatMap fun i:Nat=>(List.range q).flatMap fun j:Nat=>(LG (CV rows p i) (CV rows p ((i:Int)+1)) (CV cols q j) (CV cols q ((j:Int)+1)) T).map (shT (CV rows p i) (CV cols q j))).Perm T:=by
  have e:∀ i:Nat,((List.range q).flatMap fun j:Nat=>(LG (CV rows p i) (CV rows p ((i:Int)+1)) (CV cols q j) (CV cols q ((j:Int)+1)) T).map (shT (CV rows p i) (CV cols q j))).Perm (T.filter fun t=>decide (CV rows p i≤t.Row∧t.Row<CV rows p ((i:Int)+1))):=by
    intro i
    have h1:=XP (f:=fun t:AD=>t.Col) (b:=fun j:Nat=>CV cols q j) (l:=T.filter fun t=>decide (CV rows p i≤t.Row∧t.Row<CV rows p ((i:Int)+1))) (fun i j hij=>XN (by omega)) (fun t ht=>by
      have:=(h.inn t (List.mem_filter.1 ht).1).2.2.1
      simp only [Int.natCast_zero]; rw [sV]; exact this) q
    refine List.Perm.trans (List.Perm.of_eq (NN fun j _=>?_)) (h1.trans (List.Perm.of_eq ?_))
    · rw [AcZ,List.filter_filter]
      refine List.filter_congr fun t _=>?_
      rw [Bool.eq_iff_iff]
      simp only [Bool.and_eq_true,decide_eq_true_eq,Int.natCast_add,Int.natCast_one]
      exact ⟨fun h=>⟨h.2,h.1⟩,fun h=>⟨h.2,h.1⟩⟩
    · refine List.filter_eq_self.2 fun t ht=>?_
      have:=(h.inn t (List.mem_filter.1 ht).1).2.2.2
      rw [YM hq]; simpa using this
  refine (cE fun i _=>e i).trans ?_
  have h1:=XP (f:=fun t:AD=>t.Row) (b:=fun j:Nat=>CV rows p j) (l:=T) (fun i j hij=>XN (by omega)) (fun t ht=>by
    have:=(h.inn t ht).1
    simp only [Int.natCast_zero]; rw [sV]; exact this) p
  refine h1.trans (List.Perm.of_eq ?_)
  refine List.filter_eq_self.2 fun t ht=>?_
  have:=(h.inn t ht).2.1
  rw [YM hp]; simpa using this
theorem yU {P:Prop} [Decidable P] {b:Bool} {Q:Bool→Prop} (hQ:Q (decide P)) (h:b=true↔P):Q b:=by
  have:decide P=b:=by rw [Bool.eq_iff_iff,decide_eq_true_iff]; exact h.symm
  rwa [this] at hQ
theorem UN {n k:Int} {Q:Bool→Prop} (hQ:Q (decide (WW n k))):SD n k Q:=by
  unfold SD OB
  refine AC (fun a=>AC (fun b=>AC (fun c=>yU hQ ?_) (fun c=>yU hQ ?_)) (fun b=>yU hQ ?_)) (fun a=>yU hQ ?_) <;> (unfold WW; simp; omega)
theorem IG {n k i:Int} {Q:Int→Prop} (hQ:Q (CV n k i)):FN n k i Q:=by
  unfold FN
  unfold CV at hQ
  refine UN (CO (fun h=>?_) (fun h=>?_))
  · rwa [if_neg (of_decide_eq_false h)] at hQ
  · have hm:=of_decide_eq_true h
    rw [if_pos hm] at hQ
    have e:(if k<(if 0 > i then 0 else i) then k else (if 0 > i then 0 else i))=sU i k:=by
      unfold sU; have:=hm.2; split <;> split <;> (try split) <;> (try split) <;> omega
    rw [e]
    have hb:=Ai5 hm.2 hm.1 (Ag2 (i:=i) hm.2.1)
    have hk:=hm.2
    refine ⟨by omega,?_⟩
    rw [AX (x:=sU i k*n) (by omega) (by omega),Int.tdiv_eq_ediv_of_nonneg hb.1]
    have h1:0≤sU i k*n / k:=Int.ediv_nonneg hb.1 (by omega)
    have h2:sU i k*n / k≤sU i k*n:=Int.ediv_le_self _ hb.1
    rwa [AX (by omega) (by omega)]
theorem Ai6 {n k i:Int} (h0:0≤i) (h:i<k):CV n k (AH (i+1))=CV n k (i+1):=by
  by_cases hm:WW n k
  · have:=hm.2
    rw [AX (by omega) (by omega)]
  · unfold CV; rw [if_neg hm,if_neg hm]
def TD (k:Int):Prop:=1≤k∧k≤8
instance (k:Int):Decidable (TD k):=by unfold TD; infer_instance
def mP (r c i j:Int):Prop:=(TD r∧TD c)∧(0≤i∧i<r)∧0≤j∧j<c
instance (r c i j:Int):Decidable (mP r c i j):=by unfold mP; infer_instance
theorem ZD {k:Int} {Q:Bool→Prop} (hQ:Q (decide (TD k))):SE k Q:=by
  unfold SE
  refine AC (fun a=>yU hQ ?_) (fun a=>yU hQ ?_) <;> (unfold TD; simp; omega)
theorem lH {r c i j:Int} {Q:Bool→Prop} (hQ:Q (decide (mP r c i j))):W4 r c i j Q:=by
  unfold W4
  refine ZD (AC (fun a=>ZD (AC (fun b=>AC (fun d=>AC (fun e=>AC (fun f=>yU hQ ?_) (fun f=>yU hQ ?_)) (fun e=>yU hQ ?_)) (fun d=>yU hQ ?_)) (fun b=>yU hQ ?_))) (fun a=>yU hQ ?_)) <;> (unfold mP; unfold TD at *; simp only [Bool.false_eq_true,decide_eq_true_eq,false_iff]; omega)
theorem WV {n k i:Int} {Q:Int×Int→Prop} (h0:0≤i) (h:i<k) (hQ:Q (CV n k i,CV n k (i+1))):NA n k i Q:=by
  unfold NA
  refine IG (IG ?_)
  rw [Ai6 h0 h]; exact hQ
def AgV (rows cols:Int) (T:List AD) (r c i j:Int):Rows:=if mP r c i j then oO rows cols T (CV rows r i,CV rows r (i+1)) (CV cols c j,CV cols c (j+1)) else BO 0 0 []
theorem Af1:fH zR=BO 0 0 []:=if_neg Ac8
theorem Ad0:oO 0 0 [] (0,0) (0,0)=BO 0 0 []:=by decide
theorem pH {Q:Rows→Prop} (hQ:Q (BO 0 0 [])):LP zR (0,0) (0,0) Q:=by
  refine WF Ac7 Af1 rS ?_
  rw [Ad0]; exact hQ
theorem pI {rows cols r c i j:Int} {T:List AD} {Q:Rows→Prop} (h:Canon rows cols T) (hQ:Q (AgV rows cols T r c i j)):RL (BO rows cols T) r c i j Q:=by
  unfold RL
  unfold AgV at hQ
  refine bT h.sml ?_
  rw [decide_eq_true h.right]
  refine AN rfl (lH (CO (fun hg=>?_) (fun hg=>?_)))
  · rw [if_neg (of_decide_eq_false hg)] at hQ
    exact pH hQ
  · have hg:=of_decide_eq_true hg
    rw [if_pos hg] at hQ
    exact WV hg.2.1.1 hg.2.1.2 (WV hg.2.2.1 hg.2.2.2 (WF h.sml (MA h) h hQ))
def AgW (a:Rows):Prop:=a.Start.length≤1000000000000∧a.Col.length≤1000000000000
theorem dY {a:Rows} {Q:Bool→Prop} (hl:AgW a) (hQ:Q (decide (WE a))):HP a Q:=by
  by_cases hv:a.Val.length=a.Col.length
  · exact bT ⟨hl.1,hl.2,by have:=hl.2; omega⟩ hQ
  · have hno:Q false:=by rwa [decide_eq_false (fun h=>hv h.vl)] at hQ
    unfold HP
    exact JE (CO (fun _=>hno) (fun _=>JE (CO (fun _=>hno) (fun _=>FR (fun _=>hno) (fun _=>FR (fun _=>hno) (fun h=>absurd (by omega) hv))))))
theorem cF {k:Int} {Q:Bool→Prop} (hQ:Q (decide (TD k))):OB k Q:=by
  unfold OB
  refine AC (fun a=>yU hQ ?_) (fun a=>yU hQ ?_) <;> (unfold TD; simp; omega)
theorem fK {c k:Nat} {Q:Int→Prop} (hc:TD c) (hk:k<8*c) (hQ:Q ((k / c:Nat):Int)):VF c k Q:=by
  unfold VF
  refine cF ?_
  rw [decide_eq_true hc]
  have hc':=hc
  unfold TD at hc'
  refine AN rfl (AC (fun h=>by omega) (fun _=>?_))
  rw [AX (x:=(c:Int)*8) (by omega) (by omega)]
  refine AC (fun h=>by omega) (fun _=>⟨by omega,?_⟩)
  rw [Int.tdiv_eq_ediv_of_nonneg (by omega),←Int.natCast_ediv]
  have hq:k / c≤k:=Nat.div_le_self _ _
  generalize k / c=q at hq hQ ⊢
  rwa [AX (by omega) (by omega)]
theorem sX {c k:Nat} {Q:Int→Prop} (hc:TD c) (hk:k<8*c) (hQ:Q ((k % c:Nat):Int)):XC c k Q:=by
  unfold XC
  have hc':=hc
  unfold TD at hc'
  refine fK hc hk (AC (fun h=>absurd h (Int.not_lt.2 (Int.natCast_nonneg _))) (fun _=>⟨by omega,?_⟩))
  rwa [Int.tmod_eq_emod_of_nonneg (by omega),←Int.natCast_emod]
end Go.Proofs.YtbohadngdkjljaaGreat
