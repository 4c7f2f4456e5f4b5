import Derived.Test.YtbohadngdkjljaaGreatStabC
namespace Go.Proofs.YtbohadngdkjljaaGreat
open Go Go.Fw
set_option linter.unusedVariables false
set_option linter.unusedSimpArgs false
def TV (c:AK):EX:=(c.Row,c.Col)
def sS (k:EX) (c:AK):Option AQ:=if TV c=k then some c.Val else none
def GI (r:Int) (k:EX):List AK→Option AQ
  | []=>none
  | c :: l=>gX r (sS k c) (GI r k l)
def sU (l:List AK):Prop:=∀ c∈l,PE c.Val
def StrC (l:List AK):Prop:=l.Pairwise gY
theorem jQ {k:EX} {c:AK} (h:PE c.Val):okO (sS k c):=fun w hw=>by unfold sS at hw; split at hw <;> cases hw; exact h
theorem AeZ {r:Int} {a b:Option AQ} (ha:okO a) (hb:okO b):okO (gX r a b):=by
  intro w hw
  cases a with
  | none=>exact hb w hw
  | some x=>cases b with
    | none=>exact ha w hw
    | some y=>cases hw; exact SX (ha x rfl) (hb y rfl)
theorem YK {r:Int} {k:EX}:∀ {l:List AK},sU l→okO (GI r k l)
  | [],_=>fun w hw=>by cases hw
  | c :: l,h=>AeZ (jQ (h c (by simp))) (YK fun d hd=>h d (List.mem_cons_of_mem _ hd))
theorem OU {r:Int} {k:EX}:∀ {xs ys:List AK},sU xs→sU ys→GI r k (xs++ys)=gX r (GI r k xs) (GI r k ys)
  | [],ys,_,_=>rfl
  | c :: l,ys,h,h'=>by
    have hl:sU l:=fun d hd=>h d (List.mem_cons_of_mem _ hd)
    rw [List.cons_append,GI,GI,OU hl h',VR (jQ (h c (by simp))) (YK hl) (YK h')]
theorem sV {xs ys:List AK} (h:xs.Perm ys) (ho:sU xs):sU ys:=fun c hc=>ho c (h.mem_iff.2 hc)
theorem AcV {r:Int} {k:EX} {xs ys:List AK} (h:xs.Perm ys) (ho:sU xs):GI r k xs=GI r k ys:=by
  induction h with
  | nil=>rfl
  | cons c h ih=>rw [GI,GI,ih fun d hd=>ho d (List.mem_cons_of_mem _ hd)]
  | swap a b l=>
    have h1:=jQ (k:=k) (ho a (by simp))
    have h2:=jQ (k:=k) (ho b (by simp))
    have h3:=YK (r:=r) (k:=k) (l:=l) fun d hd=>ho d (by simp [hd])
    rw [GI,GI,GI,GI,←VR h2 h1 h3,←VR h1 h2 h3,AcK h1 h2]
  | trans h1 h2 ih1 ih2=>exact (ih1 ho).trans (ih2 (sV h1 ho))
theorem sW {r:Int} {k:EX}:∀ {l:List AK},(∀ c∈l,TV c≠k)→GI r k l=none
  | [],_=>rfl
  | c :: l,h=>by
    rw [GI,sW fun d hd=>h d (List.mem_cons_of_mem _ hd)]
    unfold sS
    rw [if_neg (h c (by simp))]; rfl
theorem wG {a b:AK} (h:gY a b):TV a≠TV b:=fun e=>by unfold gY at h; unfold TV at e; rw [e] at h; exact GH _ h
theorem pK {r:Int}:∀ {l:List AK},StrC l→∀ {c:AK},c∈l↔GI r (TV c) l=some c.Val
  | [],_,c=>by simp [GI]
  | d :: l,h,c=>by
    unfold StrC at h
    rw [List.pairwise_cons] at h
    rw [GI,List.mem_cons]
    by_cases e:TV d=TV c
    · rw [sW (fun x hx=>by rw [←e]; exact (wG (h.1 x hx)).symm)]
      unfold sS
      rw [if_pos e,NL]
      constructor
      · rintro (rfl | hc)
        · rfl
        · exact absurd e (wG (h.1 c hc))
      · intro hv
        left
        have hv':=Option.some.inj hv
        clear hv
        unfold TV at e
        cases c; cases d
        simp only [Prod.mk.injEq] at e hv'
        obtain ⟨rfl,rfl⟩:=e
        rw [hv']
    · unfold sS
      rw [if_neg e]
      show _↔GI r (TV c) l=some c.Val
      rw [←pK h.2]
      constructor
      · rintro (rfl | hc)
        · exact absurd rfl e
        · exact hc
      · exact .inr
theorem StrC.nodup {l:List AK} (h:StrC l):l.Nodup:=by
  rw [List.nodup_iff_pairwise_ne]
  exact List.Pairwise.imp (R:=gY) (fun {a b} hab (e:a=b)=>wG hab (by rw [e])) h
theorem AcW {r:Int} {s t:List AK} (hs:StrC s) (ht:StrC t) (h:∀ k,GI r k s=GI r k t):s=t:=
  dR ((List.perm_ext_iff_of_nodup hs.nodup ht.nodup).2 fun c=>by rw [pK (r:=r) hs,pK (r:=r) ht,h]) hs ht fun a b _ _ h1 h2=>absurd (ML h1 h2) (GH _)
theorem Af0 {l:List AK} (h:∀ (j:Nat) (h1:j+1<l.length),gY l[j] l[j+1]):StrC l:=by
  unfold StrC
  rw [List.pairwise_iff_getElem]
  intro i j hi hj hij
  obtain ⟨d,rfl⟩:∃ d,j=i+1+d:=⟨j - i - 1,by omega⟩
  clear hij
  induction d with
  | zero=>exact h i hj
  | succ d ih=>exact ML (ih (by omega)) (h (i+1+d) hj)
theorem lI {l:List AK} {Q:Bool→Prop} (hl:l.length≤1000000) (h1:StrC l→Q true) (h2:¬StrC l→Q false):KD l Q:=by
  unfold KD
  refine DL l.length (by omega) (fun i=>∀ (j:Nat) (h1:j+1<l.length),j+1<i→gY l[j] l[j+1]) (fun j _ h=>by omega) (fun i next hi hm hn=>?_) (fun next hm=>?_)
  · refine AB (fun _=>AB (fun hp=>?_) (fun hp=>hn fun j _ h=>by omega)) (fun h=>by omega)
    obtain ⟨i,rfl⟩:∃ q,i=q+1:=⟨i - 1,by omega⟩
    rw [dY (by omega) (by omega),Nat.add_sub_cancel]
    refine BI (by omega) (BI hi (UZ (AB (fun h0=>h2 fun hs=>?_) (fun h0=>hn fun j hj h=>?_))))
    · have:=(UM l[i] l[i+1]).2 (List.pairwise_iff_getElem.1 hs i (i+1) (by omega) hi (by omega))
      omega
    · by_cases e:j=i
      · subst e; exact (UM l[j] l[j+1]).1 (by omega)
      · exact hm j hj (by omega)
  · exact AB (fun h=>by omega) (fun _=>h1 (Af0 fun j hj=>hm j hj hj))
theorem sX {x y:AK}:uV (OT x.Row y.Row) (OT x.Col y.Col)=0↔TV x=TV y:=by
  unfold uV OT TV
  simp only [Prod.mk.injEq]
  split <;> split <;> (try split) <;> (try split) <;> omega
theorem wH {L:List (List AK)} {Q:List AK→Prop} (hl:L.length≤1000000) (hf:L.flatten.length≤100000000) (hQ:Q L.flatten):DJ L Q:=by
  unfold DJ EZ
  have tk:∀ {i:Nat} (h:i<L.length),(L.take (i+1)).flatten=(L.take i).flatten++L[i]:=fun h=>by rw [List.take_succ_eq_append_getElem h,List.flatten_append]; simp
  have tl:∀ i:Nat,(L.take i).flatten.length≤L.flatten.length:=fun i=>by
    conv=>rhs; rw [←List.take_append_drop i L,List.flatten_append,List.length_append]
    omega
  refine AV (fun (s:Int) i=>(s,i)) 0 L.length (by omega) (fun i s=>s=((L.take i).flatten.length:Nat)) (by omega) rfl (fun i s next _ hi hm hn=>?_) (fun s next hm=>?_)
  · subst hm
    have h1:=tl (i+1)
    have h2:=tk hi
    rw [h2,List.length_append] at h1
    refine AB (fun _=>BI hi ?_) (fun h=>by omega)
    rw [cI (by omega) (by omega)]
    exact AB (fun h=>by omega) (fun _=>hn _ (by rw [h2,List.length_append]))
  · subst hm
    refine AB (fun h=>by omega) (fun _=>?_)
    rw [List.take_length,AY (x:=0 - 0) (by omega) (by omega),AY (x:=((L.flatten.length:Nat):Int) - (0 - 0)) (by omega) (by omega)]
    have hk:BB (fun (s:(List AK)×Int) (next271:((List AK)×Int)→Prop)=>match s with | (s266,s270)=>AP (decide (s270<(L.length:Int))) (BD L s270 fun x278=>HI 32 s266 x278 fun _=>next271 ((s266++x278),AH (s270+1))) (Q s266)) ([],0):=by
      refine AV (fun (s:List AK) i=>(s,i)) 0 L.length (by omega) (fun i s=>s=(L.take i).flatten) (by omega) rfl (fun i s next _ hi hm hn=>?_) (fun s next hm=>?_)
      · subst hm
        have h1:=tl (i+1)
        have h2:=tk hi
        rw [h2,List.length_append] at h1
        refine AB (fun _=>BI hi (BE (by omega) (hn _ h2.symm))) (fun h=>by omega)
      · subst hm
        refine AB (fun h=>by omega) (fun _=>?_)
        rw [List.take_length]; exact hQ
    exact AB (fun h=>by omega) (fun _=>AB (fun h=>⟨by omega,by omega,hk⟩) (fun h=>hk))
theorem lJ {r:Int} {L:List (List AK)} {Q:List AK×Int→Prop} (hl:L.length≤1000000) (hf:L.flatten.length≤1000000) (hok:sU L.flatten) (h8:¬(1≤r∧r≤5)→Q ([],8)) (h6:(1≤r∧r≤5)→¬(∀ l∈L,StrC l)→Q ([],6))
    (h0:(1≤r∧r≤5)→(∀ l∈L,StrC l)→∀ s,StrC s→sU s→s.length≤L.flatten.length→(∀ k,GI r k s=GI r k L.flatten)→Q (s,0)):OJ r L Q:=by
  unfold OJ
  refine KG (CQ (fun h=>h8 (of_decide_eq_false h)) (fun h=>?_))
  have hr:=of_decide_eq_true h
  unfold DC DN OI
  have elen:∀ l∈L,l.length≤1000000:=fun l hm=>by
    have:=(List.sublist_flatten_of_mem hm).length_le
    omega
  refine DL L.length (by omega) (fun i=>∀ (q:Nat) (hq:q<L.length),q<i→StrC L[q]) (fun q _ h=>by omega) (fun i next hi hm hn=>?_) (fun next hm=>?_)
  · refine AB (fun _=>BI hi (lI (elen _ (List.getElem_mem hi)) (fun hs=>AN rfl (hn fun q hq hqi=>?_)) (fun hs=>AZ rfl (AZ (decide_eq_true (by omega)) (h6 hr fun ha=>hs (ha _ (List.getElem_mem hi))))))) (fun h=>by omega)
    by_cases e:q=i
    · subst e; exact hs
    · exact hm q hq (by omega)
  refine AB (fun h=>by omega) (fun _=>AN (by decide) (wH hl (by omega) (AcU (by omega) fun t hp hs=>?_)))
  have hall:∀ l∈L,StrC l:=fun l hm'=>by obtain ⟨q,hq,rfl⟩:=List.getElem_of_mem hm'; exact hm q hq hq
  have hot:sU t:=sV hp.symm hok
  have htl:=hp.length_eq
  have hfin:=h0 hr hall
  refine AV (fun (s:List AK) i=>(s,i)) 0 t.length (by omega) (fun i s=>StrC s∧sU s∧s.length≤i∧(∀ k,GI r k s=GI r k (t.take i))∧(s=[]∧i=0∨∃ p y,s=p++[y]∧0<i∧TV y=TV (gC t (i - 1)))) (by omega) ⟨.nil,(fun c hc=>by cases hc),Nat.le_refl _,fun _=>rfl,.inl ⟨rfl,rfl⟩⟩ (fun i s next _ hi hm' hn=>?_) (fun s next hm'=>?_)
  · obtain ⟨m1,m2,m3,m4,m5⟩:=hm'
    have hx:PE t[i].Val:=hot _ (List.getElem_mem hi)
    have hok1:sU [t[i]]:=fun c hc=>by rw [List.mem_singleton] at hc; subst hc; exact hx
    have hoti:sU (t.take i):=fun c hc=>hot c (List.mem_of_mem_take hc)
    have htk:∀ k,GI r k (t.take (i+1))=gX r (GI r k s) (sS k t[i]):=fun k=>by
      rw [List.take_succ_eq_append_getElem hi,OU hoti hok1,←m4 k,GI,GI,NL]
    have hgi:=pH hi
    refine AB (fun _=>BI hi ?_) (fun h=>by omega)
    have app:StrC (s++[t[i]])→HI 32 s [t[i]] fun _=>next (s++[t[i]],AH ((i:Int)+1)):=fun hstr=>BE (by simp; omega) (hn _ ⟨hstr,fun c hc=>by
        rcases List.mem_append.1 hc with h | h
        · exact m2 c h
        · exact hok1 c h,by simp; omega,fun k=>by rw [htk,OU m2 hok1,GI,GI,NL],.inr ⟨s,t[i],rfl,by omega,by rw [Nat.add_sub_cancel,←hgi]⟩⟩)
    unfold FY
    rcases m5 with ⟨rfl,rfl⟩ | ⟨p,y,rfl,i0,hy⟩
    · exact AB (fun h=>by simp at h) (fun _=>AN rfl (app (by simp [StrC])))
    · have m3':p.length+1≤i:=by simpa using m3
      have hlast:(AH ((((p++[y]).length:Nat):Int) - 1))=((p.length:Nat):Int):=by
        rw [List.length_append,List.length_singleton,dY (by omega) (by omega),Nat.add_sub_cancel]
      rw [hlast]
      have hget:(p++[y])[p.length]? = some y:=by simp
      refine AB (fun _=>AO (x:=y) (by omega) hget (UZ (CO (fun he=>?_) (fun he=>?_)))) (fun h=>by simp at h)
      · have hkey:=sX.1 he
        have hyo:PE y.Val:=m2 y (by simp)
        refine AO (x:=y) (by omega) hget (PV hyo hx (AO (x:=y) (by omega) hget ?_))
        rw [show (p++[y]).set ((p.length:Nat):Int).toNat (⟨y.Row,y.Col,GG r y.Val t[i].Val⟩:AK)=p++[⟨y.Row,y.Col,GG r y.Val t[i].Val⟩] by simp]
        have hp2:sU p:=fun c hc=>m2 c (by simp [hc])
        have hy1:sU [y]:=fun c hc=>by rw [List.mem_singleton] at hc; subst hc; exact hyo
        have hy2:sU [⟨y.Row,y.Col,GG r y.Val t[i].Val⟩]:=fun c hc=>by rw [List.mem_singleton] at hc; subst hc; exact SX hyo hx
        refine hn _ ⟨?_,fun c hc=>?_,by simp at m3 ⊢; omega,fun k=>?_,.inr ⟨p,_,rfl,by omega,?_⟩⟩
        · unfold StrC at m1 ⊢
          rw [List.pairwise_append] at m1 ⊢
          refine ⟨m1.1,by simp,fun a ha b hb=>?_⟩
          rw [List.mem_singleton] at hb; subst hb
          exact m1.2.2 a ha y (by simp)
        · rcases List.mem_append.1 hc with h | h
          · exact hp2 c h
          · exact hy2 c h
        · rw [htk,OU hp2 hy2,OU hp2 hy1,VR (YK hp2) (YK hy1) (jQ hx)]
          congr 1
          rw [GI,GI,NL,GI,GI,NL]
          unfold sS
          by_cases ek:TV y=k
          · rw [if_pos (show TV ⟨y.Row,y.Col,GG r y.Val t[i].Val⟩=k from ek),if_pos ek,if_pos (hkey.symm.trans ek)]; rfl
          · rw [if_neg (show ¬TV ⟨y.Row,y.Col,GG r y.Val t[i].Val⟩=k from ek),if_neg ek,if_neg (fun h=>ek (hkey.trans h))]; rfl
        · rw [Nat.add_sub_cancel,←hgi]; exact hkey
      · have hne:TV y≠TV t[i]:=fun h=>he (sX.2 h)
        refine app ?_
        have hle:jP (gC t (i - 1)) (gC t i):=hs _ _ (by omega) (by omega) (by omega)
        rw [←hgi] at hle
        have hyx:gY y t[i]:=oK (a:=TV t[i]) (b:=TV y) (by rw [hy]; exact hle) fun e=>hne e.symm
        unfold StrC at m1 ⊢
        rw [List.pairwise_append]
        refine ⟨m1,by simp,fun a ha b hb=>?_⟩
        rw [List.mem_singleton] at hb; subst hb
        rcases List.mem_append.1 ha with h | h
        · rw [List.pairwise_append] at m1
          exact ML (m1.2.2 a h y (by simp)) hyx
        · rw [List.mem_singleton] at h; subst h; exact hyx
  · obtain ⟨m1,m2,m3,m4,m5⟩:=hm'
    refine AB (fun h=>by omega) (fun _=>hfin s m1 m2 (by omega) fun k=>?_)
    rw [m4,List.take_length]
    exact AcV hp hot
theorem FW {rows cols:Int} {T:List AD} (h:Canon rows cols T) {l u c d:Int} (l0:0≤l) (l1:l≤u) (l2:u≤rows) (h0:0≤c) (h1:c≤d) (h2:d≤cols) :
    oS rows cols T (l,u) (c,d)=BO (u - l) (d - c) (LH l u c d T)∧Canon (u - l) (d - c) (LH l u c d T)∧∀ i j:Int,0≤i→i<u - l→0≤j→j<d - c→WW (cF (LH l u c d T) i) j=WW (cF T (i+l)) (j+c):=by
  have e1:lE l=l:=by unfold lE; split <;> omega
  have e2:qL u rows=u:=by unfold qL; split <;> omega
  have e3:ext l u rows=u - l:=by unfold ext; rw [e1,e2]; split <;> omega
  have e4:lE c=c:=by unfold lE; split <;> omega
  have e5:qL d cols=d:=by unfold qL; split <;> omega
  have e6:ext c d cols=d - c:=by unfold ext; rw [e4,e5]; split <;> omega
  have hc:=mM h (l,u) (c,d)
  simp only [e1,e2,e3,e4,e5,e6] at hc
  refine ⟨by unfold oS; simp only [e1,e2,e3,e4,e5,e6],hc,fun i j hi0 hi1 hj0 hj1=>AeW fun a=>?_⟩
  rw [TC hc hi0,TC h (by omega),yN]
  exact ⟨fun hh=>hh.1,fun hh=>⟨hh,⟨hi0,by dsimp only; omega⟩,hj0,by dsimp only; omega⟩⟩
theorem sY {l u c d:Int} {T:List AD} (h:∀ t∈T,FS t.Val):∀ t∈LH l u c d T,FS t.Val:=fun t ht=>by
  have:=h _ ((yN t).1 ht).1
  exact this
theorem YL {r:Int} {k:EX} {A B:List AD} {t:AD} {M:List AD}:GI r k (FC r A B (t :: M))=gX r (if (t.Row,t.Col)=k then MM r A B t.Row t.Col else none) (GI r k (FC r A B M)):=by
  unfold FC
  rw [List.filterMap_cons]
  unfold HV
  cases hw:MM r A B t.Row t.Col with
  | none=>simp [gX]
  | some w=>
    simp only [Option.map_some,GI]
    rfl
theorem NM {r:Int} {k:EX} {A B:List AD}:∀ {M:List AD},(∀ t∈M,(t.Row,t.Col)≠k)→GI r k (FC r A B M)=none
  | [],_=>rfl
  | t :: M,h=>by rw [YL,if_neg (h t (by simp)),NM fun u hu=>h u (List.mem_cons_of_mem _ hu)]; rfl
theorem mS {r:Int} {k:EX} {A B A1 B1 A2 B2:List AD}:∀ {M:List AD},Srt M→(∀ t∈M,MM r A B t.Row t.Col=gX r (MM r A1 B1 t.Row t.Col) (MM r A2 B2 t.Row t.Col)) →
    GI r k (FC r A B M)=gX r (GI r k (FC r A1 B1 M)) (GI r k (FC r A2 B2 M))
  | [],_,_=>rfl
  | t :: M,hs,h=>by
    unfold Srt at hs
    rw [List.pairwise_cons] at hs
    rw [YL,YL,YL]
    by_cases e:(t.Row,t.Col)=k
    · have hn:∀ u∈M,(u.Row,u.Col)≠k:=fun u hu e'=>by
        have:=hs.1 u hu
        unfold key at this
        rw [e,e'] at this
        exact GH _ this
      rw [if_pos e,if_pos e,if_pos e,NM hn,NM hn,NM hn,NL,NL,NL]
      exact h t (by simp)
    · rw [if_neg e,if_neg e,if_neg e]
      exact mS hs.2 fun u hu=>h u (List.mem_cons_of_mem _ hu)
theorem eC {r:Int} {A B M:List AD} {rm cm:Int} (hM:Canon rm cm M):StrC (FC r A B M)∧sU (FC r A B M)∧(FC r A B M).length≤65536:=by
  have h:=gZ (r:=r) (ra:=0) (ca:=0) (rb:=0) (cb:=0) (A:=A) (B:=B) hM
  exact ⟨h.inc,h.ok,h.len⟩
def WY (n k:Int):Prop:=(0≤n∧n≤4096)∧(1≤k∧k≤8)
instance (n k:Int):Decidable (WY n k):=by unfold WY; infer_instance
def sZ (i k:Int):Int:=if i<0 then 0 else if k<i then k else i
def CV (n k i:Int):Int:=if WY n k then sZ i k*n / k else 0
theorem Ag2 {i k:Int} (h:1≤k):0≤sZ i k∧sZ i k≤k:=by unfold sZ; split <;> (try split) <;> omega
theorem AcX {i j k:Int} (h:i≤j) (hk:1≤k):sZ i k≤sZ j k:=by unfold sZ; split <;> split <;> (try split) <;> (try split) <;> omega
theorem Ai9 {i k n:Int} (hk:1≤k∧k≤8) (hn:0≤n∧n≤4096) (hi:0≤i∧i≤k):0≤i*n∧i*n≤32768:=by
  refine ⟨Int.mul_nonneg hi.1 hn.1,?_⟩
  have:=Int.mul_le_mul (show i≤8 by omega) hn.2 hn.1 (by omega)
  omega
theorem XO {n k i j:Int} (h:i≤j):CV n k i≤CV n k j:=by
  unfold CV
  by_cases hm:WY n k
  · rw [if_pos hm,if_pos hm]
    exact Int.ediv_le_ediv (by have:=hm.2; omega) (Int.mul_le_mul_of_nonneg_right (AcX h hm.2.1) hm.1.1)
  · rw [if_neg hm,if_neg hm]; exact Int.le_refl _
theorem tA (n k:Int):CV n k 0=0:=by
  unfold CV sZ; split
  · rename_i hm
    have h1:=hm.2.1
    rw [if_neg (by omega),if_neg (by omega),Int.zero_mul,Int.zero_ediv]
  · rfl
theorem YM {n k:Int} (h:WY n k):CV n k k=n:=by
  unfold CV sZ
  have h1:=h.2.1
  rw [if_pos h,if_neg (by omega),if_neg (by omega),Int.mul_comm,Int.mul_ediv_cancel _ (by omega)]
theorem mT {n k i:Int}:0≤CV n k i∧(0≤n→CV n k i≤n):=by
  by_cases hm:WY n k
  · have hc:=Ag2 (i:=i) hm.2.1
    refine ⟨?_,fun _=>?_⟩
    · unfold CV; rw [if_pos hm]; exact Int.ediv_nonneg (Int.mul_nonneg hc.1 hm.1.1) (by have:=hm.2; omega)
    · by_cases hi:i≤k
      · have:=XO (n:=n) hi (k:=k); rwa [YM hm] at this
      · have h1:=hm.2.1
        have e:CV n k i=n:=by
          unfold CV sZ
          rw [if_pos hm,if_neg (by omega),if_pos (by omega),Int.mul_comm,Int.mul_ediv_cancel _ (by omega)]
        omega
  · unfold CV; rw [if_neg hm]; exact ⟨by omega,fun h=>h⟩
theorem XP {α:Type} {p q r:α→Bool}:∀ {l:List α},(∀ x∈l,r x=(p x || q x))→(∀ x∈l,¬(p x=true∧q x=true))→(l.filter p++l.filter q).Perm (l.filter r)
  | [],_,_=>by simp
  | x :: l,h,h'=>by
    have ih:=XP (fun y hy=>h y (List.mem_cons_of_mem _ hy)) (fun y hy=>h' y (List.mem_cons_of_mem _ hy))
    have hx:=h x List.mem_cons_self
    have hx':=h' x List.mem_cons_self
    cases hp:p x with
    | true=>
      cases hq:q x with
      | true=>exact absurd ⟨hp,hq⟩ hx'
      | false=>
        rw [List.filter_cons_of_pos hp,List.filter_cons_of_neg (by simp [hq]),List.filter_cons_of_pos (by rw [hx,hp]; rfl)]
        exact ih.cons x
    | false=>
      cases hq:q x with
      | true=>
        rw [List.filter_cons_of_neg (by simp [hp]),List.filter_cons_of_pos hq,List.filter_cons_of_pos (by rw [hx,hp,hq]; rfl)]
        exact List.perm_middle.trans (ih.cons x)
      | false=>
        rw [List.filter_cons_of_neg (by simp [hp]),List.filter_cons_of_neg (by simp [hq]),List.filter_cons_of_neg (by rw [hx,hp,hq]; simp)]
        exact ih
theorem XQ {α:Type} {f:α→Int} {b:Nat→Int} {l:List α} (hm:∀ i j,i≤j→b i≤b j) (h0:∀ x∈l,b 0≤f x):∀ m:Nat,
    ((List.range m).flatMap fun i=>l.filter fun x=>decide (b i≤f x∧f x<b (i+1))).Perm (l.filter fun x=>decide (f x<b m))
  | 0=>by
    rw [List.filter_eq_nil_iff.2 (fun x hx=>by have:=h0 x hx; simp only [decide_eq_true_eq]; omega)]; simp
  | m+1=>by
    rw [List.range_succ,List.flatMap_append,List.flatMap_singleton]
    refine ((XQ hm h0 m).append_right _).trans (XP (fun x hx=>?_) (fun x hx=>?_))
    · have:=hm m (m+1) (by omega)
      rw [Bool.eq_iff_iff]
      simp only [Bool.or_eq_true,decide_eq_true_eq]; omega
    · simp only [decide_eq_true_eq]; omega
theorem cJ {α β:Type} {f g:α→List β}:∀ {l:List α},(∀ x∈l,(f x).Perm (g x))→(l.flatMap f).Perm (l.flatMap g)
  | [],_=>by simp
  | x :: l,h=>by
    rw [List.flatMap_cons,List.flatMap_cons]
    exact (h x List.mem_cons_self).append (cJ fun y hy=>h y (List.mem_cons_of_mem _ hy))
theorem NN {α β:Type} {f g:α→List β} {l:List α} (h:∀ x∈l,f x=g x):l.flatMap f=l.flatMap g:=by
  induction l with
  | nil=>rfl
  | cons x l ih=>rw [List.flatMap_cons,List.flatMap_cons,h x List.mem_cons_self,ih fun y hy=>h y (List.mem_cons_of_mem _ hy)]
theorem mU {β:Type} {q:Nat} (hq:0<q) (F:Nat→Nat→List β):∀ p:Nat,((List.range (p*q)).flatMap fun k=>F (k / q) (k % q))=(List.range p).flatMap fun i=>(List.range q).flatMap fun j=>F i j
  | 0=>by simp
  | p+1=>by
    rw [Nat.succ_mul,List.range_add,List.flatMap_append,mU hq F p,List.range_succ,List.flatMap_append,List.flatMap_singleton,List.flatMap_map]
    congr 1
    refine NN fun j hj=>?_
    have hj:=List.mem_range.1 hj
    rw [Nat.mul_comm p q,Nat.mul_add_div hq,Nat.div_eq_of_lt hj,Nat.mul_add_mod,Nat.mod_eq_of_lt hj,Nat.add_zero]
def shT (a b:Int) (t:AD):AD:=⟨t.Row+a,t.Col+b,t.Val⟩
theorem AcY {l h c d:Int} {T:List AD}:(LH l h c d T).map (shT l c)=T.filter fun t=>decide ((l≤t.Row∧t.Row<h)∧(c≤t.Col∧t.Col<d)):=by
  unfold LH
  rw [List.map_map]
  conv=>rhs; rw [←List.map_id (List.filter _ T)]
  refine List.map_congr_left fun t _=>?_
  cases t; simp only [Function.comp_apply,shT,id_eq,AD.mk.injEq]; exact ⟨by omega,by omega,trivial⟩
theorem tD {rows cols:Int} {T:List AD} (h:Canon rows cols T) {p q:Nat} (hp:WY rows p) (hq:WY cols q) :
    ((List.range p).flatMap fun i:Nat=>(List.range q).flatMap fun j:Nat=>(LH (CV rows p i) (CV rows p ((i:Int)+1)) (CV cols q j) (CV cols q ((j:Int)+1)) T).map (shT (CV rows p i) (CV cols q j))).Perm T:=by
  have e:∀ i:Nat,((List.range q).flatMap fun j:Nat=>(LH (CV rows p i) (CV rows p ((i:Int)+1)) (CV cols q j) (CV cols q ((j:Int)+1)) T).map (shT (CV rows p i) (CV cols q j))).Perm (T.filter fun t=>decide (CV rows p i≤t.Row∧t.Row<CV rows p ((i:Int)+1))):=by
    intro i
    have h1:=XQ (f:=fun t:AD=>t.Col) (b:=fun j:Nat=>CV cols q j) (l:=T.filter fun t=>decide (CV rows p i≤t.Row∧t.Row<CV rows p ((i:Int)+1))) (fun i j hij=>XO (by omega)) (fun t ht=>by
      have:=(h.inn t (List.mem_filter.1 ht).1).2.2.1
      simp only [Int.natCast_zero]; rw [tA]; exact this) q
    refine List.Perm.trans (List.Perm.of_eq (NN fun j _=>?_)) (h1.trans (List.Perm.of_eq ?_))
    · rw [AcY,List.filter_filter]
      refine List.filter_congr fun t _=>?_
      rw [Bool.eq_iff_iff]
      simp only [Bool.and_eq_true,decide_eq_true_eq,Int.natCast_add,Int.natCast_one]
      exact ⟨fun h=>⟨h.2,h.1⟩,fun h=>⟨h.2,h.1⟩⟩
    · refine List.filter_eq_self.2 fun t ht=>?_
      have:=(h.inn t (List.mem_filter.1 ht).1).2.2.2
      rw [YM hq]; simpa using this
  refine (cJ fun i _=>e i).trans ?_
  have h1:=XQ (f:=fun t:AD=>t.Row) (b:=fun j:Nat=>CV rows p j) (l:=T) (fun i j hij=>XO (by omega)) (fun t ht=>by
    have:=(h.inn t ht).1
    simp only [Int.natCast_zero]; rw [tA]; exact this) p
  refine h1.trans (List.Perm.of_eq ?_)
  refine List.filter_eq_self.2 fun t ht=>?_
  have:=(h.inn t ht).2.1
  rw [YM hp]; simpa using this
theorem yX {P:Prop} [Decidable P] {b:Bool} {Q:Bool→Prop} (hQ:Q (decide P)) (h:b=true↔P):Q b:=by
  have:decide P=b:=by rw [Bool.eq_iff_iff,decide_eq_true_iff]; exact h.symm
  rwa [this] at hQ
theorem UO {n k:Int} {Q:Bool→Prop} (hQ:Q (decide (WY n k))):SF n k Q:=by
  unfold SF OG
  refine AB (fun a=>AB (fun b=>AB (fun c=>yX hQ ?_) (fun c=>yX hQ ?_)) (fun b=>yX hQ ?_)) (fun a=>yX hQ ?_) <;> (unfold WY; simp; omega)
theorem II {n k i:Int} {Q:Int→Prop} (hQ:Q (CV n k i)):FQ n k i Q:=by
  unfold FQ
  unfold CV at hQ
  refine UO (CQ (fun h=>?_) (fun h=>?_))
  · rwa [if_neg (of_decide_eq_false h)] at hQ
  · have hm:=of_decide_eq_true h
    rw [if_pos hm] at hQ
    have e:(if k<(if 0 > i then 0 else i) then k else (if 0 > i then 0 else i))=sZ i k:=by
      unfold sZ; have:=hm.2; split <;> split <;> (try split) <;> (try split) <;> omega
    rw [e]
    have hb:=Ai9 hm.2 hm.1 (Ag2 (i:=i) hm.2.1)
    have hk:=hm.2
    refine ⟨by omega,?_⟩
    rw [AY (x:=sZ i k*n) (by omega) (by omega),Int.tdiv_eq_ediv_of_nonneg hb.1]
    have h1:0≤sZ i k*n / k:=Int.ediv_nonneg hb.1 (by omega)
    have h2:sZ i k*n / k≤sZ i k*n:=Int.ediv_le_self _ hb.1
    rwa [AY (by omega) (by omega)]
theorem AiA {n k i:Int} (h0:0≤i) (h:i<k):CV n k (AH (i+1))=CV n k (i+1):=by
  by_cases hm:WY n k
  · have:=hm.2
    rw [AY (by omega) (by omega)]
  · unfold CV; rw [if_neg hm,if_neg hm]
def TE (k:Int):Prop:=1≤k∧k≤8
instance (k:Int):Decidable (TE k):=by unfold TE; infer_instance
def mV (r c i j:Int):Prop:=(TE r∧TE c)∧(0≤i∧i<r)∧0≤j∧j<c
instance (r c i j:Int):Decidable (mV r c i j):=by unfold mV; infer_instance
theorem ZE {k:Int} {Q:Bool→Prop} (hQ:Q (decide (TE k))):SG k Q:=by
  unfold SG
  refine AB (fun a=>yX hQ ?_) (fun a=>yX hQ ?_) <;> (unfold TE; simp; omega)
theorem lK {r c i j:Int} {Q:Bool→Prop} (hQ:Q (decide (mV r c i j))):W3 r c i j Q:=by
  unfold W3
  refine ZE (AB (fun a=>ZE (AB (fun b=>AB (fun d=>AB (fun e=>AB (fun f=>yX hQ ?_) (fun f=>yX hQ ?_)) (fun e=>yX hQ ?_)) (fun d=>yX hQ ?_)) (fun b=>yX hQ ?_))) (fun a=>yX hQ ?_)) <;> (unfold mV; unfold TE at *; simp only [Bool.false_eq_true,decide_eq_true_eq,false_iff]; omega)
theorem WX {n k i:Int} {Q:Int×Int→Prop} (h0:0≤i) (h:i<k) (hQ:Q (CV n k i,CV n k (i+1))):NA n k i Q:=by
  unfold NA
  refine II (II ?_)
  rw [AiA h0 h]; exact hQ
def AgV (rows cols:Int) (T:List AD) (r c i j:Int):Rows:=if mV r c i j then oS rows cols T (CV rows r i,CV rows r (i+1)) (CV cols c j,CV cols c (j+1)) else BO 0 0 []
theorem Af1:fM zR=BO 0 0 []:=if_neg Ac7
theorem AcZ:oS 0 0 [] (0,0) (0,0)=BO 0 0 []:=by decide
theorem pL {Q:Rows→Prop} (hQ:Q (BO 0 0 [])):LQ zR (0,0) (0,0) Q:=by
  refine WG Ac6 Af1 rX ?_
  rw [AcZ]; exact hQ
theorem pM {rows cols r c i j:Int} {T:List AD} {Q:Rows→Prop} (h:Canon rows cols T) (hQ:Q (AgV rows cols T r c i j)):RN (BO rows cols T) r c i j Q:=by
  unfold RN
  unfold AgV at hQ
  refine bY h.sml ?_
  rw [decide_eq_true h.right]
  refine AN rfl (lK (CQ (fun hg=>?_) (fun hg=>?_)))
  · rw [if_neg (of_decide_eq_false hg)] at hQ
    exact pL hQ
  · have hg:=of_decide_eq_true hg
    rw [if_pos hg] at hQ
    exact WX hg.2.1.1 hg.2.1.2 (WX hg.2.2.1 hg.2.2.2 (WG h.sml (MB h) h hQ))
def AgW (a:Rows):Prop:=a.Start.length≤1000000000000∧a.Col.length≤1000000000000
theorem eD {a:Rows} {Q:Bool→Prop} (hl:AgW a) (hQ:Q (decide (WF a))):HQ a Q:=by
  by_cases hv:a.Val.length=a.Col.length
  · exact bY ⟨hl.1,hl.2,by have:=hl.2; omega⟩ hQ
  · have hno:Q false:=by rwa [decide_eq_false (fun h=>hv h.vl)] at hQ
    unfold HQ
    exact JE (CQ (fun _=>hno) (fun _=>JE (CQ (fun _=>hno) (fun _=>FJ (fun _=>hno) (fun _=>FJ (fun _=>hno) (fun h=>absurd (by omega) hv))))))
theorem cK {k:Int} {Q:Bool→Prop} (hQ:Q (decide (TE k))):OG k Q:=by
  unfold OG
  refine AB (fun a=>yX hQ ?_) (fun a=>yX hQ ?_) <;> (unfold TE; simp; omega)
theorem fP {c k:Nat} {Q:Int→Prop} (hc:TE c) (hk:k<8*c) (hQ:Q ((k / c:Nat):Int)):VG c k Q:=by
  unfold VG
  refine cK ?_
  rw [decide_eq_true hc]
  have hc':=hc
  unfold TE at hc'
  refine AN rfl (AB (fun h=>by omega) (fun _=>?_))
  rw [AY (x:=(c:Int)*8) (by omega) (by omega)]
  refine AB (fun h=>by omega) (fun _=>⟨by omega,?_⟩)
  rw [Int.tdiv_eq_ediv_of_nonneg (by omega),←Int.natCast_ediv]
  have hq:k / c≤k:=Nat.div_le_self _ _
  generalize k / c=q at hq hQ ⊢
  rwa [AY (by omega) (by omega)]
theorem tE {c k:Nat} {Q:Int→Prop} (hc:TE c) (hk:k<8*c) (hQ:Q ((k % c:Nat):Int)):XE c k Q:=by
  unfold XE
  have hc':=hc
  unfold TE at hc'
  refine fP hc hk (AB (fun h=>absurd h (Int.not_lt.2 (Int.natCast_nonneg _))) (fun _=>⟨by omega,?_⟩))
  rwa [Int.tmod_eq_emod_of_nonneg (by omega),←Int.natCast_emod]
end Go.Proofs.YtbohadngdkjljaaGreat
