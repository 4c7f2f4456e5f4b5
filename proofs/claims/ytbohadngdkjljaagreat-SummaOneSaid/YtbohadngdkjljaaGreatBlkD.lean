import Derived.Test.YtbohadngdkjljaaGreatStabC
namespace Go.Proofs.YtbohadngdkjljaaGreat
open Go Go.Fw
set_option linter.unusedVariables false
set_option linter.unusedSimpArgs false
def TD (c:AK):IC:=(c.Row,c.Col)
def qG (k:IC) (c:AK):Option AN:=if TD c=k then some c.Val else none
def GG (r:Int) (k:IC):List AK→Option AN
  | []=>none
  | c :: l=>fO r (qG k c) (GG r k l)
def qH (l:List AK):Prop:=∀ c∈l,NJ c.Val
def StrC (l:List AK):Prop:=l.Pairwise gH
theorem iT {k:IC} {c:AK} (h:NJ c.Val):okO (qG k c):=fun w hw=>by unfold qG at hw; split at hw <;> cases hw; exact h
theorem Ac8 {r:Int} {a b:Option AN} (ha:okO a) (hb:okO b):okO (fO r a b):=by
  intro w hw
  cases a with
  | none=>exact hb w hw
  | some x=>cases b with
    | none=>exact ha w hw
    | some y=>cases hw; exact VA (ha x rfl) (hb y rfl)
theorem YR {r:Int} {k:IC}:∀ {l:List AK},qH l→okO (GG r k l)
  | [],_=>fun w hw=>by cases hw
  | c :: l,h=>Ac8 (iT (h c (by simp))) (YR fun d hd=>h d (List.mem_cons_of_mem _ hd))
theorem OW {r:Int} {k:IC}:∀ {xs ys:List AK},qH xs→qH ys→GG r k (xs++ys)=fO r (GG r k xs) (GG r k ys)
  | [],ys,_,_=>rfl
  | c :: l,ys,h,h'=>by
    have hl:qH l:=fun d hd=>h d (List.mem_cons_of_mem _ hd)
    rw [List.cons_append,GG,GG,OW hl h',VD (iT (h c (by simp))) (YR hl) (YR h')]
theorem qI {xs ys:List AK} (h:xs.Perm ys) (ho:qH xs):qH ys:=fun c hc=>ho c (h.mem_iff.2 hc)
theorem AaI {r:Int} {k:IC} {xs ys:List AK} (h:xs.Perm ys) (ho:qH xs):GG r k xs=GG r k ys:=by
  induction h with
  | nil=>rfl
  | cons c h ih=>rw [GG,GG,ih fun d hd=>ho d (List.mem_cons_of_mem _ hd)]
  | swap a b l=>
    have h1:=iT (k:=k) (ho a (by simp))
    have h2:=iT (k:=k) (ho b (by simp))
    have h3:=YR (r:=r) (k:=k) (l:=l) fun d hd=>ho d (by simp [hd])
    rw [GG,GG,GG,GG,←VD h2 h1 h3,←VD h1 h2 h3,Aa6 h1 h2]
  | trans h1 h2 ih1 ih2=>exact (ih1 ho).trans (ih2 (qI h1 ho))
theorem qJ {r:Int} {k:IC}:∀ {l:List AK},(∀ c∈l,TD c≠k)→GG r k l=none
  | [],_=>rfl
  | c :: l,h=>by
    rw [GG,qJ fun d hd=>h d (List.mem_cons_of_mem _ hd)]
    unfold qG
    rw [if_neg (h c (by simp))]; rfl
theorem tK {a b:AK} (h:gH a b):TD a≠TD b:=fun e=>by unfold gH at h; unfold TD at e; rw [e] at h; exact FC _ h
theorem nO {r:Int}:∀ {l:List AK},StrC l→∀ {c:AK},c∈l↔GG r (TD c) l=some c.Val
  | [],_,c=>by simp [GG]
  | d :: l,h,c=>by
    unfold StrC at h
    rw [List.pairwise_cons] at h
    rw [GG,List.mem_cons]
    by_cases e:TD d=TD c
    · rw [qJ (fun x hx=>by rw [←e]; exact (tK (h.1 x hx)).symm)]
      unfold qG
      rw [if_pos e,NL]
      constructor
      · rintro (rfl | hc)
        · rfl
        · exact absurd e (tK (h.1 c hc))
      · intro hv
        left
        have hv':=Option.some.inj hv
        clear hv
        unfold TD at e
        cases c; cases d
        simp only [Prod.mk.injEq] at e hv'
        obtain ⟨rfl,rfl⟩:=e
        rw [hv']
    · unfold qG
      rw [if_neg e]
      show _↔GG r (TD c) l=some c.Val
      rw [←nO h.2]
      constructor
      · rintro (rfl | hc)
        · exact absurd rfl e
        · exact hc
      · exact .inr
theorem StrC.nodup {l:List AK} (h:StrC l):l.Nodup:=by
  rw [List.nodup_iff_pairwise_ne]
  exact List.Pairwise.imp (R:=gH) (fun {a b} hab (e:a=b)=>tK hab (by rw [e])) h
theorem AaJ {r:Int} {s t:List AK} (hs:StrC s) (ht:StrC t) (h:∀ k,GG r k s=GG r k t):s=t:=
  dJ ((List.perm_ext_iff_of_nodup hs.nodup ht.nodup).2 fun c=>by rw [nO (r:=r) hs,nO (r:=r) ht,h]) hs ht fun a b _ _ h1 h2=>absurd (MT h1 h2) (FC _)
theorem Ac9 {l:List AK} (h:∀ (j:Nat) (h1:j+1<l.length),gH l[j] l[j+1]):StrC l:=by
  unfold StrC
  rw [List.pairwise_iff_getElem]
  intro i j hi hj hij
  obtain ⟨d,rfl⟩:∃ d,j=i+1+d:=⟨j - i - 1,by omega⟩
  clear hij
  induction d with
  | zero=>exact h i hj
  | succ d ih=>exact MT (ih (by omega)) (h (i+1+d) hj)
theorem kC {l:List AK} {Q:Bool→Prop} (hl:l.length≤1000000) (h1:StrC l→Q true) (h2:¬StrC l→Q false):KG l Q:=by
  unfold KG
  refine EO l.length (by omega) (fun i=>∀ (j:Nat) (h1:j+1<l.length),j+1<i→gH l[j] l[j+1]) (fun j _ h=>by omega) (fun i next hi hm hn=>?_) (fun next hm=>?_)
  · refine AD (fun _=>AD (fun hp=>?_) (fun hp=>hn fun j _ h=>by omega)) (fun h=>by omega)
    obtain ⟨i,rfl⟩:∃ q,i=q+1:=⟨i - 1,by omega⟩
    rw [dU (by omega) (by omega),Nat.add_sub_cancel]
    refine BH (by omega) (BH hi (UC (AD (fun h0=>h2 fun hs=>?_) (fun h0=>hn fun j hj h=>?_))))
    · have:=(TR l[i] l[i+1]).2 (List.pairwise_iff_getElem.1 hs i (i+1) (by omega) hi (by omega))
      omega
    · by_cases e:j=i
      · subst e; exact (TR l[j] l[j+1]).1 (by omega)
      · exact hm j hj (by omega)
  · exact AD (fun h=>by omega) (fun _=>h1 (Ac9 fun j hj=>hm j hj hj))
theorem qK {x y:AK}:wR (SQ x.Row y.Row) (SQ x.Col y.Col)=0↔TD x=TD y:=by
  unfold wR SQ TD
  simp only [Prod.mk.injEq]
  split <;> split <;> (try split) <;> (try split) <;> omega
theorem tL {L:List (List AK)} {Q:List AK→Prop} (hl:L.length≤1000000) (hf:L.flatten.length≤100000000) (hQ:Q L.flatten):DI L Q:=by
  unfold DI FG
  have tk:∀ {i:Nat} (h:i<L.length),(L.take (i+1)).flatten=(L.take i).flatten++L[i]:=fun h=>by rw [List.take_succ_eq_append_getElem h,List.flatten_append]; simp
  have tl:∀ i:Nat,(L.take i).flatten.length≤L.flatten.length:=fun i=>by
    conv=>rhs; rw [←List.take_append_drop i L,List.flatten_append,List.length_append]
    omega
  refine BE (fun (s:Int) i=>(s,i)) 0 L.length (by omega) (fun i s=>s=((L.take i).flatten.length:Nat)) (by omega) rfl (fun i s next _ hi hm hn=>?_) (fun s next hm=>?_)
  · subst hm
    have h1:=tl (i+1)
    have h2:=tk hi
    rw [h2,List.length_append] at h1
    refine AD (fun _=>BH hi ?_) (fun h=>by omega)
    rw [cH (by omega) (by omega)]
    exact AD (fun h=>by omega) (fun _=>hn _ (by rw [h2,List.length_append]))
  · subst hm
    refine AD (fun h=>by omega) (fun _=>?_)
    rw [List.take_length,AX (x:=0 - 0) (by omega) (by omega),AX (x:=((L.flatten.length:Nat):Int) - (0 - 0)) (by omega) (by omega)]
    have hk:BK (fun (s:(List AK)×Int) (next271:((List AK)×Int)→Prop)=>match s with | (s266,s270)=>AR (decide (s270<(L.length:Int))) (BC L s270 fun x278=>HV 32 s266 x278 fun _=>next271 ((s266++x278),AJ (s270+1))) (Q s266)) ([],0):=by
      refine BE (fun (s:List AK) i=>(s,i)) 0 L.length (by omega) (fun i s=>s=(L.take i).flatten) (by omega) rfl (fun i s next _ hi hm hn=>?_) (fun s next hm=>?_)
      · subst hm
        have h1:=tl (i+1)
        have h2:=tk hi
        rw [h2,List.length_append] at h1
        refine AD (fun _=>BH hi (BJ (by omega) (hn _ h2.symm))) (fun h=>by omega)
      · subst hm
        refine AD (fun h=>by omega) (fun _=>?_)
        rw [List.take_length]; exact hQ
    exact AD (fun h=>by omega) (fun _=>AD (fun h=>⟨by omega,by omega,hk⟩) (fun h=>hk))
theorem kD {r:Int} {L:List (List AK)} {Q:List AK×Int→Prop} (hl:L.length≤1000000) (hf:L.flatten.length≤1000000) (hok:qH L.flatten) (h8:¬(1≤r∧r≤5)→Q ([],8)) (h6:(1≤r∧r≤5)→¬(∀ l∈L,StrC l)→Q ([],6))
    (h0:(1≤r∧r≤5)→(∀ l∈L,StrC l)→∀ s,StrC s→qH s→s.length≤L.flatten.length→(∀ k,GG r k s=GG r k L.flatten)→Q (s,0)):OM r L Q:=by
  unfold OM
  refine MG (CS (fun h=>h8 (of_decide_eq_false h)) (fun h=>?_))
  have hr:=of_decide_eq_true h
  unfold DB DJ OL
  have elen:∀ l∈L,l.length≤1000000:=fun l hm=>by
    have:=(List.sublist_flatten_of_mem hm).length_le
    omega
  refine EO L.length (by omega) (fun i=>∀ (q:Nat) (hq:q<L.length),q<i→StrC L[q]) (fun q _ h=>by omega) (fun i next hi hm hn=>?_) (fun next hm=>?_)
  · refine AD (fun _=>BH hi (kC (elen _ (List.getElem_mem hi)) (fun hs=>AV rfl (hn fun q hq hqi=>?_)) (fun hs=>BM rfl (BM (decide_eq_true (by omega)) (h6 hr fun ha=>hs (ha _ (List.getElem_mem hi))))))) (fun h=>by omega)
    by_cases e:q=i
    · subst e; exact hs
    · exact hm q hq (by omega)
  refine AD (fun h=>by omega) (fun _=>AV (by decide) (tL hl (by omega) (AaH (by omega) fun t hp hs=>?_)))
  have hall:∀ l∈L,StrC l:=fun l hm'=>by obtain ⟨q,hq,rfl⟩:=List.getElem_of_mem hm'; exact hm q hq hq
  have hot:qH t:=qI hp.symm hok
  have htl:=hp.length_eq
  have hfin:=h0 hr hall
  refine BE (fun (s:List AK) i=>(s,i)) 0 t.length (by omega) (fun i s=>StrC s∧qH s∧s.length≤i∧(∀ k,GG r k s=GG r k (t.take i))∧(s=[]∧i=0∨∃ p y,s=p++[y]∧0<i∧TD y=TD (gC t (i - 1)))) (by omega) ⟨.nil,(fun c hc=>by cases hc),Nat.le_refl _,fun _=>rfl,.inl ⟨rfl,rfl⟩⟩ (fun i s next _ hi hm' hn=>?_) (fun s next hm'=>?_)
  · obtain ⟨m1,m2,m3,m4,m5⟩:=hm'
    have hx:NJ t[i].Val:=hot _ (List.getElem_mem hi)
    have hok1:qH [t[i]]:=fun c hc=>by rw [List.mem_singleton] at hc; subst hc; exact hx
    have hoti:qH (t.take i):=fun c hc=>hot c (List.mem_of_mem_take hc)
    have htk:∀ k,GG r k (t.take (i+1))=fO r (GG r k s) (qG k t[i]):=fun k=>by
      rw [List.take_succ_eq_append_getElem hi,OW hoti hok1,←m4 k,GG,GG,NL]
    have hgi:=nL hi
    refine AD (fun _=>BH hi ?_) (fun h=>by omega)
    have app:StrC (s++[t[i]])→HV 32 s [t[i]] fun _=>next (s++[t[i]],AJ ((i:Int)+1)):=fun hstr=>BJ (by simp; omega) (hn _ ⟨hstr,fun c hc=>by
        rcases List.mem_append.1 hc with h | h
        · exact m2 c h
        · exact hok1 c h,by simp; omega,fun k=>by rw [htk,OW m2 hok1,GG,GG,NL],.inr ⟨s,t[i],rfl,by omega,by rw [Nat.add_sub_cancel,←hgi]⟩⟩)
    unfold EV
    rcases m5 with ⟨rfl,rfl⟩ | ⟨p,y,rfl,i0,hy⟩
    · exact AD (fun h=>by simp at h) (fun _=>AV rfl (app (by simp [StrC])))
    · have m3':p.length+1≤i:=by simpa using m3
      have hlast:(AJ ((((p++[y]).length:Nat):Int) - 1))=((p.length:Nat):Int):=by
        rw [List.length_append,List.length_singleton,dU (by omega) (by omega),Nat.add_sub_cancel]
      rw [hlast]
      have hget:(p++[y])[p.length]? = some y:=by simp
      refine AD (fun _=>AO (x:=y) (by omega) hget (UC (BU (fun he=>?_) (fun he=>?_)))) (fun h=>by simp at h)
      · have hkey:=qK.1 he
        have hyo:NJ y.Val:=m2 y (by simp)
        refine AO (x:=y) (by omega) hget (XS hyo hx (AO (x:=y) (by omega) hget ?_))
        rw [show (p++[y]).set ((p.length:Nat):Int).toNat (⟨y.Row,y.Col,GN r y.Val t[i].Val⟩:AK)=p++[⟨y.Row,y.Col,GN r y.Val t[i].Val⟩] by simp]
        have hp2:qH p:=fun c hc=>m2 c (by simp [hc])
        have hy1:qH [y]:=fun c hc=>by rw [List.mem_singleton] at hc; subst hc; exact hyo
        have hy2:qH [⟨y.Row,y.Col,GN r y.Val t[i].Val⟩]:=fun c hc=>by rw [List.mem_singleton] at hc; subst hc; exact VA hyo hx
        refine hn _ ⟨?_,fun c hc=>?_,by simp at m3 ⊢; omega,fun k=>?_,.inr ⟨p,_,rfl,by omega,?_⟩⟩
        · unfold StrC at m1 ⊢
          rw [List.pairwise_append] at m1 ⊢
          refine ⟨m1.1,by simp,fun a ha b hb=>?_⟩
          rw [List.mem_singleton] at hb; subst hb
          exact m1.2.2 a ha y (by simp)
        · rcases List.mem_append.1 hc with h | h
          · exact hp2 c h
          · exact hy2 c h
        · rw [htk,OW hp2 hy2,OW hp2 hy1,VD (YR hp2) (YR hy1) (iT hx)]
          congr 1
          rw [GG,GG,NL,GG,GG,NL]
          unfold qG
          by_cases ek:TD y=k
          · rw [if_pos (show TD ⟨y.Row,y.Col,GN r y.Val t[i].Val⟩=k from ek),if_pos ek,if_pos (hkey.symm.trans ek)]; rfl
          · rw [if_neg (show ¬TD ⟨y.Row,y.Col,GN r y.Val t[i].Val⟩=k from ek),if_neg ek,if_neg (fun h=>ek (hkey.trans h))]; rfl
        · rw [Nat.add_sub_cancel,←hgi]; exact hkey
      · have hne:TD y≠TD t[i]:=fun h=>he (qK.2 h)
        refine app ?_
        have hle:iS (gC t (i - 1)) (gC t i):=hs _ _ (by omega) (by omega) (by omega)
        rw [←hgi] at hle
        have hyx:gH y t[i]:=gF (a:=TD t[i]) (b:=TD y) (by rw [hy]; exact hle) fun e=>hne e.symm
        unfold StrC at m1 ⊢
        rw [List.pairwise_append]
        refine ⟨m1,by simp,fun a ha b hb=>?_⟩
        rw [List.mem_singleton] at hb; subst hb
        rcases List.mem_append.1 ha with h | h
        · rw [List.pairwise_append] at m1
          exact MT (m1.2.2 a h y (by simp)) hyx
        · rw [List.mem_singleton] at h; subst h; exact hyx
  · obtain ⟨m1,m2,m3,m4,m5⟩:=hm'
    refine AD (fun h=>by omega) (fun _=>hfin s m1 m2 (by omega) fun k=>?_)
    rw [m4,List.take_length]
    exact AaI hp hot
theorem GA {rows cols:Int} {T:List AC} (h:Canon rows cols T) {l u c d:Int} (l0:0≤l) (l1:l≤u) (l2:u≤rows) (h0:0≤c) (h1:c≤d) (h2:d≤cols) :
    mZ rows cols T (l,u) (c,d)=AZ (u - l) (d - c) (LM l u c d T)∧Canon (u - l) (d - c) (LM l u c d T)∧∀ i j:Int,0≤i→i<u - l→0≤j→j<d - c→YZ (fP (LM l u c d T) i) j=YZ (fP T (i+l)) (j+c):=by
  have e1:jY l=l:=by unfold jY; split <;> omega
  have e2:oO u rows=u:=by unfold oO; split <;> omega
  have e3:ext l u rows=u - l:=by unfold ext; rw [e1,e2]; split <;> omega
  have e4:jY c=c:=by unfold jY; split <;> omega
  have e5:oO d cols=d:=by unfold oO; split <;> omega
  have e6:ext c d cols=d - c:=by unfold ext; rw [e4,e5]; split <;> omega
  have hc:=lE h (l,u) (c,d)
  simp only [e1,e2,e3,e4,e5,e6] at hc
  refine ⟨by unfold mZ; simp only [e1,e2,e3,e4,e5,e6],hc,fun i j hi0 hi1 hj0 hj1=>Ac3 fun a=>?_⟩
  rw [qC hc hi0,qC h (by omega),vN]
  exact ⟨fun hh=>hh.1,fun hh=>⟨hh,⟨hi0,by dsimp only; omega⟩,hj0,by dsimp only; omega⟩⟩
theorem qL {l u c d:Int} {T:List AC} (h:∀ t∈T,HJ t.Val):∀ t∈LM l u c d T,HJ t.Val:=fun t ht=>by
  have:=h _ ((vN t).1 ht).1
  exact this
theorem YS {r:Int} {k:IC} {A B:List AC} {t:AC} {M:List AC}:GG r k (GO r A B (t :: M))=fO r (if (t.Row,t.Col)=k then MV r A B t.Row t.Col else none) (GG r k (GO r A B M)):=by
  unfold GO
  rw [List.filterMap_cons]
  unfold HF
  cases hw:MV r A B t.Row t.Col with
  | none=>simp [fO]
  | some w=>
    simp only [Option.map_some,GG]
    rfl
theorem NN {r:Int} {k:IC} {A B:List AC}:∀ {M:List AC},(∀ t∈M,(t.Row,t.Col)≠k)→GG r k (GO r A B M)=none
  | [],_=>rfl
  | t :: M,h=>by rw [YS,if_neg (h t (by simp)),NN fun u hu=>h u (List.mem_cons_of_mem _ hu)]; rfl
theorem lH {r:Int} {k:IC} {A B A1 B1 A2 B2:List AC}:∀ {M:List AC},Srt M→(∀ t∈M,MV r A B t.Row t.Col=fO r (MV r A1 B1 t.Row t.Col) (MV r A2 B2 t.Row t.Col)) →
    GG r k (GO r A B M)=fO r (GG r k (GO r A1 B1 M)) (GG r k (GO r A2 B2 M))
  | [],_,_=>rfl
  | t :: M,hs,h=>by
    unfold Srt at hs
    rw [List.pairwise_cons] at hs
    rw [YS,YS,YS]
    by_cases e:(t.Row,t.Col)=k
    · have hn:∀ u∈M,(u.Row,u.Col)≠k:=fun u hu e'=>by
        have:=hs.1 u hu
        unfold key at this
        rw [e,e'] at this
        exact FC _ this
      rw [if_pos e,if_pos e,if_pos e,NN hn,NN hn,NN hn,NL,NL,NL]
      exact h t (by simp)
    · rw [if_neg e,if_neg e,if_neg e]
      exact lH hs.2 fun u hu=>h u (List.mem_cons_of_mem _ hu)
theorem dW {r:Int} {A B M:List AC} {rm cm:Int} (hM:Canon rm cm M):StrC (GO r A B M)∧qH (GO r A B M)∧(GO r A B M).length≤65536:=by
  have h:=nJ (r:=r) (ra:=0) (ca:=0) (rb:=0) (cb:=0) (A:=A) (B:=B) hM
  exact ⟨h.inc,h.ok,h.len⟩
def WX (n k:Int):Prop:=(0≤n∧n≤4096)∧(1≤k∧k≤8)
instance (n k:Int):Decidable (WX n k):=by unfold WX; infer_instance
def qM (i k:Int):Int:=if i<0 then 0 else if k<i then k else i
def CT (n k i:Int):Int:=if WX n k then qM i k*n / k else 0
theorem Ad1 {i k:Int} (h:1≤k):0≤qM i k∧qM i k≤k:=by unfold qM; split <;> (try split) <;> omega
theorem AaK {i j k:Int} (h:i≤j) (hk:1≤k):qM i k≤qM j k:=by unfold qM; split <;> split <;> (try split) <;> (try split) <;> omega
theorem Af0 {i k n:Int} (hk:1≤k∧k≤8) (hn:0≤n∧n≤4096) (hi:0≤i∧i≤k):0≤i*n∧i*n≤32768:=by
  refine ⟨Int.mul_nonneg hi.1 hn.1,?_⟩
  have:=Int.mul_le_mul (show i≤8 by omega) hn.2 hn.1 (by omega)
  omega
theorem XZ {n k i j:Int} (h:i≤j):CT n k i≤CT n k j:=by
  unfold CT
  by_cases hm:WX n k
  · rw [if_pos hm,if_pos hm]
    exact Int.ediv_le_ediv (by have:=hm.2; omega) (Int.mul_le_mul_of_nonneg_right (AaK h hm.2.1) hm.1.1)
  · rw [if_neg hm,if_neg hm]; exact Int.le_refl _
theorem qN (n k:Int):CT n k 0=0:=by
  unfold CT qM; split
  · rename_i hm
    have h1:=hm.2.1
    rw [if_neg (by omega),if_neg (by omega),Int.zero_mul,Int.zero_ediv]
  · rfl
theorem YT {n k:Int} (h:WX n k):CT n k k=n:=by
  unfold CT qM
  have h1:=h.2.1
  rw [if_pos h,if_neg (by omega),if_neg (by omega),Int.mul_comm,Int.mul_ediv_cancel _ (by omega)]
theorem lI {n k i:Int}:0≤CT n k i∧(0≤n→CT n k i≤n):=by
  by_cases hm:WX n k
  · have hc:=Ad1 (i:=i) hm.2.1
    refine ⟨?_,fun _=>?_⟩
    · unfold CT; rw [if_pos hm]; exact Int.ediv_nonneg (Int.mul_nonneg hc.1 hm.1.1) (by have:=hm.2; omega)
    · by_cases hi:i≤k
      · have:=XZ (n:=n) hi (k:=k); rwa [YT hm] at this
      · have h1:=hm.2.1
        have e:CT n k i=n:=by
          unfold CT qM
          rw [if_pos hm,if_neg (by omega),if_pos (by omega),Int.mul_comm,Int.mul_ediv_cancel _ (by omega)]
        omega
  · unfold CT; rw [if_neg hm]; exact ⟨by omega,fun h=>h⟩
theorem Y0 {α:Type} {p q r:α→Bool}:∀ {l:List α},(∀ x∈l,r x=(p x || q x))→(∀ x∈l,¬(p x=true∧q x=true))→(l.filter p++l.filter q).Perm (l.filter r)
  | [],_,_=>by simp
  | x :: l,h,h'=>by
    have ih:=Y0 (fun y hy=>h y (List.mem_cons_of_mem _ hy)) (fun y hy=>h' y (List.mem_cons_of_mem _ hy))
    have hx:=h x List.mem_cons_self
    have hx':=h' x List.mem_cons_self
    cases hp:p x with
    | true=>
      cases hq:q x with
      | true=>exact absurd ⟨hp,hq⟩ hx'
      | false=>
        rw [List.filter_cons_of_pos hp,List.filter_cons_of_neg (by simp [hq]),List.filter_cons_of_pos (by rw [hx,hp]; rfl)]
        exact ih.cons x
    | false=>
      cases hq:q x with
      | true=>
        rw [List.filter_cons_of_neg (by simp [hp]),List.filter_cons_of_pos hq,List.filter_cons_of_pos (by rw [hx,hp,hq]; rfl)]
        exact List.perm_middle.trans (ih.cons x)
      | false=>
        rw [List.filter_cons_of_neg (by simp [hp]),List.filter_cons_of_neg (by simp [hq]),List.filter_cons_of_neg (by rw [hx,hp,hq]; simp)]
        exact ih
theorem Y1 {α:Type} {f:α→Int} {b:Nat→Int} {l:List α} (hm:∀ i j,i≤j→b i≤b j) (h0:∀ x∈l,b 0≤f x):∀ m:Nat,
    ((List.range m).flatMap fun i=>l.filter fun x=>decide (b i≤f x∧f x<b (i+1))).Perm (l.filter fun x=>decide (f x<b m))
  | 0=>by
    rw [List.filter_eq_nil_iff.2 (fun x hx=>by have:=h0 x hx; simp only [decide_eq_true_eq]; omega)]; simp
  | m+1=>by
    rw [List.range_succ,List.flatMap_append,List.flatMap_singleton]
    refine ((Y1 hm h0 m).append_right _).trans (Y0 (fun x hx=>?_) (fun x hx=>?_))
    · have:=hm m (m+1) (by omega)
      rw [Bool.eq_iff_iff]
      simp only [Bool.or_eq_true,decide_eq_true_eq]; omega
    · simp only [decide_eq_true_eq]; omega
theorem cI {α β:Type} {f g:α→List β}:∀ {l:List α},(∀ x∈l,(f x).Perm (g x))→(l.flatMap f).Perm (l.flatMap g)
  | [],_=>by simp
  | x :: l,h=>by
    rw [List.flatMap_cons,List.flatMap_cons]
    exact (h x List.mem_cons_self).append (cI fun y hy=>h y (List.mem_cons_of_mem _ hy))
theorem NO {α β:Type} {f g:α→List β} {l:List α} (h:∀ x∈l,f x=g x):l.flatMap f=l.flatMap g:=by
  induction l with
  | nil=>rfl
  | cons x l ih=>rw [List.flatMap_cons,List.flatMap_cons,h x List.mem_cons_self,ih fun y hy=>h y (List.mem_cons_of_mem _ hy)]
theorem lJ {β:Type} {q:Nat} (hq:0<q) (F:Nat→Nat→List β):∀ p:Nat,((List.range (p*q)).flatMap fun k=>F (k / q) (k % q))=(List.range p).flatMap fun i=>(List.range q).flatMap fun j=>F i j
  | 0=>by simp
  | p+1=>by
    rw [Nat.succ_mul,List.range_add,List.flatMap_append,lJ hq F p,List.range_succ,List.flatMap_append,List.flatMap_singleton,List.flatMap_map]
    congr 1
    refine NO fun j hj=>?_
    have hj:=List.mem_range.1 hj
    rw [Nat.mul_comm p q,Nat.mul_add_div hq,Nat.div_eq_of_lt hj,Nat.mul_add_mod,Nat.mod_eq_of_lt hj,Nat.add_zero]
def shT (a b:Int) (t:AC):AC:=⟨t.Row+a,t.Col+b,t.Val⟩
theorem AaL {l h c d:Int} {T:List AC}:(LM l h c d T).map (shT l c)=T.filter fun t=>decide ((l≤t.Row∧t.Row<h)∧(c≤t.Col∧t.Col<d)):=by
  unfold LM
  rw [List.map_map]
  conv=>rhs; rw [←List.map_id (List.filter _ T)]
  refine List.map_congr_left fun t _=>?_
  cases t; simp only [Function.comp_apply,shT,id_eq,AC.mk.injEq]; exact ⟨by omega,by omega,trivial⟩
theorem qO {rows cols:Int} {T:List AC} (h:Canon rows cols T) {p q:Nat} (hp:WX rows p) (hq:WX cols q) :
    ((List.range p).flatMap fun i:Nat=>(List.range q).flatMap fun j:Nat=>(LM (CT rows p i) (CT rows p ((i:Int)+1)) (CT cols q j) (CT cols q ((j:Int)+1)) T).map (shT (CT rows p i) (CT cols q j))).Perm T:=by
  have e:∀ i:Nat,((List.range q).flatMap fun j:Nat=>(LM (CT rows p i) (CT rows p ((i:Int)+1)) (CT cols q j) (CT cols q ((j:Int)+1)) T).map (shT (CT rows p i) (CT cols q j))).Perm (T.filter fun t=>decide (CT rows p i≤t.Row∧t.Row<CT rows p ((i:Int)+1))):=by
    intro i
    have h1:=Y1 (f:=fun t:AC=>t.Col) (b:=fun j:Nat=>CT cols q j) (l:=T.filter fun t=>decide (CT rows p i≤t.Row∧t.Row<CT rows p ((i:Int)+1))) (fun i j hij=>XZ (by omega)) (fun t ht=>by
      have:=(h.inn t (List.mem_filter.1 ht).1).2.2.1
      simp only [Int.natCast_zero]; rw [qN]; exact this) q
    refine List.Perm.trans (List.Perm.of_eq (NO fun j _=>?_)) (h1.trans (List.Perm.of_eq ?_))
    · rw [AaL,List.filter_filter]
      refine List.filter_congr fun t _=>?_
      rw [Bool.eq_iff_iff]
      simp only [Bool.and_eq_true,decide_eq_true_eq,Int.natCast_add,Int.natCast_one]
      exact ⟨fun h=>⟨h.2,h.1⟩,fun h=>⟨h.2,h.1⟩⟩
    · refine List.filter_eq_self.2 fun t ht=>?_
      have:=(h.inn t (List.mem_filter.1 ht).1).2.2.2
      rw [YT hq]; simpa using this
  refine (cI fun i _=>e i).trans ?_
  have h1:=Y1 (f:=fun t:AC=>t.Row) (b:=fun j:Nat=>CT rows p j) (l:=T) (fun i j hij=>XZ (by omega)) (fun t ht=>by
    have:=(h.inn t ht).1
    simp only [Int.natCast_zero]; rw [qN]; exact this) p
  refine h1.trans (List.Perm.of_eq ?_)
  refine List.filter_eq_self.2 fun t ht=>?_
  have:=(h.inn t ht).2.1
  rw [YT hp]; simpa using this
theorem vW {P:Prop} [Decidable P] {b:Bool} {Q:Bool→Prop} (hQ:Q (decide P)) (h:b=true↔P):Q b:=by
  have:decide P=b:=by rw [Bool.eq_iff_iff,decide_eq_true_iff]; exact h.symm
  rwa [this] at hQ
theorem TT {n k:Int} {Q:Bool→Prop} (hQ:Q (decide (WX n k))):RY n k Q:=by
  unfold RY OJ
  refine AD (fun a=>AD (fun b=>AD (fun c=>vW hQ ?_) (fun c=>vW hQ ?_)) (fun b=>vW hQ ?_)) (fun a=>vW hQ ?_) <;> (unfold WX; simp; omega)
theorem IF {n k i:Int} {Q:Int→Prop} (hQ:Q (CT n k i)):FV n k i Q:=by
  unfold FV
  unfold CT at hQ
  refine TT (CS (fun h=>?_) (fun h=>?_))
  · rwa [if_neg (of_decide_eq_false h)] at hQ
  · have hm:=of_decide_eq_true h
    rw [if_pos hm] at hQ
    have e:(if k<(if 0 > i then 0 else i) then k else (if 0 > i then 0 else i))=qM i k:=by
      unfold qM; have:=hm.2; split <;> split <;> (try split) <;> (try split) <;> omega
    rw [e]
    have hb:=Af0 hm.2 hm.1 (Ad1 (i:=i) hm.2.1)
    have hk:=hm.2
    refine ⟨by omega,?_⟩
    rw [AX (x:=qM i k*n) (by omega) (by omega),Int.tdiv_eq_ediv_of_nonneg hb.1]
    have h1:0≤qM i k*n / k:=Int.ediv_nonneg hb.1 (by omega)
    have h2:qM i k*n / k≤qM i k*n:=Int.ediv_le_self _ hb.1
    rwa [AX (by omega) (by omega)]
theorem Af1 {n k i:Int} (h0:0≤i) (h:i<k):CT n k (AJ (i+1))=CT n k (i+1):=by
  by_cases hm:WX n k
  · have:=hm.2
    rw [AX (by omega) (by omega)]
  · unfold CT; rw [if_neg hm,if_neg hm]
def ST (k:Int):Prop:=1≤k∧k≤8
instance (k:Int):Decidable (ST k):=by unfold ST; infer_instance
def lK (r c i j:Int):Prop:=(ST r∧ST c)∧(0≤i∧i<r)∧0≤j∧j<c
instance (r c i j:Int):Decidable (lK r c i j):=by unfold lK; infer_instance
theorem ZL {k:Int} {Q:Bool→Prop} (hQ:Q (decide (ST k))):RZ k Q:=by
  unfold RZ
  refine AD (fun a=>vW hQ ?_) (fun a=>vW hQ ?_) <;> (unfold ST; simp; omega)
theorem kE {r c i j:Int} {Q:Bool→Prop} (hQ:Q (decide (lK r c i j))):VV r c i j Q:=by
  unfold VV
  refine ZL (AD (fun a=>ZL (AD (fun b=>AD (fun d=>AD (fun e=>AD (fun f=>vW hQ ?_) (fun f=>vW hQ ?_)) (fun e=>vW hQ ?_)) (fun d=>vW hQ ?_)) (fun b=>vW hQ ?_))) (fun a=>vW hQ ?_)) <;> (unfold lK; unfold ST at *; simp only [Bool.false_eq_true,decide_eq_true_eq,false_iff]; omega)
theorem WV {n k i:Int} {Q:Int×Int→Prop} (h0:0≤i) (h:i<k) (hQ:Q (CT n k i,CT n k (i+1))):NE n k i Q:=by
  unfold NE
  refine IF (IF ?_)
  rw [Af1 h0 h]; exact hQ
def AdP (rows cols:Int) (T:List AC) (r c i j:Int):Rows:=if lK r c i j then mZ rows cols T (CT rows r i,CT rows r (i+1)) (CT cols c j,CT cols c (j+1)) else AZ 0 0 []
theorem AcA:VC zR=AZ 0 0 []:=if_neg zO
theorem AaM:mZ 0 0 [] (0,0) (0,0)=AZ 0 0 []:=by decide
theorem nP {Q:Rows→Prop} (hQ:Q (AZ 0 0 [])):LW zR (0,0) (0,0) Q:=by
  refine WG zN AcA pT ?_
  rw [AaM]; exact hQ
theorem nQ {rows cols r c i j:Int} {T:List AC} {Q:Rows→Prop} (h:Canon rows cols T) (hQ:Q (AdP rows cols T r c i j)):RJ (AZ rows cols T) r c i j Q:=by
  unfold RJ
  unfold AdP at hQ
  refine bZ h.sml ?_
  rw [decide_eq_true h.right]
  refine AV rfl (kE (CS (fun hg=>?_) (fun hg=>?_)))
  · rw [if_neg (of_decide_eq_false hg)] at hQ
    exact nP hQ
  · have hg:=of_decide_eq_true hg
    rw [if_pos hg] at hQ
    exact WV hg.2.1.1 hg.2.1.2 (WV hg.2.2.1 hg.2.2.2 (WG h.sml (FT h) h hQ))
def AdQ (a:Rows):Prop:=a.Start.length≤1000000000000∧a.Col.length≤1000000000000
theorem dX {a:Rows} {Q:Bool→Prop} (hl:AdQ a) (hQ:Q (decide (QE a))):HX a Q:=by
  by_cases hv:a.Val.length=a.Col.length
  · exact bZ ⟨hl.1,hl.2,by have:=hl.2; omega⟩ hQ
  · have hno:Q false:=by rwa [decide_eq_false (fun h=>hv h.vl)] at hQ
    unfold HX
    exact JE (CS (fun _=>hno) (fun _=>JE (CS (fun _=>hno) (fun _=>DW (fun _=>hno) (fun _=>DW (fun _=>hno) (fun h=>absurd (by omega) hv))))))
theorem cJ {k:Int} {Q:Bool→Prop} (hQ:Q (decide (ST k))):OJ k Q:=by
  unfold OJ
  refine AD (fun a=>vW hQ ?_) (fun a=>vW hQ ?_) <;> (unfold ST; simp; omega)
theorem eZ {c k:Nat} {Q:Int→Prop} (hc:ST c) (hk:k<8*c) (hQ:Q ((k / c:Nat):Int)):UU c k Q:=by
  unfold UU
  refine cJ ?_
  rw [decide_eq_true hc]
  have hc':=hc
  unfold ST at hc'
  refine AV rfl (AD (fun h=>by omega) (fun _=>?_))
  rw [AX (x:=(c:Int)*8) (by omega) (by omega)]
  refine AD (fun h=>by omega) (fun _=>⟨by omega,?_⟩)
  rw [Int.tdiv_eq_ediv_of_nonneg (by omega),←Int.natCast_ediv]
  have hq:k / c≤k:=Nat.div_le_self _ _
  generalize k / c=q at hq hQ ⊢
  rwa [AX (by omega) (by omega)]
theorem qP {c k:Nat} {Q:Int→Prop} (hc:ST c) (hk:k<8*c) (hQ:Q ((k % c:Nat):Int)):XM c k Q:=by
  unfold XM
  have hc':=hc
  unfold ST at hc'
  refine eZ hc hk (AD (fun h=>absurd h (Int.not_lt.2 (Int.natCast_nonneg _))) (fun _=>⟨by omega,?_⟩))
  rwa [Int.tmod_eq_emod_of_nonneg (by omega),←Int.natCast_emod]
end Go.Proofs.YtbohadngdkjljaaGreat
