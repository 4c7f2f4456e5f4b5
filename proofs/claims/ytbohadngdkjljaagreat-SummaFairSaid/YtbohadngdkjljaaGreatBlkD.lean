import Derived.Test.YtbohadngdkjljaaGreatStabC
namespace Go.Proofs.YtbohadngdkjljaaGreat
open Go Go.Fw
set_option linter.unusedVariables false
set_option linter.unusedSimpArgs false
def SZ (c:AK):HZ:=(c.Row,c.Col)
def qR (k:HZ) (c:AK):Option AN:=if SZ c=k then some c.Val else none
def GF (r:Int) (k:HZ):List AK→Option AN
  | []=>none
  | c :: l=>fN r (qR k c) (GF r k l)
def qS (l:List AK):Prop:=∀ c∈l,NL c.Val
def StrC (l:List AK):Prop:=l.Pairwise dP
theorem iP {k:HZ} {c:AK} (h:NL c.Val):okO (qR k c):=fun w hw=>by unfold qR at hw; split at hw <;> cases hw; exact h
theorem Ac3 {r:Int} {a b:Option AN} (ha:okO a) (hb:okO b):okO (fN r a b):=by
  intro w hw
  cases a with
  | none=>exact hb w hw
  | some x=>cases b with
    | none=>exact ha w hw
    | some y=>cases hw; exact UY (ha x rfl) (hb y rfl)
theorem YP {r:Int} {k:HZ}:∀ {l:List AK},qS l→okO (GF r k l)
  | [],_=>fun w hw=>by cases hw
  | c :: l,h=>Ac3 (iP (h c (by simp))) (YP fun d hd=>h d (List.mem_cons_of_mem _ hd))
theorem OW {r:Int} {k:HZ}:∀ {xs ys:List AK},qS xs→qS ys→GF r k (xs++ys)=fN r (GF r k xs) (GF r k ys)
  | [],ys,_,_=>rfl
  | c :: l,ys,h,h'=>by
    have hl:qS l:=fun d hd=>h d (List.mem_cons_of_mem _ hd)
    rw [List.cons_append,GF,GF,OW hl h',VB (iP (h c (by simp))) (YP hl) (YP h')]
theorem qT {xs ys:List AK} (h:xs.Perm ys) (ho:qS xs):qS ys:=fun c hc=>ho c (h.mem_iff.2 hc)
theorem AaF {r:Int} {k:HZ} {xs ys:List AK} (h:xs.Perm ys) (ho:qS xs):GF r k xs=GF r k ys:=by
  induction h with
  | nil=>rfl
  | cons c h ih=>rw [GF,GF,ih fun d hd=>ho d (List.mem_cons_of_mem _ hd)]
  | swap a b l=>
    have h1:=iP (k:=k) (ho a (by simp))
    have h2:=iP (k:=k) (ho b (by simp))
    have h3:=YP (r:=r) (k:=k) (l:=l) fun d hd=>ho d (by simp [hd])
    rw [GF,GF,GF,GF,←VB h2 h1 h3,←VB h1 h2 h3,Aa4 h1 h2]
  | trans h1 h2 ih1 ih2=>exact (ih1 ho).trans (ih2 (qT h1 ho))
theorem qU {r:Int} {k:HZ}:∀ {l:List AK},(∀ c∈l,SZ c≠k)→GF r k l=none
  | [],_=>rfl
  | c :: l,h=>by
    rw [GF,qU fun d hd=>h d (List.mem_cons_of_mem _ hd)]
    unfold qR
    rw [if_neg (h c (by simp))]; rfl
theorem tQ {a b:AK} (h:dP a b):SZ a≠SZ b:=fun e=>by unfold dP at h; unfold SZ at e; rw [e] at h; exact EX _ h
theorem nV {r:Int}:∀ {l:List AK},StrC l→∀ {c:AK},c∈l↔GF r (SZ c) l=some c.Val
  | [],_,c=>by simp [GF]
  | d :: l,h,c=>by
    unfold StrC at h
    rw [List.pairwise_cons] at h
    rw [GF,List.mem_cons]
    by_cases e:SZ d=SZ c
    · rw [qU (fun x hx=>by rw [←e]; exact (tQ (h.1 x hx)).symm)]
      unfold qR
      rw [if_pos e,NN]
      constructor
      · rintro (rfl | hc)
        · rfl
        · exact absurd e (tQ (h.1 c hc))
      · intro hv
        left
        have hv':=Option.some.inj hv
        clear hv
        unfold SZ at e
        cases c; cases d
        simp only [Prod.mk.injEq] at e hv'
        obtain ⟨rfl,rfl⟩:=e
        rw [hv']
    · unfold qR
      rw [if_neg e]
      show _↔GF r (SZ c) l=some c.Val
      rw [←nV h.2]
      constructor
      · rintro (rfl | hc)
        · exact absurd rfl e
        · exact hc
      · exact .inr
theorem StrC.nodup {l:List AK} (h:StrC l):l.Nodup:=by
  rw [List.nodup_iff_pairwise_ne]
  exact List.Pairwise.imp (R:=dP) (fun {a b} hab (e:a=b)=>tQ hab (by rw [e])) h
theorem AaG {r:Int} {s t:List AK} (hs:StrC s) (ht:StrC t) (h:∀ k,GF r k s=GF r k t):s=t:=
  dI ((List.perm_ext_iff_of_nodup hs.nodup ht.nodup).2 fun c=>by rw [nV (r:=r) hs,nV (r:=r) ht,h]) hs ht fun a b _ _ h1 h2=>absurd (MP h1 h2) (EX _)
theorem Ac4 {l:List AK} (h:∀ (j:Nat) (h1:j+1<l.length),dP l[j] l[j+1]):StrC l:=by
  unfold StrC
  rw [List.pairwise_iff_getElem]
  intro i j hi hj hij
  obtain ⟨d,rfl⟩:∃ d,j=i+1+d:=⟨j - i - 1,by omega⟩
  clear hij
  induction d with
  | zero=>exact h i hj
  | succ d ih=>exact MP (ih (by omega)) (h (i+1+d) hj)
theorem jY {l:List AK} {Q:Bool→Prop} (hl:l.length≤1000000) (h1:StrC l→Q true) (h2:¬StrC l→Q false):KB l Q:=by
  unfold KB
  refine EB l.length (by omega) (fun i=>∀ (j:Nat) (h1:j+1<l.length),j+1<i→dP l[j] l[j+1]) (fun j _ h=>by omega) (fun i next hi hm hn=>?_) (fun next hm=>?_)
  · refine AB (fun _=>AB (fun hp=>?_) (fun hp=>hn fun j _ h=>by omega)) (fun h=>by omega)
    obtain ⟨i,rfl⟩:∃ q,i=q+1:=⟨i - 1,by omega⟩
    rw [dV (by omega) (by omega),Nat.add_sub_cancel]
    refine BA (by omega) (BA hi (UD (AB (fun h0=>h2 fun hs=>?_) (fun h0=>hn fun j hj h=>?_))))
    · have:=(TR l[i] l[i+1]).2 (List.pairwise_iff_getElem.1 hs i (i+1) (by omega) hi (by omega))
      omega
    · by_cases e:j=i
      · subst e; exact (TR l[j] l[j+1]).1 (by omega)
      · exact hm j hj (by omega)
  · exact AB (fun h=>by omega) (fun _=>h1 (Ac4 fun j hj=>hm j hj hj))
theorem qV {x y:AK}:wT (SN x.Row y.Row) (SN x.Col y.Col)=0↔SZ x=SZ y:=by
  unfold wT SN SZ
  simp only [Prod.mk.injEq]
  split <;> split <;> (try split) <;> (try split) <;> omega
theorem tR {L:List (List AK)} {Q:List AK→Prop} (hl:L.length≤1000000) (hf:L.flatten.length≤100000000) (hQ:Q L.flatten):DH L Q:=by
  unfold DH FD
  have tk:∀ {i:Nat} (h:i<L.length),(L.take (i+1)).flatten=(L.take i).flatten++L[i]:=fun h=>by rw [List.take_succ_eq_append_getElem h,List.flatten_append]; simp
  have tl:∀ i:Nat,(L.take i).flatten.length≤L.flatten.length:=fun i=>by
    conv=>rhs; rw [←List.take_append_drop i L,List.flatten_append,List.length_append]
    omega
  refine BB (fun (s:Int) i=>(s,i)) 0 L.length (by omega) (fun i s=>s=((L.take i).flatten.length:Nat)) (by omega) rfl (fun i s next _ hi hm hn=>?_) (fun s next hm=>?_)
  · subst hm
    have h1:=tl (i+1)
    have h2:=tk hi
    rw [h2,List.length_append] at h1
    refine AB (fun _=>BA hi ?_) (fun h=>by omega)
    rw [cC (by omega) (by omega)]
    exact AB (fun h=>by omega) (fun _=>hn _ (by rw [h2,List.length_append]))
  · subst hm
    refine AB (fun h=>by omega) (fun _=>?_)
    rw [List.take_length,AZ (x:=0 - 0) (by omega) (by omega),AZ (x:=((L.flatten.length:Nat):Int) - (0 - 0)) (by omega) (by omega)]
    have hk:BN (fun (s:(List AK)×Int) (next271:((List AK)×Int)→Prop)=>match s with | (s266,s270)=>AQ (decide (s270<(L.length:Int))) (AY L s270 fun x278=>HS 32 s266 x278 fun _=>next271 ((s266++x278),AJ (s270+1))) (Q s266)) ([],0):=by
      refine BB (fun (s:List AK) i=>(s,i)) 0 L.length (by omega) (fun i s=>s=(L.take i).flatten) (by omega) rfl (fun i s next _ hi hm hn=>?_) (fun s next hm=>?_)
      · subst hm
        have h1:=tl (i+1)
        have h2:=tk hi
        rw [h2,List.length_append] at h1
        refine AB (fun _=>BA hi (BK (by omega) (hn _ h2.symm))) (fun h=>by omega)
      · subst hm
        refine AB (fun h=>by omega) (fun _=>?_)
        rw [List.take_length]; exact hQ
    exact AB (fun h=>by omega) (fun _=>AB (fun h=>⟨by omega,by omega,hk⟩) (fun h=>hk))
theorem jZ {r:Int} {L:List (List AK)} {Q:List AK×Int→Prop} (hl:L.length≤1000000) (hf:L.flatten.length≤1000000) (hok:qS L.flatten) (h8:¬(1≤r∧r≤5)→Q ([],8)) (h6:(1≤r∧r≤5)→¬(∀ l∈L,StrC l)→Q ([],6))
    (h0:(1≤r∧r≤5)→(∀ l∈L,StrC l)→∀ s,StrC s→qS s→s.length≤L.flatten.length→(∀ k,GF r k s=GF r k L.flatten)→Q (s,0)):OM r L Q:=by
  unfold OM
  refine MD (CN (fun h=>h8 (of_decide_eq_false h)) (fun h=>?_))
  have hr:=of_decide_eq_true h
  unfold DA DJ OL
  have elen:∀ l∈L,l.length≤1000000:=fun l hm=>by
    have:=(List.sublist_flatten_of_mem hm).length_le
    omega
  refine EB L.length (by omega) (fun i=>∀ (q:Nat) (hq:q<L.length),q<i→StrC L[q]) (fun q _ h=>by omega) (fun i next hi hm hn=>?_) (fun next hm=>?_)
  · refine AB (fun _=>BA hi (jY (elen _ (List.getElem_mem hi)) (fun hs=>AV rfl (hn fun q hq hqi=>?_)) (fun hs=>BJ rfl (BJ (decide_eq_true (by omega)) (h6 hr fun ha=>hs (ha _ (List.getElem_mem hi))))))) (fun h=>by omega)
    by_cases e:q=i
    · subst e; exact hs
    · exact hm q hq (by omega)
  refine AB (fun h=>by omega) (fun _=>AV (by decide) (tR hl (by omega) (AaE (by omega) fun t hp hs=>?_)))
  have hall:∀ l∈L,StrC l:=fun l hm'=>by obtain ⟨q,hq,rfl⟩:=List.getElem_of_mem hm'; exact hm q hq hq
  have hot:qS t:=qT hp.symm hok
  have htl:=hp.length_eq
  have hfin:=h0 hr hall
  refine BB (fun (s:List AK) i=>(s,i)) 0 t.length (by omega) (fun i s=>StrC s∧qS s∧s.length≤i∧(∀ k,GF r k s=GF r k (t.take i))∧(s=[]∧i=0∨∃ p y,s=p++[y]∧0<i∧SZ y=SZ (gC t (i - 1)))) (by omega) ⟨.nil,(fun c hc=>by cases hc),Nat.le_refl _,fun _=>rfl,.inl ⟨rfl,rfl⟩⟩ (fun i s next _ hi hm' hn=>?_) (fun s next hm'=>?_)
  · obtain ⟨m1,m2,m3,m4,m5⟩:=hm'
    have hx:NL t[i].Val:=hot _ (List.getElem_mem hi)
    have hok1:qS [t[i]]:=fun c hc=>by rw [List.mem_singleton] at hc; subst hc; exact hx
    have hoti:qS (t.take i):=fun c hc=>hot c (List.mem_of_mem_take hc)
    have htk:∀ k,GF r k (t.take (i+1))=fN r (GF r k s) (qR k t[i]):=fun k=>by
      rw [List.take_succ_eq_append_getElem hi,OW hoti hok1,←m4 k,GF,GF,NN]
    have hgi:=nS hi
    refine AB (fun _=>BA hi ?_) (fun h=>by omega)
    have app:StrC (s++[t[i]])→HS 32 s [t[i]] fun _=>next (s++[t[i]],AJ ((i:Int)+1)):=fun hstr=>BK (by simp; omega) (hn _ ⟨hstr,fun c hc=>by
        rcases List.mem_append.1 hc with h | h
        · exact m2 c h
        · exact hok1 c h,by simp; omega,fun k=>by rw [htk,OW m2 hok1,GF,GF,NN],.inr ⟨s,t[i],rfl,by omega,by rw [Nat.add_sub_cancel,←hgi]⟩⟩)
    unfold EY
    rcases m5 with ⟨rfl,rfl⟩ | ⟨p,y,rfl,i0,hy⟩
    · exact AB (fun h=>by simp at h) (fun _=>AV rfl (app (by simp [StrC])))
    · have m3':p.length+1≤i:=by simpa using m3
      have hlast:(AJ ((((p++[y]).length:Nat):Int) - 1))=((p.length:Nat):Int):=by
        rw [List.length_append,List.length_singleton,dV (by omega) (by omega),Nat.add_sub_cancel]
      rw [hlast]
      have hget:(p++[y])[p.length]? = some y:=by simp
      refine AB (fun _=>AP (x:=y) (by omega) hget (UD (BR (fun he=>?_) (fun he=>?_)))) (fun h=>by simp at h)
      · have hkey:=qV.1 he
        have hyo:NL y.Val:=m2 y (by simp)
        refine AP (x:=y) (by omega) hget (XQ hyo hx (AP (x:=y) (by omega) hget ?_))
        rw [show (p++[y]).set ((p.length:Nat):Int).toNat (⟨y.Row,y.Col,GN r y.Val t[i].Val⟩:AK)=p++[⟨y.Row,y.Col,GN r y.Val t[i].Val⟩] by simp]
        have hp2:qS p:=fun c hc=>m2 c (by simp [hc])
        have hy1:qS [y]:=fun c hc=>by rw [List.mem_singleton] at hc; subst hc; exact hyo
        have hy2:qS [⟨y.Row,y.Col,GN r y.Val t[i].Val⟩]:=fun c hc=>by rw [List.mem_singleton] at hc; subst hc; exact UY hyo hx
        refine hn _ ⟨?_,fun c hc=>?_,by simp at m3 ⊢; omega,fun k=>?_,.inr ⟨p,_,rfl,by omega,?_⟩⟩
        · unfold StrC at m1 ⊢
          rw [List.pairwise_append] at m1 ⊢
          refine ⟨m1.1,by simp,fun a ha b hb=>?_⟩
          rw [List.mem_singleton] at hb; subst hb
          exact m1.2.2 a ha y (by simp)
        · rcases List.mem_append.1 hc with h | h
          · exact hp2 c h
          · exact hy2 c h
        · rw [htk,OW hp2 hy2,OW hp2 hy1,VB (YP hp2) (YP hy1) (iP hx)]
          congr 1
          rw [GF,GF,NN,GF,GF,NN]
          unfold qR
          by_cases ek:SZ y=k
          · rw [if_pos (show SZ ⟨y.Row,y.Col,GN r y.Val t[i].Val⟩=k from ek),if_pos ek,if_pos (hkey.symm.trans ek)]; rfl
          · rw [if_neg (show ¬SZ ⟨y.Row,y.Col,GN r y.Val t[i].Val⟩=k from ek),if_neg ek,if_neg (fun h=>ek (hkey.trans h))]; rfl
        · rw [Nat.add_sub_cancel,←hgi]; exact hkey
      · have hne:SZ y≠SZ t[i]:=fun h=>he (qV.2 h)
        refine app ?_
        have hle:iO (gC t (i - 1)) (gC t i):=hs _ _ (by omega) (by omega) (by omega)
        rw [←hgi] at hle
        have hyx:dP y t[i]:=gB (a:=SZ t[i]) (b:=SZ y) (by rw [hy]; exact hle) fun e=>hne e.symm
        unfold StrC at m1 ⊢
        rw [List.pairwise_append]
        refine ⟨m1,by simp,fun a ha b hb=>?_⟩
        rw [List.mem_singleton] at hb; subst hb
        rcases List.mem_append.1 ha with h | h
        · rw [List.pairwise_append] at m1
          exact MP (m1.2.2 a h y (by simp)) hyx
        · rw [List.mem_singleton] at h; subst h; exact hyx
  · obtain ⟨m1,m2,m3,m4,m5⟩:=hm'
    refine AB (fun h=>by omega) (fun _=>hfin s m1 m2 (by omega) fun k=>?_)
    rw [m4,List.take_length]
    exact AaF hp hot
theorem FZ {rows cols:Int} {T:List AC} (h:Canon rows cols T) {l u c d:Int} (l0:0≤l) (l1:l≤u) (l2:u≤rows) (h0:0≤c) (h1:c≤d) (h2:d≤cols) :
    nE rows cols T (l,u) (c,d)=AX (u - l) (d - c) (LI l u c d T)∧Canon (u - l) (d - c) (LI l u c d T)∧∀ i j:Int,0≤i→i<u - l→0≤j→j<d - c→YY (fO (LI l u c d T) i) j=YY (fO T (i+l)) (j+c):=by
  have e1:jT l=l:=by unfold jT; split <;> omega
  have e2:oT u rows=u:=by unfold oT; split <;> omega
  have e3:ext l u rows=u - l:=by unfold ext; rw [e1,e2]; split <;> omega
  have e4:jT c=c:=by unfold jT; split <;> omega
  have e5:oT d cols=d:=by unfold oT; split <;> omega
  have e6:ext c d cols=d - c:=by unfold ext; rw [e4,e5]; split <;> omega
  have hc:=lG h (l,u) (c,d)
  simp only [e1,e2,e3,e4,e5,e6] at hc
  refine ⟨by unfold nE; simp only [e1,e2,e3,e4,e5,e6],hc,fun i j hi0 hi1 hj0 hj1=>AbZ fun a=>?_⟩
  rw [qN hc hi0,qN h (by omega),vL]
  exact ⟨fun hh=>hh.1,fun hh=>⟨hh,⟨hi0,by dsimp only; omega⟩,hj0,by dsimp only; omega⟩⟩
theorem qW {l u c d:Int} {T:List AC} (h:∀ t∈T,GL t.Val):∀ t∈LI l u c d T,GL t.Val:=fun t ht=>by
  have:=h _ ((vL t).1 ht).1
  exact this
theorem YQ {r:Int} {k:HZ} {A B:List AC} {t:AC} {M:List AC}:GF r k (GD r A B (t :: M))=fN r (if (t.Row,t.Col)=k then MR r A B t.Row t.Col else none) (GF r k (GD r A B M)):=by
  unfold GD
  rw [List.filterMap_cons]
  unfold HD
  cases hw:MR r A B t.Row t.Col with
  | none=>simp [fN]
  | some w=>
    simp only [Option.map_some,GF]
    rfl
theorem NQ {r:Int} {k:HZ} {A B:List AC}:∀ {M:List AC},(∀ t∈M,(t.Row,t.Col)≠k)→GF r k (GD r A B M)=none
  | [],_=>rfl
  | t :: M,h=>by rw [YQ,if_neg (h t (by simp)),NQ fun u hu=>h u (List.mem_cons_of_mem _ hu)]; rfl
theorem lK {r:Int} {k:HZ} {A B A1 B1 A2 B2:List AC}:∀ {M:List AC},Srt M→(∀ t∈M,MR r A B t.Row t.Col=fN r (MR r A1 B1 t.Row t.Col) (MR r A2 B2 t.Row t.Col)) →
    GF r k (GD r A B M)=fN r (GF r k (GD r A1 B1 M)) (GF r k (GD r A2 B2 M))
  | [],_,_=>rfl
  | t :: M,hs,h=>by
    unfold Srt at hs
    rw [List.pairwise_cons] at hs
    rw [YQ,YQ,YQ]
    by_cases e:(t.Row,t.Col)=k
    · have hn:∀ u∈M,(u.Row,u.Col)≠k:=fun u hu e'=>by
        have:=hs.1 u hu
        unfold key at this
        rw [e,e'] at this
        exact EX _ this
      rw [if_pos e,if_pos e,if_pos e,NQ hn,NQ hn,NQ hn,NN,NN,NN]
      exact h t (by simp)
    · rw [if_neg e,if_neg e,if_neg e]
      exact lK hs.2 fun u hu=>h u (List.mem_cons_of_mem _ hu)
theorem dX {r:Int} {A B M:List AC} {rm cm:Int} (hM:Canon rm cm M):StrC (GD r A B M)∧qS (GD r A B M)∧(GD r A B M).length≤65536:=by
  have h:=gE (r:=r) (ra:=0) (ca:=0) (rb:=0) (cb:=0) (A:=A) (B:=B) hM
  exact ⟨h.inc,h.ok,h.len⟩
def WT (n k:Int):Prop:=(0≤n∧n≤4096)∧(1≤k∧k≤8)
instance (n k:Int):Decidable (WT n k):=by unfold WT; infer_instance
def qX (i k:Int):Int:=if i<0 then 0 else if k<i then k else i
def CR (n k i:Int):Int:=if WT n k then qX i k*n / k else 0
theorem AcW {i k:Int} (h:1≤k):0≤qX i k∧qX i k≤k:=by unfold qX; split <;> (try split) <;> omega
theorem AaH {i j k:Int} (h:i≤j) (hk:1≤k):qX i k≤qX j k:=by unfold qX; split <;> split <;> (try split) <;> (try split) <;> omega
theorem AeU {i k n:Int} (hk:1≤k∧k≤8) (hn:0≤n∧n≤4096) (hi:0≤i∧i≤k):0≤i*n∧i*n≤32768:=by
  refine ⟨Int.mul_nonneg hi.1 hn.1,?_⟩
  have:=Int.mul_le_mul (show i≤8 by omega) hn.2 hn.1 (by omega)
  omega
theorem XW {n k i j:Int} (h:i≤j):CR n k i≤CR n k j:=by
  unfold CR
  by_cases hm:WT n k
  · rw [if_pos hm,if_pos hm]
    exact Int.ediv_le_ediv (by have:=hm.2; omega) (Int.mul_le_mul_of_nonneg_right (AaH h hm.2.1) hm.1.1)
  · rw [if_neg hm,if_neg hm]; exact Int.le_refl _
theorem qY (n k:Int):CR n k 0=0:=by
  unfold CR qX; split
  · rename_i hm
    have h1:=hm.2.1
    rw [if_neg (by omega),if_neg (by omega),Int.zero_mul,Int.zero_ediv]
  · rfl
theorem YR {n k:Int} (h:WT n k):CR n k k=n:=by
  unfold CR qX
  have h1:=h.2.1
  rw [if_pos h,if_neg (by omega),if_neg (by omega),Int.mul_comm,Int.mul_ediv_cancel _ (by omega)]
theorem lL {n k i:Int}:0≤CR n k i∧(0≤n→CR n k i≤n):=by
  by_cases hm:WT n k
  · have hc:=AcW (i:=i) hm.2.1
    refine ⟨?_,fun _=>?_⟩
    · unfold CR; rw [if_pos hm]; exact Int.ediv_nonneg (Int.mul_nonneg hc.1 hm.1.1) (by have:=hm.2; omega)
    · by_cases hi:i≤k
      · have:=XW (n:=n) hi (k:=k); rwa [YR hm] at this
      · have h1:=hm.2.1
        have e:CR n k i=n:=by
          unfold CR qX
          rw [if_pos hm,if_neg (by omega),if_pos (by omega),Int.mul_comm,Int.mul_ediv_cancel _ (by omega)]
        omega
  · unfold CR; rw [if_neg hm]; exact ⟨by omega,fun h=>h⟩
theorem XX {α:Type} {p q r:α→Bool}:∀ {l:List α},(∀ x∈l,r x=(p x || q x))→(∀ x∈l,¬(p x=true∧q x=true))→(l.filter p++l.filter q).Perm (l.filter r)
  | [],_,_=>by simp
  | x :: l,h,h'=>by
    have ih:=XX (fun y hy=>h y (List.mem_cons_of_mem _ hy)) (fun y hy=>h' y (List.mem_cons_of_mem _ hy))
    have hx:=h x List.mem_cons_self
    have hx':=h' x List.mem_cons_self
    cases hp:p x with
    | true=>
      cases hq:q x with
      | true=>exact absurd ⟨hp,hq⟩ hx'
      | false=>
        rw [List.filter_cons_of_pos hp,List.filter_cons_of_neg (by simp [hq]),List.filter_cons_of_pos (by rw [hx,hp]; rfl)]
        exact ih.cons x
    | false=>
      cases hq:q x with
      | true=>
        rw [List.filter_cons_of_neg (by simp [hp]),List.filter_cons_of_pos hq,List.filter_cons_of_pos (by rw [hx,hp,hq]; rfl)]
        exact List.perm_middle.trans (ih.cons x)
      | false=>
        rw [List.filter_cons_of_neg (by simp [hp]),List.filter_cons_of_neg (by simp [hq]),List.filter_cons_of_neg (by rw [hx,hp,hq]; simp)]
        exact ih
theorem XY {α:Type} {f:α→Int} {b:Nat→Int} {l:List α} (hm:∀ i j,i≤j→b i≤b j) (h0:∀ x∈l,b 0≤f x):∀ m:Nat,
    ((List.range m).flatMap fun i=>l.filter fun x=>decide (b i≤f x∧f x<b (i+1))).Perm (l.filter fun x=>decide (f x<b m))
  | 0=>by
    rw [List.filter_eq_nil_iff.2 (fun x hx=>by have:=h0 x hx; simp only [decide_eq_true_eq]; omega)]; simp
  | m+1=>by
    rw [List.range_succ,List.flatMap_append,List.flatMap_singleton]
    refine ((XY hm h0 m).append_right _).trans (XX (fun x hx=>?_) (fun x hx=>?_))
    · have:=hm m (m+1) (by omega)
      rw [Bool.eq_iff_iff]
      simp only [Bool.or_eq_true,decide_eq_true_eq]; omega
    · simp only [decide_eq_true_eq]; omega
theorem cD {α β:Type} {f g:α→List β}:∀ {l:List α},(∀ x∈l,(f x).Perm (g x))→(l.flatMap f).Perm (l.flatMap g)
  | [],_=>by simp
  | x :: l,h=>by
    rw [List.flatMap_cons,List.flatMap_cons]
    exact (h x List.mem_cons_self).append (cD fun y hy=>h y (List.mem_cons_of_mem _ hy))
theorem NR {α β:Type} {f g:α→List β} {l:List α} (h:∀ x∈l,f x=g x):l.flatMap f=l.flatMap g:=by
  induction l with
  | nil=>rfl
  | cons x l ih=>rw [List.flatMap_cons,List.flatMap_cons,h x List.mem_cons_self,ih fun y hy=>h y (List.mem_cons_of_mem _ hy)]
theorem lM {β:Type} {q:Nat} (hq:0<q) (F:Nat→Nat→List β):∀ p:Nat,((List.range (p*q)).flatMap fun k=>F (k / q) (k % q))=(List.range p).flatMap fun i=>(List.range q).flatMap fun j=>F i j
  | 0=>by simp
  | p+1=>by
    rw [Nat.succ_mul,List.range_add,List.flatMap_append,lM hq F p,List.range_succ,List.flatMap_append,List.flatMap_singleton,List.flatMap_map]
    congr 1
    refine NR fun j hj=>?_
    have hj:=List.mem_range.1 hj
    rw [Nat.mul_comm p q,Nat.mul_add_div hq,Nat.div_eq_of_lt hj,Nat.mul_add_mod,Nat.mod_eq_of_lt hj,Nat.add_zero]
def shT (a b:Int) (t:AC):AC:=⟨t.Row+a,t.Col+b,t.Val⟩
theorem AaI {l h c d:Int} {T:List AC}:(LI l h c d T).map (shT l c)=T.filter fun t=>decide ((l≤t.Row∧t.Row<h)∧(c≤t.Col∧t.Col<d)):=by
  unfold LI
  rw [List.map_map]
  conv=>rhs; rw [←List.map_id (List.filter _ T)]
  refine List.map_congr_left fun t _=>?_
  cases t; simp only [Function.comp_apply,shT,id_eq,AC.mk.injEq]; exact ⟨by omega,by omega,trivial⟩
theorem qZ {rows cols:Int} {T:List AC} (h:Canon rows cols T) {p q:Nat} (hp:WT rows p) (hq:WT cols q) :
    ((List.range p).flatMap fun i:Nat=>(List.range q).flatMap fun j:Nat=>(LI (CR rows p i) (CR rows p ((i:Int)+1)) (CR cols q j) (CR cols q ((j:Int)+1)) T).map (shT (CR rows p i) (CR cols q j))).Perm T:=by
  have e:∀ i:Nat,((List.range q).flatMap fun j:Nat=>(LI (CR rows p i) (CR rows p ((i:Int)+1)) (CR cols q j) (CR cols q ((j:Int)+1)) T).map (shT (CR rows p i) (CR cols q j))).Perm (T.filter fun t=>decide (CR rows p i≤t.Row∧t.Row<CR rows p ((i:Int)+1))):=by
    intro i
    have h1:=XY (f:=fun t:AC=>t.Col) (b:=fun j:Nat=>CR cols q j) (l:=T.filter fun t=>decide (CR rows p i≤t.Row∧t.Row<CR rows p ((i:Int)+1))) (fun i j hij=>XW (by omega)) (fun t ht=>by
      have:=(h.inn t (List.mem_filter.1 ht).1).2.2.1
      simp only [Int.natCast_zero]; rw [qY]; exact this) q
    refine List.Perm.trans (List.Perm.of_eq (NR fun j _=>?_)) (h1.trans (List.Perm.of_eq ?_))
    · rw [AaI,List.filter_filter]
      refine List.filter_congr fun t _=>?_
      rw [Bool.eq_iff_iff]
      simp only [Bool.and_eq_true,decide_eq_true_eq,Int.natCast_add,Int.natCast_one]
      exact ⟨fun h=>⟨h.2,h.1⟩,fun h=>⟨h.2,h.1⟩⟩
    · refine List.filter_eq_self.2 fun t ht=>?_
      have:=(h.inn t (List.mem_filter.1 ht).1).2.2.2
      rw [YR hq]; simpa using this
  refine (cD fun i _=>e i).trans ?_
  have h1:=XY (f:=fun t:AC=>t.Row) (b:=fun j:Nat=>CR rows p j) (l:=T) (fun i j hij=>XW (by omega)) (fun t ht=>by
    have:=(h.inn t ht).1
    simp only [Int.natCast_zero]; rw [qY]; exact this) p
  refine h1.trans (List.Perm.of_eq ?_)
  refine List.filter_eq_self.2 fun t ht=>?_
  have:=(h.inn t ht).2.1
  rw [YR hp]; simpa using this
theorem vV {P:Prop} [Decidable P] {b:Bool} {Q:Bool→Prop} (hQ:Q (decide P)) (h:b=true↔P):Q b:=by
  have:decide P=b:=by rw [Bool.eq_iff_iff,decide_eq_true_iff]; exact h.symm
  rwa [this] at hQ
theorem TT {n k:Int} {Q:Bool→Prop} (hQ:Q (decide (WT n k))):RW n k Q:=by
  unfold RW OJ
  refine AB (fun a=>AB (fun b=>AB (fun c=>vV hQ ?_) (fun c=>vV hQ ?_)) (fun b=>vV hQ ?_)) (fun a=>vV hQ ?_) <;> (unfold WT; simp; omega)
theorem IC {n k i:Int} {Q:Int→Prop} (hQ:Q (CR n k i)):FS n k i Q:=by
  unfold FS
  unfold CR at hQ
  refine TT (CN (fun h=>?_) (fun h=>?_))
  · rwa [if_neg (of_decide_eq_false h)] at hQ
  · have hm:=of_decide_eq_true h
    rw [if_pos hm] at hQ
    have e:(if k<(if 0 > i then 0 else i) then k else (if 0 > i then 0 else i))=qX i k:=by
      unfold qX; have:=hm.2; split <;> split <;> (try split) <;> (try split) <;> omega
    rw [e]
    have hb:=AeU hm.2 hm.1 (AcW (i:=i) hm.2.1)
    have hk:=hm.2
    refine ⟨by omega,?_⟩
    rw [AZ (x:=qX i k*n) (by omega) (by omega),Int.tdiv_eq_ediv_of_nonneg hb.1]
    have h1:0≤qX i k*n / k:=Int.ediv_nonneg hb.1 (by omega)
    have h2:qX i k*n / k≤qX i k*n:=Int.ediv_le_self _ hb.1
    rwa [AZ (by omega) (by omega)]
theorem AeV {n k i:Int} (h0:0≤i) (h:i<k):CR n k (AJ (i+1))=CR n k (i+1):=by
  by_cases hm:WT n k
  · have:=hm.2
    rw [AZ (by omega) (by omega)]
  · unfold CR; rw [if_neg hm,if_neg hm]
def SQ (k:Int):Prop:=1≤k∧k≤8
instance (k:Int):Decidable (SQ k):=by unfold SQ; infer_instance
def lN (r c i j:Int):Prop:=(SQ r∧SQ c)∧(0≤i∧i<r)∧0≤j∧j<c
instance (r c i j:Int):Decidable (lN r c i j):=by unfold lN; infer_instance
theorem ZN {k:Int} {Q:Bool→Prop} (hQ:Q (decide (SQ k))):RX k Q:=by
  unfold RX
  refine AB (fun a=>vV hQ ?_) (fun a=>vV hQ ?_) <;> (unfold SQ; simp; omega)
theorem kA {r c i j:Int} {Q:Bool→Prop} (hQ:Q (decide (lN r c i j))):VR r c i j Q:=by
  unfold VR
  refine ZN (AB (fun a=>ZN (AB (fun b=>AB (fun d=>AB (fun e=>AB (fun f=>vV hQ ?_) (fun f=>vV hQ ?_)) (fun e=>vV hQ ?_)) (fun d=>vV hQ ?_)) (fun b=>vV hQ ?_))) (fun a=>vV hQ ?_)) <;> (unfold lN; unfold SQ at *; simp only [Bool.false_eq_true,decide_eq_true_eq,false_iff]; omega)
theorem WR {n k i:Int} {Q:Int×Int→Prop} (h0:0≤i) (h:i<k) (hQ:Q (CR n k i,CR n k (i+1))):NF n k i Q:=by
  unfold NF
  refine IC (IC ?_)
  rw [AeV h0 h]; exact hQ
def AdJ (rows cols:Int) (T:List AC) (r c i j:Int):Rows:=if lN r c i j then nE rows cols T (CR rows r i,CR rows r (i+1)) (CR cols c j,CR cols c (j+1)) else AX 0 0 []
theorem Ac5:VA zR=AX 0 0 []:=if_neg zN
theorem AaJ:nE 0 0 [] (0,0) (0,0)=AX 0 0 []:=by decide
theorem nW {Q:Rows→Prop} (hQ:Q (AX 0 0 [])):LR zR (0,0) (0,0) Q:=by
  refine WC qB Ac5 pY ?_
  rw [AaJ]; exact hQ
theorem nX {rows cols r c i j:Int} {T:List AC} {Q:Rows→Prop} (h:Canon rows cols T) (hQ:Q (AdJ rows cols T r c i j)):RE (AX rows cols T) r c i j Q:=by
  unfold RE
  unfold AdJ at hQ
  refine bV h.sml ?_
  rw [decide_eq_true h.right]
  refine AV rfl (kA (CN (fun hg=>?_) (fun hg=>?_)))
  · rw [if_neg (of_decide_eq_false hg)] at hQ
    exact nW hQ
  · have hg:=of_decide_eq_true hg
    rw [if_pos hg] at hQ
    exact WR hg.2.1.1 hg.2.1.2 (WR hg.2.2.1 hg.2.2.2 (WC h.sml (EO h) h hQ))
def AdK (a:Rows):Prop:=a.Start.length≤1000000000000∧a.Col.length≤1000000000000
theorem dY {a:Rows} {Q:Bool→Prop} (hl:AdK a) (hQ:Q (decide (QC a))):HU a Q:=by
  by_cases hv:a.Val.length=a.Col.length
  · exact bV ⟨hl.1,hl.2,by have:=hl.2; omega⟩ hQ
  · have hno:Q false:=by rwa [decide_eq_false (fun h=>hv h.vl)] at hQ
    unfold HU
    exact IY (CN (fun _=>hno) (fun _=>IY (CN (fun _=>hno) (fun _=>DI (fun _=>hno) (fun _=>DI (fun _=>hno) (fun h=>absurd (by omega) hv))))))
theorem cE {k:Int} {Q:Bool→Prop} (hQ:Q (decide (SQ k))):OJ k Q:=by
  unfold OJ
  refine AB (fun a=>vV hQ ?_) (fun a=>vV hQ ?_) <;> (unfold SQ; simp; omega)
theorem fB {c k:Nat} {Q:Int→Prop} (hc:SQ c) (hk:k<8*c) (hQ:Q ((k / c:Nat):Int)):US c k Q:=by
  unfold US
  refine cE ?_
  rw [decide_eq_true hc]
  have hc':=hc
  unfold SQ at hc'
  refine AV rfl (AB (fun h=>by omega) (fun _=>?_))
  rw [AZ (x:=(c:Int)*8) (by omega) (by omega)]
  refine AB (fun h=>by omega) (fun _=>⟨by omega,?_⟩)
  rw [Int.tdiv_eq_ediv_of_nonneg (by omega),←Int.natCast_ediv]
  have hq:k / c≤k:=Nat.div_le_self _ _
  generalize k / c=q at hq hQ ⊢
  rwa [AZ (by omega) (by omega)]
theorem rA {c k:Nat} {Q:Int→Prop} (hc:SQ c) (hk:k<8*c) (hQ:Q ((k % c:Nat):Int)):XI c k Q:=by
  unfold XI
  have hc':=hc
  unfold SQ at hc'
  refine fB hc hk (AB (fun h=>absurd h (Int.not_lt.2 (Int.natCast_nonneg _))) (fun _=>⟨by omega,?_⟩))
  rwa [Int.tmod_eq_emod_of_nonneg (by omega),←Int.natCast_emod]
end Go.Proofs.YtbohadngdkjljaaGreat
